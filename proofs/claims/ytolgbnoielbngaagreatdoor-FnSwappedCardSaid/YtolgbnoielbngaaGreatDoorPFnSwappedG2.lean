/- Calls as contracts of the abstract walk ('Good'): arguments are looked at, results may be handed over whole and new; how a body's abstract walk gives its contract. No condition; plain lemmas. -/
import Derived.Test.YtolgbnoielbngaaGreatDoorPFnSwappedG1
import Derived.StillTail
import Derived.MapKept
set_option linter.unusedVariables false
set_option linter.unusedSimpArgs false
namespace Go.Cx
open Go.RowKit
inductive Hs(w:World):List Value->List D->List Nat->Prop
 |nil:Hs w [] [] []
 |cons (v:Value) (vs:b9) (d:D) (ds:aG) (b1 b2:aI):Rd w v d b1->Hs w vs ds b2->Hs w (v::vs) (d::ds) (b1++b2)
inductive vq(w:World):Value->D->List Nat->List Nat->List Nat->Prop
 |pure {v:Value} {d:D} {bs:aI}:Rd w v d bs->vq w v d bs [] []
 |fr (v:Value) (e sz:Nat) (rows:List aG) (cs:b9) (ns:aI):0<sz->(∀r∈rows,r.length=sz)->w.ownsRow 0 e sz v rows.length cs->qG w (ol e) 0 cs rows.flatten ns->v.oneCell'=true->
  vq w v (.fr e sz rows) [] v.ownBlock.toList (v.ownBlock.toList++ns)
 |fs (v:Value) (e sz:Nat) (rows:List aG) (cs:b9) (ns:aI):0<sz->(∀r∈rows,r.length=sz)->w.ownsRow 0 e sz v rows.length cs->iT w cs rows.flatten ns->v.oneCell'=true->
  vq w v (.fs e sz rows) ns v.ownBlock.toList v.ownBlock.toList
inductive nD(w:World):List Value->List D->List Nat->List Nat->List Nat->Prop
 |nil:nD w [] [] [] [] []
 |cons (v:Value) (vs:b9) (d:D) (ds:aG) (b1 b2 t1 t2 u1 u2:aI):v.oneCell'=true->vq w v d b1 t1 u1->nD w vs ds b2 t2 u2->nD w (v::vs) (d::ds) (b1++b2) (t1++t2) (u1++u2)
inductive xK(w:World):Value->D->List Nat->List Nat->List Nat->Prop
 |cell {v:Value} {d:D} {bs ts us:aI}:vq w v d bs ts us->xK w v d bs ts us
 |agg (cs:b9) (ds:aG) (bs ts us:aI):nD w cs ds bs ts us->xK w (.agg cs.toArray) (.agg ds) bs ts us
inductive su(w:World):List Value->List D->List Nat->List Nat->List Nat->Prop
 |nil:su w [] [] [] [] []
 |cons (v:Value) (vs:b9) (d:D) (ds:aG) (b1 b2 t1 t2 u1 u2:aI):xK w v d b1 t1 u1->su w vs ds b2 t2 u2->su w (v::vs) (d::ds) (b1++b2) (t1++t2) (u1++u2)
inductive tH(w:World):Value->D->List Nat->List Nat->List Nat->Prop
 |v {v:Value} {d:D} {bs ts us:aI}:xK w v d bs ts us->tH w v d bs ts us
 |gj (vs:b9) (ds:aG) (bs ts us:aI):su w vs ds bs ts us->tH w (.tuple vs.toArray) (.gj ds) bs ts us
def Good(P:Program)(f:FuncId)(ds:aG)(d:D):Prop:=
 (∃fn,P.funcs[f]?=some fn/\fn.body.isSome=true/\(fn.name== "runtime.NumGoroutine")=false)/\
 ∀(w:World) (Θ:Nat->Nat) (args:b9) (bs:aI),D1 w (fun _=>False)->Hs w args ds bs->(∀b∈bs,Θ b=0)->(∀b,Θ b≠0->b<w.heap.size)->(∀b,Θ b<=1)->
  Calls P f args.toArray w (fun e w'=>∃v bs' ts us,e=.returned v/\Below w.heap.size w w'/\tH w' v d bs' ts us/\(∀b∈bs',b<w.heap.size->Θ b=0)/\(∀b∈bs',b∉ts)/\us.Nodup/\
   (∀b∈us,w.heap.size<=b/\Wr w' b)/\∀b∈ts,b∈us)
def vG(n:Nat)(d:D):D×ax:=match d with
 | .fr e sz rows=>(.acc n,[.row .uq e sz rows])
 | .fs e sz rows=>(.acc n,[.row .sh e sz rows])
 |d=>(d,[])
def jP(n:Nat):aG->aG×ax
 | []=>([],[])
 |d::ds=>((vG n d).1::(jP (n+(vG n d).2.length) ds).1,(vG n d).2++(jP (n+(vG n d).2.length) ds).2)
def uA(n:Nat)(d:D):D×ax:=match d with
 | .agg cs=>(.agg (jP n cs).1,(jP n cs).2)
 |d=>vG n d
def tR(n:Nat):aG->aG×ax
 | []=>([],[])
 |d::ds=>((uA n d).1::(tR (n+(uA n d).2.length) ds).1,(uA n d).2++(tR (n+(uA n d).2.length) ds).2)
def je(n:Nat)(d:D):D×ax:=match d with
 | .gj vs=>(.gj (tR n vs).1,(tR n vs).2)
 |d=>uA n d
structure Fs where
 v:Value
 e:Nat
 sz:Nat
 rows:List aG
 cs:b9
 ns:aI
 sh:Bool
 vs:aI
def Fs.ob(x:Fs):Ob:=.row (bif x.sh then .sh else .uq) x.e x.sz x.rows
def Fs.rs(x:Fs):aI:=bif x.sh then x.vs else x.ns
def Fs.ok(w:World)(x:Fs):Prop:=0<x.sz/\(∀r∈x.rows,r.length=x.sz)/\w.ownsRow 0 x.e x.sz x.v x.rows.length x.cs/\qG w (bif x.sh then(fun _=>none)else ol x.e) 0 x.cs x.rows.flatten x.rs/\x.v.oneCell'=true
theorem Fs.ok.uq{w:World}{x:Fs}(h:x.ok w)(hs:x.sh=false):qG w (ol x.e) 0 x.cs x.rows.flatten x.ns:=by
 have:=h.2.2.2.1;unfold Fs.rs at this;rw[hs]at this;exact this
theorem Fs.Cq{x:Fs}{e sz:Nat}{rows:List aG}(h:x.ob=.row .uq e sz rows):x.sh=false/\x.e=e/\x.sz=sz/\x.rows=rows:=by
 unfold Fs.ob at h;cases hs:x.sh with
 |true=>rw[hs]at h;cases h
 |false=>rw[hs]at h;cases h;exact⟨rfl,rfl,rfl,rfl⟩
theorem Fs.rel{w:World}{κ:Nat->Option Value}{Θ:Nat->Nat}{id:Nat}{x:Fs}(h:x.ok w)(hk:κ id=some x.v)(ht:∀g,x.v.ownBlock=some g->Θ g=id+2)(hz:∀b∈x.ns,Θ b=0)(hv:x.sh=true->∀b∈x.vs,Θ b=0):oU w κ Θ id x.ob:=by
 obtain⟨q1,q2,q3,q4,_⟩:=h;unfold Fs.ob;unfold Fs.rs at q4;cases hs:x.sh with
 |true=>rw[hs]at q4;exact⟨q1,q2,x.v,x.cs,x.vs,hk,q3,q4.rd,ht,hv hs⟩
 |false=>rw[hs]at q4;exact⟨q1,q2,x.v,x.cs,x.ns,hk,q3,q4.rd,ht,hz⟩
theorem Fs.plain{w:World}{κ:Nat->Option Value}{ρ:Nat->Nat}{id:Nat}(x:Fs):Ct w κ ρ id x.ob:=by
 unfold Fs.ob;cases x.sh<;>exact Ct.wo rfl
def Fs.bl(x:Fs):aI:=x.v.ownBlock.toList++x.ns
def Fs.ts(x:Fs):aI:=x.v.ownBlock.toList
section
variable{P:Program}{Γ:oK}{Q:Exit->St->Prop}{st:St}{κ κ':Nat->Option Value}{Θ Θ':Nat->Nat}{a:Act}{w w':World}{all:Array Oper}{rest:List Oper}
def Names(κ:Nat->Option Value)(n:Nat)(L:List Fs):Prop:=∀(i:Nat) x,L[i]?=some x->κ (n+i)=some x.v
theorem Names.left{n:Nat}{L1 L2:List Fs}(h:Names κ n (L1++L2)):Names κ n L1:=fun i x hx=>h i x (by
 rw[aV (aB.1 hx).1];exact hx)
theorem Names.right{n:Nat}{L1 L2:List Fs}(h:Names κ n (L1++L2)):Names κ (n+L1.length) L2:=fun i x hx=>by
 have:=h (L1.length+i) x (by rw[aY (by omega)];simpa using hx);rw[<-this];congr 1;omega
theorem vq.inst{v:Value}{d:D}{bs ts us:aI}(h:vq w v d bs ts us)(n:Nat):
 ∃L:List Fs,L.map Fs.ob=(vG n d).2/\(∀x∈L,x.ok w)/\us=L.flatMap Fs.bl/\ts=L.flatMap Fs.ts/\(∀x∈L,x.sh=true->∀b∈x.vs,b∈bs)/\∀κ,Names κ n L->∃b0,rD w κ v (vG n d).1 b0/\∀b∈b0,b∈bs:=by
 cases h with
 |pure h=>
  have e:vG n d=(d,[]):=by cases h<;>rfl
  rw[e];exact⟨[],rfl,by simp,rfl,rfl,by simp,fun κ _=>⟨_,.pure h,fun _ h=>h⟩⟩
 |fr e sz rows cs ns h1 h2 h3 h4 h5=>
  refine⟨[⟨v,e,sz,rows,cs,ns,false,[]⟩],rfl,?_,by simp[Fs.bl],by simp[Fs.ts],by simp,fun κ hk=>⟨[],?_,by simp⟩⟩
  ·intro x hx;simp at hx;subst hx;exact⟨h1,h2,h3,h4,h5⟩
  ·exact .acc n v (by simpa using hk 0 _ rfl)
 |fs e sz rows cs ns h1 h2 h3 h4 h5=>
  refine⟨[⟨v,e,sz,rows,cs,[],true,bs⟩],rfl,?_,by simp[Fs.bl],by simp[Fs.ts],fun x hx _ b hb=>?_,fun κ hk=>⟨[],?_,by simp⟩⟩
  ·intro x hx;simp at hx;subst hx;exact⟨h1,h2,h3,.of h4 (fun _=>rfl),h5⟩
  ·simp at hx;subst hx;exact hb
  ·exact .acc n v (by simpa using hk 0 _ rfl)
theorem nD.inst{vs:b9}{ds:aG}{bs ts us:aI}(h:nD w vs ds bs ts us)(n:Nat):
 ∃L:List Fs,L.map Fs.ob=(jP n ds).2/\(∀x∈L,x.ok w)/\us=L.flatMap Fs.bl/\ts=L.flatMap Fs.ts/\(∀x∈L,x.sh=true->∀b∈x.vs,b∈bs)/\∀κ,Names κ n L->∃b0,dQ w κ vs (jP n ds).1 b0/\∀b∈b0,b∈bs:=by
 induction h generalizing n with
 |nil=>exact⟨[],rfl,by simp,rfl,rfl,by simp,fun κ _=>⟨_,.nil,fun _ h=>h⟩⟩
 |cons v vs d ds b1 b2 t1 t2 u1 u2 h1 h2 _ ih=>
  obtain⟨L1,q1,q2,q3,q4,q6,q5⟩:=h2.inst n;obtain⟨L2,p1,p2,p3,p4,p6,p5⟩:=ih (n+(vG n d).2.length);have hl:L1.length=(vG n d).2.length:=by rw[<-q1];simp
  refine⟨L1++L2,by simp[jP,q1,p1],?_,by simp[q3,p3],by simp[q4,p4],fun x hx hs b hb=>?_,fun κ hk=>?_⟩
  ·intro x hx;rcases aH.1 hx with hx|hx
   ·exact q2 x hx
   ·exact p2 x hx
  ·rcases aH.1 hx with hx|hx
   ·exact aH.2 (.inl (q6 x hx hs b hb))
   ·exact aH.2 (.inr (p6 x hx hs b hb))
  ·obtain⟨c1,r1,s1⟩:=q5 κ hk.left;obtain⟨c2,r2,s2⟩:=p5 κ (by rw[<-hl];exact hk.right);refine⟨_,.cons _ _ _ _ _ _ h1 r1 r2,fun b hb=>?_⟩;rcases aH.1 hb with hb|hb
   ·exact aH.2 (.inl (s1 b hb))
   ·exact aH.2 (.inr (s2 b hb))
theorem xK.inst{v:Value}{d:D}{bs ts us:aI}(h:xK w v d bs ts us)(n:Nat):
 ∃L:List Fs,L.map Fs.ob=(uA n d).2/\(∀x∈L,x.ok w)/\us=L.flatMap Fs.bl/\ts=L.flatMap Fs.ts/\(∀x∈L,x.sh=true->∀b∈x.vs,b∈bs)/\∀κ,Names κ n L->∃b0,C1 w κ v (uA n d).1 b0/\∀b∈b0,b∈bs:=by
 cases h with
 |cell h=>
  by_cases mr:∃ds,d=.agg ds
  ·obtain⟨ds,rfl⟩:=mr;cases h with
   |pure h=>
    cases h with
    |agg cs _ _ h=>
     have:∀(vs:b9) (es:aG) (b:aI),iT w vs es b->∀n,(jP n es).1=es/\(jP n es).2=[]:=by
      intro vs es
      induction es generalizing vs with
      |nil=>intro b _ n;exact⟨rfl,rfl⟩
      |cons e es ih=>
       intro b hh n;cases hh with
       |cons v vs _ _ b1 b2 _ h2 h3=>
        have e1:vG n e=(e,[]):=by cases h2<;>rfl
        have:=ih vs b2 h3 n;simp[jP,e1,this]
     obtain⟨e1,e2⟩:=this _ _ _ h n;refine⟨[],by simp[uA,e2],by simp,rfl,rfl,by simp,fun κ _=>⟨_,?_,fun _ h=>h⟩⟩;simp only[uA,e1];exact .agg _ _ _ (dQ.vH h)
  ·have e:uA n d=vG n d:=by cases d<;>first|rfl|exact absurd ⟨_,rfl⟩ mr
   rw[e];obtain⟨L,q1,q2,q3,q4,q6,q5⟩:=h.inst n;exact⟨L,q1,q2,q3,q4,q6,fun κ hk=>by obtain⟨c,r,s⟩:=q5 κ hk;exact⟨c,.cell r,s⟩⟩
 |agg cs ds bs ts us h=>
  obtain⟨L,q1,q2,q3,q4,q6,q5⟩:=h.inst n;exact⟨L,q1,q2,q3,q4,q6,fun κ hk=>by obtain⟨c,r,s⟩:=q5 κ hk;exact⟨c,.agg _ _ _ r,s⟩⟩
theorem su.inst{vs:b9}{ds:aG}{bs ts us:aI}(h:su w vs ds bs ts us)(n:Nat):
 ∃L:List Fs,L.map Fs.ob=(tR n ds).2/\(∀x∈L,x.ok w)/\us=L.flatMap Fs.bl/\ts=L.flatMap Fs.ts/\(∀x∈L,x.sh=true->∀b∈x.vs,b∈bs)/\∀κ,Names κ n L->∃b0,uZ w κ vs (tR n ds).1 b0/\∀b∈b0,b∈bs:=by
 induction h generalizing n with
 |nil=>exact⟨[],rfl,by simp,rfl,rfl,by simp,fun κ _=>⟨_,.nil,fun _ h=>h⟩⟩
 |cons v vs d ds b1 b2 t1 t2 u1 u2 h2 _ ih=>
  obtain⟨L1,q1,q2,q3,q4,q6,q5⟩:=h2.inst n;obtain⟨L2,p1,p2,p3,p4,p6,p5⟩:=ih (n+(uA n d).2.length);have hl:L1.length=(uA n d).2.length:=by rw[<-q1];simp
  refine⟨L1++L2,by simp[tR,q1,p1],?_,by simp[q3,p3],by simp[q4,p4],fun x hx hs b hb=>?_,fun κ hk=>?_⟩
  ·intro x hx;rcases aH.1 hx with hx|hx
   ·exact q2 x hx
   ·exact p2 x hx
  ·rcases aH.1 hx with hx|hx
   ·exact aH.2 (.inl (q6 x hx hs b hb))
   ·exact aH.2 (.inr (p6 x hx hs b hb))
  ·obtain⟨c1,r1,s1⟩:=q5 κ hk.left;obtain⟨c2,r2,s2⟩:=p5 κ (by rw[<-hl];exact hk.right);refine⟨_,.cons _ _ _ _ _ _ r1 r2,fun b hb=>?_⟩;rcases aH.1 hb with hb|hb
   ·exact aH.2 (.inl (s1 b hb))
   ·exact aH.2 (.inr (s2 b hb))
theorem tH.inst{v:Value}{d:D}{bs ts us:aI}(h:tH w v d bs ts us)(n:Nat):
 ∃L:List Fs,L.map Fs.ob=(je n d).2/\(∀x∈L,x.ok w)/\us=L.flatMap Fs.bl/\ts=L.flatMap Fs.ts/\(∀x∈L,x.sh=true->∀b∈x.vs,b∈bs)/\∀κ,Names κ n L->∃b0,lf w κ v (je n d).1 b0/\∀b∈b0,b∈bs:=by
 cases h with
 |v h=>
  have hnt:∀vs,d≠ .gj vs:=by
   intro vs e;subst e;cases h with
   |cell h=>cases h with|pure h=>cases h
  have e:je n d=uA n d:=by cases d<;>first|rfl|exact absurd rfl (hnt _)
  rw[e];obtain⟨L,q1,q2,q3,q4,q6,q5⟩:=h.inst n;exact⟨L,q1,q2,q3,q4,q6,fun κ hk=>by obtain⟨c,r,s⟩:=q5 κ hk;exact⟨c,.v r,s⟩⟩
 |gj vs ds bs ts us h=>
  obtain⟨L,q1,q2,q3,q4,q6,q5⟩:=h.inst n;exact⟨L,q1,q2,q3,q4,q6,fun κ hk=>by obtain⟨c,r,s⟩:=q5 κ hk;exact⟨c,.gj _ _ _ r,s⟩⟩
theorem F4{v:Value}{d:D}{bs ts us:aI}(h:vq w v d bs ts us):∀b∈ts,Wr w b:=by
 cases h with
 |pure=>simp
 |fr e sz rows cs ns h1 h2 h3 h4 h5=>
  intro b hb;simp only[ew]at hb;rcases h3.2 with⟨rfl,_⟩|⟨g,cap,cur,rfl,_,hg,_⟩
  ·simp[Value.ownBlock]at hb
  ·simp[Value.ownBlock]at hb;subst hb;exact⟨_,_,hg⟩
 |fs e sz rows cs ns h1 h2 h3 h4 h5=>
  intro b hb;simp only[ew]at hb;rcases h3.2 with⟨rfl,_⟩|⟨g,cap,cur,rfl,_,hg,_⟩
  ·simp[Value.ownBlock]at hb
  ·simp[Value.ownBlock]at hb;subst hb;exact⟨_,_,hg⟩
theorem Iv{vs:b9}{ds:aG}{bs ts us:aI}(h:nD w vs ds bs ts us):∀b∈ts,Wr w b:=by
 induction h with
 |nil=>simp
 |cons v vs d ds b1 b2 t1 t2 u1 u2 h1 h2 _ ih=>
  intro b hb;rcases aH.1 hb with hb|hb
  ·exact F4 h2 b hb
  ·exact ih b hb
theorem C3{v:Value}{d:D}{bs ts us:aI}(h:xK w v d bs ts us):∀b∈ts,Wr w b:=by
 cases h with
 |cell h=>exact F4 h
 |agg cs ds bs ts us h=>exact Iv h
theorem AY{vs:b9}{ds:aG}{bs ts us:aI}(h:su w vs ds bs ts us):∀b∈ts,Wr w b:=by
 induction h with
 |nil=>simp
 |cons v vs d ds b1 b2 t1 t2 u1 u2 h2 _ ih=>
  intro b hb;rcases aH.1 hb with hb|hb
  ·exact C3 h2 b hb
  ·exact ih b hb
theorem C2{v:Value}{d:D}{bs ts us:aI}(h:tH w v d bs ts us):∀b∈ts,Wr w b:=by
 cases h with
 |v h=>exact C3 h
 |gj vs ds bs ts us h=>exact AY h
def ix{α:Type}(p:α->Bool):List α->Option Nat
 | []=>none
 |x::r=>if p x then some 0 else(ix p r).map (· +1)
theorem rG{α:Type}{p:α->Bool}:∀ {l:List α} {i:Nat},ix p l=some i->∃x,l[i]?=some x/\p x=true:=by
 intro l
 induction l with
 |nil=>intro i h;cases h
 |cons x r ih=>
  intro i h;simp only[ix]at h;split at h
  ·cases h;exact⟨x,rfl,by assumption⟩
  ·cases hr:ix p r with
   |none=>simp[hr]at h
   |some j=>simp[hr]at h;subst h;simpa using ih hr
theorem wg{α:Type}{p:α->Bool}:∀ {l:List α} {i:Nat} {x:α},l[i]?=some x->p x=true->(∀(j:Nat) y,l[j]?=some y->p y=true->j=i)->ix p l=some i:=by
 intro l
 induction l with
 |nil=>intro i x h;simp at h
 |cons y r ih=>
  intro i x h hp hu;simp only[ix];split
  ·rename_i hy;rw[hu 0 y rfl hy]
  ·rename_i hy;cases i with
   |zero=>simp at h;subst h;exact absurd hp hy
   |succ i=>
    rw[ih (by simpa using h) hp (fun j z hz Mt=>by have:=hu (j+1) z (by simpa using hz) Mt;omega)];rfl
theorem oZ{α:Type}{f:α->aI}:∀ {l:List α},(l.flatMap f).Nodup->∀(i j:Nat) x y b,l[i]?=some x->l[j]?=some y->b∈f x->b∈f y->i=j:=by
 intro l
 induction l with
 |nil=>intro _ i j x y b hi;simp at hi
 |cons z r ih=>
  intro hnd i j x y b hi hj tT hby;simp only[cy]at hnd;obtain⟨n1,n2,n3⟩:=aq.1 hnd;cases i with
  |zero=>
   simp at hi;subst hi;cases j with
   |zero=>rfl
   |succ j=>
    simp at hj;exact absurd rfl (n3 b tT b (bI.2 ⟨y,aE hj,hby⟩))
  |succ i=>
   simp at hi;cases j with
   |zero=>
    simp at hj;subst hj;exact absurd rfl (n3 b hby b (bI.2 ⟨x,aE hi,tT⟩))
   |succ j=>simp at hj;rw[ih n2 i j x y b hi hj tT hby]
theorem cX.DW(hs:cX Γ st κ Θ a w)(hb:Below w.heap.size w w')(L:List Fs)(hL:∀x∈L,x.ok w')(hnd:(L.flatMap Fs.bl).Nodup)(hfr:∀b∈L.flatMap Fs.bl,w.heap.size<=b/\Wr w' b)(hvs:∀x∈L,x.sh=true->∀b∈x.vs,Θ b=0/\b∉L.flatMap Fs.ts)
 (n:Nat) (H':ax) (hfree:∀i,i<L.length->κ (n+i)=none) (hlen':st.H.length<=H'.length) (hin:n+L.length<=H'.length)
 (key:∀(j:Nat) y,H'[j]?=some y->(∃i x,j=n+i/\L[i]?=some x/\y=x.ob)\/((j<n\/n+L.length<=j)/\(y=.gone\/st.H[j]?=some y))):
 ∃κ' Θ',cX Γ ⟨st.σ,H'⟩ κ' Θ' a w'/\Names κ' n L/\(∀(j:Nat) v,κ j=some v->κ' j=some v)/\(∀b,b∉L.flatMap Fs.ts->Θ' b=Θ b)/\(∀j,(j<n\/n+L.length<=j)->κ' j=κ j):=by
 let κ':Nat->Option Value:=fun j=>if j<n\/n+L.length<=j then κ j else(L[j-n]?).map Fs.v
 let Θ':Nat->Nat:=fun b=>match ix (fun x:Fs=>x.v.ownBlock==some b) L with|some i=>n+i+2|none=>Θ b
 have hu1:∀(i j:Nat) x y b,L[i]?=some x->L[j]?=some y->b∈x.bl->b∈y.bl->i=j:=fun i j x y b=>oZ hnd i j x y b
 have hts:∀(i:Nat) x b,L[i]?=some x->x.v.ownBlock=some b->Θ' b=n+i+2:=by
  intro i x b hi Jp;have:ix (fun x:Fs=>x.v.ownBlock==some b) L=some i:=wg hi (by simp[Jp]) (fun j y hj hy=>by
   simp only[cD]at hy;exact hu1 j i y x b hj hi (by simp[Fs.bl,hy]) (by simp[Fs.bl,Jp]))
  simp only[Θ',this]
 have hno:∀b,b∉L.flatMap Fs.ts->Θ' b=Θ b:=by
  intro b hb';simp only[Θ'];cases h:ix (fun x:Fs=>x.v.ownBlock==some b) L with
  |none=>rfl
  |some i=>
   obtain⟨x,hx,hp⟩:=rG h;exact absurd (bI.2 ⟨x,aE hx,by simp only[cD]at hp;simp[Fs.ts,hp]⟩) hb'
 have hsub:∀b,b∈L.flatMap Fs.ts->b∈L.flatMap Fs.bl:=by
  intro b h;obtain⟨x,hx,tT⟩:=bI.1 h;exact bI.2 ⟨x,hx,by simp only[Fs.bl,Fs.ts]at tT⊢;exact aH.2 (.inl tT)⟩
 have hold:∀b,b<w.heap.size->Θ' b=Θ b:=fun b hlt=>hno b (fun h=>by have:=(hfr b (hsub b h)).1;omega)
 have hzero:∀b,w.heap.size<=b->Θ b=0:=fun b hge=>by
  cases h:Θ b with
  |zero=>rfl
  |succ m=>exact absurd (hs.own b (by omega)) (by omega)
 have hn:∀(j:Nat) v,κ j=some v->κ' j=some v:=by
  intro j v hj;have:j<n\/n+L.length<=j:=by
   rcases cg j n with h|h
   ·exact .inl h
   ·rcases cg j (n+L.length)with h2|h2
    ·have:=hfree (j-n) (by omega);rw[show n+(j-n)=j from by omega,hj]at this;cases this
    ·exact .inr h2
  simp only[κ'];rw[av this];exact hj
 have oR:Names κ' n L:=by
  intro i x hx;have hlt:=(aB.1 hx).1;simp only[κ'];rw[ai (by omega),cR,hx];rfl
 have Xo:∀b,Θ' b≠0->Θ b≠0\/b∈L.flatMap Fs.bl:=by
  intro b h;by_cases SP:b∈L.flatMap Fs.ts
  ·exact .inr (hsub b SP)
  ·rw[hno b SP]at h;exact .inl h
 have k:fD w w' Θ Θ' (H'.length+2):=by
  refine⟨by omega,hb.os,hb.tape,hb.output,hb.size,fun b hlt _=>hb.block b hlt,fun b hlt _=>hold b hlt,fun b h=>?_⟩;rcases Xo b h with h|h
  ·exact cK (hs.own b h) hb.size
  ·obtain⟨cs,T,hx⟩:=(hfr b h).2;exact(aX.1 hx).1
 have hm:∀b,2<=Θ' b->rC Γ b:=by
  intro b h;by_cases SP:b∈L.flatMap Fs.ts
  ·exact .inl (dZ hs.base (hfr b (hsub b SP)).1)
  ·rw[hno b SP]at h;exact hs.mine b h
 obtain⟨ρ,hu⟩:=hs.mi;have mw:=hs.jh k hn hu;let ρ':Nat->Nat:=fun b=>match ix (fun x:Fs=>x.ns.contains b) L with|some i=>n+i+1|none=>ρ b
 have YG:∀(i:Nat) x b,L[i]?=some x->b∈x.ns->ρ' b=n+i+1:=by
  intro i x b hi Jp;have:ix (fun x:Fs=>x.ns.contains b) L=some i:=wg hi (by simpa using Jp) (fun j y hj hy=>by
   exact hu1 j i y x b hj hi (by simp only[Fs.bl];exact aH.2 (.inr (by simpa using hy))) (by simp only[Fs.bl];exact aH.2 (.inr Jp)))
  simp only[ρ',this]
 have qX:∀(i:Nat) x b,L[i]?=some x->b∈x.ns->Θ' b=0:=by
  intro i x b hi Jp;have hmem:b∈L.flatMap Fs.bl:=bI.2 ⟨x,aE hi,by simp only[Fs.bl];exact aH.2 (.inr Jp)⟩;rw[hno b ?_]
  ·exact hzero b (hfr b hmem).1
  ·intro h;obtain⟨y,hy,hby⟩:=bI.1 h;obtain⟨j,hj⟩:=gS hy;have:=hu1 j i y x b hj hi (by simp only[Fs.bl,Fs.ts]at hby⊢;exact aH.2 (.inl hby)) (by simp only[Fs.bl];exact aH.2 (.inr Jp));subst this;rw[hj]at hi;cases hi;have B2:x.bl.Nodup:=by
    have:∀(l:List Fs),(l.flatMap Fs.bl).Nodup->∀x∈l,x.bl.Nodup:=by
     intro l
     induction l with
     |nil=>intro _ x hx;cases hx
     |cons z r ih=>
      intro hnd x hx;simp only[cy]at hnd;obtain⟨n1,n2,_⟩:=aq.1 hnd;rcases au.1 hx with rfl|hx
      ·exact n1
      ·exact ih n2 x hx
    exact this L hnd x hy
   simp only[Fs.bl]at B2;exact(aq.1 B2).2.2 b hby b Jp rfl
 have hlen:∀i,H'.length<=i->κ' i=none:=by
  intro i hi;simp only[κ'];rw[av (by omega)];exact hs.kQ i (by omega)
 have CM:∀(j:Nat) y,H'[j]?=some y->j+2≠H'.length+2:=fun j y hj=>by
  have:=(aB.1 hj).1;omega
 refine⟨κ',Θ',?_,oR,hn,hno,fun j hj=>av hj⟩;have BN:∀b,b<w.heap.size->ρ' b=ρ b:=by
  intro b hlt';simp only[ρ'];cases hi:ix (fun x:Fs=>x.ns.contains b) L with
  |none=>rfl
  |some i=>
   obtain⟨x,hx,hp⟩:=rG hi;have:=(hfr b (bI.2 ⟨x,aE hx,by simp only[Fs.bl];exact aH.2 (.inr (by simpa using hp))⟩)).1;omega
 have Ov:∀b,ρ b≠0->b<w.heap.size:=fun b hb'=>by
  obtain⟨_,_,cs',T,hx⟩:=hu.free b hb';exact(aX.1 hx).1
 refine hs.step k hm hn hlen ?_ ?_ ⟨ρ',?_,?_,?_⟩
 ·intro i u om;simp only[κ']at om;split at om
  ·exact hs.kC i u om
  ·cases hx:L[i-n]? with
   |none=>simp[hx]at om
   |some x=>simp[hx]at om;subst om;exact(hL x (aE hx)).2.2.2.2
 ·intro j y hj;have hjl:=CM j y hj;rcases key j y hj with⟨i,x,rfl,hx,rfl⟩|⟨hlt,hy|hy⟩
  ·refine .inr (.inr (Fs.rel (hL x (aE hx)) (oR i x hx) (fun g hg=>hts i x g hx hg) (fun b hb'=>qX i x b hx hb') fun hs' b hb'=>?_));obtain⟨e1,e2⟩:=hvs x (aE hx) hs' b hb';rw[hno b e2];exact e1
  ·exact .inl hy
  ·exact .inr (.inl ⟨hjl,hy⟩)
 ·intro b hb';by_cases h:∃(i:Nat) (x:Fs),L[i]?=some x/\b∈x.ns
  ·obtain⟨i,x,hx,tT⟩:=h;have hmem:b∈L.flatMap Fs.bl:=bI.2 ⟨x,aE hx,by simp only[Fs.bl];exact aH.2 (.inr tT)⟩;exact⟨qX i x b hx tT,.inl (.inl (dZ hs.base (hfr b hmem).1)),(hfr b hmem).2⟩
  ·have:ρ' b=ρ b:=by
    simp only[ρ'];cases hi:ix (fun x:Fs=>x.ns.contains b) L with
    |none=>rfl
    |some i=>
     obtain⟨x,hx,hp⟩:=rG hi;exact absurd ⟨i,x,hx,by simpa using hp⟩ h
   rw[this]at hb';exact mw.1 b hb'
 ·intro j e sz rows hj;have hjl:=CM j _ hj;rcases key j _ hj with⟨i,x,rfl,hx,hy⟩|⟨hlt,hy|hy⟩
  ·obtain⟨hsh,rfl,rfl,rfl⟩:=Fs.Cq hy.symm;have hok:=hL x (aE hx);have q4:=hok.uq hsh;obtain⟨q1,q2,q3,_,_⟩:=hok;have B2:x.ns.Nodup:=by
    have:∀(l:List Fs),(l.flatMap Fs.bl).Nodup->∀x∈l,x.bl.Nodup:=by
     intro l
     induction l with
     |nil=>intro _ x hx;cases hx
     |cons z r ih=>
      intro hnd x hx;simp only[cy]at hnd;obtain⟨n1,n2,_⟩:=aq.1 hnd;rcases au.1 hx with rfl|hx
      ·exact n1
      ·exact ih n2 x hx
    exact(aq.1 (this L hnd x (aE hx))).2.1
   exact⟨x.v,x.cs,x.ns,oR i x hx,q3,q4,B2,fun b hb'=>YG i x b hx hb'⟩
  ·cases hy
  ·obtain⟨v,cs,bs,q1,q2,q3,q4,q5⟩:=mw.2.1 j e sz rows hjl hy;exact⟨v,cs,bs,q1,q2,q3,q4,fun b hb'=>(BN b (Ov b (by rw[q5 b hb'];omega))).trans (q5 b hb')⟩
 ·intro j y hj;have hjl:=CM j _ hj;rcases key j _ hj with⟨i,x,rfl,hx,hy⟩|⟨hlt,hy|hy⟩
  ·subst hy;exact Fs.plain x
  ·subst hy;trivial
  ·exact(mw.2.2 j y hjl hy).re fun b hb'=>(BN b (Ov b (by omega))).trans hb'
theorem cX.Nr(hs:cX Γ st κ Θ a w)(hb:Below w.heap.size w w')(L:List Fs)(hL:∀x∈L,x.ok w')(hnd:(L.flatMap Fs.bl).Nodup)(hfr:∀b∈L.flatMap Fs.bl,w.heap.size<=b/\Wr w' b)(hvs:∀x∈L,x.sh=true->∀b∈x.vs,Θ b=0/\b∉L.flatMap Fs.ts):
 ∃κ' Θ',cX Γ ⟨st.σ,st.H++L.map Fs.ob⟩ κ' Θ' a w'/\Names κ' st.H.length L/\(∀(j:Nat) v,κ j=some v->κ' j=some v)/\(∀b,b∉L.flatMap Fs.ts->Θ' b=Θ b):=by
 obtain⟨κ',Θ',h1,h2,h3,h4,_⟩:=hs.DW hb L hL hnd hfr hvs st.H.length (st.H++L.map Fs.ob) (fun i _=>hs.kQ _ (by omega)) (by simp) (by simp) (by
  intro j y hj;by_cases hlt:j<st.H.length
  ·rw[aV hlt]at hj;exact .inr ⟨.inl hlt,.inr hj⟩
  ·rw[aY (by omega),bS]at hj;cases hx:L[j-st.H.length]? with
   |none=>simp[hx]at hj
   |some x=>simp[hx]at hj;exact .inl ⟨j-st.H.length,x,by omega,hx,hj.symm⟩)
 exact⟨κ',Θ',h1,h2,h3,h4⟩
def Jr(H:ax)(d:D):Option (D×aI):=match d with
 | .acc m=>(match H[m]? with|some (.row _ _ _ rows)=>some (.sl rows,[m])|some (.pK _ rows _)=>some (.sl rows,[m])|some (.tk rows)=>some (.sl rows,[])|_=>none)
 | .ptr _ _=>none
 | .op _ _ _ _=>none
 |d=>some (d.uJ,[])
def GD(H:ax):aG->Option (aG×aI)
 | []=>some ([],[])
 |d::ds=>match Jr H d,GD H ds with|some (e,m),some (es,ms)=>some (e::es,m++ms)|_,_=>none
def Mm(H:ax)(d:D):Option (D×aI):=match d with
 | .agg cs=>(match GD H cs with|some (es,ms)=>some (.agg es,ms)|none=>none)
 | .gj _=>none
 |d=>Jr H d
def yA(H:ax):aG->Option (aG×aI)
 | []=>some ([],[])
 |d::ds=>match Mm H d,yA H ds with|some (e,m),some (es,ms)=>some (e::es,m++ms)|_,_=>none
def Seen(Θ:Nat->Nat)(ms:aI)(b:Nat):Prop:=Θ b=0\/∃m∈ms,Θ b=m+2
theorem Seen.mono{ms ns:aI}{b:Nat}(h:Seen Θ ms b)(hs:∀m∈ms,m∈ns):Seen Θ ns b:=by
 rcases h with h|⟨m,h1,h2⟩
 ·exact .inl h
 ·exact .inr ⟨m,hs m h1,h2⟩
theorem Ml(hs:cX Γ st κ Θ a w){v:Value}{d e:D}{bs:aI}{ms:aI}(h:Jr st.H d=some (e,ms))(hr:rD w κ v d bs)(hz:∀b∈bs,Θ b=0):∃b',Rd w v e b'/\∀b∈b',Seen Θ ms b:=by
 cases hr with
 |pure hr=>
  have:Jr st.H d=some (d.uJ,[]):=by cases hr<;>rfl
  rw[this]at h;cases h;exact⟨bs,hr.soft,fun b hb=>.inl (hz b hb)⟩
 |acc m _ hk=>
  simp only[Jr]at h;split at h
  ·rename_i k e' sz rows hH;cases h;obtain⟨_,hrl,v2,cs,b2,hk2,hown,hrs,hΘ,hd⟩:=hs.ob m _ hH;rw[hk]at hk2;cases hk2;refine⟨_,mC hrl hown hrs,fun b hb=>?_⟩;rcases aH.1 hb with hb|hb
   ·simp only[ew]at hb;exact .inr ⟨m,by simp,hΘ b hb⟩
   ·cases k with
    |cl=>exact .inr ⟨m,by simp,(hd.2.1 b hb).1⟩
    |sh=>exact .inl (hd b hb)
    |uq=>exact .inl (hd b hb)
    |mv n=>exact .inl (hd b hb)
    |ho p n=>exact .inl (hd b hb)
  ·rename_i sz rows u hH;cases h;obtain⟨_,_,v2,b2,hk2,hrd,_,vh⟩:=hs.ob m _ hH;rw[hk]at hk2;cases hk2;exact⟨b2,hrd,fun b hb=>.inr ⟨m,by simp,(vh b hb).1⟩⟩
  ·rename_i rows hH;cases h;obtain⟨v2,b2,hk2,hrd,Gx⟩:=hs.ob m _ hH;rw[hk]at hk2;cases hk2;exact⟨b2,hrd,fun b hb=>.inl (Gx b hb)⟩
  ·cases h
 |ptr=>simp[Jr]at h
 |op=>simp[Jr]at h
theorem OW(hs:cX Γ st κ Θ a w):∀ {ds es:aG} {vs:b9} {bs ms:aI},GD st.H ds=some (es,ms)->dQ w κ vs ds bs->(∀b∈bs,Θ b=0)->∃b',iT w vs es b'/\∀b∈b',Seen Θ ms b:=by
 intro ds
 induction ds with
 |nil=>
  intro es vs bs ms h hr _;simp only[GD,aS,bq]at h;obtain⟨rfl,rfl⟩:=h;cases hr;exact⟨[],.nil,by simp⟩
 |cons d ds ih=>
  intro es vs bs ms h hr hz;simp only[GD]at h;split at h
  ·rename_i e m es' ms' h1 h2;cases h;cases hr with
   |cons v vs _ _ b1 b2 hv hc hcs=>
    obtain⟨c1,q1,q2⟩:=Ml hs h1 hc (fun b hb=>hz b (by simp[hb]));obtain⟨c2,p1,p2⟩:=ih h2 hcs (fun b hb=>hz b (by simp[hb]));refine⟨c1++c2,.cons _ _ _ _ _ _ hv q1 p1,fun b hb=>?_⟩;rcases aH.1 hb with hb|hb
    ·exact(q2 b hb).mono (fun m hm=>by simp[hm])
    ·exact(p2 b hb).mono (fun m hm=>by simp[hm])
  ·cases h
theorem Rg(hs:cX Γ st κ Θ a w){v:Value}{d e:D}{bs ms:aI}(h:Mm st.H d=some (e,ms))(hr:lf w κ v d bs)(hz:∀b∈bs,Θ b=0):∃b',Rd w v e b'/\∀b∈b',Seen Θ ms b:=by
 by_cases mr:∃ds,d=.agg ds
 ·obtain⟨ds,rfl⟩:=mr;obtain⟨cs,rfl,hcs⟩:=hr.xC;simp only[Mm]at h;split at h
  ·rename_i es ms' h1;cases h;obtain⟨b',q1,q2⟩:=OW hs h1 hcs hz;exact⟨b',.agg _ _ _ q1,q2⟩
  ·cases h
 ·have hc:rD w κ v d bs:=by
   cases hr with
   |v hr=>cases hr with
    |cell hr=>exact hr
    |agg=>exact absurd ⟨_,rfl⟩ mr
   |gj=>simp[Mm]at h
  have e1:Mm st.H d=Jr st.H d:=by
   cases d<;>first|rfl|exact absurd ⟨_,rfl⟩ mr|simp[Mm]at h
  rw[e1]at h;exact Ml hs h hc hz
theorem Bx(hs:cX Γ st κ Θ a w):∀ {xs:List Operand} {es:aG} {ms:aI},yA st.H (xs.map st.ev)=some (es,ms)->∃b',Hs w (xs.map a.eval) es b'/\∀b∈b',Seen Θ ms b:=by
 intro xs
 induction xs with
 |nil=>
  intro es ms h;simp only[bV,yA,aS,bq]at h;obtain⟨rfl,rfl⟩:=h;exact⟨[],.nil,by simp⟩
 |cons x xs ih=>
  intro es ms h;simp only[b8,yA]at h;split at h
  ·rename_i e m es' ms' h1 h2;cases h;obtain⟨b0,r0,z0⟩:=hs.ev x;obtain⟨c1,q1,q2⟩:=Rg hs h1 r0 z0;obtain⟨c2,p1,p2⟩:=ih h2;refine⟨c1++c2,.cons _ _ _ _ _ _ q1 p1,fun b hb=>?_⟩;rcases aH.1 hb with hb|hb
   ·exact(q2 b hb).mono (fun m hm=>by simp[hm])
   ·exact(p2 b hb).mono (fun m hm=>by simp[hm])
  ·cases h
def D.Mz(d:D):D:=match d with
 | .fr _ _ rows=>.sl rows
 | .fs _ _ rows=>.sl rows
 |d=>d
def D.N0(d:D):D:=match d with
 | .agg cs=>.agg (cs.map D.Mz)
 |d=>d.Mz
theorem nD.vH{w:World}:∀ {ds:aG} {vs:b9} {bs:aI},iT w vs ds bs->nD w vs ds bs [] []:=by
 intro ds
 induction ds with
 |nil=>intro vs bs h;cases h;exact .nil
 |cons d ds ih=>
  intro vs bs h;cases h with
  |cons v vs _ _ b1 b2 h1 h2 h3=>exact .cons _ _ _ _ _ _ [] [] [] [] h1 (.pure h2) (ih h3)
theorem vq.uz{w:World}{v:Value}{d:D}{bs ts us:aI}(h:vq w v d bs ts us):∃b,Rd w v d.Mz b/\∀x∈b,x∈bs\/x∈us:=by
 cases h with
 |pure h=>
  have e:d.Mz=d:=by cases h<;>rfl
  exact⟨_,e.symm▸h,fun x hx=>.inl hx⟩
 |fr e sz rows cs ns h1 h2 h3 h4 h5=>exact⟨_,mC h2 h3 h4.rd,fun x hx=>.inr hx⟩
 |fs e sz rows cs ns h1 h2 h3 h4 h5=>exact⟨_,mC h2 h3 h4,fun x hx=>(aH.1 hx).symm⟩
theorem nD.uz{w:World}{vs:b9}{ds:aG}{bs ts us:aI}(h:nD w vs ds bs ts us):∃b,iT w vs (ds.map D.Mz) b/\∀x∈b,x∈bs\/x∈us:=by
 induction h with
 |nil=>exact⟨_,.nil,by simp⟩
 |cons v vs d ds b1 b2 t1 t2 u1 u2 h1 h2 _ ih=>
  obtain⟨b,q,s⟩:=h2.uz;obtain⟨b',q',s'⟩:=ih;refine⟨_,.cons _ _ _ _ _ _ h1 q q',fun x hx=>?_⟩;rcases aH.1 hx with h|h
  ·rcases s x h with h|h<;>simp[h]
  ·rcases s' x h with h|h<;>simp[h]
theorem xK.uz{w:World}{v:Value}{d:D}{bs ts us:aI}(h:xK w v d bs ts us):∃b,Rd w v d.N0 b/\∀x∈b,x∈bs\/x∈us:=by
 cases h with
 |cell h=>
  by_cases mr:∃ds,d=.agg ds
  ·obtain⟨ds,rfl⟩:=mr;cases h with
   |pure h=>cases h with
    |agg cs _ _ h=>
     obtain⟨b,q,s⟩:=(nD.vH h).uz;exact⟨_,.agg _ _ _ q,s⟩
  ·have e:d.N0=d.Mz:=by cases d<;>first|rfl|exact absurd ⟨_,rfl⟩ mr
   rw[e];exact h.uz
 |agg cs ds bs ts us h=>
  obtain⟨b,q,s⟩:=h.uz;exact⟨_,.agg _ _ _ q,s⟩
def D.JQ(d:D):Bool:=match d with
 | .fr _ _ _=>true
 |d=>d.flat
def D.G0(d:D):Bool:=match d with
 | .agg cs=>cs.all D.JQ
 |d=>d.JQ
def D.Ci(d:D):Bool:=match d with
 | .gj vs=>vs.all D.G0
 |d=>d.G0
def D.RG(d:D):Bool:=match d with
 | .gj _=>false
 |d=>d.G0
theorem vq.own{v:Value}{d:D}{bs ts us:aI}(h:vq w v d bs ts us)(ho:d.JQ=true):bs=[]:=by
 cases h with
 |pure h=>exact h.flat (by cases h<;>exact ho)
 |fr=>rfl
 |fs=>cases ho
theorem nD.own{vs:b9}{ds:aG}{bs ts us:aI}(h:nD w vs ds bs ts us)(ho:ds.all D.JQ=true):bs=[]:=by
 induction h with
 |nil=>rfl
 |cons v vs d ds b1 b2 t1 t2 u1 u2 h1 h2 _ ih=>
  simp only[cm,aN]at ho;rw[h2.own ho.1,ih ho.2];rfl
theorem xK.own{v:Value}{d:D}{bs ts us:aI}(h:xK w v d bs ts us)(ho:d.G0=true):bs=[]:=by
 cases h with
 |cell h=>
  by_cases mr:∃ds,d=.agg ds
  ·obtain⟨ds,rfl⟩:=mr;cases h with
   |pure h=>
    cases h with
    |agg cs _ _ h=>
     simp only[D.G0]at ho;have:∀(es:aG) (vs:b9) (b:aI),iT w vs es b->es.all D.JQ=true->es.all D.flat=true:=by
      intro es
      induction es with
      |nil=>intros;rfl
      |cons e es ih=>
       intro vs b hh ho;simp only[cm,aN]at ho⊢;cases hh with
       |cons v vs _ _ b1 b2 _ h2 h3=>exact⟨by cases h2<;>exact ho.1,ih _ _ h3 ho.2⟩
     exact iT.flat h (this _ _ _ h ho)
  ·have e:d.G0=d.JQ:=by cases d<;>first|rfl|exact absurd ⟨_,rfl⟩ mr
   exact h.own (e▸ho)
 |agg cs ds bs ts us h=>exact h.own ho
theorem su.own{vs:b9}{ds:aG}{bs ts us:aI}(h:su w vs ds bs ts us)(ho:ds.all D.G0=true):bs=[]:=by
 induction h with
 |nil=>rfl
 |cons v vs d ds b1 b2 t1 t2 u1 u2 h2 _ ih=>
  simp only[cm,aN]at ho;rw[h2.own ho.1,ih ho.2];rfl
theorem tH.own{v:Value}{d:D}{bs ts us:aI}(h:tH w v d bs ts us)(ho:d.Ci=true):bs=[]:=by
 cases h with
 |v h=>
  have hnt:∀vs,d≠ .gj vs:=by
   intro vs e;subst e;cases h with
   |cell h=>cases h with|pure h=>cases h
  have e:d.Ci=d.G0:=by cases d<;>first|rfl|exact absurd rfl (hnt _)
  exact h.own (e▸ho)
 |gj vs ds bs ts us h=>exact h.own ho
theorem pL{o:Oper}{f:FuncId}{xs:Array Operand}{ts:Array TypeId}(hop:o.op=.call {callee:=.value (.func f),args:=xs,argTypes:=ts})
 (hf:∃fn,P.funcs[f]?=some fn/\fn.body.isSome=true/\(fn.name== "runtime.NumGoroutine")=false):
 (execOp a.eval o).run P w=.ok (.enter f (xs.map a.eval)) w:=by
 obtain⟨fn,h1,h2,h3⟩:=hf;have h2':¬fn.body=none:=by intro hb;simp[hb]at h2
 simp only[cZ,ne_eq]at h3;simp[execOp,hop,resolve,Deferred.ofValue,Act.eval,invoke,callFunc,h1,h2',h3]
theorem FJ{Q':Exit->Act->World->Prop}{K:Act->World->Prop}{o:Oper}{f t:Nat}{xs:Array Operand}{ts:Array TypeId}{ds:aG}{ms:aI}{d:D}(hs:cX Γ st κ Θ a w)
 (hop:o.op=.call {callee:=.value (.func f),args:=xs,argTypes:=ts}) (hd:o.dst=some t) (ht:t<Γ.nt) (hds:∃bs,Hs w (xs.toList.map a.eval) ds bs/\∀b∈bs,Seen Θ ms b) (hsh:ms=[]\/d.Ci=true)
 (jO:Good P f ds d) (hK:∀κ' Θ' a' w',cX Γ ⟨(t,(je st.H.length d).1)::st.σ,st.H++(je st.H.length d).2⟩ κ' Θ' a' w'->K a' w'):o.wp P a w K Q':=by
 obtain⟨bs,hargs,hz⟩:=hds;let Θc:Nat->Nat:=fun b=>if Θ b=0\/ms.any (fun m=>Θ b==m+2)then 0 else 1
 have BM:∀b,Seen Θ ms b->Θc b=0:=by
  intro b h;simp only[Θc];rw[av];rcases h with h|⟨m,h1,h2⟩
  ·exact .inl h
  ·exact .inr (cL.2 ⟨m,h1,by simp[h2]⟩)
 have hc:=jO.2 w Θc _ bs hs.S2 hargs (fun b hb=>BM b (hz b hb)) (fun b hb=>hs.own b (fun e=>hb (BM b (.inl e)))) (fun b=>by simp only[Θc];split<;>omega);unfold Oper.wp;rw[pL hop jO.1,Oper.upon_enter];have e:xs.map a.eval=(xs.toList.map a.eval).toArray:=by rw[<-ec,gQ]
 rw[e];refine hc.mono ?_;rintro e w' ⟨v,bs',tb,ub,rfl,hb,hr,Cu,htb,hnd,hfr,hsub⟩;show K (a.put o.dst v) w';rw[hd];obtain⟨L,q1,q2,q3,q4,q6,q5⟩:=hr.inst st.H.length;have hbz:∀b∈bs',Θ b=0:=fun b hb'=>?_
 obtain⟨κ',Θ',hs',hnm,_,hno⟩:=hs.Nr hb L q2 (q3▸hnd) (fun b hb'=>hfr b (q3▸hb')) (fun x hx hx' b hb'=>⟨hbz b (q6 x hx hx' b hb'),q4▸htb b (q6 x hx hx' b hb')⟩);rw[q1]at hs';obtain⟨b0,Jn,CN⟩:=q5 κ' hnm;refine hK κ' Θ' _ w' (hs'.set (t:=t) ht Jn fun b hb'=>?_)
 ·rw[hno b (q4▸htb b (CN b hb'))];exact hbz b (CN b hb')
 rcases hsh with DA|hown
 ·by_cases hlt:b<w.heap.size
  ·have h0:=Cu b hb' hlt;simp only[Θc,DA,List.any_nil]at h0;by_cases h1:Θ b=0
   ·exact h1
   ·simp[h1]at h0
  ·by_cases h0:Θ b=0
   ·exact h0
   ·exact absurd (hs.own b h0) hlt
 ·rw[hr.own hown]at hb';cases hb'
theorem NN{Q':Exit->Act->World->Prop}{K:Act->World->Prop}{o:Oper}{f t:Nat}{xs:Array Operand}{ts:Array TypeId}{ds:aG}{ms:aI}{d:D}(hs:cX Γ st κ Θ a w)
 (hop:o.op=.call {callee:=.value (.func f),args:=xs,argTypes:=ts}) (hd:o.dst=some t) (ht:t<Γ.nt) (hds:yA st.H (xs.toList.map st.ev)=some (ds,ms)) (hsh:ms=[]\/d.Ci=true)
 (jO:Good P f ds d) (hK:∀κ' Θ' a' w',cX Γ ⟨(t,(je st.H.length d).1)::st.σ,st.H++(je st.H.length d).2⟩ κ' Θ' a' w'->K a' w'):o.wp P a w K Q':=
 FJ hs hop hd ht (Bx hs hds) hsh jO hK
def BP(d:D):Bool:=match d with
 | .agg cs=>cs.all D.Ey
 | .gj _=>false
 |d=>d.Ey
theorem LY{v:Value}{d:D}{bs:aI}(hr:lf w κ v d bs)(h:BP d=true):Rd w v d bs:=by
 by_cases mr:∃ds,d=.agg ds
 ·obtain⟨ds,rfl⟩:=mr;obtain⟨cs,rfl,hcs⟩:=hr.xC;exact .agg _ _ _ (hcs.pure h)
 ·have hp:d.Ey=true:=by
   cases d<;>first|exact h|exact absurd ⟨_,rfl⟩ mr|simp[BP]at h
  cases hr with
  |v hr=>cases hr with
   |cell hr=>cases hr with
    |pure hr=>exact hr
    |acc=>simp[D.Ey]at hp
    |ptr=>simp[D.Ey]at hp
    |op=>simp[D.Ey]at hp
   |agg=>exact absurd ⟨_,rfl⟩ mr
  |gj=>simp[BP]at h
theorem DX(hs:cX Γ st κ Θ a w):∀ {xs:List Operand},(xs.map st.ev).all BP=true->∃b',Hs w (xs.map a.eval) (xs.map st.ev) b'/\∀b∈b',Seen Θ [] b:=by
 intro xs
 induction xs with
 |nil=>intro _;exact⟨[],.nil,by simp⟩
 |cons x xs ih=>
  intro h;simp only[b8,cm,aN]at h;obtain⟨b0,r0,z0⟩:=hs.ev x;obtain⟨c2,p1,p2⟩:=ih h.2;refine⟨b0++c2,.cons _ _ _ _ _ _ (LY r0 h.1) p1,fun b hb=>?_⟩;rcases aH.1 hb with hb|hb
  ·exact .inl (z0 b hb)
  ·exact p2 b hb
theorem Jx{o:Oper}{f t:Nat}{xs:Array Operand}{ts:Array TypeId}{d:D}(hop:o.op=.call {callee:=.value (.func f),args:=xs,argTypes:=ts})(hd:o.dst=some t)(hg:o.guard=none)
 (ht:t<Γ.nt) (hk:(xs.toList.map st.ev).all BP=true) (jO:Good P f (xs.toList.map st.ev) d)
 (h:AO P Γ all rest Q ⟨(t,(je st.H.length d).1)::st.σ,st.H++(je st.H.length d).2⟩):AO P Γ all (o::rest) Q st:=by
 intro κ Θ a w hs;exact wpList_plain hg fun K hK=>FJ hs hop hd ht (DX hs hk) (.inl rfl) jO fun κ' Θ' a' w' hs'=>hK _ _ (h κ' Θ' a' w' hs')
theorem N9{o:Oper}{f t:Nat}{xs:Array Operand}{ts:Array TypeId}{ds:aG}{ms:aI}{d:D}(hop:o.op=.call {callee:=.value (.func f),args:=xs,argTypes:=ts})(hd:o.dst=some t)(hg:o.guard=none)
 (ht:t<Γ.nt) (hds:yA st.H (xs.toList.map st.ev)=some (ds,ms)) (hsh:ms=[]\/d.Ci=true) (jO:Good P f ds d)
 (h:AO P Γ all rest Q ⟨(t,(je st.H.length d).1)::st.σ,st.H++(je st.H.length d).2⟩):AO P Γ all (o::rest) Q st:=by
 intro κ Θ a w hs;exact wpList_plain hg fun K hK=>NN hs hop hd ht hds hsh jO fun κ' Θ' a' w' hs'=>hK _ _ (h κ' Θ' a' w' hs')
def M7(P:Program)(st:St):ResultVar->Option D
 | .tmp t=>some (lk st.σ t)
 | .cell x T=>match sQ P T,lk st.σ x with
  |some ag,.ptr id off=>(match(st.H[id]?).bind Ob.I5 with|some cells=>yH ag (rQ P T) cells off|none=>none)
  |_,_=>none
def yI(P:Program)(st:St):List ResultVar->Option aG
 | []=>some []
 |r::rs=>match M7 P st r,yI P st rs with|some d,some ds=>some (d::ds)|_,_=>none
def M9(tmps:Array Value):ResultVar->Sem Value
 | .tmp t=>pure (tmps.getD t undef)
 | .cell a t=>do loadVar t (<-asAddr (tmps.getD a undef))
theorem results_eq(fn:Func)(tmps:Array Value):results fn tmps=(do let vs<-fn.results.mapM (M9 tmps);pure (if h:vs.size=1 then vs[0]else .tuple vs)):=by
 unfold results
 congr 1
theorem M8(hs:cX Γ st κ Θ a w){r:ResultVar}{d:D}(h:M7 P st r=some d):
 ∃v bs,(M9 a.tmps r).run P w=.ok v w/\lf w κ v d bs/\∀b∈bs,Θ b=0:=by
 cases r with
 |tmp t=>
  simp only[M7,aS]at h;subst h;obtain⟨bs,hr,hz⟩:=hs.slot t;exact⟨_,bs,by simp[M9],hr,hz⟩
 |cell x T=>
  have hp:pv P st (.load T (.tmp x))=some d:=by
   simp only[M7]at h;split at h
   ·rename_i ag id off h1 h2;simp only[pv,h1,St.ev,h2];exact h
   ·cases h
  obtain⟨v,bs,hrun,hr,hz⟩:=CX (o:= {(default:Oper)with op:=.load T (.tmp x)}) hs rfl hp;refine⟨v,bs,?_,hr,hz⟩;simp only[execOp,Act.eval]at hrun;have VW:∃b off,a.tmps.getD x undef=.pointer (some ⟨b,off,none⟩):=by
   simp only[M7]at h;split at h
   ·rename_i ag id off h1 h2;obtain⟨b0,r0,_⟩:=hs.slot x;rw[h2]at r0;obtain⟨g,_,hv⟩:=r0.rJ;exact⟨g,off,hv⟩
   ·cases h
  obtain⟨b,off,hv⟩:=VW;simp only[M9,hv]at hrun⊢;simp only[Instr.loadAt,Instr.sureAddr,Sem.run_bind,Sem.run_pure,Result.andThen_ok]at hrun;simp only[asAddr,Sem.run_bind,Sem.run_pure,Result.andThen_ok];cases hl:(loadVar T ⟨b,off,none⟩).run P w with
  |ok u w1=>simp only[hl,Result.andThen_ok,Result.ok.injEq,Next.value.injEq]at hrun;rw[hrun.1,hrun.2]
  |halt u w1=>simp[hl]at hrun
theorem xG(hs:cX Γ st κ Θ a w):∀ {rs:List ResultVar} {ds:aG},yI P st rs=some ds->
 ∃(vs:b9) (bs:aI),(rs.mapM (M9 a.tmps)).run P w=.ok vs w/\
  vs.length=rs.length/\ds.length=rs.length/\(∀(i:Nat) d,ds[i]?=some d->∃v b,vs[i]?=some v/\lf w κ v d b/\∀x∈b,x∈bs)/\∀b∈bs,Θ b=0:=by
 intro rs
 induction rs with
 |nil=>
  intro ds h;simp only[yI,aS]at h;subst h;exact⟨[],[],by simp,rfl,rfl,by simp,by simp⟩
 |cons r rs ih=>
  intro ds h;simp only[yI]at h;split at h
  ·rename_i d ds' h1 h2;cases h;obtain⟨v,b,k1,k2,k3⟩:=M8 hs h1;obtain⟨vs,bs,m1,m2,m3,m4,m5⟩:=ih h2;refine⟨v::vs,b++bs,?_,by simp[m2],by simp[m3],?_,?_⟩
   ·simp only[vp,Sem.run_bind,k1,Result.andThen_ok,m1,Sem.run_pure]
   ·intro i x hx;cases i with
    |zero=>simp at hx;subst hx;exact⟨v,b,by simp,k2,by intro y hy;simp[hy]⟩
    |succ i=>
     simp at hx;obtain⟨u,b',q1,q2,q3⟩:=m4 i x hx;exact⟨u,b',by simpa using q1,q2,fun y hy=>by simp[q3 y hy]⟩
   ·intro y hy;rcases aH.1 hy with hy|hy
    ·exact k3 y hy
    ·exact m5 y hy
  ·cases h
def BS:aG->D
 | [d]=>d
 |ds=>.gj ds
def rj:Nat->aG->List (Nat×D)
 |_,[]=>[]
 |k,d::ds=>(k,d)::rj (k+1) ds
theorem zm:∀(ds:aG) (k t:Nat),lk (rj k ds) t=if t<k then .any else(ds[t-k]?).getD .any:=by
 intro ds
 induction ds with
 |nil=>intro k t;simp[rj,lk]
 |cons d ds ih=>
  intro k t;simp only[rj,lk];by_cases h:t=k
  ·subst h;simp
  ·rw[ai h,ih];by_cases h1:t<k
   ·rw[av (by omega),av h1]
   ·rw[ai (by omega),ai h1];have:t-k=(t-(k+1))+1:=by omega
    rw[this,gR]
theorem Hs.at{vs:b9}{ds:aG}{bs:aI}(h:Hs w vs ds bs):vs.length=ds.length/\∀(i:Nat) d,ds[i]?=some d->∃v b,vs[i]?=some v/\Rd w v d b/\∀x∈b,x∈bs:=by
 induction ds generalizing vs bs with
 |nil=>cases h;exact⟨rfl,by simp⟩
 |cons e ds ih=>
  cases h with
  |cons v vs _ _ b1 b2 h2 h3=>
   obtain⟨l,hi⟩:=ih h3;refine⟨by simp[l],fun i d hd=>?_⟩;cases i with
   |zero=>simp at hd;subst hd;exact⟨v,b1,by simp,h2,by intro x hx;simp[hx]⟩
   |succ i=>
    simp at hd;obtain⟨u,b,k1,k3,k4⟩:=hi i d hd;exact⟨u,b,by simpa using k1,k3,fun x hx=>by simp[k4 x hx]⟩
def n9(d:D):Prop:=∃w v bs,Rd w v d bs
theorem iT.Te{vs:b9}{ds:aG}{bs:aI}(h:iT w vs ds bs):∀d∈ds,n9 d:=by
 intro d hd;obtain⟨i,hi,rfl⟩:=cq.1 hd;obtain⟨v,b,_,_,hr,_⟩:=h.at (aR hi);exact⟨w,v,b,hr⟩
theorem n9.agg{ds:aG}(h:n9 (.agg ds)):∀d∈ds,n9 d:=by
 obtain⟨w,v,bs,h⟩:=h;cases h with|agg cs _ _ hx=>exact hx.Te
theorem n9.sl{rows:List aG}(h:n9 (.sl rows)):rows.length<=maxLen/\∀r∈rows,∀d∈r,n9 d:=by
 obtain⟨w,v,bs,h⟩:=h;cases h with
 |qz=>simp
 |jo=>simp
 |sl b off cap sz _ cs bs hb h1 h2 h3 h4 h5=>
  exact⟨by omega,fun r hr d hd=>h5.Te d (eE.2 ⟨r,hr,hd⟩)⟩
theorem Hs.Te{vs:b9}{ds:aG}{bs:aI}(h:Hs w vs ds bs):∀d∈ds,n9 d:=by
 intro d hd;obtain⟨i,hi,rfl⟩:=cq.1 hd;obtain⟨v,b,_,hr,_⟩:=h.at.2 i _ (aR hi);exact⟨w,v,b,hr⟩
def Lx(z:Option (Nat×Nat))(d:D):D:=match d,z with
 | .nil,some (e,sz+1)=>.fr e (sz+1) []
 |d,_=>d.uJ
def vm(H:ax)(z:Option (Nat×Nat))(d:D):Option (D×aI×aI):=match d with
 | .acc m=>(match H[m]? with|some (.row k e sz rows)=>(match k with| .uq=>some (.fr e sz rows,[],[m])| .sh=>(match z with|some (_,0)=>some (.fs e sz rows,[],[m])|_=>some (.sl rows,[m],[]))| .cl=>none| .mv _=>none| .ho _ _=>none)|_=>none)
 | .ptr _ _=>none
 | .op _ _ _ _=>none
 | .agg _=>none
 | .gj _=>none
 |d=>some (Lx z d,[],[])
def BW(H:ax):List (Option (Nat×Nat))->aG->Option (aG×aI×aI)
 |_,[]=>some ([],[],[])
 |zs,d::ds=>match vm H zs.head?.join d,BW H zs.tail ds with|some (e,m,q),some (es,ms,qs)=>some (e::es,m++ms,q++qs)|_,_=>none
def HN(H:ax)(zs:List (Option (Nat×Nat)))(d:D):Option (D×aI×aI):=match d with
 | .agg cs=>(match BW H zs cs with|some (es,ms,qs)=>some (.agg es,ms,qs)|none=>none)
 |d=>vm H zs.head?.join d
def sO(H:ax):List (List (Option (Nat×Nat)))->aG->Option (aG×aI×aI)
 |_,[]=>some ([],[],[])
 |zs,d::ds=>match HN H (zs.head?.getD []) d,sO H zs.tail ds with|some (e,m,q),some (es,ms,qs)=>some (e::es,m++ms,q++qs)|_,_=>none
def KH(P:Program)(fn:Func)(d:D)(e:Exit)(st:St):Prop:=
 (e=.ret\/e=.normal)/\∃nz ds es ms qs,yI P st fn.results.toList=some ds/\sO st.H nz ds=some (es,ms,qs)/\ms.Nodup/\qs.Nodup/\(∀m∈qs,m∉ms)/\BS es=d
structure RP(Θ ρ:Nat->Nat)(qs bs ts us:List Nat):Prop where
 zero:∀b∈bs,Θ b=0
 top:∀b∈ts,(∃m∈qs,Θ b=m+2)/\b∈us
 mem:∀b∈us,b∈ts\/∃m∈qs,ρ b=m+1
 nd:us.Nodup
theorem RP.nil{ρ:Nat->Nat}{bs:aI}(h:∀b∈bs,Θ b=0):RP Θ ρ [] bs [] []:=⟨h,by simp,by simp,by simp⟩
theorem RP.app{ρ:Nat->Nat}{q1 q2 b1 b2 t1 t2 u1 u2:aI}(hf:∀b,ρ b≠0->Θ b=0)(hq:(q1++q2).Nodup)(h1:RP Θ ρ q1 b1 t1 u1)(h2:RP Θ ρ q2 b2 t2 u2):RP Θ ρ (q1++q2) (b1++b2) (t1++t2) (u1++u2):=by
 refine⟨fun b hb=>?_,fun b hb=>?_,fun b hb=>?_,aq.2 ⟨h1.nd,h2.nd,fun x hx y hy e=>?_⟩⟩
 ·rcases aH.1 hb with hb|hb
  ·exact h1.zero b hb
  ·exact h2.zero b hb
 ·rcases aH.1 hb with hb|hb
  ·obtain⟨⟨m,p,q⟩,r⟩:=h1.top b hb;exact⟨⟨m,by simp[p],q⟩,by simp[r]⟩
  ·obtain⟨⟨m,p,q⟩,r⟩:=h2.top b hb;exact⟨⟨m,by simp[p],q⟩,by simp[r]⟩
 ·rcases aH.1 hb with hb|hb
  ·rcases h1.mem b hb with h|⟨m,p,q⟩
   ·exact .inl (by simp[h])
   ·exact .inr ⟨m,by simp[p],q⟩
  ·rcases h2.mem b hb with h|⟨m,p,q⟩
   ·exact .inl (by simp[h])
   ·exact .inr ⟨m,by simp[p],q⟩
 ·subst e;have hd:=(aq.1 hq).2.2;rcases h1.mem x hx with hx|⟨m,p,q⟩
  ·obtain⟨⟨m,p,q⟩,_⟩:=h1.top x hx;rcases h2.mem x hy with hy|⟨m',p',q'⟩
   ·obtain⟨⟨m',p',q'⟩,_⟩:=h2.top x hy;exact hd m p m' p' (by omega)
   ·have:=hf x (by omega);omega
  ·rcases h2.mem x hy with hy|⟨m',p',q'⟩
   ·obtain⟨⟨m',p',q'⟩,_⟩:=h2.top x hy;have:=hf x (by omega);omega
   ·exact hd m p m' p' (by omega)
theorem Ft(z:Option (Nat×Nat)){v:Value}{d:D}{b0:aI}(hr:Rd w v d b0):∃bs,vq w v (Lx z d) bs [] []/\∀b∈bs,b∈b0:=by
 unfold Lx;split
 ·rename_i e sz;cases hr;refine⟨[],?_,by simp⟩;have:=vq.fr (w:=w) (.slice none 0 0) e (sz+1) [] [] [] (Nat.succ_pos _) (by simp) (World.ownsRow_nil w 0 e (sz+1)) (.nil _) rfl;simpa[Value.ownBlock]using this
 ·exact⟨b0,.pure hr.soft,fun _ h=>h⟩
section
variable{H:ax}{ρ:Nat->Nat}(hf:∀b,ρ b≠0->Θ b=0)
 (hq:∀m e sz rows,H[m]?=some (.row .uq e sz rows)->∃v cs ns,κ m=some v/\0<sz/\(∀r∈rows,r.length=sz)/\w.ownsRow 0 e sz v rows.length cs/\qG w (ol e) 0 cs rows.flatten ns/\ns.Nodup/\(∀b∈ns,ρ b=m+1)/\∀g,v.ownBlock=some g->Θ g=m+2)
 {M:aI} (qx:∀m e sz rows,m∉M->H[m]?=some (.row .sh e sz rows)->∃v cs ns,κ m=some v/\0<sz/\(∀r∈rows,r.length=sz)/\w.ownsRow 0 e sz v rows.length cs/\iT w cs rows.flatten ns/\(∀b∈ns,Θ b=0)/\∀g,v.ownBlock=some g->Θ g=m+2)
include hf hq qx
theorem G2{z:Option (Nat×Nat)}{d e:D}{ms qs:aI}{v:Value}{b0:aI}(h:vm H z d=some (e,ms,qs))(hM:∀m∈qs,m∉M)(hone:v.oneCell'=true)(hr:rD w κ v d b0)(hz:∀b∈b0,Θ b=0)
 (hm:∀m∈ms,∀k e sz rows,H[m]?=some (.row k e sz rows)->qf κ Θ ρ w m k rows):∃bs ts us,vq w v e bs ts us/\RP Θ ρ qs bs ts us:=by
 cases hr with
 |pure hr=>
  have:vm H z d=some (Lx z d,[],[]):=by cases hr<;>first|rfl|simp[vm]at h
  rw[this]at h;cases h;obtain⟨bs,hb,Cu⟩:=Ft z hr;exact⟨bs,[],[],hb,RP.nil (fun b hb'=>hz b (Cu b hb'))⟩
 |acc m _ hk=>
  simp only[vm]at h;split at h
  ·rename_i k e' sz rows hH;split at h
   ·cases h;obtain⟨v2,cs,ns,r1,r2,r3,r4,r5,r6,r7,r8⟩:=hq m _ _ _ hH;rw[hk]at r1;cases r1;refine⟨[],_,_,.fr v _ _ _ cs ns r2 r3 r4 r5 hone,by simp,fun b hb=>?_,fun b hb=>?_,?_⟩
    ·simp only[ew]at hb;exact⟨⟨m,by simp,r8 b hb⟩,by simp[hb]⟩
    ·rcases aH.1 hb with hb|hb
     ·exact .inl hb
     ·exact .inr ⟨m,by simp,r7 b hb⟩
    ·refine aq.2 ⟨by cases v.ownBlock<;>simp,r6,fun x hx y hy SG=>?_⟩;subst SG;simp only[ew]at hx;have h1:=r8 x hx;have h2:=hf x (by rw[r7 x hy];omega);omega
   ·split at h
    ·cases h;obtain⟨v2,cs,ns,r1,r2,r3,r4,r5,r6,r7⟩:=qx m _ _ _ (hM m (by simp)) hH;rw[hk]at r1;cases r1;refine⟨_,_,_,.fs v _ _ _ cs ns r2 r3 r4 r5 hone,r6,fun b hb=>?_,fun b hb=>.inl hb,by cases v.ownBlock<;>simp⟩;simp only[ew]at hb;exact⟨⟨m,by simp,r7 b hb⟩,by simp[hb]⟩
    ·cases h;obtain⟨v2,bs,r1,r2,r3,_⟩:=hm m (by simp) _ _ _ _ hH;rw[hk]at r1;cases r1;exact⟨bs,[],[],.pure r2,RP.nil r3⟩
   ·cases h
   ·cases h
   ·cases h
  ·cases h
 |ptr=>simp[vm]at h
 |op=>simp[vm]at h
theorem JX:∀ {ds es:aG} {zs:List (Option (Nat×Nat))} {ms qs:aI} {vs:b9} {b0:aI},BW H zs ds=some (es,ms,qs)->(∀m∈qs,m∉M)->qs.Nodup->dQ w κ vs ds b0->(∀b∈b0,Θ b=0)->
 (∀m∈ms,∀k e sz rows,H[m]?=some (.row k e sz rows)->qf κ Θ ρ w m k rows)->∃bs ts us,nD w vs es bs ts us/\RP Θ ρ qs bs ts us:=by
 intro ds
 induction ds with
 |nil=>
  intro es zs ms qs vs b0 h _ _ hr _ _;simp only[BW,aS,bq]at h;obtain⟨rfl,rfl,rfl⟩:=h;cases hr;exact⟨[],[],[],.nil,RP.nil (by simp)⟩
 |cons d ds ih=>
  intro es zs ms qs vs b0 h hM hnd hr hz hm;simp only[BW]at h;split at h
  ·rename_i e m q es' ms' Td h1 h2;cases h;cases hr with
   |cons v vs _ _ b1 b2 hv hc hcs=>
    obtain⟨c1,t1,u1,q1,q2⟩:=G2 hf hq qx h1 (fun x hx=>hM x (by simp[hx])) hv hc (fun b hb=>hz b (by simp[hb])) (fun x hx=>hm x (by simp[hx]));obtain⟨c2,t2,u2,p1,p2⟩:=ih h2 (fun x hx=>hM x (by simp[hx])) (aq.1 hnd).2.1 hcs (fun b hb=>hz b (by simp[hb])) (fun x hx=>hm x (by simp[hx]));exact⟨_,_,_,.cons _ _ _ _ _ _ _ _ _ _ hv q1 p1,RP.app hf hnd q2 p2⟩
  ·cases h
theorem MA(hk1:∀(i:Nat) u,κ i=some u->u.oneCell'=true){zs:List (Option (Nat×Nat))}{d e:D}{ms qs:aI}{v:Value}{b0:aI}(h:HN H zs d=some (e,ms,qs))(hM:∀m∈qs,m∉M)(hnd:qs.Nodup)(hr:lf w κ v d b0)(hz:∀b∈b0,Θ b=0)
 (hm:∀m∈ms,∀k e sz rows,H[m]?=some (.row k e sz rows)->qf κ Θ ρ w m k rows):∃bs ts us,xK w v e bs ts us/\RP Θ ρ qs bs ts us:=by
 by_cases mr:∃ds,d=.agg ds
 ·obtain⟨ds,rfl⟩:=mr;obtain⟨cs,rfl,hcs⟩:=hr.xC;simp only[HN]at h;split at h
  ·rename_i es ms' Td h1;cases h;obtain⟨bs,ts,us,q1,q2⟩:=JX hf hq qx h1 hM hnd hcs hz hm;exact⟨bs,ts,us,.agg _ _ _ _ _ q1,q2⟩
  ·cases h
 ·have e1:HN H zs d=vm H zs.head?.join d:=by cases d<;>first|rfl|exact absurd ⟨_,rfl⟩ mr
  rw[e1]at h;have hc:rD w κ v d b0:=by
   cases hr with
   |v hr=>cases hr with
    |cell hr=>exact hr
    |agg=>exact absurd ⟨_,rfl⟩ mr
   |gj=>simp[vm]at h
  cases hc with
  |pure hr=>
   have:vm H zs.head?.join d=some (Lx zs.head?.join d,[],[]):=by cases hr<;>first|rfl|simp[vm]at h
   rw[this]at h;cases h;obtain⟨bs,hb,Cu⟩:=Ft zs.head?.join hr;exact⟨bs,[],[],.cell hb,RP.nil (fun b hb'=>hz b (Cu b hb'))⟩
  |acc m _ hk=>
   obtain⟨bs,ts,us,q1,q2⟩:=G2 hf hq qx h hM (hk1 _ _ hk) (.acc m _ hk) (by simp) hm;exact⟨bs,ts,us,.cell q1,q2⟩
  |ptr=>simp[vm]at h
  |op=>simp[vm]at h
theorem uI(hk1:∀(i:Nat) u,κ i=some u->u.oneCell'=true):∀ {ds es:aG} {zs:List (List (Option (Nat×Nat)))} {ms qs:aI} {vs:b9},sO H zs ds=some (es,ms,qs)->(∀m∈qs,m∉M)->qs.Nodup->vs.length=ds.length->
 (∀(i:Nat) d,ds[i]?=some d->∃v b,vs[i]?=some v/\lf w κ v d b/\∀x∈b,Θ x=0)->
 (∀m∈ms,∀k e sz rows,H[m]?=some (.row k e sz rows)->qf κ Θ ρ w m k rows)->∃bs ts us,su w vs es bs ts us/\RP Θ ρ qs bs ts us:=by
 intro ds
 induction ds with
 |nil=>
  intro es zs ms qs vs h _ _ hl _ _;simp only[sO,aS,bq]at h;obtain⟨rfl,rfl,rfl⟩:=h;cases vs with
  |nil=>exact⟨[],[],[],.nil,RP.nil (by simp)⟩
  |cons=>simp at hl
 |cons d ds ih=>
  intro es zs ms qs vs h hM hnd hl hr hm;simp only[sO]at h;split at h
  ·rename_i e m q es' ms' Td h1 h2;cases h;cases vs with
   |nil=>simp at hl
   |cons v vs=>
    obtain⟨v',b0,Mv,Jn,qX⟩:=hr 0 d rfl;simp at Mv;subst Mv;obtain⟨c1,t1,u1,q1,q2⟩:=MA hf hq qx hk1 h1 (fun x hx=>hM x (by simp[hx])) (aq.1 hnd).1 Jn qX (fun x hx=>hm x (by simp[hx]));obtain⟨c2,t2,u2,p1,p2⟩:=ih h2 (fun x hx=>hM x (by simp[hx])) (aq.1 hnd).2.1 (by simpa using hl) (fun i d' yu=>by
     obtain⟨v',b,k1,k2⟩:=hr (i+1) d' (by simpa using yu);exact⟨v',b,by simpa using k1,k2⟩) (fun x hx=>hm x (by simp[hx]))
    exact⟨_,_,_,.cons _ _ _ _ _ _ _ _ _ _ q1 p1,RP.app hf hnd q2 p2⟩
  ·cases h
end
theorem Cl{H:ax}{z:Option (Nat×Nat)}{d e:D}{ms qs:aI}(h:vm H z d=some (e,ms,qs)):(∀m∈ms,∃e sz rows,H[m]?=some (.row .sh e sz rows))/\∀m∈qs,∃k e sz rows,H[m]?=some (.row k e sz rows):=by
 cases d with
 |acc m=>
  simp only[vm]at h;split at h
  ·rename_i k e' sz rows hH;split at h
   ·cases h;exact⟨by simp,fun m' hm'=>by simp at hm';subst hm';exact⟨_,_,_,_,hH⟩⟩
   ·split at h
    ·cases h;exact⟨by simp,fun m' hm'=>by simp at hm';subst hm';exact⟨_,_,_,_,hH⟩⟩
    ·cases h;exact⟨fun m' hm'=>by simp at hm';subst hm';exact⟨_,_,_,hH⟩,by simp⟩
   ·cases h
   ·cases h
   ·cases h
  ·cases h
 |_=>simp[vm]at h<;>(try(obtain⟨_,rfl,rfl⟩:=h;simp))
theorem G3{H:ax}:∀ {ds es:aG} {zs:List (Option (Nat×Nat))} {ms qs:aI},BW H zs ds=some (es,ms,qs)->(∀m∈ms,∃e sz rows,H[m]?=some (.row .sh e sz rows))/\∀m∈qs,∃k e sz rows,H[m]?=some (.row k e sz rows):=by
 intro ds
 induction ds with
 |nil=>intro es zs ms qs h;simp only[BW,aS,bq]at h;obtain⟨rfl,rfl,rfl⟩:=h;simp
 |cons d ds ih=>
  intro es zs ms qs h;simp only[BW]at h;split at h
  ·rename_i e m q es' ms' Td h1 h2;cases h;have a1:=Cl h1;have a2:=ih h2;refine⟨fun x hx=>?_,fun x hx=>?_⟩<;>rcases aH.1 hx with hx|hx
   ·exact a1.1 x hx
   ·exact a2.1 x hx
   ·exact a1.2 x hx
   ·exact a2.2 x hx
  ·cases h
theorem HO{H:ax}{zs:List (Option (Nat×Nat))}{d e:D}{ms qs:aI}(h:HN H zs d=some (e,ms,qs)):(∀m∈ms,∃e sz rows,H[m]?=some (.row .sh e sz rows))/\∀m∈qs,∃k e sz rows,H[m]?=some (.row k e sz rows):=by
 by_cases mr:∃ds,d=.agg ds
 ·obtain⟨ds,rfl⟩:=mr;simp only[HN]at h;split at h
  ·rename_i es ms' Td h1;cases h;exact G3 h1
  ·cases h
 ·have e1:HN H zs d=vm H zs.head?.join d:=by cases d<;>first|rfl|exact absurd ⟨_,rfl⟩ mr
  rw[e1]at h;exact Cl h
theorem qT{H:ax}:∀ {ds es:aG} {zs:List (List (Option (Nat×Nat)))} {ms qs:aI},sO H zs ds=some (es,ms,qs)->(∀m∈ms,∃e sz rows,H[m]?=some (.row .sh e sz rows))/\∀m∈qs,∃k e sz rows,H[m]?=some (.row k e sz rows):=by
 intro ds
 induction ds with
 |nil=>intro es zs ms qs h;simp only[sO,aS,bq]at h;obtain⟨rfl,rfl,rfl⟩:=h;simp
 |cons d ds ih=>
  intro es zs ms qs h;simp only[sO]at h;split at h
  ·rename_i e m q es' ms' Td h1 h2;cases h;have a1:=HO h1;have a2:=ih h2;refine⟨fun x hx=>?_,fun x hx=>?_⟩<;>rcases aH.1 hx with hx|hx
   ·exact a1.1 x hx
   ·exact a2.1 x hx
   ·exact a1.2 x hx
   ·exact a2.2 x hx
  ·cases h
theorem Good.of{f:FuncId}{fn:Func}{c:Code}{ds:aG}{d:D}(hf:P.funcs[f]?=some fn)(hb:fn.body=some c)(hn:(fn.name== "runtime.NumGoroutine")=false)
 (hl:ds.length<=fn.ntmps) (h:(∀d∈ds,n9 d)->∀Γ:oK,Γ.nt=fn.ntmps->AW P Γ c (KH P fn d) ⟨rj 0 ds,[]⟩):Good P f ds d:=by
 refine⟨⟨fn,hf,by simp[hb],hn⟩,?_⟩;intro w Θ args bs hvs hargs hz hown h1;obtain⟨hlen,ID⟩:=hargs.at;refine calls_of_wp hf hb ?_;let Γ:oK:=⟨w,Θ,fun _=>False,fn.ntmps,fun _=>False,hvs⟩
 have hs:cX Γ ⟨rj 0 ds,[]⟩ (fun _=>none) Θ {tmps:=args.toArray++Array.replicate (fn.ntmps-args.toArray.size) undef,defers:=[]} w:=by
  refine⟨rfl,?_,fun _ _=>rfl,by simp,?_,by simp,hown,fun b _ _=>⟨rfl,h1 b⟩,fun b hb=>by have:=h1 b;omega,⟨rfl,rfl,rfl,bM _,fun _ _ _=>rfl⟩,⟨fun _=>0,by simp,by simp,by simp⟩⟩
  ·simp[Γ];omega
  ·intro t;rw[zm];simp only[qc,rW,uV];cases hd:ds[t]? with
   |none=>exact⟨[],.of (.any _),by simp⟩
   |some x=>
    obtain⟨v,b,k1,k2,k3⟩:=ID t x hd;refine⟨b,?_,fun y hy=>hz y (k3 y hy)⟩;have hlt:t<args.length:=(aB.1 k1).1;have:(args.toArray++Array.replicate (fn.ntmps-args.toArray.size) undef).getD t undef=v:=by
     rw[bU,eB (by simpa using hlt)];simp[k1]
    rw[this];exact .of k2
 refine wp_mono (h hargs.Te Γ rfl _ _ _ _ hs) ?_;rintro e a' w' ⟨Cw,κ0,Θ0,hs0,wY,nz,Om,es,ms,qs,hres,Ox,DA,Bh,Nf,rfl⟩;obtain⟨ρ0,Ql⟩:=hs0.mi;have vi:=qT Ox;obtain⟨Θ1,ρ1,hs1,hu1,hm1,hz1,Jo⟩:=cX.zq ms hs0 Ql DA (fun m hm=>by
  obtain⟨e,sz,rows,hH⟩:=vi.1 m hm;exact⟨_,e,sz,rows,hH,rfl⟩)
 obtain⟨vs,bs',m1,m2,m3,m4,m5⟩:=xG hs0 hres;have hq:∀m e sz rows,Cw.H[m]?=some (.row .uq e sz rows)->∃v cs ns,κ0 m=some v/\0<sz/\(∀r∈rows,r.length=sz)/\w'.ownsRow 0 e sz v rows.length cs/\qG w' (ol e) 0 cs rows.flatten ns/\ns.Nodup/\(∀b∈ns,ρ1 b=m+1)/\∀g,v.ownBlock=some g->Θ1 g=m+2:=by
  intro m e sz rows hH;have hnm:m∉ms:=fun hm=>by
   obtain⟨e',sz',cw,xD⟩:=vi.1 m hm;rw[hH]at xD;cases xD
  have EC:(kill Cw.H ms)[m]?=some (.row .uq e sz rows):=by rw[cj hnm];exact hH
  obtain⟨v,cs,ns,r1,r2,r3,r4,r5⟩:=hu1.rows m e sz rows EC;obtain⟨p1,p2,v2,_,_,p3,_,_,p4,_⟩:=hs1.ob m _ EC;rw[r1]at p3;cases p3;exact⟨v,cs,ns,r1,p1,p2,r2,r3,r4,r5,p4⟩
 have qx:∀m e sz rows,m∉ms->Cw.H[m]?=some (.row .sh e sz rows)->∃v cs ns,κ0 m=some v/\0<sz/\(∀r∈rows,r.length=sz)/\w'.ownsRow 0 e sz v rows.length cs/\iT w' cs rows.flatten ns/\(∀b∈ns,Θ1 b=0)/\∀g,v.ownBlock=some g->Θ1 g=m+2:=by
  intro m e sz rows hnm hH;obtain⟨p1,p2,v2,cs,ns,p3,p4,p5,p6,p7⟩:=hs1.ob m _ (show(kill Cw.H ms)[m]?=_ by rw[cj hnm];exact hH);exact⟨v2,cs,ns,p3,p1,p2,p4,p5,p7,p6⟩
 obtain⟨c,ts,us,wX,tD⟩:=uI (w:=w') (vs:=vs) (fun b hb=>(hu1.free b hb).1) hq qx hs0.kC Ox Nf Bh (by omega) (fun i d hd=>by
  obtain⟨v,b,k1,k2,k3⟩:=m4 i d hd;exact⟨v,b,k1,k2,fun x hx=>hz1 x (m5 x (k3 x hx))⟩) hm1
 have EG:∃v,(results fn a'.tmps).run P w'=.ok v w'/\tH w' v (BS es) c ts us:=by
  have hrun:(results fn a'.tmps).run P w'=.ok (if h:vs.toArray.size=1 then vs.toArray[0]else .tuple vs.toArray) w':=by
   rw[results_eq,kO];simp[m1]
  cases wX with
  |nil=>exact⟨.tuple #[],by simpa using hrun,.gj [] [] [] [] [] .nil⟩
  |cons v vs d es b1 b2 t1 t2 u1 u2 hv oG=>
   cases oG with
   |nil=>
    simp only[dM];exact⟨v,by simpa using hrun,.v hv⟩
   |cons v2 vs d2 es b3 b4 t3 t4 u3 u4 GL oG=>exact⟨.tuple (v::v2::vs).toArray,by simpa using hrun,.gj _ _ _ _ _ (.cons _ _ _ _ _ _ _ _ _ _ hv (.cons _ _ _ _ _ _ _ _ _ _ GL oG))⟩
 obtain⟨v,LA,FY⟩:=EG;have CI:Below w.heap.size w w':=⟨hs1.stays.os,hs1.stays.tape,hs1.stays.output,hs1.stays.size,fun b hb=>hs1.stays.block b hb (fun h=>h)⟩
 have II:∀b,rC Γ b->w.heap.size<=b:=fun b h=>by
  rcases h with h|h
  ·exact h
  ·exact h.elim
 have hwr:∀b∈us,w.heap.size<=b/\Wr w' b:=by
  intro b hb';rcases tD.mem b hb' with h|⟨m,hm,hρ⟩
  ·obtain⟨⟨m,hm,hΘ⟩,_⟩:=tD.top b h;refine⟨II b (hs1.mine b (by omega)),?_⟩;exact C2 FY b h
  ·have:=hu1.free b (by omega);exact⟨this.2.1.elim (II b) False.elim,this.2.2⟩
 have post:a'.defers=[]/\∃v,(results fn a'.tmps).run P w'=.ok v w'/\∃u bs' ts us,Ending.returned v=.returned u/\Below w.heap.size w w'/\tH w' u (BS es) bs' ts us/\(∀b∈bs',b<w.heap.size->Θ b=0)/\(∀b∈bs',b∉ts)/\us.Nodup/\
  (∀b∈us,w.heap.size<=b/\Wr w' b)/\∀b∈ts,b∈us:=by
  refine⟨hs0.defers,v,LA,v,c,ts,us,rfl,CI,FY,fun b hb' hlt=>?_,fun b hb' ht=>?_,tD.nd,hwr,fun b hb'=>(tD.top b hb').2⟩
  ·have he:Θ1 b=Θ b:=(hs1.old b hlt (fun h=>h)).1;rw[<-he];exact tD.zero b hb'
  ·obtain⟨⟨m,_,hΘ⟩,_⟩:=tD.top b ht;have:=tD.zero b hb';omega
 rcases wY with rfl|rfl
 ·exact post
 ·exact post
end
end Go.Cx
namespace Go.Cx
open Go.RowKit
abbrev jd:=List Fs
section
variable{P:Program}{Γ:oK}{Q:Exit->St->Prop}{st:St}{κ:Nat->Option Value}{Θ:Nat->Nat}{a:Act}{w:World}{all:Array Oper}
def Ext(H H':ax):Prop:=∀(i:Nat) o,H[i]?=some o->H'[i]?=some o
theorem FM(σ:List (Nat×D))(H H':ax)(x:Operand):St.ev ⟨σ,H⟩ x=St.ev ⟨σ,H'⟩ x:=by cases x<;>rfl
theorem Ed{σ σ':List (Nat×D)}{H H':ax}{op:Op}{d:D}(hx:Ext H H')(he:∀x∈op.operands.toList,St.ev ⟨σ,H⟩ x=St.ev ⟨σ',H'⟩ x)(h:pv P ⟨σ,H⟩ op=some d):pv P ⟨σ',H'⟩ op=some d:=by
 have hm:∀(o:Option Operand),(∀x∈o.toArray.toList,St.ev ⟨σ,H⟩ x=St.ev ⟨σ',H'⟩ x)->o.map (St.ev ⟨σ,H⟩)=o.map (St.ev ⟨σ',H'⟩):=by
  intro o h;cases o with
  |none=>rfl
  |some x=>simp[h x (by simp)]
 cases op<;>simp only[pv]at h⊢ <;>(try cases h)
 case move x=>rw[he x (by simp[Op.operands])]at*
 case assign x=>rw[he x (by simp[Op.operands])]at*
 case nilCheck x=>rw[he x (by simp[Op.operands])]at h;exact h
 case pick c x y=>rw[he c (by simp[Op.operands]),he x (by simp[Op.operands]),he y (by simp[Op.operands])]at h;exact h
 case binOp op t x y t'=>rw[he x (by simp[Op.operands]),he y (by simp[Op.operands])]at h;exact h
 case unOp op t x=>cases op<;>simp only[pv]at h⊢ <;>(try cases h)<;>(rw[he x (by simp[Op.operands])]at h;exact h)
 case convert s d x=>rw[he x (by simp[Op.operands])]at h;exact h
 case field t x f=>rw[he x (by simp[Op.operands])]at h;exact h
 case fieldAddr t x f=>rw[he x (by simp[Op.operands])]at h;exact h
 case indexAddr t x i=>
  rw[he x (by simp[Op.operands]),he i (by simp[Op.operands])]at h;split at h
  ·rename_i e sz rows kk n h1 h2 h3
   (try simp only[h1,h2,h3]);exact h
  ·rename_i e sz id kk n h1 h2 h3
   (try simp only[h1,h2,h3])
   split at h
   ·rename_i k e' sz' rows hH;simp only[hx id _ hH];exact h
   ·cases h
  ·rename_i g o' kk n h1 h2
   (try simp only[h1,h2])
   generalize xJ P t=q at h⊢;cases q<;>exact h
  ·cases h
 case load t x=>
  rw[he x (by simp[Op.operands])]at h;split at h
  ·rename_i ag row off h1 h2
   (try simp only[h1,h2]);exact h
  ·rename_i ag id off h1 h2
   (try simp only[h1,h2])
   split at h
   ·rename_i cells hH;obtain⟨ob,hH,rO⟩:=jU.1 hH;simp only[hx id _ hH,aA,rO];exact h
   ·cases h
  ·rename_i ag id i sz off h1 h2
   (try simp only[h1,h2])
   split at h
   ·rename_i p n e' sz' rows hH;simp only[hx id _ hH];exact h
   ·rename_i k e' sz' rows UR hH;simp only[hx id _ hH];cases k with
    |ho p n=>exact(UR _ _ rfl).elim
    |_=>exact h
   ·cases h
  ·rename_i ag g o' h1 h2
   (try simp only[h1,h2]);exact h
  ·cases h
 case lookup T x i ok=>
  rw[he x (by simp[Op.operands]),he i (by simp[Op.operands])]at h;split at h
  ·rename_i id h1
   (try simp only[h1])
   split at h
   ·rename_i kv hH;simp only[hx id _ hH];exact h
   ·cases h
  ·cases h
 case extract x i=>rw[he x (by simp[Op.operands])]at h;exact h
 case index t x i=>rw[he x (by simp[Op.operands]),he i (by simp[Op.operands])]at h;exact h
 case slice t x lo hi mx=>
  cases mx with
  |none=>
   simp only[pv]at h⊢;rw[he x (by simp[Op.operands]),hm lo (fun y hy=>he y (by simp only[Op.operands,iE,aH];exact .inl (.inl (.inr hy)))),
    hm hi (fun y hy=>he y (by simp only[Op.operands,iE,aH];exact .inl (.inr hy)))]at h
   exact h
  |some m=>simp only[pv]at h;cases h
 case build t parts=>
  have:(parts.toList.map fun p=>(p.1,St.ev ⟨σ,H⟩ p.2))=parts.toList.map fun p=>(p.1,St.ev ⟨σ',H'⟩ p.2):=by
   apply iF;intro p hp;rw[he p.2 (by simp only[Op.operands];simp;exact⟨p.1,by simpa using hp⟩)]
  rw[this]at h;exact h
 case call c=>
  split at h
  ·rename_i x t h1 h2 h3;have JE:x∈(Op.call c).operands.toList:=by
    simp only[Op.operands,Call.operands,iE,aH,h2];exact .inr (by simp)
   (try simp only[h1,h2,h3])
   unfold O8 at h⊢;rw[he x JE]at h;split at h
   ·rename_i s hs;(try simp only[hs]);exact h
   ·rename_i rows hs;(try simp only[hs]);exact h
   ·rename_i hs;(try simp only[hs]);exact h
   ·rename_i id hs
    (try simp only[hs])
    split at h
    ·rename_i kk k e sz rows h4 h5;simp only[h4,hx id _ h5];exact h
    ·cases h
   ·cases h
  ·rename_i x y t t' h1 h2 h3;have JE:x∈(Op.call c).operands.toList:=by
    simp only[Op.operands,Call.operands,iE,aH,h2];exact .inr (by simp)
   have YR:y∈(Op.call c).operands.toList:=by
    simp only[Op.operands,Call.operands,iE,aH,h2];exact .inr (by simp)
   (try simp only[h1,h2,h3])
   rw[he x JE,he y YR]at h;exact h
  ·cases h
theorem GC{H H':ax}(hx:Ext H H'){d e:D}{ms:aI}(h:Jr H d=some (e,ms)):Jr H' d=some (e,ms):=by
 cases d<;>simp only[Jr]at h⊢ <;>(try exact h)
 split at h
 ·rename_i k e' sz rows hH;simp only[hx _ _ hH];exact h
 ·rename_i sz rows u hH;simp only[hx _ _ hH];exact h
 ·rename_i rows hH;simp only[hx _ _ hH];exact h
 ·cases h
theorem Je{H H':ax}(hx:Ext H H'):∀ {ds es:aG} {ms:aI},GD H ds=some (es,ms)->GD H' ds=some (es,ms):=by
 intro ds
 induction ds with
 |nil=>intro es ms h;exact h
 |cons d ds ih=>
  intro es ms h;simp only[GD]at h⊢;split at h
  ·rename_i e m es' ms' h1 h2;rw[GC hx h1,ih h2];exact h
  ·cases h
theorem Mn{H H':ax}(hx:Ext H H'){d e:D}{ms:aI}(h:Mm H d=some (e,ms)):Mm H' d=some (e,ms):=by
 by_cases mr:∃ds,d=.agg ds
 ·obtain⟨ds,rfl⟩:=mr;simp only[Mm]at h⊢;split at h
  ·rename_i es ms' h1;rw[Je hx h1];exact h
  ·cases h
 ·by_cases ht:∃vs,d=.gj vs
  ·obtain⟨vs,rfl⟩:=ht;simp[Mm]at h
  ·have e1:∀H,Mm H d=Jr H d:=by intro H;cases d<;>first|rfl|exact absurd ⟨_,rfl⟩ mr|exact absurd ⟨_,rfl⟩ ht
   rw[e1]at h⊢;exact GC hx h
theorem Jf{H H':ax}(hx:Ext H H'):∀ {ds es:aG} {ms:aI},yA H ds=some (es,ms)->yA H' ds=some (es,ms):=by
 intro ds
 induction ds with
 |nil=>intro es ms h;exact h
 |cons d ds ih=>
  intro es ms h;simp only[yA]at h⊢;split at h
  ·rename_i e m es' ms' h1 h2;rw[Mn hx h1,ih h2];exact h
  ·cases h
structure Cp where
 t:Option Nat
 d:D
 r:Nat
 obs:ax
 up:Option (Nat×Ob)
def Looks(H:ax)(vs ds:aG)(ms:aI):Prop:=yA H vs=some (ds,ms)\/(vs.all BP=true/\ds=vs/\ms=[])
def AX(P:Program)(H:ax)(σ:List (Nat×D))(o:Oper)(p:Cp):Prop:=
 (pv P ⟨σ,H⟩ o.op=some p.d/\p.obs=[])\/∃(f:FuncId) (xs:Array Operand) (ts:Array TypeId) (ds:aG) (ms:aI) (d:D),o.op=.call {callee:=.value (.func f),args:=xs,argTypes:=ts}/\
  Looks H (xs.toList.map (St.ev ⟨σ,H⟩)) ds ms/\(ms=[]\/d.Ci=true)/\Good P f ds d/\(je p.r d=(p.d,p.obs)\/(d.RG=true/\p.d=d.N0/\p.obs=[]))
def Dx(P:Program)(H:ax)(σ:List (Nat×D))(o:Oper)(p:Cp):Prop:=
 (∃T zs,o.op=.alloc T/\tz P T=some zs/\p.d=.ptr p.r 0/\p.obs=[.box zs])\/∃T x ds,o.op=.box T x/\(St.ev ⟨σ,H⟩ x).cellsOf=some ds/\p.d=.ptr p.r 0/\p.obs=[.box ds]
def Dz(P:Program)(H:ax)(σ:List (Nat×D))(o:Oper)(p:Cp):Prop:=
 ∃T e sz len parts zs ds es,o.op=.buildSlice T len parts/\xJ P T=some (e,sz)/\tz P e=some zs/\0<sz/\len*sz<=16777216/\
  qS (mX len sz) (List.replicate len zs).flatten (parts.toList.map fun q=>(q.1,St.ev ⟨σ,H⟩ q.2))=some ds/\zA H ds=some (es,[])/\p.d=.acc p.r/\p.obs=[.row (pg (Jd H e 0 ds)) e sz (chunk sz len es)]
def Dy(P:Program)(H:ax)(σ:List (Nat×D))(o:Oper)(p:Cp):Prop:=
 ∃T e sz len parts zs ds,o.op=.buildSlice T len parts/\xJ P T=some (e,sz)/\tz P e=some zs/\0<sz/\len*sz<=16777216/\
  qS (mX len sz) (List.replicate len zs).flatten (parts.toList.map fun q=>(q.1,St.ev ⟨σ,H⟩ q.2))=some ds/\ds.all D.Ey=true/\ds.all D.flat=true/\p.d=.sl (chunk sz len ds)/\p.obs=[]
def z7(P:Program)(H:ax)(σ:List (Nat×D))(o:Oper)(p:Cp):Prop:=AX P H σ o p\/Dx P H σ o p\/Dz P H σ o p\/Dy P H σ o p
def S6(P:Program)(Γ:oK)(all:Array Oper)(H:ax)(σ:List (Nat×D))(o:Oper)(p:Cp):Prop:=
 ∃t,p.t=some t/\p.up=none/\o.dst=some t/\t<Γ.nt/\((o.guard=none/\z7 P H σ o p)\/
  (∃(j s:Nat) (want b:Bool),o.guard=some (j,want)/\(all[j]?).bind (·.dst)=some s/\lk σ s=.bool b/\((b=want/\z7 P H σ o p)\/(b≠want/\p.d=.gj []/\p.obs=[])))\/
  ∃(j s:Nat) (want:Bool),o.guard=some (j,want)/\(all[j]?).bind (·.dst)=some s/\lk σ s=.gj []/\p.d=.gj []/\p.obs=[])
def S5(P:Program)(H:ax)(σ:List (Nat×D))(o:Oper)(p:Cp):Prop:=
 p.t=none/\p.obs=[]/\o.dst=none/\o.guard=none/\∃T x y id ds,o.op=.store T x y/\St.ev ⟨σ,H⟩ x=.ptr id 0/\H.length<=id/\(St.ev ⟨σ,H⟩ y).cellsOf=some ds/\En P T=true/\ds.length=rQ P T/\p.up=some (id,.box ds)
def nC(P:Program)(Γ:oK)(all:Array Oper)(H:ax)(σ:List (Nat×D))(o:Oper)(p:Cp):Prop:=S6 P Γ all H σ o p\/S5 P H σ o p
def Cp.slot(p:Cp)(σ:List (Nat×D)):List (Nat×D):=match p.t with|some t=>(t,p.d)::σ|none=>σ
def Cp.fill(n:Nat)(p:Cp)(acc:ax):ax:=match p.up with|some (id,ob)=>acc.set (id-n) ob|none=>acc++p.obs
def Cp.U1(n:Nat)(p:Cp)(U:aI)(acc:ax):Prop:=match p.up with|some (id,ob)=>id∉U/\n<=id/\∃zs ds,acc[id-n]?=some (.box zs)/\ob=.box ds/\zs.length=ds.length|none=>True
def Cp.U2(p:Cp)(U:aI):aI:=match p.up with|some (id,_)=>id::U|none=>U
def BE(P:Program)(Γ:oK)(all:Array Oper)(H:ax)(K:List (Nat×D)->ax->Prop):List Oper->List (Nat×D)->ax->aI->Prop
 | [],σ,acc,_=>K σ acc
 |o::os,σ,acc,U=>∃p:Cp,p.r=H.length+acc.length/\nC P Γ all H σ o p/\p.U1 H.length U acc/\BE P Γ all H K os (p.slot σ) (p.fill H.length acc) (p.U2 U)
theorem sS{Q':Exit->Act->World->Prop}{ops:Array Oper}{i:Nat}{o:Oper}{K:Act->World->Prop}(hi:ops[i]?=some o)(hw:Region.wanted o (yielded ops a.tmps)=true)(h:o.wp P a w K Q'):wpOp P ops Q' i K a w:=by
 unfold wpOp;simp only[hi,hw,kM];exact .inl h
theorem cX.Rq(hs:cX Γ st κ Θ a w){ops:Array Oper}{j s:Nat}{b:Bool}(hj:(ops[j]?).bind (·.dst)=some s)(hb:lk st.σ s=.bool b):yielded ops a.tmps j=some b:=by
 obtain⟨bs,r,_⟩:=hs.slot s;rw[hb]at r;have hv:=r.oz;have hlt:s<a.tmps.size:=by
  rcases cg s a.tmps.size with h|h
  ·exact h
  ·exfalso;rw[bU,lZ h]at hv;simp[undef]at hv
 have h1:a.tmps[s]?=some (.bool b):=by
  rw[bU,bf hlt]at hv;rw[bf hlt];simpa using hv
 simp[yielded,hj,h1]
theorem CD{st mh:St}{ops:Array Oper}{o:Oper}(h:∀t∈o.looksAt ops,lk st.σ t=lk mh.σ t):∀x∈o.op.operands.toList,st.ev x=mh.ev x:=by
 intro x hx;cases x with
 |tmp t=>
  refine h t ?_;unfold Oper.looksAt;exact aH.2 (.inl (bQ.2 ⟨.tmp t,hx,rfl⟩))
 |const v=>rfl
 |global g=>rfl
 |func f=>rfl
theorem wk(l:List (Nat×D))(σ:List (Nat×D))(t:Nat):(∀p∈l,p.1≠t)->lk (l++σ) t=lk σ t:=by
 induction l with
 |nil=>intro _;rfl
 |cons q l ih=>
  intro h;obtain⟨u,d⟩:=q;simp only[lN,lk];rw[ai (fun e=>h (u,d) (by simp) e.symm)];exact ih (fun p hp=>h p (by simp[hp]))
theorem yl(l:List (Nat×D))(σ:List (Nat×D))(p:Nat×D)(hp:p∈l)(hd:∀q∈l,q.1=p.1->q=p):lk (l++σ) p.1=p.2:=by
 induction l with
 |nil=>cases hp
 |cons q l ih=>
  obtain⟨u,d⟩:=q;simp only[lN,lk];by_cases e:p.1=u
  ·rw[av e];have:=hd (u,d) (by simp) e.symm;rw[<-this]
  ·rw[ai e];rcases au.1 hp with rfl|hp
   ·exact absurd rfl e
   ·exact ih hp (fun q hq=>hd q (by simp[hq]))
def Kb(ops:Array Oper)(n:Nat):Bool:=
 decide (n<=ops.size)&&(decide (n=ops.size)||(decide (n<ops.size)&&(Region.sinkB .any ops n&&Region.chainB .any ops n)))&&
 Region.seqB .any ops (ops.size-n) n (Array.replicate n true++Array.replicate (ops.size-n) false)&&
 (List.range n).all fun i=>match ops[i]? with
  |none=>false
  |some o=>(o.after.all fun e=> !Region.binds .any e||decide (e.on<i))&&
   ((o.looksAt ops).all fun t=>(List.range n).all fun j=>match ops[j]? with|some oj=> !(oj.dst==some t)||(decide (j<i)&&Region.waitsFor .any ops i j)|none=>true)&&
   (List.range n).all fun j=>j==i||(match ops[j]? with|some oj=> !(oj.dst==o.dst)||o.dst.isNone|none=>true)
def place(H:ax)(r:Nat)(obs:ax):ax:=H.take r++(obs++H.drop (r+obs.length))
theorem nX{H:ax}{r:Nat}{obs:ax}(h:r+obs.length<=H.length)(j:Nat):(place H r obs)[j]?=if j<r then H[j]? else if j<r+obs.length then obs[j-r]? else H[j]?:=by
 unfold place;have hl:(H.take r).length=r:=by rw[bK];omega
 by_cases h1:j<r
 ·rw[av h1,aV (by omega),bg,av h1]
 ·rw[ai h1,aY (by omega),hl];by_cases h2:j<r+obs.length
  ·rw[av h2,aV (by omega)]
  ·rw[ai h2,aY (by omega),dB]
   congr 1;omega
theorem nY{H:ax}{r:Nat}{obs:ax}(h:r+obs.length<=H.length):(place H r obs).length=H.length:=by
 unfold place;simp;omega
theorem AX.wp{Q':Exit->Act->World->Prop}{σ:List (Nat×D)}{H H':ax}{o:Oper}{p:Cp}{K:Act->World->Prop}(hs:cX Γ ⟨σ,H'⟩ κ Θ a w)(hx:Ext H H'){t:Nat}(hd:o.dst=some t)(ht:t<Γ.nt)(h:AX P H σ o p)
 (hr:p.r+p.obs.length<=H'.length) (hfree:∀i,i<p.obs.length->κ (p.r+i)=none)
 (hK:∀κ' Θ' a' w',cX Γ ⟨(t,p.d)::σ,place H' p.r p.obs⟩ κ' Θ' a' w'->(∀j,(j<p.r\/p.r+p.obs.length<=j)->κ' j=κ j)->K a' w'):o.wp P a w K Q':=by
 rcases h with⟨h,hno⟩|⟨f,xs,ts,ds,ms,d,hop,hds,hsh,jO,hi⟩
 ·have h':=Ed (σ:=σ) (σ':=σ) hx (fun x _=>FM σ H H' x) h;obtain⟨v,bs,hrun,hrd,hz⟩:=wq hs h';unfold Oper.wp;rw[hrun,Oper.upon_value,hd];have hp:place H' p.r p.obs=H':=by rw[hno];simp[place]
  exact hK κ Θ _ _ (by rw[hp];exact hs.set ht hrd hz) (fun _ _=>rfl)
 ·have hev:xs.toList.map (St.ev ⟨σ,H⟩)=xs.toList.map (St.ev ⟨σ,H'⟩):=iF (fun x _=>FM σ H H' x);have QL:∃bs,Hs w (xs.toList.map a.eval) ds bs/\∀b∈bs,Seen Θ ms b:=by
   rcases hds with hds|⟨hk,rfl,rfl⟩
   ·have:=Jf hx hds;rw[hev]at this;exact Bx hs this
   ·rw[hev]at hk⊢;exact DX hs hk
  obtain⟨bs,hargs,hz⟩:=QL;let Θc:Nat->Nat:=fun b=>if Θ b=0\/ms.any (fun m=>Θ b==m+2)then 0 else 1
  have BM:∀b,Seen Θ ms b->Θc b=0:=by
   intro b h;simp only[Θc];rw[av];rcases h with h|⟨m,h1,h2⟩
   ·exact .inl h
   ·exact .inr (cL.2 ⟨m,h1,by simp[h2]⟩)
  have hc:=jO.2 w Θc _ bs hs.S2 hargs (fun b hb=>BM b (hz b hb)) (fun b hb=>hs.own b (fun e=>hb (BM b (.inl e)))) (fun b=>by simp only[Θc];split<;>omega);unfold Oper.wp;rw[pL hop jO.1,Oper.upon_enter];have e:xs.map a.eval=(xs.toList.map a.eval).toArray:=by rw[<-ec,gQ]
  rw[e];refine hc.mono ?_;rintro e w' ⟨v,bs',tb,ub,rfl,hb,hr',Cu,htb,hnd,hfr,hsub⟩;show K (a.put o.dst v) w';rw[hd];rcases hi with hi|⟨hown,Gs,Ex⟩
  rotate_left
  ·cases hr' with
   |gj=>cases hown
   |v hv=>
    have vh:bs'=[]:=hv.own (by
     unfold D.RG at hown;split at hown
     ·cases hown
     ·exact hown)
    obtain⟨b,q,s⟩:=hv.uz;have hp:place H' p.r p.obs=H':=by rw[Ex];simp[place]
    refine hK κ Θ _ w' ?_ (fun _ _=>rfl);rw[hp,Gs];refine(hs.grow hb).set ht (.v (.cell (.pure q))) fun x hx'=>?_
    rcases s x hx' with h|h
    ·rw[vh]at h;cases h
    ·by_cases h0:Θ x=0
     ·exact h0
     ·have:=hs.own x h0;have:=(hfr x h).1;omega
  obtain⟨L,q1,q2,q3,q4,q6,q5⟩:=hr'.inst p.r;rw[hi]at q1 q5;simp only at q1 q5;have hbz:∀b∈bs',Θ b=0:=by
   intro b hb';rcases hsh with DA|hown
   ·by_cases hlt:b<w.heap.size
    ·have h0:=Cu b hb' hlt;simp only[Θc,DA,List.any_nil]at h0;by_cases h1:Θ b=0
     ·exact h1
     ·simp[h1]at h0
    ·by_cases h0:Θ b=0
     ·exact h0
     ·exact absurd (hs.own b h0) hlt
   ·rw[hr'.own hown]at hb';cases hb'
  have Wb:L.length=p.obs.length:=by have:=congrArg List.length q1;simpa using this
  obtain⟨κ',Θ',hs',hnm,_,hno,hsame⟩:=hs.DW hb L q2 (q3▸hnd) (fun b hb'=>hfr b (q3▸hb')) (fun x hx hx' b hb'=>⟨hbz b (q6 x hx hx' b hb'),q4▸htb b (q6 x hx hx' b hb')⟩) p.r (place H' p.r p.obs) (fun i hi'=>hfree i (by omega)) (by rw[nY hr];exact bM _) (by rw[nY hr];omega) (by
   intro j y hj;rw[nX hr]at hj;split at hj
   ·rename_i h1;exact .inr ⟨.inl h1,.inr hj⟩
   ·rename_i h1;split at hj
    ·rename_i h2;rw[<-q1,bS]at hj;cases hx':L[j-p.r]? with
     |none=>simp[hx']at hj
     |some x=>simp[hx']at hj;exact .inl ⟨j-p.r,x,by omega,hx',hj.symm⟩
    ·exact .inr ⟨.inr (by omega),.inr hj⟩)
  obtain⟨b0,Jn,CN⟩:=q5 κ' hnm;refine hK κ' Θ' _ w' (hs'.set (t:=t) ht Jn fun b hb'=>?_) (fun j hj=>hsame j (by omega));rw[hno b (q4▸htb b (CN b hb'))];exact hbz b (CN b hb')
theorem cX.Fp{σ:List (Nat×D)}{H':ax}(hs:cX Γ ⟨σ,H'⟩ κ Θ a w){r:Nat}(hr:r+1<=H'.length)(hfree:κ r=none){cs:Array Value}{ds:aG}{bs:aI}(T:TypeId)(hrd:dQ w κ cs.toList ds bs)(hz:∀b∈bs,Θ b=0):
 cX Γ ⟨σ,place H' r [.box ds]⟩ (qY κ r (some (.pointer (some ⟨w.heap.size,0,none⟩)))) (fun b=>if b=w.heap.size then r+2 else Θ b) a (w.alloc (.cells cs T)):=by
 have k:=fD.alloc hs (.cells cs T) (tag:=r+2) (by omega);have hn:=qD hfree (some (Value.pointer (some ⟨w.heap.size,0,none⟩)));obtain⟨h1,h2⟩:=dQ.stay k hn hrd hz;obtain⟨ρ,hu⟩:=hs.mi;refine hs.put (id:=r) (o:=.box ds) [] ?_ hn ?_ ?_ k (hs.rP (fun b hb=>by by_cases e:b=w.heap.size<;>simp_all)) ?_ hu (by simp) (by intro e sz rows h;cases h)
 ·intro j y hj;rw[nX (by simpa using hr)]at hj;split at hj
  ·exact .inr ⟨by omega,hj⟩
  ·split at hj
   ·rename_i h2;simp only[aO,bH]at h2;have e:j=r:=by omega
    subst e;simp at hj;exact .inl ⟨rfl,hj.symm⟩
   ·rename_i h2;simp only[aO,bH]at h2;exact .inr ⟨by omega,hj⟩
 ·intro i hi;rw[nY (by simpa using hr)]at hi;unfold qY;rw[ai (by omega)];exact hs.kQ i hi
 ·intro i x hx;unfold qY at hx;split at hx
  ·cases hx;rfl
  ·exact hs.kC i x hx
 ·exact⟨w.heap.size,cs,T,by simp[qY],heap_alloc_new w _,by simp,bs,h1,h2⟩
theorem Dx.wp{Q':Exit->Act->World->Prop}{σ:List (Nat×D)}{H H':ax}{o:Oper}{p:Cp}{K:Act->World->Prop}(hs:cX Γ ⟨σ,H'⟩ κ Θ a w){t:Nat}(hd:o.dst=some t)(ht:t<Γ.nt)(h:Dx P H σ o p)
 (hr:p.r+p.obs.length<=H'.length) (hfree:∀i,i<p.obs.length->κ (p.r+i)=none)
 (hK:∀κ' Θ' a' w',cX Γ ⟨(t,p.d)::σ,place H' p.r p.obs⟩ κ' Θ' a' w'->(∀j,(j<p.r\/p.r+p.obs.length<=j)->κ' j=κ j)->K a' w'):o.wp P a w K Q':=by
 rcases h with⟨T,zs,hop,hz,Gs,Ex⟩|⟨T,x,ds,hop,hc,Gs,Ex⟩
 ·rw[Ex]at hr hfree hK;rw[Gs]at hK;obtain⟨i,z,hi,qX,hsz,hlen,hone,rfl⟩:=pz hz;have hs':=hs.Fp (r:=p.r) hr (by simpa using hfree 0 (by simp)) T (cs:=z.cells) (uF z.cells.toList hone) (by simp);unfold Oper.wp;have hrun:(execOp a.eval o).run P w=.ok (.value (.pointer (some ⟨w.heap.size,0,none⟩))) (w.alloc (.cells z.cells T)):=by
   simp[execOp,hop,Instr.alloc,zeroValue,typeInfo,hi,qX,newVar,newRow]
  rw[hrun,Oper.upon_value,hd];refine hK _ _ _ _ (hs'.set (t:=t) (d:=.ptr p.r 0) (bs:=[]) ht ?_ (by simp)) (fun j hj=>?_)
  ·exact(rD.ptr p.r 0 w.heap.size (by simp[qY])).Dj
  ·unfold qY;simp only[aO,bH]at hj;rw[ai (by omega)]
 ·rw[Ex]at hr hfree hK;rw[Gs]at hK;obtain⟨bs,rr,hz⟩:=hs.ev x;rw[FM σ H' H x]at rr;have hcs:=tZ hs.kC rr hc;have hs':=hs.Fp (r:=p.r) hr (by simpa using hfree 0 (by simp)) T hcs hz;unfold Oper.wp;have hrun:(execOp a.eval o).run P w=.ok (.value (.pointer (some ⟨w.heap.size,0,none⟩))) (w.alloc (.cells (a.eval x).cells T)):=by
   simp[execOp,hop,Instr.box,newVar,newRow]
  rw[hrun,Oper.upon_value,hd];refine hK _ _ _ _ (hs'.set (t:=t) (d:=.ptr p.r 0) (bs:=[]) ht ?_ (by simp)) (fun j hj=>?_)
  ·exact(rD.ptr p.r 0 w.heap.size (by simp[qY])).Dj
  ·unfold qY;simp only[aO,bH]at hj;rw[ai (by omega)]
theorem cX.Lv{σ:List (Nat×D)}{H':ax}(hs:cX Γ ⟨σ,H'⟩ κ Θ a w){r:Nat}(hr:r+1<=H'.length)(hfree:κ r=none){u:Bool}{e sz cap:Nat}{rows:List aG}{bs:aI}(cur:Array Value)(hsz:0<sz)(hrl:∀x∈rows,x.length=sz)
 (CL:cur.size=cap*sz) (hn:rows.length<=cap) (hcap:cap<=maxLen) (hrd:iT w (cur.toList.take (rows.length*sz)) rows.flatten bs) (hz:∀b∈bs,Θ b=0) (hq:u=true->bs=[]/\qG w (ol e) 0 (cur.toList.take (rows.length*sz)) rows.flatten bs):
 cX Γ ⟨σ,place H' r [.row (pg u) e sz rows]⟩ (qY κ r (some (.slice (some ⟨w.heap.size,0,none⟩) rows.length cap))) (fun b=>if b=w.heap.size then r+2 else Θ b) a (w.alloc (.cells cur e)):=by
 have k:=fD.alloc hs (.cells cur e) (tag:=r+2) (by omega);have hkn:=qD hfree (some (Value.slice (some ⟨w.heap.size,0,none⟩) rows.length cap));obtain⟨h1,h2⟩:=iT.over k hrd hz;have hlen:(cur.toList.take (rows.length*sz)).length=rows.length*sz:=by
  have:rows.length*sz<=cap*sz:=cr _ hn;have h3:cur.toList.length=cap*sz:=by rw[<-CL];simp
  rw[bK,h3,dN this]
 have hown:(w.alloc (.cells cur e)).ownsRow 0 e sz (.slice (some ⟨w.heap.size,0,none⟩) rows.length cap) rows.length (cur.toList.take (rows.length*sz)):=
  ⟨hlen,.inr ⟨w.heap.size,cap,cur,rfl,by omega,heap_alloc_new w _,hn,hcap,CL,rfl⟩⟩
 obtain⟨ρ,hu⟩:=hs.mi;refine hs.put (id:=r) (o:=.row (pg u) e sz rows) [] ?_ hkn ?_ ?_ k (hs.rP (fun b hb=>by by_cases e:b=w.heap.size<;>simp_all)) ?_ hu (by simp) ?_
 ·intro j y hj;rw[nX (by simpa using hr)]at hj;split at hj
  ·exact .inr ⟨by omega,hj⟩
  ·split at hj
   ·rename_i h2;simp only[aO,bH]at h2;have e:j=r:=by omega
    subst e;simp at hj;exact .inl ⟨rfl,hj.symm⟩
   ·rename_i h2;simp only[aO,bH]at h2;exact .inr ⟨by omega,hj⟩
 ·intro i hi;rw[nY (by simpa using hr)]at hi;unfold qY;rw[ai (by omega)];exact hs.kQ i hi
 ·intro i x hx;unfold qY at hx;split at hx
  ·cases hx;rfl
  ·exact hs.kC i x hx
 ·refine⟨hsz,hrl,_,_,bs,by simp[qY],hown,h1,?_,?_⟩
  ·intro g hg;simp only[Value.ownBlock,aS]at hg;subst hg;simp
  ·cases u<;>exact h2
 ·intro e' sz' cw he;cases u with
  |false=>simp[pg]at he
  |true=>
   simp only[pg,Ob.row.injEq,rX]at he;obtain⟨rfl,rfl,rfl⟩:=he;obtain⟨h0,hF⟩:=hq rfl;subst h0;exact⟨_,_,[],by simp[qY],hown,hF.over k hz,by simp,by simp⟩
theorem Dz.wp{Q':Exit->Act->World->Prop}{σ:List (Nat×D)}{H H':ax}{o:Oper}{p:Cp}{K:Act->World->Prop}(hs:cX Γ ⟨σ,H'⟩ κ Θ a w)(hx:Ext H H'){t:Nat}(hd:o.dst=some t)(ht:t<Γ.nt)(h:Dz P H σ o p)
 (hr:p.r+p.obs.length<=H'.length) (hfree:∀i,i<p.obs.length->κ (p.r+i)=none)
 (hK:∀κ' Θ' a' w',cX Γ ⟨(t,p.d)::σ,place H' p.r p.obs⟩ κ' Θ' a' w'->(∀j,(j<p.r\/p.r+p.obs.length<=j)->κ' j=κ j)->K a' w'):o.wp P a w K Q':=by
 obtain⟨T,e,sz,len,parts,zs,ds,es,hop,hT,hz,hsz,hsmall,hf,habs,Gs,Ex⟩:=h;rw[Ex]at hr hfree hK;rw[Gs]at hK;have hf':qS (mX len sz) (List.replicate len zs).flatten (parts.toList.map fun q=>(q.1,St.ev ⟨σ,H'⟩ q.2))=some ds:=by
  rw[<-hf];congr 1
 obtain⟨arr,b0,hrun,D6,hb0,hal,hdl⟩:=rp (st:=⟨σ,H'⟩) hop hT hz hsz hsmall hf' hs;obtain⟨ρ,hu⟩:=hs.mi;obtain⟨bs,q1,q2,q3⟩:=GR (H:=H) (ρ:=ρ) habs (by simp) D6 hb0 (by simp) e 0;have hel:es.length=len*sz:=by rw[<-q1.length,D6.length,hdl]
 obtain⟨c1,c2,c3⟩:=w4 sz len es hel;have hs':=hs.Lv (r:=p.r) hr (by simpa using hfree 0 (by simp)) (u:=Jd H e 0 ds) (e:=e) (sz:=sz) (cap:=len) (rows:=chunk sz len es) (bs:=bs) arr hsz c3 hal (by rw[c1];exact bM _)
  (by unfold maxLen;have:len*1<=len*sz:=fe _ hsz;omega) (by rw[c1,c2,gu (by simp[hal])];exact q1) q2
  (fun hq=>by
   obtain⟨_,h2,h3⟩:=q3 hq;refine⟨?_,by rw[c1,c2,gu (by simp[hal])];exact h3⟩;cases bs with
   |nil=>rfl
   |cons b bs=>obtain⟨m,hm,_⟩:=h2 b (by simp);cases hm)
 unfold Oper.wp;rw[hrun,Oper.upon_value,hd];rw[c1]at hs';refine hK _ _ _ _ (hs'.set (t:=t) (d:=.acc p.r) (bs:=[]) ht ?_ (by simp)) (fun j hj=>?_)
 ·exact(rD.acc p.r _ (by simp[qY])).Dj
 ·unfold qY;simp only[aO,bH]at hj;rw[ai (by omega)]
theorem Dy.wp{Q':Exit->Act->World->Prop}{σ:List (Nat×D)}{H H':ax}{o:Oper}{p:Cp}{K:Act->World->Prop}(hs:cX Γ ⟨σ,H'⟩ κ Θ a w){t:Nat}(hd:o.dst=some t)(ht:t<Γ.nt)(h:Dy P H σ o p)
 (hK:∀κ' Θ' a' w',cX Γ ⟨(t,p.d)::σ,place H' p.r p.obs⟩ κ' Θ' a' w'->(∀j,(j<p.r\/p.r+p.obs.length<=j)->κ' j=κ j)->K a' w'):o.wp P a w K Q':=by
 obtain⟨T,e,sz,len,parts,zs,ds,hop,hT,hz,hsz,hsmall,hf,VK,SZ,Gs,Ex⟩:=h;rw[Ex]at hK;rw[Gs]at hK;have hf':qS (mX len sz) (List.replicate len zs).flatten (parts.toList.map fun q=>(q.1,St.ev ⟨σ,H'⟩ q.2))=some ds:=by
  rw[<-hf];congr 1
 obtain⟨arr,b0,hrun,D6,hb0,hal,hdl⟩:=rp (st:=⟨σ,H'⟩) hop hT hz hsz hsmall hf' hs;have hrd:=D6.pure VK;have Uz:b0=[]:=hrd.flat SZ;subst Uz;obtain⟨c1,c2,c3⟩:=w4 sz len ds hdl;have CI:Below w.heap.size w (w.alloc (.cells arr e)):=by
  have k:=fD.alloc hs (.cells arr e) (tag:=2) (by omega);refine⟨k.os,k.tape,k.output,k.size,fun b hlt=>?_⟩;simp only[World.alloc];rw[Array.getElem?_push,ai (by omega)]
 have hs':=hs.grow CI;unfold Oper.wp;rw[hrun,Oper.upon_value,hd];have hpl:place H' p.r ([]:ax)=H':=by simp[place]
 rw[hpl]at hK;refine hK _ _ _ _ (hs'.set (t:=t) (d:=.sl (chunk sz len ds)) (bs:=[w.heap.size]) ht ?_ ?_) (fun j hj=>rfl)
 ·have hcell:∀j c,arr.toList[j]?=some c->(w.alloc (.cells arr e)).cell? ⟨w.heap.size,0+j,none⟩=some c:=by
   intro j c hj;simp only[cP,World.cell?,heap_alloc_new w _];simpa using hj
  have hlt:w.heap.size<(w.alloc (.cells arr e)).heap.size:=(aX.1 (heap_alloc_new w _)).1;have:=Rd.sl (w:=w.alloc (.cells arr e)) w.heap.size 0 len sz (chunk sz len ds) arr.toList [] hlt (by rw[c1];exact bM _) (by unfold maxLen;have:len*1<=len*sz:=fe _ hsz;omega) c3 hcell (by rw[c2];exact hrd.keep (by simp));rw[c1]at this;exact .of this
 ·intro b hb;simp only[cO]at hb;subst hb;cases h:Θ w.heap.size with
  |zero=>rfl
  |succ m=>exact absurd (hs.own w.heap.size (by omega)) (by omega)
theorem z7.wp{Q':Exit->Act->World->Prop}{σ:List (Nat×D)}{H H':ax}{o:Oper}{p:Cp}{K:Act->World->Prop}(hs:cX Γ ⟨σ,H'⟩ κ Θ a w)(hx:Ext H H'){t:Nat}(hd:o.dst=some t)(ht:t<Γ.nt)(h:z7 P H σ o p)
 (hr:p.r+p.obs.length<=H'.length) (hfree:∀i,i<p.obs.length->κ (p.r+i)=none)
 (hK:∀κ' Θ' a' w',cX Γ ⟨(t,p.d)::σ,place H' p.r p.obs⟩ κ' Θ' a' w'->(∀j,(j<p.r\/p.r+p.obs.length<=j)->κ' j=κ j)->K a' w'):o.wp P a w K Q':=by
 rcases h with h|h|h|h
 ·exact h.wp hs hx hd ht hr hfree hK
 ·exact h.wp hs hd ht hr hfree hK
 ·exact h.wp hs hx hd ht hr hfree hK
 ·exact h.wp hs hd ht hK
theorem cX.Mh(hs:cX Γ st κ Θ a w){ops:Array Oper}{j s:Nat}(hj:(ops[j]?).bind (·.dst)=some s)(hb:lk st.σ s=.gj []):yielded ops a.tmps j=none:=by
 obtain⟨bs,r,_⟩:=hs.slot s;rw[hb]at r;have hv:=r.Dk;rcases cg s a.tmps.size with hlt|hlt
 ·have h1:a.tmps[s]?=some (.tuple #[]):=by
   rw[bU,bf hlt]at hv;rw[bf hlt];simpa using hv
  simp[yielded,hj,h1]
 ·simp[yielded,hj,lZ hlt]
def Cp.tS(p:Cp)(H':ax):ax:=match p.up with|some (id,ob)=>H'.set id ob|none=>place H' p.r p.obs
theorem nC.wp{Q':Exit->Act->World->Prop}{σ:List (Nat×D)}{H H':ax}{ops:Array Oper}{i:Nat}{o:Oper}{p:Cp}{K:Act->World->Prop}(hs:cX Γ ⟨σ,H'⟩ κ Θ a w)(hx:Ext H H')(hi:ops[i]?=some o)(h:nC P Γ ops H σ o p)
 (hr:p.r+p.obs.length<=H'.length) (hfree:∀i,i<p.obs.length->κ (p.r+i)=none) (GK:∀id ob,p.up=some (id,ob)->∃zs ds,H'[id]?=some (.box zs)/\ob=.box ds/\zs.length=ds.length)
 (hK:∀κ' Θ' a' w',cX Γ ⟨p.slot σ,p.tS H'⟩ κ' Θ' a' w'->(∀j,(j<p.r\/p.r+p.obs.length<=j)->κ' j=κ j)->K a' w'):wpOp P ops Q' i K a w:=by
 rcases h with⟨t,hpt,IK,hd,ht,h⟩|⟨hpt,Ex,hd,hg,T,x,y,id,ds,hop,hev,hlen,hc,hT,hl,IK⟩
 ·have e1:p.slot σ=(t,p.d)::σ:=by simp[Cp.slot,hpt]
  have e2:p.tS H'=place H' p.r p.obs:=by simp[Cp.tS,IK]
  rw[e1,e2]at hK;rcases h with⟨hg,hc⟩|⟨j,s,want,b,hg,hj,hb,hc⟩|⟨j,s,want,hg,hj,hb,QK,hno⟩
  ·exact sS hi (by simp[Region.wanted,hg]) (hc.wp hs hx hd ht hr hfree hK)
  ·have hy:=hs.Rq hj hb;rcases hc with⟨rfl,hc⟩|⟨hne,QK,hno⟩
   ·exact sS hi (by simp[Region.wanted,hg,hy]) (hc.wp hs hx hd ht hr hfree hK)
   ·unfold wpOp;have hw:Region.wanted o (yielded ops a.tmps)=false:=by simp[Region.wanted,hg,hy,hne]
    simp only[hi,hw,rT,rW,hd];have hp:place H' p.r p.obs=H':=by rw[hno];simp[place]
    exact hK κ Θ _ _ (by rw[hp,QK];exact hs.set ht (.gj [] [] [] .nil) (by simp)) (fun _ _=>rfl)
  ·have hy:=hs.Mh hj hb;unfold wpOp;have hw:Region.wanted o (yielded ops a.tmps)=false:=by simp[Region.wanted,hg,hy]
   simp only[hi,hw,rT,rW,hd];have hp:place H' p.r p.obs=H':=by rw[hno];simp[place]
   exact hK κ Θ _ _ (by rw[hp,QK];exact hs.set ht (.gj [] [] [] .nil) (by simp)) (fun _ _=>rfl)
 ·have e1:p.slot σ=σ:=by simp[Cp.slot,hpt]
  have e2:p.tS H'=H'.set id (.box ds):=by simp[Cp.tS,IK]
  rw[e1,e2]at hK;obtain⟨zs,ds',hz,he,hzl⟩:=GK id _ IK;cases he;obtain⟨w',hrun,hs'⟩:=Dh (st:=⟨σ,H'⟩) hop (by rw[FM σ H' H x];exact hev) hz rfl (by rw[FM σ H' H y];exact hc) hT hl (by omega) rfl hs;refine sS hi (by simp[Region.wanted,hg]) ?_;unfold Oper.wp;rw[hrun,Oper.upon_skip,hd];have e3:zs.take 0++ds++zs.drop (0+ds.length)=ds:=by
   rw[uT (by omega)];simp
  rw[e3]at hs';exact hK κ Θ _ _ hs' (fun _ _=>rfl)
theorem AX.congr{H:ax}{σ σ':List (Nat×D)}{o:Oper}{p:Cp}(he:∀x∈o.op.operands.toList,St.ev ⟨σ,H⟩ x=St.ev ⟨σ',H⟩ x)(h:AX P H σ o p):AX P H σ' o p:=by
 rcases h with⟨h,hno⟩|⟨f,xs,ts,ds,ms,d,hop,hds,hsh,jO,hi⟩
 ·exact .inl ⟨Ed (fun _ _ h=>h) he h,hno⟩
 ·have hm:xs.toList.map (St.ev ⟨σ,H⟩)=xs.toList.map (St.ev ⟨σ',H⟩):=by
   apply iF;intro x hx;refine he x ?_;rw[hop];simp only[Op.operands,Call.operands,iE,aH];exact .inr hx
  rw[hm]at hds;exact .inr ⟨f,xs,ts,ds,ms,d,hop,hds,hsh,jO,hi⟩
theorem z7.congr{H:ax}{σ σ':List (Nat×D)}{o:Oper}{p:Cp}(he:∀x∈o.op.operands.toList,St.ev ⟨σ,H⟩ x=St.ev ⟨σ',H⟩ x)(h:z7 P H σ o p):z7 P H σ' o p:=by
 rcases h with h| (h|⟨T,x,ds,hop,hc,Gs,Ex⟩)|⟨T,e,sz,len,parts,zs,ds,es,hop,hT,hz,hsz,hsmall,hf,habs,Gs,Ex⟩|⟨T,e,sz,len,parts,zs,ds,hop,hT,hz,hsz,hsmall,hf,habs,hfl,Gs,Ex⟩
 ·exact .inl (h.congr he)
 ·exact .inr (.inl (.inl h))
 ·exact .inr (.inl (.inr ⟨T,x,ds,hop,by rw[<-he x (by rw[hop];simp[Op.operands])];exact hc,Gs,Ex⟩))
 ·refine .inr (.inr (.inl ⟨T,e,sz,len,parts,zs,ds,es,hop,hT,hz,hsz,hsmall,?_,habs,Gs,Ex⟩));rw[<-hf]
  congr 1
  apply iF;intro q hq;rw[he q.2 ?_];rw[hop];simp only[Op.operands,ec];exact cG.2 ⟨q,hq,rfl⟩
 ·refine .inr (.inr (.inr ⟨T,e,sz,len,parts,zs,ds,hop,hT,hz,hsz,hsmall,?_,habs,hfl,Gs,Ex⟩));rw[<-hf]
  congr 1
  apply iF;intro q hq;rw[he q.2 ?_];rw[hop];simp only[Op.operands,ec];exact cG.2 ⟨q,hq,rfl⟩
theorem nC.congr{H:ax}{σ σ':List (Nat×D)}{ops:Array Oper}{o:Oper}{p:Cp}(he:∀t∈o.looksAt ops,lk σ t=lk σ' t)(h:nC P Γ ops H σ o p):nC P Γ ops H σ' o p:=by
 have hev:=CD (st:=⟨σ,H⟩) (mh:=⟨σ',H⟩) he;have Wo:∀ {j s:Nat} {want:Bool},o.guard=some (j,want)->(ops[j]?).bind (·.dst)=some s->lk σ s=lk σ' s:=by
  intro j s want hg hj;refine he s ?_;unfold Oper.looksAt;refine aH.2 (.inr ?_);simp[hg,hj]
 rcases h with⟨t,hpt,IK,hd,ht,h⟩|⟨hpt,Ex,hd,hg,T,x,y,id,ds,hop,hx,hlen,hc,hT,hl,IK⟩
 ·refine .inl ⟨t,hpt,IK,hd,ht,?_⟩;rcases h with⟨hg,hc⟩|⟨j,s,want,b,hg,hj,hb,hc⟩|⟨j,s,want,hg,hj,hb,hc⟩
  ·exact .inl ⟨hg,hc.congr hev⟩
  ·refine .inr (.inl ⟨j,s,want,b,hg,hj,by rw[<-Wo hg hj];exact hb,?_⟩);rcases hc with⟨h1,hc⟩|hc
   ·exact .inl ⟨h1,hc.congr hev⟩
   ·exact .inr hc
  ·exact .inr (.inr ⟨j,s,want,hg,hj,by rw[<-Wo hg hj];exact hb,hc⟩)
 ·refine .inr ⟨hpt,Ex,hd,hg,T,x,y,id,ds,hop,?_,hlen,?_,hT,hl,IK⟩
  ·rw[<-hev x (by rw[hop];simp[Op.operands])];exact hx
  ·rw[<-hev y (by rw[hop];simp[Op.operands])];exact hc
def Cp.sl(p:Cp):Option (Nat×D):=p.t.map fun t=>(t,p.d)
theorem Cp.OP(p:Cp)(σ:List (Nat×D)):p.slot σ=p.sl.toList++σ:=by
 unfold Cp.slot Cp.sl;cases p.t<;>rfl
theorem Bq(p:Cp)(ps:List Cp)(σ:List (Nat×D)):((p::ps).filterMap Cp.sl).reverse++σ=(ps.filterMap Cp.sl).reverse++p.slot σ:=by
 rw[Cp.OP,qn];cases p.sl<;>simp
theorem nC.Mi{H:ax}{σ:List (Nat×D)}{o:Oper}{p:Cp}(h:nC P Γ all H σ o p):p.up=none\/p.obs=[]:=by
 rcases h with⟨_,_,h,_⟩|⟨_,h,_⟩
 ·exact .inl h
 ·exact .inr h
theorem nC.slots{H:ax}{σ:List (Nat×D)}{o:Oper}{p:Cp}(h:nC P Γ all H σ o p):o.dst=p.t:=by
 rcases h with⟨t,h1,_,h2,_⟩|⟨h1,_,h2,_⟩
 ·rw[h1,h2]
 ·rw[h1,h2]
theorem BE.unfold{H:ax}{K:List (Nat×D)->ax->Prop}:∀(l:List Oper) (σ:List (Nat×D)) (acc:ax) (U:aI),BE P Γ all H K l σ acc U->
 ∃(ps:List Cp) (BZ:ax),ps.length=l.length/\(∀(i:Nat) o p,l[i]?=some o->ps[i]?=some p->nC P Γ all H (((ps.take i).filterMap Cp.sl).reverse++σ) o p/\p.r=H.length+acc.length+((ps.take i).flatMap Cp.obs).length/\
  ∀id ob,p.up=some (id,ob)->id∉U/\H.length<=id/\(∃zs ds,ob=.box ds/\zs.length=ds.length/\(acc++(ps.take i).flatMap Cp.obs)[id-H.length]?=some (.box zs))/\∀(i2:Nat) q tV,i2<i->ps[i2]?=some q->q.up≠some (id,tV))/\
  K ((ps.filterMap Cp.sl).reverse++σ) BZ/\BZ.length=acc.length+(ps.flatMap Cp.obs).length/\
  (∀k,(∀(i:Nat) q ob,ps[i]?=some q->q.up≠some (H.length+k,ob))->BZ[k]?=(acc++ps.flatMap Cp.obs)[k]?)/\
  ∀(i:Nat) q id ob,ps[i]?=some q->q.up=some (id,ob)->BZ[id-H.length]?=some ob:=by
 intro l
 induction l with
 |nil=>
  intro σ acc U h;have h:K σ acc:=h;exact⟨[],acc,rfl,by simp,by simpa using h,by simp,by simp,by simp⟩
 |cons o l ih=>
  intro σ acc U h;obtain⟨p,hr,hc,hok,oG⟩:=h;obtain⟨ps,BZ,h1,h2,h3,h4,h5,h6⟩:=ih _ _ _ oG;cases GK:p.up with
  |none=>
   have ef:p.fill H.length acc=acc++p.obs:=by simp[Cp.fill,GK]
   have eu:p.U2 U=U:=by simp[Cp.U2,GK]
   rw[ef]at h2 h4 h5;rw[eu]at h2;refine⟨p::ps,BZ,by simp[h1],?_,by rw[Bq];exact h3,by rw[h4];simp;omega,?_,?_⟩
   ·intro i o' p' ho hp;cases i with
    |zero=>
     simp at ho hp;subst ho;subst hp;refine⟨by simpa using hc,by simpa using hr,?_⟩;intro id ob he;rw[GK]at he;cases he
    |succ i=>
     simp at ho hp;obtain⟨q1,q2,q3⟩:=h2 i o' p' ho hp;refine⟨by rw[fc,Bq];exact q1,by rw[q2];simp;omega,?_⟩;intro id ob he;obtain⟨r1,r2,⟨zs,ds,r3,r4,r5⟩,r6⟩:=q3 id ob he;refine⟨r1,r2,⟨zs,ds,r3,r4,by rw[<-r5];simp⟩,?_⟩;intro i2 q tV hlt hq;cases i2 with
     |zero=>simp at hq;subst hq;rw[GK];simp
     |succ i2=>exact r6 i2 q tV (by omega) (by simpa using hq)
   ·intro k hk;rw[h5 k (fun i q ob hq=>hk (i+1) q ob (by simpa using hq))];simp
   ·intro i q id ob hq he;cases i with
    |zero=>simp at hq;subst hq;rw[GK]at he;cases he
    |succ i=>exact h6 i q id ob (by simpa using hq) he
  |some x=>
   obtain⟨IQ,WE⟩:=x;have ef:p.fill H.length acc=acc.set (IQ-H.length) WE:=by simp[Cp.fill,GK]
   have eu:p.U2 U=IQ::U:=by simp[Cp.U2,GK]
   have Jm:p.obs=[]:=by
    rcases hc.Mi with h|h
    ·rw[h]at GK;cases GK
    ·exact h
   rw[ef]at h2 h4 h5;rw[eu]at h2;simp only[Cp.U1,GK]at hok;obtain⟨u1,u2,Z0,Om,u3,u4,u5⟩:=hok;have kP:∀(X:ax) (k:Nat),k≠IQ-H.length->(acc.set (IQ-H.length) WE++X)[k]?=(acc++X)[k]?:=by
    intro X k hk;by_cases hl:k<acc.length
    ·rw[aV (by simpa using hl),aV hl,bO (ld hk)]
    ·rw[aY (by simpa using hl),aY (by omega)];simp
   have hno:∀(i:Nat) q tV,ps[i]?=some q->q.up≠some (IQ,tV):=by
    intro i q tV hq he;have hlt:i<l.length:=by have:=(aB.1 hq).1;omega
    have:=(h2 i l[i] q (aR hlt) hq).2.2 IQ tV he;exact this.1 (by simp)
   refine⟨p::ps,BZ,by simp[h1],?_,by rw[Bq];exact h3,by rw[h4];simp[Jm],?_,?_⟩
   ·intro i o' p' ho hp;cases i with
    |zero=>
     simp at ho hp;subst ho;subst hp;refine⟨by simpa using hc,by simpa using hr,?_⟩;intro id ob he;rw[GK]at he;cases he;exact⟨u1,u2,⟨Z0,Om,u4,u5,by simpa using u3⟩,by intro i2 q tV hlt;omega⟩
    |succ i=>
     simp at ho hp;obtain⟨q1,q2,q3⟩:=h2 i o' p' ho hp;refine⟨by rw[fc,Bq];exact q1,by rw[q2];simp[Jm],?_⟩;intro id ob he;obtain⟨r1,r2,⟨zs,ds,r3,r4,r5⟩,r6⟩:=q3 id ob he;have hne:id≠IQ:=fun e=>r1 (by simp[e])
     refine⟨fun h=>r1 (by simp[h]),r2,⟨zs,ds,r3,r4,?_⟩,?_⟩
     ·rw[<-r5,kP _ _ (by omega)];simp[Jm]
     ·intro i2 q tV hlt hq;cases i2 with
      |zero=>simp at hq;subst hq;rw[GK];intro e;cases e;exact hne rfl
      |succ i2=>exact r6 i2 q tV (by omega) (by simpa using hq)
   ·intro k hk;rw[h5 k (fun i q ob hq=>hk (i+1) q ob (by simpa using hq))];have hne:k≠IQ-H.length:=fun e=>hk 0 p WE rfl (by rw[GK,e,show H.length+(IQ-H.length)=IQ from by omega])
    rw[kP _ _ hne];simp[Jm]
   ·intro i q id ob hq he;cases i with
    |zero=>
     simp at hq;subst hq;rw[GK]at he;cases he;rw[h5 (IQ-H.length) (fun i q tV hq=>by rw[show H.length+(IQ-H.length)=IQ from by omega];exact hno i q tV hq)];have hl:IQ-H.length<acc.length:=(aB.1 u3).1;rw[aV (by simpa using hl),cT hl]
    |succ i=>exact h6 i q id ob (by simpa using hq) he
theorem cX.same{σ':List (Nat×D)}(h:∀t,lk st.σ t=lk σ' t)(hs:cX Γ st κ Θ a w):cX Γ ⟨σ',st.H⟩ κ Θ a w:=
 ⟨hs.defers,hs.size,hs.kQ,hs.kC,fun t=>by show∃bs,lf w κ _ (lk σ' t) bs/\_;rw[<-h t];exact hs.slot t,hs.ob,hs.own,hs.old,hs.mine,hs.stays,hs.mi⟩
theorem cX.room(hs:cX Γ st κ Θ a w)(m:Nat):cX Γ ⟨st.σ,st.H++List.replicate m .gone⟩ κ Θ a w:=by
 have key:∀(j:Nat) y,(st.H++List.replicate m .gone)[j]?=some y->y=.gone\/st.H[j]?=some y:=by
  intro j y hj;by_cases hlt:j<st.H.length
  ·rw[aV hlt]at hj;exact .inr hj
  ·rw[aY (by omega)]at hj;rw[List.getElem?_replicate]at hj;split at hj
   ·cases hj;exact .inl rfl
   ·cases hj
 obtain⟨ρ,hu⟩:=hs.mi;refine⟨hs.defers,hs.size,fun i hi=>hs.kQ i (by simp at hi;omega),hs.kC,hs.slot,?_,hs.own,hs.old,hs.mine,hs.stays,ρ,hu.free,?_,?_⟩
 ·intro j o hj;rcases key j o hj with rfl|h
  ·trivial
  ·exact hs.ob j o h
 ·intro id e sz rows hj;rcases key id _ hj with h|h
  ·cases h
  ·exact hu.rows id e sz rows h
 ·intro id o hj;rcases key id _ hj with h|h
  ·subst h;trivial
  ·exact hu.more id o h
theorem lF{ps:List Cp}{i:Nat}{p:Cp}(h:ps[i]?=some p):ps.flatMap Cp.obs=(ps.take i).flatMap Cp.obs++(p.obs++(ps.drop (i+1)).flatMap Cp.obs):=by
 have e:ps=ps.take i++(p::ps.drop (i+1)):=by
  obtain⟨hlt,rfl⟩:=aB.1 h;rw[uU,bR]
 conv=>lhs;rw[e]
 simp
theorem rF{ps:List Cp}:∀ {k:Nat},k<(ps.flatMap Cp.obs).length->∃(i:Nat) (p:Cp) (j:Nat),ps[i]?=some p/\j<p.obs.length/\k=((ps.take i).flatMap Cp.obs).length+j:=by
 induction ps with
 |nil=>intro k h;simp at h
 |cons p ps ih=>
  intro k h;by_cases hk:k<p.obs.length
  ·exact⟨0,p,k,rfl,hk,by simp⟩
  ·simp only[cy,af]at h;obtain⟨i,q,j,h1,h2,h3⟩:=ih (k:=k-p.obs.length) (by omega);refine⟨i+1,q,j,by simpa using h1,h2,?_⟩;rw[fc,cy,af];omega
theorem De{ps:List Cp}{i j:Nat}{p:Cp}(hp:ps[i]?=some p)(hij:i<j):((ps.take i).flatMap Cp.obs).length+p.obs.length<=((ps.take j).flatMap Cp.obs).length:=by
 have h:(ps.take j)[i]?=some p:=by rw[bg,av hij];exact hp
 have:=lF h;rw[this];have e:(ps.take j).take i=ps.take i:=by rw[nA,dN (by omega)]
 rw[e];simp only[af];omega
theorem NF{id:Nat}{l:List Oper}(n:Nat)(hm:P.follows .mixedOrders=true)(hB:Kb l.toArray n=true)
 (h:BE P Γ l.toArray st.H (fun σ acc=>AO P Γ l.toArray (l.drop n) Q ⟨σ,st.H++acc⟩) (l.take n) st.σ [] []):AW P Γ (.region id l.toArray true) Q st:=by
 simp only[Kb,aN,iP,bJ]at hB;obtain⟨⟨⟨hn,hsc⟩,Ng⟩,BL⟩:=hB;obtain⟨ps,BZ,hlen,CK,hK,Ur,SJ,Us⟩:=BE.unfold _ _ _ _ h;simp only[iQ,bH,rA,cP]at CK hK Ur SJ;have hn':n<=l.length:=by simpa using hn
 have hpl:ps.length=n:=by rw[hlen];simp;omega
 have hop:∀(i:Nat),i<n->∃o p,l.toArray[i]?=some o/\ps[i]?=some p/\o.dst=p.t/\nC P Γ l.toArray st.H (((ps.take i).filterMap Cp.sl).reverse++st.σ) o p/\p.r=st.H.length+((ps.take i).flatMap Cp.obs).length:=by
  intro i hi;have h1:l[i]?=some l[i]:=aR (by omega);have h2:ps[i]?=some ps[i]:=aR (by omega);have h3:=CK i l[i] ps[i] (by rw[bg,av hi];exact h1) h2;exact⟨l[i],ps[i],by simp[dW,h1],h2,h3.1.slots,h3.1,h3.2.1⟩
 have Gt:∀(i:Nat) p,ps[i]?=some p->p.r=st.H.length+((ps.take i).flatMap Cp.obs).length:=by
  intro i p hp;have hi:i<n:=by have:=(aB.1 hp).1;omega
  obtain⟨_,p',_,hp',_,_,hr⟩:=hop i hi;rw[hp]at hp';cases hp';exact hr
 have EI:∀(i:Nat) p id ob,ps[i]?=some p->p.up=some (id,ob)->st.H.length<=id/\(∃zs ds,ob=.box ds/\zs.length=ds.length/\((ps.take i).flatMap Cp.obs)[id-st.H.length]?=some (.box zs))/\∀(i2:Nat) q tV,i2<i->ps[i2]?=some q->q.up≠some (id,tV):=by
  intro i p id ob hp he;have hi:i<n:=by have:=(aB.1 hp).1;omega
  have h1:l[i]?=some l[i]:=aR (by omega);have h3:=(CK i l[i] p (by rw[bg,av hi];exact h1) hp).2.2 id ob he;exact⟨h3.2.1,h3.2.2.1,h3.2.2.2⟩
 have LF:∀(i j:Nat) p q id ob tV,ps[i]?=some p->ps[j]?=some q->p.up=some (id,ob)->q.up=some (id,tV)->i=j:=by
  intro i j p q id ob tV hp hq he yh;rcases ot i j with h|h|h
  ·exact absurd he ((EI j q id tV hq yh).2.2 i p ob h hp)
  ·exact h
  ·exact absurd yh ((EI i p id ob hp he).2.2 j q tV h hq)
 have LG:∀(i:Nat) p id ob,ps[i]?=some p->p.up=some (id,ob)->p.obs=[]:=by
  intro i p id ob hp he;have hi:i<n:=by have:=(aB.1 hp).1;omega
  obtain⟨_,p',_,hp',_,hc,_⟩:=hop i hi;rw[hp]at hp';cases hp';rcases hc.Mi with h|h
  ·rw[h]at he;cases he
  ·exact h
 have hfit:∀(i:Nat) p,ps[i]?=some p->p.r+p.obs.length<=st.H.length+(ps.flatMap Cp.obs).length:=by
  intro i p hp;rw[Gt i p hp,lF hp];simp only[af];omega
 have EE:∀(i j:Nat) p q,ps[i]?=some p->ps[j]?=some q->i<j->p.r+p.obs.length<=q.r:=by
  intro i j p q hp hq hij;rw[Gt i p hp,Gt j q hq];have:=De hp hij;omega
 have hdist:∀(i j:Nat) p q t,ps[i]?=some p->ps[j]?=some q->p.t=some t->q.t=some t->i=j:=by
  intro i j p q t hp hq V9 yh;have hi:i<n:=by have:=(aB.1 hp).1;omega
  have hj:j<n:=by have:=(aB.1 hq).1;omega
  obtain⟨oi,p',ho,hp',V8,_⟩:=hop i hi;obtain⟨oj,q',qN,DB,hdj,_⟩:=hop j hj;rw[hp]at hp';cases hp';rw[hq]at DB;cases DB;have:=aQ.1 BL i (bB.2 hi);simp only[ho,aN]at this;have:=aQ.1 this.2 j (bB.2 hj);simp only[qN,V8,hdj,V9,yh,jx,bX,ny,Option.isNone_some,ny,cD]at this;exact this.symm
 have wW:∀(i:Nat) p t,ps[i]?=some p->p.t=some t->∀q∈ps.filterMap Cp.sl,q.1=t->q=(t,p.d):=by
  intro i p t hp hpt q hq he;obtain⟨q',DB,Bh⟩:=bQ.1 hq;obtain⟨j,hj,rfl⟩:=cq.1 DB;have qx:ps[j]?=some ps[j]:=aR hj;unfold Cp.sl at Bh;cases Qh:ps[j].t with
  |none=>rw[Qh]at Bh;cases Bh
  |some u=>
   rw[Qh]at Bh;simp only[bp,aS]at Bh;subst Bh;simp only at he;subst he;have:=hdist j i _ p u qx hp Qh hpt;subst this;rw[hp]at qx;cases qx;rfl
 intro κ Θ a w hs;have main:∀(f:Nat) (listed:Array Bool) (σ':List (Nat×D)) (H':ax) (κ:Nat->Option Value) (Θ:Nat->Nat) (a:Act) (w:World),HeadInv .any l.toArray n listed->
  ((List.range n).filter fun i=> !listed.getD i false).length=f->
  (∀(i:Nat) p t,ps[i]?=some p->p.t=some t->listed.getD i false=true->lk σ' t=p.d)->
  (∀t,(∀(i:Nat) p,ps[i]?=some p->listed.getD i false=true->p.t≠some t)->lk σ' t=lk st.σ t)->
  H'.length=st.H.length+(ps.flatMap Cp.obs).length->Ext st.H H'->
  (∀(i:Nat) p,ps[i]?=some p->listed.getD i false=true->∀(j:Nat) o,p.obs[j]?=some o->(∀(i2:Nat) q ob,ps[i2]?=some q->listed.getD i2 false=true->q.up≠some (p.r+j,ob))->H'[p.r+j]?=some o)->
  (∀(i:Nat) q id ob,ps[i]?=some q->listed.getD i false=true->q.up=some (id,ob)->H'[id]?=some ob/\∃v,κ id=some v)->
  (∀(i:Nat) p,ps[i]?=some p->listed.getD i false=false->∀j,j<p.obs.length->κ (p.r+j)=none)->
  cX Γ ⟨σ',H'⟩ κ Θ a w->
  wpAny P .any l.toArray (fun e a' w'=>∃mh κ' Θ',cX Γ mh κ' Θ' a' w'/\Q e mh) (f+(l.toArray.size-n)) listed a w:=by
  intro f
  induction f with
  |zero=>
   intro listed σ' H' κ Θ a w inv jj hA hB On Jj IC Ms IB hs;have hall:∀i,i<n->listed.getD i false=true:=by
    intro i hi;have h0:=cF jj;cases hl:listed.getD i false with
    |true=>rfl
    |false=>
     have:i∈(List.range n).filter fun i=> !listed.getD i false:=eA.2 ⟨bB.2 hi,by simp[hl]⟩
     rw[h0]at this;cases this
   have Ky:listed=Array.replicate n true++Array.replicate (l.toArray.size-n) false:=by
    apply Array.ext
    ·rw[inv.size];simp;simp at hn;omega
    ·intro i h1 h2;by_cases hi:i<n
     ·have:=hall i hi;rw[sU (by simpa using hi)];simp[h1]at this;simp[this]
     ·have hi':i<l.toArray.size:=by rw[<-inv.size];exact h1
      have:=inv.tail i (by omega) hi';rw[rS (by simpa using hi)];simp[h1]at this;simp[this]
   rw[cP];have EG:∀t,lk σ' t=lk ((ps.filterMap Cp.sl).reverse++st.σ) t:=by
    intro t;by_cases hex:∃(i:Nat) (p:Cp),ps[i]?=some p/\p.t=some t
    ·obtain⟨i,p,hp,hpt⟩:=hex;have hi:i<n:=by have:=(aB.1 hp).1;omega
     rw[hA i p t hp hpt (hall i hi)];have:=yl (ps.filterMap Cp.sl).reverse st.σ (t,p.d) (by rw[cV];exact bQ.2 ⟨p,aE hp,by simp[Cp.sl,hpt]⟩) (fun q hq he=>wW i p t hp hpt q (by simpa using hq) he);exact this.symm
    ·rw[hB t (fun i p hp _ he=>hex ⟨i,p,hp,he⟩),wk];intro q hq he;obtain⟨p,hp,hps⟩:=bQ.1 (cV.1 hq);obtain⟨i,hi,hpi⟩:=cq.1 hp;refine hex ⟨i,p,by rw[<-hpi];exact aR hi,?_⟩;unfold Cp.sl at hps;cases hpt:p.t with
     |none=>rw[hpt]at hps;cases hps
     |some u=>rw[hpt]at hps;simp only[bp,aS]at hps;subst hps;simp only at he;rw[he]
   have Kj:H'=st.H++BZ:=by
    apply kX;intro k;by_cases h1:k<st.H.length
    ·rw[aV h1];exact Jj k _ (aR h1)|>.trans (aR h1).symm
    ·rw[aY (by omega)];by_cases hex:∃(i:Nat) (q:Cp) (ob:Ob),ps[i]?=some q/\q.up=some (k,ob)
     ·obtain⟨i,q,ob,hq,he⟩:=hex;have hi:i<n:=by have:=(aB.1 hq).1;omega
      rw[(Ms i q k ob hq (hall i hi) he).1,Us i q k ob hq he]
     ·have hno:∀(i:Nat) q ob,ps[i]?=some q->q.up≠some (k,ob):=fun i q ob hq he=>hex ⟨i,q,ob,hq,he⟩
      rw[SJ (k-st.H.length) (fun i q ob hq=>by rw[show st.H.length+(k-st.H.length)=k from by omega];exact hno i q ob hq)];by_cases h2:k-st.H.length<(ps.flatMap Cp.obs).length
      ·obtain⟨i,p,j,hp,hj,hk⟩:=rF h2;have hi:i<n:=by have:=(aB.1 hp).1;omega
       have e3:p.r+j=k:=by rw[Gt i p hp];omega
       have h3:=IC i p hp (hall i hi) j _ (aR hj) (fun i2 q ob hq _=>by rw[e3];exact hno i2 q ob hq);rw[e3]at h3;rw[h3,lF hp,hk,aY (by omega),cR,aV hj,aR hj]
      ·rw[bZ (by omega),bZ (by omega)]
   have hs2:=cX.same (st:=⟨σ',H'⟩) (σ':=(ps.filterMap Cp.sl).reverse++st.σ) EG hs;simp only[Kj]at hs2;have hwp:=hK κ Θ a w hs2;have hdl:(l.drop n).length=l.toArray.size-n:=by simp
   have:=wpAny_of_seq (md:=.any) (l.drop n) n listed a w (fun j=>by simp[dB]) (by rw[hdl,Ky];exact Ng) hwp
   rwa[hdl]at this
  |succ f ih=>
   intro listed σ' H' κ Θ a w inv jj hA hB On Jj IC Ms IB hs;have hun:∃i,i<n/\listed.getD i false=false:=by
    have hne:((List.range n).filter fun i=> !listed.getD i false)≠[]:=by
     intro h0;rw[h0]at jj;simp at jj
    obtain⟨i,hi⟩:=nc _ hne;obtain⟨h1,h2⟩:=eA.1 hi;exact⟨i,bB.1 h1,by simpa using h2⟩
   have hsz:=inv.size;rw[show f+1+(l.toArray.size-n)=(f+(l.toArray.size-n))+1 from by omega];refine⟨fun h0=>?_,fun i hi=>?_⟩
   ·exfalso;obtain⟨i,⟨hin,JA⟩,hmin⟩:=exists_least (p:=fun i=>i<n/\listed.getD i false=false) hun;obtain⟨o,p,ho,_,_,_⟩:=hop i hin;have:i∈Region.ready .any l.toArray listed:=by
     refine mem_ready.2 ⟨getD_in (by rw[hsz];omega) JA,o,ho,fun e he hb=>?_⟩;have:=aQ.1 BL i (bB.2 hin);simp only[ho,aN]at this;have:=oM.1 this.1.1 e he;simp only[hb,bX,mQ,bJ]at this;cases hl:listed.getD e.on false with
     |true=>rfl
     |false=>
      have:=hmin e.on ⟨by omega,hl⟩;omega
    rw[h0]at this;cases this
   ·obtain⟨i0,hi0,hl0⟩:=hun;have hin:i<n:=by
     rcases cg i n with h|h
     ·exact h
     ·rcases hsc with he|⟨hn2,Sq,hchain⟩
      ·obtain⟨_,oi,Si,_⟩:=mem_ready.1 hi;have:=(aX.1 Si).1;omega
      ·exact absurd hi (tail_waits Sq hchain hn2 inv _ i0 rfl hi0 (getD_in (by rw[hsz];omega) hl0) i h)
    obtain⟨o,p,ho,hp,hd,hc,_⟩:=hop i hin;obtain⟨JA,o',ho',hall⟩:=mem_ready.1 hi;rw[ho]at ho';cases ho';have tQ:=getD_both JA;have QO:nC P Γ l.toArray st.H σ' o p:=by
     refine nC.congr (σ:=((ps.take i).filterMap Cp.sl).reverse++st.σ) (σ':=σ') ?_ hc;intro t ht;have zf:=aQ.1 BL i (bB.2 hin);simp only[ho,aN]at zf;have zf:=aQ.1 zf.1.2 t ht;by_cases hex:∃(j:Nat) (q:Cp),ps[j]?=some q/\q.t=some t
     ·obtain⟨j,q,hq,Bi⟩:=hex;have hj:j<n:=by have:=(aB.1 hq).1;omega
      obtain⟨oj,q',qN,DB,hdj,_⟩:=hop j hj;rw[hq]at DB;cases DB;have:=aQ.1 zf j (bB.2 hj);simp only[qN,hdj,Bi,jx,bX,mQ,aN,bJ]at this;obtain⟨hji,LH⟩:=this;obtain⟨Ya,L9,e,he,hb,hon⟩:=Region.waitsFor_spec LH;rw[ho]at L9;cases L9;have hjl:=hall e he hb;rw[hon]at hjl;rw[hA j q t hq Bi hjl];refine yl ((ps.take i).filterMap Cp.sl).reverse st.σ (t,q.d) ?_ (fun q2 qx yh=>wW j q t hq Bi q2 ?_ yh)
      ·rw[cV];exact bQ.2 ⟨q,aE (i:=j) (by rw[bg,av hji];exact hq),by simp[Cp.sl,Bi]⟩
      ·obtain⟨q3,Gu,qO⟩:=bQ.1 (cV.1 qx);exact bQ.2 ⟨q3,bC Gu,qO⟩
     ·rw[hB t (fun j q hq _ he=>hex ⟨j,q,hq,he⟩),wk];intro q hq he;obtain⟨q3,Gu,qO⟩:=bQ.1 (cV.1 hq);obtain⟨j,hj,Sm⟩:=cq.1 (bC Gu);refine hex ⟨j,q3,by rw[<-Sm];exact aR hj,?_⟩;unfold Cp.sl at qO;cases hpt:q3.t with
      |none=>rw[hpt]at qO;cases qO
      |some u=>rw[hpt]at qO;simp only[bp,aS]at qO;subst qO;simp only at he;rw[he]
    have Y2:=hfit i p hp;have Kx:∀id ob,p.up=some (id,ob)->∃v,κ id=some v:=by
     intro id ob he;rcases QO with⟨_,_,h,_⟩|⟨_,_,_,_,T,x,y,id',ds,Gq,hx',_,_,_,_,IK⟩
     ·rw[h]at he;cases he
     ·rw[IK]at he;cases he;obtain⟨b1,r1,_⟩:=hs.ev x;rw[FM σ' H' st.H x,hx']at r1;obtain⟨g,hk,_⟩:=r1.rJ;exact⟨_,hk⟩
    have LD:∀id ob,p.up=some (id,ob)->∃zs ds,H'[id]?=some (.box zs)/\ob=.box ds/\zs.length=ds.length:=by
     intro id ob he;obtain⟨u1,⟨zs,ds,u2,u3,u4⟩,_⟩:=EI i p id ob hp he;refine⟨zs,ds,?_,u2,u3⟩;obtain⟨i1,p1,j1,hp1,zg,hk1⟩:=rF (aB.1 u4).1;have Gr:ps[i1]?=some p1:=by
      have:=(aB.1 hp1).1;rw[bg]at hp1;split at hp1
      ·exact hp1
      ·cases hp1
     have hi1:i1<i:=by have:=(aB.1 hp1).1;simp at this;omega
     have et:(ps.take i).take i1=ps.take i1:=by rw[nA,dN (by omega)]
     rw[et]at hk1;have e1:p1.r+j1=id:=by rw[Gt i1 p1 Gr];omega
     have rO:p1.obs[j1]?=some (.box zs):=by
      rw[lF hp1,et,hk1,aY (by omega),cR,aV zg]at u4;exact u4
     have hl1:listed.getD i1 false=true:=by
      cases hl:listed.getD i1 false with
      |true=>rfl
      |false=>
       have h0:=IB i1 p1 Gr hl j1 zg;rw[e1]at h0;obtain⟨v,hv⟩:=Kx id ob he;rw[h0]at hv;cases hv
     have:=IC i1 p1 Gr hl1 j1 _ rO (fun i2 q tV hq hl yh=>by
      rw[e1]at yh;have:=LF i i2 p q id ob tV hp hq he yh;subst this;rw[tQ]at hl;cases hl)
     rw[e1]at this;exact this
    refine QO.wp hs Jj ho (by omega) (fun j hj=>IB i p hp tQ j hj) LD fun κ' Θ' a' w' hs' hsame=>?_
    have kP:∀(j:Nat),(listed.setIfInBounds i true).getD j false=true↔(j=i\/listed.getD j false=true):=by
     intro j;by_cases e:i=j
     ·subst e;have:i<listed.size:=by rw[hsz];omega
      simp[this]
     ·rw[getD_set_ne false e];constructor
      ·exact .inr
      ·rintro(rfl|h)
       ·exact absurd rfl e
       ·exact h
    have hput:(p.tS H').length=H'.length:=by
     unfold Cp.tS;split
     ·simp
     ·exact nY (by omega)
    have QZ:∀(k:Nat),k<st.H.length->(p.tS H')[k]?=H'[k]?:=by
     intro k hk;unfold Cp.tS;split
     ·rename_i id ob he;have:=(EI i p id ob hp he).1;rw[bO (by omega)]
     ·rw[nX (by omega),av (by rw[Gt i p hp];omega)]
    refine ih (listed.setIfInBounds i true) (p.slot σ') (p.tS H') κ' Θ' a' w' (inv.set hi hin) ?_ ?_ ?_ (by rw[hput];exact On) ?_ ?_ ?_ ?_ hs'
    ·have J6:((List.range n).filter fun j=> !(listed.setIfInBounds i true).getD j false)=((List.range n).filter fun j=> !listed.getD j false).erase i:=by
      have hnd:((List.range n).filter fun j=> !listed.getD j false).Nodup:=qE _ tX;rw[hnd.erase_eq_filter,rU];apply sn;intro j _;by_cases e:j=i
      ·subst e;have:=(kP j).2 (.inl rfl);rw[this];simp
      ·rw[getD_set_ne false (ld e)];simp[e]
     rw[J6,jA (eA.2 ⟨bB.2 hin,by simp[tQ]⟩),jj];rfl
    ·intro j q t hq Bi hl;unfold Cp.slot;rcases(kP j).1 hl with rfl|uP
     ·rw[hp]at hq;cases hq;rw[Bi];simp[lk]
     ·cases hpt:p.t with
      |none=>exact hA j q t hq Bi uP
      |some u=>
       simp only[lk];rw[ai,hA j q t hq Bi uP];intro e;have:=hdist j i q p t hq hp Bi (by rw[hpt,e]);subst this;rw[tQ]at uP;cases uP
    ·intro t ht;unfold Cp.slot;have oG:=hB t (fun j q hq hl=>ht j q hq ((kP j).2 (.inr hl)));cases hpt:p.t with
     |none=>exact oG
     |some u=>
      simp only[lk];rw[ai (fun e=>ht i p hp ((kP i).2 (.inl rfl)) (by rw[hpt,e]))];exact oG
    ·intro j y hj;rw[QZ j (aB.1 hj).1];exact Jj j y hj
    ·intro j q hq hl k y hy hno;have Sc:=(aB.1 hy).1;unfold Cp.tS;split
     ·rename_i id ob he;have hne:q.r+k≠id:=fun e=>hno i p ob hp ((kP i).2 (.inl rfl)) (by rw[e];exact he)
      rw[bO (ld hne)];rcases(kP j).1 hl with rfl|uP
      ·rw[hp]at hq;cases hq;rw[LG j p id ob hp he]at hy;simp at hy
      ·exact IC j q hq uP k y hy (fun i2 q2 tV qx Jk=>hno i2 q2 tV qx ((kP i2).2 (.inr Jk)))
     ·rw[nX (by omega)];rcases(kP j).1 hl with rfl|uP
      ·rw[hp]at hq;cases hq;rw[ai (by omega),av (by omega),cR];exact hy
      ·have hne:j≠i:=fun e=>by subst e;rw[tQ]at uP;cases uP
       have h3:=IC j q hq uP k y hy (fun i2 q2 tV qx Jk=>hno i2 q2 tV qx ((kP i2).2 (.inr Jk)));rcases oN hne with h|h
       ·have:=EE j i q p hq hp h;rw[av (by omega)];exact h3
       ·have:=EE i j p q hp hq h;rw[ai (by omega),ai (by omega)];exact h3
    ·intro j q id ob hq hl he;rcases(kP j).1 hl with rfl|uP
     ·rw[hp]at hq;cases hq;obtain⟨zs,ds,z1,_⟩:=LD id ob he;have hlt:=(aB.1 z1).1;refine⟨by simp only[Cp.tS,he];rw[cT hlt],?_⟩;obtain⟨v,hv⟩:=Kx id ob he;refine⟨v,?_⟩;rw[hsame id (by rw[LG j p id ob hp he];simp;omega)];exact hv
     ·obtain⟨h1,v,hv⟩:=Ms j q id ob hq uP he;have hout:id<p.r\/p.r+p.obs.length<=id:=by
       rcases cg id p.r with h|h
       ·exact .inl h
       ·rcases cg id (p.r+p.obs.length)with h2|h2
        ·have:=IB i p hp tQ (id-p.r) (by omega);rw[show p.r+(id-p.r)=id from by omega,hv]at this;cases this
        ·exact .inr h2
      refine⟨?_,v,by rw[hsame id hout];exact hv⟩;unfold Cp.tS;split
      ·rename_i TD tV yh;have hne:TD≠id:=fun e=>by
        subst e;have:=LF i j p q TD tV ob hp hq yh he;subst this;rw[tQ]at uP;cases uP
       rw[bO hne];exact h1
      ·rw[nX (by omega)];rcases hout with h|h
       ·rw[av h];exact h1
       ·rw[ai (by omega),ai (by omega)];exact h1
    ·intro j q hq hl k hk;have hne:j≠i:=fun e=>by
      subst e;have:=(kP j).2 (.inl rfl);rw[this]at hl;cases hl
     have uP:listed.getD j false=false:=by
      cases h:listed.getD j false with
      |false=>rfl
      |true=>have:=(kP j).2 (.inr h);rw[this]at hl;cases hl
     have h3:=IB j q hq uP k hk;rw[hsame,h3];rcases oN hne with h|h
     ·have:=EE j i q p hq hp h;omega
     ·have:=EE i j p q hp hq h;omega
 refine wp_region_any hm ?_;have Qz:HeadInv .any l.toArray n (Array.replicate l.toArray.size false):=
  ⟨by simp,fun j oj _ hl=>(by rw[getD_replicate_false]at hl;cases hl),fun t _ ht=>getD_in (by simpa using ht) (getD_replicate_false _ _)⟩
 have jj:((List.range n).filter fun i=> !(Array.replicate l.toArray.size false).getD i false).length=n:=by
  rw[List.filter_eq_self.2]
  ·simp
  ·intro i _;rw[getD_replicate_false];rfl
 have:=main n (Array.replicate l.toArray.size false) st.σ (st.H++List.replicate (ps.flatMap Cp.obs).length .gone) κ Θ a w.drew Qz jj (fun i p t _ _ hl=>by rw[getD_replicate_false]at hl;cases hl) (fun t _=>rfl)
  (by simp) (fun i o h=>by rw[aV (aB.1 h).1];exact h) (fun i p _ hl=>by rw[getD_replicate_false]at hl;cases hl)
  (fun i q id ob _ hl=>by rw[getD_replicate_false]at hl;cases hl)
  (fun i p hp _ j _=>hs.kQ _ (by rw[Gt i p hp];omega)) (hs.drew.room _)
 rw[show n+(l.toArray.size-n)=l.toArray.size from by omega]at this;exact this
end
end Go.Cx
namespace Go.Cx
open Go.RowKit
def pos(o:aI)(i:Nat):Option Nat:=ix (fun j=>j==i) o
def D.IY(o:aI)(d:D):D:=match d with
 | .acc i=>(match pos o i with|some j=>.acc j|none=>.any)
 | .ptr i off=>(match pos o i with|some j=>.ptr j off|none=>.any)
 | .op i a b c=>(match pos o i with|some j=>.op j a b c|none=>.any)
 |d=>d
def D.Pe(o:aI)(d:D):D:=match d with
 | .agg cs=>.agg (cs.map (D.IY o))
 |d=>d.IY o
def D.IZ(o:aI)(d:D):D:=match d with
 | .gj vs=>.gj (vs.map (D.Pe o))
 |d=>d.Pe o
def Ob.rn(o:aI)(x:Ob):Ob:=match x with
 | .box cells=>.box (cells.map (D.IY o))
 | .AU cells v=>.AU (cells.map (D.IY o)) v
 | .hole _ _ _ _ _=>.gone
 | .row k e sz rows=>(match k with| .ho _ _=>.gone|k=>.row k e sz rows)
 |x=>x
def St.vC(st:St)(K o:aI):St:=⟨K.map fun t=>(t,(lk st.σ t).IZ o),o.map fun i=>((st.H[i]?).getD .gone).rn o⟩
section
variable{P:Program}{Γ:oK}{Q:Exit->St->Prop}{st:St}{κ κ':Nat->Option Value}{Θ Θ':Nat->Nat}{a:Act}{w:World}{o:aI}
theorem Dc:∀ {o:aI},o.Nodup->∀(i j x:Nat),o[i]?=some x->o[j]?=some x->i=j:=by
 intro o
 induction o with
 |nil=>intro _ i j x h;simp at h
 |cons y o ih=>
  intro hnd i j x hi hj;obtain⟨h1,h2⟩:=cz.1 hnd;cases i with
  |zero=>
   cases j with
   |zero=>rfl
   |succ j=>simp at hi hj;subst hi;exact absurd (aE hj) h1
  |succ i=>
   cases j with
   |zero=>simp at hi hj;subst hj;exact absurd (aE hi) h1
   |succ j=>simp at hi hj;rw[ih h2 i j x hi hj]
theorem Eb{i j:Nat}(h:pos o i=some j):o[j]?=some i:=by
 obtain⟨x,h1,h2⟩:=rG h;simp only[cD]at h2;subst h2;exact h1
theorem HK{i j:Nat}(hnd:o.Nodup)(h:o[j]?=some i):pos o i=some j:=
 wg h (by simp) (fun k y hk hy=>by
  simp only[cD]at hy;subst hy;obtain⟨h1,h2⟩:=aB.1 h;obtain⟨h3,h4⟩:=aB.1 hk;exact Dc hnd k j _ hk h)
section
variable(hk:∀(i j:Nat) v,pos o i=some j->κ i=some v->κ' j=some v)(qX:∀b,Θ b=0->Θ' b=0)
include hk qX
theorem rD.rn{v:Value}{d:D}{bs:aI}(h:rD w κ v d bs)(hz:∀b∈bs,Θ b=0):∃b',rD w κ' v (d.IY o) b'/\∀b∈b',Θ' b=0:=by
 cases h with
 |pure h=>
  have e:d.IY o=d:=by cases h<;>rfl
  rw[e];exact⟨bs,.pure h,fun b hb=>qX b (hz b hb)⟩
 |acc i v hi=>
  simp only[D.IY];cases hp:pos o i with
  |none=>exact⟨[],.pure (.any _),by simp⟩
  |some j=>exact⟨[],.acc j v (hk i j v hp hi),by simp⟩
 |ptr i off b hi=>
  simp only[D.IY];cases hp:pos o i with
  |none=>exact⟨[],.pure (.any _),by simp⟩
  |some j=>exact⟨[],.ptr j off b (hk i j _ hp hi),by simp⟩
 |op i x sz off b o0 len cap hi=>
  simp only[D.IY];cases hp:pos o i with
  |none=>exact⟨[],.pure (.any _),by simp⟩
  |some j=>exact⟨[],.op j x sz off b o0 len cap (hk i j _ hp hi),by simp⟩
theorem dQ.rn{vs:b9}{ds:aG}{bs:aI}(h:dQ w κ vs ds bs)(hz:∀b∈bs,Θ b=0):∃b',dQ w κ' vs (ds.map (D.IY o)) b'/\∀b∈b',Θ' b=0:=by
 induction h with
 |nil=>exact⟨[],.nil,by simp⟩
 |cons v vs d ds b1 b2 h1 h2 _ ih=>
  obtain⟨c1,q1,q2⟩:=rD.rn hk qX h2 (fun b hb=>hz b (by simp[hb]));obtain⟨c2,p1,p2⟩:=ih (fun b hb=>hz b (by simp[hb]));refine⟨c1++c2,.cons _ _ _ _ _ _ h1 q1 p1,fun b hb=>?_⟩;rcases aH.1 hb with hb|hb
  ·exact q2 b hb
  ·exact p2 b hb
theorem C1.rn{v:Value}{d:D}{bs:aI}(h:C1 w κ v d bs)(hz:∀b∈bs,Θ b=0):∃b',C1 w κ' v (d.Pe o) b'/\∀b∈b',Θ' b=0:=by
 cases h with
 |cell h=>
  by_cases mr:∃ds,d=.agg ds
  ·obtain⟨ds,rfl⟩:=mr;cases h with
   |pure h=>
    cases h with
    |agg cs _ _ h=>
     obtain⟨b',q1,q2⟩:=dQ.rn hk qX (dQ.vH (κ:=κ) h) hz;exact⟨b',.agg _ _ _ q1,q2⟩
  ·have e:d.Pe o=d.IY o:=by cases d<;>first|rfl|exact absurd ⟨_,rfl⟩ mr
   rw[e];obtain⟨b',q1,q2⟩:=rD.rn hk qX h hz;exact⟨b',.cell q1,q2⟩
 |agg cs ds bs h=>
  obtain⟨b',q1,q2⟩:=dQ.rn hk qX h hz;exact⟨b',.agg _ _ _ q1,q2⟩
theorem uZ.rn{vs:b9}{ds:aG}{bs:aI}(h:uZ w κ vs ds bs)(hz:∀b∈bs,Θ b=0):∃b',uZ w κ' vs (ds.map (D.Pe o)) b'/\∀b∈b',Θ' b=0:=by
 induction h with
 |nil=>exact⟨[],.nil,by simp⟩
 |cons v vs d ds b1 b2 h2 _ ih=>
  obtain⟨c1,q1,q2⟩:=C1.rn hk qX h2 (fun b hb=>hz b (by simp[hb]));obtain⟨c2,p1,p2⟩:=ih (fun b hb=>hz b (by simp[hb]));refine⟨c1++c2,.cons _ _ _ _ _ _ q1 p1,fun b hb=>?_⟩;rcases aH.1 hb with hb|hb
  ·exact q2 b hb
  ·exact p2 b hb
theorem lf.rn{v:Value}{d:D}{bs:aI}(h:lf w κ v d bs)(hz:∀b∈bs,Θ b=0):∃b',lf w κ' v (d.IZ o) b'/\∀b∈b',Θ' b=0:=by
 cases h with
 |v h=>
  have hnt:∀vs,d≠ .gj vs:=by
   intro vs e;subst e;cases h with
   |cell h=>cases h with|pure h=>cases h
  have e:d.IZ o=d.Pe o:=by cases d<;>first|rfl|exact absurd rfl (hnt _)
  rw[e];obtain⟨b',q1,q2⟩:=C1.rn hk qX h hz;exact⟨b',.v q1,q2⟩
 |gj vs ds bs h=>
  obtain⟨b',q1,q2⟩:=uZ.rn hk qX h hz;exact⟨b',.gj _ _ _ q1,q2⟩
end
theorem Lh(σ:List (Nat×D))(K:aI)(f:D->D)(t:Nat):lk (K.map fun t=>(t,f (lk σ t))) t=if t∈K then f (lk σ t)else .any:=by
 induction K with
 |nil=>simp[lk]
 |cons u K ih=>
  simp only[b8,lk];by_cases e:t=u
  ·subst e;simp
  ·rw[ai e,ih];simp[e]
theorem cX.vC(hs:cX Γ st κ Θ a w)(K o:aI)(hnd:o.Nodup):∃κ' Θ',cX Γ (st.vC K o) κ' Θ' a w:=by
 let κ':Nat->Option Value:=fun j=>(o[j]?).bind κ
 let Θ':Nat->Nat:=fun b=>if Θ b<=1 then Θ b else match pos o (Θ b-2)with|some j=>j+2|none=>1
 have qX:∀b,Θ b=0->Θ' b=0:=fun b h=>by simp[Θ',h]
 have hk:∀(i j:Nat) v,pos o i=some j->κ i=some v->κ' j=some v:=fun i j v h1 h2=>by simp[κ',Eb h1,h2]
 have hk2:∀(i j:Nat),o[j]?=some i->κ' j=κ i:=fun i j h=>by simp[κ',h]
 have DD:∀b (i j:Nat),o[j]?=some i->Θ b=i+2->Θ' b=j+2:=by
  intro b i j hj h;simp only[Θ'];rw[ai (by omega),h,rV,HK hnd hj]
 have key:∀(j:Nat) x,(st.vC K o).H[j]?=some x->∃i,o[j]?=some i/\((st.H[i]?=none/\x=.gone)\/∃y,st.H[i]?=some y/\x=y.rn o):=by
  intro j x hj;simp only[St.vC,bS]at hj;cases ho:o[j]? with
  |none=>simp[ho]at hj
  |some i=>
   simp only[ho,bp,aS]at hj;refine⟨i,rfl,?_⟩;cases hH:st.H[i]? with
   |none=>rw[hH]at hj;exact .inl ⟨rfl,hj.symm⟩
   |some y=>rw[hH]at hj;exact .inr ⟨y,rfl,hj.symm⟩
 obtain⟨ρ,hu⟩:=hs.mi;let ρ':Nat->Nat:=fun b=>if ρ b=0 then 0 else match pos o (ρ b-1)with|some j=>j+1|none=>0
 refine⟨κ',Θ',hs.defers,hs.size,?_,?_,?_,?_,?_,?_,?_,hs.stays,ρ',?_,?_,?_⟩
 ·intro i hi;simp only[St.vC,az]at hi;simp[κ',bZ hi]
 ·intro i u om;simp only[κ']at om;cases ho:o[i]? with
  |none=>simp[ho]at om
  |some j=>simp[ho]at om;exact hs.kC j u om
 ·intro t;show∃bs,lf w κ' _ (lk (K.map fun t=>(t,(lk st.σ t).IZ o)) t) bs/\_;rw[Lh st.σ K (fun d=>d.IZ o) t];split
  ·obtain⟨bs,hr,hz⟩:=hs.slot t;exact lf.rn hk qX hr hz
  ·exact⟨[],.of (.any _),by simp⟩
 ·intro j x hj;obtain⟨i,ho,⟨_,rfl⟩|⟨y,hH,rfl⟩⟩:=key j x hj
  ·trivial
  ·have rO:=hs.ob i y hH;cases y with
   |gone=>trivial
   |hole=>trivial
   |tk rows=>
    obtain⟨v,bs,q1,q2,q3⟩:=rO;exact⟨v,bs,by rw[hk2 i j ho];exact q1,q2,fun b hb=>qX b (q3 b hb)⟩
   |tf e sz rows=>
    obtain⟨v,bs,q1,q2,q3⟩:=rO;exact⟨v,bs,by rw[hk2 i j ho];exact q1,q2,fun b hb=>qX b (q3 b hb)⟩
   |mp kv=>
    obtain⟨g,es,c,q1,q2,q3,q4⟩:=rO;exact⟨g,es,c,by rw[hk2 i j ho];exact q1,q2,DD g i j ho q3,q4⟩
   |pK sz rows u=>
    obtain⟨q1,q0,v,bs,q2,q3,q4,q5⟩:=rO;exact⟨q1,fun x hx=>by rw[hk2 i j ho];exact q0 x hx,v,bs,by rw[hk2 i j ho];exact q2,q3,q4,fun b hb=>⟨DD b i j ho (q5 b hb).1,(q5 b hb).2⟩⟩
   |box cells=>
    obtain⟨g,cs,T,q1,q2,q3,bs,q4,q5⟩:=rO;obtain⟨b',p1,p2⟩:=dQ.rn hk qX q4 q5;exact⟨g,cs,T,by rw[hk2 i j ho];exact q1,q2,DD g i j ho q3,b',p1,p2⟩
   |AU cells u=>
    obtain⟨q0,g,cs,T,q1,q2,q3,bs,q4,q5⟩:=rO;obtain⟨b',p1,p2⟩:=dQ.rn hk qX q4 q5;exact⟨⟨by rw[hk2 i j ho];exact q0.1,q0.2.same q1 q2 (by rw[hk2 i j ho];exact q1) q2⟩,g,cs,T,by rw[hk2 i j ho];exact q1,q2,DD g i j ho q3,b',p1,p2⟩
   |row k e sz rows=>
    obtain⟨q1,q2,v,cs,bs,q3,q4,q5,q6,q7⟩:=rO;cases k with
    |ho p n=>exact trivial
    |_=>
    refine⟨q1,q2,v,cs,bs,by rw[hk2 i j ho];exact q3,q4,q5,fun g hg=>DD g i j ho (q6 g hg),?_⟩
    first
    |exact⟨q7.1,fun b hb=>⟨DD b i j ho (q7.2.1 b hb).1,(q7.2.1 b hb).2⟩,q7.2.2⟩
    |exact fun b hb=>qX b (q7 b hb)
 ·intro b hb;exact hs.own b (fun h=>hb (qX b h))
 ·intro b hb hx;obtain⟨h1,h2⟩:=hs.old b hb hx;simp only[Θ'];rw[av h2];exact⟨h1,h2⟩
 ·intro b hb;refine hs.mine b ?_;simp only[Θ']at hb;split at hb<;>omega
 ·intro b hb;have hb':ρ b≠0:=fun h=>hb (by simp[ρ',h])
  obtain⟨h1,h2⟩:=hu.free b hb';exact⟨qX b h1,h2⟩
 ·intro j e sz rows hj;obtain⟨i,ho,⟨_,h⟩|⟨y,hH,h⟩⟩:=key j _ hj
  ·cases h
  ·have hy:y=.row .uq e sz rows:=by
    cases y with
    |row k2 e2 GN dV=>cases k2<;>simp only[Ob.rn,reduceCtorEq]at h<;>exact h.symm
    |_=>cases h
   subst hy;obtain⟨v,cs,bs,q1,q2,q3,q4,q5⟩:=hu.rows i e sz rows hH;refine⟨v,cs,bs,by rw[hk2 i j ho];exact q1,q2,q3,q4,fun b hb=>?_⟩;simp only[ρ'];rw[q5 b hb,ai (by omega),rV,HK hnd ho]
 ·intro j x hj;obtain⟨i,ho,⟨_,h⟩|⟨y,hH,h⟩⟩:=key j _ hj
  ·subst h;trivial
  ·have hm:=hu.more i y hH;have Qo:∀b,ρ b=i+1->ρ' b=j+1:=fun b hb=>by
    simp only[ρ'];rw[hb,ai (by omega),rV,HK hnd ho]
   subst h;cases y with
   |tk rows=>
    obtain⟨v,bs,q1,q2,q3,q4⟩:=hm;exact⟨v,bs,by rw[hk2 i j ho];exact q1,q2,q3,fun b hb=>Qo b (q4 b hb)⟩
   |tf e sz rows=>
    obtain⟨v,bs,q1,q2,q0,q3,q4⟩:=hm;exact⟨v,bs,by rw[hk2 i j ho];exact q1,q2,q0,q3,fun b hb=>Qo b (q4 b hb)⟩
   |row k e sz rows=>
    cases k with
    |mv n=>
     obtain⟨v,cs,bs,q1,q2,q3,q4,q5⟩:=hm;exact⟨v,cs,bs,by rw[hk2 i j ho];exact q1,q2,q3,q4,fun b hb=>Qo b (q5 b hb)⟩
    |_=>trivial
   |_=>trivial
end
end Go.Cx
namespace Go.Cx
open Go.RowKit
abbrev Rw:=Nat×List (List D)
def Rw.ob(x:Rw)(v:Option Value):Ob:=.pK x.1 x.2 v
def yC(w:World)(κ:Nat->Option Value):Nat->List Rw->aI->Prop
 |_,[],us=>us=[]
 |n,x::xs,us=>∃v bs Pv,κ n=some v/\(∀r∈x.2,r.length=x.1)/\Rd w v (.sl x.2) bs/\us=bs++Pv/\yC w κ (n+1) xs Pv
def Of(P:Program)(f:FuncId)(ds:aG)(ins outs:List Rw)(d:D):Prop:=
 (∃fn,P.funcs[f]?=some fn/\fn.body.isSome=true/\(fn.name== "runtime.NumGoroutine")=false)/\outs.length=ins.length/\d.flat=true/\
 ∀(w:World) (κ:Nat->Option Value) (args:b9) (us:aI),D1 w (fun b=>b∈us)->args.length=ds.length->(∀(i:Nat) d,ds[i]?=some d->∃v,args[i]?=some v/\lf w κ v d [])->
  (∀i,ins.length<=i->κ i=none)->(∀(i:Nat) u,κ i=some u->u.oneCell'=true)->yC w κ 0 ins us->us.Nodup->(∀b∈us,Wr w b)->
  Calls P f args.toArray w (fun e w'=>∃v Pv,e=.returned v/\Rd w' v d []/\yC w' κ 0 outs Pv/\Pv.Nodup/\(∀b∈Pv,(b∈us\/w.heap.size<=b)/\Wr w' b)/\
   w'.os=w.os/\w'.tape=w.tape/\w'.output=w.output/\w.heap.size<=w'.heap.size/\∀b,b<w.heap.size->b∉us->w'.heap[b]?=w.heap[b]?)
section
variable{P:Program}{Γ:oK}{Q:Exit->St->Prop}{st:St}{κ κ':Nat->Option Value}{Θ Θ':Nat->Nat}{a:Act}{w w':World}{all:Array Oper}{rest:List Oper}
theorem yC.parts:∀ {xs:List Rw} {n:Nat} {us:aI},yC w κ n xs us->∃L:List aI,L.length=xs.length/\us=L.flatten/\∀(i:Nat) x bs,xs[i]?=some x->L[i]?=some bs->∃v,κ (n+i)=some v/\(∀r∈x.2,r.length=x.1)/\Rd w v (.sl x.2) bs:=by
 intro xs
 induction xs with
 |nil=>intro n us h;exact⟨[],rfl,by simpa[yC]using h,by simp⟩
 |cons y ys ih=>
  intro n us h;obtain⟨v,bs,Pv,h1,h2,h3,rfl,h5⟩:=h;obtain⟨L,q1,rfl,q3⟩:=ih h5;refine⟨bs::L,by simp[q1],by simp,?_⟩;intro i x b hx hb;cases i with
  |zero=>simp at hx hb;subst hx;subst hb;exact⟨v,h1,h2,h3⟩
  |succ i=>
   simp at hx hb;obtain⟨v',r1,r2,r3⟩:=q3 i x b hx hb;exact⟨v',by rw[<-r1];congr 1;omega,r2,r3⟩
theorem yC.of:∀ {xs:List Rw} {n:Nat} {L:List aI},L.length=xs.length->(∀(i:Nat) x bs,xs[i]?=some x->L[i]?=some bs->∃v,κ (n+i)=some v/\(∀r∈x.2,r.length=x.1)/\Rd w v (.sl x.2) bs)->yC w κ n xs L.flatten:=by
 intro xs
 induction xs with
 |nil=>
  intro n L hl _;have:L=[]:=cF (by simpa using hl);subst this;rfl
 |cons y ys ih=>
  intro n L hl h;cases L with
  |nil=>simp at hl
  |cons bs L=>
   obtain⟨v,h1,h2,h3⟩:=h 0 y bs rfl rfl;refine⟨v,bs,L.flatten,h1,h2,h3,by simp,ih (by simpa using hl) ?_⟩;intro i x b hx hb;obtain⟨v',r1,r2,r3⟩:=h (i+1) x b (by simpa using hx) (by simpa using hb);exact⟨v',by rw[<-r1];congr 1;omega,r2,r3⟩
theorem cX.forget(hs:cX Γ st κ Θ a w)(ms:aI):cX Γ ⟨st.σ,kill st.H ms⟩ κ (fun b=>if ms.any (fun m=>Θ b==m+2)then st.H.length+2 else Θ b) a w:=by
 have h0:∀b,Θ b=0->(if ms.any (fun m=>Θ b==m+2)then st.H.length+2 else Θ b)=0:=by
  intro b hb;rw[ai,hb];intro h;obtain⟨m,_,hm⟩:=cL.1 h;simp[hb]at hm
 have hk:∀(j:Nat) o,(kill st.H ms)[j]?=some o->o=.gone\/(j∉ms/\st.H[j]?=some o):=fun j o h=>jf h
 have hold:∀b j,j∉ms->Θ b=j+2->(if ms.any (fun m=>Θ b==m+2)then st.H.length+2 else Θ b)=j+2:=by
  intro b j hj hb;rw[ai,hb];intro h;obtain⟨m,hm,he⟩:=cL.1 h;simp only[hb,cD]at he;exact hj (by
   have:j=m:=by omega
   rw[this];exact hm)
 obtain⟨ρ,hu⟩:=hs.mi;refine⟨hs.defers,hs.size,fun i hi=>hs.kQ i (by simpa[dY]using hi),hs.kC,?_,?_,?_,?_,?_,hs.stays,ρ,?_,?_,?_⟩
 ·intro t;obtain⟨bs,hr,hz⟩:=hs.slot t;exact⟨bs,hr,fun b hb=>h0 b (hz b hb)⟩
 ·intro j o hj;rcases hk j o hj with rfl|⟨hn,hj'⟩
  ·trivial
  ·have rO:=hs.ob j o hj';cases o with
   |gone=>trivial
   |tk rows=>
    obtain⟨v,bs,q1,q2,q3⟩:=rO;exact⟨v,bs,q1,q2,fun b hb=>h0 b (q3 b hb)⟩
   |tf e sz rows=>
    obtain⟨v,bs,q1,q2,q3⟩:=rO;exact⟨v,bs,q1,q2,fun b hb=>h0 b (q3 b hb)⟩
   |box cells=>
    obtain⟨g,cs,T,q1,q2,q3,bs,q4,q5⟩:=rO;exact⟨g,cs,T,q1,q2,hold g j hn q3,bs,q4,fun b hb=>h0 b (q5 b hb)⟩
   |AU cells u=>
    obtain⟨q0,g,cs,T,q1,q2,q3,bs,q4,q5⟩:=rO;exact⟨q0,g,cs,T,q1,q2,hold g j hn q3,bs,q4,fun b hb=>h0 b (q5 b hb)⟩
   |row k e sz rows=>
    obtain⟨q1,q2,v,cs,bs,q3,q4,q5,q6,q7⟩:=rO;refine⟨q1,q2,v,cs,bs,q3,q4,q5,fun g hg=>hold g j hn (q6 g hg),?_⟩;cases k with
    |cl=>exact⟨q7.1,fun b hb=>⟨hold b j hn (q7.2.1 b hb).1,(q7.2.1 b hb).2⟩,q7.2.2⟩
    |sh=>exact fun b hb=>h0 b (q7 b hb)
    |uq=>exact fun b hb=>h0 b (q7 b hb)
    |mv n=>exact fun b hb=>h0 b (q7 b hb)
    |ho p n=>exact fun b hb=>h0 b (q7 b hb)
   |pK sz rows u=>
    obtain⟨q1,q0,v,bs,q2,q3,q4,q5⟩:=rO;exact⟨q1,q0,v,bs,q2,q3,q4,fun b hb=>⟨hold b j hn (q5 b hb).1,(q5 b hb).2⟩⟩
   |hole sz rows u p n=>
    obtain⟨q1,q0,v,bs,q2,q3,q4,q5⟩:=rO;exact⟨q1,q0,v,bs,q2,q3,q4,fun b hb=>⟨hold b j hn (q5 b hb).1,(q5 b hb).2⟩⟩
   |mp kv=>
    obtain⟨g,es,c,q1,q2,q3,q4⟩:=rO;exact⟨g,es,c,q1,q2,hold g j hn q3,q4⟩
 ·intro b hb;refine hs.own b fun h=>hb ?_
  exact h0 b h
 ·intro b hb hx;obtain⟨h1,h2⟩:=hs.old b hb hx;have:(if ms.any (fun m=>Θ b==m+2)then st.H.length+2 else Θ b)=Θ b:=by
   rw[ai];intro h;obtain⟨m,_,hm⟩:=cL.1 h;simp only[cD]at hm;omega
  show(if ms.any (fun m=>Θ b==m+2)then st.H.length+2 else Θ b)=_/\(if ms.any (fun m=>Θ b==m+2)then st.H.length+2 else Θ b)<=1;rw[this];exact⟨h1,h2⟩
 ·intro b hb;refine hs.mine b ?_;by_cases h:ms.any (fun m=>Θ b==m+2)=true
  ·obtain⟨m,_,hm⟩:=cL.1 h;simp only[cD]at hm;omega
  ·simp only[h]at hb;simpa using hb
 ·intro b hb;obtain⟨h1,h2⟩:=hu.free b hb;exact⟨h0 b h1,h2⟩
 ·intro id e sz rows hj;rcases hk id _ hj with h|⟨_,h⟩
  ·cases h
  ·exact hu.rows id e sz rows h
 ·intro id o hj;rcases hk id _ hj with h|⟨_,h⟩
  ·subst h;trivial
  ·exact hu.more id o h
def lv(H:ax)(m:Nat):Option Value:=match H[m]? with|some (.pK _ _ v)=>v|_=>none
def Ec:ax->aI->List Rw->ax
 |H,m::ms,x::xs=>Ec (H.set m (x.ob (lv H m))) ms xs
 |H,_,_=>H
theorem BU:∀(H:ax) (ms:aI) (xs:List Rw),(Ec H ms xs).length=H.length:=by
 intro H ms
 induction ms generalizing H with
 |nil=>intro xs;cases xs<;>rfl
 |cons m ms ih=>intro xs;cases xs with|nil=>rfl|cons x xs=>simp[Ec,ih]
theorem M5:∀ {H:ax} {ms:aI} {xs:List Rw} {j:Nat} {y:Ob},ms.Nodup->xs.length=ms.length->(Ec H ms xs)[j]?=some y->(∃(i:Nat) (x:Rw),ms[i]?=some j/\xs[i]?=some x/\y=x.ob (lv H j))\/(j∉ms/\H[j]?=some y):=by
 intro H ms
 induction ms generalizing H with
 |nil=>intro xs j y _ _ h;cases xs<;>exact .inr ⟨by simp,h⟩
 |cons m ms ih=>
  intro xs j y hnd hl h;cases xs with
  |nil=>simp at hl
  |cons x xs=>
   obtain⟨n1,n2⟩:=cz.1 hnd;rcases ih n2 (by simpa using hl) h with⟨i,z,h1,h2,h3⟩|⟨h1,h2⟩
   ·refine .inl ⟨i+1,z,by simpa using h1,by simpa using h2,?_⟩;rw[h3];have hne:m≠j:=fun e=>n1 (by rw[e];exact aE h1)
    simp only[lv,bO hne]
   ·rcases rK j y h2 with⟨rfl,rfl⟩|⟨h3,h4⟩
    ·exact .inl ⟨0,x,rfl,rfl,rfl⟩
    ·exact .inr ⟨by simp[h1,h3],h4⟩
def CU(H:ax):aI->Option (List Rw)
 | []=>some []
 |m::ms=>match H[m]?,CU H ms with|some (.pK sz rows _),some xs=>some ((sz,rows)::xs)|_,_=>none
theorem HA{H:ax}:∀ {ms:aI} {xs:List Rw},CU H ms=some xs->xs.length=ms.length/\∀(i m:Nat) x,ms[i]?=some m->xs[i]?=some x->∃v,H[m]?=some (x.ob v):=by
 intro ms
 induction ms with
 |nil=>intro xs h;cases h;simp
 |cons m ms ih=>
  intro xs h;simp only[CU]at h;split at h
  ·rename_i sz rows u ys h1 h2;cases h;obtain⟨q1,q2⟩:=ih h2;refine⟨by simp[q1],?_⟩;intro i m' x hm hx;cases i with
   |zero=>simp at hm hx;subst hm;subst hx;exact⟨u,h1⟩
   |succ i=>exact q2 i m' x (by simpa using hm) (by simpa using hx)
  ·cases h
def D.yF(d:D):Bool:=match d with
 | .acc _=>true
 |d=>d.flat
def D.bare(d:D):Bool:=match d with
 | .agg cs=>cs.all D.yF
 |d=>d.yF
theorem rD.Bo{v:Value}{d:D}{bs:aI}(h:rD w κ v d bs)(hf:d.yF=true):bs=[]:=by
 cases h with
 |pure h=>
  refine h.flat ?_;cases h<;>exact hf
 |_=>rfl
theorem dQ.Bo{vs:b9}{ds:aG}{bs:aI}(h:dQ w κ vs ds bs)(hf:ds.all D.yF=true):bs=[]:=by
 induction h with
 |nil=>rfl
 |cons v vs d ds b1 b2 h1 h2 _ ih=>
  simp only[cm,aN]at hf;rw[h2.Bo hf.1,ih hf.2];rfl
theorem lf.Hx{v:Value}{d:D}{bs:aI}(h:lf w κ v d bs)(hf:d.bare=true):bs=[]:=by
 cases h with
 |v h=>
  cases h with
  |cell h=>
   cases h with
   |pure h=>
    cases h with
    |agg cs ds _ h=>exact dQ.Bo (dQ.vH (κ:=κ) h) hf
    |_=>first|rfl|exact absurd hf (by simp[D.bare,D.yF,D.flat])
   |_=>rfl
  |agg cs ds bs h=>exact h.Bo hf
 |gj=>simp[D.bare,D.yF,D.flat]at hf
theorem D.KO(o:aI){c:D}(h:c.yF=true):(c.IY o).yF=true:=by
 cases c with
 |acc m=>simp only[D.IY];cases pos o m<;>rfl
 |_=>first|exact h| (simp[D.yF,D.flat]at h)
theorem D.Hy(o:aI){d:D}(h:d.bare=true):(d.IZ o).bare=true:=by
 cases d with
 |agg cs=>
  simp only[D.IZ,D.Pe,D.bare,yz]at h⊢;rw[aQ]at h⊢;intro c hcm;exact D.KO o (h c hcm)
 |acc m=>simp only[D.IZ,D.Pe,D.IY];cases pos o m<;>rfl
 |_=>first|exact h| (simp[D.bare,D.yF,D.flat]at h)
theorem FR{L:List aI}(h:L.flatten.Nodup):∀(i j:Nat) x y b,L[i]?=some x->L[j]?=some y->b∈x->b∈y->i=j:=by
 intro i j x y b hi hj hx hy;have:=oZ (f:=fun l:aI=>l) (l:=L) (by simpa[List.flatMap_id]using h);exact this i j x y b hi hj hx hy
theorem Gg{L:List aI}(h:L.flatten.Nodup):∀x∈L,x.Nodup:=by
 induction L with
 |nil=>intro x hx;cases hx
 |cons y L ih=>
  intro x hx;simp only[dO]at h;obtain⟨h1,h2,_⟩:=aq.1 h;rcases au.1 hx with rfl|hx
  ·exact h1
  ·exact ih h2 x hx
theorem DE:∀ {L:List aI},(∀x∈L,x.Nodup)->(∀(i j:Nat) x y b,L[i]?=some x->L[j]?=some y->b∈x->b∈y->i=j)->L.flatten.Nodup:=by
 intro L
 induction L with
 |nil=>intro _ _;simp
 |cons y L ih=>
  intro h1 h2;simp only[dO];refine aq.2 ⟨h1 y (by simp),ih (fun x hx=>h1 x (by simp[hx])) (fun i j x z b hi hj hx hz=>?_),?_⟩
  ·have:=h2 (i+1) (j+1) x z b (by simpa using hi) (by simpa using hj) hx hz;omega
  ·intro b hb c hc e;subst e;obtain⟨x,hx,tT⟩:=eE.1 hc;obtain⟨j,hj⟩:=gS hx;have:=h2 0 (j+1) y x b rfl (by simpa using hj) hb tT;omega
theorem K5{o:Oper}{f t:Nat}{xs:Array Operand}{ts:Array TypeId}{ms:aI}{ins outs:List Rw}{d:D}(hop:o.op=.call {callee:=.value (.func f),args:=xs,argTypes:=ts})(hd:o.dst=some t)(hg:o.guard=none)
 (ht:t<Γ.nt) (hnd:ms.Nodup) (hins:CU st.H ms=some ins) (hb:((xs.toList.map st.ev).all D.bare)=true) (jO:Of P f ((xs.toList.map st.ev).map (D.IZ ms)) ins outs d)
 (h:AO P Γ all rest Q ⟨(t,d)::st.σ,Ec st.H ms outs⟩):AO P Γ all (o::rest) Q st:=by
 intro κ Θ a w hs;obtain⟨JA,Y7⟩:=HA hins;obtain⟨hfn,hol,hfl,SQ⟩:=jO;let κc:Nat->Option Value:=fun j=>(ms[j]?).bind κ
 have hkc:∀(i m:Nat),ms[i]?=some m->κc i=κ m:=fun i m h=>by simp[κc,h]
 have rO:∀(i m:Nat) x,ms[i]?=some m->ins[i]?=some x->∃v bs,κ m=some v/\(∀r∈x.2,r.length=x.1)/\Rd w v (.sl x.2) bs/\bs.Nodup/\∀b∈bs,Θ b=m+2/\Wr w b:=by
  intro i m x hm hx;obtain⟨u,hu⟩:=Y7 i m x hm hx;obtain⟨q1,_,v,bs,q2,q3,q4,q5⟩:=hs.ob m _ hu;exact⟨v,bs,q2,q1,q3,q4,q5⟩
 have hL:∃L:List aI,L.length=ins.length/\∀(i m:Nat) x bs,ms[i]?=some m->ins[i]?=some x->L[i]?=some bs->(∃v,κ m=some v/\(∀r∈x.2,r.length=x.1)/\Rd w v (.sl x.2) bs)/\bs.Nodup/\∀b∈bs,Θ b=m+2/\Wr w b:=by
  have key:∀(ms:aI) (ins:List Rw),ins.length=ms.length->(∀(i m:Nat) x,ms[i]?=some m->ins[i]?=some x->∃v bs,κ m=some v/\(∀r∈x.2,r.length=x.1)/\Rd w v (.sl x.2) bs/\bs.Nodup/\∀b∈bs,Θ b=m+2/\Wr w b)->
   ∃L:List aI,L.length=ins.length/\∀(i m:Nat) x bs,ms[i]?=some m->ins[i]?=some x->L[i]?=some bs->(∃v,κ m=some v/\(∀r∈x.2,r.length=x.1)/\Rd w v (.sl x.2) bs)/\bs.Nodup/\∀b∈bs,Θ b=m+2/\Wr w b:=by
   intro ms
   induction ms with
   |nil=>intro ins hl _;exact⟨[],by simpa using hl.symm,by simp⟩
   |cons m ms ih=>
    intro ins hl rO;cases ins with
    |nil=>simp at hl
    |cons x ins=>
     obtain⟨L,q1,q2⟩:=ih ins (by simpa using hl) (fun i m' x' hm hx=>rO (i+1) m' x' (by simpa using hm) (by simpa using hx));obtain⟨v,bs,r1,r2,r3,r4,r5⟩:=rO 0 m x rfl rfl;refine⟨bs::L,by simp[q1],?_⟩;intro i m' x' b hm hx hb;cases i with
     |zero=>simp at hm hx hb;subst hm;subst hx;subst hb;exact⟨⟨v,r1,r2,r3⟩,r4,r5⟩
     |succ i=>exact q2 i m' x' b (by simpa using hm) (by simpa using hx) (by simpa using hb)
  exact key ms ins JA rO
 obtain⟨L,Wb,QI⟩:=hL;have Qa:∀(i:Nat) bs,L[i]?=some bs->∃m x,ms[i]?=some m/\ins[i]?=some x:=by
  intro i bs hb';have hlt:=(aB.1 hb').1;exact⟨_,_,aR (by omega),aR (by omega)⟩
 have hmem:∀b∈L.flatten,∃m∈ms,Θ b=m+2:=by
  intro b hb';obtain⟨x,hx,tT⟩:=eE.1 hb';obtain⟨i,hi⟩:=gS hx;obtain⟨m,y,h1,h2⟩:=Qa i x hi;exact⟨m,aE h1,((QI i m y x h1 h2 hi).2.2 b tT).1⟩
 have mw:L.flatten.Nodup:=by
  refine DE (fun x hx=>?_) (fun i j x y b hi hj hx hy=>?_)
  ·obtain⟨i,hi⟩:=gS hx;obtain⟨m,y,h1,h2⟩:=Qa i x hi;exact(QI i m y x h1 h2 hi).2.1
  ·obtain⟨m1,y1,h1,h2⟩:=Qa i x hi;obtain⟨m2,y2,h3,h4⟩:=Qa j y hj;have e1:=((QI i m1 y1 x h1 h2 hi).2.2 b hx).1;have e2:=((QI j m2 y2 y h3 h4 hj).2.2 b hy).1;have:m1=m2:=by omega
   subst this;exact Dc hnd i j m1 h1 h3
 have QY:yC w κc 0 ins L.flatten:=yC.of Wb (fun i x bs hx hb'=>by
  obtain⟨m,y,h1,h2⟩:=Qa i bs hb';rw[hx]at h2;cases h2;obtain⟨⟨v,q1,q2,q3⟩,_⟩:=QI i m x bs h1 hx hb';exact⟨v,by rw[cP,hkc i m h1];exact q1,q2,q3⟩)
 have hwr:∀b∈L.flatten,Wr w b:=by
  intro b hb';obtain⟨x,hx,tT⟩:=eE.1 hb';obtain⟨i,hi⟩:=gS hx;obtain⟨m,y,h1,h2⟩:=Qa i x hi;exact((QI i m y x h1 h2 hi).2.2 b tT).2
 have hargs:∀(i:Nat) d,((xs.toList.map st.ev).map (D.IZ ms))[i]?=some d->∃v,(xs.toList.map a.eval)[i]?=some v/\lf w κc v d []:=by
  intro i d yu;rw[bS,bS]at yu;cases hx:xs.toList[i]? with
  |none=>rw[hx]at yu;cases yu
  |some x=>
   rw[hx]at yu;simp only[bp,aS]at yu;subst yu;refine⟨a.eval x,by rw[bS,hx];rfl,?_⟩;obtain⟨bs,r,hz⟩:=hs.ev x;have Kl:(st.ev x).bare=true:=aQ.1 hb _ (cG.2 ⟨x,aE hx,rfl⟩);obtain⟨b',r',_⟩:=lf.rn (o:=ms) (κ':=κc) (Θ:=fun _=>0) (Θ':=fun _=>0) (fun i j v h1 h2=>by simp[κc,Eb h1,h2]) (fun _ _=>rfl) r (fun _ _=>rfl);have:=r'.Hx (D.Hy ms Kl);subst this;exact r'
 have Gw:D1 w fun b=>b∈L.flatten:=by
  obtain⟨B,v1,v2⟩:=hs.S3;refine⟨B,v1,fun b hB=>⟨(v2 b hB).2.1,fun hb'=>?_⟩⟩;obtain⟨x,hx,tT⟩:=eE.1 hb';obtain⟨i,hi⟩:=gS hx;obtain⟨m,y,h1,h2⟩:=Qa i x hi;have e1:=((QI i m y x h1 h2 hi).2.2 b tT).1;rcases hs.mine b (by omega)with q|q
  ·have:=(v2 b hB).1;omega
  ·exact(v2 b hB).2.2 q
 have hc:=SQ w κc (xs.toList.map a.eval) L.flatten Gw (by simp) hargs (fun i hi=>by simp[κc,bZ (by omega:ms.length<=i)]) (fun i u hu=>by
  simp only[κc]at hu;cases hm:ms[i]? with
  |none=>rw[hm]at hu;cases hu
  |some m=>rw[hm]at hu;exact hs.kC m u hu) QY mw hwr
 refine wpList_plain hg fun K hK=>?_
 unfold Oper.wp;rw[pL hop hfn,Oper.upon_enter];have e:xs.map a.eval=(xs.toList.map a.eval).toArray:=by rw[<-ec,gQ]
 rw[e];refine hc.mono ?_;rintro e w' ⟨v,Pv,rfl,hv,hl',xx,D7,k1,k2,k3,k4,k5⟩;show K (a.put o.dst v) w';rw[hd];obtain⟨L',Xm,rfl,Uu⟩:=hl'.parts;have YD:∀(i:Nat) bs,L'[i]?=some bs->∃m x,ms[i]?=some m/\outs[i]?=some x:=by
  intro i bs hb';have hlt:=(aB.1 hb').1;exact⟨_,_,aR (by omega),aR (by omega)⟩
 have hs1:=hs.forget ms;let Θ1:Nat->Nat:=fun b=>if ms.any (fun m=>Θ b==m+2)then st.H.length+2 else Θ b
 have Sx:∀b,b∈L.flatten->Θ1 b=st.H.length+2:=by
  intro b hb';obtain⟨m,hm,he⟩:=hmem b hb';simp only[Θ1];rw[av (cL.2 ⟨m,hm,by simp[he]⟩)]
 let Θ2:Nat->Nat:=fun b=>match ix (fun x:aI=>x.contains b) L' with|some i=>(match ms[i]? with|some m=>m+2|none=>1)|none=>if Θ1 b=st.H.length+2 then 1 else Θ1 b
 have Vr:∀(i m:Nat) bs b,ms[i]?=some m->L'[i]?=some bs->b∈bs->Θ2 b=m+2:=by
  intro i m bs b hm hi hb';have:ix (fun x:aI=>x.contains b) L'=some i:=wg hi (by simpa using hb') (fun j y hj hy=>FR xx j i y bs b hj hi (by simpa using hy) hb');simp only[Θ2,this,hm]
 have LJ:∀b,b∉L'.flatten->Θ2 b=if Θ1 b=st.H.length+2 then 1 else Θ1 b:=by
  intro b hb';simp only[Θ2];cases h:ix (fun x:aI=>x.contains b) L' with
  |none=>rfl
  |some i=>
   obtain⟨x,hx,hp⟩:=rG h;exact absurd (eE.2 ⟨x,aE hx,by simpa using hp⟩) hb'
 have hlt':∀b∈L'.flatten,b<w'.heap.size:=fun b hb'=>by
  obtain⟨cs,T,hx⟩:=(D7 b hb').2;exact(aX.1 hx).1
 have kk:fD w w' Θ1 Θ2 (st.H.length+2):=by
  refine⟨by omega,k1,k2,k3,k4,fun b hlt hne=>k5 b hlt fun hb'=>hne (Sx b hb'),fun b hlt hne=>?_,fun b hb'=>?_⟩
  ·by_cases hin:b∈L'.flatten
   ·rcases(D7 b hin).1 with h'|h'
    ·exact absurd (Sx b h') hne
    ·omega
   ·rw[LJ b hin,ai hne]
  ·by_cases hin:b∈L'.flatten
   ·exact hlt' b hin
   ·rw[LJ b hin]at hb';refine cK (hs1.own b ?_) k4;intro h0;have h0':Θ1 b=0:=h0;rw[h0']at hb';rw[ai (by omega)]at hb';exact hb' rfl
 have hm2:∀b,2<=Θ2 b->rC Γ b:=by
  intro b hb';by_cases hin:b∈L'.flatten
  ·rcases(D7 b hin).1 with h'|h'
   ·obtain⟨m,_,he⟩:=hmem b h';exact hs.mine b (by omega)
   ·exact .inl (dZ hs.base h')
  ·rw[LJ b hin]at hb';split at hb'
   ·omega
   ·exact hs1.mine b hb'
 obtain⟨ρ,hu⟩:=hs1.mi;have Qm:=hs1.jh kk (κ':=κ) (fun _ _ h=>h) hu;have Sc:(kill st.H ms).length=st.H.length:=dY _ _;have hpk:∀(j:Nat) y,(Ec st.H ms outs)[j]?=some y->(∃(i:Nat) (x:Rw),ms[i]?=some j/\outs[i]?=some x/\y=x.ob (lv st.H j))\/(j∉ms/\(kill st.H ms)[j]?=some y):=by
  intro j y hj;rcases M5 hnd (by omega) hj with h'|⟨h1,h2⟩
  ·exact .inl h'
  ·exact .inr ⟨h1,by rw[cj h1];exact h2⟩
 have CM:∀(j:Nat) y,(Ec st.H ms outs)[j]?=some y->j+2≠st.H.length+2:=fun j y hj=>by
  have:=(aB.1 hj).1;rw[BU]at this;omega
 have hs2:cX Γ ⟨st.σ,Ec st.H ms outs⟩ κ Θ2 a w':=by
  refine hs1.step kk hm2 (fun _ _ h=>h) (fun i hi=>hs.kQ i (by rw[BU]at hi;exact hi)) hs.kC ?_ ⟨ρ,Qm.1,?_,?_⟩
  ·intro j y hj;have hjl:=CM j y hj;rcases hpk j y hj with⟨i,x,h1,h2,rfl⟩|⟨_,h2⟩
   ·right;right
    have Rs:∃bs,L'[i]?=some bs:=⟨_,aR (by have:=(aB.1 h2).1;omega)⟩
    obtain⟨bs,Rs⟩:=Rs;obtain⟨v',q1,q2,q3⟩:=Uu i x bs h2 Rs;rw[cP,hkc i j h1]at q1;refine⟨q2,fun x hx=>?_,v',bs,q1,q3,Gg xx bs (aE Rs),fun b hb'=>⟨Vr i j bs b h1 Rs hb',(D7 b (eE.2 ⟨bs,aE Rs,hb'⟩)).2⟩⟩;unfold lv at hx;split at hx
    ·rename_i ZE X7 u0 SK;subst hx;obtain⟨_,q0,_⟩:=hs.ob j _ SK;exact q0 x rfl
    ·cases hx
   ·exact .inr (.inl ⟨hjl,h2⟩)
  ·intro id e' sz' cw hj;have hjl:=CM id _ hj;rcases hpk id _ hj with⟨i,x,h1,h2,h3⟩|⟨_,h2⟩
   ·simp[Rw.ob]at h3
   ·exact Qm.2.1 id e' sz' cw hjl h2
  ·intro id y hj;have hjl:=CM id _ hj;rcases hpk id _ hj with⟨i,x,h1,h2,h3⟩|⟨_,h2⟩
   ·subst h3;exact Ct.wo rfl
   ·exact Qm.2.2 id y hjl h2
 have hrs:lf w' κ v d []:=.of hv;exact hK _ _ (h κ Θ2 _ w' (hs2.set (t:=t) ht hrs (by simp)))
def Ob.close:Ob->Ob
 | .row _ _ sz rows=>.pK sz rows none
 |o=>o
theorem cX.JH(hs:cX Γ st κ Θ a w)(hb:Below w.heap.size w w')(L:jd)(hL:∀x∈L,x.ok w')(hnd:(L.flatMap Fs.bl).Nodup)(hfr:∀b∈L.flatMap Fs.bl,w.heap.size<=b/\Wr w' b)(hvs:∀x∈L,x.sh=true->x.vs=[]):
 ∃κ' Θ',cX Γ ⟨st.σ,st.H++(L.map Fs.ob).map Ob.close⟩ κ' Θ' a w'/\Names κ' st.H.length L:=by
 let n:=st.H.length
 let κ':Nat->Option Value:=fun j=>if j<n\/n+L.length<=j then κ j else(L[j-n]?).map Fs.v
 let Θ':Nat->Nat:=fun b=>match ix (fun x:Fs=>x.bl.contains b) L with|some i=>n+i+2|none=>Θ b
 have hu1:∀(i j:Nat) x y b,L[i]?=some x->L[j]?=some y->b∈x.bl->b∈y.bl->i=j:=fun i j x y b=>oZ hnd i j x y b
 have hts:∀(i:Nat) x b,L[i]?=some x->b∈x.bl->Θ' b=n+i+2:=by
  intro i x b hi Jp;have:ix (fun x:Fs=>x.bl.contains b) L=some i:=wg hi (by simpa using Jp) (fun j y hj hy=>hu1 j i y x b hj hi (by simpa using hy) Jp);simp only[Θ',this]
 have hno:∀b,b∉L.flatMap Fs.bl->Θ' b=Θ b:=by
  intro b hb';simp only[Θ'];cases h:ix (fun x:Fs=>x.bl.contains b) L with
  |none=>rfl
  |some i=>
   obtain⟨x,hx,hp⟩:=rG h;exact absurd (bI.2 ⟨x,aE hx,by simpa using hp⟩) hb'
 have hold:∀b,b<w.heap.size->Θ' b=Θ b:=fun b hlt=>hno b (fun h=>by have:=(hfr b h).1;omega)
 have hn:∀(j:Nat) v,κ j=some v->κ' j=some v:=by
  intro j v hj;have:j<n:=by
   rcases cg j n with h|h
   ·exact h
   ·have:=hs.kQ j h;rw[hj]at this;cases this
  simp only[κ'];rw[av (.inl this)];exact hj
 have oR:Names κ' n L:=by
  intro i x hx;have hlt:=(aB.1 hx).1;simp only[κ'];rw[ai (by omega),cR,hx];rfl
 have hlen:(st.H++(L.map Fs.ob).map Ob.close).length=n+L.length:=by simp[n]
 have k:fD w w' Θ Θ' (n+L.length+2):=by
  refine⟨by omega,hb.os,hb.tape,hb.output,hb.size,fun b hlt _=>hb.block b hlt,fun b hlt _=>hold b hlt,fun b h=>?_⟩;by_cases hin:b∈L.flatMap Fs.bl
  ·obtain⟨cs,T,hx⟩:=(hfr b hin).2;exact(aX.1 hx).1
  ·rw[hno b hin]at h;exact cK (hs.own b h) hb.size
 have hm:∀b,2<=Θ' b->rC Γ b:=by
  intro b h;by_cases hin:b∈L.flatMap Fs.bl
  ·exact .inl (dZ hs.base (hfr b hin).1)
  ·rw[hno b hin]at h;exact hs.mine b h
 have key:∀(j:Nat) y,(st.H++(L.map Fs.ob).map Ob.close)[j]?=some y->(∃i x,j=n+i/\L[i]?=some x/\y=.pK x.sz x.rows none)\/(j<n/\st.H[j]?=some y):=by
  intro j y hj;by_cases hlt:j<st.H.length
  ·rw[aV hlt]at hj;exact .inr ⟨hlt,hj⟩
  ·rw[aY (by omega),bS,bS]at hj;cases hx:L[j-st.H.length]? with
   |none=>simp[hx]at hj
   |some x=>simp[hx]at hj;exact .inl ⟨j-st.H.length,x,by omega,hx,hj.symm⟩
 have CM:∀(j:Nat) y,(st.H++(L.map Fs.ob).map Ob.close)[j]?=some y->j+2≠n+L.length+2:=fun j y hj=>by
  have:=(aB.1 hj).1;omega
 obtain⟨ρ,hu⟩:=hs.mi;have mw:=hs.jh k hn hu;refine⟨κ',Θ',hs.step k hm hn (fun i hi=>?_) (fun i u om=>?_) (fun j y hj=>?_) ⟨ρ,mw.1,fun id e sz rows hj=>?_,fun id y hj=>?_⟩,oR⟩
 ·rw[hlen]at hi;simp only[κ'];rw[av (by omega)];exact hs.kQ i (by omega)
 ·simp only[κ']at om;split at om
  ·exact hs.kC i u om
  ·cases hx:L[i-n]? with
   |none=>simp[hx]at om
   |some x=>simp[hx]at om;subst om;exact(hL x (aE hx)).2.2.2.2
 ·have hjl:=CM j y hj;rcases key j y hj with⟨i,x,rfl,hx,rfl⟩|⟨hlt,hy⟩
  ·right;right
   obtain⟨q1,q2,q3,q4,_⟩:=hL x (aE hx);have B2:x.bl.Nodup:=by
    have:∀(l:jd),(l.flatMap Fs.bl).Nodup->∀x∈l,x.bl.Nodup:=by
     intro l
     induction l with
     |nil=>intro _ x hx;cases hx
     |cons z r ih=>
      intro hnd x hx;simp only[cy]at hnd;obtain⟨n1,n2,_⟩:=aq.1 hnd;rcases au.1 hx with rfl|hx
      ·exact n1
      ·exact ih n2 x hx
    exact this L hnd x (aE hx)
   have IE:∃bb,Rd w' x.v (.sl x.rows) bb/\bb.Nodup/\∀b∈bb,b∈x.bl:=by
    unfold Fs.rs at q4;cases Vf:x.sh with
    |false=>rw[Vf]at q4;exact⟨x.bl,mC q2 q3 q4.rd,B2,fun _ h=>h⟩
    |true=>
     rw[Vf,hvs x (aE hx) Vf]at q4;exact⟨_,mC q2 q3 q4.rd,by cases x.v.ownBlock<;>simp,fun b hb'=>aH.2 (.inl (by simpa using hb'))⟩
   obtain⟨bb,r1,r2,r3⟩:=IE;exact⟨q2,by simp,x.v,bb,oR i x hx,r1,r2,fun b hb'=>⟨hts i x b hx (r3 b hb'),(hfr b (bI.2 ⟨x,aE hx,r3 b hb'⟩)).2⟩⟩
  ·exact .inr (.inl ⟨hjl,hy⟩)
 ·have hjl:=CM id _ hj;rcases key id _ hj with⟨i,x,_,_,h⟩|⟨hlt,hy⟩
  ·cases h
  ·exact mw.2.1 id e sz rows hjl hy
 ·have hjl:=CM id _ hj;rcases key id _ hj with⟨i,x,_,_,h⟩|⟨hlt,hy⟩
  ·subst h;exact Ct.wo rfl
  ·exact mw.2.2 id y hjl hy
theorem Jv{o:Oper}{f t:Nat}{xs:Array Operand}{ts:Array TypeId}{ds:aG}{ms:aI}{d:D}(hop:o.op=.call {callee:=.value (.func f),args:=xs,argTypes:=ts})(hd:o.dst=some t)(hg:o.guard=none)
 (ht:t<Γ.nt) (hds:yA st.H (xs.toList.map st.ev)=some (ds,ms)) (hown:d.Ci=true) (jO:Good P f ds d)
 (h:AO P Γ all rest Q ⟨(t,(je st.H.length d).1)::st.σ,st.H++(je st.H.length d).2.map Ob.close⟩):AO P Γ all (o::rest) Q st:=by
 intro κ Θ a w hs;obtain⟨bs,hargs,hz⟩:=Bx hs hds;let Θc:Nat->Nat:=fun b=>if Θ b=0\/ms.any (fun m=>Θ b==m+2)then 0 else 1
 have BM:∀b,Seen Θ ms b->Θc b=0:=by
  intro b h;simp only[Θc];rw[av];rcases h with h|⟨m,h1,h2⟩
  ·exact .inl h
  ·exact .inr (cL.2 ⟨m,h1,by simp[h2]⟩)
 have hc:=jO.2 w Θc _ bs hs.S2 hargs (fun b hb=>BM b (hz b hb)) (fun b hb=>hs.own b (fun e=>hb (BM b (.inl e)))) (fun b=>by simp only[Θc];split<;>omega);refine wpList_plain hg fun K hK=>?_
 unfold Oper.wp;rw[pL hop jO.1,Oper.upon_enter];have e:xs.map a.eval=(xs.toList.map a.eval).toArray:=by rw[<-ec,gQ]
 rw[e];refine hc.mono ?_;rintro e w' ⟨v,bs',tb,ub,rfl,hb,hr,Cu,htb,hnd,hfr,hsub⟩;show K (a.put o.dst v) w';rw[hd];obtain⟨L,q1,q2,q3,q4,q6,q5⟩:=hr.inst st.H.length;have vh:bs'=[]:=hr.own hown;obtain⟨κ',Θ',hs',hnm⟩:=hs.JH hb L q2 (q3▸hnd) (fun b hb'=>hfr b (q3▸hb')) (fun x hx hx'=>by have:=q6 x hx hx';rw[vh]at this;exact eD.2 fun b hb'=>by cases this b hb');obtain⟨b0,Jn,CN⟩:=q5 κ' hnm;rw[q1]at hs';refine hK _ _ (h κ' Θ' _ w' (hs'.set (t:=t) ht Jn fun b hb'=>?_));have hb':=CN b hb';rw[vh]at hb';cases hb'
end
end Go.Cx
namespace Go.Cx
open Go.RowKit
section
variable{P:Program}{Γ:oK}{Q:Exit->St->Prop}{st:St}{κ κ':Nat->Option Value}{Θ Θ':Nat->Nat}{a:Act}{w w':World}{all:Array Oper}{rest:List Oper}
theorem cX.HP(hs:cX Γ st κ Θ a w)(ms:aI){H':ax}(h1:w'.os=w.os)(h2:w'.tape=w.tape)(h3:w'.output=w.output)(h4:w.heap.size<=w'.heap.size)
 (CJ:∀b,b<w.heap.size->(∀m∈ms,Θ b≠m+2)->w'.heap[b]?=w.heap[b]?) (Qf:∀b,b<w.heap.size->(∀m∈ms,Θ b≠m+2)->Θ' b=Θ b) (hown:∀b,Θ' b≠0->b<w'.heap.size)
 (hm:∀b,2<=Θ' b->rC Γ b) (hn:∀(j:Nat) v,κ j=some v->κ' j=some v) (Sd:∀i,H'.length<=i->κ' i=none) (hk1:∀(i:Nat) u,κ' i=some u->u.oneCell'=true)
 (rO:∀(j:Nat) y,H'[j]?=some y->y=.gone\/(j∉ms/\st.H[j]?=some y)\/(oU w' κ' Θ' j y/\y.Hf=false)):cX Γ ⟨st.σ,H'⟩ κ' Θ' a w':=by
 have hs1:=hs.forget ms;have hin:∀b,(ms.any (fun m=>Θ b==m+2))=false->∀m∈ms,Θ b≠m+2:=by
  intro b h m hm' he;have:ms.any (fun m=>Θ b==m+2)=true:=cL.2 ⟨m,hm',by simp[he]⟩;rw[h]at this;cases this
 have hlt2:∀b,(if ms.any (fun m=>Θ b==m+2)then st.H.length+2 else Θ b)≠st.H.length+2->(ms.any (fun m=>Θ b==m+2))=false:=by
  intro b h;cases hc:ms.any (fun m=>Θ b==m+2)with
  |false=>rfl
  |true=>simp[hc]at h
 have kk:fD w w' (fun b=>if ms.any (fun m=>Θ b==m+2)then st.H.length+2 else Θ b) Θ' (st.H.length+2):=by
  refine⟨by omega,h1,h2,h3,h4,fun b hb hne=>CJ b hb (hin b (hlt2 b hne)),fun b hb hne=>?_,hown⟩;have hc:=hlt2 b hne;rw[Qf b hb (hin b hc)];simp[hc]
 obtain⟨ρ,hu⟩:=hs1.mi;have mw:=hs1.jh kk hn hu;refine hs1.step kk hm hn Sd hk1 (fun j y hj=>?_) ⟨ρ,mw.1,fun id e sz rows hj=>?_,fun id y hj=>?_⟩
 ·rcases rO j y hj with h|⟨h,hy⟩|⟨h,_⟩
  ·exact .inl h
  ·have:=(aB.1 hy).1;exact .inr (.inl ⟨by omega,by rw[cj h];exact hy⟩)
  ·exact .inr (.inr h)
 ·rcases rO id _ hj with h|⟨h,hy⟩|⟨_,h⟩
  ·cases h
  ·have:=(aB.1 hy).1;exact mw.2.1 id e sz rows (by omega) (by rw[cj h];exact hy)
  ·simp[Ob.Hf]at h
 ·rcases rO id _ hj with h|⟨h,hy⟩|⟨_,h⟩
  ·subst h;trivial
  ·have:=(aB.1 hy).1;exact mw.2.2 id y (by omega) (by rw[cj h];exact hy)
  ·exact Ct.plain h
theorem Rd.Rc{v:Value}{rows:List aG}{bs:aI}(h:Rd w v (.sl rows) bs):(∃q c,v=.slice q rows.length c)/\rows.length<=maxLen:=by
 cases h with
 |qz=>exact⟨⟨_,_,rfl⟩,by simp⟩
 |jo=>exact⟨⟨_,_,rfl⟩,by simp⟩
 |sl b off cap sz _ cs bs hb h1 h2=>exact⟨⟨_,_,rfl⟩,by omega⟩
theorem NC{o:Oper}{t T id sz:Nat}{x:Operand}{rows:List aG}{u:Option Value}(hop:o.op=.call {callee:=.builtin .len,args:= #[x],argTypes:= #[T]})(hd:o.dst=some t)(hg:o.guard=none)(ht:t<Γ.nt)
 (hT:(xJ P T).isSome=true) (hx:st.ev x=.acc id) (hH:st.H[id]?=some (.pK sz rows u)) (h:AO P Γ all rest Q ⟨(t,.int .i64 rows.length)::st.σ,st.H⟩):AO P Γ all (o::rest) Q st:=by
 intro κ Θ a w hs;obtain⟨b1,r1,_⟩:=hs.ev x;rw[hx]at r1;obtain⟨hk,_⟩:=r1.oL;obtain⟨_,_,v,bs,hk2,hrd,_⟩:=hs.ob id _ hH;rw[hk]at hk2;cases hk2;obtain⟨⟨q,c,hv⟩,yj⟩:=hrd.Rc;obtain⟨⟨e,sz'⟩,hT⟩:=cu.1 hT;obtain⟨hu,_,_⟩:=kD hT;refine wpList_plain hg fun K hK=>?_
 unfold Oper.wp;have hrun:(execOp a.eval o).run P w=.ok (.value (.int .i64 rows.length)) w:=by
  simp only[execOp,hop,resolve,invoke,builtin,jw,b8,bV,hv];simp[Builtin.len_,run_underlying hu,goInt]
 rw[hrun,Oper.upon_value,hd];exact hK _ _ (h κ Θ _ w (hs.set (d:=.int .i64 rows.length) (bs:=[]) ht (.of (.int _ _ (EX yj))) (by simp)))
theorem Q6{o:Oper}{t T id sz e m:Nat}{x i:Operand}{rows:List aG}{u:Option Value}{k:IntKind}{n:Int}(hop:o.op=.indexAddr T x i)(hd:o.dst=some t)(hg:o.guard=none)(ht:t<Γ.nt)
 (hT:xJ P T=some (e,sz)) (hx:st.ev x=.acc id) (hi:st.ev i=.int k n) (hH:st.H[id]?=some (.pK sz rows u)) (hn:n=(m:Int)) (hm:m<rows.length) (h:AO P Γ all rest Q ⟨(t,.op id m sz 0)::st.σ,st.H⟩):AO P Γ all (o::rest) Q st:=by
 intro κ Θ a w hs;obtain⟨b1,r1,_⟩:=hs.ev x;obtain⟨b2,r2,_⟩:=hs.ev i;rw[hx]at r1;rw[hi]at r2;have hiv:=r2.lK;obtain⟨hk,_⟩:=r1.oL;obtain⟨_,_,v,bs,hk2,hrd,_⟩:=hs.ob id _ hH;rw[hk]at hk2;cases hk2;obtain⟨hu,B1,zj⟩:=kD hT;have hsz:=oI (P:=P) B1 w;subst hn;generalize IN:a.eval x=vx at hrd hk;cases hrd with
 |qz=>simp at hm
 |jo=>simp at hm
 |sl b off cap sz' _ cs bs hb hcap yj hrl hc hrs=>
  have hn':0<=(m:Int)/\(m:Int)<(rows.length:Int):=⟨by omega,by omega⟩
  refine wpList_plain hg fun K hK=>?_
  unfold Oper.wp;have hrun:(execOp a.eval o).run P w=.ok (.value (.pointer (some ⟨b,off+(m*sz+0),none⟩))) w:=by
   simp only[execOp,hop,IN,hiv];simp[Instr.indexAt,asIntOf,run_underlying hu,hn',hm,hsz,zj,Addr.add_lit]
  rw[hrun,Oper.upon_value,hd];exact hK _ _ (h κ Θ _ w (hs.set (d:=.op id m sz 0) (bs:=[]) ht (rD.op id m sz 0 b off _ _ hk).Dj (by simp)))
theorem Bp{rows:List aG}{sz i off:Nat}{r:aG}{d:D}(hrl:∀r∈rows,r.length=sz)(hr:rows[i]?=some r)(hd:r[off]?=some d):rows.flatten[i*sz+off]?=some d/\off<sz/\i*sz+off<rows.length*sz:=by
 have h1:=hrl r (aE hr);have h2:=(aB.1 hd).1;have hmid:=wS hrl hr;have hlt:=(aB.1 hr).1;have hle:(i+1)*sz<=rows.length*sz:=cr _ hlt;rw[gT,jG]at hle;refine⟨?_,by omega,by omega⟩;rw[<-hmid,bg,av (by omega),dB]at hd;exact hd
theorem K6{o:Oper}{t T id i sz off:Nat}{x:Operand}{rows:List aG}{r:aG}{d:D}{u:Option Value}(hop:o.op=.load T x)(hd:o.dst=some t)(hg:o.guard=none)(ht:t<Γ.nt)
 (hT:sQ P T=some false) (hx:st.ev x=.op id i sz off) (hH:st.H[id]?=some (.pK sz rows u)) (hr:rows[i]?=some r) (hc:r[off]?=some d) (hfl:d.flat=true) (h:AO P Γ all rest Q ⟨(t,d)::st.σ,st.H⟩):AO P Γ all (o::rest) Q st:=by
 intro κ Θ a w hs;obtain⟨b1,r1,_⟩:=hs.ev x;rw[hx]at r1;obtain⟨g,o0,len,NO,hk,hv⟩:=r1.wm;obtain⟨hrl,_,v,bs,hk2,hrd,_⟩:=hs.ob id _ hH;rw[hk]at hk2;cases hk2;obtain⟨hf,_,_⟩:=Bp hrl hr hc;cases hrd with
 |jo=>simp at hr
 |sl _ _ _ sz' _ cs ns hb hcap yj Bj hcs hrs=>
  obtain⟨c,b',h1,h2,h3,h4⟩:=hrs.at hf;have L:=jR (P:=P) (w:=w) hT (o:=i*sz+off) hcs;have hb':=h3.flat hfl;subst hb';refine wpList_plain hg fun K hK=>?_
  unfold Oper.wp;have hrun:(execOp a.eval o).run P w=.ok (.value c) w:=by
   simp only[execOp,hop,hv];simp[L.2 rfl c h1]
  rw[hrun,Oper.upon_value,hd];exact hK _ _ (h κ Θ _ w (hs.set (d:=d) (bs:=[]) ht (.of h3) (by simp)))
theorem iT.TM{vs:b9}{ds:aG}{bs:aI}(h:iT w vs ds bs){p:Nat}{d:D}(hd:ds[p]?=some d):
 ∃c b1 b2 b3,vs[p]?=some c/\c.oneCell'=true/\Rd w c d b2/\bs=b1++(b2++b3)/\∀(e:D) (b4:aI),Rd w c e b4->iT w vs (ds.set p e) (b1++(b4++b3)):=by
 obtain⟨l,r,rfl,hl⟩:=Db hd;obtain⟨v1,v2,c1,c2,rfl,rfl,k1,k2⟩:=h.split;cases k2 with
 |cons c vs _ _ b2 b3 h1 h2 h3=>
  have hl1:v1.length=p:=by rw[k1.length];exact hl
  refine⟨c,c1,b2,b3,by rw[aY (by omega),hl1];simp,h1,h2,rfl,fun e b4 he=>?_⟩;have e1:(l++d::r).set p e=l++e::r:=by rw[pP _ _ (by omega),hl];simp
  rw[e1];exact k1.app (.cons _ _ _ _ _ _ h1 he h3)
theorem ze{rows:List aG}{sz i off:Nat}{r:aG}{d e:D}(hrl:∀r∈rows,r.length=sz)(hr:rows[i]?=some r)(hd:r[off]?=some d):(rows.set i (r.set off e)).flatten=rows.flatten.set (i*sz+off) e:=by
 have hlt:=(aB.1 hd).1;have h1:=hrl r (aE hr);have:=wT (rows:=rows) (sz:=sz) (i:=i) (off:=off) (row:=r) (ds:=[e]) hrl hr (by simp;omega);have e1:r.set off e=r.take off++[e]++r.drop (off+[e].length):=by
  apply kX;intro j;rw[eR];simp only[eP,vN,aO,bH,cP];by_cases hj:j<off
  ·rw[ai (by omega),aV (by simp;omega),bg,av hj]
  ·rw[aY (by simp;omega),bK,dN (by omega)];by_cases he:off=j
   ·subst he;simp[hlt]
   ·rw[ai he];obtain⟨m,hm⟩:∃m,j-off=m+1:=⟨j-off-1,by omega⟩
    rw[hm,gR,dB]
    congr 1;omega
 rw[e1,this];have hfl:=jN hrl;obtain⟨hf,_,hlt2⟩:=Bp hrl hr hd;apply kX;intro j;rw[eR];simp only[eP,vN,aO,bH,cP];by_cases hj:j<i*sz+off
 ·rw[ai (by omega),aV (by rw[bK];omega),bg,av hj]
 ·rw[aY (by rw[bK];omega),bK,dN (by omega)];by_cases he:i*sz+off=j
  ·subst he;rw[av rfl,av (by omega),nP];rfl
  ·rw[ai he];obtain⟨m,hm⟩:∃m,j-(i*sz+off)=m+1:=⟨j-(i*sz+off)-1,by omega⟩
   rw[hm,gR,dB]
   congr 1;omega
theorem Bt{rows:List aG}{sz i:Nat}{r:aG}(hrl:∀r∈rows,r.length=sz)(hr:r.length=sz):∀x∈rows.set i r,x.length=sz:=by
 intro x hx;rcases ng hx with hx|rfl
 ·exact hrl x hx
 ·exact hr
theorem K8{o:Oper}{t T id i sz off GN:Nat}{x:Operand}{rows dV:List aG}{r:aG}{u:Option Value}(hop:o.op=.load T x)(hd:o.dst=some t)(hg:o.guard=none)(ht:t<Γ.nt)
 (hT:sQ P T=some false) (hx:st.ev x=.op id i sz off) (hH:st.H[id]?=some (.pK sz rows u)) (hr:rows[i]?=some r) (hc:r[off]?=some (.sl dV)) (h2:∀q∈dV,q.length=GN)
 (h:AO P Γ all rest Q ⟨(t,.acc st.H.length)::st.σ,st.H.set id (.hole sz (rows.set i (r.set off .any)) u (i*sz+off) st.H.length)++[.pK GN dV none]⟩):AO P Γ all (o::rest) Q st:=by
 intro κ Θ a w hs;obtain⟨b1,r1,_⟩:=hs.ev x;rw[hx]at r1;obtain⟨g,o0,len,NO,hk,hv⟩:=r1.wm;obtain⟨hrl,Nh,v,bs,hk2,hrd,hnd,vh⟩:=hs.ob id _ hH;rw[hk]at hk2;cases hk2;obtain⟨hf,hoff,_⟩:=Bp hrl hr hc;cases hrd with
 |jo=>simp at hr
 |sl _ _ _ sz' _ cs ns hb hcap yj Bj hcs hrs=>
  obtain⟨c,c1,c2,c3,h1,h1c,h3,rfl,kP⟩:=hrs.TM hf;have L:=jR (P:=P) (w:=w) hT (o:=i*sz+off) hcs;have Sa:id<st.H.length:=(aB.1 hH).1;have hnew:=kP .any [] (.any c);have xx:=hnd;simp only[cz,aH,AV]at xx;obtain⟨⟨hg1,IF,VE⟩,B2⟩:=xx;obtain⟨n1,n2,n3⟩:=aq.1 B2;obtain⟨n4,n5,n6⟩:=aq.1 n2;let Θ':Nat->Nat:=fun b=>if b∈c2 then st.H.length+2 else Θ b
  have hs':cX Γ ⟨st.σ,st.H.set id (.hole sz (rows.set i (r.set off .any)) u (i*sz+off) st.H.length)++[.pK GN dV none]⟩ (qY κ st.H.length (some c)) Θ' a w:=by
   have hn:=qD (hs.kQ _ (bM _)) (some c);have DD:∀b∈c2,Θ b=id+2:=fun b hb'=>(vh b (by simp[hb'])).1
   refine hs.HP [id] rfl rfl rfl (bM _) (fun _ _ _=>rfl) (fun b _ hne=>?_) (fun b hb'=>?_) (fun b hb'=>?_) hn (fun j hj=>?_) (fun j y hy=>?_) (fun j y hj=>?_)
   ·simp only[Θ'];rw[ai];intro hin;exact hne id (by simp) (DD b hin)
   ·simp only[Θ']at hb';split at hb'
    ·rename_i hin;exact hs.own b (by rw[DD b hin];omega)
    ·exact hs.own b hb'
   ·simp only[Θ']at hb';split at hb'
    ·rename_i hin;exact hs.mine b (by rw[DD b hin];omega)
    ·exact hs.mine b hb'
   ·simp only[af,kS,aO,bH]at hj;unfold qY;rw[ai (by omega)];exact hs.kQ j (by omega)
   ·unfold qY at hy;split at hy
    ·cases hy;exact h1c
    ·exact hs.kC j y hy
   ·rcases uG j y hj with⟨hjl,rfl⟩|⟨hjl,hy⟩
    ·right;right
     have hjn:j=st.H.length:=by rw[hjl];simp
     subst hjn;refine⟨⟨h2,by simp,c,c2,iB _ _ _,h3,n4,fun b hb'=>⟨by simp[Θ',hb'],(vh b (by simp[hb'])).2⟩⟩,rfl⟩
    ·rcases rK j y hy with⟨rfl,rfl⟩|⟨hne,hy'⟩
     ·right;right
      refine⟨⟨Bt hrl (by rw[kS];exact hrl r (aE hr)),fun z hz=>hn _ _ (Nh z hz),_,g::(c1++([]++c3)),hn _ _ hk,⟨g,o0,NO,cs,c1++([]++c3),by simp,hb,by simpa using hcap,yj,hcs,?_,rfl,c,h1,iB _ _ _⟩,?_,fun b hb'=>?_⟩,rfl⟩
      ·rw[ze hrl hr hc];exact hnew
      ·simp only[iQ,cz,aH,AV];exact⟨⟨hg1,VE⟩,aq.2 ⟨n1,n5,fun x hx y hy e=>n3 x hx y (by simp[hy]) e⟩⟩
      ·have SO:b∈g::(c1++(c2++c3)):=by
        simp only[iQ,au,aH]at hb'⊢;rcases hb' with h|h|h<;>simp[h]
       refine⟨?_,(vh b SO).2⟩;simp only[Θ'];rw[ai,(vh b SO).1];intro hin;simp only[iQ,au,aH]at hb';rcases hb' with h|h|h
       ·subst h;exact IF hin
       ·exact n3 b h b (by simp[hin]) rfl
       ·exact n6 b hin b h rfl
     ·exact .inr (.inl ⟨by simpa using hne,hy'⟩)
  refine wpList_plain hg fun K hK=>?_
  unfold Oper.wp;have hrun:(execOp a.eval o).run P w=.ok (.value c) w:=by
   simp only[execOp,hop,hv];simp[L.2 rfl c h1]
  rw[hrun,Oper.upon_value,hd];exact hK _ _ (h _ _ _ w (hs'.set (d:=.acc st.H.length) (bs:=[]) ht (rD.acc st.H.length c (iB _ _ _)).Dj (by simp)))
theorem K7{id n i sz off GN:Nat}{rows dV:List aG}{r:aG}{d:D}{u u2:Option Value}(hH:st.H[id]?=some (.hole sz rows u (i*sz+off) n))(hN:st.H[n]?=some (.pK GN dV u2))(hr:rows[i]?=some r)(hc:r[off]?=some d)
 (h:AO P Γ all rest Q ⟨st.σ,(st.H.set n .gone).set id (.pK sz (rows.set i (r.set off (.sl dV))) u)⟩):AO P Γ all rest Q st:=by
 intro κ Θ a w hs;obtain⟨hrl,Nh,v,bs,hk,⟨b,o0,cap,cs,ns,rfl,h1,h2,h3,h4,h5,rfl,c,h6,h7⟩,hnd,vh⟩:=hs.ob id _ hH;obtain⟨YL,_,v2,Mr,hk2,VX,VR,Kn⟩:=hs.ob n _ hN;rw[h7]at hk2;cases hk2;obtain⟨hf,hoff,_⟩:=Bp hrl hr hc;obtain⟨c',c1,c2,c3,q1,ZC,q3,rfl,kP⟩:=h5.TM hf;rw[h6]at q1;cases q1;have hnew:=kP (.sl dV) Mr VX;have hne:n≠id:=fun e=>by subst e;rw[hH]at hN;cases hN
 have Sa:id<st.H.length:=(aB.1 hH).1;have xx:=hnd;simp only[cz,aH,AV]at xx;obtain⟨⟨hg1,IF,VE⟩,B2⟩:=xx;obtain⟨n1,n2,n3⟩:=aq.1 B2;obtain⟨n4,n5,n6⟩:=aq.1 n2;have QU:∀x∈Mr,∀y∈b::(c1++(c2++c3)),x≠y:=by
  intro x hx y hy e;subst e;have e1:=(Kn x hx).1;have e2:=(vh x hy).1;omega
 let Θ':Nat->Nat:=fun x=>if x∈Mr then id+2 else if Θ x=n+2 then 1 else Θ x
 refine h κ Θ' a w (hs.HP [id,n] rfl rfl rfl (bM _) (fun _ _ _=>rfl) (fun x _ Wq=>?_) (fun x hx=>?_) (fun x hx=>?_) (fun _ _ h=>h) (fun j hj=>hs.kQ j (by simpa using hj)) hs.kC (fun j y hj=>?_))
 ·simp only[Θ'];rw[ai (fun hin=>Wq n (by simp) (Kn x hin).1),ai (Wq n (by simp))]
 ·simp only[Θ']at hx;split at hx
  ·rename_i hin;exact hs.own x (by rw[(Kn x hin).1];omega)
  ·split at hx
   ·rename_i he;exact hs.own x (by rw[he];omega)
   ·exact hs.own x hx
 ·simp only[Θ']at hx;split at hx
  ·rename_i hin;exact hs.mine x (by rw[(Kn x hin).1];omega)
  ·split at hx
   ·omega
   ·exact hs.mine x hx
 ·rcases rK j y hj with⟨rfl,rfl⟩|⟨zg,hy⟩
  ·right;right
   refine⟨⟨Bt hrl (by rw[kS];exact hrl r (aE hr)),Nh,_,b::(c1++(Mr++c3)),hk,?_,?_,fun x hx=>?_⟩,rfl⟩
   ·have hl:(rows.set i (r.set off (.sl dV))).length=rows.length:=by simp
    have:=Rd.sl (w:=w) b o0 cap sz (rows.set i (r.set off (.sl dV))) cs (c1++(Mr++c3)) h1 (by rw[hl];exact h2) h3 (Bt hrl (by rw[kS];exact hrl r (aE hr))) h4 (by rw[ze hrl hr hc];exact hnew);rw[hl]at this;exact this
   ·simp only[cz,aH,AV];refine⟨⟨hg1,fun hin=>QU b hin b (by simp) rfl,VE⟩,aq.2 ⟨n1,aq.2 ⟨VR,n5,fun x hx y hy e=>QU x hx y (by simp[hy]) e⟩,fun x hx y hy e=>?_⟩⟩;rcases aH.1 hy with hy|hy
    ·exact QU y hy x (by simp[hx]) e.symm
    ·exact n3 x hx y (by simp[hy]) e
   ·by_cases hin:x∈Mr
    ·exact⟨by simp[Θ',hin],(Kn x hin).2⟩
    ·have SO:x∈b::(c1++(c2++c3)):=by
      simp only[au,aH]at hx⊢;rcases hx with h|h|h|h
      ·simp[h]
      ·simp[h]
      ·exact absurd h hin
      ·simp[h]
     refine⟨?_,(vh x SO).2⟩;have e1:=(vh x SO).1;simp only[Θ'];rw[ai hin,ai (by omega),e1]
  ·rcases rK j y hy with⟨rfl,rfl⟩|⟨hj2,hy'⟩
   ·exact .inl rfl
   ·exact .inr (.inl ⟨by simp[zg,hj2],hy'⟩)
theorem iT.setCells{vs:b9}{ds es:aG}{us:b9}{bs:aI}(h:iT w vs ds bs)(p:Nat)(hp:p+es.length<=ds.length)(hu:iT w us es []):
 ∃b',iT w (vs.take p++us++vs.drop (p+us.length)) (ds.take p++es++ds.drop (p+es.length)) b'/\(∀b∈b',b∈bs)/\(bs.Nodup->b'.Nodup):=by
 have e:ds=ds.take p++((ds.drop p).take es.length++(ds.drop p).drop es.length):=by rw[bR,bR]
 rw[e]at h;obtain⟨v1,v2,b1,b2,rfl,rfl,k1,k2⟩:=h.split;obtain⟨v3,v4,b3,b4,rfl,rfl,k3,k4⟩:=k2.split;have l1:v1.length=p:=by rw[k1.length];simp;omega
 have l3:v3.length=es.length:=by rw[k3.length];simp;omega
 have lu:=hu.length;have t1:(v1++(v3++v4)).take p=v1:=fL l1;have t2:(v1++(v3++v4)).drop (p+us.length)=v4:=by
  rw[<-eC,dw l1,lu,dw l3]
 rw[t1,t2];rw[eC]at k4;refine⟨b1++[]++b4,(k1.app hu).app k4,fun b hb=>?_,fun hnd=>?_⟩
 ·simp only[dM,aH]at hb⊢;rcases hb with h|h<;>simp[h]
 ·obtain⟨n1,n2,n3⟩:=aq.1 hnd;obtain⟨_,n5,_⟩:=aq.1 n2;simp only[dM];exact aq.2 ⟨n1,n5,fun x hx y hy e=>n3 x hx y (by simp[hy]) e⟩
theorem It{o:Oper}{T id i sz off:Nat}{x y:Operand}{rows:List aG}{r ds:aG}{u:Option Value}(hop:o.op=.store T x y)(hd:o.dst=none)(hg:o.guard=none)
 (hx:st.ev x=.op id i sz off) (hH:st.H[id]?=some (.pK sz rows u)) (hr:rows[i]?=some r) (hc:(st.ev y).cellsOf=some ds) (hfl:ds.all D.flat=true) (hT:En P T=true) (hl:ds.length=rQ P T) (hpos:0<ds.length) (hfit:off+ds.length<=sz)
 (h:AO P Γ all rest Q ⟨st.σ,st.H.set id (.pK sz (rows.set i (r.take off++ds++r.drop (off+ds.length))) u)⟩):AO P Γ all (o::rest) Q st:=by
 intro κ Θ a w hs;obtain⟨b1,r1,_⟩:=hs.ev x;obtain⟨b2,r2,_⟩:=hs.ev y;rw[hx]at r1;obtain⟨g,o0,len,NO,hk,hv⟩:=r1.wm;obtain⟨hrl,Nh,v,bs,hk2,hrd,hnd,vh⟩:=hs.ob id _ hH;rw[hk]at hk2;cases hk2;have Gj:=tZ hs.kC r2 hc;have hl1:=Gj.length;have VC:ds.all D.Ey=true:=by
  rw[aQ]at hfl⊢;intro d yu;have:=hfl d yu;cases d<;>first|rfl| (simp[D.flat]at this)
 have SR:=Gj.pure VC;have GJ:=SR.flat hfl;subst GJ;have hrow:=hrl r (aE hr);have hilt:=(aB.1 hr).1;have QV:(i+1)*sz<=rows.length*sz:=cr _ hilt;rw[gT,jG]at QV;cases hrd with
 |jo=>simp at hr
 |sl _ _ _ sz' _ cs ns hb hcap yj Bj hcs hrs=>
  obtain⟨Wm,Y5⟩:=vh g (by simp);obtain⟨cur,Tb,J7⟩:=Y5;have SY:=jN hrl;have hcl:cs.length=rows.length*sz:=by rw[hrs.length,SY]
  have CL:∀j c,cs[j]?=some c->cur[o0+j]?=some c:=by
   intro j c hj;have:=hcs j c hj;simpa[World.cell?,J7]using this
  have SX:o0+(i*sz+off)+(a.eval y).cells.size<=cur.size:=by
   have e1:(a.eval y).cells.size=ds.length:=by rw[<-hl1];simp
   rw[e1];have:=CL (i*sz+off+ds.length-1) cs[i*sz+off+ds.length-1] (aR (by omega));have:=(aX.1 this).1;omega
  have Qk:(a.eval y).cells.size=rQ P T:=by rw[<-hl,<-hl1];simp
  have hst:=wv (P:=P) (T:=T) (off:=o0+(i*sz+off)) J7 Qk (cu.1 hT) SX Gj.one;have hne:(a.eval y).cells.toList.length=ds.length:=hl1;let Bb:Array Value:=(cur.toList.take (o0+(i*sz+off))++(a.eval y).cells.toList++cur.toList.drop (o0+(i*sz+off)+(a.eval y).cells.toList.length)).toArray
  have hw':∀x,x≠g->(w.setRow g Bb).heap[x]?=w.heap[x]?:=fun x hx=>setRow_other w g x _ hx
  have hsame:∀x,x<w.heap.size->(∀m∈[id],Θ x≠m+2)->(w.setRow g Bb).heap[x]?=w.heap[x]?:=fun x _ hx=>hw' x (fun e=>hx id (by simp) (by rw[e];exact Wm))
  simp only[cz]at hnd;have Va:iT (w.setRow g Bb) cs rows.flatten ns:=hrs.keep fun b hb'=>hw' b (fun e=>hnd.1 (e▸hb'))
  have V3:iT (w.setRow g Bb) (a.eval y).cells.toList ds []:=SR.keep (by simp);obtain⟨ns',q1,q2,q3⟩:=Va.setCells (i*sz+off) (by rw[SY];omega) V3;have hfs:=wT (ds:=ds) (off:=off) hrl hr hfit;have Sg:(rows.set i (r.take off++ds++r.drop (off+ds.length))).length=rows.length:=by simp
  have Sp:∀z∈rows.set i (r.take off++ds++r.drop (off+ds.length)),z.length=sz:=Bt hrl (by simp;omega);have hcell:∀j c,(cs.take (i*sz+off)++(a.eval y).cells.toList++cs.drop (i*sz+off+(a.eval y).cells.toList.length))[j]?=some c->(w.setRow g Bb).cell? ⟨g,o0+j,none⟩=some c:=by
   intro j c hj;have Y3:(w.setRow g Bb).heap[g]?=some (.cells Bb Tb (0,0)):=setRow_heap w g cur _ Tb _ J7;simp only[World.cell?,Y3];show Bb[o0+j]?=some c;simp only[Bb,dW,eP]at hj⊢;have hcz:o0+(i*sz+off)<=cur.toList.length:=by simp;omega
   by_cases zg:j<i*sz+off
   ·rw[aV (by simp;omega),bg,av zg]at hj;rw[aV (by rw[bK];omega),bg,av (by omega)];have:=CL j c hj;simpa using this
   ·rw[aY (by rw[bK];omega),bK,dN (by omega)]at hj;rw[aY (by rw[bK];omega),bK,dN hcz];rw[show o0+j-(o0+(i*sz+off))=j-(i*sz+off)from by omega];by_cases hj2:j-(i*sz+off)<(a.eval y).cells.toList.length
    ·rw[aV hj2]at hj⊢;exact hj
    ·rw[aY (by omega),dB]at hj⊢;have:=CL _ c hj;rw[<-fw]at this;rw[<-this];congr 1;omega
  refine wpList_plain hg fun K hK=>?_
  unfold Oper.wp;have hrun:(execOp a.eval o).run P w=.ok .skip (w.setRow g Bb):=by
   simp only[execOp,hop,hv];simp[hst,Bb]
  rw[hrun,Oper.upon_skip,hd];refine hK _ _ (h κ Θ _ _ (hs.HP [id] rfl rfl rfl (by simp) hsame (fun _ _ _=>rfl) (fun b hb'=>by simpa using hs.own b hb') hs.mine (fun _ _ h=>h) (fun j hj=>hs.kQ j (by simpa using hj)) hs.kC (fun j z hj=>?_)));rcases rK j z hj with⟨rfl,rfl⟩|⟨zg,hz⟩
  ·right;right
   refine⟨⟨Sp,Nh,_,g::ns',hk,?_,?_,fun b hb'=>?_⟩,rfl⟩
   ·have:=Rd.sl (w:=w.setRow g Bb) g o0 NO sz (rows.set i (r.take off++ds++r.drop (off+ds.length))) _ ns' (by simpa using hb) (by rw[Sg];exact hcap) yj Sp hcell (by rw[hfs];exact q1);rw[Sg]at this;exact this
   ·simp only[cz];exact⟨fun hin=>hnd.1 (q2 g hin),q3 hnd.2⟩
   ·rcases au.1 hb' with rfl|hin
    ·exact⟨Wm,⟨_,Tb,setRow_heap w b cur _ Tb _ J7⟩⟩
    ·have hm:=vh b (by simp[q2 b hin]);refine⟨hm.1,?_⟩;obtain⟨xs,T',hxs⟩:=hm.2;exact⟨xs,T',(hw' b (fun e=>hnd.1 (e▸q2 b hin))).trans hxs⟩
  ·exact .inr (.inl ⟨by simpa using zg,hz⟩)
end
end Go.Cx
namespace Go.Cx
open Go.RowKit
def Oe(P:Program)(f:FuncId)(ds:aG)(e sz:Nat)(rows cw:List aG):Prop:=
 (∃fn,P.funcs[f]?=some fn/\fn.body.isSome=true/\(fn.name== "runtime.NumGoroutine")=false)/\
 ∀(w:World) (κ:Nat->Option Value) (args:b9) (v:Value) (cs:b9),D1 w (fun b=>v.ownBlock=some b)->args.length=ds.length->(∀(i:Nat) d,ds[i]?=some d->∃u,args[i]?=some u/\lf w κ u d [])->
  κ 0=some v->(∀i,1<=i->κ i=none)->v.oneCell'=true->0<sz->(∀r∈rows,r.length=sz)->w.ownsRow 0 e sz v rows.length cs->iT w cs rows.flatten []->
  Calls P f args.toArray w (fun x w'=>∃v' cs',x=.returned v'/\v'.oneCell'=true/\(∀r∈cw,r.length=sz)/\w'.ownsRow 0 e sz v' cw.length cs'/\iT w' cs' cw.flatten []/\(∀g,v'.ownBlock=some g->w.heap.size<=g\/v.ownBlock=some g)/\
   w'.os=w.os/\w'.tape=w.tape/\w'.output=w.output/\w.heap.size<=w'.heap.size/\∀b,b<w.heap.size->v.ownBlock≠some b->w'.heap[b]?=w.heap[b]?)
section
variable{P:Program}{Γ:oK}{Q:Exit->St->Prop}{st:St}{κ κ':Nat->Option Value}{Θ Θ':Nat->Nat}{a:Act}{w w':World}{all:Array Oper}{rest:List Oper}
theorem K3{o:Oper}{f t id:Nat}{xs:Array Operand}{ts:Array TypeId}{e sz:Nat}{rows cw:List aG}(hop:o.op=.call {callee:=.value (.func f),args:=xs,argTypes:=ts})(hd:o.dst=some t)(hg:o.guard=none)
 (ht:t<Γ.nt) (hH:st.H[id]?=some (.row .uq e sz rows)) (VB:Mj e=true) (hfl:rows.flatten.all D.flat=true) (hb:((xs.toList.map st.ev).all D.bare)=true) (jO:Oe P f ((xs.toList.map st.ev).map (D.IZ [id])) e sz rows cw)
 (h:AO P Γ all rest Q ⟨(t,.acc st.H.length)::st.σ,kill st.H [id]++[.row .uq e sz cw]⟩):AO P Γ all (o::rest) Q st:=by
 intro κ Θ a w hs;obtain⟨hsz,hrl,v,cs,bs,hk,hown,hrd,wZ,_⟩:=hs.ob id _ hH;have vh:=hrd.flat hfl;subst vh;have J9:id<st.H.length:=(aB.1 hH).1;let κc:Nat->Option Value:=fun j=>if j=0 then some v else none
 have Gw:D1 w fun b=>v.ownBlock=some b:=by
  obtain⟨B,v1,v2⟩:=hs.S3;refine⟨B,v1,fun b hB=>⟨(v2 b hB).2.1,fun hb'=>?_⟩⟩;have e1:=wZ b hb';rcases hs.mine b (by omega)with q|q
  ·have:=(v2 b hB).1;omega
  ·exact(v2 b hB).2.2 q
 have hargs:∀(i:Nat) d,((xs.toList.map st.ev).map (D.IZ [id]))[i]?=some d->∃u,(xs.toList.map a.eval)[i]?=some u/\lf w κc u d []:=by
  intro i d yu;rw[bS,bS]at yu;cases hx:xs.toList[i]? with
  |none=>rw[hx]at yu;cases yu
  |some x=>
   rw[hx]at yu;simp only[bp,aS]at yu;subst yu;refine⟨a.eval x,by rw[bS,hx];rfl,?_⟩;obtain⟨bs,r,hz⟩:=hs.ev x;have Kl:(st.ev x).bare=true:=aQ.1 hb _ (cG.2 ⟨x,aE hx,rfl⟩);obtain⟨b',r',_⟩:=lf.rn (o:=[id]) (κ':=κc) (Θ:=fun _=>0) (Θ':=fun _=>0) (fun i j u h1 h2=>by
    have h3:=Eb h1;cases j with
    |zero=>simp at h3;subst h3;rw[hk]at h2;simpa[κc]using h2
    |succ j=>simp at h3) (fun _ _=>rfl) r (fun _ _=>rfl)
   have:=r'.Hx (D.Hy [id] Kl);subst this;exact r'
 have hc:=jO.2 w κc (xs.toList.map a.eval) v cs Gw (by simp) hargs (by simp[κc]) (fun i hi=>by simp only[κc];rw[ai (by omega)]) (hs.kC id v hk) hsz hrl hown hrd;refine wpList_plain hg fun K hK=>?_
 unfold Oper.wp;rw[pL hop jO.1,Oper.upon_enter];have e0:xs.map a.eval=(xs.toList.map a.eval).toArray:=by rw[<-ec,gQ]
 rw[e0];refine hc.mono ?_;rintro x w' ⟨v',cs',rfl,hone,Bj,zh,DC,ID,h1,h2,h3,h4,CJ⟩;show K (a.put o.dst v') w';rw[hd];let n:=st.H.length
 let Θ':Nat->Nat:=fun b=>if some b=v'.ownBlock then n+2 else Θ b
 have Mw:∀g,v'.ownBlock=some g->Θ g=id+2\/w.heap.size<=g:=by
  intro g J8;rcases ID g J8 with h|h
  ·exact .inr h
  ·exact .inl (wZ g h)
 have k:fD w w' Θ Θ' (id+2):=by
  refine⟨by omega,h1,h2,h3,h4,fun b hb hne=>CJ b hb (fun e=>hne (wZ b e)),fun b hb hne=>?_,fun b hb=>?_⟩
  ·simp only[Θ'];rw[ai];intro e;rcases Mw b e.symm with h|h
   ·exact hne h
   ·omega
  ·simp only[Θ']at hb;split at hb
   ·rename_i e;exact(zh.lt b e.symm).2
   ·exact cK (hs.own b hb) h4
 have hm:∀b,2<=Θ' b->rC Γ b:=by
  intro b hb;simp only[Θ']at hb;split at hb
  ·rename_i e;rcases Mw b e.symm with h|h
   ·exact hs.mine b (by omega)
   ·exact .inl (dZ hs.base h)
  ·exact hs.mine b hb
 have hn:=qD (hs.kQ n (bM _)) (some v');obtain⟨ρ,hu⟩:=hs.mi;have mw:=hs.jh k hn hu;have key:∀(j:Nat) y,(kill st.H [id]++[.row .uq e sz cw])[j]?=some y->(j=n/\y=.row .uq e sz cw)\/(j≠n/\(y=.gone\/(j∉[id]/\st.H[j]?=some y))):=by
  intro j y hj;rcases uG j y hj with⟨h1,h2⟩|⟨h1,h2⟩
  ·rw[dY]at h1;exact .inl ⟨h1,h2⟩
  ·rw[dY]at h1;exact .inr ⟨h1,jf h2⟩
 have hs':cX Γ ⟨st.σ,kill st.H [id]++[.row .uq e sz cw]⟩ (qY κ n (some v')) Θ' a w':=by
  refine hs.step k hm hn ?_ ?_ ?_ ⟨ρ,mw.1,fun j e' sz' dV hj=>?_,fun j y hj=>?_⟩
  ·intro i hi;simp only[af,aO,bH,dY]at hi;unfold qY;rw[ai (by omega)];exact hs.kQ i (by omega)
  ·intro i y hy;unfold qY at hy;split at hy
   ·cases hy;exact hone
   ·exact hs.kC i y hy
  ·intro j y hj;rcases key j y hj with⟨rfl,rfl⟩|⟨_,hy|⟨hjk,hy⟩⟩
   ·exact .inr (.inr ⟨hsz,Bj,v',cs',[],iB _ _ _,zh,DC,fun g J8=>by simp only[Θ'];rw[av J8.symm],by simp⟩)
   ·exact .inl hy
   ·exact .inr (.inl ⟨fun e=>hjk (by simp;omega),hy⟩)
  ·rcases key j _ hj with⟨rfl,hy⟩|⟨_,hy|⟨hjk,hy⟩⟩
   ·simp only[Ob.row.injEq,rX]at hy;obtain⟨rfl,rfl,rfl⟩:=hy;exact⟨v',cs',[],iB _ _ _,zh,.of DC (u7 (AG VB)),by simp,by simp⟩
   ·cases hy
   ·exact mw.2.1 j e' sz' dV (fun e=>hjk (by simp;omega)) hy
  ·rcases key j _ hj with⟨rfl,hy⟩|⟨_,hy|⟨hjk,hy⟩⟩
   ·subst hy;exact Ct.wo rfl
   ·subst hy;trivial
   ·exact mw.2.2 j y (fun e=>hjk (by simp;omega)) hy
 refine hK _ _ (h _ _ _ _ (hs'.set (t:=t) (d:=.acc n) (bs:=[]) ht ?_ (by simp)));exact(rD.acc n _ (iB _ _ _)).Dj
end
end Go.Cx
namespace Go.Cx
open Go.RowKit
def iR(P:Program)(f:FuncId)(cells cells':aG)(ds:aG)(d:D):Prop:=
 (∃fn,P.funcs[f]?=some fn/\fn.body.isSome=true/\(fn.name== "runtime.NumGoroutine")=false)/\
 ∀(w:World) (Θ:Nat->Nat) (g:Nat) (cs:Array Value) (T:TypeId) (args:b9) (bs ts us:aI),
  D1 w (fun b=>b=g\/b∈ts)->w.heap[g]?=some (.cells cs T (0,0))->su w (.agg cs::args) (.agg cells::ds) bs ts us->
  (∀b∈bs,Θ b=0)->(∀b,Θ b≠0->b<w.heap.size)->(∀b,Θ b<=1)->Θ g=1->(∀b∈ts,Θ b=1/\b∈us/\b≠g)->us.Nodup->(∀b∈us,(b∉ts->Θ b=0)/\Wr w b)->
  Calls P f (.pointer (some ⟨g,0,none⟩)::args).toArray w (fun e w'=>∃v cs' T' b2 t2 u2 b3 t3 u3,e=.returned v/\w'.os=w.os/\w'.tape=w.tape/\w'.output=w.output/\w.heap.size<=w'.heap.size/\
   (∀b,b<w.heap.size->b≠g->b∉ts->w'.heap[b]?=w.heap[b]?)/\w'.heap[g]?=some (.cells cs' T' (0,0))/\(cs.size=3->cs'.size=3/\cs'[0]?=cs[0]?)/\
   tH w' v d b2 t2 u2/\nD w' cs'.toList cells' b3 t3 u3/\(∀b∈b3++b2,(b<w.heap.size->Θ b=0\/b∈ts)/\b≠g/\b∉t3++t2)/\(u3++u2).Nodup/\
   (∀b∈u3++u2,(w.heap.size<=b\/b∈us)/\b≠g/\Wr w' b)/\∀b∈t3++t2,b∈u3++u2/\(w.heap.size<=b\/b∈ts))
section
variable{P:Program}{Γ:oK}{Q:Exit->St->Prop}{st:St}{κ κ':Nat->Option Value}{Θ Θ':Nat->Nat}{a:Act}{w w':World}{all:Array Oper}{rest:List Oper}
theorem xK.KI{cs:Array Value}{ds:aG}{bs ts us:aI}(h:xK w (.agg cs) (.agg ds) bs ts us):nD w cs.toList ds bs ts us:=by
 generalize hv:Value.agg cs=v at h;cases h with
 |cell h=>
  cases h with
  |pure h=>
   cases h with
   |agg l _ _ h=>cases hv;simpa using nD.vH h
 |agg l _ _ _ _ h=>cases hv;simpa using h
theorem C1.KI{cs:Array Value}{ds:aG}{bs:aI}(h:C1 w κ (.agg cs) (.agg ds) bs):dQ w κ cs.toList ds bs:=by
 generalize hv:Value.agg cs=v at h;cases h with
 |cell h=>
  cases h with
  |pure h=>
   cases h with
   |agg l _ _ h=>cases hv;simpa using dQ.vH h
 |agg l _ _ h=>cases hv;simpa using h
theorem vq.shown{v:Value}{d:D}{bs ts us:aI}(h:vq w v d bs ts us):∃b,Rd w v d.Mz b:=by
 cases h with
 |pure h=>
  have e:d.Mz=d:=by cases h<;>rfl
  exact⟨_,e.symm▸h⟩
 |fr e sz rows cs ns h1 h2 h3 h4 h5=>exact⟨_,mC h2 h3 h4.rd⟩
 |fs e sz rows cs ns h1 h2 h3 h4 h5=>exact⟨_,mC h2 h3 h4⟩
theorem nD.shown{vs:b9}{ds:aG}{bs ts us:aI}(h:nD w vs ds bs ts us):∃b,iT w vs (ds.map D.Mz) b:=by
 induction h with
 |nil=>exact⟨_,.nil⟩
 |cons v vs d ds b1 b2 t1 t2 u1 u2 h1 h2 _ ih=>
  obtain⟨b,q⟩:=h2.shown;obtain⟨b',q'⟩:=ih;exact⟨_,.cons _ _ _ _ _ _ h1 q q'⟩
theorem xK.shown{v:Value}{d:D}{bs ts us:aI}(h:xK w v d bs ts us):n9 d.N0:=by
 cases h with
 |cell h=>
  by_cases mr:∃ds,d=.agg ds
  ·obtain⟨ds,rfl⟩:=mr;cases h with
   |pure h=>cases h with
    |agg cs _ _ h=>
     obtain⟨b,q⟩:=(nD.vH h).shown;exact⟨w,_,_,.agg _ _ _ q⟩
  ·have e:d.N0=d.Mz:=by cases d<;>first|rfl|exact absurd ⟨_,rfl⟩ mr
   rw[e];obtain⟨b,q⟩:=h.shown;exact⟨w,_,_,q⟩
 |agg cs ds bs ts us h=>
  obtain⟨b,q⟩:=h.shown;exact⟨w,_,_,.agg _ _ _ q⟩
theorem su.shown{vs:b9}{ds:aG}{bs ts us:aI}(h:su w vs ds bs ts us):∀d∈ds.map D.N0,n9 d:=by
 induction h with
 |nil=>intro d hd;cases hd
 |cons v vs d ds b1 b2 t1 t2 u1 u2 h2 _ ih=>
  intro x hx;rcases au.1 hx with rfl|hx
  ·exact h2.shown
  ·exact ih x hx
def BY(L:jd)(b:Nat):Option Nat:=ix (fun x:Fs=>x.v.ownBlock==some b) L
def mm(L:jd)(b:Nat):Option Nat:=ix (fun x:Fs=>x.ns.contains b) L
theorem AF{L:jd}(hnd:(L.flatMap Fs.bl).Nodup){i:Nat}{x:Fs}{b:Nat}(hi:L[i]?=some x)(hb:x.v.ownBlock=some b):BY L b=some i:=
 wg hi (by simp[hb]) (fun j y hj hy=>by
  simp only[cD]at hy;exact oZ hnd j i y x b hj hi (by simp[Fs.bl,hy]) (by simp[Fs.bl,hb]))
theorem HY{L:jd}{b i:Nat}(h:BY L b=some i):b∈L.flatMap Fs.ts:=by
 obtain⟨x,hx,hp⟩:=rG h;exact bI.2 ⟨x,aE hx,by simp only[cD]at hp;simp[Fs.ts,hp]⟩
theorem pq{L:jd}{b:Nat}(h:b∉L.flatMap Fs.ts):BY L b=none:=by
 cases hb:BY L b with
 |none=>rfl
 |some i=>exact absurd (HY hb) h
theorem uc{L:jd}(hnd:(L.flatMap Fs.bl).Nodup){i:Nat}{x:Fs}{b:Nat}(hi:L[i]?=some x)(hb:b∈x.ns):mm L b=some i:=
 wg hi (by simpa using hb) (fun j y hj hy=>oZ hnd j i y x b hj hi (by simp only[Fs.bl];exact aH.2 (.inr (by simpa using hy))) (by simp only[Fs.bl];exact aH.2 (.inr hb)))
theorem nR{L:jd}{b i:Nat}(h:mm L b=some i):∃x,L[i]?=some x/\b∈x.ns:=by
 obtain⟨x,hx,hp⟩:=rG h;exact⟨x,hx,by simpa using hp⟩
theorem vu{L:jd}{b:Nat}(h:b∈L.flatMap Fs.ts):b∈L.flatMap Fs.bl:=by
 obtain⟨x,hx,tT⟩:=bI.1 h;exact bI.2 ⟨x,hx,by simp only[Fs.bl,Fs.ts]at tT⊢;exact aH.2 (.inl tT)⟩
theorem mF{L:jd}{i b:Nat}{x:Fs}(h:L[i]?=some x)(hb:b∈x.ns):b∈L.flatMap Fs.bl:=
 bI.2 ⟨x,aE h,by simp only[Fs.bl];exact aH.2 (.inr hb)⟩
theorem FF{L:jd}(hnd:(L.flatMap Fs.bl).Nodup):∀x∈L,x.bl.Nodup:=by
 induction L with
 |nil=>intro x hx;cases hx
 |cons z r ih=>
  intro x hx;simp only[cy]at hnd;obtain⟨n1,n2,_⟩:=aq.1 hnd;rcases au.1 hx with rfl|hx
  ·exact n1
  ·exact ih n2 x hx
theorem ux{L:jd}(hnd:(L.flatMap Fs.bl).Nodup){i b:Nat}{x:Fs}(h:L[i]?=some x)(hb:b∈x.ns):b∉L.flatMap Fs.ts:=by
 intro ht;obtain⟨y,hy,hby⟩:=bI.1 ht;obtain⟨j,hj⟩:=gS hy;have:=oZ hnd j i y x b hj h (by simp only[Fs.bl,Fs.ts]at hby⊢;exact aH.2 (.inl hby)) (by simp only[Fs.bl];exact aH.2 (.inr hb));subst this;rw[hj]at h;cases h;have B2:=FF hnd x hy;simp only[Fs.bl]at B2;exact(aq.1 B2).2.2 b hby b hb rfl
theorem zy{L:jd}(hnd:(L.flatMap Fs.bl).Nodup){i:Nat}{x:Fs}(h:L[i]?=some x):x.ns.Nodup:=by
 have:=FF hnd x (aE h);simp only[Fs.bl]at this;exact(aq.1 this).2.1
def KG(P:Program)(fn:Func)(v0:Value)(cells':aG)(d:D)(e:Exit)(st:St):Prop:=
 (e=.ret\/e=.normal)/\∃nz Om E4 es ms qs,yI P st fn.results.toList=some Om/\st.H[0]?=some (.AU E4 v0)/\
  sO st.H nz (.agg E4::Om)=some (.agg cells'::es,ms,qs)/\ms.Nodup/\qs.Nodup/\(∀m∈qs,m∉ms)/\BS es=d
theorem KG.out{fn:Func}{v0:Value}{cells':aG}{d:D}{e:Exit}{a':Act}{w':World}{Cw:St}{κ0:Nat->Option Value}{Θ0:Nat->Nat}(hs0:cX Γ Cw κ0 Θ0 a' w')(Qi:KG P fn v0 cells' d e Cw):
 (e=.ret\/e=.normal)/\a'.defers=[]/\Ht Γ w'/\∃v g cs' T b2 t2 u2 b3 t3 u3,(results fn a'.tmps).run P w'=.ok v w'/\IX v0=.pointer (some ⟨g,0,none⟩)/\w'.heap[g]?=some (.cells cs' T (0,0))/\(∀c,wh v0=some c->cs'.size=3/\cs'[0]?=some c)/\
  tH w' v d b2 t2 u2/\nD w' cs'.toList cells' b3 t3 u3/\(∀b∈b3++b2,(b<Γ.W0.heap.size->¬Γ.X b->Γ.Θ0 b=0)/\b≠g/\b∉t3++t2)/\(u3++u2).Nodup/\
  (∀b∈u3++u2,Hr Γ b/\b≠g/\Wr w' b)/\∀b∈t3++t2,b∈u3++u2/\rC Γ b:=by
 obtain⟨wY,nz,Om,E4,es,ms,qs,hres,SK,Ox,DA,Bh,Nf,rfl⟩:=Qi;obtain⟨ρ0,Ql⟩:=hs0.mi;have vi:=qT Ox;obtain⟨Θ1,ρ1,hs1,hu1,hm1,hz1,Jo⟩:=cX.zq ms hs0 Ql DA (fun m hm=>by
  obtain⟨e,sz,rows,hH⟩:=vi.1 m hm;exact⟨_,e,sz,rows,hH,rfl⟩)
 obtain⟨vs,bs',m1,m2,m3,m4,m5⟩:=xG hs0 hres;have hq:∀m e sz rows,Cw.H[m]?=some (.row .uq e sz rows)->∃v cs ns,κ0 m=some v/\0<sz/\(∀r∈rows,r.length=sz)/\w'.ownsRow 0 e sz v rows.length cs/\qG w' (ol e) 0 cs rows.flatten ns/\ns.Nodup/\(∀b∈ns,ρ1 b=m+1)/\∀g,v.ownBlock=some g->Θ1 g=m+2:=by
  intro m e sz rows hH;have hnm:m∉ms:=fun hm=>by
   obtain⟨e',sz',cw,xD⟩:=vi.1 m hm;rw[hH]at xD;cases xD
  have EC:(kill Cw.H ms)[m]?=some (.row .uq e sz rows):=by rw[cj hnm];exact hH
  obtain⟨v,cs,ns,r1,r2,r3,r4,r5⟩:=hu1.rows m e sz rows EC;obtain⟨p1,p2,v2,_,_,p3,_,_,p4,_⟩:=hs1.ob m _ EC;rw[r1]at p3;cases p3;exact⟨v,cs,ns,r1,p1,p2,r2,r3,r4,r5,p4⟩
 have Xi:0∉ms:=fun hm=>by
  obtain⟨e',sz',cw,xD⟩:=vi.1 0 hm;rw[SK]at xD;cases xD
 have Xj:0∉qs:=fun hm=>by
  obtain⟨_,e',sz',cw,xD⟩:=vi.2 0 hm;rw[SK]at xD;cases xD
 obtain⟨Rv,g,cs',T,hk0,hg,EL,bb,QN,hbz⟩:=hs1.ob 0 _ (show(kill Cw.H ms)[0]?=_ by rw[cj Xi];exact SK);have Sb:∀c,wh v0=some c->cs'.size=3/\cs'[0]?=some c:=fun c hc=>Rv.2 c hc g cs' T hk0 hg
 have Rv:=Rv.1;have e0:IX v0=.pointer (some ⟨g,0,none⟩):=by rw[Rv]at hk0;exact mE hk0
 have EL:Θ1 g=2:=EL;have qx:∀m e sz rows,m∉ms->Cw.H[m]?=some (.row .sh e sz rows)->∃v cs ns,κ0 m=some v/\0<sz/\(∀r∈rows,r.length=sz)/\w'.ownsRow 0 e sz v rows.length cs/\iT w' cs rows.flatten ns/\(∀b∈ns,Θ1 b=0)/\∀g,v.ownBlock=some g->Θ1 g=m+2:=by
  intro m e sz rows hnm hH;obtain⟨p1,p2,v2,cs,ns,p3,p4,p5,p6,p7⟩:=hs1.ob m _ (show(kill Cw.H ms)[m]?=_ by rw[cj hnm];exact hH);exact⟨v2,cs,ns,p3,p1,p2,p4,p5,p7,p6⟩
 obtain⟨c,tt,uu,wX,tD⟩:=uI (w:=w') (vs:=.agg cs'::vs) (fun b hb=>(hu1.free b hb).1) hq qx hs0.kC Ox Nf Bh (by simp;omega) (fun i d hd=>by
  cases i with
  |zero=>
   simp at hd;subst hd;have:=C1.agg _ _ _ QN;exact⟨_,bb,rfl,.v (by simpa using this),hbz⟩
  |succ i=>
   obtain⟨v,b,k1,k2,k3⟩:=m4 i d (by simpa using hd);exact⟨v,b,by simpa using k1,k2,fun x hx=>hz1 x (m5 x (k3 x hx))⟩) hm1
 cases wX with
 |cons _ _ _ _ b3 b2 t3 t2 u3 u2 Km oG=>
 have EG:∃v,(results fn a'.tmps).run P w'=.ok v w'/\tH w' v (BS es) b2 t2 u2:=by
  have hrun:(results fn a'.tmps).run P w'=.ok (if h:vs.toArray.size=1 then vs.toArray[0]else .tuple vs.toArray) w':=by
   rw[results_eq,kO];simp[m1]
  cases oG with
  |nil=>exact⟨.tuple #[],by simpa using hrun,.gj [] [] [] [] [] .nil⟩
  |cons v vs d es b1 b2 t1 t2 u1 u2 hv oG=>
   cases oG with
   |nil=>
    simp only[dM];exact⟨v,by simpa using hrun,.v hv⟩
   |cons v2 vs d2 es b3 b4 t3 t4 u3 u4 GL oG=>exact⟨.tuple (v::v2::vs).toArray,by simpa using hrun,.gj _ _ _ _ _ (.cons _ _ _ _ _ _ _ _ _ _ hv (.cons _ _ _ _ _ _ _ _ _ _ GL oG))⟩
 obtain⟨v,LA,FY⟩:=EG;have wZ:∀b∈t3++t2,Wr w' b:=by
  intro b hb;rcases aH.1 hb with hb|hb
  ·exact C3 Km b hb
  ·exact C2 FY b hb
 refine⟨wY,hs0.defers,hs0.stays,v,g,cs',T,b2,t2,u2,b3,t3,u3,LA,e0,hg,Sb,FY,Km.KI,fun b hb=>⟨fun hlt hx=>?_,fun e=>?_,fun ht=>?_⟩,tD.nd,fun b hb=>?_,fun b hb=>?_⟩
 ·have:=tD.zero b hb;rw[<-(hs1.old b hlt hx).1];exact this
 ·have:=tD.zero b hb;subst e;omega
 ·obtain⟨⟨m,_,hΘ⟩,_⟩:=tD.top b ht;have:=tD.zero b hb;omega
 ·rcases tD.mem b hb with h|⟨m,hm,hρ⟩
  ·obtain⟨⟨m,hm,hΘ⟩,_⟩:=tD.top b h;refine⟨.inl (hs1.mine b (by omega)),fun e=>?_,wZ b h⟩;subst e;rw[EL]at hΘ;have:m=0:=by omega
   subst this;exact Xj hm
  ·have:=hu1.free b (by omega);refine⟨this.2.1,fun e=>?_,this.2.2⟩;have h0:=this.1;subst e;omega
 ·obtain⟨⟨m,hm,hΘ⟩,h2⟩:=tD.top b hb;exact⟨h2,hs1.mine b (by omega)⟩
theorem uZ.len{vs:b9}{ds:aG}{bs:aI}(h:uZ w κ vs ds bs):vs.length=ds.length:=by
 induction h with
 |nil=>rfl
 |cons v vs d ds b1 b2 h1 _ ih=>simp[ih]
def S8(Γ:oK)(u:Value)(rows:List aG):Prop:=
 (∀b,¬Γ.U b)/\∃c bs,wh u=some c/\Rd Γ.W0 c (.sl rows) bs/\∀b∈bs,b<Γ.W0.heap.size/\¬Γ.X b/\Γ.Θ0 b=0
theorem iR.of{f:FuncId}{fn:Func}{c:Code}{cells cells' qg ds Ew:aG}{obs:ax}{d:D}(hf:P.funcs[f]?=some fn)(hb:fn.body=some c)(hn:(fn.name== "runtime.NumGoroutine")=false)
 (hI:tR 1 (.agg cells::ds)=(.agg qg::Ew,obs)) (hl:Ew.length+1<=fn.ntmps)
 (h:(∀x∈(D.agg cells::ds).map D.N0,n9 x)->∀(v0:Value) (Γ:oK),Γ.nt=fn.ntmps->(obs=[]->qg.length=3->∀rows,qg[0]?=some (.sl rows)->S8 Γ v0 rows)->AW P Γ c (KG P fn v0 cells' d) ⟨rj 0 (.ptr 0 0::Ew),.AU qg v0::obs⟩):iR P f cells cells' ds d:=by
 refine⟨⟨fn,hf,by simp[hb],hn⟩,?_⟩;intro w Θ g cs T args bs ts us hvs hg hargs hz hown h1 hg1 hts hnd mw;have Gv:=hargs.shown;obtain⟨L,q1,q2,rfl,rfl,q6,q5⟩:=hargs.inst 1;rw[hI]at q1 q5;have q1:L.map Fs.ob=obs:=q1;refine calls_of_wp hf hb ?_;let v0:Value:=.pointer (some ⟨g,0,none⟩)
 let u0:Value:=if cs.size=3 then .tuple ⟨[v0,cs.toList.headD undef]⟩else v0
 let κ0:Nat->Option Value:=fun i=>if i=0 then some v0 else(L[i-1]?).map Fs.v
 let Θ0:Nat->Nat:=fun b=>if b=g then 2 else match BY L b with|some i=>i+3|none=>Θ b
 let ρ0:Nat->Nat:=fun b=>match mm L b with|some i=>i+2|none=>0
 let Γ:oK:=⟨w,Θ0,fun b=>b=g\/b∈L.flatMap Fs.ts,fn.ntmps,fun b=>b∈L.flatMap Fs.bl,hvs⟩
 have Wn:g<w.heap.size:=(aX.1 hg).1;have hk0:κ0 0=some v0:=rfl;have QW:∀i x,L[i]?=some x->κ0 (i+1)=some x.v:=fun i x hx=>by simp[κ0,hx]
 have hnm:Names κ0 1 L:=fun i x hx=>by rw[Nat.add_comm];exact QW i x hx
 obtain⟨SF,hrd,hb0⟩:=q5 κ0 hnm;have hlen:=hrd.len;have Oy:∀(i:Nat) x b,L[i]?=some x->x.v.ownBlock=some b->b∈L.flatMap Fs.ts:=fun i x b hx hb'=>bI.2 ⟨x,aE hx,by simp[Fs.ts,hb']⟩
 have Gy:∀(i:Nat) x b,L[i]?=some x->x.v.ownBlock=some b->Θ0 b=i+3:=by
  intro i x b hx hb';have:=(hts b (Oy i x b hx hb')).2.2;simp only[Θ0,AF hnd hx hb'];rw[ai this]
 have Fc:∀b,Θ b=0->Θ0 b=0:=by
  intro b h0;have e1:b≠g:=fun e=>by subst e;omega
  have e2:b∉L.flatMap Fs.ts:=fun e=>by have:=(hts b e).1;omega
  simp only[Θ0,pq e2];rw[ai e1,h0]
 have L6:∀(i:Nat) x b,L[i]?=some x->b∈x.ns->Θ0 b=0:=fun i x b hx hb'=>Fc b ((mw b (mF hx hb')).1 (ux hnd hx hb'))
 have sM:∀b,Θ0 b≠Θ b->b=g\/b∈L.flatMap Fs.ts:=by
  intro b hne;by_cases e:b=g
  ·exact .inl e
  ·refine .inr (cS fun ht=>hne ?_);simp only[Θ0,pq ht];rw[ai e]
 have Gp:∀(j:Nat) o,obs[j]?=some o->∃x,L[j]?=some x/\o=x.ob:=by
  intro j o hj;rw[<-q1,bS]at hj;cases hx:L[j]? with
  |none=>simp[hx]at hj
  |some x=>simp[hx]at hj;exact⟨x,rfl,hj.symm⟩
 have L8:obs.length=L.length:=by rw[<-q1];simp
 have Km:∃b',dQ w κ0 cs.toList qg b'/\∀b∈b',Θ0 b=0:=by
  obtain⟨v,b',k1,k2,k3⟩:=hrd.at (i:=0) (d:=.agg qg) rfl;simp at k1;subst k1;exact⟨b',k2.KI,fun b hb'=>Fc b (hz b (hb0 b (k3 b hb')))⟩
 have hpt:IX u0=v0:=by simp only[u0];split<;>rfl
 have hkp:∀c,wh u0=some c->cs.size=3/\cs[0]?=some c:=by
  intro c hc;simp only[u0]at hc;split at hc
  ·rename_i h3;refine⟨h3,?_⟩;simp only[wh,aS]at hc;have Jk:cs.toList.length=3:=by simpa using h3
   rw[<-fw];cases hcl:cs.toList with
   |nil=>rw[hcl]at Jk;simp at Jk
   |cons x xs=>rw[hcl]at hc;simp only[List.headD_cons]at hc;subst hc;rfl
  ·cases hc
 have Se:cs.size=3->∃c,wh u0=some c/\cs[0]?=some c:=by
  intro h3;have:wh u0=some (cs.toList.headD undef):=by simp only[u0];rw[av h3];rfl
  exact⟨_,this,(hkp _ this).2⟩
 have hs:cX Γ ⟨rj 0 (.ptr 0 0::Ew),.AU qg u0::obs⟩ κ0 Θ0 {tmps:=(v0::args).toArray++Array.replicate (fn.ntmps-(v0::args).toArray.size) undef,defers:=[]} w:=by
  refine⟨rfl,?_,fun i hi=>?_,?_,?_,?_,?_,?_,?_,⟨rfl,rfl,rfl,bM _,fun _ _ _=>rfl⟩,⟨ρ0,?_,?_,?_⟩⟩
  ·simp only[aO]at hlen;simp[Γ];omega
  ·simp only[aO]at hi;simp only[κ0];rw[ai (by omega),bZ (by omega)];rfl
  ·intro id u hu;simp only[κ0]at hu;split at hu
   ·cases hu;rfl
   ·cases hx:L[id-1]? with
    |none=>simp[hx]at hu
    |some x=>simp[hx]at hu;subst hu;exact(q2 x (aE hx)).2.2.2.2
  ·intro t;rw[zm];simp only[qc,rW,uV];have IG:∀v,(v0::args)[t]?=some v->((v0::args).toArray++Array.replicate (fn.ntmps-(v0::args).toArray.size) undef).getD t undef=v:=by
    intro v hv;have hlt:=(aB.1 hv).1;rw[bU,eB (by simpa using hlt)];simp only[dW,hv,nQ]
   cases t with
   |zero=>
    refine⟨[],?_,by simp⟩;rw[IG v0 rfl];exact .v (.cell (.ptr 0 0 g hk0))
   |succ s=>
    rw[gR];cases hd:Ew[s]? with
    |none=>exact⟨[],.of (.any _),by simp⟩
    |some x=>
     obtain⟨v,b',k1,k2,k3⟩:=hrd.at (i:=s+1) (d:=x) (by simpa using hd);rw[IG v (by simpa using k1)];exact⟨b',.v k2,fun b hb'=>Fc b (hz b (hb0 b (k3 b hb')))⟩
  ·intro j o hj;cases j with
   |zero=>
    simp at hj;subst hj;obtain⟨b',k1,k2⟩:=Km;refine⟨⟨by rw[hpt];exact hk0,fun c hc g2 UN T2 hk2 IF=>?_⟩,g,cs,T,hk0,hg,by simp[Θ0],b',k1,k2⟩;have e3:Value.pointer (some ⟨g,0,none⟩)=.pointer (some ⟨g2,0,none⟩):=mE (hk0.symm.trans hk2);cases e3;rw[hg]at IF;cases IF;exact hkp c hc
   |succ j=>
    obtain⟨x,hx,rfl⟩:=Gp j o (by simpa using hj);exact Fs.rel (q2 x (aE hx)) (QW j x hx) (fun b hb'=>Gy j x b hx hb') (fun b hb'=>L6 j x b hx hb') fun hs' b hb'=>Fc b (hz b (q6 x (aE hx) hs' b hb'))
  ·intro b hb';by_cases e:Θ0 b=Θ b
   ·exact hown b (by rw[<-e];exact hb')
   ·rcases sM b e with rfl|ht
    ·exact Wn
    ·exact hown b (by have:=(hts b ht).1;omega)
  ·intro b hlt hx;refine⟨rfl,?_⟩;have e:Θ0 b=Θ b:=cS fun e=>hx (sM b e)
   rw[e];exact h1 b
  ·intro b hb';refine .inr (sM b fun e=>?_);have:=h1 b;omega
  ·intro b hb';cases IE:mm L b with
   |none=>simp[ρ0,IE]at hb'
   |some i=>
    obtain⟨x,hx,tT⟩:=nR IE;exact⟨L6 i x b hx tT,.inr (mF hx tT),(mw b (mF hx tT)).2⟩
  ·intro id e sz rows hj;cases id with
   |zero=>simp at hj
   |succ j=>
    obtain⟨x,hx,JC⟩:=Gp j _ (by simpa using hj);obtain⟨hsh,rfl,rfl,rfl⟩:=Fs.Cq JC.symm;have p4:=(q2 x (aE hx)).uq hsh;obtain⟨p1,p2,p3,_,_⟩:=q2 x (aE hx);exact⟨x.v,x.cs,x.ns,QW j x hx,p3,p4,zy hnd hx,fun b hb'=>by simp[ρ0,uc hnd hx hb']⟩
  ·intro id o hj;cases id with
   |zero=>simp at hj;subst hj;trivial
   |succ j=>
    obtain⟨x,hx,JC⟩:=Gp j _ (by simpa using hj);subst JC;exact Fs.plain x
 have hold:obs=[]->qg.length=3->∀rows,qg[0]?=some (.sl rows)->S8 Γ u0 rows:=by
  intro ho Jk rows Jn;have hL:L=[]:=cF (by rw[<-L8,ho];rfl);refine⟨fun b hb'=>by simp[Γ,hL]at hb',?_⟩;obtain⟨b',k1,k2⟩:=Km;obtain⟨v,b1,p1,_,p3,p4⟩:=k1.at Jn;obtain⟨c,q6,q7⟩:=Se (by have:=k1.length;rw[Jk]at this;simpa using this);have:v=c:=by
   rw[fw,q7]at p1;cases p1;rfl
  subst this;have Sn:Rd w v (.sl rows) b1:=by cases p3 with|pure h=>exact h
  refine⟨v,b1,q6,Sn,fun b hb'=>⟨Sn.lt b hb',fun hx=>?_,k2 b (p4 b hb')⟩⟩;have h0:=k2 b (p4 b hb');rcases hx with rfl|hx
  ·simp[Θ0]at h0
  ·simp[hL]at hx
 refine wp_mono (h Gv u0 Γ rfl hold _ _ _ _ hs) ?_;rintro x a' w' ⟨Cw,κ1,Θ1,hs0,Qi⟩;obtain⟨wY,hdf,hst,v,g',cs',T',b2,t2,u2,b3,t3,u3,hrun,e0,hg',Y9,hres,V4,V0,xx,om,ht'⟩:=KG.out hs0 Qi;obtain rfl:g=g':=by
  have e1:Value.pointer (some ⟨g,0,none⟩)=.pointer (some ⟨g',0,none⟩):=hpt.symm.trans e0;cases e1;rfl
 have post:a'.defers=[]/\∃v',(results fn a'.tmps).run P w'=.ok v' w'/\∃v cs' T' b2 t2 u2 b3 t3 u3,Ending.returned v'=.returned v/\w'.os=w.os/\w'.tape=w.tape/\w'.output=w.output/\w.heap.size<=w'.heap.size/\
  (∀b,b<w.heap.size->b≠g->b∉L.flatMap Fs.ts->w'.heap[b]?=w.heap[b]?)/\w'.heap[g]?=some (.cells cs' T' (0,0))/\(cs.size=3->cs'.size=3/\cs'[0]?=cs[0]?)/\
  tH w' v d b2 t2 u2/\nD w' cs'.toList cells' b3 t3 u3/\(∀b∈b3++b2,(b<w.heap.size->Θ b=0\/b∈L.flatMap Fs.ts)/\b≠g/\b∉t3++t2)/\(u3++u2).Nodup/\
  (∀b∈u3++u2,(w.heap.size<=b\/b∈L.flatMap Fs.bl)/\b≠g/\Wr w' b)/\∀b∈t3++t2,b∈u3++u2/\(w.heap.size<=b\/b∈L.flatMap Fs.ts):=by
  refine⟨hdf,v,hrun,v,cs',T',b2,t2,u2,b3,t3,u3,rfl,hst.os,hst.tape,hst.output,hst.size,fun b hlt hne hnt=>hst.block b hlt (fun hx=>hx.elim hne hnt),hg',(fun h3=>by obtain⟨c,q6,q7⟩:=Se h3;obtain⟨q8,q9⟩:=Y9 c q6;exact⟨q8,q9.trans q7.symm⟩),hres,V4,fun b hb'=>?_,xx,fun b hb'=>?_,fun b hb'=>?_⟩
  ·obtain⟨k1,k2,k3⟩:=V0 b hb';refine⟨fun hlt=>?_,k2,k3⟩;by_cases ht:b∈L.flatMap Fs.ts
   ·exact .inr ht
   ·refine .inl ?_;have:=k1 hlt (fun hx=>hx.elim k2 ht);have e:Θ0 b=Θ b:=cS fun e=>(sM b e).elim k2 ht
    rw[<-e];exact this
  ·obtain⟨k1,k2,k3⟩:=om b hb';refine⟨?_,k2,k3⟩;rcases k1 with(k1|k1|k1)|k1
   ·exact .inl k1
   ·exact absurd k1 k2
   ·exact .inr (vu k1)
   ·exact .inr k1
  ·obtain⟨k1,k2⟩:=ht' b hb';refine⟨k1,?_⟩;have:=(om b k1).2.1;rcases k2 with k2|k2|k2
   ·exact .inl k2
   ·exact absurd k2 this
   ·exact .inr k2
 rcases wY with rfl|rfl
 ·exact post
 ·exact post
theorem K4{o:Oper}{f t id:Nat}{xs:Array Operand}{ty:Array TypeId}{x0:Operand}{xr:List Operand}{ob:Ob}{Ac cells cells' ds:aG}{d:D}{nz:List (List (Option (Nat×Nat)))}{ms qs:aI}
 (hop:o.op=.call {callee:=.value (.func f),args:=xs,argTypes:=ty}) (hd:o.dst=some t) (hg:o.guard=none) (ht:t<Γ.nt)
 (hxs:xs.toList=x0::xr) (hx0:st.ev x0=.ptr id 0) (hH:st.H[id]?=some ob) (rO:ob.I5=some Ac)
 (wY:sO st.H nz (.agg Ac::xr.map st.ev)=some (.agg cells::ds,ms,qs)) (DA:ms.Nodup) (Bh:qs.Nodup) (Nf:∀m∈qs,m∉ms) (jO:iR P f cells cells' ds d)
 (h:AO P Γ all rest Q ⟨(t,(je (st.H.length+(jP st.H.length cells').2.length) d).1)::st.σ,
  (kill st.H (ms++qs)).set id (ob.re (jP st.H.length cells').1)++((jP st.H.length cells').2++(je (st.H.length+(jP st.H.length cells').2.length) d).2)⟩):AO P Γ all (o::rest) Q st:=by
 intro κ Θ a w hs;have vi:=qT wY;obtain⟨ρ,hu⟩:=hs.mi;obtain⟨Θ1,ρ1,hs1,hu1,hm1,hz1,Jo⟩:=cX.zq ms hs hu DA (fun m hm=>by
  obtain⟨e,sz,rows,hH⟩:=vi.1 m hm;exact⟨_,e,sz,rows,hH,rfl⟩)
 have J9:id<st.H.length:=(aB.1 hH).1;have Wp:∀k e sz rows,st.H[id]?≠some (.row k e sz rows):=fun k e sz rows e1=>by rw[hH]at e1;cases e1;cases rO
 have VI:id∉ms:=fun hm=>by obtain⟨e',sz',cw,xD⟩:=vi.1 id hm;exact Wp _ _ _ _ xD
 have VJ:id∉qs:=fun hm=>by obtain⟨_,e',sz',cw,xD⟩:=vi.2 id hm;exact Wp _ _ _ _ xD
 have EC:(kill st.H ms)[id]?=some ob:=by rw[cj VI];exact hH
 have Qc:=hs1.ob id _ EC;obtain⟨g,cs,T,hk0,J7,EL,bb,QN,hbz⟩:=Qc.cs rO;have Wn:g<w.heap.size:=(aX.1 J7).1;have hq:∀m e sz rows,st.H[m]?=some (.row .uq e sz rows)->∃v cs ns,κ m=some v/\0<sz/\(∀r∈rows,r.length=sz)/\w.ownsRow 0 e sz v rows.length cs/\qG w (ol e) 0 cs rows.flatten ns/\ns.Nodup/\(∀b∈ns,ρ1 b=m+1)/\∀g,v.ownBlock=some g->Θ1 g=m+2:=by
  intro m e sz rows hH;have hnm:m∉ms:=fun hm=>by
   obtain⟨e',sz',cw,xD⟩:=vi.1 m hm;rw[hH]at xD;cases xD
  have EC:(kill st.H ms)[m]?=some (.row .uq e sz rows):=by rw[cj hnm];exact hH
  obtain⟨v,cs,ns,r1,r2,r3,r4,r5⟩:=hu1.rows m e sz rows EC;obtain⟨p1,p2,v2,_,_,p3,_,_,p4,_⟩:=hs1.ob m _ EC;rw[r1]at p3;cases p3;exact⟨v,cs,ns,r1,p1,p2,r2,r3,r4,r5,p4⟩
 have qx:∀m e sz rows,m∉ms->st.H[m]?=some (.row .sh e sz rows)->∃v cs ns,κ m=some v/\0<sz/\(∀r∈rows,r.length=sz)/\w.ownsRow 0 e sz v rows.length cs/\iT w cs rows.flatten ns/\(∀b∈ns,Θ1 b=0)/\∀g,v.ownBlock=some g->Θ1 g=m+2:=by
  intro m e sz rows hnm hH;obtain⟨p1,p2,v2,cs,ns,p3,p4,p5,p6,p7⟩:=hs1.ob m _ (show(kill st.H ms)[m]?=_ by rw[cj hnm];exact hH);exact⟨v2,cs,ns,p3,p1,p2,p4,p5,p7,p6⟩
 obtain⟨bs,ts,us,wX,tD⟩:=uI (w:=w) (vs:=.agg cs::xr.map a.eval) (fun b hb=>(hu1.free b hb).1) hq qx hs.kC wY Nf Bh (by simp) (fun i d hd=>by
  cases i with
  |zero=>
   simp at hd;subst hd;have:=C1.agg _ _ _ QN;exact⟨_,bb,rfl,.v (by simpa using this),hbz⟩
  |succ i=>
   rw[gR,bS]at hd;cases hx:xr[i]? with
   |none=>rw[hx]at hd;cases hd
   |some x=>
    rw[hx]at hd;simp only[bp,aS]at hd;subst hd;obtain⟨b,r,z⟩:=hs.ev x;exact⟨a.eval x,b,by simp[hx],r,fun y hy=>hz1 y (z y hy)⟩) hm1
 let Θc:Nat->Nat:=fun b=>if Θ1 b=0 then 0 else 1
 have sM:∀b,Θc b=0↔Θ1 b=0:=fun b=>by simp only[Θc];split<;>simp_all
 have zi:∀b∈ts,∃m∈qs,Θ1 b=m+2:=fun b hb=>(tD.top b hb).1
 have Vk:∀b∈ts,b≠g:=fun b hb e=>by
  obtain⟨m,hm,hΘ⟩:=zi b hb;subst e;rw[EL]at hΘ;exact VJ (by
   have:id=m:=by omega
   rw[this];exact hm)
 have Gw:D1 w fun b=>b=g\/b∈ts:=by
  obtain⟨B,v1,v2⟩:=hs1.S3;refine⟨B,v1,fun b hB=>⟨(v2 b hB).2.1,fun hb'=>?_⟩⟩;have hm:rC Γ b:=by
   rcases hb' with rfl|hb'
   ·exact hs1.mine b (by omega)
   ·obtain⟨m,hm,hΘ⟩:=zi b hb';exact hs1.mine b (by omega)
  rcases hm with q|q
  ·have:=(v2 b hB).1;omega
  ·exact(v2 b hB).2.2 q
 have hwr:∀b∈us,Wr w b:=by
  intro b hb;rcases tD.mem b hb with h|⟨m,hm,hρ⟩
  ·exact AY wX b h
  ·exact(hu1.free b (by omega)).2.2
 have hc:=jO.2 w Θc g cs T (xr.map a.eval) bs ts us Gw J7 wX (fun b hb=>(sM b).2 (tD.zero b hb)) (fun b hb=>hs1.own b (fun e=>hb ((sM b).2 e))) (fun b=>by simp only[Θc];split<;>omega)
  (by simp only[Θc];rw[ai (by omega)]) (fun b hb=>by
   obtain⟨m,hm,hΘ⟩:=zi b hb;exact⟨by simp only[Θc];rw[ai (by omega)],(tD.top b hb).2,Vk b hb⟩) tD.nd (fun b hb=>⟨fun hnt=>by
   rcases tD.mem b hb with h|⟨m,hm,hρ⟩
   ·exact absurd h hnt
   ·exact(sM b).2 (hu1.free b (by omega)).1,hwr b hb⟩)
 refine wpList_plain hg fun K hK=>?_
 unfold Oper.wp;rw[pL hop jO.1,Oper.upon_enter];have e0:xs.map a.eval=(.pointer (some ⟨g,0,none⟩)::xr.map a.eval).toArray:=by
  obtain⟨b0,r0,_⟩:=hs.ev x0;rw[hx0]at r0;obtain⟨g',hk',hv⟩:=r0.rJ;rw[hk0]at hk';cases hk';rw[<-lM,ec,hxs];simp[hv]
 rw[e0];refine hc.mono ?_;rintro x w' ⟨v,cs',T',b2,t2,u2,b3,t3,u3,rfl,k1,k2,k3,k4,H8,kg,P8,R4,YX,kb,Mx,ku,kt⟩;show K (a.put o.dst v) w';rw[hd];let N:=st.H.length
 have hs2:=hs1.forget (id::qs);have Uw:(kill st.H ms).length=N:=dY _ _;simp only[Uw]at hs2;let Θ2:Nat->Nat:=fun b=>if(id::qs).any (fun m=>Θ1 b==m+2)then N+2 else Θ1 b
 have hs2:cX Γ ⟨st.σ,kill (kill st.H ms) (id::qs)⟩ κ Θ2 a w:=hs2;have CO:∀b,Θ1 b=0->Θ2 b=0:=fun b hb=>by
  simp only[Θ2];rw[ai,hb];intro h;obtain⟨m,_,hm⟩:=cL.1 h;simp[hb]at hm
 have we:∀b,b=g\/b∈ts->Θ2 b=N+2:=by
  intro b hb;simp only[Θ2];rw[av];rcases hb with rfl|hb
  ·exact cL.2 ⟨id,by simp,by simp[EL]⟩
  ·obtain⟨m,hm,hΘ⟩:=zi b hb;exact cL.2 ⟨m,by simp[hm],by simp[hΘ]⟩
 have Mu:rY Γ (kill (kill st.H ms) (id::qs)) κ Θ2 w ρ1:=by
  refine⟨fun b hb=>?_,fun j e sz rows hj=>?_,fun j o hj=>?_⟩
  ·obtain⟨q1,q2⟩:=hu1.free b hb;exact⟨CO b q1,q2⟩
  ·rcases jf hj with h|⟨_,h⟩
   ·cases h
   ·exact hu1.rows j e sz rows h
  ·rcases jf hj with h|⟨_,h⟩
   ·subst h;trivial
   ·exact hu1.more j o h
 obtain⟨Lb,a1,a2,a3,a4,a6,a5⟩:=YX.inst N;obtain⟨Ld,c1,c2,c3,c4,c6,c5⟩:=R4.inst (N+(jP N cells').2.length);have Ut:Lb.length=(jP N cells').2.length:=by rw[<-a1];simp
 let L:=Lb++Ld
 have IE:u3++u2=L.flatMap Fs.bl:=by simp[L,a3,c3]
 have Vj:t3++t2=L.flatMap Fs.ts:=by simp[L,a4,c4]
 rw[IE]at Mx ku kt;rw[Vj]at kt kb;have ED:∀x∈L,x.ok w':=fun x hx=>by
  rcases aH.1 hx with hx|hx
  ·exact a2 x hx
  ·exact c2 x hx
 have Uv:∀x∈L,x.sh=true->∀b∈x.vs,b∈b3++b2:=fun x hx hs' b hb=>by
  rcases aH.1 hx with hx|hx
  ·exact aH.2 (.inl (a6 x hx hs' b hb))
  ·exact aH.2 (.inr (c6 x hx hs' b hb))
 let κ':Nat->Option Value:=fun j=>if j<N then κ j else(L[j-N]?).map Fs.v
 let Θ':Nat->Nat:=fun b=>if b=g then id+2 else match BY L b with|some i=>N+i+2|none=>if Θ2 b=N+2 then 0 else Θ2 b
 let ρ':Nat->Nat:=fun b=>match mm L b with|some i=>N+i+1|none=>ρ1 b
 have hgt:g∉L.flatMap Fs.bl:=fun h=>(ku g h).2.1 rfl
 have Sw:Θ' g=id+2:=by simp[Θ']
 have EK:∀(i:Nat) x b,L[i]?=some x->x.v.ownBlock=some b->Θ' b=N+i+2:=by
  intro i x b hx hb;have hb':b∈L.flatMap Fs.ts:=bI.2 ⟨x,aE hx,by simp[Fs.ts,hb]⟩;have hne:b≠g:=fun e=>hgt (e▸vu hb')
  simp only[Θ',AF Mx hx hb];rw[ai hne]
 have sL:∀b,b≠g->b∉L.flatMap Fs.ts->Θ' b=if Θ2 b=N+2 then 0 else Θ2 b:=by
  intro b h1 h2;simp only[Θ',pq h2];rw[ai h1]
 have hzero:∀b,w.heap.size<=b->Θ2 b=0:=fun b hge=>by
  cases h:Θ2 b with
  |zero=>rfl
  |succ m=>exact absurd (hs2.own b (by omega)) (by omega)
 have JD:∀b∈b3++b2,Θ' b=0:=by
  intro b hb;obtain⟨p1,p2,p3⟩:=kb b hb;rw[sL b p2 p3];by_cases hlt:b<w.heap.size
  ·rcases p1 hlt with h|h
   ·rw[CO b ((sM b).1 h)];simp
   ·rw[av (we b (.inr h))]
  ·rw[hzero b (by omega)];simp
 have L7:∀(i:Nat) x b,L[i]?=some x->b∈x.ns->Θ' b=0:=by
  intro i x b hx hb;have hmem:=mF hx hb;rw[sL b (ku b hmem).2.1 (ux Mx hx hb)];rcases(ku b hmem).1 with h|h
  ·rw[hzero b h];simp
  ·rcases tD.mem b h with h|⟨m,hm,hρ⟩
   ·rw[av (we b (.inr h))]
   ·rw[CO b (hu1.free b (by omega)).1];simp
 have hn:∀(j:Nat) v,κ j=some v->κ' j=some v:=by
  intro j v hj;have:j<N:=cS fun h=>by rw[hs.kQ j (by omega)]at hj;cases hj
  simp only[κ'];rw[av this];exact hj
 have oR:Names κ' N L:=by
  intro i x hx;simp only[κ'];rw[ai (by omega),cR,hx];rfl
 have L3:∀b∈L.flatMap Fs.ts,rC Γ b:=by
  intro b hb;rcases(kt b hb).2 with h|h
  ·exact .inl (dZ hs.base h)
  ·obtain⟨m,hm,hΘ⟩:=zi b h;exact hs1.mine b (by omega)
 have k:fD w w' Θ2 Θ' (N+2):=by
  refine⟨by omega,k1,k2,k3,k4,fun b hlt hne=>H8 b hlt (fun e=>hne (we b (.inl e))) (fun e=>hne (we b (.inr e))),fun b hlt hne=>?_,fun b hb=>?_⟩
  ·rw[sL b (fun e=>hne (we b (.inl e))) (fun e=>?_),ai hne];rcases(kt b e).2 with h|h
   ·omega
   ·exact hne (we b (.inr h))
  ·by_cases e:b=g
   ·subst e;omega
   ·by_cases ht':b∈L.flatMap Fs.ts
    ·obtain⟨x,T,hx⟩:=(ku b (vu ht')).2.2;exact(aX.1 hx).1
    ·rw[sL b e ht']at hb;split at hb
     ·exact absurd rfl hb
     ·exact cK (hs2.own b hb) k4
 have hm:∀b,2<=Θ' b->rC Γ b:=by
  intro b hb;by_cases e:b=g
  ·subst e;exact hs1.mine b (by omega)
  ·by_cases ht':b∈L.flatMap Fs.ts
   ·exact L3 b ht'
   ·rw[sL b e ht']at hb;split at hb
    ·omega
    ·exact hs2.mine b hb
 have mw:=hs2.jh k hn Mu;have yg:((kill st.H (ms++qs)).set id (ob.re (jP N cells').1)).length=N:=by simp[dY,N]
 have TE:∀(a_ bs:aI) (H:ax),kill H (a_++bs)=kill (kill H a_) bs:=by
  intro a_
  induction a_ with
  |nil=>intro bs H;rfl
  |cons x a_ ih=>intro bs H;simp only[lN,kill,ih]
 have VS:(jP N cells').2++(je (N+(jP N cells').2.length) d).2=L.map Fs.ob:=by simp[L,a1,c1]
 have key:∀(j:Nat) y,((kill st.H (ms++qs)).set id (ob.re (jP N cells').1)++L.map Fs.ob)[j]?=some y->(∃i x,j=N+i/\L[i]?=some x/\y=x.ob)\/(j=id/\y=ob.re (jP N cells').1)\/(j≠id/\j<N/\(y=.gone\/(kill (kill st.H ms) (id::qs))[j]?=some y)):=by
  intro j y hj;by_cases hlt:j<N
  ·rw[aV (by rw[yg];exact hlt)]at hj;rcases rK j y hj with⟨rfl,rfl⟩|⟨h1,h2⟩
   ·exact .inr (.inl ⟨rfl,rfl⟩)
   ·refine .inr (.inr ⟨h1,hlt,?_⟩);rcases jf h2 with h|⟨h3,h4⟩
    ·exact .inl h
    ·refine .inr ?_;simp only[aH,AV]at h3;rw[cj (by simp[h1,h3.2]),cj h3.1];exact h4
  ·rw[aY (by omega),yg,bS]at hj;cases hx:L[j-N]? with
   |none=>simp[hx]at hj
   |some x=>simp[hx]at hj;exact .inl ⟨j-N,x,by omega,hx,hj.symm⟩
 have hs':cX Γ ⟨st.σ,(kill st.H (ms++qs)).set id (ob.re (jP N cells').1)++L.map Fs.ob⟩ κ' Θ' a w':=by
  have BN:∀(j:Nat) y,(kill (kill st.H ms) (id::qs))[j]?=some y->y≠ .gone->∀b,ρ1 b=j+1->ρ' b=j+1:=by
   intro j y hy Vp b Qp;have hjk:j∉id::qs:=by
    rcases jf hy with h|h
    ·exact absurd h Vp
    ·exact h.1
   have hnb:mm L b=none:=by
    cases hi:mm L b with
    |none=>rfl
    |some i=>
     exfalso;obtain⟨x,hx,tT⟩:=nR hi;obtain⟨z0,_,Uk,XY,Qn⟩:=hu1.free b (by omega);rcases(ku b (mF hx tT)).1 with h|h
     ·have:=(aX.1 Qn).1;omega
     ·rcases tD.mem b h with h|⟨m,hm',hρ⟩
      ·obtain⟨m,hm',hΘ⟩:=zi b h;omega
      ·exact hjk (by
        have:j=m:=by omega
        rw[this];simp[hm'])
   simp only[ρ',hnb];exact Qp
  refine hs2.step k hm hn ?_ ?_ ?_ ⟨ρ',?_,?_,?_⟩
  ·intro i hi;simp only[af,yg,az]at hi;simp only[κ'];rw[ai (by omega),bZ (by omega)];rfl
  ·intro i u om;simp only[κ']at om;split at om
   ·exact hs.kC i u om
   ·cases hx:L[i-N]? with
    |none=>simp[hx]at om
    |some x=>simp[hx]at om;subst om;exact(ED x (aE hx)).2.2.2.2
  ·intro j y hj;rcases key j y hj with⟨i,x,rfl,hx,rfl⟩|⟨rfl,rfl⟩|⟨hji,hjl,hy|hy⟩
   ·exact .inr (.inr (Fs.rel (ED x (aE hx)) (oR i x hx) (fun g' hg'=>EK i x g' hx hg') (fun b hb'=>L7 i x b hx hb') fun hs' b hb'=>JD b (Uv x (aE hx) hs' b hb')))
   ·obtain⟨b5,r5,s5⟩:=a5 κ' oR.left;refine .inr (.inr (oU.TZ rO Qc (hn _) (fun c0 u0 Xb c hc g2 UN T2 hk2 IF=>by
     subst Xb;rw[hn _ _ hk0]at hk2;cases hk2;rw[kg]at IF;cases IF;obtain⟨z1,z2⟩:=Qc.1.2 c hc g cs T hk0 J7;exact⟨(P8 z1).1,(P8 z1).2.trans z2⟩) ⟨g,cs',T',hn _ _ hk0,kg,Sw,b5,r5,fun b hb=>JD b (by simp[s5 b hb])⟩))
   ·exact .inl hy
   ·exact .inr (.inl ⟨by omega,hy⟩)
  ·intro b hb;cases D7:mm L b with
   |some i=>
    obtain⟨x,hx,tT⟩:=nR D7;have hmem:=mF hx tT;refine⟨L7 i x b hx tT,?_,(ku b hmem).2.2⟩;rcases(ku b hmem).1 with h|h
    ·exact .inl (.inl (dZ hs.base h))
    ·rcases tD.mem b h with h|⟨m,hm',hρ⟩
     ·obtain⟨m,hm',hΘ⟩:=zi b h;exact .inl (hs1.mine b (by omega))
     ·exact(hu1.free b (by omega)).2.1
   |none=>
    simp only[ρ',D7]at hb;exact mw.1 b hb
  ·intro j e sz rows hj;rcases key j _ hj with⟨i,x,rfl,hx,hy⟩|⟨rfl,hy⟩|⟨hji,hjl,hy|hy⟩
   ·obtain⟨hsh,rfl,rfl,rfl⟩:=Fs.Cq hy.symm;have q4:=(ED x (aE hx)).uq hsh;obtain⟨q1,q2,q3,_,_⟩:=ED x (aE hx);exact⟨x.v,x.cs,x.ns,oR i x hx,q3,q4,zy Mx hx,fun b hb'=>by simp only[ρ',uc Mx hx hb']⟩
   ·cases ob<;>simp[Ob.re]at hy
   ·cases hy
   ·obtain⟨v',c',bs',r1,r2,r3,r4,r5⟩:=mw.2.1 j e sz rows (by omega) hy;exact⟨v',c',bs',r1,r2,r3,r4,fun b hb'=>BN j _ hy (by simp) b (r5 b hb')⟩
  ·intro j y hj;rcases key j _ hj with⟨i,x,rfl,hx,hy⟩|⟨rfl,hy⟩|⟨hji,hjl,hy|hy⟩
   ·subst hy;exact Fs.plain x
   ·subst hy;cases ob<;>exact Ct.wo rfl
   ·subst hy;trivial
   ·by_cases hg:y=.gone
    ·subst hg;trivial
    ·exact(mw.2.2 j y (by omega) hy).re (BN j y hy hg)
 rw[VS]at h;obtain⟨b6,r6,s6⟩:=c5 κ' (by rw[<-Ut];exact oR.right);exact hK _ _ (h _ _ _ _ (hs'.set (t:=t) ht r6 fun b hb=>JD b (by simp[s6 b hb])))
def z8(P:Program)(f:FuncId)(ds cells:aG):Prop:=
 (∃fn,P.funcs[f]?=some fn/\fn.body.isSome=true/\(fn.name== "runtime.NumGoroutine")=false)/\
 ∀(w:World) (Θ:Nat->Nat) (args:b9) (bs:aI),D1 w (fun _=>False)->Hs w args ds bs->(∀b∈bs,Θ b=0)->(∀b,Θ b≠0->b<w.heap.size)->(∀b,Θ b<=1)->
  Calls P f args.toArray w (fun e w'=>∃g cs T bs',e=.returned (.pointer (some ⟨g,0,none⟩))/\Below w.heap.size w w'/\w.heap.size<=g/\w'.heap[g]?=some (.cells cs T (0,0))/\iT w' cs.toList cells bs'/\
   ∀b∈bs',(b<w.heap.size->Θ b=0)/\b≠g)
def S9(P:Program)(fn:Func)(cells:aG)(e:Exit)(st:St):Prop:=
 (e=.ret\/e=.normal)/\∃j,yI P st fn.results.toList=some [.ptr j 0]/\st.H[j]?=some (.box cells)/\cells.all D.Ey=true
theorem z8.of{f:FuncId}{fn:Func}{c:Code}{ds cells:aG}(hf:P.funcs[f]?=some fn)(hb:fn.body=some c)(hn:(fn.name== "runtime.NumGoroutine")=false)
 (hl:ds.length<=fn.ntmps) (h:(∀d∈ds,n9 d)->∀Γ:oK,Γ.nt=fn.ntmps->AW P Γ c (S9 P fn cells) ⟨rj 0 ds,[]⟩):z8 P f ds cells:=by
 refine⟨⟨fn,hf,by simp[hb],hn⟩,?_⟩;intro w Θ args bs hvs hargs hz hown h1;obtain⟨hlen,ID⟩:=hargs.at;refine calls_of_wp hf hb ?_;let Γ:oK:=⟨w,Θ,fun _=>False,fn.ntmps,fun _=>False,hvs⟩
 have hs:cX Γ ⟨rj 0 ds,[]⟩ (fun _=>none) Θ {tmps:=args.toArray++Array.replicate (fn.ntmps-args.toArray.size) undef,defers:=[]} w:=by
  refine⟨rfl,?_,fun _ _=>rfl,by simp,?_,by simp,hown,fun b _ _=>⟨rfl,h1 b⟩,fun b hb=>by have:=h1 b;omega,⟨rfl,rfl,rfl,bM _,fun _ _ _=>rfl⟩,⟨fun _=>0,by simp,by simp,by simp⟩⟩
  ·simp[Γ];omega
  ·intro t;rw[zm];simp only[qc,rW,uV];cases hd:ds[t]? with
   |none=>exact⟨[],.of (.any _),by simp⟩
   |some x=>
    obtain⟨v,b,k1,k2,k3⟩:=ID t x hd;refine⟨b,?_,fun y hy=>hz y (k3 y hy)⟩;have hlt:t<args.length:=(aB.1 k1).1;have:(args.toArray++Array.replicate (fn.ntmps-args.toArray.size) undef).getD t undef=v:=by
     rw[bU,eB (by simpa using hlt)];simp[k1]
    rw[this];exact .of k2
 refine wp_mono (h hargs.Te Γ rfl _ _ _ _ hs) ?_;rintro e a' w' ⟨Cw,κ0,Θ0,hs0,wY,j,hres,hH,hp⟩;obtain⟨vs,bs',m1,m2,m3,m4,m5⟩:=xG hs0 hres;obtain⟨v,b,n1,n2,_⟩:=m4 0 _ rfl;obtain⟨g,hk,hv⟩:=n2.rJ;obtain⟨g',cs,T,hk',hg,hΘ,bb,QN,hbz⟩:=hs0.ob j _ hH;rw[hk]at hk';cases hk';have Vn:vs=[v]:=by
  simp only[aO,bH]at m3
  match vs,m2,n1 with
  | [],_,n1=>simp at n1
  | [x],_,n1=>simp at n1;rw[n1]
  |x::y::r,m2,_=>simp only[aO]at m2;omega
 have hrun:(results fn a'.tmps).run P w'=.ok (.pointer (some ⟨g,0,none⟩)) w':=by
  rw[results_eq,kO];simp[m1,Vn,hv]
 have CI:Below w.heap.size w w':=⟨hs0.stays.os,hs0.stays.tape,hs0.stays.output,hs0.stays.size,fun b hb=>hs0.stays.block b hb (fun h=>h)⟩
 have VG:w.heap.size<=g:=by
  rcases hs0.mine g (by omega)with q|q
  ·exact q
  ·exact q.elim
 have post:a'.defers=[]/\∃v,(results fn a'.tmps).run P w'=.ok v w'/\∃g cs T bs',Ending.returned v=.returned (.pointer (some ⟨g,0,none⟩))/\Below w.heap.size w w'/\w.heap.size<=g/\w'.heap[g]?=some (.cells cs T (0,0))/\iT w' cs.toList cells bs'/\
  ∀b∈bs',(b<w.heap.size->Θ b=0)/\b≠g:=by
  refine⟨hs0.defers,_,hrun,g,cs,T,bb,rfl,CI,VG,hg,QN.pure hp,fun b hb'=>⟨fun hlt=>?_,fun e=>?_⟩⟩
  ·exact(hs0.old b hlt (fun h=>h)).1.symm.trans (hbz b hb')
  ·have:=hbz b hb';subst e;omega
 rcases wY with rfl|rfl
 ·exact post
 ·exact post
theorem Jz{o:Oper}{f t:Nat}{xs:Array Operand}{ts:Array TypeId}{ds cells:aG}(hop:o.op=.call {callee:=.value (.func f),args:=xs,argTypes:=ts})(hd:o.dst=some t)(hg:o.guard=none)
 (ht:t<Γ.nt) (hds:yA st.H (xs.toList.map st.ev)=some (ds,[])) (jO:z8 P f ds cells)
 (h:AO P Γ all rest Q ⟨(t,.ptr st.H.length 0)::st.σ,st.H++[.box cells]⟩):AO P Γ all (o::rest) Q st:=by
 intro κ Θ a w hs;obtain⟨bs,hargs,hz⟩:=Bx hs hds;have qX:∀b∈bs,Θ b=0:=fun b hb=>(hz b hb).elim id (fun⟨m,h1,_⟩=>by cases h1)
 let Θc:Nat->Nat:=fun b=>if Θ b=0 then 0 else 1
 have sM:∀b,Θc b=0↔Θ b=0:=fun b=>by simp only[Θc];split<;>simp_all
 have hc:=jO.2 w Θc _ bs hs.S2 hargs (fun b hb=>(sM b).2 (qX b hb)) (fun b hb=>hs.own b (fun e=>hb ((sM b).2 e))) (fun b=>by simp only[Θc];split<;>omega);refine wpList_plain hg fun K hK=>?_
 unfold Oper.wp;rw[pL hop jO.1,Oper.upon_enter];have e:xs.map a.eval=(xs.toList.map a.eval).toArray:=by rw[<-ec,gQ]
 rw[e];refine hc.mono ?_;rintro e w' ⟨g,cs,T,bs',rfl,hb,hge,hg',hrd,QN⟩;show K (a.put o.dst (.pointer (some ⟨g,0,none⟩))) w';rw[hd];let Θ':Nat->Nat:=fun b=>if b=g then st.H.length+2 else Θ b
 have k:fD w w' Θ Θ' (st.H.length+2):=by
  refine⟨by omega,hb.os,hb.tape,hb.output,hb.size,fun b hlt _=>hb.block b hlt,fun b hlt _=>?_,fun b hb'=>?_⟩
  ·simp only[Θ'];rw[ai (by omega)]
  ·simp only[Θ']at hb';split at hb'
   ·rename_i e;subst e;exact(aX.1 hg').1
   ·exact cK (hs.own b hb') hb.size
 have hbz:∀b∈bs',Θ' b=0:=by
  intro b hb';obtain⟨h1,h2⟩:=QN b hb';simp only[Θ'];rw[ai h2];by_cases hlt:b<w.heap.size
  ·exact(sM b).1 (h1 hlt)
  ·cases h:Θ b with
   |zero=>rfl
   |succ m=>exact absurd (hs.own b (by omega)) hlt
 have hs':=hs.push (o:=.box cells) (v:=.pointer (some ⟨g,0,none⟩)) rfl k (hs.rP (fun b hb'=>by
  simp only[Θ']at hb';split at hb'
  ·rename_i e;subst e;exact .inr hge
  ·exact .inl hb')) ⟨g,cs,T,iB _ _ _,hg',by simp[Θ'],bs',dQ.vH hrd,hbz⟩ rfl
 refine hK _ _ (h _ _ _ _ (hs'.set (t:=t) (d:=.ptr st.H.length 0) (bs:=[]) ht ?_ (by simp)));exact(rD.ptr st.H.length 0 g (iB _ _ _)).Dj
theorem NB{o:Oper}{T t id e e' sz h:Nat}{kk:IntKind}{x hi:Operand}{rows:List aG}(hop:o.op=.slice T x none (some hi) none)(hd:o.dst=some t)(hg:o.guard=none)(ht:t<Γ.nt)
 (hT:xJ P T=some (e',sz)) (hx:st.ev x=.acc id) (hH:st.H[id]?=some (.row .uq e sz rows)) (hhi:st.ev hi=.int kk (h:Int)) (hle:h<=rows.length)
 (hn:AO P Γ all rest Q ⟨(t,.acc st.H.length)::st.σ,kill st.H [id]++[.row .uq e sz (rows.take h)]⟩):AO P Γ all (o::rest) Q st:=by
 intro κ Θ a w hs;obtain⟨hsz,hrl,v,cs0,SF,hk,Ow,YJ,wZ,qX⟩:=hs.ob id _ hH;obtain⟨ρ,hu⟩:=hs.mi;obtain⟨v2,cs,bs,hk2,hown,hrd,hnd,hρ⟩:=hu.rows id e sz rows hH;rw[hk]at hk2;cases hk2;obtain⟨bx,rx,_⟩:=hs.ev x;rw[hx]at rx;obtain⟨Sf,_⟩:=rx.oL;have IN:a.eval x=v:=by rw[hk]at Sf;cases Sf;rfl
 let v':Value:=match v with| .slice q _ cap=>.slice q h cap|u=>u
 have hc:oH rows.length ((none:Option Operand).map st.ev) ((some hi).map st.ev)=some (0,h):=by
  simp[oH,hhi,hle]
 have hrun:∃q cap,v=.slice q rows.length cap/\v'=.slice q h cap/\(execOp a.eval o).run P w=.ok (.value v') w:=by
  obtain⟨om,B1,zj⟩:=kD hT;have main:∀(q:Option Addr) (cap:Nat),(∀b off sp,q=some ⟨b,off,sp⟩->off=0/\sp=none)->v=.slice q rows.length cap->rows.length<=cap->(execOp a.eval o).run P w=.ok (.value (.slice q h cap)) w:=by
   intro q cap Sl hq hcap;obtain⟨hr,hl,hh⟩:=Eg (P:=P) (isSlice:=true) (cap:=cap) hs hcap hc;have Xr:(if cap=0 then q else q.map (·.add (0*sz)))=q:=by
    split
    ·rfl
    ·cases q with
     |none=>rfl
     |some ad=>simp[Addr.add]
   simp only[qd,bp]at hr;simp only[execOp,hop,IN,hq];simp[Instr.sliceAt,Instr.slice,run_underlying om,hr,oI (P:=P) B1 w];intro hc0;cases q with
   |none=>rfl
   |some ad=>simp[Addr.add]
  rcases hown.2 with⟨rfl,h0⟩|⟨g,cap,cur,rfl,_,EH,hnc,hcm,hcs,htk⟩
  ·exact⟨none,0,by rw[h0],rfl,main none 0 (by simp) (by rw[h0]) (by omega)⟩
  ·exact⟨some ⟨g,0,none⟩,cap,rfl,rfl,main _ _ (by simp) rfl hnc⟩
 obtain⟨q,cap,US,Ni,hrun⟩:=hrun;have rO:v'.ownBlock=v.ownBlock:=by rw[Ni,US];cases q<;>rfl
 have hone:v'.oneCell'=true:=by
  have:=hs.kC id v hk;rw[US]at this;rw[Ni];exact this
 have hsplit:∃cs' bs',w.ownsRow 0 e sz v' (rows.take h).length cs'/\qG w (ol e) 0 cs' (rows.take h).flatten bs'/\bs'.Nodup/\∀b∈bs',b∈bs:=by
  have e1:rows.flatten=(rows.take h).flatten++(rows.drop h).flatten:=by rw[<-fZ,bR]
  have DC:=hrd;rw[e1]at DC;obtain⟨c1,c2,b1,b2,rfl,rfl,k1,k2⟩:=DC.split;have htl:(rows.take h).length=h:=by rw[bK];omega
  have hc1:c1.length=h*sz:=by rw[k1.length,jN (fun r hr=>hrl r (bC hr)),htl]
  refine⟨c1,b1,?_,k1,(aq.1 hnd).1,fun b hb=>by simp[hb]⟩;rw[htl];refine⟨hc1,?_⟩;rcases hown.2 with⟨Rv,h0⟩|⟨g,cap',cur,hvs,Xt,EH,hnc,hcm,hcs,htk⟩
  ·left
   have:h=0:=by omega
   subst this;have e3:=Rv.symm.trans US;simp only[Value.slice.injEq]at e3;exact⟨by rw[Ni,<-e3.1,<-e3.2.2],rfl⟩
  ·right
   have e3:=hvs.symm.trans US;simp only[Value.slice.injEq]at e3;refine⟨g,cap',cur,by rw[Ni,<-e3.1,<-e3.2.2],Xt,EH,by omega,hcm,hcs,?_⟩;have h3:(cur.toList.take (rows.length*sz)).take (h*sz)=(c1++c2).take (h*sz):=by rw[htk]
   rw[nA,dN (cr _ hle)]at h3;rw[h3];exact fL hc1
 obtain⟨cs',bs',p1,p2,p3,p4⟩:=hsplit;refine wpList_plain hg fun K hK=>?_
 unfold Oper.wp;rw[hrun,Oper.upon_value,hd];let n:=st.H.length
 have J9:id<n:=(aB.1 hH).1;let Θ':Nat->Nat:=fun b=>if some b=v'.ownBlock then n+2 else Θ b
 let ρ':Nat->Nat:=fun b=>if ρ b=id+1 then n+1 else ρ b
 have Mw:∀g,v'.ownBlock=some g->Θ g=id+2:=fun g J8=>wZ g (rO▸J8)
 have k:fD w w Θ Θ' (id+2):=by
  refine⟨by omega,rfl,rfl,rfl,bM _,fun _ _ _=>rfl,fun b hb hne=>?_,fun b hb=>?_⟩
  ·simp only[Θ'];rw[ai fun e=>hne (Mw b e.symm)]
  ·simp only[Θ']at hb;split at hb
   ·rename_i e;exact hs.own b (by rw[Mw b e.symm];omega)
   ·exact hs.own b hb
 have hm:∀b,2<=Θ' b->rC Γ b:=by
  intro b hb;simp only[Θ']at hb;split at hb
  ·rename_i e;exact hs.mine b (by rw[Mw b e.symm];omega)
  ·exact hs.mine b hb
 have Qb:=qD (hs.kQ n (bM _)) (some v');have mw:=hs.jh k Qb hu;have Cu:∀b∈bs',Θ' b=0:=by
  intro b hb;have h1:=(hu.free b (by rw[hρ b (p4 b hb)];omega)).1;simp only[Θ'];rw[ai fun e=>by have:=Mw b e.symm;omega];exact h1
 have key:∀(j:Nat) y,(kill st.H [id]++[.row .uq e sz (rows.take h)])[j]?=some y->(j=n/\y=.row .uq e sz (rows.take h))\/(j≠n/\(y=.gone\/(j∉[id]/\st.H[j]?=some y))):=by
  intro j y hj;rcases uG j y hj with⟨h1,h2⟩|⟨h1,h2⟩
  ·rw[dY]at h1;exact .inl ⟨h1,h2⟩
  ·rw[dY]at h1;exact .inr ⟨h1,jf h2⟩
 have hs':cX Γ ⟨st.σ,kill st.H [id]++[.row .uq e sz (rows.take h)]⟩ (qY κ n (some v')) Θ' a w:=by
  refine hs.step k hm Qb ?_ ?_ ?_ ⟨ρ',fun b hb=>?_,fun j e2 GN dV hj=>?_,fun j y hj=>?_⟩
  ·intro i hi;simp only[af,aO,bH,dY]at hi;unfold qY;rw[ai (by omega)];exact hs.kQ i (by omega)
  ·intro i y hy;unfold qY at hy;split at hy
   ·cases hy;exact hone
   ·exact hs.kC i y hy
  ·intro j y hj;rcases key j y hj with⟨rfl,rfl⟩|⟨_,hy|⟨hjk,hy⟩⟩
   ·exact .inr (.inr ⟨hsz,fun r hr=>hrl r (bC hr),v',cs',bs',iB _ _ _,p1,p2.rd,fun g J8=>by simp only[Θ'];rw[av J8.symm],Cu⟩)
   ·exact .inl hy
   ·exact .inr (.inl ⟨fun e=>hjk (by simp;omega),hy⟩)
  ·refine mw.1 b fun h0=>hb ?_
   simp only[ρ'];rw[ai (by omega)];exact h0
  ·rcases key j _ hj with⟨rfl,hy⟩|⟨_,hy|⟨hjk,hy⟩⟩
   ·simp only[Ob.row.injEq,rX]at hy;obtain⟨rfl,rfl,rfl⟩:=hy;exact⟨v',cs',bs',iB _ _ _,p1,p2,p3,fun b hb=>by simp only[ρ'];rw[av (hρ b (p4 b hb))]⟩
   ·cases hy
   ·obtain⟨v3,c3,b3,q1,q2,q3,q4,q5⟩:=mw.2.1 j e2 GN dV (fun e=>hjk (by simp;omega)) hy;refine⟨v3,c3,b3,q1,q2,q3,q4,fun b hb=>?_⟩;have hne:j≠id:=fun e=>hjk (by simp[e])
    simp only[ρ'];rw[ai (by rw[q5 b hb];omega)];exact q5 b hb
  ·rcases key j _ hj with⟨rfl,hy⟩|⟨_,hy|⟨hjk,hy⟩⟩
   ·subst hy;exact Ct.wo rfl
   ·subst hy;trivial
   ·refine(mw.2.2 j y (fun e=>hjk (by simp;omega)) hy).re fun b hb=>?_
    have hne:j≠id:=fun e=>hjk (by simp[e])
    simp only[ρ'];rw[ai (by omega)];exact hb
 refine hK _ _ (hn _ _ _ _ (hs'.set (t:=t) (d:=.acc n) (bs:=[]) ht ?_ (by simp)));exact(rD.acc n _ (iB _ _ _)).Dj
end
end Go.Cx
namespace Go.Cx
open Go.RowKit
section
variable{P:Program}{Γ:oK}{Q:Exit->St->Prop}{st:St}{κ κ':Nat->Option Value}{Θ Θ':Nat->Nat}{a:Act}{w w':World}{all:Array Oper}{rest:List Oper}
theorem cX.RD(hs:cX Γ st κ Θ a w):
 cX Γ ⟨st.σ,st.H++[.mp []]⟩ (qY κ st.H.length (some (.map (some w.heap.size)))) (fun b=>if b=w.heap.size then st.H.length+2 else Θ b) a (w.alloc (.map #[] 0)):=by
 have k:=fD.alloc hs (.map #[] 0) (tag:=st.H.length+2) (by omega);refine hs.push rfl k (hs.rP (fun b hb=>by by_cases e:b=w.heap.size<;>simp_all)) ?_ rfl;exact⟨w.heap.size,#[],0,by simp[qY],heap_alloc_new w _,by simp,rfl,by simp⟩
theorem GP{o:Oper}{T t:Nat}(hop:o.op=.makeMap T none)(hd:o.dst=some t)(hg:o.guard=none)(ht:t<Γ.nt)
 (h:AO P Γ all rest Q ⟨(t,.acc st.H.length)::st.σ,st.H++[.mp []]⟩):AO P Γ all (o::rest) Q st:=by
 intro κ Θ a w hs;have hs':=hs.RD;refine wpList_plain hg fun K hK=>?_
 unfold Oper.wp;have hrun:(execOp a.eval o).run P w=.ok (.value (.map (some w.heap.size))) (w.alloc (.map #[] 0)):=by
  simp[execOp,hop,Instr.makeMap,newObj];rfl
 rw[hrun,Oper.upon_value,hd];refine hK _ _ (h _ _ _ _ (hs'.set (t:=t) (d:=.acc st.H.length) (bs:=[]) ht ?_ (by simp)));exact(rD.acc st.H.length _ (iB _ _ _)).Dj
theorem qo.push{es:List MapEntry}{kv:List (D×D)}{k v:D}{u x:Value}(h:qo w es kv)(hk:Rd w u k [])(hv:Rd w x v [])(c:Nat):qo w (es++[{key:=u,val:=x,born:=c}]) (kv++[(k,v)]):=by
 refine⟨by simp[h.1],fun j e p h1 h2=>?_⟩;by_cases hj:j<es.length
 ·rw[aV hj]at h1;rw[aV (by rw[<-h.1];exact hj)]at h2;exact h.2 j e p h1 h2
 ·rw[aY (by omega)]at h1;rw[aY (by rw[<-h.1];omega),<-h.1]at h2;have e0:j-es.length=0:=by
   have:=(aB.1 h1).1;simp at this;omega
  rw[e0]at h1 h2;simp at h1 h2;subst h1;subst h2;exact⟨hk,hv⟩
theorem qo.put{es:List MapEntry}{kv:List (D×D)}{k v:D}{u x:Value}(h:qo w es kv)(hk:Rd w u k [])(hv:Rd w x v [])(i:Nat){es':List MapEntry}(hl:es'.length=es.length)
 (he:∀(j:Nat) e,es'[j]?=some e->(j=i/\e.key=u/\e.val=x)\/(j≠i/\es[j]?=some e)):qo w es' (kv.set i (k,v)):=by
 refine⟨by simp[hl,h.1],fun j e p h1 h2=>?_⟩;rcases he j e h1 with⟨rfl,h3,h4⟩|⟨hne,h3⟩
 ·have hlt:j<kv.length:=by
   have:=(aB.1 h2).1;simpa using this
  rw[cT hlt]at h2;cases h2;rw[h3,h4];exact⟨hk,hv⟩
 ·rw[bO (ld hne)]at h2;exact h.2 j e p h3 h2
theorem R5{kd:TypeDesc}{k v:D}{u:Value}(D8:B3 kd k=true)(hu:Rd w u k []):∀ {es:List MapEntry} {kv kv':List (D×D)} (i:Nat),qo w es kv->Da k v kv=some kv'->
 (Instr.findNow kd u es i=some none/\kv'=kv++[(k,v)])\/∃j x e,Instr.findNow kd u es i=some (some (i+j,x))/\es[j]?=some e/\e.key=u/\kv'=kv.set j (k,v):=by
 intro es
 induction es with
 |nil=>
  intro kv kv' i hr h;cases kv with
  |nil=>cases h;exact .inl ⟨rfl,rfl⟩
  |cons p kv=>exact absurd hr.1 (by simp)
 |cons e es ih=>
  intro kv kv' i hr h;cases kv with
  |nil=>exact absurd hr.1 (by simp)
  |cons p kv=>
   obtain⟨r1,r2,r3⟩:=hr.cons;simp only[Da]at h;split at h
   ·rename_i hq;cases h;have:=Br D8 hu r1 hq;exact .inr ⟨0,e.val,e,by simp[Instr.findNow,this.1],rfl,this.2 rfl,rfl⟩
   ·rename_i hq;have DB:=(Br D8 hu r1 hq).1;cases hk:Da k v kv with
    |none=>rw[hk]at h;cases h
    |some ZB=>
     rw[hk]at h;cases h;rcases ih (i+1) r3 hk with⟨h1,h2⟩|⟨j,x,e',h1,h2,h3,h4⟩
     ·exact .inl ⟨by simpa[Instr.findNow,DB]using h1,by rw[h2];rfl⟩
     ·exact .inr ⟨j+1,x,e',by simp only[Instr.findNow,DB];rw[h1];congr 3;omega,by simpa using h2,h3,by rw[h4];rfl⟩
   ·cases h
theorem Ej{kd:TypeDesc}{u:Value}(h:MapKept.IsKey kd u)(n:Nat):Instr.sameBits n u u=true:=by
 cases kd<;>cases u<;>simp[MapKept.IsKey]at h<;>simp[Instr.sameBits]
 all_goals first
  |exact(MapKept.bytes_beq _ _).2 rfl
  |rfl
def D.scalar:D->Bool
 | .str _=>true
 | .int _ _=>true
 | .bool _=>true
 |_=>false
theorem G5{v:Value}{d:D}{bs:aI}(hd:d.scalar=true)(hu:lf w κ v d bs):Rd w v d []:=by
 cases d<;>simp[D.scalar]at hd
 all_goals cases hu with|v h=>cases h with|cell h=>cases h with|pure h=>cases h<;>(constructor<;>assumption)
theorem Du{o:Oper}{T id:Nat}{x i y:Operand}{kd:TypeDesc}{dz:D}{kv kv':List (D×D)}(hop:o.op=.mapUpdate T x i y)(hd:o.dst=none)(hg:o.guard=none)
 (hT:Mf P T=some (kd,dz)) (hx:st.ev x=.acc id) (hH:st.H[id]?=some (.mp kv)) (D8:B3 kd (st.ev i)=true) (hsc:(st.ev y).scalar=true) (hput:Da (st.ev i) (st.ev y) kv=some kv')
 (h:AO P Γ all rest Q ⟨st.σ,st.H.set id (.mp kv')⟩):AO P Γ all (o::rest) Q st:=by
 intro κ Θ a w hs;obtain⟨g,es,c,q1,q2,q3,q4⟩:=hs.ob id _ hH;obtain⟨bs,r,_⟩:=hs.ev x;rw[hx]at r;obtain⟨hk,_⟩:=r.oL;rw[q1]at hk;have Fb:a.eval x=.map (some g):=(mE hk).symm;obtain⟨bi,ri,_⟩:=hs.ev i;obtain⟨Z3,ry,_⟩:=hs.ev y;have hu:=DZ D8 ri;have hv:=G5 hsc ry;obtain⟨kt,et,z,t1,t2,t3,t4⟩:=Co hT;have hik:=Ff D8 hu;have QS:=MapKept.run_checkKey (P:=P) (w:=w) t2 hik false 9999;have VF:g<w.heap.size:=(aX.1 q2).1;have J9:id<st.H.length:=(aB.1 hH).1;have hrun:∃es' c',(execOp a.eval o).run P w=.ok .skip {w with heap:=w.heap.setIfInBounds g (.map es' c')}/\qo w es'.toList kv':=by
  rcases R5 D8 hu 0 q4 hput with⟨hn,rfl⟩|⟨j,x',e,hn,he,UO,rfl⟩
  ·have Kt:=MapKept.run_findKey (P:=P) (w:=w) t2 hn;refine⟨es.push {key:=a.eval i,val:=a.eval y,born:=c},c+1,?_,?_⟩
   ·simp[execOp,hop,Fb,Instr.mapUpdate,run_underlying t1,MapKept.run_getObj_map q2,QS,Kt,MapKept.run_setObj_map _ q2]
   ·rw[Array.toList_push];exact q4.push hu hv c
  ·rw[cP]at hn;have Kt:=MapKept.run_findKey (P:=P) (w:=w) t2 hn;have Wk:es[j]?=some e:=by simpa using he
   have hst:(Instr.keyThatStays (((es[j]?).map (·.key)).getD (a.eval i)) (a.eval i)).run P w=.ok (a.eval i) w:=by
    rw[Wk];simp[Instr.keyThatStays,UO,Ej hik]
   refine⟨es.modify j fun e=> {e with key:=a.eval i,val:=a.eval y},c,?_,?_⟩
   ·simp[execOp,hop,Fb,Instr.mapUpdate,run_underlying t1,MapKept.run_getObj_map q2,QS,Kt,hst,MapKept.run_setObj_map _ q2]
   ·refine q4.put hu hv j (by simp) fun m e' hm=>?_
    rw[fw,pM]at hm;by_cases VQ:j=m
    ·subst VQ;rw[av rfl,Wk]at hm;cases hm;exact .inl ⟨rfl,rfl,rfl⟩
    ·rw[ai VQ]at hm;exact .inr ⟨ld VQ,by simpa using hm⟩
 obtain⟨es',c',hr,VY⟩:=hrun;have Qe:∀b,b≠g->(w.heap.setIfInBounds g (.map es' c'))[b]?=w.heap[b]?:=fun b hb=>by simp[ld hb]
 have k:fD w {w with heap:=w.heap.setIfInBounds g (.map es' c')} Θ Θ (id+2):=by
  refine⟨by omega,rfl,rfl,rfl,by simp,fun b hb hne=>Qe b fun e=>hne (e▸q3),fun _ _ _=>rfl,fun b hb=>?_⟩;simpa using hs.own b hb
 have hs':cX Γ ⟨st.σ,st.H.set id (.mp kv')⟩ κ Θ a {w with heap:=w.heap.setIfInBounds g (.map es' c')}:=by
  obtain⟨ρ,om⟩:=hs.mi;have mw:=hs.jh k (fun _ _ h=>h) om;refine hs.step k hs.mine (fun _ _ h=>h) (fun i hi=>hs.kQ i (by simpa using hi)) hs.kC ?_ ⟨ρ,mw.1,fun j e sz rows hj=>?_,fun j y hj=>?_⟩
  ·intro j y' hj;by_cases e:j=id
   ·subst e;rw[cT J9]at hj;cases hj;exact .inr (.inr ⟨g,es',c',q1,by simp[VF],q3,VY.stay⟩)
   ·rw[bO (ld e)]at hj;exact .inr (.inl ⟨by omega,hj⟩)
  ·by_cases e':j=id
   ·subst e';rw[cT J9]at hj;cases hj
   ·rw[bO (ld e')]at hj;exact mw.2.1 j e sz rows (by omega) hj
  ·by_cases e':j=id
   ·subst e';rw[cT J9]at hj;cases hj;trivial
   ·rw[bO (ld e')]at hj;exact mw.2.2 j y (by omega) hj
 refine wpList_plain hg fun K hK=>?_
 unfold Oper.wp;rw[hr,Oper.upon_skip,hd];exact hK _ _ (h _ _ _ _ hs')
end
end Go.Cx

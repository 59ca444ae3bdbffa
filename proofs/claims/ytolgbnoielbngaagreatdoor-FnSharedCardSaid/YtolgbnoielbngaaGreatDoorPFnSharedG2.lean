/- Calls as contracts of the abstract walk ('Good'): arguments are looked at, results may be handed over whole and new; how a body's abstract walk gives its contract. No condition; plain lemmas. -/
import Derived.Test.YtolgbnoielbngaaGreatDoorPFnSharedG1
import Derived.StillTail
import Derived.MapKept
set_option linter.unusedVariables false
set_option linter.unusedSimpArgs false
namespace Go.Cx
open Go.RowKit
inductive GU(w:World):List Value->List D->List Nat->Prop
 |nil:GU w [] [] []
 |cons (v:Value) (vs:av) (d:D) (ds:aG) (b1 b2:aI):Rd w v d b1->GU w vs ds b2->GU w (v::vs) (d::ds) (b1++b2)
inductive uf(w:World):Value->D->List Nat->List Nat->List Nat->Prop
 |pure {v:Value} {d:D} {bs:aI}:Rd w v d bs->uf w v d bs [] []
 |fr (v:Value) (e sz:Nat) (rows:List aG) (cs:av) (ns:aI):0<sz->(∀r∈rows,r.length=sz)->w.ownsRow 0 e sz v rows.length cs->oq w (ny e) 0 cs rows.flatten ns->v.oneCell'=true->
  uf w v (.fr e sz rows) [] v.ownBlock.toList (v.ownBlock.toList++ns)
 |fs (v:Value) (e sz:Nat) (rows:List aG) (cs:av) (ns:aI):0<sz->(∀r∈rows,r.length=sz)->w.ownsRow 0 e sz v rows.length cs->iB w cs rows.flatten ns->v.oneCell'=true->
  uf w v (.fs e sz rows) ns v.ownBlock.toList v.ownBlock.toList
inductive mR(w:World):List Value->List D->List Nat->List Nat->List Nat->Prop
 |nil:mR w [] [] [] [] []
 |cons (v:Value) (vs:av) (d:D) (ds:aG) (b1 b2 t1 t2 u1 u2:aI):v.oneCell'=true->uf w v d b1 t1 u1->mR w vs ds b2 t2 u2->mR w (v::vs) (d::ds) (b1++b2) (t1++t2) (u1++u2)
inductive wG(w:World):Value->D->List Nat->List Nat->List Nat->Prop
 |cell {v:Value} {d:D} {bs ts us:aI}:uf w v d bs ts us->wG w v d bs ts us
 |agg (cs:av) (ds:aG) (bs ts us:aI):mR w cs ds bs ts us->wG w (.agg cs.toArray) (.agg ds) bs ts us
inductive rU(w:World):List Value->List D->List Nat->List Nat->List Nat->Prop
 |nil:rU w [] [] [] [] []
 |cons (v:Value) (vs:av) (d:D) (ds:aG) (b1 b2 t1 t2 u1 u2:aI):wG w v d b1 t1 u1->rU w vs ds b2 t2 u2->rU w (v::vs) (d::ds) (b1++b2) (t1++t2) (u1++u2)
inductive rz(w:World):Value->D->List Nat->List Nat->List Nat->Prop
 |v {v:Value} {d:D} {bs ts us:aI}:wG w v d bs ts us->rz w v d bs ts us
 |iz (vs:av) (ds:aG) (bs ts us:aI):rU w vs ds bs ts us->rz w (.tuple vs.toArray) (.iz ds) bs ts us
def Good(P:Program)(f:FuncId)(ds:aG)(d:D):Prop:=
 (∃fn,P.funcs[f]?=some fn/\fn.body.isSome=true/\(fn.name== "runtime.NumGoroutine")=false)/\
 ∀(w:World) (Θ:Nat->Nat) (args:av) (bs:aI),C2 w (fun _=>False)->GU w args ds bs->(∀b∈bs,Θ b=0)->(∀b,Θ b≠0->b<w.heap.size)->(∀b,Θ b<=1)->
  Calls P f args.toArray w (fun e w'=>∃v bs' ts us,e=.returned v/\Below w.heap.size w w'/\rz w' v d bs' ts us/\(∀b∈bs',b<w.heap.size->Θ b=0)/\(∀b∈bs',b∉ts)/\us.Nodup/\
   (∀b∈us,w.heap.size<=b/\Wr w' b)/\∀b∈ts,b∈us)
def tr(n:Nat)(d:D):D×ah:=match d with
 | .fr e sz rows=>(.acc n,[.row .uq e sz rows])
 | .fs e sz rows=>(.acc n,[.row .sh e sz rows])
 |d=>(d,[])
def iv(n:Nat):aG->aG×ah
 | []=>([],[])
 |d::ds=>((tr n d).1::(iv (n+(tr n d).2.length) ds).1,(tr n d).2++(iv (n+(tr n d).2.length) ds).2)
def sS(n:Nat)(d:D):D×ah:=match d with
 | .agg cs=>(.agg (iv n cs).1,(iv n cs).2)
 |d=>tr n d
def sB(n:Nat):aG->aG×ah
 | []=>([],[])
 |d::ds=>((sS n d).1::(sB (n+(sS n d).2.length) ds).1,(sS n d).2++(sB (n+(sS n d).2.length) ds).2)
def jG(n:Nat)(d:D):D×ah:=match d with
 | .iz vs=>(.iz (sB n vs).1,(sB n vs).2)
 |d=>sS n d
structure Fs where
 v:Value
 e:Nat
 sz:Nat
 rows:List aG
 cs:av
 ns:aI
 sh:Bool
 vs:aI
def Fs.ob(x:Fs):Ob:=.row (bif x.sh then .sh else .uq) x.e x.sz x.rows
def Fs.rs(x:Fs):aI:=bif x.sh then x.vs else x.ns
def Fs.ok(w:World)(x:Fs):Prop:=0<x.sz/\(∀r∈x.rows,r.length=x.sz)/\w.ownsRow 0 x.e x.sz x.v x.rows.length x.cs/\oq w (bif x.sh then(fun _=>none)else ny x.e) 0 x.cs x.rows.flatten x.rs/\x.v.oneCell'=true
theorem Fs.ok.uq{w:World}{x:Fs}(h:x.ok w)(hs:x.sh=false):oq w (ny x.e) 0 x.cs x.rows.flatten x.ns:=by
 have:=h.2.2.2.1;unfold Fs.rs at this;rw[hs]at this;exact this
theorem Fs.Bs{x:Fs}{e sz:Nat}{rows:List aG}(h:x.ob=.row .uq e sz rows):x.sh=false/\x.e=e/\x.sz=sz/\x.rows=rows:=by
 unfold Fs.ob at h;cases hs:x.sh with
 |true=>rw[hs]at h;cases h
 |false=>rw[hs]at h;cases h;exact⟨rfl,rfl,rfl,rfl⟩
theorem Fs.rel{w:World}{κ:Nat->Option Value}{Θ:Nat->Nat}{id:Nat}{x:Fs}(h:x.ok w)(hk:κ id=some x.v)(ht:∀g,x.v.ownBlock=some g->Θ g=id+2)(hz:∀b∈x.ns,Θ b=0)(hv:x.sh=true->∀b∈x.vs,Θ b=0):nh w κ Θ id x.ob:=by
 obtain⟨q1,q2,q3,q4,_⟩:=h;unfold Fs.ob;unfold Fs.rs at q4;cases hs:x.sh with
 |true=>rw[hs]at q4;exact⟨q1,q2,x.v,x.cs,x.vs,hk,q3,q4.rd,ht,hv hs⟩
 |false=>rw[hs]at q4;exact⟨q1,q2,x.v,x.cs,x.ns,hk,q3,q4.rd,ht,hz⟩
theorem Fs.plain{w:World}{κ:Nat->Option Value}{ρ:Nat->Nat}{id:Nat}(x:Fs):Bv w κ ρ id x.ob:=by
 unfold Fs.ob;cases x.sh<;>exact Bv.vn rfl
def Fs.bl(x:Fs):aI:=x.v.ownBlock.toList++x.ns
def Fs.ts(x:Fs):aI:=x.v.ownBlock.toList
section
variable{P:Program}{Γ:nR}{Q:Exit->St->Prop}{st:St}{κ κ':Nat->Option Value}{Θ Θ':Nat->Nat}{a:Act}{w w':World}{all:Array Oper}{rest:List Oper}
def Names(κ:Nat->Option Value)(n:Nat)(L:List Fs):Prop:=∀(i:Nat) x,L[i]?=some x->κ (n+i)=some x.v
theorem Names.left{n:Nat}{L1 L2:List Fs}(h:Names κ n (L1++L2)):Names κ n L1:=fun i x hx=>h i x (by
 rw[aS (aB.1 hx).1];exact hx)
theorem Names.right{n:Nat}{L1 L2:List Fs}(h:Names κ n (L1++L2)):Names κ (n+L1.length) L2:=fun i x hx=>by
 have:=h (L1.length+i) x (by rw[aU (by omega)];simpa using hx);rw[<-this];congr 1;omega
theorem uf.inst{v:Value}{d:D}{bs ts us:aI}(h:uf w v d bs ts us)(n:Nat):
 ∃L:List Fs,L.map Fs.ob=(tr n d).2/\(∀x∈L,x.ok w)/\us=L.flatMap Fs.bl/\ts=L.flatMap Fs.ts/\(∀x∈L,x.sh=true->∀b∈x.vs,b∈bs)/\∀κ,Names κ n L->∃b0,qG w κ v (tr n d).1 b0/\∀b∈b0,b∈bs:=by
 cases h with
 |pure h=>
  have e:tr n d=(d,[]):=by cases h<;>rfl
  rw[e];exact⟨[],rfl,by simp,rfl,rfl,by simp,fun κ _=>⟨_,.pure h,fun _ h=>h⟩⟩
 |fr e sz rows cs ns h1 h2 h3 h4 h5=>
  refine⟨[⟨v,e,sz,rows,cs,ns,false,[]⟩],rfl,?_,by simp[Fs.bl],by simp[Fs.ts],by simp,fun κ hk=>⟨[],?_,by simp⟩⟩
  ·intro x hx;simp at hx;subst hx;exact⟨h1,h2,h3,h4,h5⟩
  ·exact .acc n v (by simpa using hk 0 _ rfl)
 |fs e sz rows cs ns h1 h2 h3 h4 h5=>
  refine⟨[⟨v,e,sz,rows,cs,[],true,bs⟩],rfl,?_,by simp[Fs.bl],by simp[Fs.ts],fun x hx _ b hb=>?_,fun κ hk=>⟨[],?_,by simp⟩⟩
  ·intro x hx;simp at hx;subst hx;exact⟨h1,h2,h3,.of h4 (fun _=>rfl),h5⟩
  ·simp at hx;subst hx;exact hb
  ·exact .acc n v (by simpa using hk 0 _ rfl)
theorem mR.inst{vs:av}{ds:aG}{bs ts us:aI}(h:mR w vs ds bs ts us)(n:Nat):
 ∃L:List Fs,L.map Fs.ob=(iv n ds).2/\(∀x∈L,x.ok w)/\us=L.flatMap Fs.bl/\ts=L.flatMap Fs.ts/\(∀x∈L,x.sh=true->∀b∈x.vs,b∈bs)/\∀κ,Names κ n L->∃b0,dF w κ vs (iv n ds).1 b0/\∀b∈b0,b∈bs:=by
 induction h generalizing n with
 |nil=>exact⟨[],rfl,by simp,rfl,rfl,by simp,fun κ _=>⟨_,.nil,fun _ h=>h⟩⟩
 |cons v vs d ds b1 b2 t1 t2 u1 u2 h1 h2 _ ih=>
  obtain⟨L1,q1,q2,q3,q4,q6,q5⟩:=h2.inst n;obtain⟨L2,p1,p2,p3,p4,p6,p5⟩:=ih (n+(tr n d).2.length);have hl:L1.length=(tr n d).2.length:=by rw[<-q1];simp
  refine⟨L1++L2,by simp[iv,q1,p1],?_,by simp[q3,p3],by simp[q4,p4],fun x hx hs b hb=>?_,fun κ hk=>?_⟩
  ·intro x hx;rcases aJ.1 hx with hx|hx
   ·exact q2 x hx
   ·exact p2 x hx
  ·rcases aJ.1 hx with hx|hx
   ·exact aJ.2 (.inl (q6 x hx hs b hb))
   ·exact aJ.2 (.inr (p6 x hx hs b hb))
  ·obtain⟨c1,r1,s1⟩:=q5 κ hk.left;obtain⟨c2,r2,s2⟩:=p5 κ (by rw[<-hl];exact hk.right);refine⟨_,.cons _ _ _ _ _ _ h1 r1 r2,fun b hb=>?_⟩;rcases aJ.1 hb with hb|hb
   ·exact aJ.2 (.inl (s1 b hb))
   ·exact aJ.2 (.inr (s2 b hb))
theorem wG.inst{v:Value}{d:D}{bs ts us:aI}(h:wG w v d bs ts us)(n:Nat):
 ∃L:List Fs,L.map Fs.ob=(sS n d).2/\(∀x∈L,x.ok w)/\us=L.flatMap Fs.bl/\ts=L.flatMap Fs.ts/\(∀x∈L,x.sh=true->∀b∈x.vs,b∈bs)/\∀κ,Names κ n L->∃b0,B5 w κ v (sS n d).1 b0/\∀b∈b0,b∈bs:=by
 cases h with
 |cell h=>
  by_cases mM:∃ds,d=.agg ds
  ·obtain⟨ds,rfl⟩:=mM;cases h with
   |pure h=>
    cases h with
    |agg cs _ _ h=>
     have:∀(vs:av) (es:aG) (b:aI),iB w vs es b->∀n,(iv n es).1=es/\(iv n es).2=[]:=by
      intro vs es
      induction es generalizing vs with
      |nil=>intro b _ n;exact⟨rfl,rfl⟩
      |cons e es ih=>
       intro b hh n;cases hh with
       |cons v vs _ _ b1 b2 _ h2 h3=>
        have e1:tr n e=(e,[]):=by cases h2<;>rfl
        have:=ih vs b2 h3 n;simp[iv,e1,this]
     obtain⟨e1,e2⟩:=this _ _ _ h n;refine⟨[],by simp[sS,e2],by simp,rfl,rfl,by simp,fun κ _=>⟨_,?_,fun _ h=>h⟩⟩;simp only[sS,e1];exact .agg _ _ _ (dF.tv h)
  ·have e:sS n d=tr n d:=by cases d<;>first|rfl|exact absurd ⟨_,rfl⟩ mM
   rw[e];obtain⟨L,q1,q2,q3,q4,q6,q5⟩:=h.inst n;exact⟨L,q1,q2,q3,q4,q6,fun κ hk=>by obtain⟨c,r,s⟩:=q5 κ hk;exact⟨c,.cell r,s⟩⟩
 |agg cs ds bs ts us h=>
  obtain⟨L,q1,q2,q3,q4,q6,q5⟩:=h.inst n;exact⟨L,q1,q2,q3,q4,q6,fun κ hk=>by obtain⟨c,r,s⟩:=q5 κ hk;exact⟨c,.agg _ _ _ r,s⟩⟩
theorem rU.inst{vs:av}{ds:aG}{bs ts us:aI}(h:rU w vs ds bs ts us)(n:Nat):
 ∃L:List Fs,L.map Fs.ob=(sB n ds).2/\(∀x∈L,x.ok w)/\us=L.flatMap Fs.bl/\ts=L.flatMap Fs.ts/\(∀x∈L,x.sh=true->∀b∈x.vs,b∈bs)/\∀κ,Names κ n L->∃b0,tB w κ vs (sB n ds).1 b0/\∀b∈b0,b∈bs:=by
 induction h generalizing n with
 |nil=>exact⟨[],rfl,by simp,rfl,rfl,by simp,fun κ _=>⟨_,.nil,fun _ h=>h⟩⟩
 |cons v vs d ds b1 b2 t1 t2 u1 u2 h2 _ ih=>
  obtain⟨L1,q1,q2,q3,q4,q6,q5⟩:=h2.inst n;obtain⟨L2,p1,p2,p3,p4,p6,p5⟩:=ih (n+(sS n d).2.length);have hl:L1.length=(sS n d).2.length:=by rw[<-q1];simp
  refine⟨L1++L2,by simp[sB,q1,p1],?_,by simp[q3,p3],by simp[q4,p4],fun x hx hs b hb=>?_,fun κ hk=>?_⟩
  ·intro x hx;rcases aJ.1 hx with hx|hx
   ·exact q2 x hx
   ·exact p2 x hx
  ·rcases aJ.1 hx with hx|hx
   ·exact aJ.2 (.inl (q6 x hx hs b hb))
   ·exact aJ.2 (.inr (p6 x hx hs b hb))
  ·obtain⟨c1,r1,s1⟩:=q5 κ hk.left;obtain⟨c2,r2,s2⟩:=p5 κ (by rw[<-hl];exact hk.right);refine⟨_,.cons _ _ _ _ _ _ r1 r2,fun b hb=>?_⟩;rcases aJ.1 hb with hb|hb
   ·exact aJ.2 (.inl (s1 b hb))
   ·exact aJ.2 (.inr (s2 b hb))
theorem rz.inst{v:Value}{d:D}{bs ts us:aI}(h:rz w v d bs ts us)(n:Nat):
 ∃L:List Fs,L.map Fs.ob=(jG n d).2/\(∀x∈L,x.ok w)/\us=L.flatMap Fs.bl/\ts=L.flatMap Fs.ts/\(∀x∈L,x.sh=true->∀b∈x.vs,b∈bs)/\∀κ,Names κ n L->∃b0,lD w κ v (jG n d).1 b0/\∀b∈b0,b∈bs:=by
 cases h with
 |v h=>
  have hnt:∀vs,d≠ .iz vs:=by
   intro vs e;subst e;cases h with
   |cell h=>cases h with|pure h=>cases h
  have e:jG n d=sS n d:=by cases d<;>first|rfl|exact absurd rfl (hnt _)
  rw[e];obtain⟨L,q1,q2,q3,q4,q6,q5⟩:=h.inst n;exact⟨L,q1,q2,q3,q4,q6,fun κ hk=>by obtain⟨c,r,s⟩:=q5 κ hk;exact⟨c,.v r,s⟩⟩
 |iz vs ds bs ts us h=>
  obtain⟨L,q1,q2,q3,q4,q6,q5⟩:=h.inst n;exact⟨L,q1,q2,q3,q4,q6,fun κ hk=>by obtain⟨c,r,s⟩:=q5 κ hk;exact⟨c,.iz _ _ _ r,s⟩⟩
theorem Dz{v:Value}{d:D}{bs ts us:aI}(h:uf w v d bs ts us):∀b∈ts,Wr w b:=by
 cases h with
 |pure=>simp
 |fr e sz rows cs ns h1 h2 h3 h4 h5=>
  intro b hb;simp only[ea]at hb;rcases h3.2 with⟨rfl,_⟩|⟨g,cap,cur,rfl,_,hg,_⟩
  ·simp[Value.ownBlock]at hb
  ·simp[Value.ownBlock]at hb;subst hb;exact⟨_,_,hg⟩
 |fs e sz rows cs ns h1 h2 h3 h4 h5=>
  intro b hb;simp only[ea]at hb;rcases h3.2 with⟨rfl,_⟩|⟨g,cap,cur,rfl,_,hg,_⟩
  ·simp[Value.ownBlock]at hb
  ·simp[Value.ownBlock]at hb;subst hb;exact⟨_,_,hg⟩
theorem HY{vs:av}{ds:aG}{bs ts us:aI}(h:mR w vs ds bs ts us):∀b∈ts,Wr w b:=by
 induction h with
 |nil=>simp
 |cons v vs d ds b1 b2 t1 t2 u1 u2 h1 h2 _ ih=>
  intro b hb;rcases aJ.1 hb with hb|hb
  ·exact Dz h2 b hb
  ·exact ih b hb
theorem B7{v:Value}{d:D}{bs ts us:aI}(h:wG w v d bs ts us):∀b∈ts,Wr w b:=by
 cases h with
 |cell h=>exact Dz h
 |agg cs ds bs ts us h=>exact HY h
theorem zZ{vs:av}{ds:aG}{bs ts us:aI}(h:rU w vs ds bs ts us):∀b∈ts,Wr w b:=by
 induction h with
 |nil=>simp
 |cons v vs d ds b1 b2 t1 t2 u1 u2 h2 _ ih=>
  intro b hb;rcases aJ.1 hb with hb|hb
  ·exact B7 h2 b hb
  ·exact ih b hb
theorem B6{v:Value}{d:D}{bs ts us:aI}(h:rz w v d bs ts us):∀b∈ts,Wr w b:=by
 cases h with
 |v h=>exact B7 h
 |iz vs ds bs ts us h=>exact zZ h
def ix{α:Type}(p:α->Bool):List α->Option Nat
 | []=>none
 |x::r=>if p x then some 0 else(ix p r).map (· +1)
theorem qM{α:Type}{p:α->Bool}:∀ {l:List α} {i:Nat},ix p l=some i->∃x,l[i]?=some x/\p x=true:=by
 intro l
 induction l with
 |nil=>intro i h;cases h
 |cons x r ih=>
  intro i h;simp only[ix]at h;split at h
  ·cases h;exact⟨x,rfl,by assumption⟩
  ·cases hr:ix p r with
   |none=>simp[hr]at h
   |some j=>simp[hr]at h;subst h;simpa using ih hr
theorem vf{α:Type}{p:α->Bool}:∀ {l:List α} {i:Nat} {x:α},l[i]?=some x->p x=true->(∀(j:Nat) y,l[j]?=some y->p y=true->j=i)->ix p l=some i:=by
 intro l
 induction l with
 |nil=>intro i x h;simp at h
 |cons y r ih=>
  intro i x h hp hu;simp only[ix];split
  ·rename_i hy;rw[hu 0 y rfl hy]
  ·rename_i hy;cases i with
   |zero=>simp at h;subst h;exact absurd hp hy
   |succ i=>
    rw[ih (by simpa using h) hp (fun j z hz Sr=>by have:=hu (j+1) z (by simpa using hz) Sr;omega)];rfl
theorem nu{α:Type}{f:α->aI}:∀ {l:List α},(l.flatMap f).Nodup->∀(i j:Nat) x y b,l[i]?=some x->l[j]?=some y->b∈f x->b∈f y->i=j:=by
 intro l
 induction l with
 |nil=>intro _ i j x y b hi;simp at hi
 |cons z r ih=>
  intro hnd i j x y b hi hj sF hby;simp only[fS]at hnd;obtain⟨n1,n2,n3⟩:=aY.1 hnd;cases i with
  |zero=>
   simp at hi;subst hi;cases j with
   |zero=>rfl
   |succ j=>
    simp at hj;exact absurd rfl (n3 b sF b (bQ.2 ⟨y,aD hj,hby⟩))
  |succ i=>
   simp at hi;cases j with
   |zero=>
    simp at hj;subst hj;exact absurd rfl (n3 b hby b (bQ.2 ⟨x,aD hi,sF⟩))
   |succ j=>simp at hj;rw[ih n2 i j x y b hi hj sF hby]
theorem cR.CW(hs:cR Γ st κ Θ a w)(hb:Below w.heap.size w w')(L:List Fs)(hL:∀x∈L,x.ok w')(hnd:(L.flatMap Fs.bl).Nodup)(hfr:∀b∈L.flatMap Fs.bl,w.heap.size<=b/\Wr w' b)(hvs:∀x∈L,x.sh=true->∀b∈x.vs,Θ b=0/\b∉L.flatMap Fs.ts)
 (n:Nat) (H':ah) (hfree:∀i,i<L.length->κ (n+i)=none) (hlen':st.H.length<=H'.length) (hin:n+L.length<=H'.length)
 (key:∀(j:Nat) y,H'[j]?=some y->(∃i x,j=n+i/\L[i]?=some x/\y=x.ob)\/((j<n\/n+L.length<=j)/\(y=.gone\/st.H[j]?=some y))):
 ∃κ' Θ',cR Γ ⟨st.σ,H'⟩ κ' Θ' a w'/\Names κ' n L/\(∀(j:Nat) v,κ j=some v->κ' j=some v)/\(∀b,b∉L.flatMap Fs.ts->Θ' b=Θ b)/\(∀j,(j<n\/n+L.length<=j)->κ' j=κ j):=by
 let κ':Nat->Option Value:=fun j=>if j<n\/n+L.length<=j then κ j else(L[j-n]?).map Fs.v
 let Θ':Nat->Nat:=fun b=>match ix (fun x:Fs=>x.v.ownBlock==some b) L with|some i=>n+i+2|none=>Θ b
 have hu1:∀(i j:Nat) x y b,L[i]?=some x->L[j]?=some y->b∈x.bl->b∈y.bl->i=j:=fun i j x y b=>nu hnd i j x y b
 have hts:∀(i:Nat) x b,L[i]?=some x->x.v.ownBlock=some b->Θ' b=n+i+2:=by
  intro i x b hi Il;have:ix (fun x:Fs=>x.v.ownBlock==some b) L=some i:=vf hi (by simp[Il]) (fun j y hj hy=>by
   simp only[bq]at hy;exact hu1 j i y x b hj hi (by simp[Fs.bl,hy]) (by simp[Fs.bl,Il]))
  simp only[Θ',this]
 have hno:∀b,b∉L.flatMap Fs.ts->Θ' b=Θ b:=by
  intro b hb';simp only[Θ'];cases h:ix (fun x:Fs=>x.v.ownBlock==some b) L with
  |none=>rfl
  |some i=>
   obtain⟨x,hx,hp⟩:=qM h;exact absurd (bQ.2 ⟨x,aD hx,by simp only[bq]at hp;simp[Fs.ts,hp]⟩) hb'
 have hsub:∀b,b∈L.flatMap Fs.ts->b∈L.flatMap Fs.bl:=by
  intro b h;obtain⟨x,hx,sF⟩:=bQ.1 h;exact bQ.2 ⟨x,hx,by simp only[Fs.bl,Fs.ts]at sF⊢;exact aJ.2 (.inl sF)⟩
 have hold:∀b,b<w.heap.size->Θ' b=Θ b:=fun b hlt=>hno b (fun h=>by have:=(hfr b (hsub b h)).1;omega)
 have hzero:∀b,w.heap.size<=b->Θ b=0:=fun b hge=>by
  cases h:Θ b with
  |zero=>rfl
  |succ m=>exact absurd (hs.own b (by omega)) (by omega)
 have hn:∀(j:Nat) v,κ j=some v->κ' j=some v:=by
  intro j v hj;have:j<n\/n+L.length<=j:=by
   rcases cP j n with h|h
   ·exact .inl h
   ·rcases cP j (n+L.length)with h2|h2
    ·have:=hfree (j-n) (by omega);rw[show n+(j-n)=j from by omega,hj]at this;cases this
    ·exact .inr h2
  simp only[κ'];rw[bD this];exact hj
 have nZ:Names κ' n L:=by
  intro i x hx;have hlt:=(aB.1 hx).1;simp only[κ'];rw[ai (by omega),cK,hx];rfl
 have W8:∀b,Θ' b≠0->Θ b≠0\/b∈L.flatMap Fs.bl:=by
  intro b h;by_cases Qq:b∈L.flatMap Fs.ts
  ·exact .inr (hsub b Qq)
  ·rw[hno b Qq]at h;exact .inl h
 have k:ed w w' Θ Θ' (H'.length+2):=by
  refine⟨by omega,hb.os,hb.tape,hb.output,hb.size,fun b hlt _=>hb.block b hlt,fun b hlt _=>hold b hlt,fun b h=>?_⟩;rcases W8 b h with h|h
  ·exact cF (hs.own b h) hb.size
  ·obtain⟨cs,T,hx⟩:=(hfr b h).2;exact(aV.1 hx).1
 have hm:∀b,2<=Θ' b->qF Γ b:=by
  intro b h;by_cases Qq:b∈L.flatMap Fs.ts
  ·exact .inl (fc hs.base (hfr b (hsub b Qq)).1)
  ·rw[hno b Qq]at h;exact hs.mine b h
 obtain⟨ρ,hu⟩:=hs.mG;have mN:=hs.jI k hn hu;let ρ':Nat->Nat:=fun b=>match ix (fun x:Fs=>x.ns.contains b) L with|some i=>n+i+1|none=>ρ b
 have Wf:∀(i:Nat) x b,L[i]?=some x->b∈x.ns->ρ' b=n+i+1:=by
  intro i x b hi Il;have:ix (fun x:Fs=>x.ns.contains b) L=some i:=vf hi (by simpa using Il) (fun j y hj hy=>by
   exact hu1 j i y x b hj hi (by simp only[Fs.bl];exact aJ.2 (.inr (by simpa using hy))) (by simp only[Fs.bl];exact aJ.2 (.inr Il)))
  simp only[ρ',this]
 have pK:∀(i:Nat) x b,L[i]?=some x->b∈x.ns->Θ' b=0:=by
  intro i x b hi Il;have hmem:b∈L.flatMap Fs.bl:=bQ.2 ⟨x,aD hi,by simp only[Fs.bl];exact aJ.2 (.inr Il)⟩;rw[hno b ?_]
  ·exact hzero b (hfr b hmem).1
  ·intro h;obtain⟨y,hy,hby⟩:=bQ.1 h;obtain⟨j,hj⟩:=ec hy;have:=hu1 j i y x b hj hi (by simp only[Fs.bl,Fs.ts]at hby⊢;exact aJ.2 (.inl hby)) (by simp only[Fs.bl];exact aJ.2 (.inr Il));subst this;rw[hj]at hi;cases hi;have zz:x.bl.Nodup:=by
    have:∀(l:List Fs),(l.flatMap Fs.bl).Nodup->∀x∈l,x.bl.Nodup:=by
     intro l
     induction l with
     |nil=>intro _ x hx;cases hx
     |cons z r ih=>
      intro hnd x hx;simp only[fS]at hnd;obtain⟨n1,n2,_⟩:=aY.1 hnd;rcases aq.1 hx with rfl|hx
      ·exact n1
      ·exact ih n2 x hx
    exact this L hnd x hy
   simp only[Fs.bl]at zz;exact(aY.1 zz).2.2 b hby b Il rfl
 have hlen:∀i,H'.length<=i->κ' i=none:=by
  intro i hi;simp only[κ'];rw[bD (by omega)];exact hs.jx i (by omega)
 have BP:∀(j:Nat) y,H'[j]?=some y->j+2≠H'.length+2:=fun j y hj=>by
  have:=(aB.1 hj).1;omega
 refine⟨κ',Θ',?_,nZ,hn,hno,fun j hj=>bD hj⟩;have AL:∀b,b<w.heap.size->ρ' b=ρ b:=by
  intro b hlt';simp only[ρ'];cases hi:ix (fun x:Fs=>x.ns.contains b) L with
  |none=>rfl
  |some i=>
   obtain⟨x,hx,hp⟩:=qM hi;have:=(hfr b (bQ.2 ⟨x,aD hx,by simp only[Fs.bl];exact aJ.2 (.inr (by simpa using hp))⟩)).1;omega
 have NS:∀b,ρ b≠0->b<w.heap.size:=fun b hb'=>by
  obtain⟨_,_,cs',T,hx⟩:=hu.free b hb';exact(aV.1 hx).1
 refine hs.step k hm hn hlen ?_ ?_ ⟨ρ',?_,?_,?_⟩
 ·intro i u o4;simp only[κ']at o4;split at o4
  ·exact hs.jg i u o4
  ·cases hx:L[i-n]? with
   |none=>simp[hx]at o4
   |some x=>simp[hx]at o4;subst o4;exact(hL x (aD hx)).2.2.2.2
 ·intro j y hj;have hjl:=BP j y hj;rcases key j y hj with⟨i,x,rfl,hx,rfl⟩|⟨hlt,hy|hy⟩
  ·refine .inr (.inr (Fs.rel (hL x (aD hx)) (nZ i x hx) (fun g hg=>hts i x g hx hg) (fun b hb'=>pK i x b hx hb') fun hs' b hb'=>?_));obtain⟨e1,e2⟩:=hvs x (aD hx) hs' b hb';rw[hno b e2];exact e1
  ·exact .inl hy
  ·exact .inr (.inl ⟨hjl,hy⟩)
 ·intro b hb';by_cases h:∃(i:Nat) (x:Fs),L[i]?=some x/\b∈x.ns
  ·obtain⟨i,x,hx,sF⟩:=h;have hmem:b∈L.flatMap Fs.bl:=bQ.2 ⟨x,aD hx,by simp only[Fs.bl];exact aJ.2 (.inr sF)⟩;exact⟨pK i x b hx sF,.inl (.inl (fc hs.base (hfr b hmem).1)),(hfr b hmem).2⟩
  ·have:ρ' b=ρ b:=by
    simp only[ρ'];cases hi:ix (fun x:Fs=>x.ns.contains b) L with
    |none=>rfl
    |some i=>
     obtain⟨x,hx,hp⟩:=qM hi;exact absurd ⟨i,x,hx,by simpa using hp⟩ h
   rw[this]at hb';exact mN.1 b hb'
 ·intro j e sz rows hj;have hjl:=BP j _ hj;rcases key j _ hj with⟨i,x,rfl,hx,hy⟩|⟨hlt,hy|hy⟩
  ·obtain⟨hsh,rfl,rfl,rfl⟩:=Fs.Bs hy.symm;have hok:=hL x (aD hx);have q4:=hok.uq hsh;obtain⟨q1,q2,q3,_,_⟩:=hok;have zz:x.ns.Nodup:=by
    have:∀(l:List Fs),(l.flatMap Fs.bl).Nodup->∀x∈l,x.bl.Nodup:=by
     intro l
     induction l with
     |nil=>intro _ x hx;cases hx
     |cons z r ih=>
      intro hnd x hx;simp only[fS]at hnd;obtain⟨n1,n2,_⟩:=aY.1 hnd;rcases aq.1 hx with rfl|hx
      ·exact n1
      ·exact ih n2 x hx
    exact(aY.1 (this L hnd x (aD hx))).2.1
   exact⟨x.v,x.cs,x.ns,nZ i x hx,q3,q4,zz,fun b hb'=>Wf i x b hx hb'⟩
  ·cases hy
  ·obtain⟨v,cs,bs,q1,q2,q3,q4,q5⟩:=mN.2.1 j e sz rows hjl hy;exact⟨v,cs,bs,q1,q2,q3,q4,fun b hb'=>(AL b (NS b (by rw[q5 b hb'];omega))).trans (q5 b hb')⟩
 ·intro j y hj;have hjl:=BP j _ hj;rcases key j _ hj with⟨i,x,rfl,hx,hy⟩|⟨hlt,hy|hy⟩
  ·subst hy;exact Fs.plain x
  ·subst hy;trivial
  ·exact(mN.2.2 j y hjl hy).re fun b hb'=>(AL b (NS b (by omega))).trans hb'
theorem cR.MX(hs:cR Γ st κ Θ a w)(hb:Below w.heap.size w w')(L:List Fs)(hL:∀x∈L,x.ok w')(hnd:(L.flatMap Fs.bl).Nodup)(hfr:∀b∈L.flatMap Fs.bl,w.heap.size<=b/\Wr w' b)(hvs:∀x∈L,x.sh=true->∀b∈x.vs,Θ b=0/\b∉L.flatMap Fs.ts):
 ∃κ' Θ',cR Γ ⟨st.σ,st.H++L.map Fs.ob⟩ κ' Θ' a w'/\Names κ' st.H.length L/\(∀(j:Nat) v,κ j=some v->κ' j=some v)/\(∀b,b∉L.flatMap Fs.ts->Θ' b=Θ b):=by
 obtain⟨κ',Θ',h1,h2,h3,h4,_⟩:=hs.CW hb L hL hnd hfr hvs st.H.length (st.H++L.map Fs.ob) (fun i _=>hs.jx _ (by omega)) (by simp) (by simp) (by
  intro j y hj;by_cases hlt:j<st.H.length
  ·rw[aS hlt]at hj;exact .inr ⟨.inl hlt,.inr hj⟩
  ·rw[aU (by omega),bK]at hj;cases hx:L[j-st.H.length]? with
   |none=>simp[hx]at hj
   |some x=>simp[hx]at hj;exact .inl ⟨j-st.H.length,x,by omega,hx,hj.symm⟩)
 exact⟨κ',Θ',h1,h2,h3,h4⟩
def Io(H:ah)(d:D):Option (D×aI):=match d with
 | .acc m=>(match H[m]? with|some (.row _ _ _ rows)=>some (.sl rows,[m])|some (.oJ _ rows _)=>some (.sl rows,[m])|some (.tk rows)=>some (.sl rows,[])|_=>none)
 | .ptr _ _=>none
 | .op _ _ _ _=>none
 |d=>some (d.sY,[])
def F3(H:ah):aG->Option (aG×aI)
 | []=>some ([],[])
 |d::ds=>match Io H d,F3 H ds with|some (e,m),some (es,ms)=>some (e::es,m++ms)|_,_=>none
def LP(H:ah)(d:D):Option (D×aI):=match d with
 | .agg cs=>(match F3 H cs with|some (es,ms)=>some (.agg es,ms)|none=>none)
 | .iz _=>none
 |d=>Io H d
def wu(H:ah):aG->Option (aG×aI)
 | []=>some ([],[])
 |d::ds=>match LP H d,wu H ds with|some (e,m),some (es,ms)=>some (e::es,m++ms)|_,_=>none
def Seen(Θ:Nat->Nat)(ms:aI)(b:Nat):Prop:=Θ b=0\/∃m∈ms,Θ b=m+2
theorem Seen.mono{ms ns:aI}{b:Nat}(h:Seen Θ ms b)(hs:∀m∈ms,m∈ns):Seen Θ ns b:=by
 rcases h with h|⟨m,h1,h2⟩
 ·exact .inl h
 ·exact .inr ⟨m,hs m h1,h2⟩
theorem LO(hs:cR Γ st κ Θ a w){v:Value}{d e:D}{bs:aI}{ms:aI}(h:Io st.H d=some (e,ms))(hr:qG w κ v d bs)(hz:∀b∈bs,Θ b=0):∃b',Rd w v e b'/\∀b∈b',Seen Θ ms b:=by
 cases hr with
 |pure hr=>
  have:Io st.H d=some (d.sY,[]):=by cases hr<;>rfl
  rw[this]at h;cases h;exact⟨bs,hr.soft,fun b hb=>.inl (hz b hb)⟩
 |acc m _ hk=>
  simp only[Io]at h;split at h
  ·rename_i k e' sz rows hH;cases h;obtain⟨_,hrl,v2,cs,b2,hk2,hown,l7,hΘ,hd⟩:=hs.ob m _ hH;rw[hk]at hk2;cases hk2;refine⟨_,lK hrl hown l7,fun b hb=>?_⟩;rcases aJ.1 hb with hb|hb
   ·simp only[ea]at hb;exact .inr ⟨m,by simp,hΘ b hb⟩
   ·cases k with
    |cl=>exact .inr ⟨m,by simp,(hd.2.1 b hb).1⟩
    |sh=>exact .inl (hd b hb)
    |uq=>exact .inl (hd b hb)
    |mv n=>exact .inl (hd b hb)
    |ho p n=>exact .inl (hd b hb)
  ·rename_i sz rows u hH;cases h;obtain⟨_,_,v2,b2,hk2,hrd,_,uU⟩:=hs.ob m _ hH;rw[hk]at hk2;cases hk2;exact⟨b2,hrd,fun b hb=>.inr ⟨m,by simp,(uU b hb).1⟩⟩
  ·rename_i rows hH;cases h;obtain⟨v2,b2,hk2,hrd,Hy⟩:=hs.ob m _ hH;rw[hk]at hk2;cases hk2;exact⟨b2,hrd,fun b hb=>.inl (Hy b hb)⟩
  ·cases h
 |ptr=>simp[Io]at h
 |op=>simp[Io]at h
theorem N6(hs:cR Γ st κ Θ a w):∀ {ds es:aG} {vs:av} {bs ms:aI},F3 st.H ds=some (es,ms)->dF w κ vs ds bs->(∀b∈bs,Θ b=0)->∃b',iB w vs es b'/\∀b∈b',Seen Θ ms b:=by
 intro ds
 induction ds with
 |nil=>
  intro es vs bs ms h hr _;simp only[F3,aP,bn]at h;obtain⟨rfl,rfl⟩:=h;cases hr;exact⟨[],.nil,by simp⟩
 |cons d ds ih=>
  intro es vs bs ms h hr hz;simp only[F3]at h;split at h
  ·rename_i e m es' ms' h1 h2;cases h;cases hr with
   |cons v vs _ _ b1 b2 hv hc hcs=>
    obtain⟨c1,q1,q2⟩:=LO hs h1 hc (fun b hb=>hz b (by simp[hb]));obtain⟨c2,p1,p2⟩:=ih h2 hcs (fun b hb=>hz b (by simp[hb]));refine⟨c1++c2,.cons _ _ _ _ _ _ hv q1 p1,fun b hb=>?_⟩;rcases aJ.1 hb with hb|hb
    ·exact(q2 b hb).mono (fun m hm=>by simp[hm])
    ·exact(p2 b hb).mono (fun m hm=>by simp[hm])
  ·cases h
theorem Pr(hs:cR Γ st κ Θ a w){v:Value}{d e:D}{bs ms:aI}(h:LP st.H d=some (e,ms))(hr:lD w κ v d bs)(hz:∀b∈bs,Θ b=0):∃b',Rd w v e b'/\∀b∈b',Seen Θ ms b:=by
 by_cases mM:∃ds,d=.agg ds
 ·obtain⟨ds,rfl⟩:=mM;obtain⟨cs,rfl,hcs⟩:=hr.w8;simp only[LP]at h;split at h
  ·rename_i es ms' h1;cases h;obtain⟨b',q1,q2⟩:=N6 hs h1 hcs hz;exact⟨b',.agg _ _ _ q1,q2⟩
  ·cases h
 ·have hc:qG w κ v d bs:=by
   cases hr with
   |v hr=>cases hr with
    |cell hr=>exact hr
    |agg=>exact absurd ⟨_,rfl⟩ mM
   |iz=>simp[LP]at h
  have e1:LP st.H d=Io st.H d:=by
   cases d<;>first|rfl|exact absurd ⟨_,rfl⟩ mM|simp[LP]at h
  rw[e1]at h;exact LO hs h hc hz
theorem B1(hs:cR Γ st κ Θ a w):∀ {xs:List Operand} {es:aG} {ms:aI},wu st.H (xs.map st.ev)=some (es,ms)->∃b',GU w (xs.map a.eval) es b'/\∀b∈b',Seen Θ ms b:=by
 intro xs
 induction xs with
 |nil=>
  intro es ms h;simp only[bg,wu,aP,bn]at h;obtain⟨rfl,rfl⟩:=h;exact⟨[],.nil,by simp⟩
 |cons x xs ih=>
  intro es ms h;simp only[ax,wu]at h;split at h
  ·rename_i e m es' ms' h1 h2;cases h;obtain⟨b0,r0,z0⟩:=hs.ev x;obtain⟨c1,q1,q2⟩:=Pr hs h1 r0 z0;obtain⟨c2,p1,p2⟩:=ih h2;refine⟨c1++c2,.cons _ _ _ _ _ _ q1 p1,fun b hb=>?_⟩;rcases aJ.1 hb with hb|hb
   ·exact(q2 b hb).mono (fun m hm=>by simp[hm])
   ·exact(p2 b hb).mono (fun m hm=>by simp[hm])
  ·cases h
def D.Lf(d:D):D:=match d with
 | .fr _ _ rows=>.sl rows
 | .fs _ _ rows=>.sl rows
 |d=>d
def D.Lg(d:D):D:=match d with
 | .agg cs=>.agg (cs.map D.Lf)
 |d=>d.Lf
theorem mR.tv{w:World}:∀ {ds:aG} {vs:av} {bs:aI},iB w vs ds bs->mR w vs ds bs [] []:=by
 intro ds
 induction ds with
 |nil=>intro vs bs h;cases h;exact .nil
 |cons d ds ih=>
  intro vs bs h;cases h with
  |cons v vs _ _ b1 b2 h1 h2 h3=>exact .cons _ _ _ _ _ _ [] [] [] [] h1 (.pure h2) (ih h3)
theorem uf.tS{w:World}{v:Value}{d:D}{bs ts us:aI}(h:uf w v d bs ts us):∃b,Rd w v d.Lf b/\∀x∈b,x∈bs\/x∈us:=by
 cases h with
 |pure h=>
  have e:d.Lf=d:=by cases h<;>rfl
  exact⟨_,e.symm▸h,fun x hx=>.inl hx⟩
 |fr e sz rows cs ns h1 h2 h3 h4 h5=>exact⟨_,lK h2 h3 h4.rd,fun x hx=>.inr hx⟩
 |fs e sz rows cs ns h1 h2 h3 h4 h5=>exact⟨_,lK h2 h3 h4,fun x hx=>(aJ.1 hx).symm⟩
theorem mR.tS{w:World}{vs:av}{ds:aG}{bs ts us:aI}(h:mR w vs ds bs ts us):∃b,iB w vs (ds.map D.Lf) b/\∀x∈b,x∈bs\/x∈us:=by
 induction h with
 |nil=>exact⟨_,.nil,by simp⟩
 |cons v vs d ds b1 b2 t1 t2 u1 u2 h1 h2 _ ih=>
  obtain⟨b,q,s⟩:=h2.tS;obtain⟨b',q',s'⟩:=ih;refine⟨_,.cons _ _ _ _ _ _ h1 q q',fun x hx=>?_⟩;rcases aJ.1 hx with h|h
  ·rcases s x h with h|h<;>simp[h]
  ·rcases s' x h with h|h<;>simp[h]
theorem wG.tS{w:World}{v:Value}{d:D}{bs ts us:aI}(h:wG w v d bs ts us):∃b,Rd w v d.Lg b/\∀x∈b,x∈bs\/x∈us:=by
 cases h with
 |cell h=>
  by_cases mM:∃ds,d=.agg ds
  ·obtain⟨ds,rfl⟩:=mM;cases h with
   |pure h=>cases h with
    |agg cs _ _ h=>
     obtain⟨b,q,s⟩:=(mR.tv h).tS;exact⟨_,.agg _ _ _ q,s⟩
  ·have e:d.Lg=d.Lf:=by cases d<;>first|rfl|exact absurd ⟨_,rfl⟩ mM
   rw[e];exact h.tS
 |agg cs ds bs ts us h=>
  obtain⟨b,q,s⟩:=h.tS;exact⟨_,.agg _ _ _ q,s⟩
def D.IC(d:D):Bool:=match d with
 | .fr _ _ _=>true
 |d=>d.flat
def D.Er(d:D):Bool:=match d with
 | .agg cs=>cs.all D.IC
 |d=>d.IC
def D.Bg(d:D):Bool:=match d with
 | .iz vs=>vs.all D.Er
 |d=>d.Er
def D.PU(d:D):Bool:=match d with
 | .iz _=>false
 |d=>d.Er
theorem uf.own{v:Value}{d:D}{bs ts us:aI}(h:uf w v d bs ts us)(ho:d.IC=true):bs=[]:=by
 cases h with
 |pure h=>exact h.flat (by cases h<;>exact ho)
 |fr=>rfl
 |fs=>cases ho
theorem mR.own{vs:av}{ds:aG}{bs ts us:aI}(h:mR w vs ds bs ts us)(ho:ds.all D.IC=true):bs=[]:=by
 induction h with
 |nil=>rfl
 |cons v vs d ds b1 b2 t1 t2 u1 u2 h1 h2 _ ih=>
  simp only[cv,aL]at ho;rw[h2.own ho.1,ih ho.2];rfl
theorem wG.own{v:Value}{d:D}{bs ts us:aI}(h:wG w v d bs ts us)(ho:d.Er=true):bs=[]:=by
 cases h with
 |cell h=>
  by_cases mM:∃ds,d=.agg ds
  ·obtain⟨ds,rfl⟩:=mM;cases h with
   |pure h=>
    cases h with
    |agg cs _ _ h=>
     simp only[D.Er]at ho;have:∀(es:aG) (vs:av) (b:aI),iB w vs es b->es.all D.IC=true->es.all D.flat=true:=by
      intro es
      induction es with
      |nil=>intros;rfl
      |cons e es ih=>
       intro vs b hh ho;simp only[cv,aL]at ho⊢;cases hh with
       |cons v vs _ _ b1 b2 _ h2 h3=>exact⟨by cases h2<;>exact ho.1,ih _ _ h3 ho.2⟩
     exact iB.flat h (this _ _ _ h ho)
  ·have e:d.Er=d.IC:=by cases d<;>first|rfl|exact absurd ⟨_,rfl⟩ mM
   exact h.own (e▸ho)
 |agg cs ds bs ts us h=>exact h.own ho
theorem rU.own{vs:av}{ds:aG}{bs ts us:aI}(h:rU w vs ds bs ts us)(ho:ds.all D.Er=true):bs=[]:=by
 induction h with
 |nil=>rfl
 |cons v vs d ds b1 b2 t1 t2 u1 u2 h2 _ ih=>
  simp only[cv,aL]at ho;rw[h2.own ho.1,ih ho.2];rfl
theorem rz.own{v:Value}{d:D}{bs ts us:aI}(h:rz w v d bs ts us)(ho:d.Bg=true):bs=[]:=by
 cases h with
 |v h=>
  have hnt:∀vs,d≠ .iz vs:=by
   intro vs e;subst e;cases h with
   |cell h=>cases h with|pure h=>cases h
  have e:d.Bg=d.Er:=by cases d<;>first|rfl|exact absurd rfl (hnt _)
  exact h.own (e▸ho)
 |iz vs ds bs ts us h=>exact h.own ho
theorem oK{o:Oper}{f:FuncId}{xs:Array Operand}{ts:Array TypeId}(hop:o.op=.call {callee:=.value (.func f),args:=xs,argTypes:=ts})
 (hf:∃fn,P.funcs[f]?=some fn/\fn.body.isSome=true/\(fn.name== "runtime.NumGoroutine")=false):
 (execOp a.eval o).run P w=.ok (.enter f (xs.map a.eval)) w:=by
 obtain⟨fn,h1,h2,h3⟩:=hf;have h2':¬fn.body=none:=by intro hb;simp[hb]at h2
 simp only[bu,ne_eq]at h3;simp[execOp,hop,resolve,Deferred.ofValue,Act.eval,invoke,callFunc,h1,h2',h3]
theorem EC{Q':Exit->Act->World->Prop}{K:Act->World->Prop}{o:Oper}{f t:Nat}{xs:Array Operand}{ts:Array TypeId}{ds:aG}{ms:aI}{d:D}(hs:cR Γ st κ Θ a w)
 (hop:o.op=.call {callee:=.value (.func f),args:=xs,argTypes:=ts}) (hd:o.dst=some t) (ht:t<Γ.nt) (hds:∃bs,GU w (xs.toList.map a.eval) ds bs/\∀b∈bs,Seen Θ ms b) (hsh:ms=[]\/d.Bg=true)
 (ir:Good P f ds d) (hK:∀κ' Θ' a' w',cR Γ ⟨(t,(jG st.H.length d).1)::st.σ,st.H++(jG st.H.length d).2⟩ κ' Θ' a' w'->K a' w'):o.wp P a w K Q':=by
 obtain⟨bs,hargs,hz⟩:=hds;let Θc:Nat->Nat:=fun b=>if Θ b=0\/ms.any (fun m=>Θ b==m+2)then 0 else 1
 have AK:∀b,Seen Θ ms b->Θc b=0:=by
  intro b h;simp only[Θc];rw[bD];rcases h with h|⟨m,h1,h2⟩
  ·exact .inl h
  ·exact .inr (cB.2 ⟨m,h1,by simp[h2]⟩)
 have hc:=ir.2 w Θc _ bs hs.QN hargs (fun b hb=>AK b (hz b hb)) (fun b hb=>hs.own b (fun e=>hb (AK b (.inl e)))) (fun b=>by simp only[Θc];split<;>omega);unfold Oper.wp;rw[oK hop ir.1,Oper.upon_enter];have e:xs.map a.eval=(xs.toList.map a.eval).toArray:=by rw[<-eU,gD]
 rw[e];refine hc.mono ?_;rintro e w' ⟨v,bs',tb,ub,rfl,hb,hr,Bx,htb,hnd,hfr,hsub⟩;show K (a.put o.dst v) w';rw[hd];obtain⟨L,q1,q2,q3,q4,q6,q5⟩:=hr.inst st.H.length;have hbz:∀b∈bs',Θ b=0:=fun b hb'=>?_
 obtain⟨κ',Θ',hs',hnm,_,hno⟩:=hs.MX hb L q2 (q3▸hnd) (fun b hb'=>hfr b (q3▸hb')) (fun x hx hx' b hb'=>⟨hbz b (q6 x hx hx' b hb'),q4▸htb b (q6 x hx hx' b hb')⟩);rw[q1]at hs';obtain⟨b0,Ii,BQ⟩:=q5 κ' hnm;refine hK κ' Θ' _ w' (hs'.set (t:=t) ht Ii fun b hb'=>?_)
 ·rw[hno b (q4▸htb b (BQ b hb'))];exact hbz b (BQ b hb')
 rcases hsh with CA|hown
 ·by_cases hlt:b<w.heap.size
  ·have h0:=Bx b hb' hlt;simp only[Θc,CA,yG]at h0;by_cases h1:Θ b=0
   ·exact h1
   ·simp[h1]at h0
  ·by_cases h0:Θ b=0
   ·exact h0
   ·exact absurd (hs.own b h0) hlt
 ·rw[hr.own hown]at hb';cases hb'
theorem M7{Q':Exit->Act->World->Prop}{K:Act->World->Prop}{o:Oper}{f t:Nat}{xs:Array Operand}{ts:Array TypeId}{ds:aG}{ms:aI}{d:D}(hs:cR Γ st κ Θ a w)
 (hop:o.op=.call {callee:=.value (.func f),args:=xs,argTypes:=ts}) (hd:o.dst=some t) (ht:t<Γ.nt) (hds:wu st.H (xs.toList.map st.ev)=some (ds,ms)) (hsh:ms=[]\/d.Bg=true)
 (ir:Good P f ds d) (hK:∀κ' Θ' a' w',cR Γ ⟨(t,(jG st.H.length d).1)::st.σ,st.H++(jG st.H.length d).2⟩ κ' Θ' a' w'->K a' w'):o.wp P a w K Q':=
 EC hs hop hd ht (B1 hs hds) hsh ir hK
def AM(d:D):Bool:=match d with
 | .agg cs=>cs.all D.Dr
 | .iz _=>false
 |d=>d.Dr
theorem KD{v:Value}{d:D}{bs:aI}(hr:lD w κ v d bs)(h:AM d=true):Rd w v d bs:=by
 by_cases mM:∃ds,d=.agg ds
 ·obtain⟨ds,rfl⟩:=mM;obtain⟨cs,rfl,hcs⟩:=hr.w8;exact .agg _ _ _ (hcs.pure h)
 ·have hp:d.Dr=true:=by
   cases d<;>first|exact h|exact absurd ⟨_,rfl⟩ mM|simp[AM]at h
  cases hr with
  |v hr=>cases hr with
   |cell hr=>cases hr with
    |pure hr=>exact hr
    |acc=>simp[D.Dr]at hp
    |ptr=>simp[D.Dr]at hp
    |op=>simp[D.Dr]at hp
   |agg=>exact absurd ⟨_,rfl⟩ mM
  |iz=>simp[AM]at h
theorem CX(hs:cR Γ st κ Θ a w):∀ {xs:List Operand},(xs.map st.ev).all AM=true->∃b',GU w (xs.map a.eval) (xs.map st.ev) b'/\∀b∈b',Seen Θ [] b:=by
 intro xs
 induction xs with
 |nil=>intro _;exact⟨[],.nil,by simp⟩
 |cons x xs ih=>
  intro h;simp only[ax,cv,aL]at h;obtain⟨b0,r0,z0⟩:=hs.ev x;obtain⟨c2,p1,p2⟩:=ih h.2;refine⟨b0++c2,.cons _ _ _ _ _ _ (KD r0 h.1) p1,fun b hb=>?_⟩;rcases aJ.1 hb with hb|hb
  ·exact .inl (z0 b hb)
  ·exact p2 b hb
theorem It{o:Oper}{f t:Nat}{xs:Array Operand}{ts:Array TypeId}{d:D}(hop:o.op=.call {callee:=.value (.func f),args:=xs,argTypes:=ts})(hd:o.dst=some t)(hg:o.guard=none)
 (ht:t<Γ.nt) (hk:(xs.toList.map st.ev).all AM=true) (ir:Good P f (xs.toList.map st.ev) d)
 (h:AO P Γ all rest Q ⟨(t,(jG st.H.length d).1)::st.σ,st.H++(jG st.H.length d).2⟩):AO P Γ all (o::rest) Q st:=by
 intro κ Θ a w hs;exact wpList_plain hg fun K hK=>EC hs hop hd ht (CX hs hk) (.inl rfl) ir fun κ' Θ' a' w' hs'=>hK _ _ (h κ' Θ' a' w' hs')
theorem Ll{o:Oper}{f t:Nat}{xs:Array Operand}{ts:Array TypeId}{ds:aG}{ms:aI}{d:D}(hop:o.op=.call {callee:=.value (.func f),args:=xs,argTypes:=ts})(hd:o.dst=some t)(hg:o.guard=none)
 (ht:t<Γ.nt) (hds:wu st.H (xs.toList.map st.ev)=some (ds,ms)) (hsh:ms=[]\/d.Bg=true) (ir:Good P f ds d)
 (h:AO P Γ all rest Q ⟨(t,(jG st.H.length d).1)::st.σ,st.H++(jG st.H.length d).2⟩):AO P Γ all (o::rest) Q st:=by
 intro κ Θ a w hs;exact wpList_plain hg fun K hK=>M7 hs hop hd ht hds hsh ir fun κ' Θ' a' w' hs'=>hK _ _ (h κ' Θ' a' w' hs')
def Ki(P:Program)(st:St):ResultVar->Option D
 | .tmp t=>some (lk st.σ t)
 | .cell x T=>match rD P T,lk st.σ x with
  |some ag,.ptr id off=>(match(st.H[id]?).bind Ob.Gg with|some cells=>xF ag (qU P T) cells off|none=>none)
  |_,_=>none
def xG(P:Program)(st:St):List ResultVar->Option aG
 | []=>some []
 |r::rs=>match Ki P st r,xG P st rs with|some d,some ds=>some (d::ds)|_,_=>none
def Kk(tmps:Array Value):ResultVar->Sem Value
 | .tmp t=>pure (tmps.getD t undef)
 | .cell a t=>do loadVar t (<-asAddr (tmps.getD a undef))
theorem results_eq(fn:Func)(tmps:Array Value):results fn tmps=(do let vs<-fn.results.mapM (Kk tmps);pure (if h:vs.size=1 then vs[0]else .tuple vs)):=by
 unfold results
 congr 1
theorem Kj(hs:cR Γ st κ Θ a w){r:ResultVar}{d:D}(h:Ki P st r=some d):
 ∃v bs,(Kk a.tmps r).run P w=.ok v w/\lD w κ v d bs/\∀b∈bs,Θ b=0:=by
 cases r with
 |tmp t=>
  simp only[Ki,aP]at h;subst h;obtain⟨bs,hr,hz⟩:=hs.slot t;exact⟨_,bs,by simp[Kk],hr,hz⟩
 |cell x T=>
  have hp:pv P st (.load T (.tmp x))=some d:=by
   simp only[Ki]at h;split at h
   ·rename_i ag id off h1 h2;simp only[pv,h1,St.ev,h2];exact h
   ·cases h
  obtain⟨v,bs,hrun,hr,hz⟩:=BY (o:= {(default:Oper)with op:=.load T (.tmp x)}) hs rfl hp;refine⟨v,bs,?_,hr,hz⟩;simp only[execOp,Act.eval]at hrun;have Ty:∃b off,a.tmps.getD x undef=.pointer (some ⟨b,off,none⟩):=by
   simp only[Ki]at h;split at h
   ·rename_i ag id off h1 h2;obtain⟨b0,r0,_⟩:=hs.slot x;rw[h2]at r0;obtain⟨g,_,hv⟩:=r0.qP;exact⟨g,off,hv⟩
   ·cases h
  obtain⟨b,off,hv⟩:=Ty;simp only[Kk,hv]at hrun⊢;simp only[Instr.loadAt,Instr.sureAddr,Sem.run_bind,Sem.run_pure,Result.andThen_ok]at hrun;simp only[asAddr,Sem.run_bind,Sem.run_pure,Result.andThen_ok];cases hl:(loadVar T ⟨b,off,none⟩).run P w with
  |ok u w1=>simp only[hl,Result.andThen_ok,Result.ok.injEq,Next.value.injEq]at hrun;rw[hrun.1,hrun.2]
  |halt u w1=>simp[hl]at hrun
theorem wB(hs:cR Γ st κ Θ a w):∀ {rs:List ResultVar} {ds:aG},xG P st rs=some ds->
 ∃(vs:av) (bs:aI),(rs.mapM (Kk a.tmps)).run P w=.ok vs w/\
  vs.length=rs.length/\ds.length=rs.length/\(∀(i:Nat) d,ds[i]?=some d->∃v b,vs[i]?=some v/\lD w κ v d b/\∀x∈b,x∈bs)/\∀b∈bs,Θ b=0:=by
 intro rs
 induction rs with
 |nil=>
  intro ds h;simp only[xG,aP]at h;subst h;exact⟨[],[],by simp,rfl,rfl,by simp,by simp⟩
 |cons r rs ih=>
  intro ds h;simp only[xG]at h;split at h
  ·rename_i d ds' h1 h2;cases h;obtain⟨v,b,k1,k2,k3⟩:=Kj hs h1;obtain⟨vs,bs,m1,m2,m3,m4,m5⟩:=ih h2;refine⟨v::vs,b++bs,?_,by simp[m2],by simp[m3],?_,?_⟩
   ·simp only[uc,Sem.run_bind,k1,Result.andThen_ok,m1,Sem.run_pure]
   ·intro i x hx;cases i with
    |zero=>simp at hx;subst hx;exact⟨v,b,by simp,k2,by intro y hy;simp[hy]⟩
    |succ i=>
     simp at hx;obtain⟨u,b',q1,q2,q3⟩:=m4 i x hx;exact⟨u,b',by simpa using q1,q2,fun y hy=>by simp[q3 y hy]⟩
   ·intro y hy;rcases aJ.1 hy with hy|hy
    ·exact k3 y hy
    ·exact m5 y hy
  ·cases h
def AQ:aG->D
 | [d]=>d
 |ds=>.iz ds
def qf:Nat->aG->List (Nat×D)
 |_,[]=>[]
 |k,d::ds=>(k,d)::qf (k+1) ds
theorem yz:∀(ds:aG) (k t:Nat),lk (qf k ds) t=if t<k then .any else(ds[t-k]?).getD .any:=by
 intro ds
 induction ds with
 |nil=>intro k t;simp[qf,lk]
 |cons d ds ih=>
  intro k t;simp only[qf,lk];by_cases h:t=k
  ·subst h;simp
  ·rw[ai h,ih];by_cases h1:t<k
   ·rw[bD (by omega),bD h1]
   ·rw[ai (by omega),ai h1];have:t-k=(t-(k+1))+1:=by omega
    rw[this,gE]
theorem GU.at{vs:av}{ds:aG}{bs:aI}(h:GU w vs ds bs):vs.length=ds.length/\∀(i:Nat) d,ds[i]?=some d->∃v b,vs[i]?=some v/\Rd w v d b/\∀x∈b,x∈bs:=by
 induction ds generalizing vs bs with
 |nil=>cases h;exact⟨rfl,by simp⟩
 |cons e ds ih=>
  cases h with
  |cons v vs _ _ b1 b2 h2 h3=>
   obtain⟨l,hi⟩:=ih h3;refine⟨by simp[l],fun i d hd=>?_⟩;cases i with
   |zero=>simp at hd;subst hd;exact⟨v,b1,by simp,h2,by intro x hx;simp[hx]⟩
   |succ i=>
    simp at hd;obtain⟨u,b,k1,k3,k4⟩:=hi i d hd;exact⟨u,b,by simpa using k1,k3,fun x hx=>by simp[k4 x hx]⟩
def kj(d:D):Prop:=∃w v bs,Rd w v d bs
theorem kj.int{k:IntKind}{n:Int}(h:kj (.int k n)):mL k n:=by
 obtain⟨w,v,bs,h⟩:=h;cases h with|int _ _ hx=>exact hx
theorem iB.QK{vs:av}{ds:aG}{bs:aI}(h:iB w vs ds bs):∀d∈ds,kj d:=by
 intro d hd;obtain⟨i,hi,rfl⟩:=cY.1 hd;obtain⟨v,b,_,_,hr,_⟩:=h.at (aM hi);exact⟨w,v,b,hr⟩
theorem kj.agg{ds:aG}(h:kj (.agg ds)):∀d∈ds,kj d:=by
 obtain⟨w,v,bs,h⟩:=h;cases h with|agg cs _ _ hx=>exact hx.QK
theorem kj.sl{rows:List aG}(h:kj (.sl rows)):rows.length<=maxLen/\∀r∈rows,∀d∈r,kj d:=by
 obtain⟨w,v,bs,h⟩:=h;cases h with
 |qD=>simp
 |jP=>simp
 |sl b off cap sz _ cs bs hb h1 h2 h3 h4 h5=>
  exact⟨by omega,fun r hr d hd=>h5.QK d (dZ.2 ⟨r,hr,hd⟩)⟩
theorem GU.QK{vs:av}{ds:aG}{bs:aI}(h:GU w vs ds bs):∀d∈ds,kj d:=by
 intro d hd;obtain⟨i,hi,rfl⟩:=cY.1 hd;obtain⟨v,b,_,hr,_⟩:=h.at.2 i _ (aM hi);exact⟨w,v,b,hr⟩
def KR(z:Option (Nat×Nat))(d:D):D:=match d,z with
 | .nil,some (e,sz+1)=>.fr e (sz+1) []
 |d,_=>d.sY
def uX(H:ah)(z:Option (Nat×Nat))(d:D):Option (D×aI×aI):=match d with
 | .acc m=>(match H[m]? with|some (.row k e sz rows)=>(match k with| .uq=>some (.fr e sz rows,[],[m])| .sh=>(match z with|some (_,0)=>some (.fs e sz rows,[],[m])|_=>some (.sl rows,[m],[]))| .cl=>none| .mv _=>none| .ho _ _=>none)|_=>none)
 | .ptr _ _=>none
 | .op _ _ _ _=>none
 | .agg _=>none
 | .iz _=>none
 |d=>some (KR z d,[],[])
def AU(H:ah):List (Option (Nat×Nat))->aG->Option (aG×aI×aI)
 |_,[]=>some ([],[],[])
 |zs,d::ds=>match uX H zs.head?.join d,AU H zs.tail ds with|some (e,m,q),some (es,ms,qs)=>some (e::es,m++ms,q++qs)|_,_=>none
def G6(H:ah)(zs:List (Option (Nat×Nat)))(d:D):Option (D×aI×aI):=match d with
 | .agg cs=>(match AU H zs cs with|some (es,ms,qs)=>some (.agg es,ms,qs)|none=>none)
 |d=>uX H zs.head?.join d
def rB(H:ah):List (List (Option (Nat×Nat)))->aG->Option (aG×aI×aI)
 |_,[]=>some ([],[],[])
 |zs,d::ds=>match G6 H (zs.head?.getD []) d,rB H zs.tail ds with|some (e,m,q),some (es,ms,qs)=>some (e::es,m++ms,q++qs)|_,_=>none
def J9(P:Program)(fn:Func)(d:D)(e:Exit)(st:St):Prop:=
 (e=.ret\/e=.normal)/\∃nz ds es ms qs,xG P st fn.results.toList=some ds/\rB st.H nz ds=some (es,ms,qs)/\ms.Nodup/\qs.Nodup/\(∀m∈qs,m∉ms)/\AQ es=d
structure RP(Θ ρ:Nat->Nat)(qs bs ts us:List Nat):Prop where
 zero:∀b∈bs,Θ b=0
 top:∀b∈ts,(∃m∈qs,Θ b=m+2)/\b∈us
 mem:∀b∈us,b∈ts\/∃m∈qs,ρ b=m+1
 nd:us.Nodup
theorem RP.nil{ρ:Nat->Nat}{bs:aI}(h:∀b∈bs,Θ b=0):RP Θ ρ [] bs [] []:=⟨h,by simp,by simp,by simp⟩
theorem RP.app{ρ:Nat->Nat}{q1 q2 b1 b2 t1 t2 u1 u2:aI}(hf:∀b,ρ b≠0->Θ b=0)(hq:(q1++q2).Nodup)(h1:RP Θ ρ q1 b1 t1 u1)(h2:RP Θ ρ q2 b2 t2 u2):RP Θ ρ (q1++q2) (b1++b2) (t1++t2) (u1++u2):=by
 refine⟨fun b hb=>?_,fun b hb=>?_,fun b hb=>?_,aY.2 ⟨h1.nd,h2.nd,fun x hx y hy e=>?_⟩⟩
 ·rcases aJ.1 hb with hb|hb
  ·exact h1.zero b hb
  ·exact h2.zero b hb
 ·rcases aJ.1 hb with hb|hb
  ·obtain⟨⟨m,p,q⟩,r⟩:=h1.top b hb;exact⟨⟨m,by simp[p],q⟩,by simp[r]⟩
  ·obtain⟨⟨m,p,q⟩,r⟩:=h2.top b hb;exact⟨⟨m,by simp[p],q⟩,by simp[r]⟩
 ·rcases aJ.1 hb with hb|hb
  ·rcases h1.mem b hb with h|⟨m,p,q⟩
   ·exact .inl (by simp[h])
   ·exact .inr ⟨m,by simp[p],q⟩
  ·rcases h2.mem b hb with h|⟨m,p,q⟩
   ·exact .inl (by simp[h])
   ·exact .inr ⟨m,by simp[p],q⟩
 ·subst e;have hd:=(aY.1 hq).2.2;rcases h1.mem x hx with hx|⟨m,p,q⟩
  ·obtain⟨⟨m,p,q⟩,_⟩:=h1.top x hx;rcases h2.mem x hy with hy|⟨m',p',q'⟩
   ·obtain⟨⟨m',p',q'⟩,_⟩:=h2.top x hy;exact hd m p m' p' (by omega)
   ·have:=hf x (by omega);omega
  ·rcases h2.mem x hy with hy|⟨m',p',q'⟩
   ·obtain⟨⟨m',p',q'⟩,_⟩:=h2.top x hy;have:=hf x (by omega);omega
   ·exact hd m p m' p' (by omega)
theorem Ek(z:Option (Nat×Nat)){v:Value}{d:D}{b0:aI}(hr:Rd w v d b0):∃bs,uf w v (KR z d) bs [] []/\∀b∈bs,b∈b0:=by
 unfold KR;split
 ·rename_i e sz;cases hr;refine⟨[],?_,by simp⟩;have:=uf.fr (w:=w) (.slice none 0 0) e (sz+1) [] [] [] (Nat.succ_pos _) (by simp) (World.ownsRow_nil w 0 e (sz+1)) (.nil _) rfl;simpa[Value.ownBlock]using this
 ·exact⟨b0,.pure hr.soft,fun _ h=>h⟩
section
variable{H:ah}{ρ:Nat->Nat}(hf:∀b,ρ b≠0->Θ b=0)
 (hq:∀m e sz rows,H[m]?=some (.row .uq e sz rows)->∃v cs ns,κ m=some v/\0<sz/\(∀r∈rows,r.length=sz)/\w.ownsRow 0 e sz v rows.length cs/\oq w (ny e) 0 cs rows.flatten ns/\ns.Nodup/\(∀b∈ns,ρ b=m+1)/\∀g,v.ownBlock=some g->Θ g=m+2)
 {M:aI} (qC:∀m e sz rows,m∉M->H[m]?=some (.row .sh e sz rows)->∃v cs ns,κ m=some v/\0<sz/\(∀r∈rows,r.length=sz)/\w.ownsRow 0 e sz v rows.length cs/\iB w cs rows.flatten ns/\(∀b∈ns,Θ b=0)/\∀g,v.ownBlock=some g->Θ g=m+2)
include hf hq qC
theorem Eu{z:Option (Nat×Nat)}{d e:D}{ms qs:aI}{v:Value}{b0:aI}(h:uX H z d=some (e,ms,qs))(hM:∀m∈qs,m∉M)(hone:v.oneCell'=true)(hr:qG w κ v d b0)(hz:∀b∈b0,Θ b=0)
 (hm:∀m∈ms,∀k e sz rows,H[m]?=some (.row k e sz rows)->pO κ Θ ρ w m k rows):∃bs ts us,uf w v e bs ts us/\RP Θ ρ qs bs ts us:=by
 cases hr with
 |pure hr=>
  have:uX H z d=some (KR z d,[],[]):=by cases hr<;>first|rfl|simp[uX]at h
  rw[this]at h;cases h;obtain⟨bs,hb,Bx⟩:=Ek z hr;exact⟨bs,[],[],hb,RP.nil (fun b hb'=>hz b (Bx b hb'))⟩
 |acc m _ hk=>
  simp only[uX]at h;split at h
  ·rename_i k e' sz rows hH;split at h
   ·cases h;obtain⟨v2,cs,ns,r1,r2,r3,r4,r5,r6,r7,r8⟩:=hq m _ _ _ hH;rw[hk]at r1;cases r1;refine⟨[],_,_,.fr v _ _ _ cs ns r2 r3 r4 r5 hone,by simp,fun b hb=>?_,fun b hb=>?_,?_⟩
    ·simp only[ea]at hb;exact⟨⟨m,by simp,r8 b hb⟩,by simp[hb]⟩
    ·rcases aJ.1 hb with hb|hb
     ·exact .inl hb
     ·exact .inr ⟨m,by simp,r7 b hb⟩
    ·refine aY.2 ⟨by cases v.ownBlock<;>simp,r6,fun x hx y hy TD=>?_⟩;subst TD;simp only[ea]at hx;have h1:=r8 x hx;have h2:=hf x (by rw[r7 x hy];omega);omega
   ·split at h
    ·cases h;obtain⟨v2,cs,ns,r1,r2,r3,r4,r5,r6,r7⟩:=qC m _ _ _ (hM m (by simp)) hH;rw[hk]at r1;cases r1;refine⟨_,_,_,.fs v _ _ _ cs ns r2 r3 r4 r5 hone,r6,fun b hb=>?_,fun b hb=>.inl hb,by cases v.ownBlock<;>simp⟩;simp only[ea]at hb;exact⟨⟨m,by simp,r7 b hb⟩,by simp[hb]⟩
    ·cases h;obtain⟨v2,bs,r1,r2,r3,_⟩:=hm m (by simp) _ _ _ _ hH;rw[hk]at r1;cases r1;exact⟨bs,[],[],.pure r2,RP.nil r3⟩
   ·cases h
   ·cases h
   ·cases h
  ·cases h
 |ptr=>simp[uX]at h
 |op=>simp[uX]at h
theorem IJ:∀ {ds es:aG} {zs:List (Option (Nat×Nat))} {ms qs:aI} {vs:av} {b0:aI},AU H zs ds=some (es,ms,qs)->(∀m∈qs,m∉M)->qs.Nodup->dF w κ vs ds b0->(∀b∈b0,Θ b=0)->
 (∀m∈ms,∀k e sz rows,H[m]?=some (.row k e sz rows)->pO κ Θ ρ w m k rows)->∃bs ts us,mR w vs es bs ts us/\RP Θ ρ qs bs ts us:=by
 intro ds
 induction ds with
 |nil=>
  intro es zs ms qs vs b0 h _ _ hr _ _;simp only[AU,aP,bn]at h;obtain⟨rfl,rfl,rfl⟩:=h;cases hr;exact⟨[],[],[],.nil,RP.nil (by simp)⟩
 |cons d ds ih=>
  intro es zs ms qs vs b0 h hM hnd hr hz hm;simp only[AU]at h;split at h
  ·rename_i e m q es' ms' S2 h1 h2;cases h;cases hr with
   |cons v vs _ _ b1 b2 hv hc hcs=>
    obtain⟨c1,t1,u1,q1,q2⟩:=Eu hf hq qC h1 (fun x hx=>hM x (by simp[hx])) hv hc (fun b hb=>hz b (by simp[hb])) (fun x hx=>hm x (by simp[hx]));obtain⟨c2,t2,u2,p1,p2⟩:=ih h2 (fun x hx=>hM x (by simp[hx])) (aY.1 hnd).2.1 hcs (fun b hb=>hz b (by simp[hb])) (fun x hx=>hm x (by simp[hx]));exact⟨_,_,_,.cons _ _ _ _ _ _ _ _ _ _ hv q1 p1,RP.app hf hnd q2 p2⟩
  ·cases h
theorem Kl(hk1:∀(i:Nat) u,κ i=some u->u.oneCell'=true){zs:List (Option (Nat×Nat))}{d e:D}{ms qs:aI}{v:Value}{b0:aI}(h:G6 H zs d=some (e,ms,qs))(hM:∀m∈qs,m∉M)(hnd:qs.Nodup)(hr:lD w κ v d b0)(hz:∀b∈b0,Θ b=0)
 (hm:∀m∈ms,∀k e sz rows,H[m]?=some (.row k e sz rows)->pO κ Θ ρ w m k rows):∃bs ts us,wG w v e bs ts us/\RP Θ ρ qs bs ts us:=by
 by_cases mM:∃ds,d=.agg ds
 ·obtain⟨ds,rfl⟩:=mM;obtain⟨cs,rfl,hcs⟩:=hr.w8;simp only[G6]at h;split at h
  ·rename_i es ms' S2 h1;cases h;obtain⟨bs,ts,us,q1,q2⟩:=IJ hf hq qC h1 hM hnd hcs hz hm;exact⟨bs,ts,us,.agg _ _ _ _ _ q1,q2⟩
  ·cases h
 ·have e1:G6 H zs d=uX H zs.head?.join d:=by cases d<;>first|rfl|exact absurd ⟨_,rfl⟩ mM
  rw[e1]at h;have hc:qG w κ v d b0:=by
   cases hr with
   |v hr=>cases hr with
    |cell hr=>exact hr
    |agg=>exact absurd ⟨_,rfl⟩ mM
   |iz=>simp[uX]at h
  cases hc with
  |pure hr=>
   have:uX H zs.head?.join d=some (KR zs.head?.join d,[],[]):=by cases hr<;>first|rfl|simp[uX]at h
   rw[this]at h;cases h;obtain⟨bs,hb,Bx⟩:=Ek zs.head?.join hr;exact⟨bs,[],[],.cell hb,RP.nil (fun b hb'=>hz b (Bx b hb'))⟩
  |acc m _ hk=>
   obtain⟨bs,ts,us,q1,q2⟩:=Eu hf hq qC h hM (hk1 _ _ hk) (.acc m _ hk) (by simp) hm;exact⟨bs,ts,us,.cell q1,q2⟩
  |ptr=>simp[uX]at h
  |op=>simp[uX]at h
theorem sX(hk1:∀(i:Nat) u,κ i=some u->u.oneCell'=true):∀ {ds es:aG} {zs:List (List (Option (Nat×Nat)))} {ms qs:aI} {vs:av},rB H zs ds=some (es,ms,qs)->(∀m∈qs,m∉M)->qs.Nodup->vs.length=ds.length->
 (∀(i:Nat) d,ds[i]?=some d->∃v b,vs[i]?=some v/\lD w κ v d b/\∀x∈b,Θ x=0)->
 (∀m∈ms,∀k e sz rows,H[m]?=some (.row k e sz rows)->pO κ Θ ρ w m k rows)->∃bs ts us,rU w vs es bs ts us/\RP Θ ρ qs bs ts us:=by
 intro ds
 induction ds with
 |nil=>
  intro es zs ms qs vs h _ _ hl _ _;simp only[rB,aP,bn]at h;obtain⟨rfl,rfl,rfl⟩:=h;cases vs with
  |nil=>exact⟨[],[],[],.nil,RP.nil (by simp)⟩
  |cons=>simp at hl
 |cons d ds ih=>
  intro es zs ms qs vs h hM hnd hl hr hm;simp only[rB]at h;split at h
  ·rename_i e m q es' ms' S2 h1 h2;cases h;cases vs with
   |nil=>simp at hl
   |cons v vs=>
    obtain⟨v',b0,QC,Ii,pK⟩:=hr 0 d rfl;simp at QC;subst QC;obtain⟨c1,t1,u1,q1,q2⟩:=Kl hf hq qC hk1 h1 (fun x hx=>hM x (by simp[hx])) (aY.1 hnd).1 Ii pK (fun x hx=>hm x (by simp[hx]));obtain⟨c2,t2,u2,p1,p2⟩:=ih h2 (fun x hx=>hM x (by simp[hx])) (aY.1 hnd).2.1 (by simpa using hl) (fun i d' xz=>by
     obtain⟨v',b,k1,k2⟩:=hr (i+1) d' (by simpa using xz);exact⟨v',b,by simpa using k1,k2⟩) (fun x hx=>hm x (by simp[hx]))
    exact⟨_,_,_,.cons _ _ _ _ _ _ _ _ _ _ q1 p1,RP.app hf hnd q2 p2⟩
  ·cases h
end
theorem Bl{H:ah}{z:Option (Nat×Nat)}{d e:D}{ms qs:aI}(h:uX H z d=some (e,ms,qs)):(∀m∈ms,∃e sz rows,H[m]?=some (.row .sh e sz rows))/\∀m∈qs,∃k e sz rows,H[m]?=some (.row k e sz rows):=by
 cases d with
 |acc m=>
  simp only[uX]at h;split at h
  ·rename_i k e' sz rows hH;split at h
   ·cases h;exact⟨by simp,fun m' hm'=>by simp at hm';subst hm';exact⟨_,_,_,_,hH⟩⟩
   ·split at h
    ·cases h;exact⟨by simp,fun m' hm'=>by simp at hm';subst hm';exact⟨_,_,_,_,hH⟩⟩
    ·cases h;exact⟨fun m' hm'=>by simp at hm';subst hm';exact⟨_,_,_,hH⟩,by simp⟩
   ·cases h
   ·cases h
   ·cases h
  ·cases h
 |_=>simp[uX]at h<;>(try(obtain⟨_,rfl,rfl⟩:=h;simp))
theorem Ev{H:ah}:∀ {ds es:aG} {zs:List (Option (Nat×Nat))} {ms qs:aI},AU H zs ds=some (es,ms,qs)->(∀m∈ms,∃e sz rows,H[m]?=some (.row .sh e sz rows))/\∀m∈qs,∃k e sz rows,H[m]?=some (.row k e sz rows):=by
 intro ds
 induction ds with
 |nil=>intro es zs ms qs h;simp only[AU,aP,bn]at h;obtain⟨rfl,rfl,rfl⟩:=h;simp
 |cons d ds ih=>
  intro es zs ms qs h;simp only[AU]at h;split at h
  ·rename_i e m q es' ms' S2 h1 h2;cases h;have a1:=Bl h1;have a2:=ih h2;refine⟨fun x hx=>?_,fun x hx=>?_⟩<;>rcases aJ.1 hx with hx|hx
   ·exact a1.1 x hx
   ·exact a2.1 x hx
   ·exact a1.2 x hx
   ·exact a2.2 x hx
  ·cases h
theorem G7{H:ah}{zs:List (Option (Nat×Nat))}{d e:D}{ms qs:aI}(h:G6 H zs d=some (e,ms,qs)):(∀m∈ms,∃e sz rows,H[m]?=some (.row .sh e sz rows))/\∀m∈qs,∃k e sz rows,H[m]?=some (.row k e sz rows):=by
 by_cases mM:∃ds,d=.agg ds
 ·obtain⟨ds,rfl⟩:=mM;simp only[G6]at h;split at h
  ·rename_i es ms' S2 h1;cases h;exact Ev h1
  ·cases h
 ·have e1:G6 H zs d=uX H zs.head?.join d:=by cases d<;>first|rfl|exact absurd ⟨_,rfl⟩ mM
  rw[e1]at h;exact Bl h
theorem pJ{H:ah}:∀ {ds es:aG} {zs:List (List (Option (Nat×Nat)))} {ms qs:aI},rB H zs ds=some (es,ms,qs)->(∀m∈ms,∃e sz rows,H[m]?=some (.row .sh e sz rows))/\∀m∈qs,∃k e sz rows,H[m]?=some (.row k e sz rows):=by
 intro ds
 induction ds with
 |nil=>intro es zs ms qs h;simp only[rB,aP,bn]at h;obtain⟨rfl,rfl,rfl⟩:=h;simp
 |cons d ds ih=>
  intro es zs ms qs h;simp only[rB]at h;split at h
  ·rename_i e m q es' ms' S2 h1 h2;cases h;have a1:=G7 h1;have a2:=ih h2;refine⟨fun x hx=>?_,fun x hx=>?_⟩<;>rcases aJ.1 hx with hx|hx
   ·exact a1.1 x hx
   ·exact a2.1 x hx
   ·exact a1.2 x hx
   ·exact a2.2 x hx
  ·cases h
theorem Good.of{f:FuncId}{fn:Func}{c:Code}{ds:aG}{d:D}(hf:P.funcs[f]?=some fn)(hb:fn.body=some c)(hn:(fn.name== "runtime.NumGoroutine")=false)
 (hl:ds.length<=fn.ntmps) (h:(∀d∈ds,kj d)->∀Γ:nR,Γ.nt=fn.ntmps->AW P Γ c (J9 P fn d) ⟨qf 0 ds,[]⟩):Good P f ds d:=by
 refine⟨⟨fn,hf,by simp[hb],hn⟩,?_⟩;intro w Θ args bs hvs hargs hz hown h1;obtain⟨hlen,MI⟩:=hargs.at;refine calls_of_wp hf hb ?_;let Γ:nR:=⟨w,Θ,fun _=>False,fn.ntmps,fun _=>False,hvs⟩
 have hs:cR Γ ⟨qf 0 ds,[]⟩ (fun _=>none) Θ {tmps:=args.toArray++Array.replicate (fn.ntmps-args.toArray.size) undef,defers:=[]} w:=by
  refine⟨rfl,?_,fun _ _=>rfl,by simp,?_,by simp,hown,fun b _ _=>⟨rfl,h1 b⟩,fun b hb=>by have:=h1 b;omega,⟨rfl,rfl,rfl,b9 _,fun _ _ _=>rfl⟩,⟨fun _=>0,by simp,by simp,by simp⟩⟩
  ·simp[Γ];omega
  ·intro t;rw[yz];simp only[pM,ue,sx];cases hd:ds[t]? with
   |none=>exact⟨[],.of (.any _),by simp⟩
   |some x=>
    obtain⟨v,b,k1,k2,k3⟩:=MI t x hd;refine⟨b,?_,fun y hy=>hz y (k3 y hy)⟩;have hlt:t<args.length:=(aB.1 k1).1;have:(args.toArray++Array.replicate (fn.ntmps-args.toArray.size) undef).getD t undef=v:=by
     rw[bP,dW (by simpa using hlt)];simp[k1]
    rw[this];exact .of k2
 refine wp_mono (h hargs.QK Γ rfl _ _ _ _ hs) ?_;rintro e a' w' ⟨By,κ0,Θ0,hs0,vb,nz,NL,es,ms,qs,hres,NU,CA,Ag,MN,rfl⟩;obtain⟨ρ0,Ov⟩:=hs0.mG;have uV:=pJ NU;obtain⟨Θ1,ρ1,hs1,hu1,hm1,DF,Ij⟩:=cR.z8 ms hs0 Ov CA (fun m hm=>by
  obtain⟨e,sz,rows,hH⟩:=uV.1 m hm;exact⟨_,e,sz,rows,hH,rfl⟩)
 obtain⟨vs,bs',m1,m2,m3,m4,m5⟩:=wB hs0 hres;have hq:∀m e sz rows,By.H[m]?=some (.row .uq e sz rows)->∃v cs ns,κ0 m=some v/\0<sz/\(∀r∈rows,r.length=sz)/\w'.ownsRow 0 e sz v rows.length cs/\oq w' (ny e) 0 cs rows.flatten ns/\ns.Nodup/\(∀b∈ns,ρ1 b=m+1)/\∀g,v.ownBlock=some g->Θ1 g=m+2:=by
  intro m e sz rows hH;have hnm:m∉ms:=fun hm=>by
   obtain⟨e',sz',cc,w9⟩:=uV.1 m hm;rw[hH]at w9;cases w9
  have D7:(kill By.H ms)[m]?=some (.row .uq e sz rows):=by rw[cU hnm];exact hH
  obtain⟨v,cs,ns,r1,r2,r3,r4,r5⟩:=hu1.rows m e sz rows D7;obtain⟨p1,p2,v2,_,_,p3,_,_,p4,_⟩:=hs1.ob m _ D7;rw[r1]at p3;cases p3;exact⟨v,cs,ns,r1,p1,p2,r2,r3,r4,r5,p4⟩
 have qC:∀m e sz rows,m∉ms->By.H[m]?=some (.row .sh e sz rows)->∃v cs ns,κ0 m=some v/\0<sz/\(∀r∈rows,r.length=sz)/\w'.ownsRow 0 e sz v rows.length cs/\iB w' cs rows.flatten ns/\(∀b∈ns,Θ1 b=0)/\∀g,v.ownBlock=some g->Θ1 g=m+2:=by
  intro m e sz rows hnm hH;obtain⟨p1,p2,v2,cs,ns,p3,p4,p5,p6,p7⟩:=hs1.ob m _ (show(kill By.H ms)[m]?=_ by rw[cU hnm];exact hH);exact⟨v2,cs,ns,p3,p1,p2,p4,p5,p7,p6⟩
 obtain⟨c,ts,us,vZ,rZ⟩:=sX (w:=w') (vs:=vs) (fun b hb=>(hu1.free b hb).1) hq qC hs0.jg NU MN Ag (by omega) (fun i d hd=>by
  obtain⟨v,b,k1,k2,k3⟩:=m4 i d hd;exact⟨v,b,k1,k2,fun x hx=>DF x (m5 x (k3 x hx))⟩) hm1
 have DB:∃v,(results fn a'.tmps).run P w'=.ok v w'/\rz w' v (AQ es) c ts us:=by
  have hrun:(results fn a'.tmps).run P w'=.ok (if h:vs.toArray.size=1 then vs.toArray[0]else .tuple vs.toArray) w':=by
   rw[results_eq,jv];simp[m1]
  cases vZ with
  |nil=>exact⟨.tuple #[],by simpa using hrun,.iz [] [] [] [] [] .nil⟩
  |cons v vs d es b1 b2 t1 t2 u1 u2 hv nO=>
   cases nO with
   |nil=>
    simp only[dS];exact⟨v,by simpa using hrun,.v hv⟩
   |cons v2 vs d2 es b3 b4 t3 t4 u3 u4 F9 nO=>exact⟨.tuple (v::v2::vs).toArray,by simpa using hrun,.iz _ _ _ _ _ (.cons _ _ _ _ _ _ _ _ _ _ hv (.cons _ _ _ _ _ _ _ _ _ _ F9 nO))⟩
 obtain⟨v,Jn,EU⟩:=DB;have BL:Below w.heap.size w w':=⟨hs1.stays.os,hs1.stays.tape,hs1.stays.output,hs1.stays.size,fun b hb=>hs1.stays.block b hb (fun h=>h)⟩
 have Gq:∀b,qF Γ b->w.heap.size<=b:=fun b h=>by
  rcases h with h|h
  ·exact h
  ·exact h.elim
 have hwr:∀b∈us,w.heap.size<=b/\Wr w' b:=by
  intro b hb';rcases rZ.mem b hb' with h|⟨m,hm,hρ⟩
  ·obtain⟨⟨m,hm,hΘ⟩,_⟩:=rZ.top b h;refine⟨Gq b (hs1.mine b (by omega)),?_⟩;exact B6 EU b h
  ·have:=hu1.free b (by omega);exact⟨this.2.1.elim (Gq b) False.elim,this.2.2⟩
 have post:a'.defers=[]/\∃v,(results fn a'.tmps).run P w'=.ok v w'/\∃u bs' ts us,Ending.returned v=.returned u/\Below w.heap.size w w'/\rz w' u (AQ es) bs' ts us/\(∀b∈bs',b<w.heap.size->Θ b=0)/\(∀b∈bs',b∉ts)/\us.Nodup/\
  (∀b∈us,w.heap.size<=b/\Wr w' b)/\∀b∈ts,b∈us:=by
  refine⟨hs0.defers,v,Jn,v,c,ts,us,rfl,BL,EU,fun b hb' hlt=>?_,fun b hb' ht=>?_,rZ.nd,hwr,fun b hb'=>(rZ.top b hb').2⟩
  ·have he:Θ1 b=Θ b:=(hs1.old b hlt (fun h=>h)).1;rw[<-he];exact rZ.zero b hb'
  ·obtain⟨⟨m,_,hΘ⟩,_⟩:=rZ.top b ht;have:=rZ.zero b hb';omega
 rcases vb with rfl|rfl
 ·exact post
 ·exact post
end
end Go.Cx
namespace Go.Cx
open Go.RowKit
abbrev jC:=List Fs
section
variable{P:Program}{Γ:nR}{Q:Exit->St->Prop}{st:St}{κ:Nat->Option Value}{Θ:Nat->Nat}{a:Act}{w:World}{all:Array Oper}
def Ext(H H':ah):Prop:=∀(i:Nat) o,H[i]?=some o->H'[i]?=some o
theorem EF(σ:List (Nat×D))(H H':ah)(x:Operand):St.ev ⟨σ,H⟩ x=St.ev ⟨σ,H'⟩ x:=by cases x<;>rfl
theorem DX{σ σ':List (Nat×D)}{H H':ah}{op:Op}{d:D}(hx:Ext H H')(he:∀x∈op.operands.toList,St.ev ⟨σ,H⟩ x=St.ev ⟨σ',H'⟩ x)(h:pv P ⟨σ,H⟩ op=some d):pv P ⟨σ',H'⟩ op=some d:=by
 have hm:∀(o:Option Operand),(∀x∈o.toArray.toList,St.ev ⟨σ,H⟩ x=St.ev ⟨σ',H'⟩ x)->o.map (St.ev ⟨σ,H⟩)=o.map (St.ev ⟨σ',H'⟩):=by
  intro o h;cases o with
  |none=>rfl
  |some x=>simp[h x (by simp)]
 cases op<;>simp only[pv]at h⊢ <;>(try cases h)
 case move x=>rw[he x (by simp[Op.operands])]at*
 case assign x=>rw[he x (by simp[Op.operands])]at*
 case nilCheck x=>rw[he x (by simp[Op.operands])]at h;exact h
 case pick c x y=>rw[he c (by simp[Op.operands]),he x (by simp[Op.operands]),he y (by simp[Op.operands])]at h;exact h
 case binOp op t x y t'=>rw[he x (by simp[Op.operands]),he y (by simp[Op.operands])]at h;exact h
 case unOp op t x=>cases op<;>simp only[pv]at h⊢ <;>(try cases h)<;>(rw[he x (by simp[Op.operands])]at h;exact h)
 case convert s d x=>rw[he x (by simp[Op.operands])]at h;exact h
 case field t x f=>rw[he x (by simp[Op.operands])]at h;exact h
 case fieldAddr t x f=>rw[he x (by simp[Op.operands])]at h;exact h
 case indexAddr t x i=>
  rw[he x (by simp[Op.operands]),he i (by simp[Op.operands])]at h;split at h
  ·rename_i e sz rows kk n h1 h2 h3
   (try simp only[h1,h2,h3]);exact h
  ·rename_i e sz id kk n h1 h2 h3
   (try simp only[h1,h2,h3])
   split at h
   ·rename_i k e' sz' rows hH;simp only[hx id _ hH];exact h
   ·cases h
  ·rename_i g o' kk n h1 h2
   (try simp only[h1,h2])
   generalize wE P t=q at h⊢;cases q<;>exact h
  ·cases h
 case load t x=>
  rw[he x (by simp[Op.operands])]at h;split at h
  ·rename_i ag row off h1 h2
   (try simp only[h1,h2]);exact h
  ·rename_i ag id off h1 h2
   (try simp only[h1,h2])
   split at h
   ·rename_i cells hH;obtain⟨ob,hH,qS⟩:=j4.1 hH;simp only[hx id _ hH,aA,qS];exact h
   ·cases h
  ·rename_i ag id i sz off h1 h2
   (try simp only[h1,h2])
   split at h
   ·rename_i p n e' sz' rows hH;simp only[hx id _ hH];exact h
   ·rename_i k e' sz' rows Sq hH;simp only[hx id _ hH];cases k with
    |ho p n=>exact(Sq _ _ rfl).elim
    |_=>exact h
   ·cases h
  ·rename_i ag g o' h1 h2
   (try simp only[h1,h2]);exact h
  ·cases h
 case lookup T x i ok=>
  rw[he x (by simp[Op.operands]),he i (by simp[Op.operands])]at h;split at h
  ·rename_i id h1
   (try simp only[h1])
   split at h
   ·rename_i kv hH;simp only[hx id _ hH];exact h
   ·cases h
  ·cases h
 case extract x i=>rw[he x (by simp[Op.operands])]at h;exact h
 case index t x i=>rw[he x (by simp[Op.operands]),he i (by simp[Op.operands])]at h;exact h
 case slice t x lo hi mx=>
  cases mx with
  |none=>
   simp only[pv]at h⊢;rw[he x (by simp[Op.operands]),hm lo (fun y hy=>he y (by simp only[Op.operands,gr,aJ];exact .inl (.inl (.inr hy)))),
    hm hi (fun y hy=>he y (by simp only[Op.operands,gr,aJ];exact .inl (.inr hy)))]at h
   exact h
  |some m=>simp only[pv]at h;cases h
 case build t parts=>
  have:(parts.toList.map fun p=>(p.1,St.ev ⟨σ,H⟩ p.2))=parts.toList.map fun p=>(p.1,St.ev ⟨σ',H'⟩ p.2):=by
   apply jD;intro p hp;rw[he p.2 (by simp only[Op.operands];simp;exact⟨p.1,by simpa using hp⟩)]
  rw[this]at h;exact h
 case call c=>
  split at h
  ·rename_i x t h1 h2 h3;have Oy:x∈(Op.call c).operands.toList:=by
    simp only[Op.operands,Call.operands,gr,aJ,h2];exact .inr (by simp)
   (try simp only[h1,h2,h3])
   unfold Mi at h⊢;rw[he x Oy]at h;split at h
   ·rename_i s hs;(try simp only[hs]);exact h
   ·rename_i rows hs;(try simp only[hs]);exact h
   ·rename_i hs;(try simp only[hs]);exact h
   ·rename_i id hs
    (try simp only[hs])
    split at h
    ·rename_i kk k e sz rows h4 h5;simp only[h4,hx id _ h5];exact h
    ·cases h
   ·cases h
  ·rename_i x y t t' h1 h2 h3;have Oy:x∈(Op.call c).operands.toList:=by
    simp only[Op.operands,Call.operands,gr,aJ,h2];exact .inr (by simp)
   have Ws:y∈(Op.call c).operands.toList:=by
    simp only[Op.operands,Call.operands,gr,aJ,h2];exact .inr (by simp)
   (try simp only[h1,h2,h3])
   rw[he x Oy,he y Ws]at h;exact h
  ·cases h
theorem F2{H H':ah}(hx:Ext H H'){d e:D}{ms:aI}(h:Io H d=some (e,ms)):Io H' d=some (e,ms):=by
 cases d<;>simp only[Io]at h⊢ <;>(try exact h)
 split at h
 ·rename_i k e' sz rows hH;simp only[hx _ _ hH];exact h
 ·rename_i sz rows u hH;simp only[hx _ _ hH];exact h
 ·rename_i rows hH;simp only[hx _ _ hH];exact h
 ·cases h
theorem IU{H H':ah}(hx:Ext H H'):∀ {ds es:aG} {ms:aI},F3 H ds=some (es,ms)->F3 H' ds=some (es,ms):=by
 intro ds
 induction ds with
 |nil=>intro es ms h;exact h
 |cons d ds ih=>
  intro es ms h;simp only[F3]at h⊢;split at h
  ·rename_i e m es' ms' h1 h2;rw[F2 hx h1,ih h2];exact h
  ·cases h
theorem LQ{H H':ah}(hx:Ext H H'){d e:D}{ms:aI}(h:LP H d=some (e,ms)):LP H' d=some (e,ms):=by
 by_cases mM:∃ds,d=.agg ds
 ·obtain⟨ds,rfl⟩:=mM;simp only[LP]at h⊢;split at h
  ·rename_i es ms' h1;rw[IU hx h1];exact h
  ·cases h
 ·by_cases ht:∃vs,d=.iz vs
  ·obtain⟨vs,rfl⟩:=ht;simp[LP]at h
  ·have e1:∀H,LP H d=Io H d:=by intro H;cases d<;>first|rfl|exact absurd ⟨_,rfl⟩ mM|exact absurd ⟨_,rfl⟩ ht
   rw[e1]at h⊢;exact F2 hx h
theorem IV{H H':ah}(hx:Ext H H'):∀ {ds es:aG} {ms:aI},wu H ds=some (es,ms)->wu H' ds=some (es,ms):=by
 intro ds
 induction ds with
 |nil=>intro es ms h;exact h
 |cons d ds ih=>
  intro es ms h;simp only[wu]at h⊢;split at h
  ·rename_i e m es' ms' h1 h2;rw[LQ hx h1,ih h2];exact h
  ·cases h
structure Cp where
 t:Option Nat
 d:D
 r:Nat
 obs:ah
 up:Option (Nat×Ob)
def Looks(H:ah)(vs ds:aG)(ms:aI):Prop:=wu H vs=some (ds,ms)\/(vs.all AM=true/\ds=vs/\ms=[])
def zY(P:Program)(H:ah)(σ:List (Nat×D))(o:Oper)(p:Cp):Prop:=
 (pv P ⟨σ,H⟩ o.op=some p.d/\p.obs=[])\/∃(f:FuncId) (xs:Array Operand) (ts:Array TypeId) (ds:aG) (ms:aI) (d:D),o.op=.call {callee:=.value (.func f),args:=xs,argTypes:=ts}/\
  Looks H (xs.toList.map (St.ev ⟨σ,H⟩)) ds ms/\(ms=[]\/d.Bg=true)/\Good P f ds d/\(jG p.r d=(p.d,p.obs)\/(d.PU=true/\p.d=d.Lg/\p.obs=[]))
def Cu(P:Program)(H:ah)(σ:List (Nat×D))(o:Oper)(p:Cp):Prop:=
 (∃T zs,o.op=.alloc T/\tz P T=some zs/\p.d=.ptr p.r 0/\p.obs=[.box zs])\/∃T x ds,o.op=.box T x/\(St.ev ⟨σ,H⟩ x).cellsOf=some ds/\p.d=.ptr p.r 0/\p.obs=[.box ds]
def Cw(P:Program)(H:ah)(σ:List (Nat×D))(o:Oper)(p:Cp):Prop:=
 ∃T e sz len parts zs ds es,o.op=.buildSlice T len parts/\wE P T=some (e,sz)/\tz P e=some zs/\0<sz/\len*sz<=16777216/\
  pI (mC len sz) (List.replicate len zs).flatten (parts.toList.map fun q=>(q.1,St.ev ⟨σ,H⟩ q.2))=some ds/\yJ H ds=some (es,[])/\p.d=.acc p.r/\p.obs=[.row (oW (IT H e 0 ds)) e sz (chunk sz len es)]
def Cv(P:Program)(H:ah)(σ:List (Nat×D))(o:Oper)(p:Cp):Prop:=
 ∃T e sz len parts zs ds,o.op=.buildSlice T len parts/\wE P T=some (e,sz)/\tz P e=some zs/\0<sz/\len*sz<=16777216/\
  pI (mC len sz) (List.replicate len zs).flatten (parts.toList.map fun q=>(q.1,St.ev ⟨σ,H⟩ q.2))=some ds/\ds.all D.Dr=true/\ds.all D.flat=true/\p.d=.sl (chunk sz len ds)/\p.obs=[]
def yH(P:Program)(H:ah)(σ:List (Nat×D))(o:Oper)(p:Cp):Prop:=zY P H σ o p\/Cu P H σ o p\/Cw P H σ o p\/Cv P H σ o p
def QW(P:Program)(Γ:nR)(all:Array Oper)(H:ah)(σ:List (Nat×D))(o:Oper)(p:Cp):Prop:=
 ∃t,p.t=some t/\p.up=none/\o.dst=some t/\t<Γ.nt/\((o.guard=none/\yH P H σ o p)\/
  (∃(j s:Nat) (want b:Bool),o.guard=some (j,want)/\(all[j]?).bind (·.dst)=some s/\lk σ s=.bool b/\((b=want/\yH P H σ o p)\/(b≠want/\p.d=.iz []/\p.obs=[])))\/
  ∃(j s:Nat) (want:Bool),o.guard=some (j,want)/\(all[j]?).bind (·.dst)=some s/\lk σ s=.iz []/\p.d=.iz []/\p.obs=[])
def QV(P:Program)(H:ah)(σ:List (Nat×D))(o:Oper)(p:Cp):Prop:=
 p.t=none/\p.obs=[]/\o.dst=none/\o.guard=none/\∃T x y id ds,o.op=.store T x y/\St.ev ⟨σ,H⟩ x=.ptr id 0/\H.length<=id/\(St.ev ⟨σ,H⟩ y).cellsOf=some ds/\Dh P T=true/\ds.length=qU P T/\p.up=some (id,.box ds)
def mQ(P:Program)(Γ:nR)(all:Array Oper)(H:ah)(σ:List (Nat×D))(o:Oper)(p:Cp):Prop:=QW P Γ all H σ o p\/QV P H σ o p
def Cp.slot(p:Cp)(σ:List (Nat×D)):List (Nat×D):=match p.t with|some t=>(t,p.d)::σ|none=>σ
def Cp.fill(n:Nat)(p:Cp)(acc:ah):ah:=match p.up with|some (id,ob)=>acc.set (id-n) ob|none=>acc++p.obs
def Cp.SN(n:Nat)(p:Cp)(U:aI)(acc:ah):Prop:=match p.up with|some (id,ob)=>id∉U/\n<=id/\∃zs ds,acc[id-n]?=some (.box zs)/\ob=.box ds/\zs.length=ds.length|none=>True
def Cp.SO(p:Cp)(U:aI):aI:=match p.up with|some (id,_)=>id::U|none=>U
def AE(P:Program)(Γ:nR)(all:Array Oper)(H:ah)(K:List (Nat×D)->ah->Prop):List Oper->List (Nat×D)->ah->aI->Prop
 | [],σ,acc,_=>K σ acc
 |o::os,σ,acc,U=>∃p:Cp,p.r=H.length+acc.length/\mQ P Γ all H σ o p/\p.SN H.length U acc/\AE P Γ all H K os (p.slot σ) (p.fill H.length acc) (p.SO U)
theorem rI{Q':Exit->Act->World->Prop}{ops:Array Oper}{i:Nat}{o:Oper}{K:Act->World->Prop}(hi:ops[i]?=some o)(hw:Region.wanted o (yielded ops a.tmps)=true)(h:o.wp P a w K Q'):wpOp P ops Q' i K a w:=by
 unfold wpOp;simp only[hi,hw,kV];exact .inl h
theorem cR.Q3(hs:cR Γ st κ Θ a w){ops:Array Oper}{j s:Nat}{b:Bool}(hj:(ops[j]?).bind (·.dst)=some s)(hb:lk st.σ s=.bool b):yielded ops a.tmps j=some b:=by
 obtain⟨bs,r,_⟩:=hs.slot s;rw[hb]at r;have hv:=r.o9;have hlt:s<a.tmps.size:=by
  rcases cP s a.tmps.size with h|h
  ·exact h
  ·exfalso;rw[bP,l9 h]at hv;simp[undef]at hv
 have h1:a.tmps[s]?=some (.bool b):=by
  rw[bP,bZ hlt]at hv;rw[bZ hlt];simpa using hv
 simp[yielded,hj,h1]
theorem BG{st mm:St}{ops:Array Oper}{o:Oper}(h:∀t∈o.looksAt ops,lk st.σ t=lk mm.σ t):∀x∈o.op.operands.toList,st.ev x=mm.ev x:=by
 intro x hx;cases x with
 |tmp t=>
  refine h t ?_;unfold Oper.looksAt;exact aJ.2 (.inl (bI.2 ⟨.tmp t,hx,rfl⟩))
 |const v=>rfl
 |global g=>rfl
 |func f=>rfl
theorem vl(l:List (Nat×D))(σ:List (Nat×D))(t:Nat):(∀p∈l,p.1≠t)->lk (l++σ) t=lk σ t:=by
 induction l with
 |nil=>intro _;rfl
 |cons q l ih=>
  intro h;obtain⟨u,d⟩:=q;simp only[iF,lk];rw[ai (fun e=>h (u,d) (by simp) e.symm)];exact ih (fun p hp=>h p (by simp[hp]))
theorem xo(l:List (Nat×D))(σ:List (Nat×D))(p:Nat×D)(hp:p∈l)(hd:∀q∈l,q.1=p.1->q=p):lk (l++σ) p.1=p.2:=by
 induction l with
 |nil=>cases hp
 |cons q l ih=>
  obtain⟨u,d⟩:=q;simp only[iF,lk];by_cases e:p.1=u
  ·rw[bD e];have:=hd (u,d) (by simp) e.symm;rw[<-this]
  ·rw[ai e];rcases aq.1 hp with rfl|hp
   ·exact absurd rfl e
   ·exact ih hp (fun q hq=>hd q (by simp[hq]))
def JN(ops:Array Oper)(n:Nat):Bool:=
 decide (n<=ops.size)&&(decide (n=ops.size)||(decide (n<ops.size)&&(Region.sinkB .any ops n&&Region.chainB .any ops n)))&&
 Region.seqB .any ops (ops.size-n) n (Array.replicate n true++Array.replicate (ops.size-n) false)&&
 (List.range n).all fun i=>match ops[i]? with
  |none=>false
  |some o=>(o.after.all fun e=> !Region.binds .any e||decide (e.on<i))&&
   ((o.looksAt ops).all fun t=>(List.range n).all fun j=>match ops[j]? with|some oj=> !(oj.dst==some t)||(decide (j<i)&&Region.waitsFor .any ops i j)|none=>true)&&
   (List.range n).all fun j=>j==i||(match ops[j]? with|some oj=> !(oj.dst==o.dst)||o.dst.isNone|none=>true)
def place(H:ah)(r:Nat)(obs:ah):ah:=H.take r++(obs++H.drop (r+obs.length))
theorem mi{H:ah}{r:Nat}{obs:ah}(h:r+obs.length<=H.length)(j:Nat):(place H r obs)[j]?=if j<r then H[j]? else if j<r+obs.length then obs[j-r]? else H[j]?:=by
 unfold place;have hl:(H.take r).length=r:=by rw[bG];omega
 by_cases h1:j<r
 ·rw[bD h1,aS (by omega),bf,bD h1]
 ·rw[ai h1,aU (by omega),hl];by_cases h2:j<r+obs.length
  ·rw[bD h2,aS (by omega)]
  ·rw[ai h2,aU (by omega),ck]
   congr 1;omega
theorem mj{H:ah}{r:Nat}{obs:ah}(h:r+obs.length<=H.length):(place H r obs).length=H.length:=by
 unfold place;simp;omega
theorem zY.wp{Q':Exit->Act->World->Prop}{σ:List (Nat×D)}{H H':ah}{o:Oper}{p:Cp}{K:Act->World->Prop}(hs:cR Γ ⟨σ,H'⟩ κ Θ a w)(hx:Ext H H'){t:Nat}(hd:o.dst=some t)(ht:t<Γ.nt)(h:zY P H σ o p)
 (hr:p.r+p.obs.length<=H'.length) (hfree:∀i,i<p.obs.length->κ (p.r+i)=none)
 (hK:∀κ' Θ' a' w',cR Γ ⟨(t,p.d)::σ,place H' p.r p.obs⟩ κ' Θ' a' w'->(∀j,(j<p.r\/p.r+p.obs.length<=j)->κ' j=κ j)->K a' w'):o.wp P a w K Q':=by
 rcases h with⟨h,hno⟩|⟨f,xs,ts,ds,ms,d,hop,hds,hsh,ir,hi⟩
 ·have h':=DX (σ:=σ) (σ':=σ) hx (fun x _=>EF σ H H' x) h;obtain⟨v,bs,hrun,hrd,hz⟩:=vo hs h';unfold Oper.wp;rw[hrun,Oper.upon_value,hd];have hp:place H' p.r p.obs=H':=by rw[hno];simp[place]
  exact hK κ Θ _ _ (by rw[hp];exact hs.set ht hrd hz) (fun _ _=>rfl)
 ·have ML:xs.toList.map (St.ev ⟨σ,H⟩)=xs.toList.map (St.ev ⟨σ,H'⟩):=jD (fun x _=>EF σ H H' x);have OV:∃bs,GU w (xs.toList.map a.eval) ds bs/\∀b∈bs,Seen Θ ms b:=by
   rcases hds with hds|⟨hk,rfl,rfl⟩
   ·have:=IV hx hds;rw[ML]at this;exact B1 hs this
   ·rw[ML]at hk⊢;exact CX hs hk
  obtain⟨bs,hargs,hz⟩:=OV;let Θc:Nat->Nat:=fun b=>if Θ b=0\/ms.any (fun m=>Θ b==m+2)then 0 else 1
  have AK:∀b,Seen Θ ms b->Θc b=0:=by
   intro b h;simp only[Θc];rw[bD];rcases h with h|⟨m,h1,h2⟩
   ·exact .inl h
   ·exact .inr (cB.2 ⟨m,h1,by simp[h2]⟩)
  have hc:=ir.2 w Θc _ bs hs.QN hargs (fun b hb=>AK b (hz b hb)) (fun b hb=>hs.own b (fun e=>hb (AK b (.inl e)))) (fun b=>by simp only[Θc];split<;>omega);unfold Oper.wp;rw[oK hop ir.1,Oper.upon_enter];have e:xs.map a.eval=(xs.toList.map a.eval).toArray:=by rw[<-eU,gD]
  rw[e];refine hc.mono ?_;rintro e w' ⟨v,bs',tb,ub,rfl,hb,hr',Bx,htb,hnd,hfr,hsub⟩;show K (a.put o.dst v) w';rw[hd];rcases hi with hi|⟨hown,Fb,Dq⟩
  rotate_left
  ·cases hr' with
   |iz=>cases hown
   |v hv=>
    have uU:bs'=[]:=hv.own (by
     unfold D.PU at hown;split at hown
     ·cases hown
     ·exact hown)
    obtain⟨b,q,s⟩:=hv.tS;have hp:place H' p.r p.obs=H':=by rw[Dq];simp[place]
    refine hK κ Θ _ w' ?_ (fun _ _=>rfl);rw[hp,Fb];refine(hs.grow hb).set ht (.v (.cell (.pure q))) fun x hx'=>?_
    rcases s x hx' with h|h
    ·rw[uU]at h;cases h
    ·by_cases h0:Θ x=0
     ·exact h0
     ·have:=hs.own x h0;have:=(hfr x h).1;omega
  obtain⟨L,q1,q2,q3,q4,q6,q5⟩:=hr'.inst p.r;rw[hi]at q1 q5;simp only at q1 q5;have hbz:∀b∈bs',Θ b=0:=by
   intro b hb';rcases hsh with CA|hown
   ·by_cases hlt:b<w.heap.size
    ·have h0:=Bx b hb' hlt;simp only[Θc,CA,yG]at h0;by_cases h1:Θ b=0
     ·exact h1
     ·simp[h1]at h0
    ·by_cases h0:Θ b=0
     ·exact h0
     ·exact absurd (hs.own b h0) hlt
   ·rw[hr'.own hown]at hb';cases hb'
  have Us:L.length=p.obs.length:=by have:=congrArg List.length q1;simpa using this
  obtain⟨κ',Θ',hs',hnm,_,hno,hsame⟩:=hs.CW hb L q2 (q3▸hnd) (fun b hb'=>hfr b (q3▸hb')) (fun x hx hx' b hb'=>⟨hbz b (q6 x hx hx' b hb'),q4▸htb b (q6 x hx hx' b hb')⟩) p.r (place H' p.r p.obs) (fun i hi'=>hfree i (by omega)) (by rw[mj hr];exact b9 _) (by rw[mj hr];omega) (by
   intro j y hj;rw[mi hr]at hj;split at hj
   ·rename_i h1;exact .inr ⟨.inl h1,.inr hj⟩
   ·rename_i h1;split at hj
    ·rename_i h2;rw[<-q1,bK]at hj;cases hx':L[j-p.r]? with
     |none=>simp[hx']at hj
     |some x=>simp[hx']at hj;exact .inl ⟨j-p.r,x,by omega,hx',hj.symm⟩
    ·exact .inr ⟨.inr (by omega),.inr hj⟩)
  obtain⟨b0,Ii,BQ⟩:=q5 κ' hnm;refine hK κ' Θ' _ w' (hs'.set (t:=t) ht Ii fun b hb'=>?_) (fun j hj=>hsame j (by omega));rw[hno b (q4▸htb b (BQ b hb'))];exact hbz b (BQ b hb')
theorem cR.Ej{σ:List (Nat×D)}{H':ah}(hs:cR Γ ⟨σ,H'⟩ κ Θ a w){r:Nat}(hr:r+1<=H'.length)(hfree:κ r=none){cs:Array Value}{ds:aG}{bs:aI}(T:TypeId)(hrd:dF w κ cs.toList ds bs)(hz:∀b∈bs,Θ b=0):
 cR Γ ⟨σ,place H' r [.box ds]⟩ (pL κ r (some (.pointer (some ⟨w.heap.size,0,none⟩)))) (fun b=>if b=w.heap.size then r+2 else Θ b) a (w.alloc (.cells cs T)):=by
 have k:=ed.alloc hs (.cells cs T) (tag:=r+2) (by omega);have hn:=ol hfree (some (Value.pointer (some ⟨w.heap.size,0,none⟩)));obtain⟨h1,h2⟩:=dF.stay k hn hrd hz;obtain⟨ρ,hu⟩:=hs.mG;refine hs.put (id:=r) (o:=.box ds) [] ?_ hn ?_ ?_ k (hs.qT (fun b hb=>by by_cases e:b=w.heap.size<;>simp_all)) ?_ hu (by simp) (by intro e sz rows h;cases h)
 ·intro j y hj;rw[mi (by simpa using hr)]at hj;split at hj
  ·exact .inr ⟨by omega,hj⟩
  ·split at hj
   ·rename_i h2;simp only[aT,bH]at h2;have e:j=r:=by omega
    subst e;simp at hj;exact .inl ⟨rfl,hj.symm⟩
   ·rename_i h2;simp only[aT,bH]at h2;exact .inr ⟨by omega,hj⟩
 ·intro i hi;rw[mj (by simpa using hr)]at hi;unfold pL;rw[ai (by omega)];exact hs.jx i hi
 ·intro i x hx;unfold pL at hx;split at hx
  ·cases hx;rfl
  ·exact hs.jg i x hx
 ·exact⟨w.heap.size,cs,T,by simp[pL],heap_alloc_new w _,by simp,bs,h1,h2⟩
theorem Cu.wp{Q':Exit->Act->World->Prop}{σ:List (Nat×D)}{H H':ah}{o:Oper}{p:Cp}{K:Act->World->Prop}(hs:cR Γ ⟨σ,H'⟩ κ Θ a w){t:Nat}(hd:o.dst=some t)(ht:t<Γ.nt)(h:Cu P H σ o p)
 (hr:p.r+p.obs.length<=H'.length) (hfree:∀i,i<p.obs.length->κ (p.r+i)=none)
 (hK:∀κ' Θ' a' w',cR Γ ⟨(t,p.d)::σ,place H' p.r p.obs⟩ κ' Θ' a' w'->(∀j,(j<p.r\/p.r+p.obs.length<=j)->κ' j=κ j)->K a' w'):o.wp P a w K Q':=by
 rcases h with⟨T,zs,hop,hz,Fb,Dq⟩|⟨T,x,ds,hop,hc,Fb,Dq⟩
 ·rw[Dq]at hr hfree hK;rw[Fb]at hK;obtain⟨i,z,hi,pK,hsz,hlen,hone,rfl⟩:=oa hz;have hs':=hs.Ej (r:=p.r) hr (by simpa using hfree 0 (by simp)) T (cs:=z.cells) (sU z.cells.toList hone) (by simp);unfold Oper.wp;have hrun:(execOp a.eval o).run P w=.ok (.value (.pointer (some ⟨w.heap.size,0,none⟩))) (w.alloc (.cells z.cells T)):=by
   simp[execOp,hop,Instr.alloc,zeroValue,typeInfo,hi,pK,newVar,newRow]
  rw[hrun,Oper.upon_value,hd];refine hK _ _ _ _ (hs'.set (t:=t) (d:=.ptr p.r 0) (bs:=[]) ht ?_ (by simp)) (fun j hj=>?_)
  ·exact(qG.ptr p.r 0 w.heap.size (by simp[pL])).Ck
  ·unfold pL;simp only[aT,bH]at hj;rw[ai (by omega)]
 ·rw[Dq]at hr hfree hK;rw[Fb]at hK;obtain⟨bs,rr,hz⟩:=hs.ev x;rw[EF σ H' H x]at rr;have hcs:=sK hs.jg rr hc;have hs':=hs.Ej (r:=p.r) hr (by simpa using hfree 0 (by simp)) T hcs hz;unfold Oper.wp;have hrun:(execOp a.eval o).run P w=.ok (.value (.pointer (some ⟨w.heap.size,0,none⟩))) (w.alloc (.cells (a.eval x).cells T)):=by
   simp[execOp,hop,Instr.box,newVar,newRow]
  rw[hrun,Oper.upon_value,hd];refine hK _ _ _ _ (hs'.set (t:=t) (d:=.ptr p.r 0) (bs:=[]) ht ?_ (by simp)) (fun j hj=>?_)
  ·exact(qG.ptr p.r 0 w.heap.size (by simp[pL])).Ck
  ·unfold pL;simp only[aT,bH]at hj;rw[ai (by omega)]
theorem cR.KP{σ:List (Nat×D)}{H':ah}(hs:cR Γ ⟨σ,H'⟩ κ Θ a w){r:Nat}(hr:r+1<=H'.length)(hfree:κ r=none){u:Bool}{e sz cap:Nat}{rows:List aG}{bs:aI}(cur:Array Value)(hsz:0<sz)(hrl:∀x∈rows,x.length=sz)
 (BO:cur.size=cap*sz) (hn:rows.length<=cap) (hcap:cap<=maxLen) (hrd:iB w (cur.toList.take (rows.length*sz)) rows.flatten bs) (hz:∀b∈bs,Θ b=0) (hq:u=true->bs=[]/\oq w (ny e) 0 (cur.toList.take (rows.length*sz)) rows.flatten bs):
 cR Γ ⟨σ,place H' r [.row (oW u) e sz rows]⟩ (pL κ r (some (.slice (some ⟨w.heap.size,0,none⟩) rows.length cap))) (fun b=>if b=w.heap.size then r+2 else Θ b) a (w.alloc (.cells cur e)):=by
 have k:=ed.alloc hs (.cells cur e) (tag:=r+2) (by omega);have hkn:=ol hfree (some (Value.slice (some ⟨w.heap.size,0,none⟩) rows.length cap));obtain⟨h1,h2⟩:=iB.over k hrd hz;have hlen:(cur.toList.take (rows.length*sz)).length=rows.length*sz:=by
  have:rows.length*sz<=cap*sz:=eG _ hn;have h3:cur.toList.length=cap*sz:=by rw[<-BO];simp
  rw[bG,h3,dA this]
 have hown:(w.alloc (.cells cur e)).ownsRow 0 e sz (.slice (some ⟨w.heap.size,0,none⟩) rows.length cap) rows.length (cur.toList.take (rows.length*sz)):=
  ⟨hlen,.inr ⟨w.heap.size,cap,cur,rfl,by omega,heap_alloc_new w _,hn,hcap,BO,rfl⟩⟩
 obtain⟨ρ,hu⟩:=hs.mG;refine hs.put (id:=r) (o:=.row (oW u) e sz rows) [] ?_ hkn ?_ ?_ k (hs.qT (fun b hb=>by by_cases e:b=w.heap.size<;>simp_all)) ?_ hu (by simp) ?_
 ·intro j y hj;rw[mi (by simpa using hr)]at hj;split at hj
  ·exact .inr ⟨by omega,hj⟩
  ·split at hj
   ·rename_i h2;simp only[aT,bH]at h2;have e:j=r:=by omega
    subst e;simp at hj;exact .inl ⟨rfl,hj.symm⟩
   ·rename_i h2;simp only[aT,bH]at h2;exact .inr ⟨by omega,hj⟩
 ·intro i hi;rw[mj (by simpa using hr)]at hi;unfold pL;rw[ai (by omega)];exact hs.jx i hi
 ·intro i x hx;unfold pL at hx;split at hx
  ·cases hx;rfl
  ·exact hs.jg i x hx
 ·refine⟨hsz,hrl,_,_,bs,by simp[pL],hown,h1,?_,?_⟩
  ·intro g hg;simp only[Value.ownBlock,aP]at hg;subst hg;simp
  ·cases u<;>exact h2
 ·intro e' sz' cc he;cases u with
  |false=>simp[oW]at he
  |true=>
   simp only[oW,Ob.row.injEq,qZ]at he;obtain⟨rfl,rfl,rfl⟩:=he;obtain⟨h0,hF⟩:=hq rfl;subst h0;exact⟨_,_,[],by simp[pL],hown,hF.over k hz,by simp,by simp⟩
theorem Cw.wp{Q':Exit->Act->World->Prop}{σ:List (Nat×D)}{H H':ah}{o:Oper}{p:Cp}{K:Act->World->Prop}(hs:cR Γ ⟨σ,H'⟩ κ Θ a w)(hx:Ext H H'){t:Nat}(hd:o.dst=some t)(ht:t<Γ.nt)(h:Cw P H σ o p)
 (hr:p.r+p.obs.length<=H'.length) (hfree:∀i,i<p.obs.length->κ (p.r+i)=none)
 (hK:∀κ' Θ' a' w',cR Γ ⟨(t,p.d)::σ,place H' p.r p.obs⟩ κ' Θ' a' w'->(∀j,(j<p.r\/p.r+p.obs.length<=j)->κ' j=κ j)->K a' w'):o.wp P a w K Q':=by
 obtain⟨T,e,sz,len,parts,zs,ds,es,hop,hT,hz,hsz,hsmall,hf,habs,Fb,Dq⟩:=h;rw[Dq]at hr hfree hK;rw[Fb]at hK;have hf':pI (mC len sz) (List.replicate len zs).flatten (parts.toList.map fun q=>(q.1,St.ev ⟨σ,H'⟩ q.2))=some ds:=by
  rw[<-hf];congr 1
 obtain⟨arr,b0,hrun,C7,hb0,hal,hdl⟩:=qh (st:=⟨σ,H'⟩) hop hT hz hsz hsmall hf' hs;obtain⟨ρ,hu⟩:=hs.mG;obtain⟨bs,q1,q2,q3⟩:=FF (H:=H) (ρ:=ρ) habs (by simp) C7 hb0 (by simp) e 0;have hel:es.length=len*sz:=by rw[<-q1.length,C7.length,hdl]
 obtain⟨c1,c2,c3⟩:=um sz len es hel;have hs':=hs.KP (r:=p.r) hr (by simpa using hfree 0 (by simp)) (u:=IT H e 0 ds) (e:=e) (sz:=sz) (cap:=len) (rows:=chunk sz len es) (bs:=bs) arr hsz c3 hal (by rw[c1];exact b9 _)
  (by unfold maxLen;have:len*1<=len*sz:=dP _ hsz;omega) (by rw[c1,c2,gX (by simp[hal])];exact q1) q2
  (fun hq=>by
   obtain⟨_,h2,h3⟩:=q3 hq;refine⟨?_,by rw[c1,c2,gX (by simp[hal])];exact h3⟩;cases bs with
   |nil=>rfl
   |cons b bs=>obtain⟨m,hm,_⟩:=h2 b (by simp);cases hm)
 unfold Oper.wp;rw[hrun,Oper.upon_value,hd];rw[c1]at hs';refine hK _ _ _ _ (hs'.set (t:=t) (d:=.acc p.r) (bs:=[]) ht ?_ (by simp)) (fun j hj=>?_)
 ·exact(qG.acc p.r _ (by simp[pL])).Ck
 ·unfold pL;simp only[aT,bH]at hj;rw[ai (by omega)]
theorem Cv.wp{Q':Exit->Act->World->Prop}{σ:List (Nat×D)}{H H':ah}{o:Oper}{p:Cp}{K:Act->World->Prop}(hs:cR Γ ⟨σ,H'⟩ κ Θ a w){t:Nat}(hd:o.dst=some t)(ht:t<Γ.nt)(h:Cv P H σ o p)
 (hK:∀κ' Θ' a' w',cR Γ ⟨(t,p.d)::σ,place H' p.r p.obs⟩ κ' Θ' a' w'->(∀j,(j<p.r\/p.r+p.obs.length<=j)->κ' j=κ j)->K a' w'):o.wp P a w K Q':=by
 obtain⟨T,e,sz,len,parts,zs,ds,hop,hT,hz,hsz,hsmall,hf,Tl,Qz,Fb,Dq⟩:=h;rw[Dq]at hK;rw[Fb]at hK;have hf':pI (mC len sz) (List.replicate len zs).flatten (parts.toList.map fun q=>(q.1,St.ev ⟨σ,H'⟩ q.2))=some ds:=by
  rw[<-hf];congr 1
 obtain⟨arr,b0,hrun,C7,hb0,hal,hdl⟩:=qh (st:=⟨σ,H'⟩) hop hT hz hsz hsmall hf' hs;have hrd:=C7.pure Tl;have TO:b0=[]:=hrd.flat Qz;subst TO;obtain⟨c1,c2,c3⟩:=um sz len ds hdl;have BL:Below w.heap.size w (w.alloc (.cells arr e)):=by
  have k:=ed.alloc hs (.cells arr e) (tag:=2) (by omega);refine⟨k.os,k.tape,k.output,k.size,fun b hlt=>?_⟩;simp only[World.alloc];rw[Array.getElem?_push,ai (by omega)]
 have hs':=hs.grow BL;unfold Oper.wp;rw[hrun,Oper.upon_value,hd];have R9:place H' p.r ([]:ah)=H':=by simp[place]
 rw[R9]at hK;refine hK _ _ _ _ (hs'.set (t:=t) (d:=.sl (chunk sz len ds)) (bs:=[w.heap.size]) ht ?_ ?_) (fun j hj=>rfl)
 ·have hcell:∀j c,arr.toList[j]?=some c->(w.alloc (.cells arr e)).cell? ⟨w.heap.size,0+j,none⟩=some c:=by
   intro j c hj;simp only[cC,World.cell?,heap_alloc_new w _];simpa using hj
  have hlt:w.heap.size<(w.alloc (.cells arr e)).heap.size:=(aV.1 (heap_alloc_new w _)).1;have:=Rd.sl (w:=w.alloc (.cells arr e)) w.heap.size 0 len sz (chunk sz len ds) arr.toList [] hlt (by rw[c1];exact b9 _) (by unfold maxLen;have:len*1<=len*sz:=dP _ hsz;omega) c3 hcell (by rw[c2];exact hrd.keep (by simp));rw[c1]at this;exact .of this
 ·intro b hb;simp only[lB]at hb;subst hb;cases h:Θ w.heap.size with
  |zero=>rfl
  |succ m=>exact absurd (hs.own w.heap.size (by omega)) (by omega)
theorem yH.wp{Q':Exit->Act->World->Prop}{σ:List (Nat×D)}{H H':ah}{o:Oper}{p:Cp}{K:Act->World->Prop}(hs:cR Γ ⟨σ,H'⟩ κ Θ a w)(hx:Ext H H'){t:Nat}(hd:o.dst=some t)(ht:t<Γ.nt)(h:yH P H σ o p)
 (hr:p.r+p.obs.length<=H'.length) (hfree:∀i,i<p.obs.length->κ (p.r+i)=none)
 (hK:∀κ' Θ' a' w',cR Γ ⟨(t,p.d)::σ,place H' p.r p.obs⟩ κ' Θ' a' w'->(∀j,(j<p.r\/p.r+p.obs.length<=j)->κ' j=κ j)->K a' w'):o.wp P a w K Q':=by
 rcases h with h|h|h|h
 ·exact h.wp hs hx hd ht hr hfree hK
 ·exact h.wp hs hd ht hr hfree hK
 ·exact h.wp hs hx hd ht hr hfree hK
 ·exact h.wp hs hd ht hK
theorem cR.LJ(hs:cR Γ st κ Θ a w){ops:Array Oper}{j s:Nat}(hj:(ops[j]?).bind (·.dst)=some s)(hb:lk st.σ s=.iz []):yielded ops a.tmps j=none:=by
 obtain⟨bs,r,_⟩:=hs.slot s;rw[hb]at r;have hv:=r.Cl;rcases cP s a.tmps.size with hlt|hlt
 ·have h1:a.tmps[s]?=some (.tuple #[]):=by
   rw[bP,bZ hlt]at hv;rw[bZ hlt];simpa using hv
  simp[yielded,hj,h1]
 ·simp[yielded,hj,l9 hlt]
def Cp.sD(p:Cp)(H':ah):ah:=match p.up with|some (id,ob)=>H'.set id ob|none=>place H' p.r p.obs
theorem mQ.wp{Q':Exit->Act->World->Prop}{σ:List (Nat×D)}{H H':ah}{ops:Array Oper}{i:Nat}{o:Oper}{p:Cp}{K:Act->World->Prop}(hs:cR Γ ⟨σ,H'⟩ κ Θ a w)(hx:Ext H H')(hi:ops[i]?=some o)(h:mQ P Γ ops H σ o p)
 (hr:p.r+p.obs.length<=H'.length) (hfree:∀i,i<p.obs.length->κ (p.r+i)=none) (F8:∀id ob,p.up=some (id,ob)->∃zs ds,H'[id]?=some (.box zs)/\ob=.box ds/\zs.length=ds.length)
 (hK:∀κ' Θ' a' w',cR Γ ⟨p.slot σ,p.sD H'⟩ κ' Θ' a' w'->(∀j,(j<p.r\/p.r+p.obs.length<=j)->κ' j=κ j)->K a' w'):wpOp P ops Q' i K a w:=by
 rcases h with⟨t,hpt,Gs,hd,ht,h⟩|⟨hpt,Dq,hd,hg,T,x,y,id,ds,hop,ML,hlen,hc,hT,hl,Gs⟩
 ·have e1:p.slot σ=(t,p.d)::σ:=by simp[Cp.slot,hpt]
  have e2:p.sD H'=place H' p.r p.obs:=by simp[Cp.sD,Gs]
  rw[e1,e2]at hK;rcases h with⟨hg,hc⟩|⟨j,s,want,b,hg,hj,hb,hc⟩|⟨j,s,want,hg,hj,hb,OU,hno⟩
  ·exact rI hi (by simp[Region.wanted,hg]) (hc.wp hs hx hd ht hr hfree hK)
  ·have hy:=hs.Q3 hj hb;rcases hc with⟨rfl,hc⟩|⟨hne,OU,hno⟩
   ·exact rI hi (by simp[Region.wanted,hg,hy]) (hc.wp hs hx hd ht hr hfree hK)
   ·unfold wpOp;have hw:Region.wanted o (yielded ops a.tmps)=false:=by simp[Region.wanted,hg,hy,hne]
    simp only[hi,hw,qW,ue,hd];have hp:place H' p.r p.obs=H':=by rw[hno];simp[place]
    exact hK κ Θ _ _ (by rw[hp,OU];exact hs.set ht (.iz [] [] [] .nil) (by simp)) (fun _ _=>rfl)
  ·have hy:=hs.LJ hj hb;unfold wpOp;have hw:Region.wanted o (yielded ops a.tmps)=false:=by simp[Region.wanted,hg,hy]
   simp only[hi,hw,qW,ue,hd];have hp:place H' p.r p.obs=H':=by rw[hno];simp[place]
   exact hK κ Θ _ _ (by rw[hp,OU];exact hs.set ht (.iz [] [] [] .nil) (by simp)) (fun _ _=>rfl)
 ·have e1:p.slot σ=σ:=by simp[Cp.slot,hpt]
  have e2:p.sD H'=H'.set id (.box ds):=by simp[Cp.sD,Gs]
  rw[e1,e2]at hK;obtain⟨zs,ds',hz,he,hzl⟩:=F8 id _ Gs;cases he;obtain⟨w',hrun,hs'⟩:=Ci (st:=⟨σ,H'⟩) hop (by rw[EF σ H' H x];exact ML) hz rfl (by rw[EF σ H' H y];exact hc) hT hl (by omega) rfl hs;refine rI hi (by simp[Region.wanted,hg]) ?_;unfold Oper.wp;rw[hrun,Oper.upon_skip,hd];have e3:zs.take 0++ds++zs.drop (0+ds.length)=ds:=by
   rw[su (by omega)];simp
  rw[e3]at hs';exact hK κ Θ _ _ hs' (fun _ _=>rfl)
theorem zY.congr{H:ah}{σ σ':List (Nat×D)}{o:Oper}{p:Cp}(he:∀x∈o.op.operands.toList,St.ev ⟨σ,H⟩ x=St.ev ⟨σ',H⟩ x)(h:zY P H σ o p):zY P H σ' o p:=by
 rcases h with⟨h,hno⟩|⟨f,xs,ts,ds,ms,d,hop,hds,hsh,ir,hi⟩
 ·exact .inl ⟨DX (fun _ _ h=>h) he h,hno⟩
 ·have hm:xs.toList.map (St.ev ⟨σ,H⟩)=xs.toList.map (St.ev ⟨σ',H⟩):=by
   apply jD;intro x hx;refine he x ?_;rw[hop];simp only[Op.operands,Call.operands,gr,aJ];exact .inr hx
  rw[hm]at hds;exact .inr ⟨f,xs,ts,ds,ms,d,hop,hds,hsh,ir,hi⟩
theorem yH.congr{H:ah}{σ σ':List (Nat×D)}{o:Oper}{p:Cp}(he:∀x∈o.op.operands.toList,St.ev ⟨σ,H⟩ x=St.ev ⟨σ',H⟩ x)(h:yH P H σ o p):yH P H σ' o p:=by
 rcases h with h| (h|⟨T,x,ds,hop,hc,Fb,Dq⟩)|⟨T,e,sz,len,parts,zs,ds,es,hop,hT,hz,hsz,hsmall,hf,habs,Fb,Dq⟩|⟨T,e,sz,len,parts,zs,ds,hop,hT,hz,hsz,hsmall,hf,habs,hfl,Fb,Dq⟩
 ·exact .inl (h.congr he)
 ·exact .inr (.inl (.inl h))
 ·exact .inr (.inl (.inr ⟨T,x,ds,hop,by rw[<-he x (by rw[hop];simp[Op.operands])];exact hc,Fb,Dq⟩))
 ·refine .inr (.inr (.inl ⟨T,e,sz,len,parts,zs,ds,es,hop,hT,hz,hsz,hsmall,?_,habs,Fb,Dq⟩));rw[<-hf]
  congr 1
  apply jD;intro q hq;rw[he q.2 ?_];rw[hop];simp only[Op.operands,eU];exact cE.2 ⟨q,hq,rfl⟩
 ·refine .inr (.inr (.inr ⟨T,e,sz,len,parts,zs,ds,hop,hT,hz,hsz,hsmall,?_,habs,hfl,Fb,Dq⟩));rw[<-hf]
  congr 1
  apply jD;intro q hq;rw[he q.2 ?_];rw[hop];simp only[Op.operands,eU];exact cE.2 ⟨q,hq,rfl⟩
theorem mQ.congr{H:ah}{σ σ':List (Nat×D)}{ops:Array Oper}{o:Oper}{p:Cp}(he:∀t∈o.looksAt ops,lk σ t=lk σ' t)(h:mQ P Γ ops H σ o p):mQ P Γ ops H σ' o p:=by
 have ML:=BG (st:=⟨σ,H⟩) (mm:=⟨σ',H⟩) he;have V2:∀ {j s:Nat} {want:Bool},o.guard=some (j,want)->(ops[j]?).bind (·.dst)=some s->lk σ s=lk σ' s:=by
  intro j s want hg hj;refine he s ?_;unfold Oper.looksAt;refine aJ.2 (.inr ?_);simp[hg,hj]
 rcases h with⟨t,hpt,Gs,hd,ht,h⟩|⟨hpt,Dq,hd,hg,T,x,y,id,ds,hop,hx,hlen,hc,hT,hl,Gs⟩
 ·refine .inl ⟨t,hpt,Gs,hd,ht,?_⟩;rcases h with⟨hg,hc⟩|⟨j,s,want,b,hg,hj,hb,hc⟩|⟨j,s,want,hg,hj,hb,hc⟩
  ·exact .inl ⟨hg,hc.congr ML⟩
  ·refine .inr (.inl ⟨j,s,want,b,hg,hj,by rw[<-V2 hg hj];exact hb,?_⟩);rcases hc with⟨h1,hc⟩|hc
   ·exact .inl ⟨h1,hc.congr ML⟩
   ·exact .inr hc
  ·exact .inr (.inr ⟨j,s,want,hg,hj,by rw[<-V2 hg hj];exact hb,hc⟩)
 ·refine .inr ⟨hpt,Dq,hd,hg,T,x,y,id,ds,hop,?_,hlen,?_,hT,hl,Gs⟩
  ·rw[<-ML x (by rw[hop];simp[Op.operands])];exact hx
  ·rw[<-ML y (by rw[hop];simp[Op.operands])];exact hc
def Cp.sl(p:Cp):Option (Nat×D):=p.t.map fun t=>(t,p.d)
theorem Cp.Mw(p:Cp)(σ:List (Nat×D)):p.slot σ=p.sl.toList++σ:=by
 unfold Cp.slot Cp.sl;cases p.t<;>rfl
theorem Av(p:Cp)(ps:List Cp)(σ:List (Nat×D)):((p::ps).filterMap Cp.sl).reverse++σ=(ps.filterMap Cp.sl).reverse++p.slot σ:=by
 rw[Cp.Mw,pY];cases p.sl<;>simp
theorem mQ.LK{H:ah}{σ:List (Nat×D)}{o:Oper}{p:Cp}(h:mQ P Γ all H σ o p):p.up=none\/p.obs=[]:=by
 rcases h with⟨_,_,h,_⟩|⟨_,h,_⟩
 ·exact .inl h
 ·exact .inr h
theorem mQ.slots{H:ah}{σ:List (Nat×D)}{o:Oper}{p:Cp}(h:mQ P Γ all H σ o p):o.dst=p.t:=by
 rcases h with⟨t,h1,_,h2,_⟩|⟨h1,_,h2,_⟩
 ·rw[h1,h2]
 ·rw[h1,h2]
theorem AE.unfold{H:ah}{K:List (Nat×D)->ah->Prop}:∀(l:List Oper) (σ:List (Nat×D)) (acc:ah) (U:aI),AE P Γ all H K l σ acc U->
 ∃(ps:List Cp) (AZ:ah),ps.length=l.length/\(∀(i:Nat) o p,l[i]?=some o->ps[i]?=some p->mQ P Γ all H (((ps.take i).filterMap Cp.sl).reverse++σ) o p/\p.r=H.length+acc.length+((ps.take i).flatMap Cp.obs).length/\
  ∀id ob,p.up=some (id,ob)->id∉U/\H.length<=id/\(∃zs ds,ob=.box ds/\zs.length=ds.length/\(acc++(ps.take i).flatMap Cp.obs)[id-H.length]?=some (.box zs))/\∀(i2:Nat) q sG,i2<i->ps[i2]?=some q->q.up≠some (id,sG))/\
  K ((ps.filterMap Cp.sl).reverse++σ) AZ/\AZ.length=acc.length+(ps.flatMap Cp.obs).length/\
  (∀k,(∀(i:Nat) q ob,ps[i]?=some q->q.up≠some (H.length+k,ob))->AZ[k]?=(acc++ps.flatMap Cp.obs)[k]?)/\
  ∀(i:Nat) q id ob,ps[i]?=some q->q.up=some (id,ob)->AZ[id-H.length]?=some ob:=by
 intro l
 induction l with
 |nil=>
  intro σ acc U h;have h:K σ acc:=h;exact⟨[],acc,rfl,by simp,by simpa using h,by simp,by simp,by simp⟩
 |cons o l ih=>
  intro σ acc U h;obtain⟨p,hr,hc,hok,nO⟩:=h;obtain⟨ps,AZ,h1,h2,h3,h4,h5,h6⟩:=ih _ _ _ nO;cases F8:p.up with
  |none=>
   have ef:p.fill H.length acc=acc++p.obs:=by simp[Cp.fill,F8]
   have eu:p.SO U=U:=by simp[Cp.SO,F8]
   rw[ef]at h2 h4 h5;rw[eu]at h2;refine⟨p::ps,AZ,by simp[h1],?_,by rw[Av];exact h3,by rw[h4];simp;omega,?_,?_⟩
   ·intro i o' p' ho hp;cases i with
    |zero=>
     simp at ho hp;subst ho;subst hp;refine⟨by simpa using hc,by simpa using hr,?_⟩;intro id ob he;rw[F8]at he;cases he
    |succ i=>
     simp at ho hp;obtain⟨q1,q2,q3⟩:=h2 i o' p' ho hp;refine⟨by rw[nA,Av];exact q1,by rw[q2];simp;omega,?_⟩;intro id ob he;obtain⟨r1,r2,⟨zs,ds,r3,r4,r5⟩,r6⟩:=q3 id ob he;refine⟨r1,r2,⟨zs,ds,r3,r4,by rw[<-r5];simp⟩,?_⟩;intro i2 q sG hlt hq;cases i2 with
     |zero=>simp at hq;subst hq;rw[F8];simp
     |succ i2=>exact r6 i2 q sG (by omega) (by simpa using hq)
   ·intro k hk;rw[h5 k (fun i q ob hq=>hk (i+1) q ob (by simpa using hq))];simp
   ·intro i q id ob hq he;cases i with
    |zero=>simp at hq;subst hq;rw[F8]at he;cases he
    |succ i=>exact h6 i q id ob (by simpa using hq) he
  |some x=>
   obtain⟨Gy,Uc⟩:=x;have ef:p.fill H.length acc=acc.set (Gy-H.length) Uc:=by simp[Cp.fill,F8]
   have eu:p.SO U=Gy::U:=by simp[Cp.SO,F8]
   have Ih:p.obs=[]:=by
    rcases hc.LK with h|h
    ·rw[h]at F8;cases F8
    ·exact h
   rw[ef]at h2 h4 h5;rw[eu]at h2;simp only[Cp.SN,F8]at hok;obtain⟨u1,u2,XT,NL,u3,u4,u5⟩:=hok;have jw:∀(X:ah) (k:Nat),k≠Gy-H.length->(acc.set (Gy-H.length) Uc++X)[k]?=(acc++X)[k]?:=by
    intro X k hk;by_cases hl:k<acc.length
    ·rw[aS (by simpa using hl),aS hl,bE (lC hk)]
    ·rw[aU (by simpa using hl),aU (by omega)];simp
   have hno:∀(i:Nat) q sG,ps[i]?=some q->q.up≠some (Gy,sG):=by
    intro i q sG hq he;have hlt:i<l.length:=by have:=(aB.1 hq).1;omega
    have:=(h2 i l[i] q (aM hlt) hq).2.2 Gy sG he;exact this.1 (by simp)
   refine⟨p::ps,AZ,by simp[h1],?_,by rw[Av];exact h3,by rw[h4];simp[Ih],?_,?_⟩
   ·intro i o' p' ho hp;cases i with
    |zero=>
     simp at ho hp;subst ho;subst hp;refine⟨by simpa using hc,by simpa using hr,?_⟩;intro id ob he;rw[F8]at he;cases he;exact⟨u1,u2,⟨XT,NL,u4,u5,by simpa using u3⟩,by intro i2 q sG hlt;omega⟩
    |succ i=>
     simp at ho hp;obtain⟨q1,q2,q3⟩:=h2 i o' p' ho hp;refine⟨by rw[nA,Av];exact q1,by rw[q2];simp[Ih],?_⟩;intro id ob he;obtain⟨r1,r2,⟨zs,ds,r3,r4,r5⟩,r6⟩:=q3 id ob he;have hne:id≠Gy:=fun e=>r1 (by simp[e])
     refine⟨fun h=>r1 (by simp[h]),r2,⟨zs,ds,r3,r4,?_⟩,?_⟩
     ·rw[<-r5,jw _ _ (by omega)];simp[Ih]
     ·intro i2 q sG hlt hq;cases i2 with
      |zero=>simp at hq;subst hq;rw[F8];intro e;cases e;exact hne rfl
      |succ i2=>exact r6 i2 q sG (by omega) (by simpa using hq)
   ·intro k hk;rw[h5 k (fun i q ob hq=>hk (i+1) q ob (by simpa using hq))];have hne:k≠Gy-H.length:=fun e=>hk 0 p Uc rfl (by rw[F8,e,show H.length+(Gy-H.length)=Gy from by omega])
    rw[jw _ _ hne];simp[Ih]
   ·intro i q id ob hq he;cases i with
    |zero=>
     simp at hq;subst hq;rw[F8]at he;cases he;rw[h5 (Gy-H.length) (fun i q sG hq=>by rw[show H.length+(Gy-H.length)=Gy from by omega];exact hno i q sG hq)];have hl:Gy-H.length<acc.length:=(aB.1 u3).1;rw[aS (by simpa using hl),cM hl]
    |succ i=>exact h6 i q id ob (by simpa using hq) he
theorem cR.same{σ':List (Nat×D)}(h:∀t,lk st.σ t=lk σ' t)(hs:cR Γ st κ Θ a w):cR Γ ⟨σ',st.H⟩ κ Θ a w:=
 ⟨hs.defers,hs.size,hs.jx,hs.jg,fun t=>by show∃bs,lD w κ _ (lk σ' t) bs/\_;rw[<-h t];exact hs.slot t,hs.ob,hs.own,hs.old,hs.mine,hs.stays,hs.mG⟩
theorem cR.room(hs:cR Γ st κ Θ a w)(m:Nat):cR Γ ⟨st.σ,st.H++List.replicate m .gone⟩ κ Θ a w:=by
 have key:∀(j:Nat) y,(st.H++List.replicate m .gone)[j]?=some y->y=.gone\/st.H[j]?=some y:=by
  intro j y hj;by_cases hlt:j<st.H.length
  ·rw[aS hlt]at hj;exact .inr hj
  ·rw[aU (by omega)]at hj;rw[List.getElem?_replicate]at hj;split at hj
   ·cases hj;exact .inl rfl
   ·cases hj
 obtain⟨ρ,hu⟩:=hs.mG;refine⟨hs.defers,hs.size,fun i hi=>hs.jx i (by simp at hi;omega),hs.jg,hs.slot,?_,hs.own,hs.old,hs.mine,hs.stays,ρ,hu.free,?_,?_⟩
 ·intro j o hj;rcases key j o hj with rfl|h
  ·trivial
  ·exact hs.ob j o h
 ·intro id e sz rows hj;rcases key id _ hj with h|h
  ·cases h
  ·exact hu.rows id e sz rows h
 ·intro id o hj;rcases key id _ hj with h|h
  ·subst h;trivial
  ·exact hu.more id o h
theorem kR{ps:List Cp}{i:Nat}{p:Cp}(h:ps[i]?=some p):ps.flatMap Cp.obs=(ps.take i).flatMap Cp.obs++(p.obs++(ps.drop (i+1)).flatMap Cp.obs):=by
 have e:ps=ps.take i++(p::ps.drop (i+1)):=by
  obtain⟨hlt,rfl⟩:=aB.1 h;rw[sv,bJ]
 conv=>lhs;rw[e]
 simp
theorem qL{ps:List Cp}:∀ {k:Nat},k<(ps.flatMap Cp.obs).length->∃(i:Nat) (p:Cp) (j:Nat),ps[i]?=some p/\j<p.obs.length/\k=((ps.take i).flatMap Cp.obs).length+j:=by
 induction ps with
 |nil=>intro k h;simp at h
 |cons p ps ih=>
  intro k h;by_cases hk:k<p.obs.length
  ·exact⟨0,p,k,rfl,hk,by simp⟩
  ·simp only[fS,af]at h;obtain⟨i,q,j,h1,h2,h3⟩:=ih (k:=k-p.obs.length) (by omega);refine⟨i+1,q,j,by simpa using h1,h2,?_⟩;rw[nA,fS,af];omega
theorem Ce{ps:List Cp}{i j:Nat}{p:Cp}(hp:ps[i]?=some p)(hij:i<j):((ps.take i).flatMap Cp.obs).length+p.obs.length<=((ps.take j).flatMap Cp.obs).length:=by
 have h:(ps.take j)[i]?=some p:=by rw[bf,bD hij];exact hp
 have:=kR h;rw[this];have e:(ps.take j).take i=ps.take i:=by rw[mP,dA (by omega)]
 rw[e];simp only[af];omega
theorem Ls{id:Nat}{l:List Oper}(n:Nat)(hm:P.follows .mixedOrders=true)(hB:JN l.toArray n=true)
 (h:AE P Γ l.toArray st.H (fun σ acc=>AO P Γ l.toArray (l.drop n) Q ⟨σ,st.H++acc⟩) (l.take n) st.σ [] []):AW P Γ (.region id l.toArray true) Q st:=by
 simp only[JN,aL,hO,b8]at hB;obtain⟨⟨⟨hn,hsc⟩,MO⟩,AJ⟩:=hB;obtain⟨ps,AZ,hlen,BN,hK,TG,Qk,TH⟩:=AE.unfold _ _ _ _ h;simp only[j9,bH,qE,cC]at BN hK TG Qk;have hn':n<=l.length:=by simpa using hn
 have R9:ps.length=n:=by rw[hlen];simp;omega
 have hop:∀(i:Nat),i<n->∃o p,l.toArray[i]?=some o/\ps[i]?=some p/\o.dst=p.t/\mQ P Γ l.toArray st.H (((ps.take i).filterMap Cp.sl).reverse++st.σ) o p/\p.r=st.H.length+((ps.take i).flatMap Cp.obs).length:=by
  intro i hi;have h1:l[i]?=some l[i]:=aM (by omega);have h2:ps[i]?=some ps[i]:=aM (by omega);have h3:=BN i l[i] ps[i] (by rw[bf,bD hi];exact h1) h2;exact⟨l[i],ps[i],by simp[dM,h1],h2,h3.1.slots,h3.1,h3.2.1⟩
 have Fc:∀(i:Nat) p,ps[i]?=some p->p.r=st.H.length+((ps.take i).flatMap Cp.obs).length:=by
  intro i p hp;have hi:i<n:=by have:=(aB.1 hp).1;omega
  obtain⟨_,p',_,hp',_,_,hr⟩:=hop i hi;rw[hp]at hp';cases hp';exact hr
 have DE:∀(i:Nat) p id ob,ps[i]?=some p->p.up=some (id,ob)->st.H.length<=id/\(∃zs ds,ob=.box ds/\zs.length=ds.length/\((ps.take i).flatMap Cp.obs)[id-st.H.length]?=some (.box zs))/\∀(i2:Nat) q sG,i2<i->ps[i2]?=some q->q.up≠some (id,sG):=by
  intro i p id ob hp he;have hi:i<n:=by have:=(aB.1 hp).1;omega
  have h1:l[i]?=some l[i]:=aM (by omega);have h3:=(BN i l[i] p (by rw[bf,bD hi];exact h1) hp).2.2 id ob he;exact⟨h3.2.1,h3.2.2.1,h3.2.2.2⟩
 have Jr:∀(i j:Nat) p q id ob sG,ps[i]?=some p->ps[j]?=some q->p.up=some (id,ob)->q.up=some (id,sG)->i=j:=by
  intro i j p q id ob sG hp hq he xj;rcases o8 i j with h|h|h
  ·exact absurd he ((DE j q id sG hq xj).2.2 i p ob h hp)
  ·exact h
  ·exact absurd xj ((DE i p id ob hp he).2.2 j q sG h hq)
 have Js:∀(i:Nat) p id ob,ps[i]?=some p->p.up=some (id,ob)->p.obs=[]:=by
  intro i p id ob hp he;have hi:i<n:=by have:=(aB.1 hp).1;omega
  obtain⟨_,p',_,hp',_,hc,_⟩:=hop i hi;rw[hp]at hp';cases hp';rcases hc.LK with h|h
  ·rw[h]at he;cases he
  ·exact h
 have hfit:∀(i:Nat) p,ps[i]?=some p->p.r+p.obs.length<=st.H.length+(ps.flatMap Cp.obs).length:=by
  intro i p hp;rw[Fc i p hp,kR hp];simp only[af];omega
 have D9:∀(i j:Nat) p q,ps[i]?=some p->ps[j]?=some q->i<j->p.r+p.obs.length<=q.r:=by
  intro i j p q hp hq hij;rw[Fc i p hp,Fc j q hq];have:=Ce hp hij;omega
 have hdist:∀(i j:Nat) p q t,ps[i]?=some p->ps[j]?=some q->p.t=some t->q.t=some t->i=j:=by
  intro i j p q t hp hq TY xj;have hi:i<n:=by have:=(aB.1 hp).1;omega
  have hj:j<n:=by have:=(aB.1 hq).1;omega
  obtain⟨oi,p',ho,hp',TX,_⟩:=hop i hi;obtain⟨oj,q',pG,CB,hdj,_⟩:=hop j hj;rw[hp]at hp';cases hp';rw[hq]at CB;cases CB;have:=aR.1 AJ i (au.2 hi);simp only[ho,aL]at this;have:=aR.1 this.2 j (au.2 hj);simp only[pG,TX,hdj,TY,xj,kf,cX,nG,Option.isNone_some,nG,bq]at this;exact this.symm
 have vY:∀(i:Nat) p t,ps[i]?=some p->p.t=some t->∀q∈ps.filterMap Cp.sl,q.1=t->q=(t,p.d):=by
  intro i p t hp hpt q hq he;obtain⟨q',CB,Ag⟩:=bI.1 hq;obtain⟨j,hj,rfl⟩:=cY.1 CB;have qC:ps[j]?=some ps[j]:=aM hj;unfold Cp.sl at Ag;cases Oo:ps[j].t with
  |none=>rw[Oo]at Ag;cases Ag
  |some u=>
   rw[Oo]at Ag;simp only[bW,aP]at Ag;subst Ag;simp only at he;subst he;have:=hdist j i _ p u qC hp Oo hpt;subst this;rw[hp]at qC;cases qC;rfl
 intro κ Θ a w hs;have main:∀(f:Nat) (listed:Array Bool) (σ':List (Nat×D)) (H':ah) (κ:Nat->Option Value) (Θ:Nat->Nat) (a:Act) (w:World),HeadInv .any l.toArray n listed->
  ((List.range n).filter fun i=> !listed.getD i false).length=f->
  (∀(i:Nat) p t,ps[i]?=some p->p.t=some t->listed.getD i false=true->lk σ' t=p.d)->
  (∀t,(∀(i:Nat) p,ps[i]?=some p->listed.getD i false=true->p.t≠some t)->lk σ' t=lk st.σ t)->
  H'.length=st.H.length+(ps.flatMap Cp.obs).length->Ext st.H H'->
  (∀(i:Nat) p,ps[i]?=some p->listed.getD i false=true->∀(j:Nat) o,p.obs[j]?=some o->(∀(i2:Nat) q ob,ps[i2]?=some q->listed.getD i2 false=true->q.up≠some (p.r+j,ob))->H'[p.r+j]?=some o)->
  (∀(i:Nat) q id ob,ps[i]?=some q->listed.getD i false=true->q.up=some (id,ob)->H'[id]?=some ob/\∃v,κ id=some v)->
  (∀(i:Nat) p,ps[i]?=some p->listed.getD i false=false->∀j,j<p.obs.length->κ (p.r+j)=none)->
  cR Γ ⟨σ',H'⟩ κ Θ a w->
  wpAny P .any l.toArray (fun e a' w'=>∃mm κ' Θ',cR Γ mm κ' Θ' a' w'/\Q e mm) (f+(l.toArray.size-n)) listed a w:=by
  intro f
  induction f with
  |zero=>
   intro listed σ' H' κ Θ a w inv jL hA hB NM Ia Gm LY Gl hs;have hall:∀i,i<n->listed.getD i false=true:=by
    intro i hi;have h0:=br jL;cases hl:listed.getD i false with
    |true=>rfl
    |false=>
     have:i∈(List.range n).filter fun i=> !listed.getD i false:=ew.2 ⟨au.2 hi,by simp[hl]⟩
     rw[h0]at this;cases this
   have Je:listed=Array.replicate n true++Array.replicate (l.toArray.size-n) false:=by
    apply Array.ext
    ·rw[inv.size];simp;simp at hn;omega
    ·intro i h1 h2;by_cases hi:i<n
     ·have:=hall i hi;rw[rL (by simpa using hi)];simp[h1]at this;simp[this]
     ·have hi':i<l.toArray.size:=by rw[<-inv.size];exact h1
      have:=inv.tail i (by omega) hi';rw[qV (by simpa using hi)];simp[h1]at this;simp[this]
   rw[cC];have DB:∀t,lk σ' t=lk ((ps.filterMap Cp.sl).reverse++st.σ) t:=by
    intro t;by_cases hex:∃(i:Nat) (p:Cp),ps[i]?=some p/\p.t=some t
    ·obtain⟨i,p,hp,hpt⟩:=hex;have hi:i<n:=by have:=(aB.1 hp).1;omega
     rw[hA i p t hp hpt (hall i hi)];have:=xo (ps.filterMap Cp.sl).reverse st.σ (t,p.d) (by rw[cO];exact bI.2 ⟨p,aD hp,by simp[Cp.sl,hpt]⟩) (fun q hq he=>vY i p t hp hpt q (by simpa using hq) he);exact this.symm
    ·rw[hB t (fun i p hp _ he=>hex ⟨i,p,hp,he⟩),vl];intro q hq he;obtain⟨p,hp,hps⟩:=bI.1 (cO.1 hq);obtain⟨i,hi,hpi⟩:=cY.1 hp;refine hex ⟨i,p,by rw[<-hpi];exact aM hi,?_⟩;unfold Cp.sl at hps;cases hpt:p.t with
     |none=>rw[hpt]at hps;cases hps
     |some u=>rw[hpt]at hps;simp only[bW,aP]at hps;subst hps;simp only at he;rw[he]
   have JR:H'=st.H++AZ:=by
    apply kA;intro k;by_cases h1:k<st.H.length
    ·rw[aS h1];exact Ia k _ (aM h1)|>.trans (aM h1).symm
    ·rw[aU (by omega)];by_cases hex:∃(i:Nat) (q:Cp) (ob:Ob),ps[i]?=some q/\q.up=some (k,ob)
     ·obtain⟨i,q,ob,hq,he⟩:=hex;have hi:i<n:=by have:=(aB.1 hq).1;omega
      rw[(LY i q k ob hq (hall i hi) he).1,TH i q k ob hq he]
     ·have hno:∀(i:Nat) q ob,ps[i]?=some q->q.up≠some (k,ob):=fun i q ob hq he=>hex ⟨i,q,ob,hq,he⟩
      rw[Qk (k-st.H.length) (fun i q ob hq=>by rw[show st.H.length+(k-st.H.length)=k from by omega];exact hno i q ob hq)];by_cases h2:k-st.H.length<(ps.flatMap Cp.obs).length
      ·obtain⟨i,p,j,hp,hj,hk⟩:=qL h2;have hi:i<n:=by have:=(aB.1 hp).1;omega
       have e3:p.r+j=k:=by rw[Fc i p hp];omega
       have h3:=Gm i p hp (hall i hi) j _ (aM hj) (fun i2 q ob hq _=>by rw[e3];exact hno i2 q ob hq);rw[e3]at h3;rw[h3,kR hp,hk,aU (by omega),cK,aS hj,aM hj]
      ·rw[bY (by omega),bY (by omega)]
   have hs2:=cR.same (st:=⟨σ',H'⟩) (σ':=(ps.filterMap Cp.sl).reverse++st.σ) DB hs;simp only[JR]at hs2;have hwp:=hK κ Θ a w hs2;have hdl:(l.drop n).length=l.toArray.size-n:=by simp
   have:=wpAny_of_seq (md:=.any) (l.drop n) n listed a w (fun j=>by simp[ck]) (by rw[hdl,Je];exact MO) hwp
   rwa[hdl]at this
  |succ f ih=>
   intro listed σ' H' κ Θ a w inv jL hA hB NM Ia Gm LY Gl hs;have hun:∃i,i<n/\listed.getD i false=false:=by
    have hne:((List.range n).filter fun i=> !listed.getD i false)≠[]:=by
     intro h0;rw[h0]at jL;simp at jL
    obtain⟨i,hi⟩:=mo _ hne;obtain⟨h1,h2⟩:=ew.1 hi;exact⟨i,au.1 h1,by simpa using h2⟩
   have hsz:=inv.size;rw[show f+1+(l.toArray.size-n)=(f+(l.toArray.size-n))+1 from by omega];refine⟨fun h0=>?_,fun i hi=>?_⟩
   ·exfalso;obtain⟨i,⟨hin,Hv⟩,hmin⟩:=exists_least (p:=fun i=>i<n/\listed.getD i false=false) hun;obtain⟨o,p,ho,_,_,_⟩:=hop i hin;have:i∈Region.ready .any l.toArray listed:=by
     refine mem_ready.2 ⟨getD_in (by rw[hsz];omega) Hv,o,ho,fun e he hb=>?_⟩;have:=aR.1 AJ i (au.2 hin);simp only[ho,aL]at this;have:=nU.1 this.1.1 e he;simp only[hb,cX,lf,b8]at this;cases hl:listed.getD e.on false with
     |true=>rfl
     |false=>
      have:=hmin e.on ⟨by omega,hl⟩;omega
    rw[h0]at this;cases this
   ·obtain⟨i0,Sn,hl0⟩:=hun;have hin:i<n:=by
     rcases cP i n with h|h
     ·exact h
     ·rcases hsc with he|⟨hn2,RI,hchain⟩
      ·obtain⟨_,oi,R8,_⟩:=mem_ready.1 hi;have:=(aV.1 R8).1;omega
      ·exact absurd hi (tail_waits RI hchain hn2 inv _ i0 rfl Sn (getD_in (by rw[hsz];omega) hl0) i h)
    obtain⟨o,p,ho,hp,hd,hc,_⟩:=hop i hin;obtain⟨Hv,o',ho',hall⟩:=mem_ready.1 hi;rw[ho]at ho';cases ho';have sA:=getD_both Hv;have MJ:mQ P Γ l.toArray st.H σ' o p:=by
     refine mQ.congr (σ:=((ps.take i).filterMap Cp.sl).reverse++st.σ) (σ':=σ') ?_ hc;intro t ht;have ym:=aR.1 AJ i (au.2 hin);simp only[ho,aL]at ym;have ym:=aR.1 ym.1.2 t ht;by_cases hex:∃(j:Nat) (q:Cp),ps[j]?=some q/\q.t=some t
     ·obtain⟨j,q,hq,Ah⟩:=hex;have hj:j<n:=by have:=(aB.1 hq).1;omega
      obtain⟨oj,q',pG,CB,hdj,_⟩:=hop j hj;rw[hq]at CB;cases CB;have:=aR.1 ym j (au.2 hj);simp only[pG,hdj,Ah,kf,cX,lf,aL,b8]at this;obtain⟨hji,Jt⟩:=this;obtain⟨X3,Jm,e,he,hb,hon⟩:=Region.waitsFor_spec Jt;rw[ho]at Jm;cases Jm;have hjl:=hall e he hb;rw[hon]at hjl;rw[hA j q t hq Ah hjl];refine xo ((ps.take i).filterMap Cp.sl).reverse st.σ (t,q.d) ?_ (fun q2 qC xj=>vY j q t hq Ah q2 ?_ xj)
      ·rw[cO];exact bI.2 ⟨q,aD (i:=j) (by rw[bf,bD hji];exact hq),by simp[Cp.sl,Ah]⟩
      ·obtain⟨q3,Fe,pH⟩:=bI.1 (cO.1 qC);exact bI.2 ⟨q3,bL Fe,pH⟩
     ·rw[hB t (fun j q hq _ he=>hex ⟨j,q,hq,he⟩),vl];intro q hq he;obtain⟨q3,Fe,pH⟩:=bI.1 (cO.1 hq);obtain⟨j,hj,RD⟩:=cY.1 (bL Fe);refine hex ⟨j,q3,by rw[<-RD];exact aM hj,?_⟩;unfold Cp.sl at pH;cases hpt:q3.t with
      |none=>rw[hpt]at pH;cases pH
      |some u=>rw[hpt]at pH;simp only[bW,aP]at pH;subst pH;simp only at he;rw[he]
    have WO:=hfit i p hp;have Jd:∀id ob,p.up=some (id,ob)->∃v,κ id=some v:=by
     intro id ob he;rcases MJ with⟨_,_,h,_⟩|⟨_,_,_,_,T,x,y,id',ds,FZ,hx',_,_,_,_,Gs⟩
     ·rw[h]at he;cases he
     ·rw[Gs]at he;cases he;obtain⟨b1,r1,_⟩:=hs.ev x;rw[EF σ' H' st.H x,hx']at r1;obtain⟨g,hk,_⟩:=r1.qP;exact⟨_,hk⟩
    have Jq:∀id ob,p.up=some (id,ob)->∃zs ds,H'[id]?=some (.box zs)/\ob=.box ds/\zs.length=ds.length:=by
     intro id ob he;obtain⟨u1,⟨zs,ds,u2,u3,u4⟩,_⟩:=DE i p id ob hp he;refine⟨zs,ds,?_,u2,u3⟩;obtain⟨i1,p1,j1,hp1,yo,hk1⟩:=qL (aB.1 u4).1;have Fa:ps[i1]?=some p1:=by
      have:=(aB.1 hp1).1;rw[bf]at hp1;split at hp1
      ·exact hp1
      ·cases hp1
     have hi1:i1<i:=by have:=(aB.1 hp1).1;simp at this;omega
     have et:(ps.take i).take i1=ps.take i1:=by rw[mP,dA (by omega)]
     rw[et]at hk1;have e1:p1.r+j1=id:=by rw[Fc i1 p1 Fa];omega
     have qS:p1.obs[j1]?=some (.box zs):=by
      rw[kR hp1,et,hk1,aU (by omega),cK,aS yo]at u4;exact u4
     have hl1:listed.getD i1 false=true:=by
      cases hl:listed.getD i1 false with
      |true=>rfl
      |false=>
       have h0:=Gl i1 p1 Fa hl j1 yo;rw[e1]at h0;obtain⟨v,hv⟩:=Jd id ob he;rw[h0]at hv;cases hv
     have:=Gm i1 p1 Fa hl1 j1 _ qS (fun i2 q sG hq hl xj=>by
      rw[e1]at xj;have:=Jr i i2 p q id ob sG hp hq he xj;subst this;rw[sA]at hl;cases hl)
     rw[e1]at this;exact this
    refine MJ.wp hs Ia ho (by omega) (fun j hj=>Gl i p hp sA j hj) Jq fun κ' Θ' a' w' hs' hsame=>?_
    have jw:∀(j:Nat),(listed.setIfInBounds i true).getD j false=true↔(j=i\/listed.getD j false=true):=by
     intro j;by_cases e:i=j
     ·subst e;have:i<listed.size:=by rw[hsz];omega
      simp[this]
     ·rw[getD_set_ne false e];constructor
      ·exact .inr
      ·rintro(rfl|h)
       ·exact absurd rfl e
       ·exact h
    have hput:(p.sD H').length=H'.length:=by
     unfold Cp.sD;split
     ·simp
     ·exact mj (by omega)
    have Og:∀(k:Nat),k<st.H.length->(p.sD H')[k]?=H'[k]?:=by
     intro k hk;unfold Cp.sD;split
     ·rename_i id ob he;have:=(DE i p id ob hp he).1;rw[bE (by omega)]
     ·rw[mi (by omega),bD (by rw[Fc i p hp];omega)]
    refine ih (listed.setIfInBounds i true) (p.slot σ') (p.sD H') κ' Θ' a' w' (inv.set hi hin) ?_ ?_ ?_ (by rw[hput];exact NM) ?_ ?_ ?_ ?_ hs'
    ·have Hr:((List.range n).filter fun j=> !(listed.setIfInBounds i true).getD j false)=((List.range n).filter fun j=> !listed.getD j false).erase i:=by
      have hnd:((List.range n).filter fun j=> !listed.getD j false).Nodup:=om _ sI;rw[hnd.erase_eq_filter,qX];apply rT;intro j _;by_cases e:j=i
      ·subst e;have:=(jw j).2 (.inl rfl);rw[this];simp
      ·rw[getD_set_ne false (lC e)];simp[e]
     rw[Hr,kM (ew.2 ⟨au.2 hin,by simp[sA]⟩),jL];rfl
    ·intro j q t hq Ah hl;unfold Cp.slot;rcases(jw j).1 hl with rfl|tQ
     ·rw[hp]at hq;cases hq;rw[Ah];simp[lk]
     ·cases hpt:p.t with
      |none=>exact hA j q t hq Ah tQ
      |some u=>
       simp only[lk];rw[ai,hA j q t hq Ah tQ];intro e;have:=hdist j i q p t hq hp Ah (by rw[hpt,e]);subst this;rw[sA]at tQ;cases tQ
    ·intro t ht;unfold Cp.slot;have nO:=hB t (fun j q hq hl=>ht j q hq ((jw j).2 (.inr hl)));cases hpt:p.t with
     |none=>exact nO
     |some u=>
      simp only[lk];rw[ai (fun e=>ht i p hp ((jw i).2 (.inl rfl)) (by rw[hpt,e]))];exact nO
    ·intro j y hj;rw[Og j (aB.1 hj).1];exact Ia j y hj
    ·intro j q hq hl k y hy hno;have R3:=(aB.1 hy).1;unfold Cp.sD;split
     ·rename_i id ob he;have hne:q.r+k≠id:=fun e=>hno i p ob hp ((jw i).2 (.inl rfl)) (by rw[e];exact he)
      rw[bE (lC hne)];rcases(jw j).1 hl with rfl|tQ
      ·rw[hp]at hq;cases hq;rw[Js j p id ob hp he]at hy;simp at hy
      ·exact Gm j q hq tQ k y hy (fun i2 q2 sG qC Ie=>hno i2 q2 sG qC ((jw i2).2 (.inr Ie)))
     ·rw[mi (by omega)];rcases(jw j).1 hl with rfl|tQ
      ·rw[hp]at hq;cases hq;rw[ai (by omega),bD (by omega),cK];exact hy
      ·have hne:j≠i:=fun e=>by subst e;rw[sA]at tQ;cases tQ
       have h3:=Gm j q hq tQ k y hy (fun i2 q2 sG qC Ie=>hno i2 q2 sG qC ((jw i2).2 (.inr Ie)));rcases nV hne with h|h
       ·have:=D9 j i q p hq hp h;rw[bD (by omega)];exact h3
       ·have:=D9 i j p q hp hq h;rw[ai (by omega),ai (by omega)];exact h3
    ·intro j q id ob hq hl he;rcases(jw j).1 hl with rfl|tQ
     ·rw[hp]at hq;cases hq;obtain⟨zs,ds,z1,_⟩:=Jq id ob he;have hlt:=(aB.1 z1).1;refine⟨by simp only[Cp.sD,he];rw[cM hlt],?_⟩;obtain⟨v,hv⟩:=Jd id ob he;refine⟨v,?_⟩;rw[hsame id (by rw[Js j p id ob hp he];simp;omega)];exact hv
     ·obtain⟨h1,v,hv⟩:=LY j q id ob hq tQ he;have hout:id<p.r\/p.r+p.obs.length<=id:=by
       rcases cP id p.r with h|h
       ·exact .inl h
       ·rcases cP id (p.r+p.obs.length)with h2|h2
        ·have:=Gl i p hp sA (id-p.r) (by omega);rw[show p.r+(id-p.r)=id from by omega,hv]at this;cases this
        ·exact .inr h2
      refine⟨?_,v,by rw[hsame id hout];exact hv⟩;unfold Cp.sD;split
      ·rename_i Rc sG xj;have hne:Rc≠id:=fun e=>by
        subst e;have:=Jr i j p q Rc sG ob hp hq xj he;subst this;rw[sA]at tQ;cases tQ
       rw[bE hne];exact h1
      ·rw[mi (by omega)];rcases hout with h|h
       ·rw[bD h];exact h1
       ·rw[ai (by omega),ai (by omega)];exact h1
    ·intro j q hq hl k hk;have hne:j≠i:=fun e=>by
      subst e;have:=(jw j).2 (.inl rfl);rw[this]at hl;cases hl
     have tQ:listed.getD j false=false:=by
      cases h:listed.getD j false with
      |false=>rfl
      |true=>have:=(jw j).2 (.inr h);rw[this]at hl;cases hl
     have h3:=Gl j q hq tQ k hk;rw[hsame,h3];rcases nV hne with h|h
     ·have:=D9 j i q p hq hp h;omega
     ·have:=D9 i j p q hp hq h;omega
 refine wp_region_any hm ?_;have PF:HeadInv .any l.toArray n (Array.replicate l.toArray.size false):=
  ⟨by simp,fun j oj _ hl=>(by rw[getD_replicate_false]at hl;cases hl),fun t _ ht=>getD_in (by simpa using ht) (getD_replicate_false _ _)⟩
 have jL:((List.range n).filter fun i=> !(Array.replicate l.toArray.size false).getD i false).length=n:=by
  rw[List.filter_eq_self.2]
  ·simp
  ·intro i _;rw[getD_replicate_false];rfl
 have:=main n (Array.replicate l.toArray.size false) st.σ (st.H++List.replicate (ps.flatMap Cp.obs).length .gone) κ Θ a w.drew PF jL (fun i p t _ _ hl=>by rw[getD_replicate_false]at hl;cases hl) (fun t _=>rfl)
  (by simp) (fun i o h=>by rw[aS (aB.1 h).1];exact h) (fun i p _ hl=>by rw[getD_replicate_false]at hl;cases hl)
  (fun i q id ob _ hl=>by rw[getD_replicate_false]at hl;cases hl)
  (fun i p hp _ j _=>hs.jx _ (by rw[Fc i p hp];omega)) (hs.drew.room _)
 rw[show n+(l.toArray.size-n)=l.toArray.size from by omega]at this;exact this
end
end Go.Cx
namespace Go.Cx
open Go.RowKit
def pos(o:aI)(i:Nat):Option Nat:=ix (fun j=>j==i) o
def D.HC(o:aI)(d:D):D:=match d with
 | .acc i=>(match pos o i with|some j=>.acc j|none=>.any)
 | .ptr i off=>(match pos o i with|some j=>.ptr j off|none=>.any)
 | .op i a b c=>(match pos o i with|some j=>.op j a b c|none=>.any)
 |d=>d
def D.O1(o:aI)(d:D):D:=match d with
 | .agg cs=>.agg (cs.map (D.HC o))
 |d=>d.HC o
def D.HD(o:aI)(d:D):D:=match d with
 | .iz vs=>.iz (vs.map (D.O1 o))
 |d=>d.O1 o
def Ob.rn(o:aI)(x:Ob):Ob:=match x with
 | .box cells=>.box (cells.map (D.HC o))
 | .yB cells v=>.yB (cells.map (D.HC o)) v
 | .hole _ _ _ _ _=>.gone
 | .row k e sz rows=>(match k with| .ho _ _=>.gone|k=>.row k e sz rows)
 |x=>x
def St.td(st:St)(K o:aI):St:=⟨K.map fun t=>(t,(lk st.σ t).HD o),o.map fun i=>((st.H[i]?).getD .gone).rn o⟩
section
variable{P:Program}{Γ:nR}{Q:Exit->St->Prop}{st:St}{κ κ':Nat->Option Value}{Θ Θ':Nat->Nat}{a:Act}{w:World}{o:aI}
theorem Cb:∀ {o:aI},o.Nodup->∀(i j x:Nat),o[i]?=some x->o[j]?=some x->i=j:=by
 intro o
 induction o with
 |nil=>intro _ i j x h;simp at h
 |cons y o ih=>
  intro hnd i j x hi hj;obtain⟨h1,h2⟩:=dV.1 hnd;cases i with
  |zero=>
   cases j with
   |zero=>rfl
   |succ j=>simp at hi hj;subst hi;exact absurd (aD hj) h1
  |succ i=>
   cases j with
   |zero=>simp at hi hj;subst hj;exact absurd (aD hi) h1
   |succ j=>simp at hi hj;rw[ih h2 i j x hi hj]
theorem DV{i j:Nat}(h:pos o i=some j):o[j]?=some i:=by
 obtain⟨x,h1,h2⟩:=qM h;simp only[bq]at h2;subst h2;exact h1
theorem G1{i j:Nat}(hnd:o.Nodup)(h:o[j]?=some i):pos o i=some j:=
 vf h (by simp) (fun k y hk hy=>by
  simp only[bq]at hy;subst hy;obtain⟨h1,h2⟩:=aB.1 h;obtain⟨h3,h4⟩:=aB.1 hk;exact Cb hnd k j _ hk h)
section
variable(hk:∀(i j:Nat) v,pos o i=some j->κ i=some v->κ' j=some v)(pK:∀b,Θ b=0->Θ' b=0)
include hk pK
theorem qG.rn{v:Value}{d:D}{bs:aI}(h:qG w κ v d bs)(hz:∀b∈bs,Θ b=0):∃b',qG w κ' v (d.HC o) b'/\∀b∈b',Θ' b=0:=by
 cases h with
 |pure h=>
  have e:d.HC o=d:=by cases h<;>rfl
  rw[e];exact⟨bs,.pure h,fun b hb=>pK b (hz b hb)⟩
 |acc i v hi=>
  simp only[D.HC];cases hp:pos o i with
  |none=>exact⟨[],.pure (.any _),by simp⟩
  |some j=>exact⟨[],.acc j v (hk i j v hp hi),by simp⟩
 |ptr i off b hi=>
  simp only[D.HC];cases hp:pos o i with
  |none=>exact⟨[],.pure (.any _),by simp⟩
  |some j=>exact⟨[],.ptr j off b (hk i j _ hp hi),by simp⟩
 |op i x sz off b o0 len cap hi=>
  simp only[D.HC];cases hp:pos o i with
  |none=>exact⟨[],.pure (.any _),by simp⟩
  |some j=>exact⟨[],.op j x sz off b o0 len cap (hk i j _ hp hi),by simp⟩
theorem dF.rn{vs:av}{ds:aG}{bs:aI}(h:dF w κ vs ds bs)(hz:∀b∈bs,Θ b=0):∃b',dF w κ' vs (ds.map (D.HC o)) b'/\∀b∈b',Θ' b=0:=by
 induction h with
 |nil=>exact⟨[],.nil,by simp⟩
 |cons v vs d ds b1 b2 h1 h2 _ ih=>
  obtain⟨c1,q1,q2⟩:=qG.rn hk pK h2 (fun b hb=>hz b (by simp[hb]));obtain⟨c2,p1,p2⟩:=ih (fun b hb=>hz b (by simp[hb]));refine⟨c1++c2,.cons _ _ _ _ _ _ h1 q1 p1,fun b hb=>?_⟩;rcases aJ.1 hb with hb|hb
  ·exact q2 b hb
  ·exact p2 b hb
theorem B5.rn{v:Value}{d:D}{bs:aI}(h:B5 w κ v d bs)(hz:∀b∈bs,Θ b=0):∃b',B5 w κ' v (d.O1 o) b'/\∀b∈b',Θ' b=0:=by
 cases h with
 |cell h=>
  by_cases mM:∃ds,d=.agg ds
  ·obtain⟨ds,rfl⟩:=mM;cases h with
   |pure h=>
    cases h with
    |agg cs _ _ h=>
     obtain⟨b',q1,q2⟩:=dF.rn hk pK (dF.tv (κ:=κ) h) hz;exact⟨b',.agg _ _ _ q1,q2⟩
  ·have e:d.O1 o=d.HC o:=by cases d<;>first|rfl|exact absurd ⟨_,rfl⟩ mM
   rw[e];obtain⟨b',q1,q2⟩:=qG.rn hk pK h hz;exact⟨b',.cell q1,q2⟩
 |agg cs ds bs h=>
  obtain⟨b',q1,q2⟩:=dF.rn hk pK h hz;exact⟨b',.agg _ _ _ q1,q2⟩
theorem tB.rn{vs:av}{ds:aG}{bs:aI}(h:tB w κ vs ds bs)(hz:∀b∈bs,Θ b=0):∃b',tB w κ' vs (ds.map (D.O1 o)) b'/\∀b∈b',Θ' b=0:=by
 induction h with
 |nil=>exact⟨[],.nil,by simp⟩
 |cons v vs d ds b1 b2 h2 _ ih=>
  obtain⟨c1,q1,q2⟩:=B5.rn hk pK h2 (fun b hb=>hz b (by simp[hb]));obtain⟨c2,p1,p2⟩:=ih (fun b hb=>hz b (by simp[hb]));refine⟨c1++c2,.cons _ _ _ _ _ _ q1 p1,fun b hb=>?_⟩;rcases aJ.1 hb with hb|hb
  ·exact q2 b hb
  ·exact p2 b hb
theorem lD.rn{v:Value}{d:D}{bs:aI}(h:lD w κ v d bs)(hz:∀b∈bs,Θ b=0):∃b',lD w κ' v (d.HD o) b'/\∀b∈b',Θ' b=0:=by
 cases h with
 |v h=>
  have hnt:∀vs,d≠ .iz vs:=by
   intro vs e;subst e;cases h with
   |cell h=>cases h with|pure h=>cases h
  have e:d.HD o=d.O1 o:=by cases d<;>first|rfl|exact absurd rfl (hnt _)
  rw[e];obtain⟨b',q1,q2⟩:=B5.rn hk pK h hz;exact⟨b',.v q1,q2⟩
 |iz vs ds bs h=>
  obtain⟨b',q1,q2⟩:=tB.rn hk pK h hz;exact⟨b',.iz _ _ _ q1,q2⟩
end
theorem KH(σ:List (Nat×D))(K:aI)(f:D->D)(t:Nat):lk (K.map fun t=>(t,f (lk σ t))) t=if t∈K then f (lk σ t)else .any:=by
 induction K with
 |nil=>simp[lk]
 |cons u K ih=>
  simp only[ax,lk];by_cases e:t=u
  ·subst e;simp
  ·rw[ai e,ih];simp[e]
theorem cR.td(hs:cR Γ st κ Θ a w)(K o:aI)(hnd:o.Nodup):∃κ' Θ',cR Γ (st.td K o) κ' Θ' a w:=by
 let κ':Nat->Option Value:=fun j=>(o[j]?).bind κ
 let Θ':Nat->Nat:=fun b=>if Θ b<=1 then Θ b else match pos o (Θ b-2)with|some j=>j+2|none=>1
 have pK:∀b,Θ b=0->Θ' b=0:=fun b h=>by simp[Θ',h]
 have hk:∀(i j:Nat) v,pos o i=some j->κ i=some v->κ' j=some v:=fun i j v h1 h2=>by simp[κ',DV h1,h2]
 have hk2:∀(i j:Nat),o[j]?=some i->κ' j=κ i:=fun i j h=>by simp[κ',h]
 have CD:∀b (i j:Nat),o[j]?=some i->Θ b=i+2->Θ' b=j+2:=by
  intro b i j hj h;simp only[Θ'];rw[ai (by omega),h,qY,G1 hnd hj]
 have key:∀(j:Nat) x,(st.td K o).H[j]?=some x->∃i,o[j]?=some i/\((st.H[i]?=none/\x=.gone)\/∃y,st.H[i]?=some y/\x=y.rn o):=by
  intro j x hj;simp only[St.td,bK]at hj;cases ho:o[j]? with
  |none=>simp[ho]at hj
  |some i=>
   simp only[ho,bW,aP]at hj;refine⟨i,rfl,?_⟩;cases hH:st.H[i]? with
   |none=>rw[hH]at hj;exact .inl ⟨rfl,hj.symm⟩
   |some y=>rw[hH]at hj;exact .inr ⟨y,rfl,hj.symm⟩
 obtain⟨ρ,hu⟩:=hs.mG;let ρ':Nat->Nat:=fun b=>if ρ b=0 then 0 else match pos o (ρ b-1)with|some j=>j+1|none=>0
 refine⟨κ',Θ',hs.defers,hs.size,?_,?_,?_,?_,?_,?_,?_,hs.stays,ρ',?_,?_,?_⟩
 ·intro i hi;simp only[St.td,ay]at hi;simp[κ',bY hi]
 ·intro i u o4;simp only[κ']at o4;cases ho:o[i]? with
  |none=>simp[ho]at o4
  |some j=>simp[ho]at o4;exact hs.jg j u o4
 ·intro t;show∃bs,lD w κ' _ (lk (K.map fun t=>(t,(lk st.σ t).HD o)) t) bs/\_;rw[KH st.σ K (fun d=>d.HD o) t];split
  ·obtain⟨bs,hr,hz⟩:=hs.slot t;exact lD.rn hk pK hr hz
  ·exact⟨[],.of (.any _),by simp⟩
 ·intro j x hj;obtain⟨i,ho,⟨_,rfl⟩|⟨y,hH,rfl⟩⟩:=key j x hj
  ·trivial
  ·have qS:=hs.ob i y hH;cases y with
   |gone=>trivial
   |hole=>trivial
   |tk rows=>
    obtain⟨v,bs,q1,q2,q3⟩:=qS;exact⟨v,bs,by rw[hk2 i j ho];exact q1,q2,fun b hb=>pK b (q3 b hb)⟩
   |tf e sz rows=>
    obtain⟨v,bs,q1,q2,q3⟩:=qS;exact⟨v,bs,by rw[hk2 i j ho];exact q1,q2,fun b hb=>pK b (q3 b hb)⟩
   |mp kv=>
    obtain⟨g,es,c,q1,q2,q3,q4⟩:=qS;exact⟨g,es,c,by rw[hk2 i j ho];exact q1,q2,CD g i j ho q3,q4⟩
   |oJ sz rows u=>
    obtain⟨q1,q0,v,bs,q2,q3,q4,q5⟩:=qS;exact⟨q1,fun x hx=>by rw[hk2 i j ho];exact q0 x hx,v,bs,by rw[hk2 i j ho];exact q2,q3,q4,fun b hb=>⟨CD b i j ho (q5 b hb).1,(q5 b hb).2⟩⟩
   |box cells=>
    obtain⟨g,cs,T,q1,q2,q3,bs,q4,q5⟩:=qS;obtain⟨b',p1,p2⟩:=dF.rn hk pK q4 q5;exact⟨g,cs,T,by rw[hk2 i j ho];exact q1,q2,CD g i j ho q3,b',p1,p2⟩
   |yB cells u=>
    obtain⟨q0,g,cs,T,q1,q2,q3,bs,q4,q5⟩:=qS;obtain⟨b',p1,p2⟩:=dF.rn hk pK q4 q5;exact⟨⟨by rw[hk2 i j ho];exact q0.1,q0.2.same q1 q2 (by rw[hk2 i j ho];exact q1) q2⟩,g,cs,T,by rw[hk2 i j ho];exact q1,q2,CD g i j ho q3,b',p1,p2⟩
   |row k e sz rows=>
    obtain⟨q1,q2,v,cs,bs,q3,q4,q5,q6,q7⟩:=qS;cases k with
    |ho p n=>exact trivial
    |_=>
    refine⟨q1,q2,v,cs,bs,by rw[hk2 i j ho];exact q3,q4,q5,fun g hg=>CD g i j ho (q6 g hg),?_⟩
    first
    |exact⟨q7.1,fun b hb=>⟨CD b i j ho (q7.2.1 b hb).1,(q7.2.1 b hb).2⟩,q7.2.2⟩
    |exact fun b hb=>pK b (q7 b hb)
 ·intro b hb;exact hs.own b (fun h=>hb (pK b h))
 ·intro b hb hx;obtain⟨h1,h2⟩:=hs.old b hb hx;simp only[Θ'];rw[bD h2];exact⟨h1,h2⟩
 ·intro b hb;refine hs.mine b ?_;simp only[Θ']at hb;split at hb<;>omega
 ·intro b hb;have hb':ρ b≠0:=fun h=>hb (by simp[ρ',h])
  obtain⟨h1,h2⟩:=hu.free b hb';exact⟨pK b h1,h2⟩
 ·intro j e sz rows hj;obtain⟨i,ho,⟨_,h⟩|⟨y,hH,h⟩⟩:=key j _ hj
  ·cases h
  ·have hy:y=.row .uq e sz rows:=by
    cases y with
    |row k2 e2 FA dK=>cases k2<;>simp only[Ob.rn,reduceCtorEq]at h<;>exact h.symm
    |_=>cases h
   subst hy;obtain⟨v,cs,bs,q1,q2,q3,q4,q5⟩:=hu.rows i e sz rows hH;refine⟨v,cs,bs,by rw[hk2 i j ho];exact q1,q2,q3,q4,fun b hb=>?_⟩;simp only[ρ'];rw[q5 b hb,ai (by omega),qY,G1 hnd ho]
 ·intro j x hj;obtain⟨i,ho,⟨_,h⟩|⟨y,hH,h⟩⟩:=key j _ hj
  ·subst h;trivial
  ·have hm:=hu.more i y hH;have P0:∀b,ρ b=i+1->ρ' b=j+1:=fun b hb=>by
    simp only[ρ'];rw[hb,ai (by omega),qY,G1 hnd ho]
   subst h;cases y with
   |tk rows=>
    obtain⟨v,bs,q1,q2,q3,q4⟩:=hm;exact⟨v,bs,by rw[hk2 i j ho];exact q1,q2,q3,fun b hb=>P0 b (q4 b hb)⟩
   |tf e sz rows=>
    obtain⟨v,bs,q1,q2,q0,q3,q4⟩:=hm;exact⟨v,bs,by rw[hk2 i j ho];exact q1,q2,q0,q3,fun b hb=>P0 b (q4 b hb)⟩
   |row k e sz rows=>
    cases k with
    |mv n=>
     obtain⟨v,cs,bs,q1,q2,q3,q4,q5⟩:=hm;exact⟨v,cs,bs,by rw[hk2 i j ho];exact q1,q2,q3,q4,fun b hb=>P0 b (q5 b hb)⟩
    |_=>trivial
   |_=>trivial
end
end Go.Cx
namespace Go.Cx
open Go.RowKit
abbrev Rw:=Nat×List (List D)
def Rw.ob(x:Rw)(v:Option Value):Ob:=.oJ x.1 x.2 v
def xA(w:World)(κ:Nat->Option Value):Nat->List Rw->aI->Prop
 |_,[],us=>us=[]
 |n,x::xs,us=>∃v bs OA,κ n=some v/\(∀r∈x.2,r.length=x.1)/\Rd w v (.sl x.2) bs/\us=bs++OA/\xA w κ (n+1) xs OA
def NF(P:Program)(f:FuncId)(ds:aG)(ins outs:List Rw)(d:D):Prop:=
 (∃fn,P.funcs[f]?=some fn/\fn.body.isSome=true/\(fn.name== "runtime.NumGoroutine")=false)/\outs.length=ins.length/\d.flat=true/\
 ∀(w:World) (κ:Nat->Option Value) (args:av) (us:aI),C2 w (fun b=>b∈us)->args.length=ds.length->(∀(i:Nat) d,ds[i]?=some d->∃v,args[i]?=some v/\lD w κ v d [])->
  (∀i,ins.length<=i->κ i=none)->(∀(i:Nat) u,κ i=some u->u.oneCell'=true)->xA w κ 0 ins us->us.Nodup->(∀b∈us,Wr w b)->
  Calls P f args.toArray w (fun e w'=>∃v OA,e=.returned v/\Rd w' v d []/\xA w' κ 0 outs OA/\OA.Nodup/\(∀b∈OA,(b∈us\/w.heap.size<=b)/\Wr w' b)/\
   w'.os=w.os/\w'.tape=w.tape/\w'.output=w.output/\w.heap.size<=w'.heap.size/\∀b,b<w.heap.size->b∉us->w'.heap[b]?=w.heap[b]?)
section
variable{P:Program}{Γ:nR}{Q:Exit->St->Prop}{st:St}{κ κ':Nat->Option Value}{Θ Θ':Nat->Nat}{a:Act}{w w':World}{all:Array Oper}{rest:List Oper}
theorem xA.parts:∀ {xs:List Rw} {n:Nat} {us:aI},xA w κ n xs us->∃L:List aI,L.length=xs.length/\us=L.flatten/\∀(i:Nat) x bs,xs[i]?=some x->L[i]?=some bs->∃v,κ (n+i)=some v/\(∀r∈x.2,r.length=x.1)/\Rd w v (.sl x.2) bs:=by
 intro xs
 induction xs with
 |nil=>intro n us h;exact⟨[],rfl,by simpa[xA]using h,by simp⟩
 |cons y ys ih=>
  intro n us h;obtain⟨v,bs,OA,h1,h2,h3,rfl,h5⟩:=h;obtain⟨L,q1,rfl,q3⟩:=ih h5;refine⟨bs::L,by simp[q1],by simp,?_⟩;intro i x b hx hb;cases i with
  |zero=>simp at hx hb;subst hx;subst hb;exact⟨v,h1,h2,h3⟩
  |succ i=>
   simp at hx hb;obtain⟨v',r1,r2,r3⟩:=q3 i x b hx hb;exact⟨v',by rw[<-r1];congr 1;omega,r2,r3⟩
theorem xA.of:∀ {xs:List Rw} {n:Nat} {L:List aI},L.length=xs.length->(∀(i:Nat) x bs,xs[i]?=some x->L[i]?=some bs->∃v,κ (n+i)=some v/\(∀r∈x.2,r.length=x.1)/\Rd w v (.sl x.2) bs)->xA w κ n xs L.flatten:=by
 intro xs
 induction xs with
 |nil=>
  intro n L hl _;have:L=[]:=br (by simpa using hl);subst this;rfl
 |cons y ys ih=>
  intro n L hl h;cases L with
  |nil=>simp at hl
  |cons bs L=>
   obtain⟨v,h1,h2,h3⟩:=h 0 y bs rfl rfl;refine⟨v,bs,L.flatten,h1,h2,h3,by simp,ih (by simpa using hl) ?_⟩;intro i x b hx hb;obtain⟨v',r1,r2,r3⟩:=h (i+1) x b (by simpa using hx) (by simpa using hb);exact⟨v',by rw[<-r1];congr 1;omega,r2,r3⟩
theorem cR.forget(hs:cR Γ st κ Θ a w)(ms:aI):cR Γ ⟨st.σ,kill st.H ms⟩ κ (fun b=>if ms.any (fun m=>Θ b==m+2)then st.H.length+2 else Θ b) a w:=by
 have h0:∀b,Θ b=0->(if ms.any (fun m=>Θ b==m+2)then st.H.length+2 else Θ b)=0:=by
  intro b hb;rw[ai,hb];intro h;obtain⟨m,_,hm⟩:=cB.1 h;simp[hb]at hm
 have hk:∀(j:Nat) o,(kill st.H ms)[j]?=some o->o=.gone\/(j∉ms/\st.H[j]?=some o):=fun j o h=>jH h
 have hold:∀b j,j∉ms->Θ b=j+2->(if ms.any (fun m=>Θ b==m+2)then st.H.length+2 else Θ b)=j+2:=by
  intro b j hj hb;rw[ai,hb];intro h;obtain⟨m,hm,he⟩:=cB.1 h;simp only[hb,bq]at he;exact hj (by
   have:j=m:=by omega
   rw[this];exact hm)
 obtain⟨ρ,hu⟩:=hs.mG;refine⟨hs.defers,hs.size,fun i hi=>hs.jx i (by simpa[dO]using hi),hs.jg,?_,?_,?_,?_,?_,hs.stays,ρ,?_,?_,?_⟩
 ·intro t;obtain⟨bs,hr,hz⟩:=hs.slot t;exact⟨bs,hr,fun b hb=>h0 b (hz b hb)⟩
 ·intro j o hj;rcases hk j o hj with rfl|⟨hn,hj'⟩
  ·trivial
  ·have qS:=hs.ob j o hj';cases o with
   |gone=>trivial
   |tk rows=>
    obtain⟨v,bs,q1,q2,q3⟩:=qS;exact⟨v,bs,q1,q2,fun b hb=>h0 b (q3 b hb)⟩
   |tf e sz rows=>
    obtain⟨v,bs,q1,q2,q3⟩:=qS;exact⟨v,bs,q1,q2,fun b hb=>h0 b (q3 b hb)⟩
   |box cells=>
    obtain⟨g,cs,T,q1,q2,q3,bs,q4,q5⟩:=qS;exact⟨g,cs,T,q1,q2,hold g j hn q3,bs,q4,fun b hb=>h0 b (q5 b hb)⟩
   |yB cells u=>
    obtain⟨q0,g,cs,T,q1,q2,q3,bs,q4,q5⟩:=qS;exact⟨q0,g,cs,T,q1,q2,hold g j hn q3,bs,q4,fun b hb=>h0 b (q5 b hb)⟩
   |row k e sz rows=>
    obtain⟨q1,q2,v,cs,bs,q3,q4,q5,q6,q7⟩:=qS;refine⟨q1,q2,v,cs,bs,q3,q4,q5,fun g hg=>hold g j hn (q6 g hg),?_⟩;cases k with
    |cl=>exact⟨q7.1,fun b hb=>⟨hold b j hn (q7.2.1 b hb).1,(q7.2.1 b hb).2⟩,q7.2.2⟩
    |sh=>exact fun b hb=>h0 b (q7 b hb)
    |uq=>exact fun b hb=>h0 b (q7 b hb)
    |mv n=>exact fun b hb=>h0 b (q7 b hb)
    |ho p n=>exact fun b hb=>h0 b (q7 b hb)
   |oJ sz rows u=>
    obtain⟨q1,q0,v,bs,q2,q3,q4,q5⟩:=qS;exact⟨q1,q0,v,bs,q2,q3,q4,fun b hb=>⟨hold b j hn (q5 b hb).1,(q5 b hb).2⟩⟩
   |hole sz rows u p n=>
    obtain⟨q1,q0,v,bs,q2,q3,q4,q5⟩:=qS;exact⟨q1,q0,v,bs,q2,q3,q4,fun b hb=>⟨hold b j hn (q5 b hb).1,(q5 b hb).2⟩⟩
   |mp kv=>
    obtain⟨g,es,c,q1,q2,q3,q4⟩:=qS;exact⟨g,es,c,q1,q2,hold g j hn q3,q4⟩
 ·intro b hb;refine hs.own b fun h=>hb ?_
  exact h0 b h
 ·intro b hb hx;obtain⟨h1,h2⟩:=hs.old b hb hx;have:(if ms.any (fun m=>Θ b==m+2)then st.H.length+2 else Θ b)=Θ b:=by
   rw[ai];intro h;obtain⟨m,_,hm⟩:=cB.1 h;simp only[bq]at hm;omega
  show(if ms.any (fun m=>Θ b==m+2)then st.H.length+2 else Θ b)=_/\(if ms.any (fun m=>Θ b==m+2)then st.H.length+2 else Θ b)<=1;rw[this];exact⟨h1,h2⟩
 ·intro b hb;refine hs.mine b ?_;by_cases h:ms.any (fun m=>Θ b==m+2)=true
  ·obtain⟨m,_,hm⟩:=cB.1 h;simp only[bq]at hm;omega
  ·simp only[h]at hb;simpa using hb
 ·intro b hb;obtain⟨h1,h2⟩:=hu.free b hb;exact⟨h0 b h1,h2⟩
 ·intro id e sz rows hj;rcases hk id _ hj with h|⟨_,h⟩
  ·cases h
  ·exact hu.rows id e sz rows h
 ·intro id o hj;rcases hk id _ hj with h|⟨_,h⟩
  ·subst h;trivial
  ·exact hu.more id o h
def lv(H:ah)(m:Nat):Option Value:=match H[m]? with|some (.oJ _ _ v)=>v|_=>none
def DW:ah->aI->List Rw->ah
 |H,m::ms,x::xs=>DW (H.set m (x.ob (lv H m))) ms xs
 |H,_,_=>H
theorem AS:∀(H:ah) (ms:aI) (xs:List Rw),(DW H ms xs).length=H.length:=by
 intro H ms
 induction ms generalizing H with
 |nil=>intro xs;cases xs<;>rfl
 |cons m ms ih=>intro xs;cases xs with|nil=>rfl|cons x xs=>simp[DW,ih]
theorem KZ:∀ {H:ah} {ms:aI} {xs:List Rw} {j:Nat} {y:Ob},ms.Nodup->xs.length=ms.length->(DW H ms xs)[j]?=some y->(∃(i:Nat) (x:Rw),ms[i]?=some j/\xs[i]?=some x/\y=x.ob (lv H j))\/(j∉ms/\H[j]?=some y):=by
 intro H ms
 induction ms generalizing H with
 |nil=>intro xs j y _ _ h;cases xs<;>exact .inr ⟨by simp,h⟩
 |cons m ms ih=>
  intro xs j y hnd hl h;cases xs with
  |nil=>simp at hl
  |cons x xs=>
   obtain⟨n1,n2⟩:=dV.1 hnd;rcases ih n2 (by simpa using hl) h with⟨i,z,h1,h2,h3⟩|⟨h1,h2⟩
   ·refine .inl ⟨i+1,z,by simpa using h1,by simpa using h2,?_⟩;rw[h3];have hne:m≠j:=fun e=>n1 (by rw[e];exact aD h1)
    simp only[lv,bE hne]
   ·rcases qQ j y h2 with⟨rfl,rfl⟩|⟨h3,h4⟩
    ·exact .inl ⟨0,x,rfl,rfl,rfl⟩
    ·exact .inr ⟨by simp[h1,h3],h4⟩
def BV(H:ah):aI->Option (List Rw)
 | []=>some []
 |m::ms=>match H[m]?,BV H ms with|some (.oJ sz rows _),some xs=>some ((sz,rows)::xs)|_,_=>none
theorem Fp{H:ah}:∀ {ms:aI} {xs:List Rw},BV H ms=some xs->xs.length=ms.length/\∀(i m:Nat) x,ms[i]?=some m->xs[i]?=some x->∃v,H[m]?=some (x.ob v):=by
 intro ms
 induction ms with
 |nil=>intro xs h;cases h;simp
 |cons m ms ih=>
  intro xs h;simp only[BV]at h;split at h
  ·rename_i sz rows u ys h1 h2;cases h;obtain⟨q1,q2⟩:=ih h2;refine⟨by simp[q1],?_⟩;intro i m' x hm hx;cases i with
   |zero=>simp at hm hx;subst hm;subst hx;exact⟨u,h1⟩
   |succ i=>exact q2 i m' x (by simpa using hm) (by simpa using hx)
  ·cases h
def D.xC(d:D):Bool:=match d with
 | .acc _=>true
 |d=>d.flat
def D.bare(d:D):Bool:=match d with
 | .agg cs=>cs.all D.xC
 |d=>d.xC
theorem qG.As{v:Value}{d:D}{bs:aI}(h:qG w κ v d bs)(hf:d.xC=true):bs=[]:=by
 cases h with
 |pure h=>
  refine h.flat ?_;cases h<;>exact hf
 |_=>rfl
theorem dF.As{vs:av}{ds:aG}{bs:aI}(h:dF w κ vs ds bs)(hf:ds.all D.xC=true):bs=[]:=by
 induction h with
 |nil=>rfl
 |cons v vs d ds b1 b2 h1 h2 _ ih=>
  simp only[cv,aL]at hf;rw[h2.As hf.1,ih hf.2];rfl
theorem lD.Ga{v:Value}{d:D}{bs:aI}(h:lD w κ v d bs)(hf:d.bare=true):bs=[]:=by
 cases h with
 |v h=>
  cases h with
  |cell h=>
   cases h with
   |pure h=>
    cases h with
    |agg cs ds _ h=>exact dF.As (dF.tv (κ:=κ) h) hf
    |_=>first|rfl|exact absurd hf (by simp[D.bare,D.xC,D.flat])
   |_=>rfl
  |agg cs ds bs h=>exact h.As hf
 |iz=>simp[D.bare,D.xC,D.flat]at hf
theorem D.JE(o:aI){c:D}(h:c.xC=true):(c.HC o).xC=true:=by
 cases c with
 |acc m=>simp only[D.HC];cases pos o m<;>rfl
 |_=>first|exact h| (simp[D.xC,D.flat]at h)
theorem D.Gb(o:aI){d:D}(h:d.bare=true):(d.HD o).bare=true:=by
 cases d with
 |agg cs=>
  simp only[D.HD,D.O1,D.bare,yF]at h⊢;rw[aR]at h⊢;intro c hcm;exact D.JE o (h c hcm)
 |acc m=>simp only[D.HD,D.O1,D.HC];cases pos o m<;>rfl
 |_=>first|exact h| (simp[D.bare,D.xC,D.flat]at h)
theorem EK{L:List aI}(h:L.flatten.Nodup):∀(i j:Nat) x y b,L[i]?=some x->L[j]?=some y->b∈x->b∈y->i=j:=by
 intro i j x y b hi hj hx hy;have:=nu (f:=fun l:aI=>l) (l:=L) (by simpa[List.flatMap_id]using h);exact this i j x y b hi hj hx hy
theorem FT{L:List aI}(h:L.flatten.Nodup):∀x∈L,x.Nodup:=by
 induction L with
 |nil=>intro x hx;cases hx
 |cons y L ih=>
  intro x hx;simp only[dB]at h;obtain⟨h1,h2,_⟩:=aY.1 h;rcases aq.1 hx with rfl|hx
  ·exact h1
  ·exact ih h2 x hx
theorem CE:∀ {L:List aI},(∀x∈L,x.Nodup)->(∀(i j:Nat) x y b,L[i]?=some x->L[j]?=some y->b∈x->b∈y->i=j)->L.flatten.Nodup:=by
 intro L
 induction L with
 |nil=>intro _ _;simp
 |cons y L ih=>
  intro h1 h2;simp only[dB];refine aY.2 ⟨h1 y (by simp),ih (fun x hx=>h1 x (by simp[hx])) (fun i j x z b hi hj hx hz=>?_),?_⟩
  ·have:=h2 (i+1) (j+1) x z b (by simpa using hi) (by simpa using hj) hx hz;omega
  ·intro b hb c hc e;subst e;obtain⟨x,hx,sF⟩:=dZ.1 hc;obtain⟨j,hj⟩:=ec hx;have:=h2 0 (j+1) y x b rfl (by simpa using hj) hb sF;omega
theorem Iy{o:Oper}{f t:Nat}{xs:Array Operand}{ts:Array TypeId}{ms:aI}{ins outs:List Rw}{d:D}(hop:o.op=.call {callee:=.value (.func f),args:=xs,argTypes:=ts})(hd:o.dst=some t)(hg:o.guard=none)
 (ht:t<Γ.nt) (hnd:ms.Nodup) (hins:BV st.H ms=some ins) (hb:((xs.toList.map st.ev).all D.bare)=true) (ir:NF P f ((xs.toList.map st.ev).map (D.HD ms)) ins outs d)
 (h:AO P Γ all rest Q ⟨(t,d)::st.σ,DW st.H ms outs⟩):AO P Γ all (o::rest) Q st:=by
 intro κ Θ a w hs;obtain⟨Hv,WU⟩:=Fp hins;obtain⟨hfn,Xc,hfl,Qr⟩:=ir;let κc:Nat->Option Value:=fun j=>(ms[j]?).bind κ
 have hkc:∀(i m:Nat),ms[i]?=some m->κc i=κ m:=fun i m h=>by simp[κc,h]
 have qS:∀(i m:Nat) x,ms[i]?=some m->ins[i]?=some x->∃v bs,κ m=some v/\(∀r∈x.2,r.length=x.1)/\Rd w v (.sl x.2) bs/\bs.Nodup/\∀b∈bs,Θ b=m+2/\Wr w b:=by
  intro i m x hm hx;obtain⟨u,hu⟩:=WU i m x hm hx;obtain⟨q1,_,v,bs,q2,q3,q4,q5⟩:=hs.ob m _ hu;exact⟨v,bs,q2,q1,q3,q4,q5⟩
 have hL:∃L:List aI,L.length=ins.length/\∀(i m:Nat) x bs,ms[i]?=some m->ins[i]?=some x->L[i]?=some bs->(∃v,κ m=some v/\(∀r∈x.2,r.length=x.1)/\Rd w v (.sl x.2) bs)/\bs.Nodup/\∀b∈bs,Θ b=m+2/\Wr w b:=by
  have key:∀(ms:aI) (ins:List Rw),ins.length=ms.length->(∀(i m:Nat) x,ms[i]?=some m->ins[i]?=some x->∃v bs,κ m=some v/\(∀r∈x.2,r.length=x.1)/\Rd w v (.sl x.2) bs/\bs.Nodup/\∀b∈bs,Θ b=m+2/\Wr w b)->
   ∃L:List aI,L.length=ins.length/\∀(i m:Nat) x bs,ms[i]?=some m->ins[i]?=some x->L[i]?=some bs->(∃v,κ m=some v/\(∀r∈x.2,r.length=x.1)/\Rd w v (.sl x.2) bs)/\bs.Nodup/\∀b∈bs,Θ b=m+2/\Wr w b:=by
   intro ms
   induction ms with
   |nil=>intro ins hl _;exact⟨[],by simpa using hl.symm,by simp⟩
   |cons m ms ih=>
    intro ins hl qS;cases ins with
    |nil=>simp at hl
    |cons x ins=>
     obtain⟨L,q1,q2⟩:=ih ins (by simpa using hl) (fun i m' x' hm hx=>qS (i+1) m' x' (by simpa using hm) (by simpa using hx));obtain⟨v,bs,r1,r2,r3,r4,r5⟩:=qS 0 m x rfl rfl;refine⟨bs::L,by simp[q1],?_⟩;intro i m' x' b hm hx hb;cases i with
     |zero=>simp at hm hx hb;subst hm;subst hx;subst hb;exact⟨⟨v,r1,r2,r3⟩,r4,r5⟩
     |succ i=>exact q2 i m' x' b (by simpa using hm) (by simpa using hx) (by simpa using hb)
  exact key ms ins Hv qS
 obtain⟨L,Us,OS⟩:=hL;have Oh:∀(i:Nat) bs,L[i]?=some bs->∃m x,ms[i]?=some m/\ins[i]?=some x:=by
  intro i bs hb';have hlt:=(aB.1 hb').1;exact⟨_,_,aM (by omega),aM (by omega)⟩
 have hmem:∀b∈L.flatten,∃m∈ms,Θ b=m+2:=by
  intro b hb';obtain⟨x,hx,sF⟩:=dZ.1 hb';obtain⟨i,hi⟩:=ec hx;obtain⟨m,y,h1,h2⟩:=Oh i x hi;exact⟨m,aD h1,((OS i m y x h1 h2 hi).2.2 b sF).1⟩
 have mN:L.flatten.Nodup:=by
  refine CE (fun x hx=>?_) (fun i j x y b hi hj hx hy=>?_)
  ·obtain⟨i,hi⟩:=ec hx;obtain⟨m,y,h1,h2⟩:=Oh i x hi;exact(OS i m y x h1 h2 hi).2.1
  ·obtain⟨m1,y1,h1,h2⟩:=Oh i x hi;obtain⟨m2,y2,h3,h4⟩:=Oh j y hj;have e1:=((OS i m1 y1 x h1 h2 hi).2.2 b hx).1;have e2:=((OS j m2 y2 y h3 h4 hj).2.2 b hy).1;have:m1=m2:=by omega
   subst this;exact Cb hnd i j m1 h1 h3
 have Of:xA w κc 0 ins L.flatten:=xA.of Us (fun i x bs hx hb'=>by
  obtain⟨m,y,h1,h2⟩:=Oh i bs hb';rw[hx]at h2;cases h2;obtain⟨⟨v,q1,q2,q3⟩,_⟩:=OS i m x bs h1 hx hb';exact⟨v,by rw[cC,hkc i m h1];exact q1,q2,q3⟩)
 have hwr:∀b∈L.flatten,Wr w b:=by
  intro b hb';obtain⟨x,hx,sF⟩:=dZ.1 hb';obtain⟨i,hi⟩:=ec hx;obtain⟨m,y,h1,h2⟩:=Oh i x hi;exact((OS i m y x h1 h2 hi).2.2 b sF).2
 have hargs:∀(i:Nat) d,((xs.toList.map st.ev).map (D.HD ms))[i]?=some d->∃v,(xs.toList.map a.eval)[i]?=some v/\lD w κc v d []:=by
  intro i d xz;rw[bK,bK]at xz;cases hx:xs.toList[i]? with
  |none=>rw[hx]at xz;cases xz
  |some x=>
   rw[hx]at xz;simp only[bW,aP]at xz;subst xz;refine⟨a.eval x,by rw[bK,hx];rfl,?_⟩;obtain⟨bs,r,hz⟩:=hs.ev x;have JS:(st.ev x).bare=true:=aR.1 hb _ (cE.2 ⟨x,aD hx,rfl⟩);obtain⟨b',r',_⟩:=lD.rn (o:=ms) (κ':=κc) (Θ:=fun _=>0) (Θ':=fun _=>0) (fun i j v h1 h2=>by simp[κc,DV h1,h2]) (fun _ _=>rfl) r (fun _ _=>rfl);have:=r'.Ga (D.Gb ms JS);subst this;exact r'
 have Fg:C2 w fun b=>b∈L.flatten:=by
  obtain⟨B,v1,v2⟩:=hs.QO;refine⟨B,v1,fun b hB=>⟨(v2 b hB).2.1,fun hb'=>?_⟩⟩;obtain⟨x,hx,sF⟩:=dZ.1 hb';obtain⟨i,hi⟩:=ec hx;obtain⟨m,y,h1,h2⟩:=Oh i x hi;have e1:=((OS i m y x h1 h2 hi).2.2 b sF).1;rcases hs.mine b (by omega)with q|q
  ·have:=(v2 b hB).1;omega
  ·exact(v2 b hB).2.2 q
 have hc:=Qr w κc (xs.toList.map a.eval) L.flatten Fg (by simp) hargs (fun i hi=>by simp[κc,bY (by omega:ms.length<=i)]) (fun i u hu=>by
  simp only[κc]at hu;cases hm:ms[i]? with
  |none=>rw[hm]at hu;cases hu
  |some m=>rw[hm]at hu;exact hs.jg m u hu) Of mN hwr
 refine wpList_plain hg fun K hK=>?_
 unfold Oper.wp;rw[oK hop hfn,Oper.upon_enter];have e:xs.map a.eval=(xs.toList.map a.eval).toArray:=by rw[<-eU,gD]
 rw[e];refine hc.mono ?_;rintro e w' ⟨v,OA,rfl,hv,hl',wo,C8,k1,k2,k3,k4,k5⟩;show K (a.put o.dst v) w';rw[hd];obtain⟨L',Vz,rfl,TJ⟩:=hl'.parts;have Wa:∀(i:Nat) bs,L'[i]?=some bs->∃m x,ms[i]?=some m/\outs[i]?=some x:=by
  intro i bs hb';have hlt:=(aB.1 hb').1;exact⟨_,_,aM (by omega),aM (by omega)⟩
 have hs1:=hs.forget ms;let Θ1:Nat->Nat:=fun b=>if ms.any (fun m=>Θ b==m+2)then st.H.length+2 else Θ b
 have RQ:∀b,b∈L.flatten->Θ1 b=st.H.length+2:=by
  intro b hb';obtain⟨m,hm,he⟩:=hmem b hb';simp only[Θ1];rw[bD (cB.2 ⟨m,hm,by simp[he]⟩)]
 let Θ2:Nat->Nat:=fun b=>match ix (fun x:aI=>x.contains b) L' with|some i=>(match ms[i]? with|some m=>m+2|none=>1)|none=>if Θ1 b=st.H.length+2 then 1 else Θ1 b
 have UJ:∀(i m:Nat) bs b,ms[i]?=some m->L'[i]?=some bs->b∈bs->Θ2 b=m+2:=by
  intro i m bs b hm hi hb';have:ix (fun x:aI=>x.contains b) L'=some i:=vf hi (by simpa using hb') (fun j y hj hy=>EK wo j i y bs b hj hi (by simpa using hy) hb');simp only[Θ2,this,hm]
 have Ju:∀b,b∉L'.flatten->Θ2 b=if Θ1 b=st.H.length+2 then 1 else Θ1 b:=by
  intro b hb';simp only[Θ2];cases h:ix (fun x:aI=>x.contains b) L' with
  |none=>rfl
  |some i=>
   obtain⟨x,hx,hp⟩:=qM h;exact absurd (dZ.2 ⟨x,aD hx,by simpa using hp⟩) hb'
 have hlt':∀b∈L'.flatten,b<w'.heap.size:=fun b hb'=>by
  obtain⟨cs,T,hx⟩:=(C8 b hb').2;exact(aV.1 hx).1
 have kk:ed w w' Θ1 Θ2 (st.H.length+2):=by
  refine⟨by omega,k1,k2,k3,k4,fun b hlt hne=>k5 b hlt fun hb'=>hne (RQ b hb'),fun b hlt hne=>?_,fun b hb'=>?_⟩
  ·by_cases hin:b∈L'.flatten
   ·rcases(C8 b hin).1 with h'|h'
    ·exact absurd (RQ b h') hne
    ·omega
   ·rw[Ju b hin,ai hne]
  ·by_cases hin:b∈L'.flatten
   ·exact hlt' b hin
   ·rw[Ju b hin]at hb';refine cF (hs1.own b ?_) k4;intro h0;have h0':Θ1 b=0:=h0;rw[h0']at hb';rw[ai (by omega)]at hb';exact hb' rfl
 have hm2:∀b,2<=Θ2 b->qF Γ b:=by
  intro b hb';by_cases hin:b∈L'.flatten
  ·rcases(C8 b hin).1 with h'|h'
   ·obtain⟨m,_,he⟩:=hmem b h';exact hs.mine b (by omega)
   ·exact .inl (fc hs.base h')
  ·rw[Ju b hin]at hb';split at hb'
   ·omega
   ·exact hs1.mine b hb'
 obtain⟨ρ,hu⟩:=hs1.mG;have Ow:=hs1.jI kk (κ':=κ) (fun _ _ h=>h) hu;have R3:(kill st.H ms).length=st.H.length:=dO _ _;have hpk:∀(j:Nat) y,(DW st.H ms outs)[j]?=some y->(∃(i:Nat) (x:Rw),ms[i]?=some j/\outs[i]?=some x/\y=x.ob (lv st.H j))\/(j∉ms/\(kill st.H ms)[j]?=some y):=by
  intro j y hj;rcases KZ hnd (by omega) hj with h'|⟨h1,h2⟩
  ·exact .inl h'
  ·exact .inr ⟨h1,by rw[cU h1];exact h2⟩
 have BP:∀(j:Nat) y,(DW st.H ms outs)[j]?=some y->j+2≠st.H.length+2:=fun j y hj=>by
  have:=(aB.1 hj).1;rw[AS]at this;omega
 have hs2:cR Γ ⟨st.σ,DW st.H ms outs⟩ κ Θ2 a w':=by
  refine hs1.step kk hm2 (fun _ _ h=>h) (fun i hi=>hs.jx i (by rw[AS]at hi;exact hi)) hs.jg ?_ ⟨ρ,Ow.1,?_,?_⟩
  ·intro j y hj;have hjl:=BP j y hj;rcases hpk j y hj with⟨i,x,h1,h2,rfl⟩|⟨_,h2⟩
   ·right;right
    have Q8:∃bs,L'[i]?=some bs:=⟨_,aM (by have:=(aB.1 h2).1;omega)⟩
    obtain⟨bs,Q8⟩:=Q8;obtain⟨v',q1,q2,q3⟩:=TJ i x bs h2 Q8;rw[cC,hkc i j h1]at q1;refine⟨q2,fun x hx=>?_,v',bs,q1,q3,FT wo bs (aD Q8),fun b hb'=>⟨UJ i j bs b h1 Q8 hb',(C8 b (dZ.2 ⟨bs,aD Q8,hb'⟩)).2⟩⟩;unfold lv at hx;split at hx
    ·rename_i Xi VK u0 Ql;subst hx;obtain⟨_,q0,_⟩:=hs.ob j _ Ql;exact q0 x rfl
    ·cases hx
   ·exact .inr (.inl ⟨hjl,h2⟩)
  ·intro id e' sz' cc hj;have hjl:=BP id _ hj;rcases hpk id _ hj with⟨i,x,h1,h2,h3⟩|⟨_,h2⟩
   ·simp[Rw.ob]at h3
   ·exact Ow.2.1 id e' sz' cc hjl h2
  ·intro id y hj;have hjl:=BP id _ hj;rcases hpk id _ hj with⟨i,x,h1,h2,h3⟩|⟨_,h2⟩
   ·subst h3;exact Bv.vn rfl
   ·exact Ow.2.2 id y hjl h2
 have l7:lD w' κ v d []:=.of hv;exact hK _ _ (h κ Θ2 _ w' (hs2.set (t:=t) ht l7 (by simp)))
def Ob.close:Ob->Ob
 | .row _ _ sz rows=>.oJ sz rows none
 |o=>o
theorem cR.Hz(hs:cR Γ st κ Θ a w)(hb:Below w.heap.size w w')(L:jC)(hL:∀x∈L,x.ok w')(hnd:(L.flatMap Fs.bl).Nodup)(hfr:∀b∈L.flatMap Fs.bl,w.heap.size<=b/\Wr w' b)(hvs:∀x∈L,x.sh=true->x.vs=[]):
 ∃κ' Θ',cR Γ ⟨st.σ,st.H++(L.map Fs.ob).map Ob.close⟩ κ' Θ' a w'/\Names κ' st.H.length L:=by
 let n:=st.H.length
 let κ':Nat->Option Value:=fun j=>if j<n\/n+L.length<=j then κ j else(L[j-n]?).map Fs.v
 let Θ':Nat->Nat:=fun b=>match ix (fun x:Fs=>x.bl.contains b) L with|some i=>n+i+2|none=>Θ b
 have hu1:∀(i j:Nat) x y b,L[i]?=some x->L[j]?=some y->b∈x.bl->b∈y.bl->i=j:=fun i j x y b=>nu hnd i j x y b
 have hts:∀(i:Nat) x b,L[i]?=some x->b∈x.bl->Θ' b=n+i+2:=by
  intro i x b hi Il;have:ix (fun x:Fs=>x.bl.contains b) L=some i:=vf hi (by simpa using Il) (fun j y hj hy=>hu1 j i y x b hj hi (by simpa using hy) Il);simp only[Θ',this]
 have hno:∀b,b∉L.flatMap Fs.bl->Θ' b=Θ b:=by
  intro b hb';simp only[Θ'];cases h:ix (fun x:Fs=>x.bl.contains b) L with
  |none=>rfl
  |some i=>
   obtain⟨x,hx,hp⟩:=qM h;exact absurd (bQ.2 ⟨x,aD hx,by simpa using hp⟩) hb'
 have hold:∀b,b<w.heap.size->Θ' b=Θ b:=fun b hlt=>hno b (fun h=>by have:=(hfr b h).1;omega)
 have hn:∀(j:Nat) v,κ j=some v->κ' j=some v:=by
  intro j v hj;have:j<n:=by
   rcases cP j n with h|h
   ·exact h
   ·have:=hs.jx j h;rw[hj]at this;cases this
  simp only[κ'];rw[bD (.inl this)];exact hj
 have nZ:Names κ' n L:=by
  intro i x hx;have hlt:=(aB.1 hx).1;simp only[κ'];rw[ai (by omega),cK,hx];rfl
 have hlen:(st.H++(L.map Fs.ob).map Ob.close).length=n+L.length:=by simp[n]
 have k:ed w w' Θ Θ' (n+L.length+2):=by
  refine⟨by omega,hb.os,hb.tape,hb.output,hb.size,fun b hlt _=>hb.block b hlt,fun b hlt _=>hold b hlt,fun b h=>?_⟩;by_cases hin:b∈L.flatMap Fs.bl
  ·obtain⟨cs,T,hx⟩:=(hfr b hin).2;exact(aV.1 hx).1
  ·rw[hno b hin]at h;exact cF (hs.own b h) hb.size
 have hm:∀b,2<=Θ' b->qF Γ b:=by
  intro b h;by_cases hin:b∈L.flatMap Fs.bl
  ·exact .inl (fc hs.base (hfr b hin).1)
  ·rw[hno b hin]at h;exact hs.mine b h
 have key:∀(j:Nat) y,(st.H++(L.map Fs.ob).map Ob.close)[j]?=some y->(∃i x,j=n+i/\L[i]?=some x/\y=.oJ x.sz x.rows none)\/(j<n/\st.H[j]?=some y):=by
  intro j y hj;by_cases hlt:j<st.H.length
  ·rw[aS hlt]at hj;exact .inr ⟨hlt,hj⟩
  ·rw[aU (by omega),bK,bK]at hj;cases hx:L[j-st.H.length]? with
   |none=>simp[hx]at hj
   |some x=>simp[hx]at hj;exact .inl ⟨j-st.H.length,x,by omega,hx,hj.symm⟩
 have BP:∀(j:Nat) y,(st.H++(L.map Fs.ob).map Ob.close)[j]?=some y->j+2≠n+L.length+2:=fun j y hj=>by
  have:=(aB.1 hj).1;omega
 obtain⟨ρ,hu⟩:=hs.mG;have mN:=hs.jI k hn hu;refine⟨κ',Θ',hs.step k hm hn (fun i hi=>?_) (fun i u o4=>?_) (fun j y hj=>?_) ⟨ρ,mN.1,fun id e sz rows hj=>?_,fun id y hj=>?_⟩,nZ⟩
 ·rw[hlen]at hi;simp only[κ'];rw[bD (by omega)];exact hs.jx i (by omega)
 ·simp only[κ']at o4;split at o4
  ·exact hs.jg i u o4
  ·cases hx:L[i-n]? with
   |none=>simp[hx]at o4
   |some x=>simp[hx]at o4;subst o4;exact(hL x (aD hx)).2.2.2.2
 ·have hjl:=BP j y hj;rcases key j y hj with⟨i,x,rfl,hx,rfl⟩|⟨hlt,hy⟩
  ·right;right
   obtain⟨q1,q2,q3,q4,_⟩:=hL x (aD hx);have zz:x.bl.Nodup:=by
    have:∀(l:jC),(l.flatMap Fs.bl).Nodup->∀x∈l,x.bl.Nodup:=by
     intro l
     induction l with
     |nil=>intro _ x hx;cases hx
     |cons z r ih=>
      intro hnd x hx;simp only[fS]at hnd;obtain⟨n1,n2,_⟩:=aY.1 hnd;rcases aq.1 hx with rfl|hx
      ·exact n1
      ·exact ih n2 x hx
    exact this L hnd x (aD hx)
   have Ic:∃bb,Rd w' x.v (.sl x.rows) bb/\bb.Nodup/\∀b∈bb,b∈x.bl:=by
    unfold Fs.rs at q4;cases U7:x.sh with
    |false=>rw[U7]at q4;exact⟨x.bl,lK q2 q3 q4.rd,zz,fun _ h=>h⟩
    |true=>
     rw[U7,hvs x (aD hx) U7]at q4;exact⟨_,lK q2 q3 q4.rd,by cases x.v.ownBlock<;>simp,fun b hb'=>aJ.2 (.inl (by simpa using hb'))⟩
   obtain⟨bb,r1,r2,r3⟩:=Ic;exact⟨q2,by simp,x.v,bb,nZ i x hx,r1,r2,fun b hb'=>⟨hts i x b hx (r3 b hb'),(hfr b (bQ.2 ⟨x,aD hx,r3 b hb'⟩)).2⟩⟩
  ·exact .inr (.inl ⟨hjl,hy⟩)
 ·have hjl:=BP id _ hj;rcases key id _ hj with⟨i,x,_,_,h⟩|⟨hlt,hy⟩
  ·cases h
  ·exact mN.2.1 id e sz rows hjl hy
 ·have hjl:=BP id _ hj;rcases key id _ hj with⟨i,x,_,_,h⟩|⟨hlt,hy⟩
  ·subst h;exact Bv.vn rfl
  ·exact mN.2.2 id y hjl hy
theorem Ir{o:Oper}{f t:Nat}{xs:Array Operand}{ts:Array TypeId}{ds:aG}{ms:aI}{d:D}(hop:o.op=.call {callee:=.value (.func f),args:=xs,argTypes:=ts})(hd:o.dst=some t)(hg:o.guard=none)
 (ht:t<Γ.nt) (hds:wu st.H (xs.toList.map st.ev)=some (ds,ms)) (hown:d.Bg=true) (ir:Good P f ds d)
 (h:AO P Γ all rest Q ⟨(t,(jG st.H.length d).1)::st.σ,st.H++(jG st.H.length d).2.map Ob.close⟩):AO P Γ all (o::rest) Q st:=by
 intro κ Θ a w hs;obtain⟨bs,hargs,hz⟩:=B1 hs hds;let Θc:Nat->Nat:=fun b=>if Θ b=0\/ms.any (fun m=>Θ b==m+2)then 0 else 1
 have AK:∀b,Seen Θ ms b->Θc b=0:=by
  intro b h;simp only[Θc];rw[bD];rcases h with h|⟨m,h1,h2⟩
  ·exact .inl h
  ·exact .inr (cB.2 ⟨m,h1,by simp[h2]⟩)
 have hc:=ir.2 w Θc _ bs hs.QN hargs (fun b hb=>AK b (hz b hb)) (fun b hb=>hs.own b (fun e=>hb (AK b (.inl e)))) (fun b=>by simp only[Θc];split<;>omega);refine wpList_plain hg fun K hK=>?_
 unfold Oper.wp;rw[oK hop ir.1,Oper.upon_enter];have e:xs.map a.eval=(xs.toList.map a.eval).toArray:=by rw[<-eU,gD]
 rw[e];refine hc.mono ?_;rintro e w' ⟨v,bs',tb,ub,rfl,hb,hr,Bx,htb,hnd,hfr,hsub⟩;show K (a.put o.dst v) w';rw[hd];obtain⟨L,q1,q2,q3,q4,q6,q5⟩:=hr.inst st.H.length;have uU:bs'=[]:=hr.own hown;obtain⟨κ',Θ',hs',hnm⟩:=hs.Hz hb L q2 (q3▸hnd) (fun b hb'=>hfr b (q3▸hb')) (fun x hx hx'=>by have:=q6 x hx hx';rw[uU]at this;exact dY.2 fun b hb'=>by cases this b hb');obtain⟨b0,Ii,BQ⟩:=q5 κ' hnm;rw[q1]at hs';refine hK _ _ (h κ' Θ' _ w' (hs'.set (t:=t) ht Ii fun b hb'=>?_));have hb':=BQ b hb';rw[uU]at hb';cases hb'
end
end Go.Cx
namespace Go.Cx
open Go.RowKit
section
variable{P:Program}{Γ:nR}{Q:Exit->St->Prop}{st:St}{κ κ':Nat->Option Value}{Θ Θ':Nat->Nat}{a:Act}{w w':World}{all:Array Oper}{rest:List Oper}
theorem cR.G8(hs:cR Γ st κ Θ a w)(ms:aI){H':ah}(h1:w'.os=w.os)(h2:w'.tape=w.tape)(h3:w'.output=w.output)(h4:w.heap.size<=w'.heap.size)
 (BM:∀b,b<w.heap.size->(∀m∈ms,Θ b≠m+2)->w'.heap[b]?=w.heap[b]?) (On:∀b,b<w.heap.size->(∀m∈ms,Θ b≠m+2)->Θ' b=Θ b) (hown:∀b,Θ' b≠0->b<w'.heap.size)
 (hm:∀b,2<=Θ' b->qF Γ b) (hn:∀(j:Nat) v,κ j=some v->κ' j=some v) (R4:∀i,H'.length<=i->κ' i=none) (hk1:∀(i:Nat) u,κ' i=some u->u.oneCell'=true)
 (qS:∀(j:Nat) y,H'[j]?=some y->y=.gone\/(j∉ms/\st.H[j]?=some y)\/(nh w' κ' Θ' j y/\y.GO=false)):cR Γ ⟨st.σ,H'⟩ κ' Θ' a w':=by
 have hs1:=hs.forget ms;have hin:∀b,(ms.any (fun m=>Θ b==m+2))=false->∀m∈ms,Θ b≠m+2:=by
  intro b h m hm' he;have:ms.any (fun m=>Θ b==m+2)=true:=cB.2 ⟨m,hm',by simp[he]⟩;rw[h]at this;cases this
 have hlt2:∀b,(if ms.any (fun m=>Θ b==m+2)then st.H.length+2 else Θ b)≠st.H.length+2->(ms.any (fun m=>Θ b==m+2))=false:=by
  intro b h;cases hc:ms.any (fun m=>Θ b==m+2)with
  |false=>rfl
  |true=>simp[hc]at h
 have kk:ed w w' (fun b=>if ms.any (fun m=>Θ b==m+2)then st.H.length+2 else Θ b) Θ' (st.H.length+2):=by
  refine⟨by omega,h1,h2,h3,h4,fun b hb hne=>BM b hb (hin b (hlt2 b hne)),fun b hb hne=>?_,hown⟩;have hc:=hlt2 b hne;rw[On b hb (hin b hc)];simp[hc]
 obtain⟨ρ,hu⟩:=hs1.mG;have mN:=hs1.jI kk hn hu;refine hs1.step kk hm hn R4 hk1 (fun j y hj=>?_) ⟨ρ,mN.1,fun id e sz rows hj=>?_,fun id y hj=>?_⟩
 ·rcases qS j y hj with h|⟨h,hy⟩|⟨h,_⟩
  ·exact .inl h
  ·have:=(aB.1 hy).1;exact .inr (.inl ⟨by omega,by rw[cU h];exact hy⟩)
  ·exact .inr (.inr h)
 ·rcases qS id _ hj with h|⟨h,hy⟩|⟨_,h⟩
  ·cases h
  ·have:=(aB.1 hy).1;exact mN.2.1 id e sz rows (by omega) (by rw[cU h];exact hy)
  ·simp[Ob.GO]at h
 ·rcases qS id _ hj with h|⟨h,hy⟩|⟨_,h⟩
  ·subst h;trivial
  ·have:=(aB.1 hy).1;exact mN.2.2 id y (by omega) (by rw[cU h];exact hy)
  ·exact Bv.plain h
theorem Rd.Po{v:Value}{rows:List aG}{bs:aI}(h:Rd w v (.sl rows) bs):(∃q c,v=.slice q rows.length c)/\rows.length<=maxLen:=by
 cases h with
 |qD=>exact⟨⟨_,_,rfl⟩,by simp⟩
 |jP=>exact⟨⟨_,_,rfl⟩,by simp⟩
 |sl b off cap sz _ cs bs hb h1 h2=>exact⟨⟨_,_,rfl⟩,by omega⟩
theorem Lo{o:Oper}{t T id sz:Nat}{x:Operand}{rows:List aG}{u:Option Value}(hop:o.op=.call {callee:=.builtin .len,args:= #[x],argTypes:= #[T]})(hd:o.dst=some t)(hg:o.guard=none)(ht:t<Γ.nt)
 (hT:(wE P T).isSome=true) (hx:st.ev x=.acc id) (hH:st.H[id]?=some (.oJ sz rows u)) (h:AO P Γ all rest Q ⟨(t,.int .i64 rows.length)::st.σ,st.H⟩):AO P Γ all (o::rest) Q st:=by
 intro κ Θ a w hs;obtain⟨b1,r1,_⟩:=hs.ev x;rw[hx]at r1;obtain⟨hk,_⟩:=r1.nS;obtain⟨_,_,v,bs,hk2,hrd,_⟩:=hs.ob id _ hH;rw[hk]at hk2;cases hk2;obtain⟨⟨q,c,hv⟩,xk⟩:=hrd.Po;obtain⟨⟨e,sz'⟩,hT⟩:=cZ.1 hT;obtain⟨hu,_,_⟩:=jh hT;refine wpList_plain hg fun K hK=>?_
 unfold Oper.wp;have hrun:(execOp a.eval o).run P w=.ok (.value (.int .i64 rows.length)) w:=by
  simp only[execOp,hop,resolve,invoke,builtin,jZ,ax,bg,hv];simp[Builtin.len_,run_underlying hu,goInt]
 rw[hrun,Oper.upon_value,hd];exact hK _ _ (h κ Θ _ w (hs.set (d:=.int .i64 rows.length) (bs:=[]) ht (.of (.int _ _ (DQ xk))) (by simp)))
theorem OF{o:Oper}{t T id sz e m:Nat}{x i:Operand}{rows:List aG}{u:Option Value}{k:IntKind}{n:Int}(hop:o.op=.indexAddr T x i)(hd:o.dst=some t)(hg:o.guard=none)(ht:t<Γ.nt)
 (hT:wE P T=some (e,sz)) (hx:st.ev x=.acc id) (hi:st.ev i=.int k n) (hH:st.H[id]?=some (.oJ sz rows u)) (hn:n=(m:Int)) (hm:m<rows.length) (h:AO P Γ all rest Q ⟨(t,.op id m sz 0)::st.σ,st.H⟩):AO P Γ all (o::rest) Q st:=by
 intro κ Θ a w hs;obtain⟨b1,r1,_⟩:=hs.ev x;obtain⟨b2,r2,_⟩:=hs.ev i;rw[hx]at r1;rw[hi]at r2;have hiv:=r2.kZ;obtain⟨hk,_⟩:=r1.nS;obtain⟨_,_,v,bs,hk2,hrd,_⟩:=hs.ob id _ hH;rw[hk]at hk2;cases hk2;obtain⟨hu,zy,yt⟩:=jh hT;have hsz:=nP (P:=P) zy w;subst hn;generalize Gv:a.eval x=vx at hrd hk;cases hrd with
 |qD=>simp at hm
 |jP=>simp at hm
 |sl b off cap sz' _ cs bs hb hcap xk hrl hc l7=>
  have hn':0<=(m:Int)/\(m:Int)<(rows.length:Int):=⟨by omega,by omega⟩
  refine wpList_plain hg fun K hK=>?_
  unfold Oper.wp;have hrun:(execOp a.eval o).run P w=.ok (.value (.pointer (some ⟨b,off+(m*sz+0),none⟩))) w:=by
   simp only[execOp,hop,Gv,hiv];simp[Instr.indexAt,asIntOf,run_underlying hu,hn',hm,hsz,yt,Addr.add_lit]
  rw[hrun,Oper.upon_value,hd];exact hK _ _ (h κ Θ _ w (hs.set (d:=.op id m sz 0) (bs:=[]) ht (qG.op id m sz 0 b off _ _ hk).Ck (by simp)))
theorem Au{rows:List aG}{sz i off:Nat}{r:aG}{d:D}(hrl:∀r∈rows,r.length=sz)(hr:rows[i]?=some r)(hd:r[off]?=some d):rows.flatten[i*sz+off]?=some d/\off<sz/\i*sz+off<rows.length*sz:=by
 have h1:=hrl r (aD hr);have h2:=(aB.1 hd).1;have hmid:=vT hrl hr;have hlt:=(aB.1 hr).1;have hle:(i+1)*sz<=rows.length*sz:=eG _ hlt;rw[gF,jQ]at hle;refine⟨?_,by omega,by omega⟩;rw[<-hmid,bf,bD (by omega),ck]at hd;exact hd
theorem Iz{o:Oper}{t T id i sz off:Nat}{x:Operand}{rows:List aG}{r:aG}{d:D}{u:Option Value}(hop:o.op=.load T x)(hd:o.dst=some t)(hg:o.guard=none)(ht:t<Γ.nt)
 (hT:rD P T=some false) (hx:st.ev x=.op id i sz off) (hH:st.H[id]?=some (.oJ sz rows u)) (hr:rows[i]?=some r) (hc:r[off]?=some d) (hfl:d.flat=true) (h:AO P Γ all rest Q ⟨(t,d)::st.σ,st.H⟩):AO P Γ all (o::rest) Q st:=by
 intro κ Θ a w hs;obtain⟨b1,r1,_⟩:=hs.ev x;rw[hx]at r1;obtain⟨g,o0,len,M8,hk,hv⟩:=r1.vm;obtain⟨hrl,_,v,bs,hk2,hrd,_⟩:=hs.ob id _ hH;rw[hk]at hk2;cases hk2;obtain⟨hf,_,_⟩:=Au hrl hr hc;cases hrd with
 |jP=>simp at hr
 |sl _ _ _ sz' _ cs ns hb hcap xk Ai hcs l7=>
  obtain⟨c,b',h1,h2,h3,h4⟩:=l7.at hf;have L:=iy (P:=P) (w:=w) hT (o:=i*sz+off) hcs;have hb':=h3.flat hfl;subst hb';refine wpList_plain hg fun K hK=>?_
  unfold Oper.wp;have hrun:(execOp a.eval o).run P w=.ok (.value c) w:=by
   simp only[execOp,hop,hv];simp[L.2 rfl c h1]
  rw[hrun,Oper.upon_value,hd];exact hK _ _ (h κ Θ _ w (hs.set (d:=d) (bs:=[]) ht (.of h3) (by simp)))
theorem iB.Rl{vs:av}{ds:aG}{bs:aI}(h:iB w vs ds bs){p:Nat}{d:D}(hd:ds[p]?=some d):
 ∃c b1 b2 b3,vs[p]?=some c/\c.oneCell'=true/\Rd w c d b2/\bs=b1++(b2++b3)/\∀(e:D) (b4:aI),Rd w c e b4->iB w vs (ds.set p e) (b1++(b4++b3)):=by
 obtain⟨l,r,rfl,hl⟩:=Ca hd;obtain⟨v1,v2,c1,c2,rfl,rfl,k1,k2⟩:=h.split;cases k2 with
 |cons c vs _ _ b2 b3 h1 h2 h3=>
  have hl1:v1.length=p:=by rw[k1.length];exact hl
  refine⟨c,c1,b2,b3,by rw[aU (by omega),hl1];simp,h1,h2,rfl,fun e b4 he=>?_⟩;have e1:(l++d::r).set p e=l++e::r:=by rw[oP _ _ (by omega),hl];simp
  rw[e1];exact k1.app (.cons _ _ _ _ _ _ h1 he h3)
theorem yl{rows:List aG}{sz i off:Nat}{r:aG}{d e:D}(hrl:∀r∈rows,r.length=sz)(hr:rows[i]?=some r)(hd:r[off]?=some d):(rows.set i (r.set off e)).flatten=rows.flatten.set (i*sz+off) e:=by
 have hlt:=(aB.1 hd).1;have h1:=hrl r (aD hr);have:=vU (rows:=rows) (sz:=sz) (i:=i) (off:=off) (row:=r) (ds:=[e]) hrl hr (by simp;omega);have e1:r.set off e=r.take off++[e]++r.drop (off+[e].length):=by
  apply kA;intro j;rw[eC];simp only[cg,uA,aT,bH,cC];by_cases hj:j<off
  ·rw[ai (by omega),aS (by simp;omega),bf,bD hj]
  ·rw[aU (by simp;omega),bG,dA (by omega)];by_cases he:off=j
   ·subst he;simp[hlt]
   ·rw[ai he];obtain⟨m,hm⟩:∃m,j-off=m+1:=⟨j-off-1,by omega⟩
    rw[hm,gE,ck]
    congr 1;omega
 rw[e1,this];have hfl:=iq hrl;obtain⟨hf,_,hlt2⟩:=Au hrl hr hd;apply kA;intro j;rw[eC];simp only[cg,uA,aT,bH,cC];by_cases hj:j<i*sz+off
 ·rw[ai (by omega),aS (by rw[bG];omega),bf,bD hj]
 ·rw[aU (by rw[bG];omega),bG,dA (by omega)];by_cases he:i*sz+off=j
  ·subst he;rw[bD rfl,bD (by omega),mX];rfl
  ·rw[ai he];obtain⟨m,hm⟩:∃m,j-(i*sz+off)=m+1:=⟨j-(i*sz+off)-1,by omega⟩
   rw[hm,gE,ck]
   congr 1;omega
theorem Ay{rows:List aG}{sz i:Nat}{r:aG}(hrl:∀r∈rows,r.length=sz)(hr:r.length=sz):∀x∈rows.set i r,x.length=sz:=by
 intro x hx;rcases mq hx with hx|rfl
 ·exact hrl x hx
 ·exact hr
theorem J1{o:Oper}{t T id i sz off FA:Nat}{x:Operand}{rows dK:List aG}{r:aG}{u:Option Value}(hop:o.op=.load T x)(hd:o.dst=some t)(hg:o.guard=none)(ht:t<Γ.nt)
 (hT:rD P T=some false) (hx:st.ev x=.op id i sz off) (hH:st.H[id]?=some (.oJ sz rows u)) (hr:rows[i]?=some r) (hc:r[off]?=some (.sl dK)) (h2:∀q∈dK,q.length=FA)
 (h:AO P Γ all rest Q ⟨(t,.acc st.H.length)::st.σ,st.H.set id (.hole sz (rows.set i (r.set off .any)) u (i*sz+off) st.H.length)++[.oJ FA dK none]⟩):AO P Γ all (o::rest) Q st:=by
 intro κ Θ a w hs;obtain⟨b1,r1,_⟩:=hs.ev x;rw[hx]at r1;obtain⟨g,o0,len,M8,hk,hv⟩:=r1.vm;obtain⟨hrl,MP,v,bs,hk2,hrd,hnd,uU⟩:=hs.ob id _ hH;rw[hk]at hk2;cases hk2;obtain⟨hf,hoff,_⟩:=Au hrl hr hc;cases hrd with
 |jP=>simp at hr
 |sl _ _ _ sz' _ cs ns hb hcap xk Ai hcs l7=>
  obtain⟨c,c1,c2,c3,h1,h1c,h3,rfl,jw⟩:=l7.Rl hf;have L:=iy (P:=P) (w:=w) hT (o:=i*sz+off) hcs;have R1:id<st.H.length:=(aB.1 hH).1;have hnew:=jw .any [] (.any c);have wo:=hnd;simp only[dV,aJ,zX]at wo;obtain⟨⟨Sm,Gn,Tf⟩,zz⟩:=wo;obtain⟨n1,n2,n3⟩:=aY.1 zz;obtain⟨n4,n5,n6⟩:=aY.1 n2;let Θ':Nat->Nat:=fun b=>if b∈c2 then st.H.length+2 else Θ b
  have hs':cR Γ ⟨st.σ,st.H.set id (.hole sz (rows.set i (r.set off .any)) u (i*sz+off) st.H.length)++[.oJ FA dK none]⟩ (pL κ st.H.length (some c)) Θ' a w:=by
   have hn:=ol (hs.jx _ (b9 _)) (some c);have CD:∀b∈c2,Θ b=id+2:=fun b hb'=>(uU b (by simp[hb'])).1
   refine hs.G8 [id] rfl rfl rfl (b9 _) (fun _ _ _=>rfl) (fun b _ hne=>?_) (fun b hb'=>?_) (fun b hb'=>?_) hn (fun j hj=>?_) (fun j y hy=>?_) (fun j y hj=>?_)
   ·simp only[Θ'];rw[ai];intro hin;exact hne id (by simp) (CD b hin)
   ·simp only[Θ']at hb';split at hb'
    ·rename_i hin;exact hs.own b (by rw[CD b hin];omega)
    ·exact hs.own b hb'
   ·simp only[Θ']at hb';split at hb'
    ·rename_i hin;exact hs.mine b (by rw[CD b hin];omega)
    ·exact hs.mine b hb'
   ·simp only[af,jy,aT,bH]at hj;unfold pL;rw[ai (by omega)];exact hs.jx j (by omega)
   ·unfold pL at hy;split at hy
    ·cases hy;exact h1c
    ·exact hs.jg j y hy
   ·rcases sV j y hj with⟨hjl,rfl⟩|⟨hjl,hy⟩
    ·right;right
     have hjn:j=st.H.length:=by rw[hjl];simp
     subst hjn;refine⟨⟨h2,by simp,c,c2,gq _ _ _,h3,n4,fun b hb'=>⟨by simp[Θ',hb'],(uU b (by simp[hb'])).2⟩⟩,rfl⟩
    ·rcases qQ j y hy with⟨rfl,rfl⟩|⟨hne,hy'⟩
     ·right;right
      refine⟨⟨Ay hrl (by rw[jy];exact hrl r (aD hr)),fun z hz=>hn _ _ (MP z hz),_,g::(c1++([]++c3)),hn _ _ hk,⟨g,o0,M8,cs,c1++([]++c3),by simp,hb,by simpa using hcap,xk,hcs,?_,rfl,c,h1,gq _ _ _⟩,?_,fun b hb'=>?_⟩,rfl⟩
      ·rw[yl hrl hr hc];exact hnew
      ·simp only[j9,dV,aJ,zX];exact⟨⟨Sm,Tf⟩,aY.2 ⟨n1,n5,fun x hx y hy e=>n3 x hx y (by simp[hy]) e⟩⟩
      ·have Qp:b∈g::(c1++(c2++c3)):=by
        simp only[j9,aq,aJ]at hb'⊢;rcases hb' with h|h|h<;>simp[h]
       refine⟨?_,(uU b Qp).2⟩;simp only[Θ'];rw[ai,(uU b Qp).1];intro hin;simp only[j9,aq,aJ]at hb';rcases hb' with h|h|h
       ·subst h;exact Gn hin
       ·exact n3 b h b (by simp[hin]) rfl
       ·exact n6 b hin b h rfl
     ·exact .inr (.inl ⟨by simpa using hne,hy'⟩)
  refine wpList_plain hg fun K hK=>?_
  unfold Oper.wp;have hrun:(execOp a.eval o).run P w=.ok (.value c) w:=by
   simp only[execOp,hop,hv];simp[L.2 rfl c h1]
  rw[hrun,Oper.upon_value,hd];exact hK _ _ (h _ _ _ w (hs'.set (d:=.acc st.H.length) (bs:=[]) ht (qG.acc st.H.length c (gq _ _ _)).Ck (by simp)))
theorem J0{id n i sz off FA:Nat}{rows dK:List aG}{r:aG}{d:D}{u u2:Option Value}(hH:st.H[id]?=some (.hole sz rows u (i*sz+off) n))(hN:st.H[n]?=some (.oJ FA dK u2))(hr:rows[i]?=some r)(hc:r[off]?=some d)
 (h:AO P Γ all rest Q ⟨st.σ,(st.H.set n .gone).set id (.oJ sz (rows.set i (r.set off (.sl dK))) u)⟩):AO P Γ all rest Q st:=by
 intro κ Θ a w hs;obtain⟨hrl,MP,v,bs,hk,⟨b,o0,cap,cs,ns,rfl,h1,h2,h3,h4,h5,rfl,c,h6,h7⟩,hnd,uU⟩:=hs.ob id _ hH;obtain⟨Wk,_,v2,LX,hk2,Tz,Ts,JU⟩:=hs.ob n _ hN;rw[h7]at hk2;cases hk2;obtain⟨hf,hoff,_⟩:=Au hrl hr hc;obtain⟨c',c1,c2,c3,q1,Xg,q3,rfl,jw⟩:=h5.Rl hf;rw[h6]at q1;cases q1;have hnew:=jw (.sl dK) LX Tz;have hne:n≠id:=fun e=>by subst e;rw[hH]at hN;cases hN
 have R1:id<st.H.length:=(aB.1 hH).1;have wo:=hnd;simp only[dV,aJ,zX]at wo;obtain⟨⟨Sm,Gn,Tf⟩,zz⟩:=wo;obtain⟨n1,n2,n3⟩:=aY.1 zz;obtain⟨n4,n5,n6⟩:=aY.1 n2;have Oc:∀x∈LX,∀y∈b::(c1++(c2++c3)),x≠y:=by
  intro x hx y hy e;subst e;have e1:=(JU x hx).1;have e2:=(uU x hy).1;omega
 let Θ':Nat->Nat:=fun x=>if x∈LX then id+2 else if Θ x=n+2 then 1 else Θ x
 refine h κ Θ' a w (hs.G8 [id,n] rfl rfl rfl (b9 _) (fun _ _ _=>rfl) (fun x _ V4=>?_) (fun x hx=>?_) (fun x hx=>?_) (fun _ _ h=>h) (fun j hj=>hs.jx j (by simpa using hj)) hs.jg (fun j y hj=>?_))
 ·simp only[Θ'];rw[ai (fun hin=>V4 n (by simp) (JU x hin).1),ai (V4 n (by simp))]
 ·simp only[Θ']at hx;split at hx
  ·rename_i hin;exact hs.own x (by rw[(JU x hin).1];omega)
  ·split at hx
   ·rename_i he;exact hs.own x (by rw[he];omega)
   ·exact hs.own x hx
 ·simp only[Θ']at hx;split at hx
  ·rename_i hin;exact hs.mine x (by rw[(JU x hin).1];omega)
  ·split at hx
   ·omega
   ·exact hs.mine x hx
 ·rcases qQ j y hj with⟨rfl,rfl⟩|⟨yo,hy⟩
  ·right;right
   refine⟨⟨Ay hrl (by rw[jy];exact hrl r (aD hr)),MP,_,b::(c1++(LX++c3)),hk,?_,?_,fun x hx=>?_⟩,rfl⟩
   ·have hl:(rows.set i (r.set off (.sl dK))).length=rows.length:=by simp
    have:=Rd.sl (w:=w) b o0 cap sz (rows.set i (r.set off (.sl dK))) cs (c1++(LX++c3)) h1 (by rw[hl];exact h2) h3 (Ay hrl (by rw[jy];exact hrl r (aD hr))) h4 (by rw[yl hrl hr hc];exact hnew);rw[hl]at this;exact this
   ·simp only[dV,aJ,zX];refine⟨⟨Sm,fun hin=>Oc b hin b (by simp) rfl,Tf⟩,aY.2 ⟨n1,aY.2 ⟨Ts,n5,fun x hx y hy e=>Oc x hx y (by simp[hy]) e⟩,fun x hx y hy e=>?_⟩⟩;rcases aJ.1 hy with hy|hy
    ·exact Oc y hy x (by simp[hx]) e.symm
    ·exact n3 x hx y (by simp[hy]) e
   ·by_cases hin:x∈LX
    ·exact⟨by simp[Θ',hin],(JU x hin).2⟩
    ·have Qp:x∈b::(c1++(c2++c3)):=by
      simp only[aq,aJ]at hx⊢;rcases hx with h|h|h|h
      ·simp[h]
      ·simp[h]
      ·exact absurd h hin
      ·simp[h]
     refine⟨?_,(uU x Qp).2⟩;have e1:=(uU x Qp).1;simp only[Θ'];rw[ai hin,ai (by omega),e1]
  ·rcases qQ j y hy with⟨rfl,rfl⟩|⟨hj2,hy'⟩
   ·exact .inl rfl
   ·exact .inr (.inl ⟨by simp[yo,hj2],hy'⟩)
theorem iB.setCells{vs:av}{ds es:aG}{us:av}{bs:aI}(h:iB w vs ds bs)(p:Nat)(hp:p+es.length<=ds.length)(hu:iB w us es []):
 ∃b',iB w (vs.take p++us++vs.drop (p+us.length)) (ds.take p++es++ds.drop (p+es.length)) b'/\(∀b∈b',b∈bs)/\(bs.Nodup->b'.Nodup):=by
 have e:ds=ds.take p++((ds.drop p).take es.length++(ds.drop p).drop es.length):=by rw[bJ,bJ]
 rw[e]at h;obtain⟨v1,v2,b1,b2,rfl,rfl,k1,k2⟩:=h.split;obtain⟨v3,v4,b3,b4,rfl,rfl,k3,k4⟩:=k2.split;have l1:v1.length=p:=by rw[k1.length];simp;omega
 have l3:v3.length=es.length:=by rw[k3.length];simp;omega
 have lu:=hu.length;have t1:(v1++(v3++v4)).take p=v1:=ez l1;have t2:(v1++(v3++v4)).drop (p+us.length)=v4:=by
  rw[<-dX,dU l1,lu,dU l3]
 rw[t1,t2];rw[dX]at k4;refine⟨b1++[]++b4,(k1.app hu).app k4,fun b hb=>?_,fun hnd=>?_⟩
 ·simp only[dS,aJ]at hb⊢;rcases hb with h|h<;>simp[h]
 ·obtain⟨n1,n2,n3⟩:=aY.1 hnd;obtain⟨_,n5,_⟩:=aY.1 n2;simp only[dS];exact aY.2 ⟨n1,n5,fun x hx y hy e=>n3 x hx y (by simp[hy]) e⟩
theorem HV{o:Oper}{T id i sz off:Nat}{x y:Operand}{rows:List aG}{r ds:aG}{u:Option Value}(hop:o.op=.store T x y)(hd:o.dst=none)(hg:o.guard=none)
 (hx:st.ev x=.op id i sz off) (hH:st.H[id]?=some (.oJ sz rows u)) (hr:rows[i]?=some r) (hc:(st.ev y).cellsOf=some ds) (hfl:ds.all D.flat=true) (hT:Dh P T=true) (hl:ds.length=qU P T) (hpos:0<ds.length) (hfit:off+ds.length<=sz)
 (h:AO P Γ all rest Q ⟨st.σ,st.H.set id (.oJ sz (rows.set i (r.take off++ds++r.drop (off+ds.length))) u)⟩):AO P Γ all (o::rest) Q st:=by
 intro κ Θ a w hs;obtain⟨b1,r1,_⟩:=hs.ev x;obtain⟨b2,r2,_⟩:=hs.ev y;rw[hx]at r1;obtain⟨g,o0,len,M8,hk,hv⟩:=r1.vm;obtain⟨hrl,MP,v,bs,hk2,hrd,hnd,uU⟩:=hs.ob id _ hH;rw[hk]at hk2;cases hk2;have FV:=sK hs.jg r2 hc;have hl1:=FV.length;have Td:ds.all D.Dr=true:=by
  rw[aR]at hfl⊢;intro d xz;have:=hfl d xz;cases d<;>first|rfl| (simp[D.flat]at this)
 have Qt:=FV.pure Td;have Hq:=Qt.flat hfl;subst Hq;have hrow:=hrl r (aD hr);have hilt:=(aB.1 hr).1;have Od:(i+1)*sz<=rows.length*sz:=eG _ hilt;rw[gF,jQ]at Od;cases hrd with
 |jP=>simp at hr
 |sl _ _ _ sz' _ cs ns hb hcap xk Ai hcs l7=>
  obtain⟨V0,WS⟩:=uU g (by simp);obtain⟨cur,Tb,Hs⟩:=WS;have Qy:=iq hrl;have Q9:cs.length=rows.length*sz:=by rw[l7.length,Qy]
  have BO:∀j c,cs[j]?=some c->cur[o0+j]?=some c:=by
   intro j c hj;have:=hcs j c hj;simpa[World.cell?,Hs]using this
  have Qx:o0+(i*sz+off)+(a.eval y).cells.size<=cur.size:=by
   have e1:(a.eval y).cells.size=ds.length:=by rw[<-hl1];simp
   rw[e1];have:=BO (i*sz+off+ds.length-1) cs[i*sz+off+ds.length-1] (aM (by omega));have:=(aV.1 this).1;omega
  have Ou:(a.eval y).cells.size=qU P T:=by rw[<-hl,<-hl1];simp
  have hst:=vq (P:=P) (T:=T) (off:=o0+(i*sz+off)) Hs Ou (cZ.1 hT) Qx FV.one;have hne:(a.eval y).cells.toList.length=ds.length:=hl1;let Ac:Array Value:=(cur.toList.take (o0+(i*sz+off))++(a.eval y).cells.toList++cur.toList.drop (o0+(i*sz+off)+(a.eval y).cells.toList.length)).toArray
  have hw':∀x,x≠g->(w.setRow g Ac).heap[x]?=w.heap[x]?:=fun x hx=>setRow_other w g x _ hx
  have hsame:∀x,x<w.heap.size->(∀m∈[id],Θ x≠m+2)->(w.setRow g Ac).heap[x]?=w.heap[x]?:=fun x _ hx=>hw' x (fun e=>hx id (by simp) (by rw[e];exact V0))
  simp only[dV]at hnd;have U2:iB (w.setRow g Ac) cs rows.flatten ns:=l7.keep fun b hb'=>hw' b (fun e=>hnd.1 (e▸hb'))
  have TS:iB (w.setRow g Ac) (a.eval y).cells.toList ds []:=Qt.keep (by simp);obtain⟨ns',q1,q2,q3⟩:=U2.setCells (i*sz+off) (by rw[Qy];omega) TS;have hfs:=vU (ds:=ds) (off:=off) hrl hr hfit;have R7:(rows.set i (r.take off++ds++r.drop (off+ds.length))).length=rows.length:=by simp
  have RG:∀z∈rows.set i (r.take off++ds++r.drop (off+ds.length)),z.length=sz:=Ay hrl (by simp;omega);have hcell:∀j c,(cs.take (i*sz+off)++(a.eval y).cells.toList++cs.drop (i*sz+off+(a.eval y).cells.toList.length))[j]?=some c->(w.setRow g Ac).cell? ⟨g,o0+j,none⟩=some c:=by
   intro j c hj;have WQ:(w.setRow g Ac).heap[g]?=some (.cells Ac Tb (0,0)):=setRow_heap w g cur _ Tb _ Hs;simp only[World.cell?,WQ];show Ac[o0+j]?=some c;simp only[Ac,dM,cg]at hj⊢;have hcz:o0+(i*sz+off)<=cur.toList.length:=by simp;omega
   by_cases yo:j<i*sz+off
   ·rw[aS (by simp;omega),bf,bD yo]at hj;rw[aS (by rw[bG];omega),bf,bD (by omega)];have:=BO j c hj;simpa using this
   ·rw[aU (by rw[bG];omega),bG,dA (by omega)]at hj;rw[aU (by rw[bG];omega),bG,dA hcz];rw[show o0+j-(o0+(i*sz+off))=j-(i*sz+off)from by omega];by_cases hj2:j-(i*sz+off)<(a.eval y).cells.toList.length
    ·rw[aS hj2]at hj⊢;exact hj
    ·rw[aU (by omega),ck]at hj⊢;have:=BO _ c hj;rw[<-fU]at this;rw[<-this];congr 1;omega
  refine wpList_plain hg fun K hK=>?_
  unfold Oper.wp;have hrun:(execOp a.eval o).run P w=.ok .skip (w.setRow g Ac):=by
   simp only[execOp,hop,hv];simp[hst,Ac]
  rw[hrun,Oper.upon_skip,hd];refine hK _ _ (h κ Θ _ _ (hs.G8 [id] rfl rfl rfl (by simp) hsame (fun _ _ _=>rfl) (fun b hb'=>by simpa using hs.own b hb') hs.mine (fun _ _ h=>h) (fun j hj=>hs.jx j (by simpa using hj)) hs.jg (fun j z hj=>?_)));rcases qQ j z hj with⟨rfl,rfl⟩|⟨yo,hz⟩
  ·right;right
   refine⟨⟨RG,MP,_,g::ns',hk,?_,?_,fun b hb'=>?_⟩,rfl⟩
   ·have:=Rd.sl (w:=w.setRow g Ac) g o0 M8 sz (rows.set i (r.take off++ds++r.drop (off+ds.length))) _ ns' (by simpa using hb) (by rw[R7];exact hcap) xk RG hcell (by rw[hfs];exact q1);rw[R7]at this;exact this
   ·simp only[dV];exact⟨fun hin=>hnd.1 (q2 g hin),q3 hnd.2⟩
   ·rcases aq.1 hb' with rfl|hin
    ·exact⟨V0,⟨_,Tb,setRow_heap w b cur _ Tb _ Hs⟩⟩
    ·have hm:=uU b (by simp[q2 b hin]);refine⟨hm.1,?_⟩;obtain⟨xs,T',hxs⟩:=hm.2;exact⟨xs,T',(hw' b (fun e=>hnd.1 (e▸q2 b hin))).trans hxs⟩
  ·exact .inr (.inl ⟨by simpa using yo,hz⟩)
end
end Go.Cx
namespace Go.Cx
open Go.RowKit
def NE(P:Program)(f:FuncId)(ds:aG)(e sz:Nat)(rows cc:List aG):Prop:=
 (∃fn,P.funcs[f]?=some fn/\fn.body.isSome=true/\(fn.name== "runtime.NumGoroutine")=false)/\
 ∀(w:World) (κ:Nat->Option Value) (args:av) (v:Value) (cs:av),C2 w (fun b=>v.ownBlock=some b)->args.length=ds.length->(∀(i:Nat) d,ds[i]?=some d->∃u,args[i]?=some u/\lD w κ u d [])->
  κ 0=some v->(∀i,1<=i->κ i=none)->v.oneCell'=true->0<sz->(∀r∈rows,r.length=sz)->w.ownsRow 0 e sz v rows.length cs->iB w cs rows.flatten []->
  Calls P f args.toArray w (fun x w'=>∃v' cs',x=.returned v'/\v'.oneCell'=true/\(∀r∈cc,r.length=sz)/\w'.ownsRow 0 e sz v' cc.length cs'/\iB w' cs' cc.flatten []/\(∀g,v'.ownBlock=some g->w.heap.size<=g\/v.ownBlock=some g)/\
   w'.os=w.os/\w'.tape=w.tape/\w'.output=w.output/\w.heap.size<=w'.heap.size/\∀b,b<w.heap.size->v.ownBlock≠some b->w'.heap[b]?=w.heap[b]?)
section
variable{P:Program}{Γ:nR}{Q:Exit->St->Prop}{st:St}{κ κ':Nat->Option Value}{Θ Θ':Nat->Nat}{a:Act}{w w':World}{all:Array Oper}{rest:List Oper}
theorem Iw{o:Oper}{f t id:Nat}{xs:Array Operand}{ts:Array TypeId}{e sz:Nat}{rows cc:List aG}(hop:o.op=.call {callee:=.value (.func f),args:=xs,argTypes:=ts})(hd:o.dst=some t)(hg:o.guard=none)
 (ht:t<Γ.nt) (hH:st.H[id]?=some (.row .uq e sz rows)) (Tc:LL e=true) (hfl:rows.flatten.all D.flat=true) (hb:((xs.toList.map st.ev).all D.bare)=true) (ir:NE P f ((xs.toList.map st.ev).map (D.HD [id])) e sz rows cc)
 (h:AO P Γ all rest Q ⟨(t,.acc st.H.length)::st.σ,kill st.H [id]++[.row .uq e sz cc]⟩):AO P Γ all (o::rest) Q st:=by
 intro κ Θ a w hs;obtain⟨hsz,hrl,v,cs,bs,hk,hown,hrd,vc,_⟩:=hs.ob id _ hH;have uU:=hrd.flat hfl;subst uU;have Hu:id<st.H.length:=(aB.1 hH).1;let κc:Nat->Option Value:=fun j=>if j=0 then some v else none
 have Fg:C2 w fun b=>v.ownBlock=some b:=by
  obtain⟨B,v1,v2⟩:=hs.QO;refine⟨B,v1,fun b hB=>⟨(v2 b hB).2.1,fun hb'=>?_⟩⟩;have e1:=vc b hb';rcases hs.mine b (by omega)with q|q
  ·have:=(v2 b hB).1;omega
  ·exact(v2 b hB).2.2 q
 have hargs:∀(i:Nat) d,((xs.toList.map st.ev).map (D.HD [id]))[i]?=some d->∃u,(xs.toList.map a.eval)[i]?=some u/\lD w κc u d []:=by
  intro i d xz;rw[bK,bK]at xz;cases hx:xs.toList[i]? with
  |none=>rw[hx]at xz;cases xz
  |some x=>
   rw[hx]at xz;simp only[bW,aP]at xz;subst xz;refine⟨a.eval x,by rw[bK,hx];rfl,?_⟩;obtain⟨bs,r,hz⟩:=hs.ev x;have JS:(st.ev x).bare=true:=aR.1 hb _ (cE.2 ⟨x,aD hx,rfl⟩);obtain⟨b',r',_⟩:=lD.rn (o:=[id]) (κ':=κc) (Θ:=fun _=>0) (Θ':=fun _=>0) (fun i j u h1 h2=>by
    have h3:=DV h1;cases j with
    |zero=>simp at h3;subst h3;rw[hk]at h2;simpa[κc]using h2
    |succ j=>simp at h3) (fun _ _=>rfl) r (fun _ _=>rfl)
   have:=r'.Ga (D.Gb [id] JS);subst this;exact r'
 have hc:=ir.2 w κc (xs.toList.map a.eval) v cs Fg (by simp) hargs (by simp[κc]) (fun i hi=>by simp only[κc];rw[ai (by omega)]) (hs.jg id v hk) hsz hrl hown hrd;refine wpList_plain hg fun K hK=>?_
 unfold Oper.wp;rw[oK hop ir.1,Oper.upon_enter];have e0:xs.map a.eval=(xs.toList.map a.eval).toArray:=by rw[<-eU,gD]
 rw[e0];refine hc.mono ?_;rintro x w' ⟨v',cs',rfl,hone,Ai,yp,CC,MI,h1,h2,h3,h4,BM⟩;show K (a.put o.dst v') w';rw[hd];let n:=st.H.length
 let Θ':Nat->Nat:=fun b=>if some b=v'.ownBlock then n+2 else Θ b
 have La:∀g,v'.ownBlock=some g->Θ g=id+2\/w.heap.size<=g:=by
  intro g Ht;rcases MI g Ht with h|h
  ·exact .inr h
  ·exact .inl (vc g h)
 have k:ed w w' Θ Θ' (id+2):=by
  refine⟨by omega,h1,h2,h3,h4,fun b hb hne=>BM b hb (fun e=>hne (vc b e)),fun b hb hne=>?_,fun b hb=>?_⟩
  ·simp only[Θ'];rw[ai];intro e;rcases La b e.symm with h|h
   ·exact hne h
   ·omega
  ·simp only[Θ']at hb;split at hb
   ·rename_i e;exact(yp.lt b e.symm).2
   ·exact cF (hs.own b hb) h4
 have hm:∀b,2<=Θ' b->qF Γ b:=by
  intro b hb;simp only[Θ']at hb;split at hb
  ·rename_i e;rcases La b e.symm with h|h
   ·exact hs.mine b (by omega)
   ·exact .inl (fc hs.base h)
  ·exact hs.mine b hb
 have hn:=ol (hs.jx n (b9 _)) (some v');obtain⟨ρ,hu⟩:=hs.mG;have mN:=hs.jI k hn hu;have key:∀(j:Nat) y,(kill st.H [id]++[.row .uq e sz cc])[j]?=some y->(j=n/\y=.row .uq e sz cc)\/(j≠n/\(y=.gone\/(j∉[id]/\st.H[j]?=some y))):=by
  intro j y hj;rcases sV j y hj with⟨h1,h2⟩|⟨h1,h2⟩
  ·rw[dO]at h1;exact .inl ⟨h1,h2⟩
  ·rw[dO]at h1;exact .inr ⟨h1,jH h2⟩
 have hs':cR Γ ⟨st.σ,kill st.H [id]++[.row .uq e sz cc]⟩ (pL κ n (some v')) Θ' a w':=by
  refine hs.step k hm hn ?_ ?_ ?_ ⟨ρ,mN.1,fun j e' sz' dK hj=>?_,fun j y hj=>?_⟩
  ·intro i hi;simp only[af,aT,bH,dO]at hi;unfold pL;rw[ai (by omega)];exact hs.jx i (by omega)
  ·intro i y hy;unfold pL at hy;split at hy
   ·cases hy;exact hone
   ·exact hs.jg i y hy
  ·intro j y hj;rcases key j y hj with⟨rfl,rfl⟩|⟨_,hy|⟨hjk,hy⟩⟩
   ·exact .inr (.inr ⟨hsz,Ai,v',cs',[],gq _ _ _,yp,CC,fun g Ht=>by simp only[Θ'];rw[bD Ht.symm],by simp⟩)
   ·exact .inl hy
   ·exact .inr (.inl ⟨fun e=>hjk (by simp;omega),hy⟩)
  ·rcases key j _ hj with⟨rfl,hy⟩|⟨_,hy|⟨hjk,hy⟩⟩
   ·simp only[Ob.row.injEq,qZ]at hy;obtain⟨rfl,rfl,rfl⟩:=hy;exact⟨v',cs',[],gq _ _ _,yp,.of CC (sQ (zO Tc)),by simp,by simp⟩
   ·cases hy
   ·exact mN.2.1 j e' sz' dK (fun e=>hjk (by simp;omega)) hy
  ·rcases key j _ hj with⟨rfl,hy⟩|⟨_,hy|⟨hjk,hy⟩⟩
   ·subst hy;exact Bv.vn rfl
   ·subst hy;trivial
   ·exact mN.2.2 j y (fun e=>hjk (by simp;omega)) hy
 refine hK _ _ (h _ _ _ _ (hs'.set (t:=t) (d:=.acc n) (bs:=[]) ht ?_ (by simp)));exact(qG.acc n _ (gq _ _ _)).Ck
end
end Go.Cx
namespace Go.Cx
open Go.RowKit
def iA(P:Program)(f:FuncId)(cells cells':aG)(ds:aG)(d:D):Prop:=
 (∃fn,P.funcs[f]?=some fn/\fn.body.isSome=true/\(fn.name== "runtime.NumGoroutine")=false)/\
 ∀(w:World) (Θ:Nat->Nat) (g:Nat) (cs:Array Value) (T:TypeId) (args:av) (bs ts us:aI),
  C2 w (fun b=>b=g\/b∈ts)->w.heap[g]?=some (.cells cs T (0,0))->rU w (.agg cs::args) (.agg cells::ds) bs ts us->
  (∀b∈bs,Θ b=0)->(∀b,Θ b≠0->b<w.heap.size)->(∀b,Θ b<=1)->Θ g=1->(∀b∈ts,Θ b=1/\b∈us/\b≠g)->us.Nodup->(∀b∈us,(b∉ts->Θ b=0)/\Wr w b)->
  Calls P f (.pointer (some ⟨g,0,none⟩)::args).toArray w (fun e w'=>∃v cs' T' b2 t2 u2 b3 t3 u3,e=.returned v/\w'.os=w.os/\w'.tape=w.tape/\w'.output=w.output/\w.heap.size<=w'.heap.size/\
   (∀b,b<w.heap.size->b≠g->b∉ts->w'.heap[b]?=w.heap[b]?)/\w'.heap[g]?=some (.cells cs' T' (0,0))/\(cs.size=3->cs'.size=3/\cs'[0]?=cs[0]?)/\
   rz w' v d b2 t2 u2/\mR w' cs'.toList cells' b3 t3 u3/\(∀b∈b3++b2,(b<w.heap.size->Θ b=0\/b∈ts)/\b≠g/\b∉t3++t2)/\(u3++u2).Nodup/\
   (∀b∈u3++u2,(w.heap.size<=b\/b∈us)/\b≠g/\Wr w' b)/\∀b∈t3++t2,b∈u3++u2/\(w.heap.size<=b\/b∈ts))
section
variable{P:Program}{Γ:nR}{Q:Exit->St->Prop}{st:St}{κ κ':Nat->Option Value}{Θ Θ':Nat->Nat}{a:Act}{w w':World}{all:Array Oper}{rest:List Oper}
theorem wG.JA{cs:Array Value}{ds:aG}{bs ts us:aI}(h:wG w (.agg cs) (.agg ds) bs ts us):mR w cs.toList ds bs ts us:=by
 generalize hv:Value.agg cs=v at h;cases h with
 |cell h=>
  cases h with
  |pure h=>
   cases h with
   |agg l _ _ h=>cases hv;simpa using mR.tv h
 |agg l _ _ _ _ h=>cases hv;simpa using h
theorem B5.JA{cs:Array Value}{ds:aG}{bs:aI}(h:B5 w κ (.agg cs) (.agg ds) bs):dF w κ cs.toList ds bs:=by
 generalize hv:Value.agg cs=v at h;cases h with
 |cell h=>
  cases h with
  |pure h=>
   cases h with
   |agg l _ _ h=>cases hv;simpa using dF.tv h
 |agg l _ _ h=>cases hv;simpa using h
theorem uf.shown{v:Value}{d:D}{bs ts us:aI}(h:uf w v d bs ts us):∃b,Rd w v d.Lf b:=by
 cases h with
 |pure h=>
  have e:d.Lf=d:=by cases h<;>rfl
  exact⟨_,e.symm▸h⟩
 |fr e sz rows cs ns h1 h2 h3 h4 h5=>exact⟨_,lK h2 h3 h4.rd⟩
 |fs e sz rows cs ns h1 h2 h3 h4 h5=>exact⟨_,lK h2 h3 h4⟩
theorem mR.shown{vs:av}{ds:aG}{bs ts us:aI}(h:mR w vs ds bs ts us):∃b,iB w vs (ds.map D.Lf) b:=by
 induction h with
 |nil=>exact⟨_,.nil⟩
 |cons v vs d ds b1 b2 t1 t2 u1 u2 h1 h2 _ ih=>
  obtain⟨b,q⟩:=h2.shown;obtain⟨b',q'⟩:=ih;exact⟨_,.cons _ _ _ _ _ _ h1 q q'⟩
theorem wG.shown{v:Value}{d:D}{bs ts us:aI}(h:wG w v d bs ts us):kj d.Lg:=by
 cases h with
 |cell h=>
  by_cases mM:∃ds,d=.agg ds
  ·obtain⟨ds,rfl⟩:=mM;cases h with
   |pure h=>cases h with
    |agg cs _ _ h=>
     obtain⟨b,q⟩:=(mR.tv h).shown;exact⟨w,_,_,.agg _ _ _ q⟩
  ·have e:d.Lg=d.Lf:=by cases d<;>first|rfl|exact absurd ⟨_,rfl⟩ mM
   rw[e];obtain⟨b,q⟩:=h.shown;exact⟨w,_,_,q⟩
 |agg cs ds bs ts us h=>
  obtain⟨b,q⟩:=h.shown;exact⟨w,_,_,.agg _ _ _ q⟩
theorem rU.shown{vs:av}{ds:aG}{bs ts us:aI}(h:rU w vs ds bs ts us):∀d∈ds.map D.Lg,kj d:=by
 induction h with
 |nil=>intro d hd;cases hd
 |cons v vs d ds b1 b2 t1 t2 u1 u2 h2 _ ih=>
  intro x hx;rcases aq.1 hx with rfl|hx
  ·exact h2.shown
  ·exact ih x hx
def AX(L:jC)(b:Nat):Option Nat:=ix (fun x:Fs=>x.v.ownBlock==some b) L
def mI(L:jC)(b:Nat):Option Nat:=ix (fun x:Fs=>x.ns.contains b) L
theorem zN{L:jC}(hnd:(L.flatMap Fs.bl).Nodup){i:Nat}{x:Fs}{b:Nat}(hi:L[i]?=some x)(hb:x.v.ownBlock=some b):AX L b=some i:=
 vf hi (by simp[hb]) (fun j y hj hy=>by
  simp only[bq]at hy;exact nu hnd j i y x b hj hi (by simp[Fs.bl,hy]) (by simp[Fs.bl,hb]))
theorem GK{L:jC}{b i:Nat}(h:AX L b=some i):b∈L.flatMap Fs.ts:=by
 obtain⟨x,hx,hp⟩:=qM h;exact bQ.2 ⟨x,aD hx,by simp only[bq]at hp;simp[Fs.ts,hp]⟩
theorem oX{L:jC}{b:Nat}(h:b∉L.flatMap Fs.ts):AX L b=none:=by
 cases hb:AX L b with
 |none=>rfl
 |some i=>exact absurd (GK hb) h
theorem tD{L:jC}(hnd:(L.flatMap Fs.bl).Nodup){i:Nat}{x:Fs}{b:Nat}(hi:L[i]?=some x)(hb:b∈x.ns):mI L b=some i:=
 vf hi (by simpa using hb) (fun j y hj hy=>nu hnd j i y x b hj hi (by simp only[Fs.bl];exact aJ.2 (.inr (by simpa using hy))) (by simp only[Fs.bl];exact aJ.2 (.inr hb)))
theorem mZ{L:jC}{b i:Nat}(h:mI L b=some i):∃x,L[i]?=some x/\b∈x.ns:=by
 obtain⟨x,hx,hp⟩:=qM h;exact⟨x,hx,by simpa using hp⟩
theorem uj{L:jC}{b:Nat}(h:b∈L.flatMap Fs.ts):b∈L.flatMap Fs.bl:=by
 obtain⟨x,hx,sF⟩:=bQ.1 h;exact bQ.2 ⟨x,hx,by simp only[Fs.bl,Fs.ts]at sF⊢;exact aJ.2 (.inl sF)⟩
theorem lP{L:jC}{i b:Nat}{x:Fs}(h:L[i]?=some x)(hb:b∈x.ns):b∈L.flatMap Fs.bl:=
 bQ.2 ⟨x,aD h,by simp only[Fs.bl];exact aJ.2 (.inr hb)⟩
theorem E9{L:jC}(hnd:(L.flatMap Fs.bl).Nodup):∀x∈L,x.bl.Nodup:=by
 induction L with
 |nil=>intro x hx;cases hx
 |cons z r ih=>
  intro x hx;simp only[fS]at hnd;obtain⟨n1,n2,_⟩:=aY.1 hnd;rcases aq.1 hx with rfl|hx
  ·exact n1
  ·exact ih n2 x hx
theorem tR{L:jC}(hnd:(L.flatMap Fs.bl).Nodup){i b:Nat}{x:Fs}(h:L[i]?=some x)(hb:b∈x.ns):b∉L.flatMap Fs.ts:=by
 intro ht;obtain⟨y,hy,hby⟩:=bQ.1 ht;obtain⟨j,hj⟩:=ec hy;have:=nu hnd j i y x b hj h (by simp only[Fs.bl,Fs.ts]at hby⊢;exact aJ.2 (.inl hby)) (by simp only[Fs.bl];exact aJ.2 (.inr hb));subst this;rw[hj]at h;cases h;have zz:=E9 hnd x hy;simp only[Fs.bl]at zz;exact(aY.1 zz).2.2 b hby b hb rfl
theorem zD{L:jC}(hnd:(L.flatMap Fs.bl).Nodup){i:Nat}{x:Fs}(h:L[i]?=some x):x.ns.Nodup:=by
 have:=E9 hnd x (aD h);simp only[Fs.bl]at this;exact(aY.1 this).2.1
def J8(P:Program)(fn:Func)(v0:Value)(cells':aG)(d:D)(e:Exit)(st:St):Prop:=
 (e=.ret\/e=.normal)/\∃nz NL D2 es ms qs,xG P st fn.results.toList=some NL/\st.H[0]?=some (.yB D2 v0)/\
  rB st.H nz (.agg D2::NL)=some (.agg cells'::es,ms,qs)/\ms.Nodup/\qs.Nodup/\(∀m∈qs,m∉ms)/\AQ es=d
theorem J8.out{fn:Func}{v0:Value}{cells':aG}{d:D}{e:Exit}{a':Act}{w':World}{By:St}{κ0:Nat->Option Value}{Θ0:Nat->Nat}(hs0:cR Γ By κ0 Θ0 a' w')(Oq:J8 P fn v0 cells' d e By):
 (e=.ret\/e=.normal)/\a'.defers=[]/\GV Γ w'/\∃v g cs' T b2 t2 u2 b3 t3 u3,(results fn a'.tmps).run P w'=.ok v w'/\HA v0=.pointer (some ⟨g,0,none⟩)/\w'.heap[g]?=some (.cells cs' T (0,0))/\(∀c,vg v0=some c->cs'.size=3/\cs'[0]?=some c)/\
  rz w' v d b2 t2 u2/\mR w' cs'.toList cells' b3 t3 u3/\(∀b∈b3++b2,(b<Γ.W0.heap.size->¬Γ.X b->Γ.Θ0 b=0)/\b≠g/\b∉t3++t2)/\(u3++u2).Nodup/\
  (∀b∈u3++u2,GS Γ b/\b≠g/\Wr w' b)/\∀b∈t3++t2,b∈u3++u2/\qF Γ b:=by
 obtain⟨vb,nz,NL,D2,es,ms,qs,hres,Ql,NU,CA,Ag,MN,rfl⟩:=Oq;obtain⟨ρ0,Ov⟩:=hs0.mG;have uV:=pJ NU;obtain⟨Θ1,ρ1,hs1,hu1,hm1,DF,Ij⟩:=cR.z8 ms hs0 Ov CA (fun m hm=>by
  obtain⟨e,sz,rows,hH⟩:=uV.1 m hm;exact⟨_,e,sz,rows,hH,rfl⟩)
 obtain⟨vs,bs',m1,m2,m3,m4,m5⟩:=wB hs0 hres;have hq:∀m e sz rows,By.H[m]?=some (.row .uq e sz rows)->∃v cs ns,κ0 m=some v/\0<sz/\(∀r∈rows,r.length=sz)/\w'.ownsRow 0 e sz v rows.length cs/\oq w' (ny e) 0 cs rows.flatten ns/\ns.Nodup/\(∀b∈ns,ρ1 b=m+1)/\∀g,v.ownBlock=some g->Θ1 g=m+2:=by
  intro m e sz rows hH;have hnm:m∉ms:=fun hm=>by
   obtain⟨e',sz',cc,w9⟩:=uV.1 m hm;rw[hH]at w9;cases w9
  have D7:(kill By.H ms)[m]?=some (.row .uq e sz rows):=by rw[cU hnm];exact hH
  obtain⟨v,cs,ns,r1,r2,r3,r4,r5⟩:=hu1.rows m e sz rows D7;obtain⟨p1,p2,v2,_,_,p3,_,_,p4,_⟩:=hs1.ob m _ D7;rw[r1]at p3;cases p3;exact⟨v,cs,ns,r1,p1,p2,r2,r3,r4,r5,p4⟩
 have Vv:0∉ms:=fun hm=>by
  obtain⟨e',sz',cc,w9⟩:=uV.1 0 hm;rw[Ql]at w9;cases w9
 have Vw:0∉qs:=fun hm=>by
  obtain⟨_,e',sz',cc,w9⟩:=uV.2 0 hm;rw[Ql]at w9;cases w9
 obtain⟨QD,g,cs',T,hk0,hg,DI,bb,OW,hbz⟩:=hs1.ob 0 _ (show(kill By.H ms)[0]?=_ by rw[cU Vv];exact Ql);have R2:∀c,vg v0=some c->cs'.size=3/\cs'[0]?=some c:=fun c hc=>QD.2 c hc g cs' T hk0 hg
 have QD:=QD.1;have e0:HA v0=.pointer (some ⟨g,0,none⟩):=by rw[QD]at hk0;exact nQ hk0
 have DI:Θ1 g=2:=DI;have qC:∀m e sz rows,m∉ms->By.H[m]?=some (.row .sh e sz rows)->∃v cs ns,κ0 m=some v/\0<sz/\(∀r∈rows,r.length=sz)/\w'.ownsRow 0 e sz v rows.length cs/\iB w' cs rows.flatten ns/\(∀b∈ns,Θ1 b=0)/\∀g,v.ownBlock=some g->Θ1 g=m+2:=by
  intro m e sz rows hnm hH;obtain⟨p1,p2,v2,cs,ns,p3,p4,p5,p6,p7⟩:=hs1.ob m _ (show(kill By.H ms)[m]?=_ by rw[cU hnm];exact hH);exact⟨v2,cs,ns,p3,p1,p2,p4,p5,p7,p6⟩
 obtain⟨c,tt,uu,vZ,rZ⟩:=sX (w:=w') (vs:=.agg cs'::vs) (fun b hb=>(hu1.free b hb).1) hq qC hs0.jg NU MN Ag (by simp;omega) (fun i d hd=>by
  cases i with
  |zero=>
   simp at hd;subst hd;have:=B5.agg _ _ _ OW;exact⟨_,bb,rfl,.v (by simpa using this),hbz⟩
  |succ i=>
   obtain⟨v,b,k1,k2,k3⟩:=m4 i d (by simpa using hd);exact⟨v,b,by simpa using k1,k2,fun x hx=>DF x (m5 x (k3 x hx))⟩) hm1
 cases vZ with
 |cons _ _ _ _ b3 b2 t3 t2 u3 u2 JT nO=>
 have DB:∃v,(results fn a'.tmps).run P w'=.ok v w'/\rz w' v (AQ es) b2 t2 u2:=by
  have hrun:(results fn a'.tmps).run P w'=.ok (if h:vs.toArray.size=1 then vs.toArray[0]else .tuple vs.toArray) w':=by
   rw[results_eq,jv];simp[m1]
  cases nO with
  |nil=>exact⟨.tuple #[],by simpa using hrun,.iz [] [] [] [] [] .nil⟩
  |cons v vs d es b1 b2 t1 t2 u1 u2 hv nO=>
   cases nO with
   |nil=>
    simp only[dS];exact⟨v,by simpa using hrun,.v hv⟩
   |cons v2 vs d2 es b3 b4 t3 t4 u3 u4 F9 nO=>exact⟨.tuple (v::v2::vs).toArray,by simpa using hrun,.iz _ _ _ _ _ (.cons _ _ _ _ _ _ _ _ _ _ hv (.cons _ _ _ _ _ _ _ _ _ _ F9 nO))⟩
 obtain⟨v,Jn,EU⟩:=DB;have vc:∀b∈t3++t2,Wr w' b:=by
  intro b hb;rcases aJ.1 hb with hb|hb
  ·exact B7 JT b hb
  ·exact B6 EU b hb
 refine⟨vb,hs0.defers,hs0.stays,v,g,cs',T,b2,t2,u2,b3,t3,u3,Jn,e0,hg,R2,EU,JT.JA,fun b hb=>⟨fun hlt hx=>?_,fun e=>?_,fun ht=>?_⟩,rZ.nd,fun b hb=>?_,fun b hb=>?_⟩
 ·have:=rZ.zero b hb;rw[<-(hs1.old b hlt hx).1];exact this
 ·have:=rZ.zero b hb;subst e;omega
 ·obtain⟨⟨m,_,hΘ⟩,_⟩:=rZ.top b ht;have:=rZ.zero b hb;omega
 ·rcases rZ.mem b hb with h|⟨m,hm,hρ⟩
  ·obtain⟨⟨m,hm,hΘ⟩,_⟩:=rZ.top b h;refine⟨.inl (hs1.mine b (by omega)),fun e=>?_,vc b h⟩;subst e;rw[DI]at hΘ;have:m=0:=by omega
   subst this;exact Vw hm
  ·have:=hu1.free b (by omega);refine⟨this.2.1,fun e=>?_,this.2.2⟩;have h0:=this.1;subst e;omega
 ·obtain⟨⟨m,hm,hΘ⟩,h2⟩:=rZ.top b hb;exact⟨h2,hs1.mine b (by omega)⟩
theorem tB.len{vs:av}{ds:aG}{bs:aI}(h:tB w κ vs ds bs):vs.length=ds.length:=by
 induction h with
 |nil=>rfl
 |cons v vs d ds b1 b2 h1 _ ih=>simp[ih]
def QY(Γ:nR)(u:Value)(rows:List aG):Prop:=
 (∀b,¬Γ.U b)/\∃c bs,vg u=some c/\Rd Γ.W0 c (.sl rows) bs/\∀b∈bs,b<Γ.W0.heap.size/\¬Γ.X b/\Γ.Θ0 b=0
theorem iA.of{f:FuncId}{fn:Func}{c:Code}{cells cells' pP ds Dp:aG}{obs:ah}{d:D}(hf:P.funcs[f]?=some fn)(hb:fn.body=some c)(hn:(fn.name== "runtime.NumGoroutine")=false)
 (hI:sB 1 (.agg cells::ds)=(.agg pP::Dp,obs)) (hl:Dp.length+1<=fn.ntmps)
 (h:(∀x∈(D.agg cells::ds).map D.Lg,kj x)->∀(v0:Value) (Γ:nR),Γ.nt=fn.ntmps->(obs=[]->pP.length=3->∀rows,pP[0]?=some (.sl rows)->QY Γ v0 rows)->AW P Γ c (J8 P fn v0 cells' d) ⟨qf 0 (.ptr 0 0::Dp),.yB pP v0::obs⟩):iA P f cells cells' ds d:=by
 refine⟨⟨fn,hf,by simp[hb],hn⟩,?_⟩;intro w Θ g cs T args bs ts us hvs hg hargs hz hown h1 Sm hts hnd mN;have Ff:=hargs.shown;obtain⟨L,q1,q2,rfl,rfl,q6,q5⟩:=hargs.inst 1;rw[hI]at q1 q5;have q1:L.map Fs.ob=obs:=q1;refine calls_of_wp hf hb ?_;let v0:Value:=.pointer (some ⟨g,0,none⟩)
 let u0:Value:=if cs.size=3 then .tuple ⟨[v0,cs.toList.headD undef]⟩else v0
 let κ0:Nat->Option Value:=fun i=>if i=0 then some v0 else(L[i-1]?).map Fs.v
 let Θ0:Nat->Nat:=fun b=>if b=g then 2 else match AX L b with|some i=>i+3|none=>Θ b
 let ρ0:Nat->Nat:=fun b=>match mI L b with|some i=>i+2|none=>0
 let Γ:nR:=⟨w,Θ0,fun b=>b=g\/b∈L.flatMap Fs.ts,fn.ntmps,fun b=>b∈L.flatMap Fs.bl,hvs⟩
 have V1:g<w.heap.size:=(aV.1 hg).1;have hk0:κ0 0=some v0:=rfl;have Oe:∀i x,L[i]?=some x->κ0 (i+1)=some x.v:=fun i x hx=>by simp[κ0,hx]
 have hnm:Names κ0 1 L:=fun i x hx=>by rw[Nat.add_comm];exact Oe i x hx
 obtain⟨Qg,hrd,hb0⟩:=q5 κ0 hnm;have hlen:=hrd.len;have NV:∀(i:Nat) x b,L[i]?=some x->x.v.ownBlock=some b->b∈L.flatMap Fs.ts:=fun i x b hx hb'=>bQ.2 ⟨x,aD hx,by simp[Fs.ts,hb']⟩
 have Fh:∀(i:Nat) x b,L[i]?=some x->x.v.ownBlock=some b->Θ0 b=i+3:=by
  intro i x b hx hb';have:=(hts b (NV i x b hx hb')).2.2;simp only[Θ0,zN hnd hx hb'];rw[ai this]
 have EX:∀b,Θ b=0->Θ0 b=0:=by
  intro b h0;have e1:b≠g:=fun e=>by subst e;omega
  have e2:b∉L.flatMap Fs.ts:=fun e=>by have:=(hts b e).1;omega
  simp only[Θ0,oX e2];rw[ai e1,h0]
 have Jj:∀(i:Nat) x b,L[i]?=some x->b∈x.ns->Θ0 b=0:=fun i x b hx hb'=>EX b ((mN b (lP hx hb')).1 (tR hnd hx hb'))
 have qz:∀b,Θ0 b≠Θ b->b=g\/b∈L.flatMap Fs.ts:=by
  intro b hne;by_cases e:b=g
  ·exact .inl e
  ·refine .inr (cS fun ht=>hne ?_);simp only[Θ0,oX ht];rw[ai e]
 have FY:∀(j:Nat) o,obs[j]?=some o->∃x,L[j]?=some x/\o=x.ob:=by
  intro j o hj;rw[<-q1,bK]at hj;cases hx:L[j]? with
  |none=>simp[hx]at hj
  |some x=>simp[hx]at hj;exact⟨x,rfl,hj.symm⟩
 have Jl:obs.length=L.length:=by rw[<-q1];simp
 have JT:∃b',dF w κ0 cs.toList pP b'/\∀b∈b',Θ0 b=0:=by
  obtain⟨v,b',k1,k2,k3⟩:=hrd.at (i:=0) (d:=.agg pP) rfl;simp at k1;subst k1;exact⟨b',k2.JA,fun b hb'=>EX b (hz b (hb0 b (k3 b hb')))⟩
 have hpt:HA u0=v0:=by simp only[u0];split<;>rfl
 have hkp:∀c,vg u0=some c->cs.size=3/\cs[0]?=some c:=by
  intro c hc;simp only[u0]at hc;split at hc
  ·rename_i h3;refine⟨h3,?_⟩;simp only[vg,aP]at hc;have Ie:cs.toList.length=3:=by simpa using h3
   rw[<-fU];cases Q9:cs.toList with
   |nil=>rw[Q9]at Ie;simp at Ie
   |cons x xs=>rw[Q9]at hc;simp only[List.headD_cons]at hc;subst hc;rfl
  ·cases hc
 have R5:cs.size=3->∃c,vg u0=some c/\cs[0]?=some c:=by
  intro h3;have:vg u0=some (cs.toList.headD undef):=by simp only[u0];rw[bD h3];rfl
  exact⟨_,this,(hkp _ this).2⟩
 have hs:cR Γ ⟨qf 0 (.ptr 0 0::Dp),.yB pP u0::obs⟩ κ0 Θ0 {tmps:=(v0::args).toArray++Array.replicate (fn.ntmps-(v0::args).toArray.size) undef,defers:=[]} w:=by
  refine⟨rfl,?_,fun i hi=>?_,?_,?_,?_,?_,?_,?_,⟨rfl,rfl,rfl,b9 _,fun _ _ _=>rfl⟩,⟨ρ0,?_,?_,?_⟩⟩
  ·simp only[aT]at hlen;simp[Γ];omega
  ·simp only[aT]at hi;simp only[κ0];rw[ai (by omega),bY (by omega)];rfl
  ·intro id u hu;simp only[κ0]at hu;split at hu
   ·cases hu;rfl
   ·cases hx:L[id-1]? with
    |none=>simp[hx]at hu
    |some x=>simp[hx]at hu;subst hu;exact(q2 x (aD hx)).2.2.2.2
  ·intro t;rw[yz];simp only[pM,ue,sx];have Gp:∀v,(v0::args)[t]?=some v->((v0::args).toArray++Array.replicate (fn.ntmps-(v0::args).toArray.size) undef).getD t undef=v:=by
    intro v hv;have hlt:=(aB.1 hv).1;rw[bP,dW (by simpa using hlt)];simp only[dM,hv,mY]
   cases t with
   |zero=>
    refine⟨[],?_,by simp⟩;rw[Gp v0 rfl];exact .v (.cell (.ptr 0 0 g hk0))
   |succ s=>
    rw[gE];cases hd:Dp[s]? with
    |none=>exact⟨[],.of (.any _),by simp⟩
    |some x=>
     obtain⟨v,b',k1,k2,k3⟩:=hrd.at (i:=s+1) (d:=x) (by simpa using hd);rw[Gp v (by simpa using k1)];exact⟨b',.v k2,fun b hb'=>EX b (hz b (hb0 b (k3 b hb')))⟩
  ·intro j o hj;cases j with
   |zero=>
    simp at hj;subst hj;obtain⟨b',k1,k2⟩:=JT;refine⟨⟨by rw[hpt];exact hk0,fun c hc g2 Sk T2 hk2 Gn=>?_⟩,g,cs,T,hk0,hg,by simp[Θ0],b',k1,k2⟩;have e3:Value.pointer (some ⟨g,0,none⟩)=.pointer (some ⟨g2,0,none⟩):=nQ (hk0.symm.trans hk2);cases e3;rw[hg]at Gn;cases Gn;exact hkp c hc
   |succ j=>
    obtain⟨x,hx,rfl⟩:=FY j o (by simpa using hj);exact Fs.rel (q2 x (aD hx)) (Oe j x hx) (fun b hb'=>Fh j x b hx hb') (fun b hb'=>Jj j x b hx hb') fun hs' b hb'=>EX b (hz b (q6 x (aD hx) hs' b hb'))
  ·intro b hb';by_cases e:Θ0 b=Θ b
   ·exact hown b (by rw[<-e];exact hb')
   ·rcases qz b e with rfl|ht
    ·exact V1
    ·exact hown b (by have:=(hts b ht).1;omega)
  ·intro b hlt hx;refine⟨rfl,?_⟩;have e:Θ0 b=Θ b:=cS fun e=>hx (qz b e)
   rw[e];exact h1 b
  ·intro b hb';refine .inr (qz b fun e=>?_);have:=h1 b;omega
  ·intro b hb';cases Ic:mI L b with
   |none=>simp[ρ0,Ic]at hb'
   |some i=>
    obtain⟨x,hx,sF⟩:=mZ Ic;exact⟨Jj i x b hx sF,.inr (lP hx sF),(mN b (lP hx sF)).2⟩
  ·intro id e sz rows hj;cases id with
   |zero=>simp at hj
   |succ j=>
    obtain⟨x,hx,Hw⟩:=FY j _ (by simpa using hj);obtain⟨hsh,rfl,rfl,rfl⟩:=Fs.Bs Hw.symm;have p4:=(q2 x (aD hx)).uq hsh;obtain⟨p1,p2,p3,_,_⟩:=q2 x (aD hx);exact⟨x.v,x.cs,x.ns,Oe j x hx,p3,p4,zD hnd hx,fun b hb'=>by simp[ρ0,tD hnd hx hb']⟩
  ·intro id o hj;cases id with
   |zero=>simp at hj;subst hj;trivial
   |succ j=>
    obtain⟨x,hx,Hw⟩:=FY j _ (by simpa using hj);subst Hw;exact Fs.plain x
 have hold:obs=[]->pP.length=3->∀rows,pP[0]?=some (.sl rows)->QY Γ u0 rows:=by
  intro ho Ie rows Ii;have hL:L=[]:=br (by rw[<-Jl,ho];rfl);refine⟨fun b hb'=>by simp[Γ,hL]at hb',?_⟩;obtain⟨b',k1,k2⟩:=JT;obtain⟨v,b1,p1,_,p3,p4⟩:=k1.at Ii;obtain⟨c,q6,q7⟩:=R5 (by have:=k1.length;rw[Ie]at this;simpa using this);have:v=c:=by
   rw[fU,q7]at p1;cases p1;rfl
  subst this;have RF:Rd w v (.sl rows) b1:=by cases p3 with|pure h=>exact h
  refine⟨v,b1,q6,RF,fun b hb'=>⟨RF.lt b hb',fun hx=>?_,k2 b (p4 b hb')⟩⟩;have h0:=k2 b (p4 b hb');rcases hx with rfl|hx
  ·simp[Θ0]at h0
  ·simp[hL]at hx
 refine wp_mono (h Ff u0 Γ rfl hold _ _ _ _ hs) ?_;rintro x a' w' ⟨By,κ1,Θ1,hs0,Oq⟩;obtain⟨vb,hdf,hst,v,g',cs',T',b2,t2,u2,b3,t3,u3,hrun,e0,hg',WW,hres,TT,TP,wo,o4,ht'⟩:=J8.out hs0 Oq;obtain rfl:g=g':=by
  have e1:Value.pointer (some ⟨g,0,none⟩)=.pointer (some ⟨g',0,none⟩):=hpt.symm.trans e0;cases e1;rfl
 have post:a'.defers=[]/\∃v',(results fn a'.tmps).run P w'=.ok v' w'/\∃v cs' T' b2 t2 u2 b3 t3 u3,Ending.returned v'=.returned v/\w'.os=w.os/\w'.tape=w.tape/\w'.output=w.output/\w.heap.size<=w'.heap.size/\
  (∀b,b<w.heap.size->b≠g->b∉L.flatMap Fs.ts->w'.heap[b]?=w.heap[b]?)/\w'.heap[g]?=some (.cells cs' T' (0,0))/\(cs.size=3->cs'.size=3/\cs'[0]?=cs[0]?)/\
  rz w' v d b2 t2 u2/\mR w' cs'.toList cells' b3 t3 u3/\(∀b∈b3++b2,(b<w.heap.size->Θ b=0\/b∈L.flatMap Fs.ts)/\b≠g/\b∉t3++t2)/\(u3++u2).Nodup/\
  (∀b∈u3++u2,(w.heap.size<=b\/b∈L.flatMap Fs.bl)/\b≠g/\Wr w' b)/\∀b∈t3++t2,b∈u3++u2/\(w.heap.size<=b\/b∈L.flatMap Fs.ts):=by
  refine⟨hdf,v,hrun,v,cs',T',b2,t2,u2,b3,t3,u3,rfl,hst.os,hst.tape,hst.output,hst.size,fun b hlt hne hnt=>hst.block b hlt (fun hx=>hx.elim hne hnt),hg',(fun h3=>by obtain⟨c,q6,q7⟩:=R5 h3;obtain⟨q8,q9⟩:=WW c q6;exact⟨q8,q9.trans q7.symm⟩),hres,TT,fun b hb'=>?_,wo,fun b hb'=>?_,fun b hb'=>?_⟩
  ·obtain⟨k1,k2,k3⟩:=TP b hb';refine⟨fun hlt=>?_,k2,k3⟩;by_cases ht:b∈L.flatMap Fs.ts
   ·exact .inr ht
   ·refine .inl ?_;have:=k1 hlt (fun hx=>hx.elim k2 ht);have e:Θ0 b=Θ b:=cS fun e=>(qz b e).elim k2 ht
    rw[<-e];exact this
  ·obtain⟨k1,k2,k3⟩:=o4 b hb';refine⟨?_,k2,k3⟩;rcases k1 with(k1|k1|k1)|k1
   ·exact .inl k1
   ·exact absurd k1 k2
   ·exact .inr (uj k1)
   ·exact .inr k1
  ·obtain⟨k1,k2⟩:=ht' b hb';refine⟨k1,?_⟩;have:=(o4 b k1).2.1;rcases k2 with k2|k2|k2
   ·exact .inl k2
   ·exact absurd k2 this
   ·exact .inr k2
 rcases vb with rfl|rfl
 ·exact post
 ·exact post
theorem Ix{o:Oper}{f t id:Nat}{xs:Array Operand}{ty:Array TypeId}{x0:Operand}{xr:List Operand}{ob:Ob}{zc cells cells' ds:aG}{d:D}{nz:List (List (Option (Nat×Nat)))}{ms qs:aI}
 (hop:o.op=.call {callee:=.value (.func f),args:=xs,argTypes:=ty}) (hd:o.dst=some t) (hg:o.guard=none) (ht:t<Γ.nt)
 (hxs:xs.toList=x0::xr) (hx0:st.ev x0=.ptr id 0) (hH:st.H[id]?=some ob) (qS:ob.Gg=some zc)
 (vb:rB st.H nz (.agg zc::xr.map st.ev)=some (.agg cells::ds,ms,qs)) (CA:ms.Nodup) (Ag:qs.Nodup) (MN:∀m∈qs,m∉ms) (ir:iA P f cells cells' ds d)
 (h:AO P Γ all rest Q ⟨(t,(jG (st.H.length+(iv st.H.length cells').2.length) d).1)::st.σ,
  (kill st.H (ms++qs)).set id (ob.re (iv st.H.length cells').1)++((iv st.H.length cells').2++(jG (st.H.length+(iv st.H.length cells').2.length) d).2)⟩):AO P Γ all (o::rest) Q st:=by
 intro κ Θ a w hs;have uV:=pJ vb;obtain⟨ρ,hu⟩:=hs.mG;obtain⟨Θ1,ρ1,hs1,hu1,hm1,DF,Ij⟩:=cR.z8 ms hs hu CA (fun m hm=>by
  obtain⟨e,sz,rows,hH⟩:=uV.1 m hm;exact⟨_,e,sz,rows,hH,rfl⟩)
 have Hu:id<st.H.length:=(aB.1 hH).1;have V3:∀k e sz rows,st.H[id]?≠some (.row k e sz rows):=fun k e sz rows e1=>by rw[hH]at e1;cases e1;cases qS
 have Tj:id∉ms:=fun hm=>by obtain⟨e',sz',cc,w9⟩:=uV.1 id hm;exact V3 _ _ _ _ w9
 have Tk:id∉qs:=fun hm=>by obtain⟨_,e',sz',cc,w9⟩:=uV.2 id hm;exact V3 _ _ _ _ w9
 have D7:(kill st.H ms)[id]?=some ob:=by rw[cU Tj];exact hH
 have Oj:=hs1.ob id _ D7;obtain⟨g,cs,T,hk0,Hs,DI,bb,OW,hbz⟩:=Oj.cs qS;have V1:g<w.heap.size:=(aV.1 Hs).1;have hq:∀m e sz rows,st.H[m]?=some (.row .uq e sz rows)->∃v cs ns,κ m=some v/\0<sz/\(∀r∈rows,r.length=sz)/\w.ownsRow 0 e sz v rows.length cs/\oq w (ny e) 0 cs rows.flatten ns/\ns.Nodup/\(∀b∈ns,ρ1 b=m+1)/\∀g,v.ownBlock=some g->Θ1 g=m+2:=by
  intro m e sz rows hH;have hnm:m∉ms:=fun hm=>by
   obtain⟨e',sz',cc,w9⟩:=uV.1 m hm;rw[hH]at w9;cases w9
  have D7:(kill st.H ms)[m]?=some (.row .uq e sz rows):=by rw[cU hnm];exact hH
  obtain⟨v,cs,ns,r1,r2,r3,r4,r5⟩:=hu1.rows m e sz rows D7;obtain⟨p1,p2,v2,_,_,p3,_,_,p4,_⟩:=hs1.ob m _ D7;rw[r1]at p3;cases p3;exact⟨v,cs,ns,r1,p1,p2,r2,r3,r4,r5,p4⟩
 have qC:∀m e sz rows,m∉ms->st.H[m]?=some (.row .sh e sz rows)->∃v cs ns,κ m=some v/\0<sz/\(∀r∈rows,r.length=sz)/\w.ownsRow 0 e sz v rows.length cs/\iB w cs rows.flatten ns/\(∀b∈ns,Θ1 b=0)/\∀g,v.ownBlock=some g->Θ1 g=m+2:=by
  intro m e sz rows hnm hH;obtain⟨p1,p2,v2,cs,ns,p3,p4,p5,p6,p7⟩:=hs1.ob m _ (show(kill st.H ms)[m]?=_ by rw[cU hnm];exact hH);exact⟨v2,cs,ns,p3,p1,p2,p4,p5,p7,p6⟩
 obtain⟨bs,ts,us,vZ,rZ⟩:=sX (w:=w) (vs:=.agg cs::xr.map a.eval) (fun b hb=>(hu1.free b hb).1) hq qC hs.jg vb MN Ag (by simp) (fun i d hd=>by
  cases i with
  |zero=>
   simp at hd;subst hd;have:=B5.agg _ _ _ OW;exact⟨_,bb,rfl,.v (by simpa using this),hbz⟩
  |succ i=>
   rw[gE,bK]at hd;cases hx:xr[i]? with
   |none=>rw[hx]at hd;cases hd
   |some x=>
    rw[hx]at hd;simp only[bW,aP]at hd;subst hd;obtain⟨b,r,z⟩:=hs.ev x;exact⟨a.eval x,b,by simp[hx],r,fun y hy=>DF y (z y hy)⟩) hm1
 let Θc:Nat->Nat:=fun b=>if Θ1 b=0 then 0 else 1
 have qz:∀b,Θc b=0↔Θ1 b=0:=fun b=>by simp only[Θc];split<;>simp_all
 have yq:∀b∈ts,∃m∈qs,Θ1 b=m+2:=fun b hb=>(rZ.top b hb).1
 have UC:∀b∈ts,b≠g:=fun b hb e=>by
  obtain⟨m,hm,hΘ⟩:=yq b hb;subst e;rw[DI]at hΘ;exact Tk (by
   have:id=m:=by omega
   rw[this];exact hm)
 have Fg:C2 w fun b=>b=g\/b∈ts:=by
  obtain⟨B,v1,v2⟩:=hs1.QO;refine⟨B,v1,fun b hB=>⟨(v2 b hB).2.1,fun hb'=>?_⟩⟩;have hm:qF Γ b:=by
   rcases hb' with rfl|hb'
   ·exact hs1.mine b (by omega)
   ·obtain⟨m,hm,hΘ⟩:=yq b hb';exact hs1.mine b (by omega)
  rcases hm with q|q
  ·have:=(v2 b hB).1;omega
  ·exact(v2 b hB).2.2 q
 have hwr:∀b∈us,Wr w b:=by
  intro b hb;rcases rZ.mem b hb with h|⟨m,hm,hρ⟩
  ·exact zZ vZ b h
  ·exact(hu1.free b (by omega)).2.2
 have hc:=ir.2 w Θc g cs T (xr.map a.eval) bs ts us Fg Hs vZ (fun b hb=>(qz b).2 (rZ.zero b hb)) (fun b hb=>hs1.own b (fun e=>hb ((qz b).2 e))) (fun b=>by simp only[Θc];split<;>omega)
  (by simp only[Θc];rw[ai (by omega)]) (fun b hb=>by
   obtain⟨m,hm,hΘ⟩:=yq b hb;exact⟨by simp only[Θc];rw[ai (by omega)],(rZ.top b hb).2,UC b hb⟩) rZ.nd (fun b hb=>⟨fun hnt=>by
   rcases rZ.mem b hb with h|⟨m,hm,hρ⟩
   ·exact absurd h hnt
   ·exact(qz b).2 (hu1.free b (by omega)).1,hwr b hb⟩)
 refine wpList_plain hg fun K hK=>?_
 unfold Oper.wp;rw[oK hop ir.1,Oper.upon_enter];have e0:xs.map a.eval=(.pointer (some ⟨g,0,none⟩)::xr.map a.eval).toArray:=by
  obtain⟨b0,r0,_⟩:=hs.ev x0;rw[hx0]at r0;obtain⟨g',hk',hv⟩:=r0.qP;rw[hk0]at hk';cases hk';rw[<-mW,eU,hxs];simp[hv]
 rw[e0];refine hc.mono ?_;rintro x w' ⟨v,cs',T',b2,t2,u2,b3,t3,u3,rfl,k1,k2,k3,k4,Fm,kg,NY,PJ,X0,kb,Lc,ku,kt⟩;show K (a.put o.dst v) w';rw[hd];let N:=st.H.length
 have hs2:=hs1.forget (id::qs);have TL:(kill st.H ms).length=N:=dO _ _;simp only[TL]at hs2;let Θ2:Nat->Nat:=fun b=>if(id::qs).any (fun m=>Θ1 b==m+2)then N+2 else Θ1 b
 have hs2:cR Γ ⟨st.σ,kill (kill st.H ms) (id::qs)⟩ κ Θ2 a w:=hs2;have BR:∀b,Θ1 b=0->Θ2 b=0:=fun b hb=>by
  simp only[Θ2];rw[ai,hb];intro h;obtain⟨m,_,hm⟩:=cB.1 h;simp[hb]at hm
 have ve:∀b,b=g\/b∈ts->Θ2 b=N+2:=by
  intro b hb;simp only[Θ2];rw[bD];rcases hb with rfl|hb
  ·exact cB.2 ⟨id,by simp,by simp[DI]⟩
  ·obtain⟨m,hm,hΘ⟩:=yq b hb;exact cB.2 ⟨m,by simp[hm],by simp[hΘ]⟩
 have LZ:qe Γ (kill (kill st.H ms) (id::qs)) κ Θ2 w ρ1:=by
  refine⟨fun b hb=>?_,fun j e sz rows hj=>?_,fun j o hj=>?_⟩
  ·obtain⟨q1,q2⟩:=hu1.free b hb;exact⟨BR b q1,q2⟩
  ·rcases jH hj with h|⟨_,h⟩
   ·cases h
   ·exact hu1.rows j e sz rows h
  ·rcases jH hj with h|⟨_,h⟩
   ·subst h;trivial
   ·exact hu1.more j o h
 obtain⟨Lb,a1,a2,a3,a4,a6,a5⟩:=X0.inst N;obtain⟨Ld,c1,c2,c3,c4,c6,c5⟩:=PJ.inst (N+(iv N cells').2.length);have TI:Lb.length=(iv N cells').2.length:=by rw[<-a1];simp
 let L:=Lb++Ld
 have Ic:u3++u2=L.flatMap Fs.bl:=by simp[L,a3,c3]
 have UB:t3++t2=L.flatMap Fs.ts:=by simp[L,a4,c4]
 rw[Ic]at Lc ku kt;rw[UB]at kt kb;have D8:∀x∈L,x.ok w':=fun x hx=>by
  rcases aJ.1 hx with hx|hx
  ·exact a2 x hx
  ·exact c2 x hx
 have TK:∀x∈L,x.sh=true->∀b∈x.vs,b∈b3++b2:=fun x hx hs' b hb=>by
  rcases aJ.1 hx with hx|hx
  ·exact aJ.2 (.inl (a6 x hx hs' b hb))
  ·exact aJ.2 (.inr (c6 x hx hs' b hb))
 let κ':Nat->Option Value:=fun j=>if j<N then κ j else(L[j-N]?).map Fs.v
 let Θ':Nat->Nat:=fun b=>if b=g then id+2 else match AX L b with|some i=>N+i+2|none=>if Θ2 b=N+2 then 0 else Θ2 b
 let ρ':Nat->Nat:=fun b=>match mI L b with|some i=>N+i+1|none=>ρ1 b
 have hgt:g∉L.flatMap Fs.bl:=fun h=>(ku g h).2.1 rfl
 have RO:Θ' g=id+2:=by simp[Θ']
 have DH:∀(i:Nat) x b,L[i]?=some x->x.v.ownBlock=some b->Θ' b=N+i+2:=by
  intro i x b hx hb;have hb':b∈L.flatMap Fs.ts:=bQ.2 ⟨x,aD hx,by simp[Fs.ts,hb]⟩;have hne:b≠g:=fun e=>hgt (e▸uj hb')
  simp only[Θ',zN Lc hx hb];rw[ai hne]
 have qy:∀b,b≠g->b∉L.flatMap Fs.ts->Θ' b=if Θ2 b=N+2 then 0 else Θ2 b:=by
  intro b h1 h2;simp only[Θ',oX h2];rw[ai h1]
 have hzero:∀b,w.heap.size<=b->Θ2 b=0:=fun b hge=>by
  cases h:Θ2 b with
  |zero=>rfl
  |succ m=>exact absurd (hs2.own b (by omega)) (by omega)
 have Hx:∀b∈b3++b2,Θ' b=0:=by
  intro b hb;obtain⟨p1,p2,p3⟩:=kb b hb;rw[qy b p2 p3];by_cases hlt:b<w.heap.size
  ·rcases p1 hlt with h|h
   ·rw[BR b ((qz b).1 h)];simp
   ·rw[bD (ve b (.inr h))]
  ·rw[hzero b (by omega)];simp
 have Jk:∀(i:Nat) x b,L[i]?=some x->b∈x.ns->Θ' b=0:=by
  intro i x b hx hb;have hmem:=lP hx hb;rw[qy b (ku b hmem).2.1 (tR Lc hx hb)];rcases(ku b hmem).1 with h|h
  ·rw[hzero b h];simp
  ·rcases rZ.mem b h with h|⟨m,hm,hρ⟩
   ·rw[bD (ve b (.inr h))]
   ·rw[BR b (hu1.free b (by omega)).1];simp
 have hn:∀(j:Nat) v,κ j=some v->κ' j=some v:=by
  intro j v hj;have:j<N:=cS fun h=>by rw[hs.jx j (by omega)]at hj;cases hj
  simp only[κ'];rw[bD this];exact hj
 have nZ:Names κ' N L:=by
  intro i x hx;simp only[κ'];rw[ai (by omega),cK,hx];rfl
 have Jg:∀b∈L.flatMap Fs.ts,qF Γ b:=by
  intro b hb;rcases(kt b hb).2 with h|h
  ·exact .inl (fc hs.base h)
  ·obtain⟨m,hm,hΘ⟩:=yq b h;exact hs1.mine b (by omega)
 have k:ed w w' Θ2 Θ' (N+2):=by
  refine⟨by omega,k1,k2,k3,k4,fun b hlt hne=>Fm b hlt (fun e=>hne (ve b (.inl e))) (fun e=>hne (ve b (.inr e))),fun b hlt hne=>?_,fun b hb=>?_⟩
  ·rw[qy b (fun e=>hne (ve b (.inl e))) (fun e=>?_),ai hne];rcases(kt b e).2 with h|h
   ·omega
   ·exact hne (ve b (.inr h))
  ·by_cases e:b=g
   ·subst e;omega
   ·by_cases ht':b∈L.flatMap Fs.ts
    ·obtain⟨x,T,hx⟩:=(ku b (uj ht')).2.2;exact(aV.1 hx).1
    ·rw[qy b e ht']at hb;split at hb
     ·exact absurd rfl hb
     ·exact cF (hs2.own b hb) k4
 have hm:∀b,2<=Θ' b->qF Γ b:=by
  intro b hb;by_cases e:b=g
  ·subst e;exact hs1.mine b (by omega)
  ·by_cases ht':b∈L.flatMap Fs.ts
   ·exact Jg b ht'
   ·rw[qy b e ht']at hb;split at hb
    ·omega
    ·exact hs2.mine b hb
 have mN:=hs2.jI k hn LZ;have xh:((kill st.H (ms++qs)).set id (ob.re (iv N cells').1)).length=N:=by simp[dO,N]
 have Re:∀(a_ bs:aI) (H:ah),kill H (a_++bs)=kill (kill H a_) bs:=by
  intro a_
  induction a_ with
  |nil=>intro bs H;rfl
  |cons x a_ ih=>intro bs H;simp only[iF,kill,ih]
 have Tt:(iv N cells').2++(jG (N+(iv N cells').2.length) d).2=L.map Fs.ob:=by simp[L,a1,c1]
 have key:∀(j:Nat) y,((kill st.H (ms++qs)).set id (ob.re (iv N cells').1)++L.map Fs.ob)[j]?=some y->(∃i x,j=N+i/\L[i]?=some x/\y=x.ob)\/(j=id/\y=ob.re (iv N cells').1)\/(j≠id/\j<N/\(y=.gone\/(kill (kill st.H ms) (id::qs))[j]?=some y)):=by
  intro j y hj;by_cases hlt:j<N
  ·rw[aS (by rw[xh];exact hlt)]at hj;rcases qQ j y hj with⟨rfl,rfl⟩|⟨h1,h2⟩
   ·exact .inr (.inl ⟨rfl,rfl⟩)
   ·refine .inr (.inr ⟨h1,hlt,?_⟩);rcases jH h2 with h|⟨h3,h4⟩
    ·exact .inl h
    ·refine .inr ?_;simp only[aJ,zX]at h3;rw[cU (by simp[h1,h3.2]),cU h3.1];exact h4
  ·rw[aU (by omega),xh,bK]at hj;cases hx:L[j-N]? with
   |none=>simp[hx]at hj
   |some x=>simp[hx]at hj;exact .inl ⟨j-N,x,by omega,hx,hj.symm⟩
 have hs':cR Γ ⟨st.σ,(kill st.H (ms++qs)).set id (ob.re (iv N cells').1)++L.map Fs.ob⟩ κ' Θ' a w':=by
  have AL:∀(j:Nat) y,(kill (kill st.H ms) (id::qs))[j]?=some y->y≠ .gone->∀b,ρ1 b=j+1->ρ' b=j+1:=by
   intro j y hy UH b P3;have hjk:j∉id::qs:=by
    rcases jH hy with h|h
    ·exact absurd h UH
    ·exact h.1
   have hnb:mI L b=none:=by
    cases hi:mI L b with
    |none=>rfl
    |some i=>
     exfalso;obtain⟨x,hx,sF⟩:=mZ hi;obtain⟨z0,_,TA,Vk,Ox⟩:=hu1.free b (by omega);rcases(ku b (lP hx sF)).1 with h|h
     ·have:=(aV.1 Ox).1;omega
     ·rcases rZ.mem b h with h|⟨m,hm',hρ⟩
      ·obtain⟨m,hm',hΘ⟩:=yq b h;omega
      ·exact hjk (by
        have:j=m:=by omega
        rw[this];simp[hm'])
   simp only[ρ',hnb];exact P3
  refine hs2.step k hm hn ?_ ?_ ?_ ⟨ρ',?_,?_,?_⟩
  ·intro i hi;simp only[af,xh,ay]at hi;simp only[κ'];rw[ai (by omega),bY (by omega)];rfl
  ·intro i u o4;simp only[κ']at o4;split at o4
   ·exact hs.jg i u o4
   ·cases hx:L[i-N]? with
    |none=>simp[hx]at o4
    |some x=>simp[hx]at o4;subst o4;exact(D8 x (aD hx)).2.2.2.2
  ·intro j y hj;rcases key j y hj with⟨i,x,rfl,hx,rfl⟩|⟨rfl,rfl⟩|⟨hji,hjl,hy|hy⟩
   ·exact .inr (.inr (Fs.rel (D8 x (aD hx)) (nZ i x hx) (fun g' hg'=>DH i x g' hx hg') (fun b hb'=>Jk i x b hx hb') fun hs' b hb'=>Hx b (TK x (aD hx) hs' b hb')))
   ·obtain⟨b5,r5,s5⟩:=a5 κ' nZ.left;refine .inr (.inr (nh.Ry qS Oj (hn _) (fun c0 u0 Vn c hc g2 Sk T2 hk2 Gn=>by
     subst Vn;rw[hn _ _ hk0]at hk2;cases hk2;rw[kg]at Gn;cases Gn;obtain⟨z1,z2⟩:=Oj.1.2 c hc g cs T hk0 Hs;exact⟨(NY z1).1,(NY z1).2.trans z2⟩) ⟨g,cs',T',hn _ _ hk0,kg,RO,b5,r5,fun b hb=>Hx b (by simp[s5 b hb])⟩))
   ·exact .inl hy
   ·exact .inr (.inl ⟨by omega,hy⟩)
  ·intro b hb;cases C8:mI L b with
   |some i=>
    obtain⟨x,hx,sF⟩:=mZ C8;have hmem:=lP hx sF;refine⟨Jk i x b hx sF,?_,(ku b hmem).2.2⟩;rcases(ku b hmem).1 with h|h
    ·exact .inl (.inl (fc hs.base h))
    ·rcases rZ.mem b h with h|⟨m,hm',hρ⟩
     ·obtain⟨m,hm',hΘ⟩:=yq b h;exact .inl (hs1.mine b (by omega))
     ·exact(hu1.free b (by omega)).2.1
   |none=>
    simp only[ρ',C8]at hb;exact mN.1 b hb
  ·intro j e sz rows hj;rcases key j _ hj with⟨i,x,rfl,hx,hy⟩|⟨rfl,hy⟩|⟨hji,hjl,hy|hy⟩
   ·obtain⟨hsh,rfl,rfl,rfl⟩:=Fs.Bs hy.symm;have q4:=(D8 x (aD hx)).uq hsh;obtain⟨q1,q2,q3,_,_⟩:=D8 x (aD hx);exact⟨x.v,x.cs,x.ns,nZ i x hx,q3,q4,zD Lc hx,fun b hb'=>by simp only[ρ',tD Lc hx hb']⟩
   ·cases ob<;>simp[Ob.re]at hy
   ·cases hy
   ·obtain⟨v',c',bs',r1,r2,r3,r4,r5⟩:=mN.2.1 j e sz rows (by omega) hy;exact⟨v',c',bs',r1,r2,r3,r4,fun b hb'=>AL j _ hy (by simp) b (r5 b hb')⟩
  ·intro j y hj;rcases key j _ hj with⟨i,x,rfl,hx,hy⟩|⟨rfl,hy⟩|⟨hji,hjl,hy|hy⟩
   ·subst hy;exact Fs.plain x
   ·subst hy;cases ob<;>exact Bv.vn rfl
   ·subst hy;trivial
   ·by_cases hg:y=.gone
    ·subst hg;trivial
    ·exact(mN.2.2 j y (by omega) hy).re (AL j y hy hg)
 rw[Tt]at h;obtain⟨b6,r6,s6⟩:=c5 κ' (by rw[<-TI];exact nZ.right);exact hK _ _ (h _ _ _ _ (hs'.set (t:=t) ht r6 fun b hb=>Hx b (by simp[s6 b hb])))
def yI(P:Program)(f:FuncId)(ds cells:aG):Prop:=
 (∃fn,P.funcs[f]?=some fn/\fn.body.isSome=true/\(fn.name== "runtime.NumGoroutine")=false)/\
 ∀(w:World) (Θ:Nat->Nat) (args:av) (bs:aI),C2 w (fun _=>False)->GU w args ds bs->(∀b∈bs,Θ b=0)->(∀b,Θ b≠0->b<w.heap.size)->(∀b,Θ b<=1)->
  Calls P f args.toArray w (fun e w'=>∃g cs T bs',e=.returned (.pointer (some ⟨g,0,none⟩))/\Below w.heap.size w w'/\w.heap.size<=g/\w'.heap[g]?=some (.cells cs T (0,0))/\iB w' cs.toList cells bs'/\
   ∀b∈bs',(b<w.heap.size->Θ b=0)/\b≠g)
def QZ(P:Program)(fn:Func)(cells:aG)(e:Exit)(st:St):Prop:=
 (e=.ret\/e=.normal)/\∃j,xG P st fn.results.toList=some [.ptr j 0]/\st.H[j]?=some (.box cells)/\cells.all D.Dr=true
theorem yI.of{f:FuncId}{fn:Func}{c:Code}{ds cells:aG}(hf:P.funcs[f]?=some fn)(hb:fn.body=some c)(hn:(fn.name== "runtime.NumGoroutine")=false)
 (hl:ds.length<=fn.ntmps) (h:(∀d∈ds,kj d)->∀Γ:nR,Γ.nt=fn.ntmps->AW P Γ c (QZ P fn cells) ⟨qf 0 ds,[]⟩):yI P f ds cells:=by
 refine⟨⟨fn,hf,by simp[hb],hn⟩,?_⟩;intro w Θ args bs hvs hargs hz hown h1;obtain⟨hlen,MI⟩:=hargs.at;refine calls_of_wp hf hb ?_;let Γ:nR:=⟨w,Θ,fun _=>False,fn.ntmps,fun _=>False,hvs⟩
 have hs:cR Γ ⟨qf 0 ds,[]⟩ (fun _=>none) Θ {tmps:=args.toArray++Array.replicate (fn.ntmps-args.toArray.size) undef,defers:=[]} w:=by
  refine⟨rfl,?_,fun _ _=>rfl,by simp,?_,by simp,hown,fun b _ _=>⟨rfl,h1 b⟩,fun b hb=>by have:=h1 b;omega,⟨rfl,rfl,rfl,b9 _,fun _ _ _=>rfl⟩,⟨fun _=>0,by simp,by simp,by simp⟩⟩
  ·simp[Γ];omega
  ·intro t;rw[yz];simp only[pM,ue,sx];cases hd:ds[t]? with
   |none=>exact⟨[],.of (.any _),by simp⟩
   |some x=>
    obtain⟨v,b,k1,k2,k3⟩:=MI t x hd;refine⟨b,?_,fun y hy=>hz y (k3 y hy)⟩;have hlt:t<args.length:=(aB.1 k1).1;have:(args.toArray++Array.replicate (fn.ntmps-args.toArray.size) undef).getD t undef=v:=by
     rw[bP,dW (by simpa using hlt)];simp[k1]
    rw[this];exact .of k2
 refine wp_mono (h hargs.QK Γ rfl _ _ _ _ hs) ?_;rintro e a' w' ⟨By,κ0,Θ0,hs0,vb,j,hres,hH,hp⟩;obtain⟨vs,bs',m1,m2,m3,m4,m5⟩:=wB hs0 hres;obtain⟨v,b,n1,n2,_⟩:=m4 0 _ rfl;obtain⟨g,hk,hv⟩:=n2.qP;obtain⟨g',cs,T,hk',hg,hΘ,bb,OW,hbz⟩:=hs0.ob j _ hH;rw[hk]at hk';cases hk';have UF:vs=[v]:=by
  simp only[aT,bH]at m3
  match vs,m2,n1 with
  | [],_,n1=>simp at n1
  | [x],_,n1=>simp at n1;rw[n1]
  |x::y::r,m2,_=>simp only[aT]at m2;omega
 have hrun:(results fn a'.tmps).run P w'=.ok (.pointer (some ⟨g,0,none⟩)) w':=by
  rw[results_eq,jv];simp[m1,UF,hv]
 have BL:Below w.heap.size w w':=⟨hs0.stays.os,hs0.stays.tape,hs0.stays.output,hs0.stays.size,fun b hb=>hs0.stays.block b hb (fun h=>h)⟩
 have Th:w.heap.size<=g:=by
  rcases hs0.mine g (by omega)with q|q
  ·exact q
  ·exact q.elim
 have post:a'.defers=[]/\∃v,(results fn a'.tmps).run P w'=.ok v w'/\∃g cs T bs',Ending.returned v=.returned (.pointer (some ⟨g,0,none⟩))/\Below w.heap.size w w'/\w.heap.size<=g/\w'.heap[g]?=some (.cells cs T (0,0))/\iB w' cs.toList cells bs'/\
  ∀b∈bs',(b<w.heap.size->Θ b=0)/\b≠g:=by
  refine⟨hs0.defers,_,hrun,g,cs,T,bb,rfl,BL,Th,hg,OW.pure hp,fun b hb'=>⟨fun hlt=>?_,fun e=>?_⟩⟩
  ·exact(hs0.old b hlt (fun h=>h)).1.symm.trans (hbz b hb')
  ·have:=hbz b hb';subst e;omega
 rcases vb with rfl|rfl
 ·exact post
 ·exact post
theorem Iv{o:Oper}{f t:Nat}{xs:Array Operand}{ts:Array TypeId}{ds cells:aG}(hop:o.op=.call {callee:=.value (.func f),args:=xs,argTypes:=ts})(hd:o.dst=some t)(hg:o.guard=none)
 (ht:t<Γ.nt) (hds:wu st.H (xs.toList.map st.ev)=some (ds,[])) (ir:yI P f ds cells)
 (h:AO P Γ all rest Q ⟨(t,.ptr st.H.length 0)::st.σ,st.H++[.box cells]⟩):AO P Γ all (o::rest) Q st:=by
 intro κ Θ a w hs;obtain⟨bs,hargs,hz⟩:=B1 hs hds;have pK:∀b∈bs,Θ b=0:=fun b hb=>(hz b hb).elim id (fun⟨m,h1,_⟩=>by cases h1)
 let Θc:Nat->Nat:=fun b=>if Θ b=0 then 0 else 1
 have qz:∀b,Θc b=0↔Θ b=0:=fun b=>by simp only[Θc];split<;>simp_all
 have hc:=ir.2 w Θc _ bs hs.QN hargs (fun b hb=>(qz b).2 (pK b hb)) (fun b hb=>hs.own b (fun e=>hb ((qz b).2 e))) (fun b=>by simp only[Θc];split<;>omega);refine wpList_plain hg fun K hK=>?_
 unfold Oper.wp;rw[oK hop ir.1,Oper.upon_enter];have e:xs.map a.eval=(xs.toList.map a.eval).toArray:=by rw[<-eU,gD]
 rw[e];refine hc.mono ?_;rintro e w' ⟨g,cs,T,bs',rfl,hb,hge,hg',hrd,OW⟩;show K (a.put o.dst (.pointer (some ⟨g,0,none⟩))) w';rw[hd];let Θ':Nat->Nat:=fun b=>if b=g then st.H.length+2 else Θ b
 have k:ed w w' Θ Θ' (st.H.length+2):=by
  refine⟨by omega,hb.os,hb.tape,hb.output,hb.size,fun b hlt _=>hb.block b hlt,fun b hlt _=>?_,fun b hb'=>?_⟩
  ·simp only[Θ'];rw[ai (by omega)]
  ·simp only[Θ']at hb';split at hb'
   ·rename_i e;subst e;exact(aV.1 hg').1
   ·exact cF (hs.own b hb') hb.size
 have hbz:∀b∈bs',Θ' b=0:=by
  intro b hb';obtain⟨h1,h2⟩:=OW b hb';simp only[Θ'];rw[ai h2];by_cases hlt:b<w.heap.size
  ·exact(qz b).1 (h1 hlt)
  ·cases h:Θ b with
   |zero=>rfl
   |succ m=>exact absurd (hs.own b (by omega)) hlt
 have hs':=hs.push (o:=.box cells) (v:=.pointer (some ⟨g,0,none⟩)) rfl k (hs.qT (fun b hb'=>by
  simp only[Θ']at hb';split at hb'
  ·rename_i e;subst e;exact .inr hge
  ·exact .inl hb')) ⟨g,cs,T,gq _ _ _,hg',by simp[Θ'],bs',dF.tv hrd,hbz⟩ rfl
 refine hK _ _ (h _ _ _ _ (hs'.set (t:=t) (d:=.ptr st.H.length 0) (bs:=[]) ht ?_ (by simp)));exact(qG.ptr st.H.length 0 g (gq _ _ _)).Ck
theorem Ln{o:Oper}{T t id e e' sz h:Nat}{kk:IntKind}{x hi:Operand}{rows:List aG}(hop:o.op=.slice T x none (some hi) none)(hd:o.dst=some t)(hg:o.guard=none)(ht:t<Γ.nt)
 (hT:wE P T=some (e',sz)) (hx:st.ev x=.acc id) (hH:st.H[id]?=some (.row .uq e sz rows)) (hhi:st.ev hi=.int kk (h:Int)) (hle:h<=rows.length)
 (hn:AO P Γ all rest Q ⟨(t,.acc st.H.length)::st.σ,kill st.H [id]++[.row .uq e sz (rows.take h)]⟩):AO P Γ all (o::rest) Q st:=by
 intro κ Θ a w hs;obtain⟨hsz,hrl,v,cs0,Qg,hk,NT,Wi,vc,pK⟩:=hs.ob id _ hH;obtain⟨ρ,hu⟩:=hs.mG;obtain⟨v2,cs,bs,hk2,hown,hrd,hnd,hρ⟩:=hu.rows id e sz rows hH;rw[hk]at hk2;cases hk2;obtain⟨bx,rx,_⟩:=hs.ev x;rw[hx]at rx;obtain⟨R6,_⟩:=rx.nS;have Gv:a.eval x=v:=by rw[hk]at R6;cases R6;rfl
 let v':Value:=match v with| .slice q _ cap=>.slice q h cap|u=>u
 have hc:rQ rows.length ((none:Option Operand).map st.ev) ((some hi).map st.ev)=some (0,h):=by
  simp[rQ,hhi,hle]
 have hrun:∃q cap,v=.slice q rows.length cap/\v'=.slice q h cap/\(execOp a.eval o).run P w=.ok (.value v') w:=by
  obtain⟨o4,zy,yt⟩:=jh hT;have main:∀(q:Option Addr) (cap:Nat),(∀b off sp,q=some ⟨b,off,sp⟩->off=0/\sp=none)->v=.slice q rows.length cap->rows.length<=cap->(execOp a.eval o).run P w=.ok (.value (.slice q h cap)) w:=by
   intro q cap RC hq hcap;obtain⟨hr,hl,hh⟩:=DY (P:=P) (isSlice:=true) (cap:=cap) hs hcap hc;have WC:(if cap=0 then q else q.map (·.add (0*sz)))=q:=by
    split
    ·rfl
    ·cases q with
     |none=>rfl
     |some ad=>simp[Addr.add]
   simp only[pN,bW]at hr;simp only[execOp,hop,Gv,hq];simp[Instr.sliceAt,Instr.slice,run_underlying o4,hr,nP (P:=P) zy w];intro hc0;cases q with
   |none=>rfl
   |some ad=>simp[Addr.add]
  rcases hown.2 with⟨rfl,h0⟩|⟨g,cap,cur,rfl,_,DD,hnc,hcm,hcs,VD⟩
  ·exact⟨none,0,by rw[h0],rfl,main none 0 (by simp) (by rw[h0]) (by omega)⟩
  ·exact⟨some ⟨g,0,none⟩,cap,rfl,rfl,main _ _ (by simp) rfl hnc⟩
 obtain⟨q,cap,Ss,MQ,hrun⟩:=hrun;have qS:v'.ownBlock=v.ownBlock:=by rw[MQ,Ss];cases q<;>rfl
 have hone:v'.oneCell'=true:=by
  have:=hs.jg id v hk;rw[Ss]at this;rw[MQ];exact this
 have hsplit:∃cs' bs',w.ownsRow 0 e sz v' (rows.take h).length cs'/\oq w (ny e) 0 cs' (rows.take h).flatten bs'/\bs'.Nodup/\∀b∈bs',b∈bs:=by
  have e1:rows.flatten=(rows.take h).flatten++(rows.drop h).flatten:=by rw[<-fL,bJ]
  have CC:=hrd;rw[e1]at CC;obtain⟨c1,c2,b1,b2,rfl,rfl,k1,k2⟩:=CC.split;have htl:(rows.take h).length=h:=by rw[bG];omega
  have hc1:c1.length=h*sz:=by rw[k1.length,iq (fun r hr=>hrl r (bL hr)),htl]
  refine⟨c1,b1,?_,k1,(aY.1 hnd).1,fun b hb=>by simp[hb]⟩;rw[htl];refine⟨hc1,?_⟩;rcases hown.2 with⟨QD,h0⟩|⟨g,cap',cur,hvs,WE,DD,hnc,hcm,hcs,VD⟩
  ·left
   have:h=0:=by omega
   subst this;have e3:=QD.symm.trans Ss;simp only[Value.slice.injEq]at e3;exact⟨by rw[MQ,<-e3.1,<-e3.2.2],rfl⟩
  ·right
   have e3:=hvs.symm.trans Ss;simp only[Value.slice.injEq]at e3;refine⟨g,cap',cur,by rw[MQ,<-e3.1,<-e3.2.2],WE,DD,by omega,hcm,hcs,?_⟩;have h3:(cur.toList.take (rows.length*sz)).take (h*sz)=(c1++c2).take (h*sz):=by rw[VD]
   rw[mP,dA (eG _ hle)]at h3;rw[h3];exact ez hc1
 obtain⟨cs',bs',p1,p2,p3,p4⟩:=hsplit;refine wpList_plain hg fun K hK=>?_
 unfold Oper.wp;rw[hrun,Oper.upon_value,hd];let n:=st.H.length
 have Hu:id<n:=(aB.1 hH).1;let Θ':Nat->Nat:=fun b=>if some b=v'.ownBlock then n+2 else Θ b
 let ρ':Nat->Nat:=fun b=>if ρ b=id+1 then n+1 else ρ b
 have La:∀g,v'.ownBlock=some g->Θ g=id+2:=fun g Ht=>vc g (qS▸Ht)
 have k:ed w w Θ Θ' (id+2):=by
  refine⟨by omega,rfl,rfl,rfl,b9 _,fun _ _ _=>rfl,fun b hb hne=>?_,fun b hb=>?_⟩
  ·simp only[Θ'];rw[ai fun e=>hne (La b e.symm)]
  ·simp only[Θ']at hb;split at hb
   ·rename_i e;exact hs.own b (by rw[La b e.symm];omega)
   ·exact hs.own b hb
 have hm:∀b,2<=Θ' b->qF Γ b:=by
  intro b hb;simp only[Θ']at hb;split at hb
  ·rename_i e;exact hs.mine b (by rw[La b e.symm];omega)
  ·exact hs.mine b hb
 have Oi:=ol (hs.jx n (b9 _)) (some v');have mN:=hs.jI k Oi hu;have Bx:∀b∈bs',Θ' b=0:=by
  intro b hb;have h1:=(hu.free b (by rw[hρ b (p4 b hb)];omega)).1;simp only[Θ'];rw[ai fun e=>by have:=La b e.symm;omega];exact h1
 have key:∀(j:Nat) y,(kill st.H [id]++[.row .uq e sz (rows.take h)])[j]?=some y->(j=n/\y=.row .uq e sz (rows.take h))\/(j≠n/\(y=.gone\/(j∉[id]/\st.H[j]?=some y))):=by
  intro j y hj;rcases sV j y hj with⟨h1,h2⟩|⟨h1,h2⟩
  ·rw[dO]at h1;exact .inl ⟨h1,h2⟩
  ·rw[dO]at h1;exact .inr ⟨h1,jH h2⟩
 have hs':cR Γ ⟨st.σ,kill st.H [id]++[.row .uq e sz (rows.take h)]⟩ (pL κ n (some v')) Θ' a w:=by
  refine hs.step k hm Oi ?_ ?_ ?_ ⟨ρ',fun b hb=>?_,fun j e2 FA dK hj=>?_,fun j y hj=>?_⟩
  ·intro i hi;simp only[af,aT,bH,dO]at hi;unfold pL;rw[ai (by omega)];exact hs.jx i (by omega)
  ·intro i y hy;unfold pL at hy;split at hy
   ·cases hy;exact hone
   ·exact hs.jg i y hy
  ·intro j y hj;rcases key j y hj with⟨rfl,rfl⟩|⟨_,hy|⟨hjk,hy⟩⟩
   ·exact .inr (.inr ⟨hsz,fun r hr=>hrl r (bL hr),v',cs',bs',gq _ _ _,p1,p2.rd,fun g Ht=>by simp only[Θ'];rw[bD Ht.symm],Bx⟩)
   ·exact .inl hy
   ·exact .inr (.inl ⟨fun e=>hjk (by simp;omega),hy⟩)
  ·refine mN.1 b fun h0=>hb ?_
   simp only[ρ'];rw[ai (by omega)];exact h0
  ·rcases key j _ hj with⟨rfl,hy⟩|⟨_,hy|⟨hjk,hy⟩⟩
   ·simp only[Ob.row.injEq,qZ]at hy;obtain⟨rfl,rfl,rfl⟩:=hy;exact⟨v',cs',bs',gq _ _ _,p1,p2,p3,fun b hb=>by simp only[ρ'];rw[bD (hρ b (p4 b hb))]⟩
   ·cases hy
   ·obtain⟨v3,c3,b3,q1,q2,q3,q4,q5⟩:=mN.2.1 j e2 FA dK (fun e=>hjk (by simp;omega)) hy;refine⟨v3,c3,b3,q1,q2,q3,q4,fun b hb=>?_⟩;have hne:j≠id:=fun e=>hjk (by simp[e])
    simp only[ρ'];rw[ai (by rw[q5 b hb];omega)];exact q5 b hb
  ·rcases key j _ hj with⟨rfl,hy⟩|⟨_,hy|⟨hjk,hy⟩⟩
   ·subst hy;exact Bv.vn rfl
   ·subst hy;trivial
   ·refine(mN.2.2 j y (fun e=>hjk (by simp;omega)) hy).re fun b hb=>?_
    have hne:j≠id:=fun e=>hjk (by simp[e])
    simp only[ρ'];rw[ai (by omega)];exact hb
 refine hK _ _ (hn _ _ _ _ (hs'.set (t:=t) (d:=.acc n) (bs:=[]) ht ?_ (by simp)));exact(qG.acc n _ (gq _ _ _)).Ck
end
end Go.Cx
namespace Go.Cx
open Go.RowKit
section
variable{P:Program}{Γ:nR}{Q:Exit->St->Prop}{st:St}{κ κ':Nat->Option Value}{Θ Θ':Nat->Nat}{a:Act}{w w':World}{all:Array Oper}{rest:List Oper}
theorem cR.PS(hs:cR Γ st κ Θ a w):
 cR Γ ⟨st.σ,st.H++[.mp []]⟩ (pL κ st.H.length (some (.map (some w.heap.size)))) (fun b=>if b=w.heap.size then st.H.length+2 else Θ b) a (w.alloc (.map #[] 0)):=by
 have k:=ed.alloc hs (.map #[] 0) (tag:=st.H.length+2) (by omega);refine hs.push rfl k (hs.qT (fun b hb=>by by_cases e:b=w.heap.size<;>simp_all)) ?_ rfl;exact⟨w.heap.size,#[],0,by simp[pL],heap_alloc_new w _,by simp,rfl,by simp⟩
theorem FC{o:Oper}{T t:Nat}(hop:o.op=.makeMap T none)(hd:o.dst=some t)(hg:o.guard=none)(ht:t<Γ.nt)
 (h:AO P Γ all rest Q ⟨(t,.acc st.H.length)::st.σ,st.H++[.mp []]⟩):AO P Γ all (o::rest) Q st:=by
 intro κ Θ a w hs;have hs':=hs.PS;refine wpList_plain hg fun K hK=>?_
 unfold Oper.wp;have hrun:(execOp a.eval o).run P w=.ok (.value (.map (some w.heap.size))) (w.alloc (.map #[] 0)):=by
  simp[execOp,hop,Instr.makeMap,newObj];rfl
 rw[hrun,Oper.upon_value,hd];refine hK _ _ (h _ _ _ _ (hs'.set (t:=t) (d:=.acc st.H.length) (bs:=[]) ht ?_ (by simp)));exact(qG.acc st.H.length _ (gq _ _ _)).Ck
theorem pZ.push{es:List MapEntry}{kv:List (D×D)}{k v:D}{u x:Value}(h:pZ w es kv)(hk:Rd w u k [])(hv:Rd w x v [])(c:Nat):pZ w (es++[{key:=u,val:=x,born:=c}]) (kv++[(k,v)]):=by
 refine⟨by simp[h.1],fun j e p h1 h2=>?_⟩;by_cases hj:j<es.length
 ·rw[aS hj]at h1;rw[aS (by rw[<-h.1];exact hj)]at h2;exact h.2 j e p h1 h2
 ·rw[aU (by omega)]at h1;rw[aU (by rw[<-h.1];omega),<-h.1]at h2;have e0:j-es.length=0:=by
   have:=(aB.1 h1).1;simp at this;omega
  rw[e0]at h1 h2;simp at h1 h2;subst h1;subst h2;exact⟨hk,hv⟩
theorem pZ.put{es:List MapEntry}{kv:List (D×D)}{k v:D}{u x:Value}(h:pZ w es kv)(hk:Rd w u k [])(hv:Rd w x v [])(i:Nat){es':List MapEntry}(hl:es'.length=es.length)
 (he:∀(j:Nat) e,es'[j]?=some e->(j=i/\e.key=u/\e.val=x)\/(j≠i/\es[j]?=some e)):pZ w es' (kv.set i (k,v)):=by
 refine⟨by simp[hl,h.1],fun j e p h1 h2=>?_⟩;rcases he j e h1 with⟨rfl,h3,h4⟩|⟨hne,h3⟩
 ·have hlt:j<kv.length:=by
   have:=(aB.1 h2).1;simpa using this
  rw[cM hlt]at h2;cases h2;rw[h3,h4];exact⟨hk,hv⟩
 ·rw[bE (lC hne)]at h2;exact h.2 j e p h3 h2
theorem PK{kd:TypeDesc}{k v:D}{u:Value}(C9:xm kd k=true)(hu:Rd w u k []):∀ {es:List MapEntry} {kv kv':List (D×D)} (i:Nat),pZ w es kv->yw k v kv=some kv'->
 (Instr.findNow kd u es i=some none/\kv'=kv++[(k,v)])\/∃j x e,Instr.findNow kd u es i=some (some (i+j,x))/\es[j]?=some e/\e.key=u/\kv'=kv.set j (k,v):=by
 intro es
 induction es with
 |nil=>
  intro kv kv' i hr h;cases kv with
  |nil=>cases h;exact .inl ⟨rfl,rfl⟩
  |cons p kv=>exact absurd hr.1 (by simp)
 |cons e es ih=>
  intro kv kv' i hr h;cases kv with
  |nil=>exact absurd hr.1 (by simp)
  |cons p kv=>
   obtain⟨r1,r2,r3⟩:=hr.cons;simp only[yw]at h;split at h
   ·rename_i hq;cases h;have:=Aw C9 hu r1 hq;exact .inr ⟨0,e.val,e,by simp[Instr.findNow,this.1],rfl,this.2 rfl,rfl⟩
   ·rename_i hq;have CB:=(Aw C9 hu r1 hq).1;cases hk:yw k v kv with
    |none=>rw[hk]at h;cases h
    |some Xf=>
     rw[hk]at h;cases h;rcases ih (i+1) r3 hk with⟨h1,h2⟩|⟨j,x,e',h1,h2,h3,h4⟩
     ·exact .inl ⟨by simpa[Instr.findNow,CB]using h1,by rw[h2];rfl⟩
     ·exact .inr ⟨j+1,x,e',by simp only[Instr.findNow,CB];rw[h1];congr 3;omega,by simpa using h2,h3,by rw[h4];rfl⟩
   ·cases h
theorem Db{kd:TypeDesc}{u:Value}(h:MapKept.IsKey kd u)(n:Nat):Instr.sameBits n u u=true:=by
 cases kd<;>cases u<;>simp[MapKept.IsKey]at h<;>simp[Instr.sameBits]
 all_goals first
  |exact(MapKept.bytes_beq _ _).2 rfl
  |rfl
def D.scalar:D->Bool
 | .str _=>true
 | .int _ _=>true
 | .bool _=>true
 |_=>false
theorem Ey{v:Value}{d:D}{bs:aI}(hd:d.scalar=true)(hu:lD w κ v d bs):Rd w v d []:=by
 cases d<;>simp[D.scalar]at hd
 all_goals cases hu with|v h=>cases h with|cell h=>cases h with|pure h=>cases h<;>(constructor<;>assumption)
theorem Cr{o:Oper}{T id:Nat}{x i y:Operand}{kd:TypeDesc}{dz:D}{kv kv':List (D×D)}(hop:o.op=.mapUpdate T x i y)(hd:o.dst=none)(hg:o.guard=none)
 (hT:IR P T=some (kd,dz)) (hx:st.ev x=.acc id) (hH:st.H[id]?=some (.mp kv)) (C9:xm kd (st.ev i)=true) (hsc:(st.ev y).scalar=true) (hput:yw (st.ev i) (st.ev y) kv=some kv')
 (h:AO P Γ all rest Q ⟨st.σ,st.H.set id (.mp kv')⟩):AO P Γ all (o::rest) Q st:=by
 intro κ Θ a w hs;obtain⟨g,es,c,q1,q2,q3,q4⟩:=hs.ob id _ hH;obtain⟨bs,r,_⟩:=hs.ev x;rw[hx]at r;obtain⟨hk,_⟩:=r.nS;rw[q1]at hk;have Oz:a.eval x=.map (some g):=(nQ hk).symm;obtain⟨bi,ri,_⟩:=hs.ev i;obtain⟨XW,ry,_⟩:=hs.ev y;have hu:=CZ C9 ri;have hv:=Ey hsc ry;obtain⟨kt,et,z,t1,t2,t3,t4⟩:=Br hT;have hik:=Ea C9 hu;have OZ:=MapKept.run_checkKey (P:=P) (w:=w) t2 hik false 9999;have Tg:g<w.heap.size:=(aV.1 q2).1;have Hu:id<st.H.length:=(aB.1 hH).1;have hrun:∃es' c',(execOp a.eval o).run P w=.ok .skip {w with heap:=w.heap.setIfInBounds g (.map es' c')}/\pZ w es'.toList kv':=by
  rcases PK C9 hu 0 q4 hput with⟨hn,rfl⟩|⟨j,x',e,hn,he,Sl,rfl⟩
  ·have JZ:=MapKept.run_findKey (P:=P) (w:=w) t2 hn;refine⟨es.push {key:=a.eval i,val:=a.eval y,born:=c},c+1,?_,?_⟩
   ·simp[execOp,hop,Oz,Instr.mapUpdate,run_underlying t1,MapKept.run_getObj_map q2,OZ,JZ,MapKept.run_setObj_map _ q2]
   ·rw[Array.toList_push];exact q4.push hu hv c
  ·rw[cC]at hn;have JZ:=MapKept.run_findKey (P:=P) (w:=w) t2 hn;have Uy:es[j]?=some e:=by simpa using he
   have hst:(Instr.keyThatStays (((es[j]?).map (·.key)).getD (a.eval i)) (a.eval i)).run P w=.ok (a.eval i) w:=by
    rw[Uy];simp[Instr.keyThatStays,Sl,Db hik]
   refine⟨es.modify j fun e=> {e with key:=a.eval i,val:=a.eval y},c,?_,?_⟩
   ·simp[execOp,hop,Oz,Instr.mapUpdate,run_underlying t1,MapKept.run_getObj_map q2,OZ,JZ,hst,MapKept.run_setObj_map _ q2]
   ·refine q4.put hu hv j (by simp) fun m e' hm=>?_
    rw[fU,oO]at hm;by_cases Tr:j=m
    ·subst Tr;rw[bD rfl,Uy]at hm;cases hm;exact .inl ⟨rfl,rfl,rfl⟩
    ·rw[ai Tr]at hm;exact .inr ⟨lC Tr,by simpa using hm⟩
 obtain⟨es',c',hr,U0⟩:=hrun;have Om:∀b,b≠g->(w.heap.setIfInBounds g (.map es' c'))[b]?=w.heap[b]?:=fun b hb=>by simp[lC hb]
 have k:ed w {w with heap:=w.heap.setIfInBounds g (.map es' c')} Θ Θ (id+2):=by
  refine⟨by omega,rfl,rfl,rfl,by simp,fun b hb hne=>Om b fun e=>hne (e▸q3),fun _ _ _=>rfl,fun b hb=>?_⟩;simpa using hs.own b hb
 have hs':cR Γ ⟨st.σ,st.H.set id (.mp kv')⟩ κ Θ a {w with heap:=w.heap.setIfInBounds g (.map es' c')}:=by
  obtain⟨ρ,o4⟩:=hs.mG;have mN:=hs.jI k (fun _ _ h=>h) o4;refine hs.step k hs.mine (fun _ _ h=>h) (fun i hi=>hs.jx i (by simpa using hi)) hs.jg ?_ ⟨ρ,mN.1,fun j e sz rows hj=>?_,fun j y hj=>?_⟩
  ·intro j y' hj;by_cases e:j=id
   ·subst e;rw[cM Hu]at hj;cases hj;exact .inr (.inr ⟨g,es',c',q1,by simp[Tg],q3,U0.stay⟩)
   ·rw[bE (lC e)]at hj;exact .inr (.inl ⟨by omega,hj⟩)
  ·by_cases e':j=id
   ·subst e';rw[cM Hu]at hj;cases hj
   ·rw[bE (lC e')]at hj;exact mN.2.1 j e sz rows (by omega) hj
  ·by_cases e':j=id
   ·subst e';rw[cM Hu]at hj;cases hj;trivial
   ·rw[bE (lC e')]at hj;exact mN.2.2 j y (by omega) hj
 refine wpList_plain hg fun K hK=>?_
 unfold Oper.wp;rw[hr,Oper.upon_skip,hd];exact hK _ _ (h _ _ _ _ hs')
end
end Go.Cx

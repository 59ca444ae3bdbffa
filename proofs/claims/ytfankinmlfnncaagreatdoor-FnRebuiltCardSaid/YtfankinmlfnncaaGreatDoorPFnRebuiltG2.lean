/- Calls as contracts of the abstract walk ('Good'): arguments are looked at, results may be handed over whole and new; how a body's abstract walk gives its contract. No condition; plain lemmas. -/
import Derived.Test.YtfankinmlfnncaaGreatDoorPFnRebuiltG1
import Derived.StillTail
import Derived.MapKept
set_option linter.unusedVariables false
set_option linter.unusedSimpArgs false
namespace Go.Cx
open Go.RowKit
inductive Sr(w:World):List Value->List D->List Nat->Prop
 |nil:Sr w [] [] []
 |cons (v:Value) (vs:bY) (d:D) (ds:aL) (b1 b2:aW):Rd w v d b1->Sr w vs ds b2->Sr w (v::vs) (d::ds) (b1++b2)
inductive FV(w:World):Value->D->List Nat->List Nat->List Nat->Prop
 |pure {v:Value} {d:D} {bs:aW}:Rd w v d bs->FV w v d bs [] []
 |fr (v:Value) (e sz:Nat) (rows:List aL) (cs:bY) (ns:aW):0<sz->(∀r∈rows,r.length=sz)->w.ownsRow 0 e sz v rows.length cs->wX w (tr e) 0 cs rows.flatten ns->v.oneCell'=true->
  FV w v (.fr e sz rows) [] v.ownBlock.toList (v.ownBlock.toList++ns)
inductive tV(w:World):List Value->List D->List Nat->List Nat->List Nat->Prop
 |nil:tV w [] [] [] [] []
 |cons (v:Value) (vs:bY) (d:D) (ds:aL) (b1 b2 t1 t2 u1 u2:aW):v.oneCell'=true->FV w v d b1 t1 u1->tV w vs ds b2 t2 u2->tV w (v::vs) (d::ds) (b1++b2) (t1++t2) (u1++u2)
inductive FW(w:World):Value->D->List Nat->List Nat->List Nat->Prop
 |cell {v:Value} {d:D} {bs ts us:aW}:FV w v d bs ts us->FW w v d bs ts us
 |agg (cs:bY) (ds:aL) (bs ts us:aW):tV w cs ds bs ts us->FW w (.agg cs.toArray) (.agg ds) bs ts us
inductive AZ(w:World):List Value->List D->List Nat->List Nat->List Nat->Prop
 |nil:AZ w [] [] [] [] []
 |cons (v:Value) (vs:bY) (d:D) (ds:aL) (b1 b2 t1 t2 u1 u2:aW):FW w v d b1 t1 u1->AZ w vs ds b2 t2 u2->AZ w (v::vs) (d::ds) (b1++b2) (t1++t2) (u1++u2)
inductive zS(w:World):Value->D->List Nat->List Nat->List Nat->Prop
 |v {v:Value} {d:D} {bs ts us:aW}:FW w v d bs ts us->zS w v d bs ts us
 |gL (vs:bY) (ds:aL) (bs ts us:aW):AZ w vs ds bs ts us->zS w (.tuple vs.toArray) (.gL ds) bs ts us
def Good(P:Program)(f:FuncId)(ds:aL)(d:D):Prop:=
 (∃fn,P.funcs[f]?=some fn/\fn.body.isSome=true/\(fn.name== "runtime.NumGoroutine")=false)/\
 ∀(w:World) (Θ:Nat->Nat) (args:bY) (bs:aW),Mx w (fun _=>False)->Sr w args ds bs->(∀b∈bs,Θ b=0)->(∀b,Θ b≠0->b<w.heap.size)->(∀b,Θ b<=1)->
  Calls P f args.toArray w (fun e w'=>∃v bs' ts us,e=.returned v/\Below w.heap.size w w'/\zS w' v d bs' ts us/\(∀b∈bs',b<w.heap.size->Θ b=0)/\(∀b∈bs',b∉ts)/\us.Nodup/\
   (∀b∈us,w.heap.size<=b/\Wr w' b)/\∀b∈ts,b∈us)
def Ct(n:Nat)(d:D):D×bQ:=match d with
 | .fr e sz rows=>(.acc n,[.row .uq e sz rows])
 |d=>(d,[])
def nh(n:Nat):aL->aL×bQ
 | []=>([],[])
 |d::ds=>((Ct n d).1::(nh (n+(Ct n d).2.length) ds).1,(Ct n d).2++(nh (n+(Ct n d).2.length) ds).2)
def Bi(n:Nat)(d:D):D×bQ:=match d with
 | .agg cs=>(.agg (nh n cs).1,(nh n cs).2)
 |d=>Ct n d
def yQ(n:Nat):aL->aL×bQ
 | []=>([],[])
 |d::ds=>((Bi n d).1::(yQ (n+(Bi n d).2.length) ds).1,(Bi n d).2++(yQ (n+(Bi n d).2.length) ds).2)
def oV(n:Nat)(d:D):D×bQ:=match d with
 | .gL vs=>(.gL (yQ n vs).1,(yQ n vs).2)
 |d=>Bi n d
structure Fs where
 v:Value
 e:Nat
 sz:Nat
 rows:List aL
 cs:bY
 ns:aW
def Fs.ob(x:Fs):Ob:=.row .uq x.e x.sz x.rows
def Fs.ok(w:World)(x:Fs):Prop:=0<x.sz/\(∀r∈x.rows,r.length=x.sz)/\w.ownsRow 0 x.e x.sz x.v x.rows.length x.cs/\wX w (tr x.e) 0 x.cs x.rows.flatten x.ns/\x.v.oneCell'=true
def Fs.bl(x:Fs):aW:=x.v.ownBlock.toList++x.ns
def Fs.ts(x:Fs):aW:=x.v.ownBlock.toList
section
variable{P:Program}{Γ:uB}{Q:Exit->St->Prop}{st:St}{κ κ':Nat->Option Value}{Θ Θ':Nat->Nat}{a:Act}{w w':World}{all:Array Oper}{rest:List Oper}
def Names(κ:Nat->Option Value)(n:Nat)(L:List Fs):Prop:=∀(i:Nat) x,L[i]?=some x->κ (n+i)=some x.v
theorem Names.left{n:Nat}{L1 L2:List Fs}(h:Names κ n (L1++L2)):Names κ n L1:=fun i x hx=>h i x (by
 rw[ar (aF.1 hx).1];exact hx)
theorem Names.right{n:Nat}{L1 L2:List Fs}(h:Names κ n (L1++L2)):Names κ (n+L1.length) L2:=fun i x hx=>by
 have:=h (L1.length+i) x (by rw[b8 (by omega)];simpa using hx);rw[<-this];congr 1;omega
theorem FV.inst{v:Value}{d:D}{bs ts us:aW}(h:FV w v d bs ts us)(n:Nat):
 ∃L:List Fs,L.map Fs.ob=(Ct n d).2/\(∀x∈L,x.ok w)/\us=L.flatMap Fs.bl/\ts=L.flatMap Fs.ts/\∀κ,Names κ n L->yb w κ v (Ct n d).1 bs:=by
 cases h with
 |pure h=>
  have e:Ct n d=(d,[]):=by cases h<;>rfl
  rw[e];exact⟨[],rfl,by simp,rfl,rfl,fun κ _=>.pure h⟩
 |fr e sz rows cs ns h1 h2 h3 h4 h5=>
  refine⟨[⟨v,e,sz,rows,cs,ns⟩],rfl,?_,by simp[Fs.bl],by simp[Fs.ts],fun κ hk=>?_⟩
  ·intro x hx;simp at hx;subst hx;exact⟨h1,h2,h3,h4,h5⟩
  ·exact .acc n v (by simpa using hk 0 _ rfl)
theorem tV.inst{vs:bY}{ds:aL}{bs ts us:aW}(h:tV w vs ds bs ts us)(n:Nat):
 ∃L:List Fs,L.map Fs.ob=(nh n ds).2/\(∀x∈L,x.ok w)/\us=L.flatMap Fs.bl/\ts=L.flatMap Fs.ts/\∀κ,Names κ n L->fK w κ vs (nh n ds).1 bs:=by
 induction h generalizing n with
 |nil=>exact⟨[],rfl,by simp,rfl,rfl,fun κ _=>.nil⟩
 |cons v vs d ds b1 b2 t1 t2 u1 u2 h1 h2 _ ih=>
  obtain⟨L1,q1,q2,q3,q4,q5⟩:=h2.inst n;obtain⟨L2,p1,p2,p3,p4,p5⟩:=ih (n+(Ct n d).2.length);have hl:L1.length=(Ct n d).2.length:=by rw[<-q1];simp
  refine⟨L1++L2,by simp[nh,q1,p1],?_,by simp[q3,p3],by simp[q4,p4],fun κ hk=>?_⟩
  ·intro x hx;rcases aR.1 hx with hx|hx
   ·exact q2 x hx
   ·exact p2 x hx
  ·refine .cons _ _ _ _ _ _ h1 (q5 κ hk.left) (p5 κ ?_);rw[<-hl];exact hk.right
theorem FW.inst{v:Value}{d:D}{bs ts us:aW}(h:FW w v d bs ts us)(n:Nat):
 ∃L:List Fs,L.map Fs.ob=(Bi n d).2/\(∀x∈L,x.ok w)/\us=L.flatMap Fs.bl/\ts=L.flatMap Fs.ts/\∀κ,Names κ n L->Le w κ v (Bi n d).1 bs:=by
 cases h with
 |cell h=>
  by_cases tP:∃ds,d=.agg ds
  ·obtain⟨ds,rfl⟩:=tP;cases h with
   |pure h=>
    cases h with
    |agg cs _ _ h=>
     have:∀(vs:bY) (es:aL) (b:aW),mm w vs es b->∀n,(nh n es).1=es/\(nh n es).2=[]:=by
      intro vs es
      induction es generalizing vs with
      |nil=>intro b _ n;exact⟨rfl,rfl⟩
      |cons e es ih=>
       intro b hh n;cases hh with
       |cons v vs _ _ b1 b2 _ h2 h3=>
        have e1:Ct n e=(e,[]):=by cases h2<;>rfl
        have:=ih vs b2 h3 n;simp[nh,e1,this]
     obtain⟨e1,e2⟩:=this _ _ _ h n;refine⟨[],by simp[Bi,e2],by simp,rfl,rfl,fun κ _=>?_⟩;simp only[Bi,e1];exact .agg _ _ _ (fK.Cu h)
  ·have e:Bi n d=Ct n d:=by cases d<;>first|rfl|exact absurd ⟨_,rfl⟩ tP
   rw[e];obtain⟨L,q1,q2,q3,q4,q5⟩:=h.inst n;exact⟨L,q1,q2,q3,q4,fun κ hk=>.cell (q5 κ hk)⟩
 |agg cs ds bs ts us h=>
  obtain⟨L,q1,q2,q3,q4,q5⟩:=h.inst n;exact⟨L,q1,q2,q3,q4,fun κ hk=>.agg _ _ _ (q5 κ hk)⟩
theorem AZ.inst{vs:bY}{ds:aL}{bs ts us:aW}(h:AZ w vs ds bs ts us)(n:Nat):
 ∃L:List Fs,L.map Fs.ob=(yQ n ds).2/\(∀x∈L,x.ok w)/\us=L.flatMap Fs.bl/\ts=L.flatMap Fs.ts/\∀κ,Names κ n L->Bz w κ vs (yQ n ds).1 bs:=by
 induction h generalizing n with
 |nil=>exact⟨[],rfl,by simp,rfl,rfl,fun κ _=>.nil⟩
 |cons v vs d ds b1 b2 t1 t2 u1 u2 h2 _ ih=>
  obtain⟨L1,q1,q2,q3,q4,q5⟩:=h2.inst n;obtain⟨L2,p1,p2,p3,p4,p5⟩:=ih (n+(Bi n d).2.length);have hl:L1.length=(Bi n d).2.length:=by rw[<-q1];simp
  refine⟨L1++L2,by simp[yQ,q1,p1],?_,by simp[q3,p3],by simp[q4,p4],fun κ hk=>?_⟩
  ·intro x hx;rcases aR.1 hx with hx|hx
   ·exact q2 x hx
   ·exact p2 x hx
  ·refine .cons _ _ _ _ _ _ (q5 κ hk.left) (p5 κ ?_);rw[<-hl];exact hk.right
theorem zS.inst{v:Value}{d:D}{bs ts us:aW}(h:zS w v d bs ts us)(n:Nat):
 ∃L:List Fs,L.map Fs.ob=(oV n d).2/\(∀x∈L,x.ok w)/\us=L.flatMap Fs.bl/\ts=L.flatMap Fs.ts/\∀κ,Names κ n L->rW w κ v (oV n d).1 bs:=by
 cases h with
 |v h=>
  have hnt:∀vs,d≠ .gL vs:=by
   intro vs e;subst e;cases h with
   |cell h=>cases h with|pure h=>cases h
  have e:oV n d=Bi n d:=by cases d<;>first|rfl|exact absurd rfl (hnt _)
  rw[e];obtain⟨L,q1,q2,q3,q4,q5⟩:=h.inst n;exact⟨L,q1,q2,q3,q4,fun κ hk=>.v (q5 κ hk)⟩
 |gL vs ds bs ts us h=>
  obtain⟨L,q1,q2,q3,q4,q5⟩:=h.inst n;exact⟨L,q1,q2,q3,q4,fun κ hk=>.gL _ _ _ (q5 κ hk)⟩
theorem Pq{v:Value}{d:D}{bs ts us:aW}(h:FV w v d bs ts us):∀b∈ts,Wr w b:=by
 cases h with
 |pure=>simp
 |fr e sz rows cs ns h1 h2 h3 h4 h5=>
  intro b hb;simp only[lJ]at hb;rcases h3.2 with⟨rfl,_⟩|⟨g,cap,cur,rfl,_,hg,_⟩
  ·simp[Value.ownBlock]at hb
  ·simp[Value.ownBlock]at hb;subst hb;exact⟨_,_,hg⟩
theorem U7{vs:bY}{ds:aL}{bs ts us:aW}(h:tV w vs ds bs ts us):∀b∈ts,Wr w b:=by
 induction h with
 |nil=>simp
 |cons v vs d ds b1 b2 t1 t2 u1 u2 h1 h2 _ ih=>
  intro b hb;rcases aR.1 hb with hb|hb
  ·exact Pq h2 b hb
  ·exact ih b hb
theorem Lg{v:Value}{d:D}{bs ts us:aW}(h:FW w v d bs ts us):∀b∈ts,Wr w b:=by
 cases h with
 |cell h=>exact Pq h
 |agg cs ds bs ts us h=>exact U7 h
theorem Jn{vs:bY}{ds:aL}{bs ts us:aW}(h:AZ w vs ds bs ts us):∀b∈ts,Wr w b:=by
 induction h with
 |nil=>simp
 |cons v vs d ds b1 b2 t1 t2 u1 u2 h2 _ ih=>
  intro b hb;rcases aR.1 hb with hb|hb
  ·exact Lg h2 b hb
  ·exact ih b hb
theorem Lf{v:Value}{d:D}{bs ts us:aW}(h:zS w v d bs ts us):∀b∈ts,Wr w b:=by
 cases h with
 |v h=>exact Lg h
 |gL vs ds bs ts us h=>exact Jn h
def ix{α:Type}(p:α->Bool):List α->Option Nat
 | []=>none
 |x::r=>if p x then some 0 else(ix p r).map (· +1)
theorem zA{α:Type}{p:α->Bool}:∀ {l:List α} {i:Nat},ix p l=some i->∃x,l[i]?=some x/\p x=true:=by
 intro l
 induction l with
 |nil=>intro i h;cases h
 |cons x r ih=>
  intro i h;simp only[ix]at h;split at h
  ·cases h;exact⟨x,rfl,by assumption⟩
  ·cases hr:ix p r with
   |none=>simp[hr]at h
   |some j=>simp[hr]at h;subst h;simpa using ih hr
theorem Es{α:Type}{p:α->Bool}:∀ {l:List α} {i:Nat} {x:α},l[i]?=some x->p x=true->(∀(j:Nat) y,l[j]?=some y->p y=true->j=i)->ix p l=some i:=by
 intro l
 induction l with
 |nil=>intro i x h;simp at h
 |cons y r ih=>
  intro i x h hp hu;simp only[ix];split
  ·rename_i hy;rw[hu 0 y rfl hy]
  ·rename_i hy;cases i with
   |zero=>simp at h;subst h;exact absurd hp hy
   |succ i=>
    rw[ih (by simpa using h) hp (fun j z hz Z4=>by have:=hu (j+1) z (by simpa using hz) Z4;omega)];rfl
theorem vf{α:Type}{f:α->aW}:∀ {l:List α},(l.flatMap f).Nodup->∀(i j:Nat) x y b,l[i]?=some x->l[j]?=some y->b∈f x->b∈f y->i=j:=by
 intro l
 induction l with
 |nil=>intro _ i j x y b hi;simp at hi
 |cons z r ih=>
  intro hnd i j x y b hi hj B7 hby;simp only[fI]at hnd;obtain⟨n1,n2,n3⟩:=bH.1 hnd;cases i with
  |zero=>
   simp at hi;subst hi;cases j with
   |zero=>rfl
   |succ j=>
    simp at hj;exact absurd rfl (n3 b B7 b (cA.2 ⟨y,aE hj,hby⟩))
  |succ i=>
   simp at hi;cases j with
   |zero=>
    simp at hj;subst hj;exact absurd rfl (n3 b hby b (cA.2 ⟨x,aE hi,B7⟩))
   |succ j=>simp at hj;rw[ih n2 i j x y b hi hj B7 hby]
theorem dl.Nk(hs:dl Γ st κ Θ a w)(hb:Below w.heap.size w w')(L:List Fs)(hL:∀x∈L,x.ok w')(hnd:(L.flatMap Fs.bl).Nodup)(hfr:∀b∈L.flatMap Fs.bl,w.heap.size<=b/\Wr w' b)
 (n:Nat) (H':bQ) (hfree:∀i,i<L.length->κ (n+i)=none) (hlen':st.H.length<=H'.length) (hin:n+L.length<=H'.length)
 (key:∀(j:Nat) y,H'[j]?=some y->(∃i x,j=n+i/\L[i]?=some x/\y=x.ob)\/((j<n\/n+L.length<=j)/\(y=.gone\/st.H[j]?=some y))):
 ∃κ' Θ',dl Γ ⟨st.σ,H'⟩ κ' Θ' a w'/\Names κ' n L/\(∀(j:Nat) v,κ j=some v->κ' j=some v)/\(∀b,b∉L.flatMap Fs.ts->Θ' b=Θ b)/\(∀j,(j<n\/n+L.length<=j)->κ' j=κ j):=by
 let κ':Nat->Option Value:=fun j=>if j<n\/n+L.length<=j then κ j else(L[j-n]?).map Fs.v
 let Θ':Nat->Nat:=fun b=>match ix (fun x:Fs=>x.v.ownBlock==some b) L with|some i=>n+i+2|none=>Θ b
 have hu1:∀(i j:Nat) x y b,L[i]?=some x->L[j]?=some y->b∈x.bl->b∈y.bl->i=j:=fun i j x y b=>vf hnd i j x y b
 have hts:∀(i:Nat) x b,L[i]?=some x->x.v.ownBlock=some b->Θ' b=n+i+2:=by
  intro i x b hi VS;have:ix (fun x:Fs=>x.v.ownBlock==some b) L=some i:=Es hi (by simp[VS]) (fun j y hj hy=>by
   simp only[cc]at hy;exact hu1 j i y x b hj hi (by simp[Fs.bl,hy]) (by simp[Fs.bl,VS]))
  simp only[Θ',this]
 have hno:∀b,b∉L.flatMap Fs.ts->Θ' b=Θ b:=by
  intro b hb';simp only[Θ'];cases h:ix (fun x:Fs=>x.v.ownBlock==some b) L with
  |none=>rfl
  |some i=>
   obtain⟨x,hx,hp⟩:=zA h;exact absurd (cA.2 ⟨x,aE hx,by simp only[cc]at hp;simp[Fs.ts,hp]⟩) hb'
 have hsub:∀b,b∈L.flatMap Fs.ts->b∈L.flatMap Fs.bl:=by
  intro b h;obtain⟨x,hx,B7⟩:=cA.1 h;exact cA.2 ⟨x,hx,by simp only[Fs.bl,Fs.ts]at B7⊢;exact aR.2 (.inl B7)⟩
 have hold:∀b,b<w.heap.size->Θ' b=Θ b:=fun b hlt=>hno b (fun h=>by have:=(hfr b (hsub b h)).1;omega)
 have hzero:∀b,w.heap.size<=b->Θ b=0:=fun b hge=>by
  cases h:Θ b with
  |zero=>rfl
  |succ m=>exact absurd (hs.own b (by omega)) (by omega)
 have hn:∀(j:Nat) v,κ j=some v->κ' j=some v:=by
  intro j v hj;have:j<n\/n+L.length<=j:=by
   rcases eL j n with h|h
   ·exact .inl h
   ·rcases eL j (n+L.length)with h2|h2
    ·have:=hfree (j-n) (by omega);rw[show n+(j-n)=j from by omega,hj]at this;cases this
    ·exact .inr h2
  simp only[κ'];rw[bN this];exact hj
 have vN:Names κ' n L:=by
  intro i x hx;have hlt:=(aF.1 hx).1;simp only[κ'];rw[b9 (by omega),dP,hx];rfl
 have hTb:∀b,Θ' b≠0->Θ b≠0\/b∈L.flatMap Fs.bl:=by
  intro b h;by_cases hbt:b∈L.flatMap Fs.ts
  ·exact .inr (hsub b hbt)
  ·rw[hno b hbt]at h;exact .inl h
 have k:iJ w w' Θ Θ' (H'.length+2):=by
  refine⟨by omega,hb.os,hb.tape,hb.output,hb.size,fun b hlt _=>hb.block b hlt,fun b hlt _=>hold b hlt,fun b h=>?_⟩;rcases hTb b h with h|h
  ·exact cu (hs.own b h) hb.size
  ·obtain⟨cs,T,hx⟩:=(hfr b h).2;exact(bD.1 hx).1
 have hm:∀b,2<=Θ' b->xX Γ b:=by
  intro b h;by_cases hbt:b∈L.flatMap Fs.ts
  ·exact .inl (dX hs.base (hfr b (hsub b hbt)).1)
  ·rw[hno b hbt]at h;exact hs.mine b h
 obtain⟨ρ,hu⟩:=hs.rV;have sA:=hs.nk k hn hu;let ρ':Nat->Nat:=fun b=>match ix (fun x:Fs=>x.ns.contains b) L with|some i=>n+i+1|none=>ρ b
 have hns:∀(i:Nat) x b,L[i]?=some x->b∈x.ns->ρ' b=n+i+1:=by
  intro i x b hi VS;have:ix (fun x:Fs=>x.ns.contains b) L=some i:=Es hi (by simpa using VS) (fun j y hj hy=>by
   exact hu1 j i y x b hj hi (by simp only[Fs.bl];exact aR.2 (.inr (by simpa using hy))) (by simp only[Fs.bl];exact aR.2 (.inr VS)))
  simp only[ρ',this]
 have yH:∀(i:Nat) x b,L[i]?=some x->b∈x.ns->Θ' b=0:=by
  intro i x b hi VS;have hmem:b∈L.flatMap Fs.bl:=cA.2 ⟨x,aE hi,by simp only[Fs.bl];exact aR.2 (.inr VS)⟩;rw[hno b ?_]
  ·exact hzero b (hfr b hmem).1
  ·intro h;obtain⟨y,hy,hby⟩:=cA.1 h;obtain⟨j,hj⟩:=dN hy;have:=hu1 j i y x b hj hi (by simp only[Fs.bl,Fs.ts]at hby⊢;exact aR.2 (.inl hby)) (by simp only[Fs.bl];exact aR.2 (.inr VS));subst this;rw[hj]at hi;cases hi;have J1:x.bl.Nodup:=by
    have:∀(l:List Fs),(l.flatMap Fs.bl).Nodup->∀x∈l,x.bl.Nodup:=by
     intro l
     induction l with
     |nil=>intro _ x hx;cases hx
     |cons z r ih=>
      intro hnd x hx;simp only[fI]at hnd;obtain⟨n1,n2,_⟩:=bH.1 hnd;rcases bL.1 hx with rfl|hx
      ·exact n1
      ·exact ih n2 x hx
    exact this L hnd x hy
   simp only[Fs.bl]at J1;exact(bH.1 J1).2.2 b hby b VS rfl
 have hlen:∀i,H'.length<=i->κ' i=none:=by
  intro i hi;simp only[κ'];rw[bN (by omega)];exact hs.pH i (by omega)
 have M9:∀(j:Nat) y,H'[j]?=some y->j+2≠H'.length+2:=fun j y hj=>by
  have:=(aF.1 hj).1;omega
 refine⟨κ',Θ',?_,vN,hn,hno,fun j hj=>bN hj⟩;have Ki:∀b,b<w.heap.size->ρ' b=ρ b:=by
  intro b hlt';simp only[ρ'];cases hi:ix (fun x:Fs=>x.ns.contains b) L with
  |none=>rfl
  |some i=>
   obtain⟨x,hx,hp⟩:=zA hi;have:=(hfr b (cA.2 ⟨x,aE hx,by simp only[Fs.bl];exact aR.2 (.inr (by simpa using hp))⟩)).1;omega
 have a1E:∀b,ρ b≠0->b<w.heap.size:=fun b hb'=>by
  obtain⟨_,_,cs',T,hx⟩:=hu.free b hb';exact(bD.1 hx).1
 refine hs.step k hm hn hlen ?_ ?_ ⟨ρ',?_,?_,?_⟩
 ·intro i u vo;simp only[κ']at vo;split at vo
  ·exact hs.oN i u vo
  ·cases hx:L[i-n]? with
   |none=>simp[hx]at vo
   |some x=>simp[hx]at vo;subst vo;exact(hL x (aE hx)).2.2.2.2
 ·intro j y hj;have hjl:=M9 j y hj;rcases key j y hj with⟨i,x,rfl,hx,rfl⟩|⟨hlt,hy|hy⟩
  ·obtain⟨q1,q2,q3,q4,_⟩:=hL x (aE hx);exact .inr (.inr ⟨q1,q2,x.v,x.cs,x.ns,vN i x hx,q3,q4.rd,fun g hg=>hts i x g hx hg,fun b hb'=>yH i x b hx hb'⟩)
  ·exact .inl hy
  ·exact .inr (.inl ⟨hjl,hy⟩)
 ·intro b hb';by_cases h:∃(i:Nat) (x:Fs),L[i]?=some x/\b∈x.ns
  ·obtain⟨i,x,hx,B7⟩:=h;have hmem:b∈L.flatMap Fs.bl:=cA.2 ⟨x,aE hx,by simp only[Fs.bl];exact aR.2 (.inr B7)⟩;exact⟨yH i x b hx B7,.inl (.inl (dX hs.base (hfr b hmem).1)),(hfr b hmem).2⟩
  ·have:ρ' b=ρ b:=by
    simp only[ρ'];cases hi:ix (fun x:Fs=>x.ns.contains b) L with
    |none=>rfl
    |some i=>
     obtain⟨x,hx,hp⟩:=zA hi;exact absurd ⟨i,x,hx,by simpa using hp⟩ h
   rw[this]at hb';exact sA.1 b hb'
 ·intro j e sz rows hj;have hjl:=M9 j _ hj;rcases key j _ hj with⟨i,x,rfl,hx,hy⟩|⟨hlt,hy|hy⟩
  ·simp only[Fs.ob,Ob.row.injEq,qz]at hy;obtain⟨rfl,rfl,rfl⟩:=hy;obtain⟨q1,q2,q3,q4,_⟩:=hL x (aE hx);have J1:x.ns.Nodup:=by
    have:∀(l:List Fs),(l.flatMap Fs.bl).Nodup->∀x∈l,x.bl.Nodup:=by
     intro l
     induction l with
     |nil=>intro _ x hx;cases hx
     |cons z r ih=>
      intro hnd x hx;simp only[fI]at hnd;obtain⟨n1,n2,_⟩:=bH.1 hnd;rcases bL.1 hx with rfl|hx
      ·exact n1
      ·exact ih n2 x hx
    exact(bH.1 (this L hnd x (aE hx))).2.1
   exact⟨x.v,x.cs,x.ns,vN i x hx,q3,q4,J1,fun b hb'=>hns i x b hx hb'⟩
  ·cases hy
  ·obtain⟨v,cs,bs,q1,q2,q3,q4,q5⟩:=sA.2.1 j e sz rows hjl hy;exact⟨v,cs,bs,q1,q2,q3,q4,fun b hb'=>(Ki b (a1E b (by rw[q5 b hb'];omega))).trans (q5 b hb')⟩
 ·intro j y hj;have hjl:=M9 j _ hj;rcases key j _ hj with⟨i,x,rfl,hx,hy⟩|⟨hlt,hy|hy⟩
  ·subst hy;exact Jp.wR rfl
  ·subst hy;trivial
  ·exact(sA.2.2 j y hjl hy).re fun b hb'=>(Ki b (a1E b (by omega))).trans hb'
theorem dl.a07(hs:dl Γ st κ Θ a w)(hb:Below w.heap.size w w')(L:List Fs)(hL:∀x∈L,x.ok w')(hnd:(L.flatMap Fs.bl).Nodup)(hfr:∀b∈L.flatMap Fs.bl,w.heap.size<=b/\Wr w' b):
 ∃κ' Θ',dl Γ ⟨st.σ,st.H++L.map Fs.ob⟩ κ' Θ' a w'/\Names κ' st.H.length L/\(∀(j:Nat) v,κ j=some v->κ' j=some v)/\(∀b,b∉L.flatMap Fs.ts->Θ' b=Θ b):=by
 obtain⟨κ',Θ',h1,h2,h3,h4,_⟩:=hs.Nk hb L hL hnd hfr st.H.length (st.H++L.map Fs.ob) (fun i _=>hs.pH _ (by omega)) (by simp) (by simp) (by
  intro j y hj;by_cases hlt:j<st.H.length
  ·rw[ar hlt]at hj;exact .inr ⟨.inl hlt,.inr hj⟩
  ·rw[b8 (by omega),bt]at hj;cases hx:L[j-st.H.length]? with
   |none=>simp[hx]at hj
   |some x=>simp[hx]at hj;exact .inl ⟨j-st.H.length,x,by omega,hx,hj.symm⟩)
 exact⟨κ',Θ',h1,h2,h3,h4⟩
def VU(H:bQ)(d:D):Option (D×aW):=match d with
 | .acc m=>(match H[m]? with|some (.row _ _ _ rows)=>some (.sl rows,[m])|some (.vq _ rows _)=>some (.sl rows,[m])|some (.tk rows)=>some (.sl rows,[])|_=>none)
 | .ptr _ _=>none
 | .op _ _ _ _=>none
 |d=>some (d.Bo,[])
def RA(H:bQ):aL->Option (aL×aW)
 | []=>some ([],[])
 |d::ds=>match VU H d,RA H ds with|some (e,m),some (es,ms)=>some (e::es,m++ms)|_,_=>none
def Yo(H:bQ)(d:D):Option (D×aW):=match d with
 | .agg cs=>(match RA H cs with|some (es,ms)=>some (.agg es,ms)|none=>none)
 | .gL _=>none
 |d=>VU H d
def GU(H:bQ):aL->Option (aL×aW)
 | []=>some ([],[])
 |d::ds=>match Yo H d,GU H ds with|some (e,m),some (es,ms)=>some (e::es,m++ms)|_,_=>none
def Seen(Θ:Nat->Nat)(ms:aW)(b:Nat):Prop:=Θ b=0\/∃m∈ms,Θ b=m+2
theorem Seen.mono{ms ns:aW}{b:Nat}(h:Seen Θ ms b)(hs:∀m∈ms,m∈ns):Seen Θ ns b:=by
 rcases h with h|⟨m,h1,h2⟩
 ·exact .inl h
 ·exact .inr ⟨m,hs m h1,h2⟩
theorem Yn(hs:dl Γ st κ Θ a w){v:Value}{d e:D}{bs:aW}{ms:aW}(h:VU st.H d=some (e,ms))(hr:yb w κ v d bs)(hz:∀b∈bs,Θ b=0):∃b',Rd w v e b'/\∀b∈b',Seen Θ ms b:=by
 cases hr with
 |pure hr=>
  have:VU st.H d=some (d.Bo,[]):=by cases hr<;>rfl
  rw[this]at h;cases h;exact⟨bs,hr.soft,fun b hb=>.inl (hz b hb)⟩
 |acc m _ hk=>
  simp only[VU]at h;split at h
  ·rename_i k e' sz rows hH;cases h;obtain⟨_,hrl,v2,cs,b2,hk2,hown,rU,hΘ,hd⟩:=hs.ob m _ hH;rw[hk]at hk2;cases hk2;refine⟨_,vO hrl hown rU,fun b hb=>?_⟩;rcases aR.1 hb with hb|hb
   ·simp only[lJ]at hb;exact .inr ⟨m,by simp,hΘ b hb⟩
   ·cases k with
    |cl=>exact .inr ⟨m,by simp,(hd.2.1 b hb).1⟩
    |sh=>exact .inl (hd b hb)
    |uq=>exact .inl (hd b hb)
    |mv n=>exact .inl (hd b hb)
    |ho p n=>exact .inl (hd b hb)
  ·rename_i sz rows u hH;cases h;obtain⟨_,_,v2,b2,hk2,hrd,_,Dl⟩:=hs.ob m _ hH;rw[hk]at hk2;cases hk2;exact⟨b2,hrd,fun b hb=>.inr ⟨m,by simp,(Dl b hb).1⟩⟩
  ·rename_i rows hH;cases h;obtain⟨v2,b2,hk2,hrd,Rz⟩:=hs.ob m _ hH;rw[hk]at hk2;cases hk2;exact⟨b2,hrd,fun b hb=>.inl (Rz b hb)⟩
  ·cases h
 |ptr=>simp[VU]at h
 |op=>simp[VU]at h
theorem a0v(hs:dl Γ st κ Θ a w):∀ {ds es:aL} {vs:bY} {bs ms:aW},RA st.H ds=some (es,ms)->fK w κ vs ds bs->(∀b∈bs,Θ b=0)->∃b',mm w vs es b'/\∀b∈b',Seen Θ ms b:=by
 intro ds
 induction ds with
 |nil=>
  intro es vs bs ms h hr _;simp only[RA,ah,cX]at h;obtain⟨rfl,rfl⟩:=h;cases hr;exact⟨[],.nil,by simp⟩
 |cons d ds ih=>
  intro es vs bs ms h hr hz;simp only[RA]at h;split at h
  ·rename_i e m es' ms' h1 h2;cases h;cases hr with
   |cons v vs _ _ b1 b2 hv hc hcs=>
    obtain⟨c1,q1,q2⟩:=Yn hs h1 hc (fun b hb=>hz b (by simp[hb]));obtain⟨c2,p1,p2⟩:=ih h2 hcs (fun b hb=>hz b (by simp[hb]));refine⟨c1++c2,.cons _ _ _ _ _ _ hv q1 p1,fun b hb=>?_⟩;rcases aR.1 hb with hb|hb
    ·exact(q2 b hb).mono (fun m hm=>by simp[hm])
    ·exact(p2 b hb).mono (fun m hm=>by simp[hm])
  ·cases h
theorem a4G(hs:dl Γ st κ Θ a w){v:Value}{d e:D}{bs ms:aW}(h:Yo st.H d=some (e,ms))(hr:rW w κ v d bs)(hz:∀b∈bs,Θ b=0):∃b',Rd w v e b'/\∀b∈b',Seen Θ ms b:=by
 by_cases tP:∃ds,d=.agg ds
 ·obtain⟨ds,rfl⟩:=tP;obtain⟨cs,rfl,hcs⟩:=hr.FI;simp only[Yo]at h;split at h
  ·rename_i es ms' h1;cases h;obtain⟨b',q1,q2⟩:=a0v hs h1 hcs hz;exact⟨b',.agg _ _ _ q1,q2⟩
  ·cases h
 ·have hc:yb w κ v d bs:=by
   cases hr with
   |v hr=>cases hr with
    |cell hr=>exact hr
    |agg=>exact absurd ⟨_,rfl⟩ tP
   |gL=>simp[Yo]at h
  have e1:Yo st.H d=VU st.H d:=by
   cases d<;>first|rfl|exact absurd ⟨_,rfl⟩ tP|simp[Yo]at h
  rw[e1]at h;exact Yn hs h hc hz
theorem LX(hs:dl Γ st κ Θ a w):∀ {xs:List Operand} {es:aL} {ms:aW},GU st.H (xs.map st.ev)=some (es,ms)->∃b',Sr w (xs.map a.eval) es b'/\∀b∈b',Seen Θ ms b:=by
 intro xs
 induction xs with
 |nil=>
  intro es ms h;simp only[bZ,GU,ah,cX]at h;obtain⟨rfl,rfl⟩:=h;exact⟨[],.nil,by simp⟩
 |cons x xs ih=>
  intro es ms h;simp only[bB,GU]at h;split at h
  ·rename_i e m es' ms' h1 h2;cases h;obtain⟨b0,r0,z0⟩:=hs.ev x;obtain⟨c1,q1,q2⟩:=a4G hs h1 r0 z0;obtain⟨c2,p1,p2⟩:=ih h2;refine⟨c1++c2,.cons _ _ _ _ _ _ q1 p1,fun b hb=>?_⟩;rcases aR.1 hb with hb|hb
   ·exact(q2 b hb).mono (fun m hm=>by simp[hm])
   ·exact(p2 b hb).mono (fun m hm=>by simp[hm])
  ·cases h
def D.ZA(d:D):D:=match d with
 | .fr _ _ rows=>.sl rows
 |d=>d
def D.VT(d:D):D:=match d with
 | .agg cs=>.agg (cs.map D.ZA)
 |d=>d.ZA
theorem tV.Cu{w:World}:∀ {ds:aL} {vs:bY} {bs:aW},mm w vs ds bs->tV w vs ds bs [] []:=by
 intro ds
 induction ds with
 |nil=>intro vs bs h;cases h;exact .nil
 |cons d ds ih=>
  intro vs bs h;cases h with
  |cons v vs _ _ b1 b2 h1 h2 h3=>exact .cons _ _ _ _ _ _ [] [] [] [] h1 (.pure h2) (ih h3)
theorem FV.Cc{w:World}{v:Value}{d:D}{bs ts us:aW}(h:FV w v d bs ts us):∃b,Rd w v d.ZA b/\∀x∈b,x∈bs\/x∈us:=by
 cases h with
 |pure h=>
  have e:d.ZA=d:=by cases h<;>rfl
  exact⟨_,e.symm▸h,fun x hx=>.inl hx⟩
 |fr e sz rows cs ns h1 h2 h3 h4 h5=>exact⟨_,vO h2 h3 h4.rd,fun x hx=>.inr hx⟩
theorem tV.Cc{w:World}{vs:bY}{ds:aL}{bs ts us:aW}(h:tV w vs ds bs ts us):∃b,mm w vs (ds.map D.ZA) b/\∀x∈b,x∈bs\/x∈us:=by
 induction h with
 |nil=>exact⟨_,.nil,by simp⟩
 |cons v vs d ds b1 b2 t1 t2 u1 u2 h1 h2 _ ih=>
  obtain⟨b,q,s⟩:=h2.Cc;obtain⟨b',q',s'⟩:=ih;refine⟨_,.cons _ _ _ _ _ _ h1 q q',fun x hx=>?_⟩;rcases aR.1 hx with h|h
  ·rcases s x h with h|h<;>simp[h]
  ·rcases s' x h with h|h<;>simp[h]
theorem FW.Cc{w:World}{v:Value}{d:D}{bs ts us:aW}(h:FW w v d bs ts us):∃b,Rd w v d.VT b/\∀x∈b,x∈bs\/x∈us:=by
 cases h with
 |cell h=>
  by_cases tP:∃ds,d=.agg ds
  ·obtain⟨ds,rfl⟩:=tP;cases h with
   |pure h=>cases h with
    |agg cs _ _ h=>
     obtain⟨b,q,s⟩:=(tV.Cu h).Cc;exact⟨_,.agg _ _ _ q,s⟩
  ·have e:d.VT=d.ZA:=by cases d<;>first|rfl|exact absurd ⟨_,rfl⟩ tP
   rw[e];exact h.Cc
 |agg cs ds bs ts us h=>
  obtain⟨b,q,s⟩:=h.Cc;exact⟨_,.agg _ _ _ q,s⟩
def D.Uo(d:D):Bool:=match d with
 | .fr _ _ _=>true
 |d=>d.flat
def D.Qr(d:D):Bool:=match d with
 | .agg cs=>cs.all D.Uo
 |d=>d.Uo
def D.MY(d:D):Bool:=match d with
 | .gL vs=>vs.all D.Qr
 |d=>d.Qr
def D.a3a(d:D):Bool:=match d with
 | .gL _=>false
 |d=>d.Qr
theorem FV.own{v:Value}{d:D}{bs ts us:aW}(h:FV w v d bs ts us)(ho:d.Uo=true):bs=[]:=by
 cases h with
 |pure h=>exact h.flat (by cases h<;>exact ho)
 |fr=>rfl
theorem tV.own{vs:bY}{ds:aL}{bs ts us:aW}(h:tV w vs ds bs ts us)(ho:ds.all D.Uo=true):bs=[]:=by
 induction h with
 |nil=>rfl
 |cons v vs d ds b1 b2 t1 t2 u1 u2 h1 h2 _ ih=>
  simp only[dA,aV]at ho;rw[h2.own ho.1,ih ho.2];rfl
theorem FW.own{v:Value}{d:D}{bs ts us:aW}(h:FW w v d bs ts us)(ho:d.Qr=true):bs=[]:=by
 cases h with
 |cell h=>
  by_cases tP:∃ds,d=.agg ds
  ·obtain⟨ds,rfl⟩:=tP;cases h with
   |pure h=>
    cases h with
    |agg cs _ _ h=>
     simp only[D.Qr]at ho;have:∀(es:aL) (vs:bY) (b:aW),mm w vs es b->es.all D.Uo=true->es.all D.flat=true:=by
      intro es
      induction es with
      |nil=>intros;rfl
      |cons e es ih=>
       intro vs b hh ho;simp only[dA,aV]at ho⊢;cases hh with
       |cons v vs _ _ b1 b2 _ h2 h3=>exact⟨by cases h2<;>exact ho.1,ih _ _ h3 ho.2⟩
     exact mm.flat h (this _ _ _ h ho)
  ·have e:d.Qr=d.Uo:=by cases d<;>first|rfl|exact absurd ⟨_,rfl⟩ tP
   exact h.own (e▸ho)
 |agg cs ds bs ts us h=>exact h.own ho
theorem AZ.own{vs:bY}{ds:aL}{bs ts us:aW}(h:AZ w vs ds bs ts us)(ho:ds.all D.Qr=true):bs=[]:=by
 induction h with
 |nil=>rfl
 |cons v vs d ds b1 b2 t1 t2 u1 u2 h2 _ ih=>
  simp only[dA,aV]at ho;rw[h2.own ho.1,ih ho.2];rfl
theorem zS.own{v:Value}{d:D}{bs ts us:aW}(h:zS w v d bs ts us)(ho:d.MY=true):bs=[]:=by
 cases h with
 |v h=>
  have hnt:∀vs,d≠ .gL vs:=by
   intro vs e;subst e;cases h with
   |cell h=>cases h with|pure h=>cases h
  have e:d.MY=d.Qr:=by cases d<;>first|rfl|exact absurd rfl (hnt _)
  exact h.own (e▸ho)
 |gL vs ds bs ts us h=>exact h.own ho
theorem wT{o:Oper}{f:FuncId}{xs:Array Operand}{ts:Array TypeId}(hop:o.op=.call {callee:=.value (.func f),args:=xs,argTypes:=ts})
 (hf:∃fn,P.funcs[f]?=some fn/\fn.body.isSome=true/\(fn.name== "runtime.NumGoroutine")=false):
 (execOp a.eval o).run P w=.ok (.enter f (xs.map a.eval)) w:=by
 obtain⟨fn,h1,h2,h3⟩:=hf;have h2':¬fn.body=none:=by intro hb;simp[hb]at h2
 simp only[dK,ne_eq]at h3;simp[execOp,hop,resolve,Deferred.ofValue,Act.eval,invoke,callFunc,h1,h2',h3]
theorem Q7{Q':Exit->Act->World->Prop}{K:Act->World->Prop}{o:Oper}{f t:Nat}{xs:Array Operand}{ts:Array TypeId}{ds:aL}{ms:aW}{d:D}(hs:dl Γ st κ Θ a w)
 (hop:o.op=.call {callee:=.value (.func f),args:=xs,argTypes:=ts}) (hd:o.dst=some t) (ht:t<Γ.nt) (hds:∃bs,Sr w (xs.toList.map a.eval) ds bs/\∀b∈bs,Seen Θ ms b) (hsh:ms=[]\/d.MY=true)
 (ng:Good P f ds d) (hK:∀κ' Θ' a' w',dl Γ ⟨(t,(oV st.H.length d).1)::st.σ,st.H++(oV st.H.length d).2⟩ κ' Θ' a' w'->K a' w'):o.wp P a w K Q':=by
 obtain⟨bs,hargs,hz⟩:=hds;let Θc:Nat->Nat:=fun b=>if Θ b=0\/ms.any (fun m=>Θ b==m+2)then 0 else 1
 have Kh:∀b,Seen Θ ms b->Θc b=0:=by
  intro b h;simp only[Θc];rw[bN];rcases h with h|⟨m,h1,h2⟩
  ·exact .inl h
  ·exact .inr (cy.2 ⟨m,h1,by simp[h2]⟩)
 have hc:=ng.2 w Θc _ bs hs.vok hargs (fun b hb=>Kh b (hz b hb)) (fun b hb=>hs.own b (fun e=>hb (Kh b (.inl e)))) (fun b=>by simp only[Θc];split<;>omega);unfold Oper.wp;rw[wT hop ng.1,Oper.upon_enter];have e:xs.map a.eval=(xs.toList.map a.eval).toArray:=by rw[<-gw,kO]
 rw[e];refine hc.mono ?_;rintro e w' ⟨v,bs',tb,ub,rfl,hb,hr,Mq,htb,hnd,hfr,hsub⟩;show K (a.put o.dst v) w';rw[hd];obtain⟨L,q1,q2,q3,q4,q5⟩:=hr.inst st.H.length;obtain⟨κ',Θ',hs',hnm,_,hno⟩:=hs.a07 hb L q2 (q3▸hnd) (fun b hb'=>hfr b (q3▸hb'));rw[q1]at hs';refine hK κ' Θ' _ w' (hs'.set (t:=t) ht (q5 κ' hnm) fun b hb'=>?_);rw[hno b (q4▸htb b hb')];rcases hsh with MB|hown
 ·by_cases hlt:b<w.heap.size
  ·have h0:=Mq b hb' hlt;simp only[Θc,MB,I0]at h0;by_cases h1:Θ b=0
   ·exact h1
   ·simp[h1]at h0
  ·by_cases h0:Θ b=0
   ·exact h0
   ·exact absurd (hs.own b h0) hlt
 ·rw[hr.own hown]at hb';cases hb'
theorem ZV{Q':Exit->Act->World->Prop}{K:Act->World->Prop}{o:Oper}{f t:Nat}{xs:Array Operand}{ts:Array TypeId}{ds:aL}{ms:aW}{d:D}(hs:dl Γ st κ Θ a w)
 (hop:o.op=.call {callee:=.value (.func f),args:=xs,argTypes:=ts}) (hd:o.dst=some t) (ht:t<Γ.nt) (hds:GU st.H (xs.toList.map st.ev)=some (ds,ms)) (hsh:ms=[]\/d.MY=true)
 (ng:Good P f ds d) (hK:∀κ' Θ' a' w',dl Γ ⟨(t,(oV st.H.length d).1)::st.σ,st.H++(oV st.H.length d).2⟩ κ' Θ' a' w'->K a' w'):o.wp P a w K Q':=
 Q7 hs hop hd ht (LX hs hds) hsh ng hK
def Kk(d:D):Bool:=match d with
 | .agg cs=>cs.all D.Ph
 | .gL _=>false
 |d=>d.Ph
theorem XI{v:Value}{d:D}{bs:aW}(hr:rW w κ v d bs)(h:Kk d=true):Rd w v d bs:=by
 by_cases tP:∃ds,d=.agg ds
 ·obtain⟨ds,rfl⟩:=tP;obtain⟨cs,rfl,hcs⟩:=hr.FI;exact .agg _ _ _ (hcs.pure h)
 ·have hp:d.Ph=true:=by
   cases d<;>first|exact h|exact absurd ⟨_,rfl⟩ tP|simp[Kk]at h
  cases hr with
  |v hr=>cases hr with
   |cell hr=>cases hr with
    |pure hr=>exact hr
    |acc=>simp[D.Ph]at hp
    |ptr=>simp[D.Ph]at hp
    |op=>simp[D.Ph]at hp
   |agg=>exact absurd ⟨_,rfl⟩ tP
  |gL=>simp[Kk]at h
theorem Nl(hs:dl Γ st κ Θ a w):∀ {xs:List Operand},(xs.map st.ev).all Kk=true->∃b',Sr w (xs.map a.eval) (xs.map st.ev) b'/\∀b∈b',Seen Θ [] b:=by
 intro xs
 induction xs with
 |nil=>intro _;exact⟨[],.nil,by simp⟩
 |cons x xs ih=>
  intro h;simp only[bB,dA,aV]at h;obtain⟨b0,r0,z0⟩:=hs.ev x;obtain⟨c2,p1,p2⟩:=ih h.2;refine⟨b0++c2,.cons _ _ _ _ _ _ (XI r0 h.1) p1,fun b hb=>?_⟩;rcases aR.1 hb with hb|hb
  ·exact .inl (z0 b hb)
  ·exact p2 b hb
theorem Va{o:Oper}{f t:Nat}{xs:Array Operand}{ts:Array TypeId}{d:D}(hop:o.op=.call {callee:=.value (.func f),args:=xs,argTypes:=ts})(hd:o.dst=some t)(hg:o.guard=none)
 (ht:t<Γ.nt) (hk:(xs.toList.map st.ev).all Kk=true) (ng:Good P f (xs.toList.map st.ev) d)
 (h:AO P Γ all rest Q ⟨(t,(oV st.H.length d).1)::st.σ,st.H++(oV st.H.length d).2⟩):AO P Γ all (o::rest) Q st:=by
 intro κ Θ a w hs;exact wpList_plain hg fun K hK=>Q7 hs hop hd ht (Nl hs hk) (.inl rfl) ng fun κ' Θ' a' w' hs'=>hK _ _ (h κ' Θ' a' w' hs')
theorem ZE{o:Oper}{f t:Nat}{xs:Array Operand}{ts:Array TypeId}{ds:aL}{ms:aW}{d:D}(hop:o.op=.call {callee:=.value (.func f),args:=xs,argTypes:=ts})(hd:o.dst=some t)(hg:o.guard=none)
 (ht:t<Γ.nt) (hds:GU st.H (xs.toList.map st.ev)=some (ds,ms)) (hsh:ms=[]\/d.MY=true) (ng:Good P f ds d)
 (h:AO P Γ all rest Q ⟨(t,(oV st.H.length d).1)::st.σ,st.H++(oV st.H.length d).2⟩):AO P Γ all (o::rest) Q st:=by
 intro κ Θ a w hs;exact wpList_plain hg fun K hK=>ZV hs hop hd ht hds hsh ng fun κ' Θ' a' w' hs'=>hK _ _ (h κ' Θ' a' w' hs')
def Xo(P:Program)(st:St):ResultVar->Option D
 | .tmp t=>some (lk st.σ t)
 | .cell x T=>match AG P T,lk st.σ x with
  |some ag,.ptr id off=>(match(st.H[id]?).bind Ob.TB with|some cells=>Gi ag (zM P T) cells off|none=>none)
  |_,_=>none
def Gj(P:Program)(st:St):List ResultVar->Option aL
 | []=>some []
 |r::rs=>match Xo P st r,Gj P st rs with|some d,some ds=>some (d::ds)|_,_=>none
def Xq(tmps:Array Value):ResultVar->Sem Value
 | .tmp t=>pure (tmps.getD t undef)
 | .cell a t=>do loadVar t (<-asAddr (tmps.getD a undef))
theorem results_eq(fn:Func)(tmps:Array Value):results fn tmps=(do let vs<-fn.results.mapM (Xq tmps);pure (if h:vs.size=1 then vs[0]else .tuple vs)):=by
 unfold results
 congr 1
theorem Xp(hs:dl Γ st κ Θ a w){r:ResultVar}{d:D}(h:Xo P st r=some d):
 ∃v bs,(Xq a.tmps r).run P w=.ok v w/\rW w κ v d bs/\∀b∈bs,Θ b=0:=by
 cases r with
 |tmp t=>
  simp only[Xo,ah]at h;subst h;obtain⟨bs,hr,hz⟩:=hs.slot t;exact⟨_,bs,by simp[Xq],hr,hz⟩
 |cell x T=>
  have hp:pv P st (.load T (.tmp x))=some d:=by
   simp only[Xo]at h;split at h
   ·rename_i ag id off h1 h2;simp only[pv,h1,St.ev,h2];exact h
   ·cases h
  obtain⟨v,bs,hrun,hr,hz⟩:=MN (o:= {(default:Oper)with op:=.load T (.tmp x)}) hs rfl hp;refine⟨v,bs,?_,hr,hz⟩;simp only[execOp,Act.eval]at hrun;have a8j:∃b off,a.tmps.getD x undef=.pointer (some ⟨b,off,none⟩):=by
   simp only[Xo]at h;split at h
   ·rename_i ag id off h1 h2;obtain⟨b0,r0,_⟩:=hs.slot x;rw[h2]at r0;obtain⟨g,_,hv⟩:=r0.zD;exact⟨g,off,hv⟩
   ·cases h
  obtain⟨b,off,hv⟩:=a8j;simp only[Xq,hv]at hrun⊢;simp only[Instr.loadAt,Instr.sureAddr,Sem.run_bind,Sem.run_pure,Result.andThen_ok]at hrun;simp only[asAddr,Sem.run_bind,Sem.run_pure,Result.andThen_ok];cases hl:(loadVar T ⟨b,off,none⟩).run P w with
  |ok u w1=>simp only[hl,Result.andThen_ok,Result.ok.injEq,Next.value.injEq]at hrun;rw[hrun.1,hrun.2]
  |halt u w1=>simp[hl]at hrun
theorem Bn(hs:dl Γ st κ Θ a w):∀ {rs:List ResultVar} {ds:aL},Gj P st rs=some ds->
 ∃(vs:bY) (bs:aW),(rs.mapM (Xq a.tmps)).run P w=.ok vs w/\
  vs.length=rs.length/\ds.length=rs.length/\(∀(i:Nat) d,ds[i]?=some d->∃v b,vs[i]?=some v/\rW w κ v d b/\∀x∈b,x∈bs)/\∀b∈bs,Θ b=0:=by
 intro rs
 induction rs with
 |nil=>
  intro ds h;simp only[Gj,ah]at h;subst h;exact⟨[],[],by simp,rfl,rfl,by simp,by simp⟩
 |cons r rs ih=>
  intro ds h;simp only[Gj]at h;split at h
  ·rename_i d ds' h1 h2;cases h;obtain⟨v,b,k1,k2,k3⟩:=Xp hs h1;obtain⟨vs,bs,m1,m2,m3,m4,m5⟩:=ih h2;refine⟨v::vs,b++bs,?_,by simp[m2],by simp[m3],?_,?_⟩
   ·simp only[Dp,Sem.run_bind,k1,Result.andThen_ok,m1,Sem.run_pure]
   ·intro i x hx;cases i with
    |zero=>simp at hx;subst hx;exact⟨v,b,by simp,k2,by intro y hy;simp[hy]⟩
    |succ i=>
     simp at hx;obtain⟨u,b',q1,q2,q3⟩:=m4 i x hx;exact⟨u,b',by simpa using q1,q2,fun y hy=>by simp[q3 y hy]⟩
   ·intro y hy;rcases aR.1 hy with hy|hy
    ·exact k3 y hy
    ·exact m5 y hy
  ·cases h
def JO:aL->D
 | [d]=>d
 |ds=>.gL ds
def wC:Nat->aL->List (Nat×D)
 |_,[]=>[]
 |k,d::ds=>(k,d)::wC (k+1) ds
theorem Ey:∀(ds:aL) (k t:Nat),lk (wC k ds) t=if t<k then .any else(ds[t-k]?).getD .any:=by
 intro ds
 induction ds with
 |nil=>intro k t;simp[wC,lk]
 |cons d ds ih=>
  intro k t;simp only[wC,lk];by_cases h:t=k
  ·subst h;simp
  ·rw[b9 h,ih];by_cases h1:t<k
   ·rw[bN (by omega),bN h1]
   ·rw[b9 (by omega),b9 h1];have:t-k=(t-(k+1))+1:=by omega
    rw[this,fq]
theorem Sr.at{vs:bY}{ds:aL}{bs:aW}(h:Sr w vs ds bs):vs.length=ds.length/\∀(i:Nat) d,ds[i]?=some d->∃v b,vs[i]?=some v/\Rd w v d b/\∀x∈b,x∈bs:=by
 induction ds generalizing vs bs with
 |nil=>cases h;exact⟨rfl,by simp⟩
 |cons e ds ih=>
  cases h with
  |cons v vs _ _ b1 b2 h2 h3=>
   obtain⟨l,hi⟩:=ih h3;refine⟨by simp[l],fun i d hd=>?_⟩;cases i with
   |zero=>simp at hd;subst hd;exact⟨v,b1,by simp,h2,by intro x hx;simp[hx]⟩
   |succ i=>
    simp at hd;obtain⟨u,b,k1,k3,k4⟩:=hi i d hd;exact⟨u,b,by simpa using k1,k3,fun x hx=>by simp[k4 x hx]⟩
def gq(d:D):Prop:=∃w v bs,Rd w v d bs
theorem mm.rdb{vs:bY}{ds:aL}{bs:aW}(h:mm w vs ds bs):∀d∈ds,gq d:=by
 intro d hd;obtain⟨i,hi,rfl⟩:=eO.1 hd;obtain⟨v,b,_,_,hr,_⟩:=h.at (af hi);exact⟨w,v,b,hr⟩
theorem gq.agg{ds:aL}(h:gq (.agg ds)):∀d∈ds,gq d:=by
 obtain⟨w,v,bs,h⟩:=h;cases h with|agg cs _ _ hx=>exact hx.rdb
theorem gq.sl{rows:List aL}(h:gq (.sl rows)):rows.length<=maxLen/\∀r∈rows,∀d∈r,gq d:=by
 obtain⟨w,v,bs,h⟩:=h;cases h with
 |wV=>simp
 |lm=>simp
 |sl b off cap sz _ cs bs hb h1 h2 h3 h4 h5=>
  exact⟨by omega,fun r hr d hd=>h5.rdb d (fF.2 ⟨r,hr,hd⟩)⟩
theorem Sr.rdb{vs:bY}{ds:aL}{bs:aW}(h:Sr w vs ds bs):∀d∈ds,gq d:=by
 intro d hd;obtain⟨i,hi,rfl⟩:=eO.1 hd;obtain⟨v,b,_,hr,_⟩:=h.at.2 i _ (af hi);exact⟨w,v,b,hr⟩
def Xd(z:Option (Nat×Nat))(d:D):D:=match d,z with
 | .nil,some (e,sz+1)=>.fr e (sz+1) []
 |d,_=>d.Bo
def Dg(H:bQ)(z:Option (Nat×Nat))(d:D):Option (D×aW×aW):=match d with
 | .acc m=>(match H[m]? with|some (.row k e sz rows)=>(match k with| .uq=>some (.fr e sz rows,[],[m])| .sh=>some (.sl rows,[m],[])| .cl=>none| .mv _=>none| .ho _ _=>none)|_=>none)
 | .ptr _ _=>none
 | .op _ _ _ _=>none
 | .agg _=>none
 | .gL _=>none
 |d=>some (Xd z d,[],[])
def Kt(H:bQ):List (Option (Nat×Nat))->aL->Option (aL×aW×aW)
 |_,[]=>some ([],[],[])
 |zs,d::ds=>match Dg H zs.head?.join d,Kt H zs.tail ds with|some (e,m,q),some (es,ms,qs)=>some (e::es,m++ms,q++qs)|_,_=>none
def SK(H:bQ)(zs:List (Option (Nat×Nat)))(d:D):Option (D×aW×aW):=match d with
 | .agg cs=>(match Kt H zs cs with|some (es,ms,qs)=>some (.agg es,ms,qs)|none=>none)
 |d=>Dg H zs.head?.join d
def AD(H:bQ):List (List (Option (Nat×Nat)))->aL->Option (aL×aW×aW)
 |_,[]=>some ([],[],[])
 |zs,d::ds=>match SK H (zs.head?.getD []) d,AD H zs.tail ds with|some (e,m,q),some (es,ms,qs)=>some (e::es,m++ms,q++qs)|_,_=>none
def OJ(P:Program)(fn:Func)(d:D)(e:Exit)(st:St):Prop:=
 (e=.ret\/e=.normal)/\∃nz ds es ms qs,Gj P st fn.results.toList=some ds/\AD st.H nz ds=some (es,ms,qs)/\ms.Nodup/\qs.Nodup/\JO es=d
structure RP(Θ ρ:Nat->Nat)(qs bs ts us:List Nat):Prop where
 zero:∀b∈bs,Θ b=0
 top:∀b∈ts,(∃m∈qs,Θ b=m+2)/\b∈us
 mem:∀b∈us,b∈ts\/∃m∈qs,ρ b=m+1
 nd:us.Nodup
theorem RP.nil{ρ:Nat->Nat}{bs:aW}(h:∀b∈bs,Θ b=0):RP Θ ρ [] bs [] []:=⟨h,by simp,by simp,by simp⟩
theorem RP.app{ρ:Nat->Nat}{q1 q2 b1 b2 t1 t2 u1 u2:aW}(hf:∀b,ρ b≠0->Θ b=0)(hq:(q1++q2).Nodup)(h1:RP Θ ρ q1 b1 t1 u1)(h2:RP Θ ρ q2 b2 t2 u2):RP Θ ρ (q1++q2) (b1++b2) (t1++t2) (u1++u2):=by
 refine⟨fun b hb=>?_,fun b hb=>?_,fun b hb=>?_,bH.2 ⟨h1.nd,h2.nd,fun x hx y hy e=>?_⟩⟩
 ·rcases aR.1 hb with hb|hb
  ·exact h1.zero b hb
  ·exact h2.zero b hb
 ·rcases aR.1 hb with hb|hb
  ·obtain⟨⟨m,p,q⟩,r⟩:=h1.top b hb;exact⟨⟨m,by simp[p],q⟩,by simp[r]⟩
  ·obtain⟨⟨m,p,q⟩,r⟩:=h2.top b hb;exact⟨⟨m,by simp[p],q⟩,by simp[r]⟩
 ·rcases aR.1 hb with hb|hb
  ·rcases h1.mem b hb with h|⟨m,p,q⟩
   ·exact .inl (by simp[h])
   ·exact .inr ⟨m,by simp[p],q⟩
  ·rcases h2.mem b hb with h|⟨m,p,q⟩
   ·exact .inl (by simp[h])
   ·exact .inr ⟨m,by simp[p],q⟩
 ·subst e;have hd:=(bH.1 hq).2.2;rcases h1.mem x hx with hx|⟨m,p,q⟩
  ·obtain⟨⟨m,p,q⟩,_⟩:=h1.top x hx;rcases h2.mem x hy with hy|⟨m',p',q'⟩
   ·obtain⟨⟨m',p',q'⟩,_⟩:=h2.top x hy;exact hd m p m' p' (by omega)
   ·have:=hf x (by omega);omega
  ·rcases h2.mem x hy with hy|⟨m',p',q'⟩
   ·obtain⟨⟨m',p',q'⟩,_⟩:=h2.top x hy;have:=hf x (by omega);omega
   ·exact hd m p m' p' (by omega)
theorem Qm(z:Option (Nat×Nat)){v:Value}{d:D}{b0:aW}(hr:Rd w v d b0):∃bs,FV w v (Xd z d) bs [] []/\∀b∈bs,b∈b0:=by
 unfold Xd;split
 ·rename_i e sz;cases hr;refine⟨[],?_,by simp⟩;have:=FV.fr (w:=w) (.slice none 0 0) e (sz+1) [] [] [] (Nat.succ_pos _) (by simp) (World.ownsRow_nil w 0 e (sz+1)) (.nil _) rfl;simpa[Value.ownBlock]using this
 ·exact⟨b0,.pure hr.soft,fun _ h=>h⟩
section
variable{H:bQ}{ρ:Nat->Nat}(hf:∀b,ρ b≠0->Θ b=0)
 (hq:∀m e sz rows,H[m]?=some (.row .uq e sz rows)->∃v cs ns,κ m=some v/\0<sz/\(∀r∈rows,r.length=sz)/\w.ownsRow 0 e sz v rows.length cs/\wX w (tr e) 0 cs rows.flatten ns/\ns.Nodup/\(∀b∈ns,ρ b=m+1)/\∀g,v.ownBlock=some g->Θ g=m+2)
include hf hq
theorem Qv{z:Option (Nat×Nat)}{d e:D}{ms qs:aW}{v:Value}{b0:aW}(h:Dg H z d=some (e,ms,qs))(hone:v.oneCell'=true)(hr:yb w κ v d b0)(hz:∀b∈b0,Θ b=0)
 (hm:∀m∈ms,∀k e sz rows,H[m]?=some (.row k e sz rows)->yK κ Θ ρ w m k rows):∃bs ts us,FV w v e bs ts us/\RP Θ ρ qs bs ts us:=by
 cases hr with
 |pure hr=>
  have:Dg H z d=some (Xd z d,[],[]):=by cases hr<;>first|rfl|simp[Dg]at h
  rw[this]at h;cases h;obtain⟨bs,hb,Mq⟩:=Qm z hr;exact⟨bs,[],[],hb,RP.nil (fun b hb'=>hz b (Mq b hb'))⟩
 |acc m _ hk=>
  simp only[Dg]at h;split at h
  ·rename_i k e' sz rows hH;split at h
   ·cases h;obtain⟨v2,cs,ns,r1,r2,r3,r4,r5,r6,r7,r8⟩:=hq m _ _ _ hH;rw[hk]at r1;cases r1;refine⟨[],_,_,.fr v _ _ _ cs ns r2 r3 r4 r5 hone,by simp,fun b hb=>?_,fun b hb=>?_,?_⟩
    ·simp only[lJ]at hb;exact⟨⟨m,by simp,r8 b hb⟩,by simp[hb]⟩
    ·rcases aR.1 hb with hb|hb
     ·exact .inl hb
     ·exact .inr ⟨m,by simp,r7 b hb⟩
    ·refine bH.2 ⟨by cases v.ownBlock<;>simp,r6,fun x hx y hy exy=>?_⟩;subst exy;simp only[lJ]at hx;have h1:=r8 x hx;have h2:=hf x (by rw[r7 x hy];omega);omega
   ·cases h;obtain⟨v2,bs,r1,r2,r3,_⟩:=hm m (by simp) _ _ _ _ hH;rw[hk]at r1;cases r1;exact⟨bs,[],[],.pure r2,RP.nil r3⟩
   ·cases h
   ·cases h
   ·cases h
  ·cases h
 |ptr=>simp[Dg]at h
 |op=>simp[Dg]at h
theorem Uv:∀ {ds es:aL} {zs:List (Option (Nat×Nat))} {ms qs:aW} {vs:bY} {b0:aW},Kt H zs ds=some (es,ms,qs)->qs.Nodup->fK w κ vs ds b0->(∀b∈b0,Θ b=0)->
 (∀m∈ms,∀k e sz rows,H[m]?=some (.row k e sz rows)->yK κ Θ ρ w m k rows)->∃bs ts us,tV w vs es bs ts us/\RP Θ ρ qs bs ts us:=by
 intro ds
 induction ds with
 |nil=>
  intro es zs ms qs vs b0 h _ hr _ _;simp only[Kt,ah,cX]at h;obtain⟨rfl,rfl,rfl⟩:=h;cases hr;exact⟨[],[],[],.nil,RP.nil (by simp)⟩
 |cons d ds ih=>
  intro es zs ms qs vs b0 h hnd hr hz hm;simp only[Kt]at h;split at h
  ·rename_i e m q es' ms' qs' h1 h2;cases h;cases hr with
   |cons v vs _ _ b1 b2 hv hc hcs=>
    obtain⟨c1,t1,u1,q1,q2⟩:=Qv hf hq h1 hv hc (fun b hb=>hz b (by simp[hb])) (fun x hx=>hm x (by simp[hx]));obtain⟨c2,t2,u2,p1,p2⟩:=ih h2 (bH.1 hnd).2.1 hcs (fun b hb=>hz b (by simp[hb])) (fun x hx=>hm x (by simp[hx]));exact⟨_,_,_,.cons _ _ _ _ _ _ _ _ _ _ hv q1 p1,RP.app hf hnd q2 p2⟩
  ·cases h
theorem Xr(hk1:∀(i:Nat) u,κ i=some u->u.oneCell'=true){zs:List (Option (Nat×Nat))}{d e:D}{ms qs:aW}{v:Value}{b0:aW}(h:SK H zs d=some (e,ms,qs))(hnd:qs.Nodup)(hr:rW w κ v d b0)(hz:∀b∈b0,Θ b=0)
 (hm:∀m∈ms,∀k e sz rows,H[m]?=some (.row k e sz rows)->yK κ Θ ρ w m k rows):∃bs ts us,FW w v e bs ts us/\RP Θ ρ qs bs ts us:=by
 by_cases tP:∃ds,d=.agg ds
 ·obtain⟨ds,rfl⟩:=tP;obtain⟨cs,rfl,hcs⟩:=hr.FI;simp only[SK]at h;split at h
  ·rename_i es ms' qs' h1;cases h;obtain⟨bs,ts,us,q1,q2⟩:=Uv hf hq h1 hnd hcs hz hm;exact⟨bs,ts,us,.agg _ _ _ _ _ q1,q2⟩
  ·cases h
 ·have e1:SK H zs d=Dg H zs.head?.join d:=by cases d<;>first|rfl|exact absurd ⟨_,rfl⟩ tP
  rw[e1]at h;have hc:yb w κ v d b0:=by
   cases hr with
   |v hr=>cases hr with
    |cell hr=>exact hr
    |agg=>exact absurd ⟨_,rfl⟩ tP
   |gL=>simp[Dg]at h
  cases hc with
  |pure hr=>
   have:Dg H zs.head?.join d=some (Xd zs.head?.join d,[],[]):=by cases hr<;>first|rfl|simp[Dg]at h
   rw[this]at h;cases h;obtain⟨bs,hb,Mq⟩:=Qm zs.head?.join hr;exact⟨bs,[],[],.cell hb,RP.nil (fun b hb'=>hz b (Mq b hb'))⟩
  |acc m _ hk=>
   obtain⟨bs,ts,us,q1,q2⟩:=Qv hf hq h (hk1 _ _ hk) (.acc m _ hk) (by simp) hm;exact⟨bs,ts,us,.cell q1,q2⟩
  |ptr=>simp[Dg]at h
  |op=>simp[Dg]at h
theorem zL(hk1:∀(i:Nat) u,κ i=some u->u.oneCell'=true):∀ {ds es:aL} {zs:List (List (Option (Nat×Nat)))} {ms qs:aW} {vs:bY},AD H zs ds=some (es,ms,qs)->qs.Nodup->vs.length=ds.length->
 (∀(i:Nat) d,ds[i]?=some d->∃v b,vs[i]?=some v/\rW w κ v d b/\∀x∈b,Θ x=0)->
 (∀m∈ms,∀k e sz rows,H[m]?=some (.row k e sz rows)->yK κ Θ ρ w m k rows)->∃bs ts us,AZ w vs es bs ts us/\RP Θ ρ qs bs ts us:=by
 intro ds
 induction ds with
 |nil=>
  intro es zs ms qs vs h _ hl _ _;simp only[AD,ah,cX]at h;obtain⟨rfl,rfl,rfl⟩:=h;cases vs with
  |nil=>exact⟨[],[],[],.nil,RP.nil (by simp)⟩
  |cons=>simp at hl
 |cons d ds ih=>
  intro es zs ms qs vs h hnd hl hr hm;simp only[AD]at h;split at h
  ·rename_i e m q es' ms' qs' h1 h2;cases h;cases vs with
   |nil=>simp at hl
   |cons v vs=>
    obtain⟨v',b0,hv',hr0,yH⟩:=hr 0 d rfl;simp at hv';subst hv';obtain⟨c1,t1,u1,q1,q2⟩:=Xr hf hq hk1 h1 (bH.1 hnd).1 hr0 yH (fun x hx=>hm x (by simp[hx]));obtain⟨c2,t2,u2,p1,p2⟩:=ih h2 (bH.1 hnd).2.1 (by simpa using hl) (fun i d' Gf=>by
     obtain⟨v',b,k1,k2⟩:=hr (i+1) d' (by simpa using Gf);exact⟨v',b,by simpa using k1,k2⟩) (fun x hx=>hm x (by simp[hx]))
    exact⟨_,_,_,.cons _ _ _ _ _ _ _ _ _ _ q1 p1,RP.app hf hnd q2 p2⟩
  ·cases h
end
theorem Md{H:bQ}{z:Option (Nat×Nat)}{d e:D}{ms qs:aW}(h:Dg H z d=some (e,ms,qs)):(∀m∈ms,∃e sz rows,H[m]?=some (.row .sh e sz rows))/\∀m∈qs,∃e sz rows,H[m]?=some (.row .uq e sz rows):=by
 cases d with
 |acc m=>
  simp only[Dg]at h;split at h
  ·rename_i k e' sz rows hH;split at h
   ·cases h;exact⟨by simp,fun m' hm'=>by simp at hm';subst hm';exact⟨_,_,_,hH⟩⟩
   ·cases h;exact⟨fun m' hm'=>by simp at hm';subst hm';exact⟨_,_,_,hH⟩,by simp⟩
   ·cases h
   ·cases h
   ·cases h
  ·cases h
 |_=>simp[Dg]at h<;>(try(obtain⟨_,rfl,rfl⟩:=h;simp))
theorem Qw{H:bQ}:∀ {ds es:aL} {zs:List (Option (Nat×Nat))} {ms qs:aW},Kt H zs ds=some (es,ms,qs)->(∀m∈ms,∃e sz rows,H[m]?=some (.row .sh e sz rows))/\∀m∈qs,∃e sz rows,H[m]?=some (.row .uq e sz rows):=by
 intro ds
 induction ds with
 |nil=>intro es zs ms qs h;simp only[Kt,ah,cX]at h;obtain⟨rfl,rfl,rfl⟩:=h;simp
 |cons d ds ih=>
  intro es zs ms qs h;simp only[Kt]at h;split at h
  ·rename_i e m q es' ms' qs' h1 h2;cases h;have a1:=Md h1;have a2:=ih h2;refine⟨fun x hx=>?_,fun x hx=>?_⟩<;>rcases aR.1 hx with hx|hx
   ·exact a1.1 x hx
   ·exact a2.1 x hx
   ·exact a1.2 x hx
   ·exact a2.2 x hx
  ·cases h
theorem SL{H:bQ}{zs:List (Option (Nat×Nat))}{d e:D}{ms qs:aW}(h:SK H zs d=some (e,ms,qs)):(∀m∈ms,∃e sz rows,H[m]?=some (.row .sh e sz rows))/\∀m∈qs,∃e sz rows,H[m]?=some (.row .uq e sz rows):=by
 by_cases tP:∃ds,d=.agg ds
 ·obtain⟨ds,rfl⟩:=tP;simp only[SK]at h;split at h
  ·rename_i es ms' qs' h1;cases h;exact Qw h1
  ·cases h
 ·have e1:SK H zs d=Dg H zs.head?.join d:=by cases d<;>first|rfl|exact absurd ⟨_,rfl⟩ tP
  rw[e1]at h;exact Md h
theorem vh{H:bQ}:∀ {ds es:aL} {zs:List (List (Option (Nat×Nat)))} {ms qs:aW},AD H zs ds=some (es,ms,qs)->(∀m∈ms,∃e sz rows,H[m]?=some (.row .sh e sz rows))/\∀m∈qs,∃e sz rows,H[m]?=some (.row .uq e sz rows):=by
 intro ds
 induction ds with
 |nil=>intro es zs ms qs h;simp only[AD,ah,cX]at h;obtain⟨rfl,rfl,rfl⟩:=h;simp
 |cons d ds ih=>
  intro es zs ms qs h;simp only[AD]at h;split at h
  ·rename_i e m q es' ms' qs' h1 h2;cases h;have a1:=SL h1;have a2:=ih h2;refine⟨fun x hx=>?_,fun x hx=>?_⟩<;>rcases aR.1 hx with hx|hx
   ·exact a1.1 x hx
   ·exact a2.1 x hx
   ·exact a1.2 x hx
   ·exact a2.2 x hx
  ·cases h
theorem Good.of{f:FuncId}{fn:Func}{c:Code}{ds:aL}{d:D}(hf:P.funcs[f]?=some fn)(hb:fn.body=some c)(hn:(fn.name== "runtime.NumGoroutine")=false)
 (hl:ds.length<=fn.ntmps) (h:(∀d∈ds,gq d)->∀Γ:uB,Γ.nt=fn.ntmps->AW P Γ c (OJ P fn d) ⟨wC 0 ds,[]⟩):Good P f ds d:=by
 refine⟨⟨fn,hf,by simp[hb],hn⟩,?_⟩;intro w Θ args bs hvs hargs hz hown h1;obtain⟨hlen,UP⟩:=hargs.at;refine calls_of_wp hf hb ?_;let Γ:uB:=⟨w,Θ,fun _=>False,fn.ntmps,fun _=>False,hvs⟩
 have hs:dl Γ ⟨wC 0 ds,[]⟩ (fun _=>none) Θ {tmps:=args.toArray++Array.replicate (fn.ntmps-args.toArray.size) undef,defers:=[]} w:=by
  refine⟨rfl,?_,fun _ _=>rfl,by simp,?_,by simp,hown,fun b _ _=>⟨rfl,h1 b⟩,fun b hb=>by have:=h1 b;omega,⟨rfl,rfl,rfl,bO _,fun _ _ _=>rfl⟩,⟨fun _=>0,by simp,by simp,by simp⟩⟩
  ·simp[Γ];omega
  ·intro t;rw[Ey];simp only[v8,xW,w9];cases hd:ds[t]? with
   |none=>exact⟨[],.of (.any _),by simp⟩
   |some x=>
    obtain⟨v,b,k1,k2,k3⟩:=UP t x hd;refine⟨b,?_,fun y hy=>hz y (k3 y hy)⟩;have hlt:t<args.length:=(aF.1 k1).1;have:(args.toArray++Array.replicate (fn.ntmps-args.toArray.size) undef).getD t undef=v:=by
     rw[cG,eY (by simpa using hlt)];simp[k1]
    rw[this];exact .of k2
 refine wp_mono (h hargs.rdb Γ rfl _ _ _ _ hs) ?_;rintro e a' w' ⟨Mr,κ0,Θ0,hs0,Az,nz,Zi,es,ms,qs,hres,Wo,MB,KK,rfl⟩;obtain⟨ρ0,Zs⟩:=hs0.rV;have AT:=vh Wo;obtain⟨Θ1,ρ1,hs1,hu1,hm1,NE,UU⟩:=dl.FM ms hs0 Zs MB (fun m hm=>by
  obtain⟨e,sz,rows,hH⟩:=AT.1 m hm;exact⟨_,e,sz,rows,hH,rfl⟩)
 obtain⟨vs,bs',m1,m2,m3,m4,m5⟩:=Bn hs0 hres;have hq:∀m e sz rows,Mr.H[m]?=some (.row .uq e sz rows)->∃v cs ns,κ0 m=some v/\0<sz/\(∀r∈rows,r.length=sz)/\w'.ownsRow 0 e sz v rows.length cs/\wX w' (tr e) 0 cs rows.flatten ns/\ns.Nodup/\(∀b∈ns,ρ1 b=m+1)/\∀g,v.ownBlock=some g->Θ1 g=m+2:=by
  intro m e sz rows hH;have hnm:m∉ms:=fun hm=>by
   obtain⟨e',sz',dO,Db⟩:=AT.1 m hm;rw[hH]at Db;cases Db
  have Mo:(kill Mr.H ms)[m]?=some (.row .uq e sz rows):=by rw[gH hnm];exact hH
  obtain⟨v,cs,ns,r1,r2,r3,r4,r5⟩:=hu1.rows m e sz rows Mo;obtain⟨p1,p2,v2,_,_,p3,_,_,p4,_⟩:=hs1.ob m _ Mo;rw[r1]at p3;cases p3;exact⟨v,cs,ns,r1,p1,p2,r2,r3,r4,r5,p4⟩
 obtain⟨c,ts,us,Bg,A6⟩:=zL (w:=w') (vs:=vs) (fun b hb=>(hu1.free b hb).1) hq hs0.oN Wo KK (by omega) (fun i d hd=>by
  obtain⟨v,b,k1,k2,k3⟩:=m4 i d hd;exact⟨v,b,k1,k2,fun x hx=>NE x (m5 x (k3 x hx))⟩) hm1
 have KI:∃v,(results fn a'.tmps).run P w'=.ok v w'/\zS w' v (JO es) c ts us:=by
  have hrun:(results fn a'.tmps).run P w'=.ok (if h:vs.toArray.size=1 then vs.toArray[0]else .tuple vs.toArray) w':=by
   rw[results_eq,mU];simp[m1]
  cases Bg with
  |nil=>exact⟨.tuple #[],by simpa using hrun,.gL [] [] [] [] [] .nil⟩
  |cons v vs d es b1 b2 t1 t2 u1 u2 hv qU=>
   cases qU with
   |nil=>
    simp only[cz];exact⟨v,by simpa using hrun,.v hv⟩
   |cons v2 vs d2 es b3 b4 t3 t4 u3 u4 Mp qU=>exact⟨.tuple (v::v2::vs).toArray,by simpa using hrun,.gL _ _ _ _ _ (.cons _ _ _ _ _ _ _ _ _ _ hv (.cons _ _ _ _ _ _ _ _ _ _ Mp qU))⟩
 obtain⟨v,Ru,NB⟩:=KI;have M5:Below w.heap.size w w':=⟨hs1.stays.os,hs1.stays.tape,hs1.stays.output,hs1.stays.size,fun b hb=>hs1.stays.block b hb (fun h=>h)⟩
 have Ni:∀b,xX Γ b->w.heap.size<=b:=fun b h=>by
  rcases h with h|h
  ·exact h
  ·exact h.elim
 have hwr:∀b∈us,w.heap.size<=b/\Wr w' b:=by
  intro b hb';rcases A6.mem b hb' with h|⟨m,hm,hρ⟩
  ·obtain⟨⟨m,hm,hΘ⟩,_⟩:=A6.top b h;refine⟨Ni b (hs1.mine b (by omega)),?_⟩;obtain⟨e,sz,rows,hH⟩:=AT.2 m hm;have:=A6;exact Lf NB b h
  ·have:=hu1.free b (by omega);exact⟨this.2.1.elim (Ni b) False.elim,this.2.2⟩
 have post:a'.defers=[]/\∃v,(results fn a'.tmps).run P w'=.ok v w'/\∃u bs' ts us,Ending.returned v=.returned u/\Below w.heap.size w w'/\zS w' u (JO es) bs' ts us/\(∀b∈bs',b<w.heap.size->Θ b=0)/\(∀b∈bs',b∉ts)/\us.Nodup/\
  (∀b∈us,w.heap.size<=b/\Wr w' b)/\∀b∈ts,b∈us:=by
  refine⟨hs0.defers,v,Ru,v,c,ts,us,rfl,M5,NB,fun b hb' hlt=>?_,fun b hb' ht=>?_,A6.nd,hwr,fun b hb'=>(A6.top b hb').2⟩
  ·have he:Θ1 b=Θ b:=(hs1.old b hlt (fun h=>h)).1;rw[<-he];exact A6.zero b hb'
  ·obtain⟨⟨m,_,hΘ⟩,_⟩:=A6.top b ht;have:=A6.zero b hb';omega
 rcases Az with rfl|rfl
 ·exact post
 ·exact post
end
end Go.Cx
namespace Go.Cx
open Go.RowKit
abbrev oP:=List Fs
section
variable{P:Program}{Γ:uB}{Q:Exit->St->Prop}{st:St}{κ:Nat->Option Value}{Θ:Nat->Nat}{a:Act}{w:World}{all:Array Oper}
def Ext(H H':bQ):Prop:=∀(i:Nat) o,H[i]?=some o->H'[i]?=some o
theorem QD(σ:List (Nat×D))(H H':bQ)(x:Operand):St.ev ⟨σ,H⟩ x=St.ev ⟨σ,H'⟩ x:=by cases x<;>rfl
theorem PE{σ σ':List (Nat×D)}{H H':bQ}{op:Op}{d:D}(hx:Ext H H')(he:∀x∈op.operands.toList,St.ev ⟨σ,H⟩ x=St.ev ⟨σ',H'⟩ x)(h:pv P ⟨σ,H⟩ op=some d):pv P ⟨σ',H'⟩ op=some d:=by
 have hm:∀(o:Option Operand),(∀x∈o.toArray.toList,St.ev ⟨σ,H⟩ x=St.ev ⟨σ',H'⟩ x)->o.map (St.ev ⟨σ,H⟩)=o.map (St.ev ⟨σ',H'⟩):=by
  intro o h;cases o with
  |none=>rfl
  |some x=>simp[h x (by simp)]
 cases op<;>simp only[pv]at h⊢ <;>(try cases h)
 case move x=>rw[he x (by simp[Op.operands])]at*
 case assign x=>rw[he x (by simp[Op.operands])]at*
 case nilCheck x=>rw[he x (by simp[Op.operands])]at h;exact h
 case pick c x y=>rw[he c (by simp[Op.operands]),he x (by simp[Op.operands]),he y (by simp[Op.operands])]at h;exact h
 case binOp op t x y t'=>rw[he x (by simp[Op.operands]),he y (by simp[Op.operands])]at h;exact h
 case unOp op t x=>cases op<;>simp only[pv]at h⊢ <;>(try cases h)<;>(rw[he x (by simp[Op.operands])]at h;exact h)
 case convert s d x=>rw[he x (by simp[Op.operands])]at h;exact h
 case field t x f=>rw[he x (by simp[Op.operands])]at h;exact h
 case fieldAddr t x f=>rw[he x (by simp[Op.operands])]at h;exact h
 case indexAddr t x i=>
  rw[he x (by simp[Op.operands]),he i (by simp[Op.operands])]at h;split at h
  ·rename_i e sz rows kk n h1 h2 h3
   (try simp only[h1,h2,h3]);exact h
  ·rename_i e sz id kk n h1 h2 h3
   (try simp only[h1,h2,h3])
   split at h
   ·rename_i k e' sz' rows hH;simp only[hx id _ hH];exact h
   ·cases h
  ·rename_i g o' kk n h1 h2
   (try simp only[h1,h2])
   generalize FT P t=q at h⊢;cases q<;>exact h
  ·cases h
 case load t x=>
  rw[he x (by simp[Op.operands])]at h;split at h
  ·rename_i ag row off h1 h2
   (try simp only[h1,h2]);exact h
  ·rename_i ag id off h1 h2
   (try simp only[h1,h2])
   split at h
   ·rename_i cells hH;obtain⟨ob,hH,xy⟩:=ny.1 hH;simp only[hx id _ hH,aA,xy];exact h
   ·cases h
  ·rename_i ag id i sz off h1 h2
   (try simp only[h1,h2])
   split at h
   ·rename_i p n e' sz' rows hH;simp only[hx id _ hH];exact h
   ·rename_i k e' sz' rows hnh hH;simp only[hx id _ hH];cases k with
    |ho p n=>exact(hnh _ _ rfl).elim
    |_=>exact h
   ·cases h
  ·rename_i ag g o' h1 h2
   (try simp only[h1,h2]);exact h
  ·cases h
 case lookup T x i ok=>
  rw[he x (by simp[Op.operands]),he i (by simp[Op.operands])]at h;split at h
  ·rename_i id h1
   (try simp only[h1])
   split at h
   ·rename_i kv hH;simp only[hx id _ hH];exact h
   ·cases h
  ·cases h
 case extract x i=>rw[he x (by simp[Op.operands])]at h;exact h
 case index t x i=>rw[he x (by simp[Op.operands]),he i (by simp[Op.operands])]at h;exact h
 case slice t x lo hi mx=>
  cases mx with
  |none=>
   simp only[pv]at h⊢;rw[he x (by simp[Op.operands]),hm lo (fun y hy=>he y (by simp only[Op.operands,lz,aR];exact .inl (.inl (.inr hy)))),
    hm hi (fun y hy=>he y (by simp only[Op.operands,lz,aR];exact .inl (.inr hy)))]at h
   exact h
  |some m=>simp only[pv]at h;cases h
 case build t parts=>
  have:(parts.toList.map fun p=>(p.1,St.ev ⟨σ,H⟩ p.2))=parts.toList.map fun p=>(p.1,St.ev ⟨σ',H'⟩ p.2):=by
   apply oQ;intro p hp;rw[he p.2 (by simp only[Op.operands];simp;exact⟨p.1,by simpa using hp⟩)]
  rw[this]at h;exact h
 case call c=>
  split at h
  ·rename_i x t h1 h2 h3;have Ry:x∈(Op.call c).operands.toList:=by
    simp only[Op.operands,Call.operands,lz,aR,h2];exact .inr (by simp)
   (try simp only[h1,h2,h3])
   unfold a0P at h⊢;rw[he x Ry]at h;split at h
   ·rename_i s hs;(try simp only[hs]);exact h
   ·rename_i rows hs;(try simp only[hs]);exact h
   ·rename_i hs;(try simp only[hs]);exact h
   ·rename_i id hs
    (try simp only[hs])
    split at h
    ·rename_i kk k e sz rows h4 h5;simp only[h4,hx id _ h5];exact h
    ·cases h
   ·cases h
  ·rename_i x y t t' h1 h2 h3;have Ry:x∈(Op.call c).operands.toList:=by
    simp only[Op.operands,Call.operands,lz,aR,h2];exact .inr (by simp)
   have hym:y∈(Op.call c).operands.toList:=by
    simp only[Op.operands,Call.operands,lz,aR,h2];exact .inr (by simp)
   (try simp only[h1,h2,h3])
   rw[he x Ry,he y hym]at h;exact h
  ·cases h
theorem R9{H H':bQ}(hx:Ext H H'){d e:D}{ms:aW}(h:VU H d=some (e,ms)):VU H' d=some (e,ms):=by
 cases d<;>simp only[VU]at h⊢ <;>(try exact h)
 split at h
 ·rename_i k e' sz rows hH;simp only[hx _ _ hH];exact h
 ·rename_i sz rows u hH;simp only[hx _ _ hH];exact h
 ·rename_i rows hH;simp only[hx _ _ hH];exact h
 ·cases h
theorem VA{H H':bQ}(hx:Ext H H'):∀ {ds es:aL} {ms:aW},RA H ds=some (es,ms)->RA H' ds=some (es,ms):=by
 intro ds
 induction ds with
 |nil=>intro es ms h;exact h
 |cons d ds ih=>
  intro es ms h;simp only[RA]at h⊢;split at h
  ·rename_i e m es' ms' h1 h2;rw[R9 hx h1,ih h2];exact h
  ·cases h
theorem Yp{H H':bQ}(hx:Ext H H'){d e:D}{ms:aW}(h:Yo H d=some (e,ms)):Yo H' d=some (e,ms):=by
 by_cases tP:∃ds,d=.agg ds
 ·obtain⟨ds,rfl⟩:=tP;simp only[Yo]at h⊢;split at h
  ·rename_i es ms' h1;rw[VA hx h1];exact h
  ·cases h
 ·by_cases ht:∃vs,d=.gL vs
  ·obtain⟨vs,rfl⟩:=ht;simp[Yo]at h
  ·have e1:∀H,Yo H d=VU H d:=by intro H;cases d<;>first|rfl|exact absurd ⟨_,rfl⟩ tP|exact absurd ⟨_,rfl⟩ ht
   rw[e1]at h⊢;exact R9 hx h
theorem VB{H H':bQ}(hx:Ext H H'):∀ {ds es:aL} {ms:aW},GU H ds=some (es,ms)->GU H' ds=some (es,ms):=by
 intro ds
 induction ds with
 |nil=>intro es ms h;exact h
 |cons d ds ih=>
  intro es ms h;simp only[GU]at h⊢;split at h
  ·rename_i e m es' ms' h1 h2;rw[Yp hx h1,ih h2];exact h
  ·cases h
structure Cp where
 t:Option Nat
 d:D
 r:Nat
 obs:bQ
 up:Option (Nat×Ob)
def Looks(H:bQ)(vs ds:aL)(ms:aW):Prop:=GU H vs=some (ds,ms)\/(vs.all Kk=true/\ds=vs/\ms=[])
def Jm(P:Program)(H:bQ)(σ:List (Nat×D))(o:Oper)(p:Cp):Prop:=
 (pv P ⟨σ,H⟩ o.op=some p.d/\p.obs=[])\/∃(f:FuncId) (xs:Array Operand) (ts:Array TypeId) (ds:aL) (ms:aW) (d:D),o.op=.call {callee:=.value (.func f),args:=xs,argTypes:=ts}/\
  Looks H (xs.toList.map (St.ev ⟨σ,H⟩)) ds ms/\(ms=[]\/d.MY=true)/\Good P f ds d/\(oV p.r d=(p.d,p.obs)\/(d.a3a=true/\p.d=d.VT/\p.obs=[]))
def OG(P:Program)(H:bQ)(σ:List (Nat×D))(o:Oper)(p:Cp):Prop:=
 (∃T zs,o.op=.alloc T/\tz P T=some zs/\p.d=.ptr p.r 0/\p.obs=[.box zs])\/∃T x ds,o.op=.box T x/\(St.ev ⟨σ,H⟩ x).cellsOf=some ds/\p.d=.ptr p.r 0/\p.obs=[.box ds]
def OI(P:Program)(H:bQ)(σ:List (Nat×D))(o:Oper)(p:Cp):Prop:=
 ∃T e sz len parts zs ds es,o.op=.buildSlice T len parts/\FT P T=some (e,sz)/\tz P e=some zs/\0<sz/\len*sz<=16777216/\
  yC (sv len sz) (List.replicate len zs).flatten (parts.toList.map fun q=>(q.1,St.ev ⟨σ,H⟩ q.2))=some ds/\I5 H ds=some (es,[])/\p.d=.acc p.r/\p.obs=[.row (xI (V9 H e 0 ds)) e sz (chunk sz len es)]
def OH(P:Program)(H:bQ)(σ:List (Nat×D))(o:Oper)(p:Cp):Prop:=
 ∃T e sz len parts zs ds,o.op=.buildSlice T len parts/\FT P T=some (e,sz)/\tz P e=some zs/\0<sz/\len*sz<=16777216/\
  yC (sv len sz) (List.replicate len zs).flatten (parts.toList.map fun q=>(q.1,St.ev ⟨σ,H⟩ q.2))=some ds/\ds.all D.Ph=true/\ds.all D.flat=true/\p.d=.sl (chunk sz len ds)/\p.obs=[]
def I2(P:Program)(H:bQ)(σ:List (Nat×D))(o:Oper)(p:Cp):Prop:=Jm P H σ o p\/OG P H σ o p\/OI P H σ o p\/OH P H σ o p
def a4o(P:Program)(Γ:uB)(all:Array Oper)(H:bQ)(σ:List (Nat×D))(o:Oper)(p:Cp):Prop:=
 ∃t,p.t=some t/\p.up=none/\o.dst=some t/\t<Γ.nt/\((o.guard=none/\I2 P H σ o p)\/
  (∃(j s:Nat) (want b:Bool),o.guard=some (j,want)/\(all[j]?).bind (·.dst)=some s/\lk σ s=.bool b/\((b=want/\I2 P H σ o p)\/(b≠want/\p.d=.gL []/\p.obs=[])))\/
  ∃(j s:Nat) (want:Bool),o.guard=some (j,want)/\(all[j]?).bind (·.dst)=some s/\lk σ s=.gL []/\p.d=.gL []/\p.obs=[])
def a4n(P:Program)(H:bQ)(σ:List (Nat×D))(o:Oper)(p:Cp):Prop:=
 p.t=none/\p.obs=[]/\o.dst=none/\o.guard=none/\∃T x y id ds,o.op=.store T x y/\St.ev ⟨σ,H⟩ x=.ptr id 0/\H.length<=id/\(St.ev ⟨σ,H⟩ y).cellsOf=some ds/\PY P T=true/\ds.length=zM P T/\p.up=some (id,.box ds)
def tU(P:Program)(Γ:uB)(all:Array Oper)(H:bQ)(σ:List (Nat×D))(o:Oper)(p:Cp):Prop:=a4o P Γ all H σ o p\/a4n P H σ o p
def Cp.slot(p:Cp)(σ:List (Nat×D)):List (Nat×D):=match p.t with|some t=>(t,p.d)::σ|none=>σ
def Cp.fill(n:Nat)(p:Cp)(acc:bQ):bQ:=match p.up with|some (id,ob)=>acc.set (id-n) ob|none=>acc++p.obs
def Cp.a6x(n:Nat)(p:Cp)(U:aW)(acc:bQ):Prop:=match p.up with|some (id,ob)=>id∉U/\n<=id/\∃zs ds,acc[id-n]?=some (.box zs)/\ob=.box ds/\zs.length=ds.length|none=>True
def Cp.ups(p:Cp)(U:aW):aW:=match p.up with|some (id,_)=>id::U|none=>U
def KY(P:Program)(Γ:uB)(all:Array Oper)(H:bQ)(K:List (Nat×D)->bQ->Prop):List Oper->List (Nat×D)->bQ->aW->Prop
 | [],σ,acc,_=>K σ acc
 |o::os,σ,acc,U=>∃p:Cp,p.r=H.length+acc.length/\tU P Γ all H σ o p/\p.a6x H.length U acc/\KY P Γ all H K os (p.slot σ) (p.fill H.length acc) (p.ups U)
theorem AH{Q':Exit->Act->World->Prop}{ops:Array Oper}{i:Nat}{o:Oper}{K:Act->World->Prop}(hi:ops[i]?=some o)(hw:Region.wanted o (yielded ops a.tmps)=true)(h:o.wp P a w K Q'):wpOp P ops Q' i K a w:=by
 unfold wpOp;simp only[hi,hw,pT];exact .inl h
theorem dl.a4Q(hs:dl Γ st κ Θ a w){ops:Array Oper}{j s:Nat}{b:Bool}(hj:(ops[j]?).bind (·.dst)=some s)(hb:lk st.σ s=.bool b):yielded ops a.tmps j=some b:=by
 obtain⟨bs,r,_⟩:=hs.slot s;rw[hb]at r;have hv:=r.wF;have hlt:s<a.tmps.size:=by
  rcases eL s a.tmps.size with h|h
  ·exact h
  ·exfalso;rw[cG,rY h]at hv;simp[undef]at hv
 have h1:a.tmps[s]?=some (.bool b):=by
  rw[cG,cO hlt]at hv;rw[cO hlt];simpa using hv
 simp[yielded,hj,h1]
theorem Lx{st v7:St}{ops:Array Oper}{o:Oper}(h:∀t∈o.looksAt ops,lk st.σ t=lk v7.σ t):∀x∈o.op.operands.toList,st.ev x=v7.ev x:=by
 intro x hx;cases x with
 |tmp t=>
  refine h t ?_;unfold Oper.looksAt;exact aR.2 (.inl (cD.2 ⟨.tmp t,hx,rfl⟩))
 |const v=>rfl
 |global g=>rfl
 |func f=>rfl
theorem Ex(l:List (Nat×D))(σ:List (Nat×D))(t:Nat):(∀p∈l,p.1≠t)->lk (l++σ) t=lk σ t:=by
 induction l with
 |nil=>intro _;rfl
 |cons q l ih=>
  intro h;obtain⟨u,d⟩:=q;simp only[qw,lk];rw[b9 (fun e=>h (u,d) (by simp) e.symm)];exact ih (fun p hp=>h p (by simp[hp]))
theorem Hq(l:List (Nat×D))(σ:List (Nat×D))(p:Nat×D)(hp:p∈l)(hd:∀q∈l,q.1=p.1->q=p):lk (l++σ) p.1=p.2:=by
 induction l with
 |nil=>cases hp
 |cons q l ih=>
  obtain⟨u,d⟩:=q;simp only[qw,lk];by_cases e:p.1=u
  ·rw[bN e];have:=hd (u,d) (by simp) e.symm;rw[<-this]
  ·rw[b9 e];rcases bL.1 hp with rfl|hp
   ·exact absurd rfl e
   ·exact ih hp (fun q hq=>hd q (by simp[hq]))
def WD(ops:Array Oper)(n:Nat):Bool:=
 decide (n<=ops.size)&&(decide (n=ops.size)||(decide (n<ops.size)&&(Region.sinkB .any ops n&&Region.chainB .any ops n)))&&
 Region.seqB .any ops (ops.size-n) n (Array.replicate n true++Array.replicate (ops.size-n) false)&&
 (List.range n).all fun i=>match ops[i]? with
  |none=>false
  |some o=>(o.after.all fun e=> !Region.binds .any e||decide (e.on<i))&&
   ((o.looksAt ops).all fun t=>(List.range n).all fun j=>match ops[j]? with|some oj=> !(oj.dst==some t)||(decide (j<i)&&Region.waitsFor .any ops i j)|none=>true)&&
   (List.range n).all fun j=>j==i||(match ops[j]? with|some oj=> !(oj.dst==o.dst)||o.dst.isNone|none=>true)
def place(H:bQ)(r:Nat)(obs:bQ):bQ:=H.take r++(obs++H.drop (r+obs.length))
theorem uK{H:bQ}{r:Nat}{obs:bQ}(h:r+obs.length<=H.length)(j:Nat):(place H r obs)[j]?=if j<r then H[j]? else if j<r+obs.length then obs[j-r]? else H[j]?:=by
 unfold place;have hl:(H.take r).length=r:=by rw[bz];omega
 by_cases h1:j<r
 ·rw[bN h1,ar (by omega),cP,bN h1]
 ·rw[b9 h1,b8 (by omega),hl];by_cases h2:j<r+obs.length
  ·rw[bN h2,ar (by omega)]
  ·rw[b9 h2,b8 (by omega),eZ]
   congr 1;omega
theorem uL{H:bQ}{r:Nat}{obs:bQ}(h:r+obs.length<=H.length):(place H r obs).length=H.length:=by
 unfold place;simp;omega
theorem Jm.wp{Q':Exit->Act->World->Prop}{σ:List (Nat×D)}{H H':bQ}{o:Oper}{p:Cp}{K:Act->World->Prop}(hs:dl Γ ⟨σ,H'⟩ κ Θ a w)(hx:Ext H H'){t:Nat}(hd:o.dst=some t)(ht:t<Γ.nt)(h:Jm P H σ o p)
 (hr:p.r+p.obs.length<=H'.length) (hfree:∀i,i<p.obs.length->κ (p.r+i)=none)
 (hK:∀κ' Θ' a' w',dl Γ ⟨(t,p.d)::σ,place H' p.r p.obs⟩ κ' Θ' a' w'->(∀j,(j<p.r\/p.r+p.obs.length<=j)->κ' j=κ j)->K a' w'):o.wp P a w K Q':=by
 rcases h with⟨h,hno⟩|⟨f,xs,ts,ds,ms,d,hop,hds,hsh,ng,hi⟩
 ·have h':=PE (σ:=σ) (σ':=σ) hx (fun x _=>QD σ H H' x) h;obtain⟨v,bs,hrun,hrd,hz⟩:=F2 hs h';unfold Oper.wp;rw[hrun,Oper.upon_value,hd];have hp:place H' p.r p.obs=H':=by rw[hno];simp[place]
  exact hK κ Θ _ _ (by rw[hp];exact hs.set ht hrd hz) (fun _ _=>rfl)
 ·have hev:xs.toList.map (St.ev ⟨σ,H⟩)=xs.toList.map (St.ev ⟨σ,H'⟩):=oQ (fun x _=>QD σ H H' x);have a2d:∃bs,Sr w (xs.toList.map a.eval) ds bs/\∀b∈bs,Seen Θ ms b:=by
   rcases hds with hds|⟨hk,rfl,rfl⟩
   ·have:=VB hx hds;rw[hev]at this;exact LX hs this
   ·rw[hev]at hk⊢;exact Nl hs hk
  obtain⟨bs,hargs,hz⟩:=a2d;let Θc:Nat->Nat:=fun b=>if Θ b=0\/ms.any (fun m=>Θ b==m+2)then 0 else 1
  have Kh:∀b,Seen Θ ms b->Θc b=0:=by
   intro b h;simp only[Θc];rw[bN];rcases h with h|⟨m,h1,h2⟩
   ·exact .inl h
   ·exact .inr (cy.2 ⟨m,h1,by simp[h2]⟩)
  have hc:=ng.2 w Θc _ bs hs.vok hargs (fun b hb=>Kh b (hz b hb)) (fun b hb=>hs.own b (fun e=>hb (Kh b (.inl e)))) (fun b=>by simp only[Θc];split<;>omega);unfold Oper.wp;rw[wT hop ng.1,Oper.upon_enter];have e:xs.map a.eval=(xs.toList.map a.eval).toArray:=by rw[<-gw,kO]
  rw[e];refine hc.mono ?_;rintro e w' ⟨v,bs',tb,ub,rfl,hb,hr',Mq,htb,hnd,hfr,hsub⟩;show K (a.put o.dst v) w';rw[hd];rcases hi with hi|⟨hown,Rr,Pg⟩
  rotate_left
  ·cases hr' with
   |gL=>cases hown
   |v hv=>
    have Dl:bs'=[]:=hv.own (by
     unfold D.a3a at hown;split at hown
     ·cases hown
     ·exact hown)
    obtain⟨b,q,s⟩:=hv.Cc;have hp:place H' p.r p.obs=H':=by rw[Pg];simp[place]
    refine hK κ Θ _ w' ?_ (fun _ _=>rfl);rw[hp,Rr];refine(hs.grow hb).set ht (.v (.cell (.pure q))) fun x hx'=>?_
    rcases s x hx' with h|h
    ·rw[Dl]at h;cases h
    ·by_cases h0:Θ x=0
     ·exact h0
     ·have:=hs.own x h0;have:=(hfr x h).1;omega
  obtain⟨L,q1,q2,q3,q4,q5⟩:=hr'.inst p.r;rw[hi]at q1 q5;simp only at q1 q5;have hLl:L.length=p.obs.length:=by have:=congrArg List.length q1;simpa using this
  obtain⟨κ',Θ',hs',hnm,_,hno,hsame⟩:=hs.Nk hb L q2 (q3▸hnd) (fun b hb'=>hfr b (q3▸hb')) p.r (place H' p.r p.obs) (fun i hi'=>hfree i (by omega)) (by rw[uL hr];exact bO _) (by rw[uL hr];omega) (by
   intro j y hj;rw[uK hr]at hj;split at hj
   ·rename_i h1;exact .inr ⟨.inl h1,.inr hj⟩
   ·rename_i h1;split at hj
    ·rename_i h2;rw[<-q1,bt]at hj;cases hx':L[j-p.r]? with
     |none=>simp[hx']at hj
     |some x=>simp[hx']at hj;exact .inl ⟨j-p.r,x,by omega,hx',hj.symm⟩
    ·exact .inr ⟨.inr (by omega),.inr hj⟩)
  refine hK κ' Θ' _ w' (hs'.set (t:=t) ht (q5 κ' hnm) fun b hb'=>?_) (fun j hj=>hsame j (by omega));rw[hno b (q4▸htb b hb')];rcases hsh with MB|hown
  ·by_cases hlt:b<w.heap.size
   ·have h0:=Mq b hb' hlt;simp only[Θc,MB,I0]at h0;by_cases h1:Θ b=0
    ·exact h1
    ·simp[h1]at h0
   ·by_cases h0:Θ b=0
    ·exact h0
    ·exact absurd (hs.own b h0) hlt
  ·rw[hr'.own hown]at hb';cases hb'
theorem dl.Qk{σ:List (Nat×D)}{H':bQ}(hs:dl Γ ⟨σ,H'⟩ κ Θ a w){r:Nat}(hr:r+1<=H'.length)(hfree:κ r=none){cs:Array Value}{ds:aL}{bs:aW}(T:TypeId)(hrd:fK w κ cs.toList ds bs)(hz:∀b∈bs,Θ b=0):
 dl Γ ⟨σ,place H' r [.box ds]⟩ (xN κ r (some (.pointer (some ⟨w.heap.size,0,none⟩)))) (fun b=>if b=w.heap.size then r+2 else Θ b) a (w.alloc (.cells cs T)):=by
 have k:=iJ.alloc hs (.cells cs T) (tag:=r+2) (by omega);have hn:=wW hfree (some (Value.pointer (some ⟨w.heap.size,0,none⟩)));obtain⟨h1,h2⟩:=fK.stay k hn hrd hz;obtain⟨ρ,hu⟩:=hs.rV;refine hs.put (id:=r) (o:=.box ds) [] ?_ hn ?_ ?_ k (hs.zJ (fun b hb=>by by_cases e:b=w.heap.size<;>simp_all)) ?_ hu (by simp) (by intro e sz rows h;cases h)
 ·intro j y hj;rw[uK (by simpa using hr)]at hj;split at hj
  ·exact .inr ⟨by omega,hj⟩
  ·split at hj
   ·rename_i h2;simp only[aP,bS]at h2;have e:j=r:=by omega
    subst e;simp at hj;exact .inl ⟨rfl,hj.symm⟩
   ·rename_i h2;simp only[aP,bS]at h2;exact .inr ⟨by omega,hj⟩
 ·intro i hi;rw[uL (by simpa using hr)]at hi;unfold xN;rw[b9 (by omega)];exact hs.pH i hi
 ·intro i x hx;unfold xN at hx;split at hx
  ·cases hx;rfl
  ·exact hs.oN i x hx
 ·exact⟨w.heap.size,cs,T,by simp[xN],heap_alloc_new w _,by simp,bs,h1,h2⟩
theorem OG.wp{Q':Exit->Act->World->Prop}{σ:List (Nat×D)}{H H':bQ}{o:Oper}{p:Cp}{K:Act->World->Prop}(hs:dl Γ ⟨σ,H'⟩ κ Θ a w){t:Nat}(hd:o.dst=some t)(ht:t<Γ.nt)(h:OG P H σ o p)
 (hr:p.r+p.obs.length<=H'.length) (hfree:∀i,i<p.obs.length->κ (p.r+i)=none)
 (hK:∀κ' Θ' a' w',dl Γ ⟨(t,p.d)::σ,place H' p.r p.obs⟩ κ' Θ' a' w'->(∀j,(j<p.r\/p.r+p.obs.length<=j)->κ' j=κ j)->K a' w'):o.wp P a w K Q':=by
 rcases h with⟨T,zs,hop,hz,Rr,Pg⟩|⟨T,x,ds,hop,hc,Rr,Pg⟩
 ·rw[Pg]at hr hfree hK;rw[Rr]at hK;obtain⟨i,z,hi,yH,hsz,hlen,hone,rfl⟩:=xP hz;have hs':=hs.Qk (r:=p.r) hr (by simpa using hfree 0 (by simp)) T (cs:=z.cells) (Bl z.cells.toList hone) (by simp);unfold Oper.wp;have hrun:(execOp a.eval o).run P w=.ok (.value (.pointer (some ⟨w.heap.size,0,none⟩))) (w.alloc (.cells z.cells T)):=by
   simp[execOp,hop,Instr.alloc,zeroValue,typeInfo,hi,yH,newVar,newRow]
  rw[hrun,Oper.upon_value,hd];refine hK _ _ _ _ (hs'.set (t:=t) (d:=.ptr p.r 0) (bs:=[]) ht ?_ (by simp)) (fun j hj=>?_)
  ·exact(yb.ptr p.r 0 w.heap.size (by simp[xN])).O0
  ·unfold xN;simp only[aP,bS]at hj;rw[b9 (by omega)]
 ·rw[Pg]at hr hfree hK;rw[Rr]at hK;obtain⟨bs,rr,hz⟩:=hs.ev x;rw[QD σ H' H x]at rr;have hcs:=BG hs.oN rr hc;have hs':=hs.Qk (r:=p.r) hr (by simpa using hfree 0 (by simp)) T hcs hz;unfold Oper.wp;have hrun:(execOp a.eval o).run P w=.ok (.value (.pointer (some ⟨w.heap.size,0,none⟩))) (w.alloc (.cells (a.eval x).cells T)):=by
   simp[execOp,hop,Instr.box,newVar,newRow]
  rw[hrun,Oper.upon_value,hd];refine hK _ _ _ _ (hs'.set (t:=t) (d:=.ptr p.r 0) (bs:=[]) ht ?_ (by simp)) (fun j hj=>?_)
  ·exact(yb.ptr p.r 0 w.heap.size (by simp[xN])).O0
  ·unfold xN;simp only[aP,bS]at hj;rw[b9 (by omega)]
theorem dl.Xa{σ:List (Nat×D)}{H':bQ}(hs:dl Γ ⟨σ,H'⟩ κ Θ a w){r:Nat}(hr:r+1<=H'.length)(hfree:κ r=none){u:Bool}{e sz cap:Nat}{rows:List aL}{bs:aW}(cur:Array Value)(hsz:0<sz)(hrl:∀x∈rows,x.length=sz)
 (M8:cur.size=cap*sz) (hn:rows.length<=cap) (hcap:cap<=maxLen) (hrd:mm w (cur.toList.take (rows.length*sz)) rows.flatten bs) (hz:∀b∈bs,Θ b=0) (hq:u=true->bs=[]/\wX w (tr e) 0 (cur.toList.take (rows.length*sz)) rows.flatten bs):
 dl Γ ⟨σ,place H' r [.row (xI u) e sz rows]⟩ (xN κ r (some (.slice (some ⟨w.heap.size,0,none⟩) rows.length cap))) (fun b=>if b=w.heap.size then r+2 else Θ b) a (w.alloc (.cells cur e)):=by
 have k:=iJ.alloc hs (.cells cur e) (tag:=r+2) (by omega);have hkn:=wW hfree (some (Value.slice (some ⟨w.heap.size,0,none⟩) rows.length cap));obtain⟨h1,h2⟩:=mm.over k hrd hz;have hlen:(cur.toList.take (rows.length*sz)).length=rows.length*sz:=by
  have:rows.length*sz<=cap*sz:=dw _ hn;have h3:cur.toList.length=cap*sz:=by rw[<-M8];simp
  rw[bz,h3,fG this]
 have hown:(w.alloc (.cells cur e)).ownsRow 0 e sz (.slice (some ⟨w.heap.size,0,none⟩) rows.length cap) rows.length (cur.toList.take (rows.length*sz)):=
  ⟨hlen,.inr ⟨w.heap.size,cap,cur,rfl,by omega,heap_alloc_new w _,hn,hcap,M8,rfl⟩⟩
 obtain⟨ρ,hu⟩:=hs.rV;refine hs.put (id:=r) (o:=.row (xI u) e sz rows) [] ?_ hkn ?_ ?_ k (hs.zJ (fun b hb=>by by_cases e:b=w.heap.size<;>simp_all)) ?_ hu (by simp) ?_
 ·intro j y hj;rw[uK (by simpa using hr)]at hj;split at hj
  ·exact .inr ⟨by omega,hj⟩
  ·split at hj
   ·rename_i h2;simp only[aP,bS]at h2;have e:j=r:=by omega
    subst e;simp at hj;exact .inl ⟨rfl,hj.symm⟩
   ·rename_i h2;simp only[aP,bS]at h2;exact .inr ⟨by omega,hj⟩
 ·intro i hi;rw[uL (by simpa using hr)]at hi;unfold xN;rw[b9 (by omega)];exact hs.pH i hi
 ·intro i x hx;unfold xN at hx;split at hx
  ·cases hx;rfl
  ·exact hs.oN i x hx
 ·refine⟨hsz,hrl,_,_,bs,by simp[xN],hown,h1,?_,?_⟩
  ·intro g hg;simp only[Value.ownBlock,ah]at hg;subst hg;simp
  ·cases u<;>exact h2
 ·intro e' sz' dO he;cases u with
  |false=>simp[xI]at he
  |true=>
   simp only[xI,Ob.row.injEq,qz]at he;obtain⟨rfl,rfl,rfl⟩:=he;obtain⟨h0,hF⟩:=hq rfl;subst h0;exact⟨_,_,[],by simp[xN],hown,hF.over k hz,by simp,by simp⟩
theorem OI.wp{Q':Exit->Act->World->Prop}{σ:List (Nat×D)}{H H':bQ}{o:Oper}{p:Cp}{K:Act->World->Prop}(hs:dl Γ ⟨σ,H'⟩ κ Θ a w)(hx:Ext H H'){t:Nat}(hd:o.dst=some t)(ht:t<Γ.nt)(h:OI P H σ o p)
 (hr:p.r+p.obs.length<=H'.length) (hfree:∀i,i<p.obs.length->κ (p.r+i)=none)
 (hK:∀κ' Θ' a' w',dl Γ ⟨(t,p.d)::σ,place H' p.r p.obs⟩ κ' Θ' a' w'->(∀j,(j<p.r\/p.r+p.obs.length<=j)->κ' j=κ j)->K a' w'):o.wp P a w K Q':=by
 obtain⟨T,e,sz,len,parts,zs,ds,es,hop,hT,hz,hsz,hsmall,hf,habs,Rr,Pg⟩:=h;rw[Pg]at hr hfree hK;rw[Rr]at hK;have hf':yC (sv len sz) (List.replicate len zs).flatten (parts.toList.map fun q=>(q.1,St.ev ⟨σ,H'⟩ q.2))=some ds:=by
  rw[<-hf];congr 1
 obtain⟨arr,b0,hrun,N7,hb0,hal,hdl⟩:=zV (st:=⟨σ,H'⟩) hop hT hz hsz hsmall hf' hs;obtain⟨ρ,hu⟩:=hs.rV;obtain⟨bs,q1,q2,q3⟩:=RJ (H:=H) (ρ:=ρ) habs (by simp) N7 hb0 (by simp) e 0;have hel:es.length=len*sz:=by rw[<-q1.length,N7.length,hdl]
 obtain⟨c1,c2,c3⟩:=Du sz len es hel;have hs':=hs.Xa (r:=p.r) hr (by simpa using hfree 0 (by simp)) (u:=V9 H e 0 ds) (e:=e) (sz:=sz) (cap:=len) (rows:=chunk sz len es) (bs:=bs) arr hsz c3 hal (by rw[c1];exact bO _)
  (by unfold maxLen;have:len*1<=len*sz:=cv _ hsz;omega) (by rw[c1,c2,lI (by simp[hal])];exact q1) q2
  (fun hq=>by
   obtain⟨_,h2,h3⟩:=q3 hq;refine⟨?_,by rw[c1,c2,lI (by simp[hal])];exact h3⟩;cases bs with
   |nil=>rfl
   |cons b bs=>obtain⟨m,hm,_⟩:=h2 b (by simp);cases hm)
 unfold Oper.wp;rw[hrun,Oper.upon_value,hd];rw[c1]at hs';refine hK _ _ _ _ (hs'.set (t:=t) (d:=.acc p.r) (bs:=[]) ht ?_ (by simp)) (fun j hj=>?_)
 ·exact(yb.acc p.r _ (by simp[xN])).O0
 ·unfold xN;simp only[aP,bS]at hj;rw[b9 (by omega)]
theorem OH.wp{Q':Exit->Act->World->Prop}{σ:List (Nat×D)}{H H':bQ}{o:Oper}{p:Cp}{K:Act->World->Prop}(hs:dl Γ ⟨σ,H'⟩ κ Θ a w){t:Nat}(hd:o.dst=some t)(ht:t<Γ.nt)(h:OH P H σ o p)
 (hK:∀κ' Θ' a' w',dl Γ ⟨(t,p.d)::σ,place H' p.r p.obs⟩ κ' Θ' a' w'->(∀j,(j<p.r\/p.r+p.obs.length<=j)->κ' j=κ j)->K a' w'):o.wp P a w K Q':=by
 obtain⟨T,e,sz,len,parts,zs,ds,hop,hT,hz,hsz,hsmall,hf,a8U,a5E,Rr,Pg⟩:=h;rw[Pg]at hK;rw[Rr]at hK;have hf':yC (sv len sz) (List.replicate len zs).flatten (parts.toList.map fun q=>(q.1,St.ev ⟨σ,H'⟩ q.2))=some ds:=by
  rw[<-hf];congr 1
 obtain⟨arr,b0,hrun,N7,hb0,hal,hdl⟩:=zV (st:=⟨σ,H'⟩) hop hT hz hsz hsmall hf' hs;have hrd:=N7.pure a8U;have a89:b0=[]:=hrd.flat a5E;subst a89;obtain⟨c1,c2,c3⟩:=Du sz len ds hdl;have M5:Below w.heap.size w (w.alloc (.cells arr e)):=by
  have k:=iJ.alloc hs (.cells arr e) (tag:=2) (by omega);refine⟨k.os,k.tape,k.output,k.size,fun b hlt=>?_⟩;simp only[World.alloc];rw[Array.getElem?_push,b9 (by omega)]
 have hs':=hs.grow M5;unfold Oper.wp;rw[hrun,Oper.upon_value,hd];have hpl:place H' p.r ([]:bQ)=H':=by simp[place]
 rw[hpl]at hK;refine hK _ _ _ _ (hs'.set (t:=t) (d:=.sl (chunk sz len ds)) (bs:=[w.heap.size]) ht ?_ ?_) (fun j hj=>rfl)
 ·have hcell:∀j c,arr.toList[j]?=some c->(w.alloc (.cells arr e)).cell? ⟨w.heap.size,0+j,none⟩=some c:=by
   intro j c hj;simp only[cW,World.cell?,heap_alloc_new w _];simpa using hj
  have hlt:w.heap.size<(w.alloc (.cells arr e)).heap.size:=(bD.1 (heap_alloc_new w _)).1;have:=Rd.sl (w:=w.alloc (.cells arr e)) w.heap.size 0 len sz (chunk sz len ds) arr.toList [] hlt (by rw[c1];exact bO _) (by unfold maxLen;have:len*1<=len*sz:=cv _ hsz;omega) c3 hcell (by rw[c2];exact hrd.keep (by simp));rw[c1]at this;exact .of this
 ·intro b hb;simp only[cZ]at hb;subst hb;cases h:Θ w.heap.size with
  |zero=>rfl
  |succ m=>exact absurd (hs.own w.heap.size (by omega)) (by omega)
theorem I2.wp{Q':Exit->Act->World->Prop}{σ:List (Nat×D)}{H H':bQ}{o:Oper}{p:Cp}{K:Act->World->Prop}(hs:dl Γ ⟨σ,H'⟩ κ Θ a w)(hx:Ext H H'){t:Nat}(hd:o.dst=some t)(ht:t<Γ.nt)(h:I2 P H σ o p)
 (hr:p.r+p.obs.length<=H'.length) (hfree:∀i,i<p.obs.length->κ (p.r+i)=none)
 (hK:∀κ' Θ' a' w',dl Γ ⟨(t,p.d)::σ,place H' p.r p.obs⟩ κ' Θ' a' w'->(∀j,(j<p.r\/p.r+p.obs.length<=j)->κ' j=κ j)->K a' w'):o.wp P a w K Q':=by
 rcases h with h|h|h|h
 ·exact h.wp hs hx hd ht hr hfree hK
 ·exact h.wp hs hd ht hr hfree hK
 ·exact h.wp hs hx hd ht hr hfree hK
 ·exact h.wp hs hd ht hK
theorem dl.Yi(hs:dl Γ st κ Θ a w){ops:Array Oper}{j s:Nat}(hj:(ops[j]?).bind (·.dst)=some s)(hb:lk st.σ s=.gL []):yielded ops a.tmps j=none:=by
 obtain⟨bs,r,_⟩:=hs.slot s;rw[hb]at r;have hv:=r.O1;rcases eL s a.tmps.size with hlt|hlt
 ·have h1:a.tmps[s]?=some (.tuple #[]):=by
   rw[cG,cO hlt]at hv;rw[cO hlt];simpa using hv
  simp[yielded,hj,h1]
 ·simp[yielded,hj,rY hlt]
def Cp.B1(p:Cp)(H':bQ):bQ:=match p.up with|some (id,ob)=>H'.set id ob|none=>place H' p.r p.obs
theorem tU.wp{Q':Exit->Act->World->Prop}{σ:List (Nat×D)}{H H':bQ}{ops:Array Oper}{i:Nat}{o:Oper}{p:Cp}{K:Act->World->Prop}(hs:dl Γ ⟨σ,H'⟩ κ Θ a w)(hx:Ext H H')(hi:ops[i]?=some o)(h:tU P Γ ops H σ o p)
 (hr:p.r+p.obs.length<=H'.length) (hfree:∀i,i<p.obs.length->κ (p.r+i)=none) (RF:∀id ob,p.up=some (id,ob)->∃zs ds,H'[id]?=some (.box zs)/\ob=.box ds/\zs.length=ds.length)
 (hK:∀κ' Θ' a' w',dl Γ ⟨p.slot σ,p.B1 H'⟩ κ' Θ' a' w'->(∀j,(j<p.r\/p.r+p.obs.length<=j)->κ' j=κ j)->K a' w'):wpOp P ops Q' i K a w:=by
 rcases h with⟨t,hpt,TS,hd,ht,h⟩|⟨hpt,Pg,hd,hg,T,x,y,id,ds,hop,hev,hlen,hc,hT,hl,TS⟩
 ·have e1:p.slot σ=(t,p.d)::σ:=by simp[Cp.slot,hpt]
  have e2:p.B1 H'=place H' p.r p.obs:=by simp[Cp.B1,TS]
  rw[e1,e2]at hK;rcases h with⟨hg,hc⟩|⟨j,s,want,b,hg,hj,hb,hc⟩|⟨j,s,want,hg,hj,hb,a2c,hno⟩
  ·exact AH hi (by simp[Region.wanted,hg]) (hc.wp hs hx hd ht hr hfree hK)
  ·have hy:=hs.a4Q hj hb;rcases hc with⟨rfl,hc⟩|⟨hne,a2c,hno⟩
   ·exact AH hi (by simp[Region.wanted,hg,hy]) (hc.wp hs hx hd ht hr hfree hK)
   ·unfold wpOp;have hw:Region.wanted o (yielded ops a.tmps)=false:=by simp[Region.wanted,hg,hy,hne]
    simp only[hi,hw,zO,xW,hd];have hp:place H' p.r p.obs=H':=by rw[hno];simp[place]
    exact hK κ Θ _ _ (by rw[hp,a2c];exact hs.set ht (.gL [] [] [] .nil) (by simp)) (fun _ _=>rfl)
  ·have hy:=hs.Yi hj hb;unfold wpOp;have hw:Region.wanted o (yielded ops a.tmps)=false:=by simp[Region.wanted,hg,hy]
   simp only[hi,hw,zO,xW,hd];have hp:place H' p.r p.obs=H':=by rw[hno];simp[place]
   exact hK κ Θ _ _ (by rw[hp,a2c];exact hs.set ht (.gL [] [] [] .nil) (by simp)) (fun _ _=>rfl)
 ·have e1:p.slot σ=σ:=by simp[Cp.slot,hpt]
  have e2:p.B1 H'=H'.set id (.box ds):=by simp[Cp.B1,TS]
  rw[e1,e2]at hK;obtain⟨zs,ds',hz,he,hzl⟩:=RF id _ TS;cases he;obtain⟨w',hrun,hs'⟩:=Nw (st:=⟨σ,H'⟩) hop (by rw[QD σ H' H x];exact hev) hz rfl (by rw[QD σ H' H y];exact hc) hT hl (by omega) rfl hs;refine AH hi (by simp[Region.wanted,hg]) ?_;unfold Oper.wp;rw[hrun,Oper.upon_skip,hd];have e3:zs.take 0++ds++zs.drop (0+ds.length)=ds:=by
   rw[Bt (by omega)];simp
  rw[e3]at hs';exact hK κ Θ _ _ hs' (fun _ _=>rfl)
theorem Jm.congr{H:bQ}{σ σ':List (Nat×D)}{o:Oper}{p:Cp}(he:∀x∈o.op.operands.toList,St.ev ⟨σ,H⟩ x=St.ev ⟨σ',H⟩ x)(h:Jm P H σ o p):Jm P H σ' o p:=by
 rcases h with⟨h,hno⟩|⟨f,xs,ts,ds,ms,d,hop,hds,hsh,ng,hi⟩
 ·exact .inl ⟨PE (fun _ _ h=>h) he h,hno⟩
 ·have hm:xs.toList.map (St.ev ⟨σ,H⟩)=xs.toList.map (St.ev ⟨σ',H⟩):=by
   apply oQ;intro x hx;refine he x ?_;rw[hop];simp only[Op.operands,Call.operands,lz,aR];exact .inr hx
  rw[hm]at hds;exact .inr ⟨f,xs,ts,ds,ms,d,hop,hds,hsh,ng,hi⟩
theorem I2.congr{H:bQ}{σ σ':List (Nat×D)}{o:Oper}{p:Cp}(he:∀x∈o.op.operands.toList,St.ev ⟨σ,H⟩ x=St.ev ⟨σ',H⟩ x)(h:I2 P H σ o p):I2 P H σ' o p:=by
 rcases h with h| (h|⟨T,x,ds,hop,hc,Rr,Pg⟩)|⟨T,e,sz,len,parts,zs,ds,es,hop,hT,hz,hsz,hsmall,hf,habs,Rr,Pg⟩|⟨T,e,sz,len,parts,zs,ds,hop,hT,hz,hsz,hsmall,hf,habs,hfl,Rr,Pg⟩
 ·exact .inl (h.congr he)
 ·exact .inr (.inl (.inl h))
 ·exact .inr (.inl (.inr ⟨T,x,ds,hop,by rw[<-he x (by rw[hop];simp[Op.operands])];exact hc,Rr,Pg⟩))
 ·refine .inr (.inr (.inl ⟨T,e,sz,len,parts,zs,ds,es,hop,hT,hz,hsz,hsmall,?_,habs,Rr,Pg⟩));rw[<-hf]
  congr 1
  apply oQ;intro q hq;rw[he q.2 ?_];rw[hop];simp only[Op.operands,gw];exact cE.2 ⟨q,hq,rfl⟩
 ·refine .inr (.inr (.inr ⟨T,e,sz,len,parts,zs,ds,hop,hT,hz,hsz,hsmall,?_,habs,hfl,Rr,Pg⟩));rw[<-hf]
  congr 1
  apply oQ;intro q hq;rw[he q.2 ?_];rw[hop];simp only[Op.operands,gw];exact cE.2 ⟨q,hq,rfl⟩
theorem tU.congr{H:bQ}{σ σ':List (Nat×D)}{ops:Array Oper}{o:Oper}{p:Cp}(he:∀t∈o.looksAt ops,lk σ t=lk σ' t)(h:tU P Γ ops H σ o p):tU P Γ ops H σ' o p:=by
 have hev:=Lx (st:=⟨σ,H⟩) (v7:=⟨σ',H⟩) he;have hgu:∀ {j s:Nat} {want:Bool},o.guard=some (j,want)->(ops[j]?).bind (·.dst)=some s->lk σ s=lk σ' s:=by
  intro j s want hg hj;refine he s ?_;unfold Oper.looksAt;refine aR.2 (.inr ?_);simp[hg,hj]
 rcases h with⟨t,hpt,TS,hd,ht,h⟩|⟨hpt,Pg,hd,hg,T,x,y,id,ds,hop,hx,hlen,hc,hT,hl,TS⟩
 ·refine .inl ⟨t,hpt,TS,hd,ht,?_⟩;rcases h with⟨hg,hc⟩|⟨j,s,want,b,hg,hj,hb,hc⟩|⟨j,s,want,hg,hj,hb,hc⟩
  ·exact .inl ⟨hg,hc.congr hev⟩
  ·refine .inr (.inl ⟨j,s,want,b,hg,hj,by rw[<-hgu hg hj];exact hb,?_⟩);rcases hc with⟨h1,hc⟩|hc
   ·exact .inl ⟨h1,hc.congr hev⟩
   ·exact .inr hc
  ·exact .inr (.inr ⟨j,s,want,hg,hj,by rw[<-hgu hg hj];exact hb,hc⟩)
 ·refine .inr ⟨hpt,Pg,hd,hg,T,x,y,id,ds,hop,?_,hlen,?_,hT,hl,TS⟩
  ·rw[<-hev x (by rw[hop];simp[Op.operands])];exact hx
  ·rw[<-hev y (by rw[hop];simp[Op.operands])];exact hc
def Cp.sl(p:Cp):Option (Nat×D):=p.t.map fun t=>(t,p.d)
theorem Cp.a0m(p:Cp)(σ:List (Nat×D)):p.slot σ=p.sl.toList++σ:=by
 unfold Cp.slot Cp.sl;cases p.t<;>rfl
theorem LR(p:Cp)(ps:List Cp)(σ:List (Nat×D)):((p::ps).filterMap Cp.sl).reverse++σ=(ps.filterMap Cp.sl).reverse++p.slot σ:=by
 rw[Cp.a0m,yZ];cases p.sl<;>simp
theorem tU.Yk{H:bQ}{σ:List (Nat×D)}{o:Oper}{p:Cp}(h:tU P Γ all H σ o p):p.up=none\/p.obs=[]:=by
 rcases h with⟨_,_,h,_⟩|⟨_,h,_⟩
 ·exact .inl h
 ·exact .inr h
theorem tU.slots{H:bQ}{σ:List (Nat×D)}{o:Oper}{p:Cp}(h:tU P Γ all H σ o p):o.dst=p.t:=by
 rcases h with⟨t,h1,_,h2,_⟩|⟨h1,_,h2,_⟩
 ·rw[h1,h2]
 ·rw[h1,h2]
theorem KY.unfold{H:bQ}{K:List (Nat×D)->bQ->Prop}:∀(l:List Oper) (σ:List (Nat×D)) (acc:bQ) (U:aW),KY P Γ all H K l σ acc U->
 ∃(ps:List Cp) (L4:bQ),ps.length=l.length/\(∀(i:Nat) o p,l[i]?=some o->ps[i]?=some p->tU P Γ all H (((ps.take i).filterMap Cp.sl).reverse++σ) o p/\p.r=H.length+acc.length+((ps.take i).flatMap Cp.obs).length/\
  ∀id ob,p.up=some (id,ob)->id∉U/\H.length<=id/\(∃zs ds,ob=.box ds/\zs.length=ds.length/\(acc++(ps.take i).flatMap Cp.obs)[id-H.length]?=some (.box zs))/\∀(i2:Nat) q B8,i2<i->ps[i2]?=some q->q.up≠some (id,B8))/\
  K ((ps.filterMap Cp.sl).reverse++σ) L4/\L4.length=acc.length+(ps.flatMap Cp.obs).length/\
  (∀k,(∀(i:Nat) q ob,ps[i]?=some q->q.up≠some (H.length+k,ob))->L4[k]?=(acc++ps.flatMap Cp.obs)[k]?)/\
  ∀(i:Nat) q id ob,ps[i]?=some q->q.up=some (id,ob)->L4[id-H.length]?=some ob:=by
 intro l
 induction l with
 |nil=>
  intro σ acc U h;have h:K σ acc:=h;exact⟨[],acc,rfl,by simp,by simpa using h,by simp,by simp,by simp⟩
 |cons o l ih=>
  intro σ acc U h;obtain⟨p,hr,hc,hok,qU⟩:=h;obtain⟨ps,L4,h1,h2,h3,h4,h5,h6⟩:=ih _ _ _ qU;cases RF:p.up with
  |none=>
   have ef:p.fill H.length acc=acc++p.obs:=by simp[Cp.fill,RF]
   have eu:p.ups U=U:=by simp[Cp.ups,RF]
   rw[ef]at h2 h4 h5;rw[eu]at h2;refine⟨p::ps,L4,by simp[h1],?_,by rw[LR];exact h3,by rw[h4];simp;omega,?_,?_⟩
   ·intro i o' p' ho hp;cases i with
    |zero=>
     simp at ho hp;subst ho;subst hp;refine⟨by simpa using hc,by simpa using hr,?_⟩;intro id ob he;rw[RF]at he;cases he
    |succ i=>
     simp at ho hp;obtain⟨q1,q2,q3⟩:=h2 i o' p' ho hp;refine⟨by rw[uX,LR];exact q1,by rw[q2];simp;omega,?_⟩;intro id ob he;obtain⟨r1,r2,⟨zs,ds,r3,r4,r5⟩,r6⟩:=q3 id ob he;refine⟨r1,r2,⟨zs,ds,r3,r4,by rw[<-r5];simp⟩,?_⟩;intro i2 q B8 hlt hq;cases i2 with
     |zero=>simp at hq;subst hq;rw[RF];simp
     |succ i2=>exact r6 i2 q B8 (by omega) (by simpa using hq)
   ·intro k hk;rw[h5 k (fun i q ob hq=>hk (i+1) q ob (by simpa using hq))];simp
   ·intro i q id ob hq he;cases i with
    |zero=>simp at hq;subst hq;rw[RF]at he;cases he
    |succ i=>exact h6 i q id ob (by simpa using hq) he
  |some x=>
   obtain⟨TZ,ob0⟩:=x;have ef:p.fill H.length acc=acc.set (TZ-H.length) ob0:=by simp[Cp.fill,RF]
   have eu:p.ups U=TZ::U:=by simp[Cp.ups,RF]
   have VR:p.obs=[]:=by
    rcases hc.Yk with h|h
    ·rw[h]at RF;cases RF
    ·exact h
   rw[ef]at h2 h4 h5;rw[eu]at h2;simp only[Cp.a6x,RF]at hok;obtain⟨u1,u2,zs0,Zi,u3,u4,u5⟩:=hok;have qo:∀(X:bQ) (k:Nat),k≠TZ-H.length->(acc.set (TZ-H.length) ob0++X)[k]?=(acc++X)[k]?:=by
    intro X k hk;by_cases hl:k<acc.length
    ·rw[ar (by simpa using hl),ar hl,cB (rZ hk)]
    ·rw[b8 (by simpa using hl),b8 (by omega)];simp
   have hno:∀(i:Nat) q B8,ps[i]?=some q->q.up≠some (TZ,B8):=by
    intro i q B8 hq he;have hlt:i<l.length:=by have:=(aF.1 hq).1;omega
    have:=(h2 i l[i] q (af hlt) hq).2.2 TZ B8 he;exact this.1 (by simp)
   refine⟨p::ps,L4,by simp[h1],?_,by rw[LR];exact h3,by rw[h4];simp[VR],?_,?_⟩
   ·intro i o' p' ho hp;cases i with
    |zero=>
     simp at ho hp;subst ho;subst hp;refine⟨by simpa using hc,by simpa using hr,?_⟩;intro id ob he;rw[RF]at he;cases he;exact⟨u1,u2,⟨zs0,Zi,u4,u5,by simpa using u3⟩,by intro i2 q B8 hlt;omega⟩
    |succ i=>
     simp at ho hp;obtain⟨q1,q2,q3⟩:=h2 i o' p' ho hp;refine⟨by rw[uX,LR];exact q1,by rw[q2];simp[VR],?_⟩;intro id ob he;obtain⟨r1,r2,⟨zs,ds,r3,r4,r5⟩,r6⟩:=q3 id ob he;have hne:id≠TZ:=fun e=>r1 (by simp[e])
     refine⟨fun h=>r1 (by simp[h]),r2,⟨zs,ds,r3,r4,?_⟩,?_⟩
     ·rw[<-r5,qo _ _ (by omega)];simp[VR]
     ·intro i2 q B8 hlt hq;cases i2 with
      |zero=>simp at hq;subst hq;rw[RF];intro e;cases e;exact hne rfl
      |succ i2=>exact r6 i2 q B8 (by omega) (by simpa using hq)
   ·intro k hk;rw[h5 k (fun i q ob hq=>hk (i+1) q ob (by simpa using hq))];have hne:k≠TZ-H.length:=fun e=>hk 0 p ob0 rfl (by rw[RF,e,show H.length+(TZ-H.length)=TZ from by omega])
    rw[qo _ _ hne];simp[VR]
   ·intro i q id ob hq he;cases i with
    |zero=>
     simp at hq;subst hq;rw[RF]at he;cases he;rw[h5 (TZ-H.length) (fun i q B8 hq=>by rw[show H.length+(TZ-H.length)=TZ from by omega];exact hno i q B8 hq)];have hl:TZ-H.length<acc.length:=(aF.1 u3).1;rw[ar (by simpa using hl),dB hl]
    |succ i=>exact h6 i q id ob (by simpa using hq) he
theorem dl.same{σ':List (Nat×D)}(h:∀t,lk st.σ t=lk σ' t)(hs:dl Γ st κ Θ a w):dl Γ ⟨σ',st.H⟩ κ Θ a w:=
 ⟨hs.defers,hs.size,hs.pH,hs.oN,fun t=>by show∃bs,rW w κ _ (lk σ' t) bs/\_;rw[<-h t];exact hs.slot t,hs.ob,hs.own,hs.old,hs.mine,hs.stays,hs.rV⟩
theorem dl.room(hs:dl Γ st κ Θ a w)(m:Nat):dl Γ ⟨st.σ,st.H++List.replicate m .gone⟩ κ Θ a w:=by
 have key:∀(j:Nat) y,(st.H++List.replicate m .gone)[j]?=some y->y=.gone\/st.H[j]?=some y:=by
  intro j y hj;by_cases hlt:j<st.H.length
  ·rw[ar hlt]at hj;exact .inr hj
  ·rw[b8 (by omega)]at hj;rw[List.getElem?_replicate]at hj;split at hj
   ·cases hj;exact .inl rfl
   ·cases hj
 obtain⟨ρ,hu⟩:=hs.rV;refine⟨hs.defers,hs.size,fun i hi=>hs.pH i (by simp at hi;omega),hs.oN,hs.slot,?_,hs.own,hs.old,hs.mine,hs.stays,ρ,hu.free,?_,?_⟩
 ·intro j o hj;rcases key j o hj with rfl|h
  ·trivial
  ·exact hs.ob j o h
 ·intro id e sz rows hj;rcases key id _ hj with h|h
  ·cases h
  ·exact hu.rows id e sz rows h
 ·intro id o hj;rcases key id _ hj with h|h
  ·subst h;trivial
  ·exact hu.more id o h
theorem qn{ps:List Cp}{i:Nat}{p:Cp}(h:ps[i]?=some p):ps.flatMap Cp.obs=(ps.take i).flatMap Cp.obs++(p.obs++(ps.drop (i+1)).flatMap Cp.obs):=by
 have e:ps=ps.take i++(p::ps.drop (i+1)):=by
  obtain⟨hlt,rfl⟩:=aF.1 h;rw[Bu,cF]
 conv=>lhs;rw[e]
 simp
theorem z7{ps:List Cp}:∀ {k:Nat},k<(ps.flatMap Cp.obs).length->∃(i:Nat) (p:Cp) (j:Nat),ps[i]?=some p/\j<p.obs.length/\k=((ps.take i).flatMap Cp.obs).length+j:=by
 induction ps with
 |nil=>intro k h;simp at h
 |cons p ps ih=>
  intro k h;by_cases hk:k<p.obs.length
  ·exact⟨0,p,k,rfl,hk,by simp⟩
  ·simp only[fI,av]at h;obtain⟨i,q,j,h1,h2,h3⟩:=ih (k:=k-p.obs.length) (by omega);refine⟨i+1,q,j,by simpa using h1,h2,?_⟩;rw[uX,fI,av];omega
theorem Nt{ps:List Cp}{i j:Nat}{p:Cp}(hp:ps[i]?=some p)(hij:i<j):((ps.take i).flatMap Cp.obs).length+p.obs.length<=((ps.take j).flatMap Cp.obs).length:=by
 have h:(ps.take j)[i]?=some p:=by rw[cP,bN hij];exact hp
 have:=qn h;rw[this];have e:(ps.take j).take i=ps.take i:=by rw[tS,fG (by omega)]
 rw[e];simp only[av];omega
theorem ZK{id:Nat}{l:List Oper}(n:Nat)(hm:P.follows .mixedOrders=true)(hB:WD l.toArray n=true)
 (h:KY P Γ l.toArray st.H (fun σ acc=>AO P Γ l.toArray (l.drop n) Q ⟨σ,st.H++acc⟩) (l.take n) st.σ [] []):AW P Γ (.region id l.toArray true) Q st:=by
 simp only[WD,aV,oD,bI]at hB;obtain⟨⟨⟨hn,hsc⟩,Zq⟩,Kg⟩:=hB;obtain⟨ps,L4,hlen,M7,hK,hFl,hFo,hFu⟩:=KY.unfold _ _ _ _ h;simp only[ck,bS,yu,cW]at M7 hK hFl hFo;have hn':n<=l.length:=by simpa using hn
 have hpl:ps.length=n:=by rw[hlen];simp;omega
 have hop:∀(i:Nat),i<n->∃o p,l.toArray[i]?=some o/\ps[i]?=some p/\o.dst=p.t/\tU P Γ l.toArray st.H (((ps.take i).filterMap Cp.sl).reverse++st.σ) o p/\p.r=st.H.length+((ps.take i).flatMap Cp.obs).length:=by
  intro i hi;have h1:l[i]?=some l[i]:=af (by omega);have h2:ps[i]?=some ps[i]:=af (by omega);have h3:=M7 i l[i] ps[i] (by rw[cP,bN hi];exact h1) h2;exact⟨l[i],ps[i],by simp[iD,h1],h2,h3.1.slots,h3.1,h3.2.1⟩
 have Rs:∀(i:Nat) p,ps[i]?=some p->p.r=st.H.length+((ps.take i).flatMap Cp.obs).length:=by
  intro i p hp;have hi:i<n:=by have:=(aF.1 hp).1;omega
  obtain⟨_,p',_,hp',_,_,hr⟩:=hop i hi;rw[hp]at hp';cases hp';exact hr
 have Oe:∀(i:Nat) p id ob,ps[i]?=some p->p.up=some (id,ob)->st.H.length<=id/\(∃zs ds,ob=.box ds/\zs.length=ds.length/\((ps.take i).flatMap Cp.obs)[id-st.H.length]?=some (.box zs))/\∀(i2:Nat) q B8,i2<i->ps[i2]?=some q->q.up≠some (id,B8):=by
  intro i p id ob hp he;have hi:i<n:=by have:=(aF.1 hp).1;omega
  have h1:l[i]?=some l[i]:=af (by omega);have h3:=(M7 i l[i] p (by rw[cP,bN hi];exact h1) hp).2.2 id ob he;exact⟨h3.2.1,h3.2.2.1,h3.2.2.2⟩
 have Ws:∀(i j:Nat) p q id ob B8,ps[i]?=some p->ps[j]?=some q->p.up=some (id,ob)->q.up=some (id,B8)->i=j:=by
  intro i j p q id ob B8 hp hq he Ho;rcases w5 i j with h|h|h
  ·exact absurd he ((Oe j q id B8 hq Ho).2.2 i p ob h hp)
  ·exact h
  ·exact absurd Ho ((Oe i p id ob hp he).2.2 j q B8 h hq)
 have Wt:∀(i:Nat) p id ob,ps[i]?=some p->p.up=some (id,ob)->p.obs=[]:=by
  intro i p id ob hp he;have hi:i<n:=by have:=(aF.1 hp).1;omega
  obtain⟨_,p',_,hp',_,hc,_⟩:=hop i hi;rw[hp]at hp';cases hp';rcases hc.Yk with h|h
  ·rw[h]at he;cases he
  ·exact h
 have hfit:∀(i:Nat) p,ps[i]?=some p->p.r+p.obs.length<=st.H.length+(ps.flatMap Cp.obs).length:=by
  intro i p hp;rw[Rs i p hp,qn hp];simp only[av];omega
 have OX:∀(i j:Nat) p q,ps[i]?=some p->ps[j]?=some q->i<j->p.r+p.obs.length<=q.r:=by
  intro i j p q hp hq hij;rw[Rs i p hp,Rs j q hq];have:=Nt hp hij;omega
 have hdist:∀(i j:Nat) p q t,ps[i]?=some p->ps[j]?=some q->p.t=some t->q.t=some t->i=j:=by
  intro i j p q t hp hq he1 Ho;have hi:i<n:=by have:=(aF.1 hp).1;omega
  have hj:j<n:=by have:=(aF.1 hq).1;omega
  obtain⟨oi,p',ho,hp',hdi,_⟩:=hop i hi;obtain⟨oj,q',xz,NA,hdj,_⟩:=hop j hj;rw[hp]at hp';cases hp';rw[hq]at NA;cases NA;have:=aq.1 Kg i (bh.2 hi);simp only[ho,aV]at this;have:=aq.1 this.2 j (bh.2 hj);simp only[xz,hdi,hdj,he1,Ho,qx,bW,ug,Option.isNone_some,ug,cc]at this;exact this.symm
 have Eo:∀(i:Nat) p t,ps[i]?=some p->p.t=some t->∀q∈ps.filterMap Cp.sl,q.1=t->q=(t,p.d):=by
  intro i p t hp hpt q hq he;obtain⟨q',NA,KK⟩:=cD.1 hq;obtain⟨j,hj,rfl⟩:=eO.1 NA;have Hy:ps[j]?=some ps[j]:=af hj;unfold Cp.sl at KK;cases Zo:ps[j].t with
  |none=>rw[Zo]at KK;cases KK
  |some u=>
   rw[Zo]at KK;simp only[cU,ah]at KK;subst KK;simp only at he;subst he;have:=hdist j i _ p u Hy hp Zo hpt;subst this;rw[hp]at Hy;cases Hy;rfl
 intro κ Θ a w hs;have main:∀(f:Nat) (listed:Array Bool) (σ':List (Nat×D)) (H':bQ) (κ:Nat->Option Value) (Θ:Nat->Nat) (a:Act) (w:World),HeadInv .any l.toArray n listed->
  ((List.range n).filter fun i=> !listed.getD i false).length=f->
  (∀(i:Nat) p t,ps[i]?=some p->p.t=some t->listed.getD i false=true->lk σ' t=p.d)->
  (∀t,(∀(i:Nat) p,ps[i]?=some p->listed.getD i false=true->p.t≠some t)->lk σ' t=lk st.σ t)->
  H'.length=st.H.length+(ps.flatMap Cp.obs).length->Ext st.H H'->
  (∀(i:Nat) p,ps[i]?=some p->listed.getD i false=true->∀(j:Nat) o,p.obs[j]?=some o->(∀(i2:Nat) q ob,ps[i2]?=some q->listed.getD i2 false=true->q.up≠some (p.r+j,ob))->H'[p.r+j]?=some o)->
  (∀(i:Nat) q id ob,ps[i]?=some q->listed.getD i false=true->q.up=some (id,ob)->H'[id]?=some ob/\∃v,κ id=some v)->
  (∀(i:Nat) p,ps[i]?=some p->listed.getD i false=false->∀j,j<p.obs.length->κ (p.r+j)=none)->
  dl Γ ⟨σ',H'⟩ κ Θ a w->
  wpAny P .any l.toArray (fun e a' w'=>∃v7 κ' Θ',dl Γ v7 κ' Θ' a' w'/\Q e v7) (f+(l.toArray.size-n)) listed a w:=by
  intro f
  induction f with
  |zero=>
   intro listed σ' H' κ Θ a w inv oc hA hB hHl VN TM Z3 TL hs;have hall:∀i,i<n->listed.getD i false=true:=by
    intro i hi;have h0:=cL oc;cases hl:listed.getD i false with
    |true=>rfl
    |false=>
     have:i∈(List.range n).filter fun i=> !listed.getD i false:=gr.2 ⟨bh.2 hi,by simp[hl]⟩
     rw[h0]at this;cases this
   have Wd:listed=Array.replicate n true++Array.replicate (l.toArray.size-n) false:=by
    apply Array.ext
    ·rw[inv.size];simp;simp at hn;omega
    ·intro i h1 h2;by_cases hi:i<n
     ·have:=hall i hi;rw[AL (by simpa using hi)];simp[h1]at this;simp[this]
     ·have hi':i<l.toArray.size:=by rw[<-inv.size];exact h1
      have:=inv.tail i (by omega) hi';rw[zN (by simpa using hi)];simp[h1]at this;simp[this]
   rw[cW];have KI:∀t,lk σ' t=lk ((ps.filterMap Cp.sl).reverse++st.σ) t:=by
    intro t;by_cases hex:∃(i:Nat) (p:Cp),ps[i]?=some p/\p.t=some t
    ·obtain⟨i,p,hp,hpt⟩:=hex;have hi:i<n:=by have:=(aF.1 hp).1;omega
     rw[hA i p t hp hpt (hall i hi)];have:=Hq (ps.filterMap Cp.sl).reverse st.σ (t,p.d) (by rw[eA];exact cD.2 ⟨p,aE hp,by simp[Cp.sl,hpt]⟩) (fun q hq he=>Eo i p t hp hpt q (by simpa using hq) he);exact this.symm
    ·rw[hB t (fun i p hp _ he=>hex ⟨i,p,hp,he⟩),Ex];intro q hq he;obtain⟨p,hp,hps⟩:=cD.1 (eA.1 hq);obtain⟨i,hi,hpi⟩:=eO.1 hp;refine hex ⟨i,p,by rw[<-hpi];exact af hi,?_⟩;unfold Cp.sl at hps;cases hpt:p.t with
     |none=>rw[hpt]at hps;cases hps
     |some u=>rw[hpt]at hps;simp only[cU,ah]at hps;subst hps;simp only at he;rw[he]
   have WL:H'=st.H++L4:=by
    apply nw;intro k;by_cases h1:k<st.H.length
    ·rw[ar h1];exact VN k _ (af h1)|>.trans (af h1).symm
    ·rw[b8 (by omega)];by_cases hex:∃(i:Nat) (q:Cp) (ob:Ob),ps[i]?=some q/\q.up=some (k,ob)
     ·obtain⟨i,q,ob,hq,he⟩:=hex;have hi:i<n:=by have:=(aF.1 hq).1;omega
      rw[(Z3 i q k ob hq (hall i hi) he).1,hFu i q k ob hq he]
     ·have hno:∀(i:Nat) q ob,ps[i]?=some q->q.up≠some (k,ob):=fun i q ob hq he=>hex ⟨i,q,ob,hq,he⟩
      rw[hFo (k-st.H.length) (fun i q ob hq=>by rw[show st.H.length+(k-st.H.length)=k from by omega];exact hno i q ob hq)];by_cases h2:k-st.H.length<(ps.flatMap Cp.obs).length
      ·obtain⟨i,p,j,hp,hj,hk⟩:=z7 h2;have hi:i<n:=by have:=(aF.1 hp).1;omega
       have e3:p.r+j=k:=by rw[Rs i p hp];omega
       have h3:=TM i p hp (hall i hi) j _ (af hj) (fun i2 q ob hq _=>by rw[e3];exact hno i2 q ob hq);rw[e3]at h3;rw[h3,qn hp,hk,b8 (by omega),dP,ar hj,af hj]
      ·rw[cN (by omega),cN (by omega)]
   have hs2:=dl.same (st:=⟨σ',H'⟩) (σ':=(ps.filterMap Cp.sl).reverse++st.σ) KI hs;simp only[WL]at hs2;have hwp:=hK κ Θ a w hs2;have hdl:(l.drop n).length=l.toArray.size-n:=by simp
   have:=wpAny_of_seq (md:=.any) (l.drop n) n listed a w (fun j=>by simp[eZ]) (by rw[hdl,Wd];exact Zq) hwp
   rwa[hdl]at this
  |succ f ih=>
   intro listed σ' H' κ Θ a w inv oc hA hB hHl VN TM Z3 TL hs;have hun:∃i,i<n/\listed.getD i false=false:=by
    have hne:((List.range n).filter fun i=> !listed.getD i false)≠[]:=by
     intro h0;rw[h0]at oc;simp at oc
    obtain⟨i,hi⟩:=uR _ hne;obtain⟨h1,h2⟩:=gr.1 hi;exact⟨i,bh.1 h1,by simpa using h2⟩
   have hsz:=inv.size;rw[show f+1+(l.toArray.size-n)=(f+(l.toArray.size-n))+1 from by omega];refine⟨fun h0=>?_,fun i hi=>?_⟩
   ·exfalso;obtain⟨i,⟨hin,RE⟩,hmin⟩:=exists_least (p:=fun i=>i<n/\listed.getD i false=false) hun;obtain⟨o,p,ho,_,_,_⟩:=hop i hin;have:i∈Region.ready .any l.toArray listed:=by
     refine mem_ready.2 ⟨getD_in (by rw[hsz];omega) RE,o,ho,fun e he hb=>?_⟩;have:=aq.1 Kg i (bh.2 hin);simp only[ho,aV]at this;have:=vF.1 this.1.1 e he;simp only[hb,bW,qW,bI]at this;cases hl:listed.getD e.on false with
     |true=>rfl
     |false=>
      have:=hmin e.on ⟨by omega,hl⟩;omega
    rw[h0]at this;cases this
   ·obtain⟨i0,hi0,hl0⟩:=hun;have hin:i<n:=by
     rcases eL i n with h|h
     ·exact h
     ·rcases hsc with he|⟨hn2,a5V,hchain⟩
      ·obtain⟨_,oi,hoi,_⟩:=mem_ready.1 hi;have:=(bD.1 hoi).1;omega
      ·exact absurd hi (tail_waits a5V hchain hn2 inv _ i0 rfl hi0 (getD_in (by rw[hsz];omega) hl0) i h)
    obtain⟨o,p,ho,hp,hd,hc,_⟩:=hop i hin;obtain⟨RE,o',ho',hall⟩:=mem_ready.1 hi;rw[ho]at ho';cases ho';have Ay:=getD_both RE;have WR:tU P Γ l.toArray st.H σ' o p:=by
     refine tU.congr (σ:=((ps.take i).filterMap Cp.sl).reverse++st.σ) (σ':=σ') ?_ hc;intro t ht;have J0:=aq.1 Kg i (bh.2 hin);simp only[ho,aV]at J0;have J0:=aq.1 J0.1.2 t ht;by_cases hex:∃(j:Nat) (q:Cp),ps[j]?=some q/\q.t=some t
     ·obtain⟨j,q,hq,LF⟩:=hex;have hj:j<n:=by have:=(aF.1 hq).1;omega
      obtain⟨oj,q',xz,NA,hdj,_⟩:=hop j hj;rw[hq]at NA;cases NA;have:=aq.1 J0 j (bh.2 hj);simp only[xz,hdj,LF,qx,bW,qW,aV,bI]at this;obtain⟨hji,Wu⟩:=this;obtain⟨oi',Wk,e,he,hb,hon⟩:=Region.waitsFor_spec Wu;rw[ho]at Wk;cases Wk;have hjl:=hall e he hb;rw[hon]at hjl;rw[hA j q t hq LF hjl];refine Hq ((ps.take i).filterMap Cp.sl).reverse st.σ (t,q.d) ?_ (fun q2 Hy Ho=>Eo j q t hq LF q2 ?_ Ho)
      ·rw[eA];exact cD.2 ⟨q,aE (i:=j) (by rw[cP,bN hji];exact hq),by simp[Cp.sl,LF]⟩
      ·obtain⟨q3,Rt,yA⟩:=cD.1 (eA.1 Hy);exact cD.2 ⟨q3,bu Rt,yA⟩
     ·rw[hB t (fun j q hq _ he=>hex ⟨j,q,hq,he⟩),Ex];intro q hq he;obtain⟨q3,Rt,yA⟩:=cD.1 (eA.1 hq);obtain⟨j,hj,hqj⟩:=eO.1 (bu Rt);refine hex ⟨j,q3,by rw[<-hqj];exact af hj,?_⟩;unfold Cp.sl at yA;cases hpt:q3.t with
      |none=>rw[hpt]at yA;cases yA
      |some u=>rw[hpt]at yA;simp only[cU,ah]at yA;subst yA;simp only at he;rw[he]
    have hfp:=hfit i p hp;have Wa:∀id ob,p.up=some (id,ob)->∃v,κ id=some v:=by
     intro id ob he;rcases WR with⟨_,_,h,_⟩|⟨_,_,_,_,T,x,y,id',ds,Ro,hx',_,_,_,_,TS⟩
     ·rw[h]at he;cases he
     ·rw[TS]at he;cases he;obtain⟨b1,r1,_⟩:=hs.ev x;rw[QD σ' H' st.H x,hx']at r1;obtain⟨g,hk,_⟩:=r1.zD;exact⟨_,hk⟩
    have Wq:∀id ob,p.up=some (id,ob)->∃zs ds,H'[id]?=some (.box zs)/\ob=.box ds/\zs.length=ds.length:=by
     intro id ob he;obtain⟨u1,⟨zs,ds,u2,u3,u4⟩,_⟩:=Oe i p id ob hp he;refine⟨zs,ds,?_,u2,u3⟩;obtain⟨i1,p1,j1,hp1,Gg,hk1⟩:=z7 (aF.1 u4).1;have Rq:ps[i1]?=some p1:=by
      have:=(aF.1 hp1).1;rw[cP]at hp1;split at hp1
      ·exact hp1
      ·cases hp1
     have hi1:i1<i:=by have:=(aF.1 hp1).1;simp at this;omega
     have et:(ps.take i).take i1=ps.take i1:=by rw[tS,fG (by omega)]
     rw[et]at hk1;have e1:p1.r+j1=id:=by rw[Rs i1 p1 Rq];omega
     have xy:p1.obs[j1]?=some (.box zs):=by
      rw[qn hp1,et,hk1,b8 (by omega),dP,ar Gg]at u4;exact u4
     have hl1:listed.getD i1 false=true:=by
      cases hl:listed.getD i1 false with
      |true=>rfl
      |false=>
       have h0:=TL i1 p1 Rq hl j1 Gg;rw[e1]at h0;obtain⟨v,hv⟩:=Wa id ob he;rw[h0]at hv;cases hv
     have:=TM i1 p1 Rq hl1 j1 _ xy (fun i2 q B8 hq hl Ho=>by
      rw[e1]at Ho;have:=Ws i i2 p q id ob B8 hp hq he Ho;subst this;rw[Ay]at hl;cases hl)
     rw[e1]at this;exact this
    refine WR.wp hs VN ho (by omega) (fun j hj=>TL i p hp Ay j hj) Wq fun κ' Θ' a' w' hs' hsame=>?_
    have qo:∀(j:Nat),(listed.setIfInBounds i true).getD j false=true↔(j=i\/listed.getD j false=true):=by
     intro j;by_cases e:i=j
     ·subst e;have:i<listed.size:=by rw[hsz];omega
      simp[this]
     ·rw[getD_set_ne false e];constructor
      ·exact .inr
      ·rintro(rfl|h)
       ·exact absurd rfl e
       ·exact h
    have hput:(p.B1 H').length=H'.length:=by
     unfold Cp.B1;split
     ·simp
     ·exact uL (by omega)
    have a2n:∀(k:Nat),k<st.H.length->(p.B1 H')[k]?=H'[k]?:=by
     intro k hk;unfold Cp.B1;split
     ·rename_i id ob he;have:=(Oe i p id ob hp he).1;rw[cB (by omega)]
     ·rw[uK (by omega),bN (by rw[Rs i p hp];omega)]
    refine ih (listed.setIfInBounds i true) (p.slot σ') (p.B1 H') κ' Θ' a' w' (inv.set hi hin) ?_ ?_ ?_ (by rw[hput];exact hHl) ?_ ?_ ?_ ?_ hs'
    ·have UQ:((List.range n).filter fun j=> !(listed.setIfInBounds i true).getD j false)=((List.range n).filter fun j=> !listed.getD j false).erase i:=by
      have hnd:((List.range n).filter fun j=> !listed.getD j false).Nodup:=xV _ BB;rw[hnd.erase_eq_filter,zP];apply AX;intro j _;by_cases e:j=i
      ·subst e;have:=(qo j).2 (.inl rfl);rw[this];simp
      ·rw[getD_set_ne false (rZ e)];simp[e]
     rw[UQ,qX (gr.2 ⟨bh.2 hin,by simp[Ay]⟩),oc];rfl
    ·intro j q t hq LF hl;unfold Cp.slot;rcases(qo j).1 hl with rfl|Bf
     ·rw[hp]at hq;cases hq;rw[LF];simp[lk]
     ·cases hpt:p.t with
      |none=>exact hA j q t hq LF Bf
      |some u=>
       simp only[lk];rw[b9,hA j q t hq LF Bf];intro e;have:=hdist j i q p t hq hp LF (by rw[hpt,e]);subst this;rw[Ay]at Bf;cases Bf
    ·intro t ht;unfold Cp.slot;have qU:=hB t (fun j q hq hl=>ht j q hq ((qo j).2 (.inr hl)));cases hpt:p.t with
     |none=>exact qU
     |some u=>
      simp only[lk];rw[b9 (fun e=>ht i p hp ((qo i).2 (.inl rfl)) (by rw[hpt,e]))];exact qU
    ·intro j y hj;rw[a2n j (aF.1 hj).1];exact VN j y hj
    ·intro j q hq hl k y hy hno;have hkl:=(aF.1 hy).1;unfold Cp.B1;split
     ·rename_i id ob he;have hne:q.r+k≠id:=fun e=>hno i p ob hp ((qo i).2 (.inl rfl)) (by rw[e];exact he)
      rw[cB (rZ hne)];rcases(qo j).1 hl with rfl|Bf
      ·rw[hp]at hq;cases hq;rw[Wt j p id ob hp he]at hy;simp at hy
      ·exact TM j q hq Bf k y hy (fun i2 q2 B8 Hy VP=>hno i2 q2 B8 Hy ((qo i2).2 (.inr VP)))
     ·rw[uK (by omega)];rcases(qo j).1 hl with rfl|Bf
      ·rw[hp]at hq;cases hq;rw[b9 (by omega),bN (by omega),dP];exact hy
      ·have hne:j≠i:=fun e=>by subst e;rw[Ay]at Bf;cases Bf
       have h3:=TM j q hq Bf k y hy (fun i2 q2 B8 Hy VP=>hno i2 q2 B8 Hy ((qo i2).2 (.inr VP)));rcases vG hne with h|h
       ·have:=OX j i q p hq hp h;rw[bN (by omega)];exact h3
       ·have:=OX i j p q hp hq h;rw[b9 (by omega),b9 (by omega)];exact h3
    ·intro j q id ob hq hl he;rcases(qo j).1 hl with rfl|Bf
     ·rw[hp]at hq;cases hq;obtain⟨zs,ds,z1,_⟩:=Wq id ob he;have hlt:=(aF.1 z1).1;refine⟨by simp only[Cp.B1,he];rw[dB hlt],?_⟩;obtain⟨v,hv⟩:=Wa id ob he;refine⟨v,?_⟩;rw[hsame id (by rw[Wt j p id ob hp he];simp;omega)];exact hv
     ·obtain⟨h1,v,hv⟩:=Z3 j q id ob hq Bf he;have hout:id<p.r\/p.r+p.obs.length<=id:=by
       rcases eL id p.r with h|h
       ·exact .inl h
       ·rcases eL id (p.r+p.obs.length)with h2|h2
        ·have:=TL i p hp Ay (id-p.r) (by omega);rw[show p.r+(id-p.r)=id from by omega,hv]at this;cases this
        ·exact .inr h2
      refine⟨?_,v,by rw[hsame id hout];exact hv⟩;unfold Cp.B1;split
      ·rename_i id2 B8 Ho;have hne:id2≠id:=fun e=>by
        subst e;have:=Ws i j p q id2 B8 ob hp hq Ho he;subst this;rw[Ay]at Bf;cases Bf
       rw[cB hne];exact h1
      ·rw[uK (by omega)];rcases hout with h|h
       ·rw[bN h];exact h1
       ·rw[b9 (by omega),b9 (by omega)];exact h1
    ·intro j q hq hl k hk;have hne:j≠i:=fun e=>by
      subst e;have:=(qo j).2 (.inl rfl);rw[this]at hl;cases hl
     have Bf:listed.getD j false=false:=by
      cases h:listed.getD j false with
      |false=>rfl
      |true=>have:=(qo j).2 (.inr h);rw[this]at hl;cases hl
     have h3:=TL j q hq Bf k hk;rw[hsame,h3];rcases vG hne with h|h
     ·have:=OX j i q p hq hp h;omega
     ·have:=OX i j p q hp hq h;omega
 refine wp_region_any hm ?_;have a3R:HeadInv .any l.toArray n (Array.replicate l.toArray.size false):=
  ⟨by simp,fun j oj _ hl=>(by rw[getD_replicate_false]at hl;cases hl),fun t _ ht=>getD_in (by simpa using ht) (getD_replicate_false _ _)⟩
 have oc:((List.range n).filter fun i=> !(Array.replicate l.toArray.size false).getD i false).length=n:=by
  rw[List.filter_eq_self.2]
  ·simp
  ·intro i _;rw[getD_replicate_false];rfl
 have:=main n (Array.replicate l.toArray.size false) st.σ (st.H++List.replicate (ps.flatMap Cp.obs).length .gone) κ Θ a w.drew a3R oc (fun i p t _ _ hl=>by rw[getD_replicate_false]at hl;cases hl) (fun t _=>rfl)
  (by simp) (fun i o h=>by rw[ar (aF.1 h).1];exact h) (fun i p _ hl=>by rw[getD_replicate_false]at hl;cases hl)
  (fun i q id ob _ hl=>by rw[getD_replicate_false]at hl;cases hl)
  (fun i p hp _ j _=>hs.pH _ (by rw[Rs i p hp];omega)) (hs.drew.room _)
 rw[show n+(l.toArray.size-n)=l.toArray.size from by omega]at this;exact this
end
end Go.Cx
namespace Go.Cx
open Go.RowKit
def pos(o:aW)(i:Nat):Option Nat:=ix (fun j=>j==i) o
def D.Tk(o:aW)(d:D):D:=match d with
 | .acc i=>(match pos o i with|some j=>.acc j|none=>.any)
 | .ptr i off=>(match pos o i with|some j=>.ptr j off|none=>.any)
 | .op i a b c=>(match pos o i with|some j=>.op j a b c|none=>.any)
 |d=>d
def D.rnV(o:aW)(d:D):D:=match d with
 | .agg cs=>.agg (cs.map (D.Tk o))
 |d=>d.Tk o
def D.Tl(o:aW)(d:D):D:=match d with
 | .gL vs=>.gL (vs.map (D.rnV o))
 |d=>d.rnV o
def Ob.rn(o:aW)(x:Ob):Ob:=match x with
 | .box cells=>.box (cells.map (D.Tk o))
 | .AA cells v=>.AA (cells.map (D.Tk o)) v
 | .hole _ _ _ _ _=>.gone
 | .row k e sz rows=>(match k with| .ho _ _=>.gone|k=>.row k e sz rows)
 |x=>x
def St.Cn(st:St)(K o:aW):St:=⟨K.map fun t=>(t,(lk st.σ t).Tl o),o.map fun i=>((st.H[i]?).getD .gone).rn o⟩
section
variable{P:Program}{Γ:uB}{Q:Exit->St->Prop}{st:St}{κ κ':Nat->Option Value}{Θ Θ':Nat->Nat}{a:Act}{w:World}{o:aW}
theorem Nq:∀ {o:aW},o.Nodup->∀(i j x:Nat),o[i]?=some x->o[j]?=some x->i=j:=by
 intro o
 induction o with
 |nil=>intro _ i j x h;simp at h
 |cons y o ih=>
  intro hnd i j x hi hj;obtain⟨h1,h2⟩:=eV.1 hnd;cases i with
  |zero=>
   cases j with
   |zero=>rfl
   |succ j=>simp at hi hj;subst hi;exact absurd (aE hj) h1
  |succ i=>
   cases j with
   |zero=>simp at hi hj;subst hj;exact absurd (aE hi) h1
   |succ j=>simp at hi hj;rw[ih h2 i j x hi hj]
theorem PA{i j:Nat}(h:pos o i=some j):o[j]?=some i:=by
 obtain⟨x,h1,h2⟩:=zA h;simp only[cc]at h2;subst h2;exact h1
theorem SJ{i j:Nat}(hnd:o.Nodup)(h:o[j]?=some i):pos o i=some j:=
 Es h (by simp) (fun k y hk hy=>by
  simp only[cc]at hy;subst hy;obtain⟨h1,h2⟩:=aF.1 h;obtain⟨h3,h4⟩:=aF.1 hk;exact Nq hnd k j _ hk h)
section
variable(hk:∀(i j:Nat) v,pos o i=some j->κ i=some v->κ' j=some v)(yH:∀b,Θ b=0->Θ' b=0)
include hk yH
theorem yb.rn{v:Value}{d:D}{bs:aW}(h:yb w κ v d bs)(hz:∀b∈bs,Θ b=0):∃b',yb w κ' v (d.Tk o) b'/\∀b∈b',Θ' b=0:=by
 cases h with
 |pure h=>
  have e:d.Tk o=d:=by cases h<;>rfl
  rw[e];exact⟨bs,.pure h,fun b hb=>yH b (hz b hb)⟩
 |acc i v hi=>
  simp only[D.Tk];cases hp:pos o i with
  |none=>exact⟨[],.pure (.any _),by simp⟩
  |some j=>exact⟨[],.acc j v (hk i j v hp hi),by simp⟩
 |ptr i off b hi=>
  simp only[D.Tk];cases hp:pos o i with
  |none=>exact⟨[],.pure (.any _),by simp⟩
  |some j=>exact⟨[],.ptr j off b (hk i j _ hp hi),by simp⟩
 |op i x sz off b o0 len cap hi=>
  simp only[D.Tk];cases hp:pos o i with
  |none=>exact⟨[],.pure (.any _),by simp⟩
  |some j=>exact⟨[],.op j x sz off b o0 len cap (hk i j _ hp hi),by simp⟩
theorem fK.rn{vs:bY}{ds:aL}{bs:aW}(h:fK w κ vs ds bs)(hz:∀b∈bs,Θ b=0):∃b',fK w κ' vs (ds.map (D.Tk o)) b'/\∀b∈b',Θ' b=0:=by
 induction h with
 |nil=>exact⟨[],.nil,by simp⟩
 |cons v vs d ds b1 b2 h1 h2 _ ih=>
  obtain⟨c1,q1,q2⟩:=yb.rn hk yH h2 (fun b hb=>hz b (by simp[hb]));obtain⟨c2,p1,p2⟩:=ih (fun b hb=>hz b (by simp[hb]));refine⟨c1++c2,.cons _ _ _ _ _ _ h1 q1 p1,fun b hb=>?_⟩;rcases aR.1 hb with hb|hb
  ·exact q2 b hb
  ·exact p2 b hb
theorem Le.rn{v:Value}{d:D}{bs:aW}(h:Le w κ v d bs)(hz:∀b∈bs,Θ b=0):∃b',Le w κ' v (d.rnV o) b'/\∀b∈b',Θ' b=0:=by
 cases h with
 |cell h=>
  by_cases tP:∃ds,d=.agg ds
  ·obtain⟨ds,rfl⟩:=tP;cases h with
   |pure h=>
    cases h with
    |agg cs _ _ h=>
     obtain⟨b',q1,q2⟩:=fK.rn hk yH (fK.Cu (κ:=κ) h) hz;exact⟨b',.agg _ _ _ q1,q2⟩
  ·have e:d.rnV o=d.Tk o:=by cases d<;>first|rfl|exact absurd ⟨_,rfl⟩ tP
   rw[e];obtain⟨b',q1,q2⟩:=yb.rn hk yH h hz;exact⟨b',.cell q1,q2⟩
 |agg cs ds bs h=>
  obtain⟨b',q1,q2⟩:=fK.rn hk yH h hz;exact⟨b',.agg _ _ _ q1,q2⟩
theorem Bz.rn{vs:bY}{ds:aL}{bs:aW}(h:Bz w κ vs ds bs)(hz:∀b∈bs,Θ b=0):∃b',Bz w κ' vs (ds.map (D.rnV o)) b'/\∀b∈b',Θ' b=0:=by
 induction h with
 |nil=>exact⟨[],.nil,by simp⟩
 |cons v vs d ds b1 b2 h2 _ ih=>
  obtain⟨c1,q1,q2⟩:=Le.rn hk yH h2 (fun b hb=>hz b (by simp[hb]));obtain⟨c2,p1,p2⟩:=ih (fun b hb=>hz b (by simp[hb]));refine⟨c1++c2,.cons _ _ _ _ _ _ q1 p1,fun b hb=>?_⟩;rcases aR.1 hb with hb|hb
  ·exact q2 b hb
  ·exact p2 b hb
theorem rW.rn{v:Value}{d:D}{bs:aW}(h:rW w κ v d bs)(hz:∀b∈bs,Θ b=0):∃b',rW w κ' v (d.Tl o) b'/\∀b∈b',Θ' b=0:=by
 cases h with
 |v h=>
  have hnt:∀vs,d≠ .gL vs:=by
   intro vs e;subst e;cases h with
   |cell h=>cases h with|pure h=>cases h
  have e:d.Tl o=d.rnV o:=by cases d<;>first|rfl|exact absurd rfl (hnt _)
  rw[e];obtain⟨b',q1,q2⟩:=Le.rn hk yH h hz;exact⟨b',.v q1,q2⟩
 |gL vs ds bs h=>
  obtain⟨b',q1,q2⟩:=Bz.rn hk yH h hz;exact⟨b',.gL _ _ _ q1,q2⟩
end
theorem XR(σ:List (Nat×D))(K:aW)(f:D->D)(t:Nat):lk (K.map fun t=>(t,f (lk σ t))) t=if t∈K then f (lk σ t)else .any:=by
 induction K with
 |nil=>simp[lk]
 |cons u K ih=>
  simp only[bB,lk];by_cases e:t=u
  ·subst e;simp
  ·rw[b9 e,ih];simp[e]
theorem dl.Cn(hs:dl Γ st κ Θ a w)(K o:aW)(hnd:o.Nodup):∃κ' Θ',dl Γ (st.Cn K o) κ' Θ' a w:=by
 let κ':Nat->Option Value:=fun j=>(o[j]?).bind κ
 let Θ':Nat->Nat:=fun b=>if Θ b<=1 then Θ b else match pos o (Θ b-2)with|some j=>j+2|none=>1
 have yH:∀b,Θ b=0->Θ' b=0:=fun b h=>by simp[Θ',h]
 have hk:∀(i j:Nat) v,pos o i=some j->κ i=some v->κ' j=some v:=fun i j v h1 h2=>by simp[κ',PA h1,h2]
 have hk2:∀(i j:Nat),o[j]?=some i->κ' j=κ i:=fun i j h=>by simp[κ',h]
 have ND:∀b (i j:Nat),o[j]?=some i->Θ b=i+2->Θ' b=j+2:=by
  intro b i j hj h;simp only[Θ'];rw[b9 (by omega),h,zQ,SJ hnd hj]
 have key:∀(j:Nat) x,(st.Cn K o).H[j]?=some x->∃i,o[j]?=some i/\((st.H[i]?=none/\x=.gone)\/∃y,st.H[i]?=some y/\x=y.rn o):=by
  intro j x hj;simp only[St.Cn,bt]at hj;cases ho:o[j]? with
  |none=>simp[ho]at hj
  |some i=>
   simp only[ho,cU,ah]at hj;refine⟨i,rfl,?_⟩;cases hH:st.H[i]? with
   |none=>rw[hH]at hj;exact .inl ⟨rfl,hj.symm⟩
   |some y=>rw[hH]at hj;exact .inr ⟨y,rfl,hj.symm⟩
 obtain⟨ρ,hu⟩:=hs.rV;let ρ':Nat->Nat:=fun b=>if ρ b=0 then 0 else match pos o (ρ b-1)with|some j=>j+1|none=>0
 refine⟨κ',Θ',hs.defers,hs.size,?_,?_,?_,?_,?_,?_,?_,hs.stays,ρ',?_,?_,?_⟩
 ·intro i hi;simp only[St.Cn,ax]at hi;simp[κ',cN hi]
 ·intro i u vo;simp only[κ']at vo;cases ho:o[i]? with
  |none=>simp[ho]at vo
  |some j=>simp[ho]at vo;exact hs.oN j u vo
 ·intro t;show∃bs,rW w κ' _ (lk (K.map fun t=>(t,(lk st.σ t).Tl o)) t) bs/\_;rw[XR st.σ K (fun d=>d.Tl o) t];split
  ·obtain⟨bs,hr,hz⟩:=hs.slot t;exact rW.rn hk yH hr hz
  ·exact⟨[],.of (.any _),by simp⟩
 ·intro j x hj;obtain⟨i,ho,⟨_,rfl⟩|⟨y,hH,rfl⟩⟩:=key j x hj
  ·trivial
  ·have xy:=hs.ob i y hH;cases y with
   |gone=>trivial
   |hole=>trivial
   |tk rows=>
    obtain⟨v,bs,q1,q2,q3⟩:=xy;exact⟨v,bs,by rw[hk2 i j ho];exact q1,q2,fun b hb=>yH b (q3 b hb)⟩
   |tf e sz rows=>
    obtain⟨v,bs,q1,q2,q3⟩:=xy;exact⟨v,bs,by rw[hk2 i j ho];exact q1,q2,fun b hb=>yH b (q3 b hb)⟩
   |mp kv=>
    obtain⟨g,es,c,q1,q2,q3,q4⟩:=xy;exact⟨g,es,c,by rw[hk2 i j ho];exact q1,q2,ND g i j ho q3,q4⟩
   |vq sz rows u=>
    obtain⟨q1,q0,v,bs,q2,q3,q4,q5⟩:=xy;exact⟨q1,fun x hx=>by rw[hk2 i j ho];exact q0 x hx,v,bs,by rw[hk2 i j ho];exact q2,q3,q4,fun b hb=>⟨ND b i j ho (q5 b hb).1,(q5 b hb).2⟩⟩
   |box cells=>
    obtain⟨g,cs,T,q1,q2,q3,bs,q4,q5⟩:=xy;obtain⟨b',p1,p2⟩:=fK.rn hk yH q4 q5;exact⟨g,cs,T,by rw[hk2 i j ho];exact q1,q2,ND g i j ho q3,b',p1,p2⟩
   |AA cells u=>
    obtain⟨q0,g,cs,T,q1,q2,q3,bs,q4,q5⟩:=xy;obtain⟨b',p1,p2⟩:=fK.rn hk yH q4 q5;exact⟨⟨by rw[hk2 i j ho];exact q0.1,q0.2.same q1 q2 (by rw[hk2 i j ho];exact q1) q2⟩,g,cs,T,by rw[hk2 i j ho];exact q1,q2,ND g i j ho q3,b',p1,p2⟩
   |row k e sz rows=>
    obtain⟨q1,q2,v,cs,bs,q3,q4,q5,q6,q7⟩:=xy;cases k with
    |ho p n=>exact trivial
    |_=>
    refine⟨q1,q2,v,cs,bs,by rw[hk2 i j ho];exact q3,q4,q5,fun g hg=>ND g i j ho (q6 g hg),?_⟩
    first
    |exact⟨q7.1,fun b hb=>⟨ND b i j ho (q7.2.1 b hb).1,(q7.2.1 b hb).2⟩,q7.2.2⟩
    |exact fun b hb=>yH b (q7 b hb)
 ·intro b hb;exact hs.own b (fun h=>hb (yH b h))
 ·intro b hb hx;obtain⟨h1,h2⟩:=hs.old b hb hx;simp only[Θ'];rw[bN h2];exact⟨h1,h2⟩
 ·intro b hb;refine hs.mine b ?_;simp only[Θ']at hb;split at hb<;>omega
 ·intro b hb;have hb':ρ b≠0:=fun h=>hb (by simp[ρ',h])
  obtain⟨h1,h2⟩:=hu.free b hb';exact⟨yH b h1,h2⟩
 ·intro j e sz rows hj;obtain⟨i,ho,⟨_,h⟩|⟨y,hH,h⟩⟩:=key j _ hj
  ·cases h
  ·have hy:y=.row .uq e sz rows:=by
    cases y with
    |row k2 e2 FR dG=>cases k2<;>simp only[Ob.rn,reduceCtorEq]at h<;>exact h.symm
    |_=>cases h
   subst hy;obtain⟨v,cs,bs,q1,q2,q3,q4,q5⟩:=hu.rows i e sz rows hH;refine⟨v,cs,bs,by rw[hk2 i j ho];exact q1,q2,q3,q4,fun b hb=>?_⟩;simp only[ρ'];rw[q5 b hb,b9 (by omega),zQ,SJ hnd ho]
 ·intro j x hj;obtain⟨i,ho,⟨_,h⟩|⟨y,hH,h⟩⟩:=key j _ hj
  ·subst h;trivial
  ·have hm:=hu.more i y hH;have a34:∀b,ρ b=i+1->ρ' b=j+1:=fun b hb=>by
    simp only[ρ'];rw[hb,b9 (by omega),zQ,SJ hnd ho]
   subst h;cases y with
   |tk rows=>
    obtain⟨v,bs,q1,q2,q3,q4⟩:=hm;exact⟨v,bs,by rw[hk2 i j ho];exact q1,q2,q3,fun b hb=>a34 b (q4 b hb)⟩
   |tf e sz rows=>
    obtain⟨v,bs,q1,q2,q0,q3,q4⟩:=hm;exact⟨v,bs,by rw[hk2 i j ho];exact q1,q2,q0,q3,fun b hb=>a34 b (q4 b hb)⟩
   |row k e sz rows=>
    cases k with
    |mv n=>
     obtain⟨v,cs,bs,q1,q2,q3,q4,q5⟩:=hm;exact⟨v,cs,bs,by rw[hk2 i j ho];exact q1,q2,q3,q4,fun b hb=>a34 b (q5 b hb)⟩
    |_=>trivial
   |_=>trivial
end
end Go.Cx
namespace Go.Cx
open Go.RowKit
abbrev Rw:=Nat×List (List D)
def Rw.ob(x:Rw)(v:Option Value):Ob:=.vq x.1 x.2 v
def GZ(w:World)(κ:Nat->Option Value):Nat->List Rw->aW->Prop
 |_,[],us=>us=[]
 |n,x::xs,us=>∃v bs us',κ n=some v/\(∀r∈x.2,r.length=x.1)/\Rd w v (.sl x.2) bs/\us=bs++us'/\GZ w κ (n+1) xs us'
def a11(P:Program)(f:FuncId)(ds:aL)(ins outs:List Rw)(d:D):Prop:=
 (∃fn,P.funcs[f]?=some fn/\fn.body.isSome=true/\(fn.name== "runtime.NumGoroutine")=false)/\outs.length=ins.length/\d.flat=true/\
 ∀(w:World) (κ:Nat->Option Value) (args:bY) (us:aW),Mx w (fun b=>b∈us)->args.length=ds.length->(∀(i:Nat) d,ds[i]?=some d->∃v,args[i]?=some v/\rW w κ v d [])->
  (∀i,ins.length<=i->κ i=none)->(∀(i:Nat) u,κ i=some u->u.oneCell'=true)->GZ w κ 0 ins us->us.Nodup->(∀b∈us,Wr w b)->
  Calls P f args.toArray w (fun e w'=>∃v us',e=.returned v/\Rd w' v d []/\GZ w' κ 0 outs us'/\us'.Nodup/\(∀b∈us',(b∈us\/w.heap.size<=b)/\Wr w' b)/\
   w'.os=w.os/\w'.tape=w.tape/\w'.output=w.output/\w.heap.size<=w'.heap.size/\∀b,b<w.heap.size->b∉us->w'.heap[b]?=w.heap[b]?)
section
variable{P:Program}{Γ:uB}{Q:Exit->St->Prop}{st:St}{κ κ':Nat->Option Value}{Θ Θ':Nat->Nat}{a:Act}{w w':World}{all:Array Oper}{rest:List Oper}
theorem GZ.parts:∀ {xs:List Rw} {n:Nat} {us:aW},GZ w κ n xs us->∃L:List aW,L.length=xs.length/\us=L.flatten/\∀(i:Nat) x bs,xs[i]?=some x->L[i]?=some bs->∃v,κ (n+i)=some v/\(∀r∈x.2,r.length=x.1)/\Rd w v (.sl x.2) bs:=by
 intro xs
 induction xs with
 |nil=>intro n us h;exact⟨[],rfl,by simpa[GZ]using h,by simp⟩
 |cons y ys ih=>
  intro n us h;obtain⟨v,bs,us',h1,h2,h3,rfl,h5⟩:=h;obtain⟨L,q1,rfl,q3⟩:=ih h5;refine⟨bs::L,by simp[q1],by simp,?_⟩;intro i x b hx hb;cases i with
  |zero=>simp at hx hb;subst hx;subst hb;exact⟨v,h1,h2,h3⟩
  |succ i=>
   simp at hx hb;obtain⟨v',r1,r2,r3⟩:=q3 i x b hx hb;exact⟨v',by rw[<-r1];congr 1;omega,r2,r3⟩
theorem GZ.of:∀ {xs:List Rw} {n:Nat} {L:List aW},L.length=xs.length->(∀(i:Nat) x bs,xs[i]?=some x->L[i]?=some bs->∃v,κ (n+i)=some v/\(∀r∈x.2,r.length=x.1)/\Rd w v (.sl x.2) bs)->GZ w κ n xs L.flatten:=by
 intro xs
 induction xs with
 |nil=>
  intro n L hl _;have:L=[]:=cL (by simpa using hl);subst this;rfl
 |cons y ys ih=>
  intro n L hl h;cases L with
  |nil=>simp at hl
  |cons bs L=>
   obtain⟨v,h1,h2,h3⟩:=h 0 y bs rfl rfl;refine⟨v,bs,L.flatten,h1,h2,h3,by simp,ih (by simpa using hl) ?_⟩;intro i x b hx hb;obtain⟨v',r1,r2,r3⟩:=h (i+1) x b (by simpa using hx) (by simpa using hb);exact⟨v',by rw[<-r1];congr 1;omega,r2,r3⟩
theorem dl.forget(hs:dl Γ st κ Θ a w)(ms:aW):dl Γ ⟨st.σ,kill st.H ms⟩ κ (fun b=>if ms.any (fun m=>Θ b==m+2)then st.H.length+2 else Θ b) a w:=by
 have h0:∀b,Θ b=0->(if ms.any (fun m=>Θ b==m+2)then st.H.length+2 else Θ b)=0:=by
  intro b hb;rw[b9,hb];intro h;obtain⟨m,_,hm⟩:=cy.1 h;simp[hb]at hm
 have hk:∀(j:Nat) o,(kill st.H ms)[j]?=some o->o=.gone\/(j∉ms/\st.H[j]?=some o):=fun j o h=>oW h
 have hold:∀b j,j∉ms->Θ b=j+2->(if ms.any (fun m=>Θ b==m+2)then st.H.length+2 else Θ b)=j+2:=by
  intro b j hj hb;rw[b9,hb];intro h;obtain⟨m,hm,he⟩:=cy.1 h;simp only[hb,cc]at he;exact hj (by
   have:j=m:=by omega
   rw[this];exact hm)
 obtain⟨ρ,hu⟩:=hs.rV;refine⟨hs.defers,hs.size,fun i hi=>hs.pH i (by simpa[fX]using hi),hs.oN,?_,?_,?_,?_,?_,hs.stays,ρ,?_,?_,?_⟩
 ·intro t;obtain⟨bs,hr,hz⟩:=hs.slot t;exact⟨bs,hr,fun b hb=>h0 b (hz b hb)⟩
 ·intro j o hj;rcases hk j o hj with rfl|⟨hn,hj'⟩
  ·trivial
  ·have xy:=hs.ob j o hj';cases o with
   |gone=>trivial
   |tk rows=>
    obtain⟨v,bs,q1,q2,q3⟩:=xy;exact⟨v,bs,q1,q2,fun b hb=>h0 b (q3 b hb)⟩
   |tf e sz rows=>
    obtain⟨v,bs,q1,q2,q3⟩:=xy;exact⟨v,bs,q1,q2,fun b hb=>h0 b (q3 b hb)⟩
   |box cells=>
    obtain⟨g,cs,T,q1,q2,q3,bs,q4,q5⟩:=xy;exact⟨g,cs,T,q1,q2,hold g j hn q3,bs,q4,fun b hb=>h0 b (q5 b hb)⟩
   |AA cells u=>
    obtain⟨q0,g,cs,T,q1,q2,q3,bs,q4,q5⟩:=xy;exact⟨q0,g,cs,T,q1,q2,hold g j hn q3,bs,q4,fun b hb=>h0 b (q5 b hb)⟩
   |row k e sz rows=>
    obtain⟨q1,q2,v,cs,bs,q3,q4,q5,q6,q7⟩:=xy;refine⟨q1,q2,v,cs,bs,q3,q4,q5,fun g hg=>hold g j hn (q6 g hg),?_⟩;cases k with
    |cl=>exact⟨q7.1,fun b hb=>⟨hold b j hn (q7.2.1 b hb).1,(q7.2.1 b hb).2⟩,q7.2.2⟩
    |sh=>exact fun b hb=>h0 b (q7 b hb)
    |uq=>exact fun b hb=>h0 b (q7 b hb)
    |mv n=>exact fun b hb=>h0 b (q7 b hb)
    |ho p n=>exact fun b hb=>h0 b (q7 b hb)
   |vq sz rows u=>
    obtain⟨q1,q0,v,bs,q2,q3,q4,q5⟩:=xy;exact⟨q1,q0,v,bs,q2,q3,q4,fun b hb=>⟨hold b j hn (q5 b hb).1,(q5 b hb).2⟩⟩
   |hole sz rows u p n=>
    obtain⟨q1,q0,v,bs,q2,q3,q4,q5⟩:=xy;exact⟨q1,q0,v,bs,q2,q3,q4,fun b hb=>⟨hold b j hn (q5 b hb).1,(q5 b hb).2⟩⟩
   |mp kv=>
    obtain⟨g,es,c,q1,q2,q3,q4⟩:=xy;exact⟨g,es,c,q1,q2,hold g j hn q3,q4⟩
 ·intro b hb;refine hs.own b fun h=>hb ?_
  exact h0 b h
 ·intro b hb hx;obtain⟨h1,h2⟩:=hs.old b hb hx;have:(if ms.any (fun m=>Θ b==m+2)then st.H.length+2 else Θ b)=Θ b:=by
   rw[b9];intro h;obtain⟨m,_,hm⟩:=cy.1 h;simp only[cc]at hm;omega
  show(if ms.any (fun m=>Θ b==m+2)then st.H.length+2 else Θ b)=_/\(if ms.any (fun m=>Θ b==m+2)then st.H.length+2 else Θ b)<=1;rw[this];exact⟨h1,h2⟩
 ·intro b hb;refine hs.mine b ?_;by_cases h:ms.any (fun m=>Θ b==m+2)=true
  ·obtain⟨m,_,hm⟩:=cy.1 h;simp only[cc]at hm;omega
  ·simp only[h]at hb;simpa using hb
 ·intro b hb;obtain⟨h1,h2⟩:=hu.free b hb;exact⟨h0 b h1,h2⟩
 ·intro id e sz rows hj;rcases hk id _ hj with h|⟨_,h⟩
  ·cases h
  ·exact hu.rows id e sz rows h
 ·intro id o hj;rcases hk id _ hj with h|⟨_,h⟩
  ·subst h;trivial
  ·exact hu.more id o h
def lv(H:bQ)(m:Nat):Option Value:=match H[m]? with|some (.vq _ _ v)=>v|_=>none
def PC:bQ->aW->List Rw->bQ
 |H,m::ms,x::xs=>PC (H.set m (x.ob (lv H m))) ms xs
 |H,_,_=>H
theorem Kr:∀(H:bQ) (ms:aW) (xs:List Rw),(PC H ms xs).length=H.length:=by
 intro H ms
 induction ms generalizing H with
 |nil=>intro xs;cases xs<;>rfl
 |cons m ms ih=>intro xs;cases xs with|nil=>rfl|cons x xs=>simp[PC,ih]
theorem Xj:∀ {H:bQ} {ms:aW} {xs:List Rw} {j:Nat} {y:Ob},ms.Nodup->xs.length=ms.length->(PC H ms xs)[j]?=some y->(∃(i:Nat) (x:Rw),ms[i]?=some j/\xs[i]?=some x/\y=x.ob (lv H j))\/(j∉ms/\H[j]?=some y):=by
 intro H ms
 induction ms generalizing H with
 |nil=>intro xs j y _ _ h;cases xs<;>exact .inr ⟨by simp,h⟩
 |cons m ms ih=>
  intro xs j y hnd hl h;cases xs with
  |nil=>simp at hl
  |cons x xs=>
   obtain⟨n1,n2⟩:=eV.1 hnd;rcases ih n2 (by simpa using hl) h with⟨i,z,h1,h2,h3⟩|⟨h1,h2⟩
   ·refine .inl ⟨i+1,z,by simpa using h1,by simpa using h2,?_⟩;rw[h3];have hne:m≠j:=fun e=>n1 (by rw[e];exact aE h1)
    simp only[lv,cB hne]
   ·rcases wU j y h2 with⟨rfl,rfl⟩|⟨h3,h4⟩
    ·exact .inl ⟨0,x,rfl,rfl,rfl⟩
    ·exact .inr ⟨by simp[h1,h3],h4⟩
def MK(H:bQ):aW->Option (List Rw)
 | []=>some []
 |m::ms=>match H[m]?,MK H ms with|some (.vq sz rows _),some xs=>some ((sz,rows)::xs)|_,_=>none
theorem S8{H:bQ}:∀ {ms:aW} {xs:List Rw},MK H ms=some xs->xs.length=ms.length/\∀(i m:Nat) x,ms[i]?=some m->xs[i]?=some x->∃v,H[m]?=some (x.ob v):=by
 intro ms
 induction ms with
 |nil=>intro xs h;cases h;simp
 |cons m ms ih=>
  intro xs h;simp only[MK]at h;split at h
  ·rename_i sz rows u ys h1 h2;cases h;obtain⟨q1,q2⟩:=ih h2;refine⟨by simp[q1],?_⟩;intro i m' x hm hx;cases i with
   |zero=>simp at hm hx;subst hm;subst hx;exact⟨u,h1⟩
   |succ i=>exact q2 i m' x (by simpa using hm) (by simpa using hx)
  ·cases h
def D.Gb(d:D):Bool:=match d with
 | .acc _=>true
 |d=>d.flat
def D.bare(d:D):Bool:=match d with
 | .agg cs=>cs.all D.Gb
 |d=>d.Gb
theorem yb.LQ{v:Value}{d:D}{bs:aW}(h:yb w κ v d bs)(hf:d.Gb=true):bs=[]:=by
 cases h with
 |pure h=>
  refine h.flat ?_;cases h<;>exact hf
 |_=>rfl
theorem fK.LQ{vs:bY}{ds:aL}{bs:aW}(h:fK w κ vs ds bs)(hf:ds.all D.Gb=true):bs=[]:=by
 induction h with
 |nil=>rfl
 |cons v vs d ds b1 b2 h1 h2 _ ih=>
  simp only[dA,aV]at hf;rw[h2.LQ hf.1,ih hf.2];rfl
theorem rW.T3{v:Value}{d:D}{bs:aW}(h:rW w κ v d bs)(hf:d.bare=true):bs=[]:=by
 cases h with
 |v h=>
  cases h with
  |cell h=>
   cases h with
   |pure h=>
    cases h with
    |agg cs ds _ h=>exact fK.LQ (fK.Cu (κ:=κ) h) hf
    |_=>first|rfl|exact absurd hf (by simp[D.bare,D.Gb,D.flat])
   |_=>rfl
  |agg cs ds bs h=>exact h.LQ hf
 |gL=>simp[D.bare,D.Gb,D.flat]at hf
theorem D.Vw(o:aW){c:D}(h:c.Gb=true):(c.Tk o).Gb=true:=by
 cases c with
 |acc m=>simp only[D.Tk];cases pos o m<;>rfl
 |_=>first|exact h| (simp[D.Gb,D.flat]at h)
theorem D.T4(o:aW){d:D}(h:d.bare=true):(d.Tl o).bare=true:=by
 cases d with
 |agg cs=>
  simp only[D.Tl,D.rnV,D.bare,Hz]at h⊢;rw[aq]at h⊢;intro c hcm;exact D.Vw o (h c hcm)
 |acc m=>simp only[D.Tl,D.rnV,D.Tk];cases pos o m<;>rfl
 |_=>first|exact h| (simp[D.bare,D.Gb,D.flat]at h)
theorem QI{L:List aW}(h:L.flatten.Nodup):∀(i j:Nat) x y b,L[i]?=some x->L[j]?=some y->b∈x->b∈y->i=j:=by
 intro i j x y b hi hj hx hy;have:=vf (f:=fun l:aW=>l) (l:=L) (by simpa[List.flatMap_id]using h);exact this i j x y b hi hj hx hy
theorem Re{L:List aW}(h:L.flatten.Nodup):∀x∈L,x.Nodup:=by
 induction L with
 |nil=>intro x hx;cases hx
 |cons y L ih=>
  intro x hx;simp only[eT]at h;obtain⟨h1,h2,_⟩:=bH.1 h;rcases bL.1 hx with rfl|hx
  ·exact h1
  ·exact ih h2 x hx
theorem NG:∀ {L:List aW},(∀x∈L,x.Nodup)->(∀(i j:Nat) x y b,L[i]?=some x->L[j]?=some y->b∈x->b∈y->i=j)->L.flatten.Nodup:=by
 intro L
 induction L with
 |nil=>intro _ _;simp
 |cons y L ih=>
  intro h1 h2;simp only[eT];refine bH.2 ⟨h1 y (by simp),ih (fun x hx=>h1 x (by simp[hx])) (fun i j x z b hi hj hx hz=>?_),?_⟩
  ·have:=h2 (i+1) (j+1) x z b (by simpa using hi) (by simpa using hj) hx hz;omega
  ·intro b hb c hc e;subst e;obtain⟨x,hx,B7⟩:=fF.1 hc;obtain⟨j,hj⟩:=dN hx;have:=h2 0 (j+1) y x b rfl (by simpa using hj) hb B7;omega
theorem Vf{o:Oper}{f t:Nat}{xs:Array Operand}{ts:Array TypeId}{ms:aW}{ins outs:List Rw}{d:D}(hop:o.op=.call {callee:=.value (.func f),args:=xs,argTypes:=ts})(hd:o.dst=some t)(hg:o.guard=none)
 (ht:t<Γ.nt) (hnd:ms.Nodup) (hins:MK st.H ms=some ins) (hb:((xs.toList.map st.ev).all D.bare)=true) (ng:a11 P f ((xs.toList.map st.ev).map (D.Tl ms)) ins outs d)
 (h:AO P Γ all rest Q ⟨(t,d)::st.σ,PC st.H ms outs⟩):AO P Γ all (o::rest) Q st:=by
 intro κ Θ a w hs;obtain⟨RE,hig⟩:=S8 hins;obtain⟨hfn,hol,hfl,a56⟩:=ng;let κc:Nat->Option Value:=fun j=>(ms[j]?).bind κ
 have hkc:∀(i m:Nat),ms[i]?=some m->κc i=κ m:=fun i m h=>by simp[κc,h]
 have xy:∀(i m:Nat) x,ms[i]?=some m->ins[i]?=some x->∃v bs,κ m=some v/\(∀r∈x.2,r.length=x.1)/\Rd w v (.sl x.2) bs/\bs.Nodup/\∀b∈bs,Θ b=m+2/\Wr w b:=by
  intro i m x hm hx;obtain⟨u,hu⟩:=hig i m x hm hx;obtain⟨q1,_,v,bs,q2,q3,q4,q5⟩:=hs.ob m _ hu;exact⟨v,bs,q2,q1,q3,q4,q5⟩
 have hL:∃L:List aW,L.length=ins.length/\∀(i m:Nat) x bs,ms[i]?=some m->ins[i]?=some x->L[i]?=some bs->(∃v,κ m=some v/\(∀r∈x.2,r.length=x.1)/\Rd w v (.sl x.2) bs)/\bs.Nodup/\∀b∈bs,Θ b=m+2/\Wr w b:=by
  have key:∀(ms:aW) (ins:List Rw),ins.length=ms.length->(∀(i m:Nat) x,ms[i]?=some m->ins[i]?=some x->∃v bs,κ m=some v/\(∀r∈x.2,r.length=x.1)/\Rd w v (.sl x.2) bs/\bs.Nodup/\∀b∈bs,Θ b=m+2/\Wr w b)->
   ∃L:List aW,L.length=ins.length/\∀(i m:Nat) x bs,ms[i]?=some m->ins[i]?=some x->L[i]?=some bs->(∃v,κ m=some v/\(∀r∈x.2,r.length=x.1)/\Rd w v (.sl x.2) bs)/\bs.Nodup/\∀b∈bs,Θ b=m+2/\Wr w b:=by
   intro ms
   induction ms with
   |nil=>intro ins hl _;exact⟨[],by simpa using hl.symm,by simp⟩
   |cons m ms ih=>
    intro ins hl xy;cases ins with
    |nil=>simp at hl
    |cons x ins=>
     obtain⟨L,q1,q2⟩:=ih ins (by simpa using hl) (fun i m' x' hm hx=>xy (i+1) m' x' (by simpa using hm) (by simpa using hx));obtain⟨v,bs,r1,r2,r3,r4,r5⟩:=xy 0 m x rfl rfl;refine⟨bs::L,by simp[q1],?_⟩;intro i m' x' b hm hx hb;cases i with
     |zero=>simp at hm hx hb;subst hm;subst hx;subst hb;exact⟨⟨v,r1,r2,r3⟩,r4,r5⟩
     |succ i=>exact q2 i m' x' b (by simpa using hm) (by simpa using hx) (by simpa using hb)
  exact key ms ins RE xy
 obtain⟨L,hLl,hLi⟩:=hL;have hmi:∀(i:Nat) bs,L[i]?=some bs->∃m x,ms[i]?=some m/\ins[i]?=some x:=by
  intro i bs hb';have hlt:=(aF.1 hb').1;exact⟨_,_,af (by omega),af (by omega)⟩
 have hmem:∀b∈L.flatten,∃m∈ms,Θ b=m+2:=by
  intro b hb';obtain⟨x,hx,B7⟩:=fF.1 hb';obtain⟨i,hi⟩:=dN hx;obtain⟨m,y,h1,h2⟩:=hmi i x hi;exact⟨m,aE h1,((hLi i m y x h1 h2 hi).2.2 b B7).1⟩
 have sA:L.flatten.Nodup:=by
  refine NG (fun x hx=>?_) (fun i j x y b hi hj hx hy=>?_)
  ·obtain⟨i,hi⟩:=dN hx;obtain⟨m,y,h1,h2⟩:=hmi i x hi;exact(hLi i m y x h1 h2 hi).2.1
  ·obtain⟨m1,y1,h1,h2⟩:=hmi i x hi;obtain⟨m2,y2,h3,h4⟩:=hmi j y hj;have e1:=((hLi i m1 y1 x h1 h2 hi).2.2 b hx).1;have e2:=((hLi j m2 y2 y h3 h4 hj).2.2 b hy).1;have:m1=m2:=by omega
   subst this;exact Nq hnd i j m1 h1 h3
 have a2m:GZ w κc 0 ins L.flatten:=GZ.of hLl (fun i x bs hx hb'=>by
  obtain⟨m,y,h1,h2⟩:=hmi i bs hb';rw[hx]at h2;cases h2;obtain⟨⟨v,q1,q2,q3⟩,_⟩:=hLi i m x bs h1 hx hb';exact⟨v,by rw[cW,hkc i m h1];exact q1,q2,q3⟩)
 have hwr:∀b∈L.flatten,Wr w b:=by
  intro b hb';obtain⟨x,hx,B7⟩:=fF.1 hb';obtain⟨i,hi⟩:=dN hx;obtain⟨m,y,h1,h2⟩:=hmi i x hi;exact((hLi i m y x h1 h2 hi).2.2 b B7).2
 have hargs:∀(i:Nat) d,((xs.toList.map st.ev).map (D.Tl ms))[i]?=some d->∃v,(xs.toList.map a.eval)[i]?=some v/\rW w κc v d []:=by
  intro i d Gf;rw[bt,bt]at Gf;cases hx:xs.toList[i]? with
  |none=>rw[hx]at Gf;cases Gf
  |some x=>
   rw[hx]at Gf;simp only[cU,ah]at Gf;subst Gf;refine⟨a.eval x,by rw[bt,hx];rfl,?_⟩;obtain⟨bs,r,hz⟩:=hs.ev x;have WM:(st.ev x).bare=true:=aq.1 hb _ (cE.2 ⟨x,aE hx,rfl⟩);obtain⟨b',r',_⟩:=rW.rn (o:=ms) (κ':=κc) (Θ:=fun _=>0) (Θ':=fun _=>0) (fun i j v h1 h2=>by simp[κc,PA h1,h2]) (fun _ _=>rfl) r (fun _ _=>rfl);have:=r'.T3 (D.T4 ms WM);subst this;exact r'
 have Of:Mx w fun b=>b∈L.flatten:=by
  obtain⟨B,v1,v2⟩:=hs.vsb;refine⟨B,v1,fun b hB=>⟨(v2 b hB).2.1,fun hb'=>?_⟩⟩;obtain⟨x,hx,B7⟩:=fF.1 hb';obtain⟨i,hi⟩:=dN hx;obtain⟨m,y,h1,h2⟩:=hmi i x hi;have e1:=((hLi i m y x h1 h2 hi).2.2 b B7).1;rcases hs.mine b (by omega)with q|q
  ·have:=(v2 b hB).1;omega
  ·exact(v2 b hB).2.2 q
 have hc:=a56 w κc (xs.toList.map a.eval) L.flatten Of (by simp) hargs (fun i hi=>by simp[κc,cN (by omega:ms.length<=i)]) (fun i u hu=>by
  simp only[κc]at hu;cases hm:ms[i]? with
  |none=>rw[hm]at hu;cases hu
  |some m=>rw[hm]at hu;exact hs.oN m u hu) a2m sA hwr
 refine wpList_plain hg fun K hK=>?_
 unfold Oper.wp;rw[wT hop hfn,Oper.upon_enter];have e:xs.map a.eval=(xs.toList.map a.eval).toArray:=by rw[<-gw,kO]
 rw[e];refine hc.mono ?_;rintro e w' ⟨v,us',rfl,hv,hl',Dc,N8,k1,k2,k3,k4,k5⟩;show K (a.put o.dst v) w';rw[hd];obtain⟨L',aAu,rfl,a82⟩:=hl'.parts;have aBO:∀(i:Nat) bs,L'[i]?=some bs->∃m x,ms[i]?=some m/\outs[i]?=some x:=by
  intro i bs hb';have hlt:=(aF.1 hb').1;exact⟨_,_,af (by omega),af (by omega)⟩
 have hs1:=hs.forget ms;let Θ1:Nat->Nat:=fun b=>if ms.any (fun m=>Θ b==m+2)then st.H.length+2 else Θ b
 have a5c:∀b,b∈L.flatten->Θ1 b=st.H.length+2:=by
  intro b hb';obtain⟨m,hm,he⟩:=hmem b hb';simp only[Θ1];rw[bN (cy.2 ⟨m,hm,by simp[he]⟩)]
 let Θ2:Nat->Nat:=fun b=>match ix (fun x:aW=>x.contains b) L' with|some i=>(match ms[i]? with|some m=>m+2|none=>1)|none=>if Θ1 b=st.H.length+2 then 1 else Θ1 b
 have a95:∀(i m:Nat) bs b,ms[i]?=some m->L'[i]?=some bs->b∈bs->Θ2 b=m+2:=by
  intro i m bs b hm hi hb';have:ix (fun x:aW=>x.contains b) L'=some i:=Es hi (by simpa using hb') (fun j y hj hy=>QI Dc j i y bs b hj hi (by simpa using hy) hb');simp only[Θ2,this,hm]
 have Ww:∀b,b∉L'.flatten->Θ2 b=if Θ1 b=st.H.length+2 then 1 else Θ1 b:=by
  intro b hb';simp only[Θ2];cases h:ix (fun x:aW=>x.contains b) L' with
  |none=>rfl
  |some i=>
   obtain⟨x,hx,hp⟩:=zA h;exact absurd (fF.2 ⟨x,aE hx,by simpa using hp⟩) hb'
 have hlt':∀b∈L'.flatten,b<w'.heap.size:=fun b hb'=>by
  obtain⟨cs,T,hx⟩:=(N8 b hb').2;exact(bD.1 hx).1
 have kk:iJ w w' Θ1 Θ2 (st.H.length+2):=by
  refine⟨by omega,k1,k2,k3,k4,fun b hlt hne=>k5 b hlt fun hb'=>hne (a5c b hb'),fun b hlt hne=>?_,fun b hb'=>?_⟩
  ·by_cases hin:b∈L'.flatten
   ·rcases(N8 b hin).1 with h'|h'
    ·exact absurd (a5c b h') hne
    ·omega
   ·rw[Ww b hin,b9 hne]
  ·by_cases hin:b∈L'.flatten
   ·exact hlt' b hin
   ·rw[Ww b hin]at hb';refine cu (hs1.own b ?_) k4;intro h0;have h0':Θ1 b=0:=h0;rw[h0']at hb';rw[b9 (by omega)]at hb';exact hb' rfl
 have hm2:∀b,2<=Θ2 b->xX Γ b:=by
  intro b hb';by_cases hin:b∈L'.flatten
  ·rcases(N8 b hin).1 with h'|h'
   ·obtain⟨m,_,he⟩:=hmem b h';exact hs.mine b (by omega)
   ·exact .inl (dX hs.base h')
  ·rw[Ww b hin]at hb';split at hb'
   ·omega
   ·exact hs1.mine b hb'
 obtain⟨ρ,hu⟩:=hs1.rV;have a2z:=hs1.nk kk (κ':=κ) (fun _ _ h=>h) hu;have hkl:(kill st.H ms).length=st.H.length:=fX _ _;have hpk:∀(j:Nat) y,(PC st.H ms outs)[j]?=some y->(∃(i:Nat) (x:Rw),ms[i]?=some j/\outs[i]?=some x/\y=x.ob (lv st.H j))\/(j∉ms/\(kill st.H ms)[j]?=some y):=by
  intro j y hj;rcases Xj hnd (by omega) hj with h'|⟨h1,h2⟩
  ·exact .inl h'
  ·exact .inr ⟨h1,by rw[gH h1];exact h2⟩
 have M9:∀(j:Nat) y,(PC st.H ms outs)[j]?=some y->j+2≠st.H.length+2:=fun j y hj=>by
  have:=(aF.1 hj).1;rw[Kr]at this;omega
 have hs2:dl Γ ⟨st.σ,PC st.H ms outs⟩ κ Θ2 a w':=by
  refine hs1.step kk hm2 (fun _ _ h=>h) (fun i hi=>hs.pH i (by rw[Kr]at hi;exact hi)) hs.oN ?_ ⟨ρ,a2z.1,?_,?_⟩
  ·intro j y hj;have hjl:=M9 j y hj;rcases hpk j y hj with⟨i,x,h1,h2,rfl⟩|⟨_,h2⟩
   ·right;right
    have hbi:∃bs,L'[i]?=some bs:=⟨_,af (by have:=(aF.1 h2).1;omega)⟩
    obtain⟨bs,hbi⟩:=hbi;obtain⟨v',q1,q2,q3⟩:=a82 i x bs h2 hbi;rw[cW,hkc i j h1]at q1;refine⟨q2,fun x hx=>?_,v',bs,q1,q3,Re Dc bs (aE hbi),fun b hb'=>⟨a95 i j bs b h1 hbi hb',(N8 b (fF.2 ⟨bs,aE hbi,hb'⟩)).2⟩⟩;unfold lv at hx;split at hx
    ·rename_i sz0 Me u0 hH0;subst hx;obtain⟨_,q0,_⟩:=hs.ob j _ hH0;exact q0 x rfl
    ·cases hx
   ·exact .inr (.inl ⟨hjl,h2⟩)
  ·intro id e' sz' dO hj;have hjl:=M9 id _ hj;rcases hpk id _ hj with⟨i,x,h1,h2,h3⟩|⟨_,h2⟩
   ·simp[Rw.ob]at h3
   ·exact a2z.2.1 id e' sz' dO hjl h2
  ·intro id y hj;have hjl:=M9 id _ hj;rcases hpk id _ hj with⟨i,x,h1,h2,h3⟩|⟨_,h2⟩
   ·subst h3;exact Jp.wR rfl
   ·exact a2z.2.2 id y hjl h2
 have rU:rW w' κ v d []:=.of hv;exact hK _ _ (h κ Θ2 _ w' (hs2.set (t:=t) ht rU (by simp)))
def Ob.close:Ob->Ob
 | .row _ _ sz rows=>.vq sz rows none
 |o=>o
theorem dl.Ua(hs:dl Γ st κ Θ a w)(hb:Below w.heap.size w w')(L:oP)(hL:∀x∈L,x.ok w')(hnd:(L.flatMap Fs.bl).Nodup)(hfr:∀b∈L.flatMap Fs.bl,w.heap.size<=b/\Wr w' b):
 ∃κ' Θ',dl Γ ⟨st.σ,st.H++(L.map Fs.ob).map Ob.close⟩ κ' Θ' a w'/\Names κ' st.H.length L:=by
 let n:=st.H.length
 let κ':Nat->Option Value:=fun j=>if j<n\/n+L.length<=j then κ j else(L[j-n]?).map Fs.v
 let Θ':Nat->Nat:=fun b=>match ix (fun x:Fs=>x.bl.contains b) L with|some i=>n+i+2|none=>Θ b
 have hu1:∀(i j:Nat) x y b,L[i]?=some x->L[j]?=some y->b∈x.bl->b∈y.bl->i=j:=fun i j x y b=>vf hnd i j x y b
 have hts:∀(i:Nat) x b,L[i]?=some x->b∈x.bl->Θ' b=n+i+2:=by
  intro i x b hi VS;have:ix (fun x:Fs=>x.bl.contains b) L=some i:=Es hi (by simpa using VS) (fun j y hj hy=>hu1 j i y x b hj hi (by simpa using hy) VS);simp only[Θ',this]
 have hno:∀b,b∉L.flatMap Fs.bl->Θ' b=Θ b:=by
  intro b hb';simp only[Θ'];cases h:ix (fun x:Fs=>x.bl.contains b) L with
  |none=>rfl
  |some i=>
   obtain⟨x,hx,hp⟩:=zA h;exact absurd (cA.2 ⟨x,aE hx,by simpa using hp⟩) hb'
 have hold:∀b,b<w.heap.size->Θ' b=Θ b:=fun b hlt=>hno b (fun h=>by have:=(hfr b h).1;omega)
 have hn:∀(j:Nat) v,κ j=some v->κ' j=some v:=by
  intro j v hj;have:j<n:=by
   rcases eL j n with h|h
   ·exact h
   ·have:=hs.pH j h;rw[hj]at this;cases this
  simp only[κ'];rw[bN (.inl this)];exact hj
 have vN:Names κ' n L:=by
  intro i x hx;have hlt:=(aF.1 hx).1;simp only[κ'];rw[b9 (by omega),dP,hx];rfl
 have hlen:(st.H++(L.map Fs.ob).map Ob.close).length=n+L.length:=by simp[n]
 have k:iJ w w' Θ Θ' (n+L.length+2):=by
  refine⟨by omega,hb.os,hb.tape,hb.output,hb.size,fun b hlt _=>hb.block b hlt,fun b hlt _=>hold b hlt,fun b h=>?_⟩;by_cases hin:b∈L.flatMap Fs.bl
  ·obtain⟨cs,T,hx⟩:=(hfr b hin).2;exact(bD.1 hx).1
  ·rw[hno b hin]at h;exact cu (hs.own b h) hb.size
 have hm:∀b,2<=Θ' b->xX Γ b:=by
  intro b h;by_cases hin:b∈L.flatMap Fs.bl
  ·exact .inl (dX hs.base (hfr b hin).1)
  ·rw[hno b hin]at h;exact hs.mine b h
 have key:∀(j:Nat) y,(st.H++(L.map Fs.ob).map Ob.close)[j]?=some y->(∃i x,j=n+i/\L[i]?=some x/\y=.vq x.sz x.rows none)\/(j<n/\st.H[j]?=some y):=by
  intro j y hj;by_cases hlt:j<st.H.length
  ·rw[ar hlt]at hj;exact .inr ⟨hlt,hj⟩
  ·rw[b8 (by omega),bt,bt]at hj;cases hx:L[j-st.H.length]? with
   |none=>simp[hx]at hj
   |some x=>simp[hx]at hj;exact .inl ⟨j-st.H.length,x,by omega,hx,hj.symm⟩
 have M9:∀(j:Nat) y,(st.H++(L.map Fs.ob).map Ob.close)[j]?=some y->j+2≠n+L.length+2:=fun j y hj=>by
  have:=(aF.1 hj).1;omega
 obtain⟨ρ,hu⟩:=hs.rV;have sA:=hs.nk k hn hu;refine⟨κ',Θ',hs.step k hm hn (fun i hi=>?_) (fun i u vo=>?_) (fun j y hj=>?_) ⟨ρ,sA.1,fun id e sz rows hj=>?_,fun id y hj=>?_⟩,vN⟩
 ·rw[hlen]at hi;simp only[κ'];rw[bN (by omega)];exact hs.pH i (by omega)
 ·simp only[κ']at vo;split at vo
  ·exact hs.oN i u vo
  ·cases hx:L[i-n]? with
   |none=>simp[hx]at vo
   |some x=>simp[hx]at vo;subst vo;exact(hL x (aE hx)).2.2.2.2
 ·have hjl:=M9 j y hj;rcases key j y hj with⟨i,x,rfl,hx,rfl⟩|⟨hlt,hy⟩
  ·right;right
   obtain⟨q1,q2,q3,q4,_⟩:=hL x (aE hx);have J1:x.bl.Nodup:=by
    have:∀(l:oP),(l.flatMap Fs.bl).Nodup->∀x∈l,x.bl.Nodup:=by
     intro l
     induction l with
     |nil=>intro _ x hx;cases hx
     |cons z r ih=>
      intro hnd x hx;simp only[fI]at hnd;obtain⟨n1,n2,_⟩:=bH.1 hnd;rcases bL.1 hx with rfl|hx
      ·exact n1
      ·exact ih n2 x hx
    exact this L hnd x (aE hx)
   exact⟨q2,by simp,x.v,x.bl,vN i x hx,vO q2 q3 q4.rd,J1,fun b hb'=>⟨hts i x b hx hb',(hfr b (cA.2 ⟨x,aE hx,hb'⟩)).2⟩⟩
  ·exact .inr (.inl ⟨hjl,hy⟩)
 ·have hjl:=M9 id _ hj;rcases key id _ hj with⟨i,x,_,_,h⟩|⟨hlt,hy⟩
  ·cases h
  ·exact sA.2.1 id e sz rows hjl hy
 ·have hjl:=M9 id _ hj;rcases key id _ hj with⟨i,x,_,_,h⟩|⟨hlt,hy⟩
  ·subst h;exact Jp.wR rfl
  ·exact sA.2.2 id y hjl hy
theorem VY{o:Oper}{f t:Nat}{xs:Array Operand}{ts:Array TypeId}{ds:aL}{ms:aW}{d:D}(hop:o.op=.call {callee:=.value (.func f),args:=xs,argTypes:=ts})(hd:o.dst=some t)(hg:o.guard=none)
 (ht:t<Γ.nt) (hds:GU st.H (xs.toList.map st.ev)=some (ds,ms)) (hown:d.MY=true) (ng:Good P f ds d)
 (h:AO P Γ all rest Q ⟨(t,(oV st.H.length d).1)::st.σ,st.H++(oV st.H.length d).2.map Ob.close⟩):AO P Γ all (o::rest) Q st:=by
 intro κ Θ a w hs;obtain⟨bs,hargs,hz⟩:=LX hs hds;let Θc:Nat->Nat:=fun b=>if Θ b=0\/ms.any (fun m=>Θ b==m+2)then 0 else 1
 have Kh:∀b,Seen Θ ms b->Θc b=0:=by
  intro b h;simp only[Θc];rw[bN];rcases h with h|⟨m,h1,h2⟩
  ·exact .inl h
  ·exact .inr (cy.2 ⟨m,h1,by simp[h2]⟩)
 have hc:=ng.2 w Θc _ bs hs.vok hargs (fun b hb=>Kh b (hz b hb)) (fun b hb=>hs.own b (fun e=>hb (Kh b (.inl e)))) (fun b=>by simp only[Θc];split<;>omega);refine wpList_plain hg fun K hK=>?_
 unfold Oper.wp;rw[wT hop ng.1,Oper.upon_enter];have e:xs.map a.eval=(xs.toList.map a.eval).toArray:=by rw[<-gw,kO]
 rw[e];refine hc.mono ?_;rintro e w' ⟨v,bs',tb,ub,rfl,hb,hr,Mq,htb,hnd,hfr,hsub⟩;show K (a.put o.dst v) w';rw[hd];obtain⟨L,q1,q2,q3,q4,q5⟩:=hr.inst st.H.length;obtain⟨κ',Θ',hs',hnm⟩:=hs.Ua hb L q2 (q3▸hnd) (fun b hb'=>hfr b (q3▸hb'));rw[q1]at hs';refine hK _ _ (h κ' Θ' _ w' (hs'.set (t:=t) ht (q5 κ' hnm) fun b hb'=>?_));rw[hr.own hown]at hb';cases hb'
end
end Go.Cx
namespace Go.Cx
open Go.RowKit
section
variable{P:Program}{Γ:uB}{Q:Exit->St->Prop}{st:St}{κ κ':Nat->Option Value}{Θ Θ':Nat->Nat}{a:Act}{w w':World}{all:Array Oper}{rest:List Oper}
theorem dl.SM(hs:dl Γ st κ Θ a w)(ms:aW){H':bQ}(h1:w'.os=w.os)(h2:w'.tape=w.tape)(h3:w'.output=w.output)(h4:w.heap.size<=w'.heap.size)
 (M6:∀b,b<w.heap.size->(∀m∈ms,Θ b≠m+2)->w'.heap[b]?=w.heap[b]?) (a2t:∀b,b<w.heap.size->(∀m∈ms,Θ b≠m+2)->Θ' b=Θ b) (hown:∀b,Θ' b≠0->b<w'.heap.size)
 (hm:∀b,2<=Θ' b->xX Γ b) (hn:∀(j:Nat) v,κ j=some v->κ' j=some v) (hko:∀i,H'.length<=i->κ' i=none) (hk1:∀(i:Nat) u,κ' i=some u->u.oneCell'=true)
 (xy:∀(j:Nat) y,H'[j]?=some y->y=.gone\/(j∉ms/\st.H[j]?=some y)\/(wA w' κ' Θ' j y/\y.Sd=false)):dl Γ ⟨st.σ,H'⟩ κ' Θ' a w':=by
 have hs1:=hs.forget ms;have hin:∀b,(ms.any (fun m=>Θ b==m+2))=false->∀m∈ms,Θ b≠m+2:=by
  intro b h m hm' he;have:ms.any (fun m=>Θ b==m+2)=true:=cy.2 ⟨m,hm',by simp[he]⟩;rw[h]at this;cases this
 have hlt2:∀b,(if ms.any (fun m=>Θ b==m+2)then st.H.length+2 else Θ b)≠st.H.length+2->(ms.any (fun m=>Θ b==m+2))=false:=by
  intro b h;cases hc:ms.any (fun m=>Θ b==m+2)with
  |false=>rfl
  |true=>simp[hc]at h
 have kk:iJ w w' (fun b=>if ms.any (fun m=>Θ b==m+2)then st.H.length+2 else Θ b) Θ' (st.H.length+2):=by
  refine⟨by omega,h1,h2,h3,h4,fun b hb hne=>M6 b hb (hin b (hlt2 b hne)),fun b hb hne=>?_,hown⟩;have hc:=hlt2 b hne;rw[a2t b hb (hin b hc)];simp[hc]
 obtain⟨ρ,hu⟩:=hs1.rV;have sA:=hs1.nk kk hn hu;refine hs1.step kk hm hn hko hk1 (fun j y hj=>?_) ⟨ρ,sA.1,fun id e sz rows hj=>?_,fun id y hj=>?_⟩
 ·rcases xy j y hj with h|⟨h,hy⟩|⟨h,_⟩
  ·exact .inl h
  ·have:=(aF.1 hy).1;exact .inr (.inl ⟨by omega,by rw[gH h];exact hy⟩)
  ·exact .inr (.inr h)
 ·rcases xy id _ hj with h|⟨h,hy⟩|⟨_,h⟩
  ·cases h
  ·have:=(aF.1 hy).1;exact sA.2.1 id e sz rows (by omega) (by rw[gH h];exact hy)
  ·simp[Ob.Sd]at h
 ·rcases xy id _ hj with h|⟨h,hy⟩|⟨_,h⟩
  ·subst h;trivial
  ·have:=(aF.1 hy).1;exact sA.2.2 id y (by omega) (by rw[gH h];exact hy)
  ·exact Jp.plain h
theorem Rd.a4D{v:Value}{rows:List aL}{bs:aW}(h:Rd w v (.sl rows) bs):(∃q c,v=.slice q rows.length c)/\rows.length<=maxLen:=by
 cases h with
 |wV=>exact⟨⟨_,_,rfl⟩,by simp⟩
 |lm=>exact⟨⟨_,_,rfl⟩,by simp⟩
 |sl b off cap sz _ cs bs hb h1 h2=>exact⟨⟨_,_,rfl⟩,by omega⟩
theorem ZH{o:Oper}{t T id sz:Nat}{x:Operand}{rows:List aL}{u:Option Value}(hop:o.op=.call {callee:=.builtin .len,args:= #[x],argTypes:= #[T]})(hd:o.dst=some t)(hg:o.guard=none)(ht:t<Γ.nt)
 (hT:(FT P T).isSome=true) (hx:st.ev x=.acc id) (hH:st.H[id]?=some (.vq sz rows u)) (h:AO P Γ all rest Q ⟨(t,.int .i64 rows.length)::st.σ,st.H⟩):AO P Γ all (o::rest) Q st:=by
 intro κ Θ a w hs;obtain⟨b1,r1,_⟩:=hs.ev x;rw[hx]at r1;obtain⟨hk,_⟩:=r1.vA;obtain⟨_,_,v,bs,hk2,hrd,_⟩:=hs.ob id _ hH;rw[hk]at hk2;cases hk2;obtain⟨⟨q,c,hv⟩,CX⟩:=hrd.a4D;obtain⟨⟨e,sz'⟩,hT⟩:=eP.1 hT;obtain⟨hu,_,_⟩:=pK hT;refine wpList_plain hg fun K hK=>?_
 unfold Oper.wp;have hrun:(execOp a.eval o).run P w=.ok (.value (.int .i64 rows.length)) w:=by
  simp only[execOp,hop,resolve,invoke,builtin,ou,bB,bZ,hv];simp[Builtin.len_,run_underlying hu,goInt]
 rw[hrun,Oper.upon_value,hd];exact hK _ _ (h κ Θ _ w (hs.set (d:=.int .i64 rows.length) (bs:=[]) ht (.of (.int _ _ (P5 CX))) (by simp)))
theorem a2G{o:Oper}{t T id sz e m:Nat}{x i:Operand}{rows:List aL}{u:Option Value}{k:IntKind}{n:Int}(hop:o.op=.indexAddr T x i)(hd:o.dst=some t)(hg:o.guard=none)(ht:t<Γ.nt)
 (hT:FT P T=some (e,sz)) (hx:st.ev x=.acc id) (hi:st.ev i=.int k n) (hH:st.H[id]?=some (.vq sz rows u)) (hn:n=(m:Int)) (hm:m<rows.length) (h:AO P Γ all rest Q ⟨(t,.op id m sz 0)::st.σ,st.H⟩):AO P Γ all (o::rest) Q st:=by
 intro κ Θ a w hs;obtain⟨b1,r1,_⟩:=hs.ev x;obtain⟨b2,r2,_⟩:=hs.ev i;rw[hx]at r1;rw[hi]at r2;have hiv:=r2.qu;obtain⟨hk,_⟩:=r1.vA;obtain⟨_,_,v,bs,hk2,hrd,_⟩:=hs.ob id _ hH;rw[hk]at hk2;cases hk2;obtain⟨hu,KJ,J4⟩:=pK hT;have hsz:=uz (P:=P) KJ w;subst hn;generalize TV:a.eval x=vx at hrd hk;cases hrd with
 |wV=>simp at hm
 |lm=>simp at hm
 |sl b off cap sz' _ cs bs hb hcap CX hrl hc rU=>
  have hn':0<=(m:Int)/\(m:Int)<(rows.length:Int):=⟨by omega,by omega⟩
  refine wpList_plain hg fun K hK=>?_
  unfold Oper.wp;have hrun:(execOp a.eval o).run P w=.ok (.value (.pointer (some ⟨b,off+(m*sz+0),none⟩))) w:=by
   simp only[execOp,hop,TV,hiv];simp[Instr.indexAt,asIntOf,run_underlying hu,hn',hm,hsz,J4,Addr.add_lit]
  rw[hrun,Oper.upon_value,hd];exact hK _ _ (h κ Θ _ w (hs.set (d:=.op id m sz 0) (bs:=[]) ht (yb.op id m sz 0 b off _ _ hk).O0 (by simp)))
theorem Iy{rows:List aL}{sz i off:Nat}{r:aL}{d:D}(hrl:∀r∈rows,r.length=sz)(hr:rows[i]?=some r)(hd:r[off]?=some d):rows.flatten[i*sz+off]?=some d/\off<sz/\i*sz+off<rows.length*sz:=by
 have h1:=hrl r (aE hr);have h2:=(aF.1 hd).1;have hmid:=Ei hrl hr;have hlt:=(aF.1 hr).1;have hle:(i+1)*sz<=rows.length*sz:=dw _ hlt;rw[kP,nW]at hle;refine⟨?_,by omega,by omega⟩;rw[<-hmid,cP,bN (by omega),eZ]at hd;exact hd
theorem Vg{o:Oper}{t T id i sz off:Nat}{x:Operand}{rows:List aL}{r:aL}{d:D}{u:Option Value}(hop:o.op=.load T x)(hd:o.dst=some t)(hg:o.guard=none)(ht:t<Γ.nt)
 (hT:AG P T=some false) (hx:st.ev x=.op id i sz off) (hH:st.H[id]?=some (.vq sz rows u)) (hr:rows[i]?=some r) (hc:r[off]?=some d) (hfl:d.flat=true) (h:AO P Γ all rest Q ⟨(t,d)::st.σ,st.H⟩):AO P Γ all (o::rest) Q st:=by
 intro κ Θ a w hs;obtain⟨b1,r1,_⟩:=hs.ev x;rw[hx]at r1;obtain⟨g,o0,len,ZW,hk,hv⟩:=r1.F1;obtain⟨hrl,_,v,bs,hk2,hrd,_⟩:=hs.ob id _ hH;rw[hk]at hk2;cases hk2;obtain⟨hf,_,_⟩:=Iy hrl hr hc;cases hrd with
 |lm=>simp at hr
 |sl _ _ _ sz' _ cs ns hb hcap CX J2 hcs rU=>
  obtain⟨c,b',h1,h2,h3,h4⟩:=rU.at hf;have L:=nj (P:=P) (w:=w) hT (o:=i*sz+off) hcs;have hb':=h3.flat hfl;subst hb';refine wpList_plain hg fun K hK=>?_
  unfold Oper.wp;have hrun:(execOp a.eval o).run P w=.ok (.value c) w:=by
   simp only[execOp,hop,hv];simp[L.2 rfl c h1]
  rw[hrun,Oper.upon_value,hd];exact hK _ _ (h κ Θ _ w (hs.set (d:=d) (bs:=[]) ht (.of h3) (by simp)))
theorem mm.a0J{vs:bY}{ds:aL}{bs:aW}(h:mm w vs ds bs){p:Nat}{d:D}(hd:ds[p]?=some d):
 ∃c b1 b2 b3,vs[p]?=some c/\c.oneCell'=true/\Rd w c d b2/\bs=b1++(b2++b3)/\∀(e:D) (b4:aW),Rd w c e b4->mm w vs (ds.set p e) (b1++(b4++b3)):=by
 obtain⟨l,r,rfl,hl⟩:=KM hd;obtain⟨v1,v2,c1,c2,rfl,rfl,k1,k2⟩:=h.split;cases k2 with
 |cons c vs _ _ b2 b3 h1 h2 h3=>
  have hl1:v1.length=p:=by rw[k1.length];exact hl
  refine⟨c,c1,b2,b3,by rw[b8 (by omega),hl1];simp,h1,h2,rfl,fun e b4 he=>?_⟩;have e1:(l++d::r).set p e=l++e::r:=by rw[mX _ _ (by omega),hl];simp
  rw[e1];exact k1.app (.cons _ _ _ _ _ _ h1 he h3)
theorem CV{rows:List aL}{sz i off:Nat}{r:aL}{d e:D}(hrl:∀r∈rows,r.length=sz)(hr:rows[i]?=some r)(hd:r[off]?=some d):(rows.set i (r.set off e)).flatten=rows.flatten.set (i*sz+off) e:=by
 have hlt:=(aF.1 hd).1;have h1:=hrl r (aE hr);have:=Ej (rows:=rows) (sz:=sz) (i:=i) (off:=off) (row:=r) (ds:=[e]) hrl hr (by simp;omega);have e1:r.set off e=r.take off++[e]++r.drop (off+[e].length):=by
  apply nw;intro j;rw[gI];simp only[cm,D1,aP,bS,cW];by_cases hj:j<off
  ·rw[b9 (by omega),ar (by simp;omega),cP,bN hj]
  ·rw[b8 (by simp;omega),bz,fG (by omega)];by_cases he:off=j
   ·subst he;simp[hlt]
   ·rw[b9 he];obtain⟨m,hm⟩:∃m,j-off=m+1:=⟨j-off-1,by omega⟩
    rw[hm,fq,eZ]
    congr 1;omega
 rw[e1,this];have hfl:=nc hrl;obtain⟨hf,_,hlt2⟩:=Iy hrl hr hd;apply nw;intro j;rw[gI];simp only[cm,D1,aP,bS,cW];by_cases hj:j<i*sz+off
 ·rw[b9 (by omega),ar (by rw[bz];omega),cP,bN hj]
 ·rw[b8 (by rw[bz];omega),bz,fG (by omega)];by_cases he:i*sz+off=j
  ·subst he;rw[bN rfl,bN (by omega),qB];rfl
  ·rw[b9 he];obtain⟨m,hm⟩:∃m,j-(i*sz+off)=m+1:=⟨j-(i*sz+off)-1,by omega⟩
   rw[hm,fq,eZ]
   congr 1;omega
theorem LV{rows:List aL}{sz i:Nat}{r:aL}(hrl:∀r∈rows,r.length=sz)(hr:r.length=sz):∀x∈rows.set i r,x.length=sz:=by
 intro x hx;rcases mV hx with hx|rfl
 ·exact hrl x hx
 ·exact hr
theorem Vi{o:Oper}{t T id i sz off FR:Nat}{x:Operand}{rows dG:List aL}{r:aL}{u:Option Value}(hop:o.op=.load T x)(hd:o.dst=some t)(hg:o.guard=none)(ht:t<Γ.nt)
 (hT:AG P T=some false) (hx:st.ev x=.op id i sz off) (hH:st.H[id]?=some (.vq sz rows u)) (hr:rows[i]?=some r) (hc:r[off]?=some (.sl dG)) (h2:∀q∈dG,q.length=FR)
 (h:AO P Γ all rest Q ⟨(t,.acc st.H.length)::st.σ,st.H.set id (.hole sz (rows.set i (r.set off .any)) u (i*sz+off) st.H.length)++[.vq FR dG none]⟩):AO P Γ all (o::rest) Q st:=by
 intro κ Θ a w hs;obtain⟨b1,r1,_⟩:=hs.ev x;rw[hx]at r1;obtain⟨g,o0,len,ZW,hk,hv⟩:=r1.F1;obtain⟨hrl,Zt,v,bs,hk2,hrd,hnd,Dl⟩:=hs.ob id _ hH;rw[hk]at hk2;cases hk2;obtain⟨hf,hoff,_⟩:=Iy hrl hr hc;cases hrd with
 |lm=>simp at hr
 |sl _ _ _ sz' _ cs ns hb hcap CX J2 hcs rU=>
  obtain⟨c,c1,c2,c3,h1,h1c,h3,rfl,qo⟩:=rU.a0J hf;have L:=nj (P:=P) (w:=w) hT (o:=i*sz+off) hcs;have a5F:id<st.H.length:=(aF.1 hH).1;have hnew:=qo .any [] (.any c);have Dc:=hnd;simp only[eV,aR,Ds]at Dc;obtain⟨⟨hg1,TO,hg3⟩,J1⟩:=Dc;obtain⟨n1,n2,n3⟩:=bH.1 J1;obtain⟨n4,n5,n6⟩:=bH.1 n2;let Θ':Nat->Nat:=fun b=>if b∈c2 then st.H.length+2 else Θ b
  have hs':dl Γ ⟨st.σ,st.H.set id (.hole sz (rows.set i (r.set off .any)) u (i*sz+off) st.H.length)++[.vq FR dG none]⟩ (xN κ st.H.length (some c)) Θ' a w:=by
   have hn:=wW (hs.pH _ (bO _)) (some c);have ND:∀b∈c2,Θ b=id+2:=fun b hb'=>(Dl b (by simp[hb'])).1
   refine hs.SM [id] rfl rfl rfl (bO _) (fun _ _ _=>rfl) (fun b _ hne=>?_) (fun b hb'=>?_) (fun b hb'=>?_) hn (fun j hj=>?_) (fun j y hy=>?_) (fun j y hj=>?_)
   ·simp only[Θ'];rw[b9];intro hin;exact hne id (by simp) (ND b hin)
   ·simp only[Θ']at hb';split at hb'
    ·rename_i hin;exact hs.own b (by rw[ND b hin];omega)
    ·exact hs.own b hb'
   ·simp only[Θ']at hb';split at hb'
    ·rename_i hin;exact hs.mine b (by rw[ND b hin];omega)
    ·exact hs.mine b hb'
   ·simp only[av,eU,aP,bS]at hj;unfold xN;rw[b9 (by omega)];exact hs.pH j (by omega)
   ·unfold xN at hy;split at hy
    ·cases hy;exact h1c
    ·exact hs.oN j y hy
   ·rcases AB j y hj with⟨hjl,rfl⟩|⟨hjl,hy⟩
    ·right;right
     have hjn:j=st.H.length:=by rw[hjl];simp
     subst hjn;refine⟨⟨h2,by simp,c,c2,jN _ _ _,h3,n4,fun b hb'=>⟨by simp[Θ',hb'],(Dl b (by simp[hb'])).2⟩⟩,rfl⟩
    ·rcases wU j y hy with⟨rfl,rfl⟩|⟨hne,hy'⟩
     ·right;right
      refine⟨⟨LV hrl (by rw[eU];exact hrl r (aE hr)),fun z hz=>hn _ _ (Zt z hz),_,g::(c1++([]++c3)),hn _ _ hk,⟨g,o0,ZW,cs,c1++([]++c3),by simp,hb,by simpa using hcap,CX,hcs,?_,rfl,c,h1,jN _ _ _⟩,?_,fun b hb'=>?_⟩,rfl⟩
      ·rw[CV hrl hr hc];exact hnew
      ·simp only[ck,eV,aR,Ds];exact⟨⟨hg1,hg3⟩,bH.2 ⟨n1,n5,fun x hx y hy e=>n3 x hx y (by simp[hy]) e⟩⟩
      ·have hbm:b∈g::(c1++(c2++c3)):=by
        simp only[ck,bL,aR]at hb'⊢;rcases hb' with h|h|h<;>simp[h]
       refine⟨?_,(Dl b hbm).2⟩;simp only[Θ'];rw[b9,(Dl b hbm).1];intro hin;simp only[ck,bL,aR]at hb';rcases hb' with h|h|h
       ·subst h;exact TO hin
       ·exact n3 b h b (by simp[hin]) rfl
       ·exact n6 b hin b h rfl
     ·exact .inr (.inl ⟨by simpa using hne,hy'⟩)
  refine wpList_plain hg fun K hK=>?_
  unfold Oper.wp;have hrun:(execOp a.eval o).run P w=.ok (.value c) w:=by
   simp only[execOp,hop,hv];simp[L.2 rfl c h1]
  rw[hrun,Oper.upon_value,hd];exact hK _ _ (h _ _ _ w (hs'.set (d:=.acc st.H.length) (bs:=[]) ht (yb.acc st.H.length c (jN _ _ _)).O0 (by simp)))
theorem Vh{id n i sz off FR:Nat}{rows dG:List aL}{r:aL}{d:D}{u u2:Option Value}(hH:st.H[id]?=some (.hole sz rows u (i*sz+off) n))(hN:st.H[n]?=some (.vq FR dG u2))(hr:rows[i]?=some r)(hc:r[off]?=some d)
 (h:AO P Γ all rest Q ⟨st.σ,(st.H.set n .gone).set id (.vq sz (rows.set i (r.set off (.sl dG))) u)⟩):AO P Γ all rest Q st:=by
 intro κ Θ a w hs;obtain⟨hrl,Zt,v,bs,hk,⟨b,o0,cap,cs,ns,rfl,h1,h2,h3,h4,h5,rfl,c,h6,h7⟩,hnd,Dl⟩:=hs.ob id _ hH;obtain⟨aBY,_,v2,Z0,hk2,a8k,a2p,WQ⟩:=hs.ob n _ hN;rw[h7]at hk2;cases hk2;obtain⟨hf,hoff,_⟩:=Iy hrl hr hc;obtain⟨c',c1,c2,c3,q1,q1c,q3,rfl,qo⟩:=h5.a0J hf;rw[h6]at q1;cases q1;have hnew:=qo (.sl dG) Z0 a8k;have hne:n≠id:=fun e=>by subst e;rw[hH]at hN;cases hN
 have a5F:id<st.H.length:=(aF.1 hH).1;have Dc:=hnd;simp only[eV,aR,Ds]at Dc;obtain⟨⟨hg1,TO,hg3⟩,J1⟩:=Dc;obtain⟨n1,n2,n3⟩:=bH.1 J1;obtain⟨n4,n5,n6⟩:=bH.1 n2;have a2j:∀x∈Z0,∀y∈b::(c1++(c2++c3)),x≠y:=by
  intro x hx y hy e;subst e;have e1:=(WQ x hx).1;have e2:=(Dl x hy).1;omega
 let Θ':Nat->Nat:=fun x=>if x∈Z0 then id+2 else if Θ x=n+2 then 1 else Θ x
 refine h κ Θ' a w (hs.SM [id,n] rfl rfl rfl (bO _) (fun _ _ _=>rfl) (fun x _ hnx=>?_) (fun x hx=>?_) (fun x hx=>?_) (fun _ _ h=>h) (fun j hj=>hs.pH j (by simpa using hj)) hs.oN (fun j y hj=>?_))
 ·simp only[Θ'];rw[b9 (fun hin=>hnx n (by simp) (WQ x hin).1),b9 (hnx n (by simp))]
 ·simp only[Θ']at hx;split at hx
  ·rename_i hin;exact hs.own x (by rw[(WQ x hin).1];omega)
  ·split at hx
   ·rename_i he;exact hs.own x (by rw[he];omega)
   ·exact hs.own x hx
 ·simp only[Θ']at hx;split at hx
  ·rename_i hin;exact hs.mine x (by rw[(WQ x hin).1];omega)
  ·split at hx
   ·omega
   ·exact hs.mine x hx
 ·rcases wU j y hj with⟨rfl,rfl⟩|⟨Gg,hy⟩
  ·right;right
   refine⟨⟨LV hrl (by rw[eU];exact hrl r (aE hr)),Zt,_,b::(c1++(Z0++c3)),hk,?_,?_,fun x hx=>?_⟩,rfl⟩
   ·have hl:(rows.set i (r.set off (.sl dG))).length=rows.length:=by simp
    have:=Rd.sl (w:=w) b o0 cap sz (rows.set i (r.set off (.sl dG))) cs (c1++(Z0++c3)) h1 (by rw[hl];exact h2) h3 (LV hrl (by rw[eU];exact hrl r (aE hr))) h4 (by rw[CV hrl hr hc];exact hnew);rw[hl]at this;exact this
   ·simp only[eV,aR,Ds];refine⟨⟨hg1,fun hin=>a2j b hin b (by simp) rfl,hg3⟩,bH.2 ⟨n1,bH.2 ⟨a2p,n5,fun x hx y hy e=>a2j x hx y (by simp[hy]) e⟩,fun x hx y hy e=>?_⟩⟩;rcases aR.1 hy with hy|hy
    ·exact a2j y hy x (by simp[hx]) e.symm
    ·exact n3 x hx y (by simp[hy]) e
   ·by_cases hin:x∈Z0
    ·exact⟨by simp[Θ',hin],(WQ x hin).2⟩
    ·have hbm:x∈b::(c1++(c2++c3)):=by
      simp only[bL,aR]at hx⊢;rcases hx with h|h|h|h
      ·simp[h]
      ·simp[h]
      ·exact absurd h hin
      ·simp[h]
     refine⟨?_,(Dl x hbm).2⟩;have e1:=(Dl x hbm).1;simp only[Θ'];rw[b9 hin,b9 (by omega),e1]
  ·rcases wU j y hy with⟨rfl,rfl⟩|⟨hj2,hy'⟩
   ·exact .inl rfl
   ·exact .inr (.inl ⟨by simp[Gg,hj2],hy'⟩)
theorem mm.setCells{vs:bY}{ds es:aL}{us:bY}{bs:aW}(h:mm w vs ds bs)(p:Nat)(hp:p+es.length<=ds.length)(hu:mm w us es []):
 ∃b',mm w (vs.take p++us++vs.drop (p+us.length)) (ds.take p++es++ds.drop (p+es.length)) b'/\(∀b∈b',b∈bs)/\(bs.Nodup->b'.Nodup):=by
 have e:ds=ds.take p++((ds.drop p).take es.length++(ds.drop p).drop es.length):=by rw[cF,cF]
 rw[e]at h;obtain⟨v1,v2,b1,b2,rfl,rfl,k1,k2⟩:=h.split;obtain⟨v3,v4,b3,b4,rfl,rfl,k3,k4⟩:=k2.split;have l1:v1.length=p:=by rw[k1.length];simp;omega
 have l3:v3.length=es.length:=by rw[k3.length];simp;omega
 have lu:=hu.length;have t1:(v1++(v3++v4)).take p=v1:=iz l1;have t2:(v1++(v3++v4)).drop (p+us.length)=v4:=by
  rw[<-fp,fm l1,lu,fm l3]
 rw[t1,t2];rw[fp]at k4;refine⟨b1++[]++b4,(k1.app hu).app k4,fun b hb=>?_,fun hnd=>?_⟩
 ·simp only[cz,aR]at hb⊢;rcases hb with h|h<;>simp[h]
 ·obtain⟨n1,n2,n3⟩:=bH.1 hnd;obtain⟨_,n5,_⟩:=bH.1 n2;simp only[cz];exact bH.2 ⟨n1,n5,fun x hx y hy e=>n3 x hx y (by simp[hy]) e⟩
theorem U5{o:Oper}{T id i sz off:Nat}{x y:Operand}{rows:List aL}{r ds:aL}{u:Option Value}(hop:o.op=.store T x y)(hd:o.dst=none)(hg:o.guard=none)
 (hx:st.ev x=.op id i sz off) (hH:st.H[id]?=some (.vq sz rows u)) (hr:rows[i]?=some r) (hc:(st.ev y).cellsOf=some ds) (hfl:ds.all D.flat=true) (hT:PY P T=true) (hl:ds.length=zM P T) (hpos:0<ds.length) (hfit:off+ds.length<=sz)
 (h:AO P Γ all rest Q ⟨st.σ,st.H.set id (.vq sz (rows.set i (r.take off++ds++r.drop (off+ds.length))) u)⟩):AO P Γ all (o::rest) Q st:=by
 intro κ Θ a w hs;obtain⟨b1,r1,_⟩:=hs.ev x;obtain⟨b2,r2,_⟩:=hs.ev y;rw[hx]at r1;obtain⟨g,o0,len,ZW,hk,hv⟩:=r1.F1;obtain⟨hrl,Zt,v,bs,hk2,hrd,hnd,Dl⟩:=hs.ob id _ hH;rw[hk]at hk2;cases hk2;have Ri:=BG hs.oN r2 hc;have hl1:=Ri.length;have a8M:ds.all D.Ph=true:=by
  rw[aq]at hfl⊢;intro d Gf;have:=hfl d Gf;cases d<;>first|rfl| (simp[D.flat]at this)
 have hcp:=Ri.pure a8M;have Pf:=hcp.flat hfl;subst Pf;have hrow:=hrl r (aE hr);have hilt:=(aF.1 hr).1;have a2k:(i+1)*sz<=rows.length*sz:=dw _ hilt;rw[kP,nW]at a2k;cases hrd with
 |lm=>simp at hr
 |sl _ _ _ sz' _ cs ns hb hcap CX J2 hcs rU=>
  obtain⟨hgT,hgw⟩:=Dl g (by simp);obtain⟨cur,Tb,UR⟩:=hgw;have a5D:=nc hrl;have hcl:cs.length=rows.length*sz:=by rw[rU.length,a5D]
  have M8:∀j c,cs[j]?=some c->cur[o0+j]?=some c:=by
   intro j c hj;have:=hcs j c hj;simpa[World.cell?,UR]using this
  have a5C:o0+(i*sz+off)+(a.eval y).cells.size<=cur.size:=by
   have e1:(a.eval y).cells.size=ds.length:=by rw[<-hl1];simp
   rw[e1];have:=M8 (i*sz+off+ds.length-1) cs[i*sz+off+ds.length-1] (af (by omega));have:=(bD.1 this).1;omega
  have a2y:(a.eval y).cells.size=zM P T:=by rw[<-hl,<-hl1];simp
  have hst:=F5 (P:=P) (T:=T) (off:=o0+(i*sz+off)) UR a2y (eP.1 hT) a5C Ri.one;have hne:(a.eval y).cells.toList.length=ds.length:=hl1;let L7:Array Value:=(cur.toList.take (o0+(i*sz+off))++(a.eval y).cells.toList++cur.toList.drop (o0+(i*sz+off)+(a.eval y).cells.toList.length)).toArray
  have hw':∀x,x≠g->(w.setRow g L7).heap[x]?=w.heap[x]?:=fun x hx=>setRow_other w g x _ hx
  have hsame:∀x,x<w.heap.size->(∀m∈[id],Θ x≠m+2)->(w.setRow g L7).heap[x]?=w.heap[x]?:=fun x _ hx=>hw' x (fun e=>hx id (by simp) (by rw[e];exact hgT))
  simp only[eV]at hnd;have a8n:mm (w.setRow g L7) cs rows.flatten ns:=rU.keep fun b hb'=>hw' b (fun e=>hnd.1 (e▸hb'))
  have a8E:mm (w.setRow g L7) (a.eval y).cells.toList ds []:=hcp.keep (by simp);obtain⟨ns',q1,q2,q3⟩:=a8n.setCells (i*sz+off) (by rw[a5D];omega) a8E;have hfs:=Ej (ds:=ds) (off:=off) hrl hr hfit;have hl4:(rows.set i (r.take off++ds++r.drop (off+ds.length))).length=rows.length:=by simp
  have a5T:∀z∈rows.set i (r.take off++ds++r.drop (off+ds.length)),z.length=sz:=LV hrl (by simp;omega);have hcell:∀j c,(cs.take (i*sz+off)++(a.eval y).cells.toList++cs.drop (i*sz+off+(a.eval y).cells.toList.length))[j]?=some c->(w.setRow g L7).cell? ⟨g,o0+j,none⟩=some c:=by
   intro j c hj;have hgh:(w.setRow g L7).heap[g]?=some (.cells L7 Tb (0,0)):=setRow_heap w g cur _ Tb _ UR;simp only[World.cell?,hgh];show L7[o0+j]?=some c;simp only[L7,iD,cm]at hj⊢;have hcz:o0+(i*sz+off)<=cur.toList.length:=by simp;omega
   by_cases Gg:j<i*sz+off
   ·rw[ar (by simp;omega),cP,bN Gg]at hj;rw[ar (by rw[bz];omega),cP,bN (by omega)];have:=M8 j c hj;simpa using this
   ·rw[b8 (by rw[bz];omega),bz,fG (by omega)]at hj;rw[b8 (by rw[bz];omega),bz,fG hcz];rw[show o0+j-(o0+(i*sz+off))=j-(i*sz+off)from by omega];by_cases hj2:j-(i*sz+off)<(a.eval y).cells.toList.length
    ·rw[ar hj2]at hj⊢;exact hj
    ·rw[b8 (by omega),eZ]at hj⊢;have:=M8 _ c hj;rw[<-jl]at this;rw[<-this];congr 1;omega
  refine wpList_plain hg fun K hK=>?_
  unfold Oper.wp;have hrun:(execOp a.eval o).run P w=.ok .skip (w.setRow g L7):=by
   simp only[execOp,hop,hv];simp[hst,L7]
  rw[hrun,Oper.upon_skip,hd];refine hK _ _ (h κ Θ _ _ (hs.SM [id] rfl rfl rfl (by simp) hsame (fun _ _ _=>rfl) (fun b hb'=>by simpa using hs.own b hb') hs.mine (fun _ _ h=>h) (fun j hj=>hs.pH j (by simpa using hj)) hs.oN (fun j z hj=>?_)));rcases wU j z hj with⟨rfl,rfl⟩|⟨Gg,hz⟩
  ·right;right
   refine⟨⟨a5T,Zt,_,g::ns',hk,?_,?_,fun b hb'=>?_⟩,rfl⟩
   ·have:=Rd.sl (w:=w.setRow g L7) g o0 ZW sz (rows.set i (r.take off++ds++r.drop (off+ds.length))) _ ns' (by simpa using hb) (by rw[hl4];exact hcap) CX a5T hcell (by rw[hfs];exact q1);rw[hl4]at this;exact this
   ·simp only[eV];exact⟨fun hin=>hnd.1 (q2 g hin),q3 hnd.2⟩
   ·rcases bL.1 hb' with rfl|hin
    ·exact⟨hgT,⟨_,Tb,setRow_heap w b cur _ Tb _ UR⟩⟩
    ·have hm:=Dl b (by simp[q2 b hin]);refine⟨hm.1,?_⟩;obtain⟨xs,T',hxs⟩:=hm.2;exact⟨xs,T',(hw' b (fun e=>hnd.1 (e▸q2 b hin))).trans hxs⟩
  ·exact .inr (.inl ⟨by simpa using Gg,hz⟩)
end
end Go.Cx
namespace Go.Cx
open Go.RowKit
def GY(P:Program)(f:FuncId)(ds:aL)(e sz:Nat)(rows dO:List aL):Prop:=
 (∃fn,P.funcs[f]?=some fn/\fn.body.isSome=true/\(fn.name== "runtime.NumGoroutine")=false)/\
 ∀(w:World) (κ:Nat->Option Value) (args:bY) (v:Value) (cs:bY),Mx w (fun b=>v.ownBlock=some b)->args.length=ds.length->(∀(i:Nat) d,ds[i]?=some d->∃u,args[i]?=some u/\rW w κ u d [])->
  κ 0=some v->(∀i,1<=i->κ i=none)->v.oneCell'=true->0<sz->(∀r∈rows,r.length=sz)->w.ownsRow 0 e sz v rows.length cs->mm w cs rows.flatten []->
  Calls P f args.toArray w (fun x w'=>∃v' cs',x=.returned v'/\v'.oneCell'=true/\(∀r∈dO,r.length=sz)/\w'.ownsRow 0 e sz v' dO.length cs'/\mm w' cs' dO.flatten []/\(∀g,v'.ownBlock=some g->w.heap.size<=g\/v.ownBlock=some g)/\
   w'.os=w.os/\w'.tape=w.tape/\w'.output=w.output/\w.heap.size<=w'.heap.size/\∀b,b<w.heap.size->v.ownBlock≠some b->w'.heap[b]?=w.heap[b]?)
section
variable{P:Program}{Γ:uB}{Q:Exit->St->Prop}{st:St}{κ κ':Nat->Option Value}{Θ Θ':Nat->Nat}{a:Act}{w w':World}{all:Array Oper}{rest:List Oper}
theorem OJ.out{fn:Func}{d:D}{e:Exit}{a':Act}{w':World}{Mr:St}{κ0:Nat->Option Value}{Θ0:Nat->Nat}(hs0:dl Γ Mr κ0 Θ0 a' w')(Wn:OJ P fn d e Mr):
 (e=.ret\/e=.normal)/\a'.defers=[]/\Pr Γ w'/\∃v bs ts us,(results fn a'.tmps).run P w'=.ok v w'/\zS w' v d bs ts us/\∀b∈ts,xX Γ b:=by
 obtain⟨Az,nz,Zi,es,ms,qs,hres,Wo,MB,KK,rfl⟩:=Wn;obtain⟨ρ0,Zs⟩:=hs0.rV;have AT:=vh Wo;obtain⟨Θ1,ρ1,hs1,hu1,hm1,NE,UU⟩:=dl.FM ms hs0 Zs MB (fun m hm=>by
  obtain⟨e,sz,rows,hH⟩:=AT.1 m hm;exact⟨_,e,sz,rows,hH,rfl⟩)
 obtain⟨vs,bs',m1,m2,m3,m4,m5⟩:=Bn hs0 hres;have hq:∀m e sz rows,Mr.H[m]?=some (.row .uq e sz rows)->∃v cs ns,κ0 m=some v/\0<sz/\(∀r∈rows,r.length=sz)/\w'.ownsRow 0 e sz v rows.length cs/\wX w' (tr e) 0 cs rows.flatten ns/\ns.Nodup/\(∀b∈ns,ρ1 b=m+1)/\∀g,v.ownBlock=some g->Θ1 g=m+2:=by
  intro m e sz rows hH;have hnm:m∉ms:=fun hm=>by
   obtain⟨e',sz',dO,Db⟩:=AT.1 m hm;rw[hH]at Db;cases Db
  have Mo:(kill Mr.H ms)[m]?=some (.row .uq e sz rows):=by rw[gH hnm];exact hH
  obtain⟨v,cs,ns,r1,r2,r3,r4,r5⟩:=hu1.rows m e sz rows Mo;obtain⟨p1,p2,v2,_,_,p3,_,_,p4,_⟩:=hs1.ob m _ Mo;rw[r1]at p3;cases p3;exact⟨v,cs,ns,r1,p1,p2,r2,r3,r4,r5,p4⟩
 obtain⟨c,ts,us,Bg,A6⟩:=zL (w:=w') (vs:=vs) (fun b hb=>(hu1.free b hb).1) hq hs0.oN Wo KK (by omega) (fun i d hd=>by
  obtain⟨v,b,k1,k2,k3⟩:=m4 i d hd;exact⟨v,b,k1,k2,fun x hx=>NE x (m5 x (k3 x hx))⟩) hm1
 have KI:∃v,(results fn a'.tmps).run P w'=.ok v w'/\zS w' v (JO es) c ts us:=by
  have hrun:(results fn a'.tmps).run P w'=.ok (if h:vs.toArray.size=1 then vs.toArray[0]else .tuple vs.toArray) w':=by
   rw[results_eq,mU];simp[m1]
  cases Bg with
  |nil=>exact⟨.tuple #[],by simpa using hrun,.gL [] [] [] [] [] .nil⟩
  |cons v vs d es b1 b2 t1 t2 u1 u2 hv qU=>
   cases qU with
   |nil=>
    simp only[cz];exact⟨v,by simpa using hrun,.v hv⟩
   |cons v2 vs d2 es b3 b4 t3 t4 u3 u4 Mp qU=>exact⟨.tuple (v::v2::vs).toArray,by simpa using hrun,.gL _ _ _ _ _ (.cons _ _ _ _ _ _ _ _ _ _ hv (.cons _ _ _ _ _ _ _ _ _ _ Mp qU))⟩
 obtain⟨v,Ru,NB⟩:=KI;refine⟨Az,hs0.defers,hs0.stays,v,c,ts,us,Ru,NB,fun b hb'=>?_⟩;obtain⟨⟨m,hm,hΘ⟩,_⟩:=A6.top b hb';exact hs1.mine b (by omega)
theorem GY.of{f:FuncId}{fn:Func}{c:Code}{ds:aL}{e sz:Nat}{rows dO:List aL}(hf:P.funcs[f]?=some fn)(hb:fn.body=some c)(hn:(fn.name== "runtime.NumGoroutine")=false)
 (hl:ds.length<=fn.ntmps) (hfl:dO.flatten.all D.flat=true) (h:rows.length<=maxLen->∀Γ:uB,Γ.nt=fn.ntmps->AW P Γ c (OJ P fn (.fr e sz dO)) ⟨wC 0 ds,[.row .uq e sz rows]⟩) (hfe:Ty e=true:=by kernel_rfl):GY P f ds e sz rows dO:=by
 refine⟨⟨fn,hf,by simp[hb],hn⟩,?_⟩;intro w κ args v cs Of hlen hargs hk0 hk1 hone hsz hrl hown hrd;refine calls_of_wp hf hb ?_;let Θ:Nat->Nat:=fun b=>if v.ownBlock=some b then 2 else if b<w.heap.size then 1 else 0
 let Γ:uB:=⟨w,Θ,fun b=>v.ownBlock=some b,fn.ntmps,fun _=>False,Of⟩
 have hlt:∀b,v.ownBlock=some b->b<w.heap.size:=fun b hb'=>(hown.lt b hb').2
 have CX:rows.length<=maxLen:=(gq.sl ⟨w,v,_,vO hrl hown hrd⟩).1;have hs:dl Γ ⟨wC 0 ds,[.row .uq e sz rows]⟩ κ Θ {tmps:=args.toArray++Array.replicate (fn.ntmps-args.toArray.size) undef,defers:=[]} w:=by
  refine⟨rfl,?_,fun i hi=>hk1 i (by simpa using hi),?_,?_,?_,?_,?_,?_,⟨rfl,rfl,rfl,bO _,fun _ _ _=>rfl⟩,⟨fun _=>0,by simp,?_,?_⟩⟩
  ·simp[Γ];omega
  ·intro id u hu;rcases Nat.eq_zero_or_pos id with rfl|hp
   ·rw[hk0]at hu;cases hu;exact hone
   ·rw[hk1 id hp]at hu;cases hu
  ·intro t;rw[Ey];simp only[v8,xW,w9];cases hd:ds[t]? with
   |none=>exact⟨[],.of (.any _),by simp⟩
   |some x=>
    obtain⟨u,k1,k2⟩:=hargs t x hd;refine⟨[],?_,by simp⟩;have hlt:t<args.length:=(aF.1 k1).1;have:(args.toArray++Array.replicate (fn.ntmps-args.toArray.size) undef).getD t undef=u:=by
     rw[cG,eY (by simpa using hlt)];simp[k1]
    rw[this];exact k2
  ·intro j o hj;cases j with
   |zero=>
    simp at hj;subst hj;exact⟨hsz,hrl,v,cs,[],hk0,hown,hrd,fun g hg=>by simp only[Θ];rw[bN hg],by simp⟩
   |succ j=>simp at hj
  ·intro b hb';simp only[Θ]at hb';split at hb'
   ·rename_i hv;exact hlt b hv
   ·split at hb'
    ·assumption
    ·exact absurd rfl hb'
  ·intro b hb' hx;refine⟨rfl,?_⟩;have hx':¬v.ownBlock=some b:=hx;simp only[Θ];rw[b9 hx'];split<;>omega
  ·intro b hb';simp only[Θ]at hb';split at hb'
   ·rename_i hv;exact .inr hv
   ·split at hb'<;>omega
  ·intro id e' sz' dG hj;cases id with
   |zero=>
    simp at hj;obtain⟨rfl,rfl,rfl⟩:=hj;exact⟨v,cs,[],hk0,hown,.of hrd (xG (Bp hfe)),by simp,by simp⟩
   |succ j=>simp at hj
  ·intro id o hj;cases id with
   |zero=>simp at hj;subst hj;exact Jp.wR rfl
   |succ j=>simp at hj
 refine wp_mono (h CX Γ rfl _ _ _ _ hs) ?_;rintro x a' w' ⟨Mr,κ0,Θ0,hs0,Wn⟩;obtain⟨Az,hdf,hst,u,bs,ts,us,hrun,hres,Ni⟩:=OJ.out hs0 Wn;have KI:∃u cs',(results fn a'.tmps).run P w'=.ok u w'/\u.oneCell'=true/\(∀r∈dO,r.length=sz)/\w'.ownsRow 0 e sz u dO.length cs'/\mm w' cs' dO.flatten []/\(∀g,u.ownBlock=some g->w.heap.size<=g\/v.ownBlock=some g)/\
  w'.os=w.os/\w'.tape=w.tape/\w'.output=w.output/\w.heap.size<=w'.heap.size/\∀b,b<w.heap.size->v.ownBlock≠some b->w'.heap[b]?=w.heap[b]?:=by
  cases hres with
  |v hv=>
   cases hv with
   |cell hc=>
    cases hc with
    |pure hc=>cases hc
    |fr _ _ _ cs' ns h1 h2 h3 h4 h5=>
     have:=h4.rd.flat hfl;subst this;exact⟨u,cs',hrun,h5,h2,h3,h4.rd,fun g hg=>Ni g (by simp[hg]),hst.os,hst.tape,hst.output,hst.size,fun b hb' hx=>hst.block b hb' hx⟩
 obtain⟨u,cs',q1,q2⟩:=KI;have post:a'.defers=[]/\∃v',(results fn a'.tmps).run P w'=.ok v' w'/\∃v2 Z1,Ending.returned v'=.returned v2/\v2.oneCell'=true/\(∀r∈dO,r.length=sz)/\w'.ownsRow 0 e sz v2 dO.length Z1/\mm w' Z1 dO.flatten []/\(∀g,v2.ownBlock=some g->w.heap.size<=g\/v.ownBlock=some g)/\
  w'.os=w.os/\w'.tape=w.tape/\w'.output=w.output/\w.heap.size<=w'.heap.size/\∀b,b<w.heap.size->v.ownBlock≠some b->w'.heap[b]?=w.heap[b]?:=⟨hdf,u,q1,u,cs',rfl,q2⟩
 rcases Az with rfl|rfl
 ·exact post
 ·exact post
theorem Vd{o:Oper}{f t id:Nat}{xs:Array Operand}{ts:Array TypeId}{e sz:Nat}{rows dO:List aL}(hop:o.op=.call {callee:=.value (.func f),args:=xs,argTypes:=ts})(hd:o.dst=some t)(hg:o.guard=none)
 (ht:t<Γ.nt) (hH:st.H[id]?=some (.row .uq e sz rows)) (hfe:Ty e=true) (hfl:rows.flatten.all D.flat=true) (hb:((xs.toList.map st.ev).all D.bare)=true) (ng:GY P f ((xs.toList.map st.ev).map (D.Tl [id])) e sz rows dO)
 (h:AO P Γ all rest Q ⟨(t,.acc st.H.length)::st.σ,kill st.H [id]++[.row .uq e sz dO]⟩):AO P Γ all (o::rest) Q st:=by
 intro κ Θ a w hs;obtain⟨hsz,hrl,v,cs,bs,hk,hown,hrd,Ep,_⟩:=hs.ob id _ hH;have Dl:=hrd.flat hfl;subst Dl;have UT:id<st.H.length:=(aF.1 hH).1;let κc:Nat->Option Value:=fun j=>if j=0 then some v else none
 have Of:Mx w fun b=>v.ownBlock=some b:=by
  obtain⟨B,v1,v2⟩:=hs.vsb;refine⟨B,v1,fun b hB=>⟨(v2 b hB).2.1,fun hb'=>?_⟩⟩;have e1:=Ep b hb';rcases hs.mine b (by omega)with q|q
  ·have:=(v2 b hB).1;omega
  ·exact(v2 b hB).2.2 q
 have hargs:∀(i:Nat) d,((xs.toList.map st.ev).map (D.Tl [id]))[i]?=some d->∃u,(xs.toList.map a.eval)[i]?=some u/\rW w κc u d []:=by
  intro i d Gf;rw[bt,bt]at Gf;cases hx:xs.toList[i]? with
  |none=>rw[hx]at Gf;cases Gf
  |some x=>
   rw[hx]at Gf;simp only[cU,ah]at Gf;subst Gf;refine⟨a.eval x,by rw[bt,hx];rfl,?_⟩;obtain⟨bs,r,hz⟩:=hs.ev x;have WM:(st.ev x).bare=true:=aq.1 hb _ (cE.2 ⟨x,aE hx,rfl⟩);obtain⟨b',r',_⟩:=rW.rn (o:=[id]) (κ':=κc) (Θ:=fun _=>0) (Θ':=fun _=>0) (fun i j u h1 h2=>by
    have h3:=PA h1;cases j with
    |zero=>simp at h3;subst h3;rw[hk]at h2;simpa[κc]using h2
    |succ j=>simp at h3) (fun _ _=>rfl) r (fun _ _=>rfl)
   have:=r'.T3 (D.T4 [id] WM);subst this;exact r'
 have hc:=ng.2 w κc (xs.toList.map a.eval) v cs Of (by simp) hargs (by simp[κc]) (fun i hi=>by simp only[κc];rw[b9 (by omega)]) (hs.oN id v hk) hsz hrl hown hrd;refine wpList_plain hg fun K hK=>?_
 unfold Oper.wp;rw[wT hop ng.1,Oper.upon_enter];have e0:xs.map a.eval=(xs.toList.map a.eval).toArray:=by rw[<-gw,kO]
 rw[e0];refine hc.mono ?_;rintro x w' ⟨v',cs',rfl,hone,J2,Cs,NC,UP,h1,h2,h3,h4,M6⟩;show K (a.put o.dst v') w';rw[hd];let n:=st.H.length
 let Θ':Nat->Nat:=fun b=>if some b=v'.ownBlock then n+2 else Θ b
 have Z6:∀g,v'.ownBlock=some g->Θ g=id+2\/w.heap.size<=g:=by
  intro g US;rcases UP g US with h|h
  ·exact .inr h
  ·exact .inl (Ep g h)
 have k:iJ w w' Θ Θ' (id+2):=by
  refine⟨by omega,h1,h2,h3,h4,fun b hb hne=>M6 b hb (fun e=>hne (Ep b e)),fun b hb hne=>?_,fun b hb=>?_⟩
  ·simp only[Θ'];rw[b9];intro e;rcases Z6 b e.symm with h|h
   ·exact hne h
   ·omega
  ·simp only[Θ']at hb;split at hb
   ·rename_i e;exact(Cs.lt b e.symm).2
   ·exact cu (hs.own b hb) h4
 have hm:∀b,2<=Θ' b->xX Γ b:=by
  intro b hb;simp only[Θ']at hb;split at hb
  ·rename_i e;rcases Z6 b e.symm with h|h
   ·exact hs.mine b (by omega)
   ·exact .inl (dX hs.base h)
  ·exact hs.mine b hb
 have hn:=wW (hs.pH n (bO _)) (some v');obtain⟨ρ,hu⟩:=hs.rV;have sA:=hs.nk k hn hu;have key:∀(j:Nat) y,(kill st.H [id]++[.row .uq e sz dO])[j]?=some y->(j=n/\y=.row .uq e sz dO)\/(j≠n/\(y=.gone\/(j∉[id]/\st.H[j]?=some y))):=by
  intro j y hj;rcases AB j y hj with⟨h1,h2⟩|⟨h1,h2⟩
  ·rw[fX]at h1;exact .inl ⟨h1,h2⟩
  ·rw[fX]at h1;exact .inr ⟨h1,oW h2⟩
 have hs':dl Γ ⟨st.σ,kill st.H [id]++[.row .uq e sz dO]⟩ (xN κ n (some v')) Θ' a w':=by
  refine hs.step k hm hn ?_ ?_ ?_ ⟨ρ,sA.1,fun j e' sz' dG hj=>?_,fun j y hj=>?_⟩
  ·intro i hi;simp only[av,aP,bS,fX]at hi;unfold xN;rw[b9 (by omega)];exact hs.pH i (by omega)
  ·intro i y hy;unfold xN at hy;split at hy
   ·cases hy;exact hone
   ·exact hs.oN i y hy
  ·intro j y hj;rcases key j y hj with⟨rfl,rfl⟩|⟨_,hy|⟨hjk,hy⟩⟩
   ·exact .inr (.inr ⟨hsz,J2,v',cs',[],jN _ _ _,Cs,NC,fun g US=>by simp only[Θ'];rw[bN US.symm],by simp⟩)
   ·exact .inl hy
   ·exact .inr (.inl ⟨fun e=>hjk (by simp;omega),hy⟩)
  ·rcases key j _ hj with⟨rfl,hy⟩|⟨_,hy|⟨hjk,hy⟩⟩
   ·simp only[Ob.row.injEq,qz]at hy;obtain⟨rfl,rfl,rfl⟩:=hy;exact⟨v',cs',[],jN _ _ _,Cs,.of NC (xG (Bp hfe)),by simp,by simp⟩
   ·cases hy
   ·exact sA.2.1 j e' sz' dG (fun e=>hjk (by simp;omega)) hy
  ·rcases key j _ hj with⟨rfl,hy⟩|⟨_,hy|⟨hjk,hy⟩⟩
   ·subst hy;exact Jp.wR rfl
   ·subst hy;trivial
   ·exact sA.2.2 j y (fun e=>hjk (by simp;omega)) hy
 refine hK _ _ (h _ _ _ _ (hs'.set (t:=t) (d:=.acc n) (bs:=[]) ht ?_ (by simp)));exact(yb.acc n _ (jN _ _ _)).O0
end
end Go.Cx
namespace Go.Cx
open Go.RowKit
def hY(P:Program)(f:FuncId)(cells cells':aL)(ds:aL)(d:D):Prop:=
 (∃fn,P.funcs[f]?=some fn/\fn.body.isSome=true/\(fn.name== "runtime.NumGoroutine")=false)/\
 ∀(w:World) (Θ:Nat->Nat) (g:Nat) (cs:Array Value) (T:TypeId) (args:bY) (bs ts us:aW),
  Mx w (fun b=>b=g\/b∈ts)->w.heap[g]?=some (.cells cs T (0,0))->AZ w (.agg cs::args) (.agg cells::ds) bs ts us->
  (∀b∈bs,Θ b=0)->(∀b,Θ b≠0->b<w.heap.size)->(∀b,Θ b<=1)->Θ g=1->(∀b∈ts,Θ b=1/\b∈us/\b≠g)->us.Nodup->(∀b∈us,(b∉ts->Θ b=0)/\Wr w b)->
  Calls P f (.pointer (some ⟨g,0,none⟩)::args).toArray w (fun e w'=>∃v cs' T' b2 t2 u2 b3 t3 u3,e=.returned v/\w'.os=w.os/\w'.tape=w.tape/\w'.output=w.output/\w.heap.size<=w'.heap.size/\
   (∀b,b<w.heap.size->b≠g->b∉ts->w'.heap[b]?=w.heap[b]?)/\w'.heap[g]?=some (.cells cs' T' (0,0))/\(cs.size=3->cs'.size=3/\cs'[0]?=cs[0]?)/\
   zS w' v d b2 t2 u2/\tV w' cs'.toList cells' b3 t3 u3/\(∀b∈b3++b2,(b<w.heap.size->Θ b=0\/b∈ts)/\b≠g/\b∉t3++t2)/\(u3++u2).Nodup/\
   (∀b∈u3++u2,(w.heap.size<=b\/b∈us)/\b≠g/\Wr w' b)/\∀b∈t3++t2,b∈u3++u2/\(w.heap.size<=b\/b∈ts))
section
variable{P:Program}{Γ:uB}{Q:Exit->St->Prop}{st:St}{κ κ':Nat->Option Value}{Θ Θ':Nat->Nat}{a:Act}{w w':World}{all:Array Oper}{rest:List Oper}
theorem FW.Vr{cs:Array Value}{ds:aL}{bs ts us:aW}(h:FW w (.agg cs) (.agg ds) bs ts us):tV w cs.toList ds bs ts us:=by
 generalize hv:Value.agg cs=v at h;cases h with
 |cell h=>
  cases h with
  |pure h=>
   cases h with
   |agg l _ _ h=>cases hv;simpa using tV.Cu h
 |agg l _ _ _ _ h=>cases hv;simpa using h
theorem Le.Vr{cs:Array Value}{ds:aL}{bs:aW}(h:Le w κ (.agg cs) (.agg ds) bs):fK w κ cs.toList ds bs:=by
 generalize hv:Value.agg cs=v at h;cases h with
 |cell h=>
  cases h with
  |pure h=>
   cases h with
   |agg l _ _ h=>cases hv;simpa using fK.Cu h
 |agg l _ _ h=>cases hv;simpa using h
theorem FV.shown{v:Value}{d:D}{bs ts us:aW}(h:FV w v d bs ts us):∃b,Rd w v d.ZA b:=by
 cases h with
 |pure h=>
  have e:d.ZA=d:=by cases h<;>rfl
  exact⟨_,e.symm▸h⟩
 |fr e sz rows cs ns h1 h2 h3 h4 h5=>exact⟨_,vO h2 h3 h4.rd⟩
theorem tV.shown{vs:bY}{ds:aL}{bs ts us:aW}(h:tV w vs ds bs ts us):∃b,mm w vs (ds.map D.ZA) b:=by
 induction h with
 |nil=>exact⟨_,.nil⟩
 |cons v vs d ds b1 b2 t1 t2 u1 u2 h1 h2 _ ih=>
  obtain⟨b,q⟩:=h2.shown;obtain⟨b',q'⟩:=ih;exact⟨_,.cons _ _ _ _ _ _ h1 q q'⟩
theorem FW.shown{v:Value}{d:D}{bs ts us:aW}(h:FW w v d bs ts us):gq d.VT:=by
 cases h with
 |cell h=>
  by_cases tP:∃ds,d=.agg ds
  ·obtain⟨ds,rfl⟩:=tP;cases h with
   |pure h=>cases h with
    |agg cs _ _ h=>
     obtain⟨b,q⟩:=(tV.Cu h).shown;exact⟨w,_,_,.agg _ _ _ q⟩
  ·have e:d.VT=d.ZA:=by cases d<;>first|rfl|exact absurd ⟨_,rfl⟩ tP
   rw[e];obtain⟨b,q⟩:=h.shown;exact⟨w,_,_,q⟩
 |agg cs ds bs ts us h=>
  obtain⟨b,q⟩:=h.shown;exact⟨w,_,_,.agg _ _ _ q⟩
theorem AZ.shown{vs:bY}{ds:aL}{bs ts us:aW}(h:AZ w vs ds bs ts us):∀d∈ds.map D.VT,gq d:=by
 induction h with
 |nil=>intro d hd;cases hd
 |cons v vs d ds b1 b2 t1 t2 u1 u2 h2 _ ih=>
  intro x hx;rcases bL.1 hx with rfl|hx
  ·exact h2.shown
  ·exact ih x hx
def Ky(L:oP)(b:Nat):Option Nat:=ix (fun x:Fs=>x.v.ownBlock==some b) L
def tH(L:oP)(b:Nat):Option Nat:=ix (fun x:Fs=>x.ns.contains b) L
theorem JZ{L:oP}(hnd:(L.flatMap Fs.bl).Nodup){i:Nat}{x:Fs}{b:Nat}(hi:L[i]?=some x)(hb:x.v.ownBlock=some b):Ky L b=some i:=
 Es hi (by simp[hb]) (fun j y hj hy=>by
  simp only[cc]at hy;exact vf hnd j i y x b hj hi (by simp[Fs.bl,hy]) (by simp[Fs.bl,hb]))
theorem Sa{L:oP}{b i:Nat}(h:Ky L b=some i):b∈L.flatMap Fs.ts:=by
 obtain⟨x,hx,hp⟩:=zA h;exact cA.2 ⟨x,aE hx,by simp only[cc]at hp;simp[Fs.ts,hp]⟩
theorem xK{L:oP}{b:Nat}(h:b∉L.flatMap Fs.ts):Ky L b=none:=by
 cases hb:Ky L b with
 |none=>rfl
 |some i=>exact absurd (Sa hb) h
theorem C2{L:oP}(hnd:(L.flatMap Fs.bl).Nodup){i:Nat}{x:Fs}{b:Nat}(hi:L[i]?=some x)(hb:b∈x.ns):tH L b=some i:=
 Es hi (by simpa using hb) (fun j y hj hy=>vf hnd j i y x b hj hi (by simp only[Fs.bl];exact aR.2 (.inr (by simpa using hy))) (by simp only[Fs.bl];exact aR.2 (.inr hb)))
theorem uC{L:oP}{b i:Nat}(h:tH L b=some i):∃x,L[i]?=some x/\b∈x.ns:=by
 obtain⟨x,hx,hp⟩:=zA h;exact⟨x,hx,by simpa using hp⟩
theorem Dt{L:oP}{b:Nat}(h:b∈L.flatMap Fs.ts):b∈L.flatMap Fs.bl:=by
 obtain⟨x,hx,B7⟩:=cA.1 h;exact cA.2 ⟨x,hx,by simp only[Fs.bl,Fs.ts]at B7⊢;exact aR.2 (.inl B7)⟩
theorem sC{L:oP}{i b:Nat}{x:Fs}(h:L[i]?=some x)(hb:b∈x.ns):b∈L.flatMap Fs.bl:=
 cA.2 ⟨x,aE h,by simp only[Fs.bl];exact aR.2 (.inr hb)⟩
theorem Q4{L:oP}(hnd:(L.flatMap Fs.bl).Nodup):∀x∈L,x.bl.Nodup:=by
 induction L with
 |nil=>intro x hx;cases hx
 |cons z r ih=>
  intro x hx;simp only[fI]at hnd;obtain⟨n1,n2,_⟩:=bH.1 hnd;rcases bL.1 hx with rfl|hx
  ·exact n1
  ·exact ih n2 x hx
theorem Ca{L:oP}(hnd:(L.flatMap Fs.bl).Nodup){i b:Nat}{x:Fs}(h:L[i]?=some x)(hb:b∈x.ns):b∉L.flatMap Fs.ts:=by
 intro ht;obtain⟨y,hy,hby⟩:=cA.1 ht;obtain⟨j,hj⟩:=dN hy;have:=vf hnd j i y x b hj h (by simp only[Fs.bl,Fs.ts]at hby⊢;exact aR.2 (.inl hby)) (by simp only[Fs.bl];exact aR.2 (.inr hb));subst this;rw[hj]at h;cases h;have J1:=Q4 hnd x hy;simp only[Fs.bl]at J1;exact(bH.1 J1).2.2 b hby b hb rfl
theorem JJ{L:oP}(hnd:(L.flatMap Fs.bl).Nodup){i:Nat}{x:Fs}(h:L[i]?=some x):x.ns.Nodup:=by
 have:=Q4 hnd x (aE h);simp only[Fs.bl]at this;exact(bH.1 this).2.1
def Vp(P:Program)(fn:Func)(v0:Value)(cells':aL)(d:D)(e:Exit)(st:St):Prop:=
 (e=.ret\/e=.normal)/\∃nz Zi OP es ms qs,Gj P st fn.results.toList=some Zi/\st.H[0]?=some (.AA OP v0)/\
  AD st.H nz (.agg OP::Zi)=some (.agg cells'::es,ms,qs)/\ms.Nodup/\qs.Nodup/\JO es=d
theorem Vp.out{fn:Func}{v0:Value}{cells':aL}{d:D}{e:Exit}{a':Act}{w':World}{Mr:St}{κ0:Nat->Option Value}{Θ0:Nat->Nat}(hs0:dl Γ Mr κ0 Θ0 a' w')(Wn:Vp P fn v0 cells' d e Mr):
 (e=.ret\/e=.normal)/\a'.defers=[]/\Pr Γ w'/\∃v g cs' T b2 t2 u2 b3 t3 u3,(results fn a'.tmps).run P w'=.ok v w'/\Tj v0=.pointer (some ⟨g,0,none⟩)/\w'.heap[g]?=some (.cells cs' T (0,0))/\(∀c,Et v0=some c->cs'.size=3/\cs'[0]?=some c)/\
  zS w' v d b2 t2 u2/\tV w' cs'.toList cells' b3 t3 u3/\(∀b∈b3++b2,(b<Γ.W0.heap.size->¬Γ.X b->Γ.Θ0 b=0)/\b≠g/\b∉t3++t2)/\(u3++u2).Nodup/\
  (∀b∈u3++u2,Sp Γ b/\b≠g/\Wr w' b)/\∀b∈t3++t2,b∈u3++u2/\xX Γ b:=by
 obtain⟨Az,nz,Zi,OP,es,ms,qs,hres,hH0,Wo,MB,KK,rfl⟩:=Wn;obtain⟨ρ0,Zs⟩:=hs0.rV;have AT:=vh Wo;obtain⟨Θ1,ρ1,hs1,hu1,hm1,NE,UU⟩:=dl.FM ms hs0 Zs MB (fun m hm=>by
  obtain⟨e,sz,rows,hH⟩:=AT.1 m hm;exact⟨_,e,sz,rows,hH,rfl⟩)
 obtain⟨vs,bs',m1,m2,m3,m4,m5⟩:=Bn hs0 hres;have hq:∀m e sz rows,Mr.H[m]?=some (.row .uq e sz rows)->∃v cs ns,κ0 m=some v/\0<sz/\(∀r∈rows,r.length=sz)/\w'.ownsRow 0 e sz v rows.length cs/\wX w' (tr e) 0 cs rows.flatten ns/\ns.Nodup/\(∀b∈ns,ρ1 b=m+1)/\∀g,v.ownBlock=some g->Θ1 g=m+2:=by
  intro m e sz rows hH;have hnm:m∉ms:=fun hm=>by
   obtain⟨e',sz',dO,Db⟩:=AT.1 m hm;rw[hH]at Db;cases Db
  have Mo:(kill Mr.H ms)[m]?=some (.row .uq e sz rows):=by rw[gH hnm];exact hH
  obtain⟨v,cs,ns,r1,r2,r3,r4,r5⟩:=hu1.rows m e sz rows Mo;obtain⟨p1,p2,v2,_,_,p3,_,_,p4,_⟩:=hs1.ob m _ Mo;rw[r1]at p3;cases p3;exact⟨v,cs,ns,r1,p1,p2,r2,r3,r4,r5,p4⟩
 have h0m:0∉ms:=fun hm=>by
  obtain⟨e',sz',dO,Db⟩:=AT.1 0 hm;rw[hH0]at Db;cases Db
 have h0q:0∉qs:=fun hm=>by
  obtain⟨e',sz',dO,Db⟩:=AT.2 0 hm;rw[hH0]at Db;cases Db
 obtain⟨hv0,g,cs',T,hk0,hg,Oi,bb,hbb,hbz⟩:=hs1.ob 0 _ (show(kill Mr.H ms)[0]?=_ by rw[gH h0m];exact hH0);have a5G:∀c,Et v0=some c->cs'.size=3/\cs'[0]?=some c:=fun c hc=>hv0.2 c hc g cs' T hk0 hg
 have hv0:=hv0.1;have e0:Tj v0=.pointer (some ⟨g,0,none⟩):=by rw[hv0]at hk0;exact oF hk0
 have Oi:Θ1 g=2:=Oi;obtain⟨c,tt,uu,Bg,A6⟩:=zL (w:=w') (vs:=.agg cs'::vs) (fun b hb=>(hu1.free b hb).1) hq hs0.oN Wo KK (by simp;omega) (fun i d hd=>by
  cases i with
  |zero=>
   simp at hd;subst hd;have:=Le.agg _ _ _ hbb;exact⟨_,bb,rfl,.v (by simpa using this),hbz⟩
  |succ i=>
   obtain⟨v,b,k1,k2,k3⟩:=m4 i d (by simpa using hd);exact⟨v,b,by simpa using k1,k2,fun x hx=>NE x (m5 x (k3 x hx))⟩) hm1
 cases Bg with
 |cons _ _ _ _ b3 b2 t3 t2 u3 u2 WO qU=>
 have KI:∃v,(results fn a'.tmps).run P w'=.ok v w'/\zS w' v (JO es) b2 t2 u2:=by
  have hrun:(results fn a'.tmps).run P w'=.ok (if h:vs.toArray.size=1 then vs.toArray[0]else .tuple vs.toArray) w':=by
   rw[results_eq,mU];simp[m1]
  cases qU with
  |nil=>exact⟨.tuple #[],by simpa using hrun,.gL [] [] [] [] [] .nil⟩
  |cons v vs d es b1 b2 t1 t2 u1 u2 hv qU=>
   cases qU with
   |nil=>
    simp only[cz];exact⟨v,by simpa using hrun,.v hv⟩
   |cons v2 vs d2 es b3 b4 t3 t4 u3 u4 Mp qU=>exact⟨.tuple (v::v2::vs).toArray,by simpa using hrun,.gL _ _ _ _ _ (.cons _ _ _ _ _ _ _ _ _ _ hv (.cons _ _ _ _ _ _ _ _ _ _ Mp qU))⟩
 obtain⟨v,Ru,NB⟩:=KI;have Ep:∀b∈t3++t2,Wr w' b:=by
  intro b hb;rcases aR.1 hb with hb|hb
  ·exact Lg WO b hb
  ·exact Lf NB b hb
 refine⟨Az,hs0.defers,hs0.stays,v,g,cs',T,b2,t2,u2,b3,t3,u3,Ru,e0,hg,a5G,NB,WO.Vr,fun b hb=>⟨fun hlt hx=>?_,fun e=>?_,fun ht=>?_⟩,A6.nd,fun b hb=>?_,fun b hb=>?_⟩
 ·have:=A6.zero b hb;rw[<-(hs1.old b hlt hx).1];exact this
 ·have:=A6.zero b hb;subst e;omega
 ·obtain⟨⟨m,_,hΘ⟩,_⟩:=A6.top b ht;have:=A6.zero b hb;omega
 ·rcases A6.mem b hb with h|⟨m,hm,hρ⟩
  ·obtain⟨⟨m,hm,hΘ⟩,_⟩:=A6.top b h;refine⟨.inl (hs1.mine b (by omega)),fun e=>?_,Ep b h⟩;subst e;rw[Oi]at hΘ;have:m=0:=by omega
   subst this;exact h0q hm
  ·have:=hu1.free b (by omega);refine⟨this.2.1,fun e=>?_,this.2.2⟩;have h0:=this.1;subst e;omega
 ·obtain⟨⟨m,hm,hΘ⟩,h2⟩:=A6.top b hb;exact⟨h2,hs1.mine b (by omega)⟩
theorem Bz.len{vs:bY}{ds:aL}{bs:aW}(h:Bz w κ vs ds bs):vs.length=ds.length:=by
 induction h with
 |nil=>rfl
 |cons v vs d ds b1 b2 h1 _ ih=>simp[ih]
def Vo(Γ:uB)(u:Value)(rows:List aL):Prop:=
 (∀b,¬Γ.U b)/\∃c bs,Et u=some c/\Rd Γ.W0 c (.sl rows) bs/\∀b∈bs,b<Γ.W0.heap.size/\¬Γ.X b/\Γ.Θ0 b=0
theorem hY.of{f:FuncId}{fn:Func}{c:Code}{cells cells' yL ds Ke:aL}{obs:bQ}{d:D}(hf:P.funcs[f]?=some fn)(hb:fn.body=some c)(hn:(fn.name== "runtime.NumGoroutine")=false)
 (hI:yQ 1 (.agg cells::ds)=(.agg yL::Ke,obs)) (hl:Ke.length+1<=fn.ntmps)
 (h:(∀x∈(D.agg cells::ds).map D.VT,gq x)->∀(v0:Value) (Γ:uB),Γ.nt=fn.ntmps->(obs=[]->yL.length=3->∀rows,yL[0]?=some (.sl rows)->Vo Γ v0 rows)->AW P Γ c (Vp P fn v0 cells' d) ⟨wC 0 (.ptr 0 0::Ke),.AA yL v0::obs⟩):hY P f cells cells' ds d:=by
 refine⟨⟨fn,hf,by simp[hb],hn⟩,?_⟩;intro w Θ g cs T args bs ts us hvs hg hargs hz hown h1 hg1 hts hnd sA;have Rv:=hargs.shown;obtain⟨L,q1,q2,rfl,rfl,q5⟩:=hargs.inst 1;rw[hI]at q1 q5;have q1:L.map Fs.ob=obs:=q1;refine calls_of_wp hf hb ?_;let v0:Value:=.pointer (some ⟨g,0,none⟩)
 let u0:Value:=if cs.size=3 then .tuple ⟨[v0,cs.toList.headD undef]⟩else v0
 let κ0:Nat->Option Value:=fun i=>if i=0 then some v0 else(L[i-1]?).map Fs.v
 let Θ0:Nat->Nat:=fun b=>if b=g then 2 else match Ky L b with|some i=>i+3|none=>Θ b
 let ρ0:Nat->Nat:=fun b=>match tH L b with|some i=>i+2|none=>0
 let Γ:uB:=⟨w,Θ0,fun b=>b=g\/b∈L.flatMap Fs.ts,fn.ntmps,fun b=>b∈L.flatMap Fs.bl,hvs⟩
 have hgl:g<w.heap.size:=(bD.1 hg).1;have hk0:κ0 0=some v0:=rfl;have hkS:∀i x,L[i]?=some x->κ0 (i+1)=some x.v:=fun i x hx=>by simp[κ0,hx]
 have hnm:Names κ0 1 L:=fun i x hx=>by rw[Nat.add_comm];exact hkS i x hx
 have hrd:=q5 κ0 hnm;have hlen:=hrd.len;have Nj:∀(i:Nat) x b,L[i]?=some x->x.v.ownBlock=some b->b∈L.flatMap Fs.ts:=fun i x b hx hb'=>cA.2 ⟨x,aE hx,by simp[Fs.ts,hb']⟩
 have S0:∀(i:Nat) x b,L[i]?=some x->x.v.ownBlock=some b->Θ0 b=i+3:=by
  intro i x b hx hb';have:=(hts b (Nj i x b hx hb')).2.2;simp only[Θ0,JZ hnd hx hb'];rw[b9 this]
 have UW:∀b,Θ b=0->Θ0 b=0:=by
  intro b h0;have e1:b≠g:=fun e=>by subst e;omega
  have e2:b∉L.flatMap Fs.ts:=fun e=>by have:=(hts b e).1;omega
  simp only[Θ0,xK e2];rw[b9 e1,h0]
 have Wi:∀(i:Nat) x b,L[i]?=some x->b∈x.ns->Θ0 b=0:=fun i x b hx hb'=>UW b ((sA b (sC hx hb')).1 (Ca hnd hx hb'))
 have A8:∀b,Θ0 b≠Θ b->b=g\/b∈L.flatMap Fs.ts:=by
  intro b hne;by_cases e:b=g
  ·exact .inl e
  ·refine .inr (dQ fun ht=>hne ?_);simp only[Θ0,xK ht];rw[b9 e]
 have Rn:∀(j:Nat) o,obs[j]?=some o->∃x,L[j]?=some x/\o=x.ob:=by
  intro j o hj;rw[<-q1,bt]at hj;cases hx:L[j]? with
  |none=>simp[hx]at hj
  |some x=>simp[hx]at hj;exact⟨x,rfl,hj.symm⟩
 have Wj:obs.length=L.length:=by rw[<-q1];simp
 have WO:∃b',fK w κ0 cs.toList yL b'/\∀b∈b',Θ0 b=0:=by
  obtain⟨v,b',k1,k2,k3⟩:=hrd.at (i:=0) (d:=.agg yL) rfl;simp at k1;subst k1;exact⟨b',k2.Vr,fun b hb'=>UW b (hz b (k3 b hb'))⟩
 have hpt:Tj u0=v0:=by simp only[u0];split<;>rfl
 have hkp:∀c,Et u0=some c->cs.size=3/\cs[0]?=some c:=by
  intro c hc;simp only[u0]at hc;split at hc
  ·rename_i h3;refine⟨h3,?_⟩;simp only[Et,ah]at hc;have VP:cs.toList.length=3:=by simpa using h3
   rw[<-jl];cases hcl:cs.toList with
   |nil=>rw[hcl]at VP;simp at VP
   |cons x xs=>rw[hcl]at hc;simp only[List.headD_cons]at hc;subst hc;rfl
  ·cases hc
 have a5J:cs.size=3->∃c,Et u0=some c/\cs[0]?=some c:=by
  intro h3;have:Et u0=some (cs.toList.headD undef):=by simp only[u0];rw[bN h3];rfl
  exact⟨_,this,(hkp _ this).2⟩
 have hs:dl Γ ⟨wC 0 (.ptr 0 0::Ke),.AA yL u0::obs⟩ κ0 Θ0 {tmps:=(v0::args).toArray++Array.replicate (fn.ntmps-(v0::args).toArray.size) undef,defers:=[]} w:=by
  refine⟨rfl,?_,fun i hi=>?_,?_,?_,?_,?_,?_,?_,⟨rfl,rfl,rfl,bO _,fun _ _ _=>rfl⟩,⟨ρ0,?_,?_,?_⟩⟩
  ·simp only[aP]at hlen;simp[Γ];omega
  ·simp only[aP]at hi;simp only[κ0];rw[b9 (by omega),cN (by omega)];rfl
  ·intro id u hu;simp only[κ0]at hu;split at hu
   ·cases hu;rfl
   ·cases hx:L[id-1]? with
    |none=>simp[hx]at hu
    |some x=>simp[hx]at hu;subst hu;exact(q2 x (aE hx)).2.2.2.2
  ·intro t;rw[Ey];simp only[v8,xW,w9];have TP:∀v,(v0::args)[t]?=some v->((v0::args).toArray++Array.replicate (fn.ntmps-(v0::args).toArray.size) undef).getD t undef=v:=by
    intro v hv;have hlt:=(aF.1 hv).1;rw[cG,eY (by simpa using hlt)];simp only[iD,hv,uA]
   cases t with
   |zero=>
    refine⟨[],?_,by simp⟩;rw[TP v0 rfl];exact .v (.cell (.ptr 0 0 g hk0))
   |succ s=>
    rw[fq];cases hd:Ke[s]? with
    |none=>exact⟨[],.of (.any _),by simp⟩
    |some x=>
     obtain⟨v,b',k1,k2,k3⟩:=hrd.at (i:=s+1) (d:=x) (by simpa using hd);rw[TP v (by simpa using k1)];exact⟨b',.v k2,fun b hb'=>UW b (hz b (k3 b hb'))⟩
  ·intro j o hj;cases j with
   |zero=>
    simp at hj;subst hj;obtain⟨b',k1,k2⟩:=WO;refine⟨⟨by rw[hpt];exact hk0,fun c hc g2 Z1 T2 hk2 TO=>?_⟩,g,cs,T,hk0,hg,by simp[Θ0],b',k1,k2⟩;have e3:Value.pointer (some ⟨g,0,none⟩)=.pointer (some ⟨g2,0,none⟩):=oF (hk0.symm.trans hk2);cases e3;rw[hg]at TO;cases TO;exact hkp c hc
   |succ j=>
    obtain⟨x,hx,rfl⟩:=Rn j o (by simpa using hj);obtain⟨p1,p2,p3,p4,_⟩:=q2 x (aE hx);exact⟨p1,p2,x.v,x.cs,x.ns,hkS j x hx,p3,p4.rd,fun b hb'=>S0 j x b hx hb',fun b hb'=>Wi j x b hx hb'⟩
  ·intro b hb';by_cases e:Θ0 b=Θ b
   ·exact hown b (by rw[<-e];exact hb')
   ·rcases A8 b e with rfl|ht
    ·exact hgl
    ·exact hown b (by have:=(hts b ht).1;omega)
  ·intro b hlt hx;refine⟨rfl,?_⟩;have e:Θ0 b=Θ b:=dQ fun e=>hx (A8 b e)
   rw[e];exact h1 b
  ·intro b hb';refine .inr (A8 b fun e=>?_);have:=h1 b;omega
  ·intro b hb';cases VO:tH L b with
   |none=>simp[ρ0,VO]at hb'
   |some i=>
    obtain⟨x,hx,B7⟩:=uC VO;exact⟨Wi i x b hx B7,.inr (sC hx B7),(sA b (sC hx B7)).2⟩
  ·intro id e sz rows hj;cases id with
   |zero=>simp at hj
   |succ j=>
    obtain⟨x,hx,Rp⟩:=Rn j _ (by simpa using hj);simp only[Fs.ob,Ob.row.injEq,qz]at Rp;obtain⟨rfl,rfl,rfl⟩:=Rp;obtain⟨p1,p2,p3,p4,_⟩:=q2 x (aE hx);exact⟨x.v,x.cs,x.ns,hkS j x hx,p3,p4,JJ hnd hx,fun b hb'=>by simp[ρ0,C2 hnd hx hb']⟩
  ·intro id o hj;cases id with
   |zero=>simp at hj;subst hj;trivial
   |succ j=>
    obtain⟨x,hx,Rp⟩:=Rn j _ (by simpa using hj);subst Rp;exact Jp.wR rfl
 have hold:obs=[]->yL.length=3->∀rows,yL[0]?=some (.sl rows)->Vo Γ u0 rows:=by
  intro ho VP rows hr0;have hL:L=[]:=cL (by rw[<-Wj,ho];rfl);refine⟨fun b hb'=>by simp[Γ,hL]at hb',?_⟩;obtain⟨b',k1,k2⟩:=WO;obtain⟨v,b1,p1,_,p3,p4⟩:=k1.at hr0;obtain⟨c,q6,q7⟩:=a5J (by have:=k1.length;rw[VP]at this;simpa using this);have:v=c:=by
   rw[jl,q7]at p1;cases p1;rfl
  subst this;have a5S:Rd w v (.sl rows) b1:=by cases p3 with|pure h=>exact h
  refine⟨v,b1,q6,a5S,fun b hb'=>⟨a5S.lt b hb',fun hx=>?_,k2 b (p4 b hb')⟩⟩;have h0:=k2 b (p4 b hb');rcases hx with rfl|hx
  ·simp[Θ0]at h0
  ·simp[hL]at hx
 refine wp_mono (h Rv u0 Γ rfl hold _ _ _ _ hs) ?_;rintro x a' w' ⟨Mr,κ1,Θ1,hs0,Wn⟩;obtain⟨Az,hdf,hst,v,g',cs',T',b2,t2,u2,b3,t3,u3,hrun,e0,hg',hkf,hres,a8F,a8A,Dc,vo,ht'⟩:=Vp.out hs0 Wn;obtain rfl:g=g':=by
  have e1:Value.pointer (some ⟨g,0,none⟩)=.pointer (some ⟨g',0,none⟩):=hpt.symm.trans e0;cases e1;rfl
 have post:a'.defers=[]/\∃v',(results fn a'.tmps).run P w'=.ok v' w'/\∃v cs' T' b2 t2 u2 b3 t3 u3,Ending.returned v'=.returned v/\w'.os=w.os/\w'.tape=w.tape/\w'.output=w.output/\w.heap.size<=w'.heap.size/\
  (∀b,b<w.heap.size->b≠g->b∉L.flatMap Fs.ts->w'.heap[b]?=w.heap[b]?)/\w'.heap[g]?=some (.cells cs' T' (0,0))/\(cs.size=3->cs'.size=3/\cs'[0]?=cs[0]?)/\
  zS w' v d b2 t2 u2/\tV w' cs'.toList cells' b3 t3 u3/\(∀b∈b3++b2,(b<w.heap.size->Θ b=0\/b∈L.flatMap Fs.ts)/\b≠g/\b∉t3++t2)/\(u3++u2).Nodup/\
  (∀b∈u3++u2,(w.heap.size<=b\/b∈L.flatMap Fs.bl)/\b≠g/\Wr w' b)/\∀b∈t3++t2,b∈u3++u2/\(w.heap.size<=b\/b∈L.flatMap Fs.ts):=by
  refine⟨hdf,v,hrun,v,cs',T',b2,t2,u2,b3,t3,u3,rfl,hst.os,hst.tape,hst.output,hst.size,fun b hlt hne hnt=>hst.block b hlt (fun hx=>hx.elim hne hnt),hg',(fun h3=>by obtain⟨c,q6,q7⟩:=a5J h3;obtain⟨q8,q9⟩:=hkf c q6;exact⟨q8,q9.trans q7.symm⟩),hres,a8F,fun b hb'=>?_,Dc,fun b hb'=>?_,fun b hb'=>?_⟩
  ·obtain⟨k1,k2,k3⟩:=a8A b hb';refine⟨fun hlt=>?_,k2,k3⟩;by_cases ht:b∈L.flatMap Fs.ts
   ·exact .inr ht
   ·refine .inl ?_;have:=k1 hlt (fun hx=>hx.elim k2 ht);have e:Θ0 b=Θ b:=dQ fun e=>(A8 b e).elim k2 ht
    rw[<-e];exact this
  ·obtain⟨k1,k2,k3⟩:=vo b hb';refine⟨?_,k2,k3⟩;rcases k1 with(k1|k1|k1)|k1
   ·exact .inl k1
   ·exact absurd k1 k2
   ·exact .inr (Dt k1)
   ·exact .inr k1
  ·obtain⟨k1,k2⟩:=ht' b hb';refine⟨k1,?_⟩;have:=(vo b k1).2.1;rcases k2 with k2|k2|k2
   ·exact .inl k2
   ·exact absurd k2 this
   ·exact .inr k2
 rcases Az with rfl|rfl
 ·exact post
 ·exact post
theorem Ve{o:Oper}{f t id:Nat}{xs:Array Operand}{ty:Array TypeId}{x0:Operand}{xr:List Operand}{ob:Ob}{Js cells cells' ds:aL}{d:D}{nz:List (List (Option (Nat×Nat)))}{ms qs:aW}
 (hop:o.op=.call {callee:=.value (.func f),args:=xs,argTypes:=ty}) (hd:o.dst=some t) (hg:o.guard=none) (ht:t<Γ.nt)
 (hxs:xs.toList=x0::xr) (hx0:st.ev x0=.ptr id 0) (hH:st.H[id]?=some ob) (xy:ob.TB=some Js)
 (Az:AD st.H nz (.agg Js::xr.map st.ev)=some (.agg cells::ds,ms,qs)) (MB:ms.Nodup) (KK:qs.Nodup) (ng:hY P f cells cells' ds d)
 (h:AO P Γ all rest Q ⟨(t,(oV (st.H.length+(nh st.H.length cells').2.length) d).1)::st.σ,
  (kill st.H (ms++qs)).set id (ob.re (nh st.H.length cells').1)++((nh st.H.length cells').2++(oV (st.H.length+(nh st.H.length cells').2.length) d).2)⟩):AO P Γ all (o::rest) Q st:=by
 intro κ Θ a w hs;have AT:=vh Az;obtain⟨ρ,hu⟩:=hs.rV;obtain⟨Θ1,ρ1,hs1,hu1,hm1,NE,UU⟩:=dl.FM ms hs hu MB (fun m hm=>by
  obtain⟨e,sz,rows,hH⟩:=AT.1 m hm;exact⟨_,e,sz,rows,hH,rfl⟩)
 have UT:id<st.H.length:=(aF.1 hH).1;have hnr:∀k e sz rows,st.H[id]?≠some (.row k e sz rows):=fun k e sz rows e1=>by rw[hH]at e1;cases e1;cases xy
 have a8S:id∉ms:=fun hm=>by obtain⟨e',sz',dO,Db⟩:=AT.1 id hm;exact hnr _ _ _ _ Db
 have a8T:id∉qs:=fun hm=>by obtain⟨e',sz',dO,Db⟩:=AT.2 id hm;exact hnr _ _ _ _ Db
 have Mo:(kill st.H ms)[id]?=some ob:=by rw[gH a8S];exact hH
 have a2r:=hs1.ob id _ Mo;obtain⟨g,cs,T,hk0,UR,Oi,bb,hbb,hbz⟩:=a2r.cs xy;have hgl:g<w.heap.size:=(bD.1 UR).1;have hq:∀m e sz rows,st.H[m]?=some (.row .uq e sz rows)->∃v cs ns,κ m=some v/\0<sz/\(∀r∈rows,r.length=sz)/\w.ownsRow 0 e sz v rows.length cs/\wX w (tr e) 0 cs rows.flatten ns/\ns.Nodup/\(∀b∈ns,ρ1 b=m+1)/\∀g,v.ownBlock=some g->Θ1 g=m+2:=by
  intro m e sz rows hH;have hnm:m∉ms:=fun hm=>by
   obtain⟨e',sz',dO,Db⟩:=AT.1 m hm;rw[hH]at Db;cases Db
  have Mo:(kill st.H ms)[m]?=some (.row .uq e sz rows):=by rw[gH hnm];exact hH
  obtain⟨v,cs,ns,r1,r2,r3,r4,r5⟩:=hu1.rows m e sz rows Mo;obtain⟨p1,p2,v2,_,_,p3,_,_,p4,_⟩:=hs1.ob m _ Mo;rw[r1]at p3;cases p3;exact⟨v,cs,ns,r1,p1,p2,r2,r3,r4,r5,p4⟩
 obtain⟨bs,ts,us,Bg,A6⟩:=zL (w:=w) (vs:=.agg cs::xr.map a.eval) (fun b hb=>(hu1.free b hb).1) hq hs.oN Az KK (by simp) (fun i d hd=>by
  cases i with
  |zero=>
   simp at hd;subst hd;have:=Le.agg _ _ _ hbb;exact⟨_,bb,rfl,.v (by simpa using this),hbz⟩
  |succ i=>
   rw[fq,bt]at hd;cases hx:xr[i]? with
   |none=>rw[hx]at hd;cases hd
   |some x=>
    rw[hx]at hd;simp only[cU,ah]at hd;subst hd;obtain⟨b,r,z⟩:=hs.ev x;exact⟨a.eval x,b,by simp[hx],r,fun y hy=>NE y (z y hy)⟩) hm1
 let Θc:Nat->Nat:=fun b=>if Θ1 b=0 then 0 else 1
 have A8:∀b,Θc b=0↔Θ1 b=0:=fun b=>by simp only[Θc];split<;>simp_all
 have J3:∀b∈ts,∃m∈qs,Θ1 b=m+2:=fun b hb=>(A6.top b hb).1
 have a8w:∀b∈ts,b≠g:=fun b hb e=>by
  obtain⟨m,hm,hΘ⟩:=J3 b hb;subst e;rw[Oi]at hΘ;exact a8T (by
   have:id=m:=by omega
   rw[this];exact hm)
 have Of:Mx w fun b=>b=g\/b∈ts:=by
  obtain⟨B,v1,v2⟩:=hs1.vsb;refine⟨B,v1,fun b hB=>⟨(v2 b hB).2.1,fun hb'=>?_⟩⟩;have hm:xX Γ b:=by
   rcases hb' with rfl|hb'
   ·exact hs1.mine b (by omega)
   ·obtain⟨m,hm,hΘ⟩:=J3 b hb';exact hs1.mine b (by omega)
  rcases hm with q|q
  ·have:=(v2 b hB).1;omega
  ·exact(v2 b hB).2.2 q
 have hwr:∀b∈us,Wr w b:=by
  intro b hb;rcases A6.mem b hb with h|⟨m,hm,hρ⟩
  ·exact Jn Bg b h
  ·exact(hu1.free b (by omega)).2.2
 have hc:=ng.2 w Θc g cs T (xr.map a.eval) bs ts us Of UR Bg (fun b hb=>(A8 b).2 (A6.zero b hb)) (fun b hb=>hs1.own b (fun e=>hb ((A8 b).2 e))) (fun b=>by simp only[Θc];split<;>omega)
  (by simp only[Θc];rw[b9 (by omega)]) (fun b hb=>by
   obtain⟨m,hm,hΘ⟩:=J3 b hb;exact⟨by simp only[Θc];rw[b9 (by omega)],(A6.top b hb).2,a8w b hb⟩) A6.nd (fun b hb=>⟨fun hnt=>by
   rcases A6.mem b hb with h|⟨m,hm,hρ⟩
   ·exact absurd h hnt
   ·exact(A8 b).2 (hu1.free b (by omega)).1,hwr b hb⟩)
 refine wpList_plain hg fun K hK=>?_
 unfold Oper.wp;rw[wT hop ng.1,Oper.upon_enter];have e0:xs.map a.eval=(.pointer (some ⟨g,0,none⟩)::xr.map a.eval).toArray:=by
  obtain⟨b0,r0,_⟩:=hs.ev x0;rw[hx0]at r0;obtain⟨g',hk',hv⟩:=r0.zD;rw[hk0]at hk';cases hk';rw[<-qv,gw,hxs];simp[hv]
 rw[e0];refine hc.mono ?_;rintro x w' ⟨v,cs',T',b2,t2,u2,b3,t3,u3,rfl,k1,k2,k3,k4,S5,kg,a1M,a3S,kcs,kb,Z7,ku,kt⟩;show K (a.put o.dst v) w';rw[hd];let N:=st.H.length
 have hs2:=hs1.forget (id::qs);have hNl:(kill st.H ms).length=N:=fX _ _;simp only[hNl]at hs2;let Θ2:Nat->Nat:=fun b=>if(id::qs).any (fun m=>Θ1 b==m+2)then N+2 else Θ1 b
 have hs2:dl Γ ⟨st.σ,kill (kill st.H ms) (id::qs)⟩ κ Θ2 a w:=hs2;have MC:∀b,Θ1 b=0->Θ2 b=0:=fun b hb=>by
  simp only[Θ2];rw[b9,hb];intro h;obtain⟨m,_,hm⟩:=cy.1 h;simp[hb]at hm
 have Er:∀b,b=g\/b∈ts->Θ2 b=N+2:=by
  intro b hb;simp only[Θ2];rw[bN];rcases hb with rfl|hb
  ·exact cy.2 ⟨id,by simp,by simp[Oi]⟩
  ·obtain⟨m,hm,hΘ⟩:=J3 b hb;exact cy.2 ⟨m,by simp[hm],by simp[hΘ]⟩
 have Z5:zT Γ (kill (kill st.H ms) (id::qs)) κ Θ2 w ρ1:=by
  refine⟨fun b hb=>?_,fun j e sz rows hj=>?_,fun j o hj=>?_⟩
  ·obtain⟨q1,q2⟩:=hu1.free b hb;exact⟨MC b q1,q2⟩
  ·rcases oW hj with h|⟨_,h⟩
   ·cases h
   ·exact hu1.rows j e sz rows h
  ·rcases oW hj with h|⟨_,h⟩
   ·subst h;trivial
   ·exact hu1.more j o h
 obtain⟨Lb,a1,a2,a3,a4,a5⟩:=kcs.inst N;obtain⟨Ld,c1,c2,c3,c4,c5⟩:=a3S.inst (N+(nh N cells').2.length);have a81:Lb.length=(nh N cells').2.length:=by rw[<-a1];simp
 let L:=Lb++Ld
 have VO:u3++u2=L.flatMap Fs.bl:=by simp[L,a3,c3]
 have a8v:t3++t2=L.flatMap Fs.ts:=by simp[L,a4,c4]
 rw[VO]at Z7 ku kt;rw[a8v]at kt kb;have Rg:∀x∈L,x.ok w':=fun x hx=>by
  rcases aR.1 hx with hx|hx
  ·exact a2 x hx
  ·exact c2 x hx
 let κ':Nat->Option Value:=fun j=>if j<N then κ j else(L[j-N]?).map Fs.v
 let Θ':Nat->Nat:=fun b=>if b=g then id+2 else match Ky L b with|some i=>N+i+2|none=>if Θ2 b=N+2 then 0 else Θ2 b
 let ρ':Nat->Nat:=fun b=>match tH L b with|some i=>N+i+1|none=>ρ1 b
 have hgt:g∉L.flatMap Fs.bl:=fun h=>(ku g h).2.1 rfl
 have a5b:Θ' g=id+2:=by simp[Θ']
 have Oh:∀(i:Nat) x b,L[i]?=some x->x.v.ownBlock=some b->Θ' b=N+i+2:=by
  intro i x b hx hb;have hb':b∈L.flatMap Fs.ts:=cA.2 ⟨x,aE hx,by simp[Fs.ts,hb]⟩;have hne:b≠g:=fun e=>hgt (e▸Dt hb')
  simp only[Θ',JZ Z7 hx hb];rw[b9 hne]
 have A7:∀b,b≠g->b∉L.flatMap Fs.ts->Θ' b=if Θ2 b=N+2 then 0 else Θ2 b:=by
  intro b h1 h2;simp only[Θ',xK h2];rw[b9 h1]
 have hzero:∀b,w.heap.size<=b->Θ2 b=0:=fun b hge=>by
  cases h:Θ2 b with
  |zero=>rfl
  |succ m=>exact absurd (hs2.own b (by omega)) (by omega)
 have Zr:∀b∈b3++b2,Θ' b=0:=by
  intro b hb;obtain⟨p1,p2,p3⟩:=kb b hb;rw[A7 b p2 p3];by_cases hlt:b<w.heap.size
  ·rcases p1 hlt with h|h
   ·rw[MC b ((A8 b).1 h)];simp
   ·rw[bN (Er b (.inr h))]
  ·rw[hzero b (by omega)];simp
 have Oc:∀(i:Nat) x b,L[i]?=some x->b∈x.ns->Θ' b=0:=by
  intro i x b hx hb;have hmem:=sC hx hb;rw[A7 b (ku b hmem).2.1 (Ca Z7 hx hb)];rcases(ku b hmem).1 with h|h
  ·rw[hzero b h];simp
  ·rcases A6.mem b h with h|⟨m,hm,hρ⟩
   ·rw[bN (Er b (.inr h))]
   ·rw[MC b (hu1.free b (by omega)).1];simp
 have hn:∀(j:Nat) v,κ j=some v->κ' j=some v:=by
  intro j v hj;have:j<N:=dQ fun h=>by rw[hs.pH j (by omega)]at hj;cases hj
  simp only[κ'];rw[bN this];exact hj
 have vN:Names κ' N L:=by
  intro i x hx;simp only[κ'];rw[b9 (by omega),dP,hx];rfl
 have Wf:∀b∈L.flatMap Fs.ts,xX Γ b:=by
  intro b hb;rcases(kt b hb).2 with h|h
  ·exact .inl (dX hs.base h)
  ·obtain⟨m,hm,hΘ⟩:=J3 b h;exact hs1.mine b (by omega)
 have k:iJ w w' Θ2 Θ' (N+2):=by
  refine⟨by omega,k1,k2,k3,k4,fun b hlt hne=>S5 b hlt (fun e=>hne (Er b (.inl e))) (fun e=>hne (Er b (.inr e))),fun b hlt hne=>?_,fun b hb=>?_⟩
  ·rw[A7 b (fun e=>hne (Er b (.inl e))) (fun e=>?_),b9 hne];rcases(kt b e).2 with h|h
   ·omega
   ·exact hne (Er b (.inr h))
  ·by_cases e:b=g
   ·subst e;omega
   ·by_cases ht':b∈L.flatMap Fs.ts
    ·obtain⟨x,T,hx⟩:=(ku b (Dt ht')).2.2;exact(bD.1 hx).1
    ·rw[A7 b e ht']at hb;split at hb
     ·exact absurd rfl hb
     ·exact cu (hs2.own b hb) k4
 have hm:∀b,2<=Θ' b->xX Γ b:=by
  intro b hb;by_cases e:b=g
  ·subst e;exact hs1.mine b (by omega)
  ·by_cases ht':b∈L.flatMap Fs.ts
   ·exact Wf b ht'
   ·rw[A7 b e ht']at hb;split at hb
    ·omega
    ·exact hs2.mine b hb
 have sA:=hs2.nk k hn Z5;have Hl:((kill st.H (ms++qs)).set id (ob.re (nh N cells').1)).length=N:=by simp[fX,N]
 have a62:∀(a_ bs:aW) (H:bQ),kill H (a_++bs)=kill (kill H a_) bs:=by
  intro a_
  induction a_ with
  |nil=>intro bs H;rfl
  |cons x a_ ih=>intro bs H;simp only[qw,kill,ih]
 have a8d:(nh N cells').2++(oV (N+(nh N cells').2.length) d).2=L.map Fs.ob:=by simp[L,a1,c1]
 have key:∀(j:Nat) y,((kill st.H (ms++qs)).set id (ob.re (nh N cells').1)++L.map Fs.ob)[j]?=some y->(∃i x,j=N+i/\L[i]?=some x/\y=x.ob)\/(j=id/\y=ob.re (nh N cells').1)\/(j≠id/\j<N/\(y=.gone\/(kill (kill st.H ms) (id::qs))[j]?=some y)):=by
  intro j y hj;by_cases hlt:j<N
  ·rw[ar (by rw[Hl];exact hlt)]at hj;rcases wU j y hj with⟨rfl,rfl⟩|⟨h1,h2⟩
   ·exact .inr (.inl ⟨rfl,rfl⟩)
   ·refine .inr (.inr ⟨h1,hlt,?_⟩);rcases oW h2 with h|⟨h3,h4⟩
    ·exact .inl h
    ·refine .inr ?_;simp only[aR,Ds]at h3;rw[gH (by simp[h1,h3.2]),gH h3.1];exact h4
  ·rw[b8 (by omega),Hl,bt]at hj;cases hx:L[j-N]? with
   |none=>simp[hx]at hj
   |some x=>simp[hx]at hj;exact .inl ⟨j-N,x,by omega,hx,hj.symm⟩
 have hs':dl Γ ⟨st.σ,(kill st.H (ms++qs)).set id (ob.re (nh N cells').1)++L.map Fs.ob⟩ κ' Θ' a w':=by
  have Ki:∀(j:Nat) y,(kill (kill st.H ms) (id::qs))[j]?=some y->y≠ .gone->∀b,ρ1 b=j+1->ρ' b=j+1:=by
   intro j y hy hyg b a35;have hjk:j∉id::qs:=by
    rcases oW hy with h|h
    ·exact absurd h hyg
    ·exact h.1
   have hnb:tH L b=none:=by
    cases hi:tH L b with
    |none=>rfl
    |some i=>
     exfalso;obtain⟨x,hx,B7⟩:=uC hi;obtain⟨z0,_,a7p,T'',a32⟩:=hu1.free b (by omega);rcases(ku b (sC hx B7)).1 with h|h
     ·have:=(bD.1 a32).1;omega
     ·rcases A6.mem b h with h|⟨m,hm',hρ⟩
      ·obtain⟨m,hm',hΘ⟩:=J3 b h;omega
      ·exact hjk (by
        have:j=m:=by omega
        rw[this];simp[hm'])
   simp only[ρ',hnb];exact a35
  refine hs2.step k hm hn ?_ ?_ ?_ ⟨ρ',?_,?_,?_⟩
  ·intro i hi;simp only[av,Hl,ax]at hi;simp only[κ'];rw[b9 (by omega),cN (by omega)];rfl
  ·intro i u vo;simp only[κ']at vo;split at vo
   ·exact hs.oN i u vo
   ·cases hx:L[i-N]? with
    |none=>simp[hx]at vo
    |some x=>simp[hx]at vo;subst vo;exact(Rg x (aE hx)).2.2.2.2
  ·intro j y hj;rcases key j y hj with⟨i,x,rfl,hx,rfl⟩|⟨rfl,rfl⟩|⟨hji,hjl,hy|hy⟩
   ·obtain⟨q1,q2,q3,q4,_⟩:=Rg x (aE hx);exact .inr (.inr ⟨q1,q2,x.v,x.cs,x.ns,vN i x hx,q3,q4.rd,fun g' hg'=>Oh i x g' hx hg',fun b hb'=>Oc i x b hx hb'⟩)
   ·refine .inr (.inr (wA.a6L xy a2r (hn _) (fun c0 u0 e0' c hc g2 Z1 T2 hk2 TO=>by
     subst e0';rw[hn _ _ hk0]at hk2;cases hk2;rw[kg]at TO;cases TO;obtain⟨z1,z2⟩:=a2r.1.2 c hc g cs T hk0 UR;exact⟨(a1M z1).1,(a1M z1).2.trans z2⟩) ⟨g,cs',T',hn _ _ hk0,kg,a5b,b3,a5 κ' vN.left,fun b hb=>Zr b (by simp[hb])⟩))
   ·exact .inl hy
   ·exact .inr (.inl ⟨by omega,hy⟩)
  ·intro b hb;cases N8:tH L b with
   |some i=>
    obtain⟨x,hx,B7⟩:=uC N8;have hmem:=sC hx B7;refine⟨Oc i x b hx B7,?_,(ku b hmem).2.2⟩;rcases(ku b hmem).1 with h|h
    ·exact .inl (.inl (dX hs.base h))
    ·rcases A6.mem b h with h|⟨m,hm',hρ⟩
     ·obtain⟨m,hm',hΘ⟩:=J3 b h;exact .inl (hs1.mine b (by omega))
     ·exact(hu1.free b (by omega)).2.1
   |none=>
    simp only[ρ',N8]at hb;exact sA.1 b hb
  ·intro j e sz rows hj;rcases key j _ hj with⟨i,x,rfl,hx,hy⟩|⟨rfl,hy⟩|⟨hji,hjl,hy|hy⟩
   ·simp only[Fs.ob,Ob.row.injEq,qz]at hy;obtain⟨rfl,rfl,rfl⟩:=hy;obtain⟨q1,q2,q3,q4,_⟩:=Rg x (aE hx);exact⟨x.v,x.cs,x.ns,vN i x hx,q3,q4,JJ Z7 hx,fun b hb'=>by simp only[ρ',C2 Z7 hx hb']⟩
   ·cases ob<;>simp[Ob.re]at hy
   ·cases hy
   ·obtain⟨v',c',bs',r1,r2,r3,r4,r5⟩:=sA.2.1 j e sz rows (by omega) hy;exact⟨v',c',bs',r1,r2,r3,r4,fun b hb'=>Ki j _ hy (by simp) b (r5 b hb')⟩
  ·intro j y hj;rcases key j _ hj with⟨i,x,rfl,hx,hy⟩|⟨rfl,hy⟩|⟨hji,hjl,hy|hy⟩
   ·subst hy;exact Jp.wR rfl
   ·subst hy;cases ob<;>exact Jp.wR rfl
   ·subst hy;trivial
   ·by_cases hg:y=.gone
    ·subst hg;trivial
    ·exact(sA.2.2 j y (by omega) hy).re (Ki j y hy hg)
 rw[a8d]at h;refine hK _ _ (h _ _ _ _ (hs'.set (t:=t) ht (c5 κ' ?_) fun b hb=>Zr b (by simp[hb])));rw[<-a81];exact vN.right
def I4(P:Program)(f:FuncId)(ds cells:aL):Prop:=
 (∃fn,P.funcs[f]?=some fn/\fn.body.isSome=true/\(fn.name== "runtime.NumGoroutine")=false)/\
 ∀(w:World) (Θ:Nat->Nat) (args:bY) (bs:aW),Mx w (fun _=>False)->Sr w args ds bs->(∀b∈bs,Θ b=0)->(∀b,Θ b≠0->b<w.heap.size)->(∀b,Θ b<=1)->
  Calls P f args.toArray w (fun e w'=>∃g cs T bs',e=.returned (.pointer (some ⟨g,0,none⟩))/\Below w.heap.size w w'/\w.heap.size<=g/\w'.heap[g]?=some (.cells cs T (0,0))/\mm w' cs.toList cells bs'/\
   ∀b∈bs',(b<w.heap.size->Θ b=0)/\b≠g)
def a4q(P:Program)(fn:Func)(cells:aL)(e:Exit)(st:St):Prop:=
 (e=.ret\/e=.normal)/\∃j,Gj P st fn.results.toList=some [.ptr j 0]/\st.H[j]?=some (.box cells)/\cells.all D.Ph=true
theorem I4.of{f:FuncId}{fn:Func}{c:Code}{ds cells:aL}(hf:P.funcs[f]?=some fn)(hb:fn.body=some c)(hn:(fn.name== "runtime.NumGoroutine")=false)
 (hl:ds.length<=fn.ntmps) (h:(∀d∈ds,gq d)->∀Γ:uB,Γ.nt=fn.ntmps->AW P Γ c (a4q P fn cells) ⟨wC 0 ds,[]⟩):I4 P f ds cells:=by
 refine⟨⟨fn,hf,by simp[hb],hn⟩,?_⟩;intro w Θ args bs hvs hargs hz hown h1;obtain⟨hlen,UP⟩:=hargs.at;refine calls_of_wp hf hb ?_;let Γ:uB:=⟨w,Θ,fun _=>False,fn.ntmps,fun _=>False,hvs⟩
 have hs:dl Γ ⟨wC 0 ds,[]⟩ (fun _=>none) Θ {tmps:=args.toArray++Array.replicate (fn.ntmps-args.toArray.size) undef,defers:=[]} w:=by
  refine⟨rfl,?_,fun _ _=>rfl,by simp,?_,by simp,hown,fun b _ _=>⟨rfl,h1 b⟩,fun b hb=>by have:=h1 b;omega,⟨rfl,rfl,rfl,bO _,fun _ _ _=>rfl⟩,⟨fun _=>0,by simp,by simp,by simp⟩⟩
  ·simp[Γ];omega
  ·intro t;rw[Ey];simp only[v8,xW,w9];cases hd:ds[t]? with
   |none=>exact⟨[],.of (.any _),by simp⟩
   |some x=>
    obtain⟨v,b,k1,k2,k3⟩:=UP t x hd;refine⟨b,?_,fun y hy=>hz y (k3 y hy)⟩;have hlt:t<args.length:=(aF.1 k1).1;have:(args.toArray++Array.replicate (fn.ntmps-args.toArray.size) undef).getD t undef=v:=by
     rw[cG,eY (by simpa using hlt)];simp[k1]
    rw[this];exact .of k2
 refine wp_mono (h hargs.rdb Γ rfl _ _ _ _ hs) ?_;rintro e a' w' ⟨Mr,κ0,Θ0,hs0,Az,j,hres,hH,hp⟩;obtain⟨vs,bs',m1,m2,m3,m4,m5⟩:=Bn hs0 hres;obtain⟨v,b,n1,n2,_⟩:=m4 0 _ rfl;obtain⟨g,hk,hv⟩:=n2.zD;obtain⟨g',cs,T,hk',hg,hΘ,bb,hbb,hbz⟩:=hs0.ob j _ hH;rw[hk]at hk';cases hk';have a8z:vs=[v]:=by
  simp only[aP,bS]at m3
  match vs,m2,n1 with
  | [],_,n1=>simp at n1
  | [x],_,n1=>simp at n1;rw[n1]
  |x::y::r,m2,_=>simp only[aP]at m2;omega
 have hrun:(results fn a'.tmps).run P w'=.ok (.pointer (some ⟨g,0,none⟩)) w':=by
  rw[results_eq,mU];simp[m1,a8z,hv]
 have M5:Below w.heap.size w w':=⟨hs0.stays.os,hs0.stays.tape,hs0.stays.output,hs0.stays.size,fun b hb=>hs0.stays.block b hb (fun h=>h)⟩
 have hgm:w.heap.size<=g:=by
  rcases hs0.mine g (by omega)with q|q
  ·exact q
  ·exact q.elim
 have post:a'.defers=[]/\∃v,(results fn a'.tmps).run P w'=.ok v w'/\∃g cs T bs',Ending.returned v=.returned (.pointer (some ⟨g,0,none⟩))/\Below w.heap.size w w'/\w.heap.size<=g/\w'.heap[g]?=some (.cells cs T (0,0))/\mm w' cs.toList cells bs'/\
  ∀b∈bs',(b<w.heap.size->Θ b=0)/\b≠g:=by
  refine⟨hs0.defers,_,hrun,g,cs,T,bb,rfl,M5,hgm,hg,hbb.pure hp,fun b hb'=>⟨fun hlt=>?_,fun e=>?_⟩⟩
  ·exact(hs0.old b hlt (fun h=>h)).1.symm.trans (hbz b hb')
  ·have:=hbz b hb';subst e;omega
 rcases Az with rfl|rfl
 ·exact post
 ·exact post
theorem Vc{o:Oper}{f t:Nat}{xs:Array Operand}{ts:Array TypeId}{ds cells:aL}(hop:o.op=.call {callee:=.value (.func f),args:=xs,argTypes:=ts})(hd:o.dst=some t)(hg:o.guard=none)
 (ht:t<Γ.nt) (hds:GU st.H (xs.toList.map st.ev)=some (ds,[])) (ng:I4 P f ds cells)
 (h:AO P Γ all rest Q ⟨(t,.ptr st.H.length 0)::st.σ,st.H++[.box cells]⟩):AO P Γ all (o::rest) Q st:=by
 intro κ Θ a w hs;obtain⟨bs,hargs,hz⟩:=LX hs hds;have yH:∀b∈bs,Θ b=0:=fun b hb=>(hz b hb).elim id (fun⟨m,h1,_⟩=>by cases h1)
 let Θc:Nat->Nat:=fun b=>if Θ b=0 then 0 else 1
 have A8:∀b,Θc b=0↔Θ b=0:=fun b=>by simp only[Θc];split<;>simp_all
 have hc:=ng.2 w Θc _ bs hs.vok hargs (fun b hb=>(A8 b).2 (yH b hb)) (fun b hb=>hs.own b (fun e=>hb ((A8 b).2 e))) (fun b=>by simp only[Θc];split<;>omega);refine wpList_plain hg fun K hK=>?_
 unfold Oper.wp;rw[wT hop ng.1,Oper.upon_enter];have e:xs.map a.eval=(xs.toList.map a.eval).toArray:=by rw[<-gw,kO]
 rw[e];refine hc.mono ?_;rintro e w' ⟨g,cs,T,bs',rfl,hb,hge,hg',hrd,hbb⟩;show K (a.put o.dst (.pointer (some ⟨g,0,none⟩))) w';rw[hd];let Θ':Nat->Nat:=fun b=>if b=g then st.H.length+2 else Θ b
 have k:iJ w w' Θ Θ' (st.H.length+2):=by
  refine⟨by omega,hb.os,hb.tape,hb.output,hb.size,fun b hlt _=>hb.block b hlt,fun b hlt _=>?_,fun b hb'=>?_⟩
  ·simp only[Θ'];rw[b9 (by omega)]
  ·simp only[Θ']at hb';split at hb'
   ·rename_i e;subst e;exact(bD.1 hg').1
   ·exact cu (hs.own b hb') hb.size
 have hbz:∀b∈bs',Θ' b=0:=by
  intro b hb';obtain⟨h1,h2⟩:=hbb b hb';simp only[Θ'];rw[b9 h2];by_cases hlt:b<w.heap.size
  ·exact(A8 b).1 (h1 hlt)
  ·cases h:Θ b with
   |zero=>rfl
   |succ m=>exact absurd (hs.own b (by omega)) hlt
 have hs':=hs.push (o:=.box cells) (v:=.pointer (some ⟨g,0,none⟩)) rfl k (hs.zJ (fun b hb'=>by
  simp only[Θ']at hb';split at hb'
  ·rename_i e;subst e;exact .inr hge
  ·exact .inl hb')) ⟨g,cs,T,jN _ _ _,hg',by simp[Θ'],bs',fK.Cu hrd,hbz⟩ rfl
 refine hK _ _ (h _ _ _ _ (hs'.set (t:=t) (d:=.ptr st.H.length 0) (bs:=[]) ht ?_ (by simp)));exact(yb.ptr st.H.length 0 g (jN _ _ _)).O0
theorem ZG{o:Oper}{T t id e e' sz h:Nat}{kk:IntKind}{x hi:Operand}{rows:List aL}(hop:o.op=.slice T x none (some hi) none)(hd:o.dst=some t)(hg:o.guard=none)(ht:t<Γ.nt)
 (hT:FT P T=some (e',sz)) (hx:st.ev x=.acc id) (hH:st.H[id]?=some (.row .uq e sz rows)) (hhi:st.ev hi=.int kk (h:Int)) (hle:h<=rows.length)
 (hn:AO P Γ all rest Q ⟨(t,.acc st.H.length)::st.σ,kill st.H [id]++[.row .uq e sz (rows.take h)]⟩):AO P Γ all (o::rest) Q st:=by
 intro κ Θ a w hs;obtain⟨hsz,hrl,v,cs0,VL,hk,a1G,aBW,Ep,yH⟩:=hs.ob id _ hH;obtain⟨ρ,hu⟩:=hs.rV;obtain⟨v2,cs,bs,hk2,hown,hrd,hnd,hρ⟩:=hu.rows id e sz rows hH;rw[hk]at hk2;cases hk2;obtain⟨bx,rx,_⟩:=hs.ev x;rw[hx]at rx;obtain⟨hkx,_⟩:=rx.vA;have TV:a.eval x=v:=by rw[hk]at hkx;cases hkx;rfl
 let v':Value:=match v with| .slice q _ cap=>.slice q h cap|u=>u
 have hc:AU rows.length ((none:Option Operand).map st.ev) ((some hi).map st.ev)=some (0,h):=by
  simp[AU,hhi,hle]
 have hrun:∃q cap,v=.slice q rows.length cap/\v'=.slice q h cap/\(execOp a.eval o).run P w=.ok (.value v') w:=by
  obtain⟨vo,KJ,J4⟩:=pK hT;have main:∀(q:Option Addr) (cap:Nat),(∀b off sp,q=some ⟨b,off,sp⟩->off=0/\sp=none)->v=.slice q rows.length cap->rows.length<=cap->(execOp a.eval o).run P w=.ok (.value (.slice q h cap)) w:=by
   intro q cap hq0 hq hcap;obtain⟨hr,hl,hh⟩:=PK (P:=P) (isSlice:=true) (cap:=cap) hs hcap hc;have aAz:(if cap=0 then q else q.map (·.add (0*sz)))=q:=by
    split
    ·rfl
    ·cases q with
     |none=>rfl
     |some ad=>simp[Addr.add]
   simp only[yI,cU]at hr;simp only[execOp,hop,TV,hq];simp[Instr.sliceAt,Instr.slice,run_underlying vo,hr,uz (P:=P) KJ w];intro hc0;cases q with
   |none=>rfl
   |some ad=>simp[Addr.add]
  rcases hown.2 with⟨rfl,h0⟩|⟨g,cap,cur,rfl,_,Oa,hnc,hcm,hcs,htk⟩
  ·exact⟨none,0,by rw[h0],rfl,main none 0 (by simp) (by rw[h0]) (by omega)⟩
  ·exact⟨some ⟨g,0,none⟩,cap,rfl,rfl,main _ _ (by simp) rfl hnc⟩
 obtain⟨q,cap,hvq,Zu,hrun⟩:=hrun;have xy:v'.ownBlock=v.ownBlock:=by rw[Zu,hvq];cases q<;>rfl
 have hone:v'.oneCell'=true:=by
  have:=hs.oN id v hk;rw[hvq]at this;rw[Zu];exact this
 have hsplit:∃cs' bs',w.ownsRow 0 e sz v' (rows.take h).length cs'/\wX w (tr e) 0 cs' (rows.take h).flatten bs'/\bs'.Nodup/\∀b∈bs',b∈bs:=by
  have e1:rows.flatten=(rows.take h).flatten++(rows.drop h).flatten:=by rw[<-jP,cF]
  have NC:=hrd;rw[e1]at NC;obtain⟨c1,c2,b1,b2,rfl,rfl,k1,k2⟩:=NC.split;have htl:(rows.take h).length=h:=by rw[bz];omega
  have hc1:c1.length=h*sz:=by rw[k1.length,nc (fun r hr=>hrl r (bu hr)),htl]
  refine⟨c1,b1,?_,k1,(bH.1 hnd).1,fun b hb=>by simp[hb]⟩;rw[htl];refine⟨hc1,?_⟩;rcases hown.2 with⟨hv0,h0⟩|⟨g,cap',cur,hvs,hbg,Oa,hnc,hcm,hcs,htk⟩
  ·left
   have:h=0:=by omega
   subst this;have e3:=hv0.symm.trans hvq;simp only[Value.slice.injEq]at e3;exact⟨by rw[Zu,<-e3.1,<-e3.2.2],rfl⟩
  ·right
   have e3:=hvs.symm.trans hvq;simp only[Value.slice.injEq]at e3;refine⟨g,cap',cur,by rw[Zu,<-e3.1,<-e3.2.2],hbg,Oa,by omega,hcm,hcs,?_⟩;have h3:(cur.toList.take (rows.length*sz)).take (h*sz)=(c1++c2).take (h*sz):=by rw[htk]
   rw[tS,fG (dw _ hle)]at h3;rw[h3];exact iz hc1
 obtain⟨cs',bs',p1,p2,p3,p4⟩:=hsplit;refine wpList_plain hg fun K hK=>?_
 unfold Oper.wp;rw[hrun,Oper.upon_value,hd];let n:=st.H.length
 have UT:id<n:=(aF.1 hH).1;let Θ':Nat->Nat:=fun b=>if some b=v'.ownBlock then n+2 else Θ b
 let ρ':Nat->Nat:=fun b=>if ρ b=id+1 then n+1 else ρ b
 have Z6:∀g,v'.ownBlock=some g->Θ g=id+2:=fun g US=>Ep g (xy▸US)
 have k:iJ w w Θ Θ' (id+2):=by
  refine⟨by omega,rfl,rfl,rfl,bO _,fun _ _ _=>rfl,fun b hb hne=>?_,fun b hb=>?_⟩
  ·simp only[Θ'];rw[b9 fun e=>hne (Z6 b e.symm)]
  ·simp only[Θ']at hb;split at hb
   ·rename_i e;exact hs.own b (by rw[Z6 b e.symm];omega)
   ·exact hs.own b hb
 have hm:∀b,2<=Θ' b->xX Γ b:=by
  intro b hb;simp only[Θ']at hb;split at hb
  ·rename_i e;exact hs.mine b (by rw[Z6 b e.symm];omega)
  ·exact hs.mine b hb
 have hnn:=wW (hs.pH n (bO _)) (some v');have sA:=hs.nk k hnn hu;have Mq:∀b∈bs',Θ' b=0:=by
  intro b hb;have h1:=(hu.free b (by rw[hρ b (p4 b hb)];omega)).1;simp only[Θ'];rw[b9 fun e=>by have:=Z6 b e.symm;omega];exact h1
 have key:∀(j:Nat) y,(kill st.H [id]++[.row .uq e sz (rows.take h)])[j]?=some y->(j=n/\y=.row .uq e sz (rows.take h))\/(j≠n/\(y=.gone\/(j∉[id]/\st.H[j]?=some y))):=by
  intro j y hj;rcases AB j y hj with⟨h1,h2⟩|⟨h1,h2⟩
  ·rw[fX]at h1;exact .inl ⟨h1,h2⟩
  ·rw[fX]at h1;exact .inr ⟨h1,oW h2⟩
 have hs':dl Γ ⟨st.σ,kill st.H [id]++[.row .uq e sz (rows.take h)]⟩ (xN κ n (some v')) Θ' a w:=by
  refine hs.step k hm hnn ?_ ?_ ?_ ⟨ρ',fun b hb=>?_,fun j e2 FR dG hj=>?_,fun j y hj=>?_⟩
  ·intro i hi;simp only[av,aP,bS,fX]at hi;unfold xN;rw[b9 (by omega)];exact hs.pH i (by omega)
  ·intro i y hy;unfold xN at hy;split at hy
   ·cases hy;exact hone
   ·exact hs.oN i y hy
  ·intro j y hj;rcases key j y hj with⟨rfl,rfl⟩|⟨_,hy|⟨hjk,hy⟩⟩
   ·exact .inr (.inr ⟨hsz,fun r hr=>hrl r (bu hr),v',cs',bs',jN _ _ _,p1,p2.rd,fun g US=>by simp only[Θ'];rw[bN US.symm],Mq⟩)
   ·exact .inl hy
   ·exact .inr (.inl ⟨fun e=>hjk (by simp;omega),hy⟩)
  ·refine sA.1 b fun h0=>hb ?_
   simp only[ρ'];rw[b9 (by omega)];exact h0
  ·rcases key j _ hj with⟨rfl,hy⟩|⟨_,hy|⟨hjk,hy⟩⟩
   ·simp only[Ob.row.injEq,qz]at hy;obtain⟨rfl,rfl,rfl⟩:=hy;exact⟨v',cs',bs',jN _ _ _,p1,p2,p3,fun b hb=>by simp only[ρ'];rw[bN (hρ b (p4 b hb))]⟩
   ·cases hy
   ·obtain⟨v3,c3,b3,q1,q2,q3,q4,q5⟩:=sA.2.1 j e2 FR dG (fun e=>hjk (by simp;omega)) hy;refine⟨v3,c3,b3,q1,q2,q3,q4,fun b hb=>?_⟩;have hne:j≠id:=fun e=>hjk (by simp[e])
    simp only[ρ'];rw[b9 (by rw[q5 b hb];omega)];exact q5 b hb
  ·rcases key j _ hj with⟨rfl,hy⟩|⟨_,hy|⟨hjk,hy⟩⟩
   ·subst hy;exact Jp.wR rfl
   ·subst hy;trivial
   ·refine(sA.2.2 j y (fun e=>hjk (by simp;omega)) hy).re fun b hb=>?_
    have hne:j≠id:=fun e=>hjk (by simp[e])
    simp only[ρ'];rw[b9 (by omega)];exact hb
 refine hK _ _ (hn _ _ _ _ (hs'.set (t:=t) (d:=.acc n) (bs:=[]) ht ?_ (by simp)));exact(yb.acc n _ (jN _ _ _)).O0
end
end Go.Cx
namespace Go.Cx
open Go.RowKit
section
variable{P:Program}{Γ:uB}{Q:Exit->St->Prop}{st:St}{κ κ':Nat->Option Value}{Θ Θ':Nat->Nat}{a:Act}{w w':World}{all:Array Oper}{rest:List Oper}
theorem dl.a3Y(hs:dl Γ st κ Θ a w):
 dl Γ ⟨st.σ,st.H++[.mp []]⟩ (xN κ st.H.length (some (.map (some w.heap.size)))) (fun b=>if b=w.heap.size then st.H.length+2 else Θ b) a (w.alloc (.map #[] 0)):=by
 have k:=iJ.alloc hs (.map #[] 0) (tag:=st.H.length+2) (by omega);refine hs.push rfl k (hs.zJ (fun b hb=>by by_cases e:b=w.heap.size<;>simp_all)) ?_ rfl;exact⟨w.heap.size,#[],0,by simp[xN],heap_alloc_new w _,by simp,rfl,by simp⟩
theorem RH{o:Oper}{T t:Nat}(hop:o.op=.makeMap T none)(hd:o.dst=some t)(hg:o.guard=none)(ht:t<Γ.nt)
 (h:AO P Γ all rest Q ⟨(t,.acc st.H.length)::st.σ,st.H++[.mp []]⟩):AO P Γ all (o::rest) Q st:=by
 intro κ Θ a w hs;have hs':=hs.a3Y;refine wpList_plain hg fun K hK=>?_
 unfold Oper.wp;have hrun:(execOp a.eval o).run P w=.ok (.value (.map (some w.heap.size))) (w.alloc (.map #[] 0)):=by
  simp[execOp,hop,Instr.makeMap,newObj];rfl
 rw[hrun,Oper.upon_value,hd];refine hK _ _ (h _ _ _ _ (hs'.set (t:=t) (d:=.acc st.H.length) (bs:=[]) ht ?_ (by simp)));exact(yb.acc st.H.length _ (jN _ _ _)).O0
theorem ya.push{es:List MapEntry}{kv:List (D×D)}{k v:D}{u x:Value}(h:ya w es kv)(hk:Rd w u k [])(hv:Rd w x v [])(c:Nat):ya w (es++[{key:=u,val:=x,born:=c}]) (kv++[(k,v)]):=by
 refine⟨by simp[h.1],fun j e p h1 h2=>?_⟩;by_cases hj:j<es.length
 ·rw[ar hj]at h1;rw[ar (by rw[<-h.1];exact hj)]at h2;exact h.2 j e p h1 h2
 ·rw[b8 (by omega)]at h1;rw[b8 (by rw[<-h.1];omega),<-h.1]at h2;have e0:j-es.length=0:=by
   have:=(aF.1 h1).1;simp at this;omega
  rw[e0]at h1 h2;simp at h1 h2;subst h1;subst h2;exact⟨hk,hv⟩
theorem ya.put{es:List MapEntry}{kv:List (D×D)}{k v:D}{u x:Value}(h:ya w es kv)(hk:Rd w u k [])(hv:Rd w x v [])(i:Nat){es':List MapEntry}(hl:es'.length=es.length)
 (he:∀(j:Nat) e,es'[j]?=some e->(j=i/\e.key=u/\e.val=x)\/(j≠i/\es[j]?=some e)):ya w es' (kv.set i (k,v)):=by
 refine⟨by simp[hl,h.1],fun j e p h1 h2=>?_⟩;rcases he j e h1 with⟨rfl,h3,h4⟩|⟨hne,h3⟩
 ·have hlt:j<kv.length:=by
   have:=(aF.1 h2).1;simpa using this
  rw[dB hlt]at h2;cases h2;rw[h3,h4];exact⟨hk,hv⟩
 ·rw[cB (rZ hne)]at h2;exact h.2 j e p h3 h2
theorem a3T{kd:TypeDesc}{k v:D}{u:Value}(N9:Hp kd k=true)(hu:Rd w u k []):∀ {es:List MapEntry} {kv kv':List (D×D)} (i:Nat),ya w es kv->J9 k v kv=some kv'->
 (Instr.findNow kd u es i=some none/\kv'=kv++[(k,v)])\/∃j x e,Instr.findNow kd u es i=some (some (i+j,x))/\es[j]?=some e/\e.key=u/\kv'=kv.set j (k,v):=by
 intro es
 induction es with
 |nil=>
  intro kv kv' i hr h;cases kv with
  |nil=>cases h;exact .inl ⟨rfl,rfl⟩
  |cons p kv=>exact absurd hr.1 (by simp)
 |cons e es ih=>
  intro kv kv' i hr h;cases kv with
  |nil=>exact absurd hr.1 (by simp)
  |cons p kv=>
   obtain⟨r1,r2,r3⟩:=hr.cons;simp only[J9]at h;split at h
   ·rename_i hq;cases h;have:=LU N9 hu r1 hq;exact .inr ⟨0,e.val,e,by simp[Instr.findNow,this.1],rfl,this.2 rfl,rfl⟩
   ·rename_i hq;have NA:=(LU N9 hu r1 hq).1;cases hk:J9 k v kv with
    |none=>rw[hk]at h;cases h
    |some kv1=>
     rw[hk]at h;cases h;rcases ih (i+1) r3 hk with⟨h1,h2⟩|⟨j,x,e',h1,h2,h3,h4⟩
     ·exact .inl ⟨by simpa[Instr.findNow,NA]using h1,by rw[h2];rfl⟩
     ·exact .inr ⟨j+1,x,e',by simp only[Instr.findNow,NA];rw[h1];congr 3;omega,by simpa using h2,h3,by rw[h4];rfl⟩
   ·cases h
theorem PT{kd:TypeDesc}{u:Value}(h:MapKept.IsKey kd u)(n:Nat):Instr.sameBits n u u=true:=by
 cases kd<;>cases u<;>simp[MapKept.IsKey]at h<;>simp[Instr.sameBits]
 all_goals first
  |exact(MapKept.bytes_beq _ _).2 rfl
  |rfl
def D.scalar:D->Bool
 | .str _=>true
 | .int _ _=>true
 | .bool _=>true
 |_=>false
theorem Qz{v:Value}{d:D}{bs:aW}(hd:d.scalar=true)(hu:rW w κ v d bs):Rd w v d []:=by
 cases d<;>simp[D.scalar]at hd
 all_goals cases hu with|v h=>cases h with|cell h=>cases h with|pure h=>cases h<;>(constructor<;>assumption)
theorem OD{o:Oper}{T id:Nat}{x i y:Operand}{kd:TypeDesc}{dz:D}{kv kv':List (D×D)}(hop:o.op=.mapUpdate T x i y)(hd:o.dst=none)(hg:o.guard=none)
 (hT:V5 P T=some (kd,dz)) (hx:st.ev x=.acc id) (hH:st.H[id]?=some (.mp kv)) (N9:Hp kd (st.ev i)=true) (hsc:(st.ev y).scalar=true) (hput:J9 (st.ev i) (st.ev y) kv=some kv')
 (h:AO P Γ all rest Q ⟨st.σ,st.H.set id (.mp kv')⟩):AO P Γ all (o::rest) Q st:=by
 intro κ Θ a w hs;obtain⟨g,es,c,q1,q2,q3,q4⟩:=hs.ob id _ hH;obtain⟨bs,r,_⟩:=hs.ev x;rw[hx]at r;obtain⟨hk,_⟩:=r.vA;rw[q1]at hk;have hxv:a.eval x=.map (some g):=(oF hk).symm;obtain⟨bi,ri,_⟩:=hs.ev i;obtain⟨by',ry,_⟩:=hs.ev y;have hu:=No N9 ri;have hv:=Qz hsc ry;obtain⟨kt,et,z,t1,t2,t3,t4⟩:=Ml hT;have hik:=QY N9 hu;have hck:=MapKept.run_checkKey (P:=P) (w:=w) t2 hik false 9999;have a8P:g<w.heap.size:=(bD.1 q2).1;have UT:id<st.H.length:=(aF.1 hH).1;have hrun:∃es' c',(execOp a.eval o).run P w=.ok .skip {w with heap:=w.heap.setIfInBounds g (.map es' c')}/\ya w es'.toList kv':=by
  rcases a3T N9 hu 0 q4 hput with⟨hn,rfl⟩|⟨j,x',e,hn,he,hek,rfl⟩
  ·have Rl:=MapKept.run_findKey (P:=P) (w:=w) t2 hn;refine⟨es.push {key:=a.eval i,val:=a.eval y,born:=c},c+1,?_,?_⟩
   ·simp[execOp,hop,hxv,Instr.mapUpdate,run_underlying t1,MapKept.run_getObj_map q2,hck,Rl,MapKept.run_setObj_map _ q2]
   ·rw[Array.toList_push];exact q4.push hu hv c
  ·rw[cW]at hn;have Rl:=MapKept.run_findKey (P:=P) (w:=w) t2 hn;have hej:es[j]?=some e:=by simpa using he
   have hst:(Instr.keyThatStays (((es[j]?).map (·.key)).getD (a.eval i)) (a.eval i)).run P w=.ok (a.eval i) w:=by
    rw[hej];simp[Instr.keyThatStays,hek,PT hik]
   refine⟨es.modify j fun e=> {e with key:=a.eval i,val:=a.eval y},c,?_,?_⟩
   ·simp[execOp,hop,hxv,Instr.mapUpdate,run_underlying t1,MapKept.run_getObj_map q2,hck,Rl,hst,MapKept.run_setObj_map _ q2]
   ·refine q4.put hu hv j (by simp) fun m e' hm=>?_
    rw[jl,we]at hm;by_cases hmj:j=m
    ·subst hmj;rw[bN rfl,hej]at hm;cases hm;exact .inl ⟨rfl,rfl,rfl⟩
    ·rw[b9 hmj]at hm;exact .inr ⟨rZ hmj,by simpa using hm⟩
 obtain⟨es',c',hr,a8l⟩:=hrun;have CY:∀b,b≠g->(w.heap.setIfInBounds g (.map es' c'))[b]?=w.heap[b]?:=fun b hb=>by simp[rZ hb]
 have k:iJ w {w with heap:=w.heap.setIfInBounds g (.map es' c')} Θ Θ (id+2):=by
  refine⟨by omega,rfl,rfl,rfl,by simp,fun b hb hne=>CY b fun e=>hne (e▸q3),fun _ _ _=>rfl,fun b hb=>?_⟩;simpa using hs.own b hb
 have hs':dl Γ ⟨st.σ,st.H.set id (.mp kv')⟩ κ Θ a {w with heap:=w.heap.setIfInBounds g (.map es' c')}:=by
  obtain⟨ρ,vo⟩:=hs.rV;have sA:=hs.nk k (fun _ _ h=>h) vo;refine hs.step k hs.mine (fun _ _ h=>h) (fun i hi=>hs.pH i (by simpa using hi)) hs.oN ?_ ⟨ρ,sA.1,fun j e sz rows hj=>?_,fun j y hj=>?_⟩
  ·intro j y' hj;by_cases e:j=id
   ·subst e;rw[dB UT]at hj;cases hj;exact .inr (.inr ⟨g,es',c',q1,by simp[a8P],q3,a8l.stay⟩)
   ·rw[cB (rZ e)]at hj;exact .inr (.inl ⟨by omega,hj⟩)
  ·by_cases e':j=id
   ·subst e';rw[dB UT]at hj;cases hj
   ·rw[cB (rZ e')]at hj;exact sA.2.1 j e sz rows (by omega) hj
  ·by_cases e':j=id
   ·subst e';rw[dB UT]at hj;cases hj;trivial
   ·rw[cB (rZ e')]at hj;exact sA.2.2 j y (by omega) hj
 refine wpList_plain hg fun K hK=>?_
 unfold Oper.wp;rw[hr,Oper.upon_skip,hd];exact hK _ _ (h _ _ _ _ hs')
end
end Go.Cx

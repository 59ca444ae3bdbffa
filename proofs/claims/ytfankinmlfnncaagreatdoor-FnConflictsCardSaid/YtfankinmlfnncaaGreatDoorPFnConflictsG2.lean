/- Calls as contracts of the abstract walk ('Good'): arguments are looked at, results may be handed over whole and new; how a body's abstract walk gives its contract. No condition; plain lemmas. -/
import Derived.Test.YtfankinmlfnncaaGreatDoorPFnConflictsG1
import Derived.StillTail
import Derived.MapKept
set_option linter.unusedVariables false
set_option linter.unusedSimpArgs false
namespace Go.Cx
open Go.RowKit
inductive Sf(w:World):List Value->List D->List Nat->Prop
 |nil:Sf w [] [] []
 |cons (v:Value) (vs:bZ) (d:D) (ds:aL) (b1 b2:aW):Rd w v d b1->Sf w vs ds b2->Sf w (v::vs) (d::ds) (b1++b2)
inductive FK(w:World):Value->D->List Nat->List Nat->List Nat->Prop
 |pure {v:Value} {d:D} {bs:aW}:Rd w v d bs->FK w v d bs [] []
 |fr (v:Value) (e sz:Nat) (rows:List aL) (cs:bZ) (ns:aW):0<sz->(∀r∈rows,r.length=sz)->w.ownsRow 0 e sz v rows.length cs->wK w (tT e) 0 cs rows.flatten ns->v.oneCell'=true->
  FK w v (.fr e sz rows) [] v.ownBlock.toList (v.ownBlock.toList++ns)
inductive tK(w:World):List Value->List D->List Nat->List Nat->List Nat->Prop
 |nil:tK w [] [] [] [] []
 |cons (v:Value) (vs:bZ) (d:D) (ds:aL) (b1 b2 t1 t2 u1 u2:aW):v.oneCell'=true->FK w v d b1 t1 u1->tK w vs ds b2 t2 u2->tK w (v::vs) (d::ds) (b1++b2) (t1++t2) (u1++u2)
inductive FL(w:World):Value->D->List Nat->List Nat->List Nat->Prop
 |cell {v:Value} {d:D} {bs ts us:aW}:FK w v d bs ts us->FL w v d bs ts us
 |agg (cs:bZ) (ds:aL) (bs ts us:aW):tK w cs ds bs ts us->FL w (.agg cs.toArray) (.agg ds) bs ts us
inductive AH(w:World):List Value->List D->List Nat->List Nat->List Nat->Prop
 |nil:AH w [] [] [] [] []
 |cons (v:Value) (vs:bZ) (d:D) (ds:aL) (b1 b2 t1 t2 u1 u2:aW):FL w v d b1 t1 u1->AH w vs ds b2 t2 u2->AH w (v::vs) (d::ds) (b1++b2) (t1++t2) (u1++u2)
inductive zE(w:World):Value->D->List Nat->List Nat->List Nat->Prop
 |v {v:Value} {d:D} {bs ts us:aW}:FL w v d bs ts us->zE w v d bs ts us
 |gw (vs:bZ) (ds:aL) (bs ts us:aW):AH w vs ds bs ts us->zE w (.tuple vs.toArray) (.gw ds) bs ts us
def Good(P:Program)(f:FuncId)(ds:aL)(d:D):Prop:=
 (∃fn,P.funcs[f]?=some fn/\fn.body.isSome=true/\(fn.name== "runtime.NumGoroutine")=false)/\
 ∀(w:World) (Θ:Nat->Nat) (args:bZ) (bs:aW),Ms w (fun _=>False)->Sf w args ds bs->(∀b∈bs,Θ b=0)->(∀b,Θ b≠0->b<w.heap.size)->(∀b,Θ b<=1)->
  Calls P f args.toArray w (fun e w'=>∃v bs' ts us,e=.returned v/\Below w.heap.size w w'/\zE w' v d bs' ts us/\(∀b∈bs',b<w.heap.size->Θ b=0)/\(∀b∈bs',b∉ts)/\us.Nodup/\
   (∀b∈us,w.heap.size<=b/\Wr w' b)/\∀b∈ts,b∈us)
def Cn(n:Nat)(d:D):D×bP:=match d with
 | .fr e sz rows=>(.acc n,[.row .uq e sz rows])
 |d=>(d,[])
def nR(n:Nat):aL->aL×bP
 | []=>([],[])
 |d::ds=>((Cn n d).1::(nR (n+(Cn n d).2.length) ds).1,(Cn n d).2++(nR (n+(Cn n d).2.length) ds).2)
def Bc(n:Nat)(d:D):D×bP:=match d with
 | .agg cs=>(.agg (nR n cs).1,(nR n cs).2)
 |d=>Cn n d
def yG(n:Nat):aL->aL×bP
 | []=>([],[])
 |d::ds=>((Bc n d).1::(yG (n+(Bc n d).2.length) ds).1,(Bc n d).2++(yG (n+(Bc n d).2.length) ds).2)
def oF(n:Nat)(d:D):D×bP:=match d with
 | .gw vs=>(.gw (yG n vs).1,(yG n vs).2)
 |d=>Bc n d
structure Fs where
 v:Value
 e:Nat
 sz:Nat
 rows:List aL
 cs:bZ
 ns:aW
def Fs.ob(x:Fs):Ob:=.row .uq x.e x.sz x.rows
def Fs.ok(w:World)(x:Fs):Prop:=0<x.sz/\(∀r∈x.rows,r.length=x.sz)/\w.ownsRow 0 x.e x.sz x.v x.rows.length x.cs/\wK w (tT x.e) 0 x.cs x.rows.flatten x.ns/\x.v.oneCell'=true
def Fs.bl(x:Fs):aW:=x.v.ownBlock.toList++x.ns
def Fs.ts(x:Fs):aW:=x.v.ownBlock.toList
section
variable{P:Program}{Γ:tZ}{Q:Exit->St->Prop}{st:St}{κ κ':Nat->Option Value}{Θ Θ':Nat->Nat}{a:Act}{w w':World}{all:Array Oper}{rest:List Oper}
def Names(κ:Nat->Option Value)(n:Nat)(L:List Fs):Prop:=∀(i:Nat) x,L[i]?=some x->κ (n+i)=some x.v
theorem Names.left{n:Nat}{L1 L2:List Fs}(h:Names κ n (L1++L2)):Names κ n L1:=fun i x hx=>h i x (by
 rw[av (aF.1 hx).1];exact hx)
theorem Names.right{n:Nat}{L1 L2:List Fs}(h:Names κ n (L1++L2)):Names κ (n+L1.length) L2:=fun i x hx=>by
 have:=h (L1.length+i) x (by rw[az (by omega)];simpa using hx);rw[<-this];congr 1;omega
theorem FK.inst{v:Value}{d:D}{bs ts us:aW}(h:FK w v d bs ts us)(n:Nat):
 ∃L:List Fs,L.map Fs.ob=(Cn n d).2/\(∀x∈L,x.ok w)/\us=L.flatMap Fs.bl/\ts=L.flatMap Fs.ts/\∀κ,Names κ n L->yQ w κ v (Cn n d).1 bs:=by
 cases h with
 |pure h=>
  have e:Cn n d=(d,[]):=by cases h<;>rfl
  rw[e];exact⟨[],rfl,by simp,rfl,rfl,fun κ _=>.pure h⟩
 |fr e sz rows cs ns h1 h2 h3 h4 h5=>
  refine⟨[⟨v,e,sz,rows,cs,ns⟩],rfl,?_,by simp[Fs.bl],by simp[Fs.ts],fun κ hk=>?_⟩
  ·intro x hx;simp at hx;subst hx;exact⟨h1,h2,h3,h4,h5⟩
  ·exact .acc n v (by simpa using hk 0 _ rfl)
theorem tK.inst{vs:bZ}{ds:aL}{bs ts us:aW}(h:tK w vs ds bs ts us)(n:Nat):
 ∃L:List Fs,L.map Fs.ob=(nR n ds).2/\(∀x∈L,x.ok w)/\us=L.flatMap Fs.bl/\ts=L.flatMap Fs.ts/\∀κ,Names κ n L->fH w κ vs (nR n ds).1 bs:=by
 induction h generalizing n with
 |nil=>exact⟨[],rfl,by simp,rfl,rfl,fun κ _=>.nil⟩
 |cons v vs d ds b1 b2 t1 t2 u1 u2 h1 h2 _ ih=>
  obtain⟨L1,q1,q2,q3,q4,q5⟩:=h2.inst n;obtain⟨L2,p1,p2,p3,p4,p5⟩:=ih (n+(Cn n d).2.length);have hl:L1.length=(Cn n d).2.length:=by rw[<-q1];simp
  refine⟨L1++L2,by simp[nR,q1,p1],?_,by simp[q3,p3],by simp[q4,p4],fun κ hk=>?_⟩
  ·intro x hx;rcases aU.1 hx with hx|hx
   ·exact q2 x hx
   ·exact p2 x hx
  ·refine .cons _ _ _ _ _ _ h1 (q5 κ hk.left) (p5 κ ?_);rw[<-hl];exact hk.right
theorem FL.inst{v:Value}{d:D}{bs ts us:aW}(h:FL w v d bs ts us)(n:Nat):
 ∃L:List Fs,L.map Fs.ob=(Bc n d).2/\(∀x∈L,x.ok w)/\us=L.flatMap Fs.bl/\ts=L.flatMap Fs.ts/\∀κ,Names κ n L->LJ w κ v (Bc n d).1 bs:=by
 cases h with
 |cell h=>
  by_cases tF:∃ds,d=.agg ds
  ·obtain⟨ds,rfl⟩:=tF;cases h with
   |pure h=>
    cases h with
    |agg cs _ _ h=>
     have:∀(vs:bZ) (es:aL) (b:aW),mR w vs es b->∀n,(nR n es).1=es/\(nR n es).2=[]:=by
      intro vs es
      induction es generalizing vs with
      |nil=>intro b _ n;exact⟨rfl,rfl⟩
      |cons e es ih=>
       intro b hh n;cases hh with
       |cons v vs _ _ b1 b2 _ h2 h3=>
        have e1:Cn n e=(e,[]):=by cases h2<;>rfl
        have:=ih vs b2 h3 n;simp[nR,e1,this]
     obtain⟨e1,e2⟩:=this _ _ _ h n;refine⟨[],by simp[Bc,e2],by simp,rfl,rfl,fun κ _=>?_⟩;simp only[Bc,e1];exact .agg _ _ _ (fH.Co h)
  ·have e:Bc n d=Cn n d:=by cases d<;>first|rfl|exact absurd ⟨_,rfl⟩ tF
   rw[e];obtain⟨L,q1,q2,q3,q4,q5⟩:=h.inst n;exact⟨L,q1,q2,q3,q4,fun κ hk=>.cell (q5 κ hk)⟩
 |agg cs ds bs ts us h=>
  obtain⟨L,q1,q2,q3,q4,q5⟩:=h.inst n;exact⟨L,q1,q2,q3,q4,fun κ hk=>.agg _ _ _ (q5 κ hk)⟩
theorem AH.inst{vs:bZ}{ds:aL}{bs ts us:aW}(h:AH w vs ds bs ts us)(n:Nat):
 ∃L:List Fs,L.map Fs.ob=(yG n ds).2/\(∀x∈L,x.ok w)/\us=L.flatMap Fs.bl/\ts=L.flatMap Fs.ts/\∀κ,Names κ n L->By w κ vs (yG n ds).1 bs:=by
 induction h generalizing n with
 |nil=>exact⟨[],rfl,by simp,rfl,rfl,fun κ _=>.nil⟩
 |cons v vs d ds b1 b2 t1 t2 u1 u2 h2 _ ih=>
  obtain⟨L1,q1,q2,q3,q4,q5⟩:=h2.inst n;obtain⟨L2,p1,p2,p3,p4,p5⟩:=ih (n+(Bc n d).2.length);have hl:L1.length=(Bc n d).2.length:=by rw[<-q1];simp
  refine⟨L1++L2,by simp[yG,q1,p1],?_,by simp[q3,p3],by simp[q4,p4],fun κ hk=>?_⟩
  ·intro x hx;rcases aU.1 hx with hx|hx
   ·exact q2 x hx
   ·exact p2 x hx
  ·refine .cons _ _ _ _ _ _ (q5 κ hk.left) (p5 κ ?_);rw[<-hl];exact hk.right
theorem zE.inst{v:Value}{d:D}{bs ts us:aW}(h:zE w v d bs ts us)(n:Nat):
 ∃L:List Fs,L.map Fs.ob=(oF n d).2/\(∀x∈L,x.ok w)/\us=L.flatMap Fs.bl/\ts=L.flatMap Fs.ts/\∀κ,Names κ n L->rS w κ v (oF n d).1 bs:=by
 cases h with
 |v h=>
  have hnt:∀vs,d≠ .gw vs:=by
   intro vs e;subst e;cases h with
   |cell h=>cases h with|pure h=>cases h
  have e:oF n d=Bc n d:=by cases d<;>first|rfl|exact absurd rfl (hnt _)
  rw[e];obtain⟨L,q1,q2,q3,q4,q5⟩:=h.inst n;exact⟨L,q1,q2,q3,q4,fun κ hk=>.v (q5 κ hk)⟩
 |gw vs ds bs ts us h=>
  obtain⟨L,q1,q2,q3,q4,q5⟩:=h.inst n;exact⟨L,q1,q2,q3,q4,fun κ hk=>.gw _ _ _ (q5 κ hk)⟩
theorem PT{v:Value}{d:D}{bs ts us:aW}(h:FK w v d bs ts us):∀b∈ts,Wr w b:=by
 cases h with
 |pure=>simp
 |fr e sz rows cs ns h1 h2 h3 h4 h5=>
  intro b hb;simp only[kx]at hb;rcases h3.2 with⟨rfl,_⟩|⟨g,cap,cur,rfl,_,hg,_⟩
  ·simp[Value.ownBlock]at hb
  ·simp[Value.ownBlock]at hb;subst hb;exact⟨_,_,hg⟩
theorem Tw{vs:bZ}{ds:aL}{bs ts us:aW}(h:tK w vs ds bs ts us):∀b∈ts,Wr w b:=by
 induction h with
 |nil=>simp
 |cons v vs d ds b1 b2 t1 t2 u1 u2 h1 h2 _ ih=>
  intro b hb;rcases aU.1 hb with hb|hb
  ·exact PT h2 b hb
  ·exact ih b hb
theorem LL{v:Value}{d:D}{bs ts us:aW}(h:FL w v d bs ts us):∀b∈ts,Wr w b:=by
 cases h with
 |cell h=>exact PT h
 |agg cs ds bs ts us h=>exact Tw h
theorem JO{vs:bZ}{ds:aL}{bs ts us:aW}(h:AH w vs ds bs ts us):∀b∈ts,Wr w b:=by
 induction h with
 |nil=>simp
 |cons v vs d ds b1 b2 t1 t2 u1 u2 h2 _ ih=>
  intro b hb;rcases aU.1 hb with hb|hb
  ·exact LL h2 b hb
  ·exact ih b hb
theorem LK{v:Value}{d:D}{bs ts us:aW}(h:zE w v d bs ts us):∀b∈ts,Wr w b:=by
 cases h with
 |v h=>exact LL h
 |gw vs ds bs ts us h=>exact JO h
def ix{α:Type}(p:α->Bool):List α->Option Nat
 | []=>none
 |x::r=>if p x then some 0 else(ix p r).map (· +1)
theorem ym{α:Type}{p:α->Bool}:∀ {l:List α} {i:Nat},ix p l=some i->∃x,l[i]?=some x/\p x=true:=by
 intro l
 induction l with
 |nil=>intro i h;cases h
 |cons x r ih=>
  intro i h;simp only[ix]at h;split at h
  ·cases h;exact⟨x,rfl,by assumption⟩
  ·cases hr:ix p r with
   |none=>simp[hr]at h
   |some j=>simp[hr]at h;subst h;simpa using ih hr
theorem Ej{α:Type}{p:α->Bool}:∀ {l:List α} {i:Nat} {x:α},l[i]?=some x->p x=true->(∀(j:Nat) y,l[j]?=some y->p y=true->j=i)->ix p l=some i:=by
 intro l
 induction l with
 |nil=>intro i x h;simp at h
 |cons y r ih=>
  intro i x h hp hu;simp only[ix];split
  ·rename_i hy;rw[hu 0 y rfl hy]
  ·rename_i hy;cases i with
   |zero=>simp at h;subst h;exact absurd hp hy
   |succ i=>
    rw[ih (by simpa using h) hp (fun j z hz Ye=>by have:=hu (j+1) z (by simpa using hz) Ye;omega)];rfl
theorem vP{α:Type}{f:α->aW}:∀ {l:List α},(l.flatMap f).Nodup->∀(i j:Nat) x y b,l[i]?=some x->l[j]?=some y->b∈f x->b∈f y->i=j:=by
 intro l
 induction l with
 |nil=>intro _ i j x y b hi;simp at hi
 |cons z r ih=>
  intro hnd i j x y b hi hj Aw hby;simp only[cm]at hnd;obtain⟨n1,n2,n3⟩:=bH.1 hnd;cases i with
  |zero=>
   simp at hi;subst hi;cases j with
   |zero=>rfl
   |succ j=>
    simp at hj;exact absurd rfl (n3 b Aw b (bg.2 ⟨y,aD hj,hby⟩))
  |succ i=>
   simp at hi;cases j with
   |zero=>
    simp at hj;subst hj;exact absurd rfl (n3 b hby b (bg.2 ⟨x,aD hi,Aw⟩))
   |succ j=>simp at hj;rw[ih n2 i j x y b hi hj Aw hby]
theorem dV.NV(hs:dV Γ st κ Θ a w)(hb:Below w.heap.size w w')(L:List Fs)(hL:∀x∈L,x.ok w')(hnd:(L.flatMap Fs.bl).Nodup)(hfr:∀b∈L.flatMap Fs.bl,w.heap.size<=b/\Wr w' b)
 (n:Nat) (H':bP) (hfree:∀i,i<L.length->κ (n+i)=none) (hlen':st.H.length<=H'.length) (hin:n+L.length<=H'.length)
 (key:∀(j:Nat) y,H'[j]?=some y->(∃i x,j=n+i/\L[i]?=some x/\y=x.ob)\/((j<n\/n+L.length<=j)/\(y=.gone\/st.H[j]?=some y))):
 ∃κ' Θ',dV Γ ⟨st.σ,H'⟩ κ' Θ' a w'/\Names κ' n L/\(∀(j:Nat) v,κ j=some v->κ' j=some v)/\(∀b,b∉L.flatMap Fs.ts->Θ' b=Θ b)/\(∀j,(j<n\/n+L.length<=j)->κ' j=κ j):=by
 let κ':Nat->Option Value:=fun j=>if j<n\/n+L.length<=j then κ j else(L[j-n]?).map Fs.v
 let Θ':Nat->Nat:=fun b=>match ix (fun x:Fs=>x.v.ownBlock==some b) L with|some i=>n+i+2|none=>Θ b
 have hu1:∀(i j:Nat) x y b,L[i]?=some x->L[j]?=some y->b∈x.bl->b∈y.bl->i=j:=fun i j x y b=>vP hnd i j x y b
 have hts:∀(i:Nat) x b,L[i]?=some x->x.v.ownBlock=some b->Θ' b=n+i+2:=by
  intro i x b hi VB;have:ix (fun x:Fs=>x.v.ownBlock==some b) L=some i:=Ej hi (by simp[VB]) (fun j y hj hy=>by
   simp only[cV]at hy;exact hu1 j i y x b hj hi (by simp[Fs.bl,hy]) (by simp[Fs.bl,VB]))
  simp only[Θ',this]
 have hno:∀b,b∉L.flatMap Fs.ts->Θ' b=Θ b:=by
  intro b hb';simp only[Θ'];cases h:ix (fun x:Fs=>x.v.ownBlock==some b) L with
  |none=>rfl
  |some i=>
   obtain⟨x,hx,hp⟩:=ym h;exact absurd (bg.2 ⟨x,aD hx,by simp only[cV]at hp;simp[Fs.ts,hp]⟩) hb'
 have hsub:∀b,b∈L.flatMap Fs.ts->b∈L.flatMap Fs.bl:=by
  intro b h;obtain⟨x,hx,Aw⟩:=bg.1 h;exact bg.2 ⟨x,hx,by simp only[Fs.bl,Fs.ts]at Aw⊢;exact aU.2 (.inl Aw)⟩
 have hold:∀b,b<w.heap.size->Θ' b=Θ b:=fun b hlt=>hno b (fun h=>by have:=(hfr b (hsub b h)).1;omega)
 have hzero:∀b,w.heap.size<=b->Θ b=0:=fun b hge=>by
  cases h:Θ b with
  |zero=>rfl
  |succ m=>exact absurd (hs.own b (by omega)) (by omega)
 have hn:∀(j:Nat) v,κ j=some v->κ' j=some v:=by
  intro j v hj;have:j<n\/n+L.length<=j:=by
   rcases eF j n with h|h
   ·exact .inl h
   ·rcases eF j (n+L.length)with h2|h2
    ·have:=hfree (j-n) (by omega);rw[show n+(j-n)=j from by omega,hj]at this;cases this
    ·exact .inr h2
  simp only[κ'];rw[bL this];exact hj
 have v8:Names κ' n L:=by
  intro i x hx;have hlt:=(aF.1 hx).1;simp only[κ'];rw[b8 (by omega),dQ,hx];rfl
 have hTb:∀b,Θ' b≠0->Θ b≠0\/b∈L.flatMap Fs.bl:=by
  intro b h;by_cases hbt:b∈L.flatMap Fs.ts
  ·exact .inr (hsub b hbt)
  ·rw[hno b hbt]at h;exact .inl h
 have k:iF w w' Θ Θ' (H'.length+2):=by
  refine⟨by omega,hb.os,hb.tape,hb.output,hb.size,fun b hlt _=>hb.block b hlt,fun b hlt _=>hold b hlt,fun b h=>?_⟩;rcases hTb b h with h|h
  ·exact cq (hs.own b h) hb.size
  ·obtain⟨cs,T,hx⟩:=(hfr b h).2;exact(bC.1 hx).1
 have hm:∀b,2<=Θ' b->xL Γ b:=by
  intro b h;by_cases hbt:b∈L.flatMap Fs.ts
  ·exact .inl (dh hs.base (hfr b (hsub b hbt)).1)
  ·rw[hno b hbt]at h;exact hs.mine b h
 obtain⟨ρ,hu⟩:=hs.rR;have s8:=hs.nT k hn hu;let ρ':Nat->Nat:=fun b=>match ix (fun x:Fs=>x.ns.contains b) L with|some i=>n+i+1|none=>ρ b
 have hns:∀(i:Nat) x b,L[i]?=some x->b∈x.ns->ρ' b=n+i+1:=by
  intro i x b hi VB;have:ix (fun x:Fs=>x.ns.contains b) L=some i:=Ej hi (by simpa using VB) (fun j y hj hy=>by
   exact hu1 j i y x b hj hi (by simp only[Fs.bl];exact aU.2 (.inr (by simpa using hy))) (by simp only[Fs.bl];exact aU.2 (.inr VB)))
  simp only[ρ',this]
 have xw:∀(i:Nat) x b,L[i]?=some x->b∈x.ns->Θ' b=0:=by
  intro i x b hi VB;have hmem:b∈L.flatMap Fs.bl:=bg.2 ⟨x,aD hi,by simp only[Fs.bl];exact aU.2 (.inr VB)⟩;rw[hno b ?_]
  ·exact hzero b (hfr b hmem).1
  ·intro h;obtain⟨y,hy,hby⟩:=bg.1 h;obtain⟨j,hj⟩:=eL hy;have:=hu1 j i y x b hj hi (by simp only[Fs.bl,Fs.ts]at hby⊢;exact aU.2 (.inl hby)) (by simp only[Fs.bl];exact aU.2 (.inr VB));subst this;rw[hj]at hi;cases hi;have Ik:x.bl.Nodup:=by
    have:∀(l:List Fs),(l.flatMap Fs.bl).Nodup->∀x∈l,x.bl.Nodup:=by
     intro l
     induction l with
     |nil=>intro _ x hx;cases hx
     |cons z r ih=>
      intro hnd x hx;simp only[cm]at hnd;obtain⟨n1,n2,_⟩:=bH.1 hnd;rcases bE.1 hx with rfl|hx
      ·exact n1
      ·exact ih n2 x hx
    exact this L hnd x hy
   simp only[Fs.bl]at Ik;exact(bH.1 Ik).2.2 b hby b VB rfl
 have hlen:∀i,H'.length<=i->κ' i=none:=by
  intro i hi;simp only[κ'];rw[bL (by omega)];exact hs.ol i (by omega)
 have Lt:∀(j:Nat) y,H'[j]?=some y->j+2≠H'.length+2:=fun j y hj=>by
  have:=(aF.1 hj).1;omega
 refine⟨κ',Θ',?_,v8,hn,hno,fun j hj=>bL hj⟩;have KO:∀b,b<w.heap.size->ρ' b=ρ b:=by
  intro b hlt';simp only[ρ'];cases hi:ix (fun x:Fs=>x.ns.contains b) L with
  |none=>rfl
  |some i=>
   obtain⟨x,hx,hp⟩:=ym hi;have:=(hfr b (bg.2 ⟨x,aD hx,by simp only[Fs.bl];exact aU.2 (.inr (by simpa using hp))⟩)).1;omega
 have a0u:∀b,ρ b≠0->b<w.heap.size:=fun b hb'=>by
  obtain⟨_,_,cs',T,hx⟩:=hu.free b hb';exact(bC.1 hx).1
 refine hs.step k hm hn hlen ?_ ?_ ⟨ρ',?_,?_,?_⟩
 ·intro i u vV;simp only[κ']at vV;split at vV
  ·exact hs.o6 i u vV
  ·cases hx:L[i-n]? with
   |none=>simp[hx]at vV
   |some x=>simp[hx]at vV;subst vV;exact(hL x (aD hx)).2.2.2.2
 ·intro j y hj;have hjl:=Lt j y hj;rcases key j y hj with⟨i,x,rfl,hx,rfl⟩|⟨hlt,hy|hy⟩
  ·obtain⟨q1,q2,q3,q4,_⟩:=hL x (aD hx);exact .inr (.inr ⟨q1,q2,x.v,x.cs,x.ns,v8 i x hx,q3,q4.rd,fun g hg=>hts i x g hx hg,fun b hb'=>xw i x b hx hb'⟩)
  ·exact .inl hy
  ·exact .inr (.inl ⟨hjl,hy⟩)
 ·intro b hb';by_cases h:∃(i:Nat) (x:Fs),L[i]?=some x/\b∈x.ns
  ·obtain⟨i,x,hx,Aw⟩:=h;have hmem:b∈L.flatMap Fs.bl:=bg.2 ⟨x,aD hx,by simp only[Fs.bl];exact aU.2 (.inr Aw)⟩;exact⟨xw i x b hx Aw,.inl (.inl (dh hs.base (hfr b hmem).1)),(hfr b hmem).2⟩
  ·have:ρ' b=ρ b:=by
    simp only[ρ'];cases hi:ix (fun x:Fs=>x.ns.contains b) L with
    |none=>rfl
    |some i=>
     obtain⟨x,hx,hp⟩:=ym hi;exact absurd ⟨i,x,hx,by simpa using hp⟩ h
   rw[this]at hb';exact s8.1 b hb'
 ·intro j e sz rows hj;have hjl:=Lt j _ hj;rcases key j _ hj with⟨i,x,rfl,hx,hy⟩|⟨hlt,hy|hy⟩
  ·simp only[Fs.ob,Ob.row.injEq,qt]at hy;obtain⟨rfl,rfl,rfl⟩:=hy;obtain⟨q1,q2,q3,q4,_⟩:=hL x (aD hx);have Ik:x.ns.Nodup:=by
    have:∀(l:List Fs),(l.flatMap Fs.bl).Nodup->∀x∈l,x.bl.Nodup:=by
     intro l
     induction l with
     |nil=>intro _ x hx;cases hx
     |cons z r ih=>
      intro hnd x hx;simp only[cm]at hnd;obtain⟨n1,n2,_⟩:=bH.1 hnd;rcases bE.1 hx with rfl|hx
      ·exact n1
      ·exact ih n2 x hx
    exact(bH.1 (this L hnd x (aD hx))).2.1
   exact⟨x.v,x.cs,x.ns,v8 i x hx,q3,q4,Ik,fun b hb'=>hns i x b hx hb'⟩
  ·cases hy
  ·obtain⟨v,cs,bs,q1,q2,q3,q4,q5⟩:=s8.2.1 j e sz rows hjl hy;exact⟨v,cs,bs,q1,q2,q3,q4,fun b hb'=>(KO b (a0u b (by rw[q5 b hb'];omega))).trans (q5 b hb')⟩
 ·intro j y hj;have hjl:=Lt j _ hj;rcases key j _ hj with⟨i,x,rfl,hx,hy⟩|⟨hlt,hy|hy⟩
  ·subst hy;exact JQ.wF rfl
  ·subst hy;trivial
  ·exact(s8.2.2 j y hjl hy).re fun b hb'=>(KO b (a0u b (by omega))).trans hb'
theorem dV.Zl(hs:dV Γ st κ Θ a w)(hb:Below w.heap.size w w')(L:List Fs)(hL:∀x∈L,x.ok w')(hnd:(L.flatMap Fs.bl).Nodup)(hfr:∀b∈L.flatMap Fs.bl,w.heap.size<=b/\Wr w' b):
 ∃κ' Θ',dV Γ ⟨st.σ,st.H++L.map Fs.ob⟩ κ' Θ' a w'/\Names κ' st.H.length L/\(∀(j:Nat) v,κ j=some v->κ' j=some v)/\(∀b,b∉L.flatMap Fs.ts->Θ' b=Θ b):=by
 obtain⟨κ',Θ',h1,h2,h3,h4,_⟩:=hs.NV hb L hL hnd hfr st.H.length (st.H++L.map Fs.ob) (fun i _=>hs.ol _ (by omega)) (by simp) (by simp) (by
  intro j y hj;by_cases hlt:j<st.H.length
  ·rw[av hlt]at hj;exact .inr ⟨.inl hlt,.inr hj⟩
  ·rw[az (by omega),bu]at hj;cases hx:L[j-st.H.length]? with
   |none=>simp[hx]at hj
   |some x=>simp[hx]at hj;exact .inl ⟨j-st.H.length,x,by omega,hx,hj.symm⟩)
 exact⟨κ',Θ',h1,h2,h3,h4⟩
def VD(H:bP)(d:D):Option (D×aW):=match d with
 | .acc m=>(match H[m]? with|some (.row _ _ _ rows)=>some (.sl rows,[m])|some (.vW _ rows _)=>some (.sl rows,[m])|some (.tk rows)=>some (.sl rows,[])|_=>none)
 | .ptr _ _=>none
 | .op _ _ _ _=>none
 |d=>some (d.Bk,[])
def Qv(H:bP):aL->Option (aL×aW)
 | []=>some ([],[])
 |d::ds=>match VD H d,Qv H ds with|some (e,m),some (es,ms)=>some (e::es,m++ms)|_,_=>none
def YN(H:bP)(d:D):Option (D×aW):=match d with
 | .agg cs=>(match Qv H cs with|some (es,ms)=>some (.agg es,ms)|none=>none)
 | .gw _=>none
 |d=>VD H d
def GG(H:bP):aL->Option (aL×aW)
 | []=>some ([],[])
 |d::ds=>match YN H d,GG H ds with|some (e,m),some (es,ms)=>some (e::es,m++ms)|_,_=>none
def Seen(Θ:Nat->Nat)(ms:aW)(b:Nat):Prop:=Θ b=0\/∃m∈ms,Θ b=m+2
theorem Seen.mono{ms ns:aW}{b:Nat}(h:Seen Θ ms b)(hs:∀m∈ms,m∈ns):Seen Θ ns b:=by
 rcases h with h|⟨m,h1,h2⟩
 ·exact .inl h
 ·exact .inr ⟨m,hs m h1,h2⟩
theorem YM(hs:dV Γ st κ Θ a w){v:Value}{d e:D}{bs:aW}{ms:aW}(h:VD st.H d=some (e,ms))(hr:yQ w κ v d bs)(hz:∀b∈bs,Θ b=0):∃b',Rd w v e b'/\∀b∈b',Seen Θ ms b:=by
 cases hr with
 |pure hr=>
  have:VD st.H d=some (d.Bk,[]):=by cases hr<;>rfl
  rw[this]at h;cases h;exact⟨bs,hr.soft,fun b hb=>.inl (hz b hb)⟩
 |acc m _ hk=>
  simp only[VD]at h;split at h
  ·rename_i k e' sz rows hH;cases h;obtain⟨_,hrl,v2,cs,b2,hk2,hown,qk,hΘ,hd⟩:=hs.ob m _ hH;rw[hk]at hk2;cases hk2;refine⟨_,vB hrl hown qk,fun b hb=>?_⟩;rcases aU.1 hb with hb|hb
   ·simp only[kx]at hb;exact .inr ⟨m,by simp,hΘ b hb⟩
   ·cases k with
    |cl=>exact .inr ⟨m,by simp,(hd.2.1 b hb).1⟩
    |sh=>exact .inl (hd b hb)
    |uq=>exact .inl (hd b hb)
    |mv n=>exact .inl (hd b hb)
    |ho p n=>exact .inl (hd b hb)
  ·rename_i sz rows u hH;cases h;obtain⟨_,_,v2,b2,hk2,hrd,_,Df⟩:=hs.ob m _ hH;rw[hk]at hk2;cases hk2;exact⟨b2,hrd,fun b hb=>.inr ⟨m,by simp,(Df b hb).1⟩⟩
  ·rename_i rows hH;cases h;obtain⟨v2,b2,hk2,hrd,Ro⟩:=hs.ob m _ hH;rw[hk]at hk2;cases hk2;exact⟨b2,hrd,fun b hb=>.inl (Ro b hb)⟩
  ·cases h
 |ptr=>simp[VD]at h
 |op=>simp[VD]at h
theorem a0Y(hs:dV Γ st κ Θ a w):∀ {ds es:aL} {vs:bZ} {bs ms:aW},Qv st.H ds=some (es,ms)->fH w κ vs ds bs->(∀b∈bs,Θ b=0)->∃b',mR w vs es b'/\∀b∈b',Seen Θ ms b:=by
 intro ds
 induction ds with
 |nil=>
  intro es vs bs ms h hr _;simp only[Qv,aj,cY]at h;obtain⟨rfl,rfl⟩:=h;cases hr;exact⟨[],.nil,by simp⟩
 |cons d ds ih=>
  intro es vs bs ms h hr hz;simp only[Qv]at h;split at h
  ·rename_i e m es' ms' h1 h2;cases h;cases hr with
   |cons v vs _ _ b1 b2 hv hc hcs=>
    obtain⟨c1,q1,q2⟩:=YM hs h1 hc (fun b hb=>hz b (by simp[hb]));obtain⟨c2,p1,p2⟩:=ih h2 hcs (fun b hb=>hz b (by simp[hb]));refine⟨c1++c2,.cons _ _ _ _ _ _ hv q1 p1,fun b hb=>?_⟩;rcases aU.1 hb with hb|hb
    ·exact(q2 b hb).mono (fun m hm=>by simp[hm])
    ·exact(p2 b hb).mono (fun m hm=>by simp[hm])
  ·cases h
theorem a3v(hs:dV Γ st κ Θ a w){v:Value}{d e:D}{bs ms:aW}(h:YN st.H d=some (e,ms))(hr:rS w κ v d bs)(hz:∀b∈bs,Θ b=0):∃b',Rd w v e b'/\∀b∈b',Seen Θ ms b:=by
 by_cases tF:∃ds,d=.agg ds
 ·obtain⟨ds,rfl⟩:=tF;obtain⟨cs,rfl,hcs⟩:=hr.F7;simp only[YN]at h;split at h
  ·rename_i es ms' h1;cases h;obtain⟨b',q1,q2⟩:=a0Y hs h1 hcs hz;exact⟨b',.agg _ _ _ q1,q2⟩
  ·cases h
 ·have hc:yQ w κ v d bs:=by
   cases hr with
   |v hr=>cases hr with
    |cell hr=>exact hr
    |agg=>exact absurd ⟨_,rfl⟩ tF
   |gw=>simp[YN]at h
  have e1:YN st.H d=VD st.H d:=by
   cases d<;>first|rfl|exact absurd ⟨_,rfl⟩ tF|simp[YN]at h
  rw[e1]at h;exact YM hs h hc hz
theorem LD(hs:dV Γ st κ Θ a w):∀ {xs:List Operand} {es:aL} {ms:aW},GG st.H (xs.map st.ev)=some (es,ms)->∃b',Sf w (xs.map a.eval) es b'/\∀b∈b',Seen Θ ms b:=by
 intro xs
 induction xs with
 |nil=>
  intro es ms h;simp only[bt,GG,aj,cY]at h;obtain⟨rfl,rfl⟩:=h;exact⟨[],.nil,by simp⟩
 |cons x xs ih=>
  intro es ms h;simp only[ay,GG]at h;split at h
  ·rename_i e m es' ms' h1 h2;cases h;obtain⟨b0,r0,z0⟩:=hs.ev x;obtain⟨c1,q1,q2⟩:=a3v hs h1 r0 z0;obtain⟨c2,p1,p2⟩:=ih h2;refine⟨c1++c2,.cons _ _ _ _ _ _ q1 p1,fun b hb=>?_⟩;rcases aU.1 hb with hb|hb
   ·exact(q2 b hb).mono (fun m hm=>by simp[hm])
   ·exact(p2 b hb).mono (fun m hm=>by simp[hm])
  ·cases h
def D.Yl(d:D):D:=match d with
 | .fr _ _ rows=>.sl rows
 |d=>d
def D.VC(d:D):D:=match d with
 | .agg cs=>.agg (cs.map D.Yl)
 |d=>d.Yl
theorem tK.Co{w:World}:∀ {ds:aL} {vs:bZ} {bs:aW},mR w vs ds bs->tK w vs ds bs [] []:=by
 intro ds
 induction ds with
 |nil=>intro vs bs h;cases h;exact .nil
 |cons d ds ih=>
  intro vs bs h;cases h with
  |cons v vs _ _ b1 b2 h1 h2 h3=>exact .cons _ _ _ _ _ _ [] [] [] [] h1 (.pure h2) (ih h3)
theorem FK.CY{w:World}{v:Value}{d:D}{bs ts us:aW}(h:FK w v d bs ts us):∃b,Rd w v d.Yl b/\∀x∈b,x∈bs\/x∈us:=by
 cases h with
 |pure h=>
  have e:d.Yl=d:=by cases h<;>rfl
  exact⟨_,e.symm▸h,fun x hx=>.inl hx⟩
 |fr e sz rows cs ns h1 h2 h3 h4 h5=>exact⟨_,vB h2 h3 h4.rd,fun x hx=>.inr hx⟩
theorem tK.CY{w:World}{vs:bZ}{ds:aL}{bs ts us:aW}(h:tK w vs ds bs ts us):∃b,mR w vs (ds.map D.Yl) b/\∀x∈b,x∈bs\/x∈us:=by
 induction h with
 |nil=>exact⟨_,.nil,by simp⟩
 |cons v vs d ds b1 b2 t1 t2 u1 u2 h1 h2 _ ih=>
  obtain⟨b,q,s⟩:=h2.CY;obtain⟨b',q',s'⟩:=ih;refine⟨_,.cons _ _ _ _ _ _ h1 q q',fun x hx=>?_⟩;rcases aU.1 hx with h|h
  ·rcases s x h with h|h<;>simp[h]
  ·rcases s' x h with h|h<;>simp[h]
theorem FL.CY{w:World}{v:Value}{d:D}{bs ts us:aW}(h:FL w v d bs ts us):∃b,Rd w v d.VC b/\∀x∈b,x∈bs\/x∈us:=by
 cases h with
 |cell h=>
  by_cases tF:∃ds,d=.agg ds
  ·obtain⟨ds,rfl⟩:=tF;cases h with
   |pure h=>cases h with
    |agg cs _ _ h=>
     obtain⟨b,q,s⟩:=(tK.Co h).CY;exact⟨_,.agg _ _ _ q,s⟩
  ·have e:d.VC=d.Yl:=by cases d<;>first|rfl|exact absurd ⟨_,rfl⟩ tF
   rw[e];exact h.CY
 |agg cs ds bs ts us h=>
  obtain⟨b,q,s⟩:=h.CY;exact⟨_,.agg _ _ _ q,s⟩
def D.Ud(d:D):Bool:=match d with
 | .fr _ _ _=>true
 |d=>d.flat
def D.QY(d:D):Bool:=match d with
 | .agg cs=>cs.all D.Ud
 |d=>d.Ud
def D.MM(d:D):Bool:=match d with
 | .gw vs=>vs.all D.QY
 |d=>d.QY
def D.a3I(d:D):Bool:=match d with
 | .gw _=>false
 |d=>d.QY
theorem FK.own{v:Value}{d:D}{bs ts us:aW}(h:FK w v d bs ts us)(ho:d.Ud=true):bs=[]:=by
 cases h with
 |pure h=>exact h.flat (by cases h<;>exact ho)
 |fr=>rfl
theorem tK.own{vs:bZ}{ds:aL}{bs ts us:aW}(h:tK w vs ds bs ts us)(ho:ds.all D.Ud=true):bs=[]:=by
 induction h with
 |nil=>rfl
 |cons v vs d ds b1 b2 t1 t2 u1 u2 h1 h2 _ ih=>
  simp only[dD,aR]at ho;rw[h2.own ho.1,ih ho.2];rfl
theorem FL.own{v:Value}{d:D}{bs ts us:aW}(h:FL w v d bs ts us)(ho:d.QY=true):bs=[]:=by
 cases h with
 |cell h=>
  by_cases tF:∃ds,d=.agg ds
  ·obtain⟨ds,rfl⟩:=tF;cases h with
   |pure h=>
    cases h with
    |agg cs _ _ h=>
     simp only[D.QY]at ho;have:∀(es:aL) (vs:bZ) (b:aW),mR w vs es b->es.all D.Ud=true->es.all D.flat=true:=by
      intro es
      induction es with
      |nil=>intros;rfl
      |cons e es ih=>
       intro vs b hh ho;simp only[dD,aR]at ho⊢;cases hh with
       |cons v vs _ _ b1 b2 _ h2 h3=>exact⟨by cases h2<;>exact ho.1,ih _ _ h3 ho.2⟩
     exact mR.flat h (this _ _ _ h ho)
  ·have e:d.QY=d.Ud:=by cases d<;>first|rfl|exact absurd ⟨_,rfl⟩ tF
   exact h.own (e▸ho)
 |agg cs ds bs ts us h=>exact h.own ho
theorem AH.own{vs:bZ}{ds:aL}{bs ts us:aW}(h:AH w vs ds bs ts us)(ho:ds.all D.QY=true):bs=[]:=by
 induction h with
 |nil=>rfl
 |cons v vs d ds b1 b2 t1 t2 u1 u2 h2 _ ih=>
  simp only[dD,aR]at ho;rw[h2.own ho.1,ih ho.2];rfl
theorem zE.own{v:Value}{d:D}{bs ts us:aW}(h:zE w v d bs ts us)(ho:d.MM=true):bs=[]:=by
 cases h with
 |v h=>
  have hnt:∀vs,d≠ .gw vs:=by
   intro vs e;subst e;cases h with
   |cell h=>cases h with|pure h=>cases h
  have e:d.MM=d.QY:=by cases d<;>first|rfl|exact absurd rfl (hnt _)
  exact h.own (e▸ho)
 |gw vs ds bs ts us h=>exact h.own ho
theorem wG{o:Oper}{f:FuncId}{xs:Array Operand}{ts:Array TypeId}(hop:o.op=.call {callee:=.value (.func f),args:=xs,argTypes:=ts})
 (hf:∃fn,P.funcs[f]?=some fn/\fn.body.isSome=true/\(fn.name== "runtime.NumGoroutine")=false):
 (execOp a.eval o).run P w=.ok (.enter f (xs.map a.eval)) w:=by
 obtain⟨fn,h1,h2,h3⟩:=hf;have h2':¬fn.body=none:=by intro hb;simp[hb]at h2
 simp only[cu,ne_eq]at h3;simp[execOp,hop,resolve,Deferred.ofValue,Act.eval,invoke,callFunc,h1,h2',h3]
theorem Pk{Q':Exit->Act->World->Prop}{K:Act->World->Prop}{o:Oper}{f t:Nat}{xs:Array Operand}{ts:Array TypeId}{ds:aL}{ms:aW}{d:D}(hs:dV Γ st κ Θ a w)
 (hop:o.op=.call {callee:=.value (.func f),args:=xs,argTypes:=ts}) (hd:o.dst=some t) (ht:t<Γ.nt) (hds:∃bs,Sf w (xs.toList.map a.eval) ds bs/\∀b∈bs,Seen Θ ms b) (hsh:ms=[]\/d.MM=true)
 (nQ:Good P f ds d) (hK:∀κ' Θ' a' w',dV Γ ⟨(t,(oF st.H.length d).1)::st.σ,st.H++(oF st.H.length d).2⟩ κ' Θ' a' w'->K a' w'):o.wp P a w K Q':=by
 obtain⟨bs,hargs,hz⟩:=hds;let Θc:Nat->Nat:=fun b=>if Θ b=0\/ms.any (fun m=>Θ b==m+2)then 0 else 1
 have KN:∀b,Seen Θ ms b->Θc b=0:=by
  intro b h;simp only[Θc];rw[bL];rcases h with h|⟨m,h1,h2⟩
  ·exact .inl h
  ·exact .inr (cz.2 ⟨m,h1,by simp[h2]⟩)
 have hc:=nQ.2 w Θc _ bs hs.vok hargs (fun b hb=>KN b (hz b hb)) (fun b hb=>hs.own b (fun e=>hb (KN b (.inl e)))) (fun b=>by simp only[Θc];split<;>omega);unfold Oper.wp;rw[wG hop nQ.1,Oper.upon_enter];have e:xs.map a.eval=(xs.toList.map a.eval).toArray:=by rw[<-gm,k6]
 rw[e];refine hc.mono ?_;rintro e w' ⟨v,bs',tb,ub,rfl,hb,hr,Mm,htb,hnd,hfr,hsub⟩;show K (a.put o.dst v) w';rw[hd];obtain⟨L,q1,q2,q3,q4,q5⟩:=hr.inst st.H.length;obtain⟨κ',Θ',hs',hnm,_,hno⟩:=hs.Zl hb L q2 (q3▸hnd) (fun b hb'=>hfr b (q3▸hb'));rw[q1]at hs';refine hK κ' Θ' _ w' (hs'.set (t:=t) ht (q5 κ' hnm) fun b hb'=>?_);rw[hno b (q4▸htb b hb')];rcases hsh with Lu|hown
 ·by_cases hlt:b<w.heap.size
  ·have h0:=Mm b hb' hlt;simp only[Θc,Lu,Hh]at h0;by_cases h1:Θ b=0
   ·exact h1
   ·simp[h1]at h0
  ·by_cases h0:Θ b=0
   ·exact h0
   ·exact absurd (hs.own b h0) hlt
 ·rw[hr.own hown]at hb';cases hb'
theorem Z8{Q':Exit->Act->World->Prop}{K:Act->World->Prop}{o:Oper}{f t:Nat}{xs:Array Operand}{ts:Array TypeId}{ds:aL}{ms:aW}{d:D}(hs:dV Γ st κ Θ a w)
 (hop:o.op=.call {callee:=.value (.func f),args:=xs,argTypes:=ts}) (hd:o.dst=some t) (ht:t<Γ.nt) (hds:GG st.H (xs.toList.map st.ev)=some (ds,ms)) (hsh:ms=[]\/d.MM=true)
 (nQ:Good P f ds d) (hK:∀κ' Θ' a' w',dV Γ ⟨(t,(oF st.H.length d).1)::st.σ,st.H++(oF st.H.length d).2⟩ κ' Θ' a' w'->K a' w'):o.wp P a w K Q':=
 Pk hs hop hd ht (LD hs hds) hsh nQ hK
def KR(d:D):Bool:=match d with
 | .agg cs=>cs.all D.PI
 | .gw _=>false
 |d=>d.PI
theorem Wx{v:Value}{d:D}{bs:aW}(hr:rS w κ v d bs)(h:KR d=true):Rd w v d bs:=by
 by_cases tF:∃ds,d=.agg ds
 ·obtain⟨ds,rfl⟩:=tF;obtain⟨cs,rfl,hcs⟩:=hr.F7;exact .agg _ _ _ (hcs.pure h)
 ·have hp:d.PI=true:=by
   cases d<;>first|exact h|exact absurd ⟨_,rfl⟩ tF|simp[KR]at h
  cases hr with
  |v hr=>cases hr with
   |cell hr=>cases hr with
    |pure hr=>exact hr
    |acc=>simp[D.PI]at hp
    |ptr=>simp[D.PI]at hp
    |op=>simp[D.PI]at hp
   |agg=>exact absurd ⟨_,rfl⟩ tF
  |gw=>simp[KR]at h
theorem NW(hs:dV Γ st κ Θ a w):∀ {xs:List Operand},(xs.map st.ev).all KR=true->∃b',Sf w (xs.map a.eval) (xs.map st.ev) b'/\∀b∈b',Seen Θ [] b:=by
 intro xs
 induction xs with
 |nil=>intro _;exact⟨[],.nil,by simp⟩
 |cons x xs ih=>
  intro h;simp only[ay,dD,aR]at h;obtain⟨b0,r0,z0⟩:=hs.ev x;obtain⟨c2,p1,p2⟩:=ih h.2;refine⟨b0++c2,.cons _ _ _ _ _ _ (Wx r0 h.1) p1,fun b hb=>?_⟩;rcases aU.1 hb with hb|hb
  ·exact .inl (z0 b hb)
  ·exact p2 b hb
theorem VI{o:Oper}{f t:Nat}{xs:Array Operand}{ts:Array TypeId}{d:D}(hop:o.op=.call {callee:=.value (.func f),args:=xs,argTypes:=ts})(hd:o.dst=some t)(hg:o.guard=none)
 (ht:t<Γ.nt) (hk:(xs.toList.map st.ev).all KR=true) (nQ:Good P f (xs.toList.map st.ev) d)
 (h:AO P Γ all rest Q ⟨(t,(oF st.H.length d).1)::st.σ,st.H++(oF st.H.length d).2⟩):AO P Γ all (o::rest) Q st:=by
 intro κ Θ a w hs;exact wpList_plain hg fun K hK=>Pk hs hop hd ht (NW hs hk) (.inl rfl) nQ fun κ' Θ' a' w' hs'=>hK _ _ (h κ' Θ' a' w' hs')
theorem Yp{o:Oper}{f t:Nat}{xs:Array Operand}{ts:Array TypeId}{ds:aL}{ms:aW}{d:D}(hop:o.op=.call {callee:=.value (.func f),args:=xs,argTypes:=ts})(hd:o.dst=some t)(hg:o.guard=none)
 (ht:t<Γ.nt) (hds:GG st.H (xs.toList.map st.ev)=some (ds,ms)) (hsh:ms=[]\/d.MM=true) (nQ:Good P f ds d)
 (h:AO P Γ all rest Q ⟨(t,(oF st.H.length d).1)::st.σ,st.H++(oF st.H.length d).2⟩):AO P Γ all (o::rest) Q st:=by
 intro κ Θ a w hs;exact wpList_plain hg fun K hK=>Z8 hs hop hd ht hds hsh nQ fun κ' Θ' a' w' hs'=>hK _ _ (h κ' Θ' a' w' hs')
def XU(P:Program)(st:St):ResultVar->Option D
 | .tmp t=>some (lk st.σ t)
 | .cell x T=>match zz P T,lk st.σ x with
  |some ag,.ptr id off=>(match(st.H[id]?).bind Ob.Sx with|some cells=>GY ag (z6 P T) cells off|none=>none)
  |_,_=>none
def GZ(P:Program)(st:St):List ResultVar->Option aL
 | []=>some []
 |r::rs=>match XU P st r,GZ P st rs with|some d,some ds=>some (d::ds)|_,_=>none
def XW(tmps:Array Value):ResultVar->Sem Value
 | .tmp t=>pure (tmps.getD t undef)
 | .cell a t=>do loadVar t (<-asAddr (tmps.getD a undef))
theorem results_eq(fn:Func)(tmps:Array Value):results fn tmps=(do let vs<-fn.results.mapM (XW tmps);pure (if h:vs.size=1 then vs[0]else .tuple vs)):=by
 unfold results
 congr 1
theorem XV(hs:dV Γ st κ Θ a w){r:ResultVar}{d:D}(h:XU P st r=some d):
 ∃v bs,(XW a.tmps r).run P w=.ok v w/\rS w κ v d bs/\∀b∈bs,Θ b=0:=by
 cases r with
 |tmp t=>
  simp only[XU,aj]at h;subst h;obtain⟨bs,hr,hz⟩:=hs.slot t;exact⟨_,bs,by simp[XW],hr,hz⟩
 |cell x T=>
  have hp:pv P st (.load T (.tmp x))=some d:=by
   simp only[XU]at h;split at h
   ·rename_i ag id off h1 h2;simp only[pv,h1,St.ev,h2];exact h
   ·cases h
  obtain⟨v,bs,hrun,hr,hz⟩:=M8 (o:= {(default:Oper)with op:=.load T (.tmp x)}) hs rfl hp;refine⟨v,bs,?_,hr,hz⟩;simp only[execOp,Act.eval]at hrun;have a8J:∃b off,a.tmps.getD x undef=.pointer (some ⟨b,off,none⟩):=by
   simp only[XU]at h;split at h
   ·rename_i ag id off h1 h2;obtain⟨b0,r0,_⟩:=hs.slot x;rw[h2]at r0;obtain⟨g,_,hv⟩:=r0.yq;exact⟨g,off,hv⟩
   ·cases h
  obtain⟨b,off,hv⟩:=a8J;simp only[XW,hv]at hrun⊢;simp only[Instr.loadAt,Instr.sureAddr,Sem.run_bind,Sem.run_pure,Result.andThen_ok]at hrun;simp only[asAddr,Sem.run_bind,Sem.run_pure,Result.andThen_ok];cases hl:(loadVar T ⟨b,off,none⟩).run P w with
  |ok u w1=>simp only[hl,Result.andThen_ok,Result.ok.injEq,Next.value.injEq]at hrun;rw[hrun.1,hrun.2]
  |halt u w1=>simp[hl]at hrun
theorem Bi(hs:dV Γ st κ Θ a w):∀ {rs:List ResultVar} {ds:aL},GZ P st rs=some ds->
 ∃(vs:bZ) (bs:aW),(rs.mapM (XW a.tmps)).run P w=.ok vs w/\
  vs.length=rs.length/\ds.length=rs.length/\(∀(i:Nat) d,ds[i]?=some d->∃v b,vs[i]?=some v/\rS w κ v d b/\∀x∈b,x∈bs)/\∀b∈bs,Θ b=0:=by
 intro rs
 induction rs with
 |nil=>
  intro ds h;simp only[GZ,aj]at h;subst h;exact⟨[],[],by simp,rfl,rfl,by simp,by simp⟩
 |cons r rs ih=>
  intro ds h;simp only[GZ]at h;split at h
  ·rename_i d ds' h1 h2;cases h;obtain⟨v,b,k1,k2,k3⟩:=XV hs h1;obtain⟨vs,bs,m1,m2,m3,m4,m5⟩:=ih h2;refine⟨v::vs,b++bs,?_,by simp[m2],by simp[m3],?_,?_⟩
   ·simp only[Dh,Sem.run_bind,k1,Result.andThen_ok,m1,Sem.run_pure]
   ·intro i x hx;cases i with
    |zero=>simp at hx;subst hx;exact⟨v,b,by simp,k2,by intro y hy;simp[hy]⟩
    |succ i=>
     simp at hx;obtain⟨u,b',q1,q2,q3⟩:=m4 i x hx;exact⟨u,b',by simpa using q1,q2,fun y hy=>by simp[q3 y hy]⟩
   ·intro y hy;rcases aU.1 hy with hy|hy
    ·exact k3 y hy
    ·exact m5 y hy
  ·cases h
def J1:aL->D
 | [d]=>d
 |ds=>.gw ds
def vl:Nat->aL->List (Nat×D)
 |_,[]=>[]
 |k,d::ds=>(k,d)::vl (k+1) ds
theorem Ep:∀(ds:aL) (k t:Nat),lk (vl k ds) t=if t<k then .any else(ds[t-k]?).getD .any:=by
 intro ds
 induction ds with
 |nil=>intro k t;simp[vl,lk]
 |cons d ds ih=>
  intro k t;simp only[vl,lk];by_cases h:t=k
  ·subst h;simp
  ·rw[b8 h,ih];by_cases h1:t<k
   ·rw[bL (by omega),bL h1]
   ·rw[b8 (by omega),b8 h1];have:t-k=(t-(k+1))+1:=by omega
    rw[this,ff]
theorem Sf.at{vs:bZ}{ds:aL}{bs:aW}(h:Sf w vs ds bs):vs.length=ds.length/\∀(i:Nat) d,ds[i]?=some d->∃v b,vs[i]?=some v/\Rd w v d b/\∀x∈b,x∈bs:=by
 induction ds generalizing vs bs with
 |nil=>cases h;exact⟨rfl,by simp⟩
 |cons e ds ih=>
  cases h with
  |cons v vs _ _ b1 b2 h2 h3=>
   obtain⟨l,hi⟩:=ih h3;refine⟨by simp[l],fun i d hd=>?_⟩;cases i with
   |zero=>simp at hd;subst hd;exact⟨v,b1,by simp,h2,by intro x hx;simp[hx]⟩
   |succ i=>
    simp at hd;obtain⟨u,b,k1,k3,k4⟩:=hi i d hd;exact⟨u,b,by simpa using k1,k3,fun x hx=>by simp[k4 x hx]⟩
def iE(d:D):Prop:=∃w v bs,Rd w v d bs
theorem mR.rdb{vs:bZ}{ds:aL}{bs:aW}(h:mR w vs ds bs):∀d∈ds,iE d:=by
 intro d hd;obtain⟨i,hi,rfl⟩:=eM.1 hd;obtain⟨v,b,_,_,hr,_⟩:=h.at (aa hi);exact⟨w,v,b,hr⟩
theorem iE.agg{ds:aL}(h:iE (.agg ds)):∀d∈ds,iE d:=by
 obtain⟨w,v,bs,h⟩:=h;cases h with|agg cs _ _ hx=>exact hx.rdb
theorem iE.sl{rows:List aL}(h:iE (.sl rows)):rows.length<=maxLen/\∀r∈rows,∀d∈r,iE d:=by
 obtain⟨w,v,bs,h⟩:=h;cases h with
 |wI=>simp
 |lP=>simp
 |sl b off cap sz _ cs bs hb h1 h2 h3 h4 h5=>
  exact⟨by omega,fun r hr d hd=>h5.rdb d (fF.2 ⟨r,hr,hd⟩)⟩
theorem Sf.rdb{vs:bZ}{ds:aL}{bs:aW}(h:Sf w vs ds bs):∀d∈ds,iE d:=by
 intro d hd;obtain⟨i,hi,rfl⟩:=eM.1 hd;obtain⟨v,b,_,hr,_⟩:=h.at.2 i _ (aa hi);exact⟨w,v,b,hr⟩
def XJ(z:Option (Nat×Nat))(d:D):D:=match d,z with
 | .nil,some (e,sz+1)=>.fr e (sz+1) []
 |d,_=>d.Bk
def Db(H:bP)(z:Option (Nat×Nat))(d:D):Option (D×aW×aW):=match d with
 | .acc m=>(match H[m]? with|some (.row k e sz rows)=>(match k with| .uq=>some (.fr e sz rows,[],[m])| .sh=>some (.sl rows,[m],[])| .cl=>none| .mv _=>none| .ho _ _=>none)|_=>none)
 | .ptr _ _=>none
 | .op _ _ _ _=>none
 | .agg _=>none
 | .gw _=>none
 |d=>some (XJ z d,[],[])
def KZ(H:bP):List (Option (Nat×Nat))->aL->Option (aL×aW×aW)
 |_,[]=>some ([],[],[])
 |zs,d::ds=>match Db H zs.head?.join d,KZ H zs.tail ds with|some (e,m,q),some (es,ms,qs)=>some (e::es,m++ms,q++qs)|_,_=>none
def S8(H:bP)(zs:List (Option (Nat×Nat)))(d:D):Option (D×aW×aW):=match d with
 | .agg cs=>(match KZ H zs cs with|some (es,ms,qs)=>some (.agg es,ms,qs)|none=>none)
 |d=>Db H zs.head?.join d
def zw(H:bP):List (List (Option (Nat×Nat)))->aL->Option (aL×aW×aW)
 |_,[]=>some ([],[],[])
 |zs,d::ds=>match S8 H (zs.head?.getD []) d,zw H zs.tail ds with|some (e,m,q),some (es,ms,qs)=>some (e::es,m++ms,q++qs)|_,_=>none
def O3(P:Program)(fn:Func)(d:D)(e:Exit)(st:St):Prop:=
 (e=.ret\/e=.normal)/\∃nz ds es ms qs,GZ P st fn.results.toList=some ds/\zw st.H nz ds=some (es,ms,qs)/\ms.Nodup/\qs.Nodup/\J1 es=d
structure RP(Θ ρ:Nat->Nat)(qs bs ts us:List Nat):Prop where
 zero:∀b∈bs,Θ b=0
 top:∀b∈ts,(∃m∈qs,Θ b=m+2)/\b∈us
 mem:∀b∈us,b∈ts\/∃m∈qs,ρ b=m+1
 nd:us.Nodup
theorem RP.nil{ρ:Nat->Nat}{bs:aW}(h:∀b∈bs,Θ b=0):RP Θ ρ [] bs [] []:=⟨h,by simp,by simp,by simp⟩
theorem RP.app{ρ:Nat->Nat}{q1 q2 b1 b2 t1 t2 u1 u2:aW}(hf:∀b,ρ b≠0->Θ b=0)(hq:(q1++q2).Nodup)(h1:RP Θ ρ q1 b1 t1 u1)(h2:RP Θ ρ q2 b2 t2 u2):RP Θ ρ (q1++q2) (b1++b2) (t1++t2) (u1++u2):=by
 refine⟨fun b hb=>?_,fun b hb=>?_,fun b hb=>?_,bH.2 ⟨h1.nd,h2.nd,fun x hx y hy e=>?_⟩⟩
 ·rcases aU.1 hb with hb|hb
  ·exact h1.zero b hb
  ·exact h2.zero b hb
 ·rcases aU.1 hb with hb|hb
  ·obtain⟨⟨m,p,q⟩,r⟩:=h1.top b hb;exact⟨⟨m,by simp[p],q⟩,by simp[r]⟩
  ·obtain⟨⟨m,p,q⟩,r⟩:=h2.top b hb;exact⟨⟨m,by simp[p],q⟩,by simp[r]⟩
 ·rcases aU.1 hb with hb|hb
  ·rcases h1.mem b hb with h|⟨m,p,q⟩
   ·exact .inl (by simp[h])
   ·exact .inr ⟨m,by simp[p],q⟩
  ·rcases h2.mem b hb with h|⟨m,p,q⟩
   ·exact .inl (by simp[h])
   ·exact .inr ⟨m,by simp[p],q⟩
 ·subst e;have hd:=(bH.1 hq).2.2;rcases h1.mem x hx with hx|⟨m,p,q⟩
  ·obtain⟨⟨m,p,q⟩,_⟩:=h1.top x hx;rcases h2.mem x hy with hy|⟨m',p',q'⟩
   ·obtain⟨⟨m',p',q'⟩,_⟩:=h2.top x hy;exact hd m p m' p' (by omega)
   ·have:=hf x (by omega);omega
  ·rcases h2.mem x hy with hy|⟨m',p',q'⟩
   ·obtain⟨⟨m',p',q'⟩,_⟩:=h2.top x hy;have:=hf x (by omega);omega
   ·exact hd m p m' p' (by omega)
theorem QT(z:Option (Nat×Nat)){v:Value}{d:D}{b0:aW}(hr:Rd w v d b0):∃bs,FK w v (XJ z d) bs [] []/\∀b∈bs,b∈b0:=by
 unfold XJ;split
 ·rename_i e sz;cases hr;refine⟨[],?_,by simp⟩;have:=FK.fr (w:=w) (.slice none 0 0) e (sz+1) [] [] [] (Nat.succ_pos _) (by simp) (World.ownsRow_nil w 0 e (sz+1)) (.nil _) rfl;simpa[Value.ownBlock]using this
 ·exact⟨b0,.pure hr.soft,fun _ h=>h⟩
section
variable{H:bP}{ρ:Nat->Nat}(hf:∀b,ρ b≠0->Θ b=0)
 (hq:∀m e sz rows,H[m]?=some (.row .uq e sz rows)->∃v cs ns,κ m=some v/\0<sz/\(∀r∈rows,r.length=sz)/\w.ownsRow 0 e sz v rows.length cs/\wK w (tT e) 0 cs rows.flatten ns/\ns.Nodup/\(∀b∈ns,ρ b=m+1)/\∀g,v.ownBlock=some g->Θ g=m+2)
include hf hq
theorem Qf{z:Option (Nat×Nat)}{d e:D}{ms qs:aW}{v:Value}{b0:aW}(h:Db H z d=some (e,ms,qs))(hone:v.oneCell'=true)(hr:yQ w κ v d b0)(hz:∀b∈b0,Θ b=0)
 (hm:∀m∈ms,∀k e sz rows,H[m]?=some (.row k e sz rows)->xz κ Θ ρ w m k rows):∃bs ts us,FK w v e bs ts us/\RP Θ ρ qs bs ts us:=by
 cases hr with
 |pure hr=>
  have:Db H z d=some (XJ z d,[],[]):=by cases hr<;>first|rfl|simp[Db]at h
  rw[this]at h;cases h;obtain⟨bs,hb,Mm⟩:=QT z hr;exact⟨bs,[],[],hb,RP.nil (fun b hb'=>hz b (Mm b hb'))⟩
 |acc m _ hk=>
  simp only[Db]at h;split at h
  ·rename_i k e' sz rows hH;split at h
   ·cases h;obtain⟨v2,cs,ns,r1,r2,r3,r4,r5,r6,r7,r8⟩:=hq m _ _ _ hH;rw[hk]at r1;cases r1;refine⟨[],_,_,.fr v _ _ _ cs ns r2 r3 r4 r5 hone,by simp,fun b hb=>?_,fun b hb=>?_,?_⟩
    ·simp only[kx]at hb;exact⟨⟨m,by simp,r8 b hb⟩,by simp[hb]⟩
    ·rcases aU.1 hb with hb|hb
     ·exact .inl hb
     ·exact .inr ⟨m,by simp,r7 b hb⟩
    ·refine bH.2 ⟨by cases v.ownBlock<;>simp,r6,fun x hx y hy exy=>?_⟩;subst exy;simp only[kx]at hx;have h1:=r8 x hx;have h2:=hf x (by rw[r7 x hy];omega);omega
   ·cases h;obtain⟨v2,bs,r1,r2,r3,_⟩:=hm m (by simp) _ _ _ _ hH;rw[hk]at r1;cases r1;exact⟨bs,[],[],.pure r2,RP.nil r3⟩
   ·cases h
   ·cases h
   ·cases h
  ·cases h
 |ptr=>simp[Db]at h
 |op=>simp[Db]at h
theorem Ui:∀ {ds es:aL} {zs:List (Option (Nat×Nat))} {ms qs:aW} {vs:bZ} {b0:aW},KZ H zs ds=some (es,ms,qs)->qs.Nodup->fH w κ vs ds b0->(∀b∈b0,Θ b=0)->
 (∀m∈ms,∀k e sz rows,H[m]?=some (.row k e sz rows)->xz κ Θ ρ w m k rows)->∃bs ts us,tK w vs es bs ts us/\RP Θ ρ qs bs ts us:=by
 intro ds
 induction ds with
 |nil=>
  intro es zs ms qs vs b0 h _ hr _ _;simp only[KZ,aj,cY]at h;obtain⟨rfl,rfl,rfl⟩:=h;cases hr;exact⟨[],[],[],.nil,RP.nil (by simp)⟩
 |cons d ds ih=>
  intro es zs ms qs vs b0 h hnd hr hz hm;simp only[KZ]at h;split at h
  ·rename_i e m q es' ms' qs' h1 h2;cases h;cases hr with
   |cons v vs _ _ b1 b2 hv hc hcs=>
    obtain⟨c1,t1,u1,q1,q2⟩:=Qf hf hq h1 hv hc (fun b hb=>hz b (by simp[hb])) (fun x hx=>hm x (by simp[hx]));obtain⟨c2,t2,u2,p1,p2⟩:=ih h2 (bH.1 hnd).2.1 hcs (fun b hb=>hz b (by simp[hb])) (fun x hx=>hm x (by simp[hx]));exact⟨_,_,_,.cons _ _ _ _ _ _ _ _ _ _ hv q1 p1,RP.app hf hnd q2 p2⟩
  ·cases h
theorem XX(hk1:∀(i:Nat) u,κ i=some u->u.oneCell'=true){zs:List (Option (Nat×Nat))}{d e:D}{ms qs:aW}{v:Value}{b0:aW}(h:S8 H zs d=some (e,ms,qs))(hnd:qs.Nodup)(hr:rS w κ v d b0)(hz:∀b∈b0,Θ b=0)
 (hm:∀m∈ms,∀k e sz rows,H[m]?=some (.row k e sz rows)->xz κ Θ ρ w m k rows):∃bs ts us,FL w v e bs ts us/\RP Θ ρ qs bs ts us:=by
 by_cases tF:∃ds,d=.agg ds
 ·obtain⟨ds,rfl⟩:=tF;obtain⟨cs,rfl,hcs⟩:=hr.F7;simp only[S8]at h;split at h
  ·rename_i es ms' qs' h1;cases h;obtain⟨bs,ts,us,q1,q2⟩:=Ui hf hq h1 hnd hcs hz hm;exact⟨bs,ts,us,.agg _ _ _ _ _ q1,q2⟩
  ·cases h
 ·have e1:S8 H zs d=Db H zs.head?.join d:=by cases d<;>first|rfl|exact absurd ⟨_,rfl⟩ tF
  rw[e1]at h;have hc:yQ w κ v d b0:=by
   cases hr with
   |v hr=>cases hr with
    |cell hr=>exact hr
    |agg=>exact absurd ⟨_,rfl⟩ tF
   |gw=>simp[Db]at h
  cases hc with
  |pure hr=>
   have:Db H zs.head?.join d=some (XJ zs.head?.join d,[],[]):=by cases hr<;>first|rfl|simp[Db]at h
   rw[this]at h;cases h;obtain⟨bs,hb,Mm⟩:=QT zs.head?.join hr;exact⟨bs,[],[],.cell hb,RP.nil (fun b hb'=>hz b (Mm b hb'))⟩
  |acc m _ hk=>
   obtain⟨bs,ts,us,q1,q2⟩:=Qf hf hq h (hk1 _ _ hk) (.acc m _ hk) (by simp) hm;exact⟨bs,ts,us,.cell q1,q2⟩
  |ptr=>simp[Db]at h
  |op=>simp[Db]at h
theorem yy(hk1:∀(i:Nat) u,κ i=some u->u.oneCell'=true):∀ {ds es:aL} {zs:List (List (Option (Nat×Nat)))} {ms qs:aW} {vs:bZ},zw H zs ds=some (es,ms,qs)->qs.Nodup->vs.length=ds.length->
 (∀(i:Nat) d,ds[i]?=some d->∃v b,vs[i]?=some v/\rS w κ v d b/\∀x∈b,Θ x=0)->
 (∀m∈ms,∀k e sz rows,H[m]?=some (.row k e sz rows)->xz κ Θ ρ w m k rows)->∃bs ts us,AH w vs es bs ts us/\RP Θ ρ qs bs ts us:=by
 intro ds
 induction ds with
 |nil=>
  intro es zs ms qs vs h _ hl _ _;simp only[zw,aj,cY]at h;obtain⟨rfl,rfl,rfl⟩:=h;cases vs with
  |nil=>exact⟨[],[],[],.nil,RP.nil (by simp)⟩
  |cons=>simp at hl
 |cons d ds ih=>
  intro es zs ms qs vs h hnd hl hr hm;simp only[zw]at h;split at h
  ·rename_i e m q es' ms' qs' h1 h2;cases h;cases vs with
   |nil=>simp at hl
   |cons v vs=>
    obtain⟨v',b0,Yg,hr0,xw⟩:=hr 0 d rfl;simp at Yg;subst Yg;obtain⟨c1,t1,u1,q1,q2⟩:=XX hf hq hk1 h1 (bH.1 hnd).1 hr0 xw (fun x hx=>hm x (by simp[hx]));obtain⟨c2,t2,u2,p1,p2⟩:=ih h2 (bH.1 hnd).2.1 (by simpa using hl) (fun i d' GS=>by
     obtain⟨v',b,k1,k2⟩:=hr (i+1) d' (by simpa using GS);exact⟨v',b,by simpa using k1,k2⟩) (fun x hx=>hm x (by simp[hx]))
    exact⟨_,_,_,.cons _ _ _ _ _ _ _ _ _ _ q1 p1,RP.app hf hnd q2 p2⟩
  ·cases h
end
theorem MU{H:bP}{z:Option (Nat×Nat)}{d e:D}{ms qs:aW}(h:Db H z d=some (e,ms,qs)):(∀m∈ms,∃e sz rows,H[m]?=some (.row .sh e sz rows))/\∀m∈qs,∃e sz rows,H[m]?=some (.row .uq e sz rows):=by
 cases d with
 |acc m=>
  simp only[Db]at h;split at h
  ·rename_i k e' sz rows hH;split at h
   ·cases h;exact⟨by simp,fun m' hm'=>by simp at hm';subst hm';exact⟨_,_,_,hH⟩⟩
   ·cases h;exact⟨fun m' hm'=>by simp at hm';subst hm';exact⟨_,_,_,hH⟩,by simp⟩
   ·cases h
   ·cases h
   ·cases h
  ·cases h
 |_=>simp[Db]at h<;>(try(obtain⟨_,rfl,rfl⟩:=h;simp))
theorem Qg{H:bP}:∀ {ds es:aL} {zs:List (Option (Nat×Nat))} {ms qs:aW},KZ H zs ds=some (es,ms,qs)->(∀m∈ms,∃e sz rows,H[m]?=some (.row .sh e sz rows))/\∀m∈qs,∃e sz rows,H[m]?=some (.row .uq e sz rows):=by
 intro ds
 induction ds with
 |nil=>intro es zs ms qs h;simp only[KZ,aj,cY]at h;obtain⟨rfl,rfl,rfl⟩:=h;simp
 |cons d ds ih=>
  intro es zs ms qs h;simp only[KZ]at h;split at h
  ·rename_i e m q es' ms' qs' h1 h2;cases h;have a1:=MU h1;have a2:=ih h2;refine⟨fun x hx=>?_,fun x hx=>?_⟩<;>rcases aU.1 hx with hx|hx
   ·exact a1.1 x hx
   ·exact a2.1 x hx
   ·exact a1.2 x hx
   ·exact a2.2 x hx
  ·cases h
theorem S9{H:bP}{zs:List (Option (Nat×Nat))}{d e:D}{ms qs:aW}(h:S8 H zs d=some (e,ms,qs)):(∀m∈ms,∃e sz rows,H[m]?=some (.row .sh e sz rows))/\∀m∈qs,∃e sz rows,H[m]?=some (.row .uq e sz rows):=by
 by_cases tF:∃ds,d=.agg ds
 ·obtain⟨ds,rfl⟩:=tF;simp only[S8]at h;split at h
  ·rename_i es ms' qs' h1;cases h;exact Qg h1
  ·cases h
 ·have e1:S8 H zs d=Db H zs.head?.join d:=by cases d<;>first|rfl|exact absurd ⟨_,rfl⟩ tF
  rw[e1]at h;exact MU h
theorem vR{H:bP}:∀ {ds es:aL} {zs:List (List (Option (Nat×Nat)))} {ms qs:aW},zw H zs ds=some (es,ms,qs)->(∀m∈ms,∃e sz rows,H[m]?=some (.row .sh e sz rows))/\∀m∈qs,∃e sz rows,H[m]?=some (.row .uq e sz rows):=by
 intro ds
 induction ds with
 |nil=>intro es zs ms qs h;simp only[zw,aj,cY]at h;obtain⟨rfl,rfl,rfl⟩:=h;simp
 |cons d ds ih=>
  intro es zs ms qs h;simp only[zw]at h;split at h
  ·rename_i e m q es' ms' qs' h1 h2;cases h;have a1:=S9 h1;have a2:=ih h2;refine⟨fun x hx=>?_,fun x hx=>?_⟩<;>rcases aU.1 hx with hx|hx
   ·exact a1.1 x hx
   ·exact a2.1 x hx
   ·exact a1.2 x hx
   ·exact a2.2 x hx
  ·cases h
theorem Good.of{f:FuncId}{fn:Func}{c:Code}{ds:aL}{d:D}(hf:P.funcs[f]?=some fn)(hb:fn.body=some c)(hn:(fn.name== "runtime.NumGoroutine")=false)
 (hl:ds.length<=fn.ntmps) (h:(∀d∈ds,iE d)->∀Γ:tZ,Γ.nt=fn.ntmps->AW P Γ c (O3 P fn d) ⟨vl 0 ds,[]⟩):Good P f ds d:=by
 refine⟨⟨fn,hf,by simp[hb],hn⟩,?_⟩;intro w Θ args bs hvs hargs hz hown h1;obtain⟨hlen,L3⟩:=hargs.at;refine calls_of_wp hf hb ?_;let Γ:tZ:=⟨w,Θ,fun _=>False,fn.ntmps,fun _=>False,hvs⟩
 have hs:dV Γ ⟨vl 0 ds,[]⟩ (fun _=>none) Θ {tmps:=args.toArray++Array.replicate (fn.ntmps-args.toArray.size) undef,defers:=[]} w:=by
  refine⟨rfl,?_,fun _ _=>rfl,by simp,?_,by simp,hown,fun b _ _=>⟨rfl,h1 b⟩,fun b hb=>by have:=h1 b;omega,⟨rfl,rfl,rfl,bO _,fun _ _ _=>rfl⟩,⟨fun _=>0,by simp,by simp,by simp⟩⟩
  ·simp[Γ];omega
  ·intro t;rw[Ep];simp only[ug,xK,vg];cases hd:ds[t]? with
   |none=>exact⟨[],.of (.any _),by simp⟩
   |some x=>
    obtain⟨v,b,k1,k2,k3⟩:=L3 t x hd;refine⟨b,?_,fun y hy=>hz y (k3 y hy)⟩;have hlt:t<args.length:=(aF.1 k1).1;have:(args.toArray++Array.replicate (fn.ntmps-args.toArray.size) undef).getD t undef=v:=by
     rw[cH,eX (by simpa using hlt)];simp[k1]
    rw[this];exact .of k2
 refine wp_mono (h hargs.rdb Γ rfl _ _ _ _ hs) ?_;rintro e a' w' ⟨Mn,κ0,Θ0,hs0,Aj,nz,ZM,es,ms,qs,hres,WX,Lu,Jv,rfl⟩;obtain⟨ρ0,ZW⟩:=hs0.rR;have AE:=vR WX;obtain⟨Θ1,ρ1,hs1,hu1,hm1,N7,R1⟩:=dV.FC ms hs0 ZW Lu (fun m hm=>by
  obtain⟨e,sz,rows,hH⟩:=AE.1 m hm;exact⟨_,e,sz,rows,hH,rfl⟩)
 obtain⟨vs,bs',m1,m2,m3,m4,m5⟩:=Bi hs0 hres;have hq:∀m e sz rows,Mn.H[m]?=some (.row .uq e sz rows)->∃v cs ns,κ0 m=some v/\0<sz/\(∀r∈rows,r.length=sz)/\w'.ownsRow 0 e sz v rows.length cs/\wK w' (tT e) 0 cs rows.flatten ns/\ns.Nodup/\(∀b∈ns,ρ1 b=m+1)/\∀g,v.ownBlock=some g->Θ1 g=m+2:=by
  intro m e sz rows hH;have hnm:m∉ms:=fun hm=>by
   obtain⟨e',sz',dO,DY⟩:=AE.1 m hm;rw[hH]at DY;cases DY
  have Ml:(kill Mn.H ms)[m]?=some (.row .uq e sz rows):=by rw[gC hnm];exact hH
  obtain⟨v,cs,ns,r1,r2,r3,r4,r5⟩:=hu1.rows m e sz rows Ml;obtain⟨p1,p2,v2,_,_,p3,_,_,p4,_⟩:=hs1.ob m _ Ml;rw[r1]at p3;cases p3;exact⟨v,cs,ns,r1,p1,p2,r2,r3,r4,r5,p4⟩
 obtain⟨c,ts,us,Bb,zj⟩:=yy (w:=w') (vs:=vs) (fun b hb=>(hu1.free b hb).1) hq hs0.o6 WX Jv (by omega) (fun i d hd=>by
  obtain⟨v,b,k1,k2,k3⟩:=m4 i d hd;exact⟨v,b,k1,k2,fun x hx=>N7 x (m5 x (k3 x hx))⟩) hm1
 have Jt:∃v,(results fn a'.tmps).run P w'=.ok v w'/\zE w' v (J1 es) c ts us:=by
  have hrun:(results fn a'.tmps).run P w'=.ok (if h:vs.toArray.size=1 then vs.toArray[0]else .tuple vs.toArray) w':=by
   rw[results_eq,mH];simp[m1]
  cases Bb with
  |nil=>exact⟨.tuple #[],by simpa using hrun,.gw [] [] [] [] [] .nil⟩
  |cons v vs d es b1 b2 t1 t2 u1 u2 hv qJ=>
   cases qJ with
   |nil=>
    simp only[dA];exact⟨v,by simpa using hrun,.v hv⟩
   |cons v2 vs d2 es b3 b4 t3 t4 u3 u4 GV qJ=>exact⟨.tuple (v::v2::vs).toArray,by simpa using hrun,.gw _ _ _ _ _ (.cons _ _ _ _ _ _ _ _ _ _ hv (.cons _ _ _ _ _ _ _ _ _ _ GV qJ))⟩
 obtain⟨v,Rk,Mz⟩:=Jt;have Ln:Below w.heap.size w w':=⟨hs1.stays.os,hs1.stays.tape,hs1.stays.output,hs1.stays.size,fun b hb=>hs1.stays.block b hb (fun h=>h)⟩
 have NT:∀b,xL Γ b->w.heap.size<=b:=fun b h=>by
  rcases h with h|h
  ·exact h
  ·exact h.elim
 have hwr:∀b∈us,w.heap.size<=b/\Wr w' b:=by
  intro b hb';rcases zj.mem b hb' with h|⟨m,hm,hρ⟩
  ·obtain⟨⟨m,hm,hΘ⟩,_⟩:=zj.top b h;refine⟨NT b (hs1.mine b (by omega)),?_⟩;obtain⟨e,sz,rows,hH⟩:=AE.2 m hm;have:=zj;exact LK Mz b h
  ·have:=hu1.free b (by omega);exact⟨this.2.1.elim (NT b) False.elim,this.2.2⟩
 have post:a'.defers=[]/\∃v,(results fn a'.tmps).run P w'=.ok v w'/\∃u bs' ts us,Ending.returned v=.returned u/\Below w.heap.size w w'/\zE w' u (J1 es) bs' ts us/\(∀b∈bs',b<w.heap.size->Θ b=0)/\(∀b∈bs',b∉ts)/\us.Nodup/\
  (∀b∈us,w.heap.size<=b/\Wr w' b)/\∀b∈ts,b∈us:=by
  refine⟨hs0.defers,v,Rk,v,c,ts,us,rfl,Ln,Mz,fun b hb' hlt=>?_,fun b hb' ht=>?_,zj.nd,hwr,fun b hb'=>(zj.top b hb').2⟩
  ·have he:Θ1 b=Θ b:=(hs1.old b hlt (fun h=>h)).1;rw[<-he];exact zj.zero b hb'
  ·obtain⟨⟨m,_,hΘ⟩,_⟩:=zj.top b ht;have:=zj.zero b hb';omega
 rcases Aj with rfl|rfl
 ·exact post
 ·exact post
end
end Go.Cx
namespace Go.Cx
open Go.RowKit
abbrev oA:=List Fs
section
variable{P:Program}{Γ:tZ}{Q:Exit->St->Prop}{st:St}{κ:Nat->Option Value}{Θ:Nat->Nat}{a:Act}{w:World}{all:Array Oper}
def Ext(H H':bP):Prop:=∀(i:Nat) o,H[i]?=some o->H'[i]?=some o
theorem Ps(σ:List (Nat×D))(H H':bP)(x:Operand):St.ev ⟨σ,H⟩ x=St.ev ⟨σ,H'⟩ x:=by cases x<;>rfl
theorem Om{σ σ':List (Nat×D)}{H H':bP}{op:Op}{d:D}(hx:Ext H H')(he:∀x∈op.operands.toList,St.ev ⟨σ,H⟩ x=St.ev ⟨σ',H'⟩ x)(h:pv P ⟨σ,H⟩ op=some d):pv P ⟨σ',H'⟩ op=some d:=by
 have hm:∀(o:Option Operand),(∀x∈o.toArray.toList,St.ev ⟨σ,H⟩ x=St.ev ⟨σ',H'⟩ x)->o.map (St.ev ⟨σ,H⟩)=o.map (St.ev ⟨σ',H'⟩):=by
  intro o h;cases o with
  |none=>rfl
  |some x=>simp[h x (by simp)]
 cases op<;>simp only[pv]at h⊢ <;>(try cases h)
 case move x=>rw[he x (by simp[Op.operands])]at*
 case assign x=>rw[he x (by simp[Op.operands])]at*
 case nilCheck x=>rw[he x (by simp[Op.operands])]at h;exact h
 case pick c x y=>rw[he c (by simp[Op.operands]),he x (by simp[Op.operands]),he y (by simp[Op.operands])]at h;exact h
 case binOp op t x y t'=>rw[he x (by simp[Op.operands]),he y (by simp[Op.operands])]at h;exact h
 case unOp op t x=>cases op<;>simp only[pv]at h⊢ <;>(try cases h)<;>(rw[he x (by simp[Op.operands])]at h;exact h)
 case convert s d x=>rw[he x (by simp[Op.operands])]at h;exact h
 case field t x f=>rw[he x (by simp[Op.operands])]at h;exact h
 case fieldAddr t x f=>rw[he x (by simp[Op.operands])]at h;exact h
 case indexAddr t x i=>
  rw[he x (by simp[Op.operands]),he i (by simp[Op.operands])]at h;split at h
  ·rename_i e sz rows kk n h1 h2 h3
   (try simp only[h1,h2,h3]);exact h
  ·rename_i e sz id kk n h1 h2 h3
   (try simp only[h1,h2,h3])
   split at h
   ·rename_i k e' sz' rows hH;simp only[hx id _ hH];exact h
   ·cases h
  ·rename_i g o' kk n h1 h2
   (try simp only[h1,h2])
   generalize FH P t=q at h⊢;cases q<;>exact h
  ·cases h
 case load t x=>
  rw[he x (by simp[Op.operands])]at h;split at h
  ·rename_i ag row off h1 h2
   (try simp only[h1,h2]);exact h
  ·rename_i ag id off h1 h2
   (try simp only[h1,h2])
   split at h
   ·rename_i cells hH;obtain⟨ob,hH,xe⟩:=nY.1 hH;simp only[hx id _ hH,aA,xe];exact h
   ·cases h
  ·rename_i ag id i sz off h1 h2
   (try simp only[h1,h2])
   split at h
   ·rename_i p n e' sz' rows hH;simp only[hx id _ hH];exact h
   ·rename_i k e' sz' rows hnh hH;simp only[hx id _ hH];cases k with
    |ho p n=>exact(hnh _ _ rfl).elim
    |_=>exact h
   ·cases h
  ·rename_i ag g o' h1 h2
   (try simp only[h1,h2]);exact h
  ·cases h
 case lookup T x i ok=>
  rw[he x (by simp[Op.operands]),he i (by simp[Op.operands])]at h;split at h
  ·rename_i id h1
   (try simp only[h1])
   split at h
   ·rename_i kv hH;simp only[hx id _ hH];exact h
   ·cases h
  ·cases h
 case extract x i=>rw[he x (by simp[Op.operands])]at h;exact h
 case index t x i=>rw[he x (by simp[Op.operands]),he i (by simp[Op.operands])]at h;exact h
 case slice t x lo hi mx=>
  cases mx with
  |none=>
   simp only[pv]at h⊢;rw[he x (by simp[Op.operands]),hm lo (fun y hy=>he y (by simp only[Op.operands,lR,aU];exact .inl (.inl (.inr hy)))),
    hm hi (fun y hy=>he y (by simp only[Op.operands,lR,aU];exact .inl (.inr hy)))]at h
   exact h
  |some m=>simp only[pv]at h;cases h
 case build t parts=>
  have:(parts.toList.map fun p=>(p.1,St.ev ⟨σ,H⟩ p.2))=parts.toList.map fun p=>(p.1,St.ev ⟨σ',H'⟩ p.2):=by
   apply oB;intro p hp;rw[he p.2 (by simp only[Op.operands];simp;exact⟨p.1,by simpa using hp⟩)]
  rw[this]at h;exact h
 case call c=>
  split at h
  ·rename_i x t h1 h2 h3;have Rn:x∈(Op.call c).operands.toList:=by
    simp only[Op.operands,Call.operands,lR,aU,h2];exact .inr (by simp)
   (try simp only[h1,h2,h3])
   unfold a05 at h⊢;rw[he x Rn]at h;split at h
   ·rename_i s hs;(try simp only[hs]);exact h
   ·rename_i rows hs;(try simp only[hs]);exact h
   ·rename_i hs;(try simp only[hs]);exact h
   ·rename_i id hs
    (try simp only[hs])
    split at h
    ·rename_i kk k e sz rows h4 h5;simp only[h4,hx id _ h5];exact h
    ·cases h
   ·cases h
  ·rename_i x y t t' h1 h2 h3;have Rn:x∈(Op.call c).operands.toList:=by
    simp only[Op.operands,Call.operands,lR,aU,h2];exact .inr (by simp)
   have hym:y∈(Op.call c).operands.toList:=by
    simp only[Op.operands,Call.operands,lR,aU,h2];exact .inr (by simp)
   (try simp only[h1,h2,h3])
   rw[he x Rn,he y hym]at h;exact h
  ·cases h
theorem Qu{H H':bP}(hx:Ext H H'){d e:D}{ms:aW}(h:VD H d=some (e,ms)):VD H' d=some (e,ms):=by
 cases d<;>simp only[VD]at h⊢ <;>(try exact h)
 split at h
 ·rename_i k e' sz rows hH;simp only[hx _ _ hH];exact h
 ·rename_i sz rows u hH;simp only[hx _ _ hH];exact h
 ·rename_i rows hH;simp only[hx _ _ hH];exact h
 ·cases h
theorem Uw{H H':bP}(hx:Ext H H'):∀ {ds es:aL} {ms:aW},Qv H ds=some (es,ms)->Qv H' ds=some (es,ms):=by
 intro ds
 induction ds with
 |nil=>intro es ms h;exact h
 |cons d ds ih=>
  intro es ms h;simp only[Qv]at h⊢;split at h
  ·rename_i e m es' ms' h1 h2;rw[Qu hx h1,ih h2];exact h
  ·cases h
theorem YO{H H':bP}(hx:Ext H H'){d e:D}{ms:aW}(h:YN H d=some (e,ms)):YN H' d=some (e,ms):=by
 by_cases tF:∃ds,d=.agg ds
 ·obtain⟨ds,rfl⟩:=tF;simp only[YN]at h⊢;split at h
  ·rename_i es ms' h1;rw[Uw hx h1];exact h
  ·cases h
 ·by_cases ht:∃vs,d=.gw vs
  ·obtain⟨vs,rfl⟩:=ht;simp[YN]at h
  ·have e1:∀H,YN H d=VD H d:=by intro H;cases d<;>first|rfl|exact absurd ⟨_,rfl⟩ tF|exact absurd ⟨_,rfl⟩ ht
   rw[e1]at h⊢;exact Qu hx h
theorem Ux{H H':bP}(hx:Ext H H'):∀ {ds es:aL} {ms:aW},GG H ds=some (es,ms)->GG H' ds=some (es,ms):=by
 intro ds
 induction ds with
 |nil=>intro es ms h;exact h
 |cons d ds ih=>
  intro es ms h;simp only[GG]at h⊢;split at h
  ·rename_i e m es' ms' h1 h2;rw[YO hx h1,ih h2];exact h
  ·cases h
structure Cp where
 t:Option Nat
 d:D
 r:Nat
 obs:bP
 up:Option (Nat×Ob)
def Looks(H:bP)(vs ds:aL)(ms:aW):Prop:=GG H vs=some (ds,ms)\/(vs.all KR=true/\ds=vs/\ms=[])
def JN(P:Program)(H:bP)(σ:List (Nat×D))(o:Oper)(p:Cp):Prop:=
 (pv P ⟨σ,H⟩ o.op=some p.d/\p.obs=[])\/∃(f:FuncId) (xs:Array Operand) (ts:Array TypeId) (ds:aL) (ms:aW) (d:D),o.op=.call {callee:=.value (.func f),args:=xs,argTypes:=ts}/\
  Looks H (xs.toList.map (St.ev ⟨σ,H⟩)) ds ms/\(ms=[]\/d.MM=true)/\Good P f ds d/\(oF p.r d=(p.d,p.obs)\/(d.a3I=true/\p.d=d.VC/\p.obs=[]))
def O0(P:Program)(H:bP)(σ:List (Nat×D))(o:Oper)(p:Cp):Prop:=
 (∃T zs,o.op=.alloc T/\tz P T=some zs/\p.d=.ptr p.r 0/\p.obs=[.box zs])\/∃T x ds,o.op=.box T x/\(St.ev ⟨σ,H⟩ x).cellsOf=some ds/\p.d=.ptr p.r 0/\p.obs=[.box ds]
def O2(P:Program)(H:bP)(σ:List (Nat×D))(o:Oper)(p:Cp):Prop:=
 ∃T e sz len parts zs ds es,o.op=.buildSlice T len parts/\FH P T=some (e,sz)/\tz P e=some zs/\0<sz/\len*sz<=16777216/\
  xk (sZ len sz) (List.replicate len zs).flatten (parts.toList.map fun q=>(q.1,St.ev ⟨σ,H⟩ q.2))=some ds/\Ho H ds=some (es,[])/\p.d=.acc p.r/\p.obs=[.row (x7 (Uv H e 0 ds)) e sz (chunk sz len es)]
def O1(P:Program)(H:bP)(σ:List (Nat×D))(o:Oper)(p:Cp):Prop:=
 ∃T e sz len parts zs ds,o.op=.buildSlice T len parts/\FH P T=some (e,sz)/\tz P e=some zs/\0<sz/\len*sz<=16777216/\
  xk (sZ len sz) (List.replicate len zs).flatten (parts.toList.map fun q=>(q.1,St.ev ⟨σ,H⟩ q.2))=some ds/\ds.all D.PI=true/\ds.all D.flat=true/\p.d=.sl (chunk sz len ds)/\p.obs=[]
def Hi(P:Program)(H:bP)(σ:List (Nat×D))(o:Oper)(p:Cp):Prop:=JN P H σ o p\/O0 P H σ o p\/O2 P H σ o p\/O1 P H σ o p
def a4T(P:Program)(Γ:tZ)(all:Array Oper)(H:bP)(σ:List (Nat×D))(o:Oper)(p:Cp):Prop:=
 ∃t,p.t=some t/\p.up=none/\o.dst=some t/\t<Γ.nt/\((o.guard=none/\Hi P H σ o p)\/
  (∃(j s:Nat) (want b:Bool),o.guard=some (j,want)/\(all[j]?).bind (·.dst)=some s/\lk σ s=.bool b/\((b=want/\Hi P H σ o p)\/(b≠want/\p.d=.gw []/\p.obs=[])))\/
  ∃(j s:Nat) (want:Bool),o.guard=some (j,want)/\(all[j]?).bind (·.dst)=some s/\lk σ s=.gw []/\p.d=.gw []/\p.obs=[])
def a4S(P:Program)(H:bP)(σ:List (Nat×D))(o:Oper)(p:Cp):Prop:=
 p.t=none/\p.obs=[]/\o.dst=none/\o.guard=none/\∃T x y id ds,o.op=.store T x y/\St.ev ⟨σ,H⟩ x=.ptr id 0/\H.length<=id/\(St.ev ⟨σ,H⟩ y).cellsOf=some ds/\P5 P T=true/\ds.length=z6 P T/\p.up=some (id,.box ds)
def tJ(P:Program)(Γ:tZ)(all:Array Oper)(H:bP)(σ:List (Nat×D))(o:Oper)(p:Cp):Prop:=a4T P Γ all H σ o p\/a4S P H σ o p
def Cp.slot(p:Cp)(σ:List (Nat×D)):List (Nat×D):=match p.t with|some t=>(t,p.d)::σ|none=>σ
def Cp.fill(n:Nat)(p:Cp)(acc:bP):bP:=match p.up with|some (id,ob)=>acc.set (id-n) ob|none=>acc++p.obs
def Cp.a6e(n:Nat)(p:Cp)(U:aW)(acc:bP):Prop:=match p.up with|some (id,ob)=>id∉U/\n<=id/\∃zs ds,acc[id-n]?=some (.box zs)/\ob=.box ds/\zs.length=ds.length|none=>True
def Cp.ups(p:Cp)(U:aW):aW:=match p.up with|some (id,_)=>id::U|none=>U
def KE(P:Program)(Γ:tZ)(all:Array Oper)(H:bP)(K:List (Nat×D)->bP->Prop):List Oper->List (Nat×D)->bP->aW->Prop
 | [],σ,acc,_=>K σ acc
 |o::os,σ,acc,U=>∃p:Cp,p.r=H.length+acc.length/\tJ P Γ all H σ o p/\p.a6e H.length U acc/\KE P Γ all H K os (p.slot σ) (p.fill H.length acc) (p.ups U)
theorem A5{Q':Exit->Act->World->Prop}{ops:Array Oper}{i:Nat}{o:Oper}{K:Act->World->Prop}(hi:ops[i]?=some o)(hw:Region.wanted o (yielded ops a.tmps)=true)(h:o.wp P a w K Q'):wpOp P ops Q' i K a w:=by
 unfold wpOp;simp only[hi,hw,p9];exact .inl h
theorem dV.a44(hs:dV Γ st κ Θ a w){ops:Array Oper}{j s:Nat}{b:Bool}(hj:(ops[j]?).bind (·.dst)=some s)(hb:lk st.σ s=.bool b):yielded ops a.tmps j=some b:=by
 obtain⟨bs,r,_⟩:=hs.slot s;rw[hb]at r;have hv:=r.vo;have hlt:s<a.tmps.size:=by
  rcases eF s a.tmps.size with h|h
  ·exact h
  ·exfalso;rw[cH,rU h]at hv;simp[undef]at hv
 have h1:a.tmps[s]?=some (.bool b):=by
  rw[cH,cR hlt]at hv;rw[cR hlt];simpa using hv
 simp[yielded,hj,h1]
theorem La{st ue:St}{ops:Array Oper}{o:Oper}(h:∀t∈o.looksAt ops,lk st.σ t=lk ue.σ t):∀x∈o.op.operands.toList,st.ev x=ue.ev x:=by
 intro x hx;cases x with
 |tmp t=>
  refine h t ?_;unfold Oper.looksAt;exact aU.2 (.inl (cG.2 ⟨.tmp t,hx,rfl⟩))
 |const v=>rfl
 |global g=>rfl
 |func f=>rfl
theorem Eo(l:List (Nat×D))(σ:List (Nat×D))(t:Nat):(∀p∈l,p.1≠t)->lk (l++σ) t=lk σ t:=by
 induction l with
 |nil=>intro _;rfl
 |cons q l ih=>
  intro h;obtain⟨u,d⟩:=q;simp only[qo,lk];rw[b8 (fun e=>h (u,d) (by simp) e.symm)];exact ih (fun p hp=>h p (by simp[hp]))
theorem HR(l:List (Nat×D))(σ:List (Nat×D))(p:Nat×D)(hp:p∈l)(hd:∀q∈l,q.1=p.1->q=p):lk (l++σ) p.1=p.2:=by
 induction l with
 |nil=>cases hp
 |cons q l ih=>
  obtain⟨u,d⟩:=q;simp only[qo,lk];by_cases e:p.1=u
  ·rw[bL e];have:=hd (u,d) (by simp) e.symm;rw[<-this]
  ·rw[b8 e];rcases bE.1 hp with rfl|hp
   ·exact absurd rfl e
   ·exact ih hp (fun q hq=>hd q (by simp[hq]))
def Vp(ops:Array Oper)(n:Nat):Bool:=
 decide (n<=ops.size)&&(decide (n=ops.size)||(decide (n<ops.size)&&(Region.sinkB .any ops n&&Region.chainB .any ops n)))&&
 Region.seqB .any ops (ops.size-n) n (Array.replicate n true++Array.replicate (ops.size-n) false)&&
 (List.range n).all fun i=>match ops[i]? with
  |none=>false
  |some o=>(o.after.all fun e=> !Region.binds .any e||decide (e.on<i))&&
   ((o.looksAt ops).all fun t=>(List.range n).all fun j=>match ops[j]? with|some oj=> !(oj.dst==some t)||(decide (j<i)&&Region.waitsFor .any ops i j)|none=>true)&&
   (List.range n).all fun j=>j==i||(match ops[j]? with|some oj=> !(oj.dst==o.dst)||o.dst.isNone|none=>true)
def place(H:bP)(r:Nat)(obs:bP):bP:=H.take r++(obs++H.drop (r+obs.length))
theorem tv{H:bP}{r:Nat}{obs:bP}(h:r+obs.length<=H.length)(j:Nat):(place H r obs)[j]?=if j<r then H[j]? else if j<r+obs.length then obs[j-r]? else H[j]?:=by
 unfold place;have hl:(H.take r).length=r:=by rw[bw];omega
 by_cases h1:j<r
 ·rw[bL h1,av (by omega),cS,bL h1]
 ·rw[b8 h1,az (by omega),hl];by_cases h2:j<r+obs.length
  ·rw[bL h2,av (by omega)]
  ·rw[b8 h2,az (by omega),eY]
   congr 1;omega
theorem u7{H:bP}{r:Nat}{obs:bP}(h:r+obs.length<=H.length):(place H r obs).length=H.length:=by
 unfold place;simp;omega
theorem JN.wp{Q':Exit->Act->World->Prop}{σ:List (Nat×D)}{H H':bP}{o:Oper}{p:Cp}{K:Act->World->Prop}(hs:dV Γ ⟨σ,H'⟩ κ Θ a w)(hx:Ext H H'){t:Nat}(hd:o.dst=some t)(ht:t<Γ.nt)(h:JN P H σ o p)
 (hr:p.r+p.obs.length<=H'.length) (hfree:∀i,i<p.obs.length->κ (p.r+i)=none)
 (hK:∀κ' Θ' a' w',dV Γ ⟨(t,p.d)::σ,place H' p.r p.obs⟩ κ' Θ' a' w'->(∀j,(j<p.r\/p.r+p.obs.length<=j)->κ' j=κ j)->K a' w'):o.wp P a w K Q':=by
 rcases h with⟨h,hno⟩|⟨f,xs,ts,ds,ms,d,hop,hds,hsh,nQ,hi⟩
 ·have h':=Om (σ:=σ) (σ':=σ) hx (fun x _=>Ps σ H H' x) h;obtain⟨v,bs,hrun,hrd,hz⟩:=Eu hs h';unfold Oper.wp;rw[hrun,Oper.upon_value,hd];have hp:place H' p.r p.obs=H':=by rw[hno];simp[place]
  exact hK κ Θ _ _ (by rw[hp];exact hs.set ht hrd hz) (fun _ _=>rfl)
 ·have hev:xs.toList.map (St.ev ⟨σ,H⟩)=xs.toList.map (St.ev ⟨σ,H'⟩):=oB (fun x _=>Ps σ H H' x);have a2L:∃bs,Sf w (xs.toList.map a.eval) ds bs/\∀b∈bs,Seen Θ ms b:=by
   rcases hds with hds|⟨hk,rfl,rfl⟩
   ·have:=Ux hx hds;rw[hev]at this;exact LD hs this
   ·rw[hev]at hk⊢;exact NW hs hk
  obtain⟨bs,hargs,hz⟩:=a2L;let Θc:Nat->Nat:=fun b=>if Θ b=0\/ms.any (fun m=>Θ b==m+2)then 0 else 1
  have KN:∀b,Seen Θ ms b->Θc b=0:=by
   intro b h;simp only[Θc];rw[bL];rcases h with h|⟨m,h1,h2⟩
   ·exact .inl h
   ·exact .inr (cz.2 ⟨m,h1,by simp[h2]⟩)
  have hc:=nQ.2 w Θc _ bs hs.vok hargs (fun b hb=>KN b (hz b hb)) (fun b hb=>hs.own b (fun e=>hb (KN b (.inl e)))) (fun b=>by simp only[Θc];split<;>omega);unfold Oper.wp;rw[wG hop nQ.1,Oper.upon_enter];have e:xs.map a.eval=(xs.toList.map a.eval).toArray:=by rw[<-gm,k6]
  rw[e];refine hc.mono ?_;rintro e w' ⟨v,bs',tb,ub,rfl,hb,hr',Mm,htb,hnd,hfr,hsub⟩;show K (a.put o.dst v) w';rw[hd];rcases hi with hi|⟨hown,Rh,PG⟩
  rotate_left
  ·cases hr' with
   |gw=>cases hown
   |v hv=>
    have Df:bs'=[]:=hv.own (by
     unfold D.a3I at hown;split at hown
     ·cases hown
     ·exact hown)
    obtain⟨b,q,s⟩:=hv.CY;have hp:place H' p.r p.obs=H':=by rw[PG];simp[place]
    refine hK κ Θ _ w' ?_ (fun _ _=>rfl);rw[hp,Rh];refine(hs.grow hb).set ht (.v (.cell (.pure q))) fun x hx'=>?_
    rcases s x hx' with h|h
    ·rw[Df]at h;cases h
    ·by_cases h0:Θ x=0
     ·exact h0
     ·have:=hs.own x h0;have:=(hfr x h).1;omega
  obtain⟨L,q1,q2,q3,q4,q5⟩:=hr'.inst p.r;rw[hi]at q1 q5;simp only at q1 q5;have hLl:L.length=p.obs.length:=by have:=congrArg List.length q1;simpa using this
  obtain⟨κ',Θ',hs',hnm,_,hno,hsame⟩:=hs.NV hb L q2 (q3▸hnd) (fun b hb'=>hfr b (q3▸hb')) p.r (place H' p.r p.obs) (fun i hi'=>hfree i (by omega)) (by rw[u7 hr];exact bO _) (by rw[u7 hr];omega) (by
   intro j y hj;rw[tv hr]at hj;split at hj
   ·rename_i h1;exact .inr ⟨.inl h1,.inr hj⟩
   ·rename_i h1;split at hj
    ·rename_i h2;rw[<-q1,bu]at hj;cases hx':L[j-p.r]? with
     |none=>simp[hx']at hj
     |some x=>simp[hx']at hj;exact .inl ⟨j-p.r,x,by omega,hx',hj.symm⟩
    ·exact .inr ⟨.inr (by omega),.inr hj⟩)
  refine hK κ' Θ' _ w' (hs'.set (t:=t) ht (q5 κ' hnm) fun b hb'=>?_) (fun j hj=>hsame j (by omega));rw[hno b (q4▸htb b hb')];rcases hsh with Lu|hown
  ·by_cases hlt:b<w.heap.size
   ·have h0:=Mm b hb' hlt;simp only[Θc,Lu,Hh]at h0;by_cases h1:Θ b=0
    ·exact h1
    ·simp[h1]at h0
   ·by_cases h0:Θ b=0
    ·exact h0
    ·exact absurd (hs.own b h0) hlt
  ·rw[hr'.own hown]at hb';cases hb'
theorem dV.QR{σ:List (Nat×D)}{H':bP}(hs:dV Γ ⟨σ,H'⟩ κ Θ a w){r:Nat}(hr:r+1<=H'.length)(hfree:κ r=none){cs:Array Value}{ds:aL}{bs:aW}(T:TypeId)(hrd:fH w κ cs.toList ds bs)(hz:∀b∈bs,Θ b=0):
 dV Γ ⟨σ,place H' r [.box ds]⟩ (xD κ r (some (.pointer (some ⟨w.heap.size,0,none⟩)))) (fun b=>if b=w.heap.size then r+2 else Θ b) a (w.alloc (.cells cs T)):=by
 have k:=iF.alloc hs (.cells cs T) (tag:=r+2) (by omega);have hn:=wJ hfree (some (Value.pointer (some ⟨w.heap.size,0,none⟩)));obtain⟨h1,h2⟩:=fH.stay k hn hrd hz;obtain⟨ρ,hu⟩:=hs.rR;refine hs.put (id:=r) (o:=.box ds) [] ?_ hn ?_ ?_ k (hs.yw (fun b hb=>by by_cases e:b=w.heap.size<;>simp_all)) ?_ hu (by simp) (by intro e sz rows h;cases h)
 ·intro j y hj;rw[tv (by simpa using hr)]at hj;split at hj
  ·exact .inr ⟨by omega,hj⟩
  ·split at hj
   ·rename_i h2;simp only[aT,bW]at h2;have e:j=r:=by omega
    subst e;simp at hj;exact .inl ⟨rfl,hj.symm⟩
   ·rename_i h2;simp only[aT,bW]at h2;exact .inr ⟨by omega,hj⟩
 ·intro i hi;rw[u7 (by simpa using hr)]at hi;unfold xD;rw[b8 (by omega)];exact hs.ol i hi
 ·intro i x hx;unfold xD at hx;split at hx
  ·cases hx;rfl
  ·exact hs.o6 i x hx
 ·exact⟨w.heap.size,cs,T,by simp[xD],heap_alloc_new w _,by simp,bs,h1,h2⟩
theorem O0.wp{Q':Exit->Act->World->Prop}{σ:List (Nat×D)}{H H':bP}{o:Oper}{p:Cp}{K:Act->World->Prop}(hs:dV Γ ⟨σ,H'⟩ κ Θ a w){t:Nat}(hd:o.dst=some t)(ht:t<Γ.nt)(h:O0 P H σ o p)
 (hr:p.r+p.obs.length<=H'.length) (hfree:∀i,i<p.obs.length->κ (p.r+i)=none)
 (hK:∀κ' Θ' a' w',dV Γ ⟨(t,p.d)::σ,place H' p.r p.obs⟩ κ' Θ' a' w'->(∀j,(j<p.r\/p.r+p.obs.length<=j)->κ' j=κ j)->K a' w'):o.wp P a w K Q':=by
 rcases h with⟨T,zs,hop,hz,Rh,PG⟩|⟨T,x,ds,hop,hc,Rh,PG⟩
 ·rw[PG]at hr hfree hK;rw[Rh]at hK;obtain⟨i,z,hi,xw,hsz,hlen,hone,rfl⟩:=xF hz;have hs':=hs.QR (r:=p.r) hr (by simpa using hfree 0 (by simp)) T (cs:=z.cells) (Bg z.cells.toList hone) (by simp);unfold Oper.wp;have hrun:(execOp a.eval o).run P w=.ok (.value (.pointer (some ⟨w.heap.size,0,none⟩))) (w.alloc (.cells z.cells T)):=by
   simp[execOp,hop,Instr.alloc,zeroValue,typeInfo,hi,xw,newVar,newRow]
  rw[hrun,Oper.upon_value,hd];refine hK _ _ _ _ (hs'.set (t:=t) (d:=.ptr p.r 0) (bs:=[]) ht ?_ (by simp)) (fun j hj=>?_)
  ·exact(yQ.ptr p.r 0 w.heap.size (by simp[xD])).Nk
  ·unfold xD;simp only[aT,bW]at hj;rw[b8 (by omega)]
 ·rw[PG]at hr hfree hK;rw[Rh]at hK;obtain⟨bs,rr,hz⟩:=hs.ev x;rw[Ps σ H' H x]at rr;have hcs:=B4 hs.o6 rr hc;have hs':=hs.QR (r:=p.r) hr (by simpa using hfree 0 (by simp)) T hcs hz;unfold Oper.wp;have hrun:(execOp a.eval o).run P w=.ok (.value (.pointer (some ⟨w.heap.size,0,none⟩))) (w.alloc (.cells (a.eval x).cells T)):=by
   simp[execOp,hop,Instr.box,newVar,newRow]
  rw[hrun,Oper.upon_value,hd];refine hK _ _ _ _ (hs'.set (t:=t) (d:=.ptr p.r 0) (bs:=[]) ht ?_ (by simp)) (fun j hj=>?_)
  ·exact(yQ.ptr p.r 0 w.heap.size (by simp[xD])).Nk
  ·unfold xD;simp only[aT,bW]at hj;rw[b8 (by omega)]
theorem dV.XG{σ:List (Nat×D)}{H':bP}(hs:dV Γ ⟨σ,H'⟩ κ Θ a w){r:Nat}(hr:r+1<=H'.length)(hfree:κ r=none){u:Bool}{e sz cap:Nat}{rows:List aL}{bs:aW}(cur:Array Value)(hsz:0<sz)(hrl:∀x∈rows,x.length=sz)
 (Lr:cur.size=cap*sz) (hn:rows.length<=cap) (hcap:cap<=maxLen) (hrd:mR w (cur.toList.take (rows.length*sz)) rows.flatten bs) (hz:∀b∈bs,Θ b=0) (hq:u=true->bs=[]/\wK w (tT e) 0 (cur.toList.take (rows.length*sz)) rows.flatten bs):
 dV Γ ⟨σ,place H' r [.row (x7 u) e sz rows]⟩ (xD κ r (some (.slice (some ⟨w.heap.size,0,none⟩) rows.length cap))) (fun b=>if b=w.heap.size then r+2 else Θ b) a (w.alloc (.cells cur e)):=by
 have k:=iF.alloc hs (.cells cur e) (tag:=r+2) (by omega);have hkn:=wJ hfree (some (Value.slice (some ⟨w.heap.size,0,none⟩) rows.length cap));obtain⟨h1,h2⟩:=mR.over k hrd hz;have hlen:(cur.toList.take (rows.length*sz)).length=rows.length*sz:=by
  have:rows.length*sz<=cap*sz:=dW _ hn;have h3:cur.toList.length=cap*sz:=by rw[<-Lr];simp
  rw[bw,h3,fG this]
 have hown:(w.alloc (.cells cur e)).ownsRow 0 e sz (.slice (some ⟨w.heap.size,0,none⟩) rows.length cap) rows.length (cur.toList.take (rows.length*sz)):=
  ⟨hlen,.inr ⟨w.heap.size,cap,cur,rfl,by omega,heap_alloc_new w _,hn,hcap,Lr,rfl⟩⟩
 obtain⟨ρ,hu⟩:=hs.rR;refine hs.put (id:=r) (o:=.row (x7 u) e sz rows) [] ?_ hkn ?_ ?_ k (hs.yw (fun b hb=>by by_cases e:b=w.heap.size<;>simp_all)) ?_ hu (by simp) ?_
 ·intro j y hj;rw[tv (by simpa using hr)]at hj;split at hj
  ·exact .inr ⟨by omega,hj⟩
  ·split at hj
   ·rename_i h2;simp only[aT,bW]at h2;have e:j=r:=by omega
    subst e;simp at hj;exact .inl ⟨rfl,hj.symm⟩
   ·rename_i h2;simp only[aT,bW]at h2;exact .inr ⟨by omega,hj⟩
 ·intro i hi;rw[u7 (by simpa using hr)]at hi;unfold xD;rw[b8 (by omega)];exact hs.ol i hi
 ·intro i x hx;unfold xD at hx;split at hx
  ·cases hx;rfl
  ·exact hs.o6 i x hx
 ·refine⟨hsz,hrl,_,_,bs,by simp[xD],hown,h1,?_,?_⟩
  ·intro g hg;simp only[Value.ownBlock,aj]at hg;subst hg;simp
  ·cases u<;>exact h2
 ·intro e' sz' dO he;cases u with
  |false=>simp[x7]at he
  |true=>
   simp only[x7,Ob.row.injEq,qt]at he;obtain⟨rfl,rfl,rfl⟩:=he;obtain⟨h0,hF⟩:=hq rfl;subst h0;exact⟨_,_,[],by simp[xD],hown,hF.over k hz,by simp,by simp⟩
theorem O2.wp{Q':Exit->Act->World->Prop}{σ:List (Nat×D)}{H H':bP}{o:Oper}{p:Cp}{K:Act->World->Prop}(hs:dV Γ ⟨σ,H'⟩ κ Θ a w)(hx:Ext H H'){t:Nat}(hd:o.dst=some t)(ht:t<Γ.nt)(h:O2 P H σ o p)
 (hr:p.r+p.obs.length<=H'.length) (hfree:∀i,i<p.obs.length->κ (p.r+i)=none)
 (hK:∀κ' Θ' a' w',dV Γ ⟨(t,p.d)::σ,place H' p.r p.obs⟩ κ' Θ' a' w'->(∀j,(j<p.r\/p.r+p.obs.length<=j)->κ' j=κ j)->K a' w'):o.wp P a w K Q':=by
 obtain⟨T,e,sz,len,parts,zs,ds,es,hop,hT,hz,hsz,hsmall,hf,habs,Rh,PG⟩:=h;rw[PG]at hr hfree hK;rw[Rh]at hK;have hf':xk (sZ len sz) (List.replicate len zs).flatten (parts.toList.map fun q=>(q.1,St.ev ⟨σ,H'⟩ q.2))=some ds:=by
  rw[<-hf];congr 1
 obtain⟨arr,b0,hrun,Mv,hb0,hal,hdl⟩:=zH (st:=⟨σ,H'⟩) hop hT hz hsz hsmall hf' hs;obtain⟨ρ,hu⟩:=hs.rR;obtain⟨bs,q1,q2,q3⟩:=R6 (H:=H) (ρ:=ρ) habs (by simp) Mv hb0 (by simp) e 0;have hel:es.length=len*sz:=by rw[<-q1.length,Mv.length,hdl]
 obtain⟨c1,c2,c3⟩:=Dn sz len es hel;have hs':=hs.XG (r:=p.r) hr (by simpa using hfree 0 (by simp)) (u:=Uv H e 0 ds) (e:=e) (sz:=sz) (cap:=len) (rows:=chunk sz len es) (bs:=bs) arr hsz c3 hal (by rw[c1];exact bO _)
  (by unfold maxLen;have:len*1<=len*sz:=cr _ hsz;omega) (by rw[c1,c2,kw (by simp[hal])];exact q1) q2
  (fun hq=>by
   obtain⟨_,h2,h3⟩:=q3 hq;refine⟨?_,by rw[c1,c2,kw (by simp[hal])];exact h3⟩;cases bs with
   |nil=>rfl
   |cons b bs=>obtain⟨m,hm,_⟩:=h2 b (by simp);cases hm)
 unfold Oper.wp;rw[hrun,Oper.upon_value,hd];rw[c1]at hs';refine hK _ _ _ _ (hs'.set (t:=t) (d:=.acc p.r) (bs:=[]) ht ?_ (by simp)) (fun j hj=>?_)
 ·exact(yQ.acc p.r _ (by simp[xD])).Nk
 ·unfold xD;simp only[aT,bW]at hj;rw[b8 (by omega)]
theorem O1.wp{Q':Exit->Act->World->Prop}{σ:List (Nat×D)}{H H':bP}{o:Oper}{p:Cp}{K:Act->World->Prop}(hs:dV Γ ⟨σ,H'⟩ κ Θ a w){t:Nat}(hd:o.dst=some t)(ht:t<Γ.nt)(h:O1 P H σ o p)
 (hK:∀κ' Θ' a' w',dV Γ ⟨(t,p.d)::σ,place H' p.r p.obs⟩ κ' Θ' a' w'->(∀j,(j<p.r\/p.r+p.obs.length<=j)->κ' j=κ j)->K a' w'):o.wp P a w K Q':=by
 obtain⟨T,e,sz,len,parts,zs,ds,hop,hT,hz,hsz,hsmall,hf,a83,a4u,Rh,PG⟩:=h;rw[PG]at hK;rw[Rh]at hK;have hf':xk (sZ len sz) (List.replicate len zs).flatten (parts.toList.map fun q=>(q.1,St.ev ⟨σ,H'⟩ q.2))=some ds:=by
  rw[<-hf];congr 1
 obtain⟨arr,b0,hrun,Mv,hb0,hal,hdl⟩:=zH (st:=⟨σ,H'⟩) hop hT hz hsz hsmall hf' hs;have hrd:=Mv.pure a83;have a7h:b0=[]:=hrd.flat a4u;subst a7h;obtain⟨c1,c2,c3⟩:=Dn sz len ds hdl;have Ln:Below w.heap.size w (w.alloc (.cells arr e)):=by
  have k:=iF.alloc hs (.cells arr e) (tag:=2) (by omega);refine⟨k.os,k.tape,k.output,k.size,fun b hlt=>?_⟩;simp only[World.alloc];rw[Array.getElem?_push,b8 (by omega)]
 have hs':=hs.grow Ln;unfold Oper.wp;rw[hrun,Oper.upon_value,hd];have hpl:place H' p.r ([]:bP)=H':=by simp[place]
 rw[hpl]at hK;refine hK _ _ _ _ (hs'.set (t:=t) (d:=.sl (chunk sz len ds)) (bs:=[w.heap.size]) ht ?_ ?_) (fun j hj=>rfl)
 ·have hcell:∀j c,arr.toList[j]?=some c->(w.alloc (.cells arr e)).cell? ⟨w.heap.size,0+j,none⟩=some c:=by
   intro j c hj;simp only[cN,World.cell?,heap_alloc_new w _];simpa using hj
  have hlt:w.heap.size<(w.alloc (.cells arr e)).heap.size:=(bC.1 (heap_alloc_new w _)).1;have:=Rd.sl (w:=w.alloc (.cells arr e)) w.heap.size 0 len sz (chunk sz len ds) arr.toList [] hlt (by rw[c1];exact bO _) (by unfold maxLen;have:len*1<=len*sz:=cr _ hsz;omega) c3 hcell (by rw[c2];exact hrd.keep (by simp));rw[c1]at this;exact .of this
 ·intro b hb;simp only[cI]at hb;subst hb;cases h:Θ w.heap.size with
  |zero=>rfl
  |succ m=>exact absurd (hs.own w.heap.size (by omega)) (by omega)
theorem Hi.wp{Q':Exit->Act->World->Prop}{σ:List (Nat×D)}{H H':bP}{o:Oper}{p:Cp}{K:Act->World->Prop}(hs:dV Γ ⟨σ,H'⟩ κ Θ a w)(hx:Ext H H'){t:Nat}(hd:o.dst=some t)(ht:t<Γ.nt)(h:Hi P H σ o p)
 (hr:p.r+p.obs.length<=H'.length) (hfree:∀i,i<p.obs.length->κ (p.r+i)=none)
 (hK:∀κ' Θ' a' w',dV Γ ⟨(t,p.d)::σ,place H' p.r p.obs⟩ κ' Θ' a' w'->(∀j,(j<p.r\/p.r+p.obs.length<=j)->κ' j=κ j)->K a' w'):o.wp P a w K Q':=by
 rcases h with h|h|h|h
 ·exact h.wp hs hx hd ht hr hfree hK
 ·exact h.wp hs hd ht hr hfree hK
 ·exact h.wp hs hx hd ht hr hfree hK
 ·exact h.wp hs hd ht hK
theorem dV.YI(hs:dV Γ st κ Θ a w){ops:Array Oper}{j s:Nat}(hj:(ops[j]?).bind (·.dst)=some s)(hb:lk st.σ s=.gw []):yielded ops a.tmps j=none:=by
 obtain⟨bs,r,_⟩:=hs.slot s;rw[hb]at r;have hv:=r.Nl;rcases eF s a.tmps.size with hlt|hlt
 ·have h1:a.tmps[s]?=some (.tuple #[]):=by
   rw[cH,cR hlt]at hv;rw[cR hlt];simpa using hv
  simp[yielded,hj,h1]
 ·simp[yielded,hj,rU hlt]
def Cp.Al(p:Cp)(H':bP):bP:=match p.up with|some (id,ob)=>H'.set id ob|none=>place H' p.r p.obs
theorem tJ.wp{Q':Exit->Act->World->Prop}{σ:List (Nat×D)}{H H':bP}{ops:Array Oper}{i:Nat}{o:Oper}{p:Cp}{K:Act->World->Prop}(hs:dV Γ ⟨σ,H'⟩ κ Θ a w)(hx:Ext H H')(hi:ops[i]?=some o)(h:tJ P Γ ops H σ o p)
 (hr:p.r+p.obs.length<=H'.length) (hfree:∀i,i<p.obs.length->κ (p.r+i)=none) (R2:∀id ob,p.up=some (id,ob)->∃zs ds,H'[id]?=some (.box zs)/\ob=.box ds/\zs.length=ds.length)
 (hK:∀κ' Θ' a' w',dV Γ ⟨p.slot σ,p.Al H'⟩ κ' Θ' a' w'->(∀j,(j<p.r\/p.r+p.obs.length<=j)->κ' j=κ j)->K a' w'):wpOp P ops Q' i K a w:=by
 rcases h with⟨t,hpt,TE,hd,ht,h⟩|⟨hpt,PG,hd,hg,T,x,y,id,ds,hop,hev,hlen,hc,hT,hl,TE⟩
 ·have e1:p.slot σ=(t,p.d)::σ:=by simp[Cp.slot,hpt]
  have e2:p.Al H'=place H' p.r p.obs:=by simp[Cp.Al,TE]
  rw[e1,e2]at hK;rcases h with⟨hg,hc⟩|⟨j,s,want,b,hg,hj,hb,hc⟩|⟨j,s,want,hg,hj,hb,a2K,hno⟩
  ·exact A5 hi (by simp[Region.wanted,hg]) (hc.wp hs hx hd ht hr hfree hK)
  ·have hy:=hs.a44 hj hb;rcases hc with⟨rfl,hc⟩|⟨hne,a2K,hno⟩
   ·exact A5 hi (by simp[Region.wanted,hg,hy]) (hc.wp hs hx hd ht hr hfree hK)
   ·unfold wpOp;have hw:Region.wanted o (yielded ops a.tmps)=false:=by simp[Region.wanted,hg,hy,hne]
    simp only[hi,hw,z8,xK,hd];have hp:place H' p.r p.obs=H':=by rw[hno];simp[place]
    exact hK κ Θ _ _ (by rw[hp,a2K];exact hs.set ht (.gw [] [] [] .nil) (by simp)) (fun _ _=>rfl)
  ·have hy:=hs.YI hj hb;unfold wpOp;have hw:Region.wanted o (yielded ops a.tmps)=false:=by simp[Region.wanted,hg,hy]
   simp only[hi,hw,z8,xK,hd];have hp:place H' p.r p.obs=H':=by rw[hno];simp[place]
   exact hK κ Θ _ _ (by rw[hp,a2K];exact hs.set ht (.gw [] [] [] .nil) (by simp)) (fun _ _=>rfl)
 ·have e1:p.slot σ=σ:=by simp[Cp.slot,hpt]
  have e2:p.Al H'=H'.set id (.box ds):=by simp[Cp.Al,TE]
  rw[e1,e2]at hK;obtain⟨zs,ds',hz,he,hzl⟩:=R2 id _ TE;cases he;obtain⟨w',hrun,hs'⟩:=Ng (st:=⟨σ,H'⟩) hop (by rw[Ps σ H' H x];exact hev) hz rfl (by rw[Ps σ H' H y];exact hc) hT hl (by omega) rfl hs;refine A5 hi (by simp[Region.wanted,hg]) ?_;unfold Oper.wp;rw[hrun,Oper.upon_skip,hd];have e3:zs.take 0++ds++zs.drop (0+ds.length)=ds:=by
   rw[Br (by omega)];simp
  rw[e3]at hs';exact hK κ Θ _ _ hs' (fun _ _=>rfl)
theorem JN.congr{H:bP}{σ σ':List (Nat×D)}{o:Oper}{p:Cp}(he:∀x∈o.op.operands.toList,St.ev ⟨σ,H⟩ x=St.ev ⟨σ',H⟩ x)(h:JN P H σ o p):JN P H σ' o p:=by
 rcases h with⟨h,hno⟩|⟨f,xs,ts,ds,ms,d,hop,hds,hsh,nQ,hi⟩
 ·exact .inl ⟨Om (fun _ _ h=>h) he h,hno⟩
 ·have hm:xs.toList.map (St.ev ⟨σ,H⟩)=xs.toList.map (St.ev ⟨σ',H⟩):=by
   apply oB;intro x hx;refine he x ?_;rw[hop];simp only[Op.operands,Call.operands,lR,aU];exact .inr hx
  rw[hm]at hds;exact .inr ⟨f,xs,ts,ds,ms,d,hop,hds,hsh,nQ,hi⟩
theorem Hi.congr{H:bP}{σ σ':List (Nat×D)}{o:Oper}{p:Cp}(he:∀x∈o.op.operands.toList,St.ev ⟨σ,H⟩ x=St.ev ⟨σ',H⟩ x)(h:Hi P H σ o p):Hi P H σ' o p:=by
 rcases h with h| (h|⟨T,x,ds,hop,hc,Rh,PG⟩)|⟨T,e,sz,len,parts,zs,ds,es,hop,hT,hz,hsz,hsmall,hf,habs,Rh,PG⟩|⟨T,e,sz,len,parts,zs,ds,hop,hT,hz,hsz,hsmall,hf,habs,hfl,Rh,PG⟩
 ·exact .inl (h.congr he)
 ·exact .inr (.inl (.inl h))
 ·exact .inr (.inl (.inr ⟨T,x,ds,hop,by rw[<-he x (by rw[hop];simp[Op.operands])];exact hc,Rh,PG⟩))
 ·refine .inr (.inr (.inl ⟨T,e,sz,len,parts,zs,ds,es,hop,hT,hz,hsz,hsmall,?_,habs,Rh,PG⟩));rw[<-hf]
  congr 1
  apply oB;intro q hq;rw[he q.2 ?_];rw[hop];simp only[Op.operands,gm];exact cA.2 ⟨q,hq,rfl⟩
 ·refine .inr (.inr (.inr ⟨T,e,sz,len,parts,zs,ds,hop,hT,hz,hsz,hsmall,?_,habs,hfl,Rh,PG⟩));rw[<-hf]
  congr 1
  apply oB;intro q hq;rw[he q.2 ?_];rw[hop];simp only[Op.operands,gm];exact cA.2 ⟨q,hq,rfl⟩
theorem tJ.congr{H:bP}{σ σ':List (Nat×D)}{ops:Array Oper}{o:Oper}{p:Cp}(he:∀t∈o.looksAt ops,lk σ t=lk σ' t)(h:tJ P Γ ops H σ o p):tJ P Γ ops H σ' o p:=by
 have hev:=La (st:=⟨σ,H⟩) (ue:=⟨σ',H⟩) he;have hgu:∀ {j s:Nat} {want:Bool},o.guard=some (j,want)->(ops[j]?).bind (·.dst)=some s->lk σ s=lk σ' s:=by
  intro j s want hg hj;refine he s ?_;unfold Oper.looksAt;refine aU.2 (.inr ?_);simp[hg,hj]
 rcases h with⟨t,hpt,TE,hd,ht,h⟩|⟨hpt,PG,hd,hg,T,x,y,id,ds,hop,hx,hlen,hc,hT,hl,TE⟩
 ·refine .inl ⟨t,hpt,TE,hd,ht,?_⟩;rcases h with⟨hg,hc⟩|⟨j,s,want,b,hg,hj,hb,hc⟩|⟨j,s,want,hg,hj,hb,hc⟩
  ·exact .inl ⟨hg,hc.congr hev⟩
  ·refine .inr (.inl ⟨j,s,want,b,hg,hj,by rw[<-hgu hg hj];exact hb,?_⟩);rcases hc with⟨h1,hc⟩|hc
   ·exact .inl ⟨h1,hc.congr hev⟩
   ·exact .inr hc
  ·exact .inr (.inr ⟨j,s,want,hg,hj,by rw[<-hgu hg hj];exact hb,hc⟩)
 ·refine .inr ⟨hpt,PG,hd,hg,T,x,y,id,ds,hop,?_,hlen,?_,hT,hl,TE⟩
  ·rw[<-hev x (by rw[hop];simp[Op.operands])];exact hx
  ·rw[<-hev y (by rw[hop];simp[Op.operands])];exact hc
def Cp.sl(p:Cp):Option (Nat×D):=p.t.map fun t=>(t,p.d)
theorem Cp.a0R(p:Cp)(σ:List (Nat×D)):p.slot σ=p.sl.toList++σ:=by
 unfold Cp.slot Cp.sl;cases p.t<;>rfl
theorem Kz(p:Cp)(ps:List Cp)(σ:List (Nat×D)):((p::ps).filterMap Cp.sl).reverse++σ=(ps.filterMap Cp.sl).reverse++p.slot σ:=by
 rw[Cp.a0R,yO];cases p.sl<;>simp
theorem tJ.YK{H:bP}{σ:List (Nat×D)}{o:Oper}{p:Cp}(h:tJ P Γ all H σ o p):p.up=none\/p.obs=[]:=by
 rcases h with⟨_,_,h,_⟩|⟨_,h,_⟩
 ·exact .inl h
 ·exact .inr h
theorem tJ.slots{H:bP}{σ:List (Nat×D)}{o:Oper}{p:Cp}(h:tJ P Γ all H σ o p):o.dst=p.t:=by
 rcases h with⟨t,h1,_,h2,_⟩|⟨h1,_,h2,_⟩
 ·rw[h1,h2]
 ·rw[h1,h2]
theorem KE.unfold{H:bP}{K:List (Nat×D)->bP->Prop}:∀(l:List Oper) (σ:List (Nat×D)) (acc:bP) (U:aW),KE P Γ all H K l σ acc U->
 ∃(ps:List Cp) (Kh:bP),ps.length=l.length/\(∀(i:Nat) o p,l[i]?=some o->ps[i]?=some p->tJ P Γ all H (((ps.take i).filterMap Cp.sl).reverse++σ) o p/\p.r=H.length+acc.length+((ps.take i).flatMap Cp.obs).length/\
  ∀id ob,p.up=some (id,ob)->id∉U/\H.length<=id/\(∃zs ds,ob=.box ds/\zs.length=ds.length/\(acc++(ps.take i).flatMap Cp.obs)[id-H.length]?=some (.box zs))/\∀(i2:Nat) q Ay,i2<i->ps[i2]?=some q->q.up≠some (id,Ay))/\
  K ((ps.filterMap Cp.sl).reverse++σ) Kh/\Kh.length=acc.length+(ps.flatMap Cp.obs).length/\
  (∀k,(∀(i:Nat) q ob,ps[i]?=some q->q.up≠some (H.length+k,ob))->Kh[k]?=(acc++ps.flatMap Cp.obs)[k]?)/\
  ∀(i:Nat) q id ob,ps[i]?=some q->q.up=some (id,ob)->Kh[id-H.length]?=some ob:=by
 intro l
 induction l with
 |nil=>
  intro σ acc U h;have h:K σ acc:=h;exact⟨[],acc,rfl,by simp,by simpa using h,by simp,by simp,by simp⟩
 |cons o l ih=>
  intro σ acc U h;obtain⟨p,hr,hc,hok,qJ⟩:=h;obtain⟨ps,Kh,h1,h2,h3,h4,h5,h6⟩:=ih _ _ _ qJ;cases R2:p.up with
  |none=>
   have ef:p.fill H.length acc=acc++p.obs:=by simp[Cp.fill,R2]
   have eu:p.ups U=U:=by simp[Cp.ups,R2]
   rw[ef]at h2 h4 h5;rw[eu]at h2;refine⟨p::ps,Kh,by simp[h1],?_,by rw[Kz];exact h3,by rw[h4];simp;omega,?_,?_⟩
   ·intro i o' p' ho hp;cases i with
    |zero=>
     simp at ho hp;subst ho;subst hp;refine⟨by simpa using hc,by simpa using hr,?_⟩;intro id ob he;rw[R2]at he;cases he
    |succ i=>
     simp at ho hp;obtain⟨q1,q2,q3⟩:=h2 i o' p' ho hp;refine⟨by rw[uJ,Kz];exact q1,by rw[q2];simp;omega,?_⟩;intro id ob he;obtain⟨r1,r2,⟨zs,ds,r3,r4,r5⟩,r6⟩:=q3 id ob he;refine⟨r1,r2,⟨zs,ds,r3,r4,by rw[<-r5];simp⟩,?_⟩;intro i2 q Ay hlt hq;cases i2 with
     |zero=>simp at hq;subst hq;rw[R2];simp
     |succ i2=>exact r6 i2 q Ay (by omega) (by simpa using hq)
   ·intro k hk;rw[h5 k (fun i q ob hq=>hk (i+1) q ob (by simpa using hq))];simp
   ·intro i q id ob hq he;cases i with
    |zero=>simp at hq;subst hq;rw[R2]at he;cases he
    |succ i=>exact h6 i q id ob (by simpa using hq) he
  |some x=>
   obtain⟨TN,ob0⟩:=x;have ef:p.fill H.length acc=acc.set (TN-H.length) ob0:=by simp[Cp.fill,R2]
   have eu:p.ups U=TN::U:=by simp[Cp.ups,R2]
   have VA:p.obs=[]:=by
    rcases hc.YK with h|h
    ·rw[h]at R2;cases R2
    ·exact h
   rw[ef]at h2 h4 h5;rw[eu]at h2;simp only[Cp.a6e,R2]at hok;obtain⟨u1,u2,zs0,ZM,u3,u4,u5⟩:=hok;have qg:∀(X:bP) (k:Nat),k≠TN-H.length->(acc.set (TN-H.length) ob0++X)[k]?=(acc++X)[k]?:=by
    intro X k hk;by_cases hl:k<acc.length
    ·rw[av (by simpa using hl),av hl,cE (rW hk)]
    ·rw[az (by simpa using hl),az (by omega)];simp
   have hno:∀(i:Nat) q Ay,ps[i]?=some q->q.up≠some (TN,Ay):=by
    intro i q Ay hq he;have hlt:i<l.length:=by have:=(aF.1 hq).1;omega
    have:=(h2 i l[i] q (aa hlt) hq).2.2 TN Ay he;exact this.1 (by simp)
   refine⟨p::ps,Kh,by simp[h1],?_,by rw[Kz];exact h3,by rw[h4];simp[VA],?_,?_⟩
   ·intro i o' p' ho hp;cases i with
    |zero=>
     simp at ho hp;subst ho;subst hp;refine⟨by simpa using hc,by simpa using hr,?_⟩;intro id ob he;rw[R2]at he;cases he;exact⟨u1,u2,⟨zs0,ZM,u4,u5,by simpa using u3⟩,by intro i2 q Ay hlt;omega⟩
    |succ i=>
     simp at ho hp;obtain⟨q1,q2,q3⟩:=h2 i o' p' ho hp;refine⟨by rw[uJ,Kz];exact q1,by rw[q2];simp[VA],?_⟩;intro id ob he;obtain⟨r1,r2,⟨zs,ds,r3,r4,r5⟩,r6⟩:=q3 id ob he;have hne:id≠TN:=fun e=>r1 (by simp[e])
     refine⟨fun h=>r1 (by simp[h]),r2,⟨zs,ds,r3,r4,?_⟩,?_⟩
     ·rw[<-r5,qg _ _ (by omega)];simp[VA]
     ·intro i2 q Ay hlt hq;cases i2 with
      |zero=>simp at hq;subst hq;rw[R2];intro e;cases e;exact hne rfl
      |succ i2=>exact r6 i2 q Ay (by omega) (by simpa using hq)
   ·intro k hk;rw[h5 k (fun i q ob hq=>hk (i+1) q ob (by simpa using hq))];have hne:k≠TN-H.length:=fun e=>hk 0 p ob0 rfl (by rw[R2,e,show H.length+(TN-H.length)=TN from by omega])
    rw[qg _ _ hne];simp[VA]
   ·intro i q id ob hq he;cases i with
    |zero=>
     simp at hq;subst hq;rw[R2]at he;cases he;rw[h5 (TN-H.length) (fun i q Ay hq=>by rw[show H.length+(TN-H.length)=TN from by omega];exact hno i q Ay hq)];have hl:TN-H.length<acc.length:=(aF.1 u3).1;rw[av (by simpa using hl),dF hl]
    |succ i=>exact h6 i q id ob (by simpa using hq) he
theorem dV.same{σ':List (Nat×D)}(h:∀t,lk st.σ t=lk σ' t)(hs:dV Γ st κ Θ a w):dV Γ ⟨σ',st.H⟩ κ Θ a w:=
 ⟨hs.defers,hs.size,hs.ol,hs.o6,fun t=>by show∃bs,rS w κ _ (lk σ' t) bs/\_;rw[<-h t];exact hs.slot t,hs.ob,hs.own,hs.old,hs.mine,hs.stays,hs.rR⟩
theorem dV.room(hs:dV Γ st κ Θ a w)(m:Nat):dV Γ ⟨st.σ,st.H++List.replicate m .gone⟩ κ Θ a w:=by
 have key:∀(j:Nat) y,(st.H++List.replicate m .gone)[j]?=some y->y=.gone\/st.H[j]?=some y:=by
  intro j y hj;by_cases hlt:j<st.H.length
  ·rw[av hlt]at hj;exact .inr hj
  ·rw[az (by omega)]at hj;rw[List.getElem?_replicate]at hj;split at hj
   ·cases hj;exact .inl rfl
   ·cases hj
 obtain⟨ρ,hu⟩:=hs.rR;refine⟨hs.defers,hs.size,fun i hi=>hs.ol i (by simp at hi;omega),hs.o6,hs.slot,?_,hs.own,hs.old,hs.mine,hs.stays,ρ,hu.free,?_,?_⟩
 ·intro j o hj;rcases key j o hj with rfl|h
  ·trivial
  ·exact hs.ob j o h
 ·intro id e sz rows hj;rcases key id _ hj with h|h
  ·cases h
  ·exact hu.rows id e sz rows h
 ·intro id o hj;rcases key id _ hj with h|h
  ·subst h;trivial
  ·exact hu.more id o h
theorem qc{ps:List Cp}{i:Nat}{p:Cp}(h:ps[i]?=some p):ps.flatMap Cp.obs=(ps.take i).flatMap Cp.obs++(p.obs++(ps.drop (i+1)).flatMap Cp.obs):=by
 have e:ps=ps.take i++(p::ps.drop (i+1)):=by
  obtain⟨hlt,rfl⟩:=aF.1 h;rw[Bs,cJ]
 conv=>lhs;rw[e]
 simp
theorem yl{ps:List Cp}:∀ {k:Nat},k<(ps.flatMap Cp.obs).length->∃(i:Nat) (p:Cp) (j:Nat),ps[i]?=some p/\j<p.obs.length/\k=((ps.take i).flatMap Cp.obs).length+j:=by
 induction ps with
 |nil=>intro k h;simp at h
 |cons p ps ih=>
  intro k h;by_cases hk:k<p.obs.length
  ·exact⟨0,p,k,rfl,hk,by simp⟩
  ·simp only[cm,ar]at h;obtain⟨i,q,j,h1,h2,h3⟩:=ih (k:=k-p.obs.length) (by omega);refine⟨i+1,q,j,by simpa using h1,h2,?_⟩;rw[uJ,cm,ar];omega
theorem Nc{ps:List Cp}{i j:Nat}{p:Cp}(hp:ps[i]?=some p)(hij:i<j):((ps.take i).flatMap Cp.obs).length+p.obs.length<=((ps.take j).flatMap Cp.obs).length:=by
 have h:(ps.take j)[i]?=some p:=by rw[cS,bL hij];exact hp
 have:=qc h;rw[this];have e:(ps.take j).take i=ps.take i:=by rw[tH,fG (by omega)]
 rw[e];simp only[ar];omega
theorem Yv{id:Nat}{l:List Oper}(n:Nat)(hm:P.follows .mixedOrders=true)(hB:Vp l.toArray n=true)
 (h:KE P Γ l.toArray st.H (fun σ acc=>AO P Γ l.toArray (l.drop n) Q ⟨σ,st.H++acc⟩) (l.take n) st.σ [] []):AW P Γ (.region id l.toArray true) Q st:=by
 simp only[Vp,aR,nu,bA]at hB;obtain⟨⟨⟨hn,hsc⟩,ZU⟩,KM⟩:=hB;obtain⟨ps,Kh,hlen,Lp,hK,hFl,hFo,hFu⟩:=KE.unfold _ _ _ _ h;simp only[dM,bW,rV,cN]at Lp hK hFl hFo;have hn':n<=l.length:=by simpa using hn
 have hpl:ps.length=n:=by rw[hlen];simp;omega
 have hop:∀(i:Nat),i<n->∃o p,l.toArray[i]?=some o/\ps[i]?=some p/\o.dst=p.t/\tJ P Γ l.toArray st.H (((ps.take i).filterMap Cp.sl).reverse++st.σ) o p/\p.r=st.H.length+((ps.take i).flatMap Cp.obs).length:=by
  intro i hi;have h1:l[i]?=some l[i]:=aa (by omega);have h2:ps[i]?=some ps[i]:=aa (by omega);have h3:=Lp i l[i] ps[i] (by rw[cS,bL hi];exact h1) h2;exact⟨l[i],ps[i],by simp[hY,h1],h2,h3.1.slots,h3.1,h3.2.1⟩
 have Ri:∀(i:Nat) p,ps[i]?=some p->p.r=st.H.length+((ps.take i).flatMap Cp.obs).length:=by
  intro i p hp;have hi:i<n:=by have:=(aF.1 hp).1;omega
  obtain⟨_,p',_,hp',_,_,hr⟩:=hop i hi;rw[hp]at hp';cases hp';exact hr
 have OJ:∀(i:Nat) p id ob,ps[i]?=some p->p.up=some (id,ob)->st.H.length<=id/\(∃zs ds,ob=.box ds/\zs.length=ds.length/\((ps.take i).flatMap Cp.obs)[id-st.H.length]?=some (.box zs))/\∀(i2:Nat) q Ay,i2<i->ps[i2]?=some q->q.up≠some (id,Ay):=by
  intro i p id ob hp he;have hi:i<n:=by have:=(aF.1 hp).1;omega
  have h1:l[i]?=some l[i]:=aa (by omega);have h3:=(Lp i l[i] p (by rw[cS,bL hi];exact h1) hp).2.2 id ob he;exact⟨h3.2.1,h3.2.2.1,h3.2.2.2⟩
 have Wa:∀(i j:Nat) p q id ob Ay,ps[i]?=some p->ps[j]?=some q->p.up=some (id,ob)->q.up=some (id,Ay)->i=j:=by
  intro i j p q id ob Ay hp hq he HP;rcases ve i j with h|h|h
  ·exact absurd he ((OJ j q id Ay hq HP).2.2 i p ob h hp)
  ·exact h
  ·exact absurd HP ((OJ i p id ob hp he).2.2 j q Ay h hq)
 have Wb:∀(i:Nat) p id ob,ps[i]?=some p->p.up=some (id,ob)->p.obs=[]:=by
  intro i p id ob hp he;have hi:i<n:=by have:=(aF.1 hp).1;omega
  obtain⟨_,p',_,hp',_,hc,_⟩:=hop i hi;rw[hp]at hp';cases hp';rcases hc.YK with h|h
  ·rw[h]at he;cases he
  ·exact h
 have hfit:∀(i:Nat) p,ps[i]?=some p->p.r+p.obs.length<=st.H.length+(ps.flatMap Cp.obs).length:=by
  intro i p hp;rw[Ri i p hp,qc hp];simp only[ar];omega
 have OE:∀(i j:Nat) p q,ps[i]?=some p->ps[j]?=some q->i<j->p.r+p.obs.length<=q.r:=by
  intro i j p q hp hq hij;rw[Ri i p hp,Ri j q hq];have:=Nc hp hij;omega
 have hdist:∀(i j:Nat) p q t,ps[i]?=some p->ps[j]?=some q->p.t=some t->q.t=some t->i=j:=by
  intro i j p q t hp hq he1 HP;have hi:i<n:=by have:=(aF.1 hp).1;omega
  have hj:j<n:=by have:=(aF.1 hq).1;omega
  obtain⟨oi,p',ho,hp',hdi,_⟩:=hop i hi;obtain⟨oj,q',xf,My,hdj,_⟩:=hop j hj;rw[hp]at hp';cases hp';rw[hq]at My;cases My;have:=ai.1 KM i (bf.2 hi);simp only[ho,aR]at this;have:=ai.1 this.2 j (bf.2 hj);simp only[xf,hdi,hdj,he1,HP,oV,bh,sS,Option.isNone_some,sS,cV]at this;exact this.symm
 have Ef:∀(i:Nat) p t,ps[i]?=some p->p.t=some t->∀q∈ps.filterMap Cp.sl,q.1=t->q=(t,p.d):=by
  intro i p t hp hpt q hq he;obtain⟨q',My,Jv⟩:=cG.1 hq;obtain⟨j,hj,rfl⟩:=eM.1 My;have Hf:ps[j]?=some ps[j]:=aa hj;unfold Cp.sl at Jv;cases ZS:ps[j].t with
  |none=>rw[ZS]at Jv;cases Jv
  |some u=>
   rw[ZS]at Jv;simp only[cU,aj]at Jv;subst Jv;simp only at he;subst he;have:=hdist j i _ p u Hf hp ZS hpt;subst this;rw[hp]at Hf;cases Hf;rfl
 intro κ Θ a w hs;have main:∀(f:Nat) (listed:Array Bool) (σ':List (Nat×D)) (H':bP) (κ:Nat->Option Value) (Θ:Nat->Nat) (a:Act) (w:World),HeadInv .any l.toArray n listed->
  ((List.range n).filter fun i=> !listed.getD i false).length=f->
  (∀(i:Nat) p t,ps[i]?=some p->p.t=some t->listed.getD i false=true->lk σ' t=p.d)->
  (∀t,(∀(i:Nat) p,ps[i]?=some p->listed.getD i false=true->p.t≠some t)->lk σ' t=lk st.σ t)->
  H'.length=st.H.length+(ps.flatMap Cp.obs).length->Ext st.H H'->
  (∀(i:Nat) p,ps[i]?=some p->listed.getD i false=true->∀(j:Nat) o,p.obs[j]?=some o->(∀(i2:Nat) q ob,ps[i2]?=some q->listed.getD i2 false=true->q.up≠some (p.r+j,ob))->H'[p.r+j]?=some o)->
  (∀(i:Nat) q id ob,ps[i]?=some q->listed.getD i false=true->q.up=some (id,ob)->H'[id]?=some ob/\∃v,κ id=some v)->
  (∀(i:Nat) p,ps[i]?=some p->listed.getD i false=false->∀j,j<p.obs.length->κ (p.r+j)=none)->
  dV Γ ⟨σ',H'⟩ κ Θ a w->
  wpAny P .any l.toArray (fun e a' w'=>∃ue κ' Θ',dV Γ ue κ' Θ' a' w'/\Q e ue) (f+(l.toArray.size-n)) listed a w:=by
  intro f
  induction f with
  |zero=>
   intro listed σ' H' κ Θ a w inv oK hA hB hHl V6 T9 Yd T8 hs;have hall:∀i,i<n->listed.getD i false=true:=by
    intro i hi;have h0:=cO oK;cases hl:listed.getD i false with
    |true=>rfl
    |false=>
     have:i∈(List.range n).filter fun i=> !listed.getD i false:=gj.2 ⟨bf.2 hi,by simp[hl]⟩
     rw[h0]at this;cases this
   have WL:listed=Array.replicate n true++Array.replicate (l.toArray.size-n) false:=by
    apply Array.ext
    ·rw[inv.size];simp;simp at hn;omega
    ·intro i h1 h2;by_cases hi:i<n
     ·have:=hall i hi;rw[A8 (by simpa using hi)];simp[h1]at this;simp[this]
     ·have hi':i<l.toArray.size:=by rw[<-inv.size];exact h1
      have:=inv.tail i (by omega) hi';rw[z7 (by simpa using hi)];simp[h1]at this;simp[this]
   rw[cN];have Jt:∀t,lk σ' t=lk ((ps.filterMap Cp.sl).reverse++st.σ) t:=by
    intro t;by_cases hex:∃(i:Nat) (p:Cp),ps[i]?=some p/\p.t=some t
    ·obtain⟨i,p,hp,hpt⟩:=hex;have hi:i<n:=by have:=(aF.1 hp).1;omega
     rw[hA i p t hp hpt (hall i hi)];have:=HR (ps.filterMap Cp.sl).reverse st.σ (t,p.d) (by rw[dZ];exact cG.2 ⟨p,aD hp,by simp[Cp.sl,hpt]⟩) (fun q hq he=>Ef i p t hp hpt q (by simpa using hq) he);exact this.symm
    ·rw[hB t (fun i p hp _ he=>hex ⟨i,p,hp,he⟩),Eo];intro q hq he;obtain⟨p,hp,hps⟩:=cG.1 (dZ.1 hq);obtain⟨i,hi,hpi⟩:=eM.1 hp;refine hex ⟨i,p,by rw[<-hpi];exact aa hi,?_⟩;unfold Cp.sl at hps;cases hpt:p.t with
     |none=>rw[hpt]at hps;cases hps
     |some u=>rw[hpt]at hps;simp only[cU,aj]at hps;subst hps;simp only at he;rw[he]
   have Vx:H'=st.H++Kh:=by
    apply nX;intro k;by_cases h1:k<st.H.length
    ·rw[av h1];exact V6 k _ (aa h1)|>.trans (aa h1).symm
    ·rw[az (by omega)];by_cases hex:∃(i:Nat) (q:Cp) (ob:Ob),ps[i]?=some q/\q.up=some (k,ob)
     ·obtain⟨i,q,ob,hq,he⟩:=hex;have hi:i<n:=by have:=(aF.1 hq).1;omega
      rw[(Yd i q k ob hq (hall i hi) he).1,hFu i q k ob hq he]
     ·have hno:∀(i:Nat) q ob,ps[i]?=some q->q.up≠some (k,ob):=fun i q ob hq he=>hex ⟨i,q,ob,hq,he⟩
      rw[hFo (k-st.H.length) (fun i q ob hq=>by rw[show st.H.length+(k-st.H.length)=k from by omega];exact hno i q ob hq)];by_cases h2:k-st.H.length<(ps.flatMap Cp.obs).length
      ·obtain⟨i,p,j,hp,hj,hk⟩:=yl h2;have hi:i<n:=by have:=(aF.1 hp).1;omega
       have e3:p.r+j=k:=by rw[Ri i p hp];omega
       have h3:=T9 i p hp (hall i hi) j _ (aa hj) (fun i2 q ob hq _=>by rw[e3];exact hno i2 q ob hq);rw[e3]at h3;rw[h3,qc hp,hk,az (by omega),dQ,av hj,aa hj]
      ·rw[cQ (by omega),cQ (by omega)]
   have hs2:=dV.same (st:=⟨σ',H'⟩) (σ':=(ps.filterMap Cp.sl).reverse++st.σ) Jt hs;simp only[Vx]at hs2;have hwp:=hK κ Θ a w hs2;have hdl:(l.drop n).length=l.toArray.size-n:=by simp
   have:=wpAny_of_seq (md:=.any) (l.drop n) n listed a w (fun j=>by simp[eY]) (by rw[hdl,WL];exact ZU) hwp
   rwa[hdl]at this
  |succ f ih=>
   intro listed σ' H' κ Θ a w inv oK hA hB hHl V6 T9 Yd T8 hs;have hun:∃i,i<n/\listed.getD i false=false:=by
    have hne:((List.range n).filter fun i=> !listed.getD i false)≠[]:=by
     intro h0;rw[h0]at oK;simp at oK
    obtain⟨i,hi⟩:=uC _ hne;obtain⟨h1,h2⟩:=gj.1 hi;exact⟨i,bf.1 h1,by simpa using h2⟩
   have hsz:=inv.size;rw[show f+1+(l.toArray.size-n)=(f+(l.toArray.size-n))+1 from by omega];refine⟨fun h0=>?_,fun i hi=>?_⟩
   ·exfalso;obtain⟨i,⟨hin,Ra⟩,hmin⟩:=exists_least (p:=fun i=>i<n/\listed.getD i false=false) hun;obtain⟨o,p,ho,_,_,_⟩:=hop i hin;have:i∈Region.ready .any l.toArray listed:=by
     refine mem_ready.2 ⟨getD_in (by rw[hsz];omega) Ra,o,ho,fun e he hb=>?_⟩;have:=ai.1 KM i (bf.2 hin);simp only[ho,aR]at this;have:=uo.1 this.1.1 e he;simp only[hb,bh,sR,bA]at this;cases hl:listed.getD e.on false with
     |true=>rfl
     |false=>
      have:=hmin e.on ⟨by omega,hl⟩;omega
    rw[h0]at this;cases this
   ·obtain⟨i0,hi0,hl0⟩:=hun;have hin:i<n:=by
     rcases eF i n with h|h
     ·exact h
     ·rcases hsc with he|⟨hn2,a5E,hchain⟩
      ·obtain⟨_,oi,hoi,_⟩:=mem_ready.1 hi;have:=(bC.1 hoi).1;omega
      ·exact absurd hi (tail_waits a5E hchain hn2 inv _ i0 rfl hi0 (getD_in (by rw[hsz];omega) hl0) i h)
    obtain⟨o,p,ho,hp,hd,hc,_⟩:=hop i hin;obtain⟨Ra,o',ho',hall⟩:=mem_ready.1 hi;rw[ho]at ho';cases ho';have Ai:=getD_both Ra;have W9:tJ P Γ l.toArray st.H σ' o p:=by
     refine tJ.congr (σ:=((ps.take i).filterMap Cp.sl).reverse++st.σ) (σ':=σ') ?_ hc;intro t ht;have Ij:=ai.1 KM i (bf.2 hin);simp only[ho,aR]at Ij;have Ij:=ai.1 Ij.1.2 t ht;by_cases hex:∃(j:Nat) (q:Cp),ps[j]?=some q/\q.t=some t
     ·obtain⟨j,q,hq,Kq⟩:=hex;have hj:j<n:=by have:=(aF.1 hq).1;omega
      obtain⟨oj,q',xf,My,hdj,_⟩:=hop j hj;rw[hq]at My;cases My;have:=ai.1 Ij j (bf.2 hj);simp only[xf,hdj,Kq,oV,bh,sR,aR,bA]at this;obtain⟨hji,Wd⟩:=this;obtain⟨oi',WT,e,he,hb,hon⟩:=Region.waitsFor_spec Wd;rw[ho]at WT;cases WT;have hjl:=hall e he hb;rw[hon]at hjl;rw[hA j q t hq Kq hjl];refine HR ((ps.take i).filterMap Cp.sl).reverse st.σ (t,q.d) ?_ (fun q2 Hf HP=>Ef j q t hq Kq q2 ?_ HP)
      ·rw[dZ];exact cG.2 ⟨q,aD (i:=j) (by rw[cS,bL hji];exact hq),by simp[Cp.sl,Kq]⟩
      ·obtain⟨q3,Rj,xg⟩:=cG.1 (dZ.1 Hf);exact cG.2 ⟨q3,bz Rj,xg⟩
     ·rw[hB t (fun j q hq _ he=>hex ⟨j,q,hq,he⟩),Eo];intro q hq he;obtain⟨q3,Rj,xg⟩:=cG.1 (dZ.1 hq);obtain⟨j,hj,hqj⟩:=eM.1 (bz Rj);refine hex ⟨j,q3,by rw[<-hqj];exact aa hj,?_⟩;unfold Cp.sl at xg;cases hpt:q3.t with
      |none=>rw[hpt]at xg;cases xg
      |some u=>rw[hpt]at xg;simp only[cU,aj]at xg;subst xg;simp only at he;rw[he]
    have hfp:=hfit i p hp;have WK:∀id ob,p.up=some (id,ob)->∃v,κ id=some v:=by
     intro id ob he;rcases W9 with⟨_,_,h,_⟩|⟨_,_,_,_,T,x,y,id',ds,Re,hx',_,_,_,_,TE⟩
     ·rw[h]at he;cases he
     ·rw[TE]at he;cases he;obtain⟨b1,r1,_⟩:=hs.ev x;rw[Ps σ' H' st.H x,hx']at r1;obtain⟨g,hk,_⟩:=r1.yq;exact⟨_,hk⟩
    have WZ:∀id ob,p.up=some (id,ob)->∃zs ds,H'[id]?=some (.box zs)/\ob=.box ds/\zs.length=ds.length:=by
     intro id ob he;obtain⟨u1,⟨zs,ds,u2,u3,u4⟩,_⟩:=OJ i p id ob hp he;refine⟨zs,ds,?_,u2,u3⟩;obtain⟨i1,p1,j1,hp1,GU,hk1⟩:=yl (aF.1 u4).1;have Rg:ps[i1]?=some p1:=by
      have:=(aF.1 hp1).1;rw[cS]at hp1;split at hp1
      ·exact hp1
      ·cases hp1
     have hi1:i1<i:=by have:=(aF.1 hp1).1;simp at this;omega
     have et:(ps.take i).take i1=ps.take i1:=by rw[tH,fG (by omega)]
     rw[et]at hk1;have e1:p1.r+j1=id:=by rw[Ri i1 p1 Rg];omega
     have xe:p1.obs[j1]?=some (.box zs):=by
      rw[qc hp1,et,hk1,az (by omega),dQ,av GU]at u4;exact u4
     have hl1:listed.getD i1 false=true:=by
      cases hl:listed.getD i1 false with
      |true=>rfl
      |false=>
       have h0:=T8 i1 p1 Rg hl j1 GU;rw[e1]at h0;obtain⟨v,hv⟩:=WK id ob he;rw[h0]at hv;cases hv
     have:=T9 i1 p1 Rg hl1 j1 _ xe (fun i2 q Ay hq hl HP=>by
      rw[e1]at HP;have:=Wa i i2 p q id ob Ay hp hq he HP;subst this;rw[Ai]at hl;cases hl)
     rw[e1]at this;exact this
    refine W9.wp hs V6 ho (by omega) (fun j hj=>T8 i p hp Ai j hj) WZ fun κ' Θ' a' w' hs' hsame=>?_
    have qg:∀(j:Nat),(listed.setIfInBounds i true).getD j false=true↔(j=i\/listed.getD j false=true):=by
     intro j;by_cases e:i=j
     ·subst e;have:i<listed.size:=by rw[hsz];omega
      simp[this]
     ·rw[getD_set_ne false e];constructor
      ·exact .inr
      ·rintro(rfl|h)
       ·exact absurd rfl e
       ·exact h
    have hput:(p.Al H').length=H'.length:=by
     unfold Cp.Al;split
     ·simp
     ·exact u7 (by omega)
    have a2V:∀(k:Nat),k<st.H.length->(p.Al H')[k]?=H'[k]?:=by
     intro k hk;unfold Cp.Al;split
     ·rename_i id ob he;have:=(OJ i p id ob hp he).1;rw[cE (by omega)]
     ·rw[tv (by omega),bL (by rw[Ri i p hp];omega)]
    refine ih (listed.setIfInBounds i true) (p.slot σ') (p.Al H') κ' Θ' a' w' (inv.set hi hin) ?_ ?_ ?_ (by rw[hput];exact hHl) ?_ ?_ ?_ ?_ hs'
    ·have UD:((List.range n).filter fun j=> !(listed.setIfInBounds i true).getD j false)=((List.range n).filter fun j=> !listed.getD j false).erase i:=by
      have hnd:((List.range n).filter fun j=> !listed.getD j false).Nodup:=xJ _ B0;rw[hnd.erase_eq_filter,zB];apply AG;intro j _;by_cases e:j=i
      ·subst e;have:=(qg j).2 (.inl rfl);rw[this];simp
      ·rw[getD_set_ne false (rW e)];simp[e]
     rw[UD,qN (gj.2 ⟨bf.2 hin,by simp[Ai]⟩),oK];rfl
    ·intro j q t hq Kq hl;unfold Cp.slot;rcases(qg j).1 hl with rfl|BZ
     ·rw[hp]at hq;cases hq;rw[Kq];simp[lk]
     ·cases hpt:p.t with
      |none=>exact hA j q t hq Kq BZ
      |some u=>
       simp only[lk];rw[b8,hA j q t hq Kq BZ];intro e;have:=hdist j i q p t hq hp Kq (by rw[hpt,e]);subst this;rw[Ai]at BZ;cases BZ
    ·intro t ht;unfold Cp.slot;have qJ:=hB t (fun j q hq hl=>ht j q hq ((qg j).2 (.inr hl)));cases hpt:p.t with
     |none=>exact qJ
     |some u=>
      simp only[lk];rw[b8 (fun e=>ht i p hp ((qg i).2 (.inl rfl)) (by rw[hpt,e]))];exact qJ
    ·intro j y hj;rw[a2V j (aF.1 hj).1];exact V6 j y hj
    ·intro j q hq hl k y hy hno;have hkl:=(aF.1 hy).1;unfold Cp.Al;split
     ·rename_i id ob he;have hne:q.r+k≠id:=fun e=>hno i p ob hp ((qg i).2 (.inl rfl)) (by rw[e];exact he)
      rw[cE (rW hne)];rcases(qg j).1 hl with rfl|BZ
      ·rw[hp]at hq;cases hq;rw[Wb j p id ob hp he]at hy;simp at hy
      ·exact T9 j q hq BZ k y hy (fun i2 q2 Ay Hf V8=>hno i2 q2 Ay Hf ((qg i2).2 (.inr V8)))
     ·rw[tv (by omega)];rcases(qg j).1 hl with rfl|BZ
      ·rw[hp]at hq;cases hq;rw[b8 (by omega),bL (by omega),dQ];exact hy
      ·have hne:j≠i:=fun e=>by subst e;rw[Ai]at BZ;cases BZ
       have h3:=T9 j q hq BZ k y hy (fun i2 q2 Ay Hf V8=>hno i2 q2 Ay Hf ((qg i2).2 (.inr V8)));rcases ur hne with h|h
       ·have:=OE j i q p hq hp h;rw[bL (by omega)];exact h3
       ·have:=OE i j p q hp hq h;rw[b8 (by omega),b8 (by omega)];exact h3
    ·intro j q id ob hq hl he;rcases(qg j).1 hl with rfl|BZ
     ·rw[hp]at hq;cases hq;obtain⟨zs,ds,z1,_⟩:=WZ id ob he;have hlt:=(aF.1 z1).1;refine⟨by simp only[Cp.Al,he];rw[dF hlt],?_⟩;obtain⟨v,hv⟩:=WK id ob he;refine⟨v,?_⟩;rw[hsame id (by rw[Wb j p id ob hp he];simp;omega)];exact hv
     ·obtain⟨h1,v,hv⟩:=Yd j q id ob hq BZ he;have hout:id<p.r\/p.r+p.obs.length<=id:=by
       rcases eF id p.r with h|h
       ·exact .inl h
       ·rcases eF id (p.r+p.obs.length)with h2|h2
        ·have:=T8 i p hp Ai (id-p.r) (by omega);rw[show p.r+(id-p.r)=id from by omega,hv]at this;cases this
        ·exact .inr h2
      refine⟨?_,v,by rw[hsame id hout];exact hv⟩;unfold Cp.Al;split
      ·rename_i id2 Ay HP;have hne:id2≠id:=fun e=>by
        subst e;have:=Wa i j p q id2 Ay ob hp hq HP he;subst this;rw[Ai]at BZ;cases BZ
       rw[cE hne];exact h1
      ·rw[tv (by omega)];rcases hout with h|h
       ·rw[bL h];exact h1
       ·rw[b8 (by omega),b8 (by omega)];exact h1
    ·intro j q hq hl k hk;have hne:j≠i:=fun e=>by
      subst e;have:=(qg j).2 (.inl rfl);rw[this]at hl;cases hl
     have BZ:listed.getD j false=false:=by
      cases h:listed.getD j false with
      |false=>rfl
      |true=>have:=(qg j).2 (.inr h);rw[this]at hl;cases hl
     have h3:=T8 j q hq BZ k hk;rw[hsame,h3];rcases ur hne with h|h
     ·have:=OE j i q p hq hp h;omega
     ·have:=OE i j p q hp hq h;omega
 refine wp_region_any hm ?_;have a35:HeadInv .any l.toArray n (Array.replicate l.toArray.size false):=
  ⟨by simp,fun j oj _ hl=>(by rw[getD_replicate_false]at hl;cases hl),fun t _ ht=>getD_in (by simpa using ht) (getD_replicate_false _ _)⟩
 have oK:((List.range n).filter fun i=> !(Array.replicate l.toArray.size false).getD i false).length=n:=by
  rw[List.filter_eq_self.2]
  ·simp
  ·intro i _;rw[getD_replicate_false];rfl
 have:=main n (Array.replicate l.toArray.size false) st.σ (st.H++List.replicate (ps.flatMap Cp.obs).length .gone) κ Θ a w.drew a35 oK (fun i p t _ _ hl=>by rw[getD_replicate_false]at hl;cases hl) (fun t _=>rfl)
  (by simp) (fun i o h=>by rw[av (aF.1 h).1];exact h) (fun i p _ hl=>by rw[getD_replicate_false]at hl;cases hl)
  (fun i q id ob _ hl=>by rw[getD_replicate_false]at hl;cases hl)
  (fun i p hp _ j _=>hs.ol _ (by rw[Ri i p hp];omega)) (hs.drew.room _)
 rw[show n+(l.toArray.size-n)=l.toArray.size from by omega]at this;exact this
end
end Go.Cx
namespace Go.Cx
open Go.RowKit
def pos(o:aW)(i:Nat):Option Nat:=ix (fun j=>j==i) o
def D.K7(o:aW)(d:D):D:=match d with
 | .acc i=>(match pos o i with|some j=>.acc j|none=>.any)
 | .ptr i off=>(match pos o i with|some j=>.ptr j off|none=>.any)
 | .op i a b c=>(match pos o i with|some j=>.op j a b c|none=>.any)
 |d=>d
def D.rnV(o:aW)(d:D):D:=match d with
 | .agg cs=>.agg (cs.map (D.K7 o))
 |d=>d.K7 o
def D.Ta(o:aW)(d:D):D:=match d with
 | .gw vs=>.gw (vs.map (D.rnV o))
 |d=>d.rnV o
def Ob.rn(o:aW)(x:Ob):Ob:=match x with
 | .box cells=>.box (cells.map (D.K7 o))
 | .zq cells v=>.zq (cells.map (D.K7 o)) v
 | .hole _ _ _ _ _=>.gone
 | .row k e sz rows=>(match k with| .ho _ _=>.gone|k=>.row k e sz rows)
 |x=>x
def St.Ci(st:St)(K o:aW):St:=⟨K.map fun t=>(t,(lk st.σ t).Ta o),o.map fun i=>((st.H[i]?).getD .gone).rn o⟩
section
variable{P:Program}{Γ:tZ}{Q:Exit->St->Prop}{st:St}{κ κ':Nat->Option Value}{Θ Θ':Nat->Nat}{a:Act}{w:World}{o:aW}
theorem Na:∀ {o:aW},o.Nodup->∀(i j x:Nat),o[i]?=some x->o[j]?=some x->i=j:=by
 intro o
 induction o with
 |nil=>intro _ i j x h;simp at h
 |cons y o ih=>
  intro hnd i j x hi hj;obtain⟨h1,h2⟩:=dN.1 hnd;cases i with
  |zero=>
   cases j with
   |zero=>rfl
   |succ j=>simp at hi hj;subst hi;exact absurd (aD hj) h1
  |succ i=>
   cases j with
   |zero=>simp at hi hj;subst hj;exact absurd (aD hi) h1
   |succ j=>simp at hi hj;rw[ih h2 i j x hi hj]
theorem Oj{i j:Nat}(h:pos o i=some j):o[j]?=some i:=by
 obtain⟨x,h1,h2⟩:=ym h;simp only[cV]at h2;subst h2;exact h1
theorem S7{i j:Nat}(hnd:o.Nodup)(h:o[j]?=some i):pos o i=some j:=
 Ej h (by simp) (fun k y hk hy=>by
  simp only[cV]at hy;subst hy;obtain⟨h1,h2⟩:=aF.1 h;obtain⟨h3,h4⟩:=aF.1 hk;exact Na hnd k j _ hk h)
section
variable(hk:∀(i j:Nat) v,pos o i=some j->κ i=some v->κ' j=some v)(xw:∀b,Θ b=0->Θ' b=0)
include hk xw
theorem yQ.rn{v:Value}{d:D}{bs:aW}(h:yQ w κ v d bs)(hz:∀b∈bs,Θ b=0):∃b',yQ w κ' v (d.K7 o) b'/\∀b∈b',Θ' b=0:=by
 cases h with
 |pure h=>
  have e:d.K7 o=d:=by cases h<;>rfl
  rw[e];exact⟨bs,.pure h,fun b hb=>xw b (hz b hb)⟩
 |acc i v hi=>
  simp only[D.K7];cases hp:pos o i with
  |none=>exact⟨[],.pure (.any _),by simp⟩
  |some j=>exact⟨[],.acc j v (hk i j v hp hi),by simp⟩
 |ptr i off b hi=>
  simp only[D.K7];cases hp:pos o i with
  |none=>exact⟨[],.pure (.any _),by simp⟩
  |some j=>exact⟨[],.ptr j off b (hk i j _ hp hi),by simp⟩
 |op i x sz off b o0 len cap hi=>
  simp only[D.K7];cases hp:pos o i with
  |none=>exact⟨[],.pure (.any _),by simp⟩
  |some j=>exact⟨[],.op j x sz off b o0 len cap (hk i j _ hp hi),by simp⟩
theorem fH.rn{vs:bZ}{ds:aL}{bs:aW}(h:fH w κ vs ds bs)(hz:∀b∈bs,Θ b=0):∃b',fH w κ' vs (ds.map (D.K7 o)) b'/\∀b∈b',Θ' b=0:=by
 induction h with
 |nil=>exact⟨[],.nil,by simp⟩
 |cons v vs d ds b1 b2 h1 h2 _ ih=>
  obtain⟨c1,q1,q2⟩:=yQ.rn hk xw h2 (fun b hb=>hz b (by simp[hb]));obtain⟨c2,p1,p2⟩:=ih (fun b hb=>hz b (by simp[hb]));refine⟨c1++c2,.cons _ _ _ _ _ _ h1 q1 p1,fun b hb=>?_⟩;rcases aU.1 hb with hb|hb
  ·exact q2 b hb
  ·exact p2 b hb
theorem LJ.rn{v:Value}{d:D}{bs:aW}(h:LJ w κ v d bs)(hz:∀b∈bs,Θ b=0):∃b',LJ w κ' v (d.rnV o) b'/\∀b∈b',Θ' b=0:=by
 cases h with
 |cell h=>
  by_cases tF:∃ds,d=.agg ds
  ·obtain⟨ds,rfl⟩:=tF;cases h with
   |pure h=>
    cases h with
    |agg cs _ _ h=>
     obtain⟨b',q1,q2⟩:=fH.rn hk xw (fH.Co (κ:=κ) h) hz;exact⟨b',.agg _ _ _ q1,q2⟩
  ·have e:d.rnV o=d.K7 o:=by cases d<;>first|rfl|exact absurd ⟨_,rfl⟩ tF
   rw[e];obtain⟨b',q1,q2⟩:=yQ.rn hk xw h hz;exact⟨b',.cell q1,q2⟩
 |agg cs ds bs h=>
  obtain⟨b',q1,q2⟩:=fH.rn hk xw h hz;exact⟨b',.agg _ _ _ q1,q2⟩
theorem By.rn{vs:bZ}{ds:aL}{bs:aW}(h:By w κ vs ds bs)(hz:∀b∈bs,Θ b=0):∃b',By w κ' vs (ds.map (D.rnV o)) b'/\∀b∈b',Θ' b=0:=by
 induction h with
 |nil=>exact⟨[],.nil,by simp⟩
 |cons v vs d ds b1 b2 h2 _ ih=>
  obtain⟨c1,q1,q2⟩:=LJ.rn hk xw h2 (fun b hb=>hz b (by simp[hb]));obtain⟨c2,p1,p2⟩:=ih (fun b hb=>hz b (by simp[hb]));refine⟨c1++c2,.cons _ _ _ _ _ _ q1 p1,fun b hb=>?_⟩;rcases aU.1 hb with hb|hb
  ·exact q2 b hb
  ·exact p2 b hb
theorem rS.rn{v:Value}{d:D}{bs:aW}(h:rS w κ v d bs)(hz:∀b∈bs,Θ b=0):∃b',rS w κ' v (d.Ta o) b'/\∀b∈b',Θ' b=0:=by
 cases h with
 |v h=>
  have hnt:∀vs,d≠ .gw vs:=by
   intro vs e;subst e;cases h with
   |cell h=>cases h with|pure h=>cases h
  have e:d.Ta o=d.rnV o:=by cases d<;>first|rfl|exact absurd rfl (hnt _)
  rw[e];obtain⟨b',q1,q2⟩:=LJ.rn hk xw h hz;exact⟨b',.v q1,q2⟩
 |gw vs ds bs h=>
  obtain⟨b',q1,q2⟩:=By.rn hk xw h hz;exact⟨b',.gw _ _ _ q1,q2⟩
end
theorem X6(σ:List (Nat×D))(K:aW)(f:D->D)(t:Nat):lk (K.map fun t=>(t,f (lk σ t))) t=if t∈K then f (lk σ t)else .any:=by
 induction K with
 |nil=>simp[lk]
 |cons u K ih=>
  simp only[ay,lk];by_cases e:t=u
  ·subst e;simp
  ·rw[b8 e,ih];simp[e]
theorem dV.Ci(hs:dV Γ st κ Θ a w)(K o:aW)(hnd:o.Nodup):∃κ' Θ',dV Γ (st.Ci K o) κ' Θ' a w:=by
 let κ':Nat->Option Value:=fun j=>(o[j]?).bind κ
 let Θ':Nat->Nat:=fun b=>if Θ b<=1 then Θ b else match pos o (Θ b-2)with|some j=>j+2|none=>1
 have xw:∀b,Θ b=0->Θ' b=0:=fun b h=>by simp[Θ',h]
 have hk:∀(i j:Nat) v,pos o i=some j->κ i=some v->κ' j=some v:=fun i j v h1 h2=>by simp[κ',Oj h1,h2]
 have hk2:∀(i j:Nat),o[j]?=some i->κ' j=κ i:=fun i j h=>by simp[κ',h]
 have N6:∀b (i j:Nat),o[j]?=some i->Θ b=i+2->Θ' b=j+2:=by
  intro b i j hj h;simp only[Θ'];rw[b8 (by omega),h,zC,S7 hnd hj]
 have key:∀(j:Nat) x,(st.Ci K o).H[j]?=some x->∃i,o[j]?=some i/\((st.H[i]?=none/\x=.gone)\/∃y,st.H[i]?=some y/\x=y.rn o):=by
  intro j x hj;simp only[St.Ci,bu]at hj;cases ho:o[j]? with
  |none=>simp[ho]at hj
  |some i=>
   simp only[ho,cU,aj]at hj;refine⟨i,rfl,?_⟩;cases hH:st.H[i]? with
   |none=>rw[hH]at hj;exact .inl ⟨rfl,hj.symm⟩
   |some y=>rw[hH]at hj;exact .inr ⟨y,rfl,hj.symm⟩
 obtain⟨ρ,hu⟩:=hs.rR;let ρ':Nat->Nat:=fun b=>if ρ b=0 then 0 else match pos o (ρ b-1)with|some j=>j+1|none=>0
 refine⟨κ',Θ',hs.defers,hs.size,?_,?_,?_,?_,?_,?_,?_,hs.stays,ρ',?_,?_,?_⟩
 ·intro i hi;simp only[St.Ci,au]at hi;simp[κ',cQ hi]
 ·intro i u vV;simp only[κ']at vV;cases ho:o[i]? with
  |none=>simp[ho]at vV
  |some j=>simp[ho]at vV;exact hs.o6 j u vV
 ·intro t;show∃bs,rS w κ' _ (lk (K.map fun t=>(t,(lk st.σ t).Ta o)) t) bs/\_;rw[X6 st.σ K (fun d=>d.Ta o) t];split
  ·obtain⟨bs,hr,hz⟩:=hs.slot t;exact rS.rn hk xw hr hz
  ·exact⟨[],.of (.any _),by simp⟩
 ·intro j x hj;obtain⟨i,ho,⟨_,rfl⟩|⟨y,hH,rfl⟩⟩:=key j x hj
  ·trivial
  ·have xe:=hs.ob i y hH;cases y with
   |gone=>trivial
   |hole=>trivial
   |tk rows=>
    obtain⟨v,bs,q1,q2,q3⟩:=xe;exact⟨v,bs,by rw[hk2 i j ho];exact q1,q2,fun b hb=>xw b (q3 b hb)⟩
   |tf e sz rows=>
    obtain⟨v,bs,q1,q2,q3⟩:=xe;exact⟨v,bs,by rw[hk2 i j ho];exact q1,q2,fun b hb=>xw b (q3 b hb)⟩
   |mp kv=>
    obtain⟨g,es,c,q1,q2,q3,q4⟩:=xe;exact⟨g,es,c,by rw[hk2 i j ho];exact q1,q2,N6 g i j ho q3,q4⟩
   |vW sz rows u=>
    obtain⟨q1,q0,v,bs,q2,q3,q4,q5⟩:=xe;exact⟨q1,fun x hx=>by rw[hk2 i j ho];exact q0 x hx,v,bs,by rw[hk2 i j ho];exact q2,q3,q4,fun b hb=>⟨N6 b i j ho (q5 b hb).1,(q5 b hb).2⟩⟩
   |box cells=>
    obtain⟨g,cs,T,q1,q2,q3,bs,q4,q5⟩:=xe;obtain⟨b',p1,p2⟩:=fH.rn hk xw q4 q5;exact⟨g,cs,T,by rw[hk2 i j ho];exact q1,q2,N6 g i j ho q3,b',p1,p2⟩
   |zq cells u=>
    obtain⟨q0,g,cs,T,q1,q2,q3,bs,q4,q5⟩:=xe;obtain⟨b',p1,p2⟩:=fH.rn hk xw q4 q5;exact⟨⟨by rw[hk2 i j ho];exact q0.1,q0.2.same q1 q2 (by rw[hk2 i j ho];exact q1) q2⟩,g,cs,T,by rw[hk2 i j ho];exact q1,q2,N6 g i j ho q3,b',p1,p2⟩
   |row k e sz rows=>
    obtain⟨q1,q2,v,cs,bs,q3,q4,q5,q6,q7⟩:=xe;cases k with
    |ho p n=>exact trivial
    |_=>
    refine⟨q1,q2,v,cs,bs,by rw[hk2 i j ho];exact q3,q4,q5,fun g hg=>N6 g i j ho (q6 g hg),?_⟩
    first
    |exact⟨q7.1,fun b hb=>⟨N6 b i j ho (q7.2.1 b hb).1,(q7.2.1 b hb).2⟩,q7.2.2⟩
    |exact fun b hb=>xw b (q7 b hb)
 ·intro b hb;exact hs.own b (fun h=>hb (xw b h))
 ·intro b hb hx;obtain⟨h1,h2⟩:=hs.old b hb hx;simp only[Θ'];rw[bL h2];exact⟨h1,h2⟩
 ·intro b hb;refine hs.mine b ?_;simp only[Θ']at hb;split at hb<;>omega
 ·intro b hb;have hb':ρ b≠0:=fun h=>hb (by simp[ρ',h])
  obtain⟨h1,h2⟩:=hu.free b hb';exact⟨xw b h1,h2⟩
 ·intro j e sz rows hj;obtain⟨i,ho,⟨_,h⟩|⟨y,hH,h⟩⟩:=key j _ hj
  ·cases h
  ·have hy:y=.row .uq e sz rows:=by
    cases y with
    |row k2 e2 FG dJ=>cases k2<;>simp only[Ob.rn,reduceCtorEq]at h<;>exact h.symm
    |_=>cases h
   subst hy;obtain⟨v,cs,bs,q1,q2,q3,q4,q5⟩:=hu.rows i e sz rows hH;refine⟨v,cs,bs,by rw[hk2 i j ho];exact q1,q2,q3,q4,fun b hb=>?_⟩;simp only[ρ'];rw[q5 b hb,b8 (by omega),zC,S7 hnd ho]
 ·intro j x hj;obtain⟨i,ho,⟨_,h⟩|⟨y,hH,h⟩⟩:=key j _ hj
  ·subst h;trivial
  ·have hm:=hu.more i y hH;have a2j:∀b,ρ b=i+1->ρ' b=j+1:=fun b hb=>by
    simp only[ρ'];rw[hb,b8 (by omega),zC,S7 hnd ho]
   subst h;cases y with
   |tk rows=>
    obtain⟨v,bs,q1,q2,q3,q4⟩:=hm;exact⟨v,bs,by rw[hk2 i j ho];exact q1,q2,q3,fun b hb=>a2j b (q4 b hb)⟩
   |tf e sz rows=>
    obtain⟨v,bs,q1,q2,q0,q3,q4⟩:=hm;exact⟨v,bs,by rw[hk2 i j ho];exact q1,q2,q0,q3,fun b hb=>a2j b (q4 b hb)⟩
   |row k e sz rows=>
    cases k with
    |mv n=>
     obtain⟨v,cs,bs,q1,q2,q3,q4,q5⟩:=hm;exact⟨v,cs,bs,by rw[hk2 i j ho];exact q1,q2,q3,q4,fun b hb=>a2j b (q5 b hb)⟩
    |_=>trivial
   |_=>trivial
end
end Go.Cx
namespace Go.Cx
open Go.RowKit
abbrev Rw:=Nat×List (List D)
def Rw.ob(x:Rw)(v:Option Value):Ob:=.vW x.1 x.2 v
def GN(w:World)(κ:Nat->Option Value):Nat->List Rw->aW->Prop
 |_,[],us=>us=[]
 |n,x::xs,us=>∃v bs us',κ n=some v/\(∀r∈x.2,r.length=x.1)/\Rd w v (.sl x.2) bs/\us=bs++us'/\GN w κ (n+1) xs us'
def a0g(P:Program)(f:FuncId)(ds:aL)(ins outs:List Rw)(d:D):Prop:=
 (∃fn,P.funcs[f]?=some fn/\fn.body.isSome=true/\(fn.name== "runtime.NumGoroutine")=false)/\outs.length=ins.length/\d.flat=true/\
 ∀(w:World) (κ:Nat->Option Value) (args:bZ) (us:aW),Ms w (fun b=>b∈us)->args.length=ds.length->(∀(i:Nat) d,ds[i]?=some d->∃v,args[i]?=some v/\rS w κ v d [])->
  (∀i,ins.length<=i->κ i=none)->(∀(i:Nat) u,κ i=some u->u.oneCell'=true)->GN w κ 0 ins us->us.Nodup->(∀b∈us,Wr w b)->
  Calls P f args.toArray w (fun e w'=>∃v us',e=.returned v/\Rd w' v d []/\GN w' κ 0 outs us'/\us'.Nodup/\(∀b∈us',(b∈us\/w.heap.size<=b)/\Wr w' b)/\
   w'.os=w.os/\w'.tape=w.tape/\w'.output=w.output/\w.heap.size<=w'.heap.size/\∀b,b<w.heap.size->b∉us->w'.heap[b]?=w.heap[b]?)
section
variable{P:Program}{Γ:tZ}{Q:Exit->St->Prop}{st:St}{κ κ':Nat->Option Value}{Θ Θ':Nat->Nat}{a:Act}{w w':World}{all:Array Oper}{rest:List Oper}
theorem GN.parts:∀ {xs:List Rw} {n:Nat} {us:aW},GN w κ n xs us->∃L:List aW,L.length=xs.length/\us=L.flatten/\∀(i:Nat) x bs,xs[i]?=some x->L[i]?=some bs->∃v,κ (n+i)=some v/\(∀r∈x.2,r.length=x.1)/\Rd w v (.sl x.2) bs:=by
 intro xs
 induction xs with
 |nil=>intro n us h;exact⟨[],rfl,by simpa[GN]using h,by simp⟩
 |cons y ys ih=>
  intro n us h;obtain⟨v,bs,us',h1,h2,h3,rfl,h5⟩:=h;obtain⟨L,q1,rfl,q3⟩:=ih h5;refine⟨bs::L,by simp[q1],by simp,?_⟩;intro i x b hx hb;cases i with
  |zero=>simp at hx hb;subst hx;subst hb;exact⟨v,h1,h2,h3⟩
  |succ i=>
   simp at hx hb;obtain⟨v',r1,r2,r3⟩:=q3 i x b hx hb;exact⟨v',by rw[<-r1];congr 1;omega,r2,r3⟩
theorem GN.of:∀ {xs:List Rw} {n:Nat} {L:List aW},L.length=xs.length->(∀(i:Nat) x bs,xs[i]?=some x->L[i]?=some bs->∃v,κ (n+i)=some v/\(∀r∈x.2,r.length=x.1)/\Rd w v (.sl x.2) bs)->GN w κ n xs L.flatten:=by
 intro xs
 induction xs with
 |nil=>
  intro n L hl _;have:L=[]:=cO (by simpa using hl);subst this;rfl
 |cons y ys ih=>
  intro n L hl h;cases L with
  |nil=>simp at hl
  |cons bs L=>
   obtain⟨v,h1,h2,h3⟩:=h 0 y bs rfl rfl;refine⟨v,bs,L.flatten,h1,h2,h3,by simp,ih (by simpa using hl) ?_⟩;intro i x b hx hb;obtain⟨v',r1,r2,r3⟩:=h (i+1) x b (by simpa using hx) (by simpa using hb);exact⟨v',by rw[<-r1];congr 1;omega,r2,r3⟩
theorem dV.forget(hs:dV Γ st κ Θ a w)(ms:aW):dV Γ ⟨st.σ,kill st.H ms⟩ κ (fun b=>if ms.any (fun m=>Θ b==m+2)then st.H.length+2 else Θ b) a w:=by
 have h0:∀b,Θ b=0->(if ms.any (fun m=>Θ b==m+2)then st.H.length+2 else Θ b)=0:=by
  intro b hb;rw[b8,hb];intro h;obtain⟨m,_,hm⟩:=cz.1 h;simp[hb]at hm
 have hk:∀(j:Nat) o,(kill st.H ms)[j]?=some o->o=.gone\/(j∉ms/\st.H[j]?=some o):=fun j o h=>oG h
 have hold:∀b j,j∉ms->Θ b=j+2->(if ms.any (fun m=>Θ b==m+2)then st.H.length+2 else Θ b)=j+2:=by
  intro b j hj hb;rw[b8,hb];intro h;obtain⟨m,hm,he⟩:=cz.1 h;simp only[hb,cV]at he;exact hj (by
   have:j=m:=by omega
   rw[this];exact hm)
 obtain⟨ρ,hu⟩:=hs.rR;refine⟨hs.defers,hs.size,fun i hi=>hs.ol i (by simpa[fX]using hi),hs.o6,?_,?_,?_,?_,?_,hs.stays,ρ,?_,?_,?_⟩
 ·intro t;obtain⟨bs,hr,hz⟩:=hs.slot t;exact⟨bs,hr,fun b hb=>h0 b (hz b hb)⟩
 ·intro j o hj;rcases hk j o hj with rfl|⟨hn,hj'⟩
  ·trivial
  ·have xe:=hs.ob j o hj';cases o with
   |gone=>trivial
   |tk rows=>
    obtain⟨v,bs,q1,q2,q3⟩:=xe;exact⟨v,bs,q1,q2,fun b hb=>h0 b (q3 b hb)⟩
   |tf e sz rows=>
    obtain⟨v,bs,q1,q2,q3⟩:=xe;exact⟨v,bs,q1,q2,fun b hb=>h0 b (q3 b hb)⟩
   |box cells=>
    obtain⟨g,cs,T,q1,q2,q3,bs,q4,q5⟩:=xe;exact⟨g,cs,T,q1,q2,hold g j hn q3,bs,q4,fun b hb=>h0 b (q5 b hb)⟩
   |zq cells u=>
    obtain⟨q0,g,cs,T,q1,q2,q3,bs,q4,q5⟩:=xe;exact⟨q0,g,cs,T,q1,q2,hold g j hn q3,bs,q4,fun b hb=>h0 b (q5 b hb)⟩
   |row k e sz rows=>
    obtain⟨q1,q2,v,cs,bs,q3,q4,q5,q6,q7⟩:=xe;refine⟨q1,q2,v,cs,bs,q3,q4,q5,fun g hg=>hold g j hn (q6 g hg),?_⟩;cases k with
    |cl=>exact⟨q7.1,fun b hb=>⟨hold b j hn (q7.2.1 b hb).1,(q7.2.1 b hb).2⟩,q7.2.2⟩
    |sh=>exact fun b hb=>h0 b (q7 b hb)
    |uq=>exact fun b hb=>h0 b (q7 b hb)
    |mv n=>exact fun b hb=>h0 b (q7 b hb)
    |ho p n=>exact fun b hb=>h0 b (q7 b hb)
   |vW sz rows u=>
    obtain⟨q1,q0,v,bs,q2,q3,q4,q5⟩:=xe;exact⟨q1,q0,v,bs,q2,q3,q4,fun b hb=>⟨hold b j hn (q5 b hb).1,(q5 b hb).2⟩⟩
   |hole sz rows u p n=>
    obtain⟨q1,q0,v,bs,q2,q3,q4,q5⟩:=xe;exact⟨q1,q0,v,bs,q2,q3,q4,fun b hb=>⟨hold b j hn (q5 b hb).1,(q5 b hb).2⟩⟩
   |mp kv=>
    obtain⟨g,es,c,q1,q2,q3,q4⟩:=xe;exact⟨g,es,c,q1,q2,hold g j hn q3,q4⟩
 ·intro b hb;refine hs.own b fun h=>hb ?_
  exact h0 b h
 ·intro b hb hx;obtain⟨h1,h2⟩:=hs.old b hb hx;have:(if ms.any (fun m=>Θ b==m+2)then st.H.length+2 else Θ b)=Θ b:=by
   rw[b8];intro h;obtain⟨m,_,hm⟩:=cz.1 h;simp only[cV]at hm;omega
  show(if ms.any (fun m=>Θ b==m+2)then st.H.length+2 else Θ b)=_/\(if ms.any (fun m=>Θ b==m+2)then st.H.length+2 else Θ b)<=1;rw[this];exact⟨h1,h2⟩
 ·intro b hb;refine hs.mine b ?_;by_cases h:ms.any (fun m=>Θ b==m+2)=true
  ·obtain⟨m,_,hm⟩:=cz.1 h;simp only[cV]at hm;omega
  ·simp only[h]at hb;simpa using hb
 ·intro b hb;obtain⟨h1,h2⟩:=hu.free b hb;exact⟨h0 b h1,h2⟩
 ·intro id e sz rows hj;rcases hk id _ hj with h|⟨_,h⟩
  ·cases h
  ·exact hu.rows id e sz rows h
 ·intro id o hj;rcases hk id _ hj with h|⟨_,h⟩
  ·subst h;trivial
  ·exact hu.more id o h
def lv(H:bP)(m:Nat):Option Value:=match H[m]? with|some (.vW _ _ v)=>v|_=>none
def Ol:bP->aW->List Rw->bP
 |H,m::ms,x::xs=>Ol (H.set m (x.ob (lv H m))) ms xs
 |H,_,_=>H
theorem KX:∀(H:bP) (ms:aW) (xs:List Rw),(Ol H ms xs).length=H.length:=by
 intro H ms
 induction ms generalizing H with
 |nil=>intro xs;cases xs<;>rfl
 |cons m ms ih=>intro xs;cases xs with|nil=>rfl|cons x xs=>simp[Ol,ih]
theorem XQ:∀ {H:bP} {ms:aW} {xs:List Rw} {j:Nat} {y:Ob},ms.Nodup->xs.length=ms.length->(Ol H ms xs)[j]?=some y->(∃(i:Nat) (x:Rw),ms[i]?=some j/\xs[i]?=some x/\y=x.ob (lv H j))\/(j∉ms/\H[j]?=some y):=by
 intro H ms
 induction ms generalizing H with
 |nil=>intro xs j y _ _ h;cases xs<;>exact .inr ⟨by simp,h⟩
 |cons m ms ih=>
  intro xs j y hnd hl h;cases xs with
  |nil=>simp at hl
  |cons x xs=>
   obtain⟨n1,n2⟩:=dN.1 hnd;rcases ih n2 (by simpa using hl) h with⟨i,z,h1,h2,h3⟩|⟨h1,h2⟩
   ·refine .inl ⟨i+1,z,by simpa using h1,by simpa using h2,?_⟩;rw[h3];have hne:m≠j:=fun e=>n1 (by rw[e];exact aD h1)
    simp only[lv,cE hne]
   ·rcases wH j y h2 with⟨rfl,rfl⟩|⟨h3,h4⟩
    ·exact .inl ⟨0,x,rfl,rfl,rfl⟩
    ·exact .inr ⟨by simp[h1,h3],h4⟩
def M5(H:bP):aW->Option (List Rw)
 | []=>some []
 |m::ms=>match H[m]?,M5 H ms with|some (.vW sz rows _),some xs=>some ((sz,rows)::xs)|_,_=>none
theorem Rv{H:bP}:∀ {ms:aW} {xs:List Rw},M5 H ms=some xs->xs.length=ms.length/\∀(i m:Nat) x,ms[i]?=some m->xs[i]?=some x->∃v,H[m]?=some (x.ob v):=by
 intro ms
 induction ms with
 |nil=>intro xs h;cases h;simp
 |cons m ms ih=>
  intro xs h;simp only[M5]at h;split at h
  ·rename_i sz rows u ys h1 h2;cases h;obtain⟨q1,q2⟩:=ih h2;refine⟨by simp[q1],?_⟩;intro i m' x hm hx;cases i with
   |zero=>simp at hm hx;subst hm;subst hx;exact⟨u,h1⟩
   |succ i=>exact q2 i m' x (by simpa using hm) (by simpa using hx)
  ·cases h
def D.GP(d:D):Bool:=match d with
 | .acc _=>true
 |d=>d.flat
def D.bare(d:D):Bool:=match d with
 | .agg cs=>cs.all D.GP
 |d=>d.GP
theorem yQ.Ky{v:Value}{d:D}{bs:aW}(h:yQ w κ v d bs)(hf:d.GP=true):bs=[]:=by
 cases h with
 |pure h=>
  refine h.flat ?_;cases h<;>exact hf
 |_=>rfl
theorem fH.Ky{vs:bZ}{ds:aL}{bs:aW}(h:fH w κ vs ds bs)(hf:ds.all D.GP=true):bs=[]:=by
 induction h with
 |nil=>rfl
 |cons v vs d ds b1 b2 h1 h2 _ ih=>
  simp only[dD,aR]at hf;rw[h2.Ky hf.1,ih hf.2];rfl
theorem rS.Sm{v:Value}{d:D}{bs:aW}(h:rS w κ v d bs)(hf:d.bare=true):bs=[]:=by
 cases h with
 |v h=>
  cases h with
  |cell h=>
   cases h with
   |pure h=>
    cases h with
    |agg cs ds _ h=>exact fH.Ky (fH.Co (κ:=κ) h) hf
    |_=>first|rfl|exact absurd hf (by simp[D.bare,D.GP,D.flat])
   |_=>rfl
  |agg cs ds bs h=>exact h.Ky hf
 |gw=>simp[D.bare,D.GP,D.flat]at hf
theorem D.Ve(o:aW){c:D}(h:c.GP=true):(c.K7 o).GP=true:=by
 cases c with
 |acc m=>simp only[D.K7];cases pos o m<;>rfl
 |_=>first|exact h| (simp[D.GP,D.flat]at h)
theorem D.Sn(o:aW){d:D}(h:d.bare=true):(d.Ta o).bare=true:=by
 cases d with
 |agg cs=>
  simp only[D.Ta,D.rnV,D.bare,Hg]at h⊢;rw[ai]at h⊢;intro c hcm;exact D.Ve o (h c hcm)
 |acc m=>simp only[D.Ta,D.rnV,D.K7];cases pos o m<;>rfl
 |_=>first|exact h| (simp[D.bare,D.GP,D.flat]at h)
theorem Pw{L:List aW}(h:L.flatten.Nodup):∀(i j:Nat) x y b,L[i]?=some x->L[j]?=some y->b∈x->b∈y->i=j:=by
 intro i j x y b hi hj hx hy;have:=vP (f:=fun l:aW=>l) (l:=L) (by simpa[List.flatMap_id]using h);exact this i j x y b hi hj hx hy
theorem RS{L:List aW}(h:L.flatten.Nodup):∀x∈L,x.Nodup:=by
 induction L with
 |nil=>intro x hx;cases hx
 |cons y L ih=>
  intro x hx;simp only[eP]at h;obtain⟨h1,h2,_⟩:=bH.1 h;rcases bE.1 hx with rfl|hx
  ·exact h1
  ·exact ih h2 x hx
theorem N8:∀ {L:List aW},(∀x∈L,x.Nodup)->(∀(i j:Nat) x y b,L[i]?=some x->L[j]?=some y->b∈x->b∈y->i=j)->L.flatten.Nodup:=by
 intro L
 induction L with
 |nil=>intro _ _;simp
 |cons y L ih=>
  intro h1 h2;simp only[eP];refine bH.2 ⟨h1 y (by simp),ih (fun x hx=>h1 x (by simp[hx])) (fun i j x z b hi hj hx hz=>?_),?_⟩
  ·have:=h2 (i+1) (j+1) x z b (by simpa using hi) (by simpa using hj) hx hz;omega
  ·intro b hb c hc e;subst e;obtain⟨x,hx,Aw⟩:=fF.1 hc;obtain⟨j,hj⟩:=eL hx;have:=h2 0 (j+1) y x b rfl (by simpa using hj) hb Aw;omega
theorem VN{o:Oper}{f t:Nat}{xs:Array Operand}{ts:Array TypeId}{ms:aW}{ins outs:List Rw}{d:D}(hop:o.op=.call {callee:=.value (.func f),args:=xs,argTypes:=ts})(hd:o.dst=some t)(hg:o.guard=none)
 (ht:t<Γ.nt) (hnd:ms.Nodup) (hins:M5 st.H ms=some ins) (hb:((xs.toList.map st.ev).all D.bare)=true) (nQ:a0g P f ((xs.toList.map st.ev).map (D.Ta ms)) ins outs d)
 (h:AO P Γ all rest Q ⟨(t,d)::st.σ,Ol st.H ms outs⟩):AO P Γ all (o::rest) Q st:=by
 intro κ Θ a w hs;obtain⟨Ra,hig⟩:=Rv hins;obtain⟨hfn,hol,hfl,a4m⟩:=nQ;let κc:Nat->Option Value:=fun j=>(ms[j]?).bind κ
 have hkc:∀(i m:Nat),ms[i]?=some m->κc i=κ m:=fun i m h=>by simp[κc,h]
 have xe:∀(i m:Nat) x,ms[i]?=some m->ins[i]?=some x->∃v bs,κ m=some v/\(∀r∈x.2,r.length=x.1)/\Rd w v (.sl x.2) bs/\bs.Nodup/\∀b∈bs,Θ b=m+2/\Wr w b:=by
  intro i m x hm hx;obtain⟨u,hu⟩:=hig i m x hm hx;obtain⟨q1,_,v,bs,q2,q3,q4,q5⟩:=hs.ob m _ hu;exact⟨v,bs,q2,q1,q3,q4,q5⟩
 have hL:∃L:List aW,L.length=ins.length/\∀(i m:Nat) x bs,ms[i]?=some m->ins[i]?=some x->L[i]?=some bs->(∃v,κ m=some v/\(∀r∈x.2,r.length=x.1)/\Rd w v (.sl x.2) bs)/\bs.Nodup/\∀b∈bs,Θ b=m+2/\Wr w b:=by
  have key:∀(ms:aW) (ins:List Rw),ins.length=ms.length->(∀(i m:Nat) x,ms[i]?=some m->ins[i]?=some x->∃v bs,κ m=some v/\(∀r∈x.2,r.length=x.1)/\Rd w v (.sl x.2) bs/\bs.Nodup/\∀b∈bs,Θ b=m+2/\Wr w b)->
   ∃L:List aW,L.length=ins.length/\∀(i m:Nat) x bs,ms[i]?=some m->ins[i]?=some x->L[i]?=some bs->(∃v,κ m=some v/\(∀r∈x.2,r.length=x.1)/\Rd w v (.sl x.2) bs)/\bs.Nodup/\∀b∈bs,Θ b=m+2/\Wr w b:=by
   intro ms
   induction ms with
   |nil=>intro ins hl _;exact⟨[],by simpa using hl.symm,by simp⟩
   |cons m ms ih=>
    intro ins hl xe;cases ins with
    |nil=>simp at hl
    |cons x ins=>
     obtain⟨L,q1,q2⟩:=ih ins (by simpa using hl) (fun i m' x' hm hx=>xe (i+1) m' x' (by simpa using hm) (by simpa using hx));obtain⟨v,bs,r1,r2,r3,r4,r5⟩:=xe 0 m x rfl rfl;refine⟨bs::L,by simp[q1],?_⟩;intro i m' x' b hm hx hb;cases i with
     |zero=>simp at hm hx hb;subst hm;subst hx;subst hb;exact⟨⟨v,r1,r2,r3⟩,r4,r5⟩
     |succ i=>exact q2 i m' x' b (by simpa using hm) (by simpa using hx) (by simpa using hb)
  exact key ms ins Ra xe
 obtain⟨L,hLl,hLi⟩:=hL;have hmi:∀(i:Nat) bs,L[i]?=some bs->∃m x,ms[i]?=some m/\ins[i]?=some x:=by
  intro i bs hb';have hlt:=(aF.1 hb').1;exact⟨_,_,aa (by omega),aa (by omega)⟩
 have hmem:∀b∈L.flatten,∃m∈ms,Θ b=m+2:=by
  intro b hb';obtain⟨x,hx,Aw⟩:=fF.1 hb';obtain⟨i,hi⟩:=eL hx;obtain⟨m,y,h1,h2⟩:=hmi i x hi;exact⟨m,aD h1,((hLi i m y x h1 h2 hi).2.2 b Aw).1⟩
 have s8:L.flatten.Nodup:=by
  refine N8 (fun x hx=>?_) (fun i j x y b hi hj hx hy=>?_)
  ·obtain⟨i,hi⟩:=eL hx;obtain⟨m,y,h1,h2⟩:=hmi i x hi;exact(hLi i m y x h1 h2 hi).2.1
  ·obtain⟨m1,y1,h1,h2⟩:=hmi i x hi;obtain⟨m2,y2,h3,h4⟩:=hmi j y hj;have e1:=((hLi i m1 y1 x h1 h2 hi).2.2 b hx).1;have e2:=((hLi j m2 y2 y h3 h4 hj).2.2 b hy).1;have:m1=m2:=by omega
   subst this;exact Na hnd i j m1 h1 h3
 have a2U:GN w κc 0 ins L.flatten:=GN.of hLl (fun i x bs hx hb'=>by
  obtain⟨m,y,h1,h2⟩:=hmi i bs hb';rw[hx]at h2;cases h2;obtain⟨⟨v,q1,q2,q3⟩,_⟩:=hLi i m x bs h1 hx hb';exact⟨v,by rw[cN,hkc i m h1];exact q1,q2,q3⟩)
 have hwr:∀b∈L.flatten,Wr w b:=by
  intro b hb';obtain⟨x,hx,Aw⟩:=fF.1 hb';obtain⟨i,hi⟩:=eL hx;obtain⟨m,y,h1,h2⟩:=hmi i x hi;exact((hLi i m y x h1 h2 hi).2.2 b Aw).2
 have hargs:∀(i:Nat) d,((xs.toList.map st.ev).map (D.Ta ms))[i]?=some d->∃v,(xs.toList.map a.eval)[i]?=some v/\rS w κc v d []:=by
  intro i d GS;rw[bu,bu]at GS;cases hx:xs.toList[i]? with
  |none=>rw[hx]at GS;cases GS
  |some x=>
   rw[hx]at GS;simp only[cU,aj]at GS;subst GS;refine⟨a.eval x,by rw[bu,hx];rfl,?_⟩;obtain⟨bs,r,hz⟩:=hs.ev x;have Vy:(st.ev x).bare=true:=ai.1 hb _ (cA.2 ⟨x,aD hx,rfl⟩);obtain⟨b',r',_⟩:=rS.rn (o:=ms) (κ':=κc) (Θ:=fun _=>0) (Θ':=fun _=>0) (fun i j v h1 h2=>by simp[κc,Oj h1,h2]) (fun _ _=>rfl) r (fun _ _=>rfl);have:=r'.Sm (D.Sn ms Vy);subst this;exact r'
 have OK:Ms w fun b=>b∈L.flatten:=by
  obtain⟨B,v1,v2⟩:=hs.vsb;refine⟨B,v1,fun b hB=>⟨(v2 b hB).2.1,fun hb'=>?_⟩⟩;obtain⟨x,hx,Aw⟩:=fF.1 hb';obtain⟨i,hi⟩:=eL hx;obtain⟨m,y,h1,h2⟩:=hmi i x hi;have e1:=((hLi i m y x h1 h2 hi).2.2 b Aw).1;rcases hs.mine b (by omega)with q|q
  ·have:=(v2 b hB).1;omega
  ·exact(v2 b hB).2.2 q
 have hc:=a4m w κc (xs.toList.map a.eval) L.flatten OK (by simp) hargs (fun i hi=>by simp[κc,cQ (by omega:ms.length<=i)]) (fun i u hu=>by
  simp only[κc]at hu;cases hm:ms[i]? with
  |none=>rw[hm]at hu;cases hu
  |some m=>rw[hm]at hu;exact hs.o6 m u hu) a2U s8 hwr
 refine wpList_plain hg fun K hK=>?_
 unfold Oper.wp;rw[wG hop hfn,Oper.upon_enter];have e:xs.map a.eval=(xs.toList.map a.eval).toArray:=by rw[<-gm,k6]
 rw[e];refine hc.mono ?_;rintro e w' ⟨v,us',rfl,hv,hl',DZ,Mw,k1,k2,k3,k4,k5⟩;show K (a.put o.dst v) w';rw[hd];obtain⟨L',aAU,rfl,a7d⟩:=hl'.parts;have aAw:∀(i:Nat) bs,L'[i]?=some bs->∃m x,ms[i]?=some m/\outs[i]?=some x:=by
  intro i bs hb';have hlt:=(aF.1 hb').1;exact⟨_,_,aa (by omega),aa (by omega)⟩
 have hs1:=hs.forget ms;let Θ1:Nat->Nat:=fun b=>if ms.any (fun m=>Θ b==m+2)then st.H.length+2 else Θ b
 have a5L:∀b,b∈L.flatten->Θ1 b=st.H.length+2:=by
  intro b hb';obtain⟨m,hm,he⟩:=hmem b hb';simp only[Θ1];rw[bL (cz.2 ⟨m,hm,by simp[he]⟩)]
 let Θ2:Nat->Nat:=fun b=>match ix (fun x:aW=>x.contains b) L' with|some i=>(match ms[i]? with|some m=>m+2|none=>1)|none=>if Θ1 b=st.H.length+2 then 1 else Θ1 b
 have a8e:∀(i m:Nat) bs b,ms[i]?=some m->L'[i]?=some bs->b∈bs->Θ2 b=m+2:=by
  intro i m bs b hm hi hb';have:ix (fun x:aW=>x.contains b) L'=some i:=Ej hi (by simpa using hb') (fun j y hj hy=>Pw DZ j i y bs b hj hi (by simpa using hy) hb');simp only[Θ2,this,hm]
 have Wf:∀b,b∉L'.flatten->Θ2 b=if Θ1 b=st.H.length+2 then 1 else Θ1 b:=by
  intro b hb';simp only[Θ2];cases h:ix (fun x:aW=>x.contains b) L' with
  |none=>rfl
  |some i=>
   obtain⟨x,hx,hp⟩:=ym h;exact absurd (fF.2 ⟨x,aD hx,by simpa using hp⟩) hb'
 have hlt':∀b∈L'.flatten,b<w'.heap.size:=fun b hb'=>by
  obtain⟨cs,T,hx⟩:=(Mw b hb').2;exact(bC.1 hx).1
 have kk:iF w w' Θ1 Θ2 (st.H.length+2):=by
  refine⟨by omega,k1,k2,k3,k4,fun b hlt hne=>k5 b hlt fun hb'=>hne (a5L b hb'),fun b hlt hne=>?_,fun b hb'=>?_⟩
  ·by_cases hin:b∈L'.flatten
   ·rcases(Mw b hin).1 with h'|h'
    ·exact absurd (a5L b h') hne
    ·omega
   ·rw[Wf b hin,b8 hne]
  ·by_cases hin:b∈L'.flatten
   ·exact hlt' b hin
   ·rw[Wf b hin]at hb';refine cq (hs1.own b ?_) k4;intro h0;have h0':Θ1 b=0:=h0;rw[h0']at hb';rw[b8 (by omega)]at hb';exact hb' rfl
 have hm2:∀b,2<=Θ2 b->xL Γ b:=by
  intro b hb';by_cases hin:b∈L'.flatten
  ·rcases(Mw b hin).1 with h'|h'
   ·obtain⟨m,_,he⟩:=hmem b h';exact hs.mine b (by omega)
   ·exact .inl (dh hs.base h')
  ·rw[Wf b hin]at hb';split at hb'
   ·omega
   ·exact hs1.mine b hb'
 obtain⟨ρ,hu⟩:=hs1.rR;have a2g:=hs1.nT kk (κ':=κ) (fun _ _ h=>h) hu;have hkl:(kill st.H ms).length=st.H.length:=fX _ _;have hpk:∀(j:Nat) y,(Ol st.H ms outs)[j]?=some y->(∃(i:Nat) (x:Rw),ms[i]?=some j/\outs[i]?=some x/\y=x.ob (lv st.H j))\/(j∉ms/\(kill st.H ms)[j]?=some y):=by
  intro j y hj;rcases XQ hnd (by omega) hj with h'|⟨h1,h2⟩
  ·exact .inl h'
  ·exact .inr ⟨h1,by rw[gC h1];exact h2⟩
 have Lt:∀(j:Nat) y,(Ol st.H ms outs)[j]?=some y->j+2≠st.H.length+2:=fun j y hj=>by
  have:=(aF.1 hj).1;rw[KX]at this;omega
 have hs2:dV Γ ⟨st.σ,Ol st.H ms outs⟩ κ Θ2 a w':=by
  refine hs1.step kk hm2 (fun _ _ h=>h) (fun i hi=>hs.ol i (by rw[KX]at hi;exact hi)) hs.o6 ?_ ⟨ρ,a2g.1,?_,?_⟩
  ·intro j y hj;have hjl:=Lt j y hj;rcases hpk j y hj with⟨i,x,h1,h2,rfl⟩|⟨_,h2⟩
   ·right;right
    have hbi:∃bs,L'[i]?=some bs:=⟨_,aa (by have:=(aF.1 h2).1;omega)⟩
    obtain⟨bs,hbi⟩:=hbi;obtain⟨v',q1,q2,q3⟩:=a7d i x bs h2 hbi;rw[cN,hkc i j h1]at q1;refine⟨q2,fun x hx=>?_,v',bs,q1,q3,RS DZ bs (aD hbi),fun b hb'=>⟨a8e i j bs b h1 hbi hb',(Mw b (fF.2 ⟨bs,aD hbi,hb'⟩)).2⟩⟩;unfold lv at hx;split at hx
    ·rename_i sz0 MV u0 hH0;subst hx;obtain⟨_,q0,_⟩:=hs.ob j _ hH0;exact q0 x rfl
    ·cases hx
   ·exact .inr (.inl ⟨hjl,h2⟩)
  ·intro id e' sz' dO hj;have hjl:=Lt id _ hj;rcases hpk id _ hj with⟨i,x,h1,h2,h3⟩|⟨_,h2⟩
   ·simp[Rw.ob]at h3
   ·exact a2g.2.1 id e' sz' dO hjl h2
  ·intro id y hj;have hjl:=Lt id _ hj;rcases hpk id _ hj with⟨i,x,h1,h2,h3⟩|⟨_,h2⟩
   ·subst h3;exact JQ.wF rfl
   ·exact a2g.2.2 id y hjl h2
 have qk:rS w' κ v d []:=.of hv;exact hK _ _ (h κ Θ2 _ w' (hs2.set (t:=t) ht qk (by simp)))
def Ob.close:Ob->Ob
 | .row _ _ sz rows=>.vW sz rows none
 |o=>o
theorem dV.UL(hs:dV Γ st κ Θ a w)(hb:Below w.heap.size w w')(L:oA)(hL:∀x∈L,x.ok w')(hnd:(L.flatMap Fs.bl).Nodup)(hfr:∀b∈L.flatMap Fs.bl,w.heap.size<=b/\Wr w' b):
 ∃κ' Θ',dV Γ ⟨st.σ,st.H++(L.map Fs.ob).map Ob.close⟩ κ' Θ' a w'/\Names κ' st.H.length L:=by
 let n:=st.H.length
 let κ':Nat->Option Value:=fun j=>if j<n\/n+L.length<=j then κ j else(L[j-n]?).map Fs.v
 let Θ':Nat->Nat:=fun b=>match ix (fun x:Fs=>x.bl.contains b) L with|some i=>n+i+2|none=>Θ b
 have hu1:∀(i j:Nat) x y b,L[i]?=some x->L[j]?=some y->b∈x.bl->b∈y.bl->i=j:=fun i j x y b=>vP hnd i j x y b
 have hts:∀(i:Nat) x b,L[i]?=some x->b∈x.bl->Θ' b=n+i+2:=by
  intro i x b hi VB;have:ix (fun x:Fs=>x.bl.contains b) L=some i:=Ej hi (by simpa using VB) (fun j y hj hy=>hu1 j i y x b hj hi (by simpa using hy) VB);simp only[Θ',this]
 have hno:∀b,b∉L.flatMap Fs.bl->Θ' b=Θ b:=by
  intro b hb';simp only[Θ'];cases h:ix (fun x:Fs=>x.bl.contains b) L with
  |none=>rfl
  |some i=>
   obtain⟨x,hx,hp⟩:=ym h;exact absurd (bg.2 ⟨x,aD hx,by simpa using hp⟩) hb'
 have hold:∀b,b<w.heap.size->Θ' b=Θ b:=fun b hlt=>hno b (fun h=>by have:=(hfr b h).1;omega)
 have hn:∀(j:Nat) v,κ j=some v->κ' j=some v:=by
  intro j v hj;have:j<n:=by
   rcases eF j n with h|h
   ·exact h
   ·have:=hs.ol j h;rw[hj]at this;cases this
  simp only[κ'];rw[bL (.inl this)];exact hj
 have v8:Names κ' n L:=by
  intro i x hx;have hlt:=(aF.1 hx).1;simp only[κ'];rw[b8 (by omega),dQ,hx];rfl
 have hlen:(st.H++(L.map Fs.ob).map Ob.close).length=n+L.length:=by simp[n]
 have k:iF w w' Θ Θ' (n+L.length+2):=by
  refine⟨by omega,hb.os,hb.tape,hb.output,hb.size,fun b hlt _=>hb.block b hlt,fun b hlt _=>hold b hlt,fun b h=>?_⟩;by_cases hin:b∈L.flatMap Fs.bl
  ·obtain⟨cs,T,hx⟩:=(hfr b hin).2;exact(bC.1 hx).1
  ·rw[hno b hin]at h;exact cq (hs.own b h) hb.size
 have hm:∀b,2<=Θ' b->xL Γ b:=by
  intro b h;by_cases hin:b∈L.flatMap Fs.bl
  ·exact .inl (dh hs.base (hfr b hin).1)
  ·rw[hno b hin]at h;exact hs.mine b h
 have key:∀(j:Nat) y,(st.H++(L.map Fs.ob).map Ob.close)[j]?=some y->(∃i x,j=n+i/\L[i]?=some x/\y=.vW x.sz x.rows none)\/(j<n/\st.H[j]?=some y):=by
  intro j y hj;by_cases hlt:j<st.H.length
  ·rw[av hlt]at hj;exact .inr ⟨hlt,hj⟩
  ·rw[az (by omega),bu,bu]at hj;cases hx:L[j-st.H.length]? with
   |none=>simp[hx]at hj
   |some x=>simp[hx]at hj;exact .inl ⟨j-st.H.length,x,by omega,hx,hj.symm⟩
 have Lt:∀(j:Nat) y,(st.H++(L.map Fs.ob).map Ob.close)[j]?=some y->j+2≠n+L.length+2:=fun j y hj=>by
  have:=(aF.1 hj).1;omega
 obtain⟨ρ,hu⟩:=hs.rR;have s8:=hs.nT k hn hu;refine⟨κ',Θ',hs.step k hm hn (fun i hi=>?_) (fun i u vV=>?_) (fun j y hj=>?_) ⟨ρ,s8.1,fun id e sz rows hj=>?_,fun id y hj=>?_⟩,v8⟩
 ·rw[hlen]at hi;simp only[κ'];rw[bL (by omega)];exact hs.ol i (by omega)
 ·simp only[κ']at vV;split at vV
  ·exact hs.o6 i u vV
  ·cases hx:L[i-n]? with
   |none=>simp[hx]at vV
   |some x=>simp[hx]at vV;subst vV;exact(hL x (aD hx)).2.2.2.2
 ·have hjl:=Lt j y hj;rcases key j y hj with⟨i,x,rfl,hx,rfl⟩|⟨hlt,hy⟩
  ·right;right
   obtain⟨q1,q2,q3,q4,_⟩:=hL x (aD hx);have Ik:x.bl.Nodup:=by
    have:∀(l:oA),(l.flatMap Fs.bl).Nodup->∀x∈l,x.bl.Nodup:=by
     intro l
     induction l with
     |nil=>intro _ x hx;cases hx
     |cons z r ih=>
      intro hnd x hx;simp only[cm]at hnd;obtain⟨n1,n2,_⟩:=bH.1 hnd;rcases bE.1 hx with rfl|hx
      ·exact n1
      ·exact ih n2 x hx
    exact this L hnd x (aD hx)
   exact⟨q2,by simp,x.v,x.bl,v8 i x hx,vB q2 q3 q4.rd,Ik,fun b hb'=>⟨hts i x b hx hb',(hfr b (bg.2 ⟨x,aD hx,hb'⟩)).2⟩⟩
  ·exact .inr (.inl ⟨hjl,hy⟩)
 ·have hjl:=Lt id _ hj;rcases key id _ hj with⟨i,x,_,_,h⟩|⟨hlt,hy⟩
  ·cases h
  ·exact s8.2.1 id e sz rows hjl hy
 ·have hjl:=Lt id _ hj;rcases key id _ hj with⟨i,x,_,_,h⟩|⟨hlt,hy⟩
  ·subst h;exact JQ.wF rfl
  ·exact s8.2.2 id y hjl hy
theorem VG{o:Oper}{f t:Nat}{xs:Array Operand}{ts:Array TypeId}{ds:aL}{ms:aW}{d:D}(hop:o.op=.call {callee:=.value (.func f),args:=xs,argTypes:=ts})(hd:o.dst=some t)(hg:o.guard=none)
 (ht:t<Γ.nt) (hds:GG st.H (xs.toList.map st.ev)=some (ds,ms)) (hown:d.MM=true) (nQ:Good P f ds d)
 (h:AO P Γ all rest Q ⟨(t,(oF st.H.length d).1)::st.σ,st.H++(oF st.H.length d).2.map Ob.close⟩):AO P Γ all (o::rest) Q st:=by
 intro κ Θ a w hs;obtain⟨bs,hargs,hz⟩:=LD hs hds;let Θc:Nat->Nat:=fun b=>if Θ b=0\/ms.any (fun m=>Θ b==m+2)then 0 else 1
 have KN:∀b,Seen Θ ms b->Θc b=0:=by
  intro b h;simp only[Θc];rw[bL];rcases h with h|⟨m,h1,h2⟩
  ·exact .inl h
  ·exact .inr (cz.2 ⟨m,h1,by simp[h2]⟩)
 have hc:=nQ.2 w Θc _ bs hs.vok hargs (fun b hb=>KN b (hz b hb)) (fun b hb=>hs.own b (fun e=>hb (KN b (.inl e)))) (fun b=>by simp only[Θc];split<;>omega);refine wpList_plain hg fun K hK=>?_
 unfold Oper.wp;rw[wG hop nQ.1,Oper.upon_enter];have e:xs.map a.eval=(xs.toList.map a.eval).toArray:=by rw[<-gm,k6]
 rw[e];refine hc.mono ?_;rintro e w' ⟨v,bs',tb,ub,rfl,hb,hr,Mm,htb,hnd,hfr,hsub⟩;show K (a.put o.dst v) w';rw[hd];obtain⟨L,q1,q2,q3,q4,q5⟩:=hr.inst st.H.length;obtain⟨κ',Θ',hs',hnm⟩:=hs.UL hb L q2 (q3▸hnd) (fun b hb'=>hfr b (q3▸hb'));rw[q1]at hs';refine hK _ _ (h κ' Θ' _ w' (hs'.set (t:=t) ht (q5 κ' hnm) fun b hb'=>?_));rw[hr.own hown]at hb';cases hb'
end
end Go.Cx
namespace Go.Cx
open Go.RowKit
section
variable{P:Program}{Γ:tZ}{Q:Exit->St->Prop}{st:St}{κ κ':Nat->Option Value}{Θ Θ':Nat->Nat}{a:Act}{w w':World}{all:Array Oper}{rest:List Oper}
theorem dV.SA(hs:dV Γ st κ Θ a w)(ms:aW){H':bP}(h1:w'.os=w.os)(h2:w'.tape=w.tape)(h3:w'.output=w.output)(h4:w.heap.size<=w'.heap.size)
 (Lo:∀b,b<w.heap.size->(∀m∈ms,Θ b≠m+2)->w'.heap[b]?=w.heap[b]?) (a2b:∀b,b<w.heap.size->(∀m∈ms,Θ b≠m+2)->Θ' b=Θ b) (hown:∀b,Θ' b≠0->b<w'.heap.size)
 (hm:∀b,2<=Θ' b->xL Γ b) (hn:∀(j:Nat) v,κ j=some v->κ' j=some v) (hko:∀i,H'.length<=i->κ' i=none) (hk1:∀(i:Nat) u,κ' i=some u->u.oneCell'=true)
 (xe:∀(j:Nat) y,H'[j]?=some y->y=.gone\/(j∉ms/\st.H[j]?=some y)\/(vh w' κ' Θ' j y/\y.SQ=false)):dV Γ ⟨st.σ,H'⟩ κ' Θ' a w':=by
 have hs1:=hs.forget ms;have hin:∀b,(ms.any (fun m=>Θ b==m+2))=false->∀m∈ms,Θ b≠m+2:=by
  intro b h m hm' he;have:ms.any (fun m=>Θ b==m+2)=true:=cz.2 ⟨m,hm',by simp[he]⟩;rw[h]at this;cases this
 have hlt2:∀b,(if ms.any (fun m=>Θ b==m+2)then st.H.length+2 else Θ b)≠st.H.length+2->(ms.any (fun m=>Θ b==m+2))=false:=by
  intro b h;cases hc:ms.any (fun m=>Θ b==m+2)with
  |false=>rfl
  |true=>simp[hc]at h
 have kk:iF w w' (fun b=>if ms.any (fun m=>Θ b==m+2)then st.H.length+2 else Θ b) Θ' (st.H.length+2):=by
  refine⟨by omega,h1,h2,h3,h4,fun b hb hne=>Lo b hb (hin b (hlt2 b hne)),fun b hb hne=>?_,hown⟩;have hc:=hlt2 b hne;rw[a2b b hb (hin b hc)];simp[hc]
 obtain⟨ρ,hu⟩:=hs1.rR;have s8:=hs1.nT kk hn hu;refine hs1.step kk hm hn hko hk1 (fun j y hj=>?_) ⟨ρ,s8.1,fun id e sz rows hj=>?_,fun id y hj=>?_⟩
 ·rcases xe j y hj with h|⟨h,hy⟩|⟨h,_⟩
  ·exact .inl h
  ·have:=(aF.1 hy).1;exact .inr (.inl ⟨by omega,by rw[gC h];exact hy⟩)
  ·exact .inr (.inr h)
 ·rcases xe id _ hj with h|⟨h,hy⟩|⟨_,h⟩
  ·cases h
  ·have:=(aF.1 hy).1;exact s8.2.1 id e sz rows (by omega) (by rw[gC h];exact hy)
  ·simp[Ob.SQ]at h
 ·rcases xe id _ hj with h|⟨h,hy⟩|⟨_,h⟩
  ·subst h;trivial
  ·have:=(aF.1 hy).1;exact s8.2.2 id y (by omega) (by rw[gC h];exact hy)
  ·exact JQ.plain h
theorem Rd.a3s{v:Value}{rows:List aL}{bs:aW}(h:Rd w v (.sl rows) bs):(∃q c,v=.slice q rows.length c)/\rows.length<=maxLen:=by
 cases h with
 |wI=>exact⟨⟨_,_,rfl⟩,by simp⟩
 |lP=>exact⟨⟨_,_,rfl⟩,by simp⟩
 |sl b off cap sz _ cs bs hb h1 h2=>exact⟨⟨_,_,rfl⟩,by omega⟩
theorem Ys{o:Oper}{t T id sz:Nat}{x:Operand}{rows:List aL}{u:Option Value}(hop:o.op=.call {callee:=.builtin .len,args:= #[x],argTypes:= #[T]})(hd:o.dst=some t)(hg:o.guard=none)(ht:t<Γ.nt)
 (hT:(FH P T).isSome=true) (hx:st.ev x=.acc id) (hH:st.H[id]?=some (.vW sz rows u)) (h:AO P Γ all rest Q ⟨(t,.int .i64 rows.length)::st.σ,st.H⟩):AO P Γ all (o::rest) Q st:=by
 intro κ Θ a w hs;obtain⟨b1,r1,_⟩:=hs.ev x;rw[hx]at r1;obtain⟨hk,_⟩:=r1.uh;obtain⟨_,_,v,bs,hk2,hrd,_⟩:=hs.ob id _ hH;rw[hk]at hk2;cases hk2;obtain⟨⟨q,c,hv⟩,CS⟩:=hrd.a3s;obtain⟨⟨e,sz'⟩,hT⟩:=eN.1 hT;obtain⟨hu,_,_⟩:=oo hT;refine wpList_plain hg fun K hK=>?_
 unfold Oper.wp;have hrun:(execOp a.eval o).run P w=.ok (.value (.int .i64 rows.length)) w:=by
  simp only[execOp,hop,resolve,invoke,builtin,oU,ay,bt,hv];simp[Builtin.len_,run_underlying hu,goInt]
 rw[hrun,Oper.upon_value,hd];exact hK _ _ (h κ Θ _ w (hs.set (d:=.int .i64 rows.length) (bs:=[]) ht (.of (.int _ _ (Od CS))) (by simp)))
theorem a1y{o:Oper}{t T id sz e m:Nat}{x i:Operand}{rows:List aL}{u:Option Value}{k:IntKind}{n:Int}(hop:o.op=.indexAddr T x i)(hd:o.dst=some t)(hg:o.guard=none)(ht:t<Γ.nt)
 (hT:FH P T=some (e,sz)) (hx:st.ev x=.acc id) (hi:st.ev i=.int k n) (hH:st.H[id]?=some (.vW sz rows u)) (hn:n=(m:Int)) (hm:m<rows.length) (h:AO P Γ all rest Q ⟨(t,.op id m sz 0)::st.σ,st.H⟩):AO P Γ all (o::rest) Q st:=by
 intro κ Θ a w hs;obtain⟨b1,r1,_⟩:=hs.ev x;obtain⟨b2,r2,_⟩:=hs.ev i;rw[hx]at r1;rw[hi]at r2;have hiv:=r2.ql;obtain⟨hk,_⟩:=r1.uh;obtain⟨_,_,v,bs,hk2,hrd,_⟩:=hs.ob id _ hH;rw[hk]at hk2;cases hk2;obtain⟨hu,Ju,Io⟩:=oo hT;have hsz:=ud (P:=P) Ju w;subst hn;generalize TI:a.eval x=vx at hrd hk;cases hrd with
 |wI=>simp at hm
 |lP=>simp at hm
 |sl b off cap sz' _ cs bs hb hcap CS hrl hc qk=>
  have hn':0<=(m:Int)/\(m:Int)<(rows.length:Int):=⟨by omega,by omega⟩
  refine wpList_plain hg fun K hK=>?_
  unfold Oper.wp;have hrun:(execOp a.eval o).run P w=.ok (.value (.pointer (some ⟨b,off+(m*sz+0),none⟩))) w:=by
   simp only[execOp,hop,TI,hiv];simp[Instr.indexAt,asIntOf,run_underlying hu,hn',hm,hsz,Io,Addr.add_lit]
  rw[hrun,Oper.upon_value,hd];exact hK _ _ (h κ Θ _ w (hs.set (d:=.op id m sz 0) (bs:=[]) ht (yQ.op id m sz 0 b off _ _ hk).Nk (by simp)))
theorem Ih{rows:List aL}{sz i off:Nat}{r:aL}{d:D}(hrl:∀r∈rows,r.length=sz)(hr:rows[i]?=some r)(hd:r[off]?=some d):rows.flatten[i*sz+off]?=some d/\off<sz/\i*sz+off<rows.length*sz:=by
 have h1:=hrl r (aD hr);have h2:=(aF.1 hd).1;have hmid:=EZ hrl hr;have hlt:=(aF.1 hr).1;have hle:(i+1)*sz<=rows.length*sz:=dW _ hlt;rw[k7,nI]at hle;refine⟨?_,by omega,by omega⟩;rw[<-hmid,cS,bL (by omega),eY]at hd;exact hd
theorem VO{o:Oper}{t T id i sz off:Nat}{x:Operand}{rows:List aL}{r:aL}{d:D}{u:Option Value}(hop:o.op=.load T x)(hd:o.dst=some t)(hg:o.guard=none)(ht:t<Γ.nt)
 (hT:zz P T=some false) (hx:st.ev x=.op id i sz off) (hH:st.H[id]?=some (.vW sz rows u)) (hr:rows[i]?=some r) (hc:r[off]?=some d) (hfl:d.flat=true) (h:AO P Γ all rest Q ⟨(t,d)::st.σ,st.H⟩):AO P Γ all (o::rest) Q st:=by
 intro κ Θ a w hs;obtain⟨b1,r1,_⟩:=hs.ev x;rw[hx]at r1;obtain⟨g,o0,len,Z9,hk,hv⟩:=r1.Et;obtain⟨hrl,_,v,bs,hk2,hrd,_⟩:=hs.ob id _ hH;rw[hk]at hk2;cases hk2;obtain⟨hf,_,_⟩:=Ih hrl hr hc;cases hrd with
 |lP=>simp at hr
 |sl _ _ _ sz' _ cs ns hb hcap CS Il hcs qk=>
  obtain⟨c,b',h1,h2,h3,h4⟩:=qk.at hf;have L:=nS (P:=P) (w:=w) hT (o:=i*sz+off) hcs;have hb':=h3.flat hfl;subst hb';refine wpList_plain hg fun K hK=>?_
  unfold Oper.wp;have hrun:(execOp a.eval o).run P w=.ok (.value c) w:=by
   simp only[execOp,hop,hv];simp[L.2 rfl c h1]
  rw[hrun,Oper.upon_value,hd];exact hK _ _ (h κ Θ _ w (hs.set (d:=d) (bs:=[]) ht (.of h3) (by simp)))
theorem mR.Zw{vs:bZ}{ds:aL}{bs:aW}(h:mR w vs ds bs){p:Nat}{d:D}(hd:ds[p]?=some d):
 ∃c b1 b2 b3,vs[p]?=some c/\c.oneCell'=true/\Rd w c d b2/\bs=b1++(b2++b3)/\∀(e:D) (b4:aW),Rd w c e b4->mR w vs (ds.set p e) (b1++(b4++b3)):=by
 obtain⟨l,r,rfl,hl⟩:=Jx hd;obtain⟨v1,v2,c1,c2,rfl,rfl,k1,k2⟩:=h.split;cases k2 with
 |cons c vs _ _ b2 b3 h1 h2 h3=>
  have hl1:v1.length=p:=by rw[k1.length];exact hl
  refine⟨c,c1,b2,b3,by rw[az (by omega),hl1];simp,h1,h2,rfl,fun e b4 he=>?_⟩;have e1:(l++d::r).set p e=l++e::r:=by rw[mL _ _ (by omega),hl];simp
  rw[e1];exact k1.app (.cons _ _ _ _ _ _ h1 he h3)
theorem CQ{rows:List aL}{sz i off:Nat}{r:aL}{d e:D}(hrl:∀r∈rows,r.length=sz)(hr:rows[i]?=some r)(hd:r[off]?=some d):(rows.set i (r.set off e)).flatten=rows.flatten.set (i*sz+off) e:=by
 have hlt:=(aF.1 hd).1;have h1:=hrl r (aD hr);have:=Ea (rows:=rows) (sz:=sz) (i:=i) (off:=off) (row:=r) (ds:=[e]) hrl hr (by simp;omega);have e1:r.set off e=r.take off++[e]++r.drop (off+[e].length):=by
  apply nX;intro j;rw[gH];simp only[cc,Cy,aT,bW,cN];by_cases hj:j<off
  ·rw[b8 (by omega),av (by simp;omega),cS,bL hj]
  ·rw[az (by simp;omega),bw,fG (by omega)];by_cases he:off=j
   ·subst he;simp[hlt]
   ·rw[b8 he];obtain⟨m,hm⟩:∃m,j-off=m+1:=⟨j-off-1,by omega⟩
    rw[hm,ff,eY]
    congr 1;omega
 rw[e1,this];have hfl:=nP hrl;obtain⟨hf,_,hlt2⟩:=Ih hrl hr hd;apply nX;intro j;rw[gH];simp only[cc,Cy,aT,bW,cN];by_cases hj:j<i*sz+off
 ·rw[b8 (by omega),av (by rw[bw];omega),cS,bL hj]
 ·rw[az (by rw[bw];omega),bw,fG (by omega)];by_cases he:i*sz+off=j
  ·subst he;rw[bL rfl,bL (by omega),pV];rfl
  ·rw[b8 he];obtain⟨m,hm⟩:∃m,j-(i*sz+off)=m+1:=⟨j-(i*sz+off)-1,by omega⟩
   rw[hm,ff,eY]
   congr 1;omega
theorem LA{rows:List aL}{sz i:Nat}{r:aL}(hrl:∀r∈rows,r.length=sz)(hr:r.length=sz):∀x∈rows.set i r,x.length=sz:=by
 intro x hx;rcases mI hx with hx|rfl
 ·exact hrl x hx
 ·exact hr
theorem VQ{o:Oper}{t T id i sz off FG:Nat}{x:Operand}{rows dJ:List aL}{r:aL}{u:Option Value}(hop:o.op=.load T x)(hd:o.dst=some t)(hg:o.guard=none)(ht:t<Γ.nt)
 (hT:zz P T=some false) (hx:st.ev x=.op id i sz off) (hH:st.H[id]?=some (.vW sz rows u)) (hr:rows[i]?=some r) (hc:r[off]?=some (.sl dJ)) (h2:∀q∈dJ,q.length=FG)
 (h:AO P Γ all rest Q ⟨(t,.acc st.H.length)::st.σ,st.H.set id (.hole sz (rows.set i (r.set off .any)) u (i*sz+off) st.H.length)++[.vW FG dJ none]⟩):AO P Γ all (o::rest) Q st:=by
 intro κ Θ a w hs;obtain⟨b1,r1,_⟩:=hs.ev x;rw[hx]at r1;obtain⟨g,o0,len,Z9,hk,hv⟩:=r1.Et;obtain⟨hrl,ZX,v,bs,hk2,hrd,hnd,Df⟩:=hs.ob id _ hH;rw[hk]at hk2;cases hk2;obtain⟨hf,hoff,_⟩:=Ih hrl hr hc;cases hrd with
 |lP=>simp at hr
 |sl _ _ _ sz' _ cs ns hb hcap CS Il hcs qk=>
  obtain⟨c,c1,c2,c3,h1,h1c,h3,rfl,qg⟩:=qk.Zw hf;have L:=nS (P:=P) (w:=w) hT (o:=i*sz+off) hcs;have a4v:id<st.H.length:=(aF.1 hH).1;have hnew:=qg .any [] (.any c);have DZ:=hnd;simp only[dN,aU,AX]at DZ;obtain⟨⟨hg1,TA,hg3⟩,Ik⟩:=DZ;obtain⟨n1,n2,n3⟩:=bH.1 Ik;obtain⟨n4,n5,n6⟩:=bH.1 n2;let Θ':Nat->Nat:=fun b=>if b∈c2 then st.H.length+2 else Θ b
  have hs':dV Γ ⟨st.σ,st.H.set id (.hole sz (rows.set i (r.set off .any)) u (i*sz+off) st.H.length)++[.vW FG dJ none]⟩ (xD κ st.H.length (some c)) Θ' a w:=by
   have hn:=wJ (hs.ol _ (bO _)) (some c);have N6:∀b∈c2,Θ b=id+2:=fun b hb'=>(Df b (by simp[hb'])).1
   refine hs.SA [id] rfl rfl rfl (bO _) (fun _ _ _=>rfl) (fun b _ hne=>?_) (fun b hb'=>?_) (fun b hb'=>?_) hn (fun j hj=>?_) (fun j y hy=>?_) (fun j y hj=>?_)
   ·simp only[Θ'];rw[b8];intro hin;exact hne id (by simp) (N6 b hin)
   ·simp only[Θ']at hb';split at hb'
    ·rename_i hin;exact hs.own b (by rw[N6 b hin];omega)
    ·exact hs.own b hb'
   ·simp only[Θ']at hb';split at hb'
    ·rename_i hin;exact hs.mine b (by rw[N6 b hin];omega)
    ·exact hs.mine b hb'
   ·simp only[ar,eR,aT,bW]at hj;unfold xD;rw[b8 (by omega)];exact hs.ol j (by omega)
   ·unfold xD at hy;split at hy
    ·cases hy;exact h1c
    ·exact hs.o6 j y hy
   ·rcases zu j y hj with⟨hjl,rfl⟩|⟨hjl,hy⟩
    ·right;right
     have hjn:j=st.H.length:=by rw[hjl];simp
     subst hjn;refine⟨⟨h2,by simp,c,c2,jD _ _ _,h3,n4,fun b hb'=>⟨by simp[Θ',hb'],(Df b (by simp[hb'])).2⟩⟩,rfl⟩
    ·rcases wH j y hy with⟨rfl,rfl⟩|⟨hne,hy'⟩
     ·right;right
      refine⟨⟨LA hrl (by rw[eR];exact hrl r (aD hr)),fun z hz=>hn _ _ (ZX z hz),_,g::(c1++([]++c3)),hn _ _ hk,⟨g,o0,Z9,cs,c1++([]++c3),by simp,hb,by simpa using hcap,CS,hcs,?_,rfl,c,h1,jD _ _ _⟩,?_,fun b hb'=>?_⟩,rfl⟩
      ·rw[CQ hrl hr hc];exact hnew
      ·simp only[dM,dN,aU,AX];exact⟨⟨hg1,hg3⟩,bH.2 ⟨n1,n5,fun x hx y hy e=>n3 x hx y (by simp[hy]) e⟩⟩
      ·have hbm:b∈g::(c1++(c2++c3)):=by
        simp only[dM,bE,aU]at hb'⊢;rcases hb' with h|h|h<;>simp[h]
       refine⟨?_,(Df b hbm).2⟩;simp only[Θ'];rw[b8,(Df b hbm).1];intro hin;simp only[dM,bE,aU]at hb';rcases hb' with h|h|h
       ·subst h;exact TA hin
       ·exact n3 b h b (by simp[hin]) rfl
       ·exact n6 b hin b h rfl
     ·exact .inr (.inl ⟨by simpa using hne,hy'⟩)
  refine wpList_plain hg fun K hK=>?_
  unfold Oper.wp;have hrun:(execOp a.eval o).run P w=.ok (.value c) w:=by
   simp only[execOp,hop,hv];simp[L.2 rfl c h1]
  rw[hrun,Oper.upon_value,hd];exact hK _ _ (h _ _ _ w (hs'.set (d:=.acc st.H.length) (bs:=[]) ht (yQ.acc st.H.length c (jD _ _ _)).Nk (by simp)))
theorem VP{id n i sz off FG:Nat}{rows dJ:List aL}{r:aL}{d:D}{u u2:Option Value}(hH:st.H[id]?=some (.hole sz rows u (i*sz+off) n))(hN:st.H[n]?=some (.vW FG dJ u2))(hr:rows[i]?=some r)(hc:r[off]?=some d)
 (h:AO P Γ all rest Q ⟨st.σ,(st.H.set n .gone).set id (.vW sz (rows.set i (r.set off (.sl dJ))) u)⟩):AO P Γ all rest Q st:=by
 intro κ Θ a w hs;obtain⟨hrl,ZX,v,bs,hk,⟨b,o0,cap,cs,ns,rfl,h1,h2,h3,h4,h5,rfl,c,h6,h7⟩,hnd,Df⟩:=hs.ob id _ hH;obtain⟨aB7,_,v2,Ya,hk2,a8L,a2X,W8⟩:=hs.ob n _ hN;rw[h7]at hk2;cases hk2;obtain⟨hf,hoff,_⟩:=Ih hrl hr hc;obtain⟨c',c1,c2,c3,q1,q1c,q3,rfl,qg⟩:=h5.Zw hf;rw[h6]at q1;cases q1;have hnew:=qg (.sl dJ) Ya a8L;have hne:n≠id:=fun e=>by subst e;rw[hH]at hN;cases hN
 have a4v:id<st.H.length:=(aF.1 hH).1;have DZ:=hnd;simp only[dN,aU,AX]at DZ;obtain⟨⟨hg1,TA,hg3⟩,Ik⟩:=DZ;obtain⟨n1,n2,n3⟩:=bH.1 Ik;obtain⟨n4,n5,n6⟩:=bH.1 n2;have a2R:∀x∈Ya,∀y∈b::(c1++(c2++c3)),x≠y:=by
  intro x hx y hy e;subst e;have e1:=(W8 x hx).1;have e2:=(Df x hy).1;omega
 let Θ':Nat->Nat:=fun x=>if x∈Ya then id+2 else if Θ x=n+2 then 1 else Θ x
 refine h κ Θ' a w (hs.SA [id,n] rfl rfl rfl (bO _) (fun _ _ _=>rfl) (fun x _ hnx=>?_) (fun x hx=>?_) (fun x hx=>?_) (fun _ _ h=>h) (fun j hj=>hs.ol j (by simpa using hj)) hs.o6 (fun j y hj=>?_))
 ·simp only[Θ'];rw[b8 (fun hin=>hnx n (by simp) (W8 x hin).1),b8 (hnx n (by simp))]
 ·simp only[Θ']at hx;split at hx
  ·rename_i hin;exact hs.own x (by rw[(W8 x hin).1];omega)
  ·split at hx
   ·rename_i he;exact hs.own x (by rw[he];omega)
   ·exact hs.own x hx
 ·simp only[Θ']at hx;split at hx
  ·rename_i hin;exact hs.mine x (by rw[(W8 x hin).1];omega)
  ·split at hx
   ·omega
   ·exact hs.mine x hx
 ·rcases wH j y hj with⟨rfl,rfl⟩|⟨GU,hy⟩
  ·right;right
   refine⟨⟨LA hrl (by rw[eR];exact hrl r (aD hr)),ZX,_,b::(c1++(Ya++c3)),hk,?_,?_,fun x hx=>?_⟩,rfl⟩
   ·have hl:(rows.set i (r.set off (.sl dJ))).length=rows.length:=by simp
    have:=Rd.sl (w:=w) b o0 cap sz (rows.set i (r.set off (.sl dJ))) cs (c1++(Ya++c3)) h1 (by rw[hl];exact h2) h3 (LA hrl (by rw[eR];exact hrl r (aD hr))) h4 (by rw[CQ hrl hr hc];exact hnew);rw[hl]at this;exact this
   ·simp only[dN,aU,AX];refine⟨⟨hg1,fun hin=>a2R b hin b (by simp) rfl,hg3⟩,bH.2 ⟨n1,bH.2 ⟨a2X,n5,fun x hx y hy e=>a2R x hx y (by simp[hy]) e⟩,fun x hx y hy e=>?_⟩⟩;rcases aU.1 hy with hy|hy
    ·exact a2R y hy x (by simp[hx]) e.symm
    ·exact n3 x hx y (by simp[hy]) e
   ·by_cases hin:x∈Ya
    ·exact⟨by simp[Θ',hin],(W8 x hin).2⟩
    ·have hbm:x∈b::(c1++(c2++c3)):=by
      simp only[bE,aU]at hx⊢;rcases hx with h|h|h|h
      ·simp[h]
      ·simp[h]
      ·exact absurd h hin
      ·simp[h]
     refine⟨?_,(Df x hbm).2⟩;have e1:=(Df x hbm).1;simp only[Θ'];rw[b8 hin,b8 (by omega),e1]
  ·rcases wH j y hy with⟨rfl,rfl⟩|⟨hj2,hy'⟩
   ·exact .inl rfl
   ·exact .inr (.inl ⟨by simp[GU,hj2],hy'⟩)
theorem mR.setCells{vs:bZ}{ds es:aL}{us:bZ}{bs:aW}(h:mR w vs ds bs)(p:Nat)(hp:p+es.length<=ds.length)(hu:mR w us es []):
 ∃b',mR w (vs.take p++us++vs.drop (p+us.length)) (ds.take p++es++ds.drop (p+es.length)) b'/\(∀b∈b',b∈bs)/\(bs.Nodup->b'.Nodup):=by
 have e:ds=ds.take p++((ds.drop p).take es.length++(ds.drop p).drop es.length):=by rw[cJ,cJ]
 rw[e]at h;obtain⟨v1,v2,b1,b2,rfl,rfl,k1,k2⟩:=h.split;obtain⟨v3,v4,b3,b4,rfl,rfl,k3,k4⟩:=k2.split;have l1:v1.length=p:=by rw[k1.length];simp;omega
 have l3:v3.length=es.length:=by rw[k3.length];simp;omega
 have lu:=hu.length;have t1:(v1++(v3++v4)).take p=v1:=ic l1;have t2:(v1++(v3++v4)).drop (p+us.length)=v4:=by
  rw[<-fe,fc l1,lu,fc l3]
 rw[t1,t2];rw[fe]at k4;refine⟨b1++[]++b4,(k1.app hu).app k4,fun b hb=>?_,fun hnd=>?_⟩
 ·simp only[dA,aU]at hb⊢;rcases hb with h|h<;>simp[h]
 ·obtain⟨n1,n2,n3⟩:=bH.1 hnd;obtain⟨_,n5,_⟩:=bH.1 n2;simp only[dA];exact bH.2 ⟨n1,n5,fun x hx y hy e=>n3 x hx y (by simp[hy]) e⟩
theorem Tu{o:Oper}{T id i sz off:Nat}{x y:Operand}{rows:List aL}{r ds:aL}{u:Option Value}(hop:o.op=.store T x y)(hd:o.dst=none)(hg:o.guard=none)
 (hx:st.ev x=.op id i sz off) (hH:st.H[id]?=some (.vW sz rows u)) (hr:rows[i]?=some r) (hc:(st.ev y).cellsOf=some ds) (hfl:ds.all D.flat=true) (hT:P5 P T=true) (hl:ds.length=z6 P T) (hpos:0<ds.length) (hfit:off+ds.length<=sz)
 (h:AO P Γ all rest Q ⟨st.σ,st.H.set id (.vW sz (rows.set i (r.take off++ds++r.drop (off+ds.length))) u)⟩):AO P Γ all (o::rest) Q st:=by
 intro κ Θ a w hs;obtain⟨b1,r1,_⟩:=hs.ev x;obtain⟨b2,r2,_⟩:=hs.ev y;rw[hx]at r1;obtain⟨g,o0,len,Z9,hk,hv⟩:=r1.Et;obtain⟨hrl,ZX,v,bs,hk2,hrd,hnd,Df⟩:=hs.ob id _ hH;rw[hk]at hk2;cases hk2;have RW:=B4 hs.o6 r2 hc;have hl1:=RW.length;have a7u:ds.all D.PI=true:=by
  rw[ai]at hfl⊢;intro d GS;have:=hfl d GS;cases d<;>first|rfl| (simp[D.flat]at this)
 have hcp:=RW.pure a7u;have L4:=hcp.flat hfl;subst L4;have hrow:=hrl r (aD hr);have hilt:=(aF.1 hr).1;have a2S:(i+1)*sz<=rows.length*sz:=dW _ hilt;rw[k7,nI]at a2S;cases hrd with
 |lP=>simp at hr
 |sl _ _ _ sz' _ cs ns hb hcap CS Il hcs qk=>
  obtain⟨hgT,hgw⟩:=Df g (by simp);obtain⟨cur,Tb,UE⟩:=hgw;have a4t:=nP hrl;have hcl:cs.length=rows.length*sz:=by rw[qk.length,a4t]
  have Lr:∀j c,cs[j]?=some c->cur[o0+j]?=some c:=by
   intro j c hj;have:=hcs j c hj;simpa[World.cell?,UE]using this
  have a4s:o0+(i*sz+off)+(a.eval y).cells.size<=cur.size:=by
   have e1:(a.eval y).cells.size=ds.length:=by rw[<-hl1];simp
   rw[e1];have:=Lr (i*sz+off+ds.length-1) cs[i*sz+off+ds.length-1] (aa (by omega));have:=(bC.1 this).1;omega
  have a2f:(a.eval y).cells.size=z6 P T:=by rw[<-hl,<-hl1];simp
  have hst:=Ev (P:=P) (T:=T) (off:=o0+(i*sz+off)) UE a2f (eN.1 hT) a4s RW.one;have hne:(a.eval y).cells.toList.length=ds.length:=hl1;let Kl:Array Value:=(cur.toList.take (o0+(i*sz+off))++(a.eval y).cells.toList++cur.toList.drop (o0+(i*sz+off)+(a.eval y).cells.toList.length)).toArray
  have hw':∀x,x≠g->(w.setRow g Kl).heap[x]?=w.heap[x]?:=fun x hx=>setRow_other w g x _ hx
  have hsame:∀x,x<w.heap.size->(∀m∈[id],Θ x≠m+2)->(w.setRow g Kl).heap[x]?=w.heap[x]?:=fun x _ hx=>hw' x (fun e=>hx id (by simp) (by rw[e];exact hgT))
  simp only[dN]at hnd;have a8O:mR (w.setRow g Kl) cs rows.flatten ns:=qk.keep fun b hb'=>hw' b (fun e=>hnd.1 (e▸hb'))
  have a7m:mR (w.setRow g Kl) (a.eval y).cells.toList ds []:=hcp.keep (by simp);obtain⟨ns',q1,q2,q3⟩:=a8O.setCells (i*sz+off) (by rw[a4t];omega) a7m;have hfs:=Ea (ds:=ds) (off:=off) hrl hr hfit;have hl4:(rows.set i (r.take off++ds++r.drop (off+ds.length))).length=rows.length:=by simp
  have a5C:∀z∈rows.set i (r.take off++ds++r.drop (off+ds.length)),z.length=sz:=LA hrl (by simp;omega);have hcell:∀j c,(cs.take (i*sz+off)++(a.eval y).cells.toList++cs.drop (i*sz+off+(a.eval y).cells.toList.length))[j]?=some c->(w.setRow g Kl).cell? ⟨g,o0+j,none⟩=some c:=by
   intro j c hj;have hgh:(w.setRow g Kl).heap[g]?=some (.cells Kl Tb (0,0)):=setRow_heap w g cur _ Tb _ UE;simp only[World.cell?,hgh];show Kl[o0+j]?=some c;simp only[Kl,hY,cc]at hj⊢;have hcz:o0+(i*sz+off)<=cur.toList.length:=by simp;omega
   by_cases GU:j<i*sz+off
   ·rw[av (by simp;omega),cS,bL GU]at hj;rw[av (by rw[bw];omega),cS,bL (by omega)];have:=Lr j c hj;simpa using this
   ·rw[az (by rw[bw];omega),bw,fG (by omega)]at hj;rw[az (by rw[bw];omega),bw,fG hcz];rw[show o0+j-(o0+(i*sz+off))=j-(i*sz+off)from by omega];by_cases hj2:j-(i*sz+off)<(a.eval y).cells.toList.length
    ·rw[av hj2]at hj⊢;exact hj
    ·rw[az (by omega),eY]at hj⊢;have:=Lr _ c hj;rw[<-jY]at this;rw[<-this];congr 1;omega
  refine wpList_plain hg fun K hK=>?_
  unfold Oper.wp;have hrun:(execOp a.eval o).run P w=.ok .skip (w.setRow g Kl):=by
   simp only[execOp,hop,hv];simp[hst,Kl]
  rw[hrun,Oper.upon_skip,hd];refine hK _ _ (h κ Θ _ _ (hs.SA [id] rfl rfl rfl (by simp) hsame (fun _ _ _=>rfl) (fun b hb'=>by simpa using hs.own b hb') hs.mine (fun _ _ h=>h) (fun j hj=>hs.ol j (by simpa using hj)) hs.o6 (fun j z hj=>?_)));rcases wH j z hj with⟨rfl,rfl⟩|⟨GU,hz⟩
  ·right;right
   refine⟨⟨a5C,ZX,_,g::ns',hk,?_,?_,fun b hb'=>?_⟩,rfl⟩
   ·have:=Rd.sl (w:=w.setRow g Kl) g o0 Z9 sz (rows.set i (r.take off++ds++r.drop (off+ds.length))) _ ns' (by simpa using hb) (by rw[hl4];exact hcap) CS a5C hcell (by rw[hfs];exact q1);rw[hl4]at this;exact this
   ·simp only[dN];exact⟨fun hin=>hnd.1 (q2 g hin),q3 hnd.2⟩
   ·rcases bE.1 hb' with rfl|hin
    ·exact⟨hgT,⟨_,Tb,setRow_heap w b cur _ Tb _ UE⟩⟩
    ·have hm:=Df b (by simp[q2 b hin]);refine⟨hm.1,?_⟩;obtain⟨xs,T',hxs⟩:=hm.2;exact⟨xs,T',(hw' b (fun e=>hnd.1 (e▸q2 b hin))).trans hxs⟩
  ·exact .inr (.inl ⟨by simpa using GU,hz⟩)
end
end Go.Cx
namespace Go.Cx
open Go.RowKit
def GM(P:Program)(f:FuncId)(ds:aL)(e sz:Nat)(rows dO:List aL):Prop:=
 (∃fn,P.funcs[f]?=some fn/\fn.body.isSome=true/\(fn.name== "runtime.NumGoroutine")=false)/\
 ∀(w:World) (κ:Nat->Option Value) (args:bZ) (v:Value) (cs:bZ),Ms w (fun b=>v.ownBlock=some b)->args.length=ds.length->(∀(i:Nat) d,ds[i]?=some d->∃u,args[i]?=some u/\rS w κ u d [])->
  κ 0=some v->(∀i,1<=i->κ i=none)->v.oneCell'=true->0<sz->(∀r∈rows,r.length=sz)->w.ownsRow 0 e sz v rows.length cs->mR w cs rows.flatten []->
  Calls P f args.toArray w (fun x w'=>∃v' cs',x=.returned v'/\v'.oneCell'=true/\(∀r∈dO,r.length=sz)/\w'.ownsRow 0 e sz v' dO.length cs'/\mR w' cs' dO.flatten []/\(∀g,v'.ownBlock=some g->w.heap.size<=g\/v.ownBlock=some g)/\
   w'.os=w.os/\w'.tape=w.tape/\w'.output=w.output/\w.heap.size<=w'.heap.size/\∀b,b<w.heap.size->v.ownBlock≠some b->w'.heap[b]?=w.heap[b]?)
section
variable{P:Program}{Γ:tZ}{Q:Exit->St->Prop}{st:St}{κ κ':Nat->Option Value}{Θ Θ':Nat->Nat}{a:Act}{w w':World}{all:Array Oper}{rest:List Oper}
theorem O3.out{fn:Func}{d:D}{e:Exit}{a':Act}{w':World}{Mn:St}{κ0:Nat->Option Value}{Θ0:Nat->Nat}(hs0:dV Γ Mn κ0 Θ0 a' w')(WW:O3 P fn d e Mn):
 (e=.ret\/e=.normal)/\a'.defers=[]/\PU Γ w'/\∃v bs ts us,(results fn a'.tmps).run P w'=.ok v w'/\zE w' v d bs ts us/\∀b∈ts,xL Γ b:=by
 obtain⟨Aj,nz,ZM,es,ms,qs,hres,WX,Lu,Jv,rfl⟩:=WW;obtain⟨ρ0,ZW⟩:=hs0.rR;have AE:=vR WX;obtain⟨Θ1,ρ1,hs1,hu1,hm1,N7,R1⟩:=dV.FC ms hs0 ZW Lu (fun m hm=>by
  obtain⟨e,sz,rows,hH⟩:=AE.1 m hm;exact⟨_,e,sz,rows,hH,rfl⟩)
 obtain⟨vs,bs',m1,m2,m3,m4,m5⟩:=Bi hs0 hres;have hq:∀m e sz rows,Mn.H[m]?=some (.row .uq e sz rows)->∃v cs ns,κ0 m=some v/\0<sz/\(∀r∈rows,r.length=sz)/\w'.ownsRow 0 e sz v rows.length cs/\wK w' (tT e) 0 cs rows.flatten ns/\ns.Nodup/\(∀b∈ns,ρ1 b=m+1)/\∀g,v.ownBlock=some g->Θ1 g=m+2:=by
  intro m e sz rows hH;have hnm:m∉ms:=fun hm=>by
   obtain⟨e',sz',dO,DY⟩:=AE.1 m hm;rw[hH]at DY;cases DY
  have Ml:(kill Mn.H ms)[m]?=some (.row .uq e sz rows):=by rw[gC hnm];exact hH
  obtain⟨v,cs,ns,r1,r2,r3,r4,r5⟩:=hu1.rows m e sz rows Ml;obtain⟨p1,p2,v2,_,_,p3,_,_,p4,_⟩:=hs1.ob m _ Ml;rw[r1]at p3;cases p3;exact⟨v,cs,ns,r1,p1,p2,r2,r3,r4,r5,p4⟩
 obtain⟨c,ts,us,Bb,zj⟩:=yy (w:=w') (vs:=vs) (fun b hb=>(hu1.free b hb).1) hq hs0.o6 WX Jv (by omega) (fun i d hd=>by
  obtain⟨v,b,k1,k2,k3⟩:=m4 i d hd;exact⟨v,b,k1,k2,fun x hx=>N7 x (m5 x (k3 x hx))⟩) hm1
 have Jt:∃v,(results fn a'.tmps).run P w'=.ok v w'/\zE w' v (J1 es) c ts us:=by
  have hrun:(results fn a'.tmps).run P w'=.ok (if h:vs.toArray.size=1 then vs.toArray[0]else .tuple vs.toArray) w':=by
   rw[results_eq,mH];simp[m1]
  cases Bb with
  |nil=>exact⟨.tuple #[],by simpa using hrun,.gw [] [] [] [] [] .nil⟩
  |cons v vs d es b1 b2 t1 t2 u1 u2 hv qJ=>
   cases qJ with
   |nil=>
    simp only[dA];exact⟨v,by simpa using hrun,.v hv⟩
   |cons v2 vs d2 es b3 b4 t3 t4 u3 u4 GV qJ=>exact⟨.tuple (v::v2::vs).toArray,by simpa using hrun,.gw _ _ _ _ _ (.cons _ _ _ _ _ _ _ _ _ _ hv (.cons _ _ _ _ _ _ _ _ _ _ GV qJ))⟩
 obtain⟨v,Rk,Mz⟩:=Jt;refine⟨Aj,hs0.defers,hs0.stays,v,c,ts,us,Rk,Mz,fun b hb'=>?_⟩;obtain⟨⟨m,hm,hΘ⟩,_⟩:=zj.top b hb';exact hs1.mine b (by omega)
theorem GM.of{f:FuncId}{fn:Func}{c:Code}{ds:aL}{e sz:Nat}{rows dO:List aL}(hf:P.funcs[f]?=some fn)(hb:fn.body=some c)(hn:(fn.name== "runtime.NumGoroutine")=false)
 (hl:ds.length<=fn.ntmps) (hfl:dO.flatten.all D.flat=true) (h:rows.length<=maxLen->∀Γ:tZ,Γ.nt=fn.ntmps->AW P Γ c (O3 P fn (.fr e sz dO)) ⟨vl 0 ds,[.row .uq e sz rows]⟩) (hfe:Tn e=true:=by kernel_rfl):GM P f ds e sz rows dO:=by
 refine⟨⟨fn,hf,by simp[hb],hn⟩,?_⟩;intro w κ args v cs OK hlen hargs hk0 hk1 hone hsz hrl hown hrd;refine calls_of_wp hf hb ?_;let Θ:Nat->Nat:=fun b=>if v.ownBlock=some b then 2 else if b<w.heap.size then 1 else 0
 let Γ:tZ:=⟨w,Θ,fun b=>v.ownBlock=some b,fn.ntmps,fun _=>False,OK⟩
 have hlt:∀b,v.ownBlock=some b->b<w.heap.size:=fun b hb'=>(hown.lt b hb').2
 have CS:rows.length<=maxLen:=(iE.sl ⟨w,v,_,vB hrl hown hrd⟩).1;have hs:dV Γ ⟨vl 0 ds,[.row .uq e sz rows]⟩ κ Θ {tmps:=args.toArray++Array.replicate (fn.ntmps-args.toArray.size) undef,defers:=[]} w:=by
  refine⟨rfl,?_,fun i hi=>hk1 i (by simpa using hi),?_,?_,?_,?_,?_,?_,⟨rfl,rfl,rfl,bO _,fun _ _ _=>rfl⟩,⟨fun _=>0,by simp,?_,?_⟩⟩
  ·simp[Γ];omega
  ·intro id u hu;rcases Nat.eq_zero_or_pos id with rfl|hp
   ·rw[hk0]at hu;cases hu;exact hone
   ·rw[hk1 id hp]at hu;cases hu
  ·intro t;rw[Ep];simp only[ug,xK,vg];cases hd:ds[t]? with
   |none=>exact⟨[],.of (.any _),by simp⟩
   |some x=>
    obtain⟨u,k1,k2⟩:=hargs t x hd;refine⟨[],?_,by simp⟩;have hlt:t<args.length:=(aF.1 k1).1;have:(args.toArray++Array.replicate (fn.ntmps-args.toArray.size) undef).getD t undef=u:=by
     rw[cH,eX (by simpa using hlt)];simp[k1]
    rw[this];exact k2
  ·intro j o hj;cases j with
   |zero=>
    simp at hj;subst hj;exact⟨hsz,hrl,v,cs,[],hk0,hown,hrd,fun g hg=>by simp only[Θ];rw[bL hg],by simp⟩
   |succ j=>simp at hj
  ·intro b hb';simp only[Θ]at hb';split at hb'
   ·rename_i hv;exact hlt b hv
   ·split at hb'
    ·assumption
    ·exact absurd rfl hb'
  ·intro b hb' hx;refine⟨rfl,?_⟩;have hx':¬v.ownBlock=some b:=hx;simp only[Θ];rw[b8 hx'];split<;>omega
  ·intro b hb';simp only[Θ]at hb';split at hb'
   ·rename_i hv;exact .inr hv
   ·split at hb'<;>omega
  ·intro id e' sz' dJ hj;cases id with
   |zero=>
    simp at hj;obtain⟨rfl,rfl,rfl⟩:=hj;exact⟨v,cs,[],hk0,hown,.of hrd (wv (Bl hfe)),by simp,by simp⟩
   |succ j=>simp at hj
  ·intro id o hj;cases id with
   |zero=>simp at hj;subst hj;exact JQ.wF rfl
   |succ j=>simp at hj
 refine wp_mono (h CS Γ rfl _ _ _ _ hs) ?_;rintro x a' w' ⟨Mn,κ0,Θ0,hs0,WW⟩;obtain⟨Aj,hdf,hst,u,bs,ts,us,hrun,hres,NT⟩:=O3.out hs0 WW;have Jt:∃u cs',(results fn a'.tmps).run P w'=.ok u w'/\u.oneCell'=true/\(∀r∈dO,r.length=sz)/\w'.ownsRow 0 e sz u dO.length cs'/\mR w' cs' dO.flatten []/\(∀g,u.ownBlock=some g->w.heap.size<=g\/v.ownBlock=some g)/\
  w'.os=w.os/\w'.tape=w.tape/\w'.output=w.output/\w.heap.size<=w'.heap.size/\∀b,b<w.heap.size->v.ownBlock≠some b->w'.heap[b]?=w.heap[b]?:=by
  cases hres with
  |v hv=>
   cases hv with
   |cell hc=>
    cases hc with
    |pure hc=>cases hc
    |fr _ _ _ cs' ns h1 h2 h3 h4 h5=>
     have:=h4.rd.flat hfl;subst this;exact⟨u,cs',hrun,h5,h2,h3,h4.rd,fun g hg=>NT g (by simp[hg]),hst.os,hst.tape,hst.output,hst.size,fun b hb' hx=>hst.block b hb' hx⟩
 obtain⟨u,cs',q1,q2⟩:=Jt;have post:a'.defers=[]/\∃v',(results fn a'.tmps).run P w'=.ok v' w'/\∃v2 Yb,Ending.returned v'=.returned v2/\v2.oneCell'=true/\(∀r∈dO,r.length=sz)/\w'.ownsRow 0 e sz v2 dO.length Yb/\mR w' Yb dO.flatten []/\(∀g,v2.ownBlock=some g->w.heap.size<=g\/v.ownBlock=some g)/\
  w'.os=w.os/\w'.tape=w.tape/\w'.output=w.output/\w.heap.size<=w'.heap.size/\∀b,b<w.heap.size->v.ownBlock≠some b->w'.heap[b]?=w.heap[b]?:=⟨hdf,u,q1,u,cs',rfl,q2⟩
 rcases Aj with rfl|rfl
 ·exact post
 ·exact post
theorem VL{o:Oper}{f t id:Nat}{xs:Array Operand}{ts:Array TypeId}{e sz:Nat}{rows dO:List aL}(hop:o.op=.call {callee:=.value (.func f),args:=xs,argTypes:=ts})(hd:o.dst=some t)(hg:o.guard=none)
 (ht:t<Γ.nt) (hH:st.H[id]?=some (.row .uq e sz rows)) (hfe:Tn e=true) (hfl:rows.flatten.all D.flat=true) (hb:((xs.toList.map st.ev).all D.bare)=true) (nQ:GM P f ((xs.toList.map st.ev).map (D.Ta [id])) e sz rows dO)
 (h:AO P Γ all rest Q ⟨(t,.acc st.H.length)::st.σ,kill st.H [id]++[.row .uq e sz dO]⟩):AO P Γ all (o::rest) Q st:=by
 intro κ Θ a w hs;obtain⟨hsz,hrl,v,cs,bs,hk,hown,hrd,Eg,_⟩:=hs.ob id _ hH;have Df:=hrd.flat hfl;subst Df;have UG:id<st.H.length:=(aF.1 hH).1;let κc:Nat->Option Value:=fun j=>if j=0 then some v else none
 have OK:Ms w fun b=>v.ownBlock=some b:=by
  obtain⟨B,v1,v2⟩:=hs.vsb;refine⟨B,v1,fun b hB=>⟨(v2 b hB).2.1,fun hb'=>?_⟩⟩;have e1:=Eg b hb';rcases hs.mine b (by omega)with q|q
  ·have:=(v2 b hB).1;omega
  ·exact(v2 b hB).2.2 q
 have hargs:∀(i:Nat) d,((xs.toList.map st.ev).map (D.Ta [id]))[i]?=some d->∃u,(xs.toList.map a.eval)[i]?=some u/\rS w κc u d []:=by
  intro i d GS;rw[bu,bu]at GS;cases hx:xs.toList[i]? with
  |none=>rw[hx]at GS;cases GS
  |some x=>
   rw[hx]at GS;simp only[cU,aj]at GS;subst GS;refine⟨a.eval x,by rw[bu,hx];rfl,?_⟩;obtain⟨bs,r,hz⟩:=hs.ev x;have Vy:(st.ev x).bare=true:=ai.1 hb _ (cA.2 ⟨x,aD hx,rfl⟩);obtain⟨b',r',_⟩:=rS.rn (o:=[id]) (κ':=κc) (Θ:=fun _=>0) (Θ':=fun _=>0) (fun i j u h1 h2=>by
    have h3:=Oj h1;cases j with
    |zero=>simp at h3;subst h3;rw[hk]at h2;simpa[κc]using h2
    |succ j=>simp at h3) (fun _ _=>rfl) r (fun _ _=>rfl)
   have:=r'.Sm (D.Sn [id] Vy);subst this;exact r'
 have hc:=nQ.2 w κc (xs.toList.map a.eval) v cs OK (by simp) hargs (by simp[κc]) (fun i hi=>by simp only[κc];rw[b8 (by omega)]) (hs.o6 id v hk) hsz hrl hown hrd;refine wpList_plain hg fun K hK=>?_
 unfold Oper.wp;rw[wG hop nQ.1,Oper.upon_enter];have e0:xs.map a.eval=(xs.toList.map a.eval).toArray:=by rw[<-gm,k6]
 rw[e0];refine hc.mono ?_;rintro x w' ⟨v',cs',rfl,hone,Il,Cm,N0,L3,h1,h2,h3,h4,Lo⟩;show K (a.put o.dst v') w';rw[hd];let n:=st.H.length
 let Θ':Nat->Nat:=fun b=>if some b=v'.ownBlock then n+2 else Θ b
 have Yh:∀g,v'.ownBlock=some g->Θ g=id+2\/w.heap.size<=g:=by
  intro g UF;rcases L3 g UF with h|h
  ·exact .inr h
  ·exact .inl (Eg g h)
 have k:iF w w' Θ Θ' (id+2):=by
  refine⟨by omega,h1,h2,h3,h4,fun b hb hne=>Lo b hb (fun e=>hne (Eg b e)),fun b hb hne=>?_,fun b hb=>?_⟩
  ·simp only[Θ'];rw[b8];intro e;rcases Yh b e.symm with h|h
   ·exact hne h
   ·omega
  ·simp only[Θ']at hb;split at hb
   ·rename_i e;exact(Cm.lt b e.symm).2
   ·exact cq (hs.own b hb) h4
 have hm:∀b,2<=Θ' b->xL Γ b:=by
  intro b hb;simp only[Θ']at hb;split at hb
  ·rename_i e;rcases Yh b e.symm with h|h
   ·exact hs.mine b (by omega)
   ·exact .inl (dh hs.base h)
  ·exact hs.mine b hb
 have hn:=wJ (hs.ol n (bO _)) (some v');obtain⟨ρ,hu⟩:=hs.rR;have s8:=hs.nT k hn hu;have key:∀(j:Nat) y,(kill st.H [id]++[.row .uq e sz dO])[j]?=some y->(j=n/\y=.row .uq e sz dO)\/(j≠n/\(y=.gone\/(j∉[id]/\st.H[j]?=some y))):=by
  intro j y hj;rcases zu j y hj with⟨h1,h2⟩|⟨h1,h2⟩
  ·rw[fX]at h1;exact .inl ⟨h1,h2⟩
  ·rw[fX]at h1;exact .inr ⟨h1,oG h2⟩
 have hs':dV Γ ⟨st.σ,kill st.H [id]++[.row .uq e sz dO]⟩ (xD κ n (some v')) Θ' a w':=by
  refine hs.step k hm hn ?_ ?_ ?_ ⟨ρ,s8.1,fun j e' sz' dJ hj=>?_,fun j y hj=>?_⟩
  ·intro i hi;simp only[ar,aT,bW,fX]at hi;unfold xD;rw[b8 (by omega)];exact hs.ol i (by omega)
  ·intro i y hy;unfold xD at hy;split at hy
   ·cases hy;exact hone
   ·exact hs.o6 i y hy
  ·intro j y hj;rcases key j y hj with⟨rfl,rfl⟩|⟨_,hy|⟨hjk,hy⟩⟩
   ·exact .inr (.inr ⟨hsz,Il,v',cs',[],jD _ _ _,Cm,N0,fun g UF=>by simp only[Θ'];rw[bL UF.symm],by simp⟩)
   ·exact .inl hy
   ·exact .inr (.inl ⟨fun e=>hjk (by simp;omega),hy⟩)
  ·rcases key j _ hj with⟨rfl,hy⟩|⟨_,hy|⟨hjk,hy⟩⟩
   ·simp only[Ob.row.injEq,qt]at hy;obtain⟨rfl,rfl,rfl⟩:=hy;exact⟨v',cs',[],jD _ _ _,Cm,.of N0 (wv (Bl hfe)),by simp,by simp⟩
   ·cases hy
   ·exact s8.2.1 j e' sz' dJ (fun e=>hjk (by simp;omega)) hy
  ·rcases key j _ hj with⟨rfl,hy⟩|⟨_,hy|⟨hjk,hy⟩⟩
   ·subst hy;exact JQ.wF rfl
   ·subst hy;trivial
   ·exact s8.2.2 j y (fun e=>hjk (by simp;omega)) hy
 refine hK _ _ (h _ _ _ _ (hs'.set (t:=t) (d:=.acc n) (bs:=[]) ht ?_ (by simp)));exact(yQ.acc n _ (jD _ _ _)).Nk
end
end Go.Cx
namespace Go.Cx
open Go.RowKit
def gx(P:Program)(f:FuncId)(cells cells':aL)(ds:aL)(d:D):Prop:=
 (∃fn,P.funcs[f]?=some fn/\fn.body.isSome=true/\(fn.name== "runtime.NumGoroutine")=false)/\
 ∀(w:World) (Θ:Nat->Nat) (g:Nat) (cs:Array Value) (T:TypeId) (args:bZ) (bs ts us:aW),
  Ms w (fun b=>b=g\/b∈ts)->w.heap[g]?=some (.cells cs T (0,0))->AH w (.agg cs::args) (.agg cells::ds) bs ts us->
  (∀b∈bs,Θ b=0)->(∀b,Θ b≠0->b<w.heap.size)->(∀b,Θ b<=1)->Θ g=1->(∀b∈ts,Θ b=1/\b∈us/\b≠g)->us.Nodup->(∀b∈us,(b∉ts->Θ b=0)/\Wr w b)->
  Calls P f (.pointer (some ⟨g,0,none⟩)::args).toArray w (fun e w'=>∃v cs' T' b2 t2 u2 b3 t3 u3,e=.returned v/\w'.os=w.os/\w'.tape=w.tape/\w'.output=w.output/\w.heap.size<=w'.heap.size/\
   (∀b,b<w.heap.size->b≠g->b∉ts->w'.heap[b]?=w.heap[b]?)/\w'.heap[g]?=some (.cells cs' T' (0,0))/\(cs.size=3->cs'.size=3/\cs'[0]?=cs[0]?)/\
   zE w' v d b2 t2 u2/\tK w' cs'.toList cells' b3 t3 u3/\(∀b∈b3++b2,(b<w.heap.size->Θ b=0\/b∈ts)/\b≠g/\b∉t3++t2)/\(u3++u2).Nodup/\
   (∀b∈u3++u2,(w.heap.size<=b\/b∈us)/\b≠g/\Wr w' b)/\∀b∈t3++t2,b∈u3++u2/\(w.heap.size<=b\/b∈ts))
section
variable{P:Program}{Γ:tZ}{Q:Exit->St->Prop}{st:St}{κ κ':Nat->Option Value}{Θ Θ':Nat->Nat}{a:Act}{w w':World}{all:Array Oper}{rest:List Oper}
theorem FL.Va{cs:Array Value}{ds:aL}{bs ts us:aW}(h:FL w (.agg cs) (.agg ds) bs ts us):tK w cs.toList ds bs ts us:=by
 generalize hv:Value.agg cs=v at h;cases h with
 |cell h=>
  cases h with
  |pure h=>
   cases h with
   |agg l _ _ h=>cases hv;simpa using tK.Co h
 |agg l _ _ _ _ h=>cases hv;simpa using h
theorem LJ.Va{cs:Array Value}{ds:aL}{bs:aW}(h:LJ w κ (.agg cs) (.agg ds) bs):fH w κ cs.toList ds bs:=by
 generalize hv:Value.agg cs=v at h;cases h with
 |cell h=>
  cases h with
  |pure h=>
   cases h with
   |agg l _ _ h=>cases hv;simpa using fH.Co h
 |agg l _ _ h=>cases hv;simpa using h
theorem FK.shown{v:Value}{d:D}{bs ts us:aW}(h:FK w v d bs ts us):∃b,Rd w v d.Yl b:=by
 cases h with
 |pure h=>
  have e:d.Yl=d:=by cases h<;>rfl
  exact⟨_,e.symm▸h⟩
 |fr e sz rows cs ns h1 h2 h3 h4 h5=>exact⟨_,vB h2 h3 h4.rd⟩
theorem tK.shown{vs:bZ}{ds:aL}{bs ts us:aW}(h:tK w vs ds bs ts us):∃b,mR w vs (ds.map D.Yl) b:=by
 induction h with
 |nil=>exact⟨_,.nil⟩
 |cons v vs d ds b1 b2 t1 t2 u1 u2 h1 h2 _ ih=>
  obtain⟨b,q⟩:=h2.shown;obtain⟨b',q'⟩:=ih;exact⟨_,.cons _ _ _ _ _ _ h1 q q'⟩
theorem FL.shown{v:Value}{d:D}{bs ts us:aW}(h:FL w v d bs ts us):iE d.VC:=by
 cases h with
 |cell h=>
  by_cases tF:∃ds,d=.agg ds
  ·obtain⟨ds,rfl⟩:=tF;cases h with
   |pure h=>cases h with
    |agg cs _ _ h=>
     obtain⟨b,q⟩:=(tK.Co h).shown;exact⟨w,_,_,.agg _ _ _ q⟩
  ·have e:d.VC=d.Yl:=by cases d<;>first|rfl|exact absurd ⟨_,rfl⟩ tF
   rw[e];obtain⟨b,q⟩:=h.shown;exact⟨w,_,_,q⟩
 |agg cs ds bs ts us h=>
  obtain⟨b,q⟩:=h.shown;exact⟨w,_,_,.agg _ _ _ q⟩
theorem AH.shown{vs:bZ}{ds:aL}{bs ts us:aW}(h:AH w vs ds bs ts us):∀d∈ds.map D.VC,iE d:=by
 induction h with
 |nil=>intro d hd;cases hd
 |cons v vs d ds b1 b2 t1 t2 u1 u2 h2 _ ih=>
  intro x hx;rcases bE.1 hx with rfl|hx
  ·exact h2.shown
  ·exact ih x hx
def Kf(L:oA)(b:Nat):Option Nat:=ix (fun x:Fs=>x.v.ownBlock==some b) L
def tA(L:oA)(b:Nat):Option Nat:=ix (fun x:Fs=>x.ns.contains b) L
theorem JD{L:oA}(hnd:(L.flatMap Fs.bl).Nodup){i:Nat}{x:Fs}{b:Nat}(hi:L[i]?=some x)(hb:x.v.ownBlock=some b):Kf L b=some i:=
 Ej hi (by simp[hb]) (fun j y hj hy=>by
  simp only[cV]at hy;exact vP hnd j i y x b hj hi (by simp[Fs.bl,hy]) (by simp[Fs.bl,hb]))
theorem SN{L:oA}{b i:Nat}(h:Kf L b=some i):b∈L.flatMap Fs.ts:=by
 obtain⟨x,hx,hp⟩:=ym h;exact bg.2 ⟨x,aD hx,by simp only[cV]at hp;simp[Fs.ts,hp]⟩
theorem xA{L:oA}{b:Nat}(h:b∉L.flatMap Fs.ts):Kf L b=none:=by
 cases hb:Kf L b with
 |none=>rfl
 |some i=>exact absurd (SN hb) h
theorem C0{L:oA}(hnd:(L.flatMap Fs.bl).Nodup){i:Nat}{x:Fs}{b:Nat}(hi:L[i]?=some x)(hb:b∈x.ns):tA L b=some i:=
 Ej hi (by simpa using hb) (fun j y hj hy=>vP hnd j i y x b hj hi (by simp only[Fs.bl];exact aU.2 (.inr (by simpa using hy))) (by simp only[Fs.bl];exact aU.2 (.inr hb)))
theorem td{L:oA}{b i:Nat}(h:tA L b=some i):∃x,L[i]?=some x/\b∈x.ns:=by
 obtain⟨x,hx,hp⟩:=ym h;exact⟨x,hx,by simpa using hp⟩
theorem Dl{L:oA}{b:Nat}(h:b∈L.flatMap Fs.ts):b∈L.flatMap Fs.bl:=by
 obtain⟨x,hx,Aw⟩:=bg.1 h;exact bg.2 ⟨x,hx,by simp only[Fs.bl,Fs.ts]at Aw⊢;exact aU.2 (.inl Aw)⟩
theorem s9{L:oA}{i b:Nat}{x:Fs}(h:L[i]?=some x)(hb:b∈x.ns):b∈L.flatMap Fs.bl:=
 bg.2 ⟨x,aD h,by simp only[Fs.bl];exact aU.2 (.inr hb)⟩
theorem Pg{L:oA}(hnd:(L.flatMap Fs.bl).Nodup):∀x∈L,x.bl.Nodup:=by
 induction L with
 |nil=>intro x hx;cases hx
 |cons z r ih=>
  intro x hx;simp only[cm]at hnd;obtain⟨n1,n2,_⟩:=bH.1 hnd;rcases bE.1 hx with rfl|hx
  ·exact n1
  ·exact ih n2 x hx
theorem CU{L:oA}(hnd:(L.flatMap Fs.bl).Nodup){i b:Nat}{x:Fs}(h:L[i]?=some x)(hb:b∈x.ns):b∉L.flatMap Fs.ts:=by
 intro ht;obtain⟨y,hy,hby⟩:=bg.1 ht;obtain⟨j,hj⟩:=eL hy;have:=vP hnd j i y x b hj h (by simp only[Fs.bl,Fs.ts]at hby⊢;exact aU.2 (.inl hby)) (by simp only[Fs.bl];exact aU.2 (.inr hb));subst this;rw[hj]at h;cases h;have Ik:=Pg hnd x hy;simp only[Fs.bl]at Ik;exact(bH.1 Ik).2.2 b hby b hb rfl
theorem Ix{L:oA}(hnd:(L.flatMap Fs.bl).Nodup){i:Nat}{x:Fs}(h:L[i]?=some x):x.ns.Nodup:=by
 have:=Pg hnd x (aD h);simp only[Fs.bl]at this;exact(bH.1 this).2.1
def VX(P:Program)(fn:Func)(v0:Value)(cells':aL)(d:D)(e:Exit)(st:St):Prop:=
 (e=.ret\/e=.normal)/\∃nz ZM O8 es ms qs,GZ P st fn.results.toList=some ZM/\st.H[0]?=some (.zq O8 v0)/\
  zw st.H nz (.agg O8::ZM)=some (.agg cells'::es,ms,qs)/\ms.Nodup/\qs.Nodup/\J1 es=d
theorem VX.out{fn:Func}{v0:Value}{cells':aL}{d:D}{e:Exit}{a':Act}{w':World}{Mn:St}{κ0:Nat->Option Value}{Θ0:Nat->Nat}(hs0:dV Γ Mn κ0 Θ0 a' w')(WW:VX P fn v0 cells' d e Mn):
 (e=.ret\/e=.normal)/\a'.defers=[]/\PU Γ w'/\∃v g cs' T b2 t2 u2 b3 t3 u3,(results fn a'.tmps).run P w'=.ok v w'/\TY v0=.pointer (some ⟨g,0,none⟩)/\w'.heap[g]?=some (.cells cs' T (0,0))/\(∀c,Ek v0=some c->cs'.size=3/\cs'[0]?=some c)/\
  zE w' v d b2 t2 u2/\tK w' cs'.toList cells' b3 t3 u3/\(∀b∈b3++b2,(b<Γ.W0.heap.size->¬Γ.X b->Γ.Θ0 b=0)/\b≠g/\b∉t3++t2)/\(u3++u2).Nodup/\
  (∀b∈u3++u2,Sd Γ b/\b≠g/\Wr w' b)/\∀b∈t3++t2,b∈u3++u2/\xL Γ b:=by
 obtain⟨Aj,nz,ZM,O8,es,ms,qs,hres,hH0,WX,Lu,Jv,rfl⟩:=WW;obtain⟨ρ0,ZW⟩:=hs0.rR;have AE:=vR WX;obtain⟨Θ1,ρ1,hs1,hu1,hm1,N7,R1⟩:=dV.FC ms hs0 ZW Lu (fun m hm=>by
  obtain⟨e,sz,rows,hH⟩:=AE.1 m hm;exact⟨_,e,sz,rows,hH,rfl⟩)
 obtain⟨vs,bs',m1,m2,m3,m4,m5⟩:=Bi hs0 hres;have hq:∀m e sz rows,Mn.H[m]?=some (.row .uq e sz rows)->∃v cs ns,κ0 m=some v/\0<sz/\(∀r∈rows,r.length=sz)/\w'.ownsRow 0 e sz v rows.length cs/\wK w' (tT e) 0 cs rows.flatten ns/\ns.Nodup/\(∀b∈ns,ρ1 b=m+1)/\∀g,v.ownBlock=some g->Θ1 g=m+2:=by
  intro m e sz rows hH;have hnm:m∉ms:=fun hm=>by
   obtain⟨e',sz',dO,DY⟩:=AE.1 m hm;rw[hH]at DY;cases DY
  have Ml:(kill Mn.H ms)[m]?=some (.row .uq e sz rows):=by rw[gC hnm];exact hH
  obtain⟨v,cs,ns,r1,r2,r3,r4,r5⟩:=hu1.rows m e sz rows Ml;obtain⟨p1,p2,v2,_,_,p3,_,_,p4,_⟩:=hs1.ob m _ Ml;rw[r1]at p3;cases p3;exact⟨v,cs,ns,r1,p1,p2,r2,r3,r4,r5,p4⟩
 have h0m:0∉ms:=fun hm=>by
  obtain⟨e',sz',dO,DY⟩:=AE.1 0 hm;rw[hH0]at DY;cases DY
 have h0q:0∉qs:=fun hm=>by
  obtain⟨e',sz',dO,DY⟩:=AE.2 0 hm;rw[hH0]at DY;cases DY
 obtain⟨hv0,g,cs',T,hk0,hg,ON,bb,hbb,hbz⟩:=hs1.ob 0 _ (show(kill Mn.H ms)[0]?=_ by rw[gC h0m];exact hH0);have a4w:∀c,Ek v0=some c->cs'.size=3/\cs'[0]?=some c:=fun c hc=>hv0.2 c hc g cs' T hk0 hg
 have hv0:=hv0.1;have e0:TY v0=.pointer (some ⟨g,0,none⟩):=by rw[hv0]at hk0;exact lq hk0
 have ON:Θ1 g=2:=ON;obtain⟨c,tt,uu,Bb,zj⟩:=yy (w:=w') (vs:=.agg cs'::vs) (fun b hb=>(hu1.free b hb).1) hq hs0.o6 WX Jv (by simp;omega) (fun i d hd=>by
  cases i with
  |zero=>
   simp at hd;subst hd;have:=LJ.agg _ _ _ hbb;exact⟨_,bb,rfl,.v (by simpa using this),hbz⟩
  |succ i=>
   obtain⟨v,b,k1,k2,k3⟩:=m4 i d (by simpa using hd);exact⟨v,b,by simpa using k1,k2,fun x hx=>N7 x (m5 x (k3 x hx))⟩) hm1
 cases Bb with
 |cons _ _ _ _ b3 b2 t3 t2 u3 u2 W7 qJ=>
 have Jt:∃v,(results fn a'.tmps).run P w'=.ok v w'/\zE w' v (J1 es) b2 t2 u2:=by
  have hrun:(results fn a'.tmps).run P w'=.ok (if h:vs.toArray.size=1 then vs.toArray[0]else .tuple vs.toArray) w':=by
   rw[results_eq,mH];simp[m1]
  cases qJ with
  |nil=>exact⟨.tuple #[],by simpa using hrun,.gw [] [] [] [] [] .nil⟩
  |cons v vs d es b1 b2 t1 t2 u1 u2 hv qJ=>
   cases qJ with
   |nil=>
    simp only[dA];exact⟨v,by simpa using hrun,.v hv⟩
   |cons v2 vs d2 es b3 b4 t3 t4 u3 u4 GV qJ=>exact⟨.tuple (v::v2::vs).toArray,by simpa using hrun,.gw _ _ _ _ _ (.cons _ _ _ _ _ _ _ _ _ _ hv (.cons _ _ _ _ _ _ _ _ _ _ GV qJ))⟩
 obtain⟨v,Rk,Mz⟩:=Jt;have Eg:∀b∈t3++t2,Wr w' b:=by
  intro b hb;rcases aU.1 hb with hb|hb
  ·exact LL W7 b hb
  ·exact LK Mz b hb
 refine⟨Aj,hs0.defers,hs0.stays,v,g,cs',T,b2,t2,u2,b3,t3,u3,Rk,e0,hg,a4w,Mz,W7.Va,fun b hb=>⟨fun hlt hx=>?_,fun e=>?_,fun ht=>?_⟩,zj.nd,fun b hb=>?_,fun b hb=>?_⟩
 ·have:=zj.zero b hb;rw[<-(hs1.old b hlt hx).1];exact this
 ·have:=zj.zero b hb;subst e;omega
 ·obtain⟨⟨m,_,hΘ⟩,_⟩:=zj.top b ht;have:=zj.zero b hb;omega
 ·rcases zj.mem b hb with h|⟨m,hm,hρ⟩
  ·obtain⟨⟨m,hm,hΘ⟩,_⟩:=zj.top b h;refine⟨.inl (hs1.mine b (by omega)),fun e=>?_,Eg b h⟩;subst e;rw[ON]at hΘ;have:m=0:=by omega
   subst this;exact h0q hm
  ·have:=hu1.free b (by omega);refine⟨this.2.1,fun e=>?_,this.2.2⟩;have h0:=this.1;subst e;omega
 ·obtain⟨⟨m,hm,hΘ⟩,h2⟩:=zj.top b hb;exact⟨h2,hs1.mine b (by omega)⟩
theorem By.len{vs:bZ}{ds:aL}{bs:aW}(h:By w κ vs ds bs):vs.length=ds.length:=by
 induction h with
 |nil=>rfl
 |cons v vs d ds b1 b2 h1 _ ih=>simp[ih]
def VW(Γ:tZ)(u:Value)(rows:List aL):Prop:=
 (∀b,¬Γ.U b)/\∃c bs,Ek u=some c/\Rd Γ.W0 c (.sl rows) bs/\∀b∈bs,b<Γ.W0.heap.size/\¬Γ.X b/\Γ.Θ0 b=0
theorem gx.of{f:FuncId}{fn:Func}{c:Code}{cells cells' yA ds KK:aL}{obs:bP}{d:D}(hf:P.funcs[f]?=some fn)(hb:fn.body=some c)(hn:(fn.name== "runtime.NumGoroutine")=false)
 (hI:yG 1 (.agg cells::ds)=(.agg yA::KK,obs)) (hl:KK.length+1<=fn.ntmps)
 (h:(∀x∈(D.agg cells::ds).map D.VC,iE x)->∀(v0:Value) (Γ:tZ),Γ.nt=fn.ntmps->(obs=[]->yA.length=3->∀rows,yA[0]?=some (.sl rows)->VW Γ v0 rows)->AW P Γ c (VX P fn v0 cells' d) ⟨vl 0 (.ptr 0 0::KK),.zq yA v0::obs⟩):gx P f cells cells' ds d:=by
 refine⟨⟨fn,hf,by simp[hb],hn⟩,?_⟩;intro w Θ g cs T args bs ts us hvs hg hargs hz hown h1 hg1 hts hnd s8;have Rl:=hargs.shown;obtain⟨L,q1,q2,rfl,rfl,q5⟩:=hargs.inst 1;rw[hI]at q1 q5;have q1:L.map Fs.ob=obs:=q1;refine calls_of_wp hf hb ?_;let v0:Value:=.pointer (some ⟨g,0,none⟩)
 let u0:Value:=if cs.size=3 then .tuple ⟨[v0,cs.toList.headD undef]⟩else v0
 let κ0:Nat->Option Value:=fun i=>if i=0 then some v0 else(L[i-1]?).map Fs.v
 let Θ0:Nat->Nat:=fun b=>if b=g then 2 else match Kf L b with|some i=>i+3|none=>Θ b
 let ρ0:Nat->Nat:=fun b=>match tA L b with|some i=>i+2|none=>0
 let Γ:tZ:=⟨w,Θ0,fun b=>b=g\/b∈L.flatMap Fs.ts,fn.ntmps,fun b=>b∈L.flatMap Fs.bl,hvs⟩
 have hgl:g<w.heap.size:=(bC.1 hg).1;have hk0:κ0 0=some v0:=rfl;have hkS:∀i x,L[i]?=some x->κ0 (i+1)=some x.v:=fun i x hx=>by simp[κ0,hx]
 have hnm:Names κ0 1 L:=fun i x hx=>by rw[Nat.add_comm];exact hkS i x hx
 have hrd:=q5 κ0 hnm;have hlen:=hrd.len;have NU:∀(i:Nat) x b,L[i]?=some x->x.v.ownBlock=some b->b∈L.flatMap Fs.ts:=fun i x b hx hb'=>bg.2 ⟨x,aD hx,by simp[Fs.ts,hb']⟩
 have Rp:∀(i:Nat) x b,L[i]?=some x->x.v.ownBlock=some b->Θ0 b=i+3:=by
  intro i x b hx hb';have:=(hts b (NU i x b hx hb')).2.2;simp only[Θ0,JD hnd hx hb'];rw[b8 this]
 have UH:∀b,Θ b=0->Θ0 b=0:=by
  intro b h0;have e1:b≠g:=fun e=>by subst e;omega
  have e2:b∉L.flatMap Fs.ts:=fun e=>by have:=(hts b e).1;omega
  simp only[Θ0,xA e2];rw[b8 e1,h0]
 have WR:∀(i:Nat) x b,L[i]?=some x->b∈x.ns->Θ0 b=0:=fun i x b hx hb'=>UH b ((s8 b (s9 hx hb')).1 (CU hnd hx hb'))
 have zl:∀b,Θ0 b≠Θ b->b=g\/b∈L.flatMap Fs.ts:=by
  intro b hne;by_cases e:b=g
  ·exact .inl e
  ·refine .inr (dR fun ht=>hne ?_);simp only[Θ0,xA ht];rw[b8 e]
 have Rc:∀(j:Nat) o,obs[j]?=some o->∃x,L[j]?=some x/\o=x.ob:=by
  intro j o hj;rw[<-q1,bu]at hj;cases hx:L[j]? with
  |none=>simp[hx]at hj
  |some x=>simp[hx]at hj;exact⟨x,rfl,hj.symm⟩
 have WS:obs.length=L.length:=by rw[<-q1];simp
 have W7:∃b',fH w κ0 cs.toList yA b'/\∀b∈b',Θ0 b=0:=by
  obtain⟨v,b',k1,k2,k3⟩:=hrd.at (i:=0) (d:=.agg yA) rfl;simp at k1;subst k1;exact⟨b',k2.Va,fun b hb'=>UH b (hz b (k3 b hb'))⟩
 have hpt:TY u0=v0:=by simp only[u0];split<;>rfl
 have hkp:∀c,Ek u0=some c->cs.size=3/\cs[0]?=some c:=by
  intro c hc;simp only[u0]at hc;split at hc
  ·rename_i h3;refine⟨h3,?_⟩;simp only[Ek,aj]at hc;have V8:cs.toList.length=3:=by simpa using h3
   rw[<-jY];cases hcl:cs.toList with
   |nil=>rw[hcl]at V8;simp at V8
   |cons x xs=>rw[hcl]at hc;simp only[List.headD_cons]at hc;subst hc;rfl
  ·cases hc
 have a4z:cs.size=3->∃c,Ek u0=some c/\cs[0]?=some c:=by
  intro h3;have:Ek u0=some (cs.toList.headD undef):=by simp only[u0];rw[bL h3];rfl
  exact⟨_,this,(hkp _ this).2⟩
 have hs:dV Γ ⟨vl 0 (.ptr 0 0::KK),.zq yA u0::obs⟩ κ0 Θ0 {tmps:=(v0::args).toArray++Array.replicate (fn.ntmps-(v0::args).toArray.size) undef,defers:=[]} w:=by
  refine⟨rfl,?_,fun i hi=>?_,?_,?_,?_,?_,?_,?_,⟨rfl,rfl,rfl,bO _,fun _ _ _=>rfl⟩,⟨ρ0,?_,?_,?_⟩⟩
  ·simp only[aT]at hlen;simp[Γ];omega
  ·simp only[aT]at hi;simp only[κ0];rw[b8 (by omega),cQ (by omega)];rfl
  ·intro id u hu;simp only[κ0]at hu;split at hu
   ·cases hu;rfl
   ·cases hx:L[id-1]? with
    |none=>simp[hx]at hu
    |some x=>simp[hx]at hu;subst hu;exact(q2 x (aD hx)).2.2.2.2
  ·intro t;rw[Ep];simp only[ug,xK,vg];have TB:∀v,(v0::args)[t]?=some v->((v0::args).toArray++Array.replicate (fn.ntmps-(v0::args).toArray.size) undef).getD t undef=v:=by
    intro v hv;have hlt:=(aF.1 hv).1;rw[cH,eX (by simpa using hlt)];simp only[hY,hv,tY]
   cases t with
   |zero=>
    refine⟨[],?_,by simp⟩;rw[TB v0 rfl];exact .v (.cell (.ptr 0 0 g hk0))
   |succ s=>
    rw[ff];cases hd:KK[s]? with
    |none=>exact⟨[],.of (.any _),by simp⟩
    |some x=>
     obtain⟨v,b',k1,k2,k3⟩:=hrd.at (i:=s+1) (d:=x) (by simpa using hd);rw[TB v (by simpa using k1)];exact⟨b',.v k2,fun b hb'=>UH b (hz b (k3 b hb'))⟩
  ·intro j o hj;cases j with
   |zero=>
    simp at hj;subst hj;obtain⟨b',k1,k2⟩:=W7;refine⟨⟨by rw[hpt];exact hk0,fun c hc g2 Yb T2 hk2 TA=>?_⟩,g,cs,T,hk0,hg,by simp[Θ0],b',k1,k2⟩;have e3:Value.pointer (some ⟨g,0,none⟩)=.pointer (some ⟨g2,0,none⟩):=lq (hk0.symm.trans hk2);cases e3;rw[hg]at TA;cases TA;exact hkp c hc
   |succ j=>
    obtain⟨x,hx,rfl⟩:=Rc j o (by simpa using hj);obtain⟨p1,p2,p3,p4,_⟩:=q2 x (aD hx);exact⟨p1,p2,x.v,x.cs,x.ns,hkS j x hx,p3,p4.rd,fun b hb'=>Rp j x b hx hb',fun b hb'=>WR j x b hx hb'⟩
  ·intro b hb';by_cases e:Θ0 b=Θ b
   ·exact hown b (by rw[<-e];exact hb')
   ·rcases zl b e with rfl|ht
    ·exact hgl
    ·exact hown b (by have:=(hts b ht).1;omega)
  ·intro b hlt hx;refine⟨rfl,?_⟩;have e:Θ0 b=Θ b:=dR fun e=>hx (zl b e)
   rw[e];exact h1 b
  ·intro b hb';refine .inr (zl b fun e=>?_);have:=h1 b;omega
  ·intro b hb';cases V7:tA L b with
   |none=>simp[ρ0,V7]at hb'
   |some i=>
    obtain⟨x,hx,Aw⟩:=td V7;exact⟨WR i x b hx Aw,.inr (s9 hx Aw),(s8 b (s9 hx Aw)).2⟩
  ·intro id e sz rows hj;cases id with
   |zero=>simp at hj
   |succ j=>
    obtain⟨x,hx,Rf⟩:=Rc j _ (by simpa using hj);simp only[Fs.ob,Ob.row.injEq,qt]at Rf;obtain⟨rfl,rfl,rfl⟩:=Rf;obtain⟨p1,p2,p3,p4,_⟩:=q2 x (aD hx);exact⟨x.v,x.cs,x.ns,hkS j x hx,p3,p4,Ix hnd hx,fun b hb'=>by simp[ρ0,C0 hnd hx hb']⟩
  ·intro id o hj;cases id with
   |zero=>simp at hj;subst hj;trivial
   |succ j=>
    obtain⟨x,hx,Rf⟩:=Rc j _ (by simpa using hj);subst Rf;exact JQ.wF rfl
 have hold:obs=[]->yA.length=3->∀rows,yA[0]?=some (.sl rows)->VW Γ u0 rows:=by
  intro ho V8 rows hr0;have hL:L=[]:=cO (by rw[<-WS,ho];rfl);refine⟨fun b hb'=>by simp[Γ,hL]at hb',?_⟩;obtain⟨b',k1,k2⟩:=W7;obtain⟨v,b1,p1,_,p3,p4⟩:=k1.at hr0;obtain⟨c,q6,q7⟩:=a4z (by have:=k1.length;rw[V8]at this;simpa using this);have:v=c:=by
   rw[jY,q7]at p1;cases p1;rfl
  subst this;have a5B:Rd w v (.sl rows) b1:=by cases p3 with|pure h=>exact h
  refine⟨v,b1,q6,a5B,fun b hb'=>⟨a5B.lt b hb',fun hx=>?_,k2 b (p4 b hb')⟩⟩;have h0:=k2 b (p4 b hb');rcases hx with rfl|hx
  ·simp[Θ0]at h0
  ·simp[hL]at hx
 refine wp_mono (h Rl u0 Γ rfl hold _ _ _ _ hs) ?_;rintro x a' w' ⟨Mn,κ1,Θ1,hs0,WW⟩;obtain⟨Aj,hdf,hst,v,g',cs',T',b2,t2,u2,b3,t3,u3,hrun,e0,hg',hkf,hres,a7n,a7i,DZ,vV,ht'⟩:=VX.out hs0 WW;obtain rfl:g=g':=by
  have e1:Value.pointer (some ⟨g,0,none⟩)=.pointer (some ⟨g',0,none⟩):=hpt.symm.trans e0;cases e1;rfl
 have post:a'.defers=[]/\∃v',(results fn a'.tmps).run P w'=.ok v' w'/\∃v cs' T' b2 t2 u2 b3 t3 u3,Ending.returned v'=.returned v/\w'.os=w.os/\w'.tape=w.tape/\w'.output=w.output/\w.heap.size<=w'.heap.size/\
  (∀b,b<w.heap.size->b≠g->b∉L.flatMap Fs.ts->w'.heap[b]?=w.heap[b]?)/\w'.heap[g]?=some (.cells cs' T' (0,0))/\(cs.size=3->cs'.size=3/\cs'[0]?=cs[0]?)/\
  zE w' v d b2 t2 u2/\tK w' cs'.toList cells' b3 t3 u3/\(∀b∈b3++b2,(b<w.heap.size->Θ b=0\/b∈L.flatMap Fs.ts)/\b≠g/\b∉t3++t2)/\(u3++u2).Nodup/\
  (∀b∈u3++u2,(w.heap.size<=b\/b∈L.flatMap Fs.bl)/\b≠g/\Wr w' b)/\∀b∈t3++t2,b∈u3++u2/\(w.heap.size<=b\/b∈L.flatMap Fs.ts):=by
  refine⟨hdf,v,hrun,v,cs',T',b2,t2,u2,b3,t3,u3,rfl,hst.os,hst.tape,hst.output,hst.size,fun b hlt hne hnt=>hst.block b hlt (fun hx=>hx.elim hne hnt),hg',(fun h3=>by obtain⟨c,q6,q7⟩:=a4z h3;obtain⟨q8,q9⟩:=hkf c q6;exact⟨q8,q9.trans q7.symm⟩),hres,a7n,fun b hb'=>?_,DZ,fun b hb'=>?_,fun b hb'=>?_⟩
  ·obtain⟨k1,k2,k3⟩:=a7i b hb';refine⟨fun hlt=>?_,k2,k3⟩;by_cases ht:b∈L.flatMap Fs.ts
   ·exact .inr ht
   ·refine .inl ?_;have:=k1 hlt (fun hx=>hx.elim k2 ht);have e:Θ0 b=Θ b:=dR fun e=>(zl b e).elim k2 ht
    rw[<-e];exact this
  ·obtain⟨k1,k2,k3⟩:=vV b hb';refine⟨?_,k2,k3⟩;rcases k1 with(k1|k1|k1)|k1
   ·exact .inl k1
   ·exact absurd k1 k2
   ·exact .inr (Dl k1)
   ·exact .inr k1
  ·obtain⟨k1,k2⟩:=ht' b hb';refine⟨k1,?_⟩;have:=(vV b k1).2.1;rcases k2 with k2|k2|k2
   ·exact .inl k2
   ·exact absurd k2 this
   ·exact .inr k2
 rcases Aj with rfl|rfl
 ·exact post
 ·exact post
theorem VM{o:Oper}{f t id:Nat}{xs:Array Operand}{ty:Array TypeId}{x0:Operand}{xr:List Operand}{ob:Ob}{JR cells cells' ds:aL}{d:D}{nz:List (List (Option (Nat×Nat)))}{ms qs:aW}
 (hop:o.op=.call {callee:=.value (.func f),args:=xs,argTypes:=ty}) (hd:o.dst=some t) (hg:o.guard=none) (ht:t<Γ.nt)
 (hxs:xs.toList=x0::xr) (hx0:st.ev x0=.ptr id 0) (hH:st.H[id]?=some ob) (xe:ob.Sx=some JR)
 (Aj:zw st.H nz (.agg JR::xr.map st.ev)=some (.agg cells::ds,ms,qs)) (Lu:ms.Nodup) (Jv:qs.Nodup) (nQ:gx P f cells cells' ds d)
 (h:AO P Γ all rest Q ⟨(t,(oF (st.H.length+(nR st.H.length cells').2.length) d).1)::st.σ,
  (kill st.H (ms++qs)).set id (ob.re (nR st.H.length cells').1)++((nR st.H.length cells').2++(oF (st.H.length+(nR st.H.length cells').2.length) d).2)⟩):AO P Γ all (o::rest) Q st:=by
 intro κ Θ a w hs;have AE:=vR Aj;obtain⟨ρ,hu⟩:=hs.rR;obtain⟨Θ1,ρ1,hs1,hu1,hm1,N7,R1⟩:=dV.FC ms hs hu Lu (fun m hm=>by
  obtain⟨e,sz,rows,hH⟩:=AE.1 m hm;exact⟨_,e,sz,rows,hH,rfl⟩)
 have UG:id<st.H.length:=(aF.1 hH).1;have hnr:∀k e sz rows,st.H[id]?≠some (.row k e sz rows):=fun k e sz rows e1=>by rw[hH]at e1;cases e1;cases xe
 have a81:id∉ms:=fun hm=>by obtain⟨e',sz',dO,DY⟩:=AE.1 id hm;exact hnr _ _ _ _ DY
 have a82:id∉qs:=fun hm=>by obtain⟨e',sz',dO,DY⟩:=AE.2 id hm;exact hnr _ _ _ _ DY
 have Ml:(kill st.H ms)[id]?=some ob:=by rw[gC a81];exact hH
 have a2Z:=hs1.ob id _ Ml;obtain⟨g,cs,T,hk0,UE,ON,bb,hbb,hbz⟩:=a2Z.cs xe;have hgl:g<w.heap.size:=(bC.1 UE).1;have hq:∀m e sz rows,st.H[m]?=some (.row .uq e sz rows)->∃v cs ns,κ m=some v/\0<sz/\(∀r∈rows,r.length=sz)/\w.ownsRow 0 e sz v rows.length cs/\wK w (tT e) 0 cs rows.flatten ns/\ns.Nodup/\(∀b∈ns,ρ1 b=m+1)/\∀g,v.ownBlock=some g->Θ1 g=m+2:=by
  intro m e sz rows hH;have hnm:m∉ms:=fun hm=>by
   obtain⟨e',sz',dO,DY⟩:=AE.1 m hm;rw[hH]at DY;cases DY
  have Ml:(kill st.H ms)[m]?=some (.row .uq e sz rows):=by rw[gC hnm];exact hH
  obtain⟨v,cs,ns,r1,r2,r3,r4,r5⟩:=hu1.rows m e sz rows Ml;obtain⟨p1,p2,v2,_,_,p3,_,_,p4,_⟩:=hs1.ob m _ Ml;rw[r1]at p3;cases p3;exact⟨v,cs,ns,r1,p1,p2,r2,r3,r4,r5,p4⟩
 obtain⟨bs,ts,us,Bb,zj⟩:=yy (w:=w) (vs:=.agg cs::xr.map a.eval) (fun b hb=>(hu1.free b hb).1) hq hs.o6 Aj Jv (by simp) (fun i d hd=>by
  cases i with
  |zero=>
   simp at hd;subst hd;have:=LJ.agg _ _ _ hbb;exact⟨_,bb,rfl,.v (by simpa using this),hbz⟩
  |succ i=>
   rw[ff,bu]at hd;cases hx:xr[i]? with
   |none=>rw[hx]at hd;cases hd
   |some x=>
    rw[hx]at hd;simp only[cU,aj]at hd;subst hd;obtain⟨b,r,z⟩:=hs.ev x;exact⟨a.eval x,b,by simp[hx],r,fun y hy=>N7 y (z y hy)⟩) hm1
 let Θc:Nat->Nat:=fun b=>if Θ1 b=0 then 0 else 1
 have zl:∀b,Θc b=0↔Θ1 b=0:=fun b=>by simp only[Θc];split<;>simp_all
 have Im:∀b∈ts,∃m∈qs,Θ1 b=m+2:=fun b hb=>(zj.top b hb).1
 have a8X:∀b∈ts,b≠g:=fun b hb e=>by
  obtain⟨m,hm,hΘ⟩:=Im b hb;subst e;rw[ON]at hΘ;exact a82 (by
   have:id=m:=by omega
   rw[this];exact hm)
 have OK:Ms w fun b=>b=g\/b∈ts:=by
  obtain⟨B,v1,v2⟩:=hs1.vsb;refine⟨B,v1,fun b hB=>⟨(v2 b hB).2.1,fun hb'=>?_⟩⟩;have hm:xL Γ b:=by
   rcases hb' with rfl|hb'
   ·exact hs1.mine b (by omega)
   ·obtain⟨m,hm,hΘ⟩:=Im b hb';exact hs1.mine b (by omega)
  rcases hm with q|q
  ·have:=(v2 b hB).1;omega
  ·exact(v2 b hB).2.2 q
 have hwr:∀b∈us,Wr w b:=by
  intro b hb;rcases zj.mem b hb with h|⟨m,hm,hρ⟩
  ·exact JO Bb b h
  ·exact(hu1.free b (by omega)).2.2
 have hc:=nQ.2 w Θc g cs T (xr.map a.eval) bs ts us OK UE Bb (fun b hb=>(zl b).2 (zj.zero b hb)) (fun b hb=>hs1.own b (fun e=>hb ((zl b).2 e))) (fun b=>by simp only[Θc];split<;>omega)
  (by simp only[Θc];rw[b8 (by omega)]) (fun b hb=>by
   obtain⟨m,hm,hΘ⟩:=Im b hb;exact⟨by simp only[Θc];rw[b8 (by omega)],(zj.top b hb).2,a8X b hb⟩) zj.nd (fun b hb=>⟨fun hnt=>by
   rcases zj.mem b hb with h|⟨m,hm,hρ⟩
   ·exact absurd h hnt
   ·exact(zl b).2 (hu1.free b (by omega)).1,hwr b hb⟩)
 refine wpList_plain hg fun K hK=>?_
 unfold Oper.wp;rw[wG hop nQ.1,Oper.upon_enter];have e0:xs.map a.eval=(.pointer (some ⟨g,0,none⟩)::xr.map a.eval).toArray:=by
  obtain⟨b0,r0,_⟩:=hs.ev x0;rw[hx0]at r0;obtain⟨g',hk',hv⟩:=r0.yq;rw[hk0]at hk';cases hk';rw[<-qn,gm,hxs];simp[hv]
 rw[e0];refine hc.mono ?_;rintro x w' ⟨v,cs',T',b2,t2,u2,b3,t3,u3,rfl,k1,k2,k3,k4,Rt,kg,a17,a39,kcs,kb,Yi,ku,kt⟩;show K (a.put o.dst v) w';rw[hd];let N:=st.H.length
 have hs2:=hs1.forget (id::qs);have hNl:(kill st.H ms).length=N:=fX _ _;simp only[hNl]at hs2;let Θ2:Nat->Nat:=fun b=>if(id::qs).any (fun m=>Θ1 b==m+2)then N+2 else Θ1 b
 have hs2:dV Γ ⟨st.σ,kill (kill st.H ms) (id::qs)⟩ κ Θ2 a w:=hs2;have Lv:∀b,Θ1 b=0->Θ2 b=0:=fun b hb=>by
  simp only[Θ2];rw[b8,hb];intro h;obtain⟨m,_,hm⟩:=cz.1 h;simp[hb]at hm
 have Eh:∀b,b=g\/b∈ts->Θ2 b=N+2:=by
  intro b hb;simp only[Θ2];rw[bL];rcases hb with rfl|hb
  ·exact cz.2 ⟨id,by simp,by simp[ON]⟩
  ·obtain⟨m,hm,hΘ⟩:=Im b hb;exact cz.2 ⟨m,by simp[hm],by simp[hΘ]⟩
 have Yf:zF Γ (kill (kill st.H ms) (id::qs)) κ Θ2 w ρ1:=by
  refine⟨fun b hb=>?_,fun j e sz rows hj=>?_,fun j o hj=>?_⟩
  ·obtain⟨q1,q2⟩:=hu1.free b hb;exact⟨Lv b q1,q2⟩
  ·rcases oG hj with h|⟨_,h⟩
   ·cases h
   ·exact hu1.rows j e sz rows h
  ·rcases oG hj with h|⟨_,h⟩
   ·subst h;trivial
   ·exact hu1.more j o h
 obtain⟨Lb,a1,a2,a3,a4,a5⟩:=kcs.inst N;obtain⟨Ld,c1,c2,c3,c4,c5⟩:=a39.inst (N+(nR N cells').2.length);have a7c:Lb.length=(nR N cells').2.length:=by rw[<-a1];simp
 let L:=Lb++Ld
 have V7:u3++u2=L.flatMap Fs.bl:=by simp[L,a3,c3]
 have a8W:t3++t2=L.flatMap Fs.ts:=by simp[L,a4,c4]
 rw[V7]at Yi ku kt;rw[a8W]at kt kb;have RV:∀x∈L,x.ok w':=fun x hx=>by
  rcases aU.1 hx with hx|hx
  ·exact a2 x hx
  ·exact c2 x hx
 let κ':Nat->Option Value:=fun j=>if j<N then κ j else(L[j-N]?).map Fs.v
 let Θ':Nat->Nat:=fun b=>if b=g then id+2 else match Kf L b with|some i=>N+i+2|none=>if Θ2 b=N+2 then 0 else Θ2 b
 let ρ':Nat->Nat:=fun b=>match tA L b with|some i=>N+i+1|none=>ρ1 b
 have hgt:g∉L.flatMap Fs.bl:=fun h=>(ku g h).2.1 rfl
 have a5K:Θ' g=id+2:=by simp[Θ']
 have OM:∀(i:Nat) x b,L[i]?=some x->x.v.ownBlock=some b->Θ' b=N+i+2:=by
  intro i x b hx hb;have hb':b∈L.flatMap Fs.ts:=bg.2 ⟨x,aD hx,by simp[Fs.ts,hb]⟩;have hne:b≠g:=fun e=>hgt (e▸Dl hb')
  simp only[Θ',JD Yi hx hb];rw[b8 hne]
 have zk:∀b,b≠g->b∉L.flatMap Fs.ts->Θ' b=if Θ2 b=N+2 then 0 else Θ2 b:=by
  intro b h1 h2;simp only[Θ',xA h2];rw[b8 h1]
 have hzero:∀b,w.heap.size<=b->Θ2 b=0:=fun b hge=>by
  cases h:Θ2 b with
  |zero=>rfl
  |succ m=>exact absurd (hs2.own b (by omega)) (by omega)
 have ZV:∀b∈b3++b2,Θ' b=0:=by
  intro b hb;obtain⟨p1,p2,p3⟩:=kb b hb;rw[zk b p2 p3];by_cases hlt:b<w.heap.size
  ·rcases p1 hlt with h|h
   ·rw[Lv b ((zl b).1 h)];simp
   ·rw[bL (Eh b (.inr h))]
  ·rw[hzero b (by omega)];simp
 have OH:∀(i:Nat) x b,L[i]?=some x->b∈x.ns->Θ' b=0:=by
  intro i x b hx hb;have hmem:=s9 hx hb;rw[zk b (ku b hmem).2.1 (CU Yi hx hb)];rcases(ku b hmem).1 with h|h
  ·rw[hzero b h];simp
  ·rcases zj.mem b h with h|⟨m,hm,hρ⟩
   ·rw[bL (Eh b (.inr h))]
   ·rw[Lv b (hu1.free b (by omega)).1];simp
 have hn:∀(j:Nat) v,κ j=some v->κ' j=some v:=by
  intro j v hj;have:j<N:=dR fun h=>by rw[hs.ol j (by omega)]at hj;cases hj
  simp only[κ'];rw[bL this];exact hj
 have v8:Names κ' N L:=by
  intro i x hx;simp only[κ'];rw[b8 (by omega),dQ,hx];rfl
 have WN:∀b∈L.flatMap Fs.ts,xL Γ b:=by
  intro b hb;rcases(kt b hb).2 with h|h
  ·exact .inl (dh hs.base h)
  ·obtain⟨m,hm,hΘ⟩:=Im b h;exact hs1.mine b (by omega)
 have k:iF w w' Θ2 Θ' (N+2):=by
  refine⟨by omega,k1,k2,k3,k4,fun b hlt hne=>Rt b hlt (fun e=>hne (Eh b (.inl e))) (fun e=>hne (Eh b (.inr e))),fun b hlt hne=>?_,fun b hb=>?_⟩
  ·rw[zk b (fun e=>hne (Eh b (.inl e))) (fun e=>?_),b8 hne];rcases(kt b e).2 with h|h
   ·omega
   ·exact hne (Eh b (.inr h))
  ·by_cases e:b=g
   ·subst e;omega
   ·by_cases ht':b∈L.flatMap Fs.ts
    ·obtain⟨x,T,hx⟩:=(ku b (Dl ht')).2.2;exact(bC.1 hx).1
    ·rw[zk b e ht']at hb;split at hb
     ·exact absurd rfl hb
     ·exact cq (hs2.own b hb) k4
 have hm:∀b,2<=Θ' b->xL Γ b:=by
  intro b hb;by_cases e:b=g
  ·subst e;exact hs1.mine b (by omega)
  ·by_cases ht':b∈L.flatMap Fs.ts
   ·exact WN b ht'
   ·rw[zk b e ht']at hb;split at hb
    ·omega
    ·exact hs2.mine b hb
 have s8:=hs2.nT k hn Yf;have HO:((kill st.H (ms++qs)).set id (ob.re (nR N cells').1)).length=N:=by simp[fX,N]
 have a5i:∀(a_ bs:aW) (H:bP),kill H (a_++bs)=kill (kill H a_) bs:=by
  intro a_
  induction a_ with
  |nil=>intro bs H;rfl
  |cons x a_ ih=>intro bs H;simp only[qo,kill,ih]
 have a8E:(nR N cells').2++(oF (N+(nR N cells').2.length) d).2=L.map Fs.ob:=by simp[L,a1,c1]
 have key:∀(j:Nat) y,((kill st.H (ms++qs)).set id (ob.re (nR N cells').1)++L.map Fs.ob)[j]?=some y->(∃i x,j=N+i/\L[i]?=some x/\y=x.ob)\/(j=id/\y=ob.re (nR N cells').1)\/(j≠id/\j<N/\(y=.gone\/(kill (kill st.H ms) (id::qs))[j]?=some y)):=by
  intro j y hj;by_cases hlt:j<N
  ·rw[av (by rw[HO];exact hlt)]at hj;rcases wH j y hj with⟨rfl,rfl⟩|⟨h1,h2⟩
   ·exact .inr (.inl ⟨rfl,rfl⟩)
   ·refine .inr (.inr ⟨h1,hlt,?_⟩);rcases oG h2 with h|⟨h3,h4⟩
    ·exact .inl h
    ·refine .inr ?_;simp only[aU,AX]at h3;rw[gC (by simp[h1,h3.2]),gC h3.1];exact h4
  ·rw[az (by omega),HO,bu]at hj;cases hx:L[j-N]? with
   |none=>simp[hx]at hj
   |some x=>simp[hx]at hj;exact .inl ⟨j-N,x,by omega,hx,hj.symm⟩
 have hs':dV Γ ⟨st.σ,(kill st.H (ms++qs)).set id (ob.re (nR N cells').1)++L.map Fs.ob⟩ κ' Θ' a w':=by
  have KO:∀(j:Nat) y,(kill (kill st.H ms) (id::qs))[j]?=some y->y≠ .gone->∀b,ρ1 b=j+1->ρ' b=j+1:=by
   intro j y hy hyg b a2k;have hjk:j∉id::qs:=by
    rcases oG hy with h|h
    ·exact absurd h hyg
    ·exact h.1
   have hnb:tA L b=none:=by
    cases hi:tA L b with
    |none=>rfl
    |some i=>
     exfalso;obtain⟨x,hx,Aw⟩:=td hi;obtain⟨z0,_,a7T,T'',a2i⟩:=hu1.free b (by omega);rcases(ku b (s9 hx Aw)).1 with h|h
     ·have:=(bC.1 a2i).1;omega
     ·rcases zj.mem b h with h|⟨m,hm',hρ⟩
      ·obtain⟨m,hm',hΘ⟩:=Im b h;omega
      ·exact hjk (by
        have:j=m:=by omega
        rw[this];simp[hm'])
   simp only[ρ',hnb];exact a2k
  refine hs2.step k hm hn ?_ ?_ ?_ ⟨ρ',?_,?_,?_⟩
  ·intro i hi;simp only[ar,HO,au]at hi;simp only[κ'];rw[b8 (by omega),cQ (by omega)];rfl
  ·intro i u vV;simp only[κ']at vV;split at vV
   ·exact hs.o6 i u vV
   ·cases hx:L[i-N]? with
    |none=>simp[hx]at vV
    |some x=>simp[hx]at vV;subst vV;exact(RV x (aD hx)).2.2.2.2
  ·intro j y hj;rcases key j y hj with⟨i,x,rfl,hx,rfl⟩|⟨rfl,rfl⟩|⟨hji,hjl,hy|hy⟩
   ·obtain⟨q1,q2,q3,q4,_⟩:=RV x (aD hx);exact .inr (.inr ⟨q1,q2,x.v,x.cs,x.ns,v8 i x hx,q3,q4.rd,fun g' hg'=>OM i x g' hx hg',fun b hb'=>OH i x b hx hb'⟩)
   ·refine .inr (.inr (vh.a62 xe a2Z (hn _) (fun c0 u0 e0' c hc g2 Yb T2 hk2 TA=>by
     subst e0';rw[hn _ _ hk0]at hk2;cases hk2;rw[kg]at TA;cases TA;obtain⟨z1,z2⟩:=a2Z.1.2 c hc g cs T hk0 UE;exact⟨(a17 z1).1,(a17 z1).2.trans z2⟩) ⟨g,cs',T',hn _ _ hk0,kg,a5K,b3,a5 κ' v8.left,fun b hb=>ZV b (by simp[hb])⟩))
   ·exact .inl hy
   ·exact .inr (.inl ⟨by omega,hy⟩)
  ·intro b hb;cases Mw:tA L b with
   |some i=>
    obtain⟨x,hx,Aw⟩:=td Mw;have hmem:=s9 hx Aw;refine⟨OH i x b hx Aw,?_,(ku b hmem).2.2⟩;rcases(ku b hmem).1 with h|h
    ·exact .inl (.inl (dh hs.base h))
    ·rcases zj.mem b h with h|⟨m,hm',hρ⟩
     ·obtain⟨m,hm',hΘ⟩:=Im b h;exact .inl (hs1.mine b (by omega))
     ·exact(hu1.free b (by omega)).2.1
   |none=>
    simp only[ρ',Mw]at hb;exact s8.1 b hb
  ·intro j e sz rows hj;rcases key j _ hj with⟨i,x,rfl,hx,hy⟩|⟨rfl,hy⟩|⟨hji,hjl,hy|hy⟩
   ·simp only[Fs.ob,Ob.row.injEq,qt]at hy;obtain⟨rfl,rfl,rfl⟩:=hy;obtain⟨q1,q2,q3,q4,_⟩:=RV x (aD hx);exact⟨x.v,x.cs,x.ns,v8 i x hx,q3,q4,Ix Yi hx,fun b hb'=>by simp only[ρ',C0 Yi hx hb']⟩
   ·cases ob<;>simp[Ob.re]at hy
   ·cases hy
   ·obtain⟨v',c',bs',r1,r2,r3,r4,r5⟩:=s8.2.1 j e sz rows (by omega) hy;exact⟨v',c',bs',r1,r2,r3,r4,fun b hb'=>KO j _ hy (by simp) b (r5 b hb')⟩
  ·intro j y hj;rcases key j _ hj with⟨i,x,rfl,hx,hy⟩|⟨rfl,hy⟩|⟨hji,hjl,hy|hy⟩
   ·subst hy;exact JQ.wF rfl
   ·subst hy;cases ob<;>exact JQ.wF rfl
   ·subst hy;trivial
   ·by_cases hg:y=.gone
    ·subst hg;trivial
    ·exact(s8.2.2 j y (by omega) hy).re (KO j y hy hg)
 rw[a8E]at h;refine hK _ _ (h _ _ _ _ (hs'.set (t:=t) ht (c5 κ' ?_) fun b hb=>ZV b (by simp[hb])));rw[<-a7c];exact v8.right
def Hl(P:Program)(f:FuncId)(ds cells:aL):Prop:=
 (∃fn,P.funcs[f]?=some fn/\fn.body.isSome=true/\(fn.name== "runtime.NumGoroutine")=false)/\
 ∀(w:World) (Θ:Nat->Nat) (args:bZ) (bs:aW),Ms w (fun _=>False)->Sf w args ds bs->(∀b∈bs,Θ b=0)->(∀b,Θ b≠0->b<w.heap.size)->(∀b,Θ b<=1)->
  Calls P f args.toArray w (fun e w'=>∃g cs T bs',e=.returned (.pointer (some ⟨g,0,none⟩))/\Below w.heap.size w w'/\w.heap.size<=g/\w'.heap[g]?=some (.cells cs T (0,0))/\mR w' cs.toList cells bs'/\
   ∀b∈bs',(b<w.heap.size->Θ b=0)/\b≠g)
def a4W(P:Program)(fn:Func)(cells:aL)(e:Exit)(st:St):Prop:=
 (e=.ret\/e=.normal)/\∃j,GZ P st fn.results.toList=some [.ptr j 0]/\st.H[j]?=some (.box cells)/\cells.all D.PI=true
theorem Hl.of{f:FuncId}{fn:Func}{c:Code}{ds cells:aL}(hf:P.funcs[f]?=some fn)(hb:fn.body=some c)(hn:(fn.name== "runtime.NumGoroutine")=false)
 (hl:ds.length<=fn.ntmps) (h:(∀d∈ds,iE d)->∀Γ:tZ,Γ.nt=fn.ntmps->AW P Γ c (a4W P fn cells) ⟨vl 0 ds,[]⟩):Hl P f ds cells:=by
 refine⟨⟨fn,hf,by simp[hb],hn⟩,?_⟩;intro w Θ args bs hvs hargs hz hown h1;obtain⟨hlen,L3⟩:=hargs.at;refine calls_of_wp hf hb ?_;let Γ:tZ:=⟨w,Θ,fun _=>False,fn.ntmps,fun _=>False,hvs⟩
 have hs:dV Γ ⟨vl 0 ds,[]⟩ (fun _=>none) Θ {tmps:=args.toArray++Array.replicate (fn.ntmps-args.toArray.size) undef,defers:=[]} w:=by
  refine⟨rfl,?_,fun _ _=>rfl,by simp,?_,by simp,hown,fun b _ _=>⟨rfl,h1 b⟩,fun b hb=>by have:=h1 b;omega,⟨rfl,rfl,rfl,bO _,fun _ _ _=>rfl⟩,⟨fun _=>0,by simp,by simp,by simp⟩⟩
  ·simp[Γ];omega
  ·intro t;rw[Ep];simp only[ug,xK,vg];cases hd:ds[t]? with
   |none=>exact⟨[],.of (.any _),by simp⟩
   |some x=>
    obtain⟨v,b,k1,k2,k3⟩:=L3 t x hd;refine⟨b,?_,fun y hy=>hz y (k3 y hy)⟩;have hlt:t<args.length:=(aF.1 k1).1;have:(args.toArray++Array.replicate (fn.ntmps-args.toArray.size) undef).getD t undef=v:=by
     rw[cH,eX (by simpa using hlt)];simp[k1]
    rw[this];exact .of k2
 refine wp_mono (h hargs.rdb Γ rfl _ _ _ _ hs) ?_;rintro e a' w' ⟨Mn,κ0,Θ0,hs0,Aj,j,hres,hH,hp⟩;obtain⟨vs,bs',m1,m2,m3,m4,m5⟩:=Bi hs0 hres;obtain⟨v,b,n1,n2,_⟩:=m4 0 _ rfl;obtain⟨g,hk,hv⟩:=n2.yq;obtain⟨g',cs,T,hk',hg,hΘ,bb,hbb,hbz⟩:=hs0.ob j _ hH;rw[hk]at hk';cases hk';have a8a:vs=[v]:=by
  simp only[aT,bW]at m3
  match vs,m2,n1 with
  | [],_,n1=>simp at n1
  | [x],_,n1=>simp at n1;rw[n1]
  |x::y::r,m2,_=>simp only[aT]at m2;omega
 have hrun:(results fn a'.tmps).run P w'=.ok (.pointer (some ⟨g,0,none⟩)) w':=by
  rw[results_eq,mH];simp[m1,a8a,hv]
 have Ln:Below w.heap.size w w':=⟨hs0.stays.os,hs0.stays.tape,hs0.stays.output,hs0.stays.size,fun b hb=>hs0.stays.block b hb (fun h=>h)⟩
 have hgm:w.heap.size<=g:=by
  rcases hs0.mine g (by omega)with q|q
  ·exact q
  ·exact q.elim
 have post:a'.defers=[]/\∃v,(results fn a'.tmps).run P w'=.ok v w'/\∃g cs T bs',Ending.returned v=.returned (.pointer (some ⟨g,0,none⟩))/\Below w.heap.size w w'/\w.heap.size<=g/\w'.heap[g]?=some (.cells cs T (0,0))/\mR w' cs.toList cells bs'/\
  ∀b∈bs',(b<w.heap.size->Θ b=0)/\b≠g:=by
  refine⟨hs0.defers,_,hrun,g,cs,T,bb,rfl,Ln,hgm,hg,hbb.pure hp,fun b hb'=>⟨fun hlt=>?_,fun e=>?_⟩⟩
  ·exact(hs0.old b hlt (fun h=>h)).1.symm.trans (hbz b hb')
  ·have:=hbz b hb';subst e;omega
 rcases Aj with rfl|rfl
 ·exact post
 ·exact post
theorem VK{o:Oper}{f t:Nat}{xs:Array Operand}{ts:Array TypeId}{ds cells:aL}(hop:o.op=.call {callee:=.value (.func f),args:=xs,argTypes:=ts})(hd:o.dst=some t)(hg:o.guard=none)
 (ht:t<Γ.nt) (hds:GG st.H (xs.toList.map st.ev)=some (ds,[])) (nQ:Hl P f ds cells)
 (h:AO P Γ all rest Q ⟨(t,.ptr st.H.length 0)::st.σ,st.H++[.box cells]⟩):AO P Γ all (o::rest) Q st:=by
 intro κ Θ a w hs;obtain⟨bs,hargs,hz⟩:=LD hs hds;have xw:∀b∈bs,Θ b=0:=fun b hb=>(hz b hb).elim id (fun⟨m,h1,_⟩=>by cases h1)
 let Θc:Nat->Nat:=fun b=>if Θ b=0 then 0 else 1
 have zl:∀b,Θc b=0↔Θ b=0:=fun b=>by simp only[Θc];split<;>simp_all
 have hc:=nQ.2 w Θc _ bs hs.vok hargs (fun b hb=>(zl b).2 (xw b hb)) (fun b hb=>hs.own b (fun e=>hb ((zl b).2 e))) (fun b=>by simp only[Θc];split<;>omega);refine wpList_plain hg fun K hK=>?_
 unfold Oper.wp;rw[wG hop nQ.1,Oper.upon_enter];have e:xs.map a.eval=(xs.toList.map a.eval).toArray:=by rw[<-gm,k6]
 rw[e];refine hc.mono ?_;rintro e w' ⟨g,cs,T,bs',rfl,hb,hge,hg',hrd,hbb⟩;show K (a.put o.dst (.pointer (some ⟨g,0,none⟩))) w';rw[hd];let Θ':Nat->Nat:=fun b=>if b=g then st.H.length+2 else Θ b
 have k:iF w w' Θ Θ' (st.H.length+2):=by
  refine⟨by omega,hb.os,hb.tape,hb.output,hb.size,fun b hlt _=>hb.block b hlt,fun b hlt _=>?_,fun b hb'=>?_⟩
  ·simp only[Θ'];rw[b8 (by omega)]
  ·simp only[Θ']at hb';split at hb'
   ·rename_i e;subst e;exact(bC.1 hg').1
   ·exact cq (hs.own b hb') hb.size
 have hbz:∀b∈bs',Θ' b=0:=by
  intro b hb';obtain⟨h1,h2⟩:=hbb b hb';simp only[Θ'];rw[b8 h2];by_cases hlt:b<w.heap.size
  ·exact(zl b).1 (h1 hlt)
  ·cases h:Θ b with
   |zero=>rfl
   |succ m=>exact absurd (hs.own b (by omega)) hlt
 have hs':=hs.push (o:=.box cells) (v:=.pointer (some ⟨g,0,none⟩)) rfl k (hs.yw (fun b hb'=>by
  simp only[Θ']at hb';split at hb'
  ·rename_i e;subst e;exact .inr hge
  ·exact .inl hb')) ⟨g,cs,T,jD _ _ _,hg',by simp[Θ'],bs',fH.Co hrd,hbz⟩ rfl
 refine hK _ _ (h _ _ _ _ (hs'.set (t:=t) (d:=.ptr st.H.length 0) (bs:=[]) ht ?_ (by simp)));exact(yQ.ptr st.H.length 0 g (jD _ _ _)).Nk
theorem Yr{o:Oper}{T t id e e' sz h:Nat}{kk:IntKind}{x hi:Operand}{rows:List aL}(hop:o.op=.slice T x none (some hi) none)(hd:o.dst=some t)(hg:o.guard=none)(ht:t<Γ.nt)
 (hT:FH P T=some (e',sz)) (hx:st.ev x=.acc id) (hH:st.H[id]?=some (.row .uq e sz rows)) (hhi:st.ev hi=.int kk (h:Int)) (hle:h<=rows.length)
 (hn:AO P Γ all rest Q ⟨(t,.acc st.H.length)::st.σ,kill st.H [id]++[.row .uq e sz (rows.take h)]⟩):AO P Γ all (o::rest) Q st:=by
 intro κ Θ a w hs;obtain⟨hsz,hrl,v,cs0,V4,hk,a0w,aB5,Eg,xw⟩:=hs.ob id _ hH;obtain⟨ρ,hu⟩:=hs.rR;obtain⟨v2,cs,bs,hk2,hown,hrd,hnd,hρ⟩:=hu.rows id e sz rows hH;rw[hk]at hk2;cases hk2;obtain⟨bx,rx,_⟩:=hs.ev x;rw[hx]at rx;obtain⟨hkx,_⟩:=rx.uh;have TI:a.eval x=v:=by rw[hk]at hkx;cases hkx;rfl
 let v':Value:=match v with| .slice q _ cap=>.slice q h cap|u=>u
 have hc:yJ rows.length ((none:Option Operand).map st.ev) ((some hi).map st.ev)=some (0,h):=by
  simp[yJ,hhi,hle]
 have hrun:∃q cap,v=.slice q rows.length cap/\v'=.slice q h cap/\(execOp a.eval o).run P w=.ok (.value v') w:=by
  obtain⟨vV,Ju,Io⟩:=oo hT;have main:∀(q:Option Addr) (cap:Nat),(∀b off sp,q=some ⟨b,off,sp⟩->off=0/\sp=none)->v=.slice q rows.length cap->rows.length<=cap->(execOp a.eval o).run P w=.ok (.value (.slice q h cap)) w:=by
   intro q cap hq0 hq hcap;obtain⟨hr,hl,hh⟩:=Ot (P:=P) (isSlice:=true) (cap:=cap) hs hcap hc;have aAZ:(if cap=0 then q else q.map (·.add (0*sz)))=q:=by
    split
    ·rfl
    ·cases q with
     |none=>rfl
     |some ad=>simp[Addr.add]
   simp only[xx,cU]at hr;simp only[execOp,hop,TI,hq];simp[Instr.sliceAt,Instr.slice,run_underlying vV,hr,ud (P:=P) Ju w];intro hc0;cases q with
   |none=>rfl
   |some ad=>simp[Addr.add]
  rcases hown.2 with⟨rfl,h0⟩|⟨g,cap,cur,rfl,_,OG,hnc,hcm,hcs,htk⟩
  ·exact⟨none,0,by rw[h0],rfl,main none 0 (by simp) (by rw[h0]) (by omega)⟩
  ·exact⟨some ⟨g,0,none⟩,cap,rfl,rfl,main _ _ (by simp) rfl hnc⟩
 obtain⟨q,cap,hvq,ZY,hrun⟩:=hrun;have xe:v'.ownBlock=v.ownBlock:=by rw[ZY,hvq];cases q<;>rfl
 have hone:v'.oneCell'=true:=by
  have:=hs.o6 id v hk;rw[hvq]at this;rw[ZY];exact this
 have hsplit:∃cs' bs',w.ownsRow 0 e sz v' (rows.take h).length cs'/\wK w (tT e) 0 cs' (rows.take h).flatten bs'/\bs'.Nodup/\∀b∈bs',b∈bs:=by
  have e1:rows.flatten=(rows.take h).flatten++(rows.drop h).flatten:=by rw[<-jF,cJ]
  have N0:=hrd;rw[e1]at N0;obtain⟨c1,c2,b1,b2,rfl,rfl,k1,k2⟩:=N0.split;have htl:(rows.take h).length=h:=by rw[bw];omega
  have hc1:c1.length=h*sz:=by rw[k1.length,nP (fun r hr=>hrl r (bz hr)),htl]
  refine⟨c1,b1,?_,k1,(bH.1 hnd).1,fun b hb=>by simp[hb]⟩;rw[htl];refine⟨hc1,?_⟩;rcases hown.2 with⟨hv0,h0⟩|⟨g,cap',cur,hvs,hbg,OG,hnc,hcm,hcs,htk⟩
  ·left
   have:h=0:=by omega
   subst this;have e3:=hv0.symm.trans hvq;simp only[Value.slice.injEq]at e3;exact⟨by rw[ZY,<-e3.1,<-e3.2.2],rfl⟩
  ·right
   have e3:=hvs.symm.trans hvq;simp only[Value.slice.injEq]at e3;refine⟨g,cap',cur,by rw[ZY,<-e3.1,<-e3.2.2],hbg,OG,by omega,hcm,hcs,?_⟩;have h3:(cur.toList.take (rows.length*sz)).take (h*sz)=(c1++c2).take (h*sz):=by rw[htk]
   rw[tH,fG (dW _ hle)]at h3;rw[h3];exact ic hc1
 obtain⟨cs',bs',p1,p2,p3,p4⟩:=hsplit;refine wpList_plain hg fun K hK=>?_
 unfold Oper.wp;rw[hrun,Oper.upon_value,hd];let n:=st.H.length
 have UG:id<n:=(aF.1 hH).1;let Θ':Nat->Nat:=fun b=>if some b=v'.ownBlock then n+2 else Θ b
 let ρ':Nat->Nat:=fun b=>if ρ b=id+1 then n+1 else ρ b
 have Yh:∀g,v'.ownBlock=some g->Θ g=id+2:=fun g UF=>Eg g (xe▸UF)
 have k:iF w w Θ Θ' (id+2):=by
  refine⟨by omega,rfl,rfl,rfl,bO _,fun _ _ _=>rfl,fun b hb hne=>?_,fun b hb=>?_⟩
  ·simp only[Θ'];rw[b8 fun e=>hne (Yh b e.symm)]
  ·simp only[Θ']at hb;split at hb
   ·rename_i e;exact hs.own b (by rw[Yh b e.symm];omega)
   ·exact hs.own b hb
 have hm:∀b,2<=Θ' b->xL Γ b:=by
  intro b hb;simp only[Θ']at hb;split at hb
  ·rename_i e;exact hs.mine b (by rw[Yh b e.symm];omega)
  ·exact hs.mine b hb
 have hnn:=wJ (hs.ol n (bO _)) (some v');have s8:=hs.nT k hnn hu;have Mm:∀b∈bs',Θ' b=0:=by
  intro b hb;have h1:=(hu.free b (by rw[hρ b (p4 b hb)];omega)).1;simp only[Θ'];rw[b8 fun e=>by have:=Yh b e.symm;omega];exact h1
 have key:∀(j:Nat) y,(kill st.H [id]++[.row .uq e sz (rows.take h)])[j]?=some y->(j=n/\y=.row .uq e sz (rows.take h))\/(j≠n/\(y=.gone\/(j∉[id]/\st.H[j]?=some y))):=by
  intro j y hj;rcases zu j y hj with⟨h1,h2⟩|⟨h1,h2⟩
  ·rw[fX]at h1;exact .inl ⟨h1,h2⟩
  ·rw[fX]at h1;exact .inr ⟨h1,oG h2⟩
 have hs':dV Γ ⟨st.σ,kill st.H [id]++[.row .uq e sz (rows.take h)]⟩ (xD κ n (some v')) Θ' a w:=by
  refine hs.step k hm hnn ?_ ?_ ?_ ⟨ρ',fun b hb=>?_,fun j e2 FG dJ hj=>?_,fun j y hj=>?_⟩
  ·intro i hi;simp only[ar,aT,bW,fX]at hi;unfold xD;rw[b8 (by omega)];exact hs.ol i (by omega)
  ·intro i y hy;unfold xD at hy;split at hy
   ·cases hy;exact hone
   ·exact hs.o6 i y hy
  ·intro j y hj;rcases key j y hj with⟨rfl,rfl⟩|⟨_,hy|⟨hjk,hy⟩⟩
   ·exact .inr (.inr ⟨hsz,fun r hr=>hrl r (bz hr),v',cs',bs',jD _ _ _,p1,p2.rd,fun g UF=>by simp only[Θ'];rw[bL UF.symm],Mm⟩)
   ·exact .inl hy
   ·exact .inr (.inl ⟨fun e=>hjk (by simp;omega),hy⟩)
  ·refine s8.1 b fun h0=>hb ?_
   simp only[ρ'];rw[b8 (by omega)];exact h0
  ·rcases key j _ hj with⟨rfl,hy⟩|⟨_,hy|⟨hjk,hy⟩⟩
   ·simp only[Ob.row.injEq,qt]at hy;obtain⟨rfl,rfl,rfl⟩:=hy;exact⟨v',cs',bs',jD _ _ _,p1,p2,p3,fun b hb=>by simp only[ρ'];rw[bL (hρ b (p4 b hb))]⟩
   ·cases hy
   ·obtain⟨v3,c3,b3,q1,q2,q3,q4,q5⟩:=s8.2.1 j e2 FG dJ (fun e=>hjk (by simp;omega)) hy;refine⟨v3,c3,b3,q1,q2,q3,q4,fun b hb=>?_⟩;have hne:j≠id:=fun e=>hjk (by simp[e])
    simp only[ρ'];rw[b8 (by rw[q5 b hb];omega)];exact q5 b hb
  ·rcases key j _ hj with⟨rfl,hy⟩|⟨_,hy|⟨hjk,hy⟩⟩
   ·subst hy;exact JQ.wF rfl
   ·subst hy;trivial
   ·refine(s8.2.2 j y (fun e=>hjk (by simp;omega)) hy).re fun b hb=>?_
    have hne:j≠id:=fun e=>hjk (by simp[e])
    simp only[ρ'];rw[b8 (by omega)];exact hb
 refine hK _ _ (hn _ _ _ _ (hs'.set (t:=t) (d:=.acc n) (bs:=[]) ht ?_ (by simp)));exact(yQ.acc n _ (jD _ _ _)).Nk
end
end Go.Cx
namespace Go.Cx
open Go.RowKit
section
variable{P:Program}{Γ:tZ}{Q:Exit->St->Prop}{st:St}{κ κ':Nat->Option Value}{Θ Θ':Nat->Nat}{a:Act}{w w':World}{all:Array Oper}{rest:List Oper}
theorem dV.a3G(hs:dV Γ st κ Θ a w):
 dV Γ ⟨st.σ,st.H++[.mp []]⟩ (xD κ st.H.length (some (.map (some w.heap.size)))) (fun b=>if b=w.heap.size then st.H.length+2 else Θ b) a (w.alloc (.map #[] 0)):=by
 have k:=iF.alloc hs (.map #[] 0) (tag:=st.H.length+2) (by omega);refine hs.push rfl k (hs.yw (fun b hb=>by by_cases e:b=w.heap.size<;>simp_all)) ?_ rfl;exact⟨w.heap.size,#[],0,by simp[xD],heap_alloc_new w _,by simp,rfl,by simp⟩
theorem R4{o:Oper}{T t:Nat}(hop:o.op=.makeMap T none)(hd:o.dst=some t)(hg:o.guard=none)(ht:t<Γ.nt)
 (h:AO P Γ all rest Q ⟨(t,.acc st.H.length)::st.σ,st.H++[.mp []]⟩):AO P Γ all (o::rest) Q st:=by
 intro κ Θ a w hs;have hs':=hs.a3G;refine wpList_plain hg fun K hK=>?_
 unfold Oper.wp;have hrun:(execOp a.eval o).run P w=.ok (.value (.map (some w.heap.size))) (w.alloc (.map #[] 0)):=by
  simp[execOp,hop,Instr.makeMap,newObj];rfl
 rw[hrun,Oper.upon_value,hd];refine hK _ _ (h _ _ _ _ (hs'.set (t:=t) (d:=.acc st.H.length) (bs:=[]) ht ?_ (by simp)));exact(yQ.acc st.H.length _ (jD _ _ _)).Nk
theorem yP.push{es:List MapEntry}{kv:List (D×D)}{k v:D}{u x:Value}(h:yP w es kv)(hk:Rd w u k [])(hv:Rd w x v [])(c:Nat):yP w (es++[{key:=u,val:=x,born:=c}]) (kv++[(k,v)]):=by
 refine⟨by simp[h.1],fun j e p h1 h2=>?_⟩;by_cases hj:j<es.length
 ·rw[av hj]at h1;rw[av (by rw[<-h.1];exact hj)]at h2;exact h.2 j e p h1 h2
 ·rw[az (by omega)]at h1;rw[az (by rw[<-h.1];omega),<-h.1]at h2;have e0:j-es.length=0:=by
   have:=(aF.1 h1).1;simp at this;omega
  rw[e0]at h1 h2;simp at h1 h2;subst h1;subst h2;exact⟨hk,hv⟩
theorem yP.put{es:List MapEntry}{kv:List (D×D)}{k v:D}{u x:Value}(h:yP w es kv)(hk:Rd w u k [])(hv:Rd w x v [])(i:Nat){es':List MapEntry}(hl:es'.length=es.length)
 (he:∀(j:Nat) e,es'[j]?=some e->(j=i/\e.key=u/\e.val=x)\/(j≠i/\es[j]?=some e)):yP w es' (kv.set i (k,v)):=by
 refine⟨by simp[hl,h.1],fun j e p h1 h2=>?_⟩;rcases he j e h1 with⟨rfl,h3,h4⟩|⟨hne,h3⟩
 ·have hlt:j<kv.length:=by
   have:=(aF.1 h2).1;simpa using this
  rw[dF hlt]at h2;cases h2;rw[h3,h4];exact⟨hk,hv⟩
 ·rw[cE (rW hne)]at h2;exact h.2 j e p h3 h2
theorem a3A{kd:TypeDesc}{k v:D}{u:Value}(Mx:HQ kd k=true)(hu:Rd w u k []):∀ {es:List MapEntry} {kv kv':List (D×D)} (i:Nat),yP w es kv->Iq k v kv=some kv'->
 (Instr.findNow kd u es i=some none/\kv'=kv++[(k,v)])\/∃j x e,Instr.findNow kd u es i=some (some (i+j,x))/\es[j]?=some e/\e.key=u/\kv'=kv.set j (k,v):=by
 intro es
 induction es with
 |nil=>
  intro kv kv' i hr h;cases kv with
  |nil=>cases h;exact .inl ⟨rfl,rfl⟩
  |cons p kv=>exact absurd hr.1 (by simp)
 |cons e es ih=>
  intro kv kv' i hr h;cases kv with
  |nil=>exact absurd hr.1 (by simp)
  |cons p kv=>
   obtain⟨r1,r2,r3⟩:=hr.cons;simp only[Iq]at h;split at h
   ·rename_i hq;cases h;have:=L6 Mx hu r1 hq;exact .inr ⟨0,e.val,e,by simp[Instr.findNow,this.1],rfl,this.2 rfl,rfl⟩
   ·rename_i hq;have My:=(L6 Mx hu r1 hq).1;cases hk:Iq k v kv with
    |none=>rw[hk]at h;cases h
    |some kv1=>
     rw[hk]at h;cases h;rcases ih (i+1) r3 hk with⟨h1,h2⟩|⟨j,x,e',h1,h2,h3,h4⟩
     ·exact .inl ⟨by simpa[Instr.findNow,My]using h1,by rw[h2];rfl⟩
     ·exact .inr ⟨j+1,x,e',by simp only[Instr.findNow,My];rw[h1];congr 3;omega,by simpa using h2,h3,by rw[h4];rfl⟩
   ·cases h
theorem Oy{kd:TypeDesc}{u:Value}(h:MapKept.IsKey kd u)(n:Nat):Instr.sameBits n u u=true:=by
 cases kd<;>cases u<;>simp[MapKept.IsKey]at h<;>simp[Instr.sameBits]
 all_goals first
  |exact(MapKept.bytes_beq _ _).2 rfl
  |rfl
def D.scalar:D->Bool
 | .str _=>true
 | .int _ _=>true
 | .bool _=>true
 |_=>false
theorem Qj{v:Value}{d:D}{bs:aW}(hd:d.scalar=true)(hu:rS w κ v d bs):Rd w v d []:=by
 cases d<;>simp[D.scalar]at hd
 all_goals cases hu with|v h=>cases h with|cell h=>cases h with|pure h=>cases h<;>(constructor<;>assumption)
theorem Nx{o:Oper}{T id:Nat}{x i y:Operand}{kd:TypeDesc}{dz:D}{kv kv':List (D×D)}(hop:o.op=.mapUpdate T x i y)(hd:o.dst=none)(hg:o.guard=none)
 (hT:Ur P T=some (kd,dz)) (hx:st.ev x=.acc id) (hH:st.H[id]?=some (.mp kv)) (Mx:HQ kd (st.ev i)=true) (hsc:(st.ev y).scalar=true) (hput:Iq (st.ev i) (st.ev y) kv=some kv')
 (h:AO P Γ all rest Q ⟨st.σ,st.H.set id (.mp kv')⟩):AO P Γ all (o::rest) Q st:=by
 intro κ Θ a w hs;obtain⟨g,es,c,q1,q2,q3,q4⟩:=hs.ob id _ hH;obtain⟨bs,r,_⟩:=hs.ev x;rw[hx]at r;obtain⟨hk,_⟩:=r.uh;rw[q1]at hk;have TJ:a.eval x=.map (some g):=(lq hk).symm;obtain⟨bi,ri,_⟩:=hs.ev i;obtain⟨by',ry,_⟩:=hs.ev y;have hu:=NY Mx ri;have hv:=Qj hsc ry;obtain⟨kt,et,z,t1,t2,t3,t4⟩:=Me hT;have hik:=QE Mx hu;have hck:=MapKept.run_checkKey (P:=P) (w:=w) t2 hik false 9999;have a7x:g<w.heap.size:=(bC.1 q2).1;have UG:id<st.H.length:=(aF.1 hH).1;have hrun:∃es' c',(execOp a.eval o).run P w=.ok .skip {w with heap:=w.heap.setIfInBounds g (.map es' c')}/\yP w es'.toList kv':=by
  rcases a3A Mx hu 0 q4 hput with⟨hn,rfl⟩|⟨j,x',e,hn,he,hek,rfl⟩
  ·have RZ:=MapKept.run_findKey (P:=P) (w:=w) t2 hn;refine⟨es.push {key:=a.eval i,val:=a.eval y,born:=c},c+1,?_,?_⟩
   ·simp[execOp,hop,TJ,Instr.mapUpdate,run_underlying t1,MapKept.run_getObj_map q2,hck,RZ,MapKept.run_setObj_map _ q2]
   ·rw[Array.toList_push];exact q4.push hu hv c
  ·rw[cN]at hn;have RZ:=MapKept.run_findKey (P:=P) (w:=w) t2 hn;have hej:es[j]?=some e:=by simpa using he
   have hst:(Instr.keyThatStays (((es[j]?).map (·.key)).getD (a.eval i)) (a.eval i)).run P w=.ok (a.eval i) w:=by
    rw[hej];simp[Instr.keyThatStays,hek,Oy hik]
   refine⟨es.modify j fun e=> {e with key:=a.eval i,val:=a.eval y},c,?_,?_⟩
   ·simp[execOp,hop,TJ,Instr.mapUpdate,run_underlying t1,MapKept.run_getObj_map q2,hck,RZ,hst,MapKept.run_setObj_map _ q2]
   ·refine q4.put hu hv j (by simp) fun m e' hm=>?_
    rw[jY,wN]at hm;by_cases hmj:j=m
    ·subst hmj;rw[bL rfl,hej]at hm;cases hm;exact .inl ⟨rfl,rfl,rfl⟩
    ·rw[b8 hmj]at hm;exact .inr ⟨rW hmj,by simpa using hm⟩
 obtain⟨es',c',hr,a8M⟩:=hrun;have CT:∀b,b≠g->(w.heap.setIfInBounds g (.map es' c'))[b]?=w.heap[b]?:=fun b hb=>by simp[rW hb]
 have k:iF w {w with heap:=w.heap.setIfInBounds g (.map es' c')} Θ Θ (id+2):=by
  refine⟨by omega,rfl,rfl,rfl,by simp,fun b hb hne=>CT b fun e=>hne (e▸q3),fun _ _ _=>rfl,fun b hb=>?_⟩;simpa using hs.own b hb
 have hs':dV Γ ⟨st.σ,st.H.set id (.mp kv')⟩ κ Θ a {w with heap:=w.heap.setIfInBounds g (.map es' c')}:=by
  obtain⟨ρ,vV⟩:=hs.rR;have s8:=hs.nT k (fun _ _ h=>h) vV;refine hs.step k hs.mine (fun _ _ h=>h) (fun i hi=>hs.ol i (by simpa using hi)) hs.o6 ?_ ⟨ρ,s8.1,fun j e sz rows hj=>?_,fun j y hj=>?_⟩
  ·intro j y' hj;by_cases e:j=id
   ·subst e;rw[dF UG]at hj;cases hj;exact .inr (.inr ⟨g,es',c',q1,by simp[a7x],q3,a8M.stay⟩)
   ·rw[cE (rW e)]at hj;exact .inr (.inl ⟨by omega,hj⟩)
  ·by_cases e':j=id
   ·subst e';rw[dF UG]at hj;cases hj
   ·rw[cE (rW e')]at hj;exact s8.2.1 j e sz rows (by omega) hj
  ·by_cases e':j=id
   ·subst e';rw[dF UG]at hj;cases hj;trivial
   ·rw[cE (rW e')]at hj;exact s8.2.2 j y (by omega) hj
 refine wpList_plain hg fun K hK=>?_
 unfold Oper.wp;rw[hr,Oper.upon_skip,hd];exact hK _ _ (h _ _ _ _ hs')
end
end Go.Cx

/- Calls as contracts of the abstract walk ('Good'): arguments are looked at, results may be handed over whole and new; how a body's abstract walk gives its contract. No condition; plain lemmas. -/
import Derived.Test.YtfankinmlfnncaaGreatDoorPFnKeepsUpG1
import Derived.StillTail
import Derived.MapKept
set_option linter.unusedVariables false
set_option linter.unusedSimpArgs false
namespace Go.Cx
open Go.RowKit
inductive VF(w:World):List Value->List D->List Nat->Prop
 |nil:VF w [] [] []
 |cons (v:Value) (vs:bp) (d:D) (ds:aQ) (b1 b2:aa):Rd w v d b1->VF w vs ds b2->VF w (v::vs) (d::ds) (b1++b2)
inductive HT(w:World):Value->D->List Nat->List Nat->List Nat->Prop
 |pure {v:Value} {d:D} {bs:aa}:Rd w v d bs->HT w v d bs [] []
 |fr (v:Value) (e sz:Nat) (rows:List aQ) (cs:bp) (ns:aa):0<sz->(∀r∈rows,r.length=sz)->w.ownsRow 0 e sz v rows.length cs->yS w (vb e) 0 cs rows.flatten ns->v.oneCell'=true->
  HT w v (.fr e sz rows) [] v.ownBlock.toList (v.ownBlock.toList++ns)
inductive vS(w:World):List Value->List D->List Nat->List Nat->List Nat->Prop
 |nil:vS w [] [] [] [] []
 |cons (v:Value) (vs:bp) (d:D) (ds:aQ) (b1 b2 t1 t2 u1 u2:aa):v.oneCell'=true->HT w v d b1 t1 u1->vS w vs ds b2 t2 u2->vS w (v::vs) (d::ds) (b1++b2) (t1++t2) (u1++u2)
inductive HU(w:World):Value->D->List Nat->List Nat->List Nat->Prop
 |cell {v:Value} {d:D} {bs ts us:aa}:HT w v d bs ts us->HU w v d bs ts us
 |agg (cs:bp) (ds:aQ) (bs ts us:aa):vS w cs ds bs ts us->HU w (.agg cs.toArray) (.agg ds) bs ts us
inductive zP(w:World):List Value->List D->List Nat->List Nat->List Nat->Prop
 |nil:zP w [] [] [] [] []
 |cons (v:Value) (vs:bp) (d:D) (ds:aQ) (b1 b2 t1 t2 u1 u2:aa):HU w v d b1 t1 u1->zP w vs ds b2 t2 u2->zP w (v::vs) (d::ds) (b1++b2) (t1++t2) (u1++u2)
inductive BD(w:World):Value->D->List Nat->List Nat->List Nat->Prop
 |v {v:Value} {d:D} {bs ts us:aa}:HU w v d bs ts us->BD w v d bs ts us
 |ff (vs:bp) (ds:aQ) (bs ts us:aa):zP w vs ds bs ts us->BD w (.tuple vs.toArray) (.ff ds) bs ts us
def Good(P:Program)(f:FuncId)(ds:aQ)(d:D):Prop:=
 (∃fn,P.funcs[f]?=some fn/\fn.body.isSome=true/\(fn.name== "runtime.NumGoroutine")=false)/\
 ∀(w:World) (Θ:Nat->Nat) (args:bp) (bs:aa),Qn w (fun _=>False)->VF w args ds bs->(∀b∈bs,Θ b=0)->(∀b,Θ b≠0->b<w.heap.size)->(∀b,Θ b<=1)->
  Calls P f args.toArray w (fun e w'=>∃v bs' ts us,e=.returned v/\Below w.heap.size w w'/\BD w' v d bs' ts us/\(∀b∈bs',b<w.heap.size->Θ b=0)/\(∀b∈bs',b∉ts)/\us.Nodup/\
   (∀b∈us,w.heap.size<=b/\Wr w' b)/\∀b∈ts,b∈us)
def Eh(n:Nat)(d:D):D×bY:=match d with
 | .fr e sz rows=>(.acc n,[.row .uq e sz rows])
 |d=>(d,[])
def oy(n:Nat):aQ->aQ×bY
 | []=>([],[])
 |d::ds=>((Eh n d).1::(oy (n+(Eh n d).2.length) ds).1,(Eh n d).2++(oy (n+(Eh n d).2.length) ds).2)
def DV(n:Nat)(d:D):D×bY:=match d with
 | .agg cs=>(.agg (oy n cs).1,(oy n cs).2)
 |d=>Eh n d
def AG(n:Nat):aQ->aQ×bY
 | []=>([],[])
 |d::ds=>((DV n d).1::(AG (n+(DV n d).2.length) ds).1,(DV n d).2++(AG (n+(DV n d).2.length) ds).2)
def s8(n:Nat)(d:D):D×bY:=match d with
 | .ff vs=>(.ff (AG n vs).1,(AG n vs).2)
 |d=>DV n d
structure Fs where
 v:Value
 e:Nat
 sz:Nat
 rows:List aQ
 cs:bp
 ns:aa
def Fs.ob(x:Fs):Ob:=.row .uq x.e x.sz x.rows
def Fs.ok(w:World)(x:Fs):Prop:=0<x.sz/\(∀r∈x.rows,r.length=x.sz)/\w.ownsRow 0 x.e x.sz x.v x.rows.length x.cs/\yS w (vb x.e) 0 x.cs x.rows.flatten x.ns/\x.v.oneCell'=true
def Fs.bl(x:Fs):aa:=x.v.ownBlock.toList++x.ns
def Fs.ts(x:Fs):aa:=x.v.ownBlock.toList
section
variable{P:Program}{Γ:vn}{Q:Exit->St->Prop}{st:St}{κ κ':Nat->Option Value}{Θ Θ':Nat->Nat}{a:Act}{w w':World}{all:Array Oper}{rest:List Oper}
def Names(κ:Nat->Option Value)(n:Nat)(L:List Fs):Prop:=∀(i:Nat) x,L[i]?=some x->κ (n+i)=some x.v
theorem Names.left{n:Nat}{L1 L2:List Fs}(h:Names κ n (L1++L2)):Names κ n L1:=fun i x hx=>h i x (by
 rw[bA (aJ.1 hx).1];exact hx)
theorem Names.right{n:Nat}{L1 L2:List Fs}(h:Names κ n (L1++L2)):Names κ (n+L1.length) L2:=fun i x hx=>by
 have:=h (L1.length+i) x (by rw[bE (by omega)];simpa using hx);rw[<-this];congr 1;omega
theorem HT.inst{v:Value}{d:D}{bs ts us:aa}(h:HT w v d bs ts us)(n:Nat):
 ∃L:List Fs,L.map Fs.ob=(Eh n d).2/\(∀x∈L,x.ok w)/\us=L.flatMap Fs.bl/\ts=L.flatMap Fs.ts/\∀κ,Names κ n L->Aw w κ v (Eh n d).1 bs:=by
 cases h with
 |pure h=>
  have e:Eh n d=(d,[]):=by cases h<;>rfl
  rw[e];exact⟨[],rfl,by simp,rfl,rfl,fun κ _=>.pure h⟩
 |fr e sz rows cs ns h1 h2 h3 h4 h5=>
  refine⟨[⟨v,e,sz,rows,cs,ns⟩],rfl,?_,by simp[Fs.bl],by simp[Fs.ts],fun κ hk=>?_⟩
  ·intro x hx;simp at hx;subst hx;exact⟨h1,h2,h3,h4,h5⟩
  ·exact .acc n v (by simpa using hk 0 _ rfl)
theorem vS.inst{vs:bp}{ds:aQ}{bs ts us:aa}(h:vS w vs ds bs ts us)(n:Nat):
 ∃L:List Fs,L.map Fs.ob=(oy n ds).2/\(∀x∈L,x.ok w)/\us=L.flatMap Fs.bl/\ts=L.flatMap Fs.ts/\∀κ,Names κ n L->fk w κ vs (oy n ds).1 bs:=by
 induction h generalizing n with
 |nil=>exact⟨[],rfl,by simp,rfl,rfl,fun κ _=>.nil⟩
 |cons v vs d ds b1 b2 t1 t2 u1 u2 h1 h2 _ ih=>
  obtain⟨L1,q1,q2,q3,q4,q5⟩:=h2.inst n;obtain⟨L2,p1,p2,p3,p4,p5⟩:=ih (n+(Eh n d).2.length);have hl:L1.length=(Eh n d).2.length:=by rw[<-q1];simp
  refine⟨L1++L2,by simp[oy,q1,p1],?_,by simp[q3,p3],by simp[q4,p4],fun κ hk=>?_⟩
  ·intro x hx;rcases aZ.1 hx with hx|hx
   ·exact q2 x hx
   ·exact p2 x hx
  ·refine .cons _ _ _ _ _ _ h1 (q5 κ hk.left) (p5 κ ?_);rw[<-hl];exact hk.right
theorem HU.inst{v:Value}{d:D}{bs ts us:aa}(h:HU w v d bs ts us)(n:Nat):
 ∃L:List Fs,L.map Fs.ob=(DV n d).2/\(∀x∈L,x.ok w)/\us=L.flatMap Fs.bl/\ts=L.flatMap Fs.ts/\∀κ,Names κ n L->Nw w κ v (DV n d).1 bs:=by
 cases h with
 |cell h=>
  by_cases vK:∃ds,d=.agg ds
  ·obtain⟨ds,rfl⟩:=vK;cases h with
   |pure h=>
    cases h with
    |agg cs _ _ h=>
     have:∀(vs:bp) (es:aQ) (b:aa),p6 w vs es b->∀n,(oy n es).1=es/\(oy n es).2=[]:=by
      intro vs es
      induction es generalizing vs with
      |nil=>intro b _ n;exact⟨rfl,rfl⟩
      |cons e es ih=>
       intro b hh n;cases hh with
       |cons v vs _ _ b1 b2 _ h2 h3=>
        have e1:Eh n e=(e,[]):=by cases h2<;>rfl
        have:=ih vs b2 h3 n;simp[oy,e1,this]
     obtain⟨e1,e2⟩:=this _ _ _ h n;refine⟨[],by simp[DV,e2],by simp,rfl,rfl,fun κ _=>?_⟩;simp only[DV,e1];exact .agg _ _ _ (fk.Ei h)
  ·have e:DV n d=Eh n d:=by cases d<;>first|rfl|exact absurd ⟨_,rfl⟩ vK
   rw[e];obtain⟨L,q1,q2,q3,q4,q5⟩:=h.inst n;exact⟨L,q1,q2,q3,q4,fun κ hk=>.cell (q5 κ hk)⟩
 |agg cs ds bs ts us h=>
  obtain⟨L,q1,q2,q3,q4,q5⟩:=h.inst n;exact⟨L,q1,q2,q3,q4,fun κ hk=>.agg _ _ _ (q5 κ hk)⟩
theorem zP.inst{vs:bp}{ds:aQ}{bs ts us:aa}(h:zP w vs ds bs ts us)(n:Nat):
 ∃L:List Fs,L.map Fs.ob=(AG n ds).2/\(∀x∈L,x.ok w)/\us=L.flatMap Fs.bl/\ts=L.flatMap Fs.ts/\∀κ,Names κ n L->Dv w κ vs (AG n ds).1 bs:=by
 induction h generalizing n with
 |nil=>exact⟨[],rfl,by simp,rfl,rfl,fun κ _=>.nil⟩
 |cons v vs d ds b1 b2 t1 t2 u1 u2 h2 _ ih=>
  obtain⟨L1,q1,q2,q3,q4,q5⟩:=h2.inst n;obtain⟨L2,p1,p2,p3,p4,p5⟩:=ih (n+(DV n d).2.length);have hl:L1.length=(DV n d).2.length:=by rw[<-q1];simp
  refine⟨L1++L2,by simp[AG,q1,p1],?_,by simp[q3,p3],by simp[q4,p4],fun κ hk=>?_⟩
  ·intro x hx;rcases aZ.1 hx with hx|hx
   ·exact q2 x hx
   ·exact p2 x hx
  ·refine .cons _ _ _ _ _ _ (q5 κ hk.left) (p5 κ ?_);rw[<-hl];exact hk.right
theorem BD.inst{v:Value}{d:D}{bs ts us:aa}(h:BD w v d bs ts us)(n:Nat):
 ∃L:List Fs,L.map Fs.ob=(s8 n d).2/\(∀x∈L,x.ok w)/\us=L.flatMap Fs.bl/\ts=L.flatMap Fs.ts/\∀κ,Names κ n L->ue w κ v (s8 n d).1 bs:=by
 cases h with
 |v h=>
  have hnt:∀vs,d≠ .ff vs:=by
   intro vs e;subst e;cases h with
   |cell h=>cases h with|pure h=>cases h
  have e:s8 n d=DV n d:=by cases d<;>first|rfl|exact absurd rfl (hnt _)
  rw[e];obtain⟨L,q1,q2,q3,q4,q5⟩:=h.inst n;exact⟨L,q1,q2,q3,q4,fun κ hk=>.v (q5 κ hk)⟩
 |ff vs ds bs ts us h=>
  obtain⟨L,q1,q2,q3,q4,q5⟩:=h.inst n;exact⟨L,q1,q2,q3,q4,fun κ hk=>.ff _ _ _ (q5 κ hk)⟩
theorem S7{v:Value}{d:D}{bs ts us:aa}(h:HT w v d bs ts us):∀b∈ts,Wr w b:=by
 cases h with
 |pure=>simp
 |fr e sz rows cs ns h1 h2 h3 h4 h5=>
  intro b hb;simp only[mY]at hb;rcases h3.2 with⟨rfl,_⟩|⟨g,cap,cur,rfl,_,hg,_⟩
  ·simp[Value.ownBlock]at hb
  ·simp[Value.ownBlock]at hb;subst hb;exact⟨_,_,hg⟩
theorem Wg{vs:bp}{ds:aQ}{bs ts us:aa}(h:vS w vs ds bs ts us):∀b∈ts,Wr w b:=by
 induction h with
 |nil=>simp
 |cons v vs d ds b1 b2 t1 t2 u1 u2 h1 h2 _ ih=>
  intro b hb;rcases aZ.1 hb with hb|hb
  ·exact S7 h2 b hb
  ·exact ih b hb
theorem Ny{v:Value}{d:D}{bs ts us:aa}(h:HU w v d bs ts us):∀b∈ts,Wr w b:=by
 cases h with
 |cell h=>exact S7 h
 |agg cs ds bs ts us h=>exact Wg h
theorem Lp{vs:bp}{ds:aQ}{bs ts us:aa}(h:zP w vs ds bs ts us):∀b∈ts,Wr w b:=by
 induction h with
 |nil=>simp
 |cons v vs d ds b1 b2 t1 t2 u1 u2 h2 _ ih=>
  intro b hb;rcases aZ.1 hb with hb|hb
  ·exact Ny h2 b hb
  ·exact ih b hb
theorem Nx{v:Value}{d:D}{bs ts us:aa}(h:BD w v d bs ts us):∀b∈ts,Wr w b:=by
 cases h with
 |v h=>exact Ny h
 |ff vs ds bs ts us h=>exact Lp h
def ix{α:Type}(p:α->Bool):List α->Option Nat
 | []=>none
 |x::r=>if p x then some 0 else(ix p r).map (· +1)
theorem ER{α:Type}{p:α->Bool}:∀ {l:List α} {i:Nat},ix p l=some i->∃x,l[i]?=some x/\p x=true:=by
 intro l
 induction l with
 |nil=>intro i h;cases h
 |cons x r ih=>
  intro i h;simp only[ix]at h;split at h
  ·cases h;exact⟨x,rfl,by assumption⟩
  ·cases hr:ix p r with
   |none=>simp[hr]at h
   |some j=>simp[hr]at h;subst h;simpa using ih hr
theorem MO{α:Type}{p:α->Bool}:∀ {l:List α} {i:Nat} {x:α},l[i]?=some x->p x=true->(∀(j:Nat) y,l[j]?=some y->p y=true->j=i)->ix p l=some i:=by
 intro l
 induction l with
 |nil=>intro i x h;simp at h
 |cons y r ih=>
  intro i x h hp hu;simp only[ix];split
  ·rename_i hy;rw[hu 0 y rfl hy]
  ·rename_i hy;cases i with
   |zero=>simp at h;subst h;exact absurd hp hy
   |succ i=>
    rw[ih (by simpa using h) hp (fun j z hz hpz=>by have:=hu (j+1) z (by simpa using hz) hpz;omega)];rfl
theorem CH{α:Type}{f:α->aa}:∀ {l:List α},(l.flatMap f).Nodup->∀(i j:Nat) x y b,l[i]?=some x->l[j]?=some y->b∈f x->b∈f y->i=j:=by
 intro l
 induction l with
 |nil=>intro _ i j x y b hi;simp at hi
 |cons z r ih=>
  intro hnd i j x y b hi hj HK hby;simp only[ck]at hnd;obtain⟨n1,n2,n3⟩:=bW.1 hnd;cases i with
  |zero=>
   simp at hi;subst hi;cases j with
   |zero=>rfl
   |succ j=>
    simp at hj;exact absurd rfl (n3 b HK b (cA.2 ⟨y,aE hj,hby⟩))
  |succ i=>
   simp at hi;cases j with
   |zero=>
    simp at hj;subst hj;exact absurd rfl (n3 b hby b (cA.2 ⟨x,aE hi,HK⟩))
   |succ j=>simp at hj;rw[ih n2 i j x y b hi hj HK hby]
theorem eN.QA(hs:eN Γ st κ Θ a w)(hb:Below w.heap.size w w')(L:List Fs)(hL:∀x∈L,x.ok w')(hnd:(L.flatMap Fs.bl).Nodup)(hfr:∀b∈L.flatMap Fs.bl,w.heap.size<=b/\Wr w' b)
 (n:Nat) (H':bY) (hfree:∀i,i<L.length->κ (n+i)=none) (hlen':st.H.length<=H'.length) (hin:n+L.length<=H'.length)
 (key:∀(j:Nat) y,H'[j]?=some y->(∃i x,j=n+i/\L[i]?=some x/\y=x.ob)\/((j<n\/n+L.length<=j)/\(y=.gone\/st.H[j]?=some y))):
 ∃κ' Θ',eN Γ ⟨st.σ,H'⟩ κ' Θ' a w'/\Names κ' n L/\(∀(j:Nat) v,κ j=some v->κ' j=some v)/\(∀b,b∉L.flatMap Fs.ts->Θ' b=Θ b)/\(∀j,(j<n\/n+L.length<=j)->κ' j=κ j):=by
 let κ':Nat->Option Value:=fun j=>if j<n\/n+L.length<=j then κ j else(L[j-n]?).map Fs.v
 let Θ':Nat->Nat:=fun b=>match ix (fun x:Fs=>x.v.ownBlock==some b) L with|some i=>n+i+2|none=>Θ b
 have hu1:∀(i j:Nat) x y b,L[i]?=some x->L[j]?=some y->b∈x.bl->b∈y.bl->i=j:=fun i j x y b=>CH hnd i j x y b
 have hts:∀(i:Nat) x b,L[i]?=some x->x.v.ownBlock=some b->Θ' b=n+i+2:=by
  intro i x b hi hxb;have:ix (fun x:Fs=>x.v.ownBlock==some b) L=some i:=MO hi (by simp[hxb]) (fun j y hj hy=>by
   simp only[cZ]at hy;exact hu1 j i y x b hj hi (by simp[Fs.bl,hy]) (by simp[Fs.bl,hxb]))
  simp only[Θ',this]
 have hno:∀b,b∉L.flatMap Fs.ts->Θ' b=Θ b:=by
  intro b hb';simp only[Θ'];cases h:ix (fun x:Fs=>x.v.ownBlock==some b) L with
  |none=>rfl
  |some i=>
   obtain⟨x,hx,hp⟩:=ER h;exact absurd (cA.2 ⟨x,aE hx,by simp only[cZ]at hp;simp[Fs.ts,hp]⟩) hb'
 have hsub:∀b,b∈L.flatMap Fs.ts->b∈L.flatMap Fs.bl:=by
  intro b h;obtain⟨x,hx,HK⟩:=cA.1 h;exact cA.2 ⟨x,hx,by simp only[Fs.bl,Fs.ts]at HK⊢;exact aZ.2 (.inl HK)⟩
 have hold:∀b,b<w.heap.size->Θ' b=Θ b:=fun b hlt=>hno b (fun h=>by have:=(hfr b (hsub b h)).1;omega)
 have hzero:∀b,w.heap.size<=b->Θ b=0:=fun b hge=>by
  cases h:Θ b with
  |zero=>rfl
  |succ m=>exact absurd (hs.own b (by omega)) (by omega)
 have hn:∀(j:Nat) v,κ j=some v->κ' j=some v:=by
  intro j v hj;have:j<n\/n+L.length<=j:=by
   rcases fN j n with h|h
   ·exact .inl h
   ·rcases fN j (n+L.length)with h2|h2
    ·have:=hfree (j-n) (by omega);rw[show n+(j-n)=j from by omega,hj]at this;cases this
    ·exact .inr h2
  simp only[κ'];rw[bL this];exact hj
 have AF:Names κ' n L:=by
  intro i x hx;have hlt:=(aJ.1 hx).1;simp only[κ'];rw[b9 (by omega),eL,hx];rfl
 have hTb:∀b,Θ' b≠0->Θ b≠0\/b∈L.flatMap Fs.bl:=by
  intro b h;by_cases hbt:b∈L.flatMap Fs.ts
  ·exact .inr (hsub b hbt)
  ·rw[hno b hbt]at h;exact .inl h
 have k:jU w w' Θ Θ' (H'.length+2):=by
  refine⟨by omega,hb.os,hb.tape,hb.output,hb.size,fun b hlt _=>hb.block b hlt,fun b hlt _=>hold b hlt,fun b h=>?_⟩;rcases hTb b h with h|h
  ·exact eC (hs.own b h) hb.size
  ·obtain⟨cs,T,hx⟩:=(hfr b h).2;exact(bO.1 hx).1
 have hm:∀b,2<=Θ' b->BB Γ b:=by
  intro b h;by_cases hbt:b∈L.flatMap Fs.ts
  ·exact .inl (eD hs.base (hfr b (hsub b hbt)).1)
  ·rw[hno b hbt]at h;exact hs.mine b h
 obtain⟨ρ,hu⟩:=hs.vG;have w5:=hs.sA k hn hu;let ρ':Nat->Nat:=fun b=>match ix (fun x:Fs=>x.ns.contains b) L with|some i=>n+i+1|none=>ρ b
 have hns:∀(i:Nat) x b,L[i]?=some x->b∈x.ns->ρ' b=n+i+1:=by
  intro i x b hi hxb;have:ix (fun x:Fs=>x.ns.contains b) L=some i:=MO hi (by simpa using hxb) (fun j y hj hy=>by
   exact hu1 j i y x b hj hi (by simp only[Fs.bl];exact aZ.2 (.inr (by simpa using hy))) (by simp only[Fs.bl];exact aZ.2 (.inr hxb)))
  simp only[ρ',this]
 have zy:∀(i:Nat) x b,L[i]?=some x->b∈x.ns->Θ' b=0:=by
  intro i x b hi hxb;have hmem:b∈L.flatMap Fs.bl:=cA.2 ⟨x,aE hi,by simp only[Fs.bl];exact aZ.2 (.inr hxb)⟩;rw[hno b ?_]
  ·exact hzero b (hfr b hmem).1
  ·intro h;obtain⟨y,hy,hby⟩:=cA.1 h;obtain⟨j,hj⟩:=iz hy;have:=hu1 j i y x b hj hi (by simp only[Fs.bl,Fs.ts]at hby⊢;exact aZ.2 (.inl hby)) (by simp only[Fs.bl];exact aZ.2 (.inr hxb));subst this;rw[hj]at hi;cases hi;have Sm:x.bl.Nodup:=by
    have:∀(l:List Fs),(l.flatMap Fs.bl).Nodup->∀x∈l,x.bl.Nodup:=by
     intro l
     induction l with
     |nil=>intro _ x hx;cases hx
     |cons z r ih=>
      intro hnd x hx;simp only[ck]at hnd;obtain⟨n1,n2,_⟩:=bW.1 hnd;rcases bJ.1 hx with rfl|hx
      ·exact n1
      ·exact ih n2 x hx
    exact this L hnd x hy
   simp only[Fs.bl]at Sm;exact(bW.1 Sm).2.2 b hby b hxb rfl
 have hlen:∀i,H'.length<=i->κ' i=none:=by
  intro i hi;simp only[κ'];rw[bL (by omega)];exact hs.tR i (by omega)
 have a5f:∀(j:Nat) y,H'[j]?=some y->j+2≠H'.length+2:=fun j y hj=>by
  have:=(aJ.1 hj).1;omega
 refine⟨κ',Θ',?_,AF,hn,hno,fun j hj=>bL hj⟩;have Mw:∀b,b<w.heap.size->ρ' b=ρ b:=by
  intro b hlt';simp only[ρ'];cases hi:ix (fun x:Fs=>x.ns.contains b) L with
  |none=>rfl
  |some i=>
   obtain⟨x,hx,hp⟩:=ER hi;have:=(hfr b (cA.2 ⟨x,aE hx,by simp only[Fs.bl];exact aZ.2 (.inr (by simpa using hp))⟩)).1;omega
 have a43:∀b,ρ b≠0->b<w.heap.size:=fun b hb'=>by
  obtain⟨_,_,cs',T,hx⟩:=hu.free b hb';exact(bO.1 hx).1
 refine hs.step k hm hn hlen ?_ ?_ ⟨ρ',?_,?_,?_⟩
 ·intro i u zK;simp only[κ']at zK;split at zK
  ·exact hs.s9 i u zK
  ·cases hx:L[i-n]? with
   |none=>simp[hx]at zK
   |some x=>simp[hx]at zK;subst zK;exact(hL x (aE hx)).2.2.2.2
 ·intro j y hj;have hjl:=a5f j y hj;rcases key j y hj with⟨i,x,rfl,hx,rfl⟩|⟨hlt,hy|hy⟩
  ·obtain⟨q1,q2,q3,q4,_⟩:=hL x (aE hx);exact .inr (.inr ⟨q1,q2,x.v,x.cs,x.ns,AF i x hx,q3,q4.rd,fun g hg=>hts i x g hx hg,fun b hb'=>zy i x b hx hb'⟩)
  ·exact .inl hy
  ·exact .inr (.inl ⟨hjl,hy⟩)
 ·intro b hb';by_cases h:∃(i:Nat) (x:Fs),L[i]?=some x/\b∈x.ns
  ·obtain⟨i,x,hx,HK⟩:=h;have hmem:b∈L.flatMap Fs.bl:=cA.2 ⟨x,aE hx,by simp only[Fs.bl];exact aZ.2 (.inr HK)⟩;exact⟨zy i x b hx HK,.inl (.inl (eD hs.base (hfr b hmem).1)),(hfr b hmem).2⟩
  ·have:ρ' b=ρ b:=by
    simp only[ρ'];cases hi:ix (fun x:Fs=>x.ns.contains b) L with
    |none=>rfl
    |some i=>
     obtain⟨x,hx,hp⟩:=ER hi;exact absurd ⟨i,x,hx,by simpa using hp⟩ h
   rw[this]at hb';exact w5.1 b hb'
 ·intro j e sz rows hj;have hjl:=a5f j _ hj;rcases key j _ hj with⟨i,x,rfl,hx,hy⟩|⟨hlt,hy|hy⟩
  ·simp only[Fs.ob,Ob.row.injEq,sn]at hy;obtain⟨rfl,rfl,rfl⟩:=hy;obtain⟨q1,q2,q3,q4,_⟩:=hL x (aE hx);have Sm:x.ns.Nodup:=by
    have:∀(l:List Fs),(l.flatMap Fs.bl).Nodup->∀x∈l,x.bl.Nodup:=by
     intro l
     induction l with
     |nil=>intro _ x hx;cases hx
     |cons z r ih=>
      intro hnd x hx;simp only[ck]at hnd;obtain⟨n1,n2,_⟩:=bW.1 hnd;rcases bJ.1 hx with rfl|hx
      ·exact n1
      ·exact ih n2 x hx
    exact(bW.1 (this L hnd x (aE hx))).2.1
   exact⟨x.v,x.cs,x.ns,AF i x hx,q3,q4,Sm,fun b hb'=>hns i x b hx hb'⟩
  ·cases hy
  ·obtain⟨v,cs,bs,q1,q2,q3,q4,q5⟩:=w5.2.1 j e sz rows hjl hy;exact⟨v,cs,bs,q1,q2,q3,q4,fun b hb'=>(Mw b (a43 b (by rw[q5 b hb'];omega))).trans (q5 b hb')⟩
 ·intro j y hj;have hjl:=a5f j _ hj;rcases key j _ hj with⟨i,x,rfl,hx,hy⟩|⟨hlt,hy|hy⟩
  ·subst hy;exact Nb.AI rfl
  ·subst hy;trivial
  ·exact(w5.2.2 j y hjl hy).re fun b hb'=>(Mw b (a43 b (by omega))).trans hb'
theorem eN.a2p(hs:eN Γ st κ Θ a w)(hb:Below w.heap.size w w')(L:List Fs)(hL:∀x∈L,x.ok w')(hnd:(L.flatMap Fs.bl).Nodup)(hfr:∀b∈L.flatMap Fs.bl,w.heap.size<=b/\Wr w' b):
 ∃κ' Θ',eN Γ ⟨st.σ,st.H++L.map Fs.ob⟩ κ' Θ' a w'/\Names κ' st.H.length L/\(∀(j:Nat) v,κ j=some v->κ' j=some v)/\(∀b,b∉L.flatMap Fs.ts->Θ' b=Θ b):=by
 obtain⟨κ',Θ',h1,h2,h3,h4,_⟩:=hs.QA hb L hL hnd hfr st.H.length (st.H++L.map Fs.ob) (fun i _=>hs.tR _ (by omega)) (by simp) (by simp) (by
  intro j y hj;by_cases hlt:j<st.H.length
  ·rw[bA hlt]at hj;exact .inr ⟨.inl hlt,.inr hj⟩
  ·rw[bE (by omega),cF]at hj;cases hx:L[j-st.H.length]? with
   |none=>simp[hx]at hj
   |some x=>simp[hx]at hj;exact .inl ⟨j-st.H.length,x,by omega,hx,hj.symm⟩)
 exact⟨κ',Θ',h1,h2,h3,h4⟩
def Y5(H:bY)(d:D):Option (D×aa):=match d with
 | .acc m=>(match H[m]? with|some (.row _ _ _ rows)=>some (.sl rows,[m])|some (.Pf _ rows _)=>some (.sl rows,[m])|some (.tk rows)=>some (.sl rows,[])|_=>none)
 | .ptr _ _=>none
 | .op _ _ _ _=>none
 |d=>some (d.De,[])
def Tj(H:bY):aQ->Option (aQ×aa)
 | []=>some ([],[])
 |d::ds=>match Y5 H d,Tj H ds with|some (e,m),some (es,ms)=>some (e::es,m++ms)|_,_=>none
def vwV(H:bY)(d:D):Option (D×aa):=match d with
 | .agg cs=>(match Tj H cs with|some (es,ms)=>some (.agg es,ms)|none=>none)
 | .ff _=>none
 |d=>Y5 H d
def Jo(H:bY):aQ->Option (aQ×aa)
 | []=>some ([],[])
 |d::ds=>match vwV H d,Jo H ds with|some (e,m),some (es,ms)=>some (e::es,m++ms)|_,_=>none
def Seen(Θ:Nat->Nat)(ms:aa)(b:Nat):Prop:=Θ b=0\/∃m∈ms,Θ b=m+2
theorem Seen.mono{ms ns:aa}{b:Nat}(h:Seen Θ ms b)(hs:∀m∈ms,m∈ns):Seen Θ ns b:=by
 rcases h with h|⟨m,h1,h2⟩
 ·exact .inl h
 ·exact .inr ⟨m,hs m h1,h2⟩
theorem a1D(hs:eN Γ st κ Θ a w){v:Value}{d e:D}{bs:aa}{ms:aa}(h:Y5 st.H d=some (e,ms))(hr:Aw w κ v d bs)(hz:∀b∈bs,Θ b=0):∃b',Rd w v e b'/\∀b∈b',Seen Θ ms b:=by
 cases hr with
 |pure hr=>
  have:Y5 st.H d=some (d.De,[]):=by cases hr<;>rfl
  rw[this]at h;cases h;exact⟨bs,hr.soft,fun b hb=>.inl (hz b hb)⟩
 |acc m _ hk=>
  simp only[Y5]at h;split at h
  ·rename_i k e' sz rows hH;cases h;obtain⟨_,hrl,v2,cs,b2,hk2,hown,vL,hΘ,hd⟩:=hs.ob m _ hH;rw[hk]at hk2;cases hk2;refine⟨_,z8 hrl hown vL,fun b hb=>?_⟩;rcases aZ.1 hb with hb|hb
   ·simp only[mY]at hb;exact .inr ⟨m,by simp,hΘ b hb⟩
   ·cases k with
    |cl=>exact .inr ⟨m,by simp,(hd.2.1 b hb).1⟩
    |sh=>exact .inl (hd b hb)
    |uq=>exact .inl (hd b hb)
    |mv n=>exact .inl (hd b hb)
    |ho p n=>exact .inl (hd b hb)
  ·rename_i sz rows u hH;cases h;obtain⟨_,_,v2,b2,hk2,hrd,_,Nk⟩:=hs.ob m _ hH;rw[hk]at hk2;cases hk2;exact⟨b2,hrd,fun b hb=>.inr ⟨m,by simp,(Nk b hb).1⟩⟩
  ·rename_i rows hH;cases h;obtain⟨v2,b2,hk2,hrd,UR⟩:=hs.ob m _ hH;rw[hk]at hk2;cases hk2;exact⟨b2,hrd,fun b hb=>.inl (UR b hb)⟩
  ·cases h
 |ptr=>simp[Y5]at h
 |op=>simp[Y5]at h
theorem a3j(hs:eN Γ st κ Θ a w):∀ {ds es:aQ} {vs:bp} {bs ms:aa},Tj st.H ds=some (es,ms)->fk w κ vs ds bs->(∀b∈bs,Θ b=0)->∃b',p6 w vs es b'/\∀b∈b',Seen Θ ms b:=by
 intro ds
 induction ds with
 |nil=>
  intro es vs bs ms h hr _;simp only[Tj,ay,cq]at h;obtain⟨rfl,rfl⟩:=h;cases hr;exact⟨[],.nil,by simp⟩
 |cons d ds ih=>
  intro es vs bs ms h hr hz;simp only[Tj]at h;split at h
  ·rename_i e m es' ms' h1 h2;cases h;cases hr with
   |cons v vs _ _ b1 b2 hv hc hcs=>
    obtain⟨c1,q1,q2⟩:=a1D hs h1 hc (fun b hb=>hz b (by simp[hb]));obtain⟨c2,p1,p2⟩:=ih h2 hcs (fun b hb=>hz b (by simp[hb]));refine⟨c1++c2,.cons _ _ _ _ _ _ hv q1 p1,fun b hb=>?_⟩;rcases aZ.1 hb with hb|hb
    ·exact(q2 b hb).mono (fun m hm=>by simp[hm])
    ·exact(p2 b hb).mono (fun m hm=>by simp[hm])
  ·cases h
theorem a6z(hs:eN Γ st κ Θ a w){v:Value}{d e:D}{bs ms:aa}(h:vwV st.H d=some (e,ms))(hr:ue w κ v d bs)(hz:∀b∈bs,Θ b=0):∃b',Rd w v e b'/\∀b∈b',Seen Θ ms b:=by
 by_cases vK:∃ds,d=.agg ds
 ·obtain⟨ds,rfl⟩:=vK;obtain⟨cs,rfl,hcs⟩:=hr.HG;simp only[vwV]at h;split at h
  ·rename_i es ms' h1;cases h;obtain⟨b',q1,q2⟩:=a3j hs h1 hcs hz;exact⟨b',.agg _ _ _ q1,q2⟩
  ·cases h
 ·have hc:Aw w κ v d bs:=by
   cases hr with
   |v hr=>cases hr with
    |cell hr=>exact hr
    |agg=>exact absurd ⟨_,rfl⟩ vK
   |ff=>simp[vwV]at h
  have e1:vwV st.H d=Y5 st.H d:=by
   cases d<;>first|rfl|exact absurd ⟨_,rfl⟩ vK|simp[vwV]at h
  rw[e1]at h;exact a1D hs h hc hz
theorem Rs(hs:eN Γ st κ Θ a w):∀ {xs:List Operand} {es:aQ} {ms:aa},Jo st.H (xs.map st.ev)=some (es,ms)->∃b',VF w (xs.map a.eval) es b'/\∀b∈b',Seen Θ ms b:=by
 intro xs
 induction xs with
 |nil=>
  intro es ms h;simp only[bg,Jo,ay,cq]at h;obtain⟨rfl,rfl⟩:=h;exact⟨[],.nil,by simp⟩
 |cons x xs ih=>
  intro es ms h;simp only[au,Jo]at h;split at h
  ·rename_i e m es' ms' h1 h2;cases h;obtain⟨b0,r0,z0⟩:=hs.ev x;obtain⟨c1,q1,q2⟩:=a6z hs h1 r0 z0;obtain⟨c2,p1,p2⟩:=ih h2;refine⟨c1++c2,.cons _ _ _ _ _ _ q1 p1,fun b hb=>?_⟩;rcases aZ.1 hb with hb|hb
   ·exact(q2 b hb).mono (fun m hm=>by simp[hm])
   ·exact(p2 b hb).mono (fun m hm=>by simp[hm])
  ·cases h
def D.shC(d:D):D:=match d with
 | .fr _ _ rows=>.sl rows
 |d=>d
def D.Uv(d:D):D:=match d with
 | .agg cs=>.agg (cs.map D.shC)
 |d=>d.shC
theorem vS.Ei{w:World}:∀ {ds:aQ} {vs:bp} {bs:aa},p6 w vs ds bs->vS w vs ds bs [] []:=by
 intro ds
 induction ds with
 |nil=>intro vs bs h;cases h;exact .nil
 |cons d ds ih=>
  intro vs bs h;cases h with
  |cons v vs _ _ b1 b2 h1 h2 h3=>exact .cons _ _ _ _ _ _ [] [] [] [] h1 (.pure h2) (ih h3)
theorem HT.yR{w:World}{v:Value}{d:D}{bs ts us:aa}(h:HT w v d bs ts us):∃b,Rd w v d.shC b/\∀x∈b,x∈bs\/x∈us:=by
 cases h with
 |pure h=>
  have e:d.shC=d:=by cases h<;>rfl
  exact⟨_,e.symm▸h,fun x hx=>.inl hx⟩
 |fr e sz rows cs ns h1 h2 h3 h4 h5=>exact⟨_,z8 h2 h3 h4.rd,fun x hx=>.inr hx⟩
theorem vS.yR{w:World}{vs:bp}{ds:aQ}{bs ts us:aa}(h:vS w vs ds bs ts us):∃b,p6 w vs (ds.map D.shC) b/\∀x∈b,x∈bs\/x∈us:=by
 induction h with
 |nil=>exact⟨_,.nil,by simp⟩
 |cons v vs d ds b1 b2 t1 t2 u1 u2 h1 h2 _ ih=>
  obtain⟨b,q,s⟩:=h2.yR;obtain⟨b',q',s'⟩:=ih;refine⟨_,.cons _ _ _ _ _ _ h1 q q',fun x hx=>?_⟩;rcases aZ.1 hx with h|h
  ·rcases s x h with h|h<;>simp[h]
  ·rcases s' x h with h|h<;>simp[h]
theorem HU.yR{w:World}{v:Value}{d:D}{bs ts us:aa}(h:HU w v d bs ts us):∃b,Rd w v d.Uv b/\∀x∈b,x∈bs\/x∈us:=by
 cases h with
 |cell h=>
  by_cases vK:∃ds,d=.agg ds
  ·obtain⟨ds,rfl⟩:=vK;cases h with
   |pure h=>cases h with
    |agg cs _ _ h=>
     obtain⟨b,q,s⟩:=(vS.Ei h).yR;exact⟨_,.agg _ _ _ q,s⟩
  ·have e:d.Uv=d.shC:=by cases d<;>first|rfl|exact absurd ⟨_,rfl⟩ vK
   rw[e];exact h.yR
 |agg cs ds bs ts us h=>
  obtain⟨b,q,s⟩:=h.yR;exact⟨_,.agg _ _ _ q,s⟩
def D.XT(d:D):Bool:=match d with
 | .fr _ _ _=>true
 |d=>d.flat
def D.TH(d:D):Bool:=match d with
 | .agg cs=>cs.all D.XT
 |d=>d.XT
def D.RW(d:D):Bool:=match d with
 | .ff vs=>vs.all D.TH
 |d=>d.TH
def D.a6L(d:D):Bool:=match d with
 | .ff _=>false
 |d=>d.TH
theorem HT.own{v:Value}{d:D}{bs ts us:aa}(h:HT w v d bs ts us)(ho:d.XT=true):bs=[]:=by
 cases h with
 |pure h=>exact h.flat (by cases h<;>exact ho)
 |fr=>rfl
theorem vS.own{vs:bp}{ds:aQ}{bs ts us:aa}(h:vS w vs ds bs ts us)(ho:ds.all D.XT=true):bs=[]:=by
 induction h with
 |nil=>rfl
 |cons v vs d ds b1 b2 t1 t2 u1 u2 h1 h2 _ ih=>
  simp only[dP,aR]at ho;rw[h2.own ho.1,ih ho.2];rfl
theorem HU.own{v:Value}{d:D}{bs ts us:aa}(h:HU w v d bs ts us)(ho:d.TH=true):bs=[]:=by
 cases h with
 |cell h=>
  by_cases vK:∃ds,d=.agg ds
  ·obtain⟨ds,rfl⟩:=vK;cases h with
   |pure h=>
    cases h with
    |agg cs _ _ h=>
     simp only[D.TH]at ho;have:∀(es:aQ) (vs:bp) (b:aa),p6 w vs es b->es.all D.XT=true->es.all D.flat=true:=by
      intro es
      induction es with
      |nil=>intros;rfl
      |cons e es ih=>
       intro vs b hh ho;simp only[dP,aR]at ho⊢;cases hh with
       |cons v vs _ _ b1 b2 _ h2 h3=>exact⟨by cases h2<;>exact ho.1,ih _ _ h3 ho.2⟩
     exact p6.flat h (this _ _ _ h ho)
  ·have e:d.TH=d.XT:=by cases d<;>first|rfl|exact absurd ⟨_,rfl⟩ vK
   exact h.own (e▸ho)
 |agg cs ds bs ts us h=>exact h.own ho
theorem zP.own{vs:bp}{ds:aQ}{bs ts us:aa}(h:zP w vs ds bs ts us)(ho:ds.all D.TH=true):bs=[]:=by
 induction h with
 |nil=>rfl
 |cons v vs d ds b1 b2 t1 t2 u1 u2 h2 _ ih=>
  simp only[dP,aR]at ho;rw[h2.own ho.1,ih ho.2];rfl
theorem BD.own{v:Value}{d:D}{bs ts us:aa}(h:BD w v d bs ts us)(ho:d.RW=true):bs=[]:=by
 cases h with
 |v h=>
  have hnt:∀vs,d≠ .ff vs:=by
   intro vs e;subst e;cases h with
   |cell h=>cases h with|pure h=>cases h
  have e:d.RW=d.TH:=by cases d<;>first|rfl|exact absurd rfl (hnt _)
  exact h.own (e▸ho)
 |ff vs ds bs ts us h=>exact h.own ho
theorem Bs{o:Oper}{f:FuncId}{xs:Array Operand}{ts:Array TypeId}(hop:o.op=.call {callee:=.value (.func f),args:=xs,argTypes:=ts})
 (hf:∃fn,P.funcs[f]?=some fn/\fn.body.isSome=true/\(fn.name== "runtime.NumGoroutine")=false):
 (execOp a.eval o).run P w=.ok (.enter f (xs.map a.eval)) w:=by
 obtain⟨fn,h1,h2,h3⟩:=hf;have h2':¬fn.body=none:=by intro hb;simp[hb]at h2
 simp only[cw,ne_eq]at h3;simp[execOp,hop,resolve,Deferred.ofValue,Act.eval,invoke,callFunc,h1,h2',h3]
theorem SN{Q':Exit->Act->World->Prop}{K:Act->World->Prop}{o:Oper}{f t:Nat}{xs:Array Operand}{ts:Array TypeId}{ds:aQ}{ms:aa}{d:D}(hs:eN Γ st κ Θ a w)
 (hop:o.op=.call {callee:=.value (.func f),args:=xs,argTypes:=ts}) (hd:o.dst=some t) (ht:t<Γ.nt) (hds:∃bs,VF w (xs.toList.map a.eval) ds bs/\∀b∈bs,Seen Θ ms b) (hsh:ms=[]\/d.RW=true)
 (qu:Good P f ds d) (hK:∀κ' Θ' a' w',eN Γ ⟨(t,(s8 st.H.length d).1)::st.σ,st.H++(s8 st.H.length d).2⟩ κ' Θ' a' w'->K a' w'):o.wp P a w K Q':=by
 obtain⟨bs,hargs,hz⟩:=hds;let Θc:Nat->Nat:=fun b=>if Θ b=0\/ms.any (fun m=>Θ b==m+2)then 0 else 1
 have Sp:∀b,Seen Θ ms b->Θc b=0:=by
  intro b h;simp only[Θc];rw[bL];rcases h with h|⟨m,h1,h2⟩
  ·exact .inl h
  ·exact .inr (eG.2 ⟨m,h1,by simp[h2]⟩)
 have hc:=qu.2 w Θc _ bs hs.vok hargs (fun b hb=>Sp b (hz b hb)) (fun b hb=>hs.own b (fun e=>hb (Sp b (.inl e)))) (fun b=>by simp only[Θc];split<;>omega);unfold Oper.wp;rw[Bs hop qu.1,Oper.upon_enter];have e:xs.map a.eval=(xs.toList.map a.eval).toArray:=by rw[<-lN,rH]
 rw[e];refine hc.mono ?_;rintro e w' ⟨v,bs',tb,ub,rfl,hb,hr,Pd,htb,hnd,hfr,hsub⟩;show K (a.put o.dst v) w';rw[hd];obtain⟨L,q1,q2,q3,q4,q5⟩:=hr.inst st.H.length;obtain⟨κ',Θ',hs',hnm,_,hno⟩:=hs.a2p hb L q2 (q3▸hnd) (fun b hb'=>hfr b (q3▸hb'));rw[q1]at hs';refine hK κ' Θ' _ w' (hs'.set (t:=t) ht (q5 κ' hnm) fun b hb'=>?_);rw[hno b (q4▸htb b hb')];rcases hsh with OU|hown
 ·by_cases hlt:b<w.heap.size
  ·have h0:=Pd b hb' hlt;simp only[Θc,OU,Jv]at h0;by_cases h1:Θ b=0
   ·exact h1
   ·simp[h1]at h0
  ·by_cases h0:Θ b=0
   ·exact h0
   ·exact absurd (hs.own b h0) hlt
 ·rw[hr.own hown]at hb';cases hb'
theorem a26{Q':Exit->Act->World->Prop}{K:Act->World->Prop}{o:Oper}{f t:Nat}{xs:Array Operand}{ts:Array TypeId}{ds:aQ}{ms:aa}{d:D}(hs:eN Γ st κ Θ a w)
 (hop:o.op=.call {callee:=.value (.func f),args:=xs,argTypes:=ts}) (hd:o.dst=some t) (ht:t<Γ.nt) (hds:Jo st.H (xs.toList.map st.ev)=some (ds,ms)) (hsh:ms=[]\/d.RW=true)
 (qu:Good P f ds d) (hK:∀κ' Θ' a' w',eN Γ ⟨(t,(s8 st.H.length d).1)::st.σ,st.H++(s8 st.H.length d).2⟩ κ' Θ' a' w'->K a' w'):o.wp P a w K Q':=
 SN hs hop hd ht (Rs hs hds) hsh qu hK
def My(d:D):Bool:=match d with
 | .agg cs=>cs.all D.Sv
 | .ff _=>false
 |d=>d.Sv
theorem Zg{v:Value}{d:D}{bs:aa}(hr:ue w κ v d bs)(h:My d=true):Rd w v d bs:=by
 by_cases vK:∃ds,d=.agg ds
 ·obtain⟨ds,rfl⟩:=vK;obtain⟨cs,rfl,hcs⟩:=hr.HG;exact .agg _ _ _ (hcs.pure h)
 ·have hp:d.Sv=true:=by
   cases d<;>first|exact h|exact absurd ⟨_,rfl⟩ vK|simp[My]at h
  cases hr with
  |v hr=>cases hr with
   |cell hr=>cases hr with
    |pure hr=>exact hr
    |acc=>simp[D.Sv]at hp
    |ptr=>simp[D.Sv]at hp
    |op=>simp[D.Sv]at hp
   |agg=>exact absurd ⟨_,rfl⟩ vK
  |ff=>simp[My]at h
theorem QB(hs:eN Γ st κ Θ a w):∀ {xs:List Operand},(xs.map st.ev).all My=true->∃b',VF w (xs.map a.eval) (xs.map st.ev) b'/\∀b∈b',Seen Θ [] b:=by
 intro xs
 induction xs with
 |nil=>intro _;exact⟨[],.nil,by simp⟩
 |cons x xs ih=>
  intro h;simp only[au,dP,aR]at h;obtain⟨b0,r0,z0⟩:=hs.ev x;obtain⟨c2,p1,p2⟩:=ih h.2;refine⟨b0++c2,.cons _ _ _ _ _ _ (Zg r0 h.1) p1,fun b hb=>?_⟩;rcases aZ.1 hb with hb|hb
  ·exact .inl (z0 b hb)
  ·exact p2 b hb
theorem YB{o:Oper}{f t:Nat}{xs:Array Operand}{ts:Array TypeId}{d:D}(hop:o.op=.call {callee:=.value (.func f),args:=xs,argTypes:=ts})(hd:o.dst=some t)(hg:o.guard=none)
 (ht:t<Γ.nt) (hk:(xs.toList.map st.ev).all My=true) (qu:Good P f (xs.toList.map st.ev) d)
 (h:AO P Γ all rest Q ⟨(t,(s8 st.H.length d).1)::st.σ,st.H++(s8 st.H.length d).2⟩):AO P Γ all (o::rest) Q st:=by
 intro κ Θ a w hs;exact wpList_plain hg fun K hK=>SN hs hop hd ht (QB hs hk) (.inl rfl) qu fun κ' Θ' a' w' hs'=>hK _ _ (h κ' Θ' a' w' hs')
theorem a1h{o:Oper}{f t:Nat}{xs:Array Operand}{ts:Array TypeId}{ds:aQ}{ms:aa}{d:D}(hop:o.op=.call {callee:=.value (.func f),args:=xs,argTypes:=ts})(hd:o.dst=some t)(hg:o.guard=none)
 (ht:t<Γ.nt) (hds:Jo st.H (xs.toList.map st.ev)=some (ds,ms)) (hsh:ms=[]\/d.RW=true) (qu:Good P f ds d)
 (h:AO P Γ all rest Q ⟨(t,(s8 st.H.length d).1)::st.σ,st.H++(s8 st.H.length d).2⟩):AO P Γ all (o::rest) Q st:=by
 intro κ Θ a w hs;exact wpList_plain hg fun K hK=>a26 hs hop hd ht hds hsh qu fun κ' Θ' a' w' hs'=>hK _ _ (h κ' Θ' a' w' hs')
def a0D(P:Program)(st:St):ResultVar->Option D
 | .tmp t=>some (lk st.σ t)
 | .cell x T=>match Df P T,lk st.σ x with
  |some ag,.ptr id off=>(match(st.H[id]?).bind Ob.VV with|some cells=>Ip ag (C8 P T) cells off|none=>none)
  |_,_=>none
def Iq(P:Program)(st:St):List ResultVar->Option aQ
 | []=>some []
 |r::rs=>match a0D P st r,Iq P st rs with|some d,some ds=>some (d::ds)|_,_=>none
def a0F(tmps:Array Value):ResultVar->Sem Value
 | .tmp t=>pure (tmps.getD t undef)
 | .cell a t=>do loadVar t (<-asAddr (tmps.getD a undef))
theorem results_eq(fn:Func)(tmps:Array Value):results fn tmps=(do let vs<-fn.results.mapM (a0F tmps);pure (if h:vs.size=1 then vs[0]else .tuple vs)):=by
 unfold results
 congr 1
theorem a0E(hs:eN Γ st κ Θ a w){r:ResultVar}{d:D}(h:a0D P st r=some d):
 ∃v bs,(a0F a.tmps r).run P w=.ok v w/\ue w κ v d bs/\∀b∈bs,Θ b=0:=by
 cases r with
 |tmp t=>
  simp only[a0D,ay]at h;subst h;obtain⟨bs,hr,hz⟩:=hs.slot t;exact⟨_,bs,by simp[a0F],hr,hz⟩
 |cell x T=>
  have hp:pv P st (.load T (.tmp x))=some d:=by
   simp only[a0D]at h;split at h
   ·rename_i ag id off h1 h2;simp only[pv,h1,St.ev,h2];exact h
   ·cases h
  obtain⟨v,bs,hrun,hr,hz⟩:=Oh (o:= {(default:Oper)with op:=.load T (.tmp x)}) hs rfl hp;refine⟨v,bs,?_,hr,hz⟩;simp only[execOp,Act.eval]at hrun;have aBV:∃b off,a.tmps.getD x undef=.pointer (some ⟨b,off,none⟩):=by
   simp only[a0D]at h;split at h
   ·rename_i ag id off h1 h2;obtain⟨b0,r0,_⟩:=hs.slot x;rw[h2]at r0;obtain⟨g,_,hv⟩:=r0.Aq;exact⟨g,off,hv⟩
   ·cases h
  obtain⟨b,off,hv⟩:=aBV;simp only[a0F,hv]at hrun⊢;simp only[Instr.loadAt,Instr.sureAddr,Sem.run_bind,Sem.run_pure,Result.andThen_ok]at hrun;simp only[asAddr,Sem.run_bind,Sem.run_pure,Result.andThen_ok];cases hl:(loadVar T ⟨b,off,none⟩).run P w with
  |ok u w1=>simp only[hl,Result.andThen_ok,Result.ok.injEq,Next.value.injEq]at hrun;rw[hrun.1,hrun.2]
  |halt u w1=>simp[hl]at hrun
theorem Dc(hs:eN Γ st κ Θ a w):∀ {rs:List ResultVar} {ds:aQ},Iq P st rs=some ds->
 ∃(vs:bp) (bs:aa),(rs.mapM (a0F a.tmps)).run P w=.ok vs w/\
  vs.length=rs.length/\ds.length=rs.length/\(∀(i:Nat) d,ds[i]?=some d->∃v b,vs[i]?=some v/\ue w κ v d b/\∀x∈b,x∈bs)/\∀b∈bs,Θ b=0:=by
 intro rs
 induction rs with
 |nil=>
  intro ds h;simp only[Iq,ay]at h;subst h;exact⟨[],[],by simp,rfl,rfl,by simp,by simp⟩
 |cons r rs ih=>
  intro ds h;simp only[Iq]at h;split at h
  ·rename_i d ds' h1 h2;cases h;obtain⟨v,b,k1,k2,k3⟩:=a0E hs h1;obtain⟨vs,bs,m1,m2,m3,m4,m5⟩:=ih h2;refine⟨v::vs,b++bs,?_,by simp[m2],by simp[m3],?_,?_⟩
   ·simp only[Fe,Sem.run_bind,k1,Result.andThen_ok,m1,Sem.run_pure]
   ·intro i x hx;cases i with
    |zero=>simp at hx;subst hx;exact⟨v,b,by simp,k2,by intro y hy;simp[hy]⟩
    |succ i=>
     simp at hx;obtain⟨u,b',q1,q2,q3⟩:=m4 i x hx;exact⟨u,b',by simpa using q1,q2,fun y hy=>by simp[q3 y hy]⟩
   ·intro y hy;rcases aZ.1 hy with hy|hy
    ·exact k3 y hy
    ·exact m5 y hy
  ·cases h
def LN:aQ->D
 | [d]=>d
 |ds=>.ff ds
def xw:Nat->aQ->List (Nat×D)
 |_,[]=>[]
 |k,d::ds=>(k,d)::xw (k+1) ds
theorem Gx:∀(ds:aQ) (k t:Nat),lk (xw k ds) t=if t<k then .any else(ds[t-k]?).getD .any:=by
 intro ds
 induction ds with
 |nil=>intro k t;simp[xw,lk]
 |cons d ds ih=>
  intro k t;simp only[xw,lk];by_cases h:t=k
  ·subst h;simp
  ·rw[b9 h,ih];by_cases h1:t<k
   ·rw[bL (by omega),bL h1]
   ·rw[b9 (by omega),b9 h1];have:t-k=(t-(k+1))+1:=by omega
    rw[this,gR]
theorem VF.at{vs:bp}{ds:aQ}{bs:aa}(h:VF w vs ds bs):vs.length=ds.length/\∀(i:Nat) d,ds[i]?=some d->∃v b,vs[i]?=some v/\Rd w v d b/\∀x∈b,x∈bs:=by
 induction ds generalizing vs bs with
 |nil=>cases h;exact⟨rfl,by simp⟩
 |cons e ds ih=>
  cases h with
  |cons v vs _ _ b1 b2 h2 h3=>
   obtain⟨l,hi⟩:=ih h3;refine⟨by simp[l],fun i d hd=>?_⟩;cases i with
   |zero=>simp at hd;subst hd;exact⟨v,b1,by simp,h2,by intro x hx;simp[hx]⟩
   |succ i=>
    simp at hd;obtain⟨u,b,k1,k3,k4⟩:=hi i d hd;exact⟨u,b,by simpa using k1,k3,fun x hx=>by simp[k4 x hx]⟩
def gb(d:D):Prop:=∃w v bs,Rd w v d bs
theorem p6.rdb{vs:bp}{ds:aQ}{bs:aa}(h:p6 w vs ds bs):∀d∈ds,gb d:=by
 intro d hd;obtain⟨i,hi,rfl⟩:=ei.1 hd;obtain⟨v,b,_,_,hr,_⟩:=h.at (af hi);exact⟨w,v,b,hr⟩
theorem gb.agg{ds:aQ}(h:gb (.agg ds)):∀d∈ds,gb d:=by
 obtain⟨w,v,bs,h⟩:=h;cases h with|agg cs _ _ hx=>exact hx.rdb
theorem gb.sl{rows:List aQ}(h:gb (.sl rows)):rows.length<=maxLen/\∀r∈rows,∀d∈r,gb d:=by
 obtain⟨w,v,bs,h⟩:=h;cases h with
 |zq=>simp
 |qn=>simp
 |sl b off cap sz _ cs bs hb h1 h2 h3 h4 h5=>
  exact⟨by omega,fun r hr d hd=>h5.rdb d (qP.2 ⟨r,hr,hd⟩)⟩
theorem VF.rdb{vs:bp}{ds:aQ}{bs:aa}(h:VF w vs ds bs):∀d∈ds,gb d:=by
 intro d hd;obtain⟨i,hi,rfl⟩:=ei.1 hd;obtain⟨v,b,_,hr,_⟩:=h.at.2 i _ (af hi);exact⟨w,v,b,hr⟩
def a04(z:Option (Nat×Nat))(d:D):D:=match d,z with
 | .nil,some (e,sz+1)=>.fr e (sz+1) []
 |d,_=>d.De
def FX(H:bY)(z:Option (Nat×Nat))(d:D):Option (D×aa×aa):=match d with
 | .acc m=>(match H[m]? with|some (.row k e sz rows)=>(match k with| .uq=>some (.fr e sz rows,[],[m])| .sh=>some (.sl rows,[m],[])| .cl=>none| .mv _=>none| .ho _ _=>none)|_=>none)
 | .ptr _ _=>none
 | .op _ _ _ _=>none
 | .agg _=>none
 | .ff _=>none
 |d=>some (a04 z d,[],[])
def NA(H:bY):List (Option (Nat×Nat))->aQ->Option (aQ×aa×aa)
 |_,[]=>some ([],[],[])
 |zs,d::ds=>match FX H zs.head?.join d,NA H zs.tail ds with|some (e,m,q),some (es,ms,qs)=>some (e::es,m++ms,q++qs)|_,_=>none
def Ui(H:bY)(zs:List (Option (Nat×Nat)))(d:D):Option (D×aa×aa):=match d with
 | .agg cs=>(match NA H zs cs with|some (es,ms,qs)=>some (.agg es,ms,qs)|none=>none)
 |d=>FX H zs.head?.join d
def Br(H:bY):List (List (Option (Nat×Nat)))->aQ->Option (aQ×aa×aa)
 |_,[]=>some ([],[],[])
 |zs,d::ds=>match Ui H (zs.head?.getD []) d,Br H zs.tail ds with|some (e,m,q),some (es,ms,qs)=>some (e::es,m++ms,q++qs)|_,_=>none
def Ql(P:Program)(fn:Func)(d:D)(e:Exit)(st:St):Prop:=
 (e=.ret\/e=.normal)/\∃nz ds es ms qs,Iq P st fn.results.toList=some ds/\Br st.H nz ds=some (es,ms,qs)/\ms.Nodup/\qs.Nodup/\LN es=d
structure RP(Θ ρ:Nat->Nat)(qs bs ts us:List Nat):Prop where
 zero:∀b∈bs,Θ b=0
 top:∀b∈ts,(∃m∈qs,Θ b=m+2)/\b∈us
 mem:∀b∈us,b∈ts\/∃m∈qs,ρ b=m+1
 nd:us.Nodup
theorem RP.nil{ρ:Nat->Nat}{bs:aa}(h:∀b∈bs,Θ b=0):RP Θ ρ [] bs [] []:=⟨h,by simp,by simp,by simp⟩
theorem RP.app{ρ:Nat->Nat}{q1 q2 b1 b2 t1 t2 u1 u2:aa}(hf:∀b,ρ b≠0->Θ b=0)(hq:(q1++q2).Nodup)(h1:RP Θ ρ q1 b1 t1 u1)(h2:RP Θ ρ q2 b2 t2 u2):RP Θ ρ (q1++q2) (b1++b2) (t1++t2) (u1++u2):=by
 refine⟨fun b hb=>?_,fun b hb=>?_,fun b hb=>?_,bW.2 ⟨h1.nd,h2.nd,fun x hx y hy e=>?_⟩⟩
 ·rcases aZ.1 hb with hb|hb
  ·exact h1.zero b hb
  ·exact h2.zero b hb
 ·rcases aZ.1 hb with hb|hb
  ·obtain⟨⟨m,p,q⟩,r⟩:=h1.top b hb;exact⟨⟨m,by simp[p],q⟩,by simp[r]⟩
  ·obtain⟨⟨m,p,q⟩,r⟩:=h2.top b hb;exact⟨⟨m,by simp[p],q⟩,by simp[r]⟩
 ·rcases aZ.1 hb with hb|hb
  ·rcases h1.mem b hb with h|⟨m,p,q⟩
   ·exact .inl (by simp[h])
   ·exact .inr ⟨m,by simp[p],q⟩
  ·rcases h2.mem b hb with h|⟨m,p,q⟩
   ·exact .inl (by simp[h])
   ·exact .inr ⟨m,by simp[p],q⟩
 ·subst e;have hd:=(bW.1 hq).2.2;rcases h1.mem x hx with hx|⟨m,p,q⟩
  ·obtain⟨⟨m,p,q⟩,_⟩:=h1.top x hx;rcases h2.mem x hy with hy|⟨m',p',q'⟩
   ·obtain⟨⟨m',p',q'⟩,_⟩:=h2.top x hy;exact hd m p m' p' (by omega)
   ·have:=hf x (by omega);omega
  ·rcases h2.mem x hy with hy|⟨m',p',q'⟩
   ·obtain⟨⟨m',p',q'⟩,_⟩:=h2.top x hy;have:=hf x (by omega);omega
   ·exact hd m p m' p' (by omega)
theorem TA(z:Option (Nat×Nat)){v:Value}{d:D}{b0:aa}(hr:Rd w v d b0):∃bs,HT w v (a04 z d) bs [] []/\∀b∈bs,b∈b0:=by
 unfold a04;split
 ·rename_i e sz;cases hr;refine⟨[],?_,by simp⟩;have:=HT.fr (w:=w) (.slice none 0 0) e (sz+1) [] [] [] (Nat.succ_pos _) (by simp) (World.ownsRow_nil w 0 e (sz+1)) (.nil _) rfl;simpa[Value.ownBlock]using this
 ·exact⟨b0,.pure hr.soft,fun _ h=>h⟩
section
variable{H:bY}{ρ:Nat->Nat}(hf:∀b,ρ b≠0->Θ b=0)
 (hq:∀m e sz rows,H[m]?=some (.row .uq e sz rows)->∃v cs ns,κ m=some v/\0<sz/\(∀r∈rows,r.length=sz)/\w.ownsRow 0 e sz v rows.length cs/\yS w (vb e) 0 cs rows.flatten ns/\ns.Nodup/\(∀b∈ns,ρ b=m+1)/\∀g,v.ownBlock=some g->Θ g=m+2)
include hf hq
theorem TP{z:Option (Nat×Nat)}{d e:D}{ms qs:aa}{v:Value}{b0:aa}(h:FX H z d=some (e,ms,qs))(hone:v.oneCell'=true)(hr:Aw w κ v d b0)(hz:∀b∈b0,Θ b=0)
 (hm:∀m∈ms,∀k e sz rows,H[m]?=some (.row k e sz rows)->A6 κ Θ ρ w m k rows):∃bs ts us,HT w v e bs ts us/\RP Θ ρ qs bs ts us:=by
 cases hr with
 |pure hr=>
  have:FX H z d=some (a04 z d,[],[]):=by cases hr<;>first|rfl|simp[FX]at h
  rw[this]at h;cases h;obtain⟨bs,hb,Pd⟩:=TA z hr;exact⟨bs,[],[],hb,RP.nil (fun b hb'=>hz b (Pd b hb'))⟩
 |acc m _ hk=>
  simp only[FX]at h;split at h
  ·rename_i k e' sz rows hH;split at h
   ·cases h;obtain⟨v2,cs,ns,r1,r2,r3,r4,r5,r6,r7,r8⟩:=hq m _ _ _ hH;rw[hk]at r1;cases r1;refine⟨[],_,_,.fr v _ _ _ cs ns r2 r3 r4 r5 hone,by simp,fun b hb=>?_,fun b hb=>?_,?_⟩
    ·simp only[mY]at hb;exact⟨⟨m,by simp,r8 b hb⟩,by simp[hb]⟩
    ·rcases aZ.1 hb with hb|hb
     ·exact .inl hb
     ·exact .inr ⟨m,by simp,r7 b hb⟩
    ·refine bW.2 ⟨by cases v.ownBlock<;>simp,r6,fun x hx y hy exy=>?_⟩;subst exy;simp only[mY]at hx;have h1:=r8 x hx;have h2:=hf x (by rw[r7 x hy];omega);omega
   ·cases h;obtain⟨v2,bs,r1,r2,r3,_⟩:=hm m (by simp) _ _ _ _ hH;rw[hk]at r1;cases r1;exact⟨bs,[],[],.pure r2,RP.nil r3⟩
   ·cases h
   ·cases h
   ·cases h
  ·cases h
 |ptr=>simp[FX]at h
 |op=>simp[FX]at h
theorem XY:∀ {ds es:aQ} {zs:List (Option (Nat×Nat))} {ms qs:aa} {vs:bp} {b0:aa},NA H zs ds=some (es,ms,qs)->qs.Nodup->fk w κ vs ds b0->(∀b∈b0,Θ b=0)->
 (∀m∈ms,∀k e sz rows,H[m]?=some (.row k e sz rows)->A6 κ Θ ρ w m k rows)->∃bs ts us,vS w vs es bs ts us/\RP Θ ρ qs bs ts us:=by
 intro ds
 induction ds with
 |nil=>
  intro es zs ms qs vs b0 h _ hr _ _;simp only[NA,ay,cq]at h;obtain⟨rfl,rfl,rfl⟩:=h;cases hr;exact⟨[],[],[],.nil,RP.nil (by simp)⟩
 |cons d ds ih=>
  intro es zs ms qs vs b0 h hnd hr hz hm;simp only[NA]at h;split at h
  ·rename_i e m q es' ms' qs' h1 h2;cases h;cases hr with
   |cons v vs _ _ b1 b2 hv hc hcs=>
    obtain⟨c1,t1,u1,q1,q2⟩:=TP hf hq h1 hv hc (fun b hb=>hz b (by simp[hb])) (fun x hx=>hm x (by simp[hx]));obtain⟨c2,t2,u2,p1,p2⟩:=ih h2 (bW.1 hnd).2.1 hcs (fun b hb=>hz b (by simp[hb])) (fun x hx=>hm x (by simp[hx]));exact⟨_,_,_,.cons _ _ _ _ _ _ _ _ _ _ hv q1 p1,RP.app hf hnd q2 p2⟩
  ·cases h
theorem a0G(hk1:∀(i:Nat) u,κ i=some u->u.oneCell'=true){zs:List (Option (Nat×Nat))}{d e:D}{ms qs:aa}{v:Value}{b0:aa}(h:Ui H zs d=some (e,ms,qs))(hnd:qs.Nodup)(hr:ue w κ v d b0)(hz:∀b∈b0,Θ b=0)
 (hm:∀m∈ms,∀k e sz rows,H[m]?=some (.row k e sz rows)->A6 κ Θ ρ w m k rows):∃bs ts us,HU w v e bs ts us/\RP Θ ρ qs bs ts us:=by
 by_cases vK:∃ds,d=.agg ds
 ·obtain⟨ds,rfl⟩:=vK;obtain⟨cs,rfl,hcs⟩:=hr.HG;simp only[Ui]at h;split at h
  ·rename_i es ms' qs' h1;cases h;obtain⟨bs,ts,us,q1,q2⟩:=XY hf hq h1 hnd hcs hz hm;exact⟨bs,ts,us,.agg _ _ _ _ _ q1,q2⟩
  ·cases h
 ·have e1:Ui H zs d=FX H zs.head?.join d:=by cases d<;>first|rfl|exact absurd ⟨_,rfl⟩ vK
  rw[e1]at h;have hc:Aw w κ v d b0:=by
   cases hr with
   |v hr=>cases hr with
    |cell hr=>exact hr
    |agg=>exact absurd ⟨_,rfl⟩ vK
   |ff=>simp[FX]at h
  cases hc with
  |pure hr=>
   have:FX H zs.head?.join d=some (a04 zs.head?.join d,[],[]):=by cases hr<;>first|rfl|simp[FX]at h
   rw[this]at h;cases h;obtain⟨bs,hb,Pd⟩:=TA zs.head?.join hr;exact⟨bs,[],[],.cell hb,RP.nil (fun b hb'=>hz b (Pd b hb'))⟩
  |acc m _ hk=>
   obtain⟨bs,ts,us,q1,q2⟩:=TP hf hq h (hk1 _ _ hk) (.acc m _ hk) (by simp) hm;exact⟨bs,ts,us,.cell q1,q2⟩
  |ptr=>simp[FX]at h
  |op=>simp[FX]at h
theorem B2(hk1:∀(i:Nat) u,κ i=some u->u.oneCell'=true):∀ {ds es:aQ} {zs:List (List (Option (Nat×Nat)))} {ms qs:aa} {vs:bp},Br H zs ds=some (es,ms,qs)->qs.Nodup->vs.length=ds.length->
 (∀(i:Nat) d,ds[i]?=some d->∃v b,vs[i]?=some v/\ue w κ v d b/\∀x∈b,Θ x=0)->
 (∀m∈ms,∀k e sz rows,H[m]?=some (.row k e sz rows)->A6 κ Θ ρ w m k rows)->∃bs ts us,zP w vs es bs ts us/\RP Θ ρ qs bs ts us:=by
 intro ds
 induction ds with
 |nil=>
  intro es zs ms qs vs h _ hl _ _;simp only[Br,ay,cq]at h;obtain⟨rfl,rfl,rfl⟩:=h;cases vs with
  |nil=>exact⟨[],[],[],.nil,RP.nil (by simp)⟩
  |cons=>simp at hl
 |cons d ds ih=>
  intro es zs ms qs vs h hnd hl hr hm;simp only[Br]at h;split at h
  ·rename_i e m q es' ms' qs' h1 h2;cases h;cases vs with
   |nil=>simp at hl
   |cons v vs=>
    obtain⟨v',b0,hv',hr0,zy⟩:=hr 0 d rfl;simp at hv';subst hv';obtain⟨c1,t1,u1,q1,q2⟩:=a0G hf hq hk1 h1 (bW.1 hnd).1 hr0 zy (fun x hx=>hm x (by simp[hx]));obtain⟨c2,t2,u2,p1,p2⟩:=ih h2 (bW.1 hnd).2.1 (by simpa using hl) (fun i d' OQ=>by
     obtain⟨v',b,k1,k2⟩:=hr (i+1) d' (by simpa using OQ);exact⟨v',b,by simpa using k1,k2⟩) (fun x hx=>hm x (by simp[hx]))
    exact⟨_,_,_,.cons _ _ _ _ _ _ _ _ _ _ q1 p1,RP.app hf hnd q2 p2⟩
  ·cases h
end
theorem P5{H:bY}{z:Option (Nat×Nat)}{d e:D}{ms qs:aa}(h:FX H z d=some (e,ms,qs)):(∀m∈ms,∃e sz rows,H[m]?=some (.row .sh e sz rows))/\∀m∈qs,∃e sz rows,H[m]?=some (.row .uq e sz rows):=by
 cases d with
 |acc m=>
  simp only[FX]at h;split at h
  ·rename_i k e' sz rows hH;split at h
   ·cases h;exact⟨by simp,fun m' hm'=>by simp at hm';subst hm';exact⟨_,_,_,hH⟩⟩
   ·cases h;exact⟨fun m' hm'=>by simp at hm';subst hm';exact⟨_,_,_,hH⟩,by simp⟩
   ·cases h
   ·cases h
   ·cases h
  ·cases h
 |_=>simp[FX]at h<;>(try(obtain⟨_,rfl,rfl⟩:=h;simp))
theorem TQ{H:bY}:∀ {ds es:aQ} {zs:List (Option (Nat×Nat))} {ms qs:aa},NA H zs ds=some (es,ms,qs)->(∀m∈ms,∃e sz rows,H[m]?=some (.row .sh e sz rows))/\∀m∈qs,∃e sz rows,H[m]?=some (.row .uq e sz rows):=by
 intro ds
 induction ds with
 |nil=>intro es zs ms qs h;simp only[NA,ay,cq]at h;obtain⟨rfl,rfl,rfl⟩:=h;simp
 |cons d ds ih=>
  intro es zs ms qs h;simp only[NA]at h;split at h
  ·rename_i e m q es' ms' qs' h1 h2;cases h;have a1:=P5 h1;have a2:=ih h2;refine⟨fun x hx=>?_,fun x hx=>?_⟩<;>rcases aZ.1 hx with hx|hx
   ·exact a1.1 x hx
   ·exact a2.1 x hx
   ·exact a1.2 x hx
   ·exact a2.2 x hx
  ·cases h
theorem Uj{H:bY}{zs:List (Option (Nat×Nat))}{d e:D}{ms qs:aa}(h:Ui H zs d=some (e,ms,qs)):(∀m∈ms,∃e sz rows,H[m]?=some (.row .sh e sz rows))/\∀m∈qs,∃e sz rows,H[m]?=some (.row .uq e sz rows):=by
 by_cases vK:∃ds,d=.agg ds
 ·obtain⟨ds,rfl⟩:=vK;simp only[Ui]at h;split at h
  ·rename_i es ms' qs' h1;cases h;exact TQ h1
  ·cases h
 ·have e1:Ui H zs d=FX H zs.head?.join d:=by cases d<;>first|rfl|exact absurd ⟨_,rfl⟩ vK
  rw[e1]at h;exact P5 h
theorem xd{H:bY}:∀ {ds es:aQ} {zs:List (List (Option (Nat×Nat)))} {ms qs:aa},Br H zs ds=some (es,ms,qs)->(∀m∈ms,∃e sz rows,H[m]?=some (.row .sh e sz rows))/\∀m∈qs,∃e sz rows,H[m]?=some (.row .uq e sz rows):=by
 intro ds
 induction ds with
 |nil=>intro es zs ms qs h;simp only[Br,ay,cq]at h;obtain⟨rfl,rfl,rfl⟩:=h;simp
 |cons d ds ih=>
  intro es zs ms qs h;simp only[Br]at h;split at h
  ·rename_i e m q es' ms' qs' h1 h2;cases h;have a1:=Uj h1;have a2:=ih h2;refine⟨fun x hx=>?_,fun x hx=>?_⟩<;>rcases aZ.1 hx with hx|hx
   ·exact a1.1 x hx
   ·exact a2.1 x hx
   ·exact a1.2 x hx
   ·exact a2.2 x hx
  ·cases h
theorem Good.of{f:FuncId}{fn:Func}{c:Code}{ds:aQ}{d:D}(hf:P.funcs[f]?=some fn)(hb:fn.body=some c)(hn:(fn.name== "runtime.NumGoroutine")=false)
 (hl:ds.length<=fn.ntmps) (h:(∀d∈ds,gb d)->∀Γ:vn,Γ.nt=fn.ntmps->AW P Γ c (Ql P fn d) ⟨xw 0 ds,[]⟩):Good P f ds d:=by
 refine⟨⟨fn,hf,by simp[hb],hn⟩,?_⟩;intro w Θ args bs hvs hargs hz hown h1;obtain⟨hlen,Mt⟩:=hargs.at;refine calls_of_wp hf hb ?_;let Γ:vn:=⟨w,Θ,fun _=>False,fn.ntmps,fun _=>False,hvs⟩
 have hs:eN Γ ⟨xw 0 ds,[]⟩ (fun _=>none) Θ {tmps:=args.toArray++Array.replicate (fn.ntmps-args.toArray.size) undef,defers:=[]} w:=by
  refine⟨rfl,?_,fun _ _=>rfl,by simp,?_,by simp,hown,fun b _ _=>⟨rfl,h1 b⟩,fun b hb=>by have:=h1 b;omega,⟨rfl,rfl,rfl,bU _,fun _ _ _=>rfl⟩,⟨fun _=>0,by simp,by simp,by simp⟩⟩
  ·simp[Γ];omega
  ·intro t;rw[Gx];simp only[x6,zO,xq];cases hd:ds[t]? with
   |none=>exact⟨[],.of (.any _),by simp⟩
   |some x=>
    obtain⟨v,b,k1,k2,k3⟩:=Mt t x hd;refine⟨b,?_,fun y hy=>hz y (k3 y hy)⟩;have hlt:t<args.length:=(aJ.1 k1).1;have:(args.toArray++Array.replicate (fn.ntmps-args.toArray.size) undef).getD t undef=v:=by
     rw[cL,fF (by simpa using hlt)];simp[k1]
    rw[this];exact .of k2
 refine wp_mono (h hargs.rdb Γ rfl _ _ _ _ hs) ?_;rintro e a' w' ⟨PR,κ0,Θ0,hs0,Ce,nz,ds0,es,ms,qs,hres,ZC,OU,MM,rfl⟩;obtain⟨ρ0,hu0⟩:=hs0.vG;have C7:=xd ZC;obtain⟨Θ1,ρ1,hs1,hu1,hm1,Pe,X4⟩:=eN.HM ms hs0 hu0 OU (fun m hm=>by
  obtain⟨e,sz,rows,hH⟩:=C7.1 m hm;exact⟨_,e,sz,rows,hH,rfl⟩)
 obtain⟨vs,bs',m1,m2,m3,m4,m5⟩:=Dc hs0 hres;have hq:∀m e sz rows,PR.H[m]?=some (.row .uq e sz rows)->∃v cs ns,κ0 m=some v/\0<sz/\(∀r∈rows,r.length=sz)/\w'.ownsRow 0 e sz v rows.length cs/\yS w' (vb e) 0 cs rows.flatten ns/\ns.Nodup/\(∀b∈ns,ρ1 b=m+1)/\∀g,v.ownBlock=some g->Θ1 g=m+2:=by
  intro m e sz rows hH;have hnm:m∉ms:=fun hm=>by
   obtain⟨e',sz',dw,FV⟩:=C7.1 m hm;rw[hH]at FV;cases FV
  have PO:(kill PR.H ms)[m]?=some (.row .uq e sz rows):=by rw[kG hnm];exact hH
  obtain⟨v,cs,ns,r1,r2,r3,r4,r5⟩:=hu1.rows m e sz rows PO;obtain⟨p1,p2,v2,_,_,p3,_,_,p4,_⟩:=hs1.ob m _ PO;rw[r1]at p3;cases p3;exact⟨v,cs,ns,r1,p1,p2,r2,r3,r4,r5,p4⟩
 obtain⟨c,ts,us,DU,Bj⟩:=B2 (w:=w') (vs:=vs) (fun b hb=>(hu1.free b hb).1) hq hs0.s9 ZC MM (by omega) (fun i d hd=>by
  obtain⟨v,b,k1,k2,k3⟩:=m4 i d hd;exact⟨v,b,k1,k2,fun x hx=>Pe x (m5 x (k3 x hx))⟩) hm1
 have ML:∃v,(results fn a'.tmps).run P w'=.ok v w'/\BD w' v (LN es) c ts us:=by
  have hrun:(results fn a'.tmps).run P w'=.ok (if h:vs.toArray.size=1 then vs.toArray[0]else .tuple vs.toArray) w':=by
   rw[results_eq,nj];simp[m1]
  cases DU with
  |nil=>exact⟨.tuple #[],by simpa using hrun,.ff [] [] [] [] [] .nil⟩
  |cons v vs d es b1 b2 t1 t2 u1 u2 hv s7=>
   cases s7 with
   |nil=>
    simp only[dD];exact⟨v,by simpa using hrun,.v hv⟩
   |cons v2 vs d2 es b3 b4 t3 t4 u3 u4 Ik s7=>exact⟨.tuple (v::v2::vs).toArray,by simpa using hrun,.ff _ _ _ _ _ (.cons _ _ _ _ _ _ _ _ _ _ hv (.cons _ _ _ _ _ _ _ _ _ _ Ik s7))⟩
 obtain⟨v,UM,Pb⟩:=ML;have OO:Below w.heap.size w w':=⟨hs1.stays.os,hs1.stays.tape,hs1.stays.output,hs1.stays.size,fun b hb=>hs1.stays.block b hb (fun h=>h)⟩
 have Q8:∀b,BB Γ b->w.heap.size<=b:=fun b h=>by
  rcases h with h|h
  ·exact h
  ·exact h.elim
 have hwr:∀b∈us,w.heap.size<=b/\Wr w' b:=by
  intro b hb';rcases Bj.mem b hb' with h|⟨m,hm,hρ⟩
  ·obtain⟨⟨m,hm,hΘ⟩,_⟩:=Bj.top b h;refine⟨Q8 b (hs1.mine b (by omega)),?_⟩;obtain⟨e,sz,rows,hH⟩:=C7.2 m hm;have:=Bj;exact Nx Pb b h
  ·have:=hu1.free b (by omega);exact⟨this.2.1.elim (Q8 b) False.elim,this.2.2⟩
 have post:a'.defers=[]/\∃v,(results fn a'.tmps).run P w'=.ok v w'/\∃u bs' ts us,Ending.returned v=.returned u/\Below w.heap.size w w'/\BD w' u (LN es) bs' ts us/\(∀b∈bs',b<w.heap.size->Θ b=0)/\(∀b∈bs',b∉ts)/\us.Nodup/\
  (∀b∈us,w.heap.size<=b/\Wr w' b)/\∀b∈ts,b∈us:=by
  refine⟨hs0.defers,v,UM,v,c,ts,us,rfl,OO,Pb,fun b hb' hlt=>?_,fun b hb' ht=>?_,Bj.nd,hwr,fun b hb'=>(Bj.top b hb').2⟩
  ·have he:Θ1 b=Θ b:=(hs1.old b hlt (fun h=>h)).1;rw[<-he];exact Bj.zero b hb'
  ·obtain⟨⟨m,_,hΘ⟩,_⟩:=Bj.top b ht;have:=Bj.zero b hb';omega
 rcases Ce with rfl|rfl
 ·exact post
 ·exact post
end
abbrev qj:=List Fs
section
variable{P:Program}{Γ:vn}{Q:Exit->St->Prop}{st:St}{κ:Nat->Option Value}{Θ:Nat->Nat}{a:Act}{w:World}{all:Array Oper}
def Ext(H H':bY):Prop:=∀(i:Nat) o,H[i]?=some o->H'[i]?=some o
theorem SY(σ:List (Nat×D))(H H':bY)(x:Operand):St.ev ⟨σ,H⟩ x=St.ev ⟨σ,H'⟩ x:=by cases x<;>rfl
theorem RY{σ σ':List (Nat×D)}{H H':bY}{op:Op}{d:D}(hx:Ext H H')(he:∀x∈op.operands.toList,St.ev ⟨σ,H⟩ x=St.ev ⟨σ',H'⟩ x)(h:pv P ⟨σ,H⟩ op=some d):pv P ⟨σ',H'⟩ op=some d:=by
 have hm:∀(o:Option Operand),(∀x∈o.toArray.toList,St.ev ⟨σ,H⟩ x=St.ev ⟨σ',H'⟩ x)->o.map (St.ev ⟨σ,H⟩)=o.map (St.ev ⟨σ',H'⟩):=by
  intro o h;cases o with
  |none=>rfl
  |some x=>simp[h x (by simp)]
 cases op<;>simp only[pv]at h⊢ <;>(try cases h)
 case move x=>rw[he x (by simp[Op.operands])]at*
 case assign x=>rw[he x (by simp[Op.operands])]at*
 case nilCheck x=>rw[he x (by simp[Op.operands])]at h;exact h
 case pick c x y=>rw[he c (by simp[Op.operands]),he x (by simp[Op.operands]),he y (by simp[Op.operands])]at h;exact h
 case binOp op t x y t'=>rw[he x (by simp[Op.operands]),he y (by simp[Op.operands])]at h;exact h
 case unOp op t x=>cases op<;>simp only[pv]at h⊢ <;>(try cases h)<;>(rw[he x (by simp[Op.operands])]at h;exact h)
 case convert s d x=>rw[he x (by simp[Op.operands])]at h;exact h
 case field t x f=>rw[he x (by simp[Op.operands])]at h;exact h
 case fieldAddr t x f=>rw[he x (by simp[Op.operands])]at h;exact h
 case indexAddr t x i=>
  rw[he x (by simp[Op.operands]),he i (by simp[Op.operands])]at h;split at h
  ·rename_i e sz rows kk n h1 h2 h3
   (try simp only[h1,h2,h3]);exact h
  ·rename_i e sz id kk n h1 h2 h3
   (try simp only[h1,h2,h3])
   split at h
   ·rename_i k e' sz' rows hH;simp only[hx id _ hH];exact h
   ·cases h
  ·rename_i g o' kk n h1 h2
   (try simp only[h1,h2])
   generalize LY P t=q at h⊢;cases q<;>exact h
  ·cases h
 case load t x=>
  rw[he x (by simp[Op.operands])]at h;split at h
  ·rename_i ag row off h1 h2
   (try simp only[h1,h2]);exact h
  ·rename_i ag id off h1 h2
   (try simp only[h1,h2])
   split at h
   ·rename_i cells hH;obtain⟨ob,hH,CK⟩:=pF.1 hH;simp only[hx id _ hH,aA,CK];exact h
   ·cases h
  ·rename_i ag id i sz off h1 h2
   (try simp only[h1,h2])
   split at h
   ·rename_i p n e' sz' rows hH;simp only[hx id _ hH];exact h
   ·rename_i k e' sz' rows hnh hH;simp only[hx id _ hH];cases k with
    |ho p n=>exact(hnh _ _ rfl).elim
    |_=>exact h
   ·cases h
  ·rename_i ag g o' h1 h2
   (try simp only[h1,h2]);exact h
  ·cases h
 case lookup T x i ok=>
  rw[he x (by simp[Op.operands]),he i (by simp[Op.operands])]at h;split at h
  ·rename_i id h1
   (try simp only[h1])
   split at h
   ·rename_i kv hH;simp only[hx id _ hH];exact h
   ·cases h
  ·cases h
 case extract x i=>rw[he x (by simp[Op.operands])]at h;exact h
 case index t x i=>rw[he x (by simp[Op.operands]),he i (by simp[Op.operands])]at h;exact h
 case slice t x lo hi mx=>
  cases mx with
  |none=>
   simp only[pv]at h⊢;rw[he x (by simp[Op.operands]),hm lo (fun y hy=>he y (by simp only[Op.operands,nE,aZ];exact .inl (.inl (.inr hy)))),
    hm hi (fun y hy=>he y (by simp only[Op.operands,nE,aZ];exact .inl (.inr hy)))]at h
   exact h
  |some m=>simp only[pv]at h;cases h
 case build t parts=>
  have:(parts.toList.map fun p=>(p.1,St.ev ⟨σ,H⟩ p.2))=parts.toList.map fun p=>(p.1,St.ev ⟨σ',H'⟩ p.2):=by
   apply nF;intro p hp;rw[he p.2 (by simp only[Op.operands];simp;exact⟨p.1,by simpa using hp⟩)]
  rw[this]at h;exact h
 case call c=>
  split at h
  ·rename_i x t h1 h2 h3;have UQ:x∈(Op.call c).operands.toList:=by
    simp only[Op.operands,Call.operands,nE,aZ,h2];exact .inr (by simp)
   (try simp only[h1,h2,h3])
   unfold a3B at h⊢;rw[he x UQ]at h;split at h
   ·rename_i s hs;(try simp only[hs]);exact h
   ·rename_i rows hs;(try simp only[hs]);exact h
   ·rename_i hs;(try simp only[hs]);exact h
   ·rename_i id hs
    (try simp only[hs])
    split at h
    ·rename_i kk k e sz rows h4 h5;simp only[h4,hx id _ h5];exact h
    ·cases h
   ·cases h
  ·rename_i x y t t' h1 h2 h3;have UQ:x∈(Op.call c).operands.toList:=by
    simp only[Op.operands,Call.operands,nE,aZ,h2];exact .inr (by simp)
   have hym:y∈(Op.call c).operands.toList:=by
    simp only[Op.operands,Call.operands,nE,aZ,h2];exact .inr (by simp)
   (try simp only[h1,h2,h3])
   rw[he x UQ,he y hym]at h;exact h
  ·cases h
theorem Ti{H H':bY}(hx:Ext H H'){d e:D}{ms:aa}(h:Y5 H d=some (e,ms)):Y5 H' d=some (e,ms):=by
 cases d<;>simp only[Y5]at h⊢ <;>(try exact h)
 split at h
 ·rename_i k e' sz rows hH;simp only[hx _ _ hH];exact h
 ·rename_i sz rows u hH;simp only[hx _ _ hH];exact h
 ·rename_i rows hH;simp only[hx _ _ hH];exact h
 ·cases h
theorem Xp{H H':bY}(hx:Ext H H'):∀ {ds es:aQ} {ms:aa},Tj H ds=some (es,ms)->Tj H' ds=some (es,ms):=by
 intro ds
 induction ds with
 |nil=>intro es ms h;exact h
 |cons d ds ih=>
  intro es ms h;simp only[Tj]at h⊢;split at h
  ·rename_i e m es' ms' h1 h2;rw[Ti hx h1,ih h2];exact h
  ·cases h
theorem a1F{H H':bY}(hx:Ext H H'){d e:D}{ms:aa}(h:vwV H d=some (e,ms)):vwV H' d=some (e,ms):=by
 by_cases vK:∃ds,d=.agg ds
 ·obtain⟨ds,rfl⟩:=vK;simp only[vwV]at h⊢;split at h
  ·rename_i es ms' h1;rw[Xp hx h1];exact h
  ·cases h
 ·by_cases ht:∃vs,d=.ff vs
  ·obtain⟨vs,rfl⟩:=ht;simp[vwV]at h
  ·have e1:∀H,vwV H d=Y5 H d:=by intro H;cases d<;>first|rfl|exact absurd ⟨_,rfl⟩ vK|exact absurd ⟨_,rfl⟩ ht
   rw[e1]at h⊢;exact Ti hx h
theorem Xq{H H':bY}(hx:Ext H H'):∀ {ds es:aQ} {ms:aa},Jo H ds=some (es,ms)->Jo H' ds=some (es,ms):=by
 intro ds
 induction ds with
 |nil=>intro es ms h;exact h
 |cons d ds ih=>
  intro es ms h;simp only[Jo]at h⊢;split at h
  ·rename_i e m es' ms' h1 h2;rw[a1F hx h1,ih h2];exact h
  ·cases h
structure Cp where
 t:Option Nat
 d:D
 r:Nat
 obs:bY
 up:Option (Nat×Ob)
def Looks(H:bY)(vs ds:aQ)(ms:aa):Prop:=Jo H vs=some (ds,ms)\/(vs.all My=true/\ds=vs/\ms=[])
def Lo(P:Program)(H:bY)(σ:List (Nat×D))(o:Oper)(p:Cp):Prop:=
 (pv P ⟨σ,H⟩ o.op=some p.d/\p.obs=[])\/∃(f:FuncId) (xs:Array Operand) (ts:Array TypeId) (ds:aQ) (ms:aa) (d:D),o.op=.call {callee:=.value (.func f),args:=xs,argTypes:=ts}/\
  Looks H (xs.toList.map (St.ev ⟨σ,H⟩)) ds ms/\(ms=[]\/d.RW=true)/\Good P f ds d/\(s8 p.r d=(p.d,p.obs)\/(d.a6L=true/\p.d=d.Uv/\p.obs=[]))
def Qi(P:Program)(H:bY)(σ:List (Nat×D))(o:Oper)(p:Cp):Prop:=
 (∃T zs,o.op=.alloc T/\tz P T=some zs/\p.d=.ptr p.r 0/\p.obs=[.box zs])\/∃T x ds,o.op=.box T x/\(St.ev ⟨σ,H⟩ x).cellsOf=some ds/\p.d=.ptr p.r 0/\p.obs=[.box ds]
def Qk(P:Program)(H:bY)(σ:List (Nat×D))(o:Oper)(p:Cp):Prop:=
 ∃T e sz len parts zs ds es,o.op=.buildSlice T len parts/\LY P T=some (e,sz)/\tz P e=some zs/\0<sz/\len*sz<=16777216/\
  zm (um len sz) (List.replicate len zs).flatten (parts.toList.map fun q=>(q.1,St.ev ⟨σ,H⟩ q.2))=some ds/\Jz H ds=some (es,[])/\p.d=.acc p.r/\p.obs=[.row (zB (Xo H e 0 ds)) e sz (chunk sz len es)]
def Qj(P:Program)(H:bY)(σ:List (Nat×D))(o:Oper)(p:Cp):Prop:=
 ∃T e sz len parts zs ds,o.op=.buildSlice T len parts/\LY P T=some (e,sz)/\tz P e=some zs/\0<sz/\len*sz<=16777216/\
  zm (um len sz) (List.replicate len zs).flatten (parts.toList.map fun q=>(q.1,St.ev ⟨σ,H⟩ q.2))=some ds/\ds.all D.Sv=true/\ds.all D.flat=true/\p.d=.sl (chunk sz len ds)/\p.obs=[]
def Jw(P:Program)(H:bY)(σ:List (Nat×D))(o:Oper)(p:Cp):Prop:=Lo P H σ o p\/Qi P H σ o p\/Qk P H σ o p\/Qj P H σ o p
def a7X(P:Program)(Γ:vn)(all:Array Oper)(H:bY)(σ:List (Nat×D))(o:Oper)(p:Cp):Prop:=
 ∃t,p.t=some t/\p.up=none/\o.dst=some t/\t<Γ.nt/\((o.guard=none/\Jw P H σ o p)\/
  (∃(j s:Nat) (want b:Bool),o.guard=some (j,want)/\(all[j]?).bind (·.dst)=some s/\lk σ s=.bool b/\((b=want/\Jw P H σ o p)\/(b≠want/\p.d=.ff []/\p.obs=[])))\/
  ∃(j s:Nat) (want:Bool),o.guard=some (j,want)/\(all[j]?).bind (·.dst)=some s/\lk σ s=.ff []/\p.d=.ff []/\p.obs=[])
def a7W(P:Program)(H:bY)(σ:List (Nat×D))(o:Oper)(p:Cp):Prop:=
 p.t=none/\p.obs=[]/\o.dst=none/\o.guard=none/\∃T x y id ds,o.op=.store T x y/\St.ev ⟨σ,H⟩ x=.ptr id 0/\H.length<=id/\(St.ev ⟨σ,H⟩ y).cellsOf=some ds/\Uy P T=true/\ds.length=C8 P T/\p.up=some (id,.box ds)
def vR(P:Program)(Γ:vn)(all:Array Oper)(H:bY)(σ:List (Nat×D))(o:Oper)(p:Cp):Prop:=a7X P Γ all H σ o p\/a7W P H σ o p
def Cp.slot(p:Cp)(σ:List (Nat×D)):List (Nat×D):=match p.t with|some t=>(t,p.d)::σ|none=>σ
def Cp.fill(n:Nat)(p:Cp)(acc:bY):bY:=match p.up with|some (id,ob)=>acc.set (id-n) ob|none=>acc++p.obs
def Cp.a9i(n:Nat)(p:Cp)(U:aa)(acc:bY):Prop:=match p.up with|some (id,ob)=>id∉U/\n<=id/\∃zs ds,acc[id-n]?=some (.box zs)/\ob=.box ds/\zs.length=ds.length|none=>True
def Cp.ups(p:Cp)(U:aa):aa:=match p.up with|some (id,_)=>id::U|none=>U
def Mk(P:Program)(Γ:vn)(all:Array Oper)(H:bY)(K:List (Nat×D)->bY->Prop):List Oper->List (Nat×D)->bY->aa->Prop
 | [],σ,acc,_=>K σ acc
 |o::os,σ,acc,U=>∃p:Cp,p.r=H.length+acc.length/\vR P Γ all H σ o p/\p.a9i H.length U acc/\Mk P Γ all H K os (p.slot σ) (p.fill H.length acc) (p.ups U)
theorem Bw{Q':Exit->Act->World->Prop}{ops:Array Oper}{i:Nat}{o:Oper}{K:Act->World->Prop}(hi:ops[i]?=some o)(hw:Region.wanted o (yielded ops a.tmps)=true)(h:o.wp P a w K Q'):wpOp P ops Q' i K a w:=by
 unfold wpOp;simp only[hi,hw,qk];exact .inl h
theorem eN.a7C(hs:eN Γ st κ Θ a w){ops:Array Oper}{j s:Nat}{b:Bool}(hj:(ops[j]?).bind (·.dst)=some s)(hb:lk st.σ s=.bool b):yielded ops a.tmps j=some b:=by
 obtain⟨bs,r,_⟩:=hs.slot s;rw[hb]at r;have hv:=r.xz;have hlt:s<a.tmps.size:=by
  rcases fN s a.tmps.size with h|h
  ·exact h
  ·exfalso;rw[cL,td h]at hv;simp[undef]at hv
 have h1:a.tmps[s]?=some (.bool b):=by
  rw[cL,cj hlt]at hv;rw[cj hlt];simpa using hv
 simp[yielded,hj,h1]
theorem OD{st wz:St}{ops:Array Oper}{o:Oper}(h:∀t∈o.looksAt ops,lk st.σ t=lk wz.σ t):∀x∈o.op.operands.toList,st.ev x=wz.ev x:=by
 intro x hx;cases x with
 |tmp t=>
  refine h t ?_;unfold Oper.looksAt;exact aZ.2 (.inl (cI.2 ⟨.tmp t,hx,rfl⟩))
 |const v=>rfl
 |global g=>rfl
 |func f=>rfl
theorem Gw(l:List (Nat×D))(σ:List (Nat×D))(t:Nat):(∀p∈l,p.1≠t)->lk (l++σ) t=lk σ t:=by
 induction l with
 |nil=>intro _;rfl
 |cons q l ih=>
  intro h;obtain⟨u,d⟩:=q;simp only[si,lk];rw[b9 (fun e=>h (u,d) (by simp) e.symm)];exact ih (fun p hp=>h p (by simp[hp]))
theorem Ji(l:List (Nat×D))(σ:List (Nat×D))(p:Nat×D)(hp:p∈l)(hd:∀q∈l,q.1=p.1->q=p):lk (l++σ) p.1=p.2:=by
 induction l with
 |nil=>cases hp
 |cons q l ih=>
  obtain⟨u,d⟩:=q;simp only[si,lk];by_cases e:p.1=u
  ·rw[bL e];have:=hd (u,d) (by simp) e.symm;rw[<-this]
  ·rw[b9 e];rcases bJ.1 hp with rfl|hp
   ·exact absurd rfl e
   ·exact ih hp (fun q hq=>hd q (by simp[hq]))
def Ye(ops:Array Oper)(n:Nat):Bool:=
 decide (n<=ops.size)&&(decide (n=ops.size)||(decide (n<ops.size)&&(Region.sinkB .any ops n&&Region.chainB .any ops n)))&&
 Region.seqB .any ops (ops.size-n) n (Array.replicate n true++Array.replicate (ops.size-n) false)&&
 (List.range n).all fun i=>match ops[i]? with
  |none=>false
  |some o=>(o.after.all fun e=> !Region.binds .any e||decide (e.on<i))&&
   ((o.looksAt ops).all fun t=>(List.range n).all fun j=>match ops[j]? with|some oj=> !(oj.dst==some t)||(decide (j<i)&&Region.waitsFor .any ops i j)|none=>true)&&
   (List.range n).all fun j=>j==i||(match ops[j]? with|some oj=> !(oj.dst==o.dst)||o.dst.isNone|none=>true)
def place(H:bY)(r:Nat)(obs:bY):bY:=H.take r++(obs++H.drop (r+obs.length))
theorem w8{H:bY}{r:Nat}{obs:bY}(h:r+obs.length<=H.length)(j:Nat):(place H r obs)[j]?=if j<r then H[j]? else if j<r+obs.length then obs[j-r]? else H[j]?:=by
 unfold place;have hl:(H.take r).length=r:=by rw[cE];omega
 by_cases h1:j<r
 ·rw[bL h1,bA (by omega),cU,bL h1]
 ·rw[b9 h1,bE (by omega),hl];by_cases h2:j<r+obs.length
  ·rw[bL h2,bA (by omega)]
  ·rw[b9 h2,bE (by omega),fG]
   congr 1;omega
theorem w9{H:bY}{r:Nat}{obs:bY}(h:r+obs.length<=H.length):(place H r obs).length=H.length:=by
 unfold place;simp;omega
theorem Lo.wp{Q':Exit->Act->World->Prop}{σ:List (Nat×D)}{H H':bY}{o:Oper}{p:Cp}{K:Act->World->Prop}(hs:eN Γ ⟨σ,H'⟩ κ Θ a w)(hx:Ext H H'){t:Nat}(hd:o.dst=some t)(ht:t<Γ.nt)(h:Lo P H σ o p)
 (hr:p.r+p.obs.length<=H'.length) (hfree:∀i,i<p.obs.length->κ (p.r+i)=none)
 (hK:∀κ' Θ' a' w',eN Γ ⟨(t,p.d)::σ,place H' p.r p.obs⟩ κ' Θ' a' w'->(∀j,(j<p.r\/p.r+p.obs.length<=j)->κ' j=κ j)->K a' w'):o.wp P a w K Q':=by
 rcases h with⟨h,hno⟩|⟨f,xs,ts,ds,ms,d,hop,hds,hsh,qu,hi⟩
 ·have h':=RY (σ:=σ) (σ':=σ) hx (fun x _=>SY σ H H' x) h;obtain⟨v,bs,hrun,hrd,hz⟩:=H8 hs h';unfold Oper.wp;rw[hrun,Oper.upon_value,hd];have hp:place H' p.r p.obs=H':=by rw[hno];simp[place]
  exact hK κ Θ _ _ (by rw[hp];exact hs.set ht hrd hz) (fun _ _=>rfl)
 ·have hev:xs.toList.map (St.ev ⟨σ,H⟩)=xs.toList.map (St.ev ⟨σ,H'⟩):=nF (fun x _=>SY σ H H' x);have a5Y:∃bs,VF w (xs.toList.map a.eval) ds bs/\∀b∈bs,Seen Θ ms b:=by
   rcases hds with hds|⟨hk,rfl,rfl⟩
   ·have:=Xq hx hds;rw[hev]at this;exact Rs hs this
   ·rw[hev]at hk⊢;exact QB hs hk
  obtain⟨bs,hargs,hz⟩:=a5Y;let Θc:Nat->Nat:=fun b=>if Θ b=0\/ms.any (fun m=>Θ b==m+2)then 0 else 1
  have Sp:∀b,Seen Θ ms b->Θc b=0:=by
   intro b h;simp only[Θc];rw[bL];rcases h with h|⟨m,h1,h2⟩
   ·exact .inl h
   ·exact .inr (eG.2 ⟨m,h1,by simp[h2]⟩)
  have hc:=qu.2 w Θc _ bs hs.vok hargs (fun b hb=>Sp b (hz b hb)) (fun b hb=>hs.own b (fun e=>hb (Sp b (.inl e)))) (fun b=>by simp only[Θc];split<;>omega);unfold Oper.wp;rw[Bs hop qu.1,Oper.upon_enter];have e:xs.map a.eval=(xs.toList.map a.eval).toArray:=by rw[<-lN,rH]
  rw[e];refine hc.mono ?_;rintro e w' ⟨v,bs',tb,ub,rfl,hb,hr',Pd,htb,hnd,hfr,hsub⟩;show K (a.put o.dst v) w';rw[hd];rcases hi with hi|⟨hown,UJ,Rz⟩
  rotate_left
  ·cases hr' with
   |ff=>cases hown
   |v hv=>
    have Nk:bs'=[]:=hv.own (by
     unfold D.a6L at hown;split at hown
     ·cases hown
     ·exact hown)
    obtain⟨b,q,s⟩:=hv.yR;have hp:place H' p.r p.obs=H':=by rw[Rz];simp[place]
    refine hK κ Θ _ w' ?_ (fun _ _=>rfl);rw[hp,UJ];refine(hs.grow hb).set ht (.v (.cell (.pure q))) fun x hx'=>?_
    rcases s x hx' with h|h
    ·rw[Nk]at h;cases h
    ·by_cases h0:Θ x=0
     ·exact h0
     ·have:=hs.own x h0;have:=(hfr x h).1;omega
  obtain⟨L,q1,q2,q3,q4,q5⟩:=hr'.inst p.r;rw[hi]at q1 q5;simp only at q1 q5;have hLl:L.length=p.obs.length:=by have:=congrArg List.length q1;simpa using this
  obtain⟨κ',Θ',hs',hnm,_,hno,hsame⟩:=hs.QA hb L q2 (q3▸hnd) (fun b hb'=>hfr b (q3▸hb')) p.r (place H' p.r p.obs) (fun i hi'=>hfree i (by omega)) (by rw[w9 hr];exact bU _) (by rw[w9 hr];omega) (by
   intro j y hj;rw[w8 hr]at hj;split at hj
   ·rename_i h1;exact .inr ⟨.inl h1,.inr hj⟩
   ·rename_i h1;split at hj
    ·rename_i h2;rw[<-q1,cF]at hj;cases hx':L[j-p.r]? with
     |none=>simp[hx']at hj
     |some x=>simp[hx']at hj;exact .inl ⟨j-p.r,x,by omega,hx',hj.symm⟩
    ·exact .inr ⟨.inr (by omega),.inr hj⟩)
  refine hK κ' Θ' _ w' (hs'.set (t:=t) ht (q5 κ' hnm) fun b hb'=>?_) (fun j hj=>hsame j (by omega));rw[hno b (q4▸htb b hb')];rcases hsh with OU|hown
  ·by_cases hlt:b<w.heap.size
   ·have h0:=Pd b hb' hlt;simp only[Θc,OU,Jv]at h0;by_cases h1:Θ b=0
    ·exact h1
    ·simp[h1]at h0
   ·by_cases h0:Θ b=0
    ·exact h0
    ·exact absurd (hs.own b h0) hlt
  ·rw[hr'.own hown]at hb';cases hb'
theorem eN.T8{σ:List (Nat×D)}{H':bY}(hs:eN Γ ⟨σ,H'⟩ κ Θ a w){r:Nat}(hr:r+1<=H'.length)(hfree:κ r=none){cs:Array Value}{ds:aQ}{bs:aa}(T:TypeId)(hrd:fk w κ cs.toList ds bs)(hz:∀b∈bs,Θ b=0):
 eN Γ ⟨σ,place H' r [.box ds]⟩ (zz κ r (some (.pointer (some ⟨w.heap.size,0,none⟩)))) (fun b=>if b=w.heap.size then r+2 else Θ b) a (w.alloc (.cells cs T)):=by
 have k:=jU.alloc hs (.cells cs T) (tag:=r+2) (by omega);have hn:=zM hfree (some (Value.pointer (some ⟨w.heap.size,0,none⟩)));obtain⟨h1,h2⟩:=fk.stay k hn hrd hz;obtain⟨ρ,hu⟩:=hs.vG;refine hs.put (id:=r) (o:=.box ds) [] ?_ hn ?_ ?_ k (hs.B1 (fun b hb=>by by_cases e:b=w.heap.size<;>simp_all)) ?_ hu (by simp) (by intro e sz rows h;cases h)
 ·intro j y hj;rw[w8 (by simpa using hr)]at hj;split at hj
  ·exact .inr ⟨by omega,hj⟩
  ·split at hj
   ·rename_i h2;simp only[aS,bf]at h2;have e:j=r:=by omega
    subst e;simp at hj;exact .inl ⟨rfl,hj.symm⟩
   ·rename_i h2;simp only[aS,bf]at h2;exact .inr ⟨by omega,hj⟩
 ·intro i hi;rw[w9 (by simpa using hr)]at hi;unfold zz;rw[b9 (by omega)];exact hs.tR i hi
 ·intro i x hx;unfold zz at hx;split at hx
  ·cases hx;rfl
  ·exact hs.s9 i x hx
 ·exact⟨w.heap.size,cs,T,by simp[zz],heap_alloc_new w _,by simp,bs,h1,h2⟩
theorem Qi.wp{Q':Exit->Act->World->Prop}{σ:List (Nat×D)}{H H':bY}{o:Oper}{p:Cp}{K:Act->World->Prop}(hs:eN Γ ⟨σ,H'⟩ κ Θ a w){t:Nat}(hd:o.dst=some t)(ht:t<Γ.nt)(h:Qi P H σ o p)
 (hr:p.r+p.obs.length<=H'.length) (hfree:∀i,i<p.obs.length->κ (p.r+i)=none)
 (hK:∀κ' Θ' a' w',eN Γ ⟨(t,p.d)::σ,place H' p.r p.obs⟩ κ' Θ' a' w'->(∀j,(j<p.r\/p.r+p.obs.length<=j)->κ' j=κ j)->K a' w'):o.wp P a w K Q':=by
 rcases h with⟨T,zs,hop,hz,UJ,Rz⟩|⟨T,x,ds,hop,hc,UJ,Rz⟩
 ·rw[Rz]at hr hfree hK;rw[UJ]at hK;obtain⟨i,z,hi,zy,hsz,hlen,hone,rfl⟩:=zH hz;have hs':=hs.T8 (r:=p.r) hr (by simpa using hfree 0 (by simp)) T (cs:=z.cells) (DZ z.cells.toList hone) (by simp);unfold Oper.wp;have hrun:(execOp a.eval o).run P w=.ok (.value (.pointer (some ⟨w.heap.size,0,none⟩))) (w.alloc (.cells z.cells T)):=by
   simp[execOp,hop,Instr.alloc,zeroValue,typeInfo,hi,zy,newVar,newRow]
  rw[hrun,Oper.upon_value,hd];refine hK _ _ _ _ (hs'.set (t:=t) (d:=.ptr p.r 0) (bs:=[]) ht ?_ (by simp)) (fun j hj=>?_)
  ·exact(Aw.ptr p.r 0 w.heap.size (by simp[zz])).S0
  ·unfold zz;simp only[aS,bf]at hj;rw[b9 (by omega)]
 ·rw[Rz]at hr hfree hK;rw[UJ]at hK;obtain⟨bs,rr,hz⟩:=hs.ev x;rw[SY σ H' H x]at rr;have hcs:=Fm hs.s9 rr hc;have hs':=hs.T8 (r:=p.r) hr (by simpa using hfree 0 (by simp)) T hcs hz;unfold Oper.wp;have hrun:(execOp a.eval o).run P w=.ok (.value (.pointer (some ⟨w.heap.size,0,none⟩))) (w.alloc (.cells (a.eval x).cells T)):=by
   simp[execOp,hop,Instr.box,newVar,newRow]
  rw[hrun,Oper.upon_value,hd];refine hK _ _ _ _ (hs'.set (t:=t) (d:=.ptr p.r 0) (bs:=[]) ht ?_ (by simp)) (fun j hj=>?_)
  ·exact(Aw.ptr p.r 0 w.heap.size (by simp[zz])).S0
  ·unfold zz;simp only[aS,bf]at hj;rw[b9 (by omega)]
theorem eN.a01{σ:List (Nat×D)}{H':bY}(hs:eN Γ ⟨σ,H'⟩ κ Θ a w){r:Nat}(hr:r+1<=H'.length)(hfree:κ r=none){u:Bool}{e sz cap:Nat}{rows:List aQ}{bs:aa}(cur:Array Value)(hsz:0<sz)(hrl:∀x∈rows,x.length=sz)
 (UA:cur.size=cap*sz) (hn:rows.length<=cap) (hcap:cap<=maxLen) (hrd:p6 w (cur.toList.take (rows.length*sz)) rows.flatten bs) (hz:∀b∈bs,Θ b=0) (hq:u=true->bs=[]/\yS w (vb e) 0 (cur.toList.take (rows.length*sz)) rows.flatten bs):
 eN Γ ⟨σ,place H' r [.row (zB u) e sz rows]⟩ (zz κ r (some (.slice (some ⟨w.heap.size,0,none⟩) rows.length cap))) (fun b=>if b=w.heap.size then r+2 else Θ b) a (w.alloc (.cells cur e)):=by
 have k:=jU.alloc hs (.cells cur e) (tag:=r+2) (by omega);have hkn:=zM hfree (some (Value.slice (some ⟨w.heap.size,0,none⟩) rows.length cap));obtain⟨h1,h2⟩:=p6.over k hrd hz;have hlen:(cur.toList.take (rows.length*sz)).length=rows.length*sz:=by
  have:rows.length*sz<=cap*sz:=er _ hn;have h3:cur.toList.length=cap*sz:=by rw[<-UA];simp
  rw[cE,h3,iK this]
 have hown:(w.alloc (.cells cur e)).ownsRow 0 e sz (.slice (some ⟨w.heap.size,0,none⟩) rows.length cap) rows.length (cur.toList.take (rows.length*sz)):=
  ⟨hlen,.inr ⟨w.heap.size,cap,cur,rfl,by omega,heap_alloc_new w _,hn,hcap,UA,rfl⟩⟩
 obtain⟨ρ,hu⟩:=hs.vG;refine hs.put (id:=r) (o:=.row (zB u) e sz rows) [] ?_ hkn ?_ ?_ k (hs.B1 (fun b hb=>by by_cases e:b=w.heap.size<;>simp_all)) ?_ hu (by simp) ?_
 ·intro j y hj;rw[w8 (by simpa using hr)]at hj;split at hj
  ·exact .inr ⟨by omega,hj⟩
  ·split at hj
   ·rename_i h2;simp only[aS,bf]at h2;have e:j=r:=by omega
    subst e;simp at hj;exact .inl ⟨rfl,hj.symm⟩
   ·rename_i h2;simp only[aS,bf]at h2;exact .inr ⟨by omega,hj⟩
 ·intro i hi;rw[w9 (by simpa using hr)]at hi;unfold zz;rw[b9 (by omega)];exact hs.tR i hi
 ·intro i x hx;unfold zz at hx;split at hx
  ·cases hx;rfl
  ·exact hs.s9 i x hx
 ·refine⟨hsz,hrl,_,_,bs,by simp[zz],hown,h1,?_,?_⟩
  ·intro g hg;simp only[Value.ownBlock,ay]at hg;subst hg;simp
  ·cases u<;>exact h2
 ·intro e' sz' dw he;cases u with
  |false=>simp[zB]at he
  |true=>
   simp only[zB,Ob.row.injEq,sn]at he;obtain⟨rfl,rfl,rfl⟩:=he;obtain⟨h0,hF⟩:=hq rfl;subst h0;exact⟨_,_,[],by simp[zz],hown,hF.over k hz,by simp,by simp⟩
theorem Qk.wp{Q':Exit->Act->World->Prop}{σ:List (Nat×D)}{H H':bY}{o:Oper}{p:Cp}{K:Act->World->Prop}(hs:eN Γ ⟨σ,H'⟩ κ Θ a w)(hx:Ext H H'){t:Nat}(hd:o.dst=some t)(ht:t<Γ.nt)(h:Qk P H σ o p)
 (hr:p.r+p.obs.length<=H'.length) (hfree:∀i,i<p.obs.length->κ (p.r+i)=none)
 (hK:∀κ' Θ' a' w',eN Γ ⟨(t,p.d)::σ,place H' p.r p.obs⟩ κ' Θ' a' w'->(∀j,(j<p.r\/p.r+p.obs.length<=j)->κ' j=κ j)->K a' w'):o.wp P a w K Q':=by
 obtain⟨T,e,sz,len,parts,zs,ds,es,hop,hT,hz,hsz,hsmall,hf,habs,UJ,Rz⟩:=h;rw[Rz]at hr hfree hK;rw[UJ]at hK;have hf':zm (um len sz) (List.replicate len zs).flatten (parts.toList.map fun q=>(q.1,St.ev ⟨σ,H'⟩ q.2))=some ds:=by
  rw[<-hf];congr 1
 obtain⟨arr,b0,hrun,PX,hb0,hal,hdl⟩:=BH (st:=⟨σ,H'⟩) hop hT hz hsz hsmall hf' hs;obtain⟨ρ,hu⟩:=hs.vG;obtain⟨bs,q1,q2,q3⟩:=Ts (H:=H) (ρ:=ρ) habs (by simp) PX hb0 (by simp) e 0;have hel:es.length=len*sz:=by rw[<-q1.length,PX.length,hdl]
 obtain⟨c1,c2,c3⟩:=Fo sz len es hel;have hs':=hs.a01 (r:=p.r) hr (by simpa using hfree 0 (by simp)) (u:=Xo H e 0 ds) (e:=e) (sz:=sz) (cap:=len) (rows:=chunk sz len es) (bs:=bs) arr hsz c3 hal (by rw[c1];exact bU _)
  (by unfold maxLen;have:len*1<=len*sz:=dJ _ hsz;omega) (by rw[c1,c2,jV (by simp[hal])];exact q1) q2
  (fun hq=>by
   obtain⟨_,h2,h3⟩:=q3 hq;refine⟨?_,by rw[c1,c2,jV (by simp[hal])];exact h3⟩;cases bs with
   |nil=>rfl
   |cons b bs=>obtain⟨m,hm,_⟩:=h2 b (by simp);cases hm)
 unfold Oper.wp;rw[hrun,Oper.upon_value,hd];rw[c1]at hs';refine hK _ _ _ _ (hs'.set (t:=t) (d:=.acc p.r) (bs:=[]) ht ?_ (by simp)) (fun j hj=>?_)
 ·exact(Aw.acc p.r _ (by simp[zz])).S0
 ·unfold zz;simp only[aS,bf]at hj;rw[b9 (by omega)]
theorem Qj.wp{Q':Exit->Act->World->Prop}{σ:List (Nat×D)}{H H':bY}{o:Oper}{p:Cp}{K:Act->World->Prop}(hs:eN Γ ⟨σ,H'⟩ κ Θ a w){t:Nat}(hd:o.dst=some t)(ht:t<Γ.nt)(h:Qj P H σ o p)
 (hK:∀κ' Θ' a' w',eN Γ ⟨(t,p.d)::σ,place H' p.r p.obs⟩ κ' Θ' a' w'->(∀j,(j<p.r\/p.r+p.obs.length<=j)->κ' j=κ j)->K a' w'):o.wp P a w K Q':=by
 obtain⟨T,e,sz,len,parts,zs,ds,hop,hT,hz,hsz,hsmall,hf,aBE,a7u,UJ,Rz⟩:=h;rw[Rz]at hK;rw[UJ]at hK;have hf':zm (um len sz) (List.replicate len zs).flatten (parts.toList.map fun q=>(q.1,St.ev ⟨σ,H'⟩ q.2))=some ds:=by
  rw[<-hf];congr 1
 obtain⟨arr,b0,hrun,PX,hb0,hal,hdl⟩:=BH (st:=⟨σ,H'⟩) hop hT hz hsz hsmall hf' hs;have hrd:=PX.pure aBE;have aAs:b0=[]:=hrd.flat a7u;subst aAs;obtain⟨c1,c2,c3⟩:=Fo sz len ds hdl;have OO:Below w.heap.size w (w.alloc (.cells arr e)):=by
  have k:=jU.alloc hs (.cells arr e) (tag:=2) (by omega);refine⟨k.os,k.tape,k.output,k.size,fun b hlt=>?_⟩;simp only[World.alloc];rw[Array.getElem?_push,b9 (by omega)]
 have hs':=hs.grow OO;unfold Oper.wp;rw[hrun,Oper.upon_value,hd];have hpl:place H' p.r ([]:bY)=H':=by simp[place]
 rw[hpl]at hK;refine hK _ _ _ _ (hs'.set (t:=t) (d:=.sl (chunk sz len ds)) (bs:=[w.heap.size]) ht ?_ ?_) (fun j hj=>rfl)
 ·have hcell:∀j c,arr.toList[j]?=some c->(w.alloc (.cells arr e)).cell? ⟨w.heap.size,0+j,none⟩=some c:=by
   intro j c hj;simp only[cS,World.cell?,heap_alloc_new w _];simpa using hj
  have hlt:w.heap.size<(w.alloc (.cells arr e)).heap.size:=(bO.1 (heap_alloc_new w _)).1;have:=Rd.sl (w:=w.alloc (.cells arr e)) w.heap.size 0 len sz (chunk sz len ds) arr.toList [] hlt (by rw[c1];exact bU _) (by unfold maxLen;have:len*1<=len*sz:=dJ _ hsz;omega) c3 hcell (by rw[c2];exact hrd.keep (by simp));rw[c1]at this;exact .of this
 ·intro b hb;simp only[cG]at hb;subst hb;cases h:Θ w.heap.size with
  |zero=>rfl
  |succ m=>exact absurd (hs.own w.heap.size (by omega)) (by omega)
theorem Jw.wp{Q':Exit->Act->World->Prop}{σ:List (Nat×D)}{H H':bY}{o:Oper}{p:Cp}{K:Act->World->Prop}(hs:eN Γ ⟨σ,H'⟩ κ Θ a w)(hx:Ext H H'){t:Nat}(hd:o.dst=some t)(ht:t<Γ.nt)(h:Jw P H σ o p)
 (hr:p.r+p.obs.length<=H'.length) (hfree:∀i,i<p.obs.length->κ (p.r+i)=none)
 (hK:∀κ' Θ' a' w',eN Γ ⟨(t,p.d)::σ,place H' p.r p.obs⟩ κ' Θ' a' w'->(∀j,(j<p.r\/p.r+p.obs.length<=j)->κ' j=κ j)->K a' w'):o.wp P a w K Q':=by
 rcases h with h|h|h|h
 ·exact h.wp hs hx hd ht hr hfree hK
 ·exact h.wp hs hd ht hr hfree hK
 ·exact h.wp hs hx hd ht hr hfree hK
 ·exact h.wp hs hd ht hK
theorem eN.a19(hs:eN Γ st κ Θ a w){ops:Array Oper}{j s:Nat}(hj:(ops[j]?).bind (·.dst)=some s)(hb:lk st.σ s=.ff []):yielded ops a.tmps j=none:=by
 obtain⟨bs,r,_⟩:=hs.slot s;rw[hb]at r;have hv:=r.QT;rcases fN s a.tmps.size with hlt|hlt
 ·have h1:a.tmps[s]?=some (.tuple #[]):=by
   rw[cL,cj hlt]at hv;rw[cj hlt];simpa using hv
  simp[yielded,hj,h1]
 ·simp[yielded,hj,td hlt]
def Cp.Ch(p:Cp)(H':bY):bY:=match p.up with|some (id,ob)=>H'.set id ob|none=>place H' p.r p.obs
theorem vR.wp{Q':Exit->Act->World->Prop}{σ:List (Nat×D)}{H H':bY}{ops:Array Oper}{i:Nat}{o:Oper}{p:Cp}{K:Act->World->Prop}(hs:eN Γ ⟨σ,H'⟩ κ Θ a w)(hx:Ext H H')(hi:ops[i]?=some o)(h:vR P Γ ops H σ o p)
 (hr:p.r+p.obs.length<=H'.length) (hfree:∀i,i<p.obs.length->κ (p.r+i)=none) (To:∀id ob,p.up=some (id,ob)->∃zs ds,H'[id]?=some (.box zs)/\ob=.box ds/\zs.length=ds.length)
 (hK:∀κ' Θ' a' w',eN Γ ⟨p.slot σ,p.Ch H'⟩ κ' Θ' a' w'->(∀j,(j<p.r\/p.r+p.obs.length<=j)->κ' j=κ j)->K a' w'):wpOp P ops Q' i K a w:=by
 rcases h with⟨t,hpt,Vl,hd,ht,h⟩|⟨hpt,Rz,hd,hg,T,x,y,id,ds,hop,hev,hlen,hc,hT,hl,Vl⟩
 ·have e1:p.slot σ=(t,p.d)::σ:=by simp[Cp.slot,hpt]
  have e2:p.Ch H'=place H' p.r p.obs:=by simp[Cp.Ch,Vl]
  rw[e1,e2]at hK;rcases h with⟨hg,hc⟩|⟨j,s,want,b,hg,hj,hb,hc⟩|⟨j,s,want,hg,hj,hb,a5X,hno⟩
  ·exact Bw hi (by simp[Region.wanted,hg]) (hc.wp hs hx hd ht hr hfree hK)
  ·have hy:=hs.a7C hj hb;rcases hc with⟨rfl,hc⟩|⟨hne,a5X,hno⟩
   ·exact Bw hi (by simp[Region.wanted,hg,hy]) (hc.wp hs hx hd ht hr hfree hK)
   ·unfold wpOp;have hw:Region.wanted o (yielded ops a.tmps)=false:=by simp[Region.wanted,hg,hy,hne]
    simp only[hi,hw,B6,zO,hd];have hp:place H' p.r p.obs=H':=by rw[hno];simp[place]
    exact hK κ Θ _ _ (by rw[hp,a5X];exact hs.set ht (.ff [] [] [] .nil) (by simp)) (fun _ _=>rfl)
  ·have hy:=hs.a19 hj hb;unfold wpOp;have hw:Region.wanted o (yielded ops a.tmps)=false:=by simp[Region.wanted,hg,hy]
   simp only[hi,hw,B6,zO,hd];have hp:place H' p.r p.obs=H':=by rw[hno];simp[place]
   exact hK κ Θ _ _ (by rw[hp,a5X];exact hs.set ht (.ff [] [] [] .nil) (by simp)) (fun _ _=>rfl)
 ·have e1:p.slot σ=σ:=by simp[Cp.slot,hpt]
  have e2:p.Ch H'=H'.set id (.box ds):=by simp[Cp.Ch,Vl]
  rw[e1,e2]at hK;obtain⟨zs,ds',hz,he,hzl⟩:=To id _ Vl;cases he;obtain⟨w',hrun,hs'⟩:=QN (st:=⟨σ,H'⟩) hop (by rw[SY σ H' H x];exact hev) hz rfl (by rw[SY σ H' H y];exact hc) hT hl (by omega) rfl hs;refine Bw hi (by simp[Region.wanted,hg]) ?_;unfold Oper.wp;rw[hrun,Oper.upon_skip,hd];have e3:zs.take 0++ds++zs.drop (0+ds.length)=ds:=by
   rw[Dn (by omega)];simp
  rw[e3]at hs';exact hK κ Θ _ _ hs' (fun _ _=>rfl)
theorem Lo.congr{H:bY}{σ σ':List (Nat×D)}{o:Oper}{p:Cp}(he:∀x∈o.op.operands.toList,St.ev ⟨σ,H⟩ x=St.ev ⟨σ',H⟩ x)(h:Lo P H σ o p):Lo P H σ' o p:=by
 rcases h with⟨h,hno⟩|⟨f,xs,ts,ds,ms,d,hop,hds,hsh,qu,hi⟩
 ·exact .inl ⟨RY (fun _ _ h=>h) he h,hno⟩
 ·have hm:xs.toList.map (St.ev ⟨σ,H⟩)=xs.toList.map (St.ev ⟨σ',H⟩):=by
   apply nF;intro x hx;refine he x ?_;rw[hop];simp only[Op.operands,Call.operands,nE,aZ];exact .inr hx
  rw[hm]at hds;exact .inr ⟨f,xs,ts,ds,ms,d,hop,hds,hsh,qu,hi⟩
theorem Jw.congr{H:bY}{σ σ':List (Nat×D)}{o:Oper}{p:Cp}(he:∀x∈o.op.operands.toList,St.ev ⟨σ,H⟩ x=St.ev ⟨σ',H⟩ x)(h:Jw P H σ o p):Jw P H σ' o p:=by
 rcases h with h| (h|⟨T,x,ds,hop,hc,UJ,Rz⟩)|⟨T,e,sz,len,parts,zs,ds,es,hop,hT,hz,hsz,hsmall,hf,habs,UJ,Rz⟩|⟨T,e,sz,len,parts,zs,ds,hop,hT,hz,hsz,hsmall,hf,habs,hfl,UJ,Rz⟩
 ·exact .inl (h.congr he)
 ·exact .inr (.inl (.inl h))
 ·exact .inr (.inl (.inr ⟨T,x,ds,hop,by rw[<-he x (by rw[hop];simp[Op.operands])];exact hc,UJ,Rz⟩))
 ·refine .inr (.inr (.inl ⟨T,e,sz,len,parts,zs,ds,es,hop,hT,hz,hsz,hsmall,?_,habs,UJ,Rz⟩));rw[<-hf]
  congr 1
  apply nF;intro q hq;rw[he q.2 ?_];rw[hop];simp only[Op.operands,lN];exact bt.2 ⟨q,hq,rfl⟩
 ·refine .inr (.inr (.inr ⟨T,e,sz,len,parts,zs,ds,hop,hT,hz,hsz,hsmall,?_,habs,hfl,UJ,Rz⟩));rw[<-hf]
  congr 1
  apply nF;intro q hq;rw[he q.2 ?_];rw[hop];simp only[Op.operands,lN];exact bt.2 ⟨q,hq,rfl⟩
theorem vR.congr{H:bY}{σ σ':List (Nat×D)}{ops:Array Oper}{o:Oper}{p:Cp}(he:∀t∈o.looksAt ops,lk σ t=lk σ' t)(h:vR P Γ ops H σ o p):vR P Γ ops H σ' o p:=by
 have hev:=OD (st:=⟨σ,H⟩) (wz:=⟨σ',H⟩) he;have hgu:∀ {j s:Nat} {want:Bool},o.guard=some (j,want)->(ops[j]?).bind (·.dst)=some s->lk σ s=lk σ' s:=by
  intro j s want hg hj;refine he s ?_;unfold Oper.looksAt;refine aZ.2 (.inr ?_);simp[hg,hj]
 rcases h with⟨t,hpt,Vl,hd,ht,h⟩|⟨hpt,Rz,hd,hg,T,x,y,id,ds,hop,hx,hlen,hc,hT,hl,Vl⟩
 ·refine .inl ⟨t,hpt,Vl,hd,ht,?_⟩;rcases h with⟨hg,hc⟩|⟨j,s,want,b,hg,hj,hb,hc⟩|⟨j,s,want,hg,hj,hb,hc⟩
  ·exact .inl ⟨hg,hc.congr hev⟩
  ·refine .inr (.inl ⟨j,s,want,b,hg,hj,by rw[<-hgu hg hj];exact hb,?_⟩);rcases hc with⟨h1,hc⟩|hc
   ·exact .inl ⟨h1,hc.congr hev⟩
   ·exact .inr hc
  ·exact .inr (.inr ⟨j,s,want,hg,hj,by rw[<-hgu hg hj];exact hb,hc⟩)
 ·refine .inr ⟨hpt,Rz,hd,hg,T,x,y,id,ds,hop,?_,hlen,?_,hT,hl,Vl⟩
  ·rw[<-hev x (by rw[hop];simp[Op.operands])];exact hx
  ·rw[<-hev y (by rw[hop];simp[Op.operands])];exact hc
def Cp.sl(p:Cp):Option (Nat×D):=p.t.map fun t=>(t,p.d)
theorem Cp.a3Z(p:Cp)(σ:List (Nat×D)):p.slot σ=p.sl.toList++σ:=by
 unfold Cp.slot Cp.sl;cases p.t<;>rfl
theorem Nj(p:Cp)(ps:List Cp)(σ:List (Nat×D)):((p::ps).filterMap Cp.sl).reverse++σ=(ps.filterMap Cp.sl).reverse++p.slot σ:=by
 rw[Cp.a3Z,AM];cases p.sl<;>simp
theorem vR.a1B{H:bY}{σ:List (Nat×D)}{o:Oper}{p:Cp}(h:vR P Γ all H σ o p):p.up=none\/p.obs=[]:=by
 rcases h with⟨_,_,h,_⟩|⟨_,h,_⟩
 ·exact .inl h
 ·exact .inr h
theorem vR.slots{H:bY}{σ:List (Nat×D)}{o:Oper}{p:Cp}(h:vR P Γ all H σ o p):o.dst=p.t:=by
 rcases h with⟨t,h1,_,h2,_⟩|⟨h1,_,h2,_⟩
 ·rw[h1,h2]
 ·rw[h1,h2]
theorem Mk.unfold{H:bY}{K:List (Nat×D)->bY->Prop}:∀(l:List Oper) (σ:List (Nat×D)) (acc:bY) (U:aa),Mk P Γ all H K l σ acc U->
 ∃(ps:List Cp) (NJ:bY),ps.length=l.length/\(∀(i:Nat) o p,l[i]?=some o->ps[i]?=some p->vR P Γ all H (((ps.take i).filterMap Cp.sl).reverse++σ) o p/\p.r=H.length+acc.length+((ps.take i).flatMap Cp.obs).length/\
  ∀id ob,p.up=some (id,ob)->id∉U/\H.length<=id/\(∃zs ds,ob=.box ds/\zs.length=ds.length/\(acc++(ps.take i).flatMap Cp.obs)[id-H.length]?=some (.box zs))/\∀(i2:Nat) q Cn,i2<i->ps[i2]?=some q->q.up≠some (id,Cn))/\
  K ((ps.filterMap Cp.sl).reverse++σ) NJ/\NJ.length=acc.length+(ps.flatMap Cp.obs).length/\
  (∀k,(∀(i:Nat) q ob,ps[i]?=some q->q.up≠some (H.length+k,ob))->NJ[k]?=(acc++ps.flatMap Cp.obs)[k]?)/\
  ∀(i:Nat) q id ob,ps[i]?=some q->q.up=some (id,ob)->NJ[id-H.length]?=some ob:=by
 intro l
 induction l with
 |nil=>
  intro σ acc U h;have h:K σ acc:=h;exact⟨[],acc,rfl,by simp,by simpa using h,by simp,by simp,by simp⟩
 |cons o l ih=>
  intro σ acc U h;obtain⟨p,hr,hc,hok,s7⟩:=h;obtain⟨ps,NJ,h1,h2,h3,h4,h5,h6⟩:=ih _ _ _ s7;cases To:p.up with
  |none=>
   have ef:p.fill H.length acc=acc++p.obs:=by simp[Cp.fill,To]
   have eu:p.ups U=U:=by simp[Cp.ups,To]
   rw[ef]at h2 h4 h5;rw[eu]at h2;refine⟨p::ps,NJ,by simp[h1],?_,by rw[Nj];exact h3,by rw[h4];simp;omega,?_,?_⟩
   ·intro i o' p' ho hp;cases i with
    |zero=>
     simp at ho hp;subst ho;subst hp;refine⟨by simpa using hc,by simpa using hr,?_⟩;intro id ob he;rw[To]at he;cases he
    |succ i=>
     simp at ho hp;obtain⟨q1,q2,q3⟩:=h2 i o' p' ho hp;refine⟨by rw[wM,Nj];exact q1,by rw[q2];simp;omega,?_⟩;intro id ob he;obtain⟨r1,r2,⟨zs,ds,r3,r4,r5⟩,r6⟩:=q3 id ob he;refine⟨r1,r2,⟨zs,ds,r3,r4,by rw[<-r5];simp⟩,?_⟩;intro i2 q Cn hlt hq;cases i2 with
     |zero=>simp at hq;subst hq;rw[To];simp
     |succ i2=>exact r6 i2 q Cn (by omega) (by simpa using hq)
   ·intro k hk;rw[h5 k (fun i q ob hq=>hk (i+1) q ob (by simpa using hq))];simp
   ·intro i q id ob hq he;cases i with
    |zero=>simp at hq;subst hq;rw[To]at he;cases he
    |succ i=>exact h6 i q id ob (by simpa using hq) he
  |some x=>
   obtain⟨Vs,ob0⟩:=x;have ef:p.fill H.length acc=acc.set (Vs-H.length) ob0:=by simp[Cp.fill,To]
   have eu:p.ups U=Vs::U:=by simp[Cp.ups,To]
   have Y3:p.obs=[]:=by
    rcases hc.a1B with h|h
    ·rw[h]at To;cases To
    ·exact h
   rw[ef]at h2 h4 h5;rw[eu]at h2;simp only[Cp.a9i,To]at hok;obtain⟨u1,u2,zs0,ds0,u3,u4,u5⟩:=hok;have sR:∀(X:bY) (k:Nat),k≠Vs-H.length->(acc.set (Vs-H.length) ob0++X)[k]?=(acc++X)[k]?:=by
    intro X k hk;by_cases hl:k<acc.length
    ·rw[bA (by simpa using hl),bA hl,cJ (tg hk)]
    ·rw[bE (by simpa using hl),bE (by omega)];simp
   have hno:∀(i:Nat) q Cn,ps[i]?=some q->q.up≠some (Vs,Cn):=by
    intro i q Cn hq he;have hlt:i<l.length:=by have:=(aJ.1 hq).1;omega
    have:=(h2 i l[i] q (af hlt) hq).2.2 Vs Cn he;exact this.1 (by simp)
   refine⟨p::ps,NJ,by simp[h1],?_,by rw[Nj];exact h3,by rw[h4];simp[Y3],?_,?_⟩
   ·intro i o' p' ho hp;cases i with
    |zero=>
     simp at ho hp;subst ho;subst hp;refine⟨by simpa using hc,by simpa using hr,?_⟩;intro id ob he;rw[To]at he;cases he;exact⟨u1,u2,⟨zs0,ds0,u4,u5,by simpa using u3⟩,by intro i2 q Cn hlt;omega⟩
    |succ i=>
     simp at ho hp;obtain⟨q1,q2,q3⟩:=h2 i o' p' ho hp;refine⟨by rw[wM,Nj];exact q1,by rw[q2];simp[Y3],?_⟩;intro id ob he;obtain⟨r1,r2,⟨zs,ds,r3,r4,r5⟩,r6⟩:=q3 id ob he;have hne:id≠Vs:=fun e=>r1 (by simp[e])
     refine⟨fun h=>r1 (by simp[h]),r2,⟨zs,ds,r3,r4,?_⟩,?_⟩
     ·rw[<-r5,sR _ _ (by omega)];simp[Y3]
     ·intro i2 q Cn hlt hq;cases i2 with
      |zero=>simp at hq;subst hq;rw[To];intro e;cases e;exact hne rfl
      |succ i2=>exact r6 i2 q Cn (by omega) (by simpa using hq)
   ·intro k hk;rw[h5 k (fun i q ob hq=>hk (i+1) q ob (by simpa using hq))];have hne:k≠Vs-H.length:=fun e=>hk 0 p ob0 rfl (by rw[To,e,show H.length+(Vs-H.length)=Vs from by omega])
    rw[sR _ _ hne];simp[Y3]
   ·intro i q id ob hq he;cases i with
    |zero=>
     simp at hq;subst hq;rw[To]at he;cases he;rw[h5 (Vs-H.length) (fun i q Cn hq=>by rw[show H.length+(Vs-H.length)=Vs from by omega];exact hno i q Cn hq)];have hl:Vs-H.length<acc.length:=(aJ.1 u3).1;rw[bA (by simpa using hl),dR hl]
    |succ i=>exact h6 i q id ob (by simpa using hq) he
theorem eN.same{σ':List (Nat×D)}(h:∀t,lk st.σ t=lk σ' t)(hs:eN Γ st κ Θ a w):eN Γ ⟨σ',st.H⟩ κ Θ a w:=
 ⟨hs.defers,hs.size,hs.tR,hs.s9,fun t=>by show∃bs,ue w κ _ (lk σ' t) bs/\_;rw[<-h t];exact hs.slot t,hs.ob,hs.own,hs.old,hs.mine,hs.stays,hs.vG⟩
theorem eN.room(hs:eN Γ st κ Θ a w)(m:Nat):eN Γ ⟨st.σ,st.H++List.replicate m .gone⟩ κ Θ a w:=by
 have key:∀(j:Nat) y,(st.H++List.replicate m .gone)[j]?=some y->y=.gone\/st.H[j]?=some y:=by
  intro j y hj;by_cases hlt:j<st.H.length
  ·rw[bA hlt]at hj;exact .inr hj
  ·rw[bE (by omega)]at hj;rw[List.getElem?_replicate]at hj;split at hj
   ·cases hj;exact .inl rfl
   ·cases hj
 obtain⟨ρ,hu⟩:=hs.vG;refine⟨hs.defers,hs.size,fun i hi=>hs.tR i (by simp at hi;omega),hs.s9,hs.slot,?_,hs.own,hs.old,hs.mine,hs.stays,ρ,hu.free,?_,?_⟩
 ·intro j o hj;rcases key j o hj with rfl|h
  ·trivial
  ·exact hs.ob j o h
 ·intro id e sz rows hj;rcases key id _ hj with h|h
  ·cases h
  ·exact hu.rows id e sz rows h
 ·intro id o hj;rcases key id _ hj with h|h
  ·subst h;trivial
  ·exact hu.more id o h
theorem sQ{ps:List Cp}{i:Nat}{p:Cp}(h:ps[i]?=some p):ps.flatMap Cp.obs=(ps.take i).flatMap Cp.obs++(p.obs++(ps.drop (i+1)).flatMap Cp.obs):=by
 have e:ps=ps.take i++(p::ps.drop (i+1)):=by
  obtain⟨hlt,rfl⟩:=aJ.1 h;rw[Dp,cO]
 conv=>lhs;rw[e]
 simp
theorem Am{ps:List Cp}:∀ {k:Nat},k<(ps.flatMap Cp.obs).length->∃(i:Nat) (p:Cp) (j:Nat),ps[i]?=some p/\j<p.obs.length/\k=((ps.take i).flatMap Cp.obs).length+j:=by
 induction ps with
 |nil=>intro k h;simp at h
 |cons p ps ih=>
  intro k h;by_cases hk:k<p.obs.length
  ·exact⟨0,p,k,rfl,hk,by simp⟩
  ·simp only[ck,ax]at h;obtain⟨i,q,j,h1,h2,h3⟩:=ih (k:=k-p.obs.length) (by omega);refine⟨i+1,q,j,by simpa using h1,h2,?_⟩;rw[wM,ck,ax];omega
theorem QH{ps:List Cp}{i j:Nat}{p:Cp}(hp:ps[i]?=some p)(hij:i<j):((ps.take i).flatMap Cp.obs).length+p.obs.length<=((ps.take j).flatMap Cp.obs).length:=by
 have h:(ps.take j)[i]?=some p:=by rw[cU,bL hij];exact hp
 have:=sQ h;rw[this];have e:(ps.take j).take i=ps.take i:=by rw[vO,iK (by omega)]
 rw[e];simp only[ax];omega
theorem a1m{id:Nat}{l:List Oper}(n:Nat)(hm:P.follows .mixedOrders=true)(hB:Ye l.toArray n=true)
 (h:Mk P Γ l.toArray st.H (fun σ acc=>AO P Γ l.toArray (l.drop n) Q ⟨σ,st.H++acc⟩) (l.take n) st.σ [] []):AW P Γ (.region id l.toArray true) Q st:=by
 simp only[Ye,aR,pR,bC]at hB;obtain⟨⟨⟨hn,hsc⟩,a2W⟩,Mu⟩:=hB;obtain⟨ps,NJ,hlen,OP,hK,hFl,hFo,hFu⟩:=Mk.unfold _ _ _ _ h;simp only[dZ,bf,vl,cS]at OP hK hFl hFo;have hn':n<=l.length:=by simpa using hn
 have hpl:ps.length=n:=by rw[hlen];simp;omega
 have hop:∀(i:Nat),i<n->∃o p,l.toArray[i]?=some o/\ps[i]?=some p/\o.dst=p.t/\vR P Γ l.toArray st.H (((ps.take i).filterMap Cp.sl).reverse++st.σ) o p/\p.r=st.H.length+((ps.take i).flatMap Cp.obs).length:=by
  intro i hi;have h1:l[i]?=some l[i]:=af (by omega);have h2:ps[i]?=some ps[i]:=af (by omega);have h3:=OP i l[i] ps[i] (by rw[cU,bL hi];exact h1) h2;exact⟨l[i],ps[i],by simp[kN,h1],h2,h3.1.slots,h3.1,h3.2.1⟩
 have UK:∀(i:Nat) p,ps[i]?=some p->p.r=st.H.length+((ps.take i).flatMap Cp.obs).length:=by
  intro i p hp;have hi:i<n:=by have:=(aJ.1 hp).1;omega
  obtain⟨_,p',_,hp',_,_,hr⟩:=hop i hi;rw[hp]at hp';cases hp';exact hr
 have R6:∀(i:Nat) p id ob,ps[i]?=some p->p.up=some (id,ob)->st.H.length<=id/\(∃zs ds,ob=.box ds/\zs.length=ds.length/\((ps.take i).flatMap Cp.obs)[id-st.H.length]?=some (.box zs))/\∀(i2:Nat) q Cn,i2<i->ps[i2]?=some q->q.up≠some (id,Cn):=by
  intro i p id ob hp he;have hi:i<n:=by have:=(aJ.1 hp).1;omega
  have h1:l[i]?=some l[i]:=af (by omega);have h3:=(OP i l[i] p (by rw[cU,bL hi];exact h1) hp).2.2 id ob he;exact⟨h3.2.1,h3.2.2.1,h3.2.2.2⟩
 have ZF:∀(i j:Nat) p q id ob Cn,ps[i]?=some p->ps[j]?=some q->p.up=some (id,ob)->q.up=some (id,Cn)->i=j:=by
  intro i j p q id ob Cn hp hq he Jg;rcases xo i j with h|h|h
  ·exact absurd he ((R6 j q id Cn hq Jg).2.2 i p ob h hp)
  ·exact h
  ·exact absurd Jg ((R6 i p id ob hp he).2.2 j q Cn h hq)
 have ZG:∀(i:Nat) p id ob,ps[i]?=some p->p.up=some (id,ob)->p.obs=[]:=by
  intro i p id ob hp he;have hi:i<n:=by have:=(aJ.1 hp).1;omega
  obtain⟨_,p',_,hp',_,hc,_⟩:=hop i hi;rw[hp]at hp';cases hp';rcases hc.a1B with h|h
  ·rw[h]at he;cases he
  ·exact h
 have hfit:∀(i:Nat) p,ps[i]?=some p->p.r+p.obs.length<=st.H.length+(ps.flatMap Cp.obs).length:=by
  intro i p hp;rw[UK i p hp,sQ hp];simp only[ax];omega
 have Qy:∀(i j:Nat) p q,ps[i]?=some p->ps[j]?=some q->i<j->p.r+p.obs.length<=q.r:=by
  intro i j p q hp hq hij;rw[UK i p hp,UK j q hq];have:=QH hp hij;omega
 have hdist:∀(i j:Nat) p q t,ps[i]?=some p->ps[j]?=some q->p.t=some t->q.t=some t->i=j:=by
  intro i j p q t hp hq he1 Jg;have hi:i<n:=by have:=(aJ.1 hp).1;omega
  have hj:j<n:=by have:=(aJ.1 hq).1;omega
  obtain⟨oi,p',ho,hp',hdi,_⟩:=hop i hi;obtain⟨oj,q',zj,Pa,hdj,_⟩:=hop j hj;rw[hp]at hp';cases hp';rw[hq]at Pa;cases Pa;have:=aj.1 Mu i (bu.2 hi);simp only[ho,aR]at this;have:=aj.1 this.2 j (bu.2 hj);simp only[zj,hdi,hdj,he1,Jg,jW,bN,uc,Option.isNone_some,uc,cZ]at this;exact this.symm
 have Gn:∀(i:Nat) p t,ps[i]?=some p->p.t=some t->∀q∈ps.filterMap Cp.sl,q.1=t->q=(t,p.d):=by
  intro i p t hp hpt q hq he;obtain⟨q',Pa,MM⟩:=cI.1 hq;obtain⟨j,hj,rfl⟩:=ei.1 Pa;have Ju:ps[j]?=some ps[j]:=af hj;unfold Cp.sl at MM;cases hpj:ps[j].t with
  |none=>rw[hpj]at MM;cases MM
  |some u=>
   rw[hpj]at MM;simp only[cv,ay]at MM;subst MM;simp only at he;subst he;have:=hdist j i _ p u Ju hp hpj hpt;subst this;rw[hp]at Ju;cases Ju;rfl
 intro κ Θ a w hs;have main:∀(f:Nat) (listed:Array Bool) (σ':List (Nat×D)) (H':bY) (κ:Nat->Option Value) (Θ:Nat->Nat) (a:Act) (w:World),HeadInv .any l.toArray n listed->
  ((List.range n).filter fun i=> !listed.getD i false).length=f->
  (∀(i:Nat) p t,ps[i]?=some p->p.t=some t->listed.getD i false=true->lk σ' t=p.d)->
  (∀t,(∀(i:Nat) p,ps[i]?=some p->listed.getD i false=true->p.t≠some t)->lk σ' t=lk st.σ t)->
  H'.length=st.H.length+(ps.flatMap Cp.obs).length->Ext st.H H'->
  (∀(i:Nat) p,ps[i]?=some p->listed.getD i false=true->∀(j:Nat) o,p.obs[j]?=some o->(∀(i2:Nat) q ob,ps[i2]?=some q->listed.getD i2 false=true->q.up≠some (p.r+j,ob))->H'[p.r+j]?=some o)->
  (∀(i:Nat) q id ob,ps[i]?=some q->listed.getD i false=true->q.up=some (id,ob)->H'[id]?=some ob/\∃v,κ id=some v)->
  (∀(i:Nat) p,ps[i]?=some p->listed.getD i false=false->∀j,j<p.obs.length->κ (p.r+j)=none)->
  eN Γ ⟨σ',H'⟩ κ Θ a w->
  wpAny P .any l.toArray (fun e a' w'=>∃wz κ' Θ',eN Γ wz κ' Θ' a' w'/\Q e wz) (f+(l.toArray.size-n)) listed a w:=by
  intro f
  induction f with
  |zero=>
   intro listed σ' H' κ Θ a w inv qE hA hB hHl Y0 Vg hHu Vf hs;have hall:∀i,i<n->listed.getD i false=true:=by
    intro i hi;have h0:=cc qE;cases hl:listed.getD i false with
    |true=>rfl
    |false=>
     have:i∈(List.range n).filter fun i=> !listed.getD i false:=fY.2 ⟨bu.2 hi,by simp[hl]⟩
     rw[h0]at this;cases this
   have Z1:listed=Array.replicate n true++Array.replicate (l.toArray.size-n) false:=by
    apply Array.ext
    ·rw[inv.size];simp;simp at hn;omega
    ·intro i h1 h2;by_cases hi:i<n
     ·have:=hall i hi;rw[C0 (by simpa using hi)];simp[h1]at this;simp[this]
     ·have hi':i<l.toArray.size:=by rw[<-inv.size];exact h1
      have:=inv.tail i (by omega) hi';rw[B5 (by simpa using hi)];simp[h1]at this;simp[this]
   rw[cS];have ML:∀t,lk σ' t=lk ((ps.filterMap Cp.sl).reverse++st.σ) t:=by
    intro t;by_cases hex:∃(i:Nat) (p:Cp),ps[i]?=some p/\p.t=some t
    ·obtain⟨i,p,hp,hpt⟩:=hex;have hi:i<n:=by have:=(aJ.1 hp).1;omega
     rw[hA i p t hp hpt (hall i hi)];have:=Ji (ps.filterMap Cp.sl).reverse st.σ (t,p.d) (by rw[eH];exact cI.2 ⟨p,aE hp,by simp[Cp.sl,hpt]⟩) (fun q hq he=>Gn i p t hp hpt q (by simpa using hq) he);exact this.symm
    ·rw[hB t (fun i p hp _ he=>hex ⟨i,p,hp,he⟩),Gw];intro q hq he;obtain⟨p,hp,hps⟩:=cI.1 (eH.1 hq);obtain⟨i,hi,hpi⟩:=ei.1 hp;refine hex ⟨i,p,by rw[<-hpi];exact af hi,?_⟩;unfold Cp.sl at hps;cases hpt:p.t with
     |none=>rw[hpt]at hps;cases hps
     |some u=>rw[hpt]at hps;simp only[cv,ay]at hps;subst hps;simp only at he;rw[he]
   have Yn:H'=st.H++NJ:=by
    apply mW;intro k;by_cases h1:k<st.H.length
    ·rw[bA h1];exact Y0 k _ (af h1)|>.trans (af h1).symm
    ·rw[bE (by omega)];by_cases hex:∃(i:Nat) (q:Cp) (ob:Ob),ps[i]?=some q/\q.up=some (k,ob)
     ·obtain⟨i,q,ob,hq,he⟩:=hex;have hi:i<n:=by have:=(aJ.1 hq).1;omega
      rw[(hHu i q k ob hq (hall i hi) he).1,hFu i q k ob hq he]
     ·have hno:∀(i:Nat) q ob,ps[i]?=some q->q.up≠some (k,ob):=fun i q ob hq he=>hex ⟨i,q,ob,hq,he⟩
      rw[hFo (k-st.H.length) (fun i q ob hq=>by rw[show st.H.length+(k-st.H.length)=k from by omega];exact hno i q ob hq)];by_cases h2:k-st.H.length<(ps.flatMap Cp.obs).length
      ·obtain⟨i,p,j,hp,hj,hk⟩:=Am h2;have hi:i<n:=by have:=(aJ.1 hp).1;omega
       have e3:p.r+j=k:=by rw[UK i p hp];omega
       have h3:=Vg i p hp (hall i hi) j _ (af hj) (fun i2 q ob hq _=>by rw[e3];exact hno i2 q ob hq);rw[e3]at h3;rw[h3,sQ hp,hk,bE (by omega),eL,bA hj,af hj]
      ·rw[cr (by omega),cr (by omega)]
   have hs2:=eN.same (st:=⟨σ',H'⟩) (σ':=(ps.filterMap Cp.sl).reverse++st.σ) ML hs;simp only[Yn]at hs2;have hwp:=hK κ Θ a w hs2;have hdl:(l.drop n).length=l.toArray.size-n:=by simp
   have:=wpAny_of_seq (md:=.any) (l.drop n) n listed a w (fun j=>by simp[fG]) (by rw[hdl,Z1];exact a2W) hwp
   rwa[hdl]at this
  |succ f ih=>
   intro listed σ' H' κ Θ a w inv qE hA hB hHl Y0 Vg hHu Vf hs;have hun:∃i,i<n/\listed.getD i false=false:=by
    have hne:((List.range n).filter fun i=> !listed.getD i false)≠[]:=by
     intro h0;rw[h0]at qE;simp at qE
    obtain⟨i,hi⟩:=wE _ hne;obtain⟨h1,h2⟩:=fY.1 hi;exact⟨i,bu.1 h1,by simpa using h2⟩
   have hsz:=inv.size;rw[show f+1+(l.toArray.size-n)=(f+(l.toArray.size-n))+1 from by omega];refine⟨fun h0=>?_,fun i hi=>?_⟩
   ·exfalso;obtain⟨i,⟨hin,Vi⟩,hmin⟩:=exists_least (p:=fun i=>i<n/\listed.getD i false=false) hun;obtain⟨o,p,ho,_,_,_⟩:=hop i hin;have:i∈Region.ready .any l.toArray listed:=by
     refine mem_ready.2 ⟨getD_in (by rw[hsz];omega) Vi,o,ho,fun e he hb=>?_⟩;have:=aj.1 Mu i (bu.2 hin);simp only[ho,aR]at this;have:=xD.1 this.1.1 e he;simp only[hb,bN,oU,bC]at this;cases hl:listed.getD e.on false with
     |true=>rfl
     |false=>
      have:=hmin e.on ⟨by omega,hl⟩;omega
    rw[h0]at this;cases this
   ·obtain⟨i0,hi0,hl0⟩:=hun;have hin:i<n:=by
     rcases fN i n with h|h
     ·exact h
     ·rcases hsc with he|⟨hn2,a89,hchain⟩
      ·obtain⟨_,oi,hoi,_⟩:=mem_ready.1 hi;have:=(bO.1 hoi).1;omega
      ·exact absurd hi (tail_waits a89 hchain hn2 inv _ i0 rfl hi0 (getD_in (by rw[hsz];omega) hl0) i h)
    obtain⟨o,p,ho,hp,hd,hc,_⟩:=hop i hin;obtain⟨Vi,o',ho',hall⟩:=mem_ready.1 hi;rw[ho]at ho';cases ho';have Cd:=getD_both Vi;have Yr:vR P Γ l.toArray st.H σ' o p:=by
     refine vR.congr (σ:=((ps.take i).filterMap Cp.sl).reverse++st.σ) (σ':=σ') ?_ hc;intro t ht;have L3:=aj.1 Mu i (bu.2 hin);simp only[ho,aR]at L3;have L3:=aj.1 L3.1.2 t ht;by_cases hex:∃(j:Nat) (q:Cp),ps[j]?=some q/\q.t=some t
     ·obtain⟨j,q,hq,NR⟩:=hex;have hj:j<n:=by have:=(aJ.1 hq).1;omega
      obtain⟨oj,q',zj,Pa,hdj,_⟩:=hop j hj;rw[hq]at Pa;cases Pa;have:=aj.1 L3 j (bu.2 hj);simp only[zj,hdj,NR,jW,bN,oU,aR,bC]at this;obtain⟨hji,ZH⟩:=this;obtain⟨oi',Z8,e,he,hb,hon⟩:=Region.waitsFor_spec ZH;rw[ho]at Z8;cases Z8;have hjl:=hall e he hb;rw[hon]at hjl;rw[hA j q t hq NR hjl];refine Ji ((ps.take i).filterMap Cp.sl).reverse st.σ (t,q.d) ?_ (fun q2 Ju Jg=>Gn j q t hq NR q2 ?_ Jg)
      ·rw[eH];exact cI.2 ⟨q,aE (i:=j) (by rw[cU,bL hji];exact hq),by simp[Cp.sl,NR]⟩
      ·obtain⟨q3,UL,zk⟩:=cI.1 (eH.1 Ju);exact cI.2 ⟨q3,bn UL,zk⟩
     ·rw[hB t (fun j q hq _ he=>hex ⟨j,q,hq,he⟩),Gw];intro q hq he;obtain⟨q3,UL,zk⟩:=cI.1 (eH.1 hq);obtain⟨j,hj,hqj⟩:=ei.1 (bn UL);refine hex ⟨j,q3,by rw[<-hqj];exact af hj,?_⟩;unfold Cp.sl at zk;cases hpt:q3.t with
      |none=>rw[hpt]at zk;cases zk
      |some u=>rw[hpt]at zk;simp only[cv,ay]at zk;subst zk;simp only at he;rw[he]
    have hfp:=hfit i p hp;have Z0:∀id ob,p.up=some (id,ob)->∃v,κ id=some v:=by
     intro id ob he;rcases Yr with⟨_,_,h,_⟩|⟨_,_,_,_,T,x,y,id',ds,UG,hx',_,_,_,_,Vl⟩
     ·rw[h]at he;cases he
     ·rw[Vl]at he;cases he;obtain⟨b1,r1,_⟩:=hs.ev x;rw[SY σ' H' st.H x,hx']at r1;obtain⟨g,hk,_⟩:=r1.Aq;exact⟨_,hk⟩
    have ZE:∀id ob,p.up=some (id,ob)->∃zs ds,H'[id]?=some (.box zs)/\ob=.box ds/\zs.length=ds.length:=by
     intro id ob he;obtain⟨u1,⟨zs,ds,u2,u3,u4⟩,_⟩:=R6 i p id ob hp he;refine⟨zs,ds,?_,u2,u3⟩;obtain⟨i1,p1,j1,hp1,Mv,hk1⟩:=Am (aJ.1 u4).1;have UI:ps[i1]?=some p1:=by
      have:=(aJ.1 hp1).1;rw[cU]at hp1;split at hp1
      ·exact hp1
      ·cases hp1
     have hi1:i1<i:=by have:=(aJ.1 hp1).1;simp at this;omega
     have et:(ps.take i).take i1=ps.take i1:=by rw[vO,iK (by omega)]
     rw[et]at hk1;have e1:p1.r+j1=id:=by rw[UK i1 p1 UI];omega
     have CK:p1.obs[j1]?=some (.box zs):=by
      rw[sQ hp1,et,hk1,bE (by omega),eL,bA Mv]at u4;exact u4
     have hl1:listed.getD i1 false=true:=by
      cases hl:listed.getD i1 false with
      |true=>rfl
      |false=>
       have h0:=Vf i1 p1 UI hl j1 Mv;rw[e1]at h0;obtain⟨v,hv⟩:=Z0 id ob he;rw[h0]at hv;cases hv
     have:=Vg i1 p1 UI hl1 j1 _ CK (fun i2 q Cn hq hl Jg=>by
      rw[e1]at Jg;have:=ZF i i2 p q id ob Cn hp hq he Jg;subst this;rw[Cd]at hl;cases hl)
     rw[e1]at this;exact this
    refine Yr.wp hs Y0 ho (by omega) (fun j hj=>Vf i p hp Cd j hj) ZE fun κ' Θ' a' w' hs' hsame=>?_
    have sR:∀(j:Nat),(listed.setIfInBounds i true).getD j false=true↔(j=i\/listed.getD j false=true):=by
     intro j;by_cases e:i=j
     ·subst e;have:i<listed.size:=by rw[hsz];omega
      simp[this]
     ·rw[getD_set_ne false e];constructor
      ·exact .inr
      ·rintro(rfl|h)
       ·exact absurd rfl e
       ·exact h
    have hput:(p.Ch H').length=H'.length:=by
     unfold Cp.Ch;split
     ·simp
     ·exact w9 (by omega)
    have a5h:∀(k:Nat),k<st.H.length->(p.Ch H')[k]?=H'[k]?:=by
     intro k hk;unfold Cp.Ch;split
     ·rename_i id ob he;have:=(R6 i p id ob hp he).1;rw[cJ (by omega)]
     ·rw[w8 (by omega),bL (by rw[UK i p hp];omega)]
    refine ih (listed.setIfInBounds i true) (p.slot σ') (p.Ch H') κ' Θ' a' w' (inv.set hi hin) ?_ ?_ ?_ (by rw[hput];exact hHl) ?_ ?_ ?_ ?_ hs'
    ·have X1:((List.range n).filter fun j=> !(listed.setIfInBounds i true).getD j false)=((List.range n).filter fun j=> !listed.getD j false).erase i:=by
      have hnd:((List.range n).filter fun j=> !listed.getD j false).Nodup:=zN _ Ct;rw[hnd.erase_eq_filter,xE];apply xk;intro j _;by_cases e:j=i
      ·subst e;have:=(sR j).2 (.inl rfl);rw[this];simp
      ·rw[getD_set_ne false (tg e)];simp[e]
     rw[X1,sC (fY.2 ⟨bu.2 hin,by simp[Cd]⟩),qE];rfl
    ·intro j q t hq NR hl;unfold Cp.slot;rcases(sR j).1 hl with rfl|DT
     ·rw[hp]at hq;cases hq;rw[NR];simp[lk]
     ·cases hpt:p.t with
      |none=>exact hA j q t hq NR DT
      |some u=>
       simp only[lk];rw[b9,hA j q t hq NR DT];intro e;have:=hdist j i q p t hq hp NR (by rw[hpt,e]);subst this;rw[Cd]at DT;cases DT
    ·intro t ht;unfold Cp.slot;have s7:=hB t (fun j q hq hl=>ht j q hq ((sR j).2 (.inr hl)));cases hpt:p.t with
     |none=>exact s7
     |some u=>
      simp only[lk];rw[b9 (fun e=>ht i p hp ((sR i).2 (.inl rfl)) (by rw[hpt,e]))];exact s7
    ·intro j y hj;rw[a5h j (aJ.1 hj).1];exact Y0 j y hj
    ·intro j q hq hl k y hy hno;have hkl:=(aJ.1 hy).1;unfold Cp.Ch;split
     ·rename_i id ob he;have hne:q.r+k≠id:=fun e=>hno i p ob hp ((sR i).2 (.inl rfl)) (by rw[e];exact he)
      rw[cJ (tg hne)];rcases(sR j).1 hl with rfl|DT
      ·rw[hp]at hq;cases hq;rw[ZG j p id ob hp he]at hy;simp at hy
      ·exact Vg j q hq DT k y hy (fun i2 q2 Cn Ju Y2=>hno i2 q2 Cn Ju ((sR i2).2 (.inr Y2)))
     ·rw[w8 (by omega)];rcases(sR j).1 hl with rfl|DT
      ·rw[hp]at hq;cases hq;rw[b9 (by omega),bL (by omega),eL];exact hy
      ·have hne:j≠i:=fun e=>by subst e;rw[Cd]at DT;cases DT
       have h3:=Vg j q hq DT k y hy (fun i2 q2 Cn Ju Y2=>hno i2 q2 Cn Ju ((sR i2).2 (.inr Y2)));rcases xF hne with h|h
       ·have:=Qy j i q p hq hp h;rw[bL (by omega)];exact h3
       ·have:=Qy i j p q hp hq h;rw[b9 (by omega),b9 (by omega)];exact h3
    ·intro j q id ob hq hl he;rcases(sR j).1 hl with rfl|DT
     ·rw[hp]at hq;cases hq;obtain⟨zs,ds,z1,_⟩:=ZE id ob he;have hlt:=(aJ.1 z1).1;refine⟨by simp only[Cp.Ch,he];rw[dR hlt],?_⟩;obtain⟨v,hv⟩:=Z0 id ob he;refine⟨v,?_⟩;rw[hsame id (by rw[ZG j p id ob hp he];simp;omega)];exact hv
     ·obtain⟨h1,v,hv⟩:=hHu j q id ob hq DT he;have hout:id<p.r\/p.r+p.obs.length<=id:=by
       rcases fN id p.r with h|h
       ·exact .inl h
       ·rcases fN id (p.r+p.obs.length)with h2|h2
        ·have:=Vf i p hp Cd (id-p.r) (by omega);rw[show p.r+(id-p.r)=id from by omega,hv]at this;cases this
        ·exact .inr h2
      refine⟨?_,v,by rw[hsame id hout];exact hv⟩;unfold Cp.Ch;split
      ·rename_i id2 Cn Jg;have hne:id2≠id:=fun e=>by
        subst e;have:=ZF i j p q id2 Cn ob hp hq Jg he;subst this;rw[Cd]at DT;cases DT
       rw[cJ hne];exact h1
      ·rw[w8 (by omega)];rcases hout with h|h
       ·rw[bL h];exact h1
       ·rw[b9 (by omega),b9 (by omega)];exact h1
    ·intro j q hq hl k hk;have hne:j≠i:=fun e=>by
      subst e;have:=(sR j).2 (.inl rfl);rw[this]at hl;cases hl
     have DT:listed.getD j false=false:=by
      cases h:listed.getD j false with
      |false=>rfl
      |true=>have:=(sR j).2 (.inr h);rw[this]at hl;cases hl
     have h3:=Vf j q hq DT k hk;rw[hsame,h3];rcases xF hne with h|h
     ·have:=Qy j i q p hq hp h;omega
     ·have:=Qy i j p q hp hq h;omega
 refine wp_region_any hm ?_;have a6B:HeadInv .any l.toArray n (Array.replicate l.toArray.size false):=
  ⟨by simp,fun j oj _ hl=>(by rw[getD_replicate_false]at hl;cases hl),fun t _ ht=>getD_in (by simpa using ht) (getD_replicate_false _ _)⟩
 have qE:((List.range n).filter fun i=> !(Array.replicate l.toArray.size false).getD i false).length=n:=by
  rw[List.filter_eq_self.2]
  ·simp
  ·intro i _;rw[getD_replicate_false];rfl
 have:=main n (Array.replicate l.toArray.size false) st.σ (st.H++List.replicate (ps.flatMap Cp.obs).length .gone) κ Θ a w.drew a6B qE (fun i p t _ _ hl=>by rw[getD_replicate_false]at hl;cases hl) (fun t _=>rfl)
  (by simp) (fun i o h=>by rw[bA (aJ.1 h).1];exact h) (fun i p _ hl=>by rw[getD_replicate_false]at hl;cases hl)
  (fun i q id ob _ hl=>by rw[getD_replicate_false]at hl;cases hl)
  (fun i p hp _ j _=>hs.tR _ (by rw[UK i p hp];omega)) (hs.drew.room _)
 rw[show n+(l.toArray.size-n)=l.toArray.size from by omega]at this;exact this
end
def pos(o:aa)(i:Nat):Option Nat:=ix (fun j=>j==i) o
def D.MZ(o:aa)(d:D):D:=match d with
 | .acc i=>(match pos o i with|some j=>.acc j|none=>.any)
 | .ptr i off=>(match pos o i with|some j=>.ptr j off|none=>.any)
 | .op i a b c=>(match pos o i with|some j=>.op j a b c|none=>.any)
 |d=>d
def D.rnV(o:aa)(d:D):D:=match d with
 | .agg cs=>.agg (cs.map (D.MZ o))
 |d=>d.MZ o
def D.rnS(o:aa)(d:D):D:=match d with
 | .ff vs=>.ff (vs.map (D.rnV o))
 |d=>d.rnV o
def Ob.rn(o:aa)(x:Ob):Ob:=match x with
 | .box cells=>.box (cells.map (D.MZ o))
 | .Bq cells v=>.Bq (cells.map (D.MZ o)) v
 | .hole _ _ _ _ _=>.gone
 | .row k e sz rows=>(match k with| .ho _ _=>.gone|k=>.row k e sz rows)
 |x=>x
def St.Ec(st:St)(K o:aa):St:=⟨K.map fun t=>(t,(lk st.σ t).rnS o),o.map fun i=>((st.H[i]?).getD .gone).rn o⟩
section
variable{P:Program}{Γ:vn}{Q:Exit->St->Prop}{st:St}{κ κ':Nat->Option Value}{Θ Θ':Nat->Nat}{a:Act}{w:World}{o:aa}
theorem XP:∀ {o:aa},o.Nodup->∀(i j x:Nat),o[i]?=some x->o[j]?=some x->i=j:=by
 intro o
 induction o with
 |nil=>intro _ i j x h;simp at h
 |cons y o ih=>
  intro hnd i j x hi hj;obtain⟨h1,h2⟩:=fZ.1 hnd;cases i with
  |zero=>
   cases j with
   |zero=>rfl
   |succ j=>simp at hi hj;subst hi;exact absurd (aE hj) h1
  |succ i=>
   cases j with
   |zero=>simp at hi hj;subst hj;exact absurd (aE hi) h1
   |succ j=>simp at hi hj;rw[ih h2 i j x hi hj]
theorem WC{i j:Nat}(h:pos o i=some j):o[j]?=some i:=by
 obtain⟨x,h1,h2⟩:=ER h;simp only[cZ]at h2;subst h2;exact h1
theorem Uh{i j:Nat}(hnd:o.Nodup)(h:o[j]?=some i):pos o i=some j:=
 MO h (by simp) (fun k y hk hy=>by
  simp only[cZ]at hy;subst hy;obtain⟨h1,h2⟩:=aJ.1 h;obtain⟨h3,h4⟩:=aJ.1 hk;exact XP hnd k j _ hk h)
section
variable(hk:∀(i j:Nat) v,pos o i=some j->κ i=some v->κ' j=some v)(zy:∀b,Θ b=0->Θ' b=0)
include hk zy
theorem Aw.rn{v:Value}{d:D}{bs:aa}(h:Aw w κ v d bs)(hz:∀b∈bs,Θ b=0):∃b',Aw w κ' v (d.MZ o) b'/\∀b∈b',Θ' b=0:=by
 cases h with
 |pure h=>
  have e:d.MZ o=d:=by cases h<;>rfl
  rw[e];exact⟨bs,.pure h,fun b hb=>zy b (hz b hb)⟩
 |acc i v hi=>
  simp only[D.MZ];cases hp:pos o i with
  |none=>exact⟨[],.pure (.any _),by simp⟩
  |some j=>exact⟨[],.acc j v (hk i j v hp hi),by simp⟩
 |ptr i off b hi=>
  simp only[D.MZ];cases hp:pos o i with
  |none=>exact⟨[],.pure (.any _),by simp⟩
  |some j=>exact⟨[],.ptr j off b (hk i j _ hp hi),by simp⟩
 |op i x sz off b o0 len cap hi=>
  simp only[D.MZ];cases hp:pos o i with
  |none=>exact⟨[],.pure (.any _),by simp⟩
  |some j=>exact⟨[],.op j x sz off b o0 len cap (hk i j _ hp hi),by simp⟩
theorem fk.rn{vs:bp}{ds:aQ}{bs:aa}(h:fk w κ vs ds bs)(hz:∀b∈bs,Θ b=0):∃b',fk w κ' vs (ds.map (D.MZ o)) b'/\∀b∈b',Θ' b=0:=by
 induction h with
 |nil=>exact⟨[],.nil,by simp⟩
 |cons v vs d ds b1 b2 h1 h2 _ ih=>
  obtain⟨c1,q1,q2⟩:=Aw.rn hk zy h2 (fun b hb=>hz b (by simp[hb]));obtain⟨c2,p1,p2⟩:=ih (fun b hb=>hz b (by simp[hb]));refine⟨c1++c2,.cons _ _ _ _ _ _ h1 q1 p1,fun b hb=>?_⟩;rcases aZ.1 hb with hb|hb
  ·exact q2 b hb
  ·exact p2 b hb
theorem Nw.rn{v:Value}{d:D}{bs:aa}(h:Nw w κ v d bs)(hz:∀b∈bs,Θ b=0):∃b',Nw w κ' v (d.rnV o) b'/\∀b∈b',Θ' b=0:=by
 cases h with
 |cell h=>
  by_cases vK:∃ds,d=.agg ds
  ·obtain⟨ds,rfl⟩:=vK;cases h with
   |pure h=>
    cases h with
    |agg cs _ _ h=>
     obtain⟨b',q1,q2⟩:=fk.rn hk zy (fk.Ei (κ:=κ) h) hz;exact⟨b',.agg _ _ _ q1,q2⟩
  ·have e:d.rnV o=d.MZ o:=by cases d<;>first|rfl|exact absurd ⟨_,rfl⟩ vK
   rw[e];obtain⟨b',q1,q2⟩:=Aw.rn hk zy h hz;exact⟨b',.cell q1,q2⟩
 |agg cs ds bs h=>
  obtain⟨b',q1,q2⟩:=fk.rn hk zy h hz;exact⟨b',.agg _ _ _ q1,q2⟩
theorem Dv.rn{vs:bp}{ds:aQ}{bs:aa}(h:Dv w κ vs ds bs)(hz:∀b∈bs,Θ b=0):∃b',Dv w κ' vs (ds.map (D.rnV o)) b'/\∀b∈b',Θ' b=0:=by
 induction h with
 |nil=>exact⟨[],.nil,by simp⟩
 |cons v vs d ds b1 b2 h2 _ ih=>
  obtain⟨c1,q1,q2⟩:=Nw.rn hk zy h2 (fun b hb=>hz b (by simp[hb]));obtain⟨c2,p1,p2⟩:=ih (fun b hb=>hz b (by simp[hb]));refine⟨c1++c2,.cons _ _ _ _ _ _ q1 p1,fun b hb=>?_⟩;rcases aZ.1 hb with hb|hb
  ·exact q2 b hb
  ·exact p2 b hb
theorem ue.rn{v:Value}{d:D}{bs:aa}(h:ue w κ v d bs)(hz:∀b∈bs,Θ b=0):∃b',ue w κ' v (d.rnS o) b'/\∀b∈b',Θ' b=0:=by
 cases h with
 |v h=>
  have hnt:∀vs,d≠ .ff vs:=by
   intro vs e;subst e;cases h with
   |cell h=>cases h with|pure h=>cases h
  have e:d.rnS o=d.rnV o:=by cases d<;>first|rfl|exact absurd rfl (hnt _)
  rw[e];obtain⟨b',q1,q2⟩:=Nw.rn hk zy h hz;exact⟨b',.v q1,q2⟩
 |ff vs ds bs h=>
  obtain⟨b',q1,q2⟩:=Dv.rn hk zy h hz;exact⟨b',.ff _ _ _ q1,q2⟩
end
theorem Zq(σ:List (Nat×D))(K:aa)(f:D->D)(t:Nat):lk (K.map fun t=>(t,f (lk σ t))) t=if t∈K then f (lk σ t)else .any:=by
 induction K with
 |nil=>simp[lk]
 |cons u K ih=>
  simp only[au,lk];by_cases e:t=u
  ·subst e;simp
  ·rw[b9 e,ih];simp[e]
theorem eN.Ec(hs:eN Γ st κ Θ a w)(K o:aa)(hnd:o.Nodup):∃κ' Θ',eN Γ (st.Ec K o) κ' Θ' a w:=by
 let κ':Nat->Option Value:=fun j=>(o[j]?).bind κ
 let Θ':Nat->Nat:=fun b=>if Θ b<=1 then Θ b else match pos o (Θ b-2)with|some j=>j+2|none=>1
 have zy:∀b,Θ b=0->Θ' b=0:=fun b h=>by simp[Θ',h]
 have hk:∀(i j:Nat) v,pos o i=some j->κ i=some v->κ' j=some v:=fun i j v h1 h2=>by simp[κ',WC h1,h2]
 have hk2:∀(i j:Nat),o[j]?=some i->κ' j=κ i:=fun i j h=>by simp[κ',h]
 have X5:∀b (i j:Nat),o[j]?=some i->Θ b=i+2->Θ' b=j+2:=by
  intro b i j hj h;simp only[Θ'];rw[b9 (by omega),h,B9,Uh hnd hj]
 have key:∀(j:Nat) x,(st.Ec K o).H[j]?=some x->∃i,o[j]?=some i/\((st.H[i]?=none/\x=.gone)\/∃y,st.H[i]?=some y/\x=y.rn o):=by
  intro j x hj;simp only[St.Ec,cF]at hj;cases ho:o[j]? with
  |none=>simp[ho]at hj
  |some i=>
   simp only[ho,cv,ay]at hj;refine⟨i,rfl,?_⟩;cases hH:st.H[i]? with
   |none=>rw[hH]at hj;exact .inl ⟨rfl,hj.symm⟩
   |some y=>rw[hH]at hj;exact .inr ⟨y,rfl,hj.symm⟩
 obtain⟨ρ,hu⟩:=hs.vG;let ρ':Nat->Nat:=fun b=>if ρ b=0 then 0 else match pos o (ρ b-1)with|some j=>j+1|none=>0
 refine⟨κ',Θ',hs.defers,hs.size,?_,?_,?_,?_,?_,?_,?_,hs.stays,ρ',?_,?_,?_⟩
 ·intro i hi;simp only[St.Ec,ah]at hi;simp[κ',cr hi]
 ·intro i u zK;simp only[κ']at zK;cases ho:o[i]? with
  |none=>simp[ho]at zK
  |some j=>simp[ho]at zK;exact hs.s9 j u zK
 ·intro t;show∃bs,ue w κ' _ (lk (K.map fun t=>(t,(lk st.σ t).rnS o)) t) bs/\_;rw[Zq st.σ K (fun d=>d.rnS o) t];split
  ·obtain⟨bs,hr,hz⟩:=hs.slot t;exact ue.rn hk zy hr hz
  ·exact⟨[],.of (.any _),by simp⟩
 ·intro j x hj;obtain⟨i,ho,⟨_,rfl⟩|⟨y,hH,rfl⟩⟩:=key j x hj
  ·trivial
  ·have CK:=hs.ob i y hH;cases y with
   |gone=>trivial
   |hole=>trivial
   |tk rows=>
    obtain⟨v,bs,q1,q2,q3⟩:=CK;exact⟨v,bs,by rw[hk2 i j ho];exact q1,q2,fun b hb=>zy b (q3 b hb)⟩
   |tf e sz rows=>
    obtain⟨v,bs,q1,q2,q3⟩:=CK;exact⟨v,bs,by rw[hk2 i j ho];exact q1,q2,fun b hb=>zy b (q3 b hb)⟩
   |mp kv=>
    obtain⟨g,es,c,q1,q2,q3,q4⟩:=CK;exact⟨g,es,c,by rw[hk2 i j ho];exact q1,q2,X5 g i j ho q3,q4⟩
   |Pf sz rows u=>
    obtain⟨q1,q0,v,bs,q2,q3,q4,q5⟩:=CK;exact⟨q1,fun x hx=>by rw[hk2 i j ho];exact q0 x hx,v,bs,by rw[hk2 i j ho];exact q2,q3,q4,fun b hb=>⟨X5 b i j ho (q5 b hb).1,(q5 b hb).2⟩⟩
   |box cells=>
    obtain⟨g,cs,T,q1,q2,q3,bs,q4,q5⟩:=CK;obtain⟨b',p1,p2⟩:=fk.rn hk zy q4 q5;exact⟨g,cs,T,by rw[hk2 i j ho];exact q1,q2,X5 g i j ho q3,b',p1,p2⟩
   |Bq cells u=>
    obtain⟨q0,g,cs,T,q1,q2,q3,bs,q4,q5⟩:=CK;obtain⟨b',p1,p2⟩:=fk.rn hk zy q4 q5;exact⟨⟨by rw[hk2 i j ho];exact q0.1,q0.2.same q1 q2 (by rw[hk2 i j ho];exact q1) q2⟩,g,cs,T,by rw[hk2 i j ho];exact q1,q2,X5 g i j ho q3,b',p1,p2⟩
   |row k e sz rows=>
    obtain⟨q1,q2,v,cs,bs,q3,q4,q5,q6,q7⟩:=CK;cases k with
    |ho p n=>exact trivial
    |_=>
    refine⟨q1,q2,v,cs,bs,by rw[hk2 i j ho];exact q3,q4,q5,fun g hg=>X5 g i j ho (q6 g hg),?_⟩
    first
    |exact⟨q7.1,fun b hb=>⟨X5 b i j ho (q7.2.1 b hb).1,(q7.2.1 b hb).2⟩,q7.2.2⟩
    |exact fun b hb=>zy b (q7 b hb)
 ·intro b hb;exact hs.own b (fun h=>hb (zy b h))
 ·intro b hb hx;obtain⟨h1,h2⟩:=hs.old b hb hx;simp only[Θ'];rw[bL h2];exact⟨h1,h2⟩
 ·intro b hb;refine hs.mine b ?_;simp only[Θ']at hb;split at hb<;>omega
 ·intro b hb;have hb':ρ b≠0:=fun h=>hb (by simp[ρ',h])
  obtain⟨h1,h2⟩:=hu.free b hb';exact⟨zy b h1,h2⟩
 ·intro j e sz rows hj;obtain⟨i,ho,⟨_,h⟩|⟨y,hH,h⟩⟩:=key j _ hj
  ·cases h
  ·have hy:y=.row .uq e sz rows:=by
    cases y with
    |row k2 e2 PC fT=>cases k2<;>simp only[Ob.rn,reduceCtorEq]at h<;>exact h.symm
    |_=>cases h
   subst hy;obtain⟨v,cs,bs,q1,q2,q3,q4,q5⟩:=hu.rows i e sz rows hH;refine⟨v,cs,bs,by rw[hk2 i j ho];exact q1,q2,q3,q4,fun b hb=>?_⟩;simp only[ρ'];rw[q5 b hb,b9 (by omega),B9,Uh hnd ho]
 ·intro j x hj;obtain⟨i,ho,⟨_,h⟩|⟨y,hH,h⟩⟩:=key j _ hj
  ·subst h;trivial
  ·have hm:=hu.more i y hH;have a5r:∀b,ρ b=i+1->ρ' b=j+1:=fun b hb=>by
    simp only[ρ'];rw[hb,b9 (by omega),B9,Uh hnd ho]
   subst h;cases y with
   |tk rows=>
    obtain⟨v,bs,q1,q2,q3,q4⟩:=hm;exact⟨v,bs,by rw[hk2 i j ho];exact q1,q2,q3,fun b hb=>a5r b (q4 b hb)⟩
   |tf e sz rows=>
    obtain⟨v,bs,q1,q2,q0,q3,q4⟩:=hm;exact⟨v,bs,by rw[hk2 i j ho];exact q1,q2,q0,q3,fun b hb=>a5r b (q4 b hb)⟩
   |row k e sz rows=>
    cases k with
    |mv n=>
     obtain⟨v,cs,bs,q1,q2,q3,q4,q5⟩:=hm;exact⟨v,cs,bs,by rw[hk2 i j ho];exact q1,q2,q3,q4,fun b hb=>a5r b (q5 b hb)⟩
    |_=>trivial
   |_=>trivial
end
abbrev Rw:=Nat×List (List D)
def Rw.ob(x:Rw)(v:Option Value):Ob:=.Pf x.1 x.2 v
def Pq(w:World)(κ:Nat->Option Value):Nat->List Rw->aa->Prop
 |_,[],us=>us=[]
 |n,x::xs,us=>∃v bs us',κ n=some v/\(∀r∈x.2,r.length=x.1)/\Rd w v (.sl x.2) bs/\us=bs++us'/\Pq w κ (n+1) xs us'
section
variable{P:Program}{Γ:vn}{Q:Exit->St->Prop}{st:St}{κ κ':Nat->Option Value}{Θ Θ':Nat->Nat}{a:Act}{w w':World}{all:Array Oper}{rest:List Oper}
theorem Pq.parts:∀ {xs:List Rw} {n:Nat} {us:aa},Pq w κ n xs us->∃L:List aa,L.length=xs.length/\us=L.flatten/\∀(i:Nat) x bs,xs[i]?=some x->L[i]?=some bs->∃v,κ (n+i)=some v/\(∀r∈x.2,r.length=x.1)/\Rd w v (.sl x.2) bs:=by
 intro xs
 induction xs with
 |nil=>intro n us h;exact⟨[],rfl,by simpa[Pq]using h,by simp⟩
 |cons y ys ih=>
  intro n us h;obtain⟨v,bs,us',h1,h2,h3,rfl,h5⟩:=h;obtain⟨L,q1,rfl,q3⟩:=ih h5;refine⟨bs::L,by simp[q1],by simp,?_⟩;intro i x b hx hb;cases i with
  |zero=>simp at hx hb;subst hx;subst hb;exact⟨v,h1,h2,h3⟩
  |succ i=>
   simp at hx hb;obtain⟨v',r1,r2,r3⟩:=q3 i x b hx hb;exact⟨v',by rw[<-r1];congr 1;omega,r2,r3⟩
theorem Pq.of:∀ {xs:List Rw} {n:Nat} {L:List aa},L.length=xs.length->(∀(i:Nat) x bs,xs[i]?=some x->L[i]?=some bs->∃v,κ (n+i)=some v/\(∀r∈x.2,r.length=x.1)/\Rd w v (.sl x.2) bs)->Pq w κ n xs L.flatten:=by
 intro xs
 induction xs with
 |nil=>
  intro n L hl _;have:L=[]:=cc (by simpa using hl);subst this;rfl
 |cons y ys ih=>
  intro n L hl h;cases L with
  |nil=>simp at hl
  |cons bs L=>
   obtain⟨v,h1,h2,h3⟩:=h 0 y bs rfl rfl;refine⟨v,bs,L.flatten,h1,h2,h3,by simp,ih (by simpa using hl) ?_⟩;intro i x b hx hb;obtain⟨v',r1,r2,r3⟩:=h (i+1) x b (by simpa using hx) (by simpa using hb);exact⟨v',by rw[<-r1];congr 1;omega,r2,r3⟩
theorem eN.forget(hs:eN Γ st κ Θ a w)(ms:aa):eN Γ ⟨st.σ,kill st.H ms⟩ κ (fun b=>if ms.any (fun m=>Θ b==m+2)then st.H.length+2 else Θ b) a w:=by
 have h0:∀b,Θ b=0->(if ms.any (fun m=>Θ b==m+2)then st.H.length+2 else Θ b)=0:=by
  intro b hb;rw[b9,hb];intro h;obtain⟨m,_,hm⟩:=eG.1 h;simp[hb]at hm
 have hk:∀(j:Nat) o,(kill st.H ms)[j]?=some o->o=.gone\/(j∉ms/\st.H[j]?=some o):=fun j o h=>pz h
 have hold:∀b j,j∉ms->Θ b=j+2->(if ms.any (fun m=>Θ b==m+2)then st.H.length+2 else Θ b)=j+2:=by
  intro b j hj hb;rw[b9,hb];intro h;obtain⟨m,hm,he⟩:=eG.1 h;simp only[hb,cZ]at he;exact hj (by
   have:j=m:=by omega
   rw[this];exact hm)
 obtain⟨ρ,hu⟩:=hs.vG;refine⟨hs.defers,hs.size,fun i hi=>hs.tR i (by simpa[gx]using hi),hs.s9,?_,?_,?_,?_,?_,hs.stays,ρ,?_,?_,?_⟩
 ·intro t;obtain⟨bs,hr,hz⟩:=hs.slot t;exact⟨bs,hr,fun b hb=>h0 b (hz b hb)⟩
 ·intro j o hj;rcases hk j o hj with rfl|⟨hn,hj'⟩
  ·trivial
  ·have CK:=hs.ob j o hj';cases o with
   |gone=>trivial
   |tk rows=>
    obtain⟨v,bs,q1,q2,q3⟩:=CK;exact⟨v,bs,q1,q2,fun b hb=>h0 b (q3 b hb)⟩
   |tf e sz rows=>
    obtain⟨v,bs,q1,q2,q3⟩:=CK;exact⟨v,bs,q1,q2,fun b hb=>h0 b (q3 b hb)⟩
   |box cells=>
    obtain⟨g,cs,T,q1,q2,q3,bs,q4,q5⟩:=CK;exact⟨g,cs,T,q1,q2,hold g j hn q3,bs,q4,fun b hb=>h0 b (q5 b hb)⟩
   |Bq cells u=>
    obtain⟨q0,g,cs,T,q1,q2,q3,bs,q4,q5⟩:=CK;exact⟨q0,g,cs,T,q1,q2,hold g j hn q3,bs,q4,fun b hb=>h0 b (q5 b hb)⟩
   |row k e sz rows=>
    obtain⟨q1,q2,v,cs,bs,q3,q4,q5,q6,q7⟩:=CK;refine⟨q1,q2,v,cs,bs,q3,q4,q5,fun g hg=>hold g j hn (q6 g hg),?_⟩;cases k with
    |cl=>exact⟨q7.1,fun b hb=>⟨hold b j hn (q7.2.1 b hb).1,(q7.2.1 b hb).2⟩,q7.2.2⟩
    |sh=>exact fun b hb=>h0 b (q7 b hb)
    |uq=>exact fun b hb=>h0 b (q7 b hb)
    |mv n=>exact fun b hb=>h0 b (q7 b hb)
    |ho p n=>exact fun b hb=>h0 b (q7 b hb)
   |Pf sz rows u=>
    obtain⟨q1,q0,v,bs,q2,q3,q4,q5⟩:=CK;exact⟨q1,q0,v,bs,q2,q3,q4,fun b hb=>⟨hold b j hn (q5 b hb).1,(q5 b hb).2⟩⟩
   |hole sz rows u p n=>
    obtain⟨q1,q0,v,bs,q2,q3,q4,q5⟩:=CK;exact⟨q1,q0,v,bs,q2,q3,q4,fun b hb=>⟨hold b j hn (q5 b hb).1,(q5 b hb).2⟩⟩
   |mp kv=>
    obtain⟨g,es,c,q1,q2,q3,q4⟩:=CK;exact⟨g,es,c,q1,q2,hold g j hn q3,q4⟩
 ·intro b hb;refine hs.own b fun h=>hb ?_
  exact h0 b h
 ·intro b hb hx;obtain⟨h1,h2⟩:=hs.old b hb hx;have:(if ms.any (fun m=>Θ b==m+2)then st.H.length+2 else Θ b)=Θ b:=by
   rw[b9];intro h;obtain⟨m,_,hm⟩:=eG.1 h;simp only[cZ]at hm;omega
  show(if ms.any (fun m=>Θ b==m+2)then st.H.length+2 else Θ b)=_/\(if ms.any (fun m=>Θ b==m+2)then st.H.length+2 else Θ b)<=1;rw[this];exact⟨h1,h2⟩
 ·intro b hb;refine hs.mine b ?_;by_cases h:ms.any (fun m=>Θ b==m+2)=true
  ·obtain⟨m,_,hm⟩:=eG.1 h;simp only[cZ]at hm;omega
  ·simp only[h]at hb;simpa using hb
 ·intro b hb;obtain⟨h1,h2⟩:=hu.free b hb;exact⟨h0 b h1,h2⟩
 ·intro id e sz rows hj;rcases hk id _ hj with h|⟨_,h⟩
  ·cases h
  ·exact hu.rows id e sz rows h
 ·intro id o hj;rcases hk id _ hj with h|⟨_,h⟩
  ·subst h;trivial
  ·exact hu.more id o h
def D.Ig(d:D):Bool:=match d with
 | .acc _=>true
 |d=>d.flat
def D.bare(d:D):Bool:=match d with
 | .agg cs=>cs.all D.Ig
 |d=>d.Ig
theorem Aw.Ni{v:Value}{d:D}{bs:aa}(h:Aw w κ v d bs)(hf:d.Ig=true):bs=[]:=by
 cases h with
 |pure h=>
  refine h.flat ?_;cases h<;>exact hf
 |_=>rfl
theorem fk.Ni{vs:bp}{ds:aQ}{bs:aa}(h:fk w κ vs ds bs)(hf:ds.all D.Ig=true):bs=[]:=by
 induction h with
 |nil=>rfl
 |cons v vs d ds b1 b2 h1 h2 _ ih=>
  simp only[dP,aR]at hf;rw[h2.Ni hf.1,ih hf.2];rfl
theorem ue.a1y{v:Value}{d:D}{bs:aa}(h:ue w κ v d bs)(hf:d.bare=true):bs=[]:=by
 cases h with
 |v h=>
  cases h with
  |cell h=>
   cases h with
   |pure h=>
    cases h with
    |agg cs ds _ h=>exact fk.Ni (fk.Ei (κ:=κ) h) hf
    |_=>first|rfl|exact absurd hf (by simp[D.bare,D.Ig,D.flat])
   |_=>rfl
  |agg cs ds bs h=>exact h.Ni hf
 |ff=>simp[D.bare,D.Ig,D.flat]at hf
theorem D.YT(o:aa){c:D}(h:c.Ig=true):(c.MZ o).Ig=true:=by
 cases c with
 |acc m=>simp only[D.MZ];cases pos o m<;>rfl
 |_=>first|exact h| (simp[D.Ig,D.flat]at h)
theorem D.a1z(o:aa){d:D}(h:d.bare=true):(d.rnS o).bare=true:=by
 cases d with
 |agg cs=>
  simp only[D.rnS,D.rnV,D.bare,Dm]at h⊢;rw[aj]at h⊢;intro c hcm;exact D.YT o (h c hcm)
 |acc m=>simp only[D.rnS,D.rnV,D.MZ];cases pos o m<;>rfl
 |_=>first|exact h| (simp[D.bare,D.Ig,D.flat]at h)
end
section
variable{P:Program}{Γ:vn}{Q:Exit->St->Prop}{st:St}{κ κ':Nat->Option Value}{Θ Θ':Nat->Nat}{a:Act}{w w':World}{all:Array Oper}{rest:List Oper}
theorem Vc{rows:List aQ}{sz i off:Nat}{r:aQ}{d:D}(hrl:∀r∈rows,r.length=sz)(hr:rows[i]?=some r)(hd:r[off]?=some d):rows.flatten[i*sz+off]?=some d/\off<sz/\i*sz+off<rows.length*sz:=by
 have h1:=hrl r (aE hr);have h2:=(aJ.1 hd).1;have hmid:=Gi hrl hr;have hlt:=(aJ.1 hr).1;have hle:(i+1)*sz<=rows.length*sz:=er _ hlt;rw[nS,qG]at hle;refine⟨?_,by omega,by omega⟩;rw[<-hmid,cU,bL (by omega),fG]at hd;exact hd
theorem p6.a8n{vs:bp}{ds:aQ}{bs:aa}(h:p6 w vs ds bs){p:Nat}{d:D}(hd:ds[p]?=some d):
 ∃c b1 b2 b3,vs[p]?=some c/\c.oneCell'=true/\Rd w c d b2/\bs=b1++(b2++b3)/\∀(e:D) (b4:aa),Rd w c e b4->p6 w vs (ds.set p e) (b1++(b4++b3)):=by
 obtain⟨l,r,rfl,hl⟩:=MQ hd;obtain⟨v1,v2,c1,c2,rfl,rfl,k1,k2⟩:=h.split;cases k2 with
 |cons c vs _ _ b2 b3 h1 h2 h3=>
  have hl1:v1.length=p:=by rw[k1.length];exact hl
  refine⟨c,c1,b2,b3,by rw[bE (by omega),hl1];simp,h1,h2,rfl,fun e b4 he=>?_⟩;have e1:(l++d::r).set p e=l++e::r:=by rw[nv _ _ (by omega),hl];simp
  rw[e1];exact k1.app (.cons _ _ _ _ _ _ h1 he h3)
theorem Qw{rows:List aQ}{sz i off:Nat}{r:aQ}{d e:D}(hrl:∀r∈rows,r.length=sz)(hr:rows[i]?=some r)(hd:r[off]?=some d):(rows.set i (r.set off e)).flatten=rows.flatten.set (i*sz+off) e:=by
 have hlt:=(aJ.1 hd).1;have h1:=hrl r (aE hr);have:=Mr (rows:=rows) (sz:=sz) (i:=i) (off:=off) (row:=r) (ds:=[e]) hrl hr (by simp;omega);have e1:r.set off e=r.take off++[e]++r.drop (off+[e].length):=by
  apply mW;intro j;rw[gi];simp only[cy,Es,aS,bf,cS];by_cases hj:j<off
  ·rw[b9 (by omega),bA (by simp;omega),cU,bL hj]
  ·rw[bE (by simp;omega),cE,iK (by omega)];by_cases he:off=j
   ·subst he;simp[hlt]
   ·rw[b9 he];obtain⟨m,hm⟩:∃m,j-off=m+1:=⟨j-off-1,by omega⟩
    rw[hm,gR,fG]
    congr 1;omega
 rw[e1,this];have hfl:=qO hrl;obtain⟨hf,_,hlt2⟩:=Vc hrl hr hd;apply mW;intro j;rw[gi];simp only[cy,Es,aS,bf,cS];by_cases hj:j<i*sz+off
 ·rw[b9 (by omega),bA (by rw[cE];omega),cU,bL hj]
 ·rw[bE (by rw[cE];omega),cE,iK (by omega)];by_cases he:i*sz+off=j
  ·subst he;rw[bL rfl,bL (by omega),rJ];rfl
  ·rw[b9 he];obtain⟨m,hm⟩:∃m,j-(i*sz+off)=m+1:=⟨j-(i*sz+off)-1,by omega⟩
   rw[hm,gR,fG]
   congr 1;omega
end
def Ic(P:Program)(f:FuncId)(ds:aQ)(e sz:Nat)(rows dw:List aQ):Prop:=
 (∃fn,P.funcs[f]?=some fn/\fn.body.isSome=true/\(fn.name== "runtime.NumGoroutine")=false)/\
 ∀(w:World) (κ:Nat->Option Value) (args:bp) (v:Value) (cs:bp),Qn w (fun b=>v.ownBlock=some b)->args.length=ds.length->(∀(i:Nat) d,ds[i]?=some d->∃u,args[i]?=some u/\ue w κ u d [])->
  κ 0=some v->(∀i,1<=i->κ i=none)->v.oneCell'=true->0<sz->(∀r∈rows,r.length=sz)->w.ownsRow 0 e sz v rows.length cs->p6 w cs rows.flatten []->
  Calls P f args.toArray w (fun x w'=>∃v' cs',x=.returned v'/\v'.oneCell'=true/\(∀r∈dw,r.length=sz)/\w'.ownsRow 0 e sz v' dw.length cs'/\p6 w' cs' dw.flatten []/\(∀g,v'.ownBlock=some g->w.heap.size<=g\/v.ownBlock=some g)/\
   w'.os=w.os/\w'.tape=w.tape/\w'.output=w.output/\w.heap.size<=w'.heap.size/\∀b,b<w.heap.size->v.ownBlock≠some b->w'.heap[b]?=w.heap[b]?)
section
variable{P:Program}{Γ:vn}{Q:Exit->St->Prop}{st:St}{κ κ':Nat->Option Value}{Θ Θ':Nat->Nat}{a:Act}{w w':World}{all:Array Oper}{rest:List Oper}
theorem Ql.out{fn:Func}{d:D}{e:Exit}{a':Act}{w':World}{PR:St}{κ0:Nat->Option Value}{Θ0:Nat->Nat}(hs0:eN Γ PR κ0 Θ0 a' w')(ZB:Ql P fn d e PR):
 (e=.ret\/e=.normal)/\a'.defers=[]/\S8 Γ w'/\∃v bs ts us,(results fn a'.tmps).run P w'=.ok v w'/\BD w' v d bs ts us/\∀b∈ts,BB Γ b:=by
 obtain⟨Ce,nz,ds0,es,ms,qs,hres,ZC,OU,MM,rfl⟩:=ZB;obtain⟨ρ0,hu0⟩:=hs0.vG;have C7:=xd ZC;obtain⟨Θ1,ρ1,hs1,hu1,hm1,Pe,X4⟩:=eN.HM ms hs0 hu0 OU (fun m hm=>by
  obtain⟨e,sz,rows,hH⟩:=C7.1 m hm;exact⟨_,e,sz,rows,hH,rfl⟩)
 obtain⟨vs,bs',m1,m2,m3,m4,m5⟩:=Dc hs0 hres;have hq:∀m e sz rows,PR.H[m]?=some (.row .uq e sz rows)->∃v cs ns,κ0 m=some v/\0<sz/\(∀r∈rows,r.length=sz)/\w'.ownsRow 0 e sz v rows.length cs/\yS w' (vb e) 0 cs rows.flatten ns/\ns.Nodup/\(∀b∈ns,ρ1 b=m+1)/\∀g,v.ownBlock=some g->Θ1 g=m+2:=by
  intro m e sz rows hH;have hnm:m∉ms:=fun hm=>by
   obtain⟨e',sz',dw,FV⟩:=C7.1 m hm;rw[hH]at FV;cases FV
  have PO:(kill PR.H ms)[m]?=some (.row .uq e sz rows):=by rw[kG hnm];exact hH
  obtain⟨v,cs,ns,r1,r2,r3,r4,r5⟩:=hu1.rows m e sz rows PO;obtain⟨p1,p2,v2,_,_,p3,_,_,p4,_⟩:=hs1.ob m _ PO;rw[r1]at p3;cases p3;exact⟨v,cs,ns,r1,p1,p2,r2,r3,r4,r5,p4⟩
 obtain⟨c,ts,us,DU,Bj⟩:=B2 (w:=w') (vs:=vs) (fun b hb=>(hu1.free b hb).1) hq hs0.s9 ZC MM (by omega) (fun i d hd=>by
  obtain⟨v,b,k1,k2,k3⟩:=m4 i d hd;exact⟨v,b,k1,k2,fun x hx=>Pe x (m5 x (k3 x hx))⟩) hm1
 have ML:∃v,(results fn a'.tmps).run P w'=.ok v w'/\BD w' v (LN es) c ts us:=by
  have hrun:(results fn a'.tmps).run P w'=.ok (if h:vs.toArray.size=1 then vs.toArray[0]else .tuple vs.toArray) w':=by
   rw[results_eq,nj];simp[m1]
  cases DU with
  |nil=>exact⟨.tuple #[],by simpa using hrun,.ff [] [] [] [] [] .nil⟩
  |cons v vs d es b1 b2 t1 t2 u1 u2 hv s7=>
   cases s7 with
   |nil=>
    simp only[dD];exact⟨v,by simpa using hrun,.v hv⟩
   |cons v2 vs d2 es b3 b4 t3 t4 u3 u4 Ik s7=>exact⟨.tuple (v::v2::vs).toArray,by simpa using hrun,.ff _ _ _ _ _ (.cons _ _ _ _ _ _ _ _ _ _ hv (.cons _ _ _ _ _ _ _ _ _ _ Ik s7))⟩
 obtain⟨v,UM,Pb⟩:=ML;refine⟨Ce,hs0.defers,hs0.stays,v,c,ts,us,UM,Pb,fun b hb'=>?_⟩;obtain⟨⟨m,hm,hΘ⟩,_⟩:=Bj.top b hb';exact hs1.mine b (by omega)
theorem Ic.of{f:FuncId}{fn:Func}{c:Code}{ds:aQ}{e sz:Nat}{rows dw:List aQ}(hf:P.funcs[f]?=some fn)(hb:fn.body=some c)(hn:(fn.name== "runtime.NumGoroutine")=false)
 (hl:ds.length<=fn.ntmps) (hfl:dw.flatten.all D.flat=true) (h:rows.length<=maxLen->∀Γ:vn,Γ.nt=fn.ntmps->AW P Γ c (Ql P fn (.fr e sz dw)) ⟨xw 0 ds,[.row .uq e sz rows]⟩) (hfe:WX e=true:=by kernel_rfl):Ic P f ds e sz rows dw:=by
 refine⟨⟨fn,hf,by simp[hb],hn⟩,?_⟩;intro w κ args v cs UP hlen hargs hk0 hk1 hone hsz hrl hown hrd;refine calls_of_wp hf hb ?_;let Θ:Nat->Nat:=fun b=>if v.ownBlock=some b then 2 else if b<w.heap.size then 1 else 0
 let Γ:vn:=⟨w,Θ,fun b=>v.ownBlock=some b,fn.ntmps,fun _=>False,UP⟩
 have hlt:∀b,v.ownBlock=some b->b<w.heap.size:=fun b hb'=>(hown.lt b hb').2
 have OT:rows.length<=maxLen:=(gb.sl ⟨w,v,_,z8 hrl hown hrd⟩).1;have hs:eN Γ ⟨xw 0 ds,[.row .uq e sz rows]⟩ κ Θ {tmps:=args.toArray++Array.replicate (fn.ntmps-args.toArray.size) undef,defers:=[]} w:=by
  refine⟨rfl,?_,fun i hi=>hk1 i (by simpa using hi),?_,?_,?_,?_,?_,?_,⟨rfl,rfl,rfl,bU _,fun _ _ _=>rfl⟩,⟨fun _=>0,by simp,?_,?_⟩⟩
  ·simp[Γ];omega
  ·intro id u hu;rcases Nat.eq_zero_or_pos id with rfl|hp
   ·rw[hk0]at hu;cases hu;exact hone
   ·rw[hk1 id hp]at hu;cases hu
  ·intro t;rw[Gx];simp only[x6,zO,xq];cases hd:ds[t]? with
   |none=>exact⟨[],.of (.any _),by simp⟩
   |some x=>
    obtain⟨u,k1,k2⟩:=hargs t x hd;refine⟨[],?_,by simp⟩;have hlt:t<args.length:=(aJ.1 k1).1;have:(args.toArray++Array.replicate (fn.ntmps-args.toArray.size) undef).getD t undef=u:=by
     rw[cL,fF (by simpa using hlt)];simp[k1]
    rw[this];exact k2
  ·intro j o hj;cases j with
   |zero=>
    simp at hj;subst hj;exact⟨hsz,hrl,v,cs,[],hk0,hown,hrd,fun g hg=>by simp only[Θ];rw[bL hg],by simp⟩
   |succ j=>simp at hj
  ·intro b hb';simp only[Θ]at hb';split at hb'
   ·rename_i hv;exact hlt b hv
   ·split at hb'
    ·assumption
    ·exact absurd rfl hb'
  ·intro b hb' hx;refine⟨rfl,?_⟩;have hx':¬v.ownBlock=some b:=hx;simp only[Θ];rw[b9 hx'];split<;>omega
  ·intro b hb';simp only[Θ]at hb';split at hb'
   ·rename_i hv;exact .inr hv
   ·split at hb'<;>omega
  ·intro id e' sz' fT hj;cases id with
   |zero=>
    simp at hj;obtain⟨rfl,rfl,rfl⟩:=hj;exact⟨v,cs,[],hk0,hown,.of hrd (yy (Dg hfe)),by simp,by simp⟩
   |succ j=>simp at hj
  ·intro id o hj;cases id with
   |zero=>simp at hj;subst hj;exact Nb.AI rfl
   |succ j=>simp at hj
 refine wp_mono (h OT Γ rfl _ _ _ _ hs) ?_;rintro x a' w' ⟨PR,κ0,Θ0,hs0,ZB⟩;obtain⟨Ce,hdf,hst,u,bs,ts,us,hrun,hres,Q8⟩:=Ql.out hs0 ZB;have ML:∃u cs',(results fn a'.tmps).run P w'=.ok u w'/\u.oneCell'=true/\(∀r∈dw,r.length=sz)/\w'.ownsRow 0 e sz u dw.length cs'/\p6 w' cs' dw.flatten []/\(∀g,u.ownBlock=some g->w.heap.size<=g\/v.ownBlock=some g)/\
  w'.os=w.os/\w'.tape=w.tape/\w'.output=w.output/\w.heap.size<=w'.heap.size/\∀b,b<w.heap.size->v.ownBlock≠some b->w'.heap[b]?=w.heap[b]?:=by
  cases hres with
  |v hv=>
   cases hv with
   |cell hc=>
    cases hc with
    |pure hc=>cases hc
    |fr _ _ _ cs' ns h1 h2 h3 h4 h5=>
     have:=h4.rd.flat hfl;subst this;exact⟨u,cs',hrun,h5,h2,h3,h4.rd,fun g hg=>Q8 g (by simp[hg]),hst.os,hst.tape,hst.output,hst.size,fun b hb' hx=>hst.block b hb' hx⟩
 obtain⟨u,cs',q1,q2⟩:=ML;have post:a'.defers=[]/\∃v',(results fn a'.tmps).run P w'=.ok v' w'/\∃v2 cs2,Ending.returned v'=.returned v2/\v2.oneCell'=true/\(∀r∈dw,r.length=sz)/\w'.ownsRow 0 e sz v2 dw.length cs2/\p6 w' cs2 dw.flatten []/\(∀g,v2.ownBlock=some g->w.heap.size<=g\/v.ownBlock=some g)/\
  w'.os=w.os/\w'.tape=w.tape/\w'.output=w.output/\w.heap.size<=w'.heap.size/\∀b,b<w.heap.size->v.ownBlock≠some b->w'.heap[b]?=w.heap[b]?:=⟨hdf,u,q1,u,cs',rfl,q2⟩
 rcases Ce with rfl|rfl
 ·exact post
 ·exact post
theorem YE{o:Oper}{f t id:Nat}{xs:Array Operand}{ts:Array TypeId}{e sz:Nat}{rows dw:List aQ}(hop:o.op=.call {callee:=.value (.func f),args:=xs,argTypes:=ts})(hd:o.dst=some t)(hg:o.guard=none)
 (ht:t<Γ.nt) (hH:st.H[id]?=some (.row .uq e sz rows)) (hfe:WX e=true) (hfl:rows.flatten.all D.flat=true) (hb:((xs.toList.map st.ev).all D.bare)=true) (qu:Ic P f ((xs.toList.map st.ev).map (D.rnS [id])) e sz rows dw)
 (h:AO P Γ all rest Q ⟨(t,.acc st.H.length)::st.σ,kill st.H [id]++[.row .uq e sz dw]⟩):AO P Γ all (o::rest) Q st:=by
 intro κ Θ a w hs;obtain⟨hsz,hrl,v,cs,bs,hk,hown,hrd,Gp,_⟩:=hs.ob id _ hH;have Nk:=hrd.flat hfl;subst Nk;have X3:id<st.H.length:=(aJ.1 hH).1;let κc:Nat->Option Value:=fun j=>if j=0 then some v else none
 have UP:Qn w fun b=>v.ownBlock=some b:=by
  obtain⟨B,v1,v2⟩:=hs.vsb;refine⟨B,v1,fun b hB=>⟨(v2 b hB).2.1,fun hb'=>?_⟩⟩;have e1:=Gp b hb';rcases hs.mine b (by omega)with q|q
  ·have:=(v2 b hB).1;omega
  ·exact(v2 b hB).2.2 q
 have hargs:∀(i:Nat) d,((xs.toList.map st.ev).map (D.rnS [id]))[i]?=some d->∃u,(xs.toList.map a.eval)[i]?=some u/\ue w κc u d []:=by
  intro i d OQ;rw[cF,cF]at OQ;cases hx:xs.toList[i]? with
  |none=>rw[hx]at OQ;cases OQ
  |some x=>
   rw[hx]at OQ;simp only[cv,ay]at OQ;subst OQ;refine⟨a.eval x,by rw[cF,hx];rfl,?_⟩;obtain⟨bs,r,hz⟩:=hs.ev x;have a7m:(st.ev x).bare=true:=aj.1 hb _ (bt.2 ⟨x,aE hx,rfl⟩);obtain⟨b',r',_⟩:=ue.rn (o:=[id]) (κ':=κc) (Θ:=fun _=>0) (Θ':=fun _=>0) (fun i j u h1 h2=>by
    have h3:=WC h1;cases j with
    |zero=>simp at h3;subst h3;rw[hk]at h2;simpa[κc]using h2
    |succ j=>simp at h3) (fun _ _=>rfl) r (fun _ _=>rfl)
   have:=r'.a1y (D.a1z [id] a7m);subst this;exact r'
 have hc:=qu.2 w κc (xs.toList.map a.eval) v cs UP (by simp) hargs (by simp[κc]) (fun i hi=>by simp only[κc];rw[b9 (by omega)]) (hs.s9 id v hk) hsz hrl hown hrd;refine wpList_plain hg fun K hK=>?_
 unfold Oper.wp;rw[Bs hop qu.1,Oper.upon_enter];have e0:xs.map a.eval=(xs.toList.map a.eval).toArray:=by rw[<-lN,rH]
 rw[e0];refine hc.mono ?_;rintro x w' ⟨v',cs',rfl,hone,OV,Eg,Pc,Mt,h1,h2,h3,h4,U9⟩;show K (a.put o.dst v') w';rw[hd];let n:=st.H.length
 let Θ':Nat->Nat:=fun b=>if some b=v'.ownBlock then n+2 else Θ b
 have hvt:∀g,v'.ownBlock=some g->Θ g=id+2\/w.heap.size<=g:=by
  intro g X2;rcases Mt g X2 with h|h
  ·exact .inr h
  ·exact .inl (Gp g h)
 have k:jU w w' Θ Θ' (id+2):=by
  refine⟨by omega,h1,h2,h3,h4,fun b hb hne=>U9 b hb (fun e=>hne (Gp b e)),fun b hb hne=>?_,fun b hb=>?_⟩
  ·simp only[Θ'];rw[b9];intro e;rcases hvt b e.symm with h|h
   ·exact hne h
   ·omega
  ·simp only[Θ']at hb;split at hb
   ·rename_i e;exact(Eg.lt b e.symm).2
   ·exact eC (hs.own b hb) h4
 have hm:∀b,2<=Θ' b->BB Γ b:=by
  intro b hb;simp only[Θ']at hb;split at hb
  ·rename_i e;rcases hvt b e.symm with h|h
   ·exact hs.mine b (by omega)
   ·exact .inl (eD hs.base h)
  ·exact hs.mine b hb
 have hn:=zM (hs.tR n (bU _)) (some v');obtain⟨ρ,hu⟩:=hs.vG;have w5:=hs.sA k hn hu;have key:∀(j:Nat) y,(kill st.H [id]++[.row .uq e sz dw])[j]?=some y->(j=n/\y=.row .uq e sz dw)\/(j≠n/\(y=.gone\/(j∉[id]/\st.H[j]?=some y))):=by
  intro j y hj;rcases Da j y hj with⟨h1,h2⟩|⟨h1,h2⟩
  ·rw[gx]at h1;exact .inl ⟨h1,h2⟩
  ·rw[gx]at h1;exact .inr ⟨h1,pz h2⟩
 have hs':eN Γ ⟨st.σ,kill st.H [id]++[.row .uq e sz dw]⟩ (zz κ n (some v')) Θ' a w':=by
  refine hs.step k hm hn ?_ ?_ ?_ ⟨ρ,w5.1,fun j e' sz' fT hj=>?_,fun j y hj=>?_⟩
  ·intro i hi;simp only[ax,aS,bf,gx]at hi;unfold zz;rw[b9 (by omega)];exact hs.tR i (by omega)
  ·intro i y hy;unfold zz at hy;split at hy
   ·cases hy;exact hone
   ·exact hs.s9 i y hy
  ·intro j y hj;rcases key j y hj with⟨rfl,rfl⟩|⟨_,hy|⟨hjk,hy⟩⟩
   ·exact .inr (.inr ⟨hsz,OV,v',cs',[],nA _ _ _,Eg,Pc,fun g X2=>by simp only[Θ'];rw[bL X2.symm],by simp⟩)
   ·exact .inl hy
   ·exact .inr (.inl ⟨fun e=>hjk (by simp;omega),hy⟩)
  ·rcases key j _ hj with⟨rfl,hy⟩|⟨_,hy|⟨hjk,hy⟩⟩
   ·simp only[Ob.row.injEq,sn]at hy;obtain⟨rfl,rfl,rfl⟩:=hy;exact⟨v',cs',[],nA _ _ _,Eg,.of Pc (yy (Dg hfe)),by simp,by simp⟩
   ·cases hy
   ·exact w5.2.1 j e' sz' fT (fun e=>hjk (by simp;omega)) hy
  ·rcases key j _ hj with⟨rfl,hy⟩|⟨_,hy|⟨hjk,hy⟩⟩
   ·subst hy;exact Nb.AI rfl
   ·subst hy;trivial
   ·exact w5.2.2 j y (fun e=>hjk (by simp;omega)) hy
 refine hK _ _ (h _ _ _ _ (hs'.set (t:=t) (d:=.acc n) (bs:=[]) ht ?_ (by simp)));exact(Aw.acc n _ (nA _ _ _)).S0
end
def iL(P:Program)(f:FuncId)(cells cells':aQ)(ds:aQ)(d:D):Prop:=
 (∃fn,P.funcs[f]?=some fn/\fn.body.isSome=true/\(fn.name== "runtime.NumGoroutine")=false)/\
 ∀(w:World) (Θ:Nat->Nat) (g:Nat) (cs:Array Value) (T:TypeId) (args:bp) (bs ts us:aa),
  Qn w (fun b=>b=g\/b∈ts)->w.heap[g]?=some (.cells cs T (0,0))->zP w (.agg cs::args) (.agg cells::ds) bs ts us->
  (∀b∈bs,Θ b=0)->(∀b,Θ b≠0->b<w.heap.size)->(∀b,Θ b<=1)->Θ g=1->(∀b∈ts,Θ b=1/\b∈us/\b≠g)->us.Nodup->(∀b∈us,(b∉ts->Θ b=0)/\Wr w b)->
  Calls P f (.pointer (some ⟨g,0,none⟩)::args).toArray w (fun e w'=>∃v cs' T' b2 t2 u2 b3 t3 u3,e=.returned v/\w'.os=w.os/\w'.tape=w.tape/\w'.output=w.output/\w.heap.size<=w'.heap.size/\
   (∀b,b<w.heap.size->b≠g->b∉ts->w'.heap[b]?=w.heap[b]?)/\w'.heap[g]?=some (.cells cs' T' (0,0))/\(cs.size=3->cs'.size=3/\cs'[0]?=cs[0]?)/\
   BD w' v d b2 t2 u2/\vS w' cs'.toList cells' b3 t3 u3/\(∀b∈b3++b2,(b<w.heap.size->Θ b=0\/b∈ts)/\b≠g/\b∉t3++t2)/\(u3++u2).Nodup/\
   (∀b∈u3++u2,(w.heap.size<=b\/b∈us)/\b≠g/\Wr w' b)/\∀b∈t3++t2,b∈u3++u2/\(w.heap.size<=b\/b∈ts))
section
variable{P:Program}{Γ:vn}{Q:Exit->St->Prop}{st:St}{κ κ':Nat->Option Value}{Θ Θ':Nat->Nat}{a:Act}{w w':World}{all:Array Oper}{rest:List Oper}
theorem HU.YO{cs:Array Value}{ds:aQ}{bs ts us:aa}(h:HU w (.agg cs) (.agg ds) bs ts us):vS w cs.toList ds bs ts us:=by
 generalize hv:Value.agg cs=v at h;cases h with
 |cell h=>
  cases h with
  |pure h=>
   cases h with
   |agg l _ _ h=>cases hv;simpa using vS.Ei h
 |agg l _ _ _ _ h=>cases hv;simpa using h
theorem Nw.YO{cs:Array Value}{ds:aQ}{bs:aa}(h:Nw w κ (.agg cs) (.agg ds) bs):fk w κ cs.toList ds bs:=by
 generalize hv:Value.agg cs=v at h;cases h with
 |cell h=>
  cases h with
  |pure h=>
   cases h with
   |agg l _ _ h=>cases hv;simpa using fk.Ei h
 |agg l _ _ h=>cases hv;simpa using h
theorem HT.shown{v:Value}{d:D}{bs ts us:aa}(h:HT w v d bs ts us):∃b,Rd w v d.shC b:=by
 cases h with
 |pure h=>
  have e:d.shC=d:=by cases h<;>rfl
  exact⟨_,e.symm▸h⟩
 |fr e sz rows cs ns h1 h2 h3 h4 h5=>exact⟨_,z8 h2 h3 h4.rd⟩
theorem vS.shown{vs:bp}{ds:aQ}{bs ts us:aa}(h:vS w vs ds bs ts us):∃b,p6 w vs (ds.map D.shC) b:=by
 induction h with
 |nil=>exact⟨_,.nil⟩
 |cons v vs d ds b1 b2 t1 t2 u1 u2 h1 h2 _ ih=>
  obtain⟨b,q⟩:=h2.shown;obtain⟨b',q'⟩:=ih;exact⟨_,.cons _ _ _ _ _ _ h1 q q'⟩
theorem HU.shown{v:Value}{d:D}{bs ts us:aa}(h:HU w v d bs ts us):gb d.Uv:=by
 cases h with
 |cell h=>
  by_cases vK:∃ds,d=.agg ds
  ·obtain⟨ds,rfl⟩:=vK;cases h with
   |pure h=>cases h with
    |agg cs _ _ h=>
     obtain⟨b,q⟩:=(vS.Ei h).shown;exact⟨w,_,_,.agg _ _ _ q⟩
  ·have e:d.Uv=d.shC:=by cases d<;>first|rfl|exact absurd ⟨_,rfl⟩ vK
   rw[e];obtain⟨b,q⟩:=h.shown;exact⟨w,_,_,q⟩
 |agg cs ds bs ts us h=>
  obtain⟨b,q⟩:=h.shown;exact⟨w,_,_,.agg _ _ _ q⟩
theorem zP.shown{vs:bp}{ds:aQ}{bs ts us:aa}(h:zP w vs ds bs ts us):∀d∈ds.map D.Uv,gb d:=by
 induction h with
 |nil=>intro d hd;cases hd
 |cons v vs d ds b1 b2 t1 t2 u1 u2 h2 _ ih=>
  intro x hx;rcases bJ.1 hx with rfl|hx
  ·exact h2.shown
  ·exact ih x hx
def NF(L:qj)(b:Nat):Option Nat:=ix (fun x:Fs=>x.v.ownBlock==some b) L
def vH(L:qj)(b:Nat):Option Nat:=ix (fun x:Fs=>x.ns.contains b) L
theorem LZ{L:qj}(hnd:(L.flatMap Fs.bl).Nodup){i:Nat}{x:Fs}{b:Nat}(hi:L[i]?=some x)(hb:x.v.ownBlock=some b):NF L b=some i:=
 MO hi (by simp[hb]) (fun j y hj hy=>by
  simp only[cZ]at hy;exact CH hnd j i y x b hj hi (by simp[Fs.bl,hy]) (by simp[Fs.bl,hb]))
theorem V0{L:qj}{b i:Nat}(h:NF L b=some i):b∈L.flatMap Fs.ts:=by
 obtain⟨x,hx,hp⟩:=ER h;exact cA.2 ⟨x,aE hx,by simp only[cZ]at hp;simp[Fs.ts,hp]⟩
theorem zD{L:qj}{b:Nat}(h:b∉L.flatMap Fs.ts):NF L b=none:=by
 cases hb:NF L b with
 |none=>rfl
 |some i=>exact absurd (V0 hb) h
theorem Dx{L:qj}(hnd:(L.flatMap Fs.bl).Nodup){i:Nat}{x:Fs}{b:Nat}(hi:L[i]?=some x)(hb:b∈x.ns):vH L b=some i:=
 MO hi (by simpa using hb) (fun j y hj hy=>CH hnd j i y x b hj hi (by simp only[Fs.bl];exact aZ.2 (.inr (by simpa using hy))) (by simp only[Fs.bl];exact aZ.2 (.inr hb)))
theorem vo{L:qj}{b i:Nat}(h:vH L b=some i):∃x,L[i]?=some x/\b∈x.ns:=by
 obtain⟨x,hx,hp⟩:=ER h;exact⟨x,hx,by simpa using hp⟩
theorem Fk{L:qj}{b:Nat}(h:b∈L.flatMap Fs.ts):b∈L.flatMap Fs.bl:=by
 obtain⟨x,hx,HK⟩:=cA.1 h;exact cA.2 ⟨x,hx,by simp only[Fs.bl,Fs.ts]at HK⊢;exact aZ.2 (.inl HK)⟩
theorem uG{L:qj}{i b:Nat}{x:Fs}(h:L[i]?=some x)(hb:b∈x.ns):b∈L.flatMap Fs.bl:=
 cA.2 ⟨x,aE h,by simp only[Fs.bl];exact aZ.2 (.inr hb)⟩
theorem SK{L:qj}(hnd:(L.flatMap Fs.bl).Nodup):∀x∈L,x.bl.Nodup:=by
 induction L with
 |nil=>intro x hx;cases hx
 |cons z r ih=>
  intro x hx;simp only[ck]at hnd;obtain⟨n1,n2,_⟩:=bW.1 hnd;rcases bJ.1 hx with rfl|hx
  ·exact n1
  ·exact ih n2 x hx
theorem ET{L:qj}(hnd:(L.flatMap Fs.bl).Nodup){i b:Nat}{x:Fs}(h:L[i]?=some x)(hb:b∈x.ns):b∉L.flatMap Fs.ts:=by
 intro ht;obtain⟨y,hy,hby⟩:=cA.1 ht;obtain⟨j,hj⟩:=iz hy;have:=CH hnd j i y x b hj h (by simp only[Fs.bl,Fs.ts]at hby⊢;exact aZ.2 (.inl hby)) (by simp only[Fs.bl];exact aZ.2 (.inr hb));subst this;rw[hj]at h;cases h;have Sm:=SK hnd x hy;simp only[Fs.bl]at Sm;exact(bW.1 Sm).2.2 b hby b hb rfl
theorem LJ{L:qj}(hnd:(L.flatMap Fs.bl).Nodup){i:Nat}{x:Fs}(h:L[i]?=some x):x.ns.Nodup:=by
 have:=SK hnd x (aE h);simp only[Fs.bl]at this;exact(bW.1 this).2.1
def YM(P:Program)(fn:Func)(v0:Value)(cells':aQ)(d:D)(e:Exit)(st:St):Prop:=
 (e=.ret\/e=.normal)/\∃nz ds0 Qr es ms qs,Iq P st fn.results.toList=some ds0/\st.H[0]?=some (.Bq Qr v0)/\
  Br st.H nz (.agg Qr::ds0)=some (.agg cells'::es,ms,qs)/\ms.Nodup/\qs.Nodup/\LN es=d
theorem YM.out{fn:Func}{v0:Value}{cells':aQ}{d:D}{e:Exit}{a':Act}{w':World}{PR:St}{κ0:Nat->Option Value}{Θ0:Nat->Nat}(hs0:eN Γ PR κ0 Θ0 a' w')(ZB:YM P fn v0 cells' d e PR):
 (e=.ret\/e=.normal)/\a'.defers=[]/\S8 Γ w'/\∃v g cs' T b2 t2 u2 b3 t3 u3,(results fn a'.tmps).run P w'=.ok v w'/\WD v0=.pointer (some ⟨g,0,none⟩)/\w'.heap[g]?=some (.cells cs' T (0,0))/\(∀c,Gs v0=some c->cs'.size=3/\cs'[0]?=some c)/\
  BD w' v d b2 t2 u2/\vS w' cs'.toList cells' b3 t3 u3/\(∀b∈b3++b2,(b<Γ.W0.heap.size->¬Γ.X b->Γ.Θ0 b=0)/\b≠g/\b∉t3++t2)/\(u3++u2).Nodup/\
  (∀b∈u3++u2,VE Γ b/\b≠g/\Wr w' b)/\∀b∈t3++t2,b∈u3++u2/\BB Γ b:=by
 obtain⟨Ce,nz,ds0,Qr,es,ms,qs,hres,hH0,ZC,OU,MM,rfl⟩:=ZB;obtain⟨ρ0,hu0⟩:=hs0.vG;have C7:=xd ZC;obtain⟨Θ1,ρ1,hs1,hu1,hm1,Pe,X4⟩:=eN.HM ms hs0 hu0 OU (fun m hm=>by
  obtain⟨e,sz,rows,hH⟩:=C7.1 m hm;exact⟨_,e,sz,rows,hH,rfl⟩)
 obtain⟨vs,bs',m1,m2,m3,m4,m5⟩:=Dc hs0 hres;have hq:∀m e sz rows,PR.H[m]?=some (.row .uq e sz rows)->∃v cs ns,κ0 m=some v/\0<sz/\(∀r∈rows,r.length=sz)/\w'.ownsRow 0 e sz v rows.length cs/\yS w' (vb e) 0 cs rows.flatten ns/\ns.Nodup/\(∀b∈ns,ρ1 b=m+1)/\∀g,v.ownBlock=some g->Θ1 g=m+2:=by
  intro m e sz rows hH;have hnm:m∉ms:=fun hm=>by
   obtain⟨e',sz',dw,FV⟩:=C7.1 m hm;rw[hH]at FV;cases FV
  have PO:(kill PR.H ms)[m]?=some (.row .uq e sz rows):=by rw[kG hnm];exact hH
  obtain⟨v,cs,ns,r1,r2,r3,r4,r5⟩:=hu1.rows m e sz rows PO;obtain⟨p1,p2,v2,_,_,p3,_,_,p4,_⟩:=hs1.ob m _ PO;rw[r1]at p3;cases p3;exact⟨v,cs,ns,r1,p1,p2,r2,r3,r4,r5,p4⟩
 have h0m:0∉ms:=fun hm=>by
  obtain⟨e',sz',dw,FV⟩:=C7.1 0 hm;rw[hH0]at FV;cases FV
 have h0q:0∉qs:=fun hm=>by
  obtain⟨e',sz',dw,FV⟩:=C7.2 0 hm;rw[hH0]at FV;cases FV
 obtain⟨hv0,g,cs',T,hk0,hg,R9,bb,hbb,hbz⟩:=hs1.ob 0 _ (show(kill PR.H ms)[0]?=_ by rw[kG h0m];exact hH0);have a7v:∀c,Gs v0=some c->cs'.size=3/\cs'[0]?=some c:=fun c hc=>hv0.2 c hc g cs' T hk0 hg
 have hv0:=hv0.1;have e0:WD v0=.pointer (some ⟨g,0,none⟩):=by rw[hv0]at hk0;exact kZ hk0
 have R9:Θ1 g=2:=R9;obtain⟨c,tt,uu,DU,Bj⟩:=B2 (w:=w') (vs:=.agg cs'::vs) (fun b hb=>(hu1.free b hb).1) hq hs0.s9 ZC MM (by simp;omega) (fun i d hd=>by
  cases i with
  |zero=>
   simp at hd;subst hd;have:=Nw.agg _ _ _ hbb;exact⟨_,bb,rfl,.v (by simpa using this),hbz⟩
  |succ i=>
   obtain⟨v,b,k1,k2,k3⟩:=m4 i d (by simpa using hd);exact⟨v,b,by simpa using k1,k2,fun x hx=>Pe x (m5 x (k3 x hx))⟩) hm1
 cases DU with
 |cons _ _ _ _ b3 b2 t3 t2 u3 u2 Yq s7=>
 have ML:∃v,(results fn a'.tmps).run P w'=.ok v w'/\BD w' v (LN es) b2 t2 u2:=by
  have hrun:(results fn a'.tmps).run P w'=.ok (if h:vs.toArray.size=1 then vs.toArray[0]else .tuple vs.toArray) w':=by
   rw[results_eq,nj];simp[m1]
  cases s7 with
  |nil=>exact⟨.tuple #[],by simpa using hrun,.ff [] [] [] [] [] .nil⟩
  |cons v vs d es b1 b2 t1 t2 u1 u2 hv s7=>
   cases s7 with
   |nil=>
    simp only[dD];exact⟨v,by simpa using hrun,.v hv⟩
   |cons v2 vs d2 es b3 b4 t3 t4 u3 u4 Ik s7=>exact⟨.tuple (v::v2::vs).toArray,by simpa using hrun,.ff _ _ _ _ _ (.cons _ _ _ _ _ _ _ _ _ _ hv (.cons _ _ _ _ _ _ _ _ _ _ Ik s7))⟩
 obtain⟨v,UM,Pb⟩:=ML;have Gp:∀b∈t3++t2,Wr w' b:=by
  intro b hb;rcases aZ.1 hb with hb|hb
  ·exact Ny Yq b hb
  ·exact Nx Pb b hb
 refine⟨Ce,hs0.defers,hs0.stays,v,g,cs',T,b2,t2,u2,b3,t3,u3,UM,e0,hg,a7v,Pb,Yq.YO,fun b hb=>⟨fun hlt hx=>?_,fun e=>?_,fun ht=>?_⟩,Bj.nd,fun b hb=>?_,fun b hb=>?_⟩
 ·have:=Bj.zero b hb;rw[<-(hs1.old b hlt hx).1];exact this
 ·have:=Bj.zero b hb;subst e;omega
 ·obtain⟨⟨m,_,hΘ⟩,_⟩:=Bj.top b ht;have:=Bj.zero b hb;omega
 ·rcases Bj.mem b hb with h|⟨m,hm,hρ⟩
  ·obtain⟨⟨m,hm,hΘ⟩,_⟩:=Bj.top b h;refine⟨.inl (hs1.mine b (by omega)),fun e=>?_,Gp b h⟩;subst e;rw[R9]at hΘ;have:m=0:=by omega
   subst this;exact h0q hm
  ·have:=hu1.free b (by omega);refine⟨this.2.1,fun e=>?_,this.2.2⟩;have h0:=this.1;subst e;omega
 ·obtain⟨⟨m,hm,hΘ⟩,h2⟩:=Bj.top b hb;exact⟨h2,hs1.mine b (by omega)⟩
theorem Dv.len{vs:bp}{ds:aQ}{bs:aa}(h:Dv w κ vs ds bs):vs.length=ds.length:=by
 induction h with
 |nil=>rfl
 |cons v vs d ds b1 b2 h1 _ ih=>simp[ih]
def YL(Γ:vn)(u:Value)(rows:List aQ):Prop:=
 (∀b,¬Γ.U b)/\∃c bs,Gs u=some c/\Rd Γ.W0 c (.sl rows) bs/\∀b∈bs,b<Γ.W0.heap.size/\¬Γ.X b/\Γ.Θ0 b=0
theorem iL.of{f:FuncId}{fn:Func}{c:Code}{cells cells' A7 ds Mq:aQ}{obs:bY}{d:D}(hf:P.funcs[f]?=some fn)(hb:fn.body=some c)(hn:(fn.name== "runtime.NumGoroutine")=false)
 (hI:AG 1 (.agg cells::ds)=(.agg A7::Mq,obs)) (hl:Mq.length+1<=fn.ntmps)
 (h:(∀x∈(D.agg cells::ds).map D.Uv,gb x)->∀(v0:Value) (Γ:vn),Γ.nt=fn.ntmps->(obs=[]->A7.length=3->∀rows,A7[0]?=some (.sl rows)->YL Γ v0 rows)->AW P Γ c (YM P fn v0 cells' d) ⟨xw 0 (.ptr 0 0::Mq),.Bq A7 v0::obs⟩):iL P f cells cells' ds d:=by
 refine⟨⟨fn,hf,by simp[hb],hn⟩,?_⟩;intro w Θ g cs T args bs ts us hvs hg hargs hz hown h1 hg1 hts hnd w5;have UN:=hargs.shown;obtain⟨L,q1,q2,rfl,rfl,q5⟩:=hargs.inst 1;rw[hI]at q1 q5;have q1:L.map Fs.ob=obs:=q1;refine calls_of_wp hf hb ?_;let v0:Value:=.pointer (some ⟨g,0,none⟩)
 let u0:Value:=if cs.size=3 then .tuple ⟨[v0,cs.toList.headD undef]⟩else v0
 let κ0:Nat->Option Value:=fun i=>if i=0 then some v0 else(L[i-1]?).map Fs.v
 let Θ0:Nat->Nat:=fun b=>if b=g then 2 else match NF L b with|some i=>i+3|none=>Θ b
 let ρ0:Nat->Nat:=fun b=>match vH L b with|some i=>i+2|none=>0
 let Γ:vn:=⟨w,Θ0,fun b=>b=g\/b∈L.flatMap Fs.ts,fn.ntmps,fun b=>b∈L.flatMap Fs.bl,hvs⟩
 have hgl:g<w.heap.size:=(bO.1 hg).1;have hk0:κ0 0=some v0:=rfl;have hkS:∀i x,L[i]?=some x->κ0 (i+1)=some x.v:=fun i x hx=>by simp[κ0,hx]
 have hnm:Names κ0 1 L:=fun i x hx=>by rw[Nat.add_comm];exact hkS i x hx
 have hrd:=q5 κ0 hnm;have hlen:=hrd.len;have Q9:∀(i:Nat) x b,L[i]?=some x->x.v.ownBlock=some b->b∈L.flatMap Fs.ts:=fun i x b hx hb'=>cA.2 ⟨x,aE hx,by simp[Fs.ts,hb']⟩
 have US:∀(i:Nat) x b,L[i]?=some x->x.v.ownBlock=some b->Θ0 b=i+3:=by
  intro i x b hx hb';have:=(hts b (Q9 i x b hx hb')).2.2;simp only[Θ0,LZ hnd hx hb'];rw[b9 this]
 have X6:∀b,Θ b=0->Θ0 b=0:=by
  intro b h0;have e1:b≠g:=fun e=>by subst e;omega
  have e2:b∉L.flatMap Fs.ts:=fun e=>by have:=(hts b e).1;omega
  simp only[Θ0,zD e2];rw[b9 e1,h0]
 have Z6:∀(i:Nat) x b,L[i]?=some x->b∈x.ns->Θ0 b=0:=fun i x b hx hb'=>X6 b ((w5 b (uG hx hb')).1 (ET hnd hx hb'))
 have Bl:∀b,Θ0 b≠Θ b->b=g\/b∈L.flatMap Fs.ts:=by
  intro b hne;by_cases e:b=g
  ·exact .inl e
  ·refine .inr (di fun ht=>hne ?_);simp only[Θ0,zD ht];rw[b9 e]
 have UF:∀(j:Nat) o,obs[j]?=some o->∃x,L[j]?=some x/\o=x.ob:=by
  intro j o hj;rw[<-q1,cF]at hj;cases hx:L[j]? with
  |none=>simp[hx]at hj
  |some x=>simp[hx]at hj;exact⟨x,rfl,hj.symm⟩
 have Z7:obs.length=L.length:=by rw[<-q1];simp
 have Yq:∃b',fk w κ0 cs.toList A7 b'/\∀b∈b',Θ0 b=0:=by
  obtain⟨v,b',k1,k2,k3⟩:=hrd.at (i:=0) (d:=.agg A7) rfl;simp at k1;subst k1;exact⟨b',k2.YO,fun b hb'=>X6 b (hz b (k3 b hb'))⟩
 have hpt:WD u0=v0:=by simp only[u0];split<;>rfl
 have hkp:∀c,Gs u0=some c->cs.size=3/\cs[0]?=some c:=by
  intro c hc;simp only[u0]at hc;split at hc
  ·rename_i h3;refine⟨h3,?_⟩;simp only[Gs,ay]at hc;have Y2:cs.toList.length=3:=by simpa using h3
   rw[<-nr];cases hcl:cs.toList with
   |nil=>rw[hcl]at Y2;simp at Y2
   |cons x xs=>rw[hcl]at hc;simp only[List.headD_cons]at hc;subst hc;rfl
  ·cases hc
 have a7w:cs.size=3->∃c,Gs u0=some c/\cs[0]?=some c:=by
  intro h3;have:Gs u0=some (cs.toList.headD undef):=by simp only[u0];rw[bL h3];rfl
  exact⟨_,this,(hkp _ this).2⟩
 have hs:eN Γ ⟨xw 0 (.ptr 0 0::Mq),.Bq A7 u0::obs⟩ κ0 Θ0 {tmps:=(v0::args).toArray++Array.replicate (fn.ntmps-(v0::args).toArray.size) undef,defers:=[]} w:=by
  refine⟨rfl,?_,fun i hi=>?_,?_,?_,?_,?_,?_,?_,⟨rfl,rfl,rfl,bU _,fun _ _ _=>rfl⟩,⟨ρ0,?_,?_,?_⟩⟩
  ·simp only[aS]at hlen;simp[Γ];omega
  ·simp only[aS]at hi;simp only[κ0];rw[b9 (by omega),cr (by omega)];rfl
  ·intro id u hu;simp only[κ0]at hu;split at hu
   ·cases hu;rfl
   ·cases hx:L[id-1]? with
    |none=>simp[hx]at hu
    |some x=>simp[hx]at hu;subst hu;exact(q2 x (aE hx)).2.2.2.2
  ·intro t;rw[Gx];simp only[x6,zO,xq];have Vh:∀v,(v0::args)[t]?=some v->((v0::args).toArray++Array.replicate (fn.ntmps-(v0::args).toArray.size) undef).getD t undef=v:=by
    intro v hv;have hlt:=(aJ.1 hv).1;rw[cL,fF (by simpa using hlt)];simp only[kN,hv,vm]
   cases t with
   |zero=>
    refine⟨[],?_,by simp⟩;rw[Vh v0 rfl];exact .v (.cell (.ptr 0 0 g hk0))
   |succ s=>
    rw[gR];cases hd:Mq[s]? with
    |none=>exact⟨[],.of (.any _),by simp⟩
    |some x=>
     obtain⟨v,b',k1,k2,k3⟩:=hrd.at (i:=s+1) (d:=x) (by simpa using hd);rw[Vh v (by simpa using k1)];exact⟨b',.v k2,fun b hb'=>X6 b (hz b (k3 b hb'))⟩
  ·intro j o hj;cases j with
   |zero=>
    simp at hj;subst hj;obtain⟨b',k1,k2⟩:=Yq;refine⟨⟨by rw[hpt];exact hk0,fun c hc g2 cs2 T2 hk2 Yx=>?_⟩,g,cs,T,hk0,hg,by simp[Θ0],b',k1,k2⟩;have e3:Value.pointer (some ⟨g,0,none⟩)=.pointer (some ⟨g2,0,none⟩):=kZ (hk0.symm.trans hk2);cases e3;rw[hg]at Yx;cases Yx;exact hkp c hc
   |succ j=>
    obtain⟨x,hx,rfl⟩:=UF j o (by simpa using hj);obtain⟨p1,p2,p3,p4,_⟩:=q2 x (aE hx);exact⟨p1,p2,x.v,x.cs,x.ns,hkS j x hx,p3,p4.rd,fun b hb'=>US j x b hx hb',fun b hb'=>Z6 j x b hx hb'⟩
  ·intro b hb';by_cases e:Θ0 b=Θ b
   ·exact hown b (by rw[<-e];exact hb')
   ·rcases Bl b e with rfl|ht
    ·exact hgl
    ·exact hown b (by have:=(hts b ht).1;omega)
  ·intro b hlt hx;refine⟨rfl,?_⟩;have e:Θ0 b=Θ b:=di fun e=>hx (Bl b e)
   rw[e];exact h1 b
  ·intro b hb';refine .inr (Bl b fun e=>?_);have:=h1 b;omega
  ·intro b hb';cases Y1:vH L b with
   |none=>simp[ρ0,Y1]at hb'
   |some i=>
    obtain⟨x,hx,HK⟩:=vo Y1;exact⟨Z6 i x b hx HK,.inr (uG hx HK),(w5 b (uG hx HK)).2⟩
  ·intro id e sz rows hj;cases id with
   |zero=>simp at hj
   |succ j=>
    obtain⟨x,hx,UH⟩:=UF j _ (by simpa using hj);simp only[Fs.ob,Ob.row.injEq,sn]at UH;obtain⟨rfl,rfl,rfl⟩:=UH;obtain⟨p1,p2,p3,p4,_⟩:=q2 x (aE hx);exact⟨x.v,x.cs,x.ns,hkS j x hx,p3,p4,LJ hnd hx,fun b hb'=>by simp[ρ0,Dx hnd hx hb']⟩
  ·intro id o hj;cases id with
   |zero=>simp at hj;subst hj;trivial
   |succ j=>
    obtain⟨x,hx,UH⟩:=UF j _ (by simpa using hj);subst UH;exact Nb.AI rfl
 have hold:obs=[]->A7.length=3->∀rows,A7[0]?=some (.sl rows)->YL Γ u0 rows:=by
  intro ho Y2 rows hr0;have hL:L=[]:=cc (by rw[<-Z7,ho];rfl);refine⟨fun b hb'=>by simp[Γ,hL]at hb',?_⟩;obtain⟨b',k1,k2⟩:=Yq;obtain⟨v,b1,p1,_,p3,p4⟩:=k1.at hr0;obtain⟨c,q6,q7⟩:=a7w (by have:=k1.length;rw[Y2]at this;simpa using this);have:v=c:=by
   rw[nr,q7]at p1;cases p1;rfl
  subst this;have a86:Rd w v (.sl rows) b1:=by cases p3 with|pure h=>exact h
  refine⟨v,b1,q6,a86,fun b hb'=>⟨a86.lt b hb',fun hx=>?_,k2 b (p4 b hb')⟩⟩;have h0:=k2 b (p4 b hb');rcases hx with rfl|hx
  ·simp[Θ0]at h0
  ·simp[hL]at hx
 refine wp_mono (h UN u0 Γ rfl hold _ _ _ _ hs) ?_;rintro x a' w' ⟨PR,κ1,Θ1,hs0,ZB⟩;obtain⟨Ce,hdf,hst,v,g',cs',T',b2,t2,u2,b3,t3,u3,hrun,e0,hg',hkf,hres,aAx,aAt,R3,zK,ht'⟩:=YM.out hs0 ZB;obtain rfl:g=g':=by
  have e1:Value.pointer (some ⟨g,0,none⟩)=.pointer (some ⟨g',0,none⟩):=hpt.symm.trans e0;cases e1;rfl
 have post:a'.defers=[]/\∃v',(results fn a'.tmps).run P w'=.ok v' w'/\∃v cs' T' b2 t2 u2 b3 t3 u3,Ending.returned v'=.returned v/\w'.os=w.os/\w'.tape=w.tape/\w'.output=w.output/\w.heap.size<=w'.heap.size/\
  (∀b,b<w.heap.size->b≠g->b∉L.flatMap Fs.ts->w'.heap[b]?=w.heap[b]?)/\w'.heap[g]?=some (.cells cs' T' (0,0))/\(cs.size=3->cs'.size=3/\cs'[0]?=cs[0]?)/\
  BD w' v d b2 t2 u2/\vS w' cs'.toList cells' b3 t3 u3/\(∀b∈b3++b2,(b<w.heap.size->Θ b=0\/b∈L.flatMap Fs.ts)/\b≠g/\b∉t3++t2)/\(u3++u2).Nodup/\
  (∀b∈u3++u2,(w.heap.size<=b\/b∈L.flatMap Fs.bl)/\b≠g/\Wr w' b)/\∀b∈t3++t2,b∈u3++u2/\(w.heap.size<=b\/b∈L.flatMap Fs.ts):=by
  refine⟨hdf,v,hrun,v,cs',T',b2,t2,u2,b3,t3,u3,rfl,hst.os,hst.tape,hst.output,hst.size,fun b hlt hne hnt=>hst.block b hlt (fun hx=>hx.elim hne hnt),hg',(fun h3=>by obtain⟨c,q6,q7⟩:=a7w h3;obtain⟨q8,q9⟩:=hkf c q6;exact⟨q8,q9.trans q7.symm⟩),hres,aAx,fun b hb'=>?_,R3,fun b hb'=>?_,fun b hb'=>?_⟩
  ·obtain⟨k1,k2,k3⟩:=aAt b hb';refine⟨fun hlt=>?_,k2,k3⟩;by_cases ht:b∈L.flatMap Fs.ts
   ·exact .inr ht
   ·refine .inl ?_;have:=k1 hlt (fun hx=>hx.elim k2 ht);have e:Θ0 b=Θ b:=di fun e=>(Bl b e).elim k2 ht
    rw[<-e];exact this
  ·obtain⟨k1,k2,k3⟩:=zK b hb';refine⟨?_,k2,k3⟩;rcases k1 with(k1|k1|k1)|k1
   ·exact .inl k1
   ·exact absurd k1 k2
   ·exact .inr (Fk k1)
   ·exact .inr k1
  ·obtain⟨k1,k2⟩:=ht' b hb';refine⟨k1,?_⟩;have:=(zK b k1).2.1;rcases k2 with k2|k2|k2
   ·exact .inl k2
   ·exact absurd k2 this
   ·exact .inr k2
 rcases Ce with rfl|rfl
 ·exact post
 ·exact post
theorem YF{o:Oper}{f t id:Nat}{xs:Array Operand}{ty:Array TypeId}{x0:Operand}{xr:List Operand}{ob:Ob}{Ls cells cells' ds:aQ}{d:D}{nz:List (List (Option (Nat×Nat)))}{ms qs:aa}
 (hop:o.op=.call {callee:=.value (.func f),args:=xs,argTypes:=ty}) (hd:o.dst=some t) (hg:o.guard=none) (ht:t<Γ.nt)
 (hxs:xs.toList=x0::xr) (hx0:st.ev x0=.ptr id 0) (hH:st.H[id]?=some ob) (CK:ob.VV=some Ls)
 (Ce:Br st.H nz (.agg Ls::xr.map st.ev)=some (.agg cells::ds,ms,qs)) (OU:ms.Nodup) (MM:qs.Nodup) (qu:iL P f cells cells' ds d)
 (h:AO P Γ all rest Q ⟨(t,(s8 (st.H.length+(oy st.H.length cells').2.length) d).1)::st.σ,
  (kill st.H (ms++qs)).set id (ob.re (oy st.H.length cells').1)++((oy st.H.length cells').2++(s8 (st.H.length+(oy st.H.length cells').2.length) d).2)⟩):AO P Γ all (o::rest) Q st:=by
 intro κ Θ a w hs;have C7:=xd Ce;obtain⟨ρ,hu⟩:=hs.vG;obtain⟨Θ1,ρ1,hs1,hu1,hm1,Pe,X4⟩:=eN.HM ms hs hu OU (fun m hm=>by
  obtain⟨e,sz,rows,hH⟩:=C7.1 m hm;exact⟨_,e,sz,rows,hH,rfl⟩)
 have X3:id<st.H.length:=(aJ.1 hH).1;have hnr:∀k e sz rows,st.H[id]?≠some (.row k e sz rows):=fun k e sz rows e1=>by rw[hH]at e1;cases e1;cases CK
 have aBA:id∉ms:=fun hm=>by obtain⟨e',sz',dw,FV⟩:=C7.1 id hm;exact hnr _ _ _ _ FV
 have aBB:id∉qs:=fun hm=>by obtain⟨e',sz',dw,FV⟩:=C7.2 id hm;exact hnr _ _ _ _ FV
 have PO:(kill st.H ms)[id]?=some ob:=by rw[kG aBA];exact hH
 have a5j:=hs1.ob id _ PO;obtain⟨g,cs,T,hk0,hgc,R9,bb,hbb,hbz⟩:=a5j.cs CK;have hgl:g<w.heap.size:=(bO.1 hgc).1;have hq:∀m e sz rows,st.H[m]?=some (.row .uq e sz rows)->∃v cs ns,κ m=some v/\0<sz/\(∀r∈rows,r.length=sz)/\w.ownsRow 0 e sz v rows.length cs/\yS w (vb e) 0 cs rows.flatten ns/\ns.Nodup/\(∀b∈ns,ρ1 b=m+1)/\∀g,v.ownBlock=some g->Θ1 g=m+2:=by
  intro m e sz rows hH;have hnm:m∉ms:=fun hm=>by
   obtain⟨e',sz',dw,FV⟩:=C7.1 m hm;rw[hH]at FV;cases FV
  have PO:(kill st.H ms)[m]?=some (.row .uq e sz rows):=by rw[kG hnm];exact hH
  obtain⟨v,cs,ns,r1,r2,r3,r4,r5⟩:=hu1.rows m e sz rows PO;obtain⟨p1,p2,v2,_,_,p3,_,_,p4,_⟩:=hs1.ob m _ PO;rw[r1]at p3;cases p3;exact⟨v,cs,ns,r1,p1,p2,r2,r3,r4,r5,p4⟩
 obtain⟨bs,ts,us,DU,Bj⟩:=B2 (w:=w) (vs:=.agg cs::xr.map a.eval) (fun b hb=>(hu1.free b hb).1) hq hs.s9 Ce MM (by simp) (fun i d hd=>by
  cases i with
  |zero=>
   simp at hd;subst hd;have:=Nw.agg _ _ _ hbb;exact⟨_,bb,rfl,.v (by simpa using this),hbz⟩
  |succ i=>
   rw[gR,cF]at hd;cases hx:xr[i]? with
   |none=>rw[hx]at hd;cases hd
   |some x=>
    rw[hx]at hd;simp only[cv,ay]at hd;subst hd;obtain⟨b,r,z⟩:=hs.ev x;exact⟨a.eval x,b,by simp[hx],r,fun y hy=>Pe y (z y hy)⟩) hm1
 let Θc:Nat->Nat:=fun b=>if Θ1 b=0 then 0 else 1
 have Bl:∀b,Θc b=0↔Θ1 b=0:=fun b=>by simp only[Θc];split<;>simp_all
 have L4:∀b∈ts,∃m∈qs,Θ1 b=m+2:=fun b hb=>(Bj.top b hb).1
 have aBj:∀b∈ts,b≠g:=fun b hb e=>by
  obtain⟨m,hm,hΘ⟩:=L4 b hb;subst e;rw[R9]at hΘ;exact aBB (by
   have:id=m:=by omega
   rw[this];exact hm)
 have UP:Qn w fun b=>b=g\/b∈ts:=by
  obtain⟨B,v1,v2⟩:=hs1.vsb;refine⟨B,v1,fun b hB=>⟨(v2 b hB).2.1,fun hb'=>?_⟩⟩;have hm:BB Γ b:=by
   rcases hb' with rfl|hb'
   ·exact hs1.mine b (by omega)
   ·obtain⟨m,hm,hΘ⟩:=L4 b hb';exact hs1.mine b (by omega)
  rcases hm with q|q
  ·have:=(v2 b hB).1;omega
  ·exact(v2 b hB).2.2 q
 have hwr:∀b∈us,Wr w b:=by
  intro b hb;rcases Bj.mem b hb with h|⟨m,hm,hρ⟩
  ·exact Lp DU b h
  ·exact(hu1.free b (by omega)).2.2
 have hc:=qu.2 w Θc g cs T (xr.map a.eval) bs ts us UP hgc DU (fun b hb=>(Bl b).2 (Bj.zero b hb)) (fun b hb=>hs1.own b (fun e=>hb ((Bl b).2 e))) (fun b=>by simp only[Θc];split<;>omega)
  (by simp only[Θc];rw[b9 (by omega)]) (fun b hb=>by
   obtain⟨m,hm,hΘ⟩:=L4 b hb;exact⟨by simp only[Θc];rw[b9 (by omega)],(Bj.top b hb).2,aBj b hb⟩) Bj.nd (fun b hb=>⟨fun hnt=>by
   rcases Bj.mem b hb with h|⟨m,hm,hρ⟩
   ·exact absurd h hnt
   ·exact(Bl b).2 (hu1.free b (by omega)).1,hwr b hb⟩)
 refine wpList_plain hg fun K hK=>?_
 unfold Oper.wp;rw[Bs hop qu.1,Oper.upon_enter];have e0:xs.map a.eval=(.pointer (some ⟨g,0,none⟩)::xr.map a.eval).toArray:=by
  obtain⟨b0,r0,_⟩:=hs.ev x0;rw[hx0]at r0;obtain⟨g',hk',hv⟩:=r0.Aq;rw[hk0]at hk';cases hk';rw[<-sY,lN,hxs];simp[hv]
 rw[e0];refine hc.mono ?_;rintro x w' ⟨v,cs',T',b2,t2,u2,b3,t3,u3,rfl,k1,k2,k3,k4,UW,kg,a4H,a6C,kcs,kb,knd,ku,kt⟩;show K (a.put o.dst v) w';rw[hd];let N:=st.H.length
 have hs2:=hs1.forget (id::qs);have hNl:(kill st.H ms).length=N:=gx _ _;simp only[hNl]at hs2;let Θ2:Nat->Nat:=fun b=>if(id::qs).any (fun m=>Θ1 b==m+2)then N+2 else Θ1 b
 have hs2:eN Γ ⟨st.σ,kill (kill st.H ms) (id::qs)⟩ κ Θ2 a w:=hs2;have OW:∀b,Θ1 b=0->Θ2 b=0:=fun b hb=>by
  simp only[Θ2];rw[b9,hb];intro h;obtain⟨m,_,hm⟩:=eG.1 h;simp[hb]at hm
 have Gq:∀b,b=g\/b∈ts->Θ2 b=N+2:=by
  intro b hb;simp only[Θ2];rw[bL];rcases hb with rfl|hb
  ·exact eG.2 ⟨id,by simp,by simp[R9]⟩
  ·obtain⟨m,hm,hΘ⟩:=L4 b hb;exact eG.2 ⟨m,by simp[hm],by simp[hΘ]⟩
 have hu2:BE Γ (kill (kill st.H ms) (id::qs)) κ Θ2 w ρ1:=by
  refine⟨fun b hb=>?_,fun j e sz rows hj=>?_,fun j o hj=>?_⟩
  ·obtain⟨q1,q2⟩:=hu1.free b hb;exact⟨OW b q1,q2⟩
  ·rcases pz hj with h|⟨_,h⟩
   ·cases h
   ·exact hu1.rows j e sz rows h
  ·rcases pz hj with h|⟨_,h⟩
   ·subst h;trivial
   ·exact hu1.more j o h
 obtain⟨Lb,a1,a2,a3,a4,a5⟩:=kcs.inst N;obtain⟨Ld,c1,c2,c3,c4,c5⟩:=a6C.inst (N+(oy N cells').2.length);have aAn:Lb.length=(oy N cells').2.length:=by rw[<-a1];simp
 let L:=Lb++Ld
 have Y1:u3++u2=L.flatMap Fs.bl:=by simp[L,a3,c3]
 have aBi:t3++t2=L.flatMap Fs.ts:=by simp[L,a4,c4]
 rw[Y1]at knd ku kt;rw[aBi]at kt kb;have U8:∀x∈L,x.ok w':=fun x hx=>by
  rcases aZ.1 hx with hx|hx
  ·exact a2 x hx
  ·exact c2 x hx
 let κ':Nat->Option Value:=fun j=>if j<N then κ j else(L[j-N]?).map Fs.v
 let Θ':Nat->Nat:=fun b=>if b=g then id+2 else match NF L b with|some i=>N+i+2|none=>if Θ2 b=N+2 then 0 else Θ2 b
 let ρ':Nat->Nat:=fun b=>match vH L b with|some i=>N+i+1|none=>ρ1 b
 have hgt:g∉L.flatMap Fs.bl:=fun h=>(ku g h).2.1 rfl
 have a8E:Θ' g=id+2:=by simp[Θ']
 have R8:∀(i:Nat) x b,L[i]?=some x->x.v.ownBlock=some b->Θ' b=N+i+2:=by
  intro i x b hx hb;have hb':b∈L.flatMap Fs.ts:=cA.2 ⟨x,aE hx,by simp[Fs.ts,hb]⟩;have hne:b≠g:=fun e=>hgt (e▸Fk hb')
  simp only[Θ',LZ knd hx hb];rw[b9 hne]
 have Bk:∀b,b≠g->b∉L.flatMap Fs.ts->Θ' b=if Θ2 b=N+2 then 0 else Θ2 b:=by
  intro b h1 h2;simp only[Θ',zD h2];rw[b9 h1]
 have hzero:∀b,w.heap.size<=b->Θ2 b=0:=fun b hge=>by
  cases h:Θ2 b with
  |zero=>rfl
  |succ m=>exact absurd (hs2.own b (by omega)) (by omega)
 have a2X:∀b∈b3++b2,Θ' b=0:=by
  intro b hb;obtain⟨p1,p2,p3⟩:=kb b hb;rw[Bk b p2 p3];by_cases hlt:b<w.heap.size
  ·rcases p1 hlt with h|h
   ·rw[OW b ((Bl b).1 h)];simp
   ·rw[bL (Gq b (.inr h))]
  ·rw[hzero b (by omega)];simp
 have R4:∀(i:Nat) x b,L[i]?=some x->b∈x.ns->Θ' b=0:=by
  intro i x b hx hb;have hmem:=uG hx hb;rw[Bk b (ku b hmem).2.1 (ET knd hx hb)];rcases(ku b hmem).1 with h|h
  ·rw[hzero b h];simp
  ·rcases Bj.mem b h with h|⟨m,hm,hρ⟩
   ·rw[bL (Gq b (.inr h))]
   ·rw[OW b (hu1.free b (by omega)).1];simp
 have hn:∀(j:Nat) v,κ j=some v->κ' j=some v:=by
  intro j v hj;have:j<N:=di fun h=>by rw[hs.tR j (by omega)]at hj;cases hj
  simp only[κ'];rw[bL this];exact hj
 have AF:Names κ' N L:=by
  intro i x hx;simp only[κ'];rw[b9 (by omega),eL,hx];rfl
 have Z3:∀b∈L.flatMap Fs.ts,BB Γ b:=by
  intro b hb;rcases(kt b hb).2 with h|h
  ·exact .inl (eD hs.base h)
  ·obtain⟨m,hm,hΘ⟩:=L4 b h;exact hs1.mine b (by omega)
 have k:jU w w' Θ2 Θ' (N+2):=by
  refine⟨by omega,k1,k2,k3,k4,fun b hlt hne=>UW b hlt (fun e=>hne (Gq b (.inl e))) (fun e=>hne (Gq b (.inr e))),fun b hlt hne=>?_,fun b hb=>?_⟩
  ·rw[Bk b (fun e=>hne (Gq b (.inl e))) (fun e=>?_),b9 hne];rcases(kt b e).2 with h|h
   ·omega
   ·exact hne (Gq b (.inr h))
  ·by_cases e:b=g
   ·subst e;omega
   ·by_cases ht':b∈L.flatMap Fs.ts
    ·obtain⟨x,T,hx⟩:=(ku b (Fk ht')).2.2;exact(bO.1 hx).1
    ·rw[Bk b e ht']at hb;split at hb
     ·exact absurd rfl hb
     ·exact eC (hs2.own b hb) k4
 have hm:∀b,2<=Θ' b->BB Γ b:=by
  intro b hb;by_cases e:b=g
  ·subst e;exact hs1.mine b (by omega)
  ·by_cases ht':b∈L.flatMap Fs.ts
   ·exact Z3 b ht'
   ·rw[Bk b e ht']at hb;split at hb
    ·omega
    ·exact hs2.mine b hb
 have w5:=hs2.sA k hn hu2;have Jf:((kill st.H (ms++qs)).set id (ob.re (oy N cells').1)).length=N:=by simp[gx,N]
 have a8e:∀(a_ bs:aa) (H:bY),kill H (a_++bs)=kill (kill H a_) bs:=by
  intro a_
  induction a_ with
  |nil=>intro bs H;rfl
  |cons x a_ ih=>intro bs H;simp only[si,kill,ih]
 have aBP:(oy N cells').2++(s8 (N+(oy N cells').2.length) d).2=L.map Fs.ob:=by simp[L,a1,c1]
 have key:∀(j:Nat) y,((kill st.H (ms++qs)).set id (ob.re (oy N cells').1)++L.map Fs.ob)[j]?=some y->(∃i x,j=N+i/\L[i]?=some x/\y=x.ob)\/(j=id/\y=ob.re (oy N cells').1)\/(j≠id/\j<N/\(y=.gone\/(kill (kill st.H ms) (id::qs))[j]?=some y)):=by
  intro j y hj;by_cases hlt:j<N
  ·rw[bA (by rw[Jf];exact hlt)]at hj;rcases HP j y hj with⟨rfl,rfl⟩|⟨h1,h2⟩
   ·exact .inr (.inl ⟨rfl,rfl⟩)
   ·refine .inr (.inr ⟨h1,hlt,?_⟩);rcases pz h2 with h|⟨h3,h4⟩
    ·exact .inl h
    ·refine .inr ?_;simp only[aZ,Fi]at h3;rw[kG (by simp[h1,h3.2]),kG h3.1];exact h4
  ·rw[bE (by omega),Jf,cF]at hj;cases hx:L[j-N]? with
   |none=>simp[hx]at hj
   |some x=>simp[hx]at hj;exact .inl ⟨j-N,x,by omega,hx,hj.symm⟩
 have hs':eN Γ ⟨st.σ,(kill st.H (ms++qs)).set id (ob.re (oy N cells').1)++L.map Fs.ob⟩ κ' Θ' a w':=by
  have Mw:∀(j:Nat) y,(kill (kill st.H ms) (id::qs))[j]?=some y->y≠ .gone->∀b,ρ1 b=j+1->ρ' b=j+1:=by
   intro j y hy hyg b a5s;have hjk:j∉id::qs:=by
    rcases pz hy with h|h
    ·exact absurd h hyg
    ·exact h.1
   have hnb:vH L b=none:=by
    cases hi:vH L b with
    |none=>rfl
    |some i=>
     exfalso;obtain⟨x,hx,HK⟩:=vo hi;obtain⟨z0,_,aAc,T'',a5q⟩:=hu1.free b (by omega);rcases(ku b (uG hx HK)).1 with h|h
     ·have:=(bO.1 a5q).1;omega
     ·rcases Bj.mem b h with h|⟨m,hm',hρ⟩
      ·obtain⟨m,hm',hΘ⟩:=L4 b h;omega
      ·exact hjk (by
        have:j=m:=by omega
        rw[this];simp[hm'])
   simp only[ρ',hnb];exact a5s
  refine hs2.step k hm hn ?_ ?_ ?_ ⟨ρ',?_,?_,?_⟩
  ·intro i hi;simp only[ax,Jf,ah]at hi;simp only[κ'];rw[b9 (by omega),cr (by omega)];rfl
  ·intro i u zK;simp only[κ']at zK;split at zK
   ·exact hs.s9 i u zK
   ·cases hx:L[i-N]? with
    |none=>simp[hx]at zK
    |some x=>simp[hx]at zK;subst zK;exact(U8 x (aE hx)).2.2.2.2
  ·intro j y hj;rcases key j y hj with⟨i,x,rfl,hx,rfl⟩|⟨rfl,rfl⟩|⟨hji,hjl,hy|hy⟩
   ·obtain⟨q1,q2,q3,q4,_⟩:=U8 x (aE hx);exact .inr (.inr ⟨q1,q2,x.v,x.cs,x.ns,AF i x hx,q3,q4.rd,fun g' hg'=>R8 i x g' hx hg',fun b hb'=>R4 i x b hx hb'⟩)
   ·refine .inr (.inr (yc.a92 CK a5j (hn _) (fun c0 u0 e0' c hc g2 cs2 T2 hk2 Yx=>by
     subst e0';rw[hn _ _ hk0]at hk2;cases hk2;rw[kg]at Yx;cases Yx;obtain⟨z1,z2⟩:=a5j.1.2 c hc g cs T hk0 hgc;exact⟨(a4H z1).1,(a4H z1).2.trans z2⟩) ⟨g,cs',T',hn _ _ hk0,kg,a8E,b3,a5 κ' AF.left,fun b hb=>a2X b (by simp[hb])⟩))
   ·exact .inl hy
   ·exact .inr (.inl ⟨by omega,hy⟩)
  ·intro b hb;cases Yp:vH L b with
   |some i=>
    obtain⟨x,hx,HK⟩:=vo Yp;have hmem:=uG hx HK;refine⟨R4 i x b hx HK,?_,(ku b hmem).2.2⟩;rcases(ku b hmem).1 with h|h
    ·exact .inl (.inl (eD hs.base h))
    ·rcases Bj.mem b h with h|⟨m,hm',hρ⟩
     ·obtain⟨m,hm',hΘ⟩:=L4 b h;exact .inl (hs1.mine b (by omega))
     ·exact(hu1.free b (by omega)).2.1
   |none=>
    simp only[ρ',Yp]at hb;exact w5.1 b hb
  ·intro j e sz rows hj;rcases key j _ hj with⟨i,x,rfl,hx,hy⟩|⟨rfl,hy⟩|⟨hji,hjl,hy|hy⟩
   ·simp only[Fs.ob,Ob.row.injEq,sn]at hy;obtain⟨rfl,rfl,rfl⟩:=hy;obtain⟨q1,q2,q3,q4,_⟩:=U8 x (aE hx);exact⟨x.v,x.cs,x.ns,AF i x hx,q3,q4,LJ knd hx,fun b hb'=>by simp only[ρ',Dx knd hx hb']⟩
   ·cases ob<;>simp[Ob.re]at hy
   ·cases hy
   ·obtain⟨v',c',bs',r1,r2,r3,r4,r5⟩:=w5.2.1 j e sz rows (by omega) hy;exact⟨v',c',bs',r1,r2,r3,r4,fun b hb'=>Mw j _ hy (by simp) b (r5 b hb')⟩
  ·intro j y hj;rcases key j _ hj with⟨i,x,rfl,hx,hy⟩|⟨rfl,hy⟩|⟨hji,hjl,hy|hy⟩
   ·subst hy;exact Nb.AI rfl
   ·subst hy;cases ob<;>exact Nb.AI rfl
   ·subst hy;trivial
   ·by_cases hg:y=.gone
    ·subst hg;trivial
    ·exact(w5.2.2 j y (by omega) hy).re (Mw j y hy hg)
 rw[aBP]at h;refine hK _ _ (h _ _ _ _ (hs'.set (t:=t) ht (c5 κ' ?_) fun b hb=>a2X b (by simp[hb])));rw[<-aAn];exact AF.right
def Jy(P:Program)(f:FuncId)(ds cells:aQ):Prop:=
 (∃fn,P.funcs[f]?=some fn/\fn.body.isSome=true/\(fn.name== "runtime.NumGoroutine")=false)/\
 ∀(w:World) (Θ:Nat->Nat) (args:bp) (bs:aa),Qn w (fun _=>False)->VF w args ds bs->(∀b∈bs,Θ b=0)->(∀b,Θ b≠0->b<w.heap.size)->(∀b,Θ b<=1)->
  Calls P f args.toArray w (fun e w'=>∃g cs T bs',e=.returned (.pointer (some ⟨g,0,none⟩))/\Below w.heap.size w w'/\w.heap.size<=g/\w'.heap[g]?=some (.cells cs T (0,0))/\p6 w' cs.toList cells bs'/\
   ∀b∈bs',(b<w.heap.size->Θ b=0)/\b≠g)
def a7Z(P:Program)(fn:Func)(cells:aQ)(e:Exit)(st:St):Prop:=
 (e=.ret\/e=.normal)/\∃j,Iq P st fn.results.toList=some [.ptr j 0]/\st.H[j]?=some (.box cells)/\cells.all D.Sv=true
theorem Jy.of{f:FuncId}{fn:Func}{c:Code}{ds cells:aQ}(hf:P.funcs[f]?=some fn)(hb:fn.body=some c)(hn:(fn.name== "runtime.NumGoroutine")=false)
 (hl:ds.length<=fn.ntmps) (h:(∀d∈ds,gb d)->∀Γ:vn,Γ.nt=fn.ntmps->AW P Γ c (a7Z P fn cells) ⟨xw 0 ds,[]⟩):Jy P f ds cells:=by
 refine⟨⟨fn,hf,by simp[hb],hn⟩,?_⟩;intro w Θ args bs hvs hargs hz hown h1;obtain⟨hlen,Mt⟩:=hargs.at;refine calls_of_wp hf hb ?_;let Γ:vn:=⟨w,Θ,fun _=>False,fn.ntmps,fun _=>False,hvs⟩
 have hs:eN Γ ⟨xw 0 ds,[]⟩ (fun _=>none) Θ {tmps:=args.toArray++Array.replicate (fn.ntmps-args.toArray.size) undef,defers:=[]} w:=by
  refine⟨rfl,?_,fun _ _=>rfl,by simp,?_,by simp,hown,fun b _ _=>⟨rfl,h1 b⟩,fun b hb=>by have:=h1 b;omega,⟨rfl,rfl,rfl,bU _,fun _ _ _=>rfl⟩,⟨fun _=>0,by simp,by simp,by simp⟩⟩
  ·simp[Γ];omega
  ·intro t;rw[Gx];simp only[x6,zO,xq];cases hd:ds[t]? with
   |none=>exact⟨[],.of (.any _),by simp⟩
   |some x=>
    obtain⟨v,b,k1,k2,k3⟩:=Mt t x hd;refine⟨b,?_,fun y hy=>hz y (k3 y hy)⟩;have hlt:t<args.length:=(aJ.1 k1).1;have:(args.toArray++Array.replicate (fn.ntmps-args.toArray.size) undef).getD t undef=v:=by
     rw[cL,fF (by simpa using hlt)];simp[k1]
    rw[this];exact .of k2
 refine wp_mono (h hargs.rdb Γ rfl _ _ _ _ hs) ?_;rintro e a' w' ⟨PR,κ0,Θ0,hs0,Ce,j,hres,hH,hp⟩;obtain⟨vs,bs',m1,m2,m3,m4,m5⟩:=Dc hs0 hres;obtain⟨v,b,n1,n2,_⟩:=m4 0 _ rfl;obtain⟨g,hk,hv⟩:=n2.Aq;obtain⟨g',cs,T,hk',hg,hΘ,bb,hbb,hbz⟩:=hs0.ob j _ hH;rw[hk]at hk';cases hk';have aBn:vs=[v]:=by
  simp only[aS,bf]at m3
  match vs,m2,n1 with
  | [],_,n1=>simp at n1
  | [x],_,n1=>simp at n1;rw[n1]
  |x::y::r,m2,_=>simp only[aS]at m2;omega
 have hrun:(results fn a'.tmps).run P w'=.ok (.pointer (some ⟨g,0,none⟩)) w':=by
  rw[results_eq,nj];simp[m1,aBn,hv]
 have OO:Below w.heap.size w w':=⟨hs0.stays.os,hs0.stays.tape,hs0.stays.output,hs0.stays.size,fun b hb=>hs0.stays.block b hb (fun h=>h)⟩
 have hgm:w.heap.size<=g:=by
  rcases hs0.mine g (by omega)with q|q
  ·exact q
  ·exact q.elim
 have post:a'.defers=[]/\∃v,(results fn a'.tmps).run P w'=.ok v w'/\∃g cs T bs',Ending.returned v=.returned (.pointer (some ⟨g,0,none⟩))/\Below w.heap.size w w'/\w.heap.size<=g/\w'.heap[g]?=some (.cells cs T (0,0))/\p6 w' cs.toList cells bs'/\
  ∀b∈bs',(b<w.heap.size->Θ b=0)/\b≠g:=by
  refine⟨hs0.defers,_,hrun,g,cs,T,bb,rfl,OO,hgm,hg,hbb.pure hp,fun b hb'=>⟨fun hlt=>?_,fun e=>?_⟩⟩
  ·exact(hs0.old b hlt (fun h=>h)).1.symm.trans (hbz b hb')
  ·have:=hbz b hb';subst e;omega
 rcases Ce with rfl|rfl
 ·exact post
 ·exact post
theorem YD{o:Oper}{f t:Nat}{xs:Array Operand}{ts:Array TypeId}{ds cells:aQ}(hop:o.op=.call {callee:=.value (.func f),args:=xs,argTypes:=ts})(hd:o.dst=some t)(hg:o.guard=none)
 (ht:t<Γ.nt) (hds:Jo st.H (xs.toList.map st.ev)=some (ds,[])) (qu:Jy P f ds cells)
 (h:AO P Γ all rest Q ⟨(t,.ptr st.H.length 0)::st.σ,st.H++[.box cells]⟩):AO P Γ all (o::rest) Q st:=by
 intro κ Θ a w hs;obtain⟨bs,hargs,hz⟩:=Rs hs hds;have zy:∀b∈bs,Θ b=0:=fun b hb=>(hz b hb).elim id (fun⟨m,h1,_⟩=>by cases h1)
 let Θc:Nat->Nat:=fun b=>if Θ b=0 then 0 else 1
 have Bl:∀b,Θc b=0↔Θ b=0:=fun b=>by simp only[Θc];split<;>simp_all
 have hc:=qu.2 w Θc _ bs hs.vok hargs (fun b hb=>(Bl b).2 (zy b hb)) (fun b hb=>hs.own b (fun e=>hb ((Bl b).2 e))) (fun b=>by simp only[Θc];split<;>omega);refine wpList_plain hg fun K hK=>?_
 unfold Oper.wp;rw[Bs hop qu.1,Oper.upon_enter];have e:xs.map a.eval=(xs.toList.map a.eval).toArray:=by rw[<-lN,rH]
 rw[e];refine hc.mono ?_;rintro e w' ⟨g,cs,T,bs',rfl,hb,hge,hg',hrd,hbb⟩;show K (a.put o.dst (.pointer (some ⟨g,0,none⟩))) w';rw[hd];let Θ':Nat->Nat:=fun b=>if b=g then st.H.length+2 else Θ b
 have k:jU w w' Θ Θ' (st.H.length+2):=by
  refine⟨by omega,hb.os,hb.tape,hb.output,hb.size,fun b hlt _=>hb.block b hlt,fun b hlt _=>?_,fun b hb'=>?_⟩
  ·simp only[Θ'];rw[b9 (by omega)]
  ·simp only[Θ']at hb';split at hb'
   ·rename_i e;subst e;exact(bO.1 hg').1
   ·exact eC (hs.own b hb') hb.size
 have hbz:∀b∈bs',Θ' b=0:=by
  intro b hb';obtain⟨h1,h2⟩:=hbb b hb';simp only[Θ'];rw[b9 h2];by_cases hlt:b<w.heap.size
  ·exact(Bl b).1 (h1 hlt)
  ·cases h:Θ b with
   |zero=>rfl
   |succ m=>exact absurd (hs.own b (by omega)) hlt
 have hs':=hs.push (o:=.box cells) (v:=.pointer (some ⟨g,0,none⟩)) rfl k (hs.B1 (fun b hb'=>by
  simp only[Θ']at hb';split at hb'
  ·rename_i e;subst e;exact .inr hge
  ·exact .inl hb')) ⟨g,cs,T,nA _ _ _,hg',by simp[Θ'],bs',fk.Ei hrd,hbz⟩ rfl
 refine hK _ _ (h _ _ _ _ (hs'.set (t:=t) (d:=.ptr st.H.length 0) (bs:=[]) ht ?_ (by simp)));exact(Aw.ptr st.H.length 0 g (nA _ _ _)).S0
theorem a1j{o:Oper}{T t id e e' sz h:Nat}{kk:IntKind}{x hi:Operand}{rows:List aQ}(hop:o.op=.slice T x none (some hi) none)(hd:o.dst=some t)(hg:o.guard=none)(ht:t<Γ.nt)
 (hT:LY P T=some (e',sz)) (hx:st.ev x=.acc id) (hH:st.H[id]?=some (.row .uq e sz rows)) (hhi:st.ev hi=.int kk (h:Int)) (hle:h<=rows.length)
 (hn:AO P Γ all rest Q ⟨(t,.acc st.H.length)::st.σ,kill st.H [id]++[.row .uq e sz (rows.take h)]⟩):AO P Γ all (o::rest) Q st:=by
 intro κ Θ a w hs;obtain⟨hsz,hrl,v,cs0,Xy,hk,a45,aEH,Gp,zy⟩:=hs.ob id _ hH;obtain⟨ρ,hu⟩:=hs.vG;obtain⟨v2,cs,bs,hk2,hown,hrd,hnd,hρ⟩:=hu.rows id e sz rows hH;rw[hk]at hk2;cases hk2;obtain⟨bx,rx,_⟩:=hs.ev x;rw[hx]at rx;obtain⟨hkx,_⟩:=rx.zI;have Y4:a.eval x=v:=by rw[hk]at hkx;cases hkx;rfl
 let v':Value:=match v with| .slice q _ cap=>.slice q h cap|u=>u
 have hc:wT rows.length ((none:Option Operand).map st.ev) ((some hi).map st.ev)=some (0,h):=by
  simp[wT,hhi,hle]
 have hrun:∃q cap,v=.slice q rows.length cap/\v'=.slice q h cap/\(execOp a.eval o).run P w=.ok (.value v') w:=by
  obtain⟨zK,OS,NS⟩:=tU hT;have main:∀(q:Option Addr) (cap:Nat),(∀b off sp,q=some ⟨b,off,sp⟩->off=0/\sp=none)->v=.slice q rows.length cap->rows.length<=cap->(execOp a.eval o).run P w=.ok (.value (.slice q h cap)) w:=by
   intro q cap hq0 hq hcap;obtain⟨hr,hl,hh⟩:=Rc (P:=P) (isSlice:=true) (cap:=cap) hs hcap hc;have a2R:(if cap=0 then q else q.map (·.add (0*sz)))=q:=by
    split
    ·rfl
    ·cases q with
     |none=>rfl
     |some ad=>simp[Addr.add]
   simp only[A5,cv]at hr;simp only[execOp,hop,Y4,hq];simp[Instr.sliceAt,Instr.slice,run_underlying zK,hr,yQ (P:=P) OS w];intro hc0;cases q with
   |none=>rfl
   |some ad=>simp[Addr.add]
  rcases hown.2 with⟨rfl,h0⟩|⟨g,cap,cur,rfl,_,R2,hnc,hcm,hcs,htk⟩
  ·exact⟨none,0,by rw[h0],rfl,main none 0 (by simp) (by rw[h0]) (by omega)⟩
  ·exact⟨some ⟨g,0,none⟩,cap,rfl,rfl,main _ _ (by simp) rfl hnc⟩
 obtain⟨q,cap,hvq,a2Z,hrun⟩:=hrun;have CK:v'.ownBlock=v.ownBlock:=by rw[a2Z,hvq];cases q<;>rfl
 have hone:v'.oneCell'=true:=by
  have:=hs.s9 id v hk;rw[hvq]at this;rw[a2Z];exact this
 have hsplit:∃cs' bs',w.ownsRow 0 e sz v' (rows.take h).length cs'/\yS w (vb e) 0 cs' (rows.take h).flatten bs'/\bs'.Nodup/\∀b∈bs',b∈bs:=by
  have e1:rows.flatten=(rows.take h).flatten++(rows.drop h).flatten:=by rw[<-jt,cO]
  have Pc:=hrd;rw[e1]at Pc;obtain⟨c1,c2,b1,b2,rfl,rfl,k1,k2⟩:=Pc.split;have htl:(rows.take h).length=h:=by rw[cE];omega
  have hc1:c1.length=h*sz:=by rw[k1.length,qO (fun r hr=>hrl r (bn hr)),htl]
  refine⟨c1,b1,?_,k1,(bW.1 hnd).1,fun b hb=>by simp[hb]⟩;rw[htl];refine⟨hc1,?_⟩;rcases hown.2 with⟨hv0,h0⟩|⟨g,cap',cur,hvs,hbg,R2,hnc,hcm,hcs,htk⟩
  ·left
   have:h=0:=by omega
   subst this;have e3:=hv0.symm.trans hvq;simp only[Value.slice.injEq]at e3;exact⟨by rw[a2Z,<-e3.1,<-e3.2.2],rfl⟩
  ·right
   have e3:=hvs.symm.trans hvq;simp only[Value.slice.injEq]at e3;refine⟨g,cap',cur,by rw[a2Z,<-e3.1,<-e3.2.2],hbg,R2,by omega,hcm,hcs,?_⟩;have h3:(cur.toList.take (rows.length*sz)).take (h*sz)=(c1++c2).take (h*sz):=by rw[htk]
   rw[vO,iK (er _ hle)]at h3;rw[h3];exact kY hc1
 obtain⟨cs',bs',p1,p2,p3,p4⟩:=hsplit;refine wpList_plain hg fun K hK=>?_
 unfold Oper.wp;rw[hrun,Oper.upon_value,hd];let n:=st.H.length
 have X3:id<n:=(aJ.1 hH).1;let Θ':Nat->Nat:=fun b=>if some b=v'.ownBlock then n+2 else Θ b
 let ρ':Nat->Nat:=fun b=>if ρ b=id+1 then n+1 else ρ b
 have hvt:∀g,v'.ownBlock=some g->Θ g=id+2:=fun g X2=>Gp g (CK▸X2)
 have k:jU w w Θ Θ' (id+2):=by
  refine⟨by omega,rfl,rfl,rfl,bU _,fun _ _ _=>rfl,fun b hb hne=>?_,fun b hb=>?_⟩
  ·simp only[Θ'];rw[b9 fun e=>hne (hvt b e.symm)]
  ·simp only[Θ']at hb;split at hb
   ·rename_i e;exact hs.own b (by rw[hvt b e.symm];omega)
   ·exact hs.own b hb
 have hm:∀b,2<=Θ' b->BB Γ b:=by
  intro b hb;simp only[Θ']at hb;split at hb
  ·rename_i e;exact hs.mine b (by rw[hvt b e.symm];omega)
  ·exact hs.mine b hb
 have hnn:=zM (hs.tR n (bU _)) (some v');have w5:=hs.sA k hnn hu;have Pd:∀b∈bs',Θ' b=0:=by
  intro b hb;have h1:=(hu.free b (by rw[hρ b (p4 b hb)];omega)).1;simp only[Θ'];rw[b9 fun e=>by have:=hvt b e.symm;omega];exact h1
 have key:∀(j:Nat) y,(kill st.H [id]++[.row .uq e sz (rows.take h)])[j]?=some y->(j=n/\y=.row .uq e sz (rows.take h))\/(j≠n/\(y=.gone\/(j∉[id]/\st.H[j]?=some y))):=by
  intro j y hj;rcases Da j y hj with⟨h1,h2⟩|⟨h1,h2⟩
  ·rw[gx]at h1;exact .inl ⟨h1,h2⟩
  ·rw[gx]at h1;exact .inr ⟨h1,pz h2⟩
 have hs':eN Γ ⟨st.σ,kill st.H [id]++[.row .uq e sz (rows.take h)]⟩ (zz κ n (some v')) Θ' a w:=by
  refine hs.step k hm hnn ?_ ?_ ?_ ⟨ρ',fun b hb=>?_,fun j e2 PC fT hj=>?_,fun j y hj=>?_⟩
  ·intro i hi;simp only[ax,aS,bf,gx]at hi;unfold zz;rw[b9 (by omega)];exact hs.tR i (by omega)
  ·intro i y hy;unfold zz at hy;split at hy
   ·cases hy;exact hone
   ·exact hs.s9 i y hy
  ·intro j y hj;rcases key j y hj with⟨rfl,rfl⟩|⟨_,hy|⟨hjk,hy⟩⟩
   ·exact .inr (.inr ⟨hsz,fun r hr=>hrl r (bn hr),v',cs',bs',nA _ _ _,p1,p2.rd,fun g X2=>by simp only[Θ'];rw[bL X2.symm],Pd⟩)
   ·exact .inl hy
   ·exact .inr (.inl ⟨fun e=>hjk (by simp;omega),hy⟩)
  ·refine w5.1 b fun h0=>hb ?_
   simp only[ρ'];rw[b9 (by omega)];exact h0
  ·rcases key j _ hj with⟨rfl,hy⟩|⟨_,hy|⟨hjk,hy⟩⟩
   ·simp only[Ob.row.injEq,sn]at hy;obtain⟨rfl,rfl,rfl⟩:=hy;exact⟨v',cs',bs',nA _ _ _,p1,p2,p3,fun b hb=>by simp only[ρ'];rw[bL (hρ b (p4 b hb))]⟩
   ·cases hy
   ·obtain⟨v3,c3,b3,q1,q2,q3,q4,q5⟩:=w5.2.1 j e2 PC fT (fun e=>hjk (by simp;omega)) hy;refine⟨v3,c3,b3,q1,q2,q3,q4,fun b hb=>?_⟩;have hne:j≠id:=fun e=>hjk (by simp[e])
    simp only[ρ'];rw[b9 (by rw[q5 b hb];omega)];exact q5 b hb
  ·rcases key j _ hj with⟨rfl,hy⟩|⟨_,hy|⟨hjk,hy⟩⟩
   ·subst hy;exact Nb.AI rfl
   ·subst hy;trivial
   ·refine(w5.2.2 j y (fun e=>hjk (by simp;omega)) hy).re fun b hb=>?_
    have hne:j≠id:=fun e=>hjk (by simp[e])
    simp only[ρ'];rw[b9 (by omega)];exact hb
 refine hK _ _ (hn _ _ _ _ (hs'.set (t:=t) (d:=.acc n) (bs:=[]) ht ?_ (by simp)));exact(Aw.acc n _ (nA _ _ _)).S0
end
section
variable{P:Program}{Γ:vn}{Q:Exit->St->Prop}{st:St}{κ κ':Nat->Option Value}{Θ Θ':Nat->Nat}{a:Act}{w w':World}{all:Array Oper}{rest:List Oper}
theorem eN.a6J(hs:eN Γ st κ Θ a w):
 eN Γ ⟨st.σ,st.H++[.mp []]⟩ (zz κ st.H.length (some (.map (some w.heap.size)))) (fun b=>if b=w.heap.size then st.H.length+2 else Θ b) a (w.alloc (.map #[] 0)):=by
 have k:=jU.alloc hs (.map #[] 0) (tag:=st.H.length+2) (by omega);refine hs.push rfl k (hs.B1 (fun b hb=>by by_cases e:b=w.heap.size<;>simp_all)) ?_ rfl;exact⟨w.heap.size,#[],0,by simp[zz],heap_alloc_new w _,by simp,rfl,by simp⟩
theorem Tp{o:Oper}{T t:Nat}(hop:o.op=.makeMap T none)(hd:o.dst=some t)(hg:o.guard=none)(ht:t<Γ.nt)
 (h:AO P Γ all rest Q ⟨(t,.acc st.H.length)::st.σ,st.H++[.mp []]⟩):AO P Γ all (o::rest) Q st:=by
 intro κ Θ a w hs;have hs':=hs.a6J;refine wpList_plain hg fun K hK=>?_
 unfold Oper.wp;have hrun:(execOp a.eval o).run P w=.ok (.value (.map (some w.heap.size))) (w.alloc (.map #[] 0)):=by
  simp[execOp,hop,Instr.makeMap,newObj];rfl
 rw[hrun,Oper.upon_value,hd];refine hK _ _ (h _ _ _ _ (hs'.set (t:=t) (d:=.acc st.H.length) (bs:=[]) ht ?_ (by simp)));exact(Aw.acc st.H.length _ (nA _ _ _)).S0
theorem AN.push{es:List MapEntry}{kv:List (D×D)}{k v:D}{u x:Value}(h:AN w es kv)(hk:Rd w u k [])(hv:Rd w x v [])(c:Nat):AN w (es++[{key:=u,val:=x,born:=c}]) (kv++[(k,v)]):=by
 refine⟨by simp[h.1],fun j e p h1 h2=>?_⟩;by_cases hj:j<es.length
 ·rw[bA hj]at h1;rw[bA (by rw[<-h.1];exact hj)]at h2;exact h.2 j e p h1 h2
 ·rw[bE (by omega)]at h1;rw[bE (by rw[<-h.1];omega),<-h.1]at h2;have e0:j-es.length=0:=by
   have:=(aJ.1 h1).1;simp at this;omega
  rw[e0]at h1 h2;simp at h1 h2;subst h1;subst h2;exact⟨hk,hv⟩
theorem AN.put{es:List MapEntry}{kv:List (D×D)}{k v:D}{u x:Value}(h:AN w es kv)(hk:Rd w u k [])(hv:Rd w x v [])(i:Nat){es':List MapEntry}(hl:es'.length=es.length)
 (he:∀(j:Nat) e,es'[j]?=some e->(j=i/\e.key=u/\e.val=x)\/(j≠i/\es[j]?=some e)):AN w es' (kv.set i (k,v)):=by
 refine⟨by simp[hl,h.1],fun j e p h1 h2=>?_⟩;rcases he j e h1 with⟨rfl,h3,h4⟩|⟨hne,h3⟩
 ·have hlt:j<kv.length:=by
   have:=(aJ.1 h2).1;simpa using this
  rw[dR hlt]at h2;cases h2;rw[h3,h4];exact⟨hk,hv⟩
 ·rw[cJ (tg hne)]at h2;exact h.2 j e p h3 h2
theorem a6D{kd:TypeDesc}{k v:D}{u:Value}(PZ:Jh kd k=true)(hu:Rd w u k []):∀ {es:List MapEntry} {kv kv':List (D×D)} (i:Nat),AN w es kv->L8 k v kv=some kv'->
 (Instr.findNow kd u es i=some none/\kv'=kv++[(k,v)])\/∃j x e,Instr.findNow kd u es i=some (some (i+j,x))/\es[j]?=some e/\e.key=u/\kv'=kv.set j (k,v):=by
 intro es
 induction es with
 |nil=>
  intro kv kv' i hr h;cases kv with
  |nil=>cases h;exact .inl ⟨rfl,rfl⟩
  |cons p kv=>exact absurd hr.1 (by simp)
 |cons e es ih=>
  intro kv kv' i hr h;cases kv with
  |nil=>exact absurd hr.1 (by simp)
  |cons p kv=>
   obtain⟨r1,r2,r3⟩:=hr.cons;simp only[L8]at h;split at h
   ·rename_i hq;cases h;have:=No PZ hu r1 hq;exact .inr ⟨0,e.val,e,by simp[Instr.findNow,this.1],rfl,this.2 rfl,rfl⟩
   ·rename_i hq;have Pa:=(No PZ hu r1 hq).1;cases hk:L8 k v kv with
    |none=>rw[hk]at h;cases h
    |some kv1=>
     rw[hk]at h;cases h;rcases ih (i+1) r3 hk with⟨h1,h2⟩|⟨j,x,e',h1,h2,h3,h4⟩
     ·exact .inl ⟨by simpa[Instr.findNow,Pa]using h1,by rw[h2];rfl⟩
     ·exact .inr ⟨j+1,x,e',by simp only[Instr.findNow,Pa];rw[h1];congr 3;omega,by simpa using h2,h3,by rw[h4];rfl⟩
   ·cases h
theorem Rk{kd:TypeDesc}{u:Value}(h:MapKept.IsKey kd u)(n:Nat):Instr.sameBits n u u=true:=by
 cases kd<;>cases u<;>simp[MapKept.IsKey]at h<;>simp[Instr.sameBits]
 all_goals first
  |exact(MapKept.bytes_beq _ _).2 rfl
  |rfl
def D.scalar:D->Bool
 | .str _=>true
 | .int _ _=>true
 | .bool _=>true
 |_=>false
theorem TV{v:Value}{d:D}{bs:aa}(hd:d.scalar=true)(hu:ue w κ v d bs):Rd w v d []:=by
 cases d<;>simp[D.scalar]at hd
 all_goals cases hu with|v h=>cases h with|cell h=>cases h with|pure h=>cases h<;>(constructor<;>assumption)
theorem Qf{o:Oper}{T id:Nat}{x i y:Operand}{kd:TypeDesc}{dz:D}{kv kv':List (D×D)}(hop:o.op=.mapUpdate T x i y)(hd:o.dst=none)(hg:o.guard=none)
 (hT:Xi P T=some (kd,dz)) (hx:st.ev x=.acc id) (hH:st.H[id]?=some (.mp kv)) (PZ:Jh kd (st.ev i)=true) (hsc:(st.ev y).scalar=true) (hput:L8 (st.ev i) (st.ev y) kv=some kv')
 (h:AO P Γ all rest Q ⟨st.σ,st.H.set id (.mp kv')⟩):AO P Γ all (o::rest) Q st:=by
 intro κ Θ a w hs;obtain⟨g,es,c,q1,q2,q3,q4⟩:=hs.ob id _ hH;obtain⟨bs,r,_⟩:=hs.ev x;rw[hx]at r;obtain⟨hk,_⟩:=r.zI;rw[q1]at hk;have Vp:a.eval x=.map (some g):=(kZ hk).symm;obtain⟨bi,ri,_⟩:=hs.ev i;obtain⟨by',ry,_⟩:=hs.ev y;have hu:=QD PZ ri;have hv:=TV hsc ry;obtain⟨kt,et,z,t1,t2,t3,t4⟩:=PF hT;have hik:=Su PZ hu;have hck:=MapKept.run_checkKey (P:=P) (w:=w) t2 hik false 9999;have aB7:g<w.heap.size:=(bO.1 q2).1;have X3:id<st.H.length:=(aJ.1 hH).1;have hrun:∃es' c',(execOp a.eval o).run P w=.ok .skip {w with heap:=w.heap.setIfInBounds g (.map es' c')}/\AN w es'.toList kv':=by
  rcases a6D PZ hu 0 q4 hput with⟨hn,rfl⟩|⟨j,x',e,hn,he,hek,rfl⟩
  ·have UD:=MapKept.run_findKey (P:=P) (w:=w) t2 hn;refine⟨es.push {key:=a.eval i,val:=a.eval y,born:=c},c+1,?_,?_⟩
   ·simp[execOp,hop,Vp,Instr.mapUpdate,run_underlying t1,MapKept.run_getObj_map q2,hck,UD,MapKept.run_setObj_map _ q2]
   ·rw[Array.toList_push];exact q4.push hu hv c
  ·rw[cS]at hn;have UD:=MapKept.run_findKey (P:=P) (w:=w) t2 hn;have hej:es[j]?=some e:=by simpa using he
   have hst:(Instr.keyThatStays (((es[j]?).map (·.key)).getD (a.eval i)) (a.eval i)).run P w=.ok (a.eval i) w:=by
    rw[hej];simp[Instr.keyThatStays,hek,Rk hik]
   refine⟨es.modify j fun e=> {e with key:=a.eval i,val:=a.eval y},c,?_,?_⟩
   ·simp[execOp,hop,Vp,Instr.mapUpdate,run_underlying t1,MapKept.run_getObj_map q2,hck,UD,hst,MapKept.run_setObj_map _ q2]
   ·refine q4.put hu hv j (by simp) fun m e' hm=>?_
    rw[nr,yY]at hm;by_cases hmj:j=m
    ·subst hmj;rw[bL rfl,hej]at hm;cases hm;exact .inl ⟨rfl,rfl,rfl⟩
    ·rw[b9 hmj]at hm;exact .inr ⟨tg hmj,by simpa using hm⟩
 obtain⟨es',c',hr,aBX⟩:=hrun;have EP:∀b,b≠g->(w.heap.setIfInBounds g (.map es' c'))[b]?=w.heap[b]?:=fun b hb=>by simp[tg hb]
 have k:jU w {w with heap:=w.heap.setIfInBounds g (.map es' c')} Θ Θ (id+2):=by
  refine⟨by omega,rfl,rfl,rfl,by simp,fun b hb hne=>EP b fun e=>hne (e▸q3),fun _ _ _=>rfl,fun b hb=>?_⟩;simpa using hs.own b hb
 have hs':eN Γ ⟨st.σ,st.H.set id (.mp kv')⟩ κ Θ a {w with heap:=w.heap.setIfInBounds g (.map es' c')}:=by
  obtain⟨ρ,zK⟩:=hs.vG;have w5:=hs.sA k (fun _ _ h=>h) zK;refine hs.step k hs.mine (fun _ _ h=>h) (fun i hi=>hs.tR i (by simpa using hi)) hs.s9 ?_ ⟨ρ,w5.1,fun j e sz rows hj=>?_,fun j y hj=>?_⟩
  ·intro j y' hj;by_cases e:j=id
   ·subst e;rw[dR X3]at hj;cases hj;exact .inr (.inr ⟨g,es',c',q1,by simp[aB7],q3,aBX.stay⟩)
   ·rw[cJ (tg e)]at hj;exact .inr (.inl ⟨by omega,hj⟩)
  ·by_cases e':j=id
   ·subst e';rw[dR X3]at hj;cases hj
   ·rw[cJ (tg e')]at hj;exact w5.2.1 j e sz rows (by omega) hj
  ·by_cases e':j=id
   ·subst e';rw[dR X3]at hj;cases hj;trivial
   ·rw[cJ (tg e')]at hj;exact w5.2.2 j y (by omega) hj
 refine wpList_plain hg fun K hK=>?_
 unfold Oper.wp;rw[hr,Oper.upon_skip,hd];exact hK _ _ (h _ _ _ _ hs')
end
def Jx(P:Program)(f:FuncId)(ds:aQ)(d:D):Prop:=
 (∃fn,P.funcs[f]?=some fn/\fn.body.isSome=true/\(fn.name== "runtime.NumGoroutine")=false)/\
 ∀(w:World) (Θ:Nat->Nat) (args:bp) (bs ts us:aa),
  Qn w (fun b=>b∈ts)->zP w args ds bs ts us->
  (∀b∈bs,Θ b=0)->(∀b,Θ b≠0->b<w.heap.size)->(∀b,Θ b<=1)->(∀b∈ts,Θ b=1/\b∈us)->us.Nodup->(∀b∈us,(b∉ts->Θ b=0)/\Wr w b)->
  Calls P f args.toArray w (fun e w'=>∃v b2 t2 u2,e=.returned v/\w'.os=w.os/\w'.tape=w.tape/\w'.output=w.output/\w.heap.size<=w'.heap.size/\
   (∀b,b<w.heap.size->b∉ts->w'.heap[b]?=w.heap[b]?)/\
   BD w' v d b2 t2 u2/\(∀b∈b2,(b<w.heap.size->Θ b=0\/b∈ts)/\b∉t2)/\u2.Nodup/\
   (∀b∈u2,(w.heap.size<=b\/b∈us)/\Wr w' b)/\∀b∈t2,b∈u2/\(w.heap.size<=b\/b∈ts))
section
variable{P:Program}{Γ:vn}{Q:Exit->St->Prop}{st:St}{κ κ':Nat->Option Value}{Θ Θ':Nat->Nat}{a:Act}{w w':World}{all:Array Oper}{rest:List Oper}
theorem aAV.out{fn:Func}{d:D}{e:Exit}{a':Act}{w':World}{PR:St}{κ0:Nat->Option Value}{Θ0:Nat->Nat}(hs0:eN Γ PR κ0 Θ0 a' w')(ZB:Ql P fn d e PR):
 (e=.ret\/e=.normal)/\a'.defers=[]/\S8 Γ w'/\∃v b2 t2 u2,(results fn a'.tmps).run P w'=.ok v w'/\
  BD w' v d b2 t2 u2/\(∀b∈b2,(b<Γ.W0.heap.size->¬Γ.X b->Γ.Θ0 b=0)/\b∉t2)/\u2.Nodup/\
  (∀b∈u2,VE Γ b/\Wr w' b)/\∀b∈t2,b∈u2/\BB Γ b:=by
 obtain⟨Ce,nz,ds0,es,ms,qs,hres,ZC,OU,MM,rfl⟩:=ZB;obtain⟨ρ0,hu0⟩:=hs0.vG;have C7:=xd ZC;obtain⟨Θ1,ρ1,hs1,hu1,hm1,Pe,X4⟩:=eN.HM ms hs0 hu0 OU (fun m hm=>by
  obtain⟨e,sz,rows,hH⟩:=C7.1 m hm;exact⟨_,e,sz,rows,hH,rfl⟩)
 obtain⟨vs,bs',m1,m2,m3,m4,m5⟩:=Dc hs0 hres;have hq:∀m e sz rows,PR.H[m]?=some (.row .uq e sz rows)->∃v cs ns,κ0 m=some v/\0<sz/\(∀r∈rows,r.length=sz)/\w'.ownsRow 0 e sz v rows.length cs/\yS w' (vb e) 0 cs rows.flatten ns/\ns.Nodup/\(∀b∈ns,ρ1 b=m+1)/\∀g,v.ownBlock=some g->Θ1 g=m+2:=by
  intro m e sz rows hH;have hnm:m∉ms:=fun hm=>by
   obtain⟨e',sz',dw,FV⟩:=C7.1 m hm;rw[hH]at FV;cases FV
  have PO:(kill PR.H ms)[m]?=some (.row .uq e sz rows):=by rw[kG hnm];exact hH
  obtain⟨v,cs,ns,r1,r2,r3,r4,r5⟩:=hu1.rows m e sz rows PO;obtain⟨p1,p2,v2,_,_,p3,_,_,p4,_⟩:=hs1.ob m _ PO;rw[r1]at p3;cases p3;exact⟨v,cs,ns,r1,p1,p2,r2,r3,r4,r5,p4⟩
 obtain⟨c,ts,us,DU,Bj⟩:=B2 (w:=w') (vs:=vs) (fun b hb=>(hu1.free b hb).1) hq hs0.s9 ZC MM (by omega) (fun i d hd=>by
  obtain⟨v,b,k1,k2,k3⟩:=m4 i d hd;exact⟨v,b,k1,k2,fun x hx=>Pe x (m5 x (k3 x hx))⟩) hm1
 have ML:∃v,(results fn a'.tmps).run P w'=.ok v w'/\BD w' v (LN es) c ts us:=by
  have hrun:(results fn a'.tmps).run P w'=.ok (if h:vs.toArray.size=1 then vs.toArray[0]else .tuple vs.toArray) w':=by
   rw[results_eq,nj];simp[m1]
  cases DU with
  |nil=>exact⟨.tuple #[],by simpa using hrun,.ff [] [] [] [] [] .nil⟩
  |cons v vs d es b1 b2 t1 t2 u1 u2 hv s7=>
   cases s7 with
   |nil=>
    simp only[dD];exact⟨v,by simpa using hrun,.v hv⟩
   |cons v2 vs d2 es b3 b4 t3 t4 u3 u4 Ik s7=>exact⟨.tuple (v::v2::vs).toArray,by simpa using hrun,.ff _ _ _ _ _ (.cons _ _ _ _ _ _ _ _ _ _ hv (.cons _ _ _ _ _ _ _ _ _ _ Ik s7))⟩
 obtain⟨v,UM,Pb⟩:=ML;refine⟨Ce,hs0.defers,hs0.stays,v,c,ts,us,UM,Pb,fun b hb=>⟨fun hlt hx=>?_,fun ht=>?_⟩,Bj.nd,fun b hb=>?_,fun b hb=>?_⟩
 ·have:=Bj.zero b hb;rw[<-(hs1.old b hlt hx).1];exact this
 ·obtain⟨⟨m,_,hΘ⟩,_⟩:=Bj.top b ht;have:=Bj.zero b hb;omega
 ·rcases Bj.mem b hb with h|⟨m,hm,hρ⟩
  ·obtain⟨⟨m,hm,hΘ⟩,_⟩:=Bj.top b h;exact⟨.inl (hs1.mine b (by omega)),Nx Pb b h⟩
  ·have:=hu1.free b (by omega);exact⟨this.2.1,this.2.2⟩
 ·obtain⟨⟨m,hm,hΘ⟩,h2⟩:=Bj.top b hb;exact⟨h2,hs1.mine b (by omega)⟩
theorem Jx.of{f:FuncId}{fn:Func}{c:Code}{ds Mq:aQ}{obs:bY}{d:D}(hf:P.funcs[f]?=some fn)(hb:fn.body=some c)(hn:(fn.name== "runtime.NumGoroutine")=false)
 (hI:AG 0 ds=(Mq,obs)) (hl:Mq.length<=fn.ntmps)
 (h:(∀x∈ds.map D.Uv,gb x)->∀(Γ:vn),Γ.nt=fn.ntmps->AW P Γ c (Ql P fn d) ⟨xw 0 Mq,obs⟩):Jx P f ds d:=by
 refine⟨⟨fn,hf,by simp[hb],hn⟩,?_⟩;intro w Θ args bs ts us hvs hargs hz hown h1 hts hnd w5;have UN:=hargs.shown;obtain⟨L,q1,q2,rfl,rfl,q5⟩:=hargs.inst 0;rw[hI]at q1 q5;have q1:L.map Fs.ob=obs:=q1;refine calls_of_wp hf hb ?_;let κ0:Nat->Option Value:=fun i=>(L[i]?).map Fs.v
 let Θ0:Nat->Nat:=fun b=>match NF L b with|some i=>i+2|none=>Θ b
 let ρ0:Nat->Nat:=fun b=>match vH L b with|some i=>i+1|none=>0
 let Γ:vn:=⟨w,Θ0,fun b=>b∈L.flatMap Fs.ts,fn.ntmps,fun b=>b∈L.flatMap Fs.bl,hvs⟩
 have hkS:∀i x,L[i]?=some x->κ0 i=some x.v:=fun i x hx=>by simp[κ0,hx]
 have hnm:Names κ0 0 L:=fun i x hx=>by rw[cS];exact hkS i x hx
 have hrd:=q5 κ0 hnm;have hlen:args.length=Mq.length:=hrd.len;have Q9:∀(i:Nat) x b,L[i]?=some x->x.v.ownBlock=some b->b∈L.flatMap Fs.ts:=fun i x b hx hb'=>cA.2 ⟨x,aE hx,by simp[Fs.ts,hb']⟩
 have US:∀(i:Nat) x b,L[i]?=some x->x.v.ownBlock=some b->Θ0 b=i+2:=by
  intro i x b hx hb';simp only[Θ0,LZ hnd hx hb']
 have X6:∀b,Θ b=0->Θ0 b=0:=by
  intro b h0;have e2:b∉L.flatMap Fs.ts:=fun e=>by have:=(hts b e).1;omega
  simp only[Θ0,zD e2];exact h0
 have Z6:∀(i:Nat) x b,L[i]?=some x->b∈x.ns->Θ0 b=0:=fun i x b hx hb'=>X6 b ((w5 b (uG hx hb')).1 (ET hnd hx hb'))
 have Bl:∀b,Θ0 b≠Θ b->b∈L.flatMap Fs.ts:=by
  intro b hne;refine di fun ht=>hne ?_
  simp only[Θ0,zD ht]
 have UF:∀(j:Nat) o,obs[j]?=some o->∃x,L[j]?=some x/\o=x.ob:=by
  intro j o hj;rw[<-q1,cF]at hj;cases hx:L[j]? with
  |none=>simp[hx]at hj
  |some x=>simp[hx]at hj;exact⟨x,rfl,hj.symm⟩
 have Z7:obs.length=L.length:=by rw[<-q1];simp
 have hs:eN Γ ⟨xw 0 Mq,obs⟩ κ0 Θ0 {tmps:=args.toArray++Array.replicate (fn.ntmps-args.toArray.size) undef,defers:=[]} w:=by
  refine⟨rfl,?_,fun i hi=>?_,?_,?_,?_,?_,?_,?_,⟨rfl,rfl,rfl,bU _,fun _ _ _=>rfl⟩,⟨ρ0,?_,?_,?_⟩⟩
  ·simp[Γ];omega
  ·have hi:obs.length<=i:=hi;simp only[κ0];rw[cr (by omega)];rfl
  ·intro id u hu;simp only[κ0]at hu;cases hx:L[id]? with
   |none=>simp[hx]at hu
   |some x=>simp[hx]at hu;subst hu;exact(q2 x (aE hx)).2.2.2.2
  ·intro t;rw[Gx];simp only[x6,zO,xq];have Vh:∀v,args[t]?=some v->(args.toArray++Array.replicate (fn.ntmps-args.toArray.size) undef).getD t undef=v:=by
    intro v hv;have hlt:=(aJ.1 hv).1;rw[cL,fF (by simpa using hlt)];simp only[kN,hv,vm]
   cases hd:Mq[t]? with
   |none=>exact⟨[],.of (.any _),by simp⟩
   |some x=>
    obtain⟨v,b',k1,k2,k3⟩:=hrd.at (i:=t) (d:=x) hd;rw[Vh v k1];exact⟨b',.v k2,fun b hb'=>X6 b (hz b (k3 b hb'))⟩
  ·intro j o hj;obtain⟨x,hx,rfl⟩:=UF j o hj;obtain⟨p1,p2,p3,p4,_⟩:=q2 x (aE hx);exact⟨p1,p2,x.v,x.cs,x.ns,hkS j x hx,p3,p4.rd,fun b hb'=>US j x b hx hb',fun b hb'=>Z6 j x b hx hb'⟩
  ·intro b hb';by_cases e:Θ0 b=Θ b
   ·exact hown b (by rw[<-e];exact hb')
   ·exact hown b (by have:=(hts b (Bl b e)).1;omega)
  ·intro b hlt hx;refine⟨rfl,?_⟩;have e:Θ0 b=Θ b:=di fun e=>hx (Bl b e)
   rw[e];exact h1 b
  ·intro b hb';refine .inr (Bl b fun e=>?_);have:=h1 b;omega
  ·intro b hb';cases Y1:vH L b with
   |none=>simp[ρ0,Y1]at hb'
   |some i=>
    obtain⟨x,hx,HK⟩:=vo Y1;exact⟨Z6 i x b hx HK,.inr (uG hx HK),(w5 b (uG hx HK)).2⟩
  ·intro id e sz rows hj;obtain⟨x,hx,UH⟩:=UF id _ hj;simp only[Fs.ob,Ob.row.injEq,sn]at UH;obtain⟨rfl,rfl,rfl⟩:=UH;obtain⟨p1,p2,p3,p4,_⟩:=q2 x (aE hx);exact⟨x.v,x.cs,x.ns,hkS id x hx,p3,p4,LJ hnd hx,fun b hb'=>by simp[ρ0,Dx hnd hx hb']⟩
  ·intro id o hj;obtain⟨x,hx,UH⟩:=UF id _ hj;subst UH;exact Nb.AI rfl
 refine wp_mono (h UN Γ rfl _ _ _ _ hs) ?_;rintro x a' w' ⟨PR,κ1,Θ1,hs0,ZB⟩;obtain⟨Ce,hdf,hst,v,b2,t2,u2,hrun,hres,Qz,R3,zK,ht'⟩:=aAV.out hs0 ZB;have post:a'.defers=[]/\∃v',(results fn a'.tmps).run P w'=.ok v' w'/\∃v b2 t2 u2,Ending.returned v'=.returned v/\w'.os=w.os/\w'.tape=w.tape/\w'.output=w.output/\w.heap.size<=w'.heap.size/\
  (∀b,b<w.heap.size->b∉L.flatMap Fs.ts->w'.heap[b]?=w.heap[b]?)/\
  BD w' v d b2 t2 u2/\(∀b∈b2,(b<w.heap.size->Θ b=0\/b∈L.flatMap Fs.ts)/\b∉t2)/\u2.Nodup/\
  (∀b∈u2,(w.heap.size<=b\/b∈L.flatMap Fs.bl)/\Wr w' b)/\∀b∈t2,b∈u2/\(w.heap.size<=b\/b∈L.flatMap Fs.ts):=by
  refine⟨hdf,v,hrun,v,b2,t2,u2,rfl,hst.os,hst.tape,hst.output,hst.size,fun b hlt hnt=>hst.block b hlt (fun hx=>hnt hx),hres,fun b hb'=>?_,R3,fun b hb'=>?_,fun b hb'=>?_⟩
  ·obtain⟨k1,k3⟩:=Qz b hb';refine⟨fun hlt=>?_,k3⟩;by_cases ht:b∈L.flatMap Fs.ts
   ·exact .inr ht
   ·refine .inl ?_;have:=k1 hlt (fun hx=>ht hx);have e:Θ0 b=Θ b:=di fun e=>ht (Bl b e)
    rw[<-e];exact this
  ·obtain⟨k1,k3⟩:=zK b hb';refine⟨?_,k3⟩;rcases k1 with(k1|k1)|k1
   ·exact .inl k1
   ·exact .inr (Fk k1)
   ·exact .inr k1
  ·obtain⟨k1,k2⟩:=ht' b hb';exact⟨k1,k2⟩
 rcases Ce with rfl|rfl
 ·exact post
 ·exact post
theorem YA{o:Oper}{f t:Nat}{xs:Array Operand}{ty:Array TypeId}{ds:aQ}{d:D}{nz:List (List (Option (Nat×Nat)))}{ms qs:aa}
 (hop:o.op=.call {callee:=.value (.func f),args:=xs,argTypes:=ty}) (hd:o.dst=some t) (hg:o.guard=none) (ht:t<Γ.nt)
 (Ce:Br st.H nz (xs.toList.map st.ev)=some (ds,ms,qs)) (OU:ms.Nodup) (MM:qs.Nodup) (qu:Jx P f ds d)
 (h:AO P Γ all rest Q ⟨(t,(s8 st.H.length d).1)::st.σ,kill st.H (ms++qs)++(s8 st.H.length d).2⟩):AO P Γ all (o::rest) Q st:=by
 intro κ Θ a w hs;have C7:=xd Ce;obtain⟨ρ,hu⟩:=hs.vG;obtain⟨Θ1,ρ1,hs1,hu1,hm1,Pe,X4⟩:=eN.HM ms hs hu OU (fun m hm=>by
  obtain⟨e,sz,rows,hH⟩:=C7.1 m hm;exact⟨_,e,sz,rows,hH,rfl⟩)
 have hq:∀m e sz rows,st.H[m]?=some (.row .uq e sz rows)->∃v cs ns,κ m=some v/\0<sz/\(∀r∈rows,r.length=sz)/\w.ownsRow 0 e sz v rows.length cs/\yS w (vb e) 0 cs rows.flatten ns/\ns.Nodup/\(∀b∈ns,ρ1 b=m+1)/\∀g,v.ownBlock=some g->Θ1 g=m+2:=by
  intro m e sz rows hH;have hnm:m∉ms:=fun hm=>by
   obtain⟨e',sz',dw,FV⟩:=C7.1 m hm;rw[hH]at FV;cases FV
  have PO:(kill st.H ms)[m]?=some (.row .uq e sz rows):=by rw[kG hnm];exact hH
  obtain⟨v,cs,ns,r1,r2,r3,r4,r5⟩:=hu1.rows m e sz rows PO;obtain⟨p1,p2,v2,_,_,p3,_,_,p4,_⟩:=hs1.ob m _ PO;rw[r1]at p3;cases p3;exact⟨v,cs,ns,r1,p1,p2,r2,r3,r4,r5,p4⟩
 obtain⟨bs,ts,us,DU,Bj⟩:=B2 (w:=w) (vs:=xs.toList.map a.eval) (fun b hb=>(hu1.free b hb).1) hq hs.s9 Ce MM (by simp) (fun i d hd=>by
  rw[cF]at hd;cases hx:xs.toList[i]? with
  |none=>rw[hx]at hd;cases hd
  |some x=>
   rw[hx]at hd;simp only[cv,ay]at hd;subst hd;obtain⟨b,r,z⟩:=hs.ev x;exact⟨a.eval x,b,by rw[cF,hx];rfl,r,fun y hy=>Pe y (z y hy)⟩) hm1
 let Θc:Nat->Nat:=fun b=>if Θ1 b=0 then 0 else 1
 have Bl:∀b,Θc b=0↔Θ1 b=0:=fun b=>by simp only[Θc];split<;>simp_all
 have L4:∀b∈ts,∃m∈qs,Θ1 b=m+2:=fun b hb=>(Bj.top b hb).1
 have UP:Qn w fun b=>b∈ts:=by
  obtain⟨B,v1,v2⟩:=hs1.vsb;refine⟨B,v1,fun b hB=>⟨(v2 b hB).2.1,fun hb'=>?_⟩⟩;have hm:BB Γ b:=by
   obtain⟨m,hm,hΘ⟩:=L4 b hb';exact hs1.mine b (by omega)
  rcases hm with q|q
  ·have:=(v2 b hB).1;omega
  ·exact(v2 b hB).2.2 q
 have hwr:∀b∈us,Wr w b:=by
  intro b hb;rcases Bj.mem b hb with h|⟨m,hm,hρ⟩
  ·exact Lp DU b h
  ·exact(hu1.free b (by omega)).2.2
 have hc:=qu.2 w Θc (xs.toList.map a.eval) bs ts us UP DU (fun b hb=>(Bl b).2 (Bj.zero b hb)) (fun b hb=>hs1.own b (fun e=>hb ((Bl b).2 e))) (fun b=>by simp only[Θc];split<;>omega)
  (fun b hb=>by
   obtain⟨m,hm,hΘ⟩:=L4 b hb;exact⟨by simp only[Θc];rw[b9 (by omega)],(Bj.top b hb).2⟩) Bj.nd (fun b hb=>⟨fun hnt=>by
   rcases Bj.mem b hb with h|⟨m,hm,hρ⟩
   ·exact absurd h hnt
   ·exact(Bl b).2 (hu1.free b (by omega)).1,hwr b hb⟩)
 refine wpList_plain hg fun K hK=>?_
 unfold Oper.wp;rw[Bs hop qu.1,Oper.upon_enter];have e0:xs.map a.eval=(xs.toList.map a.eval).toArray:=by
  rw[<-sY,lN]
 rw[e0];refine hc.mono ?_;rintro x w' ⟨v,b2,t2,u2,rfl,k1,k2,k3,k4,UW,a6C,kb,knd,ku,kt⟩;show K (a.put o.dst v) w';rw[hd];let N:=st.H.length
 have hs2:=hs1.forget qs;have hNl:(kill st.H ms).length=N:=gx _ _;simp only[hNl]at hs2;let Θ2:Nat->Nat:=fun b=>if qs.any (fun m=>Θ1 b==m+2)then N+2 else Θ1 b
 have hs2:eN Γ ⟨st.σ,kill (kill st.H ms) qs⟩ κ Θ2 a w:=hs2;have OW:∀b,Θ1 b=0->Θ2 b=0:=fun b hb=>by
  simp only[Θ2];rw[b9,hb];intro h;obtain⟨m,_,hm⟩:=eG.1 h;simp[hb]at hm
 have Gq:∀b,b∈ts->Θ2 b=N+2:=by
  intro b hb;simp only[Θ2];rw[bL];obtain⟨m,hm,hΘ⟩:=L4 b hb;exact eG.2 ⟨m,hm,by simp[hΘ]⟩
 have hu2:BE Γ (kill (kill st.H ms) qs) κ Θ2 w ρ1:=by
  refine⟨fun b hb=>?_,fun j e sz rows hj=>?_,fun j o hj=>?_⟩
  ·obtain⟨q1,q2⟩:=hu1.free b hb;exact⟨OW b q1,q2⟩
  ·rcases pz hj with h|⟨_,h⟩
   ·cases h
   ·exact hu1.rows j e sz rows h
  ·rcases pz hj with h|⟨_,h⟩
   ·subst h;trivial
   ·exact hu1.more j o h
 obtain⟨L,c1,c2,c3,c4,c5⟩:=a6C.inst N;subst c3;subst c4;have U8:∀x∈L,x.ok w':=c2;let κ':Nat->Option Value:=fun j=>if j<N then κ j else(L[j-N]?).map Fs.v
 let Θ':Nat->Nat:=fun b=>match NF L b with|some i=>N+i+2|none=>if Θ2 b=N+2 then 0 else Θ2 b
 let ρ':Nat->Nat:=fun b=>match vH L b with|some i=>N+i+1|none=>ρ1 b
 have R8:∀(i:Nat) x b,L[i]?=some x->x.v.ownBlock=some b->Θ' b=N+i+2:=by
  intro i x b hx hb;simp only[Θ',LZ knd hx hb]
 have Bk:∀b,b∉L.flatMap Fs.ts->Θ' b=if Θ2 b=N+2 then 0 else Θ2 b:=by
  intro b h2;simp only[Θ',zD h2]
 have hzero:∀b,w.heap.size<=b->Θ2 b=0:=fun b hge=>by
  cases h:Θ2 b with
  |zero=>rfl
  |succ m=>exact absurd (hs2.own b (by omega)) (by omega)
 have a2X:∀b∈b2,Θ' b=0:=by
  intro b hb;obtain⟨p1,p3⟩:=kb b hb;rw[Bk b p3];by_cases hlt:b<w.heap.size
  ·rcases p1 hlt with h|h
   ·rw[OW b ((Bl b).1 h)];simp
   ·rw[bL (Gq b h)]
  ·rw[hzero b (by omega)];simp
 have R4:∀(i:Nat) x b,L[i]?=some x->b∈x.ns->Θ' b=0:=by
  intro i x b hx hb;have hmem:=uG hx hb;rw[Bk b (ET knd hx hb)];rcases(ku b hmem).1 with h|h
  ·rw[hzero b h];simp
  ·rcases Bj.mem b h with h|⟨m,hm,hρ⟩
   ·rw[bL (Gq b h)]
   ·rw[OW b (hu1.free b (by omega)).1];simp
 have hn:∀(j:Nat) v,κ j=some v->κ' j=some v:=by
  intro j v hj;have:j<N:=di fun h=>by rw[hs.tR j (by omega)]at hj;cases hj
  simp only[κ'];rw[bL this];exact hj
 have AF:Names κ' N L:=by
  intro i x hx;simp only[κ'];rw[b9 (by omega),eL,hx];rfl
 have Z3:∀b∈L.flatMap Fs.ts,BB Γ b:=by
  intro b hb;rcases(kt b hb).2 with h|h
  ·exact .inl (eD hs.base h)
  ·obtain⟨m,hm,hΘ⟩:=L4 b h;exact hs1.mine b (by omega)
 have k:jU w w' Θ2 Θ' (N+2):=by
  refine⟨by omega,k1,k2,k3,k4,fun b hlt hne=>UW b hlt (fun e=>hne (Gq b e)),fun b hlt hne=>?_,fun b hb=>?_⟩
  ·rw[Bk b (fun e=>?_),b9 hne];rcases(kt b e).2 with h|h
   ·omega
   ·exact hne (Gq b h)
  ·by_cases ht':b∈L.flatMap Fs.ts
   ·obtain⟨x,T,hx⟩:=(ku b (Fk ht')).2;exact(bO.1 hx).1
   ·rw[Bk b ht']at hb;split at hb
    ·exact absurd rfl hb
    ·exact eC (hs2.own b hb) k4
 have hm:∀b,2<=Θ' b->BB Γ b:=by
  intro b hb;by_cases ht':b∈L.flatMap Fs.ts
  ·exact Z3 b ht'
  ·rw[Bk b ht']at hb;split at hb
   ·omega
   ·exact hs2.mine b hb
 have w5:=hs2.sA k hn hu2;have Jf:(kill st.H (ms++qs)).length=N:=by simp[gx,N]
 have key:∀(j:Nat) y,(kill st.H (ms++qs)++L.map Fs.ob)[j]?=some y->(∃i x,j=N+i/\L[i]?=some x/\y=x.ob)\/(j<N/\(y=.gone\/(kill (kill st.H ms) qs)[j]?=some y)):=by
  intro j y hj;by_cases hlt:j<N
  ·rw[bA (by rw[Jf];exact hlt)]at hj;refine .inr ⟨hlt,?_⟩;rcases pz hj with h|⟨h3,h4⟩
   ·exact .inl h
   ·refine .inr ?_;simp only[aZ,Fi]at h3;rw[kG h3.2,kG h3.1];exact h4
  ·rw[bE (by omega),Jf,cF]at hj;cases hx:L[j-N]? with
   |none=>simp[hx]at hj
   |some x=>simp[hx]at hj;exact .inl ⟨j-N,x,by omega,hx,hj.symm⟩
 have hs':eN Γ ⟨st.σ,kill st.H (ms++qs)++L.map Fs.ob⟩ κ' Θ' a w':=by
  have Mw:∀(j:Nat) y,(kill (kill st.H ms) qs)[j]?=some y->y≠ .gone->∀b,ρ1 b=j+1->ρ' b=j+1:=by
   intro j y hy hyg b a5s;have hjk:j∉qs:=by
    rcases pz hy with h|h
    ·exact absurd h hyg
    ·exact h.1
   have hnb:vH L b=none:=by
    cases hi:vH L b with
    |none=>rfl
    |some i=>
     exfalso;obtain⟨x,hx,HK⟩:=vo hi;obtain⟨z0,_,aAc,T'',a5q⟩:=hu1.free b (by omega);rcases(ku b (uG hx HK)).1 with h|h
     ·have:=(bO.1 a5q).1;omega
     ·rcases Bj.mem b h with h|⟨m,hm',hρ⟩
      ·obtain⟨m,hm',hΘ⟩:=L4 b h;omega
      ·exact hjk (by
        have:j=m:=by omega
        rw[this];exact hm')
   simp only[ρ',hnb];exact a5s
  refine hs2.step k hm hn ?_ ?_ ?_ ⟨ρ',?_,?_,?_⟩
  ·intro i hi;simp only[ax,Jf,ah]at hi;simp only[κ'];rw[b9 (by omega),cr (by omega)];rfl
  ·intro i u zK;simp only[κ']at zK;split at zK
   ·exact hs.s9 i u zK
   ·cases hx:L[i-N]? with
    |none=>simp[hx]at zK
    |some x=>simp[hx]at zK;subst zK;exact(U8 x (aE hx)).2.2.2.2
  ·intro j y hj;rcases key j y hj with⟨i,x,rfl,hx,rfl⟩|⟨hjl,hy|hy⟩
   ·obtain⟨q1,q2,q3,q4,_⟩:=U8 x (aE hx);exact .inr (.inr ⟨q1,q2,x.v,x.cs,x.ns,AF i x hx,q3,q4.rd,fun g' hg'=>R8 i x g' hx hg',fun b hb'=>R4 i x b hx hb'⟩)
   ·exact .inl hy
   ·exact .inr (.inl ⟨by omega,hy⟩)
  ·intro b hb;cases Yp:vH L b with
   |some i=>
    obtain⟨x,hx,HK⟩:=vo Yp;have hmem:=uG hx HK;refine⟨R4 i x b hx HK,?_,(ku b hmem).2⟩;rcases(ku b hmem).1 with h|h
    ·exact .inl (.inl (eD hs.base h))
    ·rcases Bj.mem b h with h|⟨m,hm',hρ⟩
     ·obtain⟨m,hm',hΘ⟩:=L4 b h;exact .inl (hs1.mine b (by omega))
     ·exact(hu1.free b (by omega)).2.1
   |none=>
    simp only[ρ',Yp]at hb;exact w5.1 b hb
  ·intro j e sz rows hj;rcases key j _ hj with⟨i,x,rfl,hx,hy⟩|⟨hjl,hy|hy⟩
   ·simp only[Fs.ob,Ob.row.injEq,sn]at hy;obtain⟨rfl,rfl,rfl⟩:=hy;obtain⟨q1,q2,q3,q4,_⟩:=U8 x (aE hx);exact⟨x.v,x.cs,x.ns,AF i x hx,q3,q4,LJ knd hx,fun b hb'=>by simp only[ρ',Dx knd hx hb']⟩
   ·cases hy
   ·obtain⟨v',c',bs',r1,r2,r3,r4,r5⟩:=w5.2.1 j e sz rows (by omega) hy;exact⟨v',c',bs',r1,r2,r3,r4,fun b hb'=>Mw j _ hy (by simp) b (r5 b hb')⟩
  ·intro j y hj;rcases key j _ hj with⟨i,x,rfl,hx,hy⟩|⟨hjl,hy|hy⟩
   ·subst hy;exact Nb.AI rfl
   ·subst hy;trivial
   ·by_cases hg:y=.gone
    ·subst hg;trivial
    ·exact(w5.2.2 j y (by omega) hy).re (Mw j y hy hg)
 rw[<-c1]at h;refine hK _ _ (h _ _ _ _ (hs'.set (t:=t) ht (c5 κ' AF) fun b hb=>a2X b hb))
end
def S4(P:Program)(f:FuncId)(e:TypeId)(sz:Nat)(rows dw:List aQ):Prop:=
 (∃fn,P.funcs[f]?=some fn/\fn.body.isSome=true/\(fn.name== "runtime.NumGoroutine")=false)/\
 ∀(w:World) (v:Value) (cs:bp),0<sz->(∀r∈rows,r.length=sz)->w.ownsRow 0 e sz v rows.length cs->p6 w cs rows.flatten []->
  Calls P f #[v] w (fun x w'=>x=.returned (.tuple #[])/\w'.os=w.os/\w'.tape=w.tape/\w'.output=w.output/\w.heap.size<=w'.heap.size/\
   (∀b,b<w.heap.size->v.ownBlock≠some b->w'.heap[b]?=w.heap[b]?)/\(∀r∈dw,r.length=sz)/\∃cs',w'.ownsRow 0 e sz v dw.length cs'/\p6 w' cs' dw.flatten [])
section
variable{P:Program}{Γ:vn}{Q:Exit->St->Prop}{st:St}{κ:Nat->Option Value}{Θ:Nat->Nat}{a:Act}{w:World}{all:Array Oper}{rest:List Oper}
theorem YC{o:Oper}{f id e sz:Nat}{x:Operand}{ts:Array TypeId}{k0:RK}{rows dw:List aQ}(hop:o.op=.call {callee:=.value (.func f),args:= #[x],argTypes:=ts})(hd:∀t,o.dst=some t->t<Γ.nt)(hg:o.guard=none)
 (hx:st.ev x=.acc id) (hH:st.H[id]?=some (.row k0 e sz rows)) (hk0:k0.hand=true) (hfe:WX e=true) (hfl:rows.flatten.all D.flat=true) (qu:S4 P f e sz rows dw)
 (h:AO P Γ all rest Q (St.put ⟨st.σ,st.H.set id (.row k0 e sz dw)⟩ o.dst (.ff []))):AO P Γ all (o::rest) Q st:=by
 intro κ Θ a w hs;obtain⟨b1,r1,_⟩:=hs.ev x;rw[hx]at r1;obtain⟨hkv,_⟩:=r1.zI;obtain⟨hsz,hrl,v,cs,bs,hk1,hown,hrd,Gp,hz⟩:=hs.ob id _ hH;rw[hkv]at hk1;cases hk1;have Nk:=hrd.flat hfl;subst Nk;obtain⟨ρ,hu⟩:=hs.vG;refine wpList_plain hg fun K hK=>?_
 unfold Oper.wp;rw[Bs hop qu.1,Oper.upon_enter];have e1:(#[x]:Array Operand).map a.eval= #[a.eval x]:=by simp
 rw[e1];refine(qu.2 w _ cs hsz hrl hown hrd).mono ?_;rintro e' w' ⟨rfl,k1,k2,k3,k4,k5,OV,cs',Eg,Pc⟩;have kk:jU w w' Θ Θ (id+2):=⟨by omega,k1,k2,k3,k4,fun b hb ht=>k5 b hb fun e=>ht (Gp b e),fun _ _ _=>rfl,fun b hb=>eC (hs.own b hb) k4⟩
 have hs':eN Γ ⟨st.σ,st.H.set id (.row k0 e sz dw)⟩ κ Θ a w':=by
  refine hs.put [] HP (fun _ _ h=>h) (fun i hi=>hs.tR i (by simpa using hi)) hs.s9 kk hs.mine ?_ hu (by simp) ?_ ?_
  ·refine⟨hsz,OV,_,cs',[],hkv,Eg,Pc,Gp,?_⟩;cases k0 with
   |cl=>simp[RK.hand]at hk0
   |mv n=>simp[RK.hand]at hk0
   |ho p n=>simp[RK.hand]at hk0
   |sh=>simp
   |uq=>simp
  ·intro e2 PC fT he;cases he;exact⟨_,cs',[],hkv,Eg,.of Pc (yy (Dg hfe)),by simp,by simp⟩
  ·cases k0 with
   |mv n=>simp[RK.hand]at hk0
   |ho p n=>simp[RK.hand]at hk0
   |_=>rfl
 show K (a.put o.dst (.tuple #[])) w';refine hK _ _ (h κ Θ _ w' ?_);cases R1:o.dst with
 |none=>exact hs'
 |some t=>exact hs'.set (hd t R1) (.ff [] [] [] .nil) (by simp)
end
end Go.Cx

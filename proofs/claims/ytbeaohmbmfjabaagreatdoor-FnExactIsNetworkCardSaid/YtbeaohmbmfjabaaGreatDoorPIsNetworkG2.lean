/- Calls as contracts of the abstract walk ('Good'): arguments are looked at, results may be handed over whole and new; how a body's abstract walk gives its contract. No condition; plain lemmas. -/
import Derived.Test.YtbeaohmbmfjabaaGreatDoorPIsNetworkG1
import Derived.StillTail
namespace Go.Cx
set_option linter.unusedVariables false
set_option linter.unusedSimpArgs false
open Go.RowKit
inductive Rda(w:World):List Value→List D→List Nat→Prop
 |nil:Rda w [] [] []
 |cons (v:Value) (vs:List Value) (d:D) (ds:List D) (b1 b2:List Nat):Rd w v d b1→Rda w vs ds b2→Rda w (v::vs) (d::ds) (b1++b2)
inductive IP(w:World):Value→D→List Nat→List Nat→List Nat→Prop
 |pure {v:Value} {d:D} {bs:List Nat}:Rd w v d bs→IP w v d bs [] []
 |fr (v:Value) (e sz:Nat) (rows:List (List D)) (cs:List Value) (ns:List Nat):0<sz→(∀r∈rows,r.length=sz)→w.ownsRow 0 e sz v rows.length cs→jN w cs rows.flatten ns→v.oneCell'=true→
  IP w v (.fr e sz rows) [] v.ownBlock.toList (v.ownBlock.toList++ns)
inductive tD(w:World):List Value→List D→List Nat→List Nat→List Nat→Prop
 |nil:tD w [] [] [] [] []
 |cons (v:Value) (vs:List Value) (d:D) (ds:List D) (b1 b2 t1 t2 u1 u2:List Nat):v.oneCell'=true→IP w v d b1 t1 u1→tD w vs ds b2 t2 u2→tD w (v::vs) (d::ds) (b1++b2) (t1++t2) (u1++u2)
inductive IQ(w:World):Value→D→List Nat→List Nat→List Nat→Prop
 |cell {v:Value} {d:D} {bs ts us:List Nat}:IP w v d bs ts us→IQ w v d bs ts us
 |agg (cs:List Value) (ds:List D) (bs ts us:List Nat):tD w cs ds bs ts us→IQ w (.agg cs.toArray) (.agg ds) bs ts us
inductive z8(w:World):List Value→List D→List Nat→List Nat→List Nat→Prop
 |nil:z8 w [] [] [] [] []
 |cons (v:Value) (vs:List Value) (d:D) (ds:List D) (b1 b2 t1 t2 u1 u2:List Nat):IQ w v d b1 t1 u1→z8 w vs ds b2 t2 u2→z8 w (v::vs) (d::ds) (b1++b2) (t1++t2) (u1++u2)
inductive DA(w:World):Value→D→List Nat→List Nat→List Nat→Prop
 |v {v:Value} {d:D} {bs ts us:List Nat}:IQ w v d bs ts us→DA w v d bs ts us
 |iJ (vs:List Value) (ds:List D) (bs ts us:List Nat):z8 w vs ds bs ts us→DA w (.tuple vs.toArray) (.iJ ds) bs ts us
def Good(P:Program)(f:FuncId)(ds:List D)(d:D):Prop:=
 (∃fn,P.funcs[f]?=some fn∧fn.body.isSome=true∧(fn.name== "runtime.NumGoroutine")=false)∧
 ∀(w:World) (Θ:Nat→Nat) (args:List Value) (bs:List Nat),T4 w (fun _=>False)→Rda w args ds bs→(∀b∈bs,Θ b=0)→(∀b,Θ b≠0→b<w.heap.size)→(∀b,Θ b≤1)→
  Calls P f args.toArray w (fun e w'=>∃v bs' ts us,e=.returned v∧Below w.heap.size w w'∧DA w' v d bs' ts us∧(∀b∈bs',b<w.heap.size→Θ b=0)∧(∀b∈bs',b∉ts)∧us.Nodup∧
   (∀b∈us,w.heap.size≤b∧Wr w' b)∧∀b∈ts,b∈us)
def EA(n:Nat)(d:D):D×List Ob:=match d with
 | .fr e sz rows=>(.acc n,[.row .uq e sz rows])
 |d=>(d,[])
def l9(n:Nat):List D→List D×List Ob
 | []=>([],[])
 |d::ds=>((EA n d).1::(l9 (n+(EA n d).2.length) ds).1,(EA n d).2++(l9 (n+(EA n d).2.length) ds).2)
def CE(n:Nat)(d:D):D×List Ob:=match d with
 | .agg cs=>(.agg (l9 n cs).1,(l9 n cs).2)
 |d=>EA n d
def DB(n:Nat):List D→List D×List Ob
 | []=>([],[])
 |d::ds=>((CE n d).1::(DB (n+(CE n d).2.length) ds).1,(CE n d).2++(DB (n+(CE n d).2.length) ds).2)
def oH(n:Nat)(d:D):D×List Ob:=match d with
 | .iJ vs=>(.iJ (DB n vs).1,(DB n vs).2)
 |d=>CE n d
structure Fs where
 v:Value
 e:Nat
 sz:Nat
 rows:List (List D)
 cs:List Value
 ns:List Nat
def Fs.ob(x:Fs):Ob:=.row .uq x.e x.sz x.rows
def Fs.ok(w:World)(x:Fs):Prop:=0<x.sz∧(∀r∈x.rows,r.length=x.sz)∧w.ownsRow 0 x.e x.sz x.v x.rows.length x.cs∧jN w x.cs x.rows.flatten x.ns∧x.v.oneCell'=true
def Fs.bl(x:Fs):List Nat:=x.v.ownBlock.toList++x.ns
def Fs.ts(x:Fs):List Nat:=x.v.ownBlock.toList
section
variable{P:Program}{Γ:uK}{Q:Exit→St→Prop}{st:St}{κ κ':Nat→Option Value}{Θ Θ':Nat→Nat}{a:Act}{w w':World}{all:Array Oper}{rest:List Oper}
def Names(κ:Nat→Option Value)(n:Nat)(L:List Fs):Prop:=∀(i:Nat) x,L[i]?=some x→κ (n+i)=some x.v
theorem Names.left{n:Nat}{L1 L2:List Fs}(h:Names κ n (L1++L2)):Names κ n L1:=fun i x hx=>h i x (by
 rw[List.getElem?_append_left (List.getElem?_eq_some_iff.1 hx).1];exact hx)
theorem Names.right{n:Nat}{L1 L2:List Fs}(h:Names κ n (L1++L2)):Names κ (n+L1.length) L2:=fun i x hx=>by
 have:=h (L1.length+i) x (by rw[List.getElem?_append_right (by omega)];simpa using hx)
 rw[←this];congr 1;omega
theorem IP.inst{v:Value}{d:D}{bs ts us:List Nat}(h:IP w v d bs ts us)(n:Nat):
 ∃L:List Fs,L.map Fs.ob=(EA n d).2∧(∀x∈L,x.ok w)∧us=L.flatMap Fs.bl∧ts=L.flatMap Fs.ts∧∀κ,Names κ n L→yK w κ v (EA n d).1 bs:=by
 cases h with
 |pure h=>
  have e:EA n d=(d,[]):=by cases h<;>rfl
  rw[e]
  exact⟨[],rfl,by simp,rfl,rfl,fun κ _=>.pure h⟩
 |fr e sz rows cs ns h1 h2 h3 h4 h5=>
  refine⟨[⟨v,e,sz,rows,cs,ns⟩],rfl,?_,by simp[Fs.bl],by simp[Fs.ts],fun κ hk=>?_⟩
  ·intro x hx;simp at hx;subst hx;exact⟨h1,h2,h3,h4,h5⟩
  ·exact .acc n v (by simpa using hk 0 _ rfl)
theorem tD.inst{vs:List Value}{ds:List D}{bs ts us:List Nat}(h:tD w vs ds bs ts us)(n:Nat):
 ∃L:List Fs,L.map Fs.ob=(l9 n ds).2∧(∀x∈L,x.ok w)∧us=L.flatMap Fs.bl∧ts=L.flatMap Fs.ts∧∀κ,Names κ n L→c8 w κ vs (l9 n ds).1 bs:=by
 induction h generalizing n with
 |nil=>exact⟨[],rfl,by simp,rfl,rfl,fun κ _=>.nil⟩
 |cons v vs d ds b1 b2 t1 t2 u1 u2 h1 h2 _ ih=>
  obtain⟨L1,q1,q2,q3,q4,q5⟩:=h2.inst n
  obtain⟨L2,p1,p2,p3,p4,p5⟩:=ih (n+(EA n d).2.length)
  have hl:L1.length=(EA n d).2.length:=by rw[←q1];simp
  refine⟨L1++L2,by simp[l9,q1,p1],?_,by simp[q3,p3],by simp[q4,p4],fun κ hk=>?_⟩
  ·intro x hx
   rcases List.mem_append.1 hx with hx|hx
   ·exact q2 x hx
   ·exact p2 x hx
  ·refine .cons _ _ _ _ _ _ h1 (q5 κ hk.left) (p5 κ ?_)
   rw[←hl];exact hk.right
theorem IQ.inst{v:Value}{d:D}{bs ts us:List Nat}(h:IQ w v d bs ts us)(n:Nat):
 ∃L:List Fs,L.map Fs.ob=(CE n d).2∧(∀x∈L,x.ok w)∧us=L.flatMap Fs.bl∧ts=L.flatMap Fs.ts∧∀κ,Names κ n L→TF w κ v (CE n d).1 bs:=by
 cases h with
 |cell h=>
  by_cases tB:∃ds,d=.agg ds
  ·obtain⟨ds,rfl⟩:=tB
   cases h with
   |pure h=>
    cases h with
    |agg cs _ _ h=>
     have:∀(vs:List Value) (es:List D) (b:List Nat),jN w vs es b→∀n,(l9 n es).1=es∧(l9 n es).2=[]:=by
      intro vs es
      induction es generalizing vs with
      |nil=>intro b _ n;exact⟨rfl,rfl⟩
      |cons e es ih=>
       intro b hh n
       cases hh with
       |cons v vs _ _ b1 b2 _ h2 h3=>
        have e1:EA n e=(e,[]):=by cases h2<;>rfl
        have:=ih vs b2 h3 n
        simp[l9,e1,this]
     obtain⟨e1,e2⟩:=this _ _ _ h n
     refine⟨[],by simp[CE,e2],by simp,rfl,rfl,fun κ _=>?_⟩
     simp only[CE,e1]
     exact .agg _ _ _ (c8.E8 h)
  ·have e:CE n d=EA n d:=by cases d<;>first|rfl|exact absurd ⟨_,rfl⟩ tB
   rw[e]
   obtain⟨L,q1,q2,q3,q4,q5⟩:=h.inst n
   exact⟨L,q1,q2,q3,q4,fun κ hk=>.cell (q5 κ hk)⟩
 |agg cs ds bs ts us h=>
  obtain⟨L,q1,q2,q3,q4,q5⟩:=h.inst n
  exact⟨L,q1,q2,q3,q4,fun κ hk=>.agg _ _ _ (q5 κ hk)⟩
theorem z8.inst{vs:List Value}{ds:List D}{bs ts us:List Nat}(h:z8 w vs ds bs ts us)(n:Nat):
 ∃L:List Fs,L.map Fs.ob=(DB n ds).2∧(∀x∈L,x.ok w)∧us=L.flatMap Fs.bl∧ts=L.flatMap Fs.ts∧∀κ,Names κ n L→D6 w κ vs (DB n ds).1 bs:=by
 induction h generalizing n with
 |nil=>exact⟨[],rfl,by simp,rfl,rfl,fun κ _=>.nil⟩
 |cons v vs d ds b1 b2 t1 t2 u1 u2 h2 _ ih=>
  obtain⟨L1,q1,q2,q3,q4,q5⟩:=h2.inst n
  obtain⟨L2,p1,p2,p3,p4,p5⟩:=ih (n+(CE n d).2.length)
  have hl:L1.length=(CE n d).2.length:=by rw[←q1];simp
  refine⟨L1++L2,by simp[DB,q1,p1],?_,by simp[q3,p3],by simp[q4,p4],fun κ hk=>?_⟩
  ·intro x hx
   rcases List.mem_append.1 hx with hx|hx
   ·exact q2 x hx
   ·exact p2 x hx
  ·refine .cons _ _ _ _ _ _ (q5 κ hk.left) (p5 κ ?_)
   rw[←hl];exact hk.right
theorem DA.inst{v:Value}{d:D}{bs ts us:List Nat}(h:DA w v d bs ts us)(n:Nat):
 ∃L:List Fs,L.map Fs.ob=(oH n d).2∧(∀x∈L,x.ok w)∧us=L.flatMap Fs.bl∧ts=L.flatMap Fs.ts∧∀κ,Names κ n L→qW w κ v (oH n d).1 bs:=by
 cases h with
 |v h=>
  have hnt:∀vs,d≠ .iJ vs:=by
   intro vs e;subst e
   cases h with
   |cell h=>cases h with|pure h=>cases h
  have e:oH n d=CE n d:=by cases d<;>first|rfl|exact absurd rfl (hnt _)
  rw[e]
  obtain⟨L,q1,q2,q3,q4,q5⟩:=h.inst n
  exact⟨L,q1,q2,q3,q4,fun κ hk=>.v (q5 κ hk)⟩
 |iJ vs ds bs ts us h=>
  obtain⟨L,q1,q2,q3,q4,q5⟩:=h.inst n
  exact⟨L,q1,q2,q3,q4,fun κ hk=>.iJ _ _ _ (q5 κ hk)⟩
theorem ZS{v:Value}{d:D}{bs ts us:List Nat}(h:IP w v d bs ts us):∀b∈ts,Wr w b:=by
 cases h with
 |pure=>simp
 |fr e sz rows cs ns h1 h2 h3 h4 h5=>
  intro b hb
  simp only[Option.mem_toList]at hb
  rcases h3.2 with⟨rfl,_⟩|⟨g,cap,cur,rfl,_,hg,_⟩
  ·simp[Value.ownBlock]at hb
  ·simp[Value.ownBlock]at hb;subst hb;exact⟨_,_,hg⟩
theorem a3y{vs:List Value}{ds:List D}{bs ts us:List Nat}(h:tD w vs ds bs ts us):∀b∈ts,Wr w b:=by
 induction h with
 |nil=>simp
 |cons v vs d ds b1 b2 t1 t2 u1 u2 h1 h2 _ ih=>
  intro b hb
  rcases List.mem_append.1 hb with hb|hb
  ·exact ZS h2 b hb
  ·exact ih b hb
theorem TP{v:Value}{d:D}{bs ts us:List Nat}(h:IQ w v d bs ts us):∀b∈ts,Wr w b:=by
 cases h with
 |cell h=>exact ZS h
 |agg cs ds bs ts us h=>exact a3y h
theorem WC{vs:List Value}{ds:List D}{bs ts us:List Nat}(h:z8 w vs ds bs ts us):∀b∈ts,Wr w b:=by
 induction h with
 |nil=>simp
 |cons v vs d ds b1 b2 t1 t2 u1 u2 h2 _ ih=>
  intro b hb
  rcases List.mem_append.1 hb with hb|hb
  ·exact TP h2 b hb
  ·exact ih b hb
theorem ZT{v:Value}{d:D}{bs ts us:List Nat}(h:DA w v d bs ts us):∀b∈ts,Wr w b:=by
 cases h with
 |v h=>exact TP h
 |iJ vs ds bs ts us h=>exact WC h
def ix{α:Type}(p:α→Bool):List α→Option Nat
 | []=>none
 |x::r=>if p x then some 0 else(ix p r).map (· +1)
theorem xI{α:Type}{p:α→Bool}:∀ {l:List α} {i:Nat},ix p l=some i→∃x,l[i]?=some x∧p x=true:=by
 intro l
 induction l with
 |nil=>intro i h;cases h
 |cons x r ih=>
  intro i h
  simp only[ix]at h
  split at h
  ·cases h;exact⟨x,rfl,by assumption⟩
  ·cases hr:ix p r with
   |none=>simp[hr]at h
   |some j=>simp[hr]at h;subst h;simpa using ih hr
theorem DC{α:Type}{p:α→Bool}:∀ {l:List α} {i:Nat} {x:α},l[i]?=some x→p x=true→(∀(j:Nat) y,l[j]?=some y→p y=true→j=i)→ix p l=some i:=by
 intro l
 induction l with
 |nil=>intro i x h;simp at h
 |cons y r ih=>
  intro i x h hp hu
  simp only[ix]
  split
  ·rename_i hy;rw[hu 0 y rfl hy]
  ·rename_i hy
   cases i with
   |zero=>simp at h;subst h;exact absurd hp hy
   |succ i=>
    rw[ih (by simpa using h) hp (fun j z hz hpz=>by have:=hu (j+1) z (by simpa using hz) hpz;omega)]
    rfl
theorem vQ{α:Type}{f:α→List Nat}:∀ {l:List α},(l.flatMap f).Nodup→∀(i j:Nat) x y b,l[i]?=some x→l[j]?=some y→b∈f x→b∈f y→i=j:=by
 intro l
 induction l with
 |nil=>intro _ i j x y b hi;simp at hi
 |cons z r ih=>
  intro hnd i j x y b hi hj FR hby
  simp only[List.flatMap_cons]at hnd
  obtain⟨n1,n2,n3⟩:=List.nodup_append.1 hnd
  cases i with
  |zero=>
   simp at hi;subst hi
   cases j with
   |zero=>rfl
   |succ j=>
    simp at hj
    exact absurd rfl (n3 b FR b (List.mem_flatMap.2 ⟨y,List.mem_of_getElem? hj,hby⟩))
  |succ i=>
   simp at hi
   cases j with
   |zero=>
    simp at hj;subst hj
    exact absurd rfl (n3 b hby b (List.mem_flatMap.2 ⟨x,List.mem_of_getElem? hi,FR⟩))
   |succ j=>simp at hj;rw[ih n2 i j x y b hi hj FR hby]
theorem bN.WD(hs:bN Γ st κ Θ a w)(hb:Below w.heap.size w w')(L:List Fs)(hL:∀x∈L,x.ok w')(hnd:(L.flatMap Fs.bl).Nodup)(hfr:∀b∈L.flatMap Fs.bl,w.heap.size≤b∧Wr w' b)
 (n:Nat) (H':List Ob) (hfree:∀i,i<L.length→κ (n+i)=none) (hlen':st.H.length≤H'.length) (hin:n+L.length≤H'.length)
 (key:∀(j:Nat) y,H'[j]?=some y→(∃i x,j=n+i∧L[i]?=some x∧y=x.ob)∨((j<n∨n+L.length≤j)∧(y=.gone∨st.H[j]?=some y))):
 ∃κ' Θ',bN Γ ⟨st.σ,H'⟩ κ' Θ' a w'∧Names κ' n L∧(∀(j:Nat) v,κ j=some v→κ' j=some v)∧(∀b,b∉L.flatMap Fs.ts→Θ' b=Θ b)∧(∀j,(j<n∨n+L.length≤j)→κ' j=κ j):=by
 let κ':Nat→Option Value:=fun j=>if j<n∨n+L.length≤j then κ j else(L[j-n]?).map Fs.v
 let Θ':Nat→Nat:=fun b=>match ix (fun x:Fs=>x.v.ownBlock==some b) L with|some i=>n+i+2|none=>Θ b
 have hu1:∀(i j:Nat) x y b,L[i]?=some x→L[j]?=some y→b∈x.bl→b∈y.bl→i=j:=fun i j x y b=>vQ hnd i j x y b
 have hts:∀(i:Nat) x b,L[i]?=some x→x.v.ownBlock=some b→Θ' b=n+i+2:=by
  intro i x b hi hxb
  have:ix (fun x:Fs=>x.v.ownBlock==some b) L=some i:=DC hi (by simp[hxb]) (fun j y hj hy=>by
   simp only[beq_iff_eq]at hy
   exact hu1 j i y x b hj hi (by simp[Fs.bl,hy]) (by simp[Fs.bl,hxb]))
  simp only[Θ',this]
 have hno:∀b,b∉L.flatMap Fs.ts→Θ' b=Θ b:=by
  intro b hb'
  simp only[Θ']
  cases h:ix (fun x:Fs=>x.v.ownBlock==some b) L with
  |none=>rfl
  |some i=>
   obtain⟨x,hx,hp⟩:=xI h
   exact absurd (List.mem_flatMap.2 ⟨x,List.mem_of_getElem? hx,by simp only[beq_iff_eq]at hp;simp[Fs.ts,hp]⟩) hb'
 have hsub:∀b,b∈L.flatMap Fs.ts→b∈L.flatMap Fs.bl:=by
  intro b h
  obtain⟨x,hx,FR⟩:=List.mem_flatMap.1 h
  exact List.mem_flatMap.2 ⟨x,hx,by simp only[Fs.bl,Fs.ts]at FR⊢;exact List.mem_append.2 (.inl FR)⟩
 have hold:∀b,b<w.heap.size→Θ' b=Θ b:=fun b hlt=>hno b (fun h=>by have:=(hfr b (hsub b h)).1;omega)
 have hzero:∀b,w.heap.size≤b→Θ b=0:=fun b hge=>by
  cases h:Θ b with
  |zero=>rfl
  |succ m=>exact absurd (hs.own b (by omega)) (by omega)
 have hn:∀(j:Nat) v,κ j=some v→κ' j=some v:=by
  intro j v hj
  have:j<n∨n+L.length≤j:=by
   rcases Nat.lt_or_ge j n with h|h
   ·exact .inl h
   ·rcases Nat.lt_or_ge j (n+L.length)with h2|h2
    ·have:=hfree (j-n) (by omega)
     rw[show n+(j-n)=j from by omega,hj]at this;cases this
    ·exact .inr h2
  simp only[κ'];rw[if_pos this];exact hj
 have AA:Names κ' n L:=by
  intro i x hx
  have hlt:=(List.getElem?_eq_some_iff.1 hx).1
  simp only[κ']
  rw[if_neg (by omega),Nat.add_sub_cancel_left,hx];rfl
 have hTb:∀b,Θ' b≠0→Θ b≠0∨b∈L.flatMap Fs.bl:=by
  intro b h
  by_cases hbt:b∈L.flatMap Fs.ts
  ·exact .inr (hsub b hbt)
  ·rw[hno b hbt]at h;exact .inl h
 have k:fD w w' Θ Θ' (H'.length+2):=by
  refine⟨by omega,hb.os,hb.tape,hb.output,hb.size,fun b hlt _=>hb.block b hlt,fun b hlt _=>hold b hlt,fun b h=>?_⟩
  rcases hTb b h with h|h
  ·exact Nat.lt_of_lt_of_le (hs.own b h) hb.size
  ·obtain⟨cs,T,hx⟩:=(hfr b h).2
   exact(Array.getElem?_eq_some_iff.1 hx).1
 have hm:∀b,2≤Θ' b→BM Γ b:=by
  intro b h
  by_cases hbt:b∈L.flatMap Fs.ts
  ·exact .inl (Nat.le_trans hs.base (hfr b (hsub b hbt)).1)
  ·rw[hno b hbt]at h;exact hs.mine b h
 obtain⟨ρ,hu⟩:=hs.tC
 have uB:=hs.nO k hn hu
 let ρ':Nat→Nat:=fun b=>match ix (fun x:Fs=>x.ns.contains b) L with|some i=>n+i+1|none=>ρ b
 have hns:∀(i:Nat) x b,L[i]?=some x→b∈x.ns→ρ' b=n+i+1:=by
  intro i x b hi hxb
  have:ix (fun x:Fs=>x.ns.contains b) L=some i:=DC hi (by simpa using hxb) (fun j y hj hy=>by
   exact hu1 j i y x b hj hi (by simp only[Fs.bl];exact List.mem_append.2 (.inr (by simpa using hy))) (by simp only[Fs.bl];exact List.mem_append.2 (.inr hxb)))
  simp only[ρ',this]
 have yL:∀(i:Nat) x b,L[i]?=some x→b∈x.ns→Θ' b=0:=by
  intro i x b hi hxb
  have hmem:b∈L.flatMap Fs.bl:=List.mem_flatMap.2 ⟨x,List.mem_of_getElem? hi,by simp only[Fs.bl];exact List.mem_append.2 (.inr hxb)⟩
  rw[hno b ?_]
  ·exact hzero b (hfr b hmem).1
  ·intro h
   obtain⟨y,hy,hby⟩:=List.mem_flatMap.1 h
   obtain⟨j,hj⟩:=List.getElem?_of_mem hy
   have:=hu1 j i y x b hj hi (by simp only[Fs.bl,Fs.ts]at hby⊢;exact List.mem_append.2 (.inl hby)) (by simp only[Fs.bl];exact List.mem_append.2 (.inr hxb))
   subst this
   rw[hj]at hi;cases hi
   have QU:x.bl.Nodup:=by
    have:∀(l:List Fs),(l.flatMap Fs.bl).Nodup→∀x∈l,x.bl.Nodup:=by
     intro l
     induction l with
     |nil=>intro _ x hx;cases hx
     |cons z r ih=>
      intro hnd x hx
      simp only[List.flatMap_cons]at hnd
      obtain⟨n1,n2,_⟩:=List.nodup_append.1 hnd
      rcases List.mem_cons.1 hx with rfl|hx
      ·exact n1
      ·exact ih n2 x hx
    exact this L hnd x hy
   simp only[Fs.bl]at QU
   exact(List.nodup_append.1 QU).2.2 b hby b hxb rfl
 have hlen:∀i,H'.length≤i→κ' i=none:=by
  intro i hi
  simp only[κ']
  rw[if_pos (by omega)]
  exact hs.oG i (by omega)
 have TQ:∀(j:Nat) y,H'[j]?=some y→j+2≠H'.length+2:=fun j y hj=>by
  have:=(List.getElem?_eq_some_iff.1 hj).1;omega
 refine⟨κ',Θ',?_,AA,hn,hno,fun j hj=>if_pos hj⟩
 have ZU:∀b,b<w.heap.size→ρ' b=ρ b:=by
  intro b hlt'
  simp only[ρ']
  cases hi:ix (fun x:Fs=>x.ns.contains b) L with
  |none=>rfl
  |some i=>
   obtain⟨x,hx,hp⟩:=xI hi
   have:=(hfr b (List.mem_flatMap.2 ⟨x,List.mem_of_getElem? hx,by simp only[Fs.bl];exact List.mem_append.2 (.inr (by simpa using hp))⟩)).1
   omega
 have a9w:∀b,ρ b≠0→b<w.heap.size:=fun b hb'=>by
  obtain⟨_,_,cs',T,hx⟩:=hu.free b hb'
  exact(Array.getElem?_eq_some_iff.1 hx).1
 refine hs.step k hm hn hlen ?_ ?_ ⟨ρ',?_,?_,?_⟩
 ·intro i u zQ
  simp only[κ']at zQ
  split at zQ
  ·exact hs.o4 i u zQ
  ·cases hx:L[i-n]? with
   |none=>simp[hx]at zQ
   |some x=>simp[hx]at zQ;subst zQ;exact(hL x (List.mem_of_getElem? hx)).2.2.2.2
 ·intro j y hj
  have hjl:=TQ j y hj
  rcases key j y hj with⟨i,x,rfl,hx,rfl⟩|⟨hlt,hy|hy⟩
  ·obtain⟨q1,q2,q3,q4,_⟩:=hL x (List.mem_of_getElem? hx)
   exact .inr (.inr ⟨q1,q2,x.v,x.cs,x.ns,AA i x hx,q3,q4,fun g hg=>hts i x g hx hg,fun b hb'=>yL i x b hx hb'⟩)
  ·exact .inl hy
  ·exact .inr (.inl ⟨hjl,hy⟩)
 ·intro b hb'
  by_cases h:∃(i:Nat) (x:Fs),L[i]?=some x∧b∈x.ns
  ·obtain⟨i,x,hx,FR⟩:=h
   have hmem:b∈L.flatMap Fs.bl:=List.mem_flatMap.2 ⟨x,List.mem_of_getElem? hx,by simp only[Fs.bl];exact List.mem_append.2 (.inr FR)⟩
   exact⟨yL i x b hx FR,.inl (.inl (Nat.le_trans hs.base (hfr b hmem).1)),(hfr b hmem).2⟩
  ·have:ρ' b=ρ b:=by
    simp only[ρ']
    cases hi:ix (fun x:Fs=>x.ns.contains b) L with
    |none=>rfl
    |some i=>
     obtain⟨x,hx,hp⟩:=xI hi
     exact absurd ⟨i,x,hx,by simpa using hp⟩ h
   rw[this]at hb'
   exact uB.1 b hb'
 ·intro j e sz rows hj
  have hjl:=TQ j _ hj
  rcases key j _ hj with⟨i,x,rfl,hx,hy⟩|⟨hlt,hy|hy⟩
  ·simp only[Fs.ob,Ob.row.injEq,true_and]at hy
   obtain⟨rfl,rfl,rfl⟩:=hy
   obtain⟨q1,q2,q3,q4,_⟩:=hL x (List.mem_of_getElem? hx)
   have QU:x.ns.Nodup:=by
    have:∀(l:List Fs),(l.flatMap Fs.bl).Nodup→∀x∈l,x.bl.Nodup:=by
     intro l
     induction l with
     |nil=>intro _ x hx;cases hx
     |cons z r ih=>
      intro hnd x hx
      simp only[List.flatMap_cons]at hnd
      obtain⟨n1,n2,_⟩:=List.nodup_append.1 hnd
      rcases List.mem_cons.1 hx with rfl|hx
      ·exact n1
      ·exact ih n2 x hx
    exact(List.nodup_append.1 (this L hnd x (List.mem_of_getElem? hx))).2.1
   exact⟨x.v,x.cs,x.ns,AA i x hx,q3,q4,QU,fun b hb'=>hns i x b hx hb'⟩
  ·cases hy
  ·obtain⟨v,cs,bs,q1,q2,q3,q4,q5⟩:=uB.2.1 j e sz rows hjl hy
   exact⟨v,cs,bs,q1,q2,q3,q4,fun b hb'=>(ZU b (a9w b (by rw[q5 b hb'];omega))).trans (q5 b hb')⟩
 ·intro j y hj
  have hjl:=TQ j _ hj
  rcases key j _ hj with⟨i,x,rfl,hx,hy⟩|⟨hlt,hy|hy⟩
  ·subst hy;exact SJ.yN rfl
  ·subst hy;trivial
  ·exact(uB.2.2 j y hjl hy).re fun b hb'=>(ZU b (a9w b (by omega))).trans hb'
theorem bN.a8g(hs:bN Γ st κ Θ a w)(hb:Below w.heap.size w w')(L:List Fs)(hL:∀x∈L,x.ok w')(hnd:(L.flatMap Fs.bl).Nodup)(hfr:∀b∈L.flatMap Fs.bl,w.heap.size≤b∧Wr w' b):
 ∃κ' Θ',bN Γ ⟨st.σ,st.H++L.map Fs.ob⟩ κ' Θ' a w'∧Names κ' st.H.length L∧(∀(j:Nat) v,κ j=some v→κ' j=some v)∧(∀b,b∉L.flatMap Fs.ts→Θ' b=Θ b):=by
 obtain⟨κ',Θ',h1,h2,h3,h4,_⟩:=hs.WD hb L hL hnd hfr st.H.length (st.H++L.map Fs.ob) (fun i _=>hs.oG _ (by omega)) (by simp) (by simp) (by
  intro j y hj
  by_cases hlt:j<st.H.length
  ·rw[List.getElem?_append_left hlt]at hj;exact .inr ⟨.inl hlt,.inr hj⟩
  ·rw[List.getElem?_append_right (by omega),List.getElem?_map]at hj
   cases hx:L[j-st.H.length]? with
   |none=>simp[hx]at hj
   |some x=>simp[hx]at hj;exact .inl ⟨j-st.H.length,x,by omega,hx,hj.symm⟩)
 exact⟨κ',Θ',h1,h2,h3,h4⟩
def vwC(H:List Ob)(d:D):Option (D×List Nat):=match d with
 | .acc m=>(match H[m]? with|some (.row _ _ _ rows)=>some (.sl rows,[m])|some (.w8 _ rows _)=>some (.sl rows,[m])|some (.tk rows)=>some (.sl rows,[])|_=>none)
 | .ptr _ _=>none
 | .op _ _ _ _=>none
 |d=>some (d.KX,[])
def ZV(H:List Ob):List D→Option (List D×List Nat)
 | []=>some ([],[])
 |d::ds=>match vwC H d,ZV H ds with|some (e,m),some (es,ms)=>some (e::es,m++ms)|_,_=>none
def vwV(H:List Ob)(d:D):Option (D×List Nat):=match d with
 | .agg cs=>(match ZV H cs with|some (es,ms)=>some (.agg es,ms)|none=>none)
 | .iJ _=>none
 |d=>vwC H d
def LG(H:List Ob):List D→Option (List D×List Nat)
 | []=>some ([],[])
 |d::ds=>match vwV H d,LG H ds with|some (e,m),some (es,ms)=>some (e::es,m++ms)|_,_=>none
def Seen(Θ:Nat→Nat)(ms:List Nat)(b:Nat):Prop:=Θ b=0∨∃m∈ms,Θ b=m+2
theorem Seen.mono{ms ns:List Nat}{b:Nat}(h:Seen Θ ms b)(hs:∀m∈ms,m∈ns):Seen Θ ns b:=by
 rcases h with h|⟨m,h1,h2⟩
 ·exact .inl h
 ·exact .inr ⟨m,hs m h1,h2⟩
theorem a5e(hs:bN Γ st κ Θ a w){v:Value}{d e:D}{bs:List Nat}{ms:List Nat}(h:vwC st.H d=some (e,ms))(hr:yK w κ v d bs)(hz:∀b∈bs,Θ b=0):∃b',Rd w v e b'∧∀b∈b',Seen Θ ms b:=by
 cases hr with
 |pure hr=>
  have:vwC st.H d=some (d.KX,[]):=by cases hr<;>rfl
  rw[this]at h;cases h
  exact⟨bs,hr.soft,fun b hb=>.inl (hz b hb)⟩
 |acc m _ hk=>
  simp only[vwC]at h
  split at h
  ·rename_i k e' sz rows hH
   cases h
   obtain⟨_,hrl,v2,cs,b2,hk2,hown,sN,hΘ,hd⟩:=hs.ob m _ hH
   rw[hk]at hk2;cases hk2
   refine⟨_,vF hrl hown sN,fun b hb=>?_⟩
   rcases List.mem_append.1 hb with hb|hb
   ·simp only[Option.mem_toList]at hb
    exact .inr ⟨m,by simp,hΘ b hb⟩
   ·cases k with
    |cl=>exact .inr ⟨m,by simp,(hd.2.1 b hb).1⟩
    |sh=>exact .inl (hd b hb)
    |uq=>exact .inl (hd b hb)
    |mv n=>exact .inl (hd b hb)
  ·rename_i sz rows u hH
   cases h
   obtain⟨_,_,v2,b2,hk2,hrd,_,FM⟩:=hs.ob m _ hH
   rw[hk]at hk2;cases hk2
   exact⟨b2,hrd,fun b hb=>.inr ⟨m,by simp,(FM b hb).1⟩⟩
  ·rename_i rows hH
   cases h
   obtain⟨v2,b2,hk2,hrd,hz2⟩:=hs.ob m _ hH
   rw[hk]at hk2;cases hk2
   exact⟨b2,hrd,fun b hb=>.inl (hz2 b hb)⟩
  ·cases h
 |ptr=>simp[vwC]at h
 |op=>simp[vwC]at h
theorem a8h(hs:bN Γ st κ Θ a w):∀ {ds es:List D} {vs:List Value} {bs ms:List Nat},ZV st.H ds=some (es,ms)→c8 w κ vs ds bs→(∀b∈bs,Θ b=0)→∃b',jN w vs es b'∧∀b∈b',Seen Θ ms b:=by
 intro ds
 induction ds with
 |nil=>
  intro es vs bs ms h hr _
  simp only[ZV,Option.some.injEq,Prod.mk.injEq]at h;obtain⟨rfl,rfl⟩:=h
  cases hr
  exact⟨[],.nil,by simp⟩
 |cons d ds ih=>
  intro es vs bs ms h hr hz
  simp only[ZV]at h
  split at h
  ·rename_i e m es' ms' h1 h2
   cases h
   cases hr with
   |cons v vs _ _ b1 b2 hv hc hcs=>
    obtain⟨c1,q1,q2⟩:=a5e hs h1 hc (fun b hb=>hz b (by simp[hb]))
    obtain⟨c2,p1,p2⟩:=ih h2 hcs (fun b hb=>hz b (by simp[hb]))
    refine⟨c1++c2,.cons _ _ _ _ _ _ hv q1 p1,fun b hb=>?_⟩
    rcases List.mem_append.1 hb with hb|hb
    ·exact(q2 b hb).mono (fun m hm=>by simp[hm])
    ·exact(p2 b hb).mono (fun m hm=>by simp[hm])
  ·cases h
theorem aBF(hs:bN Γ st κ Θ a w){v:Value}{d e:D}{bs ms:List Nat}(h:vwV st.H d=some (e,ms))(hr:qW w κ v d bs)(hz:∀b∈bs,Θ b=0):∃b',Rd w v e b'∧∀b∈b',Seen Θ ms b:=by
 by_cases tB:∃ds,d=.agg ds
 ·obtain⟨ds,rfl⟩:=tB
  obtain⟨cs,rfl,hcs⟩:=hr.IF
  simp only[vwV]at h
  split at h
  ·rename_i es ms' h1
   cases h
   obtain⟨b',q1,q2⟩:=a8h hs h1 hcs hz
   exact⟨b',.agg _ _ _ q1,q2⟩
  ·cases h
 ·have hc:yK w κ v d bs:=by
   cases hr with
   |v hr=>cases hr with
    |cell hr=>exact hr
    |agg=>exact absurd ⟨_,rfl⟩ tB
   |iJ=>simp[vwV]at h
  have e1:vwV st.H d=vwC st.H d:=by
   cases d<;>first|rfl|exact absurd ⟨_,rfl⟩ tB|simp[vwV]at h
  rw[e1]at h
  exact a5e hs h hc hz
theorem T7(hs:bN Γ st κ Θ a w):∀ {xs:List Operand} {es:List D} {ms:List Nat},LG st.H (xs.map st.ev)=some (es,ms)→∃b',Rda w (xs.map a.eval) es b'∧∀b∈b',Seen Θ ms b:=by
 intro xs
 induction xs with
 |nil=>
  intro es ms h
  simp only[List.map_nil,LG,Option.some.injEq,Prod.mk.injEq]at h;obtain⟨rfl,rfl⟩:=h
  exact⟨[],.nil,by simp⟩
 |cons x xs ih=>
  intro es ms h
  simp only[List.map_cons,LG]at h
  split at h
  ·rename_i e m es' ms' h1 h2
   cases h
   obtain⟨b0,r0,z0⟩:=hs.ev x
   obtain⟨c1,q1,q2⟩:=aBF hs h1 r0 z0
   obtain⟨c2,p1,p2⟩:=ih h2
   refine⟨c1++c2,.cons _ _ _ _ _ _ q1 p1,fun b hb=>?_⟩
   rcases List.mem_append.1 hb with hb|hb
   ·exact(q2 b hb).mono (fun m hm=>by simp[hm])
   ·exact(p2 b hb).mono (fun m hm=>by simp[hm])
  ·cases h
def D.shC(d:D):D:=match d with
 | .fr _ _ rows=>.sl rows
 |d=>d
def D.shV(d:D):D:=match d with
 | .agg cs=>.agg (cs.map D.shC)
 |d=>d.shC
theorem tD.E8{w:World}:∀ {ds:List D} {vs:List Value} {bs:List Nat},jN w vs ds bs→tD w vs ds bs [] []:=by
 intro ds
 induction ds with
 |nil=>intro vs bs h;cases h;exact .nil
 |cons d ds ih=>
  intro vs bs h
  cases h with
  |cons v vs _ _ b1 b2 h1 h2 h3=>exact .cons _ _ _ _ _ _ [] [] [] [] h1 (.pure h2) (ih h3)
theorem IP.xJ{w:World}{v:Value}{d:D}{bs ts us:List Nat}(h:IP w v d bs ts us):∃b,Rd w v d.shC b∧∀x∈b,x∈bs∨x∈us:=by
 cases h with
 |pure h=>
  have e:d.shC=d:=by cases h<;>rfl
  exact⟨_,e.symm▸h,fun x hx=>.inl hx⟩
 |fr e sz rows cs ns h1 h2 h3 h4 h5=>exact⟨_,vF h2 h3 h4,fun x hx=>.inr hx⟩
theorem tD.xJ{w:World}{vs:List Value}{ds:List D}{bs ts us:List Nat}(h:tD w vs ds bs ts us):∃b,jN w vs (ds.map D.shC) b∧∀x∈b,x∈bs∨x∈us:=by
 induction h with
 |nil=>exact⟨_,.nil,by simp⟩
 |cons v vs d ds b1 b2 t1 t2 u1 u2 h1 h2 _ ih=>
  obtain⟨b,q,s⟩:=h2.xJ
  obtain⟨b',q',s'⟩:=ih
  refine⟨_,.cons _ _ _ _ _ _ h1 q q',fun x hx=>?_⟩
  rcases List.mem_append.1 hx with h|h
  ·rcases s x h with h|h<;>simp[h]
  ·rcases s' x h with h|h<;>simp[h]
theorem IQ.xJ{w:World}{v:Value}{d:D}{bs ts us:List Nat}(h:IQ w v d bs ts us):∃b,Rd w v d.shV b∧∀x∈b,x∈bs∨x∈us:=by
 cases h with
 |cell h=>
  by_cases tB:∃ds,d=.agg ds
  ·obtain⟨ds,rfl⟩:=tB
   cases h with
   |pure h=>cases h with
    |agg cs _ _ h=>
     obtain⟨b,q,s⟩:=(tD.E8 h).xJ
     exact⟨_,.agg _ _ _ q,s⟩
  ·have e:d.shV=d.shC:=by cases d<;>first|rfl|exact absurd ⟨_,rfl⟩ tB
   rw[e]
   exact h.xJ
 |agg cs ds bs ts us h=>
  obtain⟨b,q,s⟩:=h.xJ
  exact⟨_,.agg _ _ _ q,s⟩
def D.a3z(d:D):Bool:=match d with
 | .fr _ _ _=>true
 |d=>d.flat
def D.ZW(d:D):Bool:=match d with
 | .agg cs=>cs.all D.a3z
 |d=>d.a3z
def D.TR(d:D):Bool:=match d with
 | .iJ vs=>vs.all D.ZW
 |d=>d.ZW
def D.aBG(d:D):Bool:=match d with
 | .iJ _=>false
 |d=>d.ZW
theorem IP.own{v:Value}{d:D}{bs ts us:List Nat}(h:IP w v d bs ts us)(ho:d.a3z=true):bs=[]:=by
 cases h with
 |pure h=>exact h.flat (by cases h<;>exact ho)
 |fr=>rfl
theorem tD.own{vs:List Value}{ds:List D}{bs ts us:List Nat}(h:tD w vs ds bs ts us)(ho:ds.all D.a3z=true):bs=[]:=by
 induction h with
 |nil=>rfl
 |cons v vs d ds b1 b2 t1 t2 u1 u2 h1 h2 _ ih=>
  simp only[List.all_cons,Bool.and_eq_true]at ho
  rw[h2.own ho.1,ih ho.2];rfl
theorem IQ.own{v:Value}{d:D}{bs ts us:List Nat}(h:IQ w v d bs ts us)(ho:d.ZW=true):bs=[]:=by
 cases h with
 |cell h=>
  by_cases tB:∃ds,d=.agg ds
  ·obtain⟨ds,rfl⟩:=tB
   cases h with
   |pure h=>
    cases h with
    |agg cs _ _ h=>
     simp only[D.ZW]at ho
     have:∀(es:List D) (vs:List Value) (b:List Nat),jN w vs es b→es.all D.a3z=true→es.all D.flat=true:=by
      intro es
      induction es with
      |nil=>intros;rfl
      |cons e es ih=>
       intro vs b hh ho
       simp only[List.all_cons,Bool.and_eq_true]at ho⊢
       cases hh with
       |cons v vs _ _ b1 b2 _ h2 h3=>exact⟨by cases h2<;>exact ho.1,ih _ _ h3 ho.2⟩
     exact jN.flat h (this _ _ _ h ho)
  ·have e:d.ZW=d.a3z:=by cases d<;>first|rfl|exact absurd ⟨_,rfl⟩ tB
   exact h.own (e▸ho)
 |agg cs ds bs ts us h=>exact h.own ho
theorem z8.own{vs:List Value}{ds:List D}{bs ts us:List Nat}(h:z8 w vs ds bs ts us)(ho:ds.all D.ZW=true):bs=[]:=by
 induction h with
 |nil=>rfl
 |cons v vs d ds b1 b2 t1 t2 u1 u2 h2 _ ih=>
  simp only[List.all_cons,Bool.and_eq_true]at ho
  rw[h2.own ho.1,ih ho.2];rfl
theorem DA.own{v:Value}{d:D}{bs ts us:List Nat}(h:DA w v d bs ts us)(ho:d.TR=true):bs=[]:=by
 cases h with
 |v h=>
  have hnt:∀vs,d≠ .iJ vs:=by
   intro vs e;subst e
   cases h with
   |cell h=>cases h with|pure h=>cases h
  have e:d.TR=d.ZW:=by cases d<;>first|rfl|exact absurd rfl (hnt _)
  exact h.own (e▸ho)
 |iJ vs ds bs ts us h=>exact h.own ho
theorem xN{o:Oper}{f:FuncId}{xs:Array Operand}{ts:Array TypeId}(hop:o.op=.call {callee:=.value (.func f),args:=xs,argTypes:=ts})
 (hf:∃fn,P.funcs[f]?=some fn∧fn.body.isSome=true∧(fn.name== "runtime.NumGoroutine")=false):
 (execOp a.eval o).run P w=.ok (.enter f (xs.map a.eval)) w:=by
 obtain⟨fn,h1,h2,h3⟩:=hf
 have h2':¬fn.body=none:=by intro hb;simp[hb]at h2
 simp only[beq_eq_false_iff_ne,ne_eq]at h3
 simp[execOp,hop,resolve,Deferred.ofValue,Act.eval,invoke,callFunc,h1,h2',h3]
theorem ZX{Q':Exit→Act→World→Prop}{K:Act→World→Prop}{o:Oper}{f t:Nat}{xs:Array Operand}{ts:Array TypeId}{ds:List D}{ms:List Nat}{d:D}(hs:bN Γ st κ Θ a w)
 (hop:o.op=.call {callee:=.value (.func f),args:=xs,argTypes:=ts}) (hd:o.dst=some t) (ht:t<Γ.nt) (hds:∃bs,Rda w (xs.toList.map a.eval) ds bs∧∀b∈bs,Seen Θ ms b) (hsh:ms=[]∨d.TR=true)
 (mX:Good P f ds d) (hK:∀κ' Θ' a' w',bN Γ ⟨(t,(oH st.H.length d).1)::st.σ,st.H++(oH st.H.length d).2⟩ κ' Θ' a' w'→K a' w'):o.wp P a w K Q':=by
 obtain⟨bs,hargs,hz⟩:=hds
 let Θc:Nat→Nat:=fun b=>if Θ b=0∨ms.any (fun m=>Θ b==m+2)then 0 else 1
 have RU:∀b,Seen Θ ms b→Θc b=0:=by
  intro b h
  simp only[Θc]
  rw[if_pos]
  rcases h with h|⟨m,h1,h2⟩
  ·exact .inl h
  ·exact .inr (List.any_eq_true.2 ⟨m,h1,by simp[h2]⟩)
 have hc:=mX.2 w Θc _ bs hs.vok hargs (fun b hb=>RU b (hz b hb)) (fun b hb=>hs.own b (fun e=>hb (RU b (.inl e)))) (fun b=>by simp only[Θc];split<;>omega)
 unfold Oper.wp
 rw[xN hop mX.1,Oper.upon_enter]
 have e:xs.map a.eval=(xs.toList.map a.eval).toArray:=by rw[←Array.toList_map,Array.toArray_toList]
 rw[e]
 refine hc.mono ?_
 rintro e w' ⟨v,bs',tb,ub,rfl,hb,hr,VE,htb,hnd,hfr,hsub⟩
 show K (a.put o.dst v) w'
 rw[hd]
 obtain⟨L,q1,q2,q3,q4,q5⟩:=hr.inst st.H.length
 obtain⟨κ',Θ',hs',hnm,_,hno⟩:=hs.a8g hb L q2 (q3▸hnd) (fun b hb'=>hfr b (q3▸hb'))
 rw[q1]at hs'
 refine hK κ' Θ' _ w' (hs'.set (t:=t) ht (q5 κ' hnm) fun b hb'=>?_)
 rw[hno b (q4▸htb b hb')]
 rcases hsh with XK|hown
 ·by_cases hlt:b<w.heap.size
  ·have h0:=VE b hb' hlt
   simp only[Θc,XK,List.any_nil]at h0
   by_cases h1:Θ b=0
   ·exact h1
   ·simp[h1]at h0
  ·by_cases h0:Θ b=0
   ·exact h0
   ·exact absurd (hs.own b h0) hlt
 ·rw[hr.own hown]at hb';cases hb'
theorem a8i{Q':Exit→Act→World→Prop}{K:Act→World→Prop}{o:Oper}{f t:Nat}{xs:Array Operand}{ts:Array TypeId}{ds:List D}{ms:List Nat}{d:D}(hs:bN Γ st κ Θ a w)
 (hop:o.op=.call {callee:=.value (.func f),args:=xs,argTypes:=ts}) (hd:o.dst=some t) (ht:t<Γ.nt) (hds:LG st.H (xs.toList.map st.ev)=some (ds,ms)) (hsh:ms=[]∨d.TR=true)
 (mX:Good P f ds d) (hK:∀κ' Θ' a' w',bN Γ ⟨(t,(oH st.H.length d).1)::st.σ,st.H++(oH st.H.length d).2⟩ κ' Θ' a' w'→K a' w'):o.wp P a w K Q':=
 ZX hs hop hd ht (T7 hs hds) hsh mX hK
def RV(d:D):Bool:=match d with
 | .agg cs=>cs.all D.ZA
 | .iJ _=>false
 |d=>d.ZA
theorem a5g{v:Value}{d:D}{bs:List Nat}(hr:qW w κ v d bs)(h:RV d=true):Rd w v d bs:=by
 by_cases tB:∃ds,d=.agg ds
 ·obtain⟨ds,rfl⟩:=tB
  obtain⟨cs,rfl,hcs⟩:=hr.IF
  exact .agg _ _ _ (hcs.pure h)
 ·have hp:d.ZA=true:=by
   cases d<;>first|exact h|exact absurd ⟨_,rfl⟩ tB|simp[RV]at h
  cases hr with
  |v hr=>cases hr with
   |cell hr=>cases hr with
    |pure hr=>exact hr
    |acc=>simp[D.ZA]at hp
    |ptr=>simp[D.ZA]at hp
    |op=>simp[D.ZA]at hp
   |agg=>exact absurd ⟨_,rfl⟩ tB
  |iJ=>simp[RV]at h
theorem WE(hs:bN Γ st κ Θ a w):∀ {xs:List Operand},(xs.map st.ev).all RV=true→∃b',Rda w (xs.map a.eval) (xs.map st.ev) b'∧∀b∈b',Seen Θ [] b:=by
 intro xs
 induction xs with
 |nil=>intro _;exact⟨[],.nil,by simp⟩
 |cons x xs ih=>
  intro h
  simp only[List.map_cons,List.all_cons,Bool.and_eq_true]at h
  obtain⟨b0,r0,z0⟩:=hs.ev x
  obtain⟨c2,p1,p2⟩:=ih h.2
  refine⟨b0++c2,.cons _ _ _ _ _ _ (a5g r0 h.1) p1,fun b hb=>?_⟩
  rcases List.mem_append.1 hb with hb|hb
  ·exact .inl (z0 b hb)
  ·exact p2 b hb
theorem a5h{o:Oper}{f t:Nat}{xs:Array Operand}{ts:Array TypeId}{d:D}(hop:o.op=.call {callee:=.value (.func f),args:=xs,argTypes:=ts})(hd:o.dst=some t)(hg:o.guard=none)
 (ht:t<Γ.nt) (hk:(xs.toList.map st.ev).all RV=true) (mX:Good P f (xs.toList.map st.ev) d)
 (h:AO P Γ all rest Q ⟨(t,(oH st.H.length d).1)::st.σ,st.H++(oH st.H.length d).2⟩):AO P Γ all (o::rest) Q st:=by
 intro κ Θ a w hs
 exact wpList_plain hg fun K hK=>ZX hs hop hd ht (WE hs hk) (.inl rfl) mX fun κ' Θ' a' w' hs'=>hK _ _ (h κ' Θ' a' w' hs')
theorem a8j{o:Oper}{f t:Nat}{xs:Array Operand}{ts:Array TypeId}{ds:List D}{ms:List Nat}{d:D}(hop:o.op=.call {callee:=.value (.func f),args:=xs,argTypes:=ts})(hd:o.dst=some t)(hg:o.guard=none)
 (ht:t<Γ.nt) (hds:LG st.H (xs.toList.map st.ev)=some (ds,ms)) (hsh:ms=[]∨d.TR=true) (mX:Good P f ds d)
 (h:AO P Γ all rest Q ⟨(t,(oH st.H.length d).1)::st.σ,st.H++(oH st.H.length d).2⟩):AO P Γ all (o::rest) Q st:=by
 intro κ Θ a w hs
 exact wpList_plain hg fun K hK=>a8i hs hop hd ht hds hsh mX fun κ' Θ' a' w' hs'=>hK _ _ (h κ' Θ' a' w' hs')
def a5i(P:Program)(st:St):ResultVar→Option D
 | .tmp t=>some (lk st.σ t)
 | .cell x T=>match zP P T,lk st.σ x with
  |some ag,.ptr id off=>(match(st.H[id]?).bind Ob.cs? with|some cells=>KV ag (A6 P T) cells off|none=>none)
  |_,_=>none
def FT(P:Program)(st:St):List ResultVar→Option (List D)
 | []=>some []
 |r::rs=>match a5i P st r,FT P st rs with|some d,some ds=>some (d::ds)|_,_=>none
def a5j(tmps:Array Value):ResultVar→Sem Value
 | .tmp t=>pure (tmps.getD t undef)
 | .cell a t=>do loadVar t (←asAddr (tmps.getD a undef))
theorem results_eq(fn:Func)(tmps:Array Value):results fn tmps=(do let vs←fn.results.mapM (a5j tmps);pure (if h:vs.size=1 then vs[0]else .tuple vs)):=by
 unfold results
 congr 1
theorem a5k(hs:bN Γ st κ Θ a w){r:ResultVar}{d:D}(h:a5i P st r=some d):
 ∃v bs,(a5j a.tmps r).run P w=.ok v w∧qW w κ v d bs∧∀b∈bs,Θ b=0:=by
 cases r with
 |tmp t=>
  simp only[a5i,Option.some.injEq]at h
  subst h
  obtain⟨bs,hr,hz⟩:=hs.slot t
  exact⟨_,bs,by simp[a5j],hr,hz⟩
 |cell x T=>
  have hp:pv P st (.load T (.tmp x))=some d:=by
   simp only[a5i]at h
   split at h
   ·rename_i ag id off h1 h2
    simp only[pv,h1,St.ev,h2]
    exact h
   ·cases h
  obtain⟨v,bs,hrun,hr,hz⟩:=TH (o:= {(default:Oper)with op:=.load T (.tmp x)}) hs rfl hp
  refine⟨v,bs,?_,hr,hz⟩
  simp only[execOp,Act.eval]at hrun
  have aFc:∃b off,a.tmps.getD x undef=.pointer (some ⟨b,off,none⟩):=by
   simp only[a5i]at h
   split at h
   ·rename_i ag id off h1 h2
    obtain⟨b0,r0,_⟩:=hs.slot x
    rw[h2]at r0
    obtain⟨g,_,hv⟩:=r0.zO
    exact⟨g,off,hv⟩
   ·cases h
  obtain⟨b,off,hv⟩:=aFc
  simp only[a5j,hv]at hrun⊢
  simp only[Instr.loadAt,Instr.sureAddr,Sem.run_bind,Sem.run_pure,Result.andThen_ok]at hrun
  simp only[asAddr,Sem.run_bind,Sem.run_pure,Result.andThen_ok]
  cases hl:(loadVar T ⟨b,off,none⟩).run P w with
  |ok u w1=>simp only[hl,Result.andThen_ok,Result.ok.injEq,Next.value.injEq]at hrun;rw[hrun.1,hrun.2]
  |halt u w1=>simp[hl]at hrun
theorem CF(hs:bN Γ st κ Θ a w):∀ {rs:List ResultVar} {ds:List D},FT P st rs=some ds→
 ∃(vs:List Value) (bs:List Nat),(rs.mapM (a5j a.tmps)).run P w=.ok vs w∧
  vs.length=rs.length∧ds.length=rs.length∧(∀(i:Nat) d,ds[i]?=some d→∃v b,vs[i]?=some v∧qW w κ v d b∧∀x∈b,x∈bs)∧∀b∈bs,Θ b=0:=by
 intro rs
 induction rs with
 |nil=>
  intro ds h
  simp only[FT,Option.some.injEq]at h
  subst h
  exact⟨[],[],by simp,rfl,rfl,by simp,by simp⟩
 |cons r rs ih=>
  intro ds h
  simp only[FT]at h
  split at h
  ·rename_i d ds' h1 h2
   cases h
   obtain⟨v,b,k1,k2,k3⟩:=a5k hs h1
   obtain⟨vs,bs,m1,m2,m3,m4,m5⟩:=ih h2
   refine⟨v::vs,b++bs,?_,by simp[m2],by simp[m3],?_,?_⟩
   ·simp only[List.mapM_cons,Sem.run_bind,k1,Result.andThen_ok,m1,Sem.run_pure]
   ·intro i x hx
    cases i with
    |zero=>simp at hx;subst hx;exact⟨v,b,by simp,k2,by intro y hy;simp[hy]⟩
    |succ i=>
     simp at hx
     obtain⟨u,b',q1,q2,q3⟩:=m4 i x hx
     exact⟨u,b',by simpa using q1,q2,fun y hy=>by simp[q3 y hy]⟩
   ·intro y hy
    rcases List.mem_append.1 hy with hy|hy
    ·exact k3 y hy
    ·exact m5 y hy
  ·cases h
def BG:List D→D
 | [d]=>d
 |ds=>.iJ ds
def zA:Nat→List D→List (Nat×D)
 |_,[]=>[]
 |k,d::ds=>(k,d)::zA (k+1) ds
theorem FU:∀(ds:List D) (k t:Nat),lk (zA k ds) t=if t<k then .any else(ds[t-k]?).getD .any:=by
 intro ds
 induction ds with
 |nil=>intro k t;simp[zA,lk]
 |cons d ds ih=>
  intro k t
  simp only[zA,lk]
  by_cases h:t=k
  ·subst h;simp
  ·rw[if_neg h,ih]
   by_cases h1:t<k
   ·rw[if_pos (by omega),if_pos h1]
   ·rw[if_neg (by omega),if_neg h1]
    have:t-k=(t-(k+1))+1:=by omega
    rw[this,List.getElem?_cons_succ]
theorem Rda.at{vs:List Value}{ds:List D}{bs:List Nat}(h:Rda w vs ds bs):vs.length=ds.length∧∀(i:Nat) d,ds[i]?=some d→∃v b,vs[i]?=some v∧Rd w v d b∧∀x∈b,x∈bs:=by
 induction ds generalizing vs bs with
 |nil=>cases h;exact⟨rfl,by simp⟩
 |cons e ds ih=>
  cases h with
  |cons v vs _ _ b1 b2 h2 h3=>
   obtain⟨l,hi⟩:=ih h3
   refine⟨by simp[l],fun i d hd=>?_⟩
   cases i with
   |zero=>simp at hd;subst hd;exact⟨v,b1,by simp,h2,by intro x hx;simp[hx]⟩
   |succ i=>
    simp at hd
    obtain⟨u,b,k1,k3,k4⟩:=hi i d hd
    exact⟨u,b,by simpa using k1,k3,fun x hx=>by simp[k4 x hx]⟩
def bR(d:D):Prop:=∃w v bs,Rd w v d bs
theorem bR.str{s:Bytes}(h:bR (.str s)):s.length≤maxLen:=by
 obtain⟨w,v,bs,h⟩:=h
 cases h with|str x hx=>simpa using hx
theorem bR.int{k:IntKind}{n:Int}(h:bR (.int k n)):rC k n:=by
 obtain⟨w,v,bs,h⟩:=h
 cases h with|int _ _ hx=>exact hx
theorem jN.rdb{vs:List Value}{ds:List D}{bs:List Nat}(h:jN w vs ds bs):∀d∈ds,bR d:=by
 intro d hd
 obtain⟨i,hi,rfl⟩:=List.mem_iff_getElem.1 hd
 obtain⟨v,b,_,_,hr,_⟩:=h.at (List.getElem?_eq_getElem hi)
 exact⟨w,v,b,hr⟩
theorem bR.agg{ds:List D}(h:bR (.agg ds)):∀d∈ds,bR d:=by
 obtain⟨w,v,bs,h⟩:=h
 cases h with|agg cs _ _ hx=>exact hx.rdb
theorem bR.sl{rows:List (List D)}(h:bR (.sl rows)):rows.length≤maxLen∧∀r∈rows,∀d∈r,bR d:=by
 obtain⟨w,v,bs,h⟩:=h
 cases h with
 |z6=>simp
 |mT=>simp
 |sl b off cap sz _ cs bs hb h1 h2 h3 h4 h5=>
  exact⟨by omega,fun r hr d hd=>h5.rdb d (List.mem_flatten.2 ⟨r,hr,hd⟩)⟩
theorem Rda.rdb{vs:List Value}{ds:List D}{bs:List Nat}(h:Rda w vs ds bs):∀d∈ds,bR d:=by
 intro d hd
 obtain⟨i,hi,rfl⟩:=List.mem_iff_getElem.1 hd
 obtain⟨v,b,_,hr,_⟩:=h.at.2 i _ (List.getElem?_eq_getElem hi)
 exact⟨w,v,b,hr⟩
def a5l(z:Option (Nat×Nat))(d:D):D:=match d,z with
 | .nil,some (e,sz+1)=>.fr e (sz+1) []
 |d,_=>d.KX
def EE(H:List Ob)(z:Option (Nat×Nat))(d:D):Option (D×List Nat×List Nat):=match d with
 | .acc m=>(match H[m]? with|some (.row k e sz rows)=>(match k with| .uq=>some (.fr e sz rows,[],[m])| .sh=>some (.sl rows,[m],[])| .cl=>none| .mv _=>none)|_=>none)
 | .ptr _ _=>none
 | .op _ _ _ _=>none
 | .agg _=>none
 | .iJ _=>none
 |d=>some (a5l z d,[],[])
def RW(H:List Ob):List (Option (Nat×Nat))→List D→Option (List D×List Nat×List Nat)
 |_,[]=>some ([],[],[])
 |zs,d::ds=>match EE H (zs.head?.join) d,RW H zs.tail ds with|some (e,m,q),some (es,ms,qs)=>some (e::es,m++ms,q++qs)|_,_=>none
def a1Q(H:List Ob)(zs:List (Option (Nat×Nat)))(d:D):Option (D×List Nat×List Nat):=match d with
 | .agg cs=>(match RW H zs cs with|some (es,ms,qs)=>some (.agg es,ms,qs)|none=>none)
 |d=>EE H (zs.head?.join) d
def CG(H:List Ob):List (List (Option (Nat×Nat)))→List D→Option (List D×List Nat×List Nat)
 |_,[]=>some ([],[],[])
 |zs,d::ds=>match a1Q H (zs.head?.getD []) d,CG H zs.tail ds with|some (e,m,q),some (es,ms,qs)=>some (e::es,m++ms,q++qs)|_,_=>none
def a1R(P:Program)(fn:Func)(d:D)(e:Exit)(st:St):Prop:=
 (e=.ret∨e=.normal)∧∃nz ds es ms qs,FT P st fn.results.toList=some ds∧CG st.H nz ds=some (es,ms,qs)∧ms.Nodup∧qs.Nodup∧BG es=d
structure RP(Θ ρ:Nat→Nat)(qs bs ts us:List Nat):Prop where
 zero:∀b∈bs,Θ b=0
 top:∀b∈ts,(∃m∈qs,Θ b=m+2)∧b∈us
 mem:∀b∈us,b∈ts∨∃m∈qs,ρ b=m+1
 nd:us.Nodup
theorem RP.nil{ρ:Nat→Nat}{bs:List Nat}(h:∀b∈bs,Θ b=0):RP Θ ρ [] bs [] []:=⟨h,by simp,by simp,by simp⟩
theorem RP.app{ρ:Nat→Nat}{q1 q2 b1 b2 t1 t2 u1 u2:List Nat}(hf:∀b,ρ b≠0→Θ b=0)(hq:(q1++q2).Nodup)(h1:RP Θ ρ q1 b1 t1 u1)(h2:RP Θ ρ q2 b2 t2 u2):RP Θ ρ (q1++q2) (b1++b2) (t1++t2) (u1++u2):=by
 refine⟨fun b hb=>?_,fun b hb=>?_,fun b hb=>?_,List.nodup_append.2 ⟨h1.nd,h2.nd,fun x hx y hy e=>?_⟩⟩
 ·rcases List.mem_append.1 hb with hb|hb
  ·exact h1.zero b hb
  ·exact h2.zero b hb
 ·rcases List.mem_append.1 hb with hb|hb
  ·obtain⟨⟨m,p,q⟩,r⟩:=h1.top b hb;exact⟨⟨m,by simp[p],q⟩,by simp[r]⟩
  ·obtain⟨⟨m,p,q⟩,r⟩:=h2.top b hb;exact⟨⟨m,by simp[p],q⟩,by simp[r]⟩
 ·rcases List.mem_append.1 hb with hb|hb
  ·rcases h1.mem b hb with h|⟨m,p,q⟩
   ·exact .inl (by simp[h])
   ·exact .inr ⟨m,by simp[p],q⟩
  ·rcases h2.mem b hb with h|⟨m,p,q⟩
   ·exact .inl (by simp[h])
   ·exact .inr ⟨m,by simp[p],q⟩
 ·subst e
  have hd:=(List.nodup_append.1 hq).2.2
  rcases h1.mem x hx with hx|⟨m,p,q⟩
  ·obtain⟨⟨m,p,q⟩,_⟩:=h1.top x hx
   rcases h2.mem x hy with hy|⟨m',p',q'⟩
   ·obtain⟨⟨m',p',q'⟩,_⟩:=h2.top x hy
    exact hd m p m' p' (by omega)
   ·have:=hf x (by omega);omega
  ·rcases h2.mem x hy with hy|⟨m',p',q'⟩
   ·obtain⟨⟨m',p',q'⟩,_⟩:=h2.top x hy
    have:=hf x (by omega);omega
   ·exact hd m p m' p' (by omega)
theorem ZY(z:Option (Nat×Nat)){v:Value}{d:D}{b0:List Nat}(hr:Rd w v d b0):∃bs,IP w v (a5l z d) bs [] []∧∀b∈bs,b∈b0:=by
 unfold a5l
 split
 ·rename_i e sz
  cases hr
  refine⟨[],?_,by simp⟩
  have:=IP.fr (w:=w) (.slice none 0 0) e (sz+1) [] [] [] (Nat.succ_pos _) (by simp) (World.ownsRow_nil w 0 e (sz+1)) .nil rfl
  simpa[Value.ownBlock]using this
 ·exact⟨b0,.pure hr.soft,fun _ h=>h⟩
section
variable{H:List Ob}{ρ:Nat→Nat}(hf:∀b,ρ b≠0→Θ b=0)
 (hq:∀m e sz rows,H[m]?=some (.row .uq e sz rows)→∃v cs ns,κ m=some v∧0<sz∧(∀r∈rows,r.length=sz)∧w.ownsRow 0 e sz v rows.length cs∧jN w cs rows.flatten ns∧ns.Nodup∧(∀b∈ns,ρ b=m+1)∧∀g,v.ownBlock=some g→Θ g=m+2)
include hf hq
theorem ZZ{z:Option (Nat×Nat)}{d e:D}{ms qs:List Nat}{v:Value}{b0:List Nat}(h:EE H z d=some (e,ms,qs))(hone:v.oneCell'=true)(hr:yK w κ v d b0)(hz:∀b∈b0,Θ b=0)
 (hm:∀m∈ms,∀k e sz rows,H[m]?=some (.row k e sz rows)→A8 κ Θ ρ w m k rows):∃bs ts us,IP w v e bs ts us∧RP Θ ρ qs bs ts us:=by
 cases hr with
 |pure hr=>
  have:EE H z d=some (a5l z d,[],[]):=by cases hr<;>first|rfl|simp[EE]at h
  rw[this]at h;cases h
  obtain⟨bs,hb,VE⟩:=ZY z hr
  exact⟨bs,[],[],hb,RP.nil (fun b hb'=>hz b (VE b hb'))⟩
 |acc m _ hk=>
  simp only[EE]at h
  split at h
  ·rename_i k e' sz rows hH
   split at h
   ·cases h
    obtain⟨v2,cs,ns,r1,r2,r3,r4,r5,r6,r7,r8⟩:=hq m _ _ _ hH
    rw[hk]at r1;cases r1
    refine⟨[],_,_,.fr v _ _ _ cs ns r2 r3 r4 r5 hone,by simp,fun b hb=>?_,fun b hb=>?_,?_⟩
    ·simp only[Option.mem_toList]at hb
     exact⟨⟨m,by simp,r8 b hb⟩,by simp[hb]⟩
    ·rcases List.mem_append.1 hb with hb|hb
     ·exact .inl hb
     ·exact .inr ⟨m,by simp,r7 b hb⟩
    ·refine List.nodup_append.2 ⟨by cases v.ownBlock<;>simp,r6,fun x hx y hy exy=>?_⟩
     subst exy
     simp only[Option.mem_toList]at hx
     have h1:=r8 x hx
     have h2:=hf x (by rw[r7 x hy];omega)
     omega
   ·cases h
    obtain⟨v2,bs,r1,r2,r3,_⟩:=hm m (by simp) _ _ _ _ hH
    rw[hk]at r1;cases r1
    exact⟨bs,[],[],.pure r2,RP.nil r3⟩
   ·cases h
   ·cases h
  ·cases h
 |ptr=>simp[EE]at h
 |op=>simp[EE]at h
theorem a41:∀ {ds es:List D} {zs:List (Option (Nat×Nat))} {ms qs:List Nat} {vs:List Value} {b0:List Nat},RW H zs ds=some (es,ms,qs)→qs.Nodup→c8 w κ vs ds b0→(∀b∈b0,Θ b=0)→
 (∀m∈ms,∀k e sz rows,H[m]?=some (.row k e sz rows)→A8 κ Θ ρ w m k rows)→∃bs ts us,tD w vs es bs ts us∧RP Θ ρ qs bs ts us:=by
 intro ds
 induction ds with
 |nil=>
  intro es zs ms qs vs b0 h _ hr _ _
  simp only[RW,Option.some.injEq,Prod.mk.injEq]at h;obtain⟨rfl,rfl,rfl⟩:=h
  cases hr
  exact⟨[],[],[],.nil,RP.nil (by simp)⟩
 |cons d ds ih=>
  intro es zs ms qs vs b0 h hnd hr hz hm
  simp only[RW]at h
  split at h
  ·rename_i e m q es' ms' qs' h1 h2
   cases h
   cases hr with
   |cons v vs _ _ b1 b2 hv hc hcs=>
    obtain⟨c1,t1,u1,q1,q2⟩:=ZZ hf hq h1 hv hc (fun b hb=>hz b (by simp[hb])) (fun x hx=>hm x (by simp[hx]))
    obtain⟨c2,t2,u2,p1,p2⟩:=ih h2 (List.nodup_append.1 hnd).2.1 hcs (fun b hb=>hz b (by simp[hb])) (fun x hx=>hm x (by simp[hx]))
    exact⟨_,_,_,.cons _ _ _ _ _ _ _ _ _ _ hv q1 p1,RP.app hf hnd q2 p2⟩
  ·cases h
theorem a5m(hk1:∀(i:Nat) u,κ i=some u→u.oneCell'=true){zs:List (Option (Nat×Nat))}{d e:D}{ms qs:List Nat}{v:Value}{b0:List Nat}(h:a1Q H zs d=some (e,ms,qs))(hnd:qs.Nodup)(hr:qW w κ v d b0)(hz:∀b∈b0,Θ b=0)
 (hm:∀m∈ms,∀k e sz rows,H[m]?=some (.row k e sz rows)→A8 κ Θ ρ w m k rows):∃bs ts us,IQ w v e bs ts us∧RP Θ ρ qs bs ts us:=by
 by_cases tB:∃ds,d=.agg ds
 ·obtain⟨ds,rfl⟩:=tB
  obtain⟨cs,rfl,hcs⟩:=hr.IF
  simp only[a1Q]at h
  split at h
  ·rename_i es ms' qs' h1
   cases h
   obtain⟨bs,ts,us,q1,q2⟩:=a41 hf hq h1 hnd hcs hz hm
   exact⟨bs,ts,us,.agg _ _ _ _ _ q1,q2⟩
  ·cases h
 ·have e1:a1Q H zs d=EE H (zs.head?.join) d:=by cases d<;>first|rfl|exact absurd ⟨_,rfl⟩ tB
  rw[e1]at h
  have hc:yK w κ v d b0:=by
   cases hr with
   |v hr=>cases hr with
    |cell hr=>exact hr
    |agg=>exact absurd ⟨_,rfl⟩ tB
   |iJ=>simp[EE]at h
  cases hc with
  |pure hr=>
   have:EE H (zs.head?.join) d=some (a5l (zs.head?.join) d,[],[]):=by cases hr<;>first|rfl|simp[EE]at h
   rw[this]at h;cases h
   obtain⟨bs,hb,VE⟩:=ZY (zs.head?.join) hr
   exact⟨bs,[],[],.cell hb,RP.nil (fun b hb'=>hz b (VE b hb'))⟩
  |acc m _ hk=>
   obtain⟨bs,ts,us,q1,q2⟩:=ZZ hf hq h (hk1 _ _ hk) (.acc m _ hk) (by simp) hm
   exact⟨bs,ts,us,.cell q1,q2⟩
  |ptr=>simp[EE]at h
  |op=>simp[EE]at h
theorem IJ(hk1:∀(i:Nat) u,κ i=some u→u.oneCell'=true):∀ {ds es:List D} {zs:List (List (Option (Nat×Nat)))} {ms qs:List Nat} {vs:List Value},CG H zs ds=some (es,ms,qs)→qs.Nodup→vs.length=ds.length→
 (∀(i:Nat) d,ds[i]?=some d→∃v b,vs[i]?=some v∧qW w κ v d b∧∀x∈b,Θ x=0)→
 (∀m∈ms,∀k e sz rows,H[m]?=some (.row k e sz rows)→A8 κ Θ ρ w m k rows)→∃bs ts us,z8 w vs es bs ts us∧RP Θ ρ qs bs ts us:=by
 intro ds
 induction ds with
 |nil=>
  intro es zs ms qs vs h _ hl _ _
  simp only[CG,Option.some.injEq,Prod.mk.injEq]at h;obtain⟨rfl,rfl,rfl⟩:=h
  cases vs with
  |nil=>exact⟨[],[],[],.nil,RP.nil (by simp)⟩
  |cons=>simp at hl
 |cons d ds ih=>
  intro es zs ms qs vs h hnd hl hr hm
  simp only[CG]at h
  split at h
  ·rename_i e m q es' ms' qs' h1 h2
   cases h
   cases vs with
   |nil=>simp at hl
   |cons v vs=>
    obtain⟨v',b0,hv',hr0,yL⟩:=hr 0 d rfl
    simp at hv';subst hv'
    obtain⟨c1,t1,u1,q1,q2⟩:=a5m hf hq hk1 h1 (List.nodup_append.1 hnd).1 hr0 yL (fun x hx=>hm x (by simp[hx]))
    obtain⟨c2,t2,u2,p1,p2⟩:=ih h2 (List.nodup_append.1 hnd).2.1 (by simpa using hl) (fun i d' NW=>by
     obtain⟨v',b,k1,k2⟩:=hr (i+1) d' (by simpa using NW)
     exact⟨v',b,by simpa using k1,k2⟩) (fun x hx=>hm x (by simp[hx]))
    exact⟨_,_,_,.cons _ _ _ _ _ _ _ _ _ _ q1 p1,RP.app hf hnd q2 p2⟩
  ·cases h
end
theorem TS{H:List Ob}{z:Option (Nat×Nat)}{d e:D}{ms qs:List Nat}(h:EE H z d=some (e,ms,qs)):(∀m∈ms,∃e sz rows,H[m]?=some (.row .sh e sz rows))∧∀m∈qs,∃e sz rows,H[m]?=some (.row .uq e sz rows):=by
 cases d with
 |acc m=>
  simp only[EE]at h
  split at h
  ·rename_i k e' sz rows hH
   split at h
   ·cases h;exact⟨by simp,fun m' hm'=>by simp at hm';subst hm';exact⟨_,_,_,hH⟩⟩
   ·cases h;exact⟨fun m' hm'=>by simp at hm';subst hm';exact⟨_,_,_,hH⟩,by simp⟩
   ·cases h
   ·cases h
  ·cases h
 |_=>simp[EE]at h<;>(try(obtain⟨_,rfl,rfl⟩:=h;simp))
theorem a00{H:List Ob}:∀ {ds es:List D} {zs:List (Option (Nat×Nat))} {ms qs:List Nat},RW H zs ds=some (es,ms,qs)→(∀m∈ms,∃e sz rows,H[m]?=some (.row .sh e sz rows))∧∀m∈qs,∃e sz rows,H[m]?=some (.row .uq e sz rows):=by
 intro ds
 induction ds with
 |nil=>intro es zs ms qs h;simp only[RW,Option.some.injEq,Prod.mk.injEq]at h;obtain⟨rfl,rfl,rfl⟩:=h;simp
 |cons d ds ih=>
  intro es zs ms qs h
  simp only[RW]at h
  split at h
  ·rename_i e m q es' ms' qs' h1 h2
   cases h
   have a1:=TS h1
   have a2:=ih h2
   refine⟨fun x hx=>?_,fun x hx=>?_⟩<;>rcases List.mem_append.1 hx with hx|hx
   ·exact a1.1 x hx
   ·exact a2.1 x hx
   ·exact a1.2 x hx
   ·exact a2.2 x hx
  ·cases h
theorem a1S{H:List Ob}{zs:List (Option (Nat×Nat))}{d e:D}{ms qs:List Nat}(h:a1Q H zs d=some (e,ms,qs)):(∀m∈ms,∃e sz rows,H[m]?=some (.row .sh e sz rows))∧∀m∈qs,∃e sz rows,H[m]?=some (.row .uq e sz rows):=by
 by_cases tB:∃ds,d=.agg ds
 ·obtain⟨ds,rfl⟩:=tB
  simp only[a1Q]at h
  split at h
  ·rename_i es ms' qs' h1;cases h;exact a00 h1
  ·cases h
 ·have e1:a1Q H zs d=EE H (zs.head?.join) d:=by cases d<;>first|rfl|exact absurd ⟨_,rfl⟩ tB
  rw[e1]at h;exact TS h
theorem BH{H:List Ob}:∀ {ds es:List D} {zs:List (List (Option (Nat×Nat)))} {ms qs:List Nat},CG H zs ds=some (es,ms,qs)→(∀m∈ms,∃e sz rows,H[m]?=some (.row .sh e sz rows))∧∀m∈qs,∃e sz rows,H[m]?=some (.row .uq e sz rows):=by
 intro ds
 induction ds with
 |nil=>intro es zs ms qs h;simp only[CG,Option.some.injEq,Prod.mk.injEq]at h;obtain⟨rfl,rfl,rfl⟩:=h;simp
 |cons d ds ih=>
  intro es zs ms qs h
  simp only[CG]at h
  split at h
  ·rename_i e m q es' ms' qs' h1 h2
   cases h
   have a1:=a1S h1
   have a2:=ih h2
   refine⟨fun x hx=>?_,fun x hx=>?_⟩<;>rcases List.mem_append.1 hx with hx|hx
   ·exact a1.1 x hx
   ·exact a2.1 x hx
   ·exact a1.2 x hx
   ·exact a2.2 x hx
  ·cases h
theorem Good.of{f:FuncId}{fn:Func}{c:Code}{ds:List D}{d:D}(hf:P.funcs[f]?=some fn)(hb:fn.body=some c)(hn:(fn.name== "runtime.NumGoroutine")=false)
 (hl:ds.length≤fn.ntmps) (h:(∀d∈ds,bR d)→∀Γ:uK,Γ.nt=fn.ntmps→AW P Γ c (a1R P fn d) ⟨zA 0 ds,[]⟩):Good P f ds d:=by
 refine⟨⟨fn,hf,by simp[hb],hn⟩,?_⟩
 intro w Θ args bs hvs hargs hz hown h1
 obtain⟨hlen,hat⟩:=hargs.at
 refine calls_of_wp hf hb ?_
 let Γ:uK:=⟨w,Θ,fun _=>False,fn.ntmps,fun _=>False,hvs⟩
 have hs:bN Γ ⟨zA 0 ds,[]⟩ (fun _=>none) Θ {tmps:=args.toArray++Array.replicate (fn.ntmps-args.toArray.size) undef,defers:=[]} w:=by
  refine⟨rfl,?_,fun _ _=>rfl,by simp,?_,by simp,hown,fun b _ _=>⟨rfl,h1 b⟩,fun b hb=>by have:=h1 b;omega,⟨rfl,rfl,rfl,Nat.le_refl _,fun _ _ _=>rfl⟩,⟨fun _=>0,by simp,by simp,by simp⟩⟩
  ·simp[Γ];omega
  ·intro t
   rw[FU]
   simp only[Nat.not_lt_zero,if_false,Nat.sub_zero]
   cases hd:ds[t]? with
   |none=>exact⟨[],.of (.any _),by simp⟩
   |some x=>
    obtain⟨v,b,k1,k2,k3⟩:=hat t x hd
    refine⟨b,?_,fun y hy=>hz y (k3 y hy)⟩
    have hlt:t<args.length:=(List.getElem?_eq_some_iff.1 k1).1
    have:(args.toArray++Array.replicate (fn.ntmps-args.toArray.size) undef).getD t undef=v:=by
     rw[Array.getD_eq_getD_getElem?,Array.getElem?_append_left (by simpa using hlt)]
     simp[k1]
    rw[this]
    exact .of k2
 refine wp_mono (h hargs.rdb Γ rfl _ _ _ _ hs) ?_
 rintro e a' w' ⟨st0,κ0,Θ0,hs0,IR,nz,ds0,es,ms,qs,hres,hrv,XK,TT,rfl⟩
 obtain⟨ρ0,hu0⟩:=hs0.tC
 have IS:=BH hrv
 obtain⟨Θ1,ρ1,hs1,hu1,hm1,ZK,hr1⟩:=bN.T6 ms hs0 hu0 XK (fun m hm=>by
  obtain⟨e,sz,rows,hH⟩:=IS.1 m hm
  exact⟨_,e,sz,rows,hH,rfl⟩)
 obtain⟨vs,bs',m1,m2,m3,m4,m5⟩:=CF hs0 hres
 have hq:∀m e sz rows,st0.H[m]?=some (.row .uq e sz rows)→∃v cs ns,κ0 m=some v∧0<sz∧(∀r∈rows,r.length=sz)∧w'.ownsRow 0 e sz v rows.length cs∧jN w' cs rows.flatten ns∧ns.Nodup∧(∀b∈ns,ρ1 b=m+1)∧∀g,v.ownBlock=some g→Θ1 g=m+2:=by
  intro m e sz rows hH
  have hnm:m∉ms:=fun hm=>by
   obtain⟨e',sz',bG,LF⟩:=IS.1 m hm
   rw[hH]at LF;cases LF
  have hH1:(kill st0.H ms)[m]?=some (.row .uq e sz rows):=by rw[fF hnm];exact hH
  obtain⟨v,cs,ns,r1,r2,r3,r4,r5⟩:=hu1.rows m e sz rows hH1
  obtain⟨p1,p2,v2,_,_,p3,_,_,p4,_⟩:=hs1.ob m _ hH1
  rw[r1]at p3;cases p3
  exact⟨v,cs,ns,r1,p1,p2,r2,r3,r4,r5,p4⟩
 obtain⟨c,ts,us,RX,O8⟩:=IJ (w:=w') (vs:=vs) (fun b hb=>(hu1.free b hb).1) hq hs0.o4 hrv TT (by omega) (fun i d hd=>by
  obtain⟨v,b,k1,k2,k3⟩:=m4 i d hd
  exact⟨v,b,k1,k2,fun x hx=>ZK x (m5 x (k3 x hx))⟩) hm1
 have QV:∃v,(results fn a'.tmps).run P w'=.ok v w'∧DA w' v (BG es) c ts us:=by
  have hrun:(results fn a'.tmps).run P w'=.ok (if h:vs.toArray.size=1 then vs.toArray[0]else .tuple vs.toArray) w':=by
   rw[results_eq,Array.mapM_eq_mapM_toList]
   simp[m1]
  cases RX with
  |nil=>exact⟨.tuple #[],by simpa using hrun,.iJ [] [] [] [] [] .nil⟩
  |cons v vs d es b1 b2 t1 t2 u1 u2 hv uN=>
   cases uN with
   |nil=>
    simp only[List.append_nil]
    exact⟨v,by simpa using hrun,.v hv⟩
   |cons v2 vs d2 es b3 b4 t3 t4 u3 u4 ZD uN=>exact⟨.tuple (v::v2::vs).toArray,by simpa using hrun,.iJ _ _ _ _ _ (.cons _ _ _ _ _ _ _ _ _ _ hv (.cons _ _ _ _ _ _ _ _ _ _ ZD uN))⟩
 obtain⟨v,a5n,a1T⟩:=QV
 have TU:Below w.heap.size w w':=⟨hs1.stays.os,hs1.stays.tape,hs1.stays.output,hs1.stays.size,fun b hb=>hs1.stays.block b hb (fun h=>h)⟩
 have RT:∀b,BM Γ b→w.heap.size≤b:=fun b h=>by
  rcases h with h|h
  ·exact h
  ·exact h.elim
 have hwr:∀b∈us,w.heap.size≤b∧Wr w' b:=by
  intro b hb'
  rcases O8.mem b hb' with h|⟨m,hm,hρ⟩
  ·obtain⟨⟨m,hm,hΘ⟩,_⟩:=O8.top b h
   refine⟨RT b (hs1.mine b (by omega)),?_⟩
   obtain⟨e,sz,rows,hH⟩:=IS.2 m hm
   have:=O8
   exact ZT a1T b h
  ·have:=hu1.free b (by omega)
   exact⟨this.2.1.elim (RT b) False.elim,this.2.2⟩
 have post:a'.defers=[]∧∃v,(results fn a'.tmps).run P w'=.ok v w'∧∃u bs' ts us,Ending.returned v=.returned u∧Below w.heap.size w w'∧DA w' u (BG es) bs' ts us∧(∀b∈bs',b<w.heap.size→Θ b=0)∧(∀b∈bs',b∉ts)∧us.Nodup∧
  (∀b∈us,w.heap.size≤b∧Wr w' b)∧∀b∈ts,b∈us:=by
  refine⟨hs0.defers,v,a5n,v,c,ts,us,rfl,TU,a1T,fun b hb' hlt=>?_,fun b hb' ht=>?_,O8.nd,hwr,fun b hb'=>(O8.top b hb').2⟩
  ·have he:Θ1 b=Θ b:=(hs1.old b hlt (fun h=>h)).1
   rw[←he];exact O8.zero b hb'
  ·obtain⟨⟨m,_,hΘ⟩,_⟩:=O8.top b ht
   have:=O8.zero b hb'
   omega
 rcases IR with rfl|rfl
 ·exact post
 ·exact post
end
end Go.Cx
namespace Go.Cx
set_option linter.unusedVariables false
set_option linter.unusedSimpArgs false
open Go.RowKit
section
variable{P:Program}{Γ:uK}{Q:Exit→St→Prop}{st:St}{κ:Nat→Option Value}{Θ:Nat→Nat}{a:Act}{w:World}{all:Array Oper}
def Ext(H H':List Ob):Prop:=∀(i:Nat) o,H[i]?=some o→H'[i]?=some o
theorem a02(σ:List (Nat×D))(H H':List Ob)(x:Operand):St.ev ⟨σ,H⟩ x=St.ev ⟨σ,H'⟩ x:=by cases x<;>rfl
theorem XP{σ σ':List (Nat×D)}{H H':List Ob}{op:Op}{d:D}(hx:Ext H H')(he:∀x∈op.operands.toList,St.ev ⟨σ,H⟩ x=St.ev ⟨σ',H'⟩ x)(h:pv P ⟨σ,H⟩ op=some d):pv P ⟨σ',H'⟩ op=some d:=by
 have hm:∀(o:Option Operand),(∀x∈o.toArray.toList,St.ev ⟨σ,H⟩ x=St.ev ⟨σ',H'⟩ x)→o.map (St.ev ⟨σ,H⟩)=o.map (St.ev ⟨σ',H'⟩):=by
  intro o h
  cases o with
  |none=>rfl
  |some x=>simp[h x (by simp)]
 cases op<;>simp only[pv]at h⊢ <;>(try cases h)
 case move x=>rw[he x (by simp[Op.operands])]at*
 case assign x=>rw[he x (by simp[Op.operands])]at*
 case nilCheck x=>rw[he x (by simp[Op.operands])]at h;exact h
 case pick c x y=>rw[he c (by simp[Op.operands]),he x (by simp[Op.operands]),he y (by simp[Op.operands])]at h;exact h
 case binOp op t x y t'=>rw[he x (by simp[Op.operands]),he y (by simp[Op.operands])]at h;exact h
 case unOp op t x=>cases op<;>simp only[pv]at h⊢ <;>(try cases h)<;>(rw[he x (by simp[Op.operands])]at h;exact h)
 case convert s d x=>rw[he x (by simp[Op.operands])]at h;exact h
 case field t x f=>rw[he x (by simp[Op.operands])]at h;exact h
 case fieldAddr t x f=>rw[he x (by simp[Op.operands])]at h;exact h
 case indexAddr t x i=>
  rw[he x (by simp[Op.operands]),he i (by simp[Op.operands])]at h
  split at h
  ·rename_i e sz rows kk n h1 h2 h3
   (try simp only[h1,h2,h3]);exact h
  ·rename_i e sz id kk n h1 h2 h3
   (try simp only[h1,h2,h3])
   split at h
   ·rename_i k e' sz' rows hH
    simp only[hx id _ hH];exact h
   ·cases h
  ·rename_i g o' kk n h1 h2
   (try simp only[h1,h2])
   generalize IG P t=q at h⊢
   cases q<;>exact h
  ·cases h
 case load t x=>
  rw[he x (by simp[Op.operands])]at h
  split at h
  ·rename_i ag row off h1 h2
   (try simp only[h1,h2]);exact h
  ·rename_i ag id off h1 h2
   (try simp only[h1,h2])
   split at h
   ·rename_i cells hH
    obtain⟨ob,hH,B9⟩:=Option.bind_eq_some_iff.1 hH
    simp only[hx id _ hH,Option.bind_some,B9];exact h
   ·cases h
  ·rename_i ag id i sz off h1 h2
   (try simp only[h1,h2])
   split at h
   ·rename_i k e' sz' rows hH
    simp only[hx id _ hH];exact h
   ·cases h
  ·rename_i ag g o' h1 h2
   (try simp only[h1,h2]);exact h
  ·cases h
 case lookup T x i ok=>
  rw[he x (by simp[Op.operands]),he i (by simp[Op.operands])]at h
  split at h
  ·rename_i id h1
   (try simp only[h1])
   split at h
   ·rename_i kv hH
    simp only[hx id _ hH];exact h
   ·cases h
  ·cases h
 case extract x i=>rw[he x (by simp[Op.operands])]at h;exact h
 case index t x i=>rw[he x (by simp[Op.operands]),he i (by simp[Op.operands])]at h;exact h
 case slice t x lo hi mx=>
  cases mx with
  |none=>
   simp only[pv]at h⊢
   rw[he x (by simp[Op.operands]),hm lo (fun y hy=>he y (by simp only[Op.operands,Array.toList_append,List.mem_append];exact .inl (.inl (.inr hy)))),
    hm hi (fun y hy=>he y (by simp only[Op.operands,Array.toList_append,List.mem_append];exact .inl (.inr hy)))]at h
   exact h
  |some m=>simp only[pv]at h;cases h
 case build t parts=>
  have:(parts.toList.map fun p=>(p.1,St.ev ⟨σ,H⟩ p.2))=parts.toList.map fun p=>(p.1,St.ev ⟨σ',H'⟩ p.2):=by
   apply List.map_congr_left
   intro p hp
   rw[he p.2 (by simp only[Op.operands];simp;exact⟨p.1,by simpa using hp⟩)]
  rw[this]at h;exact h
 case call c=>
  split at h
  ·rename_i x t h1 h2 h3
   have hxm:x∈(Op.call c).operands.toList:=by
    simp only[Op.operands,Call.operands,Array.toList_append,List.mem_append,h2]
    exact .inr (by simp)
   (try simp only[h1,h2,h3])
   unfold a8V at h⊢
   rw[he x hxm]at h
   split at h
   ·rename_i s hs;(try simp only[hs]);exact h
   ·rename_i rows hs;(try simp only[hs]);exact h
   ·rename_i hs;(try simp only[hs]);exact h
   ·rename_i id hs
    (try simp only[hs])
    split at h
    ·rename_i kk k e sz rows h4 h5
     simp only[h4,hx id _ h5];exact h
    ·cases h
   ·cases h
  ·rename_i x y t t' h1 h2 h3
   have hxm:x∈(Op.call c).operands.toList:=by
    simp only[Op.operands,Call.operands,Array.toList_append,List.mem_append,h2]
    exact .inr (by simp)
   have hym:y∈(Op.call c).operands.toList:=by
    simp only[Op.operands,Call.operands,Array.toList_append,List.mem_append,h2]
    exact .inr (by simp)
   (try simp only[h1,h2,h3])
   rw[he x hxm,he y hym]at h
   exact h
  ·cases h
theorem a03{H H':List Ob}(hx:Ext H H'){d e:D}{ms:List Nat}(h:vwC H d=some (e,ms)):vwC H' d=some (e,ms):=by
 cases d<;>simp only[vwC]at h⊢ <;>(try exact h)
 split at h
 ·rename_i k e' sz rows hH;simp only[hx _ _ hH];exact h
 ·rename_i sz rows u hH;simp only[hx _ _ hH];exact h
 ·rename_i rows hH;simp only[hx _ _ hH];exact h
 ·cases h
theorem a42{H H':List Ob}(hx:Ext H H'):∀ {ds es:List D} {ms:List Nat},ZV H ds=some (es,ms)→ZV H' ds=some (es,ms):=by
 intro ds
 induction ds with
 |nil=>intro es ms h;exact h
 |cons d ds ih=>
  intro es ms h
  simp only[ZV]at h⊢
  split at h
  ·rename_i e m es' ms' h1 h2
   rw[a03 hx h1,ih h2];exact h
  ·cases h
theorem a5o{H H':List Ob}(hx:Ext H H'){d e:D}{ms:List Nat}(h:vwV H d=some (e,ms)):vwV H' d=some (e,ms):=by
 by_cases tB:∃ds,d=.agg ds
 ·obtain⟨ds,rfl⟩:=tB
  simp only[vwV]at h⊢
  split at h
  ·rename_i es ms' h1;rw[a42 hx h1];exact h
  ·cases h
 ·by_cases ht:∃vs,d=.iJ vs
  ·obtain⟨vs,rfl⟩:=ht;simp[vwV]at h
  ·have e1:∀H,vwV H d=vwC H d:=by intro H;cases d<;>first|rfl|exact absurd ⟨_,rfl⟩ tB|exact absurd ⟨_,rfl⟩ ht
   rw[e1]at h⊢
   exact a03 hx h
theorem a43{H H':List Ob}(hx:Ext H H'):∀ {ds es:List D} {ms:List Nat},LG H ds=some (es,ms)→LG H' ds=some (es,ms):=by
 intro ds
 induction ds with
 |nil=>intro es ms h;exact h
 |cons d ds ih=>
  intro es ms h
  simp only[LG]at h⊢
  split at h
  ·rename_i e m es' ms' h1 h2
   rw[a5o hx h1,ih h2];exact h
  ·cases h
structure Cp where
 t:Option Nat
 d:D
 r:Nat
 obs:List Ob
 up:Option (Nat×Ob)
def Looks(H:List Ob)(vs ds:List D)(ms:List Nat):Prop:=LG H vs=some (ds,ms)∨(vs.all RV=true∧ds=vs∧ms=[])
def QW(P:Program)(H:List Ob)(σ:List (Nat×D))(o:Oper)(p:Cp):Prop:=
 (pv P ⟨σ,H⟩ o.op=some p.d∧p.obs=[])∨∃(f:FuncId) (xs:Array Operand) (ts:Array TypeId) (ds:List D) (ms:List Nat) (d:D),o.op=.call {callee:=.value (.func f),args:=xs,argTypes:=ts}∧
  Looks H (xs.toList.map (St.ev ⟨σ,H⟩)) ds ms∧(ms=[]∨d.TR=true)∧Good P f ds d∧(oH p.r d=(p.d,p.obs)∨(d.aBG=true∧p.d=d.shV∧p.obs=[]))
def XQ(P:Program)(H:List Ob)(σ:List (Nat×D))(o:Oper)(p:Cp):Prop:=
 (∃T zs,o.op=.alloc T∧tz P T=some zs∧p.d=.ptr p.r 0∧p.obs=[.box zs])∨∃T x ds,o.op=.box T x∧(St.ev ⟨σ,H⟩ x).cellsOf=some ds∧p.d=.ptr p.r 0∧p.obs=[.box ds]
def XR(P:Program)(H:List Ob)(σ:List (Nat×D))(o:Oper)(p:Cp):Prop:=
 ∃T e sz len parts zs ds es,o.op=.buildSlice T len parts∧IG P T=some (e,sz)∧tz P e=some zs∧0<sz∧len*sz≤16777216∧
  xM (s6 len sz) (List.replicate len zs).flatten (parts.toList.map fun q=>(q.1,St.ev ⟨σ,H⟩ q.2))=some ds∧QT H ds=some (es,[])∧p.d=.acc p.r∧p.obs=[.row (zR (ds.all (uqC H))) e sz (chunk sz len es)]
def XS(P:Program)(H:List Ob)(σ:List (Nat×D))(o:Oper)(p:Cp):Prop:=
 ∃T e sz len parts zs ds,o.op=.buildSlice T len parts∧IG P T=some (e,sz)∧tz P e=some zs∧0<sz∧len*sz≤16777216∧
  xM (s6 len sz) (List.replicate len zs).flatten (parts.toList.map fun q=>(q.1,St.ev ⟨σ,H⟩ q.2))=some ds∧ds.all D.ZA=true∧ds.all D.flat=true∧p.d=.sl (chunk sz len ds)∧p.obs=[]
def O9(P:Program)(H:List Ob)(σ:List (Nat×D))(o:Oper)(p:Cp):Prop:=QW P H σ o p∨XQ P H σ o p∨XR P H σ o p∨XS P H σ o p
def aDD(P:Program)(Γ:uK)(all:Array Oper)(H:List Ob)(σ:List (Nat×D))(o:Oper)(p:Cp):Prop:=
 ∃t,p.t=some t∧p.up=none∧o.dst=some t∧t<Γ.nt∧((o.guard=none∧O9 P H σ o p)∨
  (∃(j s:Nat) (want b:Bool),o.guard=some (j,want)∧(all[j]?).bind (·.dst)=some s∧lk σ s=.bool b∧((b=want∧O9 P H σ o p)∨(b≠want∧p.d=.iJ []∧p.obs=[])))∨
  ∃(j s:Nat) (want:Bool),o.guard=some (j,want)∧(all[j]?).bind (·.dst)=some s∧lk σ s=.iJ []∧p.d=.iJ []∧p.obs=[])
def aDE(P:Program)(H:List Ob)(σ:List (Nat×D))(o:Oper)(p:Cp):Prop:=
 p.t=none∧p.obs=[]∧o.dst=none∧o.guard=none∧∃T x y id ds,o.op=.store T x y∧St.ev ⟨σ,H⟩ x=.ptr id 0∧H.length≤id∧(St.ev ⟨σ,H⟩ y).cellsOf=some ds∧XJ P T=true∧ds.length=A6 P T∧p.up=some (id,.box ds)
def tE(P:Program)(Γ:uK)(all:Array Oper)(H:List Ob)(σ:List (Nat×D))(o:Oper)(p:Cp):Prop:=aDD P Γ all H σ o p∨aDE P H σ o p
def Cp.slot(p:Cp)(σ:List (Nat×D)):List (Nat×D):=match p.t with|some t=>(t,p.d)::σ|none=>σ
def Cp.fill(n:Nat)(p:Cp)(acc:List Ob):List Ob:=match p.up with|some (id,ob)=>acc.set (id-n) ob|none=>acc++p.obs
def Cp.aDF(n:Nat)(p:Cp)(U:List Nat)(acc:List Ob):Prop:=match p.up with|some (id,ob)=>id∉U∧n≤id∧∃zs ds,acc[id-n]?=some (.box zs)∧ob=.box ds∧zs.length=ds.length|none=>True
def Cp.ups(p:Cp)(U:List Nat):List Nat:=match p.up with|some (id,_)=>id::U|none=>U
def RY(P:Program)(Γ:uK)(all:Array Oper)(H:List Ob)(K:List (Nat×D)→List Ob→Prop):List Oper→List (Nat×D)→List Ob→List Nat→Prop
 | [],σ,acc,_=>K σ acc
 |o::os,σ,acc,U=>∃p:Cp,p.r=H.length+acc.length∧tE P Γ all H σ o p∧p.aDF H.length U acc∧RY P Γ all H K os (p.slot σ) (p.fill H.length acc) (p.ups U)
theorem AB{Q':Exit→Act→World→Prop}{ops:Array Oper}{i:Nat}{o:Oper}{K:Act→World→Prop}(hi:ops[i]?=some o)(hw:Region.wanted o (yielded ops a.tmps)=true)(h:o.wp P a w K Q'):wpOp P ops Q' i K a w:=by
 unfold wpOp
 simp only[hi,hw,if_true]
 exact .inl h
theorem bN.aBH(hs:bN Γ st κ Θ a w){ops:Array Oper}{j s:Nat}{b:Bool}(hj:(ops[j]?).bind (·.dst)=some s)(hb:lk st.σ s=.bool b):yielded ops a.tmps j=some b:=by
 obtain⟨bs,r,_⟩:=hs.slot s
 rw[hb]at r
 have hv:=r.wA
 have hlt:s<a.tmps.size:=by
  rcases Nat.lt_or_ge s a.tmps.size with h|h
  ·exact h
  ·exfalso
   rw[Array.getD_eq_getD_getElem?,Array.getElem?_eq_none h]at hv
   simp[undef]at hv
 have h1:a.tmps[s]?=some (.bool b):=by
  rw[Array.getD_eq_getD_getElem?,Array.getElem?_eq_getElem hlt]at hv
  rw[Array.getElem?_eq_getElem hlt]
  simpa using hv
 simp[yielded,hj,h1]
theorem TV{st uL:St}{ops:Array Oper}{o:Oper}(h:∀t∈o.looksAt ops,lk st.σ t=lk uL.σ t):∀x∈o.op.operands.toList,st.ev x=uL.ev x:=by
 intro x hx
 cases x with
 |tmp t=>
  refine h t ?_
  unfold Oper.looksAt
  exact List.mem_append.2 (.inl (List.mem_filterMap.2 ⟨.tmp t,hx,rfl⟩))
 |const v=>rfl
 |global g=>rfl
 |func f=>rfl
theorem FV(l:List (Nat×D))(σ:List (Nat×D))(t:Nat):(∀p∈l,p.1≠t)→lk (l++σ) t=lk σ t:=by
 induction l with
 |nil=>intro _;rfl
 |cons q l ih=>
  intro h
  obtain⟨u,d⟩:=q
  simp only[List.cons_append,lk]
  rw[if_neg (fun e=>h (u,d) (by simp) e.symm)]
  exact ih (fun p hp=>h p (by simp[hp]))
theorem LH(l:List (Nat×D))(σ:List (Nat×D))(p:Nat×D)(hp:p∈l)(hd:∀q∈l,q.1=p.1→q=p):lk (l++σ) p.1=p.2:=by
 induction l with
 |nil=>cases hp
 |cons q l ih=>
  obtain⟨u,d⟩:=q
  simp only[List.cons_append,lk]
  by_cases e:p.1=u
  ·rw[if_pos e]
   have:=hd (u,d) (by simp) e.symm
   rw[←this]
  ·rw[if_neg e]
   rcases List.mem_cons.1 hp with rfl|hp
   ·exact absurd rfl e
   ·exact ih hp (fun q hq=>hd q (by simp[hq]))
def a5p(ops:Array Oper)(n:Nat):Bool:=
 decide (n≤ops.size)&&(decide (n=ops.size)||(decide (n<ops.size)&&(Region.sinkB .any ops n&&Region.chainB .any ops n)))&&
 Region.seqB .any ops (ops.size-n) n (Array.replicate n true++Array.replicate (ops.size-n) false)&&
 (List.range n).all fun i=>match ops[i]? with
  |none=>false
  |some o=>(o.after.all fun e=> !Region.binds .any e||decide (e.on<i))&&
   ((o.looksAt ops).all fun t=>(List.range n).all fun j=>match ops[j]? with|some oj=> !(oj.dst==some t)||(decide (j<i)&&Region.waitsFor .any ops i j)|none=>true)&&
   (List.range n).all fun j=>j==i||(match ops[j]? with|some oj=> !(oj.dst==o.dst)||o.dst.isNone|none=>true)
def place(H:List Ob)(r:Nat)(obs:List Ob):List Ob:=H.take r++(obs++H.drop (r+obs.length))
theorem tZ{H:List Ob}{r:Nat}{obs:List Ob}(h:r+obs.length≤H.length)(j:Nat):(place H r obs)[j]?=if j<r then H[j]? else if j<r+obs.length then obs[j-r]? else H[j]?:=by
 unfold place
 have hl:(H.take r).length=r:=by rw[List.length_take];omega
 by_cases h1:j<r
 ·rw[if_pos h1,List.getElem?_append_left (by omega),List.getElem?_take,if_pos h1]
 ·rw[if_neg h1,List.getElem?_append_right (by omega),hl]
  by_cases h2:j<r+obs.length
  ·rw[if_pos h2,List.getElem?_append_left (by omega)]
  ·rw[if_neg h2,List.getElem?_append_right (by omega),List.getElem?_drop]
   congr 1;omega
theorem u7{H:List Ob}{r:Nat}{obs:List Ob}(h:r+obs.length≤H.length):(place H r obs).length=H.length:=by
 unfold place;simp;omega
theorem QW.wp{Q':Exit→Act→World→Prop}{σ:List (Nat×D)}{H H':List Ob}{o:Oper}{p:Cp}{K:Act→World→Prop}(hs:bN Γ ⟨σ,H'⟩ κ Θ a w)(hx:Ext H H'){t:Nat}(hd:o.dst=some t)(ht:t<Γ.nt)(h:QW P H σ o p)
 (hr:p.r+p.obs.length≤H'.length) (hfree:∀i,i<p.obs.length→κ (p.r+i)=none)
 (hK:∀κ' Θ' a' w',bN Γ ⟨(t,p.d)::σ,place H' p.r p.obs⟩ κ' Θ' a' w'→(∀j,(j<p.r∨p.r+p.obs.length≤j)→κ' j=κ j)→K a' w'):o.wp P a w K Q':=by
 rcases h with⟨h,hno⟩|⟨f,xs,ts,ds,ms,d,hop,hds,hsh,mX,hi⟩
 ·have h':=XP (σ:=σ) (σ':=σ) hx (fun x _=>a02 σ H H' x) h
  obtain⟨v,bs,hrun,hrd,hz⟩:=FL hs h'
  unfold Oper.wp
  rw[hrun,Oper.upon_value,hd]
  have hp:place H' p.r p.obs=H':=by rw[hno];simp[place]
  exact hK κ Θ _ _ (by rw[hp];exact hs.set ht hrd hz) (fun _ _=>rfl)
 ·have hev:xs.toList.map (St.ev ⟨σ,H⟩)=xs.toList.map (St.ev ⟨σ,H'⟩):=List.map_congr_left (fun x _=>a02 σ H H' x)
  have aBI:∃bs,Rda w (xs.toList.map a.eval) ds bs∧∀b∈bs,Seen Θ ms b:=by
   rcases hds with hds|⟨hk,rfl,rfl⟩
   ·have:=a43 hx hds
    rw[hev]at this
    exact T7 hs this
   ·rw[hev]at hk⊢
    exact WE hs hk
  obtain⟨bs,hargs,hz⟩:=aBI
  let Θc:Nat→Nat:=fun b=>if Θ b=0∨ms.any (fun m=>Θ b==m+2)then 0 else 1
  have RU:∀b,Seen Θ ms b→Θc b=0:=by
   intro b h
   simp only[Θc]
   rw[if_pos]
   rcases h with h|⟨m,h1,h2⟩
   ·exact .inl h
   ·exact .inr (List.any_eq_true.2 ⟨m,h1,by simp[h2]⟩)
  have hc:=mX.2 w Θc _ bs hs.vok hargs (fun b hb=>RU b (hz b hb)) (fun b hb=>hs.own b (fun e=>hb (RU b (.inl e)))) (fun b=>by simp only[Θc];split<;>omega)
  unfold Oper.wp
  rw[xN hop mX.1,Oper.upon_enter]
  have e:xs.map a.eval=(xs.toList.map a.eval).toArray:=by rw[←Array.toList_map,Array.toArray_toList]
  rw[e]
  refine hc.mono ?_
  rintro e w' ⟨v,bs',tb,ub,rfl,hb,hr',VE,htb,hnd,hfr,hsub⟩
  show K (a.put o.dst v) w'
  rw[hd]
  rcases hi with hi|⟨hown,hpd,ZB⟩
  rotate_left
  ·cases hr' with
   |iJ=>cases hown
   |v hv=>
    have FM:bs'=[]:=hv.own (by
     unfold D.aBG at hown
     split at hown
     ·cases hown
     ·exact hown)
    obtain⟨b,q,s⟩:=hv.xJ
    have hp:place H' p.r p.obs=H':=by rw[ZB];simp[place]
    refine hK κ Θ _ w' ?_ (fun _ _=>rfl)
    rw[hp,hpd]
    refine(hs.grow hb).set ht (.v (.cell (.pure q))) fun x hx'=>?_
    rcases s x hx' with h|h
    ·rw[FM]at h;cases h
    ·by_cases h0:Θ x=0
     ·exact h0
     ·have:=hs.own x h0;have:=(hfr x h).1;omega
  obtain⟨L,q1,q2,q3,q4,q5⟩:=hr'.inst p.r
  rw[hi]at q1 q5
  simp only at q1 q5
  have hLl:L.length=p.obs.length:=by have:=congrArg List.length q1;simpa using this
  obtain⟨κ',Θ',hs',hnm,_,hno,hsame⟩:=hs.WD hb L q2 (q3▸hnd) (fun b hb'=>hfr b (q3▸hb')) p.r (place H' p.r p.obs) (fun i hi'=>hfree i (by omega)) (by rw[u7 hr];exact Nat.le_refl _) (by rw[u7 hr];omega) (by
   intro j y hj
   rw[tZ hr]at hj
   split at hj
   ·rename_i h1;exact .inr ⟨.inl h1,.inr hj⟩
   ·rename_i h1
    split at hj
    ·rename_i h2
     rw[←q1,List.getElem?_map]at hj
     cases hx':L[j-p.r]? with
     |none=>simp[hx']at hj
     |some x=>simp[hx']at hj;exact .inl ⟨j-p.r,x,by omega,hx',hj.symm⟩
    ·exact .inr ⟨.inr (by omega),.inr hj⟩)
  refine hK κ' Θ' _ w' (hs'.set (t:=t) ht (q5 κ' hnm) fun b hb'=>?_) (fun j hj=>hsame j (by omega))
  rw[hno b (q4▸htb b hb')]
  rcases hsh with XK|hown
  ·by_cases hlt:b<w.heap.size
   ·have h0:=VE b hb' hlt
    simp only[Θc,XK,List.any_nil]at h0
    by_cases h1:Θ b=0
    ·exact h1
    ·simp[h1]at h0
   ·by_cases h0:Θ b=0
    ·exact h0
    ·exact absurd (hs.own b h0) hlt
  ·rw[hr'.own hown]at hb';cases hb'
theorem bN.a04{σ:List (Nat×D)}{H':List Ob}(hs:bN Γ ⟨σ,H'⟩ κ Θ a w){r:Nat}(hr:r+1≤H'.length)(hfree:κ r=none){cs:Array Value}{ds:List D}{bs:List Nat}(T:TypeId)(hrd:c8 w κ cs.toList ds bs)(hz:∀b∈bs,Θ b=0):
 bN Γ ⟨σ,place H' r [.box ds]⟩ (yM κ r (some (.pointer (some ⟨w.heap.size,0,none⟩)))) (fun b=>if b=w.heap.size then r+2 else Θ b) a (w.alloc (.cells cs T)):=by
 have k:=fD.alloc hs (.cells cs T) (tag:=r+2) (by omega)
 have hn:=xH hfree (some (Value.pointer (some ⟨w.heap.size,0,none⟩)))
 obtain⟨h1,h2⟩:=c8.stay k hn hrd hz
 obtain⟨ρ,hu⟩:=hs.tC
 refine hs.put (id:=r) (o:=.box ds) [] ?_ hn ?_ ?_ k (hs.A7 (fun b hb=>by by_cases e:b=w.heap.size<;>simp_all)) ?_ hu (by simp) (by intro e sz rows h;cases h)
 ·intro j y hj
  rw[tZ (by simpa using hr)]at hj
  split at hj
  ·exact .inr ⟨by omega,hj⟩
  ·split at hj
   ·rename_i h2
    simp only[List.length_cons,List.length_nil]at h2
    have e:j=r:=by omega
    subst e
    simp at hj
    exact .inl ⟨rfl,hj.symm⟩
   ·rename_i h2
    simp only[List.length_cons,List.length_nil]at h2
    exact .inr ⟨by omega,hj⟩
 ·intro i hi
  rw[u7 (by simpa using hr)]at hi
  unfold yM
  rw[if_neg (by omega)]
  exact hs.oG i hi
 ·intro i x hx
  unfold yM at hx
  split at hx
  ·cases hx;rfl
  ·exact hs.o4 i x hx
 ·exact⟨w.heap.size,cs,T,by simp[yM],heap_alloc_new w _,by simp,bs,h1,h2⟩
theorem XQ.wp{Q':Exit→Act→World→Prop}{σ:List (Nat×D)}{H H':List Ob}{o:Oper}{p:Cp}{K:Act→World→Prop}(hs:bN Γ ⟨σ,H'⟩ κ Θ a w){t:Nat}(hd:o.dst=some t)(ht:t<Γ.nt)(h:XQ P H σ o p)
 (hr:p.r+p.obs.length≤H'.length) (hfree:∀i,i<p.obs.length→κ (p.r+i)=none)
 (hK:∀κ' Θ' a' w',bN Γ ⟨(t,p.d)::σ,place H' p.r p.obs⟩ κ' Θ' a' w'→(∀j,(j<p.r∨p.r+p.obs.length≤j)→κ' j=κ j)→K a' w'):o.wp P a w K Q':=by
 rcases h with⟨T,zs,hop,hz,hpd,ZB⟩|⟨T,x,ds,hop,hc,hpd,ZB⟩
 ·rw[ZB]at hr hfree hK
  rw[hpd]at hK
  obtain⟨i,z,hi,yL,hsz,hlen,hone,rfl⟩:=xA hz
  have hs':=hs.a04 (r:=p.r) hr (by simpa using hfree 0 (by simp)) T (cs:=z.cells) (CC z.cells.toList hone) (by simp)
  unfold Oper.wp
  have hrun:(execOp a.eval o).run P w=.ok (.value (.pointer (some ⟨w.heap.size,0,none⟩))) (w.alloc (.cells z.cells T)):=by
   simp[execOp,hop,Instr.alloc,zeroValue,typeInfo,hi,yL,newVar,newRow]
  rw[hrun,Oper.upon_value,hd]
  refine hK _ _ _ _ (hs'.set (t:=t) (d:=.ptr p.r 0) (bs:=[]) ht ?_ (by simp)) (fun j hj=>?_)
  ·exact(yK.ptr p.r 0 w.heap.size (by simp[yM])).XC
  ·unfold yM
   simp only[List.length_cons,List.length_nil]at hj
   rw[if_neg (by omega)]
 ·rw[ZB]at hr hfree hK
  rw[hpd]at hK
  obtain⟨bs,rr,hz⟩:=hs.ev x
  rw[a02 σ H' H x]at rr
  have hcs:=CB hs.o4 rr hc
  have hs':=hs.a04 (r:=p.r) hr (by simpa using hfree 0 (by simp)) T hcs hz
  unfold Oper.wp
  have hrun:(execOp a.eval o).run P w=.ok (.value (.pointer (some ⟨w.heap.size,0,none⟩))) (w.alloc (.cells (a.eval x).cells T)):=by
   simp[execOp,hop,Instr.box,newVar,newRow]
  rw[hrun,Oper.upon_value,hd]
  refine hK _ _ _ _ (hs'.set (t:=t) (d:=.ptr p.r 0) (bs:=[]) ht ?_ (by simp)) (fun j hj=>?_)
  ·exact(yK.ptr p.r 0 w.heap.size (by simp[yM])).XC
  ·unfold yM
   simp only[List.length_cons,List.length_nil]at hj
   rw[if_neg (by omega)]
theorem bN.a5q{σ:List (Nat×D)}{H':List Ob}(hs:bN Γ ⟨σ,H'⟩ κ Θ a w){r:Nat}(hr:r+1≤H'.length)(hfree:κ r=none){u:Bool}{e sz cap:Nat}{rows:List (List D)}{bs:List Nat}(cur:Array Value)(hsz:0<sz)(hrl:∀x∈rows,x.length=sz)
 (TN:cur.size=cap*sz) (hn:rows.length≤cap) (hcap:cap≤maxLen) (hrd:jN w (cur.toList.take (rows.length*sz)) rows.flatten bs) (hz:∀b∈bs,Θ b=0) (hq:u=true→bs=[]):
 bN Γ ⟨σ,place H' r [.row (zR u) e sz rows]⟩ (yM κ r (some (.slice (some ⟨w.heap.size,0,none⟩) rows.length cap))) (fun b=>if b=w.heap.size then r+2 else Θ b) a (w.alloc (.cells cur e)):=by
 have k:=fD.alloc hs (.cells cur e) (tag:=r+2) (by omega)
 have hkn:=xH hfree (some (Value.slice (some ⟨w.heap.size,0,none⟩) rows.length cap))
 obtain⟨h1,h2⟩:=jN.over k hrd hz
 have hlen:(cur.toList.take (rows.length*sz)).length=rows.length*sz:=by
  have:rows.length*sz≤cap*sz:=Nat.mul_le_mul_right _ hn
  have h3:cur.toList.length=cap*sz:=by rw[←TN];simp
  rw[List.length_take,h3,Nat.min_eq_left this]
 have hown:(w.alloc (.cells cur e)).ownsRow 0 e sz (.slice (some ⟨w.heap.size,0,none⟩) rows.length cap) rows.length (cur.toList.take (rows.length*sz)):=
  ⟨hlen,.inr ⟨w.heap.size,cap,cur,rfl,by omega,heap_alloc_new w _,hn,hcap,TN,rfl⟩⟩
 obtain⟨ρ,hu⟩:=hs.tC
 refine hs.put (id:=r) (o:=.row (zR u) e sz rows) [] ?_ hkn ?_ ?_ k (hs.A7 (fun b hb=>by by_cases e:b=w.heap.size<;>simp_all)) ?_ hu (by simp) ?_
 ·intro j y hj
  rw[tZ (by simpa using hr)]at hj
  split at hj
  ·exact .inr ⟨by omega,hj⟩
  ·split at hj
   ·rename_i h2
    simp only[List.length_cons,List.length_nil]at h2
    have e:j=r:=by omega
    subst e
    simp at hj
    exact .inl ⟨rfl,hj.symm⟩
   ·rename_i h2
    simp only[List.length_cons,List.length_nil]at h2
    exact .inr ⟨by omega,hj⟩
 ·intro i hi
  rw[u7 (by simpa using hr)]at hi
  unfold yM
  rw[if_neg (by omega)]
  exact hs.oG i hi
 ·intro i x hx
  unfold yM at hx
  split at hx
  ·cases hx;rfl
  ·exact hs.o4 i x hx
 ·refine⟨hsz,hrl,_,_,bs,by simp[yM],hown,h1,?_,?_⟩
  ·intro g hg
   simp only[Value.ownBlock,Option.some.injEq]at hg
   subst hg
   simp
  ·cases u<;>exact h2
 ·intro e' sz' bG he
  cases u with
  |false=>simp[zR]at he
  |true=>
   simp only[zR,Ob.row.injEq,true_and]at he
   obtain⟨rfl,rfl,rfl⟩:=he
   have:=hq rfl
   subst this
   exact⟨_,_,[],by simp[yM],hown,h1,by simp,by simp⟩
theorem XR.wp{Q':Exit→Act→World→Prop}{σ:List (Nat×D)}{H H':List Ob}{o:Oper}{p:Cp}{K:Act→World→Prop}(hs:bN Γ ⟨σ,H'⟩ κ Θ a w)(hx:Ext H H'){t:Nat}(hd:o.dst=some t)(ht:t<Γ.nt)(h:XR P H σ o p)
 (hr:p.r+p.obs.length≤H'.length) (hfree:∀i,i<p.obs.length→κ (p.r+i)=none)
 (hK:∀κ' Θ' a' w',bN Γ ⟨(t,p.d)::σ,place H' p.r p.obs⟩ κ' Θ' a' w'→(∀j,(j<p.r∨p.r+p.obs.length≤j)→κ' j=κ j)→K a' w'):o.wp P a w K Q':=by
 obtain⟨T,e,sz,len,parts,zs,ds,es,hop,hT,hz,hsz,hsmall,hf,habs,hpd,ZB⟩:=h
 rw[ZB]at hr hfree hK
 rw[hpd]at hK
 have hf':xM (s6 len sz) (List.replicate len zs).flatten (parts.toList.map fun q=>(q.1,St.ev ⟨σ,H'⟩ q.2))=some ds:=by
  rw[←hf];congr 1
 obtain⟨arr,b0,hrun,VK,hb0,hal,hdl⟩:=A9 (st:=⟨σ,H'⟩) hop hT hz hsz hsmall hf' hs
 obtain⟨ρ,hu⟩:=hs.tC
 obtain⟨bs,q1,q2,q3⟩:=a1M (H:=H) (ρ:=ρ) habs (by simp) VK hb0 (by simp)
 have hel:es.length=len*sz:=by rw[←q1.length,VK.length,hdl]
 obtain⟨c1,c2,c3⟩:=FQ sz len es hel
 have hs':=hs.a5q (r:=p.r) hr (by simpa using hfree 0 (by simp)) (u:=ds.all (uqC H)) (e:=e) (sz:=sz) (cap:=len) (rows:=chunk sz len es) (bs:=bs) arr hsz c3 hal (by rw[c1];exact Nat.le_refl _)
  (by unfold maxLen;have:len*1≤len*sz:=Nat.mul_le_mul_left _ hsz;omega) (by rw[c1,c2,List.take_of_length_le (by simp[hal])];exact q1) q2
  (fun hq=>by
   obtain⟨_,h2⟩:=q3 hq
   cases bs with
   |nil=>rfl
   |cons b bs=>obtain⟨m,hm,_⟩:=h2 b (by simp);cases hm)
 unfold Oper.wp
 rw[hrun,Oper.upon_value,hd]
 rw[c1]at hs'
 refine hK _ _ _ _ (hs'.set (t:=t) (d:=.acc p.r) (bs:=[]) ht ?_ (by simp)) (fun j hj=>?_)
 ·exact(yK.acc p.r _ (by simp[yM])).XC
 ·unfold yM
  simp only[List.length_cons,List.length_nil]at hj
  rw[if_neg (by omega)]
theorem XS.wp{Q':Exit→Act→World→Prop}{σ:List (Nat×D)}{H H':List Ob}{o:Oper}{p:Cp}{K:Act→World→Prop}(hs:bN Γ ⟨σ,H'⟩ κ Θ a w){t:Nat}(hd:o.dst=some t)(ht:t<Γ.nt)(h:XS P H σ o p)
 (hK:∀κ' Θ' a' w',bN Γ ⟨(t,p.d)::σ,place H' p.r p.obs⟩ κ' Θ' a' w'→(∀j,(j<p.r∨p.r+p.obs.length≤j)→κ' j=κ j)→K a' w'):o.wp P a w K Q':=by
 obtain⟨T,e,sz,len,parts,zs,ds,hop,hT,hz,hsz,hsmall,hf,aFf,OA,hpd,ZB⟩:=h
 rw[ZB]at hK
 rw[hpd]at hK
 have hf':xM (s6 len sz) (List.replicate len zs).flatten (parts.toList.map fun q=>(q.1,St.ev ⟨σ,H'⟩ q.2))=some ds:=by
  rw[←hf];congr 1
 obtain⟨arr,b0,hrun,VK,hb0,hal,hdl⟩:=A9 (st:=⟨σ,H'⟩) hop hT hz hsz hsmall hf' hs
 have hrd:=VK.pure aFf
 have aFg:b0=[]:=hrd.flat OA
 subst aFg
 obtain⟨c1,c2,c3⟩:=FQ sz len ds hdl
 have TU:Below w.heap.size w (w.alloc (.cells arr e)):=by
  have k:=fD.alloc hs (.cells arr e) (tag:=2) (by omega)
  refine⟨k.os,k.tape,k.output,k.size,fun b hlt=>?_⟩
  simp only[World.alloc]
  rw[Array.getElem?_push,if_neg (by omega)]
 have hs':=hs.grow TU
 unfold Oper.wp
 rw[hrun,Oper.upon_value,hd]
 have hpl:place H' p.r ([]:List Ob)=H':=by simp[place]
 rw[hpl]at hK
 refine hK _ _ _ _ (hs'.set (t:=t) (d:=.sl (chunk sz len ds)) (bs:=[w.heap.size]) ht ?_ ?_) (fun j hj=>rfl)
 ·have hcell:∀j c,arr.toList[j]?=some c→(w.alloc (.cells arr e)).cell? ⟨w.heap.size,0+j,none⟩=some c:=by
   intro j c hj
   simp only[Nat.zero_add,World.cell?,heap_alloc_new w _]
   simpa using hj
  have hlt:w.heap.size<(w.alloc (.cells arr e)).heap.size:=(Array.getElem?_eq_some_iff.1 (heap_alloc_new w _)).1
  have:=Rd.sl (w:=w.alloc (.cells arr e)) w.heap.size 0 len sz (chunk sz len ds) arr.toList [] hlt (by rw[c1];exact Nat.le_refl _) (by unfold maxLen;have:len*1≤len*sz:=Nat.mul_le_mul_left _ hsz;omega) c3 hcell (by rw[c2];exact hrd.keep (by simp))
  rw[c1]at this
  exact .of this
 ·intro b hb
  simp only[List.mem_singleton]at hb
  subst hb
  cases h:Θ w.heap.size with
  |zero=>rfl
  |succ m=>exact absurd (hs.own w.heap.size (by omega)) (by omega)
theorem O9.wp{Q':Exit→Act→World→Prop}{σ:List (Nat×D)}{H H':List Ob}{o:Oper}{p:Cp}{K:Act→World→Prop}(hs:bN Γ ⟨σ,H'⟩ κ Θ a w)(hx:Ext H H'){t:Nat}(hd:o.dst=some t)(ht:t<Γ.nt)(h:O9 P H σ o p)
 (hr:p.r+p.obs.length≤H'.length) (hfree:∀i,i<p.obs.length→κ (p.r+i)=none)
 (hK:∀κ' Θ' a' w',bN Γ ⟨(t,p.d)::σ,place H' p.r p.obs⟩ κ' Θ' a' w'→(∀j,(j<p.r∨p.r+p.obs.length≤j)→κ' j=κ j)→K a' w'):o.wp P a w K Q':=by
 rcases h with h|h|h|h
 ·exact h.wp hs hx hd ht hr hfree hK
 ·exact h.wp hs hd ht hr hfree hK
 ·exact h.wp hs hx hd ht hr hfree hK
 ·exact h.wp hs hd ht hK
theorem bN.a5r(hs:bN Γ st κ Θ a w){ops:Array Oper}{j s:Nat}(hj:(ops[j]?).bind (·.dst)=some s)(hb:lk st.σ s=.iJ []):yielded ops a.tmps j=none:=by
 obtain⟨bs,r,_⟩:=hs.slot s
 rw[hb]at r
 have hv:=r.W7
 rcases Nat.lt_or_ge s a.tmps.size with hlt|hlt
 ·have h1:a.tmps[s]?=some (.tuple #[]):=by
   rw[Array.getD_eq_getD_getElem?,Array.getElem?_eq_getElem hlt]at hv
   rw[Array.getElem?_eq_getElem hlt]
   simpa using hv
  simp[yielded,hj,h1]
 ·simp[yielded,hj,Array.getElem?_eq_none hlt]
def Cp.BO(p:Cp)(H':List Ob):List Ob:=match p.up with|some (id,ob)=>H'.set id ob|none=>place H' p.r p.obs
theorem tE.wp{Q':Exit→Act→World→Prop}{σ:List (Nat×D)}{H H':List Ob}{ops:Array Oper}{i:Nat}{o:Oper}{p:Cp}{K:Act→World→Prop}(hs:bN Γ ⟨σ,H'⟩ κ Θ a w)(hx:Ext H H')(hi:ops[i]?=some o)(h:tE P Γ ops H σ o p)
 (hr:p.r+p.obs.length≤H'.length) (hfree:∀i,i<p.obs.length→κ (p.r+i)=none) (hup:∀id ob,p.up=some (id,ob)→∃zs ds,H'[id]?=some (.box zs)∧ob=.box ds∧zs.length=ds.length)
 (hK:∀κ' Θ' a' w',bN Γ ⟨p.slot σ,p.BO H'⟩ κ' Θ' a' w'→(∀j,(j<p.r∨p.r+p.obs.length≤j)→κ' j=κ j)→K a' w'):wpOp P ops Q' i K a w:=by
 rcases h with⟨t,hpt,hpu,hd,ht,h⟩|⟨hpt,ZB,hd,hg,T,x,y,id,ds,hop,hev,hlen,hc,hT,hl,hpu⟩
 ·have e1:p.slot σ=(t,p.d)::σ:=by simp[Cp.slot,hpt]
  have e2:p.BO H'=place H' p.r p.obs:=by simp[Cp.BO,hpu]
  rw[e1,e2]at hK
  rcases h with⟨hg,hc⟩|⟨j,s,want,b,hg,hj,hb,hc⟩|⟨j,s,want,hg,hj,hb,aBJ,hno⟩
  ·exact AB hi (by simp[Region.wanted,hg]) (hc.wp hs hx hd ht hr hfree hK)
  ·have hy:=hs.aBH hj hb
   rcases hc with⟨rfl,hc⟩|⟨hne,aBJ,hno⟩
   ·exact AB hi (by simp[Region.wanted,hg,hy]) (hc.wp hs hx hd ht hr hfree hK)
   ·unfold wpOp
    have hw:Region.wanted o (yielded ops a.tmps)=false:=by simp[Region.wanted,hg,hy,hne]
    simp only[hi,hw,Bool.false_eq_true,if_false,hd]
    have hp:place H' p.r p.obs=H':=by rw[hno];simp[place]
    exact hK κ Θ _ _ (by rw[hp,aBJ];exact hs.set ht (.iJ [] [] [] .nil) (by simp)) (fun _ _=>rfl)
  ·have hy:=hs.a5r hj hb
   unfold wpOp
   have hw:Region.wanted o (yielded ops a.tmps)=false:=by simp[Region.wanted,hg,hy]
   simp only[hi,hw,Bool.false_eq_true,if_false,hd]
   have hp:place H' p.r p.obs=H':=by rw[hno];simp[place]
   exact hK κ Θ _ _ (by rw[hp,aBJ];exact hs.set ht (.iJ [] [] [] .nil) (by simp)) (fun _ _=>rfl)
 ·have e1:p.slot σ=σ:=by simp[Cp.slot,hpt]
  have e2:p.BO H'=H'.set id (.box ds):=by simp[Cp.BO,hpu]
  rw[e1,e2]at hK
  obtain⟨zs,ds',hz,he,hzl⟩:=hup id _ hpu
  cases he
  obtain⟨w',hrun,hs'⟩:=W9 (st:=⟨σ,H'⟩) hop (by rw[a02 σ H' H x];exact hev) hz rfl (by rw[a02 σ H' H y];exact hc) hT hl (by omega) hs
  refine AB hi (by simp[Region.wanted,hg]) ?_
  unfold Oper.wp
  rw[hrun,Oper.upon_skip,hd]
  have e3:zs.take 0++ds++zs.drop (0+ds.length)=ds:=by
   rw[List.drop_of_length_le (by omega)];simp
  rw[e3]at hs'
  exact hK κ Θ _ _ hs' (fun _ _=>rfl)
theorem QW.congr{H:List Ob}{σ σ':List (Nat×D)}{o:Oper}{p:Cp}(he:∀x∈o.op.operands.toList,St.ev ⟨σ,H⟩ x=St.ev ⟨σ',H⟩ x)(h:QW P H σ o p):QW P H σ' o p:=by
 rcases h with⟨h,hno⟩|⟨f,xs,ts,ds,ms,d,hop,hds,hsh,mX,hi⟩
 ·exact .inl ⟨XP (fun _ _ h=>h) he h,hno⟩
 ·have hm:xs.toList.map (St.ev ⟨σ,H⟩)=xs.toList.map (St.ev ⟨σ',H⟩):=by
   apply List.map_congr_left
   intro x hx
   refine he x ?_
   rw[hop]
   simp only[Op.operands,Call.operands,Array.toList_append,List.mem_append]
   exact .inr hx
  rw[hm]at hds
  exact .inr ⟨f,xs,ts,ds,ms,d,hop,hds,hsh,mX,hi⟩
theorem O9.congr{H:List Ob}{σ σ':List (Nat×D)}{o:Oper}{p:Cp}(he:∀x∈o.op.operands.toList,St.ev ⟨σ,H⟩ x=St.ev ⟨σ',H⟩ x)(h:O9 P H σ o p):O9 P H σ' o p:=by
 rcases h with h| (h|⟨T,x,ds,hop,hc,hpd,ZB⟩)|⟨T,e,sz,len,parts,zs,ds,es,hop,hT,hz,hsz,hsmall,hf,habs,hpd,ZB⟩|⟨T,e,sz,len,parts,zs,ds,hop,hT,hz,hsz,hsmall,hf,habs,hfl,hpd,ZB⟩
 ·exact .inl (h.congr he)
 ·exact .inr (.inl (.inl h))
 ·exact .inr (.inl (.inr ⟨T,x,ds,hop,by rw[←he x (by rw[hop];simp[Op.operands])];exact hc,hpd,ZB⟩))
 ·refine .inr (.inr (.inl ⟨T,e,sz,len,parts,zs,ds,es,hop,hT,hz,hsz,hsmall,?_,habs,hpd,ZB⟩))
  rw[←hf]
  congr 1
  apply List.map_congr_left
  intro q hq
  rw[he q.2 ?_]
  rw[hop]
  simp only[Op.operands,Array.toList_map]
  exact List.mem_map.2 ⟨q,hq,rfl⟩
 ·refine .inr (.inr (.inr ⟨T,e,sz,len,parts,zs,ds,hop,hT,hz,hsz,hsmall,?_,habs,hfl,hpd,ZB⟩))
  rw[←hf]
  congr 1
  apply List.map_congr_left
  intro q hq
  rw[he q.2 ?_]
  rw[hop]
  simp only[Op.operands,Array.toList_map]
  exact List.mem_map.2 ⟨q,hq,rfl⟩
theorem tE.congr{H:List Ob}{σ σ':List (Nat×D)}{ops:Array Oper}{o:Oper}{p:Cp}(he:∀t∈o.looksAt ops,lk σ t=lk σ' t)(h:tE P Γ ops H σ o p):tE P Γ ops H σ' o p:=by
 have hev:=TV (st:=⟨σ,H⟩) (uL:=⟨σ',H⟩) he
 have hgu:∀ {j s:Nat} {want:Bool},o.guard=some (j,want)→(ops[j]?).bind (·.dst)=some s→lk σ s=lk σ' s:=by
  intro j s want hg hj
  refine he s ?_
  unfold Oper.looksAt
  refine List.mem_append.2 (.inr ?_)
  simp[hg,hj]
 rcases h with⟨t,hpt,hpu,hd,ht,h⟩|⟨hpt,ZB,hd,hg,T,x,y,id,ds,hop,hx,hlen,hc,hT,hl,hpu⟩
 ·refine .inl ⟨t,hpt,hpu,hd,ht,?_⟩
  rcases h with⟨hg,hc⟩|⟨j,s,want,b,hg,hj,hb,hc⟩|⟨j,s,want,hg,hj,hb,hc⟩
  ·exact .inl ⟨hg,hc.congr hev⟩
  ·refine .inr (.inl ⟨j,s,want,b,hg,hj,by rw[←hgu hg hj];exact hb,?_⟩)
   rcases hc with⟨h1,hc⟩|hc
   ·exact .inl ⟨h1,hc.congr hev⟩
   ·exact .inr hc
  ·exact .inr (.inr ⟨j,s,want,hg,hj,by rw[←hgu hg hj];exact hb,hc⟩)
 ·refine .inr ⟨hpt,ZB,hd,hg,T,x,y,id,ds,hop,?_,hlen,?_,hT,hl,hpu⟩
  ·rw[←hev x (by rw[hop];simp[Op.operands])];exact hx
  ·rw[←hev y (by rw[hop];simp[Op.operands])];exact hc
def Cp.sl(p:Cp):Option (Nat×D):=p.t.map fun t=>(t,p.d)
theorem Cp.a8k(p:Cp)(σ:List (Nat×D)):p.slot σ=p.sl.toList++σ:=by
 unfold Cp.slot Cp.sl
 cases p.t<;>rfl
theorem T8(p:Cp)(ps:List Cp)(σ:List (Nat×D)):((p::ps).filterMap Cp.sl).reverse++σ=(ps.filterMap Cp.sl).reverse++p.slot σ:=by
 rw[Cp.a8k,List.filterMap_cons]
 cases p.sl<;>simp
theorem tE.a5s{H:List Ob}{σ:List (Nat×D)}{o:Oper}{p:Cp}(h:tE P Γ all H σ o p):p.up=none∨p.obs=[]:=by
 rcases h with⟨_,_,h,_⟩|⟨_,h,_⟩
 ·exact .inl h
 ·exact .inr h
theorem tE.slots{H:List Ob}{σ:List (Nat×D)}{o:Oper}{p:Cp}(h:tE P Γ all H σ o p):o.dst=p.t:=by
 rcases h with⟨t,h1,_,h2,_⟩|⟨h1,_,h2,_⟩
 ·rw[h1,h2]
 ·rw[h1,h2]
theorem RY.unfold{H:List Ob}{K:List (Nat×D)→List Ob→Prop}:∀(l:List Oper) (σ:List (Nat×D)) (acc:List Ob) (U:List Nat),RY P Γ all H K l σ acc U→
 ∃(ps:List Cp) (SP:List Ob),ps.length=l.length∧(∀(i:Nat) o p,l[i]?=some o→ps[i]?=some p→tE P Γ all H (((ps.take i).filterMap Cp.sl).reverse++σ) o p∧p.r=H.length+acc.length+((ps.take i).flatMap Cp.obs).length∧
  ∀id ob,p.up=some (id,ob)→id∉U∧H.length≤id∧(∃zs ds,ob=.box ds∧zs.length=ds.length∧(acc++(ps.take i).flatMap Cp.obs)[id-H.length]?=some (.box zs))∧∀(i2:Nat) q C9,i2<i→ps[i2]?=some q→q.up≠some (id,C9))∧
  K ((ps.filterMap Cp.sl).reverse++σ) SP∧SP.length=acc.length+(ps.flatMap Cp.obs).length∧
  (∀k,(∀(i:Nat) q ob,ps[i]?=some q→q.up≠some (H.length+k,ob))→SP[k]?=(acc++ps.flatMap Cp.obs)[k]?)∧
  ∀(i:Nat) q id ob,ps[i]?=some q→q.up=some (id,ob)→SP[id-H.length]?=some ob:=by
 intro l
 induction l with
 |nil=>
  intro σ acc U h
  have h:K σ acc:=h
  exact⟨[],acc,rfl,by simp,by simpa using h,by simp,by simp,by simp⟩
 |cons o l ih=>
  intro σ acc U h
  obtain⟨p,hr,hc,hok,uN⟩:=h
  obtain⟨ps,SP,h1,h2,h3,h4,h5,h6⟩:=ih _ _ _ uN
  cases hup:p.up with
  |none=>
   have ef:p.fill H.length acc=acc++p.obs:=by simp[Cp.fill,hup]
   have eu:p.ups U=U:=by simp[Cp.ups,hup]
   rw[ef]at h2 h4 h5
   rw[eu]at h2
   refine⟨p::ps,SP,by simp[h1],?_,by rw[T8];exact h3,by rw[h4];simp;omega,?_,?_⟩
   ·intro i o' p' ho hp
    cases i with
    |zero=>
     simp at ho hp;subst ho;subst hp
     refine⟨by simpa using hc,by simpa using hr,?_⟩
     intro id ob he;rw[hup]at he;cases he
    |succ i=>
     simp at ho hp
     obtain⟨q1,q2,q3⟩:=h2 i o' p' ho hp
     refine⟨by rw[List.take_succ_cons,T8];exact q1,by rw[q2];simp;omega,?_⟩
     intro id ob he
     obtain⟨r1,r2,⟨zs,ds,r3,r4,r5⟩,r6⟩:=q3 id ob he
     refine⟨r1,r2,⟨zs,ds,r3,r4,by rw[←r5];simp⟩,?_⟩
     intro i2 q C9 hlt hq
     cases i2 with
     |zero=>simp at hq;subst hq;rw[hup];simp
     |succ i2=>exact r6 i2 q C9 (by omega) (by simpa using hq)
   ·intro k hk
    rw[h5 k (fun i q ob hq=>hk (i+1) q ob (by simpa using hq))]
    simp
   ·intro i q id ob hq he
    cases i with
    |zero=>simp at hq;subst hq;rw[hup]at he;cases he
    |succ i=>exact h6 i q id ob (by simpa using hq) he
  |some x=>
   obtain⟨id0,ob0⟩:=x
   have ef:p.fill H.length acc=acc.set (id0-H.length) ob0:=by simp[Cp.fill,hup]
   have eu:p.ups U=id0::U:=by simp[Cp.ups,hup]
   have ho0:p.obs=[]:=by
    rcases hc.a5s with h|h
    ·rw[h]at hup;cases hup
    ·exact h
   rw[ef]at h2 h4 h5
   rw[eu]at h2
   simp only[Cp.aDF,hup]at hok
   obtain⟨u1,u2,zs0,ds0,u3,u4,u5⟩:=hok
   have qT:∀(X:List Ob) (k:Nat),k≠id0-H.length→(acc.set (id0-H.length) ob0++X)[k]?=(acc++X)[k]?:=by
    intro X k hk
    by_cases hl:k<acc.length
    ·rw[List.getElem?_append_left (by simpa using hl),List.getElem?_append_left hl,List.getElem?_set_ne (Ne.symm hk)]
    ·rw[List.getElem?_append_right (by simpa using hl),List.getElem?_append_right (by omega)];simp
   have hno:∀(i:Nat) q C9,ps[i]?=some q→q.up≠some (id0,C9):=by
    intro i q C9 hq he
    have hlt:i<l.length:=by have:=(List.getElem?_eq_some_iff.1 hq).1;omega
    have:=(h2 i l[i] q (List.getElem?_eq_getElem hlt) hq).2.2 id0 C9 he
    exact this.1 (by simp)
   refine⟨p::ps,SP,by simp[h1],?_,by rw[T8];exact h3,by rw[h4];simp[ho0],?_,?_⟩
   ·intro i o' p' ho hp
    cases i with
    |zero=>
     simp at ho hp;subst ho;subst hp
     refine⟨by simpa using hc,by simpa using hr,?_⟩
     intro id ob he
     rw[hup]at he;cases he
     exact⟨u1,u2,⟨zs0,ds0,u4,u5,by simpa using u3⟩,by intro i2 q C9 hlt;omega⟩
    |succ i=>
     simp at ho hp
     obtain⟨q1,q2,q3⟩:=h2 i o' p' ho hp
     refine⟨by rw[List.take_succ_cons,T8];exact q1,by rw[q2];simp[ho0],?_⟩
     intro id ob he
     obtain⟨r1,r2,⟨zs,ds,r3,r4,r5⟩,r6⟩:=q3 id ob he
     have hne:id≠id0:=fun e=>r1 (by simp[e])
     refine⟨fun h=>r1 (by simp[h]),r2,⟨zs,ds,r3,r4,?_⟩,?_⟩
     ·rw[←r5,qT _ _ (by omega)];simp[ho0]
     ·intro i2 q C9 hlt hq
      cases i2 with
      |zero=>simp at hq;subst hq;rw[hup];intro e;cases e;exact hne rfl
      |succ i2=>exact r6 i2 q C9 (by omega) (by simpa using hq)
   ·intro k hk
    rw[h5 k (fun i q ob hq=>hk (i+1) q ob (by simpa using hq))]
    have hne:k≠id0-H.length:=fun e=>hk 0 p ob0 rfl (by rw[hup,e,show H.length+(id0-H.length)=id0 from by omega])
    rw[qT _ _ hne];simp[ho0]
   ·intro i q id ob hq he
    cases i with
    |zero=>
     simp at hq;subst hq;rw[hup]at he;cases he
     rw[h5 (id0-H.length) (fun i q C9 hq=>by rw[show H.length+(id0-H.length)=id0 from by omega];exact hno i q C9 hq)]
     have hl:id0-H.length<acc.length:=(List.getElem?_eq_some_iff.1 u3).1
     rw[List.getElem?_append_left (by simpa using hl),List.getElem?_set_self hl]
    |succ i=>exact h6 i q id ob (by simpa using hq) he
theorem bN.same{σ':List (Nat×D)}(h:∀t,lk st.σ t=lk σ' t)(hs:bN Γ st κ Θ a w):bN Γ ⟨σ',st.H⟩ κ Θ a w:=
 ⟨hs.defers,hs.size,hs.oG,hs.o4,fun t=>by show∃bs,qW w κ _ (lk σ' t) bs∧_;rw[←h t];exact hs.slot t,hs.ob,hs.own,hs.old,hs.mine,hs.stays,hs.tC⟩
theorem bN.room(hs:bN Γ st κ Θ a w)(m:Nat):bN Γ ⟨st.σ,st.H++List.replicate m .gone⟩ κ Θ a w:=by
 have key:∀(j:Nat) y,(st.H++List.replicate m .gone)[j]?=some y→y=.gone∨st.H[j]?=some y:=by
  intro j y hj
  by_cases hlt:j<st.H.length
  ·rw[List.getElem?_append_left hlt]at hj;exact .inr hj
  ·rw[List.getElem?_append_right (by omega)]at hj
   rw[List.getElem?_replicate]at hj
   split at hj
   ·cases hj;exact .inl rfl
   ·cases hj
 obtain⟨ρ,hu⟩:=hs.tC
 refine⟨hs.defers,hs.size,fun i hi=>hs.oG i (by simp at hi;omega),hs.o4,hs.slot,?_,hs.own,hs.old,hs.mine,hs.stays,ρ,hu.free,?_,?_⟩
 ·intro j o hj
  rcases key j o hj with rfl|h
  ·trivial
  ·exact hs.ob j o h
 ·intro id e sz rows hj
  rcases key id _ hj with h|h
  ·cases h
  ·exact hu.rows id e sz rows h
 ·intro id o hj
  rcases key id _ hj with h|h
  ·subst h;trivial
  ·exact hu.more id o h
theorem oU{ps:List Cp}{i:Nat}{p:Cp}(h:ps[i]?=some p):ps.flatMap Cp.obs=(ps.take i).flatMap Cp.obs++(p.obs++(ps.drop (i+1)).flatMap Cp.obs):=by
 have e:ps=ps.take i++(p::ps.drop (i+1)):=by
  obtain⟨hlt,rfl⟩:=List.getElem?_eq_some_iff.1 h
  rw[List.getElem_cons_drop,List.take_append_drop]
 conv=>lhs;rw[e]
 simp
theorem zT{ps:List Cp}:∀ {k:Nat},k<(ps.flatMap Cp.obs).length→∃(i:Nat) (p:Cp) (j:Nat),ps[i]?=some p∧j<p.obs.length∧k=((ps.take i).flatMap Cp.obs).length+j:=by
 induction ps with
 |nil=>intro k h;simp at h
 |cons p ps ih=>
  intro k h
  by_cases hk:k<p.obs.length
  ·exact⟨0,p,k,rfl,hk,by simp⟩
  ·simp only[List.flatMap_cons,List.length_append]at h
   obtain⟨i,q,j,h1,h2,h3⟩:=ih (k:=k-p.obs.length) (by omega)
   refine⟨i+1,q,j,by simpa using h1,h2,?_⟩
   rw[List.take_succ_cons,List.flatMap_cons,List.length_append];omega
theorem WG{ps:List Cp}{i j:Nat}{p:Cp}(hp:ps[i]?=some p)(hij:i<j):((ps.take i).flatMap Cp.obs).length+p.obs.length≤((ps.take j).flatMap Cp.obs).length:=by
 have h:(ps.take j)[i]?=some p:=by rw[List.getElem?_take,if_pos hij];exact hp
 have:=oU h
 rw[this]
 have e:(ps.take j).take i=ps.take i:=by rw[List.take_take,Nat.min_eq_left (by omega)]
 rw[e]
 simp only[List.length_append]
 omega
theorem a8l{id:Nat}{l:List Oper}(n:Nat)(hm:P.follows .mixedOrders=true)(hB:a5p l.toArray n=true)
 (h:RY P Γ l.toArray st.H (fun σ acc=>AO P Γ l.toArray (l.drop n) Q ⟨σ,st.H++acc⟩) (l.take n) st.σ [] []):AW P Γ (.region id l.toArray true) Q st:=by
 simp only[a5p,Bool.and_eq_true,Bool.or_eq_true,decide_eq_true_eq]at hB
 obtain⟨⟨⟨hn,hsc⟩,a8m⟩,RZ⟩:=hB
 obtain⟨ps,SP,hlen,TW,hK,hFl,hFo,hFu⟩:=RY.unfold _ _ _ _ h
 simp only[List.nil_append,List.length_nil,Nat.add_zero,Nat.zero_add]at TW hK hFl hFo
 have hn':n≤l.length:=by simpa using hn
 have hpl:ps.length=n:=by rw[hlen];simp;omega
 have hop:∀(i:Nat),i<n→∃o p,l.toArray[i]?=some o∧ps[i]?=some p∧o.dst=p.t∧tE P Γ l.toArray st.H (((ps.take i).filterMap Cp.sl).reverse++st.σ) o p∧p.r=st.H.length+((ps.take i).flatMap Cp.obs).length:=by
  intro i hi
  have h1:l[i]?=some l[i]:=List.getElem?_eq_getElem (by omega)
  have h2:ps[i]?=some ps[i]:=List.getElem?_eq_getElem (by omega)
  have h3:=TW i l[i] ps[i] (by rw[List.getElem?_take,if_pos hi];exact h1) h2
  exact⟨l[i],ps[i],by simp[List.getElem?_toArray,h1],h2,h3.1.slots,h3.1,h3.2.1⟩
 have hpr:∀(i:Nat) p,ps[i]?=some p→p.r=st.H.length+((ps.take i).flatMap Cp.obs).length:=by
  intro i p hp
  have hi:i<n:=by have:=(List.getElem?_eq_some_iff.1 hp).1;omega
  obtain⟨_,p',_,hp',_,_,hr⟩:=hop i hi
  rw[hp]at hp';cases hp';exact hr
 have XT:∀(i:Nat) p id ob,ps[i]?=some p→p.up=some (id,ob)→st.H.length≤id∧(∃zs ds,ob=.box ds∧zs.length=ds.length∧((ps.take i).flatMap Cp.obs)[id-st.H.length]?=some (.box zs))∧∀(i2:Nat) q C9,i2<i→ps[i2]?=some q→q.up≠some (id,C9):=by
  intro i p id ob hp he
  have hi:i<n:=by have:=(List.getElem?_eq_some_iff.1 hp).1;omega
  have h1:l[i]?=some l[i]:=List.getElem?_eq_getElem (by omega)
  have h3:=(TW i l[i] p (by rw[List.getElem?_take,if_pos hi];exact h1) hp).2.2 id ob he
  exact⟨h3.2.1,h3.2.2.1,h3.2.2.2⟩
 have a5t:∀(i j:Nat) p q id ob C9,ps[i]?=some p→ps[j]?=some q→p.up=some (id,ob)→q.up=some (id,C9)→i=j:=by
  intro i j p q id ob C9 hp hq he LI
  rcases Nat.lt_trichotomy i j with h|h|h
  ·exact absurd he ((XT j q id C9 hq LI).2.2 i p ob h hp)
  ·exact h
  ·exact absurd LI ((XT i p id ob hp he).2.2 j q C9 h hq)
 have a5u:∀(i:Nat) p id ob,ps[i]?=some p→p.up=some (id,ob)→p.obs=[]:=by
  intro i p id ob hp he
  have hi:i<n:=by have:=(List.getElem?_eq_some_iff.1 hp).1;omega
  obtain⟨_,p',_,hp',_,hc,_⟩:=hop i hi
  rw[hp]at hp';cases hp'
  rcases hc.a5s with h|h
  ·rw[h]at he;cases he
  ·exact h
 have hfit:∀(i:Nat) p,ps[i]?=some p→p.r+p.obs.length≤st.H.length+(ps.flatMap Cp.obs).length:=by
  intro i p hp
  rw[hpr i p hp,oU hp]
  simp only[List.length_append];omega
 have XU:∀(i j:Nat) p q,ps[i]?=some p→ps[j]?=some q→i<j→p.r+p.obs.length≤q.r:=by
  intro i j p q hp hq hij
  rw[hpr i p hp,hpr j q hq]
  have:=WG hp hij
  omega
 have hdist:∀(i j:Nat) p q t,ps[i]?=some p→ps[j]?=some q→p.t=some t→q.t=some t→i=j:=by
  intro i j p q t hp hq he1 LI
  have hi:i<n:=by have:=(List.getElem?_eq_some_iff.1 hp).1;omega
  have hj:j<n:=by have:=(List.getElem?_eq_some_iff.1 hq).1;omega
  obtain⟨oi,p',ho,hp',hdi,_⟩:=hop i hi
  obtain⟨oj,q',xO,VM,hdj,_⟩:=hop j hj
  rw[hp]at hp';cases hp'
  rw[hq]at VM;cases VM
  have:=List.all_eq_true.1 RZ i (List.mem_range.2 hi)
  simp only[ho,Bool.and_eq_true]at this
  have:=List.all_eq_true.1 this.2 j (List.mem_range.2 hj)
  simp only[xO,hdi,hdj,he1,LI,beq_self_eq_true,Bool.not_true,Bool.or_false,Option.isNone_some,Bool.or_false,beq_iff_eq]at this
  exact this.symm
 have FW:∀(i:Nat) p t,ps[i]?=some p→p.t=some t→∀q∈ps.filterMap Cp.sl,q.1=t→q=(t,p.d):=by
  intro i p t hp hpt q hq he
  obtain⟨q',VM,TT⟩:=List.mem_filterMap.1 hq
  obtain⟨j,hj,rfl⟩:=List.mem_iff_getElem.1 VM
  have NX:ps[j]?=some ps[j]:=List.getElem?_eq_getElem hj
  unfold Cp.sl at TT
  cases hpj:ps[j].t with
  |none=>rw[hpj]at TT;cases TT
  |some u=>
   rw[hpj]at TT
   simp only[Option.map_some,Option.some.injEq]at TT
   subst TT
   simp only at he
   subst he
   have:=hdist j i _ p u NX hp hpj hpt
   subst this
   rw[hp]at NX;cases NX;rfl
 intro κ Θ a w hs
 have main:∀(f:Nat) (listed:Array Bool) (σ':List (Nat×D)) (H':List Ob) (κ:Nat→Option Value) (Θ:Nat→Nat) (a:Act) (w:World),HeadInv .any l.toArray n listed→
  ((List.range n).filter fun i=> !listed.getD i false).length=f→
  (∀(i:Nat) p t,ps[i]?=some p→p.t=some t→listed.getD i false=true→lk σ' t=p.d)→
  (∀t,(∀(i:Nat) p,ps[i]?=some p→listed.getD i false=true→p.t≠some t)→lk σ' t=lk st.σ t)→
  H'.length=st.H.length+(ps.flatMap Cp.obs).length→Ext st.H H'→
  (∀(i:Nat) p,ps[i]?=some p→listed.getD i false=true→∀(j:Nat) o,p.obs[j]?=some o→(∀(i2:Nat) q ob,ps[i2]?=some q→listed.getD i2 false=true→q.up≠some (p.r+j,ob))→H'[p.r+j]?=some o)→
  (∀(i:Nat) q id ob,ps[i]?=some q→listed.getD i false=true→q.up=some (id,ob)→H'[id]?=some ob∧∃v,κ id=some v)→
  (∀(i:Nat) p,ps[i]?=some p→listed.getD i false=false→∀j,j<p.obs.length→κ (p.r+j)=none)→
  bN Γ ⟨σ',H'⟩ κ Θ a w→
  wpAny P .any l.toArray (fun e a' w'=>∃uL κ' Θ',bN Γ uL κ' Θ' a' w'∧Q e uL) (f+(l.toArray.size-n)) listed a w:=by
  intro f
  induction f with
  |zero=>
   intro listed σ' H' κ Θ a w inv mU hA hB hHl hHe hHo hHu hHf hs
   have hall:∀i,i<n→listed.getD i false=true:=by
    intro i hi
    have h0:=List.eq_nil_of_length_eq_zero mU
    cases hl:listed.getD i false with
    |true=>rfl
    |false=>
     have:i∈(List.range n).filter fun i=> !listed.getD i false:=List.mem_filter.2 ⟨List.mem_range.2 hi,by simp[hl]⟩
     rw[h0]at this;cases this
   have a5v:listed=Array.replicate n true++Array.replicate (l.toArray.size-n) false:=by
    apply Array.ext
    ·rw[inv.size];simp;simp at hn;omega
    ·intro i h1 h2
     by_cases hi:i<n
     ·have:=hall i hi
      rw[Array.getElem_append_left (by simpa using hi)]
      simp[h1]at this
      simp[this]
     ·have hi':i<l.toArray.size:=by rw[←inv.size];exact h1
      have:=inv.tail i (by omega) hi'
      rw[Array.getElem_append_right (by simpa using hi)]
      simp[h1]at this
      simp[this]
   rw[Nat.zero_add]
   have QV:∀t,lk σ' t=lk ((ps.filterMap Cp.sl).reverse++st.σ) t:=by
    intro t
    by_cases hex:∃(i:Nat) (p:Cp),ps[i]?=some p∧p.t=some t
    ·obtain⟨i,p,hp,hpt⟩:=hex
     have hi:i<n:=by have:=(List.getElem?_eq_some_iff.1 hp).1;omega
     rw[hA i p t hp hpt (hall i hi)]
     have:=LH (ps.filterMap Cp.sl).reverse st.σ (t,p.d) (by rw[List.mem_reverse];exact List.mem_filterMap.2 ⟨p,List.mem_of_getElem? hp,by simp[Cp.sl,hpt]⟩) (fun q hq he=>FW i p t hp hpt q (by simpa using hq) he)
     exact this.symm
    ·rw[hB t (fun i p hp _ he=>hex ⟨i,p,hp,he⟩),FV]
     intro q hq he
     obtain⟨p,hp,hps⟩:=List.mem_filterMap.1 (List.mem_reverse.1 hq)
     obtain⟨i,hi,hpi⟩:=List.mem_iff_getElem.1 hp
     refine hex ⟨i,p,by rw[←hpi];exact List.getElem?_eq_getElem hi,?_⟩
     unfold Cp.sl at hps
     cases hpt:p.t with
     |none=>rw[hpt]at hps;cases hps
     |some u=>rw[hpt]at hps;simp only[Option.map_some,Option.some.injEq]at hps;subst hps;simp only at he;rw[he]
   have a5w:H'=st.H++SP:=by
    apply List.ext_getElem?
    intro k
    by_cases h1:k<st.H.length
    ·rw[List.getElem?_append_left h1]
     exact hHe k _ (List.getElem?_eq_getElem h1)|>.trans (List.getElem?_eq_getElem h1).symm
    ·rw[List.getElem?_append_right (by omega)]
     by_cases hex:∃(i:Nat) (q:Cp) (ob:Ob),ps[i]?=some q∧q.up=some (k,ob)
     ·obtain⟨i,q,ob,hq,he⟩:=hex
      have hi:i<n:=by have:=(List.getElem?_eq_some_iff.1 hq).1;omega
      rw[(hHu i q k ob hq (hall i hi) he).1,hFu i q k ob hq he]
     ·have hno:∀(i:Nat) q ob,ps[i]?=some q→q.up≠some (k,ob):=fun i q ob hq he=>hex ⟨i,q,ob,hq,he⟩
      rw[hFo (k-st.H.length) (fun i q ob hq=>by rw[show st.H.length+(k-st.H.length)=k from by omega];exact hno i q ob hq)]
      by_cases h2:k-st.H.length<(ps.flatMap Cp.obs).length
      ·obtain⟨i,p,j,hp,hj,hk⟩:=zT h2
       have hi:i<n:=by have:=(List.getElem?_eq_some_iff.1 hp).1;omega
       have e3:p.r+j=k:=by rw[hpr i p hp];omega
       have h3:=hHo i p hp (hall i hi) j _ (List.getElem?_eq_getElem hj) (fun i2 q ob hq _=>by rw[e3];exact hno i2 q ob hq)
       rw[e3]at h3
       rw[h3,oU hp,hk,List.getElem?_append_right (by omega),Nat.add_sub_cancel_left,List.getElem?_append_left hj,List.getElem?_eq_getElem hj]
      ·rw[List.getElem?_eq_none (by omega),List.getElem?_eq_none (by omega)]
   have hs2:=bN.same (st:=⟨σ',H'⟩) (σ':=(ps.filterMap Cp.sl).reverse++st.σ) QV hs
   simp only[a5w]at hs2
   have hwp:=hK κ Θ a w hs2
   have hdl:(l.drop n).length=l.toArray.size-n:=by simp
   have:=wpAny_of_seq (md:=.any) (l.drop n) n listed a w (fun j=>by simp[List.getElem?_drop]) (by rw[hdl,a5v];exact a8m) hwp
   rwa[hdl]at this
  |succ f ih=>
   intro listed σ' H' κ Θ a w inv mU hA hB hHl hHe hHo hHu hHf hs
   have hun:∃i,i<n∧listed.getD i false=false:=by
    have hne:((List.range n).filter fun i=> !listed.getD i false)≠[]:=by
     intro h0;rw[h0]at mU;simp at mU
    obtain⟨i,hi⟩:=List.exists_mem_of_ne_nil _ hne
    obtain⟨h1,h2⟩:=List.mem_filter.1 hi
    exact⟨i,List.mem_range.1 h1,by simpa using h2⟩
   have hsz:=inv.size
   rw[show f+1+(l.toArray.size-n)=(f+(l.toArray.size-n))+1 from by omega]
   refine⟨fun h0=>?_,fun i hi=>?_⟩
   ·exfalso
    obtain⟨i,⟨hin,hil⟩,hmin⟩:=exists_least (p:=fun i=>i<n∧listed.getD i false=false) hun
    obtain⟨o,p,ho,_,_,_⟩:=hop i hin
    have:i∈Region.ready .any l.toArray listed:=by
     refine mem_ready.2 ⟨getD_in (by rw[hsz];omega) hil,o,ho,fun e he hb=>?_⟩
     have:=List.all_eq_true.1 RZ i (List.mem_range.2 hin)
     simp only[ho,Bool.and_eq_true]at this
     have:=Array.all_eq_true'.1 this.1.1 e he
     simp only[hb,Bool.not_true,Bool.false_or,decide_eq_true_eq]at this
     cases hl:listed.getD e.on false with
     |true=>rfl
     |false=>
      have:=hmin e.on ⟨by omega,hl⟩
      omega
    rw[h0]at this;cases this
   ·obtain⟨i0,hi0,hl0⟩:=hun
    have hin:i<n:=by
     rcases Nat.lt_or_ge i n with h|h
     ·exact h
     ·rcases hsc with he|⟨hn2,aDI,hchain⟩
      ·obtain⟨_,oi,hoi,_⟩:=mem_ready.1 hi
       have:=(Array.getElem?_eq_some_iff.1 hoi).1
       omega
      ·exact absurd hi (tail_waits aDI hchain hn2 inv _ i0 rfl hi0 (getD_in (by rw[hsz];omega) hl0) i h)
    obtain⟨o,p,ho,hp,hd,hc,_⟩:=hop i hin
    obtain⟨hil,o',ho',hall⟩:=mem_ready.1 hi
    rw[ho]at ho';cases ho'
    have BP:=getD_both hil
    have hc':tE P Γ l.toArray st.H σ' o p:=by
     refine tE.congr (σ:=((ps.take i).filterMap Cp.sl).reverse++st.σ) (σ':=σ') ?_ hc
     intro t ht
     have OB:=List.all_eq_true.1 RZ i (List.mem_range.2 hin)
     simp only[ho,Bool.and_eq_true]at OB
     have OB:=List.all_eq_true.1 OB.1.2 t ht
     by_cases hex:∃(j:Nat) (q:Cp),ps[j]?=some q∧q.t=some t
     ·obtain⟨j,q,hq,SQ⟩:=hex
      have hj:j<n:=by have:=(List.getElem?_eq_some_iff.1 hq).1;omega
      obtain⟨oj,q',xO,VM,hdj,_⟩:=hop j hj
      rw[hq]at VM;cases VM
      have:=List.all_eq_true.1 OB j (List.mem_range.2 hj)
      simp only[xO,hdj,SQ,beq_self_eq_true,Bool.not_true,Bool.false_or,Bool.and_eq_true,decide_eq_true_eq]at this
      obtain⟨hji,a5x⟩:=this
      obtain⟨oi',a5y,e,he,hb,hon⟩:=Region.waitsFor_spec a5x
      rw[ho]at a5y;cases a5y
      have hjl:=hall e he hb
      rw[hon]at hjl
      rw[hA j q t hq SQ hjl]
      refine LH ((ps.take i).filterMap Cp.sl).reverse st.σ (t,q.d) ?_ (fun q2 NX LI=>FW j q t hq SQ q2 ?_ LI)
      ·rw[List.mem_reverse]
       exact List.mem_filterMap.2 ⟨q,List.mem_of_getElem? (i:=j) (by rw[List.getElem?_take,if_pos hji];exact hq),by simp[Cp.sl,SQ]⟩
      ·obtain⟨q3,hq3,xP⟩:=List.mem_filterMap.1 (List.mem_reverse.1 NX)
       exact List.mem_filterMap.2 ⟨q3,List.mem_of_mem_take hq3,xP⟩
     ·rw[hB t (fun j q hq _ he=>hex ⟨j,q,hq,he⟩),FV]
      intro q hq he
      obtain⟨q3,hq3,xP⟩:=List.mem_filterMap.1 (List.mem_reverse.1 hq)
      obtain⟨j,hj,hqj⟩:=List.mem_iff_getElem.1 (List.mem_of_mem_take hq3)
      refine hex ⟨j,q3,by rw[←hqj];exact List.getElem?_eq_getElem hj,?_⟩
      unfold Cp.sl at xP
      cases hpt:q3.t with
      |none=>rw[hpt]at xP;cases xP
      |some u=>rw[hpt]at xP;simp only[Option.map_some,Option.some.injEq]at xP;subst xP;simp only at he;rw[he]
    have hfp:=hfit i p hp
    have a5z:∀id ob,p.up=some (id,ob)→∃v,κ id=some v:=by
     intro id ob he
     rcases hc' with⟨_,_,h,_⟩|⟨_,_,_,_,T,x,y,id',ds,a1Y,hx',_,_,_,_,hpu⟩
     ·rw[h]at he;cases he
     ·rw[hpu]at he;cases he
      obtain⟨b1,r1,_⟩:=hs.ev x
      rw[a02 σ' H' st.H x,hx']at r1
      obtain⟨g,hk,_⟩:=r1.zO
      exact⟨_,hk⟩
    have a60:∀id ob,p.up=some (id,ob)→∃zs ds,H'[id]?=some (.box zs)∧ob=.box ds∧zs.length=ds.length:=by
     intro id ob he
     obtain⟨u1,⟨zs,ds,u2,u3,u4⟩,_⟩:=XT i p id ob hp he
     refine⟨zs,ds,?_,u2,u3⟩
     obtain⟨i1,p1,j1,hp1,KY,hk1⟩:=zT (List.getElem?_eq_some_iff.1 u4).1
     have a1Z:ps[i1]?=some p1:=by
      have:=(List.getElem?_eq_some_iff.1 hp1).1
      rw[List.getElem?_take]at hp1
      split at hp1
      ·exact hp1
      ·cases hp1
     have hi1:i1<i:=by have:=(List.getElem?_eq_some_iff.1 hp1).1;simp at this;omega
     have et:(ps.take i).take i1=ps.take i1:=by rw[List.take_take,Nat.min_eq_left (by omega)]
     rw[et]at hk1
     have e1:p1.r+j1=id:=by rw[hpr i1 p1 a1Z];omega
     have B9:p1.obs[j1]?=some (.box zs):=by
      rw[oU hp1,et,hk1,List.getElem?_append_right (by omega),Nat.add_sub_cancel_left,List.getElem?_append_left KY]at u4
      exact u4
     have hl1:listed.getD i1 false=true:=by
      cases hl:listed.getD i1 false with
      |true=>rfl
      |false=>
       have h0:=hHf i1 p1 a1Z hl j1 KY
       rw[e1]at h0
       obtain⟨v,hv⟩:=a5z id ob he
       rw[h0]at hv;cases hv
     have:=hHo i1 p1 a1Z hl1 j1 _ B9 (fun i2 q C9 hq hl LI=>by
      rw[e1]at LI
      have:=a5t i i2 p q id ob C9 hp hq he LI
      subst this
      rw[BP]at hl;cases hl)
     rw[e1]at this;exact this
    refine hc'.wp hs hHe ho (by omega) (fun j hj=>hHf i p hp BP j hj) a60 fun κ' Θ' a' w' hs' hsame=>?_
    have qT:∀(j:Nat),(listed.setIfInBounds i true).getD j false=true↔(j=i∨listed.getD j false=true):=by
     intro j
     by_cases e:i=j
     ·subst e
      have:i<listed.size:=by rw[hsz];omega
      simp[this]
     ·rw[getD_set_ne false e]
      constructor
      ·exact .inr
      ·rintro(rfl|h)
       ·exact absurd rfl e
       ·exact h
    have hput:(p.BO H').length=H'.length:=by
     unfold Cp.BO
     split
     ·simp
     ·exact u7 (by omega)
    have aBK:∀(k:Nat),k<st.H.length→(p.BO H')[k]?=H'[k]?:=by
     intro k hk
     unfold Cp.BO
     split
     ·rename_i id ob he
      have:=(XT i p id ob hp he).1
      rw[List.getElem?_set_ne (by omega)]
     ·rw[tZ (by omega),if_pos (by rw[hpr i p hp];omega)]
    refine ih (listed.setIfInBounds i true) (p.slot σ') (p.BO H') κ' Θ' a' w' (inv.set hi hin) ?_ ?_ ?_ (by rw[hput];exact hHl) ?_ ?_ ?_ ?_ hs'
    ·have a44:((List.range n).filter fun j=> !(listed.setIfInBounds i true).getD j false)=((List.range n).filter fun j=> !listed.getD j false).erase i:=by
      have hnd:((List.range n).filter fun j=> !listed.getD j false).Nodup:=List.Pairwise.filter _ List.nodup_range
      rw[hnd.erase_eq_filter,List.filter_filter]
      apply List.filter_congr
      intro j _
      by_cases e:j=i
      ·subst e
       have:=(qT j).2 (.inl rfl)
       rw[this];simp
      ·rw[getD_set_ne false (Ne.symm e)]
       simp[e]
     rw[a44,List.length_erase_of_mem (List.mem_filter.2 ⟨List.mem_range.2 hin,by simp[BP]⟩),mU]
     rfl
    ·intro j q t hq SQ hl
     unfold Cp.slot
     rcases(qT j).1 hl with rfl|D8
     ·rw[hp]at hq;cases hq
      rw[SQ];simp[lk]
     ·cases hpt:p.t with
      |none=>exact hA j q t hq SQ D8
      |some u=>
       simp only[lk]
       rw[if_neg,hA j q t hq SQ D8]
       intro e
       have:=hdist j i q p t hq hp SQ (by rw[hpt,e])
       subst this
       rw[BP]at D8;cases D8
    ·intro t ht
     unfold Cp.slot
     have uN:=hB t (fun j q hq hl=>ht j q hq ((qT j).2 (.inr hl)))
     cases hpt:p.t with
     |none=>exact uN
     |some u=>
      simp only[lk]
      rw[if_neg (fun e=>ht i p hp ((qT i).2 (.inl rfl)) (by rw[hpt,e]))]
      exact uN
    ·intro j y hj
     rw[aBK j (List.getElem?_eq_some_iff.1 hj).1]
     exact hHe j y hj
    ·intro j q hq hl k y hy hno
     have hkl:=(List.getElem?_eq_some_iff.1 hy).1
     unfold Cp.BO
     split
     ·rename_i id ob he
      have hne:q.r+k≠id:=fun e=>hno i p ob hp ((qT i).2 (.inl rfl)) (by rw[e];exact he)
      rw[List.getElem?_set_ne (Ne.symm hne)]
      rcases(qT j).1 hl with rfl|D8
      ·rw[hp]at hq;cases hq
       rw[a5u j p id ob hp he]at hy;simp at hy
      ·exact hHo j q hq D8 k y hy (fun i2 q2 C9 NX hl3=>hno i2 q2 C9 NX ((qT i2).2 (.inr hl3)))
     ·rw[tZ (by omega)]
      rcases(qT j).1 hl with rfl|D8
      ·rw[hp]at hq;cases hq
       rw[if_neg (by omega),if_pos (by omega),Nat.add_sub_cancel_left];exact hy
      ·have hne:j≠i:=fun e=>by subst e;rw[BP]at D8;cases D8
       have h3:=hHo j q hq D8 k y hy (fun i2 q2 C9 NX hl3=>hno i2 q2 C9 NX ((qT i2).2 (.inr hl3)))
       rcases Nat.lt_or_gt_of_ne hne with h|h
       ·have:=XU j i q p hq hp h
        rw[if_pos (by omega)];exact h3
       ·have:=XU i j p q hp hq h
        rw[if_neg (by omega),if_neg (by omega)];exact h3
    ·intro j q id ob hq hl he
     rcases(qT j).1 hl with rfl|D8
     ·rw[hp]at hq;cases hq
      obtain⟨zs,ds,z1,_⟩:=a60 id ob he
      have hlt:=(List.getElem?_eq_some_iff.1 z1).1
      refine⟨by simp only[Cp.BO,he];rw[List.getElem?_set_self hlt],?_⟩
      obtain⟨v,hv⟩:=a5z id ob he
      refine⟨v,?_⟩
      rw[hsame id (by rw[a5u j p id ob hp he];simp;omega)]
      exact hv
     ·obtain⟨h1,v,hv⟩:=hHu j q id ob hq D8 he
      have hout:id<p.r∨p.r+p.obs.length≤id:=by
       rcases Nat.lt_or_ge id p.r with h|h
       ·exact .inl h
       ·rcases Nat.lt_or_ge id (p.r+p.obs.length)with h2|h2
        ·have:=hHf i p hp BP (id-p.r) (by omega)
         rw[show p.r+(id-p.r)=id from by omega,hv]at this;cases this
        ·exact .inr h2
      refine⟨?_,v,by rw[hsame id hout];exact hv⟩
      unfold Cp.BO
      split
      ·rename_i id2 C9 LI
       have hne:id2≠id:=fun e=>by
        subst e
        have:=a5t i j p q id2 C9 ob hp hq LI he
        subst this
        rw[BP]at D8;cases D8
       rw[List.getElem?_set_ne hne];exact h1
      ·rw[tZ (by omega)]
       rcases hout with h|h
       ·rw[if_pos h];exact h1
       ·rw[if_neg (by omega),if_neg (by omega)];exact h1
    ·intro j q hq hl k hk
     have hne:j≠i:=fun e=>by
      subst e
      have:=(qT j).2 (.inl rfl)
      rw[this]at hl;cases hl
     have D8:listed.getD j false=false:=by
      cases h:listed.getD j false with
      |false=>rfl
      |true=>have:=(qT j).2 (.inr h);rw[this]at hl;cases hl
     have h3:=hHf j q hq D8 k hk
     rw[hsame,h3]
     rcases Nat.lt_or_gt_of_ne hne with h|h
     ·have:=XU j i q p hq hp h;omega
     ·have:=XU i j p q hp hq h;omega
 refine wp_region_any hm ?_
 have aBM:HeadInv .any l.toArray n (Array.replicate l.toArray.size false):=
  ⟨by simp,fun j oj _ hl=>(by rw[getD_replicate_false]at hl;cases hl),fun t _ ht=>getD_in (by simpa using ht) (getD_replicate_false _ _)⟩
 have mU:((List.range n).filter fun i=> !(Array.replicate l.toArray.size false).getD i false).length=n:=by
  rw[List.filter_eq_self.2]
  ·simp
  ·intro i _;rw[getD_replicate_false];rfl
 have:=main n (Array.replicate l.toArray.size false) st.σ (st.H++List.replicate (ps.flatMap Cp.obs).length .gone) κ Θ a w.drew aBM mU (fun i p t _ _ hl=>by rw[getD_replicate_false]at hl;cases hl) (fun t _=>rfl)
  (by simp) (fun i o h=>by rw[List.getElem?_append_left (List.getElem?_eq_some_iff.1 h).1];exact h) (fun i p _ hl=>by rw[getD_replicate_false]at hl;cases hl)
  (fun i q id ob _ hl=>by rw[getD_replicate_false]at hl;cases hl)
  (fun i p hp _ j _=>hs.oG _ (by rw[hpr i p hp];omega)) (hs.drew.room _)
 rw[show n+(l.toArray.size-n)=l.toArray.size from by omega]at this
 exact this
end
end Go.Cx
namespace Go.Cx
set_option linter.unusedVariables false
set_option linter.unusedSimpArgs false
open Go.RowKit
def pos(o:List Nat)(i:Nat):Option Nat:=ix (fun j=>j==i) o
def D.rnC(o:List Nat)(d:D):D:=match d with
 | .acc i=>(match pos o i with|some j=>.acc j|none=>.any)
 | .ptr i off=>(match pos o i with|some j=>.ptr j off|none=>.any)
 | .op i a b c=>(match pos o i with|some j=>.op j a b c|none=>.any)
 |d=>d
def D.rnV(o:List Nat)(d:D):D:=match d with
 | .agg cs=>.agg (cs.map (D.rnC o))
 |d=>d.rnC o
def D.rnS(o:List Nat)(d:D):D:=match d with
 | .iJ vs=>.iJ (vs.map (D.rnV o))
 |d=>d.rnV o
def Ob.rn(o:List Nat)(x:Ob):Ob:=match x with
 | .box cells=>.box (cells.map (D.rnC o))
 | .SI cells v=>.SI (cells.map (D.rnC o)) v
 | .hole _ _ _ _ _=>.gone
 |x=>x
def St.EB(st:St)(K o:List Nat):St:=⟨K.map fun t=>(t,(lk st.σ t).rnS o),o.map fun i=>((st.H[i]?).getD .gone).rn o⟩
section
variable{P:Program}{Γ:uK}{Q:Exit→St→Prop}{st:St}{κ κ':Nat→Option Value}{Θ Θ':Nat→Nat}{a:Act}{w:World}{o:List Nat}
theorem WH:∀ {o:List Nat},o.Nodup→∀(i j x:Nat),o[i]?=some x→o[j]?=some x→i=j:=by
 intro o
 induction o with
 |nil=>intro _ i j x h;simp at h
 |cons y o ih=>
  intro hnd i j x hi hj
  obtain⟨h1,h2⟩:=List.nodup_cons.1 hnd
  cases i with
  |zero=>
   cases j with
   |zero=>rfl
   |succ j=>simp at hi hj;subst hi;exact absurd (List.mem_of_getElem? hj) h1
  |succ i=>
   cases j with
   |zero=>simp at hi hj;subst hj;exact absurd (List.mem_of_getElem? hi) h1
   |succ j=>simp at hi hj;rw[ih h2 i j x hi hj]
theorem XV{i j:Nat}(h:pos o i=some j):o[j]?=some i:=by
 obtain⟨x,h1,h2⟩:=xI h
 simp only[beq_iff_eq]at h2
 subst h2;exact h1
theorem a1a{i j:Nat}(hnd:o.Nodup)(h:o[j]?=some i):pos o i=some j:=
 DC h (by simp) (fun k y hk hy=>by
  simp only[beq_iff_eq]at hy
  subst hy
  obtain⟨h1,h2⟩:=List.getElem?_eq_some_iff.1 h
  obtain⟨h3,h4⟩:=List.getElem?_eq_some_iff.1 hk
  exact WH hnd k j _ hk h)
section
variable(hk:∀(i j:Nat) v,pos o i=some j→κ i=some v→κ' j=some v)(yL:∀b,Θ b=0→Θ' b=0)
include hk yL
theorem yK.rn{v:Value}{d:D}{bs:List Nat}(h:yK w κ v d bs)(hz:∀b∈bs,Θ b=0):∃b',yK w κ' v (d.rnC o) b'∧∀b∈b',Θ' b=0:=by
 cases h with
 |pure h=>
  have e:d.rnC o=d:=by cases h<;>rfl
  rw[e]
  exact⟨bs,.pure h,fun b hb=>yL b (hz b hb)⟩
 |acc i v hi=>
  simp only[D.rnC]
  cases hp:pos o i with
  |none=>exact⟨[],.pure (.any _),by simp⟩
  |some j=>exact⟨[],.acc j v (hk i j v hp hi),by simp⟩
 |ptr i off b hi=>
  simp only[D.rnC]
  cases hp:pos o i with
  |none=>exact⟨[],.pure (.any _),by simp⟩
  |some j=>exact⟨[],.ptr j off b (hk i j _ hp hi),by simp⟩
 |op i x sz off b o0 len cap hi=>
  simp only[D.rnC]
  cases hp:pos o i with
  |none=>exact⟨[],.pure (.any _),by simp⟩
  |some j=>exact⟨[],.op j x sz off b o0 len cap (hk i j _ hp hi),by simp⟩
theorem c8.rn{vs:List Value}{ds:List D}{bs:List Nat}(h:c8 w κ vs ds bs)(hz:∀b∈bs,Θ b=0):∃b',c8 w κ' vs (ds.map (D.rnC o)) b'∧∀b∈b',Θ' b=0:=by
 induction h with
 |nil=>exact⟨[],.nil,by simp⟩
 |cons v vs d ds b1 b2 h1 h2 _ ih=>
  obtain⟨c1,q1,q2⟩:=yK.rn hk yL h2 (fun b hb=>hz b (by simp[hb]))
  obtain⟨c2,p1,p2⟩:=ih (fun b hb=>hz b (by simp[hb]))
  refine⟨c1++c2,.cons _ _ _ _ _ _ h1 q1 p1,fun b hb=>?_⟩
  rcases List.mem_append.1 hb with hb|hb
  ·exact q2 b hb
  ·exact p2 b hb
theorem TF.rn{v:Value}{d:D}{bs:List Nat}(h:TF w κ v d bs)(hz:∀b∈bs,Θ b=0):∃b',TF w κ' v (d.rnV o) b'∧∀b∈b',Θ' b=0:=by
 cases h with
 |cell h=>
  by_cases tB:∃ds,d=.agg ds
  ·obtain⟨ds,rfl⟩:=tB
   cases h with
   |pure h=>
    cases h with
    |agg cs _ _ h=>
     obtain⟨b',q1,q2⟩:=c8.rn hk yL (c8.E8 (κ:=κ) h) hz
     exact⟨b',.agg _ _ _ q1,q2⟩
  ·have e:d.rnV o=d.rnC o:=by cases d<;>first|rfl|exact absurd ⟨_,rfl⟩ tB
   rw[e]
   obtain⟨b',q1,q2⟩:=yK.rn hk yL h hz
   exact⟨b',.cell q1,q2⟩
 |agg cs ds bs h=>
  obtain⟨b',q1,q2⟩:=c8.rn hk yL h hz
  exact⟨b',.agg _ _ _ q1,q2⟩
theorem D6.rn{vs:List Value}{ds:List D}{bs:List Nat}(h:D6 w κ vs ds bs)(hz:∀b∈bs,Θ b=0):∃b',D6 w κ' vs (ds.map (D.rnV o)) b'∧∀b∈b',Θ' b=0:=by
 induction h with
 |nil=>exact⟨[],.nil,by simp⟩
 |cons v vs d ds b1 b2 h2 _ ih=>
  obtain⟨c1,q1,q2⟩:=TF.rn hk yL h2 (fun b hb=>hz b (by simp[hb]))
  obtain⟨c2,p1,p2⟩:=ih (fun b hb=>hz b (by simp[hb]))
  refine⟨c1++c2,.cons _ _ _ _ _ _ q1 p1,fun b hb=>?_⟩
  rcases List.mem_append.1 hb with hb|hb
  ·exact q2 b hb
  ·exact p2 b hb
theorem qW.rn{v:Value}{d:D}{bs:List Nat}(h:qW w κ v d bs)(hz:∀b∈bs,Θ b=0):∃b',qW w κ' v (d.rnS o) b'∧∀b∈b',Θ' b=0:=by
 cases h with
 |v h=>
  have hnt:∀vs,d≠ .iJ vs:=by
   intro vs e;subst e
   cases h with
   |cell h=>cases h with|pure h=>cases h
  have e:d.rnS o=d.rnV o:=by cases d<;>first|rfl|exact absurd rfl (hnt _)
  rw[e]
  obtain⟨b',q1,q2⟩:=TF.rn hk yL h hz
  exact⟨b',.v q1,q2⟩
 |iJ vs ds bs h=>
  obtain⟨b',q1,q2⟩:=D6.rn hk yL h hz
  exact⟨b',.iJ _ _ _ q1,q2⟩
end
theorem a61(σ:List (Nat×D))(K:List Nat)(f:D→D)(t:Nat):lk (K.map fun t=>(t,f (lk σ t))) t=if t∈K then f (lk σ t)else .any:=by
 induction K with
 |nil=>simp[lk]
 |cons u K ih=>
  simp only[List.map_cons,lk]
  by_cases e:t=u
  ·subst e;simp
  ·rw[if_neg e,ih];simp[e]
theorem bN.EB(hs:bN Γ st κ Θ a w)(K o:List Nat)(hnd:o.Nodup):∃κ' Θ',bN Γ (st.EB K o) κ' Θ' a w:=by
 let κ':Nat→Option Value:=fun j=>(o[j]?).bind κ
 let Θ':Nat→Nat:=fun b=>if Θ b≤1 then Θ b else match pos o (Θ b-2)with|some j=>j+2|none=>1
 have yL:∀b,Θ b=0→Θ' b=0:=fun b h=>by simp[Θ',h]
 have hk:∀(i j:Nat) v,pos o i=some j→κ i=some v→κ' j=some v:=fun i j v h1 h2=>by simp[κ',XV h1,h2]
 have hk2:∀(i j:Nat),o[j]?=some i→κ' j=κ i:=fun i j h=>by simp[κ',h]
 have VN:∀b (i j:Nat),o[j]?=some i→Θ b=i+2→Θ' b=j+2:=by
  intro b i j hj h
  simp only[Θ']
  rw[if_neg (by omega),h,Nat.add_sub_cancel,a1a hnd hj]
 have key:∀(j:Nat) x,(st.EB K o).H[j]?=some x→∃i,o[j]?=some i∧((st.H[i]?=none∧x=.gone)∨∃y,st.H[i]?=some y∧x=y.rn o):=by
  intro j x hj
  simp only[St.EB,List.getElem?_map]at hj
  cases ho:o[j]? with
  |none=>simp[ho]at hj
  |some i=>
   simp only[ho,Option.map_some,Option.some.injEq]at hj
   refine⟨i,rfl,?_⟩
   cases hH:st.H[i]? with
   |none=>rw[hH]at hj;exact .inl ⟨rfl,hj.symm⟩
   |some y=>rw[hH]at hj;exact .inr ⟨y,rfl,hj.symm⟩
 obtain⟨ρ,hu⟩:=hs.tC
 let ρ':Nat→Nat:=fun b=>if ρ b=0 then 0 else match pos o (ρ b-1)with|some j=>j+1|none=>0
 refine⟨κ',Θ',hs.defers,hs.size,?_,?_,?_,?_,?_,?_,?_,hs.stays,ρ',?_,?_,?_⟩
 ·intro i hi
  simp only[St.EB,List.length_map]at hi
  simp[κ',List.getElem?_eq_none hi]
 ·intro i u zQ
  simp only[κ']at zQ
  cases ho:o[i]? with
  |none=>simp[ho]at zQ
  |some j=>simp[ho]at zQ;exact hs.o4 j u zQ
 ·intro t
  show∃bs,qW w κ' _ (lk (K.map fun t=>(t,(lk st.σ t).rnS o)) t) bs∧_
  rw[a61 st.σ K (fun d=>d.rnS o) t]
  split
  ·obtain⟨bs,hr,hz⟩:=hs.slot t
   exact qW.rn hk yL hr hz
  ·exact⟨[],.of (.any _),by simp⟩
 ·intro j x hj
  obtain⟨i,ho,⟨_,rfl⟩|⟨y,hH,rfl⟩⟩:=key j x hj
  ·trivial
  ·have B9:=hs.ob i y hH
   cases y with
   |gone=>trivial
   |hole=>trivial
   |tk rows=>
    obtain⟨v,bs,q1,q2,q3⟩:=B9
    exact⟨v,bs,by rw[hk2 i j ho];exact q1,q2,fun b hb=>yL b (q3 b hb)⟩
   |mp kv=>
    obtain⟨g,es,c,q1,q2,q3,q4⟩:=B9
    exact⟨g,es,c,by rw[hk2 i j ho];exact q1,q2,VN g i j ho q3,q4⟩
   |w8 sz rows u=>
    obtain⟨q1,q0,v,bs,q2,q3,q4,q5⟩:=B9
    exact⟨q1,fun x hx=>by rw[hk2 i j ho];exact q0 x hx,v,bs,by rw[hk2 i j ho];exact q2,q3,q4,fun b hb=>⟨VN b i j ho (q5 b hb).1,(q5 b hb).2⟩⟩
   |box cells=>
    obtain⟨g,cs,T,q1,q2,q3,bs,q4,q5⟩:=B9
    obtain⟨b',p1,p2⟩:=c8.rn hk yL q4 q5
    exact⟨g,cs,T,by rw[hk2 i j ho];exact q1,q2,VN g i j ho q3,b',p1,p2⟩
   |SI cells u=>
    obtain⟨q0,g,cs,T,q1,q2,q3,bs,q4,q5⟩:=B9
    obtain⟨b',p1,p2⟩:=c8.rn hk yL q4 q5
    exact⟨by rw[hk2 i j ho];exact q0,g,cs,T,by rw[hk2 i j ho];exact q1,q2,VN g i j ho q3,b',p1,p2⟩
   |row k e sz rows=>
    obtain⟨q1,q2,v,cs,bs,q3,q4,q5,q6,q7⟩:=B9
    refine⟨q1,q2,v,cs,bs,by rw[hk2 i j ho];exact q3,q4,q5,fun g hg=>VN g i j ho (q6 g hg),?_⟩
    cases k with
    |cl=>exact⟨q7.1,fun b hb=>⟨VN b i j ho (q7.2.1 b hb).1,(q7.2.1 b hb).2⟩,q7.2.2⟩
    |sh=>exact fun b hb=>yL b (q7 b hb)
    |uq=>exact fun b hb=>yL b (q7 b hb)
    |mv n=>exact fun b hb=>yL b (q7 b hb)
 ·intro b hb
  exact hs.own b (fun h=>hb (yL b h))
 ·intro b hb hx
  obtain⟨h1,h2⟩:=hs.old b hb hx
  simp only[Θ']
  rw[if_pos h2]
  exact⟨h1,h2⟩
 ·intro b hb
  refine hs.mine b ?_
  simp only[Θ']at hb
  split at hb<;>omega
 ·intro b hb
  have hb':ρ b≠0:=fun h=>hb (by simp[ρ',h])
  obtain⟨h1,h2⟩:=hu.free b hb'
  exact⟨yL b h1,h2⟩
 ·intro j e sz rows hj
  obtain⟨i,ho,⟨_,h⟩|⟨y,hH,h⟩⟩:=key j _ hj
  ·cases h
  ·have hy:y=.row .uq e sz rows:=by cases y<;>first| (simp only[Ob.rn]at h;exact h.symm)|cases h
   subst hy
   obtain⟨v,cs,bs,q1,q2,q3,q4,q5⟩:=hu.rows i e sz rows hH
   refine⟨v,cs,bs,by rw[hk2 i j ho];exact q1,q2,q3,q4,fun b hb=>?_⟩
   simp only[ρ']
   rw[q5 b hb,if_neg (by omega),Nat.add_sub_cancel,a1a hnd ho]
 ·intro j x hj
  obtain⟨i,ho,⟨_,h⟩|⟨y,hH,h⟩⟩:=key j _ hj
  ·subst h;trivial
  ·have hm:=hu.more i y hH
   have aDN:∀b,ρ b=i+1→ρ' b=j+1:=fun b hb=>by
    simp only[ρ']
    rw[hb,if_neg (by omega),Nat.add_sub_cancel,a1a hnd ho]
   subst h
   cases y with
   |tk rows=>
    obtain⟨v,bs,q1,q2,q3,q4⟩:=hm
    exact⟨v,bs,by rw[hk2 i j ho];exact q1,q2,q3,fun b hb=>aDN b (q4 b hb)⟩
   |row k e sz rows=>
    cases k with
    |mv n=>
     obtain⟨v,cs,bs,q1,q2,q3,q4,q5⟩:=hm
     exact⟨v,cs,bs,by rw[hk2 i j ho];exact q1,q2,q3,q4,fun b hb=>aDN b (q5 b hb)⟩
    |_=>trivial
   |_=>trivial
end
end Go.Cx
namespace Go.Cx
set_option linter.unusedVariables false
set_option linter.unusedSimpArgs false
open Go.RowKit
abbrev Rw:=Nat×List (List D)
def Rw.ob(x:Rw)(v:Option Value):Ob:=.w8 x.1 x.2 v
def BI(w:World)(κ:Nat→Option Value):Nat→List Rw→List Nat→Prop
 |_,[],us=>us=[]
 |n,x::xs,us=>∃v bs us',κ n=some v∧(∀r∈x.2,r.length=x.1)∧Rd w v (.sl x.2) bs∧us=bs++us'∧BI w κ (n+1) xs us'
def a30(P:Program)(f:FuncId)(ds:List D)(ins outs:List Rw)(d:D):Prop:=
 (∃fn,P.funcs[f]?=some fn∧fn.body.isSome=true∧(fn.name== "runtime.NumGoroutine")=false)∧outs.length=ins.length∧d.flat=true∧
 ∀(w:World) (κ:Nat→Option Value) (args:List Value) (us:List Nat),T4 w (fun b=>b∈us)→args.length=ds.length→(∀(i:Nat) d,ds[i]?=some d→∃v,args[i]?=some v∧qW w κ v d [])→
  (∀i,ins.length≤i→κ i=none)→(∀(i:Nat) u,κ i=some u→u.oneCell'=true)→BI w κ 0 ins us→us.Nodup→(∀b∈us,Wr w b)→
  Calls P f args.toArray w (fun e w'=>∃v us',e=.returned v∧Rd w' v d []∧BI w' κ 0 outs us'∧us'.Nodup∧(∀b∈us',(b∈us∨w.heap.size≤b)∧Wr w' b)∧
   w'.os=w.os∧w'.tape=w.tape∧w'.output=w.output∧w.heap.size≤w'.heap.size∧∀b,b<w.heap.size→b∉us→w'.heap[b]?=w.heap[b]?)
section
variable{P:Program}{Γ:uK}{Q:Exit→St→Prop}{st:St}{κ κ':Nat→Option Value}{Θ Θ':Nat→Nat}{a:Act}{w w':World}{all:Array Oper}{rest:List Oper}
theorem BI.at:∀ {xs:List Rw} {n:Nat} {us:List Nat},BI w κ n xs us→∀(i:Nat) x,xs[i]?=some x→∃v bs,κ (n+i)=some v∧(∀r∈x.2,r.length=x.1)∧Rd w v (.sl x.2) bs∧∀b∈bs,b∈us:=by
 intro xs
 induction xs with
 |nil=>intro n us _ i x hx;simp at hx
 |cons y ys ih=>
  intro n us h i x hx
  obtain⟨v,bs,us',h1,h2,h3,rfl,h5⟩:=h
  cases i with
  |zero=>simp at hx;subst hx;exact⟨v,bs,h1,h2,h3,fun b hb=>by simp[hb]⟩
  |succ i=>
   simp at hx
   obtain⟨v',bs',q1,q2,q3,q4⟩:=ih h5 i x hx
   exact⟨v',bs',by rw[←q1];congr 1;omega,q2,q3,fun b hb=>by simp[q4 b hb]⟩
theorem BI.parts:∀ {xs:List Rw} {n:Nat} {us:List Nat},BI w κ n xs us→∃L:List (List Nat),L.length=xs.length∧us=L.flatten∧∀(i:Nat) x bs,xs[i]?=some x→L[i]?=some bs→∃v,κ (n+i)=some v∧(∀r∈x.2,r.length=x.1)∧Rd w v (.sl x.2) bs:=by
 intro xs
 induction xs with
 |nil=>intro n us h;exact⟨[],rfl,by simpa[BI]using h,by simp⟩
 |cons y ys ih=>
  intro n us h
  obtain⟨v,bs,us',h1,h2,h3,rfl,h5⟩:=h
  obtain⟨L,q1,rfl,q3⟩:=ih h5
  refine⟨bs::L,by simp[q1],by simp,?_⟩
  intro i x b hx hb
  cases i with
  |zero=>simp at hx hb;subst hx;subst hb;exact⟨v,h1,h2,h3⟩
  |succ i=>
   simp at hx hb
   obtain⟨v',r1,r2,r3⟩:=q3 i x b hx hb
   exact⟨v',by rw[←r1];congr 1;omega,r2,r3⟩
theorem BI.of:∀ {xs:List Rw} {n:Nat} {L:List (List Nat)},L.length=xs.length→(∀(i:Nat) x bs,xs[i]?=some x→L[i]?=some bs→∃v,κ (n+i)=some v∧(∀r∈x.2,r.length=x.1)∧Rd w v (.sl x.2) bs)→BI w κ n xs L.flatten:=by
 intro xs
 induction xs with
 |nil=>
  intro n L hl _
  have:L=[]:=List.eq_nil_of_length_eq_zero (by simpa using hl)
  subst this;rfl
 |cons y ys ih=>
  intro n L hl h
  cases L with
  |nil=>simp at hl
  |cons bs L=>
   obtain⟨v,h1,h2,h3⟩:=h 0 y bs rfl rfl
   refine⟨v,bs,L.flatten,h1,h2,h3,by simp,ih (by simpa using hl) ?_⟩
   intro i x b hx hb
   obtain⟨v',r1,r2,r3⟩:=h (i+1) x b (by simpa using hx) (by simpa using hb)
   exact⟨v',by rw[←r1];congr 1;omega,r2,r3⟩
theorem bN.forget(hs:bN Γ st κ Θ a w)(ms:List Nat):bN Γ ⟨st.σ,kill st.H ms⟩ κ (fun b=>if ms.any (fun m=>Θ b==m+2)then st.H.length+2 else Θ b) a w:=by
 have h0:∀b,Θ b=0→(if ms.any (fun m=>Θ b==m+2)then st.H.length+2 else Θ b)=0:=by
  intro b hb
  rw[if_neg,hb]
  intro h
  obtain⟨m,_,hm⟩:=List.any_eq_true.1 h
  simp[hb]at hm
 have hk:∀(j:Nat) o,(kill st.H ms)[j]?=some o→o=.gone∨(j∉ms∧st.H[j]?=some o):=fun j o h=>rE h
 have hold:∀b j,j∉ms→Θ b=j+2→(if ms.any (fun m=>Θ b==m+2)then st.H.length+2 else Θ b)=j+2:=by
  intro b j hj hb
  rw[if_neg,hb]
  intro h
  obtain⟨m,hm,he⟩:=List.any_eq_true.1 h
  simp only[hb,beq_iff_eq]at he
  exact hj (by
   have:j=m:=by omega
   rw[this];exact hm)
 obtain⟨ρ,hu⟩:=hs.tC
 refine⟨hs.defers,hs.size,fun i hi=>hs.oG i (by simpa[dO]using hi),hs.o4,?_,?_,?_,?_,?_,hs.stays,ρ,?_,?_,?_⟩
 ·intro t
  obtain⟨bs,hr,hz⟩:=hs.slot t
  exact⟨bs,hr,fun b hb=>h0 b (hz b hb)⟩
 ·intro j o hj
  rcases hk j o hj with rfl|⟨hn,hj'⟩
  ·trivial
  ·have B9:=hs.ob j o hj'
   cases o with
   |gone=>trivial
   |tk rows=>
    obtain⟨v,bs,q1,q2,q3⟩:=B9
    exact⟨v,bs,q1,q2,fun b hb=>h0 b (q3 b hb)⟩
   |box cells=>
    obtain⟨g,cs,T,q1,q2,q3,bs,q4,q5⟩:=B9
    exact⟨g,cs,T,q1,q2,hold g j hn q3,bs,q4,fun b hb=>h0 b (q5 b hb)⟩
   |SI cells u=>
    obtain⟨q0,g,cs,T,q1,q2,q3,bs,q4,q5⟩:=B9
    exact⟨q0,g,cs,T,q1,q2,hold g j hn q3,bs,q4,fun b hb=>h0 b (q5 b hb)⟩
   |row k e sz rows=>
    obtain⟨q1,q2,v,cs,bs,q3,q4,q5,q6,q7⟩:=B9
    refine⟨q1,q2,v,cs,bs,q3,q4,q5,fun g hg=>hold g j hn (q6 g hg),?_⟩
    cases k with
    |cl=>exact⟨q7.1,fun b hb=>⟨hold b j hn (q7.2.1 b hb).1,(q7.2.1 b hb).2⟩,q7.2.2⟩
    |sh=>exact fun b hb=>h0 b (q7 b hb)
    |uq=>exact fun b hb=>h0 b (q7 b hb)
    |mv n=>exact fun b hb=>h0 b (q7 b hb)
   |w8 sz rows u=>
    obtain⟨q1,q0,v,bs,q2,q3,q4,q5⟩:=B9
    exact⟨q1,q0,v,bs,q2,q3,q4,fun b hb=>⟨hold b j hn (q5 b hb).1,(q5 b hb).2⟩⟩
   |hole sz rows u p n=>
    obtain⟨q1,q0,v,bs,q2,q3,q4,q5⟩:=B9
    exact⟨q1,q0,v,bs,q2,q3,q4,fun b hb=>⟨hold b j hn (q5 b hb).1,(q5 b hb).2⟩⟩
   |mp kv=>
    obtain⟨g,es,c,q1,q2,q3,q4⟩:=B9
    exact⟨g,es,c,q1,q2,hold g j hn q3,q4⟩
 ·intro b hb
  refine hs.own b fun h=>hb ?_
  exact h0 b h
 ·intro b hb hx
  obtain⟨h1,h2⟩:=hs.old b hb hx
  have:(if ms.any (fun m=>Θ b==m+2)then st.H.length+2 else Θ b)=Θ b:=by
   rw[if_neg]
   intro h
   obtain⟨m,_,hm⟩:=List.any_eq_true.1 h
   simp only[beq_iff_eq]at hm
   omega
  show(if ms.any (fun m=>Θ b==m+2)then st.H.length+2 else Θ b)=_∧(if ms.any (fun m=>Θ b==m+2)then st.H.length+2 else Θ b)≤1
  rw[this]
  exact⟨h1,h2⟩
 ·intro b hb
  refine hs.mine b ?_
  by_cases h:ms.any (fun m=>Θ b==m+2)=true
  ·obtain⟨m,_,hm⟩:=List.any_eq_true.1 h
   simp only[beq_iff_eq]at hm
   omega
  ·simp only[h]at hb
   simpa using hb
 ·intro b hb
  obtain⟨h1,h2⟩:=hu.free b hb
  exact⟨h0 b h1,h2⟩
 ·intro id e sz rows hj
  rcases hk id _ hj with h|⟨_,h⟩
  ·cases h
  ·exact hu.rows id e sz rows h
 ·intro id o hj
  rcases hk id _ hj with h|⟨_,h⟩
  ·subst h;trivial
  ·exact hu.more id o h
def lv(H:List Ob)(m:Nat):Option Value:=match H[m]? with|some (.w8 _ _ v)=>v|_=>none
def XW:List Ob→List Nat→List Rw→List Ob
 |H,m::ms,x::xs=>XW (H.set m (x.ob (lv H m))) ms xs
 |H,_,_=>H
theorem S0:∀(H:List Ob) (ms:List Nat) (xs:List Rw),(XW H ms xs).length=H.length:=by
 intro H ms
 induction ms generalizing H with
 |nil=>intro xs;cases xs<;>rfl
 |cons m ms ih=>intro xs;cases xs with|nil=>rfl|cons x xs=>simp[XW,ih]
theorem a62:∀ {H:List Ob} {ms:List Nat} {xs:List Rw} {j:Nat} {y:Ob},ms.Nodup→xs.length=ms.length→(XW H ms xs)[j]?=some y→(∃(i:Nat) (x:Rw),ms[i]?=some j∧xs[i]?=some x∧y=x.ob (lv H j))∨(j∉ms∧H[j]?=some y):=by
 intro H ms
 induction ms generalizing H with
 |nil=>intro xs j y _ _ h;cases xs<;>exact .inr ⟨by simp,h⟩
 |cons m ms ih=>
  intro xs j y hnd hl h
  cases xs with
  |nil=>simp at hl
  |cons x xs=>
   obtain⟨n1,n2⟩:=List.nodup_cons.1 hnd
   rcases ih n2 (by simpa using hl) h with⟨i,z,h1,h2,h3⟩|⟨h1,h2⟩
   ·refine .inl ⟨i+1,z,by simpa using h1,by simpa using h2,?_⟩
    rw[h3]
    have hne:m≠j:=fun e=>n1 (by rw[e];exact List.mem_of_getElem? h1)
    simp only[lv,List.getElem?_set_ne hne]
   ·rcases zS j y h2 with⟨rfl,rfl⟩|⟨h3,h4⟩
    ·exact .inl ⟨0,x,rfl,rfl,rfl⟩
    ·exact .inr ⟨by simp[h1,h3],h4⟩
def TX(H:List Ob):List Nat→Option (List Rw)
 | []=>some []
 |m::ms=>match H[m]?,TX H ms with|some (.w8 sz rows _),some xs=>some ((sz,rows)::xs)|_,_=>none
theorem a1b{H:List Ob}:∀ {ms:List Nat} {xs:List Rw},TX H ms=some xs→xs.length=ms.length∧∀(i m:Nat) x,ms[i]?=some m→xs[i]?=some x→∃v,H[m]?=some (x.ob v):=by
 intro ms
 induction ms with
 |nil=>intro xs h;cases h;simp
 |cons m ms ih=>
  intro xs h
  simp only[TX]at h
  split at h
  ·rename_i sz rows u ys h1 h2
   cases h
   obtain⟨q1,q2⟩:=ih h2
   refine⟨by simp[q1],?_⟩
   intro i m' x hm hx
   cases i with
   |zero=>simp at hm hx;subst hm;subst hx;exact⟨u,h1⟩
   |succ i=>exact q2 i m' x (by simpa using hm) (by simpa using hx)
  ·cases h
def D.KZ(d:D):Bool:=match d with
 | .acc _=>true
 |d=>d.flat
def D.bare(d:D):Bool:=match d with
 | .agg cs=>cs.all D.KZ
 |d=>d.KZ
theorem yK.T9{v:Value}{d:D}{bs:List Nat}(h:yK w κ v d bs)(hf:d.KZ=true):bs=[]:=by
 cases h with
 |pure h=>
  refine h.flat ?_
  cases h<;>exact hf
 |_=>rfl
theorem c8.T9{vs:List Value}{ds:List D}{bs:List Nat}(h:c8 w κ vs ds bs)(hf:ds.all D.KZ=true):bs=[]:=by
 induction h with
 |nil=>rfl
 |cons v vs d ds b1 b2 h1 h2 _ ih=>
  simp only[List.all_cons,Bool.and_eq_true]at hf
  rw[h2.T9 hf.1,ih hf.2];rfl
theorem qW.a32{v:Value}{d:D}{bs:List Nat}(h:qW w κ v d bs)(hf:d.bare=true):bs=[]:=by
 cases h with
 |v h=>
  cases h with
  |cell h=>
   cases h with
   |pure h=>
    cases h with
    |agg cs ds _ h=>exact c8.T9 (c8.E8 (κ:=κ) h) hf
    |_=>first|rfl|exact absurd hf (by simp[D.bare,D.KZ,D.flat])
   |_=>rfl
  |agg cs ds bs h=>exact h.T9 hf
 |iJ=>simp[D.bare,D.KZ,D.flat]at hf
theorem D.a63(o:List Nat){c:D}(h:c.KZ=true):(c.rnC o).KZ=true:=by
 cases c with
 |acc m=>simp only[D.rnC];cases pos o m<;>rfl
 |_=>first|exact h| (simp[D.KZ,D.flat]at h)
theorem D.a33(o:List Nat){d:D}(h:d.bare=true):(d.rnS o).bare=true:=by
 cases d with
 |agg cs=>
  simp only[D.rnS,D.rnV,D.bare,List.all_map]at h⊢
  rw[List.all_eq_true]at h⊢
  intro c hcm
  exact D.a63 o (h c hcm)
 |acc m=>simp only[D.rnS,D.rnV,D.rnC];cases pos o m<;>rfl
 |_=>first|exact h| (simp[D.bare,D.KZ,D.flat]at h)
theorem S2{L:List (List Nat)}(h:L.flatten.Nodup):∀(i j:Nat) x y b,L[i]?=some x→L[j]?=some y→b∈x→b∈y→i=j:=by
 intro i j x y b hi hj hx hy
 have:=vQ (f:=fun l:List Nat=>l) (l:=L) (by simpa[List.flatMap_id]using h)
 exact this i j x y b hi hj hx hy
theorem TY{L:List (List Nat)}(h:L.flatten.Nodup):∀x∈L,x.Nodup:=by
 induction L with
 |nil=>intro x hx;cases hx
 |cons y L ih=>
  intro x hx
  simp only[List.flatten_cons]at h
  obtain⟨h1,h2,_⟩:=List.nodup_append.1 h
  rcases List.mem_cons.1 hx with rfl|hx
  ·exact h1
  ·exact ih h2 x hx
theorem L3:∀ {L:List (List Nat)},(∀x∈L,x.Nodup)→(∀(i j:Nat) x y b,L[i]?=some x→L[j]?=some y→b∈x→b∈y→i=j)→L.flatten.Nodup:=by
 intro L
 induction L with
 |nil=>intro _ _;simp
 |cons y L ih=>
  intro h1 h2
  simp only[List.flatten_cons]
  refine List.nodup_append.2 ⟨h1 y (by simp),ih (fun x hx=>h1 x (by simp[hx])) (fun i j x z b hi hj hx hz=>?_),?_⟩
  ·have:=h2 (i+1) (j+1) x z b (by simpa using hi) (by simpa using hj) hx hz;omega
  ·intro b hb c hc e
   subst e
   obtain⟨x,hx,FR⟩:=List.mem_flatten.1 hc
   obtain⟨j,hj⟩:=List.getElem?_of_mem hx
   have:=h2 0 (j+1) y x b rfl (by simpa using hj) hb FR
   omega
theorem a64{o:Oper}{f t:Nat}{xs:Array Operand}{ts:Array TypeId}{ms:List Nat}{ins outs:List Rw}{d:D}(hop:o.op=.call {callee:=.value (.func f),args:=xs,argTypes:=ts})(hd:o.dst=some t)(hg:o.guard=none)
 (ht:t<Γ.nt) (hnd:ms.Nodup) (hins:TX st.H ms=some ins) (hb:((xs.toList.map st.ev).all D.bare)=true) (mX:a30 P f ((xs.toList.map st.ev).map (D.rnS ms)) ins outs d)
 (h:AO P Γ all rest Q ⟨(t,d)::st.σ,XW st.H ms outs⟩):AO P Γ all (o::rest) Q st:=by
 intro κ Θ a w hs
 obtain⟨hil,hig⟩:=a1b hins
 obtain⟨hfn,hol,hfl,aDO⟩:=mX
 let κc:Nat→Option Value:=fun j=>(ms[j]?).bind κ
 have hkc:∀(i m:Nat),ms[i]?=some m→κc i=κ m:=fun i m h=>by simp[κc,h]
 have B9:∀(i m:Nat) x,ms[i]?=some m→ins[i]?=some x→∃v bs,κ m=some v∧(∀r∈x.2,r.length=x.1)∧Rd w v (.sl x.2) bs∧bs.Nodup∧∀b∈bs,Θ b=m+2∧Wr w b:=by
  intro i m x hm hx
  obtain⟨u,hu⟩:=hig i m x hm hx
  obtain⟨q1,_,v,bs,q2,q3,q4,q5⟩:=hs.ob m _ hu
  exact⟨v,bs,q2,q1,q3,q4,q5⟩
 have hL:∃L:List (List Nat),L.length=ins.length∧∀(i m:Nat) x bs,ms[i]?=some m→ins[i]?=some x→L[i]?=some bs→(∃v,κ m=some v∧(∀r∈x.2,r.length=x.1)∧Rd w v (.sl x.2) bs)∧bs.Nodup∧∀b∈bs,Θ b=m+2∧Wr w b:=by
  have key:∀(ms:List Nat) (ins:List Rw),ins.length=ms.length→(∀(i m:Nat) x,ms[i]?=some m→ins[i]?=some x→∃v bs,κ m=some v∧(∀r∈x.2,r.length=x.1)∧Rd w v (.sl x.2) bs∧bs.Nodup∧∀b∈bs,Θ b=m+2∧Wr w b)→
   ∃L:List (List Nat),L.length=ins.length∧∀(i m:Nat) x bs,ms[i]?=some m→ins[i]?=some x→L[i]?=some bs→(∃v,κ m=some v∧(∀r∈x.2,r.length=x.1)∧Rd w v (.sl x.2) bs)∧bs.Nodup∧∀b∈bs,Θ b=m+2∧Wr w b:=by
   intro ms
   induction ms with
   |nil=>intro ins hl _;exact⟨[],by simpa using hl.symm,by simp⟩
   |cons m ms ih=>
    intro ins hl B9
    cases ins with
    |nil=>simp at hl
    |cons x ins=>
     obtain⟨L,q1,q2⟩:=ih ins (by simpa using hl) (fun i m' x' hm hx=>B9 (i+1) m' x' (by simpa using hm) (by simpa using hx))
     obtain⟨v,bs,r1,r2,r3,r4,r5⟩:=B9 0 m x rfl rfl
     refine⟨bs::L,by simp[q1],?_⟩
     intro i m' x' b hm hx hb
     cases i with
     |zero=>simp at hm hx hb;subst hm;subst hx;subst hb;exact⟨⟨v,r1,r2,r3⟩,r4,r5⟩
     |succ i=>exact q2 i m' x' b (by simpa using hm) (by simpa using hx) (by simpa using hb)
  exact key ms ins hil B9
 obtain⟨L,hLl,hLi⟩:=hL
 have hmi:∀(i:Nat) bs,L[i]?=some bs→∃m x,ms[i]?=some m∧ins[i]?=some x:=by
  intro i bs hb'
  have hlt:=(List.getElem?_eq_some_iff.1 hb').1
  exact⟨_,_,List.getElem?_eq_getElem (by omega),List.getElem?_eq_getElem (by omega)⟩
 have hmem:∀b∈L.flatten,∃m∈ms,Θ b=m+2:=by
  intro b hb'
  obtain⟨x,hx,FR⟩:=List.mem_flatten.1 hb'
  obtain⟨i,hi⟩:=List.getElem?_of_mem hx
  obtain⟨m,y,h1,h2⟩:=hmi i x hi
  exact⟨m,List.mem_of_getElem? h1,((hLi i m y x h1 h2 hi).2.2 b FR).1⟩
 have uB:L.flatten.Nodup:=by
  refine L3 (fun x hx=>?_) (fun i j x y b hi hj hx hy=>?_)
  ·obtain⟨i,hi⟩:=List.getElem?_of_mem hx
   obtain⟨m,y,h1,h2⟩:=hmi i x hi
   exact(hLi i m y x h1 h2 hi).2.1
  ·obtain⟨m1,y1,h1,h2⟩:=hmi i x hi
   obtain⟨m2,y2,h3,h4⟩:=hmi j y hj
   have e1:=((hLi i m1 y1 x h1 h2 hi).2.2 b hx).1
   have e2:=((hLi j m2 y2 y h3 h4 hj).2.2 b hy).1
   have:m1=m2:=by omega
   subst this
   exact WH hnd i j m1 h1 h3
 have TZ:BI w κc 0 ins L.flatten:=BI.of hLl (fun i x bs hx hb'=>by
  obtain⟨m,y,h1,h2⟩:=hmi i bs hb'
  rw[hx]at h2;cases h2
  obtain⟨⟨v,q1,q2,q3⟩,_⟩:=hLi i m x bs h1 hx hb'
  exact⟨v,by rw[Nat.zero_add,hkc i m h1];exact q1,q2,q3⟩)
 have hwr:∀b∈L.flatten,Wr w b:=by
  intro b hb'
  obtain⟨x,hx,FR⟩:=List.mem_flatten.1 hb'
  obtain⟨i,hi⟩:=List.getElem?_of_mem hx
  obtain⟨m,y,h1,h2⟩:=hmi i x hi
  exact((hLi i m y x h1 h2 hi).2.2 b FR).2
 have hargs:∀(i:Nat) d,((xs.toList.map st.ev).map (D.rnS ms))[i]?=some d→∃v,(xs.toList.map a.eval)[i]?=some v∧qW w κc v d []:=by
  intro i d NW
  rw[List.getElem?_map,List.getElem?_map]at NW
  cases hx:xs.toList[i]? with
  |none=>rw[hx]at NW;cases NW
  |some x=>
   rw[hx]at NW
   simp only[Option.map_some,Option.some.injEq]at NW
   subst NW
   refine⟨a.eval x,by rw[List.getElem?_map,hx];rfl,?_⟩
   obtain⟨bs,r,hz⟩:=hs.ev x
   have a65:(st.ev x).bare=true:=List.all_eq_true.1 hb _ (List.mem_map.2 ⟨x,List.mem_of_getElem? hx,rfl⟩)
   obtain⟨b',r',_⟩:=qW.rn (o:=ms) (κ':=κc) (Θ:=fun _=>0) (Θ':=fun _=>0) (fun i j v h1 h2=>by simp[κc,XV h1,h2]) (fun _ _=>rfl) r (fun _ _=>rfl)
   have:=r'.a32 (D.a33 ms a65)
   subst this
   exact r'
 have XX:T4 w fun b=>b∈L.flatten:=by
  obtain⟨B,v1,v2⟩:=hs.vsb
  refine⟨B,v1,fun b hB=>⟨(v2 b hB).2.1,fun hb'=>?_⟩⟩
  obtain⟨x,hx,FR⟩:=List.mem_flatten.1 hb'
  obtain⟨i,hi⟩:=List.getElem?_of_mem hx
  obtain⟨m,y,h1,h2⟩:=hmi i x hi
  have e1:=((hLi i m y x h1 h2 hi).2.2 b FR).1
  rcases hs.mine b (by omega)with q|q
  ·have:=(v2 b hB).1;omega
  ·exact(v2 b hB).2.2 q
 have hc:=aDO w κc (xs.toList.map a.eval) L.flatten XX (by simp) hargs (fun i hi=>by simp[κc,List.getElem?_eq_none (by omega:ms.length≤i)]) (fun i u hu=>by
  simp only[κc]at hu
  cases hm:ms[i]? with
  |none=>rw[hm]at hu;cases hu
  |some m=>rw[hm]at hu;exact hs.o4 m u hu) TZ uB hwr
 refine wpList_plain hg fun K hK=>?_
 unfold Oper.wp
 rw[xN hop hfn,Oper.upon_enter]
 have e:xs.map a.eval=(xs.toList.map a.eval).toArray:=by rw[←Array.toList_map,Array.toArray_toList]
 rw[e]
 refine hc.mono ?_
 rintro e w' ⟨v,us',rfl,hv,hl',IN,a1c,k1,k2,k3,k4,k5⟩
 show K (a.put o.dst v) w'
 rw[hd]
 obtain⟨L',aDP,rfl,a1d⟩:=hl'.parts
 have a66:∀(i:Nat) bs,L'[i]?=some bs→∃m x,ms[i]?=some m∧outs[i]?=some x:=by
  intro i bs hb'
  have hlt:=(List.getElem?_eq_some_iff.1 hb').1
  exact⟨_,_,List.getElem?_eq_getElem (by omega),List.getElem?_eq_getElem (by omega)⟩
 have hs1:=hs.forget ms
 let Θ1:Nat→Nat:=fun b=>if ms.any (fun m=>Θ b==m+2)then st.H.length+2 else Θ b
 have aDQ:∀b,b∈L.flatten→Θ1 b=st.H.length+2:=by
  intro b hb'
  obtain⟨m,hm,he⟩:=hmem b hb'
  simp only[Θ1]
  rw[if_pos (List.any_eq_true.2 ⟨m,hm,by simp[he]⟩)]
 let Θ2:Nat→Nat:=fun b=>match ix (fun x:List Nat=>x.contains b) L' with|some i=>(match ms[i]? with|some m=>m+2|none=>1)|none=>if Θ1 b=st.H.length+2 then 1 else Θ1 b
 have aFm:∀(i m:Nat) bs b,ms[i]?=some m→L'[i]?=some bs→b∈bs→Θ2 b=m+2:=by
  intro i m bs b hm hi hb'
  have:ix (fun x:List Nat=>x.contains b) L'=some i:=DC hi (by simpa using hb') (fun j y hj hy=>S2 IN j i y bs b hj hi (by simpa using hy) hb')
  simp only[Θ2,this,hm]
 have a67:∀b,b∉L'.flatten→Θ2 b=if Θ1 b=st.H.length+2 then 1 else Θ1 b:=by
  intro b hb'
  simp only[Θ2]
  cases h:ix (fun x:List Nat=>x.contains b) L' with
  |none=>rfl
  |some i=>
   obtain⟨x,hx,hp⟩:=xI h
   exact absurd (List.mem_flatten.2 ⟨x,List.mem_of_getElem? hx,by simpa using hp⟩) hb'
 have hlt':∀b∈L'.flatten,b<w'.heap.size:=fun b hb'=>by
  obtain⟨cs,T,hx⟩:=(a1c b hb').2
  exact(Array.getElem?_eq_some_iff.1 hx).1
 have kk:fD w w' Θ1 Θ2 (st.H.length+2):=by
  refine⟨by omega,k1,k2,k3,k4,fun b hlt hne=>k5 b hlt fun hb'=>hne (aDQ b hb'),fun b hlt hne=>?_,fun b hb'=>?_⟩
  ·by_cases hin:b∈L'.flatten
   ·rcases(a1c b hin).1 with h'|h'
    ·exact absurd (aDQ b h') hne
    ·omega
   ·rw[a67 b hin,if_neg hne]
  ·by_cases hin:b∈L'.flatten
   ·exact hlt' b hin
   ·rw[a67 b hin]at hb'
    refine Nat.lt_of_lt_of_le (hs1.own b ?_) k4
    intro h0
    have h0':Θ1 b=0:=h0
    rw[h0']at hb'
    rw[if_neg (by omega)]at hb'
    exact hb' rfl
 have hm2:∀b,2≤Θ2 b→BM Γ b:=by
  intro b hb'
  by_cases hin:b∈L'.flatten
  ·rcases(a1c b hin).1 with h'|h'
   ·obtain⟨m,_,he⟩:=hmem b h'
    exact hs.mine b (by omega)
   ·exact .inl (Nat.le_trans hs.base h')
  ·rw[a67 b hin]at hb'
   split at hb'
   ·omega
   ·exact hs1.mine b hb'
 obtain⟨ρ,hu⟩:=hs1.tC
 have aBO:=hs1.nO kk (κ':=κ) (fun _ _ h=>h) hu
 have hkl:(kill st.H ms).length=st.H.length:=dO _ _
 have hpk:∀(j:Nat) y,(XW st.H ms outs)[j]?=some y→(∃(i:Nat) (x:Rw),ms[i]?=some j∧outs[i]?=some x∧y=x.ob (lv st.H j))∨(j∉ms∧(kill st.H ms)[j]?=some y):=by
  intro j y hj
  rcases a62 hnd (by omega) hj with h'|⟨h1,h2⟩
  ·exact .inl h'
  ·exact .inr ⟨h1,by rw[fF h1];exact h2⟩
 have TQ:∀(j:Nat) y,(XW st.H ms outs)[j]?=some y→j+2≠st.H.length+2:=fun j y hj=>by
  have:=(List.getElem?_eq_some_iff.1 hj).1;rw[S0]at this;omega
 have hs2:bN Γ ⟨st.σ,XW st.H ms outs⟩ κ Θ2 a w':=by
  refine hs1.step kk hm2 (fun _ _ h=>h) (fun i hi=>hs.oG i (by rw[S0]at hi;exact hi)) hs.o4 ?_ ⟨ρ,aBO.1,?_,?_⟩
  ·intro j y hj
   have hjl:=TQ j y hj
   rcases hpk j y hj with⟨i,x,h1,h2,rfl⟩|⟨_,h2⟩
   ·right;right
    have hbi:∃bs,L'[i]?=some bs:=⟨_,List.getElem?_eq_getElem (by have:=(List.getElem?_eq_some_iff.1 h2).1;omega)⟩
    obtain⟨bs,hbi⟩:=hbi
    obtain⟨v',q1,q2,q3⟩:=a1d i x bs h2 hbi
    rw[Nat.zero_add,hkc i j h1]at q1
    refine⟨q2,fun x hx=>?_,v',bs,q1,q3,TY IN bs (List.mem_of_getElem? hbi),fun b hb'=>⟨aFm i j bs b h1 hbi hb',(a1c b (List.mem_flatten.2 ⟨bs,List.mem_of_getElem? hbi,hb'⟩)).2⟩⟩
    unfold lv at hx
    split at hx
    ·rename_i sz0 aHB u0 hH0
     subst hx
     obtain⟨_,q0,_⟩:=hs.ob j _ hH0
     exact q0 x rfl
    ·cases hx
   ·exact .inr (.inl ⟨hjl,h2⟩)
  ·intro id e' sz' bG hj
   have hjl:=TQ id _ hj
   rcases hpk id _ hj with⟨i,x,h1,h2,h3⟩|⟨_,h2⟩
   ·simp[Rw.ob]at h3
   ·exact aBO.2.1 id e' sz' bG hjl h2
  ·intro id y hj
   have hjl:=TQ id _ hj
   rcases hpk id _ hj with⟨i,x,h1,h2,h3⟩|⟨_,h2⟩
   ·subst h3;exact SJ.yN rfl
   ·exact aBO.2.2 id y hjl h2
 have sN:qW w' κ v d []:=.of hv
 exact hK _ _ (h κ Θ2 _ w' (hs2.set (t:=t) ht sN (by simp)))
def Ob.close:Ob→Ob
 | .row _ _ sz rows=>.w8 sz rows none
 |o=>o
theorem bN.a48(hs:bN Γ st κ Θ a w)(hb:Below w.heap.size w w')(L:List Fs)(hL:∀x∈L,x.ok w')(hnd:(L.flatMap Fs.bl).Nodup)(hfr:∀b∈L.flatMap Fs.bl,w.heap.size≤b∧Wr w' b):
 ∃κ' Θ',bN Γ ⟨st.σ,st.H++(L.map Fs.ob).map Ob.close⟩ κ' Θ' a w'∧Names κ' st.H.length L:=by
 let n:=st.H.length
 let κ':Nat→Option Value:=fun j=>if j<n∨n+L.length≤j then κ j else(L[j-n]?).map Fs.v
 let Θ':Nat→Nat:=fun b=>match ix (fun x:Fs=>x.bl.contains b) L with|some i=>n+i+2|none=>Θ b
 have hu1:∀(i j:Nat) x y b,L[i]?=some x→L[j]?=some y→b∈x.bl→b∈y.bl→i=j:=fun i j x y b=>vQ hnd i j x y b
 have hts:∀(i:Nat) x b,L[i]?=some x→b∈x.bl→Θ' b=n+i+2:=by
  intro i x b hi hxb
  have:ix (fun x:Fs=>x.bl.contains b) L=some i:=DC hi (by simpa using hxb) (fun j y hj hy=>hu1 j i y x b hj hi (by simpa using hy) hxb)
  simp only[Θ',this]
 have hno:∀b,b∉L.flatMap Fs.bl→Θ' b=Θ b:=by
  intro b hb'
  simp only[Θ']
  cases h:ix (fun x:Fs=>x.bl.contains b) L with
  |none=>rfl
  |some i=>
   obtain⟨x,hx,hp⟩:=xI h
   exact absurd (List.mem_flatMap.2 ⟨x,List.mem_of_getElem? hx,by simpa using hp⟩) hb'
 have hold:∀b,b<w.heap.size→Θ' b=Θ b:=fun b hlt=>hno b (fun h=>by have:=(hfr b h).1;omega)
 have hn:∀(j:Nat) v,κ j=some v→κ' j=some v:=by
  intro j v hj
  have:j<n:=by
   rcases Nat.lt_or_ge j n with h|h
   ·exact h
   ·have:=hs.oG j h;rw[hj]at this;cases this
  simp only[κ'];rw[if_pos (.inl this)];exact hj
 have AA:Names κ' n L:=by
  intro i x hx
  have hlt:=(List.getElem?_eq_some_iff.1 hx).1
  simp only[κ']
  rw[if_neg (by omega),Nat.add_sub_cancel_left,hx];rfl
 have hlen:(st.H++(L.map Fs.ob).map Ob.close).length=n+L.length:=by simp[n]
 have k:fD w w' Θ Θ' (n+L.length+2):=by
  refine⟨by omega,hb.os,hb.tape,hb.output,hb.size,fun b hlt _=>hb.block b hlt,fun b hlt _=>hold b hlt,fun b h=>?_⟩
  by_cases hin:b∈L.flatMap Fs.bl
  ·obtain⟨cs,T,hx⟩:=(hfr b hin).2
   exact(Array.getElem?_eq_some_iff.1 hx).1
  ·rw[hno b hin]at h
   exact Nat.lt_of_lt_of_le (hs.own b h) hb.size
 have hm:∀b,2≤Θ' b→BM Γ b:=by
  intro b h
  by_cases hin:b∈L.flatMap Fs.bl
  ·exact .inl (Nat.le_trans hs.base (hfr b hin).1)
  ·rw[hno b hin]at h;exact hs.mine b h
 have key:∀(j:Nat) y,(st.H++(L.map Fs.ob).map Ob.close)[j]?=some y→(∃i x,j=n+i∧L[i]?=some x∧y=.w8 x.sz x.rows none)∨(j<n∧st.H[j]?=some y):=by
  intro j y hj
  by_cases hlt:j<st.H.length
  ·rw[List.getElem?_append_left hlt]at hj;exact .inr ⟨hlt,hj⟩
  ·rw[List.getElem?_append_right (by omega),List.getElem?_map,List.getElem?_map]at hj
   cases hx:L[j-st.H.length]? with
   |none=>simp[hx]at hj
   |some x=>simp[hx]at hj;exact .inl ⟨j-st.H.length,x,by omega,hx,hj.symm⟩
 have TQ:∀(j:Nat) y,(st.H++(L.map Fs.ob).map Ob.close)[j]?=some y→j+2≠n+L.length+2:=fun j y hj=>by
  have:=(List.getElem?_eq_some_iff.1 hj).1;omega
 obtain⟨ρ,hu⟩:=hs.tC
 have uB:=hs.nO k hn hu
 refine⟨κ',Θ',hs.step k hm hn (fun i hi=>?_) (fun i u zQ=>?_) (fun j y hj=>?_) ⟨ρ,uB.1,fun id e sz rows hj=>?_,fun id y hj=>?_⟩,AA⟩
 ·rw[hlen]at hi
  simp only[κ']
  rw[if_pos (by omega)]
  exact hs.oG i (by omega)
 ·simp only[κ']at zQ
  split at zQ
  ·exact hs.o4 i u zQ
  ·cases hx:L[i-n]? with
   |none=>simp[hx]at zQ
   |some x=>simp[hx]at zQ;subst zQ;exact(hL x (List.mem_of_getElem? hx)).2.2.2.2
 ·have hjl:=TQ j y hj
  rcases key j y hj with⟨i,x,rfl,hx,rfl⟩|⟨hlt,hy⟩
  ·right;right
   obtain⟨q1,q2,q3,q4,_⟩:=hL x (List.mem_of_getElem? hx)
   have QU:x.bl.Nodup:=by
    have:∀(l:List Fs),(l.flatMap Fs.bl).Nodup→∀x∈l,x.bl.Nodup:=by
     intro l
     induction l with
     |nil=>intro _ x hx;cases hx
     |cons z r ih=>
      intro hnd x hx
      simp only[List.flatMap_cons]at hnd
      obtain⟨n1,n2,_⟩:=List.nodup_append.1 hnd
      rcases List.mem_cons.1 hx with rfl|hx
      ·exact n1
      ·exact ih n2 x hx
    exact this L hnd x (List.mem_of_getElem? hx)
   exact⟨q2,by simp,x.v,x.bl,AA i x hx,vF q2 q3 q4,QU,fun b hb'=>⟨hts i x b hx hb',(hfr b (List.mem_flatMap.2 ⟨x,List.mem_of_getElem? hx,hb'⟩)).2⟩⟩
  ·exact .inr (.inl ⟨hjl,hy⟩)
 ·have hjl:=TQ id _ hj
  rcases key id _ hj with⟨i,x,_,_,h⟩|⟨hlt,hy⟩
  ·cases h
  ·exact uB.2.1 id e sz rows hjl hy
 ·have hjl:=TQ id _ hj
  rcases key id _ hj with⟨i,x,_,_,h⟩|⟨hlt,hy⟩
  ·subst h;exact SJ.yN rfl
  ·exact uB.2.2 id y hjl hy
theorem a68{o:Oper}{f t:Nat}{xs:Array Operand}{ts:Array TypeId}{ds:List D}{ms:List Nat}{d:D}(hop:o.op=.call {callee:=.value (.func f),args:=xs,argTypes:=ts})(hd:o.dst=some t)(hg:o.guard=none)
 (ht:t<Γ.nt) (hds:LG st.H (xs.toList.map st.ev)=some (ds,ms)) (hown:d.TR=true) (mX:Good P f ds d)
 (h:AO P Γ all rest Q ⟨(t,(oH st.H.length d).1)::st.σ,st.H++(oH st.H.length d).2.map Ob.close⟩):AO P Γ all (o::rest) Q st:=by
 intro κ Θ a w hs
 obtain⟨bs,hargs,hz⟩:=T7 hs hds
 let Θc:Nat→Nat:=fun b=>if Θ b=0∨ms.any (fun m=>Θ b==m+2)then 0 else 1
 have RU:∀b,Seen Θ ms b→Θc b=0:=by
  intro b h
  simp only[Θc]
  rw[if_pos]
  rcases h with h|⟨m,h1,h2⟩
  ·exact .inl h
  ·exact .inr (List.any_eq_true.2 ⟨m,h1,by simp[h2]⟩)
 have hc:=mX.2 w Θc _ bs hs.vok hargs (fun b hb=>RU b (hz b hb)) (fun b hb=>hs.own b (fun e=>hb (RU b (.inl e)))) (fun b=>by simp only[Θc];split<;>omega)
 refine wpList_plain hg fun K hK=>?_
 unfold Oper.wp
 rw[xN hop mX.1,Oper.upon_enter]
 have e:xs.map a.eval=(xs.toList.map a.eval).toArray:=by rw[←Array.toList_map,Array.toArray_toList]
 rw[e]
 refine hc.mono ?_
 rintro e w' ⟨v,bs',tb,ub,rfl,hb,hr,VE,htb,hnd,hfr,hsub⟩
 show K (a.put o.dst v) w'
 rw[hd]
 obtain⟨L,q1,q2,q3,q4,q5⟩:=hr.inst st.H.length
 obtain⟨κ',Θ',hs',hnm⟩:=hs.a48 hb L q2 (q3▸hnd) (fun b hb'=>hfr b (q3▸hb'))
 rw[q1]at hs'
 refine hK _ _ (h κ' Θ' _ w' (hs'.set (t:=t) ht (q5 κ' hnm) fun b hb'=>?_))
 rw[hr.own hown]at hb';cases hb'
def yO:List Rw→List Value→List Ob
 |x::xs,v::vs=>x.ob (some v)::yO xs vs
 |_,_=>[]
theorem LJ:∀ {xs:List Rw} {vs:List Value} {j:Nat} {y:Ob},(yO xs vs)[j]?=some y→∃x v,xs[j]?=some x∧vs[j]?=some v∧y=x.ob (some v):=by
 intro xs
 induction xs with
 |nil=>intro vs j y h;simp[yO]at h
 |cons x xs ih=>
  intro vs j y h
  cases vs with
  |nil=>simp[yO]at h
  |cons v vs=>
   cases j with
   |zero=>simp[yO]at h;exact⟨x,v,rfl,rfl,h.symm⟩
   |succ j=>simp only[yO,List.getElem?_cons_succ]at h⊢;exact ih h
theorem VO:∀(xs:List Rw) (vs:List Value),(yO xs vs).length=min xs.length vs.length:=by
 intro xs
 induction xs with
 |nil=>intro vs;simp[yO]
 |cons x xs ih=>intro vs;cases vs with|nil=>simp[yO]|cons v vs=>simp[yO,ih]
def aFn(P:Program)(fn:Func)(vs:List Value)(outs:List Rw)(d:D)(e:Exit)(st:St):Prop:=
 (e=.ret∨e=.normal)∧∃ds,FT P st fn.results.toList=some ds∧ds.all D.flat=true∧BG ds=d∧∀(i:Nat) x v,outs[i]?=some x→vs[i]?=some v→st.H[i]?=some (x.ob (some v))
theorem a30.of{f:FuncId}{fn:Func}{c:Code}{ds:List D}{ins outs:List Rw}{d:D}(hf:P.funcs[f]?=some fn)(hb:fn.body=some c)(hn:(fn.name== "runtime.NumGoroutine")=false)
 (hl:ds.length≤fn.ntmps) (hol:outs.length=ins.length) (hfl:d.flat=true) (h:(∀x∈ins,x.2.length≤maxLen)→∀Γ:uK,Γ.nt=fn.ntmps→∀vs:List Value,vs.length=ins.length→AW P Γ c (aFn P fn vs outs d) ⟨zA 0 ds,yO ins vs⟩):a30 P f ds ins outs d:=by
 refine⟨⟨fn,hf,by simp[hb],hn⟩,hol,hfl,?_⟩
 intro w κ args us XX hlen hargs hko hk1 TZ hnd hwr
 obtain⟨L,hLl,rfl,hLi⟩:=TZ.parts
 have hvs:∃vs:List Value,vs.length=ins.length∧∀(i:Nat) v,vs[i]?=some v→κ i=some v:=by
  have:∀(xs:List Rw) (n:Nat),(∀(i:Nat) x,xs[i]?=some x→∃v,κ (n+i)=some v)→∃vs:List Value,vs.length=xs.length∧∀(i:Nat) v,vs[i]?=some v→κ (n+i)=some v:=by
   intro xs
   induction xs with
   |nil=>intro n _;exact⟨[],rfl,by simp⟩
   |cons x xs ih=>
    intro n h
    obtain⟨v,hv⟩:=h 0 x rfl
    obtain⟨vs,q1,q2⟩:=ih (n+1) (fun i y hy=>by
     obtain⟨v,hv⟩:=h (i+1) y (by simpa using hy)
     exact⟨v,by rw[←hv];congr 1;omega⟩)
    refine⟨v::vs,by simp[q1],?_⟩
    intro i u hu
    cases i with
    |zero=>simp at hu;subst hu;exact hv
    |succ i=>
     have:=q2 i u (by simpa using hu)
     rw[←this];congr 1;omega
  obtain⟨vs,q1,q2⟩:=this ins 0 (fun i x hx=>by
   obtain⟨v,bs,h1,_⟩:=TZ.at i x hx
   exact⟨v,h1⟩)
  exact⟨vs,q1,fun i v hv=>by have:=q2 i v hv;rwa[Nat.zero_add]at this⟩
 obtain⟨vs,hvl,hvk⟩:=hvs
 refine calls_of_wp hf hb ?_
 let Θ:Nat→Nat:=fun b=>match ix (fun x:List Nat=>x.contains b) L with|some i=>i+2|none=>if b<w.heap.size then 1 else 0
 have hΘ:∀(i:Nat) bs b,L[i]?=some bs→b∈bs→Θ b=i+2:=by
  intro i bs b hi hb'
  have:ix (fun x:List Nat=>x.contains b) L=some i:=DC hi (by simpa using hb') (fun j y hj hy=>S2 hnd j i y bs b hj hi (by simpa using hy) hb')
  simp only[Θ,this]
 have aBP:∀b,b∉L.flatten→Θ b=if b<w.heap.size then 1 else 0:=by
  intro b hb'
  simp only[Θ]
  cases h:ix (fun x:List Nat=>x.contains b) L with
  |none=>rfl
  |some i=>
   obtain⟨x,hx,hp⟩:=xI h
   exact absurd (List.mem_flatten.2 ⟨x,List.mem_of_getElem? hx,by simpa using hp⟩) hb'
 have hlt:∀b∈L.flatten,b<w.heap.size:=fun b hb'=>by
  obtain⟨cs,T,hx⟩:=hwr b hb'
  exact(Array.getElem?_eq_some_iff.1 hx).1
 let Γ:uK:=⟨w,Θ,fun b=>b∈L.flatten,fn.ntmps,fun _=>False,XX⟩
 have BN:∀x∈ins,x.2.length≤maxLen:=by
  intro x hx
  obtain⟨i,hi⟩:=List.getElem?_of_mem hx
  obtain⟨v,bs,_,_,hr,_⟩:=TZ.at i x hi
  exact(bR.sl ⟨w,v,bs,hr⟩).1
 have hs:bN Γ ⟨zA 0 ds,yO ins vs⟩ κ Θ {tmps:=args.toArray++Array.replicate (fn.ntmps-args.toArray.size) undef,defers:=[]} w:=by
  refine⟨rfl,?_,fun i hi=>hko i (by rw[VO]at hi;omega),hk1,?_,?_,?_,?_,?_,⟨rfl,rfl,rfl,Nat.le_refl _,fun _ _ _=>rfl⟩,⟨fun _=>0,by simp,?_,?_⟩⟩
  ·simp[Γ];omega
  ·intro t
   rw[FU]
   simp only[Nat.not_lt_zero,if_false,Nat.sub_zero]
   cases hd:ds[t]? with
   |none=>exact⟨[],.of (.any _),by simp⟩
   |some x=>
    obtain⟨v,k1,k2⟩:=hargs t x hd
    refine⟨[],?_,by simp⟩
    have hlt:t<args.length:=(List.getElem?_eq_some_iff.1 k1).1
    have:(args.toArray++Array.replicate (fn.ntmps-args.toArray.size) undef).getD t undef=v:=by
     rw[Array.getD_eq_getD_getElem?,Array.getElem?_append_left (by simpa using hlt)]
     simp[k1]
    rw[this]
    exact k2
  ·intro j o hj
   obtain⟨x,v0,hx,hv0,rfl⟩:=LJ hj
   have hbi:∃bs,L[j]?=some bs:=⟨_,List.getElem?_eq_getElem (by have:=(List.getElem?_eq_some_iff.1 hx).1;omega)⟩
   obtain⟨bs,hbi⟩:=hbi
   obtain⟨v,q1,q2,q3⟩:=hLi j x bs hx hbi
   refine⟨q2,fun y hy=>by cases hy;exact hvk j v0 hv0,v,bs,by rw[←q1];congr 1;omega,q3,TY hnd bs (List.mem_of_getElem? hbi),fun b hb'=>⟨hΘ j bs b hbi hb',hwr b (List.mem_flatten.2 ⟨bs,List.mem_of_getElem? hbi,hb'⟩)⟩⟩
  ·intro b hb'
   by_cases hin:b∈L.flatten
   ·exact hlt b hin
   ·rw[aBP b hin]at hb'
    split at hb'
    ·assumption
    ·exact absurd rfl hb'
  ·intro b hb' hx
   refine⟨rfl,?_⟩
   rw[aBP b hx];split<;>omega
  ·intro b hb'
   by_cases hin:b∈L.flatten
   ·exact .inr hin
   ·rw[aBP b hin]at hb'
    split at hb'<;>omega
  ·intro id e sz rows hj
   obtain⟨x,v0,_,_,h⟩:=LJ hj
   simp[Rw.ob]at h
  ·intro id o hj
   obtain⟨x,v0,_,_,h⟩:=LJ hj
   subst h;exact SJ.yN rfl
 refine wp_mono (h BN Γ rfl vs hvl _ _ _ _ hs) ?_
 rintro e a' w' ⟨st0,κ0,Θ0,hs0,IR,ds0,hres,OA,rfl,hout⟩
 obtain⟨rs,bs',m1,m2,m3,m4,m5⟩:=CF hs0 hres
 have QV:∃v,(results fn a'.tmps).run P w'=.ok v w'∧Rd w' v (BG ds0) []:=by
  have hrun:(results fn a'.tmps).run P w'=.ok (if h:rs.toArray.size=1 then rs.toArray[0]else .tuple rs.toArray) w':=by
   rw[results_eq,Array.mapM_eq_mapM_toList]
   simp[m1]
  match ds0,rs,m2,m3,m4,OA,hfl,hrun with
  | [x],[v],_,_,m4,OA,_,hrun=>
   obtain⟨v',b,k1,k2,_⟩:=m4 0 x rfl
   simp at k1;subst k1
   refine⟨v,by simpa using hrun,?_⟩
   simp only[List.all_cons,List.all_nil,Bool.and_true]at OA
   simp only[BG]
   cases k2 with
   |v k2=>
    cases k2 with
    |cell k2=>
     cases k2 with
     |pure k2=>have:=k2.flat OA;subst this;exact k2
     |_=>simp[D.flat]at OA
    |agg=>simp[D.flat]at OA
   |iJ=>simp[D.flat]at OA
  | [],_,_,_,_,_,hfl,_=>simp[BG,D.flat]at hfl
  |_::_::_,_,_,_,_,_,hfl,_=>simp[BG,D.flat]at hfl
  | [x],[],h1,h2,_,_,_,_=>simp at h1 h2;omega
  | [x],_::_::_,h1,h2,_,_,_,_=>simp at h1 h2;omega
 obtain⟨v,hr1,hr2⟩:=QV
 have B9:∀(i:Nat) x,outs[i]?=some x→∃v bs,κ i=some v∧(∀r∈x.2,r.length=x.1)∧Rd w' v (.sl x.2) bs∧bs.Nodup∧∀b∈bs,Θ0 b=i+2∧Wr w' b:=by
  intro i x hx
  have hlt:i<vs.length:=by have:=(List.getElem?_eq_some_iff.1 hx).1;omega
  obtain⟨q1,q0,v,bs,q2,q3,q4,q5⟩:=hs0.ob i _ (hout i x _ hx (List.getElem?_eq_getElem hlt))
  have e1:=q0 _ rfl
  rw[q2]at e1;cases e1
  exact⟨_,bs,hvk i _ (List.getElem?_eq_getElem hlt),q1,q3,q4,q5⟩
 have hL':∃L':List (List Nat),L'.length=outs.length∧∀(i:Nat) x bs,outs[i]?=some x→L'[i]?=some bs→(∃v,κ i=some v∧(∀r∈x.2,r.length=x.1)∧Rd w' v (.sl x.2) bs)∧bs.Nodup∧∀b∈bs,Θ0 b=i+2∧Wr w' b:=by
  have key:∀(xs:List Rw) (n:Nat),(∀(i:Nat) x,xs[i]?=some x→∃v bs,κ (n+i)=some v∧(∀r∈x.2,r.length=x.1)∧Rd w' v (.sl x.2) bs∧bs.Nodup∧∀b∈bs,Θ0 b=(n+i)+2∧Wr w' b)→
   ∃L':List (List Nat),L'.length=xs.length∧∀(i:Nat) x bs,xs[i]?=some x→L'[i]?=some bs→(∃v,κ (n+i)=some v∧(∀r∈x.2,r.length=x.1)∧Rd w' v (.sl x.2) bs)∧bs.Nodup∧∀b∈bs,Θ0 b=(n+i)+2∧Wr w' b:=by
   intro xs
   induction xs with
   |nil=>intro n _;exact⟨[],rfl,by simp⟩
   |cons x xs ih=>
    intro n h
    obtain⟨v,bs,r1,r2,r3,r4,r5⟩:=h 0 x rfl
    obtain⟨L',q1,q2⟩:=ih (n+1) (fun i y hy=>by
     have:=h (i+1) y (by simpa using hy)
     rw[show n+(i+1)=n+1+i from by omega]at this
     exact this)
    refine⟨bs::L',by simp[q1],?_⟩
    intro i y b hy hb'
    cases i with
    |zero=>simp at hy hb';subst hy;subst hb';exact⟨⟨v,r1,r2,r3⟩,r4,r5⟩
    |succ i=>
     have:=q2 i y b (by simpa using hy) (by simpa using hb')
     rw[show n+1+i=n+(i+1)from by omega]at this
     exact this
  obtain⟨L',q1,q2⟩:=key outs 0 (fun i x hx=>by rw[Nat.zero_add];exact B9 i x hx)
  exact⟨L',q1,fun i x bs hx hb'=>by have:=q2 i x bs hx hb';rwa[Nat.zero_add]at this⟩
 obtain⟨L',aDP,a1d⟩:=hL'
 have a66:∀(i:Nat) bs,L'[i]?=some bs→∃x,outs[i]?=some x:=fun i bs hb'=>⟨_,List.getElem?_eq_getElem (by have:=(List.getElem?_eq_some_iff.1 hb').1;omega)⟩
 have IN:L'.flatten.Nodup:=by
  refine L3 (fun x hx=>?_) (fun i j x y b hi hj hx hy=>?_)
  ·obtain⟨i,hi⟩:=List.getElem?_of_mem hx
   obtain⟨y,h1⟩:=a66 i x hi
   exact(a1d i y x h1 hi).2.1
  ·obtain⟨y1,h1⟩:=a66 i x hi
   obtain⟨y2,h2⟩:=a66 j y hj
   have e1:=((a1d i y1 x h1 hi).2.2 b hx).1
   have e2:=((a1d j y2 y h2 hj).2.2 b hy).1
   omega
 have hbl:∀b∈L'.flatten,2≤Θ0 b∧Wr w' b:=by
  intro b hb'
  obtain⟨x,hx,FR⟩:=List.mem_flatten.1 hb'
  obtain⟨i,hi⟩:=List.getElem?_of_mem hx
  obtain⟨y,h1⟩:=a66 i x hi
  have:=(a1d i y x h1 hi).2.2 b FR
  exact⟨by omega,this.2⟩
 have RT:∀b∈L'.flatten,b∈L.flatten∨w.heap.size≤b:=by
  intro b hb'
  rcases hs0.mine b (hbl b hb').1 with h|h
  ·exact .inr h
  ·exact .inl h
 have post:a'.defers=[]∧∃v,(results fn a'.tmps).run P w'=.ok v w'∧∃u us',Ending.returned v=.returned u∧Rd w' u (BG ds0) []∧BI w' κ 0 outs us'∧us'.Nodup∧(∀b∈us',(b∈L.flatten∨w.heap.size≤b)∧Wr w' b)∧
  w'.os=w.os∧w'.tape=w.tape∧w'.output=w.output∧w.heap.size≤w'.heap.size∧∀b,b<w.heap.size→b∉L.flatten→w'.heap[b]?=w.heap[b]?:=by
  refine⟨hs0.defers,v,hr1,v,L'.flatten,rfl,hr2,BI.of aDP (fun i x bs hx hb'=>?_),IN,fun b hb'=>⟨RT b hb',(hbl b hb').2⟩,hs0.stays.os,hs0.stays.tape,hs0.stays.output,hs0.stays.size,fun b hb' hx=>hs0.stays.block b hb' hx⟩
  obtain⟨⟨v',q1,q2,q3⟩,_⟩:=a1d i x bs hx hb'
  exact⟨v',by rw[Nat.zero_add];exact q1,q2,q3⟩
 rcases IR with rfl|rfl
 ·exact post
 ·exact post
end
end Go.Cx
namespace Go.Cx
set_option linter.unusedVariables false
set_option linter.unusedSimpArgs false
open Go.RowKit
section
variable{P:Program}{Γ:uK}{Q:Exit→St→Prop}{st:St}{κ κ':Nat→Option Value}{Θ Θ':Nat→Nat}{a:Act}{w w':World}{all:Array Oper}{rest:List Oper}
theorem bN.a1e(hs:bN Γ st κ Θ a w)(ms:List Nat){H':List Ob}(h1:w'.os=w.os)(h2:w'.tape=w.tape)(h3:w'.output=w.output)(h4:w.heap.size≤w'.heap.size)
 (U0:∀b,b<w.heap.size→(∀m∈ms,Θ b≠m+2)→w'.heap[b]?=w.heap[b]?) (aBQ:∀b,b<w.heap.size→(∀m∈ms,Θ b≠m+2)→Θ' b=Θ b) (hown:∀b,Θ' b≠0→b<w'.heap.size)
 (hm:∀b,2≤Θ' b→BM Γ b) (hn:∀(j:Nat) v,κ j=some v→κ' j=some v) (hko:∀i,H'.length≤i→κ' i=none) (hk1:∀(i:Nat) u,κ' i=some u→u.oneCell'=true)
 (B9:∀(j:Nat) y,H'[j]?=some y→y=.gone∨(j∉ms∧st.H[j]?=some y)∨(w9 w' κ' Θ' j y∧y.uqB=false)):bN Γ ⟨st.σ,H'⟩ κ' Θ' a w':=by
 have hs1:=hs.forget ms
 have hin:∀b,(ms.any (fun m=>Θ b==m+2))=false→∀m∈ms,Θ b≠m+2:=by
  intro b h m hm' he
  have:ms.any (fun m=>Θ b==m+2)=true:=List.any_eq_true.2 ⟨m,hm',by simp[he]⟩
  rw[h]at this;cases this
 have hlt2:∀b,(if ms.any (fun m=>Θ b==m+2)then st.H.length+2 else Θ b)≠st.H.length+2→(ms.any (fun m=>Θ b==m+2))=false:=by
  intro b h
  cases hc:ms.any (fun m=>Θ b==m+2)with
  |false=>rfl
  |true=>simp[hc]at h
 have kk:fD w w' (fun b=>if ms.any (fun m=>Θ b==m+2)then st.H.length+2 else Θ b) Θ' (st.H.length+2):=by
  refine⟨by omega,h1,h2,h3,h4,fun b hb hne=>U0 b hb (hin b (hlt2 b hne)),fun b hb hne=>?_,hown⟩
  have hc:=hlt2 b hne
  rw[aBQ b hb (hin b hc)]
  simp[hc]
 obtain⟨ρ,hu⟩:=hs1.tC
 have uB:=hs1.nO kk hn hu
 refine hs1.step kk hm hn hko hk1 (fun j y hj=>?_) ⟨ρ,uB.1,fun id e sz rows hj=>?_,fun id y hj=>?_⟩
 ·rcases B9 j y hj with h|⟨h,hy⟩|⟨h,_⟩
  ·exact .inl h
  ·have:=(List.getElem?_eq_some_iff.1 hy).1
   exact .inr (.inl ⟨by omega,by rw[fF h];exact hy⟩)
  ·exact .inr (.inr h)
 ·rcases B9 id _ hj with h|⟨h,hy⟩|⟨_,h⟩
  ·cases h
  ·have:=(List.getElem?_eq_some_iff.1 hy).1
   exact uB.2.1 id e sz rows (by omega) (by rw[fF h];exact hy)
  ·simp[Ob.uqB]at h
 ·rcases B9 id _ hj with h|⟨h,hy⟩|⟨_,h⟩
  ·subst h;trivial
  ·have:=(List.getElem?_eq_some_iff.1 hy).1
   exact uB.2.2 id y (by omega) (by rw[fF h];exact hy)
  ·exact SJ.plain h
theorem Rd.aBR{v:Value}{rows:List (List D)}{bs:List Nat}(h:Rd w v (.sl rows) bs):(∃q c,v=.slice q rows.length c)∧rows.length≤maxLen:=by
 cases h with
 |z6=>exact⟨⟨_,_,rfl⟩,by simp⟩
 |mT=>exact⟨⟨_,_,rfl⟩,by simp⟩
 |sl b off cap sz _ cs bs hb h1 h2=>exact⟨⟨_,_,rfl⟩,by omega⟩
theorem a8q{o:Oper}{t T id sz:Nat}{x:Operand}{rows:List (List D)}{u:Option Value}(hop:o.op=.call {callee:=.builtin .len,args:= #[x],argTypes:= #[T]})(hd:o.dst=some t)(hg:o.guard=none)(ht:t<Γ.nt)
 (hT:(IG P T).isSome=true) (hx:st.ev x=.acc id) (hH:st.H[id]?=some (.w8 sz rows u)) (h:AO P Γ all rest Q ⟨(t,.int .i64 rows.length)::st.σ,st.H⟩):AO P Γ all (o::rest) Q st:=by
 intro κ Θ a w hs
 obtain⟨b1,r1,_⟩:=hs.ev x
 rw[hx]at r1
 obtain⟨hk,_⟩:=r1.vC
 obtain⟨_,_,v,bs,hk2,hrd,_⟩:=hs.ob id _ hH
 rw[hk]at hk2;cases hk2
 obtain⟨⟨q,c,hv⟩,BN⟩:=hrd.aBR
 obtain⟨⟨e,sz'⟩,hT⟩:=Option.isSome_iff_exists.1 hT
 obtain⟨hu,_,_⟩:=n8 hT
 refine wpList_plain hg fun K hK=>?_
 unfold Oper.wp
 have hrun:(execOp a.eval o).run P w=.ok (.value (.int .i64 rows.length)) w:=by
  simp only[execOp,hop,resolve,invoke,builtin,List.map_toArray,List.map_cons,List.map_nil,hv]
  simp[Builtin.len_,run_underlying hu,goInt]
 rw[hrun,Oper.upon_value,hd]
 exact hK _ _ (h κ Θ _ w (hs.set (d:=.int .i64 rows.length) (bs:=[]) ht (.of (.int _ _ (XB BN))) (by simp)))
theorem aBS{o:Oper}{t T id sz e m:Nat}{x i:Operand}{rows:List (List D)}{u:Option Value}{k:IntKind}{n:Int}(hop:o.op=.indexAddr T x i)(hd:o.dst=some t)(hg:o.guard=none)(ht:t<Γ.nt)
 (hT:IG P T=some (e,sz)) (hx:st.ev x=.acc id) (hi:st.ev i=.int k n) (hH:st.H[id]?=some (.w8 sz rows u)) (hn:n=(m:Int)) (hm:m<rows.length) (h:AO P Γ all rest Q ⟨(t,.op id m sz 0)::st.σ,st.H⟩):AO P Γ all (o::rest) Q st:=by
 intro κ Θ a w hs
 obtain⟨b1,r1,_⟩:=hs.ev x
 obtain⟨b2,r2,_⟩:=hs.ev i
 rw[hx]at r1
 rw[hi]at r2
 have hiv:=r2.pG
 obtain⟨hk,_⟩:=r1.vC
 obtain⟨_,_,v,bs,hk2,hrd,_⟩:=hs.ob id _ hH
 rw[hk]at hk2;cases hk2
 obtain⟨hu,QO,O3⟩:=n8 hT
 have hsz:=uM (P:=P) QO w
 subst hn
 generalize hvx:a.eval x=vx at hrd hk
 cases hrd with
 |z6=>simp at hm
 |mT=>simp at hm
 |sl b off cap sz' _ cs bs hb hcap BN hrl hc sN=>
  have hn':0≤(m:Int)∧(m:Int)<(rows.length:Int):=⟨by omega,by omega⟩
  refine wpList_plain hg fun K hK=>?_
  unfold Oper.wp
  have hrun:(execOp a.eval o).run P w=.ok (.value (.pointer (some ⟨b,off+(m*sz+0),none⟩))) w:=by
   simp only[execOp,hop,hvx,hiv]
   simp[Instr.indexAt,asIntOf,run_underlying hu,hn',hm,hsz,O3,Addr.add_lit]
  rw[hrun,Oper.upon_value,hd]
  exact hK _ _ (h κ Θ _ w (hs.set (d:=.op id m sz 0) (bs:=[]) ht (yK.op id m sz 0 b off _ _ hk).XC (by simp)))
theorem TA{rows:List (List D)}{sz i off:Nat}{r:List D}{d:D}(hrl:∀r∈rows,r.length=sz)(hr:rows[i]?=some r)(hd:r[off]?=some d):rows.flatten[i*sz+off]?=some d∧off<sz∧i*sz+off<rows.length*sz:=by
 have h1:=hrl r (List.mem_of_getElem? hr)
 have h2:=(List.getElem?_eq_some_iff.1 hd).1
 have hmid:=FI hrl hr
 have hlt:=(List.getElem?_eq_some_iff.1 hr).1
 have hle:(i+1)*sz≤rows.length*sz:=Nat.mul_le_mul_right _ hlt
 rw[Nat.add_mul,Nat.one_mul]at hle
 refine⟨?_,by omega,by omega⟩
 rw[←hmid,List.getElem?_take,if_pos (by omega),List.getElem?_drop]at hd
 exact hd
theorem a69{o:Oper}{t T id i sz off:Nat}{x:Operand}{rows:List (List D)}{r:List D}{d:D}{u:Option Value}(hop:o.op=.load T x)(hd:o.dst=some t)(hg:o.guard=none)(ht:t<Γ.nt)
 (hT:zP P T=some false) (hx:st.ev x=.op id i sz off) (hH:st.H[id]?=some (.w8 sz rows u)) (hr:rows[i]?=some r) (hc:r[off]?=some d) (hfl:d.flat=true) (h:AO P Γ all rest Q ⟨(t,d)::st.σ,st.H⟩):AO P Γ all (o::rest) Q st:=by
 intro κ Θ a w hs
 obtain⟨b1,r1,_⟩:=hs.ev x
 rw[hx]at r1
 obtain⟨g,o0,len,a8r,hk,hv⟩:=r1.FJ
 obtain⟨hrl,_,v,bs,hk2,hrd,_⟩:=hs.ob id _ hH
 rw[hk]at hk2;cases hk2
 obtain⟨hf,_,_⟩:=TA hrl hr hc
 cases hrd with
 |mT=>simp at hr
 |sl _ _ _ sz' _ cs ns hb hcap BN SN hcs sN=>
  obtain⟨c,b',h1,h2,h3,h4⟩:=sN.at hf
  have L:=nN (P:=P) (w:=w) hT (o:=i*sz+off) hcs
  have hb':=h3.flat hfl
  subst hb'
  refine wpList_plain hg fun K hK=>?_
  unfold Oper.wp
  have hrun:(execOp a.eval o).run P w=.ok (.value c) w:=by
   simp only[execOp,hop,hv]
   simp[L.2 rfl c h1]
  rw[hrun,Oper.upon_value,hd]
  exact hK _ _ (h κ Θ _ w (hs.set (d:=d) (bs:=[]) ht (.of h3) (by simp)))
theorem jN.aDT{vs:List Value}{ds:List D}{bs:List Nat}(h:jN w vs ds bs){p:Nat}{d:D}(hd:ds[p]?=some d):
 ∃c b1 b2 b3,vs[p]?=some c∧c.oneCell'=true∧Rd w c d b2∧bs=b1++(b2++b3)∧∀(e:D) (b4:List Nat),Rd w c e b4→jN w vs (ds.set p e) (b1++(b4++b3)):=by
 obtain⟨l,r,rfl,hl⟩:=WA hd
 obtain⟨v1,v2,c1,c2,rfl,rfl,k1,k2⟩:=h.split
 cases k2 with
 |cons c vs _ _ b2 b3 h1 h2 h3=>
  have hl1:v1.length=p:=by rw[k1.length];exact hl
  refine⟨c,c1,b2,b3,by rw[List.getElem?_append_right (by omega),hl1];simp,h1,h2,rfl,fun e b4 he=>?_⟩
  have e1:(l++d::r).set p e=l++e::r:=by rw[List.set_append_right _ _ (by omega),hl];simp
  rw[e1]
  exact k1.app (.cons _ _ _ _ _ _ h1 he h3)
theorem OC{rows:List (List D)}{sz i off:Nat}{r:List D}{d e:D}(hrl:∀r∈rows,r.length=sz)(hr:rows[i]?=some r)(hd:r[off]?=some d):(rows.set i (r.set off e)).flatten=rows.flatten.set (i*sz+off) e:=by
 have hlt:=(List.getElem?_eq_some_iff.1 hd).1
 have h1:=hrl r (List.mem_of_getElem? hr)
 have:=FP (rows:=rows) (sz:=sz) (i:=i) (off:=off) (row:=r) (ds:=[e]) hrl hr (by simp;omega)
 have e1:r.set off e=r.take off++[e]++r.drop (off+[e].length):=by
  apply List.ext_getElem?
  intro j
  rw[List.getElem?_set]
  simp only[List.append_assoc,List.singleton_append,List.length_cons,List.length_nil,Nat.zero_add]
  by_cases hj:j<off
  ·rw[if_neg (by omega),List.getElem?_append_left (by simp;omega),List.getElem?_take,if_pos hj]
  ·rw[List.getElem?_append_right (by simp;omega),List.length_take,Nat.min_eq_left (by omega)]
   by_cases he:off=j
   ·subst he;simp[hlt]
   ·rw[if_neg he]
    obtain⟨m,hm⟩:∃m,j-off=m+1:=⟨j-off-1,by omega⟩
    rw[hm,List.getElem?_cons_succ,List.getElem?_drop]
    congr 1;omega
 rw[e1,this]
 have hfl:=mW hrl
 obtain⟨hf,_,hlt2⟩:=TA hrl hr hd
 apply List.ext_getElem?
 intro j
 rw[List.getElem?_set]
 simp only[List.append_assoc,List.singleton_append,List.length_cons,List.length_nil,Nat.zero_add]
 by_cases hj:j<i*sz+off
 ·rw[if_neg (by omega),List.getElem?_append_left (by rw[List.length_take];omega),List.getElem?_take,if_pos hj]
 ·rw[List.getElem?_append_right (by rw[List.length_take];omega),List.length_take,Nat.min_eq_left (by omega)]
  by_cases he:i*sz+off=j
  ·subst he;rw[if_pos rfl,if_pos (by omega),Nat.sub_self];rfl
  ·rw[if_neg he]
   obtain⟨m,hm⟩:∃m,j-(i*sz+off)=m+1:=⟨j-(i*sz+off)-1,by omega⟩
   rw[hm,List.getElem?_cons_succ,List.getElem?_drop]
   congr 1;omega
theorem TB{rows:List (List D)}{sz i:Nat}{r:List D}(hrl:∀r∈rows,r.length=sz)(hr:r.length=sz):∀x∈rows.set i r,x.length=sz:=by
 intro x hx
 rcases List.mem_or_eq_of_mem_set hx with hx|rfl
 ·exact hrl x hx
 ·exact hr
theorem a6A{o:Oper}{t T id i sz off sz2:Nat}{x:Operand}{rows cI:List (List D)}{r:List D}{u:Option Value}(hop:o.op=.load T x)(hd:o.dst=some t)(hg:o.guard=none)(ht:t<Γ.nt)
 (hT:zP P T=some false) (hx:st.ev x=.op id i sz off) (hH:st.H[id]?=some (.w8 sz rows u)) (hr:rows[i]?=some r) (hc:r[off]?=some (.sl cI)) (h2:∀q∈cI,q.length=sz2)
 (h:AO P Γ all rest Q ⟨(t,.acc st.H.length)::st.σ,st.H.set id (.hole sz (rows.set i (r.set off .any)) u (i*sz+off) st.H.length)++[.w8 sz2 cI none]⟩):AO P Γ all (o::rest) Q st:=by
 intro κ Θ a w hs
 obtain⟨b1,r1,_⟩:=hs.ev x
 rw[hx]at r1
 obtain⟨g,o0,len,a8r,hk,hv⟩:=r1.FJ
 obtain⟨hrl,hux,v,bs,hk2,hrd,hnd,FM⟩:=hs.ob id _ hH
 rw[hk]at hk2;cases hk2
 obtain⟨hf,hoff,_⟩:=TA hrl hr hc
 cases hrd with
 |mT=>simp at hr
 |sl _ _ _ sz' _ cs ns hb hcap BN SN hcs sN=>
  obtain⟨c,c1,c2,c3,h1,h1c,h3,rfl,qT⟩:=sN.aDT hf
  have L:=nN (P:=P) (w:=w) hT (o:=i*sz+off) hcs
  have aDU:id<st.H.length:=(List.getElem?_eq_some_iff.1 hH).1
  have hnew:=qT .any [] (.any c)
  have IN:=hnd
  simp only[List.nodup_cons,List.mem_append,not_or]at IN
  obtain⟨⟨hg1,hg2,hg3⟩,QU⟩:=IN
  obtain⟨n1,n2,n3⟩:=List.nodup_append.1 QU
  obtain⟨n4,n5,n6⟩:=List.nodup_append.1 n2
  let Θ':Nat→Nat:=fun b=>if b∈c2 then st.H.length+2 else Θ b
  have hs':bN Γ ⟨st.σ,st.H.set id (.hole sz (rows.set i (r.set off .any)) u (i*sz+off) st.H.length)++[.w8 sz2 cI none]⟩ (yM κ st.H.length (some c)) Θ' a w:=by
   have hn:=xH (hs.oG _ (Nat.le_refl _)) (some c)
   have VN:∀b∈c2,Θ b=id+2:=fun b hb'=>(FM b (by simp[hb'])).1
   refine hs.a1e [id] rfl rfl rfl (Nat.le_refl _) (fun _ _ _=>rfl) (fun b _ hne=>?_) (fun b hb'=>?_) (fun b hb'=>?_) hn (fun j hj=>?_) (fun j y hy=>?_) (fun j y hj=>?_)
   ·simp only[Θ']
    rw[if_neg]
    intro hin
    exact hne id (by simp) (VN b hin)
   ·simp only[Θ']at hb'
    split at hb'
    ·rename_i hin
     exact hs.own b (by rw[VN b hin];omega)
    ·exact hs.own b hb'
   ·simp only[Θ']at hb'
    split at hb'
    ·rename_i hin
     exact hs.mine b (by rw[VN b hin];omega)
    ·exact hs.mine b hb'
   ·simp only[List.length_append,List.length_set,List.length_cons,List.length_nil]at hj
    unfold yM
    rw[if_neg (by omega)]
    exact hs.oG j (by omega)
   ·unfold yM at hy
    split at hy
    ·cases hy;exact h1c
    ·exact hs.o4 j y hy
   ·rcases CD j y hj with⟨hjl,rfl⟩|⟨hjl,hy⟩
    ·right;right
     have hjn:j=st.H.length:=by rw[hjl];simp
     subst hjn
     refine⟨⟨h2,by simp,c,c2,iN _ _ _,h3,n4,fun b hb'=>⟨by simp[Θ',hb'],(FM b (by simp[hb'])).2⟩⟩,rfl⟩
    ·rcases zS j y hy with⟨rfl,rfl⟩|⟨hne,hy'⟩
     ·right;right
      refine⟨⟨TB hrl (by rw[List.length_set];exact hrl r (List.mem_of_getElem? hr)),fun z hz=>hn _ _ (hux z hz),_,g::(c1++([]++c3)),hn _ _ hk,⟨g,o0,a8r,cs,c1++([]++c3),by simp,hb,by simpa using hcap,BN,hcs,?_,rfl,c,h1,iN _ _ _⟩,?_,fun b hb'=>?_⟩,rfl⟩
      ·rw[OC hrl hr hc];exact hnew
      ·simp only[List.nil_append,List.nodup_cons,List.mem_append,not_or]
       exact⟨⟨hg1,hg3⟩,List.nodup_append.2 ⟨n1,n5,fun x hx y hy e=>n3 x hx y (by simp[hy]) e⟩⟩
      ·have hbm:b∈g::(c1++(c2++c3)):=by
        simp only[List.nil_append,List.mem_cons,List.mem_append]at hb'⊢
        rcases hb' with h|h|h<;>simp[h]
       refine⟨?_,(FM b hbm).2⟩
       simp only[Θ']
       rw[if_neg,(FM b hbm).1]
       intro hin
       simp only[List.nil_append,List.mem_cons,List.mem_append]at hb'
       rcases hb' with h|h|h
       ·subst h;exact hg2 hin
       ·exact n3 b h b (by simp[hin]) rfl
       ·exact n6 b hin b h rfl
     ·exact .inr (.inl ⟨by simpa using hne,hy'⟩)
  refine wpList_plain hg fun K hK=>?_
  unfold Oper.wp
  have hrun:(execOp a.eval o).run P w=.ok (.value c) w:=by
   simp only[execOp,hop,hv]
   simp[L.2 rfl c h1]
  rw[hrun,Oper.upon_value,hd]
  exact hK _ _ (h _ _ _ w (hs'.set (d:=.acc st.H.length) (bs:=[]) ht (yK.acc st.H.length c (iN _ _ _)).XC (by simp)))
theorem a6B{id n i sz off sz2:Nat}{rows cI:List (List D)}{r:List D}{d:D}{u u2:Option Value}(hH:st.H[id]?=some (.hole sz rows u (i*sz+off) n))(hN:st.H[n]?=some (.w8 sz2 cI u2))(hr:rows[i]?=some r)(hc:r[off]?=some d)
 (h:AO P Γ all rest Q ⟨st.σ,(st.H.set n .gone).set id (.w8 sz (rows.set i (r.set off (.sl cI))) u)⟩):AO P Γ all rest Q st:=by
 intro κ Θ a w hs
 obtain⟨hrl,hux,v,bs,hk,⟨b,o0,cap,cs,ns,rfl,h1,h2,h3,h4,h5,rfl,c,h6,h7⟩,hnd,FM⟩:=hs.ob id _ hH
 obtain⟨aIC,_,v2,bs2,hk2,aFp,aFq,a6C⟩:=hs.ob n _ hN
 rw[h7]at hk2;cases hk2
 obtain⟨hf,hoff,_⟩:=TA hrl hr hc
 obtain⟨c',c1,c2,c3,q1,q1c,q3,rfl,qT⟩:=h5.aDT hf
 rw[h6]at q1;cases q1
 have hnew:=qT (.sl cI) bs2 aFp
 have hne:n≠id:=fun e=>by subst e;rw[hH]at hN;cases hN
 have aDU:id<st.H.length:=(List.getElem?_eq_some_iff.1 hH).1
 have IN:=hnd
 simp only[List.nodup_cons,List.mem_append,not_or]at IN
 obtain⟨⟨hg1,hg2,hg3⟩,QU⟩:=IN
 obtain⟨n1,n2,n3⟩:=List.nodup_append.1 QU
 obtain⟨n4,n5,n6⟩:=List.nodup_append.1 n2
 have aBT:∀x∈bs2,∀y∈b::(c1++(c2++c3)),x≠y:=by
  intro x hx y hy e
  subst e
  have e1:=(a6C x hx).1
  have e2:=(FM x hy).1
  omega
 let Θ':Nat→Nat:=fun x=>if x∈bs2 then id+2 else if Θ x=n+2 then 1 else Θ x
 refine h κ Θ' a w (hs.a1e [id,n] rfl rfl rfl (Nat.le_refl _) (fun _ _ _=>rfl) (fun x _ hnx=>?_) (fun x hx=>?_) (fun x hx=>?_) (fun _ _ h=>h) (fun j hj=>hs.oG j (by simpa using hj)) hs.o4 (fun j y hj=>?_))
 ·simp only[Θ']
  rw[if_neg (fun hin=>hnx n (by simp) (a6C x hin).1),if_neg (hnx n (by simp))]
 ·simp only[Θ']at hx
  split at hx
  ·rename_i hin;exact hs.own x (by rw[(a6C x hin).1];omega)
  ·split at hx
   ·rename_i he;exact hs.own x (by rw[he];omega)
   ·exact hs.own x hx
 ·simp only[Θ']at hx
  split at hx
  ·rename_i hin;exact hs.mine x (by rw[(a6C x hin).1];omega)
  ·split at hx
   ·omega
   ·exact hs.mine x hx
 ·rcases zS j y hj with⟨rfl,rfl⟩|⟨KY,hy⟩
  ·right;right
   refine⟨⟨TB hrl (by rw[List.length_set];exact hrl r (List.mem_of_getElem? hr)),hux,_,b::(c1++(bs2++c3)),hk,?_,?_,fun x hx=>?_⟩,rfl⟩
   ·have hl:(rows.set i (r.set off (.sl cI))).length=rows.length:=by simp
    have:=Rd.sl (w:=w) b o0 cap sz (rows.set i (r.set off (.sl cI))) cs (c1++(bs2++c3)) h1 (by rw[hl];exact h2) h3 (TB hrl (by rw[List.length_set];exact hrl r (List.mem_of_getElem? hr))) h4 (by rw[OC hrl hr hc];exact hnew)
    rw[hl]at this;exact this
   ·simp only[List.nodup_cons,List.mem_append,not_or]
    refine⟨⟨hg1,fun hin=>aBT b hin b (by simp) rfl,hg3⟩,List.nodup_append.2 ⟨n1,List.nodup_append.2 ⟨aFq,n5,fun x hx y hy e=>aBT x hx y (by simp[hy]) e⟩,fun x hx y hy e=>?_⟩⟩
    rcases List.mem_append.1 hy with hy|hy
    ·exact aBT y hy x (by simp[hx]) e.symm
    ·exact n3 x hx y (by simp[hy]) e
   ·by_cases hin:x∈bs2
    ·exact⟨by simp[Θ',hin],(a6C x hin).2⟩
    ·have hbm:x∈b::(c1++(c2++c3)):=by
      simp only[List.mem_cons,List.mem_append]at hx⊢
      rcases hx with h|h|h|h
      ·simp[h]
      ·simp[h]
      ·exact absurd h hin
      ·simp[h]
     refine⟨?_,(FM x hbm).2⟩
     have e1:=(FM x hbm).1
     simp only[Θ']
     rw[if_neg hin,if_neg (by omega),e1]
  ·rcases zS j y hy with⟨rfl,rfl⟩|⟨hj2,hy'⟩
   ·exact .inl rfl
   ·exact .inr (.inl ⟨by simp[KY,hj2],hy'⟩)
theorem jN.setCells{vs:List Value}{ds es:List D}{us:List Value}{bs:List Nat}(h:jN w vs ds bs)(p:Nat)(hp:p+es.length≤ds.length)(hu:jN w us es []):
 ∃b',jN w (vs.take p++us++vs.drop (p+us.length)) (ds.take p++es++ds.drop (p+es.length)) b'∧(∀b∈b',b∈bs)∧(bs.Nodup→b'.Nodup):=by
 have e:ds=ds.take p++((ds.drop p).take es.length++(ds.drop p).drop es.length):=by rw[List.take_append_drop,List.take_append_drop]
 rw[e]at h
 obtain⟨v1,v2,b1,b2,rfl,rfl,k1,k2⟩:=h.split
 obtain⟨v3,v4,b3,b4,rfl,rfl,k3,k4⟩:=k2.split
 have l1:v1.length=p:=by rw[k1.length];simp;omega
 have l3:v3.length=es.length:=by rw[k3.length];simp;omega
 have lu:=hu.length
 have t1:(v1++(v3++v4)).take p=v1:=List.take_left' l1
 have t2:(v1++(v3++v4)).drop (p+us.length)=v4:=by
  rw[←List.drop_drop,List.drop_left' l1,lu,List.drop_left' l3]
 rw[t1,t2]
 rw[List.drop_drop]at k4
 refine⟨b1++[]++b4,(k1.app hu).app k4,fun b hb=>?_,fun hnd=>?_⟩
 ·simp only[List.append_nil,List.mem_append]at hb⊢
  rcases hb with h|h<;>simp[h]
 ·obtain⟨n1,n2,n3⟩:=List.nodup_append.1 hnd
  obtain⟨_,n5,_⟩:=List.nodup_append.1 n2
  simp only[List.append_nil]
  exact List.nodup_append.2 ⟨n1,n5,fun x hx y hy e=>n3 x hx y (by simp[hy]) e⟩
theorem a4A{o:Oper}{T id i sz off:Nat}{x y:Operand}{rows:List (List D)}{r ds:List D}{u:Option Value}(hop:o.op=.store T x y)(hd:o.dst=none)(hg:o.guard=none)
 (hx:st.ev x=.op id i sz off) (hH:st.H[id]?=some (.w8 sz rows u)) (hr:rows[i]?=some r) (hc:(st.ev y).cellsOf=some ds) (hfl:ds.all D.flat=true) (hT:XJ P T=true) (hl:ds.length=A6 P T) (hpos:0<ds.length) (hfit:off+ds.length≤sz)
 (h:AO P Γ all rest Q ⟨st.σ,st.H.set id (.w8 sz (rows.set i (r.take off++ds++r.drop (off+ds.length))) u)⟩):AO P Γ all (o::rest) Q st:=by
 intro κ Θ a w hs
 obtain⟨b1,r1,_⟩:=hs.ev x
 obtain⟨b2,r2,_⟩:=hs.ev y
 rw[hx]at r1
 obtain⟨g,o0,len,a8r,hk,hv⟩:=r1.FJ
 obtain⟨hrl,hux,v,bs,hk2,hrd,hnd,FM⟩:=hs.ob id _ hH
 rw[hk]at hk2;cases hk2
 have a6D:=CB hs.o4 r2 hc
 have hl1:=a6D.length
 have aFr:ds.all D.ZA=true:=by
  rw[List.all_eq_true]at hfl⊢
  intro d NW
  have:=hfl d NW
  cases d<;>first|rfl| (simp[D.flat]at this)
 have hcp:=a6D.pure aFr
 have hb2:=hcp.flat hfl
 subst hb2
 have hrow:=hrl r (List.mem_of_getElem? hr)
 have hilt:=(List.getElem?_eq_some_iff.1 hr).1
 have aBD:(i+1)*sz≤rows.length*sz:=Nat.mul_le_mul_right _ hilt
 rw[Nat.add_mul,Nat.one_mul]at aBD
 cases hrd with
 |mT=>simp at hr
 |sl _ _ _ sz' _ cs ns hb hcap BN SN hcs sN=>
  obtain⟨hgT,hgw⟩:=FM g (by simp)
  obtain⟨cur,Tb,hgc⟩:=hgw
  have aDW:=mW hrl
  have hcl:cs.length=rows.length*sz:=by rw[sN.length,aDW]
  have TN:∀j c,cs[j]?=some c→cur[o0+j]?=some c:=by
   intro j c hj
   have:=hcs j c hj
   simpa[World.cell?,hgc]using this
  have aDX:o0+(i*sz+off)+(a.eval y).cells.size≤cur.size:=by
   have e1:(a.eval y).cells.size=ds.length:=by rw[←hl1];simp
   rw[e1]
   have:=TN (i*sz+off+ds.length-1) cs[i*sz+off+ds.length-1] (List.getElem?_eq_getElem (by omega))
   have:=(Array.getElem?_eq_some_iff.1 this).1
   omega
  have aBE:(a.eval y).cells.size=A6 P T:=by rw[←hl,←hl1];simp
  have hst:=FO (P:=P) (T:=T) (off:=o0+(i*sz+off)) hgc aBE (Option.isSome_iff_exists.1 hT) aDX a6D.one
  have hne:(a.eval y).cells.toList.length=ds.length:=hl1
  let SR:Array Value:=(cur.toList.take (o0+(i*sz+off))++(a.eval y).cells.toList++cur.toList.drop (o0+(i*sz+off)+(a.eval y).cells.toList.length)).toArray
  have hw':∀x,x≠g→(w.setRow g SR).heap[x]?=w.heap[x]?:=fun x hx=>setRow_other w g x _ hx
  have hsame:∀x,x<w.heap.size→(∀m∈[id],Θ x≠m+2)→(w.setRow g SR).heap[x]?=w.heap[x]?:=fun x _ hx=>hw' x (fun e=>hx id (by simp) (by rw[e];exact hgT))
  simp only[List.nodup_cons]at hnd
  have aFs:jN (w.setRow g SR) cs rows.flatten ns:=sN.keep fun b hb'=>hw' b (fun e=>hnd.1 (e▸hb'))
  have aFt:jN (w.setRow g SR) (a.eval y).cells.toList ds []:=hcp.keep (by simp)
  obtain⟨ns',q1,q2,q3⟩:=aFs.setCells (i*sz+off) (by rw[aDW];omega) aFt
  have hfs:=FP (ds:=ds) (off:=off) hrl hr hfit
  have hl4:(rows.set i (r.take off++ds++r.drop (off+ds.length))).length=rows.length:=by simp
  have aDY:∀z∈rows.set i (r.take off++ds++r.drop (off+ds.length)),z.length=sz:=TB hrl (by simp;omega)
  have hcell:∀j c,(cs.take (i*sz+off)++(a.eval y).cells.toList++cs.drop (i*sz+off+(a.eval y).cells.toList.length))[j]?=some c→(w.setRow g SR).cell? ⟨g,o0+j,none⟩=some c:=by
   intro j c hj
   have hgh:(w.setRow g SR).heap[g]?=some (.cells SR Tb (0,0)):=setRow_heap w g cur _ Tb _ hgc
   simp only[World.cell?,hgh]
   show SR[o0+j]?=some c
   simp only[SR,List.getElem?_toArray,List.append_assoc]at hj⊢
   have hcz:o0+(i*sz+off)≤cur.toList.length:=by simp;omega
   by_cases KY:j<i*sz+off
   ·rw[List.getElem?_append_left (by simp;omega),List.getElem?_take,if_pos KY]at hj
    rw[List.getElem?_append_left (by rw[List.length_take];omega),List.getElem?_take,if_pos (by omega)]
    have:=TN j c hj
    simpa using this
   ·rw[List.getElem?_append_right (by rw[List.length_take];omega),List.length_take,Nat.min_eq_left (by omega)]at hj
    rw[List.getElem?_append_right (by rw[List.length_take];omega),List.length_take,Nat.min_eq_left hcz]
    rw[show o0+j-(o0+(i*sz+off))=j-(i*sz+off)from by omega]
    by_cases hj2:j-(i*sz+off)<(a.eval y).cells.toList.length
    ·rw[List.getElem?_append_left hj2]at hj⊢
     exact hj
    ·rw[List.getElem?_append_right (by omega),List.getElem?_drop]at hj⊢
     have:=TN _ c hj
     rw[←Array.getElem?_toList]at this
     rw[←this];congr 1;omega
  refine wpList_plain hg fun K hK=>?_
  unfold Oper.wp
  have hrun:(execOp a.eval o).run P w=.ok .skip (w.setRow g SR):=by
   simp only[execOp,hop,hv]
   simp[hst,SR]
  rw[hrun,Oper.upon_skip,hd]
  refine hK _ _ (h κ Θ _ _ (hs.a1e [id] rfl rfl rfl (by simp) hsame (fun _ _ _=>rfl) (fun b hb'=>by simpa using hs.own b hb') hs.mine (fun _ _ h=>h) (fun j hj=>hs.oG j (by simpa using hj)) hs.o4 (fun j z hj=>?_)))
  rcases zS j z hj with⟨rfl,rfl⟩|⟨KY,hz⟩
  ·right;right
   refine⟨⟨aDY,hux,_,g::ns',hk,?_,?_,fun b hb'=>?_⟩,rfl⟩
   ·have:=Rd.sl (w:=w.setRow g SR) g o0 a8r sz (rows.set i (r.take off++ds++r.drop (off+ds.length))) _ ns' (by simpa using hb) (by rw[hl4];exact hcap) BN aDY hcell (by rw[hfs];exact q1)
    rw[hl4]at this;exact this
   ·simp only[List.nodup_cons]
    exact⟨fun hin=>hnd.1 (q2 g hin),q3 hnd.2⟩
   ·rcases List.mem_cons.1 hb' with rfl|hin
    ·exact⟨hgT,⟨_,Tb,setRow_heap w b cur _ Tb _ hgc⟩⟩
    ·have hm:=FM b (by simp[q2 b hin])
     refine⟨hm.1,?_⟩
     obtain⟨xs,T',hxs⟩:=hm.2
     exact⟨xs,T',(hw' b (fun e=>hnd.1 (e▸q2 b hin))).trans hxs⟩
  ·exact .inr (.inl ⟨by simpa using KY,hz⟩)
end
end Go.Cx
namespace Go.Cx
set_option linter.unusedVariables false
set_option linter.unusedSimpArgs false
open Go.RowKit
def L4(P:Program)(f:FuncId)(ds:List D)(e sz:Nat)(rows bG:List (List D)):Prop:=
 (∃fn,P.funcs[f]?=some fn∧fn.body.isSome=true∧(fn.name== "runtime.NumGoroutine")=false)∧
 ∀(w:World) (κ:Nat→Option Value) (args:List Value) (v:Value) (cs:List Value),T4 w (fun b=>v.ownBlock=some b)→args.length=ds.length→(∀(i:Nat) d,ds[i]?=some d→∃u,args[i]?=some u∧qW w κ u d [])→
  κ 0=some v→(∀i,1≤i→κ i=none)→v.oneCell'=true→0<sz→(∀r∈rows,r.length=sz)→w.ownsRow 0 e sz v rows.length cs→jN w cs rows.flatten []→
  Calls P f args.toArray w (fun x w'=>∃v' cs',x=.returned v'∧v'.oneCell'=true∧(∀r∈bG,r.length=sz)∧w'.ownsRow 0 e sz v' bG.length cs'∧jN w' cs' bG.flatten []∧(∀g,v'.ownBlock=some g→w.heap.size≤g∨v.ownBlock=some g)∧
   w'.os=w.os∧w'.tape=w.tape∧w'.output=w.output∧w.heap.size≤w'.heap.size∧∀b,b<w.heap.size→v.ownBlock≠some b→w'.heap[b]?=w.heap[b]?)
section
variable{P:Program}{Γ:uK}{Q:Exit→St→Prop}{st:St}{κ κ':Nat→Option Value}{Θ Θ':Nat→Nat}{a:Act}{w w':World}{all:Array Oper}{rest:List Oper}
theorem a1R.out{fn:Func}{d:D}{e:Exit}{a':Act}{w':World}{st0:St}{κ0:Nat→Option Value}{Θ0:Nat→Nat}(hs0:bN Γ st0 κ0 Θ0 a' w')(hrq:a1R P fn d e st0):
 (e=.ret∨e=.normal)∧a'.defers=[]∧a2i Γ w'∧∃v bs ts us,(results fn a'.tmps).run P w'=.ok v w'∧DA w' v d bs ts us∧∀b∈ts,BM Γ b:=by
 obtain⟨IR,nz,ds0,es,ms,qs,hres,hrv,XK,TT,rfl⟩:=hrq
 obtain⟨ρ0,hu0⟩:=hs0.tC
 have IS:=BH hrv
 obtain⟨Θ1,ρ1,hs1,hu1,hm1,ZK,hr1⟩:=bN.T6 ms hs0 hu0 XK (fun m hm=>by
  obtain⟨e,sz,rows,hH⟩:=IS.1 m hm
  exact⟨_,e,sz,rows,hH,rfl⟩)
 obtain⟨vs,bs',m1,m2,m3,m4,m5⟩:=CF hs0 hres
 have hq:∀m e sz rows,st0.H[m]?=some (.row .uq e sz rows)→∃v cs ns,κ0 m=some v∧0<sz∧(∀r∈rows,r.length=sz)∧w'.ownsRow 0 e sz v rows.length cs∧jN w' cs rows.flatten ns∧ns.Nodup∧(∀b∈ns,ρ1 b=m+1)∧∀g,v.ownBlock=some g→Θ1 g=m+2:=by
  intro m e sz rows hH
  have hnm:m∉ms:=fun hm=>by
   obtain⟨e',sz',bG,LF⟩:=IS.1 m hm
   rw[hH]at LF;cases LF
  have hH1:(kill st0.H ms)[m]?=some (.row .uq e sz rows):=by rw[fF hnm];exact hH
  obtain⟨v,cs,ns,r1,r2,r3,r4,r5⟩:=hu1.rows m e sz rows hH1
  obtain⟨p1,p2,v2,_,_,p3,_,_,p4,_⟩:=hs1.ob m _ hH1
  rw[r1]at p3;cases p3
  exact⟨v,cs,ns,r1,p1,p2,r2,r3,r4,r5,p4⟩
 obtain⟨c,ts,us,RX,O8⟩:=IJ (w:=w') (vs:=vs) (fun b hb=>(hu1.free b hb).1) hq hs0.o4 hrv TT (by omega) (fun i d hd=>by
  obtain⟨v,b,k1,k2,k3⟩:=m4 i d hd
  exact⟨v,b,k1,k2,fun x hx=>ZK x (m5 x (k3 x hx))⟩) hm1
 have QV:∃v,(results fn a'.tmps).run P w'=.ok v w'∧DA w' v (BG es) c ts us:=by
  have hrun:(results fn a'.tmps).run P w'=.ok (if h:vs.toArray.size=1 then vs.toArray[0]else .tuple vs.toArray) w':=by
   rw[results_eq,Array.mapM_eq_mapM_toList]
   simp[m1]
  cases RX with
  |nil=>exact⟨.tuple #[],by simpa using hrun,.iJ [] [] [] [] [] .nil⟩
  |cons v vs d es b1 b2 t1 t2 u1 u2 hv uN=>
   cases uN with
   |nil=>
    simp only[List.append_nil]
    exact⟨v,by simpa using hrun,.v hv⟩
   |cons v2 vs d2 es b3 b4 t3 t4 u3 u4 ZD uN=>exact⟨.tuple (v::v2::vs).toArray,by simpa using hrun,.iJ _ _ _ _ _ (.cons _ _ _ _ _ _ _ _ _ _ hv (.cons _ _ _ _ _ _ _ _ _ _ ZD uN))⟩
 obtain⟨v,a5n,a1T⟩:=QV
 refine⟨IR,hs0.defers,hs0.stays,v,c,ts,us,a5n,a1T,fun b hb'=>?_⟩
 obtain⟨⟨m,hm,hΘ⟩,_⟩:=O8.top b hb'
 exact hs1.mine b (by omega)
theorem L4.of{f:FuncId}{fn:Func}{c:Code}{ds:List D}{e sz:Nat}{rows bG:List (List D)}(hf:P.funcs[f]?=some fn)(hb:fn.body=some c)(hn:(fn.name== "runtime.NumGoroutine")=false)
 (hl:ds.length≤fn.ntmps) (hfl:bG.flatten.all D.flat=true) (h:rows.length≤maxLen→∀Γ:uK,Γ.nt=fn.ntmps→AW P Γ c (a1R P fn (.fr e sz bG)) ⟨zA 0 ds,[.row .uq e sz rows]⟩):L4 P f ds e sz rows bG:=by
 refine⟨⟨fn,hf,by simp[hb],hn⟩,?_⟩
 intro w κ args v cs XX hlen hargs hk0 hk1 hone hsz hrl hown hrd
 refine calls_of_wp hf hb ?_
 let Θ:Nat→Nat:=fun b=>if v.ownBlock=some b then 2 else if b<w.heap.size then 1 else 0
 let Γ:uK:=⟨w,Θ,fun b=>v.ownBlock=some b,fn.ntmps,fun _=>False,XX⟩
 have hlt:∀b,v.ownBlock=some b→b<w.heap.size:=fun b hb'=>(hown.lt b hb').2
 have BN:rows.length≤maxLen:=(bR.sl ⟨w,v,_,vF hrl hown hrd⟩).1
 have hs:bN Γ ⟨zA 0 ds,[.row .uq e sz rows]⟩ κ Θ {tmps:=args.toArray++Array.replicate (fn.ntmps-args.toArray.size) undef,defers:=[]} w:=by
  refine⟨rfl,?_,fun i hi=>hk1 i (by simpa using hi),?_,?_,?_,?_,?_,?_,⟨rfl,rfl,rfl,Nat.le_refl _,fun _ _ _=>rfl⟩,⟨fun _=>0,by simp,?_,?_⟩⟩
  ·simp[Γ];omega
  ·intro id u hu
   rcases Nat.eq_zero_or_pos id with rfl|hp
   ·rw[hk0]at hu;cases hu;exact hone
   ·rw[hk1 id hp]at hu;cases hu
  ·intro t
   rw[FU]
   simp only[Nat.not_lt_zero,if_false,Nat.sub_zero]
   cases hd:ds[t]? with
   |none=>exact⟨[],.of (.any _),by simp⟩
   |some x=>
    obtain⟨u,k1,k2⟩:=hargs t x hd
    refine⟨[],?_,by simp⟩
    have hlt:t<args.length:=(List.getElem?_eq_some_iff.1 k1).1
    have:(args.toArray++Array.replicate (fn.ntmps-args.toArray.size) undef).getD t undef=u:=by
     rw[Array.getD_eq_getD_getElem?,Array.getElem?_append_left (by simpa using hlt)]
     simp[k1]
    rw[this]
    exact k2
  ·intro j o hj
   cases j with
   |zero=>
    simp at hj;subst hj
    exact⟨hsz,hrl,v,cs,[],hk0,hown,hrd,fun g hg=>by simp only[Θ];rw[if_pos hg],by simp⟩
   |succ j=>simp at hj
  ·intro b hb'
   simp only[Θ]at hb'
   split at hb'
   ·rename_i hv;exact hlt b hv
   ·split at hb'
    ·assumption
    ·exact absurd rfl hb'
  ·intro b hb' hx
   refine⟨rfl,?_⟩
   have hx':¬v.ownBlock=some b:=hx
   simp only[Θ];rw[if_neg hx'];split<;>omega
  ·intro b hb'
   simp only[Θ]at hb'
   split at hb'
   ·rename_i hv;exact .inr hv
   ·split at hb'<;>omega
  ·intro id e' sz' cI hj
   cases id with
   |zero=>
    simp at hj
    obtain⟨rfl,rfl,rfl⟩:=hj
    exact⟨v,cs,[],hk0,hown,hrd,by simp,by simp⟩
   |succ j=>simp at hj
  ·intro id o hj
   cases id with
   |zero=>simp at hj;subst hj;exact SJ.yN rfl
   |succ j=>simp at hj
 refine wp_mono (h BN Γ rfl _ _ _ _ hs) ?_
 rintro x a' w' ⟨st0,κ0,Θ0,hs0,hrq⟩
 obtain⟨IR,hdf,hst,u,bs,ts,us,hrun,hres,RT⟩:=a1R.out hs0 hrq
 have QV:∃u cs',(results fn a'.tmps).run P w'=.ok u w'∧u.oneCell'=true∧(∀r∈bG,r.length=sz)∧w'.ownsRow 0 e sz u bG.length cs'∧jN w' cs' bG.flatten []∧(∀g,u.ownBlock=some g→w.heap.size≤g∨v.ownBlock=some g)∧
  w'.os=w.os∧w'.tape=w.tape∧w'.output=w.output∧w.heap.size≤w'.heap.size∧∀b,b<w.heap.size→v.ownBlock≠some b→w'.heap[b]?=w.heap[b]?:=by
  cases hres with
  |v hv=>
   cases hv with
   |cell hc=>
    cases hc with
    |pure hc=>cases hc
    |fr _ _ _ cs' ns h1 h2 h3 h4 h5=>
     have:=h4.flat hfl
     subst this
     exact⟨u,cs',hrun,h5,h2,h3,h4,fun g hg=>RT g (by simp[hg]),hst.os,hst.tape,hst.output,hst.size,fun b hb' hx=>hst.block b hb' hx⟩
 obtain⟨u,cs',q1,q2⟩:=QV
 have post:a'.defers=[]∧∃v',(results fn a'.tmps).run P w'=.ok v' w'∧∃v2 cs2,Ending.returned v'=.returned v2∧v2.oneCell'=true∧(∀r∈bG,r.length=sz)∧w'.ownsRow 0 e sz v2 bG.length cs2∧jN w' cs2 bG.flatten []∧(∀g,v2.ownBlock=some g→w.heap.size≤g∨v.ownBlock=some g)∧
  w'.os=w.os∧w'.tape=w.tape∧w'.output=w.output∧w.heap.size≤w'.heap.size∧∀b,b<w.heap.size→v.ownBlock≠some b→w'.heap[b]?=w.heap[b]?:=⟨hdf,u,q1,u,cs',rfl,q2⟩
 rcases IR with rfl|rfl
 ·exact post
 ·exact post
theorem a6E{o:Oper}{f t id:Nat}{xs:Array Operand}{ts:Array TypeId}{e sz:Nat}{rows bG:List (List D)}(hop:o.op=.call {callee:=.value (.func f),args:=xs,argTypes:=ts})(hd:o.dst=some t)(hg:o.guard=none)
 (ht:t<Γ.nt) (hH:st.H[id]?=some (.row .uq e sz rows)) (hfl:rows.flatten.all D.flat=true) (hb:((xs.toList.map st.ev).all D.bare)=true) (mX:L4 P f ((xs.toList.map st.ev).map (D.rnS [id])) e sz rows bG)
 (h:AO P Γ all rest Q ⟨(t,.acc st.H.length)::st.σ,kill st.H [id]++[.row .uq e sz bG]⟩):AO P Γ all (o::rest) Q st:=by
 intro κ Θ a w hs
 obtain⟨hsz,hrl,v,cs,bs,hk,hown,hrd,FN,_⟩:=hs.ob id _ hH
 have FM:=hrd.flat hfl
 subst FM
 have a4B:id<st.H.length:=(List.getElem?_eq_some_iff.1 hH).1
 let κc:Nat→Option Value:=fun j=>if j=0 then some v else none
 have XX:T4 w fun b=>v.ownBlock=some b:=by
  obtain⟨B,v1,v2⟩:=hs.vsb
  refine⟨B,v1,fun b hB=>⟨(v2 b hB).2.1,fun hb'=>?_⟩⟩
  have e1:=FN b hb'
  rcases hs.mine b (by omega)with q|q
  ·have:=(v2 b hB).1;omega
  ·exact(v2 b hB).2.2 q
 have hargs:∀(i:Nat) d,((xs.toList.map st.ev).map (D.rnS [id]))[i]?=some d→∃u,(xs.toList.map a.eval)[i]?=some u∧qW w κc u d []:=by
  intro i d NW
  rw[List.getElem?_map,List.getElem?_map]at NW
  cases hx:xs.toList[i]? with
  |none=>rw[hx]at NW;cases NW
  |some x=>
   rw[hx]at NW
   simp only[Option.map_some,Option.some.injEq]at NW
   subst NW
   refine⟨a.eval x,by rw[List.getElem?_map,hx];rfl,?_⟩
   obtain⟨bs,r,hz⟩:=hs.ev x
   have a65:(st.ev x).bare=true:=List.all_eq_true.1 hb _ (List.mem_map.2 ⟨x,List.mem_of_getElem? hx,rfl⟩)
   obtain⟨b',r',_⟩:=qW.rn (o:=[id]) (κ':=κc) (Θ:=fun _=>0) (Θ':=fun _=>0) (fun i j u h1 h2=>by
    have h3:=XV h1
    cases j with
    |zero=>simp at h3;subst h3;rw[hk]at h2;simpa[κc]using h2
    |succ j=>simp at h3) (fun _ _=>rfl) r (fun _ _=>rfl)
   have:=r'.a32 (D.a33 [id] a65)
   subst this
   exact r'
 have hc:=mX.2 w κc (xs.toList.map a.eval) v cs XX (by simp) hargs (by simp[κc]) (fun i hi=>by simp only[κc];rw[if_neg (by omega)]) (hs.o4 id v hk) hsz hrl hown hrd
 refine wpList_plain hg fun K hK=>?_
 unfold Oper.wp
 rw[xN hop mX.1,Oper.upon_enter]
 have e0:xs.map a.eval=(xs.toList.map a.eval).toArray:=by rw[←Array.toList_map,Array.toArray_toList]
 rw[e0]
 refine hc.mono ?_
 rintro x w' ⟨v',cs',rfl,hone,SN,O7,TO,hat,h1,h2,h3,h4,U0⟩
 show K (a.put o.dst v') w'
 rw[hd]
 let n:=st.H.length
 let Θ':Nat→Nat:=fun b=>if some b=v'.ownBlock then n+2 else Θ b
 have hvt:∀g,v'.ownBlock=some g→Θ g=id+2∨w.heap.size≤g:=by
  intro g hgv
  rcases hat g hgv with h|h
  ·exact .inr h
  ·exact .inl (FN g h)
 have k:fD w w' Θ Θ' (id+2):=by
  refine⟨by omega,h1,h2,h3,h4,fun b hb hne=>U0 b hb (fun e=>hne (FN b e)),fun b hb hne=>?_,fun b hb=>?_⟩
  ·simp only[Θ']
   rw[if_neg]
   intro e
   rcases hvt b e.symm with h|h
   ·exact hne h
   ·omega
  ·simp only[Θ']at hb
   split at hb
   ·rename_i e;exact(O7.lt b e.symm).2
   ·exact Nat.lt_of_lt_of_le (hs.own b hb) h4
 have hm:∀b,2≤Θ' b→BM Γ b:=by
  intro b hb
  simp only[Θ']at hb
  split at hb
  ·rename_i e
   rcases hvt b e.symm with h|h
   ·exact hs.mine b (by omega)
   ·exact .inl (Nat.le_trans hs.base h)
  ·exact hs.mine b hb
 have hn:=xH (hs.oG n (Nat.le_refl _)) (some v')
 obtain⟨ρ,hu⟩:=hs.tC
 have uB:=hs.nO k hn hu
 have key:∀(j:Nat) y,(kill st.H [id]++[.row .uq e sz bG])[j]?=some y→(j=n∧y=.row .uq e sz bG)∨(j≠n∧(y=.gone∨(j∉[id]∧st.H[j]?=some y))):=by
  intro j y hj
  rcases CD j y hj with⟨h1,h2⟩|⟨h1,h2⟩
  ·rw[dO]at h1;exact .inl ⟨h1,h2⟩
  ·rw[dO]at h1
   exact .inr ⟨h1,rE h2⟩
 have hs':bN Γ ⟨st.σ,kill st.H [id]++[.row .uq e sz bG]⟩ (yM κ n (some v')) Θ' a w':=by
  refine hs.step k hm hn ?_ ?_ ?_ ⟨ρ,uB.1,fun j e' sz' cI hj=>?_,fun j y hj=>?_⟩
  ·intro i hi
   simp only[List.length_append,List.length_cons,List.length_nil,dO]at hi
   unfold yM
   rw[if_neg (by omega)]
   exact hs.oG i (by omega)
  ·intro i y hy
   unfold yM at hy
   split at hy
   ·cases hy;exact hone
   ·exact hs.o4 i y hy
  ·intro j y hj
   rcases key j y hj with⟨rfl,rfl⟩|⟨_,hy|⟨hjk,hy⟩⟩
   ·exact .inr (.inr ⟨hsz,SN,v',cs',[],iN _ _ _,O7,TO,fun g hgv=>by simp only[Θ'];rw[if_pos hgv.symm],by simp⟩)
   ·exact .inl hy
   ·exact .inr (.inl ⟨fun e=>hjk (by simp;omega),hy⟩)
  ·rcases key j _ hj with⟨rfl,hy⟩|⟨_,hy|⟨hjk,hy⟩⟩
   ·simp only[Ob.row.injEq,true_and]at hy
    obtain⟨rfl,rfl,rfl⟩:=hy
    exact⟨v',cs',[],iN _ _ _,O7,TO,by simp,by simp⟩
   ·cases hy
   ·exact uB.2.1 j e' sz' cI (fun e=>hjk (by simp;omega)) hy
  ·rcases key j _ hj with⟨rfl,hy⟩|⟨_,hy|⟨hjk,hy⟩⟩
   ·subst hy;exact SJ.yN rfl
   ·subst hy;trivial
   ·exact uB.2.2 j y (fun e=>hjk (by simp;omega)) hy
 refine hK _ _ (h _ _ _ _ (hs'.set (t:=t) (d:=.acc n) (bs:=[]) ht ?_ (by simp)))
 exact(yK.acc n _ (iN _ _ _)).XC
end
end Go.Cx

/- A state told anew at a loop's head: which slots are kept, which objects, in which order; loops. No condition; plain lemmas. -/
import Derived.Test.YtfankinmlfnncaaGreatDoorPFnChangesG1
import Derived.MapKept
import Derived.Laws.BytesArg
import Derived.LoopN
set_option linter.unusedVariables false
set_option linter.unusedSimpArgs false
namespace Go.Cx
open Go.RowKit
def pos(o:ah)(i:Nat):Option Nat:=ix (fun j=>j==i) o
def D.Nu(o:ah)(d:D):D:=match d with
 | .acc i=>(match pos o i with|some j=>.acc j|none=>.any)
 | .ptr i off=>(match pos o i with|some j=>.ptr j off|none=>.any)
 | .op i a b c=>(match pos o i with|some j=>.op j a b c|none=>.any)
 |d=>d
def D.rnV(o:ah)(d:D):D:=match d with
 | .agg cs=>.agg (cs.map (D.Nu o))
 |d=>d.Nu o
def D.rnS(o:ah)(d:D):D:=match d with
 | .iw vs=>.iw (vs.map (D.rnV o))
 |d=>d.rnV o
def Ob.rn(o:ah)(x:Ob):Ob:=match x with
 | .box cells=>.box (cells.map (D.Nu o))
 | .CW cells v=>.CW (cells.map (D.Nu o)) v
 | .hole _ _ _ _ _=>.gone
 | .row k e sz rows=>(match k with| .ho _ _=>.gone|k=>.row k e sz rows)
 |x=>x
def St.FV(st:St)(K o:ah):St:=⟨K.map fun t=>(t,(lk st.σ t).rnS o),o.map fun i=>((st.H[i]?).getD .gone).rn o⟩
section
variable{P:Program}{Z:wV}{Q:Exit->St->Prop}{st:St}{κ κ':Nat->Option Value}{Θ Θ':Nat->Nat}{a:Act}{w:World}{o:ah}
theorem ZW:∀ {o:ah},o.Nodup->∀(i j x:Nat),o[i]?=some x->o[j]?=some x->i=j:=by
 intro o
 induction o with
 |nil=>intro _ i j x h;simp at h
 |cons y o ih=>
  intro hnd i j x hi hj;obtain⟨h1,h2⟩:=gw.1 hnd;cases i with
  |zero=>
   cases j with
   |zero=>rfl
   |succ j=>simp at hi hj;subst hi;exact absurd (aE hj) h1
  |succ i=>
   cases j with
   |zero=>simp at hi hj;subst hj;exact absurd (aE hi) h1
   |succ j=>simp at hi hj;rw[ih h2 i j x hi hj]
theorem YF{i j:Nat}(h:pos o i=some j):o[j]?=some i:=by
 obtain⟨x,h1,h2⟩:=FJ h;simp only[cr]at h2;subst h2;exact h1
theorem Wh{i j:Nat}(hnd:o.Nodup)(h:o[j]?=some i):pos o i=some j:=
 Nf h (by simp) (fun k y hk hy=>by
  simp only[cr]at hy;subst hy;obtain⟨h1,h2⟩:=aN.1 h;obtain⟨h3,h4⟩:=aN.1 hk;exact ZW hnd k j _ hk h)
section
variable(hk:∀(i j:Nat) v,pos o i=some j->κ i=some v->κ' j=some v)(Aj:∀b,Θ b=0->Θ' b=0)
include hk Aj
theorem Bf.rn{v:Value}{d:D}{bs:ah}(h:Bf w κ v d bs)(hz:∀b∈bs,Θ b=0):∃b',Bf w κ' v (d.Nu o) b'/\∀b∈b',Θ' b=0:=by
 cases h with
 |pure h=>
  have e:d.Nu o=d:=by cases h<;>rfl
  rw[e];exact⟨bs,.pure h,fun b hb=>Aj b (hz b hb)⟩
 |acc i v hi=>
  simp only[D.Nu];cases hp:pos o i with
  |none=>exact⟨[],.pure (.any _),by simp⟩
  |some j=>exact⟨[],.acc j v (hk i j v hp hi),by simp⟩
 |ptr i off b hi=>
  simp only[D.Nu];cases hp:pos o i with
  |none=>exact⟨[],.pure (.any _),by simp⟩
  |some j=>exact⟨[],.ptr j off b (hk i j _ hp hi),by simp⟩
 |op i x sz off b o0 len cap hi=>
  simp only[D.Nu];cases hp:pos o i with
  |none=>exact⟨[],.pure (.any _),by simp⟩
  |some j=>exact⟨[],.op j x sz off b o0 len cap (hk i j _ hp hi),by simp⟩
theorem gH.rn{vs:cG}{ds:aR}{bs:ah}(h:gH w κ vs ds bs)(hz:∀b∈bs,Θ b=0):∃b',gH w κ' vs (ds.map (D.Nu o)) b'/\∀b∈b',Θ' b=0:=by
 induction h with
 |nil=>exact⟨[],.nil,by simp⟩
 |cons v vs d ds b1 b2 h1 h2 _ ih=>
  obtain⟨c1,q1,q2⟩:=Bf.rn hk Aj h2 (fun b hb=>hz b (by simp[hb]));obtain⟨c2,p1,p2⟩:=ih (fun b hb=>hz b (by simp[hb]));refine⟨c1++c2,.cons _ _ _ _ _ _ h1 q1 p1,fun b hb=>?_⟩;rcases aW.1 hb with hb|hb
  ·exact q2 b hb
  ·exact p2 b hb
theorem PV.rn{v:Value}{d:D}{bs:ah}(h:PV w κ v d bs)(hz:∀b∈bs,Θ b=0):∃b',PV w κ' v (d.rnV o) b'/\∀b∈b',Θ' b=0:=by
 cases h with
 |cell h=>
  by_cases w5:∃ds,d=.agg ds
  ·obtain⟨ds,rfl⟩:=w5;cases h with
   |pure h=>
    cases h with
    |agg cs _ _ h=>
     obtain⟨b',q1,q2⟩:=gH.rn hk Aj (gH.Fc (κ:=κ) h) hz;exact⟨b',.agg _ _ _ q1,q2⟩
  ·have e:d.rnV o=d.Nu o:=by cases d<;>first|rfl|exact absurd ⟨_,rfl⟩ w5
   rw[e];obtain⟨b',q1,q2⟩:=Bf.rn hk Aj h hz;exact⟨b',.cell q1,q2⟩
 |agg cs ds bs h=>
  obtain⟨b',q1,q2⟩:=gH.rn hk Aj h hz;exact⟨b',.agg _ _ _ q1,q2⟩
theorem Ej.rn{vs:cG}{ds:aR}{bs:ah}(h:Ej w κ vs ds bs)(hz:∀b∈bs,Θ b=0):∃b',Ej w κ' vs (ds.map (D.rnV o)) b'/\∀b∈b',Θ' b=0:=by
 induction h with
 |nil=>exact⟨[],.nil,by simp⟩
 |cons v vs d ds b1 b2 h2 _ ih=>
  obtain⟨c1,q1,q2⟩:=PV.rn hk Aj h2 (fun b hb=>hz b (by simp[hb]));obtain⟨c2,p1,p2⟩:=ih (fun b hb=>hz b (by simp[hb]));refine⟨c1++c2,.cons _ _ _ _ _ _ q1 p1,fun b hb=>?_⟩;rcases aW.1 hb with hb|hb
  ·exact q2 b hb
  ·exact p2 b hb
theorem vR.rn{v:Value}{d:D}{bs:ah}(h:vR w κ v d bs)(hz:∀b∈bs,Θ b=0):∃b',vR w κ' v (d.rnS o) b'/\∀b∈b',Θ' b=0:=by
 cases h with
 |v h=>
  have hnt:∀vs,d≠ .iw vs:=by
   intro vs e;subst e;cases h with
   |cell h=>cases h with|pure h=>cases h
  have e:d.rnS o=d.rnV o:=by cases d<;>first|rfl|exact absurd rfl (hnt _)
  rw[e];obtain⟨b',q1,q2⟩:=PV.rn hk Aj h hz;exact⟨b',.v q1,q2⟩
 |iw vs ds bs h=>
  obtain⟨b',q1,q2⟩:=Ej.rn hk Aj h hz;exact⟨b',.iw _ _ _ q1,q2⟩
end
theorem a1w(σ:List (Nat×D))(K:ah)(f:D->D)(t:Nat):lk (K.map fun t=>(t,f (lk σ t))) t=if t∈K then f (lk σ t)else .any:=by
 induction K with
 |nil=>simp[lk]
 |cons u K ih=>
  simp only[bA,lk];by_cases e:t=u
  ·subst e;simp
  ·rw[bE e,ih];simp[e]
theorem fE.FV(hs:fE Z st κ Θ a w)(K o:ah)(hnd:o.Nodup):∃κ' Θ',fE Z (st.FV K o) κ' Θ' a w:=by
 let κ':Nat->Option Value:=fun j=>(o[j]?).bind κ
 let Θ':Nat->Nat:=fun b=>if Θ b<=1 then Θ b else match pos o (Θ b-2)with|some j=>j+2|none=>1
 have Aj:∀b,Θ b=0->Θ' b=0:=fun b h=>by simp[Θ',h]
 have hk:∀(i j:Nat) v,pos o i=some j->κ i=some v->κ' j=some v:=fun i j v h1 h2=>by simp[κ',YF h1,h2]
 have hk2:∀(i j:Nat),o[j]?=some i->κ' j=κ i:=fun i j h=>by simp[κ',h]
 have ZE:∀b (i j:Nat),o[j]?=some i->Θ b=i+2->Θ' b=j+2:=by
  intro b i j hj h;simp only[Θ'];rw[bE (by omega),h,Bt,Wh hnd hj]
 have key:∀(j:Nat) x,(st.FV K o).H[j]?=some x->∃i,o[j]?=some i/\((st.H[i]?=none/\x=.gone)\/∃y,st.H[i]?=some y/\x=y.rn o):=by
  intro j x hj;simp only[St.FV,cR]at hj;cases ho:o[j]? with
  |none=>simp[ho]at hj
  |some i=>
   simp only[ho,dM,bC]at hj;refine⟨i,rfl,?_⟩;cases hH:st.H[i]? with
   |none=>rw[hH]at hj;exact .inl ⟨rfl,hj.symm⟩
   |some y=>rw[hH]at hj;exact .inr ⟨y,rfl,hj.symm⟩
 obtain⟨ρ,hu⟩:=hs.vo;let ρ':Nat->Nat:=fun b=>if ρ b=0 then 0 else match pos o (ρ b-1)with|some j=>j+1|none=>0
 refine⟨κ',Θ',hs.defers,hs.size,?_,?_,?_,?_,?_,?_,?_,hs.stays,ρ',?_,?_,?_⟩
 ·intro i hi;simp only[St.FV,aj]at hi;simp[κ',dU hi]
 ·intro i u ze;simp only[κ']at ze;cases ho:o[i]? with
  |none=>simp[ho]at ze
  |some j=>simp[ho]at ze;exact hs.tF j u ze
 ·intro t;show∃bs,vR w κ' _ (lk (K.map fun t=>(t,(lk st.σ t).rnS o)) t) bs/\_;rw[a1w st.σ K (fun d=>d.rnS o) t];split
  ·obtain⟨bs,hr,hz⟩:=hs.slot t;exact vR.rn hk Aj hr hz
  ·exact⟨[],.of (.any _),by simp⟩
 ·intro j x hj;obtain⟨i,ho,⟨_,rfl⟩|⟨y,hH,rfl⟩⟩:=key j x hj
  ·trivial
  ·have Dj:=hs.ob i y hH;cases y with
   |gone=>trivial
   |hole=>trivial
   |tk rows=>
    obtain⟨v,bs,q1,q2,q3⟩:=Dj;exact⟨v,bs,by rw[hk2 i j ho];exact q1,q2,fun b hb=>Aj b (q3 b hb)⟩
   |tf e sz rows=>
    obtain⟨v,bs,q1,q2,q3⟩:=Dj;exact⟨v,bs,by rw[hk2 i j ho];exact q1,q2,fun b hb=>Aj b (q3 b hb)⟩
   |mp kv=>
    obtain⟨g,es,c,q1,q2,q3,q4⟩:=Dj;exact⟨g,es,c,by rw[hk2 i j ho];exact q1,q2,ZE g i j ho q3,q4⟩
   |RQ sz rows u=>
    obtain⟨q1,q0,v,bs,q2,q3,q4,q5⟩:=Dj;exact⟨q1,fun x hx=>by rw[hk2 i j ho];exact q0 x hx,v,bs,by rw[hk2 i j ho];exact q2,q3,q4,fun b hb=>⟨ZE b i j ho (q5 b hb).1,(q5 b hb).2⟩⟩
   |box cells=>
    obtain⟨g,cs,T,q1,q2,q3,bs,q4,q5⟩:=Dj;obtain⟨b',p1,p2⟩:=gH.rn hk Aj q4 q5;exact⟨g,cs,T,by rw[hk2 i j ho];exact q1,q2,ZE g i j ho q3,b',p1,p2⟩
   |CW cells u=>
    obtain⟨q0,g,cs,T,q1,q2,q3,bs,q4,q5⟩:=Dj;obtain⟨b',p1,p2⟩:=gH.rn hk Aj q4 q5;exact⟨⟨by rw[hk2 i j ho];exact q0.1,q0.2.same q1 q2 (by rw[hk2 i j ho];exact q1) q2⟩,g,cs,T,by rw[hk2 i j ho];exact q1,q2,ZE g i j ho q3,b',p1,p2⟩
   |row k e sz rows=>
    obtain⟨q1,q2,v,cs,bs,q3,q4,q5,q6,q7⟩:=Dj;cases k with
    |ho p n=>exact trivial
    |_=>
    refine⟨q1,q2,v,cs,bs,by rw[hk2 i j ho];exact q3,q4,q5,fun g hg=>ZE g i j ho (q6 g hg),?_⟩
    first
    |exact⟨q7.1,fun b hb=>⟨ZE b i j ho (q7.2.1 b hb).1,(q7.2.1 b hb).2⟩,q7.2.2⟩
    |exact fun b hb=>Aj b (q7 b hb)
 ·intro b hb;exact hs.own b (fun h=>hb (Aj b h))
 ·intro b hb hx;obtain⟨h1,h2⟩:=hs.old b hb hx;simp only[Θ'];rw[bP h2];exact⟨h1,h2⟩
 ·intro b hb;refine hs.mine b ?_;simp only[Θ']at hb;split at hb<;>omega
 ·intro b hb;have hb':ρ b≠0:=fun h=>hb (by simp[ρ',h])
  obtain⟨h1,h2⟩:=hu.free b hb';exact⟨Aj b h1,h2⟩
 ·intro j e sz rows hj;obtain⟨i,ho,⟨_,h⟩|⟨y,hH,h⟩⟩:=key j _ hj
  ·cases h
  ·have hy:y=.row .uq e sz rows:=by
    cases y with
    |row k2 e2 Qr gA=>cases k2<;>simp only[Ob.rn,reduceCtorEq]at h<;>exact h.symm
    |_=>cases h
   subst hy;obtain⟨v,cs,bs,q1,q2,q3,q4,q5⟩:=hu.rows i e sz rows hH;refine⟨v,cs,bs,by rw[hk2 i j ho];exact q1,q2,q3,q4,fun b hb=>?_⟩;simp only[ρ'];rw[q5 b hb,bE (by omega),Bt,Wh hnd ho]
 ·intro j x hj;obtain⟨i,ho,⟨_,h⟩|⟨y,hH,h⟩⟩:=key j _ hj
  ·subst h;trivial
  ·have hm:=hu.more i y hH;have a8c:∀b,ρ b=i+1->ρ' b=j+1:=fun b hb=>by
    simp only[ρ'];rw[hb,bE (by omega),Bt,Wh hnd ho]
   subst h;cases y with
   |tk rows=>
    obtain⟨v,bs,q1,q2,q3,q4⟩:=hm;exact⟨v,bs,by rw[hk2 i j ho];exact q1,q2,q3,fun b hb=>a8c b (q4 b hb)⟩
   |tf e sz rows=>
    obtain⟨v,bs,q1,q2,q0,q3,q4⟩:=hm;exact⟨v,bs,by rw[hk2 i j ho];exact q1,q2,q0,q3,fun b hb=>a8c b (q4 b hb)⟩
   |row k e sz rows=>
    cases k with
    |mv n=>
     obtain⟨v,cs,bs,q1,q2,q3,q4,q5⟩:=hm;exact⟨v,cs,bs,by rw[hk2 i j ho];exact q1,q2,q3,q4,fun b hb=>a8c b (q5 b hb)⟩
    |_=>trivial
   |_=>trivial
end
abbrev Rw:=Nat×List (List D)
def Rw.ob(x:Rw)(v:Option Value):Ob:=.RQ x.1 x.2 v
def RY(w:World)(κ:Nat->Option Value):Nat->List Rw->ah->Prop
 |_,[],us=>us=[]
 |n,x::xs,us=>∃v bs us',κ n=some v/\(∀r∈x.2,r.length=x.1)/\Rd w v (.sl x.2) bs/\us=bs++us'/\RY w κ (n+1) xs us'
section
variable{P:Program}{Z:wV}{Q:Exit->St->Prop}{st:St}{κ κ':Nat->Option Value}{Θ Θ':Nat->Nat}{a:Act}{w w':World}{all:Array Oper}{rest:List Oper}
theorem RY.parts:∀ {xs:List Rw} {n:Nat} {us:ah},RY w κ n xs us->∃L:List ah,L.length=xs.length/\us=L.flatten/\∀(i:Nat) x bs,xs[i]?=some x->L[i]?=some bs->∃v,κ (n+i)=some v/\(∀r∈x.2,r.length=x.1)/\Rd w v (.sl x.2) bs:=by
 intro xs
 induction xs with
 |nil=>intro n us h;exact⟨[],rfl,by simpa[RY]using h,by simp⟩
 |cons y ys ih=>
  intro n us h;obtain⟨v,bs,us',h1,h2,h3,rfl,h5⟩:=h;obtain⟨L,q1,rfl,q3⟩:=ih h5;refine⟨bs::L,by simp[q1],by simp,?_⟩;intro i x b hx hb;cases i with
  |zero=>simp at hx hb;subst hx;subst hb;exact⟨v,h1,h2,h3⟩
  |succ i=>
   simp at hx hb;obtain⟨v',r1,r2,r3⟩:=q3 i x b hx hb;exact⟨v',by rw[<-r1];congr 1;omega,r2,r3⟩
theorem RY.of:∀ {xs:List Rw} {n:Nat} {L:List ah},L.length=xs.length->(∀(i:Nat) x bs,xs[i]?=some x->L[i]?=some bs->∃v,κ (n+i)=some v/\(∀r∈x.2,r.length=x.1)/\Rd w v (.sl x.2) bs)->RY w κ n xs L.flatten:=by
 intro xs
 induction xs with
 |nil=>
  intro n L hl _;have:L=[]:=dJ (by simpa using hl);subst this;rfl
 |cons y ys ih=>
  intro n L hl h;cases L with
  |nil=>simp at hl
  |cons bs L=>
   obtain⟨v,h1,h2,h3⟩:=h 0 y bs rfl rfl;refine⟨v,bs,L.flatten,h1,h2,h3,by simp,ih (by simpa using hl) ?_⟩;intro i x b hx hb;obtain⟨v',r1,r2,r3⟩:=h (i+1) x b (by simpa using hx) (by simpa using hb);exact⟨v',by rw[<-r1];congr 1;omega,r2,r3⟩
theorem fE.forget(hs:fE Z st κ Θ a w)(ms:ah):fE Z ⟨st.σ,kill st.H ms⟩ κ (fun b=>if ms.any (fun m=>Θ b==m+2)then st.H.length+2 else Θ b) a w:=by
 have h0:∀b,Θ b=0->(if ms.any (fun m=>Θ b==m+2)then st.H.length+2 else Θ b)=0:=by
  intro b hb;rw[bE,hb];intro h;obtain⟨m,_,hm⟩:=ed.1 h;simp[hb]at hm
 have hk:∀(j:Nat) o,(kill st.H ms)[j]?=some o->o=.gone\/(j∉ms/\st.H[j]?=some o):=fun j o h=>qo h
 have hold:∀b j,j∉ms->Θ b=j+2->(if ms.any (fun m=>Θ b==m+2)then st.H.length+2 else Θ b)=j+2:=by
  intro b j hj hb;rw[bE,hb];intro h;obtain⟨m,hm,he⟩:=ed.1 h;simp only[hb,cr]at he;exact hj (by
   have:j=m:=by omega
   rw[this];exact hm)
 obtain⟨ρ,hu⟩:=hs.vo;refine⟨hs.defers,hs.size,fun i hi=>hs.uY i (by simpa[iU]using hi),hs.tF,?_,?_,?_,?_,?_,hs.stays,ρ,?_,?_,?_⟩
 ·intro t;obtain⟨bs,hr,hz⟩:=hs.slot t;exact⟨bs,hr,fun b hb=>h0 b (hz b hb)⟩
 ·intro j o hj;rcases hk j o hj with rfl|⟨hn,hj'⟩
  ·trivial
  ·have Dj:=hs.ob j o hj';cases o with
   |gone=>trivial
   |tk rows=>
    obtain⟨v,bs,q1,q2,q3⟩:=Dj;exact⟨v,bs,q1,q2,fun b hb=>h0 b (q3 b hb)⟩
   |tf e sz rows=>
    obtain⟨v,bs,q1,q2,q3⟩:=Dj;exact⟨v,bs,q1,q2,fun b hb=>h0 b (q3 b hb)⟩
   |box cells=>
    obtain⟨g,cs,T,q1,q2,q3,bs,q4,q5⟩:=Dj;exact⟨g,cs,T,q1,q2,hold g j hn q3,bs,q4,fun b hb=>h0 b (q5 b hb)⟩
   |CW cells u=>
    obtain⟨q0,g,cs,T,q1,q2,q3,bs,q4,q5⟩:=Dj;exact⟨q0,g,cs,T,q1,q2,hold g j hn q3,bs,q4,fun b hb=>h0 b (q5 b hb)⟩
   |row k e sz rows=>
    obtain⟨q1,q2,v,cs,bs,q3,q4,q5,q6,q7⟩:=Dj;refine⟨q1,q2,v,cs,bs,q3,q4,q5,fun g hg=>hold g j hn (q6 g hg),?_⟩;cases k with
    |cl=>exact⟨q7.1,fun b hb=>⟨hold b j hn (q7.2.1 b hb).1,(q7.2.1 b hb).2⟩,q7.2.2⟩
    |sh=>exact fun b hb=>h0 b (q7 b hb)
    |uq=>exact fun b hb=>h0 b (q7 b hb)
    |mv n=>exact fun b hb=>h0 b (q7 b hb)
    |ho p n=>exact fun b hb=>h0 b (q7 b hb)
   |RQ sz rows u=>
    obtain⟨q1,q0,v,bs,q2,q3,q4,q5⟩:=Dj;exact⟨q1,q0,v,bs,q2,q3,q4,fun b hb=>⟨hold b j hn (q5 b hb).1,(q5 b hb).2⟩⟩
   |hole sz rows u p n=>
    obtain⟨q1,q0,v,bs,q2,q3,q4,q5⟩:=Dj;exact⟨q1,q0,v,bs,q2,q3,q4,fun b hb=>⟨hold b j hn (q5 b hb).1,(q5 b hb).2⟩⟩
   |mp kv=>
    obtain⟨g,es,c,q1,q2,q3,q4⟩:=Dj;exact⟨g,es,c,q1,q2,hold g j hn q3,q4⟩
 ·intro b hb;refine hs.own b fun h=>hb ?_
  exact h0 b h
 ·intro b hb hx;obtain⟨h1,h2⟩:=hs.old b hb hx;have:(if ms.any (fun m=>Θ b==m+2)then st.H.length+2 else Θ b)=Θ b:=by
   rw[bE];intro h;obtain⟨m,_,hm⟩:=ed.1 h;simp only[cr]at hm;omega
  show(if ms.any (fun m=>Θ b==m+2)then st.H.length+2 else Θ b)=_/\(if ms.any (fun m=>Θ b==m+2)then st.H.length+2 else Θ b)<=1;rw[this];exact⟨h1,h2⟩
 ·intro b hb;refine hs.mine b ?_;by_cases h:ms.any (fun m=>Θ b==m+2)=true
  ·obtain⟨m,_,hm⟩:=ed.1 h;simp only[cr]at hm;omega
  ·simp only[h]at hb;simpa using hb
 ·intro b hb;obtain⟨h1,h2⟩:=hu.free b hb;exact⟨h0 b h1,h2⟩
 ·intro id e sz rows hj;rcases hk id _ hj with h|⟨_,h⟩
  ·cases h
  ·exact hu.rows id e sz rows h
 ·intro id o hj;rcases hk id _ hj with h|⟨_,h⟩
  ·subst h;trivial
  ·exact hu.more id o h
def D.Ji(d:D):Bool:=match d with
 | .acc _=>true
 |d=>d.flat
def D.bare(d:D):Bool:=match d with
 | .agg cs=>cs.all D.Ji
 |d=>d.Ji
theorem Bf.P9{v:Value}{d:D}{bs:ah}(h:Bf w κ v d bs)(hf:d.Ji=true):bs=[]:=by
 cases h with
 |pure h=>
  refine h.flat ?_;cases h<;>exact hf
 |_=>rfl
theorem gH.P9{vs:cG}{ds:aR}{bs:ah}(h:gH w κ vs ds bs)(hf:ds.all D.Ji=true):bs=[]:=by
 induction h with
 |nil=>rfl
 |cons v vs d ds b1 b2 h1 h2 _ ih=>
  simp only[eD,aS]at hf;rw[h2.P9 hf.1,ih hf.2];rfl
theorem vR.a4R{v:Value}{d:D}{bs:ah}(h:vR w κ v d bs)(hf:d.bare=true):bs=[]:=by
 cases h with
 |v h=>
  cases h with
  |cell h=>
   cases h with
   |pure h=>
    cases h with
    |agg cs ds _ h=>exact gH.P9 (gH.Fc (κ:=κ) h) hf
    |_=>first|rfl|exact absurd hf (by simp[D.bare,D.Ji,D.flat])
   |_=>rfl
  |agg cs ds bs h=>exact h.P9 hf
 |iw=>simp[D.bare,D.Ji,D.flat]at hf
theorem D.a0g(o:ah){c:D}(h:c.Ji=true):(c.Nu o).Ji=true:=by
 cases c with
 |acc m=>simp only[D.Nu];cases pos o m<;>rfl
 |_=>first|exact h| (simp[D.Ji,D.flat]at h)
theorem D.a4S(o:ah){d:D}(h:d.bare=true):(d.rnS o).bare=true:=by
 cases d with
 |agg cs=>
  simp only[D.rnS,D.rnV,D.bare,Ec]at h⊢;rw[b8]at h⊢;intro c hcm;exact D.a0g o (h c hcm)
 |acc m=>simp only[D.rnS,D.rnV,D.Nu];cases pos o m<;>rfl
 |_=>first|exact h| (simp[D.bare,D.Ji,D.flat]at h)
end
section
variable{P:Program}{Z:wV}{Q:Exit->St->Prop}{st:St}{κ κ':Nat->Option Value}{Θ Θ':Nat->Nat}{a:Act}{w w':World}{all:Array Oper}{rest:List Oper}
theorem Xl{rows:List aR}{sz i off:Nat}{r:aR}{d:D}(hrl:∀r∈rows,r.length=sz)(hr:rows[i]?=some r)(hd:r[off]?=some d):rows.flatten[i*sz+off]?=some d/\off<sz/\i*sz+off<rows.length*sz:=by
 have h1:=hrl r (aE hr);have h2:=(aN.1 hd).1;have hmid:=Ht hrl hr;have hlt:=(aN.1 hr).1;have hle:(i+1)*sz<=rows.length*sz:=fN _ hlt;rw[oA,rA]at hle;refine⟨?_,by omega,by omega⟩;rw[<-hmid,dP,bP (by omega),gO]at hd;exact hd
theorem oH.aBd{vs:cG}{ds:aR}{bs:ah}(h:oH w vs ds bs){p:Nat}{d:D}(hd:ds[p]?=some d):
 ∃c b1 b2 b3,vs[p]?=some c/\c.oneCell'=true/\Rd w c d b2/\bs=b1++(b2++b3)/\∀(e:D) (b4:ah),Rd w c e b4->oH w vs (ds.set p e) (b1++(b4++b3)):=by
 obtain⟨l,r,rfl,hl⟩:=Ni hd;obtain⟨v1,v2,c1,c2,rfl,rfl,k1,k2⟩:=h.split;cases k2 with
 |cons c vs _ _ b2 b3 h1 h2 h3=>
  have hl1:v1.length=p:=by rw[k1.length];exact hl
  refine⟨c,c1,b2,b3,by rw[bW (by omega),hl1];simp,h1,h2,rfl,fun e b4 he=>?_⟩;have e1:(l++d::r).set p e=l++e::r:=by rw[oO _ _ (by omega),hl];simp
  rw[e1];exact k1.app (.cons _ _ _ _ _ _ h1 he h3)
theorem Sn{rows:List aR}{sz i off:Nat}{r:aR}{d e:D}(hrl:∀r∈rows,r.length=sz)(hr:rows[i]?=some r)(hd:r[off]?=some d):(rows.set i (r.set off e)).flatten=rows.flatten.set (i*sz+off) e:=by
 have hlt:=(aN.1 hd).1;have h1:=hrl r (aE hr);have:=OD (rows:=rows) (sz:=sz) (i:=i) (off:=off) (row:=r) (ds:=[e]) hrl hr (by simp;omega);have e1:r.set off e=r.take off++[e]++r.drop (off+[e].length):=by
  apply qC;intro j;rw[iK];simp only[dH,Fm,aQ,cE,cY];by_cases hj:j<off
  ·rw[bE (by omega),bJ (by simp;omega),dP,bP hj]
  ·rw[bW (by simp;omega),cU,jt (by omega)];by_cases he:off=j
   ·subst he;simp[hlt]
   ·rw[bE he];obtain⟨m,hm⟩:∃m,j-off=m+1:=⟨j-off-1,by omega⟩
    rw[hm,hG,gO]
    congr 1;omega
 rw[e1,this];have hfl:=rI hrl;obtain⟨hf,_,hlt2⟩:=Xl hrl hr hd;apply qC;intro j;rw[iK];simp only[dH,Fm,aQ,cE,cY];by_cases hj:j<i*sz+off
 ·rw[bE (by omega),bJ (by rw[cU];omega),dP,bP hj]
 ·rw[bW (by rw[cU];omega),cU,jt (by omega)];by_cases he:i*sz+off=j
  ·subst he;rw[bP rfl,bP (by omega),qt];rfl
  ·rw[bE he];obtain⟨m,hm⟩:∃m,j-(i*sz+off)=m+1:=⟨j-(i*sz+off)-1,by omega⟩
   rw[hm,hG,gO]
   congr 1;omega
end
def Jf(P:Program)(f:FuncId)(ds:aR)(e sz:Nat)(rows eO:List aR):Prop:=
 (∃fn,P.funcs[f]?=some fn/\fn.body.isSome=true/\(fn.name== "runtime.NumGoroutine")=false)/\
 ∀(w:World) (κ:Nat->Option Value) (args:cG) (v:Value) (cs:cG),SZ w (fun b=>v.ownBlock=some b)->args.length=ds.length->(∀(i:Nat) d,ds[i]?=some d->∃u,args[i]?=some u/\vR w κ u d [])->
  κ 0=some v->(∀i,1<=i->κ i=none)->v.oneCell'=true->0<sz->(∀r∈rows,r.length=sz)->w.ownsRow 0 e sz v rows.length cs->oH w cs rows.flatten []->
  Calls P f args.toArray w (fun x w'=>∃v' cs',x=.returned v'/\v'.oneCell'=true/\(∀r∈eO,r.length=sz)/\w'.ownsRow 0 e sz v' eO.length cs'/\oH w' cs' eO.flatten []/\(∀g,v'.ownBlock=some g->w.heap.size<=g\/v.ownBlock=some g)/\
   w'.os=w.os/\w'.tape=w.tape/\w'.output=w.output/\w.heap.size<=w'.heap.size/\∀b,b<w.heap.size->v.ownBlock≠some b->w'.heap[b]?=w.heap[b]?)
section
variable{P:Program}{Z:wV}{Q:Exit->St->Prop}{st:St}{κ κ':Nat->Option Value}{Θ Θ':Nat->Nat}{a:Act}{w w':World}{all:Array Oper}{rest:List Oper}
theorem SX.out{fn:Func}{d:D}{e:Exit}{a':Act}{w':World}{L6:St}{κ0:Nat->Option Value}{Θ0:Nat->Nat}(hs0:fE Z L6 κ0 Θ0 a' w')(hrq:SX P fn d e L6):
 (e=.ret\/e=.normal)/\a'.defers=[]/\U4 Z w'/\∃v bs ts us,(results fn a'.tmps).run P w'=.ok v w'/\Bv w' v d bs ts us/\∀b∈ts,Bu Z b:=by
 obtain⟨Da,nz,ds0,es,ms,qs,hres,hrv,Q7,Ru,hqm,rfl⟩:=hrq;obtain⟨ρ0,hu0⟩:=hs0.vo;have DZ:=yW hrv;obtain⟨Θ1,ρ1,hs1,hu1,hm1,RO,ZC⟩:=fE.IP ms hs0 hu0 Q7 (fun m hm=>by
  obtain⟨e,sz,rows,hH⟩:=DZ.1 m hm;exact⟨_,e,sz,rows,hH,rfl⟩)
 obtain⟨vs,bs',m1,m2,m3,m4,m5⟩:=ET hs0 hres;have hq:∀m e sz rows,L6.H[m]?=some (.row .uq e sz rows)->∃v cs ns,κ0 m=some v/\0<sz/\(∀r∈rows,r.length=sz)/\w'.ownsRow 0 e sz v rows.length cs/\yl w' (vz e) 0 cs rows.flatten ns/\ns.Nodup/\(∀b∈ns,ρ1 b=m+1)/\∀g,v.ownBlock=some g->Θ1 g=m+2:=by
  intro m e sz rows hH;have hnm:m∉ms:=fun hm=>by
   obtain⟨e',sz',eO,GV⟩:=DZ.1 m hm;rw[hH]at GV;cases GV
  have R4:(kill L6.H ms)[m]?=some (.row .uq e sz rows):=by rw[gD hnm];exact hH
  obtain⟨v,cs,ns,r1,r2,r3,r4,r5⟩:=hu1.rows m e sz rows R4;obtain⟨p1,p2,v2,_,_,p3,_,_,p4,_⟩:=hs1.ob m _ R4;rw[r1]at p3;cases p3;exact⟨v,cs,ns,r1,p1,p2,r2,r3,r4,r5,p4⟩
 have Dk:∀m e sz rows,m∉ms->L6.H[m]?=some (.row .sh e sz rows)->∃v cs ns,κ0 m=some v/\0<sz/\(∀r∈rows,r.length=sz)/\w'.ownsRow 0 e sz v rows.length cs/\oH w' cs rows.flatten ns/\(∀b∈ns,Θ1 b=0)/\∀g,v.ownBlock=some g->Θ1 g=m+2:=by
  intro m e sz rows hnm hH;obtain⟨p1,p2,v2,cs,ns,p3,p4,p5,p6,p7⟩:=hs1.ob m _ (show(kill L6.H ms)[m]?=_ by rw[gD hnm];exact hH);exact⟨v2,cs,ns,p3,p1,p2,p4,p5,p7,p6⟩
 obtain⟨c,ts,us,EL,Ch⟩:=Bo (w:=w') (vs:=vs) (fun b hb=>(hu1.free b hb).1) hq Dk hs0.tF hrv hqm Ru (by omega) (fun i d hd=>by
  obtain⟨v,b,k1,k2,k3⟩:=m4 i d hd;exact⟨v,b,k1,k2,fun x hx=>RO x (m5 x (k3 x hx))⟩) hm1
 have Q0:∃v,(results fn a'.tmps).run P w'=.ok v w'/\Bv w' v (Md es) c ts us:=by
  have hrun:(results fn a'.tmps).run P w'=.ok (if h:vs.toArray.size=1 then vs.toArray[0]else .tuple vs.toArray) w':=by
   rw[results_eq,oL];simp[m1]
  cases EL with
  |nil=>exact⟨.tuple #[],by simpa using hrun,.iw [] [] [] [] [] .nil⟩
  |cons v vs d es b1 b2 t1 t2 u1 u2 hv ua=>
   cases ua with
   |nil=>
    simp only[dV];exact⟨v,by simpa using hrun,.v hv⟩
   |cons v2 vs d2 es b3 b4 t3 t4 u3 u4 Gc ua=>exact⟨.tuple (v::v2::vs).toArray,by simpa using hrun,.iw _ _ _ _ _ (.cons _ _ _ _ _ _ _ _ _ _ hv (.cons _ _ _ _ _ _ _ _ _ _ Gc ua))⟩
 obtain⟨v,WH,RJ⟩:=Q0;refine⟨Da,hs0.defers,hs0.stays,v,c,ts,us,WH,RJ,fun b hb'=>?_⟩;obtain⟨⟨m,hm,hΘ⟩,_⟩:=Ch.top b hb';exact hs1.mine b (by omega)
theorem Jf.of{f:FuncId}{fn:Func}{c:Code}{ds:aR}{e sz:Nat}{rows eO:List aR}(hf:P.funcs[f]?=some fn)(hb:fn.body=some c)(hn:(fn.name== "runtime.NumGoroutine")=false)
 (hl:ds.length<=fn.ntmps) (hfl:eO.flatten.all D.flat=true) (h:rows.length<=maxLen->∀Z:wV,Z.nt=fn.ntmps->AW P Z c (SX P fn (.fr e sz eO)) ⟨yp 0 ds,[.row .uq e sz rows]⟩) (hfe:YZ e=true:=by kernel_rfl):Jf P f ds e sz rows eO:=by
 refine⟨⟨fn,hf,by simp[hb],hn⟩,?_⟩;intro w κ args v cs WK hlen hargs hk0 hk1 hone hsz hrl hown hrd;refine calls_of_wp hf hb ?_;let Θ:Nat->Nat:=fun b=>if v.ownBlock=some b then 2 else if b<w.heap.size then 1 else 0
 let Z:wV:=⟨w,Θ,fun b=>v.ownBlock=some b,fn.ntmps,fun _=>False,WK⟩
 have hlt:∀b,v.ownBlock=some b->b<w.heap.size:=fun b hb'=>(hown.lt b hb').2
 have Q6:rows.length<=maxLen:=(gX.sl ⟨w,v,_,wP hrl hown hrd⟩).1;have hs:fE Z ⟨yp 0 ds,[.row .uq e sz rows]⟩ κ Θ {tmps:=args.toArray++Array.replicate (fn.ntmps-args.toArray.size) undef,defers:=[]} w:=by
  refine⟨rfl,?_,fun i hi=>hk1 i (by simpa using hi),?_,?_,?_,?_,?_,?_,⟨rfl,rfl,rfl,br _,fun _ _ _=>rfl⟩,⟨fun _=>0,by simp,?_,?_⟩⟩
  ·simp[Z];omega
  ·intro id u hu;rcases Nat.eq_zero_or_pos id with rfl|hp
   ·rw[hk0]at hu;cases hu;exact hone
   ·rw[hk1 id hp]at hu;cases hu
  ·intro t;rw[I6];simp only[xh,AF,yg];cases hd:ds[t]? with
   |none=>exact⟨[],.of (.any _),by simp⟩
   |some x=>
    obtain⟨u,k1,k2⟩:=hargs t x hd;refine⟨[],?_,by simp⟩;have hlt:t<args.length:=(aN.1 k1).1;have:(args.toArray++Array.replicate (fn.ntmps-args.toArray.size) undef).getD t undef=u:=by
     rw[cW,fU (by simpa using hlt)];simp[k1]
    rw[this];exact k2
  ·intro j o hj;cases j with
   |zero=>
    simp at hj;subst hj;exact⟨hsz,hrl,v,cs,[],hk0,hown,hrd,fun g hg=>by simp only[Θ];rw[bP hg],by simp⟩
   |succ j=>simp at hj
  ·intro b hb';simp only[Θ]at hb';split at hb'
   ·rename_i hv;exact hlt b hv
   ·split at hb'
    ·assumption
    ·exact absurd rfl hb'
  ·intro b hb' hx;refine⟨rfl,?_⟩;have hx':¬v.ownBlock=some b:=hx;simp only[Θ];rw[bE hx'];split<;>omega
  ·intro b hb';simp only[Θ]at hb';split at hb'
   ·rename_i hv;exact .inr hv
   ·split at hb'<;>omega
  ·intro id e' sz' gA hj;cases id with
   |zero=>
    simp at hj;obtain⟨rfl,rfl,rfl⟩:=hj;exact⟨v,cs,[],hk0,hown,.of hrd (zj (EW hfe)),by simp,by simp⟩
   |succ j=>simp at hj
  ·intro id o hj;cases id with
   |zero=>simp at hj;subst hj;exact R8.I8 rfl
   |succ j=>simp at hj
 refine wp_mono (h Q6 Z rfl _ _ _ _ hs) ?_;rintro x a' w' ⟨L6,κ0,Θ0,hs0,hrq⟩;obtain⟨Da,hdf,hst,u,bs,ts,us,hrun,hres,Rt⟩:=SX.out hs0 hrq;have Q0:∃u cs',(results fn a'.tmps).run P w'=.ok u w'/\u.oneCell'=true/\(∀r∈eO,r.length=sz)/\w'.ownsRow 0 e sz u eO.length cs'/\oH w' cs' eO.flatten []/\(∀g,u.ownBlock=some g->w.heap.size<=g\/v.ownBlock=some g)/\
  w'.os=w.os/\w'.tape=w.tape/\w'.output=w.output/\w.heap.size<=w'.heap.size/\∀b,b<w.heap.size->v.ownBlock≠some b->w'.heap[b]?=w.heap[b]?:=by
  cases hres with
  |v hv=>
   cases hv with
   |cell hc=>
    cases hc with
    |pure hc=>cases hc
    |fr _ _ _ cs' ns h1 h2 h3 h4 h5=>
     have:=h4.rd.flat hfl;subst this;exact⟨u,cs',hrun,h5,h2,h3,h4.rd,fun g hg=>Rt g (by simp[hg]),hst.os,hst.tape,hst.output,hst.size,fun b hb' hx=>hst.block b hb' hx⟩
 obtain⟨u,cs',q1,q2⟩:=Q0;have post:a'.defers=[]/\∃v',(results fn a'.tmps).run P w'=.ok v' w'/\∃v2 cs2,Ending.returned v'=.returned v2/\v2.oneCell'=true/\(∀r∈eO,r.length=sz)/\w'.ownsRow 0 e sz v2 eO.length cs2/\oH w' cs2 eO.flatten []/\(∀g,v2.ownBlock=some g->w.heap.size<=g\/v.ownBlock=some g)/\
  w'.os=w.os/\w'.tape=w.tape/\w'.output=w.output/\w.heap.size<=w'.heap.size/\∀b,b<w.heap.size->v.ownBlock≠some b->w'.heap[b]?=w.heap[b]?:=⟨hdf,u,q1,u,cs',rfl,q2⟩
 rcases Da with rfl|rfl
 ·exact post
 ·exact post
theorem a0P{o:Oper}{f t id:Nat}{xs:Array Operand}{ts:Array TypeId}{e sz:Nat}{rows eO:List aR}(hop:o.op=.call {callee:=.value (.func f),args:=xs,argTypes:=ts})(hd:o.dst=some t)(hg:o.guard=none)
 (ht:t<Z.nt) (hH:st.H[id]?=some (.row .uq e sz rows)) (hfe:YZ e=true) (hfl:rows.flatten.all D.flat=true) (hb:((xs.toList.map st.ev).all D.bare)=true) (sD:Jf P f ((xs.toList.map st.ev).map (D.rnS [id])) e sz rows eO)
 (h:AO P Z all rest Q ⟨(t,.acc st.H.length)::st.σ,kill st.H [id]++[.row .uq e sz eO]⟩):AO P Z all (o::rest) Q st:=by
 intro κ Θ a w hs;obtain⟨hsz,hrl,v,cs,bs,hk,hown,hrd,Hz,_⟩:=hs.ob id _ hH;have PD:=hrd.flat hfl;subst PD;have Z7:id<st.H.length:=(aN.1 hH).1;let κc:Nat->Option Value:=fun j=>if j=0 then some v else none
 have WK:SZ w fun b=>v.ownBlock=some b:=by
  obtain⟨B,v1,v2⟩:=hs.vsb;refine⟨B,v1,fun b hB=>⟨(v2 b hB).2.1,fun hb'=>?_⟩⟩;have e1:=Hz b hb';rcases hs.mine b (by omega)with q|q
  ·have:=(v2 b hB).1;omega
  ·exact(v2 b hB).2.2 q
 have hargs:∀(i:Nat) d,((xs.toList.map st.ev).map (D.rnS [id]))[i]?=some d->∃u,(xs.toList.map a.eval)[i]?=some u/\vR w κc u d []:=by
  intro i d Pz;rw[cR,cR]at Pz;cases hx:xs.toList[i]? with
  |none=>rw[hx]at Pz;cases Pz
  |some x=>
   rw[hx]at Pz;simp only[dM,bC]at Pz;subst Pz;refine⟨a.eval x,by rw[cR,hx];rfl,?_⟩;obtain⟨bs,r,hz⟩:=hs.ev x;have aAV:(st.ev x).bare=true:=b8.1 hb _ (cJ.2 ⟨x,aE hx,rfl⟩);obtain⟨b',r',_⟩:=vR.rn (o:=[id]) (κ':=κc) (Θ:=fun _=>0) (Θ':=fun _=>0) (fun i j u h1 h2=>by
    have h3:=YF h1;cases j with
    |zero=>simp at h3;subst h3;rw[hk]at h2;simpa[κc]using h2
    |succ j=>simp at h3) (fun _ _=>rfl) r (fun _ _=>rfl)
   have:=r'.a4R (D.a4S [id] aAV);subst this;exact r'
 have hc:=sD.2 w κc (xs.toList.map a.eval) v cs WK (by simp) hargs (by simp[κc]) (fun i hi=>by simp only[κc];rw[bE (by omega)]) (hs.tF id v hk) hsz hrl hown hrd;refine wpList_plain hg fun K hK=>?_
 unfold Oper.wp;rw[CY hop sD.1,Oper.upon_enter];have e0:xs.map a.eval=(xs.toList.map a.eval).toArray:=by rw[<-mL,sR]
 rw[e0];refine hc.mono ?_;rintro x w' ⟨v',cs',rfl,hone,Q9,FZ,RM,PC,h1,h2,h3,h4,W7⟩;show K (a.put o.dst v') w';rw[hd];let n:=st.H.length
 let Θ':Nat->Nat:=fun b=>if some b=v'.ownBlock then n+2 else Θ b
 have hvt:∀g,v'.ownBlock=some g->Θ g=id+2\/w.heap.size<=g:=by
  intro g Z6;rcases PC g Z6 with h|h
  ·exact .inr h
  ·exact .inl (Hz g h)
 have k:jy w w' Θ Θ' (id+2):=by
  refine⟨by omega,h1,h2,h3,h4,fun b hb hne=>W7 b hb (fun e=>hne (Hz b e)),fun b hb hne=>?_,fun b hb=>?_⟩
  ·simp only[Θ'];rw[bE];intro e;rcases hvt b e.symm with h|h
   ·exact hne h
   ·omega
  ·simp only[Θ']at hb;split at hb
   ·rename_i e;exact(FZ.lt b e.symm).2
   ·exact eR (hs.own b hb) h4
 have hm:∀b,2<=Θ' b->Bu Z b:=by
  intro b hb;simp only[Θ']at hb;split at hb
  ·rename_i e;rcases hvt b e.symm with h|h
   ·exact hs.mine b (by omega)
   ·exact .inl (eY hs.base h)
  ·exact hs.mine b hb
 have hn:=AD (hs.uY n (br _)) (some v');obtain⟨ρ,hu⟩:=hs.vo;have wo:=hs.tH k hn hu;have key:∀(j:Nat) y,(kill st.H [id]++[.row .uq e sz eO])[j]?=some y->(j=n/\y=.row .uq e sz eO)\/(j≠n/\(y=.gone\/(j∉[id]/\st.H[j]?=some y))):=by
  intro j y hj;rcases ER j y hj with⟨h1,h2⟩|⟨h1,h2⟩
  ·rw[iU]at h1;exact .inl ⟨h1,h2⟩
  ·rw[iU]at h1;exact .inr ⟨h1,qo h2⟩
 have hs':fE Z ⟨st.σ,kill st.H [id]++[.row .uq e sz eO]⟩ (Al κ n (some v')) Θ' a w':=by
  refine hs.step k hm hn ?_ ?_ ?_ ⟨ρ,wo.1,fun j e' sz' gA hj=>?_,fun j y hj=>?_⟩
  ·intro i hi;simp only[bB,aQ,cE,iU]at hi;unfold Al;rw[bE (by omega)];exact hs.uY i (by omega)
  ·intro i y hy;unfold Al at hy;split at hy
   ·cases hy;exact hone
   ·exact hs.tF i y hy
  ·intro j y hj;rcases key j y hj with⟨rfl,rfl⟩|⟨_,hy|⟨hjk,hy⟩⟩
   ·exact .inr (.inr ⟨hsz,Q9,v',cs',[],ng _ _ _,FZ,RM,fun g Z6=>by simp only[Θ'];rw[bP Z6.symm],by simp⟩)
   ·exact .inl hy
   ·exact .inr (.inl ⟨fun e=>hjk (by simp;omega),hy⟩)
  ·rcases key j _ hj with⟨rfl,hy⟩|⟨_,hy|⟨hjk,hy⟩⟩
   ·simp only[Ob.row.injEq,AG]at hy;obtain⟨rfl,rfl,rfl⟩:=hy;exact⟨v',cs',[],ng _ _ _,FZ,.of RM (zj (EW hfe)),by simp,by simp⟩
   ·cases hy
   ·exact wo.2.1 j e' sz' gA (fun e=>hjk (by simp;omega)) hy
  ·rcases key j _ hj with⟨rfl,hy⟩|⟨_,hy|⟨hjk,hy⟩⟩
   ·subst hy;exact R8.I8 rfl
   ·subst hy;trivial
   ·exact wo.2.2 j y (fun e=>hjk (by simp;omega)) hy
 refine hK _ _ (h _ _ _ _ (hs'.set (t:=t) (d:=.acc n) (bs:=[]) ht ?_ (by simp)));exact(Bf.acc n _ (ng _ _ _)).Tv
end
def iz(P:Program)(f:FuncId)(cells cells':aR)(ds:aR)(d:D):Prop:=
 (∃fn,P.funcs[f]?=some fn/\fn.body.isSome=true/\(fn.name== "runtime.NumGoroutine")=false)/\
 ∀(w:World) (Θ:Nat->Nat) (g:Nat) (cs:Array Value) (T:TypeId) (args:cG) (bs ts us:ah),
  SZ w (fun b=>b=g\/b∈ts)->w.heap[g]?=some (.cells cs T (0,0))->D2 w (.agg cs::args) (.agg cells::ds) bs ts us->
  (∀b∈bs,Θ b=0)->(∀b,Θ b≠0->b<w.heap.size)->(∀b,Θ b<=1)->Θ g=1->(∀b∈ts,Θ b=1/\b∈us/\b≠g)->us.Nodup->(∀b∈us,(b∉ts->Θ b=0)/\Wr w b)->
  Calls P f (.pointer (some ⟨g,0,none⟩)::args).toArray w (fun e w'=>∃v cs' T' b2 t2 u2 b3 t3 u3,e=.returned v/\w'.os=w.os/\w'.tape=w.tape/\w'.output=w.output/\w.heap.size<=w'.heap.size/\
   (∀b,b<w.heap.size->b≠g->b∉ts->w'.heap[b]?=w.heap[b]?)/\w'.heap[g]?=some (.cells cs' T' (0,0))/\(cs.size=3->cs'.size=3/\cs'[0]?=cs[0]?)/\
   Bv w' v d b2 t2 u2/\wC w' cs'.toList cells' b3 t3 u3/\(∀b∈b3++b2,(b<w.heap.size->Θ b=0\/b∈ts)/\b≠g/\b∉t3++t2)/\(u3++u2).Nodup/\
   (∀b∈u3++u2,(w.heap.size<=b\/b∈us)/\b≠g/\Wr w' b)/\∀b∈t3++t2,b∈u3++u2/\(w.heap.size<=b\/b∈ts))
section
variable{P:Program}{Z:wV}{Q:Exit->St->Prop}{st:St}{κ κ':Nat->Option Value}{Θ Θ':Nat->Nat}{a:Act}{w w':World}{all:Array Oper}{rest:List Oper}
theorem IW.a0a{cs:Array Value}{ds:aR}{bs ts us:ah}(h:IW w (.agg cs) (.agg ds) bs ts us):wC w cs.toList ds bs ts us:=by
 generalize hv:Value.agg cs=v at h;cases h with
 |cell h=>
  cases h with
  |pure h=>
   cases h with
   |agg l _ _ h=>cases hv;simpa using wC.Fc h
 |agg l _ _ _ _ h=>cases hv;simpa using h
theorem PV.a0a{cs:Array Value}{ds:aR}{bs:ah}(h:PV w κ (.agg cs) (.agg ds) bs):gH w κ cs.toList ds bs:=by
 generalize hv:Value.agg cs=v at h;cases h with
 |cell h=>
  cases h with
  |pure h=>
   cases h with
   |agg l _ _ h=>cases hv;simpa using gH.Fc h
 |agg l _ _ h=>cases hv;simpa using h
theorem Gj.shown{v:Value}{d:D}{bs ts us:ah}(h:Gj w v d bs ts us):∃b,Rd w v d.shC b:=by
 cases h with
 |pure h=>
  have e:d.shC=d:=by cases h<;>rfl
  exact⟨_,e.symm▸h⟩
 |fr e sz rows cs ns h1 h2 h3 h4 h5=>exact⟨_,wP h2 h3 h4.rd⟩
 |fs e sz rows cs ns h1 h2 h3 h4 h5=>exact⟨_,wP h2 h3 h4⟩
theorem wC.shown{vs:cG}{ds:aR}{bs ts us:ah}(h:wC w vs ds bs ts us):∃b,oH w vs (ds.map D.shC) b:=by
 induction h with
 |nil=>exact⟨_,.nil⟩
 |cons v vs d ds b1 b2 t1 t2 u1 u2 h1 h2 _ ih=>
  obtain⟨b,q⟩:=h2.shown;obtain⟨b',q'⟩:=ih;exact⟨_,.cons _ _ _ _ _ _ h1 q q'⟩
theorem IW.shown{v:Value}{d:D}{bs ts us:ah}(h:IW w v d bs ts us):gX d.shV:=by
 cases h with
 |cell h=>
  by_cases w5:∃ds,d=.agg ds
  ·obtain⟨ds,rfl⟩:=w5;cases h with
   |pure h=>cases h with
    |agg cs _ _ h=>
     obtain⟨b,q⟩:=(wC.Fc h).shown;exact⟨w,_,_,.agg _ _ _ q⟩
  ·have e:d.shV=d.shC:=by cases d<;>first|rfl|exact absurd ⟨_,rfl⟩ w5
   rw[e];obtain⟨b,q⟩:=h.shown;exact⟨w,_,_,q⟩
 |agg cs ds bs ts us h=>
  obtain⟨b,q⟩:=h.shown;exact⟨w,_,_,.agg _ _ _ q⟩
theorem D2.shown{vs:cG}{ds:aR}{bs ts us:ah}(h:D2 w vs ds bs ts us):∀d∈ds.map D.shV,gX d:=by
 induction h with
 |nil=>intro d hd;cases hd
 |cons v vs d ds b1 b2 t1 t2 u1 u2 h2 _ ih=>
  intro x hx;rcases bV.1 hx with rfl|hx
  ·exact h2.shown
  ·exact ih x hx
def OX(L:rp)(b:Nat):Option Nat:=ix (fun x:Fs=>x.v.ownBlock==some b) L
def vq(L:rp)(b:Nat):Option Nat:=ix (fun x:Fs=>x.ns.contains b) L
theorem Mn{L:rp}(hnd:(L.flatMap Fs.bl).Nodup){i:Nat}{x:Fs}{b:Nat}(hi:L[i]?=some x)(hb:x.v.ownBlock=some b):OX L b=some i:=
 Nf hi (by simp[hb]) (fun j y hj hy=>by
  simp only[cr]at hy;exact D9 hnd j i y x b hj hi (by simp[Fs.bl,hy]) (by simp[Fs.bl,hb]))
theorem X1{L:rp}{b i:Nat}(h:OX L b=some i):b∈L.flatMap Fs.ts:=by
 obtain⟨x,hx,hp⟩:=FJ h;exact cB.2 ⟨x,aE hx,by simp only[cr]at hp;simp[Fs.ts,hp]⟩
theorem zw{L:rp}{b:Nat}(h:b∉L.flatMap Fs.ts):OX L b=none:=by
 cases hb:OX L b with
 |none=>rfl
 |some i=>exact absurd (X1 hb) h
theorem Em{L:rp}(hnd:(L.flatMap Fs.bl).Nodup){i:Nat}{x:Fs}{b:Nat}(hi:L[i]?=some x)(hb:b∈x.ns):vq L b=some i:=
 Nf hi (by simpa using hb) (fun j y hj hy=>D9 hnd j i y x b hj hi (by simp only[Fs.bl];exact aW.2 (.inr (by simpa using hy))) (by simp only[Fs.bl];exact aW.2 (.inr hb)))
theorem wY{L:rp}{b i:Nat}(h:vq L b=some i):∃x,L[i]?=some x/\b∈x.ns:=by
 obtain⟨x,hx,hp⟩:=FJ h;exact⟨x,hx,by simpa using hp⟩
theorem Gm{L:rp}{b:Nat}(h:b∈L.flatMap Fs.ts):b∈L.flatMap Fs.bl:=by
 obtain⟨x,hx,IM⟩:=cB.1 h;exact cB.2 ⟨x,hx,by simp only[Fs.bl,Fs.ts]at IM⊢;exact aW.2 (.inl IM)⟩
theorem v7{L:rp}{i b:Nat}{x:Fs}(h:L[i]?=some x)(hb:b∈x.ns):b∈L.flatMap Fs.bl:=
 cB.2 ⟨x,aE h,by simp only[Fs.bl];exact aW.2 (.inr hb)⟩
theorem UH{L:rp}(hnd:(L.flatMap Fs.bl).Nodup):∀x∈L,x.bl.Nodup:=by
 induction L with
 |nil=>intro x hx;cases hx
 |cons z r ih=>
  intro x hx;simp only[cw]at hnd;obtain⟨n1,n2,_⟩:=cC.1 hnd;rcases bV.1 hx with rfl|hx
  ·exact n1
  ·exact ih n2 x hx
theorem FK{L:rp}(hnd:(L.flatMap Fs.bl).Nodup){i b:Nat}{x:Fs}(h:L[i]?=some x)(hb:b∈x.ns):b∉L.flatMap Fs.ts:=by
 intro ht;obtain⟨y,hy,hby⟩:=cB.1 ht;obtain⟨j,hj⟩:=iN hy;have:=D9 hnd j i y x b hj h (by simp only[Fs.bl,Fs.ts]at hby⊢;exact aW.2 (.inl hby)) (by simp only[Fs.bl];exact aW.2 (.inr hb));subst this;rw[hj]at h;cases h;have Ug:=UH hnd x hy;simp only[Fs.bl]at Ug;exact(cC.1 Ug).2.2 b hby b hb rfl
theorem MY{L:rp}(hnd:(L.flatMap Fs.bl).Nodup){i:Nat}{x:Fs}(h:L[i]?=some x):x.ns.Nodup:=by
 have:=UH hnd x (aE h);simp only[Fs.bl]at this;exact(cC.1 this).2.1
def a0Z(P:Program)(fn:Func)(v0:Value)(cells':aR)(d:D)(e:Exit)(st:St):Prop:=
 (e=.ret\/e=.normal)/\∃nz ds0 Sg es ms qs,Jn P st fn.results.toList=some ds0/\st.H[0]?=some (.CW Sg v0)/\
  CX st.H nz (.agg Sg::ds0)=some (.agg cells'::es,ms,qs)/\ms.Nodup/\qs.Nodup/\(∀m∈qs,m∉ms)/\Md es=d
theorem a0Z.out{fn:Func}{v0:Value}{cells':aR}{d:D}{e:Exit}{a':Act}{w':World}{L6:St}{κ0:Nat->Option Value}{Θ0:Nat->Nat}(hs0:fE Z L6 κ0 Θ0 a' w')(hrq:a0Z P fn v0 cells' d e L6):
 (e=.ret\/e=.normal)/\a'.defers=[]/\U4 Z w'/\∃v g cs' T b2 t2 u2 b3 t3 u3,(results fn a'.tmps).run P w'=.ok v w'/\YG v0=.pointer (some ⟨g,0,none⟩)/\w'.heap[g]?=some (.cells cs' T (0,0))/\(∀c,I2 v0=some c->cs'.size=3/\cs'[0]?=some c)/\
  Bv w' v d b2 t2 u2/\wC w' cs'.toList cells' b3 t3 u3/\(∀b∈b3++b2,(b<Z.W0.heap.size->¬Z.X b->Z.Θ0 b=0)/\b≠g/\b∉t3++t2)/\(u3++u2).Nodup/\
  (∀b∈u3++u2,XI Z b/\b≠g/\Wr w' b)/\∀b∈t3++t2,b∈u3++u2/\Bu Z b:=by
 obtain⟨Da,nz,ds0,Sg,es,ms,qs,hres,hH0,hrv,Q7,Ru,hqm,rfl⟩:=hrq;obtain⟨ρ0,hu0⟩:=hs0.vo;have DZ:=yW hrv;obtain⟨Θ1,ρ1,hs1,hu1,hm1,RO,ZC⟩:=fE.IP ms hs0 hu0 Q7 (fun m hm=>by
  obtain⟨e,sz,rows,hH⟩:=DZ.1 m hm;exact⟨_,e,sz,rows,hH,rfl⟩)
 obtain⟨vs,bs',m1,m2,m3,m4,m5⟩:=ET hs0 hres;have hq:∀m e sz rows,L6.H[m]?=some (.row .uq e sz rows)->∃v cs ns,κ0 m=some v/\0<sz/\(∀r∈rows,r.length=sz)/\w'.ownsRow 0 e sz v rows.length cs/\yl w' (vz e) 0 cs rows.flatten ns/\ns.Nodup/\(∀b∈ns,ρ1 b=m+1)/\∀g,v.ownBlock=some g->Θ1 g=m+2:=by
  intro m e sz rows hH;have hnm:m∉ms:=fun hm=>by
   obtain⟨e',sz',eO,GV⟩:=DZ.1 m hm;rw[hH]at GV;cases GV
  have R4:(kill L6.H ms)[m]?=some (.row .uq e sz rows):=by rw[gD hnm];exact hH
  obtain⟨v,cs,ns,r1,r2,r3,r4,r5⟩:=hu1.rows m e sz rows R4;obtain⟨p1,p2,v2,_,_,p3,_,_,p4,_⟩:=hs1.ob m _ R4;rw[r1]at p3;cases p3;exact⟨v,cs,ns,r1,p1,p2,r2,r3,r4,r5,p4⟩
 have h0m:0∉ms:=fun hm=>by
  obtain⟨e',sz',eO,GV⟩:=DZ.1 0 hm;rw[hH0]at GV;cases GV
 have h0q:0∉qs:=fun hm=>by
  obtain⟨_,e',sz',eO,GV⟩:=DZ.2 0 hm;rw[hH0]at GV;cases GV
 obtain⟨hv0,g,cs',T,hk0,hg,T4,bb,hbb,hbz⟩:=hs1.ob 0 _ (show(kill L6.H ms)[0]?=_ by rw[gD h0m];exact hH0);have aAe:∀c,I2 v0=some c->cs'.size=3/\cs'[0]?=some c:=fun c hc=>hv0.2 c hc g cs' T hk0 hg
 have hv0:=hv0.1;have e0:YG v0=.pointer (some ⟨g,0,none⟩):=by rw[hv0]at hk0;exact lQ hk0
 have T4:Θ1 g=2:=T4;have Dk:∀m e sz rows,m∉ms->L6.H[m]?=some (.row .sh e sz rows)->∃v cs ns,κ0 m=some v/\0<sz/\(∀r∈rows,r.length=sz)/\w'.ownsRow 0 e sz v rows.length cs/\oH w' cs rows.flatten ns/\(∀b∈ns,Θ1 b=0)/\∀g,v.ownBlock=some g->Θ1 g=m+2:=by
  intro m e sz rows hnm hH;obtain⟨p1,p2,v2,cs,ns,p3,p4,p5,p6,p7⟩:=hs1.ob m _ (show(kill L6.H ms)[m]?=_ by rw[gD hnm];exact hH);exact⟨v2,cs,ns,p3,p1,p2,p4,p5,p7,p6⟩
 obtain⟨c,tt,uu,EL,Ch⟩:=Bo (w:=w') (vs:=.agg cs'::vs) (fun b hb=>(hu1.free b hb).1) hq Dk hs0.tF hrv hqm Ru (by simp;omega) (fun i d hd=>by
  cases i with
  |zero=>
   simp at hd;subst hd;have:=PV.agg _ _ _ hbb;exact⟨_,bb,rfl,.v (by simpa using this),hbz⟩
  |succ i=>
   obtain⟨v,b,k1,k2,k3⟩:=m4 i d (by simpa using hd);exact⟨v,b,by simpa using k1,k2,fun x hx=>RO x (m5 x (k3 x hx))⟩) hm1
 cases EL with
 |cons _ _ _ _ b3 b2 t3 t2 u3 u2 a14 ua=>
 have Q0:∃v,(results fn a'.tmps).run P w'=.ok v w'/\Bv w' v (Md es) b2 t2 u2:=by
  have hrun:(results fn a'.tmps).run P w'=.ok (if h:vs.toArray.size=1 then vs.toArray[0]else .tuple vs.toArray) w':=by
   rw[results_eq,oL];simp[m1]
  cases ua with
  |nil=>exact⟨.tuple #[],by simpa using hrun,.iw [] [] [] [] [] .nil⟩
  |cons v vs d es b1 b2 t1 t2 u1 u2 hv ua=>
   cases ua with
   |nil=>
    simp only[dV];exact⟨v,by simpa using hrun,.v hv⟩
   |cons v2 vs d2 es b3 b4 t3 t4 u3 u4 Gc ua=>exact⟨.tuple (v::v2::vs).toArray,by simpa using hrun,.iw _ _ _ _ _ (.cons _ _ _ _ _ _ _ _ _ _ hv (.cons _ _ _ _ _ _ _ _ _ _ Gc ua))⟩
 obtain⟨v,WH,RJ⟩:=Q0;have Hz:∀b∈t3++t2,Wr w' b:=by
  intro b hb;rcases aW.1 hb with hb|hb
  ·exact PX a14 b hb
  ·exact PW RJ b hb
 refine⟨Da,hs0.defers,hs0.stays,v,g,cs',T,b2,t2,u2,b3,t3,u3,WH,e0,hg,aAe,RJ,a14.a0a,fun b hb=>⟨fun hlt hx=>?_,fun e=>?_,fun ht=>?_⟩,Ch.nd,fun b hb=>?_,fun b hb=>?_⟩
 ·have:=Ch.zero b hb;rw[<-(hs1.old b hlt hx).1];exact this
 ·have:=Ch.zero b hb;subst e;omega
 ·obtain⟨⟨m,_,hΘ⟩,_⟩:=Ch.top b ht;have:=Ch.zero b hb;omega
 ·rcases Ch.mem b hb with h|⟨m,hm,hρ⟩
  ·obtain⟨⟨m,hm,hΘ⟩,_⟩:=Ch.top b h;refine⟨.inl (hs1.mine b (by omega)),fun e=>?_,Hz b h⟩;subst e;rw[T4]at hΘ;have:m=0:=by omega
   subst this;exact h0q hm
  ·have:=hu1.free b (by omega);refine⟨this.2.1,fun e=>?_,this.2.2⟩;have h0:=this.1;subst e;omega
 ·obtain⟨⟨m,hm,hΘ⟩,h2⟩:=Ch.top b hb;exact⟨h2,hs1.mine b (by omega)⟩
theorem Ej.len{vs:cG}{ds:aR}{bs:ah}(h:Ej w κ vs ds bs):vs.length=ds.length:=by
 induction h with
 |nil=>rfl
 |cons v vs d ds b1 b2 h1 _ ih=>simp[ih]
def a0Y(Z:wV)(u:Value)(rows:List aR):Prop:=
 (∀b,¬Z.U b)/\∃c bs,I2 u=some c/\Rd Z.W0 c (.sl rows) bs/\∀b∈bs,b<Z.W0.heap.size/\¬Z.X b/\Z.Θ0 b=0
theorem iz.of{f:FuncId}{fn:Func}{c:Code}{cells cells' As ds OB:aR}{obs:bz}{d:D}(hf:P.funcs[f]?=some fn)(hb:fn.body=some c)(hn:(fn.name== "runtime.NumGoroutine")=false)
 (hI:B1 1 (.agg cells::ds)=(.agg As::OB,obs)) (hl:OB.length+1<=fn.ntmps)
 (h:(∀x∈(D.agg cells::ds).map D.shV,gX x)->∀(v0:Value) (Z:wV),Z.nt=fn.ntmps->(obs=[]->As.length=3->∀rows,As[0]?=some (.sl rows)->a0Y Z v0 rows)->AW P Z c (a0Z P fn v0 cells' d) ⟨yp 0 (.ptr 0 0::OB),.CW As v0::obs⟩):iz P f cells cells' ds d:=by
 refine⟨⟨fn,hf,by simp[hb],hn⟩,?_⟩;intro w Θ g cs T args bs ts us hvs hg hargs hz hown h1 hg1 hts hnd wo;have WI:=hargs.shown;obtain⟨L,q1,q2,rfl,rfl,q6,q5⟩:=hargs.inst 1;rw[hI]at q1 q5;have q1:L.map Fs.ob=obs:=q1;refine calls_of_wp hf hb ?_;let v0:Value:=.pointer (some ⟨g,0,none⟩)
 let u0:Value:=if cs.size=3 then .tuple ⟨[v0,cs.toList.headD undef]⟩else v0
 let κ0:Nat->Option Value:=fun i=>if i=0 then some v0 else(L[i-1]?).map Fs.v
 let Θ0:Nat->Nat:=fun b=>if b=g then 2 else match OX L b with|some i=>i+3|none=>Θ b
 let ρ0:Nat->Nat:=fun b=>match vq L b with|some i=>i+2|none=>0
 let Z:wV:=⟨w,Θ0,fun b=>b=g\/b∈L.flatMap Fs.ts,fn.ntmps,fun b=>b∈L.flatMap Fs.bl,hvs⟩
 have hgl:g<w.heap.size:=(bS.1 hg).1;have hk0:κ0 0=some v0:=rfl;have hkS:∀i x,L[i]?=some x->κ0 (i+1)=some x.v:=fun i x hx=>by simp[κ0,hx]
 have hnm:Names κ0 1 L:=fun i x hx=>by rw[Nat.add_comm];exact hkS i x hx
 obtain⟨XX,hrd,hb0⟩:=q5 κ0 hnm;have hlen:=hrd.len;have Rv:∀(i:Nat) x b,L[i]?=some x->x.v.ownBlock=some b->b∈L.flatMap Fs.ts:=fun i x b hx hb'=>cB.2 ⟨x,aE hx,by simp[Fs.ts,hb']⟩
 have WN:∀(i:Nat) x b,L[i]?=some x->x.v.ownBlock=some b->Θ0 b=i+3:=by
  intro i x b hx hb';have:=(hts b (Rv i x b hx hb')).2.2;simp only[Θ0,Mn hnd hx hb'];rw[bE this]
 have Ul:∀b,Θ b=0->Θ0 b=0:=by
  intro b h0;have e1:b≠g:=fun e=>by subst e;omega
  have e2:b∉L.flatMap Fs.ts:=fun e=>by have:=(hts b e).1;omega
  simp only[Θ0,zw e2];rw[bE e1,h0]
 have a1G:∀(i:Nat) x b,L[i]?=some x->b∈x.ns->Θ0 b=0:=fun i x b hx hb'=>Ul b ((wo b (v7 hx hb')).1 (FK hnd hx hb'))
 have CR:∀b,Θ0 b≠Θ b->b=g\/b∈L.flatMap Fs.ts:=by
  intro b hne;by_cases e:b=g
  ·exact .inl e
  ·refine .inr (dK fun ht=>hne ?_);simp only[Θ0,zw ht];rw[bE e]
 have WD:∀(j:Nat) o,obs[j]?=some o->∃x,L[j]?=some x/\o=x.ob:=by
  intro j o hj;rw[<-q1,cR]at hj;cases hx:L[j]? with
  |none=>simp[hx]at hj
  |some x=>simp[hx]at hj;exact⟨x,rfl,hj.symm⟩
 have a1H:obs.length=L.length:=by rw[<-q1];simp
 have a14:∃b',gH w κ0 cs.toList As b'/\∀b∈b',Θ0 b=0:=by
  obtain⟨v,b',k1,k2,k3⟩:=hrd.at (i:=0) (d:=.agg As) rfl;simp at k1;subst k1;exact⟨b',k2.a0a,fun b hb'=>Ul b (hz b (hb0 b (k3 b hb')))⟩
 have hpt:YG u0=v0:=by simp only[u0];split<;>rfl
 have hkp:∀c,I2 u0=some c->cs.size=3/\cs[0]?=some c:=by
  intro c hc;simp only[u0]at hc;split at hc
  ·rename_i h3;refine⟨h3,?_⟩;simp only[I2,bC]at hc;have hl3:cs.toList.length=3:=by simpa using h3
   rw[<-lC];cases hcl:cs.toList with
   |nil=>rw[hcl]at hl3;simp at hl3
   |cons x xs=>rw[hcl]at hc;simp only[List.headD_cons]at hc;subst hc;rfl
  ·cases hc
 have aAg:cs.size=3->∃c,I2 u0=some c/\cs[0]?=some c:=by
  intro h3;have:I2 u0=some (cs.toList.headD undef):=by simp only[u0];rw[bP h3];rfl
  exact⟨_,this,(hkp _ this).2⟩
 have hs:fE Z ⟨yp 0 (.ptr 0 0::OB),.CW As u0::obs⟩ κ0 Θ0 {tmps:=(v0::args).toArray++Array.replicate (fn.ntmps-(v0::args).toArray.size) undef,defers:=[]} w:=by
  refine⟨rfl,?_,fun i hi=>?_,?_,?_,?_,?_,?_,?_,⟨rfl,rfl,rfl,br _,fun _ _ _=>rfl⟩,⟨ρ0,?_,?_,?_⟩⟩
  ·simp only[aQ]at hlen;simp[Z];omega
  ·simp only[aQ]at hi;simp only[κ0];rw[bE (by omega),dU (by omega)];rfl
  ·intro id u hu;simp only[κ0]at hu;split at hu
   ·cases hu;rfl
   ·cases hx:L[id-1]? with
    |none=>simp[hx]at hu
    |some x=>simp[hx]at hu;subst hu;exact(q2 x (aE hx)).2.2.2.2
  ·intro t;rw[I6];simp only[xh,AF,yg];have Xp:∀v,(v0::args)[t]?=some v->((v0::args).toArray++Array.replicate (fn.ntmps-(v0::args).toArray.size) undef).getD t undef=v:=by
    intro v hv;have hlt:=(aN.1 hv).1;rw[cW,fU (by simpa using hlt)];simp only[lD,hv,wX]
   cases t with
   |zero=>
    refine⟨[],?_,by simp⟩;rw[Xp v0 rfl];exact .v (.cell (.ptr 0 0 g hk0))
   |succ s=>
    rw[hG];cases hd:OB[s]? with
    |none=>exact⟨[],.of (.any _),by simp⟩
    |some x=>
     obtain⟨v,b',k1,k2,k3⟩:=hrd.at (i:=s+1) (d:=x) (by simpa using hd);rw[Xp v (by simpa using k1)];exact⟨b',.v k2,fun b hb'=>Ul b (hz b (hb0 b (k3 b hb')))⟩
  ·intro j o hj;cases j with
   |zero=>
    simp at hj;subst hj;obtain⟨b',k1,k2⟩:=a14;refine⟨⟨by rw[hpt];exact hk0,fun c hc g2 cs2 T2 hk2 Sv=>?_⟩,g,cs,T,hk0,hg,by simp[Θ0],b',k1,k2⟩;have e3:Value.pointer (some ⟨g,0,none⟩)=.pointer (some ⟨g2,0,none⟩):=lQ (hk0.symm.trans hk2);cases e3;rw[hg]at Sv;cases Sv;exact hkp c hc
   |succ j=>
    obtain⟨x,hx,rfl⟩:=WD j o (by simpa using hj);exact Fs.rel (q2 x (aE hx)) (hkS j x hx) (fun b hb'=>WN j x b hx hb') (fun b hb'=>a1G j x b hx hb') fun hs' b hb'=>Ul b (hz b (q6 x (aE hx) hs' b hb'))
  ·intro b hb';by_cases e:Θ0 b=Θ b
   ·exact hown b (by rw[<-e];exact hb')
   ·rcases CR b e with rfl|ht
    ·exact hgl
    ·exact hown b (by have:=(hts b ht).1;omega)
  ·intro b hlt hx;refine⟨rfl,?_⟩;have e:Θ0 b=Θ b:=dK fun e=>hx (CR b e)
   rw[e];exact h1 b
  ·intro b hb';refine .inr (CR b fun e=>?_);have:=h1 b;omega
  ·intro b hb';cases hbl:vq L b with
   |none=>simp[ρ0,hbl]at hb'
   |some i=>
    obtain⟨x,hx,IM⟩:=wY hbl;exact⟨a1G i x b hx IM,.inr (v7 hx IM),(wo b (v7 hx IM)).2⟩
  ·intro id e sz rows hj;cases id with
   |zero=>simp at hj
   |succ j=>
    obtain⟨x,hx,ZA⟩:=WD j _ (by simpa using hj);obtain⟨hsh,rfl,rfl,rfl⟩:=Fs.Qx ZA.symm;have p4:=(q2 x (aE hx)).uq hsh;obtain⟨p1,p2,p3,_,_⟩:=q2 x (aE hx);exact⟨x.v,x.cs,x.ns,hkS j x hx,p3,p4,MY hnd hx,fun b hb'=>by simp[ρ0,Em hnd hx hb']⟩
  ·intro id o hj;cases id with
   |zero=>simp at hj;subst hj;trivial
   |succ j=>
    obtain⟨x,hx,ZA⟩:=WD j _ (by simpa using hj);subst ZA;exact Fs.plain x
 have hold:obs=[]->As.length=3->∀rows,As[0]?=some (.sl rows)->a0Y Z u0 rows:=by
  intro ho hl3 rows hr0;have hL:L=[]:=dJ (by rw[<-a1H,ho];rfl);refine⟨fun b hb'=>by simp[Z,hL]at hb',?_⟩;obtain⟨b',k1,k2⟩:=a14;obtain⟨v,b1,p1,_,p3,p4⟩:=k1.at hr0;obtain⟨c,q6,q7⟩:=aAg (by have:=k1.length;rw[hl3]at this;simpa using this);have:v=c:=by
   rw[lC,q7]at p1;cases p1;rfl
  subst this;have aAq:Rd w v (.sl rows) b1:=by cases p3 with|pure h=>exact h
  refine⟨v,b1,q6,aAq,fun b hb'=>⟨aAq.lt b hb',fun hx=>?_,k2 b (p4 b hb')⟩⟩;have h0:=k2 b (p4 b hb');rcases hx with rfl|hx
  ·simp[Θ0]at h0
  ·simp[hL]at hx
 refine wp_mono (h WI u0 Z rfl hold _ _ _ _ hs) ?_;rintro x a' w' ⟨L6,κ1,Θ1,hs0,hrq⟩;obtain⟨Da,hdf,hst,v,g',cs',T',b2,t2,u2,b3,t3,u3,hrun,e0,hg',hkf,hres,aEr,aEn,Sx,ze,ht'⟩:=a0Z.out hs0 hrq;obtain rfl:g=g':=by
  have e1:Value.pointer (some ⟨g,0,none⟩)=.pointer (some ⟨g',0,none⟩):=hpt.symm.trans e0;cases e1;rfl
 have post:a'.defers=[]/\∃v',(results fn a'.tmps).run P w'=.ok v' w'/\∃v cs' T' b2 t2 u2 b3 t3 u3,Ending.returned v'=.returned v/\w'.os=w.os/\w'.tape=w.tape/\w'.output=w.output/\w.heap.size<=w'.heap.size/\
  (∀b,b<w.heap.size->b≠g->b∉L.flatMap Fs.ts->w'.heap[b]?=w.heap[b]?)/\w'.heap[g]?=some (.cells cs' T' (0,0))/\(cs.size=3->cs'.size=3/\cs'[0]?=cs[0]?)/\
  Bv w' v d b2 t2 u2/\wC w' cs'.toList cells' b3 t3 u3/\(∀b∈b3++b2,(b<w.heap.size->Θ b=0\/b∈L.flatMap Fs.ts)/\b≠g/\b∉t3++t2)/\(u3++u2).Nodup/\
  (∀b∈u3++u2,(w.heap.size<=b\/b∈L.flatMap Fs.bl)/\b≠g/\Wr w' b)/\∀b∈t3++t2,b∈u3++u2/\(w.heap.size<=b\/b∈L.flatMap Fs.ts):=by
  refine⟨hdf,v,hrun,v,cs',T',b2,t2,u2,b3,t3,u3,rfl,hst.os,hst.tape,hst.output,hst.size,fun b hlt hne hnt=>hst.block b hlt (fun hx=>hx.elim hne hnt),hg',(fun h3=>by obtain⟨c,q6,q7⟩:=aAg h3;obtain⟨q8,q9⟩:=hkf c q6;exact⟨q8,q9.trans q7.symm⟩),hres,aEr,fun b hb'=>?_,Sx,fun b hb'=>?_,fun b hb'=>?_⟩
  ·obtain⟨k1,k2,k3⟩:=aEn b hb';refine⟨fun hlt=>?_,k2,k3⟩;by_cases ht:b∈L.flatMap Fs.ts
   ·exact .inr ht
   ·refine .inl ?_;have:=k1 hlt (fun hx=>hx.elim k2 ht);have e:Θ0 b=Θ b:=dK fun e=>(CR b e).elim k2 ht
    rw[<-e];exact this
  ·obtain⟨k1,k2,k3⟩:=ze b hb';refine⟨?_,k2,k3⟩;rcases k1 with(k1|k1|k1)|k1
   ·exact .inl k1
   ·exact absurd k1 k2
   ·exact .inr (Gm k1)
   ·exact .inr k1
  ·obtain⟨k1,k2⟩:=ht' b hb';refine⟨k1,?_⟩;have:=(ze b k1).2.1;rcases k2 with k2|k2|k2
   ·exact .inl k2
   ·exact absurd k2 this
   ·exact .inr k2
 rcases Da with rfl|rfl
 ·exact post
 ·exact post
theorem a0Q{o:Oper}{f t id:Nat}{xs:Array Operand}{ty:Array TypeId}{x0:Operand}{xr:List Operand}{ob:Ob}{N8 cells cells' ds:aR}{d:D}{nz:List (List (Option (Nat×Nat)))}{ms qs:ah}
 (hop:o.op=.call {callee:=.value (.func f),args:=xs,argTypes:=ty}) (hd:o.dst=some t) (hg:o.guard=none) (ht:t<Z.nt)
 (hxs:xs.toList=x0::xr) (hx0:st.ev x0=.ptr id 0) (hH:st.H[id]?=some ob) (Dj:ob.Xe=some N8)
 (Da:CX st.H nz (.agg N8::xr.map st.ev)=some (.agg cells::ds,ms,qs)) (Q7:ms.Nodup) (Ru:qs.Nodup) (hqm:∀m∈qs,m∉ms) (sD:iz P f cells cells' ds d)
 (h:AO P Z all rest Q ⟨(t,(tE (st.H.length+(pu st.H.length cells').2.length) d).1)::st.σ,
  (kill st.H (ms++qs)).set id (ob.re (pu st.H.length cells').1)++((pu st.H.length cells').2++(tE (st.H.length+(pu st.H.length cells').2.length) d).2)⟩):AO P Z all (o::rest) Q st:=by
 intro κ Θ a w hs;have DZ:=yW Da;obtain⟨ρ,hu⟩:=hs.vo;obtain⟨Θ1,ρ1,hs1,hu1,hm1,RO,ZC⟩:=fE.IP ms hs hu Q7 (fun m hm=>by
  obtain⟨e,sz,rows,hH⟩:=DZ.1 m hm;exact⟨_,e,sz,rows,hH,rfl⟩)
 have Z7:id<st.H.length:=(aN.1 hH).1;have hnr:∀k e sz rows,st.H[id]?≠some (.row k e sz rows):=fun k e sz rows e1=>by rw[hH]at e1;cases e1;cases Dj
 have aF2:id∉ms:=fun hm=>by obtain⟨e',sz',eO,GV⟩:=DZ.1 id hm;exact hnr _ _ _ _ GV
 have aF3:id∉qs:=fun hm=>by obtain⟨_,e',sz',eO,GV⟩:=DZ.2 id hm;exact hnr _ _ _ _ GV
 have R4:(kill st.H ms)[id]?=some ob:=by rw[gD aF2];exact hH
 have a8R:=hs1.ob id _ R4;obtain⟨g,cs,T,hk0,hgc,T4,bb,hbb,hbz⟩:=a8R.cs Dj;have hgl:g<w.heap.size:=(bS.1 hgc).1;have hq:∀m e sz rows,st.H[m]?=some (.row .uq e sz rows)->∃v cs ns,κ m=some v/\0<sz/\(∀r∈rows,r.length=sz)/\w.ownsRow 0 e sz v rows.length cs/\yl w (vz e) 0 cs rows.flatten ns/\ns.Nodup/\(∀b∈ns,ρ1 b=m+1)/\∀g,v.ownBlock=some g->Θ1 g=m+2:=by
  intro m e sz rows hH;have hnm:m∉ms:=fun hm=>by
   obtain⟨e',sz',eO,GV⟩:=DZ.1 m hm;rw[hH]at GV;cases GV
  have R4:(kill st.H ms)[m]?=some (.row .uq e sz rows):=by rw[gD hnm];exact hH
  obtain⟨v,cs,ns,r1,r2,r3,r4,r5⟩:=hu1.rows m e sz rows R4;obtain⟨p1,p2,v2,_,_,p3,_,_,p4,_⟩:=hs1.ob m _ R4;rw[r1]at p3;cases p3;exact⟨v,cs,ns,r1,p1,p2,r2,r3,r4,r5,p4⟩
 have Dk:∀m e sz rows,m∉ms->st.H[m]?=some (.row .sh e sz rows)->∃v cs ns,κ m=some v/\0<sz/\(∀r∈rows,r.length=sz)/\w.ownsRow 0 e sz v rows.length cs/\oH w cs rows.flatten ns/\(∀b∈ns,Θ1 b=0)/\∀g,v.ownBlock=some g->Θ1 g=m+2:=by
  intro m e sz rows hnm hH;obtain⟨p1,p2,v2,cs,ns,p3,p4,p5,p6,p7⟩:=hs1.ob m _ (show(kill st.H ms)[m]?=_ by rw[gD hnm];exact hH);exact⟨v2,cs,ns,p3,p1,p2,p4,p5,p7,p6⟩
 obtain⟨bs,ts,us,EL,Ch⟩:=Bo (w:=w) (vs:=.agg cs::xr.map a.eval) (fun b hb=>(hu1.free b hb).1) hq Dk hs.tF Da hqm Ru (by simp) (fun i d hd=>by
  cases i with
  |zero=>
   simp at hd;subst hd;have:=PV.agg _ _ _ hbb;exact⟨_,bb,rfl,.v (by simpa using this),hbz⟩
  |succ i=>
   rw[hG,cR]at hd;cases hx:xr[i]? with
   |none=>rw[hx]at hd;cases hd
   |some x=>
    rw[hx]at hd;simp only[dM,bC]at hd;subst hd;obtain⟨b,r,z⟩:=hs.ev x;exact⟨a.eval x,b,by simp[hx],r,fun y hy=>RO y (z y hy)⟩) hm1
 let Θc:Nat->Nat:=fun b=>if Θ1 b=0 then 0 else 1
 have CR:∀b,Θc b=0↔Θ1 b=0:=fun b=>by simp only[Θc];split<;>simp_all
 have MJ:∀b∈ts,∃m∈qs,Θ1 b=m+2:=fun b hb=>(Ch.top b hb).1
 have aFb:∀b∈ts,b≠g:=fun b hb e=>by
  obtain⟨m,hm,hΘ⟩:=MJ b hb;subst e;rw[T4]at hΘ;exact aF3 (by
   have:id=m:=by omega
   rw[this];exact hm)
 have WK:SZ w fun b=>b=g\/b∈ts:=by
  obtain⟨B,v1,v2⟩:=hs1.vsb;refine⟨B,v1,fun b hB=>⟨(v2 b hB).2.1,fun hb'=>?_⟩⟩;have hm:Bu Z b:=by
   rcases hb' with rfl|hb'
   ·exact hs1.mine b (by omega)
   ·obtain⟨m,hm,hΘ⟩:=MJ b hb';exact hs1.mine b (by omega)
  rcases hm with q|q
  ·have:=(v2 b hB).1;omega
  ·exact(v2 b hB).2.2 q
 have hwr:∀b∈us,Wr w b:=by
  intro b hb;rcases Ch.mem b hb with h|⟨m,hm,hρ⟩
  ·exact My EL b h
  ·exact(hu1.free b (by omega)).2.2
 have hc:=sD.2 w Θc g cs T (xr.map a.eval) bs ts us WK hgc EL (fun b hb=>(CR b).2 (Ch.zero b hb)) (fun b hb=>hs1.own b (fun e=>hb ((CR b).2 e))) (fun b=>by simp only[Θc];split<;>omega)
  (by simp only[Θc];rw[bE (by omega)]) (fun b hb=>by
   obtain⟨m,hm,hΘ⟩:=MJ b hb;exact⟨by simp only[Θc];rw[bE (by omega)],(Ch.top b hb).2,aFb b hb⟩) Ch.nd (fun b hb=>⟨fun hnt=>by
   rcases Ch.mem b hb with h|⟨m,hm,hρ⟩
   ·exact absurd h hnt
   ·exact(CR b).2 (hu1.free b (by omega)).1,hwr b hb⟩)
 refine wpList_plain hg fun K hK=>?_
 unfold Oper.wp;rw[CY hop sD.1,Oper.upon_enter];have e0:xs.map a.eval=(.pointer (some ⟨g,0,none⟩)::xr.map a.eval).toArray:=by
  obtain⟨b0,r0,_⟩:=hs.ev x0;rw[hx0]at r0;obtain⟨g',hk',hv⟩:=r0.DD;rw[hk0]at hk';cases hk';rw[<-tu,mL,hxs];simp[hv]
 rw[e0];refine hc.mono ?_;rintro x w' ⟨v,cs',T',b2,t2,u2,b3,t3,u3,rfl,k1,k2,k3,k4,WR,kg,a6l,a8x,kcs,kb,knd,ku,kt⟩;show K (a.put o.dst v) w';rw[hd];let N:=st.H.length
 have hs2:=hs1.forget (id::qs);have hNl:(kill st.H ms).length=N:=iU _ _;simp only[hNl]at hs2;let Θ2:Nat->Nat:=fun b=>if(id::qs).any (fun m=>Θ1 b==m+2)then N+2 else Θ1 b
 have hs2:fE Z ⟨st.σ,kill (kill st.H ms) (id::qs)⟩ κ Θ2 a w:=hs2;have QA:∀b,Θ1 b=0->Θ2 b=0:=fun b hb=>by
  simp only[Θ2];rw[bE,hb];intro h;obtain⟨m,_,hm⟩:=ed.1 h;simp[hb]at hm
 have I0:∀b,b=g\/b∈ts->Θ2 b=N+2:=by
  intro b hb;simp only[Θ2];rw[bP];rcases hb with rfl|hb
  ·exact ed.2 ⟨id,by simp,by simp[T4]⟩
  ·obtain⟨m,hm,hΘ⟩:=MJ b hb;exact ed.2 ⟨m,by simp[hm],by simp[hΘ]⟩
 have hu2:Bw Z (kill (kill st.H ms) (id::qs)) κ Θ2 w ρ1:=by
  refine⟨fun b hb=>?_,fun j e sz rows hj=>?_,fun j o hj=>?_⟩
  ·obtain⟨q1,q2⟩:=hu1.free b hb;exact⟨QA b q1,q2⟩
  ·rcases qo hj with h|⟨_,h⟩
   ·cases h
   ·exact hu1.rows j e sz rows h
  ·rcases qo hj with h|⟨_,h⟩
   ·subst h;trivial
   ·exact hu1.more j o h
 obtain⟨Lb,a1,a2,a3,a4,a6,a5⟩:=kcs.inst N;obtain⟨Ld,c1,c2,c3,c4,c6,c5⟩:=a8x.inst (N+(pu N cells').2.length);have aEg:Lb.length=(pu N cells').2.length:=by rw[<-a1];simp
 let L:=Lb++Ld
 have hbl:u3++u2=L.flatMap Fs.bl:=by simp[L,a3,c3]
 have aFa:t3++t2=L.flatMap Fs.ts:=by simp[L,a4,c4]
 rw[hbl]at knd ku kt;rw[aFa]at kt kb;have Sq:∀x∈L,x.ok w':=fun x hx=>by
  rcases aW.1 hx with hx|hx
  ·exact a2 x hx
  ·exact c2 x hx
 have aEh:∀x∈L,x.sh=true->∀b∈x.vs,b∈b3++b2:=fun x hx hs' b hb=>by
  rcases aW.1 hx with hx|hx
  ·exact aW.2 (.inl (a6 x hx hs' b hb))
  ·exact aW.2 (.inr (c6 x hx hs' b hb))
 let κ':Nat->Option Value:=fun j=>if j<N then κ j else(L[j-N]?).map Fs.v
 let Θ':Nat->Nat:=fun b=>if b=g then id+2 else match OX L b with|some i=>N+i+2|none=>if Θ2 b=N+2 then 0 else Θ2 b
 let ρ':Nat->Nat:=fun b=>match vq L b with|some i=>N+i+1|none=>ρ1 b
 have hgt:g∉L.flatMap Fs.bl:=fun h=>(ku g h).2.1 rfl
 have aB2:Θ' g=id+2:=by simp[Θ']
 have T3:∀(i:Nat) x b,L[i]?=some x->x.v.ownBlock=some b->Θ' b=N+i+2:=by
  intro i x b hx hb;have hb':b∈L.flatMap Fs.ts:=cB.2 ⟨x,aE hx,by simp[Fs.ts,hb]⟩;have hne:b≠g:=fun e=>hgt (e▸Gm hb')
  simp only[Θ',Mn knd hx hb];rw[bE hne]
 have CQ:∀b,b≠g->b∉L.flatMap Fs.ts->Θ' b=if Θ2 b=N+2 then 0 else Θ2 b:=by
  intro b h1 h2;simp only[Θ',zw h2];rw[bE h1]
 have hzero:∀b,w.heap.size<=b->Θ2 b=0:=fun b hge=>by
  cases h:Θ2 b with
  |zero=>rfl
  |succ m=>exact absurd (hs2.own b (by omega)) (by omega)
 have ZD:∀b∈b3++b2,Θ' b=0:=by
  intro b hb;obtain⟨p1,p2,p3⟩:=kb b hb;rw[CQ b p2 p3];by_cases hlt:b<w.heap.size
  ·rcases p1 hlt with h|h
   ·rw[QA b ((CR b).1 h)];simp
   ·rw[bP (I0 b (.inr h))]
  ·rw[hzero b (by omega)];simp
 have Sy:∀(i:Nat) x b,L[i]?=some x->b∈x.ns->Θ' b=0:=by
  intro i x b hx hb;have hmem:=v7 hx hb;rw[CQ b (ku b hmem).2.1 (FK knd hx hb)];rcases(ku b hmem).1 with h|h
  ·rw[hzero b h];simp
  ·rcases Ch.mem b h with h|⟨m,hm,hρ⟩
   ·rw[bP (I0 b (.inr h))]
   ·rw[QA b (hu1.free b (by omega)).1];simp
 have hn:∀(j:Nat) v,κ j=some v->κ' j=some v:=by
  intro j v hj;have:j<N:=dK fun h=>by rw[hs.uY j (by omega)]at hj;cases hj
  simp only[κ'];rw[bP this];exact hj
 have B0:Names κ' N L:=by
  intro i x hx;simp only[κ'];rw[bE (by omega),jN,hx];rfl
 have a1D:∀b∈L.flatMap Fs.ts,Bu Z b:=by
  intro b hb;rcases(kt b hb).2 with h|h
  ·exact .inl (eY hs.base h)
  ·obtain⟨m,hm,hΘ⟩:=MJ b h;exact hs1.mine b (by omega)
 have k:jy w w' Θ2 Θ' (N+2):=by
  refine⟨by omega,k1,k2,k3,k4,fun b hlt hne=>WR b hlt (fun e=>hne (I0 b (.inl e))) (fun e=>hne (I0 b (.inr e))),fun b hlt hne=>?_,fun b hb=>?_⟩
  ·rw[CQ b (fun e=>hne (I0 b (.inl e))) (fun e=>?_),bE hne];rcases(kt b e).2 with h|h
   ·omega
   ·exact hne (I0 b (.inr h))
  ·by_cases e:b=g
   ·subst e;omega
   ·by_cases ht':b∈L.flatMap Fs.ts
    ·obtain⟨x,T,hx⟩:=(ku b (Gm ht')).2.2;exact(bS.1 hx).1
    ·rw[CQ b e ht']at hb;split at hb
     ·exact absurd rfl hb
     ·exact eR (hs2.own b hb) k4
 have hm:∀b,2<=Θ' b->Bu Z b:=by
  intro b hb;by_cases e:b=g
  ·subst e;exact hs1.mine b (by omega)
  ·by_cases ht':b∈L.flatMap Fs.ts
   ·exact a1D b ht'
   ·rw[CQ b e ht']at hb;split at hb
    ·omega
    ·exact hs2.mine b hb
 have wo:=hs2.tH k hn hu2;have Km:((kill st.H (ms++qs)).set id (ob.re (pu N cells').1)).length=N:=by simp[iU,N]
 have aBU:∀(a_ bs:ah) (H:bz),kill H (a_++bs)=kill (kill H a_) bs:=by
  intro a_
  induction a_ with
  |nil=>intro bs H;rfl
  |cons x a_ ih=>intro bs H;simp only[tv,kill,ih]
 have aFH:(pu N cells').2++(tE (N+(pu N cells').2.length) d).2=L.map Fs.ob:=by simp[L,a1,c1]
 have key:∀(j:Nat) y,((kill st.H (ms++qs)).set id (ob.re (pu N cells').1)++L.map Fs.ob)[j]?=some y->(∃i x,j=N+i/\L[i]?=some x/\y=x.ob)\/(j=id/\y=ob.re (pu N cells').1)\/(j≠id/\j<N/\(y=.gone\/(kill (kill st.H ms) (id::qs))[j]?=some y)):=by
  intro j y hj;by_cases hlt:j<N
  ·rw[bJ (by rw[Km];exact hlt)]at hj;rcases IS j y hj with⟨rfl,rfl⟩|⟨h1,h2⟩
   ·exact .inr (.inl ⟨rfl,rfl⟩)
   ·refine .inr (.inr ⟨h1,hlt,?_⟩);rcases qo h2 with h|⟨h3,h4⟩
    ·exact .inl h
    ·refine .inr ?_;simp only[aW,Gi]at h3;rw[gD (by simp[h1,h3.2]),gD h3.1];exact h4
  ·rw[bW (by omega),Km,cR]at hj;cases hx:L[j-N]? with
   |none=>simp[hx]at hj
   |some x=>simp[hx]at hj;exact .inl ⟨j-N,x,by omega,hx,hj.symm⟩
 have hs':fE Z ⟨st.σ,(kill st.H (ms++qs)).set id (ob.re (pu N cells').1)++L.map Fs.ob⟩ κ' Θ' a w':=by
  have OF:∀(j:Nat) y,(kill (kill st.H ms) (id::qs))[j]?=some y->y≠ .gone->∀b,ρ1 b=j+1->ρ' b=j+1:=by
   intro j y hy hyg b a8d;have hjk:j∉id::qs:=by
    rcases qo hy with h|h
    ·exact absurd h hyg
    ·exact h.1
   have hnb:vq L b=none:=by
    cases hi:vq L b with
    |none=>rfl
    |some i=>
     exfalso;obtain⟨x,hx,IM⟩:=wY hi;obtain⟨z0,_,aEW,T'',a8b⟩:=hu1.free b (by omega);rcases(ku b (v7 hx IM)).1 with h|h
     ·have:=(bS.1 a8b).1;omega
     ·rcases Ch.mem b h with h|⟨m,hm',hρ⟩
      ·obtain⟨m,hm',hΘ⟩:=MJ b h;omega
      ·exact hjk (by
        have:j=m:=by omega
        rw[this];simp[hm'])
   simp only[ρ',hnb];exact a8d
  refine hs2.step k hm hn ?_ ?_ ?_ ⟨ρ',?_,?_,?_⟩
  ·intro i hi;simp only[bB,Km,aj]at hi;simp only[κ'];rw[bE (by omega),dU (by omega)];rfl
  ·intro i u ze;simp only[κ']at ze;split at ze
   ·exact hs.tF i u ze
   ·cases hx:L[i-N]? with
    |none=>simp[hx]at ze
    |some x=>simp[hx]at ze;subst ze;exact(Sq x (aE hx)).2.2.2.2
  ·intro j y hj;rcases key j y hj with⟨i,x,rfl,hx,rfl⟩|⟨rfl,rfl⟩|⟨hji,hjl,hy|hy⟩
   ·exact .inr (.inr (Fs.rel (Sq x (aE hx)) (B0 i x hx) (fun g' hg'=>T3 i x g' hx hg') (fun b hb'=>Sy i x b hx hb') fun hs' b hb'=>ZD b (aEh x (aE hx) hs' b hb')))
   ·obtain⟨b5,r5,s5⟩:=a5 κ' B0.left;refine .inr (.inr (yj.aCW Dj a8R (hn _) (fun c0 u0 e0' c hc g2 cs2 T2 hk2 Sv=>by
     subst e0';rw[hn _ _ hk0]at hk2;cases hk2;rw[kg]at Sv;cases Sv;obtain⟨z1,z2⟩:=a8R.1.2 c hc g cs T hk0 hgc;exact⟨(a6l z1).1,(a6l z1).2.trans z2⟩) ⟨g,cs',T',hn _ _ hk0,kg,aB2,b5,r5,fun b hb=>ZD b (by simp[s5 b hb])⟩))
   ·exact .inl hy
   ·exact .inr (.inl ⟨by omega,hy⟩)
  ·intro b hb;cases a13:vq L b with
   |some i=>
    obtain⟨x,hx,IM⟩:=wY a13;have hmem:=v7 hx IM;refine⟨Sy i x b hx IM,?_,(ku b hmem).2.2⟩;rcases(ku b hmem).1 with h|h
    ·exact .inl (.inl (eY hs.base h))
    ·rcases Ch.mem b h with h|⟨m,hm',hρ⟩
     ·obtain⟨m,hm',hΘ⟩:=MJ b h;exact .inl (hs1.mine b (by omega))
     ·exact(hu1.free b (by omega)).2.1
   |none=>
    simp only[ρ',a13]at hb;exact wo.1 b hb
  ·intro j e sz rows hj;rcases key j _ hj with⟨i,x,rfl,hx,hy⟩|⟨rfl,hy⟩|⟨hji,hjl,hy|hy⟩
   ·obtain⟨hsh,rfl,rfl,rfl⟩:=Fs.Qx hy.symm;have q4:=(Sq x (aE hx)).uq hsh;obtain⟨q1,q2,q3,_,_⟩:=Sq x (aE hx);exact⟨x.v,x.cs,x.ns,B0 i x hx,q3,q4,MY knd hx,fun b hb'=>by simp only[ρ',Em knd hx hb']⟩
   ·cases ob<;>simp[Ob.re]at hy
   ·cases hy
   ·obtain⟨v',c',bs',r1,r2,r3,r4,r5⟩:=wo.2.1 j e sz rows (by omega) hy;exact⟨v',c',bs',r1,r2,r3,r4,fun b hb'=>OF j _ hy (by simp) b (r5 b hb')⟩
  ·intro j y hj;rcases key j _ hj with⟨i,x,rfl,hx,hy⟩|⟨rfl,hy⟩|⟨hji,hjl,hy|hy⟩
   ·subst hy;exact Fs.plain x
   ·subst hy;cases ob<;>exact R8.I8 rfl
   ·subst hy;trivial
   ·by_cases hg:y=.gone
    ·subst hg;trivial
    ·exact(wo.2.2 j y (by omega) hy).re (OF j y hy hg)
 rw[aFH]at h;obtain⟨b6,r6,s6⟩:=c5 κ' (by rw[<-aEg];exact B0.right);exact hK _ _ (h _ _ _ _ (hs'.set (t:=t) ht r6 fun b hb=>ZD b (by simp[s6 b hb])))
def LF(P:Program)(f:FuncId)(ds cells:aR):Prop:=
 (∃fn,P.funcs[f]?=some fn/\fn.body.isSome=true/\(fn.name== "runtime.NumGoroutine")=false)/\
 ∀(w:World) (Θ:Nat->Nat) (args:cG) (bs:ah),SZ w (fun _=>False)->XJ w args ds bs->(∀b∈bs,Θ b=0)->(∀b,Θ b≠0->b<w.heap.size)->(∀b,Θ b<=1)->
  Calls P f args.toArray w (fun e w'=>∃g cs T bs',e=.returned (.pointer (some ⟨g,0,none⟩))/\Below w.heap.size w w'/\w.heap.size<=g/\w'.heap[g]?=some (.cells cs T (0,0))/\oH w' cs.toList cells bs'/\
   ∀b∈bs',(b<w.heap.size->Θ b=0)/\b≠g)
def aAI(P:Program)(fn:Func)(cells:aR)(e:Exit)(st:St):Prop:=
 (e=.ret\/e=.normal)/\∃j,Jn P st fn.results.toList=some [.ptr j 0]/\st.H[j]?=some (.box cells)/\cells.all D.Up=true
theorem LF.of{f:FuncId}{fn:Func}{c:Code}{ds cells:aR}(hf:P.funcs[f]?=some fn)(hb:fn.body=some c)(hn:(fn.name== "runtime.NumGoroutine")=false)
 (hl:ds.length<=fn.ntmps) (h:(∀d∈ds,gX d)->∀Z:wV,Z.nt=fn.ntmps->AW P Z c (aAI P fn cells) ⟨yp 0 ds,[]⟩):LF P f ds cells:=by
 refine⟨⟨fn,hf,by simp[hb],hn⟩,?_⟩;intro w Θ args bs hvs hargs hz hown h1;obtain⟨hlen,PC⟩:=hargs.at;refine calls_of_wp hf hb ?_;let Z:wV:=⟨w,Θ,fun _=>False,fn.ntmps,fun _=>False,hvs⟩
 have hs:fE Z ⟨yp 0 ds,[]⟩ (fun _=>none) Θ {tmps:=args.toArray++Array.replicate (fn.ntmps-args.toArray.size) undef,defers:=[]} w:=by
  refine⟨rfl,?_,fun _ _=>rfl,by simp,?_,by simp,hown,fun b _ _=>⟨rfl,h1 b⟩,fun b hb=>by have:=h1 b;omega,⟨rfl,rfl,rfl,br _,fun _ _ _=>rfl⟩,⟨fun _=>0,by simp,by simp,by simp⟩⟩
  ·simp[Z];omega
  ·intro t;rw[I6];simp only[xh,AF,yg];cases hd:ds[t]? with
   |none=>exact⟨[],.of (.any _),by simp⟩
   |some x=>
    obtain⟨v,b,k1,k2,k3⟩:=PC t x hd;refine⟨b,?_,fun y hy=>hz y (k3 y hy)⟩;have hlt:t<args.length:=(aN.1 k1).1;have:(args.toArray++Array.replicate (fn.ntmps-args.toArray.size) undef).getD t undef=v:=by
     rw[cW,fU (by simpa using hlt)];simp[k1]
    rw[this];exact .of k2
 refine wp_mono (h hargs.rdb Z rfl _ _ _ _ hs) ?_;rintro e a' w' ⟨L6,κ0,Θ0,hs0,Da,j,hres,hH,hp⟩;obtain⟨vs,bs',m1,m2,m3,m4,m5⟩:=ET hs0 hres;obtain⟨v,b,n1,n2,_⟩:=m4 0 _ rfl;obtain⟨g,hk,hv⟩:=n2.DD;obtain⟨g',cs,T,hk',hg,hΘ,bb,hbb,hbz⟩:=hs0.ob j _ hH;rw[hk]at hk';cases hk';have aFf:vs=[v]:=by
  simp only[aQ,cE]at m3
  match vs,m2,n1 with
  | [],_,n1=>simp at n1
  | [x],_,n1=>simp at n1;rw[n1]
  |x::y::r,m2,_=>simp only[aQ]at m2;omega
 have hrun:(results fn a'.tmps).run P w'=.ok (.pointer (some ⟨g,0,none⟩)) w':=by
  rw[results_eq,oL];simp[m1,aFf,hv]
 have Py:Below w.heap.size w w':=⟨hs0.stays.os,hs0.stays.tape,hs0.stays.output,hs0.stays.size,fun b hb=>hs0.stays.block b hb (fun h=>h)⟩
 have hgm:w.heap.size<=g:=by
  rcases hs0.mine g (by omega)with q|q
  ·exact q
  ·exact q.elim
 have post:a'.defers=[]/\∃v,(results fn a'.tmps).run P w'=.ok v w'/\∃g cs T bs',Ending.returned v=.returned (.pointer (some ⟨g,0,none⟩))/\Below w.heap.size w w'/\w.heap.size<=g/\w'.heap[g]?=some (.cells cs T (0,0))/\oH w' cs.toList cells bs'/\
  ∀b∈bs',(b<w.heap.size->Θ b=0)/\b≠g:=by
  refine⟨hs0.defers,_,hrun,g,cs,T,bb,rfl,Py,hgm,hg,hbb.pure hp,fun b hb'=>⟨fun hlt=>?_,fun e=>?_⟩⟩
  ·exact(hs0.old b hlt (fun h=>h)).1.symm.trans (hbz b hb')
  ·have:=hbz b hb';subst e;omega
 rcases Da with rfl|rfl
 ·exact post
 ·exact post
theorem a0O{o:Oper}{f t:Nat}{xs:Array Operand}{ts:Array TypeId}{ds cells:aR}(hop:o.op=.call {callee:=.value (.func f),args:=xs,argTypes:=ts})(hd:o.dst=some t)(hg:o.guard=none)
 (ht:t<Z.nt) (hds:Kx st.H (xs.toList.map st.ev)=some (ds,[])) (sD:LF P f ds cells)
 (h:AO P Z all rest Q ⟨(t,.ptr st.H.length 0)::st.σ,st.H++[.box cells]⟩):AO P Z all (o::rest) Q st:=by
 intro κ Θ a w hs;obtain⟨bs,hargs,hz⟩:=To hs hds;have Aj:∀b∈bs,Θ b=0:=fun b hb=>(hz b hb).elim id (fun⟨m,h1,_⟩=>by cases h1)
 let Θc:Nat->Nat:=fun b=>if Θ b=0 then 0 else 1
 have CR:∀b,Θc b=0↔Θ b=0:=fun b=>by simp only[Θc];split<;>simp_all
 have hc:=sD.2 w Θc _ bs hs.vok hargs (fun b hb=>(CR b).2 (Aj b hb)) (fun b hb=>hs.own b (fun e=>hb ((CR b).2 e))) (fun b=>by simp only[Θc];split<;>omega);refine wpList_plain hg fun K hK=>?_
 unfold Oper.wp;rw[CY hop sD.1,Oper.upon_enter];have e:xs.map a.eval=(xs.toList.map a.eval).toArray:=by rw[<-mL,sR]
 rw[e];refine hc.mono ?_;rintro e w' ⟨g,cs,T,bs',rfl,hb,hge,hg',hrd,hbb⟩;show K (a.put o.dst (.pointer (some ⟨g,0,none⟩))) w';rw[hd];let Θ':Nat->Nat:=fun b=>if b=g then st.H.length+2 else Θ b
 have k:jy w w' Θ Θ' (st.H.length+2):=by
  refine⟨by omega,hb.os,hb.tape,hb.output,hb.size,fun b hlt _=>hb.block b hlt,fun b hlt _=>?_,fun b hb'=>?_⟩
  ·simp only[Θ'];rw[bE (by omega)]
  ·simp only[Θ']at hb';split at hb'
   ·rename_i e;subst e;exact(bS.1 hg').1
   ·exact eR (hs.own b hb') hb.size
 have hbz:∀b∈bs',Θ' b=0:=by
  intro b hb';obtain⟨h1,h2⟩:=hbb b hb';simp only[Θ'];rw[bE h2];by_cases hlt:b<w.heap.size
  ·exact(CR b).1 (h1 hlt)
  ·cases h:Θ b with
   |zero=>rfl
   |succ m=>exact absurd (hs.own b (by omega)) hlt
 have hs':=hs.push (o:=.box cells) (v:=.pointer (some ⟨g,0,none⟩)) rfl k (hs.Bl (fun b hb'=>by
  simp only[Θ']at hb';split at hb'
  ·rename_i e;subst e;exact .inr hge
  ·exact .inl hb')) ⟨g,cs,T,ng _ _ _,hg',by simp[Θ'],bs',gH.Fc hrd,hbz⟩ rfl
 refine hK _ _ (h _ _ _ _ (hs'.set (t:=t) (d:=.ptr st.H.length 0) (bs:=[]) ht ?_ (by simp)));exact(Bf.ptr st.H.length 0 g (ng _ _ _)).Tv
theorem a48{o:Oper}{T t id e e' sz h:Nat}{kk:IntKind}{x hi:Operand}{rows:List aR}(hop:o.op=.slice T x none (some hi) none)(hd:o.dst=some t)(hg:o.guard=none)(ht:t<Z.nt)
 (hT:Mm P T=some (e',sz)) (hx:st.ev x=.acc id) (hH:st.H[id]?=some (.row .uq e sz rows)) (hhi:st.ev hi=.int kk (h:Int)) (hle:h<=rows.length)
 (hn:AO P Z all rest Q ⟨(t,.acc st.H.length)::st.σ,kill st.H [id]++[.row .uq e sz (rows.take h)]⟩):AO P Z all (o::rest) Q st:=by
 intro κ Θ a w hs;obtain⟨hsz,hrl,v,cs0,XX,hk,a6c,aIG,Hz,Aj⟩:=hs.ob id _ hH;obtain⟨ρ,hu⟩:=hs.vo;obtain⟨v2,cs,bs,hk2,hown,hrd,hnd,hρ⟩:=hu.rows id e sz rows hH;rw[hk]at hk2;cases hk2;obtain⟨bx,rx,_⟩:=hs.ev x;rw[hx]at rx;obtain⟨hkx,_⟩:=rx.A7;have hvx:a.eval x=v:=by rw[hk]at hkx;cases hkx;rfl
 let v':Value:=match v with| .slice q _ cap=>.slice q h cap|u=>u
 have hc:yF rows.length ((none:Option Operand).map st.ev) ((some hi).map st.ev)=some (0,h):=by
  simp[yF,hhi,hle]
 have hrun:∃q cap,v=.slice q rows.length cap/\v'=.slice q h cap/\(execOp a.eval o).run P w=.ok (.value v') w:=by
  obtain⟨ze,Q4,Oo⟩:=uV hT;have main:∀(q:Option Addr) (cap:Nat),(∀b off sp,q=some ⟨b,off,sp⟩->off=0/\sp=none)->v=.slice q rows.length cap->rows.length<=cap->(execOp a.eval o).run P w=.ok (.value (.slice q h cap)) w:=by
   intro q cap hq0 hq hcap;obtain⟨hr,hl,hh⟩:=TX (P:=P) (isSlice:=true) (cap:=cap) hs hcap hc;have a8E:(if cap=0 then q else q.map (·.add (0*sz)))=q:=by
    split
    ·rfl
    ·cases q with
     |none=>rfl
     |some ad=>simp[Addr.add]
   simp only[Am,dM]at hr;simp only[execOp,hop,hvx,hq];simp[Instr.sliceAt,Instr.slice,run_underlying ze,hr,xg (P:=P) Q4 w];intro hc0;cases q with
   |none=>rfl
   |some ad=>simp[Addr.add]
  rcases hown.2 with⟨rfl,h0⟩|⟨g,cap,cur,rfl,_,Sw,hnc,hcm,hcs,htk⟩
  ·exact⟨none,0,by rw[h0],rfl,main none 0 (by simp) (by rw[h0]) (by omega)⟩
  ·exact⟨some ⟨g,0,none⟩,cap,rfl,rfl,main _ _ (by simp) rfl hnc⟩
 obtain⟨q,cap,hvq,a4w,hrun⟩:=hrun;have Dj:v'.ownBlock=v.ownBlock:=by rw[a4w,hvq];cases q<;>rfl
 have hone:v'.oneCell'=true:=by
  have:=hs.tF id v hk;rw[hvq]at this;rw[a4w];exact this
 have hsplit:∃cs' bs',w.ownsRow 0 e sz v' (rows.take h).length cs'/\yl w (vz e) 0 cs' (rows.take h).flatten bs'/\bs'.Nodup/\∀b∈bs',b∈bs:=by
  have e1:rows.flatten=(rows.take h).flatten++(rows.drop h).flatten:=by rw[<-kR,cc]
  have RM:=hrd;rw[e1]at RM;obtain⟨c1,c2,b1,b2,rfl,rfl,k1,k2⟩:=RM.split;have htl:(rows.take h).length=h:=by rw[cU];omega
  have hc1:c1.length=h*sz:=by rw[k1.length,rI (fun r hr=>hrl r (cO hr)),htl]
  refine⟨c1,b1,?_,k1,(cC.1 hnd).1,fun b hb=>by simp[hb]⟩;rw[htl];refine⟨hc1,?_⟩;rcases hown.2 with⟨hv0,h0⟩|⟨g,cap',cur,hvs,hbg,Sw,hnc,hcm,hcs,htk⟩
  ·left
   have:h=0:=by omega
   subst this;have e3:=hv0.symm.trans hvq;simp only[Value.slice.injEq]at e3;exact⟨by rw[a4w,<-e3.1,<-e3.2.2],rfl⟩
  ·right
   have e3:=hvs.symm.trans hvq;simp only[Value.slice.injEq]at e3;refine⟨g,cap',cur,by rw[a4w,<-e3.1,<-e3.2.2],hbg,Sw,by omega,hcm,hcs,?_⟩;have h3:(cur.toList.take (rows.length*sz)).take (h*sz)=(c1++c2).take (h*sz):=by rw[htk]
   rw[ye,jt (fN _ hle)]at h3;rw[h3];exact lP hc1
 obtain⟨cs',bs',p1,p2,p3,p4⟩:=hsplit;refine wpList_plain hg fun K hK=>?_
 unfold Oper.wp;rw[hrun,Oper.upon_value,hd];let n:=st.H.length
 have Z7:id<n:=(aN.1 hH).1;let Θ':Nat->Nat:=fun b=>if some b=v'.ownBlock then n+2 else Θ b
 let ρ':Nat->Nat:=fun b=>if ρ b=id+1 then n+1 else ρ b
 have hvt:∀g,v'.ownBlock=some g->Θ g=id+2:=fun g Z6=>Hz g (Dj▸Z6)
 have k:jy w w Θ Θ' (id+2):=by
  refine⟨by omega,rfl,rfl,rfl,br _,fun _ _ _=>rfl,fun b hb hne=>?_,fun b hb=>?_⟩
  ·simp only[Θ'];rw[bE fun e=>hne (hvt b e.symm)]
  ·simp only[Θ']at hb;split at hb
   ·rename_i e;exact hs.own b (by rw[hvt b e.symm];omega)
   ·exact hs.own b hb
 have hm:∀b,2<=Θ' b->Bu Z b:=by
  intro b hb;simp only[Θ']at hb;split at hb
  ·rename_i e;exact hs.mine b (by rw[hvt b e.symm];omega)
  ·exact hs.mine b hb
 have hnn:=AD (hs.uY n (br _)) (some v');have wo:=hs.tH k hnn hu;have RN:∀b∈bs',Θ' b=0:=by
  intro b hb;have h1:=(hu.free b (by rw[hρ b (p4 b hb)];omega)).1;simp only[Θ'];rw[bE fun e=>by have:=hvt b e.symm;omega];exact h1
 have key:∀(j:Nat) y,(kill st.H [id]++[.row .uq e sz (rows.take h)])[j]?=some y->(j=n/\y=.row .uq e sz (rows.take h))\/(j≠n/\(y=.gone\/(j∉[id]/\st.H[j]?=some y))):=by
  intro j y hj;rcases ER j y hj with⟨h1,h2⟩|⟨h1,h2⟩
  ·rw[iU]at h1;exact .inl ⟨h1,h2⟩
  ·rw[iU]at h1;exact .inr ⟨h1,qo h2⟩
 have hs':fE Z ⟨st.σ,kill st.H [id]++[.row .uq e sz (rows.take h)]⟩ (Al κ n (some v')) Θ' a w:=by
  refine hs.step k hm hnn ?_ ?_ ?_ ⟨ρ',fun b hb=>?_,fun j e2 Qr gA hj=>?_,fun j y hj=>?_⟩
  ·intro i hi;simp only[bB,aQ,cE,iU]at hi;unfold Al;rw[bE (by omega)];exact hs.uY i (by omega)
  ·intro i y hy;unfold Al at hy;split at hy
   ·cases hy;exact hone
   ·exact hs.tF i y hy
  ·intro j y hj;rcases key j y hj with⟨rfl,rfl⟩|⟨_,hy|⟨hjk,hy⟩⟩
   ·exact .inr (.inr ⟨hsz,fun r hr=>hrl r (cO hr),v',cs',bs',ng _ _ _,p1,p2.rd,fun g Z6=>by simp only[Θ'];rw[bP Z6.symm],RN⟩)
   ·exact .inl hy
   ·exact .inr (.inl ⟨fun e=>hjk (by simp;omega),hy⟩)
  ·refine wo.1 b fun h0=>hb ?_
   simp only[ρ'];rw[bE (by omega)];exact h0
  ·rcases key j _ hj with⟨rfl,hy⟩|⟨_,hy|⟨hjk,hy⟩⟩
   ·simp only[Ob.row.injEq,AG]at hy;obtain⟨rfl,rfl,rfl⟩:=hy;exact⟨v',cs',bs',ng _ _ _,p1,p2,p3,fun b hb=>by simp only[ρ'];rw[bP (hρ b (p4 b hb))]⟩
   ·cases hy
   ·obtain⟨v3,c3,b3,q1,q2,q3,q4,q5⟩:=wo.2.1 j e2 Qr gA (fun e=>hjk (by simp;omega)) hy;refine⟨v3,c3,b3,q1,q2,q3,q4,fun b hb=>?_⟩;have hne:j≠id:=fun e=>hjk (by simp[e])
    simp only[ρ'];rw[bE (by rw[q5 b hb];omega)];exact q5 b hb
  ·rcases key j _ hj with⟨rfl,hy⟩|⟨_,hy|⟨hjk,hy⟩⟩
   ·subst hy;exact R8.I8 rfl
   ·subst hy;trivial
   ·refine(wo.2.2 j y (fun e=>hjk (by simp;omega)) hy).re fun b hb=>?_
    have hne:j≠id:=fun e=>hjk (by simp[e])
    simp only[ρ'];rw[bE (by omega)];exact hb
 refine hK _ _ (hn _ _ _ _ (hs'.set (t:=t) (d:=.acc n) (bs:=[]) ht ?_ (by simp)));exact(Bf.acc n _ (ng _ _ _)).Tv
end
section
variable{P:Program}{Z:wV}{Q:Exit->St->Prop}{st:St}{κ κ':Nat->Option Value}{Θ Θ':Nat->Nat}{a:Act}{w w':World}{all:Array Oper}{rest:List Oper}
theorem fE.a96(hs:fE Z st κ Θ a w):
 fE Z ⟨st.σ,st.H++[.mp []]⟩ (Al κ st.H.length (some (.map (some w.heap.size)))) (fun b=>if b=w.heap.size then st.H.length+2 else Θ b) a (w.alloc (.map #[] 0)):=by
 have k:=jy.alloc hs (.map #[] 0) (tag:=st.H.length+2) (by omega);refine hs.push rfl k (hs.Bl (fun b hb=>by by_cases e:b=w.heap.size<;>simp_all)) ?_ rfl;exact⟨w.heap.size,#[],0,by simp[Al],heap_alloc_new w _,by simp,rfl,by simp⟩
theorem Ve{o:Oper}{T t:Nat}(hop:o.op=.makeMap T none)(hd:o.dst=some t)(hg:o.guard=none)(ht:t<Z.nt)
 (h:AO P Z all rest Q ⟨(t,.acc st.H.length)::st.σ,st.H++[.mp []]⟩):AO P Z all (o::rest) Q st:=by
 intro κ Θ a w hs;have hs':=hs.a96;refine wpList_plain hg fun K hK=>?_
 unfold Oper.wp;have hrun:(execOp a.eval o).run P w=.ok (.value (.map (some w.heap.size))) (w.alloc (.map #[] 0)):=by
  simp[execOp,hop,Instr.makeMap,newObj];rfl
 rw[hrun,Oper.upon_value,hd];refine hK _ _ (h _ _ _ _ (hs'.set (t:=t) (d:=.acc st.H.length) (bs:=[]) ht ?_ (by simp)));exact(Bf.acc st.H.length _ (ng _ _ _)).Tv
theorem BA.push{es:List MapEntry}{kv:List (D×D)}{k v:D}{u x:Value}(h:BA w es kv)(hk:Rd w u k [])(hv:Rd w x v [])(c:Nat):BA w (es++[{key:=u,val:=x,born:=c}]) (kv++[(k,v)]):=by
 refine⟨by simp[h.1],fun j e p h1 h2=>?_⟩;by_cases hj:j<es.length
 ·rw[bJ hj]at h1;rw[bJ (by rw[<-h.1];exact hj)]at h2;exact h.2 j e p h1 h2
 ·rw[bW (by omega)]at h1;rw[bW (by rw[<-h.1];omega),<-h.1]at h2;have e0:j-es.length=0:=by
   have:=(aN.1 h1).1;simp at this;omega
  rw[e0]at h1 h2;simp at h1 h2;subst h1;subst h2;exact⟨hk,hv⟩
theorem BA.put{es:List MapEntry}{kv:List (D×D)}{k v:D}{u x:Value}(h:BA w es kv)(hk:Rd w u k [])(hv:Rd w x v [])(i:Nat){es':List MapEntry}(hl:es'.length=es.length)
 (he:∀(j:Nat) e,es'[j]?=some e->(j=i/\e.key=u/\e.val=x)\/(j≠i/\es[j]?=some e)):BA w es' (kv.set i (k,v)):=by
 refine⟨by simp[hl,h.1],fun j e p h1 h2=>?_⟩;rcases he j e h1 with⟨rfl,h3,h4⟩|⟨hne,h3⟩
 ·have hlt:j<kv.length:=by
   have:=(aN.1 h2).1;simpa using this
  rw[eX hlt]at h2;cases h2;rw[h3,h4];exact⟨hk,hv⟩
 ·rw[cz (rq hne)]at h2;exact h.2 j e p h3 h2
theorem a8y{kd:TypeDesc}{k v:D}{u:Value}(RI:Ko kd k=true)(hu:Rd w u k []):∀ {es:List MapEntry} {kv kv':List (D×D)} (i:Nat),BA w es kv->MO k v kv=some kv'->
 (Instr.findNow kd u es i=some none/\kv'=kv++[(k,v)])\/∃j x e,Instr.findNow kd u es i=some (some (i+j,x))/\es[j]?=some e/\e.key=u/\kv'=kv.set j (k,v):=by
 intro es
 induction es with
 |nil=>
  intro kv kv' i hr h;cases kv with
  |nil=>cases h;exact .inl ⟨rfl,rfl⟩
  |cons p kv=>exact absurd hr.1 (by simp)
 |cons e es ih=>
  intro kv kv' i hr h;cases kv with
  |nil=>exact absurd hr.1 (by simp)
  |cons p kv=>
   obtain⟨r1,r2,r3⟩:=hr.cons;simp only[MO]at h;split at h
   ·rename_i hq;cases h;have:=PF RI hu r1 hq;exact .inr ⟨0,e.val,e,by simp[Instr.findNow,this.1],rfl,this.2 rfl,rfl⟩
   ·rename_i hq;have ZB:=(PF RI hu r1 hq).1;cases hk:MO k v kv with
    |none=>rw[hk]at h;cases h
    |some kv1=>
     rw[hk]at h;cases h;rcases ih (i+1) r3 hk with⟨h1,h2⟩|⟨j,x,e',h1,h2,h3,h4⟩
     ·exact .inl ⟨by simpa[Instr.findNow,ZB]using h1,by rw[h2];rfl⟩
     ·exact .inr ⟨j+1,x,e',by simp only[Instr.findNow,ZB];rw[h1];congr 3;omega,by simpa using h2,h3,by rw[h4];rfl⟩
   ·cases h
theorem Tg{kd:TypeDesc}{u:Value}(h:MapKept.IsKey kd u)(n:Nat):Instr.sameBits n u u=true:=by
 cases kd<;>cases u<;>simp[MapKept.IsKey]at h<;>simp[Instr.sameBits]
 all_goals first
  |exact(MapKept.bytes_beq _ _).2 rfl
  |rfl
def D.scalar:D->Bool
 | .str _=>true
 | .int _ _=>true
 | .bool _=>true
 |_=>false
theorem VK{v:Value}{d:D}{bs:ah}(hd:d.scalar=true)(hu:vR w κ v d bs):Rd w v d []:=by
 cases d<;>simp[D.scalar]at hd
 all_goals cases hu with|v h=>cases h with|cell h=>cases h with|pure h=>cases h<;>(constructor<;>assumption)
theorem SP{o:Oper}{T id:Nat}{x i y:Operand}{kd:TypeDesc}{dz:D}{kv kv':List (D×D)}(hop:o.op=.mapUpdate T x i y)(hd:o.dst=none)(hg:o.guard=none)
 (hT:Zr P T=some (kd,dz)) (hx:st.ev x=.acc id) (hH:st.H[id]?=some (.mp kv)) (RI:Ko kd (st.ev i)=true) (hsc:(st.ev y).scalar=true) (hput:MO (st.ev i) (st.ev y) kv=some kv')
 (h:AO P Z all rest Q ⟨st.σ,st.H.set id (.mp kv')⟩):AO P Z all (o::rest) Q st:=by
 intro κ Θ a w hs;obtain⟨g,es,c,q1,q2,q3,q4⟩:=hs.ob id _ hH;obtain⟨bs,r,_⟩:=hs.ev x;rw[hx]at r;obtain⟨hk,_⟩:=r.A7;rw[q1]at hk;have Xw:a.eval x=.map (some g):=(lQ hk).symm;obtain⟨bi,ri,_⟩:=hs.ev i;obtain⟨by',ry,_⟩:=hs.ev y;have hu:=S0 RI ri;have hv:=VK hsc ry;obtain⟨kt,et,z,t1,t2,t3,t4⟩:=Qu hT;have hik:=Uo RI hu;have hck:=MapKept.run_checkKey (P:=P) (w:=w) t2 hik false 9999;have aEz:g<w.heap.size:=(bS.1 q2).1;have Z7:id<st.H.length:=(aN.1 hH).1;have hrun:∃es' c',(execOp a.eval o).run P w=.ok .skip {w with heap:=w.heap.setIfInBounds g (.map es' c')}/\BA w es'.toList kv':=by
  rcases a8y RI hu 0 q4 hput with⟨hn,rfl⟩|⟨j,x',e,hn,he,hek,rfl⟩
  ·have WA:=MapKept.run_findKey (P:=P) (w:=w) t2 hn;refine⟨es.push {key:=a.eval i,val:=a.eval y,born:=c},c+1,?_,?_⟩
   ·simp[execOp,hop,Xw,Instr.mapUpdate,run_underlying t1,MapKept.run_getObj_map q2,hck,WA,MapKept.run_setObj_map _ q2]
   ·rw[Array.toList_push];exact q4.push hu hv c
  ·rw[cY]at hn;have WA:=MapKept.run_findKey (P:=P) (w:=w) t2 hn;have hej:es[j]?=some e:=by simpa using he
   have hst:(Instr.keyThatStays (((es[j]?).map (·.key)).getD (a.eval i)) (a.eval i)).run P w=.ok (a.eval i) w:=by
    rw[hej];simp[Instr.keyThatStays,hek,Tg hik]
   refine⟨es.modify j fun e=> {e with key:=a.eval i,val:=a.eval y},c,?_,?_⟩
   ·simp[execOp,hop,Xw,Instr.mapUpdate,run_underlying t1,MapKept.run_getObj_map q2,hck,WA,hst,MapKept.run_setObj_map _ q2]
   ·refine q4.put hu hv j (by simp) fun m e' hm=>?_
    rw[lC,zN]at hm;by_cases hmj:j=m
    ·subst hmj;rw[bP rfl,hej]at hm;cases hm;exact .inl ⟨rfl,rfl,rfl⟩
    ·rw[bE hmj]at hm;exact .inr ⟨rq hmj,by simpa using hm⟩
 obtain⟨es',c',hr,aFQ⟩:=hrun;have FH:∀b,b≠g->(w.heap.setIfInBounds g (.map es' c'))[b]?=w.heap[b]?:=fun b hb=>by simp[rq hb]
 have k:jy w {w with heap:=w.heap.setIfInBounds g (.map es' c')} Θ Θ (id+2):=by
  refine⟨by omega,rfl,rfl,rfl,by simp,fun b hb hne=>FH b fun e=>hne (e▸q3),fun _ _ _=>rfl,fun b hb=>?_⟩;simpa using hs.own b hb
 have hs':fE Z ⟨st.σ,st.H.set id (.mp kv')⟩ κ Θ a {w with heap:=w.heap.setIfInBounds g (.map es' c')}:=by
  obtain⟨ρ,ze⟩:=hs.vo;have wo:=hs.tH k (fun _ _ h=>h) ze;refine hs.step k hs.mine (fun _ _ h=>h) (fun i hi=>hs.uY i (by simpa using hi)) hs.tF ?_ ⟨ρ,wo.1,fun j e sz rows hj=>?_,fun j y hj=>?_⟩
  ·intro j y' hj;by_cases e:j=id
   ·subst e;rw[eX Z7]at hj;cases hj;exact .inr (.inr ⟨g,es',c',q1,by simp[aEz],q3,aFQ.stay⟩)
   ·rw[cz (rq e)]at hj;exact .inr (.inl ⟨by omega,hj⟩)
  ·by_cases e':j=id
   ·subst e';rw[eX Z7]at hj;cases hj
   ·rw[cz (rq e')]at hj;exact wo.2.1 j e sz rows (by omega) hj
  ·by_cases e':j=id
   ·subst e';rw[eX Z7]at hj;cases hj;trivial
   ·rw[cz (rq e')]at hj;exact wo.2.2 j y (by omega) hj
 refine wpList_plain hg fun K hK=>?_
 unfold Oper.wp;rw[hr,Oper.upon_skip,hd];exact hK _ _ (h _ _ _ _ hs')
end
def LD(P:Program)(f:FuncId)(ds:aR)(d:D):Prop:=
 (∃fn,P.funcs[f]?=some fn/\fn.body.isSome=true/\(fn.name== "runtime.NumGoroutine")=false)/\
 ∀(w:World) (Θ:Nat->Nat) (args:cG) (bs ts us:ah),
  SZ w (fun b=>b∈ts)->D2 w args ds bs ts us->
  (∀b∈bs,Θ b=0)->(∀b,Θ b≠0->b<w.heap.size)->(∀b,Θ b<=1)->(∀b∈ts,Θ b=1/\b∈us)->us.Nodup->(∀b∈us,(b∉ts->Θ b=0)/\Wr w b)->
  Calls P f args.toArray w (fun e w'=>∃v b2 t2 u2,e=.returned v/\w'.os=w.os/\w'.tape=w.tape/\w'.output=w.output/\w.heap.size<=w'.heap.size/\
   (∀b,b<w.heap.size->b∉ts->w'.heap[b]?=w.heap[b]?)/\
   Bv w' v d b2 t2 u2/\(∀b∈b2,(b<w.heap.size->Θ b=0\/b∈ts)/\b∉t2)/\u2.Nodup/\
   (∀b∈u2,(w.heap.size<=b\/b∈us)/\Wr w' b)/\∀b∈t2,b∈u2/\(w.heap.size<=b\/b∈ts))
section
variable{P:Program}{Z:wV}{Q:Exit->St->Prop}{st:St}{κ κ':Nat->Option Value}{Θ Θ':Nat->Nat}{a:Act}{w w':World}{all:Array Oper}{rest:List Oper}
theorem aEO.out{fn:Func}{d:D}{e:Exit}{a':Act}{w':World}{L6:St}{κ0:Nat->Option Value}{Θ0:Nat->Nat}(hs0:fE Z L6 κ0 Θ0 a' w')(hrq:SX P fn d e L6):
 (e=.ret\/e=.normal)/\a'.defers=[]/\U4 Z w'/\∃v b2 t2 u2,(results fn a'.tmps).run P w'=.ok v w'/\
  Bv w' v d b2 t2 u2/\(∀b∈b2,(b<Z.W0.heap.size->¬Z.X b->Z.Θ0 b=0)/\b∉t2)/\u2.Nodup/\
  (∀b∈u2,XI Z b/\Wr w' b)/\∀b∈t2,b∈u2/\Bu Z b:=by
 obtain⟨Da,nz,ds0,es,ms,qs,hres,hrv,Q7,Ru,hqm,rfl⟩:=hrq;obtain⟨ρ0,hu0⟩:=hs0.vo;have DZ:=yW hrv;obtain⟨Θ1,ρ1,hs1,hu1,hm1,RO,ZC⟩:=fE.IP ms hs0 hu0 Q7 (fun m hm=>by
  obtain⟨e,sz,rows,hH⟩:=DZ.1 m hm;exact⟨_,e,sz,rows,hH,rfl⟩)
 obtain⟨vs,bs',m1,m2,m3,m4,m5⟩:=ET hs0 hres;have hq:∀m e sz rows,L6.H[m]?=some (.row .uq e sz rows)->∃v cs ns,κ0 m=some v/\0<sz/\(∀r∈rows,r.length=sz)/\w'.ownsRow 0 e sz v rows.length cs/\yl w' (vz e) 0 cs rows.flatten ns/\ns.Nodup/\(∀b∈ns,ρ1 b=m+1)/\∀g,v.ownBlock=some g->Θ1 g=m+2:=by
  intro m e sz rows hH;have hnm:m∉ms:=fun hm=>by
   obtain⟨e',sz',eO,GV⟩:=DZ.1 m hm;rw[hH]at GV;cases GV
  have R4:(kill L6.H ms)[m]?=some (.row .uq e sz rows):=by rw[gD hnm];exact hH
  obtain⟨v,cs,ns,r1,r2,r3,r4,r5⟩:=hu1.rows m e sz rows R4;obtain⟨p1,p2,v2,_,_,p3,_,_,p4,_⟩:=hs1.ob m _ R4;rw[r1]at p3;cases p3;exact⟨v,cs,ns,r1,p1,p2,r2,r3,r4,r5,p4⟩
 have Dk:∀m e sz rows,m∉ms->L6.H[m]?=some (.row .sh e sz rows)->∃v cs ns,κ0 m=some v/\0<sz/\(∀r∈rows,r.length=sz)/\w'.ownsRow 0 e sz v rows.length cs/\oH w' cs rows.flatten ns/\(∀b∈ns,Θ1 b=0)/\∀g,v.ownBlock=some g->Θ1 g=m+2:=by
  intro m e sz rows hnm hH;obtain⟨p1,p2,v2,cs,ns,p3,p4,p5,p6,p7⟩:=hs1.ob m _ (show(kill L6.H ms)[m]?=_ by rw[gD hnm];exact hH);exact⟨v2,cs,ns,p3,p1,p2,p4,p5,p7,p6⟩
 obtain⟨c,ts,us,EL,Ch⟩:=Bo (w:=w') (vs:=vs) (fun b hb=>(hu1.free b hb).1) hq Dk hs0.tF hrv hqm Ru (by omega) (fun i d hd=>by
  obtain⟨v,b,k1,k2,k3⟩:=m4 i d hd;exact⟨v,b,k1,k2,fun x hx=>RO x (m5 x (k3 x hx))⟩) hm1
 have Q0:∃v,(results fn a'.tmps).run P w'=.ok v w'/\Bv w' v (Md es) c ts us:=by
  have hrun:(results fn a'.tmps).run P w'=.ok (if h:vs.toArray.size=1 then vs.toArray[0]else .tuple vs.toArray) w':=by
   rw[results_eq,oL];simp[m1]
  cases EL with
  |nil=>exact⟨.tuple #[],by simpa using hrun,.iw [] [] [] [] [] .nil⟩
  |cons v vs d es b1 b2 t1 t2 u1 u2 hv ua=>
   cases ua with
   |nil=>
    simp only[dV];exact⟨v,by simpa using hrun,.v hv⟩
   |cons v2 vs d2 es b3 b4 t3 t4 u3 u4 Gc ua=>exact⟨.tuple (v::v2::vs).toArray,by simpa using hrun,.iw _ _ _ _ _ (.cons _ _ _ _ _ _ _ _ _ _ hv (.cons _ _ _ _ _ _ _ _ _ _ Gc ua))⟩
 obtain⟨v,WH,RJ⟩:=Q0;refine⟨Da,hs0.defers,hs0.stays,v,c,ts,us,WH,RJ,fun b hb=>⟨fun hlt hx=>?_,fun ht=>?_⟩,Ch.nd,fun b hb=>?_,fun b hb=>?_⟩
 ·have:=Ch.zero b hb;rw[<-(hs1.old b hlt hx).1];exact this
 ·obtain⟨⟨m,_,hΘ⟩,_⟩:=Ch.top b ht;have:=Ch.zero b hb;omega
 ·rcases Ch.mem b hb with h|⟨m,hm,hρ⟩
  ·obtain⟨⟨m,hm,hΘ⟩,_⟩:=Ch.top b h;exact⟨.inl (hs1.mine b (by omega)),PW RJ b h⟩
  ·have:=hu1.free b (by omega);exact⟨this.2.1,this.2.2⟩
 ·obtain⟨⟨m,hm,hΘ⟩,h2⟩:=Ch.top b hb;exact⟨h2,hs1.mine b (by omega)⟩
theorem LD.of{f:FuncId}{fn:Func}{c:Code}{ds OB:aR}{obs:bz}{d:D}(hf:P.funcs[f]?=some fn)(hb:fn.body=some c)(hn:(fn.name== "runtime.NumGoroutine")=false)
 (hI:B1 0 ds=(OB,obs)) (hl:OB.length<=fn.ntmps)
 (h:(∀x∈ds.map D.shV,gX x)->∀(Z:wV),Z.nt=fn.ntmps->AW P Z c (SX P fn d) ⟨yp 0 OB,obs⟩):LD P f ds d:=by
 refine⟨⟨fn,hf,by simp[hb],hn⟩,?_⟩;intro w Θ args bs ts us hvs hargs hz hown h1 hts hnd wo;have WI:=hargs.shown;obtain⟨L,q1,q2,rfl,rfl,q6,q5⟩:=hargs.inst 0;rw[hI]at q1 q5;have q1:L.map Fs.ob=obs:=q1;refine calls_of_wp hf hb ?_;let κ0:Nat->Option Value:=fun i=>(L[i]?).map Fs.v
 let Θ0:Nat->Nat:=fun b=>match OX L b with|some i=>i+2|none=>Θ b
 let ρ0:Nat->Nat:=fun b=>match vq L b with|some i=>i+1|none=>0
 let Z:wV:=⟨w,Θ0,fun b=>b∈L.flatMap Fs.ts,fn.ntmps,fun b=>b∈L.flatMap Fs.bl,hvs⟩
 have hkS:∀i x,L[i]?=some x->κ0 i=some x.v:=fun i x hx=>by simp[κ0,hx]
 have hnm:Names κ0 0 L:=fun i x hx=>by rw[cY];exact hkS i x hx
 obtain⟨XX,hrd,hb0⟩:=q5 κ0 hnm;have hlen:args.length=OB.length:=hrd.len;have Rv:∀(i:Nat) x b,L[i]?=some x->x.v.ownBlock=some b->b∈L.flatMap Fs.ts:=fun i x b hx hb'=>cB.2 ⟨x,aE hx,by simp[Fs.ts,hb']⟩
 have WN:∀(i:Nat) x b,L[i]?=some x->x.v.ownBlock=some b->Θ0 b=i+2:=by
  intro i x b hx hb';simp only[Θ0,Mn hnd hx hb']
 have Ul:∀b,Θ b=0->Θ0 b=0:=by
  intro b h0;have e2:b∉L.flatMap Fs.ts:=fun e=>by have:=(hts b e).1;omega
  simp only[Θ0,zw e2];exact h0
 have a1G:∀(i:Nat) x b,L[i]?=some x->b∈x.ns->Θ0 b=0:=fun i x b hx hb'=>Ul b ((wo b (v7 hx hb')).1 (FK hnd hx hb'))
 have CR:∀b,Θ0 b≠Θ b->b∈L.flatMap Fs.ts:=by
  intro b hne;refine dK fun ht=>hne ?_
  simp only[Θ0,zw ht]
 have WD:∀(j:Nat) o,obs[j]?=some o->∃x,L[j]?=some x/\o=x.ob:=by
  intro j o hj;rw[<-q1,cR]at hj;cases hx:L[j]? with
  |none=>simp[hx]at hj
  |some x=>simp[hx]at hj;exact⟨x,rfl,hj.symm⟩
 have a1H:obs.length=L.length:=by rw[<-q1];simp
 have hs:fE Z ⟨yp 0 OB,obs⟩ κ0 Θ0 {tmps:=args.toArray++Array.replicate (fn.ntmps-args.toArray.size) undef,defers:=[]} w:=by
  refine⟨rfl,?_,fun i hi=>?_,?_,?_,?_,?_,?_,?_,⟨rfl,rfl,rfl,br _,fun _ _ _=>rfl⟩,⟨ρ0,?_,?_,?_⟩⟩
  ·simp[Z];omega
  ·have hi:obs.length<=i:=hi;simp only[κ0];rw[dU (by omega)];rfl
  ·intro id u hu;simp only[κ0]at hu;cases hx:L[id]? with
   |none=>simp[hx]at hu
   |some x=>simp[hx]at hu;subst hu;exact(q2 x (aE hx)).2.2.2.2
  ·intro t;rw[I6];simp only[xh,AF,yg];have Xp:∀v,args[t]?=some v->(args.toArray++Array.replicate (fn.ntmps-args.toArray.size) undef).getD t undef=v:=by
    intro v hv;have hlt:=(aN.1 hv).1;rw[cW,fU (by simpa using hlt)];simp only[lD,hv,wX]
   cases hd:OB[t]? with
   |none=>exact⟨[],.of (.any _),by simp⟩
   |some x=>
    obtain⟨v,b',k1,k2,k3⟩:=hrd.at (i:=t) (d:=x) hd;rw[Xp v k1];exact⟨b',.v k2,fun b hb'=>Ul b (hz b (hb0 b (k3 b hb')))⟩
  ·intro j o hj;obtain⟨x,hx,rfl⟩:=WD j o hj;exact Fs.rel (q2 x (aE hx)) (hkS j x hx) (fun b hb'=>WN j x b hx hb') (fun b hb'=>a1G j x b hx hb') fun hs' b hb'=>Ul b (hz b (q6 x (aE hx) hs' b hb'))
  ·intro b hb';by_cases e:Θ0 b=Θ b
   ·exact hown b (by rw[<-e];exact hb')
   ·exact hown b (by have:=(hts b (CR b e)).1;omega)
  ·intro b hlt hx;refine⟨rfl,?_⟩;have e:Θ0 b=Θ b:=dK fun e=>hx (CR b e)
   rw[e];exact h1 b
  ·intro b hb';refine .inr (CR b fun e=>?_);have:=h1 b;omega
  ·intro b hb';cases hbl:vq L b with
   |none=>simp[ρ0,hbl]at hb'
   |some i=>
    obtain⟨x,hx,IM⟩:=wY hbl;exact⟨a1G i x b hx IM,.inr (v7 hx IM),(wo b (v7 hx IM)).2⟩
  ·intro id e sz rows hj;obtain⟨x,hx,ZA⟩:=WD id _ hj;obtain⟨hsh,rfl,rfl,rfl⟩:=Fs.Qx ZA.symm;have p4:=(q2 x (aE hx)).uq hsh;obtain⟨p1,p2,p3,_,_⟩:=q2 x (aE hx);exact⟨x.v,x.cs,x.ns,hkS id x hx,p3,p4,MY hnd hx,fun b hb'=>by simp[ρ0,Em hnd hx hb']⟩
  ·intro id o hj;obtain⟨x,hx,ZA⟩:=WD id _ hj;subst ZA;exact Fs.plain x
 refine wp_mono (h WI Z rfl _ _ _ _ hs) ?_;rintro x a' w' ⟨L6,κ1,Θ1,hs0,hrq⟩;obtain⟨Da,hdf,hst,v,b2,t2,u2,hrun,hres,Om,Sx,ze,ht'⟩:=aEO.out hs0 hrq;have post:a'.defers=[]/\∃v',(results fn a'.tmps).run P w'=.ok v' w'/\∃v b2 t2 u2,Ending.returned v'=.returned v/\w'.os=w.os/\w'.tape=w.tape/\w'.output=w.output/\w.heap.size<=w'.heap.size/\
  (∀b,b<w.heap.size->b∉L.flatMap Fs.ts->w'.heap[b]?=w.heap[b]?)/\
  Bv w' v d b2 t2 u2/\(∀b∈b2,(b<w.heap.size->Θ b=0\/b∈L.flatMap Fs.ts)/\b∉t2)/\u2.Nodup/\
  (∀b∈u2,(w.heap.size<=b\/b∈L.flatMap Fs.bl)/\Wr w' b)/\∀b∈t2,b∈u2/\(w.heap.size<=b\/b∈L.flatMap Fs.ts):=by
  refine⟨hdf,v,hrun,v,b2,t2,u2,rfl,hst.os,hst.tape,hst.output,hst.size,fun b hlt hnt=>hst.block b hlt (fun hx=>hnt hx),hres,fun b hb'=>?_,Sx,fun b hb'=>?_,fun b hb'=>?_⟩
  ·obtain⟨k1,k3⟩:=Om b hb';refine⟨fun hlt=>?_,k3⟩;by_cases ht:b∈L.flatMap Fs.ts
   ·exact .inr ht
   ·refine .inl ?_;have:=k1 hlt (fun hx=>ht hx);have e:Θ0 b=Θ b:=dK fun e=>ht (CR b e)
    rw[<-e];exact this
  ·obtain⟨k1,k3⟩:=ze b hb';refine⟨?_,k3⟩;rcases k1 with(k1|k1)|k1
   ·exact .inl k1
   ·exact .inr (Gm k1)
   ·exact .inr k1
  ·obtain⟨k1,k2⟩:=ht' b hb';exact⟨k1,k2⟩
 rcases Da with rfl|rfl
 ·exact post
 ·exact post
theorem a0L{o:Oper}{f t:Nat}{xs:Array Operand}{ty:Array TypeId}{ds:aR}{d:D}{nz:List (List (Option (Nat×Nat)))}{ms qs:ah}
 (hop:o.op=.call {callee:=.value (.func f),args:=xs,argTypes:=ty}) (hd:o.dst=some t) (hg:o.guard=none) (ht:t<Z.nt)
 (Da:CX st.H nz (xs.toList.map st.ev)=some (ds,ms,qs)) (Q7:ms.Nodup) (Ru:qs.Nodup) (hqm:∀m∈qs,m∉ms) (sD:LD P f ds d)
 (h:AO P Z all rest Q ⟨(t,(tE st.H.length d).1)::st.σ,kill st.H (ms++qs)++(tE st.H.length d).2⟩):AO P Z all (o::rest) Q st:=by
 intro κ Θ a w hs;have DZ:=yW Da;obtain⟨ρ,hu⟩:=hs.vo;obtain⟨Θ1,ρ1,hs1,hu1,hm1,RO,ZC⟩:=fE.IP ms hs hu Q7 (fun m hm=>by
  obtain⟨e,sz,rows,hH⟩:=DZ.1 m hm;exact⟨_,e,sz,rows,hH,rfl⟩)
 have hq:∀m e sz rows,st.H[m]?=some (.row .uq e sz rows)->∃v cs ns,κ m=some v/\0<sz/\(∀r∈rows,r.length=sz)/\w.ownsRow 0 e sz v rows.length cs/\yl w (vz e) 0 cs rows.flatten ns/\ns.Nodup/\(∀b∈ns,ρ1 b=m+1)/\∀g,v.ownBlock=some g->Θ1 g=m+2:=by
  intro m e sz rows hH;have hnm:m∉ms:=fun hm=>by
   obtain⟨e',sz',eO,GV⟩:=DZ.1 m hm;rw[hH]at GV;cases GV
  have R4:(kill st.H ms)[m]?=some (.row .uq e sz rows):=by rw[gD hnm];exact hH
  obtain⟨v,cs,ns,r1,r2,r3,r4,r5⟩:=hu1.rows m e sz rows R4;obtain⟨p1,p2,v2,_,_,p3,_,_,p4,_⟩:=hs1.ob m _ R4;rw[r1]at p3;cases p3;exact⟨v,cs,ns,r1,p1,p2,r2,r3,r4,r5,p4⟩
 have Dk:∀m e sz rows,m∉ms->st.H[m]?=some (.row .sh e sz rows)->∃v cs ns,κ m=some v/\0<sz/\(∀r∈rows,r.length=sz)/\w.ownsRow 0 e sz v rows.length cs/\oH w cs rows.flatten ns/\(∀b∈ns,Θ1 b=0)/\∀g,v.ownBlock=some g->Θ1 g=m+2:=by
  intro m e sz rows hnm hH;obtain⟨p1,p2,v2,cs,ns,p3,p4,p5,p6,p7⟩:=hs1.ob m _ (show(kill st.H ms)[m]?=_ by rw[gD hnm];exact hH);exact⟨v2,cs,ns,p3,p1,p2,p4,p5,p7,p6⟩
 obtain⟨bs,ts,us,EL,Ch⟩:=Bo (w:=w) (vs:=xs.toList.map a.eval) (fun b hb=>(hu1.free b hb).1) hq Dk hs.tF Da hqm Ru (by simp) (fun i d hd=>by
  rw[cR]at hd;cases hx:xs.toList[i]? with
  |none=>rw[hx]at hd;cases hd
  |some x=>
   rw[hx]at hd;simp only[dM,bC]at hd;subst hd;obtain⟨b,r,z⟩:=hs.ev x;exact⟨a.eval x,b,by rw[cR,hx];rfl,r,fun y hy=>RO y (z y hy)⟩) hm1
 let Θc:Nat->Nat:=fun b=>if Θ1 b=0 then 0 else 1
 have CR:∀b,Θc b=0↔Θ1 b=0:=fun b=>by simp only[Θc];split<;>simp_all
 have MJ:∀b∈ts,∃m∈qs,Θ1 b=m+2:=fun b hb=>(Ch.top b hb).1
 have WK:SZ w fun b=>b∈ts:=by
  obtain⟨B,v1,v2⟩:=hs1.vsb;refine⟨B,v1,fun b hB=>⟨(v2 b hB).2.1,fun hb'=>?_⟩⟩;have hm:Bu Z b:=by
   obtain⟨m,hm,hΘ⟩:=MJ b hb';exact hs1.mine b (by omega)
  rcases hm with q|q
  ·have:=(v2 b hB).1;omega
  ·exact(v2 b hB).2.2 q
 have hwr:∀b∈us,Wr w b:=by
  intro b hb;rcases Ch.mem b hb with h|⟨m,hm,hρ⟩
  ·exact My EL b h
  ·exact(hu1.free b (by omega)).2.2
 have hc:=sD.2 w Θc (xs.toList.map a.eval) bs ts us WK EL (fun b hb=>(CR b).2 (Ch.zero b hb)) (fun b hb=>hs1.own b (fun e=>hb ((CR b).2 e))) (fun b=>by simp only[Θc];split<;>omega)
  (fun b hb=>by
   obtain⟨m,hm,hΘ⟩:=MJ b hb;exact⟨by simp only[Θc];rw[bE (by omega)],(Ch.top b hb).2⟩) Ch.nd (fun b hb=>⟨fun hnt=>by
   rcases Ch.mem b hb with h|⟨m,hm,hρ⟩
   ·exact absurd h hnt
   ·exact(CR b).2 (hu1.free b (by omega)).1,hwr b hb⟩)
 refine wpList_plain hg fun K hK=>?_
 unfold Oper.wp;rw[CY hop sD.1,Oper.upon_enter];have e0:xs.map a.eval=(xs.toList.map a.eval).toArray:=by
  rw[<-tu,mL]
 rw[e0];refine hc.mono ?_;rintro x w' ⟨v,b2,t2,u2,rfl,k1,k2,k3,k4,WR,a8x,kb,knd,ku,kt⟩;show K (a.put o.dst v) w';rw[hd];let N:=st.H.length
 have hs2:=hs1.forget qs;have hNl:(kill st.H ms).length=N:=iU _ _;simp only[hNl]at hs2;let Θ2:Nat->Nat:=fun b=>if qs.any (fun m=>Θ1 b==m+2)then N+2 else Θ1 b
 have hs2:fE Z ⟨st.σ,kill (kill st.H ms) qs⟩ κ Θ2 a w:=hs2;have QA:∀b,Θ1 b=0->Θ2 b=0:=fun b hb=>by
  simp only[Θ2];rw[bE,hb];intro h;obtain⟨m,_,hm⟩:=ed.1 h;simp[hb]at hm
 have I0:∀b,b∈ts->Θ2 b=N+2:=by
  intro b hb;simp only[Θ2];rw[bP];obtain⟨m,hm,hΘ⟩:=MJ b hb;exact ed.2 ⟨m,hm,by simp[hΘ]⟩
 have hu2:Bw Z (kill (kill st.H ms) qs) κ Θ2 w ρ1:=by
  refine⟨fun b hb=>?_,fun j e sz rows hj=>?_,fun j o hj=>?_⟩
  ·obtain⟨q1,q2⟩:=hu1.free b hb;exact⟨QA b q1,q2⟩
  ·rcases qo hj with h|⟨_,h⟩
   ·cases h
   ·exact hu1.rows j e sz rows h
  ·rcases qo hj with h|⟨_,h⟩
   ·subst h;trivial
   ·exact hu1.more j o h
 obtain⟨L,c1,c2,c3,c4,c6,c5⟩:=a8x.inst N;subst c3;subst c4;have Sq:∀x∈L,x.ok w':=c2;let κ':Nat->Option Value:=fun j=>if j<N then κ j else(L[j-N]?).map Fs.v
 let Θ':Nat->Nat:=fun b=>match OX L b with|some i=>N+i+2|none=>if Θ2 b=N+2 then 0 else Θ2 b
 let ρ':Nat->Nat:=fun b=>match vq L b with|some i=>N+i+1|none=>ρ1 b
 have T3:∀(i:Nat) x b,L[i]?=some x->x.v.ownBlock=some b->Θ' b=N+i+2:=by
  intro i x b hx hb;simp only[Θ',Mn knd hx hb]
 have CQ:∀b,b∉L.flatMap Fs.ts->Θ' b=if Θ2 b=N+2 then 0 else Θ2 b:=by
  intro b h2;simp only[Θ',zw h2]
 have hzero:∀b,w.heap.size<=b->Θ2 b=0:=fun b hge=>by
  cases h:Θ2 b with
  |zero=>rfl
  |succ m=>exact absurd (hs2.own b (by omega)) (by omega)
 have ZD:∀b∈b2,Θ' b=0:=by
  intro b hb;obtain⟨p1,p3⟩:=kb b hb;rw[CQ b p3];by_cases hlt:b<w.heap.size
  ·rcases p1 hlt with h|h
   ·rw[QA b ((CR b).1 h)];simp
   ·rw[bP (I0 b h)]
  ·rw[hzero b (by omega)];simp
 have Sy:∀(i:Nat) x b,L[i]?=some x->b∈x.ns->Θ' b=0:=by
  intro i x b hx hb;have hmem:=v7 hx hb;rw[CQ b (FK knd hx hb)];rcases(ku b hmem).1 with h|h
  ·rw[hzero b h];simp
  ·rcases Ch.mem b h with h|⟨m,hm,hρ⟩
   ·rw[bP (I0 b h)]
   ·rw[QA b (hu1.free b (by omega)).1];simp
 have hn:∀(j:Nat) v,κ j=some v->κ' j=some v:=by
  intro j v hj;have:j<N:=dK fun h=>by rw[hs.uY j (by omega)]at hj;cases hj
  simp only[κ'];rw[bP this];exact hj
 have B0:Names κ' N L:=by
  intro i x hx;simp only[κ'];rw[bE (by omega),jN,hx];rfl
 have a1D:∀b∈L.flatMap Fs.ts,Bu Z b:=by
  intro b hb;rcases(kt b hb).2 with h|h
  ·exact .inl (eY hs.base h)
  ·obtain⟨m,hm,hΘ⟩:=MJ b h;exact hs1.mine b (by omega)
 have k:jy w w' Θ2 Θ' (N+2):=by
  refine⟨by omega,k1,k2,k3,k4,fun b hlt hne=>WR b hlt (fun e=>hne (I0 b e)),fun b hlt hne=>?_,fun b hb=>?_⟩
  ·rw[CQ b (fun e=>?_),bE hne];rcases(kt b e).2 with h|h
   ·omega
   ·exact hne (I0 b h)
  ·by_cases ht':b∈L.flatMap Fs.ts
   ·obtain⟨x,T,hx⟩:=(ku b (Gm ht')).2;exact(bS.1 hx).1
   ·rw[CQ b ht']at hb;split at hb
    ·exact absurd rfl hb
    ·exact eR (hs2.own b hb) k4
 have hm:∀b,2<=Θ' b->Bu Z b:=by
  intro b hb;by_cases ht':b∈L.flatMap Fs.ts
  ·exact a1D b ht'
  ·rw[CQ b ht']at hb;split at hb
   ·omega
   ·exact hs2.mine b hb
 have wo:=hs2.tH k hn hu2;have Km:(kill st.H (ms++qs)).length=N:=by simp[iU,N]
 have key:∀(j:Nat) y,(kill st.H (ms++qs)++L.map Fs.ob)[j]?=some y->(∃i x,j=N+i/\L[i]?=some x/\y=x.ob)\/(j<N/\(y=.gone\/(kill (kill st.H ms) qs)[j]?=some y)):=by
  intro j y hj;by_cases hlt:j<N
  ·rw[bJ (by rw[Km];exact hlt)]at hj;refine .inr ⟨hlt,?_⟩;rcases qo hj with h|⟨h3,h4⟩
   ·exact .inl h
   ·refine .inr ?_;simp only[aW,Gi]at h3;rw[gD h3.2,gD h3.1];exact h4
  ·rw[bW (by omega),Km,cR]at hj;cases hx:L[j-N]? with
   |none=>simp[hx]at hj
   |some x=>simp[hx]at hj;exact .inl ⟨j-N,x,by omega,hx,hj.symm⟩
 have hs':fE Z ⟨st.σ,kill st.H (ms++qs)++L.map Fs.ob⟩ κ' Θ' a w':=by
  have OF:∀(j:Nat) y,(kill (kill st.H ms) qs)[j]?=some y->y≠ .gone->∀b,ρ1 b=j+1->ρ' b=j+1:=by
   intro j y hy hyg b a8d;have hjk:j∉qs:=by
    rcases qo hy with h|h
    ·exact absurd h hyg
    ·exact h.1
   have hnb:vq L b=none:=by
    cases hi:vq L b with
    |none=>rfl
    |some i=>
     exfalso;obtain⟨x,hx,IM⟩:=wY hi;obtain⟨z0,_,aEW,T'',a8b⟩:=hu1.free b (by omega);rcases(ku b (v7 hx IM)).1 with h|h
     ·have:=(bS.1 a8b).1;omega
     ·rcases Ch.mem b h with h|⟨m,hm',hρ⟩
      ·obtain⟨m,hm',hΘ⟩:=MJ b h;omega
      ·exact hjk (by
        have:j=m:=by omega
        rw[this];exact hm')
   simp only[ρ',hnb];exact a8d
  refine hs2.step k hm hn ?_ ?_ ?_ ⟨ρ',?_,?_,?_⟩
  ·intro i hi;simp only[bB,Km,aj]at hi;simp only[κ'];rw[bE (by omega),dU (by omega)];rfl
  ·intro i u ze;simp only[κ']at ze;split at ze
   ·exact hs.tF i u ze
   ·cases hx:L[i-N]? with
    |none=>simp[hx]at ze
    |some x=>simp[hx]at ze;subst ze;exact(Sq x (aE hx)).2.2.2.2
  ·intro j y hj;rcases key j y hj with⟨i,x,rfl,hx,rfl⟩|⟨hjl,hy|hy⟩
   ·exact .inr (.inr (Fs.rel (Sq x (aE hx)) (B0 i x hx) (fun g' hg'=>T3 i x g' hx hg') (fun b hb'=>Sy i x b hx hb') fun hs' b hb'=>ZD b (c6 x (aE hx) hs' b hb')))
   ·exact .inl hy
   ·exact .inr (.inl ⟨by omega,hy⟩)
  ·intro b hb;cases a13:vq L b with
   |some i=>
    obtain⟨x,hx,IM⟩:=wY a13;have hmem:=v7 hx IM;refine⟨Sy i x b hx IM,?_,(ku b hmem).2⟩;rcases(ku b hmem).1 with h|h
    ·exact .inl (.inl (eY hs.base h))
    ·rcases Ch.mem b h with h|⟨m,hm',hρ⟩
     ·obtain⟨m,hm',hΘ⟩:=MJ b h;exact .inl (hs1.mine b (by omega))
     ·exact(hu1.free b (by omega)).2.1
   |none=>
    simp only[ρ',a13]at hb;exact wo.1 b hb
  ·intro j e sz rows hj;rcases key j _ hj with⟨i,x,rfl,hx,hy⟩|⟨hjl,hy|hy⟩
   ·obtain⟨hsh,rfl,rfl,rfl⟩:=Fs.Qx hy.symm;have q4:=(Sq x (aE hx)).uq hsh;obtain⟨q1,q2,q3,_,_⟩:=Sq x (aE hx);exact⟨x.v,x.cs,x.ns,B0 i x hx,q3,q4,MY knd hx,fun b hb'=>by simp only[ρ',Em knd hx hb']⟩
   ·cases hy
   ·obtain⟨v',c',bs',r1,r2,r3,r4,r5⟩:=wo.2.1 j e sz rows (by omega) hy;exact⟨v',c',bs',r1,r2,r3,r4,fun b hb'=>OF j _ hy (by simp) b (r5 b hb')⟩
  ·intro j y hj;rcases key j _ hj with⟨i,x,rfl,hx,hy⟩|⟨hjl,hy|hy⟩
   ·subst hy;exact Fs.plain x
   ·subst hy;trivial
   ·by_cases hg:y=.gone
    ·subst hg;trivial
    ·exact(wo.2.2 j y (by omega) hy).re (OF j y hy hg)
 rw[<-c1]at h;obtain⟨b6,r6,s6⟩:=c5 κ' B0;refine hK _ _ (h _ _ _ _ (hs'.set (t:=t) ht r6 fun b hb=>ZD b (s6 b hb)))
end
def U0(P:Program)(f:FuncId)(e:TypeId)(sz:Nat)(rows eO:List aR):Prop:=
 (∃fn,P.funcs[f]?=some fn/\fn.body.isSome=true/\(fn.name== "runtime.NumGoroutine")=false)/\
 ∀(w:World) (v:Value) (cs:cG),0<sz->(∀r∈rows,r.length=sz)->w.ownsRow 0 e sz v rows.length cs->oH w cs rows.flatten []->
  Calls P f #[v] w (fun x w'=>x=.returned (.tuple #[])/\w'.os=w.os/\w'.tape=w.tape/\w'.output=w.output/\w.heap.size<=w'.heap.size/\
   (∀b,b<w.heap.size->v.ownBlock≠some b->w'.heap[b]?=w.heap[b]?)/\(∀r∈eO,r.length=sz)/\∃cs',w'.ownsRow 0 e sz v eO.length cs'/\oH w' cs' eO.flatten [])
section
variable{P:Program}{Z:wV}{Q:Exit->St->Prop}{st:St}{κ:Nat->Option Value}{Θ:Nat->Nat}{a:Act}{w:World}{all:Array Oper}{rest:List Oper}
theorem a0N{o:Oper}{f id e sz:Nat}{x:Operand}{ts:Array TypeId}{k0:RK}{rows eO:List aR}(hop:o.op=.call {callee:=.value (.func f),args:= #[x],argTypes:=ts})(hd:∀t,o.dst=some t->t<Z.nt)(hg:o.guard=none)
 (hx:st.ev x=.acc id) (hH:st.H[id]?=some (.row k0 e sz rows)) (hk0:k0.hand=true) (hfe:YZ e=true) (hfl:rows.flatten.all D.flat=true) (sD:U0 P f e sz rows eO)
 (h:AO P Z all rest Q (St.put ⟨st.σ,st.H.set id (.row k0 e sz eO)⟩ o.dst (.iw []))):AO P Z all (o::rest) Q st:=by
 intro κ Θ a w hs;obtain⟨b1,r1,_⟩:=hs.ev x;rw[hx]at r1;obtain⟨hkv,_⟩:=r1.A7;obtain⟨hsz,hrl,v,cs,bs,hk1,hown,hrd,Hz,hz⟩:=hs.ob id _ hH;rw[hkv]at hk1;cases hk1;have PD:=hrd.flat hfl;subst PD;obtain⟨ρ,hu⟩:=hs.vo;refine wpList_plain hg fun K hK=>?_
 unfold Oper.wp;rw[CY hop sD.1,Oper.upon_enter];have e1:(#[x]:Array Operand).map a.eval= #[a.eval x]:=by simp
 rw[e1];refine(sD.2 w _ cs hsz hrl hown hrd).mono ?_;rintro e' w' ⟨rfl,k1,k2,k3,k4,k5,Q9,cs',FZ,RM⟩;have kk:jy w w' Θ Θ (id+2):=⟨by omega,k1,k2,k3,k4,fun b hb ht=>k5 b hb fun e=>ht (Hz b e),fun _ _ _=>rfl,fun b hb=>eR (hs.own b hb) k4⟩
 have hs':fE Z ⟨st.σ,st.H.set id (.row k0 e sz eO)⟩ κ Θ a w':=by
  refine hs.put [] IS (fun _ _ h=>h) (fun i hi=>hs.uY i (by simpa using hi)) hs.tF kk hs.mine ?_ hu (by simp) ?_ ?_
  ·refine⟨hsz,Q9,_,cs',[],hkv,FZ,RM,Hz,?_⟩;cases k0 with
   |cl=>simp[RK.hand]at hk0
   |mv n=>simp[RK.hand]at hk0
   |ho p n=>simp[RK.hand]at hk0
   |sh=>simp
   |uq=>simp
  ·intro e2 Qr gA he;cases he;exact⟨_,cs',[],hkv,FZ,.of RM (zj (EW hfe)),by simp,by simp⟩
  ·cases k0 with
   |mv n=>simp[RK.hand]at hk0
   |ho p n=>simp[RK.hand]at hk0
   |_=>rfl
 show K (a.put o.dst (.tuple #[])) w';refine hK _ _ (h κ Θ _ w' ?_);cases Ss:o.dst with
 |none=>exact hs'
 |some t=>exact hs'.set (hd t Ss) (.iw [] [] [] .nil) (by simp)
end
inductive An where
 |b (v:Bool)
 |row (r:aR)
 |ix (i:Nat)
 |ch (x:UInt8)
 |cut (l h:Nat)
 |d (x:D)
 |fl (v:Bool)
 |n (k:Nat)
 |n2 (Y ρ:ah) (k m:Nat) (L X:ah)
 |sk (id:Nat)
 |L5 (t:Nat)
 |pb (id off e sz:Nat)
 |vw (t:Nat)
 |cn (K o:ah)
 |hl (m:Nat) (K o:ah)
 |mu (id:Nat) (rows:List aR)
 |dc (x:D)
 |gv (ms:ah) (outs:List Rw) (d:D)
 |mg (id i off:Nat) (r:aR)
 |ov (id:Nat) (rows:List aR)
 |kv (m:List (D×D))
 |gp (nz:List (List (Option (Nat×Nat)))) (cells:aR) (d:D)
 |dn (cells:aR)
 |fz
 |nl (x:D)
 |ds (x:D)
 |mz (id:Nat)
 |tk (r:aR)
 |gf (nz:List (List (Option (Nat×Nat)))) (d:D)
 |hd
abbrev Fp:=List Prop
def Ao:Fp->Prop
 | []=>True
 |p::ps=>p/\Ao ps
theorem Ao.app{p q:Fp}(h:Ao (p++q)):Ao p/\Ao q:=by
 induction p with
 |nil=>exact⟨trivial,h⟩
 |cons x p ih=>exact⟨⟨h.1,(ih h.2).1⟩,(ih h.2).2⟩
def Jb(P:Program)(st:St)(op:Op)(A:List An):Option (D×List An×Fp):=match op with
 | .indexAddr t x i=>(match Mm P t,st.ev x,st.ev i,A with
  |some (_,sz),.sl rows,.int _ n,.row r::A=>some (.ep r 0,A,[0<=n/\rows[n.toNat]?=some r/\r.length=sz])
  |some (_,sz),.acc id,.int _ n,.ix k::A=>(match st.H[id]? with|some (.row _ _ sz' rows)=>some (.op id k sz 0,A,[sz=sz'/\n=(k:Int)/\k<rows.length])|_=>none)
  |_,.val (.pointer (some ⟨g,o,none⟩)),.int _ n,.ix k::A=>(match a9g P t with|some (sz,len)=>some (.val (.pointer (some ⟨g,o+k*sz,none⟩)),A,[n=(k:Int)/\k<len])|none=>none)
  |_,_,_,_=>none)
 | .index t x i=>(match O0 P t,st.ev x,st.ev i,A with
  |true,.str s,.int _ n,.ch c::A=>some (.int .u8 c.toNat,A,[0<=n/\s[n.toNat]?=some c])
  |false,.agg cells,.int _ n,.d d::A=>(match a9h P t with|some len=>some (d,A,[(0<=n/\n<(len:Int))/\cells[n.toNat]?=some d])|none=>none)
  |_,_,_,_=>none)
 | .load t x=>(match st.ev x with
  | .op id i sz off=>(match Dd P t,st.H[id]?,A with
   |some false,some (.row (.ho p n) _ sz' _),.hd::A=>some (.acc n,A,[sz'=sz/\i*sz+off=p])
   |some ag,some (.row k _ sz' rows),.row r::A=>(match k with
    | .ho _ _=>none
    |_=>(match Jm ag (Bp P t) r off with
     |some d=>some (d,A,[sz'=sz/\k.TQ=true/\rows[i]?=some r/\off+(bif ag then Bp P t else 1)<=sz])
     |none=>none))
   |_,_,_=>none)
  | .val (.pointer (some ⟨g,o,none⟩))=>(match Dd P t,A with
   |some false,.d d::A=>some (d,A,[Yc g o=some d])
   |some true,A=>(match X5 g o (Bp P t)with|some d=>some (d,A,[])|none=>none)
   |_,_=>none)
  |_=>(match pv P st op with|some d=>some (d,A,[])|none=>none))
 | .slice t x lo hi none=>(match st.ev x,A with
  | .str s,.cut l h::A=>(match O0 P t with
   |true=>some (.str ((s.take h).drop l),A,[yF s.length (lo.map st.ev) (hi.map st.ev)=some (l,h)])
   |false=>none)
  | .sl rows,.cut l h::A=>(match Mm P t with
   |some (_,sz)=>some (.sl ((rows.take h).drop l),A,[yF rows.length (lo.map st.ev) (hi.map st.ev)=some (l,h)/\(rows.all fun r=>r.length==sz)=true])
   |none=>none)
  |_,_=>none)
 | .binOp op' t x y t'=>(match op',st.ev x,st.ev y with
  | .add,.str a,.str b=>some (.str (a++b),A,[a.length+b.length<=maxLen])
  | .quo,.int k a,.int k' b=>some (.int k (a/b),A,[k=k'/\0<=a/\0<b])
  | .rem,.int k a,.int k' b=>some (.int k (a%b),A,[k=k'/\0<=a/\0<b])
  |_,_,_=>(match pv P st op with|some d=>some (d,A,[])|none=>none))
 | .lookup T x i ok=>(match st.ev x,A with
  | .acc id,.d d::A=>(match st.H[id]? with
   |some (.mp kv)=>some (d,A,[plk P T kv (st.ev i) ok=some d])
   |_=>none)
  |_,_=>none)
 | .pick c a b=>(match st.ev c,A with
  | .bool t,.b v::A=>(match v with|true=>some (st.ev a,A,[t=true])|false=>some (st.ev b,A,[t=false]))
  |_,_=>none)
 |_=>(match pv P st op with|some d=>some (d,A,[])|none=>none)
theorem Ya{P:Program}{st:St}{op:Op}{A A':List An}{d:D}{p:Fp}(h:Jb P st op A=some (d,A',p))(hp:Ao p):pv P st op=some d:=by
 have plain:∀ {op},(match pv P st op with|some d=>some (d,A,([]:Fp))|none=>none)=some (d,A',p)->pv P st op=some d:=by
  intro op h;split at h
  ·cases h;assumption
  ·cases h
 unfold Jb at h;split at h
 ·rename_i t x i;split at h
  ·rename_i e sz rows kk n r A1 h1 h2 h3;cases h;obtain⟨⟨q1,q2,q3⟩,_⟩:=hp;simp only[pv,h1,h2,h3,q1,q2,nM,q3]
  ·rename_i e sz id kk n k A1 h1 h2 h3;split at h
   ·rename_i k' e' sz' rows hH;cases h;obtain⟨⟨rfl,rfl,q3⟩,_⟩:=hp;simp[pv,h1,h2,h3,hH,q3]
   ·cases h
  ·rename_i g o' kk n k A1 h2 h3;split at h
   ·rename_i sz len hT;cases h;obtain⟨⟨rfl,q3⟩,_⟩:=hp;simp[pv,h2,h3,hT,q3]
   ·cases h
  ·cases h
 ·rename_i t x i;split at h
  ·rename_i s kk n c A1 h1 h2 h3;cases h;obtain⟨⟨q1,q2⟩,_⟩:=hp;simp only[pv,h1,h2,h3,q1,q2,nM]
  ·rename_i cells kk n d' A1 h1 h2 h3;split at h
   ·rename_i len hT;cases h;obtain⟨⟨q1,q2⟩,_⟩:=hp;simp only[pv,h1,h2,h3,hT,q1,q2,LA,nM]
   ·cases h
  ·cases h
 ·rename_i t x;split at h
  ·rename_i id i sz off h1;split at h
   ·rename_i p' n e sz' rows A1 h2 h3;cases h;obtain⟨⟨rfl,rfl⟩,_⟩:=hp;simp only[pv,h2,h1,h3,LA,nM]
   ·rename_i ag k e sz' rows r A1 h2 h3;split at h
    ·cases h
    ·rename_i hnh;split at h
     ·rename_i d' hd;cases h;obtain⟨⟨rfl,q2,q3,q4⟩,_⟩:=hp;cases k with
      |ho p n=>exact absurd rfl (hnh p n)
      |_=>simp only[pv,h2,h1,h3,q3,q2,q4,AG,LA,nM,hd]
     ·cases h
   ·cases h
  ·rename_i g o' h1;split at h
   ·rename_i d' A1 h2;cases h;simp only[pv,h2,h1];exact hp.1
   ·rename_i h2;split at h
    ·rename_i d' hA;cases h;simp only[pv,h2,h1];exact hA
    ·cases h
   ·cases h
  ·exact plain h
 ·rename_i t x lo hi;split at h
  ·rename_i s l hh A1 h1;split at h
   ·rename_i h2;cases h;obtain⟨q1,_⟩:=hp;simp only[pv,h1,h2,q1,nM]
   ·cases h
  ·rename_i rows l hh A1 h1;split at h
   ·rename_i e sz h2;cases h;obtain⟨⟨q1,q2⟩,_⟩:=hp;simp only[pv,h1,h2,q1,q2,nM]
   ·cases h
  ·cases h
 ·rename_i op' t x y t';split at h
  ·rename_i a b h1 h2;cases h;obtain⟨q1,_⟩:=hp;simp only[pv,h1,h2,Zb,q1,nM]
  ·rename_i k a k' b h1 h2;cases h;obtain⟨⟨rfl,q1,q2⟩,_⟩:=hp;simp only[pv,h1,h2,Zb,q1,q2,nM,LA]
  ·rename_i k a k' b h1 h2;cases h;obtain⟨⟨rfl,q1,q2⟩,_⟩:=hp;simp only[pv,h1,h2,Zb,q1,q2,nM,LA]
  ·exact plain h
 ·rename_i T x i ok;split at h
  ·rename_i id d' A1 h1;split at h
   ·rename_i kv hH;cases h;simp only[pv,h1,hH];exact hp.1
   ·cases h
  ·cases h
 ·split at h
  ·rename_i t v A1 h1;split at h
   ·cases h;obtain⟨rfl,_⟩:=hp;simp[pv,h1]
   ·cases h;obtain⟨rfl,_⟩:=hp;simp[pv,h1]
  ·cases h
 ·exact plain h
def bytesOf:List aR->Option Bytes
 | []=>some []
 |r::rs=>match r,bytesOf rs with
  | [.int .u8 n],some bs=>some (UInt8.ofNat n.toNat::bs)
  |_,_=>none
theorem UJ:∀ {rows:List aR} {bs:Bytes},bytesOf rows=some bs->∃xs:bM,rows=xs.map (fun n=>[D.int .u8 n])/\bs=xs.map (fun n=>UInt8.ofNat n.toNat):=by
 intro rows
 induction rows with
 |nil=>intro bs h;cases h;exact⟨[],rfl,rfl⟩
 |cons r rs ih=>
  intro bs h;simp only[bytesOf]at h;split at h
  ·rename_i n bs' h1;cases h;obtain⟨xs,rfl,rfl⟩:=ih h1;exact⟨n::xs,rfl,rfl⟩
  ·cases h
theorem Pw:∀(xs:bM),(xs.map (fun n=>[D.int .u8 n])).flatten=xs.map (fun n=>D.int .u8 n)
 | []=>rfl
 |n::xs=>by simp only[bA,iJ,Pw xs];rfl
def aCY(A:List An)(t:Nat):Option (List An):=match A with
 | .L5 u::A=>if u=t then some A else none
 |_=>none
def apS(H:bz)(d:D)(e sz:Nat):Option (List aR×Bool×ah):=match d with
 | .nil=>some ([],true,[])
 | .acc m=>(match H[m]? with
  |some (.row k e' sz' rows)=>(match k with| .cl=>none| .uq=>(if e'=e/\sz'=sz then some (rows,true,[m])else none)| .sh=>(if e'=e/\sz'=sz then some (rows,false,[m])else none)| .mv _=>none| .ho _ _=>none)
  |_=>none)
 |_=>none
def apX(H:bz)(d:D)(e sz:Nat)(A:List An):Option (List aR×Bool×ah×List An×Fp):=match d,A with
 | .nil,A=>some ([],true,[],A,[])
 | .acc m,A=>(match H[m]? with
  |some (.row k e' sz' rows)=>(match k with| .cl=>none| .uq=>(if e'=e/\sz'=sz then some (rows,true,[m],A,[])else none)| .sh=>(if sz'=sz then some (rows,false,[m],A,[])else none)| .mv _=>none| .ho _ _=>none)
  |_=>none)
 | .sl rows,.fl f::A=>some (rows,f&&YZ e,[],A,[(∀r∈rows,r.length=sz)/\(f=true->D.jq rows=true)])
 |_,_=>none
def WT(st:St)(d:D):Option (Nat×Nat×List aR×Option Value):=match d with
 | .acc id=>(match st.H[id]? with|some (.RQ sz rows u)=>some (id,sz,rows,u)|_=>none)
 |_=>none
def a1v(st:St)(d:D):Option (Nat×Nat×Nat×Nat×List aR×Option Value):=match d with
 | .op id i sz off=>(match st.H[id]? with|some (.RQ sz' rows u)=>if sz'=sz then some (id,i,off,sz,rows,u)else none|_=>none)
 |_=>none
def wT(n:Nat):aR->aR×bz
 | []=>([],[])
 |d::ds=>match d with
  | .sl rows=>(.acc n::(wT (n+1) ds).1,.tk rows::(wT (n+1) ds).2)
  |d=>(d::(wT n ds).1,(wT n ds).2)
def Tk(r:aR):Bool:=r.all fun d=>match d with| .sl _=>true|d=>d.flat
def Jq(P:Program)(nt:Nat)(o:Oper)(st:St)(A:List An):Option (St×List An×Fp):=match o.op,o.dst with
 | .box _ x,some t=>(if t<nt then match(st.ev x).cellsOf with|some ds=>some (⟨(t,.ptr st.H.length 0)::st.σ,st.H++[.box ds]⟩,A,[])|none=>none else none)
 | .alloc T,some t=>(if t<nt then match tz P T with|some ds=>some (⟨(t,.ptr st.H.length 0)::st.σ,st.H++[.box ds]⟩,A,[])|none=>none else none)
 | .store T x y,none=>(match st.ev x,(st.ev y).cellsOf with
  | .ptr id off,some ds=>(match st.H[id]? with
   |some ob=>(match ob.Xe with
    |some cells=>(if Wz P T=true/\ds.length=Bp P T/\off+ds.length<=cells.length/\ob.Y2 off=true then some (⟨st.σ,st.H.set id (ob.re (cells.take off++ds++cells.drop (off+ds.length)))⟩,A,[])else none)
    |none=>none)
   |none=>none)
  | .op id i sz off,some ds=>(match st.H[id]?,LG st.H ds,A with
   |some (.RQ sz' rows u),_,.row r::A=>none
   |some (.row k e sz' rows),some (es,ms),.row r::A=>(if Wz P T=true/\ds.length=Bp P T/\sz'=sz/\k.TQ=true/\off+ds.length<=sz/\ms.Nodup/\id∉ms then
    some (⟨st.σ,(kill st.H ms).set id (.row (k.after (Zx st.H e off ds&&Z2 e sz)) e sz (rows.set i (r.take off++es++r.drop (off+ds.length))))⟩,A,[rows[i]?=some r])else none)
   |_,_,_=>none)
  |_,_=>none)
 | .makeMap _ none,some t=>(if t<nt then some (⟨(t,.acc st.H.length)::st.σ,st.H++[.mp []]⟩,A,[])else none)
 | .mapUpdate T x i y,none=>(match Zr P T,st.ev x,A with
  |some (kd,_),.acc id,.kv m::A=>(match st.H[id]? with
   |some (.mp kv)=>(if Ko kd (st.ev i)=true/\(st.ev y).scalar=true then some (⟨st.σ,st.H.set id (.mp m)⟩,A,[MO (st.ev i) (st.ev y) kv=some m])else none)
   |_=>none)
  |_,_,_=>none)
 | .makeSlice T x y,some t=>(match Mm P T,st.ev x,st.ev y with
  |some (e,sz),.int _ n,.int _ n'=>(match tz P e with
   |some zs=>(if t<nt/\0<sz then some (⟨(t,.acc st.H.length)::st.σ,st.H++[.row (zu (YZ e)) e sz (List.replicate n.toNat (zs.map D.EV))]⟩,A,[n'=n/\0<=n/\tby P e*n.toNat<=281474976710656/\n.toNat<=4611686018427387904])else none)
   |none=>none)
  |_,_,_=>none)
 | .buildSlice T len parts,some t=>(match Mm P T with
  |some (e,sz)=>(match tz P e with
   |some zs=>(match Ad (vY len sz) (List.replicate len zs).flatten (parts.toList.map fun p=>(p.1,st.ev p.2))with
    |some ds=>(match LG st.H ds with
     |some (es,ms)=>(if t<nt/\0<sz/\len*sz<=16777216/\ms.Nodup then some (⟨(t,.acc st.H.length)::st.σ,kill st.H ms++[.row (zu (Zx st.H e 0 ds)) e sz (chunk sz len es)]⟩,A,[])else none)
     |none=>none)
    |none=>none)
   |none=>none)
  |none=>none)
 | .call c,some t=>(match c.callee,c.args.toList,c.argTypes.toList with
  | .builtin .append,[s,x],[T,T']=>(match Mm P T with
   |some (e,sz)=>(match tz P e,apS st.H (st.ev s) e sz,apX st.H (st.ev x) e sz A with
    |some _,some (rows,u1,k1),some (gA,u2,k2,A,ow)=>(if t<nt/\0<sz/\T'=T/\(k1++k2).Nodup then
     some (⟨(t,.acc st.H.length)::st.σ,kill st.H (k1++k2)++[.row (zu ((u1&&u2)&&Z2 e sz)) e sz (rows++gA)]⟩,A,(rows.length+gA.length<=maxLen/\(rows.length+gA.length)*tby P e<=140737488355328)::ow)else none)
    |_,_,_=>none)
   |none=>none)
  | .builtin .len,[x],[T]=>(match WT st (st.ev x)with
   |some (_,_,rows,_)=>none
   |none=>(if t<nt then match Jb P st o.op A with|some (d,A,ow)=>some (⟨(t,d)::st.σ,st.H⟩,A,ow)|none=>none else none))
  | .value (.func f),xs,_=>(match Kx st.H (xs.map st.ev),A with
   |_,.gv ms outs d::A=>none
   |_,.gp nz cells' d::A=>(match xs with
    |x0::xr=>(match st.ev x0 with
     | .ptr id 0=>(match st.H[id]? with
      |some ob=>(match ob.Xe with
       |some N8=>(match CX st.H nz (.agg N8::xr.map st.ev)with
        |some (.agg cells::ds,ms,qs)=>(if t<nt/\ms.Nodup/\qs.Nodup/\(∀m∈qs,m∉ms)then
         some (⟨(t,(tE (st.H.length+(pu st.H.length cells').2.length) d).1)::st.σ,(kill st.H (ms++qs)).set id (ob.re (pu st.H.length cells').1)++((pu st.H.length cells').2++(tE (st.H.length+(pu st.H.length cells').2.length) d).2)⟩,A,[iz P f cells cells' ds d])else none)
        |_=>none)
       |none=>none)
      |none=>none)
     |_=>none)
    | []=>none)
   |some (ds,ms),.dn cells::A=>(if t<nt/\ms=[]then some (⟨(t,.ptr st.H.length 0)::st.σ,st.H++[.box cells]⟩,A,[LF P f ds cells])else none)
   |some (ds,_),.dc d::A=>none
   |_,.ov id eO::A=>(match st.H[id]? with
    |some (.row .uq e sz rows)=>(if t<nt/\((xs.map st.ev).all D.bare)=true/\YZ e=true then some (⟨(t,.acc st.H.length)::st.σ,kill st.H [id]++[.row .uq e sz eO]⟩,A,[rows.flatten.all D.flat=true,Jf P f ((xs.map st.ev).map (D.rnS [id])) e sz rows eO])else none)
    |_=>none)
   |_,.mu id eO::A=>(match xs,st.H[id]? with
    | [x],some (.row k e sz rows)=>(match st.ev x with
     | .acc id'=>(if t<nt/\id'=id/\k.hand=true/\YZ e=true then some (⟨(t,.iw [])::st.σ,st.H.set id (.row k e sz eO)⟩,A,[rows.flatten.all D.flat=true,U0 P f e sz rows eO])else none)
     |_=>none)
    |_,_=>none)
   |some (ds,ms),.d d::A=>(if t<nt/\(ms=[]\/d.TR=true)then some (⟨(t,(tE st.H.length d).1)::st.σ,st.H++(tE st.H.length d).2⟩,A,[Good P f ds d])else none)
   |_,.nl d::A=>(if t<nt/\(xs.map st.ev).all OH=true then some (⟨(t,(tE st.H.length d).1)::st.σ,st.H++(tE st.H.length d).2⟩,A,[Good P f (xs.map st.ev) d])else none)
   |_,.gf nz d::A=>(match CX st.H nz (xs.map st.ev)with
    |some (ds,ms,qs)=>(if t<nt/\ms.Nodup/\qs.Nodup/\(∀m∈qs,m∉ms)then some (⟨(t,(tE st.H.length d).1)::st.σ,kill st.H (ms++qs)++(tE st.H.length d).2⟩,A,[LD P f ds d])else none)
    |none=>none)
   |_,_=>none)
  |_,_,_=>(if t<nt then match Jb P st o.op A with|some (d,A,ow)=>some (⟨(t,d)::st.σ,st.H⟩,A,ow)|none=>none else none))
 | .convert s d x,some t=>(match st.ev x with
  | .acc id=>(match st.H[id]?,Mm P s with
   |some (.row _ _ _ rows),some (e,sz)=>(match bytesOf rows with
    |some bs=>(if t<nt/\sz=1/\X0 P e=some .u8/\O0 P d=true then some (⟨(t,.str bs)::st.σ,st.H⟩,A,[])else none)
    |none=>none)
   |_,_=>none)
  |_=>(if t<nt then match Jb P st o.op A with|some (d,A,ow)=>some (⟨(t,d)::st.σ,st.H⟩,A,ow)|none=>none else none))
 | .assign x,some t=>(match aCY A t with
  |some A=>(match st.ev x,Mm P o.type with
   | .nil,some (e,sz)=>(if t<nt/\0<sz then some (⟨(t,.acc st.H.length)::st.σ,st.H++[.row .uq e sz []]⟩,A,[])else none)
   |_,_=>none)
  |none=>(if t<nt then some (⟨(t,st.ev x)::st.σ,st.H⟩,A,[])else none))
 | .slice T x none (some hi) none,some t=>(match st.ev x with
  | .acc id=>(match st.H[id]?,Mm P T,st.ev hi,A with
   |some (.row .uq e sz rows),some (_,sz'),.int _ n,.cut 0 h::A=>(if t<nt/\sz'=sz then some (⟨(t,.acc st.H.length)::st.σ,kill st.H [id]++[.row .uq e sz (rows.take h)]⟩,A,[n=((h:Nat):Int)/\h<=rows.length])else none)
   |_,_,_,_=>none)
  |_=>(if t<nt then match Jb P st o.op A with|some (d,A,ow)=>some (⟨(t,d)::st.σ,st.H⟩,A,ow)|none=>none else none))
 | .slice T (.tmp s) (some lo) none none,some t=>(match A,lk st.σ s with
  | .fz::A,.acc id=>(match st.H[id]? with
   |some (.row k e sz rows)=>(if t<nt/\k.TQ=true then match Jb P ⟨(s,.sl rows)::st.σ,st.H.set id .gone⟩ o.op A with|some (d,A,ow)=>some (⟨(t,d)::(s,.sl rows)::st.σ,st.H.set id .gone⟩,A,ow)|none=>none else none)
   |_=>none)
  |_,_=>(if t<nt then match Jb P st o.op A with|some (d,A,ow)=>some (⟨(t,d)::st.σ,st.H⟩,A,ow)|none=>none else none))
 | .indexAddr T x i,some t=>(match WT st (st.ev x)with
  |some (id,sz,rows,_)=>none
  |none=>(if t<nt then match Jb P st o.op A with|some (d,A,ow)=>some (⟨(t,d)::st.σ,st.H⟩,A,ow)|none=>none else none))
 | .load T x,some t=>(match a1v st (st.ev x)with
  |some (id,i,off,sz,rows,u)=>none
  |none=>(match A,st.ev x with
   | .tk r::A,.op id i sz 0=>(match st.H[id]? with
    |some (.row (.mv n) e sz' rows)=>(if t<nt/\sz'=sz/\Dd P T=some true/\Bp P T=sz then
     some (⟨(t,.agg (wT st.H.length r).1)::st.σ,st.H.set id (.row (.mv (n+1)) e sz rows)++(wT st.H.length r).2⟩,A,[i=n/\rows[n]?=some r/\Tk r=true])else none)
    |_=>none)
   |A,_=>(if t<nt then match Jb P st o.op A with|some (d,A,ow)=>some (⟨(t,d)::st.σ,st.H⟩,A,ow)|none=>none else none)))
 |op,some t=>(if t<nt then match Jb P st op A with|some (d,A,ow)=>some (⟨(t,d)::st.σ,st.H⟩,A,ow)|none=>none else none)
 |_,none=>none
section
variable{P:Program}{Z:wV}{Q:Exit->St->Prop}{st:St}{all:Array Oper}{rest:List Oper}
theorem fE.a2C{κ:Nat->Option Value}{Θ:Nat->Nat}{a:Act}{w:World}(hs:fE Z st κ Θ a w)(e sz:Nat)(hsz:0<sz):fE Z ⟨st.σ,st.H++[.row .uq e sz []]⟩ (Al κ st.H.length (some (.slice none 0 0))) Θ a w:=by
 obtain⟨ρ,hu⟩:=hs.vo;refine hs.put [] ER (AD (hs.uY _ (br _)) _) ?_ ?_ (jy.refl hs.own (by omega)) hs.mine ?_ hu (by simp) ?_
 ·intro i hi;simp only[bB,aQ,cE]at hi;unfold Al;rw[bE (by omega)];exact hs.uY i (by omega)
 ·intro i x hx;unfold Al at hx;split at hx
  ·cases hx;rfl
  ·exact hs.tF i x hx
 ·exact⟨hsz,by simp,_,[],[],ng _ _ _,World.ownsRow_nil w 0 e sz,.nil,by simp[Value.ownBlock],by simp⟩
 ·intro e' sz' eO he;simp only[Ob.row.injEq,AG]at he;obtain⟨rfl,rfl,rfl⟩:=he;exact⟨_,[],[],ng _ _ _,World.ownsRow_nil w 0 e sz,.nil _,by simp,by simp⟩
theorem a7s{o:Oper}{x:Operand}{t e sz:Nat}(hop:o.op=.assign x)(hd:o.dst=some t)(hg:o.guard=none)(ht:t<Z.nt)(hx:st.ev x=.nil)(hsz:0<sz)
 (h:AO P Z all rest Q ⟨(t,.acc st.H.length)::st.σ,st.H++[.row .uq e sz []]⟩):AO P Z all (o::rest) Q st:=by
 intro κ Θ a w hs;obtain⟨bs,r,_⟩:=hs.ev x;rw[hx]at r;have hv:=r.MV;have hp:pv P st o.op=some .nil:=by rw[hop];simp[pv,hx]
 obtain⟨v,b2,hrun,hrd,hz⟩:=IA hs hp;have Gc:=hrd.MV;subst Gc;refine wpList_plain hg fun K hK=>?_
 unfold Oper.wp;rw[hrun,Oper.upon_value,hd];refine hK _ _ (h _ _ _ _ ((hs.a2C e sz hsz).set (t:=t) (d:=.acc st.H.length) (bs:=[]) ht ?_ (by simp)));exact(Bf.acc st.H.length _ (ng _ _ _)).Tv
theorem gH.a9f{κ:Nat->Option Value}{w:World}{n:Nat}(hk:κ n=some (.slice none 0 0)):∀ {vs:cG} {ds:aR} {bs:ah},gH w κ vs ds bs->∀ {off:Nat},ds[off]?=some .nil->∃bs',gH w κ vs (ds.set off (.acc n)) bs'/\∀b∈bs',b∈bs:=by
 intro vs ds bs h
 induction h with
 |nil=>intro off h;simp at h
 |cons v vs d ds b1 b2 h1 h2 h3 ih=>
  intro off h;cases off with
  |zero=>
   simp only[Dp,bC]at h;subst h;have hv:v=.slice none 0 0:=by
    cases h2 with
    |pure h2=>cases h2;rfl
   subst hv;exact⟨[]++b2,.cons _ _ _ _ _ _ h1 (.acc n _ hk) h3,fun b hb=>by simp at hb;simp[hb]⟩
  |succ off=>
   obtain⟨bs',q1,q2⟩:=ih (off:=off) (by simpa using h);exact⟨b1++bs',.cons _ _ _ _ _ _ h1 h2 q1,fun b hb=>by
    rcases aW.1 hb with hb|hb
    ·exact aW.2 (.inl hb)
    ·exact aW.2 (.inr (q2 b hb))⟩
def St.prom(st:St)(id off e sz:Nat):Option St:=match st.H[id]? with
 |some (.box cells)=>(match cells[off]? with
  |some .nil=>(if 0<sz then some ⟨st.σ,(st.H++[Ob.row .uq e sz []]).set id (Ob.box (cells.set off (.acc st.H.length)))⟩else none)
  |_=>none)
 |_=>none
theorem fE.prom{κ:Nat->Option Value}{Θ:Nat->Nat}{a:Act}{w:World}{xO:St}{id off e sz:Nat}(hs:fE Z st κ Θ a w)(h:st.prom id off e sz=some xO):∃κ',fE Z xO κ' Θ a w:=by
 unfold St.prom at h;split at h
 ·rename_i cells hH;split at h
  ·rename_i hc;split at h
   ·rename_i hsz;cases h;have hlt:id<st.H.length:=(aN.1 hH).1;have hs1:=hs.a2C e sz hsz;refine⟨_,hs1.defers,hs1.size,fun i hi=>hs1.uY i (by simpa using hi),hs1.tF,hs1.slot,?_,hs1.own,hs1.old,hs1.mine,hs1.stays,?_⟩
    ·intro j y hj;simp only[iK]at hj;split at hj
     ·rename_i e1;subst e1;split at hj
      ·cases hj;obtain⟨g,cs,T,q1,q2,q3,bs,q4,q5⟩:=hs1.ob id (.box cells) (by simpa[bJ hlt]using hH);obtain⟨bs',p1,p2⟩:=gH.a9f (n:=st.H.length) (ng _ _ _) q4 hc;exact⟨g,cs,T,q1,q2,q3,bs',p1,fun b hb=>q5 b (p2 b hb)⟩
      ·cases hj
     ·exact hs1.ob j y hj
    ·obtain⟨ρ,hu⟩:=hs1.vo;refine⟨ρ,hu.free,fun i e' sz' rows hi=>hu.rows i e' sz' rows ?_,fun i o hi=>?_⟩
     ·simp only[iK]at hi;split at hi
      ·split at hi<;>cases hi
      ·exact hi
     ·simp only[iK]at hi;split at hi
      ·split at hi
       ·cases hi;trivial
       ·cases hi
      ·exact hu.more i o hi
   ·cases h
  ·cases h
 ·cases h
theorem fE.aD6{κ:Nat->Option Value}{Θ:Nat->Nat}{a:Act}{w:World}{id e sz:Nat}{rows:List aR}(hs:fE Z st κ Θ a w)(hH:st.H[id]?=some (.row .uq e sz rows)):fE Z ⟨st.σ,st.H.set id (.row .sh e sz rows)⟩ κ Θ a w:=by
 have hlt:id<st.H.length:=(aN.1 hH).1;refine⟨hs.defers,hs.size,fun i hi=>hs.uY i (by simpa using hi),hs.tF,hs.slot,?_,hs.own,hs.old,hs.mine,hs.stays,?_⟩
 ·intro j y hj;simp only[iK,hlt,nM]at hj;split at hj
  ·rename_i e1;subst e1;cases hj;exact(show yj w κ Θ id (.row .uq e sz rows)from hs.ob id _ hH)
  ·exact hs.ob j y hj
 ·obtain⟨ρ,hu⟩:=hs.vo;refine⟨ρ,hu.free,fun i e' sz' eO hi=>hu.rows i e' sz' eO ?_,fun i o hi=>?_⟩
  ·simp only[iK,hlt,nM]at hi;split at hi
   ·cases hi
   ·exact hi
  ·simp only[iK,hlt,nM]at hi;split at hi
   ·cases hi;trivial
   ·exact hu.more i o hi
theorem fE.mvz{κ:Nat->Option Value}{Θ:Nat->Nat}{a:Act}{w:World}{id e sz:Nat}{rows:List aR}(hs:fE Z st κ Θ a w)(hH:st.H[id]?=some (.row .uq e sz rows)):fE Z ⟨st.σ,st.H.set id (.row (.mv 0) e sz rows)⟩ κ Θ a w:=by
 have hlt:id<st.H.length:=(aN.1 hH).1;refine⟨hs.defers,hs.size,fun i hi=>hs.uY i (by simpa using hi),hs.tF,hs.slot,?_,hs.own,hs.old,hs.mine,hs.stays,?_⟩
 ·intro j y hj;simp only[iK,hlt,nM]at hj;split at hj
  ·rename_i e1;subst e1;cases hj;exact(show yj w κ Θ id (.row .uq e sz rows)from hs.ob id _ hH)
  ·exact hs.ob j y hj
 ·obtain⟨ρ,hu⟩:=hs.vo;refine⟨ρ,hu.free,fun i e' sz' eO hi=>hu.rows i e' sz' eO ?_,fun i o hi=>?_⟩
  ·simp only[iK,hlt,nM]at hi;split at hi
   ·cases hi
   ·exact hi
  ·simp only[iK,hlt,nM]at hi;split at hi
   ·rename_i e1;subst e1;cases hi;obtain⟨v,cs,bs,q1,q2,q3,q4,q5⟩:=hu.rows id e sz rows hH;exact⟨v,cs,bs,q1,q2,by simpa using q3.rd,q4,q5⟩
   ·exact hu.more i o hi
def shares:List An->St->St×List An
 | .sk id::A,st=>(match st.H[id]? with
  |some (.row .uq e sz rows)=>shares A ⟨st.σ,st.H.set id (.row .sh e sz rows)⟩
  |_=>(st,.sk id::A))
 | .mz id::A,st=>(match st.H[id]? with
  |some (.row .uq e sz rows)=>shares A ⟨st.σ,st.H.set id (.row (.mv 0) e sz rows)⟩
  |_=>(st,.mz id::A))
 |A,st=>(st,A)
theorem fE.shares{κ:Nat->Option Value}{Θ:Nat->Nat}{a:Act}{w:World}:∀ {A A1:List An} {st AB:St},fE Z st κ Θ a w->shares A st=(AB,A1)->fE Z AB κ Θ a w:=by
 intro A
 induction A with
 |nil=>intro A1 st AB hs h;simp only[Cx.shares,dG]at h;obtain⟨rfl,_⟩:=h;exact hs
 |cons x A ih=>
  intro A1 st AB hs h;cases x
  case sk id=>
   simp only[Cx.shares]at h;split at h
   ·rename_i e sz rows hH;exact ih (hs.aD6 hH) h
   ·simp only[dG]at h;obtain⟨rfl,_⟩:=h;exact hs
  case mz id=>
   simp only[Cx.shares]at h;split at h
   ·rename_i e sz rows hH;exact ih (hs.mvz hH) h
   ·simp only[dG]at h;obtain⟨rfl,_⟩:=h;exact hs
  all_goals(simp only[Cx.shares,dG]at h;obtain⟨rfl,_⟩:=h;exact hs)
theorem a47{o:Oper}{s d:TypeId}{x:Operand}{t id e e' sz':Nat}{k:RK}{rows:List aR}{bs:Bytes}(hop:o.op=.convert s d x)(hd:o.dst=some t)(hg:o.guard=none)(ht:t<Z.nt)(hx:st.ev x=.acc id)
 (hH:st.H[id]?=some (.row k e' sz' rows)) (hT:Mm P s=some (e,1)) (he:X0 P e=some .u8) (hs':O0 P d=true) (hb:bytesOf rows=some bs) (h:AO P Z all rest Q ⟨(t,.str bs)::st.σ,st.H⟩):AO P Z all (o::rest) Q st:=by
 intro κ Θ a w hs;obtain⟨b0,r,_⟩:=hs.ev x;rw[hx]at r;obtain⟨hk,_⟩:=r.A7;obtain⟨hsz,hrl,v,cs,b1,hk2,hown,uz,_,_⟩:=hs.ob id _ hH;rw[hk]at hk2;cases hk2;obtain⟨xs,rfl,rfl⟩:=UJ hb;obtain⟨hu,_,_⟩:=uV hT;have hue:P.underlying e=some (.int .u8):=by
  unfold X0 at he;split at he
  ·rename_i k' hk';cases he;exact hk'
  ·cases he
 have hud:=zx hs';have hfl:(xs.map (fun n=>[D.int .u8 n])).flatten=xs.map (fun n=>D.int .u8 n):=Pw xs;rw[hfl]at uz;have hcs:∀(xs:bM) (cs:cG) (b:ah),oH w cs (xs.map (fun n=>D.int .u8 n)) b->cs=xs.map (Value.int .u8):=by
  intro xs
  induction xs with
  |nil=>intro cs b h;cases h;rfl
  |cons n xs ih=>
   intro cs b h;cases h with
   |cons v vs _ _ b1 b2 _ h2 h3=>
    cases h2;rw[ih _ _ h3];rfl
 have hce:=hcs xs cs b1 uz;have hlen:xs.length<=maxLen:=by
  rcases hown.2 with⟨_,hn⟩|⟨g,cap,cur,_,_,_,hnc,hcm,_⟩
  ·simp at hn;rw[hn];simp
  ·simp at hnc;omega
 have hrun:(convert s d (a.eval x)).run P w=.ok (.string (strOfNums xs)) w:=by
  rcases hown.2 with⟨hv,hn⟩|⟨g,cap,cur,hv,_,hg,hnc,hcm,_,_⟩
  ·have hx0:xs=[]:=by simpa using hn
   subst hx0;rw[hv,run_convert_bytes_nil w s e hu hue 0 0 d hud];rfl
  ·rw[hv];have hcell:=hown.cells (g:=g) (by rw[hv];simp[Value.ownBlock]);refine run_convert_bytes_arg w s e hu hue g 0 _ cap xs (by simp) (fun i hi=>?_) d hud;have hi':i<xs.length:=by simpa using hi
   have:=hcell i (.int .u8 (xs.getD i 0)) (by rw[hce];simp[List.getD,av hi']);simpa[Addr.add_lit]using this
 refine wpList_plain hg fun K hK=>?_
 unfold Oper.wp;have Uh:(execOp a.eval o).run P w=.ok (.value (.string (strOfNums xs))) w:=by
  simp only[execOp,hop];simp[hrun]
 rw[Uh,Oper.upon_value,hd];refine hK _ _ (h _ _ _ _ (hs.set (t:=t) (bs:=[]) ht ?_ (by simp)));have hsl:(strOfNums xs).data.toList=xs.map (fun n=>UInt8.ofNat n.toNat):=by simp[strOfNums]
 have hss:(strOfNums xs).size<=maxLen:=by
  have:(strOfNums xs).size=xs.length:=by
   have:=congrArg List.length hsl;simpa using this
  omega
 have:=Rd.str (w:=w) (strOfNums xs) hss;rw[hsl]at this;exact .of this
theorem a7p{o:Oper}{t:Nat}{s x:Operand}{T e sz:Nat}{zs:aR}{rows gA:List aR}{u1 u2:Bool}{k1 k2:ah}{A A':List An}{ow:Fp}
 (hop:o.op=.call {callee:=.builtin .append,args:= #[s,x],argTypes:= #[T,T]}) (hd:o.dst=some t) (hg:o.guard=none) (ht:t<Z.nt) (hT:Mm P T=some (e,sz)) (hz:tz P e=some zs) (hsz:0<sz)
 (hS:apS st.H (st.ev s) e sz=some (rows,u1,k1)) (hX:apX st.H (st.ev x) e sz A=some (gA,u2,k2,A',ow)) (how:Ao ow) (hnd:(k1++k2).Nodup)
 (h63:rows.length+gA.length<=maxLen) (hby:(rows.length+gA.length)*tby P e<=140737488355328)
 (h:AO P Z all rest Q ⟨(t,.acc st.H.length)::st.σ,kill st.H (k1++k2)++[.row (zu ((u1&&u2)&&Z2 e sz)) e sz (rows++gA)]⟩):AO P Z all (o::rest) Q st:=by
 refine Ye hop hd hg ht hT hz hsz h63 hby ?_ h;intro κ Θ a w ρ hs hu;have one:∃i1 b1 c1,a0U w Θ ρ e sz (a.eval s) rows u1 i1 b1 c1/\((k1=[]/\i1=st.H.length)\/k1=[i1]):=by
  obtain⟨bs,r,_⟩:=hs.ev s;unfold apS at hS;split at hS
  ·rename_i Pz;cases hS;rw[Pz]at r;have:=r.MV;rw[this];exact⟨st.H.length,[],[],a0d,.inl ⟨rfl,rfl⟩⟩
  ·rename_i m Pz;rw[Pz]at r;obtain⟨hk,_⟩:=r.A7;split at hS
   ·rename_i k e' sz' eO hH;split at hS
    ·cases hS
    ·split at hS
     ·rename_i hc;obtain⟨rfl,rfl⟩:=hc;cases hS;obtain⟨b1,c1,hA⟩:=LI hs hu hk hH rfl;exact⟨m,b1,c1,hA,.inr rfl⟩
     ·cases hS
    ·split at hS
     ·rename_i hc;obtain⟨rfl,rfl⟩:=hc;cases hS;obtain⟨b1,c1,hA⟩:=LI hs hu hk hH rfl;exact⟨m,b1,c1,hA,.inr rfl⟩
     ·cases hS
    ·cases hS
    ·cases hS
   ·cases hS
  ·cases hS
 have two:∃i2 b2 c2,SR w Θ ρ e sz (a.eval x) gA u2 i2 b2 c2/\(u2=true->b2=[]\/i2∈k2):=by
  obtain⟨bs,r,hz⟩:=hs.ev x;unfold apX at hX;split at hX
  ·rename_i A1 Pz;cases hX;rw[Pz]at r;have:=r.MV;rw[this];exact⟨0,[],[],a0e,fun _=>.inl rfl⟩
  ·rename_i A1 m Pz;rw[Pz]at r;obtain⟨hk,_⟩:=r.A7;split at hX
   ·rename_i k e' sz' eO hH;split at hX
    ·cases hX
    ·split at hX
     ·rename_i hc;obtain⟨rfl,rfl⟩:=hc;cases hX;obtain⟨b1,c1,hA⟩:=UB hs hu hk hH rfl;exact⟨m,b1,c1,hA,fun _=>.inr (by simp)⟩
     ·cases hX
    ·split at hX
     ·rename_i hc;subst hc;cases hX;obtain⟨b1,c1,hA⟩:=UB hs hu hk hH rfl;exact⟨m,b1,c1,hA.sh,fun _=>.inr (by simp)⟩
     ·cases hX
    ·cases hX
    ·cases hX
   ·cases hX
  ·rename_i eO f A1 Pz;cases hX;rw[Pz]at r;obtain⟨⟨q1,q2⟩,_⟩:=how;obtain⟨b2,c2,hA,hb⟩:=a4P (ρ:=ρ) r.Th hz q1 0 (f&&YZ e) (fun hh=>q2 (by simp only[aS]at hh;exact hh.1)) e (fun hh=>EW (by simp only[aS]at hh;exact hh.2));exact⟨0,b2,c2,hA,fun e=>.inl (hb e)⟩
  ·cases hX
 obtain⟨i1,b1,c1,hA,hk1⟩:=one;obtain⟨i2,b2,c2,hB,hk2⟩:=two;refine⟨u1,u2,i1,i2,b1,b2,c1,c2,hA,hB,?_,fun ze=>?_⟩
 ·rcases hk1 with⟨_,h⟩|h
  ·exact .inr h
  ·exact .inl (by simp[h])
 ·rw[aS]at ze;obtain⟨ze,WA⟩:=ze;simp only[aS]at ze;refine⟨ze.1,ze.2,?_,WA⟩;rcases hk2 ze.2 with h|hmem
  ·exact .inl h
  ·refine .inr ⟨by simp[hmem],fun e=>?_⟩;rcases hk1 with⟨h1,h2⟩|h1
   ·
    have hlt:i2<st.H.length:=by
     unfold apX at hX;split at hX
     ·cases hX;cases hmem
     ·rename_i A1 m Pz;split at hX
      ·rename_i k e' sz' eO hH;have:=(aN.1 hH).1;split at hX
       ·cases hX
       ·split at hX
        ·cases hX;simp at hmem;omega
        ·cases hX
       ·split at hX
        ·cases hX;simp at hmem;omega
        ·cases hX
       ·cases hX
       ·cases hX
      ·cases hX
     ·cases hX;cases hmem
     ·cases hX
    omega
   ·subst e;have:=(cC.1 hnd).2.2 i1 (by simp[h1]) i1 hmem;exact this rfl
theorem a3Q{κ:Nat->Option Value}{w:World}:∀ {ds:aR} {n:Nat} {vs:cG} {bs:ah},oH w vs ds bs->(∀d∈ds,d.flat=true\/∃rows,d=.sl rows)->bs.Nodup->
 ∃(us:cG) (L:List ah),us.length=(wT n ds).2.length/\L.length=us.length/\L.flatten=bs/\
  (∀(j:Nat) o,(wT n ds).2[j]?=some o->∃rows u b,o=.tk rows/\us[j]?=some u/\u.oneCell'=true/\L[j]?=some b/\Rd w u (.sl rows) b)/\
  (∀κ':Nat->Option Value,(∀(j:Nat) u,us[j]?=some u->κ' (n+j)=some u)->gH w κ' vs (wT n ds).1 []):=by
 intro ds
 induction ds with
 |nil=>intro n vs bs h _ _;cases h;exact⟨[],[],rfl,rfl,rfl,by simp[wT],fun _ _=>.nil⟩
 |cons d ds ih=>
  intro n vs bs h hd hnd;cases h with
  |cons v vs _ _ b1 b2 h1 h2 h3=>
   obtain⟨n1,n2,n3⟩:=cC.1 hnd;rcases hd d (by simp)with hf|⟨rows,rfl⟩
   ·have hb:=h2.flat hf;subst hb;obtain⟨us,L,q1,q2,q3,q4,q5⟩:=ih (n:=n) h3 (fun x hx=>hd x (by simp[hx])) n2;have e:wT n (d::ds)=(d::(wT n ds).1,(wT n ds).2):=by cases d<;>first|rfl| (simp[D.flat]at hf)
    rw[e];exact⟨us,L,q1,q2,q3,q4,fun κ' hk=>by simpa using gH.cons v vs d _ [] [] h1 (.pure h2) (q5 κ' hk)⟩
   ·obtain⟨us,L,q1,q2,q3,q4,q5⟩:=ih (n:=n+1) h3 (fun x hx=>hd x (by simp[hx])) n2;refine⟨v::us,b1::L,by simp[wT,q1],by simp[q2],by simp[q3],fun j o hj=>?_,fun κ' hk=>?_⟩
    ·cases j with
     |zero=>simp[wT]at hj;subst hj;exact⟨rows,v,b1,rfl,rfl,h1,rfl,h2⟩
     |succ j=>
      obtain⟨eO,u,b,r1,r2,r3,r4,r5⟩:=q4 j o (by simpa[wT]using hj);exact⟨eO,u,b,r1,by simpa using r2,r3,by simpa using r4,r5⟩
    ·have:=gH.cons v vs (.acc n) _ [] [] h1 (.acc n v (by have:=hk 0 v rfl;simpa using this)) (q5 κ' (fun j u hj=>by have:=hk (j+1) u (by simpa using hj);rw[<-this];congr 1;omega));simpa[wT]using this
theorem Wx{r:aR}(h:Tk r=true):∀d∈r,d.flat=true\/∃rows,d=.sl rows:=by
 intro d hd;have:=b8.1 h d hd;cases d<;>first|exact .inr ⟨_,rfl⟩|exact .inl this
theorem a4A{o:Oper}{T id i sz e t:Nat}{x:Operand}{rows:List aR}{r:aR}(hop:o.op=.load T x)(hd:o.dst=some t)(hg:o.guard=none)(ht:t<Z.nt)
 (hx:st.ev x=.op id i sz 0) (hH:st.H[id]?=some (.row (.mv i) e sz rows)) (hrow:rows[i]?=some r) (hT:Dd P T=some true) (hsz:Bp P T=sz) (hok:Tk r=true)
 (h:AO P Z all rest Q ⟨(t,.agg (wT st.H.length r).1)::st.σ,st.H.set id (.row (.mv (i+1)) e sz rows)++(wT st.H.length r).2⟩):AO P Z all (o::rest) Q st:=by
 intro κ Θ a w hs;obtain⟨b1,r1,_⟩:=hs.ev x;rw[hx]at r1;obtain⟨g,o0,len,cap,hk,hv⟩:=r1.Qb;obtain⟨ρ,hu⟩:=hs.vo;obtain⟨a8Z,hrl,vk0,cs0,XX,aAz,a6c,aFS,hΘ,Aj⟩:=hs.ob id _ hH;obtain⟨vk,cs,bs,Xu,hown,uz,hnd,hρ⟩:=hu.more id _ hH;rw[hk]at Xu aAz;cases Xu;cases aAz;have Xq:=Bb hown;subst Xq;rw[cY]at hv;have Xt:r.length=sz:=hrl r (aE hrow);have hlt:i<rows.length:=(aN.1 hrow).1;have Uc:rows.drop i=r::rows.drop (i+1):=by
  rw[oM hlt]
  congr 1
  rw[av hlt]at hrow;exact lQ hrow
 rw[Uc,iJ]at uz;obtain⟨v1,v2,c1,c2,Oq,PD,k1,k2⟩:=uz.split;have l1:v1.length=sz:=by rw[k1.length,Xt]
 have hcells:∀j c,cs[j]?=some c->w.cell? ⟨g,0+j,none⟩=some c:=by
  intro j c hj;have:=hown.cells (g:=g) (by simp[Value.ownBlock]) j c hj;simpa[Addr.add_lit]using this
 have L0:=rj (P:=P) (w:=w) hT (o:=i*sz+0) hcells;simp only[cY,wW]at L0 hv;have hle:(i+1)*sz<=rows.length*sz:=fN _ hlt;rw[oA,rA]at hle;have a16:=hown.1;have hval:(cs.drop (i*sz)).take sz=v1:=by rw[Oq];exact lP l1
 have hrun:(execOp a.eval o).run P w=.ok (.value (.agg v1.toArray)) w:=by
  simp only[execOp,hop,hv];have:=L0.1 trivial (by rw[hsz,a16];omega);rw[hsz,hval]at this;simp[this]
 refine wpList_plain hg fun K hK=>?_
 unfold Oper.wp;rw[hrun,Oper.upon_value,hd];rw[PD]at hnd hρ;obtain⟨n1,n2,n3⟩:=cC.1 hnd;obtain⟨us,L,q1,q2,q3,q4,q5⟩:=a3Q (κ:=κ) (n:=st.H.length) k1 (Wx hok) n1;let N:=st.H.length
 let κ':Nat->Option Value:=fun j=>if j<N then κ j else us[j-N]?
 let ρ':Nat->Nat:=fun b=>match ix (fun x:ah=>x.contains b) L with|some j=>N+j+1|none=>ρ b
 have hn:∀(j:Nat) v,κ j=some v->κ' j=some v:=by
  intro j v hj;have:j<N:=by
   rcases gj j N with h|h
   ·exact h
   ·rw[hs.uY j h]at hj;cases hj
  simp only[κ'];rw[bP this];exact hj
 have hk':∀(j:Nat) u,us[j]?=some u->κ' (N+j)=some u:=fun j u hj=>by
  simp only[κ'];rw[bE (by omega),jN];exact hj
 have aAU:L.flatten.Nodup:=by rw[q3];exact n1
 have aB3:∀(j:Nat) x b,L[j]?=some x->b∈x->ρ' b=N+j+1:=by
  intro j x b hj hb;have:ix (fun x:ah=>x.contains b) L=some j:=Nf hj (by simpa using hb) (fun m y hm hy=>by
   have hy':b∈y:=by simpa using hy
   exact dK fun hne=>by
    have key:∀(L:List ah),L.flatten.Nodup->∀(p q:Nat) x y,L[p]?=some x->L[q]?=some y->b∈x->b∈y->p=q:=by
     intro L
     induction L with
     |nil=>intro _ p q x y hp;simp at hp
     |cons z L ih=>
      intro hnd p q x y hp hq IM hby;simp only[iJ]at hnd;obtain⟨m1,m2,m3⟩:=cC.1 hnd;cases p with
      |zero=>
       cases q with
       |zero=>rfl
       |succ q=>
        simp at hp hq;subst hp;exact absurd rfl (m3 b IM b (rJ.2 ⟨y,aE hq,hby⟩))
      |succ p=>
       cases q with
       |zero=>
        simp at hp hq;subst hq;exact absurd rfl (m3 b hby b (rJ.2 ⟨x,aE hp,IM⟩))
       |succ q=>simp at hp hq;rw[ih m2 p q x y hp hq IM hby]
    exact hne (key L aAU m j y x hm hj hy' hb))
  simp only[ρ',this]
 have T5:∀b,b∉c1->ρ' b=ρ b:=by
  intro b hb;simp only[ρ'];cases hi:ix (fun x:ah=>x.contains b) L with
  |none=>rfl
  |some j=>
   obtain⟨x,hx',hp⟩:=FJ hi;exact absurd (by rw[<-q3];exact rJ.2 ⟨x,aE hx',by simpa using hp⟩) hb
 have aI1:id<N:=(aN.1 hH).1;have key:∀(j:Nat) y,(st.H.set id (.row (.mv (i+1)) e sz rows)++(wT st.H.length r).2)[j]?=some y->(j=id/\y=.row (.mv (i+1)) e sz rows)\/(j≠id/\j<N/\st.H[j]?=some y)\/∃m,j=N+m/\(wT st.H.length r).2[m]?=some y:=by
  intro j y hj;by_cases hlt:j<N
  ·rw[bJ (by simpa using hlt)]at hj;rcases IS j y hj with h|⟨h1,h2⟩
   ·exact .inl h
   ·exact .inr (.inl ⟨h1,hlt,h2⟩)
  ·rw[bW (by simpa using hlt)]at hj;exact .inr (.inr ⟨j-N,by omega,by simpa using hj⟩)
 have kk:jy w w Θ Θ (id+2):=jy.refl hs.own (by omega);have wo:=hs.tH kk hn hu;have hone:∀(j:Nat) u,κ' j=some u->u.oneCell'=true:=by
  intro j u hj;simp only[κ']at hj;split at hj
  ·exact hs.tF j u hj
  ·have hjl:j-N<(wT st.H.length r).2.length:=by rw[<-q1];exact(aN.1 hj).1
   obtain⟨_,u',_,_,r2,r3,_⟩:=q4 (j-N) _ (av hjl);rw[hj]at r2;cases r2;exact r3
 have RO:∀b∈c1,Θ b=0:=fun b hb=>(hu.free b (by rw[hρ b (by simp[hb])];omega)).1
 have hs':fE Z ⟨st.σ,st.H.set id (.row (.mv (i+1)) e sz rows)++(wT st.H.length r).2⟩ κ' Θ a w:=by
  refine hs.step kk hs.mine hn (fun j hj=>?_) hone (fun j y hj=>?_) ⟨ρ',fun b hb=>?_,fun j e2 Qr gA hj=>?_,fun j y hj=>?_⟩
  ·simp only[bB,js]at hj;simp only[κ'];rw[bE (by omega)];exact dU (by rw[q1];exact Nat.le_sub_of_add_le' hj)
  ·rcases key j y hj with⟨rfl,rfl⟩|⟨h1,h2,h3⟩|⟨m,rfl,hm⟩
   ·exact .inr (.inr ⟨a8Z,hrl,_,cs0,XX,hn _ _ hk,a6c,aFS,hΘ,Aj⟩)
   ·exact .inr (.inl ⟨by omega,h3⟩)
   ·obtain⟨eO,u,b,rfl,r2,r3,r4,r5⟩:=q4 m y hm;exact .inr (.inr ⟨u,b,hk' m u r2,r5,fun x hx'=>RO x (by rw[<-q3];exact rJ.2 ⟨b,aE r4,hx'⟩)⟩)
  ·by_cases hb':b∈c1
   ·exact wo.1 b (by rw[hρ b (by simp[hb'])];omega)
   ·rw[T5 b hb']at hb;exact wo.1 b hb
  ·rcases key j _ hj with⟨_,h⟩|⟨h1,h2,h3⟩|⟨m,rfl,hm⟩
   ·cases h
   ·obtain⟨v',cs',bs',p1,p2,p3,p4,p5⟩:=wo.2.1 j e2 Qr gA (by omega) h3;refine⟨v',cs',bs',p1,p2,p3,p4,fun b hb=>?_⟩;rw[T5 b (fun hb'=>by have:=hρ b (by simp[hb']);have:=p5 b hb;omega)];exact p5 b hb
   ·obtain⟨_,_,_,h,_⟩:=q4 m _ hm;cases h
  ·rcases key j _ hj with⟨rfl,rfl⟩|⟨h1,h2,h3⟩|⟨m,rfl,hm⟩
   ·refine⟨_,cs,c2,hn _ _ hk,hown,?_,n2,fun b hb=>?_⟩
    ·have e1:cs.drop ((i+1)*sz)=v2:=by
      rw[oA,rA,<-jR,Oq];exact jr l1
     rw[e1];exact k2
    ·rw[T5 b (fun hb'=>n3 b hb' b hb rfl)];exact hρ b (by simp[hb])
   ·refine(wo.2.2 j y (by omega) h3).re fun b hb=>?_
    rw[T5 b (fun hb'=>by have:=hρ b (by simp[hb']);omega)];exact hb
   ·obtain⟨eO,u,b,rfl,r2,r3,r4,r5⟩:=q4 m y hm;have hsub:∀x∈b,ρ' x=N+m+1:=fun x hx'=>aB3 m b x r4 hx'
    have aEo:b.Nodup:=by
     have a1o:∀(L:List ah),L.flatten.Nodup->∀x∈L,x.Nodup:=by
      intro L
      induction L with
      |nil=>intro _ x hx';cases hx'
      |cons z L ih=>
       intro hnd x hx';simp only[iJ]at hnd;obtain⟨m1,m2,_⟩:=cC.1 hnd;rcases bV.1 hx' with rfl|hx'
       ·exact m1
       ·exact ih m2 x hx'
     exact a1o L aAU b (aE r4)
    exact⟨u,b,hk' m u r2,r5,aEo,hsub⟩
 refine hK _ _ (h κ' Θ _ w (hs'.set (t:=t) ht (.v (.agg v1 _ [] (q5 κ' hk'))) (by simp)))
theorem Ei{o:Oper}{t:Nat}{d:D}{A A':List An}{p:Fp}(hd:o.dst=some t)(hg:o.guard=none)(ht:t<Z.nt)(hv:Jb P st o.op A=some (d,A',p))(hp:Ao p)(h:AO P Z all rest Q ⟨(t,d)::st.σ,st.H⟩):
 AO P Z all (o::rest) Q st:=a6I hd hg ht (Ya hv hp) h
theorem Yf{o:Oper}{s id e sz:Nat}{k:RK}{rows:List aR}(hx:lk st.σ s=.acc id)(hH:st.H[id]?=some (.row k e sz rows))(hk:k.TQ=true)
 (h:AO P Z all (o::rest) Q ⟨(s,.sl rows)::st.σ,st.H.set id .gone⟩):AO P Z all (o::rest) Q st:=by
 intro κ Θ a w hs;obtain⟨ρ,hu⟩:=hs.vo;obtain⟨Θ',ρ',hs',_,⟨v,bs,hkm,hrd,hz,_⟩,_⟩:=hs.a94 hu hH hk;obtain⟨bx,rx,_⟩:=hs.slot s;rw[hx]at rx;obtain⟨hkx,_⟩:=rx.A7;have hv:a.tmps.getD s undef=v:=by rw[hkm]at hkx;cases hkx;rfl
 refine h κ Θ' a w ⟨hs'.defers,hs'.size,hs'.uY,hs'.tF,fun u=>?_,hs'.ob,hs'.own,hs'.old,hs'.mine,hs'.stays,hs'.vo⟩;show∃bs,vR w κ (a.tmps.getD u undef) (if u=s then .sl rows else lk st.σ u) bs/\_;by_cases wo:u=s
 ·subst wo;rw[bP rfl,hv];exact⟨bs,.of hrd,hz⟩
 ·rw[bE wo];exact hs'.slot u
theorem wD(c:Call){callee:Callee}{xs:List Operand}{ts:List TypeId}(h1:c.callee=callee)(h2:c.args.toList=xs)(h3:c.argTypes.toList=ts):c= {callee:=callee,args:=xs.toArray,argTypes:=ts.toArray}:=by
 cases c;simp only at h1 h2 h3;subst h1;subst h2;subst h3;simp
theorem SQ{o:Oper}{A A':List An}{xO:St}{p:Fp}{nt:Nat}(hnt:Z.nt=nt)(hg:o.guard=none)(h:Jq P nt o st A=some (xO,A',p))(hp:Ao p)(hn:AO P Z all rest Q xO):AO P Z all (o::rest) Q st:=by
 subst hnt;unfold Jq at h;split at h
 ·rename_i T x t hop hd;split at h
  ·split at h
   ·cases h;exact a7q hop hd hg (by assumption) (by assumption) hn
   ·cases h
  ·cases h
 ·rename_i T t hop hd;split at h
  ·split at h
   ·cases h;exact a0K hop hd hg (by assumption) (by assumption) hn
   ·cases h
  ·cases h
 ·rename_i T x y hop hd;split at h
  ·rename_i id off ds h1 h2;split at h
   ·rename_i ob h3;split at h
    ·rename_i cells h4;split at h
     ·rename_i hc;cases h;exact a0R hop hd hg h1 h3 h4 h2 hc.1 hc.2.1 hc.2.2.1 hc.2.2.2 hn
     ·cases h
    ·cases h
   ·cases h
  ·rename_i id i sz off ds h1 h2;split at h
   ·cases h
   ·rename_i k e sz' rows es ms r A1 h3 h4;split at h
    ·rename_i hc;obtain⟨c1,c2,rfl,c4,c5,c6,c7⟩:=hc;cases h;exact Tx hop hd hg h1 h3 c4 hp.1 h2 h4 c6 c7 c1 c2 c5 hn
    ·cases h
   ·cases h
  ·cases h
 ·rename_i T t hop hd;split at h
  ·cases h;exact Ve hop hd hg (by assumption) hn
  ·cases h
 ·rename_i T x i y hop hd;split at h
  ·rename_i kd dz id m A1 h1 h2;split at h
   ·rename_i kv h3;split at h
    ·rename_i hc;cases h;exact SP hop hd hg h1 h2 h3 hc.1 hc.2 hp.1 hn
    ·cases h
   ·cases h
  ·cases h
 ·rename_i T x y t hop hd;split at h
  ·rename_i e sz k n k' n' h1 h2 h3;split at h
   ·rename_i zs h4;split at h
    ·rename_i hc;cases h;obtain⟨⟨rfl,q2,q3,q4⟩,_⟩:=hp;exact SO hop hd hg hc.1 h1 h4 hc.2 h2 h3 q2 q3 q4 hn
    ·cases h
   ·cases h
  ·cases h
 ·rename_i T len parts t hop hd;split at h
  ·rename_i e sz h1;split at h
   ·rename_i zs h2;split at h
    ·rename_i ds h3;split at h
     ·rename_i es ms h4;split at h
      ·rename_i hc;cases h;exact R5 hop hd hg hc.1 h1 h2 hc.2.1 hc.2.2.1 h3 h4 hc.2.2.2 hn
      ·cases h
     ·cases h
    ·cases h
   ·cases h
  ·cases h
 ·rename_i c t hop hd;split at h
  ·rename_i s x T T' h1 h2 h3;split at h
   ·rename_i e sz h4;split at h
    ·rename_i zs rows u1 k1 gA u2 k2 A1 ow h5 h6 h7;split at h
     ·rename_i hc;obtain⟨c1,c2,rfl,c4⟩:=hc;cases h;obtain⟨⟨q1,q2⟩,q3⟩:=hp;exact a7p (hop.trans (congrArg Op.call (wD c h1 h2 h3))) hd hg c1 h4 h5 c2 h6 h7 q3 c4 q1 q2 hn
     ·cases h
    ·cases h
   ·cases h
  ·rename_i x T h1 h2 h3;split at h
   ·cases h
   ·split at h
    ·split at h
     ·rename_i d A1 ow h4;cases h;exact Ei hd hg (by assumption) h4 hp hn
     ·cases h
    ·cases h
  ·rename_i f xs ts h1;split at h
   ·cases h
   ·rename_i nz cells' d A1 h4;split at h
    ·rename_i x0 xr h5;split at h
     ·rename_i id h6;split at h
      ·rename_i ob h7;split at h
       ·rename_i N8 h8;split at h
        ·rename_i cells ds ms qs h9;split at h
         ·rename_i hc;obtain⟨c1,c2,c3,c4⟩:=hc;cases h;exact a0Q (hop.trans (congrArg Op.call (wD c h1 rfl rfl))) hd hg c1 (by simpa using h5) h6 h7 h8 h9 c2 c3 c4 hp.1 hn
         ·cases h
        ·cases h
       ·cases h
      ·cases h
     ·cases h
    ·cases h
   ·rename_i ds ms cells A1 h4;split at h
    ·rename_i hc;obtain⟨c1,rfl⟩:=hc;cases h;exact a0O (hop.trans (congrArg Op.call (wD c h1 rfl rfl))) hd hg c1 (by simpa using h4) hp.1 hn
    ·cases h
   ·cases h
   ·rename_i id eO A1 h4;split at h
    ·rename_i e sz rows h5;split at h
     ·rename_i hc;obtain⟨c1,c3⟩:=hc;cases h;exact a0P (hop.trans (congrArg Op.call (wD c h1 rfl rfl))) hd hg c1 h5 c3.2 hp.1 (by simpa using c3.1) (by simpa using hp.2.1) hn
     ·cases h
    ·cases h
   ·rename_i id eO A1 h4;split at h
    ·rename_i x k e sz rows h5 h6;split at h
     ·rename_i id' h7;split at h
      ·rename_i hc;obtain⟨c1,rfl,c3⟩:=hc;cases h;have e1:c.args= #[x]:=by rw[<-tu];simpa using h5
       refine a0N (ts:=c.argTypes) (hop.trans (congrArg Op.call ?_)) (fun t' ht'=>?_) hg h7 h6 c3.1 c3.2 hp.1 hp.2.1 ?_
       ·rw[<-e1];exact wD c h1 rfl rfl
       ·rw[hd]at ht';cases ht';exact c1
       ·rw[hd];exact hn
      ·cases h
     ·cases h
    ·cases h
   ·rename_i ds ms d A1 h4;split at h
    ·rename_i hc;cases h;exact a45 (hop.trans (congrArg Op.call (wD c h1 rfl rfl))) hd hg hc.1 (by simpa using h4) hc.2 hp.1 hn
    ·cases h
   ·rename_i d A1;split at h
    ·rename_i hc;cases h;exact a0M (hop.trans (congrArg Op.call (wD c h1 rfl rfl))) hd hg hc.1 (by simpa using hc.2) (by simpa using hp.1) hn
    ·cases h
   ·rename_i nz d A1;split at h
    ·rename_i ds ms qs h9;split at h
     ·rename_i hc;obtain⟨c1,c2,c3,c4⟩:=hc;cases h;exact a0L (hop.trans (congrArg Op.call (wD c h1 rfl rfl))) hd hg c1 h9 c2 c3 c4 hp.1 hn
     ·cases h
    ·cases h
   ·cases h
  ·split at h
   ·split at h
    ·rename_i d A1 ow h4;cases h;exact Ei hd hg (by assumption) h4 hp hn
    ·cases h
   ·cases h
 ·rename_i s d x t hop hd;split at h
  ·rename_i id h1;split at h
   ·rename_i k e' sz' rows e sz h2 h3;split at h
    ·rename_i bs h4;split at h
     ·rename_i hc;obtain⟨c1,rfl,c3,c4⟩:=hc;cases h;exact a47 hop hd hg c1 h1 h2 h3 c3 c4 h4 hn
     ·cases h
    ·cases h
   ·cases h
  ·split at h
   ·split at h
    ·rename_i d A1 ow h4;cases h;exact Ei hd hg (by assumption) h4 hp hn
    ·cases h
   ·cases h
 ·rename_i x t hop hd;split at h
  ·rename_i A1;split at h
   ·rename_i e sz h1 h2;split at h
    ·rename_i hc;cases h;exact a7s hop hd hg hc.1 h1 hc.2 hn
    ·cases h
   ·cases h
  ·split at h
   ·cases h;exact a6I hd hg (by assumption) (by rw[hop];rfl) hn
   ·cases h
 ·rename_i T x hi t hop hd;split at h
  ·rename_i id h1;split at h
   ·rename_i e sz rows e' sz' kk n hh A1 h2 h3 h4;split at h
    ·rename_i hc;obtain⟨c1,rfl⟩:=hc;cases h;exact a48 hop hd hg c1 h3 h1 h2 (by rw[h4,hp.1.1]) hp.1.2 hn
    ·cases h
   ·cases h
  ·split at h
   ·split at h
    ·rename_i d A1 ow h4;cases h;exact Ei hd hg (by assumption) h4 hp hn
    ·cases h
   ·cases h
 ·rename_i T s lo t hop hd;split at h
  ·rename_i A0 id h1;split at h
   ·rename_i k e sz rows h2;split at h
    ·rename_i hc;split at h
     ·rename_i d A1 ow h4;cases h;exact Yf h1 h2 hc.2 (Ei hd hg hc.1 h4 hp hn)
     ·cases h
    ·cases h
   ·cases h
  ·split at h
   ·split at h
    ·rename_i d A1 ow h4;cases h;exact Ei hd hg (by assumption) h4 hp hn
    ·cases h
   ·cases h
 ·rename_i T x i t hop hd;split at h
  ·cases h
  ·split at h
   ·split at h
    ·rename_i d A1 ow h4;cases h;exact Ei hd hg (by assumption) h4 hp hn
    ·cases h
   ·cases h
 ·rename_i T x t hop hd;split at h
  ·cases h
  ·split at h
   ·rename_i r A1 id i sz h1;split at h
    ·rename_i n e sz' rows h2;split at h
     ·rename_i hc;obtain⟨c1,rfl,c3,c4⟩:=hc;cases h;obtain⟨⟨rfl,q2,q3⟩,_⟩:=hp;exact a4A hop hd hg c1 h1 h2 q2 c3 c4 q3 hn
     ·cases h
    ·cases h
   ·split at h
    ·split at h
     ·rename_i d A1 ow h4;cases h;exact Ei hd hg (by assumption) h4 hp hn
     ·cases h
    ·cases h
 ·split at h
  ·split at h
   ·rename_i d A1 ow h4;cases h;exact Ei (by assumption) hg (by assumption) h4 hp hn
   ·cases h
  ·cases h
 ·cases h
theorem a3K{o:Oper}{A A':List An}{xO:St}{p:Fp}{nt:Nat}(hnt:Z.nt=nt)(h:Jq P nt o st A=some (xO,A',p)):∀ {t:Nat},o.dst=some t->t<Z.nt:=by
 intro t ht;subst hnt;unfold Jq at h;split at h
 all_goals first
  | (rename_i hd;rw[ht]at hd;cases hd;done)
  |skip
 all_goals(try(rename_i hd;rw[ht]at hd;cases hd))
 all_goals(repeat' split at h)
 all_goals(try cases h)
 all_goals first
  |assumption
  | (
   have hc:_/\_:=by assumption
   exact hc.1)
  | (simp_all;done)
end
abbrev fp:=List An
section
variable{P:Program}{Z:wV}{Q:Exit->St->Prop}{st:St}{κ:Nat->Option Value}{Θ:Nat->Nat}{a:Act}{w:World}{all:Array Oper}{X:ah}
def Ap(X:ah)(H H':bz):Prop:=∀(i:Nat) o,i∉X->H[i]?=some o->H'[i]?=some o
theorem Ap.refl{X:ah}(H:bz):Ap X H H:=fun _ _ _ h=>h
theorem Ap.trans{X:ah}{A B C:bz}(h:Ap X A B)(k:Ap X B C):Ap X A C:=fun i o n e=>k i o n (h i o n e)
theorem Ap.app{X:ah}{H H':bz}(h:Ap X H H')(n:bz):Ap X H (H'++n):=by
 intro i o hni hi;have:=h i o hni hi;rw[bJ (aN.1 this).1,this]
theorem Ap.cs{X:ah}{H H':bz}(h:Ap X H H'){i:Nat}{cs:aR}(hi:i∉X)(hc:(H[i]?).bind Ob.Xe=some cs):(H'[i]?).bind Ob.Xe=some cs:=by
 obtain⟨ob,hb,Om⟩:=qD.1 hc;rw[h i ob hi hb];exact Om
def DF(X:ah)(st:St):Op->Bool
 | .fieldAddr _ _ _=>true
 | .field _ _ _=>true
 | .extract _ _=>true
 | .move _=>true
 | .binOp _ _ _ _ _=>true
 | .unOp _ _ _=>true
 | .nilCheck _=>true
 | .convert _ _ _=>true
 | .index _ _ _=>true
 | .build _ _=>true
 | .indexAddr _ x _=>(match st.ev x with| .sl _=>true| .acc id=> !X.contains id|_=>false)
 | .load _ x=>(match st.ev x with| .ep _ _=>true| .ptr id _=> !X.contains id| .op id _ _ _=> !X.contains id|_=>false)
 |_=>false
theorem a3M{X:ah}{σ σ':List (Nat×D)}{H H':bz}{op:Op}{d:D}(hx:Ap X H H')(hs:DF X ⟨σ,H⟩ op=true)(he:∀x∈op.operands.toList,St.ev ⟨σ,H⟩ x=St.ev ⟨σ',H'⟩ x)(h:pv P ⟨σ,H⟩ op=some d):pv P ⟨σ',H'⟩ op=some d:=by
 cases op<;>simp only[DF,xp]at hs<;>simp only[pv]at h⊢
 case move x=>rw[he x (by simp[Op.operands])]at*;exact h
 case nilCheck x=>rw[he x (by simp[Op.operands])]at h;exact h
 case binOp op t x y t'=>rw[he x (by simp[Op.operands]),he y (by simp[Op.operands])]at h;exact h
 case unOp op t x=>cases op<;>simp only[pv]at h⊢ <;>(try cases h)<;>(rw[he x (by simp[Op.operands])]at h;exact h)
 case convert s d x=>rw[he x (by simp[Op.operands])]at h;exact h
 case field t x f=>rw[he x (by simp[Op.operands])]at h;exact h
 case fieldAddr t x f=>rw[he x (by simp[Op.operands])]at h;exact h
 case indexAddr t x i=>
  rw[he x (by simp[Op.operands])]at hs;rw[he x (by simp[Op.operands]),he i (by simp[Op.operands])]at h;split at hs
  ·rename_i rows h0;rw[h0]at h⊢;generalize Mm P t=a at h⊢;generalize St.ev ⟨σ',H'⟩ i=b at h⊢;cases a<;>cases b<;>exact h
  ·rename_i id h0;rw[h0]at h⊢;generalize Mm P t=a at h⊢;generalize St.ev ⟨σ',H'⟩ i=b at h⊢;cases a<;>cases b<;>first|exact h|skip
   dsimp only at h⊢;cases hH:H[id]? with
   |none=>rw[hH]at h;cases h
   |some o=>rw[hx id o (by simpa using hs) hH];rw[hH]at h;exact h
  ·cases hs
 case load t x=>
  rw[he x (by simp[Op.operands])]at hs h;split at hs
  ·rename_i row off h0;rw[h0]at h⊢;generalize Dd P t=a at h⊢;cases a<;>exact h
  ·rename_i id off h0;rw[h0]at h⊢;generalize Dd P t=a at h⊢;cases a
   ·exact h
   ·dsimp only at h⊢;split at h
    ·rename_i cells hH;simp only[hx.cs (by simpa using hs) hH];exact h
    ·cases h
  ·rename_i id i sz off h0;rw[h0]at h⊢;generalize Dd P t=a at h⊢;cases a
   ·exact h
   ·dsimp only at h⊢;cases hH:H[id]? with
    |none=>rw[hH]at h;cases h
    |some o=>rw[hx id o (by simpa using hs) hH];rw[hH]at h;exact h
  ·cases hs
 case extract x i=>rw[he x (by simp[Op.operands])]at h;exact h
 case index t x i=>rw[he x (by simp[Op.operands]),he i (by simp[Op.operands])]at h;exact h
 case build t parts=>
  have:(parts.toList.map fun p=>(p.1,St.ev ⟨σ,H⟩ p.2))=parts.toList.map fun p=>(p.1,St.ev ⟨σ',H'⟩ p.2):=by
   apply nq;intro p hp;rw[he p.2 (by simp only[Op.operands];simp;exact⟨p.1,by simpa using hp⟩)]
  rw[this]at h;exact h
def Vk(xs acc:ah):ah:=xs.foldl (fun acc x=>bif acc.contains x then acc else x::acc) acc
theorem WV:∀ {xs acc:ah} {x:Nat},x∈Vk xs acc->x∈xs\/x∈acc:=by
 intro xs
 induction xs with
 |nil=>intro acc x h;exact .inr h
 |cons y ys ih=>
  intro acc x h;rcases ih (acc:=bif acc.contains y then acc else y::acc) h with h|h
  ·exact .inl (by simp[h])
  ·cases hc:acc.contains y with
   |true=>rw[hc]at h;exact .inr h
   |false=>
    rw[hc]at h;rcases bV.1 h with rfl|h
    ·exact .inl (by simp)
    ·exact .inr h
def a6O(acc:List ah)(es:List Edge):ah:=es.foldl (fun d e=>bif Region.binds .any e then Vk (e.on::acc.getD e.on []) d else d) []
theorem ZO{acc:List ah}{es:List Edge}{i:Nat}(h:i∈a6O acc es):∃e∈es,Region.binds .any e=true/\(i=e.on\/i∈acc.getD e.on []):=by
 have key:∀(es:List Edge) (d:ah),i∈es.foldl (fun d e=>bif Region.binds .any e then Vk (e.on::acc.getD e.on []) d else d) d->i∈d\/∃e∈es,Region.binds .any e=true/\(i=e.on\/i∈acc.getD e.on []):=by
  intro es
  induction es with
  |nil=>intro d h;exact .inl h
  |cons e es ih=>
   intro d h;rcases ih _ h with h|⟨e',h1,h2⟩
   ·cases hb:Region.binds .any e with
    |false=>simp only[hb,aL]at h;exact .inl h
    |true=>
     simp only[hb,aF]at h;rcases WV h with h|h
     ·exact .inr ⟨e,by simp,hb,by simpa using h⟩
     ·exact .inl h
   ·exact .inr ⟨e',by simp[h1],h2⟩
 rcases key es [] h with h|h
 ·cases h
 ·exact h
def MF(acc:List ah)(o:Oper):List ah:=acc++[a6O acc o.after.toList]
def Ki(ops:List Oper):List ah:=ops.foldl MF []
theorem a4h{ops:Array Oper}{listed:Array Bool}(closed:∀(j:Nat) oj,ops[j]?=some oj->listed.getD j false=true->∀e∈oj.after,Region.binds .any e=true->listed.getD e.on false=true):
 ∀(l pre:List Oper) (acc:List ah),ops.toList=pre++l->acc.length=pre.length->
  (∀(j:Nat) o,ops[j]?=some o->(∀e∈o.after,Region.binds .any e=true->listed.getD e.on false=true)->∀i∈acc.getD j [],listed.getD i false=true)->
  ∀(j:Nat) o,ops[j]?=some o->(∀e∈o.after,Region.binds .any e=true->listed.getD e.on false=true)->∀i∈(l.foldl MF acc).getD j [],listed.getD i false=true:=by
 intro l
 induction l with
 |nil=>intro pre acc _ _ h;exact h
 |cons o l ih=>
  intro pre acc hl ha h;refine ih (pre++[o]) (MF acc o) (by simp[hl]) (by simp[MF,ha]) ?_;intro j oj hj hall i hi;unfold MF at hi;rw[nL]at hi;rcases Cy j acc.length with hlt|heq|hgt
  ·rw[bJ hlt,<-nL]at hi;exact h j oj hj hall i hi
  ·subst heq;rw[bW (br _),qt]at hi;simp only[Dp,wX]at hi;have ho:oj=o:=by
    rw[<-lC,hl,bW (by omega),ha,qt]at hj;simpa using hj.symm
   subst ho;obtain⟨e,he,hb,hi⟩:=ZO hi;have he':e∈oj.after:=by simpa using he
   have hel:=hall e he' hb;rcases hi with rfl|hi
   ·exact hel
   ·cases hoe:ops[e.on]? with
    |none=>
     have h1:e.on<acc.length:=by
      rcases gj e.on acc.length with h|h
      ·exact h
      ·rw[nL,dU h]at hi;cases hi
     have h2:ops.size<=e.on:=by simpa using hoe
     have h3:ops.size=pre.length+(l.length+1):=by rw[<-xD,hl];simp
     omega
    |some oe=>exact h e.on oe hoe (closed e.on oe hoe hel) i hi
  ·rw[dU (by simp;omega)]at hi;cases hi
theorem wM{ops:Array Oper}{listed:Array Bool}(closed:∀(j:Nat) oj,ops[j]?=some oj->listed.getD j false=true->∀e∈oj.after,Region.binds .any e=true->listed.getD e.on false=true){j:Nat}(hj:j∈Region.ready .any ops listed){i:Nat}(hi:((Ki ops.toList).getD j []).contains i=true):listed.getD i false=true:=by
 obtain⟨_,o,ho,hall⟩:=mem_ready.1 hj;exact a4h closed ops.toList [] [] (by simp) rfl (by simp) j o ho hall i (List.contains_iff_mem.1 hi)
def a0v(dp:List ah)(ops:Array Oper)(n m:Nat)(L:ah):Bool:=
 (decide (n<=m)&&decide (m<=ops.size))&&
 (Region.seqB .any ops (ops.size-m) m (Array.replicate m true++Array.replicate (ops.size-m) false)&&
 (((List.range (ops.size-m)).all fun j=>(List.range m).all fun i=>(dp.getD (m+j) []).contains i)&&
 (((List.range (m-n)).all fun j=>(List.range (n+j)).all fun i=>(dp.getD (n+j) []).contains i||L.contains i)&&
 (((List.range m).all fun i=>match ops[i]? with|none=>false|some o=>o.after.all fun e=> !Region.binds .any e||decide (e.on<i))&&
 ((
  (List.range n).all fun i=>match ops[i]? with
  |none=>false
  |some o=>((o.looksAt ops).all fun t=>(List.range n).all fun j=>match ops[j]? with|some oj=> !(oj.dst==some t)||(decide (j<i)&&Region.waitsFor .any ops i j)|none=>true)&&
   (List.range n).all fun j=>j==i||(match ops[j]? with|some oj=> !(oj.dst==o.dst)||o.dst.isNone|none=>true))&&
 ((
  (List.range (m-n)).all fun j=>match ops[n+j]? with
  |none=>false
  |some o=>L.all fun i=>match ops[i]? with
   |none=>false
   |some oi=>(!(oi.dst==o.dst)&& !((oi.looksAt ops).any fun t=>o.dst==some t))&&((dp.getD (n+j) []).contains i|| !((o.looksAt ops).any fun t=>oi.dst==some t)))&&
 L.all fun i=>decide (i<n)&&(match ops[i]? with|some oi=>oi.guard.isNone&&oi.dst.isSome|none=>false)))))))
def Kj(ops:Array Oper)(n m:Nat)(L:ah):Bool:=a0v (Ki ops.toList) ops n m L
def Step(P:Program)(Z:wV)(o:Oper)(st AB:St):Prop:=
 ∀κ Θ a w,fE Z st κ Θ a w->o.wp P a w (fun a' w'=>∃κ' Θ',fE Z AB κ' Θ' a' w') (fun e _ _=>e=.normal)
def Yd(P:Program)(Z:wV)(X:ah)(K:St->Prop):List Oper->St->Prop
 | [],st=>K st
 |o::os,st=>∃AB,((∃t d,o.dst=some t/\t<Z.nt/\AB.σ=(t,d)::st.σ)\/(o.dst=none/\AB.σ=st.σ))/\Ap X st.H AB.H/\o.guard=none/\(∀cs b,o.op≠ .select cs b)/\Step P Z o st AB/\Yd P Z X K os AB
theorem VX{o:Oper}{a b:Act}{w:World}{K K2:Act->World->Prop}{Q1 Q2:Exit->Act->World->Prop}(hsel:∀cs b,o.op≠ .select cs b)(he:∀x∈o.op.operands,a.eval x=b.eval x)
 (hK:∀v w',K (b.put o.dst v) w'->K2 (a.put o.dst v) w') (hdf:∀d w',¬K ({b with defers:=d::b.defers}.put o.dst undef) w') (hQ:∀e c w',Q1 e c w'->e=.normal) (h:o.wp P b w K Q1):o.wp P a w K2 Q2:=by
 unfold Oper.wp at*;rw[execOp_congr o hsel he];generalize(execOp b.eval o).run P w=r at*;cases r with
 |ok n w'=>
  cases n with
  |value v=>exact hK _ _ h
  |skip=>exact hK _ _ h
  |defer d=>exact absurd h (hdf _ _)
  |enter f args=>
   refine Calls.mono h ?_;intro e w'' he;cases e with
   |returned v=>exact hK _ _ he
   |panicked c=>exact absurd (hQ _ _ _ he) (by simp)
   |outgrown=>
    obtain⟨a0,w0,hq⟩:=he;exact absurd (hQ _ _ _ hq) (by simp)
  |row r args=>exact Rows.mono h fun v w'' he=>hK _ _ he
  |_=>exact h.elim
 |halt x w'=>
  cases x with
  |panic u=>exact absurd (hQ _ _ _ h) (by simp)
  |_=>exact h.elim
theorem a92{l:List (Nat×D)}{σ:List (Nat×D)}(h:∀p∈l,p.2=.any){t:Nat}(ht:t∈l.map Prod.fst):lk (l++σ) t=.any:=by
 induction l with
 |nil=>cases ht
 |cons p l ih=>
  obtain⟨u,d⟩:=p;have hd:d=.any:=h (u,d) (by simp);subst hd;simp only[tv,lk];by_cases e:t=u
  ·rw[bP e]
  ·rw[bE e];refine ih (fun p hp=>h p (by simp[hp])) ?_;simp only[bA,bV]at ht;rcases ht with h|h
   ·exact absurd h e
   ·exact h
theorem FL(a:Act){t u:Nat}(v:Value)(h:u≠t):(a.put (some t) v).tmps.getD u undef=a.tmps.getD u undef:=by
 show(a.tmps.setIfInBounds t v).getD u undef=_;simp[cW,rq h]
theorem Mf(a:Act){t:Nat}(v:Value)(h:t<a.tmps.size):(a.put (some t) v).tmps.getD t undef=v:=by
 show(a.tmps.setIfInBounds t v).getD t undef=_;simp[cW,h]
theorem count_set{m i:Nat}{listed:Array Bool}(hi:i<m)(hsz:i<listed.size)(hl:listed.getD i false=false):((List.range m).filter fun j=> !(listed.setIfInBounds i true).getD j false).length+1=((List.range m).filter fun j=> !listed.getD j false).length:=by
 have a4q:((List.range m).filter fun j=> !(listed.setIfInBounds i true).getD j false)=((List.range m).filter fun j=> !listed.getD j false).erase i:=by
  have hnd:((List.range m).filter fun j=> !listed.getD j false).Nodup:=List.Pairwise.filter _ List.nodup_range;rw[hnd.erase_eq_filter,Bs];apply Cw;intro j _;by_cases e:j=i
  ·subst e;simp[hsz]
  ·rw[getD_set_ne false (rq e)];simp[e]
 have hmem:i∈(List.range m).filter fun j=> !listed.getD j false:=gu.2 ⟨cT.2 hi,by simp only[hl];rfl⟩
 have hpos:0<((List.range m).filter fun j=> !listed.getD j false).length:=Ef hmem;rw[a4q,xR hmem];omega
def a0X(P:Program)(Z:wV)(X:ah)(l:List Oper)(σF:List (Nat×D))(H0:bz)(i:Nat):Prop:=
 ∃o t d,l.toArray[i]?=some o/\o.guard=none/\o.dst=some t/\t<Z.nt/\lk σF t=d/\∀σ' H',Ap X H0 H'->(∀u∈o.looksAt l.toArray,lk σ' u=lk σF u)->pv P ⟨σ',H'⟩ o.op=some d
theorem UR{l:List Oper}{n m:Nat}{L:ah}{σF:List (Nat×D)}{H0:bz}(hB:Kj l.toArray n m L=true)(a6Z:∀i∈L,a0X P Z X l σF H0 i):
 ∀(f c:Nat) (S:St) (listed:Array Bool) (σ':List (Nat×D)) (κ:Nat->Option Value) (Θ:Nat->Nat) (a:Act) (w:World),HeadInv .any l.toArray l.toArray.size listed->
  (∀i,i<n->i∉L->listed.getD i false=true)->n+c<=m->(∀i,n<=i->i<n+c->listed.getD i false=true)->(∀i,n+c<=i->i<l.toArray.size->listed.getD i false=false)->
  ((List.range m).filter fun i=> !listed.getD i false).length=f->
  (∀t,(∀(i:Nat) o,l.toArray[i]?=some o->n<=i->i<n+c->o.dst≠some t)->lk S.σ t=lk σF t)->Ap X H0 S.H->
  Yd P Z X (fun xO=>AO P Z l.toArray (l.drop m) Q xO) ((l.drop (n+c)).take (m-(n+c))) S->
  (∀t,(∀i∈L,∀o,l.toArray[i]?=some o->listed.getD i false=false->o.dst≠some t)->lk σ' t=lk S.σ t)->
  fE Z ⟨σ',S.H⟩ κ Θ a w->
  wpAny P .any l.toArray (fun e a' w'=>∃xO κ' Θ',fE Z xO κ' Θ' a' w'/\Q e xO) (f+(l.toArray.size-m)) listed a w:=by
 simp only[Kj,a0v,aS,bH]at hB;obtain⟨⟨hnm,Q7⟩,aAs,a1O,hmid,a17,a1A,a1F,hL⟩:=hB;have aEY:∀i,i<m->∃o,l.toArray[i]?=some o/\∀e∈o.after,Region.binds .any e=true->e.on<i:=by
  intro i hi;have:=b8.1 a17 i (cT.2 hi);split at this
  ·cases this
  ·rename_i o ho;refine⟨o,ho,fun e he hb=>?_⟩;have:=xo.1 this e he;simpa[hb]using this
 have I4:∀i∈L,i<n:=by
  intro i hi;have:=b8.1 hL i hi;simp only[aS,bH]at this;exact this.1
 have Ud:∀(i:Nat) o,i<n->l.toArray[i]?=some o->∀u∈o.looksAt l.toArray,∀(j:Nat) oj,j<n->l.toArray[j]?=some oj->oj.dst=some u->j<i/\Region.waitsFor .any l.toArray i j=true:=by
  intro i o hi ho u hu j oj hj BY hd;have:=b8.1 a1A i (cT.2 hi);simp only[ho,aS]at this;have:=b8.1 (b8.1 this.1 u hu) j (cT.2 hj);simpa[BY,hd]using this
 have MS:∀(j:Nat) o,n<=j->j<m->l.toArray[j]?=some o->∀i∈L,∀oi,l.toArray[i]?=some oi->oi.dst≠o.dst/\(∀u∈oi.looksAt l.toArray,o.dst≠some u)/\(((Ki l.toArray.toList).getD j []).contains i=true\/∀u∈o.looksAt l.toArray,oi.dst≠some u):=by
  intro j o Q5 hj2 ho i hi oi hoi;have:=b8.1 a1F (j-n) (cT.2 (by omega));rw[show n+(j-n)=j from by omega]at this;simp only[ho]at this;have:=b8.1 this i hi;simp only[hoi,aS,kw,qS]at this;obtain⟨⟨h1,h2⟩,h3⟩:=this;refine⟨by simpa using h1,fun u hu he=>?_,h3.imp id fun h u hu he=>?_⟩
  ·have:=yc.1 h2 u hu;simp[he]at this
  ·have:=yc.1 h u hu;simp[he]at this
 intro f
 induction f with
 |zero=>
  intro c S listed σ' κ Θ a w inv hN hc hM hT xH hS hX hA hag hs;have hall:∀i,i<m->listed.getD i false=true:=by
   intro i hi;have h0:=dJ xH;cases hl:listed.getD i false with
   |true=>rfl
   |false=>
    have:i∈(List.range m).filter fun i=> !listed.getD i false:=gu.2 ⟨cT.2 hi,by simp only[hl];rfl⟩
    rw[h0]at this;cases this
  have hcm:n+c=m:=by
   rcases gj (n+c) m with h|h
   ·have h1:=hall (n+c) h;rw[hT (n+c) (br _) (by omega)]at h1;cases h1
   ·omega
  have aAi:listed=Array.replicate m true++Array.replicate (l.toArray.size-m) false:=by
   apply Array.ext
   ·rw[inv.size];simp at Q7⊢;omega
   ·intro i h1 h2;by_cases hi:i<m
    ·have:=hall i hi;rw[Array.getElem_append_left (by simpa using hi)];simp[h1]at this;simp[this]
    ·have hi':i<l.toArray.size:=by rw[<-inv.size];exact h1
     have:=hT i (by omega) hi';rw[Array.getElem_append_right (by simpa using hi)];simp[h1]at this;simp[this]
  rw[cY];rw[hcm,qt,List.take_zero]at hA;have hA:AO P Z l.toArray (l.drop m) Q S:=hA;have hs2:=fE.same (st:=⟨σ',S.H⟩) (σ':=S.σ) (fun t=>hag t (fun i hi o ho hl=>by rw[hall i (by have:=I4 i hi;omega)]at hl;cases hl)) hs;have hwp:=hA κ Θ a w hs2;have hdl:(l.drop m).length=l.toArray.size-m:=by simp
  have:=wpAny_of_seq (md:=.any) (l.drop m) m listed a w (fun j=>by simp[gO]) (by rw[hdl,aAi];exact aAs) hwp
  rwa[hdl]at this
 |succ f ih=>
  intro c S listed σ' κ Θ a w inv hN hc hM hT xH hS hX hA hag hs;have hun:∃i,i<m/\listed.getD i false=false:=by
   have hne:((List.range m).filter fun i=> !listed.getD i false)≠[]:=by
    intro h0;rw[h0]at xH;simp at xH
   obtain⟨i,hi⟩:=Cj _ hne;obtain⟨h1,h2⟩:=gu.1 hi;exact⟨i,cT.1 h1,by simpa using h2⟩
  have hsz:=inv.size;rw[show f+1+(l.toArray.size-m)=(f+(l.toArray.size-m))+1 from by omega];refine⟨fun h0=>?_,fun i hi=>?_⟩
  ·exfalso;obtain⟨i,⟨hin,hil⟩,hmin⟩:=exists_least (p:=fun i=>i<m/\listed.getD i false=false) hun;obtain⟨o,ho,hed⟩:=aEY i hin;have:i∈Region.ready .any l.toArray listed:=by
    refine mem_ready.2 ⟨getD_in (by rw[hsz];omega) hil,o,ho,fun e he hb=>?_⟩;have:=hed e he hb;cases hl:listed.getD e.on false with
    |true=>rfl
    |false=>have:=hmin e.on ⟨by omega,hl⟩;omega
   rw[h0]at this;cases this
  ·obtain⟨i0,hi0,hl0⟩:=hun;obtain⟨hil,o,ho,hall⟩:=mem_ready.1 hi;have Nc:=getD_both hil;have FG:i<l.toArray.size:=(bS.1 ho).1;have him:i<m:=by
    rcases gj i m with h|h
    ·exact h
    ·have h1:=b8.1 a1O (i-m) (cT.2 (by omega));have h2:=b8.1 h1 i0 (cT.2 hi0);rw[show m+(i-m)=i from by omega]at h2;rw[wM inv.closed hi h2]at hl0;cases hl0
   have a4q:=count_set him (by rw[hsz];exact FG) Nc;have xI:∀(j:Nat),(listed.setIfInBounds i true).getD j false=true↔(j=i\/listed.getD j false=true):=by
    intro j;by_cases e:i=j
    ·subst e;have:i<listed.size:=by rw[hsz];exact FG
     simp[this]
    ·rw[getD_set_ne false e];constructor
     ·exact .inr
     ·rintro(rfl|h)
      ·exact absurd rfl e
      ·exact h
   have aGn:∀(j:Nat),(listed.setIfInBounds i true).getD j false=false->j≠i/\listed.getD j false=false:=by
    intro j h;refine⟨fun e=>?_,?_⟩
    ·have:=(xI j).2 (.inl e);rw[this]at h;cases h
    ·cases h2:listed.getD j false with
     |false=>rfl
     |true=>have:=(xI j).2 (.inr h2);rw[this]at h;cases h
   rcases gj i n with hin|hin
   ·
    have hiL:i∈L:=by
     by_cases h:i∈L
     ·exact h
     ·rw[hN i hin h]at Nc;cases Nc
    obtain⟨o',t,d,ho',hg,hd,htn,hdF,hpv⟩:=a6Z i hiL;rw[ho]at ho';cases ho';have Uf:∀u∈o.looksAt l.toArray,lk σ' u=lk σF u:=by
     intro u hu;rw[hag u,hS u]
     ·intro j oj BY Q5 hj2 he;exact(MS j oj Q5 (by omega) BY i hiL o ho).2.1 u hu he
     ·intro j hj oj BY hlj he;obtain⟨h1,h2⟩:=Ud i o hin ho u hu j oj (I4 j hj) BY he;obtain⟨o2,ho2,e,Su,hb,hon⟩:=Region.waitsFor_spec h2;rw[ho]at ho2;cases ho2;have:=hall e Su hb;rw[hon,hlj]at this;cases this
    have hp:=hpv σ' S.H hX Uf;obtain⟨v,bs,hrun,hrd,hz⟩:=IA (st:=⟨σ',S.H⟩) hs hp;refine yK ho (by simp[Region.wanted,hg]) ?_;unfold Oper.wp;rw[hrun,Oper.upon_value,hd];refine ih c S (listed.setIfInBounds i true) ((t,d)::σ') κ Θ _ w (inv.set hi FG) ?_ hc ?_ ?_ (by omega) hS hX hA ?_ (hs.set (st:=⟨σ',S.H⟩) htn hrd hz)
    ·intro j hj hjL;exact(xI j).2 (.inr (hN j hj hjL))
    ·intro j Q5 hj2;exact(xI j).2 (.inr (hM j Q5 hj2))
    ·intro j Q5 hj2;rw[getD_set_ne false (by omega)];exact hT j Q5 hj2
    ·intro u hu;simp only[lk];by_cases e:u=t
     ·rw[bP e,e,hS t,hdF];intro j oj BY Q5 hj2 he;exact(MS j oj Q5 (by omega) BY i hiL o ho).1 (by rw[hd,he])
     ·rw[bE e];refine hag u fun j hj oj BY hlj he=>?_
      by_cases hji:j=i
      ·subst hji;rw[ho]at BY;cases BY;rw[hd]at he;cases he;exact e rfl
      ·exact hu j hj oj BY (by rw[getD_set_ne false (rq hji)];exact hlj) he
   ·
    have hic:i=n+c:=by
     rcases Cy i (n+c)with h|h|h
     ·rw[hM i hin h]at Nc;cases Nc
     ·exact h
     ·have h1:=b8.1 hmid (i-n) (cT.2 (by omega));rw[show n+(i-n)=i from by omega]at h1;have h2:=b8.1 h1 (n+c) (cT.2 h);simp only[qS]at h2;rcases h2 with h2|h2
      ·have:=wM inv.closed hi h2;rw[hT (n+c) (br _) (by omega)]at this;cases this
      ·have:=I4 (n+c) (by simpa using h2);omega
    subst hic;have Uc:(l.drop (n+c)).take (m-(n+c))=o::(l.drop (n+(c+1))).take (m-(n+(c+1))):=by
     have h1:l[n+c]?=some o:=by simpa using ho
     have h2:(n+c)<l.length:=(aN.1 h1).1;have h3:l[n+c]=o:=(aN.1 h1).2;rw[oM h2,h3,show m-(n+c)=(m-(n+(c+1)))+1 from by omega,td];rfl
    rw[Uc]at hA;obtain⟨S1,Ss,hX1,hgm,hsel,hstep,hA1⟩:=hA;have aFC:∀u,o.dst≠some u->lk S1.σ u=lk S.σ u:=by
     intro u hu;rcases Ss with⟨tm,dm,hdm,htm,a8e⟩|⟨_,a8e⟩
     ·rw[a8e];simp only[lk];rw[bE (fun e=>hu (by rw[hdm,e]))]
     ·rw[a8e]
    have aAo:∀(b:Act) (v:Value),(b.put o.dst v).tmps.size=b.tmps.size:=by
     intro b v;rcases Ss with⟨tm,dm,hdm,_,_⟩|⟨hdm,_⟩
     ·rw[hdm];show(b.tmps.setIfInBounds tm v).size=_;simp
     ·rw[hdm];rfl
    have aAn:∀(b:Act) (v:Value),(b.put o.dst v).defers=b.defers:=by
     intro b v;cases o.dst<;>rfl
    have fill:∀k,k<=n->∃(ak:Act) (σk:List (Nat×D)),fE Z ⟨σk,S.H⟩ κ Θ ak w/\(∀u,(∀j∈L,∀oj,l.toArray[j]?=some oj->listed.getD j false=false->k<=j->oj.dst≠some u)->lk σk u=lk S.σ u)/\
     (∀u,(∀j∈L,∀oj,l.toArray[j]?=some oj->listed.getD j false=false->oj.dst≠some u)->ak.tmps.getD u undef=a.tmps.getD u undef):=by
     intro k
     induction k with
     |zero=>intro _;exact⟨a,σ',hs,fun u hu=>hag u (fun j hj oj BY hl=>hu j hj oj BY hl (Gh _)),fun _ _=>rfl⟩
     |succ k ihk=>
      intro hk;obtain⟨ak,σk,hsk,a8F,hek⟩:=ihk (by omega);by_cases hkl:k∈L/\listed.getD k false=false
      ·obtain⟨hkL,hkF⟩:=hkl;obtain⟨ok,t,d,hok,hg,hd,htn,hdF,hpv⟩:=a6Z k hkL;have Uf:∀u∈ok.looksAt l.toArray,lk σk u=lk σF u:=by
        intro u hu;rw[a8F u,hS u]
        ·intro j oj BY Q5 hj2 he;exact(MS j oj Q5 (by omega) BY k hkL ok hok).2.1 u hu he
        ·intro j hj oj BY hlj hkj he;obtain⟨h1,h2⟩:=Ud k ok (by omega) hok u hu j oj (I4 j hj) BY he;omega
       have hp:=hpv σk S.H hX Uf;obtain⟨v,bs,hrun,hrd,hz⟩:=IA (st:=⟨σk,S.H⟩) hsk hp;refine⟨ak.put (some t) v,(t,d)::σk,hsk.set (st:=⟨σk,S.H⟩) htn hrd hz,?_,?_⟩
       ·intro u hu;simp only[lk];by_cases e:u=t
        ·rw[bP e,e,hS t,hdF];intro j oj BY Q5 hj2 he;exact(MS j oj Q5 (by omega) BY k hkL ok hok).1 (by rw[hd,he])
        ·rw[bE e];refine a8F u fun j hj oj BY hlj hkj he=>?_
         by_cases hjk:j=k
         ·subst hjk;rw[hok]at BY;cases BY;rw[hd]at he;cases he;exact e rfl
         ·exact hu j hj oj BY hlj (by omega) he
       ·intro u hu;rw[FL _ _ (fun e=>hu k hkL ok hok hkF (by rw[hd,e])),hek u hu]
      ·refine⟨ak,σk,hsk,fun u hu=>a8F u fun j hj oj BY hlj hkj=>?_,hek⟩;by_cases hjk:j=k
       ·subst hjk;exact absurd ⟨hj,hlj⟩ hkl
       ·exact hu j hj oj BY hlj (by omega)
    obtain⟨an,σn,hsn,aEl,hen⟩:=fill n (br _);have hsS:=fE.same (st:=⟨σn,S.H⟩) (σ':=S.σ) (fun u=>aEl u (fun j hj oj BY _ hnj=>by have:=I4 j hj;omega)) hsn;have hwp:=hstep κ Θ an w hsS;refine yK ho (by simp[Region.wanted,hgm]) (VX (Q2:=_) hsel ?_ ?_ ?_ (fun e _ _ h=>h) hwp)
    ·intro x hx;cases x with
     |tmp u=>
      refine(hen u fun j hj oj BY hlj he=>?_).symm;have hu:u∈o.looksAt l.toArray:=by
       unfold Oper.looksAt;exact aW.2 (.inl (dQ.2 ⟨.tmp u,by simpa using hx,rfl⟩))
      rcases(MS (n+c) o (by omega) him ho j hj oj BY).2.2 with h|h
      ·rw[wM inv.closed hi h]at hlj;cases hlj
      ·exact h u hu he
     |const v=>rfl
     |global g=>rfl
     |func f=>rfl
    ·rintro v w' ⟨κ',Θ',hs'⟩;let late:List (Nat×D):=(L.filterMap fun j=>bif listed.getD j false then none else(l.toArray[j]?).bind (·.dst)).map fun u=>(u,D.any)
     have Ue:∀u,u∈late.map Prod.fst↔∃j∈L,∃oj,l.toArray[j]?=some oj/\listed.getD j false=false/\oj.dst=some u:=by
      intro u;simp only[late,sS,cJ,dQ,Function.comp];constructor
      ·rintro⟨x,⟨j,hj,hx⟩,rfl⟩;cases hl:listed.getD j false with
       |true=>rw[hl]at hx;cases hx
       |false=>
        rw[hl,aL]at hx;cases BY:l.toArray[j]? with
        |none=>rw[BY]at hx;cases hx
        |some oj=>rw[BY]at hx;exact⟨j,hj,oj,BY,hl,hx⟩
      ·rintro⟨j,hj,oj,BY,hl,hx⟩;exact⟨u,⟨j,hj,by rw[hl,aL,BY];exact hx⟩,rfl⟩
     have hs2:fE Z ⟨late++S1.σ,S1.H⟩ κ' Θ' (a.put o.dst v) w':=by
      refine⟨by rw[aAn];exact hs.defers,by rw[aAo];exact hs.size,hs'.uY,hs'.tF,?_,hs'.ob,hs'.own,hs'.old,hs'.mine,hs'.stays,hs'.vo⟩;intro u;show∃bs,vR w' κ' _ (lk (late++S1.σ) u) bs/\_;by_cases hu:u∈late.map Prod.fst
      ·rw[a92 (fun p hp=>by simp only[late,cJ]at hp;obtain⟨_,_,rfl⟩:=hp;rfl) hu];exact⟨[],.of (.any _),by simp⟩
      ·rw[Ng _ _ _ (fun p hp e=>hu (cJ.2 ⟨p,hp,e⟩))];have e1:(a.put o.dst v).tmps.getD u undef=(an.put o.dst v).tmps.getD u undef:=by
        have e0:=(hen u fun j hj oj BY hlj he=>hu ((Ue u).2 ⟨j,hj,oj,BY,hlj,he⟩)).symm;rcases Ss with⟨tm,dm,hdm,htm,_⟩|⟨hdm,_⟩
        ·rw[hdm];by_cases e:u=tm
         ·subst e;rw[Mf _ _ (by rw[hs.size];exact htm),Mf _ _ (by rw[hsn.size];exact htm)]
         ·rw[FL _ _ e,FL _ _ e];exact e0
        ·rw[hdm];exact e0
       rw[e1];exact hs'.slot u
     refine ih (c+1) S1 (listed.setIfInBounds (n+c) true) (late++S1.σ) κ' Θ' _ w' (inv.set hi FG) ?_ (by omega) ?_ ?_ (by omega) ?_ (hX.trans hX1) hA1 ?_ hs2
     ·intro j hj hjL;exact(xI j).2 (.inr (hN j hj hjL))
     ·intro j Q5 hj2;by_cases e:j=n+c
      ·exact(xI j).2 (.inl e)
      ·exact(xI j).2 (.inr (hM j Q5 (by omega)))
     ·intro j Q5 hj2;rw[getD_set_ne false (by omega)];exact hT j (by omega) hj2
     ·intro u hu;rw[aFC u (hu (n+c) o ho (by omega) (by omega))];exact hS u fun j oj BY Q5 hj2=>hu j oj BY Q5 (by omega)
     ·intro u hu;rw[Ng];intro p hp e;obtain⟨j,hj,oj,BY,hl,he⟩:=(Ue u).1 (cJ.2 ⟨p,hp,e⟩);refine hu j hj oj BY ?_ he;rw[getD_set_ne false (by have:=I4 j hj;omega)];exact hl
    ·rintro d w' ⟨κ',Θ',hs'⟩;have:=hs'.defers;cases hod:o.dst<;>rw[hod]at this<;>cases this
theorem OR{p:Nat->Bool}{n:Nat}:∀(k:Nat),(∀i,n<=i->i<n+k->p i=true)->((List.range (n+k)).filter p).length=((List.range n).filter p).length+k
 |0,_=>rfl
 |k+1,h=>by
  rw[<-nH,List.range_succ,Br,bB,OR k (fun i h1 h2=>h i h1 (by omega))];have:p (n+k)=true:=h (n+k) (by omega) (by omega);simp[this];omega
def D0(P:Program)(Z:wV)(ops:Array Oper)(Q:Exit->St->Prop)(st:St):Prop:=
 ∀κ Θ a w,fE Z st κ Θ a w->wpAny P .any ops (fun e a' w'=>∃xO κ' Θ',fE Z xO κ' Θ' a' w'/\Q e xO) ops.size (Array.replicate ops.size false) a w
theorem D0.aw{id:Nat}{ops:Array Oper}(hm:P.follows .mixedOrders=true)(h:D0 P Z ops Q st):AW P Z (.region id ops true) Q st:=
 fun κ Θ a w hs=>wp_region_any hm (h κ Θ a w.drew hs.drew)
theorem N7{l:List Oper}(n m:Nat)(L:ah)(hB0:Kj l.toArray n m L=true)
 (h:FR P Z l.toArray st.H (fun σ acc=>(∀i∈L,∀o,l[i]?=some o->DF X ⟨σ,st.H⟩ o.op=true)/\Yd P Z X (fun xO=>AO P Z l.toArray (l.drop m) Q xO) ((l.drop n).take (m-n)) ⟨σ,st.H++acc⟩) (l.take n) st.σ [] []):D0 P Z l.toArray Q st:=by
 have hB:=hB0;simp only[Kj,a0v,aS,bH]at hB;obtain⟨⟨hnm,Q7⟩,aAs,a1O,hmid,a17,a1A,a1F,hL⟩:=hB;have hn:n<=l.toArray.size:=by omega
 have Xo:((List.range n).all fun i=>match l.toArray[i]? with
  |none=>false
  |some o=>(o.after.all fun e=> !Region.binds .any e||decide (e.on<i))&&
   ((o.looksAt l.toArray).all fun t=>(List.range n).all fun j=>match l.toArray[j]? with|some oj=> !(oj.dst==some t)||(decide (j<i)&&Region.waitsFor .any l.toArray i j)|none=>true)&&
   (List.range n).all fun j=>j==i||(match l.toArray[j]? with|some oj=> !(oj.dst==o.dst)||o.dst.isNone|none=>true))=true:=by
  rw[b8];intro i hi;have h1:=b8.1 a17 i (cT.2 (by have:=cT.1 hi;omega));have h2:=b8.1 a1A i hi;cases ho:l.toArray[i]? with
  |none=>rw[ho]at h1;cases h1
  |some o=>
   simp only[ho,aS]at h1 h2⊢;exact⟨⟨h1,h2.1⟩,h2.2⟩
 have I4:∀i∈L,i<n:=by
  intro i hi;have:=b8.1 hL i hi;simp only[aS,bH]at this;exact this.1
 obtain⟨ps,R9,hlen,a15,⟨hstill,hK⟩,hFl,hFo,hFu⟩:=FR.unfold _ _ _ _ h;simp only[eM,cE,wW,cY]at a15 hK hFl hFo hstill;have hn':n<=l.length:=by simpa using hn
 have hpl:ps.length=n:=by rw[hlen];simp;omega
 have hop:∀(i:Nat),i<n->∃o p,l.toArray[i]?=some o/\ps[i]?=some p/\o.dst=p.t/\yh P Z l.toArray st.H (((ps.take i).filterMap Cp.sl).reverse++st.σ) o p/\p.r=st.H.length+((ps.take i).flatMap Cp.obs).length:=by
  intro i hi;have h1:l[i]?=some l[i]:=av (by omega);have h2:ps[i]?=some ps[i]:=av (by omega);have h3:=a15 i l[i] ps[i] (by rw[dP,bP hi];exact h1) h2;exact⟨l[i],ps[i],by simp[lD,h1],h2,h3.1.slots,h3.1,h3.2.1⟩
 have hpr:∀(i:Nat) p,ps[i]?=some p->p.r=st.H.length+((ps.take i).flatMap Cp.obs).length:=by
  intro i p hp;have hi:i<n:=by have:=(aN.1 hp).1;omega
  obtain⟨_,p',_,hp',_,_,hr⟩:=hop i hi;rw[hp]at hp';cases hp';exact hr
 have a4v:∀(i:Nat) p id ob,ps[i]?=some p->p.up=some (id,ob)->st.H.length<=id/\(∃zs ds,ob=.box ds/\zs.length=ds.length/\((ps.take i).flatMap Cp.obs)[id-st.H.length]?=some (.box zs))/\∀(i2:Nat) q Nn,i2<i->ps[i2]?=some q->q.up≠some (id,Nn):=by
  intro i p id ob hp he;have hi:i<n:=by have:=(aN.1 hp).1;omega
  have h1:l[i]?=some l[i]:=av (by omega);have h3:=(a15 i l[i] p (by rw[dP,bP hi];exact h1) hp).2.2 id ob he;exact⟨h3.2.1,h3.2.2.1,h3.2.2.2⟩
 have aAx:∀(i j:Nat) p q id ob Nn,ps[i]?=some p->ps[j]?=some q->p.up=some (id,ob)->q.up=some (id,Nn)->i=j:=by
  intro i j p q id ob Nn hp hq he Su;rcases Cy i j with h|h|h
  ·exact absurd he ((a4v j q id Nn hq Su).2.2 i p ob h hp)
  ·exact h
  ·exact absurd Su ((a4v i p id ob hp he).2.2 j q Nn h hq)
 have aAy:∀(i:Nat) p id ob,ps[i]?=some p->p.up=some (id,ob)->p.obs=[]:=by
  intro i p id ob hp he;have hi:i<n:=by have:=(aN.1 hp).1;omega
  obtain⟨_,p',_,hp',_,hc,_⟩:=hop i hi;rw[hp]at hp';cases hp';rcases hc.a7i with h|h
  ·rw[h]at he;cases he
  ·exact h
 have hfit:∀(i:Nat) p,ps[i]?=some p->p.r+p.obs.length<=st.H.length+(ps.flatMap Cp.obs).length:=by
  intro i p hp;rw[hpr i p hp,A9 hp];simp only[bB];omega
 have a4p:∀(i j:Nat) p q,ps[i]?=some p->ps[j]?=some q->i<j->p.r+p.obs.length<=q.r:=by
  intro i j p q hp hq hij;rw[hpr i p hp,hpr j q hq];have:=Zd hp hij;omega
 have hdist:∀(i j:Nat) p q t,ps[i]?=some p->ps[j]?=some q->p.t=some t->q.t=some t->i=j:=by
  intro i j p q t hp hq he1 Su;have hi:i<n:=by have:=(aN.1 hp).1;omega
  have hj:j<n:=by have:=(aN.1 hq).1;omega
  obtain⟨oi,p',ho,hp',hdi,_⟩:=hop i hi;obtain⟨oj,q',BY,ZB,hdj,_⟩:=hop j hj;rw[hp]at hp';cases hp';rw[hq]at ZB;cases ZB;have:=b8.1 Xo i (cT.2 hi);simp only[ho,aS]at this;have:=b8.1 this.2 j (cT.2 hj);simp only[BY,hdi,hdj,he1,Su,oT,bU,A6,Option.isNone_some,A6,cr]at this;exact this.symm
 have Q8:∀(i:Nat) p t,ps[i]?=some p->p.t=some t->∀q∈ps.filterMap Cp.sl,q.1=t->q=(t,p.d):=by
  intro i p t hp hpt q hq he;obtain⟨q',ZB,Ru⟩:=dQ.1 hq;obtain⟨j,hj,rfl⟩:=jS.1 ZB;have Dk:ps[j]?=some ps[j]:=av hj;unfold Cp.sl at Ru;cases hpj:ps[j].t with
  |none=>rw[hpj]at Ru;cases Ru
  |some u=>
   rw[hpj]at Ru;simp only[dM,bC]at Ru;subst Ru;simp only at he;subst he;have:=hdist j i _ p u Dk hp hpj hpt;subst this;rw[hp]at Dk;cases Dk;rfl
 have hlk:∀(i:Nat) (o:Oper),i<n->l.toArray[i]?=some o->∀t∈o.looksAt l.toArray,lk (((ps.take i).filterMap Cp.sl).reverse++st.σ) t=lk ((ps.filterMap Cp.sl).reverse++st.σ) t:=by
  intro i o hin ho t ht;have Sr:=b8.1 Xo i (cT.2 hin);simp only[ho,aS]at Sr;have Sr:=b8.1 Sr.1.2 t ht;by_cases hex:∃(j:Nat) (q:Cp),ps[j]?=some q/\q.t=some t
  ·obtain⟨j,q,hq,WG⟩:=hex;have hj:j<n:=by have:=(aN.1 hq).1;omega
   obtain⟨oj,q',BY,ZB,hdj,_⟩:=hop j hj;rw[hq]at ZB;cases ZB;have:=b8.1 Sr j (cT.2 hj);simp only[BY,hdj,WG,oT,bU,r9,aS,bH]at this;obtain⟨hji,_⟩:=this;rw[QL (ps.filterMap Cp.sl).reverse st.σ (t,q.d) (by rw[k7];exact dQ.2 ⟨q,aE hq,by simp[Cp.sl,WG]⟩) (fun q2 Dk Su=>Q8 j q t hq WG q2 (by simpa using Dk) Su)];refine QL ((ps.take i).filterMap Cp.sl).reverse st.σ (t,q.d) ?_ (fun q2 Dk Su=>Q8 j q t hq WG q2 ?_ Su)
   ·rw[k7];exact dQ.2 ⟨q,aE (i:=j) (by rw[dP,bP hji];exact hq),by simp[Cp.sl,WG]⟩
   ·obtain⟨q3,hq3,Hy⟩:=dQ.1 (k7.1 Dk);exact dQ.2 ⟨q3,cO hq3,Hy⟩
  ·have hno:∀q3∈ps,q3.t≠some t:=by
    intro q3 hq3 he;obtain⟨j,hj,hqj⟩:=jS.1 hq3;exact hex ⟨j,q3,by rw[<-hqj];exact av hj,he⟩
   have hsl:∀(qs:List Cp),(∀q3∈qs,q3.t≠some t)->∀p∈(qs.filterMap Cp.sl).reverse,p.1≠t:=by
    intro qs Ru p hp he;obtain⟨q3,hq3,Hy⟩:=dQ.1 (k7.1 hp);unfold Cp.sl at Hy;cases hpt:q3.t with
    |none=>rw[hpt]at Hy;cases Hy
    |some u=>rw[hpt]at Hy;simp only[dM,bC]at Hy;subst Hy;simp only at he;exact Ru q3 hq3 (by rw[hpt,he])
   rw[Ng _ _ _ (hsl _ hno),Ng _ _ _ (hsl _ (fun q3 hq3=>hno q3 (cO hq3)))]
 have a6m:∀i∈L,∃(o:Oper) (p:Cp),l.toArray[i]?=some o/\ps[i]?=some p/\p.obs=[]/\p.up=none/\a0X P Z X l ((ps.filterMap Cp.sl).reverse++st.σ) st.H i:=by
  intro i hi;have hin:=I4 i hi;have h1:=b8.1 hL i hi;obtain⟨o,p,ho,hp,hd,hc,_⟩:=hop i hin;simp only[ho,aS]at h1;have hg:o.guard=none:=by simpa using h1.2.1
  have hst:=hstill i hi o (by simpa using ho);rcases hc with⟨t,hpt,hpu,hdt,htn,hc⟩|⟨_,_,hdt,_⟩
  ·have hc:LC P st.H (((ps.take i).filterMap Cp.sl).reverse++st.σ) o p:=by
    rcases hc with⟨_,hc⟩|⟨_,_,_,_,hg',_⟩|⟨_,_,_,hg',_⟩
    ·exact hc
    ·rw[hg]at hg';cases hg'
    ·rw[hg]at hg';cases hg'
   have hpv:pv P ⟨((ps.take i).filterMap Cp.sl).reverse++st.σ,st.H⟩ o.op=some p.d/\p.obs=[]:=by
    rcases hc with(hc|⟨f,xs,ts,ds,ms,d,Z9,_⟩)| (⟨T,zs,Z9,_⟩|⟨T,x,ds,Z9,_⟩)|⟨T,e,sz,len,parts,zs,ds,es,Z9,_⟩|⟨T,e,sz,len,parts,zs,ds,Z9,_⟩
    ·exact hc
    all_goals(rw[Z9]at hst;simp[DF]at hst)
   refine⟨o,p,ho,hp,hpv.2,hpu,o,t,p.d,ho,hg,hdt,htn,?_,?_⟩
   ·exact QL (ps.filterMap Cp.sl).reverse st.σ (t,p.d) (by rw[k7];exact dQ.2 ⟨p,aE hp,by simp[Cp.sl,hpt]⟩) (fun q2 Dk Su=>Q8 i p t hp hpt q2 (by simpa using Dk) Su)
   ·intro σ' H' hX Uf;have e1:pv P ⟨(ps.filterMap Cp.sl).reverse++st.σ,st.H⟩ o.op=some p.d:=TT (fun _ _ h=>h) (Po (st:=⟨_,st.H⟩) (xO:=⟨_,st.H⟩) (ops:=l.toArray) (o:=o) (fun t ht=>hlk i o hin ho t ht)) hpv.1;refine a3M hX hst ?_ e1;intro x hx;rw[Vw σ' H' st.H x];exact(Po (st:=⟨σ',st.H⟩) (xO:=⟨_,st.H⟩) (ops:=l.toArray) (o:=o) (fun t ht=>Uf t ht) x hx).symm
  ·have:o.dst.isSome=true:=h1.2.2;rw[hdt]at this;cases this
 intro κ Θ a w hs;have switch:∀(f:Nat) (listed:Array Bool) (σ':List (Nat×D)) (H':bz) (κ:Nat->Option Value) (Θ:Nat->Nat) (a:Act) (w:World),HeadInv .any l.toArray n listed->
  ((List.range n).filter fun i=> !listed.getD i false).length=f->
  (∀(i:Nat) p t,ps[i]?=some p->p.t=some t->listed.getD i false=true->lk σ' t=p.d)->
  (∀t,(∀(i:Nat) p,ps[i]?=some p->listed.getD i false=true->p.t≠some t)->lk σ' t=lk st.σ t)->
  H'.length=st.H.length+(ps.flatMap Cp.obs).length->Ext st.H H'->
  (∀(i:Nat) p,ps[i]?=some p->listed.getD i false=true->∀(j:Nat) o,p.obs[j]?=some o->(∀(i2:Nat) q ob,ps[i2]?=some q->listed.getD i2 false=true->q.up≠some (p.r+j,ob))->H'[p.r+j]?=some o)->
  (∀(i:Nat) q id ob,ps[i]?=some q->listed.getD i false=true->q.up=some (id,ob)->H'[id]?=some ob/\∃v,κ id=some v)->
  (∀(i:Nat) p,ps[i]?=some p->listed.getD i false=false->∀j,j<p.obs.length->κ (p.r+j)=none)->
  fE Z ⟨σ',H'⟩ κ Θ a w->(∀i,i<n->i∉L->listed.getD i false=true)->
  wpAny P .any l.toArray (fun e a' w'=>∃xO κ' Θ',fE Z xO κ' Θ' a' w'/\Q e xO) (f+(l.toArray.size-n)) listed a w:=by
  intro f listed σ' H' κ Θ a w inv xH hA hB hHl hHe hHo hHu hHf hs hN;have a6T:∀(i:Nat) p,ps[i]?=some p->(p.up≠none\/p.obs≠[])->listed.getD i false=true:=by
   intro i p hp hne;have hi:i<n:=by have:=(aN.1 hp).1;omega
   refine hN i hi fun hiL=>?_
   obtain⟨_,p',_,hp',h1,h2,_⟩:=a6m i hiL;rw[hp]at hp';cases hp';rcases hne with h|h
   ·exact h h2
   ·exact h h1
  have Q0:∀t,(∀i∈L,∀o,l.toArray[i]?=some o->listed.getD i false=false->o.dst≠some t)->lk σ' t=lk ((ps.filterMap Cp.sl).reverse++st.σ) t:=by
   intro t hno;by_cases hex:∃(i:Nat) (p:Cp),ps[i]?=some p/\p.t=some t
   ·obtain⟨i,p,hp,hpt⟩:=hex;have hi:i<n:=by have:=(aN.1 hp).1;omega
    have hli:listed.getD i false=true:=by
     cases hl:listed.getD i false with
     |true=>rfl
     |false=>
      obtain⟨o,p',ho,hp',hd,_⟩:=hop i hi;rw[hp]at hp';cases hp';by_cases hiL:i∈L
      ·exact absurd (by rw[hd,hpt]) (hno i hiL o ho hl)
      ·rw[hN i hi hiL]at hl;cases hl
    rw[hA i p t hp hpt hli];exact(QL (ps.filterMap Cp.sl).reverse st.σ (t,p.d) (by rw[k7];exact dQ.2 ⟨p,aE hp,by simp[Cp.sl,hpt]⟩) (fun q hq he=>Q8 i p t hp hpt q (by simpa using hq) he)).symm
   ·rw[hB t (fun i p hp _ he=>hex ⟨i,p,hp,he⟩),Ng];intro q hq he;obtain⟨p,hp,hps⟩:=dQ.1 (k7.1 hq);obtain⟨i,hi,hpi⟩:=jS.1 hp;refine hex ⟨i,p,by rw[<-hpi];exact av hi,?_⟩;unfold Cp.sl at hps;cases hpt:p.t with
    |none=>rw[hpt]at hps;cases hps
    |some u=>rw[hpt]at hps;simp only[dM,bC]at hps;subst hps;simp only at he;rw[he]
  have aAS:H'=st.H++R9:=by
   apply qC;intro k;by_cases h1:k<st.H.length
   ·rw[bJ h1];exact hHe k _ (av h1)|>.trans (av h1).symm
   ·rw[bW (by omega)];by_cases hex:∃(i:Nat) (q:Cp) (ob:Ob),ps[i]?=some q/\q.up=some (k,ob)
    ·obtain⟨i,q,ob,hq,he⟩:=hex;rw[(hHu i q k ob hq (a6T i q hq (.inl (by rw[he];simp))) he).1,hFu i q k ob hq he]
    ·have hno:∀(i:Nat) q ob,ps[i]?=some q->q.up≠some (k,ob):=fun i q ob hq he=>hex ⟨i,q,ob,hq,he⟩
     rw[hFo (k-st.H.length) (fun i q ob hq=>by rw[show st.H.length+(k-st.H.length)=k from by omega];exact hno i q ob hq)];by_cases h2:k-st.H.length<(ps.flatMap Cp.obs).length
     ·obtain⟨i,p,j,hp,hj,hk⟩:=MH h2;have e3:p.r+j=k:=by rw[hpr i p hp];omega
      have h3:=hHo i p hp (a6T i p hp (.inr (by intro e;rw[e]at hj;simp at hj))) j _ (av hj) (fun i2 q ob hq _=>by rw[e3];exact hno i2 q ob hq);rw[e3]at h3;rw[h3,A9 hp,hk,bW (by omega),jN,bJ hj,av hj]
     ·rw[dU (by omega),dU (by omega)]
  subst aAS;have hsz:=inv.size;have hcm:((List.range m).filter fun i=> !listed.getD i false).length=f+(m-n):=by
   have:=OR (p:=fun i=> !listed.getD i false) (n:=n) (m-n) (fun i h1 h2=>by
    have:=getD_both (inv.tail i h1 (by omega));simp only[this];rfl)
   rw[show n+(m-n)=m from by omega]at this;rw[this,xH]
  have:=UR (Q:=Q) (H0:=st.H) hB0 (fun i hi=>by obtain⟨_,_,_,_,_,_,h⟩:=a6m i hi;exact h) (f+(m-n)) 0 ⟨(ps.filterMap Cp.sl).reverse++st.σ,st.H++R9⟩ listed σ' κ Θ a w
   ⟨hsz,inv.closed,fun t h1 h2=>absurd h2 (by omega)⟩ hN (by omega) (fun i h1 h2=>absurd h2 (by omega)) (fun i h1 h2=>getD_both (inv.tail i (by omega) h2)) hcm (fun _ _=>rfl)
   ((Ap.refl _).app _) (by simpa using hK) Q0 hs
  rw[show f+(m-n)+(l.toArray.size-m)=f+(l.toArray.size-n)from by omega]at this;exact this
 have main:∀(f:Nat) (listed:Array Bool) (σ':List (Nat×D)) (H':bz) (κ:Nat->Option Value) (Θ:Nat->Nat) (a:Act) (w:World),HeadInv .any l.toArray n listed->
  ((List.range n).filter fun i=> !listed.getD i false).length=f->
  (∀(i:Nat) p t,ps[i]?=some p->p.t=some t->listed.getD i false=true->lk σ' t=p.d)->
  (∀t,(∀(i:Nat) p,ps[i]?=some p->listed.getD i false=true->p.t≠some t)->lk σ' t=lk st.σ t)->
  H'.length=st.H.length+(ps.flatMap Cp.obs).length->Ext st.H H'->
  (∀(i:Nat) p,ps[i]?=some p->listed.getD i false=true->∀(j:Nat) o,p.obs[j]?=some o->(∀(i2:Nat) q ob,ps[i2]?=some q->listed.getD i2 false=true->q.up≠some (p.r+j,ob))->H'[p.r+j]?=some o)->
  (∀(i:Nat) q id ob,ps[i]?=some q->listed.getD i false=true->q.up=some (id,ob)->H'[id]?=some ob/\∃v,κ id=some v)->
  (∀(i:Nat) p,ps[i]?=some p->listed.getD i false=false->∀j,j<p.obs.length->κ (p.r+j)=none)->
  fE Z ⟨σ',H'⟩ κ Θ a w->
  wpAny P .any l.toArray (fun e a' w'=>∃xO κ' Θ',fE Z xO κ' Θ' a' w'/\Q e xO) (f+(l.toArray.size-n)) listed a w:=by
  intro f
  induction f with
  |zero=>
   intro listed σ' H' κ Θ a w inv xH hA hB hHl hHe hHo hHu hHf hs;have hall:∀i,i<n->listed.getD i false=true:=by
    intro i hi;have h0:=dJ xH;cases hl:listed.getD i false with
    |true=>rfl
    |false=>
     have:i∈(List.range n).filter fun i=> !listed.getD i false:=gu.2 ⟨cT.2 hi,by simp[hl]⟩
     rw[h0]at this;cases this
   exact switch 0 listed σ' H' κ Θ a w inv xH hA hB hHl hHe hHo hHu hHf hs (fun i hi _=>hall i hi)
  |succ f ih=>
   intro listed σ' H' κ Θ a w inv xH hA hB hHl hHe hHo hHu hHf hs;by_cases hsw:∀i,i<n->i∉L->listed.getD i false=true
   ·exact switch (f+1) listed σ' H' κ Θ a w inv xH hA hB hHl hHe hHo hHu hHf hs hsw
   have aFc:∃i,i<n/\i∉L/\listed.getD i false=false:=by
    obtain⟨i,hi⟩:=Classical.not_forall.1 hsw;refine⟨i,?_⟩;by_cases h1:i<n
    ·by_cases h2:i∈L
     ·exact absurd (fun _ h=>absurd h2 h) hi
     ·refine⟨h1,h2,?_⟩;cases hl:listed.getD i false with
      |false=>rfl
      |true=>exact absurd (fun _ _=>hl) hi
    ·exact absurd (fun h=>absurd h h1) hi
   have hun:∃i,i<n/\listed.getD i false=false:=by
    have hne:((List.range n).filter fun i=> !listed.getD i false)≠[]:=by
     intro h0;rw[h0]at xH;simp at xH
    obtain⟨i,hi⟩:=Cj _ hne;obtain⟨h1,h2⟩:=gu.1 hi;exact⟨i,cT.1 h1,by simpa using h2⟩
   have hsz:=inv.size;rw[show f+1+(l.toArray.size-n)=(f+(l.toArray.size-n))+1 from by omega];refine⟨fun h0=>?_,fun i hi=>?_⟩
   ·exfalso;obtain⟨i,⟨hin,hil⟩,hmin⟩:=exists_least (p:=fun i=>i<n/\listed.getD i false=false) hun;obtain⟨o,p,ho,_,_,_⟩:=hop i hin;have:i∈Region.ready .any l.toArray listed:=by
     refine mem_ready.2 ⟨getD_in (by rw[hsz];omega) hil,o,ho,fun e he hb=>?_⟩;have:=b8.1 Xo i (cT.2 hin);simp only[ho,aS]at this;have:=xo.1 this.1.1 e he;simp only[hb,bU,r9,bH]at this;cases hl:listed.getD e.on false with
     |true=>rfl
     |false=>
      have:=hmin e.on ⟨by omega,hl⟩;omega
    rw[h0]at this;cases this
   ·obtain⟨i0,hi0,hl0⟩:=hun;have hin:i<n:=by
     rcases gj i n with h|h
     ·exact h
     ·obtain⟨i1,hi1,aF1,hl1⟩:=aFc;obtain⟨_,oi,hoi,_⟩:=mem_ready.1 hi;have FG:i<l.toArray.size:=(bS.1 hoi).1;exfalso;rcases gj i m with hm1|hm1
      ·have h1:=b8.1 hmid (i-n) (cT.2 (by omega));have h2:=b8.1 h1 i1 (cT.2 (by omega));rw[show n+(i-n)=i from by omega]at h2;simp only[qS]at h2;rcases h2 with h2|h2
       ·rw[wM inv.closed hi h2]at hl1;cases hl1
       ·exact aF1 (by simpa using h2)
      ·have h1:=b8.1 a1O (i-m) (cT.2 (by omega));have h2:=b8.1 h1 i1 (cT.2 (by omega));rw[show m+(i-m)=i from by omega]at h2;rw[wM inv.closed hi h2]at hl1;cases hl1
    obtain⟨o,p,ho,hp,hd,hc,_⟩:=hop i hin;obtain⟨hil,o',ho',hall⟩:=mem_ready.1 hi;rw[ho]at ho';cases ho';have Nc:=getD_both hil;have hc':yh P Z l.toArray st.H σ' o p:=by
     refine yh.congr (σ:=((ps.take i).filterMap Cp.sl).reverse++st.σ) (σ':=σ') ?_ hc;intro t ht;have Sr:=b8.1 Xo i (cT.2 hin);simp only[ho,aS]at Sr;have Sr:=b8.1 Sr.1.2 t ht;by_cases hex:∃(j:Nat) (q:Cp),ps[j]?=some q/\q.t=some t
     ·obtain⟨j,q,hq,WG⟩:=hex;have hj:j<n:=by have:=(aN.1 hq).1;omega
      obtain⟨oj,q',BY,ZB,hdj,_⟩:=hop j hj;rw[hq]at ZB;cases ZB;have:=b8.1 Sr j (cT.2 hj);simp only[BY,hdj,WG,oT,bU,r9,aS,bH]at this;obtain⟨hji,aB1⟩:=this;obtain⟨oi',aAk,e,he,hb,hon⟩:=Region.waitsFor_spec aB1;rw[ho]at aAk;cases aAk;have hjl:=hall e he hb;rw[hon]at hjl;rw[hA j q t hq WG hjl];refine QL ((ps.take i).filterMap Cp.sl).reverse st.σ (t,q.d) ?_ (fun q2 Dk Su=>Q8 j q t hq WG q2 ?_ Su)
      ·rw[k7];exact dQ.2 ⟨q,aE (i:=j) (by rw[dP,bP hji];exact hq),by simp[Cp.sl,WG]⟩
      ·obtain⟨q3,hq3,Hy⟩:=dQ.1 (k7.1 Dk);exact dQ.2 ⟨q3,cO hq3,Hy⟩
     ·rw[hB t (fun j q hq _ he=>hex ⟨j,q,hq,he⟩),Ng];intro q hq he;obtain⟨q3,hq3,Hy⟩:=dQ.1 (k7.1 hq);obtain⟨j,hj,hqj⟩:=jS.1 (cO hq3);refine hex ⟨j,q3,by rw[<-hqj];exact av hj,?_⟩;unfold Cp.sl at Hy;cases hpt:q3.t with
      |none=>rw[hpt]at Hy;cases Hy
      |some u=>rw[hpt]at Hy;simp only[dM,bC]at Hy;subst Hy;simp only at he;rw[he]
    have hfp:=hfit i p hp;have aAf:∀id ob,p.up=some (id,ob)->∃v,κ id=some v:=by
     intro id ob he;rcases hc' with⟨_,_,h,_⟩|⟨_,_,_,_,T,x,y,id',ds,Z9,hx',_,_,_,_,hpu⟩
     ·rw[h]at he;cases he
     ·rw[hpu]at he;cases he;obtain⟨b1,r1,_⟩:=hs.ev x;rw[Vw σ' H' st.H x,hx']at r1;obtain⟨g,hk,_⟩:=r1.DD;exact⟨_,hk⟩
    have aAw:∀id ob,p.up=some (id,ob)->∃zs ds,H'[id]?=some (.box zs)/\ob=.box ds/\zs.length=ds.length:=by
     intro id ob he;obtain⟨u1,⟨zs,ds,u2,u3,u4⟩,_⟩:=a4v i p id ob hp he;refine⟨zs,ds,?_,u2,u3⟩;obtain⟨i1,p1,j1,hp1,Q5,hk1⟩:=MH (aN.1 u4).1;have a8U:ps[i1]?=some p1:=by
      have:=(aN.1 hp1).1;rw[dP]at hp1;split at hp1
      ·exact hp1
      ·cases hp1
     have hi1:i1<i:=by have:=(aN.1 hp1).1;simp at this;omega
     have et:(ps.take i).take i1=ps.take i1:=by rw[ye,jt (by omega)]
     rw[et]at hk1;have e1:p1.r+j1=id:=by rw[hpr i1 p1 a8U];omega
     have Dj:p1.obs[j1]?=some (.box zs):=by
      rw[A9 hp1,et,hk1,bW (by omega),jN,bJ Q5]at u4;exact u4
     have hl1:listed.getD i1 false=true:=by
      cases hl:listed.getD i1 false with
      |true=>rfl
      |false=>
       have h0:=hHf i1 p1 a8U hl j1 Q5;rw[e1]at h0;obtain⟨v,hv⟩:=aAf id ob he;rw[h0]at hv;cases hv
     have:=hHo i1 p1 a8U hl1 j1 _ Dj (fun i2 q Nn hq hl Su=>by
      rw[e1]at Su;have:=aAx i i2 p q id ob Nn hp hq he Su;subst this;rw[Nc]at hl;cases hl)
     rw[e1]at this;exact this
    refine hc'.wp hs hHe ho (by omega) (fun j hj=>hHf i p hp Nc j hj) aAw fun κ' Θ' a' w' hs' hsame=>?_
    have xI:∀(j:Nat),(listed.setIfInBounds i true).getD j false=true↔(j=i\/listed.getD j false=true):=by
     intro j;by_cases e:i=j
     ·subst e;have:i<listed.size:=by rw[hsz];omega
      simp[this]
     ·rw[getD_set_ne false e];constructor
      ·exact .inr
      ·rintro(rfl|h)
       ·exact absurd rfl e
       ·exact h
    have hput:(p.Np H').length=H'.length:=by
     unfold Cp.Np;split
     ·simp
     ·exact zI (by omega)
    have aFD:∀(k:Nat),k<st.H.length->(p.Np H')[k]?=H'[k]?:=by
     intro k hk;unfold Cp.Np;split
     ·rename_i id ob he;have:=(a4v i p id ob hp he).1;rw[cz (by omega)]
     ·rw[Bm (by omega),bP (by rw[hpr i p hp];omega)]
    refine ih (listed.setIfInBounds i true) (p.slot σ') (p.Np H') κ' Θ' a' w' (inv.set hi hin) ?_ ?_ ?_ (by rw[hput];exact hHl) ?_ ?_ ?_ ?_ hs'
    ·have a4q:((List.range n).filter fun j=> !(listed.setIfInBounds i true).getD j false)=((List.range n).filter fun j=> !listed.getD j false).erase i:=by
      have hnd:((List.range n).filter fun j=> !listed.getD j false).Nodup:=List.Pairwise.filter _ List.nodup_range;rw[hnd.erase_eq_filter,Bs];apply Cw;intro j _;by_cases e:j=i
      ·subst e;have:=(xI j).2 (.inl rfl);rw[this];simp
      ·rw[getD_set_ne false (rq e)];simp[e]
     rw[a4q,xR (gu.2 ⟨cT.2 hin,by simp[Nc]⟩),xH];rfl
    ·intro j q t hq WG hl;unfold Cp.slot;rcases(xI j).1 hl with rfl|PE
     ·rw[hp]at hq;cases hq;rw[WG];simp[lk]
     ·cases hpt:p.t with
      |none=>exact hA j q t hq WG PE
      |some u=>
       simp only[lk];rw[bE,hA j q t hq WG PE];intro e;have:=hdist j i q p t hq hp WG (by rw[hpt,e]);subst this;rw[Nc]at PE;cases PE
    ·intro t ht;unfold Cp.slot;have ua:=hB t (fun j q hq hl=>ht j q hq ((xI j).2 (.inr hl)));cases hpt:p.t with
     |none=>exact ua
     |some u=>
      simp only[lk];rw[bE (fun e=>ht i p hp ((xI i).2 (.inl rfl)) (by rw[hpt,e]))];exact ua
    ·intro j y hj;rw[aFD j (aN.1 hj).1];exact hHe j y hj
    ·intro j q hq hl k y hy hno;have hkl:=(aN.1 hy).1;unfold Cp.Np;split
     ·rename_i id ob he;have hne:q.r+k≠id:=fun e=>hno i p ob hp ((xI i).2 (.inl rfl)) (by rw[e];exact he)
      rw[cz (rq hne)];rcases(xI j).1 hl with rfl|PE
      ·rw[hp]at hq;cases hq;rw[aAy j p id ob hp he]at hy;simp at hy
      ·exact hHo j q hq PE k y hy (fun i2 q2 Nn Dk hl3=>hno i2 q2 Nn Dk ((xI i2).2 (.inr hl3)))
     ·rw[Bm (by omega)];rcases(xI j).1 hl with rfl|PE
      ·rw[hp]at hq;cases hq;rw[bE (by omega),bP (by omega),jN];exact hy
      ·have hne:j≠i:=fun e=>by subst e;rw[Nc]at PE;cases PE
       have h3:=hHo j q hq PE k y hy (fun i2 q2 Nn Dk hl3=>hno i2 q2 Nn Dk ((xI i2).2 (.inr hl3)));rcases Nat.lt_or_gt_of_ne hne with h|h
       ·have:=a4p j i q p hq hp h;rw[bP (by omega)];exact h3
       ·have:=a4p i j p q hp hq h;rw[bE (by omega),bE (by omega)];exact h3
    ·intro j q id ob hq hl he;rcases(xI j).1 hl with rfl|PE
     ·rw[hp]at hq;cases hq;obtain⟨zs,ds,z1,_⟩:=aAw id ob he;have hlt:=(aN.1 z1).1;refine⟨by simp only[Cp.Np,he];rw[eX hlt],?_⟩;obtain⟨v,hv⟩:=aAf id ob he;refine⟨v,?_⟩;rw[hsame id (by rw[aAy j p id ob hp he];simp;omega)];exact hv
     ·obtain⟨h1,v,hv⟩:=hHu j q id ob hq PE he;have hout:id<p.r\/p.r+p.obs.length<=id:=by
       rcases gj id p.r with h|h
       ·exact .inl h
       ·rcases gj id (p.r+p.obs.length)with h2|h2
        ·have:=hHf i p hp Nc (id-p.r) (by omega);rw[show p.r+(id-p.r)=id from by omega,hv]at this;cases this
        ·exact .inr h2
      refine⟨?_,v,by rw[hsame id hout];exact hv⟩;unfold Cp.Np;split
      ·rename_i id2 Nn Su;have hne:id2≠id:=fun e=>by
        subst e;have:=aAx i j p q id2 Nn ob hp hq Su he;subst this;rw[Nc]at PE;cases PE
       rw[cz hne];exact h1
      ·rw[Bm (by omega)];rcases hout with h|h
       ·rw[bP h];exact h1
       ·rw[bE (by omega),bE (by omega)];exact h1
    ·intro j q hq hl k hk;have hne:j≠i:=fun e=>by
      subst e;have:=(xI j).2 (.inl rfl);rw[this]at hl;cases hl
     have PE:listed.getD j false=false:=by
      cases h:listed.getD j false with
      |false=>rfl
      |true=>have:=(xI j).2 (.inr h);rw[this]at hl;cases hl
     have h3:=hHf j q hq PE k hk;rw[hsame,h3];rcases Nat.lt_or_gt_of_ne hne with h|h
     ·have:=a4p j i q p hq hp h;omega
     ·have:=a4p i j p q hp hq h;omega
 have aFs:HeadInv .any l.toArray n (Array.replicate l.toArray.size false):=
  ⟨by simp,fun j oj _ hl=>(by rw[getD_replicate_false]at hl;cases hl),fun t _ ht=>getD_in (by simpa using ht) (getD_replicate_false _ _)⟩
 have xH:((List.range n).filter fun i=> !(Array.replicate l.toArray.size false).getD i false).length=n:=by
  rw[List.filter_eq_self.2]
  ·simp
  ·intro i _;rw[getD_replicate_false];rfl
 have:=main n (Array.replicate l.toArray.size false) st.σ (st.H++List.replicate (ps.flatMap Cp.obs).length .gone) κ Θ a w aFs xH (fun i p t _ _ hl=>by rw[getD_replicate_false]at hl;cases hl) (fun t _=>rfl)
  (by simp) (fun i o h=>by rw[bJ (aN.1 h).1];exact h) (fun i p _ hl=>by rw[getD_replicate_false]at hl;cases hl)
  (fun i q id ob _ hl=>by rw[getD_replicate_false]at hl;cases hl)
  (fun i p hp _ j _=>hs.uY _ (by rw[hpr i p hp];omega)) (hs.room _)
 rw[show n+(l.toArray.size-n)=l.toArray.size from by omega]at this;exact this
def OK(X:ah)(st:St)(op:Op)(A:fp):Bool:=match op with
 | .buildSlice _ _ _=>true
 | .build _ _=>true
 | .extract _ _=>true
 | .field _ _ _=>true
 | .move _=>true
 | .alloc _=>true
 | .binOp _ _ _ _ _=>true
 | .indexAddr _ x _=>(WT st (st.ev x)).isNone
 | .load _ x=>(a1v st (st.ev x)).isNone&&(match st.ev x,A with| .op id _ _ _,.tk _::_=>X.contains id|_,_=>true)
 | .store _ x _=>(match st.ev x with| .ptr id _=>X.contains id|_=>false)
 | .call c=>(match c.callee,A with
  | .builtin .append,_=>true
  | .value (.func _),.d _::_=>true
  | .value (.func _),.gf _ _::_=>true
  | .value (.func _),.gp _ _ _::_=>(match c.args.toList with|x::_=>(match st.ev x with| .ptr id _=>X.contains id|_=>false)| []=>false)
  |_,_=>false)
 |_=>false
def UZ(X:ah)(H H':bz):Bool:=(List.range H.length).all fun i=>X.contains i||(match H[i]? with|some .gone=>true|_=>(match H'[i]? with|some .gone=>false|_=>true))
def QV(P:Program)(nt:Nat)(X:ah):List Oper->St->fp->Option (St×fp×Fp)
 | [],st,A=>some (st,A,[])
 |o::rest,st,A=>match o.guard,OK X st o.op A with
  |none,true=>(match Jq P nt o st A with
   |some (AB,A1,p)=>(match UZ X st.H AB.H,QV P nt X rest AB A1 with|true,some (PK,A2,q)=>some (PK,A2,p++q)|_,_=>none)
   |none=>none)
  |_,_=>none
theorem Uq{H:bz}{ms:ah}{i:Nat}(h:i∈ms)(hl:i<H.length):(kill H ms)[i]?=some .gone:=by
 induction ms generalizing H with
 |nil=>cases h
 |cons m ms ih=>
  show(kill (H.set m .gone) ms)[i]?=_;by_cases hi:i∈ms
  ·exact ih hi (by simpa using hl)
  ·rw[gD hi];rcases bV.1 h with rfl|h
   ·rw[eX hl]
   ·exact absurd h hi
theorem Xn{X:ah}{H H':bz}(h:UZ X H H'=true){i:Nat}{o:Ob}(hi:i∉X)(ho:H[i]?=some o)(hg:H'[i]?=some .gone):o=.gone:=by
 have h1:=b8.1 h i (cT.2 (aN.1 ho).1);rw[ho,hg,List.contains_eq_mem,ax hi,r9]at h1;cases o<;>first|rfl|cases h1
theorem QI{X:ah}{H:bz}{ms:ah}{n:bz}(h:UZ X H (kill H ms++n)=true):Ap X H (kill H ms++n):=by
 intro i o hi ho;have hl:=(aN.1 ho).1;have e:(kill H ms++n)[i]?=(kill H ms)[i]?:=bJ (by rw[iU];exact hl);by_cases hm:i∈ms
 ·have e2:=e.trans (Uq hm hl);rw[e2,Xn h hi ho e2]
 ·rw[e,gD hm,ho]
theorem ZJ{X:ah}{H:bz}{ms:ah}{n:bz}{id:Nat}{b:Ob}(hid:id∈X)(h:UZ X H ((kill H ms).set id b++n)=true):Ap X H ((kill H ms).set id b++n):=by
 intro i o hi ho;have hne:id≠i:=fun e=>hi (e▸hid)
 have hl:=(aN.1 ho).1;have e:((kill H ms).set id b++n)[i]?=(kill H ms)[i]?:=by
  rw[bJ (by rw[js,iU];exact hl),cz hne]
 by_cases hm:i∈ms
 ·have e2:=e.trans (Uq hm hl);rw[e2,Xn h hi ho e2]
 ·rw[e,gD hm,ho]
theorem a3J{X:ah}{nt:Nat}{o:Oper}{A A1:fp}{AB:St}{p:Fp}(hk:OK X st o.op A=true)(hgn:UZ X st.H AB.H=true)(h:Jq P nt o st A=some (AB,A1,p)):((∃t d,o.dst=some t/\t<nt/\AB.σ=(t,d)::st.σ)\/(o.dst=none/\AB.σ=st.σ))/\Ap X st.H AB.H:=by
 have plain:∀ {t:Nat},o.dst=some t->(if t<nt then match Jb P st o.op A with|some (d,A,ow)=>some ((⟨(t,d)::st.σ,st.H⟩:St),A,ow)|none=>none else none)=some (AB,A1,p)->((∃t d,o.dst=some t/\t<nt/\AB.σ=(t,d)::st.σ)\/(o.dst=none/\AB.σ=st.σ))/\Ap X st.H AB.H:=by
  intro t hd h;split at h
  ·rename_i ht;split at h
   ·cases h;exact⟨.inl ⟨t,_,hd,ht,rfl⟩,Ap.refl _⟩
   ·cases h
  ·cases h
 unfold Jq at h;split at h
 case h_2=>
  rename_i T t hop hd;split at h
  ·rename_i hc;split at h
   ·cases h;exact⟨.inl ⟨t,_,hd,hc,rfl⟩,Ap.app (Ap.refl _) _⟩
   ·cases h
  ·cases h
 case h_3=>
  rename_i T x y hop hd;rw[hop]at hk;simp only[OK]at hk;split at h
  ·rename_i id off ds h1 h2;rw[h1]at hk;split at h
   ·split at h
    ·split at h
     ·cases h;refine⟨.inr ⟨hd,rfl⟩,fun i cs hi hcs=>?_⟩;have hne:id≠i:=fun e=>hi (by subst e;simpa using hk)
      show(st.H.set id _)[i]?=_;rw[cz hne,hcs]
     ·cases h
    ·cases h
   ·cases h
  ·rename_i id i sz off ds h1 h2;rw[h1]at hk;cases hk
  ·cases h
 case h_7=>
  rename_i T len parts t hop hd;split at h
  ·split at h
   ·split at h
    ·split at h
     ·rename_i es ms hab;split at h
      ·rename_i hc;cases h;exact⟨.inl ⟨t,_,hd,hc.1,rfl⟩,QI hgn⟩
      ·cases h
     ·cases h
    ·cases h
   ·cases h
  ·cases h
 case h_8=>
  rename_i c t hop hd;rw[hop]at hk;simp only[OK]at hk;split at h
  ·split at h
   ·split at h
    ·rename_i rows u1 k1 gA u2 k2 A' ow _ hS hX;split at h
     ·rename_i hc;cases h;exact⟨.inl ⟨t,_,hd,hc.1,rfl⟩,QI hgn⟩
     ·cases h
    ·cases h
   ·cases h
  ·rename_i a8K _ _;rw[a8K]at hk;cases hk
  ·rename_i f a8K;rw[a8K]at hk;split at hk
   ·rename_i hb;cases hb
   ·rename_i f' d A' hb;split at h
    ·rename_i hA;cases hA
    ·rename_i hA;cases hA
    ·rename_i hA;cases hA
    ·rename_i hA;cases hA
    ·rename_i hA;cases hA
    ·rename_i hA;cases hA
    ·rename_i ds ms d' A'' hv hA;split at h
     ·rename_i hc;cases h;exact⟨.inl ⟨t,_,hd,hc.1,rfl⟩,(Ap.refl _).app _⟩
     ·cases h
    ·rename_i hA;cases hA
    ·rename_i hA;cases hA
    ·cases h
   ·rename_i f' nz d A' hb;generalize Kx st.H (List.map st.ev c.args.toList)=q at h;rcases q with _|⟨qa,qb⟩
    all_goals
     dsimp only at h;split at h
     ·rename_i ds ms qs h9;split at h
      ·rename_i hc;cases h;exact⟨.inl ⟨t,_,hd,hc.1,rfl⟩,QI hgn⟩
      ·cases h
     ·cases h
   ·rename_i f' nz cells' d A' hb;generalize Kx st.H (List.map st.ev c.args.toList)=q at h;rcases q with _|⟨qa,qb⟩
    all_goals
     dsimp only at h;split at h
     ·rename_i x0 xr h5;rw[h5]at hk;split at h
      ·rename_i id h6;simp only[h6]at hk;split at h
       ·rename_i ob h7;split at h
        ·rename_i N8 h8;split at h
         ·rename_i cells ds ms qs h9;split at h
          ·rename_i hc;cases h;exact⟨.inl ⟨t,_,hd,hc.1,rfl⟩,ZJ (by simpa using hk) hgn⟩
          ·cases h
         ·cases h
        ·cases h
       ·cases h
      ·cases h
     ·cases h
   ·cases hk
  ·exact plain hd h
 case h_13=>
  rename_i T x i t hop hd;rw[hop]at hk;simp only[OK]at hk;split at h
  ·rename_i hl;rw[hl]at hk;cases hk
  ·exact plain hd h
 case h_14=>
  rename_i T x t hop hd;rw[hop]at hk;simp only[OK]at hk;split at h
  ·rename_i hl;rw[hl]at hk;cases hk
  ·rw[aS]at hk
   replace hk:=hk.2
   split at h
   ·rename_i r A' id i sz h1;split at h
    ·rename_i n e sz' rows h2;split at h
     ·rename_i hc;cases h;refine⟨.inl ⟨t,_,hd,hc.1,rfl⟩,Ap.app (fun j cs hj hcs=>?_) _⟩;have hne:id≠j:=fun e=>hj (by subst e;rw[h1]at hk;simpa using hk)
      rw[cz hne];exact hcs
     ·cases h
    ·cases h
   ·exact plain hd h
 all_goals first
  | (rename_i hop _;rw[hop]at hk;simp[OK]at hk;done)
  | (rename_i hop;rw[hop]at hk;simp[OK]at hk;done)
  |skip
 all_goals first
  |exact plain (by assumption) h
  |cases h
theorem Step.of{nt:Nat}(hnt:Z.nt=nt){o:Oper}{A A1:fp}{AB:St}{p:Fp}(hg:o.guard=none)(hsel:∀cs b,o.op≠ .select cs b)(h:Jq P nt o st A=some (AB,A1,p))(hp:Ao p):Step P Z o st AB:=by
 intro κ Θ a w hs;have h1:=SQ (P:=P) (Z:=Z) (all:= #[]) (rest:=[]) (Q:=fun e s=>e=.normal/\s=AB) hnt hg h hp (a7r ⟨rfl,rfl⟩) κ Θ a w hs;have hw:Region.wanted o (yielded #[] a.tmps)=true:=by simp[Region.wanted,hg]
 simp only[wpList,hw,nM]at h1;rcases h1 with h1|⟨_,a0,w0,xO,κ',Θ',_,hq,_⟩
 ·refine VX hsel (fun _ _=>rfl) ?_ ?_ ?_ h1
  ·rintro v w' ⟨xO,κ',Θ',hs',_,rfl⟩;exact⟨κ',Θ',hs'⟩
  ·rintro d w' ⟨xO,κ',Θ',hs',_,rfl⟩;have:=hs'.defers;cases hod:o.dst<;>rw[hod]at this<;>cases this
  ·rintro e c w' ⟨xO,κ',Θ',hs',rfl,_⟩;rfl
 ·cases hq
theorem MT{X:ah}{nt:Nat}(hnt:Z.nt=nt){K:St->Prop}{PK:St}{A2:fp}:∀ {ops:List Oper} {st:St} {A:fp} {p:Fp},QV P nt X ops st A=some (PK,A2,p)->Ao p->K PK->Yd P Z X K ops st:=by
 intro ops
 induction ops with
 |nil=>intro st A p h hp hK;simp only[QV,bC,dG]at h;obtain⟨rfl,_,_⟩:=h;exact hK
 |cons o os ih=>
  intro st A p h hp hK;simp only[QV]at h;split at h
  ·rename_i hg hok;split at h
   ·rename_i AB A1 p1 h1;split at h
    ·rename_i a5x A2' q hgn h2;cases h;obtain⟨hp1,hq⟩:=hp.app;obtain⟨hd,hX⟩:=a3J hok hgn h1;have hsel:∀cs b,o.op≠ .select cs b:=by
      intro cs b e;rw[e]at hok;cases hok
     exact⟨AB,hd.imp (fun⟨t,d,hd,ht,hσ⟩=>⟨t,d,hd,by rw[hnt];exact ht,hσ⟩) id,hX,hg,hsel,Step.of hnt hg hsel h1 hp1,ih h2 hq hK⟩
    ·cases h
   ·cases h
  ·cases h
def a3L(X:ah)(st:St)(ops:List Oper)(L:ah):Bool:=L.all fun i=>match ops[i]? with|some o=>DF X st o.op|none=>false
theorem SA{X:ah}{st:St}{ops:List Oper}{L:ah}(h:a3L X st ops L=true):∀i∈L,∀o,ops[i]?=some o->DF X st o.op=true:=by
 intro i hi o ho;have:=b8.1 h i hi;rw[ho]at this;exact this
theorem FR.mono{H:bz}{K K':List (Nat×D)->bz->Prop}(hk:∀σ acc,K σ acc->K' σ acc):∀(l:List Oper) (σ:List (Nat×D)) (acc:bz) (U:ah),FR P Z all H K l σ acc U->FR P Z all H K' l σ acc U
 | [],σ,acc,_,h=>hk _ _ h
 |o::os,σ,acc,U,⟨p,h1,h2,h3,h4⟩=>⟨p,h1,h2,h3,FR.mono hk os _ _ _ h4⟩
theorem a4C{id:Nat}{l:List Oper}(n:Nat)(hm:P.follows .mixedOrders=true)(hB:Kj l.toArray n n []=true)
 (h:FR P Z l.toArray st.H (fun σ acc=>AO P Z l.toArray (l.drop n) Q ⟨σ,st.H++acc⟩) (l.take n) st.σ [] []):AW P Z (.region id l.toArray true) Q st:=by
 refine(N7 (X:=[]) n n [] hB ?_).aw hm;refine FR.mono (fun σ acc hk=>⟨fun i hi=>absurd hi (by simp),by rw[qt,List.take_zero];exact hk⟩) _ _ _ _ h
def ES(ρ:ah)(o:Oper):Oper:= {o with after:=o.after.map fun e=> {e with on:=ρ.getD e.on 0},guard:=o.guard.map fun g=>(ρ.getD g.1 0,g.2)}
def wq(ops:Array Oper)(Y ρ:ah):List Oper:=Y.filterMap fun i=>(ops[i]?).map (ES ρ)
def OP(ops:Array Oper)(Y ρ:ah):Bool:=
 decide (Y.length=ops.size)&&(decide (ρ.length=ops.size)&&
 (((List.range ops.size).all fun i=>(match ρ[i]? with|some k=>Y[k]?==some i|none=>false))&&
 (((List.range ops.size).all fun k=>(match Y[k]? with|some i=>ρ[i]?==some k|none=>false))&&
 (ops.toList.all fun o=>(o.after.all fun e=>decide (e.on<ops.size))&&(match o.guard with|some g=>decide (g.1<ops.size)|none=>true)))))
theorem Pp(ρ:ah)(o:Oper)(f:Operand->Value):execOp f (ES ρ o)=execOp f o:=by
 cases o;rfl
theorem a3d(ρ:ah){o:Oper}{K:Act->World->Prop}{Q:Exit->Act->World->Prop}(h:(ES ρ o).wp P a w K Q):o.wp P a w K Q:=by
 unfold Oper.wp at*;rw[Pp]at h;exact h
theorem Vm(ρ:ah){o:Oper}(h:(ES ρ o).asks P a w):o.asks P a w:=by
 unfold Oper.asks at*;rw[Pp]at h;exact h
section
variable{ops:Array Oper}{Y ρ:ah}
theorem Qe(hB:OP ops Y ρ=true){k i:Nat}{o:Oper}(hk:Y[k]?=some i)(ho:ops[i]?=some o):(wq ops Y ρ).toArray[k]?=some (ES ρ o):=by
 simp only[OP,aS,bH]at hB;obtain⟨h1,h2,h3,h4,h5⟩:=hB;have hall:∀x∈Y,∃o,ops[x]?=some o:=by
  intro x hx;obtain⟨j,hj,rfl⟩:=jS.1 hx;have:=b8.1 h4 j (cT.2 (by omega));rw[av hj]at this;simp only[cr]at this;have:=(aN.1 this).1;exact⟨_,dB (by omega)⟩
 have key:∀(l:ah) (k:Nat),(∀x∈l,∃o,ops[x]?=some o)->l[k]?=some i->(l.filterMap fun i=>(ops[i]?).map (ES ρ))[k]?=some (ES ρ o):=by
  intro l
  induction l with
  |nil=>intro k _ h;simp at h
  |cons x l ih=>
   intro k hl h;obtain⟨ox,ZA⟩:=hl x (by simp);rw[B8];simp only[ZA,dM];cases k with
   |zero=>simp at h;subst h;rw[ho]at ZA;cases ZA;rfl
   |succ k=>simpa using ih k (fun y hy=>hl y (by simp[hy])) (by simpa using h)
 have:=key Y k hall hk;simpa[wq]using this
theorem VA(hB:OP ops Y ρ=true):(wq ops Y ρ).toArray.size=ops.size:=by
 have hB':=hB;simp only[OP,aS,bH]at hB;obtain⟨h1,h2,h3,h4,h5⟩:=hB;have hall:∀x∈Y,∃o,ops[x]?=some o:=by
  intro x hx;obtain⟨j,hj,rfl⟩:=jS.1 hx;have:=b8.1 h4 j (cT.2 (by omega));rw[av hj]at this;simp only[cr]at this;have:=(aN.1 this).1;exact⟨_,dB (by omega)⟩
 have key:∀(l:ah),(∀x∈l,∃o,ops[x]?=some o)->(l.filterMap fun i=>(ops[i]?).map (ES ρ)).length=l.length:=by
  intro l
  induction l with
  |nil=>intro _;rfl
  |cons x l ih=>
   intro hl;obtain⟨ox,ZA⟩:=hl x (by simp);rw[B8];simp only[ZA,dM,aQ,ih (fun y hy=>hl y (by simp[hy]))]
 rw[yd,wq,key Y hall,h1]
theorem a2Q{Q':Exit->Act->World->Prop}(hB:OP ops Y ρ=true):∀(fuel:Nat) (listed listed':Array Bool) (a:Act) (w:World),listed.size=ops.size->listed'.size=ops.size->(∀(k i:Nat),Y[k]?=some i->listed'.getD k false=listed.getD i false)->
 wpAny P .any (wq ops Y ρ).toArray Q' fuel listed' a w->wpAny P .any ops Q' fuel listed a w:=by
 have hB':=hB;simp only[OP,aS,bH]at hB';obtain⟨h1,h2,h3,h4,h5⟩:=hB';have to:∀i,i<ops.size->∃k,ρ[i]?=some k/\Y[k]?=some i/\k<ops.size:=by
  intro i hi;have:=b8.1 h3 i (cT.2 hi);split at this
  ·rename_i k hk;simp only[cr]at this;exact⟨k,hk,this,by have:=(aN.1 this).1;omega⟩
  ·cases this
 have back:∀k,k<ops.size->∃i,Y[k]?=some i/\ρ[i]?=some k/\i<ops.size:=by
  intro k hk;have:=b8.1 h4 k (cT.2 hk);split at this
  ·rename_i i hi;simp only[cr]at this;exact⟨i,hi,this,by have:=(aN.1 this).1;omega⟩
  ·cases this
 have rin:∀(i:Nat) o,ops[i]?=some o->(∀e∈o.after,e.on<ops.size)/\∀g,o.guard=some g->g.1<ops.size:=by
  intro i o ho;have hm:o∈ops.toList:=by rw[<-lC]at ho;exact aE ho
  have:=b8.1 h5 o hm;simp only[aS]at this;refine⟨fun e he=>by simpa using xo.1 this.1 e he,fun g hg=>?_⟩;have:=this.2;rw[hg]at this;simpa using this
 have rd:∀(listed listed':Array Bool),listed.size=ops.size->listed'.size=ops.size->(∀(k i:Nat),Y[k]?=some i->listed'.getD k false=listed.getD i false)->∀(k i:Nat),Y[k]?=some i->(i∈Region.ready .any ops listed↔k∈Region.ready .any (wq ops Y ρ).toArray listed'):=by
  intro listed listed' hs1 hs2 Vc k i hki;have hk:k<ops.size:=by have:=(aN.1 hki).1;omega
  obtain⟨i',hi',hr,hilt⟩:=back k hk;rw[hki]at hi';cases hi';have ho:ops[i]?=some ops[i]:=dB hilt;have ho':=Qe hB hki ho;have hon:∀e∈ops[i].after,listed'.getD (ρ.getD e.on 0) false=listed.getD e.on false:=by
   intro e he;obtain⟨k2,hk2,hk3,_⟩:=to e.on ((rin i _ ho).1 e he);rw[nL,hk2,wX];exact Vc k2 e.on hk3
  rw[mem_ready,mem_ready];constructor
  ·rintro⟨q1,o,q2,q3⟩;rw[ho]at q2;cases q2;refine⟨getD_in (by omega) (by rw[Vc k i hki];exact getD_both q1),_,ho',?_⟩;intro e he hb;simp only[ES,Array.mem_map]at he;obtain⟨e0,he0,rfl⟩:=he;simp only;rw[hon e0 he0];exact q3 e0 he0 hb
  ·rintro⟨q1,o,q2,q3⟩;rw[ho']at q2;cases q2;refine⟨getD_in (by omega) (by rw[<-Vc k i hki];exact getD_both q1),_,ho,?_⟩;intro e he hb;rw[<-hon e he];exact q3 {e with on:=ρ.getD e.on 0} (by simp only[ES,Array.mem_map];exact⟨e,he,rfl⟩) hb
 have lt:∀ {listed:Array Bool} {ops:Array Oper} {i:Nat},i∈Region.ready .any ops listed->i<ops.size:=by
  intro listed ops i hi;obtain⟨_,o,ho,_⟩:=mem_ready.1 hi;exact(bS.1 ho).1
 have a6u:∀(listed listed':Array Bool),listed.size=ops.size->listed'.size=ops.size->(∀(k i:Nat),Y[k]?=some i->listed'.getD k false=listed.getD i false)->(Region.ready .any ops listed=[]↔Region.ready .any (wq ops Y ρ).toArray listed'=[]):=by
  intro listed listed' hs1 hs2 Vc;constructor
  ·intro h;rw[k6];intro k hk;obtain⟨i,hi,_⟩:=back k (by have:=lt hk;rw[VA hB]at this;exact this);have:=(rd listed listed' hs1 hs2 Vc k i hi).2 hk;rw[h]at this;cases this
  ·intro h;rw[k6];intro i hi;obtain⟨k,_,hk,_⟩:=to i (lt hi);have:=(rd listed listed' hs1 hs2 Vc k i hk).1 hi;rw[h]at this;cases this
 intro fuel
 induction fuel with
 |zero=>
  intro listed listed' a w hs1 hs2 Vc h;exact⟨(a6u listed listed' hs1 hs2 Vc).2 h.1,h.2⟩
 |succ fuel ih=>
  intro listed listed' a w hs1 hs2 Vc h;refine⟨fun h0=>h.1 ((a6u listed listed' hs1 hs2 Vc).1 h0),fun i hi=>?_⟩;have hilt:=lt hi;obtain⟨k,hrk,hk,aI4⟩:=to i hilt;have hkr:=(rd listed listed' hs1 hs2 Vc k i hk).1 hi;have ho:ops[i]?=some ops[i]:=dB hilt;have ho':=Qe hB hk ho;have h2:=wpOp_mono (K':=wpAny P .any ops Q' fuel (listed.setIfInBounds i true)) (fun a' w' h'=>ih (listed.setIfInBounds i true) (listed'.setIfInBounds k true) a' w' (by simpa using hs1) (by simpa using hs2) (by
   intro k2 i2 a1B;by_cases e:k=k2
   ·subst e;rw[hk]at a1B;cases a1B;have g1:k<listed'.size:=by omega
    have g2:i<listed.size:=by omega
    simp[g1,g2]
   ·have e2:i≠i2:=by
     intro e3;subst e3;obtain⟨i',hi',hr',_⟩:=back k2 (by have:=(aN.1 a1B).1;omega);rw[a1B]at hi';cases hi';rw[hrk]at hr';cases hr';exact e rfl
    rw[getD_set_ne false e,getD_set_ne false e2];exact Vc k2 i2 a1B) h') (h.2 k hkr)
  have hw:Region.wanted (ES ρ ops[i]) (yielded (wq ops Y ρ).toArray a.tmps)=Region.wanted ops[i] (yielded ops a.tmps):=by
   cases hg:ops[i].guard with
   |none=>simp[Region.wanted,ES,hg]
   |some g=>
    obtain⟨j,want⟩:=g;have hj:=(rin i _ ho).2 _ hg;obtain⟨k3,aFR,hk3,_⟩:=to j hj;have BY:ops[j]?=some ops[j]:=dB hj;have aFL:=Qe hB hk3 BY;have:yielded (wq ops Y ρ).toArray a.tmps (ρ.getD j 0)=yielded ops a.tmps j:=by
     rw[nL,aFR,wX];unfold yielded;rw[aFL,BY];rfl
    simp only[Region.wanted,ES,hg,dM];rw[this]
  unfold wpOp at h2⊢;simp only[ho',ho]at h2⊢;rw[hw]at h2;split
  ·rename_i Xv;rw[bP Xv]at h2;exact h2.imp (a3d ρ) fun⟨q1,q2⟩=>⟨Vm ρ q1,q2⟩
  ·rename_i Xv;rw[bE Xv]at h2;exact h2
theorem D0.perm(hB:OP ops Y ρ=true)(h:D0 P Z (wq ops Y ρ).toArray Q st):D0 P Z ops Q st:=by
 intro κ Θ a w hs;have:=h κ Θ a w hs;rw[VA hB]at this;refine a2Q hB ops.size (Array.replicate ops.size false) (Array.replicate ops.size false) a w (by simp) (by simp) (fun k i _=>?_) this;rw[getD_replicate_false,getD_replicate_false]
end
end
def B3(P:Program)(nt:Nat)(all:Array Oper):List Oper->St->fp->Option (St×fp×Fp)
 | [],st,A=>(match shares A st with| (AB,A1)=>some (AB,A1,[]))
 |o::rest,st,A=>match o.guard with
  |none=>(match Jq P nt o st A with
   |some (AB,A1,p)=>(match B3 P nt all rest AB A1 with|some (PK,A2,q)=>some (PK,A2,p++q)|none=>none)
   |none=>none)
  |some (j,want)=>(match(all[j]?).bind (·.dst),A with
   |some s,.b v::A=>(match lk st.σ s with
    | .bool b=>(match v==want with
     |true=>(match Jq P nt {o with guard:=none} st A with
      |some (AB,A1,p)=>(match B3 P nt all rest AB A1 with|some (PK,A2,q)=>some (PK,A2,(b=v)::(p++q))|none=>none)
      |none=>none)
     |false=>(match o.dst with
      |some t=>(if t<nt then match B3 P nt all rest ⟨(t,.iw [])::st.σ,st.H⟩ A with|some (PK,A2,q)=>some (PK,A2,(b=v)::q)|none=>none else none)
      |none=>(match B3 P nt all rest st A with|some (PK,A2,q)=>some (PK,A2,(b=v)::q)|none=>none)))
    | .iw []=>(match o.dst with
     |some t=>(if t<nt then B3 P nt all rest ⟨(t,.iw [])::st.σ,st.H⟩ A else none)
     |none=>B3 P nt all rest st A)
    |_=>none)
   |_,_=>none)
def XZ(P:Program)(H:bz)(r:Nat)(σ:List (Nat×D))(o:Oper)(A:fp):Option (D×bz×fp×Fp):=match o.op with
 | .call c=>(match c.callee with
  | .value (.func f)=>(match Kx H (c.args.toList.map (St.ev ⟨σ,H⟩)),A with
   |some (ds,ms),.d d::A=>(if ms=[]\/d.TR=true then some ((tE r d).1,(tE r d).2,A,[Good P f ds d])else none)
   |some (ds,ms),.ds d::A=>(if d.a9A=true/\d.TR=true then some (d.shV,[],A,[Good P f ds d])else none)
   |_,.nl d::A=>(if(c.args.toList.map (St.ev ⟨σ,H⟩)).all OH=true then some ((tE r d).1,(tE r d).2,A,[Good P f (c.args.toList.map (St.ev ⟨σ,H⟩)) d])else none)
   |_,_=>none)
  |_=>(match Jb P ⟨σ,H⟩ o.op A with|some (d,A,ow)=>some (d,[],A,ow)|none=>none))
 | .alloc T=>(match tz P T with|some zs=>some (.ptr r 0,[.box zs],A,[])|none=>none)
 | .box _ x=>(match(St.ev ⟨σ,H⟩ x).cellsOf with|some ds=>some (.ptr r 0,[.box ds],A,[])|none=>none)
 | .buildSlice T len parts=>(match Mm P T with
  |some (e,sz)=>(match tz P e with
   |some zs=>(match Ad (vY len sz) (List.replicate len zs).flatten (parts.toList.map fun q=>(q.1,St.ev ⟨σ,H⟩ q.2))with
    |some ds=>(match A with
     | .vw _::A=>(if 0<sz/\len*sz<=16777216/\ds.all D.Up=true/\ds.all D.flat=true then some (.sl (chunk sz len ds),[],A,[])else none)
     |A=>(match LG H ds with
      |some (es,ms)=>(if 0<sz/\len*sz<=16777216/\ms=[]then some (.acc r,[.row (zu (Zx H e 0 ds)) e sz (chunk sz len es)],A,[])else none)
      |none=>none))
    |none=>none)
   |none=>none)
  |none=>none)
 |_=>(match Jb P ⟨σ,H⟩ o.op A with|some (d,A,ow)=>some (d,[],A,ow)|none=>none)
def A8(P:Program)(nt:Nat)(all:Array Oper)(H:bz):List Oper->List (Nat×D)->bz->ah->fp->Option (List (Nat×D)×bz×fp×Fp)
 | [],σ,acc,_,A=>some (σ,acc,A,[])
 |o::rest,σ,acc,U,A=>match o.dst with
  |none=>(match o.op,o.guard with
   | .store T x y,none=>(match St.ev ⟨σ,H⟩ x,(St.ev ⟨σ,H⟩ y).cellsOf with
    | .ptr id off,some ds=>(match acc[id-H.length]? with
     |some (.box zs)=>(if off=0/\H.length<=id/\id∉U/\Wz P T=true/\ds.length=Bp P T/\zs.length=ds.length then A8 P nt all H rest σ (acc.set (id-H.length) (.box ds)) (id::U) A else none)
     |_=>none)
    |_,_=>none)
   |_,_=>none)
  |some t=>(if t<nt then match o.guard with
   |none=>(match XZ P H (H.length+acc.length) σ o A with
    |some (d,obs,A1,p)=>(match A8 P nt all H rest ((t,d)::σ) (acc++obs) U A1 with|some (σ2,U7,A2,q)=>some (σ2,U7,A2,p++q)|none=>none)
    |none=>none)
   |some (j,want)=>(match(all[j]?).bind (·.dst),A with
    |some s,.b v::A=>(match lk σ s with
     | .bool b=>(match v==want with
      |true=>(match XZ P H (H.length+acc.length) σ o A with
       |some (d,obs,A1,p)=>(match A8 P nt all H rest ((t,d)::σ) (acc++obs) U A1 with|some (σ2,U7,A2,q)=>some (σ2,U7,A2,(b=v)::(p++q))|none=>none)
       |none=>none)
      |false=>(match A8 P nt all H rest ((t,.iw [])::σ) acc U A with|some (σ2,U7,A2,q)=>some (σ2,U7,A2,(b=v)::q)|none=>none))
     | .iw []=>A8 P nt all H rest ((t,.iw [])::σ) acc U A
     |_=>none)
    |_,_=>none)
   else none)
inductive Fr where
 |sq (c:Code)
 |bl (id:Nat)
 |lp
def depth:List Fr->Nat
 | []=>0
 | .lp::K=>depth K+1
 |_::K=>depth K
inductive Cfg where
 |run (c:Code)
 |nor
 |ex (id:Nat)
inductive Stop where
 |ret (d:D)
 |lp (c:Code) (K:List Fr) (st:St)
 |cont (k:Nat) (st:St)
 |at_ (c:Code) (K:List Fr) (st:St)
def a9E(P:Program)(rs:List ResultVar×List (List (Option (Nat×Nat))))(st:St):Option D:=match Jn P st rs.1 with
 |some ds=>(match CX st.H rs.2 ds with|some (es,ms,qs)=>(if ms.Nodup/\qs.Nodup/\(∀m∈qs,m∉ms)then some (Md es)else none)|none=>none)
 |none=>none
def aFB(A:fp)(m:Nat):Option (ah×ah):=match A with
 | .hl m' k o::_=>if m'=m then some (k,o)else none
 |_=>none
def SI(p:Fp)(x:Option (Stop×Fp)):Option (Stop×Fp):=match x with
 |some (s,q)=>some (s,p++q)
 |none=>none
def go(P:Program)(rf:St->Option D)(nt:Nat):Nat->Cfg->List Fr->St->fp->Option (Stop×Fp)
 |0,_,_,_,_=>none
 |n+1,.run c,K,st,A=>(match c with
  | .skip=>go P rf nt n .nor K st A
  | .ret=>(match rf st with|some d=>some (.ret d,[])|none=>none)
  | .exit id=>go P rf nt n (.ex id) K st A
  | .seq x y=>go P rf nt n (.run x) (.sq y::K) st A
  | .block id x=>go P rf nt n (.run x) (.bl id::K) st A
  | .loop x=>(match A with
   | .cn k o::_=>(if o.Nodup then some (.lp x K (st.FV k o),[])else none)
   | .pb id off e sz::A=>(match st.prom id off e sz with|some AB=>(match shares A AB with| (PK,A2)=>go P rf nt n (.run (.loop x)) K PK A2)|none=>none)
   |_=>none)
  | .cond x y z=>(match st.ev x,A with
   | .bool b,.b v::A=>SI [b=v] (go P rf nt n (.run (match v with|true=>y|false=>z)) K st A)
   |_,_=>none)
  | .region _ ops dr=>(match dr with
   |false=>(match B3 P nt ops ops.toList st A with|some (AB,A1,p)=>SI p (go P rf nt n .nor K AB A1)|none=>none)
   |true=>(match A with
    | .n k::A=>(match Kj ops k k []with
     |true=>(match A8 P nt ops st.H (ops.toList.take k) st.σ [] [] A with
      |some (σ1,acc,A1,p)=>(match B3 P nt ops (ops.toList.drop k) ⟨σ1,st.H++acc⟩ A1 with|some (PK,A2,q)=>SI (p++q) (go P rf nt n .nor K PK A2)|none=>none)
      |none=>none)
     |false=>none)
    | .n2 Y ρ k m L X::A=>(match OP ops Y ρ,wq ops Y ρ with
     |true,ops'=>(match Kj ops'.toArray k m L with
      |true=>(match A8 P nt ops'.toArray st.H (ops'.take k) st.σ [] [] A with
       |some (σ1,acc,A1,p)=>(match a3L X ⟨σ1,st.H⟩ ops' L,QV P nt X ((ops'.drop k).take (m-k)) ⟨σ1,st.H++acc⟩ A1 with
        |true,some (AB,A2,p2)=>(match B3 P nt ops'.toArray (ops'.drop m) AB A2 with|some (PK,A3,q)=>SI (p++(p2++q)) (go P rf nt n .nor K PK A3)|none=>none)
        |_,_=>none)
       |none=>none)
      |false=>none)
     |false,_=>none)
    |_=>none))
  |_=>none)
 |n+1,.nor,K,st,A=>(match K with
  | []=>(match rf st with|some d=>some (.ret d,[])|none=>none)
  | .sq y::K=>(match aFB A K.length with|some (k,o)=>(if o.Nodup then some (.at_ y K (st.FV k o),[])else none)|none=>go P rf nt n (.run y) K st A)
  | .bl _::K=>go P rf nt n .nor K st A
  | .lp::K=>(match A with| .cn k o::_=>(if o.Nodup then some (.cont (depth K) (st.FV k o),[])else none)|_=>none))
 |n+1,.ex id,K,st,A=>(match K with
  | []=>none
  | .sq _::K=>go P rf nt n (.ex id) K st A
  | .bl i::K=>(if id=i then go P rf nt n .nor K st A else go P rf nt n (.ex id) K st A)
  | .lp::K=>go P rf nt n (.ex id) K st A)
section
variable{P:Program}{Z:wV}{Q:Exit->St->Prop}{N:Nat->St->Prop}
def KQ(P:Program)(Z:wV)(N:Nat->St->Prop)(Q:Exit->St->Prop):List Fr->Exit->St->Prop
 | []=>Q
 | .sq y::K=>a3S (AW P Z y (KQ P Z N Q K)) (KQ P Z N Q K)
 | .bl id::K=>Sf id (KQ P Z N Q K)
 | .lp::K=>a3S (fun st=>∃k o,o.Nodup/\N (depth K) (st.FV k o)) (KQ P Z N Q K)
theorem a7v:∀(K:List Fr) {st:St},Q .ret st->KQ P Z N Q K .ret st:=by
 intro K
 induction K with
 |nil=>intro st h;exact h
 |cons f K ih=>intro st h;cases f<;>exact ih h
theorem U2{N':Nat->St->Prop}:∀(K:List Fr),(∀d,d<depth K->N d=N' d)->KQ P Z N Q K=KQ P Z N' Q K:=by
 intro K
 induction K with
 |nil=>intro _;rfl
 |cons f K ih=>
  intro h;cases f with
  |sq y=>simp only[KQ];rw[ih h]
  |bl id=>simp only[KQ];rw[ih h]
  |lp=>simp only[KQ];rw[ih (fun d hd=>h d (by simp only[depth];omega)),h (depth K) (by simp only[depth];omega)]
theorem Ba{nt:Nat}(hnt:Z.nt=nt){all:Array Oper}{PK:St}{A2:fp}:∀ {ops:List Oper} {st:St} {A:fp} {p:Fp},B3 P nt all ops st A=some (PK,A2,p)->Ao p->Q .normal PK->AO P Z all ops Q st:=by
 intro ops
 induction ops with
 |nil=>
  intro st A p h _ hq;simp only[B3]at h;cases hsh:shares A st with
  |mk AB A1=>
   rw[hsh]at h;simp only[bC,dG]at h;obtain⟨rfl,_,_⟩:=h;exact fun κ Θ a w hs=>wpList_nil ⟨_,_,_,hs.shares hsh,hq⟩
 |cons o rest ih=>
  intro st A p h hp hq;simp only[B3]at h;split at h
  ·rename_i hg;split at h
   ·rename_i AB A1 p1 h1;split at h
    ·rename_i a5x A2' q h2;cases h;exact SQ hnt hg h1 hp.app.1 (ih h2 hp.app.2 hq)
    ·cases h
   ·cases h
  ·rename_i j want hg;split at h
   ·rename_i s v A1 hj;split at h
    ·rename_i b hb;split at h
     ·rename_i hv;simp only[cr]at hv;subst hv;split at h
      ·rename_i AB A2' p1 h1;split at h
       ·rename_i a5x A3 q h2;cases h;refine PS (b:=b) hg hj hb ?_ (fun _=>SQ hnt rfl h1 hp.2.app.1 (ih h2 hp.2.app.2 hq)) (fun hne=>absurd hp.1 hne);intro t ht;exact a3K hnt h1 ht
       ·cases h
      ·cases h
     ·rename_i hv;split at h
      ·rename_i t hd;split at h
       ·rename_i ht;split at h
        ·rename_i a5x A3 q h2;cases h;refine PS (b:=b) hg hj hb (fun t' ht'=>?_) (fun e=>?_) (fun _=>?_)
         ·rw[hd]at ht';cases ht';rw[hnt];exact ht
         ·exfalso;have:=hp.1;simp only[dA,ne_eq]at hv;exact hv (this.symm.trans e)
         ·rw[hd];exact ih h2 hp.2 hq
        ·cases h
       ·cases h
      ·rename_i hd;split at h
       ·rename_i a5x A3 q h2;cases h;refine PS (b:=b) hg hj hb (fun t' ht'=>?_) (fun e=>?_) (fun _=>?_)
        ·rw[hd]at ht';cases ht'
        ·exfalso;have:=hp.1;simp only[dA,ne_eq]at hv;exact hv (this.symm.trans e)
        ·rw[hd];exact ih h2 hp.2 hq
       ·cases h
    ·rename_i hb;split at h
     ·rename_i t hd;split at h
      ·rename_i ht;refine RW hg hj hb (fun t' ht'=>?_) ?_
       ·rw[hd]at ht';cases ht';rw[hnt];exact ht
       ·rw[hd];exact ih h hp hq
      ·cases h
     ·rename_i hd;refine RW hg hj hb (fun t' ht'=>?_) ?_
      ·rw[hd]at ht';cases ht'
      ·rw[hd];exact ih h hp hq
    ·cases h
   ·cases h
theorem O6{H:bz}{r:Nat}{σ:List (Nat×D)}{o:Oper}{A A1:fp}{d:D}{obs:bz}{p:Fp}(t:Option Nat)(u:Option (Nat×Ob))(h:XZ P H r σ o A=some (d,obs,A1,p))(hp:Ao p):LC P H σ o ⟨t,d,r,obs,u⟩:=by
 have plain:∀ {x},(match Jb P ⟨σ,H⟩ x A with|some (d,A,ow)=>some (d,([]:bz),A,ow)|none=>none)=some (d,obs,A1,p)->pv P ⟨σ,H⟩ x=some d/\obs=[]:=by
  intro x h;split at h
  ·rename_i d' A' ow h1;cases h;exact⟨Ya h1 hp,rfl⟩
  ·cases h
 unfold XZ at h;split at h
 ·rename_i c hop;split at h
  ·rename_i f hc;split at h
   ·rename_i ds ms d' A' h1;split at h
    ·rename_i hsh;cases h;exact .inl (.inr ⟨f,_,_,ds,ms,d',hop.trans (congrArg Op.call (wD c hc rfl rfl)),.inl (by simpa using h1),hsh,hp.1,.inl rfl⟩)
    ·cases h
   ·rename_i ds ms d' A' h1;split at h
    ·rename_i CP;cases h;exact .inl (.inr ⟨f,_,_,ds,ms,d',hop.trans (congrArg Op.call (wD c hc rfl rfl)),.inl (by simpa using h1),.inr CP.2,hp.1,.inr ⟨CP.1,rfl,rfl⟩⟩)
    ·cases h
   ·rename_i d' A';split at h
    ·rename_i hk;cases h;exact .inl (.inr ⟨f,_,_,_,[],d',hop.trans (congrArg Op.call (wD c hc rfl rfl)),.inr ⟨by simpa using hk,by simp,rfl⟩,.inl rfl,hp.1,.inl rfl⟩)
    ·cases h
   ·cases h
  ·exact .inl (.inl (plain h))
 ·rename_i T hop;split at h
  ·rename_i zs hz;cases h;exact .inr (.inl (.inl ⟨T,zs,hop,hz,rfl,rfl⟩))
  ·cases h
 ·rename_i T x hop;split at h
  ·rename_i ds hc;cases h;exact .inr (.inl (.inr ⟨T,x,ds,hop,hc,rfl,rfl⟩))
  ·cases h
 ·rename_i T len parts hop;split at h
  ·rename_i e sz h1;split at h
   ·rename_i zs h2;split at h
    ·rename_i ds h3;split at h
     ·split at h
      ·rename_i hc;obtain⟨c1,c2,c3,c4⟩:=hc;cases h;exact .inr (.inr (.inr ⟨T,e,sz,len,parts,zs,ds,hop,h1,h2,c1,c2,h3,c3,c4,rfl,rfl⟩))
      ·cases h
     ·split at h
      ·rename_i es ms h4;split at h
       ·rename_i hc;obtain⟨c1,c2,rfl⟩:=hc;cases h;exact .inr (.inr (.inl ⟨T,e,sz,len,parts,zs,ds,es,hop,h1,h2,c1,c2,h3,h4,rfl,rfl⟩))
       ·cases h
      ·cases h
    ·cases h
   ·cases h
  ·cases h
 ·exact .inl (.inl (plain h))
theorem DM{nt:Nat}(hnt:Z.nt=nt){all:Array Oper}{H:bz}{K:List (Nat×D)->bz->Prop}{σ2:List (Nat×D)}{U7:bz}{A2:fp}:∀ {ops:List Oper} {σ:List (Nat×D)} {acc:bz} {U:ah} {A:fp} {p:Fp},
 A8 P nt all H ops σ acc U A=some (σ2,U7,A2,p)->Ao p->K σ2 U7->FR P Z all H K ops σ acc U:=by
 subst hnt;intro ops
 induction ops with
 |nil=>
  intro σ acc U A p h _ hK;simp only[A8,bC,dG]at h;obtain⟨rfl,rfl,_,_⟩:=h;exact hK
 |cons o rest ih=>
  intro σ acc U A p h hp hK;simp only[A8]at h;split at h
  ·rename_i hd;split at h
   ·rename_i T x y hop hg;split at h
    ·rename_i id off ds h1 h2;split at h
     ·rename_i zs h3;split at h
      ·rename_i hc;obtain⟨rfl,c2,c3,c4,c5,c6⟩:=hc;exact⟨⟨none,.any,H.length+acc.length,[],some (id,.box ds)⟩,rfl,.inr ⟨rfl,rfl,hd,hg,T,x,y,id,ds,hop,h1,c2,h2,c4,c5,rfl⟩,⟨c3,c2,zs,ds,h3,rfl,c6⟩,ih h hp hK⟩
      ·cases h
     ·cases h
    ·cases h
   ·cases h
  ·rename_i t hd;split at h
   ·rename_i ht;split at h
    ·rename_i hg;split at h
     ·rename_i d obs A1 p1 h1;split at h
      ·rename_i σ3 aAK A3 q h2;cases h;exact⟨⟨some t,d,H.length+acc.length,obs,none⟩,rfl,.inl ⟨t,rfl,rfl,hd,ht,.inl ⟨hg,O6 _ _ h1 hp.app.1⟩⟩,trivial,ih h2 hp.app.2 hK⟩
      ·cases h
     ·cases h
    ·rename_i j want hg;split at h
     ·rename_i s v A1 hj;split at h
      ·rename_i b hb;split at h
       ·rename_i hv;simp only[cr]at hv;subst hv;split at h
        ·rename_i d obs A2' p1 h1;split at h
         ·rename_i σ3 aAK A3 q h2;cases h;exact⟨⟨some t,d,H.length+acc.length,obs,none⟩,rfl,.inl ⟨t,rfl,rfl,hd,ht,.inr (.inl ⟨j,s,v,b,hg,hj,hb,.inl ⟨hp.1,O6 _ _ h1 hp.2.app.1⟩⟩)⟩,trivial,ih h2 hp.2.app.2 hK⟩
         ·cases h
        ·cases h
       ·rename_i hv;simp only[dA,ne_eq]at hv;split at h
        ·rename_i σ3 aAK A3 q h2;cases h;refine⟨⟨some t,.iw [],H.length+acc.length,[],none⟩,rfl,.inl ⟨t,rfl,rfl,hd,ht,.inr (.inl ⟨j,s,want,b,hg,hj,hb,.inr ⟨fun e=>hv (hp.1.symm.trans e),rfl,rfl⟩⟩)⟩,trivial,?_⟩;simp only[Cp.fill,dV];exact ih h2 hp.2 hK
        ·cases h
      ·rename_i hb;refine⟨⟨some t,.iw [],H.length+acc.length,[],none⟩,rfl,.inl ⟨t,rfl,rfl,hd,ht,.inr (.inr ⟨j,s,want,hg,hj,hb,rfl,rfl⟩)⟩,trivial,?_⟩;simp only[Cp.fill,dV];exact ih h hp hK
      ·cases h
     ·cases h
   ·cases h
def Vg(P:Program)(Z:wV)(N:Nat->St->Prop)(Q:Exit->St->Prop)(d0:D):Stop->Prop
 | .ret d=>d=d0
 | .lp c K st=>AW P Z (.loop c) (KQ P Z N Q K) st
 | .cont k st=>N k st
 | .at_ c K st=>AW P Z c (KQ P Z N Q K) st
theorem Ty{c:Code}{st:St}{k o:ah}(hnd:o.Nodup)(h:AW P Z c Q (st.FV k o)):AW P Z c Q st:=by
 intro κ Θ a w hs;obtain⟨κ',Θ',hs'⟩:=hs.FV k o hnd;exact h κ' Θ' a w hs'
theorem a9F{fn:Func}{st:St}{d:D}{e:Exit}(he:e=.ret\/e=.normal){nz:List (List (Option (Nat×Nat)))}(h:a9E P (fn.results.toList,nz) st=some d):SX P fn d e st:=by
 unfold a9E at h;split at h
 ·rename_i ds h1;split at h
  ·rename_i es ms qs h2;split at h
   ·rename_i hc;cases h;exact⟨he,nz,ds,es,ms,qs,h1,h2,hc.1,hc.2.1,hc.2.2,rfl⟩
   ·cases h
  ·cases h
 ·cases h
def aAE(P:Program)(Z:wV)(N:Nat->St->Prop)(Q:Exit->St->Prop)(K:List Fr)(st:St):Cfg->Prop
 | .run c=>AW P Z c (KQ P Z N Q K) st
 | .nor=>KQ P Z N Q K .normal st
 | .ex id=>KQ P Z N Q K (.exit id) st
theorem Cd{p q:Fp}{x:Option (Stop×Fp)}{s:Stop}(h:SI p x=some (s,q)):∃q',x=some (s,q')/\q=p++q':=by
 unfold SI at h;split at h
 ·cases h;exact⟨_,rfl,rfl⟩
 ·cases h
theorem go_sound{rf:St->Option D}{d0:D}(hrf:∀st e,(e=.ret\/e=.normal)->rf st=some d0->Q e st){nt:Nat}(hnt:Z.nt=nt)(hm:P.follows .mixedOrders=true):∀ {n:Nat} {cfg:Cfg} {K:List Fr} {st:St} {A:fp} {s:Stop} {p:Fp},go P rf nt n cfg K st A=some (s,p)->Ao p->Vg P Z N Q d0 s->aAE P Z N Q K st cfg:=by
 intro n
 induction n with
 |zero=>intro cfg K st A s p h;simp[go]at h
 |succ n ih=>
  intro cfg K st A s p h hp hs;cases cfg with
  |run c=>
   show AW P Z c (KQ P Z N Q K) st;cases c with
   |skip=>simp only[go]at h;exact a4F (ih h hp hs)
   |ret=>
    simp only[go]at h;split at h
    ·rename_i d hd;simp only[bC,dG]at h;obtain⟨rfl,_⟩:=h;have hd0:d=d0:=hs;subst hd0;exact a7u (a7v K (hrf st _ (.inl rfl) hd))
    ·cases h
   |exit id=>simp only[go]at h;exact a4D (ih h hp hs)
   |seq x y=>simp only[go]at h;exact a0T (ih h hp hs)
   |block id x=>simp only[go]at h;exact a0S (ih h hp hs)
   |loop x=>
    simp only[go]at h;split at h
    ·split at h
     ·rename_i hnd;simp only[bC,dG]at h;obtain⟨rfl,_⟩:=h;exact Ty hnd hs
     ·cases h
    ·split at h
     ·rename_i A0 x0 AB hst;intro κ Θ a w aFV;obtain⟨κ',hs'⟩:=aFV.prom hst;exact(ih h hp hs:AW P Z (.loop x) (KQ P Z N Q K) (shares A0 AB).1) κ' Θ a w (hs'.shares (rfl:shares A0 AB=((shares A0 AB).1,(shares A0 AB).2)))
     ·cases h
    ·cases h
   |cond x y z=>
    simp only[go]at h;split at h
    ·rename_i b v A1 hx;obtain⟨q,h1,rfl⟩:=Cd h;obtain⟨hb,hp'⟩:=hp;subst hb;refine a4B hx (fun e=>?_) (fun e=>?_)
     ·subst e;exact ih h1 hp' hs
     ·subst e;exact ih h1 hp' hs
    ·cases h
   |region id ops dr=>
    simp only[go]at h;cases dr with
    |false=>
     simp only at h;split at h
     ·rename_i AB A1 p1 h1;obtain⟨q,h2,rfl⟩:=Cd h;have:=Ba (Q:=KQ P Z N Q K) hnt h1 hp.app.1 (ih h2 hp.app.2 hs);have hr:=Yg (id:=id) (l:=ops.toList) (by simpa using this);simpa using hr
     ·cases h
    |true=>
     simp only at h;split at h
     ·rename_i k A1;split at h
      ·rename_i hB;split at h
       ·rename_i σ1 acc A2 p1 h1;split at h
        ·rename_i PK A3 p2 h2;obtain⟨q,h3,rfl⟩:=Cd h;have hq:=hp.app.1.app;have h4:=Ba (Q:=KQ P Z N Q K) hnt h2 hq.2 (ih h3 hp.app.2 hs);have h5:=DM (Z:=Z) (K:=fun σ acc=>AO P Z ops (ops.toList.drop k) (KQ P Z N Q K) ⟨σ,st.H++acc⟩) hnt h1 hq.1 h4;have hr:=a4C (id:=id) (l:=ops.toList) (Q:=KQ P Z N Q K) (st:=st) k hm (by simpa using hB) (by simpa using h5);simpa using hr
        ·cases h
       ·cases h
      ·cases h
     ·rename_i Y ρ k m L X A1;split at h
      ·rename_i ops' hB1;generalize a8T:wq ops Y ρ=ops' at h;split at h
       ·rename_i hB;split at h
        ·rename_i σ1 acc A2 p1 h1;split at h
         ·rename_i AB A3 p2 hst hmid;split at h
          ·rename_i PK A4 p3 h2;obtain⟨q,h3,rfl⟩:=Cd h;have hq:=hp.app.1.app;have Dk:=hq.2.app;have h4:=Ba (Q:=KQ P Z N Q K) hnt h2 Dk.2 (ih h3 hp.app.2 hs);have h6:=MT (Z:=Z) (K:=fun xO=>AO P Z ops'.toArray (ops'.drop m) (KQ P Z N Q K) xO) hnt hmid Dk.1 h4;have h5:=DM (Z:=Z) (K:=fun σ acc=>(∀i∈L,∀o,ops'[i]?=some o->DF X ⟨σ,st.H⟩ o.op=true)/\Yd P Z X (fun xO=>AO P Z ops'.toArray (ops'.drop m) (KQ P Z N Q K) xO) ((ops'.drop k).take (m-k)) ⟨σ,st.H++acc⟩) hnt h1 hq.1 ⟨SA hst,h6⟩;have hr:=N7 (l:=ops') (Q:=KQ P Z N Q K) (st:=st) k m L hB h5;rw[<-a8T]at hr;exact(hr.perm hB1).aw hm
          ·cases h
         ·cases h
        ·cases h
       ·cases h
      ·cases h
     ·cases h
   |_=>simp[go]at h
  |nor=>
   show KQ P Z N Q K .normal st;simp only[go]at h;split at h
   ·split at h
    ·rename_i d hd;simp only[bC,dG]at h;obtain⟨rfl,_⟩:=h;have hd0:d=d0:=hs;subst hd0;exact hrf st _ (.inr rfl) hd
    ·cases h
   ·split at h
    ·split at h
     ·rename_i hnd;simp only[bC,dG]at h;obtain⟨rfl,_⟩:=h;exact Ty hnd hs
     ·cases h
    ·exact ih (cfg:=.run _) h hp hs
   ·exact ih (cfg:=.nor) h hp hs
   ·split at h
    ·split at h
     ·rename_i k o _ hnd;simp only[bC,dG]at h;obtain⟨rfl,_⟩:=h;exact⟨k,o,hnd,hs⟩
     ·cases h
    ·cases h
  |ex id=>
   show KQ P Z N Q K (.exit id) st;simp only[go]at h;split at h
   ·cases h
   ·exact ih (cfg:=.ex id) h hp hs
   ·rename_i i K;simp only[KQ,Sf];split at h
    ·rename_i e;rw[bP e];exact ih (cfg:=.nor) h hp hs
    ·rename_i e;rw[bE e];exact ih (cfg:=.ex id) h hp hs
   ·exact ih (cfg:=.ex id) h hp hs
def dig:Code->ah->List Fr->Code×List Fr
 |c,[],K=>(c,K)
 | .seq x y,i::p,K=>(match i with|0=>dig x p (.sq y::K)|_=>dig y p K)
 | .block id c,_::p,K=>dig c p (.bl id::K)
 | .cond _ x y,i::p,K=>(match i with|0=>dig x p K|_=>dig y p K)
 | .loop c,_::p,K=>dig c p (.lp::K)
 |c,_::_,K=>(c,K)
def a7L(P:Program)(rs:List ResultVar×List (List (Option (Nat×Nat))))(st:St):Option D:=match Jn P st rs.1,(st.H[0]?:Option Ob)with
 |some ds,some (Ob.CW cells v)=>(match CX st.H rs.2 (.agg cells::ds)with
  |some (.agg cells'::es,ms,qs)=>(if ms.Nodup/\qs.Nodup/\(∀m∈qs,m∉ms)then some (.iw [Md es,.agg cells',.val v])else none)
  |_=>none)
 |_,_=>none
def a7K(P:Program)(rs:List ResultVar)(st:St):Option D:=match Jn P st rs with
 |some [.ptr j 0]=>(match st.H[j]? with|some (.box cells)=>(if cells.all D.Up=true then some (.agg cells)else none)|_=>none)
 |_=>none
inductive Kd where
 |q (nz:List (List (Option (Nat×Nat)))) (d:D)
 |p (nz:List (List (Option (Nat×Nat)))) (v:Value) (cells:aR) (d:D)
 |n (cells:aR)
def Kd.rf(P:Program)(fn:Func)(k:Kd)(st:St):Option D:=match k with
 | .q nz _=>a9E P (fn.results.toList,nz) st
 | .p nz _ _ _=>a7L P (fn.results.toList,nz) st
 | .n _=>a7K P fn.results.toList st
def Kd.d0:Kd->D
 | .q _ d=>d
 | .p _ v cells d=>.iw [d,.agg cells,.val v]
 | .n cells=>.agg cells
def Kd.qq(P:Program)(fn:Func):Kd->Exit->St->Prop
 | .q _ d=>SX P fn d
 | .p _ v cells d=>a0Z P fn v cells d
 | .n cells=>aAI P fn cells
theorem Kd.ok{fn:Func}(k:Kd){st:St}{e:Exit}(he:e=.ret\/e=.normal)(h:k.rf P fn st=some k.d0):k.qq P fn e st:=by
 cases k with
 |q nz d=>exact a9F he h
 |p nz v cells d=>
  simp only[Kd.rf,a7L,Kd.d0]at h;split at h
  ·rename_i ds Sg v' h1 h2;split at h
   ·rename_i cells' es ms qs h3;split at h
    ·rename_i hc;simp only[bC,D.iw.injEq,List.cons.injEq,D.agg.injEq,D.val.injEq,and_true]at h;obtain⟨rfl,rfl,rfl⟩:=h;exact⟨he,_,_,_,_,_,_,h1,h2,h3,hc.1,hc.2.1,hc.2.2,rfl⟩
    ·cases h
   ·cases h
  ·cases h
 |n cells=>
  simp only[Kd.rf,a7K,Kd.d0]at h;split at h
  ·rename_i j h1;split at h
   ·rename_i cells' h2;split at h
    ·rename_i hc;simp only[bC,D.agg.injEq]at h;subst h;exact⟨he,j,h1,h2,hc⟩
    ·cases h
   ·cases h
  ·cases h
theorem PT{fn:Func}{k:Kd}{nt n:Nat}{c:Code}{K:List Fr}{st:St}(A:fp)(s:Stop){p:Fp}(hnt:Z.nt=nt)(hm:P.follows .mixedOrders=true)(h:go P (k.rf P fn) nt n (.run c) K st A=some (s,p))(hp:Ao p)
 (hs:Vg P Z N (k.qq P fn) k.d0 s):AW P Z c (KQ P Z N (k.qq P fn) K) st:=go_sound (Q:=k.qq P fn) (N:=N) (K:=K) (st:=st) (d0:=k.d0) (cfg:=.run c) (fun _ _ he h=>k.ok he h) hnt hm h hp hs
def XD(P:Program)(Z:wV)(c:Code)(Q:Exit->St->Prop)(n:Nat)(st:St):Prop:=
 ∀κ Θ a w,fE Z st κ Θ a w->Code.rounds P c (fun e a' w'=>∃xO κ' Θ',fE Z xO κ' Θ' a' w'/\Q e xO) n a w
theorem a4E{c:Code}{n:Nat}{st:St}(h:XD P Z c Q n st):AW P Z (.loop c) Q st:=fun κ Θ a w hs=>wp_loop_rounds n (h κ Θ a w hs)
theorem aT{c:Code}{K:List Fr}{n:Nat}{st:St}
 (h:∀N',(∀d,d<depth K->N' d=N d)->N' (depth K)=XD P Z c (KQ P Z N Q K) n->AW P Z c (KQ P Z N' Q (.lp::K)) st):XD P Z c (KQ P Z N Q K) (n+1) st:=by
 intro κ Θ a w hs;have:=h (fun d=>if d<depth K then N d else XD P Z c (KQ P Z N Q K) n) (fun d hd=>bP hd) (bE (by omega));simp only[KQ]at this;rw[bE (by omega)]at this;rw[<-U2 (N:=N) (N':=fun d=>if d<depth K then N d else XD P Z c (KQ P Z N Q K) n) K (fun d hd=>(bP hd).symm)]at this;rw[rounds_succ];refine wp_mono (this κ Θ a w hs) ?_;rintro e a' w' ⟨xO,κ',Θ',hs',hq⟩;cases e with
 |normal=>
  obtain⟨k,o,hnd,hR'⟩:=hq;obtain⟨κ2,Θ2,hs2⟩:=hs'.FV k o hnd;exact hR' κ2 Θ2 a' w' hs2
 |exit id=>exact⟨_,_,_,hs',hq⟩
 |goto l=>exact⟨_,_,_,hs',hq⟩
 |ret=>exact⟨_,_,_,hs',hq⟩
 |panic c=>exact⟨_,_,_,hs',hq⟩
 |outgrown=>exact⟨_,_,_,hs',hq⟩
end
theorem aK{G:Type}{c:Bool}{x y:Option G}{r:G}(h:(bif c then x else y)=some r):(c=true/\x=some r)\/(c=false/\y=some r):=by
 cases c
 ·exact .inr ⟨rfl,h⟩
 ·exact .inl ⟨rfl,h⟩
theorem bf{G:Type}{c:Bool}{x:Option G}{r:G}(h:(bif c then x else none)=some r):c=true/\x=some r:=by
 cases c
 ·cases h
 ·exact⟨rfl,h⟩
theorem aG{G E:Type}{x:Option G}{f:G->Option E}{r:E}(h:x.bind f=some r):∃y,x=some y/\f y=some r:=by
 cases x with
 |none=>cases h
 |some y=>exact⟨y,rfl,h⟩
theorem bR{G E I:Type}{a:Option G}{b:G->Option E}{c:G->E->Option I}{r:I}(h:(a.bind fun x=>(b x).bind fun y=>c x y)=some r):∃x,a=some x/\∃y,b x=some y/\c x y=some r:=by
 obtain⟨x,p,h⟩:=aG h;obtain⟨y,q,h⟩:=aG h;exact⟨x,p,y,q,h⟩
theorem gW{G E I J:Type}{a:Option G}{b:G->Option E}{c:G->E->Option I}{d:G->E->I->Option J}{r:J}(h:(a.bind fun x=>(b x).bind fun y=>(c x y).bind fun z=>d x y z)=some r):∃x,a=some x/\∃y,b x=some y/\∃z,c x y=some z/\d x y z=some r:=by
 obtain⟨x,p,h⟩:=aG h;exact⟨x,p,bR h⟩
theorem Bj{G E I J O:Type}{a:Option G}{b:G->Option E}{c:G->E->Option I}{d:G->E->I->Option J}{e:G->E->I->J->Option O}{r:O}(h:(a.bind fun x=>(b x).bind fun y=>(c x y).bind fun z=>(d x y z).bind fun u=>e x y z u)=some r):∃x,a=some x/\∃y,b x=some y/\∃z,c x y=some z/\∃u,d x y z=some u/\e x y z u=some r:=by
 obtain⟨x,p,h⟩:=aG h;exact⟨x,p,gW h⟩
theorem Ys{G E I J O ζ:Type}{a:Option G}{b:G->Option E}{c:G->E->Option I}{d:G->E->I->Option J}{e:G->E->I->J->Option O}{f:G->E->I->J->O->Option ζ}{r:ζ}(h:(a.bind fun x=>(b x).bind fun y=>(c x y).bind fun z=>(d x y z).bind fun u=>(e x y z u).bind fun v=>f x y z u v)=some r):∃x,a=some x/\∃y,b x=some y/\∃z,c x y=some z/\∃u,d x y z=some u/\∃v,e x y z u=some v/\f x y z u v=some r:=by
 obtain⟨x,p,h⟩:=aG h;exact⟨x,p,Bj h⟩
theorem aM{G:Type}{x y:G}(h:some x=some y):x=y:=by cases h;rfl
theorem ow{p:Prop}{ps:Fp}(h:p)(t:Ao ps):Ao (p::ps):=⟨h,t⟩
def fy{G:Type}(l:List G)(i:Int):Option G:=bif decide (0<=i)then l[i.toNat]? else none
theorem XV{G E:Type}{l:List G}{i:Int}{x:G}(f:G->E)(h:fy l i=some x):0<=i/\(l.map f)[i.toNat]?=some (f x):=by
 unfold fy at h;cases hd:decide (0<=i)with
 |false=>rw[hd]at h;cases h
 |true=>rw[hd]at h;simp only[aF]at h;exact⟨by simpa using hd,by rw[cR,h];rfl⟩
theorem a81{l:Bytes}{i:Int}{x:UInt8}(h:fy l i=some x):0<=i/\l[i.toNat]?=some x:=by
 unfold fy at h;cases hd:decide (0<=i)with
 |false=>rw[hd]at h;cases h
 |true=>rw[hd]at h;exact⟨by simpa using hd,h⟩
def fuel:Nat:=4194304
theorem dW{G:Type}{l:List G}{i:Int}{x:G}(f:G->aR)(n:Nat)(h:fy l i=some x)(hn:(f x).length=n):0<=i/\(l.map f)[i.toNat]?=some (f x)/\(f x).length=n:=⟨(XV f h).1,(XV f h).2,hn⟩
theorem Wd{i n:Nat}(sz:Nat)(h:decide (i<n)=true):sz=sz/\(i:Int)=((i:Nat):Int)/\i<n:=⟨rfl,rfl,bh h⟩
theorem fG{G:Type}{l:List G}{i:Nat}{x:G}(f:G->aR)(sz:Nat)(h:l[i]?=some x):sz=sz/\(i:Int)=((i:Nat):Int)/\i<(l.map f).length:=⟨rfl,rfl,by rw[aj];exact(aN.1 h).1⟩
theorem fH{G:Type}{l:List G}{i:Int}{x:G}(f:G->aR)(sz:Nat)(h:fy l i=some x):sz=sz/\i=((i.toNat:Nat):Int)/\i.toNat<(l.map f).length:=by
 obtain⟨h0,h1⟩:=XV f h;exact⟨rfl,by omega,(aN.1 h1).1⟩
theorem dl{G:Type}{l:List G}{i:Int}{x:G}(h:fy l i=some x):l[i.toNat]?=some x:=by
 have:=(XV (fun y=>y) h).2;simpa using this
theorem TU{x y:Int}(k:IntKind)(h:(decide (0<=x)&&decide (0<y))=true):k=k/\0<=x/\0<y:=by simpa using h
def room(n b:Nat):Bool:=decide (n<=maxLen)&&decide (n*b<=140737488355328)
theorem cA{n b:Nat}(h:room n b=true):n<=maxLen/\n*b<=140737488355328:=by
 simp only[room,aS,bH]at h;exact h
theorem a1P{k n:Nat}(h:k<n)(hn:n<=maxLen):IntKind.i64.wrap ((k:Int)+1)=((k+1:Nat):Int):=by
 unfold maxLen at hn;rw[eC (qu.i64.2 (by omega))];omega
theorem a5N{k n:Nat}(h:k<n):decide ((k:Int)<(n:Int))=true:=by simp[h]
theorem a1x{k n:Nat}(h:n<=k):decide ((k:Int)<(n:Int))=false:=by simp;omega
theorem drop_cons{G:Type}{l:List G}{k:Nat}{x:G}{xs:List G}(h:l.drop k=x::xs):l[k]?=some x/\k<l.length/\l.drop (k+1)=xs:=by
 have h1:l[k]?=some x:=by
  have:=congrArg (fun m:List G=>m[0]?) h;simpa[gO]using this
 refine⟨h1,(aN.1 h1).1,?_⟩;rw[<-jR,h];rfl
theorem drop_nil{G:Type}{l:List G}{k:Nat}(h:l.drop k=[]):l.length<=k:=by simpa using h
theorem a1z{G E:Type}{l:List G}{k:Nat}{x:G}(f:G->E)(h:l[k]?=some x):0<=(k:Int)/\(l.map f)[(k:Int).toNat]?=some (f x):=⟨by omega,by simp[h]⟩
theorem bK{G:Type}{l:List G}{k:Nat}{x:G}(f:G->aR)(n:Nat)(h:l[k]?=some x)(hn:(f x).length=n):0<=(k:Int)/\(l.map f)[(k:Int).toNat]?=some (f x)/\(f x).length=n:=⟨(a1z f h).1,(a1z f h).2,hn⟩
theorem a1y{G E:Type}{l:List G}{k:Nat}(f:G->E)(h:k<l.length):decide ((k:Int)<((l.map f).length:Int))=true:=by rw[aj];exact a5N h
theorem ZM{G E:Type}{l:List G}{k:Nat}(f:G->E)(h:l.length<=k):decide ((k:Int)<((l.map f).length:Int))=false:=by rw[aj];exact a1x h
theorem cL{G E:Type}{l:List G}{k:Nat}{x:G}(f:G->E)(h:l[k]?=some x):(l.map f)[k]?=some (f x):=by rw[cR,h];rfl
def MQ{G E:Type}[BEq G](z:E)(k:G):List (G×E)->E
 | []=>z
 |p::r=>bif k==p.1 then p.2 else MQ z k r
def a5O{G E:Type}[BEq G](k:G):List (G×E)->Bool
 | []=>false
 |p::r=>bif k==p.1 then true else a5O k r
def QN{G E:Type}[BEq G](k:G)(v:E):List (G×E)->List (G×E)
 | []=>[(k,v)]
 |p::r=>bif k==p.1 then(k,v)::r else p::QN k v r
def eB(b:Bool):D:=.bool b
def kS{E:Type}(e:E->D)(p:Bytes×E):D×D:=(.str p.1,e p.2)
theorem Xj{E:Type}{e:E->D}(z:E)(k:Bytes):∀(m:List (Bytes×E)),(I3 (.str k) (m.map (kS e))=some none/\a5O k m=false/\MQ z k m=z)\/(I3 (.str k) (m.map (kS e))=some (some (e (MQ z k m)))/\a5O k m=true)
 | []=>.inl ⟨rfl,rfl,rfl⟩
 |p::r=>by
  simp only[bA,I3,kS,keq,a5O,MQ];cases hb:k==p.1 with
  |true=>exact .inr ⟨rfl,rfl⟩
  |false=>exact Xj z k r
theorem aBa{P:Program}{T:TypeId}{E:Type}{e:E->D}{z:E}{k:Bytes}{m:List (Bytes×E)}(hT:Zr P T=some (.string,e z)):plk P T (m.map (kS e)) (.str k) false=some (e (MQ z k m)):=by
 unfold plk;rw[hT];rcases Xj (e:=e) z k m with⟨h1,_,h3⟩|⟨h1,_⟩
 ·simp only[Ko,h1,h3,aL]
 ·simp only[Ko,h1,aL]
theorem a2U{E:Type}{e:E->D}{k:Bytes}{v:E}:∀ {m:List (Bytes×E)},MO (.str k) (e v) (m.map (kS e))=some ((QN k v m).map (kS e))
 | []=>rfl
 |p::r=>by
  simp only[bA,MO,QN];have hq:keq (.str k) (kS e p).1=some (k==p.1):=rfl;rw[hq];cases hb:k==p.1 with
  |true=>rfl
  |false=>simp only[a2U (m:=r),dM,aL,bA]
abbrev uW:=List Fr
section
variable{P:Program}{Z:wV}{Q:Exit->St->Prop}{st:St}{a:Act}{w:World}
def RC(x:Nat)(o:Oper):Oper:= {o with after:=o.after.push ⟨x,.data⟩}
def RA(x:Nat):Nat->List Oper->List Oper
 |_,[]=>[]
 |0,o::l=>RC x o::l
 |y+1,o::l=>o::RA x y l
def N6(x y:Nat)(ops:Array Oper):Array Oper:=(RA x y ops.toList).toArray
theorem U8(x:Nat):∀(l:List Oper) (y i:Nat),(RA x y l)[i]?=if i=y then(l[i]?).map (RC x)else l[i]?
 | [],y,i=>by simp[RA]
 |o::l,0,0=>by simp[RA]
 |o::l,0,i+1=>by simp[RA]
 |o::l,y+1,0=>by simp[RA]
 |o::l,y+1,i+1=>by simp[RA,U8 x l y i]
theorem Gk(x y:Nat)(ops:Array Oper)(i:Nat):(N6 x y ops)[i]?=if i=y then(ops[i]?).map (RC x)else ops[i]?:=by
 unfold N6;rw[lD,U8,lC]
theorem U9(x:Nat):∀(l:List Oper) (y:Nat),(RA x y l).length=l.length
 | [],y=>by cases y<;>rfl
 |_::_,0=>rfl
 |_::l,y+1=>by simp[RA,U9 x l y]
theorem Yk(x y:Nat)(ops:Array Oper):(N6 x y ops).size=ops.size:=by unfold N6;simp[U9]
theorem Ro(x:Nat)(o:Oper)(f:Operand->Value):execOp f (RC x o)=execOp f o:=by
 cases o;rfl
theorem a67(x:Nat){o:Oper}{K:Act->World->Prop}{Q':Exit->Act->World->Prop}(h:(RC x o).wp P a w K Q'):o.wp P a w K Q':=by
 unfold Oper.wp at*;rw[Ro]at h;exact h
theorem Yo(x:Nat){o:Oper}(h:(RC x o).asks P a w):o.asks P a w:=by
 unfold Oper.asks at*;rw[Ro]at h;exact h
theorem Ts(x y:Nat)(ops:Array Oper)(t:Array Value):yielded (N6 x y ops) t=yielded ops t:=by
 funext j
 unfold yielded;rw[Gk];by_cases e:j=y
 ·rw[bP e];cases ops[j]?<;>rfl
 ·rw[bE e]
theorem O3{x y i:Nat}{ops:Array Oper}{K:Act->World->Prop}{Q':Exit->Act->World->Prop}(h:wpOp P (N6 x y ops) Q' i K a w):wpOp P ops Q' i K a w:=by
 unfold wpOp at*;rw[Gk,Ts]at h;by_cases e:i=y
 ·rw[bP e]at h;cases ho:ops[i]? with
  |none=>simpa[ho]using h
  |some o=>
   simp only[ho,dM]at h⊢;have hw:Region.wanted (RC x o) (yielded ops a.tmps)=Region.wanted o (yielded ops a.tmps):=rfl;rw[hw]at h;split
   ·rename_i hq;rw[bP hq]at h;exact h.imp (a67 x) fun⟨q1,q2⟩=>⟨Yo x q1,q2⟩
   ·rename_i hq;rw[bE hq]at h;exact h
 ·rw[bE e]at h;exact h
theorem Zh{x y i:Nat}{ops:Array Oper}{listed:Array Bool}(h:i∈Region.ready .any (N6 x y ops) listed):i∈Region.ready .any ops listed:=by
 obtain⟨h1,o,h2,h3⟩:=mem_ready.1 h;rw[Gk]at h2;by_cases e:i=y
 ·rw[bP e]at h2;cases ho:ops[i]? with
  |none=>rw[ho]at h2;cases h2
  |some o'=>
   rw[ho]at h2;cases h2;exact mem_ready.2 ⟨h1,o',ho,fun e he hb=>h3 e (by simp only[RC,Array.mem_push];exact .inl he) hb⟩
 ·rw[bE e]at h2;exact mem_ready.2 ⟨h1,o,h2,h3⟩
theorem Bn{x y i:Nat}{ops:Array Oper}{listed:Array Bool}(h:i∈Region.ready .any ops listed)(hy:i≠y\/listed.getD x false=true):i∈Region.ready .any (N6 x y ops) listed:=by
 obtain⟨h1,o,h2,h3⟩:=mem_ready.1 h;by_cases e:i=y
 ·refine mem_ready.2 ⟨h1,RC x o,by rw[Gk,bP e,h2];rfl,fun e' he hb=>?_⟩;simp only[RC,Array.mem_push]at he;rcases he with he|rfl
  ·exact h3 e' he hb
  ·rcases hy with hy|hy
   ·exact absurd e hy
   ·exact hy
 ·exact mem_ready.2 ⟨h1,o,by rw[Gk,bE e];exact h2,h3⟩
theorem Qg{x y:Nat}{ops:Array Oper}{listed:Array Bool}(h:Region.ready .any ops listed=[]):Region.ready .any (N6 x y ops) listed=[]:=by
 rw[k6]at*;exact fun i hi=>h i (Zh hi)
theorem WU{listed:Array Bool}{i x:Nat}(h:listed.getD x false=true):(listed.setIfInBounds i true).getD x false=true:=by
 by_cases e:i=x
 ·subst e;have:i<listed.size:=by
   rcases gj i listed.size with h1|h1
   ·exact h1
   ·simp[h1]at h
  simp[this]
 ·rw[getD_set_ne false e];exact h
theorem wpAny_done{x y:Nat}{ops:Array Oper}{Q':Exit->Act->World->Prop}:∀(fuel:Nat) (listed:Array Bool) (a:Act) (w:World),listed.getD x false=true->wpAny P .any (N6 x y ops) Q' fuel listed a w->wpAny P .any ops Q' fuel listed a w
 |0,listed,a,w,hx,h=>by
  refine⟨?_,h.2⟩;rw[k6];intro i hi;have:=Bn (y:=y) hi (.inr hx);rw[h.1]at this;cases this
 |fuel+1,listed,a,w,hx,h=>by
  refine⟨fun h0=>h.1 (Qg h0),fun i hi=>?_⟩;exact O3 (wpOp_mono (fun a' w' h'=>wpAny_done fuel _ a' w' (WU hx) h') (h.2 i (Bn hi (.inr hx))))
def a7y(P:Program)(o:Oper)(f:Operand->Value):Prop:=(∃v,∀w,(execOp f o).run P w=.ok (.value v) w)\/∀w,∃x w',(execOp f o).run P w=.halt x w'
theorem run_lift{s:Sem Value}(h:(∃v,∀w,s.run P w=.ok v w)\/∀w,∃x w',s.run P w=.halt x w'):(∃v,∀w,(do pure (.value (<-s)):Sem Next).run P w=.ok (.value v) w)\/∀w,∃x w',(do pure (.value (<-s)):Sem Next).run P w=.halt x w':=by
 rcases h with⟨v,h⟩|h
 ·exact .inl ⟨v,fun w=>by simp[Sem.run_bind,h w]⟩
 ·refine .inr fun w=>?_
  obtain⟨x,w',h⟩:=h w;exact⟨x,w',by simp[Sem.run_bind,h]⟩
theorem Qk{G E:Type}{s:Sem G}{k:G->Sem E}(h:(∃v,∀w,s.run P w=.ok v w)\/∀w,∃x w',s.run P w=.halt x w')(hk:∀v,(∃r,∀w,(k v).run P w=.ok r w)\/∀w,∃x w',(k v).run P w=.halt x w'):(∃v,∀w,(s>>= k).run P w=.ok v w)\/∀w,∃x w',(s>>= k).run P w=.halt x w':=by
 rcases h with⟨v,h⟩|h
 ·rcases hk v with⟨r,hr⟩|hr
  ·exact .inl ⟨r,fun w=>by simp[Sem.run_bind,h w,hr w]⟩
  ·refine .inr fun w=>?_
   obtain⟨x,w',hr⟩:=hr w;exact⟨x,w',by simp[Sem.run_bind,h w,hr]⟩
 ·refine .inr fun w=>?_
  obtain⟨x,w',h⟩:=h w;exact⟨x,w',by simp[Sem.run_bind,h]⟩
theorem Vv{t:TypeId}(h:P.underlying t=some .bool)(x y:Value):(∃b,∀w,(Op.equal t x y).run P w=.ok b w)\/∀w,∃e w',(Op.equal t x y).run P w=.halt e w':=by
 have key:∀d:Nat,(∃b,∀w,(Op.equalIn (d+1) t x y).run P w=.ok b w)\/∀w,∃e w',(Op.equalIn (d+1) t x y).run P w=.halt e w':=by
  intro d;by_cases hb:∃a b,x=.bool a/\y=.bool b
  ·obtain⟨a,b,rfl,rfl⟩:=hb;exact .inl ⟨a==b,fun w=>by simp[Op.equalIn,run_underlying h]⟩
  ·refine .inr fun w=>?_
   have:∀a b,¬(x=.bool a/\y=.bool b):=fun a b h=>hb ⟨a,b,h⟩
   rw[Op.equalIn];rw[Sem.run_bind,run_underlying h,Result.andThen_ok];split<;>first| (rename_i a b q;cases q;exact absurd ⟨rfl,rfl⟩ (this _ _))| (exact⟨_,_,rfl⟩)| (rename_i q;cases q)
 exact key 9999
theorem Vz{t:TypeId}(h:P.underlying t=some .bool)(op:BinOp)(x y:Operand)(a b:Value)(w:World):(eqGuard op t x y a b).run P w=.ok () w:=by
 have hi:∀w,(Op.eqGuardIn Op.maxDepth t a b).run P w=.ok false w:=by
  intro w;have hd:∀d,(Op.eqGuardIn (d+1) t a b).run P w=.ok false w:=by
   intro d;rw[Op.eqGuardIn,Sem.run_bind,run_underlying h,Result.andThen_ok];split<;>first| (rename_i q;cases q)|rfl
  exact hd 9999
 unfold eqGuard;by_cases h1:(!(match op with| .eql| .neq=>true|_=>false))=true
 ·cases op<;>first|rfl| (exact absurd h1 (by simp))
 ·have h2:op=.eql\/op=.neq:=by
   cases op<;>first|exact .inl rfl|exact .inr rfl|exact absurd rfl h1
  rcases h2 with rfl|rfl<;>(cases a<;>cases b<;>first|rfl|skip)
  all_goals simp[Sem.run_bind,hi]
  all_goals(repeat' split)<;>simp_all [Sem.run_bind]
theorem a27{t:TypeId}(h:P.underlying t=some .bool)(x y:Value):(∃v,∀w,(binOp .neq t x y).run P w=.ok v w)\/∀w,∃e w',(binOp .neq t x y).run P w=.halt e w':=by
 have he:(∃v,∀w,(do pure (.bool (!(<-Op.equal t x y))):Sem Value).run P w=.ok v w)\/∀w,∃e w',(do pure (.bool (!(<-Op.equal t x y))):Sem Value).run P w=.halt e w':=Qk (Vv h x y) fun v=>.inl ⟨_,fun w=>rfl⟩
 unfold binOp;split<;>first
  |exact he
  |contradiction
  |skip
 all_goals(try split)<;>first|exact .inr fun w=>⟨_,_,rfl⟩|exact .inl ⟨_,fun w=>rfl⟩|skip
theorem a5M(t:TypeId)(x:Value)(k:IntKind)(n:Int):(∃v,∀w,(binOp .lss t x (.int k n)).run P w=.ok v w)\/∀w,∃e w',(binOp .lss t x (.int k n)).run P w=.halt e w':=by
 cases x with
 |int k' m=>
  by_cases e:k'=k
  ·subst e;exact .inl ⟨.bool (m<n),fun w=>by simp[binOp,Op.intCmp]⟩
  ·exact .inr fun w=>⟨_,_,by simp[binOp,e];exact⟨rfl,rfl⟩⟩
 |pointer p=>cases p<;>exact .inr fun w=>⟨_,_,rfl⟩
 |_=>exact .inr fun w=>⟨_,_,rfl⟩
def YQ(P:Program):Op->Bool
 | .binOp .neq t _ _ _=>YR P t
 | .binOp .lss _ _ (.const (.int _ _)) _=>true
 |_=>false
theorem a60{o:Oper}(h:YQ P o.op=true)(a:Act):a7y P o a.eval:=by
 unfold YQ at h;unfold a7y execOp;split at h
 ·rename_i t x y r hop;simp only[hop];have hu:P.underlying t=some .bool:=by
   unfold YR at h;split at h
   ·assumption
   ·cases h
  exact run_lift (Qk (.inl ⟨(),Vz hu _ _ _ _ _⟩) fun _=>a27 hu _ _)
 ·rename_i t x k n r hop;simp only[hop];exact run_lift (Qk (.inl ⟨(),fun w=>rfl⟩) fun _=>a5M t _ k n)
 ·cases h
def free(p:Nat)(ops:Array Oper)(op:Oper)(dp:ah):Bool:=(List.range ops.size).all fun i=>i==p||(match ops[i]? with
 |none=>true
 |some o=>o.after.any (fun e=>Region.binds .any e&&e.on==p)||dp.contains i||
  (o.guard.isNone&&(match o.op with| .select _ _=>false|_=>true)&& !(o.dst==op.dst)&&(o.op.operands.toList.all fun x=>match x with| .tmp u=> !(op.dst==some u)|_=>true)&&(op.op.operands.toList.all fun x=>match x with| .tmp u=> !(o.dst==some u)|_=>true)))
def Sl(P:Program)(p y:Nat)(ops:Array Oper):Bool:= !(p==y)&&(match ops[p]? with
 |none=>false
 |some op=>YQ P op.op&&op.guard.isNone&&op.dst.isSome&&free p ops op ((Ki ops.toList).getD p [])&&op.after.all fun e=> !Region.binds .any e||((Ki ops.toList).getD y []).contains e.on)
theorem put_comm(a:Act){t:Nat}{d:Option Nat}(v u:Value)(h:d≠some t):(a.put (some t) v).put d u=(a.put d u).put (some t) v:=by
 cases d with
 |none=>rfl
 |some d=>
  have hd:d≠t:=fun e=>h (by rw[e])
  show Act.mk ((a.tmps.setIfInBounds t v).setIfInBounds d u) a.defers=Act.mk ((a.tmps.setIfInBounds d u).setIfInBounds t v) a.defers;rw[DJ _ _ (rq hd)]
theorem Ze(a:Act){t:Nat}{d:Option Nat}(v u:Value)(x:Deferred)(h:d≠some t):({a.put (some t) v with defers:=x::(a.put (some t) v).defers}:Act).put d u=(({a with defers:=x::a.defers}:Act).put d u).put (some t) v:=by
 rw[<-put_comm _ _ _ h];rfl
theorem set_comm(l:Array Bool)(i j:Nat):(l.setIfInBounds i true).setIfInBounds j true=(l.setIfInBounds j true).setIfInBounds i true:=by
 by_cases e:i=j
 ·rw[e]
 ·exact DJ _ _ e
theorem a01{o:Oper}{a b:Act}{K K2:Act->World->Prop}{Q':Exit->Act->World->Prop}(hP:∀c a w,¬Q' (.panic c) a w)(hO:∀a w,¬Q' .outgrown a w)(hsel:∀cs b,o.op≠ .select cs b)(he:∀x∈o.op.operands,a.eval x=b.eval x)
 (hK:∀v w',K (b.put o.dst v) w'->K2 (a.put o.dst v) w') (hdf:∀d w',K ({b with defers:=d::b.defers}.put o.dst undef) w'->K2 ({a with defers:=d::a.defers}.put o.dst undef) w') (h:o.wp P b w K Q'):o.wp P a w K2 Q':=by
 unfold Oper.wp at*;rw[execOp_congr o hsel he];generalize(execOp b.eval o).run P w=r at*;cases r with
 |ok n w'=>
  cases n with
  |value v=>exact hK _ _ h
  |skip=>exact hK _ _ h
  |defer d=>exact hdf _ _ h
  |enter f args=>
   refine Calls.mono h ?_;intro e w'' he;cases e with
   |returned v=>exact hK _ _ he
   |panicked c=>exact absurd he (hP _ _ _)
   |outgrown=>
    obtain⟨a0,w0,hq⟩:=he;exact absurd hq (hO _ _)
  |row r args=>exact Rows.mono h fun v w'' he=>hK _ _ he
  |_=>exact h.elim
 |halt x w'=>
  cases x with
  |panic u=>exact absurd h (hP _ _ _)
  |_=>exact h.elim
theorem a4m{p:Nat}{ops:Array Oper}{op:Oper}{dp:ah}(h:free p ops op dp=true){i:Nat}{o:Oper}(hi:i≠p)(ho:ops[i]?=some o)(ha:∀e∈o.after,Region.binds .any e=true->e.on≠p)(hd:dp.contains i=false):
 o.guard=none/\(∀cs b,o.op≠ .select cs b)/\o.dst≠op.dst/\(∀x∈o.op.operands,∀u,x=.tmp u->op.dst≠some u)/\(∀x∈op.op.operands,∀u,x=.tmp u->o.dst≠some u):=by
 have hlt:=(bS.1 ho).1;have:=b8.1 h i (cT.2 hlt);simp only[ho,qS,cr,hi,false_or,hd,xp,or_false]at this;rcases this with h|h
 ·obtain⟨e,he,hb⟩:=Array.any_eq_true'.1 h;simp only[aS,cr]at hb;exact absurd hb.2 (ha e he hb.1)
 ·simp only[aS,Cm,kw,dA,ne_eq]at h;obtain⟨⟨⟨⟨h1,h2⟩,h3⟩,h4⟩,h5⟩:=h;refine⟨h1,fun cs b e=>(by rw[e]at h2;cases h2),h3,?_,?_⟩
  ·rintro x hx u rfl;have:=b8.1 h4 (.tmp u) (by simpa using hx);simpa using this
  ·rintro x hx u rfl;have:=b8.1 h5 (.tmp u) (by simpa using hx);simpa using this
theorem eval_put{a:Act}{t:Option Nat}{v:Value}{x:Operand}(h:∀u,x=.tmp u->t≠some u):(a.put t v).eval x=a.eval x:=by
 cases x with
 |tmp u=>
  cases t with
  |none=>rfl
  |some t=>exact FL a v (fun e=>h u rfl (by rw[e]))
 |_=>rfl
theorem a00{p t:Nat}{op:Oper}{ops:Array Oper}{Q':Exit->Act->World->Prop}{v:Value}(hP:∀c a w,¬Q' (.panic c) a w)(hO:∀a w,¬Q' .outgrown a w)(hop:ops[p]?=some op)(hg:op.guard=none)(hd:op.dst=some t)(hsp:∀cs b,op.op≠ .select cs b)
 (hB:free p ops op ((Ki ops.toList).getD p [])=true):∀(fuel:Nat) (listed:Array Bool) (a:Act) (w:World),HeadInv .any ops ops.size listed->p∈Region.ready .any ops listed->(∀w,(execOp a.eval op).run P w=.ok (.value v) w)->
  wpAny P .any ops Q' fuel (listed.setIfInBounds p true) (a.put (some t) v) w->wpAny P .any ops Q' (fuel+1) listed a w:=by
 intro fuel
 induction fuel with
 |zero=>
  intro listed a w inv hp hrun h;refine⟨fun h0=>by(rw[h0]at hp;cases hp),fun i hi=>?_⟩;by_cases e:i=p
  ·subst e;refine yK hop (by simp[Region.wanted,hg]) ?_;unfold Oper.wp;rw[hrun w,Oper.upon_value,hd];exact h
  ·exfalso;obtain⟨h1,o,h2,h3⟩:=mem_ready.1 hi;have:i∈Region.ready .any ops (listed.setIfInBounds p true):=mem_ready.2 ⟨by rw[getD_set_ne true (rq e)];exact h1,o,h2,fun e' he hb=>getD_set_true (h3 e' he hb)⟩;rw[h.1]at this;cases this
 |succ fuel ih=>
  intro listed a w inv hp hrun h;refine⟨fun h0=>by(rw[h0]at hp;cases hp),fun i hi=>?_⟩;by_cases e:i=p
  ·subst e;refine yK hop (by simp[Region.wanted,hg]) ?_;unfold Oper.wp;rw[hrun w,Oper.upon_value,hd];exact h
  ·obtain⟨h1,o,h2,h3⟩:=mem_ready.1 hi;have hpl:listed.getD p false=false:=getD_both (mem_ready.1 hp).1;have hi':i∈Region.ready .any ops (listed.setIfInBounds p true):=mem_ready.2 ⟨by rw[getD_set_ne true (rq e)];exact h1,o,h2,fun e' he hb=>getD_set_true (h3 e' he hb)⟩;have hk:=h.2 i hi';obtain⟨q1,q2,q3,q4,q5⟩:=a4m hB e h2 (fun e' he hb hon=>by(have:=h3 e' he hb;rw[hon,hpl]at this;cases this)) (by
    cases hc:((Ki ops.toList).getD p []).contains i with
    |false=>rfl
    |true=>have:=wM inv.closed hp hc;rw[getD_both h1]at this;cases this)
   rw[hd]at q3 q4;have hlt:=(bS.1 h2).1;have inv':=inv.set hi hlt;have hp':p∈Region.ready .any ops (listed.setIfInBounds i true):=by
    obtain⟨g1,o',g2,g3⟩:=mem_ready.1 hp;exact mem_ready.2 ⟨by rw[getD_set_ne true e];exact g1,o',g2,fun e' he hb=>getD_set_true (g3 e' he hb)⟩
   have next:∀(b:Act) (w1:World),(∀x∈op.op.operands,b.eval x=a.eval x)->wpAny P .any ops Q' fuel ((listed.setIfInBounds p true).setIfInBounds i true) (b.put (some t) v) w1->wpAny P .any ops Q' (fuel+1) (listed.setIfInBounds i true) b w1:=by
    intro b w1 hb h5;refine ih _ b w1 inv' hp' ?_ (by rw[set_comm];exact h5);rw[execOp_congr op hsp hb];exact hrun
   have hev:∀(b:Act) (u:Value),(∀x∈op.op.operands,b.eval x=a.eval x)->∀x∈op.op.operands,(b.put o.dst u).eval x=a.eval x:=fun b u hb x hx=>by rw[eval_put (fun u' ze=>q5 x hx u' ze)];exact hb x hx
   unfold wpOp at hk⊢;have hw:∀f,Region.wanted o f=true:=fun f=>by simp[Region.wanted,q1]
   simp only[h2,hw,nM]at hk⊢;rcases hk with hk|⟨_,a0,w0,hq⟩
   ·refine .inl (a01 hP hO q2 (fun x hx=>(eval_put (fun u hu=>q4 x hx u hu)).symm) ?_ ?_ hk)
    ·intro v1 w1 h5;rw[put_comm a _ _ q3]at h5;exact next _ w1 (hev a v1 (fun _ _=>rfl)) h5
    ·intro d w1 h5;rw[Ze a _ _ d q3]at h5;exact next _ w1 (hev {a with defers:=d::a.defers} undef (fun x _=>by cases x<;>rfl)) h5
   ·exact absurd hq (hO _ _)
theorem VW{p y:Nat}{ops:Array Oper}{Q':Exit->Act->World->Prop}(hP:∀c a w,¬Q' (.panic c) a w)(hO:∀a w,¬Q' .outgrown a w)(hs:∀op,ops[p]?=some op->YQ P op.op=true->∀a:Act,a7y P op a.eval)(hB:Sl P p y ops=true):∀(fuel:Nat) (listed:Array Bool) (a:Act) (w:World),HeadInv .any ops ops.size listed->listed.getD p false=false->
 wpAny P .any (N6 p y ops) Q' fuel listed a w->wpAny P .any ops Q' fuel listed a w:=by
 unfold Sl at hB;cases hop:ops[p]? with
 |none=>rw[hop]at hB;simp at hB
 |some op=>
  simp only[hop,aS,kw,dA,ne_eq,Cm]at hB;obtain⟨hpy,⟨⟨⟨hsu,hg⟩,hds⟩,hfr⟩,haf⟩:=hB;obtain⟨t,hd⟩:=gP.1 hds;have hsp:∀cs b,op.op≠ .select cs b:=by
   intro cs b e;rw[e]at hsu;cases hsu
  have aAm:=(bS.1 hop).1;have a2S:∀listed:Array Bool,HeadInv .any ops ops.size listed->listed.getD p false=false->y∈Region.ready .any ops listed->p∈Region.ready .any ops listed:=by
   intro listed inv hpl hy;refine mem_ready.2 ⟨getD_in (by rw[inv.size];exact aAm) hpl,op,hop,fun e he hb=>?_⟩;have:=xo.1 haf e he;simp only[hb,bU,r9]at this;exact wM inv.closed hy this
  intro fuel
  induction fuel with
  |zero=>
   intro listed a w inv hpl h;refine⟨?_,h.2⟩;rw[k6];intro i hi;by_cases e:i=y
   ·subst e;have:=Bn (x:=p) (y:=i) (a2S listed inv hpl hi) (.inl hpy);rw[h.1]at this;cases this
   ·have:=Bn (x:=p) (y:=y) hi (.inl e);rw[h.1]at this;cases this
  |succ fuel ih=>
   intro listed a w inv hpl h;refine⟨fun h0=>h.1 (Qg h0),fun i hi=>?_⟩;have hlt:i<ops.size:=by
    obtain⟨_,o,ho,_⟩:=mem_ready.1 hi;exact(bS.1 ho).1
   have xI:(listed.setIfInBounds p true).getD p false=true:=by
    have:p<listed.size:=by rw[inv.size];exact aAm
    simp[this]
   by_cases e:i=y
   ·subst e;have hp:=a2S listed inv hpl hi;have h2:=O3 (h.2 p (Bn (x:=p) (y:=i) hp (.inl hpy)));unfold wpOp at h2;have hw:∀f,Region.wanted op f=true:=fun f=>by simp[Region.wanted,hg]
    simp only[hop,hw,nM]at h2;rcases h2 with h2|⟨_,a0,w0,hq⟩
    ·unfold Oper.wp at h2;rcases hs op hop hsu a with⟨v,hv⟩|hv
     ·rw[hv w,Oper.upon_value,hd]at h2;exact(a00 hP hO hop hg hd hsp hfr fuel listed a w inv hp hv (wpAny_done fuel _ _ w xI h2)).2 i hi
     ·obtain⟨x,w',hx⟩:=hv w;rw[hx]at h2;cases x with
      |panic u=>exact absurd h2 (hP _ _ _)
      |_=>exact h2.elim
    ·exact absurd hq (hO _ _)
   ·have h2:=O3 (h.2 i (Bn (x:=p) (y:=y) hi (.inl e)));by_cases ep:i=p
    ·subst ep;exact wpOp_mono (fun a' w' h'=>wpAny_done fuel _ a' w' xI h') h2
    ·exact wpOp_mono (fun a' w' h'=>ih _ a' w' (inv.set hi hlt) (by rw[getD_set_ne false ep];exact hpl) h') h2
theorem D0.early{p y:Nat}{ops:Array Oper}(hq:(∀c st,¬Q (.panic c) st)/\∀st,¬Q .outgrown st)(hB:Sl P p y ops=true)(h:D0 P Z (N6 p y ops) Q st):D0 P Z ops Q st:=by
 intro κ Θ a w hs;have k:=h κ Θ a w hs;rw[Yk]at k;exact VW (fun c a w ⟨_,_,_,_,h⟩=>hq.1 _ _ h) (fun a w ⟨_,_,_,_,h⟩=>hq.2 _ h) (fun op _ h a=>a60 h a) hB ops.size (Array.replicate ops.size false) a w
  ⟨by simp,fun j oj hj hl=>by(rw[getD_replicate_false]at hl;cases hl),fun t h1 h2=>absurd h2 (by omega)⟩ (getD_replicate_false _ _) k
theorem PU{N:Nat->St->Prop}(hq:(∀c st,¬Q (.panic c) st)/\∀st,¬Q .outgrown st):∀(K:uW),(∀c st,¬KQ P Z N Q K (.panic c) st)/\∀st,¬KQ P Z N Q K .outgrown st
 | []=>hq
 | .sq y::K=>PU hq K
 | .bl id::K=>PU hq K
 | .lp::K=>PU hq K
theorem Kd.a6t(kd:Kd)(fn:Func):(∀c st,¬kd.qq P fn (.panic c) st)/\∀st,¬kd.qq P fn .outgrown st:=by
 cases kd<;>refine⟨fun c st h=>?_,fun st h=>?_⟩<;>(obtain⟨h,_⟩:=h;rcases h with h|h<;>cases h)
theorem a8C{N:Nat->St->Prop}{fn:Func}{kd:Kd}{nt n id:Nat}{ops:Array Oper}{K:uW}{A:fp}(s:Stop){p:Fp}(hnt:Z.nt=nt)(hm:P.follows .mixedOrders=true)
 (h:go P (kd.rf P fn) nt (n+1) (.run (.region id ops true)) K st A=some (s,p)) (hA:∃Y ρ k m L X A1,A=.n2 Y ρ k m L X::A1) (hp:Ao p) (hs:Vg P Z N (kd.qq P fn) kd.d0 s):D0 P Z ops (KQ P Z N (kd.qq P fn) K) st:=by
 obtain⟨Y,ρ,k,m,L,X,A1,rfl⟩:=hA
 ·simp only[go]at h;split at h
  ·rename_i ops' hB1;generalize a8T:wq ops Y ρ=ops' at h;split at h
   ·rename_i hB;split at h
    ·rename_i σ1 acc A2 p1 h1;split at h
     ·rename_i AB A3 p2 hst hmid;split at h
      ·rename_i PK A4 p3 h2;obtain⟨q,h3,rfl⟩:=Cd h;have hq:=hp.app.1.app;have Dk:=hq.2.app;have h4:=Ba (Q:=KQ P Z N (kd.qq P fn) K) hnt h2 Dk.2 (go_sound (Q:=kd.qq P fn) (N:=N) (K:=K) (d0:=kd.d0) (cfg:=.nor) (fun _ _ he h=>kd.ok he h) hnt hm h3 hp.app.2 hs);have h6:=MT (Z:=Z) (K:=fun xO=>AO P Z ops'.toArray (ops'.drop m) (KQ P Z N (kd.qq P fn) K) xO) hnt hmid Dk.1 h4;have h5:=DM (Z:=Z) (K:=fun σ acc=>(∀i∈L,∀o,ops'[i]?=some o->DF X ⟨σ,st.H⟩ o.op=true)/\Yd P Z X (fun xO=>AO P Z ops'.toArray (ops'.drop m) (KQ P Z N (kd.qq P fn) K) xO) ((ops'.drop k).take (m-k)) ⟨σ,st.H++acc⟩) hnt h1 hq.1 ⟨SA hst,h6⟩;have hr:=N7 (l:=ops') (Q:=KQ P Z N (kd.qq P fn) K) (st:=st) k m L hB h5;rw[<-a8T]at hr;exact hr.perm hB1
      ·cases h
     ·cases h
    ·cases h
   ·cases h
  ·cases h
def a7J:Code->Array Oper
 | .region _ ops _=>ops
 | .seq (.region _ ops _) _=>ops
 |_=> #[]
def a0u:Code->Bool
 | .region _ _ dr=>dr
 | .seq (.region _ _ dr) _=>dr
 |_=>false
def aEa(c:Code)(K:uW):uW:=match c with
 | .seq (.region _ _ _) y=>.sq y::K
 |_=>K
theorem a7t{N:Nat->St->Prop}{Q:Exit->St->Prop}{c:Code}{K:uW}(hm:P.follows .mixedOrders=true)(hq:(∀c st,¬Q (.panic c) st)/\∀st,¬Q .outgrown st)(p y:Nat)(hd:a0u c=true)(hB:Sl P p y (a7J c)=true)(h1:D0 P Z (N6 p y (a7J c)) (KQ P Z N Q (aEa c K)) st):AW P Z c (KQ P Z N Q K) st:=by
 have h:=D0.early (PU hq _) hB h1;unfold a0u at hd;split at hd
 ·subst hd;exact h.aw hm
 ·subst hd;exact a0T (h.aw hm)
 ·cases hd
end
end Go.Cx

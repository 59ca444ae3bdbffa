/- Closed slices: what is handed over new may be kept closed (no one reads below it), so that a slice in its rows can be taken out, added to and put back. No condition; plain lemmas. -/
import Derived.Test.YtfankinmlfnncaaGreatDoorPFnChangesG2
import Derived.Test.YtfankinmlfnncaaGreatDoorProg
import Derived.KernelRfl
import Derived.Shelf.Strings.OnBuilder
import Derived.Shelf.Sort.Plain
import Derived.Shelf.Slices.In.SortNone2
import Derived.Shelf.Strconv.Itoa3
import Derived.WalkSmall
import Derived.Shelf.Strconv.Atoi
import Derived.Shelf.Strconv.ErrVar
import Derived.Shelf.Small.Strs
import Derived.Lib.AtoiBound
set_option linter.unusedVariables false
set_option linter.unusedSimpArgs false
namespace Go.Cx
open Go.RowKit
section
variable{P:Program}{Z:wV}{Q:Exit->St->Prop}{st:St}{κ κ':Nat->Option Value}{Θ Θ':Nat->Nat}{a:Act}{w w':World}{all:Array Oper}{rest:List Oper}
theorem yl.aBd{f:Nat->Option (TypeId×Nat)}{i:Nat}{vs:cG}{ds:aR}{bs:ah}(h:yl w f i vs ds bs){p:Nat}{d:D}(hd:ds[p]?=some d):
 ∃c b1 b2 b3,vs[p]?=some c/\c.oneCell'=true/\Rd w c d b2/\(∀t,f (i+p)=some t->Je w t c d b2)/\bs=b1++(b2++b3)/\
  ∀(e:D) (b4:ah),Rd w c e b4->(∀t,f (i+p)=some t->Je w t c e b4)->yl w f i vs (ds.set p e) (b1++(b4++b3)):=by
 obtain⟨l,r,rfl,hl⟩:=Ni hd;obtain⟨v1,v2,c1,c2,rfl,rfl,k1,k2⟩:=h.split;cases k2 with
 |cons _ c vs _ _ b2 b3 h1 h2 h4 h3=>
  have hl1:v1.length=p:=by rw[k1.length];exact hl
  refine⟨c,c1,b2,b3,by rw[bW (by omega),hl1];simp,h1,h2,fun t ht=>h4 t (by rw[hl];exact ht),rfl,fun e b4 he hf=>?_⟩;have e1:(l++d::r).set p e=l++e::r:=by rw[oO _ _ (by omega),hl];simp
  rw[e1];exact k1.app (.cons _ _ _ _ _ _ _ h1 he (fun t ht=>hf t (by rw[<-hl];exact ht)) h3)
theorem fE.aAQ(hs:fE Z st κ Θ a w){m e sz i off e' sz':Nat}{rows FN:List aR}{r:aR}(hH:st.H[m]?=some (.row .uq e sz rows))(hr:rows[i]?=some r)(hd:r[off]?=some (.sl FN))
 (WA:Z2 e sz=true) (hf:vz e off=some (e',sz')):
 ∃κ',fE Z ⟨st.σ,st.H.set m (.row (.ho (i*sz+off) st.H.length) e sz (rows.set i (r.set off .any)))++[.tf e' sz' FN]⟩ κ' Θ a w:=by
 obtain⟨ρ,hu⟩:=hs.vo;obtain⟨hsz,hrl,v0,_,_,hk0,_,_,hΘ,_⟩:=hs.ob m _ hH;obtain⟨v,cs,bs,hkm,hown,hF,hnd,hρ⟩:=hu.rows m e sz rows hH;rw[hk0]at hkm;cases hkm;have hrow:=hrl r (aE hr);have hcell:rows.flatten[i*sz+off]?=some (.sl FN):=(Xl hrl hr hd).1;obtain⟨c,b1,bc,b3,q1,q2,q3,q4,rfl,q6⟩:=hF.aBd hcell;have aEq:vz e (0+(i*sz+off))=some (e',sz'):=by
  rw[show 0+(i*sz+off)=off+i*sz by omega,Ps WA];exact hf
 have hfull:=q4 _ aEq;have hnew:=q6 .any [] (.any _) (fun t _=>.inl ⟨rfl,rfl⟩);rw[<-Sn (e:=.any) hrl hr hd]at hnew;obtain⟨n1,n2,n3⟩:=cC.1 hnd;obtain⟨n4,n5,n6⟩:=cC.1 n2;let n:=st.H.length
 let ρ':Nat->Nat:=fun b=>if b∈bc then n+1 else ρ b
 have aI8:m<st.H.length:=(aN.1 hH).1;have a11:∀b∈bc,b∈b1++(bc++b3):=fun b hb=>aW.2 (.inr (aW.2 (.inl hb)))
 have hz:∀b∈b1++(bc++b3),Θ b=0:=fun b hb=>(hu.free b (by rw[hρ b hb];omega)).1
 have hkn:=AD (hs.uY n (br _)) (some c);have hk':jy w w Θ Θ (n+2):=jy.refl hs.own (by omega);have key:∀(j:Nat) x,(st.H.set m (.row (.ho (i*sz+off) n) e sz (rows.set i (r.set off .any)))++[.tf e' sz' FN])[j]?=some x->
  (j=n/\x=.tf e' sz' FN)\/(j=m/\x=.row (.ho (i*sz+off) n) e sz (rows.set i (r.set off .any)))\/(j≠m/\j<n/\st.H[j]?=some x):=by
  intro j x hj;rcases ER j x hj with⟨h1,h2⟩|⟨h1,h2⟩
  ·rw[js]at h1;exact .inl ⟨h1,h2⟩
  ·rcases IS j x h2 with⟨h3,h4⟩|⟨h3,h4⟩
   ·exact .inr (.inl ⟨h3,h4⟩)
   ·exact .inr (.inr ⟨h3,(aN.1 h4).1,h4⟩)
 have wo:=hs.tH hk' hkn hu;have ua:∀b,b∈b1++([]++b3)->b∉bc/\b∈b1++(bc++b3):=by
  intro b hb;rw[eM]at hb;rcases aW.1 hb with hb|hb
  ·exact⟨fun h=>n3 b hb b (aW.2 (.inl h)) rfl,aW.2 (.inl hb)⟩
  ·exact⟨fun h=>n6 b h b hb rfl,aW.2 (.inr (aW.2 (.inr hb)))⟩
 have Sx:(b1++([]++b3)).Nodup:=by
  rw[eM];exact cC.2 ⟨n1,n5,fun x hx y hy=>n3 x hx y (aW.2 (.inr hy))⟩
 have Q9:∀x∈rows.set i (r.set off .any),x.length=sz:=by
  intro x hx;rcases sG hx with hx|rfl
  ·exact hrl x hx
  ·rw[js];exact hrow
 have FZ:w.ownsRow 0 e sz v0 (rows.set i (r.set off .any)).length cs:=by rw[js];exact hown
 have hre:∀(j:Nat),j≠m->∀b,ρ b=j+1->ρ' b=j+1:=by
  intro j hj b hb;simp only[ρ'];rw[bE (fun h=>by have:=hρ b (a11 b h);omega)];exact hb
 refine⟨Al κ n (some c),hs.step hk' hs.mine hkn (fun i hi=>?_) (fun i x hx=>?_) (fun j x hj=>?_) ⟨ρ',fun b hb=>?_,fun id e2 Qr gA h=>?_,fun id x h=>?_⟩⟩
 ·simp only[bB,js,aQ,cE]at hi;unfold Al;rw[bE (by omega)];exact hs.uY i (by omega)
 ·unfold Al at hx;split at hx
  ·cases hx;exact q2
  ·exact hs.tF i x hx
 ·rcases key j x hj with⟨rfl,rfl⟩|⟨rfl,rfl⟩|⟨h1,h2,h3⟩
  ·exact .inr (.inr ⟨c,bc,ng _ _ _,q3,fun b hb=>hz b (a11 b hb)⟩)
  ·exact .inr (.inr ⟨hsz,Q9,v0,cs,_,hkn _ _ hk0,FZ,hnew.rd,hΘ,fun b hb=>hz b (ua b hb).2⟩)
  ·exact .inr (.inl ⟨by omega,h3⟩)
 ·refine wo.1 b fun h0=>hb ?_
  simp only[ρ'];rw[bE (fun h=>by have:=hρ b (a11 b h);omega)];exact h0
 ·rcases key id _ h with⟨_,h1⟩|⟨_,h1⟩|⟨h1,h2,h3⟩
  ·simp at h1
  ·simp at h1
  ·obtain⟨v2,c2,b2,p1,p2,p3,p4,p5⟩:=wo.2.1 id e2 Qr gA (by omega) h3;exact⟨v2,c2,b2,p1,p2,p3,p4,fun b hb=>hre id h1 b (p5 b hb)⟩
 ·rcases key id _ h with⟨rfl,rfl⟩|⟨rfl,rfl⟩|⟨h1,h2,h3⟩
  ·exact⟨c,bc,ng _ _ _,hfull,q3.lt,n4,fun b hb=>bP hb⟩
  ·refine⟨v0,cs,_,hkn _ _ hk0,FZ,hnew,Sx,fun b hb=>?_,c,q1,ng _ _ _⟩;simp only[ρ'];rw[bE (ua b hb).1];exact hρ b (ua b hb).2
  ·exact(wo.2.2 id x (by omega) h3).re fun b hb=>hre id h1 b hb
def IB:D->Bool
 | .acc _=>true
 | .ptr _ _=>true
 | .op _ _ _ _=>true
 |d=>d.flat
theorem SD{v:Value}{d:D}{bs:ah}(h:Bf w κ v d bs)(ht:IB d=true):bs=[]:=by
 cases h with
 |pure h=>exact h.flat (by cases d<;>first|exact ht|cases h| (simp[IB,D.flat]at ht))
 |acc id v hk=>rfl
 |ptr id off b hk=>rfl
 |op id i sz off b o0 len cap hk=>rfl
theorem Qt:∀ {ds:aR} {vs:cG} {bs:ah},gH w κ vs ds bs->ds.all IB=true->bs=[]:=by
 intro ds
 induction ds with
 |nil=>intro vs bs h _;cases h;rfl
 |cons d ds ih=>
  intro vs bs h ht;simp only[eD,aS]at ht;cases h with
  |cons v vs _ _ b1 b2 h1 h2 h3=>rw[SD h2 ht.1,ih h3 ht.2];rfl
theorem Zq{v:Value}{d:D}{bs:ah}(h:vR w κ v d bs)(ht:IB d=true):bs=[]:=by
 cases h with
 |v h=>
  cases h with
  |cell h=>exact SD h ht
  |agg cs ds bs h=>simp[IB,D.flat]at ht
 |iw vs ds bs h=>simp[IB,D.flat]at ht
theorem a62{t:Nat}:∀ {σ:List (Nat×D)},(σ.all fun p=>IB p.2)=true->IB (lk σ t)=true:=by
 intro σ
 induction σ with
 |nil=>intro _;rfl
 |cons p r ih=>
  intro h;obtain⟨s,d⟩:=p;simp only[eD,aS]at h;simp only[lk];split
  ·exact h.1
  ·exact ih h.2
def Fh(n:Nat)(j:Nat)(o:Ob):Bool:=match o with
 | .gone=>true
 | .box cells=>cells.all IB
 | .CW _ _=>j==0
 | .row .uq _ _ _=>true
 | .row (.ho _ _) _ _ _=>true
 | .row .cl _ _ _=>true
 | .mp _=>true
 | .tf _ _ _=>j==n
 |_=>false
def VR(n:Nat):Nat->bz->Bool
 |_,[]=>true
 |j,o::H=>Fh n j o&&VR n (j+1) H
theorem SE{n:Nat}:∀ {H:bz} {k j:Nat} {o:Ob},VR n k H=true->H[j]?=some o->Fh n (k+j) o=true:=by
 intro H
 induction H with
 |nil=>intro k j o _ h;simp at h
 |cons x H ih=>
  intro k j o h hj;simp only[VR,aS]at h;cases j with
  |zero=>simp at hj;subst hj;exact h.1
  |succ j=>have:=ih h.2 (by simpa using hj);rwa[show k+1+j=k+(j+1)by omega]at this
theorem Rd.again{w0 w:World}{c:Value}{S6 OT:List aR}{XX bs1:ah}(h0:Rd w0 c (.sl S6) XX)(h1:Rd w c (.sl OT) bs1)(hf:D.jq OT=true):∃bs,Rd w c (.sl OT) bs/\∀b∈bs,b∈XX:=by
 have key:∀(d:D),d=.sl OT->Rd w c d bs1->∃bs,Rd w c (.sl OT) bs/\∀b∈bs,b∈XX:=by
  intro d hd h1;cases h1<;>simp only[reduceCtorEq,D.sl.injEq]at hd
  case Af=>subst hd;exact⟨[],.Af,by simp⟩
  case sA a cap hc=>subst hd;exact⟨[],.sA a cap hc,by simp⟩
  case sl b off cap sz rows cs bs h10 h2 h3 h4 h5 h6=>
   subst hd;have PD:bs=[]:=h6.flat (by
    unfold D.jq at hf;rw[b8]at hf⊢;intro d hd;obtain⟨r,hr,Pz⟩:=rJ.1 hd;exact b8.1 (hf r hr) d Pz)
   subst PD;cases rows with
   |nil=>exact⟨[],.sA _ cap h3,by simp⟩
   |cons r rs=>
    refine⟨[b],.sl b off cap sz (r::rs) cs [] h10 h2 h3 h4 h5 h6,fun x hx=>?_⟩;rw[cH.1 hx];have a1o:∀(v:Value) (d:D),v=.slice (some ⟨b,off,none⟩) (r::rs).length cap->d=.sl S6->Rd w0 v d XX->b∈XX:=by
     intro v d hv hd h;cases h<;>simp only[reduceCtorEq,D.sl.injEq,Value.slice.injEq,bC,Addr.mk.injEq]at hd hv
     case Af=>exact hv.1.elim
     case sA a cap' _=>simp at hv
     case sl b' off' cap' sz' eO cs' bs' _ _ _ _ _ _=>
      obtain⟨⟨rfl,_⟩,_⟩:=hv;simp
    exact a1o _ _ rfl rfl h0
 exact key _ rfl h1
theorem fE.aGH(hs:fE Z st κ Θ a w){n e sz:Nat}{FN:List aR}(hH:st.H[n]?=some (.tf e sz FN))(he:YZ e=true){u:Value}{S6 rows:List aR}{fl:aR}(hO:a0Y Z u S6)(hrw:D.jq rows=true)(h0:st.H[0]?=some (.CW (.sl rows::fl) u))
 (hfl:fl.all D.flat=true) (hσ:(st.σ.all fun p=>IB p.2)=true) (hT:VR n 0 st.H=true):
 ∃Θ',fE Z ⟨st.σ,st.H.set n (.row .uq e sz FN)⟩ κ Θ' a w:=by
 obtain⟨ρ,hu⟩:=hs.vo;obtain⟨v,bs,hkn,hfull,hlt,hnd,hρ⟩:=hu.more n _ hH;have hnl:n<st.H.length:=(aN.1 hH).1;rcases hfull with⟨h,_⟩|⟨gA,cs2,ns,a8Y,p1,p2,p3,p4,rfl⟩
 ·cases h
 cases a8Y;simp only at p1 p2 p3;obtain⟨Ug,aFF,aFG⟩:=cC.1 hnd;let Θ':Nat->Nat:=fun b=>if v.ownBlock=some b then n+2 else Θ b
 let ρ':Nat->Nat:=fun b=>if v.ownBlock=some b then 0 else ρ b
 have Sz:∀b,v.ownBlock=some b->ρ b=n+1:=fun b hb=>hρ b (aW.2 (.inl (by simp[hb])))
 have aAv:∀b,v.ownBlock=some b->Θ b=0:=fun b hb=>(hu.free b (by rw[Sz b hb];omega)).1
 have Rv:∀b,v.ownBlock=some b->Bu Z b:=fun b hb=>by
  rcases(hu.free b (by rw[Sz b hb];omega)).2.1 with h|h
  ·exact h
  ·exact absurd h (hO.1 b)
 have FH:∀b,Θ b≠0->Θ' b=Θ b:=fun b hb=>bE fun h=>hb (aAv b h)
 have Xr:∀b,ρ b≠n+1->Θ' b=Θ b/\ρ' b=ρ b:=fun b hb=>⟨bE fun h=>hb (Sz b h),bE fun h=>hb (Sz b h)⟩
 have key:∀(j:Nat) x,(st.H.set n (.row .uq e sz FN))[j]?=some x->(j=n/\x=.row .uq e sz FN)\/(j≠n/\st.H[j]?=some x):=fun j x hj=>IS j x hj
 have Sy:∀b∈ns,Θ b=0/\v.ownBlock≠some b:=fun b hb=>⟨(hu.free b (by rw[hρ b (aW.2 (.inr hb))];omega)).1,fun h=>aFG b (by simp[h]) b hb rfl⟩
 have hrow:∀(j e2 Qr:Nat) gA,j≠n->st.H[j]?=some (.row .uq e2 Qr gA)->∃v cs bs,κ j=some v/\w.ownsRow 0 e2 Qr v gA.length cs/\yl w (vz e2) 0 cs gA.flatten bs/\bs.Nodup/\∀b∈bs,ρ' b=j+1/\Θ' b=0:=by
  intro j e2 Qr gA hj hjH;obtain⟨v2,c2,b2,q1,q2,q3,q4,q5⟩:=hu.rows j e2 Qr gA hjH;refine⟨v2,c2,b2,q1,q2,q3,q4,fun b hb=>?_⟩;have hb':=q5 b hb;obtain⟨r1,r2⟩:=Xr b (by omega);exact⟨r2.trans hb',r1.trans (hu.free b (by omega)).1⟩
 have hho:∀(j p m e2 Qr:Nat) gA,j≠n->st.H[j]?=some (.row (.ho p m) e2 Qr gA)->∃v cs bs,κ j=some v/\w.ownsRow 0 e2 Qr v gA.length cs/\yl w (vz e2) 0 cs gA.flatten bs/\bs.Nodup/\(∀b∈bs,ρ' b=j+1/\Θ' b=0)/\∃c,cs[p]?=some c/\κ m=some c:=by
  intro j p m e2 Qr gA hj hjH;obtain⟨v2,c2,b2,q1,q2,q3,q4,q5,q6⟩:=hu.more j _ hjH;refine⟨v2,c2,b2,q1,q2,q3,q4,fun b hb=>?_,q6⟩;have hb':=q5 b hb;obtain⟨r1,r2⟩:=Xr b (by omega);exact⟨r2.trans hb',r1.trans (hu.free b (by omega)).1⟩
 refine⟨Θ',hs.defers,hs.size,fun i hi=>hs.uY i (by simpa using hi),hs.tF,fun t=>?_,fun j o hj=>?_,fun b hb=>?_,fun b hb hx=>?_,fun b hb=>?_,hs.stays,ρ',fun b hb=>?_,fun j e2 Qr gA hj=>?_,fun j o hj=>?_⟩
 ·obtain⟨bs,hr,_⟩:=hs.slot t;have:=Zq hr (a62 hσ);subst this;exact⟨[],hr,by simp⟩
 ·rcases key j o hj with⟨rfl,rfl⟩|⟨hjn,hj'⟩
  ·exact⟨p1,p2,v,cs2,ns,hkn,p3,p4,fun g hg=>bP hg,fun b hb=>(bE (Sy b hb).2).trans (Sy b hb).1⟩
  ·have Dj:=hs.ob j o hj';have WJ:=SE hT hj';cases o with
   |gone=>trivial
   |tk r=>simp[Fh]at WJ
   |RQ s r u=>simp[Fh]at WJ
   |hole s r u p q=>simp[Fh]at WJ
   |tf e2 s2 r=>simp only[Fh,cY,cr]at WJ;exact absurd WJ hjn
   |mp kv=>
    obtain⟨g,es,c,q1,q2,q3,q4⟩:=Dj;exact⟨g,es,c,q1,q2,(FH g (by omega)).trans q3,q4⟩
   |box cells=>
    obtain⟨g,cs,T,q1,q2,q3,bs,q4,q5⟩:=Dj;have:=Qt q4 WJ;subst this;exact⟨g,cs,T,q1,q2,(FH g (by omega)).trans q3,[],q4,by simp⟩
   |CW cells u2=>
    simp only[Fh,cY,cr]at WJ;subst WJ;rw[h0]at hj';cases hj';obtain⟨hK,g,cs,T,q1,q2,q3,bs,q4,q5⟩:=Dj;obtain⟨_,c,XX,r1,r2,r3⟩:=hO;obtain⟨z1,z2⟩:=hK.2 c r1 g cs T q1 q2;refine⟨hK,g,cs,T,q1,q2,(FH g (by omega)).trans q3,?_⟩;have hb0:∀b∈XX,w.heap[b]?=Z.W0.heap[b]?/\Θ' b=0:=by
     intro b hb;obtain⟨s1,s2,s3⟩:=r3 b hb;refine⟨hs.stays.block b s1 s2,?_⟩;have hne:¬v.ownBlock=some b:=fun h=>by
      rcases Rv b h with h|h
      ·omega
      ·exact s2 h
     exact(bE hne).trans ((hs.old b s1 s2).1.trans s3)
    rw[<-lC]at z2;generalize cs.toList=l at q4 z2;cases q4 with
    |cons x xs _ _ b1 b2 k1 k2 k3=>
     simp at z2;subst z2;have r2w:Rd w x (.sl _) XX:=r2.keep fun b hb=>(hb0 b hb).1
     obtain⟨bs4,r4,r5⟩:=r2w.again (by cases k2 with|pure h=>exact h) hrw;have Om:b2=[]:=Qt k3 (by
      rw[b8]at hfl⊢;intro d hd;have:=hfl d hd;cases d<;>first|rfl| (simp[D.flat]at this))
     subst Om;exact⟨bs4++[],.cons _ _ _ _ _ _ k1 (.pure r4) k3,fun b hb=>(hb0 b (r5 b (by simpa using hb))).2⟩
   |row k e2 Qr gA=>
    obtain⟨q1,q2,v2,cs3,bs3,q3,q4,q5,q6,q7⟩:=Dj;cases k with
    |sh=>simp[Fh]at WJ
    |mv m=>simp[Fh]at WJ
    |cl=>
     refine⟨q1,q2,v2,cs3,bs3,q3,q4,q5,fun g hg=>(FH g (by rw[q6 g hg];omega)).trans (q6 g hg),q7.1,fun b hb=>⟨(FH b (by rw[(q7.2.1 b hb).1];omega)).trans (q7.2.1 b hb).1,(q7.2.1 b hb).2⟩,q7.2.2⟩
    |uq=>
     obtain⟨v4,c4,b4,r1,r2,r3,r4,r5⟩:=hrow j e2 Qr gA hjn hj';rw[q3]at r1;cases r1;exact⟨q1,q2,v2,c4,b4,q3,r2,r3.rd,fun g hg=>(FH g (by rw[q6 g hg];omega)).trans (q6 g hg),fun b hb=>(r5 b hb).2⟩
    |ho p m=>
     obtain⟨v4,c4,b4,r1,r2,r3,r4,r5,_⟩:=hho j p m e2 Qr gA hjn hj';rw[q3]at r1;cases r1;exact⟨q1,q2,v2,c4,b4,q3,r2,r3.rd,fun g hg=>(FH g (by rw[q6 g hg];omega)).trans (q6 g hg),fun b hb=>(r5 b hb).2⟩
 ·simp only[Θ']at hb;split at hb
  ·rename_i h;exact hlt b (aW.2 (.inl (by simp[h])))
  ·exact hs.own b hb
 ·have hne:¬v.ownBlock=some b:=fun h=>by
   rcases Rv b h with h|h
   ·omega
   ·exact hx h
  have e1:Θ' b=Θ b:=bE hne;rw[e1];exact hs.old b hb hx
 ·by_cases h:v.ownBlock=some b
  ·exact Rv b h
  ·have e1:Θ' b=Θ b:=bE h;rw[e1]at hb;exact hs.mine b hb
 ·by_cases h:v.ownBlock=some b
  ·exact absurd (bP h) hb
  ·have e1:Θ' b=Θ b:=bE h;have e2:ρ' b=ρ b:=bE h;rw[e2]at hb;rw[e1];exact hu.free b hb
 ·rcases key j _ hj with⟨rfl,h1⟩|⟨hjn,hj'⟩
  ·simp only[Ob.row.injEq,AG]at h1;obtain⟨rfl,rfl,rfl⟩:=h1;exact⟨v,cs2,ns,hkn,p3,.of p4 (zj (EW he)),aFF,fun b hb=>(bE (Sy b hb).2).trans (hρ b (aW.2 (.inr hb)))⟩
  ·obtain⟨v4,c4,b4,r1,r2,r3,r4,r5⟩:=hrow j e2 Qr gA hjn hj';exact⟨v4,c4,b4,r1,r2,r3,r4,fun b hb=>(r5 b hb).1⟩
 ·rcases key j o hj with⟨rfl,rfl⟩|⟨hjn,hj'⟩
  ·exact R8.I8 rfl
  ·have WJ:=SE hT hj';cases o with
   |row k e2 Qr gA=>
    cases k with
    |mv m=>simp[Fh]at WJ
    |ho p m=>
     obtain⟨v4,c4,b4,r1,r2,r3,r4,r5,r6⟩:=hho j p m e2 Qr gA hjn hj';exact⟨v4,c4,b4,r1,r2,r3,r4,fun b hb=>(r5 b hb).1,r6⟩
    |_=>trivial
   |tk r=>simp[Fh]at WJ
   |tf e2 s2 r=>simp only[Fh,cY,cr]at WJ;exact absurd WJ hjn
   |_=>trivial
theorem a4G{c:Code}{Q:Exit->St->Prop}{m e sz i off e' sz':Nat}{rows FN:List aR}{r:aR}{u:Value}{S6 OT:List aR}{fl:aR}(hO:a0Y Z u S6)(hrw:D.jq OT=true)(hr:rows[i]?=some r)(hH:st.H[m]?=some (.row .uq e sz rows))(hd:r[off]?=some (.sl FN))(h0:st.H[0]?=some (.CW (.sl OT::fl) u))
 (WA:Z2 e sz=true) (hf:vz e off=some (e',sz')) (he:YZ e'=true) (hfl:fl.all D.flat=true) (hσ:(st.σ.all fun p=>IB p.2)=true) (hT:VR st.H.length 0 (st.H.set m (.row (.ho (i*sz+off) st.H.length) e sz (rows.set i (r.set off .any)))++[.tf e' sz' FN])=true)
 (h:AW P Z c Q ⟨st.σ,st.H.set m (.row (.ho (i*sz+off) st.H.length) e sz (rows.set i (r.set off .any)))++[.row .uq e' sz' FN]⟩):AW P Z c Q st:=by
 intro κ Θ a w hs;obtain⟨κ1,hs1⟩:=hs.aAQ hH hr hd WA hf;have hlen:(st.H.set m (.row (.ho (i*sz+off) st.H.length) e sz (rows.set i (r.set off .any)))).length=st.H.length:=js;have hm0:m≠0:=fun h=>by subst h;rw[hH]at h0;cases h0
 have h0l:0<st.H.length:=(aN.1 h0).1;obtain⟨Θ2,hs2⟩:=hs1.aGH (n:=st.H.length) (e:=e') (sz:=sz') (FN:=FN) (by rw[bW (by omega),hlen];simp) he hO hrw (fl:=fl) (by rw[bJ (by omega),cz hm0];exact h0) hfl hσ hT;have e1:(st.H.set m (.row (.ho (i*sz+off) st.H.length) e sz (rows.set i (r.set off .any)))++[Ob.tf e' sz' FN]).set st.H.length (.row .uq e' sz' FN)=st.H.set m (.row (.ho (i*sz+off) st.H.length) e sz (rows.set i (r.set off .any)))++[.row .uq e' sz' FN]:=by
  rw[oO _ _ (by omega),hlen];simp
 rw[e1]at hs2;exact h κ1 Θ2 a w hs2
end
open Go.RowKit Go.Proofs Tryz
structure aD where
 rel:Bytes
 args:aI
 deriving DecidableEq
structure aX where
 var:Bytes
 value:Bytes
 deriving DecidableEq
structure aU where
 kind:Int
 pat:aD
 left:Bytes
 right:Bytes
 deriving DecidableEq
structure Action where
 kind:Int
 pat:aD
 deriving DecidableEq
structure aO where
 name:Bytes
 prio:Int
 conds:List aU
 dD:List Action
 deriving DecidableEq
structure aV where
 facts:List aD
 bind:List aX
 deriving DecidableEq
structure aq where
 rule:Bytes
 facts:List aD
 bind:List aX
 deriving DecidableEq
structure ai where
 shape:aD
 facts:List aD
 deriving DecidableEq
structure Node where
 parent:Int
 cond:aU
 cX:Int
 tokens:List aV
 deriving DecidableEq
structure aH where
 rules:List aO
 ends:bM
 bG:List ai
 nodes:List Node
 facts:List aD
 cP:Int
 deriving DecidableEq
structure XL where
 fact:aD
 time:Int
 deriving DecidableEq
structure aEN where
 rule:Bytes
 times:bM
 deriving DecidableEq
structure aEM where
 aIZ:aq
 prio:Int
 times:bM
 spec:Int
 order:Int
 deriving DecidableEq
structure ck where
 b:bM
 i:Int
 h:Int
 deriving DecidableEq
abbrev tx(s:Bytes):List D:=[.str s]
abbrev jM(n:Int):List D:=[.int .i64 n]
abbrev bx(b:Bool):List D:=[.bool b]
abbrev yx(n:Int):List D:=[.int .u8 n]
abbrev dT(l:List Bytes):D:=.sl (l.map tx)
abbrev dI(l:List Int):D:=.sl (l.map jM)
abbrev aD.c(x:aD):List D:=[.str x.rel,dT x.args]
abbrev aX.c(x:aX):List D:=[.str x.var,.str x.value]
abbrev aU.c(x:aU):List D:=[.int .i64 x.kind,.str x.pat.rel,dT x.pat.args,.str x.left,.str x.right]
abbrev Action.c(x:Action):List D:=[.int .i64 x.kind,.str x.pat.rel,dT x.pat.args]
abbrev aO.c(x:aO):List D:=[.str x.name,.int .i64 x.prio,.sl (x.conds.map aU.c),.sl (x.dD.map Action.c)]
abbrev aV.c(x:aV):List D:=[.sl (x.facts.map aD.c),.sl (x.bind.map aX.c)]
abbrev aq.c(x:aq):List D:=[.str x.rule,.sl (x.facts.map aD.c),.sl (x.bind.map aX.c)]
abbrev ai.c(x:ai):List D:=[.str x.shape.rel,dT x.shape.args,.sl (x.facts.map aD.c)]
abbrev Node.c(x:Node):List D:=[.int .i64 x.parent,.int .i64 x.cond.kind,.str x.cond.pat.rel,dT x.cond.pat.args,.str x.cond.left,.str x.cond.right,.int .i64 x.cX,.sl (x.tokens.map aV.c)]
abbrev aH.c(x:aH):List D:=[.sl (x.rules.map aO.c),dI x.ends,.sl (x.bG.map ai.c),.sl (x.nodes.map Node.c),.sl (x.facts.map aD.c),.int .i64 x.cP]
abbrev XL.c(x:XL):List D:=[.str x.fact.rel,dT x.fact.args,.int .i64 x.time]
abbrev ck.c(x:ck):List D:=[.sl (x.b.map yx),.int .i64 x.i,.int .i64 x.h]
def yq(fn:Func):Code:=match fn.body with
 |some c=>c
 |none=>.skip
theorem mix:prog.follows .mixedOrders=true:=by kernel_rfl
theorem aEK{P:Program}{Z:wV}{Q:Exit->St->Prop}{N N':Nat->St->Prop}{c:Code}{K K0:uW}{st:St}(hd:depth K=depth K0)(hN:∀d,d<depth K0->N' d=N d)(t:AW P Z c (KQ P Z N Q K) st):AW P Z c (KQ P Z N' Q K) st:=by
 rw[U2 (N:=N') (N':=N) K (fun d h=>hN d (by omega))];exact t
theorem aAB{P:Program}{Z:wV}{Q:Exit->St->Prop}{c:Code}{s s':St}(h:s=s')(t:AW P Z c Q s'):AW P Z c Q s:=by rw[h];exact t
theorem EJ{G:Type}{c:G->aR}(hc:∀x,(c x).all D.flat=true)(l:List G):(l.map c).flatten.all D.flat=true:=by
 induction l with
 |nil=>rfl
 |cons x l ih=>rw[bA,iJ,List.all_append,hc,ih];rfl
abbrev bT:An:=.b true
abbrev bF:An:=.b false
structure Pre(A:List An)(p:Fp):Prop where
 h:Ao p
theorem aY:Pre [] []:=⟨trivial⟩
theorem Ao.join{p q:Fp}(h:Ao p)(k:Ao q):Ao (p++q):=by
 induction p with
 |nil=>exact k
 |cons x p ih=>exact⟨h.1,ih h.2⟩
theorem Pre.ext{A:fp}{p:Fp}(o:Pre A p)(B:fp){q:Fp}(hq:Ao q):Pre (A++B) (p++q):=⟨o.h.join hq⟩
section
variable{A:fp}{p:Fp}
theorem Pre.b(o:Pre A p){c v:Bool}(h:c=v):Pre (A++[.b v]) (p++[c=v]):=o.ext _ ⟨h,trivial⟩
theorem Pre.r(o:Pre A p)(n:Nat){c v:Bool}(h:c=v):Pre (A++List.replicate n (.b v)) (p++List.replicate n (c=v)):=o.ext _ (by
 induction n with
 |zero=>trivial
 |succ n ih=>exact⟨h,ih⟩)
theorem Pre.T(o:Pre A p)(n:Nat):Pre (A++List.replicate n bT) (p++List.replicate n (true=true)):=o.r n rfl
theorem Pre.F(o:Pre A p)(n:Nat):Pre (A++List.replicate n bF) (p++List.replicate n (false=false)):=o.r n rfl
theorem Pre.g(o:Pre A p){f:FuncId}{ds:aR}{d:D}(h:Good prog f ds d):Pre (A++[.d d]) (p++[Good prog f ds d]):=o.ext _ ⟨h,trivial⟩
theorem Pre.hp(o:Pre A p)(nz:List (List (Option (Nat×Nat)))){f:FuncId}{cells cells' ds:aR}{d:D}(h:iz prog f cells cells' ds d):Pre (A++[.gp nz cells' d]) (p++[iz prog f cells cells' ds d]):=o.ext _ ⟨h,trivial⟩
theorem Pre.hf(o:Pre A p)(nz:List (List (Option (Nat×Nat)))){f:FuncId}{ds:aR}{d:D}(h:LD prog f ds d):Pre (A++[.gf nz d]) (p++[LD prog f ds d]):=o.ext _ ⟨h,trivial⟩
theorem Pre.hn(o:Pre A p){f:FuncId}{ds cells:aR}(h:LF prog f ds cells):Pre (A++[.dn cells]) (p++[LF prog f ds cells]):=o.ext _ ⟨h,trivial⟩
theorem Pre.w(o:Pre A p){q:Prop}(h:q):Pre (A++[]) (p++[q]):=o.ext _ ⟨h,trivial⟩
theorem Pre.a(o:Pre A p)(B:fp):Pre (A++B) (p++[]):=o.ext _ (q:=[]) trivial
theorem Pre.l(o:Pre A p){n:Int}{rows:List aR}{r:aR}{sz:Nat}(h:0<=n/\rows[n.toNat]?=some r/\r.length=sz):Pre (A++[.row r]) (p++[0<=n/\rows[n.toNat]?=some r/\r.length=sz]):=o.ext _ ⟨h,trivial⟩
theorem Pre.i(o:Pre A p){sz sz' m k:Nat}{n:Int}(h:sz=sz'/\n=((k:Nat):Int)/\k<m):Pre (A++[.ix k]) (p++[sz=sz'/\n=((k:Nat):Int)/\k<m]):=o.ext _ ⟨h,trivial⟩
theorem Pre.o(o:Pre A p)(sz n:Nat)(k:RK){rows:List aR}{i:Nat}{r:aR}(h:rows[i]?=some r)(hk:k.TQ=true:=by kernel_rfl)(hn:Nat.ble n sz=true:=by kernel_rfl):Pre (A++[.row r]) (p++[sz=sz/\k.TQ=true/\rows[i]?=some r/\n<=sz]):=o.ext _ ⟨⟨rfl,hk,h,lF hn⟩,trivial⟩
theorem Pre.c(o:Pre A p){s:Bytes}{i:Int}{b:UInt8}(h:fy s i=some b):Pre (A++[.ch b]) (p++[0<=i/\s[i.toNat]?=some b]):=o.ext _ ⟨a81 h,trivial⟩
theorem Pre.lt{G:Type}{l xs:List G}{i:Nat}{x:G}(o:Pre A p)(f:G->aR)(h:l.drop i=x::xs):Pre (A++[bT]) (p++[decide ((i:Int)<((l.map f).length:Int))=true]):=o.b (a1y f (drop_cons h).2.1)
theorem Pre.ge{G:Type}{l:List G}{i:Nat}(o:Pre A p)(f:G->aR)(h:l.drop i=[]):Pre (A++[bF]) (p++[decide ((i:Int)<((l.map f).length:Int))=false]):=o.b (ZM f (drop_nil h))
end
theorem dc{G:Type}{l:List G}{k:Nat}{x:G}{xs:List G}(h:l.drop k=x::xs):l[k]?=some x:=(drop_cons h).1
theorem dn{G:Type}{l:List G}{k:Nat}{x:G}{xs:List G}(h:l.drop k=x::xs):l.drop (k+1)=xs:=(drop_cons h).2.2
theorem iS{G:Type}{l:List G}{k:Nat}{x:G}{xs:List G}(h:l.drop k=x::xs)(hn:l.length<=maxLen):IntKind.i64.wrap ((k:Int)+1)=((k+1:Nat):Int):=a1P (drop_cons h).2.1 hn
theorem Vr{n:Int}{m:Nat}(h:(decide (0<=n)&&decide (n.toNat<=m))=true):n=((n.toNat:Nat):Int)/\n.toNat<=m:=by
 simp only[aS,bH]at h;exact⟨by omega,h.2⟩
theorem mA{G E:Type}(f:G->E):(∀a b:List G,(a++b).map f=a.map f++b.map f)/\(∀(x:G) (a:List G),(x::a).map f=f x::a.map f)/\([]:List G).map f=[]/\(∀(l:List G) (i:Nat) (x:G),(l.set i x).map f=(l.map f).set i (f x))/\(∀(n:Nat) (x:G),(List.replicate n x).map f=List.replicate n (f x))/\(∀(l:List G) (n:Nat),(l.take n).map f=(l.map f).take n):=
 ⟨fun _ _=>bI,fun _ _=>rfl,rfl,fun _ _ _=>List.map_set,fun _ _=>List.map_replicate,fun _ _=>cI⟩
section
variable{Z:wV}{N N1:Nat->St->Prop}{fn:Func}{k:Kd}{nt:Nat}{A:fp}{p:Fp}{c c':Code}{K K' K0:uW}{st xO:St}
theorem Pre.ret(o:Pre A p)(hnt:Z.nt=nt)(h:go prog (k.rf prog fn) nt 2000 (.run c) K st A=some (.ret k.d0,p):=by kernel_rfl):AW prog Z c (KQ prog Z N (k.qq prog fn) K) st:=PT (n:=2000) A _ hnt mix h o.h rfl
theorem Pre.rts(o:Pre A p)(hnt:Z.nt=nt)(d:D)(hd:d=k.d0)(h:go prog (k.rf prog fn) nt 2000 (.run c) K st A=some (.ret d,p):=by kernel_rfl):AW prog Z c (KQ prog Z N (k.qq prog fn) K) st:=PT (n:=2000) A _ hnt mix h o.h hd
theorem Pre.cs(o:Pre A p)(hnt:Z.nt=nt){n:Nat}(hS:N1 (depth K')=XD prog Z c' (KQ prog Z N (k.qq prog fn) K') n)(S:St)(e:S=xO)(t:XD prog Z c' (KQ prog Z N (k.qq prog fn) K') n xO)
 (h:go prog (k.rf prog fn) nt 2000 (.run c) K st A=some (.cont (depth K') S,p):=by kernel_rfl):AW prog Z c (KQ prog Z N1 (k.qq prog fn) K) st:=PT (n:=2000) A _ hnt mix h o.h ((congrFun hS _).mpr (by rw[e];exact t))
theorem Pre.cf(o:Pre A p)(hnt:Z.nt=nt){n:Nat}(hS:N1 (depth K')=XD prog Z c' (KQ prog Z N (k.qq prog fn) K') n)(t:XD prog Z c' (KQ prog Z N (k.qq prog fn) K') n xO)
 (h:go prog (k.rf prog fn) nt 2000 (.run c) K st A=some (.cont (depth K') xO,p):=by kernel_rfl):AW prog Z c (KQ prog Z N1 (k.qq prog fn) K) st:=o.cs hnt hS _ rfl t h
theorem Pre.ct(o:Pre A p)(hnt:Z.nt=nt){n i:Nat}{S:Int->St}(hS:N1 (depth K')=XD prog Z c' (KQ prog Z N (k.qq prog fn) K') n)(hi:IntKind.i64.wrap ((i:Int)+1)=((i+1:Nat):Int))(t:XD prog Z c' (KQ prog Z N (k.qq prog fn) K') n (S ((i+1:Nat):Int)))
 (h:go prog (k.rf prog fn) nt 2000 (.run c) K st A=some (.cont (depth K') (S (IntKind.i64.wrap ((i:Int)+1))),p):=by kernel_rfl):AW prog Z c (KQ prog Z N1 (k.qq prog fn) K) st:=o.cs hnt hS _ (congrArg S hi) t h
theorem Pre.exs(o:Pre A p)(hnt:Z.nt=nt)(hN:∀d,d<depth K0->N1 d=N d)(S:St)(e:S=xO)(t:AW prog Z c' (KQ prog Z N (k.qq prog fn) K') xO)(hd:depth K'=depth K0:=by kernel_rfl)(h:go prog (k.rf prog fn) nt 2000 (.run c) K st A=some (.at_ c' K' S,p):=by kernel_rfl):
 AW prog Z c (KQ prog Z N1 (k.qq prog fn) K) st:=PT (n:=2000) A _ hnt mix h o.h (aEK (K0:=K0) hd hN (by rw[e];exact t))
theorem Pre.ex(o:Pre A p)(hnt:Z.nt=nt)(hN:∀d,d<depth K0->N1 d=N d)(t:AW prog Z c' (KQ prog Z N (k.qq prog fn) K') xO)(hd:depth K'=depth K0:=by kernel_rfl)(h:go prog (k.rf prog fn) nt 2000 (.run c) K st A=some (.at_ c' K' xO,p):=by kernel_rfl):
 AW prog Z c (KQ prog Z N1 (k.qq prog fn) K) st:=o.exs hnt hN _ rfl t hd h
theorem Pre.lps(o:Pre A p)(hnt:Z.nt=nt){n:Nat}(S:St)(e:S=xO)(t:XD prog Z c' (KQ prog Z N (k.qq prog fn) K') n xO)(h:go prog (k.rf prog fn) nt 2000 (.run c) K st A=some (.lp c' K' S,p):=by kernel_rfl):
 AW prog Z c (KQ prog Z N (k.qq prog fn) K) st:=PT (n:=2000) A _ hnt mix h o.h (aAB e (a4E t))
theorem Pre.lp(o:Pre A p)(hnt:Z.nt=nt){n:Nat}(t:XD prog Z c' (KQ prog Z N (k.qq prog fn) K') n xO)(h:go prog (k.rf prog fn) nt 2000 (.run c) K st A=some (.lp c' K' xO,p):=by kernel_rfl):
 AW prog Z c (KQ prog Z N (k.qq prog fn) K) st:=o.lps hnt _ rfl t h
def a8w:fp->Bool
 | .n2 _ _ _ _ _ _::_=>true
 |_=>false
theorem aBe{A:fp}(h:a8w A=true):∃Y ρ k m L X A1,A=.n2 Y ρ k m L X::A1:=by
 unfold a8w at h;split at h
 ·exact⟨_,_,_,_,_,_,_,rfl⟩
 ·cases h
variable{ops:Array Oper}
theorem Pre.aG4(o:Pre A p)(hnt:Z.nt=nt)(h:go prog (k.rf prog fn) nt 2000 (.run (.region 0 ops true)) K st A=some (.ret k.d0,p):=by kernel_rfl)(hA:a8w A=true:=by kernel_rfl):D0 prog Z ops (KQ prog Z N (k.qq prog fn) K) st:=a8C (n:=1999) _ hnt mix h (aBe hA) o.h rfl
end
abbrev lc(f:Func)(p:List Nat):Code:=(dig (yq f) p []).1
abbrev lk'(f:Func)(p:List Nat):List Fr:=(dig (yq f) p []).2
abbrev Ax(Z:wV)(N:Nat->St->Prop)(f:Func)(k:Kd)(p:List Nat)(s:St):Prop:=AW prog Z (lc f p) (KQ prog Z N (k.qq prog f) (lk' f p)) s
abbrev Ar(Z:wV)(N:Nat->St->Prop)(f:Func)(k:Kd)(p:List Nat)(n:Nat)(s:St):Prop:=XD prog Z (lc f (p++[0])) (KQ prog Z N (k.qq prog f) (lk' f p)) n s
theorem gd{f:FuncId}{fn:Func}{ds:aR}{d:D}(hf:prog.funcs[f]?=some fn)(nz:List (List (Option (Nat×Nat))))(nt:Nat)(h:(∀d∈ds,gX d)->∀Z:wV,Z.nt=nt->AW prog Z (yq fn) (KQ prog Z (fun _ _=>False) ((Kd.q nz d).qq prog fn) []) ⟨yp 0 ds,[]⟩)
 (hb:fn.body=some (yq fn):=by kernel_rfl) (hn:(fn.name== "runtime.NumGoroutine")=false:=by kernel_rfl) (hl:Nat.ble ds.length fn.ntmps=true:=by kernel_rfl) (ht:fn.ntmps=nt:=by kernel_rfl):Good prog f ds d:=
 Good.of hf hb hn (lF hl) fun hr Z hZ=>h hr Z (hZ.trans ht)
theorem gdN{f:FuncId}{fn:Func}{ds cells:aR}(hf:prog.funcs[f]?=some fn)(nt:Nat)(h:(∀d∈ds,gX d)->∀Z:wV,Z.nt=nt->AW prog Z (yq fn) (KQ prog Z (fun _ _=>False) ((Kd.n cells).qq prog fn) []) ⟨yp 0 ds,[]⟩)
 (hb:fn.body=some (yq fn):=by kernel_rfl) (hn:(fn.name== "runtime.NumGoroutine")=false:=by kernel_rfl) (hl:Nat.ble ds.length fn.ntmps=true:=by kernel_rfl) (ht:fn.ntmps=nt:=by kernel_rfl):LF prog f ds cells:=
 LF.of hf hb hn (lF hl) fun hr Z hZ=>h hr Z (hZ.trans ht)
theorem L4{f:FuncId}{fn:Func}{cells cells' ds:aR}{d:D}(hf:prog.funcs[f]?=some fn)(nz:List (List (Option (Nat×Nat))))(nt:Nat)(As OB:aR)(obs:bz)
 (h:(∀x∈(D.agg cells::ds).map D.shV,gX x)->∀(v0:Value) (Z:wV),Z.nt=nt->AW prog Z (yq fn) (KQ prog Z (fun _ _=>False) ((Kd.p nz v0 cells' d).qq prog fn) []) ⟨yp 0 (.ptr 0 0::OB),.CW As v0::obs⟩)
 (hI:B1 1 (.agg cells::ds)=(.agg As::OB,obs):=by kernel_rfl) (hb:fn.body=some (yq fn):=by kernel_rfl) (hn:(fn.name== "runtime.NumGoroutine")=false:=by kernel_rfl) (hl:Nat.ble (OB.length+1) fn.ntmps=true:=by kernel_rfl) (ht:fn.ntmps=nt:=by kernel_rfl):iz prog f cells cells' ds d:=
 iz.of hf hb hn hI (lF hl) fun hr v0 Z hZ _=>h hr v0 Z (hZ.trans ht)
theorem aEc{f:FuncId}{fn:Func}{rows:List aR}{x1 x2:D}{cells' ds:aR}{d:D}(hf:prog.funcs[f]?=some fn)(nz:List (List (Option (Nat×Nat))))(nt:Nat)(OB:aR)
 (h:(∀x∈(D.agg [.sl rows,x1,x2]::ds).map D.shV,gX x)->∀(v0:Value) (Z:wV),Z.nt=nt->a0Y Z v0 rows->AW prog Z (yq fn) (KQ prog Z (fun _ _=>False) ((Kd.p nz v0 cells' d).qq prog fn) []) ⟨yp 0 (.ptr 0 0::OB),[.CW [.sl rows,x1,x2] v0]⟩)
 (hI:B1 1 (.agg [.sl rows,x1,x2]::ds)=(.agg [.sl rows,x1,x2]::OB,[]):=by kernel_rfl) (hb:fn.body=some (yq fn):=by kernel_rfl) (hn:(fn.name== "runtime.NumGoroutine")=false:=by kernel_rfl) (hl:Nat.ble (OB.length+1) fn.ntmps=true:=by kernel_rfl) (ht:fn.ntmps=nt:=by kernel_rfl):iz prog f [.sl rows,x1,x2] cells' ds d:=
 iz.of hf hb hn hI (lF hl) fun hr v0 Z hZ hO=>h hr v0 Z (hZ.trans ht) (hO rfl rfl rows rfl)
theorem gdF{f:FuncId}{fn:Func}{ds:aR}{d:D}(hf:prog.funcs[f]?=some fn)(nz:List (List (Option (Nat×Nat))))(nt:Nat)(OB:aR)(obs:bz)
 (h:(∀x∈ds.map D.shV,gX x)->∀(Z:wV),Z.nt=nt->AW prog Z (yq fn) (KQ prog Z (fun _ _=>False) ((Kd.q nz d).qq prog fn) []) ⟨yp 0 OB,obs⟩)
 (hI:B1 0 ds=(OB,obs):=by kernel_rfl) (hb:fn.body=some (yq fn):=by kernel_rfl) (hn:(fn.name== "runtime.NumGoroutine")=false:=by kernel_rfl) (hl:Nat.ble OB.length fn.ntmps=true:=by kernel_rfl) (ht:fn.ntmps=nt:=by kernel_rfl):LD prog f ds d:=
 LD.of hf hb hn hI (lF hl) fun hr Z hZ=>h hr Z (hZ.trans ht)
theorem a4k(l:bM):D.jq (l.map yx)=true:=by
 unfold D.jq;rw[b8];intro r hr;obtain⟨x,_,rfl⟩:=cJ.1 hr;rfl
theorem a6b{G:Type}{l:List G}{i:Int}{x:G}(f:G->aR)(sz:Nat)(h:fy l i=some x){r:aR}:sz=sz/\i=((i.toNat:Nat):Int)/\i.toNat<((l.map f).set i.toNat r).length:=by
 rw[js];exact fH f sz h
theorem aAj{G:Type}{l:List G}{i:Int}{x:G}(f:G->aR)(r:aR)(h:fy l i=some x):((l.map f).set i.toNat r)[i.toNat]?=some r:=eX (fH f 0 h).2.2
abbrev aJ:=List aD
abbrev aP:=List aX
abbrev ar:=List aV
abbrev ay:=List aU
abbrev az:=List aO
abbrev bL:=List aq
abbrev bN:=List Node
abbrev bQ:=List ai
abbrev fA:=List Action
theorem lR{G:Type}[DecidableEq G][BEq G][LawfulBEq G](a b:G):(a==b)=decide (a=b):=by rw[cK];simp
def sC{G:Type}(w:G->Nat)(l:List G):Nat:=l.length+(l.map w).sum
def tw(s:Bytes):Nat:=s.length
theorem a68{G:Type}(w:G->Nat):sC w []=0:=rfl
theorem py{G:Type}(w:G->Nat)(x:G)(l:List G):sC w (x::l)=1+w x+sC w l:=by simp[sC];omega
theorem R2{G:Type}(w:G->Nat)(a b:List G):sC w (a++b)=sC w a+sC w b:=by
 induction a with
 |nil=>simp[sC]
 |cons x a ih=>rw[tv,py,py,ih];omega
theorem tJ{G:Type}(w:G->Nat)(l:List G):l.length<=sC w l:=by unfold sC;omega
theorem qR{G:Type}{w:G->Nat}{l:List G}{x:G}(h:x∈l):w x+1<=sC w l:=by
 induction l with
 |nil=>cases h
 |cons y l ih=>
  rw[py];rcases bV.1 h with rfl|h
  ·omega
  ·have:=ih h;omega
theorem eqL{G:Type}[DecidableEq G]{f:G->G->Option Bool}{a b:List G}{c:G->aR}(L:Option Bool->List G->Nat->Option Bool)(wm:∀k i,L k [] i=k)
 (wN:∀k x xs i,L k (x::xs) i=(fy b (i:Int)).bind fun y=>(f x y).bind fun r=>bif !r then some false else L k xs (i+1)) (hf:∀x y,f x y=some (decide (x=y))):
 (bif (((a.map c).length:Int) != ((b.map c).length:Int))then some false else L (some true) a 0)=some (decide (a=b)):=by
 by_cases hl:a.length=b.length
 ·have e:(((a.map c).length:Int) != ((b.map c).length:Int))=false:=by simp[hl]
  rw[e];have key:∀(ra rb pa pb:List G),a=pa++ra->b=pb++rb->pa.length=pb.length->L (some true) ra pa.length=some (decide (ra=rb)):=by
   intro ra
   induction ra with
   |nil=>
    intro rb pa pb h1 h2 h3;rw[wm];have:rb=[]:=by
     have:=congrArg List.length h1;have:=congrArg List.length h2;simp at*;apply dJ;omega
    subst this;simp
   |cons x xs ih=>
    intro rb pa pb h1 h2 h3;cases rb with
    |nil=>
     exfalso;have:=congrArg List.length h1;have:=congrArg List.length h2;simp at*;omega
    |cons y ys=>
     rw[wN];have e1:fy b (pa.length:Int)=some y:=by
      unfold fy;have:b[pa.length]?=some y:=by rw[h2,h3];simp
      simp[this]
     rw[e1,aA,hf,aA];have:=ih ys (pa++[x]) (pb++[y]) (by rw[h1];simp) (by rw[h2];simp) (by simp[h3]);by_cases hxy:x=y
     ·subst hxy;simp only[Cz,bU,aL];simp only[bB,aQ,cE]at this;rw[this];simp
     ·simp[hxy]
  have:=key a b [] [] rfl rfl rfl;simpa using this
 ·have e:(((a.map c).length:Int) != ((b.map c).length:Int))=true:=by simp;omega
  rw[e];have:a≠b:=fun h=>hl (by rw[h])
  simp[this]
def aD.wt(x:aD):Nat:=tw x.rel+sC tw x.args
def aU.wt(x:aU):Nat:=tw x.pat.rel+sC tw x.pat.args+tw x.left+tw x.right
def Action.wt(x:Action):Nat:=tw x.pat.rel+sC tw x.pat.args
def aO.wt(x:aO):Nat:=tw x.name+sC aU.wt x.conds+sC Action.wt x.dD
open Go.RowKit Go.Proofs Go.Shelf Tryz
theorem Rd.wu{w:World}{v:Value}{s:Bytes}{bs:ah}(h:Rd w v (.str s) bs):∃y:ByteArray,v=.string y/\y.data.toList=s/\y.size<=maxLen/\bs=[]:=by
 cases h with
 |str y hy=>exact⟨y,rfl,rfl,hy,rfl⟩
theorem oH.strs{w:World}{xs:aI}:∀ {cs:cG} {bs:ah},oH w cs (xs.map D.str) bs->∃ys:List ByteArray,cs=ys.map Value.string/\ys.map (·.data.toList)=xs:=by
 induction xs with
 |nil=>intro cs bs h;cases h;exact⟨[],rfl,rfl⟩
 |cons x xs ih=>
  intro cs bs h;cases h with
  |cons v vs d ds b1 b2 h1 h2 h3=>
   obtain⟨y,e1,e2,_,_⟩:=h2.wu;obtain⟨ys,e3,e4⟩:=ih h3;exact⟨y::ys,by simp[e1,e3],by simp[e2,e4]⟩
theorem Sm(xs:aI):(xs.map tx).flatten=xs.map D.str:=by
 induction xs with
 |nil=>rfl
 |cons x xs ih=>simp[tx,ih]
theorem Calls.txt{P:Program}{f:FuncId}{args:Array Value}{w:World}{r:ByteArray}{Θ:Nat->Nat}(hr:r.size<=maxLen)
 (h:Calls P f args w fun e w'=>e=.returned (.string r)/\Below w.heap.size w w'):
 Calls P f args w (fun e w'=>∃v bs' ts us,e=.returned v/\Below w.heap.size w w'/\Bv w' v (.str r.data.toList) bs' ts us/\(∀b∈bs',b<w.heap.size->Θ b=0)/\(∀b∈bs',b∉ts)/\us.Nodup/\
  (∀b∈us,w.heap.size<=b/\Wr w' b)/\∀b∈ts,b∈us):=
 h.mono fun e w' ⟨h1,h2⟩=>⟨_,[],[],[],h1,h2,.v (.cell (.pure (.str r hr))),by simp,by simp,by simp,by simp,by simp⟩
open Go.RowKit Go.Proofs Go.Shelf Go.Sort Tryz
theorem oH.a5z{w:World}{xs:aI}:∀ {cs:cG} {bs:ah},oH w cs (xs.map D.str) bs->∀x∈xs,x.length<=maxLen:=by
 induction xs with
 |nil=>intro cs bs h x hx;cases hx
 |cons x xs ih=>
  intro cs bs h y hy;cases h with
  |cons v vs d ds b1 b2 h1 h2 h3=>
   obtain⟨s,_,e2,e3,_⟩:=h2.wu;rcases bV.1 hy with rfl|hy
   ·rw[<-e2];exact e3
   ·exact ih h3 y hy
theorem oH.YD{w:World}:∀ {xs:aI},(∀x∈xs,x.length<=maxLen)->oH w (xs.map encStr) (xs.map D.str) []
 | [],_=>.nil
 |x::xs,h=>by
  have h1:Rd w (.string ⟨x.toArray⟩) (.str x) []:=by
   have:=Rd.str (w:=w) ⟨x.toArray⟩ (by have:=h x (by simp);simpa[ByteArray.size]using this);simpa using this
  exact .cons _ _ _ _ [] [] rfl h1 (oH.YD fun y hy=>h y (by simp[hy]))
theorem UX(xs:aI):(xs.map tx).flatten.all D.flat=true:=by
 rw[Sm];simp[D.flat]
def qQ(xs:aI):aI:=xs.mergeSort fun x y=>decide (x<=y)
theorem Ca(xs:aI):(qQ xs).Perm xs:=List.mergeSort_perm _ _
theorem QK{P:Program}{ρ:Ren}(L:Lays.n192 P ρ){e:TypeId}{xs:aI}(hn:xs.length<4611686018427387904):U0 P (ρ.f 192) e 1 (xs.map tx) ((qQ xs).map tx):=by
 refine⟨⟨_,L.f192,rfl,rfl⟩,?_⟩;intro w v cs hsz hrl hown hrd;rw[Sm]at hrd;have hle:=hrd.a5z;obtain⟨ys,rfl,hys⟩:=hrd.strs;have hlen:(qQ xs).length=xs.length:=(Ca xs).length_eq;have Q9:∀r∈(qQ xs).map tx,r.length=1:=by
  intro r hr;obtain⟨x,_,rfl⟩:=cJ.1 hr;rfl
 rcases hown.2 with⟨rfl,h0⟩|⟨g,cap,cur,rfl,hb,Sw,hnc,hcm,hcs,Uk⟩
 ·have hx:xs=[]:=by simpa using h0
  subst hx;refine(Any.sort_Strings_none L none 0 w).mono ?_;rintro e' w' ⟨rfl,rfl⟩;exact⟨rfl,rfl,rfl,rfl,br _,fun _ _ _=>rfl,Q9,[],⟨by simp[hlen],.inl ⟨rfl,by simp[hlen]⟩⟩,by simpa[qQ]using oH.nil⟩
 ·rw[aj]at hnc Uk⊢;rw[Nat.mul_one]at Uk hcs;have hyl:ys.length=xs.length:=by rw[<-hys];simp
  have W8:∀j,j<xs.length->cur[j]?=some (encStr xs.toArray[j]!):=by
   intro j hj;have h1:(cur.toList.take xs.length)[j]?=cur[j]?:=by rw[xQ hj];simp
   rw[<-h1,Uk,cR];have hj':j<ys.length:=by omega
   rw[av hj'];have:xs[j]?=some ys[j].data.toList:=by rw[<-hys,cR,av hj'];rfl
   have hx:xs.toArray[j]! =ys[j].data.toList:=by
    rw[getElem!_pos _ _ (by simpa using hj)];rw[av hj]at this;simpa using this
   rw[hx];simp[encStr]
  have hH:Holds encStr w g 0 xs.toArray:=by
   intro j hj;have hj:j<xs.length:=by simpa using hj
   refine⟨?_,?_⟩
   ·rw[<-W8 j hj];simp[World.cell?,Sw]
   ·simp[World.frozen?,Sw]
  have hblk:g<w.heap.size:=(bS.1 Sw).1;refine(Any.sort_Strings L g 0 cap xs w hH hblk hn).mono ?_;rintro e' w' ⟨rfl,n,os,rfl⟩;have hheap:(grow (putRow encStr (Sort.ahead w n) g 0 (qQ xs).toArray) os).heap=(w.heap.modify g (onCells (putCells encStr 0 (qQ xs).toArray)))++os:=rfl;have W7:∀b,b<w.heap.size->b≠g->(grow (putRow encStr (Sort.ahead w n) g 0 (qQ xs).toArray) os).heap[b]?=w.heap[b]?:=by
   intro b hb hne;rw[hheap,fU (by simpa using hb),zN,bE (fun e=>hne e.symm)]
  have hrow:(grow (putRow encStr (Sort.ahead w n) g 0 (qQ xs).toArray) os).heap[g]?=some (.cells (putCells encStr 0 (qQ xs).toArray cur) e (0,0)):=by
   rw[hheap,fU (by simpa using hblk),zN,bP rfl,Sw];rfl
  refine⟨rfl,rfl,rfl,rfl,by show w.heap.size<=(grow (putRow encStr (Sort.ahead w n) g 0 (qQ xs).toArray) os).heap.size;rw[hheap];simp,fun b hb hne=>W7 b hb fun e=>hne (by rw[e];rfl),Q9,(qQ xs).map encStr,⟨by simp,.inr ⟨g,cap,_,by simp[hlen],hb,hrow,by simpa[hlen]using hnc,hcm,by simp[putCells,hcs],?_⟩⟩,?_⟩
  ·apply qC;intro j;simp only[aj,Nat.mul_one];by_cases hj:j<(qQ xs).length
   ·have hj2:j<cur.size:=by omega
    rw[xQ hj,cR,av hj];simp[putCells,hj2,hj]
   ·rw[dU (by simp;omega),dU (by simp;omega)]
  ·rw[Sm];exact oH.YD fun x hx=>hle x ((Ca xs).mem_iff.1 hx)
open Go.RowKit Go.Proofs Go.Shelf Go.Lib Tryz
theorem a1k(n:Int)(h:qu .i64 n):(itoa n).length<=20:=by
 have h1: -9223372036854775808<=n:=h.1;have h2:n<=9223372036854775807:=h.2;have key:∀u:Nat,u<=9223372036854775808->nDigits u<=19:=by
  intro u hu;by_cases h0:u=0
  ·subst h0;rw[nDigits_small (by omega)];omega
  ·by_cases hk:nDigits u<=19
   ·exact hk
   ·exfalso;have a1o:∀(k v:Nat),v<10^k->1<=k->nDigits v<=k:=by
     intro k
     induction k with
     |zero=>intro v _ h;omega
     |succ k ih=>
      intro v hv _;by_cases h10:v<10
      ·rw[nDigits_small h10];omega
      ·rw[nDigits_big h10];have h3:v/10<10^k:=by rw[yf]at hv;omega
       have hk1:1<=k:=by
        cases k with
        |zero=>simp at hv;omega
        |succ k=>omega
       have:=ih (v/10) h3 hk1;omega
    have:=a1o 19 u (by omega) (by omega);omega
 unfold itoa;split
 ·rw[aQ,decDigits_length];have:=key n.natAbs (by omega);omega
 ·rw[decDigits_length];have:=key n.toNat (by omega);omega
theorem UF(w:World)(k:Nat)(os:Array Obj):Below w.heap.size w (Sort.grow (w.drewN k) os):=
 ⟨rfl,rfl,rfl,by show w.heap.size<=(w.heap++os).size;simp,fun b hb=>by show(w.heap++os)[b]?=_;rw[fU hb]⟩
theorem Us{P:Program}{ρ:Ren}(L:LaysM.n171 P ρ){g:Nat}(hg:P.globalNamed "internal/strconv.uint64pow10" =some g)(hx:(g,fun cs:cG=>cs=pow10Tab.map fun z=>Value.int .u64 z)∈Ah){n:Int}:
 Good P (ρ.f 171) [.int .i64 n] (.str (itoa n)):=by
 refine⟨⟨_,L.f171,rfl,rfl⟩,?_⟩;intro w Θ args bs hv ha _ _ _;obtain _|⟨v1,_,_,_,b1,_,h1,ha⟩:=ha;cases ha;cases h1 with
 |int _ _ hr=>
  have h0: -9223372036854775808<=n:=hr.1;have h1:n<=9223372036854775807:=hr.2;have hl:=a1k n hr;have ht:TabIs P w "internal/strconv.uint64pow10" .u64 pow10Tab:=by
   obtain⟨cs,h2,h3⟩:=hv.var hx hg;have h4:cs=(pow10Tab.map fun z=>Value.int .u64 z).toArray:=by rw[<-h3]
   rw[h4]at h2;exact h2
  have:=Calls.txt (Θ:=Θ) (r:=⟨(itoa n).toArray⟩) (by show(itoa n).toArray.size<=maxLen;rw[yd];unfold maxLen;omega)
   ((Any.strconv_Itoa L n h0 h1 w ht).mono fun e w' ⟨k1,k,os,k2⟩=>⟨k1,by subst k2;exact UF w k os⟩)
  simpa using this
theorem UE(w:World)(t5:TypeId)(t:ByteArray):Below w.heap.size w (Lib.bytesWorld w t5 t):=Lib.bytesWorld_below _ _ _
def TE(s:Bytes):Option (Int×Bool):=if s.length<=18 then(match Lib.atoi s with|some n=>some (n,false)|none=>some (0,true))else none
theorem Ur{P:Program}{ρ:Ren}(L:LaysC.n172 P ρ){g:Nat}(hg:P.globalNamed "strconv.ErrSyntax" =some g)(hx:(g,fun cs:cG=>∃tp p,cs=[Value.iface tp p])∈Ah){s:Bytes}{r:Int×Bool}(h:TE s=some r):
 Good P (ρ.f 172) [.str s] (.iw [.int .i64 r.1,.ifc r.2]):=by
 refine⟨⟨_,L.f172,rfl,rfl⟩,?_⟩;intro w Θ args bs hv ha _ _ _;obtain _|⟨v1,_,_,_,b1,_,h1,ha⟩:=ha;cases ha;obtain⟨y,rfl,rfl,_,_⟩:=h1.wu;unfold TE at h;split at h
 ·rename_i hl;have hl':y.size<=18:=by simpa using hl
  split at h
  ·rename_i n hn;cases h;have hb:=Lib.atoi_bound hn hl;refine(Any.strconv_Atoi L.toM.ton172 y n hl' hn w).mono ?_;rintro e w' ⟨rfl,t,rfl⟩;exact⟨_,[],[],[],rfl,UE _ _ _,.iw [.int .i64 n,.nilIface] [.int .i64 n,.ifc false] [] [] [] (.cons _ _ _ _ [] [] [] [] [] [] (.cell (.pure (.int _ _ (qu.i64.2 (by omega))))) (.cons _ _ _ _ [] [] [] [] [] [] (.cell (.pure .ZG)) .nil)),by simp,by simp,by simp,by simp,by simp⟩
  ·rename_i hn;cases h;obtain⟨cs,h2,tp,p,h3⟩:=hv.var hx hg;have h4:cs= #[.iface tp p]:=by rw[<-tu,h3]
   rw[h4]at h2;refine(Any.strconv_Atoi_err_var L y hl' hn tp p w h2).mono ?_;rintro e w' ⟨N,rfl,_,_,hbl⟩;exact⟨_,[],[],[],rfl,hbl,.iw [.int .i64 0,.iface _ _] [.int .i64 0,.ifc true] [] [] [] (.cons _ _ _ _ [] [] [] [] [] [] (.cell (.pure (.int _ _ (qu.zero _)))) (.cons _ _ _ _ [] [] [] [] [] [] (.cell (.pure (.ZH _ _))) .nil)),by simp,by simp,by simp,by simp,by simp⟩
 ·cases h
theorem Xb:∀(a b:Bytes), -1<=Lib.compareBytes a b/\Lib.compareBytes a b<=1
 | [],[]=>by simp[Lib.compareBytes]
 | [],_::_=>by simp[Lib.compareBytes]
 |_::_,[]=>by simp[Lib.compareBytes]
 |a::xs,b::ys=>by
  simp only[Lib.compareBytes];split
  ·omega
  ·split
   ·omega
   ·exact Xb xs ys
theorem QJ{P:Program}{ρ:Ren}(L:Lays.n106 P ρ){a b:Bytes}:Good P (ρ.f 106) [.str a,.str b] (.int .i64 (Lib.compareBytes a b)):=by
 refine⟨⟨_,L.f106,rfl,rfl⟩,?_⟩;intro w Θ args bs hv ha _ _ _;obtain _|⟨v1,_,_,_,b1,_,h1,ha⟩:=ha;obtain _|⟨v2,_,_,_,b2,_,h2,ha⟩:=ha;cases ha;obtain⟨y,rfl,rfl,_,_⟩:=h1.wu;obtain⟨z,rfl,rfl,_,_⟩:=h2.wu;have hc:=Xb y.data.toList z.data.toList;refine(Any.strings_Compare L y z w).mono ?_;rintro e w' ⟨rfl,rfl⟩;exact⟨_,[],[],[],rfl,Below.refl _ _,.v (.cell (.pure (.int _ _ (qu.i64.2 (by omega))))),by simp,by simp,by simp,by simp,by simp⟩
def Uu:Ren:=⟨fun|192=>212|190=>227|125=>237|258=>236|128=>253|129=>254|302=>244|303=>245|304=>246|305=>247|306=>248|307=>249|308=>250|309=>251|310=>252|333=>266|329=>267|330=>268|334=>269|335=>270|336=>271|344=>280|n=>n,fun|31=>41|0=>0|9=>9|3=>3|46=>183|51=>221|53=>223|4=>4|183=>214|182=>213|131=>187|5=>5|218=>236|222=>240|228=>255|229=>141|n=>n,fun|n=>n⟩
theorem a5L:Lays.n192 prog Uu:=by constructor<;>(intros;kernel_rfl)
theorem J4{e:TypeId}{xs:aI}(hn:xs.length<4611686018427387904):U0 prog 212 e 1 (xs.map tx) ((qQ xs).map tx):=QK a5L hn
def OJ:Ren:=⟨fun|171=>225|243=>235|246=>243|283=>262|284=>263|285=>264|286=>265|129=>254|317=>276|318=>277|319=>278|320=>279|337=>283|338=>284|n=>n,fun|3=>3|9=>9|2=>2|4=>4|171=>232|0=>0|53=>223|37=>22|5=>5|173=>234|212=>252|51=>221|20=>20|213=>253|46=>183|232=>262|233=>263|n=>n,fun|17=>3|18=>4|19=>5|n=>n⟩
theorem a5J:Lays.n171 prog OJ:=by constructor<;>(intros;kernel_rfl)
theorem a1r:LaysM.n171 prog OJ:=by constructor<;>first|exact a5J| (intros;kernel_rfl)
def CO(aC:Int):Option Bytes:=(fun n:Int=>some (Lib.itoa n)) aC
theorem JZ{aC:Int}{r:Bytes}(h:CO aC=some r):Good prog 225 [.int .i64 aC] (.str r):=by cases h;exact Us a1r (g:=3) (by kernel_rfl) (aE (i:=0) (by kernel_rfl))
def I5:Ren:=⟨fun|172=>229|244=>238|245=>239|247=>255|279=>256|280=>257|281=>258|282=>259|287=>272|316=>273|171=>225|205=>274|321=>281|322=>282|243=>235|246=>243|283=>262|284=>263|285=>264|286=>265|129=>254|317=>276|318=>277|319=>278|320=>279|337=>283|338=>284|n=>n,fun|9=>9|3=>3|75=>198|76=>199|4=>4|5=>5|167=>224|37=>22|0=>0|85=>225|2=>2|168=>227|53=>223|175=>242|46=>183|210=>246|127=>258|145=>261|143=>259|21=>21|171=>232|173=>234|212=>252|51=>221|20=>20|213=>253|232=>262|233=>263|80=>264|n=>n,fun|15=>1|16=>2|17=>3|18=>4|19=>5|n=>n⟩
theorem a5K:Lays.n172 prog I5:=by constructor<;>(intros;kernel_rfl)
theorem a1s:LaysM.n172 prog I5:=by constructor<;>first|exact a5K| (intros;kernel_rfl)
theorem a1q:LaysC.n172 prog I5:=by constructor<;>first|exact a1s| (intros;kernel_rfl)
def CN(aC:Bytes):Option (Int×Bool):=TE aC
theorem JY{aC:Bytes}{r:Int×Bool}(h:CN aC=some r):Good prog 229 [.str aC] (.iw [.int .i64 r.1,.ifc r.2]):=Ur a1q (g:=1) (by kernel_rfl) (aE (i:=1) (by kernel_rfl)) h
def Ut:Ren:=⟨fun|106=>172|213=>213|265=>228|n=>n,fun|9=>9|3=>3|n=>n,fun|n=>n⟩
theorem a5I:Lays.n106 prog Ut:=by constructor<;>(intros;kernel_rfl)
def tC(aC:Bytes)(aa:Bytes):Option Int:=(fun a b:Bytes=>some (Lib.compareBytes a b)) aC aa
theorem ux{aC:Bytes}{aa:Bytes}{r:Int}(h:tC aC aa=some r):Good prog 172 [.str aC,.str aa] (.int .i64 r):=by cases h;exact QJ a5I
set_option maxRecDepth 100000
abbrev aB:=D.int .i64
abbrev af:=Ob.row .uq
abbrev bu:=Ob.box
abbrev aZ:=D.str
abbrev bX:=D.sl
abbrev b9:=D.acc
abbrev bp:=D.ptr
abbrev bO:=D.bool
abbrev cV:=D.fr
abbrev bw:=D.agg
abbrev iy:List (List (Option (Nat×Nat))):=[[none,none,none],[none]]
abbrev jK:List (List (Option (Nat×Nat))):=[[none,none,none]]
abbrev V4:List (List (Option (Nat×Nat))):=[[none,none,none],[some (9,1)]]
abbrev OL:List (List (Option (Nat×Nat))):=[[none,none,none],[none,some (9,1)]]
abbrev a2J:List (List (Option (Nat×Nat))):=[[none,none,none],[none,none,some (9,1),none,none]]
abbrev OM:List (List (Option (Nat×Nat))):=[[none,none,none],[some (3,1)]]
abbrev bZ:List (List (Option (Nat×Nat))):=[[none]]
abbrev zH:List (List (Option (Nat×Nat))):=[[some (9,1)]]
abbrev ON:List (List (Option (Nat×Nat))):=[[none],[none]]
abbrev a2K:List (List (Option (Nat×Nat))):=[[none,none,some (71,5),some (154,3)],[none]]
abbrev Kp:List (List (Option (Nat×Nat))):=[[none,none,none],[none,none,some (71,5),some (154,3)]]
abbrev WZ:List (List (Option (Nat×Nat))):=[[none,none,none],[some (63,4)]]
abbrev Qa:List (List (Option (Nat×Nat))):=[[none,none,some (9,1),none,none]]
abbrev Kq:List (List (Option (Nat×Nat))):=[[none,some (9,1)]]
abbrev Wa:List (List (Option (Nat×Nat))):=[[none,none,some (71,5),some (154,3)]]
abbrev zn:List (List (Option (Nat×Nat))):=[[some (113,2)]]
abbrev sI:List (List (Option (Nat×Nat))):=[[some (63,4),some (3,1),some (83,3),some (74,8),some (43,2),none],[none]]
abbrev TN:List (List (Option (Nat×Nat))):=[[some (63,4),some (3,1),some (83,3),some (74,8),some (43,2),none],[none,some (9,1)]]
abbrev a2I:List (List (Option (Nat×Nat))):=[[some (63,4),some (3,1),some (83,3),some (74,8),some (43,2),none],[none],[none,none,none,none,none]]
abbrev B2:List (List (Option (Nat×Nat))):=[[some (43,2)]]
abbrev Nl:List (List (Option (Nat×Nat))):=[[none,none,none],[some (43,2)]]
abbrev Kr:List (List (Option (Nat×Nat))):=[[some (113,2)],[none]]
abbrev zo:List (List (Option (Nat×Nat))):=[[some (63,4),some (3,1),some (83,3),some (74,8),some (43,2),none]]
variable{Z:wV}{N:Nat->St->Prop}
def qe(aC:bM)(k1:Int->Option ck):bM->Nat->Int->Option ck
 | [],i1,oK=>(k1 oK)
 |bg::cj,i1,oK=>(bif decide (((i1:Int):Int)<4000)then(qe aC k1 cj (i1+1) (Jh .i64 (IntKind.i64.wrap ((IntKind.i64.wrap ((IntKind.i64.wrap (oK*167))+(IntKind.i64.wrap bg)))+29)) 1073741823))else(k1 oK))
def z8(aC:bM):Option ck:=(bif decide (aC.length<=maxLen)then(qe aC (fun(a3k:Int)=>(some (⟨aC,0,a3k⟩:ck))) aC 0 (IntKind.i64.wrap (851207+(IntKind.i64.wrap (3*((aC.map yx).length:Int))))))else none)
def Oh(aC:bM)(oK:Int)(dL:Int):St:=⟨[(0,bX (aC.map yx)),(3,aB oK),(4,aB dL)],[]⟩
theorem NP(hZ:Z.nt=33){aC:bM}{r:ck}{k1:Int->Option ck}(eA:∀(a3k:Int),k1 a3k=some r->Ax Z N f35 (.n (ck.c r)) [1,1,1] ⟨[(0,bX (aC.map yx)),(3,aB a3k)],[]⟩)(hm1:aC.length<=maxLen):∀(rest:bM) (i1:Nat) (oK:Int),aC.drop i1=rest->qe aC k1 rest i1 oK=some r->Ar Z N f35 (.n (ck.c r)) [1,1,0,1,0] (rest.length+1) (Oh aC oK (i1:Int)):=by
 intro rest
 induction rest with
 |nil=>
  intro i1 oK bD h;rw[qe]at h;refine aT fun N1 cq cS=>?_
  exact(((((aY.ge yx bD).ge yx bD).ge yx bD).F 1).a [.hl 0 [0,3] []]).ex hZ cq (eA oK h)
 |cons bg cj ih1=>
  intro i1 oK bD h;rw[qe]at h;refine aT fun N1 cq cS=>?_
  have lB:=(((aY.lt yx bD).lt yx bD).lt yx bD)
  obtain⟨h13,h⟩|⟨h13,h⟩:=aK h
  ·exact(((lB.b h13).l (bK yx 1 (dc bD) rfl)).a [.cn [0,3,4] []]).ct hZ cS (iS bD hm1) (ih1 (i1+1) (Jh .i64 (IntKind.i64.wrap ((IntKind.i64.wrap ((IntKind.i64.wrap (oK*167))+(IntKind.i64.wrap bg)))+29)) 1073741823) (dn bD) h)
  ·exact((lB.b h13).a [.hl 0 [0,3] []]).ex hZ cq (eA oK h)
theorem Ls{aC:bM}{r:ck}(h:z8 aC=some r):LF prog 35 [bX (aC.map yx)] (ck.c r):=by
 refine gdN func35 33 fun hr Z hZ=>?_
 rw[z8]at h;obtain⟨h14,h⟩:=bf h;refine(aY.a [.cn [0,3,4] []]).lp hZ (NP hZ (fun a3k h=>?_) (bh h14) aC 0 (IntKind.i64.wrap (851207+(IntKind.i64.wrap (3*((aC.map yx).length:Int))))) rfl h);cases h;exact aY.ret hZ
def rE(aC:ck):Option (ck×Int):=(bif decide ((aC.i:Int)<((aC.b.map yx).length:Int))then((fy aC.b aC.i).bind fun x2=>(some ((⟨aC.b,IntKind.i64.wrap (aC.i+1),IntKind.i64.wrap ((IntKind.i64.wrap (aC.h*6364136223846793005))+1442695040888963407)⟩:ck),Jh .i64 (IntKind.i64.wrap ((Jh .i64 (XY .i64 (VL .i64 (IntKind.i64.wrap ((IntKind.i64.wrap (aC.h*6364136223846793005))+1442695040888963407)) 35) (VL .i64 (IntKind.i64.wrap ((IntKind.i64.wrap (aC.h*6364136223846793005))+1442695040888963407)) 45)) 255)+(IntKind.i64.wrap x2))) 255)))else(some ((⟨aC.b,aC.i,IntKind.i64.wrap ((IntKind.i64.wrap (aC.h*6364136223846793005))+1442695040888963407)⟩:ck),Jh .i64 (XY .i64 (VL .i64 (IntKind.i64.wrap ((IntKind.i64.wrap (aC.h*6364136223846793005))+1442695040888963407)) 35) (VL .i64 (IntKind.i64.wrap ((IntKind.i64.wrap (aC.h*6364136223846793005))+1442695040888963407)) 45)) 255)))
theorem ul{aC:ck}{r:ck×Int}(h:rE aC=some r):iz prog 134 (ck.c aC) (ck.c r.1) [] (aB r.2):=by
 refine L4 func134 iy 58 [bX (aC.b.map yx),aB aC.i,aB aC.h] [] [] fun hr jB Z hZ=>?_
 rw[rE]at h;obtain⟨h1,h⟩|⟨h1,h⟩:=aK h
 ·obtain⟨x2,h3,h⟩:=aG h;cases h;exact((((aY.a [.n 10,.n 9]).b h1).a [.n 12]).l (dW yx 1 h3 rfl)).ret hZ
 ·cases h;exact((aY.a [.n 10,.n 9]).b h1).ret hZ
def cg(aC:ck)(aa:Int):Option (ck×Int):=(bif decide ((aa:Int)<=0)then(some (aC,0))else(bif decide ((aa:Int)<=256)then((rE aC).bind fun y3=>(bif decide (0<=(y3.2:Int))&&decide (0<(aa:Int))then(some (y3.1,(y3.2:Int)%aa))else none))else((rE aC).bind fun y6=>((rE y6.1).bind fun y8=>((rE y8.1).bind fun GY=>(bif decide (0<=(IntKind.i64.wrap ((IntKind.i64.wrap ((IntKind.i64.wrap (y6.2*65536))+(IntKind.i64.wrap (y8.2*256))))+GY.2):Int))&&decide (0<(aa:Int))then(some (GY.1,(IntKind.i64.wrap ((IntKind.i64.wrap ((IntKind.i64.wrap (y6.2*65536))+(IntKind.i64.wrap (y8.2*256))))+GY.2):Int)%aa))else none))))))
theorem cQ{aC:ck}{aa:Int}{r:ck×Int}(h:cg aC aa=some r):iz prog 76 (ck.c aC) (ck.c r.1) [aB aa] (aB r.2):=by
 refine L4 func76 iy 31 [bX (aC.b.map yx),aB aC.i,aB aC.h] [aB aa] [] fun hr jB Z hZ=>?_
 rw[cg]at h;obtain⟨h1,h⟩|⟨h1,h⟩:=aK h
 ·cases h;exact(aY.b h1).ret hZ
 ·obtain⟨h2,h⟩|⟨h2,h⟩:=aK h
  ·obtain⟨y3,h4,h⟩:=aG h;obtain⟨h5,h⟩:=bf h;cases h;exact((((aY.b h1).b h2).hp jK (ul h4)).w (TU .i64 h5)).ret hZ
  ·obtain⟨y6,h7,y8,h9,GY,h11,h⟩:=gW h;obtain⟨h12,h⟩:=bf h;cases h;exact((((((aY.b h1).b h2).hp jK (ul h7)).hp jK (ul h9)).hp jK (ul h11)).w (TU .i64 h12)).ret hZ
def eZ(aC:ck)(aa:Int):Option (ck×Bool):=((cg aC aa).bind fun y1=>(some (y1.1,(y1.2:Int)==0)))
theorem eS{aC:ck}{aa:Int}{r:ck×Bool}(h:eZ aC aa=some r):iz prog 72 (ck.c aC) (ck.c r.1) [aB aa] (bO r.2):=by
 refine L4 func72 iy 9 [bX (aC.b.map yx),aB aC.i,aB aC.h] [aB aa] [] fun hr jB Z hZ=>?_
 rw[eZ]at h;obtain⟨y1,h2,h⟩:=aG h;cases h;exact(aY.hp iy (cQ h2)).ret hZ
def pO(aC:ck):Option (ck×(Bytes×Int)):=((cg aC 6).bind fun y1=>((fy ([[111,110],[111,110],[97,116],[112],[113],[122]]:aI) y1.2).bind fun x3=>((fy ([2,2,2,1,1,0]:bM) y1.2).bind fun x5=>(some (y1.1,(x3,x5))))))
theorem D4{aC:ck}{r:ck×(Bytes×Int)}(h:pO aC=some r):iz prog 180 (ck.c aC) (ck.c r.1) [] (D.iw [aZ r.2.1,aB r.2.2]):=by
 refine L4 func180 [[none,none,none],[none],[none]] 15 [bX (aC.b.map yx),aB aC.i,aB aC.h] [] [] fun hr jB Z hZ=>?_
 rw[pO]at h;obtain⟨y1,h2,x3,h4,x5,h6,h⟩:=gW h;cases h;exact(((((aY.hp iy (cQ h2)).a [.n 9,.vw 0]).l (dW tx 1 h4 rfl)).a [.vw 0]).l (dW jM 1 h6 rfl)).ret hZ
def qx(aC:ck)(aa:aI):Option (ck×Bytes):=((cg aC ((aa.map tx).length:Int)).bind fun y1=>((fy aa y1.2).bind fun x3=>(some (y1.1,x3))))
theorem sv{aC:ck}{aa:aI}{r:ck×Bytes}(h:qx aC aa=some r):iz prog 140 (ck.c aC) (ck.c r.1) [cV 9 1 (aa.map tx)] (aZ r.2):=by
 refine L4 func140 iy 12 [bX (aC.b.map yx),aB aC.i,aB aC.h] [b9 1] [af 9 1 (aa.map tx)] fun hr jB Z hZ=>?_
 rw[qx]at h;obtain⟨y1,h2,x3,h4,h⟩:=bR h;cases h;exact(((aY.hp iy (cQ h2)).i (fH tx 1 h4)).o 1 1 .uq (cL tx (dl h4))).ret hZ
def j9(aC:ck):Option (ck×Bytes):=((qx aC ([[97],[98],[99],[49],[50]]:aI)).bind fun y1=>(some (y1.1,y1.2)))
theorem xz{aC:ck}{r:ck×Bytes}(h:j9 aC=some r):iz prog 181 (ck.c aC) (ck.c r.1) [] (aZ r.2):=by
 refine L4 func181 iy 6 [bX (aC.b.map yx),aB aC.i,aB aC.h] [] [] fun hr jB Z hZ=>?_
 rw[j9]at h;obtain⟨y1,h2,h⟩:=aG h;cases h;exact(aY.hp V4 (sv h2)).ret hZ
def rG(aC:ck):Option (ck×Bytes):=((eZ aC 4).bind fun y1=>(bif y1.2 then((j9 y1.1).bind fun y4=>(some (y4.1,y4.2)))else((qx y1.1 ([[63,120],[63,121],[63,122]]:aI)).bind fun y6=>(some (y6.1,y6.2)))))
theorem yC{aC:ck}{r:ck×Bytes}(h:rG aC=some r):iz prog 223 (ck.c aC) (ck.c r.1) [] (aZ r.2):=by
 refine L4 func223 iy 10 [bX (aC.b.map yx),aB aC.i,aB aC.h] [] [] fun hr jB Z hZ=>?_
 rw[rG]at h;obtain⟨y1,h2,h⟩:=aG h;obtain⟨h3,h⟩|⟨h3,h⟩:=aK h
 ·obtain⟨y4,h5,h⟩:=aG h;cases h;exact(((aY.hp iy (eS h2)).b h3).hp jK (xz h5)).ret hZ
 ·obtain⟨y6,h7,h⟩:=aG h;cases h;exact(((aY.hp iy (eS h2)).b h3).hp V4 (sv h7)).ret hZ
def mq(y1:ck×(Bytes×Int))(k1:bM->Int->Int->aI->Option (ck×aD)):Nat->Int->bM->Int->Int->aI->Option (ck×aD)
 |0,_,_,_,_,_=>none
 |n1+1,dX,fK,eH,eL,dh=>(bif decide ((dX:Int)<y1.2.2)then((rG (⟨fK,eH,eL⟩:ck)).bind fun B6=>(bif room ((dh.map tx).length+([[aZ B6.2]]).length) 16 then(mq y1 k1 n1 (IntKind.i64.wrap (dX+1)) B6.1.b B6.1.i B6.1.h (dh++([B6.2])))else none))else(k1 fK eH eL dh))
def jx(aC:ck):Option (ck×aD):=((pO aC).bind fun y1=>(mq y1 (fun(nC:bM) (nD:Int) (nE:Int) (eN:aI)=>(some ((⟨nC,nD,nE⟩:ck),(⟨y1.2.1,eN⟩:aD)))) fuel 0 y1.1.b y1.1.i y1.1.h ([]:aI)))
def E7(jB:Value)(y1:ck×(Bytes×Int))(dX:Int)(eH:Int)(eL:Int)(W1:List aR)(W4:List aR):St:=⟨[(0,bp 0 0),(2,bp 1 0),(4,aB y1.2.2),(5,bp 2 0),(6,aB dX)],[Ob.CW [bX W1,aB eH,aB eL] jB,bu [aZ ([]),D.nil],bu [aZ y1.2.1,b9 3],af 9 1 W4]⟩
theorem Lv(hZ:Z.nt=27){jB:Value}{y1:ck×(Bytes×Int)}{r:ck×aD}{k1:bM->Int->Int->aI->Option (ck×aD)}(eA:∀(nC:bM) (nD:Int) (nE:Int) (eN:aI),k1 nC nD nE eN=some r->Ax Z N f201 (.p OL jB (ck.c r.1) (bw [aZ r.2.rel,cV 9 1 (r.2.args.map tx)])) [1,1,1,1] ⟨[(2,bp 1 0),(5,bp 2 0)],[Ob.CW [bX (nC.map yx),aB nD,aB nE] jB,bu [aZ ([]),D.nil],bu [aZ y1.2.1,b9 3],af 9 1 (eN.map tx)]⟩):∀(n1:Nat) (dX:Int) (fK:bM) (eH:Int) (eL:Int) (dh:aI),mq y1 k1 n1 dX fK eH eL dh=some r->Ar Z N f201 (.p OL jB (ck.c r.1) (bw [aZ r.2.rel,cV 9 1 (r.2.args.map tx)])) [1,1,1,0,1,0] n1 (E7 jB y1 dX eH eL (fK.map yx) (dh.map tx)):=by
 intro n
 induction n with
 |zero=>intro dX fK eH eL dh h;simp[mq]at h
 |succ n1 ih1=>
  intro dX fK eH eL dh h;rw[mq]at h;refine aT fun N1 cq cS=>?_
  obtain⟨h27,h⟩|⟨h27,h⟩:=aK h
  ·obtain⟨B6,h31,h⟩:=aG h;obtain⟨h32,h⟩:=bf h;exact(((((aY.b h27).a [.n2 [0,1,2,3,4,5,6,7] [0,1,2,3,4,5,6,7] 3 5 [0,1] [0],.gp jK (ck.c B6.1) (aZ B6.2)]).w (show iz prog 223 (ck.c (⟨fK,eH,eL⟩:ck)) (ck.c B6.1) [] (aZ B6.2)from by simpa only[bI,bA,cF,cD,cI]using yC h31)).w (cA h32)).a [.cn [0,2,4,5,6] [0,1,2,5]]).cs hZ cS (E7 jB y1 (IntKind.i64.wrap (dX+1)) B6.1.i B6.1.h (B6.1.b.map yx) ((dh.map tx)++([[aZ B6.2]]))) (by simp only[mA]<;>rfl) (ih1 (IntKind.i64.wrap (dX+1)) B6.1.b B6.1.i B6.1.h (dh++([B6.2])) h)
  ·exact((aY.b h27).a [.hl 0 [2,5] [0,1,2,3]]).ex hZ cq (eA fK eH eL dh h)
theorem oy{aC:ck}{r:ck×aD}(h:jx aC=some r):iz prog 201 (ck.c aC) (ck.c r.1) [] (bw [aZ r.2.rel,cV 9 1 (r.2.args.map tx)]):=by
 refine L4 func201 OL 27 [bX (aC.b.map yx),aB aC.i,aB aC.h] [] [] fun hr jB Z hZ=>?_
 rw[jx]at h;obtain⟨y1,h2,h⟩:=aG h;refine((aY.hp jK (D4 h2)).a [.pb 2 1 9 1,.cn [0,2,4,5,6] [0,1,2,3]]).lp hZ (Lv hZ (fun nC nD nE eN h=>?_) fuel 0 y1.1.b y1.1.i y1.1.h ([]:aI) h);cases h;exact aY.ret hZ
def ir(aC:ck)(aa:bM):Option (ck×Int):=((cg aC ((aa.map jM).length:Int)).bind fun y1=>((fy aa y1.2).bind fun x3=>(some (y1.1,x3))))
theorem l9{aC:ck}{aa:bM}{r:ck×Int}(h:ir aC aa=some r):iz prog 78 (ck.c aC) (ck.c r.1) [cV 3 1 (aa.map jM)] (aB r.2):=by
 refine L4 func78 iy 12 [bX (aC.b.map yx),aB aC.i,aB aC.h] [b9 1] [af 3 1 (aa.map jM)] fun hr jB Z hZ=>?_
 rw[ir]at h;obtain⟨y1,h2,x3,h4,h⟩:=bR h;cases h;exact(((aY.hp iy (cQ h2)).i (fH jM 1 h4)).o 1 1 .uq (cL jM (dl h4))).ret hZ
def xZ(aC:ck)(aa:Bytes)(cv:Bytes):Option (ck×aU):=((ir aC ([3,4,4,5]:bM)).bind fun y1=>(some (y1.1,(⟨y1.2,(⟨[],[]⟩:aD),aa,cv⟩:aU))))
theorem KX{aC:ck}{aa:Bytes}{cv:Bytes}{r:ck×aU}(h:xZ aC aa cv=some r):iz prog 224 (ck.c aC) (ck.c r.1) [aZ aa,aZ cv] (bw [aB r.2.kind,aZ r.2.pat.rel,cV 9 1 (r.2.pat.args.map tx),aZ r.2.left,aZ r.2.right]):=by
 refine L4 func224 a2J 13 [bX (aC.b.map yx),aB aC.i,aB aC.h] [aZ aa,aZ cv] [] fun hr jB Z hZ=>?_
 rw[xZ]at h;obtain⟨y1,h2,h⟩:=aG h;cases h;exact(aY.hp OM (l9 h2)).ret hZ
def tU(aC:ck):Option (ck×aU):=((cg aC 5).bind fun y1=>(bif (y1.2:Int)==0 then((jx y1.1).bind fun y4=>(some (y4.1,(⟨1,y4.2,[],[]⟩:aU))))else(bif (y1.2:Int)==1 then((jx y1.1).bind fun y7=>(some (y7.1,(⟨1,y7.2,[],[]⟩:aU))))else(bif (y1.2:Int)==2 then((jx y1.1).bind fun GY=>(some (GY.1,(⟨2,GY.2,[],[]⟩:aU))))else((rG y1.1).bind fun Tw=>((rG Tw.1).bind fun Ai=>((xZ Ai.1 Tw.2 Ai.2).bind fun PO=>(some (PO.1,PO.2)))))))))
theorem CE{aC:ck}{r:ck×aU}(h:tU aC=some r):iz prog 200 (ck.c aC) (ck.c r.1) [] (bw [aB r.2.kind,aZ r.2.pat.rel,cV 9 1 (r.2.pat.args.map tx),aZ r.2.left,aZ r.2.right]):=by
 refine L4 func200 a2J 24 [bX (aC.b.map yx),aB aC.i,aB aC.h] [] [] fun hr jB Z hZ=>?_
 rw[tU]at h;obtain⟨y1,h2,h⟩:=aG h;obtain⟨h3,h⟩|⟨h3,h⟩:=aK h
 ·obtain⟨y4,h5,h⟩:=aG h;cases h;exact(((aY.hp iy (cQ h2)).r 2 h3).hp jK (oy h5)).ret hZ
 ·have lB:=((aY.hp iy (cQ h2)).b h3)
  obtain⟨h6,h⟩|⟨h6,h⟩:=aK h
  ·obtain⟨y7,h8,h⟩:=aG h;cases h;exact((lB.b h6).hp jK (oy h8)).ret hZ
  ·obtain⟨h9,h⟩|⟨h9,h⟩:=aK h
   ·obtain⟨GY,h11,h⟩:=aG h;cases h;exact(((lB.b h6).b h9).hp jK (oy h11)).ret hZ
   ·obtain⟨Tw,h13,Ai,h15,PO,h17,h⟩:=gW h;cases h;exact(((((lB.b h6).b h9).hp jK (yC h13)).hp jK (yC h15)).hp [[none,none,none],[none],[none]] (KX h17)).ret hZ
def mm(aC:Int)(aa:Int)(cv:Int):Option Bool:=(bif decide ((aC:Int)>=aa)then(some (decide ((aC:Int)<=cv)))else(some false))
theorem iF{aC:Int}{aa:Int}{cv:Int}{r:Bool}(h:mm aC aa cv=some r):Good prog 99 [aB aC,aB aa,aB cv] (bO r):=by
 refine gd func99 bZ 15 fun hr Z hZ=>?_
 rw[mm]at h;obtain⟨h1,h⟩|⟨h1,h⟩:=aK h
 ·cases h;exact(aY.r 4 h1).ret hZ
 ·obtain rfl:=aM h;exact(aY.r 4 h1).ret hZ
def kG(aC:Bytes)(k1:Option Bool):Nat->Int->Option Bool
 |0,_=>none
 |n1+1,oK=>(bif decide ((oK:Int)<(aC.length:Int))then((fy aC oK).bind fun b29=>((mm (IntKind.i64.wrap b29.toNat) 97 122).bind fun IV=>(bif !(IV)then((mm (IntKind.i64.wrap b29.toNat) 48 57).bind fun Ge=>(bif !(Ge)then(some false)else(kG aC k1 n1 (IntKind.i64.wrap (oK+1)))))else(kG aC k1 n1 (IntKind.i64.wrap (oK+1))))))else(k1))
def gT(aC:Bytes):Option Bool:=(kG aC ((mm (aC.length:Int) 1 8).bind fun PR=>(some PR)) fuel 0)
def NG(aC:Bytes)(oK:Int):St:=⟨[(0,aZ aC),(3,aB oK)],[]⟩
theorem Lf(hZ:Z.nt=27){aC:Bytes}{r:Bool}{k1:Option Bool}(eA:k1=some r->Ax Z N f125 (.q bZ (bO r)) [1,1] ⟨[(0,aZ aC)],[]⟩):∀(n1:Nat) (oK:Int),kG aC k1 n1 oK=some r->Ar Z N f125 (.q bZ (bO r)) [1,0,1,0] n1 (NG aC oK):=by
 intro n
 induction n with
 |zero=>intro oK h;simp[kG]at h
 |succ n1 ih1=>
  intro oK h;rw[kG]at h;refine aT fun N1 cq cS=>?_
  obtain⟨h28,h⟩|⟨h28,h⟩:=aK h
  ·obtain⟨b29,h30,IV,h32,h⟩:=bR h;have jQ:=(((aY.b h28).c h30).g (iF h32))
   obtain⟨h33,h⟩|⟨h33,h⟩:=aK h
   ·obtain⟨Ge,h35,h⟩:=aG h;have jz:=(((((jQ.r 3 h33).c h30).r 2 h33).g (iF h35)).r 2 h33)
    obtain⟨h36,h⟩|⟨h36,h⟩:=aK h
    ·obtain rfl:=aM h;exact(jz.b h36).ret hZ
    ·exact((jz.b h36).a [.cn [0,3] []]).cf hZ cS (ih1 (IntKind.i64.wrap (oK+1)) h)
   ·exact(((jQ.r 7 h33).F 1).a [.cn [0,3] []]).cf hZ cS (ih1 (IntKind.i64.wrap (oK+1)) h)
  ·exact((aY.b h28).a [.hl 0 [0] []]).ex hZ cq (eA h)
theorem fe{aC:Bytes}{r:Bool}(h:gT aC=some r):Good prog 125 [aZ aC] (bO r):=by
 refine gd func125 bZ 27 fun hr Z hZ=>?_
 rw[gT]at h;refine(aY.a [.cn [0,3] []]).lp hZ (Lf hZ (fun h=>?_) fuel 0 h);obtain⟨PR,h38,h⟩:=aG h;obtain rfl:=aM h;exact(aY.g (iF h38)).ret hZ
def ij(aC:Bytes):Option Bool:=(bif decide (((aC.length:Int):Int)>1)then((fy aC 0).bind fun b2=>(bif (b2.toNat:Int)==63 then((yF aC.length (some (aB 1)) none).bind fun p=>(fun l5 u6=>((gT ((aC.take u6).drop l5)).bind fun y8=>(some y8))) p.1 p.2)else(some false)))else(some false))
theorem gL{aC:Bytes}{r:Bool}(h:ij aC=some r):Good prog 148 [aZ aC] (bO r):=by
 refine gd func148 bZ 16 fun hr Z hZ=>?_
 rw[ij]at h;obtain⟨h1,h⟩|⟨h1,h⟩:=aK h
 ·obtain⟨b2,h3,h⟩:=aG h;have lB:=(((aY.r 2 h1).c h3).r 2 h1)
  obtain⟨h4,h⟩|⟨h4,h⟩:=aK h
  ·obtain⟨⟨l5,u6⟩,h7,h⟩:=aG h;obtain⟨y8,h9,h⟩:=aG h;obtain rfl:=aM h;exact((((((lB.r 2 h4).w h7).a [.cut l5 u6]).b h4).g (fe h9)).b h4).ret hZ
  ·obtain rfl:=aM h;exact(lB.r 4 h4).ret hZ
 ·obtain rfl:=aM h;exact((aY.r 4 h1).F 4).ret hZ
def fS(aC:aI)(aa:Bytes)(k1:Bool->aI->Option aI):aI->Nat->Bool->aI->Option aI
 | [],i1,dX,bY=>(k1 dX bY)
 |bg::cj,i1,dX,bY=>(bif !(dX)then(bif !(Op.bytesLess bg aa)then(bif !((bg:Bytes)==aa)then(bif room ((bY.map tx).length+([[aZ aa]]).length) 16 then(bif room (((bY.map tx)++([[aZ aa]])).length+([[aZ bg]]).length) 16 then(fS aC aa k1 cj (i1+1) true ((bY++([aa]))++([bg])))else none)else none)else(bif room ((bY.map tx).length+([[aZ bg]]).length) 16 then(fS aC aa k1 cj (i1+1) true (bY++([bg])))else none))else(bif room ((bY.map tx).length+([[aZ bg]]).length) 16 then(fS aC aa k1 cj (i1+1) dX (bY++([bg])))else none))else(bif room ((bY.map tx).length+([[aZ bg]]).length) 16 then(fS aC aa k1 cj (i1+1) dX (bY++([bg])))else none))
def nY(aC:aI)(aa:Bytes):Option aI:=(fS aC aa (fun(wU:Bool) (cM:aI)=>(bif !(wU)then(bif room ((cM.map tx).length+([[aZ aa]]).length) 16 then(some (cM++([aa])))else none)else(some cM))) aC 0 false ([]:aI))
def vN(aC:aI)(aa:Bytes)(dX:Bool)(W1:List aR)(dL:Int):St:=⟨[(0,bX (aC.map tx)),(1,aZ aa),(5,b9 0),(6,bO dX),(7,aB dL)],[af 9 1 W1]⟩
theorem NQ(hZ:Z.nt=49){aC:aI}{aa:Bytes}{r:aI}{k1:Bool->aI->Option aI}(eA:∀(wU:Bool) (cM:aI),k1 wU cM=some r->Ax Z N f221 (.q zH (cV 9 1 (r.map tx))) [1,1,1,1] ⟨[(1,aZ aa),(5,b9 0),(6,bO wU)],[af 9 1 (cM.map tx)]⟩)(hm1:aC.length<=maxLen):∀(rest:aI) (i1:Nat) (dX:Bool) (bY:aI),aC.drop i1=rest->fS aC aa k1 rest i1 dX bY=some r->Ar Z N f221 (.q zH (cV 9 1 (r.map tx))) [1,1,1,0,1,0] (rest.length+1) (vN aC aa dX (bY.map tx) (i1:Int)):=by
 intro rest
 induction rest with
 |nil=>
  intro i1 dX bY bD h;rw[fS]at h;refine aT fun N1 cq cS=>?_
  exact((aY.ge tx bD).a [.hl 0 [1,5,6] [0]]).ex hZ cq (eA dX bY h)
 |cons bg cj ih1=>
  intro i1 dX bY bD h;rw[fS]at h;refine aT fun N1 cq cS=>?_
  obtain⟨h58,h⟩|⟨h58,h⟩:=aK h
  ·have jQ:=((((aY.lt tx bD).r 3 h58).l (bK tx 1 (dc bD) rfl)).r 4 h58)
   obtain⟨h59,h⟩|⟨h59,h⟩:=aK h
   ·have jz:=((jQ.b h59).l (bK tx 1 (dc bD) rfl))
    obtain⟨h60,h⟩|⟨h60,h⟩:=aK h
    ·obtain⟨h61,h⟩:=bf h;obtain⟨h62,h⟩:=bf h;exact(((((jz.b h60).w (cA h61)).l (bK tx 1 (dc bD) rfl)).w (cA h62)).a [.cn [0,1,5,6,7] [4]]).cs hZ cS (vN aC aa true (((bY.map tx)++([[aZ aa]]))++([[aZ bg]])) (IntKind.i64.wrap ((i1:Int)+1))) (by simp only[iS bD hm1,mA]<;>rfl) (ih1 (i1+1) true ((bY++([aa]))++([bg])) (dn bD) h)
    ·obtain⟨h63,h⟩:=bf h;exact((((jz.b h60).l (bK tx 1 (dc bD) rfl)).w (cA h63)).a [.cn [0,1,5,6,7] [2]]).cs hZ cS (vN aC aa true ((bY.map tx)++([[aZ bg]])) (IntKind.i64.wrap ((i1:Int)+1))) (by simp only[iS bD hm1,mA]<;>rfl) (ih1 (i1+1) true (bY++([bg])) (dn bD) h)
   ·obtain⟨h64,h⟩:=bf h;exact((((jQ.b h59).l (bK tx 1 (dc bD) rfl)).w (cA h64)).a [.cn [0,1,5,6,7] [2]]).cs hZ cS (vN aC aa dX ((bY.map tx)++([[aZ bg]])) (IntKind.i64.wrap ((i1:Int)+1))) (by simp only[iS bD hm1,mA]<;>rfl) (ih1 (i1+1) dX (bY++([bg])) (dn bD) h)
  ·obtain⟨h65,h⟩:=bf h;exact((((((aY.lt tx bD).r 7 h58).F 1).l (bK tx 1 (dc bD) rfl)).w (cA h65)).a [.cn [0,1,5,6,7] [2]]).cs hZ cS (vN aC aa dX ((bY.map tx)++([[aZ bg]])) (IntKind.i64.wrap ((i1:Int)+1))) (by simp only[iS bD hm1,mA]<;>rfl) (ih1 (i1+1) dX (bY++([bg])) (dn bD) h)
theorem nZ{aC:aI}{aa:Bytes}{r:aI}(h:nY aC aa=some r):Good prog 221 [bX (aC.map tx),aZ aa] (cV 9 1 (r.map tx)):=by
 refine gd func221 zH 49 fun hr Z hZ=>?_
 rw[nY]at h;refine(aY.a [.cn [0,1,5,6,7] [0]]).lp hZ (NQ hZ (fun wU cM h=>?_) (by have:=(gX.sl (hr _ (aE (i:=0) rfl))).1;simpa using this) aC 0 false ([]:aI) rfl h);obtain⟨h66,h⟩|⟨h66,h⟩:=aK h
 ·obtain⟨h67,h⟩:=bf h;cases h;exact((aY.b h66).w (cA h67)).rts hZ (cV 9 1 ((cM.map tx)++([[aZ aa]]))) (by first|rfl| (simp only[mA]<;>rfl))
 ·obtain rfl:=aM h;exact(aY.b h66).ret hZ
def mj(aC:aD)(k1:aI->Option aI):aI->Nat->aI->Option aI
 | [],i1,bn=>(k1 bn)
 |bg::cj,i1,bn=>((ij bg).bind fun PR=>(bif PR then((nY bn bg).bind fun XB=>(mj aC k1 cj (i1+1) XB))else(mj aC k1 cj (i1+1) bn)))
def pN(aC:aD):Option aI:=(mj aC (fun(cM:aI)=>(some cM)) aC.args 0 ([]:aI))
def NO(aC:aD)(W0:List aR)(dL:Int):St:=⟨[(1,bp 0 0),(3,b9 1),(4,aB dL)],[bu (aD.c aC),af 9 1 W0]⟩
def Cn(r:aI):Kd:=.q zH (cV 9 1 (r.map tx))
theorem Lr(hZ:Z.nt=27){aC:aD}{r:aI}{k1:aI->Option aI}(eA:∀(cM:aI),k1 cM=some r->Ax Z N f195 (Cn r) [1,1,1] ⟨[(3,b9 0)],[af 9 1 (cM.map tx)]⟩)(hm1:aC.args.length<=maxLen):∀(rest:aI) (i1:Nat) (bn:aI),aC.args.drop i1=rest->mj aC k1 rest i1 bn=some r->Ar Z N f195 (Cn r) [1,1,0,1,0] (rest.length+1) (NO aC (bn.map tx) (i1:Int)):=by
 intro rest
 induction rest with
 |nil=>
  intro i1 bn bD h;rw[mj]at h;refine aT fun N1 cq cS=>?_
  exact((aY.ge tx bD).a [.hl 0 [3] [1]]).ex hZ cq (eA bn h)
 |cons bg cj ih1=>
  intro i1 bn bD h;rw[mj]at h;refine aT fun N1 cq cS=>?_
  obtain⟨PR,h38,h⟩:=aG h;have fF:=(((aY.lt tx bD).l (bK tx 1 (dc bD) rfl)).g (gL h38))
  obtain⟨h39,h⟩|⟨h39,h⟩:=aK h
  ·obtain⟨XB,h41,h⟩:=aG h;exact((((fF.b h39).l (bK tx 1 (dc bD) rfl)).g (nZ h41)).a [.cn [1,3,4] [0,2]]).ct hZ cS (iS bD hm1) (ih1 (i1+1) XB (dn bD) h)
  ·exact((fF.b h39).a [.cn [1,3,4] [0,1]]).ct hZ cS (iS bD hm1) (ih1 (i1+1) bn (dn bD) h)
theorem rX{aC:aD}{r:aI}(h:pN aC=some r):Good prog 195 [bw (aD.c aC)] (cV 9 1 (r.map tx)):=by
 refine gd func195 zH 27 fun hr Z hZ=>?_
 rw[pN]at h;refine(aY.a [.cn [1,3,4] [0,1]]).lp hZ (Lr hZ (fun cM h=>?_) (by have:=(gX.sl (gX.agg (hr _ (aE (i:=0) rfl)) (.sl (aC.args.map tx)) (by simp))).1;simpa using this) aC.args 0 ([]:aI) rfl h);obtain rfl:=aM h;exact aY.ret hZ
def kX(aC:aO)(aa:Int)(i1:Nat)(Mo:aI)(k2:aI->Option aI):aI->Nat->aI->Option aI
 | [],i2,fI=>(k2 fI)
 |jL::tK,i2,fI=>((nY fI jL).bind fun a05=>(kX aC aa i1 Mo k2 tK (i2+1) a05))
def gq(aC:aO)(aa:Int)(k1:aI->Option aI):ay->Nat->aI->Option aI
 | [],i1,bn=>(k1 bn)
 |bg::cj,i1,bn=>(bif decide (((i1:Int):Int)<aa)then(bif (bg.kind:Int)==1 then((pN bg.pat).bind fun Mo=>(bif decide (Mo.length<=maxLen)then(kX aC aa i1 Mo (fun(tX:aI)=>(gq aC aa k1 cj (i1+1) tX)) Mo 0 bn)else none))else(gq aC aa k1 cj (i1+1) bn))else(k1 bn))
def mX(aC:aO)(aa:Int):Option aI:=(gq aC aa (fun(cM:aI)=>(some cM)) aC.conds 0 ([]:aI))
def J8(aC:aO)(aa:Int)(W0:List aR)(dL:Int):St:=⟨[(1,aB aa),(2,bp 0 0),(5,b9 1),(6,aB dL)],[bu (aO.c aC),af 9 1 W0]⟩
def J9(aC:aO)(aa:Int)(i1:Nat)(Mo:aI)(W0:List aR)(dL:Int):St:=⟨[(1,aB aa),(2,bp 0 0),(5,b9 1),(6,aB (i1:Int)),(7,b9 2),(8,aB dL)],[bu (aO.c aC),af 9 1 W0,af 9 1 (Mo.map tx)]⟩
theorem HR(hZ:Z.nt=49){aC:aO}{aa:Int}{i1:Nat}{Mo:aI}{r:aI}{k2:aI->Option aI}(zc:∀(tX:aI),k2 tX=some r->Ax Z N f188 (Cn r) [1,1,0,1,0,0,1,1] ⟨[(1,aB aa),(2,bp 0 0),(5,b9 1),(6,aB (i1:Int))],[bu (aO.c aC),af 9 1 (tX.map tx)]⟩)(hm2:Mo.length<=maxLen):∀(rest:aI) (i2:Nat) (fI:aI),Mo.drop i2=rest->kX aC aa i1 Mo k2 rest i2 fI=some r->Ar Z N f188 (Cn r) [1,1,0,1,0,0,1,0,0,1,0,1,1,0] (rest.length+1) (J9 aC aa i1 Mo (fI.map tx) (i2:Int)):=by
 intro rest
 induction rest with
 |nil=>
  intro i2 fI hd2 h;rw[kX]at h;refine aT fun N2 uX qp=>?_
  exact((aY.ge tx hd2).a [.hl 3 [1,2,5,6] [0,1]]).ex hZ uX (zc fI h)
 |cons jL tK ih2=>
  intro i2 fI hd2 h;rw[kX]at h;refine aT fun N2 uX qp=>?_
  obtain⟨a05,h184,h⟩:=aG h;exact(((((aY.lt tx hd2).i (fG tx 1 (dc hd2))).o 1 1 .uq (cL tx (dc hd2))).g (nZ h184)).a [.cn [1,2,5,6,7,8] [0,3,2]]).ct hZ qp (iS hd2 hm2) (ih2 (i2+1) a05 (dn hd2) h)
theorem HQ(hZ:Z.nt=49){aC:aO}{aa:Int}{r:aI}{k1:aI->Option aI}(eA:∀(cM:aI),k1 cM=some r->Ax Z N f188 (Cn r) [1,1,1] ⟨[(5,b9 0)],[af 9 1 (cM.map tx)]⟩)(hm1:aC.conds.length<=maxLen):∀(rest:ay) (i1:Nat) (bn:aI),aC.conds.drop i1=rest->gq aC aa k1 rest i1 bn=some r->Ar Z N f188 (Cn r) [1,1,0,1,0] (rest.length+1) (J8 aC aa (bn.map tx) (i1:Int)):=by
 intro rest
 induction rest with
 |nil=>
  intro i1 bn bD h;rw[gq]at h;refine aT fun N1 cq cS=>?_
  exact((((((aY.ge aU.c bD).ge aU.c bD).ge aU.c bD).ge aU.c bD).F 1).a [.hl 0 [5] [1]]).ex hZ cq (eA bn h)
 |cons bg cj ih1=>
  intro i1 bn bD h;rw[gq]at h;refine aT fun N1 cq cS=>?_
  have jQ:=((((aY.lt aU.c bD).lt aU.c bD).lt aU.c bD).lt aU.c bD)
  obtain⟨h157,h⟩|⟨h157,h⟩:=aK h
  ·have jz:=((jQ.b h157).l (bK aU.c 5 (dc bD) rfl))
   obtain⟨h158,h⟩|⟨h158,h⟩:=aK h
   ·obtain⟨Mo,h160,h⟩:=aG h;obtain⟨h185,h⟩:=bf h;refine((((jz.b h158).l (bK aU.c 5 (dc bD) rfl)).g (rX h160)).a [.cn [1,2,5,6,7,8] [0,1,2]]).lp hZ (HR hZ (fun tX h=>?_) (bh h185) Mo 0 bn rfl h);exact(aY.a [.cn [1,2,5,6] [0,1]]).ct hZ cS (iS bD hm1) (ih1 (i1+1) tX (dn bD) h)
   ·exact((jz.b h158).a [.cn [1,2,5,6] [0,1]]).ct hZ cS (iS bD hm1) (ih1 (i1+1) bn (dn bD) h)
  ·exact((jQ.b h157).a [.hl 0 [5] [1]]).ex hZ cq (eA bn h)
theorem lH{aC:aO}{aa:Int}{r:aI}(h:mX aC aa=some r):Good prog 188 [bw (aO.c aC),aB aa] (cV 9 1 (r.map tx)):=by
 refine gd func188 zH 49 fun hr Z hZ=>?_
 rw[mX]at h;refine(aY.a [.cn [1,2,5,6] [0,1]]).lp hZ (HQ hZ (fun cM h=>?_) (by have:=(gX.sl (gX.agg (hr _ (aE (i:=0) rfl)) (.sl (aC.conds.map aU.c)) (by simp))).1;simpa using this) aC.conds 0 ([]:aI) rfl h);obtain rfl:=aM h;exact aY.ret hZ
def kp(aC:aI)(aa:Bytes)(k1:Option Bool):aI->Nat->Option Bool
 | [],i1=>(k1)
 |bg::cj,i1=>(bif (bg:Bytes)==aa then(some true)else(kp aC aa k1 cj (i1+1)))
def iE(aC:aI)(aa:Bytes):Option Bool:=(kp aC aa (some false) aC 0)
def JO(aC:aI)(aa:Bytes)(dL:Int):St:=⟨[(0,bX (aC.map tx)),(1,aZ aa),(5,aB dL)],[]⟩
theorem Hh(hZ:Z.nt=18){aC:aI}{aa:Bytes}{r:Bool}{k1:Option Bool}(eA:k1=some r->Ax Z N f191 (.q bZ (bO r)) [1,1] ⟨[],[]⟩)(hm1:aC.length<=maxLen):∀(rest:aI) (i1:Nat),aC.drop i1=rest->kp aC aa k1 rest i1=some r->Ar Z N f191 (.q bZ (bO r)) [1,0,1,0] (rest.length+1) (JO aC aa (i1:Int)):=by
 intro rest
 induction rest with
 |nil=>
  intro i1 bD h;rw[kp]at h;refine aT fun N1 cq cS=>?_
  exact((aY.ge tx bD).a [.hl 0 [] []]).ex hZ cq (eA h)
 |cons bg cj ih1=>
  intro i1 bD h;rw[kp]at h;refine aT fun N1 cq cS=>?_
  have fF:=((aY.lt tx bD).l (bK tx 1 (dc bD) rfl))
  obtain⟨h13,h⟩|⟨h13,h⟩:=aK h
  ·obtain rfl:=aM h;exact(fF.b h13).ret hZ
  ·exact((fF.b h13).a [.cn [0,1,5] []]).ct hZ cS (iS bD hm1) (ih1 (i1+1) (dn bD) h)
theorem lI{aC:aI}{aa:Bytes}{r:Bool}(h:iE aC aa=some r):Good prog 191 [bX (aC.map tx),aZ aa] (bO r):=by
 refine gd func191 bZ 18 fun hr Z hZ=>?_
 rw[iE]at h;refine(aY.a [.cn [0,1,5] []]).lp hZ (Hh hZ (fun h=>?_) (by have:=(gX.sl (hr _ (aE (i:=0) rfl))).1;simpa using this) aC 0 rfl h);obtain rfl:=aM h;exact aY.ret hZ
def tR(aC:Bytes):Option Bool:=((gT aC).bind fun y1=>(bif y1 then((fy aC 0).bind fun b4=>((mm (IntKind.i64.wrap b4.toNat) 97 122).bind fun y6=>(some y6)))else(some false)))
theorem oh{aC:Bytes}{r:Bool}(h:tR aC=some r):Good prog 126 [aZ aC] (bO r):=by
 refine gd func126 bZ 11 fun hr Z hZ=>?_
 rw[tR]at h;obtain⟨y1,h2,h⟩:=aG h;obtain⟨h3,h⟩|⟨h3,h⟩:=aK h
 ·obtain⟨b4,h5,y6,h7,h⟩:=bR h;obtain rfl:=aM h;exact((((((aY.g (fe h2)).r 2 h3).c h5).r 2 h3).g (iF h7)).b h3).ret hZ
 ·obtain rfl:=aM h;exact((aY.g (fe h2)).r 5 h3).ret hZ
def jw(aC:Bytes):Option Bool:=((gT aC).bind fun y1=>(bif y1 then(some true)else((ij aC).bind fun y4=>(some y4))))
theorem mH{aC:Bytes}{r:Bool}(h:jw aC=some r):Good prog 205 [aZ aC] (bO r):=by
 refine gd func205 bZ 9 fun hr Z hZ=>?_
 rw[jw]at h;obtain⟨y1,h2,h⟩:=aG h;obtain⟨h3,h⟩|⟨h3,h⟩:=aK h
 ·obtain rfl:=aM h;exact((aY.g (fe h2)).r 3 h3).ret hZ
 ·obtain⟨y4,h5,h⟩:=aG h;obtain rfl:=aM h;exact((((aY.g (fe h2)).r 2 h3).g (gL h5)).b h3).ret hZ
def o7(aC:aD)(k1:Option Bool):aI->Nat->Option Bool
 | [],i1=>(k1)
 |bg::cj,i1=>((jw bg).bind fun L7=>(bif !(L7)then(some false)else(o7 aC k1 cj (i1+1))))
def j8(aC:aD):Option Bool:=(o7 aC ((tR aC.rel).bind fun EY=>(bif EY then(some (decide ((((aC.args.map tx).length:Int):Int)<=3)))else(some false))) aC.args 0)
def JF(aC:aD)(dL:Int):St:=⟨[(1,bp 0 0),(3,aB dL)],[bu (aD.c aC)]⟩
theorem HW(hZ:Z.nt=27){aC:aD}{r:Bool}{k1:Option Bool}(eA:k1=some r->Ax Z N f157 (.q bZ (bO r)) [1,1] ⟨[(1,bp 0 0)],[bu (aD.c aC)]⟩)(hm1:aC.args.length<=maxLen):∀(rest:aI) (i1:Nat),aC.args.drop i1=rest->o7 aC k1 rest i1=some r->Ar Z N f157 (.q bZ (bO r)) [1,0,1,0] (rest.length+1) (JF aC (i1:Int)):=by
 intro rest
 induction rest with
 |nil=>
  intro i1 bD h;rw[o7]at h;refine aT fun N1 cq cS=>?_
  exact((aY.ge tx bD).a [.hl 0 [1] [0]]).ex hZ cq (eA h)
 |cons bg cj ih1=>
  intro i1 bD h;rw[o7]at h;refine aT fun N1 cq cS=>?_
  obtain⟨L7,h22,h⟩:=aG h;have fF:=(((aY.lt tx bD).l (bK tx 1 (dc bD) rfl)).g (mH h22))
  obtain⟨h23,h⟩|⟨h23,h⟩:=aK h
  ·obtain rfl:=aM h;exact(fF.b h23).ret hZ
  ·exact((fF.b h23).a [.cn [1,3] [0]]).ct hZ cS (iS bD hm1) (ih1 (i1+1) (dn bD) h)
theorem fm{aC:aD}{r:Bool}(h:j8 aC=some r):Good prog 157 [bw (aD.c aC)] (bO r):=by
 refine gd func157 bZ 27 fun hr Z hZ=>?_
 rw[j8]at h;refine(aY.a [.cn [1,3] [0]]).lp hZ (HW hZ (fun h=>?_) (by have:=(gX.sl (gX.agg (hr _ (aE (i:=0) rfl)) (.sl (aC.args.map tx)) (by simp))).1;simpa using this) aC.args 0 rfl h);obtain⟨EY,h25,h⟩:=aG h;obtain⟨h26,h⟩|⟨h26,h⟩:=aK h
 ·cases h;exact((aY.g (oh h25)).r 5 h26).ret hZ
 ·obtain rfl:=aM h;exact((aY.g (oh h25)).r 5 h26).ret hZ
def rC(aC:aU):Option Bool:=(bif (aC.kind:Int)==1 then((j8 aC.pat).bind fun y2=>(bif y2 then(bif (aC.left:Bytes)==([])then(some ((aC.right:Bytes)==([])))else(some false))else(some false)))else(bif (aC.kind:Int)==2 then((j8 aC.pat).bind fun y7=>(bif y7 then(bif (aC.left:Bytes)==([])then(some ((aC.right:Bytes)==([])))else(some false))else(some false)))else(bif (aC.kind:Int)==3 then(bif (aC.pat.rel:Bytes)==([])then(bif (((aC.pat.args.map tx).length:Int):Int)==0 then((jw aC.left).bind fun Ai=>(bif Ai then((jw aC.right).bind fun Ce=>(some Ce))else(some false)))else(some false))else(some false))else(bif (aC.kind:Int)==4 then(bif (aC.pat.rel:Bytes)==([])then(bif (((aC.pat.args.map tx).length:Int):Int)==0 then((jw aC.left).bind fun rU=>(bif rU then((jw aC.right).bind fun xm=>(some xm))else(some false)))else(some false))else(some false))else(bif (aC.kind:Int)==5 then(bif (aC.pat.rel:Bytes)==([])then(bif (((aC.pat.args.map tx).length:Int):Int)==0 then((jw aC.left).bind fun B6=>(bif B6 then((jw aC.right).bind fun ue=>(some ue))else(some false)))else(some false))else(some false))else(some false))))))
theorem jd{aC:aU}{r:Bool}(h:rC aC=some r):Good prog 189 [bw (aU.c aC)] (bO r):=by
 refine gd func189 bZ 46 fun hr Z hZ=>?_
 rw[rC]at h;obtain⟨h1,h⟩|⟨h1,h⟩:=aK h
 ·obtain⟨y2,h3,h⟩:=aG h;have lB:=((aY.r 2 h1).g (fm h3))
  obtain⟨h4,h⟩|⟨h4,h⟩:=aK h
  ·have fF:=(lB.r 4 h4)
   obtain⟨h5,h⟩|⟨h5,h⟩:=aK h
   ·cases h;exact(fF.r 4 h5).ret hZ
   ·obtain rfl:=aM h;exact(fF.r 4 h5).ret hZ
  ·obtain rfl:=aM h;exact((lB.r 4 h4).F 4).ret hZ
 ·obtain⟨h6,h⟩|⟨h6,h⟩:=aK h
  ·obtain⟨y7,h8,h⟩:=aG h;have jQ:=(((aY.b h1).b h6).g (fm h8))
   obtain⟨h9,h⟩|⟨h9,h⟩:=aK h
   ·have jz:=(jQ.r 4 h9)
    obtain⟨h10,h⟩|⟨h10,h⟩:=aK h
    ·cases h;exact(jz.r 4 h10).ret hZ
    ·obtain rfl:=aM h;exact(jz.r 4 h10).ret hZ
   ·obtain rfl:=aM h;exact((jQ.r 4 h9).F 4).ret hZ
  ·have uc:=((aY.b h1).b h6)
   obtain⟨h11,h⟩|⟨h11,h⟩:=aK h
   ·have xf:=(uc.r 2 h11)
    obtain⟨h12,h⟩|⟨h12,h⟩:=aK h
    ·have Ak:=(xf.r 6 h12)
     obtain⟨h13,h⟩|⟨h13,h⟩:=aK h
     ·obtain⟨Ai,h15,h⟩:=aG h;have Fb:=(((Ak.r 3 h13).g (mH h15)).b h13)
      obtain⟨h16,h⟩|⟨h16,h⟩:=aK h
      ·obtain⟨Ce,h18,h⟩:=aG h;obtain rfl:=aM h;exact(((Fb.r 3 h16).g (mH h18)).b h16).ret hZ
      ·obtain rfl:=aM h;exact(Fb.r 4 h16).ret hZ
     ·obtain rfl:=aM h;exact((Ak.r 4 h13).F 4).ret hZ
    ·obtain rfl:=aM h;exact((xf.r 6 h12).F 8).ret hZ
   ·obtain⟨h19,h⟩|⟨h19,h⟩:=aK h
    ·have OO:=((uc.b h11).r 2 h19)
     obtain⟨h20,h⟩|⟨h20,h⟩:=aK h
     ·have EP:=(OO.r 6 h20)
      obtain⟨h21,h⟩|⟨h21,h⟩:=aK h
      ·obtain⟨rU,h23,h⟩:=aG h;have MZ:=(((EP.r 3 h21).g (mH h23)).b h21)
       obtain⟨h24,h⟩|⟨h24,h⟩:=aK h
       ·obtain⟨xm,h26,h⟩:=aG h;obtain rfl:=aM h;exact(((MZ.r 3 h24).g (mH h26)).b h24).ret hZ
       ·obtain rfl:=aM h;exact(MZ.r 4 h24).ret hZ
      ·obtain rfl:=aM h;exact((EP.r 4 h21).F 4).ret hZ
     ·obtain rfl:=aM h;exact((OO.r 6 h20).F 8).ret hZ
    ·have Dc:=((uc.b h11).b h19)
     obtain⟨h27,h⟩|⟨h27,h⟩:=aK h
     ·obtain⟨h28,h⟩|⟨h28,h⟩:=aK h
      ·have Ma:=((Dc.b h27).r 6 h28)
       obtain⟨h29,h⟩|⟨h29,h⟩:=aK h
       ·obtain⟨B6,h31,h⟩:=aG h;have Mb:=(((Ma.r 3 h29).g (mH h31)).b h29)
        obtain⟨h32,h⟩|⟨h32,h⟩:=aK h
        ·obtain⟨ue,h34,h⟩:=aG h;obtain rfl:=aM h;exact(((Mb.r 3 h32).g (mH h34)).b h32).ret hZ
        ·obtain rfl:=aM h;exact(Mb.r 4 h32).ret hZ
       ·obtain rfl:=aM h;exact((Ma.r 4 h29).F 4).ret hZ
      ·obtain rfl:=aM h;exact(((Dc.b h27).r 6 h28).F 8).ret hZ
     ·obtain rfl:=aM h;exact(Dc.b h27).ret hZ
def oC(aC:aU):Option aI:=((pN aC.pat).bind fun y1=>((ij aC.left).bind fun y3=>(bif y3 then((nY y1 aC.left).bind fun y6=>((ij aC.right).bind fun y8=>(bif y8 then((nY y6 aC.right).bind fun yb=>(some yb))else(some y6))))else((ij aC.right).bind fun xN=>(bif xN then((nY y1 aC.right).bind fun PO=>(some PO))else(some y1))))))
theorem sj{aC:aU}{r:aI}(h:oC aC=some r):Good prog 190 [bw (aU.c aC)] (cV 9 1 (r.map tx)):=by
 refine gd func190 zH 22 fun hr Z hZ=>?_
 rw[oC]at h;obtain⟨y1,h2,y3,h4,h⟩:=bR h;have lB:=((aY.g (rX h2)).g (gL h4))
 obtain⟨h5,h⟩|⟨h5,h⟩:=aK h
 ·obtain⟨y6,h7,y8,h9,h⟩:=bR h;have fF:=(((lB.b h5).g (nZ h7)).g (gL h9))
  obtain⟨h10,h⟩|⟨h10,h⟩:=aK h
  ·obtain⟨yb,h12,h⟩:=aG h;obtain rfl:=aM h;exact((fF.b h10).g (nZ h12)).ret hZ
  ·obtain rfl:=aM h;exact(fF.b h10).ret hZ
 ·obtain⟨xN,h14,h⟩:=aG h;have jQ:=((lB.b h5).g (gL h14))
  obtain⟨h15,h⟩|⟨h15,h⟩:=aK h
  ·obtain⟨PO,h17,h⟩:=aG h;obtain rfl:=aM h;exact((jQ.b h15).g (nZ h17)).ret hZ
  ·obtain rfl:=aM h;exact(jQ.b h15).ret hZ
def tS(aC:aU):Option Bool:=((rC aC).bind fun y1=>(bif y1 then(some (decide ((aC.kind:Int)>=3)))else(some false)))
theorem uj{aC:aU}{r:Bool}(h:tS aC=some r):Good prog 192 [bw (aU.c aC)] (bO r):=by
 refine gd func192 bZ 10 fun hr Z hZ=>?_
 rw[tS]at h;obtain⟨y1,h2,h⟩:=aG h;obtain⟨h3,h⟩|⟨h3,h⟩:=aK h
 ·cases h;exact((aY.g (jd h2)).r 4 h3).ret hZ
 ·obtain rfl:=aM h;exact((aY.g (jd h2)).r 4 h3).ret hZ
def gi(aC:aO)(aa:Int)(cv:Bytes)(k1:Option Bool):ay->Nat->Option Bool
 | [],i1=>(k1)
 |bg::cj,i1=>(bif ((i1:Int):Int) != aa then((oC bg).bind fun Ge=>((iE Ge cv).bind fun Oa=>(bif Oa then(some true)else(gi aC aa cv k1 cj (i1+1)))))else(gi aC aa cv k1 cj (i1+1)))
def jH(aC:aO)(cv:Bytes)(k2:Option Bool):fA->Nat->Option Bool
 | [],i2=>(k2)
 |jL::tK,i2=>((pN jL.pat).bind fun Va=>((iE Va cv).bind fun y69=>(bif y69 then(some true)else(jH aC cv k2 tK (i2+1)))))
def p9(aC:aO)(aa:Int)(cv:Bytes):Option Bool:=(gi aC aa cv (jH aC cv (some false) aC.dD 0) aC.conds 0)
def GP(aC:aO)(aa:Int)(cv:Bytes)(dL:Int):St:=⟨[(1,aB aa),(2,aZ cv),(3,bp 0 0),(7,aB dL)],[bu (aO.c aC)]⟩
theorem FC(hZ:Z.nt=45){aC:aO}{aa:Int}{cv:Bytes}{r:Bool}{k1:Option Bool}(eA:k1=some r->Ax Z N f193 (.q bZ (bO r)) [1,1] ⟨[(2,aZ cv),(3,bp 0 0)],[bu (aO.c aC)]⟩)(hm1:aC.conds.length<=maxLen):∀(rest:ay) (i1:Nat),aC.conds.drop i1=rest->gi aC aa cv k1 rest i1=some r->Ar Z N f193 (.q bZ (bO r)) [1,0,1,0] (rest.length+1) (GP aC aa cv (i1:Int)):=by
 intro rest
 induction rest with
 |nil=>
  intro i1 bD h;rw[gi]at h;refine aT fun N1 cq cS=>?_
  exact((aY.ge aU.c bD).a [.hl 0 [2,3] [0]]).ex hZ cq (eA h)
 |cons bg cj ih1=>
  intro i1 bD h;rw[gi]at h;refine aT fun N1 cq cS=>?_
  obtain⟨h33,h⟩|⟨h33,h⟩:=aK h
  ·obtain⟨Ge,h35,Oa,h37,h⟩:=bR h;have jQ:=((((((((aY.lt aU.c bD).r 4 h33).l (bK aU.c 5 (dc bD) rfl)).r 2 h33).g (sj h35)).r 2 h33).g (lI h37)).b h33)
   obtain⟨h38,h⟩|⟨h38,h⟩:=aK h
   ·obtain rfl:=aM h;exact(jQ.b h38).ret hZ
   ·exact((jQ.b h38).a [.cn [1,2,3,7] [0]]).ct hZ cS (iS bD hm1) (ih1 (i1+1) (dn bD) h)
  ·exact((((aY.lt aU.c bD).r 9 h33).F 1).a [.cn [1,2,3,7] [0]]).ct hZ cS (iS bD hm1) (ih1 (i1+1) (dn bD) h)
def GQ(aC:aO)(cv:Bytes)(dL:Int):St:=⟨[(2,aZ cv),(3,bp 0 0),(8,aB dL)],[bu (aO.c aC)]⟩
theorem FD(hZ:Z.nt=45){aC:aO}{cv:Bytes}{r:Bool}{k2:Option Bool}(zc:k2=some r->Ax Z N f193 (.q bZ (bO r)) [1,1,1] ⟨[],[]⟩)(hm2:aC.dD.length<=maxLen):∀(rest:fA) (i2:Nat),aC.dD.drop i2=rest->jH aC cv k2 rest i2=some r->Ar Z N f193 (.q bZ (bO r)) [1,1,0,1,0] (rest.length+1) (GQ aC cv (i2:Int)):=by
 intro rest
 induction rest with
 |nil=>
  intro i2 hd2 h;rw[jH]at h;refine aT fun N2 uX qp=>?_
  exact((aY.ge Action.c hd2).a [.hl 0 [] []]).ex hZ uX (zc h)
 |cons jL tK ih2=>
  intro i2 hd2 h;rw[jH]at h;refine aT fun N2 uX qp=>?_
  obtain⟨Va,h68,y69,h70,h⟩:=bR h;have jz:=((((aY.lt Action.c hd2).l (bK Action.c 3 (dc hd2) rfl)).g (rX h68)).g (lI h70))
  obtain⟨h71,h⟩|⟨h71,h⟩:=aK h
  ·obtain rfl:=aM h;exact(jz.b h71).ret hZ
  ·exact((jz.b h71).a [.cn [2,3,8] [0]]).ct hZ qp (iS hd2 hm2) (ih2 (i2+1) (dn hd2) h)
theorem yT{aC:aO}{aa:Int}{cv:Bytes}{r:Bool}(h:p9 aC aa cv=some r):Good prog 193 [bw (aO.c aC),aB aa,aZ cv] (bO r):=by
 refine gd func193 bZ 45 fun hr Z hZ=>?_
 rw[p9]at h;refine(aY.a [.cn [1,2,3,7] [0]]).lp hZ (FC hZ (fun h=>?_) (by have:=(gX.sl (gX.agg (hr _ (aE (i:=0) rfl)) (.sl (aC.conds.map aU.c)) (by simp))).1;simpa using this) aC.conds 0 rfl h);refine(aY.a [.cn [2,3,8] [0]]).lp hZ (FD hZ (fun h=>?_) (by have:=(gX.sl (gX.agg (hr _ (aE (i:=0) rfl)) (.sl (aC.dD.map Action.c)) (by simp))).1;simpa using this) aC.dD 0 rfl h);obtain rfl:=aM h;exact aY.ret hZ
def vK(aC:Action):Option Bool:=(bif (aC.kind:Int)==1 then((j8 aC.pat).bind fun y2=>(some y2))else(bif (aC.kind:Int)==2 then((j8 aC.pat).bind fun y5=>(some y5))else(bif (aC.kind:Int)==3 then(bif (aC.pat.rel:Bytes)==([])then(some ((((aC.pat.args.map tx).length:Int):Int)==0))else(some false))else(some false))))
theorem HS{aC:Action}{r:Bool}(h:vK aC=some r):Good prog 194 [bw (Action.c aC)] (bO r):=by
 refine gd func194 bZ 24 fun hr Z hZ=>?_
 rw[vK]at h;obtain⟨h1,h⟩|⟨h1,h⟩:=aK h
 ·obtain⟨y2,h3,h⟩:=aG h;obtain rfl:=aM h;exact((aY.r 2 h1).g (fm h3)).ret hZ
 ·obtain⟨h4,h⟩|⟨h4,h⟩:=aK h
  ·obtain⟨y5,h6,h⟩:=aG h;obtain rfl:=aM h;exact(((aY.b h1).b h4).g (fm h6)).ret hZ
  ·have lB:=((aY.b h1).b h4)
   obtain⟨h7,h⟩|⟨h7,h⟩:=aK h
   ·obtain⟨h8,h⟩|⟨h8,h⟩:=aK h
    ·cases h;exact((lB.b h7).r 6 h8).ret hZ
    ·obtain rfl:=aM h;exact((lB.b h7).r 6 h8).ret hZ
   ·obtain rfl:=aM h;exact(lB.b h7).ret hZ
def mI(aC:aO)(i1:Nat)(Cv:aI)(k2:aI->Option aI):aI->Nat->aI->Option aI
 | [],i2,fI=>(k2 fI)
 |jL::tK,i2,fI=>((nY fI jL).bind fun a9m=>(mI aC i1 Cv k2 tK (i2+1) a9m))
def jh(aC:aO)(k1:aI->Option aI):ay->Nat->aI->Option aI
 | [],i1,bn=>(k1 bn)
 |bg::cj,i1,bn=>((oC bg).bind fun Cv=>(bif decide (Cv.length<=maxLen)then(mI aC i1 Cv (fun(tX:aI)=>(jh aC k1 cj (i1+1) tX)) Cv 0 bn)else none))
def mJ(aC:aO)(i3:Nat)(Mq:aI)(k4:aI->Option aI):aI->Nat->aI->Option aI
 | [],i4,Tp=>(k4 Tp)
 |x4_::xs4,i4,Tp=>((nY Tp x4_).bind fun a9n=>(mJ aC i3 Mq k4 xs4 (i4+1) a9n))
def iq(aC:aO)(k3:aI->Option aI):fA->Nat->aI->Option aI
 | [],i3,B5=>(k3 B5)
 |OZ::Kz,i3,B5=>((pN OZ.pat).bind fun Mq=>(bif decide (Mq.length<=maxLen)then(mJ aC i3 Mq (fun(Zg:aI)=>(iq aC k3 Kz (i3+1) Zg)) Mq 0 B5)else none))
def vM(aC:aO):Option aI:=(jh aC (fun(kO:aI)=>(iq aC (fun(a2V:aI)=>(some a2V)) aC.dD 0 kO)) aC.conds 0 ([]:aI))
def KN(aC:aO)(W0:List aR)(dL:Int):St:=⟨[(1,bp 0 0),(3,b9 1),(4,aB dL)],[bu (aO.c aC),af 9 1 W0]⟩
def KO(aC:aO)(i1:Nat)(Cv:aI)(W0:List aR)(dL:Int):St:=⟨[(1,bp 0 0),(3,b9 1),(4,aB (i1:Int)),(5,b9 2),(6,aB dL)],[bu (aO.c aC),af 9 1 W0,af 9 1 (Cv.map tx)]⟩
theorem JK(hZ:Z.nt=63){aC:aO}{i1:Nat}{Cv:aI}{r:aI}{k2:aI->Option aI}(zc:∀(tX:aI),k2 tX=some r->Ax Z N f196 (Cn r) [1,1,0,1,0,0,1,1] ⟨[(1,bp 0 0),(3,b9 1),(4,aB (i1:Int))],[bu (aO.c aC),af 9 1 (tX.map tx)]⟩)(hm2:Cv.length<=maxLen):∀(rest:aI) (i2:Nat) (fI:aI),Cv.drop i2=rest->mI aC i1 Cv k2 rest i2 fI=some r->Ar Z N f196 (Cn r) [1,1,0,1,0,0,1,0,0,1,1,0] (rest.length+1) (KO aC i1 Cv (fI.map tx) (i2:Int)):=by
 intro rest
 induction rest with
 |nil=>
  intro i2 fI hd2 h;rw[mI]at h;refine aT fun N2 uX qp=>?_
  exact((aY.ge tx hd2).a [.hl 3 [1,3,4] [0,1]]).ex hZ uX (zc fI h)
 |cons jL tK ih2=>
  intro i2 fI hd2 h;rw[mI]at h;refine aT fun N2 uX qp=>?_
  obtain⟨a9m,h172,h⟩:=aG h;exact(((((aY.lt tx hd2).i (fG tx 1 (dc hd2))).o 1 1 .uq (cL tx (dc hd2))).g (nZ h172)).a [.cn [1,3,4,5,6] [0,3,2]]).ct hZ qp (iS hd2 hm2) (ih2 (i2+1) a9m (dn hd2) h)
theorem JJ(hZ:Z.nt=63){aC:aO}{r:aI}{k1:aI->Option aI}(eA:∀(kO:aI),k1 kO=some r->Ax Z N f196 (Cn r) [1,1,1] ⟨[(1,bp 0 0),(3,b9 1)],[bu (aO.c aC),af 9 1 (kO.map tx)]⟩)(hm1:aC.conds.length<=maxLen):∀(rest:ay) (i1:Nat) (bn:aI),aC.conds.drop i1=rest->jh aC k1 rest i1 bn=some r->Ar Z N f196 (Cn r) [1,1,0,1,0] (rest.length+1) (KN aC (bn.map tx) (i1:Int)):=by
 intro rest
 induction rest with
 |nil=>
  intro i1 bn bD h;rw[jh]at h;refine aT fun N1 cq cS=>?_
  exact((aY.ge aU.c bD).a [.hl 0 [1,3] [0,1]]).ex hZ cq (eA bn h)
 |cons bg cj ih1=>
  intro i1 bn bD h;rw[jh]at h;refine aT fun N1 cq cS=>?_
  obtain⟨Cv,h148,h⟩:=aG h;obtain⟨h173,h⟩:=bf h;refine((((aY.lt aU.c bD).l (bK aU.c 5 (dc bD) rfl)).g (sj h148)).a [.cn [1,3,4,5,6] [0,1,2]]).lp hZ (JK hZ (fun tX h=>?_) (bh h173) Cv 0 bn rfl h);exact(aY.a [.cn [1,3,4] [0,1]]).ct hZ cS (iS bD hm1) (ih1 (i1+1) tX (dn bD) h)
def KP(aC:aO)(W0:List aR)(dL:Int):St:=⟨[(1,bp 0 0),(3,b9 1),(7,aB dL)],[bu (aO.c aC),af 9 1 W0]⟩
def KR(aC:aO)(i3:Nat)(Mq:aI)(W0:List aR)(dL:Int):St:=⟨[(1,bp 0 0),(3,b9 1),(7,aB (i3:Int)),(8,b9 2),(9,aB dL)],[bu (aO.c aC),af 9 1 W0,af 9 1 (Mq.map tx)]⟩
theorem JM(hZ:Z.nt=63){aC:aO}{i3:Nat}{Mq:aI}{r:aI}{k4:aI->Option aI}(hE4:∀(Zg:aI),k4 Zg=some r->Ax Z N f196 (Cn r) [1,1,1,0,1,0,0,1,1] ⟨[(1,bp 0 0),(3,b9 1),(7,aB (i3:Int))],[bu (aO.c aC),af 9 1 (Zg.map tx)]⟩)(hm4:Mq.length<=maxLen):∀(rest:aI) (i4:Nat) (Tp:aI),Mq.drop i4=rest->mJ aC i3 Mq k4 rest i4 Tp=some r->Ar Z N f196 (Cn r) [1,1,1,0,1,0,0,1,0,0,1,1,0] (rest.length+1) (KR aC i3 Mq (Tp.map tx) (i4:Int)):=by
 intro rest
 induction rest with
 |nil=>
  intro i4 Tp EK h;rw[mJ]at h;refine aT fun N4 hN4 Z4=>?_
  exact((aY.ge tx EK).a [.hl 3 [1,3,7] [0,1]]).ex hZ hN4 (hE4 Tp h)
 |cons x4_ xs4 ih4=>
  intro i4 Tp EK h;rw[mJ]at h;refine aT fun N4 hN4 Z4=>?_
  obtain⟨a9n,h345,h⟩:=aG h;exact(((((aY.lt tx EK).i (fG tx 1 (dc EK))).o 1 1 .uq (cL tx (dc EK))).g (nZ h345)).a [.cn [1,3,7,8,9] [0,3,2]]).ct hZ Z4 (iS EK hm4) (ih4 (i4+1) a9n (dn EK) h)
theorem JL(hZ:Z.nt=63){aC:aO}{r:aI}{k3:aI->Option aI}(Z3:∀(a2V:aI),k3 a2V=some r->Ax Z N f196 (Cn r) [1,1,1,1] ⟨[(3,b9 0)],[af 9 1 (a2V.map tx)]⟩)(On:aC.dD.length<=maxLen):∀(rest:fA) (i3:Nat) (B5:aI),aC.dD.drop i3=rest->iq aC k3 rest i3 B5=some r->Ar Z N f196 (Cn r) [1,1,1,0,1,0] (rest.length+1) (KP aC (B5.map tx) (i3:Int)):=by
 intro rest
 induction rest with
 |nil=>
  intro i3 B5 uU h;rw[iq]at h;refine aT fun N3 Rr Kn=>?_
  exact((aY.ge Action.c uU).a [.hl 0 [3] [1]]).ex hZ Rr (Z3 B5 h)
 |cons OZ Kz ih3=>
  intro i3 B5 uU h;rw[iq]at h;refine aT fun N3 Rr Kn=>?_
  obtain⟨Mq,h321,h⟩:=aG h;obtain⟨h346,h⟩:=bf h;refine((((aY.lt Action.c uU).l (bK Action.c 3 (dc uU) rfl)).g (rX h321)).a [.cn [1,3,7,8,9] [0,1,2]]).lp hZ (JM hZ (fun Zg h=>?_) (bh h346) Mq 0 B5 rfl h);exact(aY.a [.cn [1,3,7] [0,1]]).ct hZ Kn (iS uU On) (ih3 (i3+1) Zg (dn uU) h)
theorem Hf{aC:aO}{r:aI}(h:vM aC=some r):Good prog 196 [bw (aO.c aC)] (cV 9 1 (r.map tx)):=by
 refine gd func196 zH 63 fun hr Z hZ=>?_
 rw[vM]at h;refine(aY.a [.cn [1,3,4] [0,1]]).lp hZ (JJ hZ (fun kO h=>?_) (by have:=(gX.sl (gX.agg (hr _ (aE (i:=0) rfl)) (.sl (aC.conds.map aU.c)) (by simp))).1;simpa using this) aC.conds 0 ([]:aI) rfl h);refine(aY.a [.cn [1,3,7] [0,1]]).lp hZ (JL hZ (fun a2V h=>?_) (by have:=(gX.sl (gX.agg (hr _ (aE (i:=0) rfl)) (.sl (aC.dD.map Action.c)) (by simp))).1;simpa using this) aC.dD 0 kO rfl h);obtain rfl:=aM h;exact aY.ret hZ
def iB(aC:aO)(xN:aI)(i1:Nat)(bg:aU)(Mt:aI)(Ga:aI)(k2:Option Bool):aI->Nat->Option Bool
 | [],i2=>(k2)
 |jL::tK,i2=>((iE Mt jL).bind fun a9p=>((tS bg).bind fun aDv=>(bif aDv then(bif !(a9p)then(some false)else(bif (bg.kind:Int)==2 then(iB aC xN i1 bg Mt Ga k2 tK (i2+1))else(iB aC xN i1 bg Mt Ga k2 tK (i2+1))))else(bif (bg.kind:Int)==2 then(bif !(a9p)then((p9 aC (i1:Int) jL).bind fun aDw=>(bif aDw then(some false)else(iB aC xN i1 bg Mt Ga k2 tK (i2+1))))else(iB aC xN i1 bg Mt Ga k2 tK (i2+1)))else(iB aC xN i1 bg Mt Ga k2 tK (i2+1))))))
def iC(aC:aO)(xN:aI)(i1:Nat)(bg:aU)(Mu:aI)(Gb:aI)(k3:Option Bool):aI->Nat->Option Bool
 | [],i3=>(k3)
 |OZ::Kz,i3=>((iE Mu OZ).bind fun a9r=>((tS bg).bind fun aDy=>(bif aDy then(bif !(a9r)then(some false)else(bif (bg.kind:Int)==2 then(iC aC xN i1 bg Mu Gb k3 Kz (i3+1))else(iC aC xN i1 bg Mu Gb k3 Kz (i3+1))))else(bif (bg.kind:Int)==2 then(bif !(a9r)then((p9 aC (i1:Int) OZ).bind fun aDz=>(bif aDz then(some false)else(iC aC xN i1 bg Mu Gb k3 Kz (i3+1))))else(iC aC xN i1 bg Mu Gb k3 Kz (i3+1)))else(iC aC xN i1 bg Mu Gb k3 Kz (i3+1))))))
def mc(aC:aO)(xN:aI)(k1:Option Bool):ay->Nat->Option Bool
 | [],i1=>(k1)
 |bg::cj,i1=>((rC bg).bind fun aDn=>(bif !(aDn)then(some false)else(bif ((i1:Int):Int)==0 then(bif (bg.kind:Int) != 1 then(some false)else((mX aC (i1:Int)).bind fun Mt=>((oC bg).bind fun Ga=>(bif decide (Ga.length<=maxLen)then(iB aC xN i1 bg Mt Ga (mc aC xN k1 cj (i1+1)) Ga 0)else none))))else((mX aC (i1:Int)).bind fun Mu=>((oC bg).bind fun Gb=>(bif decide (Gb.length<=maxLen)then(iC aC xN i1 bg Mu Gb (mc aC xN k1 cj (i1+1)) Gb 0)else none))))))
def om(aC:aO)(xN:aI)(i4:Nat)(Mv:aI)(k5:Option Bool):aI->Nat->Option Bool
 | [],i5=>(k5)
 |x5_::xs5,i5=>((iE xN x5_).bind fun aE2=>(bif !(aE2)then(some false)else(om aC xN i4 Mv k5 xs5 (i5+1))))
def ol(aC:aO)(xN:aI)(k4:Option Bool):fA->Nat->Option Bool
 | [],i4=>(k4)
 |x4_::xs4,i4=>((vK x4_).bind fun aE0=>(bif !(aE0)then(some false)else((pN x4_.pat).bind fun Mv=>(bif decide (Mv.length<=maxLen)then(om aC xN i4 Mv (ol aC xN k4 xs4 (i4+1)) Mv 0)else none))))
def pM(aC:aO):Option Bool:=((tR aC.name).bind fun y1=>(bif !(y1)then(some false)else((mm aC.prio 0 9).bind fun y4=>(bif !(y4)then(some false)else((mm ((aC.conds.map aU.c).length:Int) 1 4).bind fun y7=>(bif !(y7)then(some false)else((mm ((aC.dD.map Action.c).length:Int) 1 2).bind fun GY=>(bif !(GY)then(some false)else((mX aC ((aC.conds.map aU.c).length:Int)).bind fun xN=>(mc aC xN (ol aC xN ((vM aC).bind fun aE3=>(some (decide ((((aE3.map tx).length:Int):Int)<=6)))) aC.dD 0) aC.conds 0))))))))))
def NI(aC:aO)(xN:aI)(dL:Int):St:=⟨[(1,bp 0 0),(3,b9 1),(4,aB dL)],[bu (aO.c aC),af 9 1 (xN.map tx)]⟩
def NJ(aC:aO)(xN:aI)(i1:Nat)(bg:aU)(Mt:aI)(Ga:aI)(dL:Int):St:=⟨[(1,bp 0 0),(3,b9 1),(4,aB (i1:Int)),(5,bp 2 0),(6,b9 3),(7,b9 4),(8,aB dL)],[bu (aO.c aC),af 9 1 (xN.map tx),bu [aB bg.kind,aZ bg.pat.rel,bX (bg.pat.args.map tx),aZ bg.left,aZ bg.right],af 9 1 (Mt.map tx),af 9 1 (Ga.map tx)]⟩
theorem Li(hZ:Z.nt=145){aC:aO}{xN:aI}{i1:Nat}{bg:aU}{Mt:aI}{Ga:aI}{r:Bool}{k2:Option Bool}(zc:k2=some r->Ax Z N f128 (.q bZ (bO r)) [1,1,1,0,1,0,0,1,1] ⟨[(1,bp 0 0),(3,b9 1),(4,aB (i1:Int))],[bu (aO.c aC),af 9 1 (xN.map tx)]⟩)(hm2:Ga.length<=maxLen):∀(rest:aI) (i2:Nat),Ga.drop i2=rest->iB aC xN i1 bg Mt Ga k2 rest i2=some r->Ar Z N f128 (.q bZ (bO r)) [1,1,1,0,1,0,0,1,0,0,1,1,1,1,1,0] (rest.length+1) (NJ aC xN i1 bg Mt Ga (i2:Int)):=by
 intro rest
 induction rest with
 |nil=>
  intro i2 hd2 h;rw[iB]at h;refine aT fun N2 uX qp=>?_
  exact((aY.ge tx hd2).a [.hl 3 [1,3,4] [0,1]]).ex hZ uX (zc h)
 |cons jL tK ih2=>
  intro i2 hd2 h;rw[iB]at h;refine aT fun N2 uX qp=>?_
  obtain⟨a9p,h711,aDv,h713,h⟩:=bR h;have a6v:=((((((aY.lt tx hd2).i (fG tx 1 (dc hd2))).o 1 1 .uq (cL tx (dc hd2))).g (lI h711)).a [.n 21]).g (uj h713))
  obtain⟨h714,h⟩|⟨h714,h⟩:=aK h
  ·have a6w:=(a6v.r 3 h714)
   obtain⟨h715,h⟩|⟨h715,h⟩:=aK h
   ·obtain rfl:=aM h;exact((((((a6w.r 4 h715).a [bF,bF]).r 2 h715).a [bF,bF,bF,bF,bF,bF,bF]).r 2 h715).T 1).ret hZ
   ·have a6x:=(a6w.r 4 h715)
    obtain⟨h716,h⟩|⟨h716,h⟩:=aK h
    ·exact((((((a6x.r 2 h716).b h715).b h716).r 11 h715).F 1).a [.cn [1,3,4,5,6,7,8] [0,1,2,3,4]]).ct hZ qp (iS hd2 hm2) (ih2 (i2+1) (dn hd2) h)
    ·exact((((((((((a6x.r 2 h716).b h715).b h716).b h715).F 7).b h715).F 1).b h715).F 1).a [.cn [1,3,4,5,6,7,8] [0,1,2,3,4]]).ct hZ qp (iS hd2 hm2) (ih2 (i2+1) (dn hd2) h)
  ·have a6y:=((a6v.r 3 h714).F 4)
   obtain⟨h717,h⟩|⟨h717,h⟩:=aK h
   ·have a6z:=((((a6y.r 2 h717).F 1).b h717).F 1)
    obtain⟨h718,h⟩|⟨h718,h⟩:=aK h
    ·obtain⟨aDw,h720,h⟩:=aG h;have a71:=(((((((((a6z.r 5 h718).i (fG tx 1 (dc hd2))).b h718).o 1 1 .uq (cL tx (dc hd2))).b h718).g (yT h720)).F 1).b h718).F 1)
     obtain⟨h721,h⟩|⟨h721,h⟩:=aK h
     ·obtain rfl:=aM h;exact(a71.b h721).ret hZ
     ·exact((a71.b h721).a [.cn [1,3,4,5,6,7,8] [0,1,2,3,4]]).ct hZ qp (iS hd2 hm2) (ih2 (i2+1) (dn hd2) h)
    ·exact(((((a6z.r 7 h718).F 1).b h718).F 2).a [.cn [1,3,4,5,6,7,8] [0,1,2,3,4]]).ct hZ qp (iS hd2 hm2) (ih2 (i2+1) (dn hd2) h)
   ·exact(((((a6y.r 2 h717).F 1).b h717).F 12).a [.cn [1,3,4,5,6,7,8] [0,1,2,3,4]]).ct hZ qp (iS hd2 hm2) (ih2 (i2+1) (dn hd2) h)
def NK(aC:aO)(xN:aI)(i1:Nat)(bg:aU)(Mu:aI)(Gb:aI)(dL:Int):St:=⟨[(1,bp 0 0),(3,b9 1),(4,aB (i1:Int)),(5,bp 2 0),(6,b9 3),(7,b9 4),(8,aB dL)],[bu (aO.c aC),af 9 1 (xN.map tx),bu [aB bg.kind,aZ bg.pat.rel,bX (bg.pat.args.map tx),aZ bg.left,aZ bg.right],af 9 1 (Mu.map tx),af 9 1 (Gb.map tx)]⟩
theorem Lj(hZ:Z.nt=145){aC:aO}{xN:aI}{i1:Nat}{bg:aU}{Mu:aI}{Gb:aI}{r:Bool}{k3:Option Bool}(Z3:k3=some r->Ax Z N f128 (.q bZ (bO r)) [1,1,1,0,1,0,0,1,1] ⟨[(1,bp 0 0),(3,b9 1),(4,aB (i1:Int))],[bu (aO.c aC),af 9 1 (xN.map tx)]⟩)(On:Gb.length<=maxLen):∀(rest:aI) (i3:Nat),Gb.drop i3=rest->iC aC xN i1 bg Mu Gb k3 rest i3=some r->Ar Z N f128 (.q bZ (bO r)) [1,1,1,0,1,0,0,1,0,0,1,1,1,1,1,0] (rest.length+1) (NK aC xN i1 bg Mu Gb (i3:Int)):=by
 intro rest
 induction rest with
 |nil=>
  intro i3 uU h;rw[iC]at h;refine aT fun N3 Rr Kn=>?_
  exact((aY.ge tx uU).a [.hl 3 [1,3,4] [0,1]]).ex hZ Rr (Z3 h)
 |cons OZ Kz ih3=>
  intro i3 uU h;rw[iC]at h;refine aT fun N3 Rr Kn=>?_
  obtain⟨a9r,h786,aDy,h788,h⟩:=bR h;have a73:=((((((aY.lt tx uU).i (fG tx 1 (dc uU))).o 1 1 .uq (cL tx (dc uU))).g (lI h786)).a [.n 21]).g (uj h788))
  obtain⟨h789,h⟩|⟨h789,h⟩:=aK h
  ·have a74:=(a73.r 3 h789)
   obtain⟨h790,h⟩|⟨h790,h⟩:=aK h
   ·obtain rfl:=aM h;exact((((((a74.r 4 h790).a [bF,bF]).r 2 h790).a [bF,bF,bF,bF,bF,bF,bF]).r 2 h790).T 1).ret hZ
   ·have a77:=(a74.r 4 h790)
    obtain⟨h791,h⟩|⟨h791,h⟩:=aK h
    ·exact((((((a77.r 2 h791).b h790).b h791).r 11 h790).F 1).a [.cn [1,3,4,5,6,7,8] [0,1,2,3,4]]).ct hZ Kn (iS uU On) (ih3 (i3+1) (dn uU) h)
    ·exact((((((((((a77.r 2 h791).b h790).b h791).b h790).F 7).b h790).F 1).b h790).F 1).a [.cn [1,3,4,5,6,7,8] [0,1,2,3,4]]).ct hZ Kn (iS uU On) (ih3 (i3+1) (dn uU) h)
  ·have a78:=((a73.r 3 h789).F 4)
   obtain⟨h792,h⟩|⟨h792,h⟩:=aK h
   ·have a79:=((((a78.r 2 h792).F 1).b h792).F 1)
    obtain⟨h793,h⟩|⟨h793,h⟩:=aK h
    ·obtain⟨aDz,h795,h⟩:=aG h;have a7A:=(((((((((a79.r 5 h793).i (fG tx 1 (dc uU))).b h793).o 1 1 .uq (cL tx (dc uU))).b h793).g (yT h795)).F 1).b h793).F 1)
     obtain⟨h796,h⟩|⟨h796,h⟩:=aK h
     ·obtain rfl:=aM h;exact(a7A.b h796).ret hZ
     ·exact((a7A.b h796).a [.cn [1,3,4,5,6,7,8] [0,1,2,3,4]]).ct hZ Kn (iS uU On) (ih3 (i3+1) (dn uU) h)
    ·exact(((((a79.r 7 h793).F 1).b h793).F 2).a [.cn [1,3,4,5,6,7,8] [0,1,2,3,4]]).ct hZ Kn (iS uU On) (ih3 (i3+1) (dn uU) h)
   ·exact(((((a78.r 2 h792).F 1).b h792).F 12).a [.cn [1,3,4,5,6,7,8] [0,1,2,3,4]]).ct hZ Kn (iS uU On) (ih3 (i3+1) (dn uU) h)
theorem Lh(hZ:Z.nt=145){aC:aO}{xN:aI}{r:Bool}{k1:Option Bool}(eA:k1=some r->Ax Z N f128 (.q bZ (bO r)) [1,1,1,1] ⟨[(1,bp 0 0),(3,b9 1)],[bu (aO.c aC),af 9 1 (xN.map tx)]⟩)(hm1:aC.conds.length<=maxLen):∀(rest:ay) (i1:Nat),aC.conds.drop i1=rest->mc aC xN k1 rest i1=some r->Ar Z N f128 (.q bZ (bO r)) [1,1,1,0,1,0] (rest.length+1) (NI aC xN (i1:Int)):=by
 intro rest
 induction rest with
 |nil=>
  intro i1 bD h;rw[mc]at h;refine aT fun N1 cq cS=>?_
  exact((aY.ge aU.c bD).a [.hl 0 [1,3] [0,1]]).ex hZ cq (eA h)
 |cons bg cj ih1=>
  intro i1 bD h;rw[mc]at h;refine aT fun N1 cq cS=>?_
  obtain⟨aDn,h644,h⟩:=aG h;have a7B:=(((aY.lt aU.c bD).l (bK aU.c 5 (dc bD) rfl)).g (jd h644))
  obtain⟨h645,h⟩|⟨h645,h⟩:=aK h
  ·obtain rfl:=aM h;exact((((a7B.r 3 h645).a [bF,bF,bF]).r 2 h645).T 1).ret hZ
  ·have a7C:=(a7B.r 3 h645)
   obtain⟨h646,h⟩|⟨h646,h⟩:=aK h
   ·have a7D:=((((a7C.r 3 h646).b h645).b h646).b h645)
    obtain⟨h647,h⟩|⟨h647,h⟩:=aK h
    ·obtain rfl:=aM h;exact(a7D.b h647).ret hZ
    ·obtain⟨Mt,h649,Ga,h651,h⟩:=bR h;obtain⟨h722,h⟩:=bf h;refine((((a7D.b h647).g (lH h649)).g (sj h651)).a [.cn [1,3,4,5,6,7,8] [0,1,2,3,4]]).lp hZ (Li hZ (fun h=>?_) (bh h722) Ga 0 rfl h);exact(aY.a [.cn [1,3,4] [0,1]]).ct hZ cS (iS bD hm1) (ih1 (i1+1) (dn bD) h)
   ·obtain⟨Mu,h724,Gb,h726,h⟩:=bR h;obtain⟨h797,h⟩:=bf h;refine((((((((a7C.r 3 h646).b h645).b h646).b h645).F 1).g (lH h724)).g (sj h726)).a [.cn [1,3,4,5,6,7,8] [0,1,2,3,4]]).lp hZ (Lj hZ (fun h=>?_) (bh h797) Gb 0 rfl h);exact(aY.a [.cn [1,3,4] [0,1]]).ct hZ cS (iS bD hm1) (ih1 (i1+1) (dn bD) h)
def NL(aC:aO)(xN:aI)(dL:Int):St:=⟨[(1,bp 0 0),(3,b9 1),(10,aB dL)],[bu (aO.c aC),af 9 1 (xN.map tx)]⟩
def NM(aC:aO)(xN:aI)(i4:Nat)(Mv:aI)(dL:Int):St:=⟨[(1,bp 0 0),(3,b9 1),(10,aB (i4:Int)),(11,b9 2),(12,aB dL)],[bu (aO.c aC),af 9 1 (xN.map tx),af 9 1 (Mv.map tx)]⟩
theorem Lm(hZ:Z.nt=145){aC:aO}{xN:aI}{i4:Nat}{Mv:aI}{r:Bool}{k5:Option Bool}(hE5:k5=some r->Ax Z N f128 (.q bZ (bO r)) [1,1,1,1,0,1,0,0,1,1] ⟨[(1,bp 0 0),(3,b9 1),(10,aB (i4:Int))],[bu (aO.c aC),af 9 1 (xN.map tx)]⟩)(hm5:Mv.length<=maxLen):∀(rest:aI) (i5:Nat),Mv.drop i5=rest->om aC xN i4 Mv k5 rest i5=some r->Ar Z N f128 (.q bZ (bO r)) [1,1,1,1,0,1,0,0,1,0,0,1,1,1,0] (rest.length+1) (NM aC xN i4 Mv (i5:Int)):=by
 intro rest
 induction rest with
 |nil=>
  intro i5 hd5 h;rw[om]at h;refine aT fun N5 hN5 hS5=>?_
  exact((aY.ge tx hd5).a [.hl 3 [1,3,10] [0,1]]).ex hZ hN5 (hE5 h)
 |cons x5_ xs5 ih5=>
  intro i5 hd5 h;rw[om]at h;refine aT fun N5 hN5 hS5=>?_
  obtain⟨aE2,h953,h⟩:=aG h;have a7E:=((((aY.lt tx hd5).i (fG tx 1 (dc hd5))).o 1 1 .uq (cL tx (dc hd5))).g (lI h953))
  obtain⟨h954,h⟩|⟨h954,h⟩:=aK h
  ·obtain rfl:=aM h;exact(a7E.b h954).ret hZ
  ·exact((a7E.b h954).a [.cn [1,3,10,11,12] [0,1,2]]).ct hZ hS5 (iS hd5 hm5) (ih5 (i5+1) (dn hd5) h)
theorem Ll(hZ:Z.nt=145){aC:aO}{xN:aI}{r:Bool}{k4:Option Bool}(hE4:k4=some r->Ax Z N f128 (.q bZ (bO r)) [1,1,1,1,1] ⟨[(1,bp 0 0)],[bu (aO.c aC)]⟩)(hm4:aC.dD.length<=maxLen):∀(rest:fA) (i4:Nat),aC.dD.drop i4=rest->ol aC xN k4 rest i4=some r->Ar Z N f128 (.q bZ (bO r)) [1,1,1,1,0,1,0] (rest.length+1) (NL aC xN (i4:Int)):=by
 intro rest
 induction rest with
 |nil=>
  intro i4 EK h;rw[ol]at h;refine aT fun N4 hN4 Z4=>?_
  exact((aY.ge Action.c EK).a [.hl 0 [1] [0]]).ex hZ hN4 (hE4 h)
 |cons x4_ xs4 ih4=>
  intro i4 EK h;rw[ol]at h;refine aT fun N4 hN4 Z4=>?_
  obtain⟨aE0,h927,h⟩:=aG h;have a7F:=(((aY.lt Action.c EK).l (bK Action.c 3 (dc EK) rfl)).g (HS h927))
  obtain⟨h928,h⟩|⟨h928,h⟩:=aK h
  ·obtain rfl:=aM h;exact(a7F.b h928).ret hZ
  ·obtain⟨Mv,h930,h⟩:=aG h;obtain⟨h955,h⟩:=bf h;refine((((a7F.b h928).l (bK Action.c 3 (dc EK) rfl)).g (rX h930)).a [.cn [1,3,10,11,12] [0,1,2]]).lp hZ (Lm hZ (fun h=>?_) (bh h955) Mv 0 rfl h);exact(aY.a [.cn [1,3,10] [0,1]]).ct hZ Z4 (iS EK hm4) (ih4 (i4+1) (dn EK) h)
theorem gU{aC:aO}{r:Bool}(h:pM aC=some r):Good prog 128 [bw (aO.c aC)] (bO r):=by
 refine gd func128 bZ 145 fun hr Z hZ=>?_
 rw[pM]at h;obtain⟨y1,h2,h⟩:=aG h;obtain⟨h3,h⟩|⟨h3,h⟩:=aK h
 ·obtain rfl:=aM h;exact(((aY.g (oh h2)).r 5 h3).T 13).ret hZ
 ·obtain⟨y4,h5,h⟩:=aG h;have a7G:=((((aY.g (oh h2)).r 3 h3).g (iF h5)).r 2 h3)
  obtain⟨h6,h⟩|⟨h6,h⟩:=aK h
  ·obtain rfl:=aM h;exact((a7G.r 6 h6).T 7).ret hZ
  ·obtain⟨y7,h8,h⟩:=aG h;have a7H:=(((a7G.r 4 h6).g (iF h8)).r 2 h6)
   obtain⟨h9,h⟩|⟨h9,h⟩:=aK h
   ·obtain rfl:=aM h;exact((a7H.r 6 h9).T 1).ret hZ
   ·obtain⟨GY,h11,h⟩:=aG h;have a7I:=(((a7H.r 4 h9).g (iF h11)).r 2 h9)
    obtain⟨h12,h⟩|⟨h12,h⟩:=aK h
    ·obtain rfl:=aM h;exact(a7I.b h12).ret hZ
    ·obtain⟨xN,h14,h⟩:=aG h;refine(((a7I.b h12).g (lH h14)).a [.cn [1,3,4] [0,1]]).lp hZ (Lh hZ (fun h=>?_) (by have:=(gX.sl (gX.agg (hr _ (aE (i:=0) rfl)) (.sl (aC.conds.map aU.c)) (by simp))).1;simpa using this) aC.conds 0 rfl h);refine(aY.a [.cn [1,3,10] [0,1]]).lp hZ (Ll hZ (fun h=>?_) (by have:=(gX.sl (gX.agg (hr _ (aE (i:=0) rfl)) (.sl (aC.dD.map Action.c)) (by simp))).1;simpa using this) aC.dD 0 rfl h);obtain⟨aE3,h957,h⟩:=aG h;cases h;exact(aY.g (Hf h957)).ret hZ
def sN(aC:Bytes)(aa:Bytes)(k1:Int->aI->Option aI):Nat->Int->Int->aI->Option aI
 |0,_,_,_=>none
 |n1+1,dX,wv,bY=>(bif decide ((IntKind.i64.wrap (wv+(aa.length:Int)):Int)<=(aC.length:Int))then((yF aC.length (some (aB wv)) (some (aB (IntKind.i64.wrap (wv+(aa.length:Int)))))).bind fun p=>(fun l49 u50=>(bif ((aC.take u50).drop l49:Bytes)==aa then((yF aC.length (some (aB dX)) (some (aB wv))).bind fun p=>(fun l53 u54=>(bif room ((bY.map tx).length+([[aZ ((aC.take u54).drop l53)]]).length) 16 then(sN aC aa k1 n1 (IntKind.i64.wrap (wv+(aa.length:Int))) (IntKind.i64.wrap (wv+(aa.length:Int))) (bY++([(aC.take u54).drop l53])))else none)) p.1 p.2)else(sN aC aa k1 n1 dX (IntKind.i64.wrap (wv+1)) bY))) p.1 p.2)else(k1 dX bY))
def nW(aC:Bytes)(aa:Bytes):Option aI:=(bif (aa:Bytes)==([])then(bif room (([]:List aR).length+([[aZ aC]]).length) 16 then(some (([]:aI)++([aC])))else none)else(sN aC aa (fun(wU:Int) (cM:aI)=>((yF aC.length (some (aB wU)) none).bind fun p=>(fun l57 u58=>(bif room ((cM.map tx).length+([[aZ ((aC.take u58).drop l57)]]).length) 16 then(some (cM++([(aC.take u58).drop l57])))else none)) p.1 p.2)) fuel 0 0 ([]:aI)))
def FX(aC:Bytes)(aa:Bytes)(dX:Int)(wv:Int)(W2:List aR):St:=⟨[(0,aZ aC),(1,aZ aa),(5,b9 0),(6,aB dX),(7,aB wv)],[af 9 1 W2]⟩
theorem NN(hZ:Z.nt=51){aC:Bytes}{aa:Bytes}{r:aI}{k1:Int->aI->Option aI}(eA:∀(wU:Int) (cM:aI),k1 wU cM=some r->Ax Z N f233 (.q zH (cV 9 1 (r.map tx))) [1,1,1,1,1] ⟨[(0,aZ aC),(5,b9 0),(6,aB wU)],[af 9 1 (cM.map tx)]⟩):∀(n1:Nat) (dX:Int) (wv:Int) (bY:aI),sN aC aa k1 n1 dX wv bY=some r->Ar Z N f233 (.q zH (cV 9 1 (r.map tx))) [1,1,1,1,0,1,0] n1 (FX aC aa dX wv (bY.map tx)):=by
 intro n
 induction n with
 |zero=>intro dX wv bY h;simp[sN]at h
 |succ n1 ih1=>
  intro dX wv bY h;rw[sN]at h;refine aT fun N1 cq cS=>?_
  obtain⟨h48,h⟩|⟨h48,h⟩:=aK h
  ·obtain⟨⟨l49,u50⟩,h51,h⟩:=aG h;have fF:=(((aY.b h48).w h51).a [.cut l49 u50])
   obtain⟨h52,h⟩|⟨h52,h⟩:=aK h
   ·obtain⟨⟨l53,u54⟩,h55,h⟩:=aG h;obtain⟨h56,h⟩:=bf h;exact((((fF.b h52).w h55).w (cA h56)).a [.cut l53 u54,.cn [0,1,5,6,7] [2]]).cs hZ cS (FX aC aa (IntKind.i64.wrap (wv+(aa.length:Int))) (IntKind.i64.wrap (wv+(aa.length:Int))) ((bY.map tx)++([[aZ ((aC.take u54).drop l53)]]))) (by simp only[mA]<;>rfl) (ih1 (IntKind.i64.wrap (wv+(aa.length:Int))) (IntKind.i64.wrap (wv+(aa.length:Int))) (bY++([(aC.take u54).drop l53])) h)
   ·exact((fF.b h52).a [.cn [0,1,5,6,7] [0]]).cf hZ cS (ih1 dX (IntKind.i64.wrap (wv+1)) bY h)
  ·exact((aY.b h48).a [.hl 0 [0,5,6] [0]]).ex hZ cq (eA dX bY h)
theorem iL{aC:Bytes}{aa:Bytes}{r:aI}(h:nW aC aa=some r):Good prog 233 [aZ aC,aZ aa] (cV 9 1 (r.map tx)):=by
 refine gd func233 zH 51 fun hr Z hZ=>?_
 rw[nW]at h;obtain⟨h1,h⟩|⟨h1,h⟩:=aK h
 ·obtain⟨h2,h⟩:=bf h;cases h;exact(((aY.a [.L5 4]).b h1).w (cA h2)).rts hZ (cV 9 1 (([]:List aR)++([[aZ aC]]))) (by first|rfl| (simp only[mA]<;>rfl))
 ·refine(((aY.a [.L5 4]).b h1).a [.cn [0,1,5,6,7] [1]]).lp hZ (NN hZ (fun wU cM h=>?_) fuel 0 0 ([]:aI) h);obtain⟨⟨l57,u58⟩,h59,h⟩:=aG h;obtain⟨h60,h⟩:=bf h;cases h;exact(((aY.w h59).w (cA h60)).a [.cut l57 u58]).rts hZ (cV 9 1 ((cM.map tx)++([[aZ ((aC.take u58).drop l57)]]))) (by first|rfl| (simp only[mA]<;>rfl)| (simp only[mA,cD]<;>rfl))
def jG(k1:Option Bytes):Nat->Int->Bytes->Option Bytes
 |0,_,_=>none
 |n1+1,IE,oK=>(bif decide (0<=(IE:Int))&&decide (0<(10:Int))then(bif decide (([UInt8.ofNat (IntKind.u8.wrap (IntKind.i64.wrap (48+((IE:Int)%10)))).toNat]:Bytes).length+(oK:Bytes).length<=maxLen)then(bif decide (0<=(IE:Int))&&decide (0<(10:Int))then(bif ((IE:Int)/10:Int)==0 then(some (([UInt8.ofNat (IntKind.u8.wrap (IntKind.i64.wrap (48+((IE:Int)%10)))).toNat])++oK))else(jG k1 n1 ((IE:Int)/10) (([UInt8.ofNat (IntKind.u8.wrap (IntKind.i64.wrap (48+((IE:Int)%10)))).toNat])++oK)))else none)else none)else none)
def ig:Nat->Int->Option Bytes
 |0,_=>none
 |m_+1,aC=>(bif (aC:Int)==(-9223372036854775808)then(some ([45,57,50,50,51,51,55,50,48,51,54,56,53,52,55,55,53,56,48,56]))else(bif decide ((aC:Int)<0)then((ig m_ (IntKind.i64.wrap (0-aC))).bind fun y3=>(bif decide (([45]:Bytes).length+(y3:Bytes).length<=maxLen)then(some (([45])++y3))else none))else(jG none fuel aC ([]))))
def GC(IE:Int)(oK:Bytes):St:=⟨[(0,aB IE),(3,aZ oK)],[]⟩
theorem F8(hZ:Z.nt=25){r:Bytes}{k1:Option Bytes}(eA:k1=some r->Ax Z N f135 (.q bZ (aZ r)) [1,1,1,1,0,0] ⟨[],[]⟩):∀(n1:Nat) (IE:Int) (oK:Bytes),jG k1 n1 IE oK=some r->Ar Z N f135 (.q bZ (aZ r)) [1,1,1,1,0] n1 (GC IE oK):=by
 intro n
 induction n with
 |zero=>intro IE oK h;simp[jG]at h
 |succ n1 ih1=>
  intro IE oK h;rw[jG]at h;refine aT fun N1 cq cS=>?_
  obtain⟨h14,h⟩:=bf h;obtain⟨h15,h⟩:=bf h;obtain⟨h16,h⟩:=bf h;have fF:=(((aY.w (TU .i64 h14)).w (bh h15)).w (TU .i64 h16))
  obtain⟨h17,h⟩|⟨h17,h⟩:=aK h
  ·cases h;exact(fF.b h17).rts hZ (aZ (([UInt8.ofNat (IntKind.u8.wrap (IntKind.i64.wrap (48+((IE:Int)%10)))).toNat])++oK)) (by first|rfl| (simp only[mA]<;>rfl))
  ·exact((fF.b h17).a [.cn [0,3] []]).cf hZ cS (ih1 ((IE:Int)/10) (([UInt8.ofNat (IntKind.u8.wrap (IntKind.i64.wrap (48+((IE:Int)%10)))).toNat])++oK) h)
theorem E4{m_:Nat}(ihR:∀ {aC:Int} {r:Bytes},ig m_ aC=some r->Good prog 135 [aB aC] (aZ r)){aC:Int}{r:Bytes}(h:ig (m_+1) aC=some r):Good prog 135 [aB aC] (aZ r):=by
 refine gd func135 bZ 25 fun hr Z hZ=>?_
 rw[ig]at h;obtain⟨h1,h⟩|⟨h1,h⟩:=aK h
 ·cases h;exact(aY.b h1).ret hZ
 ·obtain⟨h2,h⟩|⟨h2,h⟩:=aK h
  ·obtain⟨y3,h4,h⟩:=aG h;obtain⟨h5,h⟩:=bf h;cases h;exact((((aY.b h1).b h2).g (ihR h4)).w (bh h5)).rts hZ (aZ (([45])++y3)) (by first|rfl| (simp only[mA]<;>rfl))
  ·refine(((aY.b h1).b h2).a [.cn [0,3] []]).lp hZ (F8 hZ (fun h=>?_) fuel aC ([]) h);cases h
theorem yQ:∀(m_:Nat) {aC:Int} {r:Bytes},ig m_ aC=some r->Good prog 135 [aB aC] (aZ r)
 |0,_,_,h=>by cases h
 |m_+1,_,_,h=>E4 (fun h=>yQ m_ h) h
def kF(aC:Int):Option Bytes:=ig fuel aC
theorem oR{aC:Int}{r:Bytes}(h:kF aC=some r):Good prog 135 [aB aC] (aZ r):=yQ fuel h
def je(aC:Bytes)(k1:Int->Option (Int×Bool)):Nat->Int->Int->Option (Int×Bool)
 |0,_,_=>none
 |n1+1,pz,zM=>(bif decide ((zM:Int)<(aC.length:Int))then((fy aC zM).bind fun b25=>(bif decide ((b25.toNat:Int)<48)then(some (0,false))else(bif decide ((b25.toNat:Int)>57)then(some (0,false))else(je aC k1 n1 (IntKind.i64.wrap ((IntKind.i64.wrap (10*pz))+(IntKind.i64.wrap (IntKind.u8.wrap (b25.toNat-48))))) (IntKind.i64.wrap (zM+1))))))else(k1 pz))
def oD(aC:Bytes):Option (Int×Bool):=((mm (aC.length:Int) 1 4).bind fun y1=>(bif !(y1)then(some (0,false))else(je aC (fun(a0B:Int)=>((kF a0B).bind fun Dm=>(bif !((Dm:Bytes)==aC)then(some (0,false))else(some (a0B,true))))) fuel 0 0)))
def KM(aC:Bytes)(pz:Int)(zM:Int):St:=⟨[(0,aZ aC),(4,aB pz),(5,aB zM)],[]⟩
def aAF(r:Int×Bool):Kd:=.q ON (D.iw [aB r.1,bO r.2])
theorem JI(hZ:Z.nt=39){aC:Bytes}{r:Int×Bool}{k1:Int->Option (Int×Bool)}(eA:∀(a0B:Int),k1 a0B=some r->Ax Z N f204 (aAF r) [1,1,1,1] ⟨[(0,aZ aC),(4,aB a0B)],[]⟩):∀(n1:Nat) (pz:Int) (zM:Int),je aC k1 n1 pz zM=some r->Ar Z N f204 (aAF r) [1,1,1,0,1,0] n1 (KM aC pz zM):=by
 intro n
 induction n with
 |zero=>intro pz zM h;simp[je]at h
 |succ n1 ih1=>
  intro pz zM h;rw[je]at h;refine aT fun N1 cq cS=>?_
  obtain⟨h24,h⟩|⟨h24,h⟩:=aK h
  ·obtain⟨b25,h26,h⟩:=aG h;have jQ:=((aY.b h24).c h26)
   obtain⟨h27,h⟩|⟨h27,h⟩:=aK h
   ·cases h;exact((jQ.r 5 h27).T 1).ret hZ
   ·have jz:=(((jQ.r 3 h27).c h26).r 2 h27)
    obtain⟨h28,h⟩|⟨h28,h⟩:=aK h
    ·cases h;exact(jz.b h28).ret hZ
    ·exact(((jz.b h28).c h26).a [.cn [0,4,5] []]).cf hZ cS (ih1 (IntKind.i64.wrap ((IntKind.i64.wrap (10*pz))+(IntKind.i64.wrap (IntKind.u8.wrap (b25.toNat-48))))) (IntKind.i64.wrap (zM+1)) h)
  ·exact((aY.b h24).a [.hl 0 [0,4] []]).ex hZ cq (eA pz h)
theorem sn{aC:Bytes}{r:Int×Bool}(h:oD aC=some r):Good prog 204 [aZ aC] (D.iw [aB r.1,bO r.2]):=by
 refine gd func204 ON 39 fun hr Z hZ=>?_
 rw[oD]at h;obtain⟨y1,h2,h⟩:=aG h;obtain⟨h3,h⟩|⟨h3,h⟩:=aK h
 ·cases h;exact((aY.g (iF h2)).b h3).ret hZ
 ·refine(((aY.g (iF h2)).b h3).a [.cn [0,4,5] []]).lp hZ (JI hZ (fun a0B h=>?_) fuel 0 0 h);obtain⟨Dm,h30,h⟩:=aG h;obtain⟨h31,h⟩|⟨h31,h⟩:=aK h
  ·cases h;exact((aY.g (oR h30)).b h31).ret hZ
  ·cases h;exact((aY.g (oR h30)).b h31).ret hZ
def DV(aC:Int):Option Bytes:=(bif (aC:Int)==3 then(some ([32,61,32]))else(bif (aC:Int)==4 then(some ([32,33,61,32]))else(some ([32,60,32]))))
theorem KW{aC:Int}{r:Bytes}(h:DV aC=some r):Good prog 260 [aB aC] (aZ r):=by
 refine gd func260 bZ 8 fun hr Z hZ=>?_
 rw[DV]at h;obtain⟨h1,h⟩|⟨h1,h⟩:=aK h
 ·cases h;exact(aY.b h1).ret hZ
 ·obtain⟨h2,h⟩|⟨h2,h⟩:=aK h
  ·cases h;exact((aY.b h1).b h2).ret hZ
  ·cases h;exact((aY.b h1).b h2).ret hZ
def CD(aC:Bytes):Option (Bytes×aI×Bool):=((nW aC ([40])).bind fun y1=>(bif (((y1.map tx).length:Int):Int) != 2 then(some ([],[],false))else((fy y1 (1:Int)).bind fun x4=>(bif ((x4.length:Int):Int)==0 then(some ([],[],false))else((fy x4 (IntKind.i64.wrap ((x4.length:Int)-1))).bind fun b7=>(bif (b7.toNat:Int) != 41 then(some ([],[],false))else((yF x4.length none (some (aB (IntKind.i64.wrap ((x4.length:Int)-1))))).bind fun p=>(fun l10 u11=>(bif ((x4.take u11).drop l10:Bytes)==([])then((fy y1 (0:Int)).bind fun x14=>(some (x14,([]:aI),true)))else((fy y1 (0:Int)).bind fun x16=>((nW ((x4.take u11).drop l10) ([44])).bind fun P0=>(some (x16,P0,true)))))) p.1 p.2)))))))
theorem BN{aC:Bytes}{r:Bytes×aI×Bool}(h:CD aC=some r):Good prog 275 [aZ aC] (D.iw [aZ r.1,cV 9 1 (r.2.1.map tx),bO r.2.2]):=by
 refine gd func275 [[none],[some (9,1)],[none]] 51 fun hr Z hZ=>?_
 rw[CD]at h;obtain⟨y1,h2,h⟩:=aG h;have lB:=((aY.g (iL h2)).a [.n 19])
 obtain⟨h3,h⟩|⟨h3,h⟩:=aK h
 ·cases h;exact((lB.r 6 h3).T 12).ret hZ
 ·obtain⟨x4,h5,h⟩:=aG h;have fF:=(((((lB.r 2 h3).i (fH tx 1 h5)).b h3).o 1 1 .uq (cL tx (dl h5))).r 3 h3)
  obtain⟨h6,h⟩|⟨h6,h⟩:=aK h
  ·cases h;exact((fF.r 11 h6).T 1).ret hZ
  ·obtain⟨b7,h8,h⟩:=aG h;have jQ:=(((((((((((fF.r 2 h6).i (fH tx 1 h5)).b h6).o 1 1 .uq (cL tx (dl h5))).r 2 h6).i (fH tx 1 h5)).b h6).o 1 1 .uq (cL tx (dl h5))).r 3 h6).c h8).r 2 h6)
   obtain⟨h9,h⟩|⟨h9,h⟩:=aK h
   ·cases h;exact(jQ.b h9).ret hZ
   ·obtain⟨⟨l10,u11⟩,h12,h⟩:=aG h;have jz:=((((((((jQ.b h9).a [.n 8]).i (fH tx 1 h5)).o 1 1 .uq (cL tx (dl h5))).i (fH tx 1 h5)).o 1 1 .uq (cL tx (dl h5))).w h12).a [.cut l10 u11])
    obtain⟨h13,h⟩|⟨h13,h⟩:=aK h
    ·obtain⟨x14,h15,h⟩:=aG h;cases h;exact(((jz.b h13).i (fH tx 1 h15)).o 1 1 .uq (cL tx (dl h15))).ret hZ
    ·obtain⟨x16,h17,P0,h19,h⟩:=bR h;cases h;exact(((((jz.b h13).a [.n 5]).i (fH tx 1 h17)).o 1 1 .uq (cL tx (dl h17))).g (iL h19)).ret hZ
def ko(aC:Bytes):Option (aD×Bool):=((CD aC).bind fun y1=>(bif !(y1.2.2)then(some ((⟨[],[]⟩:aD),false))else((j8 (⟨y1.1,y1.2.1⟩:aD)).bind fun y4=>(bif !(y4)then(some ((⟨[],[]⟩:aD),false))else(some ((⟨y1.1,y1.2.1⟩:aD),true))))))
theorem lM{aC:Bytes}{r:aD×Bool}(h:ko aC=some r):Good prog 261 [aZ aC] (D.iw [bw [aZ r.1.rel,cV 9 1 (r.1.args.map tx)],bO r.2]):=by
 refine gd func261 [[none,some (9,1)],[none]] 26 fun hr Z hZ=>?_
 rw[ko]at h;obtain⟨y1,h2,h⟩:=aG h;obtain⟨h3,h⟩|⟨h3,h⟩:=aK h
 ·cases h;exact(((aY.g (BN h2)).r 4 h3).T 1).ret hZ
 ·obtain⟨y4,h5,h⟩:=aG h;have lB:=(((((aY.g (BN h2)).r 2 h3).a [.d (bO y4)]).w (show Good prog 157 [bw [aZ y1.1,bX (y1.2.1.map tx)]] (bO y4)from by first| (simpa only[bI,bA,cF,cD,cI]using fm h5)|exact fm h5| (have t:=fm h5;simp only[bI,cD,cI,aD.c]at t;exact t))).r 2 h3)
  obtain⟨h6,h⟩|⟨h6,h⟩:=aK h
  ·cases h;exact(lB.b h6).ret hZ
  ·cases h;exact(lB.b h6).ret hZ
def o8(aC:Bytes)(k1:Option (aU×Bool)):Nat->Int->Option (aU×Bool)
 |0,_=>none
 |n1+1,pz=>(bif decide ((pz:Int)<=5)then((DV pz).bind fun Cg=>((nW aC Cg).bind fun B6=>(bif (((B6.map tx).length:Int):Int)==2 then((fy B6 (0:Int)).bind fun x33=>((fy B6 (1:Int)).bind fun x35=>((rC (⟨pz,(⟨[],[]⟩:aD),x33,x35⟩:aU)).bind fun PR=>(bif PR then(some ((⟨pz,(⟨[],[]⟩:aD),x33,x35⟩:aU),true))else(o8 aC k1 n1 (IntKind.i64.wrap (pz+1)))))))else(o8 aC k1 n1 (IntKind.i64.wrap (pz+1))))))else(k1))
def zi(aC:Bytes):Option (aU×Bool):=(o8 aC (bif decide (((aC.length:Int):Int)>4)then((yF aC.length none (some (aB 4))).bind fun p=>(fun l41 u42=>(bif ((aC.take u42).drop l41:Bytes)==([110,111,116,32])then((yF aC.length (some (aB 4)) none).bind fun p=>(fun l45 u46=>((ko ((aC.take u46).drop l45)).bind fun y48=>(bif !(y48.2)then(some ((⟨0,(⟨[],[]⟩:aD),[],[]⟩:aU),false))else(some ((⟨2,y48.1,[],[]⟩:aU),true))))) p.1 p.2)else((ko aC).bind fun y51=>(bif !(y51.2)then(some ((⟨0,(⟨[],[]⟩:aD),[],[]⟩:aU),false))else(some ((⟨1,y51.1,[],[]⟩:aU),true)))))) p.1 p.2)else((ko aC).bind fun Ms=>(bif !(Ms.2)then(some ((⟨0,(⟨[],[]⟩:aD),[],[]⟩:aU),false))else(some ((⟨1,Ms.1,[],[]⟩:aU),true))))) fuel 3)
def JH(aC:Bytes)(pz:Int):St:=⟨[(0,aZ aC),(2,bp 0 0),(4,aB pz)],[bu [aB 0,aZ ([]),D.nil,aZ ([]),aZ ([])]]⟩
def aAG(r:aU×Bool):Kd:=.q [[none,none,some (9,1),none,none],[none]] (D.iw [bw [aB r.1.kind,aZ r.1.pat.rel,cV 9 1 (r.1.pat.args.map tx),aZ r.1.left,aZ r.1.right],bO r.2])
theorem HY(hZ:Z.nt=55){aC:Bytes}{r:aU×Bool}{k1:Option (aU×Bool)}(eA:k1=some r->Ax Z N f241 (aAG r) [1,1] ⟨[(0,aZ aC),(2,bp 0 0)],[bu [aB 0,aZ ([]),D.nil,aZ ([]),aZ ([])]]⟩):∀(n1:Nat) (pz:Int),o8 aC k1 n1 pz=some r->Ar Z N f241 (aAG r) [1,0,1,0] n1 (JH aC pz):=by
 intro n
 induction n with
 |zero=>intro pz h;simp[o8]at h
 |succ n1 ih1=>
  intro pz h;rw[o8]at h;refine aT fun N1 cq cS=>?_
  obtain⟨h27,h⟩|⟨h27,h⟩:=aK h
  ·obtain⟨Cg,h29,B6,h31,h⟩:=bR h;have jQ:=(((aY.b h27).g (KW h29)).g (iL h31))
   obtain⟨h32,h⟩|⟨h32,h⟩:=aK h
   ·obtain⟨x33,h34,x35,h36,PR,h38,h⟩:=gW h;have jz:=((((((((jQ.b h32).a [.n 9]).i (fH tx 1 h34)).o 1 1 .uq (cL tx (dl h34))).i (fH tx 1 h36)).o 1 1 .uq (cL tx (dl h36))).a [.d (bO PR)]).w (show Good prog 189 [bw [aB pz,aZ ([]),bX ([]),aZ x33,aZ x35]] (bO PR)from by first| (simpa only[bI,bA,cF,cD,cI]using jd h38)|exact jd h38| (have t:=jd h38;simp only[bI,cD,cI,aU.c]at t;exact t)))
    obtain⟨h39,h⟩|⟨h39,h⟩:=aK h
    ·cases h;exact(jz.b h39).ret hZ
    ·exact((jz.b h39).a [.cn [0,2,4] [0]]).cf hZ cS (ih1 (IntKind.i64.wrap (pz+1)) h)
   ·exact((jQ.b h32).a [.cn [0,2,4] [0]]).cf hZ cS (ih1 (IntKind.i64.wrap (pz+1)) h)
  ·exact((aY.b h27).a [.hl 0 [0,2] [0]]).ex hZ cq (eA h)
theorem GG{aC:Bytes}{r:aU×Bool}(h:zi aC=some r):Good prog 241 [aZ aC] (D.iw [bw [aB r.1.kind,aZ r.1.pat.rel,cV 9 1 (r.1.pat.args.map tx),aZ r.1.left,aZ r.1.right],bO r.2]):=by
 refine gd func241 [[none,none,some (9,1),none,none],[none]] 55 fun hr Z hZ=>?_
 rw[zi]at h;refine(aY.a [.cn [0,2,4] [0]]).lp hZ (HY hZ (fun h=>?_) fuel 3 h);obtain⟨h40,h⟩|⟨h40,h⟩:=aK h
 ·obtain⟨⟨l41,u42⟩,h43,h⟩:=aG h;have uc:=((((aY.r 2 h40).w h43).a [.cut l41 u42]).r 2 h40)
  obtain⟨h44,h⟩|⟨h44,h⟩:=aK h
  ·obtain⟨⟨l45,u46⟩,h47,h⟩:=aG h;obtain⟨y48,h49,h⟩:=aG h;have xf:=((((uc.b h44).w h47).a [.cut l45 u46]).g (lM h49))
   obtain⟨h50,h⟩|⟨h50,h⟩:=aK h
   ·cases h;exact(xf.b h50).ret hZ
   ·cases h;exact(xf.b h50).ret hZ
  ·obtain⟨y51,h52,h⟩:=aG h;have Ak:=((uc.b h44).g (lM h52))
   obtain⟨h53,h⟩|⟨h53,h⟩:=aK h
   ·cases h;exact(Ak.b h53).ret hZ
   ·cases h;exact(Ak.b h53).ret hZ
 ·obtain⟨Ms,h55,h⟩:=aG h;have Fb:=(((aY.r 4 h40).F 1).g (lM h55))
  obtain⟨h56,h⟩|⟨h56,h⟩:=aK h
  ·cases h;exact(Fb.b h56).ret hZ
  ·cases h;exact(Fb.b h56).ret hZ
def Ay(aC:Bytes):Option (Action×Bool):=(bif (aC:Bytes)==([115,116,111,112])then(some ((⟨3,(⟨[],[]⟩:aD)⟩:Action),true))else((nW aC ([32])).bind fun y2=>(bif (((y2.map tx).length:Int):Int) != 2 then(some ((⟨0,(⟨[],[]⟩:aD)⟩:Action),false))else((fy y2 (0:Int)).bind fun x5=>(bif !((x5:Bytes)==([97,100,100]))then(bif !((x5:Bytes)==([100,114,111,112]))then(some ((⟨0,(⟨[],[]⟩:aD)⟩:Action),false))else((fy y2 (1:Int)).bind fun x9=>((ko x9).bind fun yb=>(bif (x5:Bytes)==([97,100,100])then(some ((⟨1,yb.1⟩:Action),yb.2))else(some ((⟨2,yb.1⟩:Action),yb.2))))))else((fy y2 (1:Int)).bind fun x14=>((ko x14).bind fun PO=>(bif (x5:Bytes)==([97,100,100])then(some ((⟨1,PO.1⟩:Action),PO.2))else(some ((⟨2,PO.1⟩:Action),PO.2))))))))))
theorem Hl{aC:Bytes}{r:Action×Bool}(h:Ay aC=some r):Good prog 242 [aZ aC] (D.iw [bw [aB r.1.kind,aZ r.1.pat.rel,cV 9 1 (r.1.pat.args.map tx)],bO r.2]):=by
 refine gd func242 [[none,none,some (9,1)],[none]] 45 fun hr Z hZ=>?_
 rw[Ay]at h;obtain⟨h1,h⟩|⟨h1,h⟩:=aK h
 ·cases h;exact(aY.b h1).ret hZ
 ·obtain⟨y2,h3,h⟩:=aG h;have lB:=((aY.b h1).g (iL h3))
  obtain⟨h4,h⟩|⟨h4,h⟩:=aK h
  ·cases h;exact((((lB.r 5 h4).a [bF,bF,bF,bF]).r 2 h4).T 1).ret hZ
  ·obtain⟨x5,h6,h⟩:=aG h;have fF:=(((((lB.r 2 h4).i (fH tx 1 h6)).b h4).o 1 1 .uq (cL tx (dl h6))).r 2 h4)
   obtain⟨h7,h⟩|⟨h7,h⟩:=aK h
   ·have jQ:=((((((((fF.r 2 h7).i (fH tx 1 h6)).b h7).o 1 1 .uq (cL tx (dl h6))).b h7).b h4).b h7).b h4)
    obtain⟨h8,h⟩|⟨h8,h⟩:=aK h
    ·cases h;exact(jQ.b h8).ret hZ
    ·obtain⟨x9,h10,yb,h12,h⟩:=bR h;have jz:=((((((jQ.b h8).i (fH tx 1 h10)).o 1 1 .uq (cL tx (dl h10))).g (lM h12)).i (fH tx 1 h6)).o 1 1 .uq (cL tx (dl h6)))
     obtain⟨h13,h⟩|⟨h13,h⟩:=aK h
     ·cases h;exact(jz.b h13).ret hZ
     ·cases h;exact(jz.b h13).ret hZ
   ·obtain⟨x14,h15,PO,h17,h⟩:=bR h;have uc:=((((((((((fF.r 4 h7).b h4).b h7).b h4).F 1).i (fH tx 1 h15)).o 1 1 .uq (cL tx (dl h15))).g (lM h17)).i (fH tx 1 h6)).o 1 1 .uq (cL tx (dl h6)))
    obtain⟨h18,h⟩|⟨h18,h⟩:=aK h
    ·cases h;exact(uc.b h18).ret hZ
    ·cases h;exact(uc.b h18).ret hZ
def sy(aC:aO)(cv:Bytes)(y1:aI)(k1:ay->Option (aO×Bool)):aI->Nat->ay->Option (aO×Bool)
 | [],i1,dh=>(k1 dh)
 |bg::cj,i1,dh=>((zi bg).bind fun Fj=>(bif !(Fj.2)then(some ((⟨aC.name,aC.prio,dh,[]⟩:aO),false))else(bif room ((dh.map aU.c).length+([[aB Fj.1.kind,aZ Fj.1.pat.rel,bX (Fj.1.pat.args.map tx),aZ Fj.1.left,aZ Fj.1.right]]).length) 80 then(sy aC cv y1 k1 cj (i1+1) (dh++([Fj.1])))else none)))
def tA(aC:aO)(qz:ay)(FP:aI)(k2:fA->Option (aO×Bool)):aI->Nat->fA->Option (aO×Bool)
 | [],i2,lX=>(k2 lX)
 |jL::tK,i2,lX=>((Ay jL).bind fun Ci=>(bif !(Ci.2)then(some ((⟨aC.name,aC.prio,qz,lX⟩:aO),false))else(bif room ((lX.map Action.c).length+([[aB Ci.1.kind,aZ Ci.1.pat.rel,bX (Ci.1.pat.args.map tx)]]).length) 48 then(tA aC qz FP k2 tK (i2+1) (lX++([Ci.1])))else none)))
def CI(aC:aO)(aa:Bytes)(cv:Bytes):Option (aO×Bool):=((nW aa ([32,38,32])).bind fun y1=>(bif decide (y1.length<=maxLen)then(sy aC cv y1 (fun(qz:ay)=>((nW cv ([32,38,32])).bind fun FP=>(bif decide (FP.length<=maxLen)then(tA aC qz FP (fun(yG:fA)=>((pM (⟨aC.name,aC.prio,qz,yG⟩:aO)).bind fun y77=>(some ((⟨aC.name,aC.prio,qz,yG⟩:aO),y77)))) FP 0 ([]:fA))else none))) y1 0 ([]:ay))else none))
def D7(aC:aO)(cv:Bytes)(y1:aI)(W0:List aR)(dL:Int):St:=⟨[(2,aZ cv),(3,bp 0 0),(6,bp 1 0),(8,b9 2),(9,aB dL)],[bu [aZ aC.name,aB aC.prio,b9 3,D.nil],bu [aZ ([]),aB 0,D.nil,D.nil],af 9 1 (y1.map tx),af 71 5 W0]⟩
def a4I(r:aO×Bool):Kd:=.q a2K (D.iw [bw [aZ r.1.name,aB r.1.prio,cV 71 5 (r.1.conds.map aU.c),cV 154 3 (r.1.dD.map Action.c)],bO r.2])
theorem KZ(hZ:Z.nt=69){aC:aO}{cv:Bytes}{y1:aI}{r:aO×Bool}{k1:ay->Option (aO×Bool)}(eA:∀(qz:ay),k1 qz=some r->Ax Z N f234 (a4I r) [1,1,1] ⟨[(2,aZ cv),(3,bp 0 0),(6,bp 1 0)],[bu [aZ aC.name,aB aC.prio,b9 2,D.nil],bu [aZ ([]),aB 0,D.nil,D.nil],af 71 5 (qz.map aU.c)]⟩)(hm1:y1.length<=maxLen):∀(rest:aI) (i1:Nat) (dh:ay),y1.drop i1=rest->sy aC cv y1 k1 rest i1 dh=some r->Ar Z N f234 (a4I r) [1,1,0,1,0] (rest.length+1) (D7 aC cv y1 (dh.map aU.c) (i1:Int)):=by
 intro rest
 induction rest with
 |nil=>
  intro i1 dh bD h;rw[sy]at h;refine aT fun N1 cq cS=>?_
  exact((aY.ge tx bD).a [.hl 0 [2,3,6] [0,1,3]]).ex hZ cq (eA dh h)
 |cons bg cj ih1=>
  intro i1 dh bD h;rw[sy]at h;refine aT fun N1 cq cS=>?_
  obtain⟨Fj,h36,h⟩:=aG h;have jQ:=((((aY.lt tx bD).i (fG tx 1 (dc bD))).o 1 1 .uq (cL tx (dc bD))).g (GG h36))
  obtain⟨h37,h⟩|⟨h37,h⟩:=aK h
  ·cases h;exact(jQ.b h37).ret hZ
  ·obtain⟨h38,h⟩:=bf h;exact(((jQ.b h37).w (cA h38)).a [.cn [2,3,6,8,9] [0,1,2,7]]).cs hZ cS (D7 aC cv y1 ((dh.map aU.c)++([[aB Fj.1.kind,aZ Fj.1.pat.rel,bX (Fj.1.pat.args.map tx),aZ Fj.1.left,aZ Fj.1.right]])) (IntKind.i64.wrap ((i1:Int)+1))) (by simp only[iS bD hm1,mA]<;>rfl) (ih1 (i1+1) (dh++([Fj.1])) (dn bD) h)
def D8(aC:aO)(qz:ay)(FP:aI)(W0:List aR)(dL:Int):St:=⟨[(3,bp 0 0),(6,bp 1 0),(12,b9 2),(13,aB dL)],[bu [aZ aC.name,aB aC.prio,b9 3,b9 4],bu [aZ ([]),aB 0,D.nil,D.nil],af 9 1 (FP.map tx),af 71 5 (qz.map aU.c),af 154 3 W0]⟩
theorem Ka(hZ:Z.nt=69){aC:aO}{qz:ay}{FP:aI}{r:aO×Bool}{k2:fA->Option (aO×Bool)}(zc:∀(yG:fA),k2 yG=some r->Ax Z N f234 (a4I r) [1,1,1,1,1] ⟨[(3,bp 0 0),(6,bp 1 0)],[bu [aZ aC.name,aB aC.prio,b9 2,b9 3],bu [aZ ([]),aB 0,D.nil,D.nil],af 71 5 (qz.map aU.c),af 154 3 (yG.map Action.c)]⟩)(hm2:FP.length<=maxLen):∀(rest:aI) (i2:Nat) (lX:fA),FP.drop i2=rest->tA aC qz FP k2 rest i2 lX=some r->Ar Z N f234 (a4I r) [1,1,1,1,0,1,0] (rest.length+1) (D8 aC qz FP (lX.map Action.c) (i2:Int)):=by
 intro rest
 induction rest with
 |nil=>
  intro i2 lX hd2 h;rw[tA]at h;refine aT fun N2 uX qp=>?_
  exact((aY.ge tx hd2).a [.hl 0 [3,6] [0,1,3,4]]).ex hZ uX (zc lX h)
 |cons jL tK ih2=>
  intro i2 lX hd2 h;rw[tA]at h;refine aT fun N2 uX qp=>?_
  obtain⟨Ci,h74,h⟩:=aG h;have jz:=((((aY.lt tx hd2).i (fG tx 1 (dc hd2))).o 1 1 .uq (cL tx (dc hd2))).g (Hl h74))
  obtain⟨h75,h⟩|⟨h75,h⟩:=aK h
  ·cases h;exact(jz.b h75).ret hZ
  ·obtain⟨h76,h⟩:=bf h;exact(((jz.b h75).w (cA h76)).a [.cn [3,6,12,13] [0,1,2,3,8]]).cs hZ qp (D8 aC qz FP ((lX.map Action.c)++([[aB Ci.1.kind,aZ Ci.1.pat.rel,bX (Ci.1.pat.args.map tx)]])) (IntKind.i64.wrap ((i2:Int)+1))) (by simp only[iS hd2 hm2,mA]<;>rfl) (ih2 (i2+1) (lX++([Ci.1])) (dn hd2) h)
theorem xG{aC:aO}{aa:Bytes}{cv:Bytes}{r:aO×Bool}(h:CI aC aa cv=some r):Good prog 234 [bw [aZ aC.name,aB aC.prio,D.nil,D.nil],aZ aa,aZ cv] (D.iw [bw [aZ r.1.name,aB r.1.prio,cV 71 5 (r.1.conds.map aU.c),cV 154 3 (r.1.dD.map Action.c)],bO r.2]):=by
 refine gd func234 a2K 69 fun hr Z hZ=>?_
 rw[CI]at h;obtain⟨y1,h2,h⟩:=aG h;obtain⟨h80,h⟩:=bf h;refine((aY.g (iL h2)).a [.pb 0 2 71 5,.cn [2,3,6,8,9] [0,1,2,3]]).lp hZ (KZ hZ (fun qz h=>?_) (bh h80) y1 0 ([]:ay) rfl h);obtain⟨FP,h40,h⟩:=aG h;obtain⟨h79,h⟩:=bf h;refine((aY.g (iL h40)).a [.pb 0 3 154 3,.cn [3,6,12,13] [0,1,3,2,4]]).lp hZ (Ka hZ (fun yG h=>?_) (bh h79) FP 0 ([]:fA) rfl h);obtain⟨y77,h78,h⟩:=aG h;cases h;exact((aY.a [.n 3,.d (bO y77)]).w (show Good prog 128 [bw [aZ aC.name,aB aC.prio,bX (qz.map aU.c),bX (yG.map Action.c)]] (bO y77)from by first| (simpa only[bI,bA,cF,cD,cI]using gU h78)|exact gU h78| (have t:=gU h78;simp only[bI,cD,cI,aO.c]at t;exact t))).ret hZ
def rP(aC:Bytes):Option (aO×Bool):=((nW aC ([58,32])).bind fun y1=>(bif (((y1.map tx).length:Int):Int) != 2 then(some ((⟨[],0,[],[]⟩:aO),false))else((fy y1 (0:Int)).bind fun x4=>((nW x4 ([32])).bind fun y6=>((fy y1 (1:Int)).bind fun x8=>((nW x8 ([32,45,62,32])).bind fun GY=>(bif (((y6.map tx).length:Int):Int) != 2 then(some ((⟨[],0,[],[]⟩:aO),false))else(bif (((GY.map tx).length:Int):Int) != 2 then(some ((⟨[],0,[],[]⟩:aO),false))else((fy y6 (1:Int)).bind fun x14=>((oD x14).bind fun PO=>(bif !(PO.2)then(some ((⟨[],0,[],[]⟩:aO),false))else((fy y6 (0:Int)).bind fun x19=>((fy GY (0:Int)).bind fun x21=>((fy GY (1:Int)).bind fun x23=>((CI (⟨x19,PO.1,[],[]⟩:aO) x21 x23).bind fun xm=>(bif !(xm.2)then(some ((⟨[],0,[],[]⟩:aO),false))else(some (xm.1,true))))))))))))))))))
theorem GH{aC:Bytes}{r:aO×Bool}(h:rP aC=some r):Good prog 222 [aZ aC] (D.iw [bw [aZ r.1.name,aB r.1.prio,cV 71 5 (r.1.conds.map aU.c),cV 154 3 (r.1.dD.map Action.c)],bO r.2]):=by
 refine gd func222 a2K 63 fun hr Z hZ=>?_
 rw[rP]at h;obtain⟨y1,h2,h⟩:=aG h;obtain⟨h3,h⟩|⟨h3,h⟩:=aK h
 ·cases h;exact((aY.g (iL h2)).b h3).ret hZ
 ·obtain⟨x4,h5,y6,h7,x8,h9,GY,h11,h⟩:=Bj h;have lB:=((((((((aY.g (iL h2)).b h3).i (fH tx 1 h5)).o 1 1 .uq (cL tx (dl h5))).g (iL h7)).i (fH tx 1 h9)).o 1 1 .uq (cL tx (dl h9))).g (iL h11))
  obtain⟨h12,h⟩|⟨h12,h⟩:=aK h
  ·cases h;exact((lB.r 4 h12).T 1).ret hZ
  ·have fF:=(lB.r 4 h12)
   obtain⟨h13,h⟩|⟨h13,h⟩:=aK h
   ·cases h;exact(fF.b h13).ret hZ
   ·obtain⟨x14,h15,PO,h17,h⟩:=bR h;have jQ:=((((fF.b h13).i (fH tx 1 h15)).o 1 1 .uq (cL tx (dl h15))).g (sn h17))
    obtain⟨h18,h⟩|⟨h18,h⟩:=aK h
    ·cases h;exact(jQ.b h18).ret hZ
    ·obtain⟨x19,h20,x21,h22,x23,h24,xm,h26,h⟩:=Bj h;have jz:=((((((((((jQ.b h18).a [.n 17]).i (fH tx 1 h20)).o 1 1 .uq (cL tx (dl h20))).i (fH tx 1 h22)).o 1 1 .uq (cL tx (dl h22))).i (fH tx 1 h24)).o 1 1 .uq (cL tx (dl h24))).a [.nl (D.iw [bw [aZ xm.1.name,aB xm.1.prio,cV 71 5 (xm.1.conds.map aU.c),cV 154 3 (xm.1.dD.map Action.c)],bO xm.2])]).w (show Good prog 234 [bw [aZ x19,aB PO.1,D.nil,D.nil],aZ x21,aZ x23] (D.iw [bw [aZ xm.1.name,aB xm.1.prio,cV 71 5 (xm.1.conds.map aU.c),cV 154 3 (xm.1.dD.map Action.c)],bO xm.2])from by first| (simpa only[bI,bA,cF,cD,cI]using xG h26)|exact xG h26| (have t:=xG h26;simp only[bI,cD,cI,aO.c]at t;exact t)))
     obtain⟨h27,h⟩|⟨h27,h⟩:=aK h
     ·cases h;exact(jz.b h27).ret hZ
     ·cases h;exact(jz.b h27).ret hZ
def pg(aC:ck)(aa:Int):Option (ck×aO):=((cg aC (T9 aa ((([[114,32,49,58,32,111,110,40,63,120,44,63,121,41,32,38,32,111,110,40,63,121,44,63,122,41,32,45,62,32,97,100,100,32,111,110,40,63,120,44,63,122,41],[114,32,50,58,32,111,110,40,63,120,44,63,121,41,32,38,32,112,40,63,121,41,32,45,62,32,97,100,100,32,112,40,63,120,41],[114,32,48,58,32,112,40,63,120,41,32,38,32,111,110,40,63,120,44,63,121,41,32,38,32,63,120,32,33,61,32,63,121,32,45,62,32,97,100,100,32,97,116,40,63,121,44,63,120,41],[114,32,51,58,32,97,116,40,63,120,44,63,121,41,32,38,32,112,40,63,120,41,32,38,32,112,40,63,121,41,32,38,32,63,120,32,60,32,63,121,32,45,62,32,97,100,100,32,122,40,41],[114,32,52,58,32,111,110,40,63,120,44,97,41,32,45,62,32,97,100,100,32,113,40,63,120,41,32,38,32,97,100,100,32,112,40,97,41],[114,32,49,58,32,97,116,40,63,120,44,63,120,41,32,38,32,113,40,49,41,32,45,62,32,97,100,100,32,111,110,40,63,120,44,49,41],[114,32,49,58,32,112,40,63,120,41,32,38,32,110,111,116,32,113,40,63,120,41,32,45,62,32,97,100,100,32,97,116,40,63,120,44,98,41],[114,32,50,58,32,111,110,40,63,120,44,63,121,41,32,38,32,110,111,116,32,97,116,40,63,121,44,63,122,41,32,45,62,32,97,100,100,32,113,40,63,121,41],[114,32,53,58,32,97,116,40,63,120,44,63,121,41,32,38,32,110,111,116,32,112,40,63,121,41,32,38,32,63,120,32,33,61,32,63,121,32,45,62,32,97,100,100,32,122,40,41],[114,32,57,58,32,113,40,63,120,41,32,38,32,112,40,63,120,41,32,45,62,32,100,114,111,112,32,112,40,63,120,41],[114,32,48,58,32,97,116,40,63,120,44,49,41,32,38,32,97,116,40,63,121,44,50,41,32,38,32,63,120,32,61,32,63,121,32,45,62,32,100,114,111,112,32,97,116,40,63,120,44,49,41,32,38,32,115,116,111,112],[114,32,49,58,32,111,110,40,63,120,44,63,120,41,32,45,62,32,115,116,111,112],[114,32,55,58,32,122,40,41,32,38,32,111,110,40,63,120,44,63,121,41,32,45,62,32,100,114,111,112,32,122,40,41,32,38,32,97,100,100,32,111,110,40,63,121,44,63,120,41]]:aI).map tx).length:Int))).bind fun y1=>((fy ([[114,32,49,58,32,111,110,40,63,120,44,63,121,41,32,38,32,111,110,40,63,121,44,63,122,41,32,45,62,32,97,100,100,32,111,110,40,63,120,44,63,122,41],[114,32,50,58,32,111,110,40,63,120,44,63,121,41,32,38,32,112,40,63,121,41,32,45,62,32,97,100,100,32,112,40,63,120,41],[114,32,48,58,32,112,40,63,120,41,32,38,32,111,110,40,63,120,44,63,121,41,32,38,32,63,120,32,33,61,32,63,121,32,45,62,32,97,100,100,32,97,116,40,63,121,44,63,120,41],[114,32,51,58,32,97,116,40,63,120,44,63,121,41,32,38,32,112,40,63,120,41,32,38,32,112,40,63,121,41,32,38,32,63,120,32,60,32,63,121,32,45,62,32,97,100,100,32,122,40,41],[114,32,52,58,32,111,110,40,63,120,44,97,41,32,45,62,32,97,100,100,32,113,40,63,120,41,32,38,32,97,100,100,32,112,40,97,41],[114,32,49,58,32,97,116,40,63,120,44,63,120,41,32,38,32,113,40,49,41,32,45,62,32,97,100,100,32,111,110,40,63,120,44,49,41],[114,32,49,58,32,112,40,63,120,41,32,38,32,110,111,116,32,113,40,63,120,41,32,45,62,32,97,100,100,32,97,116,40,63,120,44,98,41],[114,32,50,58,32,111,110,40,63,120,44,63,121,41,32,38,32,110,111,116,32,97,116,40,63,121,44,63,122,41,32,45,62,32,97,100,100,32,113,40,63,121,41],[114,32,53,58,32,97,116,40,63,120,44,63,121,41,32,38,32,110,111,116,32,112,40,63,121,41,32,38,32,63,120,32,33,61,32,63,121,32,45,62,32,97,100,100,32,122,40,41],[114,32,57,58,32,113,40,63,120,41,32,38,32,112,40,63,120,41,32,45,62,32,100,114,111,112,32,112,40,63,120,41],[114,32,48,58,32,97,116,40,63,120,44,49,41,32,38,32,97,116,40,63,121,44,50,41,32,38,32,63,120,32,61,32,63,121,32,45,62,32,100,114,111,112,32,97,116,40,63,120,44,49,41,32,38,32,115,116,111,112],[114,32,49,58,32,111,110,40,63,120,44,63,120,41,32,45,62,32,115,116,111,112],[114,32,55,58,32,122,40,41,32,38,32,111,110,40,63,120,44,63,121,41,32,45,62,32,100,114,111,112,32,122,40,41,32,38,32,97,100,100,32,111,110,40,63,121,44,63,120,41]]:aI) y1.2).bind fun x3=>((rP x3).bind fun y5=>(some (y1.1,y5.1)))))
theorem xF{aC:ck}{aa:Int}{r:ck×aO}(h:pg aC aa=some r):iz prog 199 (ck.c aC) (ck.c r.1) [aB aa] (bw [aZ r.2.name,aB r.2.prio,cV 71 5 (r.2.conds.map aU.c),cV 154 3 (r.2.dD.map Action.c)]):=by
 refine L4 func199 Kp 23 [bX (aC.b.map yx),aB aC.i,aB aC.h] [aB aa] [] fun hr jB Z hZ=>?_
 rw[pg]at h;obtain⟨y1,h2,x3,h4,y5,h6,h⟩:=gW h;cases h;exact((((aY.hp iy (cQ h2)).i (fH tx 1 h4)).o 1 1 .uq (cL tx (dl h4))).g (GH h6)).ret hZ
def jj(y1:ck×Int)(k1:bM->Int->Int->ay->Option (ck×aO)):Nat->Int->bM->Int->Int->ay->Option (ck×aO)
 |0,_,_,_,_,_=>none
 |n1+1,pz,fK,eH,eL,dh=>(bif decide ((pz:Int)>0)then((tU (⟨fK,eH,eL⟩:ck)).bind fun Cg=>(bif room ((dh.map aU.c).length+([[aB Cg.2.kind,aZ Cg.2.pat.rel,bX (Cg.2.pat.args.map tx),aZ Cg.2.left,aZ Cg.2.right]]).length) 80 then(jj y1 k1 n1 (IntKind.i64.wrap (pz-1)) Cg.1.b Cg.1.i Cg.1.h (dh++([Cg.2])))else none))else(k1 fK eH eL dh))
def eG(y1:ck×Int)(eN:ay)(IV:aI)(ue:ck×aD)(k2:bM->Int->Int->aI->Option (ck×aO)):Nat->Int->bM->Int->Int->aI->Option (ck×aO)
 |0,_,_,_,_,_=>none
 |n2+1,EX,zy,yI,yJ,kQ=>(bif decide ((EX:Int)<((kQ.map tx).length:Int))then((fy kQ EX).bind fun x91=>((ij x91).bind fun y93=>(bif y93 then((iE IV x91).bind fun y96=>(bif !(y96)then((j9 (⟨zy,yI,yJ⟩:ck)).bind fun II=>(eG y1 eN IV ue k2 n2 (IntKind.i64.wrap (EX+1)) II.1.b II.1.i II.1.h (kQ.set EX.toNat II.2)))else(eG y1 eN IV ue k2 n2 (IntKind.i64.wrap (EX+1)) zy yI yJ kQ)))else(eG y1 eN IV ue k2 n2 (IntKind.i64.wrap (EX+1)) zy yI yJ kQ))))else(k2 zy yI yJ kQ))
def vP(aC:ck):Option (ck×aO):=((cg aC 4).bind fun y1=>((jx y1.1).bind fun y3=>((cg y3.1 3).bind fun y5=>(jj y1 (fun(nC:bM) (nD:Int) (nE:Int) (eN:ay)=>((mX (⟨[114],y1.2,eN,[]⟩:aO) ((eN.map aU.c).length:Int)).bind fun IV=>((jx (⟨nC,nD,nE⟩:ck)).bind fun ue=>(eG y1 eN IV ue (fun(Nq:bM) (Nr:Int) (Ns:Int) (nA:aI)=>((ir (⟨Nq,Nr,Ns⟩:ck) ([1,1,2]:bM)).bind fun Bd=>(bif room (([]:List aR).length+([[aB Bd.2,aZ ue.2.rel,bX (nA.map tx)]]).length) 48 then((eZ Bd.1 6).bind fun L3=>(bif L3.2 then(bif room ((([]:List aR)++([[aB Bd.2,aZ ue.2.rel,bX (nA.map tx)]])).length+([[aB 3,aZ ([]),bX ([])]]).length) 48 then((pM (⟨[114],y1.2,eN,(([]:fA)++([(⟨Bd.2,(⟨ue.2.rel,nA⟩:aD)⟩:Action)]))++([(⟨3,(⟨[],[]⟩:aD)⟩:Action)])⟩:aO)).bind fun Dg=>(bif !(Dg)then((pg L3.1 99).bind fun O4=>(some (O4.1,O4.2)))else(some (L3.1,(⟨[114],y1.2,eN,(([]:fA)++([(⟨Bd.2,(⟨ue.2.rel,nA⟩:aD)⟩:Action)]))++([(⟨3,(⟨[],[]⟩:aD)⟩:Action)])⟩:aO)))))else none)else((pM (⟨[114],y1.2,eN,([]:fA)++([(⟨Bd.2,(⟨ue.2.rel,nA⟩:aD)⟩:Action)])⟩:aO)).bind fun a69=>(bif !(a69)then((pg L3.1 99).bind fun a9l=>(some (a9l.1,a9l.2)))else(some (L3.1,(⟨[114],y1.2,eN,([]:fA)++([(⟨Bd.2,(⟨ue.2.rel,nA⟩:aD)⟩:Action)])⟩:aO)))))))else none))) fuel 0 ue.1.b ue.1.i ue.1.h ue.2.args)))) fuel y5.2 y5.1.b y5.1.i y5.1.h ([(⟨1,y3.2,[],[]⟩:aU)])))))
def yD(jB:Value)(y1:ck×Int)(pz:Int)(eH:Int)(eL:Int)(W1:List aR)(W4:List aR):St:=⟨[(0,bp 0 0),(2,bp 1 0),(3,bp 2 0),(4,aB pz)],[Ob.CW [bX W1,aB eH,aB eL] jB,bu [aZ ([]),aB 0,D.nil,D.nil],bu [aZ ([114]),aB y1.2,b9 3,D.nil],af 71 5 W4]⟩
theorem JS(hZ:Z.nt=88){jB:Value}{y1:ck×Int}{r:ck×aO}{k1:bM->Int->Int->ay->Option (ck×aO)}(eA:∀(nC:bM) (nD:Int) (nE:Int) (eN:ay),k1 nC nD nE eN=some r->Ax Z N f198 (.p Kp jB (ck.c r.1) (bw [aZ r.2.name,aB r.2.prio,cV 71 5 (r.2.conds.map aU.c),cV 154 3 (r.2.dD.map Action.c)])) [1,1,1] ⟨[(0,bp 0 0),(2,bp 1 0),(3,bp 2 0)],[Ob.CW [bX (nC.map yx),aB nD,aB nE] jB,bu [aZ ([]),aB 0,D.nil,D.nil],bu [aZ ([114]),aB y1.2,b9 3,D.nil],af 71 5 (eN.map aU.c)]⟩):∀(n1:Nat) (pz:Int) (fK:bM) (eH:Int) (eL:Int) (dh:ay),jj y1 k1 n1 pz fK eH eL dh=some r->Ar Z N f198 (.p Kp jB (ck.c r.1) (bw [aZ r.2.name,aB r.2.prio,cV 71 5 (r.2.conds.map aU.c),cV 154 3 (r.2.dD.map Action.c)])) [1,1,0,1,0] n1 (yD jB y1 pz eH eL (fK.map yx) (dh.map aU.c)):=by
 intro n
 induction n with
 |zero=>intro pz fK eH eL dh h;simp[jj]at h
 |succ n1 ih1=>
  intro pz fK eH eL dh h;rw[jj]at h;refine aT fun N1 cq cS=>?_
  obtain⟨h25,h⟩|⟨h25,h⟩:=aK h
  ·obtain⟨Cg,h29,h⟩:=aG h;obtain⟨h30,h⟩:=bf h;exact(((((aY.b h25).a [.n2 [0,1,2,3,4,5,6,7] [0,1,2,3,4,5,6,7] 3 5 [0,1] [0,4],.gp jK (ck.c Cg.1) (bw [aB Cg.2.kind,aZ Cg.2.pat.rel,cV 9 1 (Cg.2.pat.args.map tx),aZ Cg.2.left,aZ Cg.2.right])]).w (show iz prog 200 (ck.c (⟨fK,eH,eL⟩:ck)) (ck.c Cg.1) [] (bw [aB Cg.2.kind,aZ Cg.2.pat.rel,cV 9 1 (Cg.2.pat.args.map tx),aZ Cg.2.left,aZ Cg.2.right])from by simpa only[bI,bA,cF,cD,cI]using CE h29)).w (cA h30)).a [.cn [0,2,3,4] [0,1,2,6]]).cs hZ cS (yD jB y1 (IntKind.i64.wrap (pz-1)) Cg.1.i Cg.1.h (Cg.1.b.map yx) ((dh.map aU.c)++([[aB Cg.2.kind,aZ Cg.2.pat.rel,bX (Cg.2.pat.args.map tx),aZ Cg.2.left,aZ Cg.2.right]]))) (by simp only[mA]<;>rfl) (ih1 (IntKind.i64.wrap (pz-1)) Cg.1.b Cg.1.i Cg.1.h (dh++([Cg.2])) h)
  ·exact((aY.b h25).a [.hl 0 [0,2,3] [0,1,2,3]]).ex hZ cq (eA fK eH eL dh h)
def CH(jB:Value)(y1:ck×Int)(eN:ay)(IV:aI)(ue:ck×aD)(EX:Int)(yI:Int)(yJ:Int)(W1:List aR)(W4:List aR):St:=⟨[(0,bp 0 0),(2,bp 1 0),(3,bp 2 0),(5,b9 3),(6,bp 4 0),(7,aB EX)],[Ob.CW [bX W1,aB yI,aB yJ] jB,bu [aZ ([]),aB 0,D.nil,D.nil],bu [aZ ([114]),aB y1.2,b9 5,D.nil],af 9 1 (IV.map tx),bu [aZ ue.2.rel,b9 6],af 71 5 (eN.map aU.c),af 9 1 W4]⟩
theorem JT(hZ:Z.nt=88){jB:Value}{y1:ck×Int}{eN:ay}{IV:aI}{ue:ck×aD}{r:ck×aO}{k2:bM->Int->Int->aI->Option (ck×aO)}(zc:∀(Nq:bM) (Nr:Int) (Ns:Int) (nA:aI),k2 Nq Nr Ns nA=some r->Ax Z N f198 (.p Kp jB (ck.c r.1) (bw [aZ r.2.name,aB r.2.prio,cV 71 5 (r.2.conds.map aU.c),cV 154 3 (r.2.dD.map Action.c)])) [1,1,1,1,1,1] ⟨[(0,bp 0 0),(2,bp 1 0),(3,bp 2 0),(6,bp 3 0)],[Ob.CW [bX (Nq.map yx),aB Nr,aB Ns] jB,bu [aZ ([]),aB 0,D.nil,D.nil],bu [aZ ([114]),aB y1.2,b9 4,D.nil],bu [aZ ue.2.rel,b9 5],af 71 5 (eN.map aU.c),af 9 1 (nA.map tx)]⟩):∀(n2:Nat) (EX:Int) (zy:bM) (yI:Int) (yJ:Int) (kQ:aI),eG y1 eN IV ue k2 n2 EX zy yI yJ kQ=some r->Ar Z N f198 (.p Kp jB (ck.c r.1) (bw [aZ r.2.name,aB r.2.prio,cV 71 5 (r.2.conds.map aU.c),cV 154 3 (r.2.dD.map Action.c)])) [1,1,1,1,1,0,1,0] n2 (CH jB y1 eN IV ue EX yI yJ (zy.map yx) (kQ.map tx)):=by
 intro n
 induction n with
 |zero=>intro EX zy yI yJ kQ h;simp[eG]at h
 |succ n2 ih2=>
  intro EX zy yI yJ kQ h;rw[eG]at h;refine aT fun N2 uX qp=>?_
  obtain⟨h90,h⟩|⟨h90,h⟩:=aK h
  ·obtain⟨x91,h92,y93,h94,h⟩:=bR h;have jQ:=((((aY.b h90).i (fH tx 1 h92)).o 1 1 .uq (cL tx (dl h92))).g (gL h94))
   obtain⟨h95,h⟩|⟨h95,h⟩:=aK h
   ·obtain⟨y96,h97,h⟩:=aG h;have jz:=(((((((jQ.r 5 h95).i (fH tx 1 h92)).b h95).o 1 1 .uq (cL tx (dl h92))).b h95).g (lI h97)).r 2 h95)
    obtain⟨h98,h⟩|⟨h98,h⟩:=aK h
    ·obtain⟨II,h102,h⟩:=aG h;exact((((((jz.b h98).a [.n2 [0,1,2,3,4,5,6] [0,1,2,3,4,5,6] 4 5 [0,1,2] [0],.gp jK (ck.c II.1) (aZ II.2)]).w (show iz prog 181 (ck.c (⟨zy,yI,yJ⟩:ck)) (ck.c II.1) [] (aZ II.2)from by simpa only[bI,bA,cF,cD,cI]using xz h102)).i (fH tx 1 h92)).w (show(kQ.map tx)[EX.toNat]?=some [aZ x91]from cL tx (dl h92))).a [.row [aZ x91],.cn [0,2,3,5,6,7] [0,1,2,3,4,5,6]]).cs hZ qp (CH jB y1 eN IV ue (IntKind.i64.wrap (EX+1)) II.1.i II.1.h (II.1.b.map yx) ((kQ.map tx).set EX.toNat [aZ II.2])) (by simp only[mA]<;>rfl) (ih2 (IntKind.i64.wrap (EX+1)) II.1.b II.1.i II.1.h (kQ.set EX.toNat II.2) h)
    ·exact((jz.b h98).a [.cn [0,2,3,5,6,7] [0,1,2,3,4,5,6]]).cf hZ qp (ih2 (IntKind.i64.wrap (EX+1)) zy yI yJ kQ h)
   ·exact(((jQ.r 9 h95).F 1).a [.cn [0,2,3,5,6,7] [0,1,2,3,4,5,6]]).cf hZ qp (ih2 (IntKind.i64.wrap (EX+1)) zy yI yJ kQ h)
  ·exact((aY.b h90).a [.hl 0 [0,2,3,6] [0,1,2,4,5,6]]).ex hZ uX (zc zy yI yJ kQ h)
theorem Ho{aC:ck}{r:ck×aO}(h:vP aC=some r):iz prog 198 (ck.c aC) (ck.c r.1) [] (bw [aZ r.2.name,aB r.2.prio,cV 71 5 (r.2.conds.map aU.c),cV 154 3 (r.2.dD.map Action.c)]):=by
 refine L4 func198 Kp 88 [bX (aC.b.map yx),aB aC.i,aB aC.h] [] [] fun hr jB Z hZ=>?_
 rw[vP]at h;obtain⟨y1,h2,y3,h4,y5,h6,h⟩:=gW h;refine((((aY.hp iy (cQ h2)).hp jK (oy h4)).hp iy (cQ h6)).a [.cn [0,2,3,4] [0,1,4,3]]).lps hZ (yD jB y1 y5.2 y5.1.i y5.1.h (y5.1.b.map yx) ([[aB 1,aZ y3.2.rel,bX (y3.2.args.map tx),aZ ([]),aZ ([])]])) (by simp only[mA]<;>rfl) (JS hZ (fun nC nD nE eN h=>?_) fuel y5.2 y5.1.b y5.1.i y5.1.h ([(⟨1,y3.2,[],[]⟩:aU)]) h);obtain⟨IV,h32,ue,h34,h⟩:=bR h;refine(((((aY.a [.d (cV 9 1 (IV.map tx))]).w (show Good prog 188 [bw [aZ ([114]),aB y1.2,bX (eN.map aU.c),bX ([])],aB ((eN.map aU.c).length:Int)] (cV 9 1 (IV.map tx))from by first| (simpa only[bI,bA,cF,cD,cI]using lH h32)|exact lH h32| (have t:=lH h32;simp only[bI,cD,cI,aO.c]at t;exact t))).a [.gp jK (ck.c ue.1) (bw [aZ ue.2.rel,cV 9 1 (ue.2.args.map tx)])]).w (show iz prog 201 (ck.c (⟨nC,nD,nE⟩:ck)) (ck.c ue.1) [] (bw [aZ ue.2.rel,cV 9 1 (ue.2.args.map tx)])from by simpa only[bI,bA,cF,cD,cI]using oy h34)).a [.cn [0,2,3,5,6,7] [0,1,2,4,6,3,5]]).lp hZ (JT hZ (fun Nq Nr Ns nA h=>?_) fuel 0 ue.1.b ue.1.i ue.1.h ue.2.args h);obtain⟨Bd,h106,h⟩:=aG h;obtain⟨h107,h⟩:=bf h;obtain⟨L3,h109,h⟩:=aG h;have uc:=((((aY.a [.n2 [0,1,2,3,5,4,6,7,8,9,10] [0,1,2,3,5,4,6,7,8,9,10] 5 8 [0,1,4] [0,5,6],.gp OM (ck.c Bd.1) (aB Bd.2)]).w (show iz prog 78 (ck.c (⟨Nq,Nr,Ns⟩:ck)) (ck.c Bd.1) [cV 3 1 (([1,1,2]:bM).map jM)] (aB Bd.2)from by simpa only[bI,bA,cF,cD,cI]using l9 h106)).w (cA h107)).hp iy (eS h109))
 obtain⟨h110,h⟩|⟨h110,h⟩:=aK h
 ·obtain⟨h111,h⟩:=bf h;obtain⟨Dg,h113,h⟩:=aG h;have xf:=((((uc.b h110).w (cA h111)).a [.d (bO Dg)]).w (show Good prog 128 [bw [aZ ([114]),aB y1.2,bX (eN.map aU.c),bX ((([]:List aR)++([[aB Bd.2,aZ ue.2.rel,bX (nA.map tx)]]))++([[aB 3,aZ ([]),bX ([])]]))]] (bO Dg)from by first| (simpa only[bI,bA,cF,cD,cI]using gU h113)|exact gU h113| (have t:=gU h113;simp only[bI,cD,cI,aO.c]at t;exact t)))
  obtain⟨h114,h⟩|⟨h114,h⟩:=aK h
  ·obtain⟨O4,h116,h⟩:=aG h;cases h;exact((xf.b h114).hp iy (xF h116)).ret hZ
  ·cases h;exact(xf.b h114).rts hZ (D.iw [bw [aZ ([114]),aB y1.2,cV 71 5 (eN.map aU.c),cV 154 3 ((([]:List aR)++([[aB Bd.2,aZ ue.2.rel,bX (nA.map tx)]]))++([[aB 3,aZ ([]),bX ([])]]))],bw [bX (L3.1.b.map yx),aB L3.1.i,aB L3.1.h],D.val jB]) (by first|rfl| (simp only[mA]<;>rfl))
 ·obtain⟨a69,h118,h⟩:=aG h;have Ak:=(((uc.b h110).a [.d (bO a69)]).w (show Good prog 128 [bw [aZ ([114]),aB y1.2,bX (eN.map aU.c),bX (([]:List aR)++([[aB Bd.2,aZ ue.2.rel,bX (nA.map tx)]]))]] (bO a69)from by first| (simpa only[bI,bA,cF,cD,cI]using gU h118)|exact gU h118| (have t:=gU h118;simp only[bI,cD,cI,aO.c]at t;exact t)))
  obtain⟨h119,h⟩|⟨h119,h⟩:=aK h
  ·obtain⟨a9l,h121,h⟩:=aG h;cases h;exact((Ak.b h119).hp iy (xF h121)).ret hZ
  ·cases h;exact(Ak.b h119).rts hZ (D.iw [bw [aZ ([114]),aB y1.2,cV 71 5 (eN.map aU.c),cV 154 3 (([]:List aR)++([[aB Bd.2,aZ ue.2.rel,bX (nA.map tx)]]))],bw [bX (L3.1.b.map yx),aB L3.1.i,aB L3.1.h],D.val jB]) (by first|rfl| (simp only[mA]<;>rfl))
def nJ(aC:ck):Option (ck×aO):=((eZ aC 3).bind fun y1=>(bif y1.2 then((vP y1.1).bind fun y4=>(some (y4.1,y4.2)))else((pg y1.1 99).bind fun y6=>(some (y6.1,y6.2)))))
theorem CG{aC:ck}{r:ck×aO}(h:nJ aC=some r):iz prog 136 (ck.c aC) (ck.c r.1) [] (bw [aZ r.2.name,aB r.2.prio,cV 71 5 (r.2.conds.map aU.c),cV 154 3 (r.2.dD.map Action.c)]):=by
 refine L4 func136 Kp 9 [bX (aC.b.map yx),aB aC.i,aB aC.h] [] [] fun hr jB Z hZ=>?_
 rw[nJ]at h;obtain⟨y1,h2,h⟩:=aG h;obtain⟨h3,h⟩|⟨h3,h⟩:=aK h
 ·obtain⟨y4,h5,h⟩:=aG h;cases h;exact(((aY.hp iy (eS h2)).b h3).hp jK (Ho h5)).ret hZ
 ·obtain⟨y6,h7,h⟩:=aG h;cases h;exact(((aY.hp iy (eS h2)).b h3).hp iy (xF h7)).ret hZ
def oG(k1:bM->Int->Int->az->Option (ck×az)):Nat->Int->bM->Int->Int->az->Option (ck×az)
 |0,_,_,_,_,_=>none
 |n1+1,dX,fK,eH,eL,bn=>(bif decide ((dX:Int)>0)then((nJ (⟨fK,eH,eL⟩:ck)).bind fun xm=>((kF dX).bind fun qA=>(bif decide (([114]:Bytes).length+(qA:Bytes).length<=maxLen)then(bif room ((bn.map aO.c).length+([[aZ (([114])++qA),aB xm.2.prio,bX (xm.2.conds.map aU.c),bX (xm.2.dD.map Action.c)]]).length) 72 then(oG k1 n1 (IntKind.i64.wrap (dX-1)) xm.1.b xm.1.i xm.1.h (bn++([(⟨([114])++qA,xm.2.prio,xm.2.conds,xm.2.dD⟩:aO)])))else none)else none)))else(k1 fK eH eL bn))
def zD(aC:ck)(aa:Int):Option (ck×az):=((cg aC (IntKind.i64.wrap (aa+1))).bind fun y1=>(oG (fun(nC:bM) (nD:Int) (nE:Int) (kO:az)=>(some ((⟨nC,nD,nE⟩:ck),kO))) fuel y1.2 y1.1.b y1.1.i y1.1.h ([]:az)))
def FY(jB:Value)(dX:Int)(eH:Int)(eL:Int)(W1:List aR)(W4:List aR):St:=⟨[(0,bp 0 0),(5,b9 1),(6,aB dX)],[Ob.CW [bX W1,aB eH,aB eL] jB,af 63 4 W4]⟩
theorem NV(hZ:Z.nt=28){jB:Value}{r:ck×az}{k1:bM->Int->Int->az->Option (ck×az)}(eA:∀(nC:bM) (nD:Int) (nE:Int) (kO:az),k1 nC nD nE kO=some r->Ax Z N f132 (.p WZ jB (ck.c r.1) (cV 63 4 (r.2.map aO.c))) [1,1,1] ⟨[(5,b9 1)],[Ob.CW [bX (nC.map yx),aB nD,aB nE] jB,af 63 4 (kO.map aO.c)]⟩):∀(n1:Nat) (dX:Int) (fK:bM) (eH:Int) (eL:Int) (bn:az),oG k1 n1 dX fK eH eL bn=some r->Ar Z N f132 (.p WZ jB (ck.c r.1) (cV 63 4 (r.2.map aO.c))) [1,1,0,1,0] n1 (FY jB dX eH eL (fK.map yx) (bn.map aO.c)):=by
 intro n
 induction n with
 |zero=>intro dX fK eH eL bn h;simp[oG]at h
 |succ n1 ih1=>
  intro dX fK eH eL bn h;rw[oG]at h;refine aT fun N1 cq cS=>?_
  obtain⟨h24,h⟩|⟨h24,h⟩:=aK h
  ·obtain⟨xm,h26,qA,h28,h⟩:=bR h;obtain⟨h29,h⟩:=bf h;obtain⟨h30,h⟩:=bf h;exact(((((((aY.b h24).a [.gp jK (ck.c xm.1) (bw [aZ xm.2.name,aB xm.2.prio,cV 71 5 (xm.2.conds.map aU.c),cV 154 3 (xm.2.dD.map Action.c)])]).w (show iz prog 136 (ck.c (⟨fK,eH,eL⟩:ck)) (ck.c xm.1) [] (bw [aZ xm.2.name,aB xm.2.prio,cV 71 5 (xm.2.conds.map aU.c),cV 154 3 (xm.2.dD.map Action.c)])from by simpa only[bI,bA,cF,cD,cI]using CG h26)).g (oR h28)).w (bh h29)).w (cA h30)).a [.cn [0,5,6] [0,6]]).cs hZ cS (FY jB (IntKind.i64.wrap (dX-1)) xm.1.i xm.1.h (xm.1.b.map yx) ((bn.map aO.c)++([[aZ (([114])++qA),aB xm.2.prio,bX (xm.2.conds.map aU.c),bX (xm.2.dD.map Action.c)]]))) (by simp only[mA]<;>rfl) (ih1 (IntKind.i64.wrap (dX-1)) xm.1.b xm.1.i xm.1.h (bn++([(⟨([114])++qA,xm.2.prio,xm.2.conds,xm.2.dD⟩:aO)])) h)
  ·exact((aY.b h24).a [.hl 0 [5] [0,1]]).ex hZ cq (eA fK eH eL bn h)
theorem M1{aC:ck}{aa:Int}{r:ck×az}(h:zD aC aa=some r):iz prog 132 (ck.c aC) (ck.c r.1) [aB aa] (cV 63 4 (r.2.map aO.c)):=by
 refine L4 func132 WZ 28 [bX (aC.b.map yx),aB aC.i,aB aC.h] [aB aa] [] fun hr jB Z hZ=>?_
 rw[zD]at h;obtain⟨y1,h2,h⟩:=aG h;refine((aY.hp iy (cQ h2)).a [.cn [0,5,6] [0,1]]).lp hZ (NV hZ (fun nC nD nE kO h=>?_) fuel y1.2 y1.1.b y1.1.i y1.1.h ([]:az) h);cases h;exact aY.ret hZ
def mG(aC:az)(aa:Bytes)(k1:Option Int):az->Nat->Option Int
 | [],i1=>(k1)
 |bg::cj,i1=>(bif (bg.name:Bytes)==aa then(some (i1:Int))else(mG aC aa k1 cj (i1+1)))
def lT(aC:az)(aa:Bytes):Option Int:=(mG aC aa (some (-1)) aC 0)
def KL(aC:az)(aa:Bytes)(dL:Int):St:=⟨[(0,bX (aC.map aO.c)),(1,aZ aa),(5,aB dL)],[]⟩
theorem JB(hZ:Z.nt=20){aC:az}{aa:Bytes}{r:Int}{k1:Option Int}(eA:k1=some r->Ax Z N f30 (.q bZ (aB r)) [1,1] ⟨[],[]⟩)(hm1:aC.length<=maxLen):∀(rest:az) (i1:Nat),aC.drop i1=rest->mG aC aa k1 rest i1=some r->Ar Z N f30 (.q bZ (aB r)) [1,0,1,0] (rest.length+1) (KL aC aa (i1:Int)):=by
 intro rest
 induction rest with
 |nil=>
  intro i1 bD h;rw[mG]at h;refine aT fun N1 cq cS=>?_
  exact((aY.ge aO.c bD).a [.hl 0 [] []]).ex hZ cq (eA h)
 |cons bg cj ih1=>
  intro i1 bD h;rw[mG]at h;refine aT fun N1 cq cS=>?_
  have fF:=((aY.lt aO.c bD).l (bK aO.c 4 (dc bD) rfl))
  obtain⟨h13,h⟩|⟨h13,h⟩:=aK h
  ·cases h;exact(fF.b h13).ret hZ
  ·exact((fF.b h13).a [.cn [0,1,5] []]).ct hZ cS (iS bD hm1) (ih1 (i1+1) (dn bD) h)
theorem pY{aC:az}{aa:Bytes}{r:Int}(h:lT aC aa=some r):Good prog 30 [bX (aC.map aO.c),aZ aa] (aB r):=by
 refine gd func30 bZ 20 fun hr Z hZ=>?_
 rw[lT]at h;refine(aY.a [.cn [0,1,5] []]).lp hZ (JB hZ (fun h=>?_) (by have:=(gX.sl (hr _ (aE (i:=0) rfl))).1;simpa using this) aC 0 rfl h);cases h;exact aY.ret hZ
def mE(aC:az)(k1:Option Bool):az->Nat->Option Bool
 | [],i1=>(k1)
 |bg::cj,i1=>((pM bg).bind fun ue=>(bif !(ue)then(some false)else((lT aC bg.name).bind fun Oa=>(bif (Oa:Int) != (i1:Int)then(some false)else(mE aC k1 cj (i1+1))))))
def vJ(aC:az):Option Bool:=(mE aC (some (decide ((((aC.map aO.c).length:Int):Int)<=6))) aC 0)
def KI(aC:az)(dL:Int):St:=⟨[(0,bX (aC.map aO.c)),(3,aB dL)],[]⟩
theorem J7(hZ:Z.nt=30){aC:az}{r:Bool}{k1:Option Bool}(eA:k1=some r->Ax Z N f69 (.q bZ (bO r)) [1,1] ⟨[(0,bX (aC.map aO.c))],[]⟩)(hm1:aC.length<=maxLen):∀(rest:az) (i1:Nat),aC.drop i1=rest->mE aC k1 rest i1=some r->Ar Z N f69 (.q bZ (bO r)) [1,0,1,0] (rest.length+1) (KI aC (i1:Int)):=by
 intro rest
 induction rest with
 |nil=>
  intro i1 bD h;rw[mE]at h;refine aT fun N1 cq cS=>?_
  exact((aY.ge aO.c bD).a [.hl 0 [0] []]).ex hZ cq (eA h)
 |cons bg cj ih1=>
  intro i1 bD h;rw[mE]at h;refine aT fun N1 cq cS=>?_
  obtain⟨ue,h34,h⟩:=aG h;have jQ:=(((aY.lt aO.c bD).l (bK aO.c 4 (dc bD) rfl)).g (gU h34))
  obtain⟨h35,h⟩|⟨h35,h⟩:=aK h
  ·obtain rfl:=aM h;exact((jQ.r 10 h35).T 1).ret hZ
  ·obtain⟨Oa,h37,h⟩:=aG h;have jz:=(((((jQ.r 4 h35).l (bK aO.c 4 (dc bD) rfl)).r 3 h35).g (pY h37)).r 3 h35)
   obtain⟨h38,h⟩|⟨h38,h⟩:=aK h
   ·obtain rfl:=aM h;exact(jz.b h38).ret hZ
   ·exact((jz.b h38).a [.cn [0,3] []]).ct hZ cS (iS bD hm1) (ih1 (i1+1) (dn bD) h)
theorem AS{aC:az}{r:Bool}(h:vJ aC=some r):Good prog 69 [bX (aC.map aO.c)] (bO r):=by
 refine gd func69 bZ 30 fun hr Z hZ=>?_
 rw[vJ]at h;refine(aY.a [.cn [0,3] []]).lp hZ (J7 hZ (fun h=>?_) (by have:=(gX.sl (hr _ (aE (i:=0) rfl))).1;simpa using this) aC 0 rfl h);cases h;exact aY.ret hZ
def kq(aC:Bytes)(aa:aP)(k1:Option Bytes):aP->Nat->Option Bytes
 | [],i1=>(k1)
 |bg::cj,i1=>(bif (bg.var:Bytes)==aC then(some bg.value)else(kq aC aa k1 cj (i1+1)))
def mr(aC:Bytes)(aa:aP):Option Bytes:=(kq aC aa (some aC) aa 0)
def JQ(aC:Bytes)(aa:aP)(dL:Int):St:=⟨[(0,aZ aC),(1,bX (aa.map aX.c)),(5,aB dL)],[]⟩
theorem Hj(hZ:Z.nt=25){aC:Bytes}{aa:aP}{r:Bytes}{k1:Option Bytes}(eA:k1=some r->Ax Z N f203 (.q bZ (aZ r)) [1,1] ⟨[(0,aZ aC)],[]⟩)(hm1:aa.length<=maxLen):∀(rest:aP) (i1:Nat),aa.drop i1=rest->kq aC aa k1 rest i1=some r->Ar Z N f203 (.q bZ (aZ r)) [1,0,1,0] (rest.length+1) (JQ aC aa (i1:Int)):=by
 intro rest
 induction rest with
 |nil=>
  intro i1 bD h;rw[kq]at h;refine aT fun N1 cq cS=>?_
  exact((aY.ge aX.c bD).a [.hl 0 [0] []]).ex hZ cq (eA h)
 |cons bg cj ih1=>
  intro i1 bD h;rw[kq]at h;refine aT fun N1 cq cS=>?_
  have fF:=((aY.lt aX.c bD).l (bK aX.c 2 (dc bD) rfl))
  obtain⟨h13,h⟩|⟨h13,h⟩:=aK h
  ·cases h;exact((fF.b h13).l (bK aX.c 2 (dc bD) rfl)).ret hZ
  ·exact((fF.b h13).a [.cn [0,1,5] []]).ct hZ cS (iS bD hm1) (ih1 (i1+1) (dn bD) h)
theorem vl{aC:Bytes}{aa:aP}{r:Bytes}(h:mr aC aa=some r):Good prog 203 [aZ aC,bX (aa.map aX.c)] (aZ r):=by
 refine gd func203 bZ 25 fun hr Z hZ=>?_
 rw[mr]at h;refine(aY.a [.cn [0,1,5] []]).lp hZ (Hj hZ (fun h=>?_) (by have:=(gX.sl (hr _ (aE (i:=1) rfl))).1;simpa using this) aa 0 rfl h);obtain rfl:=aM h;exact aY.ret hZ
def mh(aC:aU)(aa:aP)(y1:Bytes)(y3:Bytes)(k1:aI->Option aU):aI->Nat->aI->Option aU
 | [],i1,dh=>(k1 dh)
 |bg::cj,i1,dh=>((mr bg aa).bind fun IV=>(bif room ((dh.map tx).length+([[aZ IV]]).length) 16 then(mh aC aa y1 y3 k1 cj (i1+1) (dh++([IV])))else none))
def l8(aC:aU)(aa:aP):Option aU:=((mr aC.left aa).bind fun y1=>((mr aC.right aa).bind fun y3=>(mh aC aa y1 y3 (fun(qz:aI)=>(some (⟨aC.kind,(⟨aC.pat.rel,qz⟩:aD),y1,y3⟩:aU))) aC.pat.args 0 ([]:aI))))
def AV(aC:aU)(aa:aP)(y1:Bytes)(y3:Bytes)(W0:List aR)(dL:Int):St:=⟨[(1,bX (aa.map aX.c)),(2,bp 0 0),(4,bp 1 0),(5,bp 2 0),(6,aB dL)],[bu (aU.c aC),bu [aB 0,aZ ([]),D.nil,aZ ([]),aZ ([])],bu [aB aC.kind,aZ aC.pat.rel,b9 3,aZ y1,aZ y3],af 9 1 W0]⟩
def a4J(r:aU):Kd:=.q Qa (bw [aB r.kind,aZ r.pat.rel,cV 9 1 (r.pat.args.map tx),aZ r.left,aZ r.right])
theorem GL(hZ:Z.nt=46){aC:aU}{aa:aP}{y1:Bytes}{y3:Bytes}{r:aU}{k1:aI->Option aU}(eA:∀(qz:aI),k1 qz=some r->Ax Z N f151 (a4J r) [1,1,1] ⟨[(4,bp 0 0),(5,bp 1 0)],[bu [aB 0,aZ ([]),D.nil,aZ ([]),aZ ([])],bu [aB aC.kind,aZ aC.pat.rel,b9 2,aZ y1,aZ y3],af 9 1 (qz.map tx)]⟩)(hm1:aC.pat.args.length<=maxLen):∀(rest:aI) (i1:Nat) (dh:aI),aC.pat.args.drop i1=rest->mh aC aa y1 y3 k1 rest i1 dh=some r->Ar Z N f151 (a4J r) [1,1,0,1,0] (rest.length+1) (AV aC aa y1 y3 (dh.map tx) (i1:Int)):=by
 intro rest
 induction rest with
 |nil=>
  intro i1 dh bD h;rw[mh]at h;refine aT fun N1 cq cS=>?_
  exact((aY.ge tx bD).a [.hl 0 [4,5] [1,2,3]]).ex hZ cq (eA dh h)
 |cons bg cj ih1=>
  intro i1 dh bD h;rw[mh]at h;refine aT fun N1 cq cS=>?_
  obtain⟨IV,h32,h⟩:=aG h;obtain⟨h33,h⟩:=bf h;exact((((((aY.lt tx bD).a [.n 12]).l (bK tx 1 (dc bD) rfl)).g (vl h32)).w (cA h33)).a [.cn [1,2,4,5,6] [0,1,2,5]]).cs hZ cS (AV aC aa y1 y3 ((dh.map tx)++([[aZ IV]])) (IntKind.i64.wrap ((i1:Int)+1))) (by simp only[iS bD hm1,mA]<;>rfl) (ih1 (i1+1) (dh++([IV])) (dn bD) h)
theorem kJ{aC:aU}{aa:aP}{r:aU}(h:l8 aC aa=some r):Good prog 151 [bw (aU.c aC),bX (aa.map aX.c)] (bw [aB r.kind,aZ r.pat.rel,cV 9 1 (r.pat.args.map tx),aZ r.left,aZ r.right]):=by
 refine gd func151 Qa 46 fun hr Z hZ=>?_
 rw[l8]at h;obtain⟨y1,h2,y3,h4,h⟩:=bR h;refine((((aY.a [.n 16]).g (vl h2)).g (vl h4)).a [.pb 2 2 9 1,.cn [1,2,4,5,6] [0,1,2,3]]).lp hZ (GL hZ (fun qz h=>?_) (by have:=(gX.sl (gX.agg (hr _ (aE (i:=0) rfl)) (.sl (aC.pat.args.map tx)) (by simp))).1;simpa using this) aC.pat.args 0 ([]:aI) rfl h);cases h;exact aY.ret hZ
def lN(aC:aU):Option aU:=((l8 aC ([])).bind fun y1=>(some y1))
theorem rY{aC:aU}{r:aU}(h:lN aC=some r):Good prog 100 [bw (aU.c aC)] (bw [aB r.kind,aZ r.pat.rel,cV 9 1 (r.pat.args.map tx),aZ r.left,aZ r.right]):=by
 refine gd func100 Qa 5 fun hr Z hZ=>?_
 rw[lN]at h;obtain⟨y1,h2,h⟩:=aG h;obtain rfl:=aM h;exact((aY.a [.d (bw [aB y1.kind,aZ y1.pat.rel,cV 9 1 (y1.pat.args.map tx),aZ y1.left,aZ y1.right])]).w (show Good prog 151 [bw (aU.c aC),bX ([])] (bw [aB y1.kind,aZ y1.pat.rel,cV 9 1 (y1.pat.args.map tx),aZ y1.left,aZ y1.right])from by first| (simpa only[bI,bA,cF,cD,cI]using kJ h2)|exact kJ h2)).ret hZ
def uS(aC:aI):Option aI:=(bif room (([]:List aR).length+(aC.map tx).length) 16 then(some (([]:aI)++aC))else none)
theorem BM{aC:aI}{r:aI}(h:uS aC=some r):Good prog 149 [bX (aC.map tx)] (cV 9 1 (r.map tx)):=by
 refine gd func149 zH 6 fun hr Z hZ=>?_
 rw[uS]at h;obtain⟨h1,h⟩:=bf h;cases h;exact(((aY.w (cA h1)).w (show(∀r∈(aC.map tx),r.length=1)/\(true=true->D.jq (aC.map tx)=true)from⟨by first|simp| (intro r hr;obtain⟨x,_,rfl⟩:=cJ.1 (cO (fM hr));rfl),by simp[D.jq,D.flat]⟩)).a [.L5 2,.fl true]).rts hZ (cV 9 1 (([]:List aR)++(aC.map tx))) (by first|rfl| (simp only[mA]<;>rfl))
def fP(aC:aD):Option aD:=((uS aC.args).bind fun y1=>(some (⟨aC.rel,y1⟩:aD)))
theorem xB{aC:aD}{r:aD}(h:fP aC=some r):Good prog 122 [bw (aD.c aC)] (bw [aZ r.rel,cV 9 1 (r.args.map tx)]):=by
 refine gd func122 Kq 9 fun hr Z hZ=>?_
 rw[fP]at h;obtain⟨y1,h2,h⟩:=aG h;cases h;exact((aY.a [.n 5]).g (BM h2)).ret hZ
def rQ(aC:aO)(k1:ay->Option aO):ay->Nat->ay->Option aO
 | [],i1,dh=>(k1 dh)
 |bg::cj,i1,dh=>((lN bg).bind fun BQ=>(bif room ((dh.map aU.c).length+([[aB BQ.kind,aZ BQ.pat.rel,bX (BQ.pat.args.map tx),aZ BQ.left,aZ BQ.right]]).length) 80 then(rQ aC k1 cj (i1+1) (dh++([BQ])))else none))
def p8(aC:aO)(eN:ay)(k2:fA->Option aO):fA->Nat->fA->Option aO
 | [],i2,lX=>(k2 lX)
 |jL::tK,i2,lX=>((fP jL.pat).bind fun y92=>(bif room ((lX.map Action.c).length+([[aB jL.kind,aZ y92.rel,bX (y92.args.map tx)]]).length) 48 then(p8 aC eN k2 tK (i2+1) (lX++([(⟨jL.kind,y92⟩:Action)])))else none))
def vU(aC:aO):Option aO:=(rQ aC (fun(eN:ay)=>(p8 aC eN (fun(yG:fA)=>(some (⟨aC.name,aC.prio,eN,yG⟩:aO))) aC.dD 0 ([]:fA))) aC.conds 0 ([]:ay))
def E8(aC:aO)(W0:List aR)(dL:Int):St:=⟨[(1,bp 0 0),(2,bp 1 0),(3,bp 2 0),(4,aB dL)],[bu (aO.c aC),bu [aZ ([]),aB 0,D.nil,D.nil],bu [aZ aC.name,aB aC.prio,b9 3,D.nil],af 71 5 W0]⟩
def Yh(r:aO):Kd:=.q Wa (bw [aZ r.name,aB r.prio,cV 71 5 (r.conds.map aU.c),cV 154 3 (r.dD.map Action.c)])
theorem Lz(hZ:Z.nt=56){aC:aO}{r:aO}{k1:ay->Option aO}(eA:∀(eN:ay),k1 eN=some r->Ax Z N f150 (Yh r) [1,1,1] ⟨[(1,bp 0 0),(2,bp 1 0),(3,bp 2 0)],[bu (aO.c aC),bu [aZ ([]),aB 0,D.nil,D.nil],bu [aZ aC.name,aB aC.prio,b9 3,D.nil],af 71 5 (eN.map aU.c)]⟩)(hm1:aC.conds.length<=maxLen):∀(rest:ay) (i1:Nat) (dh:ay),aC.conds.drop i1=rest->rQ aC k1 rest i1 dh=some r->Ar Z N f150 (Yh r) [1,1,0,1,0] (rest.length+1) (E8 aC (dh.map aU.c) (i1:Int)):=by
 intro rest
 induction rest with
 |nil=>
  intro i1 dh bD h;rw[rQ]at h;refine aT fun N1 cq cS=>?_
  exact((aY.ge aU.c bD).a [.hl 0 [1,2,3] [0,1,2,3]]).ex hZ cq (eA dh h)
 |cons bg cj ih1=>
  intro i1 dh bD h;rw[rQ]at h;refine aT fun N1 cq cS=>?_
  obtain⟨BQ,h46,h⟩:=aG h;obtain⟨h47,h⟩:=bf h;exact((((((aY.lt aU.c bD).a [.n2 [0,1,2,3,4,5,6,7,8,9,10,11] [0,1,2,3,4,5,6,7,8,9,10,11] 8 9 [0,1] [4]]).l (bK aU.c 5 (dc bD) rfl)).g (rY h46)).w (cA h47)).a [.cn [1,2,3,4] [0,1,2,6]]).cs hZ cS (E8 aC ((dh.map aU.c)++([[aB BQ.kind,aZ BQ.pat.rel,bX (BQ.pat.args.map tx),aZ BQ.left,aZ BQ.right]])) (IntKind.i64.wrap ((i1:Int)+1))) (by simp only[iS bD hm1,mA]<;>rfl) (ih1 (i1+1) (dh++([BQ])) (dn bD) h)
def E9(aC:aO)(eN:ay)(W0:List aR)(dL:Int):St:=⟨[(1,bp 0 0),(2,bp 1 0),(3,bp 2 0),(5,aB dL)],[bu (aO.c aC),bu [aZ ([]),aB 0,D.nil,D.nil],bu [aZ aC.name,aB aC.prio,b9 3,b9 4],af 71 5 (eN.map aU.c),af 154 3 W0]⟩
theorem M0(hZ:Z.nt=56){aC:aO}{eN:ay}{r:aO}{k2:fA->Option aO}(zc:∀(yG:fA),k2 yG=some r->Ax Z N f150 (Yh r) [1,1,1,1] ⟨[(2,bp 0 0),(3,bp 1 0)],[bu [aZ ([]),aB 0,D.nil,D.nil],bu [aZ aC.name,aB aC.prio,b9 2,b9 3],af 71 5 (eN.map aU.c),af 154 3 (yG.map Action.c)]⟩)(hm2:aC.dD.length<=maxLen):∀(rest:fA) (i2:Nat) (lX:fA),aC.dD.drop i2=rest->p8 aC eN k2 rest i2 lX=some r->Ar Z N f150 (Yh r) [1,1,1,0,1,0] (rest.length+1) (E9 aC eN (lX.map Action.c) (i2:Int)):=by
 intro rest
 induction rest with
 |nil=>
  intro i2 lX hd2 h;rw[p8]at h;refine aT fun N2 uX qp=>?_
  exact((aY.ge Action.c hd2).a [.hl 0 [2,3] [1,2,3,4]]).ex hZ uX (zc lX h)
 |cons jL tK ih2=>
  intro i2 lX hd2 h;rw[p8]at h;refine aT fun N2 uX qp=>?_
  obtain⟨y92,h93,h⟩:=aG h;obtain⟨h94,h⟩:=bf h;exact(((((((aY.lt Action.c hd2).a [.n2 [0,1,2,3,4,5,6,7,8,9,10,11,12,13,14,15,16,17,18,19] [0,1,2,3,4,5,6,7,8,9,10,11,12,13,14,15,16,17,18,19] 16 17 [0,1] [5]]).l (bK Action.c 3 (dc hd2) rfl)).l (bK Action.c 3 (dc hd2) rfl)).g (xB h93)).w (cA h94)).a [.cn [1,2,3,5] [0,1,2,3,7]]).cs hZ qp (E9 aC eN ((lX.map Action.c)++([[aB jL.kind,aZ y92.rel,bX (y92.args.map tx)]])) (IntKind.i64.wrap ((i2:Int)+1))) (by simp only[iS hd2 hm2,mA]<;>rfl) (ih2 (i2+1) (lX++([(⟨jL.kind,y92⟩:Action)])) (dn hd2) h)
theorem KY{aC:aO}{r:aO}(h:vU aC=some r):Good prog 150 [bw (aO.c aC)] (bw [aZ r.name,aB r.prio,cV 71 5 (r.conds.map aU.c),cV 154 3 (r.dD.map Action.c)]):=by
 refine gd func150 Wa 56 fun hr Z hZ=>?_
 rw[vU]at h;refine(aY.a [.pb 2 2 71 5,.cn [1,2,3,4] [0,1,2,3]]).lp hZ (Lz hZ (fun eN h=>?_) (by have:=(gX.sl (gX.agg (hr _ (aE (i:=0) rfl)) (.sl (aC.conds.map aU.c)) (by simp))).1;simpa using this) aC.conds 0 ([]:ay) rfl h);refine(aY.a [.pb 2 3 154 3,.cn [1,2,3,5] [0,1,2,3,4]]).lp hZ (M0 hZ (fun yG h=>?_) (by have:=(gX.sl (gX.agg (hr _ (aE (i:=0) rfl)) (.sl (aC.dD.map Action.c)) (by simp))).1;simpa using this) aC.dD 0 ([]:fA) rfl h);cases h;exact aY.ret hZ
def oz(aC:az)(k1:az->Option az):az->Nat->az->Option az
 | [],i1,bY=>(k1 bY)
 |bg::cj,i1,bY=>((vU bg).bind fun qA=>(bif room ((bY.map aO.c).length+([[aZ qA.name,aB qA.prio,bX (qA.conds.map aU.c),bX (qA.dD.map Action.c)]]).length) 72 then(oz aC k1 cj (i1+1) (bY++([qA])))else none))
def sO(aC:az):Option az:=(oz aC (fun(cM:az)=>(some cM)) aC 0 ([]:az))
def CF(aC:az)(W0:List aR)(dL:Int):St:=⟨[(0,bX (aC.map aO.c)),(3,b9 0),(4,aB dL)],[af 63 4 W0]⟩
def a4K(r:az):Kd:=.q [[some (63,4)]] (cV 63 4 (r.map aO.c))
theorem JR(hZ:Z.nt=21){aC:az}{r:az}{k1:az->Option az}(eA:∀(cM:az),k1 cM=some r->Ax Z N f89 (a4K r) [1,1,1] ⟨[(3,b9 0)],[af 63 4 (cM.map aO.c)]⟩)(hm1:aC.length<=maxLen):∀(rest:az) (i1:Nat) (bY:az),aC.drop i1=rest->oz aC k1 rest i1 bY=some r->Ar Z N f89 (a4K r) [1,1,0,1,0] (rest.length+1) (CF aC (bY.map aO.c) (i1:Int)):=by
 intro rest
 induction rest with
 |nil=>
  intro i1 bY bD h;rw[oz]at h;refine aT fun N1 cq cS=>?_
  exact((aY.ge aO.c bD).a [.hl 0 [3] [0]]).ex hZ cq (eA bY h)
 |cons bg cj ih1=>
  intro i1 bY bD h;rw[oz]at h;refine aT fun N1 cq cS=>?_
  obtain⟨qA,h28,h⟩:=aG h;obtain⟨h29,h⟩:=bf h;exact(((((aY.lt aO.c bD).l (bK aO.c 4 (dc bD) rfl)).g (KY h28)).w (cA h29)).a [.cn [0,3,4] [4]]).cs hZ cS (CF aC ((bY.map aO.c)++([[aZ qA.name,aB qA.prio,bX (qA.conds.map aU.c),bX (qA.dD.map Action.c)]])) (IntKind.i64.wrap ((i1:Int)+1))) (by simp only[iS bD hm1,mA]<;>rfl) (ih1 (i1+1) (bY++([qA])) (dn bD) h)
theorem AY{aC:az}{r:az}(h:sO aC=some r):Good prog 89 [bX (aC.map aO.c)] (cV 63 4 (r.map aO.c)):=by
 refine gd func89 [[some (63,4)]] 21 fun hr Z hZ=>?_
 rw[sO]at h;refine(aY.a [.cn [0,3,4] [0]]).lp hZ (JR hZ (fun cM h=>?_) (by have:=(gX.sl (hr _ (aE (i:=0) rfl))).1;simpa using this) aC 0 ([]:az) rfl h);obtain rfl:=aM h;exact aY.ret hZ
def pH(aC:aP)(aa:Bytes)(k1:Option aP):aP->Nat->Option aP
 | [],i1=>(k1)
 |bg::cj,i1=>(bif (bg.var:Bytes)==aa then(some aC)else(pH aC aa k1 cj (i1+1)))
def rH(aC:aP)(aa:Bytes):Option aP:=((ij aa).bind fun y1=>(bif !(y1)then(some aC)else(pH aC aa ((kF (IntKind.i64.wrap (((aC.map aX.c).length:Int)+1))).bind fun P0=>(bif decide (([63]:Bytes).length+(P0:Bytes).length<=maxLen)then(bif room ((aC.map aX.c).length+([[aZ aa,aZ (([63])++P0)]]).length) 32 then(some (aC++([(⟨aa,([63])++P0⟩:aX)])))else none)else none)) aC 0)))
def NX(aC:aP)(aa:Bytes)(dL:Int):St:=⟨[(0,b9 0),(1,aZ aa),(5,aB dL)],[af 113 2 (aC.map aX.c)]⟩
theorem MC(hZ:Z.nt=34){aC:aP}{aa:Bytes}{r:aP}{k1:Option aP}(eA:k1=some r->Ax Z N f85 (.q zn (cV 113 2 (r.map aX.c))) [1,1,1] ⟨[(0,b9 0),(1,aZ aa)],[af 113 2 (aC.map aX.c)]⟩)(hm1:aC.length<=maxLen):∀(rest:aP) (i1:Nat),aC.drop i1=rest->pH aC aa k1 rest i1=some r->Ar Z N f85 (.q zn (cV 113 2 (r.map aX.c))) [1,1,0,1,0] (rest.length+1) (NX aC aa (i1:Int)):=by
 intro rest
 induction rest with
 |nil=>
  intro i1 bD h;rw[pH]at h;refine aT fun N1 cq cS=>?_
  exact((aY.ge aX.c bD).a [.hl 0 [0,1] [0]]).ex hZ cq (eA h)
 |cons bg cj ih1=>
  intro i1 bD h;rw[pH]at h;refine aT fun N1 cq cS=>?_
  have lB:=(((aY.lt aX.c bD).i (fG aX.c 2 (dc bD))).o 2 1 .uq (cL aX.c (dc bD)))
  obtain⟨h17,h⟩|⟨h17,h⟩:=aK h
  ·obtain rfl:=aM h;exact(lB.b h17).ret hZ
  ·exact((lB.b h17).a [.cn [0,1,5] [0]]).ct hZ cS (iS bD hm1) (ih1 (i1+1) (dn bD) h)
theorem ur{aC:aP}{aa:Bytes}{r:aP}(h:rH aC aa=some r):Jf prog 85 [b9 0,aZ aa] 113 2 (aC.map aX.c) (r.map aX.c):=by
 refine Jf.of (c:=yq f85) func85 rfl (by decide) (by simp[f85]) (EJ (c:=aX.c) (fun _=>rfl) r) ?_;intro Q6 Z hZ;have hZ:Z.nt=34:=hZ;rw[rH]at h;refine(show AW prog Z (yq f85) (KQ prog Z (fun _ _=>False) ((Kd.q zn (cV 113 2 (r.map aX.c))).qq prog f85) []) _ from ?_);obtain⟨y1,h2,h⟩:=aG h;obtain⟨h3,h⟩|⟨h3,h⟩:=aK h
 ·obtain rfl:=aM h;exact((aY.g (gL h2)).b h3).ret hZ
 ·refine(((aY.g (gL h2)).b h3).a [.cn [0,1,5] [0]]).lp hZ (MC hZ (fun h=>?_) (by simpa using Q6) aC 0 rfl h);obtain⟨P0,h19,h⟩:=aG h;obtain⟨h20,h⟩:=bf h;obtain⟨h21,h⟩:=bf h;cases h;exact(((aY.g (oR h19)).w (bh h20)).w (cA h21)).rts hZ (cV 113 2 ((aC.map aX.c)++([[aZ aa,aZ (([63])++P0)]]))) (by first|rfl| (simp only[mA]<;>rfl))
def jg(aC:aO)(i1:Nat)(bg:aU)(k2:aP->Option aP):aI->Nat->aP->Option aP
 | [],i2,fI=>(k2 fI)
 |jL::tK,i2,fI=>((rH fI jL).bind fun Di=>(jg aC i1 bg k2 tK (i2+1) Di))
def jf(aC:aO)(k1:aP->Option aP):ay->Nat->aP->Option aP
 | [],i1,bn=>(k1 bn)
 |bg::cj,i1,bn=>(bif decide (bg.pat.args.length<=maxLen)then(jg aC i1 bg (fun(tX:aP)=>((rH tX bg.left).bind fun zz=>((rH zz bg.right).bind fun a3i=>(jf aC k1 cj (i1+1) a3i)))) bg.pat.args 0 bn)else none)
def qP(aC:aO):Option aP:=(jf aC (fun(cM:aP)=>(some cM)) aC.conds 0 ([]:aP))
def HZ(aC:aO)(W0:List aR)(dL:Int):St:=⟨[(1,bp 0 0),(3,b9 1),(4,aB dL)],[bu (aO.c aC),af 113 2 W0]⟩
def He(aC:aO)(i1:Nat)(W0:List aR)(dL:Int):St:=⟨[(1,bp 0 0),(3,b9 1),(4,aB (i1:Int)),(5,aB dL)],[bu (aO.c aC),af 113 2 W0]⟩
def R7(r:aP):Kd:=.q zn (cV 113 2 (r.map aX.c))
theorem GK(hZ:Z.nt=55){aC:aO}{i1:Nat}{bg:aU}{r:aP}{k2:aP->Option aP}(zc:∀(tX:aP),k2 tX=some r->Ax Z N f37 (R7 r) [1,1,0,1,0,0,1,0,0,1] ⟨[(1,bp 0 0),(3,b9 1),(4,aB (i1:Int))],[bu (aO.c aC),af 113 2 (tX.map aX.c)]⟩)(hx1:(aC.conds)[i1]?=some bg)(hm2:bg.pat.args.length<=maxLen):∀(rest:aI) (i2:Nat) (fI:aP),bg.pat.args.drop i2=rest->jg aC i1 bg k2 rest i2 fI=some r->Ar Z N f37 (R7 r) [1,1,0,1,0,0,1,0,0,0,1,0] (rest.length+1) (He aC i1 (fI.map aX.c) (i2:Int)):=by
 intro rest
 induction rest with
 |nil=>
  intro i2 fI hd2 h;rw[jg]at h;refine aT fun N2 uX qp=>?_
  exact(((aY.l (bK aU.c 5 hx1 rfl)).ge tx hd2).a [.hl 5 [1,3,4] [0,1]]).ex hZ uX (zc fI h)
 |cons jL tK ih2=>
  intro i2 fI hd2 h;rw[jg]at h;refine aT fun N2 uX qp=>?_
  obtain⟨Di,h207,h⟩:=aG h;exact(((((((aY.l (bK aU.c 5 hx1 rfl)).lt tx hd2).l (bK aU.c 5 hx1 rfl)).l (bK tx 1 (dc hd2) rfl)).w (show(fI.map aX.c).flatten.all D.flat=true from by simpa only[bI,bA,cF]using EJ (c:=aX.c) (fun _=>rfl) fI)).w (show Jf prog 85 [b9 0,aZ jL] 113 2 (fI.map aX.c) (Di.map aX.c)from by simpa only[bI,bA,cF]using ur h207)).a [.ov 1 (Di.map aX.c),.cn [1,3,4,5] [0,2]]).ct hZ qp (iS hd2 hm2) (ih2 (i2+1) Di (dn hd2) h)
theorem GJ(hZ:Z.nt=55){aC:aO}{r:aP}{k1:aP->Option aP}(eA:∀(cM:aP),k1 cM=some r->Ax Z N f37 (R7 r) [1,1,1] ⟨[(3,b9 0)],[af 113 2 (cM.map aX.c)]⟩)(hm1:aC.conds.length<=maxLen):∀(rest:ay) (i1:Nat) (bn:aP),aC.conds.drop i1=rest->jf aC k1 rest i1 bn=some r->Ar Z N f37 (R7 r) [1,1,0,1,0] (rest.length+1) (HZ aC (bn.map aX.c) (i1:Int)):=by
 intro rest
 induction rest with
 |nil=>
  intro i1 bn bD h;rw[jf]at h;refine aT fun N1 cq cS=>?_
  exact((aY.ge aU.c bD).a [.hl 0 [3] [1]]).ex hZ cq (eA bn h)
 |cons bg cj ih1=>
  intro i1 bn bD h;rw[jf]at h;refine aT fun N1 cq cS=>?_
  obtain⟨h212,h⟩:=bf h;refine((aY.lt aU.c bD).a [.cn [1,3,4,5] [0,1]]).lp hZ (GK hZ (fun tX h=>?_) ((drop_cons bD).1) (bh h212) bg.pat.args 0 bn rfl h);obtain⟨zz,h209,a3i,h211,h⟩:=bR h;exact((((((((aY.l (bK aU.c 5 (dc bD) rfl)).w (show(tX.map aX.c).flatten.all D.flat=true from by simpa only[bI,bA,cF]using EJ (c:=aX.c) (fun _=>rfl) tX)).w (show Jf prog 85 [b9 0,aZ bg.left] 113 2 (tX.map aX.c) (zz.map aX.c)from by simpa only[bI,bA,cF]using ur h209)).a [.ov 1 (zz.map aX.c)]).l (bK aU.c 5 (dc bD) rfl)).w (show(zz.map aX.c).flatten.all D.flat=true from by simpa only[bI,bA,cF]using EJ (c:=aX.c) (fun _=>rfl) zz)).w (show Jf prog 85 [b9 0,aZ bg.right] 113 2 (zz.map aX.c) (a3i.map aX.c)from by simpa only[bI,bA,cF]using ur h211)).a [.ov 2 (a3i.map aX.c),.cn [1,3,4] [0,3]]).ct hZ cS (iS bD hm1) (ih1 (i1+1) a3i (dn bD) h)
theorem z6{aC:aO}{r:aP}(h:qP aC=some r):Good prog 37 [bw (aO.c aC)] (cV 113 2 (r.map aX.c)):=by
 refine gd func37 zn 55 fun hr Z hZ=>?_
 rw[qP]at h;refine(aY.a [.cn [1,3,4] [0,1]]).lp hZ (GJ hZ (fun cM h=>?_) (by have:=(gX.sl (gX.agg (hr _ (aE (i:=0) rfl)) (.sl (aC.conds.map aU.c)) (by simp))).1;simpa using this) aC.conds 0 ([]:aP) rfl h);obtain rfl:=aM h;exact aY.ret hZ
def me(aC:aO)(y1:aP)(k1:ay->Option ay):ay->Nat->ay->Option ay
 | [],i1,bn=>(k1 bn)
 |bg::cj,i1,bn=>((l8 bg y1).bind fun Dm=>(bif room ((bn.map aU.c).length+([[aB Dm.kind,aZ Dm.pat.rel,bX (Dm.pat.args.map tx),aZ Dm.left,aZ Dm.right]]).length) 80 then(me aC y1 k1 cj (i1+1) (bn++([Dm])))else none))
def sr(aC:aO):Option ay:=((qP aC).bind fun y1=>(me aC y1 (fun(cM:ay)=>(some cM)) aC.conds 0 ([]:ay)))
def AU(aC:aO)(y1:aP)(W0:List aR)(dL:Int):St:=⟨[(1,bp 0 0),(3,b9 1),(4,b9 2),(5,aB dL)],[bu (aO.c aC),af 71 5 W0,af 113 2 (y1.map aX.c)]⟩
def Od(r:ay):Kd:=.q [[some (71,5)]] (cV 71 5 (r.map aU.c))
theorem GI(hZ:Z.nt=27){aC:aO}{y1:aP}{r:ay}{k1:ay->Option ay}(eA:∀(cM:ay),k1 cM=some r->Ax Z N f90 (Od r) [1,1,1,1] ⟨[(3,b9 0)],[af 71 5 (cM.map aU.c)]⟩)(hm1:aC.conds.length<=maxLen):∀(rest:ay) (i1:Nat) (bn:ay),aC.conds.drop i1=rest->me aC y1 k1 rest i1 bn=some r->Ar Z N f90 (Od r) [1,1,1,0,1,0] (rest.length+1) (AU aC y1 (bn.map aU.c) (i1:Int)):=by
 intro rest
 induction rest with
 |nil=>
  intro i1 bn bD h;rw[me]at h;refine aT fun N1 cq cS=>?_
  exact((aY.ge aU.c bD).a [.hl 0 [3] [1]]).ex hZ cq (eA bn h)
 |cons bg cj ih1=>
  intro i1 bn bD h;rw[me]at h;refine aT fun N1 cq cS=>?_
  obtain⟨Dm,h30,h⟩:=aG h;obtain⟨h31,h⟩:=bf h;exact(((((aY.lt aU.c bD).l (bK aU.c 5 (dc bD) rfl)).g (kJ h30)).w (cA h31)).a [.cn [1,3,4,5] [0,5,2]]).cs hZ cS (AU aC y1 ((bn.map aU.c)++([[aB Dm.kind,aZ Dm.pat.rel,bX (Dm.pat.args.map tx),aZ Dm.left,aZ Dm.right]])) (IntKind.i64.wrap ((i1:Int)+1))) (by simp only[iS bD hm1,mA]<;>rfl) (ih1 (i1+1) (bn++([Dm])) (dn bD) h)
theorem F9{aC:aO}{r:ay}(h:sr aC=some r):Good prog 90 [bw (aO.c aC)] (cV 71 5 (r.map aU.c)):=by
 refine gd func90 [[some (71,5)]] 27 fun hr Z hZ=>?_
 rw[sr]at h;obtain⟨y1,h2,h⟩:=aG h;refine((aY.g (z6 h2)).a [.cn [1,3,4,5] [0,1,2]]).lp hZ (GI hZ (fun cM h=>?_) (by have:=(gX.sl (gX.agg (hr _ (aE (i:=0) rfl)) (.sl (aC.conds.map aU.c)) (by simp))).1;simpa using this) aC.conds 0 ([]:ay) rfl h);obtain rfl:=aM h;exact aY.ret hZ
def lJ(aC:aI)(aa:aI)(k1:Option Bool):aI->Nat->Option Bool
 | [],i1=>(k1)
 |bg::cj,i1=>((fy aa (i1:Int)).bind fun x22=>(bif !((bg:Bytes)==x22)then(some false)else(lJ aC aa k1 cj (i1+1))))
def oo(aC:aI)(aa:aI):Option Bool:=(bif (((aC.map tx).length:Int):Int) != ((aa.map tx).length:Int)then(some false)else(lJ aC aa (some true) aC 0))
def GN(aC:aI)(aa:aI)(dL:Int):St:=⟨[(0,bX (aC.map tx)),(1,bX (aa.map tx)),(5,aB dL)],[]⟩
theorem FB(hZ:Z.nt=26){aC:aI}{aa:aI}{r:Bool}{k1:Option Bool}(eA:k1=some r->Ax Z N f156 (.q bZ (bO r)) [1,1,1] ⟨[],[]⟩)(hm1:aC.length<=maxLen):∀(rest:aI) (i1:Nat),aC.drop i1=rest->lJ aC aa k1 rest i1=some r->Ar Z N f156 (.q bZ (bO r)) [1,1,0,1,0] (rest.length+1) (GN aC aa (i1:Int)):=by
 intro rest
 induction rest with
 |nil=>
  intro i1 bD h;rw[lJ]at h;refine aT fun N1 cq cS=>?_
  exact((aY.ge tx bD).a [.hl 0 [] []]).ex hZ cq (eA h)
 |cons bg cj ih1=>
  intro i1 bD h;rw[lJ]at h;refine aT fun N1 cq cS=>?_
  obtain⟨x22,h23,h⟩:=aG h;have fF:=((((aY.lt tx bD).a [.n 8]).l (bK tx 1 (dc bD) rfl)).l (dW tx 1 h23 rfl))
  obtain⟨h24,h⟩|⟨h24,h⟩:=aK h
  ·obtain rfl:=aM h;exact(fF.b h24).ret hZ
  ·exact((fF.b h24).a [.cn [0,1,5] []]).ct hZ cS (iS bD hm1) (ih1 (i1+1) (dn bD) h)
theorem yS{aC:aI}{aa:aI}{r:Bool}(h:oo aC aa=some r):Good prog 156 [bX (aC.map tx),bX (aa.map tx)] (bO r):=by
 refine gd func156 bZ 26 fun hr Z hZ=>?_
 rw[oo]at h;obtain⟨h1,h⟩|⟨h1,h⟩:=aK h
 ·obtain rfl:=aM h;exact(aY.b h1).ret hZ
 ·refine((aY.b h1).a [.cn [0,1,5] []]).lp hZ (FB hZ (fun h=>?_) (by have:=(gX.sl (hr _ (aE (i:=0) rfl))).1;simpa using this) aC 0 rfl h);obtain rfl:=aM h;exact aY.ret hZ
def ji(aC:aD)(aa:aD):Option Bool:=(bif (aC.rel:Bytes)==aa.rel then((oo aC.args aa.args).bind fun y2=>(some y2))else(some false))
theorem uQ{aC:aD}{aa:aD}{r:Bool}(h:ji aC aa=some r):Good prog 93 [bw (aD.c aC),bw (aD.c aa)] (bO r):=by
 refine gd func93 bZ 17 fun hr Z hZ=>?_
 rw[ji]at h;obtain⟨h1,h⟩|⟨h1,h⟩:=aK h
 ·obtain⟨y2,h3,h⟩:=aG h;obtain rfl:=aM h;exact(((aY.r 5 h1).g (yS h3)).b h1).ret hZ
 ·obtain rfl:=aM h;exact(aY.r 6 h1).ret hZ
def qd(aC:aU)(aa:aU):Option Bool:=(bif (aC.kind:Int)==aa.kind then((ji aC.pat aa.pat).bind fun y2=>(bif y2 then(bif (aC.left:Bytes)==aa.left then(some ((aC.right:Bytes)==aa.right))else(some false))else(some false)))else(some false))
theorem AX{aC:aU}{aa:aU}{r:Bool}(h:qd aC aa=some r):Good prog 94 [bw (aU.c aC),bw (aU.c aa)] (bO r):=by
 refine gd func94 bZ 31 fun hr Z hZ=>?_
 rw[qd]at h;obtain⟨h1,h⟩|⟨h1,h⟩:=aK h
 ·obtain⟨y2,h3,h⟩:=aG h;have lB:=(((aY.r 5 h1).g (uQ h3)).b h1)
  obtain⟨h4,h⟩|⟨h4,h⟩:=aK h
  ·have fF:=(lB.r 6 h4)
   obtain⟨h5,h⟩|⟨h5,h⟩:=aK h
   ·cases h;exact(fF.r 6 h5).ret hZ
   ·obtain rfl:=aM h;exact(fF.r 6 h5).ret hZ
  ·obtain rfl:=aM h;exact((lB.r 6 h4).F 6).ret hZ
 ·obtain rfl:=aM h;exact((aY.r 6 h1).F 12).ret hZ
def nV(aC:aD)(k1:aP->Option aD):aI->Nat->aP->Option aD
 | [],i1,nj=>(k1 nj)
 |bg::cj,i1,nj=>((rH nj bg).bind fun rU=>(nV aC k1 cj (i1+1) rU))
def uR(aC:aD):Option aD:=(nV aC (fun(qz:aP)=>((l8 (⟨0,aC,[],[]⟩:aU) qz).bind fun EY=>(some EY.pat))) aC.args 0 ([]:aP))
def Lo(aC:aD)(W0:List aR)(dL:Int):St:=⟨[(1,bp 0 0),(2,bp 1 0),(3,b9 2),(4,aB dL)],[bu (aD.c aC),bu [aZ ([]),D.nil],af 113 2 W0]⟩
def aAH(r:aD):Kd:=.q Kq (bw [aZ r.rel,cV 9 1 (r.args.map tx)])
theorem KS(hZ:Z.nt=25){aC:aD}{r:aD}{k1:aP->Option aD}(eA:∀(qz:aP),k1 qz=some r->Ax Z N f153 (aAH r) [1,1,1] ⟨[(1,bp 0 0),(2,bp 1 0),(3,b9 2)],[bu (aD.c aC),bu [aZ ([]),D.nil],af 113 2 (qz.map aX.c)]⟩)(hm1:aC.args.length<=maxLen):∀(rest:aI) (i1:Nat) (nj:aP),aC.args.drop i1=rest->nV aC k1 rest i1 nj=some r->Ar Z N f153 (aAH r) [1,1,0,1,0] (rest.length+1) (Lo aC (nj.map aX.c) (i1:Int)):=by
 intro rest
 induction rest with
 |nil=>
  intro i1 nj bD h;rw[nV]at h;refine aT fun N1 cq cS=>?_
  exact((aY.ge tx bD).a [.hl 0 [1,2,3] [0,1,2]]).ex hZ cq (eA nj h)
 |cons bg cj ih1=>
  intro i1 nj bD h;rw[nV]at h;refine aT fun N1 cq cS=>?_
  obtain⟨rU,h23,h⟩:=aG h;exact(((((aY.lt tx bD).l (bK tx 1 (dc bD) rfl)).w (show(nj.map aX.c).flatten.all D.flat=true from by simpa only[bI,bA,cF]using EJ (c:=aX.c) (fun _=>rfl) nj)).w (show Jf prog 85 [b9 0,aZ bg] 113 2 (nj.map aX.c) (rU.map aX.c)from by simpa only[bI,bA,cF]using ur h23)).a [.ov 2 (rU.map aX.c),.cn [1,2,3,4] [0,1,3]]).ct hZ cS (iS bD hm1) (ih1 (i1+1) rU (dn bD) h)
theorem BL{aC:aD}{r:aD}(h:uR aC=some r):Good prog 153 [bw (aD.c aC)] (bw [aZ r.rel,cV 9 1 (r.args.map tx)]):=by
 refine gd func153 Kq 25 fun hr Z hZ=>?_
 rw[uR]at h;refine(aY.a [.cn [1,2,3,4] [0,1,2]]).lp hZ (KS hZ (fun qz h=>?_) (by have:=(gX.sl (gX.agg (hr _ (aE (i:=0) rfl)) (.sl (aC.args.map tx)) (by simp))).1;simpa using this) aC.args 0 ([]:aP) rfl h);obtain⟨EY,h25,h⟩:=aG h;cases h;exact((aY.a [.d (bw [aB EY.kind,aZ EY.pat.rel,cV 9 1 (EY.pat.args.map tx),aZ EY.left,aZ EY.right])]).w (show Good prog 151 [bw [aB 0,aZ aC.rel,bX (aC.args.map tx),aZ ([]),aZ ([])],bX (qz.map aX.c)] (bw [aB EY.kind,aZ EY.pat.rel,cV 9 1 (EY.pat.args.map tx),aZ EY.left,aZ EY.right])from by first| (simpa only[bI,bA,cF,cD,cI]using kJ h25)|exact kJ h25| (have t:=kJ h25;simp only[bI,cD,cI,aU.c]at t;exact t))).ret hZ
def cN(x:aH):aR:=[cV 63 4 (x.rules.map aO.c),cV 3 1 (x.ends.map jM),cV 83 3 (x.bG.map ai.c),cV 74 8 (x.nodes.map Node.c),cV 43 2 (x.facts.map aD.c),aB x.cP]
def nc(aC:aH)(aa:aD)(k1:Option (aH×Int)):bQ->Nat->Option (aH×Int)
 | [],i1=>(k1)
 |bg::cj,i1=>((ji bg.shape aa).bind fun rU=>(bif rU then(some (aC,(i1:Int)))else(nc aC aa k1 cj (i1+1))))
def uT(aC:aH)(aa:aD):Option (aH×Int):=(bif decide (aC.bG.length<=maxLen)then(nc aC aa (bif room ((aC.bG.map ai.c).length+([[aZ aa.rel,bX (aa.args.map tx),bX ([])]]).length) 64 then(some ((⟨aC.rules,aC.ends,aC.bG++([(⟨aa,[]⟩:ai)]),aC.nodes,aC.facts,aC.cP⟩:aH),IntKind.i64.wrap ((((aC.bG.map ai.c)++([[aZ aa.rel,bX (aa.args.map tx),bX ([])]])).length:Int)-1)))else none) aC.bG 0)else none)
def M4(jB:Value)(aC:aH)(aa:aD)(dL:Int):St:=⟨[(0,bp 0 0),(3,bp 1 0),(5,aB dL)],[Ob.CW [b9 2,b9 3,b9 4,b9 5,b9 6,aB aC.cP] jB,bu [aZ aa.rel,b9 7],af 63 4 (aC.rules.map aO.c),af 3 1 (aC.ends.map jM),af 83 3 (aC.bG.map ai.c),af 74 8 (aC.nodes.map Node.c),af 43 2 (aC.facts.map aD.c),af 9 1 (aa.args.map tx)]⟩
theorem Kb(hZ:Z.nt=43){jB:Value}{aC:aH}{aa:aD}{r:aH×Int}{k1:Option (aH×Int)}(eA:k1=some r->Ax Z N f152 (.p sI jB (cN r.1) (aB r.2)) [1,1] ⟨[(0,bp 0 0),(3,bp 1 0)],[Ob.CW [b9 2,b9 3,b9 4,b9 5,b9 6,aB aC.cP] jB,bu [aZ aa.rel,b9 7],af 63 4 (aC.rules.map aO.c),af 3 1 (aC.ends.map jM),af 83 3 (aC.bG.map ai.c),af 74 8 (aC.nodes.map Node.c),af 43 2 (aC.facts.map aD.c),af 9 1 (aa.args.map tx)]⟩)(hm1:aC.bG.length<=maxLen):∀(rest:bQ) (i1:Nat),aC.bG.drop i1=rest->nc aC aa k1 rest i1=some r->Ar Z N f152 (.p sI jB (cN r.1) (aB r.2)) [1,0,1,0] (rest.length+1) (M4 jB aC aa (i1:Int)):=by
 intro rest
 induction rest with
 |nil=>
  intro i1 bD h;rw[nc]at h;refine aT fun N1 cq cS=>?_
  exact((aY.ge ai.c bD).a [.hl 0 [0,3] [0,1,2,3,4,5,6,7]]).ex hZ cq (eA h)
 |cons bg cj ih1=>
  intro i1 bD h;rw[nc]at h;refine aT fun N1 cq cS=>?_
  obtain⟨rU,h23,h⟩:=aG h;have fF:=(((((aY.lt ai.c bD).a [.n 9]).i (fG ai.c 3 (dc bD))).o 3 2 .uq (cL ai.c (dc bD))).g (uQ h23))
  obtain⟨h24,h⟩|⟨h24,h⟩:=aK h
  ·cases h;exact(fF.b h24).ret hZ
  ·exact((fF.b h24).a [.cn [0,3,5] [0,1,2,3,4,5,6,7]]).ct hZ cS (iS bD hm1) (ih1 (i1+1) (dn bD) h)
theorem BP{aC:aH}{aa:aD}{r:aH×Int}(h:uT aC aa=some r):iz prog 152 (cN aC) (cN r.1) [bw [aZ aa.rel,cV 9 1 (aa.args.map tx)]] (aB r.2):=by
 refine L4 func152 sI 43 [b9 1,b9 2,b9 3,b9 4,b9 5,aB aC.cP] [bw [aZ aa.rel,b9 6]] [af 63 4 (aC.rules.map aO.c),af 3 1 (aC.ends.map jM),af 83 3 (aC.bG.map ai.c),af 74 8 (aC.nodes.map Node.c),af 43 2 (aC.facts.map aD.c),af 9 1 (aa.args.map tx)] fun hr jB Z hZ=>?_
 rw[uT]at h;obtain⟨h27,h⟩:=bf h;refine(aY.a [.cn [0,3,5] [0,7,1,2,3,4,5,6]]).lp hZ (Kb hZ (fun h=>?_) (bh h27) aC.bG 0 rfl h);obtain⟨h26,h⟩:=bf h;cases h;exact((aY.w (cA h26)).a [.n2 [0,1,2,3,4,5,6,7,8,9,10,11] [0,1,2,3,4,5,6,7,8,9,10,11] 7 9 [0,1,2,3,4] [4,7,8]]).rts hZ (D.iw [aB (IntKind.i64.wrap ((((aC.bG.map ai.c)++([[aZ aa.rel,bX (aa.args.map tx),bX ([])]])).length:Int)-1)),bw [cV 63 4 (aC.rules.map aO.c),cV 3 1 (aC.ends.map jM),cV 83 3 ((aC.bG.map ai.c)++([[aZ aa.rel,bX (aa.args.map tx),bX ([])]])),cV 74 8 (aC.nodes.map Node.c),cV 43 2 (aC.facts.map aD.c),aB aC.cP],D.val jB]) (by first|rfl| (simp only[mA]<;>rfl)| (simp only[cN,mA]<;>rfl))
def iM(aC:aH)(aa:Int)(cv:aU)(k1:Option (aH×Int)):Nat->Int->Option (aH×Int)
 |0,_=>none
 |n1+1,wv=>(bif decide ((wv:Int)<((aC.nodes.map Node.c).length:Int))then((fy aC.nodes wv).bind fun x16=>(bif (x16.parent:Int)==aa then((qd x16.cond cv).bind fun AE=>(bif AE then(some (aC,wv))else(iM aC aa cv k1 n1 (IntKind.i64.wrap (wv+1)))))else(iM aC aa cv k1 n1 (IntKind.i64.wrap (wv+1)))))else(k1))
def wL(aC:aH)(aa:Int)(cv:aU):Option (aH×Int):=(iM aC aa cv ((lN cv).bind fun rU=>(bif (cv.kind:Int)==1 then((uR cv.pat).bind fun xm=>((uT aC xm).bind fun qA=>(bif room ((qA.1.nodes.map Node.c).length+([[aB aa,aB rU.kind,aZ rU.pat.rel,bX (rU.pat.args.map tx),aZ rU.left,aZ rU.right,aB qA.2,bX ([])]]).length) 120 then(some ((⟨qA.1.rules,qA.1.ends,qA.1.bG,qA.1.nodes++([(⟨aa,rU,qA.2,[]⟩:Node)]),qA.1.facts,qA.1.cP⟩:aH),IntKind.i64.wrap ((((qA.1.nodes.map Node.c)++([[aB aa,aB rU.kind,aZ rU.pat.rel,bX (rU.pat.args.map tx),aZ rU.left,aZ rU.right,aB qA.2,bX ([])]])).length:Int)-1)))else none)))else(bif (cv.kind:Int)==2 then((uR cv.pat).bind fun Js=>((uT aC Js).bind fun Ge=>(bif room ((Ge.1.nodes.map Node.c).length+([[aB aa,aB rU.kind,aZ rU.pat.rel,bX (rU.pat.args.map tx),aZ rU.left,aZ rU.right,aB Ge.2,bX ([])]]).length) 120 then(some ((⟨Ge.1.rules,Ge.1.ends,Ge.1.bG,Ge.1.nodes++([(⟨aa,rU,Ge.2,[]⟩:Node)]),Ge.1.facts,Ge.1.cP⟩:aH),IntKind.i64.wrap ((((Ge.1.nodes.map Node.c)++([[aB aa,aB rU.kind,aZ rU.pat.rel,bX (rU.pat.args.map tx),aZ rU.left,aZ rU.right,aB Ge.2,bX ([])]])).length:Int)-1)))else none)))else(bif room ((aC.nodes.map Node.c).length+([[aB aa,aB rU.kind,aZ rU.pat.rel,bX (rU.pat.args.map tx),aZ rU.left,aZ rU.right,aB (-1),bX ([])]]).length) 120 then(some ((⟨aC.rules,aC.ends,aC.bG,aC.nodes++([(⟨aa,rU, -1,[]⟩:Node)]),aC.facts,aC.cP⟩:aH),IntKind.i64.wrap ((((aC.nodes.map Node.c)++([[aB aa,aB rU.kind,aZ rU.pat.rel,bX (rU.pat.args.map tx),aZ rU.left,aZ rU.right,aB (-1),bX ([])]])).length:Int)-1)))else none)))) fuel 1)
def M7(jB:Value)(aC:aH)(aa:Int)(cv:aU)(wv:Int):St:=⟨[(0,bp 0 0),(1,aB aa),(5,bp 1 0),(7,aB wv)],[Ob.CW [b9 2,b9 3,b9 4,b9 5,b9 6,aB aC.cP] jB,bu (aU.c cv),af 63 4 (aC.rules.map aO.c),af 3 1 (aC.ends.map jM),af 83 3 (aC.bG.map ai.c),af 74 8 (aC.nodes.map Node.c),af 43 2 (aC.facts.map aD.c)]⟩
theorem Ke(hZ:Z.nt=75){jB:Value}{aC:aH}{aa:Int}{cv:aU}{r:aH×Int}{k1:Option (aH×Int)}(eA:k1=some r->Ax Z N f91 (.p sI jB (cN r.1) (aB r.2)) [1,1] ⟨[(0,bp 0 0),(1,aB aa),(5,bp 1 0)],[Ob.CW [b9 2,b9 3,b9 4,b9 5,b9 6,aB aC.cP] jB,bu (aU.c cv),af 63 4 (aC.rules.map aO.c),af 3 1 (aC.ends.map jM),af 83 3 (aC.bG.map ai.c),af 74 8 (aC.nodes.map Node.c),af 43 2 (aC.facts.map aD.c)]⟩):∀(n1:Nat) (wv:Int),iM aC aa cv k1 n1 wv=some r->Ar Z N f91 (.p sI jB (cN r.1) (aB r.2)) [1,0,1,0] n1 (M7 jB aC aa cv wv):=by
 intro n
 induction n with
 |zero=>intro wv h;simp[iM]at h
 |succ n1 ih1=>
  intro wv h;rw[iM]at h;refine aT fun N1 cq cS=>?_
  obtain⟨h15,h⟩|⟨h15,h⟩:=aK h
  ·obtain⟨x16,h17,h⟩:=aG h;have jQ:=((((aY.b h15).a [.n 20]).i (fH Node.c 8 h17)).o 8 1 .uq (cL Node.c (dl h17)))
   obtain⟨h18,h⟩|⟨h18,h⟩:=aK h
   ·obtain⟨AE,h20,h⟩:=aG h;have jz:=(((((((jQ.r 6 h18).i (fH Node.c 8 h17)).r 2 h18).o 8 6 .uq (cL Node.c (dl h17))).r 2 h18).g (AX h20)).b h18)
    obtain⟨h21,h⟩|⟨h21,h⟩:=aK h
    ·cases h;exact(jz.b h21).ret hZ
    ·exact((jz.b h21).a [.cn [0,1,5,7] [0,1,2,3,4,5,6]]).cf hZ cS (ih1 (IntKind.i64.wrap (wv+1)) h)
   ·exact(((jQ.r 11 h18).F 1).a [.cn [0,1,5,7] [0,1,2,3,4,5,6]]).cf hZ cS (ih1 (IntKind.i64.wrap (wv+1)) h)
  ·exact((aY.b h15).a [.hl 0 [0,1,5] [0,1,2,3,4,5,6]]).ex hZ cq (eA h)
theorem JV{aC:aH}{aa:Int}{cv:aU}{r:aH×Int}(h:wL aC aa cv=some r):iz prog 91 (cN aC) (cN r.1) [aB aa,bw (aU.c cv)] (aB r.2):=by
 refine L4 func91 sI 75 [b9 1,b9 2,b9 3,b9 4,b9 5,aB aC.cP] [aB aa,bw [aB cv.kind,aZ cv.pat.rel,bX (cv.pat.args.map tx),aZ cv.left,aZ cv.right]] [af 63 4 (aC.rules.map aO.c),af 3 1 (aC.ends.map jM),af 83 3 (aC.bG.map ai.c),af 74 8 (aC.nodes.map Node.c),af 43 2 (aC.facts.map aD.c)] fun hr jB Z hZ=>?_
 rw[wL]at h;refine(aY.a [.cn [0,1,5,7] [0,6,1,2,3,4,5]]).lp hZ (Ke hZ (fun h=>?_) fuel 1 h);obtain⟨rU,h23,h⟩:=aG h;obtain⟨h24,h⟩|⟨h24,h⟩:=aK h
 ·obtain⟨xm,h26,qA,h28,h⟩:=bR h;obtain⟨h30,h⟩:=bf h;cases h;exact(((((((aY.g (rY h23)).r 4 h24).T 1).g (BL h26)).hp TN (BP h28)).w (cA h30)).a [.n2 [0,1,2,3,4,5,6,7,8,9,10] [0,1,2,3,4,5,6,7,8,9,10] 6 8 [0,1,2,3,4] [7,13,15]]).rts hZ (D.iw [aB (IntKind.i64.wrap ((((qA.1.nodes.map Node.c)++([[aB aa,aB rU.kind,aZ rU.pat.rel,bX (rU.pat.args.map tx),aZ rU.left,aZ rU.right,aB qA.2,bX ([])]])).length:Int)-1)),bw [cV 63 4 (qA.1.rules.map aO.c),cV 3 1 (qA.1.ends.map jM),cV 83 3 (qA.1.bG.map ai.c),cV 74 8 ((qA.1.nodes.map Node.c)++([[aB aa,aB rU.kind,aZ rU.pat.rel,bX (rU.pat.args.map tx),aZ rU.left,aZ rU.right,aB qA.2,bX ([])]])),cV 43 2 (qA.1.facts.map aD.c),aB qA.1.cP],D.val jB]) (by first|rfl| (simp only[mA]<;>rfl)| (simp only[cN,mA]<;>rfl))
 ·have uc:=((aY.g (rY h23)).r 4 h24)
  obtain⟨h31,h⟩|⟨h31,h⟩:=aK h
  ·obtain⟨Js,h33,Ge,h35,h⟩:=bR h;obtain⟨h37,h⟩:=bf h;cases h;exact(((((uc.b h31).g (BL h33)).hp TN (BP h35)).w (cA h37)).a [.n2 [0,1,2,3,4,5,6,7,8,9,10] [0,1,2,3,4,5,6,7,8,9,10] 6 8 [0,1,2,3,4] [7,13,15]]).rts hZ (D.iw [aB (IntKind.i64.wrap ((((Ge.1.nodes.map Node.c)++([[aB aa,aB rU.kind,aZ rU.pat.rel,bX (rU.pat.args.map tx),aZ rU.left,aZ rU.right,aB Ge.2,bX ([])]])).length:Int)-1)),bw [cV 63 4 (Ge.1.rules.map aO.c),cV 3 1 (Ge.1.ends.map jM),cV 83 3 (Ge.1.bG.map ai.c),cV 74 8 ((Ge.1.nodes.map Node.c)++([[aB aa,aB rU.kind,aZ rU.pat.rel,bX (rU.pat.args.map tx),aZ rU.left,aZ rU.right,aB Ge.2,bX ([])]])),cV 43 2 (Ge.1.facts.map aD.c),aB Ge.1.cP],D.val jB]) (by first|rfl| (simp only[mA]<;>rfl)| (simp only[cN,mA]<;>rfl))
  ·obtain⟨h39,h⟩:=bf h;cases h;exact(((uc.b h31).w (cA h39)).a [.n2 [0,1,2,3,4,5,6,7,8,9,10] [0,1,2,3,4,5,6,7,8,9,10] 6 8 [0,1,2,3,4] [5,7,9]]).rts hZ (D.iw [aB (IntKind.i64.wrap ((((aC.nodes.map Node.c)++([[aB aa,aB rU.kind,aZ rU.pat.rel,bX (rU.pat.args.map tx),aZ rU.left,aZ rU.right,aB (-1),bX ([])]])).length:Int)-1)),bw [cV 63 4 (aC.rules.map aO.c),cV 3 1 (aC.ends.map jM),cV 83 3 (aC.bG.map ai.c),cV 74 8 ((aC.nodes.map Node.c)++([[aB aa,aB rU.kind,aZ rU.pat.rel,bX (rU.pat.args.map tx),aZ rU.left,aZ rU.right,aB (-1),bX ([])]])),cV 43 2 (aC.facts.map aD.c),aB aC.cP],D.val jB]) (by first|rfl| (simp only[mA]<;>rfl)| (simp only[cN,mA]<;>rfl))
def ic(aC:az)(i1:Nat)(Mp:ay)(k2:Int->Int->az->bM->bQ->bN->aJ->Option (aH×Bool)):ay->Nat->Int->Int->az->bM->bQ->bN->aJ->Option (aH×Bool)
 | [],i2,nh,qj,Df,lX,wz,kQ,tY=>(k2 nh qj Df lX wz kQ tY)
 |jL::tK,i2,nh,qj,Df,lX,wz,kQ,tY=>((wL (⟨Df,lX,wz,kQ,tY,qj⟩:aH) nh jL).bind fun FO=>(ic aC i1 Mp k2 tK (i2+1) FO.2 FO.1.cP FO.1.rules FO.1.ends FO.1.bG FO.1.nodes FO.1.facts))
def ia(aC:az)(k1:Int->az->bM->bQ->bN->aJ->Option (aH×Bool)):az->Nat->Int->az->bM->bQ->bN->aJ->Option (aH×Bool)
 | [],i1,qi,nj,dh,xM,nF,De=>(k1 qi nj dh xM nF De)
 |bg::cj,i1,qi,nj,dh,xM,nF,De=>((sr bg).bind fun Mp=>(bif decide (Mp.length<=maxLen)then(ic aC i1 Mp (fun(Be:Int) (qg:Int) (Ks:az) (yG:bM) (Kt:bQ) (nA:bN) (Ku:aJ)=>(bif room ((yG.map jM).length+([[aB Be]]).length) 8 then(ia aC k1 cj (i1+1) qg Ks (yG++([Be])) Kt nA Ku)else none)) Mp 0 0 qi nj dh xM nF De)else none))
def kZ(aC:az):Option (aH×Bool):=((vJ aC).bind fun y1=>(bif !(y1)then(some ((⟨[],[],[],[],[],0⟩:aH),false))else((sO aC).bind fun y4=>(ia aC (fun(wS:Int) (qz:az) (eN:bM) (Qf:bQ) (lW:bN) (wR:aJ)=>(some ((⟨qz,eN,Qf,lW,wR,wS⟩:aH),true))) aC 0 0 y4 ([]:bM) ([]:bQ) ([(⟨-1,(⟨0,(⟨[],[]⟩:aD),[],[]⟩:aU), -1,[(⟨[],[]⟩:aV)]⟩:Node)]) ([]:aJ)))))
def uh(aC:az)(qi:Int)(W1:List aR)(W2:List aR)(W3:List aR)(W4:List aR)(W5:List aR)(dL:Int):St:=⟨[(0,bX (aC.map aO.c)),(2,bp 0 0),(4,bp 1 0),(5,aB dL)],[bu [D.nil,D.nil,D.nil,D.nil,D.nil,aB 0],bu [b9 2,b9 3,b9 4,b9 5,b9 6,aB qi],af 63 4 W1,af 3 1 W2,af 83 3 W3,af 74 8 W4,af 43 2 W5]⟩
def F7(aC:az)(i1:Nat)(Mp:ay)(nh:Int)(qj:Int)(W2:List aR)(W3:List aR)(W4:List aR)(W5:List aR)(W6:List aR)(dL:Int):St:=⟨[(0,bX (aC.map aO.c)),(2,bp 0 0),(4,bp 1 0),(5,aB (i1:Int)),(6,aB nh),(7,b9 2),(8,aB dL)],[bu [D.nil,D.nil,D.nil,D.nil,D.nil,aB 0],bu [b9 3,b9 4,b9 5,b9 6,b9 7,aB qj],af 71 5 (Mp.map aU.c),af 63 4 W2,af 3 1 W3,af 83 3 W4,af 74 8 W5,af 43 2 W6]⟩
def XE(r:aH×Bool):Kd:=.q sI (D.iw [bw [cV 63 4 (r.1.rules.map aO.c),cV 3 1 (r.1.ends.map jM),cV 83 3 (r.1.bG.map ai.c),cV 74 8 (r.1.nodes.map Node.c),cV 43 2 (r.1.facts.map aD.c),aB r.1.cP],bO r.2])
theorem E3(hZ:Z.nt=50){aC:az}{i1:Nat}{Mp:ay}{r:aH×Bool}{k2:Int->Int->az->bM->bQ->bN->aJ->Option (aH×Bool)}(zc:∀(Be:Int) (qg:Int) (Ks:az) (yG:bM) (Kt:bQ) (nA:bN) (Ku:aJ),k2 Be qg Ks yG Kt nA Ku=some r->Ax Z N f40 (XE r) [1,1,1,0,1,0,0,1,0,0,1,1,1] ⟨[(0,bX (aC.map aO.c)),(2,bp 0 0),(4,bp 1 0),(5,aB (i1:Int)),(6,aB Be)],[bu [D.nil,D.nil,D.nil,D.nil,D.nil,aB 0],bu [b9 2,b9 3,b9 4,b9 5,b9 6,aB qg],af 63 4 (Ks.map aO.c),af 3 1 (yG.map jM),af 83 3 (Kt.map ai.c),af 74 8 (nA.map Node.c),af 43 2 (Ku.map aD.c)]⟩)(hm2:Mp.length<=maxLen):∀(rest:ay) (i2:Nat) (nh:Int) (qj:Int) (Df:az) (lX:bM) (wz:bQ) (kQ:bN) (tY:aJ),Mp.drop i2=rest->ic aC i1 Mp k2 rest i2 nh qj Df lX wz kQ tY=some r->Ar Z N f40 (XE r) [1,1,1,0,1,0,0,1,0,0,1,1,0,1,0] (rest.length+1) (F7 aC i1 Mp nh qj (Df.map aO.c) (lX.map jM) (wz.map ai.c) (kQ.map Node.c) (tY.map aD.c) (i2:Int)):=by
 intro rest
 induction rest with
 |nil=>
  intro i2 nh qj Df lX wz kQ tY hd2 h;rw[ic]at h;refine aT fun N2 uX qp=>?_
  exact((aY.ge aU.c hd2).a [.hl 5 [0,2,4,5,6] [0,1,3,4,5,6,7]]).ex hZ uX (zc nh qj Df lX wz kQ tY h)
 |cons jL tK ih2=>
  intro i2 nh qj Df lX wz kQ tY hd2 h;rw[ic]at h;refine aT fun N2 uX qp=>?_
  obtain⟨FO,h212,h⟩:=aG h;exact((((((aY.lt aU.c hd2).i (fG aU.c 5 (dc hd2))).o 5 5 .uq (cL aU.c (dc hd2))).a [.gp a2I (cN FO.1) (aB FO.2)]).w (show iz prog 91 (cN (⟨Df,lX,wz,kQ,tY,qj⟩:aH)) (cN FO.1) [aB nh,bw (aU.c jL)] (aB FO.2)from by simpa only[bI,bA,cF,cD,cI]using JV h212)).a [.cn [0,2,4,5,6,7,8] [0,1,2,8,9,10,11,12]]).ct hZ qp (iS hd2 hm2) (ih2 (i2+1) FO.2 FO.1.cP FO.1.rules FO.1.ends FO.1.bG FO.1.nodes FO.1.facts (dn hd2) h)
theorem E2(hZ:Z.nt=50){aC:az}{r:aH×Bool}{k1:Int->az->bM->bQ->bN->aJ->Option (aH×Bool)}(eA:∀(wS:Int) (qz:az) (eN:bM) (Qf:bQ) (lW:bN) (wR:aJ),k1 wS qz eN Qf lW wR=some r->Ax Z N f40 (XE r) [1,1,1,1] ⟨[(2,bp 0 0),(4,bp 1 0)],[bu [D.nil,D.nil,D.nil,D.nil,D.nil,aB 0],bu [b9 2,b9 3,b9 4,b9 5,b9 6,aB wS],af 63 4 (qz.map aO.c),af 3 1 (eN.map jM),af 83 3 (Qf.map ai.c),af 74 8 (lW.map Node.c),af 43 2 (wR.map aD.c)]⟩)(hm1:aC.length<=maxLen):∀(rest:az) (i1:Nat) (qi:Int) (nj:az) (dh:bM) (xM:bQ) (nF:bN) (De:aJ),aC.drop i1=rest->ia aC k1 rest i1 qi nj dh xM nF De=some r->Ar Z N f40 (XE r) [1,1,1,0,1,0] (rest.length+1) (uh aC qi (nj.map aO.c) (dh.map jM) (xM.map ai.c) (nF.map Node.c) (De.map aD.c) (i1:Int)):=by
 intro rest
 induction rest with
 |nil=>
  intro i1 qi nj dh xM nF De bD h;rw[ia]at h;refine aT fun N1 cq cS=>?_
  exact((aY.ge aO.c bD).a [.hl 0 [2,4] [0,1,2,3,4,5,6]]).ex hZ cq (eA qi nj dh xM nF De h)
 |cons bg cj ih1=>
  intro i1 qi nj dh xM nF De bD h;rw[ia]at h;refine aT fun N1 cq cS=>?_
  obtain⟨Mp,h183,h⟩:=aG h;obtain⟨h214,h⟩:=bf h;refine((((aY.lt aO.c bD).l (bK aO.c 4 (dc bD) rfl)).g (F9 h183)).a [.cn [0,2,4,5,6,7,8] [0,1,7,2,3,4,5,6]]).lp hZ (E3 hZ (fun Be qg Ks yG Kt nA Ku h=>?_) (bh h214) Mp 0 0 qi nj dh xM nF De rfl h);obtain⟨h213,h⟩:=bf h;exact((aY.w (cA h213)).a [.cn [0,2,4,5] [0,1,2,8,4,5,6]]).cs hZ cS (uh aC qg (Ks.map aO.c) ((yG.map jM)++([[aB Be]])) (Kt.map ai.c) (nA.map Node.c) (Ku.map aD.c) (IntKind.i64.wrap ((i1:Int)+1))) (by simp only[iS bD hm1,mA]<;>rfl) (ih1 (i1+1) qg Ks (yG++([Be])) Kt nA Ku (dn bD) h)
theorem tQ{aC:az}{r:aH×Bool}(h:kZ aC=some r):Good prog 40 [bX (aC.map aO.c)] (D.iw [bw [cV 63 4 (r.1.rules.map aO.c),cV 3 1 (r.1.ends.map jM),cV 83 3 (r.1.bG.map ai.c),cV 74 8 (r.1.nodes.map Node.c),cV 43 2 (r.1.facts.map aD.c),aB r.1.cP],bO r.2]):=by
 refine gd func40 sI 50 fun hr Z hZ=>?_
 rw[kZ]at h;obtain⟨y1,h2,h⟩:=aG h;obtain⟨h3,h⟩|⟨h3,h⟩:=aK h
 ·cases h;exact((aY.g (AS h2)).b h3).ret hZ
 ·obtain⟨y4,h5,h⟩:=aG h;refine((((aY.g (AS h2)).b h3).g (AY h5)).a [.pb 4 1 3 1,.pb 4 2 83 3,.pb 4 4 43 2,.cn [0,2,4,5] [0,4,1,5,6,3,7]]).lps hZ (uh aC 0 (y4.map aO.c) ([]:List aR) ([]:List aR) ([[aB (-1),aB 0,aZ ([]),bX ([]),aZ ([]),aZ ([]),aB (-1),bX ([[bX ([]),bX ([])]])]]) ([]:List aR) 0) (by simp only[mA]<;>rfl) (E2 hZ (fun wS qz eN Qf lW wR h=>?_) (by have:=(gX.sl (hr _ (aE (i:=0) rfl))).1;simpa using this) aC 0 0 y4 ([]:bM) ([]:bQ) ([(⟨-1,(⟨0,(⟨[],[]⟩:aD),[],[]⟩:aU), -1,[(⟨[],[]⟩:aV)]⟩:Node)]) ([]:aJ) rfl h);cases h;exact aY.ret hZ
end Go.Cx

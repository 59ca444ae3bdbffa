/- Closed slices: what is handed over new may be kept closed (no one reads below it), so that a slice in its rows can be taken out, added to and put back. No condition; plain lemmas. -/
import Derived.Test.YtfankinmlfnncaaGreatDoorPFnChangesG2
import Derived.Test.YtfankinmlfnncaaGreatDoorProg
import Derived.KernelRfl
import Derived.Shelf.Strings.OnBuilder
import Derived.Shelf.Sort.Plain
import Derived.Shelf.Slices.In.SortNone2
import Derived.Shelf.Strconv.Itoa3
import Derived.WalkSmall
import Derived.Shelf.Strconv.Atoi
import Derived.Shelf.Strconv.ErrVar
import Derived.Shelf.Small.Strs
import Derived.Lib.AtoiBound
set_option linter.unusedVariables false
set_option linter.unusedSimpArgs false
namespace Go.Cx
open Go.RowKit
section
variable{P:Program}{Z:wW}{Q:Exit->St->Prop}{st:St}{κ κ':Nat->Option Value}{Θ Θ':Nat->Nat}{a:Act}{w w':World}{all:Array Oper}{rest:List Oper}
theorem ym.aBd{f:Nat->Option (TypeId×Nat)}{i:Nat}{vs:cG}{ds:aT}{bs:aj}(h:ym w f i vs ds bs){p:Nat}{d:D}(hd:ds[p]?=some d):
 ∃c b1 b2 b3,vs[p]?=some c/\c.oneCell'=true/\Rd w c d b2/\(∀t,f (i+p)=some t->Jg w t c d b2)/\bs=b1++(b2++b3)/\
  ∀(e:D) (b4:aj),Rd w c e b4->(∀t,f (i+p)=some t->Jg w t c e b4)->ym w f i vs (ds.set p e) (b1++(b4++b3)):=by
 obtain⟨l,r,rfl,hl⟩:=Nj hd;obtain⟨v1,v2,c1,c2,rfl,rfl,k1,k2⟩:=h.split;cases k2 with
 |cons _ c vs _ _ b2 b3 h1 h2 h4 h3=>
  have hl1:v1.length=p:=by rw[k1.length];exact hl
  refine⟨c,c1,b2,b3,by rw[bW (by omega),hl1];simp,h1,h2,fun t ht=>h4 t (by rw[hl];exact ht),rfl,fun e b4 he hf=>?_⟩;have e1:(l++d::r).set p e=l++e::r:=by rw[oP _ _ (by omega),hl];simp
  rw[e1];exact k1.app (.cons _ _ _ _ _ _ _ h1 he (fun t ht=>hf t (by rw[<-hl];exact ht)) h3)
theorem fF.aAQ(hs:fF Z st κ Θ a w){m e sz i off e' sz':Nat}{rows FO:List aT}{r:aT}(hH:st.H[m]?=some (.row .uq e sz rows))(hr:rows[i]?=some r)(hd:r[off]?=some (.sl FO))
 (WD:Z2 e sz=true) (hf:w5 e off=some (e',sz')):
 ∃κ',fF Z ⟨st.σ,st.H.set m (.row (.ho (i*sz+off) st.H.length) e sz (rows.set i (r.set off .any)))++[.tf e' sz' FO]⟩ κ' Θ a w:=by
 obtain⟨ρ,hu⟩:=hs.vp;obtain⟨hsz,hrl,v0,_,_,hk0,_,_,hΘ,_⟩:=hs.ob m _ hH;obtain⟨v,cs,bs,hkm,hown,hF,hnd,hρ⟩:=hu.rows m e sz rows hH;rw[hk0]at hkm;cases hkm;have hrow:=hrl r (aE hr);have hcell:rows.flatten[i*sz+off]?=some (.sl FO):=(Xl hrl hr hd).1;obtain⟨c,b1,bc,b3,q1,q2,q3,q4,rfl,q6⟩:=hF.aBd hcell;have aEq:w5 e (0+(i*sz+off))=some (e',sz'):=by
  rw[show 0+(i*sz+off)=off+i*sz by omega,Pt WD];exact hf
 have hfull:=q4 _ aEq;have hnew:=q6 .any [] (.any _) (fun t _=>.inl ⟨rfl,rfl⟩);rw[<-Sq (e:=.any) hrl hr hd]at hnew;obtain⟨n1,n2,n3⟩:=cC.1 hnd;obtain⟨n4,n5,n6⟩:=cC.1 n2;let n:=st.H.length
 let ρ':Nat->Nat:=fun b=>if b∈bc then n+1 else ρ b
 have aI8:m<st.H.length:=(aO.1 hH).1;have a11:∀b∈bc,b∈b1++(bc++b3):=fun b hb=>aX.2 (.inr (aX.2 (.inl hb)))
 have hz:∀b∈b1++(bc++b3),Θ b=0:=fun b hb=>(hu.free b (by rw[hρ b hb];omega)).1
 have hkn:=AB (hs.uZ n (br _)) (some c);have hk':jz w w Θ Θ (n+2):=jz.refl hs.own (by omega);have key:∀(j:Nat) x,(st.H.set m (.row (.ho (i*sz+off) n) e sz (rows.set i (r.set off .any)))++[.tf e' sz' FO])[j]?=some x->
  (j=n/\x=.tf e' sz' FO)\/(j=m/\x=.row (.ho (i*sz+off) n) e sz (rows.set i (r.set off .any)))\/(j≠m/\j<n/\st.H[j]?=some x):=by
  intro j x hj;rcases ER j x hj with⟨h1,h2⟩|⟨h1,h2⟩
  ·rw[jt]at h1;exact .inl ⟨h1,h2⟩
  ·rcases IU j x h2 with⟨h3,h4⟩|⟨h3,h4⟩
   ·exact .inr (.inl ⟨h3,h4⟩)
   ·exact .inr (.inr ⟨h3,(aO.1 h4).1,h4⟩)
 have wq:=hs.tI hk' hkn hu;have uc:∀b,b∈b1++([]++b3)->b∉bc/\b∈b1++(bc++b3):=by
  intro b hb;rw[eN]at hb;rcases aX.1 hb with hb|hb
  ·exact⟨fun h=>n3 b hb b (aX.2 (.inl h)) rfl,aX.2 (.inl hb)⟩
  ·exact⟨fun h=>n6 b h b hb rfl,aX.2 (.inr (aX.2 (.inr hb)))⟩
 have Sz:(b1++([]++b3)).Nodup:=by
  rw[eN];exact cC.2 ⟨n1,n5,fun x hx y hy=>n3 x hx y (aX.2 (.inr hy))⟩
 have QA:∀x∈rows.set i (r.set off .any),x.length=sz:=by
  intro x hx;rcases sH hx with hx|rfl
  ·exact hrl x hx
  ·rw[jt];exact hrow
 have Fa:w.ownsRow 0 e sz v0 (rows.set i (r.set off .any)).length cs:=by rw[jt];exact hown
 have hre:∀(j:Nat),j≠m->∀b,ρ b=j+1->ρ' b=j+1:=by
  intro j hj b hb;simp only[ρ'];rw[bE (fun h=>by have:=hρ b (a11 b h);omega)];exact hb
 refine⟨Al κ n (some c),hs.step hk' hs.mine hkn (fun i hi=>?_) (fun i x hx=>?_) (fun j x hj=>?_) ⟨ρ',fun b hb=>?_,fun id e2 Qt gB h=>?_,fun id x h=>?_⟩⟩
 ·simp only[bC,jt,aR,cE]at hi;unfold Al;rw[bE (by omega)];exact hs.uZ i (by omega)
 ·unfold Al at hx;split at hx
  ·cases hx;exact q2
  ·exact hs.tG i x hx
 ·rcases key j x hj with⟨rfl,rfl⟩|⟨rfl,rfl⟩|⟨h1,h2,h3⟩
  ·exact .inr (.inr ⟨c,bc,nh _ _ _,q3,fun b hb=>hz b (a11 b hb)⟩)
  ·exact .inr (.inr ⟨hsz,QA,v0,cs,_,hkn _ _ hk0,Fa,hnew.rd,hΘ,fun b hb=>hz b (uc b hb).2⟩)
  ·exact .inr (.inl ⟨by omega,h3⟩)
 ·refine wq.1 b fun h0=>hb ?_
  simp only[ρ'];rw[bE (fun h=>by have:=hρ b (a11 b h);omega)];exact h0
 ·rcases key id _ h with⟨_,h1⟩|⟨_,h1⟩|⟨h1,h2,h3⟩
  ·simp at h1
  ·simp at h1
  ·obtain⟨v2,c2,b2,p1,p2,p3,p4,p5⟩:=wq.2.1 id e2 Qt gB (by omega) h3;exact⟨v2,c2,b2,p1,p2,p3,p4,fun b hb=>hre id h1 b (p5 b hb)⟩
 ·rcases key id _ h with⟨rfl,rfl⟩|⟨rfl,rfl⟩|⟨h1,h2,h3⟩
  ·exact⟨c,bc,nh _ _ _,hfull,q3.lt,n4,fun b hb=>bO hb⟩
  ·refine⟨v0,cs,_,hkn _ _ hk0,Fa,hnew,Sz,fun b hb=>?_,c,q1,nh _ _ _⟩;simp only[ρ'];rw[bE (uc b hb).1];exact hρ b (uc b hb).2
  ·exact(wq.2.2 id x (by omega) h3).re fun b hb=>hre id h1 b hb
def ID:D->Bool
 | .acc _=>true
 | .ptr _ _=>true
 | .op _ _ _ _=>true
 |d=>d.flat
theorem SF{v:Value}{d:D}{bs:aj}(h:Be w κ v d bs)(ht:ID d=true):bs=[]:=by
 cases h with
 |pure h=>exact h.flat (by cases d<;>first|exact ht|cases h| (simp[ID,D.flat]at ht))
 |acc id v hk=>rfl
 |ptr id off b hk=>rfl
 |op id i sz off b o0 len cap hk=>rfl
theorem Qv:∀ {ds:aT} {vs:cG} {bs:aj},gI w κ vs ds bs->ds.all ID=true->bs=[]:=by
 intro ds
 induction ds with
 |nil=>intro vs bs h _;cases h;rfl
 |cons d ds ih=>
  intro vs bs h ht;simp only[eE,aU]at ht;cases h with
  |cons v vs _ _ b1 b2 h1 h2 h3=>rw[SF h2 ht.1,ih h3 ht.2];rfl
theorem Zq{v:Value}{d:D}{bs:aj}(h:vS w κ v d bs)(ht:ID d=true):bs=[]:=by
 cases h with
 |v h=>
  cases h with
  |cell h=>exact SF h ht
  |agg cs ds bs h=>simp[ID,D.flat]at ht
 |iz vs ds bs h=>simp[ID,D.flat]at ht
theorem a62{t:Nat}:∀ {σ:List (Nat×D)},(σ.all fun p=>ID p.2)=true->ID (lk σ t)=true:=by
 intro σ
 induction σ with
 |nil=>intro _;rfl
 |cons p r ih=>
  intro h;obtain⟨s,d⟩:=p;simp only[eE,aU]at h;simp only[lk];split
  ·exact h.1
  ·exact ih h.2
def Fi(n:Nat)(j:Nat)(o:Ob):Bool:=match o with
 | .gone=>true
 | .box cells=>cells.all ID
 | .CW _ _=>j==0
 | .row .uq _ _ _=>true
 | .row (.ho _ _) _ _ _=>true
 | .row .cl _ _ _=>true
 | .mp _=>true
 | .tf _ _ _=>j==n
 |_=>false
def VT(n:Nat):Nat->bz->Bool
 |_,[]=>true
 |j,o::H=>Fi n j o&&VT n (j+1) H
theorem SG{n:Nat}:∀ {H:bz} {k j:Nat} {o:Ob},VT n k H=true->H[j]?=some o->Fi n (k+j) o=true:=by
 intro H
 induction H with
 |nil=>intro k j o _ h;simp at h
 |cons x H ih=>
  intro k j o h hj;simp only[VT,aU]at h;cases j with
  |zero=>simp at hj;subst hj;exact h.1
  |succ j=>have:=ih h.2 (by simpa using hj);rwa[show k+1+j=k+(j+1)by omega]at this
theorem Rd.again{w0 w:World}{c:Value}{S8 OU:List aT}{XX bs1:aj}(h0:Rd w0 c (.sl S8) XX)(h1:Rd w c (.sl OU) bs1)(hf:D.jr OU=true):∃bs,Rd w c (.sl OU) bs/\∀b∈bs,b∈XX:=by
 have key:∀(d:D),d=.sl OU->Rd w c d bs1->∃bs,Rd w c (.sl OU) bs/\∀b∈bs,b∈XX:=by
  intro d hd h1;cases h1<;>simp only[reduceCtorEq,D.sl.injEq]at hd
  case Af=>subst hd;exact⟨[],.Af,by simp⟩
  case sB a cap hc=>subst hd;exact⟨[],.sB a cap hc,by simp⟩
  case sl b off cap sz rows cs bs h10 h2 h3 h4 h5 h6=>
   subst hd;have PE:bs=[]:=h6.flat (by
    unfold D.jr at hf;rw[b8]at hf⊢;intro d hd;obtain⟨r,hr,Q0⟩:=rK.1 hd;exact b8.1 (hf r hr) d Q0)
   subst PE;cases rows with
   |nil=>exact⟨[],.sB _ cap h3,by simp⟩
   |cons r rs=>
    refine⟨[b],.sl b off cap sz (r::rs) cs [] h10 h2 h3 h4 h5 h6,fun x hx=>?_⟩;rw[cH.1 hx];have a1o:∀(v:Value) (d:D),v=.slice (some ⟨b,off,none⟩) (r::rs).length cap->d=.sl S8->Rd w0 v d XX->b∈XX:=by
     intro v d hv hd h;cases h<;>simp only[reduceCtorEq,D.sl.injEq,Value.slice.injEq,bD,Addr.mk.injEq]at hd hv
     case Af=>exact hv.1.elim
     case sB a cap' _=>simp at hv
     case sl b' off' cap' sz' eP cs' bs' _ _ _ _ _ _=>
      obtain⟨⟨rfl,_⟩,_⟩:=hv;simp
    exact a1o _ _ rfl rfl h0
 exact key _ rfl h1
theorem fF.aGH(hs:fF Z st κ Θ a w){n e sz:Nat}{FO:List aT}(hH:st.H[n]?=some (.tf e sz FO))(he:YZ e=true){u:Value}{S8 rows:List aT}{fl:aT}(hO:a0Y Z u S8)(hrw:D.jr rows=true)(h0:st.H[0]?=some (.CW (.sl rows::fl) u))
 (hfl:fl.all D.flat=true) (hσ:(st.σ.all fun p=>ID p.2)=true) (hT:VT n 0 st.H=true):
 ∃Θ',fF Z ⟨st.σ,st.H.set n (.row .uq e sz FO)⟩ κ Θ' a w:=by
 obtain⟨ρ,hu⟩:=hs.vp;obtain⟨v,bs,hkn,hfull,hlt,hnd,hρ⟩:=hu.more n _ hH;have hnl:n<st.H.length:=(aO.1 hH).1;rcases hfull with⟨h,_⟩|⟨gB,cs2,ns,a8Y,p1,p2,p3,p4,rfl⟩
 ·cases h
 cases a8Y;simp only at p1 p2 p3;obtain⟨Ui,aFF,aFG⟩:=cC.1 hnd;let Θ':Nat->Nat:=fun b=>if v.ownBlock=some b then n+2 else Θ b
 let ρ':Nat->Nat:=fun b=>if v.ownBlock=some b then 0 else ρ b
 have T3:∀b,v.ownBlock=some b->ρ b=n+1:=fun b hb=>hρ b (aX.2 (.inl (by simp[hb])))
 have aAv:∀b,v.ownBlock=some b->Θ b=0:=fun b hb=>(hu.free b (by rw[T3 b hb];omega)).1
 have Ry:∀b,v.ownBlock=some b->Bt Z b:=fun b hb=>by
  rcases(hu.free b (by rw[T3 b hb];omega)).2.1 with h|h
  ·exact h
  ·exact absurd h (hO.1 b)
 have FH:∀b,Θ b≠0->Θ' b=Θ b:=fun b hb=>bE fun h=>hb (aAv b h)
 have Xr:∀b,ρ b≠n+1->Θ' b=Θ b/\ρ' b=ρ b:=fun b hb=>⟨bE fun h=>hb (T3 b h),bE fun h=>hb (T3 b h)⟩
 have key:∀(j:Nat) x,(st.H.set n (.row .uq e sz FO))[j]?=some x->(j=n/\x=.row .uq e sz FO)\/(j≠n/\st.H[j]?=some x):=fun j x hj=>IU j x hj
 have T0:∀b∈ns,Θ b=0/\v.ownBlock≠some b:=fun b hb=>⟨(hu.free b (by rw[hρ b (aX.2 (.inr hb))];omega)).1,fun h=>aFG b (by simp[h]) b hb rfl⟩
 have hrow:∀(j e2 Qt:Nat) gB,j≠n->st.H[j]?=some (.row .uq e2 Qt gB)->∃v cs bs,κ j=some v/\w.ownsRow 0 e2 Qt v gB.length cs/\ym w (w5 e2) 0 cs gB.flatten bs/\bs.Nodup/\∀b∈bs,ρ' b=j+1/\Θ' b=0:=by
  intro j e2 Qt gB hj hjH;obtain⟨v2,c2,b2,q1,q2,q3,q4,q5⟩:=hu.rows j e2 Qt gB hjH;refine⟨v2,c2,b2,q1,q2,q3,q4,fun b hb=>?_⟩;have hb':=q5 b hb;obtain⟨r1,r2⟩:=Xr b (by omega);exact⟨r2.trans hb',r1.trans (hu.free b (by omega)).1⟩
 have hho:∀(j p m e2 Qt:Nat) gB,j≠n->st.H[j]?=some (.row (.ho p m) e2 Qt gB)->∃v cs bs,κ j=some v/\w.ownsRow 0 e2 Qt v gB.length cs/\ym w (w5 e2) 0 cs gB.flatten bs/\bs.Nodup/\(∀b∈bs,ρ' b=j+1/\Θ' b=0)/\∃c,cs[p]?=some c/\κ m=some c:=by
  intro j p m e2 Qt gB hj hjH;obtain⟨v2,c2,b2,q1,q2,q3,q4,q5,q6⟩:=hu.more j _ hjH;refine⟨v2,c2,b2,q1,q2,q3,q4,fun b hb=>?_,q6⟩;have hb':=q5 b hb;obtain⟨r1,r2⟩:=Xr b (by omega);exact⟨r2.trans hb',r1.trans (hu.free b (by omega)).1⟩
 refine⟨Θ',hs.defers,hs.size,fun i hi=>hs.uZ i (by simpa using hi),hs.tG,fun t=>?_,fun j o hj=>?_,fun b hb=>?_,fun b hb hx=>?_,fun b hb=>?_,hs.stays,ρ',fun b hb=>?_,fun j e2 Qt gB hj=>?_,fun j o hj=>?_⟩
 ·obtain⟨bs,hr,_⟩:=hs.slot t;have:=Zq hr (a62 hσ);subst this;exact⟨[],hr,by simp⟩
 ·rcases key j o hj with⟨rfl,rfl⟩|⟨hjn,hj'⟩
  ·exact⟨p1,p2,v,cs2,ns,hkn,p3,p4,fun g hg=>bO hg,fun b hb=>(bE (T0 b hb).2).trans (T0 b hb).1⟩
  ·have Dj:=hs.ob j o hj';have WL:=SG hT hj';cases o with
   |gone=>trivial
   |tk r=>simp[Fi]at WL
   |RR s r u=>simp[Fi]at WL
   |hole s r u p q=>simp[Fi]at WL
   |tf e2 s2 r=>simp only[Fi,cY,cr]at WL;exact absurd WL hjn
   |mp kv=>
    obtain⟨g,es,c,q1,q2,q3,q4⟩:=Dj;exact⟨g,es,c,q1,q2,(FH g (by omega)).trans q3,q4⟩
   |box cells=>
    obtain⟨g,cs,T,q1,q2,q3,bs,q4,q5⟩:=Dj;have:=Qv q4 WL;subst this;exact⟨g,cs,T,q1,q2,(FH g (by omega)).trans q3,[],q4,by simp⟩
   |CW cells u2=>
    simp only[Fi,cY,cr]at WL;subst WL;rw[h0]at hj';cases hj';obtain⟨hK,g,cs,T,q1,q2,q3,bs,q4,q5⟩:=Dj;obtain⟨_,c,XX,r1,r2,r3⟩:=hO;obtain⟨z1,z2⟩:=hK.2 c r1 g cs T q1 q2;refine⟨hK,g,cs,T,q1,q2,(FH g (by omega)).trans q3,?_⟩;have hb0:∀b∈XX,w.heap[b]?=Z.W0.heap[b]?/\Θ' b=0:=by
     intro b hb;obtain⟨s1,s2,s3⟩:=r3 b hb;refine⟨hs.stays.block b s1 s2,?_⟩;have hne:¬v.ownBlock=some b:=fun h=>by
      rcases Ry b h with h|h
      ·omega
      ·exact s2 h
     exact(bE hne).trans ((hs.old b s1 s2).1.trans s3)
    rw[<-lD]at z2;generalize cs.toList=l at q4 z2;cases q4 with
    |cons x xs _ _ b1 b2 k1 k2 k3=>
     simp at z2;subst z2;have r2w:Rd w x (.sl _) XX:=r2.keep fun b hb=>(hb0 b hb).1
     obtain⟨bs4,r4,r5⟩:=r2w.again (by cases k2 with|pure h=>exact h) hrw;have On:b2=[]:=Qv k3 (by
      rw[b8]at hfl⊢;intro d hd;have:=hfl d hd;cases d<;>first|rfl| (simp[D.flat]at this))
     subst On;exact⟨bs4++[],.cons _ _ _ _ _ _ k1 (.pure r4) k3,fun b hb=>(hb0 b (r5 b (by simpa using hb))).2⟩
   |row k e2 Qt gB=>
    obtain⟨q1,q2,v2,cs3,bs3,q3,q4,q5,q6,q7⟩:=Dj;cases k with
    |sh=>simp[Fi]at WL
    |mv m=>simp[Fi]at WL
    |cl=>
     refine⟨q1,q2,v2,cs3,bs3,q3,q4,q5,fun g hg=>(FH g (by rw[q6 g hg];omega)).trans (q6 g hg),q7.1,fun b hb=>⟨(FH b (by rw[(q7.2.1 b hb).1];omega)).trans (q7.2.1 b hb).1,(q7.2.1 b hb).2⟩,q7.2.2⟩
    |uq=>
     obtain⟨v4,c4,b4,r1,r2,r3,r4,r5⟩:=hrow j e2 Qt gB hjn hj';rw[q3]at r1;cases r1;exact⟨q1,q2,v2,c4,b4,q3,r2,r3.rd,fun g hg=>(FH g (by rw[q6 g hg];omega)).trans (q6 g hg),fun b hb=>(r5 b hb).2⟩
    |ho p m=>
     obtain⟨v4,c4,b4,r1,r2,r3,r4,r5,_⟩:=hho j p m e2 Qt gB hjn hj';rw[q3]at r1;cases r1;exact⟨q1,q2,v2,c4,b4,q3,r2,r3.rd,fun g hg=>(FH g (by rw[q6 g hg];omega)).trans (q6 g hg),fun b hb=>(r5 b hb).2⟩
 ·simp only[Θ']at hb;split at hb
  ·rename_i h;exact hlt b (aX.2 (.inl (by simp[h])))
  ·exact hs.own b hb
 ·have hne:¬v.ownBlock=some b:=fun h=>by
   rcases Ry b h with h|h
   ·omega
   ·exact hx h
  have e1:Θ' b=Θ b:=bE hne;rw[e1];exact hs.old b hb hx
 ·by_cases h:v.ownBlock=some b
  ·exact Ry b h
  ·have e1:Θ' b=Θ b:=bE h;rw[e1]at hb;exact hs.mine b hb
 ·by_cases h:v.ownBlock=some b
  ·exact absurd (bO h) hb
  ·have e1:Θ' b=Θ b:=bE h;have e2:ρ' b=ρ b:=bE h;rw[e2]at hb;rw[e1];exact hu.free b hb
 ·rcases key j _ hj with⟨rfl,h1⟩|⟨hjn,hj'⟩
  ·simp only[Ob.row.injEq,AF]at h1;obtain⟨rfl,rfl,rfl⟩:=h1;exact⟨v,cs2,ns,hkn,p3,.of p4 (zj (EW he)),aFF,fun b hb=>(bE (T0 b hb).2).trans (hρ b (aX.2 (.inr hb)))⟩
  ·obtain⟨v4,c4,b4,r1,r2,r3,r4,r5⟩:=hrow j e2 Qt gB hjn hj';exact⟨v4,c4,b4,r1,r2,r3,r4,fun b hb=>(r5 b hb).1⟩
 ·rcases key j o hj with⟨rfl,rfl⟩|⟨hjn,hj'⟩
  ·exact R9.IA rfl
  ·have WL:=SG hT hj';cases o with
   |row k e2 Qt gB=>
    cases k with
    |mv m=>simp[Fi]at WL
    |ho p m=>
     obtain⟨v4,c4,b4,r1,r2,r3,r4,r5,r6⟩:=hho j p m e2 Qt gB hjn hj';exact⟨v4,c4,b4,r1,r2,r3,r4,fun b hb=>(r5 b hb).1,r6⟩
    |_=>trivial
   |tk r=>simp[Fi]at WL
   |tf e2 s2 r=>simp only[Fi,cY,cr]at WL;exact absurd WL hjn
   |_=>trivial
theorem a4G{c:Code}{Q:Exit->St->Prop}{m e sz i off e' sz':Nat}{rows FO:List aT}{r:aT}{u:Value}{S8 OU:List aT}{fl:aT}(hO:a0Y Z u S8)(hrw:D.jr OU=true)(hr:rows[i]?=some r)(hH:st.H[m]?=some (.row .uq e sz rows))(hd:r[off]?=some (.sl FO))(h0:st.H[0]?=some (.CW (.sl OU::fl) u))
 (WD:Z2 e sz=true) (hf:w5 e off=some (e',sz')) (he:YZ e'=true) (hfl:fl.all D.flat=true) (hσ:(st.σ.all fun p=>ID p.2)=true) (hT:VT st.H.length 0 (st.H.set m (.row (.ho (i*sz+off) st.H.length) e sz (rows.set i (r.set off .any)))++[.tf e' sz' FO])=true)
 (h:AW P Z c Q ⟨st.σ,st.H.set m (.row (.ho (i*sz+off) st.H.length) e sz (rows.set i (r.set off .any)))++[.row .uq e' sz' FO]⟩):AW P Z c Q st:=by
 intro κ Θ a w hs;obtain⟨κ1,hs1⟩:=hs.aAQ hH hr hd WD hf;have hlen:(st.H.set m (.row (.ho (i*sz+off) st.H.length) e sz (rows.set i (r.set off .any)))).length=st.H.length:=jt;have hm0:m≠0:=fun h=>by subst h;rw[hH]at h0;cases h0
 have h0l:0<st.H.length:=(aO.1 h0).1;obtain⟨Θ2,hs2⟩:=hs1.aGH (n:=st.H.length) (e:=e') (sz:=sz') (FO:=FO) (by rw[bW (by omega),hlen];simp) he hO hrw (fl:=fl) (by rw[bJ (by omega),cz hm0];exact h0) hfl hσ hT;have e1:(st.H.set m (.row (.ho (i*sz+off) st.H.length) e sz (rows.set i (r.set off .any)))++[Ob.tf e' sz' FO]).set st.H.length (.row .uq e' sz' FO)=st.H.set m (.row (.ho (i*sz+off) st.H.length) e sz (rows.set i (r.set off .any)))++[.row .uq e' sz' FO]:=by
  rw[oP _ _ (by omega),hlen];simp
 rw[e1]at hs2;exact h κ1 Θ2 a w hs2
end
open Go.RowKit Go.Proofs Tryz
structure aC where
 rel:Bytes
 args:aI
 deriving DecidableEq
structure aW where
 var:Bytes
 value:Bytes
 deriving DecidableEq
structure aS where
 kind:Int
 pat:aC
 left:Bytes
 right:Bytes
 deriving DecidableEq
structure Action where
 kind:Int
 pat:aC
 deriving DecidableEq
structure aN where
 name:Bytes
 prio:Int
 conds:List aS
 dD:List Action
 deriving DecidableEq
structure aQ where
 facts:List aC
 bind:List aW
 deriving DecidableEq
structure ai where
 rule:Bytes
 facts:List aC
 bind:List aW
 deriving DecidableEq
structure ah where
 shape:aC
 facts:List aC
 deriving DecidableEq
structure Node where
 parent:Int
 cond:aS
 cX:Int
 tokens:List aQ
 deriving DecidableEq
structure aF where
 rules:List aN
 ends:bM
 bG:List ah
 nodes:List Node
 facts:List aC
 cP:Int
 deriving DecidableEq
structure di where
 fact:aC
 time:Int
 deriving DecidableEq
structure aEN where
 rule:Bytes
 times:bM
 deriving DecidableEq
structure aEM where
 aIZ:ai
 prio:Int
 times:bM
 spec:Int
 order:Int
 deriving DecidableEq
structure ck where
 b:bM
 i:Int
 h:Int
 deriving DecidableEq
abbrev tx(s:Bytes):List D:=[.str s]
abbrev jN(n:Int):List D:=[.int .i64 n]
abbrev bx(b:Bool):List D:=[.bool b]
abbrev yx(n:Int):List D:=[.int .u8 n]
abbrev dT(l:List Bytes):D:=.sl (l.map tx)
abbrev dI(l:List Int):D:=.sl (l.map jN)
abbrev aC.c(x:aC):List D:=[.str x.rel,dT x.args]
abbrev aW.c(x:aW):List D:=[.str x.var,.str x.value]
abbrev aS.c(x:aS):List D:=[.int .i64 x.kind,.str x.pat.rel,dT x.pat.args,.str x.left,.str x.right]
abbrev Action.c(x:Action):List D:=[.int .i64 x.kind,.str x.pat.rel,dT x.pat.args]
abbrev aN.c(x:aN):List D:=[.str x.name,.int .i64 x.prio,.sl (x.conds.map aS.c),.sl (x.dD.map Action.c)]
abbrev aQ.c(x:aQ):List D:=[.sl (x.facts.map aC.c),.sl (x.bind.map aW.c)]
abbrev ai.c(x:ai):List D:=[.str x.rule,.sl (x.facts.map aC.c),.sl (x.bind.map aW.c)]
abbrev ah.c(x:ah):List D:=[.str x.shape.rel,dT x.shape.args,.sl (x.facts.map aC.c)]
abbrev Node.c(x:Node):List D:=[.int .i64 x.parent,.int .i64 x.cond.kind,.str x.cond.pat.rel,dT x.cond.pat.args,.str x.cond.left,.str x.cond.right,.int .i64 x.cX,.sl (x.tokens.map aQ.c)]
abbrev aF.c(x:aF):List D:=[.sl (x.rules.map aN.c),dI x.ends,.sl (x.bG.map ah.c),.sl (x.nodes.map Node.c),.sl (x.facts.map aC.c),.int .i64 x.cP]
abbrev di.c(x:di):List D:=[.str x.fact.rel,dT x.fact.args,.int .i64 x.time]
abbrev ck.c(x:ck):List D:=[.sl (x.b.map yx),.int .i64 x.i,.int .i64 x.h]
def yt(fn:Func):Code:=match fn.body with
 |some c=>c
 |none=>.skip
theorem mix:prog.follows .mixedOrders=true:=by kernel_rfl
theorem aEK{P:Program}{Z:wW}{Q:Exit->St->Prop}{N N':Nat->St->Prop}{c:Code}{K K0:uX}{st:St}(hd:depth K=depth K0)(hN:∀d,d<depth K0->N' d=N d)(t:AW P Z c (KQ P Z N Q K) st):AW P Z c (KQ P Z N' Q K) st:=by
 rw[U4 (N:=N') (N':=N) K (fun d h=>hN d (by omega))];exact t
theorem aAB{P:Program}{Z:wW}{Q:Exit->St->Prop}{c:Code}{s s':St}(h:s=s')(t:AW P Z c Q s'):AW P Z c Q s:=by rw[h];exact t
theorem EJ{G:Type}{c:G->aT}(hc:∀x,(c x).all D.flat=true)(l:List G):(l.map c).flatten.all D.flat=true:=by
 induction l with
 |nil=>rfl
 |cons x l ih=>rw[bA,iK,List.all_append,hc,ih];rfl
abbrev bT:An:=.b true
abbrev bF:An:=.b false
structure Pre(A:List An)(p:Fq):Prop where
 h:Ao p
theorem aY:Pre [] []:=⟨trivial⟩
theorem Ao.join{p q:Fq}(h:Ao p)(k:Ao q):Ao (p++q):=by
 induction p with
 |nil=>exact k
 |cons x p ih=>exact⟨h.1,ih h.2⟩
theorem Pre.ext{A:fq}{p:Fq}(o:Pre A p)(B:fq){q:Fq}(hq:Ao q):Pre (A++B) (p++q):=⟨o.h.join hq⟩
section
variable{A:fq}{p:Fq}
theorem Pre.b(o:Pre A p){c v:Bool}(h:c=v):Pre (A++[.b v]) (p++[c=v]):=o.ext _ ⟨h,trivial⟩
theorem Pre.r(o:Pre A p)(n:Nat){c v:Bool}(h:c=v):Pre (A++List.replicate n (.b v)) (p++List.replicate n (c=v)):=o.ext _ (by
 induction n with
 |zero=>trivial
 |succ n ih=>exact⟨h,ih⟩)
theorem Pre.T(o:Pre A p)(n:Nat):Pre (A++List.replicate n bT) (p++List.replicate n (true=true)):=o.r n rfl
theorem Pre.F(o:Pre A p)(n:Nat):Pre (A++List.replicate n bF) (p++List.replicate n (false=false)):=o.r n rfl
theorem Pre.g(o:Pre A p){f:FuncId}{ds:aT}{d:D}(h:Good prog f ds d):Pre (A++[.d d]) (p++[Good prog f ds d]):=o.ext _ ⟨h,trivial⟩
theorem Pre.hp(o:Pre A p)(nz:List (List (Option (Nat×Nat)))){f:FuncId}{cells cells' ds:aT}{d:D}(h:j0 prog f cells cells' ds d):Pre (A++[.gp nz cells' d]) (p++[j0 prog f cells cells' ds d]):=o.ext _ ⟨h,trivial⟩
theorem Pre.hf(o:Pre A p)(nz:List (List (Option (Nat×Nat)))){f:FuncId}{ds:aT}{d:D}(h:LD prog f ds d):Pre (A++[.gf nz d]) (p++[LD prog f ds d]):=o.ext _ ⟨h,trivial⟩
theorem Pre.hn(o:Pre A p){f:FuncId}{ds cells:aT}(h:LF prog f ds cells):Pre (A++[.dn cells]) (p++[LF prog f ds cells]):=o.ext _ ⟨h,trivial⟩
theorem Pre.w(o:Pre A p){q:Prop}(h:q):Pre (A++[]) (p++[q]):=o.ext _ ⟨h,trivial⟩
theorem Pre.a(o:Pre A p)(B:fq):Pre (A++B) (p++[]):=o.ext _ (q:=[]) trivial
theorem Pre.l(o:Pre A p){n:Int}{rows:List aT}{r:aT}{sz:Nat}(h:0<=n/\rows[n.toNat]?=some r/\r.length=sz):Pre (A++[.row r]) (p++[0<=n/\rows[n.toNat]?=some r/\r.length=sz]):=o.ext _ ⟨h,trivial⟩
theorem Pre.i(o:Pre A p){sz sz' m k:Nat}{n:Int}(h:sz=sz'/\n=((k:Nat):Int)/\k<m):Pre (A++[.ix k]) (p++[sz=sz'/\n=((k:Nat):Int)/\k<m]):=o.ext _ ⟨h,trivial⟩
theorem Pre.o(o:Pre A p)(sz n:Nat)(k:RK){rows:List aT}{i:Nat}{r:aT}(h:rows[i]?=some r)(hk:k.TS=true:=by kernel_rfl)(hn:Nat.ble n sz=true:=by kernel_rfl):Pre (A++[.row r]) (p++[sz=sz/\k.TS=true/\rows[i]?=some r/\n<=sz]):=o.ext _ ⟨⟨rfl,hk,h,lG hn⟩,trivial⟩
theorem Pre.c(o:Pre A p){s:Bytes}{i:Int}{b:UInt8}(h:gA s i=some b):Pre (A++[.ch b]) (p++[0<=i/\s[i.toNat]?=some b]):=o.ext _ ⟨a81 h,trivial⟩
theorem Pre.lt{G:Type}{l xs:List G}{i:Nat}{x:G}(o:Pre A p)(f:G->aT)(h:l.drop i=x::xs):Pre (A++[bT]) (p++[decide ((i:Int)<((l.map f).length:Int))=true]):=o.b (a1y f (drop_cons h).2.1)
theorem Pre.ge{G:Type}{l:List G}{i:Nat}(o:Pre A p)(f:G->aT)(h:l.drop i=[]):Pre (A++[bF]) (p++[decide ((i:Int)<((l.map f).length:Int))=false]):=o.b (ZM f (drop_nil h))
end
theorem dc{G:Type}{l:List G}{k:Nat}{x:G}{xs:List G}(h:l.drop k=x::xs):l[k]?=some x:=(drop_cons h).1
theorem dn{G:Type}{l:List G}{k:Nat}{x:G}{xs:List G}(h:l.drop k=x::xs):l.drop (k+1)=xs:=(drop_cons h).2.2
theorem iS{G:Type}{l:List G}{k:Nat}{x:G}{xs:List G}(h:l.drop k=x::xs)(hn:l.length<=maxLen):IntKind.i64.wrap ((k:Int)+1)=((k+1:Nat):Int):=a1P (drop_cons h).2.1 hn
theorem Vt{n:Int}{m:Nat}(h:(decide (0<=n)&&decide (n.toNat<=m))=true):n=((n.toNat:Nat):Int)/\n.toNat<=m:=by
 simp only[aU,bH]at h;exact⟨by omega,h.2⟩
theorem mA{G E:Type}(f:G->E):(∀a b:List G,(a++b).map f=a.map f++b.map f)/\(∀(x:G) (a:List G),(x::a).map f=f x::a.map f)/\([]:List G).map f=[]/\(∀(l:List G) (i:Nat) (x:G),(l.set i x).map f=(l.map f).set i (f x))/\(∀(n:Nat) (x:G),(List.replicate n x).map f=List.replicate n (f x))/\(∀(l:List G) (n:Nat),(l.take n).map f=(l.map f).take n):=
 ⟨fun _ _=>bI,fun _ _=>rfl,rfl,fun _ _ _=>List.map_set,fun _ _=>List.map_replicate,fun _ _=>cI⟩
section
variable{Z:wW}{N N1:Nat->St->Prop}{fn:Func}{k:Kd}{nt:Nat}{A:fq}{p:Fq}{c c':Code}{K K' K0:uX}{st xP:St}
theorem Pre.ret(o:Pre A p)(hnt:Z.nt=nt)(h:go prog (k.rf prog fn) nt 2000 (.run c) K st A=some (.ret k.d0,p):=by kernel_rfl):AW prog Z c (KQ prog Z N (k.qq prog fn) K) st:=PU (n:=2000) A _ hnt mix h o.h rfl
theorem Pre.rts(o:Pre A p)(hnt:Z.nt=nt)(d:D)(hd:d=k.d0)(h:go prog (k.rf prog fn) nt 2000 (.run c) K st A=some (.ret d,p):=by kernel_rfl):AW prog Z c (KQ prog Z N (k.qq prog fn) K) st:=PU (n:=2000) A _ hnt mix h o.h hd
theorem Pre.cs(o:Pre A p)(hnt:Z.nt=nt){n:Nat}(hS:N1 (depth K')=XF prog Z c' (KQ prog Z N (k.qq prog fn) K') n)(S:St)(e:S=xP)(t:XF prog Z c' (KQ prog Z N (k.qq prog fn) K') n xP)
 (h:go prog (k.rf prog fn) nt 2000 (.run c) K st A=some (.cont (depth K') S,p):=by kernel_rfl):AW prog Z c (KQ prog Z N1 (k.qq prog fn) K) st:=PU (n:=2000) A _ hnt mix h o.h ((congrFun hS _).mpr (by rw[e];exact t))
theorem Pre.cf(o:Pre A p)(hnt:Z.nt=nt){n:Nat}(hS:N1 (depth K')=XF prog Z c' (KQ prog Z N (k.qq prog fn) K') n)(t:XF prog Z c' (KQ prog Z N (k.qq prog fn) K') n xP)
 (h:go prog (k.rf prog fn) nt 2000 (.run c) K st A=some (.cont (depth K') xP,p):=by kernel_rfl):AW prog Z c (KQ prog Z N1 (k.qq prog fn) K) st:=o.cs hnt hS _ rfl t h
theorem Pre.ct(o:Pre A p)(hnt:Z.nt=nt){n i:Nat}{S:Int->St}(hS:N1 (depth K')=XF prog Z c' (KQ prog Z N (k.qq prog fn) K') n)(hi:IntKind.i64.wrap ((i:Int)+1)=((i+1:Nat):Int))(t:XF prog Z c' (KQ prog Z N (k.qq prog fn) K') n (S ((i+1:Nat):Int)))
 (h:go prog (k.rf prog fn) nt 2000 (.run c) K st A=some (.cont (depth K') (S (IntKind.i64.wrap ((i:Int)+1))),p):=by kernel_rfl):AW prog Z c (KQ prog Z N1 (k.qq prog fn) K) st:=o.cs hnt hS _ (congrArg S hi) t h
theorem Pre.exs(o:Pre A p)(hnt:Z.nt=nt)(hN:∀d,d<depth K0->N1 d=N d)(S:St)(e:S=xP)(t:AW prog Z c' (KQ prog Z N (k.qq prog fn) K') xP)(hd:depth K'=depth K0:=by kernel_rfl)(h:go prog (k.rf prog fn) nt 2000 (.run c) K st A=some (.at_ c' K' S,p):=by kernel_rfl):
 AW prog Z c (KQ prog Z N1 (k.qq prog fn) K) st:=PU (n:=2000) A _ hnt mix h o.h (aEK (K0:=K0) hd hN (by rw[e];exact t))
theorem Pre.ex(o:Pre A p)(hnt:Z.nt=nt)(hN:∀d,d<depth K0->N1 d=N d)(t:AW prog Z c' (KQ prog Z N (k.qq prog fn) K') xP)(hd:depth K'=depth K0:=by kernel_rfl)(h:go prog (k.rf prog fn) nt 2000 (.run c) K st A=some (.at_ c' K' xP,p):=by kernel_rfl):
 AW prog Z c (KQ prog Z N1 (k.qq prog fn) K) st:=o.exs hnt hN _ rfl t hd h
theorem Pre.lps(o:Pre A p)(hnt:Z.nt=nt){n:Nat}(S:St)(e:S=xP)(t:XF prog Z c' (KQ prog Z N (k.qq prog fn) K') n xP)(h:go prog (k.rf prog fn) nt 2000 (.run c) K st A=some (.lp c' K' S,p):=by kernel_rfl):
 AW prog Z c (KQ prog Z N (k.qq prog fn) K) st:=PU (n:=2000) A _ hnt mix h o.h (aAB e (a4E t))
theorem Pre.lp(o:Pre A p)(hnt:Z.nt=nt){n:Nat}(t:XF prog Z c' (KQ prog Z N (k.qq prog fn) K') n xP)(h:go prog (k.rf prog fn) nt 2000 (.run c) K st A=some (.lp c' K' xP,p):=by kernel_rfl):
 AW prog Z c (KQ prog Z N (k.qq prog fn) K) st:=o.lps hnt _ rfl t h
def a8w:fq->Bool
 | .n2 _ _ _ _ _ _::_=>true
 |_=>false
theorem aBe{A:fq}(h:a8w A=true):∃Y ρ k m L X A1,A=.n2 Y ρ k m L X::A1:=by
 unfold a8w at h;split at h
 ·exact⟨_,_,_,_,_,_,_,rfl⟩
 ·cases h
variable{ops:Array Oper}
theorem Pre.aG4(o:Pre A p)(hnt:Z.nt=nt)(h:go prog (k.rf prog fn) nt 2000 (.run (.region 0 ops true)) K st A=some (.ret k.d0,p):=by kernel_rfl)(hA:a8w A=true:=by kernel_rfl):Cz prog Z ops (KQ prog Z N (k.qq prog fn) K) st:=a8C (n:=1999) _ hnt mix h (aBe hA) o.h rfl
end
abbrev lc(f:Func)(p:List Nat):Code:=(dig (yt f) p []).1
abbrev lk'(f:Func)(p:List Nat):List Fr:=(dig (yt f) p []).2
abbrev Ax(Z:wW)(N:Nat->St->Prop)(f:Func)(k:Kd)(p:List Nat)(s:St):Prop:=AW prog Z (lc f p) (KQ prog Z N (k.qq prog f) (lk' f p)) s
abbrev Ar(Z:wW)(N:Nat->St->Prop)(f:Func)(k:Kd)(p:List Nat)(n:Nat)(s:St):Prop:=XF prog Z (lc f (p++[0])) (KQ prog Z N (k.qq prog f) (lk' f p)) n s
theorem gd{f:FuncId}{fn:Func}{ds:aT}{d:D}(hf:prog.funcs[f]?=some fn)(nz:List (List (Option (Nat×Nat))))(nt:Nat)(h:(∀d∈ds,gY d)->∀Z:wW,Z.nt=nt->AW prog Z (yt fn) (KQ prog Z (fun _ _=>False) ((Kd.q nz d).qq prog fn) []) ⟨yq 0 ds,[]⟩)
 (hb:fn.body=some (yt fn):=by kernel_rfl) (hn:(fn.name== "runtime.NumGoroutine")=false:=by kernel_rfl) (hl:Nat.ble ds.length fn.ntmps=true:=by kernel_rfl) (ht:fn.ntmps=nt:=by kernel_rfl):Good prog f ds d:=
 Good.of hf hb hn (lG hl) fun hr Z hZ=>h hr Z (hZ.trans ht)
theorem gdN{f:FuncId}{fn:Func}{ds cells:aT}(hf:prog.funcs[f]?=some fn)(nt:Nat)(h:(∀d∈ds,gY d)->∀Z:wW,Z.nt=nt->AW prog Z (yt fn) (KQ prog Z (fun _ _=>False) ((Kd.n cells).qq prog fn) []) ⟨yq 0 ds,[]⟩)
 (hb:fn.body=some (yt fn):=by kernel_rfl) (hn:(fn.name== "runtime.NumGoroutine")=false:=by kernel_rfl) (hl:Nat.ble ds.length fn.ntmps=true:=by kernel_rfl) (ht:fn.ntmps=nt:=by kernel_rfl):LF prog f ds cells:=
 LF.of hf hb hn (lG hl) fun hr Z hZ=>h hr Z (hZ.trans ht)
theorem L4{f:FuncId}{fn:Func}{cells cells' ds:aT}{d:D}(hf:prog.funcs[f]?=some fn)(nz:List (List (Option (Nat×Nat))))(nt:Nat)(As OC:aT)(obs:bz)
 (h:(∀x∈(D.agg cells::ds).map D.shV,gY x)->∀(v0:Value) (Z:wW),Z.nt=nt->AW prog Z (yt fn) (KQ prog Z (fun _ _=>False) ((Kd.p nz v0 cells' d).qq prog fn) []) ⟨yq 0 (.ptr 0 0::OC),.CW As v0::obs⟩)
 (hI:B1 1 (.agg cells::ds)=(.agg As::OC,obs):=by kernel_rfl) (hb:fn.body=some (yt fn):=by kernel_rfl) (hn:(fn.name== "runtime.NumGoroutine")=false:=by kernel_rfl) (hl:Nat.ble (OC.length+1) fn.ntmps=true:=by kernel_rfl) (ht:fn.ntmps=nt:=by kernel_rfl):j0 prog f cells cells' ds d:=
 j0.of hf hb hn hI (lG hl) fun hr v0 Z hZ _=>h hr v0 Z (hZ.trans ht)
theorem aEc{f:FuncId}{fn:Func}{rows:List aT}{x1 x2:D}{cells' ds:aT}{d:D}(hf:prog.funcs[f]?=some fn)(nz:List (List (Option (Nat×Nat))))(nt:Nat)(OC:aT)
 (h:(∀x∈(D.agg [.sl rows,x1,x2]::ds).map D.shV,gY x)->∀(v0:Value) (Z:wW),Z.nt=nt->a0Y Z v0 rows->AW prog Z (yt fn) (KQ prog Z (fun _ _=>False) ((Kd.p nz v0 cells' d).qq prog fn) []) ⟨yq 0 (.ptr 0 0::OC),[.CW [.sl rows,x1,x2] v0]⟩)
 (hI:B1 1 (.agg [.sl rows,x1,x2]::ds)=(.agg [.sl rows,x1,x2]::OC,[]):=by kernel_rfl) (hb:fn.body=some (yt fn):=by kernel_rfl) (hn:(fn.name== "runtime.NumGoroutine")=false:=by kernel_rfl) (hl:Nat.ble (OC.length+1) fn.ntmps=true:=by kernel_rfl) (ht:fn.ntmps=nt:=by kernel_rfl):j0 prog f [.sl rows,x1,x2] cells' ds d:=
 j0.of hf hb hn hI (lG hl) fun hr v0 Z hZ hO=>h hr v0 Z (hZ.trans ht) (hO rfl rfl rows rfl)
theorem gdF{f:FuncId}{fn:Func}{ds:aT}{d:D}(hf:prog.funcs[f]?=some fn)(nz:List (List (Option (Nat×Nat))))(nt:Nat)(OC:aT)(obs:bz)
 (h:(∀x∈ds.map D.shV,gY x)->∀(Z:wW),Z.nt=nt->AW prog Z (yt fn) (KQ prog Z (fun _ _=>False) ((Kd.q nz d).qq prog fn) []) ⟨yq 0 OC,obs⟩)
 (hI:B1 0 ds=(OC,obs):=by kernel_rfl) (hb:fn.body=some (yt fn):=by kernel_rfl) (hn:(fn.name== "runtime.NumGoroutine")=false:=by kernel_rfl) (hl:Nat.ble OC.length fn.ntmps=true:=by kernel_rfl) (ht:fn.ntmps=nt:=by kernel_rfl):LD prog f ds d:=
 LD.of hf hb hn hI (lG hl) fun hr Z hZ=>h hr Z (hZ.trans ht)
theorem a4k(l:bM):D.jr (l.map yx)=true:=by
 unfold D.jr;rw[b8];intro r hr;obtain⟨x,_,rfl⟩:=cJ.1 hr;rfl
theorem a6b{G:Type}{l:List G}{i:Int}{x:G}(f:G->aT)(sz:Nat)(h:gA l i=some x){r:aT}:sz=sz/\i=((i.toNat:Nat):Int)/\i.toNat<((l.map f).set i.toNat r).length:=by
 rw[jt];exact fI f sz h
theorem aAj{G:Type}{l:List G}{i:Int}{x:G}(f:G->aT)(r:aT)(h:gA l i=some x):((l.map f).set i.toNat r)[i.toNat]?=some r:=eY (fI f 0 h).2.2
abbrev aJ:=List aC
abbrev aP:=List aW
abbrev ar:=List aQ
abbrev ay:=List aS
abbrev az:=List aN
abbrev bL:=List ai
abbrev bN:=List Node
abbrev bP:=List ah
abbrev fB:=List Action
theorem lS{G:Type}[DecidableEq G][BEq G][LawfulBEq G](a b:G):(a==b)=decide (a=b):=by rw[cK];simp
def sD{G:Type}(w:G->Nat)(l:List G):Nat:=l.length+(l.map w).sum
def tw(s:Bytes):Nat:=s.length
theorem a68{G:Type}(w:G->Nat):sD w []=0:=rfl
theorem pz{G:Type}(w:G->Nat)(x:G)(l:List G):sD w (x::l)=1+w x+sD w l:=by simp[sD];omega
theorem R4{G:Type}(w:G->Nat)(a b:List G):sD w (a++b)=sD w a+sD w b:=by
 induction a with
 |nil=>simp[sD]
 |cons x a ih=>rw[u7,pz,pz,ih];omega
theorem tK{G:Type}(w:G->Nat)(l:List G):l.length<=sD w l:=by unfold sD;omega
theorem qS{G:Type}{w:G->Nat}{l:List G}{x:G}(h:x∈l):w x+1<=sD w l:=by
 induction l with
 |nil=>cases h
 |cons y l ih=>
  rw[pz];rcases bV.1 h with rfl|h
  ·omega
  ·have:=ih h;omega
theorem eqL{G:Type}[DecidableEq G]{f:G->G->Option Bool}{a b:List G}{c:G->aT}(L:Option Bool->List G->Nat->Option Bool)(wo:∀k i,L k [] i=k)
 (wO:∀k x xs i,L k (x::xs) i=(gA b (i:Int)).bind fun y=>(f x y).bind fun r=>bif !r then some false else L k xs (i+1)) (hf:∀x y,f x y=some (decide (x=y))):
 (bif (((a.map c).length:Int) != ((b.map c).length:Int))then some false else L (some true) a 0)=some (decide (a=b)):=by
 by_cases hl:a.length=b.length
 ·have e:(((a.map c).length:Int) != ((b.map c).length:Int))=false:=by simp[hl]
  rw[e];have key:∀(ra rb pa pb:List G),a=pa++ra->b=pb++rb->pa.length=pb.length->L (some true) ra pa.length=some (decide (ra=rb)):=by
   intro ra
   induction ra with
   |nil=>
    intro rb pa pb h1 h2 h3;rw[wo];have:rb=[]:=by
     have:=congrArg List.length h1;have:=congrArg List.length h2;simp at*;apply dJ;omega
    subst this;simp
   |cons x xs ih=>
    intro rb pa pb h1 h2 h3;cases rb with
    |nil=>
     exfalso;have:=congrArg List.length h1;have:=congrArg List.length h2;simp at*;omega
    |cons y ys=>
     rw[wO];have e1:gA b (pa.length:Int)=some y:=by
      unfold gA;have:b[pa.length]?=some y:=by rw[h2,h3];simp
      simp[this]
     rw[e1,aA,hf,aA];have:=ih ys (pa++[x]) (pb++[y]) (by rw[h1];simp) (by rw[h2];simp) (by simp[h3]);by_cases hxy:x=y
     ·subst hxy;simp only[Cy,bU,aL];simp only[bC,aR,cE]at this;rw[this];simp
     ·simp[hxy]
  have:=key a b [] [] rfl rfl rfl;simpa using this
 ·have e:(((a.map c).length:Int) != ((b.map c).length:Int))=true:=by simp;omega
  rw[e];have:a≠b:=fun h=>hl (by rw[h])
  simp[this]
def aC.wt(x:aC):Nat:=tw x.rel+sD tw x.args
def aS.wt(x:aS):Nat:=tw x.pat.rel+sD tw x.pat.args+tw x.left+tw x.right
def Action.wt(x:Action):Nat:=tw x.pat.rel+sD tw x.pat.args
def aN.wt(x:aN):Nat:=tw x.name+sD aS.wt x.conds+sD Action.wt x.dD
open Go.RowKit Go.Proofs Go.Shelf Tryz
theorem Rd.wv{w:World}{v:Value}{s:Bytes}{bs:aj}(h:Rd w v (.str s) bs):∃y:ByteArray,v=.string y/\y.data.toList=s/\y.size<=maxLen/\bs=[]:=by
 cases h with
 |str y hy=>exact⟨y,rfl,rfl,hy,rfl⟩
theorem oI.strs{w:World}{xs:aI}:∀ {cs:cG} {bs:aj},oI w cs (xs.map D.str) bs->∃ys:List ByteArray,cs=ys.map Value.string/\ys.map (·.data.toList)=xs:=by
 induction xs with
 |nil=>intro cs bs h;cases h;exact⟨[],rfl,rfl⟩
 |cons x xs ih=>
  intro cs bs h;cases h with
  |cons v vs d ds b1 b2 h1 h2 h3=>
   obtain⟨y,e1,e2,_,_⟩:=h2.wv;obtain⟨ys,e3,e4⟩:=ih h3;exact⟨y::ys,by simp[e1,e3],by simp[e2,e4]⟩
theorem Sp(xs:aI):(xs.map tx).flatten=xs.map D.str:=by
 induction xs with
 |nil=>rfl
 |cons x xs ih=>simp[tx,ih]
theorem Calls.txt{P:Program}{f:FuncId}{args:Array Value}{w:World}{r:ByteArray}{Θ:Nat->Nat}(hr:r.size<=maxLen)
 (h:Calls P f args w fun e w'=>e=.returned (.string r)/\Below w.heap.size w w'):
 Calls P f args w (fun e w'=>∃v bs' ts us,e=.returned v/\Below w.heap.size w w'/\Bu w' v (.str r.data.toList) bs' ts us/\(∀b∈bs',b<w.heap.size->Θ b=0)/\(∀b∈bs',b∉ts)/\us.Nodup/\
  (∀b∈us,w.heap.size<=b/\Wr w' b)/\∀b∈ts,b∈us):=
 h.mono fun e w' ⟨h1,h2⟩=>⟨_,[],[],[],h1,h2,.v (.cell (.pure (.str r hr))),by simp,by simp,by simp,by simp,by simp⟩
open Go.RowKit Go.Proofs Go.Shelf Go.Sort Tryz
theorem oI.a5z{w:World}{xs:aI}:∀ {cs:cG} {bs:aj},oI w cs (xs.map D.str) bs->∀x∈xs,x.length<=maxLen:=by
 induction xs with
 |nil=>intro cs bs h x hx;cases hx
 |cons x xs ih=>
  intro cs bs h y hy;cases h with
  |cons v vs d ds b1 b2 h1 h2 h3=>
   obtain⟨s,_,e2,e3,_⟩:=h2.wv;rcases bV.1 hy with rfl|hy
   ·rw[<-e2];exact e3
   ·exact ih h3 y hy
theorem oI.YD{w:World}:∀ {xs:aI},(∀x∈xs,x.length<=maxLen)->oI w (xs.map encStr) (xs.map D.str) []
 | [],_=>.nil
 |x::xs,h=>by
  have h1:Rd w (.string ⟨x.toArray⟩) (.str x) []:=by
   have:=Rd.str (w:=w) ⟨x.toArray⟩ (by have:=h x (by simp);simpa[ByteArray.size]using this);simpa using this
  exact .cons _ _ _ _ [] [] rfl h1 (oI.YD fun y hy=>h y (by simp[hy]))
theorem UZ(xs:aI):(xs.map tx).flatten.all D.flat=true:=by
 rw[Sp];simp[D.flat]
def qR(xs:aI):aI:=xs.mergeSort fun x y=>decide (x<=y)
theorem Ca(xs:aI):(qR xs).Perm xs:=List.mergeSort_perm _ _
theorem QL{P:Program}{ρ:Ren}(L:Lays.n192 P ρ){e:TypeId}{xs:aI}(hn:xs.length<4611686018427387904):U2 P (ρ.f 192) e 1 (xs.map tx) ((qR xs).map tx):=by
 refine⟨⟨_,L.f192,rfl,rfl⟩,?_⟩;intro w v cs hsz hrl hown hrd;rw[Sp]at hrd;have hle:=hrd.a5z;obtain⟨ys,rfl,hys⟩:=hrd.strs;have hlen:(qR xs).length=xs.length:=(Ca xs).length_eq;have QA:∀r∈(qR xs).map tx,r.length=1:=by
  intro r hr;obtain⟨x,_,rfl⟩:=cJ.1 hr;rfl
 rcases hown.2 with⟨rfl,h0⟩|⟨g,cap,cur,rfl,hb,Sy,hnc,hcm,hcs,Um⟩
 ·have hx:xs=[]:=by simpa using h0
  subst hx;refine(Any.sort_Strings_none L none 0 w).mono ?_;rintro e' w' ⟨rfl,rfl⟩;exact⟨rfl,rfl,rfl,rfl,br _,fun _ _ _=>rfl,QA,[],⟨by simp[hlen],.inl ⟨rfl,by simp[hlen]⟩⟩,by simpa[qR]using oI.nil⟩
 ·rw[aq]at hnc Um⊢;rw[Nat.mul_one]at Um hcs;have hyl:ys.length=xs.length:=by rw[<-hys];simp
  have WA:∀j,j<xs.length->cur[j]?=some (encStr xs.toArray[j]!):=by
   intro j hj;have h1:(cur.toList.take xs.length)[j]?=cur[j]?:=by rw[xR hj];simp
   rw[<-h1,Um,cR];have hj':j<ys.length:=by omega
   rw[av hj'];have:xs[j]?=some ys[j].data.toList:=by rw[<-hys,cR,av hj'];rfl
   have hx:xs.toArray[j]! =ys[j].data.toList:=by
    rw[getElem!_pos _ _ (by simpa using hj)];rw[av hj]at this;simpa using this
   rw[hx];simp[encStr]
  have hH:Holds encStr w g 0 xs.toArray:=by
   intro j hj;have hj:j<xs.length:=by simpa using hj
   refine⟨?_,?_⟩
   ·rw[<-WA j hj];simp[World.cell?,Sy]
   ·simp[World.frozen?,Sy]
  have hblk:g<w.heap.size:=(bS.1 Sy).1;refine(Any.sort_Strings L g 0 cap xs w hH hblk hn).mono ?_;rintro e' w' ⟨rfl,n,os,rfl⟩;have hheap:(grow (putRow encStr (Sort.ahead w n) g 0 (qR xs).toArray) os).heap=(w.heap.modify g (onCells (putCells encStr 0 (qR xs).toArray)))++os:=rfl;have W9:∀b,b<w.heap.size->b≠g->(grow (putRow encStr (Sort.ahead w n) g 0 (qR xs).toArray) os).heap[b]?=w.heap[b]?:=by
   intro b hb hne;rw[hheap,fV (by simpa using hb),zN,bE (fun e=>hne e.symm)]
  have hrow:(grow (putRow encStr (Sort.ahead w n) g 0 (qR xs).toArray) os).heap[g]?=some (.cells (putCells encStr 0 (qR xs).toArray cur) e (0,0)):=by
   rw[hheap,fV (by simpa using hblk),zN,bO rfl,Sy];rfl
  refine⟨rfl,rfl,rfl,rfl,by show w.heap.size<=(grow (putRow encStr (Sort.ahead w n) g 0 (qR xs).toArray) os).heap.size;rw[hheap];simp,fun b hb hne=>W9 b hb fun e=>hne (by rw[e];rfl),QA,(qR xs).map encStr,⟨by simp,.inr ⟨g,cap,_,by simp[hlen],hb,hrow,by simpa[hlen]using hnc,hcm,by simp[putCells,hcs],?_⟩⟩,?_⟩
  ·apply qD;intro j;simp only[aq,Nat.mul_one];by_cases hj:j<(qR xs).length
   ·have hj2:j<cur.size:=by omega
    rw[xR hj,cR,av hj];simp[putCells,hj2,hj]
   ·rw[dU (by simp;omega),dU (by simp;omega)]
  ·rw[Sp];exact oI.YD fun x hx=>hle x ((Ca xs).mem_iff.1 hx)
open Go.RowKit Go.Proofs Go.Shelf Go.Lib Tryz
theorem a1k(n:Int)(h:qv .i64 n):(itoa n).length<=20:=by
 have h1: -9223372036854775808<=n:=h.1;have h2:n<=9223372036854775807:=h.2;have key:∀u:Nat,u<=9223372036854775808->nDigits u<=19:=by
  intro u hu;by_cases h0:u=0
  ·subst h0;rw[nDigits_small (by omega)];omega
  ·by_cases hk:nDigits u<=19
   ·exact hk
   ·exfalso;have a1o:∀(k v:Nat),v<10^k->1<=k->nDigits v<=k:=by
     intro k
     induction k with
     |zero=>intro v _ h;omega
     |succ k ih=>
      intro v hv _;by_cases h10:v<10
      ·rw[nDigits_small h10];omega
      ·rw[nDigits_big h10];have h3:v/10<10^k:=by rw[yg]at hv;omega
       have hk1:1<=k:=by
        cases k with
        |zero=>simp at hv;omega
        |succ k=>omega
       have:=ih (v/10) h3 hk1;omega
    have:=a1o 19 u (by omega) (by omega);omega
 unfold itoa;split
 ·rw[aR,decDigits_length];have:=key n.natAbs (by omega);omega
 ·rw[decDigits_length];have:=key n.toNat (by omega);omega
theorem UH(w:World)(k:Nat)(os:Array Obj):Below w.heap.size w (Sort.grow (w.drewN k) os):=
 ⟨rfl,rfl,rfl,by show w.heap.size<=(w.heap++os).size;simp,fun b hb=>by show(w.heap++os)[b]?=_;rw[fV hb]⟩
theorem Uu{P:Program}{ρ:Ren}(L:LaysM.n171 P ρ){g:Nat}(hg:P.globalNamed "internal/strconv.uint64pow10" =some g)(hx:(g,fun cs:cG=>cs=pow10Tab.map fun z=>Value.int .u64 z)∈Ah){n:Int}:
 Good P (ρ.f 171) [.int .i64 n] (.str (itoa n)):=by
 refine⟨⟨_,L.f171,rfl,rfl⟩,?_⟩;intro w Θ args bs hv ha _ _ _;obtain _|⟨v1,_,_,_,b1,_,h1,ha⟩:=ha;cases ha;cases h1 with
 |int _ _ hr=>
  have h0: -9223372036854775808<=n:=hr.1;have h1:n<=9223372036854775807:=hr.2;have hl:=a1k n hr;have ht:TabIs P w "internal/strconv.uint64pow10" .u64 pow10Tab:=by
   obtain⟨cs,h2,h3⟩:=hv.var hx hg;have h4:cs=(pow10Tab.map fun z=>Value.int .u64 z).toArray:=by rw[<-h3]
   rw[h4]at h2;exact h2
  have:=Calls.txt (Θ:=Θ) (r:=⟨(itoa n).toArray⟩) (by show(itoa n).toArray.size<=maxLen;rw[ye];unfold maxLen;omega)
   ((Any.strconv_Itoa L n h0 h1 w ht).mono fun e w' ⟨k1,k,os,k2⟩=>⟨k1,by subst k2;exact UH w k os⟩)
  simpa using this
theorem UG(w:World)(t5:TypeId)(t:ByteArray):Below w.heap.size w (Lib.bytesWorld w t5 t):=Lib.bytesWorld_below _ _ _
def TH(s:Bytes):Option (Int×Bool):=if s.length<=18 then(match Lib.atoi s with|some n=>some (n,false)|none=>some (0,true))else none
theorem Ut{P:Program}{ρ:Ren}(L:LaysC.n172 P ρ){g:Nat}(hg:P.globalNamed "strconv.ErrSyntax" =some g)(hx:(g,fun cs:cG=>∃tp p,cs=[Value.iface tp p])∈Ah){s:Bytes}{r:Int×Bool}(h:TH s=some r):
 Good P (ρ.f 172) [.str s] (.iz [.int .i64 r.1,.ifc r.2]):=by
 refine⟨⟨_,L.f172,rfl,rfl⟩,?_⟩;intro w Θ args bs hv ha _ _ _;obtain _|⟨v1,_,_,_,b1,_,h1,ha⟩:=ha;cases ha;obtain⟨y,rfl,rfl,_,_⟩:=h1.wv;unfold TH at h;split at h
 ·rename_i hl;have hl':y.size<=18:=by simpa using hl
  split at h
  ·rename_i n hn;cases h;have hb:=Lib.atoi_bound hn hl;refine(Any.strconv_Atoi L.toM.ton172 y n hl' hn w).mono ?_;rintro e w' ⟨rfl,t,rfl⟩;exact⟨_,[],[],[],rfl,UG _ _ _,.iz [.int .i64 n,.nilIface] [.int .i64 n,.ifc false] [] [] [] (.cons _ _ _ _ [] [] [] [] [] [] (.cell (.pure (.int _ _ (qv.i64.2 (by omega))))) (.cons _ _ _ _ [] [] [] [] [] [] (.cell (.pure .ZG)) .nil)),by simp,by simp,by simp,by simp,by simp⟩
  ·rename_i hn;cases h;obtain⟨cs,h2,tp,p,h3⟩:=hv.var hx hg;have h4:cs= #[.iface tp p]:=by rw[<-tv,h3]
   rw[h4]at h2;refine(Any.strconv_Atoi_err_var L y hl' hn tp p w h2).mono ?_;rintro e w' ⟨N,rfl,_,_,hbl⟩;exact⟨_,[],[],[],rfl,hbl,.iz [.int .i64 0,.iface _ _] [.int .i64 0,.ifc true] [] [] [] (.cons _ _ _ _ [] [] [] [] [] [] (.cell (.pure (.int _ _ (qv.zero _)))) (.cons _ _ _ _ [] [] [] [] [] [] (.cell (.pure (.ZH _ _))) .nil)),by simp,by simp,by simp,by simp,by simp⟩
 ·cases h
theorem Xb:∀(a b:Bytes), -1<=Lib.compareBytes a b/\Lib.compareBytes a b<=1
 | [],[]=>by simp[Lib.compareBytes]
 | [],_::_=>by simp[Lib.compareBytes]
 |_::_,[]=>by simp[Lib.compareBytes]
 |a::xs,b::ys=>by
  simp only[Lib.compareBytes];split
  ·omega
  ·split
   ·omega
   ·exact Xb xs ys
theorem QK{P:Program}{ρ:Ren}(L:Lays.n106 P ρ){a b:Bytes}:Good P (ρ.f 106) [.str a,.str b] (.int .i64 (Lib.compareBytes a b)):=by
 refine⟨⟨_,L.f106,rfl,rfl⟩,?_⟩;intro w Θ args bs hv ha _ _ _;obtain _|⟨v1,_,_,_,b1,_,h1,ha⟩:=ha;obtain _|⟨v2,_,_,_,b2,_,h2,ha⟩:=ha;cases ha;obtain⟨y,rfl,rfl,_,_⟩:=h1.wv;obtain⟨z,rfl,rfl,_,_⟩:=h2.wv;have hc:=Xb y.data.toList z.data.toList;refine(Any.strings_Compare L y z w).mono ?_;rintro e w' ⟨rfl,rfl⟩;exact⟨_,[],[],[],rfl,Below.refl _ _,.v (.cell (.pure (.int _ _ (qv.i64.2 (by omega))))),by simp,by simp,by simp,by simp,by simp⟩
def Uw:Ren:=⟨fun|192=>212|190=>227|125=>237|258=>236|128=>253|129=>254|302=>244|303=>245|304=>246|305=>247|306=>248|307=>249|308=>250|309=>251|310=>252|333=>266|329=>267|330=>268|334=>269|335=>270|336=>271|344=>280|n=>n,fun|31=>41|0=>0|9=>9|3=>3|46=>183|51=>221|53=>223|4=>4|183=>214|182=>213|131=>187|5=>5|218=>236|222=>240|228=>255|229=>141|n=>n,fun|n=>n⟩
theorem a5L:Lays.n192 prog Uw:=by constructor<;>(intros;kernel_rfl)
theorem J6{e:TypeId}{xs:aI}(hn:xs.length<4611686018427387904):U2 prog 212 e 1 (xs.map tx) ((qR xs).map tx):=QL a5L hn
def OK:Ren:=⟨fun|171=>225|243=>235|246=>243|283=>262|284=>263|285=>264|286=>265|129=>254|317=>276|318=>277|319=>278|320=>279|337=>283|338=>284|n=>n,fun|3=>3|9=>9|2=>2|4=>4|171=>232|0=>0|53=>223|37=>22|5=>5|173=>234|212=>252|51=>221|20=>20|213=>253|46=>183|232=>262|233=>263|n=>n,fun|17=>3|18=>4|19=>5|n=>n⟩
theorem a5J:Lays.n171 prog OK:=by constructor<;>(intros;kernel_rfl)
theorem a1r:LaysM.n171 prog OK:=by constructor<;>first|exact a5J| (intros;kernel_rfl)
def CN(aD:Int):Option Bytes:=(fun n:Int=>some (Lib.itoa n)) aD
theorem Jb{aD:Int}{r:Bytes}(h:CN aD=some r):Good prog 225 [.int .i64 aD] (.str r):=by cases h;exact Uu a1r (g:=3) (by kernel_rfl) (aE (i:=0) (by kernel_rfl))
def I6:Ren:=⟨fun|172=>229|244=>238|245=>239|247=>255|279=>256|280=>257|281=>258|282=>259|287=>272|316=>273|171=>225|205=>274|321=>281|322=>282|243=>235|246=>243|283=>262|284=>263|285=>264|286=>265|129=>254|317=>276|318=>277|319=>278|320=>279|337=>283|338=>284|n=>n,fun|9=>9|3=>3|75=>198|76=>199|4=>4|5=>5|167=>224|37=>22|0=>0|85=>225|2=>2|168=>227|53=>223|175=>242|46=>183|210=>246|127=>258|145=>261|143=>259|21=>21|171=>232|173=>234|212=>252|51=>221|20=>20|213=>253|232=>262|233=>263|80=>264|n=>n,fun|15=>1|16=>2|17=>3|18=>4|19=>5|n=>n⟩
theorem a5K:Lays.n172 prog I6:=by constructor<;>(intros;kernel_rfl)
theorem a1s:LaysM.n172 prog I6:=by constructor<;>first|exact a5K| (intros;kernel_rfl)
theorem a1q:LaysC.n172 prog I6:=by constructor<;>first|exact a1s| (intros;kernel_rfl)
def CM(aD:Bytes):Option (Int×Bool):=TH aD
theorem Ja{aD:Bytes}{r:Int×Bool}(h:CM aD=some r):Good prog 229 [.str aD] (.iz [.int .i64 r.1,.ifc r.2]):=Ut a1q (g:=1) (by kernel_rfl) (aE (i:=1) (by kernel_rfl)) h
def Uv:Ren:=⟨fun|106=>172|213=>213|265=>228|n=>n,fun|9=>9|3=>3|n=>n,fun|n=>n⟩
theorem a5I:Lays.n106 prog Uv:=by constructor<;>(intros;kernel_rfl)
def tD(aD:Bytes)(aa:Bytes):Option Int:=(fun a b:Bytes=>some (Lib.compareBytes a b)) aD aa
theorem uy{aD:Bytes}{aa:Bytes}{r:Int}(h:tD aD aa=some r):Good prog 172 [.str aD,.str aa] (.int .i64 r):=by cases h;exact QK a5I
set_option maxRecDepth 100000
abbrev aB:=D.int .i64
abbrev af:=Ob.row .uq
abbrev bu:=Ob.box
abbrev aZ:=D.str
abbrev bX:=D.sl
abbrev b9:=D.acc
abbrev bp:=D.ptr
abbrev bQ:=D.bool
abbrev cW:=D.fr
abbrev bw:=D.agg
abbrev iy:List (List (Option (Nat×Nat))):=[[none,none,none],[none]]
abbrev jL:List (List (Option (Nat×Nat))):=[[none,none,none]]
abbrev V6:List (List (Option (Nat×Nat))):=[[none,none,none],[some (9,1)]]
abbrev OM:List (List (Option (Nat×Nat))):=[[none,none,none],[none,some (9,1)]]
abbrev a2J:List (List (Option (Nat×Nat))):=[[none,none,none],[none,none,some (9,1),none,none]]
abbrev ON:List (List (Option (Nat×Nat))):=[[none,none,none],[some (3,1)]]
abbrev bZ:List (List (Option (Nat×Nat))):=[[none]]
abbrev CU:List (List (Option (Nat×Nat))):=[[some (9,1)]]
abbrev OO:List (List (Option (Nat×Nat))):=[[none],[none]]
abbrev a2K:List (List (Option (Nat×Nat))):=[[none,none,some (71,5),some (154,3)],[none]]
abbrev Kq:List (List (Option (Nat×Nat))):=[[none,none,none],[none,none,some (71,5),some (154,3)]]
abbrev Wb:List (List (Option (Nat×Nat))):=[[none,none,none],[some (63,4)]]
abbrev Qb:List (List (Option (Nat×Nat))):=[[none,none,some (9,1),none,none]]
abbrev Kr:List (List (Option (Nat×Nat))):=[[none,some (9,1)]]
abbrev Wd:List (List (Option (Nat×Nat))):=[[none,none,some (71,5),some (154,3)]]
abbrev FL:List (List (Option (Nat×Nat))):=[[some (113,2)]]
abbrev sJ:List (List (Option (Nat×Nat))):=[[some (63,4),some (3,1),some (83,3),some (74,8),some (43,2),none],[none]]
abbrev TP:List (List (Option (Nat×Nat))):=[[some (63,4),some (3,1),some (83,3),some (74,8),some (43,2),none],[none,some (9,1)]]
abbrev a2I:List (List (Option (Nat×Nat))):=[[some (63,4),some (3,1),some (83,3),some (74,8),some (43,2),none],[none],[none,none,none,none,none]]
abbrev I9:List (List (Option (Nat×Nat))):=[[some (43,2)]]
abbrev Nn:List (List (Option (Nat×Nat))):=[[none,none,none],[some (43,2)]]
abbrev Qc:List (List (Option (Nat×Nat))):=[[some (113,2)],[none]]
abbrev zn:List (List (Option (Nat×Nat))):=[[some (63,4),some (3,1),some (83,3),some (74,8),some (43,2),none]]
variable{Z:wW}{N:Nat->St->Prop}
def qf(aD:bM)(k1:Int->Option ck):bM->Nat->Int->Option ck
 | [],i1,oL=>(k1 oL)
 |bg::cj,i1,oL=>(bif decide (((i1:Int):Int)<4000)then(qf aD k1 cj (i1+1) (Ji .i64 (IntKind.i64.wrap ((IntKind.i64.wrap ((IntKind.i64.wrap (oL*167))+(IntKind.i64.wrap bg)))+29)) 1073741823))else(k1 oL))
def zA(aD:bM):Option ck:=(bif decide (aD.length<=maxLen)then(qf aD (fun(a3k:Int)=>(some (⟨aD,0,a3k⟩:ck))) aD 0 (IntKind.i64.wrap (851207+(IntKind.i64.wrap (3*((aD.map yx).length:Int))))))else none)
def Oi(aD:bM)(oL:Int)(dL:Int):St:=⟨[(0,bX (aD.map yx)),(3,aB oL),(4,aB dL)],[]⟩
theorem NQ(hZ:Z.nt=33){aD:bM}{r:ck}{k1:Int->Option ck}(eC:∀(a3k:Int),k1 a3k=some r->Ax Z N f35 (.n (ck.c r)) [1,1,1] ⟨[(0,bX (aD.map yx)),(3,aB a3k)],[]⟩)(hm1:aD.length<=maxLen):∀(rest:bM) (i1:Nat) (oL:Int),aD.drop i1=rest->qf aD k1 rest i1 oL=some r->Ar Z N f35 (.n (ck.c r)) [1,1,0,1,0] (rest.length+1) (Oi aD oL (i1:Int)):=by
 intro rest
 induction rest with
 |nil=>
  intro i1 oL bB h;rw[qf]at h;refine aV fun N1 cq cS=>?_
  exact(((((aY.ge yx bB).ge yx bB).ge yx bB).F 1).a [.hl 0 [0,3] []]).ex hZ cq (eC oL h)
 |cons bg cj ih1=>
  intro i1 oL bB h;rw[qf]at h;refine aV fun N1 cq cS=>?_
  have lC:=(((aY.lt yx bB).lt yx bB).lt yx bB)
  obtain⟨h13,h⟩|⟨h13,h⟩:=aK h
  ·exact(((lC.b h13).l (bK yx 1 (dc bB) rfl)).a [.cn [0,3,4] []]).ct hZ cS (iS bB hm1) (ih1 (i1+1) (Ji .i64 (IntKind.i64.wrap ((IntKind.i64.wrap ((IntKind.i64.wrap (oL*167))+(IntKind.i64.wrap bg)))+29)) 1073741823) (dn bB) h)
  ·exact((lC.b h13).a [.hl 0 [0,3] []]).ex hZ cq (eC oL h)
theorem Lt{aD:bM}{r:ck}(h:zA aD=some r):LF prog 35 [bX (aD.map yx)] (ck.c r):=by
 refine gdN func35 33 fun hr Z hZ=>?_
 rw[zA]at h;obtain⟨h14,h⟩:=bf h;refine(aY.a [.cn [0,3,4] []]).lp hZ (NQ hZ (fun a3k h=>?_) (bh h14) aD 0 (IntKind.i64.wrap (851207+(IntKind.i64.wrap (3*((aD.map yx).length:Int))))) rfl h);cases h;exact aY.ret hZ
def rF(aD:ck):Option (ck×Int):=(bif decide ((aD.i:Int)<((aD.b.map yx).length:Int))then((gA aD.b aD.i).bind fun x2=>(some ((⟨aD.b,IntKind.i64.wrap (aD.i+1),IntKind.i64.wrap ((IntKind.i64.wrap (aD.h*6364136223846793005))+1442695040888963407)⟩:ck),Ji .i64 (IntKind.i64.wrap ((Ji .i64 (XY .i64 (VN .i64 (IntKind.i64.wrap ((IntKind.i64.wrap (aD.h*6364136223846793005))+1442695040888963407)) 35) (VN .i64 (IntKind.i64.wrap ((IntKind.i64.wrap (aD.h*6364136223846793005))+1442695040888963407)) 45)) 255)+(IntKind.i64.wrap x2))) 255)))else(some ((⟨aD.b,aD.i,IntKind.i64.wrap ((IntKind.i64.wrap (aD.h*6364136223846793005))+1442695040888963407)⟩:ck),Ji .i64 (XY .i64 (VN .i64 (IntKind.i64.wrap ((IntKind.i64.wrap (aD.h*6364136223846793005))+1442695040888963407)) 35) (VN .i64 (IntKind.i64.wrap ((IntKind.i64.wrap (aD.h*6364136223846793005))+1442695040888963407)) 45)) 255)))
theorem um{aD:ck}{r:ck×Int}(h:rF aD=some r):j0 prog 134 (ck.c aD) (ck.c r.1) [] (aB r.2):=by
 refine L4 func134 iy 58 [bX (aD.b.map yx),aB aD.i,aB aD.h] [] [] fun hr jC Z hZ=>?_
 rw[rF]at h;obtain⟨h1,h⟩|⟨h1,h⟩:=aK h
 ·obtain⟨x2,h3,h⟩:=aH h;cases h;exact((((aY.a [.n 10,.n 9]).b h1).a [.n 12]).l (dW yx 1 h3 rfl)).ret hZ
 ·cases h;exact((aY.a [.n 10,.n 9]).b h1).ret hZ
def cg(aD:ck)(aa:Int):Option (ck×Int):=(bif decide ((aa:Int)<=0)then(some (aD,0))else(bif decide ((aa:Int)<=256)then((rF aD).bind fun y3=>(bif decide (0<=(y3.2:Int))&&decide (0<(aa:Int))then(some (y3.1,(y3.2:Int)%aa))else none))else((rF aD).bind fun y6=>((rF y6.1).bind fun y8=>((rF y8.1).bind fun GZ=>(bif decide (0<=(IntKind.i64.wrap ((IntKind.i64.wrap ((IntKind.i64.wrap (y6.2*65536))+(IntKind.i64.wrap (y8.2*256))))+GZ.2):Int))&&decide (0<(aa:Int))then(some (GZ.1,(IntKind.i64.wrap ((IntKind.i64.wrap ((IntKind.i64.wrap (y6.2*65536))+(IntKind.i64.wrap (y8.2*256))))+GZ.2):Int)%aa))else none))))))
theorem cQ{aD:ck}{aa:Int}{r:ck×Int}(h:cg aD aa=some r):j0 prog 76 (ck.c aD) (ck.c r.1) [aB aa] (aB r.2):=by
 refine L4 func76 iy 31 [bX (aD.b.map yx),aB aD.i,aB aD.h] [aB aa] [] fun hr jC Z hZ=>?_
 rw[cg]at h;obtain⟨h1,h⟩|⟨h1,h⟩:=aK h
 ·cases h;exact(aY.b h1).ret hZ
 ·obtain⟨h2,h⟩|⟨h2,h⟩:=aK h
  ·obtain⟨y3,h4,h⟩:=aH h;obtain⟨h5,h⟩:=bf h;cases h;exact((((aY.b h1).b h2).hp jL (um h4)).w (TW .i64 h5)).ret hZ
  ·obtain⟨y6,h7,y8,h9,GZ,h11,h⟩:=gX h;obtain⟨h12,h⟩:=bf h;cases h;exact((((((aY.b h1).b h2).hp jL (um h7)).hp jL (um h9)).hp jL (um h11)).w (TW .i64 h12)).ret hZ
def eb(aD:ck)(aa:Int):Option (ck×Bool):=((cg aD aa).bind fun y1=>(some (y1.1,(y1.2:Int)==0)))
theorem eT{aD:ck}{aa:Int}{r:ck×Bool}(h:eb aD aa=some r):j0 prog 72 (ck.c aD) (ck.c r.1) [aB aa] (bQ r.2):=by
 refine L4 func72 iy 9 [bX (aD.b.map yx),aB aD.i,aB aD.h] [aB aa] [] fun hr jC Z hZ=>?_
 rw[eb]at h;obtain⟨y1,h2,h⟩:=aH h;cases h;exact(aY.hp iy (cQ h2)).ret hZ
def pP(aD:ck):Option (ck×(Bytes×Int)):=((cg aD 6).bind fun y1=>((gA ([[111,110],[111,110],[97,116],[112],[113],[122]]:aI) y1.2).bind fun x3=>((gA ([2,2,2,1,1,0]:bM) y1.2).bind fun x5=>(some (y1.1,(x3,x5))))))
theorem D4{aD:ck}{r:ck×(Bytes×Int)}(h:pP aD=some r):j0 prog 180 (ck.c aD) (ck.c r.1) [] (D.iz [aZ r.2.1,aB r.2.2]):=by
 refine L4 func180 [[none,none,none],[none],[none]] 15 [bX (aD.b.map yx),aB aD.i,aB aD.h] [] [] fun hr jC Z hZ=>?_
 rw[pP]at h;obtain⟨y1,h2,x3,h4,x5,h6,h⟩:=gX h;cases h;exact(((((aY.hp iy (cQ h2)).a [.n 9,.vw 0]).l (dW tx 1 h4 rfl)).a [.vw 0]).l (dW jN 1 h6 rfl)).ret hZ
def qy(aD:ck)(aa:aI):Option (ck×Bytes):=((cg aD ((aa.map tx).length:Int)).bind fun y1=>((gA aa y1.2).bind fun x3=>(some (y1.1,x3))))
theorem sw{aD:ck}{aa:aI}{r:ck×Bytes}(h:qy aD aa=some r):j0 prog 140 (ck.c aD) (ck.c r.1) [cW 9 1 (aa.map tx)] (aZ r.2):=by
 refine L4 func140 iy 12 [bX (aD.b.map yx),aB aD.i,aB aD.h] [b9 1] [af 9 1 (aa.map tx)] fun hr jC Z hZ=>?_
 rw[qy]at h;obtain⟨y1,h2,x3,h4,h⟩:=bR h;cases h;exact(((aY.hp iy (cQ h2)).i (fI tx 1 h4)).o 1 1 .uq (cL tx (dw h4))).ret hZ
def jA(aD:ck):Option (ck×Bytes):=((qy aD ([[97],[98],[99],[49],[50]]:aI)).bind fun y1=>(some (y1.1,y1.2)))
theorem yA{aD:ck}{r:ck×Bytes}(h:jA aD=some r):j0 prog 181 (ck.c aD) (ck.c r.1) [] (aZ r.2):=by
 refine L4 func181 iy 6 [bX (aD.b.map yx),aB aD.i,aB aD.h] [] [] fun hr jC Z hZ=>?_
 rw[jA]at h;obtain⟨y1,h2,h⟩:=aH h;cases h;exact(aY.hp V6 (sw h2)).ret hZ
def rH(aD:ck):Option (ck×Bytes):=((eb aD 4).bind fun y1=>(bif y1.2 then((jA y1.1).bind fun y4=>(some (y4.1,y4.2)))else((qy y1.1 ([[63,120],[63,121],[63,122]]:aI)).bind fun y6=>(some (y6.1,y6.2)))))
theorem yD{aD:ck}{r:ck×Bytes}(h:rH aD=some r):j0 prog 223 (ck.c aD) (ck.c r.1) [] (aZ r.2):=by
 refine L4 func223 iy 10 [bX (aD.b.map yx),aB aD.i,aB aD.h] [] [] fun hr jC Z hZ=>?_
 rw[rH]at h;obtain⟨y1,h2,h⟩:=aH h;obtain⟨h3,h⟩|⟨h3,h⟩:=aK h
 ·obtain⟨y4,h5,h⟩:=aH h;cases h;exact(((aY.hp iy (eT h2)).b h3).hp jL (yA h5)).ret hZ
 ·obtain⟨y6,h7,h⟩:=aH h;cases h;exact(((aY.hp iy (eT h2)).b h3).hp V6 (sw h7)).ret hZ
def mr(y1:ck×(Bytes×Int))(k1:bM->Int->Int->aI->Option (ck×aC)):Nat->Int->bM->Int->Int->aI->Option (ck×aC)
 |0,_,_,_,_,_=>none
 |n1+1,dX,fL,eL,eM,dh=>(bif decide ((dX:Int)<y1.2.2)then((rH (⟨fL,eL,eM⟩:ck)).bind fun B5=>(bif room ((dh.map tx).length+([[aZ B5.2]]).length) 16 then(mr y1 k1 n1 (IntKind.i64.wrap (dX+1)) B5.1.b B5.1.i B5.1.h (dh++([B5.2])))else none))else(k1 fL eL eM dh))
def jy(aD:ck):Option (ck×aC):=((pP aD).bind fun y1=>(mr y1 (fun(nD:bM) (nE:Int) (nF:Int) (eO:aI)=>(some ((⟨nD,nE,nF⟩:ck),(⟨y1.2.1,eO⟩:aC)))) fuel 0 y1.1.b y1.1.i y1.1.h ([]:aI)))
def E7(jC:Value)(y1:ck×(Bytes×Int))(dX:Int)(eL:Int)(eM:Int)(W1:List aT)(W4:List aT):St:=⟨[(0,bp 0 0),(2,bp 1 0),(4,aB y1.2.2),(5,bp 2 0),(6,aB dX)],[Ob.CW [bX W1,aB eL,aB eM] jC,bu [aZ ([]),D.nil],bu [aZ y1.2.1,b9 3],af 9 1 W4]⟩
theorem Lw(hZ:Z.nt=27){jC:Value}{y1:ck×(Bytes×Int)}{r:ck×aC}{k1:bM->Int->Int->aI->Option (ck×aC)}(eC:∀(nD:bM) (nE:Int) (nF:Int) (eO:aI),k1 nD nE nF eO=some r->Ax Z N f201 (.p OM jC (ck.c r.1) (bw [aZ r.2.rel,cW 9 1 (r.2.args.map tx)])) [1,1,1,1] ⟨[(2,bp 1 0),(5,bp 2 0)],[Ob.CW [bX (nD.map yx),aB nE,aB nF] jC,bu [aZ ([]),D.nil],bu [aZ y1.2.1,b9 3],af 9 1 (eO.map tx)]⟩):∀(n1:Nat) (dX:Int) (fL:bM) (eL:Int) (eM:Int) (dh:aI),mr y1 k1 n1 dX fL eL eM dh=some r->Ar Z N f201 (.p OM jC (ck.c r.1) (bw [aZ r.2.rel,cW 9 1 (r.2.args.map tx)])) [1,1,1,0,1,0] n1 (E7 jC y1 dX eL eM (fL.map yx) (dh.map tx)):=by
 intro n
 induction n with
 |zero=>intro dX fL eL eM dh h;simp[mr]at h
 |succ n1 ih1=>
  intro dX fL eL eM dh h;rw[mr]at h;refine aV fun N1 cq cS=>?_
  obtain⟨h27,h⟩|⟨h27,h⟩:=aK h
  ·obtain⟨B5,h31,h⟩:=aH h;obtain⟨h32,h⟩:=bf h;exact(((((aY.b h27).a [.n2 [0,1,2,3,4,5,6,7] [0,1,2,3,4,5,6,7] 3 5 [0,1] [0],.gp jL (ck.c B5.1) (aZ B5.2)]).w (show j0 prog 223 (ck.c (⟨fL,eL,eM⟩:ck)) (ck.c B5.1) [] (aZ B5.2)from by simpa only[bI,bA,cF,cD,cI]using yD h31)).w (cA h32)).a [.cn [0,2,4,5,6] [0,1,2,5]]).cs hZ cS (E7 jC y1 (IntKind.i64.wrap (dX+1)) B5.1.i B5.1.h (B5.1.b.map yx) ((dh.map tx)++([[aZ B5.2]]))) (by first| (simp only[mA]<;>rfl)| (simp only[mA,aC.c,aW.c,aS.c,Action.c,aN.c,aQ.c,ai.c,ah.c,Node.c,aF.c,di.c]<;>rfl)) (ih1 (IntKind.i64.wrap (dX+1)) B5.1.b B5.1.i B5.1.h (dh++([B5.2])) h)
  ·exact((aY.b h27).a [.hl 0 [2,5] [0,1,2,3]]).ex hZ cq (eC fL eL eM dh h)
theorem oz{aD:ck}{r:ck×aC}(h:jy aD=some r):j0 prog 201 (ck.c aD) (ck.c r.1) [] (bw [aZ r.2.rel,cW 9 1 (r.2.args.map tx)]):=by
 refine L4 func201 OM 27 [bX (aD.b.map yx),aB aD.i,aB aD.h] [] [] fun hr jC Z hZ=>?_
 rw[jy]at h;obtain⟨y1,h2,h⟩:=aH h;refine((aY.hp jL (D4 h2)).a [.pb 2 1 9 1,.cn [0,2,4,5,6] [0,1,2,3]]).lp hZ (Lw hZ (fun nD nE nF eO h=>?_) fuel 0 y1.1.b y1.1.i y1.1.h ([]:aI) h);cases h;exact aY.ret hZ
def iv(aD:ck)(aa:bM):Option (ck×Int):=((cg aD ((aa.map jN).length:Int)).bind fun y1=>((gA aa y1.2).bind fun x3=>(some (y1.1,x3))))
theorem lB{aD:ck}{aa:bM}{r:ck×Int}(h:iv aD aa=some r):j0 prog 78 (ck.c aD) (ck.c r.1) [cW 3 1 (aa.map jN)] (aB r.2):=by
 refine L4 func78 iy 12 [bX (aD.b.map yx),aB aD.i,aB aD.h] [b9 1] [af 3 1 (aa.map jN)] fun hr jC Z hZ=>?_
 rw[iv]at h;obtain⟨y1,h2,x3,h4,h⟩:=bR h;cases h;exact(((aY.hp iy (cQ h2)).i (fI jN 1 h4)).o 1 1 .uq (cL jN (dw h4))).ret hZ
def xa(aD:ck)(aa:Bytes)(cv:Bytes):Option (ck×aS):=((iv aD ([3,4,4,5]:bM)).bind fun y1=>(some (y1.1,(⟨y1.2,(⟨[],[]⟩:aC),aa,cv⟩:aS))))
theorem KY{aD:ck}{aa:Bytes}{cv:Bytes}{r:ck×aS}(h:xa aD aa cv=some r):j0 prog 224 (ck.c aD) (ck.c r.1) [aZ aa,aZ cv] (bw [aB r.2.kind,aZ r.2.pat.rel,cW 9 1 (r.2.pat.args.map tx),aZ r.2.left,aZ r.2.right]):=by
 refine L4 func224 a2J 13 [bX (aD.b.map yx),aB aD.i,aB aD.h] [aZ aa,aZ cv] [] fun hr jC Z hZ=>?_
 rw[xa]at h;obtain⟨y1,h2,h⟩:=aH h;cases h;exact(aY.hp ON (lB h2)).ret hZ
def tV(aD:ck):Option (ck×aS):=((cg aD 5).bind fun y1=>(bif (y1.2:Int)==0 then((jy y1.1).bind fun y4=>(some (y4.1,(⟨1,y4.2,[],[]⟩:aS))))else(bif (y1.2:Int)==1 then((jy y1.1).bind fun y7=>(some (y7.1,(⟨1,y7.2,[],[]⟩:aS))))else(bif (y1.2:Int)==2 then((jy y1.1).bind fun GZ=>(some (GZ.1,(⟨2,GZ.2,[],[]⟩:aS))))else((rH y1.1).bind fun Ty=>((rH Ty.1).bind fun Ai=>((xa Ai.1 Ty.2 Ai.2).bind fun PR=>(some (PR.1,PR.2)))))))))
theorem CD{aD:ck}{r:ck×aS}(h:tV aD=some r):j0 prog 200 (ck.c aD) (ck.c r.1) [] (bw [aB r.2.kind,aZ r.2.pat.rel,cW 9 1 (r.2.pat.args.map tx),aZ r.2.left,aZ r.2.right]):=by
 refine L4 func200 a2J 24 [bX (aD.b.map yx),aB aD.i,aB aD.h] [] [] fun hr jC Z hZ=>?_
 rw[tV]at h;obtain⟨y1,h2,h⟩:=aH h;obtain⟨h3,h⟩|⟨h3,h⟩:=aK h
 ·obtain⟨y4,h5,h⟩:=aH h;cases h;exact(((aY.hp iy (cQ h2)).r 2 h3).hp jL (oz h5)).ret hZ
 ·have lC:=((aY.hp iy (cQ h2)).b h3)
  obtain⟨h6,h⟩|⟨h6,h⟩:=aK h
  ·obtain⟨y7,h8,h⟩:=aH h;cases h;exact((lC.b h6).hp jL (oz h8)).ret hZ
  ·obtain⟨h9,h⟩|⟨h9,h⟩:=aK h
   ·obtain⟨GZ,h11,h⟩:=aH h;cases h;exact(((lC.b h6).b h9).hp jL (oz h11)).ret hZ
   ·obtain⟨Ty,h13,Ai,h15,PR,h17,h⟩:=gX h;cases h;exact(((((lC.b h6).b h9).hp jL (yD h13)).hp jL (yD h15)).hp [[none,none,none],[none],[none]] (KY h17)).ret hZ
def mo(aD:Int)(aa:Int)(cv:Int):Option Bool:=(bif decide ((aD:Int)>=aa)then(some (decide ((aD:Int)<=cv)))else(some false))
theorem iG{aD:Int}{aa:Int}{cv:Int}{r:Bool}(h:mo aD aa cv=some r):Good prog 99 [aB aD,aB aa,aB cv] (bQ r):=by
 refine gd func99 bZ 15 fun hr Z hZ=>?_
 rw[mo]at h;obtain⟨h1,h⟩|⟨h1,h⟩:=aK h
 ·cases h;exact(aY.r 4 h1).ret hZ
 ·cases aM h;exact(aY.r 4 h1).ret hZ
def kH(aD:Bytes)(k1:Option Bool):Nat->Int->Option Bool
 |0,_=>none
 |n1+1,oL=>(bif decide ((oL:Int)<(aD.length:Int))then((gA aD oL).bind fun b29=>((mo (IntKind.i64.wrap b29.toNat) 97 122).bind fun IX=>(bif !(IX)then((mo (IntKind.i64.wrap b29.toNat) 48 57).bind fun Gf=>(bif !(Gf)then(some false)else(kH aD k1 n1 (IntKind.i64.wrap (oL+1)))))else(kH aD k1 n1 (IntKind.i64.wrap (oL+1))))))else(k1))
def gU(aD:Bytes):Option Bool:=(kH aD ((mo (aD.length:Int) 1 8).bind fun PS=>(some PS)) fuel 0)
def NH(aD:Bytes)(oL:Int):St:=⟨[(0,aZ aD),(3,aB oL)],[]⟩
theorem Lg(hZ:Z.nt=27){aD:Bytes}{r:Bool}{k1:Option Bool}(eC:k1=some r->Ax Z N f125 (.q bZ (bQ r)) [1,1] ⟨[(0,aZ aD)],[]⟩):∀(n1:Nat) (oL:Int),kH aD k1 n1 oL=some r->Ar Z N f125 (.q bZ (bQ r)) [1,0,1,0] n1 (NH aD oL):=by
 intro n
 induction n with
 |zero=>intro oL h;simp[kH]at h
 |succ n1 ih1=>
  intro oL h;rw[kH]at h;refine aV fun N1 cq cS=>?_
  obtain⟨h28,h⟩|⟨h28,h⟩:=aK h
  ·obtain⟨b29,h30,IX,h32,h⟩:=bR h;have jR:=(((aY.b h28).c h30).g (iG h32))
   obtain⟨h33,h⟩|⟨h33,h⟩:=aK h
   ·obtain⟨Gf,h35,h⟩:=aH h;have k6:=(((((jR.r 3 h33).c h30).r 2 h33).g (iG h35)).r 2 h33)
    obtain⟨h36,h⟩|⟨h36,h⟩:=aK h
    ·cases aM h;exact(k6.b h36).ret hZ
    ·exact((k6.b h36).a [.cn [0,3] []]).cf hZ cS (ih1 (IntKind.i64.wrap (oL+1)) h)
   ·exact(((jR.r 7 h33).F 1).a [.cn [0,3] []]).cf hZ cS (ih1 (IntKind.i64.wrap (oL+1)) h)
  ·exact((aY.b h28).a [.hl 0 [0] []]).ex hZ cq (eC h)
theorem ff{aD:Bytes}{r:Bool}(h:gU aD=some r):Good prog 125 [aZ aD] (bQ r):=by
 refine gd func125 bZ 27 fun hr Z hZ=>?_
 rw[gU]at h;refine(aY.a [.cn [0,3] []]).lp hZ (Lg hZ (fun h=>?_) fuel 0 h);obtain⟨PS,h38,h⟩:=aH h;cases aM h;exact(aY.g (iG h38)).ret hZ
def iq(aD:Bytes):Option Bool:=(bif decide (((aD.length:Int):Int)>1)then((gA aD 0).bind fun b2=>(bif (b2.toNat:Int)==63 then((yG aD.length (some (aB 1)) none).bind fun p=>(fun l5 u6=>((gU ((aD.take u6).drop l5)).bind fun y8=>(some y8))) p.1 p.2)else(some false)))else(some false))
theorem gM{aD:Bytes}{r:Bool}(h:iq aD=some r):Good prog 148 [aZ aD] (bQ r):=by
 refine gd func148 bZ 16 fun hr Z hZ=>?_
 rw[iq]at h;obtain⟨h1,h⟩|⟨h1,h⟩:=aK h
 ·obtain⟨b2,h3,h⟩:=aH h;have lC:=(((aY.r 2 h1).c h3).r 2 h1)
  obtain⟨h4,h⟩|⟨h4,h⟩:=aK h
  ·obtain⟨⟨l5,u6⟩,h7,h⟩:=aH h;obtain⟨y8,h9,h⟩:=aH h;cases aM h;exact((((((lC.r 2 h4).w h7).a [.cut l5 u6]).b h4).g (ff h9)).b h4).ret hZ
  ·cases aM h;exact(lC.r 4 h4).ret hZ
 ·cases aM h;exact((aY.r 4 h1).F 4).ret hZ
def fT(aD:aI)(aa:Bytes)(k1:Bool->aI->Option aI):aI->Nat->Bool->aI->Option aI
 | [],i1,dX,bY=>(k1 dX bY)
 |bg::cj,i1,dX,bY=>(bif !(dX)then(bif !(Op.bytesLess bg aa)then(bif !((bg:Bytes)==aa)then(bif room ((bY.map tx).length+([[aZ aa]]).length) 16 then(bif room (((bY.map tx)++([[aZ aa]])).length+([[aZ bg]]).length) 16 then(fT aD aa k1 cj (i1+1) true ((bY++([aa]))++([bg])))else none)else none)else(bif room ((bY.map tx).length+([[aZ bg]]).length) 16 then(fT aD aa k1 cj (i1+1) true (bY++([bg])))else none))else(bif room ((bY.map tx).length+([[aZ bg]]).length) 16 then(fT aD aa k1 cj (i1+1) dX (bY++([bg])))else none))else(bif room ((bY.map tx).length+([[aZ bg]]).length) 16 then(fT aD aa k1 cj (i1+1) dX (bY++([bg])))else none))
def nZ(aD:aI)(aa:Bytes):Option aI:=(fT aD aa (fun(wV:Bool) (cM:aI)=>(bif !(wV)then(bif room ((cM.map tx).length+([[aZ aa]]).length) 16 then(some (cM++([aa])))else none)else(some cM))) aD 0 false ([]:aI))
def vO(aD:aI)(aa:Bytes)(dX:Bool)(W1:List aT)(dL:Int):St:=⟨[(0,bX (aD.map tx)),(1,aZ aa),(5,b9 0),(6,bQ dX),(7,aB dL)],[af 9 1 W1]⟩
def AG(r:aI):Kd:=.q CU (cW 9 1 (r.map tx))
theorem NR(hZ:Z.nt=49){aD:aI}{aa:Bytes}{r:aI}{k1:Bool->aI->Option aI}(eC:∀(wV:Bool) (cM:aI),k1 wV cM=some r->Ax Z N f221 (AG r) [1,1,1,1] ⟨[(1,aZ aa),(5,b9 0),(6,bQ wV)],[af 9 1 (cM.map tx)]⟩)(hm1:aD.length<=maxLen):∀(rest:aI) (i1:Nat) (dX:Bool) (bY:aI),aD.drop i1=rest->fT aD aa k1 rest i1 dX bY=some r->Ar Z N f221 (AG r) [1,1,1,0,1,0] (rest.length+1) (vO aD aa dX (bY.map tx) (i1:Int)):=by
 intro rest
 induction rest with
 |nil=>
  intro i1 dX bY bB h;rw[fT]at h;refine aV fun N1 cq cS=>?_
  exact((aY.ge tx bB).a [.hl 0 [1,5,6] [0]]).ex hZ cq (eC dX bY h)
 |cons bg cj ih1=>
  intro i1 dX bY bB h;rw[fT]at h;refine aV fun N1 cq cS=>?_
  obtain⟨h58,h⟩|⟨h58,h⟩:=aK h
  ·have jR:=((((aY.lt tx bB).r 3 h58).l (bK tx 1 (dc bB) rfl)).r 4 h58)
   obtain⟨h59,h⟩|⟨h59,h⟩:=aK h
   ·have k6:=((jR.b h59).l (bK tx 1 (dc bB) rfl))
    obtain⟨h60,h⟩|⟨h60,h⟩:=aK h
    ·obtain⟨h61,h⟩:=bf h;obtain⟨h62,h⟩:=bf h;exact(((((k6.b h60).w (cA h61)).l (bK tx 1 (dc bB) rfl)).w (cA h62)).a [.cn [0,1,5,6,7] [4]]).cs hZ cS (vO aD aa true (((bY.map tx)++([[aZ aa]]))++([[aZ bg]])) (IntKind.i64.wrap ((i1:Int)+1))) (by first| (simp only[iS bB hm1,mA]<;>rfl)| (simp only[iS bB hm1,mA,aC.c,aW.c,aS.c,Action.c,aN.c,aQ.c,ai.c,ah.c,Node.c,aF.c,di.c]<;>rfl)) (ih1 (i1+1) true ((bY++([aa]))++([bg])) (dn bB) h)
    ·obtain⟨h63,h⟩:=bf h;exact((((k6.b h60).l (bK tx 1 (dc bB) rfl)).w (cA h63)).a [.cn [0,1,5,6,7] [2]]).cs hZ cS (vO aD aa true ((bY.map tx)++([[aZ bg]])) (IntKind.i64.wrap ((i1:Int)+1))) (by first| (simp only[iS bB hm1,mA]<;>rfl)| (simp only[iS bB hm1,mA,aC.c,aW.c,aS.c,Action.c,aN.c,aQ.c,ai.c,ah.c,Node.c,aF.c,di.c]<;>rfl)) (ih1 (i1+1) true (bY++([bg])) (dn bB) h)
   ·obtain⟨h64,h⟩:=bf h;exact((((jR.b h59).l (bK tx 1 (dc bB) rfl)).w (cA h64)).a [.cn [0,1,5,6,7] [2]]).cs hZ cS (vO aD aa dX ((bY.map tx)++([[aZ bg]])) (IntKind.i64.wrap ((i1:Int)+1))) (by first| (simp only[iS bB hm1,mA]<;>rfl)| (simp only[iS bB hm1,mA,aC.c,aW.c,aS.c,Action.c,aN.c,aQ.c,ai.c,ah.c,Node.c,aF.c,di.c]<;>rfl)) (ih1 (i1+1) dX (bY++([bg])) (dn bB) h)
  ·obtain⟨h65,h⟩:=bf h;exact((((((aY.lt tx bB).r 7 h58).F 1).l (bK tx 1 (dc bB) rfl)).w (cA h65)).a [.cn [0,1,5,6,7] [2]]).cs hZ cS (vO aD aa dX ((bY.map tx)++([[aZ bg]])) (IntKind.i64.wrap ((i1:Int)+1))) (by first| (simp only[iS bB hm1,mA]<;>rfl)| (simp only[iS bB hm1,mA,aC.c,aW.c,aS.c,Action.c,aN.c,aQ.c,ai.c,ah.c,Node.c,aF.c,di.c]<;>rfl)) (ih1 (i1+1) dX (bY++([bg])) (dn bB) h)
theorem nc{aD:aI}{aa:Bytes}{r:aI}(h:nZ aD aa=some r):Good prog 221 [bX (aD.map tx),aZ aa] (cW 9 1 (r.map tx)):=by
 refine gd func221 CU 49 fun hr Z hZ=>?_
 rw[nZ]at h;refine(aY.a [.cn [0,1,5,6,7] [0]]).lp hZ (NR hZ (fun wV cM h=>?_) (by have:=(gY.sl (hr _ (aE (i:=0) rfl))).1;simpa using this) aD 0 false ([]:aI) rfl h);obtain⟨h66,h⟩|⟨h66,h⟩:=aK h
 ·obtain⟨h67,h⟩:=bf h;cases h;exact((aY.b h66).w (cA h67)).rts hZ (cW 9 1 ((cM.map tx)++([[aZ aa]]))) (by first|rfl| (simp only[mA]<;>rfl))
 ·cases aM h;exact(aY.b h66).ret hZ
def mm(aD:aC)(k1:aI->Option aI):aI->Nat->aI->Option aI
 | [],i1,bn=>(k1 bn)
 |bg::cj,i1,bn=>((iq bg).bind fun PS=>(bif PS then((nZ bn bg).bind fun XD=>(mm aD k1 cj (i1+1) XD))else(mm aD k1 cj (i1+1) bn)))
def pO(aD:aC):Option aI:=(mm aD (fun(cM:aI)=>(some cM)) aD.args 0 ([]:aI))
def NP(aD:aC)(W0:List aT)(dL:Int):St:=⟨[(1,bp 0 0),(3,b9 1),(4,aB dL)],[bu (aC.c aD),af 9 1 W0]⟩
theorem Ls(hZ:Z.nt=27){aD:aC}{r:aI}{k1:aI->Option aI}(eC:∀(cM:aI),k1 cM=some r->Ax Z N f195 (AG r) [1,1,1] ⟨[(3,b9 0)],[af 9 1 (cM.map tx)]⟩)(hm1:aD.args.length<=maxLen):∀(rest:aI) (i1:Nat) (bn:aI),aD.args.drop i1=rest->mm aD k1 rest i1 bn=some r->Ar Z N f195 (AG r) [1,1,0,1,0] (rest.length+1) (NP aD (bn.map tx) (i1:Int)):=by
 intro rest
 induction rest with
 |nil=>
  intro i1 bn bB h;rw[mm]at h;refine aV fun N1 cq cS=>?_
  exact((aY.ge tx bB).a [.hl 0 [3] [1]]).ex hZ cq (eC bn h)
 |cons bg cj ih1=>
  intro i1 bn bB h;rw[mm]at h;refine aV fun N1 cq cS=>?_
  obtain⟨PS,h38,h⟩:=aH h;have fG:=(((aY.lt tx bB).l (bK tx 1 (dc bB) rfl)).g (gM h38))
  obtain⟨h39,h⟩|⟨h39,h⟩:=aK h
  ·obtain⟨XD,h41,h⟩:=aH h;exact((((fG.b h39).l (bK tx 1 (dc bB) rfl)).g (nc h41)).a [.cn [1,3,4] [0,2]]).ct hZ cS (iS bB hm1) (ih1 (i1+1) XD (dn bB) h)
  ·exact((fG.b h39).a [.cn [1,3,4] [0,1]]).ct hZ cS (iS bB hm1) (ih1 (i1+1) bn (dn bB) h)
theorem rY{aD:aC}{r:aI}(h:pO aD=some r):Good prog 195 [bw (aC.c aD)] (cW 9 1 (r.map tx)):=by
 refine gd func195 CU 27 fun hr Z hZ=>?_
 rw[pO]at h;refine(aY.a [.cn [1,3,4] [0,1]]).lp hZ (Ls hZ (fun cM h=>?_) (by have:=(gY.sl (gY.agg (hr _ (aE (i:=0) rfl)) (.sl (aD.args.map tx)) (by simp))).1;simpa using this) aD.args 0 ([]:aI) rfl h);cases aM h;exact aY.ret hZ
def kY(aD:aN)(aa:Int)(i1:Nat)(Mp:aI)(k2:aI->Option aI):aI->Nat->aI->Option aI
 | [],i2,fJ=>(k2 fJ)
 |jM::tL,i2,fJ=>((nZ fJ jM).bind fun a05=>(kY aD aa i1 Mp k2 tL (i2+1) a05))
def gr(aD:aN)(aa:Int)(k1:aI->Option aI):ay->Nat->aI->Option aI
 | [],i1,bn=>(k1 bn)
 |bg::cj,i1,bn=>(bif decide (((i1:Int):Int)<aa)then(bif (bg.kind:Int)==1 then((pO bg.pat).bind fun Mp=>(bif decide (Mp.length<=maxLen)then(kY aD aa i1 Mp (fun(tY:aI)=>(gr aD aa k1 cj (i1+1) tY)) Mp 0 bn)else none))else(gr aD aa k1 cj (i1+1) bn))else(k1 bn))
def mY(aD:aN)(aa:Int):Option aI:=(gr aD aa (fun(cM:aI)=>(some cM)) aD.conds 0 ([]:aI))
def JA(aD:aN)(aa:Int)(W0:List aT)(dL:Int):St:=⟨[(1,aB aa),(2,bp 0 0),(5,b9 1),(6,aB dL)],[bu (aN.c aD),af 9 1 W0]⟩
def JB(aD:aN)(aa:Int)(i1:Nat)(Mp:aI)(W0:List aT)(dL:Int):St:=⟨[(1,aB aa),(2,bp 0 0),(5,b9 1),(6,aB (i1:Int)),(7,b9 2),(8,aB dL)],[bu (aN.c aD),af 9 1 W0,af 9 1 (Mp.map tx)]⟩
theorem HS(hZ:Z.nt=49){aD:aN}{aa:Int}{i1:Nat}{Mp:aI}{r:aI}{k2:aI->Option aI}(zc:∀(tY:aI),k2 tY=some r->Ax Z N f188 (AG r) [1,1,0,1,0,0,1,1] ⟨[(1,aB aa),(2,bp 0 0),(5,b9 1),(6,aB (i1:Int))],[bu (aN.c aD),af 9 1 (tY.map tx)]⟩)(hm2:Mp.length<=maxLen):∀(rest:aI) (i2:Nat) (fJ:aI),Mp.drop i2=rest->kY aD aa i1 Mp k2 rest i2 fJ=some r->Ar Z N f188 (AG r) [1,1,0,1,0,0,1,0,0,1,0,1,1,0] (rest.length+1) (JB aD aa i1 Mp (fJ.map tx) (i2:Int)):=by
 intro rest
 induction rest with
 |nil=>
  intro i2 fJ hd2 h;rw[kY]at h;refine aV fun N2 uY qt=>?_
  exact((aY.ge tx hd2).a [.hl 3 [1,2,5,6] [0,1]]).ex hZ uY (zc fJ h)
 |cons jM tL ih2=>
  intro i2 fJ hd2 h;rw[kY]at h;refine aV fun N2 uY qt=>?_
  obtain⟨a05,h184,h⟩:=aH h;exact(((((aY.lt tx hd2).i (fH tx 1 (dc hd2))).o 1 1 .uq (cL tx (dc hd2))).g (nc h184)).a [.cn [1,2,5,6,7,8] [0,3,2]]).ct hZ qt (iS hd2 hm2) (ih2 (i2+1) a05 (dn hd2) h)
theorem HR(hZ:Z.nt=49){aD:aN}{aa:Int}{r:aI}{k1:aI->Option aI}(eC:∀(cM:aI),k1 cM=some r->Ax Z N f188 (AG r) [1,1,1] ⟨[(5,b9 0)],[af 9 1 (cM.map tx)]⟩)(hm1:aD.conds.length<=maxLen):∀(rest:ay) (i1:Nat) (bn:aI),aD.conds.drop i1=rest->gr aD aa k1 rest i1 bn=some r->Ar Z N f188 (AG r) [1,1,0,1,0] (rest.length+1) (JA aD aa (bn.map tx) (i1:Int)):=by
 intro rest
 induction rest with
 |nil=>
  intro i1 bn bB h;rw[gr]at h;refine aV fun N1 cq cS=>?_
  exact((((((aY.ge aS.c bB).ge aS.c bB).ge aS.c bB).ge aS.c bB).F 1).a [.hl 0 [5] [1]]).ex hZ cq (eC bn h)
 |cons bg cj ih1=>
  intro i1 bn bB h;rw[gr]at h;refine aV fun N1 cq cS=>?_
  have jR:=((((aY.lt aS.c bB).lt aS.c bB).lt aS.c bB).lt aS.c bB)
  obtain⟨h157,h⟩|⟨h157,h⟩:=aK h
  ·have k6:=((jR.b h157).l (bK aS.c 5 (dc bB) rfl))
   obtain⟨h158,h⟩|⟨h158,h⟩:=aK h
   ·obtain⟨Mp,h160,h⟩:=aH h;obtain⟨h185,h⟩:=bf h;refine((((k6.b h158).l (bK aS.c 5 (dc bB) rfl)).g (rY h160)).a [.cn [1,2,5,6,7,8] [0,1,2]]).lp hZ (HS hZ (fun tY h=>?_) (bh h185) Mp 0 bn rfl h);exact(aY.a [.cn [1,2,5,6] [0,1]]).ct hZ cS (iS bB hm1) (ih1 (i1+1) tY (dn bB) h)
   ·exact((k6.b h158).a [.cn [1,2,5,6] [0,1]]).ct hZ cS (iS bB hm1) (ih1 (i1+1) bn (dn bB) h)
  ·exact((jR.b h157).a [.hl 0 [5] [1]]).ex hZ cq (eC bn h)
theorem lI{aD:aN}{aa:Int}{r:aI}(h:mY aD aa=some r):Good prog 188 [bw (aN.c aD),aB aa] (cW 9 1 (r.map tx)):=by
 refine gd func188 CU 49 fun hr Z hZ=>?_
 rw[mY]at h;refine(aY.a [.cn [1,2,5,6] [0,1]]).lp hZ (HR hZ (fun cM h=>?_) (by have:=(gY.sl (gY.agg (hr _ (aE (i:=0) rfl)) (.sl (aD.conds.map aS.c)) (by simp))).1;simpa using this) aD.conds 0 ([]:aI) rfl h);cases aM h;exact aY.ret hZ
def kq(aD:aI)(aa:Bytes)(k1:Option Bool):aI->Nat->Option Bool
 | [],i1=>(k1)
 |bg::cj,i1=>(bif (bg:Bytes)==aa then(some true)else(kq aD aa k1 cj (i1+1)))
def iF(aD:aI)(aa:Bytes):Option Bool:=(kq aD aa (some false) aD 0)
def JQ(aD:aI)(aa:Bytes)(dL:Int):St:=⟨[(0,bX (aD.map tx)),(1,aZ aa),(5,aB dL)],[]⟩
theorem Hi(hZ:Z.nt=18){aD:aI}{aa:Bytes}{r:Bool}{k1:Option Bool}(eC:k1=some r->Ax Z N f191 (.q bZ (bQ r)) [1,1] ⟨[],[]⟩)(hm1:aD.length<=maxLen):∀(rest:aI) (i1:Nat),aD.drop i1=rest->kq aD aa k1 rest i1=some r->Ar Z N f191 (.q bZ (bQ r)) [1,0,1,0] (rest.length+1) (JQ aD aa (i1:Int)):=by
 intro rest
 induction rest with
 |nil=>
  intro i1 bB h;rw[kq]at h;refine aV fun N1 cq cS=>?_
  exact((aY.ge tx bB).a [.hl 0 [] []]).ex hZ cq (eC h)
 |cons bg cj ih1=>
  intro i1 bB h;rw[kq]at h;refine aV fun N1 cq cS=>?_
  have fG:=((aY.lt tx bB).l (bK tx 1 (dc bB) rfl))
  obtain⟨h13,h⟩|⟨h13,h⟩:=aK h
  ·cases aM h;exact(fG.b h13).ret hZ
  ·exact((fG.b h13).a [.cn [0,1,5] []]).ct hZ cS (iS bB hm1) (ih1 (i1+1) (dn bB) h)
theorem lJ{aD:aI}{aa:Bytes}{r:Bool}(h:iF aD aa=some r):Good prog 191 [bX (aD.map tx),aZ aa] (bQ r):=by
 refine gd func191 bZ 18 fun hr Z hZ=>?_
 rw[iF]at h;refine(aY.a [.cn [0,1,5] []]).lp hZ (Hi hZ (fun h=>?_) (by have:=(gY.sl (hr _ (aE (i:=0) rfl))).1;simpa using this) aD 0 rfl h);cases aM h;exact aY.ret hZ
def tS(aD:Bytes):Option Bool:=((gU aD).bind fun y1=>(bif y1 then((gA aD 0).bind fun b4=>((mo (IntKind.i64.wrap b4.toNat) 97 122).bind fun y6=>(some y6)))else(some false)))
theorem ol{aD:Bytes}{r:Bool}(h:tS aD=some r):Good prog 126 [aZ aD] (bQ r):=by
 refine gd func126 bZ 11 fun hr Z hZ=>?_
 rw[tS]at h;obtain⟨y1,h2,h⟩:=aH h;obtain⟨h3,h⟩|⟨h3,h⟩:=aK h
 ·obtain⟨b4,h5,y6,h7,h⟩:=bR h;cases aM h;exact((((((aY.g (ff h2)).r 2 h3).c h5).r 2 h3).g (iG h7)).b h3).ret hZ
 ·cases aM h;exact((aY.g (ff h2)).r 5 h3).ret hZ
def jx(aD:Bytes):Option Bool:=((gU aD).bind fun y1=>(bif y1 then(some true)else((iq aD).bind fun y4=>(some y4))))
theorem mI{aD:Bytes}{r:Bool}(h:jx aD=some r):Good prog 205 [aZ aD] (bQ r):=by
 refine gd func205 bZ 9 fun hr Z hZ=>?_
 rw[jx]at h;obtain⟨y1,h2,h⟩:=aH h;obtain⟨h3,h⟩|⟨h3,h⟩:=aK h
 ·cases aM h;exact((aY.g (ff h2)).r 3 h3).ret hZ
 ·obtain⟨y4,h5,h⟩:=aH h;cases aM h;exact((((aY.g (ff h2)).r 2 h3).g (gM h5)).b h3).ret hZ
def o8(aD:aC)(k1:Option Bool):aI->Nat->Option Bool
 | [],i1=>(k1)
 |bg::cj,i1=>((jx bg).bind fun L7=>(bif !(L7)then(some false)else(o8 aD k1 cj (i1+1))))
def j9(aD:aC):Option Bool:=(o8 aD ((tS aD.rel).bind fun EY=>(bif EY then(some (decide ((((aD.args.map tx).length:Int):Int)<=3)))else(some false))) aD.args 0)
def JH(aD:aC)(dL:Int):St:=⟨[(1,bp 0 0),(3,aB dL)],[bu (aC.c aD)]⟩
theorem HX(hZ:Z.nt=27){aD:aC}{r:Bool}{k1:Option Bool}(eC:k1=some r->Ax Z N f157 (.q bZ (bQ r)) [1,1] ⟨[(1,bp 0 0)],[bu (aC.c aD)]⟩)(hm1:aD.args.length<=maxLen):∀(rest:aI) (i1:Nat),aD.args.drop i1=rest->o8 aD k1 rest i1=some r->Ar Z N f157 (.q bZ (bQ r)) [1,0,1,0] (rest.length+1) (JH aD (i1:Int)):=by
 intro rest
 induction rest with
 |nil=>
  intro i1 bB h;rw[o8]at h;refine aV fun N1 cq cS=>?_
  exact((aY.ge tx bB).a [.hl 0 [1] [0]]).ex hZ cq (eC h)
 |cons bg cj ih1=>
  intro i1 bB h;rw[o8]at h;refine aV fun N1 cq cS=>?_
  obtain⟨L7,h22,h⟩:=aH h;have fG:=(((aY.lt tx bB).l (bK tx 1 (dc bB) rfl)).g (mI h22))
  obtain⟨h23,h⟩|⟨h23,h⟩:=aK h
  ·cases aM h;exact(fG.b h23).ret hZ
  ·exact((fG.b h23).a [.cn [1,3] [0]]).ct hZ cS (iS bB hm1) (ih1 (i1+1) (dn bB) h)
theorem fo{aD:aC}{r:Bool}(h:j9 aD=some r):Good prog 157 [bw (aC.c aD)] (bQ r):=by
 refine gd func157 bZ 27 fun hr Z hZ=>?_
 rw[j9]at h;refine(aY.a [.cn [1,3] [0]]).lp hZ (HX hZ (fun h=>?_) (by have:=(gY.sl (gY.agg (hr _ (aE (i:=0) rfl)) (.sl (aD.args.map tx)) (by simp))).1;simpa using this) aD.args 0 rfl h);obtain⟨EY,h25,h⟩:=aH h;obtain⟨h26,h⟩|⟨h26,h⟩:=aK h
 ·cases h;exact((aY.g (ol h25)).r 5 h26).ret hZ
 ·cases aM h;exact((aY.g (ol h25)).r 5 h26).ret hZ
def rD(aD:aS):Option Bool:=(bif (aD.kind:Int)==1 then((j9 aD.pat).bind fun y2=>(bif y2 then(bif (aD.left:Bytes)==([])then(some ((aD.right:Bytes)==([])))else(some false))else(some false)))else(bif (aD.kind:Int)==2 then((j9 aD.pat).bind fun y7=>(bif y7 then(bif (aD.left:Bytes)==([])then(some ((aD.right:Bytes)==([])))else(some false))else(some false)))else(bif (aD.kind:Int)==3 then(bif (aD.pat.rel:Bytes)==([])then(bif (((aD.pat.args.map tx).length:Int):Int)==0 then((jx aD.left).bind fun Ai=>(bif Ai then((jx aD.right).bind fun Ce=>(some Ce))else(some false)))else(some false))else(some false))else(bif (aD.kind:Int)==4 then(bif (aD.pat.rel:Bytes)==([])then(bif (((aD.pat.args.map tx).length:Int):Int)==0 then((jx aD.left).bind fun rV=>(bif rV then((jx aD.right).bind fun xo=>(some xo))else(some false)))else(some false))else(some false))else(bif (aD.kind:Int)==5 then(bif (aD.pat.rel:Bytes)==([])then(bif (((aD.pat.args.map tx).length:Int):Int)==0 then((jx aD.left).bind fun B5=>(bif B5 then((jx aD.right).bind fun uf=>(some uf))else(some false)))else(some false))else(some false))else(some false))))))
theorem je{aD:aS}{r:Bool}(h:rD aD=some r):Good prog 189 [bw (aS.c aD)] (bQ r):=by
 refine gd func189 bZ 46 fun hr Z hZ=>?_
 rw[rD]at h;obtain⟨h1,h⟩|⟨h1,h⟩:=aK h
 ·obtain⟨y2,h3,h⟩:=aH h;have lC:=((aY.r 2 h1).g (fo h3))
  obtain⟨h4,h⟩|⟨h4,h⟩:=aK h
  ·have fG:=(lC.r 4 h4)
   obtain⟨h5,h⟩|⟨h5,h⟩:=aK h
   ·cases h;exact(fG.r 4 h5).ret hZ
   ·cases aM h;exact(fG.r 4 h5).ret hZ
  ·cases aM h;exact((lC.r 4 h4).F 4).ret hZ
 ·obtain⟨h6,h⟩|⟨h6,h⟩:=aK h
  ·obtain⟨y7,h8,h⟩:=aH h;have jR:=(((aY.b h1).b h6).g (fo h8))
   obtain⟨h9,h⟩|⟨h9,h⟩:=aK h
   ·have k6:=(jR.r 4 h9)
    obtain⟨h10,h⟩|⟨h10,h⟩:=aK h
    ·cases h;exact(k6.r 4 h10).ret hZ
    ·cases aM h;exact(k6.r 4 h10).ret hZ
   ·cases aM h;exact((jR.r 4 h9).F 4).ret hZ
  ·have ud:=((aY.b h1).b h6)
   obtain⟨h11,h⟩|⟨h11,h⟩:=aK h
   ·have xg:=(ud.r 2 h11)
    obtain⟨h12,h⟩|⟨h12,h⟩:=aK h
    ·have Ak:=(xg.r 6 h12)
     obtain⟨h13,h⟩|⟨h13,h⟩:=aK h
     ·obtain⟨Ai,h15,h⟩:=aH h;have Fc:=(((Ak.r 3 h13).g (mI h15)).b h13)
      obtain⟨h16,h⟩|⟨h16,h⟩:=aK h
      ·obtain⟨Ce,h18,h⟩:=aH h;cases aM h;exact(((Fc.r 3 h16).g (mI h18)).b h16).ret hZ
      ·cases aM h;exact(Fc.r 4 h16).ret hZ
     ·cases aM h;exact((Ak.r 4 h13).F 4).ret hZ
    ·cases aM h;exact((xg.r 6 h12).F 8).ret hZ
   ·obtain⟨h19,h⟩|⟨h19,h⟩:=aK h
    ·have OP:=((ud.b h11).r 2 h19)
     obtain⟨h20,h⟩|⟨h20,h⟩:=aK h
     ·have EP:=(OP.r 6 h20)
      obtain⟨h21,h⟩|⟨h21,h⟩:=aK h
      ·obtain⟨rV,h23,h⟩:=aH h;have Ma:=(((EP.r 3 h21).g (mI h23)).b h21)
       obtain⟨h24,h⟩|⟨h24,h⟩:=aK h
       ·obtain⟨xo,h26,h⟩:=aH h;cases aM h;exact(((Ma.r 3 h24).g (mI h26)).b h24).ret hZ
       ·cases aM h;exact(Ma.r 4 h24).ret hZ
      ·cases aM h;exact((EP.r 4 h21).F 4).ret hZ
     ·cases aM h;exact((OP.r 6 h20).F 8).ret hZ
    ·have Dc:=((ud.b h11).b h19)
     obtain⟨h27,h⟩|⟨h27,h⟩:=aK h
     ·obtain⟨h28,h⟩|⟨h28,h⟩:=aK h
      ·have Mb:=((Dc.b h27).r 6 h28)
       obtain⟨h29,h⟩|⟨h29,h⟩:=aK h
       ·obtain⟨B5,h31,h⟩:=aH h;have Mc:=(((Mb.r 3 h29).g (mI h31)).b h29)
        obtain⟨h32,h⟩|⟨h32,h⟩:=aK h
        ·obtain⟨uf,h34,h⟩:=aH h;cases aM h;exact(((Mc.r 3 h32).g (mI h34)).b h32).ret hZ
        ·cases aM h;exact(Mc.r 4 h32).ret hZ
       ·cases aM h;exact((Mb.r 4 h29).F 4).ret hZ
      ·cases aM h;exact(((Dc.b h27).r 6 h28).F 8).ret hZ
     ·cases aM h;exact(Dc.b h27).ret hZ
def oD(aD:aS):Option aI:=((pO aD.pat).bind fun y1=>((iq aD.left).bind fun y3=>(bif y3 then((nZ y1 aD.left).bind fun y6=>((iq aD.right).bind fun y8=>(bif y8 then((nZ y6 aD.right).bind fun yc=>(some yc))else(some y6))))else((iq aD.right).bind fun xO=>(bif xO then((nZ y1 aD.right).bind fun PR=>(some PR))else(some y1))))))
theorem sn{aD:aS}{r:aI}(h:oD aD=some r):Good prog 190 [bw (aS.c aD)] (cW 9 1 (r.map tx)):=by
 refine gd func190 CU 22 fun hr Z hZ=>?_
 rw[oD]at h;obtain⟨y1,h2,y3,h4,h⟩:=bR h;have lC:=((aY.g (rY h2)).g (gM h4))
 obtain⟨h5,h⟩|⟨h5,h⟩:=aK h
 ·obtain⟨y6,h7,y8,h9,h⟩:=bR h;have fG:=(((lC.b h5).g (nc h7)).g (gM h9))
  obtain⟨h10,h⟩|⟨h10,h⟩:=aK h
  ·obtain⟨yc,h12,h⟩:=aH h;cases aM h;exact((fG.b h10).g (nc h12)).ret hZ
  ·cases aM h;exact(fG.b h10).ret hZ
 ·obtain⟨xO,h14,h⟩:=aH h;have jR:=((lC.b h5).g (gM h14))
  obtain⟨h15,h⟩|⟨h15,h⟩:=aK h
  ·obtain⟨PR,h17,h⟩:=aH h;cases aM h;exact((jR.b h15).g (nc h17)).ret hZ
  ·cases aM h;exact(jR.b h15).ret hZ
def tT(aD:aS):Option Bool:=((rD aD).bind fun y1=>(bif y1 then(some (decide ((aD.kind:Int)>=3)))else(some false)))
theorem uk{aD:aS}{r:Bool}(h:tT aD=some r):Good prog 192 [bw (aS.c aD)] (bQ r):=by
 refine gd func192 bZ 10 fun hr Z hZ=>?_
 rw[tT]at h;obtain⟨y1,h2,h⟩:=aH h;obtain⟨h3,h⟩|⟨h3,h⟩:=aK h
 ·cases h;exact((aY.g (je h2)).r 4 h3).ret hZ
 ·cases aM h;exact((aY.g (je h2)).r 4 h3).ret hZ
def gj(aD:aN)(aa:Int)(cv:Bytes)(k1:Option Bool):ay->Nat->Option Bool
 | [],i1=>(k1)
 |bg::cj,i1=>(bif ((i1:Int):Int) != aa then((oD bg).bind fun Gf=>((iF Gf cv).bind fun Oc=>(bif Oc then(some true)else(gj aD aa cv k1 cj (i1+1)))))else(gj aD aa cv k1 cj (i1+1)))
def jI(aD:aN)(cv:Bytes)(k2:Option Bool):fB->Nat->Option Bool
 | [],i2=>(k2)
 |jM::tL,i2=>((pO jM.pat).bind fun Vc=>((iF Vc cv).bind fun y69=>(bif y69 then(some true)else(jI aD cv k2 tL (i2+1)))))
def pE(aD:aN)(aa:Int)(cv:Bytes):Option Bool:=(gj aD aa cv (jI aD cv (some false) aD.dD 0) aD.conds 0)
def GQ(aD:aN)(aa:Int)(cv:Bytes)(dL:Int):St:=⟨[(1,aB aa),(2,aZ cv),(3,bp 0 0),(7,aB dL)],[bu (aN.c aD)]⟩
theorem FC(hZ:Z.nt=45){aD:aN}{aa:Int}{cv:Bytes}{r:Bool}{k1:Option Bool}(eC:k1=some r->Ax Z N f193 (.q bZ (bQ r)) [1,1] ⟨[(2,aZ cv),(3,bp 0 0)],[bu (aN.c aD)]⟩)(hm1:aD.conds.length<=maxLen):∀(rest:ay) (i1:Nat),aD.conds.drop i1=rest->gj aD aa cv k1 rest i1=some r->Ar Z N f193 (.q bZ (bQ r)) [1,0,1,0] (rest.length+1) (GQ aD aa cv (i1:Int)):=by
 intro rest
 induction rest with
 |nil=>
  intro i1 bB h;rw[gj]at h;refine aV fun N1 cq cS=>?_
  exact((aY.ge aS.c bB).a [.hl 0 [2,3] [0]]).ex hZ cq (eC h)
 |cons bg cj ih1=>
  intro i1 bB h;rw[gj]at h;refine aV fun N1 cq cS=>?_
  obtain⟨h33,h⟩|⟨h33,h⟩:=aK h
  ·obtain⟨Gf,h35,Oc,h37,h⟩:=bR h;have jR:=((((((((aY.lt aS.c bB).r 4 h33).l (bK aS.c 5 (dc bB) rfl)).r 2 h33).g (sn h35)).r 2 h33).g (lJ h37)).b h33)
   obtain⟨h38,h⟩|⟨h38,h⟩:=aK h
   ·cases aM h;exact(jR.b h38).ret hZ
   ·exact((jR.b h38).a [.cn [1,2,3,7] [0]]).ct hZ cS (iS bB hm1) (ih1 (i1+1) (dn bB) h)
  ·exact((((aY.lt aS.c bB).r 9 h33).F 1).a [.cn [1,2,3,7] [0]]).ct hZ cS (iS bB hm1) (ih1 (i1+1) (dn bB) h)
def GR(aD:aN)(cv:Bytes)(dL:Int):St:=⟨[(2,aZ cv),(3,bp 0 0),(8,aB dL)],[bu (aN.c aD)]⟩
theorem FD(hZ:Z.nt=45){aD:aN}{cv:Bytes}{r:Bool}{k2:Option Bool}(zc:k2=some r->Ax Z N f193 (.q bZ (bQ r)) [1,1,1] ⟨[],[]⟩)(hm2:aD.dD.length<=maxLen):∀(rest:fB) (i2:Nat),aD.dD.drop i2=rest->jI aD cv k2 rest i2=some r->Ar Z N f193 (.q bZ (bQ r)) [1,1,0,1,0] (rest.length+1) (GR aD cv (i2:Int)):=by
 intro rest
 induction rest with
 |nil=>
  intro i2 hd2 h;rw[jI]at h;refine aV fun N2 uY qt=>?_
  exact((aY.ge Action.c hd2).a [.hl 0 [] []]).ex hZ uY (zc h)
 |cons jM tL ih2=>
  intro i2 hd2 h;rw[jI]at h;refine aV fun N2 uY qt=>?_
  obtain⟨Vc,h68,y69,h70,h⟩:=bR h;have k6:=((((aY.lt Action.c hd2).l (bK Action.c 3 (dc hd2) rfl)).g (rY h68)).g (lJ h70))
  obtain⟨h71,h⟩|⟨h71,h⟩:=aK h
  ·cases aM h;exact(k6.b h71).ret hZ
  ·exact((k6.b h71).a [.cn [2,3,8] [0]]).ct hZ qt (iS hd2 hm2) (ih2 (i2+1) (dn hd2) h)
theorem yU{aD:aN}{aa:Int}{cv:Bytes}{r:Bool}(h:pE aD aa cv=some r):Good prog 193 [bw (aN.c aD),aB aa,aZ cv] (bQ r):=by
 refine gd func193 bZ 45 fun hr Z hZ=>?_
 rw[pE]at h;refine(aY.a [.cn [1,2,3,7] [0]]).lp hZ (FC hZ (fun h=>?_) (by have:=(gY.sl (gY.agg (hr _ (aE (i:=0) rfl)) (.sl (aD.conds.map aS.c)) (by simp))).1;simpa using this) aD.conds 0 rfl h);refine(aY.a [.cn [2,3,8] [0]]).lp hZ (FD hZ (fun h=>?_) (by have:=(gY.sl (gY.agg (hr _ (aE (i:=0) rfl)) (.sl (aD.dD.map Action.c)) (by simp))).1;simpa using this) aD.dD 0 rfl h);cases aM h;exact aY.ret hZ
def vL(aD:Action):Option Bool:=(bif (aD.kind:Int)==1 then((j9 aD.pat).bind fun y2=>(some y2))else(bif (aD.kind:Int)==2 then((j9 aD.pat).bind fun y5=>(some y5))else(bif (aD.kind:Int)==3 then(bif (aD.pat.rel:Bytes)==([])then(some ((((aD.pat.args.map tx).length:Int):Int)==0))else(some false))else(some false))))
theorem HT{aD:Action}{r:Bool}(h:vL aD=some r):Good prog 194 [bw (Action.c aD)] (bQ r):=by
 refine gd func194 bZ 24 fun hr Z hZ=>?_
 rw[vL]at h;obtain⟨h1,h⟩|⟨h1,h⟩:=aK h
 ·obtain⟨y2,h3,h⟩:=aH h;cases aM h;exact((aY.r 2 h1).g (fo h3)).ret hZ
 ·obtain⟨h4,h⟩|⟨h4,h⟩:=aK h
  ·obtain⟨y5,h6,h⟩:=aH h;cases aM h;exact(((aY.b h1).b h4).g (fo h6)).ret hZ
  ·have lC:=((aY.b h1).b h4)
   obtain⟨h7,h⟩|⟨h7,h⟩:=aK h
   ·obtain⟨h8,h⟩|⟨h8,h⟩:=aK h
    ·cases h;exact((lC.b h7).r 6 h8).ret hZ
    ·cases aM h;exact((lC.b h7).r 6 h8).ret hZ
   ·cases aM h;exact(lC.b h7).ret hZ
def mJ(aD:aN)(i1:Nat)(Cu:aI)(k2:aI->Option aI):aI->Nat->aI->Option aI
 | [],i2,fJ=>(k2 fJ)
 |jM::tL,i2,fJ=>((nZ fJ jM).bind fun a9m=>(mJ aD i1 Cu k2 tL (i2+1) a9m))
def ji(aD:aN)(k1:aI->Option aI):ay->Nat->aI->Option aI
 | [],i1,bn=>(k1 bn)
 |bg::cj,i1,bn=>((oD bg).bind fun Cu=>(bif decide (Cu.length<=maxLen)then(mJ aD i1 Cu (fun(tY:aI)=>(ji aD k1 cj (i1+1) tY)) Cu 0 bn)else none))
def mK(aD:aN)(i3:Nat)(Mr:aI)(k4:aI->Option aI):aI->Nat->aI->Option aI
 | [],i4,Tr=>(k4 Tr)
 |x4_::xs4,i4,Tr=>((nZ Tr x4_).bind fun a9n=>(mK aD i3 Mr k4 xs4 (i4+1) a9n))
def ir(aD:aN)(k3:aI->Option aI):fB->Nat->aI->Option aI
 | [],i3,B4=>(k3 B4)
 |Oa::Kz,i3,B4=>((pO Oa.pat).bind fun Mr=>(bif decide (Mr.length<=maxLen)then(mK aD i3 Mr (fun(Zg:aI)=>(ir aD k3 Kz (i3+1) Zg)) Mr 0 B4)else none))
def vN(aD:aN):Option aI:=(ji aD (fun(kP:aI)=>(ir aD (fun(a2V:aI)=>(some a2V)) aD.dD 0 kP)) aD.conds 0 ([]:aI))
def KO(aD:aN)(W0:List aT)(dL:Int):St:=⟨[(1,bp 0 0),(3,b9 1),(4,aB dL)],[bu (aN.c aD),af 9 1 W0]⟩
def KP(aD:aN)(i1:Nat)(Cu:aI)(W0:List aT)(dL:Int):St:=⟨[(1,bp 0 0),(3,b9 1),(4,aB (i1:Int)),(5,b9 2),(6,aB dL)],[bu (aN.c aD),af 9 1 W0,af 9 1 (Cu.map tx)]⟩
theorem JM(hZ:Z.nt=63){aD:aN}{i1:Nat}{Cu:aI}{r:aI}{k2:aI->Option aI}(zc:∀(tY:aI),k2 tY=some r->Ax Z N f196 (AG r) [1,1,0,1,0,0,1,1] ⟨[(1,bp 0 0),(3,b9 1),(4,aB (i1:Int))],[bu (aN.c aD),af 9 1 (tY.map tx)]⟩)(hm2:Cu.length<=maxLen):∀(rest:aI) (i2:Nat) (fJ:aI),Cu.drop i2=rest->mJ aD i1 Cu k2 rest i2 fJ=some r->Ar Z N f196 (AG r) [1,1,0,1,0,0,1,0,0,1,1,0] (rest.length+1) (KP aD i1 Cu (fJ.map tx) (i2:Int)):=by
 intro rest
 induction rest with
 |nil=>
  intro i2 fJ hd2 h;rw[mJ]at h;refine aV fun N2 uY qt=>?_
  exact((aY.ge tx hd2).a [.hl 3 [1,3,4] [0,1]]).ex hZ uY (zc fJ h)
 |cons jM tL ih2=>
  intro i2 fJ hd2 h;rw[mJ]at h;refine aV fun N2 uY qt=>?_
  obtain⟨a9m,h172,h⟩:=aH h;exact(((((aY.lt tx hd2).i (fH tx 1 (dc hd2))).o 1 1 .uq (cL tx (dc hd2))).g (nc h172)).a [.cn [1,3,4,5,6] [0,3,2]]).ct hZ qt (iS hd2 hm2) (ih2 (i2+1) a9m (dn hd2) h)
theorem JL(hZ:Z.nt=63){aD:aN}{r:aI}{k1:aI->Option aI}(eC:∀(kP:aI),k1 kP=some r->Ax Z N f196 (AG r) [1,1,1] ⟨[(1,bp 0 0),(3,b9 1)],[bu (aN.c aD),af 9 1 (kP.map tx)]⟩)(hm1:aD.conds.length<=maxLen):∀(rest:ay) (i1:Nat) (bn:aI),aD.conds.drop i1=rest->ji aD k1 rest i1 bn=some r->Ar Z N f196 (AG r) [1,1,0,1,0] (rest.length+1) (KO aD (bn.map tx) (i1:Int)):=by
 intro rest
 induction rest with
 |nil=>
  intro i1 bn bB h;rw[ji]at h;refine aV fun N1 cq cS=>?_
  exact((aY.ge aS.c bB).a [.hl 0 [1,3] [0,1]]).ex hZ cq (eC bn h)
 |cons bg cj ih1=>
  intro i1 bn bB h;rw[ji]at h;refine aV fun N1 cq cS=>?_
  obtain⟨Cu,h148,h⟩:=aH h;obtain⟨h173,h⟩:=bf h;refine((((aY.lt aS.c bB).l (bK aS.c 5 (dc bB) rfl)).g (sn h148)).a [.cn [1,3,4,5,6] [0,1,2]]).lp hZ (JM hZ (fun tY h=>?_) (bh h173) Cu 0 bn rfl h);exact(aY.a [.cn [1,3,4] [0,1]]).ct hZ cS (iS bB hm1) (ih1 (i1+1) tY (dn bB) h)
def KR(aD:aN)(W0:List aT)(dL:Int):St:=⟨[(1,bp 0 0),(3,b9 1),(7,aB dL)],[bu (aN.c aD),af 9 1 W0]⟩
def KS(aD:aN)(i3:Nat)(Mr:aI)(W0:List aT)(dL:Int):St:=⟨[(1,bp 0 0),(3,b9 1),(7,aB (i3:Int)),(8,b9 2),(9,aB dL)],[bu (aN.c aD),af 9 1 W0,af 9 1 (Mr.map tx)]⟩
theorem JO(hZ:Z.nt=63){aD:aN}{i3:Nat}{Mr:aI}{r:aI}{k4:aI->Option aI}(hE4:∀(Zg:aI),k4 Zg=some r->Ax Z N f196 (AG r) [1,1,1,0,1,0,0,1,1] ⟨[(1,bp 0 0),(3,b9 1),(7,aB (i3:Int))],[bu (aN.c aD),af 9 1 (Zg.map tx)]⟩)(hm4:Mr.length<=maxLen):∀(rest:aI) (i4:Nat) (Tr:aI),Mr.drop i4=rest->mK aD i3 Mr k4 rest i4 Tr=some r->Ar Z N f196 (AG r) [1,1,1,0,1,0,0,1,0,0,1,1,0] (rest.length+1) (KS aD i3 Mr (Tr.map tx) (i4:Int)):=by
 intro rest
 induction rest with
 |nil=>
  intro i4 Tr EK h;rw[mK]at h;refine aV fun N4 hN4 Z4=>?_
  exact((aY.ge tx EK).a [.hl 3 [1,3,7] [0,1]]).ex hZ hN4 (hE4 Tr h)
 |cons x4_ xs4 ih4=>
  intro i4 Tr EK h;rw[mK]at h;refine aV fun N4 hN4 Z4=>?_
  obtain⟨a9n,h345,h⟩:=aH h;exact(((((aY.lt tx EK).i (fH tx 1 (dc EK))).o 1 1 .uq (cL tx (dc EK))).g (nc h345)).a [.cn [1,3,7,8,9] [0,3,2]]).ct hZ Z4 (iS EK hm4) (ih4 (i4+1) a9n (dn EK) h)
theorem JN(hZ:Z.nt=63){aD:aN}{r:aI}{k3:aI->Option aI}(Z3:∀(a2V:aI),k3 a2V=some r->Ax Z N f196 (AG r) [1,1,1,1] ⟨[(3,b9 0)],[af 9 1 (a2V.map tx)]⟩)(Oo:aD.dD.length<=maxLen):∀(rest:fB) (i3:Nat) (B4:aI),aD.dD.drop i3=rest->ir aD k3 rest i3 B4=some r->Ar Z N f196 (AG r) [1,1,1,0,1,0] (rest.length+1) (KR aD (B4.map tx) (i3:Int)):=by
 intro rest
 induction rest with
 |nil=>
  intro i3 B4 uV h;rw[ir]at h;refine aV fun N3 Rt Ko=>?_
  exact((aY.ge Action.c uV).a [.hl 0 [3] [1]]).ex hZ Rt (Z3 B4 h)
 |cons Oa Kz ih3=>
  intro i3 B4 uV h;rw[ir]at h;refine aV fun N3 Rt Ko=>?_
  obtain⟨Mr,h321,h⟩:=aH h;obtain⟨h346,h⟩:=bf h;refine((((aY.lt Action.c uV).l (bK Action.c 3 (dc uV) rfl)).g (rY h321)).a [.cn [1,3,7,8,9] [0,1,2]]).lp hZ (JO hZ (fun Zg h=>?_) (bh h346) Mr 0 B4 rfl h);exact(aY.a [.cn [1,3,7] [0,1]]).ct hZ Ko (iS uV Oo) (ih3 (i3+1) Zg (dn uV) h)
theorem Hg{aD:aN}{r:aI}(h:vN aD=some r):Good prog 196 [bw (aN.c aD)] (cW 9 1 (r.map tx)):=by
 refine gd func196 CU 63 fun hr Z hZ=>?_
 rw[vN]at h;refine(aY.a [.cn [1,3,4] [0,1]]).lp hZ (JL hZ (fun kP h=>?_) (by have:=(gY.sl (gY.agg (hr _ (aE (i:=0) rfl)) (.sl (aD.conds.map aS.c)) (by simp))).1;simpa using this) aD.conds 0 ([]:aI) rfl h);refine(aY.a [.cn [1,3,7] [0,1]]).lp hZ (JN hZ (fun a2V h=>?_) (by have:=(gY.sl (gY.agg (hr _ (aE (i:=0) rfl)) (.sl (aD.dD.map Action.c)) (by simp))).1;simpa using this) aD.dD 0 kP rfl h);cases aM h;exact aY.ret hZ
def iC(aD:aN)(xO:aI)(i1:Nat)(bg:aS)(Mu:aI)(Gb:aI)(k2:Option Bool):aI->Nat->Option Bool
 | [],i2=>(k2)
 |jM::tL,i2=>((iF Mu jM).bind fun a9p=>((tT bg).bind fun aDv=>(bif aDv then(bif !(a9p)then(some false)else(bif (bg.kind:Int)==2 then(iC aD xO i1 bg Mu Gb k2 tL (i2+1))else(iC aD xO i1 bg Mu Gb k2 tL (i2+1))))else(bif (bg.kind:Int)==2 then(bif !(a9p)then((pE aD (i1:Int) jM).bind fun aDw=>(bif aDw then(some false)else(iC aD xO i1 bg Mu Gb k2 tL (i2+1))))else(iC aD xO i1 bg Mu Gb k2 tL (i2+1)))else(iC aD xO i1 bg Mu Gb k2 tL (i2+1))))))
def iD(aD:aN)(xO:aI)(i1:Nat)(bg:aS)(Mv:aI)(Gc:aI)(k3:Option Bool):aI->Nat->Option Bool
 | [],i3=>(k3)
 |Oa::Kz,i3=>((iF Mv Oa).bind fun a9r=>((tT bg).bind fun aDy=>(bif aDy then(bif !(a9r)then(some false)else(bif (bg.kind:Int)==2 then(iD aD xO i1 bg Mv Gc k3 Kz (i3+1))else(iD aD xO i1 bg Mv Gc k3 Kz (i3+1))))else(bif (bg.kind:Int)==2 then(bif !(a9r)then((pE aD (i1:Int) Oa).bind fun aDz=>(bif aDz then(some false)else(iD aD xO i1 bg Mv Gc k3 Kz (i3+1))))else(iD aD xO i1 bg Mv Gc k3 Kz (i3+1)))else(iD aD xO i1 bg Mv Gc k3 Kz (i3+1))))))
def me(aD:aN)(xO:aI)(k1:Option Bool):ay->Nat->Option Bool
 | [],i1=>(k1)
 |bg::cj,i1=>((rD bg).bind fun aDn=>(bif !(aDn)then(some false)else(bif ((i1:Int):Int)==0 then(bif (bg.kind:Int) != 1 then(some false)else((mY aD (i1:Int)).bind fun Mu=>((oD bg).bind fun Gb=>(bif decide (Gb.length<=maxLen)then(iC aD xO i1 bg Mu Gb (me aD xO k1 cj (i1+1)) Gb 0)else none))))else((mY aD (i1:Int)).bind fun Mv=>((oD bg).bind fun Gc=>(bif decide (Gc.length<=maxLen)then(iD aD xO i1 bg Mv Gc (me aD xO k1 cj (i1+1)) Gc 0)else none))))))
def oo(aD:aN)(xO:aI)(i4:Nat)(Mw:aI)(k5:Option Bool):aI->Nat->Option Bool
 | [],i5=>(k5)
 |x5_::xs5,i5=>((iF xO x5_).bind fun aE2=>(bif !(aE2)then(some false)else(oo aD xO i4 Mw k5 xs5 (i5+1))))
def om(aD:aN)(xO:aI)(k4:Option Bool):fB->Nat->Option Bool
 | [],i4=>(k4)
 |x4_::xs4,i4=>((vL x4_).bind fun aE0=>(bif !(aE0)then(some false)else((pO x4_.pat).bind fun Mw=>(bif decide (Mw.length<=maxLen)then(oo aD xO i4 Mw (om aD xO k4 xs4 (i4+1)) Mw 0)else none))))
def pN(aD:aN):Option Bool:=((tS aD.name).bind fun y1=>(bif !(y1)then(some false)else((mo aD.prio 0 9).bind fun y4=>(bif !(y4)then(some false)else((mo ((aD.conds.map aS.c).length:Int) 1 4).bind fun y7=>(bif !(y7)then(some false)else((mo ((aD.dD.map Action.c).length:Int) 1 2).bind fun GZ=>(bif !(GZ)then(some false)else((mY aD ((aD.conds.map aS.c).length:Int)).bind fun xO=>(me aD xO (om aD xO ((vN aD).bind fun aE3=>(some (decide ((((aE3.map tx).length:Int):Int)<=6)))) aD.dD 0) aD.conds 0))))))))))
def NJ(aD:aN)(xO:aI)(dL:Int):St:=⟨[(1,bp 0 0),(3,b9 1),(4,aB dL)],[bu (aN.c aD),af 9 1 (xO.map tx)]⟩
def NK(aD:aN)(xO:aI)(i1:Nat)(bg:aS)(Mu:aI)(Gb:aI)(dL:Int):St:=⟨[(1,bp 0 0),(3,b9 1),(4,aB (i1:Int)),(5,bp 2 0),(6,b9 3),(7,b9 4),(8,aB dL)],[bu (aN.c aD),af 9 1 (xO.map tx),bu [aB bg.kind,aZ bg.pat.rel,bX (bg.pat.args.map tx),aZ bg.left,aZ bg.right],af 9 1 (Mu.map tx),af 9 1 (Gb.map tx)]⟩
theorem Lj(hZ:Z.nt=145){aD:aN}{xO:aI}{i1:Nat}{bg:aS}{Mu:aI}{Gb:aI}{r:Bool}{k2:Option Bool}(zc:k2=some r->Ax Z N f128 (.q bZ (bQ r)) [1,1,1,0,1,0,0,1,1] ⟨[(1,bp 0 0),(3,b9 1),(4,aB (i1:Int))],[bu (aN.c aD),af 9 1 (xO.map tx)]⟩)(hm2:Gb.length<=maxLen):∀(rest:aI) (i2:Nat),Gb.drop i2=rest->iC aD xO i1 bg Mu Gb k2 rest i2=some r->Ar Z N f128 (.q bZ (bQ r)) [1,1,1,0,1,0,0,1,0,0,1,1,1,1,1,0] (rest.length+1) (NK aD xO i1 bg Mu Gb (i2:Int)):=by
 intro rest
 induction rest with
 |nil=>
  intro i2 hd2 h;rw[iC]at h;refine aV fun N2 uY qt=>?_
  exact((aY.ge tx hd2).a [.hl 3 [1,3,4] [0,1]]).ex hZ uY (zc h)
 |cons jM tL ih2=>
  intro i2 hd2 h;rw[iC]at h;refine aV fun N2 uY qt=>?_
  obtain⟨a9p,h711,aDv,h713,h⟩:=bR h;have a6v:=((((((aY.lt tx hd2).i (fH tx 1 (dc hd2))).o 1 1 .uq (cL tx (dc hd2))).g (lJ h711)).a [.n 21]).g (uk h713))
  obtain⟨h714,h⟩|⟨h714,h⟩:=aK h
  ·have a6w:=(a6v.r 3 h714)
   obtain⟨h715,h⟩|⟨h715,h⟩:=aK h
   ·cases aM h;exact((((((a6w.r 4 h715).a [bF,bF]).r 2 h715).a [bF,bF,bF,bF,bF,bF,bF]).r 2 h715).T 1).ret hZ
   ·have a6x:=(a6w.r 4 h715)
    obtain⟨h716,h⟩|⟨h716,h⟩:=aK h
    ·exact((((((a6x.r 2 h716).b h715).b h716).r 11 h715).F 1).a [.cn [1,3,4,5,6,7,8] [0,1,2,3,4]]).ct hZ qt (iS hd2 hm2) (ih2 (i2+1) (dn hd2) h)
    ·exact((((((((((a6x.r 2 h716).b h715).b h716).b h715).F 7).b h715).F 1).b h715).F 1).a [.cn [1,3,4,5,6,7,8] [0,1,2,3,4]]).ct hZ qt (iS hd2 hm2) (ih2 (i2+1) (dn hd2) h)
  ·have a6y:=((a6v.r 3 h714).F 4)
   obtain⟨h717,h⟩|⟨h717,h⟩:=aK h
   ·have a6z:=((((a6y.r 2 h717).F 1).b h717).F 1)
    obtain⟨h718,h⟩|⟨h718,h⟩:=aK h
    ·obtain⟨aDw,h720,h⟩:=aH h;have a71:=(((((((((a6z.r 5 h718).i (fH tx 1 (dc hd2))).b h718).o 1 1 .uq (cL tx (dc hd2))).b h718).g (yU h720)).F 1).b h718).F 1)
     obtain⟨h721,h⟩|⟨h721,h⟩:=aK h
     ·cases aM h;exact(a71.b h721).ret hZ
     ·exact((a71.b h721).a [.cn [1,3,4,5,6,7,8] [0,1,2,3,4]]).ct hZ qt (iS hd2 hm2) (ih2 (i2+1) (dn hd2) h)
    ·exact(((((a6z.r 7 h718).F 1).b h718).F 2).a [.cn [1,3,4,5,6,7,8] [0,1,2,3,4]]).ct hZ qt (iS hd2 hm2) (ih2 (i2+1) (dn hd2) h)
   ·exact(((((a6y.r 2 h717).F 1).b h717).F 12).a [.cn [1,3,4,5,6,7,8] [0,1,2,3,4]]).ct hZ qt (iS hd2 hm2) (ih2 (i2+1) (dn hd2) h)
def NL(aD:aN)(xO:aI)(i1:Nat)(bg:aS)(Mv:aI)(Gc:aI)(dL:Int):St:=⟨[(1,bp 0 0),(3,b9 1),(4,aB (i1:Int)),(5,bp 2 0),(6,b9 3),(7,b9 4),(8,aB dL)],[bu (aN.c aD),af 9 1 (xO.map tx),bu [aB bg.kind,aZ bg.pat.rel,bX (bg.pat.args.map tx),aZ bg.left,aZ bg.right],af 9 1 (Mv.map tx),af 9 1 (Gc.map tx)]⟩
theorem Ll(hZ:Z.nt=145){aD:aN}{xO:aI}{i1:Nat}{bg:aS}{Mv:aI}{Gc:aI}{r:Bool}{k3:Option Bool}(Z3:k3=some r->Ax Z N f128 (.q bZ (bQ r)) [1,1,1,0,1,0,0,1,1] ⟨[(1,bp 0 0),(3,b9 1),(4,aB (i1:Int))],[bu (aN.c aD),af 9 1 (xO.map tx)]⟩)(Oo:Gc.length<=maxLen):∀(rest:aI) (i3:Nat),Gc.drop i3=rest->iD aD xO i1 bg Mv Gc k3 rest i3=some r->Ar Z N f128 (.q bZ (bQ r)) [1,1,1,0,1,0,0,1,0,0,1,1,1,1,1,0] (rest.length+1) (NL aD xO i1 bg Mv Gc (i3:Int)):=by
 intro rest
 induction rest with
 |nil=>
  intro i3 uV h;rw[iD]at h;refine aV fun N3 Rt Ko=>?_
  exact((aY.ge tx uV).a [.hl 3 [1,3,4] [0,1]]).ex hZ Rt (Z3 h)
 |cons Oa Kz ih3=>
  intro i3 uV h;rw[iD]at h;refine aV fun N3 Rt Ko=>?_
  obtain⟨a9r,h786,aDy,h788,h⟩:=bR h;have a73:=((((((aY.lt tx uV).i (fH tx 1 (dc uV))).o 1 1 .uq (cL tx (dc uV))).g (lJ h786)).a [.n 21]).g (uk h788))
  obtain⟨h789,h⟩|⟨h789,h⟩:=aK h
  ·have a74:=(a73.r 3 h789)
   obtain⟨h790,h⟩|⟨h790,h⟩:=aK h
   ·cases aM h;exact((((((a74.r 4 h790).a [bF,bF]).r 2 h790).a [bF,bF,bF,bF,bF,bF,bF]).r 2 h790).T 1).ret hZ
   ·have a77:=(a74.r 4 h790)
    obtain⟨h791,h⟩|⟨h791,h⟩:=aK h
    ·exact((((((a77.r 2 h791).b h790).b h791).r 11 h790).F 1).a [.cn [1,3,4,5,6,7,8] [0,1,2,3,4]]).ct hZ Ko (iS uV Oo) (ih3 (i3+1) (dn uV) h)
    ·exact((((((((((a77.r 2 h791).b h790).b h791).b h790).F 7).b h790).F 1).b h790).F 1).a [.cn [1,3,4,5,6,7,8] [0,1,2,3,4]]).ct hZ Ko (iS uV Oo) (ih3 (i3+1) (dn uV) h)
  ·have a78:=((a73.r 3 h789).F 4)
   obtain⟨h792,h⟩|⟨h792,h⟩:=aK h
   ·have a79:=((((a78.r 2 h792).F 1).b h792).F 1)
    obtain⟨h793,h⟩|⟨h793,h⟩:=aK h
    ·obtain⟨aDz,h795,h⟩:=aH h;have a7A:=(((((((((a79.r 5 h793).i (fH tx 1 (dc uV))).b h793).o 1 1 .uq (cL tx (dc uV))).b h793).g (yU h795)).F 1).b h793).F 1)
     obtain⟨h796,h⟩|⟨h796,h⟩:=aK h
     ·cases aM h;exact(a7A.b h796).ret hZ
     ·exact((a7A.b h796).a [.cn [1,3,4,5,6,7,8] [0,1,2,3,4]]).ct hZ Ko (iS uV Oo) (ih3 (i3+1) (dn uV) h)
    ·exact(((((a79.r 7 h793).F 1).b h793).F 2).a [.cn [1,3,4,5,6,7,8] [0,1,2,3,4]]).ct hZ Ko (iS uV Oo) (ih3 (i3+1) (dn uV) h)
   ·exact(((((a78.r 2 h792).F 1).b h792).F 12).a [.cn [1,3,4,5,6,7,8] [0,1,2,3,4]]).ct hZ Ko (iS uV Oo) (ih3 (i3+1) (dn uV) h)
theorem Li(hZ:Z.nt=145){aD:aN}{xO:aI}{r:Bool}{k1:Option Bool}(eC:k1=some r->Ax Z N f128 (.q bZ (bQ r)) [1,1,1,1] ⟨[(1,bp 0 0),(3,b9 1)],[bu (aN.c aD),af 9 1 (xO.map tx)]⟩)(hm1:aD.conds.length<=maxLen):∀(rest:ay) (i1:Nat),aD.conds.drop i1=rest->me aD xO k1 rest i1=some r->Ar Z N f128 (.q bZ (bQ r)) [1,1,1,0,1,0] (rest.length+1) (NJ aD xO (i1:Int)):=by
 intro rest
 induction rest with
 |nil=>
  intro i1 bB h;rw[me]at h;refine aV fun N1 cq cS=>?_
  exact((aY.ge aS.c bB).a [.hl 0 [1,3] [0,1]]).ex hZ cq (eC h)
 |cons bg cj ih1=>
  intro i1 bB h;rw[me]at h;refine aV fun N1 cq cS=>?_
  obtain⟨aDn,h644,h⟩:=aH h;have a7B:=(((aY.lt aS.c bB).l (bK aS.c 5 (dc bB) rfl)).g (je h644))
  obtain⟨h645,h⟩|⟨h645,h⟩:=aK h
  ·cases aM h;exact((((a7B.r 3 h645).a [bF,bF,bF]).r 2 h645).T 1).ret hZ
  ·have a7C:=(a7B.r 3 h645)
   obtain⟨h646,h⟩|⟨h646,h⟩:=aK h
   ·have a7D:=((((a7C.r 3 h646).b h645).b h646).b h645)
    obtain⟨h647,h⟩|⟨h647,h⟩:=aK h
    ·cases aM h;exact(a7D.b h647).ret hZ
    ·obtain⟨Mu,h649,Gb,h651,h⟩:=bR h;obtain⟨h722,h⟩:=bf h;refine((((a7D.b h647).g (lI h649)).g (sn h651)).a [.cn [1,3,4,5,6,7,8] [0,1,2,3,4]]).lp hZ (Lj hZ (fun h=>?_) (bh h722) Gb 0 rfl h);exact(aY.a [.cn [1,3,4] [0,1]]).ct hZ cS (iS bB hm1) (ih1 (i1+1) (dn bB) h)
   ·obtain⟨Mv,h724,Gc,h726,h⟩:=bR h;obtain⟨h797,h⟩:=bf h;refine((((((((a7C.r 3 h646).b h645).b h646).b h645).F 1).g (lI h724)).g (sn h726)).a [.cn [1,3,4,5,6,7,8] [0,1,2,3,4]]).lp hZ (Ll hZ (fun h=>?_) (bh h797) Gc 0 rfl h);exact(aY.a [.cn [1,3,4] [0,1]]).ct hZ cS (iS bB hm1) (ih1 (i1+1) (dn bB) h)
def NM(aD:aN)(xO:aI)(dL:Int):St:=⟨[(1,bp 0 0),(3,b9 1),(10,aB dL)],[bu (aN.c aD),af 9 1 (xO.map tx)]⟩
def NN(aD:aN)(xO:aI)(i4:Nat)(Mw:aI)(dL:Int):St:=⟨[(1,bp 0 0),(3,b9 1),(10,aB (i4:Int)),(11,b9 2),(12,aB dL)],[bu (aN.c aD),af 9 1 (xO.map tx),af 9 1 (Mw.map tx)]⟩
theorem Ln(hZ:Z.nt=145){aD:aN}{xO:aI}{i4:Nat}{Mw:aI}{r:Bool}{k5:Option Bool}(hE5:k5=some r->Ax Z N f128 (.q bZ (bQ r)) [1,1,1,1,0,1,0,0,1,1] ⟨[(1,bp 0 0),(3,b9 1),(10,aB (i4:Int))],[bu (aN.c aD),af 9 1 (xO.map tx)]⟩)(hm5:Mw.length<=maxLen):∀(rest:aI) (i5:Nat),Mw.drop i5=rest->oo aD xO i4 Mw k5 rest i5=some r->Ar Z N f128 (.q bZ (bQ r)) [1,1,1,1,0,1,0,0,1,0,0,1,1,1,0] (rest.length+1) (NN aD xO i4 Mw (i5:Int)):=by
 intro rest
 induction rest with
 |nil=>
  intro i5 hd5 h;rw[oo]at h;refine aV fun N5 hN5 hS5=>?_
  exact((aY.ge tx hd5).a [.hl 3 [1,3,10] [0,1]]).ex hZ hN5 (hE5 h)
 |cons x5_ xs5 ih5=>
  intro i5 hd5 h;rw[oo]at h;refine aV fun N5 hN5 hS5=>?_
  obtain⟨aE2,h953,h⟩:=aH h;have a7E:=((((aY.lt tx hd5).i (fH tx 1 (dc hd5))).o 1 1 .uq (cL tx (dc hd5))).g (lJ h953))
  obtain⟨h954,h⟩|⟨h954,h⟩:=aK h
  ·cases aM h;exact(a7E.b h954).ret hZ
  ·exact((a7E.b h954).a [.cn [1,3,10,11,12] [0,1,2]]).ct hZ hS5 (iS hd5 hm5) (ih5 (i5+1) (dn hd5) h)
theorem Lm(hZ:Z.nt=145){aD:aN}{xO:aI}{r:Bool}{k4:Option Bool}(hE4:k4=some r->Ax Z N f128 (.q bZ (bQ r)) [1,1,1,1,1] ⟨[(1,bp 0 0)],[bu (aN.c aD)]⟩)(hm4:aD.dD.length<=maxLen):∀(rest:fB) (i4:Nat),aD.dD.drop i4=rest->om aD xO k4 rest i4=some r->Ar Z N f128 (.q bZ (bQ r)) [1,1,1,1,0,1,0] (rest.length+1) (NM aD xO (i4:Int)):=by
 intro rest
 induction rest with
 |nil=>
  intro i4 EK h;rw[om]at h;refine aV fun N4 hN4 Z4=>?_
  exact((aY.ge Action.c EK).a [.hl 0 [1] [0]]).ex hZ hN4 (hE4 h)
 |cons x4_ xs4 ih4=>
  intro i4 EK h;rw[om]at h;refine aV fun N4 hN4 Z4=>?_
  obtain⟨aE0,h927,h⟩:=aH h;have a7F:=(((aY.lt Action.c EK).l (bK Action.c 3 (dc EK) rfl)).g (HT h927))
  obtain⟨h928,h⟩|⟨h928,h⟩:=aK h
  ·cases aM h;exact(a7F.b h928).ret hZ
  ·obtain⟨Mw,h930,h⟩:=aH h;obtain⟨h955,h⟩:=bf h;refine((((a7F.b h928).l (bK Action.c 3 (dc EK) rfl)).g (rY h930)).a [.cn [1,3,10,11,12] [0,1,2]]).lp hZ (Ln hZ (fun h=>?_) (bh h955) Mw 0 rfl h);exact(aY.a [.cn [1,3,10] [0,1]]).ct hZ Z4 (iS EK hm4) (ih4 (i4+1) (dn EK) h)
theorem gV{aD:aN}{r:Bool}(h:pN aD=some r):Good prog 128 [bw (aN.c aD)] (bQ r):=by
 refine gd func128 bZ 145 fun hr Z hZ=>?_
 rw[pN]at h;obtain⟨y1,h2,h⟩:=aH h;obtain⟨h3,h⟩|⟨h3,h⟩:=aK h
 ·cases aM h;exact(((aY.g (ol h2)).r 5 h3).T 13).ret hZ
 ·obtain⟨y4,h5,h⟩:=aH h;have a7G:=((((aY.g (ol h2)).r 3 h3).g (iG h5)).r 2 h3)
  obtain⟨h6,h⟩|⟨h6,h⟩:=aK h
  ·cases aM h;exact((a7G.r 6 h6).T 7).ret hZ
  ·obtain⟨y7,h8,h⟩:=aH h;have a7H:=(((a7G.r 4 h6).g (iG h8)).r 2 h6)
   obtain⟨h9,h⟩|⟨h9,h⟩:=aK h
   ·cases aM h;exact((a7H.r 6 h9).T 1).ret hZ
   ·obtain⟨GZ,h11,h⟩:=aH h;have a7I:=(((a7H.r 4 h9).g (iG h11)).r 2 h9)
    obtain⟨h12,h⟩|⟨h12,h⟩:=aK h
    ·cases aM h;exact(a7I.b h12).ret hZ
    ·obtain⟨xO,h14,h⟩:=aH h;refine(((a7I.b h12).g (lI h14)).a [.cn [1,3,4] [0,1]]).lp hZ (Li hZ (fun h=>?_) (by have:=(gY.sl (gY.agg (hr _ (aE (i:=0) rfl)) (.sl (aD.conds.map aS.c)) (by simp))).1;simpa using this) aD.conds 0 rfl h);refine(aY.a [.cn [1,3,10] [0,1]]).lp hZ (Lm hZ (fun h=>?_) (by have:=(gY.sl (gY.agg (hr _ (aE (i:=0) rfl)) (.sl (aD.dD.map Action.c)) (by simp))).1;simpa using this) aD.dD 0 rfl h);obtain⟨aE3,h957,h⟩:=aH h;cases h;exact(aY.g (Hg h957)).ret hZ
def sO(aD:Bytes)(aa:Bytes)(k1:Int->aI->Option aI):Nat->Int->Int->aI->Option aI
 |0,_,_,_=>none
 |n1+1,dX,wz,bY=>(bif decide ((IntKind.i64.wrap (wz+(aa.length:Int)):Int)<=(aD.length:Int))then((yG aD.length (some (aB wz)) (some (aB (IntKind.i64.wrap (wz+(aa.length:Int)))))).bind fun p=>(fun l49 u50=>(bif ((aD.take u50).drop l49:Bytes)==aa then((yG aD.length (some (aB dX)) (some (aB wz))).bind fun p=>(fun l53 u54=>(bif room ((bY.map tx).length+([[aZ ((aD.take u54).drop l53)]]).length) 16 then(sO aD aa k1 n1 (IntKind.i64.wrap (wz+(aa.length:Int))) (IntKind.i64.wrap (wz+(aa.length:Int))) (bY++([(aD.take u54).drop l53])))else none)) p.1 p.2)else(sO aD aa k1 n1 dX (IntKind.i64.wrap (wz+1)) bY))) p.1 p.2)else(k1 dX bY))
def nX(aD:Bytes)(aa:Bytes):Option aI:=(bif (aa:Bytes)==([])then(bif room (([]:List aT).length+([[aZ aD]]).length) 16 then(some (([]:aI)++([aD])))else none)else(sO aD aa (fun(wV:Int) (cM:aI)=>((yG aD.length (some (aB wV)) none).bind fun p=>(fun l57 u58=>(bif room ((cM.map tx).length+([[aZ ((aD.take u58).drop l57)]]).length) 16 then(some (cM++([(aD.take u58).drop l57])))else none)) p.1 p.2)) fuel 0 0 ([]:aI)))
def FY(aD:Bytes)(aa:Bytes)(dX:Int)(wz:Int)(W2:List aT):St:=⟨[(0,aZ aD),(1,aZ aa),(5,b9 0),(6,aB dX),(7,aB wz)],[af 9 1 W2]⟩
theorem NO(hZ:Z.nt=51){aD:Bytes}{aa:Bytes}{r:aI}{k1:Int->aI->Option aI}(eC:∀(wV:Int) (cM:aI),k1 wV cM=some r->Ax Z N f233 (AG r) [1,1,1,1,1] ⟨[(0,aZ aD),(5,b9 0),(6,aB wV)],[af 9 1 (cM.map tx)]⟩):∀(n1:Nat) (dX:Int) (wz:Int) (bY:aI),sO aD aa k1 n1 dX wz bY=some r->Ar Z N f233 (AG r) [1,1,1,1,0,1,0] n1 (FY aD aa dX wz (bY.map tx)):=by
 intro n
 induction n with
 |zero=>intro dX wz bY h;simp[sO]at h
 |succ n1 ih1=>
  intro dX wz bY h;rw[sO]at h;refine aV fun N1 cq cS=>?_
  obtain⟨h48,h⟩|⟨h48,h⟩:=aK h
  ·obtain⟨⟨l49,u50⟩,h51,h⟩:=aH h;have fG:=(((aY.b h48).w h51).a [.cut l49 u50])
   obtain⟨h52,h⟩|⟨h52,h⟩:=aK h
   ·obtain⟨⟨l53,u54⟩,h55,h⟩:=aH h;obtain⟨h56,h⟩:=bf h;exact((((fG.b h52).w h55).w (cA h56)).a [.cut l53 u54,.cn [0,1,5,6,7] [2]]).cs hZ cS (FY aD aa (IntKind.i64.wrap (wz+(aa.length:Int))) (IntKind.i64.wrap (wz+(aa.length:Int))) ((bY.map tx)++([[aZ ((aD.take u54).drop l53)]]))) (by first| (simp only[mA]<;>rfl)| (simp only[mA,aC.c,aW.c,aS.c,Action.c,aN.c,aQ.c,ai.c,ah.c,Node.c,aF.c,di.c]<;>rfl)) (ih1 (IntKind.i64.wrap (wz+(aa.length:Int))) (IntKind.i64.wrap (wz+(aa.length:Int))) (bY++([(aD.take u54).drop l53])) h)
   ·exact((fG.b h52).a [.cn [0,1,5,6,7] [0]]).cf hZ cS (ih1 dX (IntKind.i64.wrap (wz+1)) bY h)
  ·exact((aY.b h48).a [.hl 0 [0,5,6] [0]]).ex hZ cq (eC dX bY h)
theorem iM{aD:Bytes}{aa:Bytes}{r:aI}(h:nX aD aa=some r):Good prog 233 [aZ aD,aZ aa] (cW 9 1 (r.map tx)):=by
 refine gd func233 CU 51 fun hr Z hZ=>?_
 rw[nX]at h;obtain⟨h1,h⟩|⟨h1,h⟩:=aK h
 ·obtain⟨h2,h⟩:=bf h;cases h;exact(((aY.a [.L5 4]).b h1).w (cA h2)).rts hZ (cW 9 1 (([]:List aT)++([[aZ aD]]))) (by first|rfl| (simp only[mA]<;>rfl))
 ·refine(((aY.a [.L5 4]).b h1).a [.cn [0,1,5,6,7] [1]]).lp hZ (NO hZ (fun wV cM h=>?_) fuel 0 0 ([]:aI) h);obtain⟨⟨l57,u58⟩,h59,h⟩:=aH h;obtain⟨h60,h⟩:=bf h;cases h;exact(((aY.w h59).w (cA h60)).a [.cut l57 u58]).rts hZ (cW 9 1 ((cM.map tx)++([[aZ ((aD.take u58).drop l57)]]))) (by first|rfl| (simp only[mA]<;>rfl)| (simp only[mA,cD]<;>rfl))
def jH(k1:Option Bytes):Nat->Int->Bytes->Option Bytes
 |0,_,_=>none
 |n1+1,IG,oL=>(bif decide (0<=(IG:Int))&&decide (0<(10:Int))then(bif decide (([UInt8.ofNat (IntKind.u8.wrap (IntKind.i64.wrap (48+((IG:Int)%10)))).toNat]:Bytes).length+(oL:Bytes).length<=maxLen)then(bif decide (0<=(IG:Int))&&decide (0<(10:Int))then(bif ((IG:Int)/10:Int)==0 then(some (([UInt8.ofNat (IntKind.u8.wrap (IntKind.i64.wrap (48+((IG:Int)%10)))).toNat])++oL))else(jH k1 n1 ((IG:Int)/10) (([UInt8.ofNat (IntKind.u8.wrap (IntKind.i64.wrap (48+((IG:Int)%10)))).toNat])++oL)))else none)else none)else none)
def ij:Nat->Int->Option Bytes
 |0,_=>none
 |m_+1,aD=>(bif (aD:Int)==(-9223372036854775808)then(some ([45,57,50,50,51,51,55,50,48,51,54,56,53,52,55,55,53,56,48,56]))else(bif decide ((aD:Int)<0)then((ij m_ (IntKind.i64.wrap (0-aD))).bind fun y3=>(bif decide (([45]:Bytes).length+(y3:Bytes).length<=maxLen)then(some (([45])++y3))else none))else(jH none fuel aD ([]))))
def GD(IG:Int)(oL:Bytes):St:=⟨[(0,aB IG),(3,aZ oL)],[]⟩
theorem F8(hZ:Z.nt=25){r:Bytes}{k1:Option Bytes}(eC:k1=some r->Ax Z N f135 (.q bZ (aZ r)) [1,1,1,1,0,0] ⟨[],[]⟩):∀(n1:Nat) (IG:Int) (oL:Bytes),jH k1 n1 IG oL=some r->Ar Z N f135 (.q bZ (aZ r)) [1,1,1,1,0] n1 (GD IG oL):=by
 intro n
 induction n with
 |zero=>intro IG oL h;simp[jH]at h
 |succ n1 ih1=>
  intro IG oL h;rw[jH]at h;refine aV fun N1 cq cS=>?_
  obtain⟨h14,h⟩:=bf h;obtain⟨h15,h⟩:=bf h;obtain⟨h16,h⟩:=bf h;have fG:=(((aY.w (TW .i64 h14)).w (bh h15)).w (TW .i64 h16))
  obtain⟨h17,h⟩|⟨h17,h⟩:=aK h
  ·cases h;exact(fG.b h17).rts hZ (aZ (([UInt8.ofNat (IntKind.u8.wrap (IntKind.i64.wrap (48+((IG:Int)%10)))).toNat])++oL)) (by first|rfl| (simp only[mA]<;>rfl))
  ·exact((fG.b h17).a [.cn [0,3] []]).cf hZ cS (ih1 ((IG:Int)/10) (([UInt8.ofNat (IntKind.u8.wrap (IntKind.i64.wrap (48+((IG:Int)%10)))).toNat])++oL) h)
theorem E4{m_:Nat}(ihR:∀ {aD:Int} {r:Bytes},ij m_ aD=some r->Good prog 135 [aB aD] (aZ r)){aD:Int}{r:Bytes}(h:ij (m_+1) aD=some r):Good prog 135 [aB aD] (aZ r):=by
 refine gd func135 bZ 25 fun hr Z hZ=>?_
 rw[ij]at h;obtain⟨h1,h⟩|⟨h1,h⟩:=aK h
 ·cases h;exact(aY.b h1).ret hZ
 ·obtain⟨h2,h⟩|⟨h2,h⟩:=aK h
  ·obtain⟨y3,h4,h⟩:=aH h;obtain⟨h5,h⟩:=bf h;cases h;exact((((aY.b h1).b h2).g (ihR h4)).w (bh h5)).rts hZ (aZ (([45])++y3)) (by first|rfl| (simp only[mA]<;>rfl))
  ·refine(((aY.b h1).b h2).a [.cn [0,3] []]).lp hZ (F8 hZ (fun h=>?_) fuel aD ([]) h);cases h
theorem yR:∀(m_:Nat) {aD:Int} {r:Bytes},ij m_ aD=some r->Good prog 135 [aB aD] (aZ r)
 |0,_,_,h=>by cases h
 |m_+1,_,_,h=>E4 (fun h=>yR m_ h) h
def kG(aD:Int):Option Bytes:=ij fuel aD
theorem oS{aD:Int}{r:Bytes}(h:kG aD=some r):Good prog 135 [aB aD] (aZ r):=yR fuel h
def jf(aD:Bytes)(k1:Int->Option (Int×Bool)):Nat->Int->Int->Option (Int×Bool)
 |0,_,_=>none
 |n1+1,qA,zM=>(bif decide ((zM:Int)<(aD.length:Int))then((gA aD zM).bind fun b25=>(bif decide ((b25.toNat:Int)<48)then(some (0,false))else(bif decide ((b25.toNat:Int)>57)then(some (0,false))else(jf aD k1 n1 (IntKind.i64.wrap ((IntKind.i64.wrap (10*qA))+(IntKind.i64.wrap (IntKind.u8.wrap (b25.toNat-48))))) (IntKind.i64.wrap (zM+1))))))else(k1 qA))
def oF(aD:Bytes):Option (Int×Bool):=((mo (aD.length:Int) 1 4).bind fun y1=>(bif !(y1)then(some (0,false))else(jf aD (fun(a0B:Int)=>((kG a0B).bind fun Dm=>(bif !((Dm:Bytes)==aD)then(some (0,false))else(some (a0B,true))))) fuel 0 0)))
def KN(aD:Bytes)(qA:Int)(zM:Int):St:=⟨[(0,aZ aD),(4,aB qA),(5,aB zM)],[]⟩
def aAF(r:Int×Bool):Kd:=.q OO (D.iz [aB r.1,bQ r.2])
theorem JK(hZ:Z.nt=39){aD:Bytes}{r:Int×Bool}{k1:Int->Option (Int×Bool)}(eC:∀(a0B:Int),k1 a0B=some r->Ax Z N f204 (aAF r) [1,1,1,1] ⟨[(0,aZ aD),(4,aB a0B)],[]⟩):∀(n1:Nat) (qA:Int) (zM:Int),jf aD k1 n1 qA zM=some r->Ar Z N f204 (aAF r) [1,1,1,0,1,0] n1 (KN aD qA zM):=by
 intro n
 induction n with
 |zero=>intro qA zM h;simp[jf]at h
 |succ n1 ih1=>
  intro qA zM h;rw[jf]at h;refine aV fun N1 cq cS=>?_
  obtain⟨h24,h⟩|⟨h24,h⟩:=aK h
  ·obtain⟨b25,h26,h⟩:=aH h;have jR:=((aY.b h24).c h26)
   obtain⟨h27,h⟩|⟨h27,h⟩:=aK h
   ·cases h;exact((jR.r 5 h27).T 1).ret hZ
   ·have k6:=(((jR.r 3 h27).c h26).r 2 h27)
    obtain⟨h28,h⟩|⟨h28,h⟩:=aK h
    ·cases h;exact(k6.b h28).ret hZ
    ·exact(((k6.b h28).c h26).a [.cn [0,4,5] []]).cf hZ cS (ih1 (IntKind.i64.wrap ((IntKind.i64.wrap (10*qA))+(IntKind.i64.wrap (IntKind.u8.wrap (b25.toNat-48))))) (IntKind.i64.wrap (zM+1)) h)
  ·exact((aY.b h24).a [.hl 0 [0,4] []]).ex hZ cq (eC qA h)
theorem sr{aD:Bytes}{r:Int×Bool}(h:oF aD=some r):Good prog 204 [aZ aD] (D.iz [aB r.1,bQ r.2]):=by
 refine gd func204 OO 39 fun hr Z hZ=>?_
 rw[oF]at h;obtain⟨y1,h2,h⟩:=aH h;obtain⟨h3,h⟩|⟨h3,h⟩:=aK h
 ·cases h;exact((aY.g (iG h2)).b h3).ret hZ
 ·refine(((aY.g (iG h2)).b h3).a [.cn [0,4,5] []]).lp hZ (JK hZ (fun a0B h=>?_) fuel 0 0 h);obtain⟨Dm,h30,h⟩:=aH h;obtain⟨h31,h⟩|⟨h31,h⟩:=aK h
  ·cases h;exact((aY.g (oS h30)).b h31).ret hZ
  ·cases h;exact((aY.g (oS h30)).b h31).ret hZ
def DV(aD:Int):Option Bytes:=(bif (aD:Int)==3 then(some ([32,61,32]))else(bif (aD:Int)==4 then(some ([32,33,61,32]))else(some ([32,60,32]))))
theorem KX{aD:Int}{r:Bytes}(h:DV aD=some r):Good prog 260 [aB aD] (aZ r):=by
 refine gd func260 bZ 8 fun hr Z hZ=>?_
 rw[DV]at h;obtain⟨h1,h⟩|⟨h1,h⟩:=aK h
 ·cases h;exact(aY.b h1).ret hZ
 ·obtain⟨h2,h⟩|⟨h2,h⟩:=aK h
  ·cases h;exact((aY.b h1).b h2).ret hZ
  ·cases h;exact((aY.b h1).b h2).ret hZ
def CC(aD:Bytes):Option (Bytes×aI×Bool):=((nX aD ([40])).bind fun y1=>(bif (((y1.map tx).length:Int):Int) != 2 then(some ([],[],false))else((gA y1 (1:Int)).bind fun x4=>(bif ((x4.length:Int):Int)==0 then(some ([],[],false))else((gA x4 (IntKind.i64.wrap ((x4.length:Int)-1))).bind fun b7=>(bif (b7.toNat:Int) != 41 then(some ([],[],false))else((yG x4.length none (some (aB (IntKind.i64.wrap ((x4.length:Int)-1))))).bind fun p=>(fun l10 u11=>(bif ((x4.take u11).drop l10:Bytes)==([])then((gA y1 (0:Int)).bind fun x14=>(some (x14,([]:aI),true)))else((gA y1 (0:Int)).bind fun x16=>((nX ((x4.take u11).drop l10) ([44])).bind fun P3=>(some (x16,P3,true)))))) p.1 p.2)))))))
theorem BM{aD:Bytes}{r:Bytes×aI×Bool}(h:CC aD=some r):Good prog 275 [aZ aD] (D.iz [aZ r.1,cW 9 1 (r.2.1.map tx),bQ r.2.2]):=by
 refine gd func275 [[none],[some (9,1)],[none]] 51 fun hr Z hZ=>?_
 rw[CC]at h;obtain⟨y1,h2,h⟩:=aH h;have lC:=((aY.g (iM h2)).a [.n 19])
 obtain⟨h3,h⟩|⟨h3,h⟩:=aK h
 ·cases h;exact((lC.r 6 h3).T 12).ret hZ
 ·obtain⟨x4,h5,h⟩:=aH h;have fG:=(((((lC.r 2 h3).i (fI tx 1 h5)).b h3).o 1 1 .uq (cL tx (dw h5))).r 3 h3)
  obtain⟨h6,h⟩|⟨h6,h⟩:=aK h
  ·cases h;exact((fG.r 11 h6).T 1).ret hZ
  ·obtain⟨b7,h8,h⟩:=aH h;have jR:=(((((((((((fG.r 2 h6).i (fI tx 1 h5)).b h6).o 1 1 .uq (cL tx (dw h5))).r 2 h6).i (fI tx 1 h5)).b h6).o 1 1 .uq (cL tx (dw h5))).r 3 h6).c h8).r 2 h6)
   obtain⟨h9,h⟩|⟨h9,h⟩:=aK h
   ·cases h;exact(jR.b h9).ret hZ
   ·obtain⟨⟨l10,u11⟩,h12,h⟩:=aH h;have k6:=((((((((jR.b h9).a [.n 8]).i (fI tx 1 h5)).o 1 1 .uq (cL tx (dw h5))).i (fI tx 1 h5)).o 1 1 .uq (cL tx (dw h5))).w h12).a [.cut l10 u11])
    obtain⟨h13,h⟩|⟨h13,h⟩:=aK h
    ·obtain⟨x14,h15,h⟩:=aH h;cases h;exact(((k6.b h13).i (fI tx 1 h15)).o 1 1 .uq (cL tx (dw h15))).ret hZ
    ·obtain⟨x16,h17,P3,h19,h⟩:=bR h;cases h;exact(((((k6.b h13).a [.n 5]).i (fI tx 1 h17)).o 1 1 .uq (cL tx (dw h17))).g (iM h19)).ret hZ
def kp(aD:Bytes):Option (aC×Bool):=((CC aD).bind fun y1=>(bif !(y1.2.2)then(some ((⟨[],[]⟩:aC),false))else((j9 (⟨y1.1,y1.2.1⟩:aC)).bind fun y4=>(bif !(y4)then(some ((⟨[],[]⟩:aC),false))else(some ((⟨y1.1,y1.2.1⟩:aC),true))))))
theorem lN{aD:Bytes}{r:aC×Bool}(h:kp aD=some r):Good prog 261 [aZ aD] (D.iz [bw [aZ r.1.rel,cW 9 1 (r.1.args.map tx)],bQ r.2]):=by
 refine gd func261 [[none,some (9,1)],[none]] 26 fun hr Z hZ=>?_
 rw[kp]at h;obtain⟨y1,h2,h⟩:=aH h;obtain⟨h3,h⟩|⟨h3,h⟩:=aK h
 ·cases h;exact(((aY.g (BM h2)).r 4 h3).T 1).ret hZ
 ·obtain⟨y4,h5,h⟩:=aH h;have lC:=(((((aY.g (BM h2)).r 2 h3).a [.d (bQ y4)]).w (show Good prog 157 [bw [aZ y1.1,bX (y1.2.1.map tx)]] (bQ y4)from by first| (simpa only[bI,bA,cF,cD,cI]using fo h5)|exact fo h5| (have t:=fo h5;simp only[bI,cD,cI,aC.c]at t;exact t))).r 2 h3)
  obtain⟨h6,h⟩|⟨h6,h⟩:=aK h
  ·cases h;exact(lC.b h6).ret hZ
  ·cases h;exact(lC.b h6).ret hZ
def o9(aD:Bytes)(k1:Option (aS×Bool)):Nat->Int->Option (aS×Bool)
 |0,_=>none
 |n1+1,qA=>(bif decide ((qA:Int)<=5)then((DV qA).bind fun Cg=>((nX aD Cg).bind fun B5=>(bif (((B5.map tx).length:Int):Int)==2 then((gA B5 (0:Int)).bind fun x33=>((gA B5 (1:Int)).bind fun x35=>((rD (⟨qA,(⟨[],[]⟩:aC),x33,x35⟩:aS)).bind fun PS=>(bif PS then(some ((⟨qA,(⟨[],[]⟩:aC),x33,x35⟩:aS),true))else(o9 aD k1 n1 (IntKind.i64.wrap (qA+1)))))))else(o9 aD k1 n1 (IntKind.i64.wrap (qA+1))))))else(k1))
def zi(aD:Bytes):Option (aS×Bool):=(o9 aD (bif decide (((aD.length:Int):Int)>4)then((yG aD.length none (some (aB 4))).bind fun p=>(fun l41 u42=>(bif ((aD.take u42).drop l41:Bytes)==([110,111,116,32])then((yG aD.length (some (aB 4)) none).bind fun p=>(fun l45 u46=>((kp ((aD.take u46).drop l45)).bind fun y48=>(bif !(y48.2)then(some ((⟨0,(⟨[],[]⟩:aC),[],[]⟩:aS),false))else(some ((⟨2,y48.1,[],[]⟩:aS),true))))) p.1 p.2)else((kp aD).bind fun y51=>(bif !(y51.2)then(some ((⟨0,(⟨[],[]⟩:aC),[],[]⟩:aS),false))else(some ((⟨1,y51.1,[],[]⟩:aS),true)))))) p.1 p.2)else((kp aD).bind fun Mt=>(bif !(Mt.2)then(some ((⟨0,(⟨[],[]⟩:aC),[],[]⟩:aS),false))else(some ((⟨1,Mt.1,[],[]⟩:aS),true))))) fuel 3)
def JJ(aD:Bytes)(qA:Int):St:=⟨[(0,aZ aD),(2,bp 0 0),(4,aB qA)],[bu [aB 0,aZ ([]),D.nil,aZ ([]),aZ ([])]]⟩
def aAG(r:aS×Bool):Kd:=.q [[none,none,some (9,1),none,none],[none]] (D.iz [bw [aB r.1.kind,aZ r.1.pat.rel,cW 9 1 (r.1.pat.args.map tx),aZ r.1.left,aZ r.1.right],bQ r.2])
theorem HZ(hZ:Z.nt=55){aD:Bytes}{r:aS×Bool}{k1:Option (aS×Bool)}(eC:k1=some r->Ax Z N f241 (aAG r) [1,1] ⟨[(0,aZ aD),(2,bp 0 0)],[bu [aB 0,aZ ([]),D.nil,aZ ([]),aZ ([])]]⟩):∀(n1:Nat) (qA:Int),o9 aD k1 n1 qA=some r->Ar Z N f241 (aAG r) [1,0,1,0] n1 (JJ aD qA):=by
 intro n
 induction n with
 |zero=>intro qA h;simp[o9]at h
 |succ n1 ih1=>
  intro qA h;rw[o9]at h;refine aV fun N1 cq cS=>?_
  obtain⟨h27,h⟩|⟨h27,h⟩:=aK h
  ·obtain⟨Cg,h29,B5,h31,h⟩:=bR h;have jR:=(((aY.b h27).g (KX h29)).g (iM h31))
   obtain⟨h32,h⟩|⟨h32,h⟩:=aK h
   ·obtain⟨x33,h34,x35,h36,PS,h38,h⟩:=gX h;have k6:=((((((((jR.b h32).a [.n 9]).i (fI tx 1 h34)).o 1 1 .uq (cL tx (dw h34))).i (fI tx 1 h36)).o 1 1 .uq (cL tx (dw h36))).a [.d (bQ PS)]).w (show Good prog 189 [bw [aB qA,aZ ([]),bX ([]),aZ x33,aZ x35]] (bQ PS)from by first| (simpa only[bI,bA,cF,cD,cI]using je h38)|exact je h38| (have t:=je h38;simp only[bI,cD,cI,aS.c]at t;exact t)))
    obtain⟨h39,h⟩|⟨h39,h⟩:=aK h
    ·cases h;exact(k6.b h39).ret hZ
    ·exact((k6.b h39).a [.cn [0,2,4] [0]]).cf hZ cS (ih1 (IntKind.i64.wrap (qA+1)) h)
   ·exact((jR.b h32).a [.cn [0,2,4] [0]]).cf hZ cS (ih1 (IntKind.i64.wrap (qA+1)) h)
  ·exact((aY.b h27).a [.hl 0 [0,2] [0]]).ex hZ cq (eC h)
theorem GH{aD:Bytes}{r:aS×Bool}(h:zi aD=some r):Good prog 241 [aZ aD] (D.iz [bw [aB r.1.kind,aZ r.1.pat.rel,cW 9 1 (r.1.pat.args.map tx),aZ r.1.left,aZ r.1.right],bQ r.2]):=by
 refine gd func241 [[none,none,some (9,1),none,none],[none]] 55 fun hr Z hZ=>?_
 rw[zi]at h;refine(aY.a [.cn [0,2,4] [0]]).lp hZ (HZ hZ (fun h=>?_) fuel 3 h);obtain⟨h40,h⟩|⟨h40,h⟩:=aK h
 ·obtain⟨⟨l41,u42⟩,h43,h⟩:=aH h;have ud:=((((aY.r 2 h40).w h43).a [.cut l41 u42]).r 2 h40)
  obtain⟨h44,h⟩|⟨h44,h⟩:=aK h
  ·obtain⟨⟨l45,u46⟩,h47,h⟩:=aH h;obtain⟨y48,h49,h⟩:=aH h;have xg:=((((ud.b h44).w h47).a [.cut l45 u46]).g (lN h49))
   obtain⟨h50,h⟩|⟨h50,h⟩:=aK h
   ·cases h;exact(xg.b h50).ret hZ
   ·cases h;exact(xg.b h50).ret hZ
  ·obtain⟨y51,h52,h⟩:=aH h;have Ak:=((ud.b h44).g (lN h52))
   obtain⟨h53,h⟩|⟨h53,h⟩:=aK h
   ·cases h;exact(Ak.b h53).ret hZ
   ·cases h;exact(Ak.b h53).ret hZ
 ·obtain⟨Mt,h55,h⟩:=aH h;have Fc:=(((aY.r 4 h40).F 1).g (lN h55))
  obtain⟨h56,h⟩|⟨h56,h⟩:=aK h
  ·cases h;exact(Fc.b h56).ret hZ
  ·cases h;exact(Fc.b h56).ret hZ
def Ay(aD:Bytes):Option (Action×Bool):=(bif (aD:Bytes)==([115,116,111,112])then(some ((⟨3,(⟨[],[]⟩:aC)⟩:Action),true))else((nX aD ([32])).bind fun y2=>(bif (((y2.map tx).length:Int):Int) != 2 then(some ((⟨0,(⟨[],[]⟩:aC)⟩:Action),false))else((gA y2 (0:Int)).bind fun x5=>(bif !((x5:Bytes)==([97,100,100]))then(bif !((x5:Bytes)==([100,114,111,112]))then(some ((⟨0,(⟨[],[]⟩:aC)⟩:Action),false))else((gA y2 (1:Int)).bind fun x9=>((kp x9).bind fun yc=>(bif (x5:Bytes)==([97,100,100])then(some ((⟨1,yc.1⟩:Action),yc.2))else(some ((⟨2,yc.1⟩:Action),yc.2))))))else((gA y2 (1:Int)).bind fun x14=>((kp x14).bind fun PR=>(bif (x5:Bytes)==([97,100,100])then(some ((⟨1,PR.1⟩:Action),PR.2))else(some ((⟨2,PR.1⟩:Action),PR.2))))))))))
theorem Ho{aD:Bytes}{r:Action×Bool}(h:Ay aD=some r):Good prog 242 [aZ aD] (D.iz [bw [aB r.1.kind,aZ r.1.pat.rel,cW 9 1 (r.1.pat.args.map tx)],bQ r.2]):=by
 refine gd func242 [[none,none,some (9,1)],[none]] 45 fun hr Z hZ=>?_
 rw[Ay]at h;obtain⟨h1,h⟩|⟨h1,h⟩:=aK h
 ·cases h;exact(aY.b h1).ret hZ
 ·obtain⟨y2,h3,h⟩:=aH h;have lC:=((aY.b h1).g (iM h3))
  obtain⟨h4,h⟩|⟨h4,h⟩:=aK h
  ·cases h;exact((((lC.r 5 h4).a [bF,bF,bF,bF]).r 2 h4).T 1).ret hZ
  ·obtain⟨x5,h6,h⟩:=aH h;have fG:=(((((lC.r 2 h4).i (fI tx 1 h6)).b h4).o 1 1 .uq (cL tx (dw h6))).r 2 h4)
   obtain⟨h7,h⟩|⟨h7,h⟩:=aK h
   ·have jR:=((((((((fG.r 2 h7).i (fI tx 1 h6)).b h7).o 1 1 .uq (cL tx (dw h6))).b h7).b h4).b h7).b h4)
    obtain⟨h8,h⟩|⟨h8,h⟩:=aK h
    ·cases h;exact(jR.b h8).ret hZ
    ·obtain⟨x9,h10,yc,h12,h⟩:=bR h;have k6:=((((((jR.b h8).i (fI tx 1 h10)).o 1 1 .uq (cL tx (dw h10))).g (lN h12)).i (fI tx 1 h6)).o 1 1 .uq (cL tx (dw h6)))
     obtain⟨h13,h⟩|⟨h13,h⟩:=aK h
     ·cases h;exact(k6.b h13).ret hZ
     ·cases h;exact(k6.b h13).ret hZ
   ·obtain⟨x14,h15,PR,h17,h⟩:=bR h;have ud:=((((((((((fG.r 4 h7).b h4).b h7).b h4).F 1).i (fI tx 1 h15)).o 1 1 .uq (cL tx (dw h15))).g (lN h17)).i (fI tx 1 h6)).o 1 1 .uq (cL tx (dw h6)))
    obtain⟨h18,h⟩|⟨h18,h⟩:=aK h
    ·cases h;exact(ud.b h18).ret hZ
    ·cases h;exact(ud.b h18).ret hZ
def tA(aD:aN)(cv:Bytes)(y1:aI)(k1:ay->Option (aN×Bool)):aI->Nat->ay->Option (aN×Bool)
 | [],i1,dh=>(k1 dh)
 |bg::cj,i1,dh=>((zi bg).bind fun Fk=>(bif !(Fk.2)then(some ((⟨aD.name,aD.prio,dh,[]⟩:aN),false))else(bif room ((dh.map aS.c).length+([[aB Fk.1.kind,aZ Fk.1.pat.rel,bX (Fk.1.pat.args.map tx),aZ Fk.1.left,aZ Fk.1.right]]).length) 80 then(tA aD cv y1 k1 cj (i1+1) (dh++([Fk.1])))else none)))
def tB(aD:aN)(r9:ay)(FQ:aI)(k2:fB->Option (aN×Bool)):aI->Nat->fB->Option (aN×Bool)
 | [],i2,lY=>(k2 lY)
 |jM::tL,i2,lY=>((Ay jM).bind fun Ci=>(bif !(Ci.2)then(some ((⟨aD.name,aD.prio,r9,lY⟩:aN),false))else(bif room ((lY.map Action.c).length+([[aB Ci.1.kind,aZ Ci.1.pat.rel,bX (Ci.1.pat.args.map tx)]]).length) 48 then(tB aD r9 FQ k2 tL (i2+1) (lY++([Ci.1])))else none)))
def CH(aD:aN)(aa:Bytes)(cv:Bytes):Option (aN×Bool):=((nX aa ([32,38,32])).bind fun y1=>(bif decide (y1.length<=maxLen)then(tA aD cv y1 (fun(r9:ay)=>((nX cv ([32,38,32])).bind fun FQ=>(bif decide (FQ.length<=maxLen)then(tB aD r9 FQ (fun(yH:fB)=>((pN (⟨aD.name,aD.prio,r9,yH⟩:aN)).bind fun y77=>(some ((⟨aD.name,aD.prio,r9,yH⟩:aN),y77)))) FQ 0 ([]:fB))else none))) y1 0 ([]:ay))else none))
def D7(aD:aN)(cv:Bytes)(y1:aI)(W0:List aT)(dL:Int):St:=⟨[(2,aZ cv),(3,bp 0 0),(6,bp 1 0),(8,b9 2),(9,aB dL)],[bu [aZ aD.name,aB aD.prio,b9 3,D.nil],bu [aZ ([]),aB 0,D.nil,D.nil],af 9 1 (y1.map tx),af 71 5 W0]⟩
def a4I(r:aN×Bool):Kd:=.q a2K (D.iz [bw [aZ r.1.name,aB r.1.prio,cW 71 5 (r.1.conds.map aS.c),cW 154 3 (r.1.dD.map Action.c)],bQ r.2])
theorem Ka(hZ:Z.nt=69){aD:aN}{cv:Bytes}{y1:aI}{r:aN×Bool}{k1:ay->Option (aN×Bool)}(eC:∀(r9:ay),k1 r9=some r->Ax Z N f234 (a4I r) [1,1,1] ⟨[(2,aZ cv),(3,bp 0 0),(6,bp 1 0)],[bu [aZ aD.name,aB aD.prio,b9 2,D.nil],bu [aZ ([]),aB 0,D.nil,D.nil],af 71 5 (r9.map aS.c)]⟩)(hm1:y1.length<=maxLen):∀(rest:aI) (i1:Nat) (dh:ay),y1.drop i1=rest->tA aD cv y1 k1 rest i1 dh=some r->Ar Z N f234 (a4I r) [1,1,0,1,0] (rest.length+1) (D7 aD cv y1 (dh.map aS.c) (i1:Int)):=by
 intro rest
 induction rest with
 |nil=>
  intro i1 dh bB h;rw[tA]at h;refine aV fun N1 cq cS=>?_
  exact((aY.ge tx bB).a [.hl 0 [2,3,6] [0,1,3]]).ex hZ cq (eC dh h)
 |cons bg cj ih1=>
  intro i1 dh bB h;rw[tA]at h;refine aV fun N1 cq cS=>?_
  obtain⟨Fk,h36,h⟩:=aH h;have jR:=((((aY.lt tx bB).i (fH tx 1 (dc bB))).o 1 1 .uq (cL tx (dc bB))).g (GH h36))
  obtain⟨h37,h⟩|⟨h37,h⟩:=aK h
  ·cases h;exact(jR.b h37).ret hZ
  ·obtain⟨h38,h⟩:=bf h;exact(((jR.b h37).w (cA h38)).a [.cn [2,3,6,8,9] [0,1,2,7]]).cs hZ cS (D7 aD cv y1 ((dh.map aS.c)++([[aB Fk.1.kind,aZ Fk.1.pat.rel,bX (Fk.1.pat.args.map tx),aZ Fk.1.left,aZ Fk.1.right]])) (IntKind.i64.wrap ((i1:Int)+1))) (by first| (simp only[iS bB hm1,mA]<;>rfl)| (simp only[iS bB hm1,mA,aC.c,aW.c,aS.c,Action.c,aN.c,aQ.c,ai.c,ah.c,Node.c,aF.c,di.c]<;>rfl)) (ih1 (i1+1) (dh++([Fk.1])) (dn bB) h)
def D8(aD:aN)(r9:ay)(FQ:aI)(W0:List aT)(dL:Int):St:=⟨[(3,bp 0 0),(6,bp 1 0),(12,b9 2),(13,aB dL)],[bu [aZ aD.name,aB aD.prio,b9 3,b9 4],bu [aZ ([]),aB 0,D.nil,D.nil],af 9 1 (FQ.map tx),af 71 5 (r9.map aS.c),af 154 3 W0]⟩
theorem Kb(hZ:Z.nt=69){aD:aN}{r9:ay}{FQ:aI}{r:aN×Bool}{k2:fB->Option (aN×Bool)}(zc:∀(yH:fB),k2 yH=some r->Ax Z N f234 (a4I r) [1,1,1,1,1] ⟨[(3,bp 0 0),(6,bp 1 0)],[bu [aZ aD.name,aB aD.prio,b9 2,b9 3],bu [aZ ([]),aB 0,D.nil,D.nil],af 71 5 (r9.map aS.c),af 154 3 (yH.map Action.c)]⟩)(hm2:FQ.length<=maxLen):∀(rest:aI) (i2:Nat) (lY:fB),FQ.drop i2=rest->tB aD r9 FQ k2 rest i2 lY=some r->Ar Z N f234 (a4I r) [1,1,1,1,0,1,0] (rest.length+1) (D8 aD r9 FQ (lY.map Action.c) (i2:Int)):=by
 intro rest
 induction rest with
 |nil=>
  intro i2 lY hd2 h;rw[tB]at h;refine aV fun N2 uY qt=>?_
  exact((aY.ge tx hd2).a [.hl 0 [3,6] [0,1,3,4]]).ex hZ uY (zc lY h)
 |cons jM tL ih2=>
  intro i2 lY hd2 h;rw[tB]at h;refine aV fun N2 uY qt=>?_
  obtain⟨Ci,h74,h⟩:=aH h;have k6:=((((aY.lt tx hd2).i (fH tx 1 (dc hd2))).o 1 1 .uq (cL tx (dc hd2))).g (Ho h74))
  obtain⟨h75,h⟩|⟨h75,h⟩:=aK h
  ·cases h;exact(k6.b h75).ret hZ
  ·obtain⟨h76,h⟩:=bf h;exact(((k6.b h75).w (cA h76)).a [.cn [3,6,12,13] [0,1,2,3,8]]).cs hZ qt (D8 aD r9 FQ ((lY.map Action.c)++([[aB Ci.1.kind,aZ Ci.1.pat.rel,bX (Ci.1.pat.args.map tx)]])) (IntKind.i64.wrap ((i2:Int)+1))) (by first| (simp only[iS hd2 hm2,mA]<;>rfl)| (simp only[iS hd2 hm2,mA,aC.c,aW.c,aS.c,Action.c,aN.c,aQ.c,ai.c,ah.c,Node.c,aF.c,di.c]<;>rfl)) (ih2 (i2+1) (lY++([Ci.1])) (dn hd2) h)
theorem xH{aD:aN}{aa:Bytes}{cv:Bytes}{r:aN×Bool}(h:CH aD aa cv=some r):Good prog 234 [bw [aZ aD.name,aB aD.prio,D.nil,D.nil],aZ aa,aZ cv] (D.iz [bw [aZ r.1.name,aB r.1.prio,cW 71 5 (r.1.conds.map aS.c),cW 154 3 (r.1.dD.map Action.c)],bQ r.2]):=by
 refine gd func234 a2K 69 fun hr Z hZ=>?_
 rw[CH]at h;obtain⟨y1,h2,h⟩:=aH h;obtain⟨h80,h⟩:=bf h;refine((aY.g (iM h2)).a [.pb 0 2 71 5,.cn [2,3,6,8,9] [0,1,2,3]]).lp hZ (Ka hZ (fun r9 h=>?_) (bh h80) y1 0 ([]:ay) rfl h);obtain⟨FQ,h40,h⟩:=aH h;obtain⟨h79,h⟩:=bf h;refine((aY.g (iM h40)).a [.pb 0 3 154 3,.cn [3,6,12,13] [0,1,3,2,4]]).lp hZ (Kb hZ (fun yH h=>?_) (bh h79) FQ 0 ([]:fB) rfl h);obtain⟨y77,h78,h⟩:=aH h;cases h;exact((aY.a [.n 3,.d (bQ y77)]).w (show Good prog 128 [bw [aZ aD.name,aB aD.prio,bX (r9.map aS.c),bX (yH.map Action.c)]] (bQ y77)from by first| (simpa only[bI,bA,cF,cD,cI]using gV h78)|exact gV h78| (have t:=gV h78;simp only[bI,cD,cI,aN.c]at t;exact t))).ret hZ
def rQ(aD:Bytes):Option (aN×Bool):=((nX aD ([58,32])).bind fun y1=>(bif (((y1.map tx).length:Int):Int) != 2 then(some ((⟨[],0,[],[]⟩:aN),false))else((gA y1 (0:Int)).bind fun x4=>((nX x4 ([32])).bind fun y6=>((gA y1 (1:Int)).bind fun x8=>((nX x8 ([32,45,62,32])).bind fun GZ=>(bif (((y6.map tx).length:Int):Int) != 2 then(some ((⟨[],0,[],[]⟩:aN),false))else(bif (((GZ.map tx).length:Int):Int) != 2 then(some ((⟨[],0,[],[]⟩:aN),false))else((gA y6 (1:Int)).bind fun x14=>((oF x14).bind fun PR=>(bif !(PR.2)then(some ((⟨[],0,[],[]⟩:aN),false))else((gA y6 (0:Int)).bind fun x19=>((gA GZ (0:Int)).bind fun x21=>((gA GZ (1:Int)).bind fun x23=>((CH (⟨x19,PR.1,[],[]⟩:aN) x21 x23).bind fun xo=>(bif !(xo.2)then(some ((⟨[],0,[],[]⟩:aN),false))else(some (xo.1,true))))))))))))))))))
theorem GI{aD:Bytes}{r:aN×Bool}(h:rQ aD=some r):Good prog 222 [aZ aD] (D.iz [bw [aZ r.1.name,aB r.1.prio,cW 71 5 (r.1.conds.map aS.c),cW 154 3 (r.1.dD.map Action.c)],bQ r.2]):=by
 refine gd func222 a2K 63 fun hr Z hZ=>?_
 rw[rQ]at h;obtain⟨y1,h2,h⟩:=aH h;obtain⟨h3,h⟩|⟨h3,h⟩:=aK h
 ·cases h;exact((aY.g (iM h2)).b h3).ret hZ
 ·obtain⟨x4,h5,y6,h7,x8,h9,GZ,h11,h⟩:=Bi h;have lC:=((((((((aY.g (iM h2)).b h3).i (fI tx 1 h5)).o 1 1 .uq (cL tx (dw h5))).g (iM h7)).i (fI tx 1 h9)).o 1 1 .uq (cL tx (dw h9))).g (iM h11))
  obtain⟨h12,h⟩|⟨h12,h⟩:=aK h
  ·cases h;exact((lC.r 4 h12).T 1).ret hZ
  ·have fG:=(lC.r 4 h12)
   obtain⟨h13,h⟩|⟨h13,h⟩:=aK h
   ·cases h;exact(fG.b h13).ret hZ
   ·obtain⟨x14,h15,PR,h17,h⟩:=bR h;have jR:=((((fG.b h13).i (fI tx 1 h15)).o 1 1 .uq (cL tx (dw h15))).g (sr h17))
    obtain⟨h18,h⟩|⟨h18,h⟩:=aK h
    ·cases h;exact(jR.b h18).ret hZ
    ·obtain⟨x19,h20,x21,h22,x23,h24,xo,h26,h⟩:=Bi h;have k6:=((((((((((jR.b h18).a [.n 17]).i (fI tx 1 h20)).o 1 1 .uq (cL tx (dw h20))).i (fI tx 1 h22)).o 1 1 .uq (cL tx (dw h22))).i (fI tx 1 h24)).o 1 1 .uq (cL tx (dw h24))).a [.nl (D.iz [bw [aZ xo.1.name,aB xo.1.prio,cW 71 5 (xo.1.conds.map aS.c),cW 154 3 (xo.1.dD.map Action.c)],bQ xo.2])]).w (show Good prog 234 [bw [aZ x19,aB PR.1,D.nil,D.nil],aZ x21,aZ x23] (D.iz [bw [aZ xo.1.name,aB xo.1.prio,cW 71 5 (xo.1.conds.map aS.c),cW 154 3 (xo.1.dD.map Action.c)],bQ xo.2])from by first| (simpa only[bI,bA,cF,cD,cI]using xH h26)|exact xH h26| (have t:=xH h26;simp only[bI,cD,cI,aN.c]at t;exact t)))
     obtain⟨h27,h⟩|⟨h27,h⟩:=aK h
     ·cases h;exact(k6.b h27).ret hZ
     ·cases h;exact(k6.b h27).ret hZ
def pq(aD:ck)(aa:Int):Option (ck×aN):=((cg aD (TB aa ((([[114,32,49,58,32,111,110,40,63,120,44,63,121,41,32,38,32,111,110,40,63,121,44,63,122,41,32,45,62,32,97,100,100,32,111,110,40,63,120,44,63,122,41],[114,32,50,58,32,111,110,40,63,120,44,63,121,41,32,38,32,112,40,63,121,41,32,45,62,32,97,100,100,32,112,40,63,120,41],[114,32,48,58,32,112,40,63,120,41,32,38,32,111,110,40,63,120,44,63,121,41,32,38,32,63,120,32,33,61,32,63,121,32,45,62,32,97,100,100,32,97,116,40,63,121,44,63,120,41],[114,32,51,58,32,97,116,40,63,120,44,63,121,41,32,38,32,112,40,63,120,41,32,38,32,112,40,63,121,41,32,38,32,63,120,32,60,32,63,121,32,45,62,32,97,100,100,32,122,40,41],[114,32,52,58,32,111,110,40,63,120,44,97,41,32,45,62,32,97,100,100,32,113,40,63,120,41,32,38,32,97,100,100,32,112,40,97,41],[114,32,49,58,32,97,116,40,63,120,44,63,120,41,32,38,32,113,40,49,41,32,45,62,32,97,100,100,32,111,110,40,63,120,44,49,41],[114,32,49,58,32,112,40,63,120,41,32,38,32,110,111,116,32,113,40,63,120,41,32,45,62,32,97,100,100,32,97,116,40,63,120,44,98,41],[114,32,50,58,32,111,110,40,63,120,44,63,121,41,32,38,32,110,111,116,32,97,116,40,63,121,44,63,122,41,32,45,62,32,97,100,100,32,113,40,63,121,41],[114,32,53,58,32,97,116,40,63,120,44,63,121,41,32,38,32,110,111,116,32,112,40,63,121,41,32,38,32,63,120,32,33,61,32,63,121,32,45,62,32,97,100,100,32,122,40,41],[114,32,57,58,32,113,40,63,120,41,32,38,32,112,40,63,120,41,32,45,62,32,100,114,111,112,32,112,40,63,120,41],[114,32,48,58,32,97,116,40,63,120,44,49,41,32,38,32,97,116,40,63,121,44,50,41,32,38,32,63,120,32,61,32,63,121,32,45,62,32,100,114,111,112,32,97,116,40,63,120,44,49,41,32,38,32,115,116,111,112],[114,32,49,58,32,111,110,40,63,120,44,63,120,41,32,45,62,32,115,116,111,112],[114,32,55,58,32,122,40,41,32,38,32,111,110,40,63,120,44,63,121,41,32,45,62,32,100,114,111,112,32,122,40,41,32,38,32,97,100,100,32,111,110,40,63,121,44,63,120,41]]:aI).map tx).length:Int))).bind fun y1=>((gA ([[114,32,49,58,32,111,110,40,63,120,44,63,121,41,32,38,32,111,110,40,63,121,44,63,122,41,32,45,62,32,97,100,100,32,111,110,40,63,120,44,63,122,41],[114,32,50,58,32,111,110,40,63,120,44,63,121,41,32,38,32,112,40,63,121,41,32,45,62,32,97,100,100,32,112,40,63,120,41],[114,32,48,58,32,112,40,63,120,41,32,38,32,111,110,40,63,120,44,63,121,41,32,38,32,63,120,32,33,61,32,63,121,32,45,62,32,97,100,100,32,97,116,40,63,121,44,63,120,41],[114,32,51,58,32,97,116,40,63,120,44,63,121,41,32,38,32,112,40,63,120,41,32,38,32,112,40,63,121,41,32,38,32,63,120,32,60,32,63,121,32,45,62,32,97,100,100,32,122,40,41],[114,32,52,58,32,111,110,40,63,120,44,97,41,32,45,62,32,97,100,100,32,113,40,63,120,41,32,38,32,97,100,100,32,112,40,97,41],[114,32,49,58,32,97,116,40,63,120,44,63,120,41,32,38,32,113,40,49,41,32,45,62,32,97,100,100,32,111,110,40,63,120,44,49,41],[114,32,49,58,32,112,40,63,120,41,32,38,32,110,111,116,32,113,40,63,120,41,32,45,62,32,97,100,100,32,97,116,40,63,120,44,98,41],[114,32,50,58,32,111,110,40,63,120,44,63,121,41,32,38,32,110,111,116,32,97,116,40,63,121,44,63,122,41,32,45,62,32,97,100,100,32,113,40,63,121,41],[114,32,53,58,32,97,116,40,63,120,44,63,121,41,32,38,32,110,111,116,32,112,40,63,121,41,32,38,32,63,120,32,33,61,32,63,121,32,45,62,32,97,100,100,32,122,40,41],[114,32,57,58,32,113,40,63,120,41,32,38,32,112,40,63,120,41,32,45,62,32,100,114,111,112,32,112,40,63,120,41],[114,32,48,58,32,97,116,40,63,120,44,49,41,32,38,32,97,116,40,63,121,44,50,41,32,38,32,63,120,32,61,32,63,121,32,45,62,32,100,114,111,112,32,97,116,40,63,120,44,49,41,32,38,32,115,116,111,112],[114,32,49,58,32,111,110,40,63,120,44,63,120,41,32,45,62,32,115,116,111,112],[114,32,55,58,32,122,40,41,32,38,32,111,110,40,63,120,44,63,121,41,32,45,62,32,100,114,111,112,32,122,40,41,32,38,32,97,100,100,32,111,110,40,63,121,44,63,120,41]]:aI) y1.2).bind fun x3=>((rQ x3).bind fun y5=>(some (y1.1,y5.1)))))
theorem xG{aD:ck}{aa:Int}{r:ck×aN}(h:pq aD aa=some r):j0 prog 199 (ck.c aD) (ck.c r.1) [aB aa] (bw [aZ r.2.name,aB r.2.prio,cW 71 5 (r.2.conds.map aS.c),cW 154 3 (r.2.dD.map Action.c)]):=by
 refine L4 func199 Kq 23 [bX (aD.b.map yx),aB aD.i,aB aD.h] [aB aa] [] fun hr jC Z hZ=>?_
 rw[pq]at h;obtain⟨y1,h2,x3,h4,y5,h6,h⟩:=gX h;cases h;exact((((aY.hp iy (cQ h2)).i (fI tx 1 h4)).o 1 1 .uq (cL tx (dw h4))).g (GI h6)).ret hZ
def jk(y1:ck×Int)(k1:bM->Int->Int->ay->Option (ck×aN)):Nat->Int->bM->Int->Int->ay->Option (ck×aN)
 |0,_,_,_,_,_=>none
 |n1+1,qA,fL,eL,eM,dh=>(bif decide ((qA:Int)>0)then((tV (⟨fL,eL,eM⟩:ck)).bind fun Cg=>(bif room ((dh.map aS.c).length+([[aB Cg.2.kind,aZ Cg.2.pat.rel,bX (Cg.2.pat.args.map tx),aZ Cg.2.left,aZ Cg.2.right]]).length) 80 then(jk y1 k1 n1 (IntKind.i64.wrap (qA-1)) Cg.1.b Cg.1.i Cg.1.h (dh++([Cg.2])))else none))else(k1 fL eL eM dh))
def eH(y1:ck×Int)(eO:ay)(IX:aI)(uf:ck×aC)(k2:bM->Int->Int->aI->Option (ck×aN)):Nat->Int->bM->Int->Int->aI->Option (ck×aN)
 |0,_,_,_,_,_=>none
 |n2+1,EX,zx,yJ,yK,kR=>(bif decide ((EX:Int)<((kR.map tx).length:Int))then((gA kR EX).bind fun x91=>((iq x91).bind fun y93=>(bif y93 then((iF IX x91).bind fun y96=>(bif !(y96)then((jA (⟨zx,yJ,yK⟩:ck)).bind fun IK=>(eH y1 eO IX uf k2 n2 (IntKind.i64.wrap (EX+1)) IK.1.b IK.1.i IK.1.h (kR.set EX.toNat IK.2)))else(eH y1 eO IX uf k2 n2 (IntKind.i64.wrap (EX+1)) zx yJ yK kR)))else(eH y1 eO IX uf k2 n2 (IntKind.i64.wrap (EX+1)) zx yJ yK kR))))else(k2 zx yJ yK kR))
def vQ(aD:ck):Option (ck×aN):=((cg aD 4).bind fun y1=>((jy y1.1).bind fun y3=>((cg y3.1 3).bind fun y5=>(jk y1 (fun(nD:bM) (nE:Int) (nF:Int) (eO:ay)=>((mY (⟨[114],y1.2,eO,[]⟩:aN) ((eO.map aS.c).length:Int)).bind fun IX=>((jy (⟨nD,nE,nF⟩:ck)).bind fun uf=>(eH y1 eO IX uf (fun(Nr:bM) (Ns:Int) (Nt:Int) (nB:aI)=>((iv (⟨Nr,Ns,Nt⟩:ck) ([1,1,2]:bM)).bind fun Bc=>(bif room (([]:List aT).length+([[aB Bc.2,aZ uf.2.rel,bX (nB.map tx)]]).length) 48 then((eb Bc.1 6).bind fun L3=>(bif L3.2 then(bif room ((([]:List aT)++([[aB Bc.2,aZ uf.2.rel,bX (nB.map tx)]])).length+([[aB 3,aZ ([]),bX ([])]]).length) 48 then((pN (⟨[114],y1.2,eO,(([]:fB)++([(⟨Bc.2,(⟨uf.2.rel,nB⟩:aC)⟩:Action)]))++([(⟨3,(⟨[],[]⟩:aC)⟩:Action)])⟩:aN)).bind fun Dg=>(bif !(Dg)then((pq L3.1 99).bind fun O5=>(some (O5.1,O5.2)))else(some (L3.1,(⟨[114],y1.2,eO,(([]:fB)++([(⟨Bc.2,(⟨uf.2.rel,nB⟩:aC)⟩:Action)]))++([(⟨3,(⟨[],[]⟩:aC)⟩:Action)])⟩:aN)))))else none)else((pN (⟨[114],y1.2,eO,([]:fB)++([(⟨Bc.2,(⟨uf.2.rel,nB⟩:aC)⟩:Action)])⟩:aN)).bind fun a69=>(bif !(a69)then((pq L3.1 99).bind fun a9l=>(some (a9l.1,a9l.2)))else(some (L3.1,(⟨[114],y1.2,eO,([]:fB)++([(⟨Bc.2,(⟨uf.2.rel,nB⟩:aC)⟩:Action)])⟩:aN)))))))else none))) fuel 0 uf.1.b uf.1.i uf.1.h uf.2.args)))) fuel y5.2 y5.1.b y5.1.i y5.1.h ([(⟨1,y3.2,[],[]⟩:aS)])))))
def yE(jC:Value)(y1:ck×Int)(qA:Int)(eL:Int)(eM:Int)(W1:List aT)(W4:List aT):St:=⟨[(0,bp 0 0),(2,bp 1 0),(3,bp 2 0),(4,aB qA)],[Ob.CW [bX W1,aB eL,aB eM] jC,bu [aZ ([]),aB 0,D.nil,D.nil],bu [aZ ([114]),aB y1.2,b9 3,D.nil],af 71 5 W4]⟩
theorem JU(hZ:Z.nt=88){jC:Value}{y1:ck×Int}{r:ck×aN}{k1:bM->Int->Int->ay->Option (ck×aN)}(eC:∀(nD:bM) (nE:Int) (nF:Int) (eO:ay),k1 nD nE nF eO=some r->Ax Z N f198 (.p Kq jC (ck.c r.1) (bw [aZ r.2.name,aB r.2.prio,cW 71 5 (r.2.conds.map aS.c),cW 154 3 (r.2.dD.map Action.c)])) [1,1,1] ⟨[(0,bp 0 0),(2,bp 1 0),(3,bp 2 0)],[Ob.CW [bX (nD.map yx),aB nE,aB nF] jC,bu [aZ ([]),aB 0,D.nil,D.nil],bu [aZ ([114]),aB y1.2,b9 3,D.nil],af 71 5 (eO.map aS.c)]⟩):∀(n1:Nat) (qA:Int) (fL:bM) (eL:Int) (eM:Int) (dh:ay),jk y1 k1 n1 qA fL eL eM dh=some r->Ar Z N f198 (.p Kq jC (ck.c r.1) (bw [aZ r.2.name,aB r.2.prio,cW 71 5 (r.2.conds.map aS.c),cW 154 3 (r.2.dD.map Action.c)])) [1,1,0,1,0] n1 (yE jC y1 qA eL eM (fL.map yx) (dh.map aS.c)):=by
 intro n
 induction n with
 |zero=>intro qA fL eL eM dh h;simp[jk]at h
 |succ n1 ih1=>
  intro qA fL eL eM dh h;rw[jk]at h;refine aV fun N1 cq cS=>?_
  obtain⟨h25,h⟩|⟨h25,h⟩:=aK h
  ·obtain⟨Cg,h29,h⟩:=aH h;obtain⟨h30,h⟩:=bf h;exact(((((aY.b h25).a [.n2 [0,1,2,3,4,5,6,7] [0,1,2,3,4,5,6,7] 3 5 [0,1] [0,4],.gp jL (ck.c Cg.1) (bw [aB Cg.2.kind,aZ Cg.2.pat.rel,cW 9 1 (Cg.2.pat.args.map tx),aZ Cg.2.left,aZ Cg.2.right])]).w (show j0 prog 200 (ck.c (⟨fL,eL,eM⟩:ck)) (ck.c Cg.1) [] (bw [aB Cg.2.kind,aZ Cg.2.pat.rel,cW 9 1 (Cg.2.pat.args.map tx),aZ Cg.2.left,aZ Cg.2.right])from by simpa only[bI,bA,cF,cD,cI]using CD h29)).w (cA h30)).a [.cn [0,2,3,4] [0,1,2,6]]).cs hZ cS (yE jC y1 (IntKind.i64.wrap (qA-1)) Cg.1.i Cg.1.h (Cg.1.b.map yx) ((dh.map aS.c)++([[aB Cg.2.kind,aZ Cg.2.pat.rel,bX (Cg.2.pat.args.map tx),aZ Cg.2.left,aZ Cg.2.right]]))) (by first| (simp only[mA]<;>rfl)| (simp only[mA,aC.c,aW.c,aS.c,Action.c,aN.c,aQ.c,ai.c,ah.c,Node.c,aF.c,di.c]<;>rfl)) (ih1 (IntKind.i64.wrap (qA-1)) Cg.1.b Cg.1.i Cg.1.h (dh++([Cg.2])) h)
  ·exact((aY.b h25).a [.hl 0 [0,2,3] [0,1,2,3]]).ex hZ cq (eC fL eL eM dh h)
def CG(jC:Value)(y1:ck×Int)(eO:ay)(IX:aI)(uf:ck×aC)(EX:Int)(yJ:Int)(yK:Int)(W1:List aT)(W4:List aT):St:=⟨[(0,bp 0 0),(2,bp 1 0),(3,bp 2 0),(5,b9 3),(6,bp 4 0),(7,aB EX)],[Ob.CW [bX W1,aB yJ,aB yK] jC,bu [aZ ([]),aB 0,D.nil,D.nil],bu [aZ ([114]),aB y1.2,b9 5,D.nil],af 9 1 (IX.map tx),bu [aZ uf.2.rel,b9 6],af 71 5 (eO.map aS.c),af 9 1 W4]⟩
theorem JV(hZ:Z.nt=88){jC:Value}{y1:ck×Int}{eO:ay}{IX:aI}{uf:ck×aC}{r:ck×aN}{k2:bM->Int->Int->aI->Option (ck×aN)}(zc:∀(Nr:bM) (Ns:Int) (Nt:Int) (nB:aI),k2 Nr Ns Nt nB=some r->Ax Z N f198 (.p Kq jC (ck.c r.1) (bw [aZ r.2.name,aB r.2.prio,cW 71 5 (r.2.conds.map aS.c),cW 154 3 (r.2.dD.map Action.c)])) [1,1,1,1,1,1] ⟨[(0,bp 0 0),(2,bp 1 0),(3,bp 2 0),(6,bp 3 0)],[Ob.CW [bX (Nr.map yx),aB Ns,aB Nt] jC,bu [aZ ([]),aB 0,D.nil,D.nil],bu [aZ ([114]),aB y1.2,b9 4,D.nil],bu [aZ uf.2.rel,b9 5],af 71 5 (eO.map aS.c),af 9 1 (nB.map tx)]⟩):∀(n2:Nat) (EX:Int) (zx:bM) (yJ:Int) (yK:Int) (kR:aI),eH y1 eO IX uf k2 n2 EX zx yJ yK kR=some r->Ar Z N f198 (.p Kq jC (ck.c r.1) (bw [aZ r.2.name,aB r.2.prio,cW 71 5 (r.2.conds.map aS.c),cW 154 3 (r.2.dD.map Action.c)])) [1,1,1,1,1,0,1,0] n2 (CG jC y1 eO IX uf EX yJ yK (zx.map yx) (kR.map tx)):=by
 intro n
 induction n with
 |zero=>intro EX zx yJ yK kR h;simp[eH]at h
 |succ n2 ih2=>
  intro EX zx yJ yK kR h;rw[eH]at h;refine aV fun N2 uY qt=>?_
  obtain⟨h90,h⟩|⟨h90,h⟩:=aK h
  ·obtain⟨x91,h92,y93,h94,h⟩:=bR h;have jR:=((((aY.b h90).i (fI tx 1 h92)).o 1 1 .uq (cL tx (dw h92))).g (gM h94))
   obtain⟨h95,h⟩|⟨h95,h⟩:=aK h
   ·obtain⟨y96,h97,h⟩:=aH h;have k6:=(((((((jR.r 5 h95).i (fI tx 1 h92)).b h95).o 1 1 .uq (cL tx (dw h92))).b h95).g (lJ h97)).r 2 h95)
    obtain⟨h98,h⟩|⟨h98,h⟩:=aK h
    ·obtain⟨IK,h102,h⟩:=aH h;exact((((((k6.b h98).a [.n2 [0,1,2,3,4,5,6] [0,1,2,3,4,5,6] 4 5 [0,1,2] [0],.gp jL (ck.c IK.1) (aZ IK.2)]).w (show j0 prog 181 (ck.c (⟨zx,yJ,yK⟩:ck)) (ck.c IK.1) [] (aZ IK.2)from by simpa only[bI,bA,cF,cD,cI]using yA h102)).i (fI tx 1 h92)).w (show(kR.map tx)[EX.toNat]?=some [aZ x91]from cL tx (dw h92))).a [.row [aZ x91],.cn [0,2,3,5,6,7] [0,1,2,3,4,5,6]]).cs hZ qt (CG jC y1 eO IX uf (IntKind.i64.wrap (EX+1)) IK.1.i IK.1.h (IK.1.b.map yx) ((kR.map tx).set EX.toNat [aZ IK.2])) (by first| (simp only[mA]<;>rfl)| (simp only[mA,aC.c,aW.c,aS.c,Action.c,aN.c,aQ.c,ai.c,ah.c,Node.c,aF.c,di.c]<;>rfl)) (ih2 (IntKind.i64.wrap (EX+1)) IK.1.b IK.1.i IK.1.h (kR.set EX.toNat IK.2) h)
    ·exact((k6.b h98).a [.cn [0,2,3,5,6,7] [0,1,2,3,4,5,6]]).cf hZ qt (ih2 (IntKind.i64.wrap (EX+1)) zx yJ yK kR h)
   ·exact(((jR.r 9 h95).F 1).a [.cn [0,2,3,5,6,7] [0,1,2,3,4,5,6]]).cf hZ qt (ih2 (IntKind.i64.wrap (EX+1)) zx yJ yK kR h)
  ·exact((aY.b h90).a [.hl 0 [0,2,3,6] [0,1,2,4,5,6]]).ex hZ uY (zc zx yJ yK kR h)
theorem Hp{aD:ck}{r:ck×aN}(h:vQ aD=some r):j0 prog 198 (ck.c aD) (ck.c r.1) [] (bw [aZ r.2.name,aB r.2.prio,cW 71 5 (r.2.conds.map aS.c),cW 154 3 (r.2.dD.map Action.c)]):=by
 refine L4 func198 Kq 88 [bX (aD.b.map yx),aB aD.i,aB aD.h] [] [] fun hr jC Z hZ=>?_
 rw[vQ]at h;obtain⟨y1,h2,y3,h4,y5,h6,h⟩:=gX h;refine((((aY.hp iy (cQ h2)).hp jL (oz h4)).hp iy (cQ h6)).a [.cn [0,2,3,4] [0,1,4,3]]).lps hZ (yE jC y1 y5.2 y5.1.i y5.1.h (y5.1.b.map yx) ([[aB 1,aZ y3.2.rel,bX (y3.2.args.map tx),aZ ([]),aZ ([])]])) (by first| (simp only[mA]<;>rfl)| (simp only[mA,aC.c,aW.c,aS.c,Action.c,aN.c,aQ.c,ai.c,ah.c,Node.c,aF.c,di.c]<;>rfl)) (JU hZ (fun nD nE nF eO h=>?_) fuel y5.2 y5.1.b y5.1.i y5.1.h ([(⟨1,y3.2,[],[]⟩:aS)]) h);obtain⟨IX,h32,uf,h34,h⟩:=bR h;refine(((((aY.a [.d (cW 9 1 (IX.map tx))]).w (show Good prog 188 [bw [aZ ([114]),aB y1.2,bX (eO.map aS.c),bX ([])],aB ((eO.map aS.c).length:Int)] (cW 9 1 (IX.map tx))from by first| (simpa only[bI,bA,cF,cD,cI]using lI h32)|exact lI h32| (have t:=lI h32;simp only[bI,cD,cI,aN.c]at t;exact t))).a [.gp jL (ck.c uf.1) (bw [aZ uf.2.rel,cW 9 1 (uf.2.args.map tx)])]).w (show j0 prog 201 (ck.c (⟨nD,nE,nF⟩:ck)) (ck.c uf.1) [] (bw [aZ uf.2.rel,cW 9 1 (uf.2.args.map tx)])from by simpa only[bI,bA,cF,cD,cI]using oz h34)).a [.cn [0,2,3,5,6,7] [0,1,2,4,6,3,5]]).lp hZ (JV hZ (fun Nr Ns Nt nB h=>?_) fuel 0 uf.1.b uf.1.i uf.1.h uf.2.args h);obtain⟨Bc,h106,h⟩:=aH h;obtain⟨h107,h⟩:=bf h;obtain⟨L3,h109,h⟩:=aH h;have ud:=((((aY.a [.n2 [0,1,2,3,5,4,6,7,8,9,10] [0,1,2,3,5,4,6,7,8,9,10] 5 8 [0,1,4] [0,5,6],.gp ON (ck.c Bc.1) (aB Bc.2)]).w (show j0 prog 78 (ck.c (⟨Nr,Ns,Nt⟩:ck)) (ck.c Bc.1) [cW 3 1 (([1,1,2]:bM).map jN)] (aB Bc.2)from by simpa only[bI,bA,cF,cD,cI]using lB h106)).w (cA h107)).hp iy (eT h109))
 obtain⟨h110,h⟩|⟨h110,h⟩:=aK h
 ·obtain⟨h111,h⟩:=bf h;obtain⟨Dg,h113,h⟩:=aH h;have xg:=((((ud.b h110).w (cA h111)).a [.d (bQ Dg)]).w (show Good prog 128 [bw [aZ ([114]),aB y1.2,bX (eO.map aS.c),bX ((([]:List aT)++([[aB Bc.2,aZ uf.2.rel,bX (nB.map tx)]]))++([[aB 3,aZ ([]),bX ([])]]))]] (bQ Dg)from by first| (simpa only[bI,bA,cF,cD,cI]using gV h113)|exact gV h113| (have t:=gV h113;simp only[bI,cD,cI,aN.c]at t;exact t)))
  obtain⟨h114,h⟩|⟨h114,h⟩:=aK h
  ·obtain⟨O5,h116,h⟩:=aH h;cases h;exact((xg.b h114).hp iy (xG h116)).ret hZ
  ·cases h;exact(xg.b h114).rts hZ (D.iz [bw [aZ ([114]),aB y1.2,cW 71 5 (eO.map aS.c),cW 154 3 ((([]:List aT)++([[aB Bc.2,aZ uf.2.rel,bX (nB.map tx)]]))++([[aB 3,aZ ([]),bX ([])]]))],bw [bX (L3.1.b.map yx),aB L3.1.i,aB L3.1.h],D.val jC]) (by first|rfl| (simp only[mA]<;>rfl))
 ·obtain⟨a69,h118,h⟩:=aH h;have Ak:=(((ud.b h110).a [.d (bQ a69)]).w (show Good prog 128 [bw [aZ ([114]),aB y1.2,bX (eO.map aS.c),bX (([]:List aT)++([[aB Bc.2,aZ uf.2.rel,bX (nB.map tx)]]))]] (bQ a69)from by first| (simpa only[bI,bA,cF,cD,cI]using gV h118)|exact gV h118| (have t:=gV h118;simp only[bI,cD,cI,aN.c]at t;exact t)))
  obtain⟨h119,h⟩|⟨h119,h⟩:=aK h
  ·obtain⟨a9l,h121,h⟩:=aH h;cases h;exact((Ak.b h119).hp iy (xG h121)).ret hZ
  ·cases h;exact(Ak.b h119).rts hZ (D.iz [bw [aZ ([114]),aB y1.2,cW 71 5 (eO.map aS.c),cW 154 3 (([]:List aT)++([[aB Bc.2,aZ uf.2.rel,bX (nB.map tx)]]))],bw [bX (L3.1.b.map yx),aB L3.1.i,aB L3.1.h],D.val jC]) (by first|rfl| (simp only[mA]<;>rfl))
def nK(aD:ck):Option (ck×aN):=((eb aD 3).bind fun y1=>(bif y1.2 then((vQ y1.1).bind fun y4=>(some (y4.1,y4.2)))else((pq y1.1 99).bind fun y6=>(some (y6.1,y6.2)))))
theorem CF{aD:ck}{r:ck×aN}(h:nK aD=some r):j0 prog 136 (ck.c aD) (ck.c r.1) [] (bw [aZ r.2.name,aB r.2.prio,cW 71 5 (r.2.conds.map aS.c),cW 154 3 (r.2.dD.map Action.c)]):=by
 refine L4 func136 Kq 9 [bX (aD.b.map yx),aB aD.i,aB aD.h] [] [] fun hr jC Z hZ=>?_
 rw[nK]at h;obtain⟨y1,h2,h⟩:=aH h;obtain⟨h3,h⟩|⟨h3,h⟩:=aK h
 ·obtain⟨y4,h5,h⟩:=aH h;cases h;exact(((aY.hp iy (eT h2)).b h3).hp jL (Hp h5)).ret hZ
 ·obtain⟨y6,h7,h⟩:=aH h;cases h;exact(((aY.hp iy (eT h2)).b h3).hp iy (xG h7)).ret hZ
def oH(k1:bM->Int->Int->az->Option (ck×az)):Nat->Int->bM->Int->Int->az->Option (ck×az)
 |0,_,_,_,_,_=>none
 |n1+1,dX,fL,eL,eM,bn=>(bif decide ((dX:Int)>0)then((nK (⟨fL,eL,eM⟩:ck)).bind fun xo=>((kG dX).bind fun qB=>(bif decide (([114]:Bytes).length+(qB:Bytes).length<=maxLen)then(bif room ((bn.map aN.c).length+([[aZ (([114])++qB),aB xo.2.prio,bX (xo.2.conds.map aS.c),bX (xo.2.dD.map Action.c)]]).length) 72 then(oH k1 n1 (IntKind.i64.wrap (dX-1)) xo.1.b xo.1.i xo.1.h (bn++([(⟨([114])++qB,xo.2.prio,xo.2.conds,xo.2.dD⟩:aN)])))else none)else none)))else(k1 fL eL eM bn))
def zE(aD:ck)(aa:Int):Option (ck×az):=((cg aD (IntKind.i64.wrap (aa+1))).bind fun y1=>(oH (fun(nD:bM) (nE:Int) (nF:Int) (kP:az)=>(some ((⟨nD,nE,nF⟩:ck),kP))) fuel y1.2 y1.1.b y1.1.i y1.1.h ([]:az)))
def FZ(jC:Value)(dX:Int)(eL:Int)(eM:Int)(W1:List aT)(W4:List aT):St:=⟨[(0,bp 0 0),(5,b9 1),(6,aB dX)],[Ob.CW [bX W1,aB eL,aB eM] jC,af 63 4 W4]⟩
theorem NW(hZ:Z.nt=28){jC:Value}{r:ck×az}{k1:bM->Int->Int->az->Option (ck×az)}(eC:∀(nD:bM) (nE:Int) (nF:Int) (kP:az),k1 nD nE nF kP=some r->Ax Z N f132 (.p Wb jC (ck.c r.1) (cW 63 4 (r.2.map aN.c))) [1,1,1] ⟨[(5,b9 1)],[Ob.CW [bX (nD.map yx),aB nE,aB nF] jC,af 63 4 (kP.map aN.c)]⟩):∀(n1:Nat) (dX:Int) (fL:bM) (eL:Int) (eM:Int) (bn:az),oH k1 n1 dX fL eL eM bn=some r->Ar Z N f132 (.p Wb jC (ck.c r.1) (cW 63 4 (r.2.map aN.c))) [1,1,0,1,0] n1 (FZ jC dX eL eM (fL.map yx) (bn.map aN.c)):=by
 intro n
 induction n with
 |zero=>intro dX fL eL eM bn h;simp[oH]at h
 |succ n1 ih1=>
  intro dX fL eL eM bn h;rw[oH]at h;refine aV fun N1 cq cS=>?_
  obtain⟨h24,h⟩|⟨h24,h⟩:=aK h
  ·obtain⟨xo,h26,qB,h28,h⟩:=bR h;obtain⟨h29,h⟩:=bf h;obtain⟨h30,h⟩:=bf h;exact(((((((aY.b h24).a [.gp jL (ck.c xo.1) (bw [aZ xo.2.name,aB xo.2.prio,cW 71 5 (xo.2.conds.map aS.c),cW 154 3 (xo.2.dD.map Action.c)])]).w (show j0 prog 136 (ck.c (⟨fL,eL,eM⟩:ck)) (ck.c xo.1) [] (bw [aZ xo.2.name,aB xo.2.prio,cW 71 5 (xo.2.conds.map aS.c),cW 154 3 (xo.2.dD.map Action.c)])from by simpa only[bI,bA,cF,cD,cI]using CF h26)).g (oS h28)).w (bh h29)).w (cA h30)).a [.cn [0,5,6] [0,6]]).cs hZ cS (FZ jC (IntKind.i64.wrap (dX-1)) xo.1.i xo.1.h (xo.1.b.map yx) ((bn.map aN.c)++([[aZ (([114])++qB),aB xo.2.prio,bX (xo.2.conds.map aS.c),bX (xo.2.dD.map Action.c)]]))) (by first| (simp only[mA]<;>rfl)| (simp only[mA,aC.c,aW.c,aS.c,Action.c,aN.c,aQ.c,ai.c,ah.c,Node.c,aF.c,di.c]<;>rfl)) (ih1 (IntKind.i64.wrap (dX-1)) xo.1.b xo.1.i xo.1.h (bn++([(⟨([114])++qB,xo.2.prio,xo.2.conds,xo.2.dD⟩:aN)])) h)
  ·exact((aY.b h24).a [.hl 0 [5] [0,1]]).ex hZ cq (eC fL eL eM bn h)
theorem M2{aD:ck}{aa:Int}{r:ck×az}(h:zE aD aa=some r):j0 prog 132 (ck.c aD) (ck.c r.1) [aB aa] (cW 63 4 (r.2.map aN.c)):=by
 refine L4 func132 Wb 28 [bX (aD.b.map yx),aB aD.i,aB aD.h] [aB aa] [] fun hr jC Z hZ=>?_
 rw[zE]at h;obtain⟨y1,h2,h⟩:=aH h;refine((aY.hp iy (cQ h2)).a [.cn [0,5,6] [0,1]]).lp hZ (NW hZ (fun nD nE nF kP h=>?_) fuel y1.2 y1.1.b y1.1.i y1.1.h ([]:az) h);cases h;exact aY.ret hZ
def mH(aD:az)(aa:Bytes)(k1:Option Int):az->Nat->Option Int
 | [],i1=>(k1)
 |bg::cj,i1=>(bif (bg.name:Bytes)==aa then(some (i1:Int))else(mH aD aa k1 cj (i1+1)))
def lU(aD:az)(aa:Bytes):Option Int:=(mH aD aa (some (-1)) aD 0)
def KM(aD:az)(aa:Bytes)(dL:Int):St:=⟨[(0,bX (aD.map aN.c)),(1,aZ aa),(5,aB dL)],[]⟩
theorem JD(hZ:Z.nt=20){aD:az}{aa:Bytes}{r:Int}{k1:Option Int}(eC:k1=some r->Ax Z N f30 (.q bZ (aB r)) [1,1] ⟨[],[]⟩)(hm1:aD.length<=maxLen):∀(rest:az) (i1:Nat),aD.drop i1=rest->mH aD aa k1 rest i1=some r->Ar Z N f30 (.q bZ (aB r)) [1,0,1,0] (rest.length+1) (KM aD aa (i1:Int)):=by
 intro rest
 induction rest with
 |nil=>
  intro i1 bB h;rw[mH]at h;refine aV fun N1 cq cS=>?_
  exact((aY.ge aN.c bB).a [.hl 0 [] []]).ex hZ cq (eC h)
 |cons bg cj ih1=>
  intro i1 bB h;rw[mH]at h;refine aV fun N1 cq cS=>?_
  have fG:=((aY.lt aN.c bB).l (bK aN.c 4 (dc bB) rfl))
  obtain⟨h13,h⟩|⟨h13,h⟩:=aK h
  ·cases h;exact(fG.b h13).ret hZ
  ·exact((fG.b h13).a [.cn [0,1,5] []]).ct hZ cS (iS bB hm1) (ih1 (i1+1) (dn bB) h)
theorem pZ{aD:az}{aa:Bytes}{r:Int}(h:lU aD aa=some r):Good prog 30 [bX (aD.map aN.c),aZ aa] (aB r):=by
 refine gd func30 bZ 20 fun hr Z hZ=>?_
 rw[lU]at h;refine(aY.a [.cn [0,1,5] []]).lp hZ (JD hZ (fun h=>?_) (by have:=(gY.sl (hr _ (aE (i:=0) rfl))).1;simpa using this) aD 0 rfl h);cases h;exact aY.ret hZ
def mF(aD:az)(k1:Option Bool):az->Nat->Option Bool
 | [],i1=>(k1)
 |bg::cj,i1=>((pN bg).bind fun uf=>(bif !(uf)then(some false)else((lU aD bg.name).bind fun Oc=>(bif (Oc:Int) != (i1:Int)then(some false)else(mF aD k1 cj (i1+1))))))
def vK(aD:az):Option Bool:=(mF aD (some (decide ((((aD.map aN.c).length:Int):Int)<=6))) aD 0)
def KJ(aD:az)(dL:Int):St:=⟨[(0,bX (aD.map aN.c)),(3,aB dL)],[]⟩
theorem J9(hZ:Z.nt=30){aD:az}{r:Bool}{k1:Option Bool}(eC:k1=some r->Ax Z N f69 (.q bZ (bQ r)) [1,1] ⟨[(0,bX (aD.map aN.c))],[]⟩)(hm1:aD.length<=maxLen):∀(rest:az) (i1:Nat),aD.drop i1=rest->mF aD k1 rest i1=some r->Ar Z N f69 (.q bZ (bQ r)) [1,0,1,0] (rest.length+1) (KJ aD (i1:Int)):=by
 intro rest
 induction rest with
 |nil=>
  intro i1 bB h;rw[mF]at h;refine aV fun N1 cq cS=>?_
  exact((aY.ge aN.c bB).a [.hl 0 [0] []]).ex hZ cq (eC h)
 |cons bg cj ih1=>
  intro i1 bB h;rw[mF]at h;refine aV fun N1 cq cS=>?_
  obtain⟨uf,h34,h⟩:=aH h;have jR:=(((aY.lt aN.c bB).l (bK aN.c 4 (dc bB) rfl)).g (gV h34))
  obtain⟨h35,h⟩|⟨h35,h⟩:=aK h
  ·cases aM h;exact((jR.r 10 h35).T 1).ret hZ
  ·obtain⟨Oc,h37,h⟩:=aH h;have k6:=(((((jR.r 4 h35).l (bK aN.c 4 (dc bB) rfl)).r 3 h35).g (pZ h37)).r 3 h35)
   obtain⟨h38,h⟩|⟨h38,h⟩:=aK h
   ·cases aM h;exact(k6.b h38).ret hZ
   ·exact((k6.b h38).a [.cn [0,3] []]).ct hZ cS (iS bB hm1) (ih1 (i1+1) (dn bB) h)
theorem AS{aD:az}{r:Bool}(h:vK aD=some r):Good prog 69 [bX (aD.map aN.c)] (bQ r):=by
 refine gd func69 bZ 30 fun hr Z hZ=>?_
 rw[vK]at h;refine(aY.a [.cn [0,3] []]).lp hZ (J9 hZ (fun h=>?_) (by have:=(gY.sl (hr _ (aE (i:=0) rfl))).1;simpa using this) aD 0 rfl h);cases h;exact aY.ret hZ
def kr(aD:Bytes)(aa:aP)(k1:Option Bytes):aP->Nat->Option Bytes
 | [],i1=>(k1)
 |bg::cj,i1=>(bif (bg.var:Bytes)==aD then(some bg.value)else(kr aD aa k1 cj (i1+1)))
def mw(aD:Bytes)(aa:aP):Option Bytes:=(kr aD aa (some aD) aa 0)
def JS(aD:Bytes)(aa:aP)(dL:Int):St:=⟨[(0,aZ aD),(1,bX (aa.map aW.c)),(5,aB dL)],[]⟩
theorem Hl(hZ:Z.nt=25){aD:Bytes}{aa:aP}{r:Bytes}{k1:Option Bytes}(eC:k1=some r->Ax Z N f203 (.q bZ (aZ r)) [1,1] ⟨[(0,aZ aD)],[]⟩)(hm1:aa.length<=maxLen):∀(rest:aP) (i1:Nat),aa.drop i1=rest->kr aD aa k1 rest i1=some r->Ar Z N f203 (.q bZ (aZ r)) [1,0,1,0] (rest.length+1) (JS aD aa (i1:Int)):=by
 intro rest
 induction rest with
 |nil=>
  intro i1 bB h;rw[kr]at h;refine aV fun N1 cq cS=>?_
  exact((aY.ge aW.c bB).a [.hl 0 [0] []]).ex hZ cq (eC h)
 |cons bg cj ih1=>
  intro i1 bB h;rw[kr]at h;refine aV fun N1 cq cS=>?_
  have fG:=((aY.lt aW.c bB).l (bK aW.c 2 (dc bB) rfl))
  obtain⟨h13,h⟩|⟨h13,h⟩:=aK h
  ·cases h;exact((fG.b h13).l (bK aW.c 2 (dc bB) rfl)).ret hZ
  ·exact((fG.b h13).a [.cn [0,1,5] []]).ct hZ cS (iS bB hm1) (ih1 (i1+1) (dn bB) h)
theorem vm{aD:Bytes}{aa:aP}{r:Bytes}(h:mw aD aa=some r):Good prog 203 [aZ aD,bX (aa.map aW.c)] (aZ r):=by
 refine gd func203 bZ 25 fun hr Z hZ=>?_
 rw[mw]at h;refine(aY.a [.cn [0,1,5] []]).lp hZ (Hl hZ (fun h=>?_) (by have:=(gY.sl (hr _ (aE (i:=1) rfl))).1;simpa using this) aa 0 rfl h);cases aM h;exact aY.ret hZ
def mi(aD:aS)(aa:aP)(y1:Bytes)(y3:Bytes)(k1:aI->Option aS):aI->Nat->aI->Option aS
 | [],i1,dh=>(k1 dh)
 |bg::cj,i1,dh=>((mw bg aa).bind fun IX=>(bif room ((dh.map tx).length+([[aZ IX]]).length) 16 then(mi aD aa y1 y3 k1 cj (i1+1) (dh++([IX])))else none))
def l9(aD:aS)(aa:aP):Option aS:=((mw aD.left aa).bind fun y1=>((mw aD.right aa).bind fun y3=>(mi aD aa y1 y3 (fun(r9:aI)=>(some (⟨aD.kind,(⟨aD.pat.rel,r9⟩:aC),y1,y3⟩:aS))) aD.pat.args 0 ([]:aI))))
def AV(aD:aS)(aa:aP)(y1:Bytes)(y3:Bytes)(W0:List aT)(dL:Int):St:=⟨[(1,bX (aa.map aW.c)),(2,bp 0 0),(4,bp 1 0),(5,bp 2 0),(6,aB dL)],[bu (aS.c aD),bu [aB 0,aZ ([]),D.nil,aZ ([]),aZ ([])],bu [aB aD.kind,aZ aD.pat.rel,b9 3,aZ y1,aZ y3],af 9 1 W0]⟩
def a4J(r:aS):Kd:=.q Qb (bw [aB r.kind,aZ r.pat.rel,cW 9 1 (r.pat.args.map tx),aZ r.left,aZ r.right])
theorem GM(hZ:Z.nt=46){aD:aS}{aa:aP}{y1:Bytes}{y3:Bytes}{r:aS}{k1:aI->Option aS}(eC:∀(r9:aI),k1 r9=some r->Ax Z N f151 (a4J r) [1,1,1] ⟨[(4,bp 0 0),(5,bp 1 0)],[bu [aB 0,aZ ([]),D.nil,aZ ([]),aZ ([])],bu [aB aD.kind,aZ aD.pat.rel,b9 2,aZ y1,aZ y3],af 9 1 (r9.map tx)]⟩)(hm1:aD.pat.args.length<=maxLen):∀(rest:aI) (i1:Nat) (dh:aI),aD.pat.args.drop i1=rest->mi aD aa y1 y3 k1 rest i1 dh=some r->Ar Z N f151 (a4J r) [1,1,0,1,0] (rest.length+1) (AV aD aa y1 y3 (dh.map tx) (i1:Int)):=by
 intro rest
 induction rest with
 |nil=>
  intro i1 dh bB h;rw[mi]at h;refine aV fun N1 cq cS=>?_
  exact((aY.ge tx bB).a [.hl 0 [4,5] [1,2,3]]).ex hZ cq (eC dh h)
 |cons bg cj ih1=>
  intro i1 dh bB h;rw[mi]at h;refine aV fun N1 cq cS=>?_
  obtain⟨IX,h32,h⟩:=aH h;obtain⟨h33,h⟩:=bf h;exact((((((aY.lt tx bB).a [.n 12]).l (bK tx 1 (dc bB) rfl)).g (vm h32)).w (cA h33)).a [.cn [1,2,4,5,6] [0,1,2,5]]).cs hZ cS (AV aD aa y1 y3 ((dh.map tx)++([[aZ IX]])) (IntKind.i64.wrap ((i1:Int)+1))) (by first| (simp only[iS bB hm1,mA]<;>rfl)| (simp only[iS bB hm1,mA,aC.c,aW.c,aS.c,Action.c,aN.c,aQ.c,ai.c,ah.c,Node.c,aF.c,di.c]<;>rfl)) (ih1 (i1+1) (dh++([IX])) (dn bB) h)
theorem kK{aD:aS}{aa:aP}{r:aS}(h:l9 aD aa=some r):Good prog 151 [bw (aS.c aD),bX (aa.map aW.c)] (bw [aB r.kind,aZ r.pat.rel,cW 9 1 (r.pat.args.map tx),aZ r.left,aZ r.right]):=by
 refine gd func151 Qb 46 fun hr Z hZ=>?_
 rw[l9]at h;obtain⟨y1,h2,y3,h4,h⟩:=bR h;refine((((aY.a [.n 16]).g (vm h2)).g (vm h4)).a [.pb 2 2 9 1,.cn [1,2,4,5,6] [0,1,2,3]]).lp hZ (GM hZ (fun r9 h=>?_) (by have:=(gY.sl (gY.agg (hr _ (aE (i:=0) rfl)) (.sl (aD.pat.args.map tx)) (by simp))).1;simpa using this) aD.pat.args 0 ([]:aI) rfl h);cases h;exact aY.ret hZ
def lP(aD:aS):Option aS:=((l9 aD ([])).bind fun y1=>(some y1))
theorem rZ{aD:aS}{r:aS}(h:lP aD=some r):Good prog 100 [bw (aS.c aD)] (bw [aB r.kind,aZ r.pat.rel,cW 9 1 (r.pat.args.map tx),aZ r.left,aZ r.right]):=by
 refine gd func100 Qb 5 fun hr Z hZ=>?_
 rw[lP]at h;obtain⟨y1,h2,h⟩:=aH h;cases aM h;exact((aY.a [.d (bw [aB y1.kind,aZ y1.pat.rel,cW 9 1 (y1.pat.args.map tx),aZ y1.left,aZ y1.right])]).w (show Good prog 151 [bw (aS.c aD),bX ([])] (bw [aB y1.kind,aZ y1.pat.rel,cW 9 1 (y1.pat.args.map tx),aZ y1.left,aZ y1.right])from by first| (simpa only[bI,bA,cF,cD,cI]using kK h2)|exact kK h2)).ret hZ
def uT(aD:aI):Option aI:=(bif room (([]:List aT).length+(aD.map tx).length) 16 then(some (([]:aI)++aD))else none)
theorem BL{aD:aI}{r:aI}(h:uT aD=some r):Good prog 149 [bX (aD.map tx)] (cW 9 1 (r.map tx)):=by
 refine gd func149 CU 6 fun hr Z hZ=>?_
 rw[uT]at h;obtain⟨h1,h⟩:=bf h;cases h;exact(((aY.w (cA h1)).w (show(∀r∈(aD.map tx),r.length=1)/\(true=true->D.jr (aD.map tx)=true)from⟨by first|simp| (intro r hr;obtain⟨x,_,rfl⟩:=cJ.1 (cO (fN hr));rfl),by simp[D.jr,D.flat]⟩)).a [.L5 2,.fl true]).rts hZ (cW 9 1 (([]:List aT)++(aD.map tx))) (by first|rfl| (simp only[mA]<;>rfl))
def fQ(aD:aC):Option aC:=((uT aD.args).bind fun y1=>(some (⟨aD.rel,y1⟩:aC)))
theorem xC{aD:aC}{r:aC}(h:fQ aD=some r):Good prog 122 [bw (aC.c aD)] (bw [aZ r.rel,cW 9 1 (r.args.map tx)]):=by
 refine gd func122 Kr 9 fun hr Z hZ=>?_
 rw[fQ]at h;obtain⟨y1,h2,h⟩:=aH h;cases h;exact((aY.a [.n 5]).g (BL h2)).ret hZ
def rR(aD:aN)(k1:ay->Option aN):ay->Nat->ay->Option aN
 | [],i1,dh=>(k1 dh)
 |bg::cj,i1,dh=>((lP bg).bind fun BP=>(bif room ((dh.map aS.c).length+([[aB BP.kind,aZ BP.pat.rel,bX (BP.pat.args.map tx),aZ BP.left,aZ BP.right]]).length) 80 then(rR aD k1 cj (i1+1) (dh++([BP])))else none))
def p9(aD:aN)(eO:ay)(k2:fB->Option aN):fB->Nat->fB->Option aN
 | [],i2,lY=>(k2 lY)
 |jM::tL,i2,lY=>((fQ jM.pat).bind fun y92=>(bif room ((lY.map Action.c).length+([[aB jM.kind,aZ y92.rel,bX (y92.args.map tx)]]).length) 48 then(p9 aD eO k2 tL (i2+1) (lY++([(⟨jM.kind,y92⟩:Action)])))else none))
def vV(aD:aN):Option aN:=(rR aD (fun(eO:ay)=>(p9 aD eO (fun(yH:fB)=>(some (⟨aD.name,aD.prio,eO,yH⟩:aN))) aD.dD 0 ([]:fB))) aD.conds 0 ([]:ay))
def E8(aD:aN)(W0:List aT)(dL:Int):St:=⟨[(1,bp 0 0),(2,bp 1 0),(3,bp 2 0),(4,aB dL)],[bu (aN.c aD),bu [aZ ([]),aB 0,D.nil,D.nil],bu [aZ aD.name,aB aD.prio,b9 3,D.nil],af 71 5 W0]⟩
def Yh(r:aN):Kd:=.q Wd (bw [aZ r.name,aB r.prio,cW 71 5 (r.conds.map aS.c),cW 154 3 (r.dD.map Action.c)])
theorem M0(hZ:Z.nt=56){aD:aN}{r:aN}{k1:ay->Option aN}(eC:∀(eO:ay),k1 eO=some r->Ax Z N f150 (Yh r) [1,1,1] ⟨[(1,bp 0 0),(2,bp 1 0),(3,bp 2 0)],[bu (aN.c aD),bu [aZ ([]),aB 0,D.nil,D.nil],bu [aZ aD.name,aB aD.prio,b9 3,D.nil],af 71 5 (eO.map aS.c)]⟩)(hm1:aD.conds.length<=maxLen):∀(rest:ay) (i1:Nat) (dh:ay),aD.conds.drop i1=rest->rR aD k1 rest i1 dh=some r->Ar Z N f150 (Yh r) [1,1,0,1,0] (rest.length+1) (E8 aD (dh.map aS.c) (i1:Int)):=by
 intro rest
 induction rest with
 |nil=>
  intro i1 dh bB h;rw[rR]at h;refine aV fun N1 cq cS=>?_
  exact((aY.ge aS.c bB).a [.hl 0 [1,2,3] [0,1,2,3]]).ex hZ cq (eC dh h)
 |cons bg cj ih1=>
  intro i1 dh bB h;rw[rR]at h;refine aV fun N1 cq cS=>?_
  obtain⟨BP,h46,h⟩:=aH h;obtain⟨h47,h⟩:=bf h;exact((((((aY.lt aS.c bB).a [.n2 [0,1,2,3,4,5,6,7,8,9,10,11] [0,1,2,3,4,5,6,7,8,9,10,11] 8 9 [0,1] [4]]).l (bK aS.c 5 (dc bB) rfl)).g (rZ h46)).w (cA h47)).a [.cn [1,2,3,4] [0,1,2,6]]).cs hZ cS (E8 aD ((dh.map aS.c)++([[aB BP.kind,aZ BP.pat.rel,bX (BP.pat.args.map tx),aZ BP.left,aZ BP.right]])) (IntKind.i64.wrap ((i1:Int)+1))) (by first| (simp only[iS bB hm1,mA]<;>rfl)| (simp only[iS bB hm1,mA,aC.c,aW.c,aS.c,Action.c,aN.c,aQ.c,ai.c,ah.c,Node.c,aF.c,di.c]<;>rfl)) (ih1 (i1+1) (dh++([BP])) (dn bB) h)
def E9(aD:aN)(eO:ay)(W0:List aT)(dL:Int):St:=⟨[(1,bp 0 0),(2,bp 1 0),(3,bp 2 0),(5,aB dL)],[bu (aN.c aD),bu [aZ ([]),aB 0,D.nil,D.nil],bu [aZ aD.name,aB aD.prio,b9 3,b9 4],af 71 5 (eO.map aS.c),af 154 3 W0]⟩
theorem M1(hZ:Z.nt=56){aD:aN}{eO:ay}{r:aN}{k2:fB->Option aN}(zc:∀(yH:fB),k2 yH=some r->Ax Z N f150 (Yh r) [1,1,1,1] ⟨[(2,bp 0 0),(3,bp 1 0)],[bu [aZ ([]),aB 0,D.nil,D.nil],bu [aZ aD.name,aB aD.prio,b9 2,b9 3],af 71 5 (eO.map aS.c),af 154 3 (yH.map Action.c)]⟩)(hm2:aD.dD.length<=maxLen):∀(rest:fB) (i2:Nat) (lY:fB),aD.dD.drop i2=rest->p9 aD eO k2 rest i2 lY=some r->Ar Z N f150 (Yh r) [1,1,1,0,1,0] (rest.length+1) (E9 aD eO (lY.map Action.c) (i2:Int)):=by
 intro rest
 induction rest with
 |nil=>
  intro i2 lY hd2 h;rw[p9]at h;refine aV fun N2 uY qt=>?_
  exact((aY.ge Action.c hd2).a [.hl 0 [2,3] [1,2,3,4]]).ex hZ uY (zc lY h)
 |cons jM tL ih2=>
  intro i2 lY hd2 h;rw[p9]at h;refine aV fun N2 uY qt=>?_
  obtain⟨y92,h93,h⟩:=aH h;obtain⟨h94,h⟩:=bf h;exact(((((((aY.lt Action.c hd2).a [.n2 [0,1,2,3,4,5,6,7,8,9,10,11,12,13,14,15,16,17,18,19] [0,1,2,3,4,5,6,7,8,9,10,11,12,13,14,15,16,17,18,19] 16 17 [0,1] [5]]).l (bK Action.c 3 (dc hd2) rfl)).l (bK Action.c 3 (dc hd2) rfl)).g (xC h93)).w (cA h94)).a [.cn [1,2,3,5] [0,1,2,3,7]]).cs hZ qt (E9 aD eO ((lY.map Action.c)++([[aB jM.kind,aZ y92.rel,bX (y92.args.map tx)]])) (IntKind.i64.wrap ((i2:Int)+1))) (by first| (simp only[iS hd2 hm2,mA]<;>rfl)| (simp only[iS hd2 hm2,mA,aC.c,aW.c,aS.c,Action.c,aN.c,aQ.c,ai.c,ah.c,Node.c,aF.c,di.c]<;>rfl)) (ih2 (i2+1) (lY++([(⟨jM.kind,y92⟩:Action)])) (dn hd2) h)
theorem KZ{aD:aN}{r:aN}(h:vV aD=some r):Good prog 150 [bw (aN.c aD)] (bw [aZ r.name,aB r.prio,cW 71 5 (r.conds.map aS.c),cW 154 3 (r.dD.map Action.c)]):=by
 refine gd func150 Wd 56 fun hr Z hZ=>?_
 rw[vV]at h;refine(aY.a [.pb 2 2 71 5,.cn [1,2,3,4] [0,1,2,3]]).lp hZ (M0 hZ (fun eO h=>?_) (by have:=(gY.sl (gY.agg (hr _ (aE (i:=0) rfl)) (.sl (aD.conds.map aS.c)) (by simp))).1;simpa using this) aD.conds 0 ([]:ay) rfl h);refine(aY.a [.pb 2 3 154 3,.cn [1,2,3,5] [0,1,2,3,4]]).lp hZ (M1 hZ (fun yH h=>?_) (by have:=(gY.sl (gY.agg (hr _ (aE (i:=0) rfl)) (.sl (aD.dD.map Action.c)) (by simp))).1;simpa using this) aD.dD 0 ([]:fB) rfl h);cases h;exact aY.ret hZ
def p8(aD:az)(k1:az->Option az):az->Nat->az->Option az
 | [],i1,bY=>(k1 bY)
 |bg::cj,i1,bY=>((vV bg).bind fun qB=>(bif room ((bY.map aN.c).length+([[aZ qB.name,aB qB.prio,bX (qB.conds.map aS.c),bX (qB.dD.map Action.c)]]).length) 72 then(p8 aD k1 cj (i1+1) (bY++([qB])))else none))
def sP(aD:az):Option az:=(p8 aD (fun(cM:az)=>(some cM)) aD 0 ([]:az))
def CE(aD:az)(W0:List aT)(dL:Int):St:=⟨[(0,bX (aD.map aN.c)),(3,b9 0),(4,aB dL)],[af 63 4 W0]⟩
def a4K(r:az):Kd:=.q [[some (63,4)]] (cW 63 4 (r.map aN.c))
theorem JT(hZ:Z.nt=21){aD:az}{r:az}{k1:az->Option az}(eC:∀(cM:az),k1 cM=some r->Ax Z N f89 (a4K r) [1,1,1] ⟨[(3,b9 0)],[af 63 4 (cM.map aN.c)]⟩)(hm1:aD.length<=maxLen):∀(rest:az) (i1:Nat) (bY:az),aD.drop i1=rest->p8 aD k1 rest i1 bY=some r->Ar Z N f89 (a4K r) [1,1,0,1,0] (rest.length+1) (CE aD (bY.map aN.c) (i1:Int)):=by
 intro rest
 induction rest with
 |nil=>
  intro i1 bY bB h;rw[p8]at h;refine aV fun N1 cq cS=>?_
  exact((aY.ge aN.c bB).a [.hl 0 [3] [0]]).ex hZ cq (eC bY h)
 |cons bg cj ih1=>
  intro i1 bY bB h;rw[p8]at h;refine aV fun N1 cq cS=>?_
  obtain⟨qB,h28,h⟩:=aH h;obtain⟨h29,h⟩:=bf h;exact(((((aY.lt aN.c bB).l (bK aN.c 4 (dc bB) rfl)).g (KZ h28)).w (cA h29)).a [.cn [0,3,4] [4]]).cs hZ cS (CE aD ((bY.map aN.c)++([[aZ qB.name,aB qB.prio,bX (qB.conds.map aS.c),bX (qB.dD.map Action.c)]])) (IntKind.i64.wrap ((i1:Int)+1))) (by first| (simp only[iS bB hm1,mA]<;>rfl)| (simp only[iS bB hm1,mA,aC.c,aW.c,aS.c,Action.c,aN.c,aQ.c,ai.c,ah.c,Node.c,aF.c,di.c]<;>rfl)) (ih1 (i1+1) (bY++([qB])) (dn bB) h)
theorem AY{aD:az}{r:az}(h:sP aD=some r):Good prog 89 [bX (aD.map aN.c)] (cW 63 4 (r.map aN.c)):=by
 refine gd func89 [[some (63,4)]] 21 fun hr Z hZ=>?_
 rw[sP]at h;refine(aY.a [.cn [0,3,4] [0]]).lp hZ (JT hZ (fun cM h=>?_) (by have:=(gY.sl (hr _ (aE (i:=0) rfl))).1;simpa using this) aD 0 ([]:az) rfl h);cases aM h;exact aY.ret hZ
def pJ(aD:aP)(aa:Bytes)(k1:Option aP):aP->Nat->Option aP
 | [],i1=>(k1)
 |bg::cj,i1=>(bif (bg.var:Bytes)==aa then(some aD)else(pJ aD aa k1 cj (i1+1)))
def rI(aD:aP)(aa:Bytes):Option aP:=((iq aa).bind fun y1=>(bif !(y1)then(some aD)else(pJ aD aa ((kG (IntKind.i64.wrap (((aD.map aW.c).length:Int)+1))).bind fun P3=>(bif decide (([63]:Bytes).length+(P3:Bytes).length<=maxLen)then(bif room ((aD.map aW.c).length+([[aZ aa,aZ (([63])++P3)]]).length) 32 then(some (aD++([(⟨aa,([63])++P3⟩:aW)])))else none)else none)) aD 0)))
def NY(aD:aP)(aa:Bytes)(dL:Int):St:=⟨[(0,b9 0),(1,aZ aa),(5,aB dL)],[af 113 2 (aD.map aW.c)]⟩
def LG(r:aP):Kd:=.q FL (cW 113 2 (r.map aW.c))
theorem MD(hZ:Z.nt=34){aD:aP}{aa:Bytes}{r:aP}{k1:Option aP}(eC:k1=some r->Ax Z N f85 (LG r) [1,1,1] ⟨[(0,b9 0),(1,aZ aa)],[af 113 2 (aD.map aW.c)]⟩)(hm1:aD.length<=maxLen):∀(rest:aP) (i1:Nat),aD.drop i1=rest->pJ aD aa k1 rest i1=some r->Ar Z N f85 (LG r) [1,1,0,1,0] (rest.length+1) (NY aD aa (i1:Int)):=by
 intro rest
 induction rest with
 |nil=>
  intro i1 bB h;rw[pJ]at h;refine aV fun N1 cq cS=>?_
  exact((aY.ge aW.c bB).a [.hl 0 [0,1] [0]]).ex hZ cq (eC h)
 |cons bg cj ih1=>
  intro i1 bB h;rw[pJ]at h;refine aV fun N1 cq cS=>?_
  have lC:=(((aY.lt aW.c bB).i (fH aW.c 2 (dc bB))).o 2 1 .uq (cL aW.c (dc bB)))
  obtain⟨h17,h⟩|⟨h17,h⟩:=aK h
  ·cases aM h;exact(lC.b h17).ret hZ
  ·exact((lC.b h17).a [.cn [0,1,5] [0]]).ct hZ cS (iS bB hm1) (ih1 (i1+1) (dn bB) h)
theorem uw{aD:aP}{aa:Bytes}{r:aP}(h:rI aD aa=some r):Jh prog 85 [b9 0,aZ aa] 113 2 (aD.map aW.c) (r.map aW.c):=by
 refine Jh.of (c:=yt f85) func85 rfl (by decide) (by simp[f85]) (EJ (c:=aW.c) (fun _=>rfl) r) ?_;intro Q7 Z hZ;have hZ:Z.nt=34:=hZ;rw[rI]at h;refine(show AW prog Z (yt f85) (KQ prog Z (fun _ _=>False) ((Kd.q FL (cW 113 2 (r.map aW.c))).qq prog f85) []) _ from ?_);obtain⟨y1,h2,h⟩:=aH h;obtain⟨h3,h⟩|⟨h3,h⟩:=aK h
 ·cases aM h;exact((aY.g (gM h2)).b h3).ret hZ
 ·refine(((aY.g (gM h2)).b h3).a [.cn [0,1,5] [0]]).lp hZ (MD hZ (fun h=>?_) (by simpa using Q7) aD 0 rfl h);obtain⟨P3,h19,h⟩:=aH h;obtain⟨h20,h⟩:=bf h;obtain⟨h21,h⟩:=bf h;cases h;exact(((aY.g (oS h19)).w (bh h20)).w (cA h21)).rts hZ (cW 113 2 ((aD.map aW.c)++([[aZ aa,aZ (([63])++P3)]]))) (by first|rfl| (simp only[mA]<;>rfl))
def jh(aD:aN)(i1:Nat)(bg:aS)(k2:aP->Option aP):aI->Nat->aP->Option aP
 | [],i2,fJ=>(k2 fJ)
 |jM::tL,i2,fJ=>((rI fJ jM).bind fun Di=>(jh aD i1 bg k2 tL (i2+1) Di))
def jg(aD:aN)(k1:aP->Option aP):ay->Nat->aP->Option aP
 | [],i1,bn=>(k1 bn)
 |bg::cj,i1,bn=>(bif decide (bg.pat.args.length<=maxLen)then(jh aD i1 bg (fun(tY:aP)=>((rI tY bg.left).bind fun zy=>((rI zy bg.right).bind fun a3i=>(jg aD k1 cj (i1+1) a3i)))) bg.pat.args 0 bn)else none)
def qQ(aD:aN):Option aP:=(jg aD (fun(cM:aP)=>(some cM)) aD.conds 0 ([]:aP))
def He(aD:aN)(W0:List aT)(dL:Int):St:=⟨[(1,bp 0 0),(3,b9 1),(4,aB dL)],[bu (aN.c aD),af 113 2 W0]⟩
def Hf(aD:aN)(i1:Nat)(W0:List aT)(dL:Int):St:=⟨[(1,bp 0 0),(3,b9 1),(4,aB (i1:Int)),(5,aB dL)],[bu (aN.c aD),af 113 2 W0]⟩
theorem GL(hZ:Z.nt=55){aD:aN}{i1:Nat}{bg:aS}{r:aP}{k2:aP->Option aP}(zc:∀(tY:aP),k2 tY=some r->Ax Z N f37 (LG r) [1,1,0,1,0,0,1,0,0,1] ⟨[(1,bp 0 0),(3,b9 1),(4,aB (i1:Int))],[bu (aN.c aD),af 113 2 (tY.map aW.c)]⟩)(hx1:(aD.conds)[i1]?=some bg)(hm2:bg.pat.args.length<=maxLen):∀(rest:aI) (i2:Nat) (fJ:aP),bg.pat.args.drop i2=rest->jh aD i1 bg k2 rest i2 fJ=some r->Ar Z N f37 (LG r) [1,1,0,1,0,0,1,0,0,0,1,0] (rest.length+1) (Hf aD i1 (fJ.map aW.c) (i2:Int)):=by
 intro rest
 induction rest with
 |nil=>
  intro i2 fJ hd2 h;rw[jh]at h;refine aV fun N2 uY qt=>?_
  exact(((aY.l (bK aS.c 5 hx1 rfl)).ge tx hd2).a [.hl 5 [1,3,4] [0,1]]).ex hZ uY (zc fJ h)
 |cons jM tL ih2=>
  intro i2 fJ hd2 h;rw[jh]at h;refine aV fun N2 uY qt=>?_
  obtain⟨Di,h207,h⟩:=aH h;exact(((((((aY.l (bK aS.c 5 hx1 rfl)).lt tx hd2).l (bK aS.c 5 hx1 rfl)).l (bK tx 1 (dc hd2) rfl)).w (show(fJ.map aW.c).flatten.all D.flat=true from by simpa only[bI,bA,cF]using EJ (c:=aW.c) (fun _=>rfl) fJ)).w (show Jh prog 85 [b9 0,aZ jM] 113 2 (fJ.map aW.c) (Di.map aW.c)from by simpa only[bI,bA,cF]using uw h207)).a [.ov 1 (Di.map aW.c),.cn [1,3,4,5] [0,2]]).ct hZ qt (iS hd2 hm2) (ih2 (i2+1) Di (dn hd2) h)
theorem GK(hZ:Z.nt=55){aD:aN}{r:aP}{k1:aP->Option aP}(eC:∀(cM:aP),k1 cM=some r->Ax Z N f37 (LG r) [1,1,1] ⟨[(3,b9 0)],[af 113 2 (cM.map aW.c)]⟩)(hm1:aD.conds.length<=maxLen):∀(rest:ay) (i1:Nat) (bn:aP),aD.conds.drop i1=rest->jg aD k1 rest i1 bn=some r->Ar Z N f37 (LG r) [1,1,0,1,0] (rest.length+1) (He aD (bn.map aW.c) (i1:Int)):=by
 intro rest
 induction rest with
 |nil=>
  intro i1 bn bB h;rw[jg]at h;refine aV fun N1 cq cS=>?_
  exact((aY.ge aS.c bB).a [.hl 0 [3] [1]]).ex hZ cq (eC bn h)
 |cons bg cj ih1=>
  intro i1 bn bB h;rw[jg]at h;refine aV fun N1 cq cS=>?_
  obtain⟨h212,h⟩:=bf h;refine((aY.lt aS.c bB).a [.cn [1,3,4,5] [0,1]]).lp hZ (GL hZ (fun tY h=>?_) ((drop_cons bB).1) (bh h212) bg.pat.args 0 bn rfl h);obtain⟨zy,h209,a3i,h211,h⟩:=bR h;exact((((((((aY.l (bK aS.c 5 (dc bB) rfl)).w (show(tY.map aW.c).flatten.all D.flat=true from by simpa only[bI,bA,cF]using EJ (c:=aW.c) (fun _=>rfl) tY)).w (show Jh prog 85 [b9 0,aZ bg.left] 113 2 (tY.map aW.c) (zy.map aW.c)from by simpa only[bI,bA,cF]using uw h209)).a [.ov 1 (zy.map aW.c)]).l (bK aS.c 5 (dc bB) rfl)).w (show(zy.map aW.c).flatten.all D.flat=true from by simpa only[bI,bA,cF]using EJ (c:=aW.c) (fun _=>rfl) zy)).w (show Jh prog 85 [b9 0,aZ bg.right] 113 2 (zy.map aW.c) (a3i.map aW.c)from by simpa only[bI,bA,cF]using uw h211)).a [.ov 2 (a3i.map aW.c),.cn [1,3,4] [0,3]]).ct hZ cS (iS bB hm1) (ih1 (i1+1) a3i (dn bB) h)
theorem z7{aD:aN}{r:aP}(h:qQ aD=some r):Good prog 37 [bw (aN.c aD)] (cW 113 2 (r.map aW.c)):=by
 refine gd func37 FL 55 fun hr Z hZ=>?_
 rw[qQ]at h;refine(aY.a [.cn [1,3,4] [0,1]]).lp hZ (GK hZ (fun cM h=>?_) (by have:=(gY.sl (gY.agg (hr _ (aE (i:=0) rfl)) (.sl (aD.conds.map aS.c)) (by simp))).1;simpa using this) aD.conds 0 ([]:aP) rfl h);cases aM h;exact aY.ret hZ
def mh(aD:aN)(y1:aP)(k1:ay->Option ay):ay->Nat->ay->Option ay
 | [],i1,bn=>(k1 bn)
 |bg::cj,i1,bn=>((l9 bg y1).bind fun Dm=>(bif room ((bn.map aS.c).length+([[aB Dm.kind,aZ Dm.pat.rel,bX (Dm.pat.args.map tx),aZ Dm.left,aZ Dm.right]]).length) 80 then(mh aD y1 k1 cj (i1+1) (bn++([Dm])))else none))
def su(aD:aN):Option ay:=((qQ aD).bind fun y1=>(mh aD y1 (fun(cM:ay)=>(some cM)) aD.conds 0 ([]:ay)))
def AU(aD:aN)(y1:aP)(W0:List aT)(dL:Int):St:=⟨[(1,bp 0 0),(3,b9 1),(4,b9 2),(5,aB dL)],[bu (aN.c aD),af 71 5 W0,af 113 2 (y1.map aW.c)]⟩
def Oe(r:ay):Kd:=.q [[some (71,5)]] (cW 71 5 (r.map aS.c))
theorem GJ(hZ:Z.nt=27){aD:aN}{y1:aP}{r:ay}{k1:ay->Option ay}(eC:∀(cM:ay),k1 cM=some r->Ax Z N f90 (Oe r) [1,1,1,1] ⟨[(3,b9 0)],[af 71 5 (cM.map aS.c)]⟩)(hm1:aD.conds.length<=maxLen):∀(rest:ay) (i1:Nat) (bn:ay),aD.conds.drop i1=rest->mh aD y1 k1 rest i1 bn=some r->Ar Z N f90 (Oe r) [1,1,1,0,1,0] (rest.length+1) (AU aD y1 (bn.map aS.c) (i1:Int)):=by
 intro rest
 induction rest with
 |nil=>
  intro i1 bn bB h;rw[mh]at h;refine aV fun N1 cq cS=>?_
  exact((aY.ge aS.c bB).a [.hl 0 [3] [1]]).ex hZ cq (eC bn h)
 |cons bg cj ih1=>
  intro i1 bn bB h;rw[mh]at h;refine aV fun N1 cq cS=>?_
  obtain⟨Dm,h30,h⟩:=aH h;obtain⟨h31,h⟩:=bf h;exact(((((aY.lt aS.c bB).l (bK aS.c 5 (dc bB) rfl)).g (kK h30)).w (cA h31)).a [.cn [1,3,4,5] [0,5,2]]).cs hZ cS (AU aD y1 ((bn.map aS.c)++([[aB Dm.kind,aZ Dm.pat.rel,bX (Dm.pat.args.map tx),aZ Dm.left,aZ Dm.right]])) (IntKind.i64.wrap ((i1:Int)+1))) (by first| (simp only[iS bB hm1,mA]<;>rfl)| (simp only[iS bB hm1,mA,aC.c,aW.c,aS.c,Action.c,aN.c,aQ.c,ai.c,ah.c,Node.c,aF.c,di.c]<;>rfl)) (ih1 (i1+1) (bn++([Dm])) (dn bB) h)
theorem F9{aD:aN}{r:ay}(h:su aD=some r):Good prog 90 [bw (aN.c aD)] (cW 71 5 (r.map aS.c)):=by
 refine gd func90 [[some (71,5)]] 27 fun hr Z hZ=>?_
 rw[su]at h;obtain⟨y1,h2,h⟩:=aH h;refine((aY.g (z7 h2)).a [.cn [1,3,4,5] [0,1,2]]).lp hZ (GJ hZ (fun cM h=>?_) (by have:=(gY.sl (gY.agg (hr _ (aE (i:=0) rfl)) (.sl (aD.conds.map aS.c)) (by simp))).1;simpa using this) aD.conds 0 ([]:ay) rfl h);cases aM h;exact aY.ret hZ
def lK(aD:aI)(aa:aI)(k1:Option Bool):aI->Nat->Option Bool
 | [],i1=>(k1)
 |bg::cj,i1=>((gA aa (i1:Int)).bind fun x22=>(bif !((bg:Bytes)==x22)then(some false)else(lK aD aa k1 cj (i1+1))))
def oq(aD:aI)(aa:aI):Option Bool:=(bif (((aD.map tx).length:Int):Int) != ((aa.map tx).length:Int)then(some false)else(lK aD aa (some true) aD 0))
def GO(aD:aI)(aa:aI)(dL:Int):St:=⟨[(0,bX (aD.map tx)),(1,bX (aa.map tx)),(5,aB dL)],[]⟩
theorem FB(hZ:Z.nt=26){aD:aI}{aa:aI}{r:Bool}{k1:Option Bool}(eC:k1=some r->Ax Z N f156 (.q bZ (bQ r)) [1,1,1] ⟨[],[]⟩)(hm1:aD.length<=maxLen):∀(rest:aI) (i1:Nat),aD.drop i1=rest->lK aD aa k1 rest i1=some r->Ar Z N f156 (.q bZ (bQ r)) [1,1,0,1,0] (rest.length+1) (GO aD aa (i1:Int)):=by
 intro rest
 induction rest with
 |nil=>
  intro i1 bB h;rw[lK]at h;refine aV fun N1 cq cS=>?_
  exact((aY.ge tx bB).a [.hl 0 [] []]).ex hZ cq (eC h)
 |cons bg cj ih1=>
  intro i1 bB h;rw[lK]at h;refine aV fun N1 cq cS=>?_
  obtain⟨x22,h23,h⟩:=aH h;have fG:=((((aY.lt tx bB).a [.n 8]).l (bK tx 1 (dc bB) rfl)).l (dW tx 1 h23 rfl))
  obtain⟨h24,h⟩|⟨h24,h⟩:=aK h
  ·cases aM h;exact(fG.b h24).ret hZ
  ·exact((fG.b h24).a [.cn [0,1,5] []]).ct hZ cS (iS bB hm1) (ih1 (i1+1) (dn bB) h)
theorem yT{aD:aI}{aa:aI}{r:Bool}(h:oq aD aa=some r):Good prog 156 [bX (aD.map tx),bX (aa.map tx)] (bQ r):=by
 refine gd func156 bZ 26 fun hr Z hZ=>?_
 rw[oq]at h;obtain⟨h1,h⟩|⟨h1,h⟩:=aK h
 ·cases aM h;exact(aY.b h1).ret hZ
 ·refine((aY.b h1).a [.cn [0,1,5] []]).lp hZ (FB hZ (fun h=>?_) (by have:=(gY.sl (hr _ (aE (i:=0) rfl))).1;simpa using this) aD 0 rfl h);cases aM h;exact aY.ret hZ
def jj(aD:aC)(aa:aC):Option Bool:=(bif (aD.rel:Bytes)==aa.rel then((oq aD.args aa.args).bind fun y2=>(some y2))else(some false))
theorem uR{aD:aC}{aa:aC}{r:Bool}(h:jj aD aa=some r):Good prog 93 [bw (aC.c aD),bw (aC.c aa)] (bQ r):=by
 refine gd func93 bZ 17 fun hr Z hZ=>?_
 rw[jj]at h;obtain⟨h1,h⟩|⟨h1,h⟩:=aK h
 ·obtain⟨y2,h3,h⟩:=aH h;cases aM h;exact(((aY.r 5 h1).g (yT h3)).b h1).ret hZ
 ·cases aM h;exact(aY.r 6 h1).ret hZ
def qe(aD:aS)(aa:aS):Option Bool:=(bif (aD.kind:Int)==aa.kind then((jj aD.pat aa.pat).bind fun y2=>(bif y2 then(bif (aD.left:Bytes)==aa.left then(some ((aD.right:Bytes)==aa.right))else(some false))else(some false)))else(some false))
theorem AX{aD:aS}{aa:aS}{r:Bool}(h:qe aD aa=some r):Good prog 94 [bw (aS.c aD),bw (aS.c aa)] (bQ r):=by
 refine gd func94 bZ 31 fun hr Z hZ=>?_
 rw[qe]at h;obtain⟨h1,h⟩|⟨h1,h⟩:=aK h
 ·obtain⟨y2,h3,h⟩:=aH h;have lC:=(((aY.r 5 h1).g (uR h3)).b h1)
  obtain⟨h4,h⟩|⟨h4,h⟩:=aK h
  ·have fG:=(lC.r 6 h4)
   obtain⟨h5,h⟩|⟨h5,h⟩:=aK h
   ·cases h;exact(fG.r 6 h5).ret hZ
   ·cases aM h;exact(fG.r 6 h5).ret hZ
  ·cases aM h;exact((lC.r 6 h4).F 6).ret hZ
 ·cases aM h;exact((aY.r 6 h1).F 12).ret hZ
def nW(aD:aC)(k1:aP->Option aC):aI->Nat->aP->Option aC
 | [],i1,nk=>(k1 nk)
 |bg::cj,i1,nk=>((rI nk bg).bind fun rV=>(nW aD k1 cj (i1+1) rV))
def uS(aD:aC):Option aC:=(nW aD (fun(r9:aP)=>((l9 (⟨0,aD,[],[]⟩:aS) r9).bind fun EY=>(some EY.pat))) aD.args 0 ([]:aP))
def Lp(aD:aC)(W0:List aT)(dL:Int):St:=⟨[(1,bp 0 0),(2,bp 1 0),(3,b9 2),(4,aB dL)],[bu (aC.c aD),bu [aZ ([]),D.nil],af 113 2 W0]⟩
def aAH(r:aC):Kd:=.q Kr (bw [aZ r.rel,cW 9 1 (r.args.map tx)])
theorem KT(hZ:Z.nt=25){aD:aC}{r:aC}{k1:aP->Option aC}(eC:∀(r9:aP),k1 r9=some r->Ax Z N f153 (aAH r) [1,1,1] ⟨[(1,bp 0 0),(2,bp 1 0),(3,b9 2)],[bu (aC.c aD),bu [aZ ([]),D.nil],af 113 2 (r9.map aW.c)]⟩)(hm1:aD.args.length<=maxLen):∀(rest:aI) (i1:Nat) (nk:aP),aD.args.drop i1=rest->nW aD k1 rest i1 nk=some r->Ar Z N f153 (aAH r) [1,1,0,1,0] (rest.length+1) (Lp aD (nk.map aW.c) (i1:Int)):=by
 intro rest
 induction rest with
 |nil=>
  intro i1 nk bB h;rw[nW]at h;refine aV fun N1 cq cS=>?_
  exact((aY.ge tx bB).a [.hl 0 [1,2,3] [0,1,2]]).ex hZ cq (eC nk h)
 |cons bg cj ih1=>
  intro i1 nk bB h;rw[nW]at h;refine aV fun N1 cq cS=>?_
  obtain⟨rV,h23,h⟩:=aH h;exact(((((aY.lt tx bB).l (bK tx 1 (dc bB) rfl)).w (show(nk.map aW.c).flatten.all D.flat=true from by simpa only[bI,bA,cF]using EJ (c:=aW.c) (fun _=>rfl) nk)).w (show Jh prog 85 [b9 0,aZ bg] 113 2 (nk.map aW.c) (rV.map aW.c)from by simpa only[bI,bA,cF]using uw h23)).a [.ov 2 (rV.map aW.c),.cn [1,2,3,4] [0,1,3]]).ct hZ cS (iS bB hm1) (ih1 (i1+1) rV (dn bB) h)
theorem BK{aD:aC}{r:aC}(h:uS aD=some r):Good prog 153 [bw (aC.c aD)] (bw [aZ r.rel,cW 9 1 (r.args.map tx)]):=by
 refine gd func153 Kr 25 fun hr Z hZ=>?_
 rw[uS]at h;refine(aY.a [.cn [1,2,3,4] [0,1,2]]).lp hZ (KT hZ (fun r9 h=>?_) (by have:=(gY.sl (gY.agg (hr _ (aE (i:=0) rfl)) (.sl (aD.args.map tx)) (by simp))).1;simpa using this) aD.args 0 ([]:aP) rfl h);obtain⟨EY,h25,h⟩:=aH h;cases h;exact((aY.a [.d (bw [aB EY.kind,aZ EY.pat.rel,cW 9 1 (EY.pat.args.map tx),aZ EY.left,aZ EY.right])]).w (show Good prog 151 [bw [aB 0,aZ aD.rel,bX (aD.args.map tx),aZ ([]),aZ ([])],bX (r9.map aW.c)] (bw [aB EY.kind,aZ EY.pat.rel,cW 9 1 (EY.pat.args.map tx),aZ EY.left,aZ EY.right])from by first| (simpa only[bI,bA,cF,cD,cI]using kK h25)|exact kK h25| (have t:=kK h25;simp only[bI,cD,cI,aS.c]at t;exact t))).ret hZ
def cN(x:aF):aT:=[cW 63 4 (x.rules.map aN.c),cW 3 1 (x.ends.map jN),cW 83 3 (x.bG.map ah.c),cW 74 8 (x.nodes.map Node.c),cW 43 2 (x.facts.map aC.c),aB x.cP]
def ng(aD:aF)(aa:aC)(k1:Option (aF×Int)):bP->Nat->Option (aF×Int)
 | [],i1=>(k1)
 |bg::cj,i1=>((jj bg.shape aa).bind fun rV=>(bif rV then(some (aD,(i1:Int)))else(ng aD aa k1 cj (i1+1))))
def uU(aD:aF)(aa:aC):Option (aF×Int):=(bif decide (aD.bG.length<=maxLen)then(ng aD aa (bif room ((aD.bG.map ah.c).length+([[aZ aa.rel,bX (aa.args.map tx),bX ([])]]).length) 64 then(some ((⟨aD.rules,aD.ends,aD.bG++([(⟨aa,[]⟩:ah)]),aD.nodes,aD.facts,aD.cP⟩:aF),IntKind.i64.wrap ((((aD.bG.map ah.c)++([[aZ aa.rel,bX (aa.args.map tx),bX ([])]])).length:Int)-1)))else none) aD.bG 0)else none)
def M5(jC:Value)(aD:aF)(aa:aC)(dL:Int):St:=⟨[(0,bp 0 0),(3,bp 1 0),(5,aB dL)],[Ob.CW [b9 2,b9 3,b9 4,b9 5,b9 6,aB aD.cP] jC,bu [aZ aa.rel,b9 7],af 63 4 (aD.rules.map aN.c),af 3 1 (aD.ends.map jN),af 83 3 (aD.bG.map ah.c),af 74 8 (aD.nodes.map Node.c),af 43 2 (aD.facts.map aC.c),af 9 1 (aa.args.map tx)]⟩
theorem Kc(hZ:Z.nt=43){jC:Value}{aD:aF}{aa:aC}{r:aF×Int}{k1:Option (aF×Int)}(eC:k1=some r->Ax Z N f152 (.p sJ jC (cN r.1) (aB r.2)) [1,1] ⟨[(0,bp 0 0),(3,bp 1 0)],[Ob.CW [b9 2,b9 3,b9 4,b9 5,b9 6,aB aD.cP] jC,bu [aZ aa.rel,b9 7],af 63 4 (aD.rules.map aN.c),af 3 1 (aD.ends.map jN),af 83 3 (aD.bG.map ah.c),af 74 8 (aD.nodes.map Node.c),af 43 2 (aD.facts.map aC.c),af 9 1 (aa.args.map tx)]⟩)(hm1:aD.bG.length<=maxLen):∀(rest:bP) (i1:Nat),aD.bG.drop i1=rest->ng aD aa k1 rest i1=some r->Ar Z N f152 (.p sJ jC (cN r.1) (aB r.2)) [1,0,1,0] (rest.length+1) (M5 jC aD aa (i1:Int)):=by
 intro rest
 induction rest with
 |nil=>
  intro i1 bB h;rw[ng]at h;refine aV fun N1 cq cS=>?_
  exact((aY.ge ah.c bB).a [.hl 0 [0,3] [0,1,2,3,4,5,6,7]]).ex hZ cq (eC h)
 |cons bg cj ih1=>
  intro i1 bB h;rw[ng]at h;refine aV fun N1 cq cS=>?_
  obtain⟨rV,h23,h⟩:=aH h;have fG:=(((((aY.lt ah.c bB).a [.n 9]).i (fH ah.c 3 (dc bB))).o 3 2 .uq (cL ah.c (dc bB))).g (uR h23))
  obtain⟨h24,h⟩|⟨h24,h⟩:=aK h
  ·cases h;exact(fG.b h24).ret hZ
  ·exact((fG.b h24).a [.cn [0,3,5] [0,1,2,3,4,5,6,7]]).ct hZ cS (iS bB hm1) (ih1 (i1+1) (dn bB) h)
theorem BO{aD:aF}{aa:aC}{r:aF×Int}(h:uU aD aa=some r):j0 prog 152 (cN aD) (cN r.1) [bw [aZ aa.rel,cW 9 1 (aa.args.map tx)]] (aB r.2):=by
 refine L4 func152 sJ 43 [b9 1,b9 2,b9 3,b9 4,b9 5,aB aD.cP] [bw [aZ aa.rel,b9 6]] [af 63 4 (aD.rules.map aN.c),af 3 1 (aD.ends.map jN),af 83 3 (aD.bG.map ah.c),af 74 8 (aD.nodes.map Node.c),af 43 2 (aD.facts.map aC.c),af 9 1 (aa.args.map tx)] fun hr jC Z hZ=>?_
 rw[uU]at h;obtain⟨h27,h⟩:=bf h;refine(aY.a [.cn [0,3,5] [0,7,1,2,3,4,5,6]]).lp hZ (Kc hZ (fun h=>?_) (bh h27) aD.bG 0 rfl h);obtain⟨h26,h⟩:=bf h;cases h;exact((aY.w (cA h26)).a [.n2 [0,1,2,3,4,5,6,7,8,9,10,11] [0,1,2,3,4,5,6,7,8,9,10,11] 7 9 [0,1,2,3,4] [4,7,8]]).rts hZ (D.iz [aB (IntKind.i64.wrap ((((aD.bG.map ah.c)++([[aZ aa.rel,bX (aa.args.map tx),bX ([])]])).length:Int)-1)),bw [cW 63 4 (aD.rules.map aN.c),cW 3 1 (aD.ends.map jN),cW 83 3 ((aD.bG.map ah.c)++([[aZ aa.rel,bX (aa.args.map tx),bX ([])]])),cW 74 8 (aD.nodes.map Node.c),cW 43 2 (aD.facts.map aC.c),aB aD.cP],D.val jC]) (by first|rfl| (simp only[mA]<;>rfl)| (simp only[cN,mA]<;>rfl))
def iN(aD:aF)(aa:Int)(cv:aS)(k1:Option (aF×Int)):Nat->Int->Option (aF×Int)
 |0,_=>none
 |n1+1,wz=>(bif decide ((wz:Int)<((aD.nodes.map Node.c).length:Int))then((gA aD.nodes wz).bind fun x16=>(bif (x16.parent:Int)==aa then((qe x16.cond cv).bind fun AD=>(bif AD then(some (aD,wz))else(iN aD aa cv k1 n1 (IntKind.i64.wrap (wz+1)))))else(iN aD aa cv k1 n1 (IntKind.i64.wrap (wz+1)))))else(k1))
def wM(aD:aF)(aa:Int)(cv:aS):Option (aF×Int):=(iN aD aa cv ((lP cv).bind fun rV=>(bif (cv.kind:Int)==1 then((uS cv.pat).bind fun xo=>((uU aD xo).bind fun qB=>(bif room ((qB.1.nodes.map Node.c).length+([[aB aa,aB rV.kind,aZ rV.pat.rel,bX (rV.pat.args.map tx),aZ rV.left,aZ rV.right,aB qB.2,bX ([])]]).length) 120 then(some ((⟨qB.1.rules,qB.1.ends,qB.1.bG,qB.1.nodes++([(⟨aa,rV,qB.2,[]⟩:Node)]),qB.1.facts,qB.1.cP⟩:aF),IntKind.i64.wrap ((((qB.1.nodes.map Node.c)++([[aB aa,aB rV.kind,aZ rV.pat.rel,bX (rV.pat.args.map tx),aZ rV.left,aZ rV.right,aB qB.2,bX ([])]])).length:Int)-1)))else none)))else(bif (cv.kind:Int)==2 then((uS cv.pat).bind fun Jt=>((uU aD Jt).bind fun Gf=>(bif room ((Gf.1.nodes.map Node.c).length+([[aB aa,aB rV.kind,aZ rV.pat.rel,bX (rV.pat.args.map tx),aZ rV.left,aZ rV.right,aB Gf.2,bX ([])]]).length) 120 then(some ((⟨Gf.1.rules,Gf.1.ends,Gf.1.bG,Gf.1.nodes++([(⟨aa,rV,Gf.2,[]⟩:Node)]),Gf.1.facts,Gf.1.cP⟩:aF),IntKind.i64.wrap ((((Gf.1.nodes.map Node.c)++([[aB aa,aB rV.kind,aZ rV.pat.rel,bX (rV.pat.args.map tx),aZ rV.left,aZ rV.right,aB Gf.2,bX ([])]])).length:Int)-1)))else none)))else(bif room ((aD.nodes.map Node.c).length+([[aB aa,aB rV.kind,aZ rV.pat.rel,bX (rV.pat.args.map tx),aZ rV.left,aZ rV.right,aB (-1),bX ([])]]).length) 120 then(some ((⟨aD.rules,aD.ends,aD.bG,aD.nodes++([(⟨aa,rV, -1,[]⟩:Node)]),aD.facts,aD.cP⟩:aF),IntKind.i64.wrap ((((aD.nodes.map Node.c)++([[aB aa,aB rV.kind,aZ rV.pat.rel,bX (rV.pat.args.map tx),aZ rV.left,aZ rV.right,aB (-1),bX ([])]])).length:Int)-1)))else none)))) fuel 1)
def M8(jC:Value)(aD:aF)(aa:Int)(cv:aS)(wz:Int):St:=⟨[(0,bp 0 0),(1,aB aa),(5,bp 1 0),(7,aB wz)],[Ob.CW [b9 2,b9 3,b9 4,b9 5,b9 6,aB aD.cP] jC,bu (aS.c cv),af 63 4 (aD.rules.map aN.c),af 3 1 (aD.ends.map jN),af 83 3 (aD.bG.map ah.c),af 74 8 (aD.nodes.map Node.c),af 43 2 (aD.facts.map aC.c)]⟩
theorem Kf(hZ:Z.nt=75){jC:Value}{aD:aF}{aa:Int}{cv:aS}{r:aF×Int}{k1:Option (aF×Int)}(eC:k1=some r->Ax Z N f91 (.p sJ jC (cN r.1) (aB r.2)) [1,1] ⟨[(0,bp 0 0),(1,aB aa),(5,bp 1 0)],[Ob.CW [b9 2,b9 3,b9 4,b9 5,b9 6,aB aD.cP] jC,bu (aS.c cv),af 63 4 (aD.rules.map aN.c),af 3 1 (aD.ends.map jN),af 83 3 (aD.bG.map ah.c),af 74 8 (aD.nodes.map Node.c),af 43 2 (aD.facts.map aC.c)]⟩):∀(n1:Nat) (wz:Int),iN aD aa cv k1 n1 wz=some r->Ar Z N f91 (.p sJ jC (cN r.1) (aB r.2)) [1,0,1,0] n1 (M8 jC aD aa cv wz):=by
 intro n
 induction n with
 |zero=>intro wz h;simp[iN]at h
 |succ n1 ih1=>
  intro wz h;rw[iN]at h;refine aV fun N1 cq cS=>?_
  obtain⟨h15,h⟩|⟨h15,h⟩:=aK h
  ·obtain⟨x16,h17,h⟩:=aH h;have jR:=((((aY.b h15).a [.n 20]).i (fI Node.c 8 h17)).o 8 1 .uq (cL Node.c (dw h17)))
   obtain⟨h18,h⟩|⟨h18,h⟩:=aK h
   ·obtain⟨AD,h20,h⟩:=aH h;have k6:=(((((((jR.r 6 h18).i (fI Node.c 8 h17)).r 2 h18).o 8 6 .uq (cL Node.c (dw h17))).r 2 h18).g (AX h20)).b h18)
    obtain⟨h21,h⟩|⟨h21,h⟩:=aK h
    ·cases h;exact(k6.b h21).ret hZ
    ·exact((k6.b h21).a [.cn [0,1,5,7] [0,1,2,3,4,5,6]]).cf hZ cS (ih1 (IntKind.i64.wrap (wz+1)) h)
   ·exact(((jR.r 11 h18).F 1).a [.cn [0,1,5,7] [0,1,2,3,4,5,6]]).cf hZ cS (ih1 (IntKind.i64.wrap (wz+1)) h)
  ·exact((aY.b h15).a [.hl 0 [0,1,5] [0,1,2,3,4,5,6]]).ex hZ cq (eC h)
theorem JX{aD:aF}{aa:Int}{cv:aS}{r:aF×Int}(h:wM aD aa cv=some r):j0 prog 91 (cN aD) (cN r.1) [aB aa,bw (aS.c cv)] (aB r.2):=by
 refine L4 func91 sJ 75 [b9 1,b9 2,b9 3,b9 4,b9 5,aB aD.cP] [aB aa,bw [aB cv.kind,aZ cv.pat.rel,bX (cv.pat.args.map tx),aZ cv.left,aZ cv.right]] [af 63 4 (aD.rules.map aN.c),af 3 1 (aD.ends.map jN),af 83 3 (aD.bG.map ah.c),af 74 8 (aD.nodes.map Node.c),af 43 2 (aD.facts.map aC.c)] fun hr jC Z hZ=>?_
 rw[wM]at h;refine(aY.a [.cn [0,1,5,7] [0,6,1,2,3,4,5]]).lp hZ (Kf hZ (fun h=>?_) fuel 1 h);obtain⟨rV,h23,h⟩:=aH h;obtain⟨h24,h⟩|⟨h24,h⟩:=aK h
 ·obtain⟨xo,h26,qB,h28,h⟩:=bR h;obtain⟨h30,h⟩:=bf h;cases h;exact(((((((aY.g (rZ h23)).r 4 h24).T 1).g (BK h26)).hp TP (BO h28)).w (cA h30)).a [.n2 [0,1,2,3,4,5,6,7,8,9,10] [0,1,2,3,4,5,6,7,8,9,10] 6 8 [0,1,2,3,4] [7,13,15]]).rts hZ (D.iz [aB (IntKind.i64.wrap ((((qB.1.nodes.map Node.c)++([[aB aa,aB rV.kind,aZ rV.pat.rel,bX (rV.pat.args.map tx),aZ rV.left,aZ rV.right,aB qB.2,bX ([])]])).length:Int)-1)),bw [cW 63 4 (qB.1.rules.map aN.c),cW 3 1 (qB.1.ends.map jN),cW 83 3 (qB.1.bG.map ah.c),cW 74 8 ((qB.1.nodes.map Node.c)++([[aB aa,aB rV.kind,aZ rV.pat.rel,bX (rV.pat.args.map tx),aZ rV.left,aZ rV.right,aB qB.2,bX ([])]])),cW 43 2 (qB.1.facts.map aC.c),aB qB.1.cP],D.val jC]) (by first|rfl| (simp only[mA]<;>rfl)| (simp only[cN,mA]<;>rfl))
 ·have ud:=((aY.g (rZ h23)).r 4 h24)
  obtain⟨h31,h⟩|⟨h31,h⟩:=aK h
  ·obtain⟨Jt,h33,Gf,h35,h⟩:=bR h;obtain⟨h37,h⟩:=bf h;cases h;exact(((((ud.b h31).g (BK h33)).hp TP (BO h35)).w (cA h37)).a [.n2 [0,1,2,3,4,5,6,7,8,9,10] [0,1,2,3,4,5,6,7,8,9,10] 6 8 [0,1,2,3,4] [7,13,15]]).rts hZ (D.iz [aB (IntKind.i64.wrap ((((Gf.1.nodes.map Node.c)++([[aB aa,aB rV.kind,aZ rV.pat.rel,bX (rV.pat.args.map tx),aZ rV.left,aZ rV.right,aB Gf.2,bX ([])]])).length:Int)-1)),bw [cW 63 4 (Gf.1.rules.map aN.c),cW 3 1 (Gf.1.ends.map jN),cW 83 3 (Gf.1.bG.map ah.c),cW 74 8 ((Gf.1.nodes.map Node.c)++([[aB aa,aB rV.kind,aZ rV.pat.rel,bX (rV.pat.args.map tx),aZ rV.left,aZ rV.right,aB Gf.2,bX ([])]])),cW 43 2 (Gf.1.facts.map aC.c),aB Gf.1.cP],D.val jC]) (by first|rfl| (simp only[mA]<;>rfl)| (simp only[cN,mA]<;>rfl))
  ·obtain⟨h39,h⟩:=bf h;cases h;exact(((ud.b h31).w (cA h39)).a [.n2 [0,1,2,3,4,5,6,7,8,9,10] [0,1,2,3,4,5,6,7,8,9,10] 6 8 [0,1,2,3,4] [5,7,9]]).rts hZ (D.iz [aB (IntKind.i64.wrap ((((aD.nodes.map Node.c)++([[aB aa,aB rV.kind,aZ rV.pat.rel,bX (rV.pat.args.map tx),aZ rV.left,aZ rV.right,aB (-1),bX ([])]])).length:Int)-1)),bw [cW 63 4 (aD.rules.map aN.c),cW 3 1 (aD.ends.map jN),cW 83 3 (aD.bG.map ah.c),cW 74 8 ((aD.nodes.map Node.c)++([[aB aa,aB rV.kind,aZ rV.pat.rel,bX (rV.pat.args.map tx),aZ rV.left,aZ rV.right,aB (-1),bX ([])]])),cW 43 2 (aD.facts.map aC.c),aB aD.cP],D.val jC]) (by first|rfl| (simp only[mA]<;>rfl)| (simp only[cN,mA]<;>rfl))
def ig(aD:az)(i1:Nat)(Mq:ay)(k2:Int->Int->az->bM->bP->bN->aJ->Option (aF×Bool)):ay->Nat->Int->Int->az->bM->bP->bN->aJ->Option (aF×Bool)
 | [],i2,ni,qk,Df,lY,x6,kR,tZ=>(k2 ni qk Df lY x6 kR tZ)
 |jM::tL,i2,ni,qk,Df,lY,x6,kR,tZ=>((wM (⟨Df,lY,x6,kR,tZ,qk⟩:aF) ni jM).bind fun FP=>(ig aD i1 Mq k2 tL (i2+1) FP.2 FP.1.cP FP.1.rules FP.1.ends FP.1.bG FP.1.nodes FP.1.facts))
def ic(aD:az)(k1:Int->az->bM->bP->bN->aJ->Option (aF×Bool)):az->Nat->Int->az->bM->bP->bN->aJ->Option (aF×Bool)
 | [],i1,qj,nk,dh,xN,nG,De=>(k1 qj nk dh xN nG De)
 |bg::cj,i1,qj,nk,dh,xN,nG,De=>((su bg).bind fun Mq=>(bif decide (Mq.length<=maxLen)then(ig aD i1 Mq (fun(Bd:Int) (qh:Int) (Ks:az) (yH:bM) (Kt:bP) (nB:bN) (Ku:aJ)=>(bif room ((yH.map jN).length+([[aB Bd]]).length) 8 then(ic aD k1 cj (i1+1) qh Ks (yH++([Bd])) Kt nB Ku)else none)) Mq 0 0 qj nk dh xN nG De)else none))
def ke(aD:az):Option (aF×Bool):=((vK aD).bind fun y1=>(bif !(y1)then(some ((⟨[],[],[],[],[],0⟩:aF),false))else((sP aD).bind fun y4=>(ic aD (fun(wT:Int) (r9:az) (eO:bM) (Qh:bP) (lX:bN) (wS:aJ)=>(some ((⟨r9,eO,Qh,lX,wS,wT⟩:aF),true))) aD 0 0 y4 ([]:bM) ([]:bP) ([(⟨-1,(⟨0,(⟨[],[]⟩:aC),[],[]⟩:aS), -1,[(⟨[],[]⟩:aQ)]⟩:Node)]) ([]:aJ)))))
def uj(aD:az)(qj:Int)(W1:List aT)(W2:List aT)(W3:List aT)(W4:List aT)(W5:List aT)(dL:Int):St:=⟨[(0,bX (aD.map aN.c)),(2,bp 0 0),(4,bp 1 0),(5,aB dL)],[bu [D.nil,D.nil,D.nil,D.nil,D.nil,aB 0],bu [b9 2,b9 3,b9 4,b9 5,b9 6,aB qj],af 63 4 W1,af 3 1 W2,af 83 3 W3,af 74 8 W4,af 43 2 W5]⟩
def F7(aD:az)(i1:Nat)(Mq:ay)(ni:Int)(qk:Int)(W2:List aT)(W3:List aT)(W4:List aT)(W5:List aT)(W6:List aT)(dL:Int):St:=⟨[(0,bX (aD.map aN.c)),(2,bp 0 0),(4,bp 1 0),(5,aB (i1:Int)),(6,aB ni),(7,b9 2),(8,aB dL)],[bu [D.nil,D.nil,D.nil,D.nil,D.nil,aB 0],bu [b9 3,b9 4,b9 5,b9 6,b9 7,aB qk],af 71 5 (Mq.map aS.c),af 63 4 W2,af 3 1 W3,af 83 3 W4,af 74 8 W5,af 43 2 W6]⟩
def XG(r:aF×Bool):Kd:=.q sJ (D.iz [bw [cW 63 4 (r.1.rules.map aN.c),cW 3 1 (r.1.ends.map jN),cW 83 3 (r.1.bG.map ah.c),cW 74 8 (r.1.nodes.map Node.c),cW 43 2 (r.1.facts.map aC.c),aB r.1.cP],bQ r.2])
theorem E3(hZ:Z.nt=50){aD:az}{i1:Nat}{Mq:ay}{r:aF×Bool}{k2:Int->Int->az->bM->bP->bN->aJ->Option (aF×Bool)}(zc:∀(Bd:Int) (qh:Int) (Ks:az) (yH:bM) (Kt:bP) (nB:bN) (Ku:aJ),k2 Bd qh Ks yH Kt nB Ku=some r->Ax Z N f40 (XG r) [1,1,1,0,1,0,0,1,0,0,1,1,1] ⟨[(0,bX (aD.map aN.c)),(2,bp 0 0),(4,bp 1 0),(5,aB (i1:Int)),(6,aB Bd)],[bu [D.nil,D.nil,D.nil,D.nil,D.nil,aB 0],bu [b9 2,b9 3,b9 4,b9 5,b9 6,aB qh],af 63 4 (Ks.map aN.c),af 3 1 (yH.map jN),af 83 3 (Kt.map ah.c),af 74 8 (nB.map Node.c),af 43 2 (Ku.map aC.c)]⟩)(hm2:Mq.length<=maxLen):∀(rest:ay) (i2:Nat) (ni:Int) (qk:Int) (Df:az) (lY:bM) (x6:bP) (kR:bN) (tZ:aJ),Mq.drop i2=rest->ig aD i1 Mq k2 rest i2 ni qk Df lY x6 kR tZ=some r->Ar Z N f40 (XG r) [1,1,1,0,1,0,0,1,0,0,1,1,0,1,0] (rest.length+1) (F7 aD i1 Mq ni qk (Df.map aN.c) (lY.map jN) (x6.map ah.c) (kR.map Node.c) (tZ.map aC.c) (i2:Int)):=by
 intro rest
 induction rest with
 |nil=>
  intro i2 ni qk Df lY x6 kR tZ hd2 h;rw[ig]at h;refine aV fun N2 uY qt=>?_
  exact((aY.ge aS.c hd2).a [.hl 5 [0,2,4,5,6] [0,1,3,4,5,6,7]]).ex hZ uY (zc ni qk Df lY x6 kR tZ h)
 |cons jM tL ih2=>
  intro i2 ni qk Df lY x6 kR tZ hd2 h;rw[ig]at h;refine aV fun N2 uY qt=>?_
  obtain⟨FP,h212,h⟩:=aH h;exact((((((aY.lt aS.c hd2).i (fH aS.c 5 (dc hd2))).o 5 5 .uq (cL aS.c (dc hd2))).a [.gp a2I (cN FP.1) (aB FP.2)]).w (show j0 prog 91 (cN (⟨Df,lY,x6,kR,tZ,qk⟩:aF)) (cN FP.1) [aB ni,bw (aS.c jM)] (aB FP.2)from by simpa only[bI,bA,cF,cD,cI]using JX h212)).a [.cn [0,2,4,5,6,7,8] [0,1,2,8,9,10,11,12]]).ct hZ qt (iS hd2 hm2) (ih2 (i2+1) FP.2 FP.1.cP FP.1.rules FP.1.ends FP.1.bG FP.1.nodes FP.1.facts (dn hd2) h)
theorem E2(hZ:Z.nt=50){aD:az}{r:aF×Bool}{k1:Int->az->bM->bP->bN->aJ->Option (aF×Bool)}(eC:∀(wT:Int) (r9:az) (eO:bM) (Qh:bP) (lX:bN) (wS:aJ),k1 wT r9 eO Qh lX wS=some r->Ax Z N f40 (XG r) [1,1,1,1] ⟨[(2,bp 0 0),(4,bp 1 0)],[bu [D.nil,D.nil,D.nil,D.nil,D.nil,aB 0],bu [b9 2,b9 3,b9 4,b9 5,b9 6,aB wT],af 63 4 (r9.map aN.c),af 3 1 (eO.map jN),af 83 3 (Qh.map ah.c),af 74 8 (lX.map Node.c),af 43 2 (wS.map aC.c)]⟩)(hm1:aD.length<=maxLen):∀(rest:az) (i1:Nat) (qj:Int) (nk:az) (dh:bM) (xN:bP) (nG:bN) (De:aJ),aD.drop i1=rest->ic aD k1 rest i1 qj nk dh xN nG De=some r->Ar Z N f40 (XG r) [1,1,1,0,1,0] (rest.length+1) (uj aD qj (nk.map aN.c) (dh.map jN) (xN.map ah.c) (nG.map Node.c) (De.map aC.c) (i1:Int)):=by
 intro rest
 induction rest with
 |nil=>
  intro i1 qj nk dh xN nG De bB h;rw[ic]at h;refine aV fun N1 cq cS=>?_
  exact((aY.ge aN.c bB).a [.hl 0 [2,4] [0,1,2,3,4,5,6]]).ex hZ cq (eC qj nk dh xN nG De h)
 |cons bg cj ih1=>
  intro i1 qj nk dh xN nG De bB h;rw[ic]at h;refine aV fun N1 cq cS=>?_
  obtain⟨Mq,h183,h⟩:=aH h;obtain⟨h214,h⟩:=bf h;refine((((aY.lt aN.c bB).l (bK aN.c 4 (dc bB) rfl)).g (F9 h183)).a [.cn [0,2,4,5,6,7,8] [0,1,7,2,3,4,5,6]]).lp hZ (E3 hZ (fun Bd qh Ks yH Kt nB Ku h=>?_) (bh h214) Mq 0 0 qj nk dh xN nG De rfl h);obtain⟨h213,h⟩:=bf h;exact((aY.w (cA h213)).a [.cn [0,2,4,5] [0,1,2,8,4,5,6]]).cs hZ cS (uj aD qh (Ks.map aN.c) ((yH.map jN)++([[aB Bd]])) (Kt.map ah.c) (nB.map Node.c) (Ku.map aC.c) (IntKind.i64.wrap ((i1:Int)+1))) (by first| (simp only[iS bB hm1,mA]<;>rfl)| (simp only[iS bB hm1,mA,aC.c,aW.c,aS.c,Action.c,aN.c,aQ.c,ai.c,ah.c,Node.c,aF.c,di.c]<;>rfl)) (ih1 (i1+1) qh Ks (yH++([Bd])) Kt nB Ku (dn bB) h)
theorem tR{aD:az}{r:aF×Bool}(h:ke aD=some r):Good prog 40 [bX (aD.map aN.c)] (D.iz [bw [cW 63 4 (r.1.rules.map aN.c),cW 3 1 (r.1.ends.map jN),cW 83 3 (r.1.bG.map ah.c),cW 74 8 (r.1.nodes.map Node.c),cW 43 2 (r.1.facts.map aC.c),aB r.1.cP],bQ r.2]):=by
 refine gd func40 sJ 50 fun hr Z hZ=>?_
 rw[ke]at h;obtain⟨y1,h2,h⟩:=aH h;obtain⟨h3,h⟩|⟨h3,h⟩:=aK h
 ·cases h;exact((aY.g (AS h2)).b h3).ret hZ
 ·obtain⟨y4,h5,h⟩:=aH h;refine((((aY.g (AS h2)).b h3).g (AY h5)).a [.pb 4 1 3 1,.pb 4 2 83 3,.pb 4 4 43 2,.cn [0,2,4,5] [0,4,1,5,6,3,7]]).lps hZ (uj aD 0 (y4.map aN.c) ([]:List aT) ([]:List aT) ([[aB (-1),aB 0,aZ ([]),bX ([]),aZ ([]),aZ ([]),aB (-1),bX ([[bX ([]),bX ([])]])]]) ([]:List aT) 0) (by first| (simp only[mA]<;>rfl)| (simp only[mA,aC.c,aW.c,aS.c,Action.c,aN.c,aQ.c,ai.c,ah.c,Node.c,aF.c,di.c]<;>rfl)) (E2 hZ (fun wT r9 eO Qh lX wS h=>?_) (by have:=(gY.sl (hr _ (aE (i:=0) rfl))).1;simpa using this) aD 0 0 y4 ([]:bM) ([]:bP) ([(⟨-1,(⟨0,(⟨[],[]⟩:aC),[],[]⟩:aS), -1,[(⟨[],[]⟩:aQ)]⟩:Node)]) ([]:aJ) rfl h);cases h;exact aY.ret hZ
end Go.Cx

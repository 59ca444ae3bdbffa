/- Matching under other names of the variables, in plain words. No condition. -/
import Derived.Test.YtfankinmlfnncaaGreatDoorPFnKeepsUpG7
import Derived.Test.YtfankinmlfnncaaGreatDoorPFnKeepsUpG6
import Derived.Test.YtfankinmlfnncaaGreatDoorPFnKeepsUpG3
import Derived.ProofKit
set_option linter.unusedVariables false
set_option linter.unusedSimpArgs false
namespace Go.Cx
open Go.RowKit Go.Proofs Tryz
structure Ren(h:Bytes->Bytes)(V:Bytes->Prop):Prop where
 var:∀v,V v->fQ v=true
 TB:∀t,fQ t=false->h t=t
 V4:∀v,V v->fQ (h v)=true
 inj:∀u v,V u->V v->h u=h v->u=v
structure RB(h:Bytes->Bytes)(V:Bytes->Prop)(b b':List aV):Prop where
 len:b'.length=b.length
 get:∀v,V v->dA (h v) b'=dA v b
 ok:gq b=true
 ok':gq b'=true
def MZ(h:Bytes->Bytes)(c:aP):aP:=⟨c.kind,⟨c.pat.rel,c.pat.args.map h⟩,h c.left,h c.right⟩
theorem RB.ext{h:Bytes->Bytes}{V:Bytes->Prop}(hr:Ren h V){b b':aT}(H:RB h V b b'){x y:Bytes}(hx:V x):(wu b' (h x) y).2=(wu b x y).2/\((wu b x y).2=true->RB h V (wu b x y).1 (wu b' (h x) y).1):=by
 unfold wu;rw[H.ok,H.ok',hr.var x hx,hr.V4 x hx,H.get x hx,H.len];simp only[eM];cases ha:fH y with
 |false=>exact⟨rfl,fun h=>by cases h⟩
 |true=>
  rw[aF,aF];cases hf:dA x b with
  |some o=>
   dsimp only;cases o==y with
   |true=>exact⟨rfl,fun _=>H⟩
   |false=>exact⟨rfl,fun h=>by cases h⟩
  |none=>
   dsimp only;cases hl:decide (b.length=6)with
   |true=>exact⟨rfl,fun h=>by cases h⟩
   |false=>
    have hl':b.length≠6:=of_decide_eq_false hl;refine⟨rfl,fun _=>⟨?_,?_,?_,?_⟩⟩
    ·rw[aM,aM,Dd,Dd,H.len]
    ·intro v hv;rw[aM,aM];by_cases e:v=x
     ·subst e;rw[z6 _ hf,z6 _ (by rw[H.get v hx,hf])]
     ·rw[s5 (fun e2=>e e2.symm),s5 (fun e2=>e (hr.inj _ _ hx hv e2).symm),H.get v hv]
    ·exact Cw (hr.var x hx) ha H.ok hf hl'
    ·exact Cw (hr.V4 x hx) ha H.ok' (by rw[H.get x hx,hf]) (by rw[H.len];exact hl')
theorem RB.sV{h:Bytes->Bytes}{V:Bytes->Prop}(hr:Ren h V):∀(l r:aH) (b b':aT),(∀x∈l,mK x=true)->(∀x∈l,fQ x=true->V x)->RB h V b b'->(sV (l.map h) r b').2=(sV l r b).2/\((sV l r b).2=true->RB h V (sV l r b).1 (sV (l.map h) r b').1)
 | [],r,b,b',_,_,H=>⟨rfl,fun _=>H⟩
 |x::xs,[],b,b',_,_,H=>⟨rfl,fun h=>by cases h⟩
 |x::xs,y::ys,b,b',ht,hV,H=>by
  have ih:=fun c c'=>RB.sV hr xs ys c c' (fun z hz=>ht z (by simp[hz])) (fun z hz=>hV z (by simp[hz]))
  rw[au];simp only[Cx.sV];cases hx:fH x with
  |true=>
   have hxx:h x=x:=hr.TB x (K4 hx);rw[hxx,hx];simp only[aF];cases x==y with
   |true=>exact ih b b' H
   |false=>exact⟨rfl,fun h=>by cases h⟩
  |false=>
   have hv:fQ x=true:=by have:=ht x (by simp);unfold mK at this;rw[hx]at this;simpa using this
   have ha':fH (h x)=false:=nC (hr.V4 x (hV x (by simp) hv));rw[ha'];simp only[aM];obtain⟨e1,e2⟩:=H.ext hr (y:=y) (hV x (by simp) hv);rw[e1];cases he:(wu b x y).2 with
   |false=>exact⟨rfl,fun h=>by cases h⟩
   |true=>simp only[aF];exact ih _ _ (e2 he)
theorem P4{h:Bytes->Bytes}{V:Bytes->Prop}(hr:Ren h V){t:Bytes}(hV:fQ t=true->V t):mK (h t)=mK t:=by
 cases hv:fQ t with
 |false=>rw[hr.TB t hv]
 |true=>unfold mK;rw[hr.V4 t (hV hv),hv];simp
theorem WE{h:Bytes->Bytes}{V:Bytes->Prop}(hr:Ren h V){p:aC}(hV:∀x∈p.args,fQ x=true->V x)(hp:vM p=true):vM ⟨p.rel,p.args.map h⟩=true:=by
 unfold vM at hp⊢;simp only[aR,aj]at hp⊢;refine⟨?_,hp.2.1,by rw[ah];exact hp.2.2⟩;intro x hx;obtain⟨y,hy,rfl⟩:=bt.1 hx;rw[P4 hr (hV y hy)];exact hp.1 y hy
def CV(V:Bytes->Prop)(c:aP):Prop:=∀x∈c.pat.args++[c.left,c.right],fQ x=true->V x
theorem CV.args{V:Bytes->Prop}{c:aP}(h:CV V c):∀x∈c.pat.args,fQ x=true->V x:=fun x hx=>h x (by simp[hx])
theorem CV.left{V:Bytes->Prop}{c:aP}(h:CV V c):fQ c.left=true->V c.left:=h _ (by simp)
theorem CV.right{V:Bytes->Prop}{c:aP}(h:CV V c):fQ c.right=true->V c.right:=h _ (by simp)
theorem TO{h:Bytes->Bytes}{V:Bytes->Prop}(hr:Ren h V){c:aP}(hV:CV V c)(hc:oh c=true):oh (MZ h c)=true:=by
 by_cases hk:c.kind=1\/c.kind=2
 ·obtain⟨hp,hl,hrr⟩:=D0 hc hk;have e:h []=[]:=hr.TB [] rfl;unfold oh;have h0:(decide ((MZ h c).kind=1)||decide ((MZ h c).kind=2))=true:=by show(decide (c.kind=1)||decide (c.kind=2))=true;simpa using hk
  rw[h0,aF];show(vM ⟨c.pat.rel,c.pat.args.map h⟩&&(h c.left==[]&&h c.right==[]))=true;rw[hl,hrr,e,WE hr hV.args hp];rfl
 ·have h1:c.kind≠1:=fun e=>hk (.inl e)
  have h2:c.kind≠2:=fun e=>hk (.inr e)
  obtain⟨h3,hz,hl,hrr⟩:=O7 hc h1 h2;unfold oh;have h0:(decide ((MZ h c).kind=1)||decide ((MZ h c).kind=2))=false:=by simp[MZ,h1,h2]
  rw[h0,aM];show(bif (decide (c.kind=3)||decide (c.kind=4)||decide (c.kind=5))then(Dj ⟨c.pat.rel,c.pat.args.map h⟩&&(mK (h c.left)&&mK (h c.right)))else false)=true;rw[h3,aF,P4 hr hV.left,P4 hr hV.right,hl,hrr];unfold Dj at hz⊢;rw[ah];simpa using hz
theorem RB.ko{h:Bytes->Bytes}{V:Bytes->Prop}(hr:Ren h V){p f:aC}{b b':aT}(hV:∀x∈p.args,fQ x=true->V x)(hp:vM p=true)(H:RB h V b b'):(ko ⟨p.rel,p.args.map h⟩ f b').2=(ko p f b).2/\((ko p f b).2=true->RB h V (ko p f b).1 (ko ⟨p.rel,p.args.map h⟩ f b').1):=by
 unfold Cx.ko;rw[hp,WE hr hV hp,H.ok,H.ok',ah];dsimp only;cases(true&&(oT f&&(true&&(p.rel==f.rel&&decide (p.args.length=f.args.length)))))with
 |false=>exact⟨rfl,fun h=>by cases h⟩
 |true=>exact RB.sV hr _ _ _ _ (Ns hp) hV H
theorem RB.qi{h:Bytes->Bytes}{V:Bytes->Prop}(hr:Ren h V){b b':aT}(H:RB h V b b'){t:Bytes}(hV:fQ t=true->V t):qi b' (h t)=qi b t:=by
 unfold Cx.qi;cases hv:fQ t with
 |false=>rw[hr.TB t hv,hv];rfl
 |true=>rw[nC hv,hr.V4 t (hV hv),nC (hr.V4 t (hV hv)),H.get t (hV hv)];rfl
theorem RB.C6{h:Bytes->Bytes}{V:Bytes->Prop}(hr:Ren h V){c:aP}{b b':aT}{fs:aI}(hV:CV V c)(hc:oh c=true)(H:RB h V b b'):C6 (MZ h c) b' fs=C6 c b fs:=by
 unfold Cx.C6;rw[hc,TO hr hV hc,H.ok,H.ok'];show(true&&(true&&(bif decide (c.kind=1)then decide (0<(qt ⟨c.pat.rel,c.pat.args.map h⟩ b' fs).length)else bif decide (c.kind=2)then decide ((qt ⟨c.pat.rel,c.pat.args.map h⟩ b' fs).length=0)else UE (MZ h c) b')))=_;by_cases hk:c.kind=1\/c.kind=2
 ·have hp:=(D0 hc hk).1;have e:qt ⟨c.pat.rel,c.pat.args.map h⟩ b' fs=qt c.pat b fs:=by
   unfold qt
   congr 1;funext f
   exact(RB.ko hr hV.args hp H).1
  rw[e];rcases hk with hk|hk
  ·rw[av hk];rfl
  ·rw[av hk];cases decide (c.kind=1)<;>rfl
 ·have h1:c.kind≠1:=fun e=>hk (.inl e)
  have h2:c.kind≠2:=fun e=>hk (.inr e)
  rw[bB h1,bB h2];simp only[aM];unfold UE Iu;rw[hc,TO hr hV hc,H.ok,H.ok'];show(true&&(true&&(true&&decide (c.kind>=3)&&(true&&((Cx.qi b' (h c.left)).2&&((Cx.qi b' (h c.right)).2&&(bif decide (c.kind=3)then(Cx.qi b' (h c.left)).1==(Cx.qi b' (h c.right)).1 else bif decide (c.kind=4)then !((Cx.qi b' (h c.left)).1==(Cx.qi b' (h c.right)).1)else ltB (Cx.qi b' (h c.left)).1 (Cx.qi b' (h c.right)).1)))))))=_;rw[RB.qi hr H hV.left,RB.qi hr H hV.right]
structure RT(h:Bytes->Bytes)(V:Bytes->Prop)(t t':aO):Prop where
 facts:t'.facts=t.facts
 bind:RB h V t.bind t'.bind
inductive RL(R:aO->aO->Prop):List aO->List aO->Prop
 |nil:RL R [] []
 |cons {a b:aO} {l m:ai}:R a b->RL R l m->RL R (a::l) (b::m)
theorem RL.app{R:aO->aO->Prop}{a b c d:ai}(h:RL R a b)(k:RL R c d):RL R (a++c) (b++d):=by
 induction h with
 |nil=>exact k
 |cons x _ ih=>exact .cons x ih
theorem RL.one{R:aO->aO->Prop}{a b:aO}(h:R a b):RL R [a] [b]:=.cons h .nil
theorem RL.flat{α:Type}{R:aO->aO->Prop}(f g:α->ai):∀(l:List α),(∀x∈l,RL R (f x) (g x))->RL R (l.flatMap f) (l.flatMap g)
 | [],_=>.nil
 |x::xs,h=>by rw[ck,ck];exact(h x (by simp)).app (RL.flat f g xs fun y hy=>h y (by simp[hy]))
theorem a36{h:Bytes->Bytes}{V:Bytes->Prop}(hr:Ren h V){c:aP}{fs:aI}{t t':aO}(hV:CV V c)(hc:oh c=true)(H:RT h V t t'):RL (RT h V) (Cg c fs t) (Cg (MZ h c) fs t'):=by
 unfold Cg;rw[RB.C6 hr hV hc H.bind];show RL _ _ (bif decide (c.kind=1)then fs.flatMap (ext1 (MZ h c) t')else bif Cx.C6 c t.bind fs then [t']else []);by_cases h1:c.kind=1
 ·rw[av h1,aF,aF];refine RL.flat _ _ fs fun f _=>?_
  unfold ext1;have hp:=(D0 hc (.inl h1)).1;obtain⟨e1,e2⟩:=RB.ko hr (f:=f) hV.args hp H.bind;show RL _ _ (bif (Cx.ko ⟨c.pat.rel,c.pat.args.map h⟩ f t'.bind).2 then [⟨t'.facts++[f],(Cx.ko ⟨c.pat.rel,c.pat.args.map h⟩ f t'.bind).1⟩]else []);rw[e1];cases hm:(Cx.ko c.pat f t.bind).2 with
  |false=>exact .nil
  |true=>exact .one ⟨by rw[H.facts],e2 hm⟩
 ·rw[bB h1,aM,aM];cases Cx.C6 c t.bind fs with
  |false=>exact .nil
  |true=>exact .one H
theorem W8{h:Bytes->Bytes}{V:Bytes->Prop}(hr:Ren h V){c:aP}{fs:aI}(hV:CV V c)(hc:oh c=true):∀ {l m:ai},RL (RT h V) l m->RL (RT h V) (sS fs l c) (sS fs m (MZ h c))
 |_,_,.nil=>.nil
 |_,_,.cons hx hl=>by unfold sS;rw[ck,ck];exact(a36 hr hV hc hx).app (W8 hr hV hc hl)
theorem a16{h:Bytes->Bytes}{V:Bytes->Prop}(hr:Ren h V){fs:aI}:∀(cs:ar) {l m:ai},(∀c∈cs,CV V c/\oh c=true)->RL (RT h V) l m->RL (RT h V) (cs.foldl (sS fs) l) ((cs.map (MZ h)).foldl (sS fs) m)
 | [],_,_,_,H=>H
 |c::cs,_,_,hc,H=>by
  rw[au,cu,cu];exact a16 hr cs (fun x hx=>hc x (by simp[hx])) (W8 hr (hc c (by simp)).1 (hc c (by simp)).2 H)
theorem RB.nil(h:Bytes->Bytes)(V:Bytes->Prop):RB h V [] []:=⟨rfl,fun _ _=>rfl,rfl,rfl⟩
theorem XL{r:aK}(h:fX r=true):Ren (Co (iJ r)) (fun v=>v∈A8 r.conds) where
 var:=fun v hv=>(Bo.1 hv).2
 TB:=fun t ht=>LI ht
 V4:=fun v hv=>by
  obtain⟨i,p,hi,_,_,e⟩:=Gy h hv;rw[e];exact LH i hi
 inj:=fun u v hu hv e=>by
  obtain⟨i,p,hi,g1,e1,e2⟩:=Gy h hu;obtain⟨j,q,hj,g2,e3,e4⟩:=Gy h hv;rw[e2,e4]at e;have:=Vz i hi j hj e;subst this;rw[g1]at g2;cases g2;rw[<-e1,<-e3]
theorem a3s{r:aK}{c:aP}(hc:c∈r.conds):CV (fun v=>v∈A8 r.conds) c:=fun x hx hv=>Bo.2 ⟨cA.2 ⟨c,hc,hx⟩,hv⟩
theorem wbU{r:aK}(h:fX r=true){fs:aI}:∀(cs:ar) (A:ai),(∀c∈cs,c∈r.conds)->(∀t∈A,WB (fD (A8 r.conds)) t.bind)->∀u∈cs.foldl (sS fs) A,WB (fD (A8 r.conds)) u.bind
 | [],_,_,hA=>hA
 |c::cs,A,hc,hA=>by
  rw[cu];refine wbU h cs _ (fun x hx=>hc x (by simp[hx])) (fun u hu=>?_);obtain⟨t,ht,hu⟩:=cA.1 hu;have hcm:=hc c (by simp);have hcb:=CM h c hcm;unfold Cg at hu;by_cases hk:c.kind=1
  ·rw[av hk,aF]at hu;obtain⟨f,_,hu⟩:=cA.1 hu;unfold ext1 at hu;cases hm:(ko c.pat f t.bind).2 with
   |false=>rw[hm]at hu;cases hu
   |true=>
    rw[hm,aF]at hu;rw[cG.1 hu];exact((Zv (Mb h) (hA t ht) (D0 hcb (.inl hk)).1 (fun x hx hv=>qZ.2 ((a3s hcm).args x hx hv))).2 hm).1
  ·rw[bB hk,aM]at hu;cases hh:C6 c t.bind fs with
   |false=>rw[hh]at hu;cases hu
   |true=>rw[hh,aF]at hu;rw[cG.1 hu];exact hA t ht
theorem Qp{U:aH}(hU:U.length<=6){b b':aT}(hb:WB U b)(hb':gq b'=true){h:Bytes->Bytes}(hg:∀v∈U,dA (h v) b'=dA v b):∀(N:aT) (w:aT),(N.map aV.var).Nodup->(∀p∈N,p.var∈U/\p.value=h p.var/\fQ p.var=true/\fQ p.value=true)->WB U w->(∀p∈N,dA p.var w=none)->
 WB U (N.foldl (bkS b') w)/\∀v,dA v (N.foldl (bkS b') w)=if v∈N.map aV.var then dA v b else dA v w
 | [],w,_,_,hw,_=>⟨hw,fun v=>by simp⟩
 |p::N,w,hn,hp,hw,hf=>by
  rw[au,fZ]at hn;obtain⟨p1,p2,p3,p4⟩:=hp p (by simp);have hpw:=hf p (by simp);have hval:qi b' p.value=match dA p.var b with|some v=>(v,true)|none=>([],false):=by
   unfold qi;rw[nC p4,p4,aM,aF,p2,hg _ p1]
   all_goals(cases dA p.var b<;>rfl)
  have hnot:∀q∈N,q.var≠p.var:=fun q hq e=>hn.1 (by rw[<-e];exact bt.2 ⟨q,hq,rfl⟩)
  rw[cu];cases hfb:dA p.var b with
  |none=>
   rw[hfb]at hval;have e:bkS b' w p=w:=by unfold bkS;rw[hval];rfl
   rw[e];obtain⟨g1,g2⟩:=Qp hU hb hb' hg N w hn.2 (fun q hq=>hp q (by simp[hq])) hw (fun q hq=>hf q (by simp[hq]));refine⟨g1,fun v=>?_⟩;rw[g2 v,au];by_cases hv:v=p.var
   ·subst hv;rw[b9 hn.1,bL (by simp),hfb,hpw]
   ·by_cases Ik:v∈N.map aV.var
    ·rw[bL Ik,bL (by simp[Ik])]
    ·rw[b9 Ik,b9 (by simp only[bJ,Fi];exact⟨hv,Ik⟩)]
  |some o=>
   rw[hfb]at hval;have e:bkS b' w p=wU p.var o w:=by unfold bkS;rw[hval];rfl
   rw[e];have ho:fH o=true:=by
    obtain⟨q,hq,_,e2⟩:=xb hfb;rw[<-e2];exact(Az (tW hb.ok) q hq).2
   obtain⟨g1,g2⟩:=Qp hU hb hb' hg N (wU p.var o w) hn.2 (fun q hq=>hp q (by simp[hq])) (hw.set hU p1 p3 ho hpw) (fun q hq=>by
    rw[s5 (fun e=>hnot q hq e.symm)];exact hf q (by simp[hq]))
   refine⟨g1,fun v=>?_⟩;rw[g2 v,au,vv hpw];by_cases hv:v=p.var
   ·subst hv;rw[b9 hn.1,bL rfl,bL (by simp),hfb]
   ·rw[b9 hv];by_cases Ik:v∈N.map aV.var
    ·rw[bL Ik,bL (by simp[Ik])]
    ·rw[b9 Ik,b9 (by simp only[bJ,Fi];exact⟨hv,Ik⟩)]
theorem a23{r:aK}(h:fX r=true){t t':aO}(ht:WB (fD (A8 r.conds)) t.bind)(H:RT (Co (iJ r)) (fun v=>v∈A8 r.conds) t t'):cfT r t'=⟨r.name,t.facts,t.bind⟩:=by
 have hN:=zl (xR r.conds) Rx.nil;have hmem:∀p∈iJ r,p.var∈fD (A8 r.conds)/\p.value=Co (iJ r) p.var/\fQ p.var=true/\fQ p.value=true:=fun p hp=>by
  obtain⟨n1,n2⟩:=(T7 h).1 p hp;refine⟨?_,(HN (N:=iJ r) hN hp).symm,n1,n2⟩;rcases MK _ _ hp with h1|h1
  ·cases h1
  ·exact qZ.2 (Bo.2 h1)
 obtain⟨g1,g2⟩:=Qp (Mb h) ht H.bind.ok' (h:=Co (iJ r)) (fun v hv=>H.bind.get v (qZ.1 hv)) (iJ r) [] hN hmem (WB.nil _) (fun p _=>rfl);have e:bkB t'.bind (iJ r)=t.bind:=by
  refine g1.ext ht fun v=>?_
  unfold bkB at*;rw[g2 v];by_cases hv:v∈(iJ r).map aV.var
  ·rw[bL hv]
  ·rw[b9 hv];cases hf:dA v t.bind with
   |none=>rfl
   |some o=>
    exfalso;obtain⟨q,hq,e1,_⟩:=xb hf;have hU:=qZ.1 (ht.sub q hq);rw[e1]at hU;obtain⟨i,p,_,OR,he,_⟩:=Gy h hU;exact hv (bt.2 ⟨p,aE OR,he⟩)
 unfold cfT;rw[e,H.facts]
theorem RL.map_eq{α:Type}{R:aO->aO->Prop}{f g:aO->α}:∀ {l m:ai},RL R l m->(∀a∈l,∀b,R a b->g b=f a)->m.map g=l.map f
 |_,_,.nil,_=>rfl
 |_,_,.cons hx hl,h=>by
  rw[au,au,h _ (by simp) _ hx,RL.map_eq hl (fun a ha b hb=>h a (by simp[ha]) b hb)]
theorem a29{r:aK}(h:fX r=true)(fs:aI):(qh (fW r) fs).map (cfT r)=(qh r.conds fs).map fun t=>(⟨r.name,t.facts,t.bind⟩:bM):=by
 have H:=a16 (XL h) (fs:=fs) r.conds (fun c hc=>⟨a3s hc,CM h c hc⟩) (RL.one (a:=⟨[],[]⟩) (b:=⟨[],[]⟩) ⟨rfl,RB.nil _ _⟩);refine RL.map_eq H fun t ht t' hR=>?_
 exact a23 h (wbU h r.conds [⟨[],[]⟩] (fun _ hc=>hc) (fun t ht=>by rw[cG.1 ht];exact WB.nil _) t ht) hR
theorem a34{rs:aq}(fs:aI)(t:Int){i:Nat}{r:aK}(hr:rs[i]?=some r):Yh (ng rs fs t) i=qh (fW r) fs:=by
 obtain⟨b,e1,e2,e3⟩:=(uo [] rs).2.2 i r hr;have hx:=af e2;have e4:fy (fA (cN [] rs).1.2 fs) (dB b)=some ⟨((cN [] rs).1.2[b]).parent,((cN [] rs).1.2[b]).cond,((cN [] rs).1.2[b]).cM,qh (fW r) fs⟩:=by
  unfold fy dB fA;rw[av (by omega),aF];show(ou _ fs _ 0)[b]?=_;rw[HJ,hx,cS,e3];rfl
 unfold Yh ng;dsimp only;rw[e1];dsimp only;rw[e4]
theorem Zx{rs:aq}(hv:∀r∈rs,fX r=true)(fs:aI)(t:Int):∀(l:aq) (i:Nat),(∀(j:Nat) r,l[j]?=some r->rs[i+j]?=some r)->cfB (ng rs fs t) l i=l.flatMap fun r=>(qh r.conds fs).map fun u=>(⟨r.name,u.facts,u.bind⟩:bM)
 | [],_,_=>rfl
 |r::l,i,h=>by
  have h0:=h 0 r rfl;rw[vl]at h0;rw[cfB,a34 fs t h0,a29 (hv r (aE h0)),ck,Zx hv fs t l (i+1) (fun j x hx=>by
   rw[show i+1+j=i+(j+1)by omega];exact h (j+1) x (by simpa using hx))]
theorem a6I{r:aK}{fs:aI}(h1:fX r=true)(h2:eb fs=true):mtB r fs=(qh r.conds fs).map fun t=>⟨r.name,t.facts,t.bind⟩:=by
 unfold mtB;rw[a6y h1 h2 (bU _),yq]
theorem a5P{rs:aq}{fs:aI}(t:Int)(h1:rK rs=true)(h2:eb fs=true):cfB (ng rs fs t) rs 0=Wk rs fs:=by
 have hv:=og h1;rw[Zx hv fs t rs 0 (fun j r hj=>by rw[cS];exact hj)];unfold Wk;rw[h1,aF];have:∀l:aq,(∀r∈l,fX r=true)->(l.flatMap fun r=>(qh r.conds fs).map fun u=>(⟨r.name,u.facts,u.bind⟩:bM))=l.flatMap fun r=>mtB r fs:=by
  intro l
  induction l with
  |nil=>intro _;rfl
  |cons r l ih=>intro hl;rw[ck,ck,ih (fun x hx=>hl x (by simp[hx])),a6I (hl r (by simp)) h2]
 exact this rs hv
theorem a5O{n:aG}(h:Im n=true):cfB n n.rules 0=Wk n.rules n.facts:=by
 obtain⟨h1,h2,_,e⟩:=EQ h;have:=a5P n.br h1 h2;rw[<-e]at this;exact this
def Ij(f:aC)(A:bK):List Bool:=A.map fun a=>(ko a.shape f []).2
theorem xa(A:bK)(fs:aI):(gA A fs).length=A.length:=by unfold gA;rw[ah]
theorem OI(A:bK)(x:aX)(fs:aI):gA (A++[x]) fs=gA A fs++[⟨x.shape,qt x.shape [] fs⟩]:=by unfold gA;rw[bD];rfl
theorem a4n(n:aG)(fs:aI)(f:aC)(y1:aG)(y3:aI)(K:List Bool->bK->Option aG)(Qx:FS fs)(hf:f.wt<=1048576)(A:bK)(hA:∀a∈A,a.shape.wt<=1048576)(hl:A.length<=1048576):∀(rest pre:bK) (fu:Nat),A=pre++rest->rest.length<fu->
 jN n fs f y1 y3 K fu (pre.length:Int) (Ij f pre) (gA pre fs++rest)=K (Ij f A) (gA A fs)
 | [],pre,fu,e,hu=>by
  obtain⟨fu,rfl⟩:∃m,fu=m+1:=⟨fu-1,by simp at hu;omega⟩
  rw[dD]at e;rw[jN,dD,ah,xa,bB (by omega),aM,e]
 |x::rest,pre,fu,e,hu=>by
  obtain⟨fu,rfl⟩:∃m,fu=m+1:=⟨fu-1,by simp at hu;omega⟩
  simp only[aS]at hu;have hlen:A.length=pre.length+(rest.length+1):=by rw[e];simp
  have hx:=hA x (by rw[e];simp);have ih:=a4n n fs f y1 y3 K Qx hf A hA hl rest (pre++[x]) fu (by rw[e];simp) (by omega);have Mt:fy (gA pre fs++x::rest) (pre.length:Int)=some x:=by
   have:=x7 (a:=gA pre fs++x::rest) (pre:=gA pre fs) (xs:=rest) (x:=x) rfl;rw[xa]at this;exact this
  have sR:(gA pre fs++x::rest).set (pre.length:Int).toNat ⟨x.shape,qt x.shape [] fs⟩=gA (pre++[x]) fs++rest:=by
   have:=setAt (gA pre fs) rest x ⟨x.shape,qt x.shape [] fs⟩;rw[xa]at this;rw[kH,this,OI,cy];rfl
  have hh:Ij f pre++[(ko x.shape f []).2]=Ij f (pre++[x]):=by unfold Ij;rw[bD];rfl
  have hpl:(Ij f pre).length=pre.length:=by unfold Ij;rw[ah]
  rw[jN,ah,ax,xa,aS,av (by omega),aF,Mt,aA,a6f x.shape f [] hx hf PB.nil,aA,Ek (by simp;omega) (by decide),aF,a3M x.shape [] fs hx PB.nil Qx,aA,En (by omega),sR,hh];rw[ax,dO]at ih;exact ih
theorem Vx{N0 N1:bI}{v:Nat}(hl:N0.length=N1.length)(hv:v<=N1.length)(j:Nat):(N1.take v++N0.drop v)[j]?=if j<v then N1[j]? else N0[j]?:=by
 have h1:(N1.take v).length=v:=by rw[cE];omega
 by_cases h:j<v
 ·rw[bL h,bA (by omega),cU,bL h]
 ·rw[b9 h,bE (by omega),h1,fG]
  congr 1;omega
theorem a30{N0 N1:bI}{v:Nat}(hl:N0.length=N1.length)(hv:v<N1.length){y:Node}(hy:N1[v]?=some y):(N1.take v++N0.drop v).set v y=N1.take (v+1)++N0.drop (v+1):=by
 have h1:(N1.take v).length=v:=by rw[cE];omega
 rw[nk (by omega:v<N0.length)];have:=setAt (N1.take v) (N0.drop (v+1)) (N0[v]'(by omega)) y;rw[h1]at this;rw[this,List.take_add_one,hy];simp
theorem XJ(S:bI)(a b:aI):(fA S b).take 1++(fA S a).drop 1=fA S a:=by
 have h:(fA S b).take 1=(fA S a).take 1:=by
  apply mW;intro i;rw[cU,cU];by_cases hi:i<1
  ·rw[bL hi,bL hi,show i=0 by omega,ul,ul,uF];rfl
  ·rw[b9 hi,b9 hi]
 rw[h,cO]
theorem a9B(n:aG)(fs:aI)(f:aC)(y1:aG)(y3:aI)(K:Int->bI->Option aG)(h1:rK n.rules=true)(h0:eb n.facts=true)(h2:eb fs=true)(hN:n.nodes=fA (cN [] n.rules).1.2 n.facts)(hA:n.az=gA (cN [] n.rules).1.1 n.facts):
 ∀(d v fu:Nat) (u:Int),v+d=(cN [] n.rules).1.2.length->1<=v->d<fu->
  fM n y1 y3 (Ij f n.az) (gA (cN [] n.rules).1.1 fs) K fu (v:Int) u ((fA (cN [] n.rules).1.2 fs).take v++n.nodes.drop v)=
   K (trN n.nodes (fA (cN [] n.rules).1.2 fs) (gA (cN [] n.rules).1.1 fs) f ((fA (cN [] n.rules).1.2 fs).drop v) u) (fA (cN [] n.rules).1.2 fs):=by
 have hl0:n.nodes.length=(cN [] n.rules).1.2.length:=by rw[hN,yz]
 have hl1:=yz (cN [] n.rules).1.2 fs;have Tn:n.nodes.length=(fA (cN [] n.rules).1.2 fs).length:=by omega
 have Qx:=FS.Ej (by have:=wZ h2;omega:qw aC.wt fs<=1048576);intro d
 induction d with
 |zero=>
  intro v fu u hv _ hfu;obtain⟨fu,rfl⟩:∃m,fu=m+1:=⟨fu-1,by omega⟩
  have e1:(fA (cN [] n.rules).1.2 fs).take v++n.nodes.drop v=fA (cN [] n.rules).1.2 fs:=by
   rw[mV (by omega),dD,jV (by omega)]
  rw[fM,e1,ah,bB (by omega),aM,mV (by omega)];rfl
 |succ d ih=>
  intro v fu u hv hv1 hfu;obtain⟨fu,rfl⟩:∃m,fu=m+1:=⟨fu-1,by omega⟩
  have hvl:v<(cN [] n.rules).1.2.length:=by omega
  have hx:=af hvl;generalize hxx:(cN [] n.rules).1.2[v]=x at hx;obtain⟨p,q,hpv,e1,_,e3,e4,e5,e6,e7⟩:=Zy h1 h0 h2 hv1 hx;have hx0:n.nodes[v]?=some ⟨x.parent,x.cond,x.cM,qh (eF (cN [] n.rules).1.2 (dB v)) n.facts⟩:=by rw[hN,ul,hx];rfl
  have hx1:(fA (cN [] n.rules).1.2 fs)[v]?=some ⟨x.parent,x.cond,x.cM,qh (eF (cN [] n.rules).1.2 (dB v)) fs⟩:=by rw[ul,hx];rfl
  have hb1:=Bu [] (og h1) (wY h1);have m1:fy ((fA (cN [] n.rules).1.2 fs).take v++n.nodes.drop v) (v:Int)=some ⟨x.parent,x.cond,x.cM,qh (eF (cN [] n.rules).1.2 (dB v)) n.facts⟩:=by
   rw[show(v:Int)=dB v from rfl,Ah,Vx Tn (by omega),b9 (by omega),hx0]
  have m2:fy ((fA (cN [] n.rules).1.2 fs).take v++n.nodes.drop v) x.parent=some ⟨q.parent,q.cond,q.cM,qh (eF (cN [] n.rules).1.2 (dB p)) fs⟩:=by
   rw[e1,Ah,Vx Tn (by omega),bL hpv,e4]
  have m3:fy n.nodes x.parent=some ⟨q.parent,q.cond,q.cM,qh (eF (cN [] n.rules).1.2 (dB p)) n.facts⟩:=by rw[e1,Ah,hN,e3]
  have m4:fy (fA (cN [] n.rules).1.2 fs) x.parent=some ⟨q.parent,q.cond,q.cM,qh (eF (cN [] n.rules).1.2 (dB p)) fs⟩:=by rw[e1,Ah,e4]
  obtain⟨_,k2,k3,_⟩:=DX h1 h2 e4;obtain⟨_,j2,_,j4⟩:=DX h1 h0 e3;dsimp only at k2 k3 j2 j4;have hstep:=a17 hv1 hx e1 hpv fs;have hlen:((fA (cN [] n.rules).1.2 fs).take v++n.nodes.drop v).length=(cN [] n.rules).1.2.length:=by
   rw[ax,cE,lP];omega
  have Si:(fA (cN [] n.rules).1.2 fs).drop v=⟨x.parent,x.cond,x.cM,qh (eF (cN [] n.rules).1.2 (dB v)) fs⟩::(fA (cN [] n.rules).1.2 fs).drop (v+1):=by
   rw[nk (by omega)]
   congr 1
   exact kZ ((af (by omega)).symm.trans hx1)
  have sR:=a30 Tn (by omega) hx1;have t4:Bv (fA (cN [] n.rules).1.2 fs) x.parent=qh (eF (cN [] n.rules).1.2 (dB p)) fs:=by unfold Bv;rw[m4]
  have t3:Bv n.nodes x.parent=qh (eF (cN [] n.rules).1.2 (dB p)) n.facts:=by unfold Bv;rw[m3]
  rw[fM,ah,hlen,av (by omega),aF,m1,aA];dsimp only;rw[m2,aA,m3,aA];dsimp only;rw[a9L _ _ j4 (by omega) (by omega),aA,Si,trN,t4,t3,En (by omega)];unfold stepT;dsimp only;rcases e7 with⟨g1,g2,g3⟩|⟨a,y,g1,g2,g3,g4⟩
  ·rw[av (by simpa using g1),aF,a0c _ x.cond [] e6 ⟨by simp,fun f hf=>by cases hf⟩ (fun t ht=>(k3 t ht).le (by omega)) (by simp;omega),aA,a06 g2 g3 fs,<-hstep,kH,sR,ih (v+1) fu _ (by omega) (by omega) (by omega),bL g1]
  ·have ha0:¬x.cM<0:=by rw[g1];unfold dB;omega
   have n1:fy (gA (cN [] n.rules).1.1 fs) x.cM=some ⟨y.shape,qt y.shape [] fs⟩:=by
    rw[g1,Ah];unfold gA;rw[cF,g2];rfl
   have n2:fy (Ij f n.az) x.cM=some (ko y.shape f []).2:=by
    rw[g1,Ah,hA];unfold Ij gA;rw[rI,cF,g2];rfl
   have hfl:(qt y.shape [] fs).length<=24:=by
    unfold qt;exact eD (nu _ _) (lQ h2)
   have aB4:FS (qt y.shape [] fs):=⟨by omega,fun f hf=>Qx.2 f (fY.1 hf).1⟩
   have hnx:sS (qt y.shape [] fs) (qh (eF (cN [] n.rules).1.2 (dB p)) fs) x.cond=qh (eF (cN [] n.rules).1.2 (dB v)) fs:=by
    rw[g3,XR (by omega),hstep]
   rw[bB (by simpa using ha0),aM,n1,aA];dsimp only;rw[a0c _ x.cond _ e6 aB4 (fun t ht=>(k3 t ht).le (by omega)) (by
    have:(qh (eF (cN [] n.rules).1.2 (dB p)) fs).length*((qt y.shape [] fs).length+1)<=390625*25:=Ff k2 (by omega);omega),aA,hnx,n2,aA,kH,sR,b9 ha0,ah]
   cases(ko y.shape f []).2 with
   |true=>rw[aF,aF,ih (v+1) fu _ (by omega) (by omega) (by omega)]
   |false=>rw[aM,aM,ih (v+1) fu _ (by omega) (by omega) (by omega)]
theorem aCE(n:aG)(fs:aI)(f:aC)(hn:Im n=true)(hr:qw aK.wt n.rules<=1048576)(h2:eb fs=true)(hf:f.wt<=1048576):uY n fs f=some (Ty n fs f):=by
 obtain⟨h1,h0,ht,e⟩:=EQ hn;have Qx:=FS.Ej (by have:=wZ h2;omega:qw aC.wt fs<=1048576);have hok:BC n:=by rw[e];exact MS _ h1 h0 hr
 have hN:n.nodes=fA (cN [] n.rules).1.2 n.facts:=congrArg aG.nodes e;have hA:n.az=gA (cN [] n.rules).1.1 n.facts:=congrArg aG.az e;have hE:n.ends=(cN [] n.rules).2:=congrArg aG.ends e;have hfA:gA n.az fs=gA (cN [] n.rules).1.1 fs:=by
  rw[hA];unfold gA;rw[rI];rfl
 have hb1:=Bu [] (og h1) (wY h1);have hpos:=(uo [] n.rules).1.pos;have hal:=hok.az;unfold uY;rw[Uo n hok,aA,zo fs Qx.1 Qx.args,aA];have a1:=a4n n fs f n fs (fun(dl:List Bool) (vf:bK)=>(fM n n fs dl vf (fun(pY:Int) (mJ:bI)=>(some (⟨n.rules,n.ends,vf,mJ,fs,pY⟩:aG))) fuel 1 n.br n.nodes)) Qx hf n.az (fun a ha=>(hok.cM a ha).1) hok.az n.az [] fuel rfl (by unfold fuel;omega);refine a1.trans ?_;rw[hfA];have a2:=a9B n fs f n fs (fun(pY:Int) (mJ:bI)=>(some (⟨n.rules,n.ends,gA (cN [] n.rules).1.1 fs,mJ,fs,pY⟩:aG))) h1 h0 h2 hN hA ((cN [] n.rules).1.2.length -1) 1 fuel n.br (by omega) (bU _) (by unfold fuel;omega);have a3:(fA (cN [] n.rules).1.2 fs).take 1++n.nodes.drop 1=n.nodes:=by rw[hN];exact XJ _ _ _
 rw[a3]at a2;refine a2.trans ?_;unfold Ty ng;rw[hE]
def NV(n:aG)(f:aC):aG×Bool:=bif Im n&&(Cv n.facts f).2 then(Ty n (Cv n.facts f).1 f,true)else(n,false)
def Tc(n:aG)(f:aC):aG×Bool:=bif Im n&&(IW n.facts f).2 then(Ty n (IW n.facts f).1 f,true)else(n,false)
theorem a1x{l:aI}{f:aC}(h:(IW l f).2=true):eb (IW l f).1=true:=by
 unfold IW at h⊢;split at h
 ·rename_i hc;rw[bL hc];exact Nc f hc.1
 ·cases h
theorem a9O(n:aG)(f:aC)(h:BC n)(hf:f.wt<=1048576):pu n f=some (NV n f):=by
 unfold pu NV;rw[a4j n.facts f h.facts hf,aA,a6c n h.rules h.facts,aA];cases hb:Im n with
 |false=>rw[bz,aF,Uo n h];rfl
 |true=>
  rw[bN,aM];cases ha:(Cv n.facts f).2 with
  |false=>rw[bz,aF,Uo n h];rfl
  |true=>rw[bN,aM,aCE n _ f hb h.rules (VL ha) hf];rfl
theorem a4D(n:aG)(f:aC)(h:BC n)(hf:f.wt<=1048576):jv n f=some (NV n f):=by
 unfold jv EA NV;rw[RD n h.rules h.facts,aA];cases hb:Im n with
 |false=>rw[bz,aF,OX n h];rfl
 |true=>
  rw[bN,aM,a8G n.facts f h.facts hf,aA];cases ha:(Cv n.facts f).2 with
  |false=>rw[bz,aF,OX n h];rfl
  |true=>rw[bN,aM,a8H n _ f hb h.rules (VL ha) hf];rfl
theorem a4E(n:aG)(f:aC)(h:BC n)(hf:f.wt<=1048576):hY n f=some (Tc n f):=by
 unfold hY CC Tc;rw[RD n h.rules h.facts,aA];cases hb:Im n with
 |false=>rw[bz,aF,OX n h];rfl
 |true=>
  rw[bN,aM,a8W n.facts f h.facts,aA];cases ha:(IW n.facts f).2 with
  |false=>rw[bz,aF,OX n h];rfl
  |true=>rw[bN,aM,a8H n _ f hb h.rules (a1x ha) hf];rfl
theorem Q5{rs:aq}(h:rK rs=true):(⟨rs,(cN [⟨[],[]⟩] rs).2,(cN [⟨[],[]⟩] rs).1.1,(cN [⟨[],[]⟩] rs).1.2,[],0⟩:aG)=ng rs [] 0:=by
 have hv:=og h;unfold ng;rw[Wt (xe [] hv),Wv hv];have e1:(cN [⟨[],[]⟩] rs).2=(cN [] rs).2:=by rw[gy,gy]
 have e2:(cN [⟨[],[]⟩] rs).1.1=(cN [] rs).1.1:=by rw[gy,gy]
 rw[e1,e2]
def aAA:aG:=⟨[],[],[],[],[],0⟩
theorem a3L(rs:aq)(h:qw aK.wt rs<=1048576):k7 rs=some (bif rK rs then(ng rs [] 0,true)else(aAA,false)):=by
 rw[a0U rs h];cases hb:rK rs with
 |false=>rfl
 |true=>rw[aF,aF,Q5 hb]
theorem VM{α:Type}{l:List α}{i:Int}{x:α}(h:fy l i=some x):x∈l:=by
 unfold fy at h;cases hd:decide (0<=i)with
 |false=>rw[hd]at h;cases h
 |true=>rw[hd,aF]at h;exact aE h
theorem Xj{N:bI}(h:∀x∈N,x.tokens.length<=390625)(p:Int):(Bv N p).length<=390625:=by
 unfold Bv;cases e:fy N p with
 |none=>simp
 |some x=>exact h x (VM e)
theorem a0v{al:bK}{f:aC}{x:Node}{now old:ai}{t:Int}(hn:now.length<=390625)(ha:∀y∈al,y.facts.length<=24)(h0:0<=t)(h1:t<=1000000000000000000):
 t<=stepT al f x now old t/\stepT al f x now old t<=t+10000000:=by
 have a1:VI now old<=390625:=by unfold VI;omega
 have a2:=Od now old;unfold stepT;split
 ·rw[dY (qQ.i64.2 (by omega))];omega
 ·cases e:fy al x.cM with
  |none=>dsimp only;omega
  |some y=>
   have hy:=ha y (VM e);have a3:VI now old*y.facts.length<=390625*24:=Ff a1 hy;have e3:((VI now old:Nat):Int)*((y.facts.length:Nat):Int)=((VI now old*y.facts.length:Nat):Int):=(Int.natCast_mul _ _).symm;dsimp only;rw[e3,dY (n:=((VI now old*y.facts.length:Nat):Int)) (qQ.i64.2 (by omega)),dY (n:=t+((VI now old*y.facts.length:Nat):Int)) (qQ.i64.2 (by omega))];cases(ko y.shape f []).2 with
   |true=>rw[aF,dY (qQ.i64.2 (by omega))];omega
   |false=>rw[aM];omega
theorem a18{N0 N1:bI}{al:bK}{f:aC}(hN:∀x∈N1,x.tokens.length<=390625)(ha:∀y∈al,y.facts.length<=24):∀(l:bI) (t:Int),0<=t->t+10000000*(l.length:Int)<=1000000000000000000->
 t<=trN N0 N1 al f l t/\trN N0 N1 al f l t<=t+10000000*(l.length:Int)
 | [],t,_,_=>by rw[trN];simp
 |x::xs,t,h0,h1=>by
  rw[aS,Int.natCast_add,Int.natCast_one]at h1⊢;have s:=a0v (x:=x) (f:=f) (old:=Bv N0 x.parent) (Xj hN x.parent) ha h0 (by omega);have r:=a18 (N0:=N0) (f:=f) hN ha xs (stepT al f x (Bv N1 x.parent) (Bv N0 x.parent) t) (by omega) (by omega);rw[trN];omega
theorem Ww{rs:aq}{fs:aI}(h1:rK rs=true)(h2:eb fs=true):∀x∈fA (cN [] rs).1.2 fs,x.tokens.length<=390625:=by
 intro x hx;obtain⟨i,hi⟩:=iz hx;exact(DX h1 h2 hi).2.1
theorem Wu{al:bK}{fs:aI}(h2:eb fs=true):∀y∈gA al fs,y.facts.length<=24:=by
 intro y hy;obtain⟨z,_,rfl⟩:=bt.1 hy;exact eD (nu _ _) (lQ h2)
theorem YY{n:aG}{fs:aI}(f:aC)(hb:Im n=true)(h2:eb fs=true)(ht:n.br<=100000000000000000):
 ∃t,Ty n fs f=ng n.rules fs t/\n.br<=t/\t<=n.br+250000000:=by
 obtain⟨h1,_,h0,_⟩:=EQ hb;have hl:=Bu [] (og h1) (wY h1);have h3:((fA (cN [] n.rules).1.2 fs).drop 1).length<=25:=by rw[lP,yz];omega
 have:=a18 (N0:=n.nodes) (f:=f) (Ww h1 h2) (Wu (al:=(cN [] n.rules).1.1) h2) ((fA (cN [] n.rules).1.2 fs).drop 1) n.br h0 (by omega);exact⟨_,rfl,by omega,by omega⟩
theorem TM{n:aG}{f:aC}(hb:Im n=true)(hf:oT f=true)(hn:f∉n.facts)(h24:n.facts.length<24)(ht:n.br<=100000000000000000):
 ∃t,NV n f=(ng n.rules (vD f n.facts) t,true)/\eb (vD f n.facts)=true/\n.br<=t/\t<=n.br+250000000:=by
 have h2:=(EQ hb).2.1;have ha:Cv n.facts f=(vD f n.facts,true):=by unfold Cv;rw[bL ⟨h2,hf,hn,by omega⟩]
 have h3:=Nd hf h2 hn (by omega);obtain⟨t,e,e1,e2⟩:=YY f hb h3 ht;exact⟨t,by unfold NV;rw[ha,hb];simp[e],h3,e1,e2⟩
theorem a3C{n:aG}{f:aC}(h:f∈n.facts):NV n f=(n,false):=by
 have ha:(Cv n.facts f).2=false:=by unfold Cv;rw[b9 (fun q=>q.2.2.1 h)]
 unfold NV;rw[ha,sZ];rfl
theorem Td{n:aG}{f:aC}(hb:Im n=true)(hn:f∈n.facts)(ht:n.br<=100000000000000000):
 ∃t,Tc n f=(ng n.rules (xh f n.facts) t,true)/\eb (xh f n.facts)=true/\n.br<=t/\t<=n.br+250000000:=by
 have h2:=(EQ hb).2.1;have ha:IW n.facts f=(xh f n.facts,true):=by unfold IW;rw[bL ⟨h2,hn⟩]
 have h3:=Nc f h2;obtain⟨t,e,e1,e2⟩:=YY f hb h3 ht;exact⟨t,by unfold Tc;rw[ha,hb];simp[e],h3,e1,e2⟩
theorem O3:∀ {a b:aI} {p q:Option aC},chainB p a=true->chainB q b=true->(∀x,x∈a↔x∈b)->a=b
 | [],[],_,_,_,_,_=>rfl
 | [],y::ys,_,_,_,_,h=>absurd ((h y).2 (by simp)) (by simp)
 |x::xs,[],_,_,_,_,h=>absurd ((h x).1 (by simp)) (by simp)
 |x::xs,y::ys,p,q,ha,hb,h=>by
  obtain⟨_,_,h3⟩:=tX ha;obtain⟨_,_,k3⟩:=tX hb;have e:x=y:=by
   rcases bJ.1 ((h x).1 (by simp))with e|hx
   ·exact e
   rcases bJ.1 ((h y).2 (by simp))with e|hy
   ·exact e.symm
   exact absurd (Ix (yt k3 x hx) (yt h3 y hy)) (Cz y)
  subst e;have:xs=ys:=O3 h3 k3 fun z=>⟨fun hz=>by
   rcases bJ.1 ((h z).1 (by simp[hz]))with rfl|q
   ·exact absurd (yt h3 z hz) (Cz z)
   ·exact q,fun hz=>by
   rcases bJ.1 ((h z).2 (by simp[hz]))with rfl|q
   ·exact absurd (yt k3 z hz) (Cz z)
   ·exact q⟩
  rw[this]
theorem SF{a b:aI}(ha:eb a=true)(hb:eb b=true)(h:∀x,x∈a↔x∈b):a=b:=by
 unfold eb at ha hb;simp only[aR]at ha hb;exact O3 ha.1 hb.1 h
theorem Kw{f x:aC}{l:aI}:x∈xh f l↔x∈l/\x≠f:=by
 unfold xh;rw[fY];simp
theorem a2K{f:aC}{l:aI}(h1:eb (vD f l)=true)(h2:eb l=true)(hn:f∉l):xh f (vD f l)=l:=by
 refine SF (Nc f h1) h2 fun x=>?_
 rw[Kw,Gr];constructor
 ·rintro⟨h|h,hne⟩
  ·exact absurd h hne
  ·exact h
 ·exact fun h=>⟨.inr h,fun e=>hn (e▸h)⟩
theorem a2o{f:aC}{l:aI}(hf:f∈l)(h:eb l=true):eb (vD f (xh f l))=true/\vD f (xh f l)=l:=by
 have h1:=Nc f h;have hn:f∉xh f l:=fun q=>(Kw.1 q).2 rfl
 have h2:=lQ h;have h3:(xh f l).length<l.length:=by
  obtain⟨pre,post,e,h4,_⟩:=Gg 0 hf;have hnd:=Fj h;rw[e]at hnd⊢;have h5:f∉post:=by
   have:=(bW.1 hnd).2.1;exact(fZ.1 this).1
  rw[SU h4 h5];simp
 have h6:=Nd (BF h f hf) h1 hn (by omega);refine⟨h6,SF h6 h fun x=>?_⟩;rw[Gr,Kw];constructor
 ·rintro(h|h)
  ·exact h▸hf
  ·exact h.1
 ·intro h;by_cases e:x=f
  ·exact .inl e
  ·exact .inr ⟨h,e⟩
theorem a2z(rs:aq)(fs:aI)(t u:Int):FW (ng rs fs t) (ng rs fs u)=true:=by
 unfold FW ng;simp
structure Frg(rs:List aK)(f:aC):Prop where
 ne:f.rel≠[]
 cond:∀r∈rs,∀c∈r.conds,c.pat.rel≠f.rel
def cz(c:cQ):Prop:=0<=c.i/\c.b.length<=4096
theorem VO(x:Int):0<=Ie .i64 x 255/\Ie .i64 x 255<=255:=by
 unfold Ie;have h:(BitVec.ofInt IntKind.i64.bits x&&& BitVec.ofInt IntKind.i64.bits 255).toNat<=255:=by
  rw[BitVec.toNat_and];exact eD Nat.and_le_right (by decide)
 rw[dY (qQ.i64.2 (by omega))];omega
theorem a9A(c:cQ)(h:cz c):∃c' x,qK c=some (c',x)/\cz c'/\0<=x/\x<=255:=by
 obtain⟨h1,h2⟩:=h;unfold qK;rw[ah];by_cases hi:c.i<(c.b.length:Int)
 ·have hlt:c.i.toNat<c.b.length:=by omega
  have e:fy c.b c.i=some c.b[c.i.toNat]:=by unfold fy;rw[av h1,aF];exact af hlt
  rw[av hi,aF,e,aA];refine⟨_,_,rfl,⟨?_,h2⟩,VO _⟩;show 0<=IntKind.i64.wrap (c.i+1);rw[dY (qQ.i64.2 (by omega))];omega
 ·rw[bB hi,aM];exact⟨_,_,rfl,⟨h1,h2⟩,VO _⟩
theorem pZ(c:cQ)(n:Int)(h:cz c)(h0:0<n)(h1:n<=256):∃c' r,cP c n=some (c',r)/\cz c'/\0<=r/\r<n:=by
 obtain⟨c',x,e,hc,hx,hx2⟩:=a9A c h;unfold cP;have e1:decide (n<=0)=false:=by simp;omega
 have e2:decide (n<=256)=true:=by simp;omega
 have e3:(decide (0<=x)&&decide (0<n))=true:=by simp;omega
 rw[e1,aM,e2,aF,e,aA,e3,aF];exact⟨_,_,rfl,hc,Int.emod_nonneg _ (by omega),Int.emod_lt_of_pos _ h0⟩
theorem QK(c:cQ)(n:Int)(h:cz c)(h0:0<n)(h1:n<=256):∃c' b,eP c n=some (c',b)/\cz c':=by
 obtain⟨c',x,e,hc,_⟩:=pZ c n h h0 h1;unfold eP;rw[e,aA];exact⟨_,_,rfl,hc⟩
theorem Xb(c:cQ)(l:aH)(h:cz c)(h0:0<l.length)(h1:l.length<=256):∃c' s,qC c l=some (c',s)/\cz c'/\s∈l:=by
 obtain⟨c',x,e,hc,hx,hx2⟩:=pZ c (l.length:Int) h (by omega) (by omega);unfold qC;rw[ah,e,aA];have hlt:x.toNat<l.length:=by omega
 have e2:fy l x=some l[x.toNat]:=by unfold fy;rw[av hx,aF];exact af hlt
 rw[e2,aA];exact⟨_,_,rfl,hc,iO hlt⟩
theorem Ul(c:cQ)(h:cz c):∃c' s,iR c=some (c',s)/\cz c'/\s.length<=16:=by
 unfold iR;obtain⟨c',s,e,hc,hs⟩:=Xb c ([[97],[98],[99],[49],[50]]:aH) h (by decide) (by decide);rw[e,aA];have:∀s∈([[97],[98],[99],[49],[50]]:aH),s.length<=16:=by decide
 exact⟨_,_,rfl,hc,this s hs⟩
theorem Md(c:cQ)(h:cz c):∃c' s,mT c=some (c',s)/\cz c'/\s.length<=16:=by
 unfold mT;generalize hl:([[97],[98],[111,110],[55],[49,48],[57,57,57,57],[49,48,48,48,48],[48,48,55],[48],[],[65],[63,120],[63,63],[63],[97,98,99,100,101,102,103,104],[97,98,99,100,101,102,103,104,105],[63,97,98,99,100,101,102,103,104],[97,45,98],[120,49],[49,120],[45,51]]:aH)=l;have h0:0<l.length/\l.length<=256/\∀s∈l,s.length<=16:=by subst hl;decide
 obtain⟨c',s,e,hc,hs⟩:=Xb c l h h0.1 h0.2.1;rw[e,aA];exact⟨_,_,rfl,hc,h0.2.2 s hs⟩
theorem Uu(c:cQ)(h:cz c):∃c' s,qM c=some (c',s)/\cz c'/\s.length<=16:=by
 unfold qM;obtain⟨c1,b,e,hc⟩:=QK c 4 h (by decide) (by decide);rw[e,aA];cases b with
 |true=>
  obtain⟨c2,s,e2,Bi,hs⟩:=Ul c1 hc;rw[aF,e2,aA];exact⟨_,_,rfl,Bi,hs⟩
 |false=>
  obtain⟨c2,s,e2,Bi,hs⟩:=Xb c1 ([[63,120],[63,121],[63,122]]:aH) hc (by decide) (by decide);rw[aM,e2,aA];have:∀s∈([[63,120],[63,121],[63,122]]:aH),s.length<=16:=by decide
  exact⟨_,_,rfl,Bi,this s hs⟩
theorem a9R(c:cQ)(h:cz c):∃c' r n,oY c=some (c',(r,n))/\cz c'/\r.length<=16/\0<=n/\n<=2:=by
 unfold oY;obtain⟨c1,x,e,hc,hx,hx2⟩:=pZ c 6 h (by decide) (by decide);rw[e,aA];have key:x=0\/x=1\/x=2\/x=3\/x=4\/x=5:=by omega
 rcases key with rfl|rfl|rfl|rfl|rfl|rfl<;>exact⟨c1,_,_,rfl,hc,by decide,by decide,by decide⟩
def kU(k:Nat)(p:aC):Prop:=p.rel.length<=16/\p.args.length<=k/\∀x∈p.args,x.length<=16
theorem QY:∀(l:aH),(∀x∈l,x.length<=16)->qw tw l<=17*l.length
 | [],_=>by simp[qw]
 |x::l,h=>by
  have h1:=QY l fun y hy=>h y (by simp[hy])
  have h2:=h x (by simp);rw[oz,aS];unfold tw at*;omega
theorem a3K(y:cQ×(Bytes×Int))(k:bH->Int->Int->aH->Option (cQ×aC)):∀(m:Nat) (fu:Nat) (v:Int) (c:cQ) (w:aH),y.2.2-v=(m:Int)->m<fu->0<=v->y.2.2<=100->w.length+m<=1000->cz c->(∀x∈w,x.length<=16)->
 ∃c' w',mE y k fu v c.b c.i c.h w=k c'.b c'.i c'.h w'/\cz c'/\w'.length<=w.length+m/\∀x∈w',x.length<=16:=by
 intro m
 induction m with
 |zero=>
  intro fu v c w hv hf h0 hy hw hc hx;cases fu with
  |zero=>omega
  |succ fu=>
   have e:decide (v<y.2.2)=false:=by simp;omega
   rw[mE,e,aM];exact⟨c,w,rfl,hc,by omega,hx⟩
 |succ m ih=>
  intro fu v c w hv hf h0 hy hw hc hx;cases fu with
  |zero=>omega
  |succ fu=>
   have e:decide (v<y.2.2)=true:=by simp;omega
   obtain⟨c1,s,e2,hc1,hs⟩:=Uu c hc;have U4:qM (⟨c.b,c.i,c.h⟩:cQ)=some (c1,s):=e2;have e3:IntKind.i64.wrap (v+1)=v+1:=dY (qQ.i64.2 (by omega));rw[mE,e,aF,U4,aA,gB (by omega) (by decide),aF,e3];obtain⟨c',w',q1,q2,q3,q4⟩:=ih fu (v+1) c1 (w++[s]) (by omega) (by omega) (by omega) hy (by simp;omega) hc1 (fun x UQ=>by
    rcases aZ.1 UQ with h|h
    ·exact hx x h
    ·simp at h;subst h;exact hs)
   exact⟨c',w',q1,q2,by simp at q3;omega,q4⟩
theorem Rf(c:cQ)(h:cz c):∃c' p,jT c=some (c',p)/\cz c'/\kU 2 p:=by
 unfold jT;obtain⟨c1,r,n,e,hc,hr,hn,hn2⟩:=a9R c h;rw[e,aA];obtain⟨c',w',q1,q2,q3,q4⟩:=a3K (c1,(r,n)) (fun a b d q=>some ((⟨a,b,d⟩:cQ),(⟨r,q⟩:aC))) n.toNat fuel 0 c1 [] (by simp;omega) (by unfold fuel;omega) (by omega) (by simp;omega) (by simp;omega) hc (by simp);exact⟨_,_,q1,q2,hr,by show w'.length<=2;simp at q3;omega,q4⟩
theorem a4m(c:cQ)(h:cz c):∃c' p,vu c=some (c',p)/\cz c'/\kU 4 p:=by
 unfold vu;obtain⟨c1,p,e,hc,hp1,hp2,hp3⟩:=Rf c h;obtain⟨c2,x,e2,Bi,hx,hx2⟩:=pZ c1 10 hc (by decide) (by decide);rw[e,aA,e2,aA];cases(x==(0:Int))with
 |true=>
  obtain⟨c3,s,e3,Gm,hs⟩:=Md c2 Bi;rw[aF,e3,aA];exact⟨_,_,rfl,Gm,hs,by show p.args.length<=4;omega,hp3⟩
 |false=>
  rw[aM];cases(x==(1:Int))with
  |true=>
   obtain⟨c3,s,e3,Gm,hs⟩:=Md c2 Bi;rw[aF,e3,aA,gB (w:=p.args) (by omega) (by decide),aF];refine⟨_,_,rfl,Gm,hp1,by simp;omega,fun y hy=>?_⟩;rcases aZ.1 hy with h|h
   ·exact hp3 y h
   ·simp at h;subst h;exact hs
  |false=>
   rw[aM];cases(x==(2:Int))with
   |true=>
    obtain⟨c3,z,e3,Gm,hz,UR⟩:=pZ c2 5 Bi (by decide) (by decide);have e4:(decide (0<=z)&&decide (z.toNat<=(([[63,120],[63,120],[63,121],[63,120]]:aH).map tx).length))=true:=by simp;omega
    rw[aF,e3,aA,e4,aF];refine⟨_,_,rfl,Gm,hp1,by simp[cE];omega,fun y hy=>?_⟩;have:∀s∈([[63,120],[63,120],[63,121],[63,120]]:aH),s.length<=16:=by decide
    exact this y (bn hy)
   |false=>exact⟨_,_,rfl,Bi,hp1,by show p.args.length<=4;omega,hp3⟩
theorem a9M(code:bH)(h:code.length<=4096):∃c,yG code=some c/\cz c:=by
 unfold yG;have key:∀(k:Int->Option cQ) (r:bH) (i:Nat) (v:Int),∃z,pX code k r i v=k z:=by
  intro k r
  induction r with
  |nil=>intro i v;exact⟨v,rfl⟩
  |cons x r ih=>
   intro i v;rw[pX];cases decide ((i:Int)<4000)with
   |true=>exact ih _ _
   |false=>exact⟨v,rfl⟩
 obtain⟨z,e⟩:=key (fun z=>some (⟨code,0,z⟩:cQ)) code 0 (IntKind.i64.wrap (851207+(IntKind.i64.wrap (3*((code.map yx).length:Int)))));rw[tY (by omega),aF,e];exact⟨_,rfl,by show(0:Int)<=0;omega,h⟩
theorem NE(c:cQ)(l:bH)(h:cz c)(h0:0<l.length)(h1:l.length<=256):∃c' s,iH c l=some (c',s)/\cz c'/\s∈l:=by
 obtain⟨c',x,e,hc,hx,hx2⟩:=pZ c (l.length:Int) h (by omega) (by omega);unfold iH;rw[ah,e,aA];have hlt:x.toNat<l.length:=by omega
 have e2:fy l x=some l[x.toNat]:=by unfold fy;rw[av hx,aF];exact af hlt
 rw[e2,aA];exact⟨_,_,rfl,hc,iO hlt⟩
theorem a3I(y:cQ×(Bytes×Int))(k:bH->Int->Int->aH->Option (cQ×aC)):∀(m:Nat) (fu:Nat) (v:Int) (c:cQ) (w:aH),y.2.2-v=(m:Int)->m<fu->0<=v->y.2.2<=100->w.length+m<=1000->cz c->(∀x∈w,x.length<=16)->
 ∃c' w',gZ y k fu v c.b c.i c.h w=k c'.b c'.i c'.h w'/\cz c'/\w'.length<=w.length+m/\∀x∈w',x.length<=16:=by
 intro m
 induction m with
 |zero=>
  intro fu v c w hv hf h0 hy hw hc hx;cases fu with
  |zero=>omega
  |succ fu=>
   have e:decide (v<y.2.2)=false:=by simp;omega
   rw[gZ,e,aM];exact⟨c,w,rfl,hc,by omega,hx⟩
 |succ m ih=>
  intro fu v c w hv hf h0 hy hw hc hx;cases fu with
  |zero=>omega
  |succ fu=>
   have e:decide (v<y.2.2)=true:=by simp;omega
   obtain⟨c1,s,e2,hc1,hs⟩:=Ul c hc;have U4:iR (⟨c.b,c.i,c.h⟩:cQ)=some (c1,s):=e2;have e3:IntKind.i64.wrap (v+1)=v+1:=dY (qQ.i64.2 (by omega));rw[gZ,e,aF,U4,aA,gB (by omega) (by decide),aF,e3];obtain⟨c',w',q1,q2,q3,q4⟩:=ih fu (v+1) c1 (w++[s]) (by omega) (by omega) (by omega) hy (by simp;omega) hc1 (fun x UQ=>by
    rcases aZ.1 UQ with h|h
    ·exact hx x h
    ·simp at h;subst h;exact hs)
   exact⟨c',w',q1,q2,by simp at q3;omega,q4⟩
theorem a9S(c:cQ)(h:cz c):∃c' r n,oY c=some (c',(r,n))/\cz c'/\r.length<=16/\0<=n/\n<=2/\r≠[110]:=by
 unfold oY;obtain⟨c1,x,e,hc,hx,hx2⟩:=pZ c 6 h (by decide) (by decide);rw[e,aA];have key:x=0\/x=1\/x=2\/x=3\/x=4\/x=5:=by omega
 rcases key with rfl|rfl|rfl|rfl|rfl|rfl<;>exact⟨c1,_,_,rfl,hc,by decide,by decide,by decide,by decide⟩
theorem Uq(c:cQ)(h:cz c):∃c' p,ew c=some (c',p)/\cz c'/\kU 2 p/\p.rel≠[110]:=by
 unfold ew;obtain⟨c1,r,n,e,hc,hr,hn,hn2,hrn⟩:=a9S c h;rw[e,aA];obtain⟨c',w',q1,q2,q3,q4⟩:=a3I (c1,(r,n)) (fun a b d q=>some ((⟨a,b,d⟩:cQ),(⟨r,q⟩:aC))) n.toNat fuel 0 c1 [] (by simp;omega) (by unfold fuel;omega) (by omega) (by simp;omega) (by simp;omega) hc (by simp);exact⟨_,_,q1,q2,⟨hr,by show w'.length<=2;simp at q3;omega,q4⟩,hrn⟩
theorem a4l(c:cQ)(h:cz c):∃c' p,kj c=some (c',p)/\cz c'/\kU 4 p:=by
 unfold kj;obtain⟨c1,p,e,hc,⟨hp1,hp2,hp3⟩,_⟩:=Uq c h;obtain⟨c2,x,e2,Bi,hx,hx2⟩:=pZ c1 10 hc (by decide) (by decide);rw[e,aA,e2,aA];cases(x==(0:Int))with
 |true=>
  obtain⟨c3,s,e3,Gm,hs⟩:=Md c2 Bi;rw[aF,e3,aA];exact⟨_,_,rfl,Gm,hs,by show p.args.length<=4;omega,hp3⟩
 |false=>
  rw[aM];cases(x==(1:Int))with
  |true=>
   obtain⟨c3,s,e3,Gm,hs⟩:=Md c2 Bi;rw[aF,e3,aA,gB (w:=p.args) (by omega) (by decide),aF];refine⟨_,_,rfl,Gm,hp1,by simp;omega,fun y hy=>?_⟩;rcases aZ.1 hy with h|h
   ·exact hp3 y h
   ·simp at h;subst h;exact hs
  |false=>
   rw[aM];cases(x==(2:Int))with
   |true=>
    obtain⟨c3,z,e3,Gm,hz,UR⟩:=pZ c2 5 Bi (by decide) (by decide);have e4:(decide (0<=z)&&decide (z.toNat<=(([[97],[98],[99],[97]]:aH).map tx).length))=true:=by simp;omega
    rw[aF,e3,aA,e4,aF];refine⟨_,_,rfl,Gm,hp1,by simp[cE];omega,fun y hy=>?_⟩;have:∀s∈([[97],[98],[99],[97]]:aH),s.length<=16:=by decide
    exact this y (bn hy)
   |false=>exact⟨_,_,rfl,Bi,hp1,by show p.args.length<=4;omega,hp3⟩
def CR(n:Nat)(l:aI):Prop:=l.length<=n/\∀f∈l,kU 4 f
theorem kU.le{k m:Nat}{p:aC}(h:kU k p)(hm:k<=m):kU m p:=⟨h.1,by have:=h.2.1;omega,h.2.2⟩
theorem kU.copy{k:Nat}{p:aC}(h:kU k p)(hk:k<=1000):p.args.length<=1099511627776:=by have:=h.2.1;omega
theorem a6k(a:aI)(f:aC)(K:Bool->aI->Option aI)(hf:kU 4 f):∀(rest:aI) (i:Nat) (v:Bool) (w:aI),(∀x∈rest,kU 4 x)->w.length+2*rest.length<=1000->
 ∃v' w',cm a f K rest i v w=K v' w'/\(∀x∈w',x∈w\/x∈rest\/x=f)/\w.length+rest.length<=w'.length/\
  (bif v then v'=true/\w'.length=w.length+rest.length else bif v' then w'.length<=w.length+rest.length+1/\((∀x∈rest,nc x f≠0)->w'.length=w.length+rest.length+1)else w'.length=w.length+rest.length):=by
 intro rest
 induction rest with
 |nil=>
  intro i v w _ _;refine⟨v,w,rfl,fun x hx=>.inl hx,by simp,?_⟩;cases v<;>simp
 |cons x xs ih=>
  intro i v w hs hl;simp only[aS]at hl;have hx:=hs x (by simp);have hs':∀y∈xs,kU 4 y:=fun y hy=>hs y (by simp[hy])
  have cx:=zC x (hx.copy (by decide));have cf:=zC f (hf.copy (by decide));have nx:=fun w':aI=>fun h:w'.length<1099511627776=>gB (w:=w') (c:=aC.c) (y:=[D.str x.rel,D.sl (x.args.map tx)]) (b:=40) h (by decide)
  have nf:=fun w':aI=>fun h:w'.length<1099511627776=>gB (w:=w') (c:=aC.c) (y:=[D.str f.rel,D.sl (f.args.map tx)]) (b:=40) h (by decide)
  cases v with
  |true=>
   obtain⟨v',w',q1,q2,q3,q4⟩:=ih (i+1) true (w++[x]) hs' (by simp;omega);simp only[ax,aS,bf,aF]at q3 q4;refine⟨v',w',?_,fun z hz=>?_,by simp only[aS];omega,?_⟩
   ·rw[cm,bN,aM,cx,aA,nx w (by omega),aF];exact q1
   ·rcases q2 z hz with h|h|h
    ·rcases aZ.1 h with h|h
     ·exact .inl h
     ·simp at h;subst h;exact .inr (.inl (by simp))
    ·exact .inr (.inl (by simp[h]))
    ·exact .inr (.inr h)
   ·simp only[aF,aS];exact⟨q4.1,by omega⟩
  |false=>
   rw[cm,bz,aF,TS,aA];by_cases hge:nc x f>=0
   ·rw[av hge,aF,aA];by_cases hgt:nc x f>0
    ·obtain⟨v',w',q1,q2,q3,q4⟩:=ih (i+1) true (w++[f]++[x]) hs' (by simp;omega);simp only[ax,aS,bf,aF]at q3 q4;have e2:room (((w.map aC.c)++[[D.str f.rel,D.sl (f.args.map tx)]]).length+[[D.str x.rel,D.sl (x.args.map tx)]].length) 40=true:=by
      have:=nx (w++[f]) (by simp;omega);rw[bD]at this;exact this
     refine⟨v',w',?_,fun z hz=>?_,by simp only[aS];omega,?_⟩
     ·rw[av hgt,aF,cf,aA,nf w (by omega),aF,cx,aA,e2,aF];exact q1
     ·rcases q2 z hz with h|h|h
      ·rcases aZ.1 h with h|h
       ·rcases aZ.1 h with h|h
        ·exact .inl h
        ·simp at h;exact .inr (.inr h)
       ·simp at h;subst h;exact .inr (.inl (by simp))
      ·exact .inr (.inl (by simp[h]))
      ·exact .inr (.inr h)
     ·rw[q4.1];simp only[aM,aF,aS];exact⟨by omega,fun _=>by omega⟩
    ·have hz:nc x f=0:=by omega
     obtain⟨v',w',q1,q2,q3,q4⟩:=ih (i+1) true (w++[x]) hs' (by simp;omega);simp only[ax,aS,bf,aF]at q3 q4;refine⟨v',w',?_,fun z hz=>?_,by simp only[aS];omega,?_⟩
     ·rw[bB hgt,aM,cx,aA,nx w (by omega),aF];exact q1
     ·rcases q2 z hz with h|h|h
      ·rcases aZ.1 h with h|h
       ·exact .inl h
       ·simp at h;subst h;exact .inr (.inl (by simp))
      ·exact .inr (.inl (by simp[h]))
      ·exact .inr (.inr h)
     ·rw[q4.1];simp only[aM,aF,aS];exact⟨by omega,fun h=>absurd hz (h x (by simp))⟩
   ·obtain⟨v',w',q1,q2,q3,q4⟩:=ih (i+1) false (w++[x]) hs' (by simp;omega);simp only[ax,aS,bf,aM]at q3 q4;refine⟨v',w',?_,fun z hz=>?_,by simp only[aS];omega,?_⟩
    ·rw[bB hge,aM,cx,aA,nx w (by omega),aF];exact q1
    ·rcases q2 z hz with h|h|h
     ·rcases aZ.1 h with h|h
      ·exact .inl h
      ·simp at h;subst h;exact .inr (.inl (by simp))
     ·exact .inr (.inl (by simp[h]))
     ·exact .inr (.inr h)
    ·cases v' with
     |true=>
      simp only[aF,aM,aS]at q4⊢;exact⟨by omega,fun h=>by have:=q4.2 (fun y hy=>h y (by simp[hy]));omega⟩
     |false=>simp only[aM,aS]at q4⊢;omega
theorem a4x(l:aI)(f:aC){n:Nat}(hl:CR n l)(hn:n<=100)(hf:kU 4 f):∃l',kn l f=some l'/\CR (n+1) l'/\(∀x∈l',x∈l\/x=f)/\((∀x∈l,nc x f≠0)->l'.length=l.length+1):=by
 unfold kn;obtain⟨v',w',q1,q2,q3,q4⟩:=a6k l f (fun(vi:Bool) (jo:aI)=>(bif !(vi)then((dQ f).bind fun Pk=>(bif room ((jo.map aC.c).length+([[D.str Pk.rel,D.sl (Pk.args.map tx)]]).length) 40 then(some (jo++([Pk])))else none))else(some jo))) hf l 0 false [] hl.2 (by have:=hl.1;simp;omega);have hln:=hl.1;simp only[bf,cS,aM]at q3 q4;have q2':∀x∈w',x∈l\/x=f:=fun x hx=>by
  rcases q2 x hx with h|h|h
  ·cases h
  ·exact .inl h
  ·exact .inr h
 have sm:∀x∈w',kU 4 x:=fun x hx=>by
  rcases q2' x hx with h|h
  ·exact hl.2 x h
  ·rw[h];exact hf
 cases v' with
 |true=>
  simp only[aF]at q4;exact⟨w',q1,⟨by omega,sm⟩,q2',q4.2⟩
 |false=>
  simp only[aM]at q4;refine⟨w'++[f],?_,⟨by simp;omega,fun x hx=>?_⟩,fun x hx=>?_,fun _=>by simp;omega⟩
  ·rw[q1];show(bif !false then _ else _)=_;rw[bz,aF,zC f (hf.copy (by decide)),aA,gB (w:=w') (c:=aC.c) (y:=[D.str f.rel,D.sl (f.args.map tx)]) (by omega) (by decide),aF]
  ·rcases aZ.1 hx with h|h
   ·exact sm x h
   ·simp at h;subst h;exact hf
  ·rcases aZ.1 hx with h|h
   ·exact q2' x h
   ·simp at h;exact .inr h
theorem a9W(k:bH->Int->Int->aI->Option (cQ×aI)):∀(m:Nat) (fu:Nat) (v:Int) (c:cQ) (w:aI) (n:Nat),v=(m:Int)->m<fu->m<=50->n+m<=60->cz c->CR n w->(∀x∈w,x.rel≠[110])->
 ∃c' w',iM k fu v c.b c.i c.h w=k c'.b c'.i c'.h w'/\cz c'/\CR (n+m) w'/\∀x∈w',x.rel≠[110]:=by
 intro m
 induction m with
 |zero=>
  intro fu v c w n hv hf hm hn hc hw hr;cases fu with
  |zero=>omega
  |succ fu=>
   have e:decide (v>0)=false:=by simp;omega
   rw[iM,e,aM];exact⟨c,w,rfl,hc,hw,hr⟩
 |succ m ih=>
  intro fu v c w n hv hf hm hn hc hw hr;cases fu with
  |zero=>omega
  |succ fu=>
   have e:decide (v>0)=true:=by simp;omega
   obtain⟨c1,f,e2,hc1,hf1,Yv⟩:=Uq c hc;have U4:ew (⟨c.b,c.i,c.h⟩:cQ)=some (c1,f):=e2;obtain⟨w1,e4,hw1,hm1,_⟩:=a4x w f hw (by omega) (hf1.le (by decide));have e3:IntKind.i64.wrap (v-1)=v-1:=dY (qQ.i64.2 (by omega));rw[iM,e,aF,U4,aA,e4,aA,e3];obtain⟨c',w',q1,q2,q3,q4⟩:=ih fu (v-1) c1 w1 (n+1) (by omega) (by omega) (by omega) (by omega) hc1 hw1 (fun x hx=>by
    rcases hm1 x hx with h|h
    ·exact hr x h
    ·rw[h];exact Yv)
   exact⟨c',w',q1,q2,⟨by have:=q3.1;omega,q3.2⟩,q4⟩
theorem a4z(c:cQ)(n:Int)(h:cz c)(h0:0<=n)(hn:n<=40):∃c' l,qD c n=some (c',l)/\cz c'/\CR 40 l/\∀x∈l,x.rel≠[110]:=by
 unfold qD;have e3:IntKind.i64.wrap (n+1)=n+1:=dY (qQ.i64.2 (by omega));obtain⟨c1,x,e,hc,hx,hx2⟩:=pZ c (n+1) h (by omega) (by omega);rw[e3,e,aA];obtain⟨c',w',q1,q2,q3,q4⟩:=a9W (fun a b d q=>some ((⟨a,b,d⟩:cQ),q)) x.toNat fuel x c1 [] 0 (by omega) (by unfold fuel;omega) (by omega) (by omega) hc ⟨by simp,by simp⟩ (by simp);exact⟨_,_,q1,q2,⟨by have:=q3.1;omega,q3.2⟩,q4⟩
def Wp(j:Nat):Bytes:=if j<10 then [UInt8.ofNat (48+j)]else [UInt8.ofNat (48+j/10),UInt8.ofNat (48+j%10)]
theorem Nh{j:Nat}(h:j<100):Lib.decDigits j=Wp j:=by
 unfold Wp;by_cases h1:j<10
 ·rw[bL h1,Lib.decDigits,dif_pos h1]
 ·rw[b9 h1,Lib.decDigits,dif_neg h1,Lib.decDigits,dif_pos (by omega)];rfl
theorem SV:∀j,j<25->Lib.decFrom 0 (Wp j)=some j/\1<=(Wp j).length/\(Wp j).length<=4:=by decide
theorem TC{j:Nat}(h:j<25):yU (Lib.decDigits j)=some j:=by
 rw[Nh (by omega)];obtain⟨h1,h2,h3⟩:=SV j h;unfold yU;rw[bL ⟨h2,h3⟩,h1];simp only;rw[bL (Nh (by omega))]
def LF(j:Nat):aC:=⟨[110],[Lib.decDigits j]⟩
theorem a02{i j:Nat}(hi:i<25)(hj:j<25)(h:i≠j):nc (LF i) (LF j)≠0:=by
 have:C1 (Lib.decDigits i) (Lib.decDigits j)≠0:=by
  unfold C1;rw[TC hi,TC hj];unfold HV;simp only;split
  ·omega
  ·split<;>omega
 unfold nc LF cmpL uZ;simp only[ne_eq,not_true_eq_false,zO,this,not_false_eq_true,qk]
theorem T9{j:Nat}(h:j<25):kU 4 (LF j):=by
 refine⟨by simp[LF],by simp[LF],fun x hx=>?_⟩;simp only[LF,cG]at hx;subst hx;rw[Nh (by omega)];have:=(SV j h).2.2;omega
theorem a6e(y:cQ×Int)(k:aI->Option (cQ×aI))(n0:Nat):∀(m:Nat) (fu:Nat) (j:Nat) (w:aI),j+m=25->m<fu->n0<=40->CR (n0+j) w->j<=w.length->(∀x∈w,x.rel≠[110]\/∃i,i<j/\x=LF i)->
 ∃w',mD y k fu (j:Int) w=k w'/\CR (n0+25) w'/\25<=w'.length:=by
 intro m
 induction m with
 |zero=>
  intro fu j w hj hf hn hw hl hx;cases fu with
  |zero=>omega
  |succ fu=>
   have e:decide ((j:Int)<25)=false:=by simp;omega
   rw[mD,e,aM];exact⟨w,rfl,by rw[show n0+25=n0+j from by omega];exact hw,by omega⟩
 |succ m ih=>
  intro fu j w hj hf hn hw hl hx;cases fu with
  |zero=>omega
  |succ fu=>
   have e:decide ((j:Int)<25)=true:=by simp;omega
   have e1:jf (j:Int)=some (Lib.decDigits j):=by
    rw[a3N _ (qQ.i64.2 (by omega))];unfold Lib.itoa;rw[b9 (by omega)];rfl
   obtain⟨w1,e4,hw1,hm1,hlen⟩:=a4x w (LF j) hw (by omega) (T9 (by omega));have e4':kn w (⟨[110],[Lib.decDigits j]⟩:aC)=some w1:=e4;have e3:IntKind.i64.wrap ((j:Int)+1)=((j+1:Nat):Int):=by rw[dY (qQ.i64.2 (by omega))];rfl
   have hlen:=hlen (fun x UQ=>by
    rcases hx x UQ with h|⟨i,hi,rfl⟩
    ·unfold nc;rw[bL (by exact h)];exact Qt h
    ·exact a02 (by omega) (by omega) (by omega))
   rw[mD,e,aF,e1,aA,e4',aA,e3];exact ih fu (j+1) w1 (by omega) (by omega) hn hw1 (by omega) (fun x UQ=>by
    rcases hm1 x UQ with h|h
    ·rcases hx x h with h|⟨i,hi,rfl⟩
     ·exact .inl h
     ·exact .inr ⟨i,by omega,rfl⟩
    ·exact .inr ⟨j,by omega,h⟩)
theorem a6d(c:cQ)(h:cz c):∃c' l,wk c=some (c',l)/\cz c'/\CR 65 l:=by
 unfold wk;obtain⟨c1,l,e,hc,hl,hr⟩:=a4z c 6 h (by decide) (by decide);obtain⟨c2,x,e2,Bi,hx,hx2⟩:=pZ c1 8 hc (by decide) (by decide);rw[e,aA,e2,aA];have hl1:=hl.1;cases(x==(0:Int))with
 |true=>
  obtain⟨c3,f,e3,Gm,hf⟩:=a4l c2 Bi;rw[aF,e3,aA,gB (w:=l) (c:=aC.c) (y:=[D.str f.rel,D.sl (f.args.map tx)]) (by omega) (by decide),aF];refine⟨_,_,rfl,Gm,by simp;omega,fun y hy=>?_⟩;rcases aZ.1 hy with h|h
  ·exact hl.2 y h
  ·simp at h;subst h;exact hf
 |false=>
  rw[aM];cases(x==(1:Int))with
  |true=>
   rw[aF];obtain⟨w',q1,q2,q3⟩:=a6e (c2,x) (fun(jo:aI)=>((iH c2 ([23,24,25]:bH)).bind fun Cr=>(bif decide (0<=(Cr.2:Int))&&decide (Cr.2.toNat<=(jo.map aC.c).length)then(some (Cr.1,jo.take Cr.2.toNat))else none))) 40 25 fuel 0 l (by omega) (by unfold fuel;omega) (by omega) hl (by omega) (fun y hy=>.inl (hr y hy));obtain⟨c3,z,e3,Gm,hz⟩:=NE c2 [23,24,25] Bi (by decide) (by decide);have UR:0<=z/\z<=25:=by
    have:∀s∈([23,24,25]:bH),0<=s/\s<=25:=by decide
    exact this z hz
   have e4:(decide (0<=z)&&decide (z.toNat<=(w'.map aC.c).length))=true:=by simp;omega
   refine⟨c3,w'.take z.toNat,?_,Gm,by have:=q2.1;simp;omega,fun y hy=>q2.2 y (bn hy)⟩;refine Eq.trans q1 ?_;show((iH c2 [23,24,25]).bind _)=_;rw[e3,aA,e4,aF]
  |false=>exact⟨_,_,rfl,Bi,by show l.length<=65;omega,hl.2⟩
def Dw(c:aP):Prop:=kU 4 c.pat/\c.left.length<=16/\c.right.length<=16
def Qm(a:Action):Prop:=kU 4 a.pat
def ur(n:Nat)(r:aK):Prop:=r.name.length<=16/\(r.conds.length<=n/\∀c∈r.conds,Dw c)/\(r.cY.length<=n/\∀a∈r.cY,Qm a)
theorem As{α:Type}{w:α->Nat}{B:Nat}:∀(l:List α),(∀x∈l,w x<=B)->qw w l<=(B+1)*l.length
 | [],_=>by simp[qw]
 |x::l,h=>by
  have h1:=As l fun y hy=>h y (by simp[hy])
  have h2:=h x (by simp);rw[oz,aS,Nat.mul_add];omega
theorem kU.wt4{p:aC}(h:kU 4 p):tw p.rel+qw tw p.args<=100:=by
 have:=QY p.args h.2.2;have h1:=h.1;have h2:=h.2.1;unfold tw at*;omega
theorem Dw.wt{c:aP}(h:Dw c):c.wt<=200:=by
 have h1:=h.1.wt4;have h2:=h.2.1;have h3:=h.2.2;unfold aP.wt;unfold tw at*;omega
theorem Qm.wt{a:Action}(h:Qm a):a.wt<=200:=by
 have h1:=kU.wt4 h;unfold Action.wt;unfold tw at*;omega
theorem ur.wt{n:Nat}{r:aK}(h:ur n r)(hn:n<=1000):r.wt<=1048576:=by
 obtain⟨h1,⟨h2,h3⟩,h4,h5⟩:=h;have c1:=As (w:=aP.wt) (B:=200) r.conds (fun x hx=>(h3 x hx).wt);have c2:=As (w:=Action.wt) (B:=200) r.cY (fun x hx=>(h5 x hx).wt);have d1:(200+1)*r.conds.length<=201*1000:=dJ _ (by omega);have d2:(200+1)*r.cY.length<=201*1000:=dJ _ (by omega);unfold aK.wt;unfold tw at*;omega
def Nr(p:aC):Bool:=decide (p.rel.length<=16)&&(decide (p.args.length<=4)&&p.args.all fun x=>decide (x.length<=16))
theorem QM{p:aC}(h:Nr p=true):kU 4 p:=by
 unfold Nr at h;simp only[aR,bC,aj]at h;exact h
def Rm(r:aK):Bool:=(decide (r.name.length<=16)&&((decide (r.conds.length<=4)&&r.conds.all fun c=>Nr c.pat&&(decide (c.left.length<=16)&&decide (c.right.length<=16)))&&(decide (r.cY.length<=4)&&r.cY.all fun a=>Nr a.pat)))&&(decide (1<=r.conds.length)&&decide (1<=r.cY.length))
theorem Xe{r:aK}(h:Rm r=true):ur 4 r/\1<=r.conds.length/\1<=r.cY.length:=by
 unfold Rm at h;simp only[aR,bC,aj]at h;obtain⟨⟨h1,⟨h2,h3⟩,h4,h5⟩,h6,h7⟩:=h;exact⟨⟨h1,⟨h2,fun c hc=>⟨QM (h3 c hc).1,(h3 c hc).2⟩⟩,h4,fun a ha=>QM (h5 a ha)⟩,h6,h7⟩
theorem a6r(c:cQ)(l r:Bytes)(h:cz c)(hl:l.length<=16)(hr:r.length<=16):∃c' x,wm c l r=some (c',x)/\cz c'/\Dw x:=by
 unfold wm;obtain⟨c1,k,e,hc,_⟩:=NE c [3,4,4,5] h (by decide) (by decide);rw[e,aA];exact⟨_,_,rfl,hc,⟨by simp,by simp,by simp⟩,hl,hr⟩
theorem a0P(c:cQ)(h:cz c):∃c' x,sM c=some (c',x)/\cz c'/\Dw x:=by
 unfold sM;obtain⟨c1,k,e,hc,_,_⟩:=pZ c 5 h (by decide) (by decide);rw[e,aA];have one:∀k:Int,∃c' x,((jT c1).bind fun y4=>(some (y4.1,(⟨k,y4.2,[],[]⟩:aP))))=some (c',x)/\cz c'/\Dw x:=fun k=>by
  obtain⟨c2,p,e2,Bi,hp⟩:=Rf c1 hc;rw[e2,aA];exact⟨_,_,rfl,Bi,⟨hp.1,by have:=hp.2.1;show p.args.length<=4;omega,hp.2.2⟩,by simp,by simp⟩
 cases(k==(0:Int))with
 |true=>rw[aF];exact one 1
 |false=>
  rw[aM];cases(k==(1:Int))with
  |true=>rw[aF];exact one 1
  |false=>
   rw[aM];cases(k==(2:Int))with
   |true=>rw[aF];exact one 2
   |false=>
    obtain⟨c2,l,e2,Bi,hl⟩:=Uu c1 hc;obtain⟨c3,r,e3,Gm,hr⟩:=Uu c2 Bi;obtain⟨c4,x,e4,hc4,hx⟩:=a6r c3 l r Gm hl hr;rw[aM,e2,aA,e3,aA,e4,aA];exact⟨_,_,rfl,hc4,hx⟩
theorem a97(c:cQ)(h:cz c):∃c' x,yJ c=some (c',x)/\cz c'/\Dw x:=by
 unfold yJ;obtain⟨c1,x,e,hc,hx⟩:=a0P c h;obtain⟨c2,k,e2,Bi,_,_⟩:=pZ c1 12 hc (by decide) (by decide);rw[e,aA,e2,aA];cases(k==(0:Int))with
 |true=>
  obtain⟨c3,n,e3,Gm,_⟩:=NE c2 [0,1,3,5,6, -1] Bi (by decide) (by decide);rw[aF,e3,aA];exact⟨_,_,rfl,Gm,hx⟩
 |false=>
  rw[aM];cases(k==(1:Int))with
  |true=>
   obtain⟨c3,s,e3,Gm,hs⟩:=Md c2 Bi;rw[aF,e3,aA];exact⟨_,_,rfl,Gm,hx.1,hs,hx.2.2⟩
  |false=>
   rw[aM];cases(k==(2:Int))with
   |true=>
    obtain⟨c3,p,e3,Gm,hp⟩:=a4m c2 Bi;rw[aF,e3,aA];exact⟨_,_,rfl,Gm,hp,hx.2⟩
   |false=>exact⟨_,_,rfl,Bi,hx⟩
def Vv(s:Bytes):Bool:=match qX s with
 |some (r,_)=>Rm r&&fX r
 |none=>false
def S5(r:aK):Prop:=ur 4 r/\fX r=true/\1<=r.conds.length/\1<=r.cY.length
theorem a3O(K:aH)(c:cQ)(m:Int)(h:cz c)(hm:0<m)(h0:0<K.length)(h1:K.length<=256)(hK:K.all Vv=true):
 ∃c' r,((cP c (RE m ((K.map tx).length:Int))).bind fun y1=>((fy K y1.2).bind fun x3=>((qX x3).bind fun y5=>(some (y1.1,y5.1)))))=some (c',r)/\cz c'/\S5 r:=by
 have hlen:((K.map tx).length:Int)=(K.length:Int):=by simp
 have hmin:0<RE m ((K.map tx).length:Int)/\RE m ((K.map tx).length:Int)<=(K.length:Int):=by
  unfold RE;rw[hlen];split<;>omega
 obtain⟨c1,x,e,hc,hx,hx2⟩:=pZ c _ h hmin.1 (by omega);have hlt:x.toNat<K.length:=by omega
 have e2:fy K x=some K[x.toNat]:=by unfold fy;rw[av hx,aF];exact af hlt
 have hk:=aj.1 hK _ (iO hlt);unfold Vv at hk;rw[e,aA,e2,aA];cases hp:qX K[x.toNat]with
 |none=>rw[hp]at hk;cases hk
 |some p=>
  rw[hp]at hk;simp only[aR]at hk;obtain⟨q1,q2,q3⟩:=Xe hk.1;exact⟨_,_,rfl,hc,q1,hk.2,q2,q3⟩
theorem a0Z(c:cQ)(m:Int)(h:cz c)(hm:0<m):∃c' r,ot c m=some (c',r)/\cz c'/\S5 r:=by
 unfold ot;refine a3O _ c m h hm ?_ ?_ ?_
 ·decide
 ·decide
 ·kernel_rfl
theorem a3Q(y1:cQ×Int):∀(m:Nat) (fu:Nat) (v:Int) (c:cQ) (w:ar),v=(m:Int)->m<fu->m<=50->w.length+m<=100->cz c->(∀x∈w,Dw x)->
 ∃c' w',(∀k,jJ y1 k fu v c.b c.i c.h w=k c'.b c'.i c'.h w')/\cz c'/\w'.length=w.length+m/\∀x∈w',Dw x:=by
 intro m
 induction m with
 |zero=>
  intro fu v c w hv hf hm hn hc hw;cases fu with
  |zero=>omega
  |succ fu=>
   have e:decide (v>0)=false:=by simp;omega
   exact⟨c,w,fun k=>by rw[jJ,e,aM],hc,rfl,hw⟩
 |succ m ih=>
  intro fu v c w hv hf hm hn hc hw;cases fu with
  |zero=>omega
  |succ fu=>
   have e:decide (v>0)=true:=by simp;omega
   obtain⟨c1,x,e2,hc1,hx⟩:=a0P c hc;have U4:sM (⟨c.b,c.i,c.h⟩:cQ)=some (c1,x):=e2;have e3:IntKind.i64.wrap (v-1)=v-1:=dY (qQ.i64.2 (by omega));obtain⟨c',w',q1,q2,q3,q4⟩:=ih fu (v-1) c1 (w++[x]) (by omega) (by omega) (by omega) (by simp;omega) hc1 (fun y hy=>by
    rcases aZ.1 hy with h|h
    ·exact hw y h
    ·simp at h;subst h;exact hx)
   exact⟨c',w',fun k=>by rw[jJ,e,aF,U4,aA,gB (by omega) (by decide),aF,e3];exact q1 k,q2,by simp at q3;omega,q4⟩
theorem a3R(y1:cQ×Int)(q:ar)(y:aH)(xC:cQ×aC):∀(m:Nat) (fu:Nat) (v:Nat) (c:cQ) (w:aH),w.length=v+m->m<fu->w.length<=100->cz c->(∀x∈w,x.length<=16)->
 ∃c' w',(∀k,dU y1 q y xC k fu (v:Int) c.b c.i c.h w=k c'.b c'.i c'.h w')/\cz c'/\w'.length=w.length/\∀x∈w',x.length<=16:=by
 intro m
 induction m with
 |zero=>
  intro fu v c w hv hf hm hc hw;cases fu with
  |zero=>omega
  |succ fu=>
   have e:decide ((v:Int)<((w.map tx).length:Int))=false:=by simp;omega
   exact⟨c,w,fun k=>by rw[dU,e,aM],hc,rfl,hw⟩
 |succ m ih=>
  intro fu v c w hv hf hm hc hw;cases fu with
  |zero=>omega
  |succ fu=>
   have e:decide ((v:Int)<((w.map tx).length:Int))=true:=by simp;omega
   have hlt:v<w.length:=by omega
   have e1:fy w (v:Int)=some w[v]:=by unfold fy;rw[av (by omega),aF];exact af hlt
   have hx:=hw w[v] (iO hlt);have e4:IntKind.i64.wrap ((v:Int)+1)=((v+1:Nat):Int):=by rw[dY (qQ.i64.2 (by omega))];rfl
   have st:∀k,dU y1 q y xC k (fu+1) (v:Int) c.b c.i c.h w=(bif fQ w[v]then(bif !(y.contains w[v])then((iR (⟨c.b,c.i,c.h⟩:cQ)).bind fun y83=>dU y1 q y xC k fu ((v+1:Nat):Int) y83.1.b y83.1.i y83.1.h (w.set (v:Int).toNat y83.2))else dU y1 q y xC k fu ((v+1:Nat):Int) c.b c.i c.h w)else dU y1 q y xC k fu ((v+1:Nat):Int) c.b c.i c.h w):=by
    intro k;rw[dU,e,aF,e1,aA,Rj w[v] (by omega),aA,e4,Xa,aA]
   obtain⟨c0,w0,p1,p2,p3,p4⟩:=ih fu (v+1) c w (by omega) (by omega) hm hc hw;cases hv1:fQ w[v]with
   |false=>exact⟨c0,w0,fun k=>by rw[st k,hv1,aM];exact p1 k,p2,p3,p4⟩
   |true=>
    cases Ik:y.contains w[v]with
    |true=>exact⟨c0,w0,fun k=>by rw[st k,hv1,Ik,aF,bN,aM];exact p1 k,p2,p3,p4⟩
    |false=>
     obtain⟨c1,s,e2,hc1,hs⟩:=Ul c hc;have U4:iR (⟨c.b,c.i,c.h⟩:cQ)=some (c1,s):=e2;obtain⟨c',w',q1,q2,q3,q4⟩:=ih fu (v+1) c1 (w.set (v:Int).toNat s) (by simp;omega) (by omega) (by simpa using hm) hc1 (fun x UQ=>by
      rcases qx UQ with h|h
      ·exact hw x h
      ·subst h;exact hs)
     exact⟨c',w',fun k=>by rw[st k,hv1,Ik,aF,bz,aF,U4,aA];exact q1 k,q2,by simpa using q3,q4⟩
theorem a9Q(c:cQ)(h:cz c):∃c' r,uX c=some (c',r)/\cz c'/\S5 r:=by
 unfold uX;obtain⟨c1,n,e1,hc1,_,_⟩:=pZ c 4 h (by decide) (by decide);obtain⟨c2,p,e2,Bi,hp⟩:=Rf c1 hc1;obtain⟨c3,m,e3,Gm,hm,hm2⟩:=pZ c2 3 Bi (by decide) (by decide);rw[e1,aA,e2,aA,e3,aA];have hp4:kU 4 p:=⟨hp.1,by have:=hp.2.1;omega,hp.2.2⟩
 obtain⟨c4,cs,q1,hc4,a5d,hsm⟩:=a3Q (c1,n) m.toNat fuel m c3 [(⟨1,p,[],[]⟩:aP)] (by omega) (by unfold fuel;omega) (by omega) (by simp;omega) Gm (fun x hx=>by
  simp at hx;subst hx;exact⟨hp4,by simp,by simp⟩)
 have hcs:1<=cs.length/\cs.length<=3:=by simp at a5d;omega
 rw[q1];dsimp only;have hw0:(⟨[114],n,cs,[]⟩:aK).wt<=1048576:=ur.wt (n:=4) ⟨by simp,⟨by show cs.length<=4;omega,hsm⟩,by simp,by simp⟩ (by decide);obtain⟨c5,q,e5,hc5,hq⟩:=Rf c4 hc4;have e5':jT (⟨c4.b,c4.i,c4.h⟩:cQ)=some (c5,q):=e5;rw[Um (⟨[114],n,cs,[]⟩:aK) _ hw0,aA,e5',aA];dsimp only;obtain⟨c6,qa,r1,hc6,r3,r4⟩:=a3R (c1,n) cs (fD (BG (⟨[114],n,cs,[]⟩:aK) ((cs.map aP.c).length:Int))) (c5,q) q.args.length fuel 0 c5 q.args (by simp) (by have:=hq.2.1;unfold fuel;omega) (by have:=hq.2.1;omega) hc5 hq.2.2;have r1':=r1;rw[show((0:Nat):Int)=0 from rfl]at r1';rw[r1'];obtain⟨c7,k,e7,hc7,_⟩:=NE c6 [1,1,2] hc6 (by decide) (by decide);have e7':iH (⟨c6.b,c6.i,c6.h⟩:cQ) [1,1,2]=some (c7,k):=e7;obtain⟨c8,b,e8,hc8⟩:=QK c7 6 hc7 (by decide) (by decide);have a0J:∀n,n<=4->room n 48=true:=fun n hn=>Ek (by omega) (by decide)
 rw[e7',aA];dsimp only;rw[a0J _ (by simp),aF,e8,aA];have hq4:kU 4 (⟨q.rel,qa⟩:aC):=⟨hq.1,by show qa.length<=4;have:=hq.2.1;omega,r4⟩
 have fin:∀(al:eW),1<=al.length->al.length<=2->(∀a∈al,Qm a)->∃c' r,((mS (⟨[114],n,cs,al⟩:aK)).bind fun y92=>(bif !(y92)then((ot c8 99).bind fun y95=>(some (y95.1,y95.2)))else(some (c8,(⟨[114],n,cs,al⟩:aK)))))=some (c',r)/\cz c'/\S5 r:=by
  intro al ha1 ha2 ha;have hsr:ur 4 (⟨[114],n,cs,al⟩:aK):=⟨by simp,⟨by show cs.length<=4;omega,hsm⟩,by show al.length<=4;omega,ha⟩
  rw[a0e _ (hsr.wt (by decide)),aA];cases hr:fX (⟨[114],n,cs,al⟩:aK)with
  |true=>exact⟨_,_,rfl,hc8,hsr,hr,hcs.1,ha1⟩
  |false=>
   obtain⟨c9,r,e9,hc9,hr9⟩:=a0Z c8 99 hc8 (by decide);rw[bz,aF,e9,aA];exact⟨_,_,rfl,hc9,hr9⟩
 cases b with
 |true=>
  dsimp only;rw[aF,a0J _ (by simp),aF];exact fin _ (by simp) (by simp) (fun a ha=>by
   simp at ha;rcases ha with rfl|rfl
   ·exact hq4
   ·exact⟨by simp,by simp,by simp⟩)
 |false=>
  dsimp only;rw[aM];exact fin _ (by simp) (by simp) (fun a ha=>by
   simp at ha;subst ha;exact hq4)
theorem a0Q(c:cQ)(h:cz c):∃c' r,mU c=some (c',r)/\cz c'/\S5 r:=by
 unfold mU;obtain⟨c1,b,e,hc⟩:=QK c 3 h (by decide) (by decide);rw[e,aA];cases b with
 |true=>
  obtain⟨c2,r,e2,Bi,hr⟩:=a9Q c1 hc;rw[aF,e2,aA];exact⟨_,_,rfl,Bi,hr⟩
 |false=>
  obtain⟨c2,r,e2,Bi,hr⟩:=a0Z c1 99 hc (by decide);rw[aM,e2,aA];exact⟨_,_,rfl,Bi,hr⟩
theorem ur.le{n m:Nat}{r:aK}(h:ur n r)(hm:n<=m):ur m r:=⟨h.1,⟨by have:=h.2.1.1;omega,h.2.1.2⟩,by have:=h.2.2.1;omega,h.2.2.2⟩
theorem a98(c:cQ)(h:cz c):∃c' r,yK c=some (c',r)/\cz c'/\ur 5 r:=by
 unfold yK;obtain⟨c1,r,e,hc,hg,_,g1,g2⟩:=a0Q c h;obtain⟨c2,x,e2,Bi,_,_⟩:=pZ c1 14 hc (by decide) (by decide);have hr:=hg.le (m:=5) (by decide);have hl1:=hg.2.1.1;have DT:=hg.2.2.1;rw[e,aA,e2,aA];cases(x==(0:Int))with
 |true=>
  obtain⟨c3,s,e3,Gm,hs⟩:=Md c2 Bi;rw[aF,e3,aA];exact⟨_,_,rfl,Gm,hs,hr.2⟩
 |false=>
  rw[aM];cases(x==(1:Int))with
  |true=>
   obtain⟨c3,s,e3,Gm,_⟩:=NE c2 [-1,0,9,10] Bi (by decide) (by decide);rw[aF,e3,aA];exact⟨_,_,rfl,Gm,hr⟩
  |false=>
   rw[aM];cases(x==(2:Int))with
   |true=>
    obtain⟨c3,k,e3,Gm,hk⟩:=a97 c2 Bi;rw[aF,e3,aA,gB (by show r.conds.length<_;omega) (by decide),aF];refine⟨_,_,rfl,Gm,hr.1,⟨by simp;omega,fun y hy=>?_⟩,hr.2.2⟩;rcases aZ.1 hy with h|h
    ·exact hr.2.1.2 y h
    ·simp at h;subst h;exact hk
   |false=>
    rw[aM];cases(x==(3:Int))with
    |true=>
     obtain⟨c3,k,e3,Gm,_⟩:=NE c2 [0,1,2,3,4] Bi (by decide) (by decide);obtain⟨c4,p,e4,hc4,hp⟩:=a4m c3 Gm;rw[aF,e3,aA,e4,aA,gB (by show r.cY.length<_;omega) (by decide),aF];refine⟨_,_,rfl,hc4,hr.1,hr.2.1,by simp;omega,fun y hy=>?_⟩;rcases aZ.1 hy with h|h
     ·exact hr.2.2.2 y h
     ·simp at h;subst h;exact hp
    |false=>
     rw[aM];cases(x==(4:Int))with
     |true=>
      rw[aF,WA (by simpa using g1),aA];exact⟨_,_,rfl,Bi,hr.1,⟨by rw[lP,cE];show min _ r.conds.length-1<=5;omega,fun y hy=>hr.2.1.2 y (bn (eE hy))⟩,hr.2.2⟩
     |false=>
      rw[aM];cases(x==(5:Int))with
      |true=>
       rw[aF,WA (by simpa using g2),aA];exact⟨_,_,rfl,Bi,hr.1,hr.2.1,by rw[lP,cE];show min _ r.cY.length-1<=5;omega,fun y hy=>hr.2.2.2 y (bn (eE hy))⟩
      |false=>
       rw[aM];cases(x==(6:Int))with
       |true=>
        obtain⟨c3,s,e3,Gm,hs⟩:=Xb c2 [[63,102],[63,97],[63,103]] Bi (by decide) (by decide);obtain⟨c4,k,e4,hc4,_⟩:=NE c3 [1,2] Gm (by decide) (by decide);obtain⟨c5,t,e5,hc5,ht⟩:=Xb c4 [[63,102],[63,120]] hc4 (by decide) (by decide);have hs2:s.length<=16:=by
         have:∀s∈([[63,102],[63,97],[63,103]]:aH),s.length<=16:=by decide
         exact this s hs
        have ht2:t.length<=16:=by
         have:∀s∈([[63,102],[63,120]]:aH),s.length<=16:=by decide
         exact this t ht
        rw[aF,e3,aA,e4,aA,e5,aA];refine⟨_,_,rfl,hc5,hr.1,⟨by simp,fun y hy=>?_⟩,by simp,fun y hy=>?_⟩
        ·simp at hy;rcases hy with rfl|rfl|rfl
         ·exact⟨⟨by simp,by simp,by simp⟩,by simp,by simp⟩
         ·exact⟨⟨by simp,by simp,by simpa using hs2⟩,by simp,by simp⟩
         ·exact⟨⟨by simp,by simp,by simpa using ht2⟩,by simp,by simp⟩
        ·simp at hy;subst hy;exact⟨by simp,by simp,by simp⟩
       |false=>exact⟨_,_,rfl,Bi,hr⟩
theorem CR.wt{n:Nat}{l:aI}(h:CR n l)(hn:n<=1000):qw aC.wt l<=1048576:=by
 have c1:=As (w:=aC.wt) (B:=200) l (fun x hx=>by
  have:=kU.wt4 (h.2 x hx);unfold aC.wt;unfold tw at*;omega)
 have d1:(200+1)*l.length<=201*1000:=dJ _ (by have:=h.1;omega);omega
theorem a6X(c:cQ)(h:cz c):∃c' s,iR c=some (c',s)/\cz c'/\fH s=true:=by
 unfold iR;obtain⟨c',s,e,hc,hs⟩:=Xb c ([[97],[98],[99],[49],[50]]:aH) h (by decide) (by decide);rw[e,aA];have:∀s∈([[97],[98],[99],[49],[50]]:aH),fH s=true:=by decide
 exact⟨_,_,rfl,hc,this s hs⟩
theorem a9T(c:cQ)(h:cz c):∃c' r n,oY c=some (c',(r,n))/\cz c'/\yP r=true/\r.length<=2/\0<=n/\n<=2:=by
 unfold oY;obtain⟨c1,x,e,hc,hx,hx2⟩:=pZ c 6 h (by decide) (by decide);rw[e,aA];have key:x=0\/x=1\/x=2\/x=3\/x=4\/x=5:=by omega
 rcases key with rfl|rfl|rfl|rfl|rfl|rfl<;>exact⟨c1,_,_,rfl,hc,by decide,by decide,by decide,by decide⟩
theorem a0S(y:cQ×(Bytes×Int))(k:bH->Int->Int->aH->Option (cQ×aC)):∀(m:Nat) (fu:Nat) (v:Int) (c:cQ) (w:aH),y.2.2-v=(m:Int)->m<fu->0<=v->y.2.2<=100->w.length+m<=1000->cz c->(∀x∈w,fH x=true)->
 ∃c' w',gZ y k fu v c.b c.i c.h w=k c'.b c'.i c'.h w'/\cz c'/\w'.length<=w.length+m/\∀x∈w',fH x=true:=by
 intro m
 induction m with
 |zero=>
  intro fu v c w hv hf h0 hy hw hc hx;cases fu with
  |zero=>omega
  |succ fu=>
   have e:decide (v<y.2.2)=false:=by simp;omega
   rw[gZ,e,aM];exact⟨c,w,rfl,hc,by omega,hx⟩
 |succ m ih=>
  intro fu v c w hv hf h0 hy hw hc hx;cases fu with
  |zero=>omega
  |succ fu=>
   have e:decide (v<y.2.2)=true:=by simp;omega
   obtain⟨c1,s,e2,hc1,hs⟩:=a6X c hc;have U4:iR (⟨c.b,c.i,c.h⟩:cQ)=some (c1,s):=e2;have e3:IntKind.i64.wrap (v+1)=v+1:=dY (qQ.i64.2 (by omega));rw[gZ,e,aF,U4,aA,gB (by omega) (by decide),aF,e3];obtain⟨c',w',q1,q2,q3,q4⟩:=ih fu (v+1) c1 (w++[s]) (by omega) (by omega) (by omega) hy (by simp;omega) hc1 (fun x UQ=>by
    rcases aZ.1 UQ with h|h
    ·exact hx x h
    ·simp at h;subst h;exact hs)
   exact⟨c',w',q1,q2,by simp at q3;omega,q4⟩
theorem a3J(c:cQ)(h:cz c):∃c' p,ew c=some (c',p)/\cz c'/\oT p=true/\p.rel.length<=2:=by
 unfold ew;obtain⟨c1,r,n,e,hc,hr,hr2,hn,hn2⟩:=a9T c h;rw[e,aA];obtain⟨c',w',q1,q2,q3,q4⟩:=a0S (c1,(r,n)) (fun a b d q=>some ((⟨a,b,d⟩:cQ),(⟨r,q⟩:aC))) n.toNat fuel 0 c1 [] (by simp;omega) (by unfold fuel;omega) (by omega) (by simp;omega) (by simp;omega) hc (by simp);refine⟨_,_,q1,q2,?_,hr2⟩;unfold oT;simp only[aR,bC,aj];exact⟨q4,hr,by simp at q3;omega⟩
theorem a4u(a:aI)(f:aC)(K:Bool->aI->Option aI):∀(rest:aI) (i:Nat) (w:aI),(∀x∈rest,x.args.length<=1048576)->w.length+rest.length<=1048576->cm a f K rest i true w=K true (w++rest)
 | [],i,w,_,_=>by simp[cm]
 |x::xs,i,w,hs,hl=>by
  simp only[aS]at hl;rw[cm,bN,aM,zC x (by have:=hs x (by simp);omega),aA,gB (w:=w) (c:=aC.c) (y:=[D.str x.rel,D.sl (x.args.map tx)]) (b:=40) (by omega) (by decide),aF,a4u a f K xs (i+1) (w++[x]) (fun y hy=>hs y (by simp[hy])) (by simp;omega)];simp
theorem a4t(a:aI)(f:aC)(K:Bool->aI->Option aI):∀(rest:aI) (p:Option aC) (i:Nat) (w:aI),(∀x∈rest,x.args.length<=1048576)->w.length+rest.length<=1048576->chainB p rest=true->f∈rest->cm a f K rest i false w=K true (w++rest)
 | [],_,_,_,_,_,_,h=>by cases h
 |x::xs,p,i,w,hs,hl,hc,hm=>by
  simp only[aS]at hl;obtain⟨_,_,h3⟩:=tX hc;have cx:=zC x (by have:=hs x (by simp);omega);have rx:=gB (w:=w) (c:=aC.c) (y:=[D.str x.rel,D.sl (x.args.map tx)]) (b:=40) (by omega) (by decide);rw[cm,bz,aF,TS,aA];by_cases e:x=f
  ·rw[e,Py,<-e];rw[av (by omega:(0:Int)>=0),aF,aA,bB (by omega:¬(0:Int)>0),aM,cx,aA,rx,aF,a4u a x K xs (i+1) (w++[x]) (fun y hy=>hs y (by simp[hy])) (by simp;omega)];simp
  ·have hxs:f∈xs:=by
    rcases bJ.1 hm with q|q
    ·exact absurd q.symm e
    ·exact q
   have hlt:=yt h3 f hxs;rw[bB (by omega),aM,cx,aA,rx,aF,a4t a f K xs (some x) (i+1) (w++[x]) (fun y hy=>hs y (by simp[hy])) (by simp;omega) h3 hxs];simp
theorem a9P{l:aI}{f:aC}(hl:eb l=true)(hf:oT f=true)(hn:l.length<24):∃l',kn l f=some l'/\eb l'=true/\l'.length<=l.length+1/\∀x∈l',x∈l\/x=f:=by
 have hargs:∀x∈l,x.args.length<=1048576:=fun x hx=>aC.dM (by have:=Ky (BF hl x hx);omega)
 by_cases hm:f∈l
 ·refine⟨l,?_,hl,by omega,fun x hx=>.inl hx⟩;have hc:chainB none l=true:=by
   unfold eb at hl;rw[aR]at hl;exact hl.1
  unfold kn;rw[a4t l f _ l none 0 [] hargs (by simp;omega) hc hm];rfl
 ·refine⟨vD f l,a4s l f (by have:=aC.dM (n:=1048576) (by have:=Ky hf;omega:f.wt<=1048576);omega) (fun x hx=>by have:=hargs x hx;omega) (by omega) hm,Nd hf hl hm (by omega),by rw[L6];omega,fun x hx=>?_⟩;rcases(Gr f l x).1 hx with h|h
  ·exact .inr h
  ·exact .inl h
theorem a6p(k:bH->Int->Int->aI->Option (cQ×aI)):∀(m:Nat) (fu:Nat) (v:Int) (c:cQ) (w:aI),v=(m:Int)->m<fu->w.length+m<=20->cz c->eb w=true->(∀x∈w,x.rel.length<=2)->
 ∃c' w',iM k fu v c.b c.i c.h w=k c'.b c'.i c'.h w'/\cz c'/\eb w'=true/\w'.length<=w.length+m/\∀x∈w',x.rel.length<=2:=by
 intro m
 induction m with
 |zero=>
  intro fu v c w hv hf hm hc hw hr;cases fu with
  |zero=>omega
  |succ fu=>
   have e:decide (v>0)=false:=by simp;omega
   rw[iM,e,aM];exact⟨c,w,rfl,hc,hw,by omega,hr⟩
 |succ m ih=>
  intro fu v c w hv hf hm hc hw hr;cases fu with
  |zero=>omega
  |succ fu=>
   have e:decide (v>0)=true:=by simp;omega
   obtain⟨c1,f,e2,hc1,hf1,Yv⟩:=a3J c hc;have U4:ew (⟨c.b,c.i,c.h⟩:cQ)=some (c1,f):=e2;obtain⟨w1,e4,hw1,hl1,hm1⟩:=a9P hw hf1 (by omega);have e3:IntKind.i64.wrap (v-1)=v-1:=dY (qQ.i64.2 (by omega));rw[iM,e,aF,U4,aA,e4,aA,e3];obtain⟨c',w',q1,q2,q3,q4,q5⟩:=ih fu (v-1) c1 w1 (by omega) (by omega) (by omega) hc1 hw1 (fun x hx=>by
    rcases hm1 x hx with h|h
    ·exact hr x h
    ·rw[h];exact Yv)
   exact⟨c',w',q1,q2,q3,by omega,q5⟩
theorem a9Y(c:cQ)(n:Int)(h:cz c)(h0:0<=n)(hn:n<=19):∃c' l,qD c n=some (c',l)/\cz c'/\eb l=true/\(l.length:Int)<=n/\∀x∈l,x.rel.length<=2:=by
 unfold qD;have e3:IntKind.i64.wrap (n+1)=n+1:=dY (qQ.i64.2 (by omega));obtain⟨c1,x,e,hc,hx,hx2⟩:=pZ c (n+1) h (by omega) (by omega);rw[e3,e,aA];obtain⟨c',w',q1,q2,q3,q4,q5⟩:=a6p (fun a b d q=>some ((⟨a,b,d⟩:cQ),q)) x.toNat fuel x c1 [] (by omega) (by unfold fuel;omega) (by simp;omega) hc rfl (by simp);exact⟨_,_,q1,q2,q3,by simp at q4;omega,q5⟩
theorem Mp(r:aK)(n:Bytes):∀(cs:ar) (i:Nat),th ⟨n,r.prio,r.conds,r.cY⟩ cs i=th r cs i
 | [],_=>rfl
 |c::cs,i=>by
  rw[th,th,Mp r n cs (i+1)];rfl
theorem Uk{r:aK}{n:Bytes}(h:fX r=true)(hn:yP n=true):fX ⟨n,r.prio,r.conds,r.cY⟩=true:=by
 unfold fX at h⊢;dsimp only;rw[Mp];simp only[aR]at h⊢;exact⟨⟨⟨⟨hn,h.1.1.1.2⟩,h.1.1.2⟩,h.1.2⟩,h.2.1,h.2.2.1,h.2.2.2⟩
theorem Sa:∀ {l:aq} {k i:Nat} {r:aK},(l.map aK.name).Nodup->l[i]?=some r->DR r.name l k=((k+i:Nat):Int)
 | [],_,_,_,_,h=>by simp at h
 |x::xs,k,i,r,hn,h=>by
  rw[au,fZ]at hn;cases i with
  |zero=>
   simp at h;subst h;rw[DR];simp
  |succ i=>
   have hx:xs[i]?=some r:=by simpa using h
   have hne:¬x.name=r.name:=fun e=>hn.1 (by rw[e];exact bt.2 ⟨r,aE hx,rfl⟩)
   rw[DR,show(x.name==r.name)=false from cw.2 hne,aM,Sa hn.2 hx]
   congr 1;omega
theorem VK{all:aq}(hn:(all.map aK.name).Nodup):∀(l:aq) (i:Nat),(∀r∈l,fX r=true)->(∀(j:Nat) r,l[j]?=some r->all[i+j]?=some r)->NK all l i=true
 | [],_,_,_=>rfl
 |r::l,i,hv,ha=>by
  have h0:=Sa (k:=0) hn (ha 0 r rfl);rw[NK,hv r (by simp),av (by rw[h0];congr 1;omega),VK hn l (i+1) (fun x hx=>hv x (by simp[hx])) (fun j x hx=>by rw[show i+1+j=i+(j+1)by omega];exact ha (j+1) x (by simpa using hx))];rfl
theorem a1w{l:aq}(hn:(l.map aK.name).Nodup)(hv:∀r∈l,fX r=true)(h6:l.length<=6):rK l=true:=by
 unfold rK;rw[VK hn l 0 hv (fun j r hj=>by rw[cS];exact hj)];simp;omega
def rnm(m:Nat):Bytes:=[114,UInt8.ofNat (48+m)]
theorem a6S:∀m,m<=7->yP (rnm m)=true/\∀j,j<=7->rnm m=rnm j->m=j:=by decide
theorem a0I{m:Nat}(h:m<=7):([114]:Bytes)++Lib.itoa (m:Int)=rnm m:=by
 have:Lib.itoa (m:Int)=Lib.decDigits m:=by unfold Lib.itoa;rw[b9 (by omega)];rfl
 rw[this,Nh (by omega)];unfold Wp rnm;rw[bL (by omega)];rfl
theorem a6o(k:bH->Int->Int->aq->Option (cQ×aq))(P:aK->Prop)(hP:∀c c' r,cz c->mU c=some (c',r)->P r):∀(m:Nat) (fu:Nat) (v:Int) (c:cQ) (w:aq),v=(m:Int)->m<fu->w.length+m<=6->cz c->(∀r∈w,fX r=true/\ur 4 r/\∃r0,P r0/\r.conds=r0.conds)->(w.map aK.name).Nodup->(∀r∈w,∃j,m<j/\j<=7/\r.name=rnm j)->
 ∃c' w',nY k fu v c.b c.i c.h w=k c'.b c'.i c'.h w'/\cz c'/\w'.length<=w.length+m/\(∀r∈w',fX r=true/\ur 4 r/\∃r0,P r0/\r.conds=r0.conds)/\(w'.map aK.name).Nodup:=by
 intro m
 induction m with
 |zero=>
  intro fu v c w hv hf hm hc hw hn hj;cases fu with
  |zero=>omega
  |succ fu=>
   have e:decide (v>0)=false:=by simp;omega
   rw[nY,e,aM];exact⟨c,w,rfl,hc,by omega,hw,hn⟩
 |succ m ih=>
  intro fu v c w hv hf hm hc hw hn hj;cases fu with
  |zero=>omega
  |succ fu=>
   have e:decide (v>0)=true:=by simp;omega
   obtain⟨c1,r,e2,hc1,hr⟩:=a0Q c hc;have U4:mU (⟨c.b,c.i,c.h⟩:cQ)=some (c1,r):=e2;have e3:IntKind.i64.wrap (v-1)=v-1:=dY (qQ.i64.2 (by omega));have e5:=a3N v (qQ.i64.2 (by omega));have e6:([114]:Bytes)++Lib.itoa v=rnm (m+1):=by rw[hv];exact a0I (by omega)
   have e7:decide (([114]:Bytes).length+(Lib.itoa v).length<=maxLen)=true:=by
    have:=congrArg List.length e6;rw[ax]at this;rw[this];rfl
   have hnm:=a6S (m+1) (by omega);rw[nY,e,aF,U4,aA,e5,aA,e7,aF,gB (by omega) (by decide),aF,e3,e6];have a88:=Uk hr.2.1 hnm.1;obtain⟨c',w',q1,q2,q3,q4,q5⟩:=ih fu (v-1) c1 (w++[⟨rnm (m+1),r.prio,r.conds,r.cY⟩]) (by omega) (by omega) (by simp;omega) hc1 (fun x hx=>by
    rcases aZ.1 hx with h|h
    ·exact hw x h
    ·rw[cG.1 h];exact⟨a88,⟨by show(rnm (m+1)).length<=16;unfold rnm;simp,hr.1.2⟩,r,hP c c1 r hc e2,rfl⟩) (by
    rw[bD,bW];refine⟨hn,by simp,fun a ha b hb e=>?_⟩;simp at hb;obtain⟨x,hx,rfl⟩:=bt.1 ha;obtain⟨j,j1,j2,j3⟩:=hj x hx;have:=hnm.2 j j2 (by rw[<-j3,e,hb]);omega) (fun x hx=>by
    rcases aZ.1 hx with h|h
    ·obtain⟨j,j1,j2,j3⟩:=hj x h;exact⟨j,by omega,j2,j3⟩
    ·rw[cG.1 h];exact⟨m+1,by omega,by omega,rfl⟩)
   exact⟨c',w',q1,q2,by simp at q3;omega,q4,q5⟩
theorem ur.wt4{r:aK}(h:ur 4 r):r.wt<=10000:=by
 obtain⟨h1,⟨h2,h3⟩,h4,h5⟩:=h;have c1:=As (w:=aP.wt) (B:=200) r.conds (fun x hx=>(h3 x hx).wt);have c2:=As (w:=Action.wt) (B:=200) r.cY (fun x hx=>(h5 x hx).wt);have d1:(200+1)*r.conds.length<=201*4:=dJ _ (by omega);have d2:(200+1)*r.cY.length<=201*4:=dJ _ (by omega);unfold aK.wt;unfold tw at*;omega
theorem a9V(P:aK->Prop)(hP:∀c c' r,cz c->mU c=some (c',r)->P r)(c:cQ)(n:Int)(h:cz c)(h0:0<=n)(hn:n<=6):∃c' l,yL c n=some (c',l)/\cz c'/\rK l=true/\qw aK.wt l<=100000/\∀r∈l,∃r0,P r0/\r.conds=r0.conds:=by
 unfold yL;have e3:IntKind.i64.wrap (n+1)=n+1:=dY (qQ.i64.2 (by omega));obtain⟨c1,x,e,hc,hx,hx2⟩:=pZ c (n+1) h (by omega) (by omega);rw[e3,e,aA];obtain⟨c',w',q1,q2,q3,q4,q5⟩:=a6o (fun a b d q=>some ((⟨a,b,d⟩:cQ),q)) P hP x.toNat fuel x c1 [] (by omega) (by unfold fuel;omega) (by simp;omega) hc (by simp) (by simp) (by simp);have h6:w'.length<=6:=by simp at q3;omega
 refine⟨_,_,q1,q2,a1w q5 (fun r hr=>(q4 r hr).1) h6,?_,fun r hr=>(q4 r hr).2.2⟩;have h1:=As (w:=aK.wt) (B:=10000) w' (fun r hr=>ur.wt4 (q4 r hr).2.1);have:(10000+1)*w'.length<=(10000+1)*6:=dJ _ h6;omega
theorem a0W(n:aG)(fs y:aI)(K:bK->Option aG)(Qx:FS fs)(A:bK)(hA:∀a∈A,a.shape.wt<=1048576)(hl:A.length<=1048576):∀(rest pre:bK) (fu:Nat),A=pre++rest->rest.length<fu->
 mG n fs y K fu (pre.length:Int) (gA pre fs++rest)=K (gA A fs)
 | [],pre,fu,e,hu=>by
  obtain⟨fu,rfl⟩:∃m,fu=m+1:=⟨fu-1,by simp at hu;omega⟩
  rw[dD]at e;rw[mG,dD,ah,xa,bB (by omega),aM,e]
 |x::rest,pre,fu,e,hu=>by
  obtain⟨fu,rfl⟩:∃m,fu=m+1:=⟨fu-1,by simp at hu;omega⟩
  simp only[aS]at hu;have hlen:A.length=pre.length+(rest.length+1):=by rw[e];simp
  have hx:=hA x (by rw[e];simp);have ih:=a0W n fs y K Qx A hA hl rest (pre++[x]) fu (by rw[e];simp) (by omega);have Mt:fy (gA pre fs++x::rest) (pre.length:Int)=some x:=by
   have:=x7 (a:=gA pre fs++x::rest) (pre:=gA pre fs) (xs:=rest) (x:=x) rfl;rw[xa]at this;exact this
  have sR:(gA pre fs++x::rest).set (pre.length:Int).toNat ⟨x.shape,qt x.shape [] fs⟩=gA (pre++[x]) fs++rest:=by
   have:=setAt (gA pre fs) rest x ⟨x.shape,qt x.shape [] fs⟩;rw[xa]at this;rw[kH,this,OI,cy];rfl
  rw[mG,ah,ax,xa,aS,av (by omega),aF,Mt,aA,a3M x.shape [] fs hx PB.nil Qx,aA,En (by omega),sR];rw[ax,dO]at ih;exact ih
theorem a0X(n:aG)(fs y:aI)(q:bK)(K:bI->Option aG)(hf:FS fs)(h24:fs.length<=24)(ns:bI)(hp:CB ns):∀(rest pre:bI) (fu:Nat),(pre++rest).map qv=ns.map qv->rest.length<fu->
 jl n fs y q K fu (pre.length:Int) (pre++rest)=K (pre++ou ns fs rest pre.length)
 | [],pre,fu,he,hu=>by
  obtain⟨fu,rfl⟩:∃m,fu=m+1:=⟨fu-1,by simp at hu;omega⟩
  rw[jl,dD,ah,bB (by omega),aM,ou,dD]
 |x::rest,pre,fu,he,hu=>by
  obtain⟨fu,rfl⟩:∃m,fu=m+1:=⟨fu-1,by simp at hu;omega⟩
  simp only[aS]at hu;have hlen:(pre++x::rest).length=ns.length:=by have:=congrArg List.length he;simpa using this
  have hlt:=hp.len;have hok:NOk ⟨n.rules,n.ends,q,pre++x::rest,y,n.br⟩:=by
   refine⟨by show(pre++x::rest).length<=1048576;rw[hlen];exact hp.len,fun z hz=>?_⟩;have hm:qv z∈ns.map qv:=by rw[<-he];exact bt.2 ⟨z,hz,rfl⟩
   obtain⟨w,hw,e⟩:=bt.1 hm;have:w.cond=z.cond:=(kI e).2;rw[<-this];exact hp.wt w hw
  have Z9:eF (pre++x::rest) ((pre.length:Nat):Int)=eF ns (dB pre.length):=ve he _;have Sg:∀c∈eF ns (dB pre.length),c.wt<=1048576:=by
   intro c hc;obtain⟨z,hz,e⟩:=LO hc;rw[<-e];exact hp.wt z hz
  have Mt:fy (pre++x::rest) (pre.length:Int)=some x:=x7 rfl;have ih:=a0X n fs y q K hf h24 ns hp rest (pre++[⟨x.parent,x.cond,x.cM,qh (eF ns (dB pre.length)) fs⟩]) fu (by rw[<-he];simp[qv]) (by omega);rw[ax,aS]at hlen;rw[jl,ah,ax,aS,av (by omega),aF,a0d _ _ hok,aA];show((nZ (eF (pre++x::rest) (pre.length:Int)) fs).bind _)=_;rw[Z9,a0p _ fs Sg (hp.path _) hf h24,aA,Mt,aA,En (by omega),kH,setAt];rw[ax,dO,cy]at ih;rw[show pre++(⟨x.parent,x.cond,x.cM,qh (eF ns (dB pre.length)) fs⟩:Node)::rest=pre++([⟨x.parent,x.cond,x.cM,qh (eF ns (dB pre.length)) fs⟩]++rest)from rfl,ih,ou];simp
theorem a6b(n:aG)(fs:aI)(hf:FS fs)(h24:fs.length<=24)(ha:n.az.length<=1048576)(hs:∀x∈n.az,x.shape.wt<=1048576)(hp:CB n.nodes):uk n fs=some ⟨n.rules,n.ends,gA n.az fs,fA n.nodes fs,fs,n.br⟩:=by
 have hl:=hp.len;unfold uk;rw[zo fs hf.1 (fun f Yv=>by have:=aC.dM (hf.2 f Yv);omega),aA];have e1:=a0W n fs fs (fun(kp:bK)=>(jl n fs fs kp (fun(mJ:bI)=>(some (⟨n.rules,n.ends,kp,mJ,fs,n.br⟩:aG))) fuel 0 n.nodes)) hf n.az hs ha n.az [] fuel rfl (by unfold fuel;omega);refine e1.trans ?_;have e2:=a0X n fs fs (gA n.az fs) (fun(mJ:bI)=>(some (⟨n.rules,n.ends,gA n.az fs,mJ,fs,n.br⟩:aG))) hf h24 n.nodes hp n.nodes [] fuel rfl (by unfold fuel;omega);exact e2
theorem Yk{rs:aq}{fs:aI}(h1:rK rs=true)(h2:eb fs=true)(hr:qw aK.wt rs<=1048576):uk (ng rs [] 0) fs=some (ng rs fs 0):=by
 have hv:=og h1;have h6:=wY h1;have Qx:=FS.Ej (fs:=fs) (by have:=wZ h2;omega);have e:ng rs [] 0=⟨rs,(cN [] rs).2,(cN [] rs).1.1,(cN [⟨[],[]⟩] rs).1.2,[],0⟩:=by
  rw[<-Q5 h1]
  congr 1
  ·rw[gy,gy]
  ·rw[gy,gy]
 have hf:(cN [⟨[],[]⟩] rs).1.2.map qv=(cN [] rs).1.2.map qv:=by rw[gy,gy];rfl
 rw[e,a6b _ fs Qx (lQ h2) (by show(cN [] rs).1.1.length<=1048576;have:=PA [] h1;omega) (fun x hx=>(xe [] hv x hx).1) (LX [⟨[],[]⟩] hv h6)];unfold ng;dsimp only;have:fA (cN [⟨[],[]⟩] rs).1.2 fs=fA (cN [] rs).1.2 fs:=by
  refine mW fun i=>?_
  rw[ul,ul,ve hf (dB i)];rw[gy,gy];cases i with
  |zero=>rfl
  |succ i=>rfl
 rw[this]
theorem a0R(P:aK->Prop)(hP:∀c c' r,cz c->mU c=some (c',r)->P r)(c:cQ)(h:cz c):∃c' rs fs t,uj c=some (c',ng rs fs t)/\cz c'/\rK rs=true/\qw aK.wt rs<=100000/\eb fs=true/\fs.length<=8/\(∀x∈fs,x.rel.length<=2)/\0<=t/\t<50/\∀r∈rs,∃r0,P r0/\r.conds=r0.conds:=by
 unfold uj;obtain⟨c1,rs,e1,h1,r1,r2,r3⟩:=a9V P hP c 4 h (by decide) (by decide);obtain⟨c2,fs,e2,h2,f1,f2,f3⟩:=a9Y c1 8 h1 (by decide) (by decide);obtain⟨c3,t,e3,h3,t0,t1⟩:=pZ c2 50 h2 (by decide) (by decide);rw[e1,aA,a3L rs (by omega),r1,aF,aA];dsimp only;rw[e2,aA];dsimp only;rw[Yk r1 f1 (by omega),aA,e3,aA];exact⟨_,rs,fs,t,rfl,h3,r1,r2,f1,by omega,f3,t0,t1,r3⟩
theorem ur.wt5{r:aK}(h:ur 5 r):r.wt<=10000:=by
 obtain⟨h1,⟨h2,h3⟩,h4,h5⟩:=h;have c1:=As (w:=aP.wt) (B:=200) r.conds (fun x hx=>(h3 x hx).wt);have c2:=As (w:=Action.wt) (B:=200) r.cY (fun x hx=>(h5 x hx).wt);have d1:(200+1)*r.conds.length<=201*5:=dJ _ (by omega);have d2:(200+1)*r.cY.length<=201*5:=dJ _ (by omega);unfold aK.wt;unfold tw at*;omega
theorem XO{rs:aq}{fs:aI}(t:Int)(h1:rK rs=true)(h2:eb fs=true):0<(ng rs fs t).nodes.length/\(ng rs fs t).nodes.length<=25/\(ng rs fs t).ends.length<=6/\∀x∈(ng rs fs t).nodes,x.tokens.length<=390625:=by
 have hv:=og h1;have h6:=wY h1;have hl:=Bu [] hv h6;refine⟨?_,?_,?_,fun x hx=>?_⟩
 ·show 0<(fA (cN [] rs).1.2 fs).length;rw[yz,gy];simp
 ·show(fA (cN [] rs).1.2 fs).length<=25;rw[yz];omega
 ·show(cN [] rs).2.length<=6;rw[(uo [] rs).2.1];omega
 ·obtain⟨i,hi⟩:=iz (show x∈fA (cN [] rs).1.2 fs from hx);exact(DX h1 h2 hi).2.1
theorem Oo{α:Type}{l:List α}{i:Nat}{y x:α}(h:x∈l.set i y):x∈l\/x=y:=qx h
theorem a99(c:cQ)(h:cz c):∃c' n,yM c=some (c',n)/\cz c'/\BC n/\n.br<=50/\n.facts.length<=256:=by
 obtain⟨c1,rs,fs,t,e1,h1,r1,r2,f1,f2,_,t0,t1,_⟩:=a0R (fun _=>True) (fun _ _ _ _ _=>trivial) c h;obtain⟨c2,x,e2,h2,x0,x1⟩:=pZ c1 12 h1 (by decide) (by decide);have hn:=MS t r1 f1 (by omega);obtain⟨n1,n2,n3,n4⟩:=XO t r1 f1;have hw:qw aK.wt (ng rs fs t).rules<=100000:=r2;have ht:(ng rs fs t).br<=50:=by show t<=50;omega
 have hfl:(ng rs fs t).facts.length<=256:=by show fs.length<=256;omega
 have hr6:(ng rs fs t).rules.length<=6:=wY r1;unfold yM;rw[e1,aA];generalize ng rs fs t=n at hn n1 n2 n3 n4 hw hr6 ht hfl;dsimp only;rw[e2,aA];dsimp only;have bq:∀k:Int,x≠k->((x:Int)==k)=false:=fun k h=>cw.2 h
 by_cases q0:x=0
 ·subst q0;exact⟨_,_,rfl,h2,⟨hn.rules,hn.facts,hn.ends,hn.az,hn.cM,hn.nodes,hn.node⟩,by show(-1:Int)<=50;decide,hfl⟩
 rw[bq 0 q0,aM];by_cases q1:x=1
 ·subst q1;obtain⟨c3,l,e3,h3,l1⟩:=a6d c2 h2;rw[show(((1:Int):Int)==1)=true from rfl,aF,e3,aA];exact⟨_,_,rfl,h3,⟨hn.rules,l1.wt (by decide),hn.ends,hn.az,hn.cM,hn.nodes,hn.node⟩,ht,by have:=l1.1;show l.length<=256;omega⟩
 rw[bq 1 q1,aM];by_cases q2:x=2
 ·subst q2;obtain⟨c3,k,e3,h3,k0,k1⟩:=pZ c2 (((n.nodes.map Node.c).length:Nat):Int) h2 (by rw[ah];omega) (by rw[ah];omega);obtain⟨c4,v,e4,h4,_⟩:=NE c3 ([-1,0,1,2,99]:bH) h3 (by decide) (by decide);rw[ah]at k1;have hlt:k.toNat<n.nodes.length:=by omega
  have e5:fy n.nodes k=some n.nodes[k.toNat]:=by unfold fy;rw[av k0,aF];exact af hlt
  rw[show(((2:Int):Int)==2)=true from rfl,aF,e3,aA];dsimp only;rw[e4,aA];dsimp only;rw[e5,aA];have hx:=hn.node _ (iO hlt);refine⟨_,_,rfl,h4,⟨hn.rules,hn.facts,hn.ends,hn.az,hn.cM,?_,fun z hz=>?_⟩,ht,hfl⟩
  ·have:=hn.nodes;rw[jQ];exact this
  ·rcases Oo hz with hz|rfl
   ·exact hn.node z hz
   ·exact hx
 rw[bq 2 q2,aM];by_cases q3:x=3
 ·subst q3;obtain⟨c3,k,e3,h3,k0,k1⟩:=pZ c2 (((n.nodes.map Node.c).length:Nat):Int) h2 (by rw[ah];omega) (by rw[ah];omega);obtain⟨c4,l,e4,h4,l1,_⟩:=a4z c3 1 h3 (by decide) (by decide);rw[ah]at k1;have hlt:k.toNat<n.nodes.length:=by omega
  have e5:fy n.nodes k=some n.nodes[k.toNat]:=by unfold fy;rw[av k0,aF];exact af hlt
  have hx:=hn.node _ (iO hlt);have h4t:=n4 _ (iO hlt);rw[show(((3:Int):Int)==3)=true from rfl,aF,e3,aA];dsimp only;rw[e5,aA,e4,aA];dsimp only;rw[gB (by omega) (by decide),aF];have hl:=l1.wt (by decide);refine⟨_,_,rfl,h4,⟨hn.rules,hn.facts,hn.ends,hn.az,hn.cM,?_,fun z hz=>?_⟩,ht,hfl⟩
  ·have:=hn.nodes;rw[jQ];exact this
  ·rcases Oo hz with hz|rfl
   ·exact hn.node z hz
   ·refine⟨hx.1,?_,fun t ht=>?_⟩
    ·show(_++[_]).length<=1048576;rw[ax,dO];omega
    ·rcases aZ.1 ht with ht|ht
     ·exact hx.2.2 t ht
     ·rw[cG.1 ht];have q:=FS.Ej hl;exact⟨q.1,q.2,PB.nil⟩
 rw[bq 3 q3,aM];by_cases q4:x=4
 ·subst q4;obtain⟨c3,r,e3,h3,l1⟩:=a98 c2 h2;rw[show(((4:Int):Int)==4)=true from rfl,aF,e3,aA];dsimp only;rw[gB (by omega) (by decide),aF];refine⟨_,_,rfl,h3,⟨?_,hn.facts,hn.ends,hn.az,hn.cM,hn.nodes,hn.node⟩,ht,hfl⟩;have:=ur.wt5 l1;show qw aK.wt (n.rules++[r])<=1048576;rw[PK,oz,a3k];omega
 rw[bq 4 q4,aM];by_cases q5:x=5
 ·subst q5;rw[show(((5:Int):Int)==5)=true from rfl,aF,gB (by omega) (by decide),aF];refine⟨_,_,rfl,h2,⟨hn.rules,hn.facts,?_,hn.az,hn.cM,hn.nodes,hn.node⟩,ht,hfl⟩;show(n.ends++[0]).length<=1048576;rw[ax,dO];omega
 rw[bq 5 q5,aM];exact⟨_,_,rfl,h2,hn,ht,hfl⟩
theorem kU.wt1{p:aC}(h:kU 4 p):p.wt<=1048576:=by have:=kU.wt4 h;unfold aC.wt;omega
theorem kU.up{k:Nat}{p:aC}(h:kU 2 p):kU 4 p:=⟨h.1,by have:=h.2.1;omega,h.2.2⟩
theorem a6a(c:cQ)(h:cz c):∃c' n f,wo c=some (c',(n,f))/\cz c'/\BC n/\n.br<=50/\f.wt<=1048576:=by
 have last:∀(c0:cQ) (n:aG),cz c0->BC n->n.br<=50->∃c' n' f,((eP c0 8).bind fun y=>(bif y.2 then((kj y.1).bind fun z=>(some (z.1,(n,z.2))))else((ew y.1).bind fun z=>(some (z.1,(n,z.2))))))=some (c',(n',f))/\cz c'/\BC n'/\n'.br<=50/\f.wt<=1048576:=by
  intro c0 n h0 hn ht;obtain⟨c1,b,e1,h1⟩:=QK c0 8 h0 (by decide) (by decide);rw[e1,aA];cases b with
  |true=>
   obtain⟨c2,f,e2,h2,hf⟩:=a4l c1 h1;dsimp only;rw[aF,e2,aA];exact⟨_,_,_,rfl,h2,hn,ht,hf.wt1⟩
  |false=>
   obtain⟨c2,f,e2,h2,hf,_⟩:=Uq c1 h1;dsimp only;rw[aM,e2,aA];exact⟨_,_,_,rfl,h2,hn,ht,(kU.up (k:=2) hf).wt1⟩
 have body:∀(c0:cQ) (n:aG) (K:Option (cQ×(aG×aC))),cz c0->BC n->n.br<=50->n.facts.length<=256->K=((eP c0 8).bind fun y=>(bif y.2 then((kj y.1).bind fun z=>(some (z.1,(n,z.2))))else((ew y.1).bind fun z=>(some (z.1,(n,z.2))))))->∃c' n' f,(bif decide ((((n.facts.map aC.c).length:Int):Int)>0)then((eP c0 2).bind fun y9=>(bif y9.2 then((cP y9.1 ((n.facts.map aC.c).length:Int)).bind fun Pm=>((fy n.facts Pm.2).bind fun x20=>((dQ x20).bind fun qp=>(some (Pm.1,(n,qp))))))else((eP y9.1 8).bind fun Di=>(bif Di.2 then((kj Di.1).bind fun Cq=>(some (Cq.1,(n,Cq.2))))else((ew Di.1).bind fun tV=>(some (tV.1,(n,tV.2))))))))else K)=some (c',(n',f))/\cz c'/\BC n'/\n'.br<=50/\f.wt<=1048576:=by
  intro c0 n K h0 hn ht hl hK;rw[ah];cases hd:decide (((n.facts.length:Int):Int)>0)with
  |false=>rw[aM,hK];exact last c0 n h0 hn ht
  |true=>
   have hpos:0<n.facts.length:=by have:=bV hd;omega
   obtain⟨c1,b,e1,h1⟩:=QK c0 2 h0 (by decide) (by decide);rw[aF,e1,aA];cases b with
   |false=>dsimp only;rw[aM];exact last c1 n h1 hn ht
   |true=>
    obtain⟨c2,x,e2,h2,x0,x1⟩:=pZ c1 (n.facts.length:Int) h1 (by omega) (by omega);have hlt:x.toNat<n.facts.length:=by omega
    have e3:fy n.facts x=some n.facts[x.toNat]:=by unfold fy;rw[av x0,aF];exact af hlt
    have hw:=oZ (w:=aC.wt) (iO hlt);have hf:=hn.facts;have Vo:(n.facts[x.toNat]).wt<=1048576:=by omega
    dsimp only;rw[aF,e2,aA];dsimp only;rw[e3,aA,zC _ (by have:=aC.dM Vo;omega),aA];exact⟨_,_,_,rfl,h2,hn,ht,Vo⟩
 unfold wo;obtain⟨c1,rs,fs,t,e1,h1,r1,r2,f1,f2,_,t0,t1,_⟩:=a0R (fun _=>True) (fun _ _ _ _ _=>trivial) c h;obtain⟨c2,b,e2,h2⟩:=QK c1 10 h1 (by decide) (by decide);rw[e1,aA];dsimp only;rw[e2,aA];cases b with
 |false=>
  dsimp only;rw[aM];exact body c2 (ng rs fs t) _ h2 (MS t r1 f1 (by omega)) (by show t<=50;omega) (by show fs.length<=256;omega) rfl
 |true=>
  obtain⟨c3,n,e3,h3,hn,ht,hl⟩:=a99 c2 h2;dsimp only;rw[aF,e3,aA];exact body c3 n _ h3 hn ht hl rfl
theorem a0T(code:bH)(h:code.length<=4096):∃n f,lg code=some (n,f)/\BC n/\n.br<=50/\f.wt<=1048576:=by
 unfold lg;obtain⟨c0,e0,h0⟩:=a9M code h;obtain⟨c1,n,f,e1,_,q⟩:=a6a c0 h0;rw[e0,aA,e1,aA];exact⟨n,f,rfl,q⟩
set_option maxRecDepth 100000
variable{Γ:vn}{N:Nat->St->Prop}
def ED(aD:bH):Option Bool:=(some (decide ((((aD.map yx).length:Int):Int)>4096)))
theorem Ed{aD:bH}{r:Bool}(h:ED aD=some r):Good prog 7 [D.sl (aD.map yx)] (D.bool r):=by
 refine gd func7 [[none]] 6 fun hr Γ hΓ=>?_
 rw[ED]at h;cases h;exact aW.ret hΓ
def mo(aD:cR)(aY:cR)(k1:Option Bool):cR->Nat->Option Bool
 | [],i1=>(k1)
 |bS::cT,i1=>((fy aY (i1:Int)).bind fun x30=>((tM bS x30).bind fun HF=>(bif !(HF)then(some false)else(mo aD aY k1 cT (i1+1)))))
def qd(aD:cR)(aY:cR):Option Bool:=(bif (((aD.map bM.c).length:Int):Int) != ((aY.map bM.c).length:Int)then(some false)else(mo aD aY (some true) aD 0))
def KM(aD:cR)(aY:cR)(dG:Int):St:=⟨[(0,D.sl (aD.map bM.c)),(1,D.sl (aY.map bM.c)),(5,D.int .i64 dG)],[]⟩
theorem JE(hΓ:Γ.nt=27){aD:cR}{aY:cR}{r:Bool}{k1:Option Bool}(dX:k1=some r->Ax Γ N f12 (.q [[none]] (D.bool r)) [1,1,1] ⟨[],[]⟩)(hm1:aD.length<=maxLen):∀(rest:cR) (i1:Nat),aD.drop i1=rest->mo aD aY k1 rest i1=some r->Ar Γ N f12 (.q [[none]] (D.bool r)) [1,1,0,1,0] (rest.length+1) (KM aD aY (i1:Int)):=by
 intro rest
 induction rest with
 |nil=>
  intro i1 b8 h;rw[mo]at h;refine aU fun N1 cW cK=>?_
  exact((aW.ge bM.c b8).a [.hl 0 [] []]).ex hΓ cW (dX h)
 |cons bS cT ih1=>
  intro i1 b8 h;rw[mo]at h;refine aU fun N1 cW cK=>?_
  obtain⟨x30,h31,h⟩:=aB h;obtain⟨HF,h33,h⟩:=aB h;have fE:=(((((aW.lt bM.c b8).a [.n 8]).l (bG bM.c 3 (dc b8) rfl)).l (fB bM.c 3 h31 rfl)).g (FM h33))
  obtain⟨h34,h⟩|⟨h34,h⟩:=aL h
  ·have h:=aN h;subst h;exact(fE.b h34).ret hΓ
  ·exact((fE.b h34).a [.cn [0,1,5] []]).ct hΓ cK (iS b8 hm1) (ih1 (i1+1) (dn b8) h)
theorem wO{aD:cR}{aY:cR}{r:Bool}(h:qd aD aY=some r):Good prog 12 [D.sl (aD.map bM.c),D.sl (aY.map bM.c)] (D.bool r):=by
 refine gd func12 [[none]] 27 fun hr Γ hΓ=>?_
 rw[qd]at h;obtain⟨h1,h⟩|⟨h1,h⟩:=aL h
 ·have h:=aN h;subst h;exact(aW.b h1).ret hΓ
 ·refine((aW.b h1).a [.cn [0,1,5] []]).lp hΓ (JE hΓ (fun h=>?_) (by have:=(gb.sl (hr _ (aE (i:=0) rfl))).1;simpa using this) aD 0 rfl h);have h:=aN h;subst h;exact aW.ret hΓ
variable{Γ:vn}{N:Nat->St->Prop}
def vq(aD:bH):Option Bool:=((ED aD).bind fun y1=>(bif y1 then(some true)else((lg aD).bind fun y4=>((jv y4.1 y4.2).bind fun y6=>((pu y4.1 y4.2).bind fun y8=>(bif (y6.2:Bool) != y8.2 then(some false)else(bif y6.2 then((tH y4.1.facts y4.2).bind fun Pj=>((hY y6.1 y4.2).bind fun yW=>((gT y6.1).bind fun PM=>(bif !(PM)then(some false)else((j5 y6.1).bind fun yX=>((mq y4.1.rules Pj.1).bind fun Mi=>((qd yX Mi).bind fun y23=>(bif !(y23)then(some false)else(bif !(yW.2)then(some false)else((iW yW.1 y4.1).bind fun oa=>(bif !(oa)then(some false)else((hY y4.1 y4.2).bind fun yT=>(bif yT.2 then((pP y4.1.facts y4.2).bind fun tV=>((jv yT.1 y4.2).bind fun Cr=>((gT yT.1).bind fun PN=>(bif PN then((j5 yT.1).bind fun Wb=>((mq y4.1.rules tV.1).bind fun Qc=>((qd Wb Qc).bind fun Y6=>(bif Y6 then(bif Cr.2 then((iW Cr.1 y4.1).bind fun y48=>(some y48))else(some false))else(some false)))))else(some false)))))else(some (!(yT.2))))))))))))))))else((hY y4.1 y4.2).bind fun y50=>(bif y50.2 then((pP y4.1.facts y4.2).bind fun y53=>((jv y50.1 y4.2).bind fun y55=>((gT y50.1).bind fun y57=>(bif y57 then((j5 y50.1).bind fun Ln=>((mq y4.1.rules y53.1).bind fun y62=>((qd Ln y62).bind fun y64=>(bif y64 then(bif y55.2 then((iW y55.1 y4.1).bind fun y68=>(some y68))else(some false))else(some false)))))else(some false)))))else(some (!(false))))))))))))
theorem F9{aD:bH}{r:Bool}(h:vq aD=some r):Good prog 5 [D.sl (aD.map yx)] (D.bool r):=by
 refine gd func5 [[none]] 122 fun hr Γ hΓ=>?_
 rw[vq]at h;obtain⟨y1,h2,h⟩:=aB h;obtain⟨h3,h⟩|⟨h3,h⟩:=aL h
 ·have h:=aN h;subst h;exact((aW.g (Ed h2)).b h3).ret hΓ
 ·obtain⟨y4,h5,h⟩:=aB h;obtain⟨y6,h7,h⟩:=aB h;obtain⟨y8,h9,h⟩:=aB h;have kX:=(((((aW.g (Ed h2)).b h3).g (Good.shT (AB h5))).g (sH h7)).g (CY h9))
  obtain⟨h10,h⟩|⟨h10,h⟩:=aL h
  ·have h:=aN h;subst h;exact(kX.b h10).ret hΓ
  ·obtain⟨h11,h⟩|⟨h11,h⟩:=aL h
   ·obtain⟨Pj,h13,h⟩:=aB h;obtain⟨yW,h15,h⟩:=aB h;obtain⟨PM,h17,h⟩:=aB h;have fE:=((((((kX.b h10).b h11).g (Good.shT (AZ h13))).g (qB h15)).a [.n 20]).g (fO h17))
    obtain⟨h18,h⟩|⟨h18,h⟩:=aL h
    ·have h:=aN h;subst h;exact((fE.r 9 h18).T 9).ret hΓ
    ·obtain⟨yX,h20,h⟩:=aB h;obtain⟨Mi,h22,h⟩:=aB h;obtain⟨y23,h24,h⟩:=aB h;have ij:=(((((((fE.r 2 h18).gs (sr h20)).r 4 h18).g (tq h22)).b h18).g (wO h24)).r 2 h18)
     obtain⟨h25,h⟩|⟨h25,h⟩:=aL h
     ·have h:=aN h;subst h;exact((ij.r 3 h25).T 6).ret hΓ
     ·have jO:=(ij.r 3 h25)
      obtain⟨h26,h⟩|⟨h26,h⟩:=aL h
      ·have h:=aN h;subst h;exact((jO.r 5 h26).T 1).ret hΓ
      ·obtain⟨oa,h28,h⟩:=aB h;have tS:=(((jO.r 3 h26).g (oV h28)).r 2 h26)
       obtain⟨h29,h⟩|⟨h29,h⟩:=aL h
       ·have h:=aN h;subst h;exact(tS.b h29).ret hΓ
       ·obtain⟨yT,h31,h⟩:=aB h;have wK:=((tS.b h29).g (qB h31))
        obtain⟨h32,h⟩|⟨h32,h⟩:=aL h
        ·obtain⟨tV,h34,h⟩:=aB h;obtain⟨Cr,h36,h⟩:=aB h;obtain⟨PN,h38,h⟩:=aB h;have z7:=(((((wK.b h32).g (Good.shT (yE h34))).g (sH h36)).a [.n 17]).g (fO h38))
         obtain⟨h39,h⟩|⟨h39,h⟩:=aL h
         ·obtain⟨Wb,h41,h⟩:=aB h;obtain⟨Qc,h43,h⟩:=aB h;obtain⟨Y6,h45,h⟩:=aB h;have DY:=(((((((z7.r 2 h39).gs (sr h41)).r 4 h39).g (tq h43)).b h39).g (wO h45)).b h39)
          obtain⟨h46,h⟩|⟨h46,h⟩:=aL h
          ·have LL:=(DY.r 2 h46)
           obtain⟨h47,h⟩|⟨h47,h⟩:=aL h
           ·obtain⟨y48,h49,h⟩:=aB h;have h:=aN h;subst h;exact(((LL.r 3 h47).g (oV h49)).b h47).ret hΓ
           ·have h:=aN h;subst h;exact(LL.r 4 h47).ret hΓ
          ·have h:=aN h;subst h;exact((DY.r 2 h46).F 4).ret hΓ
         ·have h:=aN h;subst h;exact((z7.r 8 h39).F 6).ret hΓ
        ·cases h;exact((wK.b h32).r 2 h11).ret hΓ
   ·obtain⟨y50,h51,h⟩:=aB h;have Bp:=(((kX.b h10).b h11).g (qB h51))
    obtain⟨h52,h⟩|⟨h52,h⟩:=aL h
    ·obtain⟨y53,h54,h⟩:=aB h;obtain⟨y55,h56,h⟩:=aB h;obtain⟨y57,h58,h⟩:=aB h;have Gz:=(((((Bp.b h52).g (Good.shT (yE h54))).g (sH h56)).a [.n 17]).g (fO h58))
     obtain⟨h59,h⟩|⟨h59,h⟩:=aL h
     ·obtain⟨Ln,h61,h⟩:=aB h;obtain⟨y62,h63,h⟩:=aB h;obtain⟨y64,h65,h⟩:=aB h;have Ao:=(((((((Gz.r 2 h59).gs (sr h61)).r 4 h59).g (tq h63)).b h59).g (wO h65)).b h59)
      obtain⟨h66,h⟩|⟨h66,h⟩:=aL h
      ·have H6:=(Ao.r 2 h66)
       obtain⟨h67,h⟩|⟨h67,h⟩:=aL h
       ·obtain⟨y68,h69,h⟩:=aB h;have h:=aN h;subst h;exact(((H6.r 3 h67).g (oV h69)).b h67).ret hΓ
       ·have h:=aN h;subst h;exact(H6.r 4 h67).ret hΓ
      ·have h:=aN h;subst h;exact((Ao.r 2 h66).F 4).ret hΓ
     ·have h:=aN h;subst h;exact((Gz.r 8 h59).F 6).ret hΓ
    ·cases h;exact((Bp.b h52).r 2 h11).ret hΓ
namespace LawFnKeepsUp
theorem LC(l:cR):qd l l=some true:=by
 unfold qd;rw[show((((l.map bM.c).length:Int):Int) != ((l.map bM.c).length:Int))=false by simp,aM];have main:∀(r:cR) (i:Nat),l.drop i=r->mo l l (some true) r i=some true:=by
  intro r
  induction r with
  |nil=>intro i _;rfl
  |cons x r ih=>
   intro i h;have hx:l[i]?=some x:=(drop_cons h).1;have Mt:fy l (i:Int)=some x:=by unfold fy;rw[av (by omega),aF];exact hx
   rw[mo,Mt,aA,a6n,aA,av rfl,bN,aM];exact ih (i+1) (drop_cons h).2.2
 exact main l 0 rfl
theorem a3d{n:aG}{f:aC}(h:f∉n.facts):Tc n f=(n,false):=by
 have ha:(IW n.facts f).2=false:=by unfold IW;rw[b9 (fun q=>h q.2)]
 unfold Tc;rw[ha,sZ];rfl
theorem TU{n:aG}(hb:Im n=true)(t:Int):FW (ng n.rules n.facts t) n=true:=by
 have:=a2z n.rules n.facts t n.br;rw[<-(EQ hb).2.2.2]at this;exact this
theorem SR{rs:aq}{fs:aI}{t:Int}(h1:rK rs=true)(h2:eb fs=true)(h0:0<=t)(hr:qw aK.wt rs<=1048576):j5 (ng rs fs t)=some (Wk rs fs):=by
 have hw:=wZ h2;have hb:Im (ng rs fs t)=true:=by rw[Nn h1 h2];exact av h0
 rw[a8L (ng rs fs t) hr (show qw aC.wt fs<=1048576 by omega),hb,aF,a5O hb];rfl
theorem Zd{rs:aq}{fs:aI}{t:Int}(h1:rK rs=true)(h2:eb fs=true)(h0:0<=t)(hr:qw aK.wt rs<=1048576):gT (ng rs fs t)=some true:=by
 have hw:=wZ h2;rw[RD (ng rs fs t) hr (show qw aC.wt fs<=1048576 by omega),Nn h1 h2,av h0]
theorem a6E(code:bH):vq code=some true:=by
 unfold vq ED;rw[aA,ah];by_cases hc:code.length<=4096
 ·rw[bB (by omega),aM];obtain⟨n,f,e1,hn,ht,hf⟩:=a0T code hc;have hr:=hn.rules;have hfs:=hn.facts;rw[e1,aA];dsimp only;rw[a4D n f hn hf,aA,a9O n f hn hf,aA,show((NV n f).2 != (NV n f).2)=false by simp,aM,a4E n f hn hf];by_cases hin:f∈n.facts
  ·rw[a3C hin]
   try dsimp only
   rw[aM,aA];cases hk:(Tc n f).2 with
   |false=>rw[aM];rfl
   |true=>
    have hb:Im n=true:=by
     unfold Tc at hk;cases h:Im n with
     |true=>rfl
     |false=>rw[h]at hk;cases hk
    obtain⟨h1,h2,h0,_⟩:=EQ hb;obtain⟨t,q1,q2,q3,q4⟩:=Td hb hin (by omega);have hz:=MS t h1 q2 hr;have hbz:Im (ng n.rules (xh f n.facts) t)=true:=by rw[Nn h1 q2];exact av (by omega)
    obtain⟨d1,d2⟩:=a2o hin h2;have hnd:f∉xh f n.facts:=fun q=>(Kw.1 q).2 rfl
    have hl:(xh f n.facts).length+1=n.facts.length:=by rw[<-L6 f,d2]
    have h24:=lQ h2;obtain⟨u,p1,p2,p3,p4⟩:=TM (f:=f) hbz (BF h2 f hin) hnd (show(xh f n.facts).length<24 by omega) (show t<=100000000000000000 by omega);have aBY:IW n.facts f=(xh f n.facts,true):=by unfold IW;rw[bL ⟨h2,hin⟩]
    have hw:=wZ q2;rw[aF,q1]
    try dsimp only
    rw[a9U n.facts f hfs,aA,aBY,a4D _ f hz hf,aA,p1,Zd h1 q2 (by omega) hr,aA,aF,SR h1 q2 (by omega) hr,aA]
    try dsimp only
    rw[a4k n.rules _ hr (by omega),aA,LC,aA,aF,aF,a61,aA];refine congrArg some ?_;show FW (ng n.rules (vD f (xh f n.facts)) u) n=true;rw[d2];exact TU hb u
  ·rw[a3d hin]
   try dsimp only
   rw[aA]
   try dsimp only
   rw[aM];cases hk:(NV n f).2 with
   |false=>rw[aM];rfl
   |true=>
    have hk2:Im n=true/\(Cv n.facts f).2=true:=by
     unfold NV at hk;cases h:Im n with
     |false=>rw[h]at hk;cases hk
     |true=>
      cases h':(Cv n.facts f).2 with
      |true=>exact⟨rfl,rfl⟩
      |false=>rw[h,h']at hk;cases hk
    obtain⟨hb,ha⟩:=hk2;obtain⟨h1,h2,h0,_⟩:=EQ hb;have a2R:oT f=true/\n.facts.length≠24:=by
     unfold Cv at ha;split at ha
     ·rename_i h;exact⟨h.2.1,h.2.2.2⟩
     ·cases ha
    have h24:=lQ h2;obtain⟨t,q1,q2,q3,q4⟩:=TM hb a2R.1 hin (by omega) (by omega);have hz:=MS t h1 q2 hr;have hbz:Im (ng n.rules (vD f n.facts) t)=true:=by rw[Nn h1 q2];exact av (by omega)
    have aBD:f∈(ng n.rules (vD f n.facts) t).facts:=(Gr f n.facts f).2 (.inl rfl);obtain⟨u,p1,p2,p3,p4⟩:=Td hbz aBD (show t<=100000000000000000 by omega);have a7l:Cv n.facts f=(vD f n.facts,true):=by unfold Cv;rw[bL ⟨h2,a2R.1,hin,a2R.2⟩]
    have hw:=wZ q2;rw[aF,q1]
    try dsimp only
    rw[a4j n.facts f hfs hf,aA,a7l,a4E _ f hz hf,aA,p1,Zd h1 q2 (by omega) hr,aA,bN,aM,SR h1 q2 (by omega) hr,aA]
    try dsimp only
    rw[a4k n.rules _ hr (by omega),aA,LC,aA,bN,aM,a61,aA];have hm:FW (ng (ng n.rules (vD f n.facts) t).rules (xh f (ng n.rules (vD f n.facts) t).facts) u) n=true:=by
     show FW (ng n.rules (xh f (vD f n.facts)) u) n=true;rw[a2K q2 h2 hin];exact TU hb u
    simp only[hm,bN,aM];rfl
 ·rw[av (by omega),aF]
theorem Zj(code:bH):Good prog 5 [D.sl (code.map yx)] (.bool true):=F9 (a6E code)
end LawFnKeepsUp
open Go.RowKit
inductive Sh where
 |int (k:IntKind)
 |str
 |bool
 |sl (row:List Sh)
mutual
inductive PT:Sh->D->Prop
 |int (k:IntKind) (n:Int):PT (.int k) (.int k n)
 |str (s:Bytes):PT .str (.str s)
 |bool (b:Bool):PT .bool (.bool b)
 |sl (row:List Sh) (rows:List aQ):(∀r∈rows,wF row r)->PT (.sl row) (.sl rows)
inductive wF:List Sh->List D->Prop
 |nil:wF [] []
 |cons (s:Sh) (ss:List Sh) (d:D) (ds:aQ):PT s d->wF ss ds->wF (s::ss) (d::ds)
end
theorem wF.app{s1 s2:List Sh}{d1 d2:aQ}(h1:wF s1 d1)(h2:wF s2 d2):wF (s1++s2) (d1++d2):=by
 induction s1 generalizing d1 with
 |nil=>cases h1;exact h2
 |cons s s1 ih=>cases h1 with|cons _ _ d ds h h'=>exact .cons _ _ _ _ h (ih h')
theorem wF.length{s:List Sh}{d:aQ}(h:wF s d):d.length=s.length:=by
 induction s generalizing d with
 |nil=>cases h;rfl
 |cons s ss ih=>cases h with|cons _ _ d ds h h'=>simp[ih h']
def RS(P:Program):Nat->List Field->List (List Sh)->Bool
 |_,[],[]=>true
 |off,f::fs,r::rs=>(f.offset==off)&&(r.length==P.cellsOf f.type)&&RS P (off+r.length) fs rs
 |_,_,_=>false
def CI(P:Program):Nat->TypeId->Option (List Sh)
 |0,_=>none
 |n+1,t=>match P.underlying t with
  |some .bool=>some [.bool]
  |some (.int k)=>some [.int k]
  |some .string=>some [.str]
  |some (.slice e)=>(CI P n e).bind fun r=>if r.length=P.cellsOf e/\0<r.length then some [.sl r]else none
  |some (.struct fs)=>(fs.toList.mapM fun f=>CI P n f.type).bind fun rs=>if RS P 0 fs.toList rs=true/\rs.flatten.length=P.cellsOf t then some rs.flatten else none
  |_=>none
theorem T4{α β:Type}{f:α->Option β}:∀ {l:List α} {ys:List β},l.mapM f=some ys->ys.length=l.length/\∀(i:Nat) x,l[i]?=some x->∃y,ys[i]?=some y/\f x=some y:=by
 intro l
 induction l with
 |nil=>intro ys h;simp at h;subst h;simp
 |cons a l ih=>
  intro ys h;simp only[Fe,Option.bind_eq_bind,Option.pure_def]at h;cases ha:f a with
  |none=>simp[ha]at h
  |some b=>
   cases hl:l.mapM f with
   |none=>simp[ha,hl]at h
   |some bs=>
    simp[ha,hl]at h;subst h;obtain⟨h1,h2⟩:=ih hl;refine⟨by simp[h1],fun i x hx=>?_⟩;cases i with
    |zero=>simp at hx;subst hx;exact⟨b,by simp,ha⟩
    |succ i=>simp at hx;obtain⟨y,k1,k2⟩:=h2 i x hx;exact⟨y,by simpa using k1,k2⟩
section
variable{P:Program}{w:World}{H:Type}{enc:TypeId×Value->H}{base:Nat}{sp:Nat->Bool}{held:Bool}
theorem O1{a:Addr}{n:Nat}{cs:bp}(h:w.cells? base a n=some cs):cs.length=n/\∀(j:Nat) c,cs[j]?=some c->w.cell? (a.add j)=some c:=by
 unfold World.cells? at h;split at h
 ·obtain⟨h1,h2⟩:=T4 h;refine⟨by simpa using h1,fun j c hj=>?_⟩;have hlt:j<n:=by have:=(aJ.1 hj).1;rw[h1]at this;simpa using this
  obtain⟨y,k1,k2⟩:=h2 j j (by simp[hlt]);rw[hj]at k1;cases k1;exact k2
 ·cases h
theorem a6F{k:IntKind}{n:Int}(h:(Lit.int k n).wf=true):qQ k n:=by
 simpa[Lit.wf,qQ]using h
theorem WT:∀(fuel:Nat) {t:TypeId} {cs:bp} {d:DataW H} {ps:List MemPlace} {n:Nat} {shs:List Sh},
 DataW.trod enc P w base sp held fuel t cs=some (d,ps)->CI P n t=some shs->∃ds bs,p6 w cs ds bs/\wF shs ds:=by
 intro fuel
 induction fuel with
 |zero=>intro t cs d ps n shs h;simp[DataW.trod]at h
 |succ fuel ih=>
  intro t cs d ps n shs h hf;cases n with
  |zero=>simp[CI]at hf
  |succ n=>
   simp only[CI]at hf;simp only[DataW.trod]at h;split at hf
   ·rename_i hu;cases hf;simp only[hu]at h;split at h<;>rename_i h1<;>try(simp at h1;done)
    all_goals try(cases h;done)
    all_goals simp at h1
    exact⟨[.bool _],[],.cons _ _ _ _ [] [] rfl (.bool _) .nil,.cons _ _ _ _ (.bool _) .nil⟩
   ·rename_i k hu;cases hf;simp only[hu]at h;split at h<;>rename_i h1<;>try(simp at h1;done)
    all_goals try(cases h;done)
    all_goals simp at h1
    rename_i k1 k2 m _;subst h1;split at h
    ·rename_i hc;obtain⟨rfl,hwf⟩:=hc;exact⟨[.int _ _],[],.cons _ _ _ _ [] [] rfl (.int _ _ (a6F hwf)) .nil,.cons _ _ _ _ (.int _ _) .nil⟩
    ·cases h
   ·rename_i hu;cases hf;simp only[hu]at h;split at h<;>rename_i h1<;>try(simp at h1;done)
    all_goals try(cases h;done)
    all_goals simp at h1
    split at h
    ·rename_i hc;exact⟨[.str _],[],.cons _ _ _ _ [] [] rfl (.str _ hc) .nil,.cons _ _ _ _ (.str _) .nil⟩
    ·cases h
   ·rename_i e hu;cases hr:CI P n e with
    |none=>simp[hr]at hf
    |some r=>
     simp only[hr,aA]at hf;split at hf
     ·rename_i hsz;cases hf;simp only[hu]at h;split at h<;>rename_i h1<;>try(simp at h1;done)
      all_goals try(cases h;done)
      all_goals simp at h1
      ·exact⟨[.sl []],[],.cons _ _ _ _ [] [] rfl .zq .nil,.cons _ _ _ _ (.sl _ _ (by simp)) .nil⟩
      ·rename_i a len cap
       try subst h1
       split at h
       ·rename_i hc;cases hm:(List.range len).mapM (fun i=>(w.cells? base (a.add (i*P.cellsOf e)) (P.cellsOf e)).bind (DataW.trod enc P w base sp held fuel e))with
        |none=>simp[hm]at h
        |some elems=>
         obtain⟨_,hall⟩:=T4 hm;have hel:∀i,i<len->∃cs ds bs,w.cells? base (a.add (i*P.cellsOf e)) (P.cellsOf e)=some cs/\p6 w cs ds bs/\wF r ds:=by
          intro i hi;obtain⟨y,_,hy⟩:=hall i i (by simp[hi]);obtain⟨cs,hcs,hy⟩:=pF.1 hy;obtain⟨ds,bs,k1,k2⟩:=ih (d:=y.1) (ps:=y.2) hy hr;exact⟨cs,ds,bs,hcs,k1,k2⟩
         by_cases hl0:len=0
         ·subst hl0;exact⟨[.sl []],[],.cons _ _ _ _ [] [] rfl (.qn a cap hc.2.2) .nil,.cons _ _ _ _ (.sl _ _ (by simp)) .nil⟩
         ·
          obtain⟨cs0,ds0,Xy,a5d,hr0,aDt⟩:=hel 0 (by omega);obtain⟨hl1,Mt⟩:=O1 a5d;have hpos:0<cs0.length:=by rw[hl1];omega
          have hc0:=Mt 0 cs0[0] (af hpos);have ha0:(a.add (0*P.cellsOf e)).add 0=a:=by simp[Addr.add]
          rw[ha0]at hc0;obtain⟨b,off,spot⟩:=a;have a8B:spot=none:=by
           cases spot with
           |none=>rfl
           |some x=>
            unfold World.cell? at hc0;split at hc0
            ·simp at hc0
            ·cases hc0
          subst a8B;have hb:b<w.heap.size:=World.block_lt_of_cell? w _ hc0;have build:∀m,m<=len->∃(rows:List aQ) (cs:bp) (bs:aa),rows.length=m/\cs.length=m*P.cellsOf e/\(∀(j:Nat) c,cs[j]?=some c->w.cell? ⟨b,off+j,none⟩=some c)/\
           p6 w cs rows.flatten bs/\∀x∈rows,wF r x:=by
           intro m
           induction m with
           |zero=>intro _;exact⟨[],[],[],rfl,by simp,by simp,.nil,by simp⟩
           |succ m ihm=>
            intro hm1;obtain⟨rows,cs,bs,q1,q2,q3,q4,q5⟩:=ihm (by omega);obtain⟨cs',ds',bs',g1,g2,g3⟩:=hel m (by omega);obtain⟨g4,g5⟩:=O1 g1;refine⟨rows++[ds'],cs++cs',bs++bs',by simp[q1],by simp[q2,g4,nS],?_,?_,?_⟩
            ·intro j c hj;by_cases hlt:j<cs.length
             ·rw[bA hlt]at hj;exact q3 j c hj
             ·rw[bE (by omega)]at hj;have:=g5 _ c hj;rw[Addr.add_lit,Addr.add_lit,q2]at this;have e1:off+m*P.cellsOf e+(j-m*P.cellsOf e)=off+j:=by omega
              rw[e1]at this;exact this
            ·rw[jt];have:=q4.app g2;simpa using this
            ·intro x hx;rcases aZ.1 hx with hx|hx
             ·exact q5 x hx
             ·simp at hx;subst hx;exact g3
          obtain⟨rows,cs,bs,q1,q2,q3,q4,q5⟩:=build len (bU _);subst q1;refine⟨[.sl rows],b::bs,?_,.cons _ _ _ _ (.sl _ _ q5) .nil⟩;have:=p6.cons (w:=w) _ [] _ [] _ [] rfl (Rd.sl b off cap r.length rows cs bs hb hc.2.1 hc.2.2 (fun x hx=>(q5 x hx).length) q3 q4) .nil;simpa using this
       ·cases h
     ·cases hf
   ·rename_i fs hu;cases hr:fs.toList.mapM (fun f=>CI P n f.type)with
    |none=>simp[hr]at hf
    |some rs=>
     simp only[hr,aA]at hf;split at hf
     ·rename_i hok;cases hf;simp only[hu]at h;split at h
      ·rename_i hlen;cases hm:fs.toList.mapM (fun f=>DataW.trod enc P w base sp held fuel f.type ((cs.drop f.offset).take (P.cellsOf f.type)))with
       |none=>simp[hm]at h
       |some xs=>
        have go:∀(fl:List Field) (rl:List (List Sh)) (xl:List (DataW H×List MemPlace)) (off:Nat),fl.mapM (fun f=>CI P n f.type)=some rl->
         fl.mapM (fun f=>DataW.trod enc P w base sp held fuel f.type ((cs.drop f.offset).take (P.cellsOf f.type)))=some xl->RS P off fl rl=true->
         ∃ds bs,p6 w ((cs.drop off).take rl.flatten.length) ds bs/\wF rl.flatten ds:=by
         intro fl
         induction fl with
         |nil=>
          intro rl xl off h1 _ _;simp at h1;subst h1;exact⟨[],[],by simpa using p6.nil,.nil⟩
         |cons f fl ihf=>
          intro rl xl off h1 h2 h3;simp only[Fe,Option.bind_eq_bind,Option.pure_def]at h1 h2;cases a1:CI P n f.type with
          |none=>simp[a1]at h1
          |some r1=>
           cases a2:fl.mapM (fun f=>CI P n f.type)with
           |none=>simp[a1,a2]at h1
           |some rl'=>
            simp[a1,a2]at h1;subst h1;cases b1:DataW.trod enc P w base sp held fuel f.type ((cs.drop f.offset).take (P.cellsOf f.type))with
            |none=>simp[b1]at h2
            |some x1=>
             cases b2:fl.mapM (fun f=>DataW.trod enc P w base sp held fuel f.type ((cs.drop f.offset).take (P.cellsOf f.type)))with
             |none=>simp[b1,b2]at h2
             |some xl'=>
              simp only[RS,aR,cZ]at h3;obtain⟨⟨o1,o2⟩,o3⟩:=h3;obtain⟨Mq,Xz,k1,k2⟩:=ih (d:=x1.1) (ps:=x1.2) b1 a1;obtain⟨ds2,bs2,k3,k4⟩:=ihf rl' xl' (off+r1.length) a2 b2 o3;refine⟨Mq++ds2,Xz++bs2,?_,by simpa using k2.app k4⟩;have e1:(cs.drop off).take (r1::rl').flatten.length=(cs.drop f.offset).take (P.cellsOf f.type)++(cs.drop (off+r1.length)).take rl'.flatten.length:=by
               rw[o1,<-o2,gh,ax,<-iy,List.take_add]
              rw[e1];exact k1.app k3
        obtain⟨ds,bs,k1,k2⟩:=go fs.toList rs xs 0 hr hm hok.1;rw[B7,hok.2,<-hlen,yq]at k1;exact⟨ds,bs,k1,k2⟩
      ·cases h
     ·cases hf
   ·cases hf
def YJ(P:Program)(n:Nat)(t:TypeId)(d:D):Prop:=
 (Df P t=some true/\∃shs cells,CI P n t=some shs/\d=.agg cells/\wF shs cells)\/(Df P t=some false/\∃sh,CI P n t=some [sh]/\PT sh d)
inductive Pp(P:Program)(n:Nat):List TypeId->List D->Prop
 |nil:Pp P n [] []
 |cons (t:TypeId) (ts:List TypeId) (d:D) (ds:aQ):YJ P n t d->Pp P n ts ds->Pp P n (t::ts) (d::ds)
def SG(P:Program)(n:Nat)(t:TypeId):Bool:=
 match Df P t,CI P n t with
 |some true,some _=>(match P.underlying t with|some (.struct _)=>true|_=>false)
 |some false,some [_]=>true
 |_,_=>false
theorem a07{n:Nat}{t:TypeId}{v:Value}{d:DataW H}{ps:List MemPlace}(hok:SG P n t=true)(hval:Value.okWide P w .any base t v)(h:DataW.Trod enc P w 0 sp held t v d ps):
 ∃x bs,Rd w v x bs/\YJ P n t x:=by
 obtain⟨fuel,h⟩:=h;unfold SG at hok;split at hok
 ·rename_i shs ht hf;split at hok
  ·rename_i fs hu;unfold Value.okWide at hval;simp only[hu]at hval;obtain⟨cs,rfl,_⟩:=hval;obtain⟨ds,bs,k1,k2⟩:=WT fuel h hf;refine⟨.agg ds,bs,?_,.inl ⟨ht,shs,ds,hf,rfl,k2⟩⟩;have:=Rd.agg (w:=w) cs.toList ds bs k1;simpa using this
  ·cases hok
 ·rename_i sh ht hf;have hone:v.oneCell'=true:=by
   unfold Df at ht;split at ht<;>first
    | (cases ht;done)
    |skip
   rename_i dsc h1 h2 hu;unfold Value.okWide at hval;rw[hu]at hval;cases v with
   |agg cs=>
    cases dsc<;>first
     | (exfalso;exact h1 _ rfl)
     | (exfalso;exact h2 _ _ rfl)
     | (simp[Cell.okWide,Cell.ok,hu]at hval)
   |tuple vs=>
    cases dsc<;>first
     | (exfalso;exact h1 _ rfl)
     | (exfalso;exact h2 _ _ rfl)
     | (simp[Cell.okWide,Cell.ok,hu]at hval)
   |_=>rfl
  rw[QG hone]at h;obtain⟨ds,bs,k1,k2⟩:=WT fuel h hf;cases k2 with
  |cons _ _ x ds' hx hn=>
   cases hn;cases k1 with
   |cons _ _ _ _ b1 b2 _ hrd hn=>exact⟨x,b1,hrd,.inr ⟨ht,sh,hf,hx⟩⟩
 ·cases hok
theorem XS{n:Nat}:∀ {ts:List TypeId} {vs:bp} {ds:List (DataW H)} {ps:List MemPlace},(∀t∈ts,SG P n t=true)->
 (∀(j:Nat) t v,ts[j]?=some t->vs[j]?=some v->Value.okWide P w .any base t v)->DataW.TrodAll enc P w 0 sp held ts vs ds ps->
 ∃xs bs,VF w vs xs bs/\Pp P n ts xs/\ds.length=ts.length:=by
 intro ts
 induction ts with
 |nil=>
  intro vs ds ps _ _ h;cases vs with
  |nil=>cases ds with
   |nil=>exact⟨[],[],.nil,.nil,rfl⟩
   |cons=>cases h
  |cons=>cases ds<;>cases h
 |cons t ts ih=>
  intro vs ds ps hok hval h;cases vs with
  |nil=>cases h
  |cons v vs=>
   cases ds with
   |nil=>cases h
   |cons d ds=>
    obtain⟨p,q,h1,h2,rfl⟩:=h;obtain⟨x,b1,k1,k2⟩:=a07 (hok t (by simp)) (hval 0 t v rfl rfl) h1;obtain⟨xs,b2,k3,k4,k5⟩:=ih (fun u hu=>hok u (by simp[hu])) (fun j u y hj hv=>hval (j+1) u y (by simpa using hj) (by simpa using hv)) h2;exact⟨x::xs,b1++b2,.cons _ _ _ _ _ _ k1 k3,.cons _ _ _ _ k2 k4,by simp[k5]⟩
theorem Pg{W W':World}(hl:laidOutB P=true)(hb:Below W.heap.size W W')(spn:Nat->Bool):∀ {ts:List TypeId} {vs:bp} {ds:List (DataW H)} {ps:List MemPlace},
 (∀t∈ts,P.readableRec t=true/\t<P.types.size)->DataW.TrodAll enc P W 0 (fun _=>true) true ts vs ds ps->(∀x∈ps,x.block<W.heap.size)->(∀x∈ps,spn x.block=true)->
 DataW.TrodAll enc P W' 0 spn true ts vs ds ps:=by
 intro ts
 induction ts with
 |nil=>intro vs ds ps _ h _ _;cases vs<;>cases ds<;>first|exact h|cases h
 |cons t ts ih=>
  intro vs ds ps ht h hlt hsp;cases vs with
  |nil=>cases h
  |cons v vs=>
   cases ds with
   |nil=>cases h
   |cons d ds=>
    obtain⟨p,q,h1,h2,rfl⟩:=h;refine⟨p,q,?_,ih (fun u hu=>ht u (by simp[hu])) h2 (fun x hx=>hlt x (by simp[hx])) (fun x hx=>hsp x (by simp[hx])),rfl⟩;exact WideElems.Trod_stays hl (ht t (by simp)).1 (ht t (by simp)).2 h1 (fun x hx=>hb.same (hlt x (by simp[hx]))) (fun x hx=>hsp x (by simp[hx]))
theorem BD.xz{w:World}{v:Value}{b:Bool}{bs ts us:aa}(h:BD w v (.bool b) bs ts us):v=.bool b:=by
 cases h with|v h=>cases h with|cell h=>cases h with|pure h=>cases h;rfl
theorem RM{f:FuncId}{fn:Func}{s:ChangeSpec}{n rt:Nat}{W:World}{args:Array Value}{ds gs:List (DataW H)}{before:List MemPlace}
 (hl:laidOutB P=true) (Vk:∀t∈fn.params.toList,SG P n t=true/\P.readableRec t=true/\t<P.types.size) (hres:fn.resultTypes= #[rt]) (hrt:P.underlying rt=some .bool)
 (hv:s.vars=[]) (hfn:∀ds:List (DataW H),ds.length=fn.params.toList.length->s.fn H ds= {results:=[.lit (.bool true)],args:=ds})
 (hvs:Qn W fun _=>False) (qu:∀xs,Pp P n fn.params.toList xs->Good P f xs (.bool true))
 (hval:∀(j:Nat) t v,fn.params[j]?=some t->args[j]?=some v->Value.okWide P W .any base t v)
 (hW:DataW.Whole enc P fn.params.toList s.vars false W args.toList ds gs before):
 Calls P f args W fun e W'=>∃v,e=.returned v/\s.post enc P fn false true false false W args v W':=by
 have hW':=hW;obtain⟨p,q,hA,hV,hpq,hz,_⟩:=hW;have hgs:gs=[]/\q=[]:=by
  rw[hv]at hV;cases gs with
  |nil=>exact⟨rfl,hV⟩
  |cons=>cases hV
 obtain⟨rfl,rfl⟩:=hgs;rw[dD]at hpq;subst hpq;obtain⟨xs,bs,k1,k2,k3⟩:=XS (fun t ht=>(Vk t ht).1) (fun j t v hj hv=>hval j t v (by simpa using hj) (by simpa using hv)) hA;have hc:=(qu xs k2).2 W (fun _=>0) args.toList bs hvs k1 (fun _ _=>rfl) (fun b hb=>absurd rfl hb) (fun _=>Fg _);rw[rH]at hc;refine hc.mono ?_;rintro e W' ⟨v,bs',ts,us,rfl,hb,hr,_⟩;refine⟨v,rfl,?_⟩;obtain rfl:=hr.xz;have hlt:=hW'.lt;have hfd:=hfn ds k3;have ZA:∀(b:Nat) (sp:Nat->Bool) (hd:Bool),DataW.TrodAll enc P W' b sp hd fn.resultTypes.toList ((Value.bool true).resultList fn.resultTypes.size) [.lit (.bool true)] []:=by
  intro b sp hd;rw[hres];exact⟨[],[],⟨1,by simp[DataW.trod,hrt,Value.cells]⟩,rfl,rfl⟩
 have hargs:∀spn:Nat->Bool,(∀x∈before,spn x.block=true)->DataW.TrodAll enc P W' 0 spn true fn.params.toList args.toList ds before:=
  fun spn hsp=>Pg hl hb spn (fun t ht=>(Vk t ht).2) hA hlt hsp
 have hvars:∀spn:Nat->Bool,DataW.TrodVars enc P W' spn s.vars [] []:=fun spn=>by rw[hv];rfl
 unfold ChangeSpec.post;refine⟨ds,[],before,[],before,[],hW',?_,?_,?_,hb.frame _,fun h=>by cases h⟩
 ·rw[dD,hfd];exact ZA _ _ _
 ·rw[dD,hfd];exact hargs _ (fun x hx=>by simpa using hlt x hx)
 ·rw[dD,hfd];exact hvars _
end
abbrev AL:=List Sh
theorem Wn{α:Type}{c:α->aQ}{row:AL}(hc:∀r,wF row r->∃x,r=c x):∀ {rows:List aQ},(∀r∈rows,wF row r)->∃l:List α,rows=l.map c:=by
 intro rows
 induction rows with
 |nil=>intro _;exact⟨[],rfl⟩
 |cons r rows ih=>
  intro h;obtain⟨x,rfl⟩:=hc r (h r (by simp));obtain⟨l,rfl⟩:=ih (fun s hs=>h s (by simp[hs]));exact⟨x::l,rfl⟩
theorem a2G{α:Type}{c:α->aQ}{row:AL}(hc:∀r,wF row r->∃x,r=c x){d:D}(h:PT (.sl row) d):∃l:List α,d=.sl (l.map c):=by
 cases h with
 |sl _ rows hr=>
  obtain⟨l,rfl⟩:=Wn hc hr;exact⟨l,rfl⟩
theorem Yb{k:IntKind}{d:D}(h:PT (.int k) d):∃n,d=.int k n:=by cases h;exact⟨_,rfl⟩
theorem U0{s:Sh}{ss:AL}{ds:aQ}(h:wF (s::ss) ds):∃d r,ds=d::r/\PT s d/\wF ss r:=by
 cases h with|cons _ _ d r h1 h2=>exact⟨d,r,rfl,h1,h2⟩
theorem Wo{ds:aQ}(h:wF [] ds):ds=[]:=by cases h;rfl
theorem a2H(r:aQ)(h:wF [.int .u8] r):∃s,r=yx s:=by
 obtain⟨_,_,rfl,h1,h⟩:=U0 h;cases Wo h;obtain⟨s,rfl⟩:=Yb h1;exact⟨s,rfl⟩
section
variable{P:Program}{n:Nat}{t:TypeId}{d:D}
theorem YJ.cell{sh:Sh}(ha:Df P t=some false)(hf:CI P n t=some [sh])(h:YJ P n t d):PT sh d:=by
 rcases h with⟨h1,_⟩|⟨_,sh',h1,h2⟩
 ·rw[ha]at h1;cases h1
 ·rw[hf]at h1;cases h1;exact h2
end
open Go.ChangeShapes Go.WideShapes Go.ChangeAt Go.RowKit
def jp0(P:Program)(f:FuncId)(fn:Func)(s:ChangeSpec)(c:OpenClaim):Bool:=(c.wf (OpenSpec.ofChange s)&&laidOutB P&&mapsRowed P)
def jp1(P:Program)(f:FuncId)(fn:Func)(s:ChangeSpec)(c:OpenClaim):Bool:=(fn.params.all (P.readableRec ·)&&namedTie P c.named s.vars)&&((c.stops==[])&&(P.stops==[])&&(c.knobs==[])&&(P.stopKnobs==[]))&&((c.maps==(fn.params.toList++s.plain.varTypes P).any (P.mapsRec ·))&&(c.ifaces==(fn.params.toList++s.plain.varTypes P).any (P.ifacesRec ·))&&(c.mapsOut==P.mapsAmong fn.resultTypes.toList))&&((c.loops==(fn.params.toList++s.plain.varTypes P).any (P.loopsFrom ·))&&(c.wideKeys==(fn.params.toList++s.plain.varTypes P++fn.resultTypes.toList).any (P.wideKeysFrom ·)))&&(s.vars.all (P.varReadable ·)&&fn.resultTypes.all (fun t=>P.readableRec t&&decide (t<P.types.size))&&(c.ifacesOut==fn.resultTypes.toList.any (P.ifacesRec ·))&&(c.loopsOut==fn.resultTypes.toList.any (P.loopsFrom ·)))&&((c.kinds==(if c.domain.isEmpty then []else fn.params.toList.map fun t=>match P.underlying t with|some (.int k)=>some k|_=>none))&&(c.pinned==c.pinnedBy))&&((c.veiled==(fn.params.toList++s.plain.varTypes P++fn.resultTypes.toList).any (P.veiledRec ·))&&c.veiledFits P fn.params.toList (fn.params.toList++s.plain.varTypes P++fn.resultTypes.toList))
def jp2(P:Program)(f:FuncId)(fn:Func)(s:ChangeSpec)(c:OpenClaim):Bool:=(c.inPlace==P.inPlace f)&&(c.unfollowed==P.unfollowed f)&&(c.recurses==P.recurses f)&&(c.named==P.varsNamed f)
def jp3(P:Program)(f:FuncId)(fn:Func)(s:ChangeSpec)(c:OpenClaim):Bool:=(c.plainKeys==P.plainKeys)&&(c.shortTexts.isNone&&P.stopsHeard)&&P.mayEnter&&(c.lifted==P.liftsFinal)&&(P.make==some c.make)
theorem XA{P:Program}{f:FuncId}{fn:Func}{s:ChangeSpec}{c:OpenClaim}(h0:jp0 P f fn s c=true)(h1:jp1 P f fn s c=true)(h2:jp2 P f fn s c=true)(h3:jp3 P f fn s c=true):joinedFacts P f fn s c=true:=by
 unfold jp0 at h0;unfold jp1 at h1;unfold jp2 at h2;unfold jp3 at h3;unfold joinedFacts;simp only[aR]at h0 h1 h2 h3⊢;obtain⟨⟨aEi,aEj⟩,aEk⟩:=h0;obtain⟨⟨⟨⟨⟨⟨⟨aEl,aEm⟩,⟨⟨⟨aEn,aEo⟩,aEp⟩,aEq⟩⟩,⟨⟨aEv,aEw⟩,aEx⟩⟩,⟨aEy,aEz⟩⟩,⟨⟨⟨aF0,aF1⟩,aF2⟩,aF3⟩⟩,⟨aDD,aDE⟩⟩,⟨aDF,aDG⟩⟩:=h1;obtain⟨⟨⟨aEr,aEs⟩,aEt⟩,aEu⟩:=h2;obtain⟨⟨⟨⟨aD7,⟨aD8,aD9⟩⟩,aDA⟩,aDB⟩,aDC⟩:=h3
 and_intros<;>assumption
end Go.Cx

/- Calls that are handed a pointer to a variable of the caller's (with what it holds) and slices of the caller's own. No condition; plain lemmas. -/
import Derived.Test.YtbeaohmbmfjabaaGreatDoorPIsNetworkG2
import Derived.MapKept
import Derived.Laws.BytesArg
import Derived.LoopN
import Derived.Test.YtbeaohmbmfjabaaGreatDoorProg
import Derived.KernelRfl
namespace Go.Cx
set_option linter.unusedVariables false
set_option linter.unusedSimpArgs false
open Go.RowKit
def AD(P:Program)(f:FuncId)(cells cells':List D)(ds:List D)(d:D):Prop:=
 (∃fn,P.funcs[f]?=some fn∧fn.body.isSome=true∧(fn.name== "runtime.NumGoroutine")=false)∧
 ∀(w:World) (Θ:Nat→Nat) (g:Nat) (cs:Array Value) (T:TypeId) (args:List Value) (bs ts us:List Nat),
  T4 w (fun b=>b=g∨b∈ts)→w.heap[g]?=some (.cells cs T (0,0))→z8 w (.agg cs::args) (.agg cells::ds) bs ts us→
  (∀b∈bs,Θ b=0)→(∀b,Θ b≠0→b<w.heap.size)→(∀b,Θ b≤1)→Θ g=1→(∀b∈ts,Θ b=1∧b∈us∧b≠g)→us.Nodup→(∀b∈us,(b∉ts→Θ b=0)∧Wr w b)→
  Calls P f (.pointer (some ⟨g,0,none⟩)::args).toArray w (fun e w'=>∃v cs' T' b2 t2 u2 b3 t3 u3,e=.returned v∧w'.os=w.os∧w'.tape=w.tape∧w'.output=w.output∧w.heap.size≤w'.heap.size∧
   (∀b,b<w.heap.size→b≠g→b∉ts→w'.heap[b]?=w.heap[b]?)∧w'.heap[g]?=some (.cells cs' T' (0,0))∧
   DA w' v d b2 t2 u2∧tD w' cs'.toList cells' b3 t3 u3∧(∀b∈b3++b2,(b<w.heap.size→Θ b=0∨b∈ts)∧b≠g∧b∉t3++t2)∧(u3++u2).Nodup∧
   (∀b∈u3++u2,(w.heap.size≤b∨b∈us)∧b≠g∧Wr w' b)∧∀b∈t3++t2,b∈u3++u2∧(w.heap.size≤b∨b∈ts))
section
variable{P:Program}{Γ:uK}{Q:Exit→St→Prop}{st:St}{κ κ':Nat→Option Value}{Θ Θ':Nat→Nat}{a:Act}{w w':World}{all:Array Oper}{rest:List Oper}
theorem IQ.a6F{cs:Array Value}{ds:List D}{bs ts us:List Nat}(h:IQ w (.agg cs) (.agg ds) bs ts us):tD w cs.toList ds bs ts us:=by
 generalize hv:Value.agg cs=v at h
 cases h with
 |cell h=>
  cases h with
  |pure h=>
   cases h with
   |agg l _ _ h=>cases hv;simpa using tD.E8 h
 |agg l _ _ _ _ h=>cases hv;simpa using h
theorem TF.a6F{cs:Array Value}{ds:List D}{bs:List Nat}(h:TF w κ (.agg cs) (.agg ds) bs):c8 w κ cs.toList ds bs:=by
 generalize hv:Value.agg cs=v at h
 cases h with
 |cell h=>
  cases h with
  |pure h=>
   cases h with
   |agg l _ _ h=>cases hv;simpa using c8.E8 h
 |agg l _ _ h=>cases hv;simpa using h
theorem IP.shown{v:Value}{d:D}{bs ts us:List Nat}(h:IP w v d bs ts us):∃b,Rd w v d.shC b:=by
 cases h with
 |pure h=>
  have e:d.shC=d:=by cases h<;>rfl
  exact⟨_,e.symm▸h⟩
 |fr e sz rows cs ns h1 h2 h3 h4 h5=>exact⟨_,vF h2 h3 h4⟩
theorem tD.shown{vs:List Value}{ds:List D}{bs ts us:List Nat}(h:tD w vs ds bs ts us):∃b,jN w vs (ds.map D.shC) b:=by
 induction h with
 |nil=>exact⟨_,.nil⟩
 |cons v vs d ds b1 b2 t1 t2 u1 u2 h1 h2 _ ih=>
  obtain⟨b,q⟩:=h2.shown
  obtain⟨b',q'⟩:=ih
  exact⟨_,.cons _ _ _ _ _ _ h1 q q'⟩
theorem IQ.shown{v:Value}{d:D}{bs ts us:List Nat}(h:IQ w v d bs ts us):bR d.shV:=by
 cases h with
 |cell h=>
  by_cases tB:∃ds,d=.agg ds
  ·obtain⟨ds,rfl⟩:=tB
   cases h with
   |pure h=>cases h with
    |agg cs _ _ h=>
     obtain⟨b,q⟩:=(tD.E8 h).shown
     exact⟨w,_,_,.agg _ _ _ q⟩
  ·have e:d.shV=d.shC:=by cases d<;>first|rfl|exact absurd ⟨_,rfl⟩ tB
   rw[e]
   obtain⟨b,q⟩:=h.shown
   exact⟨w,_,_,q⟩
 |agg cs ds bs ts us h=>
  obtain⟨b,q⟩:=h.shown
  exact⟨w,_,_,.agg _ _ _ q⟩
theorem z8.shown{vs:List Value}{ds:List D}{bs ts us:List Nat}(h:z8 w vs ds bs ts us):∀d∈ds.map D.shV,bR d:=by
 induction h with
 |nil=>intro d hd;cases hd
 |cons v vs d ds b1 b2 t1 t2 u1 u2 h2 _ ih=>
  intro x hx
  rcases List.mem_cons.1 hx with rfl|hx
  ·exact h2.shown
  ·exact ih x hx
def WI(L:List Fs)(b:Nat):Option Nat:=ix (fun x:Fs=>x.v.ownBlock==some b) L
def BJ(L:List Fs)(b:Nat):Option Nat:=ix (fun x:Fs=>x.ns.contains b) L
theorem a05{L:List Fs}(hnd:(L.flatMap Fs.bl).Nodup){i:Nat}{x:Fs}{b:Nat}(hi:L[i]?=some x)(hb:x.v.ownBlock=some b):WI L b=some i:=
 DC hi (by simp[hb]) (fun j y hj hy=>by
  simp only[beq_iff_eq]at hy
  exact vQ hnd j i y x b hj hi (by simp[Fs.bl,hy]) (by simp[Fs.bl,hb]))
theorem a1g{L:List Fs}{b i:Nat}(h:WI L b=some i):b∈L.flatMap Fs.ts:=by
 obtain⟨x,hx,hp⟩:=xI h
 exact List.mem_flatMap.2 ⟨x,List.mem_of_getElem? hx,by simp only[beq_iff_eq]at hp;simp[Fs.ts,hp]⟩
theorem LK{L:List Fs}{b:Nat}(h:b∉L.flatMap Fs.ts):WI L b=none:=by
 cases hb:WI L b with
 |none=>rfl
 |some i=>exact absurd (a1g hb) h
theorem U1{L:List Fs}(hnd:(L.flatMap Fs.bl).Nodup){i:Nat}{x:Fs}{b:Nat}(hi:L[i]?=some x)(hb:b∈x.ns):BJ L b=some i:=
 DC hi (by simpa using hb) (fun j y hj hy=>vQ hnd j i y x b hj hi (by simp only[Fs.bl];exact List.mem_append.2 (.inr (by simpa using hy))) (by simp only[Fs.bl];exact List.mem_append.2 (.inr hb)))
theorem DD{L:List Fs}{b i:Nat}(h:BJ L b=some i):∃x,L[i]?=some x∧b∈x.ns:=by
 obtain⟨x,hx,hp⟩:=xI h
 exact⟨x,hx,by simpa using hp⟩
theorem U2{L:List Fs}{b:Nat}(h:b∈L.flatMap Fs.ts):b∈L.flatMap Fs.bl:=by
 obtain⟨x,hx,FR⟩:=List.mem_flatMap.1 h
 exact List.mem_flatMap.2 ⟨x,hx,by simp only[Fs.bl,Fs.ts]at FR⊢;exact List.mem_append.2 (.inl FR)⟩
theorem CH{L:List Fs}{i b:Nat}{x:Fs}(h:L[i]?=some x)(hb:b∈x.ns):b∈L.flatMap Fs.bl:=
 List.mem_flatMap.2 ⟨x,List.mem_of_getElem? h,by simp only[Fs.bl];exact List.mem_append.2 (.inr hb)⟩
theorem a06{L:List Fs}(hnd:(L.flatMap Fs.bl).Nodup):∀x∈L,x.bl.Nodup:=by
 induction L with
 |nil=>intro x hx;cases hx
 |cons z r ih=>
  intro x hx
  simp only[List.flatMap_cons]at hnd
  obtain⟨n1,n2,_⟩:=List.nodup_append.1 hnd
  rcases List.mem_cons.1 hx with rfl|hx
  ·exact n1
  ·exact ih n2 x hx
theorem U3{L:List Fs}(hnd:(L.flatMap Fs.bl).Nodup){i b:Nat}{x:Fs}(h:L[i]?=some x)(hb:b∈x.ns):b∉L.flatMap Fs.ts:=by
 intro ht
 obtain⟨y,hy,hby⟩:=List.mem_flatMap.1 ht
 obtain⟨j,hj⟩:=List.getElem?_of_mem hy
 have:=vQ hnd j i y x b hj h (by simp only[Fs.bl,Fs.ts]at hby⊢;exact List.mem_append.2 (.inl hby)) (by simp only[Fs.bl];exact List.mem_append.2 (.inr hb))
 subst this
 rw[hj]at h;cases h
 have QU:=a06 hnd x hy
 simp only[Fs.bl]at QU
 exact(List.nodup_append.1 QU).2.2 b hby b hb rfl
theorem a07{L:List Fs}(hnd:(L.flatMap Fs.bl).Nodup){i:Nat}{x:Fs}(h:L[i]?=some x):x.ns.Nodup:=by
 have:=a06 hnd x (List.mem_of_getElem? h)
 simp only[Fs.bl]at this
 exact(List.nodup_append.1 this).2.1
def a6G(P:Program)(fn:Func)(v0:Value)(cells':List D)(d:D)(e:Exit)(st:St):Prop:=
 (e=.ret∨e=.normal)∧∃nz ds0 XY es ms qs,FT P st fn.results.toList=some ds0∧st.H[0]?=some (.SI XY v0)∧
  CG st.H nz (.agg XY::ds0)=some (.agg cells'::es,ms,qs)∧ms.Nodup∧qs.Nodup∧BG es=d
theorem a6G.out{fn:Func}{v0:Value}{cells':List D}{d:D}{e:Exit}{a':Act}{w':World}{st0:St}{κ0:Nat→Option Value}{Θ0:Nat→Nat}(hs0:bN Γ st0 κ0 Θ0 a' w')(hrq:a6G P fn v0 cells' d e st0):
 (e=.ret∨e=.normal)∧a'.defers=[]∧a2i Γ w'∧∃v g cs' T b2 t2 u2 b3 t3 u3,(results fn a'.tmps).run P w'=.ok v w'∧v0=.pointer (some ⟨g,0,none⟩)∧w'.heap[g]?=some (.cells cs' T (0,0))∧
  DA w' v d b2 t2 u2∧tD w' cs'.toList cells' b3 t3 u3∧(∀b∈b3++b2,(b<Γ.W0.heap.size→¬Γ.X b→Γ.Θ0 b=0)∧b≠g∧b∉t3++t2)∧(u3++u2).Nodup∧
  (∀b∈u3++u2,a5J Γ b∧b≠g∧Wr w' b)∧∀b∈t3++t2,b∈u3++u2∧BM Γ b:=by
 obtain⟨IR,nz,ds0,XY,es,ms,qs,hres,hH0,hrv,XK,TT,rfl⟩:=hrq
 obtain⟨ρ0,hu0⟩:=hs0.tC
 have IS:=BH hrv
 obtain⟨Θ1,ρ1,hs1,hu1,hm1,ZK,hr1⟩:=bN.T6 ms hs0 hu0 XK (fun m hm=>by
  obtain⟨e,sz,rows,hH⟩:=IS.1 m hm
  exact⟨_,e,sz,rows,hH,rfl⟩)
 obtain⟨vs,bs',m1,m2,m3,m4,m5⟩:=CF hs0 hres
 have hq:∀m e sz rows,st0.H[m]?=some (.row .uq e sz rows)→∃v cs ns,κ0 m=some v∧0<sz∧(∀r∈rows,r.length=sz)∧w'.ownsRow 0 e sz v rows.length cs∧jN w' cs rows.flatten ns∧ns.Nodup∧(∀b∈ns,ρ1 b=m+1)∧∀g,v.ownBlock=some g→Θ1 g=m+2:=by
  intro m e sz rows hH
  have hnm:m∉ms:=fun hm=>by
   obtain⟨e',sz',bG,LF⟩:=IS.1 m hm
   rw[hH]at LF;cases LF
  have hH1:(kill st0.H ms)[m]?=some (.row .uq e sz rows):=by rw[fF hnm];exact hH
  obtain⟨v,cs,ns,r1,r2,r3,r4,r5⟩:=hu1.rows m e sz rows hH1
  obtain⟨p1,p2,v2,_,_,p3,_,_,p4,_⟩:=hs1.ob m _ hH1
  rw[r1]at p3;cases p3
  exact⟨v,cs,ns,r1,p1,p2,r2,r3,r4,r5,p4⟩
 have h0m:0∉ms:=fun hm=>by
  obtain⟨e',sz',bG,LF⟩:=IS.1 0 hm
  rw[hH0]at LF;cases LF
 have h0q:0∉qs:=fun hm=>by
  obtain⟨e',sz',bG,LF⟩:=IS.2 0 hm
  rw[hH0]at LF;cases LF
 obtain⟨hv0,g,cs',T,hk0,hg,XO,bb,hbb,hbz⟩:=hs1.ob 0 _ (show(kill st0.H ms)[0]?=_ by rw[fF h0m];exact hH0)
 have e0:v0=.pointer (some ⟨g,0,none⟩):=by rw[hv0]at hk0;cases hk0;rfl
 have XO:Θ1 g=2:=XO
 obtain⟨c,tt,uu,RX,O8⟩:=IJ (w:=w') (vs:=.agg cs'::vs) (fun b hb=>(hu1.free b hb).1) hq hs0.o4 hrv TT (by simp;omega) (fun i d hd=>by
  cases i with
  |zero=>
   simp at hd;subst hd
   have:=TF.agg _ _ _ hbb
   exact⟨_,bb,rfl,.v (by simpa using this),hbz⟩
  |succ i=>
   obtain⟨v,b,k1,k2,k3⟩:=m4 i d (by simpa using hd)
   exact⟨v,b,by simpa using k1,k2,fun x hx=>ZK x (m5 x (k3 x hx))⟩) hm1
 cases RX with
 |cons _ _ _ _ b3 b2 t3 t2 u3 u2 a8s uN=>
 have QV:∃v,(results fn a'.tmps).run P w'=.ok v w'∧DA w' v (BG es) b2 t2 u2:=by
  have hrun:(results fn a'.tmps).run P w'=.ok (if h:vs.toArray.size=1 then vs.toArray[0]else .tuple vs.toArray) w':=by
   rw[results_eq,Array.mapM_eq_mapM_toList]
   simp[m1]
  cases uN with
  |nil=>exact⟨.tuple #[],by simpa using hrun,.iJ [] [] [] [] [] .nil⟩
  |cons v vs d es b1 b2 t1 t2 u1 u2 hv uN=>
   cases uN with
   |nil=>
    simp only[List.append_nil]
    exact⟨v,by simpa using hrun,.v hv⟩
   |cons v2 vs d2 es b3 b4 t3 t4 u3 u4 ZD uN=>exact⟨.tuple (v::v2::vs).toArray,by simpa using hrun,.iJ _ _ _ _ _ (.cons _ _ _ _ _ _ _ _ _ _ hv (.cons _ _ _ _ _ _ _ _ _ _ ZD uN))⟩
 obtain⟨v,a5n,a1T⟩:=QV
 have FN:∀b∈t3++t2,Wr w' b:=by
  intro b hb
  rcases List.mem_append.1 hb with hb|hb
  ·exact TP a8s b hb
  ·exact ZT a1T b hb
 refine⟨IR,hs0.defers,hs0.stays,v,g,cs',T,b2,t2,u2,b3,t3,u3,a5n,e0,hg,a1T,a8s.a6F,fun b hb=>⟨fun hlt hx=>?_,fun e=>?_,fun ht=>?_⟩,O8.nd,fun b hb=>?_,fun b hb=>?_⟩
 ·have:=O8.zero b hb
  rw[←(hs1.old b hlt hx).1];exact this
 ·have:=O8.zero b hb
  subst e;omega
 ·obtain⟨⟨m,_,hΘ⟩,_⟩:=O8.top b ht
  have:=O8.zero b hb
  omega
 ·rcases O8.mem b hb with h|⟨m,hm,hρ⟩
  ·obtain⟨⟨m,hm,hΘ⟩,_⟩:=O8.top b h
   refine⟨.inl (hs1.mine b (by omega)),fun e=>?_,FN b h⟩
   subst e
   rw[XO]at hΘ
   have:m=0:=by omega
   subst this;exact h0q hm
  ·have:=hu1.free b (by omega)
   refine⟨this.2.1,fun e=>?_,this.2.2⟩
   have h0:=this.1
   subst e;omega
 ·obtain⟨⟨m,hm,hΘ⟩,h2⟩:=O8.top b hb
  exact⟨h2,hs1.mine b (by omega)⟩
theorem D6.len{vs:List Value}{ds:List D}{bs:List Nat}(h:D6 w κ vs ds bs):vs.length=ds.length:=by
 induction h with
 |nil=>rfl
 |cons v vs d ds b1 b2 h1 _ ih=>simp[ih]
theorem AD.of{f:FuncId}{fn:Func}{c:Code}{cells cells' FX ds ds1:List D}{obs:List Ob}{d:D}(hf:P.funcs[f]?=some fn)(hb:fn.body=some c)(hn:(fn.name== "runtime.NumGoroutine")=false)
 (hI:DB 1 (.agg cells::ds)=(.agg FX::ds1,obs)) (hl:ds1.length+1≤fn.ntmps)
 (h:(∀x∈(D.agg cells::ds).map D.shV,bR x)→∀(v0:Value) (Γ:uK),Γ.nt=fn.ntmps→AW P Γ c (a6G P fn v0 cells' d) ⟨zA 0 (.ptr 0 0::ds1),.SI FX v0::obs⟩):AD P f cells cells' ds d:=by
 refine⟨⟨fn,hf,by simp[hb],hn⟩,?_⟩
 intro w Θ g cs T args bs ts us hvs hg hargs hz hown h1 hg1 hts hnd uB
 have aBW:=hargs.shown
 obtain⟨L,q1,q2,rfl,rfl,q5⟩:=hargs.inst 1
 rw[hI]at q1 q5
 have q1:L.map Fs.ob=obs:=q1
 refine calls_of_wp hf hb ?_
 let v0:Value:=.pointer (some ⟨g,0,none⟩)
 let κ0:Nat→Option Value:=fun i=>if i=0 then some v0 else(L[i-1]?).map Fs.v
 let Θ0:Nat→Nat:=fun b=>if b=g then 2 else match WI L b with|some i=>i+3|none=>Θ b
 let ρ0:Nat→Nat:=fun b=>match BJ L b with|some i=>i+2|none=>0
 let Γ:uK:=⟨w,Θ0,fun b=>b=g∨b∈L.flatMap Fs.ts,fn.ntmps,fun b=>b∈L.flatMap Fs.bl,hvs⟩
 have hgl:g<w.heap.size:=(Array.getElem?_eq_some_iff.1 hg).1
 have hk0:κ0 0=some v0:=rfl
 have hkS:∀i x,L[i]?=some x→κ0 (i+1)=some x.v:=fun i x hx=>by simp[κ0,hx]
 have hnm:Names κ0 1 L:=fun i x hx=>by rw[Nat.add_comm];exact hkS i x hx
 have hrd:=q5 κ0 hnm
 have hlen:=hrd.len
 have aDZ:∀(i:Nat) x b,L[i]?=some x→x.v.ownBlock=some b→b∈L.flatMap Fs.ts:=fun i x b hx hb'=>List.mem_flatMap.2 ⟨x,List.mem_of_getElem? hx,by simp[Fs.ts,hb']⟩
 have aBX:∀(i:Nat) x b,L[i]?=some x→x.v.ownBlock=some b→Θ0 b=i+3:=by
  intro i x b hx hb'
  have:=(hts b (aDZ i x b hx hb')).2.2
  simp only[Θ0,a05 hnd hx hb']
  rw[if_neg this]
 have aBY:∀b,Θ b=0→Θ0 b=0:=by
  intro b h0
  have e1:b≠g:=fun e=>by subst e;omega
  have e2:b∉L.flatMap Fs.ts:=fun e=>by have:=(hts b e).1;omega
  simp only[Θ0,LK e2]
  rw[if_neg e1,h0]
 have aDa:∀(i:Nat) x b,L[i]?=some x→b∈x.ns→Θ0 b=0:=fun i x b hx hb'=>aBY b ((uB b (CH hx hb')).1 (U3 hnd hx hb'))
 have QX:∀b,Θ0 b≠Θ b→b=g∨b∈L.flatMap Fs.ts:=by
  intro b hne
  by_cases e:b=g
  ·exact .inl e
  ·refine .inr (Classical.byContradiction fun ht=>hne ?_)
   simp only[Θ0,LK ht]
   rw[if_neg e]
 have aBZ:∀(j:Nat) o,obs[j]?=some o→∃x,L[j]?=some x∧o=x.ob:=by
  intro j o hj
  rw[←q1,List.getElem?_map]at hj
  cases hx:L[j]? with
  |none=>simp[hx]at hj
  |some x=>simp[hx]at hj;exact⟨x,rfl,hj.symm⟩
 have aFv:obs.length=L.length:=by rw[←q1];simp
 have a8s:∃b',c8 w κ0 cs.toList FX b'∧∀b∈b',Θ0 b=0:=by
  obtain⟨v,b',k1,k2,k3⟩:=hrd.at (i:=0) (d:=.agg FX) rfl
  simp at k1;subst k1
  exact⟨b',k2.a6F,fun b hb'=>aBY b (hz b (k3 b hb'))⟩
 have hs:bN Γ ⟨zA 0 (.ptr 0 0::ds1),.SI FX v0::obs⟩ κ0 Θ0 {tmps:=(v0::args).toArray++Array.replicate (fn.ntmps-(v0::args).toArray.size) undef,defers:=[]} w:=by
  refine⟨rfl,?_,fun i hi=>?_,?_,?_,?_,?_,?_,?_,⟨rfl,rfl,rfl,Nat.le_refl _,fun _ _ _=>rfl⟩,⟨ρ0,?_,?_,?_⟩⟩
  ·simp only[List.length_cons]at hlen
   simp[Γ];omega
  ·simp only[List.length_cons]at hi
   simp only[κ0]
   rw[if_neg (by omega),List.getElem?_eq_none (by omega)];rfl
  ·intro id u hu
   simp only[κ0]at hu
   split at hu
   ·cases hu;rfl
   ·cases hx:L[id-1]? with
    |none=>simp[hx]at hu
    |some x=>simp[hx]at hu;subst hu;exact(q2 x (List.mem_of_getElem? hx)).2.2.2.2
  ·intro t
   rw[FU]
   simp only[Nat.not_lt_zero,if_false,Nat.sub_zero]
   have aA0:∀v,(v0::args)[t]?=some v→((v0::args).toArray++Array.replicate (fn.ntmps-(v0::args).toArray.size) undef).getD t undef=v:=by
    intro v hv
    have hlt:=(List.getElem?_eq_some_iff.1 hv).1
    rw[Array.getD_eq_getD_getElem?,Array.getElem?_append_left (by simpa using hlt)]
    simp only[List.getElem?_toArray,hv,Option.getD_some]
   cases t with
   |zero=>
    refine⟨[],?_,by simp⟩
    rw[aA0 v0 rfl]
    exact .v (.cell (.ptr 0 0 g hk0))
   |succ s=>
    rw[List.getElem?_cons_succ]
    cases hd:ds1[s]? with
    |none=>exact⟨[],.of (.any _),by simp⟩
    |some x=>
     obtain⟨v,b',k1,k2,k3⟩:=hrd.at (i:=s+1) (d:=x) (by simpa using hd)
     rw[aA0 v (by simpa using k1)]
     exact⟨b',.v k2,fun b hb'=>aBY b (hz b (k3 b hb'))⟩
  ·intro j o hj
   cases j with
   |zero=>
    simp at hj;subst hj
    obtain⟨b',k1,k2⟩:=a8s
    exact⟨hk0,g,cs,T,hk0,hg,by simp[Θ0],b',k1,k2⟩
   |succ j=>
    obtain⟨x,hx,rfl⟩:=aBZ j o (by simpa using hj)
    obtain⟨p1,p2,p3,p4,_⟩:=q2 x (List.mem_of_getElem? hx)
    exact⟨p1,p2,x.v,x.cs,x.ns,hkS j x hx,p3,p4,fun b hb'=>aBX j x b hx hb',fun b hb'=>aDa j x b hx hb'⟩
  ·intro b hb'
   by_cases e:Θ0 b=Θ b
   ·exact hown b (by rw[←e];exact hb')
   ·rcases QX b e with rfl|ht
    ·exact hgl
    ·exact hown b (by have:=(hts b ht).1;omega)
  ·intro b hlt hx
   refine⟨rfl,?_⟩
   have e:Θ0 b=Θ b:=Classical.byContradiction fun e=>hx (QX b e)
   rw[e];exact h1 b
  ·intro b hb'
   refine .inr (QX b fun e=>?_)
   have:=h1 b
   omega
  ·intro b hb'
   cases hbl:BJ L b with
   |none=>simp[ρ0,hbl]at hb'
   |some i=>
    obtain⟨x,hx,FR⟩:=DD hbl
    exact⟨aDa i x b hx FR,.inr (CH hx FR),(uB b (CH hx FR)).2⟩
  ·intro id e sz rows hj
   cases id with
   |zero=>simp at hj
   |succ j=>
    obtain⟨x,hx,hox⟩:=aBZ j _ (by simpa using hj)
    simp only[Fs.ob,Ob.row.injEq,true_and]at hox
    obtain⟨rfl,rfl,rfl⟩:=hox
    obtain⟨p1,p2,p3,p4,_⟩:=q2 x (List.mem_of_getElem? hx)
    exact⟨x.v,x.cs,x.ns,hkS j x hx,p3,p4,a07 hnd hx,fun b hb'=>by simp[ρ0,U1 hnd hx hb']⟩
  ·intro id o hj
   cases id with
   |zero=>simp at hj;subst hj;trivial
   |succ j=>
    obtain⟨x,hx,hox⟩:=aBZ j _ (by simpa using hj)
    subst hox;exact SJ.yN rfl
 refine wp_mono (h aBW v0 Γ rfl _ _ _ _ hs) ?_
 rintro x a' w' ⟨st0,κ1,Θ1,hs0,hrq⟩
 obtain⟨IR,hdf,hst,v,g',cs',T',b2,t2,u2,b3,t3,u3,hrun,e0,hg',hres,aFw,aFx,IN,zQ,ht'⟩:=a6G.out hs0 hrq
 obtain rfl:g=g':=by
  have e1:Value.pointer (some ⟨g,0,none⟩)=.pointer (some ⟨g',0,none⟩):=e0
  cases e1;rfl
 have post:a'.defers=[]∧∃v',(results fn a'.tmps).run P w'=.ok v' w'∧∃v cs' T' b2 t2 u2 b3 t3 u3,Ending.returned v'=.returned v∧w'.os=w.os∧w'.tape=w.tape∧w'.output=w.output∧w.heap.size≤w'.heap.size∧
  (∀b,b<w.heap.size→b≠g→b∉L.flatMap Fs.ts→w'.heap[b]?=w.heap[b]?)∧w'.heap[g]?=some (.cells cs' T' (0,0))∧
  DA w' v d b2 t2 u2∧tD w' cs'.toList cells' b3 t3 u3∧(∀b∈b3++b2,(b<w.heap.size→Θ b=0∨b∈L.flatMap Fs.ts)∧b≠g∧b∉t3++t2)∧(u3++u2).Nodup∧
  (∀b∈u3++u2,(w.heap.size≤b∨b∈L.flatMap Fs.bl)∧b≠g∧Wr w' b)∧∀b∈t3++t2,b∈u3++u2∧(w.heap.size≤b∨b∈L.flatMap Fs.ts):=by
  refine⟨hdf,v,hrun,v,cs',T',b2,t2,u2,b3,t3,u3,rfl,hst.os,hst.tape,hst.output,hst.size,fun b hlt hne hnt=>hst.block b hlt (fun hx=>hx.elim hne hnt),hg',hres,aFw,fun b hb'=>?_,IN,fun b hb'=>?_,fun b hb'=>?_⟩
  ·obtain⟨k1,k2,k3⟩:=aFx b hb'
   refine⟨fun hlt=>?_,k2,k3⟩
   by_cases ht:b∈L.flatMap Fs.ts
   ·exact .inr ht
   ·refine .inl ?_
    have:=k1 hlt (fun hx=>hx.elim k2 ht)
    have e:Θ0 b=Θ b:=Classical.byContradiction fun e=>(QX b e).elim k2 ht
    rw[←e];exact this
  ·obtain⟨k1,k2,k3⟩:=zQ b hb'
   refine⟨?_,k2,k3⟩
   rcases k1 with(k1|k1|k1)|k1
   ·exact .inl k1
   ·exact absurd k1 k2
   ·exact .inr (U2 k1)
   ·exact .inr k1
  ·obtain⟨k1,k2⟩:=ht' b hb'
   refine⟨k1,?_⟩
   have:=(zQ b k1).2.1
   rcases k2 with k2|k2|k2
   ·exact .inl k2
   ·exact absurd k2 this
   ·exact .inr k2
 rcases IR with rfl|rfl
 ·exact post
 ·exact post
theorem a6I{o:Oper}{f t id:Nat}{xs:Array Operand}{ty:Array TypeId}{x0:Operand}{xr:List Operand}{ob:Ob}{QY cells cells' ds:List D}{d:D}{nz:List (List (Option (Nat×Nat)))}{ms qs:List Nat}
 (hop:o.op=.call {callee:=.value (.func f),args:=xs,argTypes:=ty}) (hd:o.dst=some t) (hg:o.guard=none) (ht:t<Γ.nt)
 (hxs:xs.toList=x0::xr) (hx0:st.ev x0=.ptr id 0) (hH:st.H[id]?=some ob) (B9:ob.cs?=some QY)
 (IR:CG st.H nz (.agg QY::xr.map st.ev)=some (.agg cells::ds,ms,qs)) (XK:ms.Nodup) (TT:qs.Nodup) (mX:AD P f cells cells' ds d)
 (h:AO P Γ all rest Q ⟨(t,(oH (st.H.length+(l9 st.H.length cells').2.length) d).1)::st.σ,
  (kill st.H (ms++qs)).set id (ob.re (l9 st.H.length cells').1)++((l9 st.H.length cells').2++(oH (st.H.length+(l9 st.H.length cells').2.length) d).2)⟩):AO P Γ all (o::rest) Q st:=by
 intro κ Θ a w hs
 have IS:=BH IR
 obtain⟨ρ,hu⟩:=hs.tC
 obtain⟨Θ1,ρ1,hs1,hu1,hm1,ZK,hr1⟩:=bN.T6 ms hs hu XK (fun m hm=>by
  obtain⟨e,sz,rows,hH⟩:=IS.1 m hm
  exact⟨_,e,sz,rows,hH,rfl⟩)
 have a4B:id<st.H.length:=(List.getElem?_eq_some_iff.1 hH).1
 have hnr:∀k e sz rows,st.H[id]?≠some (.row k e sz rows):=fun k e sz rows e1=>by rw[hH]at e1;cases e1;cases B9
 have aFy:id∉ms:=fun hm=>by obtain⟨e',sz',bG,LF⟩:=IS.1 id hm;exact hnr _ _ _ _ LF
 have aFz:id∉qs:=fun hm=>by obtain⟨e',sz',bG,LF⟩:=IS.2 id hm;exact hnr _ _ _ _ LF
 have hH1:(kill st.H ms)[id]?=some ob:=by rw[fF aFy];exact hH
 have aDb:=hs1.ob id _ hH1
 obtain⟨g,cs,T,hk0,hgc,XO,bb,hbb,hbz⟩:=aDb.cs B9
 have hgl:g<w.heap.size:=(Array.getElem?_eq_some_iff.1 hgc).1
 have hq:∀m e sz rows,st.H[m]?=some (.row .uq e sz rows)→∃v cs ns,κ m=some v∧0<sz∧(∀r∈rows,r.length=sz)∧w.ownsRow 0 e sz v rows.length cs∧jN w cs rows.flatten ns∧ns.Nodup∧(∀b∈ns,ρ1 b=m+1)∧∀g,v.ownBlock=some g→Θ1 g=m+2:=by
  intro m e sz rows hH
  have hnm:m∉ms:=fun hm=>by
   obtain⟨e',sz',bG,LF⟩:=IS.1 m hm
   rw[hH]at LF;cases LF
  have hH1:(kill st.H ms)[m]?=some (.row .uq e sz rows):=by rw[fF hnm];exact hH
  obtain⟨v,cs,ns,r1,r2,r3,r4,r5⟩:=hu1.rows m e sz rows hH1
  obtain⟨p1,p2,v2,_,_,p3,_,_,p4,_⟩:=hs1.ob m _ hH1
  rw[r1]at p3;cases p3
  exact⟨v,cs,ns,r1,p1,p2,r2,r3,r4,r5,p4⟩
 obtain⟨bs,ts,us,RX,O8⟩:=IJ (w:=w) (vs:=.agg cs::xr.map a.eval) (fun b hb=>(hu1.free b hb).1) hq hs.o4 IR TT (by simp) (fun i d hd=>by
  cases i with
  |zero=>
   simp at hd;subst hd
   have:=TF.agg _ _ _ hbb
   exact⟨_,bb,rfl,.v (by simpa using this),hbz⟩
  |succ i=>
   rw[List.getElem?_cons_succ,List.getElem?_map]at hd
   cases hx:xr[i]? with
   |none=>rw[hx]at hd;cases hd
   |some x=>
    rw[hx]at hd;simp only[Option.map_some,Option.some.injEq]at hd;subst hd
    obtain⟨b,r,z⟩:=hs.ev x
    exact⟨a.eval x,b,by simp[hx],r,fun y hy=>ZK y (z y hy)⟩) hm1
 let Θc:Nat→Nat:=fun b=>if Θ1 b=0 then 0 else 1
 have QX:∀b,Θc b=0↔Θ1 b=0:=fun b=>by simp only[Θc];split<;>simp_all
 have a1h:∀b∈ts,∃m∈qs,Θ1 b=m+2:=fun b hb=>(O8.top b hb).1
 have aG0:∀b∈ts,b≠g:=fun b hb e=>by
  obtain⟨m,hm,hΘ⟩:=a1h b hb
  subst e;rw[XO]at hΘ
  exact aFz (by
   have:id=m:=by omega
   rw[this];exact hm)
 have XX:T4 w fun b=>b=g∨b∈ts:=by
  obtain⟨B,v1,v2⟩:=hs1.vsb
  refine⟨B,v1,fun b hB=>⟨(v2 b hB).2.1,fun hb'=>?_⟩⟩
  have hm:BM Γ b:=by
   rcases hb' with rfl|hb'
   ·exact hs1.mine b (by omega)
   ·obtain⟨m,hm,hΘ⟩:=a1h b hb'
    exact hs1.mine b (by omega)
  rcases hm with q|q
  ·have:=(v2 b hB).1;omega
  ·exact(v2 b hB).2.2 q
 have hwr:∀b∈us,Wr w b:=by
  intro b hb
  rcases O8.mem b hb with h|⟨m,hm,hρ⟩
  ·exact WC RX b h
  ·exact(hu1.free b (by omega)).2.2
 have hc:=mX.2 w Θc g cs T (xr.map a.eval) bs ts us XX hgc RX (fun b hb=>(QX b).2 (O8.zero b hb)) (fun b hb=>hs1.own b (fun e=>hb ((QX b).2 e))) (fun b=>by simp only[Θc];split<;>omega)
  (by simp only[Θc];rw[if_neg (by omega)]) (fun b hb=>by
   obtain⟨m,hm,hΘ⟩:=a1h b hb
   exact⟨by simp only[Θc];rw[if_neg (by omega)],(O8.top b hb).2,aG0 b hb⟩) O8.nd (fun b hb=>⟨fun hnt=>by
   rcases O8.mem b hb with h|⟨m,hm,hρ⟩
   ·exact absurd h hnt
   ·exact(QX b).2 (hu1.free b (by omega)).1,hwr b hb⟩)
 refine wpList_plain hg fun K hK=>?_
 unfold Oper.wp
 rw[xN hop mX.1,Oper.upon_enter]
 have e0:xs.map a.eval=(.pointer (some ⟨g,0,none⟩)::xr.map a.eval).toArray:=by
  obtain⟨b0,r0,_⟩:=hs.ev x0
  rw[hx0]at r0
  obtain⟨g',hk',hv⟩:=r0.zO
  rw[hk0]at hk';cases hk'
  rw[←Array.toList_inj,Array.toList_map,hxs]
  simp[hv]
 rw[e0]
 refine hc.mono ?_
 rintro x w' ⟨v,cs',T',b2,t2,u2,b3,t3,u3,rfl,k1,k2,k3,k4,aBa,kg,aG1,kcs,kb,knd,ku,kt⟩
 show K (a.put o.dst v) w'
 rw[hd]
 let N:=st.H.length
 have hs2:=hs1.forget (id::qs)
 have hNl:(kill st.H ms).length=N:=dO _ _
 simp only[hNl]at hs2
 let Θ2:Nat→Nat:=fun b=>if(id::qs).any (fun m=>Θ1 b==m+2)then N+2 else Θ1 b
 have hs2:bN Γ ⟨st.σ,kill (kill st.H ms) (id::qs)⟩ κ Θ2 a w:=hs2
 have a6J:∀b,Θ1 b=0→Θ2 b=0:=fun b hb=>by
  simp only[Θ2]
  rw[if_neg,hb]
  intro h
  obtain⟨m,_,hm⟩:=List.any_eq_true.1 h
  simp[hb]at hm
 have WJ:∀b,b=g∨b∈ts→Θ2 b=N+2:=by
  intro b hb
  simp only[Θ2]
  rw[if_pos]
  rcases hb with rfl|hb
  ·exact List.any_eq_true.2 ⟨id,by simp,by simp[XO]⟩
  ·obtain⟨m,hm,hΘ⟩:=a1h b hb
   exact List.any_eq_true.2 ⟨m,by simp[hm],by simp[hΘ]⟩
 have hu2:BA Γ (kill (kill st.H ms) (id::qs)) κ Θ2 w ρ1:=by
  refine⟨fun b hb=>?_,fun j e sz rows hj=>?_,fun j o hj=>?_⟩
  ·obtain⟨q1,q2⟩:=hu1.free b hb
   exact⟨a6J b q1,q2⟩
  ·rcases rE hj with h|⟨_,h⟩
   ·cases h
   ·exact hu1.rows j e sz rows h
  ·rcases rE hj with h|⟨_,h⟩
   ·subst h;trivial
   ·exact hu1.more j o h
 obtain⟨Lb,a1,a2,a3,a4,a5⟩:=kcs.inst N
 obtain⟨Ld,c1,c2,c3,c4,c5⟩:=aG1.inst (N+(l9 N cells').2.length)
 have aG2:Lb.length=(l9 N cells').2.length:=by rw[←a1];simp
 let L:=Lb++Ld
 have hbl:u3++u2=L.flatMap Fs.bl:=by simp[L,a3,c3]
 have aG3:t3++t2=L.flatMap Fs.ts:=by simp[L,a4,c4]
 rw[hbl]at knd ku kt
 rw[aG3]at kt kb
 have aBb:∀x∈L,x.ok w':=fun x hx=>by
  rcases List.mem_append.1 hx with hx|hx
  ·exact a2 x hx
  ·exact c2 x hx
 let κ':Nat→Option Value:=fun j=>if j<N then κ j else(L[j-N]?).map Fs.v
 let Θ':Nat→Nat:=fun b=>if b=g then id+2 else match WI L b with|some i=>N+i+2|none=>if Θ2 b=N+2 then 0 else Θ2 b
 let ρ':Nat→Nat:=fun b=>match BJ L b with|some i=>N+i+1|none=>ρ1 b
 have hgt:g∉L.flatMap Fs.bl:=fun h=>(ku g h).2.1 rfl
 have aDd:Θ' g=id+2:=by simp[Θ']
 have a8t:∀(i:Nat) x b,L[i]?=some x→x.v.ownBlock=some b→Θ' b=N+i+2:=by
  intro i x b hx hb
  have hb':b∈L.flatMap Fs.ts:=List.mem_flatMap.2 ⟨x,List.mem_of_getElem? hx,by simp[Fs.ts,hb]⟩
  have hne:b≠g:=fun e=>hgt (e▸U2 hb')
  simp only[Θ',a05 knd hx hb]
  rw[if_neg hne]
 have U4:∀b,b≠g→b∉L.flatMap Fs.ts→Θ' b=if Θ2 b=N+2 then 0 else Θ2 b:=by
  intro b h1 h2
  simp only[Θ',LK h2]
  rw[if_neg h1]
 have hzero:∀b,w.heap.size≤b→Θ2 b=0:=fun b hge=>by
  cases h:Θ2 b with
  |zero=>rfl
  |succ m=>exact absurd (hs2.own b (by omega)) (by omega)
 have aDe:∀b∈b3++b2,Θ' b=0:=by
  intro b hb
  obtain⟨p1,p2,p3⟩:=kb b hb
  rw[U4 b p2 p3]
  by_cases hlt:b<w.heap.size
  ·rcases p1 hlt with h|h
   ·rw[a6J b ((QX b).1 h)];simp
   ·rw[if_pos (WJ b (.inr h))]
  ·rw[hzero b (by omega)];simp
 have aDf:∀(i:Nat) x b,L[i]?=some x→b∈x.ns→Θ' b=0:=by
  intro i x b hx hb
  have hmem:=CH hx hb
  rw[U4 b (ku b hmem).2.1 (U3 knd hx hb)]
  rcases(ku b hmem).1 with h|h
  ·rw[hzero b h];simp
  ·rcases O8.mem b h with h|⟨m,hm,hρ⟩
   ·rw[if_pos (WJ b (.inr h))]
   ·rw[a6J b (hu1.free b (by omega)).1];simp
 have hn:∀(j:Nat) v,κ j=some v→κ' j=some v:=by
  intro j v hj
  have:j<N:=Classical.byContradiction fun h=>by rw[hs.oG j (by omega)]at hj;cases hj
  simp only[κ'];rw[if_pos this];exact hj
 have AA:Names κ' N L:=by
  intro i x hx
  simp only[κ']
  rw[if_neg (by omega),Nat.add_sub_cancel_left,hx];rfl
 have aDg:∀b∈L.flatMap Fs.ts,BM Γ b:=by
  intro b hb
  rcases(kt b hb).2 with h|h
  ·exact .inl (Nat.le_trans hs.base h)
  ·obtain⟨m,hm,hΘ⟩:=a1h b h
   exact hs1.mine b (by omega)
 have k:fD w w' Θ2 Θ' (N+2):=by
  refine⟨by omega,k1,k2,k3,k4,fun b hlt hne=>aBa b hlt (fun e=>hne (WJ b (.inl e))) (fun e=>hne (WJ b (.inr e))),fun b hlt hne=>?_,fun b hb=>?_⟩
  ·rw[U4 b (fun e=>hne (WJ b (.inl e))) (fun e=>?_),if_neg hne]
   rcases(kt b e).2 with h|h
   ·omega
   ·exact hne (WJ b (.inr h))
  ·by_cases e:b=g
   ·subst e;omega
   ·by_cases ht':b∈L.flatMap Fs.ts
    ·obtain⟨x,T,hx⟩:=(ku b (U2 ht')).2.2
     exact(Array.getElem?_eq_some_iff.1 hx).1
    ·rw[U4 b e ht']at hb
     split at hb
     ·exact absurd rfl hb
     ·exact Nat.lt_of_lt_of_le (hs2.own b hb) k4
 have hm:∀b,2≤Θ' b→BM Γ b:=by
  intro b hb
  by_cases e:b=g
  ·subst e;exact hs1.mine b (by omega)
  ·by_cases ht':b∈L.flatMap Fs.ts
   ·exact aDg b ht'
   ·rw[U4 b e ht']at hb
    split at hb
    ·omega
    ·exact hs2.mine b hb
 have uB:=hs2.nO k hn hu2
 have a1i:((kill st.H (ms++qs)).set id (ob.re (l9 N cells').1)).length=N:=by simp[dO,N]
 have aDh:∀(a_ bs:List Nat) (H:List Ob),kill H (a_++bs)=kill (kill H a_) bs:=by
  intro a_
  induction a_ with
  |nil=>intro bs H;rfl
  |cons x a_ ih=>intro bs H;simp only[List.cons_append,kill,ih]
 have aG4:(l9 N cells').2++(oH (N+(l9 N cells').2.length) d).2=L.map Fs.ob:=by simp[L,a1,c1]
 have key:∀(j:Nat) y,((kill st.H (ms++qs)).set id (ob.re (l9 N cells').1)++L.map Fs.ob)[j]?=some y→(∃i x,j=N+i∧L[i]?=some x∧y=x.ob)∨(j=id∧y=ob.re (l9 N cells').1)∨(j≠id∧j<N∧(y=.gone∨(kill (kill st.H ms) (id::qs))[j]?=some y)):=by
  intro j y hj
  by_cases hlt:j<N
  ·rw[List.getElem?_append_left (by rw[a1i];exact hlt)]at hj
   rcases zS j y hj with⟨rfl,rfl⟩|⟨h1,h2⟩
   ·exact .inr (.inl ⟨rfl,rfl⟩)
   ·refine .inr (.inr ⟨h1,hlt,?_⟩)
    rcases rE h2 with h|⟨h3,h4⟩
    ·exact .inl h
    ·refine .inr ?_
     simp only[List.mem_append,not_or]at h3
     rw[fF (by simp[h1,h3.2]),fF h3.1];exact h4
  ·rw[List.getElem?_append_right (by omega),a1i,List.getElem?_map]at hj
   cases hx:L[j-N]? with
   |none=>simp[hx]at hj
   |some x=>simp[hx]at hj;exact .inl ⟨j-N,x,by omega,hx,hj.symm⟩
 have hs':bN Γ ⟨st.σ,(kill st.H (ms++qs)).set id (ob.re (l9 N cells').1)++L.map Fs.ob⟩ κ' Θ' a w':=by
  have ZU:∀(j:Nat) y,(kill (kill st.H ms) (id::qs))[j]?=some y→y≠ .gone→∀b,ρ1 b=j+1→ρ' b=j+1:=by
   intro j y hy hyg b aG5
   have hjk:j∉id::qs:=by
    rcases rE hy with h|h
    ·exact absurd h hyg
    ·exact h.1
   have hnb:BJ L b=none:=by
    cases hi:BJ L b with
    |none=>rfl
    |some i=>
     exfalso
     obtain⟨x,hx,FR⟩:=DD hi
     obtain⟨z0,_,aIK,T'',aG6⟩:=hu1.free b (by omega)
     rcases(ku b (CH hx FR)).1 with h|h
     ·have:=(Array.getElem?_eq_some_iff.1 aG6).1;omega
     ·rcases O8.mem b h with h|⟨m,hm',hρ⟩
      ·obtain⟨m,hm',hΘ⟩:=a1h b h;omega
      ·exact hjk (by
        have:j=m:=by omega
        rw[this];simp[hm'])
   simp only[ρ',hnb];exact aG5
  refine hs2.step k hm hn ?_ ?_ ?_ ⟨ρ',?_,?_,?_⟩
  ·intro i hi
   simp only[List.length_append,a1i,List.length_map]at hi
   simp only[κ']
   rw[if_neg (by omega),List.getElem?_eq_none (by omega)];rfl
  ·intro i u zQ
   simp only[κ']at zQ
   split at zQ
   ·exact hs.o4 i u zQ
   ·cases hx:L[i-N]? with
    |none=>simp[hx]at zQ
    |some x=>simp[hx]at zQ;subst zQ;exact(aBb x (List.mem_of_getElem? hx)).2.2.2.2
  ·intro j y hj
   rcases key j y hj with⟨i,x,rfl,hx,rfl⟩|⟨rfl,rfl⟩|⟨hji,hjl,hy|hy⟩
   ·obtain⟨q1,q2,q3,q4,_⟩:=aBb x (List.mem_of_getElem? hx)
    exact .inr (.inr ⟨q1,q2,x.v,x.cs,x.ns,AA i x hx,q3,q4,fun g' hg'=>a8t i x g' hx hg',fun b hb'=>aDf i x b hx hb'⟩)
   ·refine .inr (.inr (w9.aCx B9 aDb (hn _) ⟨g,cs',T',hn _ _ hk0,kg,aDd,b3,a5 κ' AA.left,fun b hb=>aDe b (by simp[hb])⟩))
   ·exact .inl hy
   ·exact .inr (.inl ⟨by omega,hy⟩)
  ·intro b hb
   cases a1c:BJ L b with
   |some i=>
    obtain⟨x,hx,FR⟩:=DD a1c
    have hmem:=CH hx FR
    refine⟨aDf i x b hx FR,?_,(ku b hmem).2.2⟩
    rcases(ku b hmem).1 with h|h
    ·exact .inl (.inl (Nat.le_trans hs.base h))
    ·rcases O8.mem b h with h|⟨m,hm',hρ⟩
     ·obtain⟨m,hm',hΘ⟩:=a1h b h
      exact .inl (hs1.mine b (by omega))
     ·exact(hu1.free b (by omega)).2.1
   |none=>
    simp only[ρ',a1c]at hb
    exact uB.1 b hb
  ·intro j e sz rows hj
   rcases key j _ hj with⟨i,x,rfl,hx,hy⟩|⟨rfl,hy⟩|⟨hji,hjl,hy|hy⟩
   ·simp only[Fs.ob,Ob.row.injEq,true_and]at hy
    obtain⟨rfl,rfl,rfl⟩:=hy
    obtain⟨q1,q2,q3,q4,_⟩:=aBb x (List.mem_of_getElem? hx)
    exact⟨x.v,x.cs,x.ns,AA i x hx,q3,q4,a07 knd hx,fun b hb'=>by simp only[ρ',U1 knd hx hb']⟩
   ·cases ob<;>simp[Ob.re]at hy
   ·cases hy
   ·obtain⟨v',c',bs',r1,r2,r3,r4,r5⟩:=uB.2.1 j e sz rows (by omega) hy
    exact⟨v',c',bs',r1,r2,r3,r4,fun b hb'=>ZU j _ hy (by simp) b (r5 b hb')⟩
  ·intro j y hj
   rcases key j _ hj with⟨i,x,rfl,hx,hy⟩|⟨rfl,hy⟩|⟨hji,hjl,hy|hy⟩
   ·subst hy;exact SJ.yN rfl
   ·subst hy;cases ob<;>exact SJ.yN rfl
   ·subst hy;trivial
   ·by_cases hg:y=.gone
    ·subst hg;trivial
    ·exact(uB.2.2 j y (by omega) hy).re (ZU j y hy hg)
 rw[aG4]at h
 refine hK _ _ (h _ _ _ _ (hs'.set (t:=t) ht (c5 κ' ?_) fun b hb=>aDe b (by simp[hb])))
 rw[←aG2];exact AA.right
def WK(P:Program)(f:FuncId)(ds cells:List D):Prop:=
 (∃fn,P.funcs[f]?=some fn∧fn.body.isSome=true∧(fn.name== "runtime.NumGoroutine")=false)∧
 ∀(w:World) (Θ:Nat→Nat) (args:List Value) (bs:List Nat),T4 w (fun _=>False)→Rda w args ds bs→(∀b∈bs,Θ b=0)→(∀b,Θ b≠0→b<w.heap.size)→(∀b,Θ b≤1)→
  Calls P f args.toArray w (fun e w'=>∃g cs T bs',e=.returned (.pointer (some ⟨g,0,none⟩))∧Below w.heap.size w w'∧w.heap.size≤g∧w'.heap[g]?=some (.cells cs T (0,0))∧jN w' cs.toList cells bs'∧
   ∀b∈bs',(b<w.heap.size→Θ b=0)∧b≠g)
def aDi(P:Program)(fn:Func)(cells:List D)(e:Exit)(st:St):Prop:=
 (e=.ret∨e=.normal)∧∃j,FT P st fn.results.toList=some [.ptr j 0]∧st.H[j]?=some (.box cells)∧cells.all D.ZA=true
theorem WK.of{f:FuncId}{fn:Func}{c:Code}{ds cells:List D}(hf:P.funcs[f]?=some fn)(hb:fn.body=some c)(hn:(fn.name== "runtime.NumGoroutine")=false)
 (hl:ds.length≤fn.ntmps) (h:(∀d∈ds,bR d)→∀Γ:uK,Γ.nt=fn.ntmps→AW P Γ c (aDi P fn cells) ⟨zA 0 ds,[]⟩):WK P f ds cells:=by
 refine⟨⟨fn,hf,by simp[hb],hn⟩,?_⟩
 intro w Θ args bs hvs hargs hz hown h1
 obtain⟨hlen,hat⟩:=hargs.at
 refine calls_of_wp hf hb ?_
 let Γ:uK:=⟨w,Θ,fun _=>False,fn.ntmps,fun _=>False,hvs⟩
 have hs:bN Γ ⟨zA 0 ds,[]⟩ (fun _=>none) Θ {tmps:=args.toArray++Array.replicate (fn.ntmps-args.toArray.size) undef,defers:=[]} w:=by
  refine⟨rfl,?_,fun _ _=>rfl,by simp,?_,by simp,hown,fun b _ _=>⟨rfl,h1 b⟩,fun b hb=>by have:=h1 b;omega,⟨rfl,rfl,rfl,Nat.le_refl _,fun _ _ _=>rfl⟩,⟨fun _=>0,by simp,by simp,by simp⟩⟩
  ·simp[Γ];omega
  ·intro t
   rw[FU]
   simp only[Nat.not_lt_zero,if_false,Nat.sub_zero]
   cases hd:ds[t]? with
   |none=>exact⟨[],.of (.any _),by simp⟩
   |some x=>
    obtain⟨v,b,k1,k2,k3⟩:=hat t x hd
    refine⟨b,?_,fun y hy=>hz y (k3 y hy)⟩
    have hlt:t<args.length:=(List.getElem?_eq_some_iff.1 k1).1
    have:(args.toArray++Array.replicate (fn.ntmps-args.toArray.size) undef).getD t undef=v:=by
     rw[Array.getD_eq_getD_getElem?,Array.getElem?_append_left (by simpa using hlt)]
     simp[k1]
    rw[this]
    exact .of k2
 refine wp_mono (h hargs.rdb Γ rfl _ _ _ _ hs) ?_
 rintro e a' w' ⟨st0,κ0,Θ0,hs0,IR,j,hres,hH,hp⟩
 obtain⟨vs,bs',m1,m2,m3,m4,m5⟩:=CF hs0 hres
 obtain⟨v,b,n1,n2,_⟩:=m4 0 _ rfl
 obtain⟨g,hk,hv⟩:=n2.zO
 obtain⟨g',cs,T,hk',hg,hΘ,bb,hbb,hbz⟩:=hs0.ob j _ hH
 rw[hk]at hk';cases hk'
 have aG7:vs=[v]:=by
  simp only[List.length_cons,List.length_nil]at m3
  match vs,m2,n1 with
  | [],_,n1=>simp at n1
  | [x],_,n1=>simp at n1;rw[n1]
  |x::y::r,m2,_=>simp only[List.length_cons]at m2;omega
 have hrun:(results fn a'.tmps).run P w'=.ok (.pointer (some ⟨g,0,none⟩)) w':=by
  rw[results_eq,Array.mapM_eq_mapM_toList]
  simp[m1,aG7,hv]
 have TU:Below w.heap.size w w':=⟨hs0.stays.os,hs0.stays.tape,hs0.stays.output,hs0.stays.size,fun b hb=>hs0.stays.block b hb (fun h=>h)⟩
 have hgm:w.heap.size≤g:=by
  rcases hs0.mine g (by omega)with q|q
  ·exact q
  ·exact q.elim
 have post:a'.defers=[]∧∃v,(results fn a'.tmps).run P w'=.ok v w'∧∃g cs T bs',Ending.returned v=.returned (.pointer (some ⟨g,0,none⟩))∧Below w.heap.size w w'∧w.heap.size≤g∧w'.heap[g]?=some (.cells cs T (0,0))∧jN w' cs.toList cells bs'∧
  ∀b∈bs',(b<w.heap.size→Θ b=0)∧b≠g:=by
  refine⟨hs0.defers,_,hrun,g,cs,T,bb,rfl,TU,hgm,hg,hbb.pure hp,fun b hb'=>⟨fun hlt=>?_,fun e=>?_⟩⟩
  ·exact(hs0.old b hlt (fun h=>h)).1.symm.trans (hbz b hb')
  ·have:=hbz b hb';subst e;omega
 rcases IR with rfl|rfl
 ·exact post
 ·exact post
theorem a6K{o:Oper}{f t:Nat}{xs:Array Operand}{ts:Array TypeId}{ds cells:List D}(hop:o.op=.call {callee:=.value (.func f),args:=xs,argTypes:=ts})(hd:o.dst=some t)(hg:o.guard=none)
 (ht:t<Γ.nt) (hds:LG st.H (xs.toList.map st.ev)=some (ds,[])) (mX:WK P f ds cells)
 (h:AO P Γ all rest Q ⟨(t,.ptr st.H.length 0)::st.σ,st.H++[.box cells]⟩):AO P Γ all (o::rest) Q st:=by
 intro κ Θ a w hs
 obtain⟨bs,hargs,hz⟩:=T7 hs hds
 have yL:∀b∈bs,Θ b=0:=fun b hb=>(hz b hb).elim id (fun⟨m,h1,_⟩=>by cases h1)
 let Θc:Nat→Nat:=fun b=>if Θ b=0 then 0 else 1
 have QX:∀b,Θc b=0↔Θ b=0:=fun b=>by simp only[Θc];split<;>simp_all
 have hc:=mX.2 w Θc _ bs hs.vok hargs (fun b hb=>(QX b).2 (yL b hb)) (fun b hb=>hs.own b (fun e=>hb ((QX b).2 e))) (fun b=>by simp only[Θc];split<;>omega)
 refine wpList_plain hg fun K hK=>?_
 unfold Oper.wp
 rw[xN hop mX.1,Oper.upon_enter]
 have e:xs.map a.eval=(xs.toList.map a.eval).toArray:=by rw[←Array.toList_map,Array.toArray_toList]
 rw[e]
 refine hc.mono ?_
 rintro e w' ⟨g,cs,T,bs',rfl,hb,hge,hg',hrd,hbb⟩
 show K (a.put o.dst (.pointer (some ⟨g,0,none⟩))) w'
 rw[hd]
 let Θ':Nat→Nat:=fun b=>if b=g then st.H.length+2 else Θ b
 have k:fD w w' Θ Θ' (st.H.length+2):=by
  refine⟨by omega,hb.os,hb.tape,hb.output,hb.size,fun b hlt _=>hb.block b hlt,fun b hlt _=>?_,fun b hb'=>?_⟩
  ·simp only[Θ'];rw[if_neg (by omega)]
  ·simp only[Θ']at hb'
   split at hb'
   ·rename_i e;subst e;exact(Array.getElem?_eq_some_iff.1 hg').1
   ·exact Nat.lt_of_lt_of_le (hs.own b hb') hb.size
 have hbz:∀b∈bs',Θ' b=0:=by
  intro b hb'
  obtain⟨h1,h2⟩:=hbb b hb'
  simp only[Θ'];rw[if_neg h2]
  by_cases hlt:b<w.heap.size
  ·exact(QX b).1 (h1 hlt)
  ·cases h:Θ b with
   |zero=>rfl
   |succ m=>exact absurd (hs.own b (by omega)) hlt
 have hs':=hs.push (o:=.box cells) (v:=.pointer (some ⟨g,0,none⟩)) rfl k (hs.A7 (fun b hb'=>by
  simp only[Θ']at hb'
  split at hb'
  ·rename_i e;subst e;exact .inr hge
  ·exact .inl hb')) ⟨g,cs,T,iN _ _ _,hg',by simp[Θ'],bs',c8.E8 hrd,hbz⟩ rfl
 refine hK _ _ (h _ _ _ _ (hs'.set (t:=t) (d:=.ptr st.H.length 0) (bs:=[]) ht ?_ (by simp)))
 exact(yK.ptr st.H.length 0 g (iN _ _ _)).XC
theorem a8u{o:Oper}{T t id e e' sz h:Nat}{kk:IntKind}{x hi:Operand}{rows:List (List D)}(hop:o.op=.slice T x none (some hi) none)(hd:o.dst=some t)(hg:o.guard=none)(ht:t<Γ.nt)
 (hT:IG P T=some (e',sz)) (hx:st.ev x=.acc id) (hH:st.H[id]?=some (.row .uq e sz rows)) (hhi:st.ev hi=.int kk (h:Int)) (hle:h≤rows.length)
 (hn:AO P Γ all rest Q ⟨(t,.acc st.H.length)::st.σ,kill st.H [id]++[.row .uq e sz (rows.take h)]⟩):AO P Γ all (o::rest) Q st:=by
 intro κ Θ a w hs
 obtain⟨hsz,hrl,v,cs0,bs0,hk,aA1,aIL,FN,yL⟩:=hs.ob id _ hH
 obtain⟨ρ,hu⟩:=hs.tC
 obtain⟨v2,cs,bs,hk2,hown,hrd,hnd,hρ⟩:=hu.rows id e sz rows hH
 rw[hk]at hk2;cases hk2
 obtain⟨bx,rx,_⟩:=hs.ev x
 rw[hx]at rx
 obtain⟨hkx,_⟩:=rx.vC
 have hvx:a.eval x=v:=by rw[hk]at hkx;cases hkx;rfl
 let v':Value:=match v with| .slice q _ cap=>.slice q h cap|u=>u
 have hc:SK rows.length ((none:Option Operand).map st.ev) ((some hi).map st.ev)=some (0,h):=by
  simp[SK,hhi,hle]
 have hrun:∃q cap,v=.slice q rows.length cap∧v'=.slice q h cap∧(execOp a.eval o).run P w=.ok (.value v') w:=by
  obtain⟨zQ,QO,O3⟩:=n8 hT
  have main:∀(q:Option Addr) (cap:Nat),(∀b off sp,q=some ⟨b,off,sp⟩→off=0∧sp=none)→v=.slice q rows.length cap→rows.length≤cap→(execOp a.eval o).run P w=.ok (.value (.slice q h cap)) w:=by
   intro q cap hq0 hq hcap
   obtain⟨hr,hl,hh⟩:=XE (P:=P) (isSlice:=true) (cap:=cap) hs hcap hc
   have aIM:(if cap=0 then q else q.map (·.add (0*sz)))=q:=by
    split
    ·rfl
    ·cases q with
     |none=>rfl
     |some ad=>simp[Addr.add]
   simp only[Option.map_none,Option.map_some]at hr
   simp only[execOp,hop,hvx,hq]
   simp[Instr.sliceAt,Instr.slice,run_underlying zQ,hr,uM (P:=P) QO w]
   intro hc0
   cases q with
   |none=>rfl
   |some ad=>simp[Addr.add]
  rcases hown.2 with⟨rfl,h0⟩|⟨g,cap,cur,rfl,_,XH,hnc,hcm,hcs,htk⟩
  ·exact⟨none,0,by rw[h0],rfl,main none 0 (by simp) (by rw[h0]) (by omega)⟩
  ·exact⟨some ⟨g,0,none⟩,cap,rfl,rfl,main _ _ (by simp) rfl hnc⟩
 obtain⟨q,cap,hvq,a8v,hrun⟩:=hrun
 have B9:v'.ownBlock=v.ownBlock:=by rw[a8v,hvq];cases q<;>rfl
 have hone:v'.oneCell'=true:=by
  have:=hs.o4 id v hk
  rw[hvq]at this;rw[a8v];exact this
 have hsplit:∃cs' bs',w.ownsRow 0 e sz v' (rows.take h).length cs'∧jN w cs' (rows.take h).flatten bs'∧bs'.Nodup∧∀b∈bs',b∈bs:=by
  have e1:rows.flatten=(rows.take h).flatten++(rows.drop h).flatten:=by rw[←List.flatten_append,List.take_append_drop]
  have TO:=hrd
  rw[e1]at TO
  obtain⟨c1,c2,b1,b2,rfl,rfl,k1,k2⟩:=TO.split
  have htl:(rows.take h).length=h:=by rw[List.length_take];omega
  have hc1:c1.length=h*sz:=by rw[k1.length,mW (fun r hr=>hrl r (List.mem_of_mem_take hr)),htl]
  refine⟨c1,b1,?_,k1,(List.nodup_append.1 hnd).1,fun b hb=>by simp[hb]⟩
  rw[htl]
  refine⟨hc1,?_⟩
  rcases hown.2 with⟨hv0,h0⟩|⟨g,cap',cur,hvs,hbg,XH,hnc,hcm,hcs,htk⟩
  ·left
   have:h=0:=by omega
   subst this
   have e3:=hv0.symm.trans hvq
   simp only[Value.slice.injEq]at e3
   exact⟨by rw[a8v,←e3.1,←e3.2.2],rfl⟩
  ·right
   have e3:=hvs.symm.trans hvq
   simp only[Value.slice.injEq]at e3
   refine⟨g,cap',cur,by rw[a8v,←e3.1,←e3.2.2],hbg,XH,by omega,hcm,hcs,?_⟩
   have h3:(cur.toList.take (rows.length*sz)).take (h*sz)=(c1++c2).take (h*sz):=by rw[htk]
   rw[List.take_take,Nat.min_eq_left (Nat.mul_le_mul_right _ hle)]at h3
   rw[h3];exact List.take_left' hc1
 obtain⟨cs',bs',p1,p2,p3,p4⟩:=hsplit
 refine wpList_plain hg fun K hK=>?_
 unfold Oper.wp
 rw[hrun,Oper.upon_value,hd]
 let n:=st.H.length
 have a4B:id<n:=(List.getElem?_eq_some_iff.1 hH).1
 let Θ':Nat→Nat:=fun b=>if some b=v'.ownBlock then n+2 else Θ b
 let ρ':Nat→Nat:=fun b=>if ρ b=id+1 then n+1 else ρ b
 have hvt:∀g,v'.ownBlock=some g→Θ g=id+2:=fun g hgv=>FN g (B9▸hgv)
 have k:fD w w Θ Θ' (id+2):=by
  refine⟨by omega,rfl,rfl,rfl,Nat.le_refl _,fun _ _ _=>rfl,fun b hb hne=>?_,fun b hb=>?_⟩
  ·simp only[Θ']
   rw[if_neg fun e=>hne (hvt b e.symm)]
  ·simp only[Θ']at hb
   split at hb
   ·rename_i e;exact hs.own b (by rw[hvt b e.symm];omega)
   ·exact hs.own b hb
 have hm:∀b,2≤Θ' b→BM Γ b:=by
  intro b hb
  simp only[Θ']at hb
  split at hb
  ·rename_i e;exact hs.mine b (by rw[hvt b e.symm];omega)
  ·exact hs.mine b hb
 have hnn:=xH (hs.oG n (Nat.le_refl _)) (some v')
 have uB:=hs.nO k hnn hu
 have VE:∀b∈bs',Θ' b=0:=by
  intro b hb
  have h1:=(hu.free b (by rw[hρ b (p4 b hb)];omega)).1
  simp only[Θ']
  rw[if_neg fun e=>by have:=hvt b e.symm;omega]
  exact h1
 have key:∀(j:Nat) y,(kill st.H [id]++[.row .uq e sz (rows.take h)])[j]?=some y→(j=n∧y=.row .uq e sz (rows.take h))∨(j≠n∧(y=.gone∨(j∉[id]∧st.H[j]?=some y))):=by
  intro j y hj
  rcases CD j y hj with⟨h1,h2⟩|⟨h1,h2⟩
  ·rw[dO]at h1;exact .inl ⟨h1,h2⟩
  ·rw[dO]at h1
   exact .inr ⟨h1,rE h2⟩
 have hs':bN Γ ⟨st.σ,kill st.H [id]++[.row .uq e sz (rows.take h)]⟩ (yM κ n (some v')) Θ' a w:=by
  refine hs.step k hm hnn ?_ ?_ ?_ ⟨ρ',fun b hb=>?_,fun j e2 sz2 cI hj=>?_,fun j y hj=>?_⟩
  ·intro i hi
   simp only[List.length_append,List.length_cons,List.length_nil,dO]at hi
   unfold yM
   rw[if_neg (by omega)]
   exact hs.oG i (by omega)
  ·intro i y hy
   unfold yM at hy
   split at hy
   ·cases hy;exact hone
   ·exact hs.o4 i y hy
  ·intro j y hj
   rcases key j y hj with⟨rfl,rfl⟩|⟨_,hy|⟨hjk,hy⟩⟩
   ·exact .inr (.inr ⟨hsz,fun r hr=>hrl r (List.mem_of_mem_take hr),v',cs',bs',iN _ _ _,p1,p2,fun g hgv=>by simp only[Θ'];rw[if_pos hgv.symm],VE⟩)
   ·exact .inl hy
   ·exact .inr (.inl ⟨fun e=>hjk (by simp;omega),hy⟩)
  ·refine uB.1 b fun h0=>hb ?_
   simp only[ρ']
   rw[if_neg (by omega)];exact h0
  ·rcases key j _ hj with⟨rfl,hy⟩|⟨_,hy|⟨hjk,hy⟩⟩
   ·simp only[Ob.row.injEq,true_and]at hy
    obtain⟨rfl,rfl,rfl⟩:=hy
    exact⟨v',cs',bs',iN _ _ _,p1,p2,p3,fun b hb=>by simp only[ρ'];rw[if_pos (hρ b (p4 b hb))]⟩
   ·cases hy
   ·obtain⟨v3,c3,b3,q1,q2,q3,q4,q5⟩:=uB.2.1 j e2 sz2 cI (fun e=>hjk (by simp;omega)) hy
    refine⟨v3,c3,b3,q1,q2,q3,q4,fun b hb=>?_⟩
    have hne:j≠id:=fun e=>hjk (by simp[e])
    simp only[ρ']
    rw[if_neg (by rw[q5 b hb];omega)];exact q5 b hb
  ·rcases key j _ hj with⟨rfl,hy⟩|⟨_,hy|⟨hjk,hy⟩⟩
   ·subst hy;exact SJ.yN rfl
   ·subst hy;trivial
   ·refine(uB.2.2 j y (fun e=>hjk (by simp;omega)) hy).re fun b hb=>?_
    have hne:j≠id:=fun e=>hjk (by simp[e])
    simp only[ρ']
    rw[if_neg (by omega)];exact hb
 refine hK _ _ (hn _ _ _ _ (hs'.set (t:=t) (d:=.acc n) (bs:=[]) ht ?_ (by simp)))
 exact(yK.acc n _ (iN _ _ _)).XC
end
end Go.Cx
namespace Go.Cx
set_option linter.unusedVariables false
set_option linter.unusedSimpArgs false
open Go.RowKit
section
variable{P:Program}{Γ:uK}{Q:Exit→St→Prop}{st:St}{κ κ':Nat→Option Value}{Θ Θ':Nat→Nat}{a:Act}{w w':World}{all:Array Oper}{rest:List Oper}
theorem bN.aBc(hs:bN Γ st κ Θ a w):
 bN Γ ⟨st.σ,st.H++[.mp []]⟩ (yM κ st.H.length (some (.map (some w.heap.size)))) (fun b=>if b=w.heap.size then st.H.length+2 else Θ b) a (w.alloc (.map #[] 0)):=by
 have k:=fD.alloc hs (.map #[] 0) (tag:=st.H.length+2) (by omega)
 refine hs.push rfl k (hs.A7 (fun b hb=>by by_cases e:b=w.heap.size<;>simp_all)) ?_ rfl
 exact⟨w.heap.size,#[],0,by simp[yM],heap_alloc_new w _,by simp,rfl,by simp⟩
theorem a1j{o:Oper}{T t:Nat}(hop:o.op=.makeMap T none)(hd:o.dst=some t)(hg:o.guard=none)(ht:t<Γ.nt)
 (h:AO P Γ all rest Q ⟨(t,.acc st.H.length)::st.σ,st.H++[.mp []]⟩):AO P Γ all (o::rest) Q st:=by
 intro κ Θ a w hs
 have hs':=hs.aBc
 refine wpList_plain hg fun K hK=>?_
 unfold Oper.wp
 have hrun:(execOp a.eval o).run P w=.ok (.value (.map (some w.heap.size))) (w.alloc (.map #[] 0)):=by
  simp[execOp,hop,Instr.makeMap,newObj]
  rfl
 rw[hrun,Oper.upon_value,hd]
 refine hK _ _ (h _ _ _ _ (hs'.set (t:=t) (d:=.acc st.H.length) (bs:=[]) ht ?_ (by simp)))
 exact(yK.acc st.H.length _ (iN _ _ _)).XC
theorem z7.push{es:List MapEntry}{kv:List (D×D)}{k v:D}{u x:Value}(h:z7 w es kv)(hk:Rd w u k [])(hv:Rd w x v [])(c:Nat):z7 w (es++[{key:=u,val:=x,born:=c}]) (kv++[(k,v)]):=by
 refine⟨by simp[h.1],fun j e p h1 h2=>?_⟩
 by_cases hj:j<es.length
 ·rw[List.getElem?_append_left hj]at h1
  rw[List.getElem?_append_left (by rw[←h.1];exact hj)]at h2
  exact h.2 j e p h1 h2
 ·rw[List.getElem?_append_right (by omega)]at h1
  rw[List.getElem?_append_right (by rw[←h.1];omega),←h.1]at h2
  have e0:j-es.length=0:=by
   have:=(List.getElem?_eq_some_iff.1 h1).1
   simp at this;omega
  rw[e0]at h1 h2
  simp at h1 h2
  subst h1;subst h2
  exact⟨hk,hv⟩
theorem z7.put{es:List MapEntry}{kv:List (D×D)}{k v:D}{u x:Value}(h:z7 w es kv)(hk:Rd w u k [])(hv:Rd w x v [])(i:Nat){es':List MapEntry}(hl:es'.length=es.length)
 (he:∀(j:Nat) e,es'[j]?=some e→(j=i∧e.key=u∧e.val=x)∨(j≠i∧es[j]?=some e)):z7 w es' (kv.set i (k,v)):=by
 refine⟨by simp[hl,h.1],fun j e p h1 h2=>?_⟩
 rcases he j e h1 with⟨rfl,h3,h4⟩|⟨hne,h3⟩
 ·have hlt:j<kv.length:=by
   have:=(List.getElem?_eq_some_iff.1 h2).1
   simpa using this
  rw[List.getElem?_set_self hlt]at h2
  cases h2
  rw[h3,h4]
  exact⟨hk,hv⟩
 ·rw[List.getElem?_set_ne (Ne.symm hne)]at h2
  exact h.2 j e p h3 h2
theorem aBd{kd:TypeDesc}{k v:D}{u:Value}(VJ:LD kd k=true)(hu:Rd w u k []):∀ {es:List MapEntry} {kv kv':List (D×D)} (i:Nat),z7 w es kv→O1 k v kv=some kv'→
 (Instr.findNow kd u es i=some none∧kv'=kv++[(k,v)])∨∃j x e,Instr.findNow kd u es i=some (some (i+j,x))∧es[j]?=some e∧e.key=u∧kv'=kv.set j (k,v):=by
 intro es
 induction es with
 |nil=>
  intro kv kv' i hr h
  cases kv with
  |nil=>cases h;exact .inl ⟨rfl,rfl⟩
  |cons p kv=>exact absurd hr.1 (by simp)
 |cons e es ih=>
  intro kv kv' i hr h
  cases kv with
  |nil=>exact absurd hr.1 (by simp)
  |cons p kv=>
   obtain⟨r1,r2,r3⟩:=hr.cons
   simp only[O1]at h
   split at h
   ·rename_i hq
    cases h
    have:=T5 VJ hu r1 hq
    exact .inr ⟨0,e.val,e,by simp[Instr.findNow,this.1],rfl,this.2 rfl,rfl⟩
   ·rename_i hq
    have VM:=(T5 VJ hu r1 hq).1
    cases hk:O1 k v kv with
    |none=>rw[hk]at h;cases h
    |some kv1=>
     rw[hk]at h
     cases h
     rcases ih (i+1) r3 hk with⟨h1,h2⟩|⟨j,x,e',h1,h2,h3,h4⟩
     ·exact .inl ⟨by simpa[Instr.findNow,VM]using h1,by rw[h2];rfl⟩
     ·exact .inr ⟨j+1,x,e',by simp only[Instr.findNow,VM];rw[h1];congr 3;omega,by simpa using h2,h3,by rw[h4];rfl⟩
   ·cases h
theorem XZ{kd:TypeDesc}{u:Value}(h:MapKept.IsKey kd u)(n:Nat):Instr.sameBits n u u=true:=by
 cases kd<;>cases u<;>simp[MapKept.IsKey]at h<;>simp[Instr.sameBits]
 all_goals first
  |exact(MapKept.bytes_beq _ _).2 rfl
  |rfl
def D.scalar:D→Bool
 | .str _=>true
 | .int _ _=>true
 | .bool _=>true
 |_=>false
theorem a08{v:Value}{d:D}{bs:List Nat}(hd:d.scalar=true)(hu:qW w κ v d bs):Rd w v d []:=by
 cases d<;>simp[D.scalar]at hd
 all_goals cases hu with|v h=>cases h with|cell h=>cases h with|pure h=>cases h<;>(constructor<;>assumption)
theorem Y0{o:Oper}{T id:Nat}{x i y:Operand}{kd:TypeDesc}{dz:D}{kv kv':List (D×D)}(hop:o.op=.mapUpdate T x i y)(hd:o.dst=none)(hg:o.guard=none)
 (hT:a3n P T=some (kd,dz)) (hx:st.ev x=.acc id) (hH:st.H[id]?=some (.mp kv)) (VJ:LD kd (st.ev i)=true) (hsc:(st.ev y).scalar=true) (hput:O1 (st.ev i) (st.ev y) kv=some kv')
 (h:AO P Γ all rest Q ⟨st.σ,st.H.set id (.mp kv')⟩):AO P Γ all (o::rest) Q st:=by
 intro κ Θ a w hs
 obtain⟨g,es,c,q1,q2,q3,q4⟩:=hs.ob id _ hH
 obtain⟨bs,r,_⟩:=hs.ev x
 rw[hx]at r
 obtain⟨hk,_⟩:=r.vC
 rw[q1]at hk
 have hxv:a.eval x=.map (some g):=(Option.some.inj hk).symm
 obtain⟨bi,ri,_⟩:=hs.ev i
 obtain⟨by',ry,_⟩:=hs.ev y
 have hu:=VZ VJ ri
 have hv:=a08 hsc ry
 obtain⟨kt,et,z,t1,t2,t3,t4⟩:=TJ hT
 have hik:=ZI VJ hu
 have hck:=MapKept.run_checkKey (P:=P) (w:=w) t2 hik false 9999
 have aGA:g<w.heap.size:=(Array.getElem?_eq_some_iff.1 q2).1
 have a4B:id<st.H.length:=(List.getElem?_eq_some_iff.1 hH).1
 have hrun:∃es' c',(execOp a.eval o).run P w=.ok .skip {w with heap:=w.heap.setIfInBounds g (.map es' c')}∧z7 w es'.toList kv':=by
  rcases aBd VJ hu 0 q4 hput with⟨hn,rfl⟩|⟨j,x',e,hn,he,hek,rfl⟩
  ·have hfk:=MapKept.run_findKey (P:=P) (w:=w) t2 hn
   refine⟨es.push {key:=a.eval i,val:=a.eval y,born:=c},c+1,?_,?_⟩
   ·simp[execOp,hop,hxv,Instr.mapUpdate,run_underlying t1,MapKept.run_getObj_map q2,hck,hfk,MapKept.run_setObj_map _ q2]
   ·rw[Array.toList_push]
    exact q4.push hu hv c
  ·rw[Nat.zero_add]at hn
   have hfk:=MapKept.run_findKey (P:=P) (w:=w) t2 hn
   have hej:es[j]?=some e:=by simpa using he
   have hst:(Instr.keyThatStays (((es[j]?).map (·.key)).getD (a.eval i)) (a.eval i)).run P w=.ok (a.eval i) w:=by
    rw[hej]
    simp[Instr.keyThatStays,hek,XZ hik]
   refine⟨es.modify j fun e=> {e with key:=a.eval i,val:=a.eval y},c,?_,?_⟩
   ·simp[execOp,hop,hxv,Instr.mapUpdate,run_underlying t1,MapKept.run_getObj_map q2,hck,hfk,hst,MapKept.run_setObj_map _ q2]
   ·refine q4.put hu hv j (by simp) fun m e' hm=>?_
    rw[Array.getElem?_toList,Array.getElem?_modify]at hm
    by_cases hmj:j=m
    ·subst hmj
     rw[if_pos rfl,hej]at hm
     cases hm
     exact .inl ⟨rfl,rfl,rfl⟩
    ·rw[if_neg hmj]at hm
     exact .inr ⟨Ne.symm hmj,by simpa using hm⟩
 obtain⟨es',c',hr,aGC⟩:=hrun
 have aBe:∀b,b≠g→(w.heap.setIfInBounds g (.map es' c'))[b]?=w.heap[b]?:=fun b hb=>by simp[Ne.symm hb]
 have k:fD w {w with heap:=w.heap.setIfInBounds g (.map es' c')} Θ Θ (id+2):=by
  refine⟨by omega,rfl,rfl,rfl,by simp,fun b hb hne=>aBe b fun e=>hne (e▸q3),fun _ _ _=>rfl,fun b hb=>?_⟩
  simpa using hs.own b hb
 have hs':bN Γ ⟨st.σ,st.H.set id (.mp kv')⟩ κ Θ a {w with heap:=w.heap.setIfInBounds g (.map es' c')}:=by
  obtain⟨ρ,zQ⟩:=hs.tC
  have uB:=hs.nO k (fun _ _ h=>h) zQ
  refine hs.step k hs.mine (fun _ _ h=>h) (fun i hi=>hs.oG i (by simpa using hi)) hs.o4 ?_ ⟨ρ,uB.1,fun j e sz rows hj=>?_,fun j y hj=>?_⟩
  ·intro j y' hj
   by_cases e:j=id
   ·subst e
    rw[List.getElem?_set_self a4B]at hj
    cases hj
    exact .inr (.inr ⟨g,es',c',q1,by simp[aGA],q3,aGC.stay⟩)
   ·rw[List.getElem?_set_ne (Ne.symm e)]at hj
    exact .inr (.inl ⟨by omega,hj⟩)
  ·by_cases e':j=id
   ·subst e'
    rw[List.getElem?_set_self a4B]at hj
    cases hj
   ·rw[List.getElem?_set_ne (Ne.symm e')]at hj
    exact uB.2.1 j e sz rows (by omega) hj
  ·by_cases e':j=id
   ·subst e'
    rw[List.getElem?_set_self a4B]at hj
    cases hj;trivial
   ·rw[List.getElem?_set_ne (Ne.symm e')]at hj
    exact uB.2.2 j y (by omega) hj
 refine wpList_plain hg fun K hK=>?_
 unfold Oper.wp
 rw[hr,Oper.upon_skip,hd]
 exact hK _ _ (h _ _ _ _ hs')
end
end Go.Cx
namespace Go.Cx
set_option linter.unusedVariables false
set_option linter.unusedSimpArgs false
open Go.RowKit
def a09(P:Program)(f:FuncId)(e:TypeId)(sz:Nat)(rows bG:List (List D)):Prop:=
 (∃fn,P.funcs[f]?=some fn∧fn.body.isSome=true∧(fn.name== "runtime.NumGoroutine")=false)∧
 ∀(w:World) (v:Value) (cs:List Value),0<sz→(∀r∈rows,r.length=sz)→w.ownsRow 0 e sz v rows.length cs→jN w cs rows.flatten []→
  Calls P f #[v] w (fun x w'=>x=.returned (.tuple #[])∧w'.os=w.os∧w'.tape=w.tape∧w'.output=w.output∧w.heap.size≤w'.heap.size∧
   (∀b,b<w.heap.size→v.ownBlock≠some b→w'.heap[b]?=w.heap[b]?)∧(∀r∈bG,r.length=sz)∧∃cs',w'.ownsRow 0 e sz v bG.length cs'∧jN w' cs' bG.flatten [])
section
variable{P:Program}{Γ:uK}{Q:Exit→St→Prop}{st:St}{κ:Nat→Option Value}{Θ:Nat→Nat}{a:Act}{w:World}{all:Array Oper}{rest:List Oper}
theorem a6L{o:Oper}{f id e sz:Nat}{x:Operand}{ts:Array TypeId}{k0:RK}{rows bG:List (List D)}(hop:o.op=.call {callee:=.value (.func f),args:= #[x],argTypes:=ts})(hd:∀t,o.dst=some t→t<Γ.nt)(hg:o.guard=none)
 (hx:st.ev x=.acc id) (hH:st.H[id]?=some (.row k0 e sz rows)) (hk0:k0.hand=true) (hfl:rows.flatten.all D.flat=true) (mX:a09 P f e sz rows bG)
 (h:AO P Γ all rest Q (St.put ⟨st.σ,st.H.set id (.row k0 e sz bG)⟩ o.dst (.iJ []))):AO P Γ all (o::rest) Q st:=by
 intro κ Θ a w hs
 obtain⟨b1,r1,_⟩:=hs.ev x
 rw[hx]at r1
 obtain⟨hkv,_⟩:=r1.vC
 obtain⟨hsz,hrl,v,cs,bs,hk1,hown,hrd,FN,hz⟩:=hs.ob id _ hH
 rw[hkv]at hk1
 cases hk1
 have FM:=hrd.flat hfl
 subst FM
 obtain⟨ρ,hu⟩:=hs.tC
 refine wpList_plain hg fun K hK=>?_
 unfold Oper.wp
 rw[xN hop mX.1,Oper.upon_enter]
 have e1:(#[x]:Array Operand).map a.eval= #[a.eval x]:=by simp
 rw[e1]
 refine(mX.2 w _ cs hsz hrl hown hrd).mono ?_
 rintro e' w' ⟨rfl,k1,k2,k3,k4,k5,SN,cs',O7,TO⟩
 have kk:fD w w' Θ Θ (id+2):=⟨by omega,k1,k2,k3,k4,fun b hb ht=>k5 b hb fun e=>ht (FN b e),fun _ _ _=>rfl,fun b hb=>Nat.lt_of_lt_of_le (hs.own b hb) k4⟩
 have hs':bN Γ ⟨st.σ,st.H.set id (.row k0 e sz bG)⟩ κ Θ a w':=by
  refine hs.put [] zS (fun _ _ h=>h) (fun i hi=>hs.oG i (by simpa using hi)) hs.o4 kk hs.mine ?_ hu (by simp) ?_ ?_
  ·refine⟨hsz,SN,_,cs',[],hkv,O7,TO,FN,?_⟩
   cases k0 with
   |cl=>simp[RK.hand]at hk0
   |mv n=>simp[RK.hand]at hk0
   |sh=>simp
   |uq=>simp
  ·intro e2 sz2 cI he
   cases he
   exact⟨_,cs',[],hkv,O7,TO,by simp,by simp⟩
  ·cases k0 with
   |mv n=>simp[RK.hand]at hk0
   |_=>rfl
 show K (a.put o.dst (.tuple #[])) w'
 refine hK _ _ (h κ Θ _ w' ?_)
 cases XI:o.dst with
 |none=>exact hs'
 |some t=>exact hs'.set (hd t XI) (.iJ [] [] [] .nil) (by simp)
end
end Go.Cx
namespace Go.Cx
set_option linter.unusedVariables false
set_option linter.unusedSimpArgs false
open Go.RowKit
inductive An where
 |b (v:Bool)
 |row (r:List D)
 |ix (i:Nat)
 |ch (x:UInt8)
 |cut (l h:Nat)
 |d (x:D)
 |fl (v:Bool)
 |n (k:Nat)
 |n2 (π ρ:List Nat) (k m:Nat) (L X:List Nat)
 |sk (id:Nat)
 |VP (t:Nat)
 |pb (id off e sz:Nat)
 |vw (t:Nat)
 |cn (K o:List Nat)
 |hl (m:Nat) (K o:List Nat)
 |mu (id:Nat) (rows:List (List D))
 |dc (x:D)
 |gv (ms:List Nat) (outs:List Rw) (d:D)
 |mg (id i off:Nat) (r:List D)
 |ov (id:Nat) (rows:List (List D))
 |kv (m:List (D×D))
 |gp (nz:List (List (Option (Nat×Nat)))) (cells:List D) (d:D)
 |dn (cells:List D)
 |fz
 |nl (x:D)
 |ds (x:D)
 |mz (id:Nat)
 |tk (r:List D)
abbrev EC:=List Prop
def yP:EC→Prop
 | []=>True
 |p::ps=>p∧yP ps
theorem yP.app{p q:EC}(h:yP (p++q)):yP p∧yP q:=by
 induction p with
 |nil=>exact⟨trivial,h⟩
 |cons x p ih=>exact⟨⟨h.1,(ih h.2).1⟩,(ih h.2).2⟩
def IT(P:Program)(st:St)(op:Op)(A:List An):Option (D×List An×EC):=match op with
 | .indexAddr t x i=>(match IG P t,st.ev x,st.ev i,A with
  |some (_,sz),.sl rows,.int _ n,.row r::A=>some (.ep r 0,A,[0≤n∧rows[n.toNat]?=some r∧r.length=sz])
  |some (_,sz),.acc id,.int _ n,.ix k::A=>(match st.H[id]? with|some (.row _ _ sz' rows)=>some (.op id k sz 0,A,[sz=sz'∧n=(k:Int)∧k<rows.length])|_=>none)
  |_,.val (.pointer (some ⟨g,o,none⟩)),.int _ n,.ix k::A=>(match aAx P t with|some (sz,len)=>some (.val (.pointer (some ⟨g,o+k*sz,none⟩)),A,[n=(k:Int)∧k<len])|none=>none)
  |_,_,_,_=>none)
 | .index t x i=>(match QN P t,st.ev x,st.ev i,A with
  |true,.str s,.int _ n,.ch c::A=>some (.int .u8 c.toNat,A,[0≤n∧s[n.toNat]?=some c])
  |_,_,_,_=>none)
 | .load t x=>(match st.ev x with
  | .op id i sz off=>(match zP P t,st.H[id]?,A with
   |some ag,some (.row k _ sz' rows),.row r::A=>(match KV ag (A6 P t) r off with
    |some d=>some (d,A,[sz'=sz∧k.X8=true∧rows[i]?=some r∧off+(bif ag then A6 P t else 1)≤sz])
    |none=>none)
   |_,_,_=>none)
  | .val (.pointer (some ⟨g,o,none⟩))=>(match zP P t,A with
   |some false,.d d::A=>some (d,A,[a2h g o=some d])
   |_,_=>none)
  |_=>(match pv P st op with|some d=>some (d,A,[])|none=>none))
 | .slice t x lo hi none=>(match st.ev x,A with
  | .str s,.cut l h::A=>(match QN P t with
   |true=>some (.str ((s.take h).drop l),A,[SK s.length (lo.map st.ev) (hi.map st.ev)=some (l,h)])
   |false=>none)
  | .sl rows,.cut l h::A=>(match IG P t with
   |some (_,sz)=>some (.sl ((rows.take h).drop l),A,[SK rows.length (lo.map st.ev) (hi.map st.ev)=some (l,h)∧(rows.all fun r=>r.length==sz)=true])
   |none=>none)
  |_,_=>none)
 | .binOp op' t x y t'=>(match op',st.ev x,st.ev y with
  | .add,.str a,.str b=>some (.str (a++b),A,[a.length+b.length≤maxLen])
  | .quo,.int k a,.int k' b=>some (.int k (a/b),A,[k=k'∧0≤a∧0<b])
  | .rem,.int k a,.int k' b=>some (.int k (a%b),A,[k=k'∧0≤a∧0<b])
  |_,_,_=>(match pv P st op with|some d=>some (d,A,[])|none=>none))
 | .lookup T x i ok=>(match st.ev x,A with
  | .acc id,.d d::A=>(match st.H[id]? with
   |some (.mp kv)=>some (d,A,[plk P T kv (st.ev i) ok=some d])
   |_=>none)
  |_,_=>none)
 | .pick c a b=>(match st.ev c,A with
  | .bool t,.b v::A=>(match v with|true=>some (st.ev a,A,[t=true])|false=>some (st.ev b,A,[t=false]))
  |_,_=>none)
 |_=>(match pv P st op with|some d=>some (d,A,[])|none=>none)
theorem a34{P:Program}{st:St}{op:Op}{A A':List An}{d:D}{p:EC}(h:IT P st op A=some (d,A',p))(hp:yP p):pv P st op=some d:=by
 have plain:∀ {op},(match pv P st op with|some d=>some (d,A,([]:EC))|none=>none)=some (d,A',p)→pv P st op=some d:=by
  intro op h
  split at h
  ·cases h;assumption
  ·cases h
 unfold IT at h
 split at h
 ·rename_i t x i
  split at h
  ·rename_i e sz rows kk n r A1 h1 h2 h3
   cases h
   obtain⟨⟨q1,q2,q3⟩,_⟩:=hp
   simp only[pv,h1,h2,h3,q1,q2,if_true,q3]
  ·rename_i e sz id kk n k A1 h1 h2 h3
   split at h
   ·rename_i k' e' sz' rows hH
    cases h
    obtain⟨⟨rfl,rfl,q3⟩,_⟩:=hp
    simp[pv,h1,h2,h3,hH,q3]
   ·cases h
  ·rename_i g o' kk n k A1 h2 h3
   split at h
   ·rename_i sz len hT
    cases h
    obtain⟨⟨rfl,q3⟩,_⟩:=hp
    simp[pv,h2,h3,hT,q3]
   ·cases h
  ·cases h
 ·rename_i t x i
  split at h
  ·rename_i s kk n c A1 h1 h2 h3
   cases h
   obtain⟨⟨q1,q2⟩,_⟩:=hp
   simp only[pv,h1,h2,h3,q1,q2,if_true]
  ·cases h
 ·rename_i t x
  split at h
  ·rename_i id i sz off h1
   split at h
   ·rename_i ag k e sz' rows r A1 h2 h3
    split at h
    ·rename_i d' hd
     cases h
     obtain⟨⟨rfl,q2,q3,q4⟩,_⟩:=hp
     simp only[pv,h2,h1,h3,q3,q2,q4,true_and,and_self,if_true,hd]
    ·cases h
   ·cases h
  ·rename_i g o' h1
   split at h
   ·rename_i d' A1 h2
    cases h
    simp only[pv,h2,h1]
    exact hp.1
   ·cases h
  ·exact plain h
 ·rename_i t x lo hi
  split at h
  ·rename_i s l hh A1 h1
   split at h
   ·rename_i h2
    cases h
    obtain⟨q1,_⟩:=hp
    simp only[pv,h1,h2,q1,if_true]
   ·cases h
  ·rename_i rows l hh A1 h1
   split at h
   ·rename_i e sz h2
    cases h
    obtain⟨⟨q1,q2⟩,_⟩:=hp
    simp only[pv,h1,h2,q1,q2,if_true]
   ·cases h
  ·cases h
 ·rename_i op' t x y t'
  split at h
  ·rename_i a b h1 h2
   cases h
   obtain⟨q1,_⟩:=hp
   simp only[pv,h1,h2,a3m,q1,if_true]
  ·rename_i k a k' b h1 h2
   cases h
   obtain⟨⟨rfl,q1,q2⟩,_⟩:=hp
   simp only[pv,h1,h2,a3m,q1,q2,if_true,and_self]
  ·rename_i k a k' b h1 h2
   cases h
   obtain⟨⟨rfl,q1,q2⟩,_⟩:=hp
   simp only[pv,h1,h2,a3m,q1,q2,if_true,and_self]
  ·exact plain h
 ·rename_i T x i ok
  split at h
  ·rename_i id d' A1 h1
   split at h
   ·rename_i kv hH
    cases h
    simp only[pv,h1,hH]
    exact hp.1
   ·cases h
  ·cases h
 ·split at h
  ·rename_i t v A1 h1
   split at h
   ·cases h
    obtain⟨rfl,_⟩:=hp
    simp[pv,h1]
   ·cases h
    obtain⟨rfl,_⟩:=hp
    simp[pv,h1]
  ·cases h
 ·exact plain h
def bytesOf:List (List D)→Option Bytes
 | []=>some []
 |r::rs=>match r,bytesOf rs with
  | [.int .u8 n],some bs=>some (UInt8.ofNat n.toNat::bs)
  |_,_=>none
theorem a0A:∀ {rows:List (List D)} {bs:Bytes},bytesOf rows=some bs→∃xs:List Int,rows=xs.map (fun n=>[D.int .u8 n])∧bs=xs.map (fun n=>UInt8.ofNat n.toNat):=by
 intro rows
 induction rows with
 |nil=>intro bs h;cases h;exact⟨[],rfl,rfl⟩
 |cons r rs ih=>
  intro bs h
  simp only[bytesOf]at h
  split at h
  ·rename_i n bs' h1
   cases h
   obtain⟨xs,rfl,rfl⟩:=ih h1
   exact⟨n::xs,rfl,rfl⟩
  ·cases h
theorem U5:∀(xs:List Int),(xs.map (fun n=>[D.int .u8 n])).flatten=xs.map (fun n=>D.int .u8 n)
 | []=>rfl
 |n::xs=>by simp only[List.map_cons,List.flatten_cons,U5 xs];rfl
def aDk(A:List An)(t:Nat):Option (List An):=match A with
 | .VP u::A=>if u=t then some A else none
 |_=>none
def apS(H:List Ob)(d:D)(e sz:Nat):Option (List (List D)×Bool×List Nat):=match d with
 | .nil=>some ([],true,[])
 | .acc m=>(match H[m]? with
  |some (.row k e' sz' rows)=>(match k with| .cl=>none| .uq=>(if e'=e∧sz'=sz then some (rows,true,[m])else none)| .sh=>(if e'=e∧sz'=sz then some (rows,false,[m])else none)| .mv _=>none)
  |_=>none)
 |_=>none
def apX(H:List Ob)(d:D)(sz:Nat)(A:List An):Option (List (List D)×Bool×List Nat×List An×EC):=match d,A with
 | .nil,A=>some ([],true,[],A,[])
 | .acc m,A=>(match H[m]? with
  |some (.row k _ sz' rows)=>(match k with| .cl=>none| .uq=>(if sz'=sz then some (rows,true,[m],A,[])else none)| .sh=>(if sz'=sz then some (rows,false,[m],A,[])else none)| .mv _=>none)
  |_=>none)
 | .sl rows,.fl f::A=>some (rows,f,[],A,[(∀r∈rows,r.length=sz)∧(f=true→D.pN rows=true)])
 |_,_=>none
def U6(st:St)(d:D):Option (Nat×Nat×List (List D)×Option Value):=match d with
 | .acc id=>(match st.H[id]? with|some (.w8 sz rows u)=>some (id,sz,rows,u)|_=>none)
 |_=>none
theorem U7{st:St}{d:D}{id sz:Nat}{rows:List (List D)}{u:Option Value}(h:U6 st d=some (id,sz,rows,u)):d=.acc id∧st.H[id]?=some (.w8 sz rows u):=by
 unfold U6 at h
 split at h
 ·split at h
  ·rename_i hH;cases h;exact⟨rfl,hH⟩
  ·cases h
 ·cases h
def Y1(st:St)(d:D):Option (Nat×Nat×Nat×Nat×List (List D)×Option Value):=match d with
 | .op id i sz off=>(match st.H[id]? with|some (.w8 sz' rows u)=>if sz'=sz then some (id,i,off,sz,rows,u)else none|_=>none)
 |_=>none
theorem a1k{st:St}{d:D}{id i off sz:Nat}{rows:List (List D)}{u:Option Value}(h:Y1 st d=some (id,i,off,sz,rows,u)):d=.op id i sz off∧st.H[id]?=some (.w8 sz rows u):=by
 unfold Y1 at h
 split at h
 ·split at h
  ·split at h
   ·rename_i hH he;subst he;cases h;exact⟨rfl,hH⟩
   ·cases h
  ·cases h
 ·cases h
def a1l(H:List Ob)(A:List An):Option (List Ob×List An×EC):=match A with
 | .mg id i off r::A=>(match H[id]? with
  |some (.hole sz rows u p n)=>(match H[n]?,r[off]? with
   |some (.w8 _ cI _),some _=>some ((H.set n .gone).set id (.w8 sz (rows.set i (r.set off (.sl cI))) u),A,[rows[i]?=some r,p=i*sz+off])
   |_,_=>none)
  |_=>none)
 |A=>some (H,A,[])
def tF(n:Nat):List D→List D×List Ob
 | []=>([],[])
 |d::ds=>match d with
  | .sl rows=>(.acc n::(tF (n+1) ds).1,.tk rows::(tF (n+1) ds).2)
  |d=>(d::(tF n ds).1,(tF n ds).2)
def Y2(r:List D):Bool:=r.all fun d=>match d with| .sl _=>true|d=>d.flat
def L5(P:Program)(nt:Nat)(o:Oper)(st:St)(A:List An):Option (St×List An×EC):=match o.op,o.dst with
 | .box _ x,some t=>(if t<nt then match(st.ev x).cellsOf with|some ds=>some (⟨(t,.ptr st.H.length 0)::st.σ,st.H++[.box ds]⟩,A,[])|none=>none else none)
 | .alloc T,some t=>(if t<nt then match tz P T with|some ds=>some (⟨(t,.ptr st.H.length 0)::st.σ,st.H++[.box ds]⟩,A,[])|none=>none else none)
 | .store T x y,none=>(match st.ev x,(st.ev y).cellsOf with
  | .ptr id off,some ds=>(match st.H[id]? with
   |some ob=>(match ob.cs? with
    |some cells=>(if XJ P T=true∧ds.length=A6 P T∧off+ds.length≤cells.length then some (⟨st.σ,st.H.set id (ob.re (cells.take off++ds++cells.drop (off+ds.length)))⟩,A,[])else none)
    |none=>none)
   |none=>none)
  | .op id i sz off,some ds=>(match st.H[id]?,QT st.H ds,A with
   |some (.w8 sz' rows u),_,.row r::A=>(if XJ P T=true∧ds.length=A6 P T∧0<ds.length∧sz'=sz∧off+ds.length≤sz∧ds.all D.flat=true then
    some (⟨st.σ,st.H.set id (.w8 sz (rows.set i (r.take off++ds++r.drop (off+ds.length))) u)⟩,A,[rows[i]?=some r])else none)
   |some (.row k e sz' rows),some (es,ms),.row r::A=>(if XJ P T=true∧ds.length=A6 P T∧sz'=sz∧k.X8=true∧off+ds.length≤sz∧ms.Nodup∧id∉ms then
    some (⟨st.σ,(kill st.H ms).set id (.row (k.after (ds.all (uqC st.H))) e sz (rows.set i (r.take off++es++r.drop (off+ds.length))))⟩,A,[rows[i]?=some r])else none)
   |_,_,_=>none)
  |_,_=>none)
 | .makeMap _ none,some t=>(if t<nt then some (⟨(t,.acc st.H.length)::st.σ,st.H++[.mp []]⟩,A,[])else none)
 | .mapUpdate T x i y,none=>(match a3n P T,st.ev x,A with
  |some (kd,_),.acc id,.kv m::A=>(match st.H[id]? with
   |some (.mp kv)=>(if LD kd (st.ev i)=true∧(st.ev y).scalar=true then some (⟨st.σ,st.H.set id (.mp m)⟩,A,[O1 (st.ev i) (st.ev y) kv=some m])else none)
   |_=>none)
  |_,_,_=>none)
 | .makeSlice T x y,some t=>(match IG P T,st.ev x,st.ev y with
  |some (e,sz),.int _ n,.int _ n'=>(match tz P e with
   |some zs=>(if t<nt∧0<sz then some (⟨(t,.acc st.H.length)::st.σ,st.H++[.row .uq e sz (List.replicate n.toNat (zs.map D.KX))]⟩,A,[n'=n∧0≤n∧tby P e*n.toNat≤281474976710656∧n.toNat≤4611686018427387904])else none)
   |none=>none)
  |_,_,_=>none)
 | .buildSlice T len parts,some t=>(match IG P T with
  |some (e,sz)=>(match tz P e with
   |some zs=>(match xM (s6 len sz) (List.replicate len zs).flatten (parts.toList.map fun p=>(p.1,st.ev p.2))with
    |some ds=>(match QT st.H ds with
     |some (es,ms)=>(if t<nt∧0<sz∧len*sz≤16777216∧ms.Nodup then some (⟨(t,.acc st.H.length)::st.σ,kill st.H ms++[.row (zR (ds.all (uqC st.H))) e sz (chunk sz len es)]⟩,A,[])else none)
     |none=>none)
    |none=>none)
   |none=>none)
  |none=>none)
 | .call c,some t=>(match c.callee,c.args.toList,c.argTypes.toList with
  | .builtin .append,[s,x],[T,T']=>(match IG P T with
   |some (e,sz)=>(match tz P e,apS st.H (st.ev s) e sz,apX st.H (st.ev x) sz A with
    |some _,some (rows,u1,k1),some (cI,u2,k2,A,ow)=>(if t<nt∧0<sz∧T'=T∧(k1++k2).Nodup then
     some (⟨(t,.acc st.H.length)::st.σ,kill st.H (k1++k2)++[.row (zR (u1&&u2)) e sz (rows++cI)]⟩,A,(rows.length+cI.length≤maxLen∧(rows.length+cI.length)*tby P e≤140737488355328)::ow)else none)
    |_,_,_=>none)
   |none=>none)
  | .builtin .len,[x],[T]=>(match U6 st (st.ev x)with
   |some (_,_,rows,_)=>(if t<nt∧(IG P T).isSome=true then some (⟨(t,.int .i64 rows.length)::st.σ,st.H⟩,A,[])else none)
   |none=>(if t<nt then match IT P st o.op A with|some (d,A,ow)=>some (⟨(t,d)::st.σ,st.H⟩,A,ow)|none=>none else none))
  | .value (.func f),xs,_=>(match LG st.H (xs.map st.ev),A with
   |_,.gv ms outs d::A=>(match TX st.H ms with
    |some ins=>(if t<nt∧ms.Nodup∧((xs.map st.ev).all D.bare)=true then
     (match a1l (XW st.H ms outs) A with
     |some (H',A',ow)=>some (⟨(t,d)::st.σ,H'⟩,A',a30 P f ((xs.map st.ev).map (D.rnS ms)) ins outs d::ow)
     |none=>none)else none)
    |none=>none)
   |_,.gp nz cells' d::A=>(match xs with
    |x0::xr=>(match st.ev x0 with
     | .ptr id 0=>(match st.H[id]? with
      |some ob=>(match ob.cs? with
       |some QY=>(match CG st.H nz (.agg QY::xr.map st.ev)with
        |some (.agg cells::ds,ms,qs)=>(if t<nt∧ms.Nodup∧qs.Nodup then
         some (⟨(t,(oH (st.H.length+(l9 st.H.length cells').2.length) d).1)::st.σ,(kill st.H (ms++qs)).set id (ob.re (l9 st.H.length cells').1)++((l9 st.H.length cells').2++(oH (st.H.length+(l9 st.H.length cells').2.length) d).2)⟩,A,[AD P f cells cells' ds d])else none)
        |_=>none)
       |none=>none)
      |none=>none)
     |_=>none)
    | []=>none)
   |some (ds,ms),.dn cells::A=>(if t<nt∧ms=[]then some (⟨(t,.ptr st.H.length 0)::st.σ,st.H++[.box cells]⟩,A,[WK P f ds cells])else none)
   |some (ds,_),.dc d::A=>(if t<nt∧d.TR=true then some (⟨(t,(oH st.H.length d).1)::st.σ,st.H++(oH st.H.length d).2.map Ob.close⟩,A,[Good P f ds d])else none)
   |_,.ov id bG::A=>(match st.H[id]? with
    |some (.row .uq e sz rows)=>(if t<nt∧((xs.map st.ev).all D.bare)=true then some (⟨(t,.acc st.H.length)::st.σ,kill st.H [id]++[.row .uq e sz bG]⟩,A,[rows.flatten.all D.flat=true,L4 P f ((xs.map st.ev).map (D.rnS [id])) e sz rows bG])else none)
    |_=>none)
   |_,.mu id bG::A=>(match xs,st.H[id]? with
    | [x],some (.row k e sz rows)=>(match st.ev x with
     | .acc id'=>(if t<nt∧id'=id∧k.hand=true then some (⟨(t,.iJ [])::st.σ,st.H.set id (.row k e sz bG)⟩,A,[rows.flatten.all D.flat=true,a09 P f e sz rows bG])else none)
     |_=>none)
    |_,_=>none)
   |some (ds,ms),.d d::A=>(if t<nt∧(ms=[]∨d.TR=true)then some (⟨(t,(oH st.H.length d).1)::st.σ,st.H++(oH st.H.length d).2⟩,A,[Good P f ds d])else none)
   |_,.nl d::A=>(if t<nt∧(xs.map st.ev).all RV=true then some (⟨(t,(oH st.H.length d).1)::st.σ,st.H++(oH st.H.length d).2⟩,A,[Good P f (xs.map st.ev) d])else none)
   |_,_=>none)
  |_,_,_=>(if t<nt then match IT P st o.op A with|some (d,A,ow)=>some (⟨(t,d)::st.σ,st.H⟩,A,ow)|none=>none else none))
 | .convert s d x,some t=>(match st.ev x with
  | .acc id=>(match st.H[id]?,IG P s with
   |some (.row _ _ _ rows),some (e,sz)=>(match bytesOf rows with
    |some bs=>(if t<nt∧sz=1∧a1H P e=some .u8∧QN P d=true then some (⟨(t,.str bs)::st.σ,st.H⟩,A,[])else none)
    |none=>none)
   |_,_=>none)
  |_=>(if t<nt then match IT P st o.op A with|some (d,A,ow)=>some (⟨(t,d)::st.σ,st.H⟩,A,ow)|none=>none else none))
 | .assign x,some t=>(match aDk A t with
  |some A=>(match st.ev x,IG P o.type with
   | .nil,some (e,sz)=>(if t<nt∧0<sz then some (⟨(t,.acc st.H.length)::st.σ,st.H++[.row .uq e sz []]⟩,A,[])else none)
   |_,_=>none)
  |none=>(if t<nt then some (⟨(t,st.ev x)::st.σ,st.H⟩,A,[])else none))
 | .slice T x none (some hi) none,some t=>(match st.ev x with
  | .acc id=>(match st.H[id]?,IG P T,st.ev hi,A with
   |some (.row .uq e sz rows),some (_,sz'),.int _ n,.cut 0 h::A=>(if t<nt∧sz'=sz then some (⟨(t,.acc st.H.length)::st.σ,kill st.H [id]++[.row .uq e sz (rows.take h)]⟩,A,[n=((h:Nat):Int)∧h≤rows.length])else none)
   |_,_,_,_=>none)
  |_=>(if t<nt then match IT P st o.op A with|some (d,A,ow)=>some (⟨(t,d)::st.σ,st.H⟩,A,ow)|none=>none else none))
 | .slice T (.tmp s) (some lo) none none,some t=>(match A,lk st.σ s with
  | .fz::A,.acc id=>(match st.H[id]? with
   |some (.row k e sz rows)=>(if t<nt∧k.X8=true then match IT P ⟨(s,.sl rows)::st.σ,st.H.set id .gone⟩ o.op A with|some (d,A,ow)=>some (⟨(t,d)::(s,.sl rows)::st.σ,st.H.set id .gone⟩,A,ow)|none=>none else none)
   |_=>none)
  |_,_=>(if t<nt then match IT P st o.op A with|some (d,A,ow)=>some (⟨(t,d)::st.σ,st.H⟩,A,ow)|none=>none else none))
 | .indexAddr T x i,some t=>(match U6 st (st.ev x)with
  |some (id,sz,rows,_)=>(match IG P T,st.ev i,A with
   |some (_,sz'),.int _ n,.ix m::A=>(if t<nt∧sz'=sz then some (⟨(t,.op id m sz 0)::st.σ,st.H⟩,A,[n=(m:Int)∧m<rows.length])else none)
   |_,_,_=>none)
  |none=>(if t<nt then match IT P st o.op A with|some (d,A,ow)=>some (⟨(t,d)::st.σ,st.H⟩,A,ow)|none=>none else none))
 | .load T x,some t=>(match Y1 st (st.ev x)with
  |some (id,i,off,sz,rows,u)=>(match zP P T,A with
   |some false,.row r::A=>(match r[off]? with
    |some (.sl cI)=>(match IG P T with
     |some (_,sz2)=>(if t<nt then some (⟨(t,.acc st.H.length)::st.σ,st.H.set id (.hole sz (rows.set i (r.set off .any)) u (i*sz+off) st.H.length)++[.w8 sz2 cI none]⟩,A,[rows[i]?=some r,∀q∈cI,q.length=sz2])else none)
     |none=>none)
    |some d=>(if t<nt∧d.flat=true then some (⟨(t,d)::st.σ,st.H⟩,A,[rows[i]?=some r])else none)
    |none=>none)
   |_,_=>none)
  |none=>(match A,st.ev x with
   | .tk r::A,.op id i sz 0=>(match st.H[id]? with
    |some (.row (.mv n) e sz' rows)=>(if t<nt∧sz'=sz∧zP P T=some true∧A6 P T=sz then
     some (⟨(t,.agg (tF st.H.length r).1)::st.σ,st.H.set id (.row (.mv (n+1)) e sz rows)++(tF st.H.length r).2⟩,A,[i=n∧rows[n]?=some r∧Y2 r=true])else none)
    |_=>none)
   |A,_=>(if t<nt then match IT P st o.op A with|some (d,A,ow)=>some (⟨(t,d)::st.σ,st.H⟩,A,ow)|none=>none else none)))
 |op,some t=>(if t<nt then match IT P st op A with|some (d,A,ow)=>some (⟨(t,d)::st.σ,st.H⟩,A,ow)|none=>none else none)
 |_,none=>none
section
variable{P:Program}{Γ:uK}{Q:Exit→St→Prop}{st:St}{all:Array Oper}{rest:List Oper}
theorem bN.a6M{κ:Nat→Option Value}{Θ:Nat→Nat}{a:Act}{w:World}(hs:bN Γ st κ Θ a w)(e sz:Nat)(hsz:0<sz):bN Γ ⟨st.σ,st.H++[.row .uq e sz []]⟩ (yM κ st.H.length (some (.slice none 0 0))) Θ a w:=by
 obtain⟨ρ,hu⟩:=hs.tC
 refine hs.put [] CD (xH (hs.oG _ (Nat.le_refl _)) _) ?_ ?_ (fD.refl hs.own (by omega)) hs.mine ?_ hu (by simp) ?_
 ·intro i hi
  simp only[List.length_append,List.length_cons,List.length_nil]at hi
  unfold yM
  rw[if_neg (by omega)]
  exact hs.oG i (by omega)
 ·intro i x hx
  unfold yM at hx
  split at hx
  ·cases hx;rfl
  ·exact hs.o4 i x hx
 ·exact⟨hsz,by simp,_,[],[],iN _ _ _,World.ownsRow_nil w 0 e sz,.nil,by simp[Value.ownBlock],by simp⟩
 ·intro e' sz' bG he
  simp only[Ob.row.injEq,true_and]at he
  obtain⟨rfl,rfl,rfl⟩:=he
  exact⟨_,[],[],iN _ _ _,World.ownsRow_nil w 0 e sz,.nil,by simp,by simp⟩
theorem aBf{o:Oper}{x:Operand}{t e sz:Nat}(hop:o.op=.assign x)(hd:o.dst=some t)(hg:o.guard=none)(ht:t<Γ.nt)(hx:st.ev x=.nil)(hsz:0<sz)
 (h:AO P Γ all rest Q ⟨(t,.acc st.H.length)::st.σ,st.H++[.row .uq e sz []]⟩):AO P Γ all (o::rest) Q st:=by
 intro κ Θ a w hs
 obtain⟨bs,r,_⟩:=hs.ev x
 rw[hx]at r
 have hv:=r.O0
 have hp:pv P st o.op=some .nil:=by rw[hop];simp[pv,hx]
 obtain⟨v,b2,hrun,hrd,hz⟩:=FL hs hp
 have ZD:=hrd.O0
 subst ZD
 refine wpList_plain hg fun K hK=>?_
 unfold Oper.wp
 rw[hrun,Oper.upon_value,hd]
 refine hK _ _ (h _ _ _ _ ((hs.a6M e sz hsz).set (t:=t) (d:=.acc st.H.length) (bs:=[]) ht ?_ (by simp)))
 exact(yK.acc st.H.length _ (iN _ _ _)).XC
theorem c8.aBg{κ:Nat→Option Value}{w:World}{n:Nat}(hk:κ n=some (.slice none 0 0)):∀ {vs:List Value} {ds:List D} {bs:List Nat},c8 w κ vs ds bs→∀ {off:Nat},ds[off]?=some .nil→∃bs',c8 w κ vs (ds.set off (.acc n)) bs'∧∀b∈bs',b∈bs:=by
 intro vs ds bs h
 induction h with
 |nil=>intro off h;simp at h
 |cons v vs d ds b1 b2 h1 h2 h3 ih=>
  intro off h
  cases off with
  |zero=>
   simp only[List.getElem?_cons_zero,Option.some.injEq]at h
   subst h
   have hv:v=.slice none 0 0:=by
    cases h2 with
    |pure h2=>cases h2;rfl
   subst hv
   exact⟨[]++b2,.cons _ _ _ _ _ _ h1 (.acc n _ hk) h3,fun b hb=>by simp at hb;simp[hb]⟩
  |succ off=>
   obtain⟨bs',q1,q2⟩:=ih (off:=off) (by simpa using h)
   exact⟨b1++bs',.cons _ _ _ _ _ _ h1 h2 q1,fun b hb=>by
    rcases List.mem_append.1 hb with hb|hb
    ·exact List.mem_append.2 (.inl hb)
    ·exact List.mem_append.2 (.inr (q2 b hb))⟩
def St.prom(st:St)(id off e sz:Nat):Option St:=match st.H[id]? with
 |some (.box cells)=>(match cells[off]? with
  |some .nil=>(if 0<sz then some ⟨st.σ,(st.H++[Ob.row .uq e sz []]).set id (Ob.box (cells.set off (.acc st.H.length)))⟩else none)
  |_=>none)
 |_=>none
theorem bN.prom{κ:Nat→Option Value}{Θ:Nat→Nat}{a:Act}{w:World}{uL:St}{id off e sz:Nat}(hs:bN Γ st κ Θ a w)(h:st.prom id off e sz=some uL):∃κ',bN Γ uL κ' Θ a w:=by
 unfold St.prom at h
 split at h
 ·rename_i cells hH
  split at h
  ·rename_i hc
   split at h
   ·rename_i hsz
    cases h
    have hlt:id<st.H.length:=(List.getElem?_eq_some_iff.1 hH).1
    have hs1:=hs.a6M e sz hsz
    refine⟨_,hs1.defers,hs1.size,fun i hi=>hs1.oG i (by simpa using hi),hs1.o4,hs1.slot,?_,hs1.own,hs1.old,hs1.mine,hs1.stays,?_⟩
    ·intro j y hj
     simp only[List.getElem?_set]at hj
     split at hj
     ·rename_i e1
      subst e1
      split at hj
      ·cases hj
       obtain⟨g,cs,T,q1,q2,q3,bs,q4,q5⟩:=hs1.ob id (.box cells) (by simpa[List.getElem?_append_left hlt]using hH)
       obtain⟨bs',p1,p2⟩:=c8.aBg (n:=st.H.length) (iN _ _ _) q4 hc
       exact⟨g,cs,T,q1,q2,q3,bs',p1,fun b hb=>q5 b (p2 b hb)⟩
      ·cases hj
     ·exact hs1.ob j y hj
    ·obtain⟨ρ,hu⟩:=hs1.tC
     refine⟨ρ,hu.free,fun i e' sz' rows hi=>hu.rows i e' sz' rows ?_,fun i o hi=>?_⟩
     ·simp only[List.getElem?_set]at hi
      split at hi
      ·split at hi<;>cases hi
      ·exact hi
     ·simp only[List.getElem?_set]at hi
      split at hi
      ·split at hi
       ·cases hi;trivial
       ·cases hi
      ·exact hu.more i o hi
   ·cases h
  ·cases h
 ·cases h
theorem bN.aDl{κ:Nat→Option Value}{Θ:Nat→Nat}{a:Act}{w:World}{id e sz:Nat}{rows:List (List D)}(hs:bN Γ st κ Θ a w)(hH:st.H[id]?=some (.row .uq e sz rows)):bN Γ ⟨st.σ,st.H.set id (.row .sh e sz rows)⟩ κ Θ a w:=by
 have hlt:id<st.H.length:=(List.getElem?_eq_some_iff.1 hH).1
 refine⟨hs.defers,hs.size,fun i hi=>hs.oG i (by simpa using hi),hs.o4,hs.slot,?_,hs.own,hs.old,hs.mine,hs.stays,?_⟩
 ·intro j y hj
  simp only[List.getElem?_set,hlt,if_true]at hj
  split at hj
  ·rename_i e1
   subst e1
   cases hj
   exact(show w9 w κ Θ id (.row .uq e sz rows)from hs.ob id _ hH)
  ·exact hs.ob j y hj
 ·obtain⟨ρ,hu⟩:=hs.tC
  refine⟨ρ,hu.free,fun i e' sz' bG hi=>hu.rows i e' sz' bG ?_,fun i o hi=>?_⟩
  ·simp only[List.getElem?_set,hlt,if_true]at hi
   split at hi
   ·cases hi
   ·exact hi
  ·simp only[List.getElem?_set,hlt,if_true]at hi
   split at hi
   ·cases hi;trivial
   ·exact hu.more i o hi
theorem bN.mvz{κ:Nat→Option Value}{Θ:Nat→Nat}{a:Act}{w:World}{id e sz:Nat}{rows:List (List D)}(hs:bN Γ st κ Θ a w)(hH:st.H[id]?=some (.row .uq e sz rows)):bN Γ ⟨st.σ,st.H.set id (.row (.mv 0) e sz rows)⟩ κ Θ a w:=by
 have hlt:id<st.H.length:=(List.getElem?_eq_some_iff.1 hH).1
 refine⟨hs.defers,hs.size,fun i hi=>hs.oG i (by simpa using hi),hs.o4,hs.slot,?_,hs.own,hs.old,hs.mine,hs.stays,?_⟩
 ·intro j y hj
  simp only[List.getElem?_set,hlt,if_true]at hj
  split at hj
  ·rename_i e1
   subst e1
   cases hj
   exact(show w9 w κ Θ id (.row .uq e sz rows)from hs.ob id _ hH)
  ·exact hs.ob j y hj
 ·obtain⟨ρ,hu⟩:=hs.tC
  refine⟨ρ,hu.free,fun i e' sz' bG hi=>hu.rows i e' sz' bG ?_,fun i o hi=>?_⟩
  ·simp only[List.getElem?_set,hlt,if_true]at hi
   split at hi
   ·cases hi
   ·exact hi
  ·simp only[List.getElem?_set,hlt,if_true]at hi
   split at hi
   ·rename_i e1
    subst e1
    cases hi
    obtain⟨v,cs,bs,q1,q2,q3,q4,q5⟩:=hu.rows id e sz rows hH
    exact⟨v,cs,bs,q1,q2,by simpa using q3,q4,q5⟩
   ·exact hu.more i o hi
def shares:List An→St→St×List An
 | .sk id::A,st=>(match st.H[id]? with
  |some (.row .uq e sz rows)=>shares A ⟨st.σ,st.H.set id (.row .sh e sz rows)⟩
  |_=>(st,.sk id::A))
 | .mz id::A,st=>(match st.H[id]? with
  |some (.row .uq e sz rows)=>shares A ⟨st.σ,st.H.set id (.row (.mv 0) e sz rows)⟩
  |_=>(st,.mz id::A))
 |A,st=>(st,A)
theorem bN.shares{κ:Nat→Option Value}{Θ:Nat→Nat}{a:Act}{w:World}:∀ {A A1:List An} {st xQ:St},bN Γ st κ Θ a w→shares A st=(xQ,A1)→bN Γ xQ κ Θ a w:=by
 intro A
 induction A with
 |nil=>intro A1 st xQ hs h;simp only[Cx.shares,Prod.mk.injEq]at h;obtain⟨rfl,_⟩:=h;exact hs
 |cons x A ih=>
  intro A1 st xQ hs h
  cases x
  case sk id=>
   simp only[Cx.shares]at h
   split at h
   ·rename_i e sz rows hH
    exact ih (hs.aDl hH) h
   ·simp only[Prod.mk.injEq]at h;obtain⟨rfl,_⟩:=h;exact hs
  case mz id=>
   simp only[Cx.shares]at h
   split at h
   ·rename_i e sz rows hH
    exact ih (hs.mvz hH) h
   ·simp only[Prod.mk.injEq]at h;obtain⟨rfl,_⟩:=h;exact hs
  all_goals(simp only[Cx.shares,Prod.mk.injEq]at h;obtain⟨rfl,_⟩:=h;exact hs)
theorem a8w{o:Oper}{s d:TypeId}{x:Operand}{t id e e' sz':Nat}{k:RK}{rows:List (List D)}{bs:Bytes}(hop:o.op=.convert s d x)(hd:o.dst=some t)(hg:o.guard=none)(ht:t<Γ.nt)(hx:st.ev x=.acc id)
 (hH:st.H[id]?=some (.row k e' sz' rows)) (hT:IG P s=some (e,1)) (he:a1H P e=some .u8) (hs':QN P d=true) (hb:bytesOf rows=some bs) (h:AO P Γ all rest Q ⟨(t,.str bs)::st.σ,st.H⟩):AO P Γ all (o::rest) Q st:=by
 intro κ Θ a w hs
 obtain⟨b0,r,_⟩:=hs.ev x
 rw[hx]at r
 obtain⟨hk,_⟩:=r.vC
 obtain⟨hsz,hrl,v,cs,b1,hk2,hown,sN,_,_⟩:=hs.ob id _ hH
 rw[hk]at hk2;cases hk2
 obtain⟨xs,rfl,rfl⟩:=a0A hb
 obtain⟨hu,_,_⟩:=n8 hT
 have hue:P.underlying e=some (.int .u8):=by
  unfold a1H at he
  split at he
  ·rename_i k' hk';cases he;exact hk'
  ·cases he
 have hud:=x9 hs'
 have hfl:(xs.map (fun n=>[D.int .u8 n])).flatten=xs.map (fun n=>D.int .u8 n):=U5 xs
 rw[hfl]at sN
 have hcs:∀(xs:List Int) (cs:List Value) (b:List Nat),jN w cs (xs.map (fun n=>D.int .u8 n)) b→cs=xs.map (Value.int .u8):=by
  intro xs
  induction xs with
  |nil=>intro cs b h;cases h;rfl
  |cons n xs ih=>
   intro cs b h
   cases h with
   |cons v vs _ _ b1 b2 _ h2 h3=>
    cases h2
    rw[ih _ _ h3];rfl
 have hce:=hcs xs cs b1 sN
 have hlen:xs.length≤maxLen:=by
  rcases hown.2 with⟨_,hn⟩|⟨g,cap,cur,_,_,_,hnc,hcm,_⟩
  ·simp at hn;rw[hn];simp
  ·simp at hnc;omega
 have hrun:(convert s d (a.eval x)).run P w=.ok (.string (strOfNums xs)) w:=by
  rcases hown.2 with⟨hv,hn⟩|⟨g,cap,cur,hv,_,hg,hnc,hcm,_,_⟩
  ·have hx0:xs=[]:=by simpa using hn
   subst hx0
   rw[hv,run_convert_bytes_nil w s e hu hue 0 0 d hud]
   rfl
  ·rw[hv]
   have hcell:=hown.cells (g:=g) (by rw[hv];simp[Value.ownBlock])
   refine run_convert_bytes_arg w s e hu hue g 0 _ cap xs (by simp) (fun i hi=>?_) d hud
   have hi':i<xs.length:=by simpa using hi
   have:=hcell i (.int .u8 (xs.getD i 0)) (by rw[hce];simp[List.getD,List.getElem?_eq_getElem hi'])
   simpa[Addr.add_lit]using this
 refine wpList_plain hg fun K hK=>?_
 unfold Oper.wp
 have ZO:(execOp a.eval o).run P w=.ok (.value (.string (strOfNums xs))) w:=by
  simp only[execOp,hop]
  simp[hrun]
 rw[ZO,Oper.upon_value,hd]
 refine hK _ _ (h _ _ _ _ (hs.set (t:=t) (bs:=[]) ht ?_ (by simp)))
 have hsl:(strOfNums xs).data.toList=xs.map (fun n=>UInt8.ofNat n.toNat):=by simp[strOfNums]
 have hss:(strOfNums xs).size≤maxLen:=by
  have:(strOfNums xs).size=xs.length:=by
   have:=congrArg List.length hsl
   simpa using this
  omega
 have:=Rd.str (w:=w) (strOfNums xs) hss
 rw[hsl]at this
 exact .of this
theorem aBh{o:Oper}{t:Nat}{s x:Operand}{T e sz:Nat}{zs:List D}{rows cI:List (List D)}{u1 u2:Bool}{k1 k2:List Nat}{A A':List An}{ow:EC}
 (hop:o.op=.call {callee:=.builtin .append,args:= #[s,x],argTypes:= #[T,T]}) (hd:o.dst=some t) (hg:o.guard=none) (ht:t<Γ.nt) (hT:IG P T=some (e,sz)) (hz:tz P e=some zs) (hsz:0<sz)
 (hS:apS st.H (st.ev s) e sz=some (rows,u1,k1)) (hX:apX st.H (st.ev x) sz A=some (cI,u2,k2,A',ow)) (how:yP ow) (hnd:(k1++k2).Nodup)
 (h63:rows.length+cI.length≤maxLen) (hby:(rows.length+cI.length)*tby P e≤140737488355328)
 (h:AO P Γ all rest Q ⟨(t,.acc st.H.length)::st.σ,kill st.H (k1++k2)++[.row (zR (u1&&u2)) e sz (rows++cI)]⟩):AO P Γ all (o::rest) Q st:=by
 refine a3v hop hd hg ht hT hz hsz h63 hby ?_ h
 intro κ Θ a w ρ hs hu
 have one:∃i1 b1 c1,a5Z w Θ ρ e sz (a.eval s) rows u1 i1 b1 c1∧((k1=[]∧i1=st.H.length)∨k1=[i1]):=by
  obtain⟨bs,r,_⟩:=hs.ev s
  unfold apS at hS
  split at hS
  ·rename_i NW
   cases hS
   rw[NW]at r
   have:=r.O0
   rw[this]
   exact⟨st.H.length,[],[],a5a,.inl ⟨rfl,rfl⟩⟩
  ·rename_i m NW
   rw[NW]at r
   obtain⟨hk,_⟩:=r.vC
   split at hS
   ·rename_i k e' sz' bG hH
    split at hS
    ·cases hS
    ·split at hS
     ·rename_i hc
      obtain⟨rfl,rfl⟩:=hc
      cases hS
      obtain⟨b1,c1,hA⟩:=O6 hs hu hk hH rfl
      exact⟨m,b1,c1,hA,.inr rfl⟩
     ·cases hS
    ·split at hS
     ·rename_i hc
      obtain⟨rfl,rfl⟩:=hc
      cases hS
      obtain⟨b1,c1,hA⟩:=O6 hs hu hk hH rfl
      exact⟨m,b1,c1,hA,.inr rfl⟩
     ·cases hS
    ·cases hS
   ·cases hS
  ·cases hS
 have two:∃i2 b2 c2,a3u w Θ ρ sz (a.eval x) cI u2 i2 b2 c2∧(u2=true→b2=[]∨i2∈k2):=by
  obtain⟨bs,r,hz⟩:=hs.ev x
  unfold apX at hX
  split at hX
  ·rename_i A1 NW
   cases hX
   rw[NW]at r
   have:=r.O0
   rw[this]
   exact⟨0,[],[],a5b,fun _=>.inl rfl⟩
  ·rename_i A1 m NW
   rw[NW]at r
   obtain⟨hk,_⟩:=r.vC
   split at hX
   ·rename_i k e' sz' bG hH
    split at hX
    ·cases hX
    ·split at hX
     ·rename_i hc
      subst hc
      cases hX
      obtain⟨b1,c1,hA⟩:=ZP hs hu hk hH rfl
      exact⟨m,b1,c1,hA,fun _=>.inr (by simp)⟩
     ·cases hX
    ·split at hX
     ·rename_i hc
      subst hc
      cases hX
      obtain⟨b1,c1,hA⟩:=ZP hs hu hk hH rfl
      exact⟨m,b1,c1,hA,fun _=>.inr (by simp)⟩
     ·cases hX
    ·cases hX
   ·cases hX
  ·rename_i bG f A1 NW
   cases hX
   rw[NW]at r
   obtain⟨⟨q1,q2⟩,_⟩:=how
   obtain⟨b2,c2,hA,hb⟩:=a8f (ρ:=ρ) r.XA hz q1 0 u2 q2
   exact⟨0,b2,c2,hA,fun e=>.inl (hb e)⟩
  ·cases hX
 obtain⟨i1,b1,c1,hA,hk1⟩:=one
 obtain⟨i2,b2,c2,hB,hk2⟩:=two
 refine⟨u1,u2,i1,i2,b1,b2,c1,c2,hA,hB,?_,fun zQ=>?_⟩
 ·rcases hk1 with⟨_,h⟩|h
  ·exact .inr h
  ·exact .inl (by simp[h])
 ·simp only[Bool.and_eq_true]at zQ
  refine⟨zQ.1,zQ.2,?_⟩
  rcases hk2 zQ.2 with h|hmem
  ·exact .inl h
  ·refine .inr ⟨by simp[hmem],fun e=>?_⟩
   rcases hk1 with⟨h1,h2⟩|h1
   ·
    have hlt:i2<st.H.length:=by
     unfold apX at hX
     split at hX
     ·cases hX;cases hmem
     ·rename_i A1 m NW
      split at hX
      ·rename_i k e' sz' bG hH
       have:=(List.getElem?_eq_some_iff.1 hH).1
       split at hX
       ·cases hX
       ·split at hX
        ·cases hX;simp at hmem;omega
        ·cases hX
       ·split at hX
        ·cases hX;simp at hmem;omega
        ·cases hX
       ·cases hX
      ·cases hX
     ·cases hX;cases hmem
     ·cases hX
    omega
   ·subst e
    have:=(List.nodup_append.1 hnd).2.2 i1 (by simp[h1]) i1 hmem
    exact this rfl
theorem a6N{κ:Nat→Option Value}{w:World}:∀ {ds:List D} {n:Nat} {vs:List Value} {bs:List Nat},jN w vs ds bs→(∀d∈ds,d.flat=true∨∃rows,d=.sl rows)→bs.Nodup→
 ∃(us:List Value) (L:List (List Nat)),us.length=(tF n ds).2.length∧L.length=us.length∧L.flatten=bs∧
  (∀(j:Nat) o,(tF n ds).2[j]?=some o→∃rows u b,o=.tk rows∧us[j]?=some u∧u.oneCell'=true∧L[j]?=some b∧Rd w u (.sl rows) b)∧
  (∀κ':Nat→Option Value,(∀(j:Nat) u,us[j]?=some u→κ' (n+j)=some u)→c8 w κ' vs (tF n ds).1 []):=by
 intro ds
 induction ds with
 |nil=>intro n vs bs h _ _;cases h;exact⟨[],[],rfl,rfl,rfl,by simp[tF],fun _ _=>.nil⟩
 |cons d ds ih=>
  intro n vs bs h hd hnd
  cases h with
  |cons v vs _ _ b1 b2 h1 h2 h3=>
   obtain⟨n1,n2,n3⟩:=List.nodup_append.1 hnd
   rcases hd d (by simp)with hf|⟨rows,rfl⟩
   ·have hb:=h2.flat hf
    subst hb
    obtain⟨us,L,q1,q2,q3,q4,q5⟩:=ih (n:=n) h3 (fun x hx=>hd x (by simp[hx])) n2
    have e:tF n (d::ds)=(d::(tF n ds).1,(tF n ds).2):=by cases d<;>first|rfl| (simp[D.flat]at hf)
    rw[e]
    exact⟨us,L,q1,q2,q3,q4,fun κ' hk=>by simpa using c8.cons v vs d _ [] [] h1 (.pure h2) (q5 κ' hk)⟩
   ·obtain⟨us,L,q1,q2,q3,q4,q5⟩:=ih (n:=n+1) h3 (fun x hx=>hd x (by simp[hx])) n2
    refine⟨v::us,b1::L,by simp[tF,q1],by simp[q2],by simp[q3],fun j o hj=>?_,fun κ' hk=>?_⟩
    ·cases j with
     |zero=>simp[tF]at hj;subst hj;exact⟨rows,v,b1,rfl,rfl,h1,rfl,h2⟩
     |succ j=>
      obtain⟨bG,u,b,r1,r2,r3,r4,r5⟩:=q4 j o (by simpa[tF]using hj)
      exact⟨bG,u,b,r1,by simpa using r2,r3,by simpa using r4,r5⟩
    ·have:=c8.cons v vs (.acc n) _ [] [] h1 (.acc n v (by have:=hk 0 v rfl;simpa using this)) (q5 κ' (fun j u hj=>by have:=hk (j+1) u (by simpa using hj);rw[←this];congr 1;omega))
     simpa[tF]using this
theorem a1m{r:List D}(h:Y2 r=true):∀d∈r,d.flat=true∨∃rows,d=.sl rows:=by
 intro d hd
 have:=List.all_eq_true.1 h d hd
 cases d<;>first|exact .inr ⟨_,rfl⟩|exact .inl this
theorem a8x{o:Oper}{T id i sz e t:Nat}{x:Operand}{rows:List (List D)}{r:List D}(hop:o.op=.load T x)(hd:o.dst=some t)(hg:o.guard=none)(ht:t<Γ.nt)
 (hx:st.ev x=.op id i sz 0) (hH:st.H[id]?=some (.row (.mv i) e sz rows)) (hrow:rows[i]?=some r) (hT:zP P T=some true) (hsz:A6 P T=sz) (hok:Y2 r=true)
 (h:AO P Γ all rest Q ⟨(t,.agg (tF st.H.length r).1)::st.σ,st.H.set id (.row (.mv (i+1)) e sz rows)++(tF st.H.length r).2⟩):AO P Γ all (o::rest) Q st:=by
 intro κ Θ a w hs
 obtain⟨b1,r1,_⟩:=hs.ev x
 rw[hx]at r1
 obtain⟨g,o0,len,cap,hk,hv⟩:=r1.FJ
 obtain⟨ρ,hu⟩:=hs.tC
 obtain⟨aB2,hrl,vk0,cs0,bs0,aDn,aA1,aGE,hΘ,yL⟩:=hs.ob id _ hH
 obtain⟨vk,cs,bs,hvk,hown,sN,hnd,hρ⟩:=hu.more id _ hH
 rw[hk]at hvk aDn
 cases hvk;cases aDn
 have ho0:=D7 hown
 subst ho0
 rw[Nat.zero_add]at hv
 have a2o:r.length=sz:=hrl r (List.mem_of_getElem? hrow)
 have hlt:i<rows.length:=(List.getElem?_eq_some_iff.1 hrow).1
 have a6O:rows.drop i=r::rows.drop (i+1):=by
  rw[List.drop_eq_getElem_cons hlt]
  congr 1
  rw[List.getElem?_eq_getElem hlt]at hrow
  exact Option.some.inj hrow
 rw[a6O,List.flatten_cons]at sN
 obtain⟨v1,v2,c1,c2,TI,FM,k1,k2⟩:=sN.split
 have l1:v1.length=sz:=by rw[k1.length,a2o]
 have hcells:∀j c,cs[j]?=some c→w.cell? ⟨g,0+j,none⟩=some c:=by
  intro j c hj
  have:=hown.cells (g:=g) (by simp[Value.ownBlock]) j c hj
  simpa[Addr.add_lit]using this
 have L0:=nN (P:=P) (w:=w) hT (o:=i*sz+0) hcells
 simp only[Nat.zero_add,Nat.add_zero]at L0 hv
 have hle:(i+1)*sz≤rows.length*sz:=Nat.mul_le_mul_right _ hlt
 rw[Nat.add_mul,Nat.one_mul]at hle
 have a5c:=hown.1
 have hval:(cs.drop (i*sz)).take sz=v1:=by rw[TI];exact List.take_left' l1
 have hrun:(execOp a.eval o).run P w=.ok (.value (.agg v1.toArray)) w:=by
  simp only[execOp,hop,hv]
  have:=L0.1 trivial (by rw[hsz,a5c];omega)
  rw[hsz,hval]at this
  simp[this]
 refine wpList_plain hg fun K hK=>?_
 unfold Oper.wp
 rw[hrun,Oper.upon_value,hd]
 rw[FM]at hnd hρ
 obtain⟨n1,n2,n3⟩:=List.nodup_append.1 hnd
 obtain⟨us,L,q1,q2,q3,q4,q5⟩:=a6N (κ:=κ) (n:=st.H.length) k1 (a1m hok) n1
 let N:=st.H.length
 let κ':Nat→Option Value:=fun j=>if j<N then κ j else us[j-N]?
 let ρ':Nat→Nat:=fun b=>match ix (fun x:List Nat=>x.contains b) L with|some j=>N+j+1|none=>ρ b
 have hn:∀(j:Nat) v,κ j=some v→κ' j=some v:=by
  intro j v hj
  have:j<N:=by
   rcases Nat.lt_or_ge j N with h|h
   ·exact h
   ·rw[hs.oG j h]at hj;cases hj
  simp only[κ'];rw[if_pos this];exact hj
 have hk':∀(j:Nat) u,us[j]?=some u→κ' (N+j)=some u:=fun j u hj=>by
  simp only[κ'];rw[if_neg (by omega),Nat.add_sub_cancel_left];exact hj
 have aDo:L.flatten.Nodup:=by rw[q3];exact n1
 have aDp:∀(j:Nat) x b,L[j]?=some x→b∈x→ρ' b=N+j+1:=by
  intro j x b hj hb
  have:ix (fun x:List Nat=>x.contains b) L=some j:=DC hj (by simpa using hb) (fun m y hm hy=>by
   have hy':b∈y:=by simpa using hy
   exact Classical.byContradiction fun hne=>by
    have key:∀(L:List (List Nat)),L.flatten.Nodup→∀(p q:Nat) x y,L[p]?=some x→L[q]?=some y→b∈x→b∈y→p=q:=by
     intro L
     induction L with
     |nil=>intro _ p q x y hp;simp at hp
     |cons z L ih=>
      intro hnd p q x y hp hq FR hby
      simp only[List.flatten_cons]at hnd
      obtain⟨m1,m2,m3⟩:=List.nodup_append.1 hnd
      cases p with
      |zero=>
       cases q with
       |zero=>rfl
       |succ q=>
        simp at hp hq;subst hp
        exact absurd rfl (m3 b FR b (List.mem_flatten.2 ⟨y,List.mem_of_getElem? hq,hby⟩))
      |succ p=>
       cases q with
       |zero=>
        simp at hp hq;subst hq
        exact absurd rfl (m3 b hby b (List.mem_flatten.2 ⟨x,List.mem_of_getElem? hp,FR⟩))
       |succ q=>simp at hp hq;rw[ih m2 p q x y hp hq FR hby]
    exact hne (key L aDo m j y x hm hj hy' hb))
  simp only[ρ',this]
 have Y3:∀b,b∉c1→ρ' b=ρ b:=by
  intro b hb
  simp only[ρ']
  cases hi:ix (fun x:List Nat=>x.contains b) L with
  |none=>rfl
  |some j=>
   obtain⟨x,hx',hp⟩:=xI hi
   exact absurd (by rw[←q3];exact List.mem_flatten.2 ⟨x,List.mem_of_getElem? hx',by simpa using hp⟩) hb
 have aIQ:id<N:=(List.getElem?_eq_some_iff.1 hH).1
 have key:∀(j:Nat) y,(st.H.set id (.row (.mv (i+1)) e sz rows)++(tF st.H.length r).2)[j]?=some y→(j=id∧y=.row (.mv (i+1)) e sz rows)∨(j≠id∧j<N∧st.H[j]?=some y)∨∃m,j=N+m∧(tF st.H.length r).2[m]?=some y:=by
  intro j y hj
  by_cases hlt:j<N
  ·rw[List.getElem?_append_left (by simpa using hlt)]at hj
   rcases zS j y hj with h|⟨h1,h2⟩
   ·exact .inl h
   ·exact .inr (.inl ⟨h1,hlt,h2⟩)
  ·rw[List.getElem?_append_right (by simpa using hlt)]at hj
   exact .inr (.inr ⟨j-N,by omega,by simpa using hj⟩)
 have kk:fD w w Θ Θ (id+2):=fD.refl hs.own (by omega)
 have uB:=hs.nO kk hn hu
 have hone:∀(j:Nat) u,κ' j=some u→u.oneCell'=true:=by
  intro j u hj
  simp only[κ']at hj
  split at hj
  ·exact hs.o4 j u hj
  ·have hjl:j-N<(tF st.H.length r).2.length:=by rw[←q1];exact(List.getElem?_eq_some_iff.1 hj).1
   obtain⟨_,u',_,_,r2,r3,_⟩:=q4 (j-N) _ (List.getElem?_eq_getElem hjl)
   rw[hj]at r2;cases r2;exact r3
 have ZK:∀b∈c1,Θ b=0:=fun b hb=>(hu.free b (by rw[hρ b (by simp[hb])];omega)).1
 have hs':bN Γ ⟨st.σ,st.H.set id (.row (.mv (i+1)) e sz rows)++(tF st.H.length r).2⟩ κ' Θ a w:=by
  refine hs.step kk hs.mine hn (fun j hj=>?_) hone (fun j y hj=>?_) ⟨ρ',fun b hb=>?_,fun j e2 sz2 cI hj=>?_,fun j y hj=>?_⟩
  ·simp only[List.length_append,List.length_set]at hj
   simp only[κ']
   rw[if_neg (by omega)]
   exact List.getElem?_eq_none (by rw[q1];exact Nat.le_sub_of_add_le' hj)
  ·rcases key j y hj with⟨rfl,rfl⟩|⟨h1,h2,h3⟩|⟨m,rfl,hm⟩
   ·exact .inr (.inr ⟨aB2,hrl,_,cs0,bs0,hn _ _ hk,aA1,aGE,hΘ,yL⟩)
   ·exact .inr (.inl ⟨by omega,h3⟩)
   ·obtain⟨bG,u,b,rfl,r2,r3,r4,r5⟩:=q4 m y hm
    exact .inr (.inr ⟨u,b,hk' m u r2,r5,fun x hx'=>ZK x (by rw[←q3];exact List.mem_flatten.2 ⟨b,List.mem_of_getElem? r4,hx'⟩)⟩)
  ·by_cases hb':b∈c1
   ·exact uB.1 b (by rw[hρ b (by simp[hb'])];omega)
   ·rw[Y3 b hb']at hb;exact uB.1 b hb
  ·rcases key j _ hj with⟨_,h⟩|⟨h1,h2,h3⟩|⟨m,rfl,hm⟩
   ·cases h
   ·obtain⟨v',cs',bs',p1,p2,p3,p4,p5⟩:=uB.2.1 j e2 sz2 cI (by omega) h3
    refine⟨v',cs',bs',p1,p2,p3,p4,fun b hb=>?_⟩
    rw[Y3 b (fun hb'=>by have:=hρ b (by simp[hb']);have:=p5 b hb;omega)]
    exact p5 b hb
   ·obtain⟨_,_,_,h,_⟩:=q4 m _ hm;cases h
  ·rcases key j _ hj with⟨rfl,rfl⟩|⟨h1,h2,h3⟩|⟨m,rfl,hm⟩
   ·refine⟨_,cs,c2,hn _ _ hk,hown,?_,n2,fun b hb=>?_⟩
    ·have e1:cs.drop ((i+1)*sz)=v2:=by
      rw[Nat.add_mul,Nat.one_mul,←List.drop_drop,TI];exact List.drop_left' l1
     rw[e1];exact k2
    ·rw[Y3 b (fun hb'=>n3 b hb' b hb rfl)]
     exact hρ b (by simp[hb])
   ·refine(uB.2.2 j y (by omega) h3).re fun b hb=>?_
    rw[Y3 b (fun hb'=>by have:=hρ b (by simp[hb']);omega)]
    exact hb
   ·obtain⟨bG,u,b,rfl,r2,r3,r4,r5⟩:=q4 m y hm
    have hsub:∀x∈b,ρ' x=N+m+1:=fun x hx'=>aDp m b x r4 hx'
    have aGF:b.Nodup:=by
     have aBi:∀(L:List (List Nat)),L.flatten.Nodup→∀x∈L,x.Nodup:=by
      intro L
      induction L with
      |nil=>intro _ x hx';cases hx'
      |cons z L ih=>
       intro hnd x hx'
       simp only[List.flatten_cons]at hnd
       obtain⟨m1,m2,_⟩:=List.nodup_append.1 hnd
       rcases List.mem_cons.1 hx' with rfl|hx'
       ·exact m1
       ·exact ih m2 x hx'
     exact aBi L aDo b (List.mem_of_getElem? r4)
    exact⟨u,b,hk' m u r2,r5,aGF,hsub⟩
 refine hK _ _ (h κ' Θ _ w (hs'.set (t:=t) ht (.v (.agg v1 _ [] (q5 κ' hk'))) (by simp)))
theorem DE{o:Oper}{t:Nat}{d:D}{A A':List An}{p:EC}(hd:o.dst=some t)(hg:o.guard=none)(ht:t<Γ.nt)(hv:IT P st o.op A=some (d,A',p))(hp:yP p)(h:AO P Γ all rest Q ⟨(t,d)::st.σ,st.H⟩):
 AO P Γ all (o::rest) Q st:=a9t hd hg ht (a34 hv hp) h
theorem a4C{o:Oper}{s id e sz:Nat}{k:RK}{rows:List (List D)}(hx:lk st.σ s=.acc id)(hH:st.H[id]?=some (.row k e sz rows))(hk:k.X8=true)
 (h:AO P Γ all (o::rest) Q ⟨(s,.sl rows)::st.σ,st.H.set id .gone⟩):AO P Γ all (o::rest) Q st:=by
 intro κ Θ a w hs
 obtain⟨ρ,hu⟩:=hs.tC
 obtain⟨Θ',ρ',hs',_,⟨v,bs,hkm,hrd,hz,_⟩,_⟩:=hs.aB9 hu hH hk
 obtain⟨bx,rx,_⟩:=hs.slot s
 rw[hx]at rx
 obtain⟨hkx,_⟩:=rx.vC
 have hv:a.tmps.getD s undef=v:=by rw[hkm]at hkx;cases hkx;rfl
 refine h κ Θ' a w ⟨hs'.defers,hs'.size,hs'.oG,hs'.o4,fun u=>?_,hs'.ob,hs'.own,hs'.old,hs'.mine,hs'.stays,hs'.tC⟩
 show∃bs,qW w κ (a.tmps.getD u undef) (if u=s then .sl rows else lk st.σ u) bs∧_
 by_cases uB:u=s
 ·subst uB
  rw[if_pos rfl,hv]
  exact⟨bs,.of hrd,hz⟩
 ·rw[if_neg uB]
  exact hs'.slot u
theorem pO(c:Call){callee:Callee}{xs:List Operand}{ts:List TypeId}(h1:c.callee=callee)(h2:c.args.toList=xs)(h3:c.argTypes.toList=ts):c= {callee:=callee,args:=xs.toArray,argTypes:=ts.toArray}:=by
 cases c;simp only at h1 h2 h3;subst h1;subst h2;subst h3;simp
theorem Y4{H H':List Ob}{A A':List An}{p:EC}{σ:List (Nat×D)}(h:a1l H A=some (H',A',p))(hp:yP p)(hn:AO P Γ all rest Q ⟨σ,H'⟩):AO P Γ all rest Q ⟨σ,H⟩:=by
 unfold a1l at h
 split at h
 ·split at h
  ·rename_i sz rows u p' n hH
   split at h
   ·rename_i sz2 cI u2 d hN hc
    cases h
    have he:=hp.2.1
    subst he
    exact a6B (st:=⟨σ,H⟩) hH hN hp.1 hc hn
   ·cases h
  ·cases h
 ·cases h
  exact hn
theorem Y5{o:Oper}{A A':List An}{uL:St}{p:EC}{nt:Nat}(hnt:Γ.nt=nt)(hg:o.guard=none)(h:L5 P nt o st A=some (uL,A',p))(hp:yP p)(hn:AO P Γ all rest Q uL):AO P Γ all (o::rest) Q st:=by
 subst hnt
 unfold L5 at h
 split at h
 ·rename_i T x t hop hd
  split at h
  ·split at h
   ·cases h;exact aBB hop hd hg (by assumption) (by assumption) hn
   ·cases h
  ·cases h
 ·rename_i T t hop hd
  split at h
  ·split at h
   ·cases h;exact a5V hop hd hg (by assumption) (by assumption) hn
   ·cases h
  ·cases h
 ·rename_i T x y hop hd
  split at h
  ·rename_i id off ds h1 h2
   split at h
   ·rename_i ob h3
    split at h
    ·rename_i cells h4
     split at h
     ·rename_i hc
      cases h
      exact a5W hop hd hg h1 h3 h4 h2 hc.1 hc.2.1 hc.2.2 hn
     ·cases h
    ·cases h
   ·cases h
  ·rename_i id i sz off ds h1 h2
   split at h
   ·rename_i sz' rows u _ r A1 h3
    split at h
    ·rename_i hc
     obtain⟨c1,c2,c3,rfl,c5,c6⟩:=hc
     cases h
     exact a4A hop hd hg h1 h3 hp.1 h2 c6 c1 c2 c3 c5 hn
    ·cases h
   ·rename_i k e sz' rows es ms r A1 h3 h4
    split at h
    ·rename_i hc
     obtain⟨c1,c2,rfl,c4,c5,c6,c7⟩:=hc
     cases h
     exact ZQ hop hd hg h1 h3 c4 hp.1 h2 h4 c6 c7 c1 c2 c5 hn
    ·cases h
   ·cases h
  ·cases h
 ·rename_i T t hop hd
  split at h
  ·cases h;exact a1j hop hd hg (by assumption) hn
  ·cases h
 ·rename_i T x i y hop hd
  split at h
  ·rename_i kd dz id m A1 h1 h2
   split at h
   ·rename_i kv h3
    split at h
    ·rename_i hc
     cases h
     exact Y0 hop hd hg h1 h2 h3 hc.1 hc.2 hp.1 hn
    ·cases h
   ·cases h
  ·cases h
 ·rename_i T x y t hop hd
  split at h
  ·rename_i e sz k n k' n' h1 h2 h3
   split at h
   ·rename_i zs h4
    split at h
    ·rename_i hc
     cases h
     obtain⟨⟨rfl,q2,q3,q4⟩,_⟩:=hp
     exact XL hop hd hg hc.1 h1 h4 hc.2 h2 h3 q2 q3 q4 hn
    ·cases h
   ·cases h
  ·cases h
 ·rename_i T len parts t hop hd
  split at h
  ·rename_i e sz h1
   split at h
   ·rename_i zs h2
    split at h
    ·rename_i ds h3
     split at h
     ·rename_i es ms h4
      split at h
      ·rename_i hc
       cases h
       exact VL hop hd hg hc.1 h1 h2 hc.2.1 hc.2.2.1 h3 h4 hc.2.2.2 hn
      ·cases h
     ·cases h
    ·cases h
   ·cases h
  ·cases h
 ·rename_i c t hop hd
  split at h
  ·rename_i s x T T' h1 h2 h3
   split at h
   ·rename_i e sz h4
    split at h
    ·rename_i zs rows u1 k1 cI u2 k2 A1 ow h5 h6 h7
     split at h
     ·rename_i hc
      obtain⟨c1,c2,rfl,c4⟩:=hc
      cases h
      obtain⟨⟨q1,q2⟩,q3⟩:=hp
      exact aBh (hop.trans (congrArg Op.call (pO c h1 h2 h3))) hd hg c1 h4 h5 c2 h6 h7 q3 c4 q1 q2 hn
     ·cases h
    ·cases h
   ·cases h
  ·rename_i x T h1 h2 h3
   split at h
   ·rename_i id sz rows u h4
    obtain⟨h5,h6⟩:=U7 h4
    split at h
    ·rename_i hc
     cases h
     exact a8q (hop.trans (congrArg Op.call (pO c h1 h2 h3))) hd hg hc.1 hc.2 h5 h6 hn
    ·cases h
   ·split at h
    ·split at h
     ·rename_i d A1 ow h4
      cases h
      exact DE hd hg (by assumption) h4 hp hn
     ·cases h
    ·cases h
  ·rename_i f xs ts h1
   split at h
   ·rename_i ms outs d A1 h4
    split at h
    ·rename_i ins h5
     split at h
     ·rename_i hc
      obtain⟨c1,c2,c3⟩:=hc
      split at h
      ·rename_i H' A2 ow h6
       cases h
       exact a64 (hop.trans (congrArg Op.call (pO c h1 rfl rfl))) hd hg c1 c2 h5 (by simpa using c3) (by simpa using hp.1) (Y4 h6 hp.2 hn)
      ·cases h
     ·cases h
    ·cases h
   ·rename_i nz cells' d A1 h4
    split at h
    ·rename_i x0 xr h5
     split at h
     ·rename_i id h6
      split at h
      ·rename_i ob h7
       split at h
       ·rename_i QY h8
        split at h
        ·rename_i cells ds ms qs h9
         split at h
         ·rename_i hc
          obtain⟨c1,c2,c3⟩:=hc
          cases h
          exact a6I (hop.trans (congrArg Op.call (pO c h1 rfl rfl))) hd hg c1 (by simpa using h5) h6 h7 h8 h9 c2 c3 hp.1 hn
         ·cases h
        ·cases h
       ·cases h
      ·cases h
     ·cases h
    ·cases h
   ·rename_i ds ms cells A1 h4
    split at h
    ·rename_i hc
     obtain⟨c1,rfl⟩:=hc
     cases h
     exact a6K (hop.trans (congrArg Op.call (pO c h1 rfl rfl))) hd hg c1 (by simpa using h4) hp.1 hn
    ·cases h
   ·rename_i ds ms d A1 h4
    split at h
    ·rename_i hc
     cases h
     exact a68 (hop.trans (congrArg Op.call (pO c h1 rfl rfl))) hd hg hc.1 (by simpa using h4) hc.2 hp.1 hn
    ·cases h
   ·rename_i id bG A1 h4
    split at h
    ·rename_i e sz rows h5
     split at h
     ·rename_i hc
      obtain⟨c1,c3⟩:=hc
      cases h
      exact a6E (hop.trans (congrArg Op.call (pO c h1 rfl rfl))) hd hg c1 h5 hp.1 (by simpa using c3) (by simpa using hp.2.1) hn
     ·cases h
    ·cases h
   ·rename_i id bG A1 h4
    split at h
    ·rename_i x k e sz rows h5 h6
     split at h
     ·rename_i id' h7
      split at h
      ·rename_i hc
       obtain⟨c1,rfl,c3⟩:=hc
       cases h
       have e1:c.args= #[x]:=by rw[←Array.toList_inj];simpa using h5
       refine a6L (ts:=c.argTypes) (hop.trans (congrArg Op.call ?_)) (fun t' ht'=>?_) hg h7 h6 c3 hp.1 hp.2.1 ?_
       ·rw[←e1];exact pO c h1 rfl rfl
       ·rw[hd]at ht';cases ht';exact c1
       ·rw[hd];exact hn
      ·cases h
     ·cases h
    ·cases h
   ·rename_i ds ms d A1 h4
    split at h
    ·rename_i hc
     cases h
     exact a8j (hop.trans (congrArg Op.call (pO c h1 rfl rfl))) hd hg hc.1 (by simpa using h4) hc.2 hp.1 hn
    ·cases h
   ·rename_i d A1
    split at h
    ·rename_i hc
     cases h
     exact a5h (hop.trans (congrArg Op.call (pO c h1 rfl rfl))) hd hg hc.1 (by simpa using hc.2) (by simpa using hp.1) hn
    ·cases h
   ·cases h
  ·split at h
   ·split at h
    ·rename_i d A1 ow h4
     cases h
     exact DE hd hg (by assumption) h4 hp hn
    ·cases h
   ·cases h
 ·rename_i s d x t hop hd
  split at h
  ·rename_i id h1
   split at h
   ·rename_i k e' sz' rows e sz h2 h3
    split at h
    ·rename_i bs h4
     split at h
     ·rename_i hc
      obtain⟨c1,rfl,c3,c4⟩:=hc
      cases h
      exact a8w hop hd hg c1 h1 h2 h3 c3 c4 h4 hn
     ·cases h
    ·cases h
   ·cases h
  ·split at h
   ·split at h
    ·rename_i d A1 ow h4
     cases h
     exact DE hd hg (by assumption) h4 hp hn
    ·cases h
   ·cases h
 ·rename_i x t hop hd
  split at h
  ·rename_i A1
   split at h
   ·rename_i e sz h1 h2
    split at h
    ·rename_i hc
     cases h
     exact aBf hop hd hg hc.1 h1 hc.2 hn
    ·cases h
   ·cases h
  ·split at h
   ·cases h
    exact a9t hd hg (by assumption) (by rw[hop];rfl) hn
   ·cases h
 ·rename_i T x hi t hop hd
  split at h
  ·rename_i id h1
   split at h
   ·rename_i e sz rows e' sz' kk n hh A1 h2 h3 h4
    split at h
    ·rename_i hc
     obtain⟨c1,rfl⟩:=hc
     cases h
     exact a8u hop hd hg c1 h3 h1 h2 (by rw[h4,hp.1.1]) hp.1.2 hn
    ·cases h
   ·cases h
  ·split at h
   ·split at h
    ·rename_i d A1 ow h4
     cases h
     exact DE hd hg (by assumption) h4 hp hn
    ·cases h
   ·cases h
 ·rename_i T s lo t hop hd
  split at h
  ·rename_i A0 id h1
   split at h
   ·rename_i k e sz rows h2
    split at h
    ·rename_i hc
     split at h
     ·rename_i d A1 ow h4
      cases h
      exact a4C h1 h2 hc.2 (DE hd hg hc.1 h4 hp hn)
     ·cases h
    ·cases h
   ·cases h
  ·split at h
   ·split at h
    ·rename_i d A1 ow h4
     cases h
     exact DE hd hg (by assumption) h4 hp hn
    ·cases h
   ·cases h
 ·rename_i T x i t hop hd
  split at h
  ·rename_i id sz rows u h1
   obtain⟨h2,h3⟩:=U7 h1
   split at h
   ·rename_i e sz' k n m A1 h4 h5
    split at h
    ·rename_i hc
     obtain⟨c1,rfl⟩:=hc
     cases h
     exact aBS hop hd hg c1 h4 h2 h5 h3 hp.1.1 hp.1.2 hn
    ·cases h
   ·cases h
  ·split at h
   ·split at h
    ·rename_i d A1 ow h4
     cases h
     exact DE hd hg (by assumption) h4 hp hn
    ·cases h
   ·cases h
 ·rename_i T x t hop hd
  split at h
  ·rename_i id i off sz rows u h1
   obtain⟨h2,h3⟩:=a1k h1
   split at h
   ·rename_i r A1 h4
    split at h
    ·rename_i cI h5
     split at h
     ·rename_i e sz2 h6
      split at h
      ·rename_i hc
       cases h
       exact a6A hop hd hg hc h4 h2 h3 hp.1 h5 hp.2.1 hn
      ·cases h
     ·cases h
    ·rename_i d _ h5
     split at h
     ·rename_i hc
      cases h
      exact a69 hop hd hg hc.1 h4 h2 h3 hp.1 h5 hc.2 hn
     ·cases h
    ·cases h
   ·cases h
  ·split at h
   ·rename_i r A1 id i sz h1
    split at h
    ·rename_i n e sz' rows h2
     split at h
     ·rename_i hc
      obtain⟨c1,rfl,c3,c4⟩:=hc
      cases h
      obtain⟨⟨rfl,q2,q3⟩,_⟩:=hp
      exact a8x hop hd hg c1 h1 h2 q2 c3 c4 q3 hn
     ·cases h
    ·cases h
   ·split at h
    ·split at h
     ·rename_i d A1 ow h4
      cases h
      exact DE hd hg (by assumption) h4 hp hn
     ·cases h
    ·cases h
 ·split at h
  ·split at h
   ·rename_i d A1 ow h4
    cases h
    exact DE (by assumption) hg (by assumption) h4 hp hn
   ·cases h
  ·cases h
 ·cases h
theorem a6P{o:Oper}{A A':List An}{uL:St}{p:EC}{nt:Nat}(hnt:Γ.nt=nt)(h:L5 P nt o st A=some (uL,A',p)):∀ {t:Nat},o.dst=some t→t<Γ.nt:=by
 intro t ht
 subst hnt
 unfold L5 at h
 split at h
 all_goals first
  | (rename_i hd;rw[ht]at hd;cases hd;done)
  |skip
 all_goals(try(rename_i hd;rw[ht]at hd;cases hd))
 all_goals(repeat' split at h)
 all_goals(try cases h)
 all_goals first
  |assumption
  | (
   have hc:_∧_:=by assumption
   exact hc.1)
  | (simp_all;done)
end
end Go.Cx
namespace Go.Cx
set_option linter.unusedVariables false
set_option linter.unusedSimpArgs false
open Go.RowKit
section
variable{P:Program}{Γ:uK}{Q:Exit→St→Prop}{st:St}{κ:Nat→Option Value}{Θ:Nat→Nat}{a:Act}{w:World}{all:Array Oper}{X:List Nat}
def AE(X:List Nat)(H H':List Ob):Prop:=∀(i:Nat) o,i∉X→H[i]?=some o→H'[i]?=some o
theorem AE.refl{X:List Nat}(H:List Ob):AE X H H:=fun _ _ _ h=>h
theorem AE.trans{X:List Nat}{A B C:List Ob}(h:AE X A B)(k:AE X B C):AE X A C:=fun i o n e=>k i o n (h i o n e)
theorem AE.app{X:List Nat}{H H':List Ob}(h:AE X H H')(n:List Ob):AE X H (H'++n):=by
 intro i o hni hi
 have:=h i o hni hi
 rw[List.getElem?_append_left (List.getElem?_eq_some_iff.1 this).1,this]
theorem AE.cs{X:List Nat}{H H':List Ob}(h:AE X H H'){i:Nat}{cs:List D}(hi:i∉X)(hc:(H[i]?).bind Ob.cs?=some cs):(H'[i]?).bind Ob.cs?=some cs:=by
 obtain⟨ob,hb,hb2⟩:=Option.bind_eq_some_iff.1 hc
 rw[h i ob hi hb];exact hb2
def DF(X:List Nat)(st:St):Op→Bool
 | .fieldAddr _ _ _=>true
 | .field _ _ _=>true
 | .extract _ _=>true
 | .move _=>true
 | .binOp _ _ _ _ _=>true
 | .unOp _ _ _=>true
 | .nilCheck _=>true
 | .convert _ _ _=>true
 | .index _ _ _=>true
 | .build _ _=>true
 | .indexAddr _ x _=>(match st.ev x with| .sl _=>true| .acc id=> !X.contains id|_=>false)
 | .load _ x=>(match st.ev x with| .ep _ _=>true| .ptr id _=> !X.contains id| .op id _ _ _=> !X.contains id|_=>false)
 |_=>false
theorem a6Q{X:List Nat}{σ σ':List (Nat×D)}{H H':List Ob}{op:Op}{d:D}(hx:AE X H H')(hs:DF X ⟨σ,H⟩ op=true)(he:∀x∈op.operands.toList,St.ev ⟨σ,H⟩ x=St.ev ⟨σ',H'⟩ x)(h:pv P ⟨σ,H⟩ op=some d):pv P ⟨σ',H'⟩ op=some d:=by
 cases op<;>simp only[DF,Bool.false_eq_true]at hs<;>simp only[pv]at h⊢
 case move x=>rw[he x (by simp[Op.operands])]at*;exact h
 case nilCheck x=>rw[he x (by simp[Op.operands])]at h;exact h
 case binOp op t x y t'=>rw[he x (by simp[Op.operands]),he y (by simp[Op.operands])]at h;exact h
 case unOp op t x=>cases op<;>simp only[pv]at h⊢ <;>(try cases h)<;>(rw[he x (by simp[Op.operands])]at h;exact h)
 case convert s d x=>rw[he x (by simp[Op.operands])]at h;exact h
 case field t x f=>rw[he x (by simp[Op.operands])]at h;exact h
 case fieldAddr t x f=>rw[he x (by simp[Op.operands])]at h;exact h
 case indexAddr t x i=>
  rw[he x (by simp[Op.operands])]at hs
  rw[he x (by simp[Op.operands]),he i (by simp[Op.operands])]at h
  split at hs
  ·rename_i rows h0
   rw[h0]at h⊢
   generalize IG P t=a at h⊢
   generalize St.ev ⟨σ',H'⟩ i=b at h⊢
   cases a<;>cases b<;>exact h
  ·rename_i id h0
   rw[h0]at h⊢
   generalize IG P t=a at h⊢
   generalize St.ev ⟨σ',H'⟩ i=b at h⊢
   cases a<;>cases b<;>first|exact h|skip
   dsimp only at h⊢
   cases hH:H[id]? with
   |none=>rw[hH]at h;cases h
   |some o=>rw[hx id o (by simpa using hs) hH];rw[hH]at h;exact h
  ·cases hs
 case load t x=>
  rw[he x (by simp[Op.operands])]at hs h
  split at hs
  ·rename_i row off h0
   rw[h0]at h⊢
   generalize zP P t=a at h⊢
   cases a<;>exact h
  ·rename_i id off h0
   rw[h0]at h⊢
   generalize zP P t=a at h⊢
   cases a
   ·exact h
   ·dsimp only at h⊢
    split at h
    ·rename_i cells hH
     simp only[hx.cs (by simpa using hs) hH];exact h
    ·cases h
  ·rename_i id i sz off h0
   rw[h0]at h⊢
   generalize zP P t=a at h⊢
   cases a
   ·exact h
   ·dsimp only at h⊢
    cases hH:H[id]? with
    |none=>rw[hH]at h;cases h
    |some o=>rw[hx id o (by simpa using hs) hH];rw[hH]at h;exact h
  ·cases hs
 case extract x i=>rw[he x (by simp[Op.operands])]at h;exact h
 case index t x i=>rw[he x (by simp[Op.operands]),he i (by simp[Op.operands])]at h;exact h
 case build t parts=>
  have:(parts.toList.map fun p=>(p.1,St.ev ⟨σ,H⟩ p.2))=parts.toList.map fun p=>(p.1,St.ev ⟨σ',H'⟩ p.2):=by
   apply List.map_congr_left
   intro p hp
   rw[he p.2 (by simp only[Op.operands];simp;exact⟨p.1,by simpa using hp⟩)]
  rw[this]at h;exact h
def a1n(xs acc:List Nat):List Nat:=xs.foldl (fun acc x=>bif acc.contains x then acc else x::acc) acc
theorem a1o:∀ {xs acc:List Nat} {x:Nat},x∈a1n xs acc→x∈xs∨x∈acc:=by
 intro xs
 induction xs with
 |nil=>intro acc x h;exact .inr h
 |cons y ys ih=>
  intro acc x h
  rcases ih (acc:=bif acc.contains y then acc else y::acc) h with h|h
  ·exact .inl (by simp[h])
  ·cases hc:acc.contains y with
   |true=>rw[hc]at h;exact .inr h
   |false=>
    rw[hc]at h
    rcases List.mem_cons.1 h with rfl|h
    ·exact .inl (by simp)
    ·exact .inr h
def aA2(acc:List (List Nat))(es:List Edge):List Nat:=es.foldl (fun d e=>bif Region.binds .any e then a1n (e.on::acc.getD e.on []) d else d) []
theorem a4D{acc:List (List Nat)}{es:List Edge}{i:Nat}(h:i∈aA2 acc es):∃e∈es,Region.binds .any e=true∧(i=e.on∨i∈acc.getD e.on []):=by
 have key:∀(es:List Edge) (d:List Nat),i∈es.foldl (fun d e=>bif Region.binds .any e then a1n (e.on::acc.getD e.on []) d else d) d→i∈d∨∃e∈es,Region.binds .any e=true∧(i=e.on∨i∈acc.getD e.on []):=by
  intro es
  induction es with
  |nil=>intro d h;exact .inl h
  |cons e es ih=>
   intro d h
   rcases ih _ h with h|⟨e',h1,h2⟩
   ·cases hb:Region.binds .any e with
    |false=>simp only[hb,cond_false]at h;exact .inl h
    |true=>
     simp only[hb,cond_true]at h
     rcases a1o h with h|h
     ·exact .inr ⟨e,by simp,hb,by simpa using h⟩
     ·exact .inl h
   ·exact .inr ⟨e',by simp[h1],h2⟩
 rcases key es [] h with h|h
 ·cases h
 ·exact h
def OD(acc:List (List Nat))(o:Oper):List (List Nat):=acc++[aA2 acc o.after.toList]
def a1p(ops:List Oper):List (List Nat):=ops.foldl OD []
theorem a8y{ops:Array Oper}{listed:Array Bool}(closed:∀(j:Nat) oj,ops[j]?=some oj→listed.getD j false=true→∀e∈oj.after,Region.binds .any e=true→listed.getD e.on false=true):
 ∀(l pre:List Oper) (acc:List (List Nat)),ops.toList=pre++l→acc.length=pre.length→
  (∀(j:Nat) o,ops[j]?=some o→(∀e∈o.after,Region.binds .any e=true→listed.getD e.on false=true)→∀i∈acc.getD j [],listed.getD i false=true)→
  ∀(j:Nat) o,ops[j]?=some o→(∀e∈o.after,Region.binds .any e=true→listed.getD e.on false=true)→∀i∈(l.foldl OD acc).getD j [],listed.getD i false=true:=by
 intro l
 induction l with
 |nil=>intro pre acc _ _ h;exact h
 |cons o l ih=>
  intro pre acc hl ha h
  refine ih (pre++[o]) (OD acc o) (by simp[hl]) (by simp[OD,ha]) ?_
  intro j oj hj hall i hi
  unfold OD at hi
  rw[List.getD_eq_getElem?_getD]at hi
  rcases Nat.lt_trichotomy j acc.length with hlt|heq|hgt
  ·rw[List.getElem?_append_left hlt,←List.getD_eq_getElem?_getD]at hi
   exact h j oj hj hall i hi
  ·subst heq
   rw[List.getElem?_append_right (Nat.le_refl _),Nat.sub_self]at hi
   simp only[List.getElem?_cons_zero,Option.getD_some]at hi
   have ho:oj=o:=by
    rw[←Array.getElem?_toList,hl,List.getElem?_append_right (by omega),ha,Nat.sub_self]at hj
    simpa using hj.symm
   subst ho
   obtain⟨e,he,hb,hi⟩:=a4D hi
   have he':e∈oj.after:=by simpa using he
   have hel:=hall e he' hb
   rcases hi with rfl|hi
   ·exact hel
   ·cases hoe:ops[e.on]? with
    |none=>
     have h1:e.on<acc.length:=by
      rcases Nat.lt_or_ge e.on acc.length with h|h
      ·exact h
      ·rw[List.getD_eq_getElem?_getD,List.getElem?_eq_none h]at hi;cases hi
     have h2:ops.size≤e.on:=by simpa using hoe
     have h3:ops.size=pre.length+(l.length+1):=by rw[←Array.length_toList,hl];simp
     omega
    |some oe=>exact h e.on oe hoe (closed e.on oe hoe hel) i hi
  ·rw[List.getElem?_eq_none (by simp;omega)]at hi
   cases hi
theorem xR{ops:Array Oper}{listed:Array Bool}(closed:∀(j:Nat) oj,ops[j]?=some oj→listed.getD j false=true→∀e∈oj.after,Region.binds .any e=true→listed.getD e.on false=true){j:Nat}(hj:j∈Region.ready .any ops listed){i:Nat}(hi:((a1p ops.toList).getD j []).contains i=true):listed.getD i false=true:=by
 obtain⟨_,o,ho,hall⟩:=mem_ready.1 hj
 exact a8y closed ops.toList [] [] (by simp) rfl (by simp) j o ho hall i (List.contains_iff_mem.1 hi)
def a6R(dp:List (List Nat))(ops:Array Oper)(n m:Nat)(L:List Nat):Bool:=
 (decide (n≤m)&&decide (m<ops.size))&&
 (Region.seqB .any ops (ops.size-m) m (Array.replicate m true++Array.replicate (ops.size-m) false)&&
 (((List.range (ops.size-m)).all fun j=>(List.range m).all fun i=>(dp.getD (m+j) []).contains i)&&
 (((List.range (m-n)).all fun j=>(List.range (n+j)).all fun i=>(dp.getD (n+j) []).contains i||L.contains i)&&
 (((List.range m).all fun i=>match ops[i]? with|none=>false|some o=>o.after.all fun e=> !Region.binds .any e||decide (e.on<i))&&
 ((
  (List.range n).all fun i=>match ops[i]? with
  |none=>false
  |some o=>((o.looksAt ops).all fun t=>(List.range n).all fun j=>match ops[j]? with|some oj=> !(oj.dst==some t)||(decide (j<i)&&Region.waitsFor .any ops i j)|none=>true)&&
   (List.range n).all fun j=>j==i||(match ops[j]? with|some oj=> !(oj.dst==o.dst)||o.dst.isNone|none=>true))&&
 ((
  (List.range (m-n)).all fun j=>match ops[n+j]? with
  |none=>false
  |some o=>L.all fun i=>match ops[i]? with
   |none=>false
   |some oi=>(!(oi.dst==o.dst)&& !((oi.looksAt ops).any fun t=>o.dst==some t))&&((dp.getD (n+j) []).contains i|| !((o.looksAt ops).any fun t=>oi.dst==some t)))&&
 L.all fun i=>decide (i<n)&&(match ops[i]? with|some oi=>oi.guard.isNone&&oi.dst.isSome|none=>false)))))))
def U8(ops:Array Oper)(n m:Nat)(L:List Nat):Bool:=a6R (a1p ops.toList) ops n m L
def Step(P:Program)(Γ:uK)(o:Oper)(st xQ:St):Prop:=
 ∀κ Θ a w,bN Γ st κ Θ a w→o.wp P a w (fun a' w'=>∃κ' Θ',bN Γ xQ κ' Θ' a' w') (fun e _ _=>e=.normal)
def a6S(P:Program)(Γ:uK)(X:List Nat)(K:St→Prop):List Oper→St→Prop
 | [],st=>K st
 |o::os,st=>∃xQ,((∃t d,o.dst=some t∧t<Γ.nt∧xQ.σ=(t,d)::st.σ)∨(o.dst=none∧xQ.σ=st.σ))∧AE X st.H xQ.H∧o.guard=none∧(∀cs b,o.op≠ .select cs b)∧Step P Γ o st xQ∧a6S P Γ X K os xQ
theorem a0B{o:Oper}{a b:Act}{w:World}{K K2:Act→World→Prop}{Q1 Q2:Exit→Act→World→Prop}(hsel:∀cs b,o.op≠ .select cs b)(he:∀x∈o.op.operands,a.eval x=b.eval x)
 (hK:∀v w',K (b.put o.dst v) w'→K2 (a.put o.dst v) w') (hdf:∀d w',¬K ({b with defers:=d::b.defers}.put o.dst undef) w') (hQ:∀e c w',Q1 e c w'→e=.normal) (h:o.wp P b w K Q1):o.wp P a w K2 Q2:=by
 unfold Oper.wp at*
 rw[execOp_congr o hsel he]
 generalize(execOp b.eval o).run P w=r at*
 cases r with
 |ok n w'=>
  cases n with
  |value v=>exact hK _ _ h
  |skip=>exact hK _ _ h
  |defer d=>exact absurd h (hdf _ _)
  |enter f args=>
   refine Calls.mono h ?_
   intro e w'' he
   cases e with
   |returned v=>exact hK _ _ he
   |panicked c=>exact absurd (hQ _ _ _ he) (by simp)
   |outgrown=>
    obtain⟨a0,w0,hq⟩:=he
    exact absurd (hQ _ _ _ hq) (by simp)
  |row r args=>exact Rows.mono h fun v w'' he=>hK _ _ he
  |_=>exact h.elim
 |halt x w'=>
  cases x with
  |panic u=>exact absurd (hQ _ _ _ h) (by simp)
  |_=>exact h.elim
theorem aBj{l:List (Nat×D)}{σ:List (Nat×D)}(h:∀p∈l,p.2=.any){t:Nat}(ht:t∈l.map Prod.fst):lk (l++σ) t=.any:=by
 induction l with
 |nil=>cases ht
 |cons p l ih=>
  obtain⟨u,d⟩:=p
  have hd:d=.any:=h (u,d) (by simp)
  subst hd
  simp only[List.cons_append,lk]
  by_cases e:t=u
  ·rw[if_pos e]
  ·rw[if_neg e]
   refine ih (fun p hp=>h p (by simp[hp])) ?_
   simp only[List.map_cons,List.mem_cons]at ht
   rcases ht with h|h
   ·exact absurd h e
   ·exact h
theorem LL(a:Act){t u:Nat}(v:Value)(h:u≠t):(a.put (some t) v).tmps.getD u undef=a.tmps.getD u undef:=by
 show(a.tmps.setIfInBounds t v).getD u undef=_
 simp[Array.getD_eq_getD_getElem?,Ne.symm h]
theorem OE(a:Act){t:Nat}(v:Value)(h:t<a.tmps.size):(a.put (some t) v).tmps.getD t undef=v:=by
 show(a.tmps.setIfInBounds t v).getD t undef=_
 simp[Array.getD_eq_getD_getElem?,h]
theorem count_set{m i:Nat}{listed:Array Bool}(hi:i<m)(hsz:i<listed.size)(hl:listed.getD i false=false):((List.range m).filter fun j=> !(listed.setIfInBounds i true).getD j false).length+1=((List.range m).filter fun j=> !listed.getD j false).length:=by
 have a44:((List.range m).filter fun j=> !(listed.setIfInBounds i true).getD j false)=((List.range m).filter fun j=> !listed.getD j false).erase i:=by
  have hnd:((List.range m).filter fun j=> !listed.getD j false).Nodup:=List.Pairwise.filter _ List.nodup_range
  rw[hnd.erase_eq_filter,List.filter_filter]
  apply List.filter_congr
  intro j _
  by_cases e:j=i
  ·subst e
   simp[hsz]
  ·rw[getD_set_ne false (Ne.symm e)]
   simp[e]
 have hmem:i∈(List.range m).filter fun j=> !listed.getD j false:=List.mem_filter.2 ⟨List.mem_range.2 hi,by simp only[hl];rfl⟩
 have hpos:0<((List.range m).filter fun j=> !listed.getD j false).length:=List.length_pos_of_mem hmem
 rw[a44,List.length_erase_of_mem hmem]
 omega
def a6T(P:Program)(Γ:uK)(X:List Nat)(l:List Oper)(σF:List (Nat×D))(H0:List Ob)(i:Nat):Prop:=
 ∃o t d,l.toArray[i]?=some o∧o.guard=none∧o.dst=some t∧t<Γ.nt∧lk σF t=d∧∀σ' H',AE X H0 H'→(∀u∈o.looksAt l.toArray,lk σ' u=lk σF u)→pv P ⟨σ',H'⟩ o.op=some d
theorem a0C{l:List Oper}{n m:Nat}{L:List Nat}{σF:List (Nat×D)}{H0:List Ob}(hB:U8 l.toArray n m L=true)(aA3:∀i∈L,a6T P Γ X l σF H0 i):
 ∀(f c:Nat) (S:St) (listed:Array Bool) (σ':List (Nat×D)) (κ:Nat→Option Value) (Θ:Nat→Nat) (a:Act) (w:World),HeadInv .any l.toArray l.toArray.size listed→
  (∀i,i<n→i∉L→listed.getD i false=true)→n+c≤m→(∀i,n≤i→i<n+c→listed.getD i false=true)→(∀i,n+c≤i→i<l.toArray.size→listed.getD i false=false)→
  ((List.range m).filter fun i=> !listed.getD i false).length=f→
  (∀t,(∀(i:Nat) o,l.toArray[i]?=some o→n≤i→i<n+c→o.dst≠some t)→lk S.σ t=lk σF t)→AE X H0 S.H→
  a6S P Γ X (fun uL=>AO P Γ l.toArray (l.drop m) Q uL) ((l.drop (n+c)).take (m-(n+c))) S→
  (∀t,(∀i∈L,∀o,l.toArray[i]?=some o→listed.getD i false=false→o.dst≠some t)→lk σ' t=lk S.σ t)→
  bN Γ ⟨σ',S.H⟩ κ Θ a w→
  wpAny P .any l.toArray (fun e a' w'=>∃uL κ' Θ',bN Γ uL κ' Θ' a' w'∧Q e uL) (f+(l.toArray.size-m)) listed a w:=by
 simp only[U8,a6R,Bool.and_eq_true,decide_eq_true_eq]at hB
 obtain⟨⟨hnm,XK⟩,a8m,a6U,hmid,a6V,a6W,a6X,hL⟩:=hB
 have aGH:∀i,i<m→∃o,l.toArray[i]?=some o∧∀e∈o.after,Region.binds .any e=true→e.on<i:=by
  intro i hi
  have:=List.all_eq_true.1 a6V i (List.mem_range.2 hi)
  split at this
  ·cases this
  ·rename_i o ho
   refine⟨o,ho,fun e he hb=>?_⟩
   have:=Array.all_eq_true'.1 this e he
   simpa[hb]using this
 have FY:∀i∈L,i<n:=by
  intro i hi
  have:=List.all_eq_true.1 hL i hi
  simp only[Bool.and_eq_true,decide_eq_true_eq]at this
  exact this.1
 have a0D:∀(i:Nat) o,i<n→l.toArray[i]?=some o→∀u∈o.looksAt l.toArray,∀(j:Nat) oj,j<n→l.toArray[j]?=some oj→oj.dst=some u→j<i∧Region.waitsFor .any l.toArray i j=true:=by
  intro i o hi ho u hu j oj hj xO hd
  have:=List.all_eq_true.1 a6W i (List.mem_range.2 hi)
  simp only[ho,Bool.and_eq_true]at this
  have:=List.all_eq_true.1 (List.all_eq_true.1 this.1 u hu) j (List.mem_range.2 hj)
  simpa[xO,hd]using this
 have OF:∀(j:Nat) o,n≤j→j<m→l.toArray[j]?=some o→∀i∈L,∀oi,l.toArray[i]?=some oi→oi.dst≠o.dst∧(∀u∈oi.looksAt l.toArray,o.dst≠some u)∧(((a1p l.toArray.toList).getD j []).contains i=true∨∀u∈o.looksAt l.toArray,oi.dst≠some u):=by
  intro j o KY hj2 ho i hi oi hoi
  have:=List.all_eq_true.1 a6X (j-n) (List.mem_range.2 (by omega))
  rw[show n+(j-n)=j from by omega]at this
  simp only[ho]at this
  have:=List.all_eq_true.1 this i hi
  simp only[hoi,Bool.and_eq_true,Bool.not_eq_true',Bool.or_eq_true]at this
  obtain⟨⟨h1,h2⟩,h3⟩:=this
  refine⟨by simpa using h1,fun u hu he=>?_,h3.imp id fun h u hu he=>?_⟩
  ·have:=List.any_eq_false.1 h2 u hu
   simp[he]at this
  ·have:=List.any_eq_false.1 h u hu
   simp[he]at this
 intro f
 induction f with
 |zero=>
  intro c S listed σ' κ Θ a w inv hN hc hM hT mU hS hX hA hag hs
  have hall:∀i,i<m→listed.getD i false=true:=by
   intro i hi
   have h0:=List.eq_nil_of_length_eq_zero mU
   cases hl:listed.getD i false with
   |true=>rfl
   |false=>
    have:i∈(List.range m).filter fun i=> !listed.getD i false:=List.mem_filter.2 ⟨List.mem_range.2 hi,by simp only[hl];rfl⟩
    rw[h0]at this;cases this
  have hcm:n+c=m:=by
   rcases Nat.lt_or_ge (n+c) m with h|h
   ·have h1:=hall (n+c) h
    rw[hT (n+c) (Nat.le_refl _) (by omega)]at h1;cases h1
   ·omega
  have a5v:listed=Array.replicate m true++Array.replicate (l.toArray.size-m) false:=by
   apply Array.ext
   ·rw[inv.size];simp at XK⊢;omega
   ·intro i h1 h2
    by_cases hi:i<m
    ·have:=hall i hi
     rw[Array.getElem_append_left (by simpa using hi)]
     simp[h1]at this
     simp[this]
    ·have hi':i<l.toArray.size:=by rw[←inv.size];exact h1
     have:=hT i (by omega) hi'
     rw[Array.getElem_append_right (by simpa using hi)]
     simp[h1]at this
     simp[this]
  rw[Nat.zero_add]
  rw[hcm,Nat.sub_self,List.take_zero]at hA
  have hA:AO P Γ l.toArray (l.drop m) Q S:=hA
  have hs2:=bN.same (st:=⟨σ',S.H⟩) (σ':=S.σ) (fun t=>hag t (fun i hi o ho hl=>by rw[hall i (by have:=FY i hi;omega)]at hl;cases hl)) hs
  have hwp:=hA κ Θ a w hs2
  have hdl:(l.drop m).length=l.toArray.size-m:=by simp
  have:=wpAny_of_seq (md:=.any) (l.drop m) m listed a w (fun j=>by simp[List.getElem?_drop]) (by rw[hdl,a5v];exact a8m) hwp
  rwa[hdl]at this
 |succ f ih=>
  intro c S listed σ' κ Θ a w inv hN hc hM hT mU hS hX hA hag hs
  have hun:∃i,i<m∧listed.getD i false=false:=by
   have hne:((List.range m).filter fun i=> !listed.getD i false)≠[]:=by
    intro h0;rw[h0]at mU;simp at mU
   obtain⟨i,hi⟩:=List.exists_mem_of_ne_nil _ hne
   obtain⟨h1,h2⟩:=List.mem_filter.1 hi
   exact⟨i,List.mem_range.1 h1,by simpa using h2⟩
  have hsz:=inv.size
  rw[show f+1+(l.toArray.size-m)=(f+(l.toArray.size-m))+1 from by omega]
  refine⟨fun h0=>?_,fun i hi=>?_⟩
  ·exfalso
   obtain⟨i,⟨hin,hil⟩,hmin⟩:=exists_least (p:=fun i=>i<m∧listed.getD i false=false) hun
   obtain⟨o,ho,hed⟩:=aGH i hin
   have:i∈Region.ready .any l.toArray listed:=by
    refine mem_ready.2 ⟨getD_in (by rw[hsz];omega) hil,o,ho,fun e he hb=>?_⟩
    have:=hed e he hb
    cases hl:listed.getD e.on false with
    |true=>rfl
    |false=>have:=hmin e.on ⟨by omega,hl⟩;omega
   rw[h0]at this;cases this
  ·obtain⟨i0,hi0,hl0⟩:=hun
   obtain⟨hil,o,ho,hall⟩:=mem_ready.1 hi
   have BP:=getD_both hil
   have D9:i<l.toArray.size:=(Array.getElem?_eq_some_iff.1 ho).1
   have him:i<m:=by
    rcases Nat.lt_or_ge i m with h|h
    ·exact h
    ·have h1:=List.all_eq_true.1 a6U (i-m) (List.mem_range.2 (by omega))
     have h2:=List.all_eq_true.1 h1 i0 (List.mem_range.2 hi0)
     rw[show m+(i-m)=i from by omega]at h2
     rw[xR inv.closed hi h2]at hl0;cases hl0
   have a44:=count_set him (by rw[hsz];exact D9) BP
   have qT:∀(j:Nat),(listed.setIfInBounds i true).getD j false=true↔(j=i∨listed.getD j false=true):=by
    intro j
    by_cases e:i=j
    ·subst e
     have:i<listed.size:=by rw[hsz];exact D9
     simp[this]
    ·rw[getD_set_ne false e]
     constructor
     ·exact .inr
     ·rintro(rfl|h)
      ·exact absurd rfl e
      ·exact h
   have aHJ:∀(j:Nat),(listed.setIfInBounds i true).getD j false=false→j≠i∧listed.getD j false=false:=by
    intro j h
    refine⟨fun e=>?_,?_⟩
    ·have:=(qT j).2 (.inl e);rw[this]at h;cases h
    ·cases h2:listed.getD j false with
     |false=>rfl
     |true=>have:=(qT j).2 (.inr h2);rw[this]at h;cases h
   rcases Nat.lt_or_ge i n with hin|hin
   ·
    have hiL:i∈L:=by
     by_cases h:i∈L
     ·exact h
     ·rw[hN i hin h]at BP;cases BP
    obtain⟨o',t,d,ho',hg,hd,htn,hdF,hpv⟩:=aA3 i hiL
    rw[ho]at ho';cases ho'
    have a0E:∀u∈o.looksAt l.toArray,lk σ' u=lk σF u:=by
     intro u hu
     rw[hag u,hS u]
     ·intro j oj xO KY hj2 he
      exact(OF j oj KY (by omega) xO i hiL o ho).2.1 u hu he
     ·intro j hj oj xO hlj he
      obtain⟨h1,h2⟩:=a0D i o hin ho u hu j oj (FY j hj) xO he
      obtain⟨o2,ho2,e,LI,hb,hon⟩:=Region.waitsFor_spec h2
      rw[ho]at ho2;cases ho2
      have:=hall e LI hb
      rw[hon,hlj]at this;cases this
    have hp:=hpv σ' S.H hX a0E
    obtain⟨v,bs,hrun,hrd,hz⟩:=FL (st:=⟨σ',S.H⟩) hs hp
    refine AB ho (by simp[Region.wanted,hg]) ?_
    unfold Oper.wp
    rw[hrun,Oper.upon_value,hd]
    refine ih c S (listed.setIfInBounds i true) ((t,d)::σ') κ Θ _ w (inv.set hi D9) ?_ hc ?_ ?_ (by omega) hS hX hA ?_ (hs.set (st:=⟨σ',S.H⟩) htn hrd hz)
    ·intro j hj hjL;exact(qT j).2 (.inr (hN j hj hjL))
    ·intro j KY hj2;exact(qT j).2 (.inr (hM j KY hj2))
    ·intro j KY hj2
     rw[getD_set_ne false (by omega)];exact hT j KY hj2
    ·intro u hu
     simp only[lk]
     by_cases e:u=t
     ·rw[if_pos e,e,hS t,hdF]
      intro j oj xO KY hj2 he
      exact(OF j oj KY (by omega) xO i hiL o ho).1 (by rw[hd,he])
     ·rw[if_neg e]
      refine hag u fun j hj oj xO hlj he=>?_
      by_cases hji:j=i
      ·subst hji
       rw[ho]at xO;cases xO
       rw[hd]at he;cases he;exact e rfl
      ·exact hu j hj oj xO (by rw[getD_set_ne false (Ne.symm hji)];exact hlj) he
   ·
    have hic:i=n+c:=by
     rcases Nat.lt_trichotomy i (n+c)with h|h|h
     ·rw[hM i hin h]at BP;cases BP
     ·exact h
     ·have h1:=List.all_eq_true.1 hmid (i-n) (List.mem_range.2 (by omega))
      rw[show n+(i-n)=i from by omega]at h1
      have h2:=List.all_eq_true.1 h1 (n+c) (List.mem_range.2 h)
      simp only[Bool.or_eq_true]at h2
      rcases h2 with h2|h2
      ·have:=xR inv.closed hi h2
       rw[hT (n+c) (Nat.le_refl _) (by omega)]at this;cases this
      ·have:=FY (n+c) (by simpa using h2);omega
    subst hic
    have a6O:(l.drop (n+c)).take (m-(n+c))=o::(l.drop (n+(c+1))).take (m-(n+(c+1))):=by
     have h1:l[n+c]?=some o:=by simpa using ho
     have h2:(n+c)<l.length:=(List.getElem?_eq_some_iff.1 h1).1
     have h3:l[n+c]=o:=(List.getElem?_eq_some_iff.1 h1).2
     rw[List.drop_eq_getElem_cons h2,h3,show m-(n+c)=(m-(n+(c+1)))+1 from by omega,List.take_succ_cons]
     rfl
    rw[a6O]at hA
    obtain⟨S1,XI,hX1,hgm,hsel,hstep,hA1⟩:=hA
    have aGK:∀u,o.dst≠some u→lk S1.σ u=lk S.σ u:=by
     intro u hu
     rcases XI with⟨tm,dm,hdm,htm,aBk⟩|⟨_,aBk⟩
     ·rw[aBk];simp only[lk]
      rw[if_neg (fun e=>hu (by rw[hdm,e]))]
     ·rw[aBk]
    have aDq:∀(b:Act) (v:Value),(b.put o.dst v).tmps.size=b.tmps.size:=by
     intro b v
     rcases XI with⟨tm,dm,hdm,_,_⟩|⟨hdm,_⟩
     ·rw[hdm];show(b.tmps.setIfInBounds tm v).size=_;simp
     ·rw[hdm];rfl
    have aDr:∀(b:Act) (v:Value),(b.put o.dst v).defers=b.defers:=by
     intro b v
     cases o.dst<;>rfl
    have fill:∀k,k≤n→∃(ak:Act) (σk:List (Nat×D)),bN Γ ⟨σk,S.H⟩ κ Θ ak w∧(∀u,(∀j∈L,∀oj,l.toArray[j]?=some oj→listed.getD j false=false→k≤j→oj.dst≠some u)→lk σk u=lk S.σ u)∧
     (∀u,(∀j∈L,∀oj,l.toArray[j]?=some oj→listed.getD j false=false→oj.dst≠some u)→ak.tmps.getD u undef=a.tmps.getD u undef):=by
     intro k
     induction k with
     |zero=>intro _;exact⟨a,σ',hs,fun u hu=>hag u (fun j hj oj xO hl=>hu j hj oj xO hl (Nat.zero_le _)),fun _ _=>rfl⟩
     |succ k ihk=>
      intro hk
      obtain⟨ak,σk,hsk,aBl,hek⟩:=ihk (by omega)
      by_cases hkl:k∈L∧listed.getD k false=false
      ·obtain⟨hkL,hkF⟩:=hkl
       obtain⟨ok,t,d,hok,hg,hd,htn,hdF,hpv⟩:=aA3 k hkL
       have a0E:∀u∈ok.looksAt l.toArray,lk σk u=lk σF u:=by
        intro u hu
        rw[aBl u,hS u]
        ·intro j oj xO KY hj2 he
         exact(OF j oj KY (by omega) xO k hkL ok hok).2.1 u hu he
        ·intro j hj oj xO hlj hkj he
         obtain⟨h1,h2⟩:=a0D k ok (by omega) hok u hu j oj (FY j hj) xO he
         omega
       have hp:=hpv σk S.H hX a0E
       obtain⟨v,bs,hrun,hrd,hz⟩:=FL (st:=⟨σk,S.H⟩) hsk hp
       refine⟨ak.put (some t) v,(t,d)::σk,hsk.set (st:=⟨σk,S.H⟩) htn hrd hz,?_,?_⟩
       ·intro u hu
        simp only[lk]
        by_cases e:u=t
        ·rw[if_pos e,e,hS t,hdF]
         intro j oj xO KY hj2 he
         exact(OF j oj KY (by omega) xO k hkL ok hok).1 (by rw[hd,he])
        ·rw[if_neg e]
         refine aBl u fun j hj oj xO hlj hkj he=>?_
         by_cases hjk:j=k
         ·subst hjk
          rw[hok]at xO;cases xO
          rw[hd]at he;cases he;exact e rfl
         ·exact hu j hj oj xO hlj (by omega) he
       ·intro u hu
        rw[LL _ _ (fun e=>hu k hkL ok hok hkF (by rw[hd,e])),hek u hu]
      ·refine⟨ak,σk,hsk,fun u hu=>aBl u fun j hj oj xO hlj hkj=>?_,hek⟩
       by_cases hjk:j=k
       ·subst hjk
        exact absurd ⟨hj,hlj⟩ hkl
       ·exact hu j hj oj xO hlj (by omega)
    obtain⟨an,σn,hsn,aGM,hen⟩:=fill n (Nat.le_refl _)
    have hsS:=bN.same (st:=⟨σn,S.H⟩) (σ':=S.σ) (fun u=>aGM u (fun j hj oj xO _ hnj=>by have:=FY j hj;omega)) hsn
    have hwp:=hstep κ Θ an w hsS
    refine AB ho (by simp[Region.wanted,hgm]) (a0B (Q2:=_) hsel ?_ ?_ ?_ (fun e _ _ h=>h) hwp)
    ·intro x hx
     cases x with
     |tmp u=>
      refine(hen u fun j hj oj xO hlj he=>?_).symm
      have hu:u∈o.looksAt l.toArray:=by
       unfold Oper.looksAt
       exact List.mem_append.2 (.inl (List.mem_filterMap.2 ⟨.tmp u,by simpa using hx,rfl⟩))
      rcases(OF (n+c) o (by omega) him ho j hj oj xO).2.2 with h|h
      ·rw[xR inv.closed hi h]at hlj;cases hlj
      ·exact h u hu he
     |const v=>rfl
     |global g=>rfl
     |func f=>rfl
    ·rintro v w' ⟨κ',Θ',hs'⟩
     let late:List (Nat×D):=(L.filterMap fun j=>bif listed.getD j false then none else(l.toArray[j]?).bind (·.dst)).map fun u=>(u,D.any)
     have a0F:∀u,u∈late.map Prod.fst↔∃j∈L,∃oj,l.toArray[j]?=some oj∧listed.getD j false=false∧oj.dst=some u:=by
      intro u
      simp only[late,List.map_map,List.mem_map,List.mem_filterMap,Function.comp]
      constructor
      ·rintro⟨x,⟨j,hj,hx⟩,rfl⟩
       cases hl:listed.getD j false with
       |true=>rw[hl]at hx;cases hx
       |false=>
        rw[hl,cond_false]at hx
        cases xO:l.toArray[j]? with
        |none=>rw[xO]at hx;cases hx
        |some oj=>rw[xO]at hx;exact⟨j,hj,oj,xO,hl,hx⟩
      ·rintro⟨j,hj,oj,xO,hl,hx⟩
       exact⟨u,⟨j,hj,by rw[hl,cond_false,xO];exact hx⟩,rfl⟩
     have hs2:bN Γ ⟨late++S1.σ,S1.H⟩ κ' Θ' (a.put o.dst v) w':=by
      refine⟨by rw[aDr];exact hs.defers,by rw[aDq];exact hs.size,hs'.oG,hs'.o4,?_,hs'.ob,hs'.own,hs'.old,hs'.mine,hs'.stays,hs'.tC⟩
      intro u
      show∃bs,qW w' κ' _ (lk (late++S1.σ) u) bs∧_
      by_cases hu:u∈late.map Prod.fst
      ·rw[aBj (fun p hp=>by simp only[late,List.mem_map]at hp;obtain⟨_,_,rfl⟩:=hp;rfl) hu]
       exact⟨[],.of (.any _),by simp⟩
      ·rw[FV _ _ _ (fun p hp e=>hu (List.mem_map.2 ⟨p,hp,e⟩))]
       have e1:(a.put o.dst v).tmps.getD u undef=(an.put o.dst v).tmps.getD u undef:=by
        have e0:=(hen u fun j hj oj xO hlj he=>hu ((a0F u).2 ⟨j,hj,oj,xO,hlj,he⟩)).symm
        rcases XI with⟨tm,dm,hdm,htm,_⟩|⟨hdm,_⟩
        ·rw[hdm]
         by_cases e:u=tm
         ·subst e
          rw[OE _ _ (by rw[hs.size];exact htm),OE _ _ (by rw[hsn.size];exact htm)]
         ·rw[LL _ _ e,LL _ _ e]
          exact e0
        ·rw[hdm];exact e0
       rw[e1]
       exact hs'.slot u
     refine ih (c+1) S1 (listed.setIfInBounds (n+c) true) (late++S1.σ) κ' Θ' _ w' (inv.set hi D9) ?_ (by omega) ?_ ?_ (by omega) ?_ (hX.trans hX1) hA1 ?_ hs2
     ·intro j hj hjL;exact(qT j).2 (.inr (hN j hj hjL))
     ·intro j KY hj2
      by_cases e:j=n+c
      ·exact(qT j).2 (.inl e)
      ·exact(qT j).2 (.inr (hM j KY (by omega)))
     ·intro j KY hj2
      rw[getD_set_ne false (by omega)];exact hT j (by omega) hj2
     ·intro u hu
      rw[aGK u (hu (n+c) o ho (by omega) (by omega))]
      exact hS u fun j oj xO KY hj2=>hu j oj xO KY (by omega)
     ·intro u hu
      rw[FV]
      intro p hp e
      obtain⟨j,hj,oj,xO,hl,he⟩:=(a0F u).1 (List.mem_map.2 ⟨p,hp,e⟩)
      refine hu j hj oj xO ?_ he
      rw[getD_set_ne false (by have:=FY j hj;omega)];exact hl
    ·rintro d w' ⟨κ',Θ',hs'⟩
     have:=hs'.defers
     cases hod:o.dst<;>rw[hod]at this<;>cases this
theorem S3{p:Nat→Bool}{n:Nat}:∀(k:Nat),(∀i,n≤i→i<n+k→p i=true)→((List.range (n+k)).filter p).length=((List.range n).filter p).length+k
 |0,_=>rfl
 |k+1,h=>by
  rw[←Nat.add_assoc,List.range_succ,List.filter_append,List.length_append,S3 k (fun i h1 h2=>h i h1 (by omega))]
  have:p (n+k)=true:=h (n+k) (by omega) (by omega)
  simp[this];omega
def WL(P:Program)(Γ:uK)(ops:Array Oper)(Q:Exit→St→Prop)(st:St):Prop:=
 ∀κ Θ a w,bN Γ st κ Θ a w→wpAny P .any ops (fun e a' w'=>∃uL κ' Θ',bN Γ uL κ' Θ' a' w'∧Q e uL) ops.size (Array.replicate ops.size false) a w
theorem WL.aw{id:Nat}{ops:Array Oper}(hm:P.follows .mixedOrders=true)(h:WL P Γ ops Q st):AW P Γ (.region id ops true) Q st:=
 fun κ Θ a w hs=>wp_region_any hm (h κ Θ a w.drew hs.drew)
theorem a4E{l:List Oper}(n m:Nat)(L:List Nat)(hB0:U8 l.toArray n m L=true)
 (h:RY P Γ l.toArray st.H (fun σ acc=>(∀i∈L,∀o,l[i]?=some o→DF X ⟨σ,st.H⟩ o.op=true)∧a6S P Γ X (fun uL=>AO P Γ l.toArray (l.drop m) Q uL) ((l.drop n).take (m-n)) ⟨σ,st.H++acc⟩) (l.take n) st.σ [] []):WL P Γ l.toArray Q st:=by
 have hB:=hB0
 simp only[U8,a6R,Bool.and_eq_true,decide_eq_true_eq]at hB
 obtain⟨⟨hnm,XK⟩,a8m,a6U,hmid,a6V,a6W,a6X,hL⟩:=hB
 have hn:n<l.toArray.size:=by omega
 have RZ:((List.range n).all fun i=>match l.toArray[i]? with
  |none=>false
  |some o=>(o.after.all fun e=> !Region.binds .any e||decide (e.on<i))&&
   ((o.looksAt l.toArray).all fun t=>(List.range n).all fun j=>match l.toArray[j]? with|some oj=> !(oj.dst==some t)||(decide (j<i)&&Region.waitsFor .any l.toArray i j)|none=>true)&&
   (List.range n).all fun j=>j==i||(match l.toArray[j]? with|some oj=> !(oj.dst==o.dst)||o.dst.isNone|none=>true))=true:=by
  rw[List.all_eq_true]
  intro i hi
  have h1:=List.all_eq_true.1 a6V i (List.mem_range.2 (by have:=List.mem_range.1 hi;omega))
  have h2:=List.all_eq_true.1 a6W i hi
  cases ho:l.toArray[i]? with
  |none=>rw[ho]at h1;cases h1
  |some o=>
   simp only[ho,Bool.and_eq_true]at h1 h2⊢
   exact⟨⟨h1,h2.1⟩,h2.2⟩
 have FY:∀i∈L,i<n:=by
  intro i hi
  have:=List.all_eq_true.1 hL i hi
  simp only[Bool.and_eq_true,decide_eq_true_eq]at this
  exact this.1
 obtain⟨ps,SP,hlen,TW,⟨hstill,hK⟩,hFl,hFo,hFu⟩:=RY.unfold _ _ _ _ h
 simp only[List.nil_append,List.length_nil,Nat.add_zero,Nat.zero_add]at TW hK hFl hFo hstill
 have hn':n<l.length:=by simpa using hn
 have hpl:ps.length=n:=by rw[hlen];simp;omega
 have hop:∀(i:Nat),i<n→∃o p,l.toArray[i]?=some o∧ps[i]?=some p∧o.dst=p.t∧tE P Γ l.toArray st.H (((ps.take i).filterMap Cp.sl).reverse++st.σ) o p∧p.r=st.H.length+((ps.take i).flatMap Cp.obs).length:=by
  intro i hi
  have h1:l[i]?=some l[i]:=List.getElem?_eq_getElem (by omega)
  have h2:ps[i]?=some ps[i]:=List.getElem?_eq_getElem (by omega)
  have h3:=TW i l[i] ps[i] (by rw[List.getElem?_take,if_pos hi];exact h1) h2
  exact⟨l[i],ps[i],by simp[List.getElem?_toArray,h1],h2,h3.1.slots,h3.1,h3.2.1⟩
 have hpr:∀(i:Nat) p,ps[i]?=some p→p.r=st.H.length+((ps.take i).flatMap Cp.obs).length:=by
  intro i p hp
  have hi:i<n:=by have:=(List.getElem?_eq_some_iff.1 hp).1;omega
  obtain⟨_,p',_,hp',_,_,hr⟩:=hop i hi
  rw[hp]at hp';cases hp';exact hr
 have XT:∀(i:Nat) p id ob,ps[i]?=some p→p.up=some (id,ob)→st.H.length≤id∧(∃zs ds,ob=.box ds∧zs.length=ds.length∧((ps.take i).flatMap Cp.obs)[id-st.H.length]?=some (.box zs))∧∀(i2:Nat) q C9,i2<i→ps[i2]?=some q→q.up≠some (id,C9):=by
  intro i p id ob hp he
  have hi:i<n:=by have:=(List.getElem?_eq_some_iff.1 hp).1;omega
  have h1:l[i]?=some l[i]:=List.getElem?_eq_getElem (by omega)
  have h3:=(TW i l[i] p (by rw[List.getElem?_take,if_pos hi];exact h1) hp).2.2 id ob he
  exact⟨h3.2.1,h3.2.2.1,h3.2.2.2⟩
 have a5t:∀(i j:Nat) p q id ob C9,ps[i]?=some p→ps[j]?=some q→p.up=some (id,ob)→q.up=some (id,C9)→i=j:=by
  intro i j p q id ob C9 hp hq he LI
  rcases Nat.lt_trichotomy i j with h|h|h
  ·exact absurd he ((XT j q id C9 hq LI).2.2 i p ob h hp)
  ·exact h
  ·exact absurd LI ((XT i p id ob hp he).2.2 j q C9 h hq)
 have a5u:∀(i:Nat) p id ob,ps[i]?=some p→p.up=some (id,ob)→p.obs=[]:=by
  intro i p id ob hp he
  have hi:i<n:=by have:=(List.getElem?_eq_some_iff.1 hp).1;omega
  obtain⟨_,p',_,hp',_,hc,_⟩:=hop i hi
  rw[hp]at hp';cases hp'
  rcases hc.a5s with h|h
  ·rw[h]at he;cases he
  ·exact h
 have hfit:∀(i:Nat) p,ps[i]?=some p→p.r+p.obs.length≤st.H.length+(ps.flatMap Cp.obs).length:=by
  intro i p hp
  rw[hpr i p hp,oU hp]
  simp only[List.length_append];omega
 have XU:∀(i j:Nat) p q,ps[i]?=some p→ps[j]?=some q→i<j→p.r+p.obs.length≤q.r:=by
  intro i j p q hp hq hij
  rw[hpr i p hp,hpr j q hq]
  have:=WG hp hij
  omega
 have hdist:∀(i j:Nat) p q t,ps[i]?=some p→ps[j]?=some q→p.t=some t→q.t=some t→i=j:=by
  intro i j p q t hp hq he1 LI
  have hi:i<n:=by have:=(List.getElem?_eq_some_iff.1 hp).1;omega
  have hj:j<n:=by have:=(List.getElem?_eq_some_iff.1 hq).1;omega
  obtain⟨oi,p',ho,hp',hdi,_⟩:=hop i hi
  obtain⟨oj,q',xO,VM,hdj,_⟩:=hop j hj
  rw[hp]at hp';cases hp'
  rw[hq]at VM;cases VM
  have:=List.all_eq_true.1 RZ i (List.mem_range.2 hi)
  simp only[ho,Bool.and_eq_true]at this
  have:=List.all_eq_true.1 this.2 j (List.mem_range.2 hj)
  simp only[xO,hdi,hdj,he1,LI,beq_self_eq_true,Bool.not_true,Bool.or_false,Option.isNone_some,Bool.or_false,beq_iff_eq]at this
  exact this.symm
 have FW:∀(i:Nat) p t,ps[i]?=some p→p.t=some t→∀q∈ps.filterMap Cp.sl,q.1=t→q=(t,p.d):=by
  intro i p t hp hpt q hq he
  obtain⟨q',VM,TT⟩:=List.mem_filterMap.1 hq
  obtain⟨j,hj,rfl⟩:=List.mem_iff_getElem.1 VM
  have NX:ps[j]?=some ps[j]:=List.getElem?_eq_getElem hj
  unfold Cp.sl at TT
  cases hpj:ps[j].t with
  |none=>rw[hpj]at TT;cases TT
  |some u=>
   rw[hpj]at TT
   simp only[Option.map_some,Option.some.injEq]at TT
   subst TT
   simp only at he
   subst he
   have:=hdist j i _ p u NX hp hpj hpt
   subst this
   rw[hp]at NX;cases NX;rfl
 have hlk:∀(i:Nat) (o:Oper),i<n→l.toArray[i]?=some o→∀t∈o.looksAt l.toArray,lk (((ps.take i).filterMap Cp.sl).reverse++st.σ) t=lk ((ps.filterMap Cp.sl).reverse++st.σ) t:=by
  intro i o hin ho t ht
  have OB:=List.all_eq_true.1 RZ i (List.mem_range.2 hin)
  simp only[ho,Bool.and_eq_true]at OB
  have OB:=List.all_eq_true.1 OB.1.2 t ht
  by_cases hex:∃(j:Nat) (q:Cp),ps[j]?=some q∧q.t=some t
  ·obtain⟨j,q,hq,SQ⟩:=hex
   have hj:j<n:=by have:=(List.getElem?_eq_some_iff.1 hq).1;omega
   obtain⟨oj,q',xO,VM,hdj,_⟩:=hop j hj
   rw[hq]at VM;cases VM
   have:=List.all_eq_true.1 OB j (List.mem_range.2 hj)
   simp only[xO,hdj,SQ,beq_self_eq_true,Bool.not_true,Bool.false_or,Bool.and_eq_true,decide_eq_true_eq]at this
   obtain⟨hji,_⟩:=this
   rw[LH (ps.filterMap Cp.sl).reverse st.σ (t,q.d) (by rw[List.mem_reverse];exact List.mem_filterMap.2 ⟨q,List.mem_of_getElem? hq,by simp[Cp.sl,SQ]⟩) (fun q2 NX LI=>FW j q t hq SQ q2 (by simpa using NX) LI)]
   refine LH ((ps.take i).filterMap Cp.sl).reverse st.σ (t,q.d) ?_ (fun q2 NX LI=>FW j q t hq SQ q2 ?_ LI)
   ·rw[List.mem_reverse]
    exact List.mem_filterMap.2 ⟨q,List.mem_of_getElem? (i:=j) (by rw[List.getElem?_take,if_pos hji];exact hq),by simp[Cp.sl,SQ]⟩
   ·obtain⟨q3,hq3,xP⟩:=List.mem_filterMap.1 (List.mem_reverse.1 NX)
    exact List.mem_filterMap.2 ⟨q3,List.mem_of_mem_take hq3,xP⟩
  ·have hno:∀q3∈ps,q3.t≠some t:=by
    intro q3 hq3 he
    obtain⟨j,hj,hqj⟩:=List.mem_iff_getElem.1 hq3
    exact hex ⟨j,q3,by rw[←hqj];exact List.getElem?_eq_getElem hj,he⟩
   have hsl:∀(qs:List Cp),(∀q3∈qs,q3.t≠some t)→∀p∈(qs.filterMap Cp.sl).reverse,p.1≠t:=by
    intro qs TT p hp he
    obtain⟨q3,hq3,xP⟩:=List.mem_filterMap.1 (List.mem_reverse.1 hp)
    unfold Cp.sl at xP
    cases hpt:q3.t with
    |none=>rw[hpt]at xP;cases xP
    |some u=>rw[hpt]at xP;simp only[Option.map_some,Option.some.injEq]at xP;subst xP;simp only at he;exact TT q3 hq3 (by rw[hpt,he])
   rw[FV _ _ _ (hsl _ hno),FV _ _ _ (hsl _ (fun q3 hq3=>hno q3 (List.mem_of_mem_take hq3)))]
 have aA5:∀i∈L,∃(o:Oper) (p:Cp),l.toArray[i]?=some o∧ps[i]?=some p∧p.obs=[]∧p.up=none∧a6T P Γ X l ((ps.filterMap Cp.sl).reverse++st.σ) st.H i:=by
  intro i hi
  have hin:=FY i hi
  have h1:=List.all_eq_true.1 hL i hi
  obtain⟨o,p,ho,hp,hd,hc,_⟩:=hop i hin
  simp only[ho,Bool.and_eq_true]at h1
  have hg:o.guard=none:=by simpa using h1.2.1
  have hst:=hstill i hi o (by simpa using ho)
  rcases hc with⟨t,hpt,hpu,hdt,htn,hc⟩|⟨_,_,hdt,_⟩
  ·have hc:O9 P st.H (((ps.take i).filterMap Cp.sl).reverse++st.σ) o p:=by
    rcases hc with⟨_,hc⟩|⟨_,_,_,_,hg',_⟩|⟨_,_,_,hg',_⟩
    ·exact hc
    ·rw[hg]at hg';cases hg'
    ·rw[hg]at hg';cases hg'
   have hpv:pv P ⟨((ps.take i).filterMap Cp.sl).reverse++st.σ,st.H⟩ o.op=some p.d∧p.obs=[]:=by
    rcases hc with(hc|⟨f,xs,ts,ds,ms,d,a1Y,_⟩)| (⟨T,zs,a1Y,_⟩|⟨T,x,ds,a1Y,_⟩)|⟨T,e,sz,len,parts,zs,ds,es,a1Y,_⟩|⟨T,e,sz,len,parts,zs,ds,a1Y,_⟩
    ·exact hc
    all_goals(rw[a1Y]at hst;simp[DF]at hst)
   refine⟨o,p,ho,hp,hpv.2,hpu,o,t,p.d,ho,hg,hdt,htn,?_,?_⟩
   ·exact LH (ps.filterMap Cp.sl).reverse st.σ (t,p.d) (by rw[List.mem_reverse];exact List.mem_filterMap.2 ⟨p,List.mem_of_getElem? hp,by simp[Cp.sl,hpt]⟩) (fun q2 NX LI=>FW i p t hp hpt q2 (by simpa using NX) LI)
   ·intro σ' H' hX a0E
    have e1:pv P ⟨(ps.filterMap Cp.sl).reverse++st.σ,st.H⟩ o.op=some p.d:=XP (fun _ _ h=>h) (TV (st:=⟨_,st.H⟩) (uL:=⟨_,st.H⟩) (ops:=l.toArray) (o:=o) (fun t ht=>hlk i o hin ho t ht)) hpv.1
    refine a6Q hX hst ?_ e1
    intro x hx
    rw[a02 σ' H' st.H x]
    exact(TV (st:=⟨σ',st.H⟩) (uL:=⟨_,st.H⟩) (ops:=l.toArray) (o:=o) (fun t ht=>a0E t ht) x hx).symm
  ·have:o.dst.isSome=true:=h1.2.2
   rw[hdt]at this;cases this
 intro κ Θ a w hs
 have switch:∀(f:Nat) (listed:Array Bool) (σ':List (Nat×D)) (H':List Ob) (κ:Nat→Option Value) (Θ:Nat→Nat) (a:Act) (w:World),HeadInv .any l.toArray n listed→
  ((List.range n).filter fun i=> !listed.getD i false).length=f→
  (∀(i:Nat) p t,ps[i]?=some p→p.t=some t→listed.getD i false=true→lk σ' t=p.d)→
  (∀t,(∀(i:Nat) p,ps[i]?=some p→listed.getD i false=true→p.t≠some t)→lk σ' t=lk st.σ t)→
  H'.length=st.H.length+(ps.flatMap Cp.obs).length→Ext st.H H'→
  (∀(i:Nat) p,ps[i]?=some p→listed.getD i false=true→∀(j:Nat) o,p.obs[j]?=some o→(∀(i2:Nat) q ob,ps[i2]?=some q→listed.getD i2 false=true→q.up≠some (p.r+j,ob))→H'[p.r+j]?=some o)→
  (∀(i:Nat) q id ob,ps[i]?=some q→listed.getD i false=true→q.up=some (id,ob)→H'[id]?=some ob∧∃v,κ id=some v)→
  (∀(i:Nat) p,ps[i]?=some p→listed.getD i false=false→∀j,j<p.obs.length→κ (p.r+j)=none)→
  bN Γ ⟨σ',H'⟩ κ Θ a w→(∀i,i<n→i∉L→listed.getD i false=true)→
  wpAny P .any l.toArray (fun e a' w'=>∃uL κ' Θ',bN Γ uL κ' Θ' a' w'∧Q e uL) (f+(l.toArray.size-n)) listed a w:=by
  intro f listed σ' H' κ Θ a w inv mU hA hB hHl hHe hHo hHu hHf hs hN
  have aA6:∀(i:Nat) p,ps[i]?=some p→(p.up≠none∨p.obs≠[])→listed.getD i false=true:=by
   intro i p hp hne
   have hi:i<n:=by have:=(List.getElem?_eq_some_iff.1 hp).1;omega
   refine hN i hi fun hiL=>?_
   obtain⟨_,p',_,hp',h1,h2,_⟩:=aA5 i hiL
   rw[hp]at hp';cases hp'
   rcases hne with h|h
   ·exact h h2
   ·exact h h1
  have QV:∀t,(∀i∈L,∀o,l.toArray[i]?=some o→listed.getD i false=false→o.dst≠some t)→lk σ' t=lk ((ps.filterMap Cp.sl).reverse++st.σ) t:=by
   intro t hno
   by_cases hex:∃(i:Nat) (p:Cp),ps[i]?=some p∧p.t=some t
   ·obtain⟨i,p,hp,hpt⟩:=hex
    have hi:i<n:=by have:=(List.getElem?_eq_some_iff.1 hp).1;omega
    have hli:listed.getD i false=true:=by
     cases hl:listed.getD i false with
     |true=>rfl
     |false=>
      obtain⟨o,p',ho,hp',hd,_⟩:=hop i hi
      rw[hp]at hp';cases hp'
      by_cases hiL:i∈L
      ·exact absurd (by rw[hd,hpt]) (hno i hiL o ho hl)
      ·rw[hN i hi hiL]at hl;cases hl
    rw[hA i p t hp hpt hli]
    exact(LH (ps.filterMap Cp.sl).reverse st.σ (t,p.d) (by rw[List.mem_reverse];exact List.mem_filterMap.2 ⟨p,List.mem_of_getElem? hp,by simp[Cp.sl,hpt]⟩) (fun q hq he=>FW i p t hp hpt q (by simpa using hq) he)).symm
   ·rw[hB t (fun i p hp _ he=>hex ⟨i,p,hp,he⟩),FV]
    intro q hq he
    obtain⟨p,hp,hps⟩:=List.mem_filterMap.1 (List.mem_reverse.1 hq)
    obtain⟨i,hi,hpi⟩:=List.mem_iff_getElem.1 hp
    refine hex ⟨i,p,by rw[←hpi];exact List.getElem?_eq_getElem hi,?_⟩
    unfold Cp.sl at hps
    cases hpt:p.t with
    |none=>rw[hpt]at hps;cases hps
    |some u=>rw[hpt]at hps;simp only[Option.map_some,Option.some.injEq]at hps;subst hps;simp only at he;rw[he]
  have a5w:H'=st.H++SP:=by
   apply List.ext_getElem?
   intro k
   by_cases h1:k<st.H.length
   ·rw[List.getElem?_append_left h1]
    exact hHe k _ (List.getElem?_eq_getElem h1)|>.trans (List.getElem?_eq_getElem h1).symm
   ·rw[List.getElem?_append_right (by omega)]
    by_cases hex:∃(i:Nat) (q:Cp) (ob:Ob),ps[i]?=some q∧q.up=some (k,ob)
    ·obtain⟨i,q,ob,hq,he⟩:=hex
     rw[(hHu i q k ob hq (aA6 i q hq (.inl (by rw[he];simp))) he).1,hFu i q k ob hq he]
    ·have hno:∀(i:Nat) q ob,ps[i]?=some q→q.up≠some (k,ob):=fun i q ob hq he=>hex ⟨i,q,ob,hq,he⟩
     rw[hFo (k-st.H.length) (fun i q ob hq=>by rw[show st.H.length+(k-st.H.length)=k from by omega];exact hno i q ob hq)]
     by_cases h2:k-st.H.length<(ps.flatMap Cp.obs).length
     ·obtain⟨i,p,j,hp,hj,hk⟩:=zT h2
      have e3:p.r+j=k:=by rw[hpr i p hp];omega
      have h3:=hHo i p hp (aA6 i p hp (.inr (by intro e;rw[e]at hj;simp at hj))) j _ (List.getElem?_eq_getElem hj) (fun i2 q ob hq _=>by rw[e3];exact hno i2 q ob hq)
      rw[e3]at h3
      rw[h3,oU hp,hk,List.getElem?_append_right (by omega),Nat.add_sub_cancel_left,List.getElem?_append_left hj,List.getElem?_eq_getElem hj]
     ·rw[List.getElem?_eq_none (by omega),List.getElem?_eq_none (by omega)]
  subst a5w
  have hsz:=inv.size
  have hcm:((List.range m).filter fun i=> !listed.getD i false).length=f+(m-n):=by
   have:=S3 (p:=fun i=> !listed.getD i false) (n:=n) (m-n) (fun i h1 h2=>by
    have:=getD_both (inv.tail i h1 (by omega));simp only[this];rfl)
   rw[show n+(m-n)=m from by omega]at this
   rw[this,mU]
  have:=a0C (Q:=Q) (H0:=st.H) hB0 (fun i hi=>by obtain⟨_,_,_,_,_,_,h⟩:=aA5 i hi;exact h) (f+(m-n)) 0 ⟨(ps.filterMap Cp.sl).reverse++st.σ,st.H++SP⟩ listed σ' κ Θ a w
   ⟨hsz,inv.closed,fun t h1 h2=>absurd h2 (by omega)⟩ hN (by omega) (fun i h1 h2=>absurd h2 (by omega)) (fun i h1 h2=>getD_both (inv.tail i (by omega) h2)) hcm (fun _ _=>rfl)
   ((AE.refl _).app _) (by simpa using hK) QV hs
  rw[show f+(m-n)+(l.toArray.size-m)=f+(l.toArray.size-n)from by omega]at this
  exact this
 have main:∀(f:Nat) (listed:Array Bool) (σ':List (Nat×D)) (H':List Ob) (κ:Nat→Option Value) (Θ:Nat→Nat) (a:Act) (w:World),HeadInv .any l.toArray n listed→
  ((List.range n).filter fun i=> !listed.getD i false).length=f→
  (∀(i:Nat) p t,ps[i]?=some p→p.t=some t→listed.getD i false=true→lk σ' t=p.d)→
  (∀t,(∀(i:Nat) p,ps[i]?=some p→listed.getD i false=true→p.t≠some t)→lk σ' t=lk st.σ t)→
  H'.length=st.H.length+(ps.flatMap Cp.obs).length→Ext st.H H'→
  (∀(i:Nat) p,ps[i]?=some p→listed.getD i false=true→∀(j:Nat) o,p.obs[j]?=some o→(∀(i2:Nat) q ob,ps[i2]?=some q→listed.getD i2 false=true→q.up≠some (p.r+j,ob))→H'[p.r+j]?=some o)→
  (∀(i:Nat) q id ob,ps[i]?=some q→listed.getD i false=true→q.up=some (id,ob)→H'[id]?=some ob∧∃v,κ id=some v)→
  (∀(i:Nat) p,ps[i]?=some p→listed.getD i false=false→∀j,j<p.obs.length→κ (p.r+j)=none)→
  bN Γ ⟨σ',H'⟩ κ Θ a w→
  wpAny P .any l.toArray (fun e a' w'=>∃uL κ' Θ',bN Γ uL κ' Θ' a' w'∧Q e uL) (f+(l.toArray.size-n)) listed a w:=by
  intro f
  induction f with
  |zero=>
   intro listed σ' H' κ Θ a w inv mU hA hB hHl hHe hHo hHu hHf hs
   have hall:∀i,i<n→listed.getD i false=true:=by
    intro i hi
    have h0:=List.eq_nil_of_length_eq_zero mU
    cases hl:listed.getD i false with
    |true=>rfl
    |false=>
     have:i∈(List.range n).filter fun i=> !listed.getD i false:=List.mem_filter.2 ⟨List.mem_range.2 hi,by simp[hl]⟩
     rw[h0]at this;cases this
   exact switch 0 listed σ' H' κ Θ a w inv mU hA hB hHl hHe hHo hHu hHf hs (fun i hi _=>hall i hi)
  |succ f ih=>
   intro listed σ' H' κ Θ a w inv mU hA hB hHl hHe hHo hHu hHf hs
   by_cases hsw:∀i,i<n→i∉L→listed.getD i false=true
   ·exact switch (f+1) listed σ' H' κ Θ a w inv mU hA hB hHl hHe hHo hHu hHf hs hsw
   have aGO:∃i,i<n∧i∉L∧listed.getD i false=false:=by
    obtain⟨i,hi⟩:=Classical.not_forall.1 hsw
    refine⟨i,?_⟩
    by_cases h1:i<n
    ·by_cases h2:i∈L
     ·exact absurd (fun _ h=>absurd h2 h) hi
     ·refine⟨h1,h2,?_⟩
      cases hl:listed.getD i false with
      |false=>rfl
      |true=>exact absurd (fun _ _=>hl) hi
    ·exact absurd (fun h=>absurd h h1) hi
   have hun:∃i,i<n∧listed.getD i false=false:=by
    have hne:((List.range n).filter fun i=> !listed.getD i false)≠[]:=by
     intro h0;rw[h0]at mU;simp at mU
    obtain⟨i,hi⟩:=List.exists_mem_of_ne_nil _ hne
    obtain⟨h1,h2⟩:=List.mem_filter.1 hi
    exact⟨i,List.mem_range.1 h1,by simpa using h2⟩
   have hsz:=inv.size
   rw[show f+1+(l.toArray.size-n)=(f+(l.toArray.size-n))+1 from by omega]
   refine⟨fun h0=>?_,fun i hi=>?_⟩
   ·exfalso
    obtain⟨i,⟨hin,hil⟩,hmin⟩:=exists_least (p:=fun i=>i<n∧listed.getD i false=false) hun
    obtain⟨o,p,ho,_,_,_⟩:=hop i hin
    have:i∈Region.ready .any l.toArray listed:=by
     refine mem_ready.2 ⟨getD_in (by rw[hsz];omega) hil,o,ho,fun e he hb=>?_⟩
     have:=List.all_eq_true.1 RZ i (List.mem_range.2 hin)
     simp only[ho,Bool.and_eq_true]at this
     have:=Array.all_eq_true'.1 this.1.1 e he
     simp only[hb,Bool.not_true,Bool.false_or,decide_eq_true_eq]at this
     cases hl:listed.getD e.on false with
     |true=>rfl
     |false=>
      have:=hmin e.on ⟨by omega,hl⟩
      omega
    rw[h0]at this;cases this
   ·obtain⟨i0,hi0,hl0⟩:=hun
    have hin:i<n:=by
     rcases Nat.lt_or_ge i n with h|h
     ·exact h
     ·obtain⟨i1,hi1,aGP,hl1⟩:=aGO
      obtain⟨_,oi,hoi,_⟩:=mem_ready.1 hi
      have D9:i<l.toArray.size:=(Array.getElem?_eq_some_iff.1 hoi).1
      exfalso
      rcases Nat.lt_or_ge i m with hm1|hm1
      ·have h1:=List.all_eq_true.1 hmid (i-n) (List.mem_range.2 (by omega))
       have h2:=List.all_eq_true.1 h1 i1 (List.mem_range.2 (by omega))
       rw[show n+(i-n)=i from by omega]at h2
       simp only[Bool.or_eq_true]at h2
       rcases h2 with h2|h2
       ·rw[xR inv.closed hi h2]at hl1;cases hl1
       ·exact aGP (by simpa using h2)
      ·have h1:=List.all_eq_true.1 a6U (i-m) (List.mem_range.2 (by omega))
       have h2:=List.all_eq_true.1 h1 i1 (List.mem_range.2 (by omega))
       rw[show m+(i-m)=i from by omega]at h2
       rw[xR inv.closed hi h2]at hl1;cases hl1
    obtain⟨o,p,ho,hp,hd,hc,_⟩:=hop i hin
    obtain⟨hil,o',ho',hall⟩:=mem_ready.1 hi
    rw[ho]at ho';cases ho'
    have BP:=getD_both hil
    have hc':tE P Γ l.toArray st.H σ' o p:=by
     refine tE.congr (σ:=((ps.take i).filterMap Cp.sl).reverse++st.σ) (σ':=σ') ?_ hc
     intro t ht
     have OB:=List.all_eq_true.1 RZ i (List.mem_range.2 hin)
     simp only[ho,Bool.and_eq_true]at OB
     have OB:=List.all_eq_true.1 OB.1.2 t ht
     by_cases hex:∃(j:Nat) (q:Cp),ps[j]?=some q∧q.t=some t
     ·obtain⟨j,q,hq,SQ⟩:=hex
      have hj:j<n:=by have:=(List.getElem?_eq_some_iff.1 hq).1;omega
      obtain⟨oj,q',xO,VM,hdj,_⟩:=hop j hj
      rw[hq]at VM;cases VM
      have:=List.all_eq_true.1 OB j (List.mem_range.2 hj)
      simp only[xO,hdj,SQ,beq_self_eq_true,Bool.not_true,Bool.false_or,Bool.and_eq_true,decide_eq_true_eq]at this
      obtain⟨hji,a5x⟩:=this
      obtain⟨oi',a5y,e,he,hb,hon⟩:=Region.waitsFor_spec a5x
      rw[ho]at a5y;cases a5y
      have hjl:=hall e he hb
      rw[hon]at hjl
      rw[hA j q t hq SQ hjl]
      refine LH ((ps.take i).filterMap Cp.sl).reverse st.σ (t,q.d) ?_ (fun q2 NX LI=>FW j q t hq SQ q2 ?_ LI)
      ·rw[List.mem_reverse]
       exact List.mem_filterMap.2 ⟨q,List.mem_of_getElem? (i:=j) (by rw[List.getElem?_take,if_pos hji];exact hq),by simp[Cp.sl,SQ]⟩
      ·obtain⟨q3,hq3,xP⟩:=List.mem_filterMap.1 (List.mem_reverse.1 NX)
       exact List.mem_filterMap.2 ⟨q3,List.mem_of_mem_take hq3,xP⟩
     ·rw[hB t (fun j q hq _ he=>hex ⟨j,q,hq,he⟩),FV]
      intro q hq he
      obtain⟨q3,hq3,xP⟩:=List.mem_filterMap.1 (List.mem_reverse.1 hq)
      obtain⟨j,hj,hqj⟩:=List.mem_iff_getElem.1 (List.mem_of_mem_take hq3)
      refine hex ⟨j,q3,by rw[←hqj];exact List.getElem?_eq_getElem hj,?_⟩
      unfold Cp.sl at xP
      cases hpt:q3.t with
      |none=>rw[hpt]at xP;cases xP
      |some u=>rw[hpt]at xP;simp only[Option.map_some,Option.some.injEq]at xP;subst xP;simp only at he;rw[he]
    have hfp:=hfit i p hp
    have a5z:∀id ob,p.up=some (id,ob)→∃v,κ id=some v:=by
     intro id ob he
     rcases hc' with⟨_,_,h,_⟩|⟨_,_,_,_,T,x,y,id',ds,a1Y,hx',_,_,_,_,hpu⟩
     ·rw[h]at he;cases he
     ·rw[hpu]at he;cases he
      obtain⟨b1,r1,_⟩:=hs.ev x
      rw[a02 σ' H' st.H x,hx']at r1
      obtain⟨g,hk,_⟩:=r1.zO
      exact⟨_,hk⟩
    have a60:∀id ob,p.up=some (id,ob)→∃zs ds,H'[id]?=some (.box zs)∧ob=.box ds∧zs.length=ds.length:=by
     intro id ob he
     obtain⟨u1,⟨zs,ds,u2,u3,u4⟩,_⟩:=XT i p id ob hp he
     refine⟨zs,ds,?_,u2,u3⟩
     obtain⟨i1,p1,j1,hp1,KY,hk1⟩:=zT (List.getElem?_eq_some_iff.1 u4).1
     have a1Z:ps[i1]?=some p1:=by
      have:=(List.getElem?_eq_some_iff.1 hp1).1
      rw[List.getElem?_take]at hp1
      split at hp1
      ·exact hp1
      ·cases hp1
     have hi1:i1<i:=by have:=(List.getElem?_eq_some_iff.1 hp1).1;simp at this;omega
     have et:(ps.take i).take i1=ps.take i1:=by rw[List.take_take,Nat.min_eq_left (by omega)]
     rw[et]at hk1
     have e1:p1.r+j1=id:=by rw[hpr i1 p1 a1Z];omega
     have B9:p1.obs[j1]?=some (.box zs):=by
      rw[oU hp1,et,hk1,List.getElem?_append_right (by omega),Nat.add_sub_cancel_left,List.getElem?_append_left KY]at u4
      exact u4
     have hl1:listed.getD i1 false=true:=by
      cases hl:listed.getD i1 false with
      |true=>rfl
      |false=>
       have h0:=hHf i1 p1 a1Z hl j1 KY
       rw[e1]at h0
       obtain⟨v,hv⟩:=a5z id ob he
       rw[h0]at hv;cases hv
     have:=hHo i1 p1 a1Z hl1 j1 _ B9 (fun i2 q C9 hq hl LI=>by
      rw[e1]at LI
      have:=a5t i i2 p q id ob C9 hp hq he LI
      subst this
      rw[BP]at hl;cases hl)
     rw[e1]at this;exact this
    refine hc'.wp hs hHe ho (by omega) (fun j hj=>hHf i p hp BP j hj) a60 fun κ' Θ' a' w' hs' hsame=>?_
    have qT:∀(j:Nat),(listed.setIfInBounds i true).getD j false=true↔(j=i∨listed.getD j false=true):=by
     intro j
     by_cases e:i=j
     ·subst e
      have:i<listed.size:=by rw[hsz];omega
      simp[this]
     ·rw[getD_set_ne false e]
      constructor
      ·exact .inr
      ·rintro(rfl|h)
       ·exact absurd rfl e
       ·exact h
    have hput:(p.BO H').length=H'.length:=by
     unfold Cp.BO
     split
     ·simp
     ·exact u7 (by omega)
    have aBK:∀(k:Nat),k<st.H.length→(p.BO H')[k]?=H'[k]?:=by
     intro k hk
     unfold Cp.BO
     split
     ·rename_i id ob he
      have:=(XT i p id ob hp he).1
      rw[List.getElem?_set_ne (by omega)]
     ·rw[tZ (by omega),if_pos (by rw[hpr i p hp];omega)]
    refine ih (listed.setIfInBounds i true) (p.slot σ') (p.BO H') κ' Θ' a' w' (inv.set hi hin) ?_ ?_ ?_ (by rw[hput];exact hHl) ?_ ?_ ?_ ?_ hs'
    ·have a44:((List.range n).filter fun j=> !(listed.setIfInBounds i true).getD j false)=((List.range n).filter fun j=> !listed.getD j false).erase i:=by
      have hnd:((List.range n).filter fun j=> !listed.getD j false).Nodup:=List.Pairwise.filter _ List.nodup_range
      rw[hnd.erase_eq_filter,List.filter_filter]
      apply List.filter_congr
      intro j _
      by_cases e:j=i
      ·subst e
       have:=(qT j).2 (.inl rfl)
       rw[this];simp
      ·rw[getD_set_ne false (Ne.symm e)]
       simp[e]
     rw[a44,List.length_erase_of_mem (List.mem_filter.2 ⟨List.mem_range.2 hin,by simp[BP]⟩),mU]
     rfl
    ·intro j q t hq SQ hl
     unfold Cp.slot
     rcases(qT j).1 hl with rfl|D8
     ·rw[hp]at hq;cases hq
      rw[SQ];simp[lk]
     ·cases hpt:p.t with
      |none=>exact hA j q t hq SQ D8
      |some u=>
       simp only[lk]
       rw[if_neg,hA j q t hq SQ D8]
       intro e
       have:=hdist j i q p t hq hp SQ (by rw[hpt,e])
       subst this
       rw[BP]at D8;cases D8
    ·intro t ht
     unfold Cp.slot
     have uN:=hB t (fun j q hq hl=>ht j q hq ((qT j).2 (.inr hl)))
     cases hpt:p.t with
     |none=>exact uN
     |some u=>
      simp only[lk]
      rw[if_neg (fun e=>ht i p hp ((qT i).2 (.inl rfl)) (by rw[hpt,e]))]
      exact uN
    ·intro j y hj
     rw[aBK j (List.getElem?_eq_some_iff.1 hj).1]
     exact hHe j y hj
    ·intro j q hq hl k y hy hno
     have hkl:=(List.getElem?_eq_some_iff.1 hy).1
     unfold Cp.BO
     split
     ·rename_i id ob he
      have hne:q.r+k≠id:=fun e=>hno i p ob hp ((qT i).2 (.inl rfl)) (by rw[e];exact he)
      rw[List.getElem?_set_ne (Ne.symm hne)]
      rcases(qT j).1 hl with rfl|D8
      ·rw[hp]at hq;cases hq
       rw[a5u j p id ob hp he]at hy;simp at hy
      ·exact hHo j q hq D8 k y hy (fun i2 q2 C9 NX hl3=>hno i2 q2 C9 NX ((qT i2).2 (.inr hl3)))
     ·rw[tZ (by omega)]
      rcases(qT j).1 hl with rfl|D8
      ·rw[hp]at hq;cases hq
       rw[if_neg (by omega),if_pos (by omega),Nat.add_sub_cancel_left];exact hy
      ·have hne:j≠i:=fun e=>by subst e;rw[BP]at D8;cases D8
       have h3:=hHo j q hq D8 k y hy (fun i2 q2 C9 NX hl3=>hno i2 q2 C9 NX ((qT i2).2 (.inr hl3)))
       rcases Nat.lt_or_gt_of_ne hne with h|h
       ·have:=XU j i q p hq hp h
        rw[if_pos (by omega)];exact h3
       ·have:=XU i j p q hp hq h
        rw[if_neg (by omega),if_neg (by omega)];exact h3
    ·intro j q id ob hq hl he
     rcases(qT j).1 hl with rfl|D8
     ·rw[hp]at hq;cases hq
      obtain⟨zs,ds,z1,_⟩:=a60 id ob he
      have hlt:=(List.getElem?_eq_some_iff.1 z1).1
      refine⟨by simp only[Cp.BO,he];rw[List.getElem?_set_self hlt],?_⟩
      obtain⟨v,hv⟩:=a5z id ob he
      refine⟨v,?_⟩
      rw[hsame id (by rw[a5u j p id ob hp he];simp;omega)]
      exact hv
     ·obtain⟨h1,v,hv⟩:=hHu j q id ob hq D8 he
      have hout:id<p.r∨p.r+p.obs.length≤id:=by
       rcases Nat.lt_or_ge id p.r with h|h
       ·exact .inl h
       ·rcases Nat.lt_or_ge id (p.r+p.obs.length)with h2|h2
        ·have:=hHf i p hp BP (id-p.r) (by omega)
         rw[show p.r+(id-p.r)=id from by omega,hv]at this;cases this
        ·exact .inr h2
      refine⟨?_,v,by rw[hsame id hout];exact hv⟩
      unfold Cp.BO
      split
      ·rename_i id2 C9 LI
       have hne:id2≠id:=fun e=>by
        subst e
        have:=a5t i j p q id2 C9 ob hp hq LI he
        subst this
        rw[BP]at D8;cases D8
       rw[List.getElem?_set_ne hne];exact h1
      ·rw[tZ (by omega)]
       rcases hout with h|h
       ·rw[if_pos h];exact h1
       ·rw[if_neg (by omega),if_neg (by omega)];exact h1
    ·intro j q hq hl k hk
     have hne:j≠i:=fun e=>by
      subst e
      have:=(qT j).2 (.inl rfl)
      rw[this]at hl;cases hl
     have D8:listed.getD j false=false:=by
      cases h:listed.getD j false with
      |false=>rfl
      |true=>have:=(qT j).2 (.inr h);rw[this]at hl;cases hl
     have h3:=hHf j q hq D8 k hk
     rw[hsame,h3]
     rcases Nat.lt_or_gt_of_ne hne with h|h
     ·have:=XU j i q p hq hp h;omega
     ·have:=XU i j p q hp hq h;omega
 have aBM:HeadInv .any l.toArray n (Array.replicate l.toArray.size false):=
  ⟨by simp,fun j oj _ hl=>(by rw[getD_replicate_false]at hl;cases hl),fun t _ ht=>getD_in (by simpa using ht) (getD_replicate_false _ _)⟩
 have mU:((List.range n).filter fun i=> !(Array.replicate l.toArray.size false).getD i false).length=n:=by
  rw[List.filter_eq_self.2]
  ·simp
  ·intro i _;rw[getD_replicate_false];rfl
 have:=main n (Array.replicate l.toArray.size false) st.σ (st.H++List.replicate (ps.flatMap Cp.obs).length .gone) κ Θ a w aBM mU (fun i p t _ _ hl=>by rw[getD_replicate_false]at hl;cases hl) (fun t _=>rfl)
  (by simp) (fun i o h=>by rw[List.getElem?_append_left (List.getElem?_eq_some_iff.1 h).1];exact h) (fun i p _ hl=>by rw[getD_replicate_false]at hl;cases hl)
  (fun i q id ob _ hl=>by rw[getD_replicate_false]at hl;cases hl)
  (fun i p hp _ j _=>hs.oG _ (by rw[hpr i p hp];omega)) (hs.room _)
 rw[show n+(l.toArray.size-n)=l.toArray.size from by omega]at this
 exact this
def S4(X:List Nat)(st:St)(op:Op)(A:List An):Bool:=match op with
 | .buildSlice _ _ _=>true
 | .build _ _=>true
 | .extract _ _=>true
 | .field _ _ _=>true
 | .move _=>true
 | .indexAddr _ x _=>(U6 st (st.ev x)).isNone
 | .load _ x=>(Y1 st (st.ev x)).isNone&&(match st.ev x,A with| .op id _ _ _,.tk _::_=>X.contains id|_,_=>true)
 | .store _ x _=>(match st.ev x with| .ptr id _=>X.contains id|_=>false)
 | .call c=>(match c.callee,A with
  | .builtin .append,_=>true
  | .value (.func _),.d _::_=>true
  | .value (.func _),.gp _ _ _::_=>(match c.args.toList with|x::_=>(match st.ev x with| .ptr id _=>X.contains id|_=>false)| []=>false)
  |_,_=>false)
 |_=>false
def a0G(X:List Nat)(H H':List Ob):Bool:=(List.range H.length).all fun i=>X.contains i||(match H[i]? with|some .gone=>true|_=>(match H'[i]? with|some .gone=>false|_=>true))
def U9(P:Program)(nt:Nat)(X:List Nat):List Oper→St→List An→Option (St×List An×EC)
 | [],st,A=>some (st,A,[])
 |o::rest,st,A=>match o.guard,S4 X st o.op A with
  |none,true=>(match L5 P nt o st A with
   |some (xQ,A1,p)=>(match a0G X st.H xQ.H,U9 P nt X rest xQ A1 with|true,some (UA,A2,q)=>some (UA,A2,p++q)|_,_=>none)
   |none=>none)
  |_,_=>none
theorem a0H{H:List Ob}{ms:List Nat}{i:Nat}(h:i∈ms)(hl:i<H.length):(kill H ms)[i]?=some .gone:=by
 induction ms generalizing H with
 |nil=>cases h
 |cons m ms ih=>
  show(kill (H.set m .gone) ms)[i]?=_
  by_cases hi:i∈ms
  ·exact ih hi (by simpa using hl)
  ·rw[fF hi]
   rcases List.mem_cons.1 h with rfl|h
   ·rw[List.getElem?_set_self hl]
   ·exact absurd h hi
theorem a35{X:List Nat}{H H':List Ob}(h:a0G X H H'=true){i:Nat}{o:Ob}(hi:i∉X)(ho:H[i]?=some o)(hg:H'[i]?=some .gone):o=.gone:=by
 have h1:=List.all_eq_true.1 h i (List.mem_range.2 (List.getElem?_eq_some_iff.1 ho).1)
 rw[ho,hg,List.contains_eq_mem,decide_eq_false hi,Bool.false_or]at h1
 cases o<;>first|rfl|cases h1
theorem a0I{X:List Nat}{H:List Ob}{ms:List Nat}{n:List Ob}(h:a0G X H (kill H ms++n)=true):AE X H (kill H ms++n):=by
 intro i o hi ho
 have hl:=(List.getElem?_eq_some_iff.1 ho).1
 have e:(kill H ms++n)[i]?=(kill H ms)[i]?:=List.getElem?_append_left (by rw[dO];exact hl)
 by_cases hm:i∈ms
 ·have e2:=e.trans (a0H hm hl)
  rw[e2,a35 h hi ho e2]
 ·rw[e,fF hm,ho]
theorem a4F{X:List Nat}{H:List Ob}{ms:List Nat}{n:List Ob}{id:Nat}{b:Ob}(hid:id∈X)(h:a0G X H ((kill H ms).set id b++n)=true):AE X H ((kill H ms).set id b++n):=by
 intro i o hi ho
 have hne:id≠i:=fun e=>hi (e▸hid)
 have hl:=(List.getElem?_eq_some_iff.1 ho).1
 have e:((kill H ms).set id b++n)[i]?=(kill H ms)[i]?:=by
  rw[List.getElem?_append_left (by rw[List.length_set,dO];exact hl),List.getElem?_set_ne hne]
 by_cases hm:i∈ms
 ·have e2:=e.trans (a0H hm hl)
  rw[e2,a35 h hi ho e2]
 ·rw[e,fF hm,ho]
theorem a6Y{X:List Nat}{nt:Nat}{o:Oper}{A A1:List An}{xQ:St}{p:EC}(hk:S4 X st o.op A=true)(hgn:a0G X st.H xQ.H=true)(h:L5 P nt o st A=some (xQ,A1,p)):((∃t d,o.dst=some t∧t<nt∧xQ.σ=(t,d)::st.σ)∨(o.dst=none∧xQ.σ=st.σ))∧AE X st.H xQ.H:=by
 have plain:∀ {t:Nat},o.dst=some t→(if t<nt then match IT P st o.op A with|some (d,A,ow)=>some ((⟨(t,d)::st.σ,st.H⟩:St),A,ow)|none=>none else none)=some (xQ,A1,p)→((∃t d,o.dst=some t∧t<nt∧xQ.σ=(t,d)::st.σ)∨(o.dst=none∧xQ.σ=st.σ))∧AE X st.H xQ.H:=by
  intro t hd h
  split at h
  ·rename_i ht
   split at h
   ·cases h;exact⟨.inl ⟨t,_,hd,ht,rfl⟩,AE.refl _⟩
   ·cases h
  ·cases h
 unfold L5 at h
 split at h
 case h_3=>
  rename_i T x y hop hd
  rw[hop]at hk
  simp only[S4]at hk
  split at h
  ·rename_i id off ds h1 h2
   rw[h1]at hk
   split at h
   ·split at h
    ·split at h
     ·cases h
      refine⟨.inr ⟨hd,rfl⟩,fun i cs hi hcs=>?_⟩
      have hne:id≠i:=fun e=>hi (by subst e;simpa using hk)
      show(st.H.set id _)[i]?=_
      rw[List.getElem?_set_ne hne,hcs]
     ·cases h
    ·cases h
   ·cases h
  ·rename_i id i sz off ds h1 h2
   rw[h1]at hk;cases hk
  ·cases h
 case h_7=>
  rename_i T len parts t hop hd
  split at h
  ·split at h
   ·split at h
    ·split at h
     ·rename_i es ms hab
      split at h
      ·rename_i hc
       cases h
       exact⟨.inl ⟨t,_,hd,hc.1,rfl⟩,a0I hgn⟩
      ·cases h
     ·cases h
    ·cases h
   ·cases h
  ·cases h
 case h_8=>
  rename_i c t hop hd
  rw[hop]at hk
  simp only[S4]at hk
  split at h
  ·split at h
   ·split at h
    ·rename_i rows u1 k1 cI u2 k2 A' ow _ hS hX
     split at h
     ·rename_i hc
      cases h
      exact⟨.inl ⟨t,_,hd,hc.1,rfl⟩,a0I hgn⟩
     ·cases h
    ·cases h
   ·cases h
  ·rename_i aBm _ _
   rw[aBm]at hk
   cases hk
  ·rename_i f aBm
   rw[aBm]at hk
   split at hk
   ·rename_i hb;cases hb
   ·rename_i f' d A' hb
    split at h
    ·rename_i hA;cases hA
    ·rename_i hA;cases hA
    ·rename_i hA;cases hA
    ·rename_i hA;cases hA
    ·rename_i hA;cases hA
    ·rename_i hA;cases hA
    ·rename_i ds ms d' A'' hv hA
     split at h
     ·rename_i hc
      cases h
      exact⟨.inl ⟨t,_,hd,hc.1,rfl⟩,(AE.refl _).app _⟩
     ·cases h
    ·rename_i hA;cases hA
    ·cases h
   ·rename_i f' nz cells' d A' hb
    generalize LG st.H (List.map st.ev c.args.toList)=q at h
    rcases q with _|⟨qa,qb⟩
    all_goals
     dsimp only at h
     split at h
     ·rename_i x0 xr h5
      rw[h5]at hk
      split at h
      ·rename_i id h6
       simp only[h6]at hk
       split at h
       ·rename_i ob h7
        split at h
        ·rename_i QY h8
         split at h
         ·rename_i cells ds ms qs h9
          split at h
          ·rename_i hc
           cases h
           exact⟨.inl ⟨t,_,hd,hc.1,rfl⟩,a4F (by simpa using hk) hgn⟩
          ·cases h
         ·cases h
        ·cases h
       ·cases h
      ·cases h
     ·cases h
   ·cases hk
  ·exact plain hd h
 case h_13=>
  rename_i T x i t hop hd
  rw[hop]at hk
  simp only[S4]at hk
  split at h
  ·rename_i hl
   rw[hl]at hk;cases hk
  ·exact plain hd h
 case h_14=>
  rename_i T x t hop hd
  rw[hop]at hk
  simp only[S4]at hk
  split at h
  ·rename_i hl
   rw[hl]at hk;cases hk
  ·rw[Bool.and_eq_true]at hk
   replace hk:=hk.2
   split at h
   ·rename_i r A' id i sz h1
    split at h
    ·rename_i n e sz' rows h2
     split at h
     ·rename_i hc
      cases h
      refine⟨.inl ⟨t,_,hd,hc.1,rfl⟩,AE.app (fun j cs hj hcs=>?_) _⟩
      have hne:id≠j:=fun e=>hj (by subst e;rw[h1]at hk;simpa using hk)
      rw[List.getElem?_set_ne hne];exact hcs
     ·cases h
    ·cases h
   ·exact plain hd h
 all_goals first
  | (rename_i hop _;rw[hop]at hk;simp[S4]at hk;done)
  | (rename_i hop;rw[hop]at hk;simp[S4]at hk;done)
  |skip
 all_goals first
  |exact plain (by assumption) h
  |cases h
theorem Step.of{nt:Nat}(hnt:Γ.nt=nt){o:Oper}{A A1:List An}{xQ:St}{p:EC}(hg:o.guard=none)(hsel:∀cs b,o.op≠ .select cs b)(h:L5 P nt o st A=some (xQ,A1,p))(hp:yP p):Step P Γ o st xQ:=by
 intro κ Θ a w hs
 have h1:=Y5 (P:=P) (Γ:=Γ) (all:= #[]) (rest:=[]) (Q:=fun e s=>e=.normal∧s=xQ) hnt hg h hp (aAw ⟨rfl,rfl⟩) κ Θ a w hs
 have hw:Region.wanted o (yielded #[] a.tmps)=true:=by simp[Region.wanted,hg]
 simp only[wpList,hw,if_true]at h1
 rcases h1 with h1|⟨_,a0,w0,uL,κ',Θ',_,hq,_⟩
 ·refine a0B hsel (fun _ _=>rfl) ?_ ?_ ?_ h1
  ·rintro v w' ⟨uL,κ',Θ',hs',_,rfl⟩
   exact⟨κ',Θ',hs'⟩
  ·rintro d w' ⟨uL,κ',Θ',hs',_,rfl⟩
   have:=hs'.defers
   cases hod:o.dst<;>rw[hod]at this<;>cases this
  ·rintro e c w' ⟨uL,κ',Θ',hs',rfl,_⟩
   rfl
 ·cases hq
theorem Y6{X:List Nat}{nt:Nat}(hnt:Γ.nt=nt){K:St→Prop}{UA:St}{A2:List An}:∀ {ops:List Oper} {st:St} {A:List An} {p:EC},U9 P nt X ops st A=some (UA,A2,p)→yP p→K UA→a6S P Γ X K ops st:=by
 intro ops
 induction ops with
 |nil=>intro st A p h hp hK;simp only[U9,Option.some.injEq,Prod.mk.injEq]at h;obtain⟨rfl,_,_⟩:=h;exact hK
 |cons o os ih=>
  intro st A p h hp hK
  simp only[U9]at h
  split at h
  ·rename_i hg hok
   split at h
   ·rename_i xQ A1 p1 h1
    split at h
    ·rename_i a90 A2' q hgn h2
     cases h
     obtain⟨hp1,hq⟩:=hp.app
     obtain⟨hd,hX⟩:=a6Y hok hgn h1
     have hsel:∀cs b,o.op≠ .select cs b:=by
      intro cs b e
      rw[e]at hok;cases hok
     exact⟨xQ,hd.imp (fun⟨t,d,hd,ht,hσ⟩=>⟨t,d,hd,by rw[hnt];exact ht,hσ⟩) id,hX,hg,hsel,Step.of hnt hg hsel h1 hp1,ih h2 hq hK⟩
    ·cases h
   ·cases h
  ·cases h
def a6Z(X:List Nat)(st:St)(ops:List Oper)(L:List Nat):Bool:=L.all fun i=>match ops[i]? with|some o=>DF X st o.op|none=>false
theorem a4G{X:List Nat}{st:St}{ops:List Oper}{L:List Nat}(h:a6Z X st ops L=true):∀i∈L,∀o,ops[i]?=some o→DF X st o.op=true:=by
 intro i hi o ho
 have:=List.all_eq_true.1 h i hi
 rw[ho]at this;exact this
def CI(ρ:List Nat)(o:Oper):Oper:= {o with after:=o.after.map fun e=> {e with on:=ρ.getD e.on 0},guard:=o.guard.map fun g=>(ρ.getD g.1 0,g.2)}
def vD(ops:Array Oper)(π ρ:List Nat):List Oper:=π.filterMap fun i=>(ops[i]?).map (CI ρ)
def S5(ops:Array Oper)(π ρ:List Nat):Bool:=
 decide (π.length=ops.size)&&(decide (ρ.length=ops.size)&&
 (((List.range ops.size).all fun i=>(match ρ[i]? with|some k=>π[k]?==some i|none=>false))&&
 (((List.range ops.size).all fun k=>(match π[k]? with|some i=>ρ[i]?==some k|none=>false))&&
 (ops.toList.all fun o=>(o.after.all fun e=>decide (e.on<ops.size))&&(match o.guard with|some g=>decide (g.1<ops.size)|none=>true)))))
theorem UB(ρ:List Nat)(o:Oper)(f:Operand→Value):execOp f (CI ρ o)=execOp f o:=by
 cases o;rfl
theorem a6a(ρ:List Nat){o:Oper}{K:Act→World→Prop}{Q:Exit→Act→World→Prop}(h:(CI ρ o).wp P a w K Q):o.wp P a w K Q:=by
 unfold Oper.wp at*
 rw[UB]at h
 exact h
theorem a1q(ρ:List Nat){o:Oper}(h:(CI ρ o).asks P a w):o.asks P a w:=by
 unfold Oper.asks at*
 rw[UB]at h
 exact h
section
variable{ops:Array Oper}{π ρ:List Nat}
theorem UC(hB:S5 ops π ρ=true){k i:Nat}{o:Oper}(hk:π[k]?=some i)(ho:ops[i]?=some o):(vD ops π ρ).toArray[k]?=some (CI ρ o):=by
 simp only[S5,Bool.and_eq_true,decide_eq_true_eq]at hB
 obtain⟨h1,h2,h3,h4,h5⟩:=hB
 have hall:∀x∈π,∃o,ops[x]?=some o:=by
  intro x hx
  obtain⟨j,hj,rfl⟩:=List.mem_iff_getElem.1 hx
  have:=List.all_eq_true.1 h4 j (List.mem_range.2 (by omega))
  rw[List.getElem?_eq_getElem hj]at this
  simp only[beq_iff_eq]at this
  have:=(List.getElem?_eq_some_iff.1 this).1
  exact⟨_,Array.getElem?_eq_getElem (by omega)⟩
 have key:∀(l:List Nat) (k:Nat),(∀x∈l,∃o,ops[x]?=some o)→l[k]?=some i→(l.filterMap fun i=>(ops[i]?).map (CI ρ))[k]?=some (CI ρ o):=by
  intro l
  induction l with
  |nil=>intro k _ h;simp at h
  |cons x l ih=>
   intro k hl h
   obtain⟨ox,hox⟩:=hl x (by simp)
   rw[List.filterMap_cons]
   simp only[hox,Option.map_some]
   cases k with
   |zero=>simp at h;subst h;rw[ho]at hox;cases hox;rfl
   |succ k=>simpa using ih k (fun y hy=>hl y (by simp[hy])) (by simpa using h)
 have:=key π k hall hk
 simpa[vD]using this
theorem a0J(hB:S5 ops π ρ=true):(vD ops π ρ).toArray.size=ops.size:=by
 have hB':=hB
 simp only[S5,Bool.and_eq_true,decide_eq_true_eq]at hB
 obtain⟨h1,h2,h3,h4,h5⟩:=hB
 have hall:∀x∈π,∃o,ops[x]?=some o:=by
  intro x hx
  obtain⟨j,hj,rfl⟩:=List.mem_iff_getElem.1 hx
  have:=List.all_eq_true.1 h4 j (List.mem_range.2 (by omega))
  rw[List.getElem?_eq_getElem hj]at this
  simp only[beq_iff_eq]at this
  have:=(List.getElem?_eq_some_iff.1 this).1
  exact⟨_,Array.getElem?_eq_getElem (by omega)⟩
 have key:∀(l:List Nat),(∀x∈l,∃o,ops[x]?=some o)→(l.filterMap fun i=>(ops[i]?).map (CI ρ)).length=l.length:=by
  intro l
  induction l with
  |nil=>intro _;rfl
  |cons x l ih=>
   intro hl
   obtain⟨ox,hox⟩:=hl x (by simp)
   rw[List.filterMap_cons]
   simp only[hox,Option.map_some,List.length_cons,ih (fun y hy=>hl y (by simp[hy]))]
 rw[List.size_toArray,vD,key π hall,h1]
theorem a6b{Q':Exit→Act→World→Prop}(hB:S5 ops π ρ=true):∀(fuel:Nat) (listed listed':Array Bool) (a:Act) (w:World),listed.size=ops.size→listed'.size=ops.size→(∀(k i:Nat),π[k]?=some i→listed'.getD k false=listed.getD i false)→
 wpAny P .any (vD ops π ρ).toArray Q' fuel listed' a w→wpAny P .any ops Q' fuel listed a w:=by
 have hB':=hB
 simp only[S5,Bool.and_eq_true,decide_eq_true_eq]at hB'
 obtain⟨h1,h2,h3,h4,h5⟩:=hB'
 have to:∀i,i<ops.size→∃k,ρ[i]?=some k∧π[k]?=some i∧k<ops.size:=by
  intro i hi
  have:=List.all_eq_true.1 h3 i (List.mem_range.2 hi)
  split at this
  ·rename_i k hk
   simp only[beq_iff_eq]at this
   exact⟨k,hk,this,by have:=(List.getElem?_eq_some_iff.1 this).1;omega⟩
  ·cases this
 have back:∀k,k<ops.size→∃i,π[k]?=some i∧ρ[i]?=some k∧i<ops.size:=by
  intro k hk
  have:=List.all_eq_true.1 h4 k (List.mem_range.2 hk)
  split at this
  ·rename_i i hi
   simp only[beq_iff_eq]at this
   exact⟨i,hi,this,by have:=(List.getElem?_eq_some_iff.1 this).1;omega⟩
  ·cases this
 have rin:∀(i:Nat) o,ops[i]?=some o→(∀e∈o.after,e.on<ops.size)∧∀g,o.guard=some g→g.1<ops.size:=by
  intro i o ho
  have hm:o∈ops.toList:=by rw[←Array.getElem?_toList]at ho;exact List.mem_of_getElem? ho
  have:=List.all_eq_true.1 h5 o hm
  simp only[Bool.and_eq_true]at this
  refine⟨fun e he=>by simpa using Array.all_eq_true'.1 this.1 e he,fun g hg=>?_⟩
  have:=this.2
  rw[hg]at this;simpa using this
 have rd:∀(listed listed':Array Bool),listed.size=ops.size→listed'.size=ops.size→(∀(k i:Nat),π[k]?=some i→listed'.getD k false=listed.getD i false)→∀(k i:Nat),π[k]?=some i→(i∈Region.ready .any ops listed↔k∈Region.ready .any (vD ops π ρ).toArray listed'):=by
  intro listed listed' hs1 hs2 hll k i hki
  have hk:k<ops.size:=by have:=(List.getElem?_eq_some_iff.1 hki).1;omega
  obtain⟨i',hi',hr,hilt⟩:=back k hk
  rw[hki]at hi';cases hi'
  have ho:ops[i]?=some ops[i]:=Array.getElem?_eq_getElem hilt
  have ho':=UC hB hki ho
  have hon:∀e∈ops[i].after,listed'.getD (ρ.getD e.on 0) false=listed.getD e.on false:=by
   intro e he
   obtain⟨k2,hk2,hk3,_⟩:=to e.on ((rin i _ ho).1 e he)
   rw[List.getD_eq_getElem?_getD,hk2,Option.getD_some]
   exact hll k2 e.on hk3
  rw[mem_ready,mem_ready]
  constructor
  ·rintro⟨q1,o,q2,q3⟩
   rw[ho]at q2;cases q2
   refine⟨getD_in (by omega) (by rw[hll k i hki];exact getD_both q1),_,ho',?_⟩
   intro e he hb
   simp only[CI,Array.mem_map]at he
   obtain⟨e0,he0,rfl⟩:=he
   simp only
   rw[hon e0 he0]
   exact q3 e0 he0 hb
  ·rintro⟨q1,o,q2,q3⟩
   rw[ho']at q2;cases q2
   refine⟨getD_in (by omega) (by rw[←hll k i hki];exact getD_both q1),_,ho,?_⟩
   intro e he hb
   rw[←hon e he]
   exact q3 {e with on:=ρ.getD e.on 0} (by simp only[CI,Array.mem_map];exact⟨e,he,rfl⟩) hb
 have lt:∀ {listed:Array Bool} {ops:Array Oper} {i:Nat},i∈Region.ready .any ops listed→i<ops.size:=by
  intro listed ops i hi
  obtain⟨_,o,ho,_⟩:=mem_ready.1 hi
  exact(Array.getElem?_eq_some_iff.1 ho).1
 have aA7:∀(listed listed':Array Bool),listed.size=ops.size→listed'.size=ops.size→(∀(k i:Nat),π[k]?=some i→listed'.getD k false=listed.getD i false)→(Region.ready .any ops listed=[]↔Region.ready .any (vD ops π ρ).toArray listed'=[]):=by
  intro listed listed' hs1 hs2 hll
  constructor
  ·intro h
   rw[List.eq_nil_iff_forall_not_mem]
   intro k hk
   obtain⟨i,hi,_⟩:=back k (by have:=lt hk;rw[a0J hB]at this;exact this)
   have:=(rd listed listed' hs1 hs2 hll k i hi).2 hk
   rw[h]at this;cases this
  ·intro h
   rw[List.eq_nil_iff_forall_not_mem]
   intro i hi
   obtain⟨k,_,hk,_⟩:=to i (lt hi)
   have:=(rd listed listed' hs1 hs2 hll k i hk).1 hi
   rw[h]at this;cases this
 intro fuel
 induction fuel with
 |zero=>
  intro listed listed' a w hs1 hs2 hll h
  exact⟨(aA7 listed listed' hs1 hs2 hll).2 h.1,h.2⟩
 |succ fuel ih=>
  intro listed listed' a w hs1 hs2 hll h
  refine⟨fun h0=>h.1 ((aA7 listed listed' hs1 hs2 hll).1 h0),fun i hi=>?_⟩
  have hilt:=lt hi
  obtain⟨k,hrk,hk,aIZ⟩:=to i hilt
  have hkr:=(rd listed listed' hs1 hs2 hll k i hk).1 hi
  have ho:ops[i]?=some ops[i]:=Array.getElem?_eq_getElem hilt
  have ho':=UC hB hk ho
  have h2:=wpOp_mono (K':=wpAny P .any ops Q' fuel (listed.setIfInBounds i true)) (fun a' w' h'=>ih (listed.setIfInBounds i true) (listed'.setIfInBounds k true) a' w' (by simpa using hs1) (by simpa using hs2) (by
   intro k2 i2 a6c
   by_cases e:k=k2
   ·subst e
    rw[hk]at a6c;cases a6c
    have g1:k<listed'.size:=by omega
    have g2:i<listed.size:=by omega
    simp[g1,g2]
   ·have e2:i≠i2:=by
     intro e3
     subst e3
     obtain⟨i',hi',hr',_⟩:=back k2 (by have:=(List.getElem?_eq_some_iff.1 a6c).1;omega)
     rw[a6c]at hi';cases hi'
     rw[hrk]at hr';cases hr';exact e rfl
    rw[getD_set_ne false e,getD_set_ne false e2]
    exact hll k2 i2 a6c) h') (h.2 k hkr)
  have hw:Region.wanted (CI ρ ops[i]) (yielded (vD ops π ρ).toArray a.tmps)=Region.wanted ops[i] (yielded ops a.tmps):=by
   cases hg:ops[i].guard with
   |none=>simp[Region.wanted,CI,hg]
   |some g=>
    obtain⟨j,want⟩:=g
    have hj:=(rin i _ ho).2 _ hg
    obtain⟨k3,aGT,hk3,_⟩:=to j hj
    have xO:ops[j]?=some ops[j]:=Array.getElem?_eq_getElem hj
    have aGU:=UC hB hk3 xO
    have:yielded (vD ops π ρ).toArray a.tmps (ρ.getD j 0)=yielded ops a.tmps j:=by
     rw[List.getD_eq_getElem?_getD,aGT,Option.getD_some]
     unfold yielded
     rw[aGU,xO]
     rfl
    simp only[Region.wanted,CI,hg,Option.map_some]
    rw[this]
  unfold wpOp at h2⊢
  simp only[ho',ho]at h2⊢
  rw[hw]at h2
  split
  ·rename_i hwt
   rw[if_pos hwt]at h2
   exact h2.imp (a6a ρ) fun⟨q1,q2⟩=>⟨a1q ρ q1,q2⟩
  ·rename_i hwt
   rw[if_neg hwt]at h2
   exact h2
theorem WL.perm(hB:S5 ops π ρ=true)(h:WL P Γ (vD ops π ρ).toArray Q st):WL P Γ ops Q st:=by
 intro κ Θ a w hs
 have:=h κ Θ a w hs
 rw[a0J hB]at this
 refine a6b hB ops.size (Array.replicate ops.size false) (Array.replicate ops.size false) a w (by simp) (by simp) (fun k i _=>?_) this
 rw[getD_replicate_false,getD_replicate_false]
end
end
end Go.Cx
namespace Go.Cx
set_option linter.unusedVariables false
set_option linter.unusedSimpArgs false
open Go.RowKit
def yQ(P:Program)(nt:Nat)(all:Array Oper):List Oper→St→List An→Option (St×List An×EC)
 | [],st,A=>(match shares A st with| (xQ,A1)=>some (xQ,A1,[]))
 |o::rest,st,A=>match o.guard with
  |none=>(match L5 P nt o st A with
   |some (xQ,A1,p)=>(match yQ P nt all rest xQ A1 with|some (UA,A2,q)=>some (UA,A2,p++q)|none=>none)
   |none=>none)
  |some (j,want)=>(match(all[j]?).bind (·.dst),A with
   |some s,.b v::A=>(match lk st.σ s with
    | .bool b=>(match v==want with
     |true=>(match L5 P nt {o with guard:=none} st A with
      |some (xQ,A1,p)=>(match yQ P nt all rest xQ A1 with|some (UA,A2,q)=>some (UA,A2,(b=v)::(p++q))|none=>none)
      |none=>none)
     |false=>(match o.dst with
      |some t=>(if t<nt then match yQ P nt all rest ⟨(t,.iJ [])::st.σ,st.H⟩ A with|some (UA,A2,q)=>some (UA,A2,(b=v)::q)|none=>none else none)
      |none=>(match yQ P nt all rest st A with|some (UA,A2,q)=>some (UA,A2,(b=v)::q)|none=>none)))
    | .iJ []=>(match o.dst with
     |some t=>(if t<nt then yQ P nt all rest ⟨(t,.iJ [])::st.σ,st.H⟩ A else none)
     |none=>yQ P nt all rest st A)
    |_=>none)
   |_,_=>none)
def a36(P:Program)(H:List Ob)(r:Nat)(σ:List (Nat×D))(o:Oper)(A:List An):Option (D×List Ob×List An×EC):=match o.op with
 | .call c=>(match c.callee with
  | .value (.func f)=>(match LG H (c.args.toList.map (St.ev ⟨σ,H⟩)),A with
   |some (ds,ms),.d d::A=>(if ms=[]∨d.TR=true then some ((oH r d).1,(oH r d).2,A,[Good P f ds d])else none)
   |some (ds,ms),.ds d::A=>(if d.aBG=true∧d.TR=true then some (d.shV,[],A,[Good P f ds d])else none)
   |_,.nl d::A=>(if(c.args.toList.map (St.ev ⟨σ,H⟩)).all RV=true then some ((oH r d).1,(oH r d).2,A,[Good P f (c.args.toList.map (St.ev ⟨σ,H⟩)) d])else none)
   |_,_=>none)
  |_=>(match IT P ⟨σ,H⟩ o.op A with|some (d,A,ow)=>some (d,[],A,ow)|none=>none))
 | .alloc T=>(match tz P T with|some zs=>some (.ptr r 0,[.box zs],A,[])|none=>none)
 | .box _ x=>(match(St.ev ⟨σ,H⟩ x).cellsOf with|some ds=>some (.ptr r 0,[.box ds],A,[])|none=>none)
 | .buildSlice T len parts=>(match IG P T with
  |some (e,sz)=>(match tz P e with
   |some zs=>(match xM (s6 len sz) (List.replicate len zs).flatten (parts.toList.map fun q=>(q.1,St.ev ⟨σ,H⟩ q.2))with
    |some ds=>(match A with
     | .vw _::A=>(if 0<sz∧len*sz≤16777216∧ds.all D.ZA=true∧ds.all D.flat=true then some (.sl (chunk sz len ds),[],A,[])else none)
     |A=>(match QT H ds with
      |some (es,ms)=>(if 0<sz∧len*sz≤16777216∧ms=[]then some (.acc r,[.row (zR (ds.all (uqC H))) e sz (chunk sz len es)],A,[])else none)
      |none=>none))
    |none=>none)
   |none=>none)
  |none=>none)
 |_=>(match IT P ⟨σ,H⟩ o.op A with|some (d,A,ow)=>some (d,[],A,ow)|none=>none)
def xK(P:Program)(nt:Nat)(all:Array Oper)(H:List Ob):List Oper→List (Nat×D)→List Ob→List Nat→List An→Option (List (Nat×D)×List Ob×List An×EC)
 | [],σ,acc,_,A=>some (σ,acc,A,[])
 |o::rest,σ,acc,U,A=>match o.dst with
  |none=>(match o.op,o.guard with
   | .store T x y,none=>(match St.ev ⟨σ,H⟩ x,(St.ev ⟨σ,H⟩ y).cellsOf with
    | .ptr id off,some ds=>(match acc[id-H.length]? with
     |some (.box zs)=>(if off=0∧H.length≤id∧id∉U∧XJ P T=true∧ds.length=A6 P T∧zs.length=ds.length then xK P nt all H rest σ (acc.set (id-H.length) (.box ds)) (id::U) A else none)
     |_=>none)
    |_,_=>none)
   |_,_=>none)
  |some t=>(if t<nt then match o.guard with
   |none=>(match a36 P H (H.length+acc.length) σ o A with
    |some (d,obs,A1,p)=>(match xK P nt all H rest ((t,d)::σ) (acc++obs) U A1 with|some (σ2,a0K,A2,q)=>some (σ2,a0K,A2,p++q)|none=>none)
    |none=>none)
   |some (j,want)=>(match(all[j]?).bind (·.dst),A with
    |some s,.b v::A=>(match lk σ s with
     | .bool b=>(match v==want with
      |true=>(match a36 P H (H.length+acc.length) σ o A with
       |some (d,obs,A1,p)=>(match xK P nt all H rest ((t,d)::σ) (acc++obs) U A1 with|some (σ2,a0K,A2,q)=>some (σ2,a0K,A2,(b=v)::(p++q))|none=>none)
       |none=>none)
      |false=>(match xK P nt all H rest ((t,.iJ [])::σ) acc U A with|some (σ2,a0K,A2,q)=>some (σ2,a0K,A2,(b=v)::q)|none=>none))
     | .iJ []=>xK P nt all H rest ((t,.iJ [])::σ) acc U A
     |_=>none)
    |_,_=>none)
   else none)
inductive Fr where
 |sq (c:Code)
 |bl (id:Nat)
 |lp
def depth:List Fr→Nat
 | []=>0
 | .lp::K=>depth K+1
 |_::K=>depth K
inductive Cfg where
 |run (c:Code)
 |nor
 |ex (id:Nat)
inductive Stop where
 |ret (d:D)
 |lp (c:Code) (K:List Fr) (st:St)
 |cont (k:Nat) (st:St)
 |at_ (c:Code) (K:List Fr) (st:St)
def aBn(P:Program)(rs:List ResultVar×List (List (Option (Nat×Nat))))(st:St):Option D:=match FT P st rs.1 with
 |some ds=>(match CG st.H rs.2 ds with|some (es,ms,qs)=>(if ms.Nodup∧qs.Nodup then some (BG es)else none)|none=>none)
 |none=>none
def aGW(A:List An)(m:Nat):Option (List Nat×List Nat):=match A with
 | .hl m' k o::_=>if m'=m then some (k,o)else none
 |_=>none
def WM(p:EC)(x:Option (Stop×EC)):Option (Stop×EC):=match x with
 |some (s,q)=>some (s,p++q)
 |none=>none
def go(P:Program)(rf:St→Option D)(nt:Nat):Nat→Cfg→List Fr→St→List An→Option (Stop×EC)
 |0,_,_,_,_=>none
 |n+1,.run c,K,st,A=>(match c with
  | .skip=>go P rf nt n .nor K st A
  | .ret=>(match rf st with|some d=>some (.ret d,[])|none=>none)
  | .exit id=>go P rf nt n (.ex id) K st A
  | .seq x y=>go P rf nt n (.run x) (.sq y::K) st A
  | .block id x=>go P rf nt n (.run x) (.bl id::K) st A
  | .loop x=>(match A with
   | .cn k o::_=>(if o.Nodup then some (.lp x K (st.EB k o),[])else none)
   | .pb id off e sz::A=>(match st.prom id off e sz with|some xQ=>(match shares A xQ with| (UA,A2)=>go P rf nt n (.run (.loop x)) K UA A2)|none=>none)
   |_=>none)
  | .cond x y z=>(match st.ev x,A with
   | .bool b,.b v::A=>WM [b=v] (go P rf nt n (.run (match v with|true=>y|false=>z)) K st A)
   |_,_=>none)
  | .region _ ops dr=>(match dr with
   |false=>(match yQ P nt ops ops.toList st A with|some (xQ,A1,p)=>WM p (go P rf nt n .nor K xQ A1)|none=>none)
   |true=>(match A with
    | .n k::A=>(match a5p ops k with
     |true=>(match xK P nt ops st.H (ops.toList.take k) st.σ [] [] A with
      |some (σ1,acc,A1,p)=>(match yQ P nt ops (ops.toList.drop k) ⟨σ1,st.H++acc⟩ A1 with|some (UA,A2,q)=>WM (p++q) (go P rf nt n .nor K UA A2)|none=>none)
      |none=>none)
     |false=>none)
    | .n2 π ρ k m L X::A=>(match S5 ops π ρ,vD ops π ρ with
     |true,ops'=>(match U8 ops'.toArray k m L with
      |true=>(match xK P nt ops'.toArray st.H (ops'.take k) st.σ [] [] A with
       |some (σ1,acc,A1,p)=>(match a6Z X ⟨σ1,st.H⟩ ops' L,U9 P nt X ((ops'.drop k).take (m-k)) ⟨σ1,st.H++acc⟩ A1 with
        |true,some (xQ,A2,p2)=>(match yQ P nt ops'.toArray (ops'.drop m) xQ A2 with|some (UA,A3,q)=>WM (p++(p2++q)) (go P rf nt n .nor K UA A3)|none=>none)
        |_,_=>none)
       |none=>none)
      |false=>none)
     |false,_=>none)
    |_=>none))
  |_=>none)
 |n+1,.nor,K,st,A=>(match K with
  | []=>(match rf st with|some d=>some (.ret d,[])|none=>none)
  | .sq y::K=>(match aGW A K.length with|some (k,o)=>(if o.Nodup then some (.at_ y K (st.EB k o),[])else none)|none=>go P rf nt n (.run y) K st A)
  | .bl _::K=>go P rf nt n .nor K st A
  | .lp::K=>(match A with| .cn k o::_=>(if o.Nodup then some (.cont (depth K) (st.EB k o),[])else none)|_=>none))
 |n+1,.ex id,K,st,A=>(match K with
  | []=>none
  | .sq _::K=>go P rf nt n (.ex id) K st A
  | .bl i::K=>(if id=i then go P rf nt n .nor K st A else go P rf nt n (.ex id) K st A)
  | .lp::K=>go P rf nt n (.ex id) K st A)
section
variable{P:Program}{Γ:uK}{Q:Exit→St→Prop}{N:Nat→St→Prop}
def KQ(P:Program)(Γ:uK)(N:Nat→St→Prop)(Q:Exit→St→Prop):List Fr→Exit→St→Prop
 | []=>Q
 | .sq y::K=>a5K (AW P Γ y (KQ P Γ N Q K)) (KQ P Γ N Q K)
 | .bl id::K=>X9 id (KQ P Γ N Q K)
 | .lp::K=>a5K (fun st=>∃k o,o.Nodup∧N (depth K) (st.EB k o)) (KQ P Γ N Q K)
theorem aBo:∀(K:List Fr) {st:St},Q .ret st→KQ P Γ N Q K .ret st:=by
 intro K
 induction K with
 |nil=>intro st h;exact h
 |cons f K ih=>intro st h;cases f<;>exact ih h
theorem a0L{N':Nat→St→Prop}:∀(K:List Fr),(∀d,d<depth K→N d=N' d)→KQ P Γ N Q K=KQ P Γ N' Q K:=by
 intro K
 induction K with
 |nil=>intro _;rfl
 |cons f K ih=>
  intro h
  cases f with
  |sq y=>simp only[KQ];rw[ih h]
  |bl id=>simp only[KQ];rw[ih h]
  |lp=>simp only[KQ];rw[ih (fun d hd=>h d (by simp only[depth];omega)),h (depth K) (by simp only[depth];omega)]
theorem DG{nt:Nat}(hnt:Γ.nt=nt){all:Array Oper}{UA:St}{A2:List An}:∀ {ops:List Oper} {st:St} {A:List An} {p:EC},yQ P nt all ops st A=some (UA,A2,p)→yP p→Q .normal UA→AO P Γ all ops Q st:=by
 intro ops
 induction ops with
 |nil=>
  intro st A p h _ hq
  simp only[yQ]at h
  cases hsh:shares A st with
  |mk xQ A1=>
   rw[hsh]at h
   simp only[Option.some.injEq,Prod.mk.injEq]at h
   obtain⟨rfl,_,_⟩:=h
   exact fun κ Θ a w hs=>wpList_nil ⟨_,_,_,hs.shares hsh,hq⟩
 |cons o rest ih=>
  intro st A p h hp hq
  simp only[yQ]at h
  split at h
  ·rename_i hg
   split at h
   ·rename_i xQ A1 p1 h1
    split at h
    ·rename_i a90 A2' q h2
     cases h
     exact Y5 hnt hg h1 hp.app.1 (ih h2 hp.app.2 hq)
    ·cases h
   ·cases h
  ·rename_i j want hg
   split at h
   ·rename_i s v A1 hj
    split at h
    ·rename_i b hb
     split at h
     ·rename_i hv
      simp only[beq_iff_eq]at hv
      subst hv
      split at h
      ·rename_i xQ A2' p1 h1
       split at h
       ·rename_i a90 A3 q h2
        cases h
        refine TL (b:=b) hg hj hb ?_ (fun _=>Y5 hnt rfl h1 hp.2.app.1 (ih h2 hp.2.app.2 hq)) (fun hne=>absurd hp.1 hne)
        intro t ht
        exact a6P hnt h1 ht
       ·cases h
      ·cases h
     ·rename_i hv
      split at h
      ·rename_i t hd
       split at h
       ·rename_i ht
        split at h
        ·rename_i a90 A3 q h2
         cases h
         refine TL (b:=b) hg hj hb (fun t' ht'=>?_) (fun e=>?_) (fun _=>?_)
         ·rw[hd]at ht';cases ht';rw[hnt];exact ht
         ·exfalso
          have:=hp.1
          simp only[beq_eq_false_iff_ne,ne_eq]at hv
          exact hv (this.symm.trans e)
         ·rw[hd];exact ih h2 hp.2 hq
        ·cases h
       ·cases h
      ·rename_i hd
       split at h
       ·rename_i a90 A3 q h2
        cases h
        refine TL (b:=b) hg hj hb (fun t' ht'=>?_) (fun e=>?_) (fun _=>?_)
        ·rw[hd]at ht';cases ht'
        ·exfalso
         have:=hp.1
         simp only[beq_eq_false_iff_ne,ne_eq]at hv
         exact hv (this.symm.trans e)
        ·rw[hd];exact ih h2 hp.2 hq
       ·cases h
    ·rename_i hb
     split at h
     ·rename_i t hd
      split at h
      ·rename_i ht
       refine W8 hg hj hb (fun t' ht'=>?_) ?_
       ·rw[hd]at ht';cases ht';rw[hnt];exact ht
       ·rw[hd];exact ih h hp hq
      ·cases h
     ·rename_i hd
      refine W8 hg hj hb (fun t' ht'=>?_) ?_
      ·rw[hd]at ht';cases ht'
      ·rw[hd];exact ih h hp hq
    ·cases h
   ·cases h
theorem S6{H:List Ob}{r:Nat}{σ:List (Nat×D)}{o:Oper}{A A1:List An}{d:D}{obs:List Ob}{p:EC}(t:Option Nat)(u:Option (Nat×Ob))(h:a36 P H r σ o A=some (d,obs,A1,p))(hp:yP p):O9 P H σ o ⟨t,d,r,obs,u⟩:=by
 have plain:∀ {x},(match IT P ⟨σ,H⟩ x A with|some (d,A,ow)=>some (d,([]:List Ob),A,ow)|none=>none)=some (d,obs,A1,p)→pv P ⟨σ,H⟩ x=some d∧obs=[]:=by
  intro x h
  split at h
  ·rename_i d' A' ow h1
   cases h
   exact⟨a34 h1 hp,rfl⟩
  ·cases h
 unfold a36 at h
 split at h
 ·rename_i c hop
  split at h
  ·rename_i f hc
   split at h
   ·rename_i ds ms d' A' h1
    split at h
    ·rename_i hsh
     cases h
     exact .inl (.inr ⟨f,_,_,ds,ms,d',hop.trans (congrArg Op.call (pO c hc rfl rfl)),.inl (by simpa using h1),hsh,hp.1,.inl rfl⟩)
    ·cases h
   ·rename_i ds ms d' A' h1
    split at h
    ·rename_i hc2
     cases h
     exact .inl (.inr ⟨f,_,_,ds,ms,d',hop.trans (congrArg Op.call (pO c hc rfl rfl)),.inl (by simpa using h1),.inr hc2.2,hp.1,.inr ⟨hc2.1,rfl,rfl⟩⟩)
    ·cases h
   ·rename_i d' A'
    split at h
    ·rename_i hk
     cases h
     exact .inl (.inr ⟨f,_,_,_,[],d',hop.trans (congrArg Op.call (pO c hc rfl rfl)),.inr ⟨by simpa using hk,by simp,rfl⟩,.inl rfl,hp.1,.inl rfl⟩)
    ·cases h
   ·cases h
  ·exact .inl (.inl (plain h))
 ·rename_i T hop
  split at h
  ·rename_i zs hz
   cases h
   exact .inr (.inl (.inl ⟨T,zs,hop,hz,rfl,rfl⟩))
  ·cases h
 ·rename_i T x hop
  split at h
  ·rename_i ds hc
   cases h
   exact .inr (.inl (.inr ⟨T,x,ds,hop,hc,rfl,rfl⟩))
  ·cases h
 ·rename_i T len parts hop
  split at h
  ·rename_i e sz h1
   split at h
   ·rename_i zs h2
    split at h
    ·rename_i ds h3
     split at h
     ·split at h
      ·rename_i hc
       obtain⟨c1,c2,c3,c4⟩:=hc
       cases h
       exact .inr (.inr (.inr ⟨T,e,sz,len,parts,zs,ds,hop,h1,h2,c1,c2,h3,c3,c4,rfl,rfl⟩))
      ·cases h
     ·split at h
      ·rename_i es ms h4
       split at h
       ·rename_i hc
        obtain⟨c1,c2,rfl⟩:=hc
        cases h
        exact .inr (.inr (.inl ⟨T,e,sz,len,parts,zs,ds,es,hop,h1,h2,c1,c2,h3,h4,rfl,rfl⟩))
       ·cases h
      ·cases h
    ·cases h
   ·cases h
  ·cases h
 ·exact .inl (.inl (plain h))
theorem L6{nt:Nat}(hnt:Γ.nt=nt){all:Array Oper}{H:List Ob}{K:List (Nat×D)→List Ob→Prop}{σ2:List (Nat×D)}{a0K:List Ob}{A2:List An}:∀ {ops:List Oper} {σ:List (Nat×D)} {acc:List Ob} {U:List Nat} {A:List An} {p:EC},
 xK P nt all H ops σ acc U A=some (σ2,a0K,A2,p)→yP p→K σ2 a0K→RY P Γ all H K ops σ acc U:=by
 subst hnt
 intro ops
 induction ops with
 |nil=>
  intro σ acc U A p h _ hK
  simp only[xK,Option.some.injEq,Prod.mk.injEq]at h
  obtain⟨rfl,rfl,_,_⟩:=h
  exact hK
 |cons o rest ih=>
  intro σ acc U A p h hp hK
  simp only[xK]at h
  split at h
  ·rename_i hd
   split at h
   ·rename_i T x y hop hg
    split at h
    ·rename_i id off ds h1 h2
     split at h
     ·rename_i zs h3
      split at h
      ·rename_i hc
       obtain⟨rfl,c2,c3,c4,c5,c6⟩:=hc
       exact⟨⟨none,.any,H.length+acc.length,[],some (id,.box ds)⟩,rfl,.inr ⟨rfl,rfl,hd,hg,T,x,y,id,ds,hop,h1,c2,h2,c4,c5,rfl⟩,⟨c3,c2,zs,ds,h3,rfl,c6⟩,ih h hp hK⟩
      ·cases h
     ·cases h
    ·cases h
   ·cases h
  ·rename_i t hd
   split at h
   ·rename_i ht
    split at h
    ·rename_i hg
     split at h
     ·rename_i d obs A1 p1 h1
      split at h
      ·rename_i σ3 aDt A3 q h2
       cases h
       exact⟨⟨some t,d,H.length+acc.length,obs,none⟩,rfl,.inl ⟨t,rfl,rfl,hd,ht,.inl ⟨hg,S6 _ _ h1 hp.app.1⟩⟩,trivial,ih h2 hp.app.2 hK⟩
      ·cases h
     ·cases h
    ·rename_i j want hg
     split at h
     ·rename_i s v A1 hj
      split at h
      ·rename_i b hb
       split at h
       ·rename_i hv
        simp only[beq_iff_eq]at hv
        subst hv
        split at h
        ·rename_i d obs A2' p1 h1
         split at h
         ·rename_i σ3 aDt A3 q h2
          cases h
          exact⟨⟨some t,d,H.length+acc.length,obs,none⟩,rfl,.inl ⟨t,rfl,rfl,hd,ht,.inr (.inl ⟨j,s,v,b,hg,hj,hb,.inl ⟨hp.1,S6 _ _ h1 hp.2.app.1⟩⟩)⟩,trivial,ih h2 hp.2.app.2 hK⟩
         ·cases h
        ·cases h
       ·rename_i hv
        simp only[beq_eq_false_iff_ne,ne_eq]at hv
        split at h
        ·rename_i σ3 aDt A3 q h2
         cases h
         refine⟨⟨some t,.iJ [],H.length+acc.length,[],none⟩,rfl,.inl ⟨t,rfl,rfl,hd,ht,.inr (.inl ⟨j,s,want,b,hg,hj,hb,.inr ⟨fun e=>hv (hp.1.symm.trans e),rfl,rfl⟩⟩)⟩,trivial,?_⟩
         simp only[Cp.fill,List.append_nil]
         exact ih h2 hp.2 hK
        ·cases h
      ·rename_i hb
       refine⟨⟨some t,.iJ [],H.length+acc.length,[],none⟩,rfl,.inl ⟨t,rfl,rfl,hd,ht,.inr (.inr ⟨j,s,want,hg,hj,hb,rfl,rfl⟩)⟩,trivial,?_⟩
       simp only[Cp.fill,List.append_nil]
       exact ih h hp hK
      ·cases h
     ·cases h
   ·cases h
def a6f(P:Program)(Γ:uK)(N:Nat→St→Prop)(Q:Exit→St→Prop)(d0:D):Stop→Prop
 | .ret d=>d=d0
 | .lp c K st=>AW P Γ (.loop c) (KQ P Γ N Q K) st
 | .cont k st=>N k st
 | .at_ c K st=>AW P Γ c (KQ P Γ N Q K) st
theorem a0M{c:Code}{st:St}{k o:List Nat}(hnd:o.Nodup)(h:AW P Γ c Q (st.EB k o)):AW P Γ c Q st:=by
 intro κ Θ a w hs
 obtain⟨κ',Θ',hs'⟩:=hs.EB k o hnd
 exact h κ' Θ' a w hs'
theorem aBp{fn:Func}{st:St}{d:D}{e:Exit}(he:e=.ret∨e=.normal){nz:List (List (Option (Nat×Nat)))}(h:aBn P (fn.results.toList,nz) st=some d):a1R P fn d e st:=by
 unfold aBn at h
 split at h
 ·rename_i ds h1
  split at h
  ·rename_i es ms qs h2
   split at h
   ·rename_i hc
    cases h
    exact⟨he,nz,ds,es,ms,qs,h1,h2,hc.1,hc.2,rfl⟩
   ·cases h
  ·cases h
 ·cases h
def aDu(P:Program)(Γ:uK)(N:Nat→St→Prop)(Q:Exit→St→Prop)(K:List Fr)(st:St):Cfg→Prop
 | .run c=>AW P Γ c (KQ P Γ N Q K) st
 | .nor=>KQ P Γ N Q K .normal st
 | .ex id=>KQ P Γ N Q K (.exit id) st
theorem DH{p q:EC}{x:Option (Stop×EC)}{s:Stop}(h:WM p x=some (s,q)):∃q',x=some (s,q')∧q=p++q':=by
 unfold WM at h
 split at h
 ·cases h;exact⟨_,rfl,rfl⟩
 ·cases h
theorem go_sound{rf:St→Option D}{d0:D}(hrf:∀st e,(e=.ret∨e=.normal)→rf st=some d0→Q e st){nt:Nat}(hnt:Γ.nt=nt)(hm:P.follows .mixedOrders=true):∀ {n:Nat} {cfg:Cfg} {K:List Fr} {st:St} {A:List An} {s:Stop} {p:EC},go P rf nt n cfg K st A=some (s,p)→yP p→a6f P Γ N Q d0 s→aDu P Γ N Q K st cfg:=by
 intro n
 induction n with
 |zero=>intro cfg K st A s p h;simp[go]at h
 |succ n ih=>
  intro cfg K st A s p h hp hs
  cases cfg with
  |run c=>
   show AW P Γ c (KQ P Γ N Q K) st
   cases c with
   |skip=>simp only[go]at h;exact a8S (ih h hp hs)
   |ret=>
    simp only[go]at h
    split at h
    ·rename_i d hd
     simp only[Option.some.injEq,Prod.mk.injEq]at h
     obtain⟨rfl,_⟩:=h
     have hd0:d=d0:=hs
     subst hd0
     exact aAu (aBo K (hrf st _ (.inl rfl) hd))
    ·cases h
   |exit id=>simp only[go]at h;exact a8T (ih h hp hs)
   |seq x y=>simp only[go]at h;exact aAv (ih h hp hs)
   |block id x=>simp only[go]at h;exact a5L (ih h hp hs)
   |loop x=>
    simp only[go]at h
    split at h
    ·split at h
     ·rename_i hnd
      simp only[Option.some.injEq,Prod.mk.injEq]at h
      obtain⟨rfl,_⟩:=h
      exact a0M hnd hs
     ·cases h
    ·split at h
     ·rename_i A0 x0 xQ hst
      intro κ Θ a w aGY
      obtain⟨κ',hs'⟩:=aGY.prom hst
      exact(ih h hp hs:AW P Γ (.loop x) (KQ P Γ N Q K) (shares A0 xQ).1) κ' Θ a w (hs'.shares (rfl:shares A0 xQ=((shares A0 xQ).1,(shares A0 xQ).2)))
     ·cases h
    ·cases h
   |cond x y z=>
    simp only[go]at h
    split at h
    ·rename_i b v A1 hx
     obtain⟨q,h1,rfl⟩:=DH h
     obtain⟨hb,hp'⟩:=hp
     subst hb
     refine a8d hx (fun e=>?_) (fun e=>?_)
     ·subst e;exact ih h1 hp' hs
     ·subst e;exact ih h1 hp' hs
    ·cases h
   |region id ops dr=>
    simp only[go]at h
    cases dr with
    |false=>
     simp only at h
     split at h
     ·rename_i xQ A1 p1 h1
      obtain⟨q,h2,rfl⟩:=DH h
      have:=DG (Q:=KQ P Γ N Q K) hnt h1 hp.app.1 (ih h2 hp.app.2 hs)
      have hr:=a3l (id:=id) (l:=ops.toList) (by simpa using this)
      simpa using hr
     ·cases h
    |true=>
     simp only at h
     split at h
     ·rename_i k A1
      split at h
      ·rename_i hB
       split at h
       ·rename_i σ1 acc A2 p1 h1
        split at h
        ·rename_i UA A3 p2 h2
         obtain⟨q,h3,rfl⟩:=DH h
         have hq:=hp.app.1.app
         have h4:=DG (Q:=KQ P Γ N Q K) hnt h2 hq.2 (ih h3 hp.app.2 hs)
         have h5:=L6 (Γ:=Γ) (K:=fun σ acc=>AO P Γ ops (ops.toList.drop k) (KQ P Γ N Q K) ⟨σ,st.H++acc⟩) hnt h1 hq.1 h4
         have hr:=a8l (id:=id) (l:=ops.toList) (Q:=KQ P Γ N Q K) (st:=st) k hm (by simpa using hB) (by simpa using h5)
         simpa using hr
        ·cases h
       ·cases h
      ·cases h
     ·rename_i π ρ k m L X A1
      split at h
      ·rename_i ops' hB1
       generalize aGZ:vD ops π ρ=ops' at h
       split at h
       ·rename_i hB
        split at h
        ·rename_i σ1 acc A2 p1 h1
         split at h
         ·rename_i xQ A3 p2 hst hmid
          split at h
          ·rename_i UA A4 p3 h2
           obtain⟨q,h3,rfl⟩:=DH h
           have hq:=hp.app.1.app
           have NX:=hq.2.app
           have h4:=DG (Q:=KQ P Γ N Q K) hnt h2 NX.2 (ih h3 hp.app.2 hs)
           have h6:=Y6 (Γ:=Γ) (K:=fun uL=>AO P Γ ops'.toArray (ops'.drop m) (KQ P Γ N Q K) uL) hnt hmid NX.1 h4
           have h5:=L6 (Γ:=Γ) (K:=fun σ acc=>(∀i∈L,∀o,ops'[i]?=some o→DF X ⟨σ,st.H⟩ o.op=true)∧a6S P Γ X (fun uL=>AO P Γ ops'.toArray (ops'.drop m) (KQ P Γ N Q K) uL) ((ops'.drop k).take (m-k)) ⟨σ,st.H++acc⟩) hnt h1 hq.1 ⟨a4G hst,h6⟩
           have hr:=a4E (l:=ops') (Q:=KQ P Γ N Q K) (st:=st) k m L hB h5
           rw[←aGZ]at hr
           exact(hr.perm hB1).aw hm
          ·cases h
         ·cases h
        ·cases h
       ·cases h
      ·cases h
     ·cases h
   |_=>simp[go]at h
  |nor=>
   show KQ P Γ N Q K .normal st
   simp only[go]at h
   split at h
   ·split at h
    ·rename_i d hd
     simp only[Option.some.injEq,Prod.mk.injEq]at h
     obtain⟨rfl,_⟩:=h
     have hd0:d=d0:=hs
     subst hd0
     exact hrf st _ (.inr rfl) hd
    ·cases h
   ·split at h
    ·split at h
     ·rename_i hnd
      simp only[Option.some.injEq,Prod.mk.injEq]at h
      obtain⟨rfl,_⟩:=h
      exact a0M hnd hs
     ·cases h
    ·exact ih (cfg:=.run _) h hp hs
   ·exact ih (cfg:=.nor) h hp hs
   ·split at h
    ·split at h
     ·rename_i k o _ hnd
      simp only[Option.some.injEq,Prod.mk.injEq]at h
      obtain⟨rfl,_⟩:=h
      exact⟨k,o,hnd,hs⟩
     ·cases h
    ·cases h
  |ex id=>
   show KQ P Γ N Q K (.exit id) st
   simp only[go]at h
   split at h
   ·cases h
   ·exact ih (cfg:=.ex id) h hp hs
   ·rename_i i K
    simp only[KQ,X9]
    split at h
    ·rename_i e;rw[if_pos e];exact ih (cfg:=.nor) h hp hs
    ·rename_i e;rw[if_neg e];exact ih (cfg:=.ex id) h hp hs
   ·exact ih (cfg:=.ex id) h hp hs
def dig:Code→List Nat→List Fr→Code×List Fr
 |c,[],K=>(c,K)
 | .seq x y,i::p,K=>(match i with|0=>dig x p (.sq y::K)|_=>dig y p K)
 | .block id c,_::p,K=>dig c p (.bl id::K)
 | .cond _ x y,i::p,K=>(match i with|0=>dig x p K|_=>dig y p K)
 | .loop c,_::p,K=>dig c p (.lp::K)
 |c,_::_,K=>(c,K)
def aA9(P:Program)(rs:List ResultVar×List (List (Option (Nat×Nat))))(st:St):Option D:=match FT P st rs.1,(st.H[0]?:Option Ob)with
 |some ds,some (Ob.SI cells v)=>(match CG st.H rs.2 (.agg cells::ds)with
  |some (.agg cells'::es,ms,qs)=>(if ms.Nodup∧qs.Nodup then some (.iJ [BG es,.agg cells',.val v])else none)
  |_=>none)
 |_,_=>none
def aAA(P:Program)(rs:List ResultVar)(st:St):Option D:=match FT P st rs with
 |some [.ptr j 0]=>(match st.H[j]? with|some (.box cells)=>(if cells.all D.ZA=true then some (.agg cells)else none)|_=>none)
 |_=>none
inductive Kd where
 |q (nz:List (List (Option (Nat×Nat)))) (d:D)
 |p (nz:List (List (Option (Nat×Nat)))) (v:Value) (cells:List D) (d:D)
 |n (cells:List D)
def Kd.rf(P:Program)(fn:Func)(k:Kd)(st:St):Option D:=match k with
 | .q nz _=>aBn P (fn.results.toList,nz) st
 | .p nz _ _ _=>aA9 P (fn.results.toList,nz) st
 | .n _=>aAA P fn.results.toList st
def Kd.d0:Kd→D
 | .q _ d=>d
 | .p _ v cells d=>.iJ [d,.agg cells,.val v]
 | .n cells=>.agg cells
def Kd.qq(P:Program)(fn:Func):Kd→Exit→St→Prop
 | .q _ d=>a1R P fn d
 | .p _ v cells d=>a6G P fn v cells d
 | .n cells=>aDi P fn cells
theorem Kd.ok{fn:Func}(k:Kd){st:St}{e:Exit}(he:e=.ret∨e=.normal)(h:k.rf P fn st=some k.d0):k.qq P fn e st:=by
 cases k with
 |q nz d=>exact aBp he h
 |p nz v cells d=>
  simp only[Kd.rf,aA9,Kd.d0]at h
  split at h
  ·rename_i ds XY v' h1 h2
   split at h
   ·rename_i cells' es ms qs h3
    split at h
    ·rename_i hc
     simp only[Option.some.injEq,D.iJ.injEq,List.cons.injEq,D.agg.injEq,D.val.injEq,and_true]at h
     obtain⟨rfl,rfl,rfl⟩:=h
     exact⟨he,_,_,_,_,_,_,h1,h2,h3,hc.1,hc.2,rfl⟩
    ·cases h
   ·cases h
  ·cases h
 |n cells=>
  simp only[Kd.rf,aAA,Kd.d0]at h
  split at h
  ·rename_i j h1
   split at h
   ·rename_i cells' h2
    split at h
    ·rename_i hc
     simp only[Option.some.injEq,D.agg.injEq]at h
     subst h
     exact⟨he,j,h1,h2,hc⟩
    ·cases h
   ·cases h
  ·cases h
theorem UD{fn:Func}{k:Kd}{nt n:Nat}{c:Code}{K:List Fr}{st:St}(A:List An)(s:Stop){p:EC}(hnt:Γ.nt=nt)(hm:P.follows .mixedOrders=true)(h:go P (k.rf P fn) nt n (.run c) K st A=some (s,p))(hp:yP p)
 (hs:a6f P Γ N (k.qq P fn) k.d0 s):AW P Γ c (KQ P Γ N (k.qq P fn) K) st:=go_sound (Q:=k.qq P fn) (N:=N) (K:=K) (st:=st) (d0:=k.d0) (cfg:=.run c) (fun _ _ he h=>k.ok he h) hnt hm h hp hs
def AWr(P:Program)(Γ:uK)(c:Code)(Q:Exit→St→Prop)(n:Nat)(st:St):Prop:=
 ∀κ Θ a w,bN Γ st κ Θ a w→Code.rounds P c (fun e a' w'=>∃uL κ' Θ',bN Γ uL κ' Θ' a' w'∧Q e uL) n a w
theorem a92{c:Code}{n:Nat}{st:St}(h:AWr P Γ c Q n st):AW P Γ (.loop c) Q st:=fun κ Θ a w hs=>wp_loop_rounds n (h κ Θ a w hs)
theorem aJ{c:Code}{K:List Fr}{n:Nat}{st:St}
 (h:∀N',(∀d,d<depth K→N' d=N d)→N' (depth K)=AWr P Γ c (KQ P Γ N Q K) n→AW P Γ c (KQ P Γ N' Q (.lp::K)) st):AWr P Γ c (KQ P Γ N Q K) (n+1) st:=by
 intro κ Θ a w hs
 have:=h (fun d=>if d<depth K then N d else AWr P Γ c (KQ P Γ N Q K) n) (fun d hd=>if_pos hd) (if_neg (by omega))
 simp only[KQ]at this
 rw[if_neg (by omega)]at this
 rw[←a0L (N:=N) (N':=fun d=>if d<depth K then N d else AWr P Γ c (KQ P Γ N Q K) n) K (fun d hd=>(if_pos hd).symm)]at this
 rw[rounds_succ]
 refine wp_mono (this κ Θ a w hs) ?_
 rintro e a' w' ⟨uL,κ',Θ',hs',hq⟩
 cases e with
 |normal=>
  obtain⟨k,o,hnd,hR'⟩:=hq
  obtain⟨κ2,Θ2,hs2⟩:=hs'.EB k o hnd
  exact hR' κ2 Θ2 a' w' hs2
 |exit id=>exact⟨_,_,_,hs',hq⟩
 |goto l=>exact⟨_,_,_,hs',hq⟩
 |ret=>exact⟨_,_,_,hs',hq⟩
 |panic c=>exact⟨_,_,_,hs',hq⟩
 |outgrown=>exact⟨_,_,_,hs',hq⟩
end
theorem aE{α:Type}{c:Bool}{x y:Option α}{r:α}(h:(bif c then x else y)=some r):(c=true∧x=some r)∨(c=false∧y=some r):=by
 cases c
 ·exact .inr ⟨rfl,h⟩
 ·exact .inl ⟨rfl,h⟩
theorem aU{α:Type}{c:Bool}{x:Option α}{r:α}(h:(bif c then x else none)=some r):c=true∧x=some r:=by
 cases c
 ·cases h
 ·exact⟨rfl,h⟩
theorem aB{α β:Type}{x:Option α}{f:α→Option β}{r:β}(h:x.bind f=some r):∃y,x=some y∧f y=some r:=by
 cases x with
 |none=>cases h
 |some y=>exact⟨y,rfl,h⟩
theorem aC{α:Type}{x y:α}(h:some x=some y):x=y:=by cases h;rfl
theorem ow{p:Prop}{ps:EC}(h:p)(t:yP ps):yP (p::ps):=⟨h,t⟩
def oI{α:Type}(l:List α)(i:Int):Option α:=bif decide (0≤i)then l[i.toNat]? else none
theorem a39{α β:Type}{l:List α}{i:Int}{x:α}(f:α→β)(h:oI l i=some x):0≤i∧(l.map f)[i.toNat]?=some (f x):=by
 unfold oI at h
 cases hd:decide (0≤i)with
 |false=>rw[hd]at h;cases h
 |true=>rw[hd]at h;simp only[cond_true]at h;exact⟨by simpa using hd,by rw[List.getElem?_map,h];rfl⟩
theorem aBq{l:Bytes}{i:Int}{x:UInt8}(h:oI l i=some x):0≤i∧l[i.toNat]?=some x:=by
 unfold oI at h
 cases hd:decide (0≤i)with
 |false=>rw[hd]at h;cases h
 |true=>rw[hd]at h;exact⟨by simpa using hd,h⟩
def fuel:Nat:=4194304
theorem bP{α:Type}{l:List α}{i:Int}{x:α}(f:α→List D)(n:Nat)(h:oI l i=some x)(hn:(f x).length=n):0≤i∧(l.map f)[i.toNat]?=some (f x)∧(f x).length=n:=⟨(a39 f h).1,(a39 f h).2,hn⟩
theorem xB{i n:Nat}(sz:Nat)(h:decide (i<n)=true):sz=sz∧(i:Int)=((i:Nat):Int)∧i<n:=⟨rfl,rfl,of_decide_eq_true h⟩
theorem nY{α:Type}{l:List α}{i:Nat}{x:α}(f:α→List D)(sz:Nat)(h:l[i]?=some x):sz=sz∧(i:Int)=((i:Nat):Int)∧i<(l.map f).length:=⟨rfl,rfl,by rw[List.length_map];exact(List.getElem?_eq_some_iff.1 h).1⟩
theorem Y7{α:Type}{l:List α}{i:Int}{x:α}(f:α→List D)(sz:Nat)(h:oI l i=some x):sz=sz∧i=((i.toNat:Nat):Int)∧i.toNat<(l.map f).length:=by
 obtain⟨h0,h1⟩:=a39 f h
 exact⟨rfl,by omega,(List.getElem?_eq_some_iff.1 h1).1⟩
theorem TC{α:Type}{l:List α}{i:Int}{x:α}(h:oI l i=some x):l[i.toNat]?=some x:=by
 have:=(a39 (fun y=>y) h).2
 simpa using this
theorem a6g{x y:Int}(k:IntKind)(h:(decide (0≤x)&&decide (0<y))=true):k=k∧0≤x∧0<y:=by simpa using h
def room(n b:Nat):Bool:=decide (n≤maxLen)&&decide (n*b≤140737488355328)
theorem aZ{n b:Nat}(h:room n b=true):n≤maxLen∧n*b≤140737488355328:=by
 simp only[room,Bool.and_eq_true,decide_eq_true_eq]at h;exact h
def BK(n:Int)(b:Nat):Bool:=decide (0≤n)&&decide (b*n.toNat≤281474976710656)&&decide (n.toNat≤4611686018427387904)
theorem uO{n:Int}{b:Nat}(h:BK n b=true):n=n∧0≤n∧b*n.toNat≤281474976710656∧n.toNat≤4611686018427387904:=by
 simp only[BK,Bool.and_eq_true,decide_eq_true_eq]at h;exact⟨rfl,h.1.1,h.1.2,h.2⟩
theorem a6h{k n:Nat}(h:k<n)(hn:n≤maxLen):IntKind.i64.wrap ((k:Int)+1)=((k+1:Nat):Int):=by
 unfold maxLen at hn
 rw[dY (rC.i64.2 (by omega))];omega
theorem a94{k n:Nat}(h:k<n):decide ((k:Int)<(n:Int))=true:=by simp[h]
theorem a6i{k n:Nat}(h:n≤k):decide ((k:Int)<(n:Int))=false:=by simp;omega
theorem drop_cons{α:Type}{l:List α}{k:Nat}{x:α}{xs:List α}(h:l.drop k=x::xs):l[k]?=some x∧k<l.length∧l.drop (k+1)=xs:=by
 have h1:l[k]?=some x:=by
  have:=congrArg (fun m:List α=>m[0]?) h
  simpa[List.getElem?_drop]using this
 refine⟨h1,(List.getElem?_eq_some_iff.1 h1).1,?_⟩
 rw[←List.drop_drop,h];rfl
theorem drop_nil{α:Type}{l:List α}{k:Nat}(h:l.drop k=[]):l.length≤k:=by simpa using h
theorem a6j{α β:Type}{l:List α}{k:Nat}{x:α}(f:α→β)(h:l[k]?=some x):0≤(k:Int)∧(l.map f)[((k:Int)).toNat]?=some (f x):=⟨by omega,by simp[h]⟩
theorem aQ{α:Type}{l:List α}{k:Nat}{x:α}(f:α→List D)(n:Nat)(h:l[k]?=some x)(hn:(f x).length=n):0≤(k:Int)∧(l.map f)[((k:Int)).toNat]?=some (f x)∧(f x).length=n:=⟨(a6j f h).1,(a6j f h).2,hn⟩
theorem a6k{α β:Type}{l:List α}{k:Nat}(f:α→β)(h:k<l.length):decide ((k:Int)<((l.map f).length:Int))=true:=by rw[List.length_map];exact a94 h
theorem a4H{α β:Type}{l:List α}{k:Nat}(f:α→β)(h:l.length≤k):decide ((k:Int)<((l.map f).length:Int))=false:=by rw[List.length_map];exact a6i h
theorem cA{α β:Type}{l:List α}{k:Nat}{x:α}(f:α→β)(h:l[k]?=some x):(l.map f)[k]?=some (f x):=by rw[List.getElem?_map,h];rfl
def OG{α β:Type}[BEq α](z:β)(k:α):List (α×β)→β
 | []=>z
 |p::r=>bif k==p.1 then p.2 else OG z k r
def a95{α β:Type}[BEq α](k:α):List (α×β)→Bool
 | []=>false
 |p::r=>bif k==p.1 then true else a95 k r
def UE{α β:Type}[BEq α](k:α)(v:β):List (α×β)→List (α×β)
 | []=>[(k,v)]
 |p::r=>bif k==p.1 then(k,v)::r else p::UE k v r
def eB(b:Bool):D:=.bool b
def kS{β:Type}(e:β→D)(p:Bytes×β):D×D:=(.str p.1,e p.2)
theorem a3A{β:Type}{e:β→D}(z:β)(k:Bytes):∀(m:List (Bytes×β)),(FK (.str k) (m.map (kS e))=some none∧a95 k m=false∧OG z k m=z)∨(FK (.str k) (m.map (kS e))=some (some (e (OG z k m)))∧a95 k m=true)
 | []=>.inl ⟨rfl,rfl,rfl⟩
 |p::r=>by
  simp only[List.map_cons,FK,kS,keq,a95,OG]
  cases hb:k==p.1 with
  |true=>exact .inr ⟨rfl,rfl⟩
  |false=>exact a3A z k r
theorem aDv{P:Program}{T:TypeId}{β:Type}{e:β→D}{z:β}{k:Bytes}{m:List (Bytes×β)}(hT:a3n P T=some (.string,e z)):plk P T (m.map (kS e)) (.str k) false=some (e (OG z k m)):=by
 unfold plk
 rw[hT]
 rcases a3A (e:=e) z k m with⟨h1,_,h3⟩|⟨h1,_⟩
 ·simp only[LD,h1,h3,cond_false]
 ·simp only[LD,h1,cond_false]
theorem a6l{β:Type}{e:β→D}{k:Bytes}{v:β}:∀ {m:List (Bytes×β)},O1 (.str k) (e v) (m.map (kS e))=some ((UE k v m).map (kS e))
 | []=>rfl
 |p::r=>by
  simp only[List.map_cons,O1,UE]
  have hq:keq (.str k) (kS e p).1=some (k==p.1):=rfl
  rw[hq]
  cases hb:k==p.1 with
  |true=>rfl
  |false=>simp only[a6l (m:=r),Option.map_some,cond_false,List.map_cons]
end Go.Cx
namespace Go.Cx
set_option linter.unusedVariables false
set_option linter.unusedSimpArgs false
open Go.RowKit Go.Proofs
structure aD where
 rel:Bytes
 args:List Bytes
 deriving DecidableEq
structure aH where
 var:Bytes
 value:Bytes
 deriving DecidableEq
structure aF where
 kind:Int
 pat:aD
 left:Bytes
 right:Bytes
 deriving DecidableEq
structure Action where
 kind:Int
 pat:aD
 deriving DecidableEq
structure aI where
 name:Bytes
 prio:Int
 conds:List aF
 bC:List Action
 deriving DecidableEq
structure aL where
 facts:List aD
 bind:List aH
 deriving DecidableEq
structure bH where
 rule:Bytes
 facts:List aD
 bind:List aH
 deriving DecidableEq
structure aN where
 shape:aD
 facts:List aD
 deriving DecidableEq
structure Node where
 parent:Int
 cond:aF
 iO:Int
 tokens:List aL
 deriving DecidableEq
structure aG where
 rules:List aI
 ends:List Int
 aR:List aN
 nodes:List Node
 facts:List aD
 bJ:Int
 deriving DecidableEq
structure bI where
 fact:aD
 time:Int
 deriving DecidableEq
structure a6m where
 rule:Bytes
 times:List Int
 deriving DecidableEq
structure a6n where
 aBr:bH
 prio:Int
 times:List Int
 spec:Int
 order:Int
 deriving DecidableEq
structure Cur where
 b:List Int
 i:Int
 h:Int
 deriving DecidableEq
abbrev tx(s:Bytes):List D:=[.str s]
abbrev iL(n:Int):List D:=[.int .i64 n]
abbrev bx(b:Bool):List D:=[.bool b]
abbrev yx(n:Int):List D:=[.int .u8 n]
abbrev dT(l:List Bytes):D:=.sl (l.map tx)
abbrev dI(l:List Int):D:=.sl (l.map iL)
abbrev aD.c(x:aD):List D:=[.str x.rel,dT x.args]
abbrev aH.c(x:aH):List D:=[.str x.var,.str x.value]
abbrev aF.c(x:aF):List D:=[.int .i64 x.kind,.str x.pat.rel,dT x.pat.args,.str x.left,.str x.right]
abbrev Action.c(x:Action):List D:=[.int .i64 x.kind,.str x.pat.rel,dT x.pat.args]
abbrev aI.c(x:aI):List D:=[.str x.name,.int .i64 x.prio,.sl (x.conds.map aF.c),.sl (x.bC.map Action.c)]
abbrev aL.c(x:aL):List D:=[.sl (x.facts.map aD.c),.sl (x.bind.map aH.c)]
abbrev bH.c(x:bH):List D:=[.str x.rule,.sl (x.facts.map aD.c),.sl (x.bind.map aH.c)]
abbrev aN.c(x:aN):List D:=[.str x.shape.rel,dT x.shape.args,.sl (x.facts.map aD.c)]
abbrev Node.c(x:Node):List D:=[.int .i64 x.parent,.int .i64 x.cond.kind,.str x.cond.pat.rel,dT x.cond.pat.args,.str x.cond.left,.str x.cond.right,.int .i64 x.iO,.sl (x.tokens.map aL.c)]
abbrev aG.c(x:aG):List D:=[.sl (x.rules.map aI.c),dI x.ends,.sl (x.aR.map aN.c),.sl (x.nodes.map Node.c),.sl (x.facts.map aD.c),.int .i64 x.bJ]
abbrev bI.c(x:bI):List D:=[.str x.fact.rel,dT x.fact.args,.int .i64 x.time]
abbrev a6m.c(x:a6m):List D:=[.str x.rule,dI x.times]
abbrev a6n.c(x:a6n):List D:=[.str x.aBr.rule,.sl (x.aBr.facts.map aD.c),.sl (x.aBr.bind.map aH.c),.int .i64 x.prio,dI x.times,.int .i64 x.spec,.int .i64 x.order]
abbrev Cur.c(x:Cur):List D:=[.sl (x.b.map yx),.int .i64 x.i,.int .i64 x.h]
def FZ(fn:Func):Code:=match fn.body with
 |some c=>c
 |none=>.skip
theorem mix:Tryz.prog.follows .mixedOrders=true:=by kernel_rfl
theorem aGa{P:Program}{Γ:uK}{Q:Exit→St→Prop}{N N':Nat→St→Prop}{c:Code}{K K0:List Fr}{st:St}(hd:depth K=depth K0)(hN:∀d,d<depth K0→N' d=N d)(t:AW P Γ c (KQ P Γ N Q K) st):AW P Γ c (KQ P Γ N' Q K) st:=by
 rw[a0L (N:=N') (N':=N) K (fun d h=>hN d (by omega))];exact t
theorem aDx{P:Program}{Γ:uK}{Q:Exit→St→Prop}{c:Code}{s s':St}(h:s=s')(t:AW P Γ c Q s'):AW P Γ c Q s:=by rw[h];exact t
theorem CJ{α:Type}{c:α→List D}(hc:∀x,(c x).all D.flat=true)(l:List α):(l.map c).flatten.all D.flat=true:=by
 induction l with
 |nil=>rfl
 |cons x l ih=>rw[List.map_cons,List.flatten_cons,List.all_append,hc,ih];rfl
abbrev bT:An:=.b true
abbrev bF:An:=.b false
theorem Good.sh{P:Program}{f:FuncId}{ds:List D}{d:D}(h:Good P f ds d)(hd:(match d with| .iJ _=>false|_=>true)=true:=by kernel_rfl):Good P f ds d.shV:=by
 refine⟨h.1,fun w Θ args bs h1 h2 h3 h4 h5=>(h.2 w Θ args bs h1 h2 h3 h4 h5).mono ?_⟩
 rintro x w' ⟨v,bs',ts,us,rfl,hb,hr,hz,ht,hnd,hfr,hsub⟩
 cases hr with
 |v hv=>
  obtain⟨b,q,s⟩:=hv.xJ
  refine⟨v,b,[],[],rfl,hb,.v (.cell (.pure q)),fun y hy hlt=>?_,by simp,by simp,by simp,by simp⟩
  rcases s y hy with h|h
  ·exact hz y h hlt
  ·exact absurd (hfr y h).1 (by omega)
 |iJ=>cases hd
theorem z8.xJ{w:World}{vs:List Value}{ds:List D}{bs ts us:List Nat}(h:z8 w vs ds bs ts us):∃b,z8 w vs (ds.map D.shV) b [] []∧∀x∈b,x∈bs∨x∈us:=by
 induction h with
 |nil=>exact⟨_,.nil,by simp⟩
 |cons v vs d ds b1 b2 t1 t2 u1 u2 h2 _ ih=>
  obtain⟨b,q,s⟩:=h2.xJ
  obtain⟨b',q',s'⟩:=ih
  refine⟨_,.cons _ _ _ _ b b' [] [] [] [] (.cell (.pure q)) q',fun x hx=>?_⟩
  rcases List.mem_append.1 hx with h|h
  ·rcases s x h with h|h<;>simp[h]
  ·rcases s' x h with h|h<;>simp[h]
structure Pre(A:List An)(p:EC):Prop where
 h:yP p
theorem aK:Pre [] []:=⟨trivial⟩
theorem yP.join{p q:EC}(h:yP p)(k:yP q):yP (p++q):=by
 induction p with
 |nil=>exact k
 |cons x p ih=>exact⟨h.1,ih h.2⟩
theorem Pre.ext{A:List An}{p:EC}(o:Pre A p)(B:List An){q:EC}(hq:yP q):Pre (A++B) (p++q):=⟨o.h.join hq⟩
section
variable{A:List An}{p:EC}
theorem Pre.b(o:Pre A p){c v:Bool}(h:c=v):Pre (A++[.b v]) (p++[c=v]):=o.ext _ ⟨h,trivial⟩
theorem Pre.r(o:Pre A p)(n:Nat){c v:Bool}(h:c=v):Pre (A++List.replicate n (.b v)) (p++List.replicate n (c=v)):=o.ext _ (by
 induction n with
 |zero=>trivial
 |succ n ih=>exact⟨h,ih⟩)
theorem Pre.T(o:Pre A p)(n:Nat):Pre (A++List.replicate n bT) (p++List.replicate n (true=true)):=o.r n rfl
theorem Pre.F(o:Pre A p)(n:Nat):Pre (A++List.replicate n bF) (p++List.replicate n (false=false)):=o.r n rfl
theorem Pre.g(o:Pre A p){f:FuncId}{ds:List D}{d:D}(h:Good Tryz.prog f ds d):Pre (A++[.d d]) (p++[Good Tryz.prog f ds d]):=o.ext _ ⟨h,trivial⟩
theorem Pre.gs(o:Pre A p){f:FuncId}{ds:List D}{d:D}(h:Good Tryz.prog f ds d):Pre (A++[.ds d]) (p++[Good Tryz.prog f ds d]):=o.ext _ ⟨h,trivial⟩
theorem Pre.hp(o:Pre A p)(nz:List (List (Option (Nat×Nat)))){f:FuncId}{cells cells' ds:List D}{d:D}(h:AD Tryz.prog f cells cells' ds d):Pre (A++[.gp nz cells' d]) (p++[AD Tryz.prog f cells cells' ds d]):=o.ext _ ⟨h,trivial⟩
theorem Pre.hn(o:Pre A p){f:FuncId}{ds cells:List D}(h:WK Tryz.prog f ds cells):Pre (A++[.dn cells]) (p++[WK Tryz.prog f ds cells]):=o.ext _ ⟨h,trivial⟩
theorem Pre.x(o:Pre A p)(a:An){q:Prop}(h:q):Pre (A++[a]) (p++[q]):=o.ext _ ⟨h,trivial⟩
theorem Pre.w(o:Pre A p){q:Prop}(h:q):Pre (A++[]) (p++[q]):=o.ext _ ⟨h,trivial⟩
theorem Pre.a(o:Pre A p)(B:List An):Pre (A++B) (p++[]):=o.ext _ (q:=[]) trivial
theorem Pre.l(o:Pre A p){n:Int}{rows:List (List D)}{r:List D}{sz:Nat}(h:0≤n∧rows[n.toNat]?=some r∧r.length=sz):Pre (A++[.row r]) (p++[0≤n∧rows[n.toNat]?=some r∧r.length=sz]):=o.ext _ ⟨h,trivial⟩
theorem Pre.i(o:Pre A p){sz sz' m k:Nat}{n:Int}(h:sz=sz'∧n=((k:Nat):Int)∧k<m):Pre (A++[.ix k]) (p++[sz=sz'∧n=((k:Nat):Int)∧k<m]):=o.ext _ ⟨h,trivial⟩
theorem Pre.o(o:Pre A p)(sz n:Nat)(k:RK){rows:List (List D)}{i:Nat}{r:List D}(h:rows[i]?=some r)(hk:k.X8=true:=by kernel_rfl)(hn:Nat.ble n sz=true:=by kernel_rfl):Pre (A++[.row r]) (p++[sz=sz∧k.X8=true∧rows[i]?=some r∧n≤sz]):=o.ext _ ⟨⟨rfl,hk,h,Nat.le_of_ble_eq_true hn⟩,trivial⟩
theorem Pre.c(o:Pre A p){s:Bytes}{i:Int}{b:UInt8}(h:oI s i=some b):Pre (A++[.ch b]) (p++[0≤i∧s[i.toNat]?=some b]):=o.ext _ ⟨aBq h,trivial⟩
theorem Pre.lt{α:Type}{l xs:List α}{i:Nat}{x:α}(o:Pre A p)(f:α→List D)(h:l.drop i=x::xs):Pre (A++[bT]) (p++[decide ((i:Int)<((l.map f).length:Int))=true]):=o.b (a6k f (drop_cons h).2.1)
theorem Pre.ge{α:Type}{l:List α}{i:Nat}(o:Pre A p)(f:α→List D)(h:l.drop i=[]):Pre (A++[bF]) (p++[decide ((i:Int)<((l.map f).length:Int))=false]):=o.b (a4H f (drop_nil h))
end
theorem dc{α:Type}{l:List α}{k:Nat}{x:α}{xs:List α}(h:l.drop k=x::xs):l[k]?=some x:=(drop_cons h).1
theorem dn{α:Type}{l:List α}{k:Nat}{x:α}{xs:List α}(h:l.drop k=x::xs):l.drop (k+1)=xs:=(drop_cons h).2.2
theorem iS{α:Type}{l:List α}{k:Nat}{x:α}{xs:List α}(h:l.drop k=x::xs)(hn:l.length≤maxLen):IntKind.i64.wrap ((k:Int)+1)=((k+1:Nat):Int):=a6h (drop_cons h).2.1 hn
theorem mA{α β:Type}(f:α→β):(∀a b:List α,(a++b).map f=a.map f++b.map f)∧(∀(x:α) (a:List α),(x::a).map f=f x::a.map f)∧([]:List α).map f=[]∧(∀(l:List α) (i:Nat) (x:α),(l.set i x).map f=(l.map f).set i (f x))∧(∀(n:Nat) (x:α),(List.replicate n x).map f=List.replicate n (f x))∧(∀(l:List α) (n:Nat),(l.take n).map f=(l.map f).take n):=
 ⟨fun _ _=>List.map_append,fun _ _=>rfl,rfl,fun _ _ _=>List.map_set,fun _ _=>List.map_replicate,fun _ _=>List.map_take⟩
section
variable{Γ:uK}{N N1:Nat→St→Prop}{fn:Func}{k:Kd}{nt:Nat}{A:List An}{p:EC}{c c':Code}{K K' K0:List Fr}{st uL:St}
theorem Pre.ret(o:Pre A p)(hnt:Γ.nt=nt)(h:go Tryz.prog (k.rf Tryz.prog fn) nt 2000 (.run c) K st A=some (.ret k.d0,p):=by kernel_rfl):AW Tryz.prog Γ c (KQ Tryz.prog Γ N (k.qq Tryz.prog fn) K) st:=UD (n:=2000) A _ hnt mix h o.h rfl
theorem Pre.rts(o:Pre A p)(hnt:Γ.nt=nt)(d:D)(hd:d=k.d0)(h:go Tryz.prog (k.rf Tryz.prog fn) nt 2000 (.run c) K st A=some (.ret d,p):=by kernel_rfl):AW Tryz.prog Γ c (KQ Tryz.prog Γ N (k.qq Tryz.prog fn) K) st:=UD (n:=2000) A _ hnt mix h o.h hd
theorem Pre.cs(o:Pre A p)(hnt:Γ.nt=nt){n:Nat}(hS:N1 (depth K')=AWr Tryz.prog Γ c' (KQ Tryz.prog Γ N (k.qq Tryz.prog fn) K') n)(S:St)(e:S=uL)(t:AWr Tryz.prog Γ c' (KQ Tryz.prog Γ N (k.qq Tryz.prog fn) K') n uL)
 (h:go Tryz.prog (k.rf Tryz.prog fn) nt 2000 (.run c) K st A=some (.cont (depth K') S,p):=by kernel_rfl):AW Tryz.prog Γ c (KQ Tryz.prog Γ N1 (k.qq Tryz.prog fn) K) st:=UD (n:=2000) A _ hnt mix h o.h ((congrFun hS _).mpr (by rw[e];exact t))
theorem Pre.cf(o:Pre A p)(hnt:Γ.nt=nt){n:Nat}(hS:N1 (depth K')=AWr Tryz.prog Γ c' (KQ Tryz.prog Γ N (k.qq Tryz.prog fn) K') n)(t:AWr Tryz.prog Γ c' (KQ Tryz.prog Γ N (k.qq Tryz.prog fn) K') n uL)
 (h:go Tryz.prog (k.rf Tryz.prog fn) nt 2000 (.run c) K st A=some (.cont (depth K') uL,p):=by kernel_rfl):AW Tryz.prog Γ c (KQ Tryz.prog Γ N1 (k.qq Tryz.prog fn) K) st:=o.cs hnt hS _ rfl t h
theorem Pre.ct(o:Pre A p)(hnt:Γ.nt=nt){n i:Nat}{S:Int→St}(hS:N1 (depth K')=AWr Tryz.prog Γ c' (KQ Tryz.prog Γ N (k.qq Tryz.prog fn) K') n)(hi:IntKind.i64.wrap ((i:Int)+1)=((i+1:Nat):Int))(t:AWr Tryz.prog Γ c' (KQ Tryz.prog Γ N (k.qq Tryz.prog fn) K') n (S ((i+1:Nat):Int)))
 (h:go Tryz.prog (k.rf Tryz.prog fn) nt 2000 (.run c) K st A=some (.cont (depth K') (S (IntKind.i64.wrap ((i:Int)+1))),p):=by kernel_rfl):AW Tryz.prog Γ c (KQ Tryz.prog Γ N1 (k.qq Tryz.prog fn) K) st:=o.cs hnt hS _ (congrArg S hi) t h
theorem Pre.exs(o:Pre A p)(hnt:Γ.nt=nt)(hN:∀d,d<depth K0→N1 d=N d)(S:St)(e:S=uL)(t:AW Tryz.prog Γ c' (KQ Tryz.prog Γ N (k.qq Tryz.prog fn) K') uL)(hd:depth K'=depth K0:=by kernel_rfl)(h:go Tryz.prog (k.rf Tryz.prog fn) nt 2000 (.run c) K st A=some (.at_ c' K' S,p):=by kernel_rfl):
 AW Tryz.prog Γ c (KQ Tryz.prog Γ N1 (k.qq Tryz.prog fn) K) st:=UD (n:=2000) A _ hnt mix h o.h (aGa (K0:=K0) hd hN (by rw[e];exact t))
theorem Pre.ex(o:Pre A p)(hnt:Γ.nt=nt)(hN:∀d,d<depth K0→N1 d=N d)(t:AW Tryz.prog Γ c' (KQ Tryz.prog Γ N (k.qq Tryz.prog fn) K') uL)(hd:depth K'=depth K0:=by kernel_rfl)(h:go Tryz.prog (k.rf Tryz.prog fn) nt 2000 (.run c) K st A=some (.at_ c' K' uL,p):=by kernel_rfl):
 AW Tryz.prog Γ c (KQ Tryz.prog Γ N1 (k.qq Tryz.prog fn) K) st:=o.exs hnt hN _ rfl t hd h
theorem Pre.lps(o:Pre A p)(hnt:Γ.nt=nt){n:Nat}(S:St)(e:S=uL)(t:AWr Tryz.prog Γ c' (KQ Tryz.prog Γ N (k.qq Tryz.prog fn) K') n uL)(h:go Tryz.prog (k.rf Tryz.prog fn) nt 2000 (.run c) K st A=some (.lp c' K' S,p):=by kernel_rfl):
 AW Tryz.prog Γ c (KQ Tryz.prog Γ N (k.qq Tryz.prog fn) K) st:=UD (n:=2000) A _ hnt mix h o.h (aDx e (a92 t))
theorem Pre.lp(o:Pre A p)(hnt:Γ.nt=nt){n:Nat}(t:AWr Tryz.prog Γ c' (KQ Tryz.prog Γ N (k.qq Tryz.prog fn) K') n uL)(h:go Tryz.prog (k.rf Tryz.prog fn) nt 2000 (.run c) K st A=some (.lp c' K' uL,p):=by kernel_rfl):
 AW Tryz.prog Γ c (KQ Tryz.prog Γ N (k.qq Tryz.prog fn) K) st:=o.lps hnt _ rfl t h
end
abbrev lc(f:Func)(p:List Nat):Code:=(dig (FZ f) p []).1
abbrev lk'(f:Func)(p:List Nat):List Fr:=(dig (FZ f) p []).2
abbrev Ax(Γ:uK)(N:Nat→St→Prop)(f:Func)(k:Kd)(p:List Nat)(s:St):Prop:=AW Tryz.prog Γ (lc f p) (KQ Tryz.prog Γ N (k.qq Tryz.prog f) (lk' f p)) s
abbrev Ar(Γ:uK)(N:Nat→St→Prop)(f:Func)(k:Kd)(p:List Nat)(n:Nat)(s:St):Prop:=AWr Tryz.prog Γ (lc f (p++[0])) (KQ Tryz.prog Γ N (k.qq Tryz.prog f) (lk' f p)) n s
theorem gd{f:FuncId}{fn:Func}{ds:List D}{d:D}(hf:Tryz.prog.funcs[f]?=some fn)(nz:List (List (Option (Nat×Nat))))(nt:Nat)(h:(∀d∈ds,bR d)→∀Γ:uK,Γ.nt=nt→AW Tryz.prog Γ (FZ fn) (KQ Tryz.prog Γ (fun _ _=>False) ((Kd.q nz d).qq Tryz.prog fn) []) ⟨zA 0 ds,[]⟩)
 (hb:fn.body=some (FZ fn):=by kernel_rfl) (hn:(fn.name== "runtime.NumGoroutine")=false:=by kernel_rfl) (hl:Nat.ble ds.length fn.ntmps=true:=by kernel_rfl) (ht:fn.ntmps=nt:=by kernel_rfl):Good Tryz.prog f ds d:=
 Good.of hf hb hn (Nat.le_of_ble_eq_true hl) fun hr Γ hΓ=>h hr Γ (hΓ.trans ht)
theorem gdP{f:FuncId}{fn:Func}{cells cells' ds:List D}{d:D}(hf:Tryz.prog.funcs[f]?=some fn)(nz:List (List (Option (Nat×Nat))))(nt:Nat)(FX ds1:List D)(obs:List Ob)
 (h:(∀x∈(D.agg cells::ds).map D.shV,bR x)→∀(v0:Value) (Γ:uK),Γ.nt=nt→AW Tryz.prog Γ (FZ fn) (KQ Tryz.prog Γ (fun _ _=>False) ((Kd.p nz v0 cells' d).qq Tryz.prog fn) []) ⟨zA 0 (.ptr 0 0::ds1),.SI FX v0::obs⟩)
 (hI:DB 1 (.agg cells::ds)=(.agg FX::ds1,obs):=by kernel_rfl) (hb:fn.body=some (FZ fn):=by kernel_rfl) (hn:(fn.name== "runtime.NumGoroutine")=false:=by kernel_rfl) (hl:Nat.ble (ds1.length+1) fn.ntmps=true:=by kernel_rfl) (ht:fn.ntmps=nt:=by kernel_rfl):AD Tryz.prog f cells cells' ds d:=
 AD.of hf hb hn hI (Nat.le_of_ble_eq_true hl) fun hr v0 Γ hΓ=>h hr v0 Γ (hΓ.trans ht)
end Go.Cx

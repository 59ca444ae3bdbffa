/- Regions whose order is drawn, where operations that only compute float beside a chain that makes objects of objects: every order gives the state of the text's order. No condition; plain lemmas. -/
import Derived.Test.YtbeaohmbmfjabaaGreatDoorPConflictSetG2
import Derived.LoopN
import Derived.Test.YtbeaohmbmfjabaaGreatDoorProg
import Derived.KernelRfl
set_option linter.unusedVariables false
set_option linter.unusedSimpArgs false
namespace Go.Cx
open Go.RowKit
abbrev eL:=List An
section
variable{P:Program}{Γ:tY}{Q:Exit->St->Prop}{st:St}{κ:Nat->Option Value}{Θ:Nat->Nat}{a:Act}{w:World}{all:Array Oper}{X:aY}
def zv(X:aY)(H H':bS):Prop:=∀(i:Nat) o,i∉X->H[i]?=some o->H'[i]?=some o
theorem zv.refl{X:aY}(H:bS):zv X H H:=fun _ _ _ h=>h
theorem zv.trans{X:aY}{A B C:bS}(h:zv X A B)(k:zv X B C):zv X A C:=fun i o n e=>k i o n (h i o n e)
theorem zv.app{X:aY}{H H':bS}(h:zv X H H')(n:bS):zv X H (H'++n):=by
 intro i o hni hi;have:=h i o hni hi;rw[ax (aF.1 this).1,this]
theorem zv.cs{X:aY}{H H':bS}(h:zv X H H'){i:Nat}{cs:aQ}(hi:i∉X)(hc:(H[i]?).bind Ob.Wa=some cs):(H'[i]?).bind Ob.Wa=some cs:=by
 obtain⟨ob,hb,Ph⟩:=nD.1 hc;rw[h i ob hi hb];exact Ph
def DN(X:aY)(st:St):Op->Bool
 | .fieldAddr _ _ _=>true
 | .field _ _ _=>true
 | .extract _ _=>true
 | .move _=>true
 | .binOp _ _ _ _ _=>true
 | .unOp _ _ _=>true
 | .nilCheck _=>true
 | .convert _ _ _=>true
 | .index _ _ _=>true
 | .build _ _=>true
 | .indexAddr _ x _=>(match st.ev x with| .sl _=>true| .acc id=> !X.contains id|_=>false)
 | .load _ x=>(match st.ev x with| .ep _ _=>true| .ptr id _=> !X.contains id| .op id _ _ _=> !X.contains id|_=>false)
 |_=>false
theorem a0Q{X:aY}{σ σ':List (Nat×D)}{H H':bS}{op:Op}{d:D}(hx:zv X H H')(hs:DN X ⟨σ,H⟩ op=true)(he:∀x∈op.operands.toList,St.ev ⟨σ,H⟩ x=St.ev ⟨σ',H'⟩ x)(h:pv P ⟨σ,H⟩ op=some d):pv P ⟨σ',H'⟩ op=some d:=by
 cases op<;>simp only[DN,zo]at hs<;>simp only[pv]at h⊢
 case move x=>rw[he x (by simp[Op.operands])]at*;exact h
 case nilCheck x=>rw[he x (by simp[Op.operands])]at h;exact h
 case binOp op t x y t'=>rw[he x (by simp[Op.operands]),he y (by simp[Op.operands])]at h;exact h
 case unOp op t x=>cases op<;>simp only[pv]at h⊢ <;>(try cases h)<;>(rw[he x (by simp[Op.operands])]at h;exact h)
 case convert s d x=>rw[he x (by simp[Op.operands])]at h;exact h
 case field t x f=>rw[he x (by simp[Op.operands])]at h;exact h
 case fieldAddr t x f=>rw[he x (by simp[Op.operands])]at h;exact h
 case indexAddr t x i=>
  rw[he x (by simp[Op.operands])]at hs;rw[he x (by simp[Op.operands]),he i (by simp[Op.operands])]at h;split at hs
  ·rename_i rows h0;rw[h0]at h⊢;generalize GW P t=a at h⊢;generalize St.ev ⟨σ',H'⟩ i=b at h⊢;cases a<;>cases b<;>exact h
  ·rename_i id h0;rw[h0]at h⊢;generalize GW P t=a at h⊢;generalize St.ev ⟨σ',H'⟩ i=b at h⊢;cases a<;>cases b<;>first|exact h|skip
   dsimp only at h⊢;cases hH:H[id]? with
   |none=>rw[hH]at h;cases h
   |some o=>rw[hx id o (by simpa using hs) hH];rw[hH]at h;exact h
  ·cases hs
 case load t x=>
  rw[he x (by simp[Op.operands])]at hs h;split at hs
  ·rename_i row off h0;rw[h0]at h⊢;generalize Aj P t=a at h⊢;cases a<;>exact h
  ·rename_i id off h0;rw[h0]at h⊢;generalize Aj P t=a at h⊢;cases a
   ·exact h
   ·dsimp only at h⊢;split at h
    ·rename_i cells hH;simp only[hx.cs (by simpa using hs) hH];exact h
    ·cases h
  ·rename_i id i sz off h0;rw[h0]at h⊢;generalize Aj P t=a at h⊢;cases a
   ·exact h
   ·dsimp only at h⊢;cases hH:H[id]? with
    |none=>rw[hH]at h;cases h
    |some o=>rw[hx id o (by simpa using hs) hH];rw[hH]at h;exact h
  ·cases hs
 case extract x i=>rw[he x (by simp[Op.operands])]at h;exact h
 case index t x i=>rw[he x (by simp[Op.operands]),he i (by simp[Op.operands])]at h;exact h
 case build t parts=>
  have:(parts.toList.map fun p=>(p.1,St.ev ⟨σ,H⟩ p.2))=parts.toList.map fun p=>(p.1,St.ev ⟨σ',H'⟩ p.2):=by
   apply o6;intro p hp;rw[he p.2 (by simp only[Op.operands];simp;exact⟨p.1,by simpa using hp⟩)]
  rw[this]at h;exact h
def Tm(xs acc:aY):aY:=xs.foldl (fun acc x=>bif acc.contains x then acc else x::acc) acc
theorem UQ:∀ {xs acc:aY} {x:Nat},x∈Tm xs acc->x∈xs\/x∈acc:=by
 intro xs
 induction xs with
 |nil=>intro acc x h;exact .inr h
 |cons y ys ih=>
  intro acc x h;rcases ih (acc:=bif acc.contains y then acc else y::acc) h with h|h
  ·exact .inl (by simp[h])
  ·cases hc:acc.contains y with
   |true=>rw[hc]at h;exact .inr h
   |false=>
    rw[hc]at h;rcases bI.1 h with rfl|h
    ·exact .inl (by simp)
    ·exact .inr h
def a2p(acc:List aY)(es:List Edge):aY:=es.foldl (fun d e=>bif Region.binds .any e then Tm (e.on::acc.getD e.on []) d else d) []
theorem X2{acc:List aY}{es:List Edge}{i:Nat}(h:i∈a2p acc es):∃e∈es,Region.binds .any e=true/\(i=e.on\/i∈acc.getD e.on []):=by
 have key:∀(es:List Edge) (d:aY),i∈es.foldl (fun d e=>bif Region.binds .any e then Tm (e.on::acc.getD e.on []) d else d) d->i∈d\/∃e∈es,Region.binds .any e=true/\(i=e.on\/i∈acc.getD e.on []):=by
  intro es
  induction es with
  |nil=>intro d h;exact .inl h
  |cons e es ih=>
   intro d h;rcases ih _ h with h|⟨e',h1,h2⟩
   ·cases hb:Region.binds .any e with
    |false=>simp only[hb,af]at h;exact .inl h
    |true=>
     simp only[hb,aU]at h;rcases UQ h with h|h
     ·exact .inr ⟨e,by simp,hb,by simpa using h⟩
     ·exact .inl h
   ·exact .inr ⟨e',by simp[h1],h2⟩
 rcases key es [] h with h|h
 ·cases h
 ·exact h
def Kz(acc:List aY)(o:Oper):List aY:=acc++[a2p acc o.after.toList]
def Tu(ops:List Oper):List aY:=ops.foldl Kz []
theorem a1U{ops:Array Oper}{listed:Array Bool}(closed:∀(j:Nat) oj,ops[j]?=some oj->listed.getD j false=true->∀e∈oj.after,Region.binds .any e=true->listed.getD e.on false=true):
 ∀(l pre:List Oper) (acc:List aY),ops.toList=pre++l->acc.length=pre.length->
  (∀(j:Nat) o,ops[j]?=some o->(∀e∈o.after,Region.binds .any e=true->listed.getD e.on false=true)->∀i∈acc.getD j [],listed.getD i false=true)->
  ∀(j:Nat) o,ops[j]?=some o->(∀e∈o.after,Region.binds .any e=true->listed.getD e.on false=true)->∀i∈(l.foldl Kz acc).getD j [],listed.getD i false=true:=by
 intro l
 induction l with
 |nil=>intro pre acc _ _ h;exact h
 |cons o l ih=>
  intro pre acc hl ha h;refine ih (pre++[o]) (Kz acc o) (by simp[hl]) (by simp[Kz,ha]) ?_;intro j oj hj hall i hi;unfold Kz at hi;rw[kI]at hi;rcases wT j acc.length with hlt|heq|hgt
  ·rw[ax hlt,<-kI]at hi;exact h j oj hj hall i hi
  ·subst heq;rw[bC (bR _),oH]at hi;simp only[Bi,xb]at hi;have ho:oj=o:=by
    rw[<-tX,hl,bC (by omega),ha,oH]at hj;simpa using hj.symm
   subst ho;obtain⟨e,he,hb,hi⟩:=X2 hi;have he':e∈oj.after:=by simpa using he
   have hel:=hall e he' hb;rcases hi with rfl|hi
   ·exact hel
   ·cases hoe:ops[e.on]? with
    |none=>
     have h1:e.on<acc.length:=by
      rcases dh e.on acc.length with h|h
      ·exact h
      ·rw[kI,cc h]at hi;cases hi
     have h2:ops.size<=e.on:=by simpa using hoe
     have h3:ops.size=pre.length+(l.length+1):=by rw[<-vA,hl];simp
     omega
    |some oe=>exact h e.on oe hoe (closed e.on oe hoe hel) i hi
  ·rw[cc (by simp;omega)]at hi;cases hi
theorem yQ{ops:Array Oper}{listed:Array Bool}(closed:∀(j:Nat) oj,ops[j]?=some oj->listed.getD j false=true->∀e∈oj.after,Region.binds .any e=true->listed.getD e.on false=true){j:Nat}(hj:j∈Region.ready .any ops listed){i:Nat}(hi:((Tu ops.toList).getD j []).contains i=true):listed.getD i false=true:=by
 obtain⟨_,o,ho,hall⟩:=mem_ready.1 hj;exact a1U closed ops.toList [] [] (by simp) rfl (by simp) j o ho hall i (List.contains_iff_mem.1 hi)
def YW(dp:List aY)(ops:Array Oper)(n m:Nat)(L:aY):Bool:=
 (decide (n<=m)&&decide (m<ops.size))&&
 (Region.seqB .any ops (ops.size-m) m (Array.replicate m true++Array.replicate (ops.size-m) false)&&
 (((List.range (ops.size-m)).all fun j=>(List.range m).all fun i=>(dp.getD (m+j) []).contains i)&&
 (((List.range (m-n)).all fun j=>(List.range (n+j)).all fun i=>(dp.getD (n+j) []).contains i||L.contains i)&&
 (((List.range m).all fun i=>match ops[i]? with|none=>false|some o=>o.after.all fun e=> !Region.binds .any e||decide (e.on<i))&&
 ((
  (List.range n).all fun i=>match ops[i]? with
  |none=>false
  |some o=>((o.looksAt ops).all fun t=>(List.range n).all fun j=>match ops[j]? with|some oj=> !(oj.dst==some t)||(decide (j<i)&&Region.waitsFor .any ops i j)|none=>true)&&
   (List.range n).all fun j=>j==i||(match ops[j]? with|some oj=> !(oj.dst==o.dst)||o.dst.isNone|none=>true))&&
 ((
  (List.range (m-n)).all fun j=>match ops[n+j]? with
  |none=>false
  |some o=>L.all fun i=>match ops[i]? with
   |none=>false
   |some oi=>(!(oi.dst==o.dst)&& !((oi.looksAt ops).any fun t=>o.dst==some t))&&((dp.getD (n+j) []).contains i|| !((o.looksAt ops).any fun t=>oi.dst==some t)))&&
 L.all fun i=>decide (i<n)&&(match ops[i]? with|some oi=>oi.guard.isNone&&oi.dst.isSome|none=>false)))))))
def Np(ops:Array Oper)(n m:Nat)(L:aY):Bool:=YW (Tu ops.toList) ops n m L
def Step(P:Program)(Γ:tY)(o:Oper)(st yX:St):Prop:=
 ∀κ Θ a w,dY Γ st κ Θ a w->o.wp P a w (fun a' w'=>∃κ' Θ',dY Γ yX κ' Θ' a' w') (fun e _ _=>e=.normal)
def Xu(P:Program)(Γ:tY)(X:aY)(K:St->Prop):List Oper->St->Prop
 | [],st=>K st
 |o::os,st=>∃yX,((∃t d,o.dst=some t/\t<Γ.nt/\yX.σ=(t,d)::st.σ)\/(o.dst=none/\yX.σ=st.σ))/\zv X st.H yX.H/\o.guard=none/\(∀cs b,o.op≠ .select cs b)/\Step P Γ o st yX/\Xu P Γ X K os yX
theorem TT{o:Oper}{a b:Act}{w:World}{K K2:Act->World->Prop}{Q1 Q2:Exit->Act->World->Prop}(hsel:∀cs b,o.op≠ .select cs b)(he:∀x∈o.op.operands,a.eval x=b.eval x)
 (hK:∀v w',K (b.put o.dst v) w'->K2 (a.put o.dst v) w') (hdf:∀d w',¬K ({b with defers:=d::b.defers}.put o.dst undef) w') (hQ:∀e c w',Q1 e c w'->e=.normal) (h:o.wp P b w K Q1):o.wp P a w K2 Q2:=by
 unfold Oper.wp at*;rw[execOp_congr o hsel he];generalize(execOp b.eval o).run P w=r at*;cases r with
 |ok n w'=>
  cases n with
  |value v=>exact hK _ _ h
  |skip=>exact hK _ _ h
  |defer d=>exact absurd h (hdf _ _)
  |enter f args=>
   refine Calls.mono h ?_;intro e w'' he;cases e with
   |returned v=>exact hK _ _ he
   |panicked c=>exact absurd (hQ _ _ _ he) (by simp)
   |outgrown=>
    obtain⟨a0,w0,hq⟩:=he;exact absurd (hQ _ _ _ hq) (by simp)
  |row r args=>exact Rows.mono h fun v w'' he=>hK _ _ he
  |_=>exact h.elim
 |halt x w'=>
  cases x with
  |panic u=>exact absurd (hQ _ _ _ h) (by simp)
  |_=>exact h.elim
theorem a58{l:List (Nat×D)}{σ:List (Nat×D)}(h:∀p∈l,p.2=.any){t:Nat}(ht:t∈l.map Prod.fst):lk (l++σ) t=.any:=by
 induction l with
 |nil=>cases ht
 |cons p l ih=>
  obtain⟨u,d⟩:=p;have hd:d=.any:=h (u,d) (by simp);subst hd;simp only[dA,lk];by_cases e:t=u
  ·rw[bX e]
  ·rw[bL e];refine ih (fun p hp=>h p (by simp[hp])) ?_;simp only[bD,bI]at ht;rcases ht with h|h
   ·exact absurd h e
   ·exact h
theorem Jl(a:Act){t u:Nat}(v:Value)(h:u≠t):(a.put (some t) v).tmps.getD u undef=a.tmps.getD u undef:=by
 show(a.tmps.setIfInBounds t v).getD u undef=_;simp[cI,sA h]
theorem LN(a:Act){t:Nat}(v:Value)(h:t<a.tmps.size):(a.put (some t) v).tmps.getD t undef=v:=by
 show(a.tmps.setIfInBounds t v).getD t undef=_;simp[cI,h]
theorem count_set{m i:Nat}{listed:Array Bool}(hi:i<m)(hsz:i<listed.size)(hl:listed.getD i false=false):((List.range m).filter fun j=> !(listed.setIfInBounds i true).getD j false).length+1=((List.range m).filter fun j=> !listed.getD j false).length:=by
 have Wl:((List.range m).filter fun j=> !(listed.setIfInBounds i true).getD j false)=((List.range m).filter fun j=> !listed.getD j false).erase i:=by
  have hnd:((List.range m).filter fun j=> !listed.getD j false).Nodup:=yC _ Bk;rw[hnd.erase_eq_filter,zq];apply B5;intro j _;by_cases e:j=i
  ·subst e;simp[hsz]
  ·rw[getD_set_ne false (sA e)];simp[e]
 have hmem:i∈(List.range m).filter fun j=> !listed.getD j false:=iL.2 ⟨bg.2 hi,by simp only[hl];rfl⟩
 have hpos:0<((List.range m).filter fun j=> !listed.getD j false).length:=CZ hmem;rw[Wl,qL hmem];omega
def YA(P:Program)(Γ:tY)(X:aY)(l:List Oper)(σF:List (Nat×D))(H0:bS)(i:Nat):Prop:=
 ∃o t d,l.toArray[i]?=some o/\o.guard=none/\o.dst=some t/\t<Γ.nt/\lk σF t=d/\∀σ' H',zv X H0 H'->(∀u∈o.looksAt l.toArray,lk σ' u=lk σF u)->pv P ⟨σ',H'⟩ o.op=some d
theorem S5{l:List Oper}{n m:Nat}{L:aY}{σF:List (Nat×D)}{H0:bS}(hB:Np l.toArray n m L=true)(a2w:∀i∈L,YA P Γ X l σF H0 i):
 ∀(f c:Nat) (S:St) (listed:Array Bool) (σ':List (Nat×D)) (κ:Nat->Option Value) (Θ:Nat->Nat) (a:Act) (w:World),HeadInv .any l.toArray l.toArray.size listed->
  (∀i,i<n->i∉L->listed.getD i false=true)->n+c<=m->(∀i,n<=i->i<n+c->listed.getD i false=true)->(∀i,n+c<=i->i<l.toArray.size->listed.getD i false=false)->
  ((List.range m).filter fun i=> !listed.getD i false).length=f->
  (∀t,(∀(i:Nat) o,l.toArray[i]?=some o->n<=i->i<n+c->o.dst≠some t)->lk S.σ t=lk σF t)->zv X H0 S.H->
  Xu P Γ X (fun ve=>AO P Γ l.toArray (l.drop m) Q ve) ((l.drop (n+c)).take (m-(n+c))) S->
  (∀t,(∀i∈L,∀o,l.toArray[i]?=some o->listed.getD i false=false->o.dst≠some t)->lk σ' t=lk S.σ t)->
  dY Γ ⟨σ',S.H⟩ κ Θ a w->
  wpAny P .any l.toArray (fun e a' w'=>∃ve κ' Θ',dY Γ ve κ' Θ' a' w'/\Q e ve) (f+(l.toArray.size-m)) listed a w:=by
 simp only[Np,YW,aZ,bM]at hB;obtain⟨⟨hnm,QW⟩,a1c,Yv,hmid,Yi,Yk,Yr,hL⟩:=hB;have a8w:∀i,i<m->∃o,l.toArray[i]?=some o/\∀e∈o.after,Region.binds .any e=true->e.on<i:=by
  intro i hi;have:=b8.1 Yi i (bg.2 hi);split at this
  ·cases this
  ·rename_i o ho;refine⟨o,ho,fun e he hb=>?_⟩;have:=vl.1 this e he;simpa[hb]using this
 have G7:∀i∈L,i<n:=by
  intro i hi;have:=b8.1 hL i hi;simp only[aZ,bM]at this;exact this.1
 have SM:∀(i:Nat) o,i<n->l.toArray[i]?=some o->∀u∈o.looksAt l.toArray,∀(j:Nat) oj,j<n->l.toArray[j]?=some oj->oj.dst=some u->j<i/\Region.waitsFor .any l.toArray i j=true:=by
  intro i o hi ho u hu j oj hj yR hd;have:=b8.1 Yk i (bg.2 hi);simp only[ho,aZ]at this;have:=b8.1 (b8.1 this.1 u hu) j (bg.2 hj);simpa[yR,hd]using this
 have LI:∀(j:Nat) o,n<=j->j<m->l.toArray[j]?=some o->∀i∈L,∀oi,l.toArray[i]?=some oi->oi.dst≠o.dst/\(∀u∈oi.looksAt l.toArray,o.dst≠some u)/\(((Tu l.toArray.toList).getD j []).contains i=true\/∀u∈o.looksAt l.toArray,oi.dst≠some u):=by
  intro j o IC hj2 ho i hi oi hoi;have:=b8.1 Yr (j-n) (bg.2 (by omega));rw[show n+(j-n)=j from by omega]at this;simp only[ho]at this;have:=b8.1 this i hi;simp only[hoi,aZ,pZ,nq]at this;obtain⟨⟨h1,h2⟩,h3⟩:=this;refine⟨by simpa using h1,fun u hu he=>?_,h3.imp id fun h u hu he=>?_⟩
  ·have:=List.any_eq_false.1 h2 u hu;simp[he]at this
  ·have:=List.any_eq_false.1 h u hu;simp[he]at this
 intro f
 induction f with
 |zero=>
  intro c S listed σ' κ Θ a w inv hN hc hM hT oJ hS hX hA hag hs;have hall:∀i,i<m->listed.getD i false=true:=by
   intro i hi;have h0:=cW oJ;cases hl:listed.getD i false with
   |true=>rfl
   |false=>
    have:i∈(List.range m).filter fun i=> !listed.getD i false:=iL.2 ⟨bg.2 hi,by simp only[hl];rfl⟩
    rw[h0]at this;cases this
  have hcm:n+c=m:=by
   rcases dh (n+c) m with h|h
   ·have h1:=hall (n+c) h;rw[hT (n+c) (bR _) (by omega)]at h1;cases h1
   ·omega
  have Yn:listed=Array.replicate m true++Array.replicate (l.toArray.size-m) false:=by
   apply Array.ext
   ·rw[inv.size];simp at QW⊢;omega
   ·intro i h1 h2;by_cases hi:i<m
    ·have:=hall i hi;rw[Ao (by simpa using hi)];simp[h1]at this;simp[this]
    ·have hi':i<l.toArray.size:=by rw[<-inv.size];exact h1
     have:=hT i (by omega) hi';rw[zn (by simpa using hi)];simp[h1]at this;simp[this]
  rw[cg];rw[hcm,oH,List.take_zero]at hA;have hA:AO P Γ l.toArray (l.drop m) Q S:=hA;have hs2:=dY.same (st:=⟨σ',S.H⟩) (σ':=S.σ) (fun t=>hag t (fun i hi o ho hl=>by rw[hall i (by have:=G7 i hi;omega)]at hl;cases hl)) hs;have hwp:=hA κ Θ a w hs2;have hdl:(l.drop m).length=l.toArray.size-m:=by simp
  have:=wpAny_of_seq (md:=.any) (l.drop m) m listed a w (fun j=>by simp[eD]) (by rw[hdl,Yn];exact a1c) hwp
  rwa[hdl]at this
 |succ f ih=>
  intro c S listed σ' κ Θ a w inv hN hc hM hT oJ hS hX hA hag hs;have hun:∃i,i<m/\listed.getD i false=false:=by
   have hne:((List.range m).filter fun i=> !listed.getD i false)≠[]:=by
    intro h0;rw[h0]at oJ;simp at oJ
   obtain⟨i,hi⟩:=ur _ hne;obtain⟨h1,h2⟩:=iL.1 hi;exact⟨i,bg.1 h1,by simpa using h2⟩
  have hsz:=inv.size;rw[show f+1+(l.toArray.size-m)=(f+(l.toArray.size-m))+1 from by omega];refine⟨fun h0=>?_,fun i hi=>?_⟩
  ·exfalso;obtain⟨i,⟨hin,U9⟩,hmin⟩:=exists_least (p:=fun i=>i<m/\listed.getD i false=false) hun;obtain⟨o,ho,hed⟩:=a8w i hin;have:i∈Region.ready .any l.toArray listed:=by
    refine mem_ready.2 ⟨getD_in (by rw[hsz];omega) U9,o,ho,fun e he hb=>?_⟩;have:=hed e he hb;cases hl:listed.getD e.on false with
    |true=>rfl
    |false=>have:=hmin e.on ⟨by omega,hl⟩;omega
   rw[h0]at this;cases this
  ·obtain⟨i0,hi0,hl0⟩:=hun;obtain⟨U9,o,ho,hall⟩:=mem_ready.1 hi;have BV:=getD_both U9;have DF:i<l.toArray.size:=(bH.1 ho).1;have him:i<m:=by
    rcases dh i m with h|h
    ·exact h
    ·have h1:=b8.1 Yv (i-m) (bg.2 (by omega));have h2:=b8.1 h1 i0 (bg.2 hi0);rw[show m+(i-m)=i from by omega]at h2;rw[yQ inv.closed hi h2]at hl0;cases hl0
   have Wl:=count_set him (by rw[hsz];exact DF) BV;have rp:∀(j:Nat),(listed.setIfInBounds i true).getD j false=true↔(j=i\/listed.getD j false=true):=by
    intro j;by_cases e:i=j
    ·subst e;have:i<listed.size:=by rw[hsz];exact DF
     simp[this]
    ·rw[getD_set_ne false e];constructor
     ·exact .inr
     ·rintro(rfl|h)
      ·exact absurd rfl e
      ·exact h
   have aAr:∀(j:Nat),(listed.setIfInBounds i true).getD j false=false->j≠i/\listed.getD j false=false:=by
    intro j h;refine⟨fun e=>?_,?_⟩
    ·have:=(rp j).2 (.inl e);rw[this]at h;cases h
    ·cases h2:listed.getD j false with
     |false=>rfl
     |true=>have:=(rp j).2 (.inr h2);rw[this]at h;cases h
   rcases dh i n with hin|hin
   ·
    have hiL:i∈L:=by
     by_cases h:i∈L
     ·exact h
     ·rw[hN i hin h]at BV;cases BV
    obtain⟨o',t,d,ho',hg,hd,htn,hdF,hpv⟩:=a2w i hiL;rw[ho]at ho';cases ho';have SO:∀u∈o.looksAt l.toArray,lk σ' u=lk σF u:=by
     intro u hu;rw[hag u,hS u]
     ·intro j oj yR IC hj2 he;exact(LI j oj IC (by omega) yR i hiL o ho).2.1 u hu he
     ·intro j hj oj yR hlj he;obtain⟨h1,h2⟩:=SM i o hin ho u hu j oj (G7 j hj) yR he;obtain⟨o2,ho2,e,Jg,hb,hon⟩:=Region.waitsFor_spec h2;rw[ho]at ho2;cases ho2;have:=hall e Jg hb;rw[hon,hlj]at this;cases this
    have hp:=hpv σ' S.H hX SO;obtain⟨v,bs,hrun,hrd,hz⟩:=GD (st:=⟨σ',S.H⟩) hs hp;refine Ak ho (by simp[Region.wanted,hg]) ?_;unfold Oper.wp;rw[hrun,Oper.upon_value,hd];refine ih c S (listed.setIfInBounds i true) ((t,d)::σ') κ Θ _ w (inv.set hi DF) ?_ hc ?_ ?_ (by omega) hS hX hA ?_ (hs.set (st:=⟨σ',S.H⟩) htn hrd hz)
    ·intro j hj hjL;exact(rp j).2 (.inr (hN j hj hjL))
    ·intro j IC hj2;exact(rp j).2 (.inr (hM j IC hj2))
    ·intro j IC hj2;rw[getD_set_ne false (by omega)];exact hT j IC hj2
    ·intro u hu;simp only[lk];by_cases e:u=t
     ·rw[bX e,e,hS t,hdF];intro j oj yR IC hj2 he;exact(LI j oj IC (by omega) yR i hiL o ho).1 (by rw[hd,he])
     ·rw[bL e];refine hag u fun j hj oj yR hlj he=>?_
      by_cases hji:j=i
      ·subst hji;rw[ho]at yR;cases yR;rw[hd]at he;cases he;exact e rfl
      ·exact hu j hj oj yR (by rw[getD_set_ne false (sA hji)];exact hlj) he
   ·
    have hic:i=n+c:=by
     rcases wT i (n+c)with h|h|h
     ·rw[hM i hin h]at BV;cases BV
     ·exact h
     ·have h1:=b8.1 hmid (i-n) (bg.2 (by omega));rw[show n+(i-n)=i from by omega]at h1;have h2:=b8.1 h1 (n+c) (bg.2 h);simp only[nq]at h2;rcases h2 with h2|h2
      ·have:=yQ inv.closed hi h2;rw[hT (n+c) (bR _) (by omega)]at this;cases this
      ·have:=G7 (n+c) (by simpa using h2);omega
    subst hic;have Yh:(l.drop (n+c)).take (m-(n+c))=o::(l.drop (n+(c+1))).take (m-(n+(c+1))):=by
     have h1:l[n+c]?=some o:=by simpa using ho
     have h2:(n+c)<l.length:=(aF.1 h1).1;have h3:l[n+c]=o:=(aF.1 h1).2;rw[uo h2,h3,show m-(n+c)=(m-(n+(c+1)))+1 from by omega,vB];rfl
    rw[Yh]at hA;obtain⟨S1,QU,hX1,hgm,hsel,hstep,hA1⟩:=hA;have a9W:∀u,o.dst≠some u->lk S1.σ u=lk S.σ u:=by
     intro u hu;rcases QU with⟨tm,dm,hdm,htm,a4h⟩|⟨_,a4h⟩
     ·rw[a4h];simp only[lk];rw[bL (fun e=>hu (by rw[hdm,e]))]
     ·rw[a4h]
    have a6m:∀(b:Act) (v:Value),(b.put o.dst v).tmps.size=b.tmps.size:=by
     intro b v;rcases QU with⟨tm,dm,hdm,_,_⟩|⟨hdm,_⟩
     ·rw[hdm];show(b.tmps.setIfInBounds tm v).size=_;simp
     ·rw[hdm];rfl
    have a6l:∀(b:Act) (v:Value),(b.put o.dst v).defers=b.defers:=by
     intro b v;cases o.dst<;>rfl
    have fill:∀k,k<=n->∃(ak:Act) (σk:List (Nat×D)),dY Γ ⟨σk,S.H⟩ κ Θ ak w/\(∀u,(∀j∈L,∀oj,l.toArray[j]?=some oj->listed.getD j false=false->k<=j->oj.dst≠some u)->lk σk u=lk S.σ u)/\
     (∀u,(∀j∈L,∀oj,l.toArray[j]?=some oj->listed.getD j false=false->oj.dst≠some u)->ak.tmps.getD u undef=a.tmps.getD u undef):=by
     intro k
     induction k with
     |zero=>intro _;exact⟨a,σ',hs,fun u hu=>hag u (fun j hj oj yR hl=>hu j hj oj yR hl (EY _)),fun _ _=>rfl⟩
     |succ k ihk=>
      intro hk;obtain⟨ak,σk,hsk,a4F,hek⟩:=ihk (by omega);by_cases hkl:k∈L/\listed.getD k false=false
      ·obtain⟨hkL,hkF⟩:=hkl;obtain⟨ok,t,d,hok,hg,hd,htn,hdF,hpv⟩:=a2w k hkL;have SO:∀u∈ok.looksAt l.toArray,lk σk u=lk σF u:=by
        intro u hu;rw[a4F u,hS u]
        ·intro j oj yR IC hj2 he;exact(LI j oj IC (by omega) yR k hkL ok hok).2.1 u hu he
        ·intro j hj oj yR hlj hkj he;obtain⟨h1,h2⟩:=SM k ok (by omega) hok u hu j oj (G7 j hj) yR he;omega
       have hp:=hpv σk S.H hX SO;obtain⟨v,bs,hrun,hrd,hz⟩:=GD (st:=⟨σk,S.H⟩) hsk hp;refine⟨ak.put (some t) v,(t,d)::σk,hsk.set (st:=⟨σk,S.H⟩) htn hrd hz,?_,?_⟩
       ·intro u hu;simp only[lk];by_cases e:u=t
        ·rw[bX e,e,hS t,hdF];intro j oj yR IC hj2 he;exact(LI j oj IC (by omega) yR k hkL ok hok).1 (by rw[hd,he])
        ·rw[bL e];refine a4F u fun j hj oj yR hlj hkj he=>?_
         by_cases hjk:j=k
         ·subst hjk;rw[hok]at yR;cases yR;rw[hd]at he;cases he;exact e rfl
         ·exact hu j hj oj yR hlj (by omega) he
       ·intro u hu;rw[Jl _ _ (fun e=>hu k hkL ok hok hkF (by rw[hd,e])),hek u hu]
      ·refine⟨ak,σk,hsk,fun u hu=>a4F u fun j hj oj yR hlj hkj=>?_,hek⟩;by_cases hjk:j=k
       ·subst hjk;exact absurd ⟨hj,hlj⟩ hkl
       ·exact hu j hj oj yR hlj (by omega)
    obtain⟨an,σn,hsn,a97,hen⟩:=fill n (bR _);have hsS:=dY.same (st:=⟨σn,S.H⟩) (σ':=S.σ) (fun u=>a97 u (fun j hj oj yR _ hnj=>by have:=G7 j hj;omega)) hsn;have hwp:=hstep κ Θ an w hsS;refine Ak ho (by simp[Region.wanted,hgm]) (TT (Q2:=_) hsel ?_ ?_ ?_ (fun e _ _ h=>h) hwp)
    ·intro x hx;cases x with
     |tmp u=>
      refine(hen u fun j hj oj yR hlj he=>?_).symm;have hu:u∈o.looksAt l.toArray:=by
       unfold Oper.looksAt;exact aj.2 (.inl (cD.2 ⟨.tmp u,by simpa using hx,rfl⟩))
      rcases(LI (n+c) o (by omega) him ho j hj oj yR).2.2 with h|h
      ·rw[yQ inv.closed hi h]at hlj;cases hlj
      ·exact h u hu he
     |const v=>rfl
     |global g=>rfl
     |func f=>rfl
    ·rintro v w' ⟨κ',Θ',hs'⟩;let late:List (Nat×D):=(L.filterMap fun j=>bif listed.getD j false then none else(l.toArray[j]?).bind (·.dst)).map fun u=>(u,D.any)
     have SN:∀u,u∈late.map Prod.fst↔∃j∈L,∃oj,l.toArray[j]?=some oj/\listed.getD j false=false/\oj.dst=some u:=by
      intro u;simp only[late,Ca,cC,cD,Function.comp];constructor
      ·rintro⟨x,⟨j,hj,hx⟩,rfl⟩;cases hl:listed.getD j false with
       |true=>rw[hl]at hx;cases hx
       |false=>
        rw[hl,af]at hx;cases yR:l.toArray[j]? with
        |none=>rw[yR]at hx;cases hx
        |some oj=>rw[yR]at hx;exact⟨j,hj,oj,yR,hl,hx⟩
      ·rintro⟨j,hj,oj,yR,hl,hx⟩;exact⟨u,⟨j,hj,by rw[hl,af,yR];exact hx⟩,rfl⟩
     have hs2:dY Γ ⟨late++S1.σ,S1.H⟩ κ' Θ' (a.put o.dst v) w':=by
      refine⟨by rw[a6l];exact hs.defers,by rw[a6m];exact hs.size,hs'.qI,hs'.pM,?_,hs'.ob,hs'.own,hs'.old,hs'.mine,hs'.stays,hs'.ud⟩;intro u;show∃bs,sD w' κ' _ (lk (late++S1.σ) u) bs/\_;by_cases hu:u∈late.map Prod.fst
      ·rw[a58 (fun p hp=>by simp only[late,cC]at hp;obtain⟨_,_,rfl⟩:=hp;rfl) hu];exact⟨[],.of (.any _),by simp⟩
      ·rw[G9 _ _ _ (fun p hp e=>hu (cC.2 ⟨p,hp,e⟩))];have e1:(a.put o.dst v).tmps.getD u undef=(an.put o.dst v).tmps.getD u undef:=by
        have e0:=(hen u fun j hj oj yR hlj he=>hu ((SN u).2 ⟨j,hj,oj,yR,hlj,he⟩)).symm;rcases QU with⟨tm,dm,hdm,htm,_⟩|⟨hdm,_⟩
        ·rw[hdm];by_cases e:u=tm
         ·subst e;rw[LN _ _ (by rw[hs.size];exact htm),LN _ _ (by rw[hsn.size];exact htm)]
         ·rw[Jl _ _ e,Jl _ _ e];exact e0
        ·rw[hdm];exact e0
       rw[e1];exact hs'.slot u
     refine ih (c+1) S1 (listed.setIfInBounds (n+c) true) (late++S1.σ) κ' Θ' _ w' (inv.set hi DF) ?_ (by omega) ?_ ?_ (by omega) ?_ (hX.trans hX1) hA1 ?_ hs2
     ·intro j hj hjL;exact(rp j).2 (.inr (hN j hj hjL))
     ·intro j IC hj2;by_cases e:j=n+c
      ·exact(rp j).2 (.inl e)
      ·exact(rp j).2 (.inr (hM j IC (by omega)))
     ·intro j IC hj2;rw[getD_set_ne false (by omega)];exact hT j (by omega) hj2
     ·intro u hu;rw[a9W u (hu (n+c) o ho (by omega) (by omega))];exact hS u fun j oj yR IC hj2=>hu j oj yR IC (by omega)
     ·intro u hu;rw[G9];intro p hp e;obtain⟨j,hj,oj,yR,hl,he⟩:=(SN u).1 (cC.2 ⟨p,hp,e⟩);refine hu j hj oj yR ?_ he;rw[getD_set_ne false (by have:=G7 j hj;omega)];exact hl
    ·rintro d w' ⟨κ',Θ',hs'⟩;have:=hs'.defers;cases hod:o.dst<;>rw[hod]at this<;>cases this
theorem Ml{p:Nat->Bool}{n:Nat}:∀(k:Nat),(∀i,n<=i->i<n+k->p i=true)->((List.range (n+k)).filter p).length=((List.range n).filter p).length+k
 |0,_=>rfl
 |k+1,h=>by
  rw[<-qM,List.range_succ,List.filter_append,aS,Ml k (fun i h1 h2=>h i h1 (by omega))];have:p (n+k)=true:=h (n+k) (by omega) (by omega);simp[this];omega
def PW(P:Program)(Γ:tY)(ops:Array Oper)(Q:Exit->St->Prop)(st:St):Prop:=
 ∀κ Θ a w,dY Γ st κ Θ a w->wpAny P .any ops (fun e a' w'=>∃ve κ' Θ',dY Γ ve κ' Θ' a' w'/\Q e ve) ops.size (Array.replicate ops.size false) a w
theorem PW.aw{id:Nat}{ops:Array Oper}(hm:P.follows .mixedOrders=true)(h:PW P Γ ops Q st):AW P Γ (.region id ops true) Q st:=
 fun κ Θ a w hs=>wp_region_any hm (h κ Θ a w.drew hs.drew)
theorem WR{l:List Oper}(n m:Nat)(L:aY)(hB0:Np l.toArray n m L=true)
 (h:MV P Γ l.toArray st.H (fun σ acc=>(∀i∈L,∀o,l[i]?=some o->DN X ⟨σ,st.H⟩ o.op=true)/\Xu P Γ X (fun ve=>AO P Γ l.toArray (l.drop m) Q ve) ((l.drop n).take (m-n)) ⟨σ,st.H++acc⟩) (l.take n) st.σ [] []):PW P Γ l.toArray Q st:=by
 have hB:=hB0;simp only[Np,YW,aZ,bM]at hB;obtain⟨⟨hnm,QW⟩,a1c,Yv,hmid,Yi,Yk,Yr,hL⟩:=hB;have hn:n<l.toArray.size:=by omega
 have Ma:((List.range n).all fun i=>match l.toArray[i]? with
  |none=>false
  |some o=>(o.after.all fun e=> !Region.binds .any e||decide (e.on<i))&&
   ((o.looksAt l.toArray).all fun t=>(List.range n).all fun j=>match l.toArray[j]? with|some oj=> !(oj.dst==some t)||(decide (j<i)&&Region.waitsFor .any l.toArray i j)|none=>true)&&
   (List.range n).all fun j=>j==i||(match l.toArray[j]? with|some oj=> !(oj.dst==o.dst)||o.dst.isNone|none=>true))=true:=by
  rw[b8];intro i hi;have h1:=b8.1 Yi i (bg.2 (by have:=bg.1 hi;omega));have h2:=b8.1 Yk i hi;cases ho:l.toArray[i]? with
  |none=>rw[ho]at h1;cases h1
  |some o=>
   simp only[ho,aZ]at h1 h2⊢;exact⟨⟨h1,h2.1⟩,h2.2⟩
 have G7:∀i∈L,i<n:=by
  intro i hi;have:=b8.1 hL i hi;simp only[aZ,bM]at this;exact this.1
 obtain⟨ps,N0,hlen,O0,⟨hstill,hK⟩,hFl,hFo,hFu⟩:=MV.unfold _ _ _ _ h;simp only[cL,bG,s9,cg]at O0 hK hFl hFo hstill;have hn':n<l.length:=by simpa using hn
 have hpl:ps.length=n:=by rw[hlen];simp;omega
 have hop:∀(i:Nat),i<n->∃o p,l.toArray[i]?=some o/\ps[i]?=some p/\o.dst=p.t/\uG P Γ l.toArray st.H (((ps.take i).filterMap Cp.sl).reverse++st.σ) o p/\p.r=st.H.length+((ps.take i).flatMap Cp.obs).length:=by
  intro i hi;have h1:l[i]?=some l[i]:=ah (by omega);have h2:ps[i]?=some ps[i]:=ah (by omega);have h3:=O0 i l[i] ps[i] (by rw[cQ,bX hi];exact h1) h2;exact⟨l[i],ps[i],by simp[lP,h1],h2,h3.1.slots,h3.1,h3.2.1⟩
 have UE:∀(i:Nat) p,ps[i]?=some p->p.r=st.H.length+((ps.take i).flatMap Cp.obs).length:=by
  intro i p hp;have hi:i<n:=by have:=(aF.1 hp).1;omega
  obtain⟨_,p',_,hp',_,_,hr⟩:=hop i hi;rw[hp]at hp';cases hp';exact hr
 have QX:∀(i:Nat) p id ob,ps[i]?=some p->p.up=some (id,ob)->st.H.length<=id/\(∃zs ds,ob=.box ds/\zs.length=ds.length/\((ps.take i).flatMap Cp.obs)[id-st.H.length]?=some (.box zs))/\∀(i2:Nat) q Bh,i2<i->ps[i2]?=some q->q.up≠some (id,Bh):=by
  intro i p id ob hp he;have hi:i<n:=by have:=(aF.1 hp).1;omega
  have h1:l[i]?=some l[i]:=ah (by omega);have h3:=(O0 i l[i] p (by rw[cQ,bX hi];exact h1) hp).2.2 id ob he;exact⟨h3.2.1,h3.2.2.1,h3.2.2.2⟩
 have Yx:∀(i j:Nat) p q id ob Bh,ps[i]?=some p->ps[j]?=some q->p.up=some (id,ob)->q.up=some (id,Bh)->i=j:=by
  intro i j p q id ob Bh hp hq he Jg;rcases wT i j with h|h|h
  ·exact absurd he ((QX j q id Bh hq Jg).2.2 i p ob h hp)
  ·exact h
  ·exact absurd Jg ((QX i p id ob hp he).2.2 j q Bh h hq)
 have Yy:∀(i:Nat) p id ob,ps[i]?=some p->p.up=some (id,ob)->p.obs=[]:=by
  intro i p id ob hp he;have hi:i<n:=by have:=(aF.1 hp).1;omega
  obtain⟨_,p',_,hp',_,hc,_⟩:=hop i hi;rw[hp]at hp';cases hp';rcases hc.a0Z with h|h
  ·rw[h]at he;cases he
  ·exact h
 have hfit:∀(i:Nat) p,ps[i]?=some p->p.r+p.obs.length<=st.H.length+(ps.flatMap Cp.obs).length:=by
  intro i p hp;rw[UE i p hp,qZ hp];simp only[aS];omega
 have QT:∀(i j:Nat) p q,ps[i]?=some p->ps[j]?=some q->i<j->p.r+p.obs.length<=q.r:=by
  intro i j p q hp hq hij;rw[UE i p hp,UE j q hq];have:=Ps hp hij;omega
 have hdist:∀(i j:Nat) p q t,ps[i]?=some p->ps[j]?=some q->p.t=some t->q.t=some t->i=j:=by
  intro i j p q t hp hq he1 Jg;have hi:i<n:=by have:=(aF.1 hp).1;omega
  have hj:j<n:=by have:=(aF.1 hq).1;omega
  obtain⟨oi,p',ho,hp',hdi,_⟩:=hop i hi;obtain⟨oj,q',yR,PL,hdj,_⟩:=hop j hj;rw[hp]at hp';cases hp';rw[hq]at PL;cases PL;have:=b8.1 Ma i (bg.2 hi);simp only[ho,aZ]at this;have:=b8.1 this.2 j (bg.2 hj);simp only[yR,hdi,hdj,he1,Jg,cu,bW,tF,Option.isNone_some,tF,cj]at this;exact this.symm
 have G4:∀(i:Nat) p t,ps[i]?=some p->p.t=some t->∀q∈ps.filterMap Cp.sl,q.1=t->q=(t,p.d):=by
  intro i p t hp hpt q hq he;obtain⟨q',PL,O5⟩:=cD.1 hq;obtain⟨j,hj,rfl⟩:=dl.1 PL;have Jx:ps[j]?=some ps[j]:=ah hj;unfold Cp.sl at O5;cases hpj:ps[j].t with
  |none=>rw[hpj]at O5;cases O5
  |some u=>
   rw[hpj]at O5;simp only[cV,ar]at O5;subst O5;simp only at he;subst he;have:=hdist j i _ p u Jx hp hpj hpt;subst this;rw[hp]at Jx;cases Jx;rfl
 have hlk:∀(i:Nat) (o:Oper),i<n->l.toArray[i]?=some o->∀t∈o.looksAt l.toArray,lk (((ps.take i).filterMap Cp.sl).reverse++st.σ) t=lk ((ps.filterMap Cp.sl).reverse++st.σ) t:=by
  intro i o hin ho t ht;have L5:=b8.1 Ma i (bg.2 hin);simp only[ho,aZ]at L5;have L5:=b8.1 L5.1.2 t ht;by_cases hex:∃(j:Nat) (q:Cp),ps[j]?=some q/\q.t=some t
  ·obtain⟨j,q,hq,NB⟩:=hex;have hj:j<n:=by have:=(aF.1 hq).1;omega
   obtain⟨oj,q',yR,PL,hdj,_⟩:=hop j hj;rw[hq]at PL;cases PL;have:=b8.1 L5 j (bg.2 hj);simp only[yR,hdj,NB,cu,bW,vJ,aZ,bM]at this;obtain⟨hji,_⟩:=this;rw[Jj (ps.filterMap Cp.sl).reverse st.σ (t,q.d) (by rw[dQ];exact cD.2 ⟨q,aC hq,by simp[Cp.sl,NB]⟩) (fun q2 Jx Jg=>G4 j q t hq NB q2 (by simpa using Jx) Jg)];refine Jj ((ps.take i).filterMap Cp.sl).reverse st.σ (t,q.d) ?_ (fun q2 Jx Jg=>G4 j q t hq NB q2 ?_ Jg)
   ·rw[dQ];exact cD.2 ⟨q,aC (i:=j) (by rw[cQ,bX hji];exact hq),by simp[Cp.sl,NB]⟩
   ·obtain⟨q3,UF,yS⟩:=cD.1 (dQ.1 Jx);exact cD.2 ⟨q3,cK UF,yS⟩
  ·have hno:∀q3∈ps,q3.t≠some t:=by
    intro q3 UF he;obtain⟨j,hj,hqj⟩:=dl.1 UF;exact hex ⟨j,q3,by rw[<-hqj];exact ah hj,he⟩
   have hsl:∀(qs:List Cp),(∀q3∈qs,q3.t≠some t)->∀p∈(qs.filterMap Cp.sl).reverse,p.1≠t:=by
    intro qs O5 p hp he;obtain⟨q3,UF,yS⟩:=cD.1 (dQ.1 hp);unfold Cp.sl at yS;cases hpt:q3.t with
    |none=>rw[hpt]at yS;cases yS
    |some u=>rw[hpt]at yS;simp only[cV,ar]at yS;subst yS;simp only at he;exact O5 q3 UF (by rw[hpt,he])
   rw[G9 _ _ _ (hsl _ hno),G9 _ _ _ (hsl _ (fun q3 UF=>hno q3 (cK UF)))]
 have a3A:∀i∈L,∃(o:Oper) (p:Cp),l.toArray[i]?=some o/\ps[i]?=some p/\p.obs=[]/\p.up=none/\YA P Γ X l ((ps.filterMap Cp.sl).reverse++st.σ) st.H i:=by
  intro i hi;have hin:=G7 i hi;have h1:=b8.1 hL i hi;obtain⟨o,p,ho,hp,hd,hc,_⟩:=hop i hin;simp only[ho,aZ]at h1;have hg:o.guard=none:=by simpa using h1.2.1
  have hst:=hstill i hi o (by simpa using ho);rcases hc with⟨t,hpt,VW,hdt,htn,hc⟩|⟨_,_,hdt,_⟩
  ·have hc:K3 P st.H (((ps.take i).filterMap Cp.sl).reverse++st.σ) o p:=by
    rcases hc with⟨_,hc⟩|⟨_,_,_,_,hg',_⟩|⟨_,_,_,hg',_⟩
    ·exact hc
    ·rw[hg]at hg';cases hg'
    ·rw[hg]at hg';cases hg'
   have hpv:pv P ⟨((ps.take i).filterMap Cp.sl).reverse++st.σ,st.H⟩ o.op=some p.d/\p.obs=[]:=by
    rcases hc with(hc|⟨f,xs,ts,ds,ms,d,UB,_⟩)| (⟨T,zs,UB,_⟩|⟨T,x,ds,UB,_⟩)|⟨T,e,sz,len,parts,zs,ds,es,UB,_⟩|⟨T,e,sz,len,parts,zs,ds,UB,_⟩
    ·exact hc
    all_goals(rw[UB]at hst;simp[DN]at hst)
   refine⟨o,p,ho,hp,hpv.2,VW,o,t,p.d,ho,hg,hdt,htn,?_,?_⟩
   ·exact Jj (ps.filterMap Cp.sl).reverse st.σ (t,p.d) (by rw[dQ];exact cD.2 ⟨p,aC hp,by simp[Cp.sl,hpt]⟩) (fun q2 Jx Jg=>G4 i p t hp hpt q2 (by simpa using Jx) Jg)
   ·intro σ' H' hX SO;have e1:pv P ⟨(ps.filterMap Cp.sl).reverse++st.σ,st.H⟩ o.op=some p.d:=Qy (fun _ _ h=>h) (Nr (st:=⟨_,st.H⟩) (ve:=⟨_,st.H⟩) (ops:=l.toArray) (o:=o) (fun t ht=>hlk i o hin ho t ht)) hpv.1;refine a0Q hX hst ?_ e1;intro x hx;rw[SC σ' H' st.H x];exact(Nr (st:=⟨σ',st.H⟩) (ve:=⟨_,st.H⟩) (ops:=l.toArray) (o:=o) (fun t ht=>SO t ht) x hx).symm
  ·have:o.dst.isSome=true:=h1.2.2;rw[hdt]at this;cases this
 intro κ Θ a w hs;have switch:∀(f:Nat) (listed:Array Bool) (σ':List (Nat×D)) (H':bS) (κ:Nat->Option Value) (Θ:Nat->Nat) (a:Act) (w:World),HeadInv .any l.toArray n listed->
  ((List.range n).filter fun i=> !listed.getD i false).length=f->
  (∀(i:Nat) p t,ps[i]?=some p->p.t=some t->listed.getD i false=true->lk σ' t=p.d)->
  (∀t,(∀(i:Nat) p,ps[i]?=some p->listed.getD i false=true->p.t≠some t)->lk σ' t=lk st.σ t)->
  H'.length=st.H.length+(ps.flatMap Cp.obs).length->Ext st.H H'->
  (∀(i:Nat) p,ps[i]?=some p->listed.getD i false=true->∀(j:Nat) o,p.obs[j]?=some o->(∀(i2:Nat) q ob,ps[i2]?=some q->listed.getD i2 false=true->q.up≠some (p.r+j,ob))->H'[p.r+j]?=some o)->
  (∀(i:Nat) q id ob,ps[i]?=some q->listed.getD i false=true->q.up=some (id,ob)->H'[id]?=some ob/\∃v,κ id=some v)->
  (∀(i:Nat) p,ps[i]?=some p->listed.getD i false=false->∀j,j<p.obs.length->κ (p.r+j)=none)->
  dY Γ ⟨σ',H'⟩ κ Θ a w->(∀i,i<n->i∉L->listed.getD i false=true)->
  wpAny P .any l.toArray (fun e a' w'=>∃ve κ' Θ',dY Γ ve κ' Θ' a' w'/\Q e ve) (f+(l.toArray.size-n)) listed a w:=by
  intro f listed σ' H' κ Θ a w inv oJ hA hB hHl Xn VU hHu VT hs hN;have a2s:∀(i:Nat) p,ps[i]?=some p->(p.up≠none\/p.obs≠[])->listed.getD i false=true:=by
   intro i p hp hne;have hi:i<n:=by have:=(aF.1 hp).1;omega
   refine hN i hi fun hiL=>?_
   obtain⟨_,p',_,hp',h1,h2,_⟩:=a3A i hiL;rw[hp]at hp';cases hp';rcases hne with h|h
   ·exact h h2
   ·exact h h1
  have MC:∀t,(∀i∈L,∀o,l.toArray[i]?=some o->listed.getD i false=false->o.dst≠some t)->lk σ' t=lk ((ps.filterMap Cp.sl).reverse++st.σ) t:=by
   intro t hno;by_cases hex:∃(i:Nat) (p:Cp),ps[i]?=some p/\p.t=some t
   ·obtain⟨i,p,hp,hpt⟩:=hex;have hi:i<n:=by have:=(aF.1 hp).1;omega
    have hli:listed.getD i false=true:=by
     cases hl:listed.getD i false with
     |true=>rfl
     |false=>
      obtain⟨o,p',ho,hp',hd,_⟩:=hop i hi;rw[hp]at hp';cases hp';by_cases hiL:i∈L
      ·exact absurd (by rw[hd,hpt]) (hno i hiL o ho hl)
      ·rw[hN i hi hiL]at hl;cases hl
    rw[hA i p t hp hpt hli];exact(Jj (ps.filterMap Cp.sl).reverse st.σ (t,p.d) (by rw[dQ];exact cD.2 ⟨p,aC hp,by simp[Cp.sl,hpt]⟩) (fun q hq he=>G4 i p t hp hpt q (by simpa using hq) he)).symm
   ·rw[hB t (fun i p hp _ he=>hex ⟨i,p,hp,he⟩),G9];intro q hq he;obtain⟨p,hp,hps⟩:=cD.1 (dQ.1 hq);obtain⟨i,hi,hpi⟩:=dl.1 hp;refine hex ⟨i,p,by rw[<-hpi];exact ah hi,?_⟩;unfold Cp.sl at hps;cases hpt:p.t with
    |none=>rw[hpt]at hps;cases hps
    |some u=>rw[hpt]at hps;simp only[cV,ar]at hps;subst hps;simp only at he;rw[he]
  have Yc:H'=st.H++N0:=by
   apply pg;intro k;by_cases h1:k<st.H.length
   ·rw[ax h1];exact Xn k _ (ah h1)|>.trans (ah h1).symm
   ·rw[bC (by omega)];by_cases hex:∃(i:Nat) (q:Cp) (ob:Ob),ps[i]?=some q/\q.up=some (k,ob)
    ·obtain⟨i,q,ob,hq,he⟩:=hex;rw[(hHu i q k ob hq (a2s i q hq (.inl (by rw[he];simp))) he).1,hFu i q k ob hq he]
    ·have hno:∀(i:Nat) q ob,ps[i]?=some q->q.up≠some (k,ob):=fun i q ob hq he=>hex ⟨i,q,ob,hq,he⟩
     rw[hFo (k-st.H.length) (fun i q ob hq=>by rw[show st.H.length+(k-st.H.length)=k from by omega];exact hno i q ob hq)];by_cases h2:k-st.H.length<(ps.flatMap Cp.obs).length
     ·obtain⟨i,p,j,hp,hj,hk⟩:=zf h2;have e3:p.r+j=k:=by rw[UE i p hp];omega
      have h3:=VU i p hp (a2s i p hp (.inr (by intro e;rw[e]at hj;simp at hj))) j _ (ah hj) (fun i2 q ob hq _=>by rw[e3];exact hno i2 q ob hq);rw[e3]at h3;rw[h3,qZ hp,hk,bC (by omega),dR,ax hj,ah hj]
     ·rw[cc (by omega),cc (by omega)]
  subst Yc;have hsz:=inv.size;have hcm:((List.range m).filter fun i=> !listed.getD i false).length=f+(m-n):=by
   have:=Ml (p:=fun i=> !listed.getD i false) (n:=n) (m-n) (fun i h1 h2=>by
    have:=getD_both (inv.tail i h1 (by omega));simp only[this];rfl)
   rw[show n+(m-n)=m from by omega]at this;rw[this,oJ]
  have:=S5 (Q:=Q) (H0:=st.H) hB0 (fun i hi=>by obtain⟨_,_,_,_,_,_,h⟩:=a3A i hi;exact h) (f+(m-n)) 0 ⟨(ps.filterMap Cp.sl).reverse++st.σ,st.H++N0⟩ listed σ' κ Θ a w
   ⟨hsz,inv.closed,fun t h1 h2=>absurd h2 (by omega)⟩ hN (by omega) (fun i h1 h2=>absurd h2 (by omega)) (fun i h1 h2=>getD_both (inv.tail i (by omega) h2)) hcm (fun _ _=>rfl)
   ((zv.refl _).app _) (by simpa using hK) MC hs
  rw[show f+(m-n)+(l.toArray.size-m)=f+(l.toArray.size-n)from by omega]at this;exact this
 have main:∀(f:Nat) (listed:Array Bool) (σ':List (Nat×D)) (H':bS) (κ:Nat->Option Value) (Θ:Nat->Nat) (a:Act) (w:World),HeadInv .any l.toArray n listed->
  ((List.range n).filter fun i=> !listed.getD i false).length=f->
  (∀(i:Nat) p t,ps[i]?=some p->p.t=some t->listed.getD i false=true->lk σ' t=p.d)->
  (∀t,(∀(i:Nat) p,ps[i]?=some p->listed.getD i false=true->p.t≠some t)->lk σ' t=lk st.σ t)->
  H'.length=st.H.length+(ps.flatMap Cp.obs).length->Ext st.H H'->
  (∀(i:Nat) p,ps[i]?=some p->listed.getD i false=true->∀(j:Nat) o,p.obs[j]?=some o->(∀(i2:Nat) q ob,ps[i2]?=some q->listed.getD i2 false=true->q.up≠some (p.r+j,ob))->H'[p.r+j]?=some o)->
  (∀(i:Nat) q id ob,ps[i]?=some q->listed.getD i false=true->q.up=some (id,ob)->H'[id]?=some ob/\∃v,κ id=some v)->
  (∀(i:Nat) p,ps[i]?=some p->listed.getD i false=false->∀j,j<p.obs.length->κ (p.r+j)=none)->
  dY Γ ⟨σ',H'⟩ κ Θ a w->
  wpAny P .any l.toArray (fun e a' w'=>∃ve κ' Θ',dY Γ ve κ' Θ' a' w'/\Q e ve) (f+(l.toArray.size-n)) listed a w:=by
  intro f
  induction f with
  |zero=>
   intro listed σ' H' κ Θ a w inv oJ hA hB hHl Xn VU hHu VT hs;have hall:∀i,i<n->listed.getD i false=true:=by
    intro i hi;have h0:=cW oJ;cases hl:listed.getD i false with
    |true=>rfl
    |false=>
     have:i∈(List.range n).filter fun i=> !listed.getD i false:=iL.2 ⟨bg.2 hi,by simp[hl]⟩
     rw[h0]at this;cases this
   exact switch 0 listed σ' H' κ Θ a w inv oJ hA hB hHl Xn VU hHu VT hs (fun i hi _=>hall i hi)
  |succ f ih=>
   intro listed σ' H' κ Θ a w inv oJ hA hB hHl Xn VU hHu VT hs;by_cases hsw:∀i,i<n->i∉L->listed.getD i false=true
   ·exact switch (f+1) listed σ' H' κ Θ a w inv oJ hA hB hHl Xn VU hHu VT hs hsw
   have a9w:∃i,i<n/\i∉L/\listed.getD i false=false:=by
    obtain⟨i,hi⟩:=Classical.not_forall.1 hsw;refine⟨i,?_⟩;by_cases h1:i<n
    ·by_cases h2:i∈L
     ·exact absurd (fun _ h=>absurd h2 h) hi
     ·refine⟨h1,h2,?_⟩;cases hl:listed.getD i false with
      |false=>rfl
      |true=>exact absurd (fun _ _=>hl) hi
    ·exact absurd (fun h=>absurd h h1) hi
   have hun:∃i,i<n/\listed.getD i false=false:=by
    have hne:((List.range n).filter fun i=> !listed.getD i false)≠[]:=by
     intro h0;rw[h0]at oJ;simp at oJ
    obtain⟨i,hi⟩:=ur _ hne;obtain⟨h1,h2⟩:=iL.1 hi;exact⟨i,bg.1 h1,by simpa using h2⟩
   have hsz:=inv.size;rw[show f+1+(l.toArray.size-n)=(f+(l.toArray.size-n))+1 from by omega];refine⟨fun h0=>?_,fun i hi=>?_⟩
   ·exfalso;obtain⟨i,⟨hin,U9⟩,hmin⟩:=exists_least (p:=fun i=>i<n/\listed.getD i false=false) hun;obtain⟨o,p,ho,_,_,_⟩:=hop i hin;have:i∈Region.ready .any l.toArray listed:=by
     refine mem_ready.2 ⟨getD_in (by rw[hsz];omega) U9,o,ho,fun e he hb=>?_⟩;have:=b8.1 Ma i (bg.2 hin);simp only[ho,aZ]at this;have:=vl.1 this.1.1 e he;simp only[hb,bW,vJ,bM]at this;cases hl:listed.getD e.on false with
     |true=>rfl
     |false=>
      have:=hmin e.on ⟨by omega,hl⟩;omega
    rw[h0]at this;cases this
   ·obtain⟨i0,hi0,hl0⟩:=hun;have hin:i<n:=by
     rcases dh i n with h|h
     ·exact h
     ·obtain⟨i1,hi1,a9O,hl1⟩:=a9w;obtain⟨_,oi,hoi,_⟩:=mem_ready.1 hi;have DF:i<l.toArray.size:=(bH.1 hoi).1;exfalso;rcases dh i m with hm1|hm1
      ·have h1:=b8.1 hmid (i-n) (bg.2 (by omega));have h2:=b8.1 h1 i1 (bg.2 (by omega));rw[show n+(i-n)=i from by omega]at h2;simp only[nq]at h2;rcases h2 with h2|h2
       ·rw[yQ inv.closed hi h2]at hl1;cases hl1
       ·exact a9O (by simpa using h2)
      ·have h1:=b8.1 Yv (i-m) (bg.2 (by omega));have h2:=b8.1 h1 i1 (bg.2 (by omega));rw[show m+(i-m)=i from by omega]at h2;rw[yQ inv.closed hi h2]at hl1;cases hl1
    obtain⟨o,p,ho,hp,hd,hc,_⟩:=hop i hin;obtain⟨U9,o',ho',hall⟩:=mem_ready.1 hi;rw[ho]at ho';cases ho';have BV:=getD_both U9;have hc':uG P Γ l.toArray st.H σ' o p:=by
     refine uG.congr (σ:=((ps.take i).filterMap Cp.sl).reverse++st.σ) (σ':=σ') ?_ hc;intro t ht;have L5:=b8.1 Ma i (bg.2 hin);simp only[ho,aZ]at L5;have L5:=b8.1 L5.1.2 t ht;by_cases hex:∃(j:Nat) (q:Cp),ps[j]?=some q/\q.t=some t
     ·obtain⟨j,q,hq,NB⟩:=hex;have hj:j<n:=by have:=(aF.1 hq).1;omega
      obtain⟨oj,q',yR,PL,hdj,_⟩:=hop j hj;rw[hq]at PL;cases PL;have:=b8.1 L5 j (bg.2 hj);simp only[yR,hdj,NB,cu,bW,vJ,aZ,bM]at this;obtain⟨hji,Yz⟩:=this;obtain⟨oi',Ys,e,he,hb,hon⟩:=Region.waitsFor_spec Yz;rw[ho]at Ys;cases Ys;have hjl:=hall e he hb;rw[hon]at hjl;rw[hA j q t hq NB hjl];refine Jj ((ps.take i).filterMap Cp.sl).reverse st.σ (t,q.d) ?_ (fun q2 Jx Jg=>G4 j q t hq NB q2 ?_ Jg)
      ·rw[dQ];exact cD.2 ⟨q,aC (i:=j) (by rw[cQ,bX hji];exact hq),by simp[Cp.sl,NB]⟩
      ·obtain⟨q3,UF,yS⟩:=cD.1 (dQ.1 Jx);exact cD.2 ⟨q3,cK UF,yS⟩
     ·rw[hB t (fun j q hq _ he=>hex ⟨j,q,hq,he⟩),G9];intro q hq he;obtain⟨q3,UF,yS⟩:=cD.1 (dQ.1 hq);obtain⟨j,hj,hqj⟩:=dl.1 (cK UF);refine hex ⟨j,q3,by rw[<-hqj];exact ah hj,?_⟩;unfold Cp.sl at yS;cases hpt:q3.t with
      |none=>rw[hpt]at yS;cases yS
      |some u=>rw[hpt]at yS;simp only[cV,ar]at yS;subst yS;simp only at he;rw[he]
    have hfp:=hfit i p hp;have Ym:∀id ob,p.up=some (id,ob)->∃v,κ id=some v:=by
     intro id ob he;rcases hc' with⟨_,_,h,_⟩|⟨_,_,_,_,T,x,y,id',ds,UB,hx',_,_,_,_,VW⟩
     ·rw[h]at he;cases he
     ·rw[VW]at he;cases he;obtain⟨b1,r1,_⟩:=hs.ev x;rw[SC σ' H' st.H x,hx']at r1;obtain⟨g,hk,_⟩:=r1.BE;exact⟨_,hk⟩
    have Yw:∀id ob,p.up=some (id,ob)->∃zs ds,H'[id]?=some (.box zs)/\ob=.box ds/\zs.length=ds.length:=by
     intro id ob he;obtain⟨u1,⟨zs,ds,u2,u3,u4⟩,_⟩:=QX i p id ob hp he;refine⟨zs,ds,?_,u2,u3⟩;obtain⟨i1,p1,j1,hp1,IC,hk1⟩:=zf (aF.1 u4).1;have UC:ps[i1]?=some p1:=by
      have:=(aF.1 hp1).1;rw[cQ]at hp1;split at hp1
      ·exact hp1
      ·cases hp1
     have hi1:i1<i:=by have:=(aF.1 hp1).1;simp at this;omega
     have et:(ps.take i).take i1=ps.take i1:=by rw[uC,eX (by omega)]
     rw[et]at hk1;have e1:p1.r+j1=id:=by rw[UE i1 p1 UC];omega
     have Am:p1.obs[j1]?=some (.box zs):=by
      rw[qZ hp1,et,hk1,bC (by omega),dR,ax IC]at u4;exact u4
     have hl1:listed.getD i1 false=true:=by
      cases hl:listed.getD i1 false with
      |true=>rfl
      |false=>
       have h0:=VT i1 p1 UC hl j1 IC;rw[e1]at h0;obtain⟨v,hv⟩:=Ym id ob he;rw[h0]at hv;cases hv
     have:=VU i1 p1 UC hl1 j1 _ Am (fun i2 q Bh hq hl Jg=>by
      rw[e1]at Jg;have:=Yx i i2 p q id ob Bh hp hq he Jg;subst this;rw[BV]at hl;cases hl)
     rw[e1]at this;exact this
    refine hc'.wp hs Xn ho (by omega) (fun j hj=>VT i p hp BV j hj) Yw fun κ' Θ' a' w' hs' hsame=>?_
    have rp:∀(j:Nat),(listed.setIfInBounds i true).getD j false=true↔(j=i\/listed.getD j false=true):=by
     intro j;by_cases e:i=j
     ·subst e;have:i<listed.size:=by rw[hsz];omega
      simp[this]
     ·rw[getD_set_ne false e];constructor
      ·exact .inr
      ·rintro(rfl|h)
       ·exact absurd rfl e
       ·exact h
    have hput:(p.BY H').length=H'.length:=by
     unfold Cp.BY;split
     ·simp
     ·exact ul (by omega)
    have a4P:∀(k:Nat),k<st.H.length->(p.BY H')[k]?=H'[k]?:=by
     intro k hk;unfold Cp.BY;split
     ·rename_i id ob he;have:=(QX i p id ob hp he).1;rw[cE (by omega)]
     ·rw[uk (by omega),bX (by rw[UE i p hp];omega)]
    refine ih (listed.setIfInBounds i true) (p.slot σ') (p.BY H') κ' Θ' a' w' (inv.set hi hin) ?_ ?_ ?_ (by rw[hput];exact hHl) ?_ ?_ ?_ ?_ hs'
    ·have Wl:((List.range n).filter fun j=> !(listed.setIfInBounds i true).getD j false)=((List.range n).filter fun j=> !listed.getD j false).erase i:=by
      have hnd:((List.range n).filter fun j=> !listed.getD j false).Nodup:=yC _ Bk;rw[hnd.erase_eq_filter,zq];apply B5;intro j _;by_cases e:j=i
      ·subst e;have:=(rp j).2 (.inl rfl);rw[this];simp
      ·rw[getD_set_ne false (sA e)];simp[e]
     rw[Wl,qL (iL.2 ⟨bg.2 hin,by simp[BV]⟩),oJ];rfl
    ·intro j q t hq NB hl;unfold Cp.slot;rcases(rp j).1 hl with rfl|DG
     ·rw[hp]at hq;cases hq;rw[NB];simp[lk]
     ·cases hpt:p.t with
      |none=>exact hA j q t hq NB DG
      |some u=>
       simp only[lk];rw[bL,hA j q t hq NB DG];intro e;have:=hdist j i q p t hq hp NB (by rw[hpt,e]);subst this;rw[BV]at DG;cases DG
    ·intro t ht;unfold Cp.slot;have vZ:=hB t (fun j q hq hl=>ht j q hq ((rp j).2 (.inr hl)));cases hpt:p.t with
     |none=>exact vZ
     |some u=>
      simp only[lk];rw[bL (fun e=>ht i p hp ((rp i).2 (.inl rfl)) (by rw[hpt,e]))];exact vZ
    ·intro j y hj;rw[a4P j (aF.1 hj).1];exact Xn j y hj
    ·intro j q hq hl k y hy hno;have hkl:=(aF.1 hy).1;unfold Cp.BY;split
     ·rename_i id ob he;have hne:q.r+k≠id:=fun e=>hno i p ob hp ((rp i).2 (.inl rfl)) (by rw[e];exact he)
      rw[cE (sA hne)];rcases(rp j).1 hl with rfl|DG
      ·rw[hp]at hq;cases hq;rw[Yy j p id ob hp he]at hy;simp at hy
      ·exact VU j q hq DG k y hy (fun i2 q2 Bh Jx hl3=>hno i2 q2 Bh Jx ((rp i2).2 (.inr hl3)))
     ·rw[uk (by omega)];rcases(rp j).1 hl with rfl|DG
      ·rw[hp]at hq;cases hq;rw[bL (by omega),bX (by omega),dR];exact hy
      ·have hne:j≠i:=fun e=>by subst e;rw[BV]at DG;cases DG
       have h3:=VU j q hq DG k y hy (fun i2 q2 Bh Jx hl3=>hno i2 q2 Bh Jx ((rp i2).2 (.inr hl3)));rcases vm hne with h|h
       ·have:=QT j i q p hq hp h;rw[bX (by omega)];exact h3
       ·have:=QT i j p q hp hq h;rw[bL (by omega),bL (by omega)];exact h3
    ·intro j q id ob hq hl he;rcases(rp j).1 hl with rfl|DG
     ·rw[hp]at hq;cases hq;obtain⟨zs,ds,z1,_⟩:=Yw id ob he;have hlt:=(aF.1 z1).1;refine⟨by simp only[Cp.BY,he];rw[dK hlt],?_⟩;obtain⟨v,hv⟩:=Ym id ob he;refine⟨v,?_⟩;rw[hsame id (by rw[Yy j p id ob hp he];simp;omega)];exact hv
     ·obtain⟨h1,v,hv⟩:=hHu j q id ob hq DG he;have hout:id<p.r\/p.r+p.obs.length<=id:=by
       rcases dh id p.r with h|h
       ·exact .inl h
       ·rcases dh id (p.r+p.obs.length)with h2|h2
        ·have:=VT i p hp BV (id-p.r) (by omega);rw[show p.r+(id-p.r)=id from by omega,hv]at this;cases this
        ·exact .inr h2
      refine⟨?_,v,by rw[hsame id hout];exact hv⟩;unfold Cp.BY;split
      ·rename_i id2 Bh Jg;have hne:id2≠id:=fun e=>by
        subst e;have:=Yx i j p q id2 Bh ob hp hq Jg he;subst this;rw[BV]at DG;cases DG
       rw[cE hne];exact h1
      ·rw[uk (by omega)];rcases hout with h|h
       ·rw[bX h];exact h1
       ·rw[bL (by omega),bL (by omega)];exact h1
    ·intro j q hq hl k hk;have hne:j≠i:=fun e=>by
      subst e;have:=(rp j).2 (.inl rfl);rw[this]at hl;cases hl
     have DG:listed.getD j false=false:=by
      cases h:listed.getD j false with
      |false=>rfl
      |true=>have:=(rp j).2 (.inr h);rw[this]at hl;cases hl
     have h3:=VT j q hq DG k hk;rw[hsame,h3];rcases vm hne with h|h
     ·have:=QT j i q p hq hp h;omega
     ·have:=QT i j p q hp hq h;omega
 have a50:HeadInv .any l.toArray n (Array.replicate l.toArray.size false):=
  ⟨by simp,fun j oj _ hl=>(by rw[getD_replicate_false]at hl;cases hl),fun t _ ht=>getD_in (by simpa using ht) (getD_replicate_false _ _)⟩
 have oJ:((List.range n).filter fun i=> !(Array.replicate l.toArray.size false).getD i false).length=n:=by
  rw[List.filter_eq_self.2]
  ·simp
  ·intro i _;rw[getD_replicate_false];rfl
 have:=main n (Array.replicate l.toArray.size false) st.σ (st.H++List.replicate (ps.flatMap Cp.obs).length .gone) κ Θ a w a50 oJ (fun i p t _ _ hl=>by rw[getD_replicate_false]at hl;cases hl) (fun t _=>rfl)
  (by simp) (fun i o h=>by rw[ax (aF.1 h).1];exact h) (fun i p _ hl=>by rw[getD_replicate_false]at hl;cases hl)
  (fun i q id ob _ hl=>by rw[getD_replicate_false]at hl;cases hl)
  (fun i p hp _ j _=>hs.qI _ (by rw[UE i p hp];omega)) (hs.room _)
 rw[show n+(l.toArray.size-n)=l.toArray.size from by omega]at this;exact this
def Mh(X:aY)(st:St)(op:Op)(A:eL):Bool:=match op with
 | .buildSlice _ _ _=>true
 | .build _ _=>true
 | .extract _ _=>true
 | .field _ _ _=>true
 | .move _=>true
 | .indexAddr _ x _=>(OG st (st.ev x)).isNone
 | .load _ x=>(Qi st (st.ev x)).isNone&&(match st.ev x,A with| .op id _ _ _,.tk _::_=>X.contains id|_,_=>true)
 | .store _ x _=>(match st.ev x with| .ptr id _=>X.contains id|_=>false)
 | .call c=>(match c.callee,A with
  | .builtin .append,_=>true
  | .value (.func _),.d _::_=>true
  | .value (.func _),.gp _ _ _::_=>(match c.args.toList with|x::_=>(match st.ev x with| .ptr id _=>X.contains id|_=>false)| []=>false)
  |_,_=>false)
 |_=>false
def SJ(X:aY)(H H':bS):Bool:=(List.range H.length).all fun i=>X.contains i||(match H[i]? with|some .gone=>true|_=>(match H'[i]? with|some .gone=>false|_=>true))
def OO(P:Program)(nt:Nat)(X:aY):List Oper->St->eL->Option (St×eL×Cf)
 | [],st,A=>some (st,A,[])
 |o::rest,st,A=>match o.guard,Mh X st o.op A with
  |none,true=>(match IL P nt o st A with
   |some (yX,A1,p)=>(match SJ X st.H yX.H,OO P nt X rest yX A1 with|true,some (Ol,A2,q)=>some (Ol,A2,p++q)|_,_=>none)
   |none=>none)
  |_,_=>none
theorem SY{H:bS}{ms:aY}{i:Nat}(h:i∈ms)(hl:i<H.length):(kill H ms)[i]?=some .gone:=by
 induction ms generalizing H with
 |nil=>cases h
 |cons m ms ih=>
  show(kill (H.set m .gone) ms)[i]?=_;by_cases hi:i∈ms
  ·exact ih hi (by simpa using hl)
  ·rw[jC hi];rcases bI.1 h with rfl|h
   ·rw[dK hl]
   ·exact absurd h hi
theorem VS{X:aY}{H H':bS}(h:SJ X H H'=true){i:Nat}{o:Ob}(hi:i∉X)(ho:H[i]?=some o)(hg:H'[i]?=some .gone):o=.gone:=by
 have h1:=b8.1 h i (bg.2 (aF.1 ho).1);rw[ho,hg,List.contains_eq_mem,bB hi,vJ]at h1;cases o<;>first|rfl|cases h1
theorem SX{X:aY}{H:bS}{ms:aY}{n:bS}(h:SJ X H (kill H ms++n)=true):zv X H (kill H ms++n):=by
 intro i o hi ho;have hl:=(aF.1 ho).1;have e:(kill H ms++n)[i]?=(kill H ms)[i]?:=ax (by rw[gb];exact hl);by_cases hm:i∈ms
 ·have e2:=e.trans (SY hm hl);rw[e2,VS h hi ho e2]
 ·rw[e,jC hm,ho]
theorem Ww{X:aY}{H:bS}{ms:aY}{n:bS}{id:Nat}{b:Ob}(hid:id∈X)(h:SJ X H ((kill H ms).set id b++n)=true):zv X H ((kill H ms).set id b++n):=by
 intro i o hi ho;have hne:id≠i:=fun e=>hi (e▸hid)
 have hl:=(aF.1 ho).1;have e:((kill H ms).set id b++n)[i]?=(kill H ms)[i]?:=by
  rw[ax (by rw[bV,gb];exact hl),cE hne]
 by_cases hm:i∈ms
 ·have e2:=e.trans (SY hm hl);rw[e2,VS h hi ho e2]
 ·rw[e,jC hm,ho]
theorem a0N{X:aY}{nt:Nat}{o:Oper}{A A1:eL}{yX:St}{p:Cf}(hk:Mh X st o.op A=true)(hgn:SJ X st.H yX.H=true)(h:IL P nt o st A=some (yX,A1,p)):((∃t d,o.dst=some t/\t<nt/\yX.σ=(t,d)::st.σ)\/(o.dst=none/\yX.σ=st.σ))/\zv X st.H yX.H:=by
 have plain:∀ {t:Nat},o.dst=some t->(if t<nt then match I5 P st o.op A with|some (d,A,ow)=>some ((⟨(t,d)::st.σ,st.H⟩:St),A,ow)|none=>none else none)=some (yX,A1,p)->((∃t d,o.dst=some t/\t<nt/\yX.σ=(t,d)::st.σ)\/(o.dst=none/\yX.σ=st.σ))/\zv X st.H yX.H:=by
  intro t hd h;split at h
  ·rename_i ht;split at h
   ·cases h;exact⟨.inl ⟨t,_,hd,ht,rfl⟩,zv.refl _⟩
   ·cases h
  ·cases h
 unfold IL at h;split at h
 case h_3=>
  rename_i T x y hop hd;rw[hop]at hk;simp only[Mh]at hk;split at h
  ·rename_i id off ds h1 h2;rw[h1]at hk;split at h
   ·split at h
    ·split at h
     ·cases h;refine⟨.inr ⟨hd,rfl⟩,fun i cs hi hcs=>?_⟩;have hne:id≠i:=fun e=>hi (by subst e;simpa using hk)
      show(st.H.set id _)[i]?=_;rw[cE hne,hcs]
     ·cases h
    ·cases h
   ·cases h
  ·rename_i id i sz off ds h1 h2;rw[h1]at hk;cases hk
  ·cases h
 case h_7=>
  rename_i T len parts t hop hd;split at h
  ·split at h
   ·split at h
    ·split at h
     ·rename_i es ms hab;split at h
      ·rename_i hc;cases h;exact⟨.inl ⟨t,_,hd,hc.1,rfl⟩,SX hgn⟩
      ·cases h
     ·cases h
    ·cases h
   ·cases h
  ·cases h
 case h_8=>
  rename_i c t hop hd;rw[hop]at hk;simp only[Mh]at hk;split at h
  ·split at h
   ·split at h
    ·rename_i rows u1 k1 fI u2 k2 A' ow _ hS hX;split at h
     ·rename_i hc;cases h;exact⟨.inl ⟨t,_,hd,hc.1,rfl⟩,SX hgn⟩
     ·cases h
    ·cases h
   ·cases h
  ·rename_i a4I _ _;rw[a4I]at hk;cases hk
  ·rename_i f a4I;rw[a4I]at hk;split at hk
   ·rename_i hb;cases hb
   ·rename_i f' d A' hb;split at h
    ·rename_i hA;cases hA
    ·rename_i hA;cases hA
    ·rename_i hA;cases hA
    ·rename_i hA;cases hA
    ·rename_i hA;cases hA
    ·rename_i hA;cases hA
    ·rename_i ds ms d' A'' hv hA;split at h
     ·rename_i hc;cases h;exact⟨.inl ⟨t,_,hd,hc.1,rfl⟩,(zv.refl _).app _⟩
     ·cases h
    ·rename_i hA;cases hA
    ·cases h
   ·rename_i f' nz cells' d A' hb;generalize Ju st.H (List.map st.ev c.args.toList)=q at h;rcases q with _|⟨qa,qb⟩
    all_goals
     dsimp only at h;split at h
     ·rename_i x0 xr h5;rw[h5]at hk;split at h
      ·rename_i id h6;simp only[h6]at hk;split at h
       ·rename_i ob h7;split at h
        ·rename_i Lo h8;split at h
         ·rename_i cells ds ms qs h9;split at h
          ·rename_i hc;cases h;exact⟨.inl ⟨t,_,hd,hc.1,rfl⟩,Ww (by simpa using hk) hgn⟩
          ·cases h
         ·cases h
        ·cases h
       ·cases h
      ·cases h
     ·cases h
   ·cases hk
  ·exact plain hd h
 case h_13=>
  rename_i T x i t hop hd;rw[hop]at hk;simp only[Mh]at hk;split at h
  ·rename_i hl;rw[hl]at hk;cases hk
  ·exact plain hd h
 case h_14=>
  rename_i T x t hop hd;rw[hop]at hk;simp only[Mh]at hk;split at h
  ·rename_i hl;rw[hl]at hk;cases hk
  ·rw[aZ]at hk
   replace hk:=hk.2
   split at h
   ·rename_i r A' id i sz h1;split at h
    ·rename_i n e sz' rows h2;split at h
     ·rename_i hc;cases h;refine⟨.inl ⟨t,_,hd,hc.1,rfl⟩,zv.app (fun j cs hj hcs=>?_) _⟩;have hne:id≠j:=fun e=>hj (by subst e;rw[h1]at hk;simpa using hk)
      rw[cE hne];exact hcs
     ·cases h
    ·cases h
   ·exact plain hd h
 all_goals first
  | (rename_i hop _;rw[hop]at hk;simp[Mh]at hk;done)
  | (rename_i hop;rw[hop]at hk;simp[Mh]at hk;done)
  |skip
 all_goals first
  |exact plain (by assumption) h
  |cases h
theorem Step.of{nt:Nat}(hnt:Γ.nt=nt){o:Oper}{A A1:eL}{yX:St}{p:Cf}(hg:o.guard=none)(hsel:∀cs b,o.op≠ .select cs b)(h:IL P nt o st A=some (yX,A1,p))(hp:xd p):Step P Γ o st yX:=by
 intro κ Θ a w hs;have h1:=Q9 (P:=P) (Γ:=Γ) (all:= #[]) (rest:=[]) (Q:=fun e s=>e=.normal/\s=yX) hnt hg h hp (a3y ⟨rfl,rfl⟩) κ Θ a w hs;have hw:Region.wanted o (yielded #[] a.tmps)=true:=by simp[Region.wanted,hg]
 simp only[wpList,hw,sB]at h1;rcases h1 with h1|⟨_,a0,w0,ve,κ',Θ',_,hq,_⟩
 ·refine TT hsel (fun _ _=>rfl) ?_ ?_ ?_ h1
  ·rintro v w' ⟨ve,κ',Θ',hs',_,rfl⟩;exact⟨κ',Θ',hs'⟩
  ·rintro d w' ⟨ve,κ',Θ',hs',_,rfl⟩;have:=hs'.defers;cases hod:o.dst<;>rw[hod]at this<;>cases this
  ·rintro e c w' ⟨ve,κ',Θ',hs',rfl,_⟩;rfl
 ·cases hq
theorem Qm{X:aY}{nt:Nat}(hnt:Γ.nt=nt){K:St->Prop}{Ol:St}{A2:eL}:∀ {ops:List Oper} {st:St} {A:eL} {p:Cf},OO P nt X ops st A=some (Ol,A2,p)->xd p->K Ol->Xu P Γ X K ops st:=by
 intro ops
 induction ops with
 |nil=>intro st A p h hp hK;simp only[OO,ar,cR]at h;obtain⟨rfl,_,_⟩:=h;exact hK
 |cons o os ih=>
  intro st A p h hp hK;simp only[OO]at h;split at h
  ·rename_i hg hok;split at h
   ·rename_i yX A1 p1 h1;split at h
    ·rename_i a2U A2' q hgn h2;cases h;obtain⟨hp1,hq⟩:=hp.app;obtain⟨hd,hX⟩:=a0N hok hgn h1;have hsel:∀cs b,o.op≠ .select cs b:=by
      intro cs b e;rw[e]at hok;cases hok
     exact⟨yX,hd.imp (fun⟨t,d,hd,ht,hσ⟩=>⟨t,d,hd,by rw[hnt];exact ht,hσ⟩) id,hX,hg,hsel,Step.of hnt hg hsel h1 hp1,ih h2 hq hK⟩
    ·cases h
   ·cases h
  ·cases h
def a0P(X:aY)(st:St)(ops:List Oper)(L:aY):Bool:=L.all fun i=>match ops[i]? with|some o=>DN X st o.op|none=>false
theorem XO{X:aY}{st:St}{ops:List Oper}{L:aY}(h:a0P X st ops L=true):∀i∈L,∀o,ops[i]?=some o->DN X st o.op=true:=by
 intro i hi o ho;have:=b8.1 h i hi;rw[ho]at this;exact this
def CP(ρ:aY)(o:Oper):Oper:= {o with after:=o.after.map fun e=> {e with on:=ρ.getD e.on 0},guard:=o.guard.map fun g=>(ρ.getD g.1 0,g.2)}
def vi(ops:Array Oper)(π ρ:aY):List Oper:=π.filterMap fun i=>(ops[i]?).map (CP ρ)
def Mj(ops:Array Oper)(π ρ:aY):Bool:=
 decide (π.length=ops.size)&&(decide (ρ.length=ops.size)&&
 (((List.range ops.size).all fun i=>(match ρ[i]? with|some k=>π[k]?==some i|none=>false))&&
 (((List.range ops.size).all fun k=>(match π[k]? with|some i=>ρ[i]?==some k|none=>false))&&
 (ops.toList.all fun o=>(o.after.all fun e=>decide (e.on<ops.size))&&(match o.guard with|some g=>decide (g.1<ops.size)|none=>true)))))
theorem Ns(ρ:aY)(o:Oper)(f:Operand->Value):execOp f (CP ρ o)=execOp f o:=by
 cases o;rfl
theorem a0f(ρ:aY){o:Oper}{K:Act->World->Prop}{Q:Exit->Act->World->Prop}(h:(CP ρ o).wp P a w K Q):o.wp P a w K Q:=by
 unfold Oper.wp at*;rw[Ns]at h;exact h
theorem To(ρ:aY){o:Oper}(h:(CP ρ o).asks P a w):o.asks P a w:=by
 unfold Oper.asks at*;rw[Ns]at h;exact h
section
variable{ops:Array Oper}{π ρ:aY}
theorem OZ(hB:Mj ops π ρ=true){k i:Nat}{o:Oper}(hk:π[k]?=some i)(ho:ops[i]?=some o):(vi ops π ρ).toArray[k]?=some (CP ρ o):=by
 simp only[Mj,aZ,bM]at hB;obtain⟨h1,h2,h3,h4,h5⟩:=hB;have hall:∀x∈π,∃o,ops[x]?=some o:=by
  intro x hx;obtain⟨j,hj,rfl⟩:=dl.1 hx;have:=b8.1 h4 j (bg.2 (by omega));rw[ah hj]at this;simp only[cj]at this;have:=(aF.1 this).1;exact⟨_,cP (by omega)⟩
 have key:∀(l:aY) (k:Nat),(∀x∈l,∃o,ops[x]?=some o)->l[k]?=some i->(l.filterMap fun i=>(ops[i]?).map (CP ρ))[k]?=some (CP ρ o):=by
  intro l
  induction l with
  |nil=>intro k _ h;simp at h
  |cons x l ih=>
   intro k hl h;obtain⟨ox,hox⟩:=hl x (by simp);rw[z6];simp only[hox,cV];cases k with
   |zero=>simp at h;subst h;rw[ho]at hox;cases hox;rfl
   |succ k=>simpa using ih k (fun y hy=>hl y (by simp[hy])) (by simpa using h)
 have:=key π k hall hk;simpa[vi]using this
theorem Sw(hB:Mj ops π ρ=true):(vi ops π ρ).toArray.size=ops.size:=by
 have hB':=hB;simp only[Mj,aZ,bM]at hB;obtain⟨h1,h2,h3,h4,h5⟩:=hB;have hall:∀x∈π,∃o,ops[x]?=some o:=by
  intro x hx;obtain⟨j,hj,rfl⟩:=dl.1 hx;have:=b8.1 h4 j (bg.2 (by omega));rw[ah hj]at this;simp only[cj]at this;have:=(aF.1 this).1;exact⟨_,cP (by omega)⟩
 have key:∀(l:aY),(∀x∈l,∃o,ops[x]?=some o)->(l.filterMap fun i=>(ops[i]?).map (CP ρ)).length=l.length:=by
  intro l
  induction l with
  |nil=>intro _;rfl
  |cons x l ih=>
   intro hl;obtain⟨ox,hox⟩:=hl x (by simp);rw[z6];simp only[hox,cV,aL,ih (fun y hy=>hl y (by simp[hy]))]
 rw[B6,vi,key π hall,h1]
theorem Zl{Q':Exit->Act->World->Prop}(hB:Mj ops π ρ=true):∀(fuel:Nat) (listed listed':Array Bool) (a:Act) (w:World),listed.size=ops.size->listed'.size=ops.size->(∀(k i:Nat),π[k]?=some i->listed'.getD k false=listed.getD i false)->
 wpAny P .any (vi ops π ρ).toArray Q' fuel listed' a w->wpAny P .any ops Q' fuel listed a w:=by
 have hB':=hB;simp only[Mj,aZ,bM]at hB';obtain⟨h1,h2,h3,h4,h5⟩:=hB';have to:∀i,i<ops.size->∃k,ρ[i]?=some k/\π[k]?=some i/\k<ops.size:=by
  intro i hi;have:=b8.1 h3 i (bg.2 hi);split at this
  ·rename_i k hk;simp only[cj]at this;exact⟨k,hk,this,by have:=(aF.1 this).1;omega⟩
  ·cases this
 have back:∀k,k<ops.size->∃i,π[k]?=some i/\ρ[i]?=some k/\i<ops.size:=by
  intro k hk;have:=b8.1 h4 k (bg.2 hk);split at this
  ·rename_i i hi;simp only[cj]at this;exact⟨i,hi,this,by have:=(aF.1 this).1;omega⟩
  ·cases this
 have rin:∀(i:Nat) o,ops[i]?=some o->(∀e∈o.after,e.on<ops.size)/\∀g,o.guard=some g->g.1<ops.size:=by
  intro i o ho;have hm:o∈ops.toList:=by rw[<-tX]at ho;exact aC ho
  have:=b8.1 h5 o hm;simp only[aZ]at this;refine⟨fun e he=>by simpa using vl.1 this.1 e he,fun g hg=>?_⟩;have:=this.2;rw[hg]at this;simpa using this
 have rd:∀(listed listed':Array Bool),listed.size=ops.size->listed'.size=ops.size->(∀(k i:Nat),π[k]?=some i->listed'.getD k false=listed.getD i false)->∀(k i:Nat),π[k]?=some i->(i∈Region.ready .any ops listed↔k∈Region.ready .any (vi ops π ρ).toArray listed'):=by
  intro listed listed' hs1 hs2 Xp k i hki;have hk:k<ops.size:=by have:=(aF.1 hki).1;omega
  obtain⟨i',hi',hr,hilt⟩:=back k hk;rw[hki]at hi';cases hi';have ho:ops[i]?=some ops[i]:=cP hilt;have ho':=OZ hB hki ho;have hon:∀e∈ops[i].after,listed'.getD (ρ.getD e.on 0) false=listed.getD e.on false:=by
   intro e he;obtain⟨k2,hk2,hk3,_⟩:=to e.on ((rin i _ ho).1 e he);rw[kI,hk2,xb];exact Xp k2 e.on hk3
  rw[mem_ready,mem_ready];constructor
  ·rintro⟨q1,o,q2,q3⟩;rw[ho]at q2;cases q2;refine⟨getD_in (by omega) (by rw[Xp k i hki];exact getD_both q1),_,ho',?_⟩;intro e he hb;simp only[CP,Array.mem_map]at he;obtain⟨e0,he0,rfl⟩:=he;simp only;rw[hon e0 he0];exact q3 e0 he0 hb
  ·rintro⟨q1,o,q2,q3⟩;rw[ho']at q2;cases q2;refine⟨getD_in (by omega) (by rw[<-Xp k i hki];exact getD_both q1),_,ho,?_⟩;intro e he hb;rw[<-hon e he];exact q3 {e with on:=ρ.getD e.on 0} (by simp only[CP,Array.mem_map];exact⟨e,he,rfl⟩) hb
 have lt:∀ {listed:Array Bool} {ops:Array Oper} {i:Nat},i∈Region.ready .any ops listed->i<ops.size:=by
  intro listed ops i hi;obtain⟨_,o,ho,_⟩:=mem_ready.1 hi;exact(bH.1 ho).1
 have a3C:∀(listed listed':Array Bool),listed.size=ops.size->listed'.size=ops.size->(∀(k i:Nat),π[k]?=some i->listed'.getD k false=listed.getD i false)->(Region.ready .any ops listed=[]↔Region.ready .any (vi ops π ρ).toArray listed'=[]):=by
  intro listed listed' hs1 hs2 Xp;constructor
  ·intro h;rw[xZ];intro k hk;obtain⟨i,hi,_⟩:=back k (by have:=lt hk;rw[Sw hB]at this;exact this);have:=(rd listed listed' hs1 hs2 Xp k i hi).2 hk;rw[h]at this;cases this
  ·intro h;rw[xZ];intro i hi;obtain⟨k,_,hk,_⟩:=to i (lt hi);have:=(rd listed listed' hs1 hs2 Xp k i hk).1 hi;rw[h]at this;cases this
 intro fuel
 induction fuel with
 |zero=>
  intro listed listed' a w hs1 hs2 Xp h;exact⟨(a3C listed listed' hs1 hs2 Xp).2 h.1,h.2⟩
 |succ fuel ih=>
  intro listed listed' a w hs1 hs2 Xp h;refine⟨fun h0=>h.1 ((a3C listed listed' hs1 hs2 Xp).1 h0),fun i hi=>?_⟩;have hilt:=lt hi;obtain⟨k,hrk,hk,aBv⟩:=to i hilt;have hkr:=(rd listed listed' hs1 hs2 Xp k i hk).1 hi;have ho:ops[i]?=some ops[i]:=cP hilt;have ho':=OZ hB hk ho;have h2:=wpOp_mono (K':=wpAny P .any ops Q' fuel (listed.setIfInBounds i true)) (fun a' w' h'=>ih (listed.setIfInBounds i true) (listed'.setIfInBounds k true) a' w' (by simpa using hs1) (by simpa using hs2) (by
   intro k2 i2 Yl;by_cases e:k=k2
   ·subst e;rw[hk]at Yl;cases Yl;have g1:k<listed'.size:=by omega
    have g2:i<listed.size:=by omega
    simp[g1,g2]
   ·have e2:i≠i2:=by
     intro e3;subst e3;obtain⟨i',hi',hr',_⟩:=back k2 (by have:=(aF.1 Yl).1;omega);rw[Yl]at hi';cases hi';rw[hrk]at hr';cases hr';exact e rfl
    rw[getD_set_ne false e,getD_set_ne false e2];exact Xp k2 i2 Yl) h') (h.2 k hkr)
  have hw:Region.wanted (CP ρ ops[i]) (yielded (vi ops π ρ).toArray a.tmps)=Region.wanted ops[i] (yielded ops a.tmps):=by
   cases hg:ops[i].guard with
   |none=>simp[Region.wanted,CP,hg]
   |some g=>
    obtain⟨j,want⟩:=g;have hj:=(rin i _ ho).2 _ hg;obtain⟨k3,a9k,hk3,_⟩:=to j hj;have yR:ops[j]?=some ops[j]:=cP hj;have a9e:=OZ hB hk3 yR;have:yielded (vi ops π ρ).toArray a.tmps (ρ.getD j 0)=yielded ops a.tmps j:=by
     rw[kI,a9k,xb];unfold yielded;rw[a9e,yR];rfl
    simp only[Region.wanted,CP,hg,cV];rw[this]
  unfold wpOp at h2⊢;simp only[ho',ho]at h2⊢;rw[hw]at h2;split
  ·rename_i Z0;rw[bX Z0]at h2;exact h2.imp (a0f ρ) fun⟨q1,q2⟩=>⟨To ρ q1,q2⟩
  ·rename_i Z0;rw[bL Z0]at h2;exact h2
theorem PW.perm(hB:Mj ops π ρ=true)(h:PW P Γ (vi ops π ρ).toArray Q st):PW P Γ ops Q st:=by
 intro κ Θ a w hs;have:=h κ Θ a w hs;rw[Sw hB]at this;refine Zl hB ops.size (Array.replicate ops.size false) (Array.replicate ops.size false) a w (by simp) (by simp) (fun k i _=>?_) this;rw[getD_replicate_false,getD_replicate_false]
end
end
end Go.Cx
namespace Go.Cx
open Go.RowKit
def yu(P:Program)(nt:Nat)(all:Array Oper):List Oper->St->eL->Option (St×eL×Cf)
 | [],st,A=>(match shares A st with| (yX,A1)=>some (yX,A1,[]))
 |o::rest,st,A=>match o.guard with
  |none=>(match IL P nt o st A with
   |some (yX,A1,p)=>(match yu P nt all rest yX A1 with|some (Ol,A2,q)=>some (Ol,A2,p++q)|none=>none)
   |none=>none)
  |some (j,want)=>(match(all[j]?).bind (·.dst),A with
   |some s,.b v::A=>(match lk st.σ s with
    | .bool b=>(match v==want with
     |true=>(match IL P nt {o with guard:=none} st A with
      |some (yX,A1,p)=>(match yu P nt all rest yX A1 with|some (Ol,A2,q)=>some (Ol,A2,(b=v)::(p++q))|none=>none)
      |none=>none)
     |false=>(match o.dst with
      |some t=>(if t<nt then match yu P nt all rest ⟨(t,.ij [])::st.σ,st.H⟩ A with|some (Ol,A2,q)=>some (Ol,A2,(b=v)::q)|none=>none else none)
      |none=>(match yu P nt all rest st A with|some (Ol,A2,q)=>some (Ol,A2,(b=v)::q)|none=>none)))
    | .ij []=>(match o.dst with
     |some t=>(if t<nt then yu P nt all rest ⟨(t,.ij [])::st.σ,st.H⟩ A else none)
     |none=>yu P nt all rest st A)
    |_=>none)
   |_,_=>none)
def VI(P:Program)(H:bS)(r:Nat)(σ:List (Nat×D))(o:Oper)(A:eL):Option (D×bS×eL×Cf):=match o.op with
 | .call c=>(match c.callee with
  | .value (.func f)=>(match Ju H (c.args.toList.map (St.ev ⟨σ,H⟩)),A with
   |some (ds,ms),.d d::A=>(if ms=[]\/d.OW=true then some ((qH r d).1,(qH r d).2,A,[Good P f ds d])else none)
   |some (ds,ms),.ds d::A=>(if d.a5F=true/\d.OW=true then some (d.shV,[],A,[Good P f ds d])else none)
   |_,.nl d::A=>(if(c.args.toList.map (St.ev ⟨σ,H⟩)).all Mf=true then some ((qH r d).1,(qH r d).2,A,[Good P f (c.args.toList.map (St.ev ⟨σ,H⟩)) d])else none)
   |_,_=>none)
  |_=>(match I5 P ⟨σ,H⟩ o.op A with|some (d,A,ow)=>some (d,[],A,ow)|none=>none))
 | .alloc T=>(match tz P T with|some zs=>some (.ptr r 0,[.box zs],A,[])|none=>none)
 | .box _ x=>(match(St.ev ⟨σ,H⟩ x).cellsOf with|some ds=>some (.ptr r 0,[.box ds],A,[])|none=>none)
 | .buildSlice T len parts=>(match GW P T with
  |some (e,sz)=>(match tz P e with
   |some zs=>(match yU (tW len sz) (List.replicate len zs).flatten (parts.toList.map fun q=>(q.1,St.ev ⟨σ,H⟩ q.2))with
    |some ds=>(match A with
     | .vw _::A=>(if 0<sz/\len*sz<=16777216/\ds.all D.Rb=true/\ds.all D.flat=true then some (.sl (chunk sz len ds),[],A,[])else none)
     |A=>(match Ln H ds with
      |some (es,ms)=>(if 0<sz/\len*sz<=16777216/\ms=[]then some (.acc r,[.row (zh (ds.all (Vz H))) e sz (chunk sz len es)],A,[])else none)
      |none=>none))
    |none=>none)
   |none=>none)
  |none=>none)
 |_=>(match I5 P ⟨σ,H⟩ o.op A with|some (d,A,ow)=>some (d,[],A,ow)|none=>none)
def xy(P:Program)(nt:Nat)(all:Array Oper)(H:bS):List Oper->List (Nat×D)->bS->aY->eL->Option (List (Nat×D)×bS×eL×Cf)
 | [],σ,acc,_,A=>some (σ,acc,A,[])
 |o::rest,σ,acc,U,A=>match o.dst with
  |none=>(match o.op,o.guard with
   | .store T x y,none=>(match St.ev ⟨σ,H⟩ x,(St.ev ⟨σ,H⟩ y).cellsOf with
    | .ptr id off,some ds=>(match acc[id-H.length]? with
     |some (.box zs)=>(if off=0/\H.length<=id/\id∉U/\RG P T=true/\ds.length=zm P T/\zs.length=ds.length then xy P nt all H rest σ (acc.set (id-H.length) (.box ds)) (id::U) A else none)
     |_=>none)
    |_,_=>none)
   |_,_=>none)
  |some t=>(if t<nt then match o.guard with
   |none=>(match VI P H (H.length+acc.length) σ o A with
    |some (d,obs,A1,p)=>(match xy P nt all H rest ((t,d)::σ) (acc++obs) U A1 with|some (σ2,Rp,A2,q)=>some (σ2,Rp,A2,p++q)|none=>none)
    |none=>none)
   |some (j,want)=>(match(all[j]?).bind (·.dst),A with
    |some s,.b v::A=>(match lk σ s with
     | .bool b=>(match v==want with
      |true=>(match VI P H (H.length+acc.length) σ o A with
       |some (d,obs,A1,p)=>(match xy P nt all H rest ((t,d)::σ) (acc++obs) U A1 with|some (σ2,Rp,A2,q)=>some (σ2,Rp,A2,(b=v)::(p++q))|none=>none)
       |none=>none)
      |false=>(match xy P nt all H rest ((t,.ij [])::σ) acc U A with|some (σ2,Rp,A2,q)=>some (σ2,Rp,A2,(b=v)::q)|none=>none))
     | .ij []=>xy P nt all H rest ((t,.ij [])::σ) acc U A
     |_=>none)
    |_,_=>none)
   else none)
inductive Fr where
 |sq (c:Code)
 |bl (id:Nat)
 |lp
def depth:List Fr->Nat
 | []=>0
 | .lp::K=>depth K+1
 |_::K=>depth K
inductive Cfg where
 |run (c:Code)
 |Zh
 |ex (id:Nat)
inductive Stop where
 |ret (d:D)
 |lp (c:Code) (K:List Fr) (st:St)
 |cont (k:Nat) (st:St)
 |at_ (c:Code) (K:List Fr) (st:St)
def a5J(P:Program)(rs:List ResultVar×List (List (Option (Nat×Nat))))(st:St):Option D:=match DY P st rs.1 with
 |some ds=>(match CQ st.H rs.2 ds with|some (es,ms,qs)=>(if ms.Nodup/\qs.Nodup then some (Ad es)else none)|none=>none)
 |none=>none
def a9V(A:eL)(m:Nat):Option (aY×aY):=match A with
 | .hl m' k o::_=>if m'=m then some (k,o)else none
 |_=>none
def Q3(p:Cf)(x:Option (Stop×Cf)):Option (Stop×Cf):=match x with
 |some (s,q)=>some (s,p++q)
 |none=>none
def go(P:Program)(rf:St->Option D)(nt:Nat):Nat->Cfg->List Fr->St->eL->Option (Stop×Cf)
 |0,_,_,_,_=>none
 |n+1,.run c,K,st,A=>(match c with
  | .skip=>go P rf nt n .Zh K st A
  | .ret=>(match rf st with|some d=>some (.ret d,[])|none=>none)
  | .exit id=>go P rf nt n (.ex id) K st A
  | .seq x y=>go P rf nt n (.run x) (.sq y::K) st A
  | .block id x=>go P rf nt n (.run x) (.bl id::K) st A
  | .loop x=>(match A with
   | .cn k o::_=>(if o.Nodup then some (.lp x K (st.DU k o),[])else none)
   | .pb id off e sz::A=>(match st.prom id off e sz with|some yX=>(match shares A yX with| (Ol,A2)=>go P rf nt n (.run (.loop x)) K Ol A2)|none=>none)
   |_=>none)
  | .cond x y z=>(match st.ev x,A with
   | .bool b,.b v::A=>Q3 [b=v] (go P rf nt n (.run (match v with|true=>y|false=>z)) K st A)
   |_,_=>none)
  | .region _ ops dr=>(match dr with
   |false=>(match yu P nt ops ops.toList st A with|some (yX,A1,p)=>Q3 p (go P rf nt n .Zh K yX A1)|none=>none)
   |true=>(match A with
    | .n k::A=>(match YV ops k with
     |true=>(match xy P nt ops st.H (ops.toList.take k) st.σ [] [] A with
      |some (σ1,acc,A1,p)=>(match yu P nt ops (ops.toList.drop k) ⟨σ1,st.H++acc⟩ A1 with|some (Ol,A2,q)=>Q3 (p++q) (go P rf nt n .Zh K Ol A2)|none=>none)
      |none=>none)
     |false=>none)
    | .n2 π ρ k m L X::A=>(match Mj ops π ρ,vi ops π ρ with
     |true,ops'=>(match Np ops'.toArray k m L with
      |true=>(match xy P nt ops'.toArray st.H (ops'.take k) st.σ [] [] A with
       |some (σ1,acc,A1,p)=>(match a0P X ⟨σ1,st.H⟩ ops' L,OO P nt X ((ops'.drop k).take (m-k)) ⟨σ1,st.H++acc⟩ A1 with
        |true,some (yX,A2,p2)=>(match yu P nt ops'.toArray (ops'.drop m) yX A2 with|some (Ol,A3,q)=>Q3 (p++(p2++q)) (go P rf nt n .Zh K Ol A3)|none=>none)
        |_,_=>none)
       |none=>none)
      |false=>none)
     |false,_=>none)
    |_=>none))
  |_=>none)
 |n+1,.Zh,K,st,A=>(match K with
  | []=>(match rf st with|some d=>some (.ret d,[])|none=>none)
  | .sq y::K=>(match a9V A K.length with|some (k,o)=>(if o.Nodup then some (.at_ y K (st.DU k o),[])else none)|none=>go P rf nt n (.run y) K st A)
  | .bl _::K=>go P rf nt n .Zh K st A
  | .lp::K=>(match A with| .cn k o::_=>(if o.Nodup then some (.cont (depth K) (st.DU k o),[])else none)|_=>none))
 |n+1,.ex id,K,st,A=>(match K with
  | []=>none
  | .sq _::K=>go P rf nt n (.ex id) K st A
  | .bl i::K=>(if id=i then go P rf nt n .Zh K st A else go P rf nt n (.ex id) K st A)
  | .lp::K=>go P rf nt n (.ex id) K st A)
section
variable{P:Program}{Γ:tY}{Q:Exit->St->Prop}{N:Nat->St->Prop}
def KQ(P:Program)(Γ:tY)(N:Nat->St->Prop)(Q:Exit->St->Prop):List Fr->Exit->St->Prop
 | []=>Q
 | .sq y::K=>a0V (AW P Γ y (KQ P Γ N Q K)) (KQ P Γ N Q K)
 | .bl id::K=>QH id (KQ P Γ N Q K)
 | .lp::K=>a0V (fun st=>∃k o,o.Nodup/\N (depth K) (st.DU k o)) (KQ P Γ N Q K)
theorem a43:∀(K:List Fr) {st:St},Q .ret st->KQ P Γ N Q K .ret st:=by
 intro K
 induction K with
 |nil=>intro st h;exact h
 |cons f K ih=>intro st h;cases f<;>exact ih h
theorem Rh{N':Nat->St->Prop}:∀(K:List Fr),(∀d,d<depth K->N d=N' d)->KQ P Γ N Q K=KQ P Γ N' Q K:=by
 intro K
 induction K with
 |nil=>intro _;rfl
 |cons f K ih=>
  intro h;cases f with
  |sq y=>simp only[KQ];rw[ih h]
  |bl id=>simp only[KQ];rw[ih h]
  |lp=>simp only[KQ];rw[ih (fun d hd=>h d (by simp only[depth];omega)),h (depth K) (by simp only[depth];omega)]
theorem DK{nt:Nat}(hnt:Γ.nt=nt){all:Array Oper}{Ol:St}{A2:eL}:∀ {ops:List Oper} {st:St} {A:eL} {p:Cf},yu P nt all ops st A=some (Ol,A2,p)->xd p->Q .normal Ol->AO P Γ all ops Q st:=by
 intro ops
 induction ops with
 |nil=>
  intro st A p h _ hq;simp only[yu]at h;cases hsh:shares A st with
  |mk yX A1=>
   rw[hsh]at h;simp only[ar,cR]at h;obtain⟨rfl,_,_⟩:=h;exact fun κ Θ a w hs=>wpList_nil ⟨_,_,_,hs.shares hsh,hq⟩
 |cons o rest ih=>
  intro st A p h hp hq;simp only[yu]at h;split at h
  ·rename_i hg;split at h
   ·rename_i yX A1 p1 h1;split at h
    ·rename_i a2U A2' q h2;cases h;exact Q9 hnt hg h1 hp.app.1 (ih h2 hp.app.2 hq)
    ·cases h
   ·cases h
  ·rename_i j want hg;split at h
   ·rename_i s v A1 hj;split at h
    ·rename_i b hb;split at h
     ·rename_i hv;simp only[cj]at hv;subst hv;split at h
      ·rename_i yX A2' p1 h1;split at h
       ·rename_i a2U A3 q h2;cases h;refine NW (b:=b) hg hj hb ?_ (fun _=>Q9 hnt rfl h1 hp.2.app.1 (ih h2 hp.2.app.2 hq)) (fun hne=>absurd hp.1 hne);intro t ht;exact a0O hnt h1 ht
       ·cases h
      ·cases h
     ·rename_i hv;split at h
      ·rename_i t hd;split at h
       ·rename_i ht;split at h
        ·rename_i a2U A3 q h2;cases h;refine NW (b:=b) hg hj hb (fun t' ht'=>?_) (fun e=>?_) (fun _=>?_)
         ·rw[hd]at ht';cases ht';rw[hnt];exact ht
         ·exfalso;have:=hp.1;simp only[dJ,ne_eq]at hv;exact hv (this.symm.trans e)
         ·rw[hd];exact ih h2 hp.2 hq
        ·cases h
       ·cases h
      ·rename_i hd;split at h
       ·rename_i a2U A3 q h2;cases h;refine NW (b:=b) hg hj hb (fun t' ht'=>?_) (fun e=>?_) (fun _=>?_)
        ·rw[hd]at ht';cases ht'
        ·exfalso;have:=hp.1;simp only[dJ,ne_eq]at hv;exact hv (this.symm.trans e)
        ·rw[hd];exact ih h2 hp.2 hq
       ·cases h
    ·rename_i hb;split at h
     ·rename_i t hd;split at h
      ·rename_i ht;refine PV hg hj hb (fun t' ht'=>?_) ?_
       ·rw[hd]at ht';cases ht';rw[hnt];exact ht
       ·rw[hd];exact ih h hp hq
      ·cases h
     ·rename_i hd;refine PV hg hj hb (fun t' ht'=>?_) ?_
      ·rw[hd]at ht';cases ht'
      ·rw[hd];exact ih h hp hq
    ·cases h
   ·cases h
theorem MW{H:bS}{r:Nat}{σ:List (Nat×D)}{o:Oper}{A A1:eL}{d:D}{obs:bS}{p:Cf}(t:Option Nat)(u:Option (Nat×Ob))(h:VI P H r σ o A=some (d,obs,A1,p))(hp:xd p):K3 P H σ o ⟨t,d,r,obs,u⟩:=by
 have plain:∀ {x},(match I5 P ⟨σ,H⟩ x A with|some (d,A,ow)=>some (d,([]:bS),A,ow)|none=>none)=some (d,obs,A1,p)->pv P ⟨σ,H⟩ x=some d/\obs=[]:=by
  intro x h;split at h
  ·rename_i d' A' ow h1;cases h;exact⟨W7 h1 hp,rfl⟩
  ·cases h
 unfold VI at h;split at h
 ·rename_i c hop;split at h
  ·rename_i f hc;split at h
   ·rename_i ds ms d' A' h1;split at h
    ·rename_i hsh;cases h;exact .inl (.inr ⟨f,_,_,ds,ms,d',hop.trans (congrArg Op.call (qn c hc rfl rfl)),.inl (by simpa using h1),hsh,hp.1,.inl rfl⟩)
    ·cases h
   ·rename_i ds ms d' A' h1;split at h
    ·rename_i hc2;cases h;exact .inl (.inr ⟨f,_,_,ds,ms,d',hop.trans (congrArg Op.call (qn c hc rfl rfl)),.inl (by simpa using h1),.inr hc2.2,hp.1,.inr ⟨hc2.1,rfl,rfl⟩⟩)
    ·cases h
   ·rename_i d' A';split at h
    ·rename_i hk;cases h;exact .inl (.inr ⟨f,_,_,_,[],d',hop.trans (congrArg Op.call (qn c hc rfl rfl)),.inr ⟨by simpa using hk,by simp,rfl⟩,.inl rfl,hp.1,.inl rfl⟩)
    ·cases h
   ·cases h
  ·exact .inl (.inl (plain h))
 ·rename_i T hop;split at h
  ·rename_i zs hz;cases h;exact .inr (.inl (.inl ⟨T,zs,hop,hz,rfl,rfl⟩))
  ·cases h
 ·rename_i T x hop;split at h
  ·rename_i ds hc;cases h;exact .inr (.inl (.inr ⟨T,x,ds,hop,hc,rfl,rfl⟩))
  ·cases h
 ·rename_i T len parts hop;split at h
  ·rename_i e sz h1;split at h
   ·rename_i zs h2;split at h
    ·rename_i ds h3;split at h
     ·split at h
      ·rename_i hc;obtain⟨c1,c2,c3,c4⟩:=hc;cases h;exact .inr (.inr (.inr ⟨T,e,sz,len,parts,zs,ds,hop,h1,h2,c1,c2,h3,c3,c4,rfl,rfl⟩))
      ·cases h
     ·split at h
      ·rename_i es ms h4;split at h
       ·rename_i hc;obtain⟨c1,c2,rfl⟩:=hc;cases h;exact .inr (.inr (.inl ⟨T,e,sz,len,parts,zs,ds,es,hop,h1,h2,c1,c2,h3,h4,rfl,rfl⟩))
       ·cases h
      ·cases h
    ·cases h
   ·cases h
  ·cases h
 ·exact .inl (.inl (plain h))
theorem I9{nt:Nat}(hnt:Γ.nt=nt){all:Array Oper}{H:bS}{K:List (Nat×D)->bS->Prop}{σ2:List (Nat×D)}{Rp:bS}{A2:eL}:∀ {ops:List Oper} {σ:List (Nat×D)} {acc:bS} {U:aY} {A:eL} {p:Cf},
 xy P nt all H ops σ acc U A=some (σ2,Rp,A2,p)->xd p->K σ2 Rp->MV P Γ all H K ops σ acc U:=by
 subst hnt;intro ops
 induction ops with
 |nil=>
  intro σ acc U A p h _ hK;simp only[xy,ar,cR]at h;obtain⟨rfl,rfl,_,_⟩:=h;exact hK
 |cons o rest ih=>
  intro σ acc U A p h hp hK;simp only[xy]at h;split at h
  ·rename_i hd;split at h
   ·rename_i T x y hop hg;split at h
    ·rename_i id off ds h1 h2;split at h
     ·rename_i zs h3;split at h
      ·rename_i hc;obtain⟨rfl,c2,c3,c4,c5,c6⟩:=hc;exact⟨⟨none,.any,H.length+acc.length,[],some (id,.box ds)⟩,rfl,.inr ⟨rfl,rfl,hd,hg,T,x,y,id,ds,hop,h1,c2,h2,c4,c5,rfl⟩,⟨c3,c2,zs,ds,h3,rfl,c6⟩,ih h hp hK⟩
      ·cases h
     ·cases h
    ·cases h
   ·cases h
  ·rename_i t hd;split at h
   ·rename_i ht;split at h
    ·rename_i hg;split at h
     ·rename_i d obs A1 p1 h1;split at h
      ·rename_i σ3 a69 A3 q h2;cases h;exact⟨⟨some t,d,H.length+acc.length,obs,none⟩,rfl,.inl ⟨t,rfl,rfl,hd,ht,.inl ⟨hg,MW _ _ h1 hp.app.1⟩⟩,trivial,ih h2 hp.app.2 hK⟩
      ·cases h
     ·cases h
    ·rename_i j want hg;split at h
     ·rename_i s v A1 hj;split at h
      ·rename_i b hb;split at h
       ·rename_i hv;simp only[cj]at hv;subst hv;split at h
        ·rename_i d obs A2' p1 h1;split at h
         ·rename_i σ3 a69 A3 q h2;cases h;exact⟨⟨some t,d,H.length+acc.length,obs,none⟩,rfl,.inl ⟨t,rfl,rfl,hd,ht,.inr (.inl ⟨j,s,v,b,hg,hj,hb,.inl ⟨hp.1,MW _ _ h1 hp.2.app.1⟩⟩)⟩,trivial,ih h2 hp.2.app.2 hK⟩
         ·cases h
        ·cases h
       ·rename_i hv;simp only[dJ,ne_eq]at hv;split at h
        ·rename_i σ3 a69 A3 q h2;cases h;refine⟨⟨some t,.ij [],H.length+acc.length,[],none⟩,rfl,.inl ⟨t,rfl,rfl,hd,ht,.inr (.inl ⟨j,s,want,b,hg,hj,hb,.inr ⟨fun e=>hv (hp.1.symm.trans e),rfl,rfl⟩⟩)⟩,trivial,?_⟩;simp only[Cp.fill,cO];exact ih h2 hp.2 hK
        ·cases h
      ·rename_i hb;refine⟨⟨some t,.ij [],H.length+acc.length,[],none⟩,rfl,.inl ⟨t,rfl,rfl,hd,ht,.inr (.inr ⟨j,s,want,hg,hj,hb,rfl,rfl⟩)⟩,trivial,?_⟩;simp only[Cp.fill,cO];exact ih h hp hK
      ·cases h
     ·cases h
   ·cases h
def Th(P:Program)(Γ:tY)(N:Nat->St->Prop)(Q:Exit->St->Prop)(d0:D):Stop->Prop
 | .ret d=>d=d0
 | .lp c K st=>AW P Γ (.loop c) (KQ P Γ N Q K) st
 | .cont k st=>N k st
 | .at_ c K st=>AW P Γ c (KQ P Γ N Q K) st
theorem Re{c:Code}{st:St}{k o:aY}(hnd:o.Nodup)(h:AW P Γ c Q (st.DU k o)):AW P Γ c Q st:=by
 intro κ Θ a w hs;obtain⟨κ',Θ',hs'⟩:=hs.DU k o hnd;exact h κ' Θ' a w hs'
theorem a5K{fn:Func}{st:St}{d:D}{e:Exit}(he:e=.ret\/e=.normal){nz:List (List (Option (Nat×Nat)))}(h:a5J P (fn.results.toList,nz) st=some d):Tg P fn d e st:=by
 unfold a5J at h;split at h
 ·rename_i ds h1;split at h
  ·rename_i es ms qs h2;split at h
   ·rename_i hc;cases h;exact⟨he,nz,ds,es,ms,qs,h1,h2,hc.1,hc.2,rfl⟩
   ·cases h
  ·cases h
 ·cases h
def a66(P:Program)(Γ:tY)(N:Nat->St->Prop)(Q:Exit->St->Prop)(K:List Fr)(st:St):Cfg->Prop
 | .run c=>AW P Γ c (KQ P Γ N Q K) st
 | .Zh=>KQ P Γ N Q K .normal st
 | .ex id=>KQ P Γ N Q K (.exit id) st
theorem DQ{p q:Cf}{x:Option (Stop×Cf)}{s:Stop}(h:Q3 p x=some (s,q)):∃q',x=some (s,q')/\q=p++q':=by
 unfold Q3 at h;split at h
 ·cases h;exact⟨_,rfl,rfl⟩
 ·cases h
theorem go_sound{rf:St->Option D}{d0:D}(hrf:∀st e,(e=.ret\/e=.normal)->rf st=some d0->Q e st){nt:Nat}(hnt:Γ.nt=nt)(hm:P.follows .mixedOrders=true):∀ {n:Nat} {cfg:Cfg} {K:List Fr} {st:St} {A:eL} {s:Stop} {p:Cf},go P rf nt n cfg K st A=some (s,p)->xd p->Th P Γ N Q d0 s->a66 P Γ N Q K st cfg:=by
 intro n
 induction n with
 |zero=>intro cfg K st A s p h;simp[go]at h
 |succ n ih=>
  intro cfg K st A s p h hp hs;cases cfg with
  |run c=>
   show AW P Γ c (KQ P Γ N Q K) st;cases c with
   |skip=>simp only[go]at h;exact a1F (ih h hp hs)
   |ret=>
    simp only[go]at h;split at h
    ·rename_i d hd;simp only[ar,cR]at h;obtain⟨rfl,_⟩:=h;have hd0:d=d0:=hs;subst hd0;exact a41 (a43 K (hrf st _ (.inl rfl) hd))
    ·cases h
   |exit id=>simp only[go]at h;exact a1E (ih h hp hs)
   |seq x y=>simp only[go]at h;exact a42 (ih h hp hs)
   |block id x=>simp only[go]at h;exact Y7 (ih h hp hs)
   |loop x=>
    simp only[go]at h;split at h
    ·split at h
     ·rename_i hnd;simp only[ar,cR]at h;obtain⟨rfl,_⟩:=h;exact Re hnd hs
     ·cases h
    ·split at h
     ·rename_i A0 x0 yX hst;intro κ Θ a w a9q;obtain⟨κ',hs'⟩:=a9q.prom hst;exact(ih h hp hs:AW P Γ (.loop x) (KQ P Γ N Q K) (shares A0 yX).1) κ' Θ a w (hs'.shares (rfl:shares A0 yX=((shares A0 yX).1,(shares A0 yX).2)))
     ·cases h
    ·cases h
   |cond x y z=>
    simp only[go]at h;split at h
    ·rename_i b v A1 hx;obtain⟨q,h1,rfl⟩:=DQ h;obtain⟨hb,hp'⟩:=hp;subst hb;refine a1C hx (fun e=>?_) (fun e=>?_)
     ·subst e;exact ih h1 hp' hs
     ·subst e;exact ih h1 hp' hs
    ·cases h
   |region id ops dr=>
    simp only[go]at h;cases dr with
    |false=>
     simp only at h;split at h
     ·rename_i yX A1 p1 h1;obtain⟨q,h2,rfl⟩:=DQ h;have:=DK (Q:=KQ P Γ N Q K) hnt h1 hp.app.1 (ih h2 hp.app.2 hs);have hr:=WJ (id:=id) (l:=ops.toList) (by simpa using this);simpa using hr
     ·cases h
    |true=>
     simp only at h;split at h
     ·rename_i k A1;split at h
      ·rename_i hB;split at h
       ·rename_i σ1 acc A2 p1 h1;split at h
        ·rename_i Ol A3 p2 h2;obtain⟨q,h3,rfl⟩:=DQ h;have hq:=hp.app.1.app;have h4:=DK (Q:=KQ P Γ N Q K) hnt h2 hq.2 (ih h3 hp.app.2 hs);have h5:=I9 (Γ:=Γ) (K:=fun σ acc=>AO P Γ ops (ops.toList.drop k) (KQ P Γ N Q K) ⟨σ,st.H++acc⟩) hnt h1 hq.1 h4;have hr:=a1D (id:=id) (l:=ops.toList) (Q:=KQ P Γ N Q K) (st:=st) k hm (by simpa using hB) (by simpa using h5);simpa using hr
        ·cases h
       ·cases h
      ·cases h
     ·rename_i π ρ k m L X A1;split at h
      ·rename_i ops' hB1;generalize a9f:vi ops π ρ=ops' at h;split at h
       ·rename_i hB;split at h
        ·rename_i σ1 acc A2 p1 h1;split at h
         ·rename_i yX A3 p2 hst hmid;split at h
          ·rename_i Ol A4 p3 h2;obtain⟨q,h3,rfl⟩:=DQ h;have hq:=hp.app.1.app;have Jx:=hq.2.app;have h4:=DK (Q:=KQ P Γ N Q K) hnt h2 Jx.2 (ih h3 hp.app.2 hs);have h6:=Qm (Γ:=Γ) (K:=fun ve=>AO P Γ ops'.toArray (ops'.drop m) (KQ P Γ N Q K) ve) hnt hmid Jx.1 h4;have h5:=I9 (Γ:=Γ) (K:=fun σ acc=>(∀i∈L,∀o,ops'[i]?=some o->DN X ⟨σ,st.H⟩ o.op=true)/\Xu P Γ X (fun ve=>AO P Γ ops'.toArray (ops'.drop m) (KQ P Γ N Q K) ve) ((ops'.drop k).take (m-k)) ⟨σ,st.H++acc⟩) hnt h1 hq.1 ⟨XO hst,h6⟩;have hr:=WR (l:=ops') (Q:=KQ P Γ N Q K) (st:=st) k m L hB h5;rw[<-a9f]at hr;exact(hr.perm hB1).aw hm
          ·cases h
         ·cases h
        ·cases h
       ·cases h
      ·cases h
     ·cases h
   |_=>simp[go]at h
  |Zh=>
   show KQ P Γ N Q K .normal st;simp only[go]at h;split at h
   ·split at h
    ·rename_i d hd;simp only[ar,cR]at h;obtain⟨rfl,_⟩:=h;have hd0:d=d0:=hs;subst hd0;exact hrf st _ (.inr rfl) hd
    ·cases h
   ·split at h
    ·split at h
     ·rename_i hnd;simp only[ar,cR]at h;obtain⟨rfl,_⟩:=h;exact Re hnd hs
     ·cases h
    ·exact ih (cfg:=.run _) h hp hs
   ·exact ih (cfg:=.Zh) h hp hs
   ·split at h
    ·split at h
     ·rename_i k o _ hnd;simp only[ar,cR]at h;obtain⟨rfl,_⟩:=h;exact⟨k,o,hnd,hs⟩
     ·cases h
    ·cases h
  |ex id=>
   show KQ P Γ N Q K (.exit id) st;simp only[go]at h;split at h
   ·cases h
   ·exact ih (cfg:=.ex id) h hp hs
   ·rename_i i K;simp only[KQ,QH];split at h
    ·rename_i e;rw[bX e];exact ih (cfg:=.Zh) h hp hs
    ·rename_i e;rw[bL e];exact ih (cfg:=.ex id) h hp hs
   ·exact ih (cfg:=.ex id) h hp hs
def dig:Code->aY->List Fr->Code×List Fr
 |c,[],K=>(c,K)
 | .seq x y,i::p,K=>(match i with|0=>dig x p (.sq y::K)|_=>dig y p K)
 | .block id c,_::p,K=>dig c p (.bl id::K)
 | .cond _ x y,i::p,K=>(match i with|0=>dig x p K|_=>dig y p K)
 | .loop c,_::p,K=>dig c p (.lp::K)
 |c,_::_,K=>(c,K)
def a3B:Ob->Option D
 | .eC sz rows (some v)=>some (.agg [.fr 0 sz rows,.val v])
 |_=>none
def MH:Nat->bS->Option aQ
 |0,_=>some []
 |n+1,o::H=>(match a3B o,MH n H with|some d,some ds=>some (d::ds)|_,_=>none)
 |_+1,[]=>none
def Zu(P:Program)(rs:List ResultVar)(n:Nat)(st:St):Option D:=match DY P st rs with
 |some ds=>(if ds.all D.flat=true then match MH n st.H with|some es=>some (.ij (Ad ds::es))|none=>none else none)
 |none=>none
def UZ:List Rw->bh->aQ
 |x::xs,v::vs=>.agg [.fr 0 x.1 x.2,.val v]::UZ xs vs
 |_,_=>[]
theorem UN:∀ {n:Nat} {H:bS} {outs:List Rw} {vs:bh},MH n H=some (UZ outs vs)->∀(i:Nat) x v,outs[i]?=some x->vs[i]?=some v->H[i]?=some (x.ob (some v)):=by
 intro n
 induction n with
 |zero=>
  intro H outs vs h i x v hx hv;cases outs with
  |nil=>simp at hx
  |cons y ys=>
   cases vs with
   |nil=>simp at hv
   |cons u us=>simp[MH,UZ]at h
 |succ n ih=>
  intro H outs vs h i x v hx hv;cases outs with
  |nil=>simp at hx
  |cons y ys=>
   cases vs with
   |nil=>simp at hv
   |cons u us=>
    cases H with
    |nil=>simp[MH]at h
    |cons o H=>
     simp only[MH,UZ]at h;split at h
     ·rename_i d ds h1 h2;simp only[ar,yd]at h;obtain⟨rfl,rfl⟩:=h;cases i with
      |zero=>
       simp at hx hv;subst hx;subst hv;unfold a3B at h1;split at h1
       ·simp only[ar,D.agg.injEq,yd,D.fr.injEq,D.val.injEq,uE,and_true]at h1;obtain⟨⟨h3,h4⟩,h5⟩:=h1;simp[Rw.ob,h3,h4,h5]
       ·cases h1
      |succ i=>simpa using ih h2 i x v (by simpa using hx) (by simpa using hv)
     ·cases h
theorem a2G{fn:Func}{st:St}{d:D}{outs:List Rw}{vs:bh}{n:Nat}{e:Exit}(he:e=.ret\/e=.normal)(h:Zu P fn.results.toList n st=some (.ij (d::UZ outs vs))):sE P fn vs outs d e st:=by
 unfold Zu at h;split at h
 ·rename_i ds h1;split at h
  ·rename_i hf;split at h
   ·rename_i es h2;simp only[ar,D.ij.injEq,yd]at h;obtain⟨rfl,rfl⟩:=h;exact⟨he,ds,h1,hf,rfl,UN h2⟩
   ·cases h
  ·cases h
 ·cases h
theorem eU{fn:Func}{d:D}{outs:List Rw}{vs:bh}{nt n:Nat}(m:Nat){c:Code}{K:List Fr}{st:St}(A:eL)(s:Stop){p:Cf}(hnt:Γ.nt=nt)(hm:P.follows .mixedOrders=true)(h:go P (Zu P fn.results.toList m) nt n (.run c) K st A=some (s,p))(hp:xd p)
 (hs:Th P Γ N (sE P fn vs outs d) (.ij (d::UZ outs vs)) s):AW P Γ c (KQ P Γ N (sE P fn vs outs d) K) st:=go_sound (Q:=sE P fn vs outs d) (N:=N) (K:=K) (st:=st) (d0:=.ij (d::UZ outs vs)) (cfg:=.run c) (fun _ _ he h=>a2G he h) hnt hm h hp hs
def a3Z(P:Program)(rs:List ResultVar×List (List (Option (Nat×Nat))))(st:St):Option D:=match DY P st rs.1,(st.H[0]?:Option Ob)with
 |some ds,some (Ob.NF cells v)=>(match CQ st.H rs.2 (.agg cells::ds)with
  |some (.agg cells'::es,ms,qs)=>(if ms.Nodup/\qs.Nodup then some (.ij [Ad es,.agg cells',.val v])else none)
  |_=>none)
 |_,_=>none
def a3Y(P:Program)(rs:List ResultVar)(st:St):Option D:=match DY P st rs with
 |some [.ptr j 0]=>(match st.H[j]? with|some (.box cells)=>(if cells.all D.Rb=true then some (.agg cells)else none)|_=>none)
 |_=>none
inductive Kd where
 |q (nz:List (List (Option (Nat×Nat)))) (d:D)
 |p (nz:List (List (Option (Nat×Nat)))) (v:Value) (cells:aQ) (d:D)
 |n (cells:aQ)
def Kd.rf(P:Program)(fn:Func)(k:Kd)(st:St):Option D:=match k with
 | .q nz _=>a5J P (fn.results.toList,nz) st
 | .p nz _ _ _=>a3Z P (fn.results.toList,nz) st
 | .n _=>a3Y P fn.results.toList st
def Kd.d0:Kd->D
 | .q _ d=>d
 | .p _ v cells d=>.ij [d,.agg cells,.val v]
 | .n cells=>.agg cells
def Kd.qq(P:Program)(fn:Func):Kd->Exit->St->Prop
 | .q _ d=>Tg P fn d
 | .p _ v cells d=>YD P fn v cells d
 | .n cells=>a8p P fn cells
theorem Kd.ok{fn:Func}(k:Kd){st:St}{e:Exit}(he:e=.ret\/e=.normal)(h:k.rf P fn st=some k.d0):k.qq P fn e st:=by
 cases k with
 |q nz d=>exact a5K he h
 |p nz v cells d=>
  simp only[Kd.rf,a3Z,Kd.d0]at h;split at h
  ·rename_i ds QI v' h1 h2;split at h
   ·rename_i cells' es ms qs h3;split at h
    ·rename_i hc;simp only[ar,D.ij.injEq,yd,D.agg.injEq,D.val.injEq,and_true]at h;obtain⟨rfl,rfl,rfl⟩:=h;exact⟨he,_,_,_,_,_,_,h1,h2,h3,hc.1,hc.2,rfl⟩
    ·cases h
   ·cases h
  ·cases h
 |n cells=>
  simp only[Kd.rf,a3Y,Kd.d0]at h;split at h
  ·rename_i j h1;split at h
   ·rename_i cells' h2;split at h
    ·rename_i hc;simp only[ar,D.agg.injEq]at h;subst h;exact⟨he,j,h1,h2,hc⟩
    ·cases h
   ·cases h
  ·cases h
theorem NX{fn:Func}{k:Kd}{nt n:Nat}{c:Code}{K:List Fr}{st:St}(A:eL)(s:Stop){p:Cf}(hnt:Γ.nt=nt)(hm:P.follows .mixedOrders=true)(h:go P (k.rf P fn) nt n (.run c) K st A=some (s,p))(hp:xd p)
 (hs:Th P Γ N (k.qq P fn) k.d0 s):AW P Γ c (KQ P Γ N (k.qq P fn) K) st:=go_sound (Q:=k.qq P fn) (N:=N) (K:=K) (st:=st) (d0:=k.d0) (cfg:=.run c) (fun _ _ he h=>k.ok he h) hnt hm h hp hs
def Ms(P:Program)(Γ:tY)(c:Code)(Q:Exit->St->Prop)(n:Nat)(st:St):Prop:=
 ∀κ Θ a w,dY Γ st κ Θ a w->Code.rounds P c (fun e a' w'=>∃ve κ' Θ',dY Γ ve κ' Θ' a' w'/\Q e ve) n a w
theorem vf{c:Code}{n:Nat}{st:St}(h:Ms P Γ c Q n st):AW P Γ (.loop c) Q st:=fun κ Θ a w hs=>wp_loop_rounds n (h κ Θ a w hs)
theorem aP{c:Code}{K:List Fr}{n:Nat}{st:St}
 (h:∀N',(∀d,d<depth K->N' d=N d)->N' (depth K)=Ms P Γ c (KQ P Γ N Q K) n->AW P Γ c (KQ P Γ N' Q (.lp::K)) st):Ms P Γ c (KQ P Γ N Q K) (n+1) st:=by
 intro κ Θ a w hs;have:=h (fun d=>if d<depth K then N d else Ms P Γ c (KQ P Γ N Q K) n) (fun d hd=>bX hd) (bL (by omega));simp only[KQ]at this;rw[bL (by omega)]at this;rw[<-Rh (N:=N) (N':=fun d=>if d<depth K then N d else Ms P Γ c (KQ P Γ N Q K) n) K (fun d hd=>(bX hd).symm)]at this;rw[rounds_succ];refine wp_mono (this κ Θ a w hs) ?_;rintro e a' w' ⟨ve,κ',Θ',hs',hq⟩;cases e with
 |normal=>
  obtain⟨k,o,hnd,hR'⟩:=hq;obtain⟨κ2,Θ2,hs2⟩:=hs'.DU k o hnd;exact hR' κ2 Θ2 a' w' hs2
 |exit id=>exact⟨_,_,_,hs',hq⟩
 |goto l=>exact⟨_,_,_,hs',hq⟩
 |ret=>exact⟨_,_,_,hs',hq⟩
 |panic c=>exact⟨_,_,_,hs',hq⟩
 |outgrown=>exact⟨_,_,_,hs',hq⟩
end
theorem aO{α:Type}{c:Bool}{x y:Option α}{r:α}(h:(bif c then x else y)=some r):(c=true/\x=some r)\/(c=false/\y=some r):=by
 cases c
 ·exact .inr ⟨rfl,h⟩
 ·exact .inl ⟨rfl,h⟩
theorem bY{α:Type}{c:Bool}{x:Option α}{r:α}(h:(bif c then x else none)=some r):c=true/\x=some r:=by
 cases c
 ·cases h
 ·exact⟨rfl,h⟩
theorem aD{α β:Type}{x:Option α}{f:α->Option β}{r:β}(h:x.bind f=some r):∃y,x=some y/\f y=some r:=by
 cases x with
 |none=>cases h
 |some y=>exact⟨y,rfl,h⟩
theorem aE{α:Type}{x y:α}(h:some x=some y):x=y:=by cases h;rfl
theorem B3:xd []:=trivial
theorem ow{p:Prop}{ps:Cf}(h:p)(t:xd ps):xd (p::ps):=⟨h,t⟩
def nF{α:Type}(l:List α)(i:Int):Option α:=bif decide (0<=i)then l[i.toNat]? else none
theorem VF{α β:Type}{l:List α}{i:Int}{x:α}(f:α->β)(h:nF l i=some x):0<=i/\(l.map f)[i.toNat]?=some (f x):=by
 unfold nF at h;cases hd:decide (0<=i)with
 |false=>rw[hd]at h;cases h
 |true=>rw[hd]at h;simp only[aU]at h;exact⟨by simpa using hd,by rw[cF,h];rfl⟩
theorem a45{l:Bytes}{i:Int}{x:UInt8}(h:nF l i=some x):0<=i/\l[i.toNat]?=some x:=by
 unfold nF at h;cases hd:decide (0<=i)with
 |false=>rw[hd]at h;cases h
 |true=>rw[hd]at h;exact⟨by simpa using hd,h⟩
def fuel:Nat:=4194304
theorem dO{α:Type}{l:List α}{i:Int}{x:α}(f:α->aQ)(n:Nat)(h:nF l i=some x)(hn:(f x).length=n):0<=i/\(l.map f)[i.toNat]?=some (f x)/\(f x).length=n:=⟨(VF f h).1,(VF f h).2,hn⟩
theorem xp{i n:Nat}(sz:Nat)(h:decide (i<n)=true):sz=sz/\(i:Int)=((i:Nat):Int)/\i<n:=⟨rfl,rfl,bp h⟩
theorem oK{α:Type}{l:List α}{i:Nat}{x:α}(f:α->aQ)(sz:Nat)(h:l[i]?=some x):sz=sz/\(i:Int)=((i:Nat):Int)/\i<(l.map f).length:=⟨rfl,rfl,by rw[aa];exact(aF.1 h).1⟩
theorem Qu{α:Type}{l:List α}{i:Int}{x:α}(f:α->aQ)(sz:Nat)(h:nF l i=some x):sz=sz/\i=((i.toNat:Nat):Int)/\i.toNat<(l.map f).length:=by
 obtain⟨h0,h1⟩:=VF f h;exact⟨rfl,by omega,(aF.1 h1).1⟩
theorem NL{α:Type}{l:List α}{i:Int}{x:α}(h:nF l i=some x):l[i.toNat]?=some x:=by
 have:=(VF (fun y=>y) h).2;simpa using this
theorem Qz{x y:Int}(k:IntKind)(h:(decide (0<=x)&&decide (0<y))=true):k=k/\0<=x/\0<y:=by simpa using h
def room(n b:Nat):Bool:=decide (n<=maxLen)&&decide (n*b<=140737488355328)
theorem cN{n b:Nat}(h:room n b=true):n<=maxLen/\n*b<=140737488355328:=by
 simp only[room,aZ,bM]at h;exact h
def BG(n:Int)(b:Nat):Bool:=decide (0<=n)&&decide (b*n.toNat<=281474976710656)&&decide (n.toNat<=4611686018427387904)
theorem vb{n:Int}{b:Nat}(h:BG n b=true):n=n/\0<=n/\b*n.toNat<=281474976710656/\n.toNat<=4611686018427387904:=by
 simp only[BG,aZ,bM]at h;exact⟨rfl,h.1.1,h.1.2,h.2⟩
theorem Z4{k n:Nat}(h:k<n)(hn:n<=maxLen):IntKind.i64.wrap ((k:Int)+1)=((k+1:Nat):Int):=by
 unfold maxLen at hn;rw[gM (sC.i64.2 (by omega))];omega
theorem a22{k n:Nat}(h:k<n):decide ((k:Int)<(n:Int))=true:=by simp[h]
theorem ZU{k n:Nat}(h:n<=k):decide ((k:Int)<(n:Int))=false:=by simp;omega
theorem drop_cons{α:Type}{l:List α}{k:Nat}{x:α}{xs:List α}(h:l.drop k=x::xs):l[k]?=some x/\k<l.length/\l.drop (k+1)=xs:=by
 have h1:l[k]?=some x:=by
  have:=congrArg (fun m:List α=>m[0]?) h;simpa[eD]using this
 refine⟨h1,(aF.1 h1).1,?_⟩;rw[<-gL,h];rfl
theorem drop_nil{α:Type}{l:List α}{k:Nat}(h:l.drop k=[]):l.length<=k:=by simpa using h
theorem ZW{α β:Type}{l:List α}{k:Nat}{x:α}(f:α->β)(h:l[k]?=some x):0<=(k:Int)/\(l.map f)[(k:Int).toNat]?=some (f x):=⟨by omega,by simp[h]⟩
theorem b9{α:Type}{l:List α}{k:Nat}{x:α}(f:α->aQ)(n:Nat)(h:l[k]?=some x)(hn:(f x).length=n):0<=(k:Int)/\(l.map f)[(k:Int).toNat]?=some (f x)/\(f x).length=n:=⟨(ZW f h).1,(ZW f h).2,hn⟩
theorem ZV{α β:Type}{l:List α}{k:Nat}(f:α->β)(h:k<l.length):decide ((k:Int)<((l.map f).length:Int))=true:=by rw[aa];exact a22 h
theorem Wz{α β:Type}{l:List α}{k:Nat}(f:α->β)(h:l.length<=k):decide ((k:Int)<((l.map f).length:Int))=false:=by rw[aa];exact ZU h
theorem eT{α β:Type}{l:List α}{k:Nat}{x:α}(f:α->β)(h:l[k]?=some x):(l.map f)[k]?=some (f x):=by rw[cF,h];rfl
theorem cX{α β:Type}{f:α->β}(dn:List α)(y z:β)(r:List β):(dn.map f++y::r).set dn.length z=dn.map f++z::r:=by
 rw[lQ _ _ (by simp)];simp
theorem cz{α β:Type}{f:α->β}(dn:List α)(y:β)(r:List β):(dn.map f++y::r)[dn.length]?=some y:=by
 rw[bC (by simp)];simp
theorem Aa{α β:Type}{f:α->β}(dn:List α)(y:β)(r:List β):decide ((dn.length:Int)<((dn.map f++y::r).length:Int))=true:=by
 rw[bM,aS,aa,aL];omega
theorem AX{α β:Type}{f:α->β}(dn:List α):decide ((dn.length:Int)<((dn.map f++([]:List α).map f).length:Int))=false:=by
 rw[nE];simp
theorem wz{n:Nat}(h:n+1<=maxLen):IntKind.i64.wrap ((n:Int)+1)=((n+1:Nat):Int):=by
 unfold maxLen at h;rw[gM (sC.i64.2 (by omega))];omega
def LH{α β:Type}[BEq α](z:β)(k:α):List (α×β)->β
 | []=>z
 |p::r=>bif k==p.1 then p.2 else LH z k r
def a23{α β:Type}[BEq α](k:α):List (α×β)->Bool
 | []=>false
 |p::r=>bif k==p.1 then true else a23 k r
def OJ{α β:Type}[BEq α](k:α)(v:β):List (α×β)->List (α×β)
 | []=>[(k,v)]
 |p::r=>bif k==p.1 then(k,v)::r else p::OJ k v r
def eB(b:Bool):D:=.bool b
def kS{β:Type}(e:β->D)(p:Bytes×β):D×D:=(.str p.1,e p.2)
theorem VQ{β:Type}{e:β->D}(z:β)(k:Bytes):∀(m:List (Bytes×β)),(G6 (.str k) (m.map (kS e))=some none/\a23 k m=false/\LH z k m=z)\/(G6 (.str k) (m.map (kS e))=some (some (e (LH z k m)))/\a23 k m=true)
 | []=>.inl ⟨rfl,rfl,rfl⟩
 |p::r=>by
  simp only[bD,G6,kS,keq,a23,LH];cases hb:k==p.1 with
  |true=>exact .inr ⟨rfl,rfl⟩
  |false=>exact VQ z k r
theorem a7R{P:Program}{T:TypeId}{β:Type}{e:β->D}{z:β}{k:Bytes}{m:List (Bytes×β)}(hT:XV P T=some (.string,e z)):plk P T (m.map (kS e)) (.str k) false=some (e (LH z k m)):=by
 unfold plk;rw[hT];rcases VQ (e:=e) z k m with⟨h1,_,h3⟩|⟨h1,_⟩
 ·simp only[Jh,h1,h3,af]
 ·simp only[Jh,h1,af]
theorem Zo{β:Type}{e:β->D}{k:Bytes}{v:β}:∀ {m:List (Bytes×β)},LD (.str k) (e v) (m.map (kS e))=some ((OJ k v m).map (kS e))
 | []=>rfl
 |p::r=>by
  simp only[bD,LD,OJ];have hq:keq (.str k) (kS e p).1=some (k==p.1):=rfl;rw[hq];cases hb:k==p.1 with
  |true=>rfl
  |false=>simp only[Zo (m:=r),cV,af,bD]
end Go.Cx
namespace Go.Cx
open Go.RowKit Go.Proofs Tryz
abbrev vH:=List Fr
structure aG where
 rel:Bytes
 args:aH
 deriving DecidableEq
structure aK where
 var:Bytes
 value:Bytes
 deriving DecidableEq
structure aM where
 kind:Int
 pat:aG
 left:Bytes
 right:Bytes
 deriving DecidableEq
structure Action where
 kind:Int
 pat:aG
 deriving DecidableEq
structure aN where
 name:Bytes
 prio:Int
 conds:List aM
 ck:List Action
 deriving DecidableEq
structure aR where
 facts:List aG
 bind:List aK
 deriving DecidableEq
structure az where
 rule:Bytes
 facts:List aG
 bind:List aK
 deriving DecidableEq
structure aW where
 shape:aG
 facts:List aG
 deriving DecidableEq
structure Node where
 parent:Int
 cond:aM
 gK:Int
 tokens:List aR
 deriving DecidableEq
structure aJ where
 rules:List aN
 ends:bP
 bJ:List aW
 nodes:List Node
 facts:List aG
 dB:Int
 deriving DecidableEq
structure dH where
 fact:aG
 time:Int
 deriving DecidableEq
structure a8o where
 rule:Bytes
 times:bP
 deriving DecidableEq
structure a8n where
 aCM:az
 prio:Int
 times:bP
 spec:Int
 order:Int
 deriving DecidableEq
structure Cur where
 b:bP
 i:Int
 h:Int
 deriving DecidableEq
abbrev tx(s:Bytes):List D:=[.str s]
abbrev gQ(n:Int):List D:=[.int .i64 n]
abbrev bx(b:Bool):List D:=[.bool b]
abbrev dT(l:List Bytes):D:=.sl (l.map tx)
abbrev dI(l:List Int):D:=.sl (l.map gQ)
abbrev aG.c(x:aG):List D:=[.str x.rel,dT x.args]
abbrev aK.c(x:aK):List D:=[.str x.var,.str x.value]
abbrev aM.c(x:aM):List D:=[.int .i64 x.kind,.str x.pat.rel,dT x.pat.args,.str x.left,.str x.right]
abbrev Action.c(x:Action):List D:=[.int .i64 x.kind,.str x.pat.rel,dT x.pat.args]
abbrev aN.c(x:aN):List D:=[.str x.name,.int .i64 x.prio,.sl (x.conds.map aM.c),.sl (x.ck.map Action.c)]
abbrev aR.c(x:aR):List D:=[.sl (x.facts.map aG.c),.sl (x.bind.map aK.c)]
abbrev az.c(x:az):List D:=[.str x.rule,.sl (x.facts.map aG.c),.sl (x.bind.map aK.c)]
abbrev aW.c(x:aW):List D:=[.str x.shape.rel,dT x.shape.args,.sl (x.facts.map aG.c)]
abbrev Node.c(x:Node):List D:=[.int .i64 x.parent,.int .i64 x.cond.kind,.str x.cond.pat.rel,dT x.cond.pat.args,.str x.cond.left,.str x.cond.right,.int .i64 x.gK,.sl (x.tokens.map aR.c)]
abbrev aJ.c(x:aJ):List D:=[.sl (x.rules.map aN.c),dI x.ends,.sl (x.bJ.map aW.c),.sl (x.nodes.map Node.c),.sl (x.facts.map aG.c),.int .i64 x.dB]
abbrev dH.c(x:dH):List D:=[.str x.fact.rel,dT x.fact.args,.int .i64 x.time]
def jL(fn:Func):Code:=match fn.body with
 |some c=>c
 |none=>.skip
theorem zP:prog.follows .mixedOrders=true:=by kernel_rfl
theorem Mr{P:Program}{Γ:tY}{Q:Exit->St->Prop}{N N':Nat->St->Prop}{c:Code}{K K0:vH}{st:St}(hd:depth K=depth K0)(hN:∀d,d<depth K0->N' d=N d)(t:AW P Γ c (KQ P Γ N Q K) st):AW P Γ c (KQ P Γ N' Q K) st:=by
 rw[Rh (N:=N') (N':=N) K (fun d h=>hN d (by omega))];exact t
theorem uF{P:Program}{Γ:tY}{Q:Exit->St->Prop}{c:Code}{s s':St}(h:s=s')(t:AW P Γ c Q s'):AW P Γ c Q s:=by rw[h];exact t
theorem CI{α:Type}{c:α->aQ}(hc:∀x,(c x).all D.flat=true)(l:List α):(l.map c).flatten.all D.flat=true:=by
 induction l with
 |nil=>rfl
 |cons x l ih=>rw[bD,e9,List.all_append,hc,ih];rfl
abbrev bT:An:=.b true
abbrev bF:An:=.b false
structure Pre(A:List An)(p:Cf):Prop where
 h:xd p
theorem aT:Pre [] []:=⟨trivial⟩
theorem xd.join{p q:Cf}(h:xd p)(k:xd q):xd (p++q):=by
 induction p with
 |nil=>exact k
 |cons x p ih=>exact⟨h.1,ih h.2⟩
theorem Pre.ext{A:eL}{p:Cf}(o:Pre A p)(B:eL){q:Cf}(hq:xd q):Pre (A++B) (p++q):=⟨o.h.join hq⟩
section
variable{A:eL}{p:Cf}
theorem Pre.b(o:Pre A p){c v:Bool}(h:c=v):Pre (A++[.b v]) (p++[c=v]):=o.ext _ ⟨h,trivial⟩
theorem Pre.r(o:Pre A p)(n:Nat){c v:Bool}(h:c=v):Pre (A++List.replicate n (.b v)) (p++List.replicate n (c=v)):=o.ext _ (by
 induction n with
 |zero=>trivial
 |succ n ih=>exact⟨h,ih⟩)
theorem Pre.T(o:Pre A p)(n:Nat):Pre (A++List.replicate n bT) (p++List.replicate n (true=true)):=o.r n rfl
theorem Pre.F(o:Pre A p)(n:Nat):Pre (A++List.replicate n bF) (p++List.replicate n (false=false)):=o.r n rfl
theorem Pre.g(o:Pre A p){f:FuncId}{ds:aQ}{d:D}(h:Good prog f ds d):Pre (A++[.d d]) (p++[Good prog f ds d]):=o.ext _ ⟨h,trivial⟩
theorem Pre.hp(o:Pre A p)(nz:List (List (Option (Nat×Nat)))){f:FuncId}{cells cells' ds:aQ}{d:D}(h:zx prog f cells cells' ds d):Pre (A++[.gp nz cells' d]) (p++[zx prog f cells cells' ds d]):=o.ext _ ⟨h,trivial⟩
theorem Pre.w(o:Pre A p){q:Prop}(h:q):Pre (A++[]) (p++[q]):=o.ext _ ⟨h,trivial⟩
theorem Pre.a(o:Pre A p)(B:eL):Pre (A++B) (p++[]):=o.ext _ (q:=[]) trivial
theorem Pre.l(o:Pre A p){n:Int}{rows:List aQ}{r:aQ}{sz:Nat}(h:0<=n/\rows[n.toNat]?=some r/\r.length=sz):Pre (A++[.row r]) (p++[0<=n/\rows[n.toNat]?=some r/\r.length=sz]):=o.ext _ ⟨h,trivial⟩
theorem Pre.i(o:Pre A p){sz sz' m k:Nat}{n:Int}(h:sz=sz'/\n=((k:Nat):Int)/\k<m):Pre (A++[.ix k]) (p++[sz=sz'/\n=((k:Nat):Int)/\k<m]):=o.ext _ ⟨h,trivial⟩
theorem Pre.o(o:Pre A p)(sz n:Nat)(k:RK){rows:List aQ}{i:Nat}{r:aQ}(h:rows[i]?=some r)(hk:k.Qt=true:=by kernel_rfl)(hn:Nat.ble n sz=true:=by kernel_rfl):Pre (A++[.row r]) (p++[sz=sz/\k.Qt=true/\rows[i]?=some r/\n<=sz]):=o.ext _ ⟨⟨rfl,hk,h,xF hn⟩,trivial⟩
theorem Pre.c(o:Pre A p){s:Bytes}{i:Int}{b:UInt8}(h:nF s i=some b):Pre (A++[.ch b]) (p++[0<=i/\s[i.toNat]?=some b]):=o.ext _ ⟨a45 h,trivial⟩
theorem Pre.lt{α:Type}{l xs:List α}{i:Nat}{x:α}(o:Pre A p)(f:α->aQ)(h:l.drop i=x::xs):Pre (A++[bT]) (p++[decide ((i:Int)<((l.map f).length:Int))=true]):=o.b (ZV f (drop_cons h).2.1)
theorem Pre.ge{α:Type}{l:List α}{i:Nat}(o:Pre A p)(f:α->aQ)(h:l.drop i=[]):Pre (A++[bF]) (p++[decide ((i:Int)<((l.map f).length:Int))=false]):=o.b (Wz f (drop_nil h))
end
theorem dc{α:Type}{l:List α}{k:Nat}{x:α}{xs:List α}(h:l.drop k=x::xs):l[k]?=some x:=(drop_cons h).1
theorem dn{α:Type}{l:List α}{k:Nat}{x:α}{xs:List α}(h:l.drop k=x::xs):l.drop (k+1)=xs:=(drop_cons h).2.2
theorem iS{α:Type}{l:List α}{k:Nat}{x:α}{xs:List α}(h:l.drop k=x::xs)(hn:l.length<=maxLen):IntKind.i64.wrap ((k:Int)+1)=((k+1:Nat):Int):=Z4 (drop_cons h).2.1 hn
theorem mA{α β:Type}(f:α->β):(∀a b:List α,(a++b).map f=a.map f++b.map f)/\(∀(x:α) (a:List α),(x::a).map f=f x::a.map f)/\([]:List α).map f=[]/\(∀(l:List α) (i:Nat) (x:α),(l.set i x).map f=(l.map f).set i (f x))/\(∀(n:Nat) (x:α),(List.replicate n x).map f=List.replicate n (f x))/\(∀(l:List α) (n:Nat),(l.take n).map f=(l.map f).take n):=
 ⟨fun _ _=>bu,fun _ _=>rfl,rfl,fun _ _ _=>List.map_set,fun _ _=>List.map_replicate,fun _ _=>jK⟩
section
variable{Γ:tY}{N N1:Nat->St->Prop}{fn:Func}{k:Kd}{nt:Nat}{A:eL}{p:Cf}{c c':Code}{K K' K0:vH}{st ve:St}
theorem Pre.ret(o:Pre A p)(hnt:Γ.nt=nt)(h:go prog (k.rf prog fn) nt 2000 (.run c) K st A=some (.ret k.d0,p):=by kernel_rfl):AW prog Γ c (KQ prog Γ N (k.qq prog fn) K) st:=NX (n:=2000) A _ hnt zP h o.h rfl
theorem Pre.rts(o:Pre A p)(hnt:Γ.nt=nt)(d:D)(hd:d=k.d0)(h:go prog (k.rf prog fn) nt 2000 (.run c) K st A=some (.ret d,p):=by kernel_rfl):AW prog Γ c (KQ prog Γ N (k.qq prog fn) K) st:=NX (n:=2000) A _ hnt zP h o.h hd
theorem Pre.cs(o:Pre A p)(hnt:Γ.nt=nt){n:Nat}(hS:N1 (depth K')=Ms prog Γ c' (KQ prog Γ N (k.qq prog fn) K') n)(S:St)(e:S=ve)(t:Ms prog Γ c' (KQ prog Γ N (k.qq prog fn) K') n ve)
 (h:go prog (k.rf prog fn) nt 2000 (.run c) K st A=some (.cont (depth K') S,p):=by kernel_rfl):AW prog Γ c (KQ prog Γ N1 (k.qq prog fn) K) st:=NX (n:=2000) A _ hnt zP h o.h ((congrFun hS _).mpr (by rw[e];exact t))
theorem Pre.cf(o:Pre A p)(hnt:Γ.nt=nt){n:Nat}(hS:N1 (depth K')=Ms prog Γ c' (KQ prog Γ N (k.qq prog fn) K') n)(t:Ms prog Γ c' (KQ prog Γ N (k.qq prog fn) K') n ve)
 (h:go prog (k.rf prog fn) nt 2000 (.run c) K st A=some (.cont (depth K') ve,p):=by kernel_rfl):AW prog Γ c (KQ prog Γ N1 (k.qq prog fn) K) st:=o.cs hnt hS _ rfl t h
theorem Pre.ct(o:Pre A p)(hnt:Γ.nt=nt){n i:Nat}{S:Int->St}(hS:N1 (depth K')=Ms prog Γ c' (KQ prog Γ N (k.qq prog fn) K') n)(hi:IntKind.i64.wrap ((i:Int)+1)=((i+1:Nat):Int))(t:Ms prog Γ c' (KQ prog Γ N (k.qq prog fn) K') n (S ((i+1:Nat):Int)))
 (h:go prog (k.rf prog fn) nt 2000 (.run c) K st A=some (.cont (depth K') (S (IntKind.i64.wrap ((i:Int)+1))),p):=by kernel_rfl):AW prog Γ c (KQ prog Γ N1 (k.qq prog fn) K) st:=o.cs hnt hS _ (congrArg S hi) t h
theorem Pre.exs(o:Pre A p)(hnt:Γ.nt=nt)(hN:∀d,d<depth K0->N1 d=N d)(S:St)(e:S=ve)(t:AW prog Γ c' (KQ prog Γ N (k.qq prog fn) K') ve)(hd:depth K'=depth K0:=by kernel_rfl)(h:go prog (k.rf prog fn) nt 2000 (.run c) K st A=some (.at_ c' K' S,p):=by kernel_rfl):
 AW prog Γ c (KQ prog Γ N1 (k.qq prog fn) K) st:=NX (n:=2000) A _ hnt zP h o.h (Mr (K0:=K0) hd hN (by rw[e];exact t))
theorem Pre.ex(o:Pre A p)(hnt:Γ.nt=nt)(hN:∀d,d<depth K0->N1 d=N d)(t:AW prog Γ c' (KQ prog Γ N (k.qq prog fn) K') ve)(hd:depth K'=depth K0:=by kernel_rfl)(h:go prog (k.rf prog fn) nt 2000 (.run c) K st A=some (.at_ c' K' ve,p):=by kernel_rfl):
 AW prog Γ c (KQ prog Γ N1 (k.qq prog fn) K) st:=o.exs hnt hN _ rfl t hd h
theorem Pre.UP(o:Pre A p)(hnt:Γ.nt=nt){n:Nat}(S:St)(e:S=ve)(t:Ms prog Γ c' (KQ prog Γ N (k.qq prog fn) K') n ve)(h:go prog (k.rf prog fn) nt 2000 (.run c) K st A=some (.lp c' K' S,p):=by kernel_rfl):
 AW prog Γ c (KQ prog Γ N (k.qq prog fn) K) st:=NX (n:=2000) A _ hnt zP h o.h (uF e (vf t))
theorem Pre.lp(o:Pre A p)(hnt:Γ.nt=nt){n:Nat}(t:Ms prog Γ c' (KQ prog Γ N (k.qq prog fn) K') n ve)(h:go prog (k.rf prog fn) nt 2000 (.run c) K st A=some (.lp c' K' ve,p):=by kernel_rfl):
 AW prog Γ c (KQ prog Γ N (k.qq prog fn) K) st:=o.UP hnt _ rfl t h
end
abbrev lc(f:Func)(p:List Nat):Code:=(dig (jL f) p []).1
abbrev xB(f:Func)(p:List Nat):List Fr:=(dig (jL f) p []).2
abbrev Ax(Γ:tY)(N:Nat->St->Prop)(f:Func)(k:Kd)(p:List Nat)(s:St):Prop:=AW prog Γ (lc f p) (KQ prog Γ N (k.qq prog f) (xB f p)) s
abbrev Ar(Γ:tY)(N:Nat->St->Prop)(f:Func)(k:Kd)(p:List Nat)(n:Nat)(s:St):Prop:=Ms prog Γ (lc f (p++[0])) (KQ prog Γ N (k.qq prog f) (xB f p)) n s
theorem gd{f:FuncId}{fn:Func}{ds:aQ}{d:D}(hf:prog.funcs[f]?=some fn)(nz:List (List (Option (Nat×Nat))))(nt:Nat)(h:(∀d∈ds,e7 d)->∀Γ:tY,Γ.nt=nt->AW prog Γ (jL fn) (KQ prog Γ (fun _ _=>False) ((Kd.q nz d).qq prog fn) []) ⟨B9 0 ds,[]⟩)
 (hb:fn.body=some (jL fn):=by kernel_rfl) (hn:(fn.name== "runtime.NumGoroutine")=false:=by kernel_rfl) (hl:Nat.ble ds.length fn.ntmps=true:=by kernel_rfl) (ht:fn.ntmps=nt:=by kernel_rfl):Good prog f ds d:=
 Good.of hf hb hn (xF hl) fun hr Γ hΓ=>h hr Γ (hΓ.trans ht)
theorem gdP{f:FuncId}{fn:Func}{cells cells' ds:aQ}{d:D}(hf:prog.funcs[f]?=some fn)(nz:List (List (Option (Nat×Nat))))(nt:Nat)(Ee YX:aQ)(obs:bS)
 (h:(∀x∈(D.agg cells::ds).map D.shV,e7 x)->∀(v0:Value) (Γ:tY),Γ.nt=nt->AW prog Γ (jL fn) (KQ prog Γ (fun _ _=>False) ((Kd.p nz v0 cells' d).qq prog fn) []) ⟨B9 0 (.ptr 0 0::YX),.NF Ee v0::obs⟩)
 (hI:DH 1 (.agg cells::ds)=(.agg Ee::YX,obs):=by kernel_rfl) (hb:fn.body=some (jL fn):=by kernel_rfl) (hn:(fn.name== "runtime.NumGoroutine")=false:=by kernel_rfl) (hl:Nat.ble (YX.length+1) fn.ntmps=true:=by kernel_rfl) (ht:fn.ntmps=nt:=by kernel_rfl):zx prog f cells cells' ds d:=
 zx.of hf hb hn hI (xF hl) fun hr v0 Γ hΓ=>h hr v0 Γ (hΓ.trans ht)
end Go.Cx
namespace Go.Cx
open Go.RowKit Go.Proofs Tryz
abbrev aI:=List aK
abbrev aX:=List aG
abbrev ai:=List aM
abbrev aq:=List aN
abbrev av:=List aR
abbrev bE:=List Node
abbrev bK:=List aW
abbrev bq:=List az
abbrev c8:=List Action
theorem eS{α:Type}[DecidableEq α][BEq α][LawfulBEq α](a b:α):(a==b)=decide (a=b):=by rw[bf];simp
def vn(cs:aQ):Prop:=∀d∈cs,e7 d
theorem vn.row{α:Type}{c:α->aQ}{l:List α}(h:e7 (.sl (l.map c))):∀x∈l,vn (c x):=fun x hx d hd=>(e7.sl h).2 (c x) (cC.2 ⟨x,hx,rfl⟩) d hd
theorem Good.a5D{P:Program}{f:FuncId}{ds:aQ}{d:D}(hf:∃fn,P.funcs[f]?=some fn/\fn.body.isSome=true/\(fn.name== "runtime.NumGoroutine")=false)(h:vn ds->Good P f ds d):Good P f ds d:=
 ⟨hf,fun w Θ args bs hv hargs h1 h2 h3=>(h hargs.rdb).2 w Θ args bs hv hargs h1 h2 h3⟩
def kD{α:Type}(w:α->Nat)(l:List α):Nat:=l.length+(l.map w).sum
def tw(s:Bytes):Nat:=s.length
theorem qK{α:Type}(w:α->Nat)(x:α)(l:List α):kD w (x::l)=1+w x+kD w l:=by simp[kD];omega
theorem V8{α:Type}(w:α->Nat)(a b:List α):kD w (a++b)=kD w a+kD w b:=by
 induction a with
 |nil=>simp[kD]
 |cons x a ih=>rw[dA,qK,qK,ih];omega
theorem gN{α:Type}(w:α->Nat)(l:List α):l.length<=kD w l:=by unfold kD;omega
theorem gu{α:Type}{w:α->Nat}{l:List α}{x:α}(h:x∈l):w x+1<=kD w l:=by
 induction l with
 |nil=>cases h
 |cons y l ih=>
  rw[qK];rcases bI.1 h with rfl|h
  ·omega
  ·have:=ih h;omega
theorem a0g{n:Nat}{v:Int}(hn:n<=maxLen)(h0:0<=v)(h1:v<=1048576):IntKind.i64.wrap (v-(n:Int))=v-(n:Int):=by
 unfold maxLen at hn;exact gM (sC.i64.2 (by omega))
def vK(o:Option Int)(v:Int)(n:Nat):Prop:=∃r,o=some r/\r<=v/\(0<=r->(n:Int)<=v-r)
theorem vK.str{n m:Nat}{v:Int}{k:Option Int}(hn:n<=maxLen)(h0:0<=v)(h1:v<=1048576)(hk:0<=v-(n:Int)->IntKind.i64.wrap (v-(n:Int))=v-(n:Int)->vK k (v-(n:Int)) m):
 vK (bif decide (IntKind.i64.wrap (v-(n:Int))<0)then some (-1)else k) v (n+m):=by
 have hw:=a0g hn h0 h1;rw[hw];by_cases c:v-(n:Int)<0
 ·exact⟨-1,by simp[c],by omega,by omega⟩
 ·obtain⟨r,e1,e2,e3⟩:=hk (by omega) hw;exact⟨r,by simp[c,e1],by omega,fun h=>by have:=e3 h;omega⟩
theorem vK.sub{o:Option Int}{v:Int}{k:Int->Option Int}{n m:Nat}(h:vK o v n)(h1:v<=1048576)(h0:0<=v)(hk:∀r,0<=r->r<=1048576->vK (k r) r m):
 vK (o.bind fun y=>bif decide (y<0)then some (-1)else k y) v (n+m):=by
 obtain⟨r,e1,e2,e3⟩:=h;rw[e1];by_cases c:r<0
 ·exact⟨-1,by simp[c],by omega,by omega⟩
 ·obtain⟨r',q1,q2,q3⟩:=hk r (by omega) (by omega);exact⟨r',by simp[c,q1],by omega,fun h=>by have:=e3 (by omega);have:=q3 h;omega⟩
theorem vK.fin{v:Int}:vK (some v) v 0:=⟨v,rfl,Int.le_refl _,fun _=>by omega⟩
theorem vK.eq{o:Option Int}{v:Int}{n m:Nat}(h:vK o v n)(e:n=m):vK o v m:=e▸h
theorem szL{α:Type}{w:α->Nat}{f:α->Int->Option Int}(L:List α->Nat->Int->Option Int)(tC:∀i v,L [] i v=some v)
 (ru:∀x xs i v,L (x::xs) i v=(f x v).bind fun y=>bif decide (y<0)then some (-1)else L xs (i+1) y):
 ∀(l:List α),(∀x∈l,∀v,0<=v->v<=1048576->vK (f x v) v (w x))->∀i v,0<=v->v<=1048576->vK (L l i v) v ((l.map w).sum):=by
 intro l
 induction l with
 |nil=>intro _ i v _ _;rw[tC];exact .fin
 |cons x xs ih=>
  intro hf i v h0 h1;rw[ru];refine((hf x (by simp) v h0 h1).sub h1 h0 (m:=(xs.map w).sum) fun r r0 r1=>?_).eq (by simp);exact ih (fun y hy=>hf y (by simp[hy])) (i+1) r r0 r1
theorem szS{α:Type}{c:α->aQ}{w:α->Nat}{l:List α}{v:Int}{k:Int->Option Int}(hr:e7 (.sl (l.map c)))(h0:0<=v)(h1:v<=1048576)
 (hk:∀v',0<=v'->v'<=1048576->vK (k v') v' ((l.map w).sum)):vK (bif decide (IntKind.i64.wrap (v-((l.map c).length:Int))<0)then some (-1)else k (IntKind.i64.wrap (v-((l.map c).length:Int)))) v (kD w l):=by
 have hn:(l.map c).length<=maxLen:=(e7.sl hr).1;refine(vK.str hn h0 h1 (m:=(l.map w).sum) fun g e=>?_).eq (by simp[kD]);rw[e];exact hk _ g (by omega)
theorem toL{α:Type}{z:α}{c:α->aQ}{f:α->Option α}{l:List α}(L:List α->Nat->List α->Option (List α))(tC:∀i w,L [] i w=some w)
 (ru:∀x xs i w,L (x::xs) i w=(f x).bind fun y=>bif decide (i<(w.map c).length)then(w[i]?).bind (fun _=>L xs (i+1) (w.set i y))else none) (hf:∀x∈l,f x=some x):
 L l 0 (List.replicate ((l.map c).length:Int).toNat z)=some l:=by
 have key:∀(rest pre:List α),l=pre++rest->L rest pre.length (pre++List.replicate rest.length z)=some l:=by
  intro rest
  induction rest with
  |nil=>intro pre h;rw[tC,h];simp
  |cons x xs ih=>
   intro pre h;rw[ru,hf x (by rw[h];simp)];have e1:decide (pre.length<((pre++List.replicate (x::xs).length z).map c).length)=true:=by simp
   have e2:(pre++List.replicate (x::xs).length z)[pre.length]?=some z:=by simp[z7]
   have e3:(pre++List.replicate (x::xs).length z).set pre.length x=(pre++[x])++List.replicate xs.length z:=by
    rw[aL,z7,lQ _ _ (bR _),oH,List.set_cons_zero];simp
   simp only[aA,e1,aU,e2,e3];have:=ih (pre++[x]) (by rw[h];simp);simpa using this
 have:=key l [] rfl;simpa using this
theorem II{n b:Nat}(hn:n<=1048576)(hb:b<=1000):BG (n:Int) b=true:=by
 unfold BG;have h1:b*n<=1000*1048576:=Nat.mul_le_mul hb hn;simp;omega
theorem PG{α:Type}[DecidableEq α]{f:α->α->Option Bool}{a b:List α}{c:α->aQ}(L:Option Bool->List α->Nat->Option Bool)(tC:∀k i,L k [] i=k)
 (ru:∀k x xs i,L k (x::xs) i=(nF b (i:Int)).bind fun y=>(f x y).bind fun r=>bif !r then some false else L k xs (i+1)) (hf:∀x y,f x y=some (decide (x=y))):
 (bif (((a.map c).length:Int) != ((b.map c).length:Int))then some false else L (some true) a 0)=some (decide (a=b)):=by
 by_cases hl:a.length=b.length
 ·have e:(((a.map c).length:Int) != ((b.map c).length:Int))=false:=by simp[hl]
  rw[e];have key:∀(ra rb pa pb:List α),a=pa++ra->b=pb++rb->pa.length=pb.length->L (some true) ra pa.length=some (decide (ra=rb)):=by
   intro ra
   induction ra with
   |nil=>
    intro rb pa pb h1 h2 h3;rw[tC];have:rb=[]:=by
     have:=congrArg List.length h1;have:=congrArg List.length h2;simp at*;apply cW;omega
    subst this;simp
   |cons x xs ih=>
    intro rb pa pb h1 h2 h3;cases rb with
    |nil=>
     exfalso;have:=congrArg List.length h1;have:=congrArg List.length h2;simp at*;omega
    |cons y ys=>
     rw[ru];have e1:nF b (pa.length:Int)=some y:=by
      unfold nF;have:b[pa.length]?=some y:=by rw[h2,h3];simp
      simp[this]
     rw[e1,aA,hf,aA];have:=ih ys (pa++[x]) (pb++[y]) (by rw[h1];simp) (by rw[h2];simp) (by simp[h3]);by_cases hxy:x=y
     ·subst hxy;simp only[B7,bW,af];simp only[aS,aL,bG]at this;rw[this];simp
     ·simp[hxy]
  have:=key a b [] [] rfl rfl rfl;simpa using this
 ·have e:(((a.map c).length:Int) != ((b.map c).length:Int))=true:=by simp;omega
  rw[e];have:a≠b:=fun h=>hl (by rw[h])
  simp[this]
theorem v8{z:Int}(h0:0<=z)(h1:z<=4611686018427387904):IntKind.i64.wrap (z+1)=z+1:=gM (sC.i64.2 (by omega))
end Go.Cx
namespace Go.Cx
open Go.RowKit Go.Proofs Tryz
set_option maxRecDepth 100000
variable{Γ:tY}{N:Nat->St->Prop}
def iz(aB:aH)(k1:Int->Option Int):aH->Nat->Int->Option Int
 | [],i1,ay=>(k1 ay)
 |bA::bt,i1,ay=>(bif decide ((IntKind.i64.wrap (ay-(bA.length:Int)):Int)<0)then(some (-1))else(iz aB k1 bt (i1+1) (IntKind.i64.wrap (ay-(bA.length:Int)))))
def oc(aB:aH)(aV:Int):Option Int:=(bif decide ((IntKind.i64.wrap (aV-((aB.map tx).length:Int)):Int)<0)then(some (-1))else(iz aB (fun(cM:Int)=>(some cM)) aB 0 (IntKind.i64.wrap (aV-((aB.map tx).length:Int)))))
def HM(aB:aH)(ay:Int)(cZ:Int):St:=⟨[(0,D.sl (aB.map tx)),(1,D.int .i64 ay),(5,D.int .i64 cZ)],[]⟩
theorem FN(hΓ:Γ.nt=28){aB:aH}{r:Int}{k1:Int->Option Int}(cq:∀(cM:Int),k1 cM=some r->Ax Γ N f68 (.q [[none]] (D.int .i64 r)) [1,1,1,1] ⟨[(1,D.int .i64 cM)],[]⟩)(hm1:aB.length<=maxLen):∀(rest:aH) (i1:Nat) (ay:Int),aB.drop i1=rest->iz aB k1 rest i1 ay=some r->Ar Γ N f68 (.q [[none]] (D.int .i64 r)) [1,1,1,0,1,0] (rest.length+1) (HM aB ay (i1:Int)):=by
 intro rest
 induction rest with
 |nil=>
  intro i1 ay au h;rw[iz]at h;refine aP fun N1 cB bw=>?_
  exact((aT.ge tx au).a [.hl 0 [1] []]).ex hΓ cB (cq ay h)
 |cons bA bt ih1=>
  intro i1 ay au h;rw[iz]at h;refine aP fun N1 cB bw=>?_
  have dL:=((aT.lt tx au).l (b9 tx 1 (dc au) rfl))
  obtain⟨h14,h⟩|⟨h14,h⟩:=aO h
  ·cases h;exact(dL.b h14).ret hΓ
  ·exact((dL.b h14).a [.cn [0,1,5] []]).ct hΓ bw (iS au hm1) (ih1 (i1+1) (IntKind.i64.wrap (ay-(bA.length:Int))) (dn au) h)
theorem xS{aB:aH}{aV:Int}{r:Int}(h:oc aB aV=some r):Good prog 68 [D.sl (aB.map tx),D.int .i64 aV] (D.int .i64 r):=by
 refine gd func68 [[none]] 28 fun hr Γ hΓ=>?_
 rw[oc]at h;obtain⟨h1,h⟩|⟨h1,h⟩:=aO h
 ·cases h;exact(aT.b h1).ret hΓ
 ·refine((aT.b h1).a [.cn [0,1,5] []]).lp hΓ (FN hΓ (fun cM h=>?_) (by have:=(e7.sl (hr _ (aC (i:=0) rfl))).1;simpa using this) aB 0 (IntKind.i64.wrap (aV-((aB.map tx).length:Int))) rfl h);have h:=aE h;subst h;exact aT.ret hΓ
def mG(aB:aG)(aV:Int):Option Int:=(bif decide ((IntKind.i64.wrap (aV-(aB.rel.length:Int)):Int)<0)then(some (-1))else((oc aB.args (IntKind.i64.wrap (aV-(aB.rel.length:Int)))).bind fun y2=>(bif decide ((y2:Int)<0)then(some (-1))else(some y2))))
theorem jH{aB:aG}{aV:Int}{r:Int}(h:mG aB aV=some r):Good prog 172 [D.agg (aG.c aB),D.int .i64 aV] (D.int .i64 r):=by
 refine gd func172 [[none]] 19 fun hr Γ hΓ=>?_
 rw[mG]at h;obtain⟨h1,h⟩|⟨h1,h⟩:=aO h
 ·cases h;exact(aT.b h1).ret hΓ
 ·obtain⟨y2,h3,h⟩:=aD h;have kX:=((aT.b h1).g (xS h3))
  obtain⟨h4,h⟩|⟨h4,h⟩:=aO h
  ·cases h;exact(kX.b h4).ret hΓ
  ·have h:=aE h;subst h;exact(kX.b h4).ret hΓ
def qS(aB:aM)(aV:Int):Option Int:=((mG aB.pat aV).bind fun y1=>(bif decide ((y1:Int)<0)then(some (-1))else(bif decide ((IntKind.i64.wrap (y1-(aB.left.length:Int)):Int)<0)then(some (-1))else(bif decide ((IntKind.i64.wrap ((IntKind.i64.wrap (y1-(aB.left.length:Int)))-(aB.right.length:Int)):Int)<0)then(some (-1))else(some (IntKind.i64.wrap ((IntKind.i64.wrap (y1-(aB.left.length:Int)))-(aB.right.length:Int))))))))
theorem vu{aB:aM}{aV:Int}{r:Int}(h:qS aB aV=some r):Good prog 173 [D.agg (aM.c aB),D.int .i64 aV] (D.int .i64 r):=by
 refine gd func173 [[none]] 26 fun hr Γ hΓ=>?_
 rw[qS]at h;obtain⟨y1,h2,h⟩:=aD h;obtain⟨h3,h⟩|⟨h3,h⟩:=aO h
 ·cases h;exact((aT.g (jH h2)).b h3).ret hΓ
 ·have kX:=((aT.g (jH h2)).b h3)
  obtain⟨h4,h⟩|⟨h4,h⟩:=aO h
  ·cases h;exact(kX.b h4).ret hΓ
  ·obtain⟨h5,h⟩|⟨h5,h⟩:=aO h
   ·cases h;exact((kX.b h4).b h5).ret hΓ
   ·cases h;exact((kX.b h4).b h5).ret hΓ
def nS(aB:ai)(k1:Int->Option Int):ai->Nat->Int->Option Int
 | [],i1,ay=>(k1 ay)
 |bA::bt,i1,ay=>((qS bA ay).bind fun kE=>(bif decide ((kE:Int)<0)then(some (-1))else(nS aB k1 bt (i1+1) kE)))
def uQ(aB:ai)(aV:Int):Option Int:=(bif decide ((IntKind.i64.wrap (aV-((aB.map aM.c).length:Int)):Int)<0)then(some (-1))else(nS aB (fun(cM:Int)=>(some cM)) aB 0 (IntKind.i64.wrap (aV-((aB.map aM.c).length:Int)))))
def KZ(aB:ai)(ay:Int)(cZ:Int):St:=⟨[(0,D.sl (aB.map aM.c)),(1,D.int .i64 ay),(5,D.int .i64 cZ)],[]⟩
theorem J0(hΓ:Γ.nt=27){aB:ai}{r:Int}{k1:Int->Option Int}(cq:∀(cM:Int),k1 cM=some r->Ax Γ N f136 (.q [[none]] (D.int .i64 r)) [1,1,1,1] ⟨[(1,D.int .i64 cM)],[]⟩)(hm1:aB.length<=maxLen):∀(rest:ai) (i1:Nat) (ay:Int),aB.drop i1=rest->nS aB k1 rest i1 ay=some r->Ar Γ N f136 (.q [[none]] (D.int .i64 r)) [1,1,1,0,1,0] (rest.length+1) (KZ aB ay (i1:Int)):=by
 intro rest
 induction rest with
 |nil=>
  intro i1 ay au h;rw[nS]at h;refine aP fun N1 cB bw=>?_
  exact((aT.ge aM.c au).a [.hl 0 [1] []]).ex hΓ cB (cq ay h)
 |cons bA bt ih1=>
  intro i1 ay au h;rw[nS]at h;refine aP fun N1 cB bw=>?_
  obtain⟨kE,h23,h⟩:=aD h;have dL:=(((aT.lt aM.c au).l (b9 aM.c 5 (dc au) rfl)).g (vu h23))
  obtain⟨h24,h⟩|⟨h24,h⟩:=aO h
  ·cases h;exact(dL.b h24).ret hΓ
  ·exact((dL.b h24).a [.cn [0,1,5] []]).ct hΓ bw (iS au hm1) (ih1 (i1+1) kE (dn au) h)
theorem HJ{aB:ai}{aV:Int}{r:Int}(h:uQ aB aV=some r):Good prog 136 [D.sl (aB.map aM.c),D.int .i64 aV] (D.int .i64 r):=by
 refine gd func136 [[none]] 27 fun hr Γ hΓ=>?_
 rw[uQ]at h;obtain⟨h1,h⟩|⟨h1,h⟩:=aO h
 ·cases h;exact(aT.b h1).ret hΓ
 ·refine((aT.b h1).a [.cn [0,1,5] []]).lp hΓ (J0 hΓ (fun cM h=>?_) (by have:=(e7.sl (hr _ (aC (i:=0) rfl))).1;simpa using this) aB 0 (IntKind.i64.wrap (aV-((aB.map aM.c).length:Int))) rfl h);have h:=aE h;subst h;exact aT.ret hΓ
def pV(aB:Action)(aV:Int):Option Int:=((mG aB.pat aV).bind fun y1=>(bif decide ((y1:Int)<0)then(some (-1))else(some y1)))
theorem FL{aB:Action}{aV:Int}{r:Int}(h:pV aB aV=some r):Good prog 205 [D.agg (Action.c aB),D.int .i64 aV] (D.int .i64 r):=by
 refine gd func205 [[none]] 12 fun hr Γ hΓ=>?_
 rw[pV]at h;obtain⟨y1,h2,h⟩:=aD h;obtain⟨h3,h⟩|⟨h3,h⟩:=aO h
 ·cases h;exact((aT.g (jH h2)).b h3).ret hΓ
 ·have h:=aE h;subst h;exact((aT.g (jH h2)).b h3).ret hΓ
def l9(aB:c8)(k1:Int->Option Int):c8->Nat->Int->Option Int
 | [],i1,ay=>(k1 ay)
 |bA::bt,i1,ay=>((pV bA ay).bind fun kE=>(bif decide ((kE:Int)<0)then(some (-1))else(l9 aB k1 bt (i1+1) kE)))
def rM(aB:c8)(aV:Int):Option Int:=(bif decide ((IntKind.i64.wrap (aV-((aB.map Action.c).length:Int)):Int)<0)then(some (-1))else(l9 aB (fun(cM:Int)=>(some cM)) aB 0 (IntKind.i64.wrap (aV-((aB.map Action.c).length:Int)))))
def HG(aB:c8)(ay:Int)(cZ:Int):St:=⟨[(0,D.sl (aB.map Action.c)),(1,D.int .i64 ay),(5,D.int .i64 cZ)],[]⟩
theorem FK(hΓ:Γ.nt=27){aB:c8}{r:Int}{k1:Int->Option Int}(cq:∀(cM:Int),k1 cM=some r->Ax Γ N f137 (.q [[none]] (D.int .i64 r)) [1,1,1,1] ⟨[(1,D.int .i64 cM)],[]⟩)(hm1:aB.length<=maxLen):∀(rest:c8) (i1:Nat) (ay:Int),aB.drop i1=rest->l9 aB k1 rest i1 ay=some r->Ar Γ N f137 (.q [[none]] (D.int .i64 r)) [1,1,1,0,1,0] (rest.length+1) (HG aB ay (i1:Int)):=by
 intro rest
 induction rest with
 |nil=>
  intro i1 ay au h;rw[l9]at h;refine aP fun N1 cB bw=>?_
  exact((aT.ge Action.c au).a [.hl 0 [1] []]).ex hΓ cB (cq ay h)
 |cons bA bt ih1=>
  intro i1 ay au h;rw[l9]at h;refine aP fun N1 cB bw=>?_
  obtain⟨kE,h23,h⟩:=aD h;have dL:=(((aT.lt Action.c au).l (b9 Action.c 3 (dc au) rfl)).g (FL h23))
  obtain⟨h24,h⟩|⟨h24,h⟩:=aO h
  ·cases h;exact(dL.b h24).ret hΓ
  ·exact((dL.b h24).a [.cn [0,1,5] []]).ct hΓ bw (iS au hm1) (ih1 (i1+1) kE (dn au) h)
theorem E8{aB:c8}{aV:Int}{r:Int}(h:rM aB aV=some r):Good prog 137 [D.sl (aB.map Action.c),D.int .i64 aV] (D.int .i64 r):=by
 refine gd func137 [[none]] 27 fun hr Γ hΓ=>?_
 rw[rM]at h;obtain⟨h1,h⟩|⟨h1,h⟩:=aO h
 ·cases h;exact(aT.b h1).ret hΓ
 ·refine((aT.b h1).a [.cn [0,1,5] []]).lp hΓ (FK hΓ (fun cM h=>?_) (by have:=(e7.sl (hr _ (aC (i:=0) rfl))).1;simpa using this) aB 0 (IntKind.i64.wrap (aV-((aB.map Action.c).length:Int))) rfl h);have h:=aE h;subst h;exact aT.ret hΓ
def tN(aB:aN)(aV:Int):Option Int:=(bif decide ((IntKind.i64.wrap (aV-(aB.name.length:Int)):Int)<0)then(some (-1))else((uQ aB.conds (IntKind.i64.wrap (aV-(aB.name.length:Int)))).bind fun y2=>(bif decide ((y2:Int)<0)then(some (-1))else((rM aB.ck y2).bind fun y5=>(bif decide ((y5:Int)<0)then(some (-1))else(some y5))))))
theorem J9{aB:aN}{aV:Int}{r:Int}(h:tN aB aV=some r):Good prog 79 [D.agg (aN.c aB),D.int .i64 aV] (D.int .i64 r):=by
 refine gd func79 [[none]] 25 fun hr Γ hΓ=>?_
 rw[tN]at h;obtain⟨h1,h⟩|⟨h1,h⟩:=aO h
 ·cases h;exact(aT.b h1).ret hΓ
 ·obtain⟨y2,h3,h⟩:=aD h;have kX:=((aT.b h1).g (HJ h3))
  obtain⟨h4,h⟩|⟨h4,h⟩:=aO h
  ·cases h;exact(kX.b h4).ret hΓ
  ·obtain⟨y5,h6,h⟩:=aD h;have dL:=((kX.b h4).g (E8 h6))
   obtain⟨h7,h⟩|⟨h7,h⟩:=aO h
   ·cases h;exact(dL.b h7).ret hΓ
   ·have h:=aE h;subst h;exact(dL.b h7).ret hΓ
def nW(aB:aq)(k1:Int->Option Int):aq->Nat->Int->Option Int
 | [],i1,ay=>(k1 ay)
 |bA::bt,i1,ay=>((tN bA ay).bind fun kE=>(bif decide ((kE:Int)<0)then(some (-1))else(nW aB k1 bt (i1+1) kE)))
def uT(aB:aq)(aV:Int):Option Int:=(bif decide ((IntKind.i64.wrap (aV-((aB.map aN.c).length:Int)):Int)<0)then(some (-1))else(nW aB (fun(cM:Int)=>(some cM)) aB 0 (IntKind.i64.wrap (aV-((aB.map aN.c).length:Int)))))
def Ke(aB:aq)(ay:Int)(cZ:Int):St:=⟨[(0,D.sl (aB.map aN.c)),(1,D.int .i64 ay),(5,D.int .i64 cZ)],[]⟩
theorem J8(hΓ:Γ.nt=27){aB:aq}{r:Int}{k1:Int->Option Int}(cq:∀(cM:Int),k1 cM=some r->Ax Γ N f33 (.q [[none]] (D.int .i64 r)) [1,1,1,1] ⟨[(1,D.int .i64 cM)],[]⟩)(hm1:aB.length<=maxLen):∀(rest:aq) (i1:Nat) (ay:Int),aB.drop i1=rest->nW aB k1 rest i1 ay=some r->Ar Γ N f33 (.q [[none]] (D.int .i64 r)) [1,1,1,0,1,0] (rest.length+1) (Ke aB ay (i1:Int)):=by
 intro rest
 induction rest with
 |nil=>
  intro i1 ay au h;rw[nW]at h;refine aP fun N1 cB bw=>?_
  exact((aT.ge aN.c au).a [.hl 0 [1] []]).ex hΓ cB (cq ay h)
 |cons bA bt ih1=>
  intro i1 ay au h;rw[nW]at h;refine aP fun N1 cB bw=>?_
  obtain⟨kE,h23,h⟩:=aD h;have dL:=(((aT.lt aN.c au).l (b9 aN.c 4 (dc au) rfl)).g (J9 h23))
  obtain⟨h24,h⟩|⟨h24,h⟩:=aO h
  ·cases h;exact(dL.b h24).ret hΓ
  ·exact((dL.b h24).a [.cn [0,1,5] []]).ct hΓ bw (iS au hm1) (ih1 (i1+1) kE (dn au) h)
theorem zK{aB:aq}{aV:Int}{r:Int}(h:uT aB aV=some r):Good prog 33 [D.sl (aB.map aN.c),D.int .i64 aV] (D.int .i64 r):=by
 refine gd func33 [[none]] 27 fun hr Γ hΓ=>?_
 rw[uT]at h;obtain⟨h1,h⟩|⟨h1,h⟩:=aO h
 ·cases h;exact(aT.b h1).ret hΓ
 ·refine((aT.b h1).a [.cn [0,1,5] []]).lp hΓ (J8 hΓ (fun cM h=>?_) (by have:=(e7.sl (hr _ (aC (i:=0) rfl))).1;simpa using this) aB 0 (IntKind.i64.wrap (aV-((aB.map aN.c).length:Int))) rfl h);have h:=aE h;subst h;exact aT.ret hΓ
def vP(aB:bP)(aV:Int):Option Int:=(bif decide ((IntKind.i64.wrap (aV-((aB.map gQ).length:Int)):Int)<0)then(some (-1))else(some (IntKind.i64.wrap (aV-((aB.map gQ).length:Int)))))
theorem J3{aB:bP}{aV:Int}{r:Int}(h:vP aB aV=some r):Good prog 46 [D.sl (aB.map gQ),D.int .i64 aV] (D.int .i64 r):=by
 refine gd func46 [[none]] 12 fun hr Γ hΓ=>?_
 rw[vP]at h;obtain⟨h1,h⟩|⟨h1,h⟩:=aO h
 ·cases h;exact(aT.b h1).ret hΓ
 ·cases h;exact(aT.b h1).ret hΓ
def tK(aB:aG)(aV:Int):Option Int:=(bif decide ((IntKind.i64.wrap (aV-(aB.rel.length:Int)):Int)<0)then(some (-1))else((oc aB.args (IntKind.i64.wrap (aV-(aB.rel.length:Int)))).bind fun y2=>(bif decide ((y2:Int)<0)then(some (-1))else(some y2))))
theorem J2{aB:aG}{aV:Int}{r:Int}(h:tK aB aV=some r):Good prog 22 [D.agg (aG.c aB),D.int .i64 aV] (D.int .i64 r):=by
 refine gd func22 [[none]] 19 fun hr Γ hΓ=>?_
 rw[tK]at h;obtain⟨h1,h⟩|⟨h1,h⟩:=aO h
 ·cases h;exact(aT.b h1).ret hΓ
 ·obtain⟨y2,h3,h⟩:=aD h;have kX:=((aT.b h1).g (xS h3))
  obtain⟨h4,h⟩|⟨h4,h⟩:=aO h
  ·cases h;exact(kX.b h4).ret hΓ
  ·have h:=aE h;subst h;exact(kX.b h4).ret hΓ
def nT(aB:aX)(k1:Int->Option Int):aX->Nat->Int->Option Int
 | [],i1,ay=>(k1 ay)
 |bA::bt,i1,ay=>((tK bA ay).bind fun kE=>(bif decide ((kE:Int)<0)then(some (-1))else(nT aB k1 bt (i1+1) kE)))
def p7(aB:aX)(aV:Int):Option Int:=(bif decide ((IntKind.i64.wrap (aV-((aB.map aG.c).length:Int)):Int)<0)then(some (-1))else(nT aB (fun(cM:Int)=>(some cM)) aB 0 (IntKind.i64.wrap (aV-((aB.map aG.c).length:Int)))))
def Ka(aB:aX)(ay:Int)(cZ:Int):St:=⟨[(0,D.sl (aB.map aG.c)),(1,D.int .i64 ay),(5,D.int .i64 cZ)],[]⟩
theorem J1(hΓ:Γ.nt=27){aB:aX}{r:Int}{k1:Int->Option Int}(cq:∀(cM:Int),k1 cM=some r->Ax Γ N f12 (.q [[none]] (D.int .i64 r)) [1,1,1,1] ⟨[(1,D.int .i64 cM)],[]⟩)(hm1:aB.length<=maxLen):∀(rest:aX) (i1:Nat) (ay:Int),aB.drop i1=rest->nT aB k1 rest i1 ay=some r->Ar Γ N f12 (.q [[none]] (D.int .i64 r)) [1,1,1,0,1,0] (rest.length+1) (Ka aB ay (i1:Int)):=by
 intro rest
 induction rest with
 |nil=>
  intro i1 ay au h;rw[nT]at h;refine aP fun N1 cB bw=>?_
  exact((aT.ge aG.c au).a [.hl 0 [1] []]).ex hΓ cB (cq ay h)
 |cons bA bt ih1=>
  intro i1 ay au h;rw[nT]at h;refine aP fun N1 cB bw=>?_
  obtain⟨kE,h23,h⟩:=aD h;have dL:=(((aT.lt aG.c au).l (b9 aG.c 2 (dc au) rfl)).g (J2 h23))
  obtain⟨h24,h⟩|⟨h24,h⟩:=aO h
  ·cases h;exact(dL.b h24).ret hΓ
  ·exact((dL.b h24).a [.cn [0,1,5] []]).ct hΓ bw (iS au hm1) (ih1 (i1+1) kE (dn au) h)
theorem qi{aB:aX}{aV:Int}{r:Int}(h:p7 aB aV=some r):Good prog 12 [D.sl (aB.map aG.c),D.int .i64 aV] (D.int .i64 r):=by
 refine gd func12 [[none]] 27 fun hr Γ hΓ=>?_
 rw[p7]at h;obtain⟨h1,h⟩|⟨h1,h⟩:=aO h
 ·cases h;exact(aT.b h1).ret hΓ
 ·refine((aT.b h1).a [.cn [0,1,5] []]).lp hΓ (J1 hΓ (fun cM h=>?_) (by have:=(e7.sl (hr _ (aC (i:=0) rfl))).1;simpa using this) aB 0 (IntKind.i64.wrap (aV-((aB.map aG.c).length:Int))) rfl h);have h:=aE h;subst h;exact aT.ret hΓ
def rN(aB:aW)(aV:Int):Option Int:=((mG aB.shape aV).bind fun y1=>(bif decide ((y1:Int)<0)then(some (-1))else((p7 aB.facts y1).bind fun y4=>(bif decide ((y4:Int)<0)then(some (-1))else(some y4)))))
theorem HI{aB:aW}{aV:Int}{r:Int}(h:rN aB aV=some r):Good prog 100 [D.agg (aW.c aB),D.int .i64 aV] (D.int .i64 r):=by
 refine gd func100 [[none]] 18 fun hr Γ hΓ=>?_
 rw[rN]at h;obtain⟨y1,h2,h⟩:=aD h;obtain⟨h3,h⟩|⟨h3,h⟩:=aO h
 ·cases h;exact((aT.g (jH h2)).b h3).ret hΓ
 ·obtain⟨y4,h5,h⟩:=aD h;have kX:=(((aT.g (jH h2)).b h3).g (qi h5))
  obtain⟨h6,h⟩|⟨h6,h⟩:=aO h
  ·cases h;exact(kX.b h6).ret hΓ
  ·have h:=aE h;subst h;exact(kX.b h6).ret hΓ
def mF(aB:bK)(k1:Int->Option Int):bK->Nat->Int->Option Int
 | [],i1,ay=>(k1 ay)
 |bA::bt,i1,ay=>((rN bA ay).bind fun kE=>(bif decide ((kE:Int)<0)then(some (-1))else(mF aB k1 bt (i1+1) kE)))
def sY(aB:bK)(aV:Int):Option Int:=(bif decide ((IntKind.i64.wrap (aV-((aB.map aW.c).length:Int)):Int)<0)then(some (-1))else(mF aB (fun(cM:Int)=>(some cM)) aB 0 (IntKind.i64.wrap (aV-((aB.map aW.c).length:Int)))))
def Iz(aB:bK)(ay:Int)(cZ:Int):St:=⟨[(0,D.sl (aB.map aW.c)),(1,D.int .i64 ay),(5,D.int .i64 cZ)],[]⟩
theorem HH(hΓ:Γ.nt=27){aB:bK}{r:Int}{k1:Int->Option Int}(cq:∀(cM:Int),k1 cM=some r->Ax Γ N f47 (.q [[none]] (D.int .i64 r)) [1,1,1,1] ⟨[(1,D.int .i64 cM)],[]⟩)(hm1:aB.length<=maxLen):∀(rest:bK) (i1:Nat) (ay:Int),aB.drop i1=rest->mF aB k1 rest i1 ay=some r->Ar Γ N f47 (.q [[none]] (D.int .i64 r)) [1,1,1,0,1,0] (rest.length+1) (Iz aB ay (i1:Int)):=by
 intro rest
 induction rest with
 |nil=>
  intro i1 ay au h;rw[mF]at h;refine aP fun N1 cB bw=>?_
  exact((aT.ge aW.c au).a [.hl 0 [1] []]).ex hΓ cB (cq ay h)
 |cons bA bt ih1=>
  intro i1 ay au h;rw[mF]at h;refine aP fun N1 cB bw=>?_
  obtain⟨kE,h23,h⟩:=aD h;have dL:=(((aT.lt aW.c au).l (b9 aW.c 3 (dc au) rfl)).g (HI h23))
  obtain⟨h24,h⟩|⟨h24,h⟩:=aO h
  ·cases h;exact(dL.b h24).ret hΓ
  ·exact((dL.b h24).a [.cn [0,1,5] []]).ct hΓ bw (iS au hm1) (ih1 (i1+1) kE (dn au) h)
theorem FM{aB:bK}{aV:Int}{r:Int}(h:sY aB aV=some r):Good prog 47 [D.sl (aB.map aW.c),D.int .i64 aV] (D.int .i64 r):=by
 refine gd func47 [[none]] 27 fun hr Γ hΓ=>?_
 rw[sY]at h;obtain⟨h1,h⟩|⟨h1,h⟩:=aO h
 ·cases h;exact(aT.b h1).ret hΓ
 ·refine((aT.b h1).a [.cn [0,1,5] []]).lp hΓ (HH hΓ (fun cM h=>?_) (by have:=(e7.sl (hr _ (aC (i:=0) rfl))).1;simpa using this) aB 0 (IntKind.i64.wrap (aV-((aB.map aW.c).length:Int))) rfl h);have h:=aE h;subst h;exact aT.ret hΓ
def tM(aB:aK)(aV:Int):Option Int:=(bif decide ((IntKind.i64.wrap (aV-(aB.var.length:Int)):Int)<0)then(some (-1))else(bif decide ((IntKind.i64.wrap ((IntKind.i64.wrap (aV-(aB.var.length:Int)))-(aB.value.length:Int)):Int)<0)then(some (-1))else(some (IntKind.i64.wrap ((IntKind.i64.wrap (aV-(aB.var.length:Int)))-(aB.value.length:Int))))))
theorem J7{aB:aK}{aV:Int}{r:Int}(h:tM aB aV=some r):Good prog 283 [D.agg (aK.c aB),D.int .i64 aV] (D.int .i64 r):=by
 refine gd func283 [[none]] 20 fun hr Γ hΓ=>?_
 rw[tM]at h;obtain⟨h1,h⟩|⟨h1,h⟩:=aO h
 ·cases h;exact(aT.b h1).ret hΓ
 ·obtain⟨h2,h⟩|⟨h2,h⟩:=aO h
  ·cases h;exact((aT.b h1).b h2).ret hΓ
  ·cases h;exact((aT.b h1).b h2).ret hΓ
def nV(aB:aI)(k1:Int->Option Int):aI->Nat->Int->Option Int
 | [],i1,ay=>(k1 ay)
 |bA::bt,i1,ay=>((tM bA ay).bind fun kE=>(bif decide ((kE:Int)<0)then(some (-1))else(nV aB k1 bt (i1+1) kE)))
def uS(aB:aI)(aV:Int):Option Int:=(bif decide ((IntKind.i64.wrap (aV-((aB.map aK.c).length:Int)):Int)<0)then(some (-1))else(nV aB (fun(cM:Int)=>(some cM)) aB 0 (IntKind.i64.wrap (aV-((aB.map aK.c).length:Int)))))
def Kc(aB:aI)(ay:Int)(cZ:Int):St:=⟨[(0,D.sl (aB.map aK.c)),(1,D.int .i64 ay),(5,D.int .i64 cZ)],[]⟩
theorem J6(hΓ:Γ.nt=27){aB:aI}{r:Int}{k1:Int->Option Int}(cq:∀(cM:Int),k1 cM=some r->Ax Γ N f272 (.q [[none]] (D.int .i64 r)) [1,1,1,1] ⟨[(1,D.int .i64 cM)],[]⟩)(hm1:aB.length<=maxLen):∀(rest:aI) (i1:Nat) (ay:Int),aB.drop i1=rest->nV aB k1 rest i1 ay=some r->Ar Γ N f272 (.q [[none]] (D.int .i64 r)) [1,1,1,0,1,0] (rest.length+1) (Kc aB ay (i1:Int)):=by
 intro rest
 induction rest with
 |nil=>
  intro i1 ay au h;rw[nV]at h;refine aP fun N1 cB bw=>?_
  exact((aT.ge aK.c au).a [.hl 0 [1] []]).ex hΓ cB (cq ay h)
 |cons bA bt ih1=>
  intro i1 ay au h;rw[nV]at h;refine aP fun N1 cB bw=>?_
  obtain⟨kE,h23,h⟩:=aD h;have dL:=(((aT.lt aK.c au).l (b9 aK.c 2 (dc au) rfl)).g (J7 h23))
  obtain⟨h24,h⟩|⟨h24,h⟩:=aO h
  ·cases h;exact(dL.b h24).ret hΓ
  ·exact((dL.b h24).a [.cn [0,1,5] []]).ct hΓ bw (iS au hm1) (ih1 (i1+1) kE (dn au) h)
theorem HL{aB:aI}{aV:Int}{r:Int}(h:uS aB aV=some r):Good prog 272 [D.sl (aB.map aK.c),D.int .i64 aV] (D.int .i64 r):=by
 refine gd func272 [[none]] 27 fun hr Γ hΓ=>?_
 rw[uS]at h;obtain⟨h1,h⟩|⟨h1,h⟩:=aO h
 ·cases h;exact(aT.b h1).ret hΓ
 ·refine((aT.b h1).a [.cn [0,1,5] []]).lp hΓ (J6 hΓ (fun cM h=>?_) (by have:=(e7.sl (hr _ (aC (i:=0) rfl))).1;simpa using this) aB 0 (IntKind.i64.wrap (aV-((aB.map aK.c).length:Int))) rfl h);have h:=aE h;subst h;exact aT.ret hΓ
def rP(aB:aR)(aV:Int):Option Int:=((p7 aB.facts aV).bind fun y1=>(bif decide ((y1:Int)<0)then(some (-1))else((uS aB.bind y1).bind fun y4=>(bif decide ((y4:Int)<0)then(some (-1))else(some y4)))))
theorem HO{aB:aR}{aV:Int}{r:Int}(h:rP aB aV=some r):Good prog 241 [D.agg (aR.c aB),D.int .i64 aV] (D.int .i64 r):=by
 refine gd func241 [[none]] 18 fun hr Γ hΓ=>?_
 rw[rP]at h;obtain⟨y1,h2,h⟩:=aD h;obtain⟨h3,h⟩|⟨h3,h⟩:=aO h
 ·cases h;exact((aT.g (qi h2)).b h3).ret hΓ
 ·obtain⟨y4,h5,h⟩:=aD h;have kX:=(((aT.g (qi h2)).b h3).g (HL h5))
  obtain⟨h6,h⟩|⟨h6,h⟩:=aO h
  ·cases h;exact(kX.b h6).ret hΓ
  ·have h:=aE h;subst h;exact(kX.b h6).ret hΓ
def mH(aB:av)(k1:Int->Option Int):av->Nat->Int->Option Int
 | [],i1,ay=>(k1 ay)
 |bA::bt,i1,ay=>((rP bA ay).bind fun kE=>(bif decide ((kE:Int)<0)then(some (-1))else(mH aB k1 bt (i1+1) kE)))
def sZ(aB:av)(aV:Int):Option Int:=(bif decide ((IntKind.i64.wrap (aV-((aB.map aR.c).length:Int)):Int)<0)then(some (-1))else(mH aB (fun(cM:Int)=>(some cM)) aB 0 (IntKind.i64.wrap (aV-((aB.map aR.c).length:Int)))))
def JA(aB:av)(ay:Int)(cZ:Int):St:=⟨[(0,D.sl (aB.map aR.c)),(1,D.int .i64 ay),(5,D.int .i64 cZ)],[]⟩
theorem HN(hΓ:Γ.nt=27){aB:av}{r:Int}{k1:Int->Option Int}(cq:∀(cM:Int),k1 cM=some r->Ax Γ N f174 (.q [[none]] (D.int .i64 r)) [1,1,1,1] ⟨[(1,D.int .i64 cM)],[]⟩)(hm1:aB.length<=maxLen):∀(rest:av) (i1:Nat) (ay:Int),aB.drop i1=rest->mH aB k1 rest i1 ay=some r->Ar Γ N f174 (.q [[none]] (D.int .i64 r)) [1,1,1,0,1,0] (rest.length+1) (JA aB ay (i1:Int)):=by
 intro rest
 induction rest with
 |nil=>
  intro i1 ay au h;rw[mH]at h;refine aP fun N1 cB bw=>?_
  exact((aT.ge aR.c au).a [.hl 0 [1] []]).ex hΓ cB (cq ay h)
 |cons bA bt ih1=>
  intro i1 ay au h;rw[mH]at h;refine aP fun N1 cB bw=>?_
  obtain⟨kE,h23,h⟩:=aD h;have dL:=(((aT.lt aR.c au).l (b9 aR.c 2 (dc au) rfl)).g (HO h23))
  obtain⟨h24,h⟩|⟨h24,h⟩:=aO h
  ·cases h;exact(dL.b h24).ret hΓ
  ·exact((dL.b h24).a [.cn [0,1,5] []]).ct hΓ bw (iS au hm1) (ih1 (i1+1) kE (dn au) h)
theorem FO{aB:av}{aV:Int}{r:Int}(h:sZ aB aV=some r):Good prog 174 [D.sl (aB.map aR.c),D.int .i64 aV] (D.int .i64 r):=by
 refine gd func174 [[none]] 27 fun hr Γ hΓ=>?_
 rw[sZ]at h;obtain⟨h1,h⟩|⟨h1,h⟩:=aO h
 ·cases h;exact(aT.b h1).ret hΓ
 ·refine((aT.b h1).a [.cn [0,1,5] []]).lp hΓ (HN hΓ (fun cM h=>?_) (by have:=(e7.sl (hr _ (aC (i:=0) rfl))).1;simpa using this) aB 0 (IntKind.i64.wrap (aV-((aB.map aR.c).length:Int))) rfl h);have h:=aE h;subst h;exact aT.ret hΓ
def tL(aB:Node)(aV:Int):Option Int:=((qS aB.cond aV).bind fun y1=>(bif decide ((y1:Int)<0)then(some (-1))else((sZ aB.tokens y1).bind fun y4=>(bif decide ((y4:Int)<0)then(some (-1))else(some y4)))))
theorem J5{aB:Node}{aV:Int}{r:Int}(h:tL aB aV=some r):Good prog 101 [D.agg (Node.c aB),D.int .i64 aV] (D.int .i64 r):=by
 refine gd func101 [[none]] 18 fun hr Γ hΓ=>?_
 rw[tL]at h;obtain⟨y1,h2,h⟩:=aD h;obtain⟨h3,h⟩|⟨h3,h⟩:=aO h
 ·cases h;exact((aT.g (vu h2)).b h3).ret hΓ
 ·obtain⟨y4,h5,h⟩:=aD h;have kX:=(((aT.g (vu h2)).b h3).g (FO h5))
  obtain⟨h6,h⟩|⟨h6,h⟩:=aO h
  ·cases h;exact(kX.b h6).ret hΓ
  ·have h:=aE h;subst h;exact(kX.b h6).ret hΓ
def nU(aB:bE)(k1:Int->Option Int):bE->Nat->Int->Option Int
 | [],i1,ay=>(k1 ay)
 |bA::bt,i1,ay=>((tL bA ay).bind fun kE=>(bif decide ((kE:Int)<0)then(some (-1))else(nU aB k1 bt (i1+1) kE)))
def uR(aB:bE)(aV:Int):Option Int:=(bif decide ((IntKind.i64.wrap (aV-((aB.map Node.c).length:Int)):Int)<0)then(some (-1))else(nU aB (fun(cM:Int)=>(some cM)) aB 0 (IntKind.i64.wrap (aV-((aB.map Node.c).length:Int)))))
def Kb(aB:bE)(ay:Int)(cZ:Int):St:=⟨[(0,D.sl (aB.map Node.c)),(1,D.int .i64 ay),(5,D.int .i64 cZ)],[]⟩
theorem J4(hΓ:Γ.nt=27){aB:bE}{r:Int}{k1:Int->Option Int}(cq:∀(cM:Int),k1 cM=some r->Ax Γ N f48 (.q [[none]] (D.int .i64 r)) [1,1,1,1] ⟨[(1,D.int .i64 cM)],[]⟩)(hm1:aB.length<=maxLen):∀(rest:bE) (i1:Nat) (ay:Int),aB.drop i1=rest->nU aB k1 rest i1 ay=some r->Ar Γ N f48 (.q [[none]] (D.int .i64 r)) [1,1,1,0,1,0] (rest.length+1) (Kb aB ay (i1:Int)):=by
 intro rest
 induction rest with
 |nil=>
  intro i1 ay au h;rw[nU]at h;refine aP fun N1 cB bw=>?_
  exact((aT.ge Node.c au).a [.hl 0 [1] []]).ex hΓ cB (cq ay h)
 |cons bA bt ih1=>
  intro i1 ay au h;rw[nU]at h;refine aP fun N1 cB bw=>?_
  obtain⟨kE,h23,h⟩:=aD h;have dL:=(((aT.lt Node.c au).l (b9 Node.c 8 (dc au) rfl)).g (J5 h23))
  obtain⟨h24,h⟩|⟨h24,h⟩:=aO h
  ·cases h;exact(dL.b h24).ret hΓ
  ·exact((dL.b h24).a [.cn [0,1,5] []]).ct hΓ bw (iS au hm1) (ih1 (i1+1) kE (dn au) h)
theorem HK{aB:bE}{aV:Int}{r:Int}(h:uR aB aV=some r):Good prog 48 [D.sl (aB.map Node.c),D.int .i64 aV] (D.int .i64 r):=by
 refine gd func48 [[none]] 27 fun hr Γ hΓ=>?_
 rw[uR]at h;obtain⟨h1,h⟩|⟨h1,h⟩:=aO h
 ·cases h;exact(aT.b h1).ret hΓ
 ·refine((aT.b h1).a [.cn [0,1,5] []]).lp hΓ (J4 hΓ (fun cM h=>?_) (by have:=(e7.sl (hr _ (aC (i:=0) rfl))).1;simpa using this) aB 0 (IntKind.i64.wrap (aV-((aB.map Node.c).length:Int))) rfl h);have h:=aE h;subst h;exact aT.ret hΓ
def rO(aB:aJ)(aV:Int):Option Int:=((uT aB.rules aV).bind fun y1=>(bif decide ((y1:Int)<0)then(some (-1))else((vP aB.ends y1).bind fun y4=>(bif decide ((y4:Int)<0)then(some (-1))else((sY aB.bJ y4).bind fun y7=>(bif decide ((y7:Int)<0)then(some (-1))else((uR aB.nodes y7).bind fun IN=>(bif decide ((IN:Int)<0)then(some (-1))else((p7 aB.facts IN).bind fun u7=>(bif decide ((u7:Int)<0)then(some (-1))else(some u7)))))))))))
theorem xR{aB:aJ}{aV:Int}{r:Int}(h:rO aB aV=some r):Good prog 11 [D.agg (aJ.c aB),D.int .i64 aV] (D.int .i64 r):=by
 refine gd func11 [[none]] 36 fun hr Γ hΓ=>?_
 rw[rO]at h;obtain⟨y1,h2,h⟩:=aD h;obtain⟨h3,h⟩|⟨h3,h⟩:=aO h
 ·cases h;exact((aT.g (zK h2)).b h3).ret hΓ
 ·obtain⟨y4,h5,h⟩:=aD h;have kX:=(((aT.g (zK h2)).b h3).g (J3 h5))
  obtain⟨h6,h⟩|⟨h6,h⟩:=aO h
  ·cases h;exact(kX.b h6).ret hΓ
  ·obtain⟨y7,h8,h⟩:=aD h;have dL:=((kX.b h6).g (FM h8))
   obtain⟨h9,h⟩|⟨h9,h⟩:=aO h
   ·cases h;exact(dL.b h9).ret hΓ
   ·obtain⟨IN,h11,h⟩:=aD h;have lV:=((dL.b h9).g (HK h11))
    obtain⟨h12,h⟩|⟨h12,h⟩:=aO h
    ·cases h;exact(lV.b h12).ret hΓ
    ·obtain⟨u7,h14,h⟩:=aD h;have kH:=((lV.b h12).g (qi h14))
     obtain⟨h15,h⟩|⟨h15,h⟩:=aO h
     ·cases h;exact(kH.b h15).ret hΓ
     ·have h:=aE h;subst h;exact(kH.b h15).ret hΓ
end Go.Cx
namespace Go.Cx
open Go.RowKit Go.Proofs Tryz
set_option maxRecDepth 100000
variable{Γ:tY}{N:Nat->St->Prop}
def j0(aB:aH)(k1:aH->Option aH):aH->Nat->aH->Option aH
 | [],i1,b7=>(k1 b7)
 |bA::bt,i1,b7=>(bif decide (i1<(b7.map tx).length)then(((b7)[i1]?).bind fun x30=>(j0 aB k1 bt (i1+1) (b7.set i1 bA)))else none)
def og(aB:aH):Option aH:=(bif BG ((aB.map tx).length:Int) 16 then(j0 aB (fun(bN:aH)=>(some bN)) aB 0 (List.replicate ((aB.map tx).length:Int).toNat ([]:Bytes)))else none)
def vF(aB:aH)(W0:List aQ)(cZ:Int):St:=⟨[(0,D.sl (aB.map tx)),(3,D.acc 0),(4,D.int .i64 cZ)],[Ob.row .uq 9 1 W0]⟩
theorem FT(hΓ:Γ.nt=22){aB:aH}{r:aH}{k1:aH->Option aH}(cq:∀(bN:aH),k1 bN=some r->Ax Γ N f70 (.q [[some (9,1)]] (D.fr 9 1 (r.map tx))) [1,1,1] ⟨[(3,D.acc 0)],[Ob.row .uq 9 1 (bN.map tx)]⟩)(hm1:aB.length<=maxLen):∀(rest:aH) (i1:Nat) (b7:aH),aB.drop i1=rest->j0 aB k1 rest i1 b7=some r->Ar Γ N f70 (.q [[some (9,1)]] (D.fr 9 1 (r.map tx))) [1,1,0,1,0] (rest.length+1) (vF aB (b7.map tx) (i1:Int)):=by
 intro rest
 induction rest with
 |nil=>
  intro i1 b7 au h;rw[j0]at h;refine aP fun N1 cB bw=>?_
  exact((aT.ge tx au).a [.hl 0 [3] [0]]).ex hΓ cB (cq b7 h)
 |cons bA bt ih1=>
  intro i1 b7 au h;rw[j0]at h;refine aP fun N1 cB bw=>?_
  obtain⟨h29,h⟩:=bY h;obtain⟨x30,h31,h⟩:=aD h;exact(((((aT.lt tx au).l (b9 tx 1 (dc au) rfl)).i (xp 1 h29)).w (show(b7.map tx)[i1]?=some [D.str x30]from eT tx h31)).a [.row [D.str x30],.cn [0,3,4] [0]]).cs hΓ bw (vF aB ((b7.map tx).set i1 [D.str bA]) (IntKind.i64.wrap ((i1:Int)+1))) (by first| (simp only[iS au hm1,mA]<;>rfl)| (simp only[iS au hm1,mA,aG.c,aK.c,aM.c,Action.c,aN.c,aR.c,az.c,aW.c,Node.c,aJ.c,dH.c]<;>rfl)) (ih1 (i1+1) (b7.set i1 bA) (dn au) h)
theorem xT{aB:aH}{r:aH}(h:og aB=some r):Good prog 70 [D.sl (aB.map tx)] (D.fr 9 1 (r.map tx)):=by
 refine gd func70 [[some (9,1)]] 22 fun hr Γ hΓ=>?_
 rw[og]at h;obtain⟨h1,h⟩:=bY h;refine((aT.w (vb h1)).a [.cn [0,3,4] [0]]).UP hΓ (vF aB (List.replicate ((aB.map tx).length:Int).toNat [D.str ([])]) 0) (by first| (simp only[mA]<;>rfl)| (simp only[mA,aG.c,aK.c,aM.c,Action.c,aN.c,aR.c,az.c,aW.c,Node.c,aJ.c,dH.c]<;>rfl)) (FT hΓ (fun bN h=>?_) (by have:=(e7.sl (hr _ (aC (i:=0) rfl))).1;simpa using this) aB 0 (List.replicate ((aB.map tx).length:Int).toNat ([]:Bytes)) rfl h);have h:=aE h;subst h;exact aT.ret hΓ
def mK(aB:aG):Option aG:=((og aB.args).bind fun y1=>(some (⟨aB.rel,y1⟩:aG)))
theorem tq{aB:aG}{r:aG}(h:mK aB=some r):Good prog 179 [D.agg (aG.c aB)] (D.agg [D.str r.rel,D.fr 9 1 (r.args.map tx)]):=by
 refine gd func179 [[none,some (9,1)]] 12 fun hr Γ hΓ=>?_
 rw[mK]at h;obtain⟨y1,h2,h⟩:=aD h;cases h;exact(aT.g (xT h2)).ret hΓ
def qT(aB:aM):Option aM:=((mK aB.pat).bind fun y1=>(some (⟨aB.kind,y1,aB.left,aB.right⟩:aM)))
theorem AP{aB:aM}{r:aM}(h:qT aB=some r):Good prog 180 [D.agg (aM.c aB)] (D.agg [D.int .i64 r.kind,D.str r.pat.rel,D.fr 9 1 (r.pat.args.map tx),D.str r.left,D.str r.right]):=by
 refine gd func180 [[none,none,some (9,1),none,none]] 18 fun hr Γ hΓ=>?_
 rw[qT]at h;obtain⟨y1,h2,h⟩:=aD h;cases h;exact(aT.g (tq h2)).ret hΓ
def nX(aB:ai)(k1:ai->Option ai):ai->Nat->ai->Option ai
 | [],i1,b7=>(k1 b7)
 |bA::bt,i1,b7=>((qT bA).bind fun u9=>(bif decide (i1<(b7.map aM.c).length)then(((b7)[i1]?).bind fun x44=>(nX aB k1 bt (i1+1) (b7.set i1 u9)))else none))
def uU(aB:ai):Option ai:=(bif BG ((aB.map aM.c).length:Int) 80 then(nX aB (fun(bN:ai)=>(some bN)) aB 0 (List.replicate ((aB.map aM.c).length:Int).toNat (⟨(0:Int),(⟨([]:Bytes),[]⟩:aG),([]:Bytes),([]:Bytes)⟩:aM)))else none)
def wi(aB:ai)(W0:List aQ)(cZ:Int):St:=⟨[(0,D.sl (aB.map aM.c)),(3,D.acc 0),(4,D.int .i64 cZ)],[Ob.row .uq 115 5 W0]⟩
theorem JB(hΓ:Γ.nt=23){aB:ai}{r:ai}{k1:ai->Option ai}(cq:∀(bN:ai),k1 bN=some r->Ax Γ N f140 (.q [[some (115,5)]] (D.fr 115 5 (r.map aM.c))) [1,1,1] ⟨[(3,D.acc 0)],[Ob.row .uq 115 5 (bN.map aM.c)]⟩)(hm1:aB.length<=maxLen):∀(rest:ai) (i1:Nat) (b7:ai),aB.drop i1=rest->nX aB k1 rest i1 b7=some r->Ar Γ N f140 (.q [[some (115,5)]] (D.fr 115 5 (r.map aM.c))) [1,1,0,1,0] (rest.length+1) (wi aB (b7.map aM.c) (i1:Int)):=by
 intro rest
 induction rest with
 |nil=>
  intro i1 b7 au h;rw[nX]at h;refine aP fun N1 cB bw=>?_
  exact((aT.ge aM.c au).a [.hl 0 [3] [0]]).ex hΓ cB (cq b7 h)
 |cons bA bt ih1=>
  intro i1 b7 au h;rw[nX]at h;refine aP fun N1 cB bw=>?_
  obtain⟨u9,h42,h⟩:=aD h;obtain⟨h43,h⟩:=bY h;obtain⟨x44,h45,h⟩:=aD h;exact((((((aT.lt aM.c au).l (b9 aM.c 5 (dc au) rfl)).g (AP h42)).i (xp 5 h43)).w (show(b7.map aM.c)[i1]?=some [D.int .i64 x44.kind,D.str x44.pat.rel,D.sl (x44.pat.args.map tx),D.str x44.left,D.str x44.right]from eT aM.c h45)).a [.row [D.int .i64 x44.kind,D.str x44.pat.rel,D.sl (x44.pat.args.map tx),D.str x44.left,D.str x44.right],.cn [0,3,4] [0]]).cs hΓ bw (wi aB ((b7.map aM.c).set i1 [D.int .i64 u9.kind,D.str u9.pat.rel,D.sl (u9.pat.args.map tx),D.str u9.left,D.str u9.right]) (IntKind.i64.wrap ((i1:Int)+1))) (by first| (simp only[iS au hm1,mA]<;>rfl)| (simp only[iS au hm1,mA,aG.c,aK.c,aM.c,Action.c,aN.c,aR.c,az.c,aW.c,Node.c,aJ.c,dH.c]<;>rfl)) (ih1 (i1+1) (b7.set i1 u9) (dn au) h)
theorem HR{aB:ai}{r:ai}(h:uU aB=some r):Good prog 140 [D.sl (aB.map aM.c)] (D.fr 115 5 (r.map aM.c)):=by
 refine gd func140 [[some (115,5)]] 23 fun hr Γ hΓ=>?_
 rw[uU]at h;obtain⟨h1,h⟩:=bY h;refine((aT.w (vb h1)).a [.cn [0,3,4] [0]]).UP hΓ (wi aB (List.replicate ((aB.map aM.c).length:Int).toNat [D.int .i64 0,D.str ([]),D.sl ([]),D.str ([]),D.str ([])]) 0) (by first| (simp only[mA]<;>rfl)| (simp only[mA,aG.c,aK.c,aM.c,Action.c,aN.c,aR.c,az.c,aW.c,Node.c,aJ.c,dH.c]<;>rfl)) (JB hΓ (fun bN h=>?_) (by have:=(e7.sl (hr _ (aC (i:=0) rfl))).1;simpa using this) aB 0 (List.replicate ((aB.map aM.c).length:Int).toNat (⟨(0:Int),(⟨([]:Bytes),[]⟩:aG),([]:Bytes),([]:Bytes)⟩:aM)) rfl h);have h:=aE h;subst h;exact aT.ret hΓ
def pW(aB:Action):Option Action:=((mK aB.pat).bind fun y1=>(some (⟨aB.kind,y1⟩:Action)))
theorem FQ{aB:Action}{r:Action}(h:pW aB=some r):Good prog 210 [D.agg (Action.c aB)] (D.agg [D.int .i64 r.kind,D.str r.pat.rel,D.fr 9 1 (r.pat.args.map tx)]):=by
 refine gd func210 [[none,none,some (9,1)]] 12 fun hr Γ hΓ=>?_
 rw[pW]at h;obtain⟨y1,h2,h⟩:=aD h;cases h;exact(aT.g (tq h2)).ret hΓ
def lB(aB:c8)(k1:c8->Option c8):c8->Nat->c8->Option c8
 | [],i1,b7=>(k1 b7)
 |bA::bt,i1,b7=>((pW bA).bind fun u9=>(bif decide (i1<(b7.map Action.c).length)then(((b7)[i1]?).bind fun x44=>(lB aB k1 bt (i1+1) (b7.set i1 u9)))else none))
def rQ(aB:c8):Option c8:=(bif BG ((aB.map Action.c).length:Int) 48 then(lB aB (fun(bN:c8)=>(some bN)) aB 0 (List.replicate ((aB.map Action.c).length:Int).toNat (⟨(0:Int),(⟨([]:Bytes),[]⟩:aG)⟩:Action)))else none)
def vD(aB:c8)(W0:List aQ)(cZ:Int):St:=⟨[(0,D.sl (aB.map Action.c)),(3,D.acc 0),(4,D.int .i64 cZ)],[Ob.row .uq 199 3 W0]⟩
theorem FP(hΓ:Γ.nt=23){aB:c8}{r:c8}{k1:c8->Option c8}(cq:∀(bN:c8),k1 bN=some r->Ax Γ N f141 (.q [[some (199,3)]] (D.fr 199 3 (r.map Action.c))) [1,1,1] ⟨[(3,D.acc 0)],[Ob.row .uq 199 3 (bN.map Action.c)]⟩)(hm1:aB.length<=maxLen):∀(rest:c8) (i1:Nat) (b7:c8),aB.drop i1=rest->lB aB k1 rest i1 b7=some r->Ar Γ N f141 (.q [[some (199,3)]] (D.fr 199 3 (r.map Action.c))) [1,1,0,1,0] (rest.length+1) (vD aB (b7.map Action.c) (i1:Int)):=by
 intro rest
 induction rest with
 |nil=>
  intro i1 b7 au h;rw[lB]at h;refine aP fun N1 cB bw=>?_
  exact((aT.ge Action.c au).a [.hl 0 [3] [0]]).ex hΓ cB (cq b7 h)
 |cons bA bt ih1=>
  intro i1 b7 au h;rw[lB]at h;refine aP fun N1 cB bw=>?_
  obtain⟨u9,h42,h⟩:=aD h;obtain⟨h43,h⟩:=bY h;obtain⟨x44,h45,h⟩:=aD h;exact((((((aT.lt Action.c au).l (b9 Action.c 3 (dc au) rfl)).g (FQ h42)).i (xp 3 h43)).w (show(b7.map Action.c)[i1]?=some [D.int .i64 x44.kind,D.str x44.pat.rel,D.sl (x44.pat.args.map tx)]from eT Action.c h45)).a [.row [D.int .i64 x44.kind,D.str x44.pat.rel,D.sl (x44.pat.args.map tx)],.cn [0,3,4] [0]]).cs hΓ bw (vD aB ((b7.map Action.c).set i1 [D.int .i64 u9.kind,D.str u9.pat.rel,D.sl (u9.pat.args.map tx)]) (IntKind.i64.wrap ((i1:Int)+1))) (by first| (simp only[iS au hm1,mA]<;>rfl)| (simp only[iS au hm1,mA,aG.c,aK.c,aM.c,Action.c,aN.c,aR.c,az.c,aW.c,Node.c,aJ.c,dH.c]<;>rfl)) (ih1 (i1+1) (b7.set i1 u9) (dn au) h)
theorem E9{aB:c8}{r:c8}(h:rQ aB=some r):Good prog 141 [D.sl (aB.map Action.c)] (D.fr 199 3 (r.map Action.c)):=by
 refine gd func141 [[some (199,3)]] 23 fun hr Γ hΓ=>?_
 rw[rQ]at h;obtain⟨h1,h⟩:=bY h;refine((aT.w (vb h1)).a [.cn [0,3,4] [0]]).UP hΓ (vD aB (List.replicate ((aB.map Action.c).length:Int).toNat [D.int .i64 0,D.str ([]),D.sl ([])]) 0) (by first| (simp only[mA]<;>rfl)| (simp only[mA,aG.c,aK.c,aM.c,Action.c,aN.c,aR.c,az.c,aW.c,Node.c,aJ.c,dH.c]<;>rfl)) (FP hΓ (fun bN h=>?_) (by have:=(e7.sl (hr _ (aC (i:=0) rfl))).1;simpa using this) aB 0 (List.replicate ((aB.map Action.c).length:Int).toNat (⟨(0:Int),(⟨([]:Bytes),[]⟩:aG)⟩:Action)) rfl h);have h:=aE h;subst h;exact aT.ret hΓ
def tR(aB:aN):Option aN:=((uU aB.conds).bind fun y1=>((rQ aB.ck).bind fun y3=>(some (⟨aB.name,aB.prio,y1,y3⟩:aN))))
theorem JK{aB:aN}{r:aN}(h:tR aB=some r):Good prog 81 [D.agg (aN.c aB)] (D.agg [D.str r.name,D.int .i64 r.prio,D.fr 115 5 (r.conds.map aM.c),D.fr 199 3 (r.ck.map Action.c)]):=by
 refine gd func81 [[none,none,some (115,5),some (199,3)]] 19 fun hr Γ hΓ=>?_
 rw[tR]at h;obtain⟨y1,h2,h⟩:=aD h;obtain⟨y3,h4,h⟩:=aD h;cases h;exact((aT.g (HR h2)).g (E9 h4)).ret hΓ
def ng(aB:aq)(k1:aq->Option aq):aq->Nat->aq->Option aq
 | [],i1,b7=>(k1 b7)
 |bA::bt,i1,b7=>((tR bA).bind fun u9=>(bif decide (i1<(b7.map aN.c).length)then(((b7)[i1]?).bind fun x44=>(ng aB k1 bt (i1+1) (b7.set i1 u9)))else none))
def uX(aB:aq):Option aq:=(bif BG ((aB.map aN.c).length:Int) 72 then(ng aB (fun(bN:aq)=>(some bN)) aB 0 (List.replicate ((aB.map aN.c).length:Int).toNat (⟨([]:Bytes),(0:Int),[],[]⟩:aN)))else none)
def wo(aB:aq)(W0:List aQ)(cZ:Int):St:=⟨[(0,D.sl (aB.map aN.c)),(3,D.acc 0),(4,D.int .i64 cZ)],[Ob.row .uq 105 4 W0]⟩
theorem JJ(hΓ:Γ.nt=23){aB:aq}{r:aq}{k1:aq->Option aq}(cq:∀(bN:aq),k1 bN=some r->Ax Γ N f35 (.q [[some (105,4)]] (D.fr 105 4 (r.map aN.c))) [1,1,1] ⟨[(3,D.acc 0)],[Ob.row .uq 105 4 (bN.map aN.c)]⟩)(hm1:aB.length<=maxLen):∀(rest:aq) (i1:Nat) (b7:aq),aB.drop i1=rest->ng aB k1 rest i1 b7=some r->Ar Γ N f35 (.q [[some (105,4)]] (D.fr 105 4 (r.map aN.c))) [1,1,0,1,0] (rest.length+1) (wo aB (b7.map aN.c) (i1:Int)):=by
 intro rest
 induction rest with
 |nil=>
  intro i1 b7 au h;rw[ng]at h;refine aP fun N1 cB bw=>?_
  exact((aT.ge aN.c au).a [.hl 0 [3] [0]]).ex hΓ cB (cq b7 h)
 |cons bA bt ih1=>
  intro i1 b7 au h;rw[ng]at h;refine aP fun N1 cB bw=>?_
  obtain⟨u9,h42,h⟩:=aD h;obtain⟨h43,h⟩:=bY h;obtain⟨x44,h45,h⟩:=aD h;exact((((((aT.lt aN.c au).l (b9 aN.c 4 (dc au) rfl)).g (JK h42)).i (xp 4 h43)).w (show(b7.map aN.c)[i1]?=some [D.str x44.name,D.int .i64 x44.prio,D.sl (x44.conds.map aM.c),D.sl (x44.ck.map Action.c)]from eT aN.c h45)).a [.row [D.str x44.name,D.int .i64 x44.prio,D.sl (x44.conds.map aM.c),D.sl (x44.ck.map Action.c)],.cn [0,3,4] [0]]).cs hΓ bw (wo aB ((b7.map aN.c).set i1 [D.str u9.name,D.int .i64 u9.prio,D.sl (u9.conds.map aM.c),D.sl (u9.ck.map Action.c)]) (IntKind.i64.wrap ((i1:Int)+1))) (by first| (simp only[iS au hm1,mA]<;>rfl)| (simp only[iS au hm1,mA,aG.c,aK.c,aM.c,Action.c,aN.c,aR.c,az.c,aW.c,Node.c,aJ.c,dH.c]<;>rfl)) (ih1 (i1+1) (b7.set i1 u9) (dn au) h)
theorem HU{aB:aq}{r:aq}(h:uX aB=some r):Good prog 35 [D.sl (aB.map aN.c)] (D.fr 105 4 (r.map aN.c)):=by
 refine gd func35 [[some (105,4)]] 23 fun hr Γ hΓ=>?_
 rw[uX]at h;obtain⟨h1,h⟩:=bY h;refine((aT.w (vb h1)).a [.cn [0,3,4] [0]]).UP hΓ (wo aB (List.replicate ((aB.map aN.c).length:Int).toNat [D.str ([]),D.int .i64 0,D.sl ([]),D.sl ([])]) 0) (by first| (simp only[mA]<;>rfl)| (simp only[mA,aG.c,aK.c,aM.c,Action.c,aN.c,aR.c,az.c,aW.c,Node.c,aJ.c,dH.c]<;>rfl)) (JJ hΓ (fun bN h=>?_) (by have:=(e7.sl (hr _ (aC (i:=0) rfl))).1;simpa using this) aB 0 (List.replicate ((aB.map aN.c).length:Int).toNat (⟨([]:Bytes),(0:Int),[],[]⟩:aN)) rfl h);have h:=aE h;subst h;exact aT.ret hΓ
def mJ(aB:bP)(k1:bP->Option bP):bP->Nat->bP->Option bP
 | [],i1,b7=>(k1 b7)
 |bA::bt,i1,b7=>(bif decide (i1<(b7.map gQ).length)then(((b7)[i1]?).bind fun x30=>(mJ aB k1 bt (i1+1) (b7.set i1 bA)))else none)
def vQ(aB:bP):Option bP:=(bif BG ((aB.map gQ).length:Int) 8 then(mJ aB (fun(bN:bP)=>(some bN)) aB 0 (List.replicate ((aB.map gQ).length:Int).toNat (0:Int)))else none)
def xk(aB:bP)(W0:List aQ)(cZ:Int):St:=⟨[(0,D.sl (aB.map gQ)),(3,D.acc 0),(4,D.int .i64 cZ)],[Ob.row .uq 3 1 W0]⟩
theorem Kf(hΓ:Γ.nt=22){aB:bP}{r:bP}{k1:bP->Option bP}(cq:∀(bN:bP),k1 bN=some r->Ax Γ N f50 (.q [[some (3,1)]] (D.fr 3 1 (r.map gQ))) [1,1,1] ⟨[(3,D.acc 0)],[Ob.row .uq 3 1 (bN.map gQ)]⟩)(hm1:aB.length<=maxLen):∀(rest:bP) (i1:Nat) (b7:bP),aB.drop i1=rest->mJ aB k1 rest i1 b7=some r->Ar Γ N f50 (.q [[some (3,1)]] (D.fr 3 1 (r.map gQ))) [1,1,0,1,0] (rest.length+1) (xk aB (b7.map gQ) (i1:Int)):=by
 intro rest
 induction rest with
 |nil=>
  intro i1 b7 au h;rw[mJ]at h;refine aP fun N1 cB bw=>?_
  exact((aT.ge gQ au).a [.hl 0 [3] [0]]).ex hΓ cB (cq b7 h)
 |cons bA bt ih1=>
  intro i1 b7 au h;rw[mJ]at h;refine aP fun N1 cB bw=>?_
  obtain⟨h29,h⟩:=bY h;obtain⟨x30,h31,h⟩:=aD h;exact(((((aT.lt gQ au).l (b9 gQ 1 (dc au) rfl)).i (xp 1 h29)).w (show(b7.map gQ)[i1]?=some [D.int .i64 x30]from eT gQ h31)).a [.row [D.int .i64 x30],.cn [0,3,4] [0]]).cs hΓ bw (xk aB ((b7.map gQ).set i1 [D.int .i64 bA]) (IntKind.i64.wrap ((i1:Int)+1))) (by first| (simp only[iS au hm1,mA]<;>rfl)| (simp only[iS au hm1,mA,aG.c,aK.c,aM.c,Action.c,aN.c,aR.c,az.c,aW.c,Node.c,aJ.c,dH.c]<;>rfl)) (ih1 (i1+1) (b7.set i1 bA) (dn au) h)
theorem JE{aB:bP}{r:bP}(h:vQ aB=some r):Good prog 50 [D.sl (aB.map gQ)] (D.fr 3 1 (r.map gQ)):=by
 refine gd func50 [[some (3,1)]] 22 fun hr Γ hΓ=>?_
 rw[vQ]at h;obtain⟨h1,h⟩:=bY h;refine((aT.w (vb h1)).a [.cn [0,3,4] [0]]).UP hΓ (xk aB (List.replicate ((aB.map gQ).length:Int).toNat [D.int .i64 0]) 0) (by first| (simp only[mA]<;>rfl)| (simp only[mA,aG.c,aK.c,aM.c,Action.c,aN.c,aR.c,az.c,aW.c,Node.c,aJ.c,dH.c]<;>rfl)) (Kf hΓ (fun bN h=>?_) (by have:=(e7.sl (hr _ (aC (i:=0) rfl))).1;simpa using this) aB 0 (List.replicate ((aB.map gQ).length:Int).toNat (0:Int)) rfl h);have h:=aE h;subst h;exact aT.ret hΓ
def tO(aB:aG):Option aG:=((og aB.args).bind fun y1=>(some (⟨aB.rel,y1⟩:aG)))
theorem JD{aB:aG}{r:aG}(h:tO aB=some r):Good prog 24 [D.agg (aG.c aB)] (D.agg [D.str r.rel,D.fr 9 1 (r.args.map tx)]):=by
 refine gd func24 [[none,some (9,1)]] 12 fun hr Γ hΓ=>?_
 rw[tO]at h;obtain⟨y1,h2,h⟩:=aD h;cases h;exact(aT.g (xT h2)).ret hΓ
def nY(aB:aX)(k1:aX->Option aX):aX->Nat->aX->Option aX
 | [],i1,b7=>(k1 b7)
 |bA::bt,i1,b7=>((tO bA).bind fun u9=>(bif decide (i1<(b7.map aG.c).length)then(((b7)[i1]?).bind fun x44=>(nY aB k1 bt (i1+1) (b7.set i1 u9)))else none))
def p8(aB:aX):Option aX:=(bif BG ((aB.map aG.c).length:Int) 40 then(nY aB (fun(bN:aX)=>(some bN)) aB 0 (List.replicate ((aB.map aG.c).length:Int).toNat (⟨([]:Bytes),[]⟩:aG)))else none)
def wj(aB:aX)(W0:List aQ)(cZ:Int):St:=⟨[(0,D.sl (aB.map aG.c)),(3,D.acc 0),(4,D.int .i64 cZ)],[Ob.row .uq 53 2 W0]⟩
theorem JC(hΓ:Γ.nt=23){aB:aX}{r:aX}{k1:aX->Option aX}(cq:∀(bN:aX),k1 bN=some r->Ax Γ N f15 (.q [[some (53,2)]] (D.fr 53 2 (r.map aG.c))) [1,1,1] ⟨[(3,D.acc 0)],[Ob.row .uq 53 2 (bN.map aG.c)]⟩)(hm1:aB.length<=maxLen):∀(rest:aX) (i1:Nat) (b7:aX),aB.drop i1=rest->nY aB k1 rest i1 b7=some r->Ar Γ N f15 (.q [[some (53,2)]] (D.fr 53 2 (r.map aG.c))) [1,1,0,1,0] (rest.length+1) (wj aB (b7.map aG.c) (i1:Int)):=by
 intro rest
 induction rest with
 |nil=>
  intro i1 b7 au h;rw[nY]at h;refine aP fun N1 cB bw=>?_
  exact((aT.ge aG.c au).a [.hl 0 [3] [0]]).ex hΓ cB (cq b7 h)
 |cons bA bt ih1=>
  intro i1 b7 au h;rw[nY]at h;refine aP fun N1 cB bw=>?_
  obtain⟨u9,h42,h⟩:=aD h;obtain⟨h43,h⟩:=bY h;obtain⟨x44,h45,h⟩:=aD h;exact((((((aT.lt aG.c au).l (b9 aG.c 2 (dc au) rfl)).g (JD h42)).i (xp 2 h43)).w (show(b7.map aG.c)[i1]?=some [D.str x44.rel,D.sl (x44.args.map tx)]from eT aG.c h45)).a [.row [D.str x44.rel,D.sl (x44.args.map tx)],.cn [0,3,4] [0]]).cs hΓ bw (wj aB ((b7.map aG.c).set i1 [D.str u9.rel,D.sl (u9.args.map tx)]) (IntKind.i64.wrap ((i1:Int)+1))) (by first| (simp only[iS au hm1,mA]<;>rfl)| (simp only[iS au hm1,mA,aG.c,aK.c,aM.c,Action.c,aN.c,aR.c,az.c,aW.c,Node.c,aJ.c,dH.c]<;>rfl)) (ih1 (i1+1) (b7.set i1 u9) (dn au) h)
theorem vE{aB:aX}{r:aX}(h:p8 aB=some r):Good prog 15 [D.sl (aB.map aG.c)] (D.fr 53 2 (r.map aG.c)):=by
 refine gd func15 [[some (53,2)]] 23 fun hr Γ hΓ=>?_
 rw[p8]at h;obtain⟨h1,h⟩:=bY h;refine((aT.w (vb h1)).a [.cn [0,3,4] [0]]).UP hΓ (wj aB (List.replicate ((aB.map aG.c).length:Int).toNat [D.str ([]),D.sl ([])]) 0) (by first| (simp only[mA]<;>rfl)| (simp only[mA,aG.c,aK.c,aM.c,Action.c,aN.c,aR.c,az.c,aW.c,Node.c,aJ.c,dH.c]<;>rfl)) (JC hΓ (fun bN h=>?_) (by have:=(e7.sl (hr _ (aC (i:=0) rfl))).1;simpa using this) aB 0 (List.replicate ((aB.map aG.c).length:Int).toNat (⟨([]:Bytes),[]⟩:aG)) rfl h);have h:=aE h;subst h;exact aT.ret hΓ
def rR(aB:aW):Option aW:=((mK aB.shape).bind fun y1=>((p8 aB.facts).bind fun y3=>(some (⟨y1,y3⟩:aW))))
theorem HQ{aB:aW}{r:aW}(h:rR aB=some r):Good prog 107 [D.agg (aW.c aB)] (D.agg [D.str r.shape.rel,D.fr 9 1 (r.shape.args.map tx),D.fr 53 2 (r.facts.map aG.c)]):=by
 refine gd func107 [[none,some (9,1),some (53,2)]] 13 fun hr Γ hΓ=>?_
 rw[rR]at h;obtain⟨y1,h2,h⟩:=aD h;obtain⟨y3,h4,h⟩:=aD h;cases h;exact((aT.g (tq h2)).g (vE h4)).ret hΓ
def mI(aB:bK)(k1:bK->Option bK):bK->Nat->bK->Option bK
 | [],i1,b7=>(k1 b7)
 |bA::bt,i1,b7=>((rR bA).bind fun u9=>(bif decide (i1<(b7.map aW.c).length)then(((b7)[i1]?).bind fun x44=>(mI aB k1 bt (i1+1) (b7.set i1 u9)))else none))
def si(aB:bK):Option bK:=(bif BG ((aB.map aW.c).length:Int) 64 then(mI aB (fun(bN:bK)=>(some bN)) aB 0 (List.replicate ((aB.map aW.c).length:Int).toNat (⟨(⟨([]:Bytes),[]⟩:aG),[]⟩:aW)))else none)
def vv(aB:bK)(W0:List aQ)(cZ:Int):St:=⟨[(0,D.sl (aB.map aW.c)),(3,D.acc 0),(4,D.int .i64 cZ)],[Ob.row .uq 111 3 W0]⟩
theorem HP(hΓ:Γ.nt=23){aB:bK}{r:bK}{k1:bK->Option bK}(cq:∀(bN:bK),k1 bN=some r->Ax Γ N f51 (.q [[some (111,3)]] (D.fr 111 3 (r.map aW.c))) [1,1,1] ⟨[(3,D.acc 0)],[Ob.row .uq 111 3 (bN.map aW.c)]⟩)(hm1:aB.length<=maxLen):∀(rest:bK) (i1:Nat) (b7:bK),aB.drop i1=rest->mI aB k1 rest i1 b7=some r->Ar Γ N f51 (.q [[some (111,3)]] (D.fr 111 3 (r.map aW.c))) [1,1,0,1,0] (rest.length+1) (vv aB (b7.map aW.c) (i1:Int)):=by
 intro rest
 induction rest with
 |nil=>
  intro i1 b7 au h;rw[mI]at h;refine aP fun N1 cB bw=>?_
  exact((aT.ge aW.c au).a [.hl 0 [3] [0]]).ex hΓ cB (cq b7 h)
 |cons bA bt ih1=>
  intro i1 b7 au h;rw[mI]at h;refine aP fun N1 cB bw=>?_
  obtain⟨u9,h42,h⟩:=aD h;obtain⟨h43,h⟩:=bY h;obtain⟨x44,h45,h⟩:=aD h;exact((((((aT.lt aW.c au).l (b9 aW.c 3 (dc au) rfl)).g (HQ h42)).i (xp 3 h43)).w (show(b7.map aW.c)[i1]?=some [D.str x44.shape.rel,D.sl (x44.shape.args.map tx),D.sl (x44.facts.map aG.c)]from eT aW.c h45)).a [.row [D.str x44.shape.rel,D.sl (x44.shape.args.map tx),D.sl (x44.facts.map aG.c)],.cn [0,3,4] [0]]).cs hΓ bw (vv aB ((b7.map aW.c).set i1 [D.str u9.shape.rel,D.sl (u9.shape.args.map tx),D.sl (u9.facts.map aG.c)]) (IntKind.i64.wrap ((i1:Int)+1))) (by first| (simp only[iS au hm1,mA]<;>rfl)| (simp only[iS au hm1,mA,aG.c,aK.c,aM.c,Action.c,aN.c,aR.c,az.c,aW.c,Node.c,aJ.c,dH.c]<;>rfl)) (ih1 (i1+1) (b7.set i1 u9) (dn au) h)
theorem FR{aB:bK}{r:bK}(h:si aB=some r):Good prog 51 [D.sl (aB.map aW.c)] (D.fr 111 3 (r.map aW.c)):=by
 refine gd func51 [[some (111,3)]] 23 fun hr Γ hΓ=>?_
 rw[si]at h;obtain⟨h1,h⟩:=bY h;refine((aT.w (vb h1)).a [.cn [0,3,4] [0]]).UP hΓ (vv aB (List.replicate ((aB.map aW.c).length:Int).toNat [D.str ([]),D.sl ([]),D.sl ([])]) 0) (by first| (simp only[mA]<;>rfl)| (simp only[mA,aG.c,aK.c,aM.c,Action.c,aN.c,aR.c,az.c,aW.c,Node.c,aJ.c,dH.c]<;>rfl)) (HP hΓ (fun bN h=>?_) (by have:=(e7.sl (hr _ (aC (i:=0) rfl))).1;simpa using this) aB 0 (List.replicate ((aB.map aW.c).length:Int).toNat (⟨(⟨([]:Bytes),[]⟩:aG),[]⟩:aW)) rfl h);have h:=aE h;subst h;exact aT.ret hΓ
def tQ(aB:aK):Option aK:=(some aB)
theorem JI{aB:aK}{r:aK}(h:tQ aB=some r):Good prog 284 [D.agg (aK.c aB)] (D.agg [D.str r.var,D.str r.value]):=by
 refine gd func284 [[none,none]] 11 fun hr Γ hΓ=>?_
 rw[tQ]at h;have h:=aE h;subst h;exact aT.ret hΓ
def nc(aB:aI)(k1:aI->Option aI):aI->Nat->aI->Option aI
 | [],i1,b7=>(k1 b7)
 |bA::bt,i1,b7=>((tQ bA).bind fun u9=>(bif decide (i1<(b7.map aK.c).length)then(((b7)[i1]?).bind fun x44=>(nc aB k1 bt (i1+1) (b7.set i1 u9)))else none))
def uW(aB:aI):Option aI:=(bif BG ((aB.map aK.c).length:Int) 32 then(nc aB (fun(bN:aI)=>(some bN)) aB 0 (List.replicate ((aB.map aK.c).length:Int).toNat (⟨([]:Bytes),([]:Bytes)⟩:aK)))else none)
def wm(aB:aI)(W0:List aQ)(cZ:Int):St:=⟨[(0,D.sl (aB.map aK.c)),(3,D.acc 0),(4,D.int .i64 cZ)],[Ob.row .uq 152 2 W0]⟩
theorem JH(hΓ:Γ.nt=23){aB:aI}{r:aI}{k1:aI->Option aI}(cq:∀(bN:aI),k1 bN=some r->Ax Γ N f273 (.q [[some (152,2)]] (D.fr 152 2 (r.map aK.c))) [1,1,1] ⟨[(3,D.acc 0)],[Ob.row .uq 152 2 (bN.map aK.c)]⟩)(hm1:aB.length<=maxLen):∀(rest:aI) (i1:Nat) (b7:aI),aB.drop i1=rest->nc aB k1 rest i1 b7=some r->Ar Γ N f273 (.q [[some (152,2)]] (D.fr 152 2 (r.map aK.c))) [1,1,0,1,0] (rest.length+1) (wm aB (b7.map aK.c) (i1:Int)):=by
 intro rest
 induction rest with
 |nil=>
  intro i1 b7 au h;rw[nc]at h;refine aP fun N1 cB bw=>?_
  exact((aT.ge aK.c au).a [.hl 0 [3] [0]]).ex hΓ cB (cq b7 h)
 |cons bA bt ih1=>
  intro i1 b7 au h;rw[nc]at h;refine aP fun N1 cB bw=>?_
  obtain⟨u9,h42,h⟩:=aD h;obtain⟨h43,h⟩:=bY h;obtain⟨x44,h45,h⟩:=aD h;exact((((((aT.lt aK.c au).l (b9 aK.c 2 (dc au) rfl)).g (JI h42)).i (xp 2 h43)).w (show(b7.map aK.c)[i1]?=some [D.str x44.var,D.str x44.value]from eT aK.c h45)).a [.row [D.str x44.var,D.str x44.value],.cn [0,3,4] [0]]).cs hΓ bw (wm aB ((b7.map aK.c).set i1 [D.str u9.var,D.str u9.value]) (IntKind.i64.wrap ((i1:Int)+1))) (by first| (simp only[iS au hm1,mA]<;>rfl)| (simp only[iS au hm1,mA,aG.c,aK.c,aM.c,Action.c,aN.c,aR.c,az.c,aW.c,Node.c,aJ.c,dH.c]<;>rfl)) (ih1 (i1+1) (b7.set i1 u9) (dn au) h)
theorem HT{aB:aI}{r:aI}(h:uW aB=some r):Good prog 273 [D.sl (aB.map aK.c)] (D.fr 152 2 (r.map aK.c)):=by
 refine gd func273 [[some (152,2)]] 23 fun hr Γ hΓ=>?_
 rw[uW]at h;obtain⟨h1,h⟩:=bY h;refine((aT.w (vb h1)).a [.cn [0,3,4] [0]]).UP hΓ (wm aB (List.replicate ((aB.map aK.c).length:Int).toNat [D.str ([]),D.str ([])]) 0) (by first| (simp only[mA]<;>rfl)| (simp only[mA,aG.c,aK.c,aM.c,Action.c,aN.c,aR.c,az.c,aW.c,Node.c,aJ.c,dH.c]<;>rfl)) (JH hΓ (fun bN h=>?_) (by have:=(e7.sl (hr _ (aC (i:=0) rfl))).1;simpa using this) aB 0 (List.replicate ((aB.map aK.c).length:Int).toNat (⟨([]:Bytes),([]:Bytes)⟩:aK)) rfl h);have h:=aE h;subst h;exact aT.ret hΓ
def rS(aB:aR):Option aR:=((p8 aB.facts).bind fun y1=>((uW aB.bind).bind fun y3=>(some (⟨y1,y3⟩:aR))))
theorem HW{aB:aR}{r:aR}(h:rS aB=some r):Good prog 243 [D.agg (aR.c aB)] (D.agg [D.fr 53 2 (r.facts.map aG.c),D.fr 152 2 (r.bind.map aK.c)]):=by
 refine gd func243 [[some (53,2),some (152,2)]] 13 fun hr Γ hΓ=>?_
 rw[rS]at h;obtain⟨y1,h2,h⟩:=aD h;obtain⟨y3,h4,h⟩:=aD h;cases h;exact((aT.g (vE h2)).g (HT h4)).ret hΓ
def mL(aB:av)(k1:av->Option av):av->Nat->av->Option av
 | [],i1,b7=>(k1 b7)
 |bA::bt,i1,b7=>((rS bA).bind fun u9=>(bif decide (i1<(b7.map aR.c).length)then(((b7)[i1]?).bind fun x44=>(mL aB k1 bt (i1+1) (b7.set i1 u9)))else none))
def sj(aB:av):Option av:=(bif BG ((aB.map aR.c).length:Int) 48 then(mL aB (fun(bN:av)=>(some bN)) aB 0 (List.replicate ((aB.map aR.c).length:Int).toNat (⟨[],[]⟩:aR)))else none)
def vz(aB:av)(W0:List aQ)(cZ:Int):St:=⟨[(0,D.sl (aB.map aR.c)),(3,D.acc 0),(4,D.int .i64 cZ)],[Ob.row .uq 124 2 W0]⟩
theorem HV(hΓ:Γ.nt=23){aB:av}{r:av}{k1:av->Option av}(cq:∀(bN:av),k1 bN=some r->Ax Γ N f181 (.q [[some (124,2)]] (D.fr 124 2 (r.map aR.c))) [1,1,1] ⟨[(3,D.acc 0)],[Ob.row .uq 124 2 (bN.map aR.c)]⟩)(hm1:aB.length<=maxLen):∀(rest:av) (i1:Nat) (b7:av),aB.drop i1=rest->mL aB k1 rest i1 b7=some r->Ar Γ N f181 (.q [[some (124,2)]] (D.fr 124 2 (r.map aR.c))) [1,1,0,1,0] (rest.length+1) (vz aB (b7.map aR.c) (i1:Int)):=by
 intro rest
 induction rest with
 |nil=>
  intro i1 b7 au h;rw[mL]at h;refine aP fun N1 cB bw=>?_
  exact((aT.ge aR.c au).a [.hl 0 [3] [0]]).ex hΓ cB (cq b7 h)
 |cons bA bt ih1=>
  intro i1 b7 au h;rw[mL]at h;refine aP fun N1 cB bw=>?_
  obtain⟨u9,h42,h⟩:=aD h;obtain⟨h43,h⟩:=bY h;obtain⟨x44,h45,h⟩:=aD h;exact((((((aT.lt aR.c au).l (b9 aR.c 2 (dc au) rfl)).g (HW h42)).i (xp 2 h43)).w (show(b7.map aR.c)[i1]?=some [D.sl (x44.facts.map aG.c),D.sl (x44.bind.map aK.c)]from eT aR.c h45)).a [.row [D.sl (x44.facts.map aG.c),D.sl (x44.bind.map aK.c)],.cn [0,3,4] [0]]).cs hΓ bw (vz aB ((b7.map aR.c).set i1 [D.sl (u9.facts.map aG.c),D.sl (u9.bind.map aK.c)]) (IntKind.i64.wrap ((i1:Int)+1))) (by first| (simp only[iS au hm1,mA]<;>rfl)| (simp only[iS au hm1,mA,aG.c,aK.c,aM.c,Action.c,aN.c,aR.c,az.c,aW.c,Node.c,aJ.c,dH.c]<;>rfl)) (ih1 (i1+1) (b7.set i1 u9) (dn au) h)
theorem FU{aB:av}{r:av}(h:sj aB=some r):Good prog 181 [D.sl (aB.map aR.c)] (D.fr 124 2 (r.map aR.c)):=by
 refine gd func181 [[some (124,2)]] 23 fun hr Γ hΓ=>?_
 rw[sj]at h;obtain⟨h1,h⟩:=bY h;refine((aT.w (vb h1)).a [.cn [0,3,4] [0]]).UP hΓ (vz aB (List.replicate ((aB.map aR.c).length:Int).toNat [D.sl ([]),D.sl ([])]) 0) (by first| (simp only[mA]<;>rfl)| (simp only[mA,aG.c,aK.c,aM.c,Action.c,aN.c,aR.c,az.c,aW.c,Node.c,aJ.c,dH.c]<;>rfl)) (HV hΓ (fun bN h=>?_) (by have:=(e7.sl (hr _ (aC (i:=0) rfl))).1;simpa using this) aB 0 (List.replicate ((aB.map aR.c).length:Int).toNat (⟨[],[]⟩:aR)) rfl h);have h:=aE h;subst h;exact aT.ret hΓ
def tP(aB:Node):Option Node:=((qT aB.cond).bind fun y1=>((sj aB.tokens).bind fun y3=>(some (⟨aB.parent,y1,aB.gK,y3⟩:Node))))
theorem JG{aB:Node}{r:Node}(h:tP aB=some r):Good prog 108 [D.agg (Node.c aB)] (D.agg [D.int .i64 r.parent,D.int .i64 r.cond.kind,D.str r.cond.pat.rel,D.fr 9 1 (r.cond.pat.args.map tx),D.str r.cond.left,D.str r.cond.right,D.int .i64 r.gK,D.fr 124 2 (r.tokens.map aR.c)]):=by
 refine gd func108 [[none,none,none,some (9,1),none,none,none,some (124,2)]] 19 fun hr Γ hΓ=>?_
 rw[tP]at h;obtain⟨y1,h2,h⟩:=aD h;obtain⟨y3,h4,h⟩:=aD h;cases h;exact((aT.g (AP h2)).g (FU h4)).ret hΓ
def nZ(aB:bE)(k1:bE->Option bE):bE->Nat->bE->Option bE
 | [],i1,b7=>(k1 b7)
 |bA::bt,i1,b7=>((tP bA).bind fun u9=>(bif decide (i1<(b7.map Node.c).length)then(((b7)[i1]?).bind fun x44=>(nZ aB k1 bt (i1+1) (b7.set i1 u9)))else none))
def uV(aB:bE):Option bE:=(bif BG ((aB.map Node.c).length:Int) 120 then(nZ aB (fun(bN:bE)=>(some bN)) aB 0 (List.replicate ((aB.map Node.c).length:Int).toNat (⟨(0:Int),(⟨(0:Int),(⟨([]:Bytes),[]⟩:aG),([]:Bytes),([]:Bytes)⟩:aM),(0:Int),[]⟩:Node)))else none)
def wk(aB:bE)(W0:List aQ)(cZ:Int):St:=⟨[(0,D.sl (aB.map Node.c)),(3,D.acc 0),(4,D.int .i64 cZ)],[Ob.row .uq 118 8 W0]⟩
theorem JF(hΓ:Γ.nt=23){aB:bE}{r:bE}{k1:bE->Option bE}(cq:∀(bN:bE),k1 bN=some r->Ax Γ N f52 (.q [[some (118,8)]] (D.fr 118 8 (r.map Node.c))) [1,1,1] ⟨[(3,D.acc 0)],[Ob.row .uq 118 8 (bN.map Node.c)]⟩)(hm1:aB.length<=maxLen):∀(rest:bE) (i1:Nat) (b7:bE),aB.drop i1=rest->nZ aB k1 rest i1 b7=some r->Ar Γ N f52 (.q [[some (118,8)]] (D.fr 118 8 (r.map Node.c))) [1,1,0,1,0] (rest.length+1) (wk aB (b7.map Node.c) (i1:Int)):=by
 intro rest
 induction rest with
 |nil=>
  intro i1 b7 au h;rw[nZ]at h;refine aP fun N1 cB bw=>?_
  exact((aT.ge Node.c au).a [.hl 0 [3] [0]]).ex hΓ cB (cq b7 h)
 |cons bA bt ih1=>
  intro i1 b7 au h;rw[nZ]at h;refine aP fun N1 cB bw=>?_
  obtain⟨u9,h42,h⟩:=aD h;obtain⟨h43,h⟩:=bY h;obtain⟨x44,h45,h⟩:=aD h;exact((((((aT.lt Node.c au).l (b9 Node.c 8 (dc au) rfl)).g (JG h42)).i (xp 8 h43)).w (show(b7.map Node.c)[i1]?=some [D.int .i64 x44.parent,D.int .i64 x44.cond.kind,D.str x44.cond.pat.rel,D.sl (x44.cond.pat.args.map tx),D.str x44.cond.left,D.str x44.cond.right,D.int .i64 x44.gK,D.sl (x44.tokens.map aR.c)]from eT Node.c h45)).a [.row [D.int .i64 x44.parent,D.int .i64 x44.cond.kind,D.str x44.cond.pat.rel,D.sl (x44.cond.pat.args.map tx),D.str x44.cond.left,D.str x44.cond.right,D.int .i64 x44.gK,D.sl (x44.tokens.map aR.c)],.cn [0,3,4] [0]]).cs hΓ bw (wk aB ((b7.map Node.c).set i1 [D.int .i64 u9.parent,D.int .i64 u9.cond.kind,D.str u9.cond.pat.rel,D.sl (u9.cond.pat.args.map tx),D.str u9.cond.left,D.str u9.cond.right,D.int .i64 u9.gK,D.sl (u9.tokens.map aR.c)]) (IntKind.i64.wrap ((i1:Int)+1))) (by first| (simp only[iS au hm1,mA]<;>rfl)| (simp only[iS au hm1,mA,aG.c,aK.c,aM.c,Action.c,aN.c,aR.c,az.c,aW.c,Node.c,aJ.c,dH.c]<;>rfl)) (ih1 (i1+1) (b7.set i1 u9) (dn au) h)
theorem HS{aB:bE}{r:bE}(h:uV aB=some r):Good prog 52 [D.sl (aB.map Node.c)] (D.fr 118 8 (r.map Node.c)):=by
 refine gd func52 [[some (118,8)]] 23 fun hr Γ hΓ=>?_
 rw[uV]at h;obtain⟨h1,h⟩:=bY h;refine((aT.w (vb h1)).a [.cn [0,3,4] [0]]).UP hΓ (wk aB (List.replicate ((aB.map Node.c).length:Int).toNat [D.int .i64 0,D.int .i64 0,D.str ([]),D.sl ([]),D.str ([]),D.str ([]),D.int .i64 0,D.sl ([])]) 0) (by first| (simp only[mA]<;>rfl)| (simp only[mA,aG.c,aK.c,aM.c,Action.c,aN.c,aR.c,az.c,aW.c,Node.c,aJ.c,dH.c]<;>rfl)) (JF hΓ (fun bN h=>?_) (by have:=(e7.sl (hr _ (aC (i:=0) rfl))).1;simpa using this) aB 0 (List.replicate ((aB.map Node.c).length:Int).toNat (⟨(0:Int),(⟨(0:Int),(⟨([]:Bytes),[]⟩:aG),([]:Bytes),([]:Bytes)⟩:aM),(0:Int),[]⟩:Node)) rfl h);have h:=aE h;subst h;exact aT.ret hΓ
def jv(aB:aJ):Option aJ:=((uX aB.rules).bind fun y1=>((vQ aB.ends).bind fun y3=>((si aB.bJ).bind fun y5=>((uV aB.nodes).bind fun y7=>((p8 aB.facts).bind fun y9=>(some (⟨y1,y3,y5,y7,y9,aB.dB⟩:aJ)))))))
theorem pL{aB:aJ}{r:aJ}(h:jv aB=some r):Good prog 14 [D.agg (aJ.c aB)] (D.agg [D.fr 105 4 (r.rules.map aN.c),D.fr 3 1 (r.ends.map gQ),D.fr 111 3 (r.bJ.map aW.c),D.fr 118 8 (r.nodes.map Node.c),D.fr 53 2 (r.facts.map aG.c),D.int .i64 r.dB]):=by
 refine gd func14 [[some (105,4),some (3,1),some (111,3),some (118,8),some (53,2),none]] 28 fun hr Γ hΓ=>?_
 rw[jv]at h;obtain⟨y1,h2,h⟩:=aD h;obtain⟨y3,h4,h⟩:=aD h;obtain⟨y5,h6,h⟩:=aD h;obtain⟨y7,h8,h⟩:=aD h;obtain⟨y9,h10,h⟩:=aD h;cases h;exact(((((aT.g (HU h2)).g (JE h4)).g (FR h6)).g (HS h8)).g (vE h10)).ret hΓ
end Go.Cx
namespace Go.Cx
open Go.RowKit Go.Proofs Tryz
set_option maxRecDepth 100000
variable{Γ:tY}{N:Nat->St->Prop}
def l7(aB:aH)(aV:aH)(k1:Option Bool):aH->Nat->Option Bool
 | [],i1=>(k1)
 |bA::bt,i1=>((nF aV (i1:Int)).bind fun x22=>(bif !((bA:Bytes)==x22)then(some false)else(l7 aB aV k1 bt (i1+1))))
def oY(aB:aH)(aV:aH):Option Bool:=(bif (((aB.map tx).length:Int):Int) != ((aV.map tx).length:Int)then(some false)else(l7 aB aV (some true) aB 0))
def H9(aB:aH)(aV:aH)(cZ:Int):St:=⟨[(0,D.sl (aB.map tx)),(1,D.sl (aV.map tx)),(5,D.int .i64 cZ)],[]⟩
theorem F9(hΓ:Γ.nt=26){aB:aH}{aV:aH}{r:Bool}{k1:Option Bool}(cq:k1=some r->Ax Γ N f74 (.q [[none]] (D.bool r)) [1,1,1] ⟨[],[]⟩)(hm1:aB.length<=maxLen):∀(rest:aH) (i1:Nat),aB.drop i1=rest->l7 aB aV k1 rest i1=some r->Ar Γ N f74 (.q [[none]] (D.bool r)) [1,1,0,1,0] (rest.length+1) (H9 aB aV (i1:Int)):=by
 intro rest
 induction rest with
 |nil=>
  intro i1 au h;rw[l7]at h;refine aP fun N1 cB bw=>?_
  exact((aT.ge tx au).a [.hl 0 [] []]).ex hΓ cB (cq h)
 |cons bA bt ih1=>
  intro i1 au h;rw[l7]at h;refine aP fun N1 cB bw=>?_
  obtain⟨x22,h23,h⟩:=aD h;have dL:=((((aT.lt tx au).a [.n 8]).l (b9 tx 1 (dc au) rfl)).l (dO tx 1 h23 rfl))
  obtain⟨h24,h⟩|⟨h24,h⟩:=aO h
  ·have h:=aE h;subst h;exact(dL.b h24).ret hΓ
  ·exact((dL.b h24).a [.cn [0,1,5] []]).ct hΓ bw (iS au hm1) (ih1 (i1+1) (dn au) h)
theorem xP{aB:aH}{aV:aH}{r:Bool}(h:oY aB aV=some r):Good prog 74 [D.sl (aB.map tx),D.sl (aV.map tx)] (D.bool r):=by
 refine gd func74 [[none]] 26 fun hr Γ hΓ=>?_
 rw[oY]at h;obtain⟨h1,h⟩|⟨h1,h⟩:=aO h
 ·have h:=aE h;subst h;exact(aT.b h1).ret hΓ
 ·refine((aT.b h1).a [.cn [0,1,5] []]).lp hΓ (F9 hΓ (fun h=>?_) (by have:=(e7.sl (hr _ (aC (i:=0) rfl))).1;simpa using this) aB 0 rfl h);have h:=aE h;subst h;exact aT.ret hΓ
def mC(aB:aG)(aV:aG):Option Bool:=(bif !((aB.rel:Bytes)==aV.rel)then(some false)else((oY aB.args aV.args).bind fun y2=>(bif !(y2)then(some false)else(some true))))
theorem pJ{aB:aG}{aV:aG}{r:Bool}(h:mC aB aV=some r):Good prog 186 [D.agg (aG.c aB),D.agg (aG.c aV)] (D.bool r):=by
 refine gd func186 [[none]] 16 fun hr Γ hΓ=>?_
 rw[mC]at h;obtain⟨h1,h⟩|⟨h1,h⟩:=aO h
 ·have h:=aE h;subst h;exact(aT.b h1).ret hΓ
 ·obtain⟨y2,h3,h⟩:=aD h;have kX:=((aT.b h1).g (xP h3))
  obtain⟨h4,h⟩|⟨h4,h⟩:=aO h
  ·have h:=aE h;subst h;exact(kX.b h4).ret hΓ
  ·have h:=aE h;subst h;exact(kX.b h4).ret hΓ
def qR(aB:aM)(aV:aM):Option Bool:=(bif (aB.kind:Int) != aV.kind then(some false)else((mC aB.pat aV.pat).bind fun y2=>(bif !(y2)then(some false)else(bif !((aB.left:Bytes)==aV.left)then(some false)else(bif !((aB.right:Bytes)==aV.right)then(some false)else(some true))))))
theorem AN{aB:aM}{aV:aM}{r:Bool}(h:qR aB aV=some r):Good prog 187 [D.agg (aM.c aB),D.agg (aM.c aV)] (D.bool r):=by
 refine gd func187 [[none]] 26 fun hr Γ hΓ=>?_
 rw[qR]at h;obtain⟨h1,h⟩|⟨h1,h⟩:=aO h
 ·have h:=aE h;subst h;exact(aT.b h1).ret hΓ
 ·obtain⟨y2,h3,h⟩:=aD h;have kX:=((aT.b h1).g (pJ h3))
  obtain⟨h4,h⟩|⟨h4,h⟩:=aO h
  ·have h:=aE h;subst h;exact(kX.b h4).ret hΓ
  ·obtain⟨h5,h⟩|⟨h5,h⟩:=aO h
   ·have h:=aE h;subst h;exact((kX.b h4).b h5).ret hΓ
   ·have dL:=((kX.b h4).b h5)
    obtain⟨h6,h⟩|⟨h6,h⟩:=aO h
    ·have h:=aE h;subst h;exact(dL.b h6).ret hΓ
    ·have h:=aE h;subst h;exact(dL.b h6).ret hΓ
def nM(aB:ai)(aV:ai)(k1:Option Bool):ai->Nat->Option Bool
 | [],i1=>(k1)
 |bA::bt,i1=>((nF aV (i1:Int)).bind fun x30=>((qR bA x30).bind fun ya=>(bif !(ya)then(some false)else(nM aB aV k1 bt (i1+1)))))
def uM(aB:ai)(aV:ai):Option Bool:=(bif (((aB.map aM.c).length:Int):Int) != ((aV.map aM.c).length:Int)then(some false)else(nM aB aV (some true) aB 0))
def KT(aB:ai)(aV:ai)(cZ:Int):St:=⟨[(0,D.sl (aB.map aM.c)),(1,D.sl (aV.map aM.c)),(5,D.int .i64 cZ)],[]⟩
theorem Il(hΓ:Γ.nt=27){aB:ai}{aV:ai}{r:Bool}{k1:Option Bool}(cq:k1=some r->Ax Γ N f146 (.q [[none]] (D.bool r)) [1,1,1] ⟨[],[]⟩)(hm1:aB.length<=maxLen):∀(rest:ai) (i1:Nat),aB.drop i1=rest->nM aB aV k1 rest i1=some r->Ar Γ N f146 (.q [[none]] (D.bool r)) [1,1,0,1,0] (rest.length+1) (KT aB aV (i1:Int)):=by
 intro rest
 induction rest with
 |nil=>
  intro i1 au h;rw[nM]at h;refine aP fun N1 cB bw=>?_
  exact((aT.ge aM.c au).a [.hl 0 [] []]).ex hΓ cB (cq h)
 |cons bA bt ih1=>
  intro i1 au h;rw[nM]at h;refine aP fun N1 cB bw=>?_
  obtain⟨x30,h31,h⟩:=aD h;obtain⟨ya,h33,h⟩:=aD h;have dL:=(((((aT.lt aM.c au).a [.n 8]).l (b9 aM.c 5 (dc au) rfl)).l (dO aM.c 5 h31 rfl)).g (AN h33))
  obtain⟨h34,h⟩|⟨h34,h⟩:=aO h
  ·have h:=aE h;subst h;exact(dL.b h34).ret hΓ
  ·exact((dL.b h34).a [.cn [0,1,5] []]).ct hΓ bw (iS au hm1) (ih1 (i1+1) (dn au) h)
theorem Gz{aB:ai}{aV:ai}{r:Bool}(h:uM aB aV=some r):Good prog 146 [D.sl (aB.map aM.c),D.sl (aV.map aM.c)] (D.bool r):=by
 refine gd func146 [[none]] 27 fun hr Γ hΓ=>?_
 rw[uM]at h;obtain⟨h1,h⟩|⟨h1,h⟩:=aO h
 ·have h:=aE h;subst h;exact(aT.b h1).ret hΓ
 ·refine((aT.b h1).a [.cn [0,1,5] []]).lp hΓ (Il hΓ (fun h=>?_) (by have:=(e7.sl (hr _ (aC (i:=0) rfl))).1;simpa using this) aB 0 rfl h);have h:=aE h;subst h;exact aT.ret hΓ
def pU(aB:Action)(aV:Action):Option Bool:=(bif (aB.kind:Int) != aV.kind then(some false)else((mC aB.pat aV.pat).bind fun y2=>(bif !(y2)then(some false)else(some true))))
theorem F7{aB:Action}{aV:Action}{r:Bool}(h:pU aB aV=some r):Good prog 223 [D.agg (Action.c aB),D.agg (Action.c aV)] (D.bool r):=by
 refine gd func223 [[none]] 16 fun hr Γ hΓ=>?_
 rw[pU]at h;obtain⟨h1,h⟩|⟨h1,h⟩:=aO h
 ·have h:=aE h;subst h;exact(aT.b h1).ret hΓ
 ·obtain⟨y2,h3,h⟩:=aD h;have kX:=((aT.b h1).g (pJ h3))
  obtain⟨h4,h⟩|⟨h4,h⟩:=aO h
  ·have h:=aE h;subst h;exact(kX.b h4).ret hΓ
  ·have h:=aE h;subst h;exact(kX.b h4).ret hΓ
def l6(aB:c8)(aV:c8)(k1:Option Bool):c8->Nat->Option Bool
 | [],i1=>(k1)
 |bA::bt,i1=>((nF aV (i1:Int)).bind fun x30=>((pU bA x30).bind fun ya=>(bif !(ya)then(some false)else(l6 aB aV k1 bt (i1+1)))))
def rD(aB:c8)(aV:c8):Option Bool:=(bif (((aB.map Action.c).length:Int):Int) != ((aV.map Action.c).length:Int)then(some false)else(l6 aB aV (some true) aB 0))
def Gw(aB:c8)(aV:c8)(cZ:Int):St:=⟨[(0,D.sl (aB.map Action.c)),(1,D.sl (aV.map Action.c)),(5,D.int .i64 cZ)],[]⟩
theorem F6(hΓ:Γ.nt=27){aB:c8}{aV:c8}{r:Bool}{k1:Option Bool}(cq:k1=some r->Ax Γ N f147 (.q [[none]] (D.bool r)) [1,1,1] ⟨[],[]⟩)(hm1:aB.length<=maxLen):∀(rest:c8) (i1:Nat),aB.drop i1=rest->l6 aB aV k1 rest i1=some r->Ar Γ N f147 (.q [[none]] (D.bool r)) [1,1,0,1,0] (rest.length+1) (Gw aB aV (i1:Int)):=by
 intro rest
 induction rest with
 |nil=>
  intro i1 au h;rw[l6]at h;refine aP fun N1 cB bw=>?_
  exact((aT.ge Action.c au).a [.hl 0 [] []]).ex hΓ cB (cq h)
 |cons bA bt ih1=>
  intro i1 au h;rw[l6]at h;refine aP fun N1 cB bw=>?_
  obtain⟨x30,h31,h⟩:=aD h;obtain⟨ya,h33,h⟩:=aD h;have dL:=(((((aT.lt Action.c au).a [.n 8]).l (b9 Action.c 3 (dc au) rfl)).l (dO Action.c 3 h31 rfl)).g (F7 h33))
  obtain⟨h34,h⟩|⟨h34,h⟩:=aO h
  ·have h:=aE h;subst h;exact(dL.b h34).ret hΓ
  ·exact((dL.b h34).a [.cn [0,1,5] []]).ct hΓ bw (iS au hm1) (ih1 (i1+1) (dn au) h)
theorem Dw{aB:c8}{aV:c8}{r:Bool}(h:rD aB aV=some r):Good prog 147 [D.sl (aB.map Action.c),D.sl (aV.map Action.c)] (D.bool r):=by
 refine gd func147 [[none]] 27 fun hr Γ hΓ=>?_
 rw[rD]at h;obtain⟨h1,h⟩|⟨h1,h⟩:=aO h
 ·have h:=aE h;subst h;exact(aT.b h1).ret hΓ
 ·refine((aT.b h1).a [.cn [0,1,5] []]).lp hΓ (F6 hΓ (fun h=>?_) (by have:=(e7.sl (hr _ (aC (i:=0) rfl))).1;simpa using this) aB 0 rfl h);have h:=aE h;subst h;exact aT.ret hΓ
def tJ(aB:aN)(aV:aN):Option Bool:=(bif !((aB.name:Bytes)==aV.name)then(some false)else(bif (aB.prio:Int) != aV.prio then(some false)else((uM aB.conds aV.conds).bind fun y3=>(bif !(y3)then(some false)else((rD aB.ck aV.ck).bind fun y6=>(bif !(y6)then(some false)else(some true)))))))
theorem Iw{aB:aN}{aV:aN}{r:Bool}(h:tJ aB aV=some r):Good prog 84 [D.agg (aN.c aB),D.agg (aN.c aV)] (D.bool r):=by
 refine gd func84 [[none]] 27 fun hr Γ hΓ=>?_
 rw[tJ]at h;obtain⟨h1,h⟩|⟨h1,h⟩:=aO h
 ·have h:=aE h;subst h;exact(aT.b h1).ret hΓ
 ·obtain⟨h2,h⟩|⟨h2,h⟩:=aO h
  ·have h:=aE h;subst h;exact((aT.b h1).b h2).ret hΓ
  ·obtain⟨y3,h4,h⟩:=aD h;have kX:=(((aT.b h1).b h2).g (Gz h4))
   obtain⟨h5,h⟩|⟨h5,h⟩:=aO h
   ·have h:=aE h;subst h;exact(kX.b h5).ret hΓ
   ·obtain⟨y6,h7,h⟩:=aD h;have dL:=((kX.b h5).g (Dw h7))
    obtain⟨h8,h⟩|⟨h8,h⟩:=aO h
    ·have h:=aE h;subst h;exact(dL.b h8).ret hΓ
    ·have h:=aE h;subst h;exact(dL.b h8).ret hΓ
def nQ(aB:aq)(aV:aq)(k1:Option Bool):aq->Nat->Option Bool
 | [],i1=>(k1)
 |bA::bt,i1=>((nF aV (i1:Int)).bind fun x30=>((tJ bA x30).bind fun ya=>(bif !(ya)then(some false)else(nQ aB aV k1 bt (i1+1)))))
def uP(aB:aq)(aV:aq):Option Bool:=(bif (((aB.map aN.c).length:Int):Int) != ((aV.map aN.c).length:Int)then(some false)else(nQ aB aV (some true) aB 0))
def KY(aB:aq)(aV:aq)(cZ:Int):St:=⟨[(0,D.sl (aB.map aN.c)),(1,D.sl (aV.map aN.c)),(5,D.int .i64 cZ)],[]⟩
theorem Iv(hΓ:Γ.nt=27){aB:aq}{aV:aq}{r:Bool}{k1:Option Bool}(cq:k1=some r->Ax Γ N f37 (.q [[none]] (D.bool r)) [1,1,1] ⟨[],[]⟩)(hm1:aB.length<=maxLen):∀(rest:aq) (i1:Nat),aB.drop i1=rest->nQ aB aV k1 rest i1=some r->Ar Γ N f37 (.q [[none]] (D.bool r)) [1,1,0,1,0] (rest.length+1) (KY aB aV (i1:Int)):=by
 intro rest
 induction rest with
 |nil=>
  intro i1 au h;rw[nQ]at h;refine aP fun N1 cB bw=>?_
  exact((aT.ge aN.c au).a [.hl 0 [] []]).ex hΓ cB (cq h)
 |cons bA bt ih1=>
  intro i1 au h;rw[nQ]at h;refine aP fun N1 cB bw=>?_
  obtain⟨x30,h31,h⟩:=aD h;obtain⟨ya,h33,h⟩:=aD h;have dL:=(((((aT.lt aN.c au).a [.n 8]).l (b9 aN.c 4 (dc au) rfl)).l (dO aN.c 4 h31 rfl)).g (Iw h33))
  obtain⟨h34,h⟩|⟨h34,h⟩:=aO h
  ·have h:=aE h;subst h;exact(dL.b h34).ret hΓ
  ·exact((dL.b h34).a [.cn [0,1,5] []]).ct hΓ bw (iS au hm1) (ih1 (i1+1) (dn au) h)
theorem zJ{aB:aq}{aV:aq}{r:Bool}(h:uP aB aV=some r):Good prog 37 [D.sl (aB.map aN.c),D.sl (aV.map aN.c)] (D.bool r):=by
 refine gd func37 [[none]] 27 fun hr Γ hΓ=>?_
 rw[uP]at h;obtain⟨h1,h⟩|⟨h1,h⟩:=aO h
 ·have h:=aE h;subst h;exact(aT.b h1).ret hΓ
 ·refine((aT.b h1).a [.cn [0,1,5] []]).lp hΓ (Iv hΓ (fun h=>?_) (by have:=(e7.sl (hr _ (aC (i:=0) rfl))).1;simpa using this) aB 0 rfl h);have h:=aE h;subst h;exact aT.ret hΓ
def oX(aB:bP)(aV:bP)(k1:Option Bool):bP->Nat->Option Bool
 | [],i1=>(k1)
 |bA::bt,i1=>((nF aV (i1:Int)).bind fun x22=>(bif (bA:Int) != x22 then(some false)else(oX aB aV k1 bt (i1+1))))
def vO(aB:bP)(aV:bP):Option Bool:=(bif (((aB.map gQ).length:Int):Int) != ((aV.map gQ).length:Int)then(some false)else(oX aB aV (some true) aB 0))
def Lw(aB:bP)(aV:bP)(cZ:Int):St:=⟨[(0,D.sl (aB.map gQ)),(1,D.sl (aV.map gQ)),(5,D.int .i64 cZ)],[]⟩
theorem KV(hΓ:Γ.nt=26){aB:bP}{aV:bP}{r:Bool}{k1:Option Bool}(cq:k1=some r->Ax Γ N f54 (.q [[none]] (D.bool r)) [1,1,1] ⟨[],[]⟩)(hm1:aB.length<=maxLen):∀(rest:bP) (i1:Nat),aB.drop i1=rest->oX aB aV k1 rest i1=some r->Ar Γ N f54 (.q [[none]] (D.bool r)) [1,1,0,1,0] (rest.length+1) (Lw aB aV (i1:Int)):=by
 intro rest
 induction rest with
 |nil=>
  intro i1 au h;rw[oX]at h;refine aP fun N1 cB bw=>?_
  exact((aT.ge gQ au).a [.hl 0 [] []]).ex hΓ cB (cq h)
 |cons bA bt ih1=>
  intro i1 au h;rw[oX]at h;refine aP fun N1 cB bw=>?_
  obtain⟨x22,h23,h⟩:=aD h;have dL:=((((aT.lt gQ au).a [.n 8]).l (b9 gQ 1 (dc au) rfl)).l (dO gQ 1 h23 rfl))
  obtain⟨h24,h⟩|⟨h24,h⟩:=aO h
  ·have h:=aE h;subst h;exact(dL.b h24).ret hΓ
  ·exact((dL.b h24).a [.cn [0,1,5] []]).ct hΓ bw (iS au hm1) (ih1 (i1+1) (dn au) h)
theorem Ip{aB:bP}{aV:bP}{r:Bool}(h:vO aB aV=some r):Good prog 54 [D.sl (aB.map gQ),D.sl (aV.map gQ)] (D.bool r):=by
 refine gd func54 [[none]] 26 fun hr Γ hΓ=>?_
 rw[vO]at h;obtain⟨h1,h⟩|⟨h1,h⟩:=aO h
 ·have h:=aE h;subst h;exact(aT.b h1).ret hΓ
 ·refine((aT.b h1).a [.cn [0,1,5] []]).lp hΓ (KV hΓ (fun h=>?_) (by have:=(e7.sl (hr _ (aC (i:=0) rfl))).1;simpa using this) aB 0 rfl h);have h:=aE h;subst h;exact aT.ret hΓ
def tG(aB:aG)(aV:aG):Option Bool:=(bif !((aB.rel:Bytes)==aV.rel)then(some false)else((oY aB.args aV.args).bind fun y2=>(bif !(y2)then(some false)else(some true))))
theorem Io{aB:aG}{aV:aG}{r:Bool}(h:tG aB aV=some r):Good prog 27 [D.agg (aG.c aB),D.agg (aG.c aV)] (D.bool r):=by
 refine gd func27 [[none]] 16 fun hr Γ hΓ=>?_
 rw[tG]at h;obtain⟨h1,h⟩|⟨h1,h⟩:=aO h
 ·have h:=aE h;subst h;exact(aT.b h1).ret hΓ
 ·obtain⟨y2,h3,h⟩:=aD h;have kX:=((aT.b h1).g (xP h3))
  obtain⟨h4,h⟩|⟨h4,h⟩:=aO h
  ·have h:=aE h;subst h;exact(kX.b h4).ret hΓ
  ·have h:=aE h;subst h;exact(kX.b h4).ret hΓ
def nN(aB:aX)(aV:aX)(k1:Option Bool):aX->Nat->Option Bool
 | [],i1=>(k1)
 |bA::bt,i1=>((nF aV (i1:Int)).bind fun x30=>((tG bA x30).bind fun ya=>(bif !(ya)then(some false)else(nN aB aV k1 bt (i1+1)))))
def mw(aB:aX)(aV:aX):Option Bool:=(bif (((aB.map aG.c).length:Int):Int) != ((aV.map aG.c).length:Int)then(some false)else(nN aB aV (some true) aB 0))
def KU(aB:aX)(aV:aX)(cZ:Int):St:=⟨[(0,D.sl (aB.map aG.c)),(1,D.sl (aV.map aG.c)),(5,D.int .i64 cZ)],[]⟩
theorem Im(hΓ:Γ.nt=27){aB:aX}{aV:aX}{r:Bool}{k1:Option Bool}(cq:k1=some r->Ax Γ N f18 (.q [[none]] (D.bool r)) [1,1,1] ⟨[],[]⟩)(hm1:aB.length<=maxLen):∀(rest:aX) (i1:Nat),aB.drop i1=rest->nN aB aV k1 rest i1=some r->Ar Γ N f18 (.q [[none]] (D.bool r)) [1,1,0,1,0] (rest.length+1) (KU aB aV (i1:Int)):=by
 intro rest
 induction rest with
 |nil=>
  intro i1 au h;rw[nN]at h;refine aP fun N1 cB bw=>?_
  exact((aT.ge aG.c au).a [.hl 0 [] []]).ex hΓ cB (cq h)
 |cons bA bt ih1=>
  intro i1 au h;rw[nN]at h;refine aP fun N1 cB bw=>?_
  obtain⟨x30,h31,h⟩:=aD h;obtain⟨ya,h33,h⟩:=aD h;have dL:=(((((aT.lt aG.c au).a [.n 8]).l (b9 aG.c 2 (dc au) rfl)).l (dO aG.c 2 h31 rfl)).g (Io h33))
  obtain⟨h34,h⟩|⟨h34,h⟩:=aO h
  ·have h:=aE h;subst h;exact(dL.b h34).ret hΓ
  ·exact((dL.b h34).a [.cn [0,1,5] []]).ct hΓ bw (iS au hm1) (ih1 (i1+1) (dn au) h)
theorem o9{aB:aX}{aV:aX}{r:Bool}(h:mw aB aV=some r):Good prog 18 [D.sl (aB.map aG.c),D.sl (aV.map aG.c)] (D.bool r):=by
 refine gd func18 [[none]] 27 fun hr Γ hΓ=>?_
 rw[mw]at h;obtain⟨h1,h⟩|⟨h1,h⟩:=aO h
 ·have h:=aE h;subst h;exact(aT.b h1).ret hΓ
 ·refine((aT.b h1).a [.cn [0,1,5] []]).lp hΓ (Im hΓ (fun h=>?_) (by have:=(e7.sl (hr _ (aC (i:=0) rfl))).1;simpa using this) aB 0 rfl h);have h:=aE h;subst h;exact aT.ret hΓ
def rE(aB:aW)(aV:aW):Option Bool:=((mC aB.shape aV.shape).bind fun y1=>(bif !(y1)then(some false)else((mw aB.facts aV.facts).bind fun y4=>(bif !(y4)then(some false)else(some true)))))
theorem Gy{aB:aW}{aV:aW}{r:Bool}(h:rE aB aV=some r):Good prog 115 [D.agg (aW.c aB),D.agg (aW.c aV)] (D.bool r):=by
 refine gd func115 [[none]] 17 fun hr Γ hΓ=>?_
 rw[rE]at h;obtain⟨y1,h2,h⟩:=aD h;obtain⟨h3,h⟩|⟨h3,h⟩:=aO h
 ·have h:=aE h;subst h;exact((aT.g (pJ h2)).b h3).ret hΓ
 ·obtain⟨y4,h5,h⟩:=aD h;have kX:=(((aT.g (pJ h2)).b h3).g (o9 h5))
  obtain⟨h6,h⟩|⟨h6,h⟩:=aO h
  ·have h:=aE h;subst h;exact(kX.b h6).ret hΓ
  ·have h:=aE h;subst h;exact(kX.b h6).ret hΓ
def lz(aB:bK)(aV:bK)(k1:Option Bool):bK->Nat->Option Bool
 | [],i1=>(k1)
 |bA::bt,i1=>((nF aV (i1:Int)).bind fun x30=>((rE bA x30).bind fun ya=>(bif !(ya)then(some false)else(lz aB aV k1 bt (i1+1)))))
def sV(aB:bK)(aV:bK):Option Bool:=(bif (((aB.map aW.c).length:Int):Int) != ((aV.map aW.c).length:Int)then(some false)else(lz aB aV (some true) aB 0))
def Ik(aB:bK)(aV:bK)(cZ:Int):St:=⟨[(0,D.sl (aB.map aW.c)),(1,D.sl (aV.map aW.c)),(5,D.int .i64 cZ)],[]⟩
theorem Gx(hΓ:Γ.nt=27){aB:bK}{aV:bK}{r:Bool}{k1:Option Bool}(cq:k1=some r->Ax Γ N f55 (.q [[none]] (D.bool r)) [1,1,1] ⟨[],[]⟩)(hm1:aB.length<=maxLen):∀(rest:bK) (i1:Nat),aB.drop i1=rest->lz aB aV k1 rest i1=some r->Ar Γ N f55 (.q [[none]] (D.bool r)) [1,1,0,1,0] (rest.length+1) (Ik aB aV (i1:Int)):=by
 intro rest
 induction rest with
 |nil=>
  intro i1 au h;rw[lz]at h;refine aP fun N1 cB bw=>?_
  exact((aT.ge aW.c au).a [.hl 0 [] []]).ex hΓ cB (cq h)
 |cons bA bt ih1=>
  intro i1 au h;rw[lz]at h;refine aP fun N1 cB bw=>?_
  obtain⟨x30,h31,h⟩:=aD h;obtain⟨ya,h33,h⟩:=aD h;have dL:=(((((aT.lt aW.c au).a [.n 8]).l (b9 aW.c 3 (dc au) rfl)).l (dO aW.c 3 h31 rfl)).g (Gy h33))
  obtain⟨h34,h⟩|⟨h34,h⟩:=aO h
  ·have h:=aE h;subst h;exact(dL.b h34).ret hΓ
  ·exact((dL.b h34).a [.cn [0,1,5] []]).ct hΓ bw (iS au hm1) (ih1 (i1+1) (dn au) h)
theorem F8{aB:bK}{aV:bK}{r:Bool}(h:sV aB aV=some r):Good prog 55 [D.sl (aB.map aW.c),D.sl (aV.map aW.c)] (D.bool r):=by
 refine gd func55 [[none]] 27 fun hr Γ hΓ=>?_
 rw[sV]at h;obtain⟨h1,h⟩|⟨h1,h⟩:=aO h
 ·have h:=aE h;subst h;exact(aT.b h1).ret hΓ
 ·refine((aT.b h1).a [.cn [0,1,5] []]).lp hΓ (Gx hΓ (fun h=>?_) (by have:=(e7.sl (hr _ (aC (i:=0) rfl))).1;simpa using this) aB 0 rfl h);have h:=aE h;subst h;exact aT.ret hΓ
def tI(aB:aK)(aV:aK):Option Bool:=(bif !((aB.var:Bytes)==aV.var)then(some false)else(bif !((aB.value:Bytes)==aV.value)then(some false)else(some true)))
theorem Iu{aB:aK}{aV:aK}{r:Bool}(h:tI aB aV=some r):Good prog 195 [D.agg (aK.c aB),D.agg (aK.c aV)] (D.bool r):=by
 refine gd func195 [[none]] 15 fun hr Γ hΓ=>?_
 rw[tI]at h;obtain⟨h1,h⟩|⟨h1,h⟩:=aO h
 ·have h:=aE h;subst h;exact(aT.b h1).ret hΓ
 ·obtain⟨h2,h⟩|⟨h2,h⟩:=aO h
  ·have h:=aE h;subst h;exact((aT.b h1).b h2).ret hΓ
  ·have h:=aE h;subst h;exact((aT.b h1).b h2).ret hΓ
def nP(aB:aI)(aV:aI)(k1:Option Bool):aI->Nat->Option Bool
 | [],i1=>(k1)
 |bA::bt,i1=>((nF aV (i1:Int)).bind fun x30=>((tI bA x30).bind fun ya=>(bif !(ya)then(some false)else(nP aB aV k1 bt (i1+1)))))
def rH(aB:aI)(aV:aI):Option Bool:=(bif (((aB.map aK.c).length:Int):Int) != ((aV.map aK.c).length:Int)then(some false)else(nP aB aV (some true) aB 0))
def KX(aB:aI)(aV:aI)(cZ:Int):St:=⟨[(0,D.sl (aB.map aK.c)),(1,D.sl (aV.map aK.c)),(5,D.int .i64 cZ)],[]⟩
theorem It(hΓ:Γ.nt=27){aB:aI}{aV:aI}{r:Bool}{k1:Option Bool}(cq:k1=some r->Ax Γ N f130 (.q [[none]] (D.bool r)) [1,1,1] ⟨[],[]⟩)(hm1:aB.length<=maxLen):∀(rest:aI) (i1:Nat),aB.drop i1=rest->nP aB aV k1 rest i1=some r->Ar Γ N f130 (.q [[none]] (D.bool r)) [1,1,0,1,0] (rest.length+1) (KX aB aV (i1:Int)):=by
 intro rest
 induction rest with
 |nil=>
  intro i1 au h;rw[nP]at h;refine aP fun N1 cB bw=>?_
  exact((aT.ge aK.c au).a [.hl 0 [] []]).ex hΓ cB (cq h)
 |cons bA bt ih1=>
  intro i1 au h;rw[nP]at h;refine aP fun N1 cB bw=>?_
  obtain⟨x30,h31,h⟩:=aD h;obtain⟨ya,h33,h⟩:=aD h;have dL:=(((((aT.lt aK.c au).a [.n 8]).l (b9 aK.c 2 (dc au) rfl)).l (dO aK.c 2 h31 rfl)).g (Iu h33))
  obtain⟨h34,h⟩|⟨h34,h⟩:=aO h
  ·have h:=aE h;subst h;exact(dL.b h34).ret hΓ
  ·exact((dL.b h34).a [.cn [0,1,5] []]).ct hΓ bw (iS au hm1) (ih1 (i1+1) (dn au) h)
theorem zI{aB:aI}{aV:aI}{r:Bool}(h:rH aB aV=some r):Good prog 130 [D.sl (aB.map aK.c),D.sl (aV.map aK.c)] (D.bool r):=by
 refine gd func130 [[none]] 27 fun hr Γ hΓ=>?_
 rw[rH]at h;obtain⟨h1,h⟩|⟨h1,h⟩:=aO h
 ·have h:=aE h;subst h;exact(aT.b h1).ret hΓ
 ·refine((aT.b h1).a [.cn [0,1,5] []]).lp hΓ (It hΓ (fun h=>?_) (by have:=(e7.sl (hr _ (aC (i:=0) rfl))).1;simpa using this) aB 0 rfl h);have h:=aE h;subst h;exact aT.ret hΓ
def rI(aB:aR)(aV:aR):Option Bool:=((mw aB.facts aV.facts).bind fun y1=>(bif !(y1)then(some false)else((rH aB.bind aV.bind).bind fun y4=>(bif !(y4)then(some false)else(some true)))))
theorem HB{aB:aR}{aV:aR}{r:Bool}(h:rI aB aV=some r):Good prog 245 [D.agg (aR.c aB),D.agg (aR.c aV)] (D.bool r):=by
 refine gd func245 [[none]] 17 fun hr Γ hΓ=>?_
 rw[rI]at h;obtain⟨y1,h2,h⟩:=aD h;obtain⟨h3,h⟩|⟨h3,h⟩:=aO h
 ·have h:=aE h;subst h;exact((aT.g (o9 h2)).b h3).ret hΓ
 ·obtain⟨y4,h5,h⟩:=aD h;have kX:=(((aT.g (o9 h2)).b h3).g (zI h5))
  obtain⟨h6,h⟩|⟨h6,h⟩:=aO h
  ·have h:=aE h;subst h;exact(kX.b h6).ret hΓ
  ·have h:=aE h;subst h;exact(kX.b h6).ret hΓ
def mD(aB:av)(aV:av)(k1:Option Bool):av->Nat->Option Bool
 | [],i1=>(k1)
 |bA::bt,i1=>((nF aV (i1:Int)).bind fun x30=>((rI bA x30).bind fun ya=>(bif !(ya)then(some false)else(mD aB aV k1 bt (i1+1)))))
def sW(aB:av)(aV:av):Option Bool:=(bif (((aB.map aR.c).length:Int):Int) != ((aV.map aR.c).length:Int)then(some false)else(mD aB aV (some true) aB 0))
def Ix(aB:av)(aV:av)(cZ:Int):St:=⟨[(0,D.sl (aB.map aR.c)),(1,D.sl (aV.map aR.c)),(5,D.int .i64 cZ)],[]⟩
theorem HA(hΓ:Γ.nt=27){aB:av}{aV:av}{r:Bool}{k1:Option Bool}(cq:k1=some r->Ax Γ N f188 (.q [[none]] (D.bool r)) [1,1,1] ⟨[],[]⟩)(hm1:aB.length<=maxLen):∀(rest:av) (i1:Nat),aB.drop i1=rest->mD aB aV k1 rest i1=some r->Ar Γ N f188 (.q [[none]] (D.bool r)) [1,1,0,1,0] (rest.length+1) (Ix aB aV (i1:Int)):=by
 intro rest
 induction rest with
 |nil=>
  intro i1 au h;rw[mD]at h;refine aP fun N1 cB bw=>?_
  exact((aT.ge aR.c au).a [.hl 0 [] []]).ex hΓ cB (cq h)
 |cons bA bt ih1=>
  intro i1 au h;rw[mD]at h;refine aP fun N1 cB bw=>?_
  obtain⟨x30,h31,h⟩:=aD h;obtain⟨ya,h33,h⟩:=aD h;have dL:=(((((aT.lt aR.c au).a [.n 8]).l (b9 aR.c 2 (dc au) rfl)).l (dO aR.c 2 h31 rfl)).g (HB h33))
  obtain⟨h34,h⟩|⟨h34,h⟩:=aO h
  ·have h:=aE h;subst h;exact(dL.b h34).ret hΓ
  ·exact((dL.b h34).a [.cn [0,1,5] []]).ct hΓ bw (iS au hm1) (ih1 (i1+1) (dn au) h)
theorem FA{aB:av}{aV:av}{r:Bool}(h:sW aB aV=some r):Good prog 188 [D.sl (aB.map aR.c),D.sl (aV.map aR.c)] (D.bool r):=by
 refine gd func188 [[none]] 27 fun hr Γ hΓ=>?_
 rw[sW]at h;obtain⟨h1,h⟩|⟨h1,h⟩:=aO h
 ·have h:=aE h;subst h;exact(aT.b h1).ret hΓ
 ·refine((aT.b h1).a [.cn [0,1,5] []]).lp hΓ (HA hΓ (fun h=>?_) (by have:=(e7.sl (hr _ (aC (i:=0) rfl))).1;simpa using this) aB 0 rfl h);have h:=aE h;subst h;exact aT.ret hΓ
def tH(aB:Node)(aV:Node):Option Bool:=(bif (aB.parent:Int) != aV.parent then(some false)else((qR aB.cond aV.cond).bind fun y2=>(bif !(y2)then(some false)else(bif (aB.gK:Int) != aV.gK then(some false)else((sW aB.tokens aV.tokens).bind fun y6=>(bif !(y6)then(some false)else(some true)))))))
theorem Is{aB:Node}{aV:Node}{r:Bool}(h:tH aB aV=some r):Good prog 116 [D.agg (Node.c aB),D.agg (Node.c aV)] (D.bool r):=by
 refine gd func116 [[none]] 27 fun hr Γ hΓ=>?_
 rw[tH]at h;obtain⟨h1,h⟩|⟨h1,h⟩:=aO h
 ·have h:=aE h;subst h;exact(aT.b h1).ret hΓ
 ·obtain⟨y2,h3,h⟩:=aD h;have kX:=((aT.b h1).g (AN h3))
  obtain⟨h4,h⟩|⟨h4,h⟩:=aO h
  ·have h:=aE h;subst h;exact(kX.b h4).ret hΓ
  ·obtain⟨h5,h⟩|⟨h5,h⟩:=aO h
   ·have h:=aE h;subst h;exact((kX.b h4).b h5).ret hΓ
   ·obtain⟨y6,h7,h⟩:=aD h;have dL:=(((kX.b h4).b h5).g (FA h7))
    obtain⟨h8,h⟩|⟨h8,h⟩:=aO h
    ·have h:=aE h;subst h;exact(dL.b h8).ret hΓ
    ·have h:=aE h;subst h;exact(dL.b h8).ret hΓ
def nO(aB:bE)(aV:bE)(k1:Option Bool):bE->Nat->Option Bool
 | [],i1=>(k1)
 |bA::bt,i1=>((nF aV (i1:Int)).bind fun x30=>((tH bA x30).bind fun ya=>(bif !(ya)then(some false)else(nO aB aV k1 bt (i1+1)))))
def uO(aB:bE)(aV:bE):Option Bool:=(bif (((aB.map Node.c).length:Int):Int) != ((aV.map Node.c).length:Int)then(some false)else(nO aB aV (some true) aB 0))
def KW(aB:bE)(aV:bE)(cZ:Int):St:=⟨[(0,D.sl (aB.map Node.c)),(1,D.sl (aV.map Node.c)),(5,D.int .i64 cZ)],[]⟩
theorem Ir(hΓ:Γ.nt=27){aB:bE}{aV:bE}{r:Bool}{k1:Option Bool}(cq:k1=some r->Ax Γ N f56 (.q [[none]] (D.bool r)) [1,1,1] ⟨[],[]⟩)(hm1:aB.length<=maxLen):∀(rest:bE) (i1:Nat),aB.drop i1=rest->nO aB aV k1 rest i1=some r->Ar Γ N f56 (.q [[none]] (D.bool r)) [1,1,0,1,0] (rest.length+1) (KW aB aV (i1:Int)):=by
 intro rest
 induction rest with
 |nil=>
  intro i1 au h;rw[nO]at h;refine aP fun N1 cB bw=>?_
  exact((aT.ge Node.c au).a [.hl 0 [] []]).ex hΓ cB (cq h)
 |cons bA bt ih1=>
  intro i1 au h;rw[nO]at h;refine aP fun N1 cB bw=>?_
  obtain⟨x30,h31,h⟩:=aD h;obtain⟨ya,h33,h⟩:=aD h;have dL:=(((((aT.lt Node.c au).a [.n 8]).l (b9 Node.c 8 (dc au) rfl)).l (dO Node.c 8 h31 rfl)).g (Is h33))
  obtain⟨h34,h⟩|⟨h34,h⟩:=aO h
  ·have h:=aE h;subst h;exact(dL.b h34).ret hΓ
  ·exact((dL.b h34).a [.cn [0,1,5] []]).ct hΓ bw (iS au hm1) (ih1 (i1+1) (dn au) h)
theorem H8{aB:bE}{aV:bE}{r:Bool}(h:uO aB aV=some r):Good prog 56 [D.sl (aB.map Node.c),D.sl (aV.map Node.c)] (D.bool r):=by
 refine gd func56 [[none]] 27 fun hr Γ hΓ=>?_
 rw[uO]at h;obtain⟨h1,h⟩|⟨h1,h⟩:=aO h
 ·have h:=aE h;subst h;exact(aT.b h1).ret hΓ
 ·refine((aT.b h1).a [.cn [0,1,5] []]).lp hΓ (Ir hΓ (fun h=>?_) (by have:=(e7.sl (hr _ (aC (i:=0) rfl))).1;simpa using this) aB 0 rfl h);have h:=aE h;subst h;exact aT.ret hΓ
def rG(aB:aJ)(aV:aJ):Option Bool:=((uP aB.rules aV.rules).bind fun y1=>(bif !(y1)then(some false)else((vO aB.ends aV.ends).bind fun y4=>(bif !(y4)then(some false)else((sV aB.bJ aV.bJ).bind fun y7=>(bif !(y7)then(some false)else((uO aB.nodes aV.nodes).bind fun IN=>(bif !(IN)then(some false)else((mw aB.facts aV.facts).bind fun u7=>(bif !(u7)then(some false)else(bif (aB.dB:Int) != aV.dB then(some false)else(some true))))))))))))
theorem Dx{aB:aJ}{aV:aJ}{r:Bool}(h:rG aB aV=some r):Good prog 17 [D.agg (aJ.c aB),D.agg (aJ.c aV)] (D.bool r):=by
 refine gd func17 [[none]] 40 fun hr Γ hΓ=>?_
 rw[rG]at h;obtain⟨y1,h2,h⟩:=aD h;obtain⟨h3,h⟩|⟨h3,h⟩:=aO h
 ·have h:=aE h;subst h;exact((aT.g (zJ h2)).b h3).ret hΓ
 ·obtain⟨y4,h5,h⟩:=aD h;have kX:=(((aT.g (zJ h2)).b h3).g (Ip h5))
  obtain⟨h6,h⟩|⟨h6,h⟩:=aO h
  ·have h:=aE h;subst h;exact(kX.b h6).ret hΓ
  ·obtain⟨y7,h8,h⟩:=aD h;have dL:=((kX.b h6).g (F8 h8))
   obtain⟨h9,h⟩|⟨h9,h⟩:=aO h
   ·have h:=aE h;subst h;exact(dL.b h9).ret hΓ
   ·obtain⟨IN,h11,h⟩:=aD h;have lV:=((dL.b h9).g (H8 h11))
    obtain⟨h12,h⟩|⟨h12,h⟩:=aO h
    ·have h:=aE h;subst h;exact(lV.b h12).ret hΓ
    ·obtain⟨u7,h14,h⟩:=aD h;have kH:=((lV.b h12).g (o9 h14))
     obtain⟨h15,h⟩|⟨h15,h⟩:=aO h
     ·have h:=aE h;subst h;exact(kH.b h15).ret hΓ
     ·obtain⟨h16,h⟩|⟨h16,h⟩:=aO h
      ·have h:=aE h;subst h;exact((kH.b h15).b h16).ret hΓ
      ·have h:=aE h;subst h;exact((kH.b h15).b h16).ret hΓ
def rF(aB:az)(aV:az):Option Bool:=(bif !((aB.rule:Bytes)==aV.rule)then(some false)else((mw aB.facts aV.facts).bind fun y2=>(bif !(y2)then(some false)else((rH aB.bind aV.bind).bind fun y5=>(bif !(y5)then(some false)else(some true))))))
theorem H7{aB:az}{aV:az}{r:Bool}(h:rF aB aV=some r):Good prog 73 [D.agg (az.c aB),D.agg (az.c aV)] (D.bool r):=by
 refine gd func73 [[none]] 22 fun hr Γ hΓ=>?_
 rw[rF]at h;obtain⟨h1,h⟩|⟨h1,h⟩:=aO h
 ·have h:=aE h;subst h;exact(aT.b h1).ret hΓ
 ·obtain⟨y2,h3,h⟩:=aD h;have kX:=((aT.b h1).g (o9 h3))
  obtain⟨h4,h⟩|⟨h4,h⟩:=aO h
  ·have h:=aE h;subst h;exact(kX.b h4).ret hΓ
  ·obtain⟨y5,h6,h⟩:=aD h;have dL:=((kX.b h4).g (zI h6))
   obtain⟨h7,h⟩|⟨h7,h⟩:=aO h
   ·have h:=aE h;subst h;exact(dL.b h7).ret hΓ
   ·have h:=aE h;subst h;exact(dL.b h7).ret hΓ
def mB(aB:bq)(aV:bq)(k1:Option Bool):bq->Nat->Option Bool
 | [],i1=>(k1)
 |bA::bt,i1=>((nF aV (i1:Int)).bind fun x30=>((rF bA x30).bind fun ya=>(bif !(ya)then(some false)else(mB aB aV k1 bt (i1+1)))))
def nv(aB:bq)(aV:bq):Option Bool:=(bif (((aB.map az.c).length:Int):Int) != ((aV.map az.c).length:Int)then(some false)else(mB aB aV (some true) aB 0))
def Iq(aB:bq)(aV:bq)(cZ:Int):St:=⟨[(0,D.sl (aB.map az.c)),(1,D.sl (aV.map az.c)),(5,D.int .i64 cZ)],[]⟩
theorem H6(hΓ:Γ.nt=27){aB:bq}{aV:bq}{r:Bool}{k1:Option Bool}(cq:k1=some r->Ax Γ N f26 (.q [[none]] (D.bool r)) [1,1,1] ⟨[],[]⟩)(hm1:aB.length<=maxLen):∀(rest:bq) (i1:Nat),aB.drop i1=rest->mB aB aV k1 rest i1=some r->Ar Γ N f26 (.q [[none]] (D.bool r)) [1,1,0,1,0] (rest.length+1) (Iq aB aV (i1:Int)):=by
 intro rest
 induction rest with
 |nil=>
  intro i1 au h;rw[mB]at h;refine aP fun N1 cB bw=>?_
  exact((aT.ge az.c au).a [.hl 0 [] []]).ex hΓ cB (cq h)
 |cons bA bt ih1=>
  intro i1 au h;rw[mB]at h;refine aP fun N1 cB bw=>?_
  obtain⟨x30,h31,h⟩:=aD h;obtain⟨ya,h33,h⟩:=aD h;have dL:=(((((aT.lt az.c au).a [.n 8]).l (b9 az.c 3 (dc au) rfl)).l (dO az.c 3 h31 rfl)).g (H7 h33))
  obtain⟨h34,h⟩|⟨h34,h⟩:=aO h
  ·have h:=aE h;subst h;exact(dL.b h34).ret hΓ
  ·exact((dL.b h34).a [.cn [0,1,5] []]).ct hΓ bw (iS au hm1) (ih1 (i1+1) (dn au) h)
theorem uN{aB:bq}{aV:bq}{r:Bool}(h:nv aB aV=some r):Good prog 26 [D.sl (aB.map az.c),D.sl (aV.map az.c)] (D.bool r):=by
 refine gd func26 [[none]] 27 fun hr Γ hΓ=>?_
 rw[nv]at h;obtain⟨h1,h⟩|⟨h1,h⟩:=aO h
 ·have h:=aE h;subst h;exact(aT.b h1).ret hΓ
 ·refine((aT.b h1).a [.cn [0,1,5] []]).lp hΓ (H6 hΓ (fun h=>?_) (by have:=(e7.sl (hr _ (aC (i:=0) rfl))).1;simpa using this) aB 0 rfl h);have h:=aE h;subst h;exact aT.ret hΓ
end Go.Cx

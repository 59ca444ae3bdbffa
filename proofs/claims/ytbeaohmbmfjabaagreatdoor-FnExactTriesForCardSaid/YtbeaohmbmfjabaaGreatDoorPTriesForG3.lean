/- Regions whose order is drawn, where operations that only compute float beside a chain that makes objects of objects: every order gives the state of the text's order. No condition; plain lemmas. -/
import Derived.Test.YtbeaohmbmfjabaaGreatDoorPTriesForG2
import Derived.LoopN
import Derived.Test.YtbeaohmbmfjabaaGreatDoorProg
import Derived.KernelRfl
import Derived.Shelf.Strings.OnBuilder
import Derived.Shelf.Sort.Plain
import Derived.Shelf.Slices.In.SortNone2
import Derived.Shelf.Strconv.Itoa3
import Derived.WalkSmall
import Derived.Shelf.Strconv.Atoi
import Derived.Shelf.Strconv.ErrVar
import Derived.Shelf.Small.Strs
import Derived.Lib.AtoiBound
set_option linter.unusedVariables false
set_option linter.unusedSimpArgs false
namespace Go.Cx
open Go.RowKit
abbrev eO:=List An
section
variable{P:Program}{Γ:vJ}{Q:Exit->St->Prop}{st:St}{κ:Nat->Option Value}{Θ:Nat->Nat}{a:Act}{w:World}{all:Array Oper}{X:aX}
def yb(X:aX)(H H':bO):Prop:=∀(i:Nat) o,i∉X->H[i]?=some o->H'[i]?=some o
theorem yb.refl{X:aX}(H:bO):yb X H H:=fun _ _ _ h=>h
theorem yb.trans{X:aX}{A B C:bO}(h:yb X A B)(k:yb X B C):yb X A C:=fun i o n e=>k i o n (h i o n e)
theorem yb.app{X:aX}{H H':bO}(h:yb X H H')(n:bO):yb X H (H'++n):=by
 intro i o hni hi;have:=h i o hni hi;rw[au (aF.1 this).1,this]
theorem yb.cs{X:aX}{H H':bO}(h:yb X H H'){i:Nat}{cs:aQ}(hi:i∉X)(hc:(H[i]?).bind Ob.Tk=some cs):(H'[i]?).bind Ob.Tk=some cs:=by
 obtain⟨ob,hb,Sl⟩:=mU.1 hc;rw[h i ob hi hb];exact Sl
def Bv(X:aX)(st:St):Op->Bool
 | .fieldAddr _ _ _=>true
 | .field _ _ _=>true
 | .extract _ _=>true
 | .move _=>true
 | .binOp _ _ _ _ _=>true
 | .unOp _ _ _=>true
 | .nilCheck _=>true
 | .convert _ _ _=>true
 | .index _ _ _=>true
 | .build _ _=>true
 | .indexAddr _ x _=>(match st.ev x with| .sl _=>true| .acc id=> !X.contains id|_=>false)
 | .load _ x=>(match st.ev x with| .ep _ _=>true| .ptr id _=> !X.contains id| .op id _ _ _=> !X.contains id|_=>false)
 |_=>false
theorem Xc{X:aX}{σ σ':List (Nat×D)}{H H':bO}{op:Op}{d:D}(hx:yb X H H')(hs:Bv X ⟨σ,H⟩ op=true)(he:∀x∈op.operands.toList,St.ev ⟨σ,H⟩ x=St.ev ⟨σ',H'⟩ x)(h:pv P ⟨σ,H⟩ op=some d):pv P ⟨σ',H'⟩ op=some d:=by
 cases op<;>simp only[Bv,yZ]at hs<;>simp only[pv]at h⊢
 case move x=>rw[he x (by simp[Op.operands])]at*;exact h
 case nilCheck x=>rw[he x (by simp[Op.operands])]at h;exact h
 case binOp op t x y t'=>rw[he x (by simp[Op.operands]),he y (by simp[Op.operands])]at h;exact h
 case unOp op t x=>cases op<;>simp only[pv]at h⊢ <;>(try cases h)<;>(rw[he x (by simp[Op.operands])]at h;exact h)
 case convert s d x=>rw[he x (by simp[Op.operands])]at h;exact h
 case field t x f=>rw[he x (by simp[Op.operands])]at h;exact h
 case fieldAddr t x f=>rw[he x (by simp[Op.operands])]at h;exact h
 case indexAddr t x i=>
  rw[he x (by simp[Op.operands])]at hs;rw[he x (by simp[Op.operands]),he i (by simp[Op.operands])]at h;split at hs
  ·rename_i rows h0;rw[h0]at h⊢;generalize Ec P t=a at h⊢;generalize St.ev ⟨σ',H'⟩ i=b at h⊢;cases a<;>cases b<;>exact h
  ·rename_i id h0;rw[h0]at h⊢;generalize Ec P t=a at h⊢;generalize St.ev ⟨σ',H'⟩ i=b at h⊢;cases a<;>cases b<;>first|exact h|skip
   dsimp only at h⊢;cases hH:H[id]? with
   |none=>rw[hH]at h;cases h
   |some o=>rw[hx id o (by simpa using hs) hH];rw[hH]at h;exact h
  ·cases hs
 case load t x=>
  rw[he x (by simp[Op.operands])]at hs h;split at hs
  ·rename_i row off h0;rw[h0]at h⊢;generalize zL P t=a at h⊢;cases a<;>exact h
  ·rename_i id off h0;rw[h0]at h⊢;generalize zL P t=a at h⊢;cases a
   ·exact h
   ·dsimp only at h⊢;split at h
    ·rename_i cells hH;simp only[hx.cs (by simpa using hs) hH];exact h
    ·cases h
  ·rename_i id i sz off h0;rw[h0]at h⊢;generalize zL P t=a at h⊢;cases a
   ·exact h
   ·dsimp only at h⊢;cases hH:H[id]? with
    |none=>rw[hH]at h;cases h
    |some o=>rw[hx id o (by simpa using hs) hH];rw[hH]at h;exact h
  ·cases hs
 case extract x i=>rw[he x (by simp[Op.operands])]at h;exact h
 case index t x i=>rw[he x (by simp[Op.operands]),he i (by simp[Op.operands])]at h;exact h
 case build t parts=>
  have:(parts.toList.map fun p=>(p.1,St.ev ⟨σ,H⟩ p.2))=parts.toList.map fun p=>(p.1,St.ev ⟨σ',H'⟩ p.2):=by
   apply kT;intro p hp;rw[he p.2 (by simp only[Op.operands];simp;exact⟨p.1,by simpa using hp⟩)]
  rw[this]at h;exact h
def Qp(xs acc:aX):aX:=xs.foldl (fun acc x=>bif acc.contains x then acc else x::acc) acc
theorem RX:∀ {xs acc:aX} {x:Nat},x∈Qp xs acc->x∈xs\/x∈acc:=by
 intro xs
 induction xs with
 |nil=>intro acc x h;exact .inr h
 |cons y ys ih=>
  intro acc x h;rcases ih (acc:=bif acc.contains y then acc else y::acc) h with h|h
  ·exact .inl (by simp[h])
  ·cases hc:acc.contains y with
   |true=>rw[hc]at h;exact .inr h
   |false=>
    rw[hc]at h;rcases bI.1 h with rfl|h
    ·exact .inl (by simp)
    ·exact .inr h
def Zx(acc:List aX)(es:List Edge):aX:=es.foldl (fun d e=>bif Region.binds .any e then Qp (e.on::acc.getD e.on []) d else d) []
theorem U7{acc:List aX}{es:List Edge}{i:Nat}(h:i∈Zx acc es):∃e∈es,Region.binds .any e=true/\(i=e.on\/i∈acc.getD e.on []):=by
 have key:∀(es:List Edge) (d:aX),i∈es.foldl (fun d e=>bif Region.binds .any e then Qp (e.on::acc.getD e.on []) d else d) d->i∈d\/∃e∈es,Region.binds .any e=true/\(i=e.on\/i∈acc.getD e.on []):=by
  intro es
  induction es with
  |nil=>intro d h;exact .inl h
  |cons e es ih=>
   intro d h;rcases ih _ h with h|⟨e',h1,h2⟩
   ·cases hb:Region.binds .any e with
    |false=>simp only[hb,aZ]at h;exact .inl h
    |true=>
     simp only[hb,aO]at h;rcases RX h with h|h
     ·exact .inr ⟨e,by simp,hb,by simpa using h⟩
     ·exact .inl h
   ·exact .inr ⟨e',by simp[h1],h2⟩
 rcases key es [] h with h|h
 ·cases h
 ·exact h
def IV(acc:List aX)(o:Oper):List aX:=acc++[Zx acc o.after.toList]
def Qx(ops:List Oper):List aX:=ops.foldl IV []
theorem Yc{ops:Array Oper}{listed:Array Bool}(closed:∀(j:Nat) oj,ops[j]?=some oj->listed.getD j false=true->∀e∈oj.after,Region.binds .any e=true->listed.getD e.on false=true):
 ∀(l pre:List Oper) (acc:List aX),ops.toList=pre++l->acc.length=pre.length->
  (∀(j:Nat) o,ops[j]?=some o->(∀e∈o.after,Region.binds .any e=true->listed.getD e.on false=true)->∀i∈acc.getD j [],listed.getD i false=true)->
  ∀(j:Nat) o,ops[j]?=some o->(∀e∈o.after,Region.binds .any e=true->listed.getD e.on false=true)->∀i∈(l.foldl IV acc).getD j [],listed.getD i false=true:=by
 intro l
 induction l with
 |nil=>intro pre acc _ _ h;exact h
 |cons o l ih=>
  intro pre acc hl ha h;refine ih (pre++[o]) (IV acc o) (by simp[hl]) (by simp[IV,ha]) ?_;intro j oj hj hall i hi;unfold IV at hi;rw[k9]at hi;rcases vX j acc.length with hlt|heq|hgt
  ·rw[au hlt,<-k9]at hi;exact h j oj hj hall i hi
  ·subst heq;rw[b7 (bN _),nT]at hi;simp only[AI,wS]at hi;have ho:oj=o:=by
    rw[<-sV,hl,b7 (by omega),ha,nT]at hj;simpa using hj.symm
   subst ho;obtain⟨e,he,hb,hi⟩:=U7 hi;have he':e∈oj.after:=by simpa using he
   have hel:=hall e he' hb;rcases hi with rfl|hi
   ·exact hel
   ·cases hoe:ops[e.on]? with
    |none=>
     have h1:e.on<acc.length:=by
      rcases dY e.on acc.length with h|h
      ·exact h
      ·rw[k9,cP h]at hi;cases hi
     have h2:ops.size<=e.on:=by simpa using hoe
     have h3:ops.size=pre.length+(l.length+1):=by rw[<-uL,hl];simp
     omega
    |some oe=>exact h e.on oe hoe (closed e.on oe hoe hel) i hi
  ·rw[cP (by simp;omega)]at hi;cases hi
theorem xG{ops:Array Oper}{listed:Array Bool}(closed:∀(j:Nat) oj,ops[j]?=some oj->listed.getD j false=true->∀e∈oj.after,Region.binds .any e=true->listed.getD e.on false=true){j:Nat}(hj:j∈Region.ready .any ops listed){i:Nat}(hi:((Qx ops.toList).getD j []).contains i=true):listed.getD i false=true:=by
 obtain⟨_,o,ho,hall⟩:=mem_ready.1 hj;exact Yc closed ops.toList [] [] (by simp) rfl (by simp) j o ho hall i (List.contains_iff_mem.1 hi)
def VR(dp:List aX)(ops:Array Oper)(n m:Nat)(L:aX):Bool:=
 (decide (n<=m)&&decide (m<ops.size))&&
 (Region.seqB .any ops (ops.size-m) m (Array.replicate m true++Array.replicate (ops.size-m) false)&&
 (((List.range (ops.size-m)).all fun j=>(List.range m).all fun i=>(dp.getD (m+j) []).contains i)&&
 (((List.range (m-n)).all fun j=>(List.range (n+j)).all fun i=>(dp.getD (n+j) []).contains i||L.contains i)&&
 (((List.range m).all fun i=>match ops[i]? with|none=>false|some o=>o.after.all fun e=> !Region.binds .any e||decide (e.on<i))&&
 ((
  (List.range n).all fun i=>match ops[i]? with
  |none=>false
  |some o=>((o.looksAt ops).all fun t=>(List.range n).all fun j=>match ops[j]? with|some oj=> !(oj.dst==some t)||(decide (j<i)&&Region.waitsFor .any ops i j)|none=>true)&&
   (List.range n).all fun j=>j==i||(match ops[j]? with|some oj=> !(oj.dst==o.dst)||o.dst.isNone|none=>true))&&
 ((
  (List.range (m-n)).all fun j=>match ops[n+j]? with
  |none=>false
  |some o=>L.all fun i=>match ops[i]? with
   |none=>false
   |some oi=>(!(oi.dst==o.dst)&& !((oi.looksAt ops).any fun t=>o.dst==some t))&&((dp.getD (n+j) []).contains i|| !((o.looksAt ops).any fun t=>oi.dst==some t)))&&
 L.all fun i=>decide (i<n)&&(match ops[i]? with|some oi=>oi.guard.isNone&&oi.dst.isSome|none=>false)))))))
def LK(ops:Array Oper)(n m:Nat)(L:aX):Bool:=VR (Qx ops.toList) ops n m L
def Step(P:Program)(Γ:vJ)(o:Oper)(st xO:St):Prop:=
 ∀κ Θ a w,dX Γ st κ Θ a w->o.wp P a w (fun a' w'=>∃κ' Θ',dX Γ xO κ' Θ' a' w') (fun e _ _=>e=.normal)
def Ut(P:Program)(Γ:vJ)(X:aX)(K:St->Prop):List Oper->St->Prop
 | [],st=>K st
 |o::os,st=>∃xO,((∃t d,o.dst=some t/\t<Γ.nt/\xO.σ=(t,d)::st.σ)\/(o.dst=none/\xO.σ=st.σ))/\yb X st.H xO.H/\o.guard=none/\(∀cs b,o.op≠ .select cs b)/\Step P Γ o st xO/\Ut P Γ X K os xO
theorem Qa{o:Oper}{a b:Act}{w:World}{K K2:Act->World->Prop}{Q1 Q2:Exit->Act->World->Prop}(hsel:∀cs b,o.op≠ .select cs b)(he:∀x∈o.op.operands,a.eval x=b.eval x)
 (hK:∀v w',K (b.put o.dst v) w'->K2 (a.put o.dst v) w') (hdf:∀d w',¬K ({b with defers:=d::b.defers}.put o.dst undef) w') (hQ:∀e c w',Q1 e c w'->e=.normal) (h:o.wp P b w K Q1):o.wp P a w K2 Q2:=by
 unfold Oper.wp at*;rw[execOp_congr o hsel he];generalize(execOp b.eval o).run P w=r at*;cases r with
 |ok n w'=>
  cases n with
  |value v=>exact hK _ _ h
  |skip=>exact hK _ _ h
  |defer d=>exact absurd h (hdf _ _)
  |enter f args=>
   refine Calls.mono h ?_;intro e w'' he;cases e with
   |returned v=>exact hK _ _ he
   |panicked c=>exact absurd (hQ _ _ _ he) (by simp)
   |outgrown=>
    obtain⟨a0,w0,hq⟩:=he;exact absurd (hQ _ _ _ hq) (by simp)
  |row r args=>exact Rows.mono h fun v w'' he=>hK _ _ he
  |_=>exact h.elim
 |halt x w'=>
  cases x with
  |panic u=>exact absurd (hQ _ _ _ h) (by simp)
  |_=>exact h.elim
theorem a2F{l:List (Nat×D)}{σ:List (Nat×D)}(h:∀p∈l,p.2=.any){t:Nat}(ht:t∈l.map Prod.fst):lk (l++σ) t=.any:=by
 induction l with
 |nil=>cases ht
 |cons p l ih=>
  obtain⟨u,d⟩:=p;have hd:d=.any:=h (u,d) (by simp);subst hd;simp only[qQ,lk];by_cases e:t=u
  ·rw[bK e]
  ·rw[b8 e];refine ih (fun p hp=>h p (by simp[hp])) ?_;simp only[bH,bI]at ht;rcases ht with h|h
   ·exact absurd h e
   ·exact h
theorem HO(a:Act){t u:Nat}(v:Value)(h:u≠t):(a.put (some t) v).tmps.getD u undef=a.tmps.getD u undef:=by
 show(a.tmps.setIfInBounds t v).getD u undef=_;simp[cE,rC h]
theorem Ix(a:Act){t:Nat}(v:Value)(h:t<a.tmps.size):(a.put (some t) v).tmps.getD t undef=v:=by
 show(a.tmps.setIfInBounds t v).getD t undef=_;simp[cE,h]
theorem count_set{m i:Nat}{listed:Array Bool}(hi:i<m)(hsz:i<listed.size)(hl:listed.getD i false=false):((List.range m).filter fun j=> !(listed.setIfInBounds i true).getD j false).length+1=((List.range m).filter fun j=> !listed.getD j false).length:=by
 have Tv:((List.range m).filter fun j=> !(listed.setIfInBounds i true).getD j false)=((List.range m).filter fun j=> !listed.getD j false).erase i:=by
  have hnd:((List.range m).filter fun j=> !listed.getD j false).Nodup:=wm _ AK;rw[hnd.erase_eq_filter,v7];apply vW;intro j _;by_cases e:j=i
  ·subst e;simp[hsz]
  ·rw[getD_set_ne false (rC e)];simp[e]
 have hmem:i∈(List.range m).filter fun j=> !listed.getD j false:=fN.2 ⟨bS.2 hi,by simp only[hl];rfl⟩
 have hpos:0<((List.range m).filter fun j=> !listed.getD j false).length:=BE hmem;rw[Tv,pq hmem];omega
def V8(P:Program)(Γ:vJ)(X:aX)(l:List Oper)(σF:List (Nat×D))(H0:bO)(i:Nat):Prop:=
 ∃o t d,l.toArray[i]?=some o/\o.guard=none/\o.dst=some t/\t<Γ.nt/\lk σF t=d/\∀σ' H',yb X H0 H'->(∀u∈o.looksAt l.toArray,lk σ' u=lk σF u)->pv P ⟨σ',H'⟩ o.op=some d
theorem PS{l:List Oper}{n m:Nat}{L:aX}{σF:List (Nat×D)}{H0:bO}(hB:LK l.toArray n m L=true)(a05:∀i∈L,V8 P Γ X l σF H0 i):
 ∀(f c:Nat) (S:St) (listed:Array Bool) (σ':List (Nat×D)) (κ:Nat->Option Value) (Θ:Nat->Nat) (a:Act) (w:World),HeadInv .any l.toArray l.toArray.size listed->
  (∀i,i<n->i∉L->listed.getD i false=true)->n+c<=m->(∀i,n<=i->i<n+c->listed.getD i false=true)->(∀i,n+c<=i->i<l.toArray.size->listed.getD i false=false)->
  ((List.range m).filter fun i=> !listed.getD i false).length=f->
  (∀t,(∀(i:Nat) o,l.toArray[i]?=some o->n<=i->i<n+c->o.dst≠some t)->lk S.σ t=lk σF t)->yb X H0 S.H->
  Ut P Γ X (fun ur=>AO P Γ l.toArray (l.drop m) Q ur) ((l.drop (n+c)).take (m-(n+c))) S->
  (∀t,(∀i∈L,∀o,l.toArray[i]?=some o->listed.getD i false=false->o.dst≠some t)->lk σ' t=lk S.σ t)->
  dX Γ ⟨σ',S.H⟩ κ Θ a w->
  wpAny P .any l.toArray (fun e a' w'=>∃ur κ' Θ',dX Γ ur κ' Θ' a' w'/\Q e ur) (f+(l.toArray.size-m)) listed a w:=by
 simp only[LK,VR,aW,bC]at hB;obtain⟨⟨hnm,O0⟩,Ym,Vo,hmid,Va,Vc,Vj,hL⟩:=hB;have a6L:∀i,i<m->∃o,l.toArray[i]?=some o/\∀e∈o.after,Region.binds .any e=true->e.on<i:=by
  intro i hi;have:=ay.1 Va i (bS.2 hi);split at this
  ·cases this
  ·rename_i o ho;refine⟨o,ho,fun e he hb=>?_⟩;have:=uz.1 this e he;simpa[hb]using this
 have EA:∀i∈L,i<n:=by
  intro i hi;have:=ay.1 hL i hi;simp only[aW,bC]at this;exact this.1
 have Pe:∀(i:Nat) o,i<n->l.toArray[i]?=some o->∀u∈o.looksAt l.toArray,∀(j:Nat) oj,j<n->l.toArray[j]?=some oj->oj.dst=some u->j<i/\Region.waitsFor .any l.toArray i j=true:=by
  intro i o hi ho u hu j oj hj xH hd;have:=ay.1 Vc i (bS.2 hi);simp only[ho,aW]at this;have:=ay.1 (ay.1 this.1 u hu) j (bS.2 hj);simpa[xH,hd]using this
 have Iq:∀(j:Nat) o,n<=j->j<m->l.toArray[j]?=some o->∀i∈L,∀oi,l.toArray[i]?=some oi->oi.dst≠o.dst/\(∀u∈oi.looksAt l.toArray,o.dst≠some u)/\(((Qx l.toArray.toList).getD j []).contains i=true\/∀u∈o.looksAt l.toArray,oi.dst≠some u):=by
  intro j o Fz hj2 ho i hi oi hoi;have:=ay.1 Vj (j-n) (bS.2 (by omega));rw[show n+(j-n)=j from by omega]at this;simp only[ho]at this;have:=ay.1 this i hi;simp only[hoi,aW,pH,nA]at this;obtain⟨⟨h1,h2⟩,h3⟩:=this;refine⟨by simpa using h1,fun u hu he=>?_,h3.imp id fun h u hu he=>?_⟩
  ·have:=zY.1 h2 u hu;simp[he]at this
  ·have:=zY.1 h u hu;simp[he]at this
 intro f
 induction f with
 |zero=>
  intro c S listed σ' κ Θ a w inv hN hc hM hT nW hS hX hA hag hs;have hall:∀i,i<m->listed.getD i false=true:=by
   intro i hi;have h0:=cN nW;cases hl:listed.getD i false with
   |true=>rfl
   |false=>
    have:i∈(List.range m).filter fun i=> !listed.getD i false:=fN.2 ⟨bS.2 hi,by simp only[hl];rfl⟩
    rw[h0]at this;cases this
  have hcm:n+c=m:=by
   rcases dY (n+c) m with h|h
   ·have h1:=hall (n+c) h;rw[hT (n+c) (bN _) (by omega)]at h1;cases h1
   ·omega
  have Vg:listed=Array.replicate m true++Array.replicate (l.toArray.size-m) false:=by
   apply Array.ext
   ·rw[inv.size];simp at O0⊢;omega
   ·intro i h1 h2;by_cases hi:i<m
    ·have:=hall i hi;rw[zN (by simpa using hi)];simp[h1]at this;simp[this]
    ·have hi':i<l.toArray.size:=by rw[<-inv.size];exact h1
     have:=hT i (by omega) hi';rw[yY (by simpa using hi)];simp[h1]at this;simp[this]
  rw[cm];rw[hcm,nT,List.take_zero]at hA;have hA:AO P Γ l.toArray (l.drop m) Q S:=hA;have hs2:=dX.same (st:=⟨σ',S.H⟩) (σ':=S.σ) (fun t=>hag t (fun i hi o ho hl=>by rw[hall i (by have:=EA i hi;omega)]at hl;cases hl)) hs;have hwp:=hA κ Θ a w hs2;have hdl:(l.drop m).length=l.toArray.size-m:=by simp
  have:=wpAny_of_seq (md:=.any) (l.drop m) m listed a w (fun j=>by simp[dO]) (by rw[hdl,Vg];exact Ym) hwp
  rwa[hdl]at this
 |succ f ih=>
  intro c S listed σ' κ Θ a w inv hN hc hM hT nW hS hX hA hag hs;have hun:∃i,i<m/\listed.getD i false=false:=by
   have hne:((List.range m).filter fun i=> !listed.getD i false)≠[]:=by
    intro h0;rw[h0]at nW;simp at nW
   obtain⟨i,hi⟩:=uE _ hne;obtain⟨h1,h2⟩:=fN.1 hi;exact⟨i,bS.1 h1,by simpa using h2⟩
  have hsz:=inv.size;rw[show f+1+(l.toArray.size-m)=(f+(l.toArray.size-m))+1 from by omega];refine⟨fun h0=>?_,fun i hi=>?_⟩
  ·exfalso;obtain⟨i,⟨hin,Qf⟩,hmin⟩:=exists_least (p:=fun i=>i<m/\listed.getD i false=false) hun;obtain⟨o,ho,hed⟩:=a6L i hin;have:i∈Region.ready .any l.toArray listed:=by
    refine mem_ready.2 ⟨getD_in (by rw[hsz];omega) Qf,o,ho,fun e he hb=>?_⟩;have:=hed e he hb;cases hl:listed.getD e.on false with
    |true=>rfl
    |false=>have:=hmin e.on ⟨by omega,hl⟩;omega
   rw[h0]at this;cases this
  ·obtain⟨i0,hi0,hl0⟩:=hun;obtain⟨Qf,o,ho,hall⟩:=mem_ready.1 hi;have A7:=getD_both Qf;have Bo:i<l.toArray.size:=(bG.1 ho).1;have him:i<m:=by
    rcases dY i m with h|h
    ·exact h
    ·have h1:=ay.1 Vo (i-m) (bS.2 (by omega));have h2:=ay.1 h1 i0 (bS.2 hi0);rw[show m+(i-m)=i from by omega]at h2;rw[xG inv.closed hi h2]at hl0;cases hl0
   have Tv:=count_set him (by rw[hsz];exact Bo) A7;have om:∀(j:Nat),(listed.setIfInBounds i true).getD j false=true↔(j=i\/listed.getD j false=true):=by
    intro j;by_cases e:i=j
    ·subst e;have:i<listed.size:=by rw[hsz];exact Bo
     simp[this]
    ·rw[getD_set_ne false e];constructor
     ·exact .inr
     ·rintro(rfl|h)
      ·exact absurd rfl e
      ·exact h
   have a8Q:∀(j:Nat),(listed.setIfInBounds i true).getD j false=false->j≠i/\listed.getD j false=false:=by
    intro j h;refine⟨fun e=>?_,?_⟩
    ·have:=(om j).2 (.inl e);rw[this]at h;cases h
    ·cases h2:listed.getD j false with
     |false=>rfl
     |true=>have:=(om j).2 (.inr h2);rw[this]at h;cases h
   rcases dY i n with hin|hin
   ·
    have hiL:i∈L:=by
     by_cases h:i∈L
     ·exact h
     ·rw[hN i hin h]at A7;cases A7
    obtain⟨o',t,d,ho',hg,hd,htn,hdF,hpv⟩:=a05 i hiL;rw[ho]at ho';cases ho';have Pg:∀u∈o.looksAt l.toArray,lk σ' u=lk σF u:=by
     intro u hu;rw[hag u,hS u]
     ·intro j oj xH Fz hj2 he;exact(Iq j oj Fz (by omega) xH i hiL o ho).2.1 u hu he
     ·intro j hj oj xH hlj he;obtain⟨h1,h2⟩:=Pe i o hin ho u hu j oj (EA j hj) xH he;obtain⟨o2,ho2,e,HK,hb,hon⟩:=Region.waitsFor_spec h2;rw[ho]at ho2;cases ho2;have:=hall e HK hb;rw[hon,hlj]at this;cases this
    have hp:=hpv σ' S.H hX Pg;obtain⟨v,bs,hrun,hrd,hz⟩:=EG (st:=⟨σ',S.H⟩) hs hp;refine zM ho (by simp[Region.wanted,hg]) ?_;unfold Oper.wp;rw[hrun,Oper.upon_value,hd];refine ih c S (listed.setIfInBounds i true) ((t,d)::σ') κ Θ _ w (inv.set hi Bo) ?_ hc ?_ ?_ (by omega) hS hX hA ?_ (hs.set (st:=⟨σ',S.H⟩) htn hrd hz)
    ·intro j hj hjL;exact(om j).2 (.inr (hN j hj hjL))
    ·intro j Fz hj2;exact(om j).2 (.inr (hM j Fz hj2))
    ·intro j Fz hj2;rw[getD_set_ne false (by omega)];exact hT j Fz hj2
    ·intro u hu;simp only[lk];by_cases e:u=t
     ·rw[bK e,e,hS t,hdF];intro j oj xH Fz hj2 he;exact(Iq j oj Fz (by omega) xH i hiL o ho).1 (by rw[hd,he])
     ·rw[b8 e];refine hag u fun j hj oj xH hlj he=>?_
      by_cases hji:j=i
      ·subst hji;rw[ho]at xH;cases xH;rw[hd]at he;cases he;exact e rfl
      ·exact hu j hj oj xH (by rw[getD_set_ne false (rC hji)];exact hlj) he
   ·
    have hic:i=n+c:=by
     rcases vX i (n+c)with h|h|h
     ·rw[hM i hin h]at A7;cases A7
     ·exact h
     ·have h1:=ay.1 hmid (i-n) (bS.2 (by omega));rw[show n+(i-n)=i from by omega]at h1;have h2:=ay.1 h1 (n+c) (bS.2 h);simp only[nA]at h2;rcases h2 with h2|h2
      ·have:=xG inv.closed hi h2;rw[hT (n+c) (bN _) (by omega)]at this;cases this
      ·have:=EA (n+c) (by simpa using h2);omega
    subst hic;have Pd:(l.drop (n+c)).take (m-(n+c))=o::(l.drop (n+(c+1))).take (m-(n+(c+1))):=by
     have h1:l[n+c]?=some o:=by simpa using ho
     have h2:(n+c)<l.length:=(aF.1 h1).1;have h3:l[n+c]=o:=(aF.1 h1).2;rw[lC h2,h3,show m-(n+c)=(m-(n+(c+1)))+1 from by omega,uM];rfl
    rw[Pd]at hA;obtain⟨S1,Nx,hX1,hgm,hsel,hstep,hA1⟩:=hA;have a6y:∀u,o.dst≠some u->lk S1.σ u=lk S.σ u:=by
     intro u hu;rcases Nx with⟨tm,dm,Yi,htm,a1k⟩|⟨_,a1k⟩
     ·rw[a1k];simp only[lk];rw[b8 (fun e=>hu (by rw[Yi,e]))]
     ·rw[a1k]
    have a3v:∀(b:Act) (v:Value),(b.put o.dst v).tmps.size=b.tmps.size:=by
     intro b v;rcases Nx with⟨tm,dm,Yi,_,_⟩|⟨Yi,_⟩
     ·rw[Yi];show(b.tmps.setIfInBounds tm v).size=_;simp
     ·rw[Yi];rfl
    have a3u:∀(b:Act) (v:Value),(b.put o.dst v).defers=b.defers:=by
     intro b v;cases o.dst<;>rfl
    have fill:∀k,k<=n->∃(ak:Act) (σk:List (Nat×D)),dX Γ ⟨σk,S.H⟩ κ Θ ak w/\(∀u,(∀j∈L,∀oj,l.toArray[j]?=some oj->listed.getD j false=false->k<=j->oj.dst≠some u)->lk σk u=lk S.σ u)/\
     (∀u,(∀j∈L,∀oj,l.toArray[j]?=some oj->listed.getD j false=false->oj.dst≠some u)->ak.tmps.getD u undef=a.tmps.getD u undef):=by
     intro k
     induction k with
     |zero=>intro _;exact⟨a,σ',hs,fun u hu=>hag u (fun j hj oj xH hl=>hu j hj oj xH hl (Cv _)),fun _ _=>rfl⟩
     |succ k ihk=>
      intro hk;obtain⟨ak,σk,hsk,a1H,hek⟩:=ihk (by omega);by_cases hkl:k∈L/\listed.getD k false=false
      ·obtain⟨hkL,hkF⟩:=hkl;obtain⟨ok,t,d,hok,hg,hd,htn,hdF,hpv⟩:=a05 k hkL;have Pg:∀u∈ok.looksAt l.toArray,lk σk u=lk σF u:=by
        intro u hu;rw[a1H u,hS u]
        ·intro j oj xH Fz hj2 he;exact(Iq j oj Fz (by omega) xH k hkL ok hok).2.1 u hu he
        ·intro j hj oj xH hlj hkj he;obtain⟨h1,h2⟩:=Pe k ok (by omega) hok u hu j oj (EA j hj) xH he;omega
       have hp:=hpv σk S.H hX Pg;obtain⟨v,bs,hrun,hrd,hz⟩:=EG (st:=⟨σk,S.H⟩) hsk hp;refine⟨ak.put (some t) v,(t,d)::σk,hsk.set (st:=⟨σk,S.H⟩) htn hrd hz,?_,?_⟩
       ·intro u hu;simp only[lk];by_cases e:u=t
        ·rw[bK e,e,hS t,hdF];intro j oj xH Fz hj2 he;exact(Iq j oj Fz (by omega) xH k hkL ok hok).1 (by rw[hd,he])
        ·rw[b8 e];refine a1H u fun j hj oj xH hlj hkj he=>?_
         by_cases hjk:j=k
         ·subst hjk;rw[hok]at xH;cases xH;rw[hd]at he;cases he;exact e rfl
         ·exact hu j hj oj xH hlj (by omega) he
       ·intro u hu;rw[HO _ _ (fun e=>hu k hkL ok hok hkF (by rw[hd,e])),hek u hu]
      ·refine⟨ak,σk,hsk,fun u hu=>a1H u fun j hj oj xH hlj hkj=>?_,hek⟩;by_cases hjk:j=k
       ·subst hjk;exact absurd ⟨hj,hlj⟩ hkl
       ·exact hu j hj oj xH hlj (by omega)
    obtain⟨an,σn,hsn,a6X,hen⟩:=fill n (bN _);have hsS:=dX.same (st:=⟨σn,S.H⟩) (σ':=S.σ) (fun u=>a6X u (fun j hj oj xH _ hnj=>by have:=EA j hj;omega)) hsn;have hwp:=hstep κ Θ an w hsS;refine zM ho (by simp[Region.wanted,hgm]) (Qa (Q2:=_) hsel ?_ ?_ ?_ (fun e _ _ h=>h) hwp)
    ·intro x hx;cases x with
     |tmp u=>
      refine(hen u fun j hj oj xH hlj he=>?_).symm;have hu:u∈o.looksAt l.toArray:=by
       unfold Oper.looksAt;exact af.2 (.inl (bt.2 ⟨.tmp u,by simpa using hx,rfl⟩))
      rcases(Iq (n+c) o (by omega) him ho j hj oj xH).2.2 with h|h
      ·rw[xG inv.closed hi h]at hlj;cases hlj
      ·exact h u hu he
     |const v=>rfl
     |global g=>rfl
     |func f=>rfl
    ·rintro v w' ⟨κ',Θ',hs'⟩;let late:List (Nat×D):=(L.filterMap fun j=>bif listed.getD j false then none else(l.toArray[j]?).bind (·.dst)).map fun u=>(u,D.any)
     have Pf:∀u,u∈late.map Prod.fst↔∃j∈L,∃oj,l.toArray[j]?=some oj/\listed.getD j false=false/\oj.dst=some u:=by
      intro u;simp only[late,pJ,cB,bt,Function.comp];constructor
      ·rintro⟨x,⟨j,hj,hx⟩,rfl⟩;cases hl:listed.getD j false with
       |true=>rw[hl]at hx;cases hx
       |false=>
        rw[hl,aZ]at hx;cases xH:l.toArray[j]? with
        |none=>rw[xH]at hx;cases hx
        |some oj=>rw[xH]at hx;exact⟨j,hj,oj,xH,hl,hx⟩
      ·rintro⟨j,hj,oj,xH,hl,hx⟩;exact⟨u,⟨j,hj,by rw[hl,aZ,xH];exact hx⟩,rfl⟩
     have hs2:dX Γ ⟨late++S1.σ,S1.H⟩ κ' Θ' (a.put o.dst v) w':=by
      refine⟨by rw[a3u];exact hs.defers,by rw[a3v];exact hs.size,hs'.pX,hs'.ol,?_,hs'.ob,hs'.own,hs'.old,hs'.mine,hs'.stays,hs'.td⟩;intro u;show∃bs,rD w' κ' _ (lk (late++S1.σ) u) bs/\_;by_cases hu:u∈late.map Prod.fst
      ·rw[a2F (fun p hp=>by simp only[late,cB]at hp;obtain⟨_,_,rfl⟩:=hp;rfl) hu];exact⟨[],.of (.any _),by simp⟩
      ·rw[EC _ _ _ (fun p hp e=>hu (cB.2 ⟨p,hp,e⟩))];have e1:(a.put o.dst v).tmps.getD u undef=(an.put o.dst v).tmps.getD u undef:=by
        have e0:=(hen u fun j hj oj xH hlj he=>hu ((Pf u).2 ⟨j,hj,oj,xH,hlj,he⟩)).symm;rcases Nx with⟨tm,dm,Yi,htm,_⟩|⟨Yi,_⟩
        ·rw[Yi];by_cases e:u=tm
         ·subst e;rw[Ix _ _ (by rw[hs.size];exact htm),Ix _ _ (by rw[hsn.size];exact htm)]
         ·rw[HO _ _ e,HO _ _ e];exact e0
        ·rw[Yi];exact e0
       rw[e1];exact hs'.slot u
     refine ih (c+1) S1 (listed.setIfInBounds (n+c) true) (late++S1.σ) κ' Θ' _ w' (inv.set hi Bo) ?_ (by omega) ?_ ?_ (by omega) ?_ (hX.trans hX1) hA1 ?_ hs2
     ·intro j hj hjL;exact(om j).2 (.inr (hN j hj hjL))
     ·intro j Fz hj2;by_cases e:j=n+c
      ·exact(om j).2 (.inl e)
      ·exact(om j).2 (.inr (hM j Fz (by omega)))
     ·intro j Fz hj2;rw[getD_set_ne false (by omega)];exact hT j (by omega) hj2
     ·intro u hu;rw[a6y u (hu (n+c) o ho (by omega) (by omega))];exact hS u fun j oj xH Fz hj2=>hu j oj xH Fz (by omega)
     ·intro u hu;rw[EC];intro p hp e;obtain⟨j,hj,oj,xH,hl,he⟩:=(Pf u).1 (cB.2 ⟨p,hp,e⟩);refine hu j hj oj xH ?_ he;rw[getD_set_ne false (by have:=EA j hj;omega)];exact hl
    ·rintro d w' ⟨κ',Θ',hs'⟩;have:=hs'.defers;cases hod:o.dst<;>rw[hod]at this<;>cases this
theorem KH{p:Nat->Bool}{n:Nat}:∀(k:Nat),(∀i,n<=i->i<n+k->p i=true)->((List.range (n+k)).filter p).length=((List.range n).filter p).length+k
 |0,_=>rfl
 |k+1,h=>by
  rw[<-pu,List.range_succ,List.filter_append,bB,KH k (fun i h1 h2=>h i h1 (by omega))];have:p (n+k)=true:=h (n+k) (by omega) (by omega);simp[this];omega
def Mj(P:Program)(Γ:vJ)(ops:Array Oper)(Q:Exit->St->Prop)(st:St):Prop:=
 ∀κ Θ a w,dX Γ st κ Θ a w->wpAny P .any ops (fun e a' w'=>∃ur κ' Θ',dX Γ ur κ' Θ' a' w'/\Q e ur) ops.size (Array.replicate ops.size false) a w
theorem Mj.aw{id:Nat}{ops:Array Oper}(hm:P.follows .mixedOrders=true)(h:Mj P Γ ops Q st):AW P Γ (.region id ops true) Q st:=
 fun κ Θ a w hs=>wp_region_any hm (h κ Θ a w.drew hs.drew)
theorem Td{l:List Oper}(n m:Nat)(L:aX)(hB0:LK l.toArray n m L=true)
 (h:Jz P Γ l.toArray st.H (fun σ acc=>(∀i∈L,∀o,l[i]?=some o->Bv X ⟨σ,st.H⟩ o.op=true)/\Ut P Γ X (fun ur=>AO P Γ l.toArray (l.drop m) Q ur) ((l.drop n).take (m-n)) ⟨σ,st.H++acc⟩) (l.take n) st.σ [] []):Mj P Γ l.toArray Q st:=by
 have hB:=hB0;simp only[LK,VR,aW,bC]at hB;obtain⟨⟨hnm,O0⟩,Ym,Vo,hmid,Va,Vc,Vj,hL⟩:=hB;have hn:n<l.toArray.size:=by omega
 have K4:((List.range n).all fun i=>match l.toArray[i]? with
  |none=>false
  |some o=>(o.after.all fun e=> !Region.binds .any e||decide (e.on<i))&&
   ((o.looksAt l.toArray).all fun t=>(List.range n).all fun j=>match l.toArray[j]? with|some oj=> !(oj.dst==some t)||(decide (j<i)&&Region.waitsFor .any l.toArray i j)|none=>true)&&
   (List.range n).all fun j=>j==i||(match l.toArray[j]? with|some oj=> !(oj.dst==o.dst)||o.dst.isNone|none=>true))=true:=by
  rw[ay];intro i hi;have h1:=ay.1 Va i (bS.2 (by have:=bS.1 hi;omega));have h2:=ay.1 Vc i hi;cases ho:l.toArray[i]? with
  |none=>rw[ho]at h1;cases h1
  |some o=>
   simp only[ho,aW]at h1 h2⊢;exact⟨⟨h1,h2.1⟩,h2.2⟩
 have EA:∀i∈L,i<n:=by
  intro i hi;have:=ay.1 hL i hi;simp only[aW,bC]at this;exact this.1
 obtain⟨ps,KN,hlen,LV,⟨hstill,hK⟩,hFl,hFo,hFu⟩:=Jz.unfold _ _ _ _ h;simp only[cT,bX,yD,cm]at LV hK hFl hFo hstill;have hn':n<l.length:=by simpa using hn
 have hpl:ps.length=n:=by rw[hlen];simp;omega
 have hop:∀(i:Nat),i<n->∃o p,l.toArray[i]?=some o/\ps[i]?=some p/\o.dst=p.t/\tG P Γ l.toArray st.H (((ps.take i).filterMap Cp.sl).reverse++st.σ) o p/\p.r=st.H.length+((ps.take i).flatMap Cp.obs).length:=by
  intro i hi;have h1:l[i]?=some l[i]:=aa (by omega);have h2:ps[i]?=some ps[i]:=aa (by omega);have h3:=LV i l[i] ps[i] (by rw[c8,bK hi];exact h1) h2;exact⟨l[i],ps[i],by simp[lE,h1],h2,h3.1.slots,h3.1,h3.2.1⟩
 have RI:∀(i:Nat) p,ps[i]?=some p->p.r=st.H.length+((ps.take i).flatMap Cp.obs).length:=by
  intro i p hp;have hi:i<n:=by have:=(aF.1 hp).1;omega
  obtain⟨_,p',_,hp',_,_,hr⟩:=hop i hi;rw[hp]at hp';cases hp';exact hr
 have O1:∀(i:Nat) p id ob,ps[i]?=some p->p.up=some (id,ob)->st.H.length<=id/\(∃zs ds,ob=.box ds/\zs.length=ds.length/\((ps.take i).flatMap Cp.obs)[id-st.H.length]?=some (.box zs))/\∀(i2:Nat) q AH,i2<i->ps[i2]?=some q->q.up≠some (id,AH):=by
  intro i p id ob hp he;have hi:i<n:=by have:=(aF.1 hp).1;omega
  have h1:l[i]?=some l[i]:=aa (by omega);have h3:=(LV i l[i] p (by rw[c8,bK hi];exact h1) hp).2.2 id ob he;exact⟨h3.2.1,h3.2.2.1,h3.2.2.2⟩
 have Vq:∀(i j:Nat) p q id ob AH,ps[i]?=some p->ps[j]?=some q->p.up=some (id,ob)->q.up=some (id,AH)->i=j:=by
  intro i j p q id ob AH hp hq he HK;rcases vX i j with h|h|h
  ·exact absurd he ((O1 j q id AH hq HK).2.2 i p ob h hp)
  ·exact h
  ·exact absurd HK ((O1 i p id ob hp he).2.2 j q AH h hq)
 have Vr:∀(i:Nat) p id ob,ps[i]?=some p->p.up=some (id,ob)->p.obs=[]:=by
  intro i p id ob hp he;have hi:i<n:=by have:=(aF.1 hp).1;omega
  obtain⟨_,p',_,hp',_,hc,_⟩:=hop i hi;rw[hp]at hp';cases hp';rcases hc.Xm with h|h
  ·rw[h]at he;cases he
  ·exact h
 have hfit:∀(i:Nat) p,ps[i]?=some p->p.r+p.obs.length<=st.H.length+(ps.flatMap Cp.obs).length:=by
  intro i p hp;rw[RI i p hp,qI hp];simp only[bB];omega
 have Nw:∀(i j:Nat) p q,ps[i]?=some p->ps[j]?=some q->i<j->p.r+p.obs.length<=q.r:=by
  intro i j p q hp hq hij;rw[RI i p hp,RI j q hq];have:=NN hp hij;omega
 have hdist:∀(i j:Nat) p q t,ps[i]?=some p->ps[j]?=some q->p.t=some t->q.t=some t->i=j:=by
  intro i j p q t hp hq he1 HK;have hi:i<n:=by have:=(aF.1 hp).1;omega
  have hj:j<n:=by have:=(aF.1 hq).1;omega
  obtain⟨oi,p',ho,hp',hdi,_⟩:=hop i hi;obtain⟨oj,q',xH,MY,hdj,_⟩:=hop j hj;rw[hp]at hp';cases hp';rw[hq]at MY;cases MY;have:=ay.1 K4 i (bS.2 hi);simp only[ho,aW]at this;have:=ay.1 this.2 j (bS.2 hj);simp only[xH,hdi,hdj,he1,HK,jf,bP,sF,Option.isNone_some,sF,cO]at this;exact this.symm
 have E6:∀(i:Nat) p t,ps[i]?=some p->p.t=some t->∀q∈ps.filterMap Cp.sl,q.1=t->q=(t,p.d):=by
  intro i p t hp hpt q hq he;obtain⟨q',MY,LZ⟩:=bt.1 hq;obtain⟨j,hj,rfl⟩:=dh.1 MY;have HX:ps[j]?=some ps[j]:=aa hj;unfold Cp.sl at LZ;cases Yl:ps[j].t with
  |none=>rw[Yl]at LZ;cases LZ
  |some u=>
   rw[Yl]at LZ;simp only[cM,ar]at LZ;subst LZ;simp only at he;subst he;have:=hdist j i _ p u HX hp Yl hpt;subst this;rw[hp]at HX;cases HX;rfl
 have hlk:∀(i:Nat) (o:Oper),i<n->l.toArray[i]?=some o->∀t∈o.looksAt l.toArray,lk (((ps.take i).filterMap Cp.sl).reverse++st.σ) t=lk ((ps.filterMap Cp.sl).reverse++st.σ) t:=by
  intro i o hin ho t ht;have Ia:=ay.1 K4 i (bS.2 hin);simp only[ho,aW]at Ia;have Ia:=ay.1 Ia.1.2 t ht;by_cases hex:∃(j:Nat) (q:Cp),ps[j]?=some q/\q.t=some t
  ·obtain⟨j,q,hq,KV⟩:=hex;have hj:j<n:=by have:=(aF.1 hq).1;omega
   obtain⟨oj,q',xH,MY,hdj,_⟩:=hop j hj;rw[hq]at MY;cases MY;have:=ay.1 Ia j (bS.2 hj);simp only[xH,hdj,KV,jf,bP,nc,aW,bC]at this;obtain⟨hji,_⟩:=this;rw[HM (ps.filterMap Cp.sl).reverse st.σ (t,q.d) (by rw[dL];exact bt.2 ⟨q,aD hq,by simp[Cp.sl,KV]⟩) (fun q2 HX HK=>E6 j q t hq KV q2 (by simpa using HX) HK)];refine HM ((ps.take i).filterMap Cp.sl).reverse st.σ (t,q.d) ?_ (fun q2 HX HK=>E6 j q t hq KV q2 ?_ HK)
   ·rw[dL];exact bt.2 ⟨q,aD (i:=j) (by rw[c8,bK hji];exact hq),by simp[Cp.sl,KV]⟩
   ·obtain⟨q3,RJ,xI⟩:=bt.1 (dL.1 HX);exact bt.2 ⟨q3,bw RJ,xI⟩
  ·have hno:∀q3∈ps,q3.t≠some t:=by
    intro q3 RJ he;obtain⟨j,hj,hqj⟩:=dh.1 RJ;exact hex ⟨j,q3,by rw[<-hqj];exact aa hj,he⟩
   have hsl:∀(qs:List Cp),(∀q3∈qs,q3.t≠some t)->∀p∈(qs.filterMap Cp.sl).reverse,p.1≠t:=by
    intro qs LZ p hp he;obtain⟨q3,RJ,xI⟩:=bt.1 (dL.1 hp);unfold Cp.sl at xI;cases hpt:q3.t with
    |none=>rw[hpt]at xI;cases xI
    |some u=>rw[hpt]at xI;simp only[cM,ar]at xI;subst xI;simp only at he;exact LZ q3 RJ (by rw[hpt,he])
   rw[EC _ _ _ (hsl _ hno),EC _ _ _ (hsl _ (fun q3 RJ=>hno q3 (bw RJ)))]
 have a0E:∀i∈L,∃(o:Oper) (p:Cp),l.toArray[i]?=some o/\ps[i]?=some p/\p.obs=[]/\p.up=none/\V8 P Γ X l ((ps.filterMap Cp.sl).reverse++st.σ) st.H i:=by
  intro i hi;have hin:=EA i hi;have h1:=ay.1 hL i hi;obtain⟨o,p,ho,hp,hd,hc,_⟩:=hop i hin;simp only[ho,aW]at h1;have hg:o.guard=none:=by simpa using h1.2.1
  have hst:=hstill i hi o (by simpa using ho);rcases hc with⟨t,hpt,Sn,hdt,htn,hc⟩|⟨_,_,hdt,_⟩
  ·have hc:Hf P st.H (((ps.take i).filterMap Cp.sl).reverse++st.σ) o p:=by
    rcases hc with⟨_,hc⟩|⟨_,_,_,_,hg',_⟩|⟨_,_,_,hg',_⟩
    ·exact hc
    ·rw[hg]at hg';cases hg'
    ·rw[hg]at hg';cases hg'
   have hpv:pv P ⟨((ps.take i).filterMap Cp.sl).reverse++st.σ,st.H⟩ o.op=some p.d/\p.obs=[]:=by
    rcases hc with(hc|⟨f,xs,ts,ds,ms,d,RF,_⟩)| (⟨T,zs,RF,_⟩|⟨T,x,ds,RF,_⟩)|⟨T,e,sz,len,parts,zs,ds,es,RF,_⟩|⟨T,e,sz,len,parts,zs,ds,RF,_⟩
    ·exact hc
    all_goals(rw[RF]at hst;simp[Bv]at hst)
   refine⟨o,p,ho,hp,hpv.2,Sn,o,t,p.d,ho,hg,hdt,htn,?_,?_⟩
   ·exact HM (ps.filterMap Cp.sl).reverse st.σ (t,p.d) (by rw[dL];exact bt.2 ⟨p,aD hp,by simp[Cp.sl,hpt]⟩) (fun q2 HX HK=>E6 i p t hp hpt q2 (by simpa using HX) HK)
   ·intro σ' H' hX Pg;have e1:pv P ⟨(ps.filterMap Cp.sl).reverse++st.σ,st.H⟩ o.op=some p.d:=OQ (fun _ _ h=>h) (LL (st:=⟨_,st.H⟩) (ur:=⟨_,st.H⟩) (ops:=l.toArray) (o:=o) (fun t ht=>hlk i o hin ho t ht)) hpv.1;refine Xc hX hst ?_ e1;intro x hx;rw[PV σ' H' st.H x];exact(LL (st:=⟨σ',st.H⟩) (ur:=⟨_,st.H⟩) (ops:=l.toArray) (o:=o) (fun t ht=>Pg t ht) x hx).symm
  ·have:o.dst.isSome=true:=h1.2.2;rw[hdt]at this;cases this
 intro κ Θ a w hs;have switch:∀(f:Nat) (listed:Array Bool) (σ':List (Nat×D)) (H':bO) (κ:Nat->Option Value) (Θ:Nat->Nat) (a:Act) (w:World),HeadInv .any l.toArray n listed->
  ((List.range n).filter fun i=> !listed.getD i false).length=f->
  (∀(i:Nat) p t,ps[i]?=some p->p.t=some t->listed.getD i false=true->lk σ' t=p.d)->
  (∀t,(∀(i:Nat) p,ps[i]?=some p->listed.getD i false=true->p.t≠some t)->lk σ' t=lk st.σ t)->
  H'.length=st.H.length+(ps.flatMap Cp.obs).length->Ext st.H H'->
  (∀(i:Nat) p,ps[i]?=some p->listed.getD i false=true->∀(j:Nat) o,p.obs[j]?=some o->(∀(i2:Nat) q ob,ps[i2]?=some q->listed.getD i2 false=true->q.up≠some (p.r+j,ob))->H'[p.r+j]?=some o)->
  (∀(i:Nat) q id ob,ps[i]?=some q->listed.getD i false=true->q.up=some (id,ob)->H'[id]?=some ob/\∃v,κ id=some v)->
  (∀(i:Nat) p,ps[i]?=some p->listed.getD i false=false->∀j,j<p.obs.length->κ (p.r+j)=none)->
  dX Γ ⟨σ',H'⟩ κ Θ a w->(∀i,i<n->i∉L->listed.getD i false=true)->
  wpAny P .any l.toArray (fun e a' w'=>∃ur κ' Θ',dX Γ ur κ' Θ' a' w'/\Q e ur) (f+(l.toArray.size-n)) listed a w:=by
  intro f listed σ' H' κ Θ a w inv nW hA hB hHl Up Sj Y2 Si hs hN;have a01:∀(i:Nat) p,ps[i]?=some p->(p.up≠none\/p.obs≠[])->listed.getD i false=true:=by
   intro i p hp hne;have hi:i<n:=by have:=(aF.1 hp).1;omega
   refine hN i hi fun hiL=>?_
   obtain⟨_,p',_,hp',h1,h2,_⟩:=a0E i hiL;rw[hp]at hp';cases hp';rcases hne with h|h
   ·exact h h2
   ·exact h h1
  have LX:∀t,(∀i∈L,∀o,l.toArray[i]?=some o->listed.getD i false=false->o.dst≠some t)->lk σ' t=lk ((ps.filterMap Cp.sl).reverse++st.σ) t:=by
   intro t hno;by_cases hex:∃(i:Nat) (p:Cp),ps[i]?=some p/\p.t=some t
   ·obtain⟨i,p,hp,hpt⟩:=hex;have hi:i<n:=by have:=(aF.1 hp).1;omega
    have hli:listed.getD i false=true:=by
     cases hl:listed.getD i false with
     |true=>rfl
     |false=>
      obtain⟨o,p',ho,hp',hd,_⟩:=hop i hi;rw[hp]at hp';cases hp';by_cases hiL:i∈L
      ·exact absurd (by rw[hd,hpt]) (hno i hiL o ho hl)
      ·rw[hN i hi hiL]at hl;cases hl
    rw[hA i p t hp hpt hli];exact(HM (ps.filterMap Cp.sl).reverse st.σ (t,p.d) (by rw[dL];exact bt.2 ⟨p,aD hp,by simp[Cp.sl,hpt]⟩) (fun q hq he=>E6 i p t hp hpt q (by simpa using hq) he)).symm
   ·rw[hB t (fun i p hp _ he=>hex ⟨i,p,hp,he⟩),EC];intro q hq he;obtain⟨p,hp,hps⟩:=bt.1 (dL.1 hq);obtain⟨i,hi,hpi⟩:=dh.1 hp;refine hex ⟨i,p,by rw[<-hpi];exact aa hi,?_⟩;unfold Cp.sl at hps;cases hpt:p.t with
    |none=>rw[hpt]at hps;cases hps
    |some u=>rw[hpt]at hps;simp only[cM,ar]at hps;subst hps;simp only at he;rw[he]
  have VV:H'=st.H++KN:=by
   apply mT;intro k;by_cases h1:k<st.H.length
   ·rw[au h1];exact Up k _ (aa h1)|>.trans (aa h1).symm
   ·rw[b7 (by omega)];by_cases hex:∃(i:Nat) (q:Cp) (ob:Ob),ps[i]?=some q/\q.up=some (k,ob)
    ·obtain⟨i,q,ob,hq,he⟩:=hex;rw[(Y2 i q k ob hq (a01 i q hq (.inl (by rw[he];simp))) he).1,hFu i q k ob hq he]
    ·have hno:∀(i:Nat) q ob,ps[i]?=some q->q.up≠some (k,ob):=fun i q ob hq he=>hex ⟨i,q,ob,hq,he⟩
     rw[hFo (k-st.H.length) (fun i q ob hq=>by rw[show st.H.length+(k-st.H.length)=k from by omega];exact hno i q ob hq)];by_cases h2:k-st.H.length<(ps.flatMap Cp.obs).length
     ·obtain⟨i,p,j,hp,hj,hk⟩:=yK h2;have e3:p.r+j=k:=by rw[RI i p hp];omega
      have h3:=Sj i p hp (a01 i p hp (.inr (by intro e;rw[e]at hj;simp at hj))) j _ (aa hj) (fun i2 q ob hq _=>by rw[e3];exact hno i2 q ob hq);rw[e3]at h3;rw[h3,qI hp,hk,b7 (by omega),dM,au hj,aa hj]
     ·rw[cP (by omega),cP (by omega)]
  subst VV;have hsz:=inv.size;have hcm:((List.range m).filter fun i=> !listed.getD i false).length=f+(m-n):=by
   have:=KH (p:=fun i=> !listed.getD i false) (n:=n) (m-n) (fun i h1 h2=>by
    have:=getD_both (inv.tail i h1 (by omega));simp only[this];rfl)
   rw[show n+(m-n)=m from by omega]at this;rw[this,nW]
  have:=PS (Q:=Q) (H0:=st.H) hB0 (fun i hi=>by obtain⟨_,_,_,_,_,_,h⟩:=a0E i hi;exact h) (f+(m-n)) 0 ⟨(ps.filterMap Cp.sl).reverse++st.σ,st.H++KN⟩ listed σ' κ Θ a w
   ⟨hsz,inv.closed,fun t h1 h2=>absurd h2 (by omega)⟩ hN (by omega) (fun i h1 h2=>absurd h2 (by omega)) (fun i h1 h2=>getD_both (inv.tail i (by omega) h2)) hcm (fun _ _=>rfl)
   ((yb.refl _).app _) (by simpa using hK) LX hs
  rw[show f+(m-n)+(l.toArray.size-m)=f+(l.toArray.size-n)from by omega]at this;exact this
 have main:∀(f:Nat) (listed:Array Bool) (σ':List (Nat×D)) (H':bO) (κ:Nat->Option Value) (Θ:Nat->Nat) (a:Act) (w:World),HeadInv .any l.toArray n listed->
  ((List.range n).filter fun i=> !listed.getD i false).length=f->
  (∀(i:Nat) p t,ps[i]?=some p->p.t=some t->listed.getD i false=true->lk σ' t=p.d)->
  (∀t,(∀(i:Nat) p,ps[i]?=some p->listed.getD i false=true->p.t≠some t)->lk σ' t=lk st.σ t)->
  H'.length=st.H.length+(ps.flatMap Cp.obs).length->Ext st.H H'->
  (∀(i:Nat) p,ps[i]?=some p->listed.getD i false=true->∀(j:Nat) o,p.obs[j]?=some o->(∀(i2:Nat) q ob,ps[i2]?=some q->listed.getD i2 false=true->q.up≠some (p.r+j,ob))->H'[p.r+j]?=some o)->
  (∀(i:Nat) q id ob,ps[i]?=some q->listed.getD i false=true->q.up=some (id,ob)->H'[id]?=some ob/\∃v,κ id=some v)->
  (∀(i:Nat) p,ps[i]?=some p->listed.getD i false=false->∀j,j<p.obs.length->κ (p.r+j)=none)->
  dX Γ ⟨σ',H'⟩ κ Θ a w->
  wpAny P .any l.toArray (fun e a' w'=>∃ur κ' Θ',dX Γ ur κ' Θ' a' w'/\Q e ur) (f+(l.toArray.size-n)) listed a w:=by
  intro f
  induction f with
  |zero=>
   intro listed σ' H' κ Θ a w inv nW hA hB hHl Up Sj Y2 Si hs;have hall:∀i,i<n->listed.getD i false=true:=by
    intro i hi;have h0:=cN nW;cases hl:listed.getD i false with
    |true=>rfl
    |false=>
     have:i∈(List.range n).filter fun i=> !listed.getD i false:=fN.2 ⟨bS.2 hi,by simp[hl]⟩
     rw[h0]at this;cases this
   exact switch 0 listed σ' H' κ Θ a w inv nW hA hB hHl Up Sj Y2 Si hs (fun i hi _=>hall i hi)
  |succ f ih=>
   intro listed σ' H' κ Θ a w inv nW hA hB hHl Up Sj Y2 Si hs;by_cases hsw:∀i,i<n->i∉L->listed.getD i false=true
   ·exact switch (f+1) listed σ' H' κ Θ a w inv nW hA hB hHl Up Sj Y2 Si hs hsw
   have a7R:∃i,i<n/\i∉L/\listed.getD i false=false:=by
    obtain⟨i,hi⟩:=Classical.not_forall.1 hsw;refine⟨i,?_⟩;by_cases h1:i<n
    ·by_cases h2:i∈L
     ·exact absurd (fun _ h=>absurd h2 h) hi
     ·refine⟨h1,h2,?_⟩;cases hl:listed.getD i false with
      |false=>rfl
      |true=>exact absurd (fun _ _=>hl) hi
    ·exact absurd (fun h=>absurd h h1) hi
   have hun:∃i,i<n/\listed.getD i false=false:=by
    have hne:((List.range n).filter fun i=> !listed.getD i false)≠[]:=by
     intro h0;rw[h0]at nW;simp at nW
    obtain⟨i,hi⟩:=uE _ hne;obtain⟨h1,h2⟩:=fN.1 hi;exact⟨i,bS.1 h1,by simpa using h2⟩
   have hsz:=inv.size;rw[show f+1+(l.toArray.size-n)=(f+(l.toArray.size-n))+1 from by omega];refine⟨fun h0=>?_,fun i hi=>?_⟩
   ·exfalso;obtain⟨i,⟨hin,Qf⟩,hmin⟩:=exists_least (p:=fun i=>i<n/\listed.getD i false=false) hun;obtain⟨o,p,ho,_,_,_⟩:=hop i hin;have:i∈Region.ready .any l.toArray listed:=by
     refine mem_ready.2 ⟨getD_in (by rw[hsz];omega) Qf,o,ho,fun e he hb=>?_⟩;have:=ay.1 K4 i (bS.2 hin);simp only[ho,aW]at this;have:=uz.1 this.1.1 e he;simp only[hb,bP,nc,bC]at this;cases hl:listed.getD e.on false with
     |true=>rfl
     |false=>
      have:=hmin e.on ⟨by omega,hl⟩;omega
    rw[h0]at this;cases this
   ·obtain⟨i0,hi0,hl0⟩:=hun;have hin:i<n:=by
     rcases dY i n with h|h
     ·exact h
     ·obtain⟨i1,hi1,a6q,hl1⟩:=a7R;obtain⟨_,oi,hoi,_⟩:=mem_ready.1 hi;have Bo:i<l.toArray.size:=(bG.1 hoi).1;exfalso;rcases dY i m with hm1|hm1
      ·have h1:=ay.1 hmid (i-n) (bS.2 (by omega));have h2:=ay.1 h1 i1 (bS.2 (by omega));rw[show n+(i-n)=i from by omega]at h2;simp only[nA]at h2;rcases h2 with h2|h2
       ·rw[xG inv.closed hi h2]at hl1;cases hl1
       ·exact a6q (by simpa using h2)
      ·have h1:=ay.1 Vo (i-m) (bS.2 (by omega));have h2:=ay.1 h1 i1 (bS.2 (by omega));rw[show m+(i-m)=i from by omega]at h2;rw[xG inv.closed hi h2]at hl1;cases hl1
    obtain⟨o,p,ho,hp,hd,hc,_⟩:=hop i hin;obtain⟨Qf,o',ho',hall⟩:=mem_ready.1 hi;rw[ho]at ho';cases ho';have A7:=getD_both Qf;have Yh:tG P Γ l.toArray st.H σ' o p:=by
     refine tG.congr (σ:=((ps.take i).filterMap Cp.sl).reverse++st.σ) (σ':=σ') ?_ hc;intro t ht;have Ia:=ay.1 K4 i (bS.2 hin);simp only[ho,aW]at Ia;have Ia:=ay.1 Ia.1.2 t ht;by_cases hex:∃(j:Nat) (q:Cp),ps[j]?=some q/\q.t=some t
     ·obtain⟨j,q,hq,KV⟩:=hex;have hj:j<n:=by have:=(aF.1 hq).1;omega
      obtain⟨oj,q',xH,MY,hdj,_⟩:=hop j hj;rw[hq]at MY;cases MY;have:=ay.1 Ia j (bS.2 hj);simp only[xH,hdj,KV,jf,bP,nc,aW,bC]at this;obtain⟨hji,Vt⟩:=this;obtain⟨oi',Vk,e,he,hb,hon⟩:=Region.waitsFor_spec Vt;rw[ho]at Vk;cases Vk;have hjl:=hall e he hb;rw[hon]at hjl;rw[hA j q t hq KV hjl];refine HM ((ps.take i).filterMap Cp.sl).reverse st.σ (t,q.d) ?_ (fun q2 HX HK=>E6 j q t hq KV q2 ?_ HK)
      ·rw[dL];exact bt.2 ⟨q,aD (i:=j) (by rw[c8,bK hji];exact hq),by simp[Cp.sl,KV]⟩
      ·obtain⟨q3,RJ,xI⟩:=bt.1 (dL.1 HX);exact bt.2 ⟨q3,bw RJ,xI⟩
     ·rw[hB t (fun j q hq _ he=>hex ⟨j,q,hq,he⟩),EC];intro q hq he;obtain⟨q3,RJ,xI⟩:=bt.1 (dL.1 hq);obtain⟨j,hj,hqj⟩:=dh.1 (bw RJ);refine hex ⟨j,q3,by rw[<-hqj];exact aa hj,?_⟩;unfold Cp.sl at xI;cases hpt:q3.t with
      |none=>rw[hpt]at xI;cases xI
      |some u=>rw[hpt]at xI;simp only[cM,ar]at xI;subst xI;simp only at he;rw[he]
    have hfp:=hfit i p hp;have Ve:∀id ob,p.up=some (id,ob)->∃v,κ id=some v:=by
     intro id ob he;rcases Yh with⟨_,_,h,_⟩|⟨_,_,_,_,T,x,y,id',ds,RF,hx',_,_,_,_,Sn⟩
     ·rw[h]at he;cases he
     ·rw[Sn]at he;cases he;obtain⟨b1,r1,_⟩:=hs.ev x;rw[PV σ' H' st.H x,hx']at r1;obtain⟨g,hk,_⟩:=r1.zi;exact⟨_,hk⟩
    have Vp:∀id ob,p.up=some (id,ob)->∃zs ds,H'[id]?=some (.box zs)/\ob=.box ds/\zs.length=ds.length:=by
     intro id ob he;obtain⟨u1,⟨zs,ds,u2,u3,u4⟩,_⟩:=O1 i p id ob hp he;refine⟨zs,ds,?_,u2,u3⟩;obtain⟨i1,p1,j1,hp1,Fz,hk1⟩:=yK (aF.1 u4).1;have RG:ps[i1]?=some p1:=by
      have:=(aF.1 hp1).1;rw[c8]at hp1;split at hp1
      ·exact hp1
      ·cases hp1
     have hi1:i1<i:=by have:=(aF.1 hp1).1;simp at this;omega
     have et:(ps.take i).take i1=ps.take i1:=by rw[tE,eX (by omega)]
     rw[et]at hk1;have e1:p1.r+j1=id:=by rw[RI i1 p1 RG];omega
     have zg:p1.obs[j1]?=some (.box zs):=by
      rw[qI hp1,et,hk1,b7 (by omega),dM,au Fz]at u4;exact u4
     have hl1:listed.getD i1 false=true:=by
      cases hl:listed.getD i1 false with
      |true=>rfl
      |false=>
       have h0:=Si i1 p1 RG hl j1 Fz;rw[e1]at h0;obtain⟨v,hv⟩:=Ve id ob he;rw[h0]at hv;cases hv
     have:=Sj i1 p1 RG hl1 j1 _ zg (fun i2 q AH hq hl HK=>by
      rw[e1]at HK;have:=Vq i i2 p q id ob AH hp hq he HK;subst this;rw[A7]at hl;cases hl)
     rw[e1]at this;exact this
    refine Yh.wp hs Up ho (by omega) (fun j hj=>Si i p hp A7 j hj) Vp fun κ' Θ' a' w' hs' hsame=>?_
    have om:∀(j:Nat),(listed.setIfInBounds i true).getD j false=true↔(j=i\/listed.getD j false=true):=by
     intro j;by_cases e:i=j
     ·subst e;have:i<listed.size:=by rw[hsz];omega
      simp[this]
     ·rw[getD_set_ne false e];constructor
      ·exact .inr
      ·rintro(rfl|h)
       ·exact absurd rfl e
       ·exact h
    have hput:(p.AB H').length=H'.length:=by
     unfold Cp.AB;split
     ·simp
     ·exact u7 (by omega)
    have a1R:∀(k:Nat),k<st.H.length->(p.AB H')[k]?=H'[k]?:=by
     intro k hk;unfold Cp.AB;split
     ·rename_i id ob he;have:=(O1 i p id ob hp he).1;rw[bu (by omega)]
     ·rw[tv (by omega),bK (by rw[RI i p hp];omega)]
    refine ih (listed.setIfInBounds i true) (p.slot σ') (p.AB H') κ' Θ' a' w' (inv.set hi hin) ?_ ?_ ?_ (by rw[hput];exact hHl) ?_ ?_ ?_ ?_ hs'
    ·have Tv:((List.range n).filter fun j=> !(listed.setIfInBounds i true).getD j false)=((List.range n).filter fun j=> !listed.getD j false).erase i:=by
      have hnd:((List.range n).filter fun j=> !listed.getD j false).Nodup:=wm _ AK;rw[hnd.erase_eq_filter,v7];apply vW;intro j _;by_cases e:j=i
      ·subst e;have:=(om j).2 (.inl rfl);rw[this];simp
      ·rw[getD_set_ne false (rC e)];simp[e]
     rw[Tv,pq (fN.2 ⟨bS.2 hin,by simp[A7]⟩),nW];rfl
    ·intro j q t hq KV hl;unfold Cp.slot;rcases(om j).1 hl with rfl|Bp
     ·rw[hp]at hq;cases hq;rw[KV];simp[lk]
     ·cases hpt:p.t with
      |none=>exact hA j q t hq KV Bp
      |some u=>
       simp only[lk];rw[b8,hA j q t hq KV Bp];intro e;have:=hdist j i q p t hq hp KV (by rw[hpt,e]);subst this;rw[A7]at Bp;cases Bp
    ·intro t ht;unfold Cp.slot;have um:=hB t (fun j q hq hl=>ht j q hq ((om j).2 (.inr hl)));cases hpt:p.t with
     |none=>exact um
     |some u=>
      simp only[lk];rw[b8 (fun e=>ht i p hp ((om i).2 (.inl rfl)) (by rw[hpt,e]))];exact um
    ·intro j y hj;rw[a1R j (aF.1 hj).1];exact Up j y hj
    ·intro j q hq hl k y hy hno;have hkl:=(aF.1 hy).1;unfold Cp.AB;split
     ·rename_i id ob he;have hne:q.r+k≠id:=fun e=>hno i p ob hp ((om i).2 (.inl rfl)) (by rw[e];exact he)
      rw[bu (rC hne)];rcases(om j).1 hl with rfl|Bp
      ·rw[hp]at hq;cases hq;rw[Vr j p id ob hp he]at hy;simp at hy
      ·exact Sj j q hq Bp k y hy (fun i2 q2 AH HX hl3=>hno i2 q2 AH HX ((om i2).2 (.inr hl3)))
     ·rw[tv (by omega)];rcases(om j).1 hl with rfl|Bp
      ·rw[hp]at hq;cases hq;rw[b8 (by omega),bK (by omega),dM];exact hy
      ·have hne:j≠i:=fun e=>by subst e;rw[A7]at Bp;cases Bp
       have h3:=Sj j q hq Bp k y hy (fun i2 q2 AH HX hl3=>hno i2 q2 AH HX ((om i2).2 (.inr hl3)));rcases v8 hne with h|h
       ·have:=Nw j i q p hq hp h;rw[bK (by omega)];exact h3
       ·have:=Nw i j p q hp hq h;rw[b8 (by omega),b8 (by omega)];exact h3
    ·intro j q id ob hq hl he;rcases(om j).1 hl with rfl|Bp
     ·rw[hp]at hq;cases hq;obtain⟨zs,ds,z1,_⟩:=Vp id ob he;have hlt:=(aF.1 z1).1;refine⟨by simp only[Cp.AB,he];rw[dF hlt],?_⟩;obtain⟨v,hv⟩:=Ve id ob he;refine⟨v,?_⟩;rw[hsame id (by rw[Vr j p id ob hp he];simp;omega)];exact hv
     ·obtain⟨h1,v,hv⟩:=Y2 j q id ob hq Bp he;have hout:id<p.r\/p.r+p.obs.length<=id:=by
       rcases dY id p.r with h|h
       ·exact .inl h
       ·rcases dY id (p.r+p.obs.length)with h2|h2
        ·have:=Si i p hp A7 (id-p.r) (by omega);rw[show p.r+(id-p.r)=id from by omega,hv]at this;cases this
        ·exact .inr h2
      refine⟨?_,v,by rw[hsame id hout];exact hv⟩;unfold Cp.AB;split
      ·rename_i id2 AH HK;have hne:id2≠id:=fun e=>by
        subst e;have:=Vq i j p q id2 AH ob hp hq HK he;subst this;rw[A7]at Bp;cases Bp
       rw[bu hne];exact h1
      ·rw[tv (by omega)];rcases hout with h|h
       ·rw[bK h];exact h1
       ·rw[b8 (by omega),b8 (by omega)];exact h1
    ·intro j q hq hl k hk;have hne:j≠i:=fun e=>by
      subst e;have:=(om j).2 (.inl rfl);rw[this]at hl;cases hl
     have Bp:listed.getD j false=false:=by
      cases h:listed.getD j false with
      |false=>rfl
      |true=>have:=(om j).2 (.inr h);rw[this]at hl;cases hl
     have h3:=Si j q hq Bp k hk;rw[hsame,h3];rcases v8 hne with h|h
     ·have:=Nw j i q p hq hp h;omega
     ·have:=Nw i j p q hp hq h;omega
 have a29:HeadInv .any l.toArray n (Array.replicate l.toArray.size false):=
  ⟨by simp,fun j oj _ hl=>(by rw[getD_replicate_false]at hl;cases hl),fun t _ ht=>getD_in (by simpa using ht) (getD_replicate_false _ _)⟩
 have nW:((List.range n).filter fun i=> !(Array.replicate l.toArray.size false).getD i false).length=n:=by
  rw[List.filter_eq_self.2]
  ·simp
  ·intro i _;rw[getD_replicate_false];rfl
 have:=main n (Array.replicate l.toArray.size false) st.σ (st.H++List.replicate (ps.flatMap Cp.obs).length .gone) κ Θ a w a29 nW (fun i p t _ _ hl=>by rw[getD_replicate_false]at hl;cases hl) (fun t _=>rfl)
  (by simp) (fun i o h=>by rw[au (aF.1 h).1];exact h) (fun i p _ hl=>by rw[getD_replicate_false]at hl;cases hl)
  (fun i q id ob _ hl=>by rw[getD_replicate_false]at hl;cases hl)
  (fun i p hp _ j _=>hs.pX _ (by rw[RI i p hp];omega)) (hs.room _)
 rw[show n+(l.toArray.size-n)=l.toArray.size from by omega]at this;exact this
def KA(X:aX)(st:St)(op:Op)(A:eO):Bool:=match op with
 | .buildSlice _ _ _=>true
 | .build _ _=>true
 | .extract _ _=>true
 | .field _ _ _=>true
 | .move _=>true
 | .indexAddr _ x _=>(Ln st (st.ev x)).isNone
 | .load _ x=>(OD st (st.ev x)).isNone&&(match st.ev x,A with| .op id _ _ _,.tk _::_=>X.contains id|_,_=>true)
 | .store _ x _=>(match st.ev x with| .ptr id _=>X.contains id|_=>false)
 | .call c=>(match c.callee,A with
  | .builtin .append,_=>true
  | .value (.func _),.d _::_=>true
  | .value (.func _),.gp _ _ _::_=>(match c.args.toList with|x::_=>(match st.ev x with| .ptr id _=>X.contains id|_=>false)| []=>false)
  |_,_=>false)
 |_=>false
def Pb(X:aX)(H H':bO):Bool:=(List.range H.length).all fun i=>X.contains i||(match H[i]? with|some .gone=>true|_=>(match H'[i]? with|some .gone=>false|_=>true))
def Lx(P:Program)(nt:Nat)(X:aX):List Oper->St->eO->Option (St×eO×C1)
 | [],st,A=>some (st,A,[])
 |o::rest,st,A=>match o.guard,KA X st o.op A with
  |none,true=>(match G8 P nt o st A with
   |some (xO,A1,p)=>(match Pb X st.H xO.H,Lx P nt X rest xO A1 with|true,some (ME,A2,q)=>some (ME,A2,p++q)|_,_=>none)
   |none=>none)
  |_,_=>none
theorem Pu{H:bO}{ms:aX}{i:Nat}(h:i∈ms)(hl:i<H.length):(kill H ms)[i]?=some .gone:=by
 induction ms generalizing H with
 |nil=>cases h
 |cons m ms ih=>
  show(kill (H.set m .gone) ms)[i]?=_;by_cases hi:i∈ms
  ·exact ih hi (by simpa using hl)
  ·rw[j7 hi];rcases bI.1 h with rfl|h
   ·rw[dF hl]
   ·exact absurd h hi
theorem Sg{X:aX}{H H':bO}(h:Pb X H H'=true){i:Nat}{o:Ob}(hi:i∉X)(ho:H[i]?=some o)(hg:H'[i]?=some .gone):o=.gone:=by
 have h1:=ay.1 h i (bS.2 (aF.1 ho).1);rw[ho,hg,List.contains_eq_mem,bE hi,nc]at h1;cases o<;>first|rfl|cases h1
theorem Pt{X:aX}{H:bO}{ms:aX}{n:bO}(h:Pb X H (kill H ms++n)=true):yb X H (kill H ms++n):=by
 intro i o hi ho;have hl:=(aF.1 ho).1;have e:(kill H ms++n)[i]?=(kill H ms)[i]?:=au (by rw[gM];exact hl);by_cases hm:i∈ms
 ·have e2:=e.trans (Pu hm hl);rw[e2,Sg h hi ho e2]
 ·rw[e,j7 hm,ho]
theorem U3{X:aX}{H:bO}{ms:aX}{n:bO}{id:Nat}{b:Ob}(hid:id∈X)(h:Pb X H ((kill H ms).set id b++n)=true):yb X H ((kill H ms).set id b++n):=by
 intro i o hi ho;have hne:id≠i:=fun e=>hi (e▸hid)
 have hl:=(aF.1 ho).1;have e:((kill H ms).set id b++n)[i]?=(kill H ms)[i]?:=by
  rw[au (by rw[oo,gM];exact hl),bu hne]
 by_cases hm:i∈ms
 ·have e2:=e.trans (Pu hm hl);rw[e2,Sg h hi ho e2]
 ·rw[e,j7 hm,ho]
theorem XZ{X:aX}{nt:Nat}{o:Oper}{A A1:eO}{xO:St}{p:C1}(hk:KA X st o.op A=true)(hgn:Pb X st.H xO.H=true)(h:G8 P nt o st A=some (xO,A1,p)):((∃t d,o.dst=some t/\t<nt/\xO.σ=(t,d)::st.σ)\/(o.dst=none/\xO.σ=st.σ))/\yb X st.H xO.H:=by
 have plain:∀ {t:Nat},o.dst=some t->(if t<nt then match Fl P st o.op A with|some (d,A,ow)=>some ((⟨(t,d)::st.σ,st.H⟩:St),A,ow)|none=>none else none)=some (xO,A1,p)->((∃t d,o.dst=some t/\t<nt/\xO.σ=(t,d)::st.σ)\/(o.dst=none/\xO.σ=st.σ))/\yb X st.H xO.H:=by
  intro t hd h;split at h
  ·rename_i ht;split at h
   ·cases h;exact⟨.inl ⟨t,_,hd,ht,rfl⟩,yb.refl _⟩
   ·cases h
  ·cases h
 unfold G8 at h;split at h
 case h_3=>
  rename_i T x y hop hd;rw[hop]at hk;simp only[KA]at hk;split at h
  ·rename_i id off ds h1 h2;rw[h1]at hk;split at h
   ·split at h
    ·split at h
     ·cases h;refine⟨.inr ⟨hd,rfl⟩,fun i cs hi hcs=>?_⟩;have hne:id≠i:=fun e=>hi (by subst e;simpa using hk)
      show(st.H.set id _)[i]?=_;rw[bu hne,hcs]
     ·cases h
    ·cases h
   ·cases h
  ·rename_i id i sz off ds h1 h2;rw[h1]at hk;cases hk
  ·cases h
 case h_7=>
  rename_i T len parts t hop hd;split at h
  ·split at h
   ·split at h
    ·split at h
     ·rename_i es ms hab;split at h
      ·rename_i hc;cases h;exact⟨.inl ⟨t,_,hd,hc.1,rfl⟩,Pt hgn⟩
      ·cases h
     ·cases h
    ·cases h
   ·cases h
  ·cases h
 case h_8=>
  rename_i c t hop hd;rw[hop]at hk;simp only[KA]at hk;split at h
  ·split at h
   ·split at h
    ·rename_i rows u1 k1 fI u2 k2 A' ow _ hS hX;split at h
     ·rename_i hc;cases h;exact⟨.inl ⟨t,_,hd,hc.1,rfl⟩,Pt hgn⟩
     ·cases h
    ·cases h
   ·cases h
  ·rename_i a1K _ _;rw[a1K]at hk;cases hk
  ·rename_i f a1K;rw[a1K]at hk;split at hk
   ·rename_i hb;cases hb
   ·rename_i f' d A' hb;split at h
    ·rename_i hA;cases hA
    ·rename_i hA;cases hA
    ·rename_i hA;cases hA
    ·rename_i hA;cases hA
    ·rename_i hA;cases hA
    ·rename_i hA;cases hA
    ·rename_i ds ms d' A'' hv hA;split at h
     ·rename_i hc;cases h;exact⟨.inl ⟨t,_,hd,hc.1,rfl⟩,(yb.refl _).app _⟩
     ·cases h
    ·rename_i hA;cases hA
    ·cases h
   ·rename_i f' nz cells' d A' hb;generalize HU st.H (List.map st.ev c.args.toList)=q at h;rcases q with _|⟨qa,qb⟩
    all_goals
     dsimp only at h;split at h
     ·rename_i x0 xr h5;rw[h5]at hk;split at h
      ·rename_i id h6;simp only[h6]at hk;split at h
       ·rename_i ob h7;split at h
        ·rename_i JN h8;split at h
         ·rename_i cells ds ms qs h9;split at h
          ·rename_i hc;cases h;exact⟨.inl ⟨t,_,hd,hc.1,rfl⟩,U3 (by simpa using hk) hgn⟩
          ·cases h
         ·cases h
        ·cases h
       ·cases h
      ·cases h
     ·cases h
   ·cases hk
  ·exact plain hd h
 case h_13=>
  rename_i T x i t hop hd;rw[hop]at hk;simp only[KA]at hk;split at h
  ·rename_i hl;rw[hl]at hk;cases hk
  ·exact plain hd h
 case h_14=>
  rename_i T x t hop hd;rw[hop]at hk;simp only[KA]at hk;split at h
  ·rename_i hl;rw[hl]at hk;cases hk
  ·rw[aW]at hk
   replace hk:=hk.2
   split at h
   ·rename_i r A' id i sz h1;split at h
    ·rename_i n e sz' rows h2;split at h
     ·rename_i hc;cases h;refine⟨.inl ⟨t,_,hd,hc.1,rfl⟩,yb.app (fun j cs hj hcs=>?_) _⟩;have hne:id≠j:=fun e=>hj (by subst e;rw[h1]at hk;simpa using hk)
      rw[bu hne];exact hcs
     ·cases h
    ·cases h
   ·exact plain hd h
 all_goals first
  | (rename_i hop _;rw[hop]at hk;simp[KA]at hk;done)
  | (rename_i hop;rw[hop]at hk;simp[KA]at hk;done)
  |skip
 all_goals first
  |exact plain (by assumption) h
  |cases h
theorem Step.of{nt:Nat}(hnt:Γ.nt=nt){o:Oper}{A A1:eO}{xO:St}{p:C1}(hg:o.guard=none)(hsel:∀cs b,o.op≠ .select cs b)(h:G8 P nt o st A=some (xO,A1,p))(hp:xV p):Step P Γ o st xO:=by
 intro κ Θ a w hs;have h1:=Ng (P:=P) (Γ:=Γ) (all:= #[]) (rest:=[]) (Q:=fun e s=>e=.normal/\s=xO) hnt hg h hp (a0x ⟨rfl,rfl⟩) κ Θ a w hs;have hw:Region.wanted o (yielded #[] a.tmps)=true:=by simp[Region.wanted,hg]
 simp only[wpList,hw,qM]at h1;rcases h1 with h1|⟨_,a0,w0,ur,κ',Θ',_,hq,_⟩
 ·refine Qa hsel (fun _ _=>rfl) ?_ ?_ ?_ h1
  ·rintro v w' ⟨ur,κ',Θ',hs',_,rfl⟩;exact⟨κ',Θ',hs'⟩
  ·rintro d w' ⟨ur,κ',Θ',hs',_,rfl⟩;have:=hs'.defers;cases hod:o.dst<;>rw[hod]at this<;>cases this
  ·rintro e c w' ⟨ur,κ',Θ',hs',rfl,_⟩;rfl
 ·cases hq
theorem OH{X:aX}{nt:Nat}(hnt:Γ.nt=nt){K:St->Prop}{ME:St}{A2:eO}:∀ {ops:List Oper} {st:St} {A:eO} {p:C1},Lx P nt X ops st A=some (ME,A2,p)->xV p->K ME->Ut P Γ X K ops st:=by
 intro ops
 induction ops with
 |nil=>intro st A p h hp hK;simp only[Lx,ar,cJ]at h;obtain⟨rfl,_,_⟩:=h;exact hK
 |cons o os ih=>
  intro st A p h hp hK;simp only[Lx]at h;split at h
  ·rename_i hg hok;split at h
   ·rename_i xO A1 p1 h1;split at h
    ·rename_i Zd A2' q hgn h2;cases h;obtain⟨hp1,hq⟩:=hp.app;obtain⟨hd,hX⟩:=XZ hok hgn h1;have hsel:∀cs b,o.op≠ .select cs b:=by
      intro cs b e;rw[e]at hok;cases hok
     exact⟨xO,hd.imp (fun⟨t,d,hd,ht,hσ⟩=>⟨t,d,hd,by rw[hnt];exact ht,hσ⟩) id,hX,hg,hsel,Step.of hnt hg hsel h1 hp1,ih h2 hq hK⟩
    ·cases h
   ·cases h
  ·cases h
def Xb(X:aX)(st:St)(ops:List Oper)(L:aX):Bool:=L.all fun i=>match ops[i]? with|some o=>Bv X st o.op|none=>false
theorem UR{X:aX}{st:St}{ops:List Oper}{L:aX}(h:Xb X st ops L=true):∀i∈L,∀o,ops[i]?=some o->Bv X st o.op=true:=by
 intro i hi o ho;have:=ay.1 h i hi;rw[ho]at this;exact this
def B5(ρ:aX)(o:Oper):Oper:= {o with after:=o.after.map fun e=> {e with on:=ρ.getD e.on 0},guard:=o.guard.map fun g=>(ρ.getD g.1 0,g.2)}
def uy(ops:Array Oper)(π ρ:aX):List Oper:=π.filterMap fun i=>(ops[i]?).map (B5 ρ)
def KE(ops:Array Oper)(π ρ:aX):Bool:=
 decide (π.length=ops.size)&&(decide (ρ.length=ops.size)&&
 (((List.range ops.size).all fun i=>(match ρ[i]? with|some k=>π[k]?==some i|none=>false))&&
 (((List.range ops.size).all fun k=>(match π[k]? with|some i=>ρ[i]?==some k|none=>false))&&
 (ops.toList.all fun o=>(o.after.all fun e=>decide (e.on<ops.size))&&(match o.guard with|some g=>decide (g.1<ops.size)|none=>true)))))
theorem LM(ρ:aX)(o:Oper)(f:Operand->Value):execOp f (B5 ρ o)=execOp f o:=by
 cases o;rfl
theorem Xt(ρ:aX){o:Oper}{K:Act->World->Prop}{Q:Exit->Act->World->Prop}(h:(B5 ρ o).wp P a w K Q):o.wp P a w K Q:=by
 unfold Oper.wp at*;rw[LM]at h;exact h
theorem Qr(ρ:aX){o:Oper}(h:(B5 ρ o).asks P a w):o.asks P a w:=by
 unfold Oper.asks at*;rw[LM]at h;exact h
section
variable{ops:Array Oper}{π ρ:aX}
theorem M9(hB:KE ops π ρ=true){k i:Nat}{o:Oper}(hk:π[k]?=some i)(ho:ops[i]?=some o):(uy ops π ρ).toArray[k]?=some (B5 ρ o):=by
 simp only[KE,aW,bC]at hB;obtain⟨h1,h2,h3,h4,h5⟩:=hB;have hall:∀x∈π,∃o,ops[x]?=some o:=by
  intro x hx;obtain⟨j,hj,rfl⟩:=dh.1 hx;have:=ay.1 h4 j (bS.2 (by omega));rw[aa hj]at this;simp only[cO]at this;have:=(aF.1 this).1;exact⟨_,cG (by omega)⟩
 have key:∀(l:aX) (k:Nat),(∀x∈l,∃o,ops[x]?=some o)->l[k]?=some i->(l.filterMap fun i=>(ops[i]?).map (B5 ρ))[k]?=some (B5 ρ o):=by
  intro l
  induction l with
  |nil=>intro k _ h;simp at h
  |cons x l ih=>
   intro k hl h;obtain⟨ox,Y5⟩:=hl x (by simp);rw[xe];simp only[Y5,cM];cases k with
   |zero=>simp at h;subst h;rw[ho]at Y5;cases Y5;rfl
   |succ k=>simpa using ih k (fun y hy=>hl y (by simp[hy])) (by simpa using h)
 have:=key π k hall hk;simpa[uy]using this
theorem QC(hB:KE ops π ρ=true):(uy ops π ρ).toArray.size=ops.size:=by
 have hB':=hB;simp only[KE,aW,bC]at hB;obtain⟨h1,h2,h3,h4,h5⟩:=hB;have hall:∀x∈π,∃o,ops[x]?=some o:=by
  intro x hx;obtain⟨j,hj,rfl⟩:=dh.1 hx;have:=ay.1 h4 j (bS.2 (by omega));rw[aa hj]at this;simp only[cO]at this;have:=(aF.1 this).1;exact⟨_,cG (by omega)⟩
 have key:∀(l:aX),(∀x∈l,∃o,ops[x]?=some o)->(l.filterMap fun i=>(ops[i]?).map (B5 ρ)).length=l.length:=by
  intro l
  induction l with
  |nil=>intro _;rfl
  |cons x l ih=>
   intro hl;obtain⟨ox,Y5⟩:=hl x (by simp);rw[xe];simp only[Y5,cM,aY,ih (fun y hy=>hl y (by simp[hy]))]
 rw[zZ,uy,key π hall,h1]
theorem Wt{Q':Exit->Act->World->Prop}(hB:KE ops π ρ=true):∀(fuel:Nat) (listed listed':Array Bool) (a:Act) (w:World),listed.size=ops.size->listed'.size=ops.size->(∀(k i:Nat),π[k]?=some i->listed'.getD k false=listed.getD i false)->
 wpAny P .any (uy ops π ρ).toArray Q' fuel listed' a w->wpAny P .any ops Q' fuel listed a w:=by
 have hB':=hB;simp only[KE,aW,bC]at hB';obtain⟨h1,h2,h3,h4,h5⟩:=hB';have to:∀i,i<ops.size->∃k,ρ[i]?=some k/\π[k]?=some i/\k<ops.size:=by
  intro i hi;have:=ay.1 h3 i (bS.2 hi);split at this
  ·rename_i k hk;simp only[cO]at this;exact⟨k,hk,this,by have:=(aF.1 this).1;omega⟩
  ·cases this
 have back:∀k,k<ops.size->∃i,π[k]?=some i/\ρ[i]?=some k/\i<ops.size:=by
  intro k hk;have:=ay.1 h4 k (bS.2 hk);split at this
  ·rename_i i hi;simp only[cO]at this;exact⟨i,hi,this,by have:=(aF.1 this).1;omega⟩
  ·cases this
 have rin:∀(i:Nat) o,ops[i]?=some o->(∀e∈o.after,e.on<ops.size)/\∀g,o.guard=some g->g.1<ops.size:=by
  intro i o ho;have hm:o∈ops.toList:=by rw[<-sV]at ho;exact aD ho
  have:=ay.1 h5 o hm;simp only[aW]at this;refine⟨fun e he=>by simpa using uz.1 this.1 e he,fun g hg=>?_⟩;have:=this.2;rw[hg]at this;simpa using this
 have rd:∀(listed listed':Array Bool),listed.size=ops.size->listed'.size=ops.size->(∀(k i:Nat),π[k]?=some i->listed'.getD k false=listed.getD i false)->∀(k i:Nat),π[k]?=some i->(i∈Region.ready .any ops listed↔k∈Region.ready .any (uy ops π ρ).toArray listed'):=by
  intro listed listed' hs1 hs2 Qg k i hki;have hk:k<ops.size:=by have:=(aF.1 hki).1;omega
  obtain⟨i',hi',hr,hilt⟩:=back k hk;rw[hki]at hi';cases hi';have ho:ops[i]?=some ops[i]:=cG hilt;have ho':=M9 hB hki ho;have hon:∀e∈ops[i].after,listed'.getD (ρ.getD e.on 0) false=listed.getD e.on false:=by
   intro e he;obtain⟨k2,hk2,hk3,_⟩:=to e.on ((rin i _ ho).1 e he);rw[k9,hk2,wS];exact Qg k2 e.on hk3
  rw[mem_ready,mem_ready];constructor
  ·rintro⟨q1,o,q2,q3⟩;rw[ho]at q2;cases q2;refine⟨getD_in (by omega) (by rw[Qg k i hki];exact getD_both q1),_,ho',?_⟩;intro e he hb;simp only[B5,Array.mem_map]at he;obtain⟨e0,he0,rfl⟩:=he;simp only;rw[hon e0 he0];exact q3 e0 he0 hb
  ·rintro⟨q1,o,q2,q3⟩;rw[ho']at q2;cases q2;refine⟨getD_in (by omega) (by rw[<-Qg k i hki];exact getD_both q1),_,ho,?_⟩;intro e he hb;rw[<-hon e he];exact q3 {e with on:=ρ.getD e.on 0} (by simp only[B5,Array.mem_map];exact⟨e,he,rfl⟩) hb
 have lt:∀ {listed:Array Bool} {ops:Array Oper} {i:Nat},i∈Region.ready .any ops listed->i<ops.size:=by
  intro listed ops i hi;obtain⟨_,o,ho,_⟩:=mem_ready.1 hi;exact(bG.1 ho).1
 have a0F:∀(listed listed':Array Bool),listed.size=ops.size->listed'.size=ops.size->(∀(k i:Nat),π[k]?=some i->listed'.getD k false=listed.getD i false)->(Region.ready .any ops listed=[]↔Region.ready .any (uy ops π ρ).toArray listed'=[]):=by
  intro listed listed' hs1 hs2 Qg;constructor
  ·intro h;rw[wQ];intro k hk;obtain⟨i,hi,_⟩:=back k (by have:=lt hk;rw[QC hB]at this;exact this);have:=(rd listed listed' hs1 hs2 Qg k i hi).2 hk;rw[h]at this;cases this
  ·intro h;rw[wQ];intro i hi;obtain⟨k,_,hk,_⟩:=to i (lt hi);have:=(rd listed listed' hs1 hs2 Qg k i hk).1 hi;rw[h]at this;cases this
 intro fuel
 induction fuel with
 |zero=>
  intro listed listed' a w hs1 hs2 Qg h;exact⟨(a0F listed listed' hs1 hs2 Qg).2 h.1,h.2⟩
 |succ fuel ih=>
  intro listed listed' a w hs1 hs2 Qg h;refine⟨fun h0=>h.1 ((a0F listed listed' hs1 hs2 Qg).1 h0),fun i hi=>?_⟩;have hilt:=lt hi;obtain⟨k,hrk,hk,a9U⟩:=to i hilt;have hkr:=(rd listed listed' hs1 hs2 Qg k i hk).1 hi;have ho:ops[i]?=some ops[i]:=cG hilt;have ho':=M9 hB hk ho;have h2:=wpOp_mono (K':=wpAny P .any ops Q' fuel (listed.setIfInBounds i true)) (fun a' w' h'=>ih (listed.setIfInBounds i true) (listed'.setIfInBounds k true) a' w' (by simpa using hs1) (by simpa using hs2) (by
   intro k2 i2 Vd;by_cases e:k=k2
   ·subst e;rw[hk]at Vd;cases Vd;have g1:k<listed'.size:=by omega
    have g2:i<listed.size:=by omega
    simp[g1,g2]
   ·have e2:i≠i2:=by
     intro e3;subst e3;obtain⟨i',hi',hr',_⟩:=back k2 (by have:=(aF.1 Vd).1;omega);rw[Vd]at hi';cases hi';rw[hrk]at hr';cases hr';exact e rfl
    rw[getD_set_ne false e,getD_set_ne false e2];exact Qg k2 i2 Vd) h') (h.2 k hkr)
  have hw:Region.wanted (B5 ρ ops[i]) (yielded (uy ops π ρ).toArray a.tmps)=Region.wanted ops[i] (yielded ops a.tmps):=by
   cases hg:ops[i].guard with
   |none=>simp[Region.wanted,B5,hg]
   |some g=>
    obtain⟨j,want⟩:=g;have hj:=(rin i _ ho).2 _ hg;obtain⟨k3,a7G,hk3,_⟩:=to j hj;have xH:ops[j]?=some ops[j]:=cG hj;have a7A:=M9 hB hk3 xH;have:yielded (uy ops π ρ).toArray a.tmps (ρ.getD j 0)=yielded ops a.tmps j:=by
     rw[k9,a7G,wS];unfold yielded;rw[a7A,xH];rfl
    simp only[Region.wanted,B5,hg,cM];rw[this]
  unfold wpOp at h2⊢;simp only[ho',ho]at h2⊢;rw[hw]at h2;split
  ·rename_i Vu;rw[bK Vu]at h2;exact h2.imp (Xt ρ) fun⟨q1,q2⟩=>⟨Qr ρ q1,q2⟩
  ·rename_i Vu;rw[b8 Vu]at h2;exact h2
theorem Mj.perm(hB:KE ops π ρ=true)(h:Mj P Γ (uy ops π ρ).toArray Q st):Mj P Γ ops Q st:=by
 intro κ Θ a w hs;have:=h κ Θ a w hs;rw[QC hB]at this;refine Wt hB ops.size (Array.replicate ops.size false) (Array.replicate ops.size false) a w (by simp) (by simp) (fun k i _=>?_) this;rw[getD_replicate_false,getD_replicate_false]
end
end
end Go.Cx
namespace Go.Cx
open Go.RowKit
def xZ(P:Program)(nt:Nat)(all:Array Oper):List Oper->St->eO->Option (St×eO×C1)
 | [],st,A=>(match shares A st with| (xO,A1)=>some (xO,A1,[]))
 |o::rest,st,A=>match o.guard with
  |none=>(match G8 P nt o st A with
   |some (xO,A1,p)=>(match xZ P nt all rest xO A1 with|some (ME,A2,q)=>some (ME,A2,p++q)|none=>none)
   |none=>none)
  |some (j,want)=>(match(all[j]?).bind (·.dst),A with
   |some s,.b v::A=>(match lk st.σ s with
    | .bool b=>(match v==want with
     |true=>(match G8 P nt {o with guard:=none} st A with
      |some (xO,A1,p)=>(match xZ P nt all rest xO A1 with|some (ME,A2,q)=>some (ME,A2,(b=v)::(p++q))|none=>none)
      |none=>none)
     |false=>(match o.dst with
      |some t=>(if t<nt then match xZ P nt all rest ⟨(t,.hY [])::st.σ,st.H⟩ A with|some (ME,A2,q)=>some (ME,A2,(b=v)::q)|none=>none else none)
      |none=>(match xZ P nt all rest st A with|some (ME,A2,q)=>some (ME,A2,(b=v)::q)|none=>none)))
    | .hY []=>(match o.dst with
     |some t=>(if t<nt then xZ P nt all rest ⟨(t,.hY [])::st.σ,st.H⟩ A else none)
     |none=>xZ P nt all rest st A)
    |_=>none)
   |_,_=>none)
def SR(P:Program)(H:bO)(r:Nat)(σ:List (Nat×D))(o:Oper)(A:eO):Option (D×bO×eO×C1):=match o.op with
 | .call c=>(match c.callee with
  | .value (.func f)=>(match HU H (c.args.toList.map (St.ev ⟨σ,H⟩)),A with
   |some (ds,ms),.d d::A=>(if ms=[]\/d.M5=true then some ((pW r d).1,(pW r d).2,A,[Good P f ds d])else none)
   |some (ds,ms),.ds d::A=>(if d.a2K=true/\d.M5=true then some (d.ZZ,[],A,[Good P f ds d])else none)
   |_,.nl d::A=>(if(c.args.toList.map (St.ev ⟨σ,H⟩)).all K8=true then some ((pW r d).1,(pW r d).2,A,[Good P f (c.args.toList.map (St.ev ⟨σ,H⟩)) d])else none)
   |_,_=>none)
  |_=>(match Fl P ⟨σ,H⟩ o.op A with|some (d,A,ow)=>some (d,[],A,ow)|none=>none))
 | .alloc T=>(match tz P T with|some zs=>some (.ptr r 0,[.box zs],A,[])|none=>none)
 | .box _ x=>(match(St.ev ⟨σ,H⟩ x).cellsOf with|some ds=>some (.ptr r 0,[.box ds],A,[])|none=>none)
 | .buildSlice T len parts=>(match Ec P T with
  |some (e,sz)=>(match tz P e with
   |some zs=>(match xL (sU len sz) (List.replicate len zs).flatten (parts.toList.map fun q=>(q.1,St.ev ⟨σ,H⟩ q.2))with
    |some ds=>(match A with
     | .vw _::A=>(if 0<sz/\len*sz<=16777216/\ds.all D.Ow=true/\ds.all D.flat=true then some (.sl (chunk sz len ds),[],A,[])else none)
     |A=>(match JL H ds with
      |some (es,ms)=>(if 0<sz/\len*sz<=16777216/\ms=[]then some (.acc r,[.row (yO (ds.all (TL H))) e sz (chunk sz len es)],A,[])else none)
      |none=>none))
    |none=>none)
   |none=>none)
  |none=>none)
 |_=>(match Fl P ⟨σ,H⟩ o.op A with|some (d,A,ow)=>some (d,[],A,ow)|none=>none)
def wi(P:Program)(nt:Nat)(all:Array Oper)(H:bO):List Oper->List (Nat×D)->bO->aX->eO->Option (List (Nat×D)×bO×eO×C1)
 | [],σ,acc,_,A=>some (σ,acc,A,[])
 |o::rest,σ,acc,U,A=>match o.dst with
  |none=>(match o.op,o.guard with
   | .store T x y,none=>(match St.ev ⟨σ,H⟩ x,(St.ev ⟨σ,H⟩ y).cellsOf with
    | .ptr id off,some ds=>(match acc[id-H.length]? with
     |some (.box zs)=>(if off=0/\H.length<=id/\id∉U/\Og P T=true/\ds.length=yX P T/\zs.length=ds.length then wi P nt all H rest σ (acc.set (id-H.length) (.box ds)) (id::U) A else none)
     |_=>none)
    |_,_=>none)
   |_,_=>none)
  |some t=>(if t<nt then match o.guard with
   |none=>(match SR P H (H.length+acc.length) σ o A with
    |some (d,obs,A1,p)=>(match wi P nt all H rest ((t,d)::σ) (acc++obs) U A1 with|some (σ2,P7,A2,q)=>some (σ2,P7,A2,p++q)|none=>none)
    |none=>none)
   |some (j,want)=>(match(all[j]?).bind (·.dst),A with
    |some s,.b v::A=>(match lk σ s with
     | .bool b=>(match v==want with
      |true=>(match SR P H (H.length+acc.length) σ o A with
       |some (d,obs,A1,p)=>(match wi P nt all H rest ((t,d)::σ) (acc++obs) U A1 with|some (σ2,P7,A2,q)=>some (σ2,P7,A2,(b=v)::(p++q))|none=>none)
       |none=>none)
      |false=>(match wi P nt all H rest ((t,.hY [])::σ) acc U A with|some (σ2,P7,A2,q)=>some (σ2,P7,A2,(b=v)::q)|none=>none))
     | .hY []=>wi P nt all H rest ((t,.hY [])::σ) acc U A
     |_=>none)
    |_,_=>none)
   else none)
inductive Fr where
 |sq (c:Code)
 |bl (id:Nat)
 |lp
def depth:List Fr->Nat
 | []=>0
 | .lp::K=>depth K+1
 |_::K=>depth K
inductive Cfg where
 |run (c:Code)
 |Wp
 |ex (id:Nat)
inductive Stop where
 |ret (d:D)
 |lp (c:Code) (K:List Fr) (st:St)
 |cont (k:Nat) (st:St)
 |at_ (c:Code) (K:List Fr) (st:St)
def a2O(P:Program)(rs:List ResultVar×List (List (Option (Nat×Nat))))(st:St):Option D:=match G3 P st rs.1 with
 |some ds=>(match B6 st.H rs.2 ds with|some (es,ms,qs)=>(if ms.Nodup/\qs.Nodup then some (KC es)else none)|none=>none)
 |none=>none
def a6x(A:eO)(m:Nat):Option (aX×aX):=match A with
 | .hl m' k o::_=>if m'=m then some (k,o)else none
 |_=>none
def NX(p:C1)(x:Option (Stop×C1)):Option (Stop×C1):=match x with
 |some (s,q)=>some (s,p++q)
 |none=>none
def go(P:Program)(rf:St->Option D)(nt:Nat):Nat->Cfg->List Fr->St->eO->Option (Stop×C1)
 |0,_,_,_,_=>none
 |n+1,.run c,K,st,A=>(match c with
  | .skip=>go P rf nt n .Wp K st A
  | .ret=>(match rf st with|some d=>some (.ret d,[])|none=>none)
  | .exit id=>go P rf nt n (.ex id) K st A
  | .seq x y=>go P rf nt n (.run x) (.sq y::K) st A
  | .block id x=>go P rf nt n (.run x) (.bl id::K) st A
  | .loop x=>(match A with
   | .cn k o::_=>(if o.Nodup then some (.lp x K (st.C4 k o),[])else none)
   | .pb id off e sz::A=>(match st.prom id off e sz with|some xO=>(match shares A xO with| (ME,A2)=>go P rf nt n (.run (.loop x)) K ME A2)|none=>none)
   |_=>none)
  | .cond x y z=>(match st.ev x,A with
   | .bool b,.b v::A=>NX [b=v] (go P rf nt n (.run (match v with|true=>y|false=>z)) K st A)
   |_,_=>none)
  | .region _ ops dr=>(match dr with
   |false=>(match xZ P nt ops ops.toList st A with|some (xO,A1,p)=>NX p (go P rf nt n .Wp K xO A1)|none=>none)
   |true=>(match A with
    | .n k::A=>(match VQ ops k with
     |true=>(match wi P nt ops st.H (ops.toList.take k) st.σ [] [] A with
      |some (σ1,acc,A1,p)=>(match xZ P nt ops (ops.toList.drop k) ⟨σ1,st.H++acc⟩ A1 with|some (ME,A2,q)=>NX (p++q) (go P rf nt n .Wp K ME A2)|none=>none)
      |none=>none)
     |false=>none)
    | .n2 π ρ k m L X::A=>(match KE ops π ρ,uy ops π ρ with
     |true,ops'=>(match LK ops'.toArray k m L with
      |true=>(match wi P nt ops'.toArray st.H (ops'.take k) st.σ [] [] A with
       |some (σ1,acc,A1,p)=>(match Xb X ⟨σ1,st.H⟩ ops' L,Lx P nt X ((ops'.drop k).take (m-k)) ⟨σ1,st.H++acc⟩ A1 with
        |true,some (xO,A2,p2)=>(match xZ P nt ops'.toArray (ops'.drop m) xO A2 with|some (ME,A3,q)=>NX (p++(p2++q)) (go P rf nt n .Wp K ME A3)|none=>none)
        |_,_=>none)
       |none=>none)
      |false=>none)
     |false,_=>none)
    |_=>none))
  |_=>none)
 |n+1,.Wp,K,st,A=>(match K with
  | []=>(match rf st with|some d=>some (.ret d,[])|none=>none)
  | .sq y::K=>(match a6x A K.length with|some (k,o)=>(if o.Nodup then some (.at_ y K (st.C4 k o),[])else none)|none=>go P rf nt n (.run y) K st A)
  | .bl _::K=>go P rf nt n .Wp K st A
  | .lp::K=>(match A with| .cn k o::_=>(if o.Nodup then some (.cont (depth K) (st.C4 k o),[])else none)|_=>none))
 |n+1,.ex id,K,st,A=>(match K with
  | []=>none
  | .sq _::K=>go P rf nt n (.ex id) K st A
  | .bl i::K=>(if id=i then go P rf nt n .Wp K st A else go P rf nt n (.ex id) K st A)
  | .lp::K=>go P rf nt n (.ex id) K st A)
section
variable{P:Program}{Γ:vJ}{Q:Exit->St->Prop}{N:Nat->St->Prop}
def KQ(P:Program)(Γ:vJ)(N:Nat->St->Prop)(Q:Exit->St->Prop):List Fr->Exit->St->Prop
 | []=>Q
 | .sq y::K=>Xh (AW P Γ y (KQ P Γ N Q K)) (KQ P Γ N Q K)
 | .bl id::K=>No id (KQ P Γ N Q K)
 | .lp::K=>Xh (fun st=>∃k o,o.Nodup/\N (depth K) (st.C4 k o)) (KQ P Γ N Q K)
theorem a11:∀(K:List Fr) {st:St},Q .ret st->KQ P Γ N Q K .ret st:=by
 intro K
 induction K with
 |nil=>intro st h;exact h
 |cons f K ih=>intro st h;cases f<;>exact ih h
theorem P0{N':Nat->St->Prop}:∀(K:List Fr),(∀d,d<depth K->N d=N' d)->KQ P Γ N Q K=KQ P Γ N' Q K:=by
 intro K
 induction K with
 |nil=>intro _;rfl
 |cons f K ih=>
  intro h;cases f with
  |sq y=>simp only[KQ];rw[ih h]
  |bl id=>simp only[KQ];rw[ih h]
  |lp=>simp only[KQ];rw[ih (fun d hd=>h d (by simp only[depth];omega)),h (depth K) (by simp only[depth];omega)]
theorem Bs{nt:Nat}(hnt:Γ.nt=nt){all:Array Oper}{ME:St}{A2:eO}:∀ {ops:List Oper} {st:St} {A:eO} {p:C1},xZ P nt all ops st A=some (ME,A2,p)->xV p->Q .normal ME->AO P Γ all ops Q st:=by
 intro ops
 induction ops with
 |nil=>
  intro st A p h _ hq;simp only[xZ]at h;cases hsh:shares A st with
  |mk xO A1=>
   rw[hsh]at h;simp only[ar,cJ]at h;obtain⟨rfl,_,_⟩:=h;exact fun κ Θ a w hs=>wpList_nil ⟨_,_,_,hs.shares hsh,hq⟩
 |cons o rest ih=>
  intro st A p h hp hq;simp only[xZ]at h;split at h
  ·rename_i hg;split at h
   ·rename_i xO A1 p1 h1;split at h
    ·rename_i Zd A2' q h2;cases h;exact Ng hnt hg h1 hp.app.1 (ih h2 hp.app.2 hq)
    ·cases h
   ·cases h
  ·rename_i j want hg;split at h
   ·rename_i s v A1 hj;split at h
    ·rename_i b hb;split at h
     ·rename_i hv;simp only[cO]at hv;subst hv;split at h
      ·rename_i xO A2' p1 h1;split at h
       ·rename_i Zd A3 q h2;cases h;refine Kx (b:=b) hg hj hb ?_ (fun _=>Ng hnt rfl h1 hp.2.app.1 (ih h2 hp.2.app.2 hq)) (fun hne=>absurd hp.1 hne);intro t ht;exact Xa hnt h1 ht
       ·cases h
      ·cases h
     ·rename_i hv;split at h
      ·rename_i t hd;split at h
       ·rename_i ht;split at h
        ·rename_i Zd A3 q h2;cases h;refine Kx (b:=b) hg hj hb (fun t' ht'=>?_) (fun e=>?_) (fun _=>?_)
         ·rw[hd]at ht';cases ht';rw[hnt];exact ht
         ·exfalso;have:=hp.1;simp only[cZ,ne_eq]at hv;exact hv (this.symm.trans e)
         ·rw[hd];exact ih h2 hp.2 hq
        ·cases h
       ·cases h
      ·rename_i hd;split at h
       ·rename_i Zd A3 q h2;cases h;refine Kx (b:=b) hg hj hb (fun t' ht'=>?_) (fun e=>?_) (fun _=>?_)
        ·rw[hd]at ht';cases ht'
        ·exfalso;have:=hp.1;simp only[cZ,ne_eq]at hv;exact hv (this.symm.trans e)
        ·rw[hd];exact ih h2 hp.2 hq
       ·cases h
    ·rename_i hb;split at h
     ·rename_i t hd;split at h
      ·rename_i ht;refine Mi hg hj hb (fun t' ht'=>?_) ?_
       ·rw[hd]at ht';cases ht';rw[hnt];exact ht
       ·rw[hd];exact ih h hp hq
      ·cases h
     ·rename_i hd;refine Mi hg hj hb (fun t' ht'=>?_) ?_
      ·rw[hd]at ht';cases ht'
      ·rw[hd];exact ih h hp hq
    ·cases h
   ·cases h
theorem K1{H:bO}{r:Nat}{σ:List (Nat×D)}{o:Oper}{A A1:eO}{d:D}{obs:bO}{p:C1}(t:Option Nat)(u:Option (Nat×Ob))(h:SR P H r σ o A=some (d,obs,A1,p))(hp:xV p):Hf P H σ o ⟨t,d,r,obs,u⟩:=by
 have plain:∀ {x},(match Fl P ⟨σ,H⟩ x A with|some (d,A,ow)=>some (d,([]:bO),A,ow)|none=>none)=some (d,obs,A1,p)->pv P ⟨σ,H⟩ x=some d/\obs=[]:=by
  intro x h;split at h
  ·rename_i d' A' ow h1;cases h;exact⟨TM h1 hp,rfl⟩
  ·cases h
 unfold SR at h;split at h
 ·rename_i c hop;split at h
  ·rename_i f hc;split at h
   ·rename_i ds ms d' A' h1;split at h
    ·rename_i hsh;cases h;exact .inl (.inr ⟨f,_,_,ds,ms,d',hop.trans (congrArg Op.call (qU c hc rfl rfl)),.inl (by simpa using h1),hsh,hp.1,.inl rfl⟩)
    ·cases h
   ·rename_i ds ms d' A' h1;split at h
    ·rename_i hc2;cases h;exact .inl (.inr ⟨f,_,_,ds,ms,d',hop.trans (congrArg Op.call (qU c hc rfl rfl)),.inl (by simpa using h1),.inr hc2.2,hp.1,.inr ⟨hc2.1,rfl,rfl⟩⟩)
    ·cases h
   ·rename_i d' A';split at h
    ·rename_i hk;cases h;exact .inl (.inr ⟨f,_,_,_,[],d',hop.trans (congrArg Op.call (qU c hc rfl rfl)),.inr ⟨by simpa using hk,by simp,rfl⟩,.inl rfl,hp.1,.inl rfl⟩)
    ·cases h
   ·cases h
  ·exact .inl (.inl (plain h))
 ·rename_i T hop;split at h
  ·rename_i zs hz;cases h;exact .inr (.inl (.inl ⟨T,zs,hop,hz,rfl,rfl⟩))
  ·cases h
 ·rename_i T x hop;split at h
  ·rename_i ds hc;cases h;exact .inr (.inl (.inr ⟨T,x,ds,hop,hc,rfl,rfl⟩))
  ·cases h
 ·rename_i T len parts hop;split at h
  ·rename_i e sz h1;split at h
   ·rename_i zs h2;split at h
    ·rename_i ds h3;split at h
     ·split at h
      ·rename_i hc;obtain⟨c1,c2,c3,c4⟩:=hc;cases h;exact .inr (.inr (.inr ⟨T,e,sz,len,parts,zs,ds,hop,h1,h2,c1,c2,h3,c3,c4,rfl,rfl⟩))
      ·cases h
     ·split at h
      ·rename_i es ms h4;split at h
       ·rename_i hc;obtain⟨c1,c2,rfl⟩:=hc;cases h;exact .inr (.inr (.inl ⟨T,e,sz,len,parts,zs,ds,es,hop,h1,h2,c1,c2,h3,h4,rfl,rfl⟩))
       ·cases h
      ·cases h
    ·cases h
   ·cases h
  ·cases h
 ·exact .inl (.inl (plain h))
theorem Fv{nt:Nat}(hnt:Γ.nt=nt){all:Array Oper}{H:bO}{K:List (Nat×D)->bO->Prop}{σ2:List (Nat×D)}{P7:bO}{A2:eO}:∀ {ops:List Oper} {σ:List (Nat×D)} {acc:bO} {U:aX} {A:eO} {p:C1},
 wi P nt all H ops σ acc U A=some (σ2,P7,A2,p)->xV p->K σ2 P7->Jz P Γ all H K ops σ acc U:=by
 subst hnt;intro ops
 induction ops with
 |nil=>
  intro σ acc U A p h _ hK;simp only[wi,ar,cJ]at h;obtain⟨rfl,rfl,_,_⟩:=h;exact hK
 |cons o rest ih=>
  intro σ acc U A p h hp hK;simp only[wi]at h;split at h
  ·rename_i hd;split at h
   ·rename_i T x y hop hg;split at h
    ·rename_i id off ds h1 h2;split at h
     ·rename_i zs h3;split at h
      ·rename_i hc;obtain⟨rfl,c2,c3,c4,c5,c6⟩:=hc;exact⟨⟨none,.any,H.length+acc.length,[],some (id,.box ds)⟩,rfl,.inr ⟨rfl,rfl,hd,hg,T,x,y,id,ds,hop,h1,c2,h2,c4,c5,rfl⟩,⟨c3,c2,zs,ds,h3,rfl,c6⟩,ih h hp hK⟩
      ·cases h
     ·cases h
    ·cases h
   ·cases h
  ·rename_i t hd;split at h
   ·rename_i ht;split at h
    ·rename_i hg;split at h
     ·rename_i d obs A1 p1 h1;split at h
      ·rename_i σ3 a3K A3 q h2;cases h;exact⟨⟨some t,d,H.length+acc.length,obs,none⟩,rfl,.inl ⟨t,rfl,rfl,hd,ht,.inl ⟨hg,K1 _ _ h1 hp.app.1⟩⟩,trivial,ih h2 hp.app.2 hK⟩
      ·cases h
     ·cases h
    ·rename_i j want hg;split at h
     ·rename_i s v A1 hj;split at h
      ·rename_i b hb;split at h
       ·rename_i hv;simp only[cO]at hv;subst hv;split at h
        ·rename_i d obs A2' p1 h1;split at h
         ·rename_i σ3 a3K A3 q h2;cases h;exact⟨⟨some t,d,H.length+acc.length,obs,none⟩,rfl,.inl ⟨t,rfl,rfl,hd,ht,.inr (.inl ⟨j,s,v,b,hg,hj,hb,.inl ⟨hp.1,K1 _ _ h1 hp.2.app.1⟩⟩)⟩,trivial,ih h2 hp.2.app.2 hK⟩
         ·cases h
        ·cases h
       ·rename_i hv;simp only[cZ,ne_eq]at hv;split at h
        ·rename_i σ3 a3K A3 q h2;cases h;refine⟨⟨some t,.hY [],H.length+acc.length,[],none⟩,rfl,.inl ⟨t,rfl,rfl,hd,ht,.inr (.inl ⟨j,s,want,b,hg,hj,hb,.inr ⟨fun e=>hv (hp.1.symm.trans e),rfl,rfl⟩⟩)⟩,trivial,?_⟩;simp only[Cp.fill,dA];exact ih h2 hp.2 hK
        ·cases h
      ·rename_i hb;refine⟨⟨some t,.hY [],H.length+acc.length,[],none⟩,rfl,.inl ⟨t,rfl,rfl,hd,ht,.inr (.inr ⟨j,s,want,hg,hj,hb,rfl,rfl⟩)⟩,trivial,?_⟩;simp only[Cp.fill,dA];exact ih h hp hK
      ·cases h
     ·cases h
   ·cases h
def VB(P:Program)(Γ:vJ)(N:Nat->St->Prop)(Q:Exit->St->Prop)(d0:D):Stop->Prop
 | .ret d=>d=d0
 | .lp c K st=>AW P Γ (.loop c) (KQ P Γ N Q K) st
 | .cont k st=>N k st
 | .at_ c K st=>AW P Γ c (KQ P Γ N Q K) st
theorem Oy{c:Code}{st:St}{k o:aX}(hnd:o.Nodup)(h:AW P Γ c Q (st.C4 k o)):AW P Γ c Q st:=by
 intro κ Θ a w hs;obtain⟨κ',Θ',hs'⟩:=hs.C4 k o hnd;exact h κ' Θ' a w hs'
theorem a2P{fn:Func}{st:St}{d:D}{e:Exit}(he:e=.ret\/e=.normal){nz:List (List (Option (Nat×Nat)))}(h:a2O P (fn.results.toList,nz) st=some d):Qm P fn d e st:=by
 unfold a2O at h;split at h
 ·rename_i ds h1;split at h
  ·rename_i es ms qs h2;split at h
   ·rename_i hc;cases h;exact⟨he,nz,ds,es,ms,qs,h1,h2,hc.1,hc.2,rfl⟩
   ·cases h
  ·cases h
 ·cases h
def a3I(P:Program)(Γ:vJ)(N:Nat->St->Prop)(Q:Exit->St->Prop)(K:List Fr)(st:St):Cfg->Prop
 | .run c=>AW P Γ c (KQ P Γ N Q K) st
 | .Wp=>KQ P Γ N Q K .normal st
 | .ex id=>KQ P Γ N Q K (.exit id) st
theorem Bx{p q:C1}{x:Option (Stop×C1)}{s:Stop}(h:NX p x=some (s,q)):∃q',x=some (s,q')/\q=p++q':=by
 unfold NX at h;split at h
 ·cases h;exact⟨_,rfl,rfl⟩
 ·cases h
theorem go_sound{rf:St->Option D}{d0:D}(hrf:∀st e,(e=.ret\/e=.normal)->rf st=some d0->Q e st){nt:Nat}(hnt:Γ.nt=nt)(hm:P.follows .mixedOrders=true):∀ {n:Nat} {cfg:Cfg} {K:List Fr} {st:St} {A:eO} {s:Stop} {p:C1},go P rf nt n cfg K st A=some (s,p)->xV p->VB P Γ N Q d0 s->a3I P Γ N Q K st cfg:=by
 intro n
 induction n with
 |zero=>intro cfg K st A s p h;simp[go]at h
 |succ n ih=>
  intro cfg K st A s p h hp hs;cases cfg with
  |run c=>
   show AW P Γ c (KQ P Γ N Q K) st;cases c with
   |skip=>simp only[go]at h;exact YM (ih h hp hs)
   |ret=>
    simp only[go]at h;split at h
    ·rename_i d hd;simp only[ar,cJ]at h;obtain⟨rfl,_⟩:=h;have hd0:d=d0:=hs;subst hd0;exact a0z (a11 K (hrf st _ (.inl rfl) hd))
    ·cases h
   |exit id=>simp only[go]at h;exact YK (ih h hp hs)
   |seq x y=>simp only[go]at h;exact a10 (ih h hp hs)
   |block id x=>simp only[go]at h;exact V6 (ih h hp hs)
   |loop x=>
    simp only[go]at h;split at h
    ·split at h
     ·rename_i hnd;simp only[ar,cJ]at h;obtain⟨rfl,_⟩:=h;exact Oy hnd hs
     ·cases h
    ·split at h
     ·rename_i A0 x0 xO hst;intro κ Θ a w a7L;obtain⟨κ',hs'⟩:=a7L.prom hst;exact(ih h hp hs:AW P Γ (.loop x) (KQ P Γ N Q K) (shares A0 xO).1) κ' Θ a w (hs'.shares (rfl:shares A0 xO=((shares A0 xO).1,(shares A0 xO).2)))
     ·cases h
    ·cases h
   |cond x y z=>
    simp only[go]at h;split at h
    ·rename_i b v A1 hx;obtain⟨q,h1,rfl⟩:=Bx h;obtain⟨hb,hp'⟩:=hp;subst hb;refine YI hx (fun e=>?_) (fun e=>?_)
     ·subst e;exact ih h1 hp' hs
     ·subst e;exact ih h1 hp' hs
    ·cases h
   |region id ops dr=>
    simp only[go]at h;cases dr with
    |false=>
     simp only at h;split at h
     ·rename_i xO A1 p1 h1;obtain⟨q,h2,rfl⟩:=Bx h;have:=Bs (Q:=KQ P Γ N Q K) hnt h1 hp.app.1 (ih h2 hp.app.2 hs);have hr:=TU (id:=id) (l:=ops.toList) (by simpa using this);simpa using hr
     ·cases h
    |true=>
     simp only at h;split at h
     ·rename_i k A1;split at h
      ·rename_i hB;split at h
       ·rename_i σ1 acc A2 p1 h1;split at h
        ·rename_i ME A3 p2 h2;obtain⟨q,h3,rfl⟩:=Bx h;have hq:=hp.app.1.app;have h4:=Bs (Q:=KQ P Γ N Q K) hnt h2 hq.2 (ih h3 hp.app.2 hs);have h5:=Fv (Γ:=Γ) (K:=fun σ acc=>AO P Γ ops (ops.toList.drop k) (KQ P Γ N Q K) ⟨σ,st.H++acc⟩) hnt h1 hq.1 h4;have hr:=YJ (id:=id) (l:=ops.toList) (Q:=KQ P Γ N Q K) (st:=st) k hm (by simpa using hB) (by simpa using h5);simpa using hr
        ·cases h
       ·cases h
      ·cases h
     ·rename_i π ρ k m L X A1;split at h
      ·rename_i ops' hB1;generalize a7B:uy ops π ρ=ops' at h;split at h
       ·rename_i hB;split at h
        ·rename_i σ1 acc A2 p1 h1;split at h
         ·rename_i xO A3 p2 hst hmid;split at h
          ·rename_i ME A4 p3 h2;obtain⟨q,h3,rfl⟩:=Bx h;have hq:=hp.app.1.app;have HX:=hq.2.app;have h4:=Bs (Q:=KQ P Γ N Q K) hnt h2 HX.2 (ih h3 hp.app.2 hs);have h6:=OH (Γ:=Γ) (K:=fun ur=>AO P Γ ops'.toArray (ops'.drop m) (KQ P Γ N Q K) ur) hnt hmid HX.1 h4;have h5:=Fv (Γ:=Γ) (K:=fun σ acc=>(∀i∈L,∀o,ops'[i]?=some o->Bv X ⟨σ,st.H⟩ o.op=true)/\Ut P Γ X (fun ur=>AO P Γ ops'.toArray (ops'.drop m) (KQ P Γ N Q K) ur) ((ops'.drop k).take (m-k)) ⟨σ,st.H++acc⟩) hnt h1 hq.1 ⟨UR hst,h6⟩;have hr:=Td (l:=ops') (Q:=KQ P Γ N Q K) (st:=st) k m L hB h5;rw[<-a7B]at hr;exact(hr.perm hB1).aw hm
          ·cases h
         ·cases h
        ·cases h
       ·cases h
      ·cases h
     ·cases h
   |_=>simp[go]at h
  |Wp=>
   show KQ P Γ N Q K .normal st;simp only[go]at h;split at h
   ·split at h
    ·rename_i d hd;simp only[ar,cJ]at h;obtain⟨rfl,_⟩:=h;have hd0:d=d0:=hs;subst hd0;exact hrf st _ (.inr rfl) hd
    ·cases h
   ·split at h
    ·split at h
     ·rename_i hnd;simp only[ar,cJ]at h;obtain⟨rfl,_⟩:=h;exact Oy hnd hs
     ·cases h
    ·exact ih (cfg:=.run _) h hp hs
   ·exact ih (cfg:=.Wp) h hp hs
   ·split at h
    ·split at h
     ·rename_i k o _ hnd;simp only[ar,cJ]at h;obtain⟨rfl,_⟩:=h;exact⟨k,o,hnd,hs⟩
     ·cases h
    ·cases h
  |ex id=>
   show KQ P Γ N Q K (.exit id) st;simp only[go]at h;split at h
   ·cases h
   ·exact ih (cfg:=.ex id) h hp hs
   ·rename_i i K;simp only[KQ,No];split at h
    ·rename_i e;rw[bK e];exact ih (cfg:=.Wp) h hp hs
    ·rename_i e;rw[b8 e];exact ih (cfg:=.ex id) h hp hs
   ·exact ih (cfg:=.ex id) h hp hs
def Zy:Code->aX->List Fr->Code×List Fr
 |c,[],K=>(c,K)
 | .seq x y,i::p,K=>(match i with|0=>Zy x p (.sq y::K)|_=>Zy y p K)
 | .block id c,_::p,K=>Zy c p (.bl id::K)
 | .cond _ x y,i::p,K=>(match i with|0=>Zy x p K|_=>Zy y p K)
 | .loop c,_::p,K=>Zy c p (.lp::K)
 |c,_::_,K=>(c,K)
def a0c(P:Program)(rs:List ResultVar×List (List (Option (Nat×Nat))))(st:St):Option D:=match G3 P st rs.1,(st.H[0]?:Option Ob)with
 |some ds,some (Ob.Ka cells v)=>(match B6 st.H rs.2 (.agg cells::ds)with
  |some (.agg cells'::es,ms,qs)=>(if ms.Nodup/\qs.Nodup then some (.hY [KC es,.agg cells',.val v])else none)
  |_=>none)
 |_,_=>none
def a0b(P:Program)(rs:List ResultVar)(st:St):Option D:=match G3 P st rs with
 |some [.ptr j 0]=>(match st.H[j]? with|some (.box cells)=>(if cells.all D.Ow=true then some (.agg cells)else none)|_=>none)
 |_=>none
inductive Kd where
 |q (nz:List (List (Option (Nat×Nat)))) (d:D)
 |p (nz:List (List (Option (Nat×Nat)))) (v:Value) (cells:aQ) (d:D)
 |n (cells:aQ)
def Kd.rf(P:Program)(fn:Func)(k:Kd)(st:St):Option D:=match k with
 | .q nz _=>a2O P (fn.results.toList,nz) st
 | .p nz _ _ _=>a0c P (fn.results.toList,nz) st
 | .n _=>a0b P fn.results.toList st
def Kd.d0:Kd->D
 | .q _ d=>d
 | .p _ v cells d=>.hY [d,.agg cells,.val v]
 | .n cells=>.agg cells
def Kd.qq(P:Program)(fn:Func):Kd->Exit->St->Prop
 | .q _ d=>Qm P fn d
 | .p _ v cells d=>VA P fn v cells d
 | .n cells=>a6C P fn cells
theorem Kd.ok{fn:Func}(k:Kd){st:St}{e:Exit}(he:e=.ret\/e=.normal)(h:k.rf P fn st=some k.d0):k.qq P fn e st:=by
 cases k with
 |q nz d=>exact a2P he h
 |p nz v cells d=>
  simp only[Kd.rf,a0c,Kd.d0]at h;split at h
  ·rename_i ds Np v' h1 h2;split at h
   ·rename_i cells' es ms qs h3;split at h
    ·rename_i hc;simp only[ar,D.hY.injEq,List.cons.injEq,D.agg.injEq,D.val.injEq,and_true]at h;obtain⟨rfl,rfl,rfl⟩:=h;exact⟨he,_,_,_,_,_,_,h1,h2,h3,hc.1,hc.2,rfl⟩
    ·cases h
   ·cases h
  ·cases h
 |n cells=>
  simp only[Kd.rf,a0b,Kd.d0]at h;split at h
  ·rename_i j h1;split at h
   ·rename_i cells' h2;split at h
    ·rename_i hc;simp only[ar,D.agg.injEq]at h;subst h;exact⟨he,j,h1,h2,hc⟩
    ·cases h
   ·cases h
  ·cases h
theorem Ky{fn:Func}{k:Kd}{nt n:Nat}{c:Code}{K:List Fr}{st:St}(A:eO)(s:Stop){p:C1}(hnt:Γ.nt=nt)(hm:P.follows .mixedOrders=true)(h:go P (k.rf P fn) nt n (.run c) K st A=some (s,p))(hp:xV p)
 (hs:VB P Γ N (k.qq P fn) k.d0 s):AW P Γ c (KQ P Γ N (k.qq P fn) K) st:=go_sound (Q:=k.qq P fn) (N:=N) (K:=K) (st:=st) (d0:=k.d0) (cfg:=.run c) (fun _ _ he h=>k.ok he h) hnt hm h hp hs
def SH(P:Program)(Γ:vJ)(c:Code)(Q:Exit->St->Prop)(n:Nat)(st:St):Prop:=
 ∀κ Θ a w,dX Γ st κ Θ a w->Code.rounds P c (fun e a' w'=>∃ur κ' Θ',dX Γ ur κ' Θ' a' w'/\Q e ur) n a w
theorem YL{c:Code}{n:Nat}{st:St}(h:SH P Γ c Q n st):AW P Γ (.loop c) Q st:=fun κ Θ a w hs=>wp_loop_rounds n (h κ Θ a w hs)
theorem aP{c:Code}{K:List Fr}{n:Nat}{st:St}
 (h:∀N',(∀d,d<depth K->N' d=N d)->N' (depth K)=SH P Γ c (KQ P Γ N Q K) n->AW P Γ c (KQ P Γ N' Q (.lp::K)) st):SH P Γ c (KQ P Γ N Q K) (n+1) st:=by
 intro κ Θ a w hs;have:=h (fun d=>if d<depth K then N d else SH P Γ c (KQ P Γ N Q K) n) (fun d hd=>bK hd) (b8 (by omega));simp only[KQ]at this;rw[b8 (by omega)]at this;rw[<-P0 (N:=N) (N':=fun d=>if d<depth K then N d else SH P Γ c (KQ P Γ N Q K) n) K (fun d hd=>(bK hd).symm)]at this;rw[rounds_succ];refine wp_mono (this κ Θ a w hs) ?_;rintro e a' w' ⟨ur,κ',Θ',hs',hq⟩;cases e with
 |normal=>
  obtain⟨k,o,hnd,hR'⟩:=hq;obtain⟨κ2,Θ2,hs2⟩:=hs'.C4 k o hnd;exact hR' κ2 Θ2 a' w' hs2
 |exit id=>exact⟨_,_,_,hs',hq⟩
 |goto l=>exact⟨_,_,_,hs',hq⟩
 |ret=>exact⟨_,_,_,hs',hq⟩
 |panic c=>exact⟨_,_,_,hs',hq⟩
 |outgrown=>exact⟨_,_,_,hs',hq⟩
end
theorem aM{α:Type}{c:Bool}{x y:Option α}{r:α}(h:(bif c then x else y)=some r):(c=true/\x=some r)\/(c=false/\y=some r):=by
 cases c
 ·exact .inr ⟨rfl,h⟩
 ·exact .inl ⟨rfl,h⟩
theorem bQ{α:Type}{c:Bool}{x:Option α}{r:α}(h:(bif c then x else none)=some r):c=true/\x=some r:=by
 cases c
 ·cases h
 ·exact⟨rfl,h⟩
theorem aE{α β:Type}{x:Option α}{f:α->Option β}{r:β}(h:x.bind f=some r):∃y,x=some y/\f y=some r:=by
 cases x with
 |none=>cases h
 |some y=>exact⟨y,rfl,h⟩
theorem aI{α:Type}{x y:α}(h:some x=some y):x=y:=by cases h;rfl
theorem ow{p:Prop}{ps:C1}(h:p)(t:xV ps):xV (p::ps):=⟨h,t⟩
def lF{α:Type}(l:List α)(i:Int):Option α:=bif decide (0<=i)then l[i.toNat]? else none
theorem SO{α β:Type}{l:List α}{i:Int}{x:α}(f:α->β)(h:lF l i=some x):0<=i/\(l.map f)[i.toNat]?=some (f x):=by
 unfold lF at h;cases hd:decide (0<=i)with
 |false=>rw[hd]at h;cases h
 |true=>rw[hd]at h;simp only[aO]at h;exact⟨by simpa using hd,by rw[bg,h];rfl⟩
theorem a17{l:Bytes}{i:Int}{x:UInt8}(h:lF l i=some x):0<=i/\l[i.toNat]?=some x:=by
 unfold lF at h;cases hd:decide (0<=i)with
 |false=>rw[hd]at h;cases h
 |true=>rw[hd]at h;exact⟨by simpa using hd,h⟩
def fuel:Nat:=4194304
theorem eA{α:Type}{l:List α}{i:Int}{x:α}(f:α->aQ)(n:Nat)(h:lF l i=some x)(hn:(f x).length=n):0<=i/\(l.map f)[i.toNat]?=some (f x)/\(f x).length=n:=⟨(SO f h).1,(SO f h).2,hn⟩
theorem EF{i n:Nat}(sz:Nat)(h:decide (i<n)=true):sz=sz/\(i:Int)=((i:Nat):Int)/\i<n:=⟨rfl,rfl,bY h⟩
theorem nX{α:Type}{l:List α}{i:Nat}{x:α}(f:α->aQ)(sz:Nat)(h:l[i]?=some x):sz=sz/\(i:Int)=((i:Nat):Int)/\i<(l.map f).length:=⟨rfl,rfl,by rw[ax];exact(aF.1 h).1⟩
theorem vF{α:Type}{l:List α}{i:Int}{x:α}(f:α->aQ)(sz:Nat)(h:lF l i=some x):sz=sz/\i=((i.toNat:Nat):Int)/\i.toNat<(l.map f).length:=by
 obtain⟨h0,h1⟩:=SO f h;exact⟨rfl,by omega,(aF.1 h1).1⟩
theorem rE{α:Type}{l:List α}{i:Int}{x:α}(h:lF l i=some x):l[i.toNat]?=some x:=by
 have:=(SO (fun y=>y) h).2;simpa using this
theorem Wy{x y:Int}(k:IntKind)(h:(decide (0<=x)&&decide (0<y))=true):k=k/\0<=x/\0<y:=by simpa using h
def room(n b:Nat):Bool:=decide (n<=maxLen)&&decide (n*b<=140737488355328)
theorem bh{n b:Nat}(h:room n b=true):n<=maxLen/\n*b<=140737488355328:=by
 simp only[room,aW,bC]at h;exact h
def J0(n:Int)(b:Nat):Bool:=decide (0<=n)&&decide (b*n.toNat<=281474976710656)&&decide (n.toNat<=4611686018427387904)
theorem EH{n:Int}{b:Nat}(h:J0 n b=true):n=n/\0<=n/\b*n.toNat<=281474976710656/\n.toNat<=4611686018427387904:=by
 simp only[J0,aW,bC]at h;exact⟨rfl,h.1.1,h.1.2,h.2⟩
theorem Vy{k n:Nat}(h:k<n)(hn:n<=maxLen):IntKind.i64.wrap ((k:Int)+1)=((k+1:Nat):Int):=by
 unfold maxLen at hn;rw[gV (rQ.i64.2 (by omega))];omega
theorem ZB{k n:Nat}(h:k<n):decide ((k:Int)<(n:Int))=true:=by simp[h]
theorem We{k n:Nat}(h:n<=k):decide ((k:Int)<(n:Int))=false:=by simp;omega
theorem drop_cons{α:Type}{l:List α}{k:Nat}{x:α}{xs:List α}(h:l.drop k=x::xs):l[k]?=some x/\k<l.length/\l.drop (k+1)=xs:=by
 have h1:l[k]?=some x:=by
  have:=congrArg (fun m:List α=>m[0]?) h;simpa[dO]using this
 refine⟨h1,(aF.1 h1).1,?_⟩;rw[<-gH,h];rfl
theorem drop_nil{α:Type}{l:List α}{k:Nat}(h:l.drop k=[]):l.length<=k:=by simpa using h
theorem Wg{α β:Type}{l:List α}{k:Nat}{x:α}(f:α->β)(h:l[k]?=some x):0<=(k:Int)/\(l.map f)[(k:Int).toNat]?=some (f x):=⟨by omega,by simp[h]⟩
theorem az{α:Type}{l:List α}{k:Nat}{x:α}(f:α->aQ)(n:Nat)(h:l[k]?=some x)(hn:(f x).length=n):0<=(k:Int)/\(l.map f)[(k:Int).toNat]?=some (f x)/\(f x).length=n:=⟨(Wg f h).1,(Wg f h).2,hn⟩
theorem Wf{α β:Type}{l:List α}{k:Nat}(f:α->β)(h:k<l.length):decide ((k:Int)<((l.map f).length:Int))=true:=by rw[ax];exact ZB h
theorem U6{α β:Type}{l:List α}{k:Nat}(f:α->β)(h:l.length<=k):decide ((k:Int)<((l.map f).length:Int))=false:=by rw[ax];exact We h
theorem dK{α β:Type}{l:List α}{k:Nat}{x:α}(f:α->β)(h:l[k]?=some x):(l.map f)[k]?=some (f x):=by rw[bg,h];rfl
def Im{α β:Type}[BEq α](z:β)(k:α):List (α×β)->β
 | []=>z
 |p::r=>bif k==p.1 then p.2 else Im z k r
def ZC{α β:Type}[BEq α](k:α):List (α×β)->Bool
 | []=>false
 |p::r=>bif k==p.1 then true else ZC k r
def Ls{α β:Type}[BEq α](k:α)(v:β):List (α×β)->List (α×β)
 | []=>[(k,v)]
 |p::r=>bif k==p.1 then(k,v)::r else p::Ls k v r
def eB(b:Bool):D:=.bool b
def kS{β:Type}(e:β->D)(p:Bytes×β):D×D:=(.str p.1,e p.2)
theorem Sd{β:Type}{e:β->D}(z:β)(k:Bytes):∀(m:List (Bytes×β)),(E9 (.str k) (m.map (kS e))=some none/\ZC k m=false/\Im z k m=z)\/(E9 (.str k) (m.map (kS e))=some (some (e (Im z k m)))/\ZC k m=true)
 | []=>.inl ⟨rfl,rfl,rfl⟩
 |p::r=>by
  simp only[bH,E9,kS,keq,ZC,Im];cases hb:k==p.1 with
  |true=>exact .inr ⟨rfl,rfl⟩
  |false=>exact Sd z k r
theorem a4c{P:Program}{T:TypeId}{β:Type}{e:β->D}{z:β}{k:Bytes}{m:List (Bytes×β)}(hT:UX P T=some (.string,e z)):plk P T (m.map (kS e)) (.str k) false=some (e (Im z k m)):=by
 unfold plk;rw[hT];rcases Sd (e:=e) z k m with⟨h1,_,h3⟩|⟨h1,_⟩
 ·simp only[HL,h1,h3,aZ]
 ·simp only[HL,h1,aZ]
theorem Ww{β:Type}{e:β->D}{k:Bytes}{v:β}:∀ {m:List (Bytes×β)},Ik (.str k) (e v) (m.map (kS e))=some ((Ls k v m).map (kS e))
 | []=>rfl
 |p::r=>by
  simp only[bH,Ik,Ls];have hq:keq (.str k) (kS e p).1=some (k==p.1):=rfl;rw[hq];cases hb:k==p.1 with
  |true=>rfl
  |false=>simp only[Ww (m:=r),cM,aZ,bH]
end Go.Cx
namespace Go.Cx
open Go.RowKit Go.Proofs Tryz
abbrev vI:=List Fr
structure aC where
 rel:Bytes
 args:aH
 deriving DecidableEq
structure aS where
 var:Bytes
 value:Bytes
 deriving DecidableEq
structure aL where
 kind:Int
 pat:aC
 left:Bytes
 right:Bytes
 deriving DecidableEq
structure Action where
 kind:Int
 pat:aC
 deriving DecidableEq
structure aK where
 name:Bytes
 prio:Int
 conds:List aL
 cU:List Action
 deriving DecidableEq
structure aN where
 facts:List aC
 bind:List aS
 deriving DecidableEq
structure cX where
 rule:Bytes
 facts:List aC
 bind:List aS
 deriving DecidableEq
structure aV where
 shape:aC
 facts:List aC
 deriving DecidableEq
structure Node where
 parent:Int
 cond:aL
 cQ:Int
 tokens:List aN
 deriving DecidableEq
structure aG where
 rules:List aK
 ends:bR
 av:List aV
 nodes:List Node
 facts:List aC
 bn:Int
 deriving DecidableEq
structure cg where
 fact:aC
 time:Int
 deriving DecidableEq
structure a6B where
 rule:Bytes
 times:bR
 deriving DecidableEq
structure a6A where
 a9v:cX
 prio:Int
 times:bR
 spec:Int
 order:Int
 deriving DecidableEq
structure Cur where
 b:bR
 i:Int
 h:Int
 deriving DecidableEq
abbrev tx(s:Bytes):List D:=[.str s]
abbrev gS(n:Int):List D:=[.int .i64 n]
abbrev bx(b:Bool):List D:=[.bool b]
abbrev dT(l:List Bytes):D:=.sl (l.map tx)
abbrev dI(l:List Int):D:=.sl (l.map gS)
abbrev aC.c(x:aC):List D:=[.str x.rel,dT x.args]
abbrev aS.c(x:aS):List D:=[.str x.var,.str x.value]
abbrev aL.c(x:aL):List D:=[.int .i64 x.kind,.str x.pat.rel,dT x.pat.args,.str x.left,.str x.right]
abbrev Action.c(x:Action):List D:=[.int .i64 x.kind,.str x.pat.rel,dT x.pat.args]
abbrev aK.c(x:aK):List D:=[.str x.name,.int .i64 x.prio,.sl (x.conds.map aL.c),.sl (x.cU.map Action.c)]
abbrev aN.c(x:aN):List D:=[.sl (x.facts.map aC.c),.sl (x.bind.map aS.c)]
abbrev cX.c(x:cX):List D:=[.str x.rule,.sl (x.facts.map aC.c),.sl (x.bind.map aS.c)]
abbrev aV.c(x:aV):List D:=[.str x.shape.rel,dT x.shape.args,.sl (x.facts.map aC.c)]
abbrev Node.c(x:Node):List D:=[.int .i64 x.parent,.int .i64 x.cond.kind,.str x.cond.pat.rel,dT x.cond.pat.args,.str x.cond.left,.str x.cond.right,.int .i64 x.cQ,.sl (x.tokens.map aN.c)]
abbrev aG.c(x:aG):List D:=[.sl (x.rules.map aK.c),dI x.ends,.sl (x.av.map aV.c),.sl (x.nodes.map Node.c),.sl (x.facts.map aC.c),.int .i64 x.bn]
abbrev cg.c(x:cg):List D:=[.str x.fact.rel,dT x.fact.args,.int .i64 x.time]
def Cz(fn:Func):Code:=match fn.body with
 |some c=>c
 |none=>.skip
theorem mix:prog.follows .mixedOrders=true:=by kernel_rfl
theorem a68{P:Program}{Γ:vJ}{Q:Exit->St->Prop}{N N':Nat->St->Prop}{c:Code}{K K0:vI}{st:St}(hd:depth K=depth K0)(hN:∀d,d<depth K0->N' d=N d)(t:AW P Γ c (KQ P Γ N Q K) st):AW P Γ c (KQ P Γ N' Q K) st:=by
 rw[P0 (N:=N') (N':=N) K (fun d h=>hN d (by omega))];exact t
theorem a3F{P:Program}{Γ:vJ}{Q:Exit->St->Prop}{c:Code}{s s':St}(h:s=s')(t:AW P Γ c Q s'):AW P Γ c Q s:=by rw[h];exact t
theorem Aw{α:Type}{c:α->aQ}(hc:∀x,(c x).all D.flat=true)(l:List α):(l.map c).flatten.all D.flat=true:=by
 induction l with
 |nil=>rfl
 |cons x l ih=>rw[bH,dw,List.all_append,hc,ih];rfl
abbrev bT:An:=.b true
abbrev bF:An:=.b false
structure Pre(A:List An)(p:C1):Prop where
 h:xV p
theorem aT:Pre [] []:=⟨trivial⟩
theorem xV.join{p q:C1}(h:xV p)(k:xV q):xV (p++q):=by
 induction p with
 |nil=>exact k
 |cons x p ih=>exact⟨h.1,ih h.2⟩
theorem Pre.ext{A:eO}{p:C1}(o:Pre A p)(B:eO){q:C1}(hq:xV q):Pre (A++B) (p++q):=⟨o.h.join hq⟩
section
variable{A:eO}{p:C1}
theorem Pre.b(o:Pre A p){c v:Bool}(h:c=v):Pre (A++[.b v]) (p++[c=v]):=o.ext _ ⟨h,trivial⟩
theorem Pre.r(o:Pre A p)(n:Nat){c v:Bool}(h:c=v):Pre (A++List.replicate n (.b v)) (p++List.replicate n (c=v)):=o.ext _ (by
 induction n with
 |zero=>trivial
 |succ n ih=>exact⟨h,ih⟩)
theorem Pre.T(o:Pre A p)(n:Nat):Pre (A++List.replicate n bT) (p++List.replicate n (true=true)):=o.r n rfl
theorem Pre.F(o:Pre A p)(n:Nat):Pre (A++List.replicate n bF) (p++List.replicate n (false=false)):=o.r n rfl
theorem Pre.g(o:Pre A p){f:FuncId}{ds:aQ}{d:D}(h:Good prog f ds d):Pre (A++[.d d]) (p++[Good prog f ds d]):=o.ext _ ⟨h,trivial⟩
theorem Pre.hp(o:Pre A p)(nz:List (List (Option (Nat×Nat)))){f:FuncId}{cells cells' ds:aQ}{d:D}(h:yc prog f cells cells' ds d):Pre (A++[.gp nz cells' d]) (p++[yc prog f cells cells' ds d]):=o.ext _ ⟨h,trivial⟩
theorem Pre.w(o:Pre A p){q:Prop}(h:q):Pre (A++[]) (p++[q]):=o.ext _ ⟨h,trivial⟩
theorem Pre.a(o:Pre A p)(B:eO):Pre (A++B) (p++[]):=o.ext _ (q:=[]) trivial
theorem Pre.l(o:Pre A p){n:Int}{rows:List aQ}{r:aQ}{sz:Nat}(h:0<=n/\rows[n.toNat]?=some r/\r.length=sz):Pre (A++[.row r]) (p++[0<=n/\rows[n.toNat]?=some r/\r.length=sz]):=o.ext _ ⟨h,trivial⟩
theorem Pre.i(o:Pre A p){sz sz' m k:Nat}{n:Int}(h:sz=sz'/\n=((k:Nat):Int)/\k<m):Pre (A++[.ix k]) (p++[sz=sz'/\n=((k:Nat):Int)/\k<m]):=o.ext _ ⟨h,trivial⟩
theorem Pre.o(o:Pre A p)(sz n:Nat)(k:RK){rows:List aQ}{i:Nat}{r:aQ}(h:rows[i]?=some r)(hk:k.OM=true:=by kernel_rfl)(hn:Nat.ble n sz=true:=by kernel_rfl):Pre (A++[.row r]) (p++[sz=sz/\k.OM=true/\rows[i]?=some r/\n<=sz]):=o.ext _ ⟨⟨rfl,hk,h,w8 hn⟩,trivial⟩
theorem Pre.c(o:Pre A p){s:Bytes}{i:Int}{b:UInt8}(h:lF s i=some b):Pre (A++[.ch b]) (p++[0<=i/\s[i.toNat]?=some b]):=o.ext _ ⟨a17 h,trivial⟩
theorem Pre.lt{α:Type}{l xs:List α}{i:Nat}{x:α}(o:Pre A p)(f:α->aQ)(h:l.drop i=x::xs):Pre (A++[bT]) (p++[decide ((i:Int)<((l.map f).length:Int))=true]):=o.b (Wf f (drop_cons h).2.1)
theorem Pre.ge{α:Type}{l:List α}{i:Nat}(o:Pre A p)(f:α->aQ)(h:l.drop i=[]):Pre (A++[bF]) (p++[decide ((i:Int)<((l.map f).length:Int))=false]):=o.b (U6 f (drop_nil h))
end
theorem dc{α:Type}{l:List α}{k:Nat}{x:α}{xs:List α}(h:l.drop k=x::xs):l[k]?=some x:=(drop_cons h).1
theorem dn{α:Type}{l:List α}{k:Nat}{x:α}{xs:List α}(h:l.drop k=x::xs):l.drop (k+1)=xs:=(drop_cons h).2.2
theorem iS{α:Type}{l:List α}{k:Nat}{x:α}{xs:List α}(h:l.drop k=x::xs)(hn:l.length<=maxLen):IntKind.i64.wrap ((k:Int)+1)=((k+1:Nat):Int):=Vy (drop_cons h).2.1 hn
theorem mA{α β:Type}(f:α->β):(∀a b:List α,(a++b).map f=a.map f++b.map f)/\(∀(x:α) (a:List α),(x::a).map f=f x::a.map f)/\([]:List α).map f=[]/\(∀(l:List α) (i:Nat) (x:α),(l.set i x).map f=(l.map f).set i (f x))/\(∀(n:Nat) (x:α),(List.replicate n x).map f=List.replicate n (f x))/\(∀(l:List α) (n:Nat),(l.take n).map f=(l.map f).take n):=
 ⟨fun _ _=>bV,fun _ _=>rfl,rfl,fun _ _ _=>List.map_set,fun _ _=>List.map_replicate,fun _ _=>ck⟩
section
variable{Γ:vJ}{N N1:Nat->St->Prop}{fn:Func}{k:Kd}{nt:Nat}{A:eO}{p:C1}{c c':Code}{K K' K0:vI}{st ur:St}
theorem Pre.ret(o:Pre A p)(hnt:Γ.nt=nt)(h:go prog (k.rf prog fn) nt 2000 (.run c) K st A=some (.ret k.d0,p):=by kernel_rfl):AW prog Γ c (KQ prog Γ N (k.qq prog fn) K) st:=Ky (n:=2000) A _ hnt mix h o.h rfl
theorem Pre.rts(o:Pre A p)(hnt:Γ.nt=nt)(d:D)(hd:d=k.d0)(h:go prog (k.rf prog fn) nt 2000 (.run c) K st A=some (.ret d,p):=by kernel_rfl):AW prog Γ c (KQ prog Γ N (k.qq prog fn) K) st:=Ky (n:=2000) A _ hnt mix h o.h hd
theorem Pre.cs(o:Pre A p)(hnt:Γ.nt=nt){n:Nat}(hS:N1 (depth K')=SH prog Γ c' (KQ prog Γ N (k.qq prog fn) K') n)(S:St)(e:S=ur)(t:SH prog Γ c' (KQ prog Γ N (k.qq prog fn) K') n ur)
 (h:go prog (k.rf prog fn) nt 2000 (.run c) K st A=some (.cont (depth K') S,p):=by kernel_rfl):AW prog Γ c (KQ prog Γ N1 (k.qq prog fn) K) st:=Ky (n:=2000) A _ hnt mix h o.h ((congrFun hS _).mpr (by rw[e];exact t))
theorem Pre.cf(o:Pre A p)(hnt:Γ.nt=nt){n:Nat}(hS:N1 (depth K')=SH prog Γ c' (KQ prog Γ N (k.qq prog fn) K') n)(t:SH prog Γ c' (KQ prog Γ N (k.qq prog fn) K') n ur)
 (h:go prog (k.rf prog fn) nt 2000 (.run c) K st A=some (.cont (depth K') ur,p):=by kernel_rfl):AW prog Γ c (KQ prog Γ N1 (k.qq prog fn) K) st:=o.cs hnt hS _ rfl t h
theorem Pre.ct(o:Pre A p)(hnt:Γ.nt=nt){n i:Nat}{S:Int->St}(hS:N1 (depth K')=SH prog Γ c' (KQ prog Γ N (k.qq prog fn) K') n)(hi:IntKind.i64.wrap ((i:Int)+1)=((i+1:Nat):Int))(t:SH prog Γ c' (KQ prog Γ N (k.qq prog fn) K') n (S ((i+1:Nat):Int)))
 (h:go prog (k.rf prog fn) nt 2000 (.run c) K st A=some (.cont (depth K') (S (IntKind.i64.wrap ((i:Int)+1))),p):=by kernel_rfl):AW prog Γ c (KQ prog Γ N1 (k.qq prog fn) K) st:=o.cs hnt hS _ (congrArg S hi) t h
theorem Pre.exs(o:Pre A p)(hnt:Γ.nt=nt)(hN:∀d,d<depth K0->N1 d=N d)(S:St)(e:S=ur)(t:AW prog Γ c' (KQ prog Γ N (k.qq prog fn) K') ur)(hd:depth K'=depth K0:=by kernel_rfl)(h:go prog (k.rf prog fn) nt 2000 (.run c) K st A=some (.at_ c' K' S,p):=by kernel_rfl):
 AW prog Γ c (KQ prog Γ N1 (k.qq prog fn) K) st:=Ky (n:=2000) A _ hnt mix h o.h (a68 (K0:=K0) hd hN (by rw[e];exact t))
theorem Pre.ex(o:Pre A p)(hnt:Γ.nt=nt)(hN:∀d,d<depth K0->N1 d=N d)(t:AW prog Γ c' (KQ prog Γ N (k.qq prog fn) K') ur)(hd:depth K'=depth K0:=by kernel_rfl)(h:go prog (k.rf prog fn) nt 2000 (.run c) K st A=some (.at_ c' K' ur,p):=by kernel_rfl):
 AW prog Γ c (KQ prog Γ N1 (k.qq prog fn) K) st:=o.exs hnt hN _ rfl t hd h
theorem Pre.Y8(o:Pre A p)(hnt:Γ.nt=nt){n:Nat}(S:St)(e:S=ur)(t:SH prog Γ c' (KQ prog Γ N (k.qq prog fn) K') n ur)(h:go prog (k.rf prog fn) nt 2000 (.run c) K st A=some (.lp c' K' S,p):=by kernel_rfl):
 AW prog Γ c (KQ prog Γ N (k.qq prog fn) K) st:=Ky (n:=2000) A _ hnt mix h o.h (a3F e (YL t))
theorem Pre.lp(o:Pre A p)(hnt:Γ.nt=nt){n:Nat}(t:SH prog Γ c' (KQ prog Γ N (k.qq prog fn) K') n ur)(h:go prog (k.rf prog fn) nt 2000 (.run c) K st A=some (.lp c' K' ur,p):=by kernel_rfl):
 AW prog Γ c (KQ prog Γ N (k.qq prog fn) K) st:=o.Y8 hnt _ rfl t h
end
abbrev lc(f:Func)(p:List Nat):Code:=(Zy (Cz f) p []).1
abbrev lk'(f:Func)(p:List Nat):List Fr:=(Zy (Cz f) p []).2
abbrev Ax(Γ:vJ)(N:Nat->St->Prop)(f:Func)(k:Kd)(p:List Nat)(s:St):Prop:=AW prog Γ (lc f p) (KQ prog Γ N (k.qq prog f) (lk' f p)) s
abbrev Ar(Γ:vJ)(N:Nat->St->Prop)(f:Func)(k:Kd)(p:List Nat)(n:Nat)(s:St):Prop:=SH prog Γ (lc f (p++[0])) (KQ prog Γ N (k.qq prog f) (lk' f p)) n s
theorem gd{f:FuncId}{fn:Func}{ds:aQ}{d:D}(hf:prog.funcs[f]?=some fn)(nz:List (List (Option (Nat×Nat))))(nt:Nat)(h:(∀d∈ds,eN d)->∀Γ:vJ,Γ.nt=nt->AW prog Γ (Cz fn) (KQ prog Γ (fun _ _=>False) ((Kd.q nz d).qq prog fn) []) ⟨C3 0 ds,[]⟩)
 (hb:fn.body=some (Cz fn):=by kernel_rfl) (hn:(fn.name== "runtime.NumGoroutine")=false:=by kernel_rfl) (hl:Nat.ble ds.length fn.ntmps=true:=by kernel_rfl) (ht:fn.ntmps=nt:=by kernel_rfl):Good prog f ds d:=
 Good.of hf hb hn (w8 hl) fun hr Γ hΓ=>h hr Γ (hΓ.trans ht)
theorem gdP{f:FuncId}{fn:Func}{cells cells' ds:aQ}{d:D}(hf:prog.funcs[f]?=some fn)(nz:List (List (Option (Nat×Nat))))(nt:Nat)(D0 VS:aQ)(obs:bO)
 (h:(∀x∈(D.agg cells::ds).map D.ZZ,eN x)->∀(v0:Value) (Γ:vJ),Γ.nt=nt->AW prog Γ (Cz fn) (KQ prog Γ (fun _ _=>False) ((Kd.p nz v0 cells' d).qq prog fn) []) ⟨C3 0 (.ptr 0 0::VS),.Ka D0 v0::obs⟩)
 (hI:Br 1 (.agg cells::ds)=(.agg D0::VS,obs):=by kernel_rfl) (hb:fn.body=some (Cz fn):=by kernel_rfl) (hn:(fn.name== "runtime.NumGoroutine")=false:=by kernel_rfl) (hl:Nat.ble (VS.length+1) fn.ntmps=true:=by kernel_rfl) (ht:fn.ntmps=nt:=by kernel_rfl):yc prog f cells cells' ds d:=
 yc.of hf hb hn hI (w8 hl) fun hr v0 Γ hΓ=>h hr v0 Γ (hΓ.trans ht)
end Go.Cx
namespace Go.Cx
open Go.RowKit Go.Proofs Tryz
abbrev aJ:=List aC
abbrev aR:=List aS
abbrev ah:=List aK
abbrev ai:=List aL
abbrev aj:=List aN
abbrev b9:=List Node
abbrev bD:=List aV
abbrev cH:=List Action
theorem gI{α:Type}[DecidableEq α][BEq α][LawfulBEq α](a b:α):(a==b)=decide (a=b):=by rw[bU];simp
def BK(cs:aQ):Prop:=∀d∈cs,eN d
theorem BK.row{α:Type}{c:α->aQ}{l:List α}(h:eN (.sl (l.map c))):∀x∈l,BK (c x):=fun x hx d hd=>(eN.sl h).2 (c x) (cB.2 ⟨x,hx,rfl⟩) d hd
theorem Good.a2I{P:Program}{f:FuncId}{ds:aQ}{d:D}(hf:∃fn,P.funcs[f]?=some fn/\fn.body.isSome=true/\(fn.name== "runtime.NumGoroutine")=false)(h:BK ds->Good P f ds d):Good P f ds d:=
 ⟨hf,fun w Θ args bs hv hargs h1 h2 h3=>(h hargs.rdb).2 w Θ args bs hv hargs h1 h2 h3⟩
def oZ{α:Type}(w:α->Nat)(l:List α):Nat:=l.length+(l.map w).sum
def tw(s:Bytes):Nat:=s.length
theorem pg{α:Type}(w:α->Nat)(x:α)(l:List α):oZ w (x::l)=1+w x+oZ w l:=by simp[oZ];omega
theorem S8{α:Type}(w:α->Nat)(a b:List α):oZ w (a++b)=oZ w a+oZ w b:=by
 induction a with
 |nil=>simp[oZ]
 |cons x a ih=>rw[qQ,pg,pg,ih];omega
theorem n9{α:Type}(w:α->Nat)(l:List α):l.length<=oZ w l:=by unfold oZ;omega
theorem nZ{α:Type}{w:α->Nat}{l:List α}{x:α}(h:x∈l):w x+1<=oZ w l:=by
 induction l with
 |nil=>cases h
 |cons y l ih=>
  rw[pg];rcases bI.1 h with rfl|h
  ·omega
  ·have:=ih h;omega
theorem Xu{n:Nat}{v:Int}(hn:n<=maxLen)(h0:0<=v)(h1:v<=1048576):IntKind.i64.wrap (v-(n:Int))=v-(n:Int):=by
 unfold maxLen at hn;exact gV (rQ.i64.2 (by omega))
def AG(o:Option Int)(v:Int)(n:Nat):Prop:=∃r,o=some r/\r<=v/\(0<=r->(n:Int)<=v-r)
theorem AG.str{n m:Nat}{v:Int}{k:Option Int}(hn:n<=maxLen)(h0:0<=v)(h1:v<=1048576)(hk:0<=v-(n:Int)->IntKind.i64.wrap (v-(n:Int))=v-(n:Int)->AG k (v-(n:Int)) m):
 AG (bif decide (IntKind.i64.wrap (v-(n:Int))<0)then some (-1)else k) v (n+m):=by
 have hw:=Xu hn h0 h1;rw[hw];by_cases c:v-(n:Int)<0
 ·exact⟨-1,by simp[c],by omega,by omega⟩
 ·obtain⟨r,e1,e2,e3⟩:=hk (by omega) hw;exact⟨r,by simp[c,e1],by omega,fun h=>by have:=e3 h;omega⟩
theorem AG.sub{o:Option Int}{v:Int}{k:Int->Option Int}{n m:Nat}(h:AG o v n)(h1:v<=1048576)(h0:0<=v)(hk:∀r,0<=r->r<=1048576->AG (k r) r m):
 AG (o.bind fun y=>bif decide (y<0)then some (-1)else k y) v (n+m):=by
 obtain⟨r,e1,e2,e3⟩:=h;rw[e1];by_cases c:r<0
 ·exact⟨-1,by simp[c],by omega,by omega⟩
 ·obtain⟨r',q1,q2,q3⟩:=hk r (by omega) (by omega);exact⟨r',by simp[c,q1],by omega,fun h=>by have:=e3 (by omega);have:=q3 h;omega⟩
theorem AG.fin{v:Int}:AG (some v) v 0:=⟨v,rfl,Int.le_refl _,fun _=>by omega⟩
theorem AG.eq{o:Option Int}{v:Int}{n m:Nat}(h:AG o v n)(e:n=m):AG o v m:=e▸h
theorem szL{α:Type}{w:α->Nat}{f:α->Int->Option Int}(L:List α->Nat->Int->Option Int)(sB:∀i v,L [] i v=some v)
 (qx:∀x xs i v,L (x::xs) i v=(f x v).bind fun y=>bif decide (y<0)then some (-1)else L xs (i+1) y):
 ∀(l:List α),(∀x∈l,∀v,0<=v->v<=1048576->AG (f x v) v (w x))->∀i v,0<=v->v<=1048576->AG (L l i v) v ((l.map w).sum):=by
 intro l
 induction l with
 |nil=>intro _ i v _ _;rw[sB];exact .fin
 |cons x xs ih=>
  intro hf i v h0 h1;rw[qx];refine((hf x (by simp) v h0 h1).sub h1 h0 (m:=(xs.map w).sum) fun r r0 r1=>?_).eq (by simp);exact ih (fun y hy=>hf y (by simp[hy])) (i+1) r r0 r1
theorem szS{α:Type}{c:α->aQ}{w:α->Nat}{l:List α}{v:Int}{k:Int->Option Int}(hr:eN (.sl (l.map c)))(h0:0<=v)(h1:v<=1048576)
 (hk:∀v',0<=v'->v'<=1048576->AG (k v') v' ((l.map w).sum)):AG (bif decide (IntKind.i64.wrap (v-((l.map c).length:Int))<0)then some (-1)else k (IntKind.i64.wrap (v-((l.map c).length:Int)))) v (oZ w l):=by
 have hn:(l.map c).length<=maxLen:=(eN.sl hr).1;refine(AG.str hn h0 h1 (m:=(l.map w).sum) fun g e=>?_).eq (by simp[oZ]);rw[e];exact hk _ g (by omega)
theorem toL{α:Type}{z:α}{c:α->aQ}{f:α->Option α}{l:List α}(L:List α->Nat->List α->Option (List α))(sB:∀i w,L [] i w=some w)
 (qx:∀x xs i w,L (x::xs) i w=(f x).bind fun y=>bif decide (i<(w.map c).length)then(w[i]?).bind (fun _=>L xs (i+1) (w.set i y))else none) (hf:∀x∈l,f x=some x):
 L l 0 (List.replicate ((l.map c).length:Int).toNat z)=some l:=by
 have key:∀(rest pre:List α),l=pre++rest->L rest pre.length (pre++List.replicate rest.length z)=some l:=by
  intro rest
  induction rest with
  |nil=>intro pre h;rw[sB,h];simp
  |cons x xs ih=>
   intro pre h;rw[qx,hf x (by rw[h];simp)];have e1:decide (pre.length<((pre++List.replicate (x::xs).length z).map c).length)=true:=by simp
   have e2:(pre++List.replicate (x::xs).length z)[pre.length]?=some z:=by simp[xf]
   have e3:(pre++List.replicate (x::xs).length z).set pre.length x=(pre++[x])++List.replicate xs.length z:=by
    rw[aY,xf,oa _ _ (bN _),nT,List.set_cons_zero];simp
   simp only[aA,e1,aO,e2,e3];have:=ih (pre++[x]) (by rw[h];simp);simpa using this
 have:=key l [] rfl;simpa using this
theorem QH{n b:Nat}(hn:n<=1048576)(hb:b<=1000):J0 (n:Int) b=true:=by
 unfold J0;have h1:b*n<=1000*1048576:=Cu hb hn;simp;omega
theorem R2{α:Type}[DecidableEq α]{f:α->α->Option Bool}{a b:List α}{c:α->aQ}(L:Option Bool->List α->Nat->Option Bool)(sB:∀k i,L k [] i=k)
 (qx:∀k x xs i,L k (x::xs) i=(lF b (i:Int)).bind fun y=>(f x y).bind fun r=>bif !r then some false else L k xs (i+1)) (hf:∀x y,f x y=some (decide (x=y))):
 (bif (((a.map c).length:Int) != ((b.map c).length:Int))then some false else L (some true) a 0)=some (decide (a=b)):=by
 by_cases hl:a.length=b.length
 ·have e:(((a.map c).length:Int) != ((b.map c).length:Int))=false:=by simp[hl]
  rw[e];have key:∀(ra rb pa pb:List α),a=pa++ra->b=pb++rb->pa.length=pb.length->L (some true) ra pa.length=some (decide (ra=rb)):=by
   intro ra
   induction ra with
   |nil=>
    intro rb pa pb h1 h2 h3;rw[sB];have:rb=[]:=by
     have:=congrArg List.length h1;have:=congrArg List.length h2;simp at*;apply cN;omega
    subst this;simp
   |cons x xs ih=>
    intro rb pa pb h1 h2 h3;cases rb with
    |nil=>
     exfalso;have:=congrArg List.length h1;have:=congrArg List.length h2;simp at*;omega
    |cons y ys=>
     rw[qx];have e1:lF b (pa.length:Int)=some y:=by
      unfold lF;have:b[pa.length]?=some y:=by rw[h2,h3];simp
      simp[this]
     rw[e1,aA,hf,aA];have:=ih ys (pa++[x]) (pb++[y]) (by rw[h1];simp) (by rw[h2];simp) (by simp[h3]);by_cases hxy:x=y
     ·subst hxy;simp only[za,bP,aZ];simp only[bB,aY,bX]at this;rw[this];simp
     ·simp[hxy]
  have:=key a b [] [] rfl rfl rfl;simpa using this
 ·have e:(((a.map c).length:Int) != ((b.map c).length:Int))=true:=by simp;omega
  rw[e];have:a≠b:=fun h=>hl (by rw[h])
  simp[this]
end Go.Cx
namespace Go.Cx
open Go.RowKit Go.Proofs Tryz
set_option maxRecDepth 100000
variable{Γ:vJ}{N:Nat->St->Prop}
def ig(aB:aH)(k1:Int->Option Int):aH->Nat->Int->Option Int
 | [],i1,eT=>(k1 eT)
 |bL::bz,i1,eT=>(bif decide ((IntKind.i64.wrap (eT-(bL.length:Int)):Int)<0)then(some (-1))else(ig aB k1 bz (i1+1) (IntKind.i64.wrap (eT-(bL.length:Int)))))
def o9(aB:aH)(aU:Int):Option Int:=(bif decide ((IntKind.i64.wrap (aU-((aB.map tx).length:Int)):Int)<0)then(some (-1))else(ig aB (fun(vr:Int)=>(some vr)) aB 0 (IntKind.i64.wrap (aU-((aB.map tx).length:Int)))))
def FB(aB:aH)(eT:Int)(cR:Int):St:=⟨[(0,D.sl (aB.map tx)),(1,D.int .i64 eT),(5,D.int .i64 cR)],[]⟩
theorem DX(hΓ:Γ.nt=28){aB:aH}{r:Int}{k1:Int->Option Int}(cc:∀(vr:Int),k1 vr=some r->Ax Γ N f68 (.q [[none]] (D.int .i64 r)) [1,1,1,1] ⟨[(1,D.int .i64 vr)],[]⟩)(hm1:aB.length<=maxLen):∀(rest:aH) (i1:Nat) (eT:Int),aB.drop i1=rest->ig aB k1 rest i1 eT=some r->Ar Γ N f68 (.q [[none]] (D.int .i64 r)) [1,1,1,0,1,0] (rest.length+1) (FB aB eT (i1:Int)):=by
 intro rest
 induction rest with
 |nil=>
  intro i1 eT aq h;rw[ig]at h;refine aP fun N1 cC br=>?_
  exact((aT.ge tx aq).a [.hl 0 [1] []]).ex hΓ cC (cc eT h)
 |cons bL bz ih1=>
  intro i1 eT aq h;rw[ig]at h;refine aP fun N1 cC br=>?_
  have eH:=((aT.lt tx aq).l (az tx 1 (dc aq) rfl))
  obtain⟨h14,h⟩|⟨h14,h⟩:=aM h
  ·cases h;exact(eH.b h14).ret hΓ
  ·exact((eH.b h14).a [.cn [0,1,5] []]).ct hΓ br (iS aq hm1) (ih1 (i1+1) (IntKind.i64.wrap (eT-(bL.length:Int))) (dn aq) h)
theorem wK{aB:aH}{aU:Int}{r:Int}(h:o9 aB aU=some r):Good prog 68 [D.sl (aB.map tx),D.int .i64 aU] (D.int .i64 r):=by
 refine gd func68 [[none]] 28 fun hr Γ hΓ=>?_
 rw[o9]at h;obtain⟨h1,h⟩|⟨h1,h⟩:=aM h
 ·cases h;exact(aT.b h1).ret hΓ
 ·refine((aT.b h1).a [.cn [0,1,5] []]).lp hΓ (DX hΓ (fun vr h=>?_) (by have:=(eN.sl (hr _ (aD (i:=0) rfl))).1;simpa using this) aB 0 (IntKind.i64.wrap (aU-((aB.map tx).length:Int))) rfl h);have h:=aI h;subst h;exact aT.ret hΓ
def o8(aB:aC)(aU:Int):Option Int:=(bif decide ((IntKind.i64.wrap (aU-(aB.rel.length:Int)):Int)<0)then(some (-1))else((o9 aB.args (IntKind.i64.wrap (aU-(aB.rel.length:Int)))).bind fun y2=>(bif decide ((y2:Int)<0)then(some (-1))else(some y2))))
theorem og{aB:aC}{aU:Int}{r:Int}(h:o8 aB aU=some r):Good prog 172 [D.agg (aC.c aB),D.int .i64 aU] (D.int .i64 r):=by
 refine gd func172 [[none]] 19 fun hr Γ hΓ=>?_
 rw[o8]at h;obtain⟨h1,h⟩|⟨h1,h⟩:=aM h
 ·cases h;exact(aT.b h1).ret hΓ
 ·obtain⟨y2,h3,h⟩:=aE h;have mQ:=((aT.b h1).g (wK h3))
  obtain⟨h4,h⟩|⟨h4,h⟩:=aM h
  ·cases h;exact(mQ.b h4).ret hΓ
  ·have h:=aI h;subst h;exact(mQ.b h4).ret hΓ
def sL(aB:aL)(aU:Int):Option Int:=((o8 aB.pat aU).bind fun y1=>(bif decide ((y1:Int)<0)then(some (-1))else(bif decide ((IntKind.i64.wrap (y1-(aB.left.length:Int)):Int)<0)then(some (-1))else(bif decide ((IntKind.i64.wrap ((IntKind.i64.wrap (y1-(aB.left.length:Int)))-(aB.right.length:Int)):Int)<0)then(some (-1))else(some (IntKind.i64.wrap ((IntKind.i64.wrap (y1-(aB.left.length:Int)))-(aB.right.length:Int))))))))
theorem Gg{aB:aL}{aU:Int}{r:Int}(h:sL aB aU=some r):Good prog 173 [D.agg (aL.c aB),D.int .i64 aU] (D.int .i64 r):=by
 refine gd func173 [[none]] 26 fun hr Γ hΓ=>?_
 rw[sL]at h;obtain⟨y1,h2,h⟩:=aE h;obtain⟨h3,h⟩|⟨h3,h⟩:=aM h
 ·cases h;exact((aT.g (og h2)).b h3).ret hΓ
 ·have mQ:=((aT.g (og h2)).b h3)
  obtain⟨h4,h⟩|⟨h4,h⟩:=aM h
  ·cases h;exact(mQ.b h4).ret hΓ
  ·obtain⟨h5,h⟩|⟨h5,h⟩:=aM h
   ·cases h;exact((mQ.b h4).b h5).ret hΓ
   ·cases h;exact((mQ.b h4).b h5).ret hΓ
def mm(aB:ai)(k1:Int->Option Int):ai->Nat->Int->Option Int
 | [],i1,eT=>(k1 eT)
 |bL::bz,i1,eT=>((sL bL eT).bind fun mP=>(bif decide ((mP:Int)<0)then(some (-1))else(mm aB k1 bz (i1+1) mP)))
def tR(aB:ai)(aU:Int):Option Int:=(bif decide ((IntKind.i64.wrap (aU-((aB.map aL.c).length:Int)):Int)<0)then(some (-1))else(mm aB (fun(vr:Int)=>(some vr)) aB 0 (IntKind.i64.wrap (aU-((aB.map aL.c).length:Int)))))
def I2(aB:ai)(eT:Int)(cR:Int):St:=⟨[(0,D.sl (aB.map aL.c)),(1,D.int .i64 eT),(5,D.int .i64 cR)],[]⟩
theorem Gf(hΓ:Γ.nt=27){aB:ai}{r:Int}{k1:Int->Option Int}(cc:∀(vr:Int),k1 vr=some r->Ax Γ N f136 (.q [[none]] (D.int .i64 r)) [1,1,1,1] ⟨[(1,D.int .i64 vr)],[]⟩)(hm1:aB.length<=maxLen):∀(rest:ai) (i1:Nat) (eT:Int),aB.drop i1=rest->mm aB k1 rest i1 eT=some r->Ar Γ N f136 (.q [[none]] (D.int .i64 r)) [1,1,1,0,1,0] (rest.length+1) (I2 aB eT (i1:Int)):=by
 intro rest
 induction rest with
 |nil=>
  intro i1 eT aq h;rw[mm]at h;refine aP fun N1 cC br=>?_
  exact((aT.ge aL.c aq).a [.hl 0 [1] []]).ex hΓ cC (cc eT h)
 |cons bL bz ih1=>
  intro i1 eT aq h;rw[mm]at h;refine aP fun N1 cC br=>?_
  obtain⟨mP,h23,h⟩:=aE h;have eH:=(((aT.lt aL.c aq).l (az aL.c 5 (dc aq) rfl)).g (Gg h23))
  obtain⟨h24,h⟩|⟨h24,h⟩:=aM h
  ·cases h;exact(eH.b h24).ret hΓ
  ·exact((eH.b h24).a [.cn [0,1,5] []]).ct hΓ br (iS aq hm1) (ih1 (i1+1) mP (dn aq) h)
theorem F9{aB:ai}{aU:Int}{r:Int}(h:tR aB aU=some r):Good prog 136 [D.sl (aB.map aL.c),D.int .i64 aU] (D.int .i64 r):=by
 refine gd func136 [[none]] 27 fun hr Γ hΓ=>?_
 rw[tR]at h;obtain⟨h1,h⟩|⟨h1,h⟩:=aM h
 ·cases h;exact(aT.b h1).ret hΓ
 ·refine((aT.b h1).a [.cn [0,1,5] []]).lp hΓ (Gf hΓ (fun vr h=>?_) (by have:=(eN.sl (hr _ (aD (i:=0) rfl))).1;simpa using this) aB 0 (IntKind.i64.wrap (aU-((aB.map aL.c).length:Int))) rfl h);have h:=aI h;subst h;exact aT.ret hΓ
def p8(aB:Action)(aU:Int):Option Int:=((o8 aB.pat aU).bind fun y1=>(bif decide ((y1:Int)<0)then(some (-1))else(some y1)))
theorem DW{aB:Action}{aU:Int}{r:Int}(h:p8 aB aU=some r):Good prog 205 [D.agg (Action.c aB),D.int .i64 aU] (D.int .i64 r):=by
 refine gd func205 [[none]] 12 fun hr Γ hΓ=>?_
 rw[p8]at h;obtain⟨y1,h2,h⟩:=aE h;obtain⟨h3,h⟩|⟨h3,h⟩:=aM h
 ·cases h;exact((aT.g (og h2)).b h3).ret hΓ
 ·have h:=aI h;subst h;exact((aT.g (og h2)).b h3).ret hΓ
def kp(aB:cH)(k1:Int->Option Int):cH->Nat->Int->Option Int
 | [],i1,eT=>(k1 eT)
 |bL::bz,i1,eT=>((p8 bL eT).bind fun mP=>(bif decide ((mP:Int)<0)then(some (-1))else(kp aB k1 bz (i1+1) mP)))
def ql(aB:cH)(aU:Int):Option Int:=(bif decide ((IntKind.i64.wrap (aU-((aB.map Action.c).length:Int)):Int)<0)then(some (-1))else(kp aB (fun(vr:Int)=>(some vr)) aB 0 (IntKind.i64.wrap (aU-((aB.map Action.c).length:Int)))))
def F8(aB:cH)(eT:Int)(cR:Int):St:=⟨[(0,D.sl (aB.map Action.c)),(1,D.int .i64 eT),(5,D.int .i64 cR)],[]⟩
theorem DV(hΓ:Γ.nt=27){aB:cH}{r:Int}{k1:Int->Option Int}(cc:∀(vr:Int),k1 vr=some r->Ax Γ N f137 (.q [[none]] (D.int .i64 r)) [1,1,1,1] ⟨[(1,D.int .i64 vr)],[]⟩)(hm1:aB.length<=maxLen):∀(rest:cH) (i1:Nat) (eT:Int),aB.drop i1=rest->kp aB k1 rest i1 eT=some r->Ar Γ N f137 (.q [[none]] (D.int .i64 r)) [1,1,1,0,1,0] (rest.length+1) (F8 aB eT (i1:Int)):=by
 intro rest
 induction rest with
 |nil=>
  intro i1 eT aq h;rw[kp]at h;refine aP fun N1 cC br=>?_
  exact((aT.ge Action.c aq).a [.hl 0 [1] []]).ex hΓ cC (cc eT h)
 |cons bL bz ih1=>
  intro i1 eT aq h;rw[kp]at h;refine aP fun N1 cC br=>?_
  obtain⟨mP,h23,h⟩:=aE h;have eH:=(((aT.lt Action.c aq).l (az Action.c 3 (dc aq) rfl)).g (DW h23))
  obtain⟨h24,h⟩|⟨h24,h⟩:=aM h
  ·cases h;exact(eH.b h24).ret hΓ
  ·exact((eH.b h24).a [.cn [0,1,5] []]).ct hΓ br (iS aq hm1) (ih1 (i1+1) mP (dn aq) h)
theorem CU{aB:cH}{aU:Int}{r:Int}(h:ql aB aU=some r):Good prog 137 [D.sl (aB.map Action.c),D.int .i64 aU] (D.int .i64 r):=by
 refine gd func137 [[none]] 27 fun hr Γ hΓ=>?_
 rw[ql]at h;obtain⟨h1,h⟩|⟨h1,h⟩:=aM h
 ·cases h;exact(aT.b h1).ret hΓ
 ·refine((aT.b h1).a [.cn [0,1,5] []]).lp hΓ (DV hΓ (fun vr h=>?_) (by have:=(eN.sl (hr _ (aD (i:=0) rfl))).1;simpa using this) aB 0 (IntKind.i64.wrap (aU-((aB.map Action.c).length:Int))) rfl h);have h:=aI h;subst h;exact aT.ret hΓ
def sN(aB:aK)(aU:Int):Option Int:=(bif decide ((IntKind.i64.wrap (aU-(aB.name.length:Int)):Int)<0)then(some (-1))else((tR aB.conds (IntKind.i64.wrap (aU-(aB.name.length:Int)))).bind fun y2=>(bif decide ((y2:Int)<0)then(some (-1))else((ql aB.cU y2).bind fun y5=>(bif decide ((y5:Int)<0)then(some (-1))else(some y5))))))
theorem Gk{aB:aK}{aU:Int}{r:Int}(h:sN aB aU=some r):Good prog 79 [D.agg (aK.c aB),D.int .i64 aU] (D.int .i64 r):=by
 refine gd func79 [[none]] 25 fun hr Γ hΓ=>?_
 rw[sN]at h;obtain⟨h1,h⟩|⟨h1,h⟩:=aM h
 ·cases h;exact(aT.b h1).ret hΓ
 ·obtain⟨y2,h3,h⟩:=aE h;have mQ:=((aT.b h1).g (F9 h3))
  obtain⟨h4,h⟩|⟨h4,h⟩:=aM h
  ·cases h;exact(mQ.b h4).ret hΓ
  ·obtain⟨y5,h6,h⟩:=aE h;have eH:=((mQ.b h4).g (CU h6))
   obtain⟨h7,h⟩|⟨h7,h⟩:=aM h
   ·cases h;exact(eH.b h7).ret hΓ
   ·have h:=aI h;subst h;exact(eH.b h7).ret hΓ
def mq(aB:ah)(k1:Int->Option Int):ah->Nat->Int->Option Int
 | [],i1,eT=>(k1 eT)
 |bL::bz,i1,eT=>((sN bL eT).bind fun mP=>(bif decide ((mP:Int)<0)then(some (-1))else(mq aB k1 bz (i1+1) mP)))
def tT(aB:ah)(aU:Int):Option Int:=(bif decide ((IntKind.i64.wrap (aU-((aB.map aK.c).length:Int)):Int)<0)then(some (-1))else(mq aB (fun(vr:Int)=>(some vr)) aB 0 (IntKind.i64.wrap (aU-((aB.map aK.c).length:Int)))))
def I4(aB:ah)(eT:Int)(cR:Int):St:=⟨[(0,D.sl (aB.map aK.c)),(1,D.int .i64 eT),(5,D.int .i64 cR)],[]⟩
theorem Gj(hΓ:Γ.nt=27){aB:ah}{r:Int}{k1:Int->Option Int}(cc:∀(vr:Int),k1 vr=some r->Ax Γ N f33 (.q [[none]] (D.int .i64 r)) [1,1,1,1] ⟨[(1,D.int .i64 vr)],[]⟩)(hm1:aB.length<=maxLen):∀(rest:ah) (i1:Nat) (eT:Int),aB.drop i1=rest->mq aB k1 rest i1 eT=some r->Ar Γ N f33 (.q [[none]] (D.int .i64 r)) [1,1,1,0,1,0] (rest.length+1) (I4 aB eT (i1:Int)):=by
 intro rest
 induction rest with
 |nil=>
  intro i1 eT aq h;rw[mq]at h;refine aP fun N1 cC br=>?_
  exact((aT.ge aK.c aq).a [.hl 0 [1] []]).ex hΓ cC (cc eT h)
 |cons bL bz ih1=>
  intro i1 eT aq h;rw[mq]at h;refine aP fun N1 cC br=>?_
  obtain⟨mP,h23,h⟩:=aE h;have eH:=(((aT.lt aK.c aq).l (az aK.c 4 (dc aq) rfl)).g (Gk h23))
  obtain⟨h24,h⟩|⟨h24,h⟩:=aM h
  ·cases h;exact(eH.b h24).ret hΓ
  ·exact((eH.b h24).a [.cn [0,1,5] []]).ct hΓ br (iS aq hm1) (ih1 (i1+1) mP (dn aq) h)
theorem xw{aB:ah}{aU:Int}{r:Int}(h:tT aB aU=some r):Good prog 33 [D.sl (aB.map aK.c),D.int .i64 aU] (D.int .i64 r):=by
 refine gd func33 [[none]] 27 fun hr Γ hΓ=>?_
 rw[tT]at h;obtain⟨h1,h⟩|⟨h1,h⟩:=aM h
 ·cases h;exact(aT.b h1).ret hΓ
 ·refine((aT.b h1).a [.cn [0,1,5] []]).lp hΓ (Gj hΓ (fun vr h=>?_) (by have:=(eN.sl (hr _ (aD (i:=0) rfl))).1;simpa using this) aB 0 (IntKind.i64.wrap (aU-((aB.map aK.c).length:Int))) rfl h);have h:=aI h;subst h;exact aT.ret hΓ
def sM(aB:aC)(aU:Int):Option Int:=(bif decide ((IntKind.i64.wrap (aU-(aB.rel.length:Int)):Int)<0)then(some (-1))else((o9 aB.args (IntKind.i64.wrap (aU-(aB.rel.length:Int)))).bind fun y2=>(bif decide ((y2:Int)<0)then(some (-1))else(some y2))))
theorem Gi{aB:aC}{aU:Int}{r:Int}(h:sM aB aU=some r):Good prog 22 [D.agg (aC.c aB),D.int .i64 aU] (D.int .i64 r):=by
 refine gd func22 [[none]] 19 fun hr Γ hΓ=>?_
 rw[sM]at h;obtain⟨h1,h⟩|⟨h1,h⟩:=aM h
 ·cases h;exact(aT.b h1).ret hΓ
 ·obtain⟨y2,h3,h⟩:=aE h;have mQ:=((aT.b h1).g (wK h3))
  obtain⟨h4,h⟩|⟨h4,h⟩:=aM h
  ·cases h;exact(mQ.b h4).ret hΓ
  ·have h:=aI h;subst h;exact(mQ.b h4).ret hΓ
def mo(aB:aJ)(k1:Int->Option Int):aJ->Nat->Int->Option Int
 | [],i1,eT=>(k1 eT)
 |bL::bz,i1,eT=>((sM bL eT).bind fun mP=>(bif decide ((mP:Int)<0)then(some (-1))else(mo aB k1 bz (i1+1) mP)))
def tS(aB:aJ)(aU:Int):Option Int:=(bif decide ((IntKind.i64.wrap (aU-((aB.map aC.c).length:Int)):Int)<0)then(some (-1))else(mo aB (fun(vr:Int)=>(some vr)) aB 0 (IntKind.i64.wrap (aU-((aB.map aC.c).length:Int)))))
def I3(aB:aJ)(eT:Int)(cR:Int):St:=⟨[(0,D.sl (aB.map aC.c)),(1,D.int .i64 eT),(5,D.int .i64 cR)],[]⟩
theorem Gh(hΓ:Γ.nt=27){aB:aJ}{r:Int}{k1:Int->Option Int}(cc:∀(vr:Int),k1 vr=some r->Ax Γ N f12 (.q [[none]] (D.int .i64 r)) [1,1,1,1] ⟨[(1,D.int .i64 vr)],[]⟩)(hm1:aB.length<=maxLen):∀(rest:aJ) (i1:Nat) (eT:Int),aB.drop i1=rest->mo aB k1 rest i1 eT=some r->Ar Γ N f12 (.q [[none]] (D.int .i64 r)) [1,1,1,0,1,0] (rest.length+1) (I3 aB eT (i1:Int)):=by
 intro rest
 induction rest with
 |nil=>
  intro i1 eT aq h;rw[mo]at h;refine aP fun N1 cC br=>?_
  exact((aT.ge aC.c aq).a [.hl 0 [1] []]).ex hΓ cC (cc eT h)
 |cons bL bz ih1=>
  intro i1 eT aq h;rw[mo]at h;refine aP fun N1 cC br=>?_
  obtain⟨mP,h23,h⟩:=aE h;have eH:=(((aT.lt aC.c aq).l (az aC.c 2 (dc aq) rfl)).g (Gi h23))
  obtain⟨h24,h⟩|⟨h24,h⟩:=aM h
  ·cases h;exact(eH.b h24).ret hΓ
  ·exact((eH.b h24).a [.cn [0,1,5] []]).ct hΓ br (iS aq hm1) (ih1 (i1+1) mP (dn aq) h)
theorem FA{aB:aJ}{aU:Int}{r:Int}(h:tS aB aU=some r):Good prog 12 [D.sl (aB.map aC.c),D.int .i64 aU] (D.int .i64 r):=by
 refine gd func12 [[none]] 27 fun hr Γ hΓ=>?_
 rw[tS]at h;obtain⟨h1,h⟩|⟨h1,h⟩:=aM h
 ·cases h;exact(aT.b h1).ret hΓ
 ·refine((aT.b h1).a [.cn [0,1,5] []]).lp hΓ (Gh hΓ (fun vr h=>?_) (by have:=(eN.sl (hr _ (aD (i:=0) rfl))).1;simpa using this) aB 0 (IntKind.i64.wrap (aU-((aB.map aC.c).length:Int))) rfl h);have h:=aI h;subst h;exact aT.ret hΓ
end Go.Cx
namespace Go.Cx
open Go.RowKit Go.Proofs Tryz
set_option maxRecDepth 100000
variable{Γ:vJ}{N:Nat->St->Prop}
def ij(aB:aH)(k1:aH->Option aH):aH->Nat->aH->Option aH
 | [],i1,bA=>(k1 bA)
 |bL::bz,i1,bA=>(bif decide (i1<(bA.map tx).length)then(((bA)[i1]?).bind fun x30=>(ij aB k1 bz (i1+1) (bA.set i1 bL)))else none)
def oB(aB:aH):Option aH:=(bif J0 ((aB.map tx).length:Int) 16 then(ij aB (fun(bf:aH)=>(some bf)) aB 0 (List.replicate ((aB.map tx).length:Int).toNat ([]:Bytes)))else none)
def uU(aB:aH)(W0:List aQ)(cR:Int):St:=⟨[(0,D.sl (aB.map tx)),(3,D.acc 0),(4,D.int .i64 cR)],[Ob.row .uq 9 1 W0]⟩
theorem Da(hΓ:Γ.nt=22){aB:aH}{r:aH}{k1:aH->Option aH}(cc:∀(bf:aH),k1 bf=some r->Ax Γ N f70 (.q [[some (9,1)]] (D.fr 9 1 (r.map tx))) [1,1,1] ⟨[(3,D.acc 0)],[Ob.row .uq 9 1 (bf.map tx)]⟩)(hm1:aB.length<=maxLen):∀(rest:aH) (i1:Nat) (bA:aH),aB.drop i1=rest->ij aB k1 rest i1 bA=some r->Ar Γ N f70 (.q [[some (9,1)]] (D.fr 9 1 (r.map tx))) [1,1,0,1,0] (rest.length+1) (uU aB (bA.map tx) (i1:Int)):=by
 intro rest
 induction rest with
 |nil=>
  intro i1 bA aq h;rw[ij]at h;refine aP fun N1 cC br=>?_
  exact((aT.ge tx aq).a [.hl 0 [3] [0]]).ex hΓ cC (cc bA h)
 |cons bL bz ih1=>
  intro i1 bA aq h;rw[ij]at h;refine aP fun N1 cC br=>?_
  obtain⟨h29,h⟩:=bQ h;obtain⟨x30,h31,h⟩:=aE h;exact(((((aT.lt tx aq).l (az tx 1 (dc aq) rfl)).i (EF 1 h29)).w (show(bA.map tx)[i1]?=some [D.str x30]from dK tx h31)).a [.row [D.str x30],.cn [0,3,4] [0]]).cs hΓ br (uU aB ((bA.map tx).set i1 [D.str bL]) (IntKind.i64.wrap ((i1:Int)+1))) (by first| (simp only[iS aq hm1,mA]<;>rfl)| (simp only[iS aq hm1,mA,aC.c,aS.c,aL.c,Action.c,aK.c,aN.c,cX.c,aV.c,Node.c,aG.c,cg.c]<;>rfl)) (ih1 (i1+1) (bA.set i1 bL) (dn aq) h)
theorem wM{aB:aH}{r:aH}(h:oB aB=some r):Good prog 70 [D.sl (aB.map tx)] (D.fr 9 1 (r.map tx)):=by
 refine gd func70 [[some (9,1)]] 22 fun hr Γ hΓ=>?_
 rw[oB]at h;obtain⟨h1,h⟩:=bQ h;refine((aT.w (EH h1)).a [.cn [0,3,4] [0]]).Y8 hΓ (uU aB (List.replicate ((aB.map tx).length:Int).toNat [D.str ([])]) 0) (by first| (simp only[mA]<;>rfl)| (simp only[mA,aC.c,aS.c,aL.c,Action.c,aK.c,aN.c,cX.c,aV.c,Node.c,aG.c,cg.c]<;>rfl)) (Da hΓ (fun bf h=>?_) (by have:=(eN.sl (hr _ (aD (i:=0) rfl))).1;simpa using this) aB 0 (List.replicate ((aB.map tx).length:Int).toNat ([]:Bytes)) rfl h);have h:=aI h;subst h;exact aT.ret hΓ
def oA(aB:aC):Option aC:=((oB aB.args).bind fun y1=>(some (⟨aB.rel,y1⟩:aC)))
theorem wL{aB:aC}{r:aC}(h:oA aB=some r):Good prog 179 [D.agg (aC.c aB)] (D.agg [D.str r.rel,D.fr 9 1 (r.args.map tx)]):=by
 refine gd func179 [[none,some (9,1)]] 12 fun hr Γ hΓ=>?_
 rw[oA]at h;obtain⟨y1,h2,h⟩:=aE h;cases h;exact(aT.g (wM h2)).ret hΓ
def sO(aB:aL):Option aL:=((oA aB.pat).bind fun y1=>(some (⟨aB.kind,y1,aB.left,aB.right⟩:aL)))
theorem Gm{aB:aL}{r:aL}(h:sO aB=some r):Good prog 180 [D.agg (aL.c aB)] (D.agg [D.int .i64 r.kind,D.str r.pat.rel,D.fr 9 1 (r.pat.args.map tx),D.str r.left,D.str r.right]):=by
 refine gd func180 [[none,none,some (9,1),none,none]] 18 fun hr Γ hΓ=>?_
 rw[sO]at h;obtain⟨y1,h2,h⟩:=aE h;cases h;exact(aT.g (wL h2)).ret hΓ
def mr(aB:ai)(k1:ai->Option ai):ai->Nat->ai->Option ai
 | [],i1,bA=>(k1 bA)
 |bL::bz,i1,bA=>((sO bL).bind fun B8=>(bif decide (i1<(bA.map aL.c).length)then(((bA)[i1]?).bind fun x44=>(mr aB k1 bz (i1+1) (bA.set i1 B8)))else none))
def tU(aB:ai):Option ai:=(bif J0 ((aB.map aL.c).length:Int) 80 then(mr aB (fun(bf:ai)=>(some bf)) aB 0 (List.replicate ((aB.map aL.c).length:Int).toNat (⟨(0:Int),(⟨([]:Bytes),[]⟩:aC),([]:Bytes),([]:Bytes)⟩:aL)))else none)
def vg(aB:ai)(W0:List aQ)(cR:Int):St:=⟨[(0,D.sl (aB.map aL.c)),(3,D.acc 0),(4,D.int .i64 cR)],[Ob.row .uq 115 5 W0]⟩
theorem Gl(hΓ:Γ.nt=23){aB:ai}{r:ai}{k1:ai->Option ai}(cc:∀(bf:ai),k1 bf=some r->Ax Γ N f140 (.q [[some (115,5)]] (D.fr 115 5 (r.map aL.c))) [1,1,1] ⟨[(3,D.acc 0)],[Ob.row .uq 115 5 (bf.map aL.c)]⟩)(hm1:aB.length<=maxLen):∀(rest:ai) (i1:Nat) (bA:ai),aB.drop i1=rest->mr aB k1 rest i1 bA=some r->Ar Γ N f140 (.q [[some (115,5)]] (D.fr 115 5 (r.map aL.c))) [1,1,0,1,0] (rest.length+1) (vg aB (bA.map aL.c) (i1:Int)):=by
 intro rest
 induction rest with
 |nil=>
  intro i1 bA aq h;rw[mr]at h;refine aP fun N1 cC br=>?_
  exact((aT.ge aL.c aq).a [.hl 0 [3] [0]]).ex hΓ cC (cc bA h)
 |cons bL bz ih1=>
  intro i1 bA aq h;rw[mr]at h;refine aP fun N1 cC br=>?_
  obtain⟨B8,h42,h⟩:=aE h;obtain⟨h43,h⟩:=bQ h;obtain⟨x44,h45,h⟩:=aE h;exact((((((aT.lt aL.c aq).l (az aL.c 5 (dc aq) rfl)).g (Gm h42)).i (EF 5 h43)).w (show(bA.map aL.c)[i1]?=some [D.int .i64 x44.kind,D.str x44.pat.rel,D.sl (x44.pat.args.map tx),D.str x44.left,D.str x44.right]from dK aL.c h45)).a [.row [D.int .i64 x44.kind,D.str x44.pat.rel,D.sl (x44.pat.args.map tx),D.str x44.left,D.str x44.right],.cn [0,3,4] [0]]).cs hΓ br (vg aB ((bA.map aL.c).set i1 [D.int .i64 B8.kind,D.str B8.pat.rel,D.sl (B8.pat.args.map tx),D.str B8.left,D.str B8.right]) (IntKind.i64.wrap ((i1:Int)+1))) (by first| (simp only[iS aq hm1,mA]<;>rfl)| (simp only[iS aq hm1,mA,aC.c,aS.c,aL.c,Action.c,aK.c,aN.c,cX.c,aV.c,Node.c,aG.c,cg.c]<;>rfl)) (ih1 (i1+1) (bA.set i1 B8) (dn aq) h)
theorem FC{aB:ai}{r:ai}(h:tU aB=some r):Good prog 140 [D.sl (aB.map aL.c)] (D.fr 115 5 (r.map aL.c)):=by
 refine gd func140 [[some (115,5)]] 23 fun hr Γ hΓ=>?_
 rw[tU]at h;obtain⟨h1,h⟩:=bQ h;refine((aT.w (EH h1)).a [.cn [0,3,4] [0]]).Y8 hΓ (vg aB (List.replicate ((aB.map aL.c).length:Int).toNat [D.int .i64 0,D.str ([]),D.sl ([]),D.str ([]),D.str ([])]) 0) (by first| (simp only[mA]<;>rfl)| (simp only[mA,aC.c,aS.c,aL.c,Action.c,aK.c,aN.c,cX.c,aV.c,Node.c,aG.c,cg.c]<;>rfl)) (Gl hΓ (fun bf h=>?_) (by have:=(eN.sl (hr _ (aD (i:=0) rfl))).1;simpa using this) aB 0 (List.replicate ((aB.map aL.c).length:Int).toNat (⟨(0:Int),(⟨([]:Bytes),[]⟩:aC),([]:Bytes),([]:Bytes)⟩:aL)) rfl h);have h:=aI h;subst h;exact aT.ret hΓ
def p9(aB:Action):Option Action:=((oA aB.pat).bind fun y1=>(some (⟨aB.kind,y1⟩:Action)))
theorem DZ{aB:Action}{r:Action}(h:p9 aB=some r):Good prog 210 [D.agg (Action.c aB)] (D.agg [D.int .i64 r.kind,D.str r.pat.rel,D.fr 9 1 (r.pat.args.map tx)]):=by
 refine gd func210 [[none,none,some (9,1)]] 12 fun hr Γ hΓ=>?_
 rw[p9]at h;obtain⟨y1,h2,h⟩:=aE h;cases h;exact(aT.g (wL h2)).ret hΓ
def kq(aB:cH)(k1:cH->Option cH):cH->Nat->cH->Option cH
 | [],i1,bA=>(k1 bA)
 |bL::bz,i1,bA=>((p9 bL).bind fun B8=>(bif decide (i1<(bA.map Action.c).length)then(((bA)[i1]?).bind fun x44=>(kq aB k1 bz (i1+1) (bA.set i1 B8)))else none))
def qm(aB:cH):Option cH:=(bif J0 ((aB.map Action.c).length:Int) 48 then(kq aB (fun(bf:cH)=>(some bf)) aB 0 (List.replicate ((aB.map Action.c).length:Int).toNat (⟨(0:Int),(⟨([]:Bytes),[]⟩:aC)⟩:Action)))else none)
def uR(aB:cH)(W0:List aQ)(cR:Int):St:=⟨[(0,D.sl (aB.map Action.c)),(3,D.acc 0),(4,D.int .i64 cR)],[Ob.row .uq 199 3 W0]⟩
theorem DY(hΓ:Γ.nt=23){aB:cH}{r:cH}{k1:cH->Option cH}(cc:∀(bf:cH),k1 bf=some r->Ax Γ N f141 (.q [[some (199,3)]] (D.fr 199 3 (r.map Action.c))) [1,1,1] ⟨[(3,D.acc 0)],[Ob.row .uq 199 3 (bf.map Action.c)]⟩)(hm1:aB.length<=maxLen):∀(rest:cH) (i1:Nat) (bA:cH),aB.drop i1=rest->kq aB k1 rest i1 bA=some r->Ar Γ N f141 (.q [[some (199,3)]] (D.fr 199 3 (r.map Action.c))) [1,1,0,1,0] (rest.length+1) (uR aB (bA.map Action.c) (i1:Int)):=by
 intro rest
 induction rest with
 |nil=>
  intro i1 bA aq h;rw[kq]at h;refine aP fun N1 cC br=>?_
  exact((aT.ge Action.c aq).a [.hl 0 [3] [0]]).ex hΓ cC (cc bA h)
 |cons bL bz ih1=>
  intro i1 bA aq h;rw[kq]at h;refine aP fun N1 cC br=>?_
  obtain⟨B8,h42,h⟩:=aE h;obtain⟨h43,h⟩:=bQ h;obtain⟨x44,h45,h⟩:=aE h;exact((((((aT.lt Action.c aq).l (az Action.c 3 (dc aq) rfl)).g (DZ h42)).i (EF 3 h43)).w (show(bA.map Action.c)[i1]?=some [D.int .i64 x44.kind,D.str x44.pat.rel,D.sl (x44.pat.args.map tx)]from dK Action.c h45)).a [.row [D.int .i64 x44.kind,D.str x44.pat.rel,D.sl (x44.pat.args.map tx)],.cn [0,3,4] [0]]).cs hΓ br (uR aB ((bA.map Action.c).set i1 [D.int .i64 B8.kind,D.str B8.pat.rel,D.sl (B8.pat.args.map tx)]) (IntKind.i64.wrap ((i1:Int)+1))) (by first| (simp only[iS aq hm1,mA]<;>rfl)| (simp only[iS aq hm1,mA,aC.c,aS.c,aL.c,Action.c,aK.c,aN.c,cX.c,aV.c,Node.c,aG.c,cg.c]<;>rfl)) (ih1 (i1+1) (bA.set i1 B8) (dn aq) h)
theorem CV{aB:cH}{r:cH}(h:qm aB=some r):Good prog 141 [D.sl (aB.map Action.c)] (D.fr 199 3 (r.map Action.c)):=by
 refine gd func141 [[some (199,3)]] 23 fun hr Γ hΓ=>?_
 rw[qm]at h;obtain⟨h1,h⟩:=bQ h;refine((aT.w (EH h1)).a [.cn [0,3,4] [0]]).Y8 hΓ (uR aB (List.replicate ((aB.map Action.c).length:Int).toNat [D.int .i64 0,D.str ([]),D.sl ([])]) 0) (by first| (simp only[mA]<;>rfl)| (simp only[mA,aC.c,aS.c,aL.c,Action.c,aK.c,aN.c,cX.c,aV.c,Node.c,aG.c,cg.c]<;>rfl)) (DY hΓ (fun bf h=>?_) (by have:=(eN.sl (hr _ (aD (i:=0) rfl))).1;simpa using this) aB 0 (List.replicate ((aB.map Action.c).length:Int).toNat (⟨(0:Int),(⟨([]:Bytes),[]⟩:aC)⟩:Action)) rfl h);have h:=aI h;subst h;exact aT.ret hΓ
def sQ(aB:aK):Option aK:=((tU aB.conds).bind fun y1=>((qm aB.cU).bind fun y3=>(some (⟨aB.name,aB.prio,y1,y3⟩:aK))))
theorem Gr{aB:aK}{r:aK}(h:sQ aB=some r):Good prog 81 [D.agg (aK.c aB)] (D.agg [D.str r.name,D.int .i64 r.prio,D.fr 115 5 (r.conds.map aL.c),D.fr 199 3 (r.cU.map Action.c)]):=by
 refine gd func81 [[none,none,some (115,5),some (199,3)]] 19 fun hr Γ hΓ=>?_
 rw[sQ]at h;obtain⟨y1,h2,h⟩:=aE h;obtain⟨y3,h4,h⟩:=aE h;cases h;exact((aT.g (FC h2)).g (CV h4)).ret hΓ
def n7(aB:ah)(k1:ah->Option ah):ah->Nat->ah->Option ah
 | [],i1,bA=>(k1 bA)
 |bL::bz,i1,bA=>((sQ bL).bind fun B8=>(bif decide (i1<(bA.map aK.c).length)then(((bA)[i1]?).bind fun x44=>(n7 aB k1 bz (i1+1) (bA.set i1 B8)))else none))
def oM(aB:ah):Option ah:=(bif J0 ((aB.map aK.c).length:Int) 72 then(n7 aB (fun(bf:ah)=>(some bf)) aB 0 (List.replicate ((aB.map aK.c).length:Int).toNat (⟨([]:Bytes),(0:Int),[],[]⟩:aK)))else none)
def vi(aB:ah)(W0:List aQ)(cR:Int):St:=⟨[(0,D.sl (aB.map aK.c)),(3,D.acc 0),(4,D.int .i64 cR)],[Ob.row .uq 105 4 W0]⟩
theorem Gq(hΓ:Γ.nt=23){aB:ah}{r:ah}{k1:ah->Option ah}(cc:∀(bf:ah),k1 bf=some r->Ax Γ N f35 (.q [[some (105,4)]] (D.fr 105 4 (r.map aK.c))) [1,1,1] ⟨[(3,D.acc 0)],[Ob.row .uq 105 4 (bf.map aK.c)]⟩)(hm1:aB.length<=maxLen):∀(rest:ah) (i1:Nat) (bA:ah),aB.drop i1=rest->n7 aB k1 rest i1 bA=some r->Ar Γ N f35 (.q [[some (105,4)]] (D.fr 105 4 (r.map aK.c))) [1,1,0,1,0] (rest.length+1) (vi aB (bA.map aK.c) (i1:Int)):=by
 intro rest
 induction rest with
 |nil=>
  intro i1 bA aq h;rw[n7]at h;refine aP fun N1 cC br=>?_
  exact((aT.ge aK.c aq).a [.hl 0 [3] [0]]).ex hΓ cC (cc bA h)
 |cons bL bz ih1=>
  intro i1 bA aq h;rw[n7]at h;refine aP fun N1 cC br=>?_
  obtain⟨B8,h42,h⟩:=aE h;obtain⟨h43,h⟩:=bQ h;obtain⟨x44,h45,h⟩:=aE h;exact((((((aT.lt aK.c aq).l (az aK.c 4 (dc aq) rfl)).g (Gr h42)).i (EF 4 h43)).w (show(bA.map aK.c)[i1]?=some [D.str x44.name,D.int .i64 x44.prio,D.sl (x44.conds.map aL.c),D.sl (x44.cU.map Action.c)]from dK aK.c h45)).a [.row [D.str x44.name,D.int .i64 x44.prio,D.sl (x44.conds.map aL.c),D.sl (x44.cU.map Action.c)],.cn [0,3,4] [0]]).cs hΓ br (vi aB ((bA.map aK.c).set i1 [D.str B8.name,D.int .i64 B8.prio,D.sl (B8.conds.map aL.c),D.sl (B8.cU.map Action.c)]) (IntKind.i64.wrap ((i1:Int)+1))) (by first| (simp only[iS aq hm1,mA]<;>rfl)| (simp only[iS aq hm1,mA,aC.c,aS.c,aL.c,Action.c,aK.c,aN.c,cX.c,aV.c,Node.c,aG.c,cg.c]<;>rfl)) (ih1 (i1+1) (bA.set i1 B8) (dn aq) h)
theorem uT{aB:ah}{r:ah}(h:oM aB=some r):Good prog 35 [D.sl (aB.map aK.c)] (D.fr 105 4 (r.map aK.c)):=by
 refine gd func35 [[some (105,4)]] 23 fun hr Γ hΓ=>?_
 rw[oM]at h;obtain⟨h1,h⟩:=bQ h;refine((aT.w (EH h1)).a [.cn [0,3,4] [0]]).Y8 hΓ (vi aB (List.replicate ((aB.map aK.c).length:Int).toNat [D.str ([]),D.int .i64 0,D.sl ([]),D.sl ([])]) 0) (by first| (simp only[mA]<;>rfl)| (simp only[mA,aC.c,aS.c,aL.c,Action.c,aK.c,aN.c,cX.c,aV.c,Node.c,aG.c,cg.c]<;>rfl)) (Gq hΓ (fun bf h=>?_) (by have:=(eN.sl (hr _ (aD (i:=0) rfl))).1;simpa using this) aB 0 (List.replicate ((aB.map aK.c).length:Int).toNat (⟨([]:Bytes),(0:Int),[],[]⟩:aK)) rfl h);have h:=aI h;subst h;exact aT.ret hΓ
def sP(aB:aC):Option aC:=((oB aB.args).bind fun y1=>(some (⟨aB.rel,y1⟩:aC)))
theorem Gp{aB:aC}{r:aC}(h:sP aB=some r):Good prog 24 [D.agg (aC.c aB)] (D.agg [D.str r.rel,D.fr 9 1 (r.args.map tx)]):=by
 refine gd func24 [[none,some (9,1)]] 12 fun hr Γ hΓ=>?_
 rw[sP]at h;obtain⟨y1,h2,h⟩:=aE h;cases h;exact(aT.g (wM h2)).ret hΓ
def mw(aB:aJ)(k1:aJ->Option aJ):aJ->Nat->aJ->Option aJ
 | [],i1,bA=>(k1 bA)
 |bL::bz,i1,bA=>((sP bL).bind fun B8=>(bif decide (i1<(bA.map aC.c).length)then(((bA)[i1]?).bind fun x44=>(mw aB k1 bz (i1+1) (bA.set i1 B8)))else none))
def oL(aB:aJ):Option aJ:=(bif J0 ((aB.map aC.c).length:Int) 40 then(mw aB (fun(bf:aJ)=>(some bf)) aB 0 (List.replicate ((aB.map aC.c).length:Int).toNat (⟨([]:Bytes),[]⟩:aC)))else none)
def vh(aB:aJ)(W0:List aQ)(cR:Int):St:=⟨[(0,D.sl (aB.map aC.c)),(3,D.acc 0),(4,D.int .i64 cR)],[Ob.row .uq 53 2 W0]⟩
theorem Gn(hΓ:Γ.nt=23){aB:aJ}{r:aJ}{k1:aJ->Option aJ}(cc:∀(bf:aJ),k1 bf=some r->Ax Γ N f15 (.q [[some (53,2)]] (D.fr 53 2 (r.map aC.c))) [1,1,1] ⟨[(3,D.acc 0)],[Ob.row .uq 53 2 (bf.map aC.c)]⟩)(hm1:aB.length<=maxLen):∀(rest:aJ) (i1:Nat) (bA:aJ),aB.drop i1=rest->mw aB k1 rest i1 bA=some r->Ar Γ N f15 (.q [[some (53,2)]] (D.fr 53 2 (r.map aC.c))) [1,1,0,1,0] (rest.length+1) (vh aB (bA.map aC.c) (i1:Int)):=by
 intro rest
 induction rest with
 |nil=>
  intro i1 bA aq h;rw[mw]at h;refine aP fun N1 cC br=>?_
  exact((aT.ge aC.c aq).a [.hl 0 [3] [0]]).ex hΓ cC (cc bA h)
 |cons bL bz ih1=>
  intro i1 bA aq h;rw[mw]at h;refine aP fun N1 cC br=>?_
  obtain⟨B8,h42,h⟩:=aE h;obtain⟨h43,h⟩:=bQ h;obtain⟨x44,h45,h⟩:=aE h;exact((((((aT.lt aC.c aq).l (az aC.c 2 (dc aq) rfl)).g (Gp h42)).i (EF 2 h43)).w (show(bA.map aC.c)[i1]?=some [D.str x44.rel,D.sl (x44.args.map tx)]from dK aC.c h45)).a [.row [D.str x44.rel,D.sl (x44.args.map tx)],.cn [0,3,4] [0]]).cs hΓ br (vh aB ((bA.map aC.c).set i1 [D.str B8.rel,D.sl (B8.args.map tx)]) (IntKind.i64.wrap ((i1:Int)+1))) (by first| (simp only[iS aq hm1,mA]<;>rfl)| (simp only[iS aq hm1,mA,aC.c,aS.c,aL.c,Action.c,aK.c,aN.c,cX.c,aV.c,Node.c,aG.c,cg.c]<;>rfl)) (ih1 (i1+1) (bA.set i1 B8) (dn aq) h)
theorem uS{aB:aJ}{r:aJ}(h:oL aB=some r):Good prog 15 [D.sl (aB.map aC.c)] (D.fr 53 2 (r.map aC.c)):=by
 refine gd func15 [[some (53,2)]] 23 fun hr Γ hΓ=>?_
 rw[oL]at h;obtain⟨h1,h⟩:=bQ h;refine((aT.w (EH h1)).a [.cn [0,3,4] [0]]).Y8 hΓ (vh aB (List.replicate ((aB.map aC.c).length:Int).toNat [D.str ([]),D.sl ([])]) 0) (by first| (simp only[mA]<;>rfl)| (simp only[mA,aC.c,aS.c,aL.c,Action.c,aK.c,aN.c,cX.c,aV.c,Node.c,aG.c,cg.c]<;>rfl)) (Gn hΓ (fun bf h=>?_) (by have:=(eN.sl (hr _ (aD (i:=0) rfl))).1;simpa using this) aB 0 (List.replicate ((aB.map aC.c).length:Int).toNat (⟨([]:Bytes),[]⟩:aC)) rfl h);have h:=aI h;subst h;exact aT.ret hΓ
end Go.Cx
namespace Go.Cx
open Go.RowKit Go.Proofs Tryz
set_option maxRecDepth 100000
variable{Γ:vJ}{N:Nat->St->Prop}
def ko(aB:aH)(aU:aH)(k1:Option Bool):aH->Nat->Option Bool
 | [],i1=>(k1)
 |bL::bz,i1=>((lF aU (i1:Int)).bind fun x22=>(bif !((bL:Bytes)==x22)then(some false)else(ko aB aU k1 bz (i1+1))))
def o7(aB:aH)(aU:aH):Option Bool:=(bif (((aB.map tx).length:Int):Int) != ((aU.map tx).length:Int)then(some false)else(ko aB aU (some true) aB 0))
def F7(aB:aH)(aU:aH)(cR:Int):St:=⟨[(0,D.sl (aB.map tx)),(1,D.sl (aU.map tx)),(5,D.int .i64 cR)],[]⟩
theorem DU(hΓ:Γ.nt=26){aB:aH}{aU:aH}{r:Bool}{k1:Option Bool}(cc:k1=some r->Ax Γ N f74 (.q [[none]] (D.bool r)) [1,1,1] ⟨[],[]⟩)(hm1:aB.length<=maxLen):∀(rest:aH) (i1:Nat),aB.drop i1=rest->ko aB aU k1 rest i1=some r->Ar Γ N f74 (.q [[none]] (D.bool r)) [1,1,0,1,0] (rest.length+1) (F7 aB aU (i1:Int)):=by
 intro rest
 induction rest with
 |nil=>
  intro i1 aq h;rw[ko]at h;refine aP fun N1 cC br=>?_
  exact((aT.ge tx aq).a [.hl 0 [] []]).ex hΓ cC (cc h)
 |cons bL bz ih1=>
  intro i1 aq h;rw[ko]at h;refine aP fun N1 cC br=>?_
  obtain⟨x22,h23,h⟩:=aE h;have eH:=((((aT.lt tx aq).a [.n 8]).l (az tx 1 (dc aq) rfl)).l (eA tx 1 h23 rfl))
  obtain⟨h24,h⟩|⟨h24,h⟩:=aM h
  ·have h:=aI h;subst h;exact(eH.b h24).ret hΓ
  ·exact((eH.b h24).a [.cn [0,1,5] []]).ct hΓ br (iS aq hm1) (ih1 (i1+1) (dn aq) h)
theorem wJ{aB:aH}{aU:aH}{r:Bool}(h:o7 aB aU=some r):Good prog 74 [D.sl (aB.map tx),D.sl (aU.map tx)] (D.bool r):=by
 refine gd func74 [[none]] 26 fun hr Γ hΓ=>?_
 rw[o7]at h;obtain⟨h1,h⟩|⟨h1,h⟩:=aM h
 ·have h:=aI h;subst h;exact(aT.b h1).ret hΓ
 ·refine((aT.b h1).a [.cn [0,1,5] []]).lp hΓ (DU hΓ (fun h=>?_) (by have:=(eN.sl (hr _ (aD (i:=0) rfl))).1;simpa using this) aB 0 rfl h);have h:=aI h;subst h;exact aT.ret hΓ
def o6(aB:aC)(aU:aC):Option Bool:=(bif !((aB.rel:Bytes)==aU.rel)then(some false)else((o7 aB.args aU.args).bind fun y2=>(bif !(y2)then(some false)else(some true))))
theorem wI{aB:aC}{aU:aC}{r:Bool}(h:o6 aB aU=some r):Good prog 186 [D.agg (aC.c aB),D.agg (aC.c aU)] (D.bool r):=by
 refine gd func186 [[none]] 16 fun hr Γ hΓ=>?_
 rw[o6]at h;obtain⟨h1,h⟩|⟨h1,h⟩:=aM h
 ·have h:=aI h;subst h;exact(aT.b h1).ret hΓ
 ·obtain⟨y2,h3,h⟩:=aE h;have mQ:=((aT.b h1).g (wJ h3))
  obtain⟨h4,h⟩|⟨h4,h⟩:=aM h
  ·have h:=aI h;subst h;exact(mQ.b h4).ret hΓ
  ·have h:=aI h;subst h;exact(mQ.b h4).ret hΓ
def sI(aB:aL)(aU:aL):Option Bool:=(bif (aB.kind:Int) != aU.kind then(some false)else((o6 aB.pat aU.pat).bind fun y2=>(bif !(y2)then(some false)else(bif !((aB.left:Bytes)==aU.left)then(some false)else(bif !((aB.right:Bytes)==aU.right)then(some false)else(some true))))))
theorem Ga{aB:aL}{aU:aL}{r:Bool}(h:sI aB aU=some r):Good prog 187 [D.agg (aL.c aB),D.agg (aL.c aU)] (D.bool r):=by
 refine gd func187 [[none]] 26 fun hr Γ hΓ=>?_
 rw[sI]at h;obtain⟨h1,h⟩|⟨h1,h⟩:=aM h
 ·have h:=aI h;subst h;exact(aT.b h1).ret hΓ
 ·obtain⟨y2,h3,h⟩:=aE h;have mQ:=((aT.b h1).g (wI h3))
  obtain⟨h4,h⟩|⟨h4,h⟩:=aM h
  ·have h:=aI h;subst h;exact(mQ.b h4).ret hΓ
  ·obtain⟨h5,h⟩|⟨h5,h⟩:=aM h
   ·have h:=aI h;subst h;exact((mQ.b h4).b h5).ret hΓ
   ·have eH:=((mQ.b h4).b h5)
    obtain⟨h6,h⟩|⟨h6,h⟩:=aM h
    ·have h:=aI h;subst h;exact(eH.b h6).ret hΓ
    ·have h:=aI h;subst h;exact(eH.b h6).ret hΓ
def mh(aB:ai)(aU:ai)(k1:Option Bool):ai->Nat->Option Bool
 | [],i1=>(k1)
 |bL::bz,i1=>((lF aU (i1:Int)).bind fun x30=>((sI bL x30).bind fun JB=>(bif !(JB)then(some false)else(mh aB aU k1 bz (i1+1)))))
def tO(aB:ai)(aU:ai):Option Bool:=(bif (((aB.map aL.c).length:Int):Int) != ((aU.map aL.c).length:Int)then(some false)else(mh aB aU (some true) aB 0))
def Hz(aB:ai)(aU:ai)(cR:Int):St:=⟨[(0,D.sl (aB.map aL.c)),(1,D.sl (aU.map aL.c)),(5,D.int .i64 cR)],[]⟩
theorem GZ(hΓ:Γ.nt=27){aB:ai}{aU:ai}{r:Bool}{k1:Option Bool}(cc:k1=some r->Ax Γ N f146 (.q [[none]] (D.bool r)) [1,1,1] ⟨[],[]⟩)(hm1:aB.length<=maxLen):∀(rest:ai) (i1:Nat),aB.drop i1=rest->mh aB aU k1 rest i1=some r->Ar Γ N f146 (.q [[none]] (D.bool r)) [1,1,0,1,0] (rest.length+1) (Hz aB aU (i1:Int)):=by
 intro rest
 induction rest with
 |nil=>
  intro i1 aq h;rw[mh]at h;refine aP fun N1 cC br=>?_
  exact((aT.ge aL.c aq).a [.hl 0 [] []]).ex hΓ cC (cc h)
 |cons bL bz ih1=>
  intro i1 aq h;rw[mh]at h;refine aP fun N1 cC br=>?_
  obtain⟨x30,h31,h⟩:=aE h;obtain⟨JB,h33,h⟩:=aE h;have eH:=(((((aT.lt aL.c aq).a [.n 8]).l (az aL.c 5 (dc aq) rfl)).l (eA aL.c 5 h31 rfl)).g (Ga h33))
  obtain⟨h34,h⟩|⟨h34,h⟩:=aM h
  ·have h:=aI h;subst h;exact(eH.b h34).ret hΓ
  ·exact((eH.b h34).a [.cn [0,1,5] []]).ct hΓ br (iS aq hm1) (ih1 (i1+1) (dn aq) h)
theorem F4{aB:ai}{aU:ai}{r:Bool}(h:tO aB aU=some r):Good prog 146 [D.sl (aB.map aL.c),D.sl (aU.map aL.c)] (D.bool r):=by
 refine gd func146 [[none]] 27 fun hr Γ hΓ=>?_
 rw[tO]at h;obtain⟨h1,h⟩|⟨h1,h⟩:=aM h
 ·have h:=aI h;subst h;exact(aT.b h1).ret hΓ
 ·refine((aT.b h1).a [.cn [0,1,5] []]).lp hΓ (GZ hΓ (fun h=>?_) (by have:=(eN.sl (hr _ (aD (i:=0) rfl))).1;simpa using this) aB 0 rfl h);have h:=aI h;subst h;exact aT.ret hΓ
def p7(aB:Action)(aU:Action):Option Bool:=(bif (aB.kind:Int) != aU.kind then(some false)else((o6 aB.pat aU.pat).bind fun y2=>(bif !(y2)then(some false)else(some true))))
theorem DT{aB:Action}{aU:Action}{r:Bool}(h:p7 aB aU=some r):Good prog 223 [D.agg (Action.c aB),D.agg (Action.c aU)] (D.bool r):=by
 refine gd func223 [[none]] 16 fun hr Γ hΓ=>?_
 rw[p7]at h;obtain⟨h1,h⟩|⟨h1,h⟩:=aM h
 ·have h:=aI h;subst h;exact(aT.b h1).ret hΓ
 ·obtain⟨y2,h3,h⟩:=aE h;have mQ:=((aT.b h1).g (wI h3))
  obtain⟨h4,h⟩|⟨h4,h⟩:=aM h
  ·have h:=aI h;subst h;exact(mQ.b h4).ret hΓ
  ·have h:=aI h;subst h;exact(mQ.b h4).ret hΓ
def kn(aB:cH)(aU:cH)(k1:Option Bool):cH->Nat->Option Bool
 | [],i1=>(k1)
 |bL::bz,i1=>((lF aU (i1:Int)).bind fun x30=>((p7 bL x30).bind fun JB=>(bif !(JB)then(some false)else(kn aB aU k1 bz (i1+1)))))
def qk(aB:cH)(aU:cH):Option Bool:=(bif (((aB.map Action.c).length:Int):Int) != ((aU.map Action.c).length:Int)then(some false)else(kn aB aU (some true) aB 0))
def F3(aB:cH)(aU:cH)(cR:Int):St:=⟨[(0,D.sl (aB.map Action.c)),(1,D.sl (aU.map Action.c)),(5,D.int .i64 cR)],[]⟩
theorem DS(hΓ:Γ.nt=27){aB:cH}{aU:cH}{r:Bool}{k1:Option Bool}(cc:k1=some r->Ax Γ N f147 (.q [[none]] (D.bool r)) [1,1,1] ⟨[],[]⟩)(hm1:aB.length<=maxLen):∀(rest:cH) (i1:Nat),aB.drop i1=rest->kn aB aU k1 rest i1=some r->Ar Γ N f147 (.q [[none]] (D.bool r)) [1,1,0,1,0] (rest.length+1) (F3 aB aU (i1:Int)):=by
 intro rest
 induction rest with
 |nil=>
  intro i1 aq h;rw[kn]at h;refine aP fun N1 cC br=>?_
  exact((aT.ge Action.c aq).a [.hl 0 [] []]).ex hΓ cC (cc h)
 |cons bL bz ih1=>
  intro i1 aq h;rw[kn]at h;refine aP fun N1 cC br=>?_
  obtain⟨x30,h31,h⟩:=aE h;obtain⟨JB,h33,h⟩:=aE h;have eH:=(((((aT.lt Action.c aq).a [.n 8]).l (az Action.c 3 (dc aq) rfl)).l (eA Action.c 3 h31 rfl)).g (DT h33))
  obtain⟨h34,h⟩|⟨h34,h⟩:=aM h
  ·have h:=aI h;subst h;exact(eH.b h34).ret hΓ
  ·exact((eH.b h34).a [.cn [0,1,5] []]).ct hΓ br (iS aq hm1) (ih1 (i1+1) (dn aq) h)
theorem CT{aB:cH}{aU:cH}{r:Bool}(h:qk aB aU=some r):Good prog 147 [D.sl (aB.map Action.c),D.sl (aU.map Action.c)] (D.bool r):=by
 refine gd func147 [[none]] 27 fun hr Γ hΓ=>?_
 rw[qk]at h;obtain⟨h1,h⟩|⟨h1,h⟩:=aM h
 ·have h:=aI h;subst h;exact(aT.b h1).ret hΓ
 ·refine((aT.b h1).a [.cn [0,1,5] []]).lp hΓ (DS hΓ (fun h=>?_) (by have:=(eN.sl (hr _ (aD (i:=0) rfl))).1;simpa using this) aB 0 rfl h);have h:=aI h;subst h;exact aT.ret hΓ
def sK(aB:aK)(aU:aK):Option Bool:=(bif !((aB.name:Bytes)==aU.name)then(some false)else(bif (aB.prio:Int) != aU.prio then(some false)else((tO aB.conds aU.conds).bind fun y3=>(bif !(y3)then(some false)else((qk aB.cU aU.cU).bind fun y6=>(bif !(y6)then(some false)else(some true)))))))
theorem Ge{aB:aK}{aU:aK}{r:Bool}(h:sK aB aU=some r):Good prog 84 [D.agg (aK.c aB),D.agg (aK.c aU)] (D.bool r):=by
 refine gd func84 [[none]] 27 fun hr Γ hΓ=>?_
 rw[sK]at h;obtain⟨h1,h⟩|⟨h1,h⟩:=aM h
 ·have h:=aI h;subst h;exact(aT.b h1).ret hΓ
 ·obtain⟨h2,h⟩|⟨h2,h⟩:=aM h
  ·have h:=aI h;subst h;exact((aT.b h1).b h2).ret hΓ
  ·obtain⟨y3,h4,h⟩:=aE h;have mQ:=(((aT.b h1).b h2).g (F4 h4))
   obtain⟨h5,h⟩|⟨h5,h⟩:=aM h
   ·have h:=aI h;subst h;exact(mQ.b h5).ret hΓ
   ·obtain⟨y6,h7,h⟩:=aE h;have eH:=((mQ.b h5).g (CT h7))
    obtain⟨h8,h⟩|⟨h8,h⟩:=aM h
    ·have h:=aI h;subst h;exact(eH.b h8).ret hΓ
    ·have h:=aI h;subst h;exact(eH.b h8).ret hΓ
def mj(aB:ah)(aU:ah)(k1:Option Bool):ah->Nat->Option Bool
 | [],i1=>(k1)
 |bL::bz,i1=>((lF aU (i1:Int)).bind fun x30=>((sK bL x30).bind fun JB=>(bif !(JB)then(some false)else(mj aB aU k1 bz (i1+1)))))
def tQ(aB:ah)(aU:ah):Option Bool:=(bif (((aB.map aK.c).length:Int):Int) != ((aU.map aK.c).length:Int)then(some false)else(mj aB aU (some true) aB 0))
def I1(aB:ah)(aU:ah)(cR:Int):St:=⟨[(0,D.sl (aB.map aK.c)),(1,D.sl (aU.map aK.c)),(5,D.int .i64 cR)],[]⟩
theorem Gd(hΓ:Γ.nt=27){aB:ah}{aU:ah}{r:Bool}{k1:Option Bool}(cc:k1=some r->Ax Γ N f37 (.q [[none]] (D.bool r)) [1,1,1] ⟨[],[]⟩)(hm1:aB.length<=maxLen):∀(rest:ah) (i1:Nat),aB.drop i1=rest->mj aB aU k1 rest i1=some r->Ar Γ N f37 (.q [[none]] (D.bool r)) [1,1,0,1,0] (rest.length+1) (I1 aB aU (i1:Int)):=by
 intro rest
 induction rest with
 |nil=>
  intro i1 aq h;rw[mj]at h;refine aP fun N1 cC br=>?_
  exact((aT.ge aK.c aq).a [.hl 0 [] []]).ex hΓ cC (cc h)
 |cons bL bz ih1=>
  intro i1 aq h;rw[mj]at h;refine aP fun N1 cC br=>?_
  obtain⟨x30,h31,h⟩:=aE h;obtain⟨JB,h33,h⟩:=aE h;have eH:=(((((aT.lt aK.c aq).a [.n 8]).l (az aK.c 4 (dc aq) rfl)).l (eA aK.c 4 h31 rfl)).g (Ge h33))
  obtain⟨h34,h⟩|⟨h34,h⟩:=aM h
  ·have h:=aI h;subst h;exact(eH.b h34).ret hΓ
  ·exact((eH.b h34).a [.cn [0,1,5] []]).ct hΓ br (iS aq hm1) (ih1 (i1+1) (dn aq) h)
theorem F6{aB:ah}{aU:ah}{r:Bool}(h:tQ aB aU=some r):Good prog 37 [D.sl (aB.map aK.c),D.sl (aU.map aK.c)] (D.bool r):=by
 refine gd func37 [[none]] 27 fun hr Γ hΓ=>?_
 rw[tQ]at h;obtain⟨h1,h⟩|⟨h1,h⟩:=aM h
 ·have h:=aI h;subst h;exact(aT.b h1).ret hΓ
 ·refine((aT.b h1).a [.cn [0,1,5] []]).lp hΓ (Gd hΓ (fun h=>?_) (by have:=(eN.sl (hr _ (aD (i:=0) rfl))).1;simpa using this) aB 0 rfl h);have h:=aI h;subst h;exact aT.ret hΓ
def sJ(aB:aC)(aU:aC):Option Bool:=(bif !((aB.rel:Bytes)==aU.rel)then(some false)else((o7 aB.args aU.args).bind fun y2=>(bif !(y2)then(some false)else(some true))))
theorem Gc{aB:aC}{aU:aC}{r:Bool}(h:sJ aB aU=some r):Good prog 27 [D.agg (aC.c aB),D.agg (aC.c aU)] (D.bool r):=by
 refine gd func27 [[none]] 16 fun hr Γ hΓ=>?_
 rw[sJ]at h;obtain⟨h1,h⟩|⟨h1,h⟩:=aM h
 ·have h:=aI h;subst h;exact(aT.b h1).ret hΓ
 ·obtain⟨y2,h3,h⟩:=aE h;have mQ:=((aT.b h1).g (wJ h3))
  obtain⟨h4,h⟩|⟨h4,h⟩:=aM h
  ·have h:=aI h;subst h;exact(mQ.b h4).ret hΓ
  ·have h:=aI h;subst h;exact(mQ.b h4).ret hΓ
def mi(aB:aJ)(aU:aJ)(k1:Option Bool):aJ->Nat->Option Bool
 | [],i1=>(k1)
 |bL::bz,i1=>((lF aU (i1:Int)).bind fun x30=>((sJ bL x30).bind fun JB=>(bif !(JB)then(some false)else(mi aB aU k1 bz (i1+1)))))
def tP(aB:aJ)(aU:aJ):Option Bool:=(bif (((aB.map aC.c).length:Int):Int) != ((aU.map aC.c).length:Int)then(some false)else(mi aB aU (some true) aB 0))
def I0(aB:aJ)(aU:aJ)(cR:Int):St:=⟨[(0,D.sl (aB.map aC.c)),(1,D.sl (aU.map aC.c)),(5,D.int .i64 cR)],[]⟩
theorem Gb(hΓ:Γ.nt=27){aB:aJ}{aU:aJ}{r:Bool}{k1:Option Bool}(cc:k1=some r->Ax Γ N f18 (.q [[none]] (D.bool r)) [1,1,1] ⟨[],[]⟩)(hm1:aB.length<=maxLen):∀(rest:aJ) (i1:Nat),aB.drop i1=rest->mi aB aU k1 rest i1=some r->Ar Γ N f18 (.q [[none]] (D.bool r)) [1,1,0,1,0] (rest.length+1) (I0 aB aU (i1:Int)):=by
 intro rest
 induction rest with
 |nil=>
  intro i1 aq h;rw[mi]at h;refine aP fun N1 cC br=>?_
  exact((aT.ge aC.c aq).a [.hl 0 [] []]).ex hΓ cC (cc h)
 |cons bL bz ih1=>
  intro i1 aq h;rw[mi]at h;refine aP fun N1 cC br=>?_
  obtain⟨x30,h31,h⟩:=aE h;obtain⟨JB,h33,h⟩:=aE h;have eH:=(((((aT.lt aC.c aq).a [.n 8]).l (az aC.c 2 (dc aq) rfl)).l (eA aC.c 2 h31 rfl)).g (Gc h33))
  obtain⟨h34,h⟩|⟨h34,h⟩:=aM h
  ·have h:=aI h;subst h;exact(eH.b h34).ret hΓ
  ·exact((eH.b h34).a [.cn [0,1,5] []]).ct hΓ br (iS aq hm1) (ih1 (i1+1) (dn aq) h)
theorem F5{aB:aJ}{aU:aJ}{r:Bool}(h:tP aB aU=some r):Good prog 18 [D.sl (aB.map aC.c),D.sl (aU.map aC.c)] (D.bool r):=by
 refine gd func18 [[none]] 27 fun hr Γ hΓ=>?_
 rw[tP]at h;obtain⟨h1,h⟩|⟨h1,h⟩:=aM h
 ·have h:=aI h;subst h;exact(aT.b h1).ret hΓ
 ·refine((aT.b h1).a [.cn [0,1,5] []]).lp hΓ (Gb hΓ (fun h=>?_) (by have:=(eN.sl (hr _ (aD (i:=0) rfl))).1;simpa using this) aB 0 rfl h);have h:=aI h;subst h;exact aT.ret hΓ
end Go.Cx
namespace Go.Cx
open Go.RowKit Go.Proofs Tryz
set_option maxRecDepth 100000
variable{Γ:vJ}{N:Nat->St->Prop}
end Go.Cx
namespace Go.Cx
open Go.RowKit Go.Proofs Tryz
set_option maxRecDepth 100000
variable{Γ:vJ}{N:Nat->St->Prop}
end Go.Cx
namespace Go.Cx
open Go.RowKit Go.Proofs Tryz
theorem BK.sub{a b:aQ}(h:BK a)(hs:∀d∈b,d∈a):BK b:=fun d hd=>h d (hs d hd)
theorem J5(l:aH)(h:eN (.sl (l.map tx)))(v:Int)(h0:0<=v)(h1:v<=1048576):AG (o9 l v) v (oZ tw l):=by
 unfold o9;exact szS h h0 h1 fun v' g0 g1=>szL (w:=tw) (f:=fun x v=>some (IntKind.i64.wrap (v-(x.length:Int)))) (ig l (fun z=>some z)) (fun _ _=>rfl) (fun _ _ _ _=>by simp only[ig,aA]) l (fun x hx v g0 g1=>⟨_,rfl,by rw[Xu ((BK.row h x hx (.str x) (by simp)).str) g0 g1];omega,fun q=>by rw[Xu ((BK.row h x hx (.str x) (by simp)).str) g0 g1]at q⊢;unfold tw;omega⟩) 0 v' g0 g1
theorem J8(l:aH)(h:oZ tw l<=1048576):oB l=some l:=by
 unfold oB;rw[QH (by rw[ax];exact cW (n9 _ _) h) (by decide)];exact toL (c:=tx) (f:=(fun x=>some x)) (ij l (fun q=>some q)) (fun _ _=>rfl) (fun _ _ _ _=>by simp only[ij,aA]) (fun x hx=>rfl)
theorem IX(a b:aH):o7 a b=some (decide (a=b)):=by
 unfold o7;exact R2 (c:=tx) (f:=(fun x y=>some (x==y))) (fun k=>ko a b k) (fun _ _=>rfl) (fun _ _ _ _=>rfl) (fun x y=>by rw[ar,bU];simp)
def aC.wt(x:aC):Nat:=tw x.rel+oZ tw x.args
theorem UT(x:aC)(h:BK x.c)(v:Int)(h0:0<=v)(h1:v<=1048576):AG (sM x v) v (aC.wt x):=by
 unfold sM;refine AG.eq (n:=(tw x.rel+(oZ tw x.args+0))) ?_ (by simp only[aC.wt];omega);refine AG.str (m:=(oZ tw x.args+0)) ((h (.str x.rel) (by simp)).str) h0 h1 fun g1 e1=>?_
 rw[e1];have l1:v-(x.rel.length:Int)<=1048576:=by omega
 refine(J5 x.args (h (.sl (x.args.map tx)) (by simp)) _ g1 l1).sub l1 g1 (m:=0) fun r2 g2 l2=>?_
 exact AG.fin
theorem UZ(x:aC)(h:aC.wt x<=1048576):sP x=some x:=by
 unfold sP;simp only[J8 x.args (by simp only[aC.wt]at h;omega),aA]
theorem To(a b:aC):sJ a b=some (decide (a=b)):=by
 obtain⟨a0,a1⟩:=a;obtain⟨b0,b1⟩:=b;unfold sJ;simp only[IX,aA,gI,bne];by_cases h0:a0=b0<;>by_cases h1:a1=b1<;>simp[h0,h1]
theorem Rt(l:aJ)(h:eN (.sl (l.map aC.c)))(v:Int)(h0:0<=v)(h1:v<=1048576):AG (tS l v) v (oZ aC.wt l):=by
 unfold tS;exact szS h h0 h1 fun v' g0 g1=>szL (w:=aC.wt) (f:=sM) (mo l (fun z=>some z)) (fun _ _=>rfl) (fun _ _ _ _=>rfl) l (fun x hx v g0 g1=>UT x (BK.row h x hx) v g0 g1) 0 v' g0 g1
theorem S0(l:aJ)(h:oZ aC.wt l<=1048576):oL l=some l:=by
 unfold oL;rw[QH (by rw[ax];exact cW (n9 _ _) h) (by decide)];exact toL (c:=aC.c) (f:=sP) (mw l (fun q=>some q)) (fun _ _=>rfl) (fun _ _ _ _=>rfl) (fun x hx=>UZ x (by have:=nZ (w:=aC.wt) hx;omega))
theorem R1(a b:aJ):tP a b=some (decide (a=b)):=by
 unfold tP;exact R2 (c:=aC.c) (f:=sJ) (fun k=>mi a b k) (fun _ _=>rfl) (fun _ _ _ _=>rfl) To
theorem J4(x:aC)(h:BK x.c)(v:Int)(h0:0<=v)(h1:v<=1048576):AG (o8 x v) v (aC.wt x):=by
 unfold o8;refine AG.eq (n:=(tw x.rel+(oZ tw x.args+0))) ?_ (by simp only[aC.wt];omega);refine AG.str (m:=(oZ tw x.args+0)) ((h (.str x.rel) (by simp)).str) h0 h1 fun g1 e1=>?_
 rw[e1];have l1:v-(x.rel.length:Int)<=1048576:=by omega
 refine(J5 x.args (h (.sl (x.args.map tx)) (by simp)) _ g1 l1).sub l1 g1 (m:=0) fun r2 g2 l2=>?_
 exact AG.fin
theorem J7(x:aC)(h:aC.wt x<=1048576):oA x=some x:=by
 unfold oA;simp only[J8 x.args (by simp only[aC.wt]at h;omega),aA]
theorem IW(a b:aC):o6 a b=some (decide (a=b)):=by
 obtain⟨a0,a1⟩:=a;obtain⟨b0,b1⟩:=b;unfold o6;simp only[IX,aA,gI,bne];by_cases h0:a0=b0<;>by_cases h1:a1=b1<;>simp[h0,h1]
def aL.wt(x:aL):Nat:=tw x.pat.rel+oZ tw x.pat.args+tw x.left+tw x.right
theorem US(x:aL)(h:BK x.c)(v:Int)(h0:0<=v)(h1:v<=1048576):AG (sL x v) v (aL.wt x):=by
 unfold sL;refine AG.eq (n:=(aC.wt x.pat+(tw x.left+(tw x.right+0)))) ?_ (by simp only[aL.wt,aC.wt];omega);refine(J4 x.pat (BK.sub h (by intro d hd;simp only[bI,wR,or_false]at hd⊢;rcases hd with rfl|rfl<;>simp)) _ h0 h1).sub h1 h0 (m:=(tw x.left+(tw x.right+0))) fun r1 g1 l1=>?_
 refine AG.str (m:=(tw x.right+0)) ((h (.str x.left) (by simp)).str) g1 l1 fun g2 e2=>?_
 rw[e2];have l2:r1-(x.left.length:Int)<=1048576:=by omega
 refine AG.str (m:=0) ((h (.str x.right) (by simp)).str) g2 l2 fun g3 e3=>?_
 rw[e3];have l3:r1-(x.left.length:Int)-(x.right.length:Int)<=1048576:=by omega
 exact AG.fin
theorem UY(x:aL)(h:aL.wt x<=1048576):sO x=some x:=by
 unfold sO;simp only[J7 x.pat (by simp only[aL.wt,aC.wt]at h⊢;omega),aA]
theorem Tn(a b:aL):sI a b=some (decide (a=b)):=by
 obtain⟨a0,a1,a2,a3⟩:=a;obtain⟨b0,b1,b2,b3⟩:=b;unfold sI;simp only[IW,aA,gI,bne];by_cases h0:a0=b0<;>by_cases h1:a1=b1<;>by_cases h2:a2=b2<;>by_cases h3:a3=b3<;>simp[h0,h1,h2,h3]
theorem Rs(l:ai)(h:eN (.sl (l.map aL.c)))(v:Int)(h0:0<=v)(h1:v<=1048576):AG (tR l v) v (oZ aL.wt l):=by
 unfold tR;exact szS h h0 h1 fun v' g0 g1=>szL (w:=aL.wt) (f:=sL) (mm l (fun z=>some z)) (fun _ _=>rfl) (fun _ _ _ _=>rfl) l (fun x hx v g0 g1=>US x (BK.row h x hx) v g0 g1) 0 v' g0 g1
theorem Rz(l:ai)(h:oZ aL.wt l<=1048576):tU l=some l:=by
 unfold tU;rw[QH (by rw[ax];exact cW (n9 _ _) h) (by decide)];exact toL (c:=aL.c) (f:=sO) (mr l (fun q=>some q)) (fun _ _=>rfl) (fun _ _ _ _=>rfl) (fun x hx=>UY x (by have:=nZ (w:=aL.wt) hx;omega))
theorem Qz(a b:ai):tO a b=some (decide (a=b)):=by
 unfold tO;exact R2 (c:=aL.c) (f:=sI) (fun k=>mh a b k) (fun _ _=>rfl) (fun _ _ _ _=>rfl) Tn
def Action.wt(x:Action):Nat:=tw x.pat.rel+oZ tw x.pat.args
theorem QT(x:Action)(h:BK x.c)(v:Int)(h0:0<=v)(h1:v<=1048576):AG (p8 x v) v (Action.wt x):=by
 unfold p8;refine AG.eq (n:=(aC.wt x.pat+0)) ?_ (by simp only[Action.wt,aC.wt];omega);refine(J4 x.pat (BK.sub h (by intro d hd;simp only[bI,wR,or_false]at hd⊢;rcases hd with rfl|rfl<;>simp)) _ h0 h1).sub h1 h0 (m:=0) fun r1 g1 l1=>?_
 exact AG.fin
theorem QU(x:Action)(h:Action.wt x<=1048576):p9 x=some x:=by
 unfold p9;simp only[J7 x.pat (by simp only[Action.wt,aC.wt]at h⊢;omega),aA]
theorem PU(a b:Action):p7 a b=some (decide (a=b)):=by
 obtain⟨a0,a1⟩:=a;obtain⟨b0,b1⟩:=b;unfold p7;simp only[IW,aA,gI,bne];by_cases h0:a0=b0<;>by_cases h1:a1=b1<;>simp[h0,h1]
theorem Oe(l:cH)(h:eN (.sl (l.map Action.c)))(v:Int)(h0:0<=v)(h1:v<=1048576):AG (ql l v) v (oZ Action.wt l):=by
 unfold ql;exact szS h h0 h1 fun v' g0 g1=>szL (w:=Action.wt) (f:=p8) (kp l (fun z=>some z)) (fun _ _=>rfl) (fun _ _ _ _=>rfl) l (fun x hx v g0 g1=>QT x (BK.row h x hx) v g0 g1) 0 v' g0 g1
theorem Oh(l:cH)(h:oZ Action.wt l<=1048576):qm l=some l:=by
 unfold qm;rw[QH (by rw[ax];exact cW (n9 _ _) h) (by decide)];exact toL (c:=Action.c) (f:=p9) (kq l (fun q=>some q)) (fun _ _=>rfl) (fun _ _ _ _=>rfl) (fun x hx=>QU x (by have:=nZ (w:=Action.wt) hx;omega))
theorem Nt(a b:cH):qk a b=some (decide (a=b)):=by
 unfold qk;exact R2 (c:=Action.c) (f:=p7) (fun k=>kn a b k) (fun _ _=>rfl) (fun _ _ _ _=>rfl) PU
def aK.wt(x:aK):Nat:=tw x.name+oZ aL.wt x.conds+oZ Action.wt x.cU
theorem UU(x:aK)(h:BK x.c)(v:Int)(h0:0<=v)(h1:v<=1048576):AG (sN x v) v (aK.wt x):=by
 unfold sN;refine AG.eq (n:=(tw x.name+(oZ aL.wt x.conds+(oZ Action.wt x.cU+0)))) ?_ (by simp only[aK.wt];omega);refine AG.str (m:=(oZ aL.wt x.conds+(oZ Action.wt x.cU+0))) ((h (.str x.name) (by simp)).str) h0 h1 fun g1 e1=>?_
 rw[e1];have l1:v-(x.name.length:Int)<=1048576:=by omega
 refine(Rs x.conds (h (.sl (x.conds.map aL.c)) (by simp)) _ g1 l1).sub l1 g1 (m:=(oZ Action.wt x.cU+0)) fun r2 g2 l2=>?_
 refine(Oe x.cU (h (.sl (x.cU.map Action.c)) (by simp)) _ g2 l2).sub l2 g2 (m:=0) fun r3 g3 l3=>?_
 exact AG.fin
theorem Ua(x:aK)(h:aK.wt x<=1048576):sQ x=some x:=by
 unfold sQ;simp only[Rz x.conds (by simp only[aK.wt]at h;omega),Oh x.cU (by simp only[aK.wt]at h;omega),aA]
theorem Tp(a b:aK):sK a b=some (decide (a=b)):=by
 obtain⟨a0,a1,a2,a3⟩:=a;obtain⟨b0,b1,b2,b3⟩:=b;unfold sK;simp only[Nt,Qz,aA,gI,bne];by_cases h0:a0=b0<;>by_cases h1:a1=b1<;>by_cases h2:a2=b2<;>by_cases h3:a3=b3<;>simp[h0,h1,h2,h3]
theorem Ru(l:ah)(h:eN (.sl (l.map aK.c)))(v:Int)(h0:0<=v)(h1:v<=1048576):AG (tT l v) v (oZ aK.wt l):=by
 unfold tT;exact szS h h0 h1 fun v' g0 g1=>szL (w:=aK.wt) (f:=sN) (mq l (fun z=>some z)) (fun _ _=>rfl) (fun _ _ _ _=>rfl) l (fun x hx v g0 g1=>UU x (BK.row h x hx) v g0 g1) 0 v' g0 g1
theorem S2(l:ah)(h:oZ aK.wt l<=1048576):oM l=some l:=by
 unfold oM;rw[QH (by rw[ax];exact cW (n9 _ _) h) (by decide)];exact toL (c:=aK.c) (f:=sQ) (n7 l (fun q=>some q)) (fun _ _=>rfl) (fun _ _ _ _=>rfl) (fun x hx=>Ua x (by have:=nZ (w:=aK.wt) hx;omega))
theorem R3(a b:ah):tQ a b=some (decide (a=b)):=by
 unfold tQ;exact R2 (c:=aK.c) (f:=sK) (fun k=>mj a b k) (fun _ _=>rfl) (fun _ _ _ _=>rfl) Tp
end Go.Cx
namespace Go.Cx
open Go.RowKit Go.Proofs Go.Shelf Tryz
theorem Rd.u9{w:World}{v:Value}{s:Bytes}{bs:aX}(h:Rd w v (.str s) bs):∃y:ByteArray,v=.string y/\y.data.toList=s/\y.size<=maxLen/\bs=[]:=by
 cases h with
 |str y hy=>exact⟨y,rfl,rfl,hy,rfl⟩
theorem kz.strs{w:World}{xs:aH}:∀ {cs:bZ} {bs:aX},kz w cs (xs.map D.str) bs->∃ys:List ByteArray,cs=ys.map Value.string/\ys.map (·.data.toList)=xs:=by
 induction xs with
 |nil=>intro cs bs h;cases h;exact⟨[],rfl,rfl⟩
 |cons x xs ih=>
  intro cs bs h;cases h with
  |cons v vs d ds b1 b2 h1 h2 h3=>
   obtain⟨y,e1,e2,_,_⟩:=h2.u9;obtain⟨ys,e3,e4⟩:=ih h3;exact⟨y::ys,by simp[e1,e3],by simp[e2,e4]⟩
theorem Nu(xs:aH):(xs.map tx).flatten=xs.map D.str:=by
 induction xs with
 |nil=>rfl
 |cons x xs ih=>simp[tx,ih]
theorem Calls.txt{P:Program}{f:FuncId}{args:Array Value}{w:World}{r:ByteArray}{Θ:Nat->Nat}(hr:r.size<=maxLen)
 (h:Calls P f args w fun e w'=>e=.returned (.string r)/\Below w.heap.size w w'):
 Calls P f args w (fun e w'=>∃v bs' ts us,e=.returned v/\Below w.heap.size w w'/\BL w' v (.str r.data.toList) bs' ts us/\(∀b∈bs',b<w.heap.size->Θ b=0)/\(∀b∈bs',b∉ts)/\us.Nodup/\
  (∀b∈us,w.heap.size<=b/\Wr w' b)/\∀b∈ts,b∈us):=
 h.mono fun e w' ⟨h1,h2⟩=>⟨_,[],[],[],h1,h2,.v (.cell (.pure (.str r hr))),by simp,by simp,by simp,by simp,by simp⟩
end Go.Cx
namespace Go.Cx
open Go.RowKit Go.Proofs Go.Shelf Go.Sort Tryz
theorem kz.Zf{w:World}{xs:aH}:∀ {cs:bZ} {bs:aX},kz w cs (xs.map D.str) bs->∀x∈xs,x.length<=maxLen:=by
 induction xs with
 |nil=>intro cs bs h x hx;cases hx
 |cons x xs ih=>
  intro cs bs h y hy;cases h with
  |cons v vs d ds b1 b2 h1 h2 h3=>
   obtain⟨s,_,e2,e3,_⟩:=h2.u9;rcases bI.1 hy with rfl|hy
   ·rw[<-e2];exact e3
   ·exact ih h3 y hy
theorem kz.T0{w:World}:∀ {xs:aH},(∀x∈xs,x.length<=maxLen)->kz w (xs.map encStr) (xs.map D.str) []
 | [],_=>.nil
 |x::xs,h=>by
  have h1:Rd w (.string ⟨x.toArray⟩) (.str x) []:=by
   have:=Rd.str (w:=w) ⟨x.toArray⟩ (by have:=h x (by simp);simpa[ByteArray.size]using this);simpa using this
  exact .cons _ _ _ _ [] [] rfl h1 (kz.T0 fun y hy=>h y (by simp[hy]))
theorem PY(xs:aH):(xs.map tx).flatten.all D.flat=true:=by
 rw[Nu];simp[D.flat]
def n8(xs:aH):aH:=xs.mergeSort fun x y=>decide (x<=y)
theorem zK(xs:aH):(n8 xs).Perm xs:=List.mergeSort_perm _ _
theorem Ll{P:Program}{ρ:Ren}(L:Lays.n192 P ρ){e:TypeId}{xs:aH}(hn:xs.length<4611686018427387904):Oz P (ρ.f 192) e 1 (xs.map tx) ((n8 xs).map tx):=by
 refine⟨⟨_,L.f192,rfl,rfl⟩,?_⟩;intro w v cs hsz hrl hown hrd;rw[Nu]at hrd;have hle:=hrd.Zf;obtain⟨ys,rfl,hys⟩:=hrd.strs;have hlen:(n8 xs).length=xs.length:=(zK xs).length_eq;have KX:∀r∈(n8 xs).map tx,r.length=1:=by
  intro r hr;obtain⟨x,_,rfl⟩:=cB.1 hr;rfl
 rcases hown.2 with⟨rfl,h0⟩|⟨g,cap,cur,rfl,hb,Nz,hnc,hcm,hcs,Pk⟩
 ·have hx:xs=[]:=by simpa using h0
  subst hx;refine(Any.sort_Strings_none L none 0 w).mono ?_;rintro e' w' ⟨rfl,rfl⟩;exact⟨rfl,rfl,rfl,rfl,bN _,fun _ _ _=>rfl,KX,[],⟨by simp[hlen],.inl ⟨rfl,by simp[hlen]⟩⟩,by simpa[n8]using kz.nil⟩
 ·rw[ax]at hnc Pk⊢;rw[Nat.mul_one]at Pk hcs;have hyl:ys.length=xs.length:=by rw[<-hys];simp
  have LW:∀j,j<xs.length->cur[j]?=some (encStr xs.toArray[j]!):=by
   intro j hj;have h1:(cur.toList.take xs.length)[j]?=cur[j]?:=by rw[zn hj];simp
   rw[<-h1,Pk,bg];have hj':j<ys.length:=by omega
   rw[aa hj'];have:xs[j]?=some ys[j].data.toList:=by rw[<-hys,bg,aa hj'];rfl
   have hx:xs.toArray[j]! =ys[j].data.toList:=by
    rw[getElem!_pos _ _ (by simpa using hj)];rw[aa hj]at this;simpa using this
   rw[hx];simp[encStr]
  have hH:Holds encStr w g 0 xs.toArray:=by
   intro j hj;have hj:j<xs.length:=by simpa using hj
   refine⟨?_,?_⟩
   ·rw[<-LW j hj];simp[World.cell?,Nz]
   ·simp[World.frozen?,Nz]
  have hblk:g<w.heap.size:=(bG.1 Nz).1;refine(Any.sort_Strings L g 0 cap xs w hH hblk hn).mono ?_;rintro e' w' ⟨rfl,n,os,rfl⟩;have hheap:(grow (putRow encStr (Sort.ahead w n) g 0 (n8 xs).toArray) os).heap=(w.heap.modify g (onCells (putCells encStr 0 (n8 xs).toArray)))++os:=rfl;have LU:∀b,b<w.heap.size->b≠g->(grow (putRow encStr (Sort.ahead w n) g 0 (n8 xs).toArray) os).heap[b]?=w.heap[b]?:=by
   intro b hb hne;rw[hheap,gZ (by simpa using hb),vv,b8 (fun e=>hne e.symm)]
  have hrow:(grow (putRow encStr (Sort.ahead w n) g 0 (n8 xs).toArray) os).heap[g]?=some (.cells (putCells encStr 0 (n8 xs).toArray cur) e (0,0)):=by
   rw[hheap,gZ (by simpa using hblk),vv,bK rfl,Nz];rfl
  refine⟨rfl,rfl,rfl,rfl,by show w.heap.size<=(grow (putRow encStr (Sort.ahead w n) g 0 (n8 xs).toArray) os).heap.size;rw[hheap];simp,fun b hb hne=>LU b hb fun e=>hne (by rw[e];rfl),KX,(n8 xs).map encStr,⟨by simp,.inr ⟨g,cap,_,by simp[hlen],hb,hrow,by simpa[hlen]using hnc,hcm,by simp[putCells,hcs],?_⟩⟩,?_⟩
  ·apply mT;intro j;simp only[ax,Nat.mul_one];by_cases hj:j<(n8 xs).length
   ·have hj2:j<cur.size:=by omega
    rw[zn hj,bg,aa hj];simp[putCells,hj2,hj]
   ·rw[cP (by simp;omega),cP (by simp;omega)]
  ·rw[Nu];exact kz.T0 fun x hx=>hle x ((zK xs).mem_iff.1 hx)
end Go.Cx
namespace Go.Cx
open Go.RowKit Go.Proofs Go.Shelf Go.Lib Tryz
theorem WS(n:Int)(h:rQ .i64 n):(itoa n).length<=20:=by
 have h1: -9223372036854775808<=n:=h.1;have h2:n<=9223372036854775807:=h.2;have key:∀u:Nat,u<=9223372036854775808->nDigits u<=19:=by
  intro u hu;by_cases h0:u=0
  ·subst h0;rw[nDigits_small (by omega)];omega
  ·by_cases hk:nDigits u<=19
   ·exact hk
   ·exfalso;have a2B:∀(k v:Nat),v<10^k->1<=k->nDigits v<=k:=by
     intro k
     induction k with
     |zero=>intro v _ h;omega
     |succ k ih=>
      intro v hv _;by_cases h10:v<10
      ·rw[nDigits_small h10];omega
      ·rw[nDigits_big h10];have h3:v/10<10^k:=by rw[vY]at hv;omega
       have hk1:1<=k:=by
        cases k with
        |zero=>simp at hv;omega
        |succ k=>omega
       have:=ih (v/10) h3 hk1;omega
    have:=a2B 19 u (by omega) (by omega);omega
 unfold itoa;split
 ·rw[aY,decDigits_length];have:=key n.natAbs (by omega);omega
 ·rw[decDigits_length];have:=key n.toNat (by omega);omega
theorem PF(w:World)(k:Nat)(os:Array Obj):Below w.heap.size w (Sort.grow (w.drewN k) os):=
 ⟨rfl,rfl,rfl,by show w.heap.size<=(w.heap++os).size;simp,fun b hb=>by show(w.heap++os)[b]?=_;rw[gZ hb]⟩
theorem Pw{P:Program}{ρ:Ren}(L:LaysM.n171 P ρ){g:Nat}(hg:P.globalNamed "internal/strconv.uint64pow10" =some g)(hx:(g,fun cs:bZ=>cs=pow10Tab.map fun z=>Value.int .u64 z)∈xR){n:Int}:
 Good P (ρ.f 171) [.int .i64 n] (.str (itoa n)):=by
 refine⟨⟨_,L.f171,rfl,rfl⟩,?_⟩;intro w Θ args bs hv ha _ _ _;obtain _|⟨v1,_,_,_,b1,_,h1,ha⟩:=ha;cases ha;cases h1 with
 |int _ _ hr=>
  have h0: -9223372036854775808<=n:=hr.1;have h1:n<=9223372036854775807:=hr.2;have hl:=WS n hr;have ht:TabIs P w "internal/strconv.uint64pow10" .u64 pow10Tab:=by
   obtain⟨cs,h2,h3⟩:=hv.var hx hg;have h4:cs=(pow10Tab.map fun z=>Value.int .u64 z).toArray:=by rw[<-h3]
   rw[h4]at h2;exact h2
  have:=Calls.txt (Θ:=Θ) (r:=⟨(itoa n).toArray⟩) (by show(itoa n).toArray.size<=maxLen;rw[zZ];unfold maxLen;omega)
   ((Any.strconv_Itoa L n h0 h1 w ht).mono fun e w' ⟨k1,k,os,k2⟩=>⟨k1,by subst k2;exact PF w k os⟩)
  simpa using this
end Go.Cx
namespace Go.Cx
open Go.RowKit Go.Proofs Go.Shelf Go.Lib Tryz
theorem PE(w:World)(t5:TypeId)(t:ByteArray):Below w.heap.size w (Lib.bytesWorld w t5 t):=Lib.bytesWorld_below _ _ _
def OB(s:Bytes):Option (Int×Bool):=if s.length<=18 then(match Lib.atoi s with|some n=>some (n,false)|none=>some (0,true))else none
theorem Pv{P:Program}{ρ:Ren}(L:LaysC.n172 P ρ){g:Nat}(hg:P.globalNamed "strconv.ErrSyntax" =some g)(hx:(g,fun cs:bZ=>∃tp p,cs=[Value.iface tp p])∈xR){s:Bytes}{r:Int×Bool}(h:OB s=some r):
 Good P (ρ.f 172) [.str s] (.hY [.int .i64 r.1,.ifc r.2]):=by
 refine⟨⟨_,L.f172,rfl,rfl⟩,?_⟩;intro w Θ args bs hv ha _ _ _;obtain _|⟨v1,_,_,_,b1,_,h1,ha⟩:=ha;cases ha;obtain⟨y,rfl,rfl,_,_⟩:=h1.u9;unfold OB at h;split at h
 ·rename_i hl;have hl':y.size<=18:=by simpa using hl
  split at h
  ·rename_i n hn;cases h;have hb:=Lib.atoi_bound hn hl;refine(Any.strconv_Atoi L.toM.ton172 y n hl' hn w).mono ?_;rintro e w' ⟨rfl,t,rfl⟩;exact⟨_,[],[],[],rfl,PE _ _ _,.hY [.int .i64 n,.nilIface] [.int .i64 n,.ifc false] [] [] [] (.cons _ _ _ _ [] [] [] [] [] [] (.cell (.pure (.int _ _ (rQ.i64.2 (by omega))))) (.cons _ _ _ _ [] [] [] [] [] [] (.cell (.pure .Tz)) .nil)),by simp,by simp,by simp,by simp,by simp⟩
  ·rename_i hn;cases h;obtain⟨cs,h2,tp,p,h3⟩:=hv.var hx hg;have h4:cs= #[.iface tp p]:=by rw[<-tg,h3]
   rw[h4]at h2;refine(Any.strconv_Atoi_err_var L y hl' hn tp p w h2).mono ?_;rintro e w' ⟨N,rfl,_,_,Yf⟩;exact⟨_,[],[],[],rfl,Yf,.hY [.int .i64 0,.iface _ _] [.int .i64 0,.ifc true] [] [] [] (.cons _ _ _ _ [] [] [] [] [] [] (.cell (.pure (.int _ _ (rQ.zero _)))) (.cons _ _ _ _ [] [] [] [] [] [] (.cell (.pure (.U0 _ _))) .nil)),by simp,by simp,by simp,by simp,by simp⟩
 ·cases h
theorem SV:∀(a b:Bytes), -1<=Lib.compareBytes a b/\Lib.compareBytes a b<=1
 | [],[]=>by simp[Lib.compareBytes]
 | [],_::_=>by simp[Lib.compareBytes]
 |_::_,[]=>by simp[Lib.compareBytes]
 |a::xs,b::ys=>by
  simp only[Lib.compareBytes];split
  ·omega
  ·split
   ·omega
   ·exact SV xs ys
theorem Lj{P:Program}{ρ:Ren}(L:Lays.n106 P ρ){a b:Bytes}:Good P (ρ.f 106) [.str a,.str b] (.int .i64 (Lib.compareBytes a b)):=by
 refine⟨⟨_,L.f106,rfl,rfl⟩,?_⟩;intro w Θ args bs hv ha _ _ _;obtain _|⟨v1,_,_,_,b1,_,h1,ha⟩:=ha;obtain _|⟨v2,_,_,_,b2,_,h2,ha⟩:=ha;cases ha;obtain⟨y,rfl,rfl,_,_⟩:=h1.u9;obtain⟨z,rfl,rfl,_,_⟩:=h2.u9;have hc:=SV y.data.toList z.data.toList;refine(Any.strings_Compare L y z w).mono ?_;rintro e w' ⟨rfl,rfl⟩;exact⟨_,[],[],[],rfl,Below.refl _ _,.v (.cell (.pure (.int _ _ (rQ.i64.2 (by omega))))),by simp,by simp,by simp,by simp,by simp⟩
end Go.Cx
namespace Go.Cx
open Go.RowKit Go.Proofs Go.Shelf Tryz
def Py:Ren:=⟨fun|192=>266|190=>278|125=>288|258=>287|128=>301|129=>302|302=>292|303=>293|304=>294|305=>295|306=>296|307=>297|308=>298|309=>299|310=>300|333=>312|329=>313|330=>314|334=>315|335=>316|336=>317|344=>325|n=>n,fun|31=>46|0=>0|9=>9|3=>3|46=>254|51=>266|53=>268|4=>4|183=>259|182=>258|131=>237|5=>5|218=>279|222=>283|228=>296|229=>186|n=>n,fun|n=>n⟩
theorem ZA:Lays.n192 prog Py:= {
 mixed:=by kernel_rfl,
 f125:=func288.trans (congrArg some (by kernel_rfl)),
 f128:=func301.trans (congrArg some (by kernel_rfl)),
 f129:=func302.trans (congrArg some (by kernel_rfl)),
 f190:=func278.trans (congrArg some (by kernel_rfl)),
 f192:=func266.trans (congrArg some (by kernel_rfl)),
 f258:=func287.trans (congrArg some (by kernel_rfl)),
 f302:=func292.trans (congrArg some (by kernel_rfl)),
 f303:=func293.trans (congrArg some (by kernel_rfl)),
 f304:=func294.trans (congrArg some (by kernel_rfl)),
 f305:=func295.trans (congrArg some (by kernel_rfl)),
 f306:=func296.trans (congrArg some (by kernel_rfl)),
 f307:=func297.trans (congrArg some (by kernel_rfl)),
 f308:=func298.trans (congrArg some (by kernel_rfl)),
 f309:=func299.trans (congrArg some (by kernel_rfl)),
 f310:=func300.trans (congrArg some (by kernel_rfl)),
 f329:=func313.trans (congrArg some (by kernel_rfl)),
 f330:=func314.trans (congrArg some (by kernel_rfl)),
 f333:=func312.trans (congrArg some (by kernel_rfl)),
 f334:=func315.trans (congrArg some (by kernel_rfl)),
 f335:=func316.trans (congrArg some (by kernel_rfl)),
 f336:=func317.trans (congrArg some (by kernel_rfl)),
 f344:=func325.trans (congrArg some (by kernel_rfl)),
 t0:=underlying0,
 a0:=Tryz.isAgg0,
 z0:=Tryz.sizeOf0,
 v0:=Tryz.zeroValue0,
 t3:=underlying3,
 a3:=Tryz.isAgg3,
 z3:=Tryz.sizeOf3,
 v3:=Tryz.zeroValue3,
 t4:=underlying4,
 a4:=Tryz.isAgg4,
 z4:=Tryz.sizeOf4,
 v4:=Tryz.zeroValue4,
 t5:=underlying5,
 a5:=Tryz.isAgg5,
 z5:=Tryz.sizeOf5,
 v5:=Tryz.zeroValue5,
 t9:=underlying9,
 a9:=Tryz.isAgg9,
 z9:=Tryz.sizeOf9,
 v9:=Tryz.zeroValue9,
 t31:=underlying46,
 a31:=Tryz.isAgg46,
 z31:=Tryz.sizeOf46,
 v31:=Tryz.zeroValue46,
 t46:=underlying254,
 a46:=Tryz.isAgg254,
 z46:=Tryz.sizeOf254,
 v46:=Tryz.zeroValue254,
 t51:=underlying266,
 a51:=Tryz.isAgg266,
 z51:=Tryz.sizeOf266,
 v51:=Tryz.zeroValue266,
 t53:=underlying268,
 a53:=Tryz.isAgg268,
 z53:=Tryz.sizeOf268,
 v53:=Tryz.zeroValue268,
 t131:=underlying237,
 a131:=Tryz.isAgg237,
 z131:=Tryz.sizeOf237,
 v131:=Tryz.zeroValue237,
 t182:=underlying258,
 a182:=Tryz.isAgg258,
 z182:=Tryz.sizeOf258,
 v182:=Tryz.zeroValue258,
 t183:=underlying259,
 a183:=Tryz.isAgg259,
 z183:=Tryz.sizeOf259,
 v183:=Tryz.zeroValue259,
 t218:=underlying279,
 a218:=Tryz.isAgg279,
 z218:=Tryz.sizeOf279,
 v218:=Tryz.zeroValue279,
 t222:=underlying283,
 a222:=Tryz.isAgg283,
 z222:=Tryz.sizeOf283,
 v222:=Tryz.zeroValue283,
 t228:=underlying296,
 a228:=Tryz.isAgg296,
 z228:=Tryz.sizeOf296,
 v228:=Tryz.zeroValue296,
 t229:=underlying186,
 a229:=Tryz.isAgg186,
 z229:=Tryz.sizeOf186,
 v229:=Tryz.zeroValue186}
theorem FD{e:TypeId}{xs:aH}(hn:xs.length<4611686018427387904):Oz prog 266 e 1 (xs.map tx) ((n8 xs).map tx):=Ll ZA hn
def K9:Ren:=⟨fun|171=>274|243=>285|246=>291|283=>308|284=>309|285=>310|286=>311|129=>302|317=>321|318=>322|319=>323|320=>324|337=>328|338=>329|n=>n,fun|3=>3|9=>9|2=>2|4=>4|171=>275|0=>0|53=>268|37=>150|5=>5|173=>277|212=>293|51=>266|20=>20|213=>294|46=>254|232=>303|233=>304|n=>n,fun|17=>3|18=>4|19=>5|n=>n⟩
theorem Z8:Lays.n171 prog K9:= {
 mixed:=by kernel_rfl,
 f129:=func302.trans (congrArg some (by kernel_rfl)),
 f171:=func274.trans (congrArg some (by kernel_rfl)),
 f243:=func285.trans (congrArg some (by kernel_rfl)),
 f246:=func291.trans (congrArg some (by kernel_rfl)),
 f283:=func308.trans (congrArg some (by kernel_rfl)),
 f284:=func309.trans (congrArg some (by kernel_rfl)),
 f285:=func310.trans (congrArg some (by kernel_rfl)),
 f286:=func311.trans (congrArg some (by kernel_rfl)),
 f317:=func321.trans (congrArg some (by kernel_rfl)),
 f318:=func322.trans (congrArg some (by kernel_rfl)),
 f319:=func323.trans (congrArg some (by kernel_rfl)),
 f320:=func324.trans (congrArg some (by kernel_rfl)),
 f337:=func328.trans (congrArg some (by kernel_rfl)),
 f338:=func329.trans (congrArg some (by kernel_rfl)),
 t0:=underlying0,
 a0:=Tryz.isAgg0,
 z0:=Tryz.sizeOf0,
 v0:=Tryz.zeroValue0,
 t2:=underlying2,
 a2:=Tryz.isAgg2,
 z2:=Tryz.sizeOf2,
 v2:=Tryz.zeroValue2,
 t3:=underlying3,
 a3:=Tryz.isAgg3,
 z3:=Tryz.sizeOf3,
 v3:=Tryz.zeroValue3,
 t4:=underlying4,
 a4:=Tryz.isAgg4,
 z4:=Tryz.sizeOf4,
 v4:=Tryz.zeroValue4,
 t5:=underlying5,
 a5:=Tryz.isAgg5,
 z5:=Tryz.sizeOf5,
 v5:=Tryz.zeroValue5,
 t9:=underlying9,
 a9:=Tryz.isAgg9,
 z9:=Tryz.sizeOf9,
 v9:=Tryz.zeroValue9,
 t20:=underlying20,
 a20:=Tryz.isAgg20,
 z20:=Tryz.sizeOf20,
 v20:=Tryz.zeroValue20,
 t37:=underlying150,
 a37:=Tryz.isAgg150,
 z37:=Tryz.sizeOf150,
 v37:=Tryz.zeroValue150,
 t46:=underlying254,
 a46:=Tryz.isAgg254,
 z46:=Tryz.sizeOf254,
 v46:=Tryz.zeroValue254,
 t51:=underlying266,
 a51:=Tryz.isAgg266,
 z51:=Tryz.sizeOf266,
 v51:=Tryz.zeroValue266,
 t53:=underlying268,
 a53:=Tryz.isAgg268,
 z53:=Tryz.sizeOf268,
 v53:=Tryz.zeroValue268,
 t171:=underlying275,
 a171:=Tryz.isAgg275,
 z171:=Tryz.sizeOf275,
 v171:=Tryz.zeroValue275,
 t173:=underlying277,
 a173:=Tryz.isAgg277,
 z173:=Tryz.sizeOf277,
 v173:=Tryz.zeroValue277,
 t212:=underlying293,
 a212:=Tryz.isAgg293,
 z212:=Tryz.sizeOf293,
 v212:=Tryz.zeroValue293,
 t213:=underlying294,
 a213:=Tryz.isAgg294,
 z213:=Tryz.sizeOf294,
 t232:=underlying303,
 a232:=Tryz.isAgg303,
 z232:=Tryz.sizeOf303,
 v232:=Tryz.zeroValue303,
 t233:=underlying304,
 a233:=Tryz.isAgg304,
 z233:=Tryz.sizeOf304,
 v233:=Tryz.zeroValue304,
 g17:=by kernel_rfl,
 g18:=by kernel_rfl,
 g19:=by kernel_rfl}
theorem WY:LaysM.n171 prog K9:= {Z8 with
 i0:=by kernel_rfl,
 i2:=by kernel_rfl,
 i3:=by kernel_rfl,
 i4:=by kernel_rfl,
 i5:=by kernel_rfl,
 i9:=by kernel_rfl,
 i20:=by kernel_rfl,
 i37:=by kernel_rfl,
 i46:=by kernel_rfl,
 i51:=by kernel_rfl,
 i53:=by kernel_rfl,
 i171:=by kernel_rfl,
 i173:=by kernel_rfl,
 i212:=by kernel_rfl,
 i232:=by kernel_rfl,
 i233:=by kernel_rfl,
 m17:=by kernel_rfl,
 m18:=by kernel_rfl,
 m19:=by kernel_rfl}
def zC(aB:Int):Option Bytes:=(fun n:Int=>some (Lib.itoa n)) aB
theorem Fh{aB:Int}{r:Bytes}(h:zC aB=some r):Good prog 274 [.int .i64 aB] (.str r):=by cases h;exact Pw WY (g:=3) (by kernel_rfl) (aD (i:=0) (by kernel_rfl))
def EB:Ren:=⟨fun|172=>280|244=>289|245=>290|247=>303|279=>304|280=>305|281=>306|282=>307|287=>318|316=>319|171=>274|205=>320|321=>326|322=>327|243=>285|246=>291|283=>308|284=>309|285=>310|286=>311|129=>302|317=>321|318=>322|319=>323|320=>324|337=>328|338=>329|n=>n,fun|9=>9|3=>3|75=>245|76=>246|4=>4|5=>5|167=>269|37=>150|0=>0|85=>270|2=>2|168=>272|53=>268|175=>285|46=>254|210=>289|127=>299|145=>302|143=>300|21=>21|171=>275|173=>277|212=>293|51=>266|20=>20|213=>294|232=>303|233=>304|80=>305|n=>n,fun|15=>1|16=>2|17=>3|18=>4|19=>5|n=>n⟩
theorem Z9:Lays.n172 prog EB:= {
 mixed:=by kernel_rfl,
 f129:=func302.trans (congrArg some (by kernel_rfl)),
 f171:=func274.trans (congrArg some (by kernel_rfl)),
 f172:=func280.trans (congrArg some (by kernel_rfl)),
 f205:=func320.trans (congrArg some (by kernel_rfl)),
 f243:=func285.trans (congrArg some (by kernel_rfl)),
 f244:=func289.trans (congrArg some (by kernel_rfl)),
 f245:=func290.trans (congrArg some (by kernel_rfl)),
 f246:=func291.trans (congrArg some (by kernel_rfl)),
 f247:=func303.trans (congrArg some (by kernel_rfl)),
 f279:=func304.trans (congrArg some (by kernel_rfl)),
 f280:=func305.trans (congrArg some (by kernel_rfl)),
 f281:=func306.trans (congrArg some (by kernel_rfl)),
 f282:=func307.trans (congrArg some (by kernel_rfl)),
 f283:=func308.trans (congrArg some (by kernel_rfl)),
 f284:=func309.trans (congrArg some (by kernel_rfl)),
 f285:=func310.trans (congrArg some (by kernel_rfl)),
 f286:=func311.trans (congrArg some (by kernel_rfl)),
 f287:=func318.trans (congrArg some (by kernel_rfl)),
 f316:=func319.trans (congrArg some (by kernel_rfl)),
 f317:=func321.trans (congrArg some (by kernel_rfl)),
 f318:=func322.trans (congrArg some (by kernel_rfl)),
 f319:=func323.trans (congrArg some (by kernel_rfl)),
 f320:=func324.trans (congrArg some (by kernel_rfl)),
 f321:=func326.trans (congrArg some (by kernel_rfl)),
 f322:=func327.trans (congrArg some (by kernel_rfl)),
 f337:=func328.trans (congrArg some (by kernel_rfl)),
 f338:=func329.trans (congrArg some (by kernel_rfl)),
 t0:=underlying0,
 a0:=Tryz.isAgg0,
 z0:=Tryz.sizeOf0,
 v0:=Tryz.zeroValue0,
 t2:=underlying2,
 a2:=Tryz.isAgg2,
 z2:=Tryz.sizeOf2,
 v2:=Tryz.zeroValue2,
 t3:=underlying3,
 a3:=Tryz.isAgg3,
 z3:=Tryz.sizeOf3,
 v3:=Tryz.zeroValue3,
 t4:=underlying4,
 a4:=Tryz.isAgg4,
 z4:=Tryz.sizeOf4,
 v4:=Tryz.zeroValue4,
 t5:=underlying5,
 a5:=Tryz.isAgg5,
 z5:=Tryz.sizeOf5,
 v5:=Tryz.zeroValue5,
 t9:=underlying9,
 a9:=Tryz.isAgg9,
 z9:=Tryz.sizeOf9,
 v9:=Tryz.zeroValue9,
 t20:=underlying20,
 a20:=Tryz.isAgg20,
 z20:=Tryz.sizeOf20,
 v20:=Tryz.zeroValue20,
 t21:=underlying21,
 a21:=Tryz.isAgg21,
 z21:=Tryz.sizeOf21,
 v21:=Tryz.zeroValue21,
 t37:=underlying150,
 a37:=Tryz.isAgg150,
 z37:=Tryz.sizeOf150,
 v37:=Tryz.zeroValue150,
 t46:=underlying254,
 a46:=Tryz.isAgg254,
 z46:=Tryz.sizeOf254,
 v46:=Tryz.zeroValue254,
 t51:=underlying266,
 a51:=Tryz.isAgg266,
 z51:=Tryz.sizeOf266,
 v51:=Tryz.zeroValue266,
 t53:=underlying268,
 a53:=Tryz.isAgg268,
 z53:=Tryz.sizeOf268,
 v53:=Tryz.zeroValue268,
 t75:=underlying245,
 a75:=Tryz.isAgg245,
 z75:=Tryz.sizeOf245,
 v75:=Tryz.zeroValue245,
 t76:=underlying246,
 a76:=Tryz.isAgg246,
 z76:=Tryz.sizeOf246,
 v76:=Tryz.zeroValue246,
 t85:=underlying270,
 a85:=Tryz.isAgg270,
 z85:=Tryz.sizeOf270,
 v85:=Tryz.zeroValue270,
 t127:=underlying299,
 a127:=Tryz.isAgg299,
 z127:=Tryz.sizeOf299,
 v127:=Tryz.zeroValue299,
 t143:=underlying300,
 a143:=Tryz.isAgg300,
 z143:=Tryz.sizeOf300,
 v143:=Tryz.zeroValue300,
 t145:=underlying302,
 a145:=Tryz.isAgg302,
 z145:=Tryz.sizeOf302,
 v145:=Tryz.zeroValue302,
 t167:=underlying269,
 a167:=Tryz.isAgg269,
 z167:=Tryz.sizeOf269,
 v167:=Tryz.zeroValue269,
 t168:=underlying272,
 a168:=Tryz.isAgg272,
 z168:=Tryz.sizeOf272,
 v168:=Tryz.zeroValue272,
 t171:=underlying275,
 a171:=Tryz.isAgg275,
 z171:=Tryz.sizeOf275,
 v171:=Tryz.zeroValue275,
 t173:=underlying277,
 a173:=Tryz.isAgg277,
 z173:=Tryz.sizeOf277,
 v173:=Tryz.zeroValue277,
 t175:=underlying285,
 a175:=Tryz.isAgg285,
 z175:=Tryz.sizeOf285,
 v175:=Tryz.zeroValue285,
 t210:=underlying289,
 a210:=Tryz.isAgg289,
 z210:=Tryz.sizeOf289,
 v210:=Tryz.zeroValue289,
 t212:=underlying293,
 a212:=Tryz.isAgg293,
 z212:=Tryz.sizeOf293,
 v212:=Tryz.zeroValue293,
 t213:=underlying294,
 a213:=Tryz.isAgg294,
 z213:=Tryz.sizeOf294,
 t232:=underlying303,
 a232:=Tryz.isAgg303,
 z232:=Tryz.sizeOf303,
 v232:=Tryz.zeroValue303,
 t233:=underlying304,
 a233:=Tryz.isAgg304,
 z233:=Tryz.sizeOf304,
 v233:=Tryz.zeroValue304,
 g15:=by kernel_rfl,
 g16:=by kernel_rfl,
 g17:=by kernel_rfl,
 g18:=by kernel_rfl,
 g19:=by kernel_rfl}
theorem WZ:LaysM.n172 prog EB:= {Z9 with
 t80:=underlying305,
 a80:=Tryz.isAgg305,
 z80:=Tryz.sizeOf305,
 v80:=Tryz.zeroValue305,
 i0:=by kernel_rfl,
 i2:=by kernel_rfl,
 i3:=by kernel_rfl,
 i4:=by kernel_rfl,
 i5:=by kernel_rfl,
 i9:=by kernel_rfl,
 i20:=by kernel_rfl,
 i21:=by kernel_rfl,
 i37:=by kernel_rfl,
 i46:=by kernel_rfl,
 i51:=by kernel_rfl,
 i53:=by kernel_rfl,
 i75:=by kernel_rfl,
 i76:=by kernel_rfl,
 i80:=by kernel_rfl,
 i85:=by kernel_rfl,
 i127:=by kernel_rfl,
 i143:=by kernel_rfl,
 i145:=by kernel_rfl,
 i167:=by kernel_rfl,
 i168:=by kernel_rfl,
 i171:=by kernel_rfl,
 i173:=by kernel_rfl,
 i175:=by kernel_rfl,
 i210:=by kernel_rfl,
 i212:=by kernel_rfl,
 i232:=by kernel_rfl,
 i233:=by kernel_rfl,
 m15:=by kernel_rfl,
 m16:=by kernel_rfl,
 m17:=by kernel_rfl,
 m18:=by kernel_rfl,
 m19:=by kernel_rfl}
theorem WX:LaysC.n172 prog EB:= {WZ with
 c0:=by kernel_rfl,
 c2:=by kernel_rfl,
 c3:=by kernel_rfl,
 c4:=by kernel_rfl,
 c5:=by kernel_rfl,
 c9:=by kernel_rfl,
 c20:=by kernel_rfl,
 c21:=by kernel_rfl,
 c37:=by kernel_rfl,
 c46:=by kernel_rfl,
 c51:=by kernel_rfl,
 c53:=by kernel_rfl,
 c75:=by kernel_rfl,
 c76:=by kernel_rfl,
 c80:=by kernel_rfl,
 c85:=by kernel_rfl,
 c127:=by kernel_rfl,
 c143:=by kernel_rfl,
 c145:=by kernel_rfl,
 c167:=by kernel_rfl,
 c168:=by kernel_rfl,
 c171:=by kernel_rfl,
 c173:=by kernel_rfl,
 c175:=by kernel_rfl,
 c210:=by kernel_rfl,
 c212:=by kernel_rfl,
 c213:=by kernel_rfl,
 c232:=by kernel_rfl,
 c233:=by kernel_rfl}
def zB(aB:Bytes):Option (Int×Bool):=OB aB
theorem Fg{aB:Bytes}{r:Int×Bool}(h:zB aB=some r):Good prog 280 [.str aB] (.hY [.int .i64 r.1,.ifc r.2]):=Pv WX (g:=1) (by kernel_rfl) (aD (i:=1) (by kernel_rfl)) h
def Px:Ren:=⟨fun|106=>220|213=>267|265=>279|n=>n,fun|9=>9|3=>3|n=>n,fun|n=>n⟩
theorem Z7:Lays.n106 prog Px:= {
 mixed:=by kernel_rfl,
 f106:=func220.trans (congrArg some (by kernel_rfl)),
 f213:=func267.trans (congrArg some (by kernel_rfl)),
 f265:=func279.trans (congrArg some (by kernel_rfl)),
 t3:=underlying3,
 a3:=Tryz.isAgg3,
 z3:=Tryz.sizeOf3,
 v3:=Tryz.zeroValue3,
 t9:=underlying9,
 a9:=Tryz.isAgg9,
 z9:=Tryz.sizeOf9,
 v9:=Tryz.zeroValue9}
def pV(aB:Bytes)(aU:Bytes):Option Int:=(fun a b:Bytes=>some (Lib.compareBytes a b)) aB aU
theorem rN{aB:Bytes}{aU:Bytes}{r:Int}(h:pV aB aU=some r):Good prog 220 [.str aB,.str aU] (.int .i64 r):=by cases h;exact Lj Z7
end Go.Cx

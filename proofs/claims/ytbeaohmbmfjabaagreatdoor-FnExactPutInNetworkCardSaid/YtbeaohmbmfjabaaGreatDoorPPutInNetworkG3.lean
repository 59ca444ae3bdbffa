/- Regions whose order is drawn, where operations that only compute float beside a chain that makes objects of objects: every order gives the state of the text's order. No condition; plain lemmas. -/
import Derived.Test.YtbeaohmbmfjabaaGreatDoorPPutInNetworkG2
import Derived.LoopN
import Derived.Test.YtbeaohmbmfjabaaGreatDoorProg
import Derived.KernelRfl
set_option linter.unusedVariables false
set_option linter.unusedSimpArgs false
namespace Go.Cx
open Go.RowKit
abbrev eb:=List An
section
variable{P:Program}{Γ:vY}{Q:Exit->St->Prop}{st:St}{κ:Nat->Option Value}{Θ:Nat->Nat}{a:Act}{w:World}{all:Array Oper}{X:aa}
def BV(X:aa)(H H':bW):Prop:=∀(i:Nat) o,i∉X->H[i]?=some o->H'[i]?=some o
theorem BV.refl{X:aa}(H:bW):BV X H H:=fun _ _ _ h=>h
theorem BV.trans{X:aa}{A B C:bW}(h:BV X A B)(k:BV X B C):BV X A C:=fun i o n e=>k i o n (h i o n e)
theorem BV.app{X:aa}{H H':bW}(h:BV X H H')(n:bW):BV X H (H'++n):=by
 intro i o hni hi;have:=h i o hni hi;rw[bA (aH.1 this).1,this]
theorem BV.cs{X:aa}{H H':bW}(h:BV X H H'){i:Nat}{cs:aS}(hi:i∉X)(hc:(H[i]?).bind Ob.ZD=some cs):(H'[i]?).bind Ob.ZD=some cs:=by
 obtain⟨ob,hb,YG⟩:=o8.1 hc;rw[h i ob hi hb];exact YG
def Ep(X:aa)(st:St):Op->Bool
 | .fieldAddr _ _ _=>true
 | .field _ _ _=>true
 | .extract _ _=>true
 | .move _=>true
 | .binOp _ _ _ _ _=>true
 | .unOp _ _ _=>true
 | .nilCheck _=>true
 | .convert _ _ _=>true
 | .index _ _ _=>true
 | .build _ _=>true
 | .indexAddr _ x _=>(match st.ev x with| .sl _=>true| .acc id=> !X.contains id|_=>false)
 | .load _ x=>(match st.ev x with| .ep _ _=>true| .ptr id _=> !X.contains id| .op id _ _ _=> !X.contains id|_=>false)
 |_=>false
theorem a3D{X:aa}{σ σ':List (Nat×D)}{H H':bW}{op:Op}{d:D}(hx:BV X H H')(hs:Ep X ⟨σ,H⟩ op=true)(he:∀x∈op.operands.toList,St.ev ⟨σ,H⟩ x=St.ev ⟨σ',H'⟩ x)(h:pv P ⟨σ,H⟩ op=some d):pv P ⟨σ',H'⟩ op=some d:=by
 cases op<;>simp only[Ep,BT]at hs<;>simp only[pv]at h⊢
 case move x=>rw[he x (by simp[Op.operands])]at*;exact h
 case nilCheck x=>rw[he x (by simp[Op.operands])]at h;exact h
 case binOp op t x y t'=>rw[he x (by simp[Op.operands]),he y (by simp[Op.operands])]at h;exact h
 case unOp op t x=>cases op<;>simp only[pv]at h⊢ <;>(try cases h)<;>(rw[he x (by simp[Op.operands])]at h;exact h)
 case convert s d x=>rw[he x (by simp[Op.operands])]at h;exact h
 case field t x f=>rw[he x (by simp[Op.operands])]at h;exact h
 case fieldAddr t x f=>rw[he x (by simp[Op.operands])]at h;exact h
 case indexAddr t x i=>
  rw[he x (by simp[Op.operands])]at hs;rw[he x (by simp[Op.operands]),he i (by simp[Op.operands])]at h;split at hs
  ·rename_i rows h0;rw[h0]at h⊢;generalize IM P t=a at h⊢;generalize St.ev ⟨σ',H'⟩ i=b at h⊢;cases a<;>cases b<;>exact h
  ·rename_i id h0;rw[h0]at h⊢;generalize IM P t=a at h⊢;generalize St.ev ⟨σ',H'⟩ i=b at h⊢;cases a<;>cases b<;>first|exact h|skip
   dsimp only at h⊢;cases hH:H[id]? with
   |none=>rw[hH]at h;cases h
   |some o=>rw[hx id o (by simpa using hs) hH];rw[hH]at h;exact h
  ·cases hs
 case load t x=>
  rw[he x (by simp[Op.operands])]at hs h;split at hs
  ·rename_i row off h0;rw[h0]at h⊢;generalize C9 P t=a at h⊢;cases a<;>exact h
  ·rename_i id off h0;rw[h0]at h⊢;generalize C9 P t=a at h⊢;cases a
   ·exact h
   ·dsimp only at h⊢;split at h
    ·rename_i cells hH;simp only[hx.cs (by simpa using hs) hH];exact h
    ·cases h
  ·rename_i id i sz off h0;rw[h0]at h⊢;generalize C9 P t=a at h⊢;cases a
   ·exact h
   ·dsimp only at h⊢;cases hH:H[id]? with
    |none=>rw[hH]at h;cases h
    |some o=>rw[hx id o (by simpa using hs) hH];rw[hH]at h;exact h
  ·cases hs
 case extract x i=>rw[he x (by simp[Op.operands])]at h;exact h
 case index t x i=>rw[he x (by simp[Op.operands]),he i (by simp[Op.operands])]at h;exact h
 case build t parts=>
  have:(parts.toList.map fun p=>(p.1,St.ev ⟨σ,H⟩ p.2))=parts.toList.map fun p=>(p.1,St.ev ⟨σ',H'⟩ p.2):=by
   apply mB;intro p hp;rw[he p.2 (by simp only[Op.operands];simp;exact⟨p.1,by simpa using hp⟩)]
  rw[this]at h;exact h
def WA(xs acc:aa):aa:=xs.foldl (fun acc x=>bif acc.contains x then acc else x::acc) acc
theorem Wx:∀ {xs acc:aa} {x:Nat},x∈WA xs acc->x∈xs\/x∈acc:=by
 intro xs
 induction xs with
 |nil=>intro acc x h;exact .inr h
 |cons y ys ih=>
  intro acc x h;rcases ih (acc:=bif acc.contains y then acc else y::acc) h with h|h
  ·exact .inl (by simp[h])
  ·cases hc:acc.contains y with
   |true=>rw[hc]at h;exact .inr h
   |false=>
    rw[hc]at h;rcases bM.1 h with rfl|h
    ·exact .inl (by simp)
    ·exact .inr h
def a5d(acc:List aa)(es:List Edge):aa:=es.foldl (fun d e=>bif Region.binds .any e then WA (e.on::acc.getD e.on []) d else d) []
theorem Zb{acc:List aa}{es:List Edge}{i:Nat}(h:i∈a5d acc es):∃e∈es,Region.binds .any e=true/\(i=e.on\/i∈acc.getD e.on []):=by
 have key:∀(es:List Edge) (d:aa),i∈es.foldl (fun d e=>bif Region.binds .any e then WA (e.on::acc.getD e.on []) d else d) d->i∈d\/∃e∈es,Region.binds .any e=true/\(i=e.on\/i∈acc.getD e.on []):=by
  intro es
  induction es with
  |nil=>intro d h;exact .inl h
  |cons e es ih=>
   intro d h;rcases ih _ h with h|⟨e',h1,h2⟩
   ·cases hb:Region.binds .any e with
    |false=>simp only[hb,af]at h;exact .inl h
    |true=>
     simp only[hb,aW]at h;rcases Wx h with h|h
     ·exact .inr ⟨e,by simp,hb,by simpa using h⟩
     ·exact .inl h
   ·exact .inr ⟨e',by simp[h1],h2⟩
 rcases key es [] h with h|h
 ·cases h
 ·exact h
def NH(acc:List aa)(o:Oper):List aa:=acc++[a5d acc o.after.toList]
def WM(ops:List Oper):List aa:=ops.foldl NH []
theorem a4J{ops:Array Oper}{listed:Array Bool}(closed:∀(j:Nat) oj,ops[j]?=some oj->listed.getD j false=true->∀e∈oj.after,Region.binds .any e=true->listed.getD e.on false=true):
 ∀(l pre:List Oper) (acc:List aa),ops.toList=pre++l->acc.length=pre.length->
  (∀(j:Nat) o,ops[j]?=some o->(∀e∈o.after,Region.binds .any e=true->listed.getD e.on false=true)->∀i∈acc.getD j [],listed.getD i false=true)->
  ∀(j:Nat) o,ops[j]?=some o->(∀e∈o.after,Region.binds .any e=true->listed.getD e.on false=true)->∀i∈(l.foldl NH acc).getD j [],listed.getD i false=true:=by
 intro l
 induction l with
 |nil=>intro pre acc _ _ h;exact h
 |cons o l ih=>
  intro pre acc hl ha h;refine ih (pre++[o]) (NH acc o) (by simp[hl]) (by simp[NH,ha]) ?_;intro j oj hj hall i hi;unfold NH at hi;rw[lN]at hi;rcases yS j acc.length with hlt|heq|hgt
  ·rw[bA hlt,<-lN]at hi;exact h j oj hj hall i hi
  ·subst heq;rw[bE (bR _),p8]at hi;simp only[DA,zK]at hi;have ho:oj=o:=by
    rw[<-vG,hl,bE (by omega),ha,p8]at hj;simpa using hj.symm
   subst ho;obtain⟨e,he,hb,hi⟩:=Zb hi;have he':e∈oj.after:=by simpa using he
   have hel:=hall e he' hb;rcases hi with rfl|hi
   ·exact hel
   ·cases hoe:ops[e.on]? with
    |none=>
     have h1:e.on<acc.length:=by
      rcases eO e.on acc.length with h|h
      ·exact h
      ·rw[lN,ck h]at hi;cases hi
     have h2:ops.size<=e.on:=by simpa using hoe
     have h3:ops.size=pre.length+(l.length+1):=by rw[<-wq,hl];simp
     omega
    |some oe=>exact h e.on oe hoe (closed e.on oe hoe hel) i hi
  ·rw[ck (by simp;omega)]at hi;cases hi
theorem A8{ops:Array Oper}{listed:Array Bool}(closed:∀(j:Nat) oj,ops[j]?=some oj->listed.getD j false=true->∀e∈oj.after,Region.binds .any e=true->listed.getD e.on false=true){j:Nat}(hj:j∈Region.ready .any ops listed){i:Nat}(hi:((WM ops.toList).getD j []).contains i=true):listed.getD i false=true:=by
 obtain⟨_,o,ho,hall⟩:=mem_ready.1 hj;exact a4J closed ops.toList [] [] (by simp) rfl (by simp) j o ho hall i (List.contains_iff_mem.1 hi)
def a1A(dp:List aa)(ops:Array Oper)(n m:Nat)(L:aa):Bool:=
 (decide (n<=m)&&decide (m<ops.size))&&
 (Region.seqB .any ops (ops.size-m) m (Array.replicate m true++Array.replicate (ops.size-m) false)&&
 (((List.range (ops.size-m)).all fun j=>(List.range m).all fun i=>(dp.getD (m+j) []).contains i)&&
 (((List.range (m-n)).all fun j=>(List.range (n+j)).all fun i=>(dp.getD (n+j) []).contains i||L.contains i)&&
 (((List.range m).all fun i=>match ops[i]? with|none=>false|some o=>o.after.all fun e=> !Region.binds .any e||decide (e.on<i))&&
 ((
  (List.range n).all fun i=>match ops[i]? with
  |none=>false
  |some o=>((o.looksAt ops).all fun t=>(List.range n).all fun j=>match ops[j]? with|some oj=> !(oj.dst==some t)||(decide (j<i)&&Region.waitsFor .any ops i j)|none=>true)&&
   (List.range n).all fun j=>j==i||(match ops[j]? with|some oj=> !(oj.dst==o.dst)||o.dst.isNone|none=>true))&&
 ((
  (List.range (m-n)).all fun j=>match ops[n+j]? with
  |none=>false
  |some o=>L.all fun i=>match ops[i]? with
   |none=>false
   |some oi=>(!(oi.dst==o.dst)&& !((oi.looksAt ops).any fun t=>o.dst==some t))&&((dp.getD (n+j) []).contains i|| !((o.looksAt ops).any fun t=>oi.dst==some t)))&&
 L.all fun i=>decide (i<n)&&(match ops[i]? with|some oi=>oi.guard.isNone&&oi.dst.isSome|none=>false)))))))
def QI(ops:Array Oper)(n m:Nat)(L:aa):Bool:=a1A (WM ops.toList) ops n m L
def Step(P:Program)(Γ:vY)(o:Oper)(st AH:St):Prop:=
 ∀κ Θ a w,eM Γ st κ Θ a w->o.wp P a w (fun a' w'=>∃κ' Θ',eM Γ AH κ' Θ' a' w') (fun e _ _=>e=.normal)
def a0b(P:Program)(Γ:vY)(X:aa)(K:St->Prop):List Oper->St->Prop
 | [],st=>K st
 |o::os,st=>∃AH,((∃t d,o.dst=some t/\t<Γ.nt/\AH.σ=(t,d)::st.σ)\/(o.dst=none/\AH.σ=st.σ))/\BV X st.H AH.H/\o.guard=none/\(∀cs b,o.op≠ .select cs b)/\Step P Γ o st AH/\a0b P Γ X K os AH
theorem Vj{o:Oper}{a b:Act}{w:World}{K K2:Act->World->Prop}{Q1 Q2:Exit->Act->World->Prop}(hsel:∀cs b,o.op≠ .select cs b)(he:∀x∈o.op.operands,a.eval x=b.eval x)
 (hK:∀v w',K (b.put o.dst v) w'->K2 (a.put o.dst v) w') (hdf:∀d w',¬K ({b with defers:=d::b.defers}.put o.dst undef) w') (hQ:∀e c w',Q1 e c w'->e=.normal) (h:o.wp P b w K Q1):o.wp P a w K2 Q2:=by
 unfold Oper.wp at*;rw[execOp_congr o hsel he];generalize(execOp b.eval o).run P w=r at*;cases r with
 |ok n w'=>
  cases n with
  |value v=>exact hK _ _ h
  |skip=>exact hK _ _ h
  |defer d=>exact absurd h (hdf _ _)
  |enter f args=>
   refine Calls.mono h ?_;intro e w'' he;cases e with
   |returned v=>exact hK _ _ he
   |panicked c=>exact absurd (hQ _ _ _ he) (by simp)
   |outgrown=>
    obtain⟨a0,w0,hq⟩:=he;exact absurd (hQ _ _ _ hq) (by simp)
  |row r args=>exact Rows.mono h fun v w'' he=>hK _ _ he
  |_=>exact h.elim
 |halt x w'=>
  cases x with
  |panic u=>exact absurd (hQ _ _ _ h) (by simp)
  |_=>exact h.elim
theorem a7s{l:List (Nat×D)}{σ:List (Nat×D)}(h:∀p∈l,p.2=.any){t:Nat}(ht:t∈l.map Prod.fst):lk (l++σ) t=.any:=by
 induction l with
 |nil=>cases ht
 |cons p l ih=>
  obtain⟨u,d⟩:=p;have hd:d=.any:=h (u,d) (by simp);subst hd;simp only[dO,lk];by_cases e:t=u
  ·rw[bQ e]
  ·rw[bG e];refine ih (fun p hp=>h p (by simp[hp])) ?_;simp only[bH,bM]at ht;rcases ht with h|h
   ·exact absurd h e
   ·exact h
theorem Lx(a:Act){t u:Nat}(v:Value)(h:u≠t):(a.put (some t) v).tmps.getD u undef=a.tmps.getD u undef:=by
 show(a.tmps.setIfInBounds t v).getD u undef=_;simp[cO,tZ h]
theorem Nf(a:Act){t:Nat}(v:Value)(h:t<a.tmps.size):(a.put (some t) v).tmps.getD t undef=v:=by
 show(a.tmps.setIfInBounds t v).getD t undef=_;simp[cO,h]
theorem count_set{m i:Nat}{listed:Array Bool}(hi:i<m)(hsz:i<listed.size)(hl:listed.getD i false=false):((List.range m).filter fun j=> !(listed.setIfInBounds i true).getD j false).length+1=((List.range m).filter fun j=> !listed.getD j false).length:=by
 have ZN:((List.range m).filter fun j=> !(listed.setIfInBounds i true).getD j false)=((List.range m).filter fun j=> !listed.getD j false).erase i:=by
  have hnd:((List.range m).filter fun j=> !listed.getD j false).Nodup:=zg _ DC;rw[hnd.erase_eq_filter,xf];apply yR;intro j _;by_cases e:j=i
  ·subst e;simp[hsz]
  ·rw[getD_set_ne false (tZ e)];simp[e]
 have hmem:i∈(List.range m).filter fun j=> !listed.getD j false:=fo.2 ⟨bq.2 hi,by simp only[hl];rfl⟩
 have hpos:0<((List.range m).filter fun j=> !listed.getD j false).length:=E3 hmem;rw[ZN,rK hmem];omega
def a0q(P:Program)(Γ:vY)(X:aa)(l:List Oper)(σF:List (Nat×D))(H0:bW)(i:Nat):Prop:=
 ∃o t d,l.toArray[i]?=some o/\o.guard=none/\o.dst=some t/\t<Γ.nt/\lk σF t=d/\∀σ' H',BV X H0 H'->(∀u∈o.looksAt l.toArray,lk σ' u=lk σF u)->pv P ⟨σ',H'⟩ o.op=some d
theorem Ud{l:List Oper}{n m:Nat}{L:aa}{σF:List (Nat×D)}{H0:bW}(hB:QI l.toArray n m L=true)(a5k:∀i∈L,a0q P Γ X l σF H0 i):
 ∀(f c:Nat) (S:St) (listed:Array Bool) (σ':List (Nat×D)) (κ:Nat->Option Value) (Θ:Nat->Nat) (a:Act) (w:World),HeadInv .any l.toArray l.toArray.size listed->
  (∀i,i<n->i∉L->listed.getD i false=true)->n+c<=m->(∀i,n<=i->i<n+c->listed.getD i false=true)->(∀i,n+c<=i->i<l.toArray.size->listed.getD i false=false)->
  ((List.range m).filter fun i=> !listed.getD i false).length=f->
  (∀t,(∀(i:Nat) o,l.toArray[i]?=some o->n<=i->i<n+c->o.dst≠some t)->lk S.σ t=lk σF t)->BV X H0 S.H->
  a0b P Γ X (fun xZ=>AO P Γ l.toArray (l.drop m) Q xZ) ((l.drop (n+c)).take (m-(n+c))) S->
  (∀t,(∀i∈L,∀o,l.toArray[i]?=some o->listed.getD i false=false->o.dst≠some t)->lk σ' t=lk S.σ t)->
  eM Γ ⟨σ',S.H⟩ κ Θ a w->
  wpAny P .any l.toArray (fun e a' w'=>∃xZ κ' Θ',eM Γ xZ κ' Θ' a' w'/\Q e xZ) (f+(l.toArray.size-m)) listed a w:=by
 simp only[QI,a1A,aY,bI]at hB;obtain⟨⟨hnm,T9⟩,a4U,a1X,hmid,a1J,a1L,a1T,hL⟩:=hB;have aBk:∀i,i<m->∃o,l.toArray[i]?=some o/\∀e∈o.after,Region.binds .any e=true->e.on<i:=by
  intro i hi;have:=bB.1 a1J i (bq.2 hi);split at this
  ·cases this
  ·rename_i o ho;refine⟨o,ho,fun e he hb=>?_⟩;have:=xe.1 this e he;simpa[hb]using this
 have Ht:∀i∈L,i<n:=by
  intro i hi;have:=bB.1 hL i hi;simp only[aY,bI]at this;exact this.1
 have Uq:∀(i:Nat) o,i<n->l.toArray[i]?=some o->∀u∈o.looksAt l.toArray,∀(j:Nat) oj,j<n->l.toArray[j]?=some oj->oj.dst=some u->j<i/\Region.waitsFor .any l.toArray i j=true:=by
  intro i o hi ho u hu j oj hj A9 hd;have:=bB.1 a1L i (bq.2 hi);simp only[ho,aY]at this;have:=bB.1 (bB.1 this.1 u hu) j (bq.2 hj);simpa[A9,hd]using this
 have Na:∀(j:Nat) o,n<=j->j<m->l.toArray[j]?=some o->∀i∈L,∀oi,l.toArray[i]?=some oi->oi.dst≠o.dst/\(∀u∈oi.looksAt l.toArray,o.dst≠some u)/\(((WM l.toArray.toList).getD j []).contains i=true\/∀u∈o.looksAt l.toArray,oi.dst≠some u):=by
  intro j o KA hj2 ho i hi oi hoi;have:=bB.1 a1T (j-n) (bq.2 (by omega));rw[show n+(j-n)=j from by omega]at this;simp only[ho]at this;have:=bB.1 this i hi;simp only[hoi,aY,qp,oX]at this;obtain⟨⟨h1,h2⟩,h3⟩:=this;refine⟨by simpa using h1,fun u hu he=>?_,h3.imp id fun h u hu he=>?_⟩
  ·have:=CR.1 h2 u hu;simp[he]at this
  ·have:=CR.1 h u hu;simp[he]at this
 intro f
 induction f with
 |zero=>
  intro c S listed σ' κ Θ a w inv hN hc hM hT pE hS hX hA hag hs;have hall:∀i,i<m->listed.getD i false=true:=by
   intro i hi;have h0:=cc pE;cases hl:listed.getD i false with
   |true=>rfl
   |false=>
    have:i∈(List.range m).filter fun i=> !listed.getD i false:=fo.2 ⟨bq.2 hi,by simp only[hl];rfl⟩
    rw[h0]at this;cases this
  have hcm:n+c=m:=by
   rcases eO (n+c) m with h|h
   ·have h1:=hall (n+c) h;rw[hT (n+c) (bR _) (by omega)]at h1;cases h1
   ·omega
  have a1P:listed=Array.replicate m true++Array.replicate (l.toArray.size-m) false:=by
   apply Array.ext
   ·rw[inv.size];simp at T9⊢;omega
   ·intro i h1 h2;by_cases hi:i<m
    ·have:=hall i hi;rw[CC (by simpa using hi)];simp[h1]at this;simp[this]
    ·have hi':i<l.toArray.size:=by rw[<-inv.size];exact h1
     have:=hT i (by omega) hi';rw[BS (by simpa using hi)];simp[h1]at this;simp[this]
  rw[cq];rw[hcm,p8,List.take_zero]at hA;have hA:AO P Γ l.toArray (l.drop m) Q S:=hA;have hs2:=eM.same (st:=⟨σ',S.H⟩) (σ':=S.σ) (fun t=>hag t (fun i hi o ho hl=>by rw[hall i (by have:=Ht i hi;omega)]at hl;cases hl)) hs;have hwp:=hA κ Θ a w hs2;have hdl:(l.drop m).length=l.toArray.size-m:=by simp
  have:=wpAny_of_seq (md:=.any) (l.drop m) m listed a w (fun j=>by simp[eA]) (by rw[hdl,a1P];exact a4U) hwp
  rwa[hdl]at this
 |succ f ih=>
  intro c S listed σ' κ Θ a w inv hN hc hM hT pE hS hX hA hag hs;have hun:∃i,i<m/\listed.getD i false=false:=by
   have hne:((List.range m).filter fun i=> !listed.getD i false)≠[]:=by
    intro h0;rw[h0]at pE;simp at pE
   obtain⟨i,hi⟩:=wh _ hne;obtain⟨h1,h2⟩:=fo.1 hi;exact⟨i,bq.1 h1,by simpa using h2⟩
  have hsz:=inv.size;rw[show f+1+(l.toArray.size-m)=(f+(l.toArray.size-m))+1 from by omega];refine⟨fun h0=>?_,fun i hi=>?_⟩
  ·exfalso;obtain⟨i,⟨hin,Vp⟩,hmin⟩:=exists_least (p:=fun i=>i<m/\listed.getD i false=false) hun;obtain⟨o,ho,hed⟩:=aBk i hin;have:i∈Region.ready .any l.toArray listed:=by
    refine mem_ready.2 ⟨getD_in (by rw[hsz];omega) Vp,o,ho,fun e he hb=>?_⟩;have:=hed e he hb;cases hl:listed.getD e.on false with
    |true=>rfl
    |false=>have:=hmin e.on ⟨by omega,hl⟩;omega
   rw[h0]at this;cases this
  ·obtain⟨i0,hi0,hl0⟩:=hun;obtain⟨Vp,o,ho,hall⟩:=mem_ready.1 hi;have Cw:=getD_both Vp;have Ei:i<l.toArray.size:=(bL.1 ho).1;have him:i<m:=by
    rcases eO i m with h|h
    ·exact h
    ·have h1:=bB.1 a1X (i-m) (bq.2 (by omega));have h2:=bB.1 h1 i0 (bq.2 hi0);rw[show m+(i-m)=i from by omega]at h2;rw[A8 inv.closed hi h2]at hl0;cases hl0
   have ZN:=count_set him (by rw[hsz];exact Ei) Cw;have qZ:∀(j:Nat),(listed.setIfInBounds i true).getD j false=true↔(j=i\/listed.getD j false=true):=by
    intro j;by_cases e:i=j
    ·subst e;have:i<listed.size:=by rw[hsz];exact Ei
     simp[this]
    ·rw[getD_set_ne false e];constructor
     ·exact .inr
     ·rintro(rfl|h)
      ·exact absurd rfl e
      ·exact h
   have aDl:∀(j:Nat),(listed.setIfInBounds i true).getD j false=false->j≠i/\listed.getD j false=false:=by
    intro j h;refine⟨fun e=>?_,?_⟩
    ·have:=(qZ j).2 (.inl e);rw[this]at h;cases h
    ·cases h2:listed.getD j false with
     |false=>rfl
     |true=>have:=(qZ j).2 (.inr h2);rw[this]at h;cases h
   rcases eO i n with hin|hin
   ·
    have hiL:i∈L:=by
     by_cases h:i∈L
     ·exact h
     ·rw[hN i hin h]at Cw;cases Cw
    obtain⟨o',t,d,ho',hg,hd,htn,hdF,hpv⟩:=a5k i hiL;rw[ho]at ho';cases ho';have Us:∀u∈o.looksAt l.toArray,lk σ' u=lk σF u:=by
     intro u hu;rw[hag u,hS u]
     ·intro j oj A9 KA hj2 he;exact(Na j oj KA (by omega) A9 i hiL o ho).2.1 u hu he
     ·intro j hj oj A9 hlj he;obtain⟨h1,h2⟩:=Uq i o hin ho u hu j oj (Ht j hj) A9 he;obtain⟨o2,ho2,e,Lr,hb,hon⟩:=Region.waitsFor_spec h2;rw[ho]at ho2;cases ho2;have:=hall e Lr hb;rw[hon,hlj]at this;cases this
    have hp:=hpv σ' S.H hX Us;obtain⟨v,bs,hrun,hrd,hz⟩:=I1 (st:=⟨σ',S.H⟩) hs hp;refine CA ho (by simp[Region.wanted,hg]) ?_;unfold Oper.wp;rw[hrun,Oper.upon_value,hd];refine ih c S (listed.setIfInBounds i true) ((t,d)::σ') κ Θ _ w (inv.set hi Ei) ?_ hc ?_ ?_ (by omega) hS hX hA ?_ (hs.set (st:=⟨σ',S.H⟩) htn hrd hz)
    ·intro j hj hjL;exact(qZ j).2 (.inr (hN j hj hjL))
    ·intro j KA hj2;exact(qZ j).2 (.inr (hM j KA hj2))
    ·intro j KA hj2;rw[getD_set_ne false (by omega)];exact hT j KA hj2
    ·intro u hu;simp only[lk];by_cases e:u=t
     ·rw[bQ e,e,hS t,hdF];intro j oj A9 KA hj2 he;exact(Na j oj KA (by omega) A9 i hiL o ho).1 (by rw[hd,he])
     ·rw[bG e];refine hag u fun j hj oj A9 hlj he=>?_
      by_cases hji:j=i
      ·subst hji;rw[ho]at A9;cases A9;rw[hd]at he;cases he;exact e rfl
      ·exact hu j hj oj A9 (by rw[getD_set_ne false (tZ hji)];exact hlj) he
   ·
    have hic:i=n+c:=by
     rcases yS i (n+c)with h|h|h
     ·rw[hM i hin h]at Cw;cases Cw
     ·exact h
     ·have h1:=bB.1 hmid (i-n) (bq.2 (by omega));rw[show n+(i-n)=i from by omega]at h1;have h2:=bB.1 h1 (n+c) (bq.2 h);simp only[oX]at h2;rcases h2 with h2|h2
      ·have:=A8 inv.closed hi h2;rw[hT (n+c) (bR _) (by omega)]at this;cases this
      ·have:=Ht (n+c) (by simpa using h2);omega
    subst hic;have Up:(l.drop (n+c)).take (m-(n+c))=o::(l.drop (n+(c+1))).take (m-(n+(c+1))):=by
     have h1:l[n+c]?=some o:=by simpa using ho
     have h2:(n+c)<l.length:=(aH.1 h1).1;have h3:l[n+c]=o:=(aH.1 h1).2;rw[mY h2,h3,show m-(n+c)=(m-(n+(c+1)))+1 from by omega,wu];rfl
    rw[Up]at hA;obtain⟨S1,T6,hX1,hgm,hsel,hstep,hA1⟩:=hA;have aCN:∀u,o.dst≠some u->lk S1.σ u=lk S.σ u:=by
     intro u hu;rcases T6 with⟨tm,dm,hdm,htm,a7R⟩|⟨_,a7R⟩
     ·rw[a7R];simp only[lk];rw[bG (fun e=>hu (by rw[hdm,e]))]
     ·rw[a7R]
    have a9Y:∀(b:Act) (v:Value),(b.put o.dst v).tmps.size=b.tmps.size:=by
     intro b v;rcases T6 with⟨tm,dm,hdm,_,_⟩|⟨hdm,_⟩
     ·rw[hdm];show(b.tmps.setIfInBounds tm v).size=_;simp
     ·rw[hdm];rfl
    have a9X:∀(b:Act) (v:Value),(b.put o.dst v).defers=b.defers:=by
     intro b v;cases o.dst<;>rfl
    have fill:∀k,k<=n->∃(ak:Act) (σk:List (Nat×D)),eM Γ ⟨σk,S.H⟩ κ Θ ak w/\(∀u,(∀j∈L,∀oj,l.toArray[j]?=some oj->listed.getD j false=false->k<=j->oj.dst≠some u)->lk σk u=lk S.σ u)/\
     (∀u,(∀j∈L,∀oj,l.toArray[j]?=some oj->listed.getD j false=false->oj.dst≠some u)->ak.tmps.getD u undef=a.tmps.getD u undef):=by
     intro k
     induction k with
     |zero=>intro _;exact⟨a,σ',hs,fun u hu=>hag u (fun j hj oj A9 hl=>hu j hj oj A9 hl (G5 _)),fun _ _=>rfl⟩
     |succ k ihk=>
      intro hk;obtain⟨ak,σk,hsk,a6u,hek⟩:=ihk (by omega);by_cases hkl:k∈L/\listed.getD k false=false
      ·obtain⟨hkL,hkF⟩:=hkl;obtain⟨ok,t,d,hok,hg,hd,htn,hdF,hpv⟩:=a5k k hkL;have Us:∀u∈ok.looksAt l.toArray,lk σk u=lk σF u:=by
        intro u hu;rw[a6u u,hS u]
        ·intro j oj A9 KA hj2 he;exact(Na j oj KA (by omega) A9 k hkL ok hok).2.1 u hu he
        ·intro j hj oj A9 hlj hkj he;obtain⟨h1,h2⟩:=Uq k ok (by omega) hok u hu j oj (Ht j hj) A9 he;omega
       have hp:=hpv σk S.H hX Us;obtain⟨v,bs,hrun,hrd,hz⟩:=I1 (st:=⟨σk,S.H⟩) hsk hp;refine⟨ak.put (some t) v,(t,d)::σk,hsk.set (st:=⟨σk,S.H⟩) htn hrd hz,?_,?_⟩
       ·intro u hu;simp only[lk];by_cases e:u=t
        ·rw[bQ e,e,hS t,hdF];intro j oj A9 KA hj2 he;exact(Na j oj KA (by omega) A9 k hkL ok hok).1 (by rw[hd,he])
        ·rw[bG e];refine a6u u fun j hj oj A9 hlj hkj he=>?_
         by_cases hjk:j=k
         ·subst hjk;rw[hok]at A9;cases A9;rw[hd]at he;cases he;exact e rfl
         ·exact hu j hj oj A9 hlj (by omega) he
       ·intro u hu;rw[Lx _ _ (fun e=>hu k hkL ok hok hkF (by rw[hd,e])),hek u hu]
      ·refine⟨ak,σk,hsk,fun u hu=>a6u u fun j hj oj A9 hlj hkj=>?_,hek⟩;by_cases hjk:j=k
       ·subst hjk;exact absurd ⟨hj,hlj⟩ hkl
       ·exact hu j hj oj A9 hlj (by omega)
    obtain⟨an,σn,hsn,aBw,hen⟩:=fill n (bR _);have hsS:=eM.same (st:=⟨σn,S.H⟩) (σ':=S.σ) (fun u=>aBw u (fun j hj oj A9 _ hnj=>by have:=Ht j hj;omega)) hsn;have hwp:=hstep κ Θ an w hsS;refine CA ho (by simp[Region.wanted,hgm]) (Vj (Q2:=_) hsel ?_ ?_ ?_ (fun e _ _ h=>h) hwp)
    ·intro x hx;cases x with
     |tmp u=>
      refine(hen u fun j hj oj A9 hlj he=>?_).symm;have hu:u∈o.looksAt l.toArray:=by
       unfold Oper.looksAt;exact ar.2 (.inl (cE.2 ⟨.tmp u,by simpa using hx,rfl⟩))
      rcases(Na (n+c) o (by omega) him ho j hj oj A9).2.2 with h|h
      ·rw[A8 inv.closed hi h]at hlj;cases hlj
      ·exact h u hu he
     |const v=>rfl
     |global g=>rfl
     |func f=>rfl
    ·rintro v w' ⟨κ',Θ',hs'⟩;let late:List (Nat×D):=(L.filterMap fun j=>bif listed.getD j false then none else(l.toArray[j]?).bind (·.dst)).map fun u=>(u,D.any)
     have Ur:∀u,u∈late.map Prod.fst↔∃j∈L,∃oj,l.toArray[j]?=some oj/\listed.getD j false=false/\oj.dst=some u:=by
      intro u;simp only[late,qt,cI,cE,Function.comp];constructor
      ·rintro⟨x,⟨j,hj,hx⟩,rfl⟩;cases hl:listed.getD j false with
       |true=>rw[hl]at hx;cases hx
       |false=>
        rw[hl,af]at hx;cases A9:l.toArray[j]? with
        |none=>rw[A9]at hx;cases hx
        |some oj=>rw[A9]at hx;exact⟨j,hj,oj,A9,hl,hx⟩
      ·rintro⟨j,hj,oj,A9,hl,hx⟩;exact⟨u,⟨j,hj,by rw[hl,af,A9];exact hx⟩,rfl⟩
     have hs2:eM Γ ⟨late++S1.σ,S1.H⟩ κ' Θ' (a.put o.dst v) w':=by
      refine⟨by rw[a9X];exact hs.defers,by rw[a9Y];exact hs.size,hs'.rI,hs'.qX,?_,hs'.ob,hs'.own,hs'.old,hs'.mine,hs'.stays,hs'.wQ⟩;intro u;show∃bs,td w' κ' _ (lk (late++S1.σ) u) bs/\_;by_cases hu:u∈late.map Prod.fst
      ·rw[a7s (fun p hp=>by simp only[late,cI]at hp;obtain⟨_,_,rfl⟩:=hp;rfl) hu];exact⟨[],.of (.any _),by simp⟩
      ·rw[Hv _ _ _ (fun p hp e=>hu (cI.2 ⟨p,hp,e⟩))];have e1:(a.put o.dst v).tmps.getD u undef=(an.put o.dst v).tmps.getD u undef:=by
        have e0:=(hen u fun j hj oj A9 hlj he=>hu ((Ur u).2 ⟨j,hj,oj,A9,hlj,he⟩)).symm;rcases T6 with⟨tm,dm,hdm,htm,_⟩|⟨hdm,_⟩
        ·rw[hdm];by_cases e:u=tm
         ·subst e;rw[Nf _ _ (by rw[hs.size];exact htm),Nf _ _ (by rw[hsn.size];exact htm)]
         ·rw[Lx _ _ e,Lx _ _ e];exact e0
        ·rw[hdm];exact e0
       rw[e1];exact hs'.slot u
     refine ih (c+1) S1 (listed.setIfInBounds (n+c) true) (late++S1.σ) κ' Θ' _ w' (inv.set hi Ei) ?_ (by omega) ?_ ?_ (by omega) ?_ (hX.trans hX1) hA1 ?_ hs2
     ·intro j hj hjL;exact(qZ j).2 (.inr (hN j hj hjL))
     ·intro j KA hj2;by_cases e:j=n+c
      ·exact(qZ j).2 (.inl e)
      ·exact(qZ j).2 (.inr (hM j KA (by omega)))
     ·intro j KA hj2;rw[getD_set_ne false (by omega)];exact hT j (by omega) hj2
     ·intro u hu;rw[aCN u (hu (n+c) o ho (by omega) (by omega))];exact hS u fun j oj A9 KA hj2=>hu j oj A9 KA (by omega)
     ·intro u hu;rw[Hv];intro p hp e;obtain⟨j,hj,oj,A9,hl,he⟩:=(Ur u).1 (cI.2 ⟨p,hp,e⟩);refine hu j hj oj A9 ?_ he;rw[getD_set_ne false (by have:=Ht j hj;omega)];exact hl
    ·rintro d w' ⟨κ',Θ',hs'⟩;have:=hs'.defers;cases hod:o.dst<;>rw[hod]at this<;>cases this
theorem P5{p:Nat->Bool}{n:Nat}:∀(k:Nat),(∀i,n<=i->i<n+k->p i=true)->((List.range (n+k)).filter p).length=((List.range n).filter p).length+k
 |0,_=>rfl
 |k+1,h=>by
  rw[<-rL,List.range_succ,List.filter_append,aX,P5 k (fun i h1 h2=>h i h1 (by omega))];have:p (n+k)=true:=h (n+k) (by omega) (by omega);simp[this];omega
def Rl(P:Program)(Γ:vY)(ops:Array Oper)(Q:Exit->St->Prop)(st:St):Prop:=
 ∀κ Θ a w,eM Γ st κ Θ a w->wpAny P .any ops (fun e a' w'=>∃xZ κ' Θ',eM Γ xZ κ' Θ' a' w'/\Q e xZ) ops.size (Array.replicate ops.size false) a w
theorem Rl.aw{id:Nat}{ops:Array Oper}(hm:P.follows .mixedOrders=true)(h:Rl P Γ ops Q st):AW P Γ (.region id ops true) Q st:=
 fun κ Θ a w hs=>wp_region_any hm (h κ Θ a w.drew hs.drew)
theorem Z5{l:List Oper}(n m:Nat)(L:aa)(hB0:QI l.toArray n m L=true)
 (h:Ol P Γ l.toArray st.H (fun σ acc=>(∀i∈L,∀o,l[i]?=some o->Ep X ⟨σ,st.H⟩ o.op=true)/\a0b P Γ X (fun xZ=>AO P Γ l.toArray (l.drop m) Q xZ) ((l.drop n).take (m-n)) ⟨σ,st.H++acc⟩) (l.take n) st.σ [] []):Rl P Γ l.toArray Q st:=by
 have hB:=hB0;simp only[QI,a1A,aY,bI]at hB;obtain⟨⟨hnm,T9⟩,a4U,a1X,hmid,a1J,a1L,a1T,hL⟩:=hB;have hn:n<l.toArray.size:=by omega
 have Oq:((List.range n).all fun i=>match l.toArray[i]? with
  |none=>false
  |some o=>(o.after.all fun e=> !Region.binds .any e||decide (e.on<i))&&
   ((o.looksAt l.toArray).all fun t=>(List.range n).all fun j=>match l.toArray[j]? with|some oj=> !(oj.dst==some t)||(decide (j<i)&&Region.waitsFor .any l.toArray i j)|none=>true)&&
   (List.range n).all fun j=>j==i||(match l.toArray[j]? with|some oj=> !(oj.dst==o.dst)||o.dst.isNone|none=>true))=true:=by
  rw[bB];intro i hi;have h1:=bB.1 a1J i (bq.2 (by have:=bq.1 hi;omega));have h2:=bB.1 a1L i hi;cases ho:l.toArray[i]? with
  |none=>rw[ho]at h1;cases h1
  |some o=>
   simp only[ho,aY]at h1 h2⊢;exact⟨⟨h1,h2.1⟩,h2.2⟩
 have Ht:∀i∈L,i<n:=by
  intro i hi;have:=bB.1 hL i hi;simp only[aY,bI]at this;exact this.1
 obtain⟨ps,PJ,hlen,QT,⟨hstill,hK⟩,hFl,hFo,hFu⟩:=Ol.unfold _ _ _ _ h;simp only[cH,bK,B2,cq]at QT hK hFl hFo hstill;have hn':n<l.length:=by simpa using hn
 have hpl:ps.length=n:=by rw[hlen];simp;omega
 have hop:∀(i:Nat),i<n->∃o p,l.toArray[i]?=some o/\ps[i]?=some p/\o.dst=p.t/\vi P Γ l.toArray st.H (((ps.take i).filterMap Cp.sl).reverse++st.σ) o p/\p.r=st.H.length+((ps.take i).flatMap Cp.obs).length:=by
  intro i hi;have h1:l[i]?=some l[i]:=ai (by omega);have h2:ps[i]?=some ps[i]:=ai (by omega);have h3:=QT i l[i] ps[i] (by rw[cJ,bQ hi];exact h1) h2;exact⟨l[i],ps[i],by simp[mc,h1],h2,h3.1.slots,h3.1,h3.2.1⟩
 have Wj:∀(i:Nat) p,ps[i]?=some p->p.r=st.H.length+((ps.take i).flatMap Cp.obs).length:=by
  intro i p hp;have hi:i<n:=by have:=(aH.1 hp).1;omega
  obtain⟨_,p',_,hp',_,_,hr⟩:=hop i hi;rw[hp]at hp';cases hp';exact hr
 have TA:∀(i:Nat) p id ob,ps[i]?=some p->p.up=some (id,ob)->st.H.length<=id/\(∃zs ds,ob=.box ds/\zs.length=ds.length/\((ps.take i).flatMap Cp.obs)[id-st.H.length]?=some (.box zs))/\∀(i2:Nat) q D8,i2<i->ps[i2]?=some q->q.up≠some (id,D8):=by
  intro i p id ob hp he;have hi:i<n:=by have:=(aH.1 hp).1;omega
  have h1:l[i]?=some l[i]:=ai (by omega);have h3:=(QT i l[i] p (by rw[cJ,bQ hi];exact h1) hp).2.2 id ob he;exact⟨h3.2.1,h3.2.2.1,h3.2.2.2⟩
 have a1Z:∀(i j:Nat) p q id ob D8,ps[i]?=some p->ps[j]?=some q->p.up=some (id,ob)->q.up=some (id,D8)->i=j:=by
  intro i j p q id ob D8 hp hq he Lr;rcases yS i j with h|h|h
  ·exact absurd he ((TA j q id D8 hq Lr).2.2 i p ob h hp)
  ·exact h
  ·exact absurd Lr ((TA i p id ob hp he).2.2 j q D8 h hq)
 have a1a:∀(i:Nat) p id ob,ps[i]?=some p->p.up=some (id,ob)->p.obs=[]:=by
  intro i p id ob hp he;have hi:i<n:=by have:=(aH.1 hp).1;omega
  obtain⟨_,p',_,hp',_,hc,_⟩:=hop i hi;rw[hp]at hp';cases hp';rcases hc.a3N with h|h
  ·rw[h]at he;cases he
  ·exact h
 have hfit:∀(i:Nat) p,ps[i]?=some p->p.r+p.obs.length<=st.H.length+(ps.flatMap Cp.obs).length:=by
  intro i p hp;rw[Wj i p hp,rq hp];simp only[aX];omega
 have T5:∀(i j:Nat) p q,ps[i]?=some p->ps[j]?=some q->i<j->p.r+p.obs.length<=q.r:=by
  intro i j p q hp hq hij;rw[Wj i p hp,Wj j q hq];have:=SO hp hij;omega
 have hdist:∀(i j:Nat) p q t,ps[i]?=some p->ps[j]?=some q->p.t=some t->q.t=some t->i=j:=by
  intro i j p q t hp hq he1 Lr;have hi:i<n:=by have:=(aH.1 hp).1;omega
  have hj:j<n:=by have:=(aH.1 hq).1;omega
  obtain⟨oi,p',ho,hp',hdi,_⟩:=hop i hi;obtain⟨oj,q',A9,Rb,hdj,_⟩:=hop j hj;rw[hp]at hp';cases hp';rw[hq]at Rb;cases Rb;have:=bB.1 Oq i (bq.2 hi);simp only[ho,aY]at this;have:=bB.1 this.2 j (bq.2 hj);simp only[A9,hdi,hdj,he1,Lr,cw,bP,uk,Option.isNone_some,uk,cj]at this;exact this.symm
 have Hq:∀(i:Nat) p t,ps[i]?=some p->p.t=some t->∀q∈ps.filterMap Cp.sl,q.1=t->q=(t,p.d):=by
  intro i p t hp hpt q hq he;obtain⟨q',Rb,QX⟩:=cE.1 hq;obtain⟨j,hj,rfl⟩:=eP.1 Rb;have M9:ps[j]?=some ps[j]:=ai hj;unfold Cp.sl at QX;cases hpj:ps[j].t with
  |none=>rw[hpj]at QX;cases QX
  |some u=>
   rw[hpj]at QX;simp only[cZ,ax]at QX;subst QX;simp only at he;subst he;have:=hdist j i _ p u M9 hp hpj hpt;subst this;rw[hp]at M9;cases M9;rfl
 have hlk:∀(i:Nat) (o:Oper),i<n->l.toArray[i]?=some o->∀t∈o.looksAt l.toArray,lk (((ps.take i).filterMap Cp.sl).reverse++st.σ) t=lk ((ps.filterMap Cp.sl).reverse++st.σ) t:=by
  intro i o hin ho t ht;have NL:=bB.1 Oq i (bq.2 hin);simp only[ho,aY]at NL;have NL:=bB.1 NL.1.2 t ht;by_cases hex:∃(j:Nat) (q:Cp),ps[j]?=some q/\q.t=some t
  ·obtain⟨j,q,hq,PS⟩:=hex;have hj:j<n:=by have:=(aH.1 hq).1;omega
   obtain⟨oj,q',A9,Rb,hdj,_⟩:=hop j hj;rw[hq]at Rb;cases Rb;have:=bB.1 NL j (bq.2 hj);simp only[A9,hdj,PS,cw,bP,pJ,aY,bI]at this;obtain⟨hji,_⟩:=this;rw[Lu (ps.filterMap Cp.sl).reverse st.σ (t,q.d) (by rw[dZ];exact cE.2 ⟨q,aC hq,by simp[Cp.sl,PS]⟩) (fun q2 M9 Lr=>Hq j q t hq PS q2 (by simpa using M9) Lr)];refine Lu ((ps.take i).filterMap Cp.sl).reverse st.σ (t,q.d) ?_ (fun q2 M9 Lr=>Hq j q t hq PS q2 ?_ Lr)
   ·rw[dZ];exact cE.2 ⟨q,aC (i:=j) (by rw[cJ,bQ hji];exact hq),by simp[Cp.sl,PS]⟩
   ·obtain⟨q3,Wk,AA⟩:=cE.1 (dZ.1 M9);exact cE.2 ⟨q3,cG Wk,AA⟩
  ·have hno:∀q3∈ps,q3.t≠some t:=by
    intro q3 Wk he;obtain⟨j,hj,hqj⟩:=eP.1 Wk;exact hex ⟨j,q3,by rw[<-hqj];exact ai hj,he⟩
   have hsl:∀(qs:List Cp),(∀q3∈qs,q3.t≠some t)->∀p∈(qs.filterMap Cp.sl).reverse,p.1≠t:=by
    intro qs QX p hp he;obtain⟨q3,Wk,AA⟩:=cE.1 (dZ.1 hp);unfold Cp.sl at AA;cases hpt:q3.t with
    |none=>rw[hpt]at AA;cases AA
    |some u=>rw[hpt]at AA;simp only[cZ,ax]at AA;subst AA;simp only at he;exact QX q3 Wk (by rw[hpt,he])
   rw[Hv _ _ _ (hsl _ hno),Hv _ _ _ (hsl _ (fun q3 Wk=>hno q3 (cG Wk)))]
 have a5u:∀i∈L,∃(o:Oper) (p:Cp),l.toArray[i]?=some o/\ps[i]?=some p/\p.obs=[]/\p.up=none/\a0q P Γ X l ((ps.filterMap Cp.sl).reverse++st.σ) st.H i:=by
  intro i hi;have hin:=Ht i hi;have h1:=bB.1 hL i hi;obtain⟨o,p,ho,hp,hd,hc,_⟩:=hop i hin;simp only[ho,aY]at h1;have hg:o.guard=none:=by simpa using h1.2.1
  have hst:=hstill i hi o (by simpa using ho);rcases hc with⟨t,hpt,YI,hdt,htn,hc⟩|⟨_,_,hdt,_⟩
  ·have hc:MD P st.H (((ps.take i).filterMap Cp.sl).reverse++st.σ) o p:=by
    rcases hc with⟨_,hc⟩|⟨_,_,_,_,hg',_⟩|⟨_,_,_,hg',_⟩
    ·exact hc
    ·rw[hg]at hg';cases hg'
    ·rw[hg]at hg';cases hg'
   have hpv:pv P ⟨((ps.take i).filterMap Cp.sl).reverse++st.σ,st.H⟩ o.op=some p.d/\p.obs=[]:=by
    rcases hc with(hc|⟨f,xs,ts,ds,ms,d,Wg,_⟩)| (⟨T,zs,Wg,_⟩|⟨T,x,ds,Wg,_⟩)|⟨T,e,sz,len,parts,zs,ds,es,Wg,_⟩|⟨T,e,sz,len,parts,zs,ds,Wg,_⟩
    ·exact hc
    all_goals(rw[Wg]at hst;simp[Ep]at hst)
   refine⟨o,p,ho,hp,hpv.2,YI,o,t,p.d,ho,hg,hdt,htn,?_,?_⟩
   ·exact Lu (ps.filterMap Cp.sl).reverse st.σ (t,p.d) (by rw[dZ];exact cE.2 ⟨p,aC hp,by simp[Cp.sl,hpt]⟩) (fun q2 M9 Lr=>Hq i p t hp hpt q2 (by simpa using M9) Lr)
   ·intro σ' H' hX Us;have e1:pv P ⟨(ps.filterMap Cp.sl).reverse++st.σ,st.H⟩ o.op=some p.d:=Td (fun _ _ h=>h) (QJ (st:=⟨_,st.H⟩) (xZ:=⟨_,st.H⟩) (ops:=l.toArray) (o:=o) (fun t ht=>hlk i o hin ho t ht)) hpv.1;refine a3D hX hst ?_ e1;intro x hx;rw[Ui σ' H' st.H x];exact(QJ (st:=⟨σ',st.H⟩) (xZ:=⟨_,st.H⟩) (ops:=l.toArray) (o:=o) (fun t ht=>Us t ht) x hx).symm
  ·have:o.dst.isSome=true:=h1.2.2;rw[hdt]at this;cases this
 intro κ Θ a w hs;have switch:∀(f:Nat) (listed:Array Bool) (σ':List (Nat×D)) (H':bW) (κ:Nat->Option Value) (Θ:Nat->Nat) (a:Act) (w:World),HeadInv .any l.toArray n listed->
  ((List.range n).filter fun i=> !listed.getD i false).length=f->
  (∀(i:Nat) p t,ps[i]?=some p->p.t=some t->listed.getD i false=true->lk σ' t=p.d)->
  (∀t,(∀(i:Nat) p,ps[i]?=some p->listed.getD i false=true->p.t≠some t)->lk σ' t=lk st.σ t)->
  H'.length=st.H.length+(ps.flatMap Cp.obs).length->Ext st.H H'->
  (∀(i:Nat) p,ps[i]?=some p->listed.getD i false=true->∀(j:Nat) o,p.obs[j]?=some o->(∀(i2:Nat) q ob,ps[i2]?=some q->listed.getD i2 false=true->q.up≠some (p.r+j,ob))->H'[p.r+j]?=some o)->
  (∀(i:Nat) q id ob,ps[i]?=some q->listed.getD i false=true->q.up=some (id,ob)->H'[id]?=some ob/\∃v,κ id=some v)->
  (∀(i:Nat) p,ps[i]?=some p->listed.getD i false=false->∀j,j<p.obs.length->κ (p.r+j)=none)->
  eM Γ ⟨σ',H'⟩ κ Θ a w->(∀i,i<n->i∉L->listed.getD i false=true)->
  wpAny P .any l.toArray (fun e a' w'=>∃xZ κ' Θ',eM Γ xZ κ' Θ' a' w'/\Q e xZ) (f+(l.toArray.size-n)) listed a w:=by
  intro f listed σ' H' κ Θ a w inv pE hA hB hHl hHe YE hHu YD hs hN;have a5g:∀(i:Nat) p,ps[i]?=some p->(p.up≠none\/p.obs≠[])->listed.getD i false=true:=by
   intro i p hp hne;have hi:i<n:=by have:=(aH.1 hp).1;omega
   refine hN i hi fun hiL=>?_
   obtain⟨_,p',_,hp',h1,h2,_⟩:=a5u i hiL;rw[hp]at hp';cases hp';rcases hne with h|h
   ·exact h h2
   ·exact h h1
  have OS:∀t,(∀i∈L,∀o,l.toArray[i]?=some o->listed.getD i false=false->o.dst≠some t)->lk σ' t=lk ((ps.filterMap Cp.sl).reverse++st.σ) t:=by
   intro t hno;by_cases hex:∃(i:Nat) (p:Cp),ps[i]?=some p/\p.t=some t
   ·obtain⟨i,p,hp,hpt⟩:=hex;have hi:i<n:=by have:=(aH.1 hp).1;omega
    have hli:listed.getD i false=true:=by
     cases hl:listed.getD i false with
     |true=>rfl
     |false=>
      obtain⟨o,p',ho,hp',hd,_⟩:=hop i hi;rw[hp]at hp';cases hp';by_cases hiL:i∈L
      ·exact absurd (by rw[hd,hpt]) (hno i hiL o ho hl)
      ·rw[hN i hi hiL]at hl;cases hl
    rw[hA i p t hp hpt hli];exact(Lu (ps.filterMap Cp.sl).reverse st.σ (t,p.d) (by rw[dZ];exact cE.2 ⟨p,aC hp,by simp[Cp.sl,hpt]⟩) (fun q hq he=>Hq i p t hp hpt q (by simpa using hq) he)).symm
   ·rw[hB t (fun i p hp _ he=>hex ⟨i,p,hp,he⟩),Hv];intro q hq he;obtain⟨p,hp,hps⟩:=cE.1 (dZ.1 hq);obtain⟨i,hi,hpi⟩:=eP.1 hp;refine hex ⟨i,p,by rw[<-hpi];exact ai hi,?_⟩;unfold Cp.sl at hps;cases hpt:p.t with
    |none=>rw[hpt]at hps;cases hps
    |some u=>rw[hpt]at hps;simp only[cZ,ax]at hps;subst hps;simp only at he;rw[he]
  have a1E:H'=st.H++PJ:=by
   apply o7;intro k;by_cases h1:k<st.H.length
   ·rw[bA h1];exact hHe k _ (ai h1)|>.trans (ai h1).symm
   ·rw[bE (by omega)];by_cases hex:∃(i:Nat) (q:Cp) (ob:Ob),ps[i]?=some q/\q.up=some (k,ob)
    ·obtain⟨i,q,ob,hq,he⟩:=hex;rw[(hHu i q k ob hq (a5g i q hq (.inl (by rw[he];simp))) he).1,hFu i q k ob hq he]
    ·have hno:∀(i:Nat) q ob,ps[i]?=some q->q.up≠some (k,ob):=fun i q ob hq he=>hex ⟨i,q,ob,hq,he⟩
     rw[hFo (k-st.H.length) (fun i q ob hq=>by rw[show st.H.length+(k-st.H.length)=k from by omega];exact hno i q ob hq)];by_cases h2:k-st.H.length<(ps.flatMap Cp.obs).length
     ·obtain⟨i,p,j,hp,hj,hk⟩:=BD h2;have e3:p.r+j=k:=by rw[Wj i p hp];omega
      have h3:=YE i p hp (a5g i p hp (.inr (by intro e;rw[e]at hj;simp at hj))) j _ (ai hj) (fun i2 q ob hq _=>by rw[e3];exact hno i2 q ob hq);rw[e3]at h3;rw[h3,rq hp,hk,bE (by omega),dh,bA hj,ai hj]
     ·rw[ck (by omega),ck (by omega)]
  subst a1E;have hsz:=inv.size;have hcm:((List.range m).filter fun i=> !listed.getD i false).length=f+(m-n):=by
   have:=P5 (p:=fun i=> !listed.getD i false) (n:=n) (m-n) (fun i h1 h2=>by
    have:=getD_both (inv.tail i h1 (by omega));simp only[this];rfl)
   rw[show n+(m-n)=m from by omega]at this;rw[this,pE]
  have:=Ud (Q:=Q) (H0:=st.H) hB0 (fun i hi=>by obtain⟨_,_,_,_,_,_,h⟩:=a5u i hi;exact h) (f+(m-n)) 0 ⟨(ps.filterMap Cp.sl).reverse++st.σ,st.H++PJ⟩ listed σ' κ Θ a w
   ⟨hsz,inv.closed,fun t h1 h2=>absurd h2 (by omega)⟩ hN (by omega) (fun i h1 h2=>absurd h2 (by omega)) (fun i h1 h2=>getD_both (inv.tail i (by omega) h2)) hcm (fun _ _=>rfl)
   ((BV.refl _).app _) (by simpa using hK) OS hs
  rw[show f+(m-n)+(l.toArray.size-m)=f+(l.toArray.size-n)from by omega]at this;exact this
 have main:∀(f:Nat) (listed:Array Bool) (σ':List (Nat×D)) (H':bW) (κ:Nat->Option Value) (Θ:Nat->Nat) (a:Act) (w:World),HeadInv .any l.toArray n listed->
  ((List.range n).filter fun i=> !listed.getD i false).length=f->
  (∀(i:Nat) p t,ps[i]?=some p->p.t=some t->listed.getD i false=true->lk σ' t=p.d)->
  (∀t,(∀(i:Nat) p,ps[i]?=some p->listed.getD i false=true->p.t≠some t)->lk σ' t=lk st.σ t)->
  H'.length=st.H.length+(ps.flatMap Cp.obs).length->Ext st.H H'->
  (∀(i:Nat) p,ps[i]?=some p->listed.getD i false=true->∀(j:Nat) o,p.obs[j]?=some o->(∀(i2:Nat) q ob,ps[i2]?=some q->listed.getD i2 false=true->q.up≠some (p.r+j,ob))->H'[p.r+j]?=some o)->
  (∀(i:Nat) q id ob,ps[i]?=some q->listed.getD i false=true->q.up=some (id,ob)->H'[id]?=some ob/\∃v,κ id=some v)->
  (∀(i:Nat) p,ps[i]?=some p->listed.getD i false=false->∀j,j<p.obs.length->κ (p.r+j)=none)->
  eM Γ ⟨σ',H'⟩ κ Θ a w->
  wpAny P .any l.toArray (fun e a' w'=>∃xZ κ' Θ',eM Γ xZ κ' Θ' a' w'/\Q e xZ) (f+(l.toArray.size-n)) listed a w:=by
  intro f
  induction f with
  |zero=>
   intro listed σ' H' κ Θ a w inv pE hA hB hHl hHe YE hHu YD hs;have hall:∀i,i<n->listed.getD i false=true:=by
    intro i hi;have h0:=cc pE;cases hl:listed.getD i false with
    |true=>rfl
    |false=>
     have:i∈(List.range n).filter fun i=> !listed.getD i false:=fo.2 ⟨bq.2 hi,by simp[hl]⟩
     rw[h0]at this;cases this
   exact switch 0 listed σ' H' κ Θ a w inv pE hA hB hHl hHe YE hHu YD hs (fun i hi _=>hall i hi)
  |succ f ih=>
   intro listed σ' H' κ Θ a w inv pE hA hB hHl hHe YE hHu YD hs;by_cases hsw:∀i,i<n->i∉L->listed.getD i false=true
   ·exact switch (f+1) listed σ' H' κ Θ a w inv pE hA hB hHl hHe YE hHu YD hs hsw
   have aCm:∃i,i<n/\i∉L/\listed.getD i false=false:=by
    obtain⟨i,hi⟩:=Classical.not_forall.1 hsw;refine⟨i,?_⟩;by_cases h1:i<n
    ·by_cases h2:i∈L
     ·exact absurd (fun _ h=>absurd h2 h) hi
     ·refine⟨h1,h2,?_⟩;cases hl:listed.getD i false with
      |false=>rfl
      |true=>exact absurd (fun _ _=>hl) hi
    ·exact absurd (fun h=>absurd h h1) hi
   have hun:∃i,i<n/\listed.getD i false=false:=by
    have hne:((List.range n).filter fun i=> !listed.getD i false)≠[]:=by
     intro h0;rw[h0]at pE;simp at pE
    obtain⟨i,hi⟩:=wh _ hne;obtain⟨h1,h2⟩:=fo.1 hi;exact⟨i,bq.1 h1,by simpa using h2⟩
   have hsz:=inv.size;rw[show f+1+(l.toArray.size-n)=(f+(l.toArray.size-n))+1 from by omega];refine⟨fun h0=>?_,fun i hi=>?_⟩
   ·exfalso;obtain⟨i,⟨hin,Vp⟩,hmin⟩:=exists_least (p:=fun i=>i<n/\listed.getD i false=false) hun;obtain⟨o,p,ho,_,_,_⟩:=hop i hin;have:i∈Region.ready .any l.toArray listed:=by
     refine mem_ready.2 ⟨getD_in (by rw[hsz];omega) Vp,o,ho,fun e he hb=>?_⟩;have:=bB.1 Oq i (bq.2 hin);simp only[ho,aY]at this;have:=xe.1 this.1.1 e he;simp only[hb,bP,pJ,bI]at this;cases hl:listed.getD e.on false with
     |true=>rfl
     |false=>
      have:=hmin e.on ⟨by omega,hl⟩;omega
    rw[h0]at this;cases this
   ·obtain⟨i0,hi0,hl0⟩:=hun;have hin:i<n:=by
     rcases eO i n with h|h
     ·exact h
     ·obtain⟨i1,hi1,aCF,hl1⟩:=aCm;obtain⟨_,oi,hoi,_⟩:=mem_ready.1 hi;have Ei:i<l.toArray.size:=(bL.1 hoi).1;exfalso;rcases eO i m with hm1|hm1
      ·have h1:=bB.1 hmid (i-n) (bq.2 (by omega));have h2:=bB.1 h1 i1 (bq.2 (by omega));rw[show n+(i-n)=i from by omega]at h2;simp only[oX]at h2;rcases h2 with h2|h2
       ·rw[A8 inv.closed hi h2]at hl1;cases hl1
       ·exact aCF (by simpa using h2)
      ·have h1:=bB.1 a1X (i-m) (bq.2 (by omega));have h2:=bB.1 h1 i1 (bq.2 (by omega));rw[show m+(i-m)=i from by omega]at h2;rw[A8 inv.closed hi h2]at hl1;cases hl1
    obtain⟨o,p,ho,hp,hd,hc,_⟩:=hop i hin;obtain⟨Vp,o',ho',hall⟩:=mem_ready.1 hi;rw[ho]at ho';cases ho';have Cw:=getD_both Vp;have hc':vi P Γ l.toArray st.H σ' o p:=by
     refine vi.congr (σ:=((ps.take i).filterMap Cp.sl).reverse++st.σ) (σ':=σ') ?_ hc;intro t ht;have NL:=bB.1 Oq i (bq.2 hin);simp only[ho,aY]at NL;have NL:=bB.1 NL.1.2 t ht;by_cases hex:∃(j:Nat) (q:Cp),ps[j]?=some q/\q.t=some t
     ·obtain⟨j,q,hq,PS⟩:=hex;have hj:j<n:=by have:=(aH.1 hq).1;omega
      obtain⟨oj,q',A9,Rb,hdj,_⟩:=hop j hj;rw[hq]at Rb;cases Rb;have:=bB.1 NL j (bq.2 hj);simp only[A9,hdj,PS,cw,bP,pJ,aY,bI]at this;obtain⟨hji,a1b⟩:=this;obtain⟨oi',a1U,e,he,hb,hon⟩:=Region.waitsFor_spec a1b;rw[ho]at a1U;cases a1U;have hjl:=hall e he hb;rw[hon]at hjl;rw[hA j q t hq PS hjl];refine Lu ((ps.take i).filterMap Cp.sl).reverse st.σ (t,q.d) ?_ (fun q2 M9 Lr=>Hq j q t hq PS q2 ?_ Lr)
      ·rw[dZ];exact cE.2 ⟨q,aC (i:=j) (by rw[cJ,bQ hji];exact hq),by simp[Cp.sl,PS]⟩
      ·obtain⟨q3,Wk,AA⟩:=cE.1 (dZ.1 M9);exact cE.2 ⟨q3,cG Wk,AA⟩
     ·rw[hB t (fun j q hq _ he=>hex ⟨j,q,hq,he⟩),Hv];intro q hq he;obtain⟨q3,Wk,AA⟩:=cE.1 (dZ.1 hq);obtain⟨j,hj,hqj⟩:=eP.1 (cG Wk);refine hex ⟨j,q3,by rw[<-hqj];exact ai hj,?_⟩;unfold Cp.sl at AA;cases hpt:q3.t with
      |none=>rw[hpt]at AA;cases AA
      |some u=>rw[hpt]at AA;simp only[cZ,ax]at AA;subst AA;simp only at he;rw[he]
    have hfp:=hfit i p hp;have a1N:∀id ob,p.up=some (id,ob)->∃v,κ id=some v:=by
     intro id ob he;rcases hc' with⟨_,_,h,_⟩|⟨_,_,_,_,T,x,y,id',ds,Wg,hx',_,_,_,_,YI⟩
     ·rw[h]at he;cases he
     ·rw[YI]at he;cases he;obtain⟨b1,r1,_⟩:=hs.ev x;rw[Ui σ' H' st.H x,hx']at r1;obtain⟨g,hk,_⟩:=r1.Cb;exact⟨_,hk⟩
    have a1Y:∀id ob,p.up=some (id,ob)->∃zs ds,H'[id]?=some (.box zs)/\ob=.box ds/\zs.length=ds.length:=by
     intro id ob he;obtain⟨u1,⟨zs,ds,u2,u3,u4⟩,_⟩:=TA i p id ob hp he;refine⟨zs,ds,?_,u2,u3⟩;obtain⟨i1,p1,j1,hp1,KA,hk1⟩:=BD (aH.1 u4).1;have Wh:ps[i1]?=some p1:=by
      have:=(aH.1 hp1).1;rw[cJ]at hp1;split at hp1
      ·exact hp1
      ·cases hp1
     have hi1:i1<i:=by have:=(aH.1 hp1).1;simp at this;omega
     have et:(ps.take i).take i1=ps.take i1:=by rw[vf,fB (by omega)]
     rw[et]at hk1;have e1:p1.r+j1=id:=by rw[Wj i1 p1 Wh];omega
     have CB:p1.obs[j1]?=some (.box zs):=by
      rw[rq hp1,et,hk1,bE (by omega),dh,bA KA]at u4;exact u4
     have hl1:listed.getD i1 false=true:=by
      cases hl:listed.getD i1 false with
      |true=>rfl
      |false=>
       have h0:=YD i1 p1 Wh hl j1 KA;rw[e1]at h0;obtain⟨v,hv⟩:=a1N id ob he;rw[h0]at hv;cases hv
     have:=YE i1 p1 Wh hl1 j1 _ CB (fun i2 q D8 hq hl Lr=>by
      rw[e1]at Lr;have:=a1Z i i2 p q id ob D8 hp hq he Lr;subst this;rw[Cw]at hl;cases hl)
     rw[e1]at this;exact this
    refine hc'.wp hs hHe ho (by omega) (fun j hj=>YD i p hp Cw j hj) a1Y fun κ' Θ' a' w' hs' hsame=>?_
    have qZ:∀(j:Nat),(listed.setIfInBounds i true).getD j false=true↔(j=i\/listed.getD j false=true):=by
     intro j;by_cases e:i=j
     ·subst e;have:i<listed.size:=by rw[hsz];omega
      simp[this]
     ·rw[getD_set_ne false e];constructor
      ·exact .inr
      ·rintro(rfl|h)
       ·exact absurd rfl e
       ·exact h
    have hput:(p.D2 H').length=H'.length:=by
     unfold Cp.D2;split
     ·simp
     ·exact wY (by omega)
    have a78:∀(k:Nat),k<st.H.length->(p.D2 H')[k]?=H'[k]?:=by
     intro k hk;unfold Cp.D2;split
     ·rename_i id ob he;have:=(TA i p id ob hp he).1;rw[cF (by omega)]
     ·rw[wX (by omega),bQ (by rw[Wj i p hp];omega)]
    refine ih (listed.setIfInBounds i true) (p.slot σ') (p.D2 H') κ' Θ' a' w' (inv.set hi hin) ?_ ?_ ?_ (by rw[hput];exact hHl) ?_ ?_ ?_ ?_ hs'
    ·have ZN:((List.range n).filter fun j=> !(listed.setIfInBounds i true).getD j false)=((List.range n).filter fun j=> !listed.getD j false).erase i:=by
      have hnd:((List.range n).filter fun j=> !listed.getD j false).Nodup:=zg _ DC;rw[hnd.erase_eq_filter,xf];apply yR;intro j _;by_cases e:j=i
      ·subst e;have:=(qZ j).2 (.inl rfl);rw[this];simp
      ·rw[getD_set_ne false (tZ e)];simp[e]
     rw[ZN,rK (fo.2 ⟨bq.2 hin,by simp[Cw]⟩),pE];rfl
    ·intro j q t hq PS hl;unfold Cp.slot;rcases(qZ j).1 hl with rfl|Ej
     ·rw[hp]at hq;cases hq;rw[PS];simp[lk]
     ·cases hpt:p.t with
      |none=>exact hA j q t hq PS Ej
      |some u=>
       simp only[lk];rw[bG,hA j q t hq PS Ej];intro e;have:=hdist j i q p t hq hp PS (by rw[hpt,e]);subst this;rw[Cw]at Ej;cases Ej
    ·intro t ht;unfold Cp.slot;have xW:=hB t (fun j q hq hl=>ht j q hq ((qZ j).2 (.inr hl)));cases hpt:p.t with
     |none=>exact xW
     |some u=>
      simp only[lk];rw[bG (fun e=>ht i p hp ((qZ i).2 (.inl rfl)) (by rw[hpt,e]))];exact xW
    ·intro j y hj;rw[a78 j (aH.1 hj).1];exact hHe j y hj
    ·intro j q hq hl k y hy hno;have hkl:=(aH.1 hy).1;unfold Cp.D2;split
     ·rename_i id ob he;have hne:q.r+k≠id:=fun e=>hno i p ob hp ((qZ i).2 (.inl rfl)) (by rw[e];exact he)
      rw[cF (tZ hne)];rcases(qZ j).1 hl with rfl|Ej
      ·rw[hp]at hq;cases hq;rw[a1a j p id ob hp he]at hy;simp at hy
      ·exact YE j q hq Ej k y hy (fun i2 q2 D8 M9 hl3=>hno i2 q2 D8 M9 ((qZ i2).2 (.inr hl3)))
     ·rw[wX (by omega)];rcases(qZ j).1 hl with rfl|Ej
      ·rw[hp]at hq;cases hq;rw[bG (by omega),bQ (by omega),dh];exact hy
      ·have hne:j≠i:=fun e=>by subst e;rw[Cw]at Ej;cases Ej
       have h3:=YE j q hq Ej k y hy (fun i2 q2 D8 M9 hl3=>hno i2 q2 D8 M9 ((qZ i2).2 (.inr hl3)));rcases xg hne with h|h
       ·have:=T5 j i q p hq hp h;rw[bQ (by omega)];exact h3
       ·have:=T5 i j p q hp hq h;rw[bG (by omega),bG (by omega)];exact h3
    ·intro j q id ob hq hl he;rcases(qZ j).1 hl with rfl|Ej
     ·rw[hp]at hq;cases hq;obtain⟨zs,ds,z1,_⟩:=a1Y id ob he;have hlt:=(aH.1 z1).1;refine⟨by simp only[Cp.D2,he];rw[dQ hlt],?_⟩;obtain⟨v,hv⟩:=a1N id ob he;refine⟨v,?_⟩;rw[hsame id (by rw[a1a j p id ob hp he];simp;omega)];exact hv
     ·obtain⟨h1,v,hv⟩:=hHu j q id ob hq Ej he;have hout:id<p.r\/p.r+p.obs.length<=id:=by
       rcases eO id p.r with h|h
       ·exact .inl h
       ·rcases eO id (p.r+p.obs.length)with h2|h2
        ·have:=YD i p hp Cw (id-p.r) (by omega);rw[show p.r+(id-p.r)=id from by omega,hv]at this;cases this
        ·exact .inr h2
      refine⟨?_,v,by rw[hsame id hout];exact hv⟩;unfold Cp.D2;split
      ·rename_i id2 D8 Lr;have hne:id2≠id:=fun e=>by
        subst e;have:=a1Z i j p q id2 D8 ob hp hq Lr he;subst this;rw[Cw]at Ej;cases Ej
       rw[cF hne];exact h1
      ·rw[wX (by omega)];rcases hout with h|h
       ·rw[bQ h];exact h1
       ·rw[bG (by omega),bG (by omega)];exact h1
    ·intro j q hq hl k hk;have hne:j≠i:=fun e=>by
      subst e;have:=(qZ j).2 (.inl rfl);rw[this]at hl;cases hl
     have Ej:listed.getD j false=false:=by
      cases h:listed.getD j false with
      |false=>rfl
      |true=>have:=(qZ j).2 (.inr h);rw[this]at hl;cases hl
     have h3:=YD j q hq Ej k hk;rw[hsame,h3];rcases xg hne with h|h
     ·have:=T5 j i q p hq hp h;omega
     ·have:=T5 i j p q hp hq h;omega
 have a7m:HeadInv .any l.toArray n (Array.replicate l.toArray.size false):=
  ⟨by simp,fun j oj _ hl=>(by rw[getD_replicate_false]at hl;cases hl),fun t _ ht=>getD_in (by simpa using ht) (getD_replicate_false _ _)⟩
 have pE:((List.range n).filter fun i=> !(Array.replicate l.toArray.size false).getD i false).length=n:=by
  rw[List.filter_eq_self.2]
  ·simp
  ·intro i _;rw[getD_replicate_false];rfl
 have:=main n (Array.replicate l.toArray.size false) st.σ (st.H++List.replicate (ps.flatMap Cp.obs).length .gone) κ Θ a w a7m pE (fun i p t _ _ hl=>by rw[getD_replicate_false]at hl;cases hl) (fun t _=>rfl)
  (by simp) (fun i o h=>by rw[bA (aH.1 h).1];exact h) (fun i p _ hl=>by rw[getD_replicate_false]at hl;cases hl)
  (fun i q id ob _ hl=>by rw[getD_replicate_false]at hl;cases hl)
  (fun i p hp _ j _=>hs.rI _ (by rw[Wj i p hp];omega)) (hs.room _)
 rw[show n+(l.toArray.size-n)=l.toArray.size from by omega]at this;exact this
def Oz(X:aa)(st:St)(op:Op)(A:eb):Bool:=match op with
 | .buildSlice _ _ _=>true
 | .build _ _=>true
 | .extract _ _=>true
 | .field _ _ _=>true
 | .move _=>true
 | .indexAddr _ x _=>(Qi st (st.ev x)).isNone
 | .load _ x=>(TN st (st.ev x)).isNone&&(match st.ev x,A with| .op id _ _ _,.tk _::_=>X.contains id|_,_=>true)
 | .store _ x _=>(match st.ev x with| .ptr id _=>X.contains id|_=>false)
 | .call c=>(match c.callee,A with
  | .builtin .append,_=>true
  | .value (.func _),.d _::_=>true
  | .value (.func _),.gp _ _ _::_=>(match c.args.toList with|x::_=>(match st.ev x with| .ptr id _=>X.contains id|_=>false)| []=>false)
  |_,_=>false)
 |_=>false
def Un(X:aa)(H H':bW):Bool:=(List.range H.length).all fun i=>X.contains i||(match H[i]? with|some .gone=>true|_=>(match H'[i]? with|some .gone=>false|_=>true))
def Qq(P:Program)(nt:Nat)(X:aa):List Oper->St->eb->Option (St×eb×E7)
 | [],st,A=>some (st,A,[])
 |o::rest,st,A=>match o.guard,Oz X st o.op A with
  |none,true=>(match KL P nt o st A with
   |some (AH,A1,p)=>(match Un X st.H AH.H,Qq P nt X rest AH A1 with|true,some (R9,A2,q)=>some (R9,A2,p++q)|_,_=>none)
   |none=>none)
  |_,_=>none
theorem V4{H:bW}{ms:aa}{i:Nat}(h:i∈ms)(hl:i<H.length):(kill H ms)[i]?=some .gone:=by
 induction ms generalizing H with
 |nil=>cases h
 |cons m ms ih=>
  show(kill (H.set m .gone) ms)[i]?=_;by_cases hi:i∈ms
  ·exact ih hi (by simpa using hl)
  ·rw[jl hi];rcases bM.1 h with rfl|h
   ·rw[dQ hl]
   ·exact absurd h hi
theorem YC{X:aa}{H H':bW}(h:Un X H H'=true){i:Nat}{o:Ob}(hi:i∉X)(ho:H[i]?=some o)(hg:H'[i]?=some .gone):o=.gone:=by
 have h1:=bB.1 h i (bq.2 (aH.1 ho).1);rw[ho,hg,List.contains_eq_mem,b9 hi,pJ]at h1;cases o<;>first|rfl|cases h1
theorem V3{X:aa}{H:bW}{ms:aa}{n:bW}(h:Un X H (kill H ms++n)=true):BV X H (kill H ms++n):=by
 intro i o hi ho;have hl:=(aH.1 ho).1;have e:(kill H ms++n)[i]?=(kill H ms)[i]?:=bA (by rw[iD];exact hl);by_cases hm:i∈ms
 ·have e2:=e.trans (V4 hm hl);rw[e2,YC h hi ho e2]
 ·rw[e,jl hm,ho]
theorem ZW{X:aa}{H:bW}{ms:aa}{n:bW}{id:Nat}{b:Ob}(hid:id∈X)(h:Un X H ((kill H ms).set id b++n)=true):BV X H ((kill H ms).set id b++n):=by
 intro i o hi ho;have hne:id≠i:=fun e=>hi (e▸hid)
 have hl:=(aH.1 ho).1;have e:((kill H ms).set id b++n)[i]?=(kill H ms)[i]?:=by
  rw[bA (by rw[bZ,iD];exact hl),cF hne]
 by_cases hm:i∈ms
 ·have e2:=e.trans (V4 hm hl);rw[e2,YC h hi ho e2]
 ·rw[e,jl hm,ho]
theorem a3A{X:aa}{nt:Nat}{o:Oper}{A A1:eb}{AH:St}{p:E7}(hk:Oz X st o.op A=true)(hgn:Un X st.H AH.H=true)(h:KL P nt o st A=some (AH,A1,p)):((∃t d,o.dst=some t/\t<nt/\AH.σ=(t,d)::st.σ)\/(o.dst=none/\AH.σ=st.σ))/\BV X st.H AH.H:=by
 have plain:∀ {t:Nat},o.dst=some t->(if t<nt then match Jx P st o.op A with|some (d,A,ow)=>some ((⟨(t,d)::st.σ,st.H⟩:St),A,ow)|none=>none else none)=some (AH,A1,p)->((∃t d,o.dst=some t/\t<nt/\AH.σ=(t,d)::st.σ)\/(o.dst=none/\AH.σ=st.σ))/\BV X st.H AH.H:=by
  intro t hd h;split at h
  ·rename_i ht;split at h
   ·cases h;exact⟨.inl ⟨t,_,hd,ht,rfl⟩,BV.refl _⟩
   ·cases h
  ·cases h
 unfold KL at h;split at h
 case h_3=>
  rename_i T x y hop hd;rw[hop]at hk;simp only[Oz]at hk;split at h
  ·rename_i id off ds h1 h2;rw[h1]at hk;split at h
   ·split at h
    ·split at h
     ·cases h;refine⟨.inr ⟨hd,rfl⟩,fun i cs hi hcs=>?_⟩;have hne:id≠i:=fun e=>hi (by subst e;simpa using hk)
      show(st.H.set id _)[i]?=_;rw[cF hne,hcs]
     ·cases h
    ·cases h
   ·cases h
  ·rename_i id i sz off ds h1 h2;rw[h1]at hk;cases hk
  ·cases h
 case h_7=>
  rename_i T len parts t hop hd;split at h
  ·split at h
   ·split at h
    ·split at h
     ·rename_i es ms hab;split at h
      ·rename_i hc;cases h;exact⟨.inl ⟨t,_,hd,hc.1,rfl⟩,V3 hgn⟩
      ·cases h
     ·cases h
    ·cases h
   ·cases h
  ·cases h
 case h_8=>
  rename_i c t hop hd;rw[hop]at hk;simp only[Oz]at hk;split at h
  ·split at h
   ·split at h
    ·rename_i rows u1 k1 fc u2 k2 A' ow _ hS hX;split at h
     ·rename_i hc;cases h;exact⟨.inl ⟨t,_,hd,hc.1,rfl⟩,V3 hgn⟩
     ·cases h
    ·cases h
   ·cases h
  ·rename_i a6x _ _;rw[a6x]at hk;cases hk
  ·rename_i f a6x;rw[a6x]at hk;split at hk
   ·rename_i hb;cases hb
   ·rename_i f' d A' hb;split at h
    ·rename_i hA;cases hA
    ·rename_i hA;cases hA
    ·rename_i hA;cases hA
    ·rename_i hA;cases hA
    ·rename_i hA;cases hA
    ·rename_i hA;cases hA
    ·rename_i ds ms d' A'' hv hA;split at h
     ·rename_i hc;cases h;exact⟨.inl ⟨t,_,hd,hc.1,rfl⟩,(BV.refl _).app _⟩
     ·cases h
    ·rename_i hA;cases hA
    ·cases h
   ·rename_i f' nz cells' d A' hb;generalize M6 st.H (List.map st.ev c.args.toList)=q at h;rcases q with _|⟨qa,qb⟩
    all_goals
     dsimp only at h;split at h
     ·rename_i x0 xr h5;rw[h5]at hk;split at h
      ·rename_i id h6;simp only[h6]at hk;split at h
       ·rename_i ob h7;split at h
        ·rename_i O5 h8;split at h
         ·rename_i cells ds ms qs h9;split at h
          ·rename_i hc;cases h;exact⟨.inl ⟨t,_,hd,hc.1,rfl⟩,ZW (by simpa using hk) hgn⟩
          ·cases h
         ·cases h
        ·cases h
       ·cases h
      ·cases h
     ·cases h
   ·cases hk
  ·exact plain hd h
 case h_13=>
  rename_i T x i t hop hd;rw[hop]at hk;simp only[Oz]at hk;split at h
  ·rename_i hl;rw[hl]at hk;cases hk
  ·exact plain hd h
 case h_14=>
  rename_i T x t hop hd;rw[hop]at hk;simp only[Oz]at hk;split at h
  ·rename_i hl;rw[hl]at hk;cases hk
  ·rw[aY]at hk
   replace hk:=hk.2
   split at h
   ·rename_i r A' id i sz h1;split at h
    ·rename_i n e sz' rows h2;split at h
     ·rename_i hc;cases h;refine⟨.inl ⟨t,_,hd,hc.1,rfl⟩,BV.app (fun j cs hj hcs=>?_) _⟩;have hne:id≠j:=fun e=>hj (by subst e;rw[h1]at hk;simpa using hk)
      rw[cF hne];exact hcs
     ·cases h
    ·cases h
   ·exact plain hd h
 all_goals first
  | (rename_i hop _;rw[hop]at hk;simp[Oz]at hk;done)
  | (rename_i hop;rw[hop]at hk;simp[Oz]at hk;done)
  |skip
 all_goals first
  |exact plain (by assumption) h
  |cases h
theorem Step.of{nt:Nat}(hnt:Γ.nt=nt){o:Oper}{A A1:eb}{AH:St}{p:E7}(hg:o.guard=none)(hsel:∀cs b,o.op≠ .select cs b)(h:KL P nt o st A=some (AH,A1,p))(hp:zM p):Step P Γ o st AH:=by
 intro κ Θ a w hs;have h1:=Sk (P:=P) (Γ:=Γ) (all:= #[]) (rest:=[]) (Q:=fun e s=>e=.normal/\s=AH) hnt hg h hp (a6d ⟨rfl,rfl⟩) κ Θ a w hs;have hw:Region.wanted o (yielded #[] a.tmps)=true:=by simp[Region.wanted,hg]
 simp only[wpList,hw,s9]at h1;rcases h1 with h1|⟨_,a0,w0,xZ,κ',Θ',_,hq,_⟩
 ·refine Vj hsel (fun _ _=>rfl) ?_ ?_ ?_ h1
  ·rintro v w' ⟨xZ,κ',Θ',hs',_,rfl⟩;exact⟨κ',Θ',hs'⟩
  ·rintro d w' ⟨xZ,κ',Θ',hs',_,rfl⟩;have:=hs'.defers;cases hod:o.dst<;>rw[hod]at this<;>cases this
  ·rintro e c w' ⟨xZ,κ',Θ',hs',rfl,_⟩;rfl
 ·cases hq
theorem TR{X:aa}{nt:Nat}(hnt:Γ.nt=nt){K:St->Prop}{R9:St}{A2:eb}:∀ {ops:List Oper} {st:St} {A:eb} {p:E7},Qq P nt X ops st A=some (R9,A2,p)->zM p->K R9->a0b P Γ X K ops st:=by
 intro ops
 induction ops with
 |nil=>intro st A p h hp hK;simp only[Qq,ax,cU]at h;obtain⟨rfl,_,_⟩:=h;exact hK
 |cons o os ih=>
  intro st A p h hp hK;simp only[Qq]at h;split at h
  ·rename_i hg hok;split at h
   ·rename_i AH A1 p1 h1;split at h
    ·rename_i a5L A2' q hgn h2;cases h;obtain⟨hp1,hq⟩:=hp.app;obtain⟨hd,hX⟩:=a3A hok hgn h1;have hsel:∀cs b,o.op≠ .select cs b:=by
      intro cs b e;rw[e]at hok;cases hok
     exact⟨AH,hd.imp (fun⟨t,d,hd,ht,hσ⟩=>⟨t,d,hd,by rw[hnt];exact ht,hσ⟩) id,hX,hg,hsel,Step.of hnt hg hsel h1 hp1,ih h2 hq hK⟩
    ·cases h
   ·cases h
  ·cases h
def a3C(X:aa)(st:St)(ops:List Oper)(L:aa):Bool:=L.all fun i=>match ops[i]? with|some o=>Ep X st o.op|none=>false
theorem a02{X:aa}{st:St}{ops:List Oper}{L:aa}(h:a3C X st ops L=true):∀i∈L,∀o,ops[i]?=some o->Ep X st o.op=true:=by
 intro i hi o ho;have:=bB.1 h i hi;rw[ho]at this;exact this
def Dt(ρ:aa)(o:Oper):Oper:= {o with after:=o.after.map fun e=> {e with on:=ρ.getD e.on 0},guard:=o.guard.map fun g=>(ρ.getD g.1 0,g.2)}
def xd(ops:Array Oper)(π ρ:aa):List Oper:=π.filterMap fun i=>(ops[i]?).map (Dt ρ)
def P0(ops:Array Oper)(π ρ:aa):Bool:=
 decide (π.length=ops.size)&&(decide (ρ.length=ops.size)&&
 (((List.range ops.size).all fun i=>(match ρ[i]? with|some k=>π[k]?==some i|none=>false))&&
 (((List.range ops.size).all fun k=>(match π[k]? with|some i=>ρ[i]?==some k|none=>false))&&
 (ops.toList.all fun o=>(o.after.all fun e=>decide (e.on<ops.size))&&(match o.guard with|some g=>decide (g.1<ops.size)|none=>true)))))
theorem QK(ρ:aa)(o:Oper)(f:Operand->Value):execOp f (Dt ρ o)=execOp f o:=by
 cases o;rfl
theorem a3U(ρ:aa){o:Oper}{K:Act->World->Prop}{Q:Exit->Act->World->Prop}(h:(Dt ρ o).wp P a w K Q):o.wp P a w K Q:=by
 unfold Oper.wp at*;rw[QK]at h;exact h
theorem WD(ρ:aa){o:Oper}(h:(Dt ρ o).asks P a w):o.asks P a w:=by
 unfold Oper.asks at*;rw[QK]at h;exact h
section
variable{ops:Array Oper}{π ρ:aa}
theorem R3(hB:P0 ops π ρ=true){k i:Nat}{o:Oper}(hk:π[k]?=some i)(ho:ops[i]?=some o):(xd ops π ρ).toArray[k]?=some (Dt ρ o):=by
 simp only[P0,aY,bI]at hB;obtain⟨h1,h2,h3,h4,h5⟩:=hB;have hall:∀x∈π,∃o,ops[x]?=some o:=by
  intro x hx;obtain⟨j,hj,rfl⟩:=eP.1 hx;have:=bB.1 h4 j (bq.2 (by omega));rw[ai hj]at this;simp only[cj]at this;have:=(aH.1 this).1;exact⟨_,cR (by omega)⟩
 have key:∀(l:aa) (k:Nat),(∀x∈l,∃o,ops[x]?=some o)->l[k]?=some i->(l.filterMap fun i=>(ops[i]?).map (Dt ρ))[k]?=some (Dt ρ o):=by
  intro l
  induction l with
  |nil=>intro k _ h;simp at h
  |cons x l ih=>
   intro k hl h;obtain⟨ox,hox⟩:=hl x (by simp);rw[Ag];simp only[hox,cZ];cases k with
   |zero=>simp at h;subst h;rw[ho]at hox;cases hox;rfl
   |succ k=>simpa using ih k (fun y hy=>hl y (by simp[hy])) (by simpa using h)
 have:=key π k hall hk;simpa[xd]using this
theorem VK(hB:P0 ops π ρ=true):(xd ops π ρ).toArray.size=ops.size:=by
 have hB':=hB;simp only[P0,aY,bI]at hB;obtain⟨h1,h2,h3,h4,h5⟩:=hB;have hall:∀x∈π,∃o,ops[x]?=some o:=by
  intro x hx;obtain⟨j,hj,rfl⟩:=eP.1 hx;have:=bB.1 h4 j (bq.2 (by omega));rw[ai hj]at this;simp only[cj]at this;have:=(aH.1 this).1;exact⟨_,cR (by omega)⟩
 have key:∀(l:aa),(∀x∈l,∃o,ops[x]?=some o)->(l.filterMap fun i=>(ops[i]?).map (Dt ρ)).length=l.length:=by
  intro l
  induction l with
  |nil=>intro _;rfl
  |cons x l ih=>
   intro hl;obtain⟨ox,hox⟩:=hl x (by simp);rw[Ag];simp only[hox,cZ,aL,ih (fun y hy=>hl y (by simp[hy]))]
 rw[CS,xd,key π hall,h1]
theorem a2R{Q':Exit->Act->World->Prop}(hB:P0 ops π ρ=true):∀(fuel:Nat) (listed listed':Array Bool) (a:Act) (w:World),listed.size=ops.size->listed'.size=ops.size->(∀(k i:Nat),π[k]?=some i->listed'.getD k false=listed.getD i false)->
 wpAny P .any (xd ops π ρ).toArray Q' fuel listed' a w->wpAny P .any ops Q' fuel listed a w:=by
 have hB':=hB;simp only[P0,aY,bI]at hB';obtain⟨h1,h2,h3,h4,h5⟩:=hB';have to:∀i,i<ops.size->∃k,ρ[i]?=some k/\π[k]?=some i/\k<ops.size:=by
  intro i hi;have:=bB.1 h3 i (bq.2 hi);split at this
  ·rename_i k hk;simp only[cj]at this;exact⟨k,hk,this,by have:=(aH.1 this).1;omega⟩
  ·cases this
 have back:∀k,k<ops.size->∃i,π[k]?=some i/\ρ[i]?=some k/\i<ops.size:=by
  intro k hk;have:=bB.1 h4 k (bq.2 hk);split at this
  ·rename_i i hi;simp only[cj]at this;exact⟨i,hi,this,by have:=(aH.1 this).1;omega⟩
  ·cases this
 have rin:∀(i:Nat) o,ops[i]?=some o->(∀e∈o.after,e.on<ops.size)/\∀g,o.guard=some g->g.1<ops.size:=by
  intro i o ho;have hm:o∈ops.toList:=by rw[<-vG]at ho;exact aC ho
  have:=bB.1 h5 o hm;simp only[aY]at this;refine⟨fun e he=>by simpa using xe.1 this.1 e he,fun g hg=>?_⟩;have:=this.2;rw[hg]at this;simpa using this
 have rd:∀(listed listed':Array Bool),listed.size=ops.size->listed'.size=ops.size->(∀(k i:Nat),π[k]?=some i->listed'.getD k false=listed.getD i false)->∀(k i:Nat),π[k]?=some i->(i∈Region.ready .any ops listed↔k∈Region.ready .any (xd ops π ρ).toArray listed'):=by
  intro listed listed' hs1 hs2 Vq k i hki;have hk:k<ops.size:=by have:=(aH.1 hki).1;omega
  obtain⟨i',hi',hr,hilt⟩:=back k hk;rw[hki]at hi';cases hi';have ho:ops[i]?=some ops[i]:=cR hilt;have ho':=R3 hB hki ho;have hon:∀e∈ops[i].after,listed'.getD (ρ.getD e.on 0) false=listed.getD e.on false:=by
   intro e he;obtain⟨k2,hk2,hk3,_⟩:=to e.on ((rin i _ ho).1 e he);rw[lN,hk2,zK];exact Vq k2 e.on hk3
  rw[mem_ready,mem_ready];constructor
  ·rintro⟨q1,o,q2,q3⟩;rw[ho]at q2;cases q2;refine⟨getD_in (by omega) (by rw[Vq k i hki];exact getD_both q1),_,ho',?_⟩;intro e he hb;simp only[Dt,Array.mem_map]at he;obtain⟨e0,he0,rfl⟩:=he;simp only;rw[hon e0 he0];exact q3 e0 he0 hb
  ·rintro⟨q1,o,q2,q3⟩;rw[ho']at q2;cases q2;refine⟨getD_in (by omega) (by rw[<-Vq k i hki];exact getD_both q1),_,ho,?_⟩;intro e he hb;rw[<-hon e he];exact q3 {e with on:=ρ.getD e.on 0} (by simp only[Dt,Array.mem_map];exact⟨e,he,rfl⟩) hb
 have lt:∀ {listed:Array Bool} {ops:Array Oper} {i:Nat},i∈Region.ready .any ops listed->i<ops.size:=by
  intro listed ops i hi;obtain⟨_,o,ho,_⟩:=mem_ready.1 hi;exact(bL.1 ho).1
 have a5w:∀(listed listed':Array Bool),listed.size=ops.size->listed'.size=ops.size->(∀(k i:Nat),π[k]?=some i->listed'.getD k false=listed.getD i false)->(Region.ready .any ops listed=[]↔Region.ready .any (xd ops π ρ).toArray listed'=[]):=by
  intro listed listed' hs1 hs2 Vq;constructor
  ·intro h;rw[zJ];intro k hk;obtain⟨i,hi,_⟩:=back k (by have:=lt hk;rw[VK hB]at this;exact this);have:=(rd listed listed' hs1 hs2 Vq k i hi).2 hk;rw[h]at this;cases this
  ·intro h;rw[zJ];intro i hi;obtain⟨k,_,hk,_⟩:=to i (lt hi);have:=(rd listed listed' hs1 hs2 Vq k i hk).1 hi;rw[h]at this;cases this
 intro fuel
 induction fuel with
 |zero=>
  intro listed listed' a w hs1 hs2 Vq h;exact⟨(a5w listed listed' hs1 hs2 Vq).2 h.1,h.2⟩
 |succ fuel ih=>
  intro listed listed' a w hs1 hs2 Vq h;refine⟨fun h0=>h.1 ((a5w listed listed' hs1 hs2 Vq).1 h0),fun i hi=>?_⟩;have hilt:=lt hi;obtain⟨k,hrk,hk,aEq⟩:=to i hilt;have hkr:=(rd listed listed' hs1 hs2 Vq k i hk).1 hi;have ho:ops[i]?=some ops[i]:=cR hilt;have ho':=R3 hB hk ho;have h2:=wpOp_mono (K':=wpAny P .any ops Q' fuel (listed.setIfInBounds i true)) (fun a' w' h'=>ih (listed.setIfInBounds i true) (listed'.setIfInBounds k true) a' w' (by simpa using hs1) (by simpa using hs2) (by
   intro k2 i2 a1M;by_cases e:k=k2
   ·subst e;rw[hk]at a1M;cases a1M;have g1:k<listed'.size:=by omega
    have g2:i<listed.size:=by omega
    simp[g1,g2]
   ·have e2:i≠i2:=by
     intro e3;subst e3;obtain⟨i',hi',hr',_⟩:=back k2 (by have:=(aH.1 a1M).1;omega);rw[a1M]at hi';cases hi';rw[hrk]at hr';cases hr';exact e rfl
    rw[getD_set_ne false e,getD_set_ne false e2];exact Vq k2 i2 a1M) h') (h.2 k hkr)
  have hw:Region.wanted (Dt ρ ops[i]) (yielded (xd ops π ρ).toArray a.tmps)=Region.wanted ops[i] (yielded ops a.tmps):=by
   cases hg:ops[i].guard with
   |none=>simp[Region.wanted,Dt,hg]
   |some g=>
    obtain⟨j,want⟩:=g;have hj:=(rin i _ ho).2 _ hg;obtain⟨k3,aCb,hk3,_⟩:=to j hj;have A9:ops[j]?=some ops[j]:=cR hj;have aCV:=R3 hB hk3 A9;have:yielded (xd ops π ρ).toArray a.tmps (ρ.getD j 0)=yielded ops a.tmps j:=by
     rw[lN,aCb,zK];unfold yielded;rw[aCV,A9];rfl
    simp only[Region.wanted,Dt,hg,cZ];rw[this]
  unfold wpOp at h2⊢;simp only[ho',ho]at h2⊢;rw[hw]at h2;split
  ·rename_i hwt;rw[bQ hwt]at h2;exact h2.imp (a3U ρ) fun⟨q1,q2⟩=>⟨WD ρ q1,q2⟩
  ·rename_i hwt;rw[bG hwt]at h2;exact h2
theorem Rl.perm(hB:P0 ops π ρ=true)(h:Rl P Γ (xd ops π ρ).toArray Q st):Rl P Γ ops Q st:=by
 intro κ Θ a w hs;have:=h κ Θ a w hs;rw[VK hB]at this;refine a2R hB ops.size (Array.replicate ops.size false) (Array.replicate ops.size false) a w (by simp) (by simp) (fun k i _=>?_) this;rw[getD_replicate_false,getD_replicate_false]
end
end
end Go.Cx
namespace Go.Cx
open Go.RowKit
def Ab(P:Program)(nt:Nat)(all:Array Oper):List Oper->St->eb->Option (St×eb×E7)
 | [],st,A=>(match shares A st with| (AH,A1)=>some (AH,A1,[]))
 |o::rest,st,A=>match o.guard with
  |none=>(match KL P nt o st A with
   |some (AH,A1,p)=>(match Ab P nt all rest AH A1 with|some (R9,A2,q)=>some (R9,A2,p++q)|none=>none)
   |none=>none)
  |some (j,want)=>(match(all[j]?).bind (·.dst),A with
   |some s,.b v::A=>(match lk st.σ s with
    | .bool b=>(match v==want with
     |true=>(match KL P nt {o with guard:=none} st A with
      |some (AH,A1,p)=>(match Ab P nt all rest AH A1 with|some (R9,A2,q)=>some (R9,A2,(b=v)::(p++q))|none=>none)
      |none=>none)
     |false=>(match o.dst with
      |some t=>(if t<nt then match Ab P nt all rest ⟨(t,.iF [])::st.σ,st.H⟩ A with|some (R9,A2,q)=>some (R9,A2,(b=v)::q)|none=>none else none)
      |none=>(match Ab P nt all rest st A with|some (R9,A2,q)=>some (R9,A2,(b=v)::q)|none=>none)))
    | .iF []=>(match o.dst with
     |some t=>(if t<nt then Ab P nt all rest ⟨(t,.iF [])::st.σ,st.H⟩ A else none)
     |none=>Ab P nt all rest st A)
    |_=>none)
   |_,_=>none)
def Xz(P:Program)(H:bW)(r:Nat)(σ:List (Nat×D))(o:Oper)(A:eb):Option (D×bW×eb×E7):=match o.op with
 | .call c=>(match c.callee with
  | .value (.func f)=>(match M6 H (c.args.toList.map (St.ev ⟨σ,H⟩)),A with
   |some (ds,ms),.d d::A=>(if ms=[]\/d.Qy=true then some ((rH r d).1,(rH r d).2,A,[Good P f ds d])else none)
   |some (ds,ms),.ds d::A=>(if d.a7x=true/\d.Qy=true then some (d.shV,[],A,[Good P f ds d])else none)
   |_,.nl d::A=>(if(c.args.toList.map (St.ev ⟨σ,H⟩)).all Ox=true then some ((rH r d).1,(rH r d).2,A,[Good P f (c.args.toList.map (St.ev ⟨σ,H⟩)) d])else none)
   |_,_=>none)
  |_=>(match Jx P ⟨σ,H⟩ o.op A with|some (d,A,ow)=>some (d,[],A,ow)|none=>none))
 | .alloc T=>(match tz P T with|some zs=>some (.ptr r 0,[.box zs],A,[])|none=>none)
 | .box _ x=>(match(St.ev ⟨σ,H⟩ x).cellsOf with|some ds=>some (.ptr r 0,[.box ds],A,[])|none=>none)
 | .buildSlice T len parts=>(match IM P T with
  |some (e,sz)=>(match tz P e with
   |some zs=>(match AE (vF len sz) (List.replicate len zs).flatten (parts.toList.map fun q=>(q.1,St.ev ⟨σ,H⟩ q.2))with
    |some ds=>(match A with
     | .vw _::A=>(if 0<sz/\len*sz<=16777216/\ds.all D.U9=true/\ds.all D.flat=true then some (.sl (chunk sz len ds),[],A,[])else none)
     |A=>(match O3 H ds with
      |some (es,ms)=>(if 0<sz/\len*sz<=16777216/\ms=[]then some (.acc r,[.row (BH (ds.all (Yn H))) e sz (chunk sz len es)],A,[])else none)
      |none=>none))
    |none=>none)
   |none=>none)
  |none=>none)
 |_=>(match Jx P ⟨σ,H⟩ o.op A with|some (d,A,ow)=>some (d,[],A,ow)|none=>none)
def za(P:Program)(nt:Nat)(all:Array Oper)(H:bW):List Oper->List (Nat×D)->bW->aa->eb->Option (List (Nat×D)×bW×eb×E7)
 | [],σ,acc,_,A=>some (σ,acc,A,[])
 |o::rest,σ,acc,U,A=>match o.dst with
  |none=>(match o.op,o.guard with
   | .store T x y,none=>(match St.ev ⟨σ,H⟩ x,(St.ev ⟨σ,H⟩ y).cellsOf with
    | .ptr id off,some ds=>(match acc[id-H.length]? with
     |some (.box zs)=>(if off=0/\H.length<=id/\id∉U/\Tu P T=true/\ds.length=BQ P T/\zs.length=ds.length then za P nt all H rest σ (acc.set (id-H.length) (.box ds)) (id::U) A else none)
     |_=>none)
    |_,_=>none)
   |_,_=>none)
  |some t=>(if t<nt then match o.guard with
   |none=>(match Xz P H (H.length+acc.length) σ o A with
    |some (d,obs,A1,p)=>(match za P nt all H rest ((t,d)::σ) (acc++obs) U A1 with|some (σ2,UL,A2,q)=>some (σ2,UL,A2,p++q)|none=>none)
    |none=>none)
   |some (j,want)=>(match(all[j]?).bind (·.dst),A with
    |some s,.b v::A=>(match lk σ s with
     | .bool b=>(match v==want with
      |true=>(match Xz P H (H.length+acc.length) σ o A with
       |some (d,obs,A1,p)=>(match za P nt all H rest ((t,d)::σ) (acc++obs) U A1 with|some (σ2,UL,A2,q)=>some (σ2,UL,A2,(b=v)::(p++q))|none=>none)
       |none=>none)
      |false=>(match za P nt all H rest ((t,.iF [])::σ) acc U A with|some (σ2,UL,A2,q)=>some (σ2,UL,A2,(b=v)::q)|none=>none))
     | .iF []=>za P nt all H rest ((t,.iF [])::σ) acc U A
     |_=>none)
    |_,_=>none)
   else none)
inductive Fr where
 |sq (c:Code)
 |bl (id:Nat)
 |lp
def depth:List Fr->Nat
 | []=>0
 | .lp::K=>depth K+1
 |_::K=>depth K
inductive Cfg where
 |run (c:Code)
 |nor
 |ex (id:Nat)
inductive Stop where
 |ret (d:D)
 |lp (c:Code) (K:List Fr) (st:St)
 |cont (k:Nat) (st:St)
 |at_ (c:Code) (K:List Fr) (st:St)
def a82(P:Program)(rs:List ResultVar×List (List (Option (Nat×Nat))))(st:St):Option D:=match F1 P st rs.1 with
 |some ds=>(match Du st.H rs.2 ds with|some (es,ms,qs)=>(if ms.Nodup/\qs.Nodup then some (C5 es)else none)|none=>none)
 |none=>none
def aCM(A:eb)(m:Nat):Option (aa×aa):=match A with
 | .hl m' k o::_=>if m'=m then some (k,o)else none
 |_=>none
def Sc(p:E7)(x:Option (Stop×E7)):Option (Stop×E7):=match x with
 |some (s,q)=>some (s,p++q)
 |none=>none
def go(P:Program)(rf:St->Option D)(nt:Nat):Nat->Cfg->List Fr->St->eb->Option (Stop×E7)
 |0,_,_,_,_=>none
 |n+1,.run c,K,st,A=>(match c with
  | .skip=>go P rf nt n .nor K st A
  | .ret=>(match rf st with|some d=>some (.ret d,[])|none=>none)
  | .exit id=>go P rf nt n (.ex id) K st A
  | .seq x y=>go P rf nt n (.run x) (.sq y::K) st A
  | .block id x=>go P rf nt n (.run x) (.bl id::K) st A
  | .loop x=>(match A with
   | .cn k o::_=>(if o.Nodup then some (.lp x K (st.Ey k o),[])else none)
   | .pb id off e sz::A=>(match st.prom id off e sz with|some AH=>(match shares A AH with| (R9,A2)=>go P rf nt n (.run (.loop x)) K R9 A2)|none=>none)
   |_=>none)
  | .cond x y z=>(match st.ev x,A with
   | .bool b,.b v::A=>Sc [b=v] (go P rf nt n (.run (match v with|true=>y|false=>z)) K st A)
   |_,_=>none)
  | .region _ ops dr=>(match dr with
   |false=>(match Ab P nt ops ops.toList st A with|some (AH,A1,p)=>Sc p (go P rf nt n .nor K AH A1)|none=>none)
   |true=>(match A with
    | .n k::A=>(match a19 ops k with
     |true=>(match za P nt ops st.H (ops.toList.take k) st.σ [] [] A with
      |some (σ1,acc,A1,p)=>(match Ab P nt ops (ops.toList.drop k) ⟨σ1,st.H++acc⟩ A1 with|some (R9,A2,q)=>Sc (p++q) (go P rf nt n .nor K R9 A2)|none=>none)
      |none=>none)
     |false=>none)
    | .n2 π ρ k m L X::A=>(match P0 ops π ρ,xd ops π ρ with
     |true,ops'=>(match QI ops'.toArray k m L with
      |true=>(match za P nt ops'.toArray st.H (ops'.take k) st.σ [] [] A with
       |some (σ1,acc,A1,p)=>(match a3C X ⟨σ1,st.H⟩ ops' L,Qq P nt X ((ops'.drop k).take (m-k)) ⟨σ1,st.H++acc⟩ A1 with
        |true,some (AH,A2,p2)=>(match Ab P nt ops'.toArray (ops'.drop m) AH A2 with|some (R9,A3,q)=>Sc (p++(p2++q)) (go P rf nt n .nor K R9 A3)|none=>none)
        |_,_=>none)
       |none=>none)
      |false=>none)
     |false,_=>none)
    |_=>none))
  |_=>none)
 |n+1,.nor,K,st,A=>(match K with
  | []=>(match rf st with|some d=>some (.ret d,[])|none=>none)
  | .sq y::K=>(match aCM A K.length with|some (k,o)=>(if o.Nodup then some (.at_ y K (st.Ey k o),[])else none)|none=>go P rf nt n (.run y) K st A)
  | .bl _::K=>go P rf nt n .nor K st A
  | .lp::K=>(match A with| .cn k o::_=>(if o.Nodup then some (.cont (depth K) (st.Ey k o),[])else none)|_=>none))
 |n+1,.ex id,K,st,A=>(match K with
  | []=>none
  | .sq _::K=>go P rf nt n (.ex id) K st A
  | .bl i::K=>(if id=i then go P rf nt n .nor K st A else go P rf nt n (.ex id) K st A)
  | .lp::K=>go P rf nt n (.ex id) K st A)
section
variable{P:Program}{Γ:vY}{Q:Exit->St->Prop}{N:Nat->St->Prop}
def KQ(P:Program)(Γ:vY)(N:Nat->St->Prop)(Q:Exit->St->Prop):List Fr->Exit->St->Prop
 | []=>Q
 | .sq y::K=>a3I (AW P Γ y (KQ P Γ N Q K)) (KQ P Γ N Q K)
 | .bl id::K=>Su id (KQ P Γ N Q K)
 | .lp::K=>a3I (fun st=>∃k o,o.Nodup/\N (depth K) (st.Ey k o)) (KQ P Γ N Q K)
theorem a6h:∀(K:List Fr) {st:St},Q .ret st->KQ P Γ N Q K .ret st:=by
 intro K
 induction K with
 |nil=>intro st h;exact h
 |cons f K ih=>intro st h;cases f<;>exact ih h
theorem UD{N':Nat->St->Prop}:∀(K:List Fr),(∀d,d<depth K->N d=N' d)->KQ P Γ N Q K=KQ P Γ N' Q K:=by
 intro K
 induction K with
 |nil=>intro _;rfl
 |cons f K ih=>
  intro h;cases f with
  |sq y=>simp only[KQ];rw[ih h]
  |bl id=>simp only[KQ];rw[ih h]
  |lp=>simp only[KQ];rw[ih (fun d hd=>h d (by simp only[depth];omega)),h (depth K) (by simp only[depth];omega)]
theorem Em{nt:Nat}(hnt:Γ.nt=nt){all:Array Oper}{R9:St}{A2:eb}:∀ {ops:List Oper} {st:St} {A:eb} {p:E7},Ab P nt all ops st A=some (R9,A2,p)->zM p->Q .normal R9->AO P Γ all ops Q st:=by
 intro ops
 induction ops with
 |nil=>
  intro st A p h _ hq;simp only[Ab]at h;cases hsh:shares A st with
  |mk AH A1=>
   rw[hsh]at h;simp only[ax,cU]at h;obtain⟨rfl,_,_⟩:=h;exact fun κ Θ a w hs=>wpList_nil ⟨_,_,_,hs.shares hsh,hq⟩
 |cons o rest ih=>
  intro st A p h hp hq;simp only[Ab]at h;split at h
  ·rename_i hg;split at h
   ·rename_i AH A1 p1 h1;split at h
    ·rename_i a5L A2' q h2;cases h;exact Sk hnt hg h1 hp.app.1 (ih h2 hp.app.2 hq)
    ·cases h
   ·cases h
  ·rename_i j want hg;split at h
   ·rename_i s v A1 hj;split at h
    ·rename_i b hb;split at h
     ·rename_i hv;simp only[cj]at hv;subst hv;split at h
      ·rename_i AH A2' p1 h1;split at h
       ·rename_i a5L A3 q h2;cases h;refine Pw (b:=b) hg hj hb ?_ (fun _=>Sk hnt rfl h1 hp.2.app.1 (ih h2 hp.2.app.2 hq)) (fun hne=>absurd hp.1 hne);intro t ht;exact a3B hnt h1 ht
       ·cases h
      ·cases h
     ·rename_i hv;split at h
      ·rename_i t hd;split at h
       ·rename_i ht;split at h
        ·rename_i a5L A3 q h2;cases h;refine Pw (b:=b) hg hj hb (fun t' ht'=>?_) (fun e=>?_) (fun _=>?_)
         ·rw[hd]at ht';cases ht';rw[hnt];exact ht
         ·exfalso;have:=hp.1;simp only[dF,ne_eq]at hv;exact hv (this.symm.trans e)
         ·rw[hd];exact ih h2 hp.2 hq
        ·cases h
       ·cases h
      ·rename_i hd;split at h
       ·rename_i a5L A3 q h2;cases h;refine Pw (b:=b) hg hj hb (fun t' ht'=>?_) (fun e=>?_) (fun _=>?_)
        ·rw[hd]at ht';cases ht'
        ·exfalso;have:=hp.1;simp only[dF,ne_eq]at hv;exact hv (this.symm.trans e)
        ·rw[hd];exact ih h2 hp.2 hq
       ·cases h
    ·rename_i hb;split at h
     ·rename_i t hd;split at h
      ·rename_i ht;refine Rk hg hj hb (fun t' ht'=>?_) ?_
       ·rw[hd]at ht';cases ht';rw[hnt];exact ht
       ·rw[hd];exact ih h hp hq
      ·cases h
     ·rename_i hd;refine Rk hg hj hb (fun t' ht'=>?_) ?_
      ·rw[hd]at ht';cases ht'
      ·rw[hd];exact ih h hp hq
    ·cases h
   ·cases h
theorem Om{H:bW}{r:Nat}{σ:List (Nat×D)}{o:Oper}{A A1:eb}{d:D}{obs:bW}{p:E7}(t:Option Nat)(u:Option (Nat×Ob))(h:Xz P H r σ o A=some (d,obs,A1,p))(hp:zM p):MD P H σ o ⟨t,d,r,obs,u⟩:=by
 have plain:∀ {x},(match Jx P ⟨σ,H⟩ x A with|some (d,A,ow)=>some (d,([]:bW),A,ow)|none=>none)=some (d,obs,A1,p)->pv P ⟨σ,H⟩ x=some d/\obs=[]:=by
  intro x h;split at h
  ·rename_i d' A' ow h1;cases h;exact⟨Yo h1 hp,rfl⟩
  ·cases h
 unfold Xz at h;split at h
 ·rename_i c hop;split at h
  ·rename_i f hc;split at h
   ·rename_i ds ms d' A' h1;split at h
    ·rename_i hsh;cases h;exact .inl (.inr ⟨f,_,_,ds,ms,d',hop.trans (congrArg Op.call (sJ c hc rfl rfl)),.inl (by simpa using h1),hsh,hp.1,.inl rfl⟩)
    ·cases h
   ·rename_i ds ms d' A' h1;split at h
    ·rename_i hc2;cases h;exact .inl (.inr ⟨f,_,_,ds,ms,d',hop.trans (congrArg Op.call (sJ c hc rfl rfl)),.inl (by simpa using h1),.inr hc2.2,hp.1,.inr ⟨hc2.1,rfl,rfl⟩⟩)
    ·cases h
   ·rename_i d' A';split at h
    ·rename_i hk;cases h;exact .inl (.inr ⟨f,_,_,_,[],d',hop.trans (congrArg Op.call (sJ c hc rfl rfl)),.inr ⟨by simpa using hk,by simp,rfl⟩,.inl rfl,hp.1,.inl rfl⟩)
    ·cases h
   ·cases h
  ·exact .inl (.inl (plain h))
 ·rename_i T hop;split at h
  ·rename_i zs hz;cases h;exact .inr (.inl (.inl ⟨T,zs,hop,hz,rfl,rfl⟩))
  ·cases h
 ·rename_i T x hop;split at h
  ·rename_i ds hc;cases h;exact .inr (.inl (.inr ⟨T,x,ds,hop,hc,rfl,rfl⟩))
  ·cases h
 ·rename_i T len parts hop;split at h
  ·rename_i e sz h1;split at h
   ·rename_i zs h2;split at h
    ·rename_i ds h3;split at h
     ·split at h
      ·rename_i hc;obtain⟨c1,c2,c3,c4⟩:=hc;cases h;exact .inr (.inr (.inr ⟨T,e,sz,len,parts,zs,ds,hop,h1,h2,c1,c2,h3,c3,c4,rfl,rfl⟩))
      ·cases h
     ·split at h
      ·rename_i es ms h4;split at h
       ·rename_i hc;obtain⟨c1,c2,rfl⟩:=hc;cases h;exact .inr (.inr (.inl ⟨T,e,sz,len,parts,zs,ds,es,hop,h1,h2,c1,c2,h3,h4,rfl,rfl⟩))
       ·cases h
      ·cases h
    ·cases h
   ·cases h
  ·cases h
 ·exact .inl (.inl (plain h))
theorem K6{nt:Nat}(hnt:Γ.nt=nt){all:Array Oper}{H:bW}{K:List (Nat×D)->bW->Prop}{σ2:List (Nat×D)}{UL:bW}{A2:eb}:∀ {ops:List Oper} {σ:List (Nat×D)} {acc:bW} {U:aa} {A:eb} {p:E7},
 za P nt all H ops σ acc U A=some (σ2,UL,A2,p)->zM p->K σ2 UL->Ol P Γ all H K ops σ acc U:=by
 subst hnt;intro ops
 induction ops with
 |nil=>
  intro σ acc U A p h _ hK;simp only[za,ax,cU]at h;obtain⟨rfl,rfl,_,_⟩:=h;exact hK
 |cons o rest ih=>
  intro σ acc U A p h hp hK;simp only[za]at h;split at h
  ·rename_i hd;split at h
   ·rename_i T x y hop hg;split at h
    ·rename_i id off ds h1 h2;split at h
     ·rename_i zs h3;split at h
      ·rename_i hc;obtain⟨rfl,c2,c3,c4,c5,c6⟩:=hc;exact⟨⟨none,.any,H.length+acc.length,[],some (id,.box ds)⟩,rfl,.inr ⟨rfl,rfl,hd,hg,T,x,y,id,ds,hop,h1,c2,h2,c4,c5,rfl⟩,⟨c3,c2,zs,ds,h3,rfl,c6⟩,ih h hp hK⟩
      ·cases h
     ·cases h
    ·cases h
   ·cases h
  ·rename_i t hd;split at h
   ·rename_i ht;split at h
    ·rename_i hg;split at h
     ·rename_i d obs A1 p1 h1;split at h
      ·rename_i σ3 a8v A3 q h2;cases h;exact⟨⟨some t,d,H.length+acc.length,obs,none⟩,rfl,.inl ⟨t,rfl,rfl,hd,ht,.inl ⟨hg,Om _ _ h1 hp.app.1⟩⟩,trivial,ih h2 hp.app.2 hK⟩
      ·cases h
     ·cases h
    ·rename_i j want hg;split at h
     ·rename_i s v A1 hj;split at h
      ·rename_i b hb;split at h
       ·rename_i hv;simp only[cj]at hv;subst hv;split at h
        ·rename_i d obs A2' p1 h1;split at h
         ·rename_i σ3 a8v A3 q h2;cases h;exact⟨⟨some t,d,H.length+acc.length,obs,none⟩,rfl,.inl ⟨t,rfl,rfl,hd,ht,.inr (.inl ⟨j,s,v,b,hg,hj,hb,.inl ⟨hp.1,Om _ _ h1 hp.2.app.1⟩⟩)⟩,trivial,ih h2 hp.2.app.2 hK⟩
         ·cases h
        ·cases h
       ·rename_i hv;simp only[dF,ne_eq]at hv;split at h
        ·rename_i σ3 a8v A3 q h2;cases h;refine⟨⟨some t,.iF [],H.length+acc.length,[],none⟩,rfl,.inl ⟨t,rfl,rfl,hd,ht,.inr (.inl ⟨j,s,want,b,hg,hj,hb,.inr ⟨fun e=>hv (hp.1.symm.trans e),rfl,rfl⟩⟩)⟩,trivial,?_⟩;simp only[Cp.fill,cN];exact ih h2 hp.2 hK
        ·cases h
      ·rename_i hb;refine⟨⟨some t,.iF [],H.length+acc.length,[],none⟩,rfl,.inl ⟨t,rfl,rfl,hd,ht,.inr (.inr ⟨j,s,want,hg,hj,hb,rfl,rfl⟩)⟩,trivial,?_⟩;simp only[Cp.fill,cN];exact ih h hp hK
      ·cases h
     ·cases h
   ·cases h
def Vy(P:Program)(Γ:vY)(N:Nat->St->Prop)(Q:Exit->St->Prop)(d0:D):Stop->Prop
 | .ret d=>d=d0
 | .lp c K st=>AW P Γ (.loop c) (KQ P Γ N Q K) st
 | .cont k st=>N k st
 | .at_ c K st=>AW P Γ c (KQ P Γ N Q K) st
theorem UB{c:Code}{st:St}{k o:aa}(hnd:o.Nodup)(h:AW P Γ c Q (st.Ey k o)):AW P Γ c Q st:=by
 intro κ Θ a w hs;obtain⟨κ',Θ',hs'⟩:=hs.Ey k o hnd;exact h κ' Θ' a w hs'
theorem a83{fn:Func}{st:St}{d:D}{e:Exit}(he:e=.ret\/e=.normal){nz:List (List (Option (Nat×Nat)))}(h:a82 P (fn.results.toList,nz) st=some d):Vx P fn d e st:=by
 unfold a82 at h;split at h
 ·rename_i ds h1;split at h
  ·rename_i es ms qs h2;split at h
   ·rename_i hc;cases h;exact⟨he,nz,ds,es,ms,qs,h1,h2,hc.1,hc.2,rfl⟩
   ·cases h
  ·cases h
 ·cases h
def a8t(P:Program)(Γ:vY)(N:Nat->St->Prop)(Q:Exit->St->Prop)(K:List Fr)(st:St):Cfg->Prop
 | .run c=>AW P Γ c (KQ P Γ N Q K) st
 | .nor=>KQ P Γ N Q K .normal st
 | .ex id=>KQ P Γ N Q K (.exit id) st
theorem Eu{p q:E7}{x:Option (Stop×E7)}{s:Stop}(h:Sc p x=some (s,q)):∃q',x=some (s,q')/\q=p++q':=by
 unfold Sc at h;split at h
 ·cases h;exact⟨_,rfl,rfl⟩
 ·cases h
theorem go_sound{rf:St->Option D}{d0:D}(hrf:∀st e,(e=.ret\/e=.normal)->rf st=some d0->Q e st){nt:Nat}(hnt:Γ.nt=nt)(hm:P.follows .mixedOrders=true):∀ {n:Nat} {cfg:Cfg} {K:List Fr} {st:St} {A:eb} {s:Stop} {p:E7},go P rf nt n cfg K st A=some (s,p)->zM p->Vy P Γ N Q d0 s->a8t P Γ N Q K st cfg:=by
 intro n
 induction n with
 |zero=>intro cfg K st A s p h;simp[go]at h
 |succ n ih=>
  intro cfg K st A s p h hp hs;cases cfg with
  |run c=>
   show AW P Γ c (KQ P Γ N Q K) st;cases c with
   |skip=>simp only[go]at h;exact a41 (ih h hp hs)
   |ret=>
    simp only[go]at h;split at h
    ·rename_i d hd;simp only[ax,cU]at h;obtain⟨rfl,_⟩:=h;have hd0:d=d0:=hs;subst hd0;exact a6f (a6h K (hrf st _ (.inl rfl) hd))
    ·cases h
   |exit id=>simp only[go]at h;exact a3z (ih h hp hs)
   |seq x y=>simp only[go]at h;exact a6g (ih h hp hs)
   |block id x=>simp only[go]at h;exact a0o (ih h hp hs)
   |loop x=>
    simp only[go]at h;split at h
    ·split at h
     ·rename_i hnd;simp only[ax,cU]at h;obtain⟨rfl,_⟩:=h;exact UB hnd hs
     ·cases h
    ·split at h
     ·rename_i A0 x0 AH hst;intro κ Θ a w aCg;obtain⟨κ',hs'⟩:=aCg.prom hst;exact(ih h hp hs:AW P Γ (.loop x) (KQ P Γ N Q K) (shares A0 AH).1) κ' Θ a w (hs'.shares (rfl:shares A0 AH=((shares A0 AH).1,(shares A0 AH).2)))
     ·cases h
    ·cases h
   |cond x y z=>
    simp only[go]at h;split at h
    ·rename_i b v A1 hx;obtain⟨q,h1,rfl⟩:=Eu h;obtain⟨hb,hp'⟩:=hp;subst hb;refine a3x hx (fun e=>?_) (fun e=>?_)
     ·subst e;exact ih h1 hp' hs
     ·subst e;exact ih h1 hp' hs
    ·cases h
   |region id ops dr=>
    simp only[go]at h;cases dr with
    |false=>
     simp only at h;split at h
     ·rename_i AH A1 p1 h1;obtain⟨q,h2,rfl⟩:=Eu h;have:=Em (Q:=KQ P Γ N Q K) hnt h1 hp.app.1 (ih h2 hp.app.2 hs);have hr:=Yw (id:=id) (l:=ops.toList) (by simpa using this);simpa using hr
     ·cases h
    |true=>
     simp only at h;split at h
     ·rename_i k A1;split at h
      ·rename_i hB;split at h
       ·rename_i σ1 acc A2 p1 h1;split at h
        ·rename_i R9 A3 p2 h2;obtain⟨q,h3,rfl⟩:=Eu h;have hq:=hp.app.1.app;have h4:=Em (Q:=KQ P Γ N Q K) hnt h2 hq.2 (ih h3 hp.app.2 hs);have h5:=K6 (Γ:=Γ) (K:=fun σ acc=>AO P Γ ops (ops.toList.drop k) (KQ P Γ N Q K) ⟨σ,st.H++acc⟩) hnt h1 hq.1 h4;have hr:=a3y (id:=id) (l:=ops.toList) (Q:=KQ P Γ N Q K) (st:=st) k hm (by simpa using hB) (by simpa using h5);simpa using hr
        ·cases h
       ·cases h
      ·cases h
     ·rename_i π ρ k m L X A1;split at h
      ·rename_i ops' hB1;generalize aCW:xd ops π ρ=ops' at h;split at h
       ·rename_i hB;split at h
        ·rename_i σ1 acc A2 p1 h1;split at h
         ·rename_i AH A3 p2 hst hmid;split at h
          ·rename_i R9 A4 p3 h2;obtain⟨q,h3,rfl⟩:=Eu h;have hq:=hp.app.1.app;have M9:=hq.2.app;have h4:=Em (Q:=KQ P Γ N Q K) hnt h2 M9.2 (ih h3 hp.app.2 hs);have h6:=TR (Γ:=Γ) (K:=fun xZ=>AO P Γ ops'.toArray (ops'.drop m) (KQ P Γ N Q K) xZ) hnt hmid M9.1 h4;have h5:=K6 (Γ:=Γ) (K:=fun σ acc=>(∀i∈L,∀o,ops'[i]?=some o->Ep X ⟨σ,st.H⟩ o.op=true)/\a0b P Γ X (fun xZ=>AO P Γ ops'.toArray (ops'.drop m) (KQ P Γ N Q K) xZ) ((ops'.drop k).take (m-k)) ⟨σ,st.H++acc⟩) hnt h1 hq.1 ⟨a02 hst,h6⟩;have hr:=Z5 (l:=ops') (Q:=KQ P Γ N Q K) (st:=st) k m L hB h5;rw[<-aCW]at hr;exact(hr.perm hB1).aw hm
          ·cases h
         ·cases h
        ·cases h
       ·cases h
      ·cases h
     ·cases h
   |_=>simp[go]at h
  |nor=>
   show KQ P Γ N Q K .normal st;simp only[go]at h;split at h
   ·split at h
    ·rename_i d hd;simp only[ax,cU]at h;obtain⟨rfl,_⟩:=h;have hd0:d=d0:=hs;subst hd0;exact hrf st _ (.inr rfl) hd
    ·cases h
   ·split at h
    ·split at h
     ·rename_i hnd;simp only[ax,cU]at h;obtain⟨rfl,_⟩:=h;exact UB hnd hs
     ·cases h
    ·exact ih (cfg:=.run _) h hp hs
   ·exact ih (cfg:=.nor) h hp hs
   ·split at h
    ·split at h
     ·rename_i k o _ hnd;simp only[ax,cU]at h;obtain⟨rfl,_⟩:=h;exact⟨k,o,hnd,hs⟩
     ·cases h
    ·cases h
  |ex id=>
   show KQ P Γ N Q K (.exit id) st;simp only[go]at h;split at h
   ·cases h
   ·exact ih (cfg:=.ex id) h hp hs
   ·rename_i i K;simp only[KQ,Su];split at h
    ·rename_i e;rw[bQ e];exact ih (cfg:=.nor) h hp hs
    ·rename_i e;rw[bG e];exact ih (cfg:=.ex id) h hp hs
   ·exact ih (cfg:=.ex id) h hp hs
def dig:Code->aa->List Fr->Code×List Fr
 |c,[],K=>(c,K)
 | .seq x y,i::p,K=>(match i with|0=>dig x p (.sq y::K)|_=>dig y p K)
 | .block id c,_::p,K=>dig c p (.bl id::K)
 | .cond _ x y,i::p,K=>(match i with|0=>dig x p K|_=>dig y p K)
 | .loop c,_::p,K=>dig c p (.lp::K)
 |c,_::_,K=>(c,K)
def a5v:Ob->Option D
 | .fD sz rows (some v)=>some (.agg [.fr 0 sz rows,.val v])
 |_=>none
def OY:Nat->bW->Option aS
 |0,_=>some []
 |n+1,o::H=>(match a5v o,OY n H with|some d,some ds=>some (d::ds)|_,_=>none)
 |_+1,[]=>none
def a2a(P:Program)(rs:List ResultVar)(n:Nat)(st:St):Option D:=match F1 P st rs with
 |some ds=>(if ds.all D.flat=true then match OY n st.H with|some es=>some (.iF (C5 ds::es))|none=>none else none)
 |none=>none
def X9:List Rw->br->aS
 |x::xs,v::vs=>.agg [.fr 0 x.1 x.2,.val v]::X9 xs vs
 |_,_=>[]
theorem Wu:∀ {n:Nat} {H:bW} {outs:List Rw} {vs:br},OY n H=some (X9 outs vs)->∀(i:Nat) x v,outs[i]?=some x->vs[i]?=some v->H[i]?=some (x.ob (some v)):=by
 intro n
 induction n with
 |zero=>
  intro H outs vs h i x v hx hv;cases outs with
  |nil=>simp at hx
  |cons y ys=>
   cases vs with
   |nil=>simp at hv
   |cons u us=>simp[OY,X9]at h
 |succ n ih=>
  intro H outs vs h i x v hx hv;cases outs with
  |nil=>simp at hx
  |cons y ys=>
   cases vs with
   |nil=>simp at hv
   |cons u us=>
    cases H with
    |nil=>simp[OY]at h
    |cons o H=>
     simp only[OY,X9]at h;split at h
     ·rename_i d ds h1 h2;simp only[ax,AP]at h;obtain⟨rfl,rfl⟩:=h;cases i with
      |zero=>
       simp at hx hv;subst hx;subst hv;unfold a5v at h1;split at h1
       ·simp only[ax,D.agg.injEq,AP,D.fr.injEq,D.val.injEq,vh,and_true]at h1;obtain⟨⟨h3,h4⟩,h5⟩:=h1;simp[Rw.ob,h3,h4,h5]
       ·cases h1
      |succ i=>simpa using ih h2 i x v (by simpa using hx) (by simpa using hv)
     ·cases h
theorem a56{fn:Func}{st:St}{d:D}{outs:List Rw}{vs:br}{n:Nat}{e:Exit}(he:e=.ret\/e=.normal)(h:a2a P fn.results.toList n st=some (.iF (d::X9 outs vs))):vH P fn vs outs d e st:=by
 unfold a2a at h;split at h
 ·rename_i ds h1;split at h
  ·rename_i hf;split at h
   ·rename_i es h2;simp only[ax,D.iF.injEq,AP]at h;obtain⟨rfl,rfl⟩:=h;exact⟨he,ds,h1,hf,rfl,Wu h2⟩
   ·cases h
  ·cases h
 ·cases h
theorem fT{fn:Func}{d:D}{outs:List Rw}{vs:br}{nt n:Nat}(m:Nat){c:Code}{K:List Fr}{st:St}(A:eb)(s:Stop){p:E7}(hnt:Γ.nt=nt)(hm:P.follows .mixedOrders=true)(h:go P (a2a P fn.results.toList m) nt n (.run c) K st A=some (s,p))(hp:zM p)
 (hs:Vy P Γ N (vH P fn vs outs d) (.iF (d::X9 outs vs)) s):AW P Γ c (KQ P Γ N (vH P fn vs outs d) K) st:=go_sound (Q:=vH P fn vs outs d) (N:=N) (K:=K) (st:=st) (d0:=.iF (d::X9 outs vs)) (cfg:=.run c) (fun _ _ he h=>a56 he h) hnt hm h hp hs
def a6J(P:Program)(rs:List ResultVar×List (List (Option (Nat×Nat))))(st:St):Option D:=match F1 P st rs.1,(st.H[0]?:Option Ob)with
 |some ds,some (Ob.PW cells v)=>(match Du st.H rs.2 (.agg cells::ds)with
  |some (.agg cells'::es,ms,qs)=>(if ms.Nodup/\qs.Nodup then some (.iF [C5 es,.agg cells',.val v])else none)
  |_=>none)
 |_,_=>none
def a6I(P:Program)(rs:List ResultVar)(st:St):Option D:=match F1 P st rs with
 |some [.ptr j 0]=>(match st.H[j]? with|some (.box cells)=>(if cells.all D.U9=true then some (.agg cells)else none)|_=>none)
 |_=>none
inductive Kd where
 |q (nz:List (List (Option (Nat×Nat)))) (d:D)
 |p (nz:List (List (Option (Nat×Nat)))) (v:Value) (cells:aS) (d:D)
 |n (cells:aS)
def Kd.rf(P:Program)(fn:Func)(k:Kd)(st:St):Option D:=match k with
 | .q nz _=>a82 P (fn.results.toList,nz) st
 | .p nz _ _ _=>a6J P (fn.results.toList,nz) st
 | .n _=>a6I P fn.results.toList st
def Kd.d0:Kd->D
 | .q _ d=>d
 | .p _ v cells d=>.iF [d,.agg cells,.val v]
 | .n cells=>.agg cells
def Kd.qq(P:Program)(fn:Func):Kd->Exit->St->Prop
 | .q _ d=>Vx P fn d
 | .p _ v cells d=>a0s P fn v cells d
 | .n cells=>aBb P fn cells
theorem Kd.ok{fn:Func}(k:Kd){st:St}{e:Exit}(he:e=.ret\/e=.normal)(h:k.rf P fn st=some k.d0):k.qq P fn e st:=by
 cases k with
 |q nz d=>exact a83 he h
 |p nz v cells d=>
  simp only[Kd.rf,a6J,Kd.d0]at h;split at h
  ·rename_i ds Sv v' h1 h2;split at h
   ·rename_i cells' es ms qs h3;split at h
    ·rename_i hc;simp only[ax,D.iF.injEq,AP,D.agg.injEq,D.val.injEq,and_true]at h;obtain⟨rfl,rfl,rfl⟩:=h;exact⟨he,_,_,_,_,_,_,h1,h2,h3,hc.1,hc.2,rfl⟩
    ·cases h
   ·cases h
  ·cases h
 |n cells=>
  simp only[Kd.rf,a6I,Kd.d0]at h;split at h
  ·rename_i j h1;split at h
   ·rename_i cells' h2;split at h
    ·rename_i hc;simp only[ax,D.agg.injEq]at h;subst h;exact⟨he,j,h1,h2,hc⟩
    ·cases h
   ·cases h
  ·cases h
theorem Py{fn:Func}{k:Kd}{nt n:Nat}{c:Code}{K:List Fr}{st:St}(A:eb)(s:Stop){p:E7}(hnt:Γ.nt=nt)(hm:P.follows .mixedOrders=true)(h:go P (k.rf P fn) nt n (.run c) K st A=some (s,p))(hp:zM p)
 (hs:Vy P Γ N (k.qq P fn) k.d0 s):AW P Γ c (KQ P Γ N (k.qq P fn) K) st:=go_sound (Q:=k.qq P fn) (N:=N) (K:=K) (st:=st) (d0:=k.d0) (cfg:=.run c) (fun _ _ he h=>k.ok he h) hnt hm h hp hs
def Pe(P:Program)(Γ:vY)(c:Code)(Q:Exit->St->Prop)(n:Nat)(st:St):Prop:=
 ∀κ Θ a w,eM Γ st κ Θ a w->Code.rounds P c (fun e a' w'=>∃xZ κ' Θ',eM Γ xZ κ' Θ' a' w'/\Q e xZ) n a w
theorem yU{c:Code}{n:Nat}{st:St}(h:Pe P Γ c Q n st):AW P Γ (.loop c) Q st:=fun κ Θ a w hs=>wp_loop_rounds n (h κ Θ a w hs)
theorem aM{c:Code}{K:List Fr}{n:Nat}{st:St}
 (h:∀N',(∀d,d<depth K->N' d=N d)->N' (depth K)=Pe P Γ c (KQ P Γ N Q K) n->AW P Γ c (KQ P Γ N' Q (.lp::K)) st):Pe P Γ c (KQ P Γ N Q K) (n+1) st:=by
 intro κ Θ a w hs;have:=h (fun d=>if d<depth K then N d else Pe P Γ c (KQ P Γ N Q K) n) (fun d hd=>bQ hd) (bG (by omega));simp only[KQ]at this;rw[bG (by omega)]at this;rw[<-UD (N:=N) (N':=fun d=>if d<depth K then N d else Pe P Γ c (KQ P Γ N Q K) n) K (fun d hd=>(bQ hd).symm)]at this;rw[rounds_succ];refine wp_mono (this κ Θ a w hs) ?_;rintro e a' w' ⟨xZ,κ',Θ',hs',hq⟩;cases e with
 |normal=>
  obtain⟨k,o,hnd,hR'⟩:=hq;obtain⟨κ2,Θ2,hs2⟩:=hs'.Ey k o hnd;exact hR' κ2 Θ2 a' w' hs2
 |exit id=>exact⟨_,_,_,hs',hq⟩
 |goto l=>exact⟨_,_,_,hs',hq⟩
 |ret=>exact⟨_,_,_,hs',hq⟩
 |panic c=>exact⟨_,_,_,hs',hq⟩
 |outgrown=>exact⟨_,_,_,hs',hq⟩
end
theorem aK{α:Type}{c:Bool}{x y:Option α}{r:α}(h:(bif c then x else y)=some r):(c=true/\x=some r)\/(c=false/\y=some r):=by
 cases c
 ·exact .inr ⟨rfl,h⟩
 ·exact .inl ⟨rfl,h⟩
theorem bV{α:Type}{c:Bool}{x:Option α}{r:α}(h:(bif c then x else none)=some r):c=true/\x=some r:=by
 cases c
 ·cases h
 ·exact⟨rfl,h⟩
theorem aD{α β:Type}{x:Option α}{f:α->Option β}{r:β}(h:x.bind f=some r):∃y,x=some y/\f y=some r:=by
 cases x with
 |none=>cases h
 |some y=>exact⟨y,rfl,h⟩
theorem aG{α:Type}{x y:α}(h:some x=some y):x=y:=by cases h;rfl
theorem D9:zM []:=trivial
theorem ow{p:Prop}{ps:E7}(h:p)(t:zM ps):zM (p::ps):=⟨h,t⟩
def mC{α:Type}(l:List α)(i:Int):Option α:=bif decide (0<=i)then l[i.toNat]? else none
theorem Xw{α β:Type}{l:List α}{i:Int}{x:α}(f:α->β)(h:mC l i=some x):0<=i/\(l.map f)[i.toNat]?=some (f x):=by
 unfold mC at h;cases hd:decide (0<=i)with
 |false=>rw[hd]at h;cases h
 |true=>rw[hd]at h;simp only[aW]at h;exact⟨by simpa using hd,by rw[c8,h];rfl⟩
theorem a6m{l:Bytes}{i:Int}{x:UInt8}(h:mC l i=some x):0<=i/\l[i.toNat]?=some x:=by
 unfold mC at h;cases hd:decide (0<=i)with
 |false=>rw[hd]at h;cases h
 |true=>rw[hd]at h;exact⟨by simpa using hd,h⟩
def fuel:Nat:=4194304
theorem dX{α:Type}{l:List α}{i:Int}{x:α}(f:α->aS)(n:Nat)(h:mC l i=some x)(hn:(f x).length=n):0<=i/\(l.map f)[i.toNat]?=some (f x)/\(f x).length=n:=⟨(Xw f h).1,(Xw f h).2,hn⟩
theorem zR{i n:Nat}(sz:Nat)(h:decide (i<n)=true):sz=sz/\(i:Int)=((i:Nat):Int)/\i<n:=⟨rfl,rfl,bt h⟩
theorem pG{α:Type}{l:List α}{i:Nat}{x:α}(f:α->aS)(sz:Nat)(h:l[i]?=some x):sz=sz/\(i:Int)=((i:Nat):Int)/\i<(l.map f).length:=⟨rfl,rfl,by rw[aZ];exact(aH.1 h).1⟩
theorem xz{α:Type}{l:List α}{i:Int}{x:α}(f:α->aS)(sz:Nat)(h:mC l i=some x):sz=sz/\i=((i.toNat:Nat):Int)/\i.toNat<(l.map f).length:=by
 obtain⟨h0,h1⟩:=Xw f h;exact⟨rfl,by omega,(aH.1 h1).1⟩
theorem tf{α:Type}{l:List α}{i:Int}{x:α}(h:mC l i=some x):l[i.toNat]?=some x:=by
 have:=(Xw (fun y=>y) h).2;simpa using this
theorem Te{x y:Int}(k:IntKind)(h:(decide (0<=x)&&decide (0<y))=true):k=k/\0<=x/\0<y:=by simpa using h
def room(n b:Nat):Bool:=decide (n<=maxLen)&&decide (n*b<=140737488355328)
theorem cA{n b:Nat}(h:room n b=true):n<=maxLen/\n*b<=140737488355328:=by
 simp only[room,aY,bI]at h;exact h
def Cd(n:Int)(b:Nat):Bool:=decide (0<=n)&&decide (b*n.toNat<=281474976710656)&&decide (n.toNat<=4611686018427387904)
theorem xX{n:Int}{b:Nat}(h:Cd n b=true):n=n/\0<=n/\b*n.toNat<=281474976710656/\n.toNat<=4611686018427387904:=by
 simp only[Cd,aY,bI]at h;exact⟨rfl,h.1.1,h.1.2,h.2⟩
theorem a1g{k n:Nat}(h:k<n)(hn:n<=maxLen):IntKind.i64.wrap ((k:Int)+1)=((k+1:Nat):Int):=by
 unfold maxLen at hn;rw[gf (tU.i64.2 (by omega))];omega
theorem a4s{k n:Nat}(h:k<n):decide ((k:Int)<(n:Int))=true:=by simp[h]
theorem a2D{k n:Nat}(h:n<=k):decide ((k:Int)<(n:Int))=false:=by simp;omega
theorem drop_cons{α:Type}{l:List α}{k:Nat}{x:α}{xs:List α}(h:l.drop k=x::xs):l[k]?=some x/\k<l.length/\l.drop (k+1)=xs:=by
 have h1:l[k]?=some x:=by
  have:=congrArg (fun m:List α=>m[0]?) h;simpa[eA]using this
 refine⟨h1,(aH.1 h1).1,?_⟩;rw[<-gj,h];rfl
theorem drop_nil{α:Type}{l:List α}{k:Nat}(h:l.drop k=[]):l.length<=k:=by simpa using h
theorem a2F{α β:Type}{l:List α}{k:Nat}{x:α}(f:α->β)(h:l[k]?=some x):0<=(k:Int)/\(l.map f)[(k:Int).toNat]?=some (f x):=⟨by omega,by simp[h]⟩
theorem av{α:Type}{l:List α}{k:Nat}{x:α}(f:α->aS)(n:Nat)(h:l[k]?=some x)(hn:(f x).length=n):0<=(k:Int)/\(l.map f)[(k:Int).toNat]?=some (f x)/\(f x).length=n:=⟨(a2F f h).1,(a2F f h).2,hn⟩
theorem a2E{α β:Type}{l:List α}{k:Nat}(f:α->β)(h:k<l.length):decide ((k:Int)<((l.map f).length:Int))=true:=by rw[aZ];exact a4s h
theorem ZZ{α β:Type}{l:List α}{k:Nat}(f:α->β)(h:l.length<=k):decide ((k:Int)<((l.map f).length:Int))=false:=by rw[aZ];exact a2D h
theorem dB{α β:Type}{l:List α}{k:Nat}{x:α}(f:α->β)(h:l[k]?=some x):(l.map f)[k]?=some (f x):=by rw[c8,h];rfl
theorem cz{α β:Type}{f:α->β}(dn:List α)(y z:β)(r:List β):(dn.map f++y::r).set dn.length z=dn.map f++z::r:=by
 rw[me _ _ (by simp)];simp
theorem dW{α β:Type}{f:α->β}(dn:List α)(y:β)(r:List β):(dn.map f++y::r)[dn.length]?=some y:=by
 rw[bE (by simp)];simp
theorem Cz{α β:Type}{f:α->β}(dn:List α)(y:β)(r:List β):decide ((dn.length:Int)<((dn.map f++y::r).length:Int))=true:=by
 rw[bI,aX,aZ,aL];omega
theorem Cv{α β:Type}{f:α->β}(dn:List α):decide ((dn.length:Int)<((dn.map f++([]:List α).map f).length:Int))=false:=by
 rw[o9];simp
theorem zb{n:Nat}(h:n+1<=maxLen):IntKind.i64.wrap ((n:Int)+1)=((n+1:Nat):Int):=by
 unfold maxLen at h;rw[gf (tU.i64.2 (by omega))];omega
def NX{α β:Type}[BEq α](z:β)(k:α):List (α×β)->β
 | []=>z
 |p::r=>bif k==p.1 then p.2 else NX z k r
def a4t{α β:Type}[BEq α](k:α):List (α×β)->Bool
 | []=>false
 |p::r=>bif k==p.1 then true else a4t k r
def Ql{α β:Type}[BEq α](k:α)(v:β):List (α×β)->List (α×β)
 | []=>[(k,v)]
 |p::r=>bif k==p.1 then(k,v)::r else p::Ql k v r
def eB(b:Bool):D:=.bool b
def kS{β:Type}(e:β->D)(p:Bytes×β):D×D:=(.str p.1,e p.2)
theorem Y9{β:Type}{e:β->D}(z:β)(k:Bytes):∀(m:List (Bytes×β)),(Hs (.str k) (m.map (kS e))=some none/\a4t k m=false/\NX z k m=z)\/(Hs (.str k) (m.map (kS e))=some (some (e (NX z k m)))/\a4t k m=true)
 | []=>.inl ⟨rfl,rfl,rfl⟩
 |p::r=>by
  simp only[bH,Hs,kS,keq,a4t,NX];cases hb:k==p.1 with
  |true=>exact .inr ⟨rfl,rfl⟩
  |false=>exact Y9 z k r
theorem aAA{P:Program}{T:TypeId}{β:Type}{e:β->D}{z:β}{k:Bytes}{m:List (Bytes×β)}(hT:a08 P T=some (.string,e z)):plk P T (m.map (kS e)) (.str k) false=some (e (NX z k m)):=by
 unfold plk;rw[hT];rcases Y9 (e:=e) z k m with⟨h1,_,h3⟩|⟨h1,_⟩
 ·simp only[Ls,h1,h3,af]
 ·simp only[Ls,h1,af]
theorem a2U{β:Type}{e:β->D}{k:Bytes}{v:β}:∀ {m:List (Bytes×β)},NU (.str k) (e v) (m.map (kS e))=some ((Ql k v m).map (kS e))
 | []=>rfl
 |p::r=>by
  simp only[bH,NU,Ql];have hq:keq (.str k) (kS e p).1=some (k==p.1):=rfl;rw[hq];cases hb:k==p.1 with
  |true=>rfl
  |false=>simp only[a2U (m:=r),cZ,af,bH]
end Go.Cx
namespace Go.Cx
open Go.RowKit Go.Proofs Tryz
abbrev xE:=List Fr
structure aE where
 rel:Bytes
 args:aJ
 deriving DecidableEq
structure aR where
 var:Bytes
 value:Bytes
 deriving DecidableEq
structure aN where
 kind:Int
 pat:aE
 left:Bytes
 right:Bytes
 deriving DecidableEq
structure Action where
 kind:Int
 pat:aE
 deriving DecidableEq
structure aO where
 name:Bytes
 prio:Int
 conds:List aN
 cu:List Action
 deriving DecidableEq
structure aI where
 facts:List aE
 bind:List aR
 deriving DecidableEq
structure cr where
 rule:Bytes
 facts:List aE
 bind:List aR
 deriving DecidableEq
structure aQ where
 shape:aE
 facts:List aE
 deriving DecidableEq
structure Node where
 parent:Int
 cond:aN
 cP:Int
 tokens:List aI
 deriving DecidableEq
structure aF where
 rules:List aO
 ends:bJ
 ay:List aQ
 nodes:List Node
 facts:List aE
 cL:Int
 deriving DecidableEq
structure cv where
 fact:aE
 time:Int
 deriving DecidableEq
structure aBa where
 rule:Bytes
 times:bJ
 deriving DecidableEq
structure aBZ where
 aFG:cr
 prio:Int
 times:bJ
 spec:Int
 order:Int
 deriving DecidableEq
structure Cur where
 b:bJ
 i:Int
 h:Int
 deriving DecidableEq
abbrev tx(s:Bytes):List D:=[.str s]
abbrev di(n:Int):List D:=[.int .i64 n]
abbrev bx(b:Bool):List D:=[.bool b]
abbrev dT(l:List Bytes):D:=.sl (l.map tx)
abbrev dI(l:List Int):D:=.sl (l.map di)
abbrev aE.c(x:aE):List D:=[.str x.rel,dT x.args]
abbrev aR.c(x:aR):List D:=[.str x.var,.str x.value]
abbrev aN.c(x:aN):List D:=[.int .i64 x.kind,.str x.pat.rel,dT x.pat.args,.str x.left,.str x.right]
abbrev Action.c(x:Action):List D:=[.int .i64 x.kind,.str x.pat.rel,dT x.pat.args]
abbrev aO.c(x:aO):List D:=[.str x.name,.int .i64 x.prio,.sl (x.conds.map aN.c),.sl (x.cu.map Action.c)]
abbrev aI.c(x:aI):List D:=[.sl (x.facts.map aE.c),.sl (x.bind.map aR.c)]
abbrev cr.c(x:cr):List D:=[.str x.rule,.sl (x.facts.map aE.c),.sl (x.bind.map aR.c)]
abbrev aQ.c(x:aQ):List D:=[.str x.shape.rel,dT x.shape.args,.sl (x.facts.map aE.c)]
abbrev Node.c(x:Node):List D:=[.int .i64 x.parent,.int .i64 x.cond.kind,.str x.cond.pat.rel,dT x.cond.pat.args,.str x.cond.left,.str x.cond.right,.int .i64 x.cP,.sl (x.tokens.map aI.c)]
abbrev aF.c(x:aF):List D:=[.sl (x.rules.map aO.c),dI x.ends,.sl (x.ay.map aQ.c),.sl (x.nodes.map Node.c),.sl (x.facts.map aE.c),.int .i64 x.cL]
abbrev cv.c(x:cv):List D:=[.str x.fact.rel,dT x.fact.args,.int .i64 x.time]
def jw(fn:Func):Code:=match fn.body with
 |some c=>c
 |none=>.skip
theorem C4:prog.follows .mixedOrders=true:=by kernel_rfl
theorem Px{P:Program}{Γ:vY}{Q:Exit->St->Prop}{N N':Nat->St->Prop}{c:Code}{K K0:xE}{st:St}(hd:depth K=depth K0)(hN:∀d,d<depth K0->N' d=N d)(t:AW P Γ c (KQ P Γ N Q K) st):AW P Γ c (KQ P Γ N' Q K) st:=by
 rw[UD (N:=N') (N':=N) K (fun d h=>hN d (by omega))];exact t
theorem xF{P:Program}{Γ:vY}{Q:Exit->St->Prop}{c:Code}{s s':St}(h:s=s')(t:AW P Γ c Q s'):AW P Γ c Q s:=by rw[h];exact t
theorem Dk{α:Type}{c:α->aS}(hc:∀x,(c x).all D.flat=true)(l:List α):(l.map c).flatten.all D.flat=true:=by
 induction l with
 |nil=>rfl
 |cons x l ih=>rw[bH,eT,List.all_append,hc,ih];rfl
abbrev bT:An:=.b true
abbrev bF:An:=.b false
structure Pre(A:List An)(p:E7):Prop where
 h:zM p
theorem aU:Pre [] []:=⟨trivial⟩
theorem zM.join{p q:E7}(h:zM p)(k:zM q):zM (p++q):=by
 induction p with
 |nil=>exact k
 |cons x p ih=>exact⟨h.1,ih h.2⟩
theorem Pre.ext{A:eb}{p:E7}(o:Pre A p)(B:eb){q:E7}(hq:zM q):Pre (A++B) (p++q):=⟨o.h.join hq⟩
section
variable{A:eb}{p:E7}
theorem Pre.b(o:Pre A p){c v:Bool}(h:c=v):Pre (A++[.b v]) (p++[c=v]):=o.ext _ ⟨h,trivial⟩
theorem Pre.r(o:Pre A p)(n:Nat){c v:Bool}(h:c=v):Pre (A++List.replicate n (.b v)) (p++List.replicate n (c=v)):=o.ext _ (by
 induction n with
 |zero=>trivial
 |succ n ih=>exact⟨h,ih⟩)
theorem Pre.T(o:Pre A p)(n:Nat):Pre (A++List.replicate n bT) (p++List.replicate n (true=true)):=o.r n rfl
theorem Pre.F(o:Pre A p)(n:Nat):Pre (A++List.replicate n bF) (p++List.replicate n (false=false)):=o.r n rfl
theorem Pre.g(o:Pre A p){f:FuncId}{ds:aS}{d:D}(h:Good prog f ds d):Pre (A++[.d d]) (p++[Good prog f ds d]):=o.ext _ ⟨h,trivial⟩
theorem Pre.gs(o:Pre A p){f:FuncId}{ds:aS}{d:D}(h:Good prog f ds d):Pre (A++[.ds d]) (p++[Good prog f ds d]):=o.ext _ ⟨h,trivial⟩
theorem Pre.hp(o:Pre A p)(nz:List (List (Option (Nat×Nat)))){f:FuncId}{cells cells' ds:aS}{d:D}(h:BW prog f cells cells' ds d):Pre (A++[.gp nz cells' d]) (p++[BW prog f cells cells' ds d]):=o.ext _ ⟨h,trivial⟩
theorem Pre.w(o:Pre A p){q:Prop}(h:q):Pre (A++[]) (p++[q]):=o.ext _ ⟨h,trivial⟩
theorem Pre.a(o:Pre A p)(B:eb):Pre (A++B) (p++[]):=o.ext _ (q:=[]) trivial
theorem Pre.l(o:Pre A p){n:Int}{rows:List aS}{r:aS}{sz:Nat}(h:0<=n/\rows[n.toNat]?=some r/\r.length=sz):Pre (A++[.row r]) (p++[0<=n/\rows[n.toNat]?=some r/\r.length=sz]):=o.ext _ ⟨h,trivial⟩
theorem Pre.i(o:Pre A p){sz sz' m k:Nat}{n:Int}(h:sz=sz'/\n=((k:Nat):Int)/\k<m):Pre (A++[.ix k]) (p++[sz=sz'/\n=((k:Nat):Int)/\k<m]):=o.ext _ ⟨h,trivial⟩
theorem Pre.o(o:Pre A p)(sz n:Nat)(k:RK){rows:List aS}{i:Nat}{r:aS}(h:rows[i]?=some r)(hk:k.TY=true:=by kernel_rfl)(hn:Nat.ble n sz=true:=by kernel_rfl):Pre (A++[.row r]) (p++[sz=sz/\k.TY=true/\rows[i]?=some r/\n<=sz]):=o.ext _ ⟨⟨rfl,hk,h,yu hn⟩,trivial⟩
theorem Pre.c(o:Pre A p){s:Bytes}{i:Int}{b:UInt8}(h:mC s i=some b):Pre (A++[.ch b]) (p++[0<=i/\s[i.toNat]?=some b]):=o.ext _ ⟨a6m h,trivial⟩
theorem Pre.lt{α:Type}{l xs:List α}{i:Nat}{x:α}(o:Pre A p)(f:α->aS)(h:l.drop i=x::xs):Pre (A++[bT]) (p++[decide ((i:Int)<((l.map f).length:Int))=true]):=o.b (a2E f (drop_cons h).2.1)
theorem Pre.ge{α:Type}{l:List α}{i:Nat}(o:Pre A p)(f:α->aS)(h:l.drop i=[]):Pre (A++[bF]) (p++[decide ((i:Int)<((l.map f).length:Int))=false]):=o.b (ZZ f (drop_nil h))
end
theorem dc{α:Type}{l:List α}{k:Nat}{x:α}{xs:List α}(h:l.drop k=x::xs):l[k]?=some x:=(drop_cons h).1
theorem dn{α:Type}{l:List α}{k:Nat}{x:α}{xs:List α}(h:l.drop k=x::xs):l.drop (k+1)=xs:=(drop_cons h).2.2
theorem iS{α:Type}{l:List α}{k:Nat}{x:α}{xs:List α}(h:l.drop k=x::xs)(hn:l.length<=maxLen):IntKind.i64.wrap ((k:Int)+1)=((k+1:Nat):Int):=a1g (drop_cons h).2.1 hn
theorem mA{α β:Type}(f:α->β):(∀a b:List α,(a++b).map f=a.map f++b.map f)/\(∀(x:α) (a:List α),(x::a).map f=f x::a.map f)/\([]:List α).map f=[]/\(∀(l:List α) (i:Nat) (x:α),(l.set i x).map f=(l.map f).set i (f x))/\(∀(n:Nat) (x:α),(List.replicate n x).map f=List.replicate n (f x))/\(∀(l:List α) (n:Nat),(l.take n).map f=(l.map f).take n):=
 ⟨fun _ _=>bS,fun _ _=>rfl,rfl,fun _ _ _=>List.map_set,fun _ _=>List.map_replicate,fun _ _=>dR⟩
section
variable{Γ:vY}{N N1:Nat->St->Prop}{fn:Func}{k:Kd}{nt:Nat}{A:eb}{p:E7}{c c':Code}{K K' K0:xE}{st xZ:St}
theorem Pre.ret(o:Pre A p)(hnt:Γ.nt=nt)(h:go prog (k.rf prog fn) nt 2000 (.run c) K st A=some (.ret k.d0,p):=by kernel_rfl):AW prog Γ c (KQ prog Γ N (k.qq prog fn) K) st:=Py (n:=2000) A _ hnt C4 h o.h rfl
theorem Pre.rts(o:Pre A p)(hnt:Γ.nt=nt)(d:D)(hd:d=k.d0)(h:go prog (k.rf prog fn) nt 2000 (.run c) K st A=some (.ret d,p):=by kernel_rfl):AW prog Γ c (KQ prog Γ N (k.qq prog fn) K) st:=Py (n:=2000) A _ hnt C4 h o.h hd
theorem Pre.cs(o:Pre A p)(hnt:Γ.nt=nt){n:Nat}(hS:N1 (depth K')=Pe prog Γ c' (KQ prog Γ N (k.qq prog fn) K') n)(S:St)(e:S=xZ)(t:Pe prog Γ c' (KQ prog Γ N (k.qq prog fn) K') n xZ)
 (h:go prog (k.rf prog fn) nt 2000 (.run c) K st A=some (.cont (depth K') S,p):=by kernel_rfl):AW prog Γ c (KQ prog Γ N1 (k.qq prog fn) K) st:=Py (n:=2000) A _ hnt C4 h o.h ((congrFun hS _).mpr (by rw[e];exact t))
theorem Pre.cf(o:Pre A p)(hnt:Γ.nt=nt){n:Nat}(hS:N1 (depth K')=Pe prog Γ c' (KQ prog Γ N (k.qq prog fn) K') n)(t:Pe prog Γ c' (KQ prog Γ N (k.qq prog fn) K') n xZ)
 (h:go prog (k.rf prog fn) nt 2000 (.run c) K st A=some (.cont (depth K') xZ,p):=by kernel_rfl):AW prog Γ c (KQ prog Γ N1 (k.qq prog fn) K) st:=o.cs hnt hS _ rfl t h
theorem Pre.ct(o:Pre A p)(hnt:Γ.nt=nt){n i:Nat}{S:Int->St}(hS:N1 (depth K')=Pe prog Γ c' (KQ prog Γ N (k.qq prog fn) K') n)(hi:IntKind.i64.wrap ((i:Int)+1)=((i+1:Nat):Int))(t:Pe prog Γ c' (KQ prog Γ N (k.qq prog fn) K') n (S ((i+1:Nat):Int)))
 (h:go prog (k.rf prog fn) nt 2000 (.run c) K st A=some (.cont (depth K') (S (IntKind.i64.wrap ((i:Int)+1))),p):=by kernel_rfl):AW prog Γ c (KQ prog Γ N1 (k.qq prog fn) K) st:=o.cs hnt hS _ (congrArg S hi) t h
theorem Pre.exs(o:Pre A p)(hnt:Γ.nt=nt)(hN:∀d,d<depth K0->N1 d=N d)(S:St)(e:S=xZ)(t:AW prog Γ c' (KQ prog Γ N (k.qq prog fn) K') xZ)(hd:depth K'=depth K0:=by kernel_rfl)(h:go prog (k.rf prog fn) nt 2000 (.run c) K st A=some (.at_ c' K' S,p):=by kernel_rfl):
 AW prog Γ c (KQ prog Γ N1 (k.qq prog fn) K) st:=Py (n:=2000) A _ hnt C4 h o.h (Px (K0:=K0) hd hN (by rw[e];exact t))
theorem Pre.ex(o:Pre A p)(hnt:Γ.nt=nt)(hN:∀d,d<depth K0->N1 d=N d)(t:AW prog Γ c' (KQ prog Γ N (k.qq prog fn) K') xZ)(hd:depth K'=depth K0:=by kernel_rfl)(h:go prog (k.rf prog fn) nt 2000 (.run c) K st A=some (.at_ c' K' xZ,p):=by kernel_rfl):
 AW prog Γ c (KQ prog Γ N1 (k.qq prog fn) K) st:=o.exs hnt hN _ rfl t hd h
theorem Pre.Ww(o:Pre A p)(hnt:Γ.nt=nt){n:Nat}(S:St)(e:S=xZ)(t:Pe prog Γ c' (KQ prog Γ N (k.qq prog fn) K') n xZ)(h:go prog (k.rf prog fn) nt 2000 (.run c) K st A=some (.lp c' K' S,p):=by kernel_rfl):
 AW prog Γ c (KQ prog Γ N (k.qq prog fn) K) st:=Py (n:=2000) A _ hnt C4 h o.h (xF e (yU t))
theorem Pre.lp(o:Pre A p)(hnt:Γ.nt=nt){n:Nat}(t:Pe prog Γ c' (KQ prog Γ N (k.qq prog fn) K') n xZ)(h:go prog (k.rf prog fn) nt 2000 (.run c) K st A=some (.lp c' K' xZ,p):=by kernel_rfl):
 AW prog Γ c (KQ prog Γ N (k.qq prog fn) K) st:=o.Ww hnt _ rfl t h
end
abbrev lc(f:Func)(p:List Nat):Code:=(dig (jw f) p []).1
abbrev AL(f:Func)(p:List Nat):List Fr:=(dig (jw f) p []).2
abbrev Ax(Γ:vY)(N:Nat->St->Prop)(f:Func)(k:Kd)(p:List Nat)(s:St):Prop:=AW prog Γ (lc f p) (KQ prog Γ N (k.qq prog f) (AL f p)) s
abbrev Ar(Γ:vY)(N:Nat->St->Prop)(f:Func)(k:Kd)(p:List Nat)(n:Nat)(s:St):Prop:=Pe prog Γ (lc f (p++[0])) (KQ prog Γ N (k.qq prog f) (AL f p)) n s
theorem gd{f:FuncId}{fn:Func}{ds:aS}{d:D}(hf:prog.funcs[f]?=some fn)(nz:List (List (Option (Nat×Nat))))(nt:Nat)(h:(∀d∈ds,dU d)->∀Γ:vY,Γ.nt=nt->AW prog Γ (jw fn) (KQ prog Γ (fun _ _=>False) ((Kd.q nz d).qq prog fn) []) ⟨CV 0 ds,[]⟩)
 (hb:fn.body=some (jw fn):=by kernel_rfl) (hn:(fn.name== "runtime.NumGoroutine")=false:=by kernel_rfl) (hl:Nat.ble ds.length fn.ntmps=true:=by kernel_rfl) (ht:fn.ntmps=nt:=by kernel_rfl):Good prog f ds d:=
 Good.of hf hb hn (yu hl) fun hr Γ hΓ=>h hr Γ (hΓ.trans ht)
theorem gdP{f:FuncId}{fn:Func}{cells cells' ds:aS}{d:D}(hf:prog.funcs[f]?=some fn)(nz:List (List (Option (Nat×Nat))))(nt:Nat)(GA ds1:aS)(obs:bW)
 (h:(∀x∈(D.agg cells::ds).map D.shV,dU x)->∀(v0:Value) (Γ:vY),Γ.nt=nt->AW prog Γ (jw fn) (KQ prog Γ (fun _ _=>False) ((Kd.p nz v0 cells' d).qq prog fn) []) ⟨CV 0 (.ptr 0 0::ds1),.PW GA v0::obs⟩)
 (hI:Ek 1 (.agg cells::ds)=(.agg GA::ds1,obs):=by kernel_rfl) (hb:fn.body=some (jw fn):=by kernel_rfl) (hn:(fn.name== "runtime.NumGoroutine")=false:=by kernel_rfl) (hl:Nat.ble (ds1.length+1) fn.ntmps=true:=by kernel_rfl) (ht:fn.ntmps=nt:=by kernel_rfl):BW prog f cells cells' ds d:=
 BW.of hf hb hn hI (yu hl) fun hr v0 Γ hΓ=>h hr v0 Γ (hΓ.trans ht)
end Go.Cx
namespace Go.Cx
open Go.RowKit Go.Proofs Tryz
abbrev aP:=List aE
abbrev aT:=List aR
abbrev ah:=List aI
abbrev aj:=List aN
abbrev au:=List aO
abbrev az:=List Node
abbrev b8:=List aQ
abbrev bz:=List Action
theorem fF{α:Type}[DecidableEq α][BEq α][LawfulBEq α](a b:α):(a==b)=decide (a=b):=by rw[bp];simp
def xG(cs:aS):Prop:=∀d∈cs,dU d
theorem xG.row{α:Type}{c:α->aS}{l:List α}(h:dU (.sl (l.map c))):∀x∈l,xG (c x):=fun x hx d hd=>(dU.sl h).2 (c x) (cI.2 ⟨x,hx,rfl⟩) d hd
theorem Good.a7v{P:Program}{f:FuncId}{ds:aS}{d:D}(hf:∃fn,P.funcs[f]?=some fn/\fn.body.isSome=true/\(fn.name== "runtime.NumGoroutine")=false)(h:xG ds->Good P f ds d):Good P f ds d:=
 ⟨hf,fun w Θ args bs hv hargs h1 h2 h3=>(h hargs.rdb).2 w Θ args bs hv hargs h1 h2 h3⟩
def jy{α:Type}(w:α->Nat)(l:List α):Nat:=l.length+(l.map w).sum
def tw(s:Bytes):Nat:=s.length
theorem qQ{α:Type}(w:α->Nat)(x:α)(l:List α):jy w (x::l)=1+w x+jy w l:=by simp[jy];omega
theorem Xh{α:Type}(w:α->Nat)(a b:List α):jy w (a++b)=jy w a+jy w b:=by
 induction a with
 |nil=>simp[jy]
 |cons x a ih=>rw[dO,qQ,qQ,ih];omega
theorem gh{α:Type}(w:α->Nat)(l:List α):l.length<=jy w l:=by unfold jy;omega
theorem iV{α:Type}{w:α->Nat}{l:List α}{x:α}(h:x∈l):w x+1<=jy w l:=by
 induction l with
 |nil=>cases h
 |cons y l ih=>
  rw[qQ];rcases bM.1 h with rfl|h
  ·omega
  ·have:=ih h;omega
theorem a3V{n:Nat}{v:Int}(hn:n<=maxLen)(h0:0<=v)(h1:v<=1048576):IntKind.i64.wrap (v-(n:Int))=v-(n:Int):=by
 unfold maxLen at hn;exact gf (tU.i64.2 (by omega))
def xH(o:Option Int)(v:Int)(n:Nat):Prop:=∃r,o=some r/\r<=v/\(0<=r->(n:Int)<=v-r)
theorem xH.str{n m:Nat}{v:Int}{k:Option Int}(hn:n<=maxLen)(h0:0<=v)(h1:v<=1048576)(hk:0<=v-(n:Int)->IntKind.i64.wrap (v-(n:Int))=v-(n:Int)->xH k (v-(n:Int)) m):
 xH (bif decide (IntKind.i64.wrap (v-(n:Int))<0)then some (-1)else k) v (n+m):=by
 have hw:=a3V hn h0 h1;rw[hw];by_cases c:v-(n:Int)<0
 ·exact⟨-1,by simp[c],by omega,by omega⟩
 ·obtain⟨r,e1,e2,e3⟩:=hk (by omega) hw;exact⟨r,by simp[c,e1],by omega,fun h=>by have:=e3 h;omega⟩
theorem xH.sub{o:Option Int}{v:Int}{k:Int->Option Int}{n m:Nat}(h:xH o v n)(h1:v<=1048576)(h0:0<=v)(hk:∀r,0<=r->r<=1048576->xH (k r) r m):
 xH (o.bind fun y=>bif decide (y<0)then some (-1)else k y) v (n+m):=by
 obtain⟨r,e1,e2,e3⟩:=h;rw[e1];by_cases c:r<0
 ·exact⟨-1,by simp[c],by omega,by omega⟩
 ·obtain⟨r',q1,q2,q3⟩:=hk r (by omega) (by omega);exact⟨r',by simp[c,q1],by omega,fun h=>by have:=e3 (by omega);have:=q3 h;omega⟩
theorem xH.fin{v:Int}:xH (some v) v 0:=⟨v,rfl,Int.le_refl _,fun _=>by omega⟩
theorem xH.eq{o:Option Int}{v:Int}{n m:Nat}(h:xH o v n)(e:n=m):xH o v m:=e▸h
theorem szL{α:Type}{w:α->Nat}{f:α->Int->Option Int}(L:List α->Nat->Int->Option Int)(ue:∀i v,L [] i v=some v)
 (tR:∀x xs i v,L (x::xs) i v=(f x v).bind fun y=>bif decide (y<0)then some (-1)else L xs (i+1) y):
 ∀(l:List α),(∀x∈l,∀v,0<=v->v<=1048576->xH (f x v) v (w x))->∀i v,0<=v->v<=1048576->xH (L l i v) v ((l.map w).sum):=by
 intro l
 induction l with
 |nil=>intro _ i v _ _;rw[ue];exact .fin
 |cons x xs ih=>
  intro hf i v h0 h1;rw[tR];refine((hf x (by simp) v h0 h1).sub h1 h0 (m:=(xs.map w).sum) fun r r0 r1=>?_).eq (by simp);exact ih (fun y hy=>hf y (by simp[hy])) (i+1) r r0 r1
theorem szS{α:Type}{c:α->aS}{w:α->Nat}{l:List α}{v:Int}{k:Int->Option Int}(hr:dU (.sl (l.map c)))(h0:0<=v)(h1:v<=1048576)
 (hk:∀v',0<=v'->v'<=1048576->xH (k v') v' ((l.map w).sum)):xH (bif decide (IntKind.i64.wrap (v-((l.map c).length:Int))<0)then some (-1)else k (IntKind.i64.wrap (v-((l.map c).length:Int)))) v (jy w l):=by
 have hn:(l.map c).length<=maxLen:=(dU.sl hr).1;refine(xH.str hn h0 h1 (m:=(l.map w).sum) fun g e=>?_).eq (by simp[jy]);rw[e];exact hk _ g (by omega)
theorem toL{α:Type}{z:α}{c:α->aS}{f:α->Option α}{l:List α}(L:List α->Nat->List α->Option (List α))(ue:∀i w,L [] i w=some w)
 (tR:∀x xs i w,L (x::xs) i w=(f x).bind fun y=>bif decide (i<(w.map c).length)then(w[i]?).bind (fun _=>L xs (i+1) (w.set i y))else none) (hf:∀x∈l,f x=some x):
 L l 0 (List.replicate ((l.map c).length:Int).toNat z)=some l:=by
 have key:∀(rest pre:List α),l=pre++rest->L rest pre.length (pre++List.replicate rest.length z)=some l:=by
  intro rest
  induction rest with
  |nil=>intro pre h;rw[ue,h];simp
  |cons x xs ih=>
   intro pre h;rw[tR,hf x (by rw[h];simp)];have e1:decide (pre.length<((pre++List.replicate (x::xs).length z).map c).length)=true:=by simp
   have e2:(pre++List.replicate (x::xs).length z)[pre.length]?=some z:=by simp[Ah]
   have e3:(pre++List.replicate (x::xs).length z).set pre.length x=(pre++[x])++List.replicate xs.length z:=by
    rw[aL,Ah,me _ _ (bR _),p8,List.set_cons_zero];simp
   simp only[aA,e1,aW,e2,e3];have:=ih (pre++[x]) (by rw[h];simp);simpa using this
 have:=key l [] rfl;simpa using this
theorem KG{n b:Nat}(hn:n<=1048576)(hb:b<=1000):Cd (n:Int) b=true:=by
 unfold Cd;have h1:b*n<=1000*1048576:=G4 hb hn;simp;omega
theorem S6{α:Type}[DecidableEq α]{f:α->α->Option Bool}{a b:List α}{c:α->aS}(L:Option Bool->List α->Nat->Option Bool)(ue:∀k i,L k [] i=k)
 (tR:∀k x xs i,L k (x::xs) i=(mC b (i:Int)).bind fun y=>(f x y).bind fun r=>bif !r then some false else L k xs (i+1)) (hf:∀x y,f x y=some (decide (x=y))):
 (bif (((a.map c).length:Int) != ((b.map c).length:Int))then some false else L (some true) a 0)=some (decide (a=b)):=by
 by_cases hl:a.length=b.length
 ·have e:(((a.map c).length:Int) != ((b.map c).length:Int))=false:=by simp[hl]
  rw[e];have key:∀(ra rb pa pb:List α),a=pa++ra->b=pb++rb->pa.length=pb.length->L (some true) ra pa.length=some (decide (ra=rb)):=by
   intro ra
   induction ra with
   |nil=>
    intro rb pa pb h1 h2 h3;rw[ue];have:rb=[]:=by
     have:=congrArg List.length h1;have:=congrArg List.length h2;simp at*;apply cc;omega
    subst this;simp
   |cons x xs ih=>
    intro rb pa pb h1 h2 h3;cases rb with
    |nil=>
     exfalso;have:=congrArg List.length h1;have:=congrArg List.length h2;simp at*;omega
    |cons y ys=>
     rw[tR];have e1:mC b (pa.length:Int)=some y:=by
      unfold mC;have:b[pa.length]?=some y:=by rw[h2,h3];simp
      simp[this]
     rw[e1,aA,hf,aA];have:=ih ys (pa++[x]) (pb++[y]) (by rw[h1];simp) (by rw[h2];simp) (by simp[h3]);by_cases hxy:x=y
     ·subst hxy;simp only[CT,bP,af];simp only[aX,aL,bK]at this;rw[this];simp
     ·simp[hxy]
  have:=key a b [] [] rfl rfl rfl;simpa using this
 ·have e:(((a.map c).length:Int) != ((b.map c).length:Int))=true:=by simp;omega
  rw[e];have:a≠b:=fun h=>hl (by rw[h])
  simp[this]
theorem yM{z:Int}(h0:0<=z)(h1:z<=4611686018427387904):IntKind.i64.wrap (z+1)=z+1:=gf (tU.i64.2 (by omega))
end Go.Cx
namespace Go.Cx
open Go.RowKit Go.Proofs Tryz
set_option maxRecDepth 100000
variable{Γ:vY}{N:Nat->St->Prop}
def ja(aB:aJ)(k1:Int->Option Int):aJ->Nat->Int->Option Int
 | [],i1,b7=>(k1 b7)
 |bD::bg,i1,b7=>(bif decide ((IntKind.i64.wrap (b7-(bD.length:Int)):Int)<0)then(some (-1))else(ja aB k1 bg (i1+1) (IntKind.i64.wrap (b7-(bD.length:Int)))))
def pg(aB:aJ)(aV:Int):Option Int:=(bif decide ((IntKind.i64.wrap (aV-((aB.map tx).length:Int)):Int)<0)then(some (-1))else(ja aB (fun(cK:Int)=>(some cK)) aB 0 (IntKind.i64.wrap (aV-((aB.map tx).length:Int)))))
def JG(aB:aJ)(b7:Int)(cT:Int):St:=⟨[(0,D.sl (aB.map tx)),(1,D.int .i64 b7),(5,D.int .i64 cT)],[]⟩
theorem H8(hΓ:Γ.nt=28){aB:aJ}{r:Int}{k1:Int->Option Int}(cY:∀(cK:Int),k1 cK=some r->Ax Γ N f68 (.q [[none]] (D.int .i64 r)) [1,1,1,1] ⟨[(1,D.int .i64 cK)],[]⟩)(hm1:aB.length<=maxLen):∀(rest:aJ) (i1:Nat) (b7:Int),aB.drop i1=rest->ja aB k1 rest i1 b7=some r->Ar Γ N f68 (.q [[none]] (D.int .i64 r)) [1,1,1,0,1,0] (rest.length+1) (JG aB b7 (i1:Int)):=by
 intro rest
 induction rest with
 |nil=>
  intro i1 b7 aq h;rw[ja]at h;refine aM fun N1 bw bn=>?_
  exact((aU.ge tx aq).a [.hl 0 [1] []]).ex hΓ bw (cY b7 h)
 |cons bD bg ih1=>
  intro i1 b7 aq h;rw[ja]at h;refine aM fun N1 bw bn=>?_
  have dH:=((aU.lt tx aq).l (av tx 1 (dc aq) rfl))
  obtain⟨h14,h⟩|⟨h14,h⟩:=aK h
  ·cases h;exact(dH.b h14).ret hΓ
  ·exact((dH.b h14).a [.cn [0,1,5] []]).ct hΓ bn (iS aq hm1) (ih1 (i1+1) (IntKind.i64.wrap (b7-(bD.length:Int))) (dn aq) h)
theorem zF{aB:aJ}{aV:Int}{r:Int}(h:pg aB aV=some r):Good prog 68 [D.sl (aB.map tx),D.int .i64 aV] (D.int .i64 r):=by
 refine gd func68 [[none]] 28 fun hr Γ hΓ=>?_
 rw[pg]at h;obtain⟨h1,h⟩|⟨h1,h⟩:=aK h
 ·cases h;exact(aU.b h1).ret hΓ
 ·refine((aU.b h1).a [.cn [0,1,5] []]).lp hΓ (H8 hΓ (fun cK h=>?_) (by have:=(dU.sl (hr _ (aC (i:=0) rfl))).1;simpa using this) aB 0 (IntKind.i64.wrap (aV-((aB.map tx).length:Int))) rfl h);have h:=aG h;subst h;exact aU.ret hΓ
def nF(aB:aE)(aV:Int):Option Int:=(bif decide ((IntKind.i64.wrap (aV-(aB.rel.length:Int)):Int)<0)then(some (-1))else((pg aB.args (IntKind.i64.wrap (aV-(aB.rel.length:Int)))).bind fun y2=>(bif decide ((y2:Int)<0)then(some (-1))else(some y2))))
theorem jt{aB:aE}{aV:Int}{r:Int}(h:nF aB aV=some r):Good prog 172 [D.agg (aE.c aB),D.int .i64 aV] (D.int .i64 r):=by
 refine gd func172 [[none]] 19 fun hr Γ hΓ=>?_
 rw[nF]at h;obtain⟨h1,h⟩|⟨h1,h⟩:=aK h
 ·cases h;exact(aU.b h1).ret hΓ
 ·obtain⟨y2,h3,h⟩:=aD h;have k7:=((aU.b h1).g (zF h3))
  obtain⟨h4,h⟩|⟨h4,h⟩:=aK h
  ·cases h;exact(k7.b h4).ret hΓ
  ·have h:=aG h;subst h;exact(k7.b h4).ret hΓ
def rR(aB:aN)(aV:Int):Option Int:=((nF aB.pat aV).bind fun y1=>(bif decide ((y1:Int)<0)then(some (-1))else(bif decide ((IntKind.i64.wrap (y1-(aB.left.length:Int)):Int)<0)then(some (-1))else(bif decide ((IntKind.i64.wrap ((IntKind.i64.wrap (y1-(aB.left.length:Int)))-(aB.right.length:Int)):Int)<0)then(some (-1))else(some (IntKind.i64.wrap ((IntKind.i64.wrap (y1-(aB.left.length:Int)))-(aB.right.length:Int))))))))
theorem xm{aB:aN}{aV:Int}{r:Int}(h:rR aB aV=some r):Good prog 173 [D.agg (aN.c aB),D.int .i64 aV] (D.int .i64 r):=by
 refine gd func173 [[none]] 26 fun hr Γ hΓ=>?_
 rw[rR]at h;obtain⟨y1,h2,h⟩:=aD h;obtain⟨h3,h⟩|⟨h3,h⟩:=aK h
 ·cases h;exact((aU.g (jt h2)).b h3).ret hΓ
 ·have k7:=((aU.g (jt h2)).b h3)
  obtain⟨h4,h⟩|⟨h4,h⟩:=aK h
  ·cases h;exact(k7.b h4).ret hΓ
  ·obtain⟨h5,h⟩|⟨h5,h⟩:=aK h
   ·cases h;exact((k7.b h4).b h5).ret hΓ
   ·cases h;exact((k7.b h4).b h5).ret hΓ
def oM(aB:aj)(k1:Int->Option Int):aj->Nat->Int->Option Int
 | [],i1,b7=>(k1 b7)
 |bD::bg,i1,b7=>((rR bD b7).bind fun lI=>(bif decide ((lI:Int)<0)then(some (-1))else(oM aB k1 bg (i1+1) lI)))
def w8(aB:aj)(aV:Int):Option Int:=(bif decide ((IntKind.i64.wrap (aV-((aB.map aN.c).length:Int)):Int)<0)then(some (-1))else(oM aB (fun(cK:Int)=>(some cK)) aB 0 (IntKind.i64.wrap (aV-((aB.map aN.c).length:Int)))))
def Mh(aB:aj)(b7:Int)(cT:Int):St:=⟨[(0,D.sl (aB.map aN.c)),(1,D.int .i64 b7),(5,D.int .i64 cT)],[]⟩
theorem L5(hΓ:Γ.nt=27){aB:aj}{r:Int}{k1:Int->Option Int}(cY:∀(cK:Int),k1 cK=some r->Ax Γ N f136 (.q [[none]] (D.int .i64 r)) [1,1,1,1] ⟨[(1,D.int .i64 cK)],[]⟩)(hm1:aB.length<=maxLen):∀(rest:aj) (i1:Nat) (b7:Int),aB.drop i1=rest->oM aB k1 rest i1 b7=some r->Ar Γ N f136 (.q [[none]] (D.int .i64 r)) [1,1,1,0,1,0] (rest.length+1) (Mh aB b7 (i1:Int)):=by
 intro rest
 induction rest with
 |nil=>
  intro i1 b7 aq h;rw[oM]at h;refine aM fun N1 bw bn=>?_
  exact((aU.ge aN.c aq).a [.hl 0 [1] []]).ex hΓ bw (cY b7 h)
 |cons bD bg ih1=>
  intro i1 b7 aq h;rw[oM]at h;refine aM fun N1 bw bn=>?_
  obtain⟨lI,h23,h⟩:=aD h;have dH:=(((aU.lt aN.c aq).l (av aN.c 5 (dc aq) rfl)).g (xm h23))
  obtain⟨h24,h⟩|⟨h24,h⟩:=aK h
  ·cases h;exact(dH.b h24).ret hΓ
  ·exact((dH.b h24).a [.cn [0,1,5] []]).ct hΓ bn (iS aq hm1) (ih1 (i1+1) lI (dn aq) h)
theorem JD{aB:aj}{aV:Int}{r:Int}(h:w8 aB aV=some r):Good prog 136 [D.sl (aB.map aN.c),D.int .i64 aV] (D.int .i64 r):=by
 refine gd func136 [[none]] 27 fun hr Γ hΓ=>?_
 rw[w8]at h;obtain⟨h1,h⟩|⟨h1,h⟩:=aK h
 ·cases h;exact(aU.b h1).ret hΓ
 ·refine((aU.b h1).a [.cn [0,1,5] []]).lp hΓ (L5 hΓ (fun cK h=>?_) (by have:=(dU.sl (hr _ (aC (i:=0) rfl))).1;simpa using this) aB 0 (IntKind.i64.wrap (aV-((aB.map aN.c).length:Int))) rfl h);have h:=aG h;subst h;exact aU.ret hΓ
def qk(aB:Action)(aV:Int):Option Int:=((nF aB.pat aV).bind fun y1=>(bif decide ((y1:Int)<0)then(some (-1))else(some y1)))
theorem H6{aB:Action}{aV:Int}{r:Int}(h:qk aB aV=some r):Good prog 205 [D.agg (Action.c aB),D.int .i64 aV] (D.int .i64 r):=by
 refine gd func205 [[none]] 12 fun hr Γ hΓ=>?_
 rw[qk]at h;obtain⟨y1,h2,h⟩:=aD h;obtain⟨h3,h⟩|⟨h3,h⟩:=aK h
 ·cases h;exact((aU.g (jt h2)).b h3).ret hΓ
 ·have h:=aG h;subst h;exact((aU.g (jt h2)).b h3).ret hΓ
def mN(aB:bz)(k1:Int->Option Int):bz->Nat->Int->Option Int
 | [],i1,b7=>(k1 b7)
 |bD::bg,i1,b7=>((qk bD b7).bind fun lI=>(bif decide ((lI:Int)<0)then(some (-1))else(mN aB k1 bg (i1+1) lI)))
def tD(aB:bz)(aV:Int):Option Int:=(bif decide ((IntKind.i64.wrap (aV-((aB.map Action.c).length:Int)):Int)<0)then(some (-1))else(mN aB (fun(cK:Int)=>(some cK)) aB 0 (IntKind.i64.wrap (aV-((aB.map Action.c).length:Int)))))
def JA(aB:bz)(b7:Int)(cT:Int):St:=⟨[(0,D.sl (aB.map Action.c)),(1,D.int .i64 b7),(5,D.int .i64 cT)],[]⟩
theorem Gz(hΓ:Γ.nt=27){aB:bz}{r:Int}{k1:Int->Option Int}(cY:∀(cK:Int),k1 cK=some r->Ax Γ N f137 (.q [[none]] (D.int .i64 r)) [1,1,1,1] ⟨[(1,D.int .i64 cK)],[]⟩)(hm1:aB.length<=maxLen):∀(rest:bz) (i1:Nat) (b7:Int),aB.drop i1=rest->mN aB k1 rest i1 b7=some r->Ar Γ N f137 (.q [[none]] (D.int .i64 r)) [1,1,1,0,1,0] (rest.length+1) (JA aB b7 (i1:Int)):=by
 intro rest
 induction rest with
 |nil=>
  intro i1 b7 aq h;rw[mN]at h;refine aM fun N1 bw bn=>?_
  exact((aU.ge Action.c aq).a [.hl 0 [1] []]).ex hΓ bw (cY b7 h)
 |cons bD bg ih1=>
  intro i1 b7 aq h;rw[mN]at h;refine aM fun N1 bw bn=>?_
  obtain⟨lI,h23,h⟩:=aD h;have dH:=(((aU.lt Action.c aq).l (av Action.c 3 (dc aq) rfl)).g (H6 h23))
  obtain⟨h24,h⟩|⟨h24,h⟩:=aK h
  ·cases h;exact(dH.b h24).ret hΓ
  ·exact((dH.b h24).a [.cn [0,1,5] []]).ct hΓ bn (iS aq hm1) (ih1 (i1+1) lI (dn aq) h)
theorem Fe{aB:bz}{aV:Int}{r:Int}(h:tD aB aV=some r):Good prog 137 [D.sl (aB.map Action.c),D.int .i64 aV] (D.int .i64 r):=by
 refine gd func137 [[none]] 27 fun hr Γ hΓ=>?_
 rw[tD]at h;obtain⟨h1,h⟩|⟨h1,h⟩:=aK h
 ·cases h;exact(aU.b h1).ret hΓ
 ·refine((aU.b h1).a [.cn [0,1,5] []]).lp hΓ (Gz hΓ (fun cK h=>?_) (by have:=(dU.sl (hr _ (aC (i:=0) rfl))).1;simpa using this) aB 0 (IntKind.i64.wrap (aV-((aB.map Action.c).length:Int))) rfl h);have h:=aG h;subst h;exact aU.ret hΓ
def v8(aB:aO)(aV:Int):Option Int:=(bif decide ((IntKind.i64.wrap (aV-(aB.name.length:Int)):Int)<0)then(some (-1))else((w8 aB.conds (IntKind.i64.wrap (aV-(aB.name.length:Int)))).bind fun y2=>(bif decide ((y2:Int)<0)then(some (-1))else((tD aB.cu y2).bind fun y5=>(bif decide ((y5:Int)<0)then(some (-1))else(some y5))))))
theorem LD{aB:aO}{aV:Int}{r:Int}(h:v8 aB aV=some r):Good prog 79 [D.agg (aO.c aB),D.int .i64 aV] (D.int .i64 r):=by
 refine gd func79 [[none]] 25 fun hr Γ hΓ=>?_
 rw[v8]at h;obtain⟨h1,h⟩|⟨h1,h⟩:=aK h
 ·cases h;exact(aU.b h1).ret hΓ
 ·obtain⟨y2,h3,h⟩:=aD h;have k7:=((aU.b h1).g (JD h3))
  obtain⟨h4,h⟩|⟨h4,h⟩:=aK h
  ·cases h;exact(k7.b h4).ret hΓ
  ·obtain⟨y5,h6,h⟩:=aD h;have dH:=((k7.b h4).g (Fe h6))
   obtain⟨h7,h⟩|⟨h7,h⟩:=aK h
   ·cases h;exact(dH.b h7).ret hΓ
   ·have h:=aG h;subst h;exact(dH.b h7).ret hΓ
def oQ(aB:au)(k1:Int->Option Int):au->Nat->Int->Option Int
 | [],i1,b7=>(k1 b7)
 |bD::bg,i1,b7=>((v8 bD b7).bind fun lI=>(bif decide ((lI:Int)<0)then(some (-1))else(oQ aB k1 bg (i1+1) lI)))
def wB(aB:au)(aV:Int):Option Int:=(bif decide ((IntKind.i64.wrap (aV-((aB.map aO.c).length:Int)):Int)<0)then(some (-1))else(oQ aB (fun(cK:Int)=>(some cK)) aB 0 (IntKind.i64.wrap (aV-((aB.map aO.c).length:Int)))))
def Ml(aB:au)(b7:Int)(cT:Int):St:=⟨[(0,D.sl (aB.map aO.c)),(1,D.int .i64 b7),(5,D.int .i64 cT)],[]⟩
theorem LC(hΓ:Γ.nt=27){aB:au}{r:Int}{k1:Int->Option Int}(cY:∀(cK:Int),k1 cK=some r->Ax Γ N f33 (.q [[none]] (D.int .i64 r)) [1,1,1,1] ⟨[(1,D.int .i64 cK)],[]⟩)(hm1:aB.length<=maxLen):∀(rest:au) (i1:Nat) (b7:Int),aB.drop i1=rest->oQ aB k1 rest i1 b7=some r->Ar Γ N f33 (.q [[none]] (D.int .i64 r)) [1,1,1,0,1,0] (rest.length+1) (Ml aB b7 (i1:Int)):=by
 intro rest
 induction rest with
 |nil=>
  intro i1 b7 aq h;rw[oQ]at h;refine aM fun N1 bw bn=>?_
  exact((aU.ge aO.c aq).a [.hl 0 [1] []]).ex hΓ bw (cY b7 h)
 |cons bD bg ih1=>
  intro i1 b7 aq h;rw[oQ]at h;refine aM fun N1 bw bn=>?_
  obtain⟨lI,h23,h⟩:=aD h;have dH:=(((aU.lt aO.c aq).l (av aO.c 4 (dc aq) rfl)).g (LD h23))
  obtain⟨h24,h⟩|⟨h24,h⟩:=aK h
  ·cases h;exact(dH.b h24).ret hΓ
  ·exact((dH.b h24).a [.cn [0,1,5] []]).ct hΓ bn (iS aq hm1) (ih1 (i1+1) lI (dn aq) h)
theorem Av{aB:au}{aV:Int}{r:Int}(h:wB aB aV=some r):Good prog 33 [D.sl (aB.map aO.c),D.int .i64 aV] (D.int .i64 r):=by
 refine gd func33 [[none]] 27 fun hr Γ hΓ=>?_
 rw[wB]at h;obtain⟨h1,h⟩|⟨h1,h⟩:=aK h
 ·cases h;exact(aU.b h1).ret hΓ
 ·refine((aU.b h1).a [.cn [0,1,5] []]).lp hΓ (LC hΓ (fun cK h=>?_) (by have:=(dU.sl (hr _ (aC (i:=0) rfl))).1;simpa using this) aB 0 (IntKind.i64.wrap (aV-((aB.map aO.c).length:Int))) rfl h);have h:=aG h;subst h;exact aU.ret hΓ
def xN(aB:bJ)(aV:Int):Option Int:=(bif decide ((IntKind.i64.wrap (aV-((aB.map di).length:Int)):Int)<0)then(some (-1))else(some (IntKind.i64.wrap (aV-((aB.map di).length:Int)))))
theorem L7{aB:bJ}{aV:Int}{r:Int}(h:xN aB aV=some r):Good prog 46 [D.sl (aB.map di),D.int .i64 aV] (D.int .i64 r):=by
 refine gd func46 [[none]] 12 fun hr Γ hΓ=>?_
 rw[xN]at h;obtain⟨h1,h⟩|⟨h1,h⟩:=aK h
 ·cases h;exact(aU.b h1).ret hΓ
 ·cases h;exact(aU.b h1).ret hΓ
def rS(aB:aE)(aV:Int):Option Int:=(bif decide ((IntKind.i64.wrap (aV-(aB.rel.length:Int)):Int)<0)then(some (-1))else((pg aB.args (IntKind.i64.wrap (aV-(aB.rel.length:Int)))).bind fun y2=>(bif decide ((y2:Int)<0)then(some (-1))else(some y2))))
theorem Br{aB:aE}{aV:Int}{r:Int}(h:rS aB aV=some r):Good prog 22 [D.agg (aE.c aB),D.int .i64 aV] (D.int .i64 r):=by
 refine gd func22 [[none]] 19 fun hr Γ hΓ=>?_
 rw[rS]at h;obtain⟨h1,h⟩|⟨h1,h⟩:=aK h
 ·cases h;exact(aU.b h1).ret hΓ
 ·obtain⟨y2,h3,h⟩:=aD h;have k7:=((aU.b h1).g (zF h3))
  obtain⟨h4,h⟩|⟨h4,h⟩:=aK h
  ·cases h;exact(k7.b h4).ret hΓ
  ·have h:=aG h;subst h;exact(k7.b h4).ret hΓ
def oN(aB:aP)(k1:Int->Option Int):aP->Nat->Int->Option Int
 | [],i1,b7=>(k1 b7)
 |bD::bg,i1,b7=>((rS bD b7).bind fun lI=>(bif decide ((lI:Int)<0)then(some (-1))else(oN aB k1 bg (i1+1) lI)))
def qE(aB:aP)(aV:Int):Option Int:=(bif decide ((IntKind.i64.wrap (aV-((aB.map aE.c).length:Int)):Int)<0)then(some (-1))else(oN aB (fun(cK:Int)=>(some cK)) aB 0 (IntKind.i64.wrap (aV-((aB.map aE.c).length:Int)))))
def Mi(aB:aP)(b7:Int)(cT:Int):St:=⟨[(0,D.sl (aB.map aE.c)),(1,D.int .i64 b7),(5,D.int .i64 cT)],[]⟩
theorem L6(hΓ:Γ.nt=27){aB:aP}{r:Int}{k1:Int->Option Int}(cY:∀(cK:Int),k1 cK=some r->Ax Γ N f12 (.q [[none]] (D.int .i64 r)) [1,1,1,1] ⟨[(1,D.int .i64 cK)],[]⟩)(hm1:aB.length<=maxLen):∀(rest:aP) (i1:Nat) (b7:Int),aB.drop i1=rest->oN aB k1 rest i1 b7=some r->Ar Γ N f12 (.q [[none]] (D.int .i64 r)) [1,1,1,0,1,0] (rest.length+1) (Mi aB b7 (i1:Int)):=by
 intro rest
 induction rest with
 |nil=>
  intro i1 b7 aq h;rw[oN]at h;refine aM fun N1 bw bn=>?_
  exact((aU.ge aE.c aq).a [.hl 0 [1] []]).ex hΓ bw (cY b7 h)
 |cons bD bg ih1=>
  intro i1 b7 aq h;rw[oN]at h;refine aM fun N1 bw bn=>?_
  obtain⟨lI,h23,h⟩:=aD h;have dH:=(((aU.lt aE.c aq).l (av aE.c 2 (dc aq) rfl)).g (Br h23))
  obtain⟨h24,h⟩|⟨h24,h⟩:=aK h
  ·cases h;exact(dH.b h24).ret hΓ
  ·exact((dH.b h24).a [.cn [0,1,5] []]).ct hΓ bn (iS aq hm1) (ih1 (i1+1) lI (dn aq) h)
theorem sE{aB:aP}{aV:Int}{r:Int}(h:qE aB aV=some r):Good prog 12 [D.sl (aB.map aE.c),D.int .i64 aV] (D.int .i64 r):=by
 refine gd func12 [[none]] 27 fun hr Γ hΓ=>?_
 rw[qE]at h;obtain⟨h1,h⟩|⟨h1,h⟩:=aK h
 ·cases h;exact(aU.b h1).ret hΓ
 ·refine((aU.b h1).a [.cn [0,1,5] []]).lp hΓ (L6 hΓ (fun cK h=>?_) (by have:=(dU.sl (hr _ (aC (i:=0) rfl))).1;simpa using this) aB 0 (IntKind.i64.wrap (aV-((aB.map aE.c).length:Int))) rfl h);have h:=aG h;subst h;exact aU.ret hΓ
def tE(aB:aQ)(aV:Int):Option Int:=((nF aB.shape aV).bind fun y1=>(bif decide ((y1:Int)<0)then(some (-1))else((qE aB.facts y1).bind fun y4=>(bif decide ((y4:Int)<0)then(some (-1))else(some y4)))))
theorem JC{aB:aQ}{aV:Int}{r:Int}(h:tE aB aV=some r):Good prog 100 [D.agg (aQ.c aB),D.int .i64 aV] (D.int .i64 r):=by
 refine gd func100 [[none]] 18 fun hr Γ hΓ=>?_
 rw[tE]at h;obtain⟨y1,h2,h⟩:=aD h;obtain⟨h3,h⟩|⟨h3,h⟩:=aK h
 ·cases h;exact((aU.g (jt h2)).b h3).ret hΓ
 ·obtain⟨y4,h5,h⟩:=aD h;have k7:=(((aU.g (jt h2)).b h3).g (sE h5))
  obtain⟨h6,h⟩|⟨h6,h⟩:=aK h
  ·cases h;exact(k7.b h6).ret hΓ
  ·have h:=aG h;subst h;exact(k7.b h6).ret hΓ
def nE(aB:b8)(k1:Int->Option Int):b8->Nat->Int->Option Int
 | [],i1,b7=>(k1 b7)
 |bD::bg,i1,b7=>((tE bD b7).bind fun lI=>(bif decide ((lI:Int)<0)then(some (-1))else(nE aB k1 bg (i1+1) lI)))
def uN(aB:b8)(aV:Int):Option Int:=(bif decide ((IntKind.i64.wrap (aV-((aB.map aQ.c).length:Int)):Int)<0)then(some (-1))else(nE aB (fun(cK:Int)=>(some cK)) aB 0 (IntKind.i64.wrap (aV-((aB.map aQ.c).length:Int)))))
def L4(aB:b8)(b7:Int)(cT:Int):St:=⟨[(0,D.sl (aB.map aQ.c)),(1,D.int .i64 b7),(5,D.int .i64 cT)],[]⟩
theorem JB(hΓ:Γ.nt=27){aB:b8}{r:Int}{k1:Int->Option Int}(cY:∀(cK:Int),k1 cK=some r->Ax Γ N f47 (.q [[none]] (D.int .i64 r)) [1,1,1,1] ⟨[(1,D.int .i64 cK)],[]⟩)(hm1:aB.length<=maxLen):∀(rest:b8) (i1:Nat) (b7:Int),aB.drop i1=rest->nE aB k1 rest i1 b7=some r->Ar Γ N f47 (.q [[none]] (D.int .i64 r)) [1,1,1,0,1,0] (rest.length+1) (L4 aB b7 (i1:Int)):=by
 intro rest
 induction rest with
 |nil=>
  intro i1 b7 aq h;rw[nE]at h;refine aM fun N1 bw bn=>?_
  exact((aU.ge aQ.c aq).a [.hl 0 [1] []]).ex hΓ bw (cY b7 h)
 |cons bD bg ih1=>
  intro i1 b7 aq h;rw[nE]at h;refine aM fun N1 bw bn=>?_
  obtain⟨lI,h23,h⟩:=aD h;have dH:=(((aU.lt aQ.c aq).l (av aQ.c 3 (dc aq) rfl)).g (JC h23))
  obtain⟨h24,h⟩|⟨h24,h⟩:=aK h
  ·cases h;exact(dH.b h24).ret hΓ
  ·exact((dH.b h24).a [.cn [0,1,5] []]).ct hΓ bn (iS aq hm1) (ih1 (i1+1) lI (dn aq) h)
theorem H7{aB:b8}{aV:Int}{r:Int}(h:uN aB aV=some r):Good prog 47 [D.sl (aB.map aQ.c),D.int .i64 aV] (D.int .i64 r):=by
 refine gd func47 [[none]] 27 fun hr Γ hΓ=>?_
 rw[uN]at h;obtain⟨h1,h⟩|⟨h1,h⟩:=aK h
 ·cases h;exact(aU.b h1).ret hΓ
 ·refine((aU.b h1).a [.cn [0,1,5] []]).lp hΓ (JB hΓ (fun cK h=>?_) (by have:=(dU.sl (hr _ (aC (i:=0) rfl))).1;simpa using this) aB 0 (IntKind.i64.wrap (aV-((aB.map aQ.c).length:Int))) rfl h);have h:=aG h;subst h;exact aU.ret hΓ
def uz(aB:aR)(aV:Int):Option Int:=(bif decide ((IntKind.i64.wrap (aV-(aB.var.length:Int)):Int)<0)then(some (-1))else(bif decide ((IntKind.i64.wrap ((IntKind.i64.wrap (aV-(aB.var.length:Int)))-(aB.value.length:Int)):Int)<0)then(some (-1))else(some (IntKind.i64.wrap ((IntKind.i64.wrap (aV-(aB.var.length:Int)))-(aB.value.length:Int))))))
theorem LB{aB:aR}{aV:Int}{r:Int}(h:uz aB aV=some r):Good prog 283 [D.agg (aR.c aB),D.int .i64 aV] (D.int .i64 r):=by
 refine gd func283 [[none]] 20 fun hr Γ hΓ=>?_
 rw[uz]at h;obtain⟨h1,h⟩|⟨h1,h⟩:=aK h
 ·cases h;exact(aU.b h1).ret hΓ
 ·obtain⟨h2,h⟩|⟨h2,h⟩:=aK h
  ·cases h;exact((aU.b h1).b h2).ret hΓ
  ·cases h;exact((aU.b h1).b h2).ret hΓ
def oP(aB:aT)(k1:Int->Option Int):aT->Nat->Int->Option Int
 | [],i1,b7=>(k1 b7)
 |bD::bg,i1,b7=>((uz bD b7).bind fun lI=>(bif decide ((lI:Int)<0)then(some (-1))else(oP aB k1 bg (i1+1) lI)))
def wA(aB:aT)(aV:Int):Option Int:=(bif decide ((IntKind.i64.wrap (aV-((aB.map aR.c).length:Int)):Int)<0)then(some (-1))else(oP aB (fun(cK:Int)=>(some cK)) aB 0 (IntKind.i64.wrap (aV-((aB.map aR.c).length:Int)))))
def Mk(aB:aT)(b7:Int)(cT:Int):St:=⟨[(0,D.sl (aB.map aR.c)),(1,D.int .i64 b7),(5,D.int .i64 cT)],[]⟩
theorem LA(hΓ:Γ.nt=27){aB:aT}{r:Int}{k1:Int->Option Int}(cY:∀(cK:Int),k1 cK=some r->Ax Γ N f272 (.q [[none]] (D.int .i64 r)) [1,1,1,1] ⟨[(1,D.int .i64 cK)],[]⟩)(hm1:aB.length<=maxLen):∀(rest:aT) (i1:Nat) (b7:Int),aB.drop i1=rest->oP aB k1 rest i1 b7=some r->Ar Γ N f272 (.q [[none]] (D.int .i64 r)) [1,1,1,0,1,0] (rest.length+1) (Mk aB b7 (i1:Int)):=by
 intro rest
 induction rest with
 |nil=>
  intro i1 b7 aq h;rw[oP]at h;refine aM fun N1 bw bn=>?_
  exact((aU.ge aR.c aq).a [.hl 0 [1] []]).ex hΓ bw (cY b7 h)
 |cons bD bg ih1=>
  intro i1 b7 aq h;rw[oP]at h;refine aM fun N1 bw bn=>?_
  obtain⟨lI,h23,h⟩:=aD h;have dH:=(((aU.lt aR.c aq).l (av aR.c 2 (dc aq) rfl)).g (LB h23))
  obtain⟨h24,h⟩|⟨h24,h⟩:=aK h
  ·cases h;exact(dH.b h24).ret hΓ
  ·exact((dH.b h24).a [.cn [0,1,5] []]).ct hΓ bn (iS aq hm1) (ih1 (i1+1) lI (dn aq) h)
theorem JF{aB:aT}{aV:Int}{r:Int}(h:wA aB aV=some r):Good prog 272 [D.sl (aB.map aR.c),D.int .i64 aV] (D.int .i64 r):=by
 refine gd func272 [[none]] 27 fun hr Γ hΓ=>?_
 rw[wA]at h;obtain⟨h1,h⟩|⟨h1,h⟩:=aK h
 ·cases h;exact(aU.b h1).ret hΓ
 ·refine((aU.b h1).a [.cn [0,1,5] []]).lp hΓ (LA hΓ (fun cK h=>?_) (by have:=(dU.sl (hr _ (aC (i:=0) rfl))).1;simpa using this) aB 0 (IntKind.i64.wrap (aV-((aB.map aR.c).length:Int))) rfl h);have h:=aG h;subst h;exact aU.ret hΓ
def tG(aB:aI)(aV:Int):Option Int:=((qE aB.facts aV).bind fun y1=>(bif decide ((y1:Int)<0)then(some (-1))else((wA aB.bind y1).bind fun y4=>(bif decide ((y4:Int)<0)then(some (-1))else(some y4)))))
theorem JI{aB:aI}{aV:Int}{r:Int}(h:tG aB aV=some r):Good prog 241 [D.agg (aI.c aB),D.int .i64 aV] (D.int .i64 r):=by
 refine gd func241 [[none]] 18 fun hr Γ hΓ=>?_
 rw[tG]at h;obtain⟨y1,h2,h⟩:=aD h;obtain⟨h3,h⟩|⟨h3,h⟩:=aK h
 ·cases h;exact((aU.g (sE h2)).b h3).ret hΓ
 ·obtain⟨y4,h5,h⟩:=aD h;have k7:=(((aU.g (sE h2)).b h3).g (JF h5))
  obtain⟨h6,h⟩|⟨h6,h⟩:=aK h
  ·cases h;exact(k7.b h6).ret hΓ
  ·have h:=aG h;subst h;exact(k7.b h6).ret hΓ
def nG(aB:ah)(k1:Int->Option Int):ah->Nat->Int->Option Int
 | [],i1,b7=>(k1 b7)
 |bD::bg,i1,b7=>((tG bD b7).bind fun lI=>(bif decide ((lI:Int)<0)then(some (-1))else(nG aB k1 bg (i1+1) lI)))
def uO(aB:ah)(aV:Int):Option Int:=(bif decide ((IntKind.i64.wrap (aV-((aB.map aI.c).length:Int)):Int)<0)then(some (-1))else(nG aB (fun(cK:Int)=>(some cK)) aB 0 (IntKind.i64.wrap (aV-((aB.map aI.c).length:Int)))))
def LF(aB:ah)(b7:Int)(cT:Int):St:=⟨[(0,D.sl (aB.map aI.c)),(1,D.int .i64 b7),(5,D.int .i64 cT)],[]⟩
theorem JH(hΓ:Γ.nt=27){aB:ah}{r:Int}{k1:Int->Option Int}(cY:∀(cK:Int),k1 cK=some r->Ax Γ N f174 (.q [[none]] (D.int .i64 r)) [1,1,1,1] ⟨[(1,D.int .i64 cK)],[]⟩)(hm1:aB.length<=maxLen):∀(rest:ah) (i1:Nat) (b7:Int),aB.drop i1=rest->nG aB k1 rest i1 b7=some r->Ar Γ N f174 (.q [[none]] (D.int .i64 r)) [1,1,1,0,1,0] (rest.length+1) (LF aB b7 (i1:Int)):=by
 intro rest
 induction rest with
 |nil=>
  intro i1 b7 aq h;rw[nG]at h;refine aM fun N1 bw bn=>?_
  exact((aU.ge aI.c aq).a [.hl 0 [1] []]).ex hΓ bw (cY b7 h)
 |cons bD bg ih1=>
  intro i1 b7 aq h;rw[nG]at h;refine aM fun N1 bw bn=>?_
  obtain⟨lI,h23,h⟩:=aD h;have dH:=(((aU.lt aI.c aq).l (av aI.c 2 (dc aq) rfl)).g (JI h23))
  obtain⟨h24,h⟩|⟨h24,h⟩:=aK h
  ·cases h;exact(dH.b h24).ret hΓ
  ·exact((dH.b h24).a [.cn [0,1,5] []]).ct hΓ bn (iS aq hm1) (ih1 (i1+1) lI (dn aq) h)
theorem H9{aB:ah}{aV:Int}{r:Int}(h:uO aB aV=some r):Good prog 174 [D.sl (aB.map aI.c),D.int .i64 aV] (D.int .i64 r):=by
 refine gd func174 [[none]] 27 fun hr Γ hΓ=>?_
 rw[uO]at h;obtain⟨h1,h⟩|⟨h1,h⟩:=aK h
 ·cases h;exact(aU.b h1).ret hΓ
 ·refine((aU.b h1).a [.cn [0,1,5] []]).lp hΓ (JH hΓ (fun cK h=>?_) (by have:=(dU.sl (hr _ (aC (i:=0) rfl))).1;simpa using this) aB 0 (IntKind.i64.wrap (aV-((aB.map aI.c).length:Int))) rfl h);have h:=aG h;subst h;exact aU.ret hΓ
def uy(aB:Node)(aV:Int):Option Int:=((rR aB.cond aV).bind fun y1=>(bif decide ((y1:Int)<0)then(some (-1))else((uO aB.tokens y1).bind fun y4=>(bif decide ((y4:Int)<0)then(some (-1))else(some y4)))))
theorem L9{aB:Node}{aV:Int}{r:Int}(h:uy aB aV=some r):Good prog 101 [D.agg (Node.c aB),D.int .i64 aV] (D.int .i64 r):=by
 refine gd func101 [[none]] 18 fun hr Γ hΓ=>?_
 rw[uy]at h;obtain⟨y1,h2,h⟩:=aD h;obtain⟨h3,h⟩|⟨h3,h⟩:=aK h
 ·cases h;exact((aU.g (xm h2)).b h3).ret hΓ
 ·obtain⟨y4,h5,h⟩:=aD h;have k7:=(((aU.g (xm h2)).b h3).g (H9 h5))
  obtain⟨h6,h⟩|⟨h6,h⟩:=aK h
  ·cases h;exact(k7.b h6).ret hΓ
  ·have h:=aG h;subst h;exact(k7.b h6).ret hΓ
def oO(aB:az)(k1:Int->Option Int):az->Nat->Int->Option Int
 | [],i1,b7=>(k1 b7)
 |bD::bg,i1,b7=>((uy bD b7).bind fun lI=>(bif decide ((lI:Int)<0)then(some (-1))else(oO aB k1 bg (i1+1) lI)))
def w9(aB:az)(aV:Int):Option Int:=(bif decide ((IntKind.i64.wrap (aV-((aB.map Node.c).length:Int)):Int)<0)then(some (-1))else(oO aB (fun(cK:Int)=>(some cK)) aB 0 (IntKind.i64.wrap (aV-((aB.map Node.c).length:Int)))))
def Mj(aB:az)(b7:Int)(cT:Int):St:=⟨[(0,D.sl (aB.map Node.c)),(1,D.int .i64 b7),(5,D.int .i64 cT)],[]⟩
theorem L8(hΓ:Γ.nt=27){aB:az}{r:Int}{k1:Int->Option Int}(cY:∀(cK:Int),k1 cK=some r->Ax Γ N f48 (.q [[none]] (D.int .i64 r)) [1,1,1,1] ⟨[(1,D.int .i64 cK)],[]⟩)(hm1:aB.length<=maxLen):∀(rest:az) (i1:Nat) (b7:Int),aB.drop i1=rest->oO aB k1 rest i1 b7=some r->Ar Γ N f48 (.q [[none]] (D.int .i64 r)) [1,1,1,0,1,0] (rest.length+1) (Mj aB b7 (i1:Int)):=by
 intro rest
 induction rest with
 |nil=>
  intro i1 b7 aq h;rw[oO]at h;refine aM fun N1 bw bn=>?_
  exact((aU.ge Node.c aq).a [.hl 0 [1] []]).ex hΓ bw (cY b7 h)
 |cons bD bg ih1=>
  intro i1 b7 aq h;rw[oO]at h;refine aM fun N1 bw bn=>?_
  obtain⟨lI,h23,h⟩:=aD h;have dH:=(((aU.lt Node.c aq).l (av Node.c 8 (dc aq) rfl)).g (L9 h23))
  obtain⟨h24,h⟩|⟨h24,h⟩:=aK h
  ·cases h;exact(dH.b h24).ret hΓ
  ·exact((dH.b h24).a [.cn [0,1,5] []]).ct hΓ bn (iS aq hm1) (ih1 (i1+1) lI (dn aq) h)
theorem JE{aB:az}{aV:Int}{r:Int}(h:w9 aB aV=some r):Good prog 48 [D.sl (aB.map Node.c),D.int .i64 aV] (D.int .i64 r):=by
 refine gd func48 [[none]] 27 fun hr Γ hΓ=>?_
 rw[w9]at h;obtain⟨h1,h⟩|⟨h1,h⟩:=aK h
 ·cases h;exact(aU.b h1).ret hΓ
 ·refine((aU.b h1).a [.cn [0,1,5] []]).lp hΓ (L8 hΓ (fun cK h=>?_) (by have:=(dU.sl (hr _ (aC (i:=0) rfl))).1;simpa using this) aB 0 (IntKind.i64.wrap (aV-((aB.map Node.c).length:Int))) rfl h);have h:=aG h;subst h;exact aU.ret hΓ
def tF(aB:aF)(aV:Int):Option Int:=((wB aB.rules aV).bind fun y1=>(bif decide ((y1:Int)<0)then(some (-1))else((xN aB.ends y1).bind fun y4=>(bif decide ((y4:Int)<0)then(some (-1))else((uN aB.ay y4).bind fun y7=>(bif decide ((y7:Int)<0)then(some (-1))else((w9 aB.nodes y7).bind fun Oj=>(bif decide ((Oj:Int)<0)then(some (-1))else((qE aB.facts Oj).bind fun s8=>(bif decide ((s8:Int)<0)then(some (-1))else(some s8)))))))))))
theorem zE{aB:aF}{aV:Int}{r:Int}(h:tF aB aV=some r):Good prog 11 [D.agg (aF.c aB),D.int .i64 aV] (D.int .i64 r):=by
 refine gd func11 [[none]] 36 fun hr Γ hΓ=>?_
 rw[tF]at h;obtain⟨y1,h2,h⟩:=aD h;obtain⟨h3,h⟩|⟨h3,h⟩:=aK h
 ·cases h;exact((aU.g (Av h2)).b h3).ret hΓ
 ·obtain⟨y4,h5,h⟩:=aD h;have k7:=(((aU.g (Av h2)).b h3).g (L7 h5))
  obtain⟨h6,h⟩|⟨h6,h⟩:=aK h
  ·cases h;exact(k7.b h6).ret hΓ
  ·obtain⟨y7,h8,h⟩:=aD h;have dH:=((k7.b h6).g (H7 h8))
   obtain⟨h9,h⟩|⟨h9,h⟩:=aK h
   ·cases h;exact(dH.b h9).ret hΓ
   ·obtain⟨Oj,h11,h⟩:=aD h;have jU:=((dH.b h9).g (JE h11))
    obtain⟨h12,h⟩|⟨h12,h⟩:=aK h
    ·cases h;exact(jU.b h12).ret hΓ
    ·obtain⟨s8,h14,h⟩:=aD h;have iU:=((jU.b h12).g (sE h14))
     obtain⟨h15,h⟩|⟨h15,h⟩:=aK h
     ·cases h;exact(iU.b h15).ret hΓ
     ·have h:=aG h;subst h;exact(iU.b h15).ret hΓ
end Go.Cx
namespace Go.Cx
open Go.RowKit Go.Proofs Tryz
set_option maxRecDepth 100000
variable{Γ:vY}{N:Nat->St->Prop}
def jb(aB:aJ)(k1:aJ->Option aJ):aJ->Nat->aJ->Option aJ
 | [],i1,bC=>(k1 bC)
 |bD::bg,i1,bC=>(bif decide (i1<(bC.map tx).length)then(((bC)[i1]?).bind fun x30=>(jb aB k1 bg (i1+1) (bC.set i1 bD)))else none)
def pq(aB:aJ):Option aJ:=(bif Cd ((aB.map tx).length:Int) 16 then(jb aB (fun(bO:aJ)=>(some bO)) aB 0 (List.replicate ((aB.map tx).length:Int).toNat ([]:Bytes)))else none)
def x9(aB:aJ)(W0:List aS)(cT:Int):St:=⟨[(0,D.sl (aB.map tx)),(3,D.acc 0),(4,D.int .i64 cT)],[Ob.row .uq 9 1 W0]⟩
theorem HD(hΓ:Γ.nt=22){aB:aJ}{r:aJ}{k1:aJ->Option aJ}(cY:∀(bO:aJ),k1 bO=some r->Ax Γ N f70 (.q [[some (9,1)]] (D.fr 9 1 (r.map tx))) [1,1,1] ⟨[(3,D.acc 0)],[Ob.row .uq 9 1 (bO.map tx)]⟩)(hm1:aB.length<=maxLen):∀(rest:aJ) (i1:Nat) (bC:aJ),aB.drop i1=rest->jb aB k1 rest i1 bC=some r->Ar Γ N f70 (.q [[some (9,1)]] (D.fr 9 1 (r.map tx))) [1,1,0,1,0] (rest.length+1) (x9 aB (bC.map tx) (i1:Int)):=by
 intro rest
 induction rest with
 |nil=>
  intro i1 bC aq h;rw[jb]at h;refine aM fun N1 bw bn=>?_
  exact((aU.ge tx aq).a [.hl 0 [3] [0]]).ex hΓ bw (cY bC h)
 |cons bD bg ih1=>
  intro i1 bC aq h;rw[jb]at h;refine aM fun N1 bw bn=>?_
  obtain⟨h29,h⟩:=bV h;obtain⟨x30,h31,h⟩:=aD h;exact(((((aU.lt tx aq).l (av tx 1 (dc aq) rfl)).i (zR 1 h29)).w (show(bC.map tx)[i1]?=some [D.str x30]from dB tx h31)).a [.row [D.str x30],.cn [0,3,4] [0]]).cs hΓ bn (x9 aB ((bC.map tx).set i1 [D.str bD]) (IntKind.i64.wrap ((i1:Int)+1))) (by first| (simp only[iS aq hm1,mA]<;>rfl)| (simp only[iS aq hm1,mA,aE.c,aR.c,aN.c,Action.c,aO.c,aI.c,cr.c,aQ.c,Node.c,aF.c,cv.c]<;>rfl)) (ih1 (i1+1) (bC.set i1 bD) (dn aq) h)
theorem zG{aB:aJ}{r:aJ}(h:pq aB=some r):Good prog 70 [D.sl (aB.map tx)] (D.fr 9 1 (r.map tx)):=by
 refine gd func70 [[some (9,1)]] 22 fun hr Γ hΓ=>?_
 rw[pq]at h;obtain⟨h1,h⟩:=bV h;refine((aU.w (xX h1)).a [.cn [0,3,4] [0]]).Ww hΓ (x9 aB (List.replicate ((aB.map tx).length:Int).toNat [D.str ([])]) 0) (by first| (simp only[mA]<;>rfl)| (simp only[mA,aE.c,aR.c,aN.c,Action.c,aO.c,aI.c,cr.c,aQ.c,Node.c,aF.c,cv.c]<;>rfl)) (HD hΓ (fun bO h=>?_) (by have:=(dU.sl (hr _ (aC (i:=0) rfl))).1;simpa using this) aB 0 (List.replicate ((aB.map tx).length:Int).toNat ([]:Bytes)) rfl h);have h:=aG h;subst h;exact aU.ret hΓ
def nJ(aB:aE):Option aE:=((pq aB.args).bind fun y1=>(some (⟨aB.rel,y1⟩:aE)))
theorem vQ{aB:aE}{r:aE}(h:nJ aB=some r):Good prog 179 [D.agg (aE.c aB)] (D.agg [D.str r.rel,D.fr 9 1 (r.args.map tx)]):=by
 refine gd func179 [[none,some (9,1)]] 12 fun hr Γ hΓ=>?_
 rw[nJ]at h;obtain⟨y1,h2,h⟩:=aD h;cases h;exact(aU.g (zG h2)).ret hΓ
def rT(aB:aN):Option aN:=((nJ aB.pat).bind fun y1=>(some (⟨aB.kind,y1,aB.left,aB.right⟩:aN)))
theorem Bs{aB:aN}{r:aN}(h:rT aB=some r):Good prog 180 [D.agg (aN.c aB)] (D.agg [D.int .i64 r.kind,D.str r.pat.rel,D.fr 9 1 (r.pat.args.map tx),D.str r.left,D.str r.right]):=by
 refine gd func180 [[none,none,some (9,1),none,none]] 18 fun hr Γ hΓ=>?_
 rw[rT]at h;obtain⟨y1,h2,h⟩:=aD h;cases h;exact(aU.g (vQ h2)).ret hΓ
def oR(aB:aj)(k1:aj->Option aj):aj->Nat->aj->Option aj
 | [],i1,bC=>(k1 bC)
 |bD::bg,i1,bC=>((rT bD).bind fun o4=>(bif decide (i1<(bC.map aN.c).length)then(((bC)[i1]?).bind fun x44=>(oR aB k1 bg (i1+1) (bC.set i1 o4)))else none))
def wC(aB:aj):Option aj:=(bif Cd ((aB.map aN.c).length:Int) 80 then(oR aB (fun(bO:aj)=>(some bO)) aB 0 (List.replicate ((aB.map aN.c).length:Int).toNat (⟨(0:Int),(⟨([]:Bytes),[]⟩:aE),([]:Bytes),([]:Bytes)⟩:aN)))else none)
def yZ(aB:aj)(W0:List aS)(cT:Int):St:=⟨[(0,D.sl (aB.map aN.c)),(3,D.acc 0),(4,D.int .i64 cT)],[Ob.row .uq 115 5 W0]⟩
theorem LG(hΓ:Γ.nt=23){aB:aj}{r:aj}{k1:aj->Option aj}(cY:∀(bO:aj),k1 bO=some r->Ax Γ N f140 (.q [[some (115,5)]] (D.fr 115 5 (r.map aN.c))) [1,1,1] ⟨[(3,D.acc 0)],[Ob.row .uq 115 5 (bO.map aN.c)]⟩)(hm1:aB.length<=maxLen):∀(rest:aj) (i1:Nat) (bC:aj),aB.drop i1=rest->oR aB k1 rest i1 bC=some r->Ar Γ N f140 (.q [[some (115,5)]] (D.fr 115 5 (r.map aN.c))) [1,1,0,1,0] (rest.length+1) (yZ aB (bC.map aN.c) (i1:Int)):=by
 intro rest
 induction rest with
 |nil=>
  intro i1 bC aq h;rw[oR]at h;refine aM fun N1 bw bn=>?_
  exact((aU.ge aN.c aq).a [.hl 0 [3] [0]]).ex hΓ bw (cY bC h)
 |cons bD bg ih1=>
  intro i1 bC aq h;rw[oR]at h;refine aM fun N1 bw bn=>?_
  obtain⟨o4,h42,h⟩:=aD h;obtain⟨h43,h⟩:=bV h;obtain⟨x44,h45,h⟩:=aD h;exact((((((aU.lt aN.c aq).l (av aN.c 5 (dc aq) rfl)).g (Bs h42)).i (zR 5 h43)).w (show(bC.map aN.c)[i1]?=some [D.int .i64 x44.kind,D.str x44.pat.rel,D.sl (x44.pat.args.map tx),D.str x44.left,D.str x44.right]from dB aN.c h45)).a [.row [D.int .i64 x44.kind,D.str x44.pat.rel,D.sl (x44.pat.args.map tx),D.str x44.left,D.str x44.right],.cn [0,3,4] [0]]).cs hΓ bn (yZ aB ((bC.map aN.c).set i1 [D.int .i64 o4.kind,D.str o4.pat.rel,D.sl (o4.pat.args.map tx),D.str o4.left,D.str o4.right]) (IntKind.i64.wrap ((i1:Int)+1))) (by first| (simp only[iS aq hm1,mA]<;>rfl)| (simp only[iS aq hm1,mA,aE.c,aR.c,aN.c,Action.c,aO.c,aI.c,cr.c,aQ.c,Node.c,aF.c,cv.c]<;>rfl)) (ih1 (i1+1) (bC.set i1 o4) (dn aq) h)
theorem JL{aB:aj}{r:aj}(h:wC aB=some r):Good prog 140 [D.sl (aB.map aN.c)] (D.fr 115 5 (r.map aN.c)):=by
 refine gd func140 [[some (115,5)]] 23 fun hr Γ hΓ=>?_
 rw[wC]at h;obtain⟨h1,h⟩:=bV h;refine((aU.w (xX h1)).a [.cn [0,3,4] [0]]).Ww hΓ (yZ aB (List.replicate ((aB.map aN.c).length:Int).toNat [D.int .i64 0,D.str ([]),D.sl ([]),D.str ([]),D.str ([])]) 0) (by first| (simp only[mA]<;>rfl)| (simp only[mA,aE.c,aR.c,aN.c,Action.c,aO.c,aI.c,cr.c,aQ.c,Node.c,aF.c,cv.c]<;>rfl)) (LG hΓ (fun bO h=>?_) (by have:=(dU.sl (hr _ (aC (i:=0) rfl))).1;simpa using this) aB 0 (List.replicate ((aB.map aN.c).length:Int).toNat (⟨(0:Int),(⟨([]:Bytes),[]⟩:aE),([]:Bytes),([]:Bytes)⟩:aN)) rfl h);have h:=aG h;subst h;exact aU.ret hΓ
def ql(aB:Action):Option Action:=((nJ aB.pat).bind fun y1=>(some (⟨aB.kind,y1⟩:Action)))
theorem HB{aB:Action}{r:Action}(h:ql aB=some r):Good prog 210 [D.agg (Action.c aB)] (D.agg [D.int .i64 r.kind,D.str r.pat.rel,D.fr 9 1 (r.pat.args.map tx)]):=by
 refine gd func210 [[none,none,some (9,1)]] 12 fun hr Γ hΓ=>?_
 rw[ql]at h;obtain⟨y1,h2,h⟩:=aD h;cases h;exact(aU.g (vQ h2)).ret hΓ
def mO(aB:bz)(k1:bz->Option bz):bz->Nat->bz->Option bz
 | [],i1,bC=>(k1 bC)
 |bD::bg,i1,bC=>((ql bD).bind fun o4=>(bif decide (i1<(bC.map Action.c).length)then(((bC)[i1]?).bind fun x44=>(mO aB k1 bg (i1+1) (bC.set i1 o4)))else none))
def tH(aB:bz):Option bz:=(bif Cd ((aB.map Action.c).length:Int) 48 then(mO aB (fun(bO:bz)=>(some bO)) aB 0 (List.replicate ((aB.map Action.c).length:Int).toNat (⟨(0:Int),(⟨([]:Bytes),[]⟩:aE)⟩:Action)))else none)
def x7(aB:bz)(W0:List aS)(cT:Int):St:=⟨[(0,D.sl (aB.map Action.c)),(3,D.acc 0),(4,D.int .i64 cT)],[Ob.row .uq 199 3 W0]⟩
theorem HA(hΓ:Γ.nt=23){aB:bz}{r:bz}{k1:bz->Option bz}(cY:∀(bO:bz),k1 bO=some r->Ax Γ N f141 (.q [[some (199,3)]] (D.fr 199 3 (r.map Action.c))) [1,1,1] ⟨[(3,D.acc 0)],[Ob.row .uq 199 3 (bO.map Action.c)]⟩)(hm1:aB.length<=maxLen):∀(rest:bz) (i1:Nat) (bC:bz),aB.drop i1=rest->mO aB k1 rest i1 bC=some r->Ar Γ N f141 (.q [[some (199,3)]] (D.fr 199 3 (r.map Action.c))) [1,1,0,1,0] (rest.length+1) (x7 aB (bC.map Action.c) (i1:Int)):=by
 intro rest
 induction rest with
 |nil=>
  intro i1 bC aq h;rw[mO]at h;refine aM fun N1 bw bn=>?_
  exact((aU.ge Action.c aq).a [.hl 0 [3] [0]]).ex hΓ bw (cY bC h)
 |cons bD bg ih1=>
  intro i1 bC aq h;rw[mO]at h;refine aM fun N1 bw bn=>?_
  obtain⟨o4,h42,h⟩:=aD h;obtain⟨h43,h⟩:=bV h;obtain⟨x44,h45,h⟩:=aD h;exact((((((aU.lt Action.c aq).l (av Action.c 3 (dc aq) rfl)).g (HB h42)).i (zR 3 h43)).w (show(bC.map Action.c)[i1]?=some [D.int .i64 x44.kind,D.str x44.pat.rel,D.sl (x44.pat.args.map tx)]from dB Action.c h45)).a [.row [D.int .i64 x44.kind,D.str x44.pat.rel,D.sl (x44.pat.args.map tx)],.cn [0,3,4] [0]]).cs hΓ bn (x7 aB ((bC.map Action.c).set i1 [D.int .i64 o4.kind,D.str o4.pat.rel,D.sl (o4.pat.args.map tx)]) (IntKind.i64.wrap ((i1:Int)+1))) (by first| (simp only[iS aq hm1,mA]<;>rfl)| (simp only[iS aq hm1,mA,aE.c,aR.c,aN.c,Action.c,aO.c,aI.c,cr.c,aQ.c,Node.c,aF.c,cv.c]<;>rfl)) (ih1 (i1+1) (bC.set i1 o4) (dn aq) h)
theorem Ff{aB:bz}{r:bz}(h:tH aB=some r):Good prog 141 [D.sl (aB.map Action.c)] (D.fr 199 3 (r.map Action.c)):=by
 refine gd func141 [[some (199,3)]] 23 fun hr Γ hΓ=>?_
 rw[tH]at h;obtain⟨h1,h⟩:=bV h;refine((aU.w (xX h1)).a [.cn [0,3,4] [0]]).Ww hΓ (x7 aB (List.replicate ((aB.map Action.c).length:Int).toNat [D.int .i64 0,D.str ([]),D.sl ([])]) 0) (by first| (simp only[mA]<;>rfl)| (simp only[mA,aE.c,aR.c,aN.c,Action.c,aO.c,aI.c,cr.c,aQ.c,Node.c,aF.c,cv.c]<;>rfl)) (HA hΓ (fun bO h=>?_) (by have:=(dU.sl (hr _ (aC (i:=0) rfl))).1;simpa using this) aB 0 (List.replicate ((aB.map Action.c).length:Int).toNat (⟨(0:Int),(⟨([]:Bytes),[]⟩:aE)⟩:Action)) rfl h);have h:=aG h;subst h;exact aU.ret hΓ
def vC(aB:aO):Option aO:=((wC aB.conds).bind fun y1=>((tH aB.cu).bind fun y3=>(some (⟨aB.name,aB.prio,y1,y3⟩:aO))))
theorem LO{aB:aO}{r:aO}(h:vC aB=some r):Good prog 81 [D.agg (aO.c aB)] (D.agg [D.str r.name,D.int .i64 r.prio,D.fr 115 5 (r.conds.map aN.c),D.fr 199 3 (r.cu.map Action.c)]):=by
 refine gd func81 [[none,none,some (115,5),some (199,3)]] 19 fun hr Γ hΓ=>?_
 rw[vC]at h;obtain⟨y1,h2,h⟩:=aD h;obtain⟨y3,h4,h⟩:=aD h;cases h;exact((aU.g (JL h2)).g (Ff h4)).ret hΓ
def oV(aB:au)(k1:au->Option au):au->Nat->au->Option au
 | [],i1,bC=>(k1 bC)
 |bD::bg,i1,bC=>((vC bD).bind fun o4=>(bif decide (i1<(bC.map aO.c).length)then(((bC)[i1]?).bind fun x44=>(oV aB k1 bg (i1+1) (bC.set i1 o4)))else none))
def wF(aB:au):Option au:=(bif Cd ((aB.map aO.c).length:Int) 72 then(oV aB (fun(bO:au)=>(some bO)) aB 0 (List.replicate ((aB.map aO.c).length:Int).toNat (⟨([]:Bytes),(0:Int),[],[]⟩:aO)))else none)
def yd(aB:au)(W0:List aS)(cT:Int):St:=⟨[(0,D.sl (aB.map aO.c)),(3,D.acc 0),(4,D.int .i64 cT)],[Ob.row .uq 105 4 W0]⟩
theorem LN(hΓ:Γ.nt=23){aB:au}{r:au}{k1:au->Option au}(cY:∀(bO:au),k1 bO=some r->Ax Γ N f35 (.q [[some (105,4)]] (D.fr 105 4 (r.map aO.c))) [1,1,1] ⟨[(3,D.acc 0)],[Ob.row .uq 105 4 (bO.map aO.c)]⟩)(hm1:aB.length<=maxLen):∀(rest:au) (i1:Nat) (bC:au),aB.drop i1=rest->oV aB k1 rest i1 bC=some r->Ar Γ N f35 (.q [[some (105,4)]] (D.fr 105 4 (r.map aO.c))) [1,1,0,1,0] (rest.length+1) (yd aB (bC.map aO.c) (i1:Int)):=by
 intro rest
 induction rest with
 |nil=>
  intro i1 bC aq h;rw[oV]at h;refine aM fun N1 bw bn=>?_
  exact((aU.ge aO.c aq).a [.hl 0 [3] [0]]).ex hΓ bw (cY bC h)
 |cons bD bg ih1=>
  intro i1 bC aq h;rw[oV]at h;refine aM fun N1 bw bn=>?_
  obtain⟨o4,h42,h⟩:=aD h;obtain⟨h43,h⟩:=bV h;obtain⟨x44,h45,h⟩:=aD h;exact((((((aU.lt aO.c aq).l (av aO.c 4 (dc aq) rfl)).g (LO h42)).i (zR 4 h43)).w (show(bC.map aO.c)[i1]?=some [D.str x44.name,D.int .i64 x44.prio,D.sl (x44.conds.map aN.c),D.sl (x44.cu.map Action.c)]from dB aO.c h45)).a [.row [D.str x44.name,D.int .i64 x44.prio,D.sl (x44.conds.map aN.c),D.sl (x44.cu.map Action.c)],.cn [0,3,4] [0]]).cs hΓ bn (yd aB ((bC.map aO.c).set i1 [D.str o4.name,D.int .i64 o4.prio,D.sl (o4.conds.map aN.c),D.sl (o4.cu.map Action.c)]) (IntKind.i64.wrap ((i1:Int)+1))) (by first| (simp only[iS aq hm1,mA]<;>rfl)| (simp only[iS aq hm1,mA,aE.c,aR.c,aN.c,Action.c,aO.c,aI.c,cr.c,aQ.c,Node.c,aF.c,cv.c]<;>rfl)) (ih1 (i1+1) (bC.set i1 o4) (dn aq) h)
theorem JO{aB:au}{r:au}(h:wF aB=some r):Good prog 35 [D.sl (aB.map aO.c)] (D.fr 105 4 (r.map aO.c)):=by
 refine gd func35 [[some (105,4)]] 23 fun hr Γ hΓ=>?_
 rw[wF]at h;obtain⟨h1,h⟩:=bV h;refine((aU.w (xX h1)).a [.cn [0,3,4] [0]]).Ww hΓ (yd aB (List.replicate ((aB.map aO.c).length:Int).toNat [D.str ([]),D.int .i64 0,D.sl ([]),D.sl ([])]) 0) (by first| (simp only[mA]<;>rfl)| (simp only[mA,aE.c,aR.c,aN.c,Action.c,aO.c,aI.c,cr.c,aQ.c,Node.c,aF.c,cv.c]<;>rfl)) (LN hΓ (fun bO h=>?_) (by have:=(dU.sl (hr _ (aC (i:=0) rfl))).1;simpa using this) aB 0 (List.replicate ((aB.map aO.c).length:Int).toNat (⟨([]:Bytes),(0:Int),[],[]⟩:aO)) rfl h);have h:=aG h;subst h;exact aU.ret hΓ
def nI(aB:bJ)(k1:bJ->Option bJ):bJ->Nat->bJ->Option bJ
 | [],i1,bC=>(k1 bC)
 |bD::bg,i1,bC=>(bif decide (i1<(bC.map di).length)then(((bC)[i1]?).bind fun x30=>(nI aB k1 bg (i1+1) (bC.set i1 bD)))else none)
def xO(aB:bJ):Option bJ:=(bif Cd ((aB.map di).length:Int) 8 then(nI aB (fun(bO:bJ)=>(some bO)) aB 0 (List.replicate ((aB.map di).length:Int).toNat (0:Int)))else none)
def zP(aB:bJ)(W0:List aS)(cT:Int):St:=⟨[(0,D.sl (aB.map di)),(3,D.acc 0),(4,D.int .i64 cT)],[Ob.row .uq 3 1 W0]⟩
theorem Mm(hΓ:Γ.nt=22){aB:bJ}{r:bJ}{k1:bJ->Option bJ}(cY:∀(bO:bJ),k1 bO=some r->Ax Γ N f50 (.q [[some (3,1)]] (D.fr 3 1 (r.map di))) [1,1,1] ⟨[(3,D.acc 0)],[Ob.row .uq 3 1 (bO.map di)]⟩)(hm1:aB.length<=maxLen):∀(rest:bJ) (i1:Nat) (bC:bJ),aB.drop i1=rest->nI aB k1 rest i1 bC=some r->Ar Γ N f50 (.q [[some (3,1)]] (D.fr 3 1 (r.map di))) [1,1,0,1,0] (rest.length+1) (zP aB (bC.map di) (i1:Int)):=by
 intro rest
 induction rest with
 |nil=>
  intro i1 bC aq h;rw[nI]at h;refine aM fun N1 bw bn=>?_
  exact((aU.ge di aq).a [.hl 0 [3] [0]]).ex hΓ bw (cY bC h)
 |cons bD bg ih1=>
  intro i1 bC aq h;rw[nI]at h;refine aM fun N1 bw bn=>?_
  obtain⟨h29,h⟩:=bV h;obtain⟨x30,h31,h⟩:=aD h;exact(((((aU.lt di aq).l (av di 1 (dc aq) rfl)).i (zR 1 h29)).w (show(bC.map di)[i1]?=some [D.int .i64 x30]from dB di h31)).a [.row [D.int .i64 x30],.cn [0,3,4] [0]]).cs hΓ bn (zP aB ((bC.map di).set i1 [D.int .i64 bD]) (IntKind.i64.wrap ((i1:Int)+1))) (by first| (simp only[iS aq hm1,mA]<;>rfl)| (simp only[iS aq hm1,mA,aE.c,aR.c,aN.c,Action.c,aO.c,aI.c,cr.c,aQ.c,Node.c,aF.c,cv.c]<;>rfl)) (ih1 (i1+1) (bC.set i1 bD) (dn aq) h)
theorem LI{aB:bJ}{r:bJ}(h:xO aB=some r):Good prog 50 [D.sl (aB.map di)] (D.fr 3 1 (r.map di)):=by
 refine gd func50 [[some (3,1)]] 22 fun hr Γ hΓ=>?_
 rw[xO]at h;obtain⟨h1,h⟩:=bV h;refine((aU.w (xX h1)).a [.cn [0,3,4] [0]]).Ww hΓ (zP aB (List.replicate ((aB.map di).length:Int).toNat [D.int .i64 0]) 0) (by first| (simp only[mA]<;>rfl)| (simp only[mA,aE.c,aR.c,aN.c,Action.c,aO.c,aI.c,cr.c,aQ.c,Node.c,aF.c,cv.c]<;>rfl)) (Mm hΓ (fun bO h=>?_) (by have:=(dU.sl (hr _ (aC (i:=0) rfl))).1;simpa using this) aB 0 (List.replicate ((aB.map di).length:Int).toNat (0:Int)) rfl h);have h:=aG h;subst h;exact aU.ret hΓ
def lK(aB:aE):Option aE:=((pq aB.args).bind fun y1=>(some (⟨aB.rel,y1⟩:aE)))
theorem qG{aB:aE}{r:aE}(h:lK aB=some r):Good prog 24 [D.agg (aE.c aB)] (D.agg [D.str r.rel,D.fr 9 1 (r.args.map tx)]):=by
 refine gd func24 [[none,some (9,1)]] 12 fun hr Γ hΓ=>?_
 rw[lK]at h;obtain⟨y1,h2,h⟩:=aD h;cases h;exact(aU.g (zG h2)).ret hΓ
def oS(aB:aP)(k1:aP->Option aP):aP->Nat->aP->Option aP
 | [],i1,bC=>(k1 bC)
 |bD::bg,i1,bC=>((lK bD).bind fun o4=>(bif decide (i1<(bC.map aE.c).length)then(((bC)[i1]?).bind fun x44=>(oS aB k1 bg (i1+1) (bC.set i1 o4)))else none))
def qF(aB:aP):Option aP:=(bif Cd ((aB.map aE.c).length:Int) 40 then(oS aB (fun(bO:aP)=>(some bO)) aB 0 (List.replicate ((aB.map aE.c).length:Int).toNat (⟨([]:Bytes),[]⟩:aE)))else none)
def ya(aB:aP)(W0:List aS)(cT:Int):St:=⟨[(0,D.sl (aB.map aE.c)),(3,D.acc 0),(4,D.int .i64 cT)],[Ob.row .uq 53 2 W0]⟩
theorem LH(hΓ:Γ.nt=23){aB:aP}{r:aP}{k1:aP->Option aP}(cY:∀(bO:aP),k1 bO=some r->Ax Γ N f15 (.q [[some (53,2)]] (D.fr 53 2 (r.map aE.c))) [1,1,1] ⟨[(3,D.acc 0)],[Ob.row .uq 53 2 (bO.map aE.c)]⟩)(hm1:aB.length<=maxLen):∀(rest:aP) (i1:Nat) (bC:aP),aB.drop i1=rest->oS aB k1 rest i1 bC=some r->Ar Γ N f15 (.q [[some (53,2)]] (D.fr 53 2 (r.map aE.c))) [1,1,0,1,0] (rest.length+1) (ya aB (bC.map aE.c) (i1:Int)):=by
 intro rest
 induction rest with
 |nil=>
  intro i1 bC aq h;rw[oS]at h;refine aM fun N1 bw bn=>?_
  exact((aU.ge aE.c aq).a [.hl 0 [3] [0]]).ex hΓ bw (cY bC h)
 |cons bD bg ih1=>
  intro i1 bC aq h;rw[oS]at h;refine aM fun N1 bw bn=>?_
  obtain⟨o4,h42,h⟩:=aD h;obtain⟨h43,h⟩:=bV h;obtain⟨x44,h45,h⟩:=aD h;exact((((((aU.lt aE.c aq).l (av aE.c 2 (dc aq) rfl)).g (qG h42)).i (zR 2 h43)).w (show(bC.map aE.c)[i1]?=some [D.str x44.rel,D.sl (x44.args.map tx)]from dB aE.c h45)).a [.row [D.str x44.rel,D.sl (x44.args.map tx)],.cn [0,3,4] [0]]).cs hΓ bn (ya aB ((bC.map aE.c).set i1 [D.str o4.rel,D.sl (o4.args.map tx)]) (IntKind.i64.wrap ((i1:Int)+1))) (by first| (simp only[iS aq hm1,mA]<;>rfl)| (simp only[iS aq hm1,mA,aE.c,aR.c,aN.c,Action.c,aO.c,aI.c,cr.c,aQ.c,Node.c,aF.c,cv.c]<;>rfl)) (ih1 (i1+1) (bC.set i1 o4) (dn aq) h)
theorem x8{aB:aP}{r:aP}(h:qF aB=some r):Good prog 15 [D.sl (aB.map aE.c)] (D.fr 53 2 (r.map aE.c)):=by
 refine gd func15 [[some (53,2)]] 23 fun hr Γ hΓ=>?_
 rw[qF]at h;obtain⟨h1,h⟩:=bV h;refine((aU.w (xX h1)).a [.cn [0,3,4] [0]]).Ww hΓ (ya aB (List.replicate ((aB.map aE.c).length:Int).toNat [D.str ([]),D.sl ([])]) 0) (by first| (simp only[mA]<;>rfl)| (simp only[mA,aE.c,aR.c,aN.c,Action.c,aO.c,aI.c,cr.c,aQ.c,Node.c,aF.c,cv.c]<;>rfl)) (LH hΓ (fun bO h=>?_) (by have:=(dU.sl (hr _ (aC (i:=0) rfl))).1;simpa using this) aB 0 (List.replicate ((aB.map aE.c).length:Int).toNat (⟨([]:Bytes),[]⟩:aE)) rfl h);have h:=aG h;subst h;exact aU.ret hΓ
def tI(aB:aQ):Option aQ:=((nJ aB.shape).bind fun y1=>((qF aB.facts).bind fun y3=>(some (⟨y1,y3⟩:aQ))))
theorem JK{aB:aQ}{r:aQ}(h:tI aB=some r):Good prog 107 [D.agg (aQ.c aB)] (D.agg [D.str r.shape.rel,D.fr 9 1 (r.shape.args.map tx),D.fr 53 2 (r.facts.map aE.c)]):=by
 refine gd func107 [[none,some (9,1),some (53,2)]] 13 fun hr Γ hΓ=>?_
 rw[tI]at h;obtain⟨y1,h2,h⟩:=aD h;obtain⟨y3,h4,h⟩:=aD h;cases h;exact((aU.g (vQ h2)).g (x8 h4)).ret hΓ
def nH(aB:b8)(k1:b8->Option b8):b8->Nat->b8->Option b8
 | [],i1,bC=>(k1 bC)
 |bD::bg,i1,bC=>((tI bD).bind fun o4=>(bif decide (i1<(bC.map aQ.c).length)then(((bC)[i1]?).bind fun x44=>(nH aB k1 bg (i1+1) (bC.set i1 o4)))else none))
def uP(aB:b8):Option b8:=(bif Cd ((aB.map aQ.c).length:Int) 64 then(nH aB (fun(bO:b8)=>(some bO)) aB 0 (List.replicate ((aB.map aQ.c).length:Int).toNat (⟨(⟨([]:Bytes),[]⟩:aE),[]⟩:aQ)))else none)
def xo(aB:b8)(W0:List aS)(cT:Int):St:=⟨[(0,D.sl (aB.map aQ.c)),(3,D.acc 0),(4,D.int .i64 cT)],[Ob.row .uq 111 3 W0]⟩
theorem JJ(hΓ:Γ.nt=23){aB:b8}{r:b8}{k1:b8->Option b8}(cY:∀(bO:b8),k1 bO=some r->Ax Γ N f51 (.q [[some (111,3)]] (D.fr 111 3 (r.map aQ.c))) [1,1,1] ⟨[(3,D.acc 0)],[Ob.row .uq 111 3 (bO.map aQ.c)]⟩)(hm1:aB.length<=maxLen):∀(rest:b8) (i1:Nat) (bC:b8),aB.drop i1=rest->nH aB k1 rest i1 bC=some r->Ar Γ N f51 (.q [[some (111,3)]] (D.fr 111 3 (r.map aQ.c))) [1,1,0,1,0] (rest.length+1) (xo aB (bC.map aQ.c) (i1:Int)):=by
 intro rest
 induction rest with
 |nil=>
  intro i1 bC aq h;rw[nH]at h;refine aM fun N1 bw bn=>?_
  exact((aU.ge aQ.c aq).a [.hl 0 [3] [0]]).ex hΓ bw (cY bC h)
 |cons bD bg ih1=>
  intro i1 bC aq h;rw[nH]at h;refine aM fun N1 bw bn=>?_
  obtain⟨o4,h42,h⟩:=aD h;obtain⟨h43,h⟩:=bV h;obtain⟨x44,h45,h⟩:=aD h;exact((((((aU.lt aQ.c aq).l (av aQ.c 3 (dc aq) rfl)).g (JK h42)).i (zR 3 h43)).w (show(bC.map aQ.c)[i1]?=some [D.str x44.shape.rel,D.sl (x44.shape.args.map tx),D.sl (x44.facts.map aE.c)]from dB aQ.c h45)).a [.row [D.str x44.shape.rel,D.sl (x44.shape.args.map tx),D.sl (x44.facts.map aE.c)],.cn [0,3,4] [0]]).cs hΓ bn (xo aB ((bC.map aQ.c).set i1 [D.str o4.shape.rel,D.sl (o4.shape.args.map tx),D.sl (o4.facts.map aE.c)]) (IntKind.i64.wrap ((i1:Int)+1))) (by first| (simp only[iS aq hm1,mA]<;>rfl)| (simp only[iS aq hm1,mA,aE.c,aR.c,aN.c,Action.c,aO.c,aI.c,cr.c,aQ.c,Node.c,aF.c,cv.c]<;>rfl)) (ih1 (i1+1) (bC.set i1 o4) (dn aq) h)
theorem HC{aB:b8}{r:b8}(h:uP aB=some r):Good prog 51 [D.sl (aB.map aQ.c)] (D.fr 111 3 (r.map aQ.c)):=by
 refine gd func51 [[some (111,3)]] 23 fun hr Γ hΓ=>?_
 rw[uP]at h;obtain⟨h1,h⟩:=bV h;refine((aU.w (xX h1)).a [.cn [0,3,4] [0]]).Ww hΓ (xo aB (List.replicate ((aB.map aQ.c).length:Int).toNat [D.str ([]),D.sl ([]),D.sl ([])]) 0) (by first| (simp only[mA]<;>rfl)| (simp only[mA,aE.c,aR.c,aN.c,Action.c,aO.c,aI.c,cr.c,aQ.c,Node.c,aF.c,cv.c]<;>rfl)) (JJ hΓ (fun bO h=>?_) (by have:=(dU.sl (hr _ (aC (i:=0) rfl))).1;simpa using this) aB 0 (List.replicate ((aB.map aQ.c).length:Int).toNat (⟨(⟨([]:Bytes),[]⟩:aE),[]⟩:aQ)) rfl h);have h:=aG h;subst h;exact aU.ret hΓ
def vB(aB:aR):Option aR:=(some aB)
theorem LM{aB:aR}{r:aR}(h:vB aB=some r):Good prog 284 [D.agg (aR.c aB)] (D.agg [D.str r.var,D.str r.value]):=by
 refine gd func284 [[none,none]] 11 fun hr Γ hΓ=>?_
 rw[vB]at h;have h:=aG h;subst h;exact aU.ret hΓ
def oU(aB:aT)(k1:aT->Option aT):aT->Nat->aT->Option aT
 | [],i1,bC=>(k1 bC)
 |bD::bg,i1,bC=>((vB bD).bind fun o4=>(bif decide (i1<(bC.map aR.c).length)then(((bC)[i1]?).bind fun x44=>(oU aB k1 bg (i1+1) (bC.set i1 o4)))else none))
def wE(aB:aT):Option aT:=(bif Cd ((aB.map aR.c).length:Int) 32 then(oU aB (fun(bO:aT)=>(some bO)) aB 0 (List.replicate ((aB.map aR.c).length:Int).toNat (⟨([]:Bytes),([]:Bytes)⟩:aR)))else none)
def yc(aB:aT)(W0:List aS)(cT:Int):St:=⟨[(0,D.sl (aB.map aR.c)),(3,D.acc 0),(4,D.int .i64 cT)],[Ob.row .uq 152 2 W0]⟩
theorem LL(hΓ:Γ.nt=23){aB:aT}{r:aT}{k1:aT->Option aT}(cY:∀(bO:aT),k1 bO=some r->Ax Γ N f273 (.q [[some (152,2)]] (D.fr 152 2 (r.map aR.c))) [1,1,1] ⟨[(3,D.acc 0)],[Ob.row .uq 152 2 (bO.map aR.c)]⟩)(hm1:aB.length<=maxLen):∀(rest:aT) (i1:Nat) (bC:aT),aB.drop i1=rest->oU aB k1 rest i1 bC=some r->Ar Γ N f273 (.q [[some (152,2)]] (D.fr 152 2 (r.map aR.c))) [1,1,0,1,0] (rest.length+1) (yc aB (bC.map aR.c) (i1:Int)):=by
 intro rest
 induction rest with
 |nil=>
  intro i1 bC aq h;rw[oU]at h;refine aM fun N1 bw bn=>?_
  exact((aU.ge aR.c aq).a [.hl 0 [3] [0]]).ex hΓ bw (cY bC h)
 |cons bD bg ih1=>
  intro i1 bC aq h;rw[oU]at h;refine aM fun N1 bw bn=>?_
  obtain⟨o4,h42,h⟩:=aD h;obtain⟨h43,h⟩:=bV h;obtain⟨x44,h45,h⟩:=aD h;exact((((((aU.lt aR.c aq).l (av aR.c 2 (dc aq) rfl)).g (LM h42)).i (zR 2 h43)).w (show(bC.map aR.c)[i1]?=some [D.str x44.var,D.str x44.value]from dB aR.c h45)).a [.row [D.str x44.var,D.str x44.value],.cn [0,3,4] [0]]).cs hΓ bn (yc aB ((bC.map aR.c).set i1 [D.str o4.var,D.str o4.value]) (IntKind.i64.wrap ((i1:Int)+1))) (by first| (simp only[iS aq hm1,mA]<;>rfl)| (simp only[iS aq hm1,mA,aE.c,aR.c,aN.c,Action.c,aO.c,aI.c,cr.c,aQ.c,Node.c,aF.c,cv.c]<;>rfl)) (ih1 (i1+1) (bC.set i1 o4) (dn aq) h)
theorem JN{aB:aT}{r:aT}(h:wE aB=some r):Good prog 273 [D.sl (aB.map aR.c)] (D.fr 152 2 (r.map aR.c)):=by
 refine gd func273 [[some (152,2)]] 23 fun hr Γ hΓ=>?_
 rw[wE]at h;obtain⟨h1,h⟩:=bV h;refine((aU.w (xX h1)).a [.cn [0,3,4] [0]]).Ww hΓ (yc aB (List.replicate ((aB.map aR.c).length:Int).toNat [D.str ([]),D.str ([])]) 0) (by first| (simp only[mA]<;>rfl)| (simp only[mA,aE.c,aR.c,aN.c,Action.c,aO.c,aI.c,cr.c,aQ.c,Node.c,aF.c,cv.c]<;>rfl)) (LL hΓ (fun bO h=>?_) (by have:=(dU.sl (hr _ (aC (i:=0) rfl))).1;simpa using this) aB 0 (List.replicate ((aB.map aR.c).length:Int).toNat (⟨([]:Bytes),([]:Bytes)⟩:aR)) rfl h);have h:=aG h;subst h;exact aU.ret hΓ
def tJ(aB:aI):Option aI:=((qF aB.facts).bind fun y1=>((wE aB.bind).bind fun y3=>(some (⟨y1,y3⟩:aI))))
theorem JQ{aB:aI}{r:aI}(h:tJ aB=some r):Good prog 243 [D.agg (aI.c aB)] (D.agg [D.fr 53 2 (r.facts.map aE.c),D.fr 152 2 (r.bind.map aR.c)]):=by
 refine gd func243 [[some (53,2),some (152,2)]] 13 fun hr Γ hΓ=>?_
 rw[tJ]at h;obtain⟨y1,h2,h⟩:=aD h;obtain⟨y3,h4,h⟩:=aD h;cases h;exact((aU.g (x8 h2)).g (JN h4)).ret hΓ
def nK(aB:ah)(k1:ah->Option ah):ah->Nat->ah->Option ah
 | [],i1,bC=>(k1 bC)
 |bD::bg,i1,bC=>((tJ bD).bind fun o4=>(bif decide (i1<(bC.map aI.c).length)then(((bC)[i1]?).bind fun x44=>(nK aB k1 bg (i1+1) (bC.set i1 o4)))else none))
def uQ(aB:ah):Option ah:=(bif Cd ((aB.map aI.c).length:Int) 48 then(nK aB (fun(bO:ah)=>(some bO)) aB 0 (List.replicate ((aB.map aI.c).length:Int).toNat (⟨[],[]⟩:aI)))else none)
def xp(aB:ah)(W0:List aS)(cT:Int):St:=⟨[(0,D.sl (aB.map aI.c)),(3,D.acc 0),(4,D.int .i64 cT)],[Ob.row .uq 124 2 W0]⟩
theorem JP(hΓ:Γ.nt=23){aB:ah}{r:ah}{k1:ah->Option ah}(cY:∀(bO:ah),k1 bO=some r->Ax Γ N f181 (.q [[some (124,2)]] (D.fr 124 2 (r.map aI.c))) [1,1,1] ⟨[(3,D.acc 0)],[Ob.row .uq 124 2 (bO.map aI.c)]⟩)(hm1:aB.length<=maxLen):∀(rest:ah) (i1:Nat) (bC:ah),aB.drop i1=rest->nK aB k1 rest i1 bC=some r->Ar Γ N f181 (.q [[some (124,2)]] (D.fr 124 2 (r.map aI.c))) [1,1,0,1,0] (rest.length+1) (xp aB (bC.map aI.c) (i1:Int)):=by
 intro rest
 induction rest with
 |nil=>
  intro i1 bC aq h;rw[nK]at h;refine aM fun N1 bw bn=>?_
  exact((aU.ge aI.c aq).a [.hl 0 [3] [0]]).ex hΓ bw (cY bC h)
 |cons bD bg ih1=>
  intro i1 bC aq h;rw[nK]at h;refine aM fun N1 bw bn=>?_
  obtain⟨o4,h42,h⟩:=aD h;obtain⟨h43,h⟩:=bV h;obtain⟨x44,h45,h⟩:=aD h;exact((((((aU.lt aI.c aq).l (av aI.c 2 (dc aq) rfl)).g (JQ h42)).i (zR 2 h43)).w (show(bC.map aI.c)[i1]?=some [D.sl (x44.facts.map aE.c),D.sl (x44.bind.map aR.c)]from dB aI.c h45)).a [.row [D.sl (x44.facts.map aE.c),D.sl (x44.bind.map aR.c)],.cn [0,3,4] [0]]).cs hΓ bn (xp aB ((bC.map aI.c).set i1 [D.sl (o4.facts.map aE.c),D.sl (o4.bind.map aR.c)]) (IntKind.i64.wrap ((i1:Int)+1))) (by first| (simp only[iS aq hm1,mA]<;>rfl)| (simp only[iS aq hm1,mA,aE.c,aR.c,aN.c,Action.c,aO.c,aI.c,cr.c,aQ.c,Node.c,aF.c,cv.c]<;>rfl)) (ih1 (i1+1) (bC.set i1 o4) (dn aq) h)
theorem HE{aB:ah}{r:ah}(h:uQ aB=some r):Good prog 181 [D.sl (aB.map aI.c)] (D.fr 124 2 (r.map aI.c)):=by
 refine gd func181 [[some (124,2)]] 23 fun hr Γ hΓ=>?_
 rw[uQ]at h;obtain⟨h1,h⟩:=bV h;refine((aU.w (xX h1)).a [.cn [0,3,4] [0]]).Ww hΓ (xp aB (List.replicate ((aB.map aI.c).length:Int).toNat [D.sl ([]),D.sl ([])]) 0) (by first| (simp only[mA]<;>rfl)| (simp only[mA,aE.c,aR.c,aN.c,Action.c,aO.c,aI.c,cr.c,aQ.c,Node.c,aF.c,cv.c]<;>rfl)) (JP hΓ (fun bO h=>?_) (by have:=(dU.sl (hr _ (aC (i:=0) rfl))).1;simpa using this) aB 0 (List.replicate ((aB.map aI.c).length:Int).toNat (⟨[],[]⟩:aI)) rfl h);have h:=aG h;subst h;exact aU.ret hΓ
def vA(aB:Node):Option Node:=((rT aB.cond).bind fun y1=>((uQ aB.tokens).bind fun y3=>(some (⟨aB.parent,y1,aB.cP,y3⟩:Node))))
theorem LK{aB:Node}{r:Node}(h:vA aB=some r):Good prog 108 [D.agg (Node.c aB)] (D.agg [D.int .i64 r.parent,D.int .i64 r.cond.kind,D.str r.cond.pat.rel,D.fr 9 1 (r.cond.pat.args.map tx),D.str r.cond.left,D.str r.cond.right,D.int .i64 r.cP,D.fr 124 2 (r.tokens.map aI.c)]):=by
 refine gd func108 [[none,none,none,some (9,1),none,none,none,some (124,2)]] 19 fun hr Γ hΓ=>?_
 rw[vA]at h;obtain⟨y1,h2,h⟩:=aD h;obtain⟨y3,h4,h⟩:=aD h;cases h;exact((aU.g (Bs h2)).g (HE h4)).ret hΓ
def oT(aB:az)(k1:az->Option az):az->Nat->az->Option az
 | [],i1,bC=>(k1 bC)
 |bD::bg,i1,bC=>((vA bD).bind fun o4=>(bif decide (i1<(bC.map Node.c).length)then(((bC)[i1]?).bind fun x44=>(oT aB k1 bg (i1+1) (bC.set i1 o4)))else none))
def wD(aB:az):Option az:=(bif Cd ((aB.map Node.c).length:Int) 120 then(oT aB (fun(bO:az)=>(some bO)) aB 0 (List.replicate ((aB.map Node.c).length:Int).toNat (⟨(0:Int),(⟨(0:Int),(⟨([]:Bytes),[]⟩:aE),([]:Bytes),([]:Bytes)⟩:aN),(0:Int),[]⟩:Node)))else none)
def yb(aB:az)(W0:List aS)(cT:Int):St:=⟨[(0,D.sl (aB.map Node.c)),(3,D.acc 0),(4,D.int .i64 cT)],[Ob.row .uq 118 8 W0]⟩
theorem LJ(hΓ:Γ.nt=23){aB:az}{r:az}{k1:az->Option az}(cY:∀(bO:az),k1 bO=some r->Ax Γ N f52 (.q [[some (118,8)]] (D.fr 118 8 (r.map Node.c))) [1,1,1] ⟨[(3,D.acc 0)],[Ob.row .uq 118 8 (bO.map Node.c)]⟩)(hm1:aB.length<=maxLen):∀(rest:az) (i1:Nat) (bC:az),aB.drop i1=rest->oT aB k1 rest i1 bC=some r->Ar Γ N f52 (.q [[some (118,8)]] (D.fr 118 8 (r.map Node.c))) [1,1,0,1,0] (rest.length+1) (yb aB (bC.map Node.c) (i1:Int)):=by
 intro rest
 induction rest with
 |nil=>
  intro i1 bC aq h;rw[oT]at h;refine aM fun N1 bw bn=>?_
  exact((aU.ge Node.c aq).a [.hl 0 [3] [0]]).ex hΓ bw (cY bC h)
 |cons bD bg ih1=>
  intro i1 bC aq h;rw[oT]at h;refine aM fun N1 bw bn=>?_
  obtain⟨o4,h42,h⟩:=aD h;obtain⟨h43,h⟩:=bV h;obtain⟨x44,h45,h⟩:=aD h;exact((((((aU.lt Node.c aq).l (av Node.c 8 (dc aq) rfl)).g (LK h42)).i (zR 8 h43)).w (show(bC.map Node.c)[i1]?=some [D.int .i64 x44.parent,D.int .i64 x44.cond.kind,D.str x44.cond.pat.rel,D.sl (x44.cond.pat.args.map tx),D.str x44.cond.left,D.str x44.cond.right,D.int .i64 x44.cP,D.sl (x44.tokens.map aI.c)]from dB Node.c h45)).a [.row [D.int .i64 x44.parent,D.int .i64 x44.cond.kind,D.str x44.cond.pat.rel,D.sl (x44.cond.pat.args.map tx),D.str x44.cond.left,D.str x44.cond.right,D.int .i64 x44.cP,D.sl (x44.tokens.map aI.c)],.cn [0,3,4] [0]]).cs hΓ bn (yb aB ((bC.map Node.c).set i1 [D.int .i64 o4.parent,D.int .i64 o4.cond.kind,D.str o4.cond.pat.rel,D.sl (o4.cond.pat.args.map tx),D.str o4.cond.left,D.str o4.cond.right,D.int .i64 o4.cP,D.sl (o4.tokens.map aI.c)]) (IntKind.i64.wrap ((i1:Int)+1))) (by first| (simp only[iS aq hm1,mA]<;>rfl)| (simp only[iS aq hm1,mA,aE.c,aR.c,aN.c,Action.c,aO.c,aI.c,cr.c,aQ.c,Node.c,aF.c,cv.c]<;>rfl)) (ih1 (i1+1) (bC.set i1 o4) (dn aq) h)
theorem JM{aB:az}{r:az}(h:wD aB=some r):Good prog 52 [D.sl (aB.map Node.c)] (D.fr 118 8 (r.map Node.c)):=by
 refine gd func52 [[some (118,8)]] 23 fun hr Γ hΓ=>?_
 rw[wD]at h;obtain⟨h1,h⟩:=bV h;refine((aU.w (xX h1)).a [.cn [0,3,4] [0]]).Ww hΓ (yb aB (List.replicate ((aB.map Node.c).length:Int).toNat [D.int .i64 0,D.int .i64 0,D.str ([]),D.sl ([]),D.str ([]),D.str ([]),D.int .i64 0,D.sl ([])]) 0) (by first| (simp only[mA]<;>rfl)| (simp only[mA,aE.c,aR.c,aN.c,Action.c,aO.c,aI.c,cr.c,aQ.c,Node.c,aF.c,cv.c]<;>rfl)) (LJ hΓ (fun bO h=>?_) (by have:=(dU.sl (hr _ (aC (i:=0) rfl))).1;simpa using this) aB 0 (List.replicate ((aB.map Node.c).length:Int).toNat (⟨(0:Int),(⟨(0:Int),(⟨([]:Bytes),[]⟩:aE),([]:Bytes),([]:Bytes)⟩:aN),(0:Int),[]⟩:Node)) rfl h);have h:=aG h;subst h;exact aU.ret hΓ
def kw(aB:aF):Option aF:=((wF aB.rules).bind fun y1=>((xO aB.ends).bind fun y3=>((uP aB.ay).bind fun y5=>((wD aB.nodes).bind fun y7=>((qF aB.facts).bind fun y9=>(some (⟨y1,y3,y5,y7,y9,aB.cL⟩:aF)))))))
theorem qV{aB:aF}{r:aF}(h:kw aB=some r):Good prog 14 [D.agg (aF.c aB)] (D.agg [D.fr 105 4 (r.rules.map aO.c),D.fr 3 1 (r.ends.map di),D.fr 111 3 (r.ay.map aQ.c),D.fr 118 8 (r.nodes.map Node.c),D.fr 53 2 (r.facts.map aE.c),D.int .i64 r.cL]):=by
 refine gd func14 [[some (105,4),some (3,1),some (111,3),some (118,8),some (53,2),none]] 28 fun hr Γ hΓ=>?_
 rw[kw]at h;obtain⟨y1,h2,h⟩:=aD h;obtain⟨y3,h4,h⟩:=aD h;obtain⟨y5,h6,h⟩:=aD h;obtain⟨y7,h8,h⟩:=aD h;obtain⟨y9,h10,h⟩:=aD h;cases h;exact(((((aU.g (JO h2)).g (LI h4)).g (HC h6)).g (JM h8)).g (x8 h10)).ret hΓ
end Go.Cx
namespace Go.Cx
open Go.RowKit Go.Proofs Tryz
set_option maxRecDepth 100000
variable{Γ:vY}{N:Nat->St->Prop}
def mM(aB:aJ)(aV:aJ)(k1:Option Bool):aJ->Nat->Option Bool
 | [],i1=>(k1)
 |bD::bg,i1=>((mC aV (i1:Int)).bind fun x22=>(bif !((bD:Bytes)==x22)then(some false)else(mM aB aV k1 bg (i1+1))))
def pZ(aB:aJ)(aV:aJ):Option Bool:=(bif (((aB.map tx).length:Int):Int) != ((aV.map tx).length:Int)then(some false)else(mM aB aV (some true) aB 0))
def Iz(aB:aJ)(aV:aJ)(cT:Int):St:=⟨[(0,D.sl (aB.map tx)),(1,D.sl (aV.map tx)),(5,D.int .i64 cT)],[]⟩
theorem Gh(hΓ:Γ.nt=26){aB:aJ}{aV:aJ}{r:Bool}{k1:Option Bool}(cY:k1=some r->Ax Γ N f74 (.q [[none]] (D.bool r)) [1,1,1] ⟨[],[]⟩)(hm1:aB.length<=maxLen):∀(rest:aJ) (i1:Nat),aB.drop i1=rest->mM aB aV k1 rest i1=some r->Ar Γ N f74 (.q [[none]] (D.bool r)) [1,1,0,1,0] (rest.length+1) (Iz aB aV (i1:Int)):=by
 intro rest
 induction rest with
 |nil=>
  intro i1 aq h;rw[mM]at h;refine aM fun N1 bw bn=>?_
  exact((aU.ge tx aq).a [.hl 0 [] []]).ex hΓ bw (cY h)
 |cons bD bg ih1=>
  intro i1 aq h;rw[mM]at h;refine aM fun N1 bw bn=>?_
  obtain⟨x22,h23,h⟩:=aD h;have dH:=((((aU.lt tx aq).a [.n 8]).l (av tx 1 (dc aq) rfl)).l (dX tx 1 h23 rfl))
  obtain⟨h24,h⟩|⟨h24,h⟩:=aK h
  ·have h:=aG h;subst h;exact(dH.b h24).ret hΓ
  ·exact((dH.b h24).a [.cn [0,1,5] []]).ct hΓ bn (iS aq hm1) (ih1 (i1+1) (dn aq) h)
theorem zC{aB:aJ}{aV:aJ}{r:Bool}(h:pZ aB aV=some r):Good prog 74 [D.sl (aB.map tx),D.sl (aV.map tx)] (D.bool r):=by
 refine gd func74 [[none]] 26 fun hr Γ hΓ=>?_
 rw[pZ]at h;obtain⟨h1,h⟩|⟨h1,h⟩:=aK h
 ·have h:=aG h;subst h;exact(aU.b h1).ret hΓ
 ·refine((aU.b h1).a [.cn [0,1,5] []]).lp hΓ (Gh hΓ (fun h=>?_) (by have:=(dU.sl (hr _ (aC (i:=0) rfl))).1;simpa using this) aB 0 rfl h);have h:=aG h;subst h;exact aU.ret hΓ
def nA(aB:aE)(aV:aE):Option Bool:=(bif !((aB.rel:Bytes)==aV.rel)then(some false)else((pZ aB.args aV.args).bind fun y2=>(bif !(y2)then(some false)else(some true))))
theorem qU{aB:aE}{aV:aE}{r:Bool}(h:nA aB aV=some r):Good prog 186 [D.agg (aE.c aB),D.agg (aE.c aV)] (D.bool r):=by
 refine gd func186 [[none]] 16 fun hr Γ hΓ=>?_
 rw[nA]at h;obtain⟨h1,h⟩|⟨h1,h⟩:=aK h
 ·have h:=aG h;subst h;exact(aU.b h1).ret hΓ
 ·obtain⟨y2,h3,h⟩:=aD h;have k7:=((aU.b h1).g (zC h3))
  obtain⟨h4,h⟩|⟨h4,h⟩:=aK h
  ·have h:=aG h;subst h;exact(k7.b h4).ret hΓ
  ·have h:=aG h;subst h;exact(k7.b h4).ret hΓ
def rP(aB:aN)(aV:aN):Option Bool:=(bif (aB.kind:Int) != aV.kind then(some false)else((nA aB.pat aV.pat).bind fun y2=>(bif !(y2)then(some false)else(bif !((aB.left:Bytes)==aV.left)then(some false)else(bif !((aB.right:Bytes)==aV.right)then(some false)else(some true))))))
theorem Bp{aB:aN}{aV:aN}{r:Bool}(h:rP aB aV=some r):Good prog 187 [D.agg (aN.c aB),D.agg (aN.c aV)] (D.bool r):=by
 refine gd func187 [[none]] 26 fun hr Γ hΓ=>?_
 rw[rP]at h;obtain⟨h1,h⟩|⟨h1,h⟩:=aK h
 ·have h:=aG h;subst h;exact(aU.b h1).ret hΓ
 ·obtain⟨y2,h3,h⟩:=aD h;have k7:=((aU.b h1).g (qU h3))
  obtain⟨h4,h⟩|⟨h4,h⟩:=aK h
  ·have h:=aG h;subst h;exact(k7.b h4).ret hΓ
  ·obtain⟨h5,h⟩|⟨h5,h⟩:=aK h
   ·have h:=aG h;subst h;exact((k7.b h4).b h5).ret hΓ
   ·have dH:=((k7.b h4).b h5)
    obtain⟨h6,h⟩|⟨h6,h⟩:=aK h
    ·have h:=aG h;subst h;exact(dH.b h6).ret hΓ
    ·have h:=aG h;subst h;exact(dH.b h6).ret hΓ
def oH(aB:aj)(aV:aj)(k1:Option Bool):aj->Nat->Option Bool
 | [],i1=>(k1)
 |bD::bg,i1=>((mC aV (i1:Int)).bind fun x30=>((rP bD x30).bind fun Dx=>(bif !(Dx)then(some false)else(oH aB aV k1 bg (i1+1)))))
def vu(aB:aj)(aV:aj):Option Bool:=(bif (((aB.map aN.c).length:Int):Int) != ((aV.map aN.c).length:Int)then(some false)else(oH aB aV (some true) aB 0))
def Mb(aB:aj)(aV:aj)(cT:Int):St:=⟨[(0,D.sl (aB.map aN.c)),(1,D.sl (aV.map aN.c)),(5,D.int .i64 cT)],[]⟩
theorem Kp(hΓ:Γ.nt=27){aB:aj}{aV:aj}{r:Bool}{k1:Option Bool}(cY:k1=some r->Ax Γ N f146 (.q [[none]] (D.bool r)) [1,1,1] ⟨[],[]⟩)(hm1:aB.length<=maxLen):∀(rest:aj) (i1:Nat),aB.drop i1=rest->oH aB aV k1 rest i1=some r->Ar Γ N f146 (.q [[none]] (D.bool r)) [1,1,0,1,0] (rest.length+1) (Mb aB aV (i1:Int)):=by
 intro rest
 induction rest with
 |nil=>
  intro i1 aq h;rw[oH]at h;refine aM fun N1 bw bn=>?_
  exact((aU.ge aN.c aq).a [.hl 0 [] []]).ex hΓ bw (cY h)
 |cons bD bg ih1=>
  intro i1 aq h;rw[oH]at h;refine aM fun N1 bw bn=>?_
  obtain⟨x30,h31,h⟩:=aD h;obtain⟨Dx,h33,h⟩:=aD h;have dH:=(((((aU.lt aN.c aq).a [.n 8]).l (av aN.c 5 (dc aq) rfl)).l (dX aN.c 5 h31 rfl)).g (Bp h33))
  obtain⟨h34,h⟩|⟨h34,h⟩:=aK h
  ·have h:=aG h;subst h;exact(dH.b h34).ret hΓ
  ·exact((dH.b h34).a [.cn [0,1,5] []]).ct hΓ bn (iS aq hm1) (ih1 (i1+1) (dn aq) h)
theorem Iw{aB:aj}{aV:aj}{r:Bool}(h:vu aB aV=some r):Good prog 146 [D.sl (aB.map aN.c),D.sl (aV.map aN.c)] (D.bool r):=by
 refine gd func146 [[none]] 27 fun hr Γ hΓ=>?_
 rw[vu]at h;obtain⟨h1,h⟩|⟨h1,h⟩:=aK h
 ·have h:=aG h;subst h;exact(aU.b h1).ret hΓ
 ·refine((aU.b h1).a [.cn [0,1,5] []]).lp hΓ (Kp hΓ (fun h=>?_) (by have:=(dU.sl (hr _ (aC (i:=0) rfl))).1;simpa using this) aB 0 rfl h);have h:=aG h;subst h;exact aU.ret hΓ
def qi(aB:Action)(aV:Action):Option Bool:=(bif (aB.kind:Int) != aV.kind then(some false)else((nA aB.pat aV.pat).bind fun y2=>(bif !(y2)then(some false)else(some true))))
theorem Gf{aB:Action}{aV:Action}{r:Bool}(h:qi aB aV=some r):Good prog 223 [D.agg (Action.c aB),D.agg (Action.c aV)] (D.bool r):=by
 refine gd func223 [[none]] 16 fun hr Γ hΓ=>?_
 rw[qi]at h;obtain⟨h1,h⟩|⟨h1,h⟩:=aK h
 ·have h:=aG h;subst h;exact(aU.b h1).ret hΓ
 ·obtain⟨y2,h3,h⟩:=aD h;have k7:=((aU.b h1).g (qU h3))
  obtain⟨h4,h⟩|⟨h4,h⟩:=aK h
  ·have h:=aG h;subst h;exact(k7.b h4).ret hΓ
  ·have h:=aG h;subst h;exact(k7.b h4).ret hΓ
def mL(aB:bz)(aV:bz)(k1:Option Bool):bz->Nat->Option Bool
 | [],i1=>(k1)
 |bD::bg,i1=>((mC aV (i1:Int)).bind fun x30=>((qi bD x30).bind fun Dx=>(bif !(Dx)then(some false)else(mL aB aV k1 bg (i1+1)))))
def sj(aB:bz)(aV:bz):Option Bool:=(bif (((aB.map Action.c).length:Int):Int) != ((aV.map Action.c).length:Int)then(some false)else(mL aB aV (some true) aB 0))
def It(aB:bz)(aV:bz)(cT:Int):St:=⟨[(0,D.sl (aB.map Action.c)),(1,D.sl (aV.map Action.c)),(5,D.int .i64 cT)],[]⟩
theorem Ge(hΓ:Γ.nt=27){aB:bz}{aV:bz}{r:Bool}{k1:Option Bool}(cY:k1=some r->Ax Γ N f147 (.q [[none]] (D.bool r)) [1,1,1] ⟨[],[]⟩)(hm1:aB.length<=maxLen):∀(rest:bz) (i1:Nat),aB.drop i1=rest->mL aB aV k1 rest i1=some r->Ar Γ N f147 (.q [[none]] (D.bool r)) [1,1,0,1,0] (rest.length+1) (It aB aV (i1:Int)):=by
 intro rest
 induction rest with
 |nil=>
  intro i1 aq h;rw[mL]at h;refine aM fun N1 bw bn=>?_
  exact((aU.ge Action.c aq).a [.hl 0 [] []]).ex hΓ bw (cY h)
 |cons bD bg ih1=>
  intro i1 aq h;rw[mL]at h;refine aM fun N1 bw bn=>?_
  obtain⟨x30,h31,h⟩:=aD h;obtain⟨Dx,h33,h⟩:=aD h;have dH:=(((((aU.lt Action.c aq).a [.n 8]).l (av Action.c 3 (dc aq) rfl)).l (dX Action.c 3 h31 rfl)).g (Gf h33))
  obtain⟨h34,h⟩|⟨h34,h⟩:=aK h
  ·have h:=aG h;subst h;exact(dH.b h34).ret hΓ
  ·exact((dH.b h34).a [.cn [0,1,5] []]).ct hΓ bn (iS aq hm1) (ih1 (i1+1) (dn aq) h)
theorem FO{aB:bz}{aV:bz}{r:Bool}(h:sj aB aV=some r):Good prog 147 [D.sl (aB.map Action.c),D.sl (aV.map Action.c)] (D.bool r):=by
 refine gd func147 [[none]] 27 fun hr Γ hΓ=>?_
 rw[sj]at h;obtain⟨h1,h⟩|⟨h1,h⟩:=aK h
 ·have h:=aG h;subst h;exact(aU.b h1).ret hΓ
 ·refine((aU.b h1).a [.cn [0,1,5] []]).lp hΓ (Ge hΓ (fun h=>?_) (by have:=(dU.sl (hr _ (aC (i:=0) rfl))).1;simpa using this) aB 0 rfl h);have h:=aG h;subst h;exact aU.ret hΓ
def ux(aB:aO)(aV:aO):Option Bool:=(bif !((aB.name:Bytes)==aV.name)then(some false)else(bif (aB.prio:Int) != aV.prio then(some false)else((vu aB.conds aV.conds).bind fun y3=>(bif !(y3)then(some false)else((sj aB.cu aV.cu).bind fun y6=>(bif !(y6)then(some false)else(some true)))))))
theorem Kx{aB:aO}{aV:aO}{r:Bool}(h:ux aB aV=some r):Good prog 84 [D.agg (aO.c aB),D.agg (aO.c aV)] (D.bool r):=by
 refine gd func84 [[none]] 27 fun hr Γ hΓ=>?_
 rw[ux]at h;obtain⟨h1,h⟩|⟨h1,h⟩:=aK h
 ·have h:=aG h;subst h;exact(aU.b h1).ret hΓ
 ·obtain⟨h2,h⟩|⟨h2,h⟩:=aK h
  ·have h:=aG h;subst h;exact((aU.b h1).b h2).ret hΓ
  ·obtain⟨y3,h4,h⟩:=aD h;have k7:=(((aU.b h1).b h2).g (Iw h4))
   obtain⟨h5,h⟩|⟨h5,h⟩:=aK h
   ·have h:=aG h;subst h;exact(k7.b h5).ret hΓ
   ·obtain⟨y6,h7,h⟩:=aD h;have dH:=((k7.b h5).g (FO h7))
    obtain⟨h8,h⟩|⟨h8,h⟩:=aK h
    ·have h:=aG h;subst h;exact(dH.b h8).ret hΓ
    ·have h:=aG h;subst h;exact(dH.b h8).ret hΓ
def oL(aB:au)(aV:au)(k1:Option Bool):au->Nat->Option Bool
 | [],i1=>(k1)
 |bD::bg,i1=>((mC aV (i1:Int)).bind fun x30=>((ux bD x30).bind fun Dx=>(bif !(Dx)then(some false)else(oL aB aV k1 bg (i1+1)))))
def w5(aB:au)(aV:au):Option Bool:=(bif (((aB.map aO.c).length:Int):Int) != ((aV.map aO.c).length:Int)then(some false)else(oL aB aV (some true) aB 0))
def Mg(aB:au)(aV:au)(cT:Int):St:=⟨[(0,D.sl (aB.map aO.c)),(1,D.sl (aV.map aO.c)),(5,D.int .i64 cT)],[]⟩
theorem Kw(hΓ:Γ.nt=27){aB:au}{aV:au}{r:Bool}{k1:Option Bool}(cY:k1=some r->Ax Γ N f37 (.q [[none]] (D.bool r)) [1,1,1] ⟨[],[]⟩)(hm1:aB.length<=maxLen):∀(rest:au) (i1:Nat),aB.drop i1=rest->oL aB aV k1 rest i1=some r->Ar Γ N f37 (.q [[none]] (D.bool r)) [1,1,0,1,0] (rest.length+1) (Mg aB aV (i1:Int)):=by
 intro rest
 induction rest with
 |nil=>
  intro i1 aq h;rw[oL]at h;refine aM fun N1 bw bn=>?_
  exact((aU.ge aO.c aq).a [.hl 0 [] []]).ex hΓ bw (cY h)
 |cons bD bg ih1=>
  intro i1 aq h;rw[oL]at h;refine aM fun N1 bw bn=>?_
  obtain⟨x30,h31,h⟩:=aD h;obtain⟨Dx,h33,h⟩:=aD h;have dH:=(((((aU.lt aO.c aq).a [.n 8]).l (av aO.c 4 (dc aq) rfl)).l (dX aO.c 4 h31 rfl)).g (Kx h33))
  obtain⟨h34,h⟩|⟨h34,h⟩:=aK h
  ·have h:=aG h;subst h;exact(dH.b h34).ret hΓ
  ·exact((dH.b h34).a [.cn [0,1,5] []]).ct hΓ bn (iS aq hm1) (ih1 (i1+1) (dn aq) h)
theorem Au{aB:au}{aV:au}{r:Bool}(h:w5 aB aV=some r):Good prog 37 [D.sl (aB.map aO.c),D.sl (aV.map aO.c)] (D.bool r):=by
 refine gd func37 [[none]] 27 fun hr Γ hΓ=>?_
 rw[w5]at h;obtain⟨h1,h⟩|⟨h1,h⟩:=aK h
 ·have h:=aG h;subst h;exact(aU.b h1).ret hΓ
 ·refine((aU.b h1).a [.cn [0,1,5] []]).lp hΓ (Kw hΓ (fun h=>?_) (by have:=(dU.sl (hr _ (aC (i:=0) rfl))).1;simpa using this) aB 0 rfl h);have h:=aG h;subst h;exact aU.ret hΓ
def pY(aB:bJ)(aV:bJ)(k1:Option Bool):bJ->Nat->Option Bool
 | [],i1=>(k1)
 |bD::bg,i1=>((mC aV (i1:Int)).bind fun x22=>(bif (bD:Int) != x22 then(some false)else(pY aB aV k1 bg (i1+1))))
def xM(aB:bJ)(aV:bJ):Option Bool:=(bif (((aB.map di).length:Int):Int) != ((aV.map di).length:Int)then(some false)else(pY aB aV (some true) aB 0))
def OB(aB:bJ)(aV:bJ)(cT:Int):St:=⟨[(0,D.sl (aB.map di)),(1,D.sl (aV.map di)),(5,D.int .i64 cT)],[]⟩
theorem Md(hΓ:Γ.nt=26){aB:bJ}{aV:bJ}{r:Bool}{k1:Option Bool}(cY:k1=some r->Ax Γ N f54 (.q [[none]] (D.bool r)) [1,1,1] ⟨[],[]⟩)(hm1:aB.length<=maxLen):∀(rest:bJ) (i1:Nat),aB.drop i1=rest->pY aB aV k1 rest i1=some r->Ar Γ N f54 (.q [[none]] (D.bool r)) [1,1,0,1,0] (rest.length+1) (OB aB aV (i1:Int)):=by
 intro rest
 induction rest with
 |nil=>
  intro i1 aq h;rw[pY]at h;refine aM fun N1 bw bn=>?_
  exact((aU.ge di aq).a [.hl 0 [] []]).ex hΓ bw (cY h)
 |cons bD bg ih1=>
  intro i1 aq h;rw[pY]at h;refine aM fun N1 bw bn=>?_
  obtain⟨x22,h23,h⟩:=aD h;have dH:=((((aU.lt di aq).a [.n 8]).l (av di 1 (dc aq) rfl)).l (dX di 1 h23 rfl))
  obtain⟨h24,h⟩|⟨h24,h⟩:=aK h
  ·have h:=aG h;subst h;exact(dH.b h24).ret hΓ
  ·exact((dH.b h24).a [.cn [0,1,5] []]).ct hΓ bn (iS aq hm1) (ih1 (i1+1) (dn aq) h)
theorem Kr{aB:bJ}{aV:bJ}{r:Bool}(h:xM aB aV=some r):Good prog 54 [D.sl (aB.map di),D.sl (aV.map di)] (D.bool r):=by
 refine gd func54 [[none]] 26 fun hr Γ hΓ=>?_
 rw[xM]at h;obtain⟨h1,h⟩|⟨h1,h⟩:=aK h
 ·have h:=aG h;subst h;exact(aU.b h1).ret hΓ
 ·refine((aU.b h1).a [.cn [0,1,5] []]).lp hΓ (Md hΓ (fun h=>?_) (by have:=(dU.sl (hr _ (aC (i:=0) rfl))).1;simpa using this) aB 0 rfl h);have h:=aG h;subst h;exact aU.ret hΓ
def rQ(aB:aE)(aV:aE):Option Bool:=(bif !((aB.rel:Bytes)==aV.rel)then(some false)else((pZ aB.args aV.args).bind fun y2=>(bif !(y2)then(some false)else(some true))))
theorem Bq{aB:aE}{aV:aE}{r:Bool}(h:rQ aB aV=some r):Good prog 27 [D.agg (aE.c aB),D.agg (aE.c aV)] (D.bool r):=by
 refine gd func27 [[none]] 16 fun hr Γ hΓ=>?_
 rw[rQ]at h;obtain⟨h1,h⟩|⟨h1,h⟩:=aK h
 ·have h:=aG h;subst h;exact(aU.b h1).ret hΓ
 ·obtain⟨y2,h3,h⟩:=aD h;have k7:=((aU.b h1).g (zC h3))
  obtain⟨h4,h⟩|⟨h4,h⟩:=aK h
  ·have h:=aG h;subst h;exact(k7.b h4).ret hΓ
  ·have h:=aG h;subst h;exact(k7.b h4).ret hΓ
def oI(aB:aP)(aV:aP)(k1:Option Bool):aP->Nat->Option Bool
 | [],i1=>(k1)
 |bD::bg,i1=>((mC aV (i1:Int)).bind fun x30=>((rQ bD x30).bind fun Dx=>(bif !(Dx)then(some false)else(oI aB aV k1 bg (i1+1)))))
def qB(aB:aP)(aV:aP):Option Bool:=(bif (((aB.map aE.c).length:Int):Int) != ((aV.map aE.c).length:Int)then(some false)else(oI aB aV (some true) aB 0))
def Mc(aB:aP)(aV:aP)(cT:Int):St:=⟨[(0,D.sl (aB.map aE.c)),(1,D.sl (aV.map aE.c)),(5,D.int .i64 cT)],[]⟩
theorem Kq(hΓ:Γ.nt=27){aB:aP}{aV:aP}{r:Bool}{k1:Option Bool}(cY:k1=some r->Ax Γ N f18 (.q [[none]] (D.bool r)) [1,1,1] ⟨[],[]⟩)(hm1:aB.length<=maxLen):∀(rest:aP) (i1:Nat),aB.drop i1=rest->oI aB aV k1 rest i1=some r->Ar Γ N f18 (.q [[none]] (D.bool r)) [1,1,0,1,0] (rest.length+1) (Mc aB aV (i1:Int)):=by
 intro rest
 induction rest with
 |nil=>
  intro i1 aq h;rw[oI]at h;refine aM fun N1 bw bn=>?_
  exact((aU.ge aE.c aq).a [.hl 0 [] []]).ex hΓ bw (cY h)
 |cons bD bg ih1=>
  intro i1 aq h;rw[oI]at h;refine aM fun N1 bw bn=>?_
  obtain⟨x30,h31,h⟩:=aD h;obtain⟨Dx,h33,h⟩:=aD h;have dH:=(((((aU.lt aE.c aq).a [.n 8]).l (av aE.c 2 (dc aq) rfl)).l (dX aE.c 2 h31 rfl)).g (Bq h33))
  obtain⟨h34,h⟩|⟨h34,h⟩:=aK h
  ·have h:=aG h;subst h;exact(dH.b h34).ret hΓ
  ·exact((dH.b h34).a [.cn [0,1,5] []]).ct hΓ bn (iS aq hm1) (ih1 (i1+1) (dn aq) h)
theorem sD{aB:aP}{aV:aP}{r:Bool}(h:qB aB aV=some r):Good prog 18 [D.sl (aB.map aE.c),D.sl (aV.map aE.c)] (D.bool r):=by
 refine gd func18 [[none]] 27 fun hr Γ hΓ=>?_
 rw[qB]at h;obtain⟨h1,h⟩|⟨h1,h⟩:=aK h
 ·have h:=aG h;subst h;exact(aU.b h1).ret hΓ
 ·refine((aU.b h1).a [.cn [0,1,5] []]).lp hΓ (Kq hΓ (fun h=>?_) (by have:=(dU.sl (hr _ (aC (i:=0) rfl))).1;simpa using this) aB 0 rfl h);have h:=aG h;subst h;exact aU.ret hΓ
def sn(aB:aQ)(aV:aQ):Option Bool:=((nA aB.shape aV.shape).bind fun y1=>(bif !(y1)then(some false)else((qB aB.facts aV.facts).bind fun y4=>(bif !(y4)then(some false)else(some true)))))
theorem Iv{aB:aQ}{aV:aQ}{r:Bool}(h:sn aB aV=some r):Good prog 115 [D.agg (aQ.c aB),D.agg (aQ.c aV)] (D.bool r):=by
 refine gd func115 [[none]] 17 fun hr Γ hΓ=>?_
 rw[sn]at h;obtain⟨y1,h2,h⟩:=aD h;obtain⟨h3,h⟩|⟨h3,h⟩:=aK h
 ·have h:=aG h;subst h;exact((aU.g (qU h2)).b h3).ret hΓ
 ·obtain⟨y4,h5,h⟩:=aD h;have k7:=(((aU.g (qU h2)).b h3).g (sD h5))
  obtain⟨h6,h⟩|⟨h6,h⟩:=aK h
  ·have h:=aG h;subst h;exact(k7.b h6).ret hΓ
  ·have h:=aG h;subst h;exact(k7.b h6).ret hΓ
def n9(aB:b8)(aV:b8)(k1:Option Bool):b8->Nat->Option Bool
 | [],i1=>(k1)
 |bD::bg,i1=>((mC aV (i1:Int)).bind fun x30=>((sn bD x30).bind fun Dx=>(bif !(Dx)then(some false)else(n9 aB aV k1 bg (i1+1)))))
def uJ(aB:b8)(aV:b8):Option Bool:=(bif (((aB.map aQ.c).length:Int):Int) != ((aV.map aQ.c).length:Int)then(some false)else(n9 aB aV (some true) aB 0))
def Ko(aB:b8)(aV:b8)(cT:Int):St:=⟨[(0,D.sl (aB.map aQ.c)),(1,D.sl (aV.map aQ.c)),(5,D.int .i64 cT)],[]⟩
theorem Iu(hΓ:Γ.nt=27){aB:b8}{aV:b8}{r:Bool}{k1:Option Bool}(cY:k1=some r->Ax Γ N f55 (.q [[none]] (D.bool r)) [1,1,1] ⟨[],[]⟩)(hm1:aB.length<=maxLen):∀(rest:b8) (i1:Nat),aB.drop i1=rest->n9 aB aV k1 rest i1=some r->Ar Γ N f55 (.q [[none]] (D.bool r)) [1,1,0,1,0] (rest.length+1) (Ko aB aV (i1:Int)):=by
 intro rest
 induction rest with
 |nil=>
  intro i1 aq h;rw[n9]at h;refine aM fun N1 bw bn=>?_
  exact((aU.ge aQ.c aq).a [.hl 0 [] []]).ex hΓ bw (cY h)
 |cons bD bg ih1=>
  intro i1 aq h;rw[n9]at h;refine aM fun N1 bw bn=>?_
  obtain⟨x30,h31,h⟩:=aD h;obtain⟨Dx,h33,h⟩:=aD h;have dH:=(((((aU.lt aQ.c aq).a [.n 8]).l (av aQ.c 3 (dc aq) rfl)).l (dX aQ.c 3 h31 rfl)).g (Iv h33))
  obtain⟨h34,h⟩|⟨h34,h⟩:=aK h
  ·have h:=aG h;subst h;exact(dH.b h34).ret hΓ
  ·exact((dH.b h34).a [.cn [0,1,5] []]).ct hΓ bn (iS aq hm1) (ih1 (i1+1) (dn aq) h)
theorem Gg{aB:b8}{aV:b8}{r:Bool}(h:uJ aB aV=some r):Good prog 55 [D.sl (aB.map aQ.c),D.sl (aV.map aQ.c)] (D.bool r):=by
 refine gd func55 [[none]] 27 fun hr Γ hΓ=>?_
 rw[uJ]at h;obtain⟨h1,h⟩|⟨h1,h⟩:=aK h
 ·have h:=aG h;subst h;exact(aU.b h1).ret hΓ
 ·refine((aU.b h1).a [.cn [0,1,5] []]).lp hΓ (Iu hΓ (fun h=>?_) (by have:=(dU.sl (hr _ (aC (i:=0) rfl))).1;simpa using this) aB 0 rfl h);have h:=aG h;subst h;exact aU.ret hΓ
def uw(aB:aR)(aV:aR):Option Bool:=(bif !((aB.var:Bytes)==aV.var)then(some false)else(bif !((aB.value:Bytes)==aV.value)then(some false)else(some true)))
theorem Kv{aB:aR}{aV:aR}{r:Bool}(h:uw aB aV=some r):Good prog 195 [D.agg (aR.c aB),D.agg (aR.c aV)] (D.bool r):=by
 refine gd func195 [[none]] 15 fun hr Γ hΓ=>?_
 rw[uw]at h;obtain⟨h1,h⟩|⟨h1,h⟩:=aK h
 ·have h:=aG h;subst h;exact(aU.b h1).ret hΓ
 ·obtain⟨h2,h⟩|⟨h2,h⟩:=aK h
  ·have h:=aG h;subst h;exact((aU.b h1).b h2).ret hΓ
  ·have h:=aG h;subst h;exact((aU.b h1).b h2).ret hΓ
def oK(aB:aT)(aV:aT)(k1:Option Bool):aT->Nat->Option Bool
 | [],i1=>(k1)
 |bD::bg,i1=>((mC aV (i1:Int)).bind fun x30=>((uw bD x30).bind fun Dx=>(bif !(Dx)then(some false)else(oK aB aV k1 bg (i1+1)))))
def vz(aB:aT)(aV:aT):Option Bool:=(bif (((aB.map aR.c).length:Int):Int) != ((aV.map aR.c).length:Int)then(some false)else(oK aB aV (some true) aB 0))
def Mf(aB:aT)(aV:aT)(cT:Int):St:=⟨[(0,D.sl (aB.map aR.c)),(1,D.sl (aV.map aR.c)),(5,D.int .i64 cT)],[]⟩
theorem Ku(hΓ:Γ.nt=27){aB:aT}{aV:aT}{r:Bool}{k1:Option Bool}(cY:k1=some r->Ax Γ N f130 (.q [[none]] (D.bool r)) [1,1,1] ⟨[],[]⟩)(hm1:aB.length<=maxLen):∀(rest:aT) (i1:Nat),aB.drop i1=rest->oK aB aV k1 rest i1=some r->Ar Γ N f130 (.q [[none]] (D.bool r)) [1,1,0,1,0] (rest.length+1) (Mf aB aV (i1:Int)):=by
 intro rest
 induction rest with
 |nil=>
  intro i1 aq h;rw[oK]at h;refine aM fun N1 bw bn=>?_
  exact((aU.ge aR.c aq).a [.hl 0 [] []]).ex hΓ bw (cY h)
 |cons bD bg ih1=>
  intro i1 aq h;rw[oK]at h;refine aM fun N1 bw bn=>?_
  obtain⟨x30,h31,h⟩:=aD h;obtain⟨Dx,h33,h⟩:=aD h;have dH:=(((((aU.lt aR.c aq).a [.n 8]).l (av aR.c 2 (dc aq) rfl)).l (dX aR.c 2 h31 rfl)).g (Kv h33))
  obtain⟨h34,h⟩|⟨h34,h⟩:=aK h
  ·have h:=aG h;subst h;exact(dH.b h34).ret hΓ
  ·exact((dH.b h34).a [.cn [0,1,5] []]).ct hΓ bn (iS aq hm1) (ih1 (i1+1) (dn aq) h)
theorem Iy{aB:aT}{aV:aT}{r:Bool}(h:vz aB aV=some r):Good prog 130 [D.sl (aB.map aR.c),D.sl (aV.map aR.c)] (D.bool r):=by
 refine gd func130 [[none]] 27 fun hr Γ hΓ=>?_
 rw[vz]at h;obtain⟨h1,h⟩|⟨h1,h⟩:=aK h
 ·have h:=aG h;subst h;exact(aU.b h1).ret hΓ
 ·refine((aU.b h1).a [.cn [0,1,5] []]).lp hΓ (Ku hΓ (fun h=>?_) (by have:=(dU.sl (hr _ (aC (i:=0) rfl))).1;simpa using this) aB 0 rfl h);have h:=aG h;subst h;exact aU.ret hΓ
def sr(aB:aI)(aV:aI):Option Bool:=((qB aB.facts aV.facts).bind fun y1=>(bif !(y1)then(some false)else((vz aB.bind aV.bind).bind fun y4=>(bif !(y4)then(some false)else(some true)))))
theorem J1{aB:aI}{aV:aI}{r:Bool}(h:sr aB aV=some r):Good prog 245 [D.agg (aI.c aB),D.agg (aI.c aV)] (D.bool r):=by
 refine gd func245 [[none]] 17 fun hr Γ hΓ=>?_
 rw[sr]at h;obtain⟨y1,h2,h⟩:=aD h;obtain⟨h3,h⟩|⟨h3,h⟩:=aK h
 ·have h:=aG h;subst h;exact((aU.g (sD h2)).b h3).ret hΓ
 ·obtain⟨y4,h5,h⟩:=aD h;have k7:=(((aU.g (sD h2)).b h3).g (Iy h5))
  obtain⟨h6,h⟩|⟨h6,h⟩:=aK h
  ·have h:=aG h;subst h;exact(k7.b h6).ret hΓ
  ·have h:=aG h;subst h;exact(k7.b h6).ret hΓ
def nB(aB:ah)(aV:ah)(k1:Option Bool):ah->Nat->Option Bool
 | [],i1=>(k1)
 |bD::bg,i1=>((mC aV (i1:Int)).bind fun x30=>((sr bD x30).bind fun Dx=>(bif !(Dx)then(some false)else(nB aB aV k1 bg (i1+1)))))
def uK(aB:ah)(aV:ah):Option Bool:=(bif (((aB.map aI.c).length:Int):Int) != ((aV.map aI.c).length:Int)then(some false)else(nB aB aV (some true) aB 0))
def Ky(aB:ah)(aV:ah)(cT:Int):St:=⟨[(0,D.sl (aB.map aI.c)),(1,D.sl (aV.map aI.c)),(5,D.int .i64 cT)],[]⟩
theorem J0(hΓ:Γ.nt=27){aB:ah}{aV:ah}{r:Bool}{k1:Option Bool}(cY:k1=some r->Ax Γ N f188 (.q [[none]] (D.bool r)) [1,1,1] ⟨[],[]⟩)(hm1:aB.length<=maxLen):∀(rest:ah) (i1:Nat),aB.drop i1=rest->nB aB aV k1 rest i1=some r->Ar Γ N f188 (.q [[none]] (D.bool r)) [1,1,0,1,0] (rest.length+1) (Ky aB aV (i1:Int)):=by
 intro rest
 induction rest with
 |nil=>
  intro i1 aq h;rw[nB]at h;refine aM fun N1 bw bn=>?_
  exact((aU.ge aI.c aq).a [.hl 0 [] []]).ex hΓ bw (cY h)
 |cons bD bg ih1=>
  intro i1 aq h;rw[nB]at h;refine aM fun N1 bw bn=>?_
  obtain⟨x30,h31,h⟩:=aD h;obtain⟨Dx,h33,h⟩:=aD h;have dH:=(((((aU.lt aI.c aq).a [.n 8]).l (av aI.c 2 (dc aq) rfl)).l (dX aI.c 2 h31 rfl)).g (J1 h33))
  obtain⟨h34,h⟩|⟨h34,h⟩:=aK h
  ·have h:=aG h;subst h;exact(dH.b h34).ret hΓ
  ·exact((dH.b h34).a [.cn [0,1,5] []]).ct hΓ bn (iS aq hm1) (ih1 (i1+1) (dn aq) h)
theorem Gi{aB:ah}{aV:ah}{r:Bool}(h:uK aB aV=some r):Good prog 188 [D.sl (aB.map aI.c),D.sl (aV.map aI.c)] (D.bool r):=by
 refine gd func188 [[none]] 27 fun hr Γ hΓ=>?_
 rw[uK]at h;obtain⟨h1,h⟩|⟨h1,h⟩:=aK h
 ·have h:=aG h;subst h;exact(aU.b h1).ret hΓ
 ·refine((aU.b h1).a [.cn [0,1,5] []]).lp hΓ (J0 hΓ (fun h=>?_) (by have:=(dU.sl (hr _ (aC (i:=0) rfl))).1;simpa using this) aB 0 rfl h);have h:=aG h;subst h;exact aU.ret hΓ
def ur(aB:Node)(aV:Node):Option Bool:=(bif (aB.parent:Int) != aV.parent then(some false)else((rP aB.cond aV.cond).bind fun y2=>(bif !(y2)then(some false)else(bif (aB.cP:Int) != aV.cP then(some false)else((uK aB.tokens aV.tokens).bind fun y6=>(bif !(y6)then(some false)else(some true)))))))
theorem Kt{aB:Node}{aV:Node}{r:Bool}(h:ur aB aV=some r):Good prog 116 [D.agg (Node.c aB),D.agg (Node.c aV)] (D.bool r):=by
 refine gd func116 [[none]] 27 fun hr Γ hΓ=>?_
 rw[ur]at h;obtain⟨h1,h⟩|⟨h1,h⟩:=aK h
 ·have h:=aG h;subst h;exact(aU.b h1).ret hΓ
 ·obtain⟨y2,h3,h⟩:=aD h;have k7:=((aU.b h1).g (Bp h3))
  obtain⟨h4,h⟩|⟨h4,h⟩:=aK h
  ·have h:=aG h;subst h;exact(k7.b h4).ret hΓ
  ·obtain⟨h5,h⟩|⟨h5,h⟩:=aK h
   ·have h:=aG h;subst h;exact((k7.b h4).b h5).ret hΓ
   ·obtain⟨y6,h7,h⟩:=aD h;have dH:=(((k7.b h4).b h5).g (Gi h7))
    obtain⟨h8,h⟩|⟨h8,h⟩:=aK h
    ·have h:=aG h;subst h;exact(dH.b h8).ret hΓ
    ·have h:=aG h;subst h;exact(dH.b h8).ret hΓ
def oJ(aB:az)(aV:az)(k1:Option Bool):az->Nat->Option Bool
 | [],i1=>(k1)
 |bD::bg,i1=>((mC aV (i1:Int)).bind fun x30=>((ur bD x30).bind fun Dx=>(bif !(Dx)then(some false)else(oJ aB aV k1 bg (i1+1)))))
def vv(aB:az)(aV:az):Option Bool:=(bif (((aB.map Node.c).length:Int):Int) != ((aV.map Node.c).length:Int)then(some false)else(oJ aB aV (some true) aB 0))
def Me(aB:az)(aV:az)(cT:Int):St:=⟨[(0,D.sl (aB.map Node.c)),(1,D.sl (aV.map Node.c)),(5,D.int .i64 cT)],[]⟩
theorem Ks(hΓ:Γ.nt=27){aB:az}{aV:az}{r:Bool}{k1:Option Bool}(cY:k1=some r->Ax Γ N f56 (.q [[none]] (D.bool r)) [1,1,1] ⟨[],[]⟩)(hm1:aB.length<=maxLen):∀(rest:az) (i1:Nat),aB.drop i1=rest->oJ aB aV k1 rest i1=some r->Ar Γ N f56 (.q [[none]] (D.bool r)) [1,1,0,1,0] (rest.length+1) (Me aB aV (i1:Int)):=by
 intro rest
 induction rest with
 |nil=>
  intro i1 aq h;rw[oJ]at h;refine aM fun N1 bw bn=>?_
  exact((aU.ge Node.c aq).a [.hl 0 [] []]).ex hΓ bw (cY h)
 |cons bD bg ih1=>
  intro i1 aq h;rw[oJ]at h;refine aM fun N1 bw bn=>?_
  obtain⟨x30,h31,h⟩:=aD h;obtain⟨Dx,h33,h⟩:=aD h;have dH:=(((((aU.lt Node.c aq).a [.n 8]).l (av Node.c 8 (dc aq) rfl)).l (dX Node.c 8 h31 rfl)).g (Kt h33))
  obtain⟨h34,h⟩|⟨h34,h⟩:=aK h
  ·have h:=aG h;subst h;exact(dH.b h34).ret hΓ
  ·exact((dH.b h34).a [.cn [0,1,5] []]).ct hΓ bn (iS aq hm1) (ih1 (i1+1) (dn aq) h)
theorem Ix{aB:az}{aV:az}{r:Bool}(h:vv aB aV=some r):Good prog 56 [D.sl (aB.map Node.c),D.sl (aV.map Node.c)] (D.bool r):=by
 refine gd func56 [[none]] 27 fun hr Γ hΓ=>?_
 rw[vv]at h;obtain⟨h1,h⟩|⟨h1,h⟩:=aK h
 ·have h:=aG h;subst h;exact(aU.b h1).ret hΓ
 ·refine((aU.b h1).a [.cn [0,1,5] []]).lp hΓ (Ks hΓ (fun h=>?_) (by have:=(dU.sl (hr _ (aC (i:=0) rfl))).1;simpa using this) aB 0 rfl h);have h:=aG h;subst h;exact aU.ret hΓ
def kq(aB:aF)(aV:aF):Option Bool:=((w5 aB.rules aV.rules).bind fun y1=>(bif !(y1)then(some false)else((xM aB.ends aV.ends).bind fun y4=>(bif !(y4)then(some false)else((uJ aB.ay aV.ay).bind fun y7=>(bif !(y7)then(some false)else((vv aB.nodes aV.nodes).bind fun Oj=>(bif !(Oj)then(some false)else((qB aB.facts aV.facts).bind fun s8=>(bif !(s8)then(some false)else(bif (aB.cL:Int) != aV.cL then(some false)else(some true))))))))))))
theorem qT{aB:aF}{aV:aF}{r:Bool}(h:kq aB aV=some r):Good prog 17 [D.agg (aF.c aB),D.agg (aF.c aV)] (D.bool r):=by
 refine gd func17 [[none]] 40 fun hr Γ hΓ=>?_
 rw[kq]at h;obtain⟨y1,h2,h⟩:=aD h;obtain⟨h3,h⟩|⟨h3,h⟩:=aK h
 ·have h:=aG h;subst h;exact((aU.g (Au h2)).b h3).ret hΓ
 ·obtain⟨y4,h5,h⟩:=aD h;have k7:=(((aU.g (Au h2)).b h3).g (Kr h5))
  obtain⟨h6,h⟩|⟨h6,h⟩:=aK h
  ·have h:=aG h;subst h;exact(k7.b h6).ret hΓ
  ·obtain⟨y7,h8,h⟩:=aD h;have dH:=((k7.b h6).g (Gg h8))
   obtain⟨h9,h⟩|⟨h9,h⟩:=aK h
   ·have h:=aG h;subst h;exact(dH.b h9).ret hΓ
   ·obtain⟨Oj,h11,h⟩:=aD h;have jU:=((dH.b h9).g (Ix h11))
    obtain⟨h12,h⟩|⟨h12,h⟩:=aK h
    ·have h:=aG h;subst h;exact(jU.b h12).ret hΓ
    ·obtain⟨s8,h14,h⟩:=aD h;have iU:=((jU.b h12).g (sD h14))
     obtain⟨h15,h⟩|⟨h15,h⟩:=aK h
     ·have h:=aG h;subst h;exact(iU.b h15).ret hΓ
     ·obtain⟨h16,h⟩|⟨h16,h⟩:=aK h
      ·have h:=aG h;subst h;exact((iU.b h15).b h16).ret hΓ
      ·have h:=aG h;subst h;exact((iU.b h15).b h16).ret hΓ
end Go.Cx

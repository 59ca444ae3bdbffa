/- Regions whose order is drawn, where operations that only compute float beside a chain that makes objects of objects: every order gives the state of the text's order. No condition; plain lemmas. -/
import Derived.Test.YtbeaohmbmfjabaaGreatDoorPTakeFromNetworkG2
import Derived.LoopN
import Derived.Test.YtbeaohmbmfjabaaGreatDoorProg
import Derived.KernelRfl
set_option linter.unusedVariables false
set_option linter.unusedSimpArgs false
namespace Go.Cx
open Go.RowKit
abbrev eY:=List An
section
variable{P:Program}{Γ:vP}{Q:Exit->St->Prop}{st:St}{κ:Nat->Option Value}{Θ:Nat->Nat}{a:Act}{w:World}{all:Array Oper}{X:aa}
def BQ(X:aa)(H H':bU):Prop:=∀(i:Nat) o,i∉X->H[i]?=some o->H'[i]?=some o
theorem BQ.refl{X:aa}(H:bU):BQ X H H:=fun _ _ _ h=>h
theorem BQ.trans{X:aa}{A B C:bU}(h:BQ X A B)(k:BQ X B C):BQ X A C:=fun i o n e=>k i o n (h i o n e)
theorem BQ.app{X:aa}{H H':bU}(h:BQ X H H')(n:bU):BQ X H (H'++n):=by
 intro i o hni hi;have:=h i o hni hi;rw[b9 (aH.1 this).1,this]
theorem BQ.cs{X:aa}{H H':bU}(h:BQ X H H'){i:Nat}{cs:aR}(hi:i∉X)(hc:(H[i]?).bind Ob.Z6=some cs):(H'[i]?).bind Ob.Z6=some cs:=by
 obtain⟨ob,hb,Y9⟩:=o6.1 hc;rw[h i ob hi hb];exact Y9
def El(X:aa)(st:St):Op->Bool
 | .fieldAddr _ _ _=>true
 | .field _ _ _=>true
 | .extract _ _=>true
 | .move _=>true
 | .binOp _ _ _ _ _=>true
 | .unOp _ _ _=>true
 | .nilCheck _=>true
 | .convert _ _ _=>true
 | .index _ _ _=>true
 | .build _ _=>true
 | .indexAddr _ x _=>(match st.ev x with| .sl _=>true| .acc id=> !X.contains id|_=>false)
 | .load _ x=>(match st.ev x with| .ep _ _=>true| .ptr id _=> !X.contains id| .op id _ _ _=> !X.contains id|_=>false)
 |_=>false
theorem a2x{X:aa}{σ σ':List (Nat×D)}{H H':bU}{op:Op}{d:D}(hx:BQ X H H')(hs:El X ⟨σ,H⟩ op=true)(he:∀x∈op.operands.toList,St.ev ⟨σ,H⟩ x=St.ev ⟨σ',H'⟩ x)(h:pv P ⟨σ,H⟩ op=some d):pv P ⟨σ',H'⟩ op=some d:=by
 cases op<;>simp only[El,BN]at hs<;>simp only[pv]at h⊢
 case move x=>rw[he x (by simp[Op.operands])]at*;exact h
 case nilCheck x=>rw[he x (by simp[Op.operands])]at h;exact h
 case binOp op t x y t'=>rw[he x (by simp[Op.operands]),he y (by simp[Op.operands])]at h;exact h
 case unOp op t x=>cases op<;>simp only[pv]at h⊢ <;>(try cases h)<;>(rw[he x (by simp[Op.operands])]at h;exact h)
 case convert s d x=>rw[he x (by simp[Op.operands])]at h;exact h
 case field t x f=>rw[he x (by simp[Op.operands])]at h;exact h
 case fieldAddr t x f=>rw[he x (by simp[Op.operands])]at h;exact h
 case indexAddr t x i=>
  rw[he x (by simp[Op.operands])]at hs;rw[he x (by simp[Op.operands]),he i (by simp[Op.operands])]at h;split at hs
  ·rename_i rows h0;rw[h0]at h⊢;generalize IJ P t=a at h⊢;generalize St.ev ⟨σ',H'⟩ i=b at h⊢;cases a<;>cases b<;>exact h
  ·rename_i id h0;rw[h0]at h⊢;generalize IJ P t=a at h⊢;generalize St.ev ⟨σ',H'⟩ i=b at h⊢;cases a<;>cases b<;>first|exact h|skip
   dsimp only at h⊢;cases hH:H[id]? with
   |none=>rw[hH]at h;cases h
   |some o=>rw[hx id o (by simpa using hs) hH];rw[hH]at h;exact h
  ·cases hs
 case load t x=>
  rw[he x (by simp[Op.operands])]at hs h;split at hs
  ·rename_i row off h0;rw[h0]at h⊢;generalize C6 P t=a at h⊢;cases a<;>exact h
  ·rename_i id off h0;rw[h0]at h⊢;generalize C6 P t=a at h⊢;cases a
   ·exact h
   ·dsimp only at h⊢;split at h
    ·rename_i cells hH;simp only[hx.cs (by simpa using hs) hH];exact h
    ·cases h
  ·rename_i id i sz off h0;rw[h0]at h⊢;generalize C6 P t=a at h⊢;cases a
   ·exact h
   ·dsimp only at h⊢;cases hH:H[id]? with
    |none=>rw[hH]at h;cases h
    |some o=>rw[hx id o (by simpa using hs) hH];rw[hH]at h;exact h
  ·cases hs
 case extract x i=>rw[he x (by simp[Op.operands])]at h;exact h
 case index t x i=>rw[he x (by simp[Op.operands]),he i (by simp[Op.operands])]at h;exact h
 case build t parts=>
  have:(parts.toList.map fun p=>(p.1,St.ev ⟨σ,H⟩ p.2))=parts.toList.map fun p=>(p.1,St.ev ⟨σ',H'⟩ p.2):=by
   apply mB;intro p hp;rw[he p.2 (by simp only[Op.operands];simp;exact⟨p.1,by simpa using hp⟩)]
  rw[this]at h;exact h
def Vy(xs acc:aa):aa:=xs.foldl (fun acc x=>bif acc.contains x then acc else x::acc) acc
theorem Ws:∀ {xs acc:aa} {x:Nat},x∈Vy xs acc->x∈xs\/x∈acc:=by
 intro xs
 induction xs with
 |nil=>intro acc x h;exact .inr h
 |cons y ys ih=>
  intro acc x h;rcases ih (acc:=bif acc.contains y then acc else y::acc) h with h|h
  ·exact .inl (by simp[h])
  ·cases hc:acc.contains y with
   |true=>rw[hc]at h;exact .inr h
   |false=>
    rw[hc]at h;rcases bM.1 h with rfl|h
    ·exact .inl (by simp)
    ·exact .inr h
def a5P(acc:List aa)(es:List Edge):aa:=es.foldl (fun d e=>bif Region.binds .any e then Vy (e.on::acc.getD e.on []) d else d) []
theorem ZU{acc:List aa}{es:List Edge}{i:Nat}(h:i∈a5P acc es):∃e∈es,Region.binds .any e=true/\(i=e.on\/i∈acc.getD e.on []):=by
 have key:∀(es:List Edge) (d:aa),i∈es.foldl (fun d e=>bif Region.binds .any e then Vy (e.on::acc.getD e.on []) d else d) d->i∈d\/∃e∈es,Region.binds .any e=true/\(i=e.on\/i∈acc.getD e.on []):=by
  intro es
  induction es with
  |nil=>intro d h;exact .inl h
  |cons e es ih=>
   intro d h;rcases ih _ h with h|⟨e',h1,h2⟩
   ·cases hb:Region.binds .any e with
    |false=>simp only[hb,ah]at h;exact .inl h
    |true=>
     simp only[hb,aW]at h;rcases Ws h with h|h
     ·exact .inr ⟨e,by simp,hb,by simpa using h⟩
     ·exact .inl h
   ·exact .inr ⟨e',by simp[h1],h2⟩
 rcases key es [] h with h|h
 ·cases h
 ·exact h
def N9(acc:List aa)(o:Oper):List aa:=acc++[a5P acc o.after.toList]
def WG(ops:List Oper):List aa:=ops.foldl N9 []
theorem a42{ops:Array Oper}{listed:Array Bool}(closed:∀(j:Nat) oj,ops[j]?=some oj->listed.getD j false=true->∀e∈oj.after,Region.binds .any e=true->listed.getD e.on false=true):
 ∀(l pre:List Oper) (acc:List aa),ops.toList=pre++l->acc.length=pre.length->
  (∀(j:Nat) o,ops[j]?=some o->(∀e∈o.after,Region.binds .any e=true->listed.getD e.on false=true)->∀i∈acc.getD j [],listed.getD i false=true)->
  ∀(j:Nat) o,ops[j]?=some o->(∀e∈o.after,Region.binds .any e=true->listed.getD e.on false=true)->∀i∈(l.foldl N9 acc).getD j [],listed.getD i false=true:=by
 intro l
 induction l with
 |nil=>intro pre acc _ _ h;exact h
 |cons o l ih=>
  intro pre acc hl ha h;refine ih (pre++[o]) (N9 acc o) (by simp[hl]) (by simp[N9,ha]) ?_;intro j oj hj hall i hi;unfold N9 at hi;rw[lP]at hi;rcases yM j acc.length with hlt|heq|hgt
  ·rw[b9 hlt,<-lP]at hi;exact h j oj hj hall i hi
  ·subst heq;rw[bE (bR _),oz]at hi;simp only[D6,zD]at hi;have ho:oj=o:=by
    rw[<-uy,hl,bE (by omega),ha,oz]at hj;simpa using hj.symm
   subst ho;obtain⟨e,he,hb,hi⟩:=ZU hi;have he':e∈oj.after:=by simpa using he
   have hel:=hall e he' hb;rcases hi with rfl|hi
   ·exact hel
   ·cases hoe:ops[e.on]? with
    |none=>
     have h1:e.on<acc.length:=by
      rcases eH e.on acc.length with h|h
      ·exact h
      ·rw[lP,ck h]at hi;cases hi
     have h2:ops.size<=e.on:=by simpa using hoe
     have h3:ops.size=pre.length+(l.length+1):=by rw[<-wY,hl];simp
     omega
    |some oe=>exact h e.on oe hoe (closed e.on oe hoe hel) i hi
  ·rw[ck (by simp;omega)]at hi;cases hi
theorem zv{ops:Array Oper}{listed:Array Bool}(closed:∀(j:Nat) oj,ops[j]?=some oj->listed.getD j false=true->∀e∈oj.after,Region.binds .any e=true->listed.getD e.on false=true){j:Nat}(hj:j∈Region.ready .any ops listed){i:Nat}(hi:((WG ops.toList).getD j []).contains i=true):listed.getD i false=true:=by
 obtain⟨_,o,ho,hall⟩:=mem_ready.1 hj;exact a42 closed ops.toList [] [] (by simp) rfl (by simp) j o ho hall i (List.contains_iff_mem.1 hi)
def a11(dp:List aa)(ops:Array Oper)(n m:Nat)(L:aa):Bool:=
 (decide (n<=m)&&decide (m<ops.size))&&
 (Region.seqB .any ops (ops.size-m) m (Array.replicate m true++Array.replicate (ops.size-m) false)&&
 (((List.range (ops.size-m)).all fun j=>(List.range m).all fun i=>(dp.getD (m+j) []).contains i)&&
 (((List.range (m-n)).all fun j=>(List.range (n+j)).all fun i=>(dp.getD (n+j) []).contains i||L.contains i)&&
 (((List.range m).all fun i=>match ops[i]? with|none=>false|some o=>o.after.all fun e=> !Region.binds .any e||decide (e.on<i))&&
 ((
  (List.range n).all fun i=>match ops[i]? with
  |none=>false
  |some o=>((o.looksAt ops).all fun t=>(List.range n).all fun j=>match ops[j]? with|some oj=> !(oj.dst==some t)||(decide (j<i)&&Region.waitsFor .any ops i j)|none=>true)&&
   (List.range n).all fun j=>j==i||(match ops[j]? with|some oj=> !(oj.dst==o.dst)||o.dst.isNone|none=>true))&&
 ((
  (List.range (m-n)).all fun j=>match ops[n+j]? with
  |none=>false
  |some o=>L.all fun i=>match ops[i]? with
   |none=>false
   |some oi=>(!(oi.dst==o.dst)&& !((oi.looksAt ops).any fun t=>o.dst==some t))&&((dp.getD (n+j) []).contains i|| !((o.looksAt ops).any fun t=>oi.dst==some t)))&&
 L.all fun i=>decide (i<n)&&(match ops[i]? with|some oi=>oi.guard.isNone&&oi.dst.isSome|none=>false)))))))
def QE(ops:Array Oper)(n m:Nat)(L:aa):Bool:=a11 (WG ops.toList) ops n m L
def Step(P:Program)(Γ:vP)(o:Oper)(st AA:St):Prop:=
 ∀κ Θ a w,eE Γ st κ Θ a w->o.wp P a w (fun a' w'=>∃κ' Θ',eE Γ AA κ' Θ' a' w') (fun e _ _=>e=.normal)
def a0S(P:Program)(Γ:vP)(X:aa)(K:St->Prop):List Oper->St->Prop
 | [],st=>K st
 |o::os,st=>∃AA,((∃t d,o.dst=some t/\t<Γ.nt/\AA.σ=(t,d)::st.σ)\/(o.dst=none/\AA.σ=st.σ))/\BQ X st.H AA.H/\o.guard=none/\(∀cs b,o.op≠ .select cs b)/\Step P Γ o st AA/\a0S P Γ X K os AA
theorem Vf{o:Oper}{a b:Act}{w:World}{K K2:Act->World->Prop}{Q1 Q2:Exit->Act->World->Prop}(hsel:∀cs b,o.op≠ .select cs b)(he:∀x∈o.op.operands,a.eval x=b.eval x)
 (hK:∀v w',K (b.put o.dst v) w'->K2 (a.put o.dst v) w') (hdf:∀d w',¬K ({b with defers:=d::b.defers}.put o.dst undef) w') (hQ:∀e c w',Q1 e c w'->e=.normal) (h:o.wp P b w K Q1):o.wp P a w K2 Q2:=by
 unfold Oper.wp at*;rw[execOp_congr o hsel he];generalize(execOp b.eval o).run P w=r at*;cases r with
 |ok n w'=>
  cases n with
  |value v=>exact hK _ _ h
  |skip=>exact hK _ _ h
  |defer d=>exact absurd h (hdf _ _)
  |enter f args=>
   refine Calls.mono h ?_;intro e w'' he;cases e with
   |returned v=>exact hK _ _ he
   |panicked c=>exact absurd (hQ _ _ _ he) (by simp)
   |outgrown=>
    obtain⟨a0,w0,hq⟩:=he;exact absurd (hQ _ _ _ hq) (by simp)
  |row r args=>exact Rows.mono h fun v w'' he=>hK _ _ he
  |_=>exact h.elim
 |halt x w'=>
  cases x with
  |panic u=>exact absurd (hQ _ _ _ h) (by simp)
  |_=>exact h.elim
theorem a7j{l:List (Nat×D)}{σ:List (Nat×D)}(h:∀p∈l,p.2=.any){t:Nat}(ht:t∈l.map Prod.fst):lk (l++σ) t=.any:=by
 induction l with
 |nil=>cases ht
 |cons p l ih=>
  obtain⟨u,d⟩:=p;have hd:d=.any:=h (u,d) (by simp);subst hd;simp only[dP,lk];by_cases e:t=u
  ·rw[bP e]
  ·rw[bH e];refine ih (fun p hp=>h p (by simp[hp])) ?_;simp only[bG,bM]at ht;rcases ht with h|h
   ·exact absurd h e
   ·exact h
theorem Lo(a:Act){t u:Nat}(v:Value)(h:u≠t):(a.put (some t) v).tmps.getD u undef=a.tmps.getD u undef:=by
 show(a.tmps.setIfInBounds t v).getD u undef=_;simp[cO,tP h]
theorem NW(a:Act){t:Nat}(v:Value)(h:t<a.tmps.size):(a.put (some t) v).tmps.getD t undef=v:=by
 show(a.tmps.setIfInBounds t v).getD t undef=_;simp[cO,h]
theorem count_set{m i:Nat}{listed:Array Bool}(hi:i<m)(hsz:i<listed.size)(hl:listed.getD i false=false):((List.range m).filter fun j=> !(listed.setIfInBounds i true).getD j false).length+1=((List.range m).filter fun j=> !listed.getD j false).length:=by
 have ZG:((List.range m).filter fun j=> !(listed.setIfInBounds i true).getD j false)=((List.range m).filter fun j=> !listed.getD j false).erase i:=by
  have hnd:((List.range m).filter fun j=> !listed.getD j false).Nodup:=zW _ D8;rw[hnd.erase_eq_filter,xV];apply yL;intro j _;by_cases e:j=i
  ·subst e;simp[hsz]
  ·rw[getD_set_ne false (tP e)];simp[e]
 have hmem:i∈(List.range m).filter fun j=> !listed.getD j false:=fY.2 ⟨bp.2 hi,by simp only[hl];rfl⟩
 have hpos:0<((List.range m).filter fun j=> !listed.getD j false).length:=Dz hmem;rw[ZG,rF hmem];omega
def a0h(P:Program)(Γ:vP)(X:aa)(l:List Oper)(σF:List (Nat×D))(H0:bU)(i:Nat):Prop:=
 ∃o t d,l.toArray[i]?=some o/\o.guard=none/\o.dst=some t/\t<Γ.nt/\lk σF t=d/\∀σ' H',BQ X H0 H'->(∀u∈o.looksAt l.toArray,lk σ' u=lk σF u)->pv P ⟨σ',H'⟩ o.op=some d
theorem Ua{l:List Oper}{n m:Nat}{L:aa}{σF:List (Nat×D)}{H0:bU}(hB:QE l.toArray n m L=true)(a5W:∀i∈L,a0h P Γ X l σF H0 i):
 ∀(f c:Nat) (S:St) (listed:Array Bool) (σ':List (Nat×D)) (κ:Nat->Option Value) (Θ:Nat->Nat) (a:Act) (w:World),HeadInv .any l.toArray l.toArray.size listed->
  (∀i,i<n->i∉L->listed.getD i false=true)->n+c<=m->(∀i,n<=i->i<n+c->listed.getD i false=true)->(∀i,n+c<=i->i<l.toArray.size->listed.getD i false=false)->
  ((List.range m).filter fun i=> !listed.getD i false).length=f->
  (∀t,(∀(i:Nat) o,l.toArray[i]?=some o->n<=i->i<n+c->o.dst≠some t)->lk S.σ t=lk σF t)->BQ X H0 S.H->
  a0S P Γ X (fun xQ=>AO P Γ l.toArray (l.drop m) Q xQ) ((l.drop (n+c)).take (m-(n+c))) S->
  (∀t,(∀i∈L,∀o,l.toArray[i]?=some o->listed.getD i false=false->o.dst≠some t)->lk σ' t=lk S.σ t)->
  eE Γ ⟨σ',S.H⟩ κ Θ a w->
  wpAny P .any l.toArray (fun e a' w'=>∃xQ κ' Θ',eE Γ xQ κ' Θ' a' w'/\Q e xQ) (f+(l.toArray.size-m)) listed a w:=by
 simp only[QE,a11,aY,bI]at hB;obtain⟨⟨hnm,T5⟩,a4F,a1P,hmid,a1B,a1D,a1L,hL⟩:=hB;have aBb:∀i,i<m->∃o,l.toArray[i]?=some o/\∀e∈o.after,Region.binds .any e=true->e.on<i:=by
  intro i hi;have:=bA.1 a1B i (bp.2 hi);split at this
  ·cases this
  ·rename_i o ho;refine⟨o,ho,fun e he hb=>?_⟩;have:=xU.1 this e he;simpa[hb]using this
 have Hq:∀i∈L,i<n:=by
  intro i hi;have:=bA.1 hL i hi;simp only[aY,bI]at this;exact this.1
 have Un:∀(i:Nat) o,i<n->l.toArray[i]?=some o->∀u∈o.looksAt l.toArray,∀(j:Nat) oj,j<n->l.toArray[j]?=some oj->oj.dst=some u->j<i/\Region.waitsFor .any l.toArray i j=true:=by
  intro i o hi ho u hu j oj hj zx hd;have:=bA.1 a1D i (bp.2 hi);simp only[ho,aY]at this;have:=bA.1 (bA.1 this.1 u hu) j (bp.2 hj);simpa[zx,hd]using this
 have NS:∀(j:Nat) o,n<=j->j<m->l.toArray[j]?=some o->∀i∈L,∀oi,l.toArray[i]?=some oi->oi.dst≠o.dst/\(∀u∈oi.looksAt l.toArray,o.dst≠some u)/\(((WG l.toArray.toList).getD j []).contains i=true\/∀u∈o.looksAt l.toArray,oi.dst≠some u):=by
  intro j o K4 hj2 ho i hi oi hoi;have:=bA.1 a1L (j-n) (bp.2 (by omega));rw[show n+(j-n)=j from by omega]at this;simp only[ho]at this;have:=bA.1 this i hi;simp only[hoi,aY,nx,oU]at this;obtain⟨⟨h1,h2⟩,h3⟩:=this;refine⟨by simpa using h1,fun u hu he=>?_,h3.imp id fun h u hu he=>?_⟩
  ·have:=CM.1 h2 u hu;simp[he]at this
  ·have:=CM.1 h u hu;simp[he]at this
 intro f
 induction f with
 |zero=>
  intro c S listed σ' κ Θ a w inv hN hc hM hT p7 hS hX hA hag hs;have hall:∀i,i<m->listed.getD i false=true:=by
   intro i hi;have h0:=cZ p7;cases hl:listed.getD i false with
   |true=>rfl
   |false=>
    have:i∈(List.range m).filter fun i=> !listed.getD i false:=fY.2 ⟨bp.2 hi,by simp only[hl];rfl⟩
    rw[h0]at this;cases this
  have hcm:n+c=m:=by
   rcases eH (n+c) m with h|h
   ·have h1:=hall (n+c) h;rw[hT (n+c) (bR _) (by omega)]at h1;cases h1
   ·omega
  have a1H:listed=Array.replicate m true++Array.replicate (l.toArray.size-m) false:=by
   apply Array.ext
   ·rw[inv.size];simp at T5⊢;omega
   ·intro i h1 h2;by_cases hi:i<m
    ·have:=hall i hi;rw[C9 (by simpa using hi)];simp[h1]at this;simp[this]
    ·have hi':i<l.toArray.size:=by rw[<-inv.size];exact h1
     have:=hT i (by omega) hi';rw[BM (by simpa using hi)];simp[h1]at this;simp[this]
  rw[cm];rw[hcm,oz,List.take_zero]at hA;have hA:AO P Γ l.toArray (l.drop m) Q S:=hA;have hs2:=eE.same (st:=⟨σ',S.H⟩) (σ':=S.σ) (fun t=>hag t (fun i hi o ho hl=>by rw[hall i (by have:=Hq i hi;omega)]at hl;cases hl)) hs;have hwp:=hA κ Θ a w hs2;have hdl:(l.drop m).length=l.toArray.size-m:=by simp
  have:=wpAny_of_seq (md:=.any) (l.drop m) m listed a w (fun j=>by simp[dl]) (by rw[hdl,a1H];exact a4F) hwp
  rwa[hdl]at this
 |succ f ih=>
  intro c S listed σ' κ Θ a w inv hN hc hM hT p7 hS hX hA hag hs;have hun:∃i,i<m/\listed.getD i false=false:=by
   have hne:((List.range m).filter fun i=> !listed.getD i false)≠[]:=by
    intro h0;rw[h0]at p7;simp at p7
   obtain⟨i,hi⟩:=wR _ hne;obtain⟨h1,h2⟩:=fY.1 hi;exact⟨i,bp.1 h1,by simpa using h2⟩
  have hsz:=inv.size;rw[show f+1+(l.toArray.size-m)=(f+(l.toArray.size-m))+1 from by omega];refine⟨fun h0=>?_,fun i hi=>?_⟩
  ·exfalso;obtain⟨i,⟨hin,Vk⟩,hmin⟩:=exists_least (p:=fun i=>i<m/\listed.getD i false=false) hun;obtain⟨o,ho,hed⟩:=aBb i hin;have:i∈Region.ready .any l.toArray listed:=by
    refine mem_ready.2 ⟨getD_in (by rw[hsz];omega) Vk,o,ho,fun e he hb=>?_⟩;have:=hed e he hb;cases hl:listed.getD e.on false with
    |true=>rfl
    |false=>have:=hmin e.on ⟨by omega,hl⟩;omega
   rw[h0]at this;cases this
  ·obtain⟨i0,hi0,hl0⟩:=hun;obtain⟨Vk,o,ho,hall⟩:=mem_ready.1 hi;have Cr:=getD_both Vk;have Ee:i<l.toArray.size:=(bL.1 ho).1;have him:i<m:=by
    rcases eH i m with h|h
    ·exact h
    ·have h1:=bA.1 a1P (i-m) (bp.2 (by omega));have h2:=bA.1 h1 i0 (bp.2 hi0);rw[show m+(i-m)=i from by omega]at h2;rw[zv inv.closed hi h2]at hl0;cases hl0
   have ZG:=count_set him (by rw[hsz];exact Ee) Cr;have qT:∀(j:Nat),(listed.setIfInBounds i true).getD j false=true↔(j=i\/listed.getD j false=true):=by
    intro j;by_cases e:i=j
    ·subst e;have:i<listed.size:=by rw[hsz];exact Ee
     simp[this]
    ·rw[getD_set_ne false e];constructor
     ·exact .inr
     ·rintro(rfl|h)
      ·exact absurd rfl e
      ·exact h
   have aDc:∀(j:Nat),(listed.setIfInBounds i true).getD j false=false->j≠i/\listed.getD j false=false:=by
    intro j h;refine⟨fun e=>?_,?_⟩
    ·have:=(qT j).2 (.inl e);rw[this]at h;cases h
    ·cases h2:listed.getD j false with
     |false=>rfl
     |true=>have:=(qT j).2 (.inr h2);rw[this]at h;cases h
   rcases eH i n with hin|hin
   ·
    have hiL:i∈L:=by
     by_cases h:i∈L
     ·exact h
     ·rw[hN i hin h]at Cr;cases Cr
    obtain⟨o',t,d,ho',hg,hd,htn,hdF,hpv⟩:=a5W i hiL;rw[ho]at ho';cases ho';have Up:∀u∈o.looksAt l.toArray,lk σ' u=lk σF u:=by
     intro u hu;rw[hag u,hS u]
     ·intro j oj zx K4 hj2 he;exact(NS j oj K4 (by omega) zx i hiL o ho).2.1 u hu he
     ·intro j hj oj zx hlj he;obtain⟨h1,h2⟩:=Un i o hin ho u hu j oj (Hq j hj) zx he;obtain⟨o2,ho2,e,Lh,hb,hon⟩:=Region.waitsFor_spec h2;rw[ho]at ho2;cases ho2;have:=hall e Lh hb;rw[hon,hlj]at this;cases this
    have hp:=hpv σ' S.H hX Up;obtain⟨v,bs,hrun,hrd,hz⟩:=Hy (st:=⟨σ',S.H⟩) hs hp;refine C7 ho (by simp[Region.wanted,hg]) ?_;unfold Oper.wp;rw[hrun,Oper.upon_value,hd];refine ih c S (listed.setIfInBounds i true) ((t,d)::σ') κ Θ _ w (inv.set hi Ee) ?_ hc ?_ ?_ (by omega) hS hX hA ?_ (hs.set (st:=⟨σ',S.H⟩) htn hrd hz)
    ·intro j hj hjL;exact(qT j).2 (.inr (hN j hj hjL))
    ·intro j K4 hj2;exact(qT j).2 (.inr (hM j K4 hj2))
    ·intro j K4 hj2;rw[getD_set_ne false (by omega)];exact hT j K4 hj2
    ·intro u hu;simp only[lk];by_cases e:u=t
     ·rw[bP e,e,hS t,hdF];intro j oj zx K4 hj2 he;exact(NS j oj K4 (by omega) zx i hiL o ho).1 (by rw[hd,he])
     ·rw[bH e];refine hag u fun j hj oj zx hlj he=>?_
      by_cases hji:j=i
      ·subst hji;rw[ho]at zx;cases zx;rw[hd]at he;cases he;exact e rfl
      ·exact hu j hj oj zx (by rw[getD_set_ne false (tP hji)];exact hlj) he
   ·
    have hic:i=n+c:=by
     rcases yM i (n+c)with h|h|h
     ·rw[hM i hin h]at Cr;cases Cr
     ·exact h
     ·have h1:=bA.1 hmid (i-n) (bp.2 (by omega));rw[show n+(i-n)=i from by omega]at h1;have h2:=bA.1 h1 (n+c) (bp.2 h);simp only[oU]at h2;rcases h2 with h2|h2
      ·have:=zv inv.closed hi h2;rw[hT (n+c) (bR _) (by omega)]at this;cases this
      ·have:=Hq (n+c) (by simpa using h2);omega
    subst hic;have Um:(l.drop (n+c)).take (m-(n+c))=o::(l.drop (n+(c+1))).take (m-(n+(c+1))):=by
     have h1:l[n+c]?=some o:=by simpa using ho
     have h2:(n+c)<l.length:=(aH.1 h1).1;have h3:l[n+c]=o:=(aH.1 h1).2;rw[mW h2,h3,show m-(n+c)=(m-(n+(c+1)))+1 from by omega,wZ];rfl
    rw[Um]at hA;obtain⟨S1,T0,hX1,hgm,hsel,hstep,hA1⟩:=hA;have aCE:∀u,o.dst≠some u->lk S1.σ u=lk S.σ u:=by
     intro u hu;rcases T0 with⟨tm,dm,hdm,htm,a7I⟩|⟨_,a7I⟩
     ·rw[a7I];simp only[lk];rw[bH (fun e=>hu (by rw[hdm,e]))]
     ·rw[a7I]
    have a9O:∀(b:Act) (v:Value),(b.put o.dst v).tmps.size=b.tmps.size:=by
     intro b v;rcases T0 with⟨tm,dm,hdm,_,_⟩|⟨hdm,_⟩
     ·rw[hdm];show(b.tmps.setIfInBounds tm v).size=_;simp
     ·rw[hdm];rfl
    have a9N:∀(b:Act) (v:Value),(b.put o.dst v).defers=b.defers:=by
     intro b v;cases o.dst<;>rfl
    have fill:∀k,k<=n->∃(ak:Act) (σk:List (Nat×D)),eE Γ ⟨σk,S.H⟩ κ Θ ak w/\(∀u,(∀j∈L,∀oj,l.toArray[j]?=some oj->listed.getD j false=false->k<=j->oj.dst≠some u)->lk σk u=lk S.σ u)/\
     (∀u,(∀j∈L,∀oj,l.toArray[j]?=some oj->listed.getD j false=false->oj.dst≠some u)->ak.tmps.getD u undef=a.tmps.getD u undef):=by
     intro k
     induction k with
     |zero=>intro _;exact⟨a,σ',hs,fun u hu=>hag u (fun j hj oj zx hl=>hu j hj oj zx hl (G2 _)),fun _ _=>rfl⟩
     |succ k ihk=>
      intro hk;obtain⟨ak,σk,hsk,a6l,hek⟩:=ihk (by omega);by_cases hkl:k∈L/\listed.getD k false=false
      ·obtain⟨hkL,hkF⟩:=hkl;obtain⟨ok,t,d,hok,hg,hd,htn,hdF,hpv⟩:=a5W k hkL;have Up:∀u∈ok.looksAt l.toArray,lk σk u=lk σF u:=by
        intro u hu;rw[a6l u,hS u]
        ·intro j oj zx K4 hj2 he;exact(NS j oj K4 (by omega) zx k hkL ok hok).2.1 u hu he
        ·intro j hj oj zx hlj hkj he;obtain⟨h1,h2⟩:=Un k ok (by omega) hok u hu j oj (Hq j hj) zx he;omega
       have hp:=hpv σk S.H hX Up;obtain⟨v,bs,hrun,hrd,hz⟩:=Hy (st:=⟨σk,S.H⟩) hsk hp;refine⟨ak.put (some t) v,(t,d)::σk,hsk.set (st:=⟨σk,S.H⟩) htn hrd hz,?_,?_⟩
       ·intro u hu;simp only[lk];by_cases e:u=t
        ·rw[bP e,e,hS t,hdF];intro j oj zx K4 hj2 he;exact(NS j oj K4 (by omega) zx k hkL ok hok).1 (by rw[hd,he])
        ·rw[bH e];refine a6l u fun j hj oj zx hlj hkj he=>?_
         by_cases hjk:j=k
         ·subst hjk;rw[hok]at zx;cases zx;rw[hd]at he;cases he;exact e rfl
         ·exact hu j hj oj zx hlj (by omega) he
       ·intro u hu;rw[Lo _ _ (fun e=>hu k hkL ok hok hkF (by rw[hd,e])),hek u hu]
      ·refine⟨ak,σk,hsk,fun u hu=>a6l u fun j hj oj zx hlj hkj=>?_,hek⟩;by_cases hjk:j=k
       ·subst hjk;exact absurd ⟨hj,hlj⟩ hkl
       ·exact hu j hj oj zx hlj (by omega)
    obtain⟨an,σn,hsn,aBn,hen⟩:=fill n (bR _);have hsS:=eE.same (st:=⟨σn,S.H⟩) (σ':=S.σ) (fun u=>aBn u (fun j hj oj zx _ hnj=>by have:=Hq j hj;omega)) hsn;have hwp:=hstep κ Θ an w hsS;refine C7 ho (by simp[Region.wanted,hgm]) (Vf (Q2:=_) hsel ?_ ?_ ?_ (fun e _ _ h=>h) hwp)
    ·intro x hx;cases x with
     |tmp u=>
      refine(hen u fun j hj oj zx hlj he=>?_).symm;have hu:u∈o.looksAt l.toArray:=by
       unfold Oper.looksAt;exact ar.2 (.inl (cD.2 ⟨.tmp u,by simpa using hx,rfl⟩))
      rcases(NS (n+c) o (by omega) him ho j hj oj zx).2.2 with h|h
      ·rw[zv inv.closed hi h]at hlj;cases hlj
      ·exact h u hu he
     |const v=>rfl
     |global g=>rfl
     |func f=>rfl
    ·rintro v w' ⟨κ',Θ',hs'⟩;let late:List (Nat×D):=(L.filterMap fun j=>bif listed.getD j false then none else(l.toArray[j]?).bind (·.dst)).map fun u=>(u,D.any)
     have Uo:∀u,u∈late.map Prod.fst↔∃j∈L,∃oj,l.toArray[j]?=some oj/\listed.getD j false=false/\oj.dst=some u:=by
      intro u;simp only[late,qj,cH,cD,Function.comp];constructor
      ·rintro⟨x,⟨j,hj,hx⟩,rfl⟩;cases hl:listed.getD j false with
       |true=>rw[hl]at hx;cases hx
       |false=>
        rw[hl,ah]at hx;cases zx:l.toArray[j]? with
        |none=>rw[zx]at hx;cases hx
        |some oj=>rw[zx]at hx;exact⟨j,hj,oj,zx,hl,hx⟩
      ·rintro⟨j,hj,oj,zx,hl,hx⟩;exact⟨u,⟨j,hj,by rw[hl,ah,zx];exact hx⟩,rfl⟩
     have hs2:eE Γ ⟨late++S1.σ,S1.H⟩ κ' Θ' (a.put o.dst v) w':=by
      refine⟨by rw[a9N];exact hs.defers,by rw[a9O];exact hs.size,hs'.rD,hs'.qR,?_,hs'.ob,hs'.own,hs'.old,hs'.mine,hs'.stays,hs'.wE⟩;intro u;show∃bs,tQ w' κ' _ (lk (late++S1.σ) u) bs/\_;by_cases hu:u∈late.map Prod.fst
      ·rw[a7j (fun p hp=>by simp only[late,cH]at hp;obtain⟨_,_,rfl⟩:=hp;rfl) hu];exact⟨[],.of (.any _),by simp⟩
      ·rw[Hs _ _ _ (fun p hp e=>hu (cH.2 ⟨p,hp,e⟩))];have e1:(a.put o.dst v).tmps.getD u undef=(an.put o.dst v).tmps.getD u undef:=by
        have e0:=(hen u fun j hj oj zx hlj he=>hu ((Uo u).2 ⟨j,hj,oj,zx,hlj,he⟩)).symm;rcases T0 with⟨tm,dm,hdm,htm,_⟩|⟨hdm,_⟩
        ·rw[hdm];by_cases e:u=tm
         ·subst e;rw[NW _ _ (by rw[hs.size];exact htm),NW _ _ (by rw[hsn.size];exact htm)]
         ·rw[Lo _ _ e,Lo _ _ e];exact e0
        ·rw[hdm];exact e0
       rw[e1];exact hs'.slot u
     refine ih (c+1) S1 (listed.setIfInBounds (n+c) true) (late++S1.σ) κ' Θ' _ w' (inv.set hi Ee) ?_ (by omega) ?_ ?_ (by omega) ?_ (hX.trans hX1) hA1 ?_ hs2
     ·intro j hj hjL;exact(qT j).2 (.inr (hN j hj hjL))
     ·intro j K4 hj2;by_cases e:j=n+c
      ·exact(qT j).2 (.inl e)
      ·exact(qT j).2 (.inr (hM j K4 (by omega)))
     ·intro j K4 hj2;rw[getD_set_ne false (by omega)];exact hT j (by omega) hj2
     ·intro u hu;rw[aCE u (hu (n+c) o ho (by omega) (by omega))];exact hS u fun j oj zx K4 hj2=>hu j oj zx K4 (by omega)
     ·intro u hu;rw[Hs];intro p hp e;obtain⟨j,hj,oj,zx,hl,he⟩:=(Uo u).1 (cH.2 ⟨p,hp,e⟩);refine hu j hj oj zx ?_ he;rw[getD_set_ne false (by have:=Hq j hj;omega)];exact hl
    ·rintro d w' ⟨κ',Θ',hs'⟩;have:=hs'.defers;cases hod:o.dst<;>rw[hod]at this<;>cases this
theorem Oz{p:Nat->Bool}{n:Nat}:∀(k:Nat),(∀i,n<=i->i<n+k->p i=true)->((List.range (n+k)).filter p).length=((List.range n).filter p).length+k
 |0,_=>rfl
 |k+1,h=>by
  rw[<-rG,List.range_succ,BO,aX,Oz k (fun i h1 h2=>h i h1 (by omega))];have:p (n+k)=true:=h (n+k) (by omega) (by omega);simp[this];omega
def Ri(P:Program)(Γ:vP)(ops:Array Oper)(Q:Exit->St->Prop)(st:St):Prop:=
 ∀κ Θ a w,eE Γ st κ Θ a w->wpAny P .any ops (fun e a' w'=>∃xQ κ' Θ',eE Γ xQ κ' Θ' a' w'/\Q e xQ) ops.size (Array.replicate ops.size false) a w
theorem Ri.aw{id:Nat}{ops:Array Oper}(hm:P.follows .mixedOrders=true)(h:Ri P Γ ops Q st):AW P Γ (.region id ops true) Q st:=
 fun κ Θ a w hs=>wp_region_any hm (h κ Θ a w.drew hs.drew)
theorem Yy{l:List Oper}(n m:Nat)(L:aa)(hB0:QE l.toArray n m L=true)
 (h:Oe P Γ l.toArray st.H (fun σ acc=>(∀i∈L,∀o,l[i]?=some o->El X ⟨σ,st.H⟩ o.op=true)/\a0S P Γ X (fun xQ=>AO P Γ l.toArray (l.drop m) Q xQ) ((l.drop n).take (m-n)) ⟨σ,st.H++acc⟩) (l.take n) st.σ [] []):Ri P Γ l.toArray Q st:=by
 have hB:=hB0;simp only[QE,a11,aY,bI]at hB;obtain⟨⟨hnm,T5⟩,a4F,a1P,hmid,a1B,a1D,a1L,hL⟩:=hB;have hn:n<l.toArray.size:=by omega
 have Ol:((List.range n).all fun i=>match l.toArray[i]? with
  |none=>false
  |some o=>(o.after.all fun e=> !Region.binds .any e||decide (e.on<i))&&
   ((o.looksAt l.toArray).all fun t=>(List.range n).all fun j=>match l.toArray[j]? with|some oj=> !(oj.dst==some t)||(decide (j<i)&&Region.waitsFor .any l.toArray i j)|none=>true)&&
   (List.range n).all fun j=>j==i||(match l.toArray[j]? with|some oj=> !(oj.dst==o.dst)||o.dst.isNone|none=>true))=true:=by
  rw[bA];intro i hi;have h1:=bA.1 a1B i (bp.2 (by have:=bp.1 hi;omega));have h2:=bA.1 a1D i hi;cases ho:l.toArray[i]? with
  |none=>rw[ho]at h1;cases h1
  |some o=>
   simp only[ho,aY]at h1 h2⊢;exact⟨⟨h1,h2.1⟩,h2.2⟩
 have Hq:∀i∈L,i<n:=by
  intro i hi;have:=bA.1 hL i hi;simp only[aY,bI]at this;exact this.1
 obtain⟨ps,PF,hlen,QN,⟨hstill,hK⟩,hFl,hFo,hFu⟩:=Oe.unfold _ _ _ _ h;simp only[cN,bK,Av,cm]at QN hK hFl hFo hstill;have hn':n<l.length:=by simpa using hn
 have hpl:ps.length=n:=by rw[hlen];simp;omega
 have hop:∀(i:Nat),i<n->∃o p,l.toArray[i]?=some o/\ps[i]?=some p/\o.dst=p.t/\vY P Γ l.toArray st.H (((ps.take i).filterMap Cp.sl).reverse++st.σ) o p/\p.r=st.H.length+((ps.take i).flatMap Cp.obs).length:=by
  intro i hi;have h1:l[i]?=some l[i]:=ai (by omega);have h2:ps[i]?=some ps[i]:=ai (by omega);have h3:=QN i l[i] ps[i] (by rw[cI,bP hi];exact h1) h2;exact⟨l[i],ps[i],by simp[mY,h1],h2,h3.1.slots,h3.1,h3.2.1⟩
 have Wd:∀(i:Nat) p,ps[i]?=some p->p.r=st.H.length+((ps.take i).flatMap Cp.obs).length:=by
  intro i p hp;have hi:i<n:=by have:=(aH.1 hp).1;omega
  obtain⟨_,p',_,hp',_,_,hr⟩:=hop i hi;rw[hp]at hp';cases hp';exact hr
 have T6:∀(i:Nat) p id ob,ps[i]?=some p->p.up=some (id,ob)->st.H.length<=id/\(∃zs ds,ob=.box ds/\zs.length=ds.length/\((ps.take i).flatMap Cp.obs)[id-st.H.length]?=some (.box zs))/\∀(i2:Nat) q D4,i2<i->ps[i2]?=some q->q.up≠some (id,D4):=by
  intro i p id ob hp he;have hi:i<n:=by have:=(aH.1 hp).1;omega
  have h1:l[i]?=some l[i]:=ai (by omega);have h3:=(QN i l[i] p (by rw[cI,bP hi];exact h1) hp).2.2 id ob he;exact⟨h3.2.1,h3.2.2.1,h3.2.2.2⟩
 have a1R:∀(i j:Nat) p q id ob D4,ps[i]?=some p->ps[j]?=some q->p.up=some (id,ob)->q.up=some (id,D4)->i=j:=by
  intro i j p q id ob D4 hp hq he Lh;rcases yM i j with h|h|h
  ·exact absurd he ((T6 j q id D4 hq Lh).2.2 i p ob h hp)
  ·exact h
  ·exact absurd Lh ((T6 i p id ob hp he).2.2 j q D4 h hq)
 have a1S:∀(i:Nat) p id ob,ps[i]?=some p->p.up=some (id,ob)->p.obs=[]:=by
  intro i p id ob hp he;have hi:i<n:=by have:=(aH.1 hp).1;omega
  obtain⟨_,p',_,hp',_,hc,_⟩:=hop i hi;rw[hp]at hp';cases hp';rcases hc.a39 with h|h
  ·rw[h]at he;cases he
  ·exact h
 have hfit:∀(i:Nat) p,ps[i]?=some p->p.r+p.obs.length<=st.H.length+(ps.flatMap Cp.obs).length:=by
  intro i p hp;rw[Wd i p hp,rX hp];simp only[aX];omega
 have Sz:∀(i j:Nat) p q,ps[i]?=some p->ps[j]?=some q->i<j->p.r+p.obs.length<=q.r:=by
  intro i j p q hp hq hij;rw[Wd i p hp,Wd j q hq];have:=SK hp hij;omega
 have hdist:∀(i j:Nat) p q t,ps[i]?=some p->ps[j]?=some q->p.t=some t->q.t=some t->i=j:=by
  intro i j p q t hp hq he1 Lh;have hi:i<n:=by have:=(aH.1 hp).1;omega
  have hj:j<n:=by have:=(aH.1 hq).1;omega
  obtain⟨oi,p',ho,hp',hdi,_⟩:=hop i hi;obtain⟨oj,q',zx,RX,hdj,_⟩:=hop j hj;rw[hp]at hp';cases hp';rw[hq]at RX;cases RX;have:=bA.1 Ol i (bp.2 hi);simp only[ho,aY]at this;have:=bA.1 this.2 j (bp.2 hj);simp only[zx,hdi,hdj,he1,Lh,cu,bQ,ua,Option.isNone_some,ua,cj]at this;exact this.symm
 have Hl:∀(i:Nat) p t,ps[i]?=some p->p.t=some t->∀q∈ps.filterMap Cp.sl,q.1=t->q=(t,p.d):=by
  intro i p t hp hpt q hq he;obtain⟨q',RX,QT⟩:=cD.1 hq;obtain⟨j,hj,rfl⟩:=eL.1 RX;have M2:ps[j]?=some ps[j]:=ai hj;unfold Cp.sl at QT;cases hpj:ps[j].t with
  |none=>rw[hpj]at QT;cases QT
  |some u=>
   rw[hpj]at QT;simp only[cY,av]at QT;subst QT;simp only at he;subst he;have:=hdist j i _ p u M2 hp hpj hpt;subst this;rw[hp]at M2;cases M2;rfl
 have hlk:∀(i:Nat) (o:Oper),i<n->l.toArray[i]?=some o->∀t∈o.looksAt l.toArray,lk (((ps.take i).filterMap Cp.sl).reverse++st.σ) t=lk ((ps.filterMap Cp.sl).reverse++st.σ) t:=by
  intro i o hin ho t ht;have ND:=bA.1 Ol i (bp.2 hin);simp only[ho,aY]at ND;have ND:=bA.1 ND.1.2 t ht;by_cases hex:∃(j:Nat) (q:Cp),ps[j]?=some q/\q.t=some t
  ·obtain⟨j,q,hq,PM⟩:=hex;have hj:j<n:=by have:=(aH.1 hq).1;omega
   obtain⟨oj,q',zx,RX,hdj,_⟩:=hop j hj;rw[hq]at RX;cases RX;have:=bA.1 ND j (bp.2 hj);simp only[zx,hdj,PM,cu,bQ,pF,aY,bI]at this;obtain⟨hji,_⟩:=this;rw[Ll (ps.filterMap Cp.sl).reverse st.σ (t,q.d) (by rw[dX];exact cD.2 ⟨q,aC hq,by simp[Cp.sl,PM]⟩) (fun q2 M2 Lh=>Hl j q t hq PM q2 (by simpa using M2) Lh)];refine Ll ((ps.take i).filterMap Cp.sl).reverse st.σ (t,q.d) ?_ (fun q2 M2 Lh=>Hl j q t hq PM q2 ?_ Lh)
   ·rw[dX];exact cD.2 ⟨q,aC (i:=j) (by rw[cI,bP hji];exact hq),by simp[Cp.sl,PM]⟩
   ·obtain⟨q3,We,zy⟩:=cD.1 (dX.1 M2);exact cD.2 ⟨q3,cF We,zy⟩
  ·have hno:∀q3∈ps,q3.t≠some t:=by
    intro q3 We he;obtain⟨j,hj,hqj⟩:=eL.1 We;exact hex ⟨j,q3,by rw[<-hqj];exact ai hj,he⟩
   have hsl:∀(qs:List Cp),(∀q3∈qs,q3.t≠some t)->∀p∈(qs.filterMap Cp.sl).reverse,p.1≠t:=by
    intro qs QT p hp he;obtain⟨q3,We,zy⟩:=cD.1 (dX.1 hp);unfold Cp.sl at zy;cases hpt:q3.t with
    |none=>rw[hpt]at zy;cases zy
    |some u=>rw[hpt]at zy;simp only[cY,av]at zy;subst zy;simp only at he;exact QT q3 We (by rw[hpt,he])
   rw[Hs _ _ _ (hsl _ hno),Hs _ _ _ (hsl _ (fun q3 We=>hno q3 (cF We)))]
 have a5i:∀i∈L,∃(o:Oper) (p:Cp),l.toArray[i]?=some o/\ps[i]?=some p/\p.obs=[]/\p.up=none/\a0h P Γ X l ((ps.filterMap Cp.sl).reverse++st.σ) st.H i:=by
  intro i hi;have hin:=Hq i hi;have h1:=bA.1 hL i hi;obtain⟨o,p,ho,hp,hd,hc,_⟩:=hop i hin;simp only[ho,aY]at h1;have hg:o.guard=none:=by simpa using h1.2.1
  have hst:=hstill i hi o (by simpa using ho);rcases hc with⟨t,hpt,YB,hdt,htn,hc⟩|⟨_,_,hdt,_⟩
  ·have hc:M6 P st.H (((ps.take i).filterMap Cp.sl).reverse++st.σ) o p:=by
    rcases hc with⟨_,hc⟩|⟨_,_,_,_,hg',_⟩|⟨_,_,_,hg',_⟩
    ·exact hc
    ·rw[hg]at hg';cases hg'
    ·rw[hg]at hg';cases hg'
   have hpv:pv P ⟨((ps.take i).filterMap Cp.sl).reverse++st.σ,st.H⟩ o.op=some p.d/\p.obs=[]:=by
    rcases hc with(hc|⟨f,xs,ts,ds,ms,d,WZ,_⟩)| (⟨T,zs,WZ,_⟩|⟨T,x,ds,WZ,_⟩)|⟨T,e,sz,len,parts,zs,ds,es,WZ,_⟩|⟨T,e,sz,len,parts,zs,ds,WZ,_⟩
    ·exact hc
    all_goals(rw[WZ]at hst;simp[El]at hst)
   refine⟨o,p,ho,hp,hpv.2,YB,o,t,p.d,ho,hg,hdt,htn,?_,?_⟩
   ·exact Ll (ps.filterMap Cp.sl).reverse st.σ (t,p.d) (by rw[dX];exact cD.2 ⟨p,aC hp,by simp[Cp.sl,hpt]⟩) (fun q2 M2 Lh=>Hl i p t hp hpt q2 (by simpa using M2) Lh)
   ·intro σ' H' hX Up;have e1:pv P ⟨(ps.filterMap Cp.sl).reverse++st.σ,st.H⟩ o.op=some p.d:=TY (fun _ _ h=>h) (QF (st:=⟨_,st.H⟩) (xQ:=⟨_,st.H⟩) (ops:=l.toArray) (o:=o) (fun t ht=>hlk i o hin ho t ht)) hpv.1;refine a2x hX hst ?_ e1;intro x hx;rw[Uf σ' H' st.H x];exact(QF (st:=⟨σ',st.H⟩) (xQ:=⟨_,st.H⟩) (ops:=l.toArray) (o:=o) (fun t ht=>Up t ht) x hx).symm
  ·have:o.dst.isSome=true:=h1.2.2;rw[hdt]at this;cases this
 intro κ Θ a w hs;have switch:∀(f:Nat) (listed:Array Bool) (σ':List (Nat×D)) (H':bU) (κ:Nat->Option Value) (Θ:Nat->Nat) (a:Act) (w:World),HeadInv .any l.toArray n listed->
  ((List.range n).filter fun i=> !listed.getD i false).length=f->
  (∀(i:Nat) p t,ps[i]?=some p->p.t=some t->listed.getD i false=true->lk σ' t=p.d)->
  (∀t,(∀(i:Nat) p,ps[i]?=some p->listed.getD i false=true->p.t≠some t)->lk σ' t=lk st.σ t)->
  H'.length=st.H.length+(ps.flatMap Cp.obs).length->Ext st.H H'->
  (∀(i:Nat) p,ps[i]?=some p->listed.getD i false=true->∀(j:Nat) o,p.obs[j]?=some o->(∀(i2:Nat) q ob,ps[i2]?=some q->listed.getD i2 false=true->q.up≠some (p.r+j,ob))->H'[p.r+j]?=some o)->
  (∀(i:Nat) q id ob,ps[i]?=some q->listed.getD i false=true->q.up=some (id,ob)->H'[id]?=some ob/\∃v,κ id=some v)->
  (∀(i:Nat) p,ps[i]?=some p->listed.getD i false=false->∀j,j<p.obs.length->κ (p.r+j)=none)->
  eE Γ ⟨σ',H'⟩ κ Θ a w->(∀i,i<n->i∉L->listed.getD i false=true)->
  wpAny P .any l.toArray (fun e a' w'=>∃xQ κ' Θ',eE Γ xQ κ' Θ' a' w'/\Q e xQ) (f+(l.toArray.size-n)) listed a w:=by
  intro f listed σ' H' κ Θ a w inv p7 hA hB hHl hHe Y7 hHu Y6 hs hN;have a5S:∀(i:Nat) p,ps[i]?=some p->(p.up≠none\/p.obs≠[])->listed.getD i false=true:=by
   intro i p hp hne;have hi:i<n:=by have:=(aH.1 hp).1;omega
   refine hN i hi fun hiL=>?_
   obtain⟨_,p',_,hp',h1,h2,_⟩:=a5i i hiL;rw[hp]at hp';cases hp';rcases hne with h|h
   ·exact h h2
   ·exact h h1
  have OM:∀t,(∀i∈L,∀o,l.toArray[i]?=some o->listed.getD i false=false->o.dst≠some t)->lk σ' t=lk ((ps.filterMap Cp.sl).reverse++st.σ) t:=by
   intro t hno;by_cases hex:∃(i:Nat) (p:Cp),ps[i]?=some p/\p.t=some t
   ·obtain⟨i,p,hp,hpt⟩:=hex;have hi:i<n:=by have:=(aH.1 hp).1;omega
    have hli:listed.getD i false=true:=by
     cases hl:listed.getD i false with
     |true=>rfl
     |false=>
      obtain⟨o,p',ho,hp',hd,_⟩:=hop i hi;rw[hp]at hp';cases hp';by_cases hiL:i∈L
      ·exact absurd (by rw[hd,hpt]) (hno i hiL o ho hl)
      ·rw[hN i hi hiL]at hl;cases hl
    rw[hA i p t hp hpt hli];exact(Ll (ps.filterMap Cp.sl).reverse st.σ (t,p.d) (by rw[dX];exact cD.2 ⟨p,aC hp,by simp[Cp.sl,hpt]⟩) (fun q hq he=>Hl i p t hp hpt q (by simpa using hq) he)).symm
   ·rw[hB t (fun i p hp _ he=>hex ⟨i,p,hp,he⟩),Hs];intro q hq he;obtain⟨p,hp,hps⟩:=cD.1 (dX.1 hq);obtain⟨i,hi,hpi⟩:=eL.1 hp;refine hex ⟨i,p,by rw[<-hpi];exact ai hi,?_⟩;unfold Cp.sl at hps;cases hpt:p.t with
    |none=>rw[hpt]at hps;cases hps
    |some u=>rw[hpt]at hps;simp only[cY,av]at hps;subst hps;simp only at he;rw[he]
  have a16:H'=st.H++PF:=by
   apply o5;intro k;by_cases h1:k<st.H.length
   ·rw[b9 h1];exact hHe k _ (ai h1)|>.trans (ai h1).symm
   ·rw[bE (by omega)];by_cases hex:∃(i:Nat) (q:Cp) (ob:Ob),ps[i]?=some q/\q.up=some (k,ob)
    ·obtain⟨i,q,ob,hq,he⟩:=hex;rw[(hHu i q k ob hq (a5S i q hq (.inl (by rw[he];simp))) he).1,hFu i q k ob hq he]
    ·have hno:∀(i:Nat) q ob,ps[i]?=some q->q.up≠some (k,ob):=fun i q ob hq he=>hex ⟨i,q,ob,hq,he⟩
     rw[hFo (k-st.H.length) (fun i q ob hq=>by rw[show st.H.length+(k-st.H.length)=k from by omega];exact hno i q ob hq)];by_cases h2:k-st.H.length<(ps.flatMap Cp.obs).length
     ·obtain⟨i,p,j,hp,hj,hk⟩:=B8 h2;have e3:p.r+j=k:=by rw[Wd i p hp];omega
      have h3:=Y7 i p hp (a5S i p hp (.inr (by intro e;rw[e]at hj;simp at hj))) j _ (ai hj) (fun i2 q ob hq _=>by rw[e3];exact hno i2 q ob hq);rw[e3]at h3;rw[h3,rX hp,hk,bE (by omega),dY,b9 hj,ai hj]
     ·rw[ck (by omega),ck (by omega)]
  subst a16;have hsz:=inv.size;have hcm:((List.range m).filter fun i=> !listed.getD i false).length=f+(m-n):=by
   have:=Oz (p:=fun i=> !listed.getD i false) (n:=n) (m-n) (fun i h1 h2=>by
    have:=getD_both (inv.tail i h1 (by omega));simp only[this];rfl)
   rw[show n+(m-n)=m from by omega]at this;rw[this,p7]
  have:=Ua (Q:=Q) (H0:=st.H) hB0 (fun i hi=>by obtain⟨_,_,_,_,_,_,h⟩:=a5i i hi;exact h) (f+(m-n)) 0 ⟨(ps.filterMap Cp.sl).reverse++st.σ,st.H++PF⟩ listed σ' κ Θ a w
   ⟨hsz,inv.closed,fun t h1 h2=>absurd h2 (by omega)⟩ hN (by omega) (fun i h1 h2=>absurd h2 (by omega)) (fun i h1 h2=>getD_both (inv.tail i (by omega) h2)) hcm (fun _ _=>rfl)
   ((BQ.refl _).app _) (by simpa using hK) OM hs
  rw[show f+(m-n)+(l.toArray.size-m)=f+(l.toArray.size-n)from by omega]at this;exact this
 have main:∀(f:Nat) (listed:Array Bool) (σ':List (Nat×D)) (H':bU) (κ:Nat->Option Value) (Θ:Nat->Nat) (a:Act) (w:World),HeadInv .any l.toArray n listed->
  ((List.range n).filter fun i=> !listed.getD i false).length=f->
  (∀(i:Nat) p t,ps[i]?=some p->p.t=some t->listed.getD i false=true->lk σ' t=p.d)->
  (∀t,(∀(i:Nat) p,ps[i]?=some p->listed.getD i false=true->p.t≠some t)->lk σ' t=lk st.σ t)->
  H'.length=st.H.length+(ps.flatMap Cp.obs).length->Ext st.H H'->
  (∀(i:Nat) p,ps[i]?=some p->listed.getD i false=true->∀(j:Nat) o,p.obs[j]?=some o->(∀(i2:Nat) q ob,ps[i2]?=some q->listed.getD i2 false=true->q.up≠some (p.r+j,ob))->H'[p.r+j]?=some o)->
  (∀(i:Nat) q id ob,ps[i]?=some q->listed.getD i false=true->q.up=some (id,ob)->H'[id]?=some ob/\∃v,κ id=some v)->
  (∀(i:Nat) p,ps[i]?=some p->listed.getD i false=false->∀j,j<p.obs.length->κ (p.r+j)=none)->
  eE Γ ⟨σ',H'⟩ κ Θ a w->
  wpAny P .any l.toArray (fun e a' w'=>∃xQ κ' Θ',eE Γ xQ κ' Θ' a' w'/\Q e xQ) (f+(l.toArray.size-n)) listed a w:=by
  intro f
  induction f with
  |zero=>
   intro listed σ' H' κ Θ a w inv p7 hA hB hHl hHe Y7 hHu Y6 hs;have hall:∀i,i<n->listed.getD i false=true:=by
    intro i hi;have h0:=cZ p7;cases hl:listed.getD i false with
    |true=>rfl
    |false=>
     have:i∈(List.range n).filter fun i=> !listed.getD i false:=fY.2 ⟨bp.2 hi,by simp[hl]⟩
     rw[h0]at this;cases this
   exact switch 0 listed σ' H' κ Θ a w inv p7 hA hB hHl hHe Y7 hHu Y6 hs (fun i hi _=>hall i hi)
  |succ f ih=>
   intro listed σ' H' κ Θ a w inv p7 hA hB hHl hHe Y7 hHu Y6 hs;by_cases hsw:∀i,i<n->i∉L->listed.getD i false=true
   ·exact switch (f+1) listed σ' H' κ Θ a w inv p7 hA hB hHl hHe Y7 hHu Y6 hs hsw
   have aCd:∃i,i<n/\i∉L/\listed.getD i false=false:=by
    obtain⟨i,hi⟩:=Classical.not_forall.1 hsw;refine⟨i,?_⟩;by_cases h1:i<n
    ·by_cases h2:i∈L
     ·exact absurd (fun _ h=>absurd h2 h) hi
     ·refine⟨h1,h2,?_⟩;cases hl:listed.getD i false with
      |false=>rfl
      |true=>exact absurd (fun _ _=>hl) hi
    ·exact absurd (fun h=>absurd h h1) hi
   have hun:∃i,i<n/\listed.getD i false=false:=by
    have hne:((List.range n).filter fun i=> !listed.getD i false)≠[]:=by
     intro h0;rw[h0]at p7;simp at p7
    obtain⟨i,hi⟩:=wR _ hne;obtain⟨h1,h2⟩:=fY.1 hi;exact⟨i,bp.1 h1,by simpa using h2⟩
   have hsz:=inv.size;rw[show f+1+(l.toArray.size-n)=(f+(l.toArray.size-n))+1 from by omega];refine⟨fun h0=>?_,fun i hi=>?_⟩
   ·exfalso;obtain⟨i,⟨hin,Vk⟩,hmin⟩:=exists_least (p:=fun i=>i<n/\listed.getD i false=false) hun;obtain⟨o,p,ho,_,_,_⟩:=hop i hin;have:i∈Region.ready .any l.toArray listed:=by
     refine mem_ready.2 ⟨getD_in (by rw[hsz];omega) Vk,o,ho,fun e he hb=>?_⟩;have:=bA.1 Ol i (bp.2 hin);simp only[ho,aY]at this;have:=xU.1 this.1.1 e he;simp only[hb,bQ,pF,bI]at this;cases hl:listed.getD e.on false with
     |true=>rfl
     |false=>
      have:=hmin e.on ⟨by omega,hl⟩;omega
    rw[h0]at this;cases this
   ·obtain⟨i0,hi0,hl0⟩:=hun;have hin:i<n:=by
     rcases eH i n with h|h
     ·exact h
     ·obtain⟨i1,hi1,aC6,hl1⟩:=aCd;obtain⟨_,oi,hoi,_⟩:=mem_ready.1 hi;have Ee:i<l.toArray.size:=(bL.1 hoi).1;exfalso;rcases eH i m with hm1|hm1
      ·have h1:=bA.1 hmid (i-n) (bp.2 (by omega));have h2:=bA.1 h1 i1 (bp.2 (by omega));rw[show n+(i-n)=i from by omega]at h2;simp only[oU]at h2;rcases h2 with h2|h2
       ·rw[zv inv.closed hi h2]at hl1;cases hl1
       ·exact aC6 (by simpa using h2)
      ·have h1:=bA.1 a1P (i-m) (bp.2 (by omega));have h2:=bA.1 h1 i1 (bp.2 (by omega));rw[show m+(i-m)=i from by omega]at h2;rw[zv inv.closed hi h2]at hl1;cases hl1
    obtain⟨o,p,ho,hp,hd,hc,_⟩:=hop i hin;obtain⟨Vk,o',ho',hall⟩:=mem_ready.1 hi;rw[ho]at ho';cases ho';have Cr:=getD_both Vk;have hc':vY P Γ l.toArray st.H σ' o p:=by
     refine vY.congr (σ:=((ps.take i).filterMap Cp.sl).reverse++st.σ) (σ':=σ') ?_ hc;intro t ht;have ND:=bA.1 Ol i (bp.2 hin);simp only[ho,aY]at ND;have ND:=bA.1 ND.1.2 t ht;by_cases hex:∃(j:Nat) (q:Cp),ps[j]?=some q/\q.t=some t
     ·obtain⟨j,q,hq,PM⟩:=hex;have hj:j<n:=by have:=(aH.1 hq).1;omega
      obtain⟨oj,q',zx,RX,hdj,_⟩:=hop j hj;rw[hq]at RX;cases RX;have:=bA.1 ND j (bp.2 hj);simp only[zx,hdj,PM,cu,bQ,pF,aY,bI]at this;obtain⟨hji,a1T⟩:=this;obtain⟨oi',a1M,e,he,hb,hon⟩:=Region.waitsFor_spec a1T;rw[ho]at a1M;cases a1M;have hjl:=hall e he hb;rw[hon]at hjl;rw[hA j q t hq PM hjl];refine Ll ((ps.take i).filterMap Cp.sl).reverse st.σ (t,q.d) ?_ (fun q2 M2 Lh=>Hl j q t hq PM q2 ?_ Lh)
      ·rw[dX];exact cD.2 ⟨q,aC (i:=j) (by rw[cI,bP hji];exact hq),by simp[Cp.sl,PM]⟩
      ·obtain⟨q3,We,zy⟩:=cD.1 (dX.1 M2);exact cD.2 ⟨q3,cF We,zy⟩
     ·rw[hB t (fun j q hq _ he=>hex ⟨j,q,hq,he⟩),Hs];intro q hq he;obtain⟨q3,We,zy⟩:=cD.1 (dX.1 hq);obtain⟨j,hj,hqj⟩:=eL.1 (cF We);refine hex ⟨j,q3,by rw[<-hqj];exact ai hj,?_⟩;unfold Cp.sl at zy;cases hpt:q3.t with
      |none=>rw[hpt]at zy;cases zy
      |some u=>rw[hpt]at zy;simp only[cY,av]at zy;subst zy;simp only at he;rw[he]
    have hfp:=hfit i p hp;have a1F:∀id ob,p.up=some (id,ob)->∃v,κ id=some v:=by
     intro id ob he;rcases hc' with⟨_,_,h,_⟩|⟨_,_,_,_,T,x,y,id',ds,WZ,hx',_,_,_,_,YB⟩
     ·rw[h]at he;cases he
     ·rw[YB]at he;cases he;obtain⟨b1,r1,_⟩:=hs.ev x;rw[Uf σ' H' st.H x,hx']at r1;obtain⟨g,hk,_⟩:=r1.CX;exact⟨_,hk⟩
    have a1Q:∀id ob,p.up=some (id,ob)->∃zs ds,H'[id]?=some (.box zs)/\ob=.box ds/\zs.length=ds.length:=by
     intro id ob he;obtain⟨u1,⟨zs,ds,u2,u3,u4⟩,_⟩:=T6 i p id ob hp he;refine⟨zs,ds,?_,u2,u3⟩;obtain⟨i1,p1,j1,hp1,K4,hk1⟩:=B8 (aH.1 u4).1;have Wa:ps[i1]?=some p1:=by
      have:=(aH.1 hp1).1;rw[cI]at hp1;split at hp1
      ·exact hp1
      ·cases hp1
     have hi1:i1<i:=by have:=(aH.1 hp1).1;simp at this;omega
     have et:(ps.take i).take i1=ps.take i1:=by rw[vU,eo (by omega)]
     rw[et]at hk1;have e1:p1.r+j1=id:=by rw[Wd i1 p1 Wa];omega
     have C8:p1.obs[j1]?=some (.box zs):=by
      rw[rX hp1,et,hk1,bE (by omega),dY,b9 K4]at u4;exact u4
     have hl1:listed.getD i1 false=true:=by
      cases hl:listed.getD i1 false with
      |true=>rfl
      |false=>
       have h0:=Y6 i1 p1 Wa hl j1 K4;rw[e1]at h0;obtain⟨v,hv⟩:=a1F id ob he;rw[h0]at hv;cases hv
     have:=Y7 i1 p1 Wa hl1 j1 _ C8 (fun i2 q D4 hq hl Lh=>by
      rw[e1]at Lh;have:=a1R i i2 p q id ob D4 hp hq he Lh;subst this;rw[Cr]at hl;cases hl)
     rw[e1]at this;exact this
    refine hc'.wp hs hHe ho (by omega) (fun j hj=>Y6 i p hp Cr j hj) a1Q fun κ' Θ' a' w' hs' hsame=>?_
    have qT:∀(j:Nat),(listed.setIfInBounds i true).getD j false=true↔(j=i\/listed.getD j false=true):=by
     intro j;by_cases e:i=j
     ·subst e;have:i<listed.size:=by rw[hsz];omega
      simp[this]
     ·rw[getD_set_ne false e];constructor
      ·exact .inr
      ·rintro(rfl|h)
       ·exact absurd rfl e
       ·exact h
    have hput:(p.Cy H').length=H'.length:=by
     unfold Cp.Cy;split
     ·simp
     ·exact wN (by omega)
    have a6v:∀(k:Nat),k<st.H.length->(p.Cy H')[k]?=H'[k]?:=by
     intro k hk;unfold Cp.Cy;split
     ·rename_i id ob he;have:=(T6 i p id ob hp he).1;rw[cE (by omega)]
     ·rw[wM (by omega),bP (by rw[Wd i p hp];omega)]
    refine ih (listed.setIfInBounds i true) (p.slot σ') (p.Cy H') κ' Θ' a' w' (inv.set hi hin) ?_ ?_ ?_ (by rw[hput];exact hHl) ?_ ?_ ?_ ?_ hs'
    ·have ZG:((List.range n).filter fun j=> !(listed.setIfInBounds i true).getD j false)=((List.range n).filter fun j=> !listed.getD j false).erase i:=by
      have hnd:((List.range n).filter fun j=> !listed.getD j false).Nodup:=zW _ D8;rw[hnd.erase_eq_filter,xV];apply yL;intro j _;by_cases e:j=i
      ·subst e;have:=(qT j).2 (.inl rfl);rw[this];simp
      ·rw[getD_set_ne false (tP e)];simp[e]
     rw[ZG,rF (fY.2 ⟨bp.2 hin,by simp[Cr]⟩),p7];rfl
    ·intro j q t hq PM hl;unfold Cp.slot;rcases(qT j).1 hl with rfl|Ef
     ·rw[hp]at hq;cases hq;rw[PM];simp[lk]
     ·cases hpt:p.t with
      |none=>exact hA j q t hq PM Ef
      |some u=>
       simp only[lk];rw[bH,hA j q t hq PM Ef];intro e;have:=hdist j i q p t hq hp PM (by rw[hpt,e]);subst this;rw[Cr]at Ef;cases Ef
    ·intro t ht;unfold Cp.slot;have xN:=hB t (fun j q hq hl=>ht j q hq ((qT j).2 (.inr hl)));cases hpt:p.t with
     |none=>exact xN
     |some u=>
      simp only[lk];rw[bH (fun e=>ht i p hp ((qT i).2 (.inl rfl)) (by rw[hpt,e]))];exact xN
    ·intro j y hj;rw[a6v j (aH.1 hj).1];exact hHe j y hj
    ·intro j q hq hl k y hy hno;have hkl:=(aH.1 hy).1;unfold Cp.Cy;split
     ·rename_i id ob he;have hne:q.r+k≠id:=fun e=>hno i p ob hp ((qT i).2 (.inl rfl)) (by rw[e];exact he)
      rw[cE (tP hne)];rcases(qT j).1 hl with rfl|Ef
      ·rw[hp]at hq;cases hq;rw[a1S j p id ob hp he]at hy;simp at hy
      ·exact Y7 j q hq Ef k y hy (fun i2 q2 D4 M2 hl3=>hno i2 q2 D4 M2 ((qT i2).2 (.inr hl3)))
     ·rw[wM (by omega)];rcases(qT j).1 hl with rfl|Ef
      ·rw[hp]at hq;cases hq;rw[bH (by omega),bP (by omega),dY];exact hy
      ·have hne:j≠i:=fun e=>by subst e;rw[Cr]at Ef;cases Ef
       have h3:=Y7 j q hq Ef k y hy (fun i2 q2 D4 M2 hl3=>hno i2 q2 D4 M2 ((qT i2).2 (.inr hl3)));rcases xW hne with h|h
       ·have:=Sz j i q p hq hp h;rw[bP (by omega)];exact h3
       ·have:=Sz i j p q hp hq h;rw[bH (by omega),bH (by omega)];exact h3
    ·intro j q id ob hq hl he;rcases(qT j).1 hl with rfl|Ef
     ·rw[hp]at hq;cases hq;obtain⟨zs,ds,z1,_⟩:=a1Q id ob he;have hlt:=(aH.1 z1).1;refine⟨by simp only[Cp.Cy,he];rw[dQ hlt],?_⟩;obtain⟨v,hv⟩:=a1F id ob he;refine⟨v,?_⟩;rw[hsame id (by rw[a1S j p id ob hp he];simp;omega)];exact hv
     ·obtain⟨h1,v,hv⟩:=hHu j q id ob hq Ef he;have hout:id<p.r\/p.r+p.obs.length<=id:=by
       rcases eH id p.r with h|h
       ·exact .inl h
       ·rcases eH id (p.r+p.obs.length)with h2|h2
        ·have:=Y6 i p hp Cr (id-p.r) (by omega);rw[show p.r+(id-p.r)=id from by omega,hv]at this;cases this
        ·exact .inr h2
      refine⟨?_,v,by rw[hsame id hout];exact hv⟩;unfold Cp.Cy;split
      ·rename_i id2 D4 Lh;have hne:id2≠id:=fun e=>by
        subst e;have:=a1R i j p q id2 D4 ob hp hq Lh he;subst this;rw[Cr]at Ef;cases Ef
       rw[cE hne];exact h1
      ·rw[wM (by omega)];rcases hout with h|h
       ·rw[bP h];exact h1
       ·rw[bH (by omega),bH (by omega)];exact h1
    ·intro j q hq hl k hk;have hne:j≠i:=fun e=>by
      subst e;have:=(qT j).2 (.inl rfl);rw[this]at hl;cases hl
     have Ef:listed.getD j false=false:=by
      cases h:listed.getD j false with
      |false=>rfl
      |true=>have:=(qT j).2 (.inr h);rw[this]at hl;cases hl
     have h3:=Y6 j q hq Ef k hk;rw[hsame,h3];rcases xW hne with h|h
     ·have:=Sz j i q p hq hp h;omega
     ·have:=Sz i j p q hp hq h;omega
 have a7d:HeadInv .any l.toArray n (Array.replicate l.toArray.size false):=
  ⟨by simp,fun j oj _ hl=>(by rw[getD_replicate_false]at hl;cases hl),fun t _ ht=>getD_in (by simpa using ht) (getD_replicate_false _ _)⟩
 have p7:((List.range n).filter fun i=> !(Array.replicate l.toArray.size false).getD i false).length=n:=by
  rw[List.filter_eq_self.2]
  ·simp
  ·intro i _;rw[getD_replicate_false];rfl
 have:=main n (Array.replicate l.toArray.size false) st.σ (st.H++List.replicate (ps.flatMap Cp.obs).length .gone) κ Θ a w a7d p7 (fun i p t _ _ hl=>by rw[getD_replicate_false]at hl;cases hl) (fun t _=>rfl)
  (by simp) (fun i o h=>by rw[b9 (aH.1 h).1];exact h) (fun i p _ hl=>by rw[getD_replicate_false]at hl;cases hl)
  (fun i q id ob _ hl=>by rw[getD_replicate_false]at hl;cases hl)
  (fun i p hp _ j _=>hs.rD _ (by rw[Wd i p hp];omega)) (hs.room _)
 rw[show n+(l.toArray.size-n)=l.toArray.size from by omega]at this;exact this
def Ov(X:aa)(st:St)(op:Op)(A:eY):Bool:=match op with
 | .buildSlice _ _ _=>true
 | .build _ _=>true
 | .extract _ _=>true
 | .field _ _ _=>true
 | .move _=>true
 | .indexAddr _ x _=>(Qe st (st.ev x)).isNone
 | .load _ x=>(TI st (st.ev x)).isNone&&(match st.ev x,A with| .op id _ _ _,.tk _::_=>X.contains id|_,_=>true)
 | .store _ x _=>(match st.ev x with| .ptr id _=>X.contains id|_=>false)
 | .call c=>(match c.callee,A with
  | .builtin .append,_=>true
  | .value (.func _),.d _::_=>true
  | .value (.func _),.gp _ _ _::_=>(match c.args.toList with|x::_=>(match st.ev x with| .ptr id _=>X.contains id|_=>false)| []=>false)
  |_,_=>false)
 |_=>false
def Uk(X:aa)(H H':bU):Bool:=(List.range H.length).all fun i=>X.contains i||(match H[i]? with|some .gone=>true|_=>(match H'[i]? with|some .gone=>false|_=>true))
def Qm(P:Program)(nt:Nat)(X:aa):List Oper->St->eY->Option (St×eY×E3)
 | [],st,A=>some (st,A,[])
 |o::rest,st,A=>match o.guard,Ov X st o.op A with
  |none,true=>(match KE P nt o st A with
   |some (AA,A1,p)=>(match Uk X st.H AA.H,Qm P nt X rest AA A1 with|true,some (R5,A2,q)=>some (R5,A2,p++q)|_,_=>none)
   |none=>none)
  |_,_=>none
theorem V0{H:bU}{ms:aa}{i:Nat}(h:i∈ms)(hl:i<H.length):(kill H ms)[i]?=some .gone:=by
 induction ms generalizing H with
 |nil=>cases h
 |cons m ms ih=>
  show(kill (H.set m .gone) ms)[i]?=_;by_cases hi:i∈ms
  ·exact ih hi (by simpa using hl)
  ·rw[ji hi];rcases bM.1 h with rfl|h
   ·rw[dQ hl]
   ·exact absurd h hi
theorem Y5{X:aa}{H H':bU}(h:Uk X H H'=true){i:Nat}{o:Ob}(hi:i∉X)(ho:H[i]?=some o)(hg:H'[i]?=some .gone):o=.gone:=by
 have h1:=bA.1 h i (bp.2 (aH.1 ho).1);rw[ho,hg,List.contains_eq_mem,bB hi,pF]at h1;cases o<;>first|rfl|cases h1
theorem Uz{X:aa}{H:bU}{ms:aa}{n:bU}(h:Uk X H (kill H ms++n)=true):BQ X H (kill H ms++n):=by
 intro i o hi ho;have hl:=(aH.1 ho).1;have e:(kill H ms++n)[i]?=(kill H ms)[i]?:=b9 (by rw[hO];exact hl);by_cases hm:i∈ms
 ·have e2:=e.trans (V0 hm hl);rw[e2,Y5 h hi ho e2]
 ·rw[e,ji hm,ho]
theorem ZP{X:aa}{H:bU}{ms:aa}{n:bU}{id:Nat}{b:Ob}(hid:id∈X)(h:Uk X H ((kill H ms).set id b++n)=true):BQ X H ((kill H ms).set id b++n):=by
 intro i o hi ho;have hne:id≠i:=fun e=>hi (e▸hid)
 have hl:=(aH.1 ho).1;have e:((kill H ms).set id b++n)[i]?=(kill H ms)[i]?:=by
  rw[b9 (by rw[bZ,hO];exact hl),cE hne]
 by_cases hm:i∈ms
 ·have e2:=e.trans (V0 hm hl);rw[e2,Y5 h hi ho e2]
 ·rw[e,ji hm,ho]
theorem a2u{X:aa}{nt:Nat}{o:Oper}{A A1:eY}{AA:St}{p:E3}(hk:Ov X st o.op A=true)(hgn:Uk X st.H AA.H=true)(h:KE P nt o st A=some (AA,A1,p)):((∃t d,o.dst=some t/\t<nt/\AA.σ=(t,d)::st.σ)\/(o.dst=none/\AA.σ=st.σ))/\BQ X st.H AA.H:=by
 have plain:∀ {t:Nat},o.dst=some t->(if t<nt then match Js P st o.op A with|some (d,A,ow)=>some ((⟨(t,d)::st.σ,st.H⟩:St),A,ow)|none=>none else none)=some (AA,A1,p)->((∃t d,o.dst=some t/\t<nt/\AA.σ=(t,d)::st.σ)\/(o.dst=none/\AA.σ=st.σ))/\BQ X st.H AA.H:=by
  intro t hd h;split at h
  ·rename_i ht;split at h
   ·cases h;exact⟨.inl ⟨t,_,hd,ht,rfl⟩,BQ.refl _⟩
   ·cases h
  ·cases h
 unfold KE at h;split at h
 case h_3=>
  rename_i T x y hop hd;rw[hop]at hk;simp only[Ov]at hk;split at h
  ·rename_i id off ds h1 h2;rw[h1]at hk;split at h
   ·split at h
    ·split at h
     ·cases h;refine⟨.inr ⟨hd,rfl⟩,fun i cs hi hcs=>?_⟩;have hne:id≠i:=fun e=>hi (by subst e;simpa using hk)
      show(st.H.set id _)[i]?=_;rw[cE hne,hcs]
     ·cases h
    ·cases h
   ·cases h
  ·rename_i id i sz off ds h1 h2;rw[h1]at hk;cases hk
  ·cases h
 case h_7=>
  rename_i T len parts t hop hd;split at h
  ·split at h
   ·split at h
    ·split at h
     ·rename_i es ms hab;split at h
      ·rename_i hc;cases h;exact⟨.inl ⟨t,_,hd,hc.1,rfl⟩,Uz hgn⟩
      ·cases h
     ·cases h
    ·cases h
   ·cases h
  ·cases h
 case h_8=>
  rename_i c t hop hd;rw[hop]at hk;simp only[Ov]at hk;split at h
  ·split at h
   ·split at h
    ·rename_i rows u1 k1 fT u2 k2 A' ow _ hS hX;split at h
     ·rename_i hc;cases h;exact⟨.inl ⟨t,_,hd,hc.1,rfl⟩,Uz hgn⟩
     ·cases h
    ·cases h
   ·cases h
  ·rename_i a6o _ _;rw[a6o]at hk;cases hk
  ·rename_i f a6o;rw[a6o]at hk;split at hk
   ·rename_i hb;cases hb
   ·rename_i f' d A' hb;split at h
    ·rename_i hA;cases hA
    ·rename_i hA;cases hA
    ·rename_i hA;cases hA
    ·rename_i hA;cases hA
    ·rename_i hA;cases hA
    ·rename_i hA;cases hA
    ·rename_i ds ms d' A'' hv hA;split at h
     ·rename_i hc;cases h;exact⟨.inl ⟨t,_,hd,hc.1,rfl⟩,(BQ.refl _).app _⟩
     ·cases h
    ·rename_i hA;cases hA
    ·cases h
   ·rename_i f' nz cells' d A' hb;generalize Lx st.H (List.map st.ev c.args.toList)=q at h;rcases q with _|⟨qa,qb⟩
    all_goals
     dsimp only at h;split at h
     ·rename_i x0 xr h5;rw[h5]at hk;split at h
      ·rename_i id h6;simp only[h6]at hk;split at h
       ·rename_i ob h7;split at h
        ·rename_i Nx h8;split at h
         ·rename_i cells ds ms qs h9;split at h
          ·rename_i hc;cases h;exact⟨.inl ⟨t,_,hd,hc.1,rfl⟩,ZP (by simpa using hk) hgn⟩
          ·cases h
         ·cases h
        ·cases h
       ·cases h
      ·cases h
     ·cases h
   ·cases hk
  ·exact plain hd h
 case h_13=>
  rename_i T x i t hop hd;rw[hop]at hk;simp only[Ov]at hk;split at h
  ·rename_i hl;rw[hl]at hk;cases hk
  ·exact plain hd h
 case h_14=>
  rename_i T x t hop hd;rw[hop]at hk;simp only[Ov]at hk;split at h
  ·rename_i hl;rw[hl]at hk;cases hk
  ·rw[aY]at hk
   replace hk:=hk.2
   split at h
   ·rename_i r A' id i sz h1;split at h
    ·rename_i n e sz' rows h2;split at h
     ·rename_i hc;cases h;refine⟨.inl ⟨t,_,hd,hc.1,rfl⟩,BQ.app (fun j cs hj hcs=>?_) _⟩;have hne:id≠j:=fun e=>hj (by subst e;rw[h1]at hk;simpa using hk)
      rw[cE hne];exact hcs
     ·cases h
    ·cases h
   ·exact plain hd h
 all_goals first
  | (rename_i hop _;rw[hop]at hk;simp[Ov]at hk;done)
  | (rename_i hop;rw[hop]at hk;simp[Ov]at hk;done)
  |skip
 all_goals first
  |exact plain (by assumption) h
  |cases h
theorem Step.of{nt:Nat}(hnt:Γ.nt=nt){o:Oper}{A A1:eY}{AA:St}{p:E3}(hg:o.guard=none)(hsel:∀cs b,o.op≠ .select cs b)(h:KE P nt o st A=some (AA,A1,p))(hp:zE p):Step P Γ o st AA:=by
 intro κ Θ a w hs;have h1:=Sf (P:=P) (Γ:=Γ) (all:= #[]) (rest:=[]) (Q:=fun e s=>e=.normal/\s=AA) hnt hg h hp (a6U ⟨rfl,rfl⟩) κ Θ a w hs;have hw:Region.wanted o (yielded #[] a.tmps)=true:=by simp[Region.wanted,hg]
 simp only[wpList,hw,rq]at h1;rcases h1 with h1|⟨_,a0,w0,xQ,κ',Θ',_,hq,_⟩
 ·refine Vf hsel (fun _ _=>rfl) ?_ ?_ ?_ h1
  ·rintro v w' ⟨xQ,κ',Θ',hs',_,rfl⟩;exact⟨κ',Θ',hs'⟩
  ·rintro d w' ⟨xQ,κ',Θ',hs',_,rfl⟩;have:=hs'.defers;cases hod:o.dst<;>rw[hod]at this<;>cases this
  ·rintro e c w' ⟨xQ,κ',Θ',hs',rfl,_⟩;rfl
 ·cases hq
theorem TN{X:aa}{nt:Nat}(hnt:Γ.nt=nt){K:St->Prop}{R5:St}{A2:eY}:∀ {ops:List Oper} {st:St} {A:eY} {p:E3},Qm P nt X ops st A=some (R5,A2,p)->zE p->K R5->a0S P Γ X K ops st:=by
 intro ops
 induction ops with
 |nil=>intro st A p h hp hK;simp only[Qm,av,cT]at h;obtain⟨rfl,_,_⟩:=h;exact hK
 |cons o os ih=>
  intro st A p h hp hK;simp only[Qm]at h;split at h
  ·rename_i hg hok;split at h
   ·rename_i AA A1 p1 h1;split at h
    ·rename_i a55 A2' q hgn h2;cases h;obtain⟨hp1,hq⟩:=hp.app;obtain⟨hd,hX⟩:=a2u hok hgn h1;have hsel:∀cs b,o.op≠ .select cs b:=by
      intro cs b e;rw[e]at hok;cases hok
     exact⟨AA,hd.imp (fun⟨t,d,hd,ht,hσ⟩=>⟨t,d,hd,by rw[hnt];exact ht,hσ⟩) id,hX,hg,hsel,Step.of hnt hg hsel h1 hp1,ih h2 hq hK⟩
    ·cases h
   ·cases h
  ·cases h
def a2w(X:aa)(st:St)(ops:List Oper)(L:aa):Bool:=L.all fun i=>match ops[i]? with|some o=>El X st o.op|none=>false
theorem Zt{X:aa}{st:St}{ops:List Oper}{L:aa}(h:a2w X st ops L=true):∀i∈L,∀o,ops[i]?=some o->El X st o.op=true:=by
 intro i hi o ho;have:=bA.1 h i hi;rw[ho]at this;exact this
def Dp(ρ:aa)(o:Oper):Oper:= {o with after:=o.after.map fun e=> {e with on:=ρ.getD e.on 0},guard:=o.guard.map fun g=>(ρ.getD g.1 0,g.2)}
def xT(ops:Array Oper)(π ρ:aa):List Oper:=π.filterMap fun i=>(ops[i]?).map (Dp ρ)
def Ow(ops:Array Oper)(π ρ:aa):Bool:=
 decide (π.length=ops.size)&&(decide (ρ.length=ops.size)&&
 (((List.range ops.size).all fun i=>(match ρ[i]? with|some k=>π[k]?==some i|none=>false))&&
 (((List.range ops.size).all fun k=>(match π[k]? with|some i=>ρ[i]?==some k|none=>false))&&
 (ops.toList.all fun o=>(o.after.all fun e=>decide (e.on<ops.size))&&(match o.guard with|some g=>decide (g.1<ops.size)|none=>true)))))
theorem QG(ρ:aa)(o:Oper)(f:Operand->Value):execOp f (Dp ρ o)=execOp f o:=by
 cases o;rfl
theorem a3G(ρ:aa){o:Oper}{K:Act->World->Prop}{Q:Exit->Act->World->Prop}(h:(Dp ρ o).wp P a w K Q):o.wp P a w K Q:=by
 unfold Oper.wp at*;rw[QG]at h;exact h
theorem W7(ρ:aa){o:Oper}(h:(Dp ρ o).asks P a w):o.asks P a w:=by
 unfold Oper.asks at*;rw[QG]at h;exact h
section
variable{ops:Array Oper}{π ρ:aa}
theorem Qy(hB:Ow ops π ρ=true){k i:Nat}{o:Oper}(hk:π[k]?=some i)(ho:ops[i]?=some o):(xT ops π ρ).toArray[k]?=some (Dp ρ o):=by
 simp only[Ow,aY,bI]at hB;obtain⟨h1,h2,h3,h4,h5⟩:=hB;have hall:∀x∈π,∃o,ops[x]?=some o:=by
  intro x hx;obtain⟨j,hj,rfl⟩:=eL.1 hx;have:=bA.1 h4 j (bp.2 (by omega));rw[ai hj]at this;simp only[cj]at this;have:=(aH.1 this).1;exact⟨_,cR (by omega)⟩
 have key:∀(l:aa) (k:Nat),(∀x∈l,∃o,ops[x]?=some o)->l[k]?=some i->(l.filterMap fun i=>(ops[i]?).map (Dp ρ))[k]?=some (Dp ρ o):=by
  intro l
  induction l with
  |nil=>intro k _ h;simp at h
  |cons x l ih=>
   intro k hl h;obtain⟨ox,hox⟩:=hl x (by simp);rw[Aa];simp only[hox,cY];cases k with
   |zero=>simp at h;subst h;rw[ho]at hox;cases hox;rfl
   |succ k=>simpa using ih k (fun y hy=>hl y (by simp[hy])) (by simpa using h)
 have:=key π k hall hk;simpa[xT]using this
theorem VG(hB:Ow ops π ρ=true):(xT ops π ρ).toArray.size=ops.size:=by
 have hB':=hB;simp only[Ow,aY,bI]at hB;obtain⟨h1,h2,h3,h4,h5⟩:=hB;have hall:∀x∈π,∃o,ops[x]?=some o:=by
  intro x hx;obtain⟨j,hj,rfl⟩:=eL.1 hx;have:=bA.1 h4 j (bp.2 (by omega));rw[ai hj]at this;simp only[cj]at this;have:=(aH.1 this).1;exact⟨_,cR (by omega)⟩
 have key:∀(l:aa),(∀x∈l,∃o,ops[x]?=some o)->(l.filterMap fun i=>(ops[i]?).map (Dp ρ)).length=l.length:=by
  intro l
  induction l with
  |nil=>intro _;rfl
  |cons x l ih=>
   intro hl;obtain⟨ox,hox⟩:=hl x (by simp);rw[Aa];simp only[hox,cY,aK,ih (fun y hy=>hl y (by simp[hy]))]
 rw[CN,xT,key π hall,h1]
theorem a2G{Q':Exit->Act->World->Prop}(hB:Ow ops π ρ=true):∀(fuel:Nat) (listed listed':Array Bool) (a:Act) (w:World),listed.size=ops.size->listed'.size=ops.size->(∀(k i:Nat),π[k]?=some i->listed'.getD k false=listed.getD i false)->
 wpAny P .any (xT ops π ρ).toArray Q' fuel listed' a w->wpAny P .any ops Q' fuel listed a w:=by
 have hB':=hB;simp only[Ow,aY,bI]at hB';obtain⟨h1,h2,h3,h4,h5⟩:=hB';have to:∀i,i<ops.size->∃k,ρ[i]?=some k/\π[k]?=some i/\k<ops.size:=by
  intro i hi;have:=bA.1 h3 i (bp.2 hi);split at this
  ·rename_i k hk;simp only[cj]at this;exact⟨k,hk,this,by have:=(aH.1 this).1;omega⟩
  ·cases this
 have back:∀k,k<ops.size->∃i,π[k]?=some i/\ρ[i]?=some k/\i<ops.size:=by
  intro k hk;have:=bA.1 h4 k (bp.2 hk);split at this
  ·rename_i i hi;simp only[cj]at this;exact⟨i,hi,this,by have:=(aH.1 this).1;omega⟩
  ·cases this
 have rin:∀(i:Nat) o,ops[i]?=some o->(∀e∈o.after,e.on<ops.size)/\∀g,o.guard=some g->g.1<ops.size:=by
  intro i o ho;have hm:o∈ops.toList:=by rw[<-uy]at ho;exact aC ho
  have:=bA.1 h5 o hm;simp only[aY]at this;refine⟨fun e he=>by simpa using xU.1 this.1 e he,fun g hg=>?_⟩;have:=this.2;rw[hg]at this;simpa using this
 have rd:∀(listed listed':Array Bool),listed.size=ops.size->listed'.size=ops.size->(∀(k i:Nat),π[k]?=some i->listed'.getD k false=listed.getD i false)->∀(k i:Nat),π[k]?=some i->(i∈Region.ready .any ops listed↔k∈Region.ready .any (xT ops π ρ).toArray listed'):=by
  intro listed listed' hs1 hs2 Vl k i hki;have hk:k<ops.size:=by have:=(aH.1 hki).1;omega
  obtain⟨i',hi',hr,hilt⟩:=back k hk;rw[hki]at hi';cases hi';have ho:ops[i]?=some ops[i]:=cR hilt;have ho':=Qy hB hki ho;have hon:∀e∈ops[i].after,listed'.getD (ρ.getD e.on 0) false=listed.getD e.on false:=by
   intro e he;obtain⟨k2,hk2,hk3,_⟩:=to e.on ((rin i _ ho).1 e he);rw[lP,hk2,zD];exact Vl k2 e.on hk3
  rw[mem_ready,mem_ready];constructor
  ·rintro⟨q1,o,q2,q3⟩;rw[ho]at q2;cases q2;refine⟨getD_in (by omega) (by rw[Vl k i hki];exact getD_both q1),_,ho',?_⟩;intro e he hb;simp only[Dp,Array.mem_map]at he;obtain⟨e0,he0,rfl⟩:=he;simp only;rw[hon e0 he0];exact q3 e0 he0 hb
  ·rintro⟨q1,o,q2,q3⟩;rw[ho']at q2;cases q2;refine⟨getD_in (by omega) (by rw[<-Vl k i hki];exact getD_both q1),_,ho,?_⟩;intro e he hb;rw[<-hon e he];exact q3 {e with on:=ρ.getD e.on 0} (by simp only[Dp,Array.mem_map];exact⟨e,he,rfl⟩) hb
 have lt:∀ {listed:Array Bool} {ops:Array Oper} {i:Nat},i∈Region.ready .any ops listed->i<ops.size:=by
  intro listed ops i hi;obtain⟨_,o,ho,_⟩:=mem_ready.1 hi;exact(bL.1 ho).1
 have a5k:∀(listed listed':Array Bool),listed.size=ops.size->listed'.size=ops.size->(∀(k i:Nat),π[k]?=some i->listed'.getD k false=listed.getD i false)->(Region.ready .any ops listed=[]↔Region.ready .any (xT ops π ρ).toArray listed'=[]):=by
  intro listed listed' hs1 hs2 Vl;constructor
  ·intro h;rw[zC];intro k hk;obtain⟨i,hi,_⟩:=back k (by have:=lt hk;rw[VG hB]at this;exact this);have:=(rd listed listed' hs1 hs2 Vl k i hi).2 hk;rw[h]at this;cases this
  ·intro h;rw[zC];intro i hi;obtain⟨k,_,hk,_⟩:=to i (lt hi);have:=(rd listed listed' hs1 hs2 Vl k i hk).1 hi;rw[h]at this;cases this
 intro fuel
 induction fuel with
 |zero=>
  intro listed listed' a w hs1 hs2 Vl h;exact⟨(a5k listed listed' hs1 hs2 Vl).2 h.1,h.2⟩
 |succ fuel ih=>
  intro listed listed' a w hs1 hs2 Vl h;refine⟨fun h0=>h.1 ((a5k listed listed' hs1 hs2 Vl).1 h0),fun i hi=>?_⟩;have hilt:=lt hi;obtain⟨k,hrk,hk,aEg⟩:=to i hilt;have hkr:=(rd listed listed' hs1 hs2 Vl k i hk).1 hi;have ho:ops[i]?=some ops[i]:=cR hilt;have ho':=Qy hB hk ho;have h2:=wpOp_mono (K':=wpAny P .any ops Q' fuel (listed.setIfInBounds i true)) (fun a' w' h'=>ih (listed.setIfInBounds i true) (listed'.setIfInBounds k true) a' w' (by simpa using hs1) (by simpa using hs2) (by
   intro k2 i2 a1E;by_cases e:k=k2
   ·subst e;rw[hk]at a1E;cases a1E;have g1:k<listed'.size:=by omega
    have g2:i<listed.size:=by omega
    simp[g1,g2]
   ·have e2:i≠i2:=by
     intro e3;subst e3;obtain⟨i',hi',hr',_⟩:=back k2 (by have:=(aH.1 a1E).1;omega);rw[a1E]at hi';cases hi';rw[hrk]at hr';cases hr';exact e rfl
    rw[getD_set_ne false e,getD_set_ne false e2];exact Vl k2 i2 a1E) h') (h.2 k hkr)
  have hw:Region.wanted (Dp ρ ops[i]) (yielded (xT ops π ρ).toArray a.tmps)=Region.wanted ops[i] (yielded ops a.tmps):=by
   cases hg:ops[i].guard with
   |none=>simp[Region.wanted,Dp,hg]
   |some g=>
    obtain⟨j,want⟩:=g;have hj:=(rin i _ ho).2 _ hg;obtain⟨k3,aCS,hk3,_⟩:=to j hj;have zx:ops[j]?=some ops[j]:=cR hj;have aCM:=Qy hB hk3 zx;have:yielded (xT ops π ρ).toArray a.tmps (ρ.getD j 0)=yielded ops a.tmps j:=by
     rw[lP,aCS,zD];unfold yielded;rw[aCM,zx];rfl
    simp only[Region.wanted,Dp,hg,cY];rw[this]
  unfold wpOp at h2⊢;simp only[ho',ho]at h2⊢;rw[hw]at h2;split
  ·rename_i hwt;rw[bP hwt]at h2;exact h2.imp (a3G ρ) fun⟨q1,q2⟩=>⟨W7 ρ q1,q2⟩
  ·rename_i hwt;rw[bH hwt]at h2;exact h2
theorem Ri.perm(hB:Ow ops π ρ=true)(h:Ri P Γ (xT ops π ρ).toArray Q st):Ri P Γ ops Q st:=by
 intro κ Θ a w hs;have:=h κ Θ a w hs;rw[VG hB]at this;refine a2G hB ops.size (Array.replicate ops.size false) (Array.replicate ops.size false) a w (by simp) (by simp) (fun k i _=>?_) this;rw[getD_replicate_false,getD_replicate_false]
end
end
end Go.Cx
namespace Go.Cx
open Go.RowKit
def AU(P:Program)(nt:Nat)(all:Array Oper):List Oper->St->eY->Option (St×eY×E3)
 | [],st,A=>(match shares A st with| (AA,A1)=>some (AA,A1,[]))
 |o::rest,st,A=>match o.guard with
  |none=>(match KE P nt o st A with
   |some (AA,A1,p)=>(match AU P nt all rest AA A1 with|some (R5,A2,q)=>some (R5,A2,p++q)|none=>none)
   |none=>none)
  |some (j,want)=>(match(all[j]?).bind (·.dst),A with
   |some s,.b v::A=>(match lk st.σ s with
    | .bool b=>(match v==want with
     |true=>(match KE P nt {o with guard:=none} st A with
      |some (AA,A1,p)=>(match AU P nt all rest AA A1 with|some (R5,A2,q)=>some (R5,A2,(b=v)::(p++q))|none=>none)
      |none=>none)
     |false=>(match o.dst with
      |some t=>(if t<nt then match AU P nt all rest ⟨(t,.gb [])::st.σ,st.H⟩ A with|some (R5,A2,q)=>some (R5,A2,(b=v)::q)|none=>none else none)
      |none=>(match AU P nt all rest st A with|some (R5,A2,q)=>some (R5,A2,(b=v)::q)|none=>none)))
    | .gb []=>(match o.dst with
     |some t=>(if t<nt then AU P nt all rest ⟨(t,.gb [])::st.σ,st.H⟩ A else none)
     |none=>AU P nt all rest st A)
    |_=>none)
   |_,_=>none)
def Xs(P:Program)(H:bU)(r:Nat)(σ:List (Nat×D))(o:Oper)(A:eY):Option (D×bU×eY×E3):=match o.op with
 | .call c=>(match c.callee with
  | .value (.func f)=>(match Lx H (c.args.toList.map (St.ev ⟨σ,H⟩)),A with
   |some (ds,ms),.d d::A=>(if ms=[]\/d.Qu=true then some ((rC r d).1,(rC r d).2,A,[Good P f ds d])else none)
   |some (ds,ms),.ds d::A=>(if d.a7o=true/\d.Qu=true then some (d.shV,[],A,[Good P f ds d])else none)
   |_,.nl d::A=>(if(c.args.toList.map (St.ev ⟨σ,H⟩)).all Ot=true then some ((rC r d).1,(rC r d).2,A,[Good P f (c.args.toList.map (St.ev ⟨σ,H⟩)) d])else none)
   |_,_=>none)
  |_=>(match Js P ⟨σ,H⟩ o.op A with|some (d,A,ow)=>some (d,[],A,ow)|none=>none))
 | .alloc T=>(match tz P T with|some zs=>some (.ptr r 0,[.box zs],A,[])|none=>none)
 | .box _ x=>(match(St.ev ⟨σ,H⟩ x).cellsOf with|some ds=>some (.ptr r 0,[.box ds],A,[])|none=>none)
 | .buildSlice T len parts=>(match IJ P T with
  |some (e,sz)=>(match tz P e with
   |some zs=>(match A7 (ux len sz) (List.replicate len zs).flatten (parts.toList.map fun q=>(q.1,St.ev ⟨σ,H⟩ q.2))with
    |some ds=>(match A with
     | .vw _::A=>(if 0<sz/\len*sz<=16777216/\ds.all D.U5=true/\ds.all D.flat=true then some (.sl (chunk sz len ds),[],A,[])else none)
     |A=>(match Nv H ds with
      |some (es,ms)=>(if 0<sz/\len*sz<=16777216/\ms=[]then some (.acc r,[.row (BC (ds.all (Yg H))) e sz (chunk sz len es)],A,[])else none)
      |none=>none))
    |none=>none)
   |none=>none)
  |none=>none)
 |_=>(match Js P ⟨σ,H⟩ o.op A with|some (d,A,ow)=>some (d,[],A,ow)|none=>none)
def zR(P:Program)(nt:Nat)(all:Array Oper)(H:bU):List Oper->List (Nat×D)->bU->aa->eY->Option (List (Nat×D)×bU×eY×E3)
 | [],σ,acc,_,A=>some (σ,acc,A,[])
 |o::rest,σ,acc,U,A=>match o.dst with
  |none=>(match o.op,o.guard with
   | .store T x y,none=>(match St.ev ⟨σ,H⟩ x,(St.ev ⟨σ,H⟩ y).cellsOf with
    | .ptr id off,some ds=>(match acc[id-H.length]? with
     |some (.box zs)=>(if off=0/\H.length<=id/\id∉U/\Tr P T=true/\ds.length=BK P T/\zs.length=ds.length then zR P nt all H rest σ (acc.set (id-H.length) (.box ds)) (id::U) A else none)
     |_=>none)
    |_,_=>none)
   |_,_=>none)
  |some t=>(if t<nt then match o.guard with
   |none=>(match Xs P H (H.length+acc.length) σ o A with
    |some (d,obs,A1,p)=>(match zR P nt all H rest ((t,d)::σ) (acc++obs) U A1 with|some (σ2,UI,A2,q)=>some (σ2,UI,A2,p++q)|none=>none)
    |none=>none)
   |some (j,want)=>(match(all[j]?).bind (·.dst),A with
    |some s,.b v::A=>(match lk σ s with
     | .bool b=>(match v==want with
      |true=>(match Xs P H (H.length+acc.length) σ o A with
       |some (d,obs,A1,p)=>(match zR P nt all H rest ((t,d)::σ) (acc++obs) U A1 with|some (σ2,UI,A2,q)=>some (σ2,UI,A2,(b=v)::(p++q))|none=>none)
       |none=>none)
      |false=>(match zR P nt all H rest ((t,.gb [])::σ) acc U A with|some (σ2,UI,A2,q)=>some (σ2,UI,A2,(b=v)::q)|none=>none))
     | .gb []=>zR P nt all H rest ((t,.gb [])::σ) acc U A
     |_=>none)
    |_,_=>none)
   else none)
inductive Fr where
 |sq (c:Code)
 |bl (id:Nat)
 |lp
def depth:List Fr->Nat
 | []=>0
 | .lp::K=>depth K+1
 |_::K=>depth K
inductive Cfg where
 |run (c:Code)
 |nor
 |ex (id:Nat)
inductive Stop where
 |ret (d:D)
 |lp (c:Code) (K:List Fr) (st:St)
 |cont (k:Nat) (st:St)
 |at_ (c:Code) (K:List Fr) (st:St)
def a7s(P:Program)(rs:List ResultVar×List (List (Option (Nat×Nat))))(st:St):Option D:=match Ex P st rs.1 with
 |some ds=>(match Dq st.H rs.2 ds with|some (es,ms,qs)=>(if ms.Nodup/\qs.Nodup then some (C1 es)else none)|none=>none)
 |none=>none
def aCD(A:eY)(m:Nat):Option (aa×aa):=match A with
 | .hl m' k o::_=>if m'=m then some (k,o)else none
 |_=>none
def SY(p:E3)(x:Option (Stop×E3)):Option (Stop×E3):=match x with
 |some (s,q)=>some (s,p++q)
 |none=>none
def go(P:Program)(rf:St->Option D)(nt:Nat):Nat->Cfg->List Fr->St->eY->Option (Stop×E3)
 |0,_,_,_,_=>none
 |n+1,.run c,K,st,A=>(match c with
  | .skip=>go P rf nt n .nor K st A
  | .ret=>(match rf st with|some d=>some (.ret d,[])|none=>none)
  | .exit id=>go P rf nt n (.ex id) K st A
  | .seq x y=>go P rf nt n (.run x) (.sq y::K) st A
  | .block id x=>go P rf nt n (.run x) (.bl id::K) st A
  | .loop x=>(match A with
   | .cn k o::_=>(if o.Nodup then some (.lp x K (st.Eu k o),[])else none)
   | .pb id off e sz::A=>(match st.prom id off e sz with|some AA=>(match shares A AA with| (R5,A2)=>go P rf nt n (.run (.loop x)) K R5 A2)|none=>none)
   |_=>none)
  | .cond x y z=>(match st.ev x,A with
   | .bool b,.b v::A=>SY [b=v] (go P rf nt n (.run (match v with|true=>y|false=>z)) K st A)
   |_,_=>none)
  | .region _ ops dr=>(match dr with
   |false=>(match AU P nt ops ops.toList st A with|some (AA,A1,p)=>SY p (go P rf nt n .nor K AA A1)|none=>none)
   |true=>(match A with
    | .n k::A=>(match a10 ops k with
     |true=>(match zR P nt ops st.H (ops.toList.take k) st.σ [] [] A with
      |some (σ1,acc,A1,p)=>(match AU P nt ops (ops.toList.drop k) ⟨σ1,st.H++acc⟩ A1 with|some (R5,A2,q)=>SY (p++q) (go P rf nt n .nor K R5 A2)|none=>none)
      |none=>none)
     |false=>none)
    | .n2 π ρ k m L X::A=>(match Ow ops π ρ,xT ops π ρ with
     |true,ops'=>(match QE ops'.toArray k m L with
      |true=>(match zR P nt ops'.toArray st.H (ops'.take k) st.σ [] [] A with
       |some (σ1,acc,A1,p)=>(match a2w X ⟨σ1,st.H⟩ ops' L,Qm P nt X ((ops'.drop k).take (m-k)) ⟨σ1,st.H++acc⟩ A1 with
        |true,some (AA,A2,p2)=>(match AU P nt ops'.toArray (ops'.drop m) AA A2 with|some (R5,A3,q)=>SY (p++(p2++q)) (go P rf nt n .nor K R5 A3)|none=>none)
        |_,_=>none)
       |none=>none)
      |false=>none)
     |false,_=>none)
    |_=>none))
  |_=>none)
 |n+1,.nor,K,st,A=>(match K with
  | []=>(match rf st with|some d=>some (.ret d,[])|none=>none)
  | .sq y::K=>(match aCD A K.length with|some (k,o)=>(if o.Nodup then some (.at_ y K (st.Eu k o),[])else none)|none=>go P rf nt n (.run y) K st A)
  | .bl _::K=>go P rf nt n .nor K st A
  | .lp::K=>(match A with| .cn k o::_=>(if o.Nodup then some (.cont (depth K) (st.Eu k o),[])else none)|_=>none))
 |n+1,.ex id,K,st,A=>(match K with
  | []=>none
  | .sq _::K=>go P rf nt n (.ex id) K st A
  | .bl i::K=>(if id=i then go P rf nt n .nor K st A else go P rf nt n (.ex id) K st A)
  | .lp::K=>go P rf nt n (.ex id) K st A)
section
variable{P:Program}{Γ:vP}{Q:Exit->St->Prop}{N:Nat->St->Prop}
def KQ(P:Program)(Γ:vP)(N:Nat->St->Prop)(Q:Exit->St->Prop):List Fr->Exit->St->Prop
 | []=>Q
 | .sq y::K=>a33 (AW P Γ y (KQ P Γ N Q K)) (KQ P Γ N Q K)
 | .bl id::K=>Sp id (KQ P Γ N Q K)
 | .lp::K=>a33 (fun st=>∃k o,o.Nodup/\N (depth K) (st.Eu k o)) (KQ P Γ N Q K)
theorem a6Y:∀(K:List Fr) {st:St},Q .ret st->KQ P Γ N Q K .ret st:=by
 intro K
 induction K with
 |nil=>intro st h;exact h
 |cons f K ih=>intro st h;cases f<;>exact ih h
theorem UA{N':Nat->St->Prop}:∀(K:List Fr),(∀d,d<depth K->N d=N' d)->KQ P Γ N Q K=KQ P Γ N' Q K:=by
 intro K
 induction K with
 |nil=>intro _;rfl
 |cons f K ih=>
  intro h;cases f with
  |sq y=>simp only[KQ];rw[ih h]
  |bl id=>simp only[KQ];rw[ih h]
  |lp=>simp only[KQ];rw[ih (fun d hd=>h d (by simp only[depth];omega)),h (depth K) (by simp only[depth];omega)]
theorem Ei{nt:Nat}(hnt:Γ.nt=nt){all:Array Oper}{R5:St}{A2:eY}:∀ {ops:List Oper} {st:St} {A:eY} {p:E3},AU P nt all ops st A=some (R5,A2,p)->zE p->Q .normal R5->AO P Γ all ops Q st:=by
 intro ops
 induction ops with
 |nil=>
  intro st A p h _ hq;simp only[AU]at h;cases hsh:shares A st with
  |mk AA A1=>
   rw[hsh]at h;simp only[av,cT]at h;obtain⟨rfl,_,_⟩:=h;exact fun κ Θ a w hs=>wpList_nil ⟨_,_,_,hs.shares hsh,hq⟩
 |cons o rest ih=>
  intro st A p h hp hq;simp only[AU]at h;split at h
  ·rename_i hg;split at h
   ·rename_i AA A1 p1 h1;split at h
    ·rename_i a55 A2' q h2;cases h;exact Sf hnt hg h1 hp.app.1 (ih h2 hp.app.2 hq)
    ·cases h
   ·cases h
  ·rename_i j want hg;split at h
   ·rename_i s v A1 hj;split at h
    ·rename_i b hb;split at h
     ·rename_i hv;simp only[cj]at hv;subst hv;split at h
      ·rename_i AA A2' p1 h1;split at h
       ·rename_i a55 A3 q h2;cases h;refine Pq (b:=b) hg hj hb ?_ (fun _=>Sf hnt rfl h1 hp.2.app.1 (ih h2 hp.2.app.2 hq)) (fun hne=>absurd hp.1 hne);intro t ht;exact a2v hnt h1 ht
       ·cases h
      ·cases h
     ·rename_i hv;split at h
      ·rename_i t hd;split at h
       ·rename_i ht;split at h
        ·rename_i a55 A3 q h2;cases h;refine Pq (b:=b) hg hj hb (fun t' ht'=>?_) (fun e=>?_) (fun _=>?_)
         ·rw[hd]at ht';cases ht';rw[hnt];exact ht
         ·exfalso;have:=hp.1;simp only[dF,ne_eq]at hv;exact hv (this.symm.trans e)
         ·rw[hd];exact ih h2 hp.2 hq
        ·cases h
       ·cases h
      ·rename_i hd;split at h
       ·rename_i a55 A3 q h2;cases h;refine Pq (b:=b) hg hj hb (fun t' ht'=>?_) (fun e=>?_) (fun _=>?_)
        ·rw[hd]at ht';cases ht'
        ·exfalso;have:=hp.1;simp only[dF,ne_eq]at hv;exact hv (this.symm.trans e)
        ·rw[hd];exact ih h2 hp.2 hq
       ·cases h
    ·rename_i hb;split at h
     ·rename_i t hd;split at h
      ·rename_i ht;refine Rh hg hj hb (fun t' ht'=>?_) ?_
       ·rw[hd]at ht';cases ht';rw[hnt];exact ht
       ·rw[hd];exact ih h hp hq
      ·cases h
     ·rename_i hd;refine Rh hg hj hb (fun t' ht'=>?_) ?_
      ·rw[hd]at ht';cases ht'
      ·rw[hd];exact ih h hp hq
    ·cases h
   ·cases h
theorem Og{H:bU}{r:Nat}{σ:List (Nat×D)}{o:Oper}{A A1:eY}{d:D}{obs:bU}{p:E3}(t:Option Nat)(u:Option (Nat×Ob))(h:Xs P H r σ o A=some (d,obs,A1,p))(hp:zE p):M6 P H σ o ⟨t,d,r,obs,u⟩:=by
 have plain:∀ {x},(match Js P ⟨σ,H⟩ x A with|some (d,A,ow)=>some (d,([]:bU),A,ow)|none=>none)=some (d,obs,A1,p)->pv P ⟨σ,H⟩ x=some d/\obs=[]:=by
  intro x h;split at h
  ·rename_i d' A' ow h1;cases h;exact⟨Yh h1 hp,rfl⟩
  ·cases h
 unfold Xs at h;split at h
 ·rename_i c hop;split at h
  ·rename_i f hc;split at h
   ·rename_i ds ms d' A' h1;split at h
    ·rename_i hsh;cases h;exact .inl (.inr ⟨f,_,_,ds,ms,d',hop.trans (congrArg Op.call (sC c hc rfl rfl)),.inl (by simpa using h1),hsh,hp.1,.inl rfl⟩)
    ·cases h
   ·rename_i ds ms d' A' h1;split at h
    ·rename_i hc2;cases h;exact .inl (.inr ⟨f,_,_,ds,ms,d',hop.trans (congrArg Op.call (sC c hc rfl rfl)),.inl (by simpa using h1),.inr hc2.2,hp.1,.inr ⟨hc2.1,rfl,rfl⟩⟩)
    ·cases h
   ·rename_i d' A';split at h
    ·rename_i hk;cases h;exact .inl (.inr ⟨f,_,_,_,[],d',hop.trans (congrArg Op.call (sC c hc rfl rfl)),.inr ⟨by simpa using hk,by simp,rfl⟩,.inl rfl,hp.1,.inl rfl⟩)
    ·cases h
   ·cases h
  ·exact .inl (.inl (plain h))
 ·rename_i T hop;split at h
  ·rename_i zs hz;cases h;exact .inr (.inl (.inl ⟨T,zs,hop,hz,rfl,rfl⟩))
  ·cases h
 ·rename_i T x hop;split at h
  ·rename_i ds hc;cases h;exact .inr (.inl (.inr ⟨T,x,ds,hop,hc,rfl,rfl⟩))
  ·cases h
 ·rename_i T len parts hop;split at h
  ·rename_i e sz h1;split at h
   ·rename_i zs h2;split at h
    ·rename_i ds h3;split at h
     ·split at h
      ·rename_i hc;obtain⟨c1,c2,c3,c4⟩:=hc;cases h;exact .inr (.inr (.inr ⟨T,e,sz,len,parts,zs,ds,hop,h1,h2,c1,c2,h3,c3,c4,rfl,rfl⟩))
      ·cases h
     ·split at h
      ·rename_i es ms h4;split at h
       ·rename_i hc;obtain⟨c1,c2,rfl⟩:=hc;cases h;exact .inr (.inr (.inl ⟨T,e,sz,len,parts,zs,ds,es,hop,h1,h2,c1,c2,h3,h4,rfl,rfl⟩))
       ·cases h
      ·cases h
    ·cases h
   ·cases h
  ·cases h
 ·exact .inl (.inl (plain h))
theorem Jy{nt:Nat}(hnt:Γ.nt=nt){all:Array Oper}{H:bU}{K:List (Nat×D)->bU->Prop}{σ2:List (Nat×D)}{UI:bU}{A2:eY}:∀ {ops:List Oper} {σ:List (Nat×D)} {acc:bU} {U:aa} {A:eY} {p:E3},
 zR P nt all H ops σ acc U A=some (σ2,UI,A2,p)->zE p->K σ2 UI->Oe P Γ all H K ops σ acc U:=by
 subst hnt;intro ops
 induction ops with
 |nil=>
  intro σ acc U A p h _ hK;simp only[zR,av,cT]at h;obtain⟨rfl,rfl,_,_⟩:=h;exact hK
 |cons o rest ih=>
  intro σ acc U A p h hp hK;simp only[zR]at h;split at h
  ·rename_i hd;split at h
   ·rename_i T x y hop hg;split at h
    ·rename_i id off ds h1 h2;split at h
     ·rename_i zs h3;split at h
      ·rename_i hc;obtain⟨rfl,c2,c3,c4,c5,c6⟩:=hc;exact⟨⟨none,.any,H.length+acc.length,[],some (id,.box ds)⟩,rfl,.inr ⟨rfl,rfl,hd,hg,T,x,y,id,ds,hop,h1,c2,h2,c4,c5,rfl⟩,⟨c3,c2,zs,ds,h3,rfl,c6⟩,ih h hp hK⟩
      ·cases h
     ·cases h
    ·cases h
   ·cases h
  ·rename_i t hd;split at h
   ·rename_i ht;split at h
    ·rename_i hg;split at h
     ·rename_i d obs A1 p1 h1;split at h
      ·rename_i σ3 a8l A3 q h2;cases h;exact⟨⟨some t,d,H.length+acc.length,obs,none⟩,rfl,.inl ⟨t,rfl,rfl,hd,ht,.inl ⟨hg,Og _ _ h1 hp.app.1⟩⟩,trivial,ih h2 hp.app.2 hK⟩
      ·cases h
     ·cases h
    ·rename_i j want hg;split at h
     ·rename_i s v A1 hj;split at h
      ·rename_i b hb;split at h
       ·rename_i hv;simp only[cj]at hv;subst hv;split at h
        ·rename_i d obs A2' p1 h1;split at h
         ·rename_i σ3 a8l A3 q h2;cases h;exact⟨⟨some t,d,H.length+acc.length,obs,none⟩,rfl,.inl ⟨t,rfl,rfl,hd,ht,.inr (.inl ⟨j,s,v,b,hg,hj,hb,.inl ⟨hp.1,Og _ _ h1 hp.2.app.1⟩⟩)⟩,trivial,ih h2 hp.2.app.2 hK⟩
         ·cases h
        ·cases h
       ·rename_i hv;simp only[dF,ne_eq]at hv;split at h
        ·rename_i σ3 a8l A3 q h2;cases h;refine⟨⟨some t,.gb [],H.length+acc.length,[],none⟩,rfl,.inl ⟨t,rfl,rfl,hd,ht,.inr (.inl ⟨j,s,want,b,hg,hj,hb,.inr ⟨fun e=>hv (hp.1.symm.trans e),rfl,rfl⟩⟩)⟩,trivial,?_⟩;simp only[Cp.fill,cM];exact ih h2 hp.2 hK
        ·cases h
      ·rename_i hb;refine⟨⟨some t,.gb [],H.length+acc.length,[],none⟩,rfl,.inl ⟨t,rfl,rfl,hd,ht,.inr (.inr ⟨j,s,want,hg,hj,hb,rfl,rfl⟩)⟩,trivial,?_⟩;simp only[Cp.fill,cM];exact ih h hp hK
      ·cases h
     ·cases h
   ·cases h
def Vt(P:Program)(Γ:vP)(N:Nat->St->Prop)(Q:Exit->St->Prop)(d0:D):Stop->Prop
 | .ret d=>d=d0
 | .lp c K st=>AW P Γ (.loop c) (KQ P Γ N Q K) st
 | .cont k st=>N k st
 | .at_ c K st=>AW P Γ c (KQ P Γ N Q K) st
theorem U8{c:Code}{st:St}{k o:aa}(hnd:o.Nodup)(h:AW P Γ c Q (st.Eu k o)):AW P Γ c Q st:=by
 intro κ Θ a w hs;obtain⟨κ',Θ',hs'⟩:=hs.Eu k o hnd;exact h κ' Θ' a w hs'
theorem a7t{fn:Func}{st:St}{d:D}{e:Exit}(he:e=.ret\/e=.normal){nz:List (List (Option (Nat×Nat)))}(h:a7s P (fn.results.toList,nz) st=some d):Vs P fn d e st:=by
 unfold a7s at h;split at h
 ·rename_i ds h1;split at h
  ·rename_i es ms qs h2;split at h
   ·rename_i hc;cases h;exact⟨he,nz,ds,es,ms,qs,h1,h2,hc.1,hc.2,rfl⟩
   ·cases h
  ·cases h
 ·cases h
def a8j(P:Program)(Γ:vP)(N:Nat->St->Prop)(Q:Exit->St->Prop)(K:List Fr)(st:St):Cfg->Prop
 | .run c=>AW P Γ c (KQ P Γ N Q K) st
 | .nor=>KQ P Γ N Q K .normal st
 | .ex id=>KQ P Γ N Q K (.exit id) st
theorem Ep{p q:E3}{x:Option (Stop×E3)}{s:Stop}(h:SY p x=some (s,q)):∃q',x=some (s,q')/\q=p++q':=by
 unfold SY at h;split at h
 ·cases h;exact⟨_,rfl,rfl⟩
 ·cases h
theorem go_sound{rf:St->Option D}{d0:D}(hrf:∀st e,(e=.ret\/e=.normal)->rf st=some d0->Q e st){nt:Nat}(hnt:Γ.nt=nt)(hm:P.follows .mixedOrders=true):∀ {n:Nat} {cfg:Cfg} {K:List Fr} {st:St} {A:eY} {s:Stop} {p:E3},go P rf nt n cfg K st A=some (s,p)->zE p->Vt P Γ N Q d0 s->a8j P Γ N Q K st cfg:=by
 intro n
 induction n with
 |zero=>intro cfg K st A s p h;simp[go]at h
 |succ n ih=>
  intro cfg K st A s p h hp hs;cases cfg with
  |run c=>
   show AW P Γ c (KQ P Γ N Q K) st;cases c with
   |skip=>simp only[go]at h;exact a3l (ih h hp hs)
   |ret=>
    simp only[go]at h;split at h
    ·rename_i d hd;simp only[av,cT]at h;obtain⟨rfl,_⟩:=h;have hd0:d=d0:=hs;subst hd0;exact a6W (a6Y K (hrf st _ (.inl rfl) hd))
    ·cases h
   |exit id=>simp only[go]at h;exact a3k (ih h hp hs)
   |seq x y=>simp only[go]at h;exact a6X (ih h hp hs)
   |block id x=>simp only[go]at h;exact a0f (ih h hp hs)
   |loop x=>
    simp only[go]at h;split at h
    ·split at h
     ·rename_i hnd;simp only[av,cT]at h;obtain⟨rfl,_⟩:=h;exact U8 hnd hs
     ·cases h
    ·split at h
     ·rename_i A0 x0 AA hst;intro κ Θ a w aCX;obtain⟨κ',hs'⟩:=aCX.prom hst;exact(ih h hp hs:AW P Γ (.loop x) (KQ P Γ N Q K) (shares A0 AA).1) κ' Θ a w (hs'.shares (rfl:shares A0 AA=((shares A0 AA).1,(shares A0 AA).2)))
     ·cases h
    ·cases h
   |cond x y z=>
    simp only[go]at h;split at h
    ·rename_i b v A1 hx;obtain⟨q,h1,rfl⟩:=Ep h;obtain⟨hb,hp'⟩:=hp;subst hb;refine a3i hx (fun e=>?_) (fun e=>?_)
     ·subst e;exact ih h1 hp' hs
     ·subst e;exact ih h1 hp' hs
    ·cases h
   |region id ops dr=>
    simp only[go]at h;cases dr with
    |false=>
     simp only at h;split at h
     ·rename_i AA A1 p1 h1;obtain⟨q,h2,rfl⟩:=Ep h;have:=Ei (Q:=KQ P Γ N Q K) hnt h1 hp.app.1 (ih h2 hp.app.2 hs);have hr:=Yp (id:=id) (l:=ops.toList) (by simpa using this);simpa using hr
     ·cases h
    |true=>
     simp only at h;split at h
     ·rename_i k A1;split at h
      ·rename_i hB;split at h
       ·rename_i σ1 acc A2 p1 h1;split at h
        ·rename_i R5 A3 p2 h2;obtain⟨q,h3,rfl⟩:=Ep h;have hq:=hp.app.1.app;have h4:=Ei (Q:=KQ P Γ N Q K) hnt h2 hq.2 (ih h3 hp.app.2 hs);have h5:=Jy (Γ:=Γ) (K:=fun σ acc=>AO P Γ ops (ops.toList.drop k) (KQ P Γ N Q K) ⟨σ,st.H++acc⟩) hnt h1 hq.1 h4;have hr:=a3j (id:=id) (l:=ops.toList) (Q:=KQ P Γ N Q K) (st:=st) k hm (by simpa using hB) (by simpa using h5);simpa using hr
        ·cases h
       ·cases h
      ·cases h
     ·rename_i π ρ k m L X A1;split at h
      ·rename_i ops' hB1;generalize aCN:xT ops π ρ=ops' at h;split at h
       ·rename_i hB;split at h
        ·rename_i σ1 acc A2 p1 h1;split at h
         ·rename_i AA A3 p2 hst hmid;split at h
          ·rename_i R5 A4 p3 h2;obtain⟨q,h3,rfl⟩:=Ep h;have hq:=hp.app.1.app;have M2:=hq.2.app;have h4:=Ei (Q:=KQ P Γ N Q K) hnt h2 M2.2 (ih h3 hp.app.2 hs);have h6:=TN (Γ:=Γ) (K:=fun xQ=>AO P Γ ops'.toArray (ops'.drop m) (KQ P Γ N Q K) xQ) hnt hmid M2.1 h4;have h5:=Jy (Γ:=Γ) (K:=fun σ acc=>(∀i∈L,∀o,ops'[i]?=some o->El X ⟨σ,st.H⟩ o.op=true)/\a0S P Γ X (fun xQ=>AO P Γ ops'.toArray (ops'.drop m) (KQ P Γ N Q K) xQ) ((ops'.drop k).take (m-k)) ⟨σ,st.H++acc⟩) hnt h1 hq.1 ⟨Zt hst,h6⟩;have hr:=Yy (l:=ops') (Q:=KQ P Γ N Q K) (st:=st) k m L hB h5;rw[<-aCN]at hr;exact(hr.perm hB1).aw hm
          ·cases h
         ·cases h
        ·cases h
       ·cases h
      ·cases h
     ·cases h
   |_=>simp[go]at h
  |nor=>
   show KQ P Γ N Q K .normal st;simp only[go]at h;split at h
   ·split at h
    ·rename_i d hd;simp only[av,cT]at h;obtain⟨rfl,_⟩:=h;have hd0:d=d0:=hs;subst hd0;exact hrf st _ (.inr rfl) hd
    ·cases h
   ·split at h
    ·split at h
     ·rename_i hnd;simp only[av,cT]at h;obtain⟨rfl,_⟩:=h;exact U8 hnd hs
     ·cases h
    ·exact ih (cfg:=.run _) h hp hs
   ·exact ih (cfg:=.nor) h hp hs
   ·split at h
    ·split at h
     ·rename_i k o _ hnd;simp only[av,cT]at h;obtain⟨rfl,_⟩:=h;exact⟨k,o,hnd,hs⟩
     ·cases h
    ·cases h
  |ex id=>
   show KQ P Γ N Q K (.exit id) st;simp only[go]at h;split at h
   ·cases h
   ·exact ih (cfg:=.ex id) h hp hs
   ·rename_i i K;simp only[KQ,Sp];split at h
    ·rename_i e;rw[bP e];exact ih (cfg:=.nor) h hp hs
    ·rename_i e;rw[bH e];exact ih (cfg:=.ex id) h hp hs
   ·exact ih (cfg:=.ex id) h hp hs
def dig:Code->aa->List Fr->Code×List Fr
 |c,[],K=>(c,K)
 | .seq x y,i::p,K=>(match i with|0=>dig x p (.sq y::K)|_=>dig y p K)
 | .block id c,_::p,K=>dig c p (.bl id::K)
 | .cond _ x y,i::p,K=>(match i with|0=>dig x p K|_=>dig y p K)
 | .loop c,_::p,K=>dig c p (.lp::K)
 |c,_::_,K=>(c,K)
def a5j:Ob->Option D
 | .ew sz rows (some v)=>some (.agg [.fr 0 sz rows,.val v])
 |_=>none
def OR:Nat->bU->Option aR
 |0,_=>some []
 |n+1,o::H=>(match a5j o,OR n H with|some d,some ds=>some (d::ds)|_,_=>none)
 |_+1,[]=>none
def a2P(P:Program)(rs:List ResultVar)(n:Nat)(st:St):Option D:=match Ex P st rs with
 |some ds=>(if ds.all D.flat=true then match OR n st.H with|some es=>some (.gb (C1 ds::es))|none=>none else none)
 |none=>none
def X4:List Rw->br->aR
 |x::xs,v::vs=>.agg [.fr 0 x.1 x.2,.val v]::X4 xs vs
 |_,_=>[]
theorem Wo:∀ {n:Nat} {H:bU} {outs:List Rw} {vs:br},OR n H=some (X4 outs vs)->∀(i:Nat) x v,outs[i]?=some x->vs[i]?=some v->H[i]?=some (x.ob (some v)):=by
 intro n
 induction n with
 |zero=>
  intro H outs vs h i x v hx hv;cases outs with
  |nil=>simp at hx
  |cons y ys=>
   cases vs with
   |nil=>simp at hv
   |cons u us=>simp[OR,X4]at h
 |succ n ih=>
  intro H outs vs h i x v hx hv;cases outs with
  |nil=>simp at hx
  |cons y ys=>
   cases vs with
   |nil=>simp at hv
   |cons u us=>
    cases H with
    |nil=>simp[OR]at h
    |cons o H=>
     simp only[OR,X4]at h;split at h
     ·rename_i d ds h1 h2;simp only[av,AI]at h;obtain⟨rfl,rfl⟩:=h;cases i with
      |zero=>
       simp at hx hv;subst hx;subst hv;unfold a5j at h1;split at h1
       ·simp only[av,D.agg.injEq,AI,D.fr.injEq,D.val.injEq,vX,and_true]at h1;obtain⟨⟨h3,h4⟩,h5⟩:=h1;simp[Rw.ob,h3,h4,h5]
       ·cases h1
      |succ i=>simpa using ih h2 i x v (by simpa using hx) (by simpa using hv)
     ·cases h
theorem a4p{fn:Func}{st:St}{d:D}{outs:List Rw}{vs:br}{n:Nat}{e:Exit}(he:e=.ret\/e=.normal)(h:a2P P fn.results.toList n st=some (.gb (d::X4 outs vs))):uz P fn vs outs d e st:=by
 unfold a2P at h;split at h
 ·rename_i ds h1;split at h
  ·rename_i hf;split at h
   ·rename_i es h2;simp only[av,D.gb.injEq,AI]at h;obtain⟨rfl,rfl⟩:=h;exact⟨he,ds,h1,hf,rfl,Wo h2⟩
   ·cases h
  ·cases h
 ·cases h
theorem fM{fn:Func}{d:D}{outs:List Rw}{vs:br}{nt n:Nat}(m:Nat){c:Code}{K:List Fr}{st:St}(A:eY)(s:Stop){p:E3}(hnt:Γ.nt=nt)(hm:P.follows .mixedOrders=true)(h:go P (a2P P fn.results.toList m) nt n (.run c) K st A=some (s,p))(hp:zE p)
 (hs:Vt P Γ N (uz P fn vs outs d) (.gb (d::X4 outs vs)) s):AW P Γ c (KQ P Γ N (uz P fn vs outs d) K) st:=go_sound (Q:=uz P fn vs outs d) (N:=N) (K:=K) (st:=st) (d0:=.gb (d::X4 outs vs)) (cfg:=.run c) (fun _ _ he h=>a4p he h) hnt hm h hp hs
def a67(P:Program)(rs:List ResultVar×List (List (Option (Nat×Nat))))(st:St):Option D:=match Ex P st rs.1,(st.H[0]?:Option Ob)with
 |some ds,some (Ob.PS cells v)=>(match Dq st.H rs.2 (.agg cells::ds)with
  |some (.agg cells'::es,ms,qs)=>(if ms.Nodup/\qs.Nodup then some (.gb [C1 es,.agg cells',.val v])else none)
  |_=>none)
 |_,_=>none
def a66(P:Program)(rs:List ResultVar)(st:St):Option D:=match Ex P st rs with
 |some [.ptr j 0]=>(match st.H[j]? with|some (.box cells)=>(if cells.all D.U5=true then some (.agg cells)else none)|_=>none)
 |_=>none
inductive Kd where
 |q (nz:List (List (Option (Nat×Nat)))) (d:D)
 |p (nz:List (List (Option (Nat×Nat)))) (v:Value) (cells:aR) (d:D)
 |n (cells:aR)
def Kd.rf(P:Program)(fn:Func)(k:Kd)(st:St):Option D:=match k with
 | .q nz _=>a7s P (fn.results.toList,nz) st
 | .p nz _ _ _=>a67 P (fn.results.toList,nz) st
 | .n _=>a66 P fn.results.toList st
def Kd.d0:Kd->D
 | .q _ d=>d
 | .p _ v cells d=>.gb [d,.agg cells,.val v]
 | .n cells=>.agg cells
def Kd.qq(P:Program)(fn:Func):Kd->Exit->St->Prop
 | .q _ d=>Vs P fn d
 | .p _ v cells d=>a0j P fn v cells d
 | .n cells=>aBS P fn cells
theorem Kd.ok{fn:Func}(k:Kd){st:St}{e:Exit}(he:e=.ret\/e=.normal)(h:k.rf P fn st=some k.d0):k.qq P fn e st:=by
 cases k with
 |q nz d=>exact a7t he h
 |p nz v cells d=>
  simp only[Kd.rf,a67,Kd.d0]at h;split at h
  ·rename_i ds Sq v' h1 h2;split at h
   ·rename_i cells' es ms qs h3;split at h
    ·rename_i hc;simp only[av,D.gb.injEq,AI,D.agg.injEq,D.val.injEq,and_true]at h;obtain⟨rfl,rfl,rfl⟩:=h;exact⟨he,_,_,_,_,_,_,h1,h2,h3,hc.1,hc.2,rfl⟩
    ·cases h
   ·cases h
  ·cases h
 |n cells=>
  simp only[Kd.rf,a66,Kd.d0]at h;split at h
  ·rename_i j h1;split at h
   ·rename_i cells' h2;split at h
    ·rename_i hc;simp only[av,D.agg.injEq]at h;subst h;exact⟨he,j,h1,h2,hc⟩
    ·cases h
   ·cases h
  ·cases h
theorem Ps{fn:Func}{k:Kd}{nt n:Nat}{c:Code}{K:List Fr}{st:St}(A:eY)(s:Stop){p:E3}(hnt:Γ.nt=nt)(hm:P.follows .mixedOrders=true)(h:go P (k.rf P fn) nt n (.run c) K st A=some (s,p))(hp:zE p)
 (hs:Vt P Γ N (k.qq P fn) k.d0 s):AW P Γ c (KQ P Γ N (k.qq P fn) K) st:=go_sound (Q:=k.qq P fn) (N:=N) (K:=K) (st:=st) (d0:=k.d0) (cfg:=.run c) (fun _ _ he h=>k.ok he h) hnt hm h hp hs
def PZ(P:Program)(Γ:vP)(c:Code)(Q:Exit->St->Prop)(n:Nat)(st:St):Prop:=
 ∀κ Θ a w,eE Γ st κ Θ a w->Code.rounds P c (fun e a' w'=>∃xQ κ' Θ',eE Γ xQ κ' Θ' a' w'/\Q e xQ) n a w
theorem yO{c:Code}{n:Nat}{st:St}(h:PZ P Γ c Q n st):AW P Γ (.loop c) Q st:=fun κ Θ a w hs=>wp_loop_rounds n (h κ Θ a w hs)
theorem aM{c:Code}{K:List Fr}{n:Nat}{st:St}
 (h:∀N',(∀d,d<depth K->N' d=N d)->N' (depth K)=PZ P Γ c (KQ P Γ N Q K) n->AW P Γ c (KQ P Γ N' Q (.lp::K)) st):PZ P Γ c (KQ P Γ N Q K) (n+1) st:=by
 intro κ Θ a w hs;have:=h (fun d=>if d<depth K then N d else PZ P Γ c (KQ P Γ N Q K) n) (fun d hd=>bP hd) (bH (by omega));simp only[KQ]at this;rw[bH (by omega)]at this;rw[<-UA (N:=N) (N':=fun d=>if d<depth K then N d else PZ P Γ c (KQ P Γ N Q K) n) K (fun d hd=>(bP hd).symm)]at this;rw[rounds_succ];refine wp_mono (this κ Θ a w hs) ?_;rintro e a' w' ⟨xQ,κ',Θ',hs',hq⟩;cases e with
 |normal=>
  obtain⟨k,o,hnd,hR'⟩:=hq;obtain⟨κ2,Θ2,hs2⟩:=hs'.Eu k o hnd;exact hR' κ2 Θ2 a' w' hs2
 |exit id=>exact⟨_,_,_,hs',hq⟩
 |goto l=>exact⟨_,_,_,hs',hq⟩
 |ret=>exact⟨_,_,_,hs',hq⟩
 |panic c=>exact⟨_,_,_,hs',hq⟩
 |outgrown=>exact⟨_,_,_,hs',hq⟩
end
theorem aL{α:Type}{c:Bool}{x y:Option α}{r:α}(h:(bif c then x else y)=some r):(c=true/\x=some r)\/(c=false/\y=some r):=by
 cases c
 ·exact .inr ⟨rfl,h⟩
 ·exact .inl ⟨rfl,h⟩
theorem bX{α:Type}{c:Bool}{x:Option α}{r:α}(h:(bif c then x else none)=some r):c=true/\x=some r:=by
 cases c
 ·cases h
 ·exact⟨rfl,h⟩
theorem aD{α β:Type}{x:Option α}{f:α->Option β}{r:β}(h:x.bind f=some r):∃y,x=some y/\f y=some r:=by
 cases x with
 |none=>cases h
 |some y=>exact⟨y,rfl,h⟩
theorem aG{α:Type}{x y:α}(h:some x=some y):x=y:=by cases h;rfl
theorem D5:zE []:=trivial
theorem ow{p:Prop}{ps:E3}(h:p)(t:zE ps):zE (p::ps):=⟨h,t⟩
def mC{α:Type}(l:List α)(i:Int):Option α:=bif decide (0<=i)then l[i.toNat]? else none
theorem Xp{α β:Type}{l:List α}{i:Int}{x:α}(f:α->β)(h:mC l i=some x):0<=i/\(l.map f)[i.toNat]?=some (f x):=by
 unfold mC at h;cases hd:decide (0<=i)with
 |false=>rw[hd]at h;cases h
 |true=>rw[hd]at h;simp only[aW]at h;exact⟨by simpa using hd,by rw[bz,h];rfl⟩
theorem a6d{l:Bytes}{i:Int}{x:UInt8}(h:mC l i=some x):0<=i/\l[i.toNat]?=some x:=by
 unfold mC at h;cases hd:decide (0<=i)with
 |false=>rw[hd]at h;cases h
 |true=>rw[hd]at h;exact⟨by simpa using hd,h⟩
def fuel:Nat:=4194304
theorem dV{α:Type}{l:List α}{i:Int}{x:α}(f:α->aR)(n:Nat)(h:mC l i=some x)(hn:(f x).length=n):0<=i/\(l.map f)[i.toNat]?=some (f x)/\(f x).length=n:=⟨(Xp f h).1,(Xp f h).2,hn⟩
theorem zJ{i n:Nat}(sz:Nat)(h:decide (i<n)=true):sz=sz/\(i:Int)=((i:Nat):Int)/\i<n:=⟨rfl,rfl,bt h⟩
theorem p9{α:Type}{l:List α}{i:Nat}{x:α}(f:α->aR)(sz:Nat)(h:l[i]?=some x):sz=sz/\(i:Int)=((i:Nat):Int)/\i<(l.map f).length:=⟨rfl,rfl,by rw[aZ];exact(aH.1 h).1⟩
theorem xj{α:Type}{l:List α}{i:Int}{x:α}(f:α->aR)(sz:Nat)(h:mC l i=some x):sz=sz/\i=((i.toNat:Nat):Int)/\i.toNat<(l.map f).length:=by
 obtain⟨h0,h1⟩:=Xp f h;exact⟨rfl,by omega,(aH.1 h1).1⟩
theorem tR{α:Type}{l:List α}{i:Int}{x:α}(h:mC l i=some x):l[i.toNat]?=some x:=by
 have:=(Xp (fun y=>y) h).2;simpa using this
theorem TZ{x y:Int}(k:IntKind)(h:(decide (0<=x)&&decide (0<y))=true):k=k/\0<=x/\0<y:=by simpa using h
def room(n b:Nat):Bool:=decide (n<=maxLen)&&decide (n*b<=140737488355328)
theorem cG{n b:Nat}(h:room n b=true):n<=maxLen/\n*b<=140737488355328:=by
 simp only[room,aY,bI]at h;exact h
def CZ(n:Int)(b:Nat):Bool:=decide (0<=n)&&decide (b*n.toNat<=281474976710656)&&decide (n.toNat<=4611686018427387904)
theorem xO{n:Int}{b:Nat}(h:CZ n b=true):n=n/\0<=n/\b*n.toNat<=281474976710656/\n.toNat<=4611686018427387904:=by
 simp only[CZ,aY,bI]at h;exact⟨rfl,h.1.1,h.1.2,h.2⟩
theorem a1Y{k n:Nat}(h:k<n)(hn:n<=maxLen):IntKind.i64.wrap ((k:Int)+1)=((k+1:Nat):Int):=by
 unfold maxLen at hn;rw[gU (tM.i64.2 (by omega))];omega
theorem a4d{k n:Nat}(h:k<n):decide ((k:Int)<(n:Int))=true:=by simp[h]
theorem a1y{k n:Nat}(h:n<=k):decide ((k:Int)<(n:Int))=false:=by simp;omega
theorem drop_cons{α:Type}{l:List α}{k:Nat}{x:α}{xs:List α}(h:l.drop k=x::xs):l[k]?=some x/\k<l.length/\l.drop (k+1)=xs:=by
 have h1:l[k]?=some x:=by
  have:=congrArg (fun m:List α=>m[0]?) h;simpa[dl]using this
 refine⟨h1,(aH.1 h1).1,?_⟩;rw[<-gX,h];rfl
theorem drop_nil{α:Type}{l:List α}{k:Nat}(h:l.drop k=[]):l.length<=k:=by simpa using h
theorem a22{α β:Type}{l:List α}{k:Nat}{x:α}(f:α->β)(h:l[k]?=some x):0<=(k:Int)/\(l.map f)[(k:Int).toNat]?=some (f x):=⟨by omega,by simp[h]⟩
theorem ax{α:Type}{l:List α}{k:Nat}{x:α}(f:α->aR)(n:Nat)(h:l[k]?=some x)(hn:(f x).length=n):0<=(k:Int)/\(l.map f)[(k:Int).toNat]?=some (f x)/\(f x).length=n:=⟨(a22 f h).1,(a22 f h).2,hn⟩
theorem a1z{α β:Type}{l:List α}{k:Nat}(f:α->β)(h:k<l.length):decide ((k:Int)<((l.map f).length:Int))=true:=by rw[aZ];exact a4d h
theorem ZS{α β:Type}{l:List α}{k:Nat}(f:α->β)(h:l.length<=k):decide ((k:Int)<((l.map f).length:Int))=false:=by rw[aZ];exact a1y h
theorem dB{α β:Type}{l:List α}{k:Nat}{x:α}(f:α->β)(h:l[k]?=some x):(l.map f)[k]?=some (f x):=by rw[bz,h];rfl
theorem cw{α β:Type}{f:α->β}(dn:List α)(y z:β)(r:List β):(dn.map f++y::r).set dn.length z=dn.map f++z::r:=by
 rw[mc _ _ (by simp)];simp
theorem dU{α β:Type}{f:α->β}(dn:List α)(y:β)(r:List β):(dn.map f++y::r)[dn.length]?=some y:=by
 rw[bE (by simp)];simp
theorem Ct{α β:Type}{f:α->β}(dn:List α)(y:β)(r:List β):decide ((dn.length:Int)<((dn.map f++y::r).length:Int))=true:=by
 rw[bI,aX,aZ,aK];omega
theorem Cq{α β:Type}{f:α->β}(dn:List α):decide ((dn.length:Int)<((dn.map f++([]:List α).map f).length:Int))=false:=by
 rw[kX];simp
theorem zS{n:Nat}(h:n+1<=maxLen):IntKind.i64.wrap ((n:Int)+1)=((n+1:Nat):Int):=by
 unfold maxLen at h;rw[gU (tM.i64.2 (by omega))];omega
def NP{α β:Type}[BEq α](z:β)(k:α):List (α×β)->β
 | []=>z
 |p::r=>bif k==p.1 then p.2 else NP z k r
def a4e{α β:Type}[BEq α](k:α):List (α×β)->Bool
 | []=>false
 |p::r=>bif k==p.1 then true else a4e k r
def Qh{α β:Type}[BEq α](k:α)(v:β):List (α×β)->List (α×β)
 | []=>[(k,v)]
 |p::r=>bif k==p.1 then(k,v)::r else p::Qh k v r
def eB(b:Bool):D:=.bool b
def kS{β:Type}(e:β->D)(p:Bytes×β):D×D:=(.str p.1,e p.2)
theorem Y2{β:Type}{e:β->D}(z:β)(k:Bytes):∀(m:List (Bytes×β)),(Hp (.str k) (m.map (kS e))=some none/\a4e k m=false/\NP z k m=z)\/(Hp (.str k) (m.map (kS e))=some (some (e (NP z k m)))/\a4e k m=true)
 | []=>.inl ⟨rfl,rfl,rfl⟩
 |p::r=>by
  simp only[bG,Hp,kS,keq,a4e,NP];cases hb:k==p.1 with
  |true=>exact .inr ⟨rfl,rfl⟩
  |false=>exact Y2 z k r
theorem aA0{P:Program}{T:TypeId}{β:Type}{e:β->D}{z:β}{k:Bytes}{m:List (Bytes×β)}(hT:a01 P T=some (.string,e z)):plk P T (m.map (kS e)) (.str k) false=some (e (NP z k m)):=by
 unfold plk;rw[hT];rcases Y2 (e:=e) z k m with⟨h1,_,h3⟩|⟨h1,_⟩
 ·simp only[Li,h1,h3,ah]
 ·simp only[Li,h1,ah]
theorem a2J{β:Type}{e:β->D}{k:Bytes}{v:β}:∀ {m:List (Bytes×β)},NM (.str k) (e v) (m.map (kS e))=some ((Qh k v m).map (kS e))
 | []=>rfl
 |p::r=>by
  simp only[bG,NM,Qh];have hq:keq (.str k) (kS e p).1=some (k==p.1):=rfl;rw[hq];cases hb:k==p.1 with
  |true=>rfl
  |false=>simp only[a2J (m:=r),cY,ah,bG]
end Go.Cx
namespace Go.Cx
open Go.RowKit Go.Proofs Tryz
abbrev wv:=List Fr
structure aE where
 rel:Bytes
 args:aI
 deriving DecidableEq
structure aS where
 var:Bytes
 value:Bytes
 deriving DecidableEq
structure aN where
 kind:Int
 pat:aE
 left:Bytes
 right:Bytes
 deriving DecidableEq
structure Action where
 kind:Int
 pat:aE
 deriving DecidableEq
structure aO where
 name:Bytes
 prio:Int
 conds:List aN
 cr:List Action
 deriving DecidableEq
structure aJ where
 facts:List aE
 bind:List aS
 deriving DecidableEq
structure cx where
 rule:Bytes
 facts:List aE
 bind:List aS
 deriving DecidableEq
structure aP where
 shape:aE
 facts:List aE
 deriving DecidableEq
structure Node where
 parent:Int
 cond:aN
 cP:Int
 tokens:List aJ
 deriving DecidableEq
structure aF where
 rules:List aO
 ends:bJ
 ay:List aP
 nodes:List Node
 facts:List aE
 cK:Int
 deriving DecidableEq
structure cy where
 fact:aE
 time:Int
 deriving DecidableEq
structure aBR where
 rule:Bytes
 times:bJ
 deriving DecidableEq
structure aBQ where
 aF6:cx
 prio:Int
 times:bJ
 spec:Int
 order:Int
 deriving DecidableEq
structure Cur where
 b:bJ
 i:Int
 h:Int
 deriving DecidableEq
abbrev tx(s:Bytes):List D:=[.str s]
abbrev dZ(n:Int):List D:=[.int .i64 n]
abbrev bx(b:Bool):List D:=[.bool b]
abbrev dT(l:List Bytes):D:=.sl (l.map tx)
abbrev dI(l:List Int):D:=.sl (l.map dZ)
abbrev aE.c(x:aE):List D:=[.str x.rel,dT x.args]
abbrev aS.c(x:aS):List D:=[.str x.var,.str x.value]
abbrev aN.c(x:aN):List D:=[.int .i64 x.kind,.str x.pat.rel,dT x.pat.args,.str x.left,.str x.right]
abbrev Action.c(x:Action):List D:=[.int .i64 x.kind,.str x.pat.rel,dT x.pat.args]
abbrev aO.c(x:aO):List D:=[.str x.name,.int .i64 x.prio,.sl (x.conds.map aN.c),.sl (x.cr.map Action.c)]
abbrev aJ.c(x:aJ):List D:=[.sl (x.facts.map aE.c),.sl (x.bind.map aS.c)]
abbrev cx.c(x:cx):List D:=[.str x.rule,.sl (x.facts.map aE.c),.sl (x.bind.map aS.c)]
abbrev aP.c(x:aP):List D:=[.str x.shape.rel,dT x.shape.args,.sl (x.facts.map aE.c)]
abbrev Node.c(x:Node):List D:=[.int .i64 x.parent,.int .i64 x.cond.kind,.str x.cond.pat.rel,dT x.cond.pat.args,.str x.cond.left,.str x.cond.right,.int .i64 x.cP,.sl (x.tokens.map aJ.c)]
abbrev aF.c(x:aF):List D:=[.sl (x.rules.map aO.c),dI x.ends,.sl (x.ay.map aP.c),.sl (x.nodes.map Node.c),.sl (x.facts.map aE.c),.int .i64 x.cK]
abbrev cy.c(x:cy):List D:=[.str x.fact.rel,dT x.fact.args,.int .i64 x.time]
def jt(fn:Func):Code:=match fn.body with
 |some c=>c
 |none=>.skip
theorem C0:prog.follows .mixedOrders=true:=by kernel_rfl
theorem Pr{P:Program}{Γ:vP}{Q:Exit->St->Prop}{N N':Nat->St->Prop}{c:Code}{K K0:wv}{st:St}(hd:depth K=depth K0)(hN:∀d,d<depth K0->N' d=N d)(t:AW P Γ c (KQ P Γ N Q K) st):AW P Γ c (KQ P Γ N' Q K) st:=by
 rw[UA (N:=N') (N':=N) K (fun d h=>hN d (by omega))];exact t
theorem wz{P:Program}{Γ:vP}{Q:Exit->St->Prop}{c:Code}{s s':St}(h:s=s')(t:AW P Γ c Q s'):AW P Γ c Q s:=by rw[h];exact t
theorem Dh{α:Type}{c:α->aR}(hc:∀x,(c x).all D.flat=true)(l:List α):(l.map c).flatten.all D.flat=true:=by
 induction l with
 |nil=>rfl
 |cons x l ih=>rw[bG,eO,List.all_append,hc,ih];rfl
abbrev bT:An:=.b true
abbrev bF:An:=.b false
structure Pre(A:List An)(p:E3):Prop where
 h:zE p
theorem aU:Pre [] []:=⟨trivial⟩
theorem zE.join{p q:E3}(h:zE p)(k:zE q):zE (p++q):=by
 induction p with
 |nil=>exact k
 |cons x p ih=>exact⟨h.1,ih h.2⟩
theorem Pre.ext{A:eY}{p:E3}(o:Pre A p)(B:eY){q:E3}(hq:zE q):Pre (A++B) (p++q):=⟨o.h.join hq⟩
section
variable{A:eY}{p:E3}
theorem Pre.b(o:Pre A p){c v:Bool}(h:c=v):Pre (A++[.b v]) (p++[c=v]):=o.ext _ ⟨h,trivial⟩
theorem Pre.r(o:Pre A p)(n:Nat){c v:Bool}(h:c=v):Pre (A++List.replicate n (.b v)) (p++List.replicate n (c=v)):=o.ext _ (by
 induction n with
 |zero=>trivial
 |succ n ih=>exact⟨h,ih⟩)
theorem Pre.T(o:Pre A p)(n:Nat):Pre (A++List.replicate n bT) (p++List.replicate n (true=true)):=o.r n rfl
theorem Pre.F(o:Pre A p)(n:Nat):Pre (A++List.replicate n bF) (p++List.replicate n (false=false)):=o.r n rfl
theorem Pre.g(o:Pre A p){f:FuncId}{ds:aR}{d:D}(h:Good prog f ds d):Pre (A++[.d d]) (p++[Good prog f ds d]):=o.ext _ ⟨h,trivial⟩
theorem Pre.gs(o:Pre A p){f:FuncId}{ds:aR}{d:D}(h:Good prog f ds d):Pre (A++[.ds d]) (p++[Good prog f ds d]):=o.ext _ ⟨h,trivial⟩
theorem Pre.hp(o:Pre A p)(nz:List (List (Option (Nat×Nat)))){f:FuncId}{cells cells' ds:aR}{d:D}(h:BR prog f cells cells' ds d):Pre (A++[.gp nz cells' d]) (p++[BR prog f cells cells' ds d]):=o.ext _ ⟨h,trivial⟩
theorem Pre.w(o:Pre A p){q:Prop}(h:q):Pre (A++[]) (p++[q]):=o.ext _ ⟨h,trivial⟩
theorem Pre.a(o:Pre A p)(B:eY):Pre (A++B) (p++[]):=o.ext _ (q:=[]) trivial
theorem Pre.l(o:Pre A p){n:Int}{rows:List aR}{r:aR}{sz:Nat}(h:0<=n/\rows[n.toNat]?=some r/\r.length=sz):Pre (A++[.row r]) (p++[0<=n/\rows[n.toNat]?=some r/\r.length=sz]):=o.ext _ ⟨h,trivial⟩
theorem Pre.i(o:Pre A p){sz sz' m k:Nat}{n:Int}(h:sz=sz'/\n=((k:Nat):Int)/\k<m):Pre (A++[.ix k]) (p++[sz=sz'/\n=((k:Nat):Int)/\k<m]):=o.ext _ ⟨h,trivial⟩
theorem Pre.o(o:Pre A p)(sz n:Nat)(k:RK){rows:List aR}{i:Nat}{r:aR}(h:rows[i]?=some r)(hk:k.TU=true:=by kernel_rfl)(hn:Nat.ble n sz=true:=by kernel_rfl):Pre (A++[.row r]) (p++[sz=sz/\k.TU=true/\rows[i]?=some r/\n<=sz]):=o.ext _ ⟨⟨rfl,hk,h,yj hn⟩,trivial⟩
theorem Pre.c(o:Pre A p){s:Bytes}{i:Int}{b:UInt8}(h:mC s i=some b):Pre (A++[.ch b]) (p++[0<=i/\s[i.toNat]?=some b]):=o.ext _ ⟨a6d h,trivial⟩
theorem Pre.lt{α:Type}{l xs:List α}{i:Nat}{x:α}(o:Pre A p)(f:α->aR)(h:l.drop i=x::xs):Pre (A++[bT]) (p++[decide ((i:Int)<((l.map f).length:Int))=true]):=o.b (a1z f (drop_cons h).2.1)
theorem Pre.ge{α:Type}{l:List α}{i:Nat}(o:Pre A p)(f:α->aR)(h:l.drop i=[]):Pre (A++[bF]) (p++[decide ((i:Int)<((l.map f).length:Int))=false]):=o.b (ZS f (drop_nil h))
end
theorem dc{α:Type}{l:List α}{k:Nat}{x:α}{xs:List α}(h:l.drop k=x::xs):l[k]?=some x:=(drop_cons h).1
theorem dn{α:Type}{l:List α}{k:Nat}{x:α}{xs:List α}(h:l.drop k=x::xs):l.drop (k+1)=xs:=(drop_cons h).2.2
theorem iS{α:Type}{l:List α}{k:Nat}{x:α}{xs:List α}(h:l.drop k=x::xs)(hn:l.length<=maxLen):IntKind.i64.wrap ((k:Int)+1)=((k+1:Nat):Int):=a1Y (drop_cons h).2.1 hn
theorem mA{α β:Type}(f:α->β):(∀a b:List α,(a++b).map f=a.map f++b.map f)/\(∀(x:α) (a:List α),(x::a).map f=f x::a.map f)/\([]:List α).map f=[]/\(∀(l:List α) (i:Nat) (x:α),(l.set i x).map f=(l.map f).set i (f x))/\(∀(n:Nat) (x:α),(List.replicate n x).map f=List.replicate n (f x))/\(∀(l:List α) (n:Nat),(l.take n).map f=(l.map f).take n):=
 ⟨fun _ _=>bS,fun _ _=>rfl,rfl,fun _ _ _=>List.map_set,fun _ _=>List.map_replicate,fun _ _=>cz⟩
section
variable{Γ:vP}{N N1:Nat->St->Prop}{fn:Func}{k:Kd}{nt:Nat}{A:eY}{p:E3}{c c':Code}{K K' K0:wv}{st xQ:St}
theorem Pre.ret(o:Pre A p)(hnt:Γ.nt=nt)(h:go prog (k.rf prog fn) nt 2000 (.run c) K st A=some (.ret k.d0,p):=by kernel_rfl):AW prog Γ c (KQ prog Γ N (k.qq prog fn) K) st:=Ps (n:=2000) A _ hnt C0 h o.h rfl
theorem Pre.rts(o:Pre A p)(hnt:Γ.nt=nt)(d:D)(hd:d=k.d0)(h:go prog (k.rf prog fn) nt 2000 (.run c) K st A=some (.ret d,p):=by kernel_rfl):AW prog Γ c (KQ prog Γ N (k.qq prog fn) K) st:=Ps (n:=2000) A _ hnt C0 h o.h hd
theorem Pre.cs(o:Pre A p)(hnt:Γ.nt=nt){n:Nat}(hS:N1 (depth K')=PZ prog Γ c' (KQ prog Γ N (k.qq prog fn) K') n)(S:St)(e:S=xQ)(t:PZ prog Γ c' (KQ prog Γ N (k.qq prog fn) K') n xQ)
 (h:go prog (k.rf prog fn) nt 2000 (.run c) K st A=some (.cont (depth K') S,p):=by kernel_rfl):AW prog Γ c (KQ prog Γ N1 (k.qq prog fn) K) st:=Ps (n:=2000) A _ hnt C0 h o.h ((congrFun hS _).mpr (by rw[e];exact t))
theorem Pre.cf(o:Pre A p)(hnt:Γ.nt=nt){n:Nat}(hS:N1 (depth K')=PZ prog Γ c' (KQ prog Γ N (k.qq prog fn) K') n)(t:PZ prog Γ c' (KQ prog Γ N (k.qq prog fn) K') n xQ)
 (h:go prog (k.rf prog fn) nt 2000 (.run c) K st A=some (.cont (depth K') xQ,p):=by kernel_rfl):AW prog Γ c (KQ prog Γ N1 (k.qq prog fn) K) st:=o.cs hnt hS _ rfl t h
theorem Pre.ct(o:Pre A p)(hnt:Γ.nt=nt){n i:Nat}{S:Int->St}(hS:N1 (depth K')=PZ prog Γ c' (KQ prog Γ N (k.qq prog fn) K') n)(hi:IntKind.i64.wrap ((i:Int)+1)=((i+1:Nat):Int))(t:PZ prog Γ c' (KQ prog Γ N (k.qq prog fn) K') n (S ((i+1:Nat):Int)))
 (h:go prog (k.rf prog fn) nt 2000 (.run c) K st A=some (.cont (depth K') (S (IntKind.i64.wrap ((i:Int)+1))),p):=by kernel_rfl):AW prog Γ c (KQ prog Γ N1 (k.qq prog fn) K) st:=o.cs hnt hS _ (congrArg S hi) t h
theorem Pre.exs(o:Pre A p)(hnt:Γ.nt=nt)(hN:∀d,d<depth K0->N1 d=N d)(S:St)(e:S=xQ)(t:AW prog Γ c' (KQ prog Γ N (k.qq prog fn) K') xQ)(hd:depth K'=depth K0:=by kernel_rfl)(h:go prog (k.rf prog fn) nt 2000 (.run c) K st A=some (.at_ c' K' S,p):=by kernel_rfl):
 AW prog Γ c (KQ prog Γ N1 (k.qq prog fn) K) st:=Ps (n:=2000) A _ hnt C0 h o.h (Pr (K0:=K0) hd hN (by rw[e];exact t))
theorem Pre.ex(o:Pre A p)(hnt:Γ.nt=nt)(hN:∀d,d<depth K0->N1 d=N d)(t:AW prog Γ c' (KQ prog Γ N (k.qq prog fn) K') xQ)(hd:depth K'=depth K0:=by kernel_rfl)(h:go prog (k.rf prog fn) nt 2000 (.run c) K st A=some (.at_ c' K' xQ,p):=by kernel_rfl):
 AW prog Γ c (KQ prog Γ N1 (k.qq prog fn) K) st:=o.exs hnt hN _ rfl t hd h
theorem Pre.Wq(o:Pre A p)(hnt:Γ.nt=nt){n:Nat}(S:St)(e:S=xQ)(t:PZ prog Γ c' (KQ prog Γ N (k.qq prog fn) K') n xQ)(h:go prog (k.rf prog fn) nt 2000 (.run c) K st A=some (.lp c' K' S,p):=by kernel_rfl):
 AW prog Γ c (KQ prog Γ N (k.qq prog fn) K) st:=Ps (n:=2000) A _ hnt C0 h o.h (wz e (yO t))
theorem Pre.lp(o:Pre A p)(hnt:Γ.nt=nt){n:Nat}(t:PZ prog Γ c' (KQ prog Γ N (k.qq prog fn) K') n xQ)(h:go prog (k.rf prog fn) nt 2000 (.run c) K st A=some (.lp c' K' xQ,p):=by kernel_rfl):
 AW prog Γ c (KQ prog Γ N (k.qq prog fn) K) st:=o.Wq hnt _ rfl t h
end
abbrev lc(f:Func)(p:List Nat):Code:=(dig (jt f) p []).1
abbrev AF(f:Func)(p:List Nat):List Fr:=(dig (jt f) p []).2
abbrev Ax(Γ:vP)(N:Nat->St->Prop)(f:Func)(k:Kd)(p:List Nat)(s:St):Prop:=AW prog Γ (lc f p) (KQ prog Γ N (k.qq prog f) (AF f p)) s
abbrev Ar(Γ:vP)(N:Nat->St->Prop)(f:Func)(k:Kd)(p:List Nat)(n:Nat)(s:St):Prop:=PZ prog Γ (lc f (p++[0])) (KQ prog Γ N (k.qq prog f) (AF f p)) n s
theorem gd{f:FuncId}{fn:Func}{ds:aR}{d:D}(hf:prog.funcs[f]?=some fn)(nz:List (List (Option (Nat×Nat))))(nt:Nat)(h:(∀d∈ds,dS d)->∀Γ:vP,Γ.nt=nt->AW prog Γ (jt fn) (KQ prog Γ (fun _ _=>False) ((Kd.q nz d).qq prog fn) []) ⟨CQ 0 ds,[]⟩)
 (hb:fn.body=some (jt fn):=by kernel_rfl) (hn:(fn.name== "runtime.NumGoroutine")=false:=by kernel_rfl) (hl:Nat.ble ds.length fn.ntmps=true:=by kernel_rfl) (ht:fn.ntmps=nt:=by kernel_rfl):Good prog f ds d:=
 Good.of hf hb hn (yj hl) fun hr Γ hΓ=>h hr Γ (hΓ.trans ht)
theorem gdP{f:FuncId}{fn:Func}{cells cells' ds:aR}{d:D}(hf:prog.funcs[f]?=some fn)(nz:List (List (Option (Nat×Nat))))(nt:Nat)(G7 ds1:aR)(obs:bU)
 (h:(∀x∈(D.agg cells::ds).map D.shV,dS x)->∀(v0:Value) (Γ:vP),Γ.nt=nt->AW prog Γ (jt fn) (KQ prog Γ (fun _ _=>False) ((Kd.p nz v0 cells' d).qq prog fn) []) ⟨CQ 0 (.ptr 0 0::ds1),.PS G7 v0::obs⟩)
 (hI:Eg 1 (.agg cells::ds)=(.agg G7::ds1,obs):=by kernel_rfl) (hb:fn.body=some (jt fn):=by kernel_rfl) (hn:(fn.name== "runtime.NumGoroutine")=false:=by kernel_rfl) (hl:Nat.ble (ds1.length+1) fn.ntmps=true:=by kernel_rfl) (ht:fn.ntmps=nt:=by kernel_rfl):BR prog f cells cells' ds d:=
 BR.of hf hb hn hI (yj hl) fun hr v0 Γ hΓ=>h hr v0 Γ (hΓ.trans ht)
end Go.Cx
namespace Go.Cx
open Go.RowKit Go.Proofs Tryz
abbrev aQ:=List aE
abbrev aT:=List aS
abbrev af:=List aJ
abbrev aj:=List aN
abbrev au:=List aO
abbrev az:=List Node
abbrev b8:=List aP
abbrev bw:=List Action
theorem ez{α:Type}[DecidableEq α][BEq α][LawfulBEq α](a b:α):(a==b)=decide (a=b):=by rw[bh];simp
def x6(cs:aR):Prop:=∀d∈cs,dS d
theorem x6.row{α:Type}{c:α->aR}{l:List α}(h:dS (.sl (l.map c))):∀x∈l,x6 (c x):=fun x hx d hd=>(dS.sl h).2 (c x) (cH.2 ⟨x,hx,rfl⟩) d hd
theorem Good.a7m{P:Program}{f:FuncId}{ds:aR}{d:D}(hf:∃fn,P.funcs[f]?=some fn/\fn.body.isSome=true/\(fn.name== "runtime.NumGoroutine")=false)(h:x6 ds->Good P f ds d):Good P f ds d:=
 ⟨hf,fun w Θ args bs hv hargs h1 h2 h3=>(h hargs.rdb).2 w Θ args bs hv hargs h1 h2 h3⟩
def jw{α:Type}(w:α->Nat)(l:List α):Nat:=l.length+(l.map w).sum
def tw(s:Bytes):Nat:=s.length
theorem qL{α:Type}(w:α->Nat)(x:α)(l:List α):jw w (x::l)=1+w x+jw w l:=by simp[jw];omega
theorem Xd{α:Type}(w:α->Nat)(a b:List α):jw w (a++b)=jw w a+jw w b:=by
 induction a with
 |nil=>simp[jw]
 |cons x a ih=>rw[dP,qL,qL,ih];omega
theorem gV{α:Type}(w:α->Nat)(l:List α):l.length<=jw w l:=by unfold jw;omega
theorem iP{α:Type}{w:α->Nat}{l:List α}{x:α}(h:x∈l):w x+1<=jw w l:=by
 induction l with
 |nil=>cases h
 |cons y l ih=>
  rw[qL];rcases bM.1 h with rfl|h
  ·omega
  ·have:=ih h;omega
theorem a3H{n:Nat}{v:Int}(hn:n<=maxLen)(h0:0<=v)(h1:v<=1048576):IntKind.i64.wrap (v-(n:Int))=v-(n:Int):=by
 unfold maxLen at hn;exact gU (tM.i64.2 (by omega))
def x7(o:Option Int)(v:Int)(n:Nat):Prop:=∃r,o=some r/\r<=v/\(0<=r->(n:Int)<=v-r)
theorem x7.str{n m:Nat}{v:Int}{k:Option Int}(hn:n<=maxLen)(h0:0<=v)(h1:v<=1048576)(hk:0<=v-(n:Int)->IntKind.i64.wrap (v-(n:Int))=v-(n:Int)->x7 k (v-(n:Int)) m):
 x7 (bif decide (IntKind.i64.wrap (v-(n:Int))<0)then some (-1)else k) v (n+m):=by
 have hw:=a3H hn h0 h1;rw[hw];by_cases c:v-(n:Int)<0
 ·exact⟨-1,by simp[c],by omega,by omega⟩
 ·obtain⟨r,e1,e2,e3⟩:=hk (by omega) hw;exact⟨r,by simp[c,e1],by omega,fun h=>by have:=e3 h;omega⟩
theorem x7.sub{o:Option Int}{v:Int}{k:Int->Option Int}{n m:Nat}(h:x7 o v n)(h1:v<=1048576)(h0:0<=v)(hk:∀r,0<=r->r<=1048576->x7 (k r) r m):
 x7 (o.bind fun y=>bif decide (y<0)then some (-1)else k y) v (n+m):=by
 obtain⟨r,e1,e2,e3⟩:=h;rw[e1];by_cases c:r<0
 ·exact⟨-1,by simp[c],by omega,by omega⟩
 ·obtain⟨r',q1,q2,q3⟩:=hk r (by omega) (by omega);exact⟨r',by simp[c,q1],by omega,fun h=>by have:=e3 (by omega);have:=q3 h;omega⟩
theorem x7.fin{v:Int}:x7 (some v) v 0:=⟨v,rfl,Int.le_refl _,fun _=>by omega⟩
theorem x7.eq{o:Option Int}{v:Int}{n m:Nat}(h:x7 o v n)(e:n=m):x7 o v m:=e▸h
theorem szL{α:Type}{w:α->Nat}{f:α->Int->Option Int}(L:List α->Nat->Int->Option Int)(uU:∀i v,L [] i v=some v)
 (tK:∀x xs i v,L (x::xs) i v=(f x v).bind fun y=>bif decide (y<0)then some (-1)else L xs (i+1) y):
 ∀(l:List α),(∀x∈l,∀v,0<=v->v<=1048576->x7 (f x v) v (w x))->∀i v,0<=v->v<=1048576->x7 (L l i v) v ((l.map w).sum):=by
 intro l
 induction l with
 |nil=>intro _ i v _ _;rw[uU];exact .fin
 |cons x xs ih=>
  intro hf i v h0 h1;rw[tK];refine((hf x (by simp) v h0 h1).sub h1 h0 (m:=(xs.map w).sum) fun r r0 r1=>?_).eq (by simp);exact ih (fun y hy=>hf y (by simp[hy])) (i+1) r r0 r1
theorem szS{α:Type}{c:α->aR}{w:α->Nat}{l:List α}{v:Int}{k:Int->Option Int}(hr:dS (.sl (l.map c)))(h0:0<=v)(h1:v<=1048576)
 (hk:∀v',0<=v'->v'<=1048576->x7 (k v') v' ((l.map w).sum)):x7 (bif decide (IntKind.i64.wrap (v-((l.map c).length:Int))<0)then some (-1)else k (IntKind.i64.wrap (v-((l.map c).length:Int)))) v (jw w l):=by
 have hn:(l.map c).length<=maxLen:=(dS.sl hr).1;refine(x7.str hn h0 h1 (m:=(l.map w).sum) fun g e=>?_).eq (by simp[jw]);rw[e];exact hk _ g (by omega)
theorem toL{α:Type}{z:α}{c:α->aR}{f:α->Option α}{l:List α}(L:List α->Nat->List α->Option (List α))(uU:∀i w,L [] i w=some w)
 (tK:∀x xs i w,L (x::xs) i w=(f x).bind fun y=>bif decide (i<(w.map c).length)then(w[i]?).bind (fun _=>L xs (i+1) (w.set i y))else none) (hf:∀x∈l,f x=some x):
 L l 0 (List.replicate ((l.map c).length:Int).toNat z)=some l:=by
 have key:∀(rest pre:List α),l=pre++rest->L rest pre.length (pre++List.replicate rest.length z)=some l:=by
  intro rest
  induction rest with
  |nil=>intro pre h;rw[uU,h];simp
  |cons x xs ih=>
   intro pre h;rw[tK,hf x (by rw[h];simp)];have e1:decide (pre.length<((pre++List.replicate (x::xs).length z).map c).length)=true:=by simp
   have e2:(pre++List.replicate (x::xs).length z)[pre.length]?=some z:=by simp[Ab]
   have e3:(pre++List.replicate (x::xs).length z).set pre.length x=(pre++[x])++List.replicate xs.length z:=by
    rw[aK,Ab,mc _ _ (bR _),oz,List.set_cons_zero];simp
   simp only[aA,e1,aW,e2,e3];have:=ih (pre++[x]) (by rw[h];simp);simpa using this
 have:=key l [] rfl;simpa using this
theorem K9{n b:Nat}(hn:n<=1048576)(hb:b<=1000):CZ (n:Int) b=true:=by
 unfold CZ;have h1:b*n<=1000*1048576:=G1 hb hn;simp;omega
theorem S2{α:Type}[DecidableEq α]{f:α->α->Option Bool}{a b:List α}{c:α->aR}(L:Option Bool->List α->Nat->Option Bool)(uU:∀k i,L k [] i=k)
 (tK:∀k x xs i,L k (x::xs) i=(mC b (i:Int)).bind fun y=>(f x y).bind fun r=>bif !r then some false else L k xs (i+1)) (hf:∀x y,f x y=some (decide (x=y))):
 (bif (((a.map c).length:Int) != ((b.map c).length:Int))then some false else L (some true) a 0)=some (decide (a=b)):=by
 by_cases hl:a.length=b.length
 ·have e:(((a.map c).length:Int) != ((b.map c).length:Int))=false:=by simp[hl]
  rw[e];have key:∀(ra rb pa pb:List α),a=pa++ra->b=pb++rb->pa.length=pb.length->L (some true) ra pa.length=some (decide (ra=rb)):=by
   intro ra
   induction ra with
   |nil=>
    intro rb pa pb h1 h2 h3;rw[uU];have:rb=[]:=by
     have:=congrArg List.length h1;have:=congrArg List.length h2;simp at*;apply cZ;omega
    subst this;simp
   |cons x xs ih=>
    intro rb pa pb h1 h2 h3;cases rb with
    |nil=>
     exfalso;have:=congrArg List.length h1;have:=congrArg List.length h2;simp at*;omega
    |cons y ys=>
     rw[tK];have e1:mC b (pa.length:Int)=some y:=by
      unfold mC;have:b[pa.length]?=some y:=by rw[h2,h3];simp
      simp[this]
     rw[e1,aA,hf,aA];have:=ih ys (pa++[x]) (pb++[y]) (by rw[h1];simp) (by rw[h2];simp) (by simp[h3]);by_cases hxy:x=y
     ·subst hxy;simp only[CO,bQ,ah];simp only[aX,aK,bK]at this;rw[this];simp
     ·simp[hxy]
  have:=key a b [] [] rfl rfl rfl;simpa using this
 ·have e:(((a.map c).length:Int) != ((b.map c).length:Int))=true:=by simp;omega
  rw[e];have:a≠b:=fun h=>hl (by rw[h])
  simp[this]
theorem yF{z:Int}(h0:0<=z)(h1:z<=4611686018427387904):IntKind.i64.wrap (z+1)=z+1:=gU (tM.i64.2 (by omega))
end Go.Cx
namespace Go.Cx
open Go.RowKit Go.Proofs Tryz
set_option maxRecDepth 100000
variable{Γ:vP}{N:Nat->St->Prop}
def jX(aB:aI)(k1:Int->Option Int):aI->Nat->Int->Option Int
 | [],i1,b7=>(k1 b7)
 |bD::bn,i1,b7=>(bif decide ((IntKind.i64.wrap (b7-(bD.length:Int)):Int)<0)then(some (-1))else(jX aB k1 bn (i1+1) (IntKind.i64.wrap (b7-(bD.length:Int)))))
def pV(aB:aI)(aV:Int):Option Int:=(bif decide ((IntKind.i64.wrap (aV-((aB.map tx).length:Int)):Int)<0)then(some (-1))else(jX aB (fun(cJ:Int)=>(some cJ)) aB 0 (IntKind.i64.wrap (aV-((aB.map tx).length:Int)))))
def JC(aB:aI)(b7:Int)(cS:Int):St:=⟨[(0,D.sl (aB.map tx)),(1,D.int .i64 b7),(5,D.int .i64 cS)],[]⟩
theorem Gy(hΓ:Γ.nt=28){aB:aI}{r:Int}{k1:Int->Option Int}(cX:∀(cJ:Int),k1 cJ=some r->Ax Γ N f68 (.q [[none]] (D.int .i64 r)) [1,1,1,1] ⟨[(1,D.int .i64 cJ)],[]⟩)(hm1:aB.length<=maxLen):∀(rest:aI) (i1:Nat) (b7:Int),aB.drop i1=rest->jX aB k1 rest i1 b7=some r->Ar Γ N f68 (.q [[none]] (D.int .i64 r)) [1,1,1,0,1,0] (rest.length+1) (JC aB b7 (i1:Int)):=by
 intro rest
 induction rest with
 |nil=>
  intro i1 b7 aq h;rw[jX]at h;refine aM fun N1 bu bq=>?_
  exact((aU.ge tx aq).a [.hl 0 [1] []]).ex hΓ bu (cX b7 h)
 |cons bD bn ih1=>
  intro i1 b7 aq h;rw[jX]at h;refine aM fun N1 bu bq=>?_
  have dJ:=((aU.lt tx aq).l (ax tx 1 (dc aq) rfl))
  obtain⟨h14,h⟩|⟨h14,h⟩:=aL h
  ·cases h;exact(dJ.b h14).ret hΓ
  ·exact((dJ.b h14).a [.cn [0,1,5] []]).ct hΓ bq (iS aq hm1) (ih1 (i1+1) (IntKind.i64.wrap (b7-(bD.length:Int))) (dn aq) h)
theorem z7{aB:aI}{aV:Int}{r:Int}(h:pV aB aV=some r):Good prog 68 [D.sl (aB.map tx),D.int .i64 aV] (D.int .i64 r):=by
 refine gd func68 [[none]] 28 fun hr Γ hΓ=>?_
 rw[pV]at h;obtain⟨h1,h⟩|⟨h1,h⟩:=aL h
 ·cases h;exact(aU.b h1).ret hΓ
 ·refine((aU.b h1).a [.cn [0,1,5] []]).lp hΓ (Gy hΓ (fun cJ h=>?_) (by have:=(dS.sl (hr _ (aC (i:=0) rfl))).1;simpa using this) aB 0 (IntKind.i64.wrap (aV-((aB.map tx).length:Int))) rfl h);have h:=aG h;subst h;exact aU.ret hΓ
def nE(aB:aE)(aV:Int):Option Int:=(bif decide ((IntKind.i64.wrap (aV-(aB.rel.length:Int)):Int)<0)then(some (-1))else((pV aB.args (IntKind.i64.wrap (aV-(aB.rel.length:Int)))).bind fun y2=>(bif decide ((y2:Int)<0)then(some (-1))else(some y2))))
theorem jq{aB:aE}{aV:Int}{r:Int}(h:nE aB aV=some r):Good prog 172 [D.agg (aE.c aB),D.int .i64 aV] (D.int .i64 r):=by
 refine gd func172 [[none]] 19 fun hr Γ hΓ=>?_
 rw[nE]at h;obtain⟨h1,h⟩|⟨h1,h⟩:=aL h
 ·cases h;exact(aU.b h1).ret hΓ
 ·obtain⟨y2,h3,h⟩:=aD h;have jz:=((aU.b h1).g (z7 h3))
  obtain⟨h4,h⟩|⟨h4,h⟩:=aL h
  ·cases h;exact(jz.b h4).ret hΓ
  ·have h:=aG h;subst h;exact(jz.b h4).ret hΓ
def rM(aB:aN)(aV:Int):Option Int:=((nE aB.pat aV).bind fun y1=>(bif decide ((y1:Int)<0)then(some (-1))else(bif decide ((IntKind.i64.wrap (y1-(aB.left.length:Int)):Int)<0)then(some (-1))else(bif decide ((IntKind.i64.wrap ((IntKind.i64.wrap (y1-(aB.left.length:Int)))-(aB.right.length:Int)):Int)<0)then(some (-1))else(some (IntKind.i64.wrap ((IntKind.i64.wrap (y1-(aB.left.length:Int)))-(aB.right.length:Int))))))))
theorem xa{aB:aN}{aV:Int}{r:Int}(h:rM aB aV=some r):Good prog 173 [D.agg (aN.c aB),D.int .i64 aV] (D.int .i64 r):=by
 refine gd func173 [[none]] 26 fun hr Γ hΓ=>?_
 rw[rM]at h;obtain⟨y1,h2,h⟩:=aD h;obtain⟨h3,h⟩|⟨h3,h⟩:=aL h
 ·cases h;exact((aU.g (jq h2)).b h3).ret hΓ
 ·have jz:=((aU.g (jq h2)).b h3)
  obtain⟨h4,h⟩|⟨h4,h⟩:=aL h
  ·cases h;exact(jz.b h4).ret hΓ
  ·obtain⟨h5,h⟩|⟨h5,h⟩:=aL h
   ·cases h;exact((jz.b h4).b h5).ret hΓ
   ·cases h;exact((jz.b h4).b h5).ret hΓ
def oJ(aB:aj)(k1:Int->Option Int):aj->Nat->Int->Option Int
 | [],i1,b7=>(k1 b7)
 |bD::bn,i1,b7=>((rM bD b7).bind fun lI=>(bif decide ((lI:Int)<0)then(some (-1))else(oJ aB k1 bn (i1+1) lI)))
def vm(aB:aj)(aV:Int):Option Int:=(bif decide ((IntKind.i64.wrap (aV-((aB.map aN.c).length:Int)):Int)<0)then(some (-1))else(oJ aB (fun(cJ:Int)=>(some cJ)) aB 0 (IntKind.i64.wrap (aV-((aB.map aN.c).length:Int)))))
def Ma(aB:aj)(b7:Int)(cS:Int):St:=⟨[(0,D.sl (aB.map aN.c)),(1,D.int .i64 b7),(5,D.int .i64 cS)],[]⟩
theorem Ku(hΓ:Γ.nt=27){aB:aj}{r:Int}{k1:Int->Option Int}(cX:∀(cJ:Int),k1 cJ=some r->Ax Γ N f136 (.q [[none]] (D.int .i64 r)) [1,1,1,1] ⟨[(1,D.int .i64 cJ)],[]⟩)(hm1:aB.length<=maxLen):∀(rest:aj) (i1:Nat) (b7:Int),aB.drop i1=rest->oJ aB k1 rest i1 b7=some r->Ar Γ N f136 (.q [[none]] (D.int .i64 r)) [1,1,1,0,1,0] (rest.length+1) (Ma aB b7 (i1:Int)):=by
 intro rest
 induction rest with
 |nil=>
  intro i1 b7 aq h;rw[oJ]at h;refine aM fun N1 bu bq=>?_
  exact((aU.ge aN.c aq).a [.hl 0 [1] []]).ex hΓ bu (cX b7 h)
 |cons bD bn ih1=>
  intro i1 b7 aq h;rw[oJ]at h;refine aM fun N1 bu bq=>?_
  obtain⟨lI,h23,h⟩:=aD h;have dJ:=(((aU.lt aN.c aq).l (ax aN.c 5 (dc aq) rfl)).g (xa h23))
  obtain⟨h24,h⟩|⟨h24,h⟩:=aL h
  ·cases h;exact(dJ.b h24).ret hΓ
  ·exact((dJ.b h24).a [.cn [0,1,5] []]).ct hΓ bq (iS aq hm1) (ih1 (i1+1) lI (dn aq) h)
theorem J9{aB:aj}{aV:Int}{r:Int}(h:vm aB aV=some r):Good prog 136 [D.sl (aB.map aN.c),D.int .i64 aV] (D.int .i64 r):=by
 refine gd func136 [[none]] 27 fun hr Γ hΓ=>?_
 rw[vm]at h;obtain⟨h1,h⟩|⟨h1,h⟩:=aL h
 ·cases h;exact(aU.b h1).ret hΓ
 ·refine((aU.b h1).a [.cn [0,1,5] []]).lp hΓ (Ku hΓ (fun cJ h=>?_) (by have:=(dS.sl (hr _ (aC (i:=0) rfl))).1;simpa using this) aB 0 (IntKind.i64.wrap (aV-((aB.map aN.c).length:Int))) rfl h);have h:=aG h;subst h;exact aU.ret hΓ
def qe(aB:Action)(aV:Int):Option Int:=((nE aB.pat aV).bind fun y1=>(bif decide ((y1:Int)<0)then(some (-1))else(some y1)))
theorem Gw{aB:Action}{aV:Int}{r:Int}(h:qe aB aV=some r):Good prog 205 [D.agg (Action.c aB),D.int .i64 aV] (D.int .i64 r):=by
 refine gd func205 [[none]] 12 fun hr Γ hΓ=>?_
 rw[qe]at h;obtain⟨y1,h2,h⟩:=aD h;obtain⟨h3,h⟩|⟨h3,h⟩:=aL h
 ·cases h;exact((aU.g (jq h2)).b h3).ret hΓ
 ·have h:=aG h;subst h;exact((aU.g (jq h2)).b h3).ret hΓ
def mN(aB:bw)(k1:Int->Option Int):bw->Nat->Int->Option Int
 | [],i1,b7=>(k1 b7)
 |bD::bn,i1,b7=>((qe bD b7).bind fun lI=>(bif decide ((lI:Int)<0)then(some (-1))else(mN aB k1 bn (i1+1) lI)))
def sv(aB:bw)(aV:Int):Option Int:=(bif decide ((IntKind.i64.wrap (aV-((aB.map Action.c).length:Int)):Int)<0)then(some (-1))else(mN aB (fun(cJ:Int)=>(some cJ)) aB 0 (IntKind.i64.wrap (aV-((aB.map Action.c).length:Int)))))
def J6(aB:bw)(b7:Int)(cS:Int):St:=⟨[(0,D.sl (aB.map Action.c)),(1,D.int .i64 b7),(5,D.int .i64 cS)],[]⟩
theorem Gv(hΓ:Γ.nt=27){aB:bw}{r:Int}{k1:Int->Option Int}(cX:∀(cJ:Int),k1 cJ=some r->Ax Γ N f137 (.q [[none]] (D.int .i64 r)) [1,1,1,1] ⟨[(1,D.int .i64 cJ)],[]⟩)(hm1:aB.length<=maxLen):∀(rest:bw) (i1:Nat) (b7:Int),aB.drop i1=rest->mN aB k1 rest i1 b7=some r->Ar Γ N f137 (.q [[none]] (D.int .i64 r)) [1,1,1,0,1,0] (rest.length+1) (J6 aB b7 (i1:Int)):=by
 intro rest
 induction rest with
 |nil=>
  intro i1 b7 aq h;rw[mN]at h;refine aM fun N1 bu bq=>?_
  exact((aU.ge Action.c aq).a [.hl 0 [1] []]).ex hΓ bu (cX b7 h)
 |cons bD bn ih1=>
  intro i1 b7 aq h;rw[mN]at h;refine aM fun N1 bu bq=>?_
  obtain⟨lI,h23,h⟩:=aD h;have dJ:=(((aU.lt Action.c aq).l (ax Action.c 3 (dc aq) rfl)).g (Gw h23))
  obtain⟨h24,h⟩|⟨h24,h⟩:=aL h
  ·cases h;exact(dJ.b h24).ret hΓ
  ·exact((dJ.b h24).a [.cn [0,1,5] []]).ct hΓ bq (iS aq hm1) (ih1 (i1+1) lI (dn aq) h)
theorem FZ{aB:bw}{aV:Int}{r:Int}(h:sv aB aV=some r):Good prog 137 [D.sl (aB.map Action.c),D.int .i64 aV] (D.int .i64 r):=by
 refine gd func137 [[none]] 27 fun hr Γ hΓ=>?_
 rw[sv]at h;obtain⟨h1,h⟩|⟨h1,h⟩:=aL h
 ·cases h;exact(aU.b h1).ret hΓ
 ·refine((aU.b h1).a [.cn [0,1,5] []]).lp hΓ (Gv hΓ (fun cJ h=>?_) (by have:=(dS.sl (hr _ (aC (i:=0) rfl))).1;simpa using this) aB 0 (IntKind.i64.wrap (aV-((aB.map Action.c).length:Int))) rfl h);have h:=aG h;subst h;exact aU.ret hΓ
def uk(aB:aO)(aV:Int):Option Int:=(bif decide ((IntKind.i64.wrap (aV-(aB.name.length:Int)):Int)<0)then(some (-1))else((vm aB.conds (IntKind.i64.wrap (aV-(aB.name.length:Int)))).bind fun y2=>(bif decide ((y2:Int)<0)then(some (-1))else((sv aB.cr y2).bind fun y5=>(bif decide ((y5:Int)<0)then(some (-1))else(some y5))))))
theorem L5{aB:aO}{aV:Int}{r:Int}(h:uk aB aV=some r):Good prog 79 [D.agg (aO.c aB),D.int .i64 aV] (D.int .i64 r):=by
 refine gd func79 [[none]] 25 fun hr Γ hΓ=>?_
 rw[uk]at h;obtain⟨h1,h⟩|⟨h1,h⟩:=aL h
 ·cases h;exact(aU.b h1).ret hΓ
 ·obtain⟨y2,h3,h⟩:=aD h;have jz:=((aU.b h1).g (J9 h3))
  obtain⟨h4,h⟩|⟨h4,h⟩:=aL h
  ·cases h;exact(jz.b h4).ret hΓ
  ·obtain⟨y5,h6,h⟩:=aD h;have dJ:=((jz.b h4).g (FZ h6))
   obtain⟨h7,h⟩|⟨h7,h⟩:=aL h
   ·cases h;exact(dJ.b h7).ret hΓ
   ·have h:=aG h;subst h;exact(dJ.b h7).ret hΓ
def oN(aB:au)(k1:Int->Option Int):au->Nat->Int->Option Int
 | [],i1,b7=>(k1 b7)
 |bD::bn,i1,b7=>((uk bD b7).bind fun lI=>(bif decide ((lI:Int)<0)then(some (-1))else(oN aB k1 bn (i1+1) lI)))
def vp(aB:au)(aV:Int):Option Int:=(bif decide ((IntKind.i64.wrap (aV-((aB.map aO.c).length:Int)):Int)<0)then(some (-1))else(oN aB (fun(cJ:Int)=>(some cJ)) aB 0 (IntKind.i64.wrap (aV-((aB.map aO.c).length:Int)))))
def Me(aB:au)(b7:Int)(cS:Int):St:=⟨[(0,D.sl (aB.map aO.c)),(1,D.int .i64 b7),(5,D.int .i64 cS)],[]⟩
theorem L4(hΓ:Γ.nt=27){aB:au}{r:Int}{k1:Int->Option Int}(cX:∀(cJ:Int),k1 cJ=some r->Ax Γ N f33 (.q [[none]] (D.int .i64 r)) [1,1,1,1] ⟨[(1,D.int .i64 cJ)],[]⟩)(hm1:aB.length<=maxLen):∀(rest:au) (i1:Nat) (b7:Int),aB.drop i1=rest->oN aB k1 rest i1 b7=some r->Ar Γ N f33 (.q [[none]] (D.int .i64 r)) [1,1,1,0,1,0] (rest.length+1) (Me aB b7 (i1:Int)):=by
 intro rest
 induction rest with
 |nil=>
  intro i1 b7 aq h;rw[oN]at h;refine aM fun N1 bu bq=>?_
  exact((aU.ge aO.c aq).a [.hl 0 [1] []]).ex hΓ bu (cX b7 h)
 |cons bD bn ih1=>
  intro i1 b7 aq h;rw[oN]at h;refine aM fun N1 bu bq=>?_
  obtain⟨lI,h23,h⟩:=aD h;have dJ:=(((aU.lt aO.c aq).l (ax aO.c 4 (dc aq) rfl)).g (L5 h23))
  obtain⟨h24,h⟩|⟨h24,h⟩:=aL h
  ·cases h;exact(dJ.b h24).ret hΓ
  ·exact((dJ.b h24).a [.cn [0,1,5] []]).ct hΓ bq (iS aq hm1) (ih1 (i1+1) lI (dn aq) h)
theorem Al{aB:au}{aV:Int}{r:Int}(h:vp aB aV=some r):Good prog 33 [D.sl (aB.map aO.c),D.int .i64 aV] (D.int .i64 r):=by
 refine gd func33 [[none]] 27 fun hr Γ hΓ=>?_
 rw[vp]at h;obtain⟨h1,h⟩|⟨h1,h⟩:=aL h
 ·cases h;exact(aU.b h1).ret hΓ
 ·refine((aU.b h1).a [.cn [0,1,5] []]).lp hΓ (L4 hΓ (fun cJ h=>?_) (by have:=(dS.sl (hr _ (aC (i:=0) rfl))).1;simpa using this) aB 0 (IntKind.i64.wrap (aV-((aB.map aO.c).length:Int))) rfl h);have h:=aG h;subst h;exact aU.ret hΓ
def xD(aB:bJ)(aV:Int):Option Int:=(bif decide ((IntKind.i64.wrap (aV-((aB.map dZ).length:Int)):Int)<0)then(some (-1))else(some (IntKind.i64.wrap (aV-((aB.map dZ).length:Int)))))
theorem Kw{aB:bJ}{aV:Int}{r:Int}(h:xD aB aV=some r):Good prog 46 [D.sl (aB.map dZ),D.int .i64 aV] (D.int .i64 r):=by
 refine gd func46 [[none]] 12 fun hr Γ hΓ=>?_
 rw[xD]at h;obtain⟨h1,h⟩|⟨h1,h⟩:=aL h
 ·cases h;exact(aU.b h1).ret hΓ
 ·cases h;exact(aU.b h1).ret hΓ
def rN(aB:aE)(aV:Int):Option Int:=(bif decide ((IntKind.i64.wrap (aV-(aB.rel.length:Int)):Int)<0)then(some (-1))else((pV aB.args (IntKind.i64.wrap (aV-(aB.rel.length:Int)))).bind fun y2=>(bif decide ((y2:Int)<0)then(some (-1))else(some y2))))
theorem Bn{aB:aE}{aV:Int}{r:Int}(h:rN aB aV=some r):Good prog 22 [D.agg (aE.c aB),D.int .i64 aV] (D.int .i64 r):=by
 refine gd func22 [[none]] 19 fun hr Γ hΓ=>?_
 rw[rN]at h;obtain⟨h1,h⟩|⟨h1,h⟩:=aL h
 ·cases h;exact(aU.b h1).ret hΓ
 ·obtain⟨y2,h3,h⟩:=aD h;have jz:=((aU.b h1).g (z7 h3))
  obtain⟨h4,h⟩|⟨h4,h⟩:=aL h
  ·cases h;exact(jz.b h4).ret hΓ
  ·have h:=aG h;subst h;exact(jz.b h4).ret hΓ
def oK(aB:aQ)(k1:Int->Option Int):aQ->Nat->Int->Option Int
 | [],i1,b7=>(k1 b7)
 |bD::bn,i1,b7=>((rN bD b7).bind fun lI=>(bif decide ((lI:Int)<0)then(some (-1))else(oK aB k1 bn (i1+1) lI)))
def q9(aB:aQ)(aV:Int):Option Int:=(bif decide ((IntKind.i64.wrap (aV-((aB.map aE.c).length:Int)):Int)<0)then(some (-1))else(oK aB (fun(cJ:Int)=>(some cJ)) aB 0 (IntKind.i64.wrap (aV-((aB.map aE.c).length:Int)))))
def Mb(aB:aQ)(b7:Int)(cS:Int):St:=⟨[(0,D.sl (aB.map aE.c)),(1,D.int .i64 b7),(5,D.int .i64 cS)],[]⟩
theorem Kv(hΓ:Γ.nt=27){aB:aQ}{r:Int}{k1:Int->Option Int}(cX:∀(cJ:Int),k1 cJ=some r->Ax Γ N f12 (.q [[none]] (D.int .i64 r)) [1,1,1,1] ⟨[(1,D.int .i64 cJ)],[]⟩)(hm1:aB.length<=maxLen):∀(rest:aQ) (i1:Nat) (b7:Int),aB.drop i1=rest->oK aB k1 rest i1 b7=some r->Ar Γ N f12 (.q [[none]] (D.int .i64 r)) [1,1,1,0,1,0] (rest.length+1) (Mb aB b7 (i1:Int)):=by
 intro rest
 induction rest with
 |nil=>
  intro i1 b7 aq h;rw[oK]at h;refine aM fun N1 bu bq=>?_
  exact((aU.ge aE.c aq).a [.hl 0 [1] []]).ex hΓ bu (cX b7 h)
 |cons bD bn ih1=>
  intro i1 b7 aq h;rw[oK]at h;refine aM fun N1 bu bq=>?_
  obtain⟨lI,h23,h⟩:=aD h;have dJ:=(((aU.lt aE.c aq).l (ax aE.c 2 (dc aq) rfl)).g (Bn h23))
  obtain⟨h24,h⟩|⟨h24,h⟩:=aL h
  ·cases h;exact(dJ.b h24).ret hΓ
  ·exact((dJ.b h24).a [.cn [0,1,5] []]).ct hΓ bq (iS aq hm1) (ih1 (i1+1) lI (dn aq) h)
theorem s9{aB:aQ}{aV:Int}{r:Int}(h:q9 aB aV=some r):Good prog 12 [D.sl (aB.map aE.c),D.int .i64 aV] (D.int .i64 r):=by
 refine gd func12 [[none]] 27 fun hr Γ hΓ=>?_
 rw[q9]at h;obtain⟨h1,h⟩|⟨h1,h⟩:=aL h
 ·cases h;exact(aU.b h1).ret hΓ
 ·refine((aU.b h1).a [.cn [0,1,5] []]).lp hΓ (Kv hΓ (fun cJ h=>?_) (by have:=(dS.sl (hr _ (aC (i:=0) rfl))).1;simpa using this) aB 0 (IntKind.i64.wrap (aV-((aB.map aE.c).length:Int))) rfl h);have h:=aG h;subst h;exact aU.ret hΓ
def sw(aB:aP)(aV:Int):Option Int:=((nE aB.shape aV).bind fun y1=>(bif decide ((y1:Int)<0)then(some (-1))else((q9 aB.facts y1).bind fun y4=>(bif decide ((y4:Int)<0)then(some (-1))else(some y4)))))
theorem J8{aB:aP}{aV:Int}{r:Int}(h:sw aB aV=some r):Good prog 100 [D.agg (aP.c aB),D.int .i64 aV] (D.int .i64 r):=by
 refine gd func100 [[none]] 18 fun hr Γ hΓ=>?_
 rw[sw]at h;obtain⟨y1,h2,h⟩:=aD h;obtain⟨h3,h⟩|⟨h3,h⟩:=aL h
 ·cases h;exact((aU.g (jq h2)).b h3).ret hΓ
 ·obtain⟨y4,h5,h⟩:=aD h;have jz:=(((aU.g (jq h2)).b h3).g (s9 h5))
  obtain⟨h6,h⟩|⟨h6,h⟩:=aL h
  ·cases h;exact(jz.b h6).ret hΓ
  ·have h:=aG h;subst h;exact(jz.b h6).ret hΓ
def nD(aB:b8)(k1:Int->Option Int):b8->Nat->Int->Option Int
 | [],i1,b7=>(k1 b7)
 |bD::bn,i1,b7=>((sw bD b7).bind fun lI=>(bif decide ((lI:Int)<0)then(some (-1))else(nD aB k1 bn (i1+1) lI)))
def uF(aB:b8)(aV:Int):Option Int:=(bif decide ((IntKind.i64.wrap (aV-((aB.map aP.c).length:Int)):Int)<0)then(some (-1))else(nD aB (fun(cJ:Int)=>(some cJ)) aB 0 (IntKind.i64.wrap (aV-((aB.map aP.c).length:Int)))))
def Kt(aB:b8)(b7:Int)(cS:Int):St:=⟨[(0,D.sl (aB.map aP.c)),(1,D.int .i64 b7),(5,D.int .i64 cS)],[]⟩
theorem J7(hΓ:Γ.nt=27){aB:b8}{r:Int}{k1:Int->Option Int}(cX:∀(cJ:Int),k1 cJ=some r->Ax Γ N f47 (.q [[none]] (D.int .i64 r)) [1,1,1,1] ⟨[(1,D.int .i64 cJ)],[]⟩)(hm1:aB.length<=maxLen):∀(rest:b8) (i1:Nat) (b7:Int),aB.drop i1=rest->nD aB k1 rest i1 b7=some r->Ar Γ N f47 (.q [[none]] (D.int .i64 r)) [1,1,1,0,1,0] (rest.length+1) (Kt aB b7 (i1:Int)):=by
 intro rest
 induction rest with
 |nil=>
  intro i1 b7 aq h;rw[nD]at h;refine aM fun N1 bu bq=>?_
  exact((aU.ge aP.c aq).a [.hl 0 [1] []]).ex hΓ bu (cX b7 h)
 |cons bD bn ih1=>
  intro i1 b7 aq h;rw[nD]at h;refine aM fun N1 bu bq=>?_
  obtain⟨lI,h23,h⟩:=aD h;have dJ:=(((aU.lt aP.c aq).l (ax aP.c 3 (dc aq) rfl)).g (J8 h23))
  obtain⟨h24,h⟩|⟨h24,h⟩:=aL h
  ·cases h;exact(dJ.b h24).ret hΓ
  ·exact((dJ.b h24).a [.cn [0,1,5] []]).ct hΓ bq (iS aq hm1) (ih1 (i1+1) lI (dn aq) h)
theorem Gx{aB:b8}{aV:Int}{r:Int}(h:uF aB aV=some r):Good prog 47 [D.sl (aB.map aP.c),D.int .i64 aV] (D.int .i64 r):=by
 refine gd func47 [[none]] 27 fun hr Γ hΓ=>?_
 rw[uF]at h;obtain⟨h1,h⟩|⟨h1,h⟩:=aL h
 ·cases h;exact(aU.b h1).ret hΓ
 ·refine((aU.b h1).a [.cn [0,1,5] []]).lp hΓ (J7 hΓ (fun cJ h=>?_) (by have:=(dS.sl (hr _ (aC (i:=0) rfl))).1;simpa using this) aB 0 (IntKind.i64.wrap (aV-((aB.map aP.c).length:Int))) rfl h);have h:=aG h;subst h;exact aU.ret hΓ
def uj(aB:aS)(aV:Int):Option Int:=(bif decide ((IntKind.i64.wrap (aV-(aB.var.length:Int)):Int)<0)then(some (-1))else(bif decide ((IntKind.i64.wrap ((IntKind.i64.wrap (aV-(aB.var.length:Int)))-(aB.value.length:Int)):Int)<0)then(some (-1))else(some (IntKind.i64.wrap ((IntKind.i64.wrap (aV-(aB.var.length:Int)))-(aB.value.length:Int))))))
theorem L3{aB:aS}{aV:Int}{r:Int}(h:uj aB aV=some r):Good prog 283 [D.agg (aS.c aB),D.int .i64 aV] (D.int .i64 r):=by
 refine gd func283 [[none]] 20 fun hr Γ hΓ=>?_
 rw[uj]at h;obtain⟨h1,h⟩|⟨h1,h⟩:=aL h
 ·cases h;exact(aU.b h1).ret hΓ
 ·obtain⟨h2,h⟩|⟨h2,h⟩:=aL h
  ·cases h;exact((aU.b h1).b h2).ret hΓ
  ·cases h;exact((aU.b h1).b h2).ret hΓ
def oM(aB:aT)(k1:Int->Option Int):aT->Nat->Int->Option Int
 | [],i1,b7=>(k1 b7)
 |bD::bn,i1,b7=>((uj bD b7).bind fun lI=>(bif decide ((lI:Int)<0)then(some (-1))else(oM aB k1 bn (i1+1) lI)))
def vo(aB:aT)(aV:Int):Option Int:=(bif decide ((IntKind.i64.wrap (aV-((aB.map aS.c).length:Int)):Int)<0)then(some (-1))else(oM aB (fun(cJ:Int)=>(some cJ)) aB 0 (IntKind.i64.wrap (aV-((aB.map aS.c).length:Int)))))
def Md(aB:aT)(b7:Int)(cS:Int):St:=⟨[(0,D.sl (aB.map aS.c)),(1,D.int .i64 b7),(5,D.int .i64 cS)],[]⟩
theorem Kz(hΓ:Γ.nt=27){aB:aT}{r:Int}{k1:Int->Option Int}(cX:∀(cJ:Int),k1 cJ=some r->Ax Γ N f272 (.q [[none]] (D.int .i64 r)) [1,1,1,1] ⟨[(1,D.int .i64 cJ)],[]⟩)(hm1:aB.length<=maxLen):∀(rest:aT) (i1:Nat) (b7:Int),aB.drop i1=rest->oM aB k1 rest i1 b7=some r->Ar Γ N f272 (.q [[none]] (D.int .i64 r)) [1,1,1,0,1,0] (rest.length+1) (Md aB b7 (i1:Int)):=by
 intro rest
 induction rest with
 |nil=>
  intro i1 b7 aq h;rw[oM]at h;refine aM fun N1 bu bq=>?_
  exact((aU.ge aS.c aq).a [.hl 0 [1] []]).ex hΓ bu (cX b7 h)
 |cons bD bn ih1=>
  intro i1 b7 aq h;rw[oM]at h;refine aM fun N1 bu bq=>?_
  obtain⟨lI,h23,h⟩:=aD h;have dJ:=(((aU.lt aS.c aq).l (ax aS.c 2 (dc aq) rfl)).g (L3 h23))
  obtain⟨h24,h⟩|⟨h24,h⟩:=aL h
  ·cases h;exact(dJ.b h24).ret hΓ
  ·exact((dJ.b h24).a [.cn [0,1,5] []]).ct hΓ bq (iS aq hm1) (ih1 (i1+1) lI (dn aq) h)
theorem JB{aB:aT}{aV:Int}{r:Int}(h:vo aB aV=some r):Good prog 272 [D.sl (aB.map aS.c),D.int .i64 aV] (D.int .i64 r):=by
 refine gd func272 [[none]] 27 fun hr Γ hΓ=>?_
 rw[vo]at h;obtain⟨h1,h⟩|⟨h1,h⟩:=aL h
 ·cases h;exact(aU.b h1).ret hΓ
 ·refine((aU.b h1).a [.cn [0,1,5] []]).lp hΓ (Kz hΓ (fun cJ h=>?_) (by have:=(dS.sl (hr _ (aC (i:=0) rfl))).1;simpa using this) aB 0 (IntKind.i64.wrap (aV-((aB.map aS.c).length:Int))) rfl h);have h:=aG h;subst h;exact aU.ret hΓ
def sy(aB:aJ)(aV:Int):Option Int:=((q9 aB.facts aV).bind fun y1=>(bif decide ((y1:Int)<0)then(some (-1))else((vo aB.bind y1).bind fun y4=>(bif decide ((y4:Int)<0)then(some (-1))else(some y4)))))
theorem JE{aB:aJ}{aV:Int}{r:Int}(h:sy aB aV=some r):Good prog 241 [D.agg (aJ.c aB),D.int .i64 aV] (D.int .i64 r):=by
 refine gd func241 [[none]] 18 fun hr Γ hΓ=>?_
 rw[sy]at h;obtain⟨y1,h2,h⟩:=aD h;obtain⟨h3,h⟩|⟨h3,h⟩:=aL h
 ·cases h;exact((aU.g (s9 h2)).b h3).ret hΓ
 ·obtain⟨y4,h5,h⟩:=aD h;have jz:=(((aU.g (s9 h2)).b h3).g (JB h5))
  obtain⟨h6,h⟩|⟨h6,h⟩:=aL h
  ·cases h;exact(jz.b h6).ret hΓ
  ·have h:=aG h;subst h;exact(jz.b h6).ret hΓ
def nF(aB:af)(k1:Int->Option Int):af->Nat->Int->Option Int
 | [],i1,b7=>(k1 b7)
 |bD::bn,i1,b7=>((sy bD b7).bind fun lI=>(bif decide ((lI:Int)<0)then(some (-1))else(nF aB k1 bn (i1+1) lI)))
def uG(aB:af)(aV:Int):Option Int:=(bif decide ((IntKind.i64.wrap (aV-((aB.map aJ.c).length:Int)):Int)<0)then(some (-1))else(nF aB (fun(cJ:Int)=>(some cJ)) aB 0 (IntKind.i64.wrap (aV-((aB.map aJ.c).length:Int)))))
def L6(aB:af)(b7:Int)(cS:Int):St:=⟨[(0,D.sl (aB.map aJ.c)),(1,D.int .i64 b7),(5,D.int .i64 cS)],[]⟩
theorem JD(hΓ:Γ.nt=27){aB:af}{r:Int}{k1:Int->Option Int}(cX:∀(cJ:Int),k1 cJ=some r->Ax Γ N f174 (.q [[none]] (D.int .i64 r)) [1,1,1,1] ⟨[(1,D.int .i64 cJ)],[]⟩)(hm1:aB.length<=maxLen):∀(rest:af) (i1:Nat) (b7:Int),aB.drop i1=rest->nF aB k1 rest i1 b7=some r->Ar Γ N f174 (.q [[none]] (D.int .i64 r)) [1,1,1,0,1,0] (rest.length+1) (L6 aB b7 (i1:Int)):=by
 intro rest
 induction rest with
 |nil=>
  intro i1 b7 aq h;rw[nF]at h;refine aM fun N1 bu bq=>?_
  exact((aU.ge aJ.c aq).a [.hl 0 [1] []]).ex hΓ bu (cX b7 h)
 |cons bD bn ih1=>
  intro i1 b7 aq h;rw[nF]at h;refine aM fun N1 bu bq=>?_
  obtain⟨lI,h23,h⟩:=aD h;have dJ:=(((aU.lt aJ.c aq).l (ax aJ.c 2 (dc aq) rfl)).g (JE h23))
  obtain⟨h24,h⟩|⟨h24,h⟩:=aL h
  ·cases h;exact(dJ.b h24).ret hΓ
  ·exact((dJ.b h24).a [.cn [0,1,5] []]).ct hΓ bq (iS aq hm1) (ih1 (i1+1) lI (dn aq) h)
theorem Gz{aB:af}{aV:Int}{r:Int}(h:uG aB aV=some r):Good prog 174 [D.sl (aB.map aJ.c),D.int .i64 aV] (D.int .i64 r):=by
 refine gd func174 [[none]] 27 fun hr Γ hΓ=>?_
 rw[uG]at h;obtain⟨h1,h⟩|⟨h1,h⟩:=aL h
 ·cases h;exact(aU.b h1).ret hΓ
 ·refine((aU.b h1).a [.cn [0,1,5] []]).lp hΓ (JD hΓ (fun cJ h=>?_) (by have:=(dS.sl (hr _ (aC (i:=0) rfl))).1;simpa using this) aB 0 (IntKind.i64.wrap (aV-((aB.map aJ.c).length:Int))) rfl h);have h:=aG h;subst h;exact aU.ret hΓ
def uh(aB:Node)(aV:Int):Option Int:=((rM aB.cond aV).bind fun y1=>(bif decide ((y1:Int)<0)then(some (-1))else((uG aB.tokens y1).bind fun y4=>(bif decide ((y4:Int)<0)then(some (-1))else(some y4)))))
theorem Ky{aB:Node}{aV:Int}{r:Int}(h:uh aB aV=some r):Good prog 101 [D.agg (Node.c aB),D.int .i64 aV] (D.int .i64 r):=by
 refine gd func101 [[none]] 18 fun hr Γ hΓ=>?_
 rw[uh]at h;obtain⟨y1,h2,h⟩:=aD h;obtain⟨h3,h⟩|⟨h3,h⟩:=aL h
 ·cases h;exact((aU.g (xa h2)).b h3).ret hΓ
 ·obtain⟨y4,h5,h⟩:=aD h;have jz:=(((aU.g (xa h2)).b h3).g (Gz h5))
  obtain⟨h6,h⟩|⟨h6,h⟩:=aL h
  ·cases h;exact(jz.b h6).ret hΓ
  ·have h:=aG h;subst h;exact(jz.b h6).ret hΓ
def oL(aB:az)(k1:Int->Option Int):az->Nat->Int->Option Int
 | [],i1,b7=>(k1 b7)
 |bD::bn,i1,b7=>((uh bD b7).bind fun lI=>(bif decide ((lI:Int)<0)then(some (-1))else(oL aB k1 bn (i1+1) lI)))
def vn(aB:az)(aV:Int):Option Int:=(bif decide ((IntKind.i64.wrap (aV-((aB.map Node.c).length:Int)):Int)<0)then(some (-1))else(oL aB (fun(cJ:Int)=>(some cJ)) aB 0 (IntKind.i64.wrap (aV-((aB.map Node.c).length:Int)))))
def Mc(aB:az)(b7:Int)(cS:Int):St:=⟨[(0,D.sl (aB.map Node.c)),(1,D.int .i64 b7),(5,D.int .i64 cS)],[]⟩
theorem Kx(hΓ:Γ.nt=27){aB:az}{r:Int}{k1:Int->Option Int}(cX:∀(cJ:Int),k1 cJ=some r->Ax Γ N f48 (.q [[none]] (D.int .i64 r)) [1,1,1,1] ⟨[(1,D.int .i64 cJ)],[]⟩)(hm1:aB.length<=maxLen):∀(rest:az) (i1:Nat) (b7:Int),aB.drop i1=rest->oL aB k1 rest i1 b7=some r->Ar Γ N f48 (.q [[none]] (D.int .i64 r)) [1,1,1,0,1,0] (rest.length+1) (Mc aB b7 (i1:Int)):=by
 intro rest
 induction rest with
 |nil=>
  intro i1 b7 aq h;rw[oL]at h;refine aM fun N1 bu bq=>?_
  exact((aU.ge Node.c aq).a [.hl 0 [1] []]).ex hΓ bu (cX b7 h)
 |cons bD bn ih1=>
  intro i1 b7 aq h;rw[oL]at h;refine aM fun N1 bu bq=>?_
  obtain⟨lI,h23,h⟩:=aD h;have dJ:=(((aU.lt Node.c aq).l (ax Node.c 8 (dc aq) rfl)).g (Ky h23))
  obtain⟨h24,h⟩|⟨h24,h⟩:=aL h
  ·cases h;exact(dJ.b h24).ret hΓ
  ·exact((dJ.b h24).a [.cn [0,1,5] []]).ct hΓ bq (iS aq hm1) (ih1 (i1+1) lI (dn aq) h)
theorem JA{aB:az}{aV:Int}{r:Int}(h:vn aB aV=some r):Good prog 48 [D.sl (aB.map Node.c),D.int .i64 aV] (D.int .i64 r):=by
 refine gd func48 [[none]] 27 fun hr Γ hΓ=>?_
 rw[vn]at h;obtain⟨h1,h⟩|⟨h1,h⟩:=aL h
 ·cases h;exact(aU.b h1).ret hΓ
 ·refine((aU.b h1).a [.cn [0,1,5] []]).lp hΓ (Kx hΓ (fun cJ h=>?_) (by have:=(dS.sl (hr _ (aC (i:=0) rfl))).1;simpa using this) aB 0 (IntKind.i64.wrap (aV-((aB.map Node.c).length:Int))) rfl h);have h:=aG h;subst h;exact aU.ret hΓ
def sx(aB:aF)(aV:Int):Option Int:=((vp aB.rules aV).bind fun y1=>(bif decide ((y1:Int)<0)then(some (-1))else((xD aB.ends y1).bind fun y4=>(bif decide ((y4:Int)<0)then(some (-1))else((uF aB.ay y4).bind fun y7=>(bif decide ((y7:Int)<0)then(some (-1))else((vn aB.nodes y7).bind fun Oa=>(bif decide ((Oa:Int)<0)then(some (-1))else((q9 aB.facts Oa).bind fun rp=>(bif decide ((rp:Int)<0)then(some (-1))else(some rp)))))))))))
theorem z6{aB:aF}{aV:Int}{r:Int}(h:sx aB aV=some r):Good prog 11 [D.agg (aF.c aB),D.int .i64 aV] (D.int .i64 r):=by
 refine gd func11 [[none]] 36 fun hr Γ hΓ=>?_
 rw[sx]at h;obtain⟨y1,h2,h⟩:=aD h;obtain⟨h3,h⟩|⟨h3,h⟩:=aL h
 ·cases h;exact((aU.g (Al h2)).b h3).ret hΓ
 ·obtain⟨y4,h5,h⟩:=aD h;have jz:=(((aU.g (Al h2)).b h3).g (Kw h5))
  obtain⟨h6,h⟩|⟨h6,h⟩:=aL h
  ·cases h;exact(jz.b h6).ret hΓ
  ·obtain⟨y7,h8,h⟩:=aD h;have dJ:=((jz.b h6).g (Gx h8))
   obtain⟨h9,h⟩|⟨h9,h⟩:=aL h
   ·cases h;exact(dJ.b h9).ret hΓ
   ·obtain⟨Oa,h11,h⟩:=aD h;have kT:=((dJ.b h9).g (JA h11))
    obtain⟨h12,h⟩|⟨h12,h⟩:=aL h
    ·cases h;exact(kT.b h12).ret hΓ
    ·obtain⟨rp,h14,h⟩:=aD h;have jN:=((kT.b h12).g (s9 h14))
     obtain⟨h15,h⟩|⟨h15,h⟩:=aL h
     ·cases h;exact(jN.b h15).ret hΓ
     ·have h:=aG h;subst h;exact(jN.b h15).ret hΓ
end Go.Cx
namespace Go.Cx
open Go.RowKit Go.Proofs Tryz
set_option maxRecDepth 100000
variable{Γ:vP}{N:Nat->St->Prop}
def jY(aB:aI)(k1:aI->Option aI):aI->Nat->aI->Option aI
 | [],i1,bC=>(k1 bC)
 |bD::bn,i1,bC=>(bif decide (i1<(bC.map tx).length)then(((bC)[i1]?).bind fun x30=>(jY aB k1 bn (i1+1) (bC.set i1 bD)))else none)
def pW(aB:aI):Option aI:=(bif CZ ((aB.map tx).length:Int) 16 then(jY aB (fun(bO:aI)=>(some bO)) aB 0 (List.replicate ((aB.map tx).length:Int).toNat ([]:Bytes)))else none)
def wk(aB:aI)(W0:List aR)(cS:Int):St:=⟨[(0,D.sl (aB.map tx)),(3,D.acc 0),(4,D.int .i64 cS)],[Ob.row .uq 9 1 W0]⟩
theorem H9(hΓ:Γ.nt=22){aB:aI}{r:aI}{k1:aI->Option aI}(cX:∀(bO:aI),k1 bO=some r->Ax Γ N f70 (.q [[some (9,1)]] (D.fr 9 1 (r.map tx))) [1,1,1] ⟨[(3,D.acc 0)],[Ob.row .uq 9 1 (bO.map tx)]⟩)(hm1:aB.length<=maxLen):∀(rest:aI) (i1:Nat) (bC:aI),aB.drop i1=rest->jY aB k1 rest i1 bC=some r->Ar Γ N f70 (.q [[some (9,1)]] (D.fr 9 1 (r.map tx))) [1,1,0,1,0] (rest.length+1) (wk aB (bC.map tx) (i1:Int)):=by
 intro rest
 induction rest with
 |nil=>
  intro i1 bC aq h;rw[jY]at h;refine aM fun N1 bu bq=>?_
  exact((aU.ge tx aq).a [.hl 0 [3] [0]]).ex hΓ bu (cX bC h)
 |cons bD bn ih1=>
  intro i1 bC aq h;rw[jY]at h;refine aM fun N1 bu bq=>?_
  obtain⟨h29,h⟩:=bX h;obtain⟨x30,h31,h⟩:=aD h;exact(((((aU.lt tx aq).l (ax tx 1 (dc aq) rfl)).i (zJ 1 h29)).w (show(bC.map tx)[i1]?=some [D.str x30]from dB tx h31)).a [.row [D.str x30],.cn [0,3,4] [0]]).cs hΓ bq (wk aB ((bC.map tx).set i1 [D.str bD]) (IntKind.i64.wrap ((i1:Int)+1))) (by first| (simp only[iS aq hm1,mA]<;>rfl)| (simp only[iS aq hm1,mA,aE.c,aS.c,aN.c,Action.c,aO.c,aJ.c,cx.c,aP.c,Node.c,aF.c,cy.c]<;>rfl)) (ih1 (i1+1) (bC.set i1 bD) (dn aq) h)
theorem z8{aB:aI}{r:aI}(h:pW aB=some r):Good prog 70 [D.sl (aB.map tx)] (D.fr 9 1 (r.map tx)):=by
 refine gd func70 [[some (9,1)]] 22 fun hr Γ hΓ=>?_
 rw[pW]at h;obtain⟨h1,h⟩:=bX h;refine((aU.w (xO h1)).a [.cn [0,3,4] [0]]).Wq hΓ (wk aB (List.replicate ((aB.map tx).length:Int).toNat [D.str ([])]) 0) (by first| (simp only[mA]<;>rfl)| (simp only[mA,aE.c,aS.c,aN.c,Action.c,aO.c,aJ.c,cx.c,aP.c,Node.c,aF.c,cy.c]<;>rfl)) (H9 hΓ (fun bO h=>?_) (by have:=(dS.sl (hr _ (aC (i:=0) rfl))).1;simpa using this) aB 0 (List.replicate ((aB.map tx).length:Int).toNat ([]:Bytes)) rfl h);have h:=aG h;subst h;exact aU.ret hΓ
def nI(aB:aE):Option aE:=((pW aB.args).bind fun y1=>(some (⟨aB.rel,y1⟩:aE)))
theorem vH{aB:aE}{r:aE}(h:nI aB=some r):Good prog 179 [D.agg (aE.c aB)] (D.agg [D.str r.rel,D.fr 9 1 (r.args.map tx)]):=by
 refine gd func179 [[none,some (9,1)]] 12 fun hr Γ hΓ=>?_
 rw[nI]at h;obtain⟨y1,h2,h⟩:=aD h;cases h;exact(aU.g (z8 h2)).ret hΓ
def rO(aB:aN):Option aN:=((nI aB.pat).bind fun y1=>(some (⟨aB.kind,y1,aB.left,aB.right⟩:aN)))
theorem Bo{aB:aN}{r:aN}(h:rO aB=some r):Good prog 180 [D.agg (aN.c aB)] (D.agg [D.int .i64 r.kind,D.str r.pat.rel,D.fr 9 1 (r.pat.args.map tx),D.str r.left,D.str r.right]):=by
 refine gd func180 [[none,none,some (9,1),none,none]] 18 fun hr Γ hΓ=>?_
 rw[rO]at h;obtain⟨y1,h2,h⟩:=aD h;cases h;exact(aU.g (vH h2)).ret hΓ
def oO(aB:aj)(k1:aj->Option aj):aj->Nat->aj->Option aj
 | [],i1,bC=>(k1 bC)
 |bD::bn,i1,bC=>((rO bD).bind fun nw=>(bif decide (i1<(bC.map aN.c).length)then(((bC)[i1]?).bind fun x44=>(oO aB k1 bn (i1+1) (bC.set i1 nw)))else none))
def vq(aB:aj):Option aj:=(bif CZ ((aB.map aN.c).length:Int) 80 then(oO aB (fun(bO:aj)=>(some bO)) aB 0 (List.replicate ((aB.map aN.c).length:Int).toNat (⟨(0:Int),(⟨([]:Bytes),[]⟩:aE),([]:Bytes),([]:Bytes)⟩:aN)))else none)
def yU(aB:aj)(W0:List aR)(cS:Int):St:=⟨[(0,D.sl (aB.map aN.c)),(3,D.acc 0),(4,D.int .i64 cS)],[Ob.row .uq 115 5 W0]⟩
theorem L7(hΓ:Γ.nt=23){aB:aj}{r:aj}{k1:aj->Option aj}(cX:∀(bO:aj),k1 bO=some r->Ax Γ N f140 (.q [[some (115,5)]] (D.fr 115 5 (r.map aN.c))) [1,1,1] ⟨[(3,D.acc 0)],[Ob.row .uq 115 5 (bO.map aN.c)]⟩)(hm1:aB.length<=maxLen):∀(rest:aj) (i1:Nat) (bC:aj),aB.drop i1=rest->oO aB k1 rest i1 bC=some r->Ar Γ N f140 (.q [[some (115,5)]] (D.fr 115 5 (r.map aN.c))) [1,1,0,1,0] (rest.length+1) (yU aB (bC.map aN.c) (i1:Int)):=by
 intro rest
 induction rest with
 |nil=>
  intro i1 bC aq h;rw[oO]at h;refine aM fun N1 bu bq=>?_
  exact((aU.ge aN.c aq).a [.hl 0 [3] [0]]).ex hΓ bu (cX bC h)
 |cons bD bn ih1=>
  intro i1 bC aq h;rw[oO]at h;refine aM fun N1 bu bq=>?_
  obtain⟨nw,h42,h⟩:=aD h;obtain⟨h43,h⟩:=bX h;obtain⟨x44,h45,h⟩:=aD h;exact((((((aU.lt aN.c aq).l (ax aN.c 5 (dc aq) rfl)).g (Bo h42)).i (zJ 5 h43)).w (show(bC.map aN.c)[i1]?=some [D.int .i64 x44.kind,D.str x44.pat.rel,D.sl (x44.pat.args.map tx),D.str x44.left,D.str x44.right]from dB aN.c h45)).a [.row [D.int .i64 x44.kind,D.str x44.pat.rel,D.sl (x44.pat.args.map tx),D.str x44.left,D.str x44.right],.cn [0,3,4] [0]]).cs hΓ bq (yU aB ((bC.map aN.c).set i1 [D.int .i64 nw.kind,D.str nw.pat.rel,D.sl (nw.pat.args.map tx),D.str nw.left,D.str nw.right]) (IntKind.i64.wrap ((i1:Int)+1))) (by first| (simp only[iS aq hm1,mA]<;>rfl)| (simp only[iS aq hm1,mA,aE.c,aS.c,aN.c,Action.c,aO.c,aJ.c,cx.c,aP.c,Node.c,aF.c,cy.c]<;>rfl)) (ih1 (i1+1) (bC.set i1 nw) (dn aq) h)
theorem JH{aB:aj}{r:aj}(h:vq aB=some r):Good prog 140 [D.sl (aB.map aN.c)] (D.fr 115 5 (r.map aN.c)):=by
 refine gd func140 [[some (115,5)]] 23 fun hr Γ hΓ=>?_
 rw[vq]at h;obtain⟨h1,h⟩:=bX h;refine((aU.w (xO h1)).a [.cn [0,3,4] [0]]).Wq hΓ (yU aB (List.replicate ((aB.map aN.c).length:Int).toNat [D.int .i64 0,D.str ([]),D.sl ([]),D.str ([]),D.str ([])]) 0) (by first| (simp only[mA]<;>rfl)| (simp only[mA,aE.c,aS.c,aN.c,Action.c,aO.c,aJ.c,cx.c,aP.c,Node.c,aF.c,cy.c]<;>rfl)) (L7 hΓ (fun bO h=>?_) (by have:=(dS.sl (hr _ (aC (i:=0) rfl))).1;simpa using this) aB 0 (List.replicate ((aB.map aN.c).length:Int).toNat (⟨(0:Int),(⟨([]:Bytes),[]⟩:aE),([]:Bytes),([]:Bytes)⟩:aN)) rfl h);have h:=aG h;subst h;exact aU.ret hΓ
def qf(aB:Action):Option Action:=((nI aB.pat).bind fun y1=>(some (⟨aB.kind,y1⟩:Action)))
theorem H7{aB:Action}{r:Action}(h:qf aB=some r):Good prog 210 [D.agg (Action.c aB)] (D.agg [D.int .i64 r.kind,D.str r.pat.rel,D.fr 9 1 (r.pat.args.map tx)]):=by
 refine gd func210 [[none,none,some (9,1)]] 12 fun hr Γ hΓ=>?_
 rw[qf]at h;obtain⟨y1,h2,h⟩:=aD h;cases h;exact(aU.g (vH h2)).ret hΓ
def mO(aB:bw)(k1:bw->Option bw):bw->Nat->bw->Option bw
 | [],i1,bC=>(k1 bC)
 |bD::bn,i1,bC=>((qf bD).bind fun nw=>(bif decide (i1<(bC.map Action.c).length)then(((bC)[i1]?).bind fun x44=>(mO aB k1 bn (i1+1) (bC.set i1 nw)))else none))
def tA(aB:bw):Option bw:=(bif CZ ((aB.map Action.c).length:Int) 48 then(mO aB (fun(bO:bw)=>(some bO)) aB 0 (List.replicate ((aB.map Action.c).length:Int).toNat (⟨(0:Int),(⟨([]:Bytes),[]⟩:aE)⟩:Action)))else none)
def wi(aB:bw)(W0:List aR)(cS:Int):St:=⟨[(0,D.sl (aB.map Action.c)),(3,D.acc 0),(4,D.int .i64 cS)],[Ob.row .uq 199 3 W0]⟩
theorem H6(hΓ:Γ.nt=23){aB:bw}{r:bw}{k1:bw->Option bw}(cX:∀(bO:bw),k1 bO=some r->Ax Γ N f141 (.q [[some (199,3)]] (D.fr 199 3 (r.map Action.c))) [1,1,1] ⟨[(3,D.acc 0)],[Ob.row .uq 199 3 (bO.map Action.c)]⟩)(hm1:aB.length<=maxLen):∀(rest:bw) (i1:Nat) (bC:bw),aB.drop i1=rest->mO aB k1 rest i1 bC=some r->Ar Γ N f141 (.q [[some (199,3)]] (D.fr 199 3 (r.map Action.c))) [1,1,0,1,0] (rest.length+1) (wi aB (bC.map Action.c) (i1:Int)):=by
 intro rest
 induction rest with
 |nil=>
  intro i1 bC aq h;rw[mO]at h;refine aM fun N1 bu bq=>?_
  exact((aU.ge Action.c aq).a [.hl 0 [3] [0]]).ex hΓ bu (cX bC h)
 |cons bD bn ih1=>
  intro i1 bC aq h;rw[mO]at h;refine aM fun N1 bu bq=>?_
  obtain⟨nw,h42,h⟩:=aD h;obtain⟨h43,h⟩:=bX h;obtain⟨x44,h45,h⟩:=aD h;exact((((((aU.lt Action.c aq).l (ax Action.c 3 (dc aq) rfl)).g (H7 h42)).i (zJ 3 h43)).w (show(bC.map Action.c)[i1]?=some [D.int .i64 x44.kind,D.str x44.pat.rel,D.sl (x44.pat.args.map tx)]from dB Action.c h45)).a [.row [D.int .i64 x44.kind,D.str x44.pat.rel,D.sl (x44.pat.args.map tx)],.cn [0,3,4] [0]]).cs hΓ bq (wi aB ((bC.map Action.c).set i1 [D.int .i64 nw.kind,D.str nw.pat.rel,D.sl (nw.pat.args.map tx)]) (IntKind.i64.wrap ((i1:Int)+1))) (by first| (simp only[iS aq hm1,mA]<;>rfl)| (simp only[iS aq hm1,mA,aE.c,aS.c,aN.c,Action.c,aO.c,aJ.c,cx.c,aP.c,Node.c,aF.c,cy.c]<;>rfl)) (ih1 (i1+1) (bC.set i1 nw) (dn aq) h)
theorem Fa{aB:bw}{r:bw}(h:tA aB=some r):Good prog 141 [D.sl (aB.map Action.c)] (D.fr 199 3 (r.map Action.c)):=by
 refine gd func141 [[some (199,3)]] 23 fun hr Γ hΓ=>?_
 rw[tA]at h;obtain⟨h1,h⟩:=bX h;refine((aU.w (xO h1)).a [.cn [0,3,4] [0]]).Wq hΓ (wi aB (List.replicate ((aB.map Action.c).length:Int).toNat [D.int .i64 0,D.str ([]),D.sl ([])]) 0) (by first| (simp only[mA]<;>rfl)| (simp only[mA,aE.c,aS.c,aN.c,Action.c,aO.c,aJ.c,cx.c,aP.c,Node.c,aF.c,cy.c]<;>rfl)) (H6 hΓ (fun bO h=>?_) (by have:=(dS.sl (hr _ (aC (i:=0) rfl))).1;simpa using this) aB 0 (List.replicate ((aB.map Action.c).length:Int).toNat (⟨(0:Int),(⟨([]:Bytes),[]⟩:aE)⟩:Action)) rfl h);have h:=aG h;subst h;exact aU.ret hΓ
def uo(aB:aO):Option aO:=((vq aB.conds).bind fun y1=>((tA aB.cr).bind fun y3=>(some (⟨aB.name,aB.prio,y1,y3⟩:aO))))
theorem LG{aB:aO}{r:aO}(h:uo aB=some r):Good prog 81 [D.agg (aO.c aB)] (D.agg [D.str r.name,D.int .i64 r.prio,D.fr 115 5 (r.conds.map aN.c),D.fr 199 3 (r.cr.map Action.c)]):=by
 refine gd func81 [[none,none,some (115,5),some (199,3)]] 19 fun hr Γ hΓ=>?_
 rw[uo]at h;obtain⟨y1,h2,h⟩:=aD h;obtain⟨y3,h4,h⟩:=aD h;cases h;exact((aU.g (JH h2)).g (Fa h4)).ret hΓ
def oS(aB:au)(k1:au->Option au):au->Nat->au->Option au
 | [],i1,bC=>(k1 bC)
 |bD::bn,i1,bC=>((uo bD).bind fun nw=>(bif decide (i1<(bC.map aO.c).length)then(((bC)[i1]?).bind fun x44=>(oS aB k1 bn (i1+1) (bC.set i1 nw)))else none))
def vv(aB:au):Option au:=(bif CZ ((aB.map aO.c).length:Int) 72 then(oS aB (fun(bO:au)=>(some bO)) aB 0 (List.replicate ((aB.map aO.c).length:Int).toNat (⟨([]:Bytes),(0:Int),[],[]⟩:aO)))else none)
def yY(aB:au)(W0:List aR)(cS:Int):St:=⟨[(0,D.sl (aB.map aO.c)),(3,D.acc 0),(4,D.int .i64 cS)],[Ob.row .uq 105 4 W0]⟩
theorem LF(hΓ:Γ.nt=23){aB:au}{r:au}{k1:au->Option au}(cX:∀(bO:au),k1 bO=some r->Ax Γ N f35 (.q [[some (105,4)]] (D.fr 105 4 (r.map aO.c))) [1,1,1] ⟨[(3,D.acc 0)],[Ob.row .uq 105 4 (bO.map aO.c)]⟩)(hm1:aB.length<=maxLen):∀(rest:au) (i1:Nat) (bC:au),aB.drop i1=rest->oS aB k1 rest i1 bC=some r->Ar Γ N f35 (.q [[some (105,4)]] (D.fr 105 4 (r.map aO.c))) [1,1,0,1,0] (rest.length+1) (yY aB (bC.map aO.c) (i1:Int)):=by
 intro rest
 induction rest with
 |nil=>
  intro i1 bC aq h;rw[oS]at h;refine aM fun N1 bu bq=>?_
  exact((aU.ge aO.c aq).a [.hl 0 [3] [0]]).ex hΓ bu (cX bC h)
 |cons bD bn ih1=>
  intro i1 bC aq h;rw[oS]at h;refine aM fun N1 bu bq=>?_
  obtain⟨nw,h42,h⟩:=aD h;obtain⟨h43,h⟩:=bX h;obtain⟨x44,h45,h⟩:=aD h;exact((((((aU.lt aO.c aq).l (ax aO.c 4 (dc aq) rfl)).g (LG h42)).i (zJ 4 h43)).w (show(bC.map aO.c)[i1]?=some [D.str x44.name,D.int .i64 x44.prio,D.sl (x44.conds.map aN.c),D.sl (x44.cr.map Action.c)]from dB aO.c h45)).a [.row [D.str x44.name,D.int .i64 x44.prio,D.sl (x44.conds.map aN.c),D.sl (x44.cr.map Action.c)],.cn [0,3,4] [0]]).cs hΓ bq (yY aB ((bC.map aO.c).set i1 [D.str nw.name,D.int .i64 nw.prio,D.sl (nw.conds.map aN.c),D.sl (nw.cr.map Action.c)]) (IntKind.i64.wrap ((i1:Int)+1))) (by first| (simp only[iS aq hm1,mA]<;>rfl)| (simp only[iS aq hm1,mA,aE.c,aS.c,aN.c,Action.c,aO.c,aJ.c,cx.c,aP.c,Node.c,aF.c,cy.c]<;>rfl)) (ih1 (i1+1) (bC.set i1 nw) (dn aq) h)
theorem JK{aB:au}{r:au}(h:vv aB=some r):Good prog 35 [D.sl (aB.map aO.c)] (D.fr 105 4 (r.map aO.c)):=by
 refine gd func35 [[some (105,4)]] 23 fun hr Γ hΓ=>?_
 rw[vv]at h;obtain⟨h1,h⟩:=bX h;refine((aU.w (xO h1)).a [.cn [0,3,4] [0]]).Wq hΓ (yY aB (List.replicate ((aB.map aO.c).length:Int).toNat [D.str ([]),D.int .i64 0,D.sl ([]),D.sl ([])]) 0) (by first| (simp only[mA]<;>rfl)| (simp only[mA,aE.c,aS.c,aN.c,Action.c,aO.c,aJ.c,cx.c,aP.c,Node.c,aF.c,cy.c]<;>rfl)) (LF hΓ (fun bO h=>?_) (by have:=(dS.sl (hr _ (aC (i:=0) rfl))).1;simpa using this) aB 0 (List.replicate ((aB.map aO.c).length:Int).toNat (⟨([]:Bytes),(0:Int),[],[]⟩:aO)) rfl h);have h:=aG h;subst h;exact aU.ret hΓ
def nH(aB:bJ)(k1:bJ->Option bJ):bJ->Nat->bJ->Option bJ
 | [],i1,bC=>(k1 bC)
 |bD::bn,i1,bC=>(bif decide (i1<(bC.map dZ).length)then(((bC)[i1]?).bind fun x30=>(nH aB k1 bn (i1+1) (bC.set i1 bD)))else none)
def xE(aB:bJ):Option bJ:=(bif CZ ((aB.map dZ).length:Int) 8 then(nH aB (fun(bO:bJ)=>(some bO)) aB 0 (List.replicate ((aB.map dZ).length:Int).toNat (0:Int)))else none)
def zH(aB:bJ)(W0:List aR)(cS:Int):St:=⟨[(0,D.sl (aB.map dZ)),(3,D.acc 0),(4,D.int .i64 cS)],[Ob.row .uq 3 1 W0]⟩
theorem Mf(hΓ:Γ.nt=22){aB:bJ}{r:bJ}{k1:bJ->Option bJ}(cX:∀(bO:bJ),k1 bO=some r->Ax Γ N f50 (.q [[some (3,1)]] (D.fr 3 1 (r.map dZ))) [1,1,1] ⟨[(3,D.acc 0)],[Ob.row .uq 3 1 (bO.map dZ)]⟩)(hm1:aB.length<=maxLen):∀(rest:bJ) (i1:Nat) (bC:bJ),aB.drop i1=rest->nH aB k1 rest i1 bC=some r->Ar Γ N f50 (.q [[some (3,1)]] (D.fr 3 1 (r.map dZ))) [1,1,0,1,0] (rest.length+1) (zH aB (bC.map dZ) (i1:Int)):=by
 intro rest
 induction rest with
 |nil=>
  intro i1 bC aq h;rw[nH]at h;refine aM fun N1 bu bq=>?_
  exact((aU.ge dZ aq).a [.hl 0 [3] [0]]).ex hΓ bu (cX bC h)
 |cons bD bn ih1=>
  intro i1 bC aq h;rw[nH]at h;refine aM fun N1 bu bq=>?_
  obtain⟨h29,h⟩:=bX h;obtain⟨x30,h31,h⟩:=aD h;exact(((((aU.lt dZ aq).l (ax dZ 1 (dc aq) rfl)).i (zJ 1 h29)).w (show(bC.map dZ)[i1]?=some [D.int .i64 x30]from dB dZ h31)).a [.row [D.int .i64 x30],.cn [0,3,4] [0]]).cs hΓ bq (zH aB ((bC.map dZ).set i1 [D.int .i64 bD]) (IntKind.i64.wrap ((i1:Int)+1))) (by first| (simp only[iS aq hm1,mA]<;>rfl)| (simp only[iS aq hm1,mA,aE.c,aS.c,aN.c,Action.c,aO.c,aJ.c,cx.c,aP.c,Node.c,aF.c,cy.c]<;>rfl)) (ih1 (i1+1) (bC.set i1 bD) (dn aq) h)
theorem L9{aB:bJ}{r:bJ}(h:xE aB=some r):Good prog 50 [D.sl (aB.map dZ)] (D.fr 3 1 (r.map dZ)):=by
 refine gd func50 [[some (3,1)]] 22 fun hr Γ hΓ=>?_
 rw[xE]at h;obtain⟨h1,h⟩:=bX h;refine((aU.w (xO h1)).a [.cn [0,3,4] [0]]).Wq hΓ (zH aB (List.replicate ((aB.map dZ).length:Int).toNat [D.int .i64 0]) 0) (by first| (simp only[mA]<;>rfl)| (simp only[mA,aE.c,aS.c,aN.c,Action.c,aO.c,aJ.c,cx.c,aP.c,Node.c,aF.c,cy.c]<;>rfl)) (Mf hΓ (fun bO h=>?_) (by have:=(dS.sl (hr _ (aC (i:=0) rfl))).1;simpa using this) aB 0 (List.replicate ((aB.map dZ).length:Int).toNat (0:Int)) rfl h);have h:=aG h;subst h;exact aU.ret hΓ
def lK(aB:aE):Option aE:=((pW aB.args).bind fun y1=>(some (⟨aB.rel,y1⟩:aE)))
theorem qB{aB:aE}{r:aE}(h:lK aB=some r):Good prog 24 [D.agg (aE.c aB)] (D.agg [D.str r.rel,D.fr 9 1 (r.args.map tx)]):=by
 refine gd func24 [[none,some (9,1)]] 12 fun hr Γ hΓ=>?_
 rw[lK]at h;obtain⟨y1,h2,h⟩:=aD h;cases h;exact(aU.g (z8 h2)).ret hΓ
def oP(aB:aQ)(k1:aQ->Option aQ):aQ->Nat->aQ->Option aQ
 | [],i1,bC=>(k1 bC)
 |bD::bn,i1,bC=>((lK bD).bind fun nw=>(bif decide (i1<(bC.map aE.c).length)then(((bC)[i1]?).bind fun x44=>(oP aB k1 bn (i1+1) (bC.set i1 nw)))else none))
def qA(aB:aQ):Option aQ:=(bif CZ ((aB.map aE.c).length:Int) 40 then(oP aB (fun(bO:aQ)=>(some bO)) aB 0 (List.replicate ((aB.map aE.c).length:Int).toNat (⟨([]:Bytes),[]⟩:aE)))else none)
def yV(aB:aQ)(W0:List aR)(cS:Int):St:=⟨[(0,D.sl (aB.map aE.c)),(3,D.acc 0),(4,D.int .i64 cS)],[Ob.row .uq 53 2 W0]⟩
theorem L8(hΓ:Γ.nt=23){aB:aQ}{r:aQ}{k1:aQ->Option aQ}(cX:∀(bO:aQ),k1 bO=some r->Ax Γ N f15 (.q [[some (53,2)]] (D.fr 53 2 (r.map aE.c))) [1,1,1] ⟨[(3,D.acc 0)],[Ob.row .uq 53 2 (bO.map aE.c)]⟩)(hm1:aB.length<=maxLen):∀(rest:aQ) (i1:Nat) (bC:aQ),aB.drop i1=rest->oP aB k1 rest i1 bC=some r->Ar Γ N f15 (.q [[some (53,2)]] (D.fr 53 2 (r.map aE.c))) [1,1,0,1,0] (rest.length+1) (yV aB (bC.map aE.c) (i1:Int)):=by
 intro rest
 induction rest with
 |nil=>
  intro i1 bC aq h;rw[oP]at h;refine aM fun N1 bu bq=>?_
  exact((aU.ge aE.c aq).a [.hl 0 [3] [0]]).ex hΓ bu (cX bC h)
 |cons bD bn ih1=>
  intro i1 bC aq h;rw[oP]at h;refine aM fun N1 bu bq=>?_
  obtain⟨nw,h42,h⟩:=aD h;obtain⟨h43,h⟩:=bX h;obtain⟨x44,h45,h⟩:=aD h;exact((((((aU.lt aE.c aq).l (ax aE.c 2 (dc aq) rfl)).g (qB h42)).i (zJ 2 h43)).w (show(bC.map aE.c)[i1]?=some [D.str x44.rel,D.sl (x44.args.map tx)]from dB aE.c h45)).a [.row [D.str x44.rel,D.sl (x44.args.map tx)],.cn [0,3,4] [0]]).cs hΓ bq (yV aB ((bC.map aE.c).set i1 [D.str nw.rel,D.sl (nw.args.map tx)]) (IntKind.i64.wrap ((i1:Int)+1))) (by first| (simp only[iS aq hm1,mA]<;>rfl)| (simp only[iS aq hm1,mA,aE.c,aS.c,aN.c,Action.c,aO.c,aJ.c,cx.c,aP.c,Node.c,aF.c,cy.c]<;>rfl)) (ih1 (i1+1) (bC.set i1 nw) (dn aq) h)
theorem wj{aB:aQ}{r:aQ}(h:qA aB=some r):Good prog 15 [D.sl (aB.map aE.c)] (D.fr 53 2 (r.map aE.c)):=by
 refine gd func15 [[some (53,2)]] 23 fun hr Γ hΓ=>?_
 rw[qA]at h;obtain⟨h1,h⟩:=bX h;refine((aU.w (xO h1)).a [.cn [0,3,4] [0]]).Wq hΓ (yV aB (List.replicate ((aB.map aE.c).length:Int).toNat [D.str ([]),D.sl ([])]) 0) (by first| (simp only[mA]<;>rfl)| (simp only[mA,aE.c,aS.c,aN.c,Action.c,aO.c,aJ.c,cx.c,aP.c,Node.c,aF.c,cy.c]<;>rfl)) (L8 hΓ (fun bO h=>?_) (by have:=(dS.sl (hr _ (aC (i:=0) rfl))).1;simpa using this) aB 0 (List.replicate ((aB.map aE.c).length:Int).toNat (⟨([]:Bytes),[]⟩:aE)) rfl h);have h:=aG h;subst h;exact aU.ret hΓ
def tB(aB:aP):Option aP:=((nI aB.shape).bind fun y1=>((qA aB.facts).bind fun y3=>(some (⟨y1,y3⟩:aP))))
theorem JG{aB:aP}{r:aP}(h:tB aB=some r):Good prog 107 [D.agg (aP.c aB)] (D.agg [D.str r.shape.rel,D.fr 9 1 (r.shape.args.map tx),D.fr 53 2 (r.facts.map aE.c)]):=by
 refine gd func107 [[none,some (9,1),some (53,2)]] 13 fun hr Γ hΓ=>?_
 rw[tB]at h;obtain⟨y1,h2,h⟩:=aD h;obtain⟨y3,h4,h⟩:=aD h;cases h;exact((aU.g (vH h2)).g (wj h4)).ret hΓ
def nG(aB:b8)(k1:b8->Option b8):b8->Nat->b8->Option b8
 | [],i1,bC=>(k1 bC)
 |bD::bn,i1,bC=>((tB bD).bind fun nw=>(bif decide (i1<(bC.map aP.c).length)then(((bC)[i1]?).bind fun x44=>(nG aB k1 bn (i1+1) (bC.set i1 nw)))else none))
def uH(aB:b8):Option b8:=(bif CZ ((aB.map aP.c).length:Int) 64 then(nG aB (fun(bO:b8)=>(some bO)) aB 0 (List.replicate ((aB.map aP.c).length:Int).toNat (⟨(⟨([]:Bytes),[]⟩:aE),[]⟩:aP)))else none)
def xb(aB:b8)(W0:List aR)(cS:Int):St:=⟨[(0,D.sl (aB.map aP.c)),(3,D.acc 0),(4,D.int .i64 cS)],[Ob.row .uq 111 3 W0]⟩
theorem JF(hΓ:Γ.nt=23){aB:b8}{r:b8}{k1:b8->Option b8}(cX:∀(bO:b8),k1 bO=some r->Ax Γ N f51 (.q [[some (111,3)]] (D.fr 111 3 (r.map aP.c))) [1,1,1] ⟨[(3,D.acc 0)],[Ob.row .uq 111 3 (bO.map aP.c)]⟩)(hm1:aB.length<=maxLen):∀(rest:b8) (i1:Nat) (bC:b8),aB.drop i1=rest->nG aB k1 rest i1 bC=some r->Ar Γ N f51 (.q [[some (111,3)]] (D.fr 111 3 (r.map aP.c))) [1,1,0,1,0] (rest.length+1) (xb aB (bC.map aP.c) (i1:Int)):=by
 intro rest
 induction rest with
 |nil=>
  intro i1 bC aq h;rw[nG]at h;refine aM fun N1 bu bq=>?_
  exact((aU.ge aP.c aq).a [.hl 0 [3] [0]]).ex hΓ bu (cX bC h)
 |cons bD bn ih1=>
  intro i1 bC aq h;rw[nG]at h;refine aM fun N1 bu bq=>?_
  obtain⟨nw,h42,h⟩:=aD h;obtain⟨h43,h⟩:=bX h;obtain⟨x44,h45,h⟩:=aD h;exact((((((aU.lt aP.c aq).l (ax aP.c 3 (dc aq) rfl)).g (JG h42)).i (zJ 3 h43)).w (show(bC.map aP.c)[i1]?=some [D.str x44.shape.rel,D.sl (x44.shape.args.map tx),D.sl (x44.facts.map aE.c)]from dB aP.c h45)).a [.row [D.str x44.shape.rel,D.sl (x44.shape.args.map tx),D.sl (x44.facts.map aE.c)],.cn [0,3,4] [0]]).cs hΓ bq (xb aB ((bC.map aP.c).set i1 [D.str nw.shape.rel,D.sl (nw.shape.args.map tx),D.sl (nw.facts.map aE.c)]) (IntKind.i64.wrap ((i1:Int)+1))) (by first| (simp only[iS aq hm1,mA]<;>rfl)| (simp only[iS aq hm1,mA,aE.c,aS.c,aN.c,Action.c,aO.c,aJ.c,cx.c,aP.c,Node.c,aF.c,cy.c]<;>rfl)) (ih1 (i1+1) (bC.set i1 nw) (dn aq) h)
theorem H8{aB:b8}{r:b8}(h:uH aB=some r):Good prog 51 [D.sl (aB.map aP.c)] (D.fr 111 3 (r.map aP.c)):=by
 refine gd func51 [[some (111,3)]] 23 fun hr Γ hΓ=>?_
 rw[uH]at h;obtain⟨h1,h⟩:=bX h;refine((aU.w (xO h1)).a [.cn [0,3,4] [0]]).Wq hΓ (xb aB (List.replicate ((aB.map aP.c).length:Int).toNat [D.str ([]),D.sl ([]),D.sl ([])]) 0) (by first| (simp only[mA]<;>rfl)| (simp only[mA,aE.c,aS.c,aN.c,Action.c,aO.c,aJ.c,cx.c,aP.c,Node.c,aF.c,cy.c]<;>rfl)) (JF hΓ (fun bO h=>?_) (by have:=(dS.sl (hr _ (aC (i:=0) rfl))).1;simpa using this) aB 0 (List.replicate ((aB.map aP.c).length:Int).toNat (⟨(⟨([]:Bytes),[]⟩:aE),[]⟩:aP)) rfl h);have h:=aG h;subst h;exact aU.ret hΓ
def um(aB:aS):Option aS:=(some aB)
theorem LD{aB:aS}{r:aS}(h:um aB=some r):Good prog 284 [D.agg (aS.c aB)] (D.agg [D.str r.var,D.str r.value]):=by
 refine gd func284 [[none,none]] 11 fun hr Γ hΓ=>?_
 rw[um]at h;have h:=aG h;subst h;exact aU.ret hΓ
def oR(aB:aT)(k1:aT->Option aT):aT->Nat->aT->Option aT
 | [],i1,bC=>(k1 bC)
 |bD::bn,i1,bC=>((um bD).bind fun nw=>(bif decide (i1<(bC.map aS.c).length)then(((bC)[i1]?).bind fun x44=>(oR aB k1 bn (i1+1) (bC.set i1 nw)))else none))
def vu(aB:aT):Option aT:=(bif CZ ((aB.map aS.c).length:Int) 32 then(oR aB (fun(bO:aT)=>(some bO)) aB 0 (List.replicate ((aB.map aS.c).length:Int).toNat (⟨([]:Bytes),([]:Bytes)⟩:aS)))else none)
def yX(aB:aT)(W0:List aR)(cS:Int):St:=⟨[(0,D.sl (aB.map aS.c)),(3,D.acc 0),(4,D.int .i64 cS)],[Ob.row .uq 152 2 W0]⟩
theorem LC(hΓ:Γ.nt=23){aB:aT}{r:aT}{k1:aT->Option aT}(cX:∀(bO:aT),k1 bO=some r->Ax Γ N f273 (.q [[some (152,2)]] (D.fr 152 2 (r.map aS.c))) [1,1,1] ⟨[(3,D.acc 0)],[Ob.row .uq 152 2 (bO.map aS.c)]⟩)(hm1:aB.length<=maxLen):∀(rest:aT) (i1:Nat) (bC:aT),aB.drop i1=rest->oR aB k1 rest i1 bC=some r->Ar Γ N f273 (.q [[some (152,2)]] (D.fr 152 2 (r.map aS.c))) [1,1,0,1,0] (rest.length+1) (yX aB (bC.map aS.c) (i1:Int)):=by
 intro rest
 induction rest with
 |nil=>
  intro i1 bC aq h;rw[oR]at h;refine aM fun N1 bu bq=>?_
  exact((aU.ge aS.c aq).a [.hl 0 [3] [0]]).ex hΓ bu (cX bC h)
 |cons bD bn ih1=>
  intro i1 bC aq h;rw[oR]at h;refine aM fun N1 bu bq=>?_
  obtain⟨nw,h42,h⟩:=aD h;obtain⟨h43,h⟩:=bX h;obtain⟨x44,h45,h⟩:=aD h;exact((((((aU.lt aS.c aq).l (ax aS.c 2 (dc aq) rfl)).g (LD h42)).i (zJ 2 h43)).w (show(bC.map aS.c)[i1]?=some [D.str x44.var,D.str x44.value]from dB aS.c h45)).a [.row [D.str x44.var,D.str x44.value],.cn [0,3,4] [0]]).cs hΓ bq (yX aB ((bC.map aS.c).set i1 [D.str nw.var,D.str nw.value]) (IntKind.i64.wrap ((i1:Int)+1))) (by first| (simp only[iS aq hm1,mA]<;>rfl)| (simp only[iS aq hm1,mA,aE.c,aS.c,aN.c,Action.c,aO.c,aJ.c,cx.c,aP.c,Node.c,aF.c,cy.c]<;>rfl)) (ih1 (i1+1) (bC.set i1 nw) (dn aq) h)
theorem JJ{aB:aT}{r:aT}(h:vu aB=some r):Good prog 273 [D.sl (aB.map aS.c)] (D.fr 152 2 (r.map aS.c)):=by
 refine gd func273 [[some (152,2)]] 23 fun hr Γ hΓ=>?_
 rw[vu]at h;obtain⟨h1,h⟩:=bX h;refine((aU.w (xO h1)).a [.cn [0,3,4] [0]]).Wq hΓ (yX aB (List.replicate ((aB.map aS.c).length:Int).toNat [D.str ([]),D.str ([])]) 0) (by first| (simp only[mA]<;>rfl)| (simp only[mA,aE.c,aS.c,aN.c,Action.c,aO.c,aJ.c,cx.c,aP.c,Node.c,aF.c,cy.c]<;>rfl)) (LC hΓ (fun bO h=>?_) (by have:=(dS.sl (hr _ (aC (i:=0) rfl))).1;simpa using this) aB 0 (List.replicate ((aB.map aS.c).length:Int).toNat (⟨([]:Bytes),([]:Bytes)⟩:aS)) rfl h);have h:=aG h;subst h;exact aU.ret hΓ
def tC(aB:aJ):Option aJ:=((qA aB.facts).bind fun y1=>((vu aB.bind).bind fun y3=>(some (⟨y1,y3⟩:aJ))))
theorem JM{aB:aJ}{r:aJ}(h:tC aB=some r):Good prog 243 [D.agg (aJ.c aB)] (D.agg [D.fr 53 2 (r.facts.map aE.c),D.fr 152 2 (r.bind.map aS.c)]):=by
 refine gd func243 [[some (53,2),some (152,2)]] 13 fun hr Γ hΓ=>?_
 rw[tC]at h;obtain⟨y1,h2,h⟩:=aD h;obtain⟨y3,h4,h⟩:=aD h;cases h;exact((aU.g (wj h2)).g (JJ h4)).ret hΓ
def nJ(aB:af)(k1:af->Option af):af->Nat->af->Option af
 | [],i1,bC=>(k1 bC)
 |bD::bn,i1,bC=>((tC bD).bind fun nw=>(bif decide (i1<(bC.map aJ.c).length)then(((bC)[i1]?).bind fun x44=>(nJ aB k1 bn (i1+1) (bC.set i1 nw)))else none))
def uI(aB:af):Option af:=(bif CZ ((aB.map aJ.c).length:Int) 48 then(nJ aB (fun(bO:af)=>(some bO)) aB 0 (List.replicate ((aB.map aJ.c).length:Int).toNat (⟨[],[]⟩:aJ)))else none)
def xd(aB:af)(W0:List aR)(cS:Int):St:=⟨[(0,D.sl (aB.map aJ.c)),(3,D.acc 0),(4,D.int .i64 cS)],[Ob.row .uq 124 2 W0]⟩
theorem JL(hΓ:Γ.nt=23){aB:af}{r:af}{k1:af->Option af}(cX:∀(bO:af),k1 bO=some r->Ax Γ N f181 (.q [[some (124,2)]] (D.fr 124 2 (r.map aJ.c))) [1,1,1] ⟨[(3,D.acc 0)],[Ob.row .uq 124 2 (bO.map aJ.c)]⟩)(hm1:aB.length<=maxLen):∀(rest:af) (i1:Nat) (bC:af),aB.drop i1=rest->nJ aB k1 rest i1 bC=some r->Ar Γ N f181 (.q [[some (124,2)]] (D.fr 124 2 (r.map aJ.c))) [1,1,0,1,0] (rest.length+1) (xd aB (bC.map aJ.c) (i1:Int)):=by
 intro rest
 induction rest with
 |nil=>
  intro i1 bC aq h;rw[nJ]at h;refine aM fun N1 bu bq=>?_
  exact((aU.ge aJ.c aq).a [.hl 0 [3] [0]]).ex hΓ bu (cX bC h)
 |cons bD bn ih1=>
  intro i1 bC aq h;rw[nJ]at h;refine aM fun N1 bu bq=>?_
  obtain⟨nw,h42,h⟩:=aD h;obtain⟨h43,h⟩:=bX h;obtain⟨x44,h45,h⟩:=aD h;exact((((((aU.lt aJ.c aq).l (ax aJ.c 2 (dc aq) rfl)).g (JM h42)).i (zJ 2 h43)).w (show(bC.map aJ.c)[i1]?=some [D.sl (x44.facts.map aE.c),D.sl (x44.bind.map aS.c)]from dB aJ.c h45)).a [.row [D.sl (x44.facts.map aE.c),D.sl (x44.bind.map aS.c)],.cn [0,3,4] [0]]).cs hΓ bq (xd aB ((bC.map aJ.c).set i1 [D.sl (nw.facts.map aE.c),D.sl (nw.bind.map aS.c)]) (IntKind.i64.wrap ((i1:Int)+1))) (by first| (simp only[iS aq hm1,mA]<;>rfl)| (simp only[iS aq hm1,mA,aE.c,aS.c,aN.c,Action.c,aO.c,aJ.c,cx.c,aP.c,Node.c,aF.c,cy.c]<;>rfl)) (ih1 (i1+1) (bC.set i1 nw) (dn aq) h)
theorem HA{aB:af}{r:af}(h:uI aB=some r):Good prog 181 [D.sl (aB.map aJ.c)] (D.fr 124 2 (r.map aJ.c)):=by
 refine gd func181 [[some (124,2)]] 23 fun hr Γ hΓ=>?_
 rw[uI]at h;obtain⟨h1,h⟩:=bX h;refine((aU.w (xO h1)).a [.cn [0,3,4] [0]]).Wq hΓ (xd aB (List.replicate ((aB.map aJ.c).length:Int).toNat [D.sl ([]),D.sl ([])]) 0) (by first| (simp only[mA]<;>rfl)| (simp only[mA,aE.c,aS.c,aN.c,Action.c,aO.c,aJ.c,cx.c,aP.c,Node.c,aF.c,cy.c]<;>rfl)) (JL hΓ (fun bO h=>?_) (by have:=(dS.sl (hr _ (aC (i:=0) rfl))).1;simpa using this) aB 0 (List.replicate ((aB.map aJ.c).length:Int).toNat (⟨[],[]⟩:aJ)) rfl h);have h:=aG h;subst h;exact aU.ret hΓ
def ul(aB:Node):Option Node:=((rO aB.cond).bind fun y1=>((uI aB.tokens).bind fun y3=>(some (⟨aB.parent,y1,aB.cP,y3⟩:Node))))
theorem LB{aB:Node}{r:Node}(h:ul aB=some r):Good prog 108 [D.agg (Node.c aB)] (D.agg [D.int .i64 r.parent,D.int .i64 r.cond.kind,D.str r.cond.pat.rel,D.fr 9 1 (r.cond.pat.args.map tx),D.str r.cond.left,D.str r.cond.right,D.int .i64 r.cP,D.fr 124 2 (r.tokens.map aJ.c)]):=by
 refine gd func108 [[none,none,none,some (9,1),none,none,none,some (124,2)]] 19 fun hr Γ hΓ=>?_
 rw[ul]at h;obtain⟨y1,h2,h⟩:=aD h;obtain⟨y3,h4,h⟩:=aD h;cases h;exact((aU.g (Bo h2)).g (HA h4)).ret hΓ
def oQ(aB:az)(k1:az->Option az):az->Nat->az->Option az
 | [],i1,bC=>(k1 bC)
 |bD::bn,i1,bC=>((ul bD).bind fun nw=>(bif decide (i1<(bC.map Node.c).length)then(((bC)[i1]?).bind fun x44=>(oQ aB k1 bn (i1+1) (bC.set i1 nw)))else none))
def vr(aB:az):Option az:=(bif CZ ((aB.map Node.c).length:Int) 120 then(oQ aB (fun(bO:az)=>(some bO)) aB 0 (List.replicate ((aB.map Node.c).length:Int).toNat (⟨(0:Int),(⟨(0:Int),(⟨([]:Bytes),[]⟩:aE),([]:Bytes),([]:Bytes)⟩:aN),(0:Int),[]⟩:Node)))else none)
def yW(aB:az)(W0:List aR)(cS:Int):St:=⟨[(0,D.sl (aB.map Node.c)),(3,D.acc 0),(4,D.int .i64 cS)],[Ob.row .uq 118 8 W0]⟩
theorem LA(hΓ:Γ.nt=23){aB:az}{r:az}{k1:az->Option az}(cX:∀(bO:az),k1 bO=some r->Ax Γ N f52 (.q [[some (118,8)]] (D.fr 118 8 (r.map Node.c))) [1,1,1] ⟨[(3,D.acc 0)],[Ob.row .uq 118 8 (bO.map Node.c)]⟩)(hm1:aB.length<=maxLen):∀(rest:az) (i1:Nat) (bC:az),aB.drop i1=rest->oQ aB k1 rest i1 bC=some r->Ar Γ N f52 (.q [[some (118,8)]] (D.fr 118 8 (r.map Node.c))) [1,1,0,1,0] (rest.length+1) (yW aB (bC.map Node.c) (i1:Int)):=by
 intro rest
 induction rest with
 |nil=>
  intro i1 bC aq h;rw[oQ]at h;refine aM fun N1 bu bq=>?_
  exact((aU.ge Node.c aq).a [.hl 0 [3] [0]]).ex hΓ bu (cX bC h)
 |cons bD bn ih1=>
  intro i1 bC aq h;rw[oQ]at h;refine aM fun N1 bu bq=>?_
  obtain⟨nw,h42,h⟩:=aD h;obtain⟨h43,h⟩:=bX h;obtain⟨x44,h45,h⟩:=aD h;exact((((((aU.lt Node.c aq).l (ax Node.c 8 (dc aq) rfl)).g (LB h42)).i (zJ 8 h43)).w (show(bC.map Node.c)[i1]?=some [D.int .i64 x44.parent,D.int .i64 x44.cond.kind,D.str x44.cond.pat.rel,D.sl (x44.cond.pat.args.map tx),D.str x44.cond.left,D.str x44.cond.right,D.int .i64 x44.cP,D.sl (x44.tokens.map aJ.c)]from dB Node.c h45)).a [.row [D.int .i64 x44.parent,D.int .i64 x44.cond.kind,D.str x44.cond.pat.rel,D.sl (x44.cond.pat.args.map tx),D.str x44.cond.left,D.str x44.cond.right,D.int .i64 x44.cP,D.sl (x44.tokens.map aJ.c)],.cn [0,3,4] [0]]).cs hΓ bq (yW aB ((bC.map Node.c).set i1 [D.int .i64 nw.parent,D.int .i64 nw.cond.kind,D.str nw.cond.pat.rel,D.sl (nw.cond.pat.args.map tx),D.str nw.cond.left,D.str nw.cond.right,D.int .i64 nw.cP,D.sl (nw.tokens.map aJ.c)]) (IntKind.i64.wrap ((i1:Int)+1))) (by first| (simp only[iS aq hm1,mA]<;>rfl)| (simp only[iS aq hm1,mA,aE.c,aS.c,aN.c,Action.c,aO.c,aJ.c,cx.c,aP.c,Node.c,aF.c,cy.c]<;>rfl)) (ih1 (i1+1) (bC.set i1 nw) (dn aq) h)
theorem JI{aB:az}{r:az}(h:vr aB=some r):Good prog 52 [D.sl (aB.map Node.c)] (D.fr 118 8 (r.map Node.c)):=by
 refine gd func52 [[some (118,8)]] 23 fun hr Γ hΓ=>?_
 rw[vr]at h;obtain⟨h1,h⟩:=bX h;refine((aU.w (xO h1)).a [.cn [0,3,4] [0]]).Wq hΓ (yW aB (List.replicate ((aB.map Node.c).length:Int).toNat [D.int .i64 0,D.int .i64 0,D.str ([]),D.sl ([]),D.str ([]),D.str ([]),D.int .i64 0,D.sl ([])]) 0) (by first| (simp only[mA]<;>rfl)| (simp only[mA,aE.c,aS.c,aN.c,Action.c,aO.c,aJ.c,cx.c,aP.c,Node.c,aF.c,cy.c]<;>rfl)) (LA hΓ (fun bO h=>?_) (by have:=(dS.sl (hr _ (aC (i:=0) rfl))).1;simpa using this) aB 0 (List.replicate ((aB.map Node.c).length:Int).toNat (⟨(0:Int),(⟨(0:Int),(⟨([]:Bytes),[]⟩:aE),([]:Bytes),([]:Bytes)⟩:aN),(0:Int),[]⟩:Node)) rfl h);have h:=aG h;subst h;exact aU.ret hΓ
def kw(aB:aF):Option aF:=((vv aB.rules).bind fun y1=>((xE aB.ends).bind fun y3=>((uH aB.ay).bind fun y5=>((vr aB.nodes).bind fun y7=>((qA aB.facts).bind fun y9=>(some (⟨y1,y3,y5,y7,y9,aB.cK⟩:aF)))))))
theorem qP{aB:aF}{r:aF}(h:kw aB=some r):Good prog 14 [D.agg (aF.c aB)] (D.agg [D.fr 105 4 (r.rules.map aO.c),D.fr 3 1 (r.ends.map dZ),D.fr 111 3 (r.ay.map aP.c),D.fr 118 8 (r.nodes.map Node.c),D.fr 53 2 (r.facts.map aE.c),D.int .i64 r.cK]):=by
 refine gd func14 [[some (105,4),some (3,1),some (111,3),some (118,8),some (53,2),none]] 28 fun hr Γ hΓ=>?_
 rw[kw]at h;obtain⟨y1,h2,h⟩:=aD h;obtain⟨y3,h4,h⟩:=aD h;obtain⟨y5,h6,h⟩:=aD h;obtain⟨y7,h8,h⟩:=aD h;obtain⟨y9,h10,h⟩:=aD h;cases h;exact(((((aU.g (JK h2)).g (L9 h4)).g (H8 h6)).g (JI h8)).g (wj h10)).ret hΓ
end Go.Cx
namespace Go.Cx
open Go.RowKit Go.Proofs Tryz
set_option maxRecDepth 100000
variable{Γ:vP}{N:Nat->St->Prop}
def mM(aB:aI)(aV:aI)(k1:Option Bool):aI->Nat->Option Bool
 | [],i1=>(k1)
 |bD::bn,i1=>((mC aV (i1:Int)).bind fun x22=>(bif !((bD:Bytes)==x22)then(some false)else(mM aB aV k1 bn (i1+1))))
def pU(aB:aI)(aV:aI):Option Bool:=(bif (((aB.map tx).length:Int):Int) != ((aV.map tx).length:Int)then(some false)else(mM aB aV (some true) aB 0))
def Iv(aB:aI)(aV:aI)(cS:Int):St:=⟨[(0,D.sl (aB.map tx)),(1,D.sl (aV.map tx)),(5,D.int .i64 cS)],[]⟩
theorem Gd(hΓ:Γ.nt=26){aB:aI}{aV:aI}{r:Bool}{k1:Option Bool}(cX:k1=some r->Ax Γ N f74 (.q [[none]] (D.bool r)) [1,1,1] ⟨[],[]⟩)(hm1:aB.length<=maxLen):∀(rest:aI) (i1:Nat),aB.drop i1=rest->mM aB aV k1 rest i1=some r->Ar Γ N f74 (.q [[none]] (D.bool r)) [1,1,0,1,0] (rest.length+1) (Iv aB aV (i1:Int)):=by
 intro rest
 induction rest with
 |nil=>
  intro i1 aq h;rw[mM]at h;refine aM fun N1 bu bq=>?_
  exact((aU.ge tx aq).a [.hl 0 [] []]).ex hΓ bu (cX h)
 |cons bD bn ih1=>
  intro i1 aq h;rw[mM]at h;refine aM fun N1 bu bq=>?_
  obtain⟨x22,h23,h⟩:=aD h;have dJ:=((((aU.lt tx aq).a [.n 8]).l (ax tx 1 (dc aq) rfl)).l (dV tx 1 h23 rfl))
  obtain⟨h24,h⟩|⟨h24,h⟩:=aL h
  ·have h:=aG h;subst h;exact(dJ.b h24).ret hΓ
  ·exact((dJ.b h24).a [.cn [0,1,5] []]).ct hΓ bq (iS aq hm1) (ih1 (i1+1) (dn aq) h)
theorem yy{aB:aI}{aV:aI}{r:Bool}(h:pU aB aV=some r):Good prog 74 [D.sl (aB.map tx),D.sl (aV.map tx)] (D.bool r):=by
 refine gd func74 [[none]] 26 fun hr Γ hΓ=>?_
 rw[pU]at h;obtain⟨h1,h⟩|⟨h1,h⟩:=aL h
 ·have h:=aG h;subst h;exact(aU.b h1).ret hΓ
 ·refine((aU.b h1).a [.cn [0,1,5] []]).lp hΓ (Gd hΓ (fun h=>?_) (by have:=(dS.sl (hr _ (aC (i:=0) rfl))).1;simpa using this) aB 0 rfl h);have h:=aG h;subst h;exact aU.ret hΓ
def n9(aB:aE)(aV:aE):Option Bool:=(bif !((aB.rel:Bytes)==aV.rel)then(some false)else((pU aB.args aV.args).bind fun y2=>(bif !(y2)then(some false)else(some true))))
theorem qO{aB:aE}{aV:aE}{r:Bool}(h:n9 aB aV=some r):Good prog 186 [D.agg (aE.c aB),D.agg (aE.c aV)] (D.bool r):=by
 refine gd func186 [[none]] 16 fun hr Γ hΓ=>?_
 rw[n9]at h;obtain⟨h1,h⟩|⟨h1,h⟩:=aL h
 ·have h:=aG h;subst h;exact(aU.b h1).ret hΓ
 ·obtain⟨y2,h3,h⟩:=aD h;have jz:=((aU.b h1).g (yy h3))
  obtain⟨h4,h⟩|⟨h4,h⟩:=aL h
  ·have h:=aG h;subst h;exact(jz.b h4).ret hΓ
  ·have h:=aG h;subst h;exact(jz.b h4).ret hΓ
def rK(aB:aN)(aV:aN):Option Bool:=(bif (aB.kind:Int) != aV.kind then(some false)else((n9 aB.pat aV.pat).bind fun y2=>(bif !(y2)then(some false)else(bif !((aB.left:Bytes)==aV.left)then(some false)else(bif !((aB.right:Bytes)==aV.right)then(some false)else(some true))))))
theorem Bl{aB:aN}{aV:aN}{r:Bool}(h:rK aB aV=some r):Good prog 187 [D.agg (aN.c aB),D.agg (aN.c aV)] (D.bool r):=by
 refine gd func187 [[none]] 26 fun hr Γ hΓ=>?_
 rw[rK]at h;obtain⟨h1,h⟩|⟨h1,h⟩:=aL h
 ·have h:=aG h;subst h;exact(aU.b h1).ret hΓ
 ·obtain⟨y2,h3,h⟩:=aD h;have jz:=((aU.b h1).g (qO h3))
  obtain⟨h4,h⟩|⟨h4,h⟩:=aL h
  ·have h:=aG h;subst h;exact(jz.b h4).ret hΓ
  ·obtain⟨h5,h⟩|⟨h5,h⟩:=aL h
   ·have h:=aG h;subst h;exact((jz.b h4).b h5).ret hΓ
   ·have dJ:=((jz.b h4).b h5)
    obtain⟨h6,h⟩|⟨h6,h⟩:=aL h
    ·have h:=aG h;subst h;exact(dJ.b h6).ret hΓ
    ·have h:=aG h;subst h;exact(dJ.b h6).ret hΓ
def oD(aB:aj)(aV:aj)(k1:Option Bool):aj->Nat->Option Bool
 | [],i1=>(k1)
 |bD::bn,i1=>((mC aV (i1:Int)).bind fun x30=>((rK bD x30).bind fun Dt=>(bif !(Dt)then(some false)else(oD aB aV k1 bn (i1+1)))))
def vg(aB:aj)(aV:aj):Option Bool:=(bif (((aB.map aN.c).length:Int):Int) != ((aV.map aN.c).length:Int)then(some false)else(oD aB aV (some true) aB 0))
def MU(aB:aj)(aV:aj)(cS:Int):St:=⟨[(0,D.sl (aB.map aN.c)),(1,D.sl (aV.map aN.c)),(5,D.int .i64 cS)],[]⟩
theorem Kh(hΓ:Γ.nt=27){aB:aj}{aV:aj}{r:Bool}{k1:Option Bool}(cX:k1=some r->Ax Γ N f146 (.q [[none]] (D.bool r)) [1,1,1] ⟨[],[]⟩)(hm1:aB.length<=maxLen):∀(rest:aj) (i1:Nat),aB.drop i1=rest->oD aB aV k1 rest i1=some r->Ar Γ N f146 (.q [[none]] (D.bool r)) [1,1,0,1,0] (rest.length+1) (MU aB aV (i1:Int)):=by
 intro rest
 induction rest with
 |nil=>
  intro i1 aq h;rw[oD]at h;refine aM fun N1 bu bq=>?_
  exact((aU.ge aN.c aq).a [.hl 0 [] []]).ex hΓ bu (cX h)
 |cons bD bn ih1=>
  intro i1 aq h;rw[oD]at h;refine aM fun N1 bu bq=>?_
  obtain⟨x30,h31,h⟩:=aD h;obtain⟨Dt,h33,h⟩:=aD h;have dJ:=(((((aU.lt aN.c aq).a [.n 8]).l (ax aN.c 5 (dc aq) rfl)).l (dV aN.c 5 h31 rfl)).g (Bl h33))
  obtain⟨h34,h⟩|⟨h34,h⟩:=aL h
  ·have h:=aG h;subst h;exact(dJ.b h34).ret hΓ
  ·exact((dJ.b h34).a [.cn [0,1,5] []]).ct hΓ bq (iS aq hm1) (ih1 (i1+1) (dn aq) h)
theorem Is{aB:aj}{aV:aj}{r:Bool}(h:vg aB aV=some r):Good prog 146 [D.sl (aB.map aN.c),D.sl (aV.map aN.c)] (D.bool r):=by
 refine gd func146 [[none]] 27 fun hr Γ hΓ=>?_
 rw[vg]at h;obtain⟨h1,h⟩|⟨h1,h⟩:=aL h
 ·have h:=aG h;subst h;exact(aU.b h1).ret hΓ
 ·refine((aU.b h1).a [.cn [0,1,5] []]).lp hΓ (Kh hΓ (fun h=>?_) (by have:=(dS.sl (hr _ (aC (i:=0) rfl))).1;simpa using this) aB 0 rfl h);have h:=aG h;subst h;exact aU.ret hΓ
def qc(aB:Action)(aV:Action):Option Bool:=(bif (aB.kind:Int) != aV.kind then(some false)else((n9 aB.pat aV.pat).bind fun y2=>(bif !(y2)then(some false)else(some true))))
theorem Gb{aB:Action}{aV:Action}{r:Bool}(h:qc aB aV=some r):Good prog 223 [D.agg (Action.c aB),D.agg (Action.c aV)] (D.bool r):=by
 refine gd func223 [[none]] 16 fun hr Γ hΓ=>?_
 rw[qc]at h;obtain⟨h1,h⟩|⟨h1,h⟩:=aL h
 ·have h:=aG h;subst h;exact(aU.b h1).ret hΓ
 ·obtain⟨y2,h3,h⟩:=aD h;have jz:=((aU.b h1).g (qO h3))
  obtain⟨h4,h⟩|⟨h4,h⟩:=aL h
  ·have h:=aG h;subst h;exact(jz.b h4).ret hΓ
  ·have h:=aG h;subst h;exact(jz.b h4).ret hΓ
def mL(aB:bw)(aV:bw)(k1:Option Bool):bw->Nat->Option Bool
 | [],i1=>(k1)
 |bD::bn,i1=>((mC aV (i1:Int)).bind fun x30=>((qc bD x30).bind fun Dt=>(bif !(Dt)then(some false)else(mL aB aV k1 bn (i1+1)))))
def sU(aB:bw)(aV:bw):Option Bool:=(bif (((aB.map Action.c).length:Int):Int) != ((aV.map Action.c).length:Int)then(some false)else(mL aB aV (some true) aB 0))
def Ip(aB:bw)(aV:bw)(cS:Int):St:=⟨[(0,D.sl (aB.map Action.c)),(1,D.sl (aV.map Action.c)),(5,D.int .i64 cS)],[]⟩
theorem Ga(hΓ:Γ.nt=27){aB:bw}{aV:bw}{r:Bool}{k1:Option Bool}(cX:k1=some r->Ax Γ N f147 (.q [[none]] (D.bool r)) [1,1,1] ⟨[],[]⟩)(hm1:aB.length<=maxLen):∀(rest:bw) (i1:Nat),aB.drop i1=rest->mL aB aV k1 rest i1=some r->Ar Γ N f147 (.q [[none]] (D.bool r)) [1,1,0,1,0] (rest.length+1) (Ip aB aV (i1:Int)):=by
 intro rest
 induction rest with
 |nil=>
  intro i1 aq h;rw[mL]at h;refine aM fun N1 bu bq=>?_
  exact((aU.ge Action.c aq).a [.hl 0 [] []]).ex hΓ bu (cX h)
 |cons bD bn ih1=>
  intro i1 aq h;rw[mL]at h;refine aM fun N1 bu bq=>?_
  obtain⟨x30,h31,h⟩:=aD h;obtain⟨Dt,h33,h⟩:=aD h;have dJ:=(((((aU.lt Action.c aq).a [.n 8]).l (ax Action.c 3 (dc aq) rfl)).l (dV Action.c 3 h31 rfl)).g (Gb h33))
  obtain⟨h34,h⟩|⟨h34,h⟩:=aL h
  ·have h:=aG h;subst h;exact(dJ.b h34).ret hΓ
  ·exact((dJ.b h34).a [.cn [0,1,5] []]).ct hΓ bq (iS aq hm1) (ih1 (i1+1) (dn aq) h)
theorem FK{aB:bw}{aV:bw}{r:Bool}(h:sU aB aV=some r):Good prog 147 [D.sl (aB.map Action.c),D.sl (aV.map Action.c)] (D.bool r):=by
 refine gd func147 [[none]] 27 fun hr Γ hΓ=>?_
 rw[sU]at h;obtain⟨h1,h⟩|⟨h1,h⟩:=aL h
 ·have h:=aG h;subst h;exact(aU.b h1).ret hΓ
 ·refine((aU.b h1).a [.cn [0,1,5] []]).lp hΓ (Ga hΓ (fun h=>?_) (by have:=(dS.sl (hr _ (aC (i:=0) rfl))).1;simpa using this) aB 0 rfl h);have h:=aG h;subst h;exact aU.ret hΓ
def ug(aB:aO)(aV:aO):Option Bool:=(bif !((aB.name:Bytes)==aV.name)then(some false)else(bif (aB.prio:Int) != aV.prio then(some false)else((vg aB.conds aV.conds).bind fun y3=>(bif !(y3)then(some false)else((sU aB.cr aV.cr).bind fun y6=>(bif !(y6)then(some false)else(some true)))))))
theorem Kp{aB:aO}{aV:aO}{r:Bool}(h:ug aB aV=some r):Good prog 84 [D.agg (aO.c aB),D.agg (aO.c aV)] (D.bool r):=by
 refine gd func84 [[none]] 27 fun hr Γ hΓ=>?_
 rw[ug]at h;obtain⟨h1,h⟩|⟨h1,h⟩:=aL h
 ·have h:=aG h;subst h;exact(aU.b h1).ret hΓ
 ·obtain⟨h2,h⟩|⟨h2,h⟩:=aL h
  ·have h:=aG h;subst h;exact((aU.b h1).b h2).ret hΓ
  ·obtain⟨y3,h4,h⟩:=aD h;have jz:=(((aU.b h1).b h2).g (Is h4))
   obtain⟨h5,h⟩|⟨h5,h⟩:=aL h
   ·have h:=aG h;subst h;exact(jz.b h5).ret hΓ
   ·obtain⟨y6,h7,h⟩:=aD h;have dJ:=((jz.b h5).g (FK h7))
    obtain⟨h8,h⟩|⟨h8,h⟩:=aL h
    ·have h:=aG h;subst h;exact(dJ.b h8).ret hΓ
    ·have h:=aG h;subst h;exact(dJ.b h8).ret hΓ
def oI(aB:au)(aV:au)(k1:Option Bool):au->Nat->Option Bool
 | [],i1=>(k1)
 |bD::bn,i1=>((mC aV (i1:Int)).bind fun x30=>((ug bD x30).bind fun Dt=>(bif !(Dt)then(some false)else(oI aB aV k1 bn (i1+1)))))
def vl(aB:au)(aV:au):Option Bool:=(bif (((aB.map aO.c).length:Int):Int) != ((aV.map aO.c).length:Int)then(some false)else(oI aB aV (some true) aB 0))
def MZ(aB:au)(aV:au)(cS:Int):St:=⟨[(0,D.sl (aB.map aO.c)),(1,D.sl (aV.map aO.c)),(5,D.int .i64 cS)],[]⟩
theorem Ko(hΓ:Γ.nt=27){aB:au}{aV:au}{r:Bool}{k1:Option Bool}(cX:k1=some r->Ax Γ N f37 (.q [[none]] (D.bool r)) [1,1,1] ⟨[],[]⟩)(hm1:aB.length<=maxLen):∀(rest:au) (i1:Nat),aB.drop i1=rest->oI aB aV k1 rest i1=some r->Ar Γ N f37 (.q [[none]] (D.bool r)) [1,1,0,1,0] (rest.length+1) (MZ aB aV (i1:Int)):=by
 intro rest
 induction rest with
 |nil=>
  intro i1 aq h;rw[oI]at h;refine aM fun N1 bu bq=>?_
  exact((aU.ge aO.c aq).a [.hl 0 [] []]).ex hΓ bu (cX h)
 |cons bD bn ih1=>
  intro i1 aq h;rw[oI]at h;refine aM fun N1 bu bq=>?_
  obtain⟨x30,h31,h⟩:=aD h;obtain⟨Dt,h33,h⟩:=aD h;have dJ:=(((((aU.lt aO.c aq).a [.n 8]).l (ax aO.c 4 (dc aq) rfl)).l (dV aO.c 4 h31 rfl)).g (Kp h33))
  obtain⟨h34,h⟩|⟨h34,h⟩:=aL h
  ·have h:=aG h;subst h;exact(dJ.b h34).ret hΓ
  ·exact((dJ.b h34).a [.cn [0,1,5] []]).ct hΓ bq (iS aq hm1) (ih1 (i1+1) (dn aq) h)
theorem Ak{aB:au}{aV:au}{r:Bool}(h:vl aB aV=some r):Good prog 37 [D.sl (aB.map aO.c),D.sl (aV.map aO.c)] (D.bool r):=by
 refine gd func37 [[none]] 27 fun hr Γ hΓ=>?_
 rw[vl]at h;obtain⟨h1,h⟩|⟨h1,h⟩:=aL h
 ·have h:=aG h;subst h;exact(aU.b h1).ret hΓ
 ·refine((aU.b h1).a [.cn [0,1,5] []]).lp hΓ (Ko hΓ (fun h=>?_) (by have:=(dS.sl (hr _ (aC (i:=0) rfl))).1;simpa using this) aB 0 rfl h);have h:=aG h;subst h;exact aU.ret hΓ
def pT(aB:bJ)(aV:bJ)(k1:Option Bool):bJ->Nat->Option Bool
 | [],i1=>(k1)
 |bD::bn,i1=>((mC aV (i1:Int)).bind fun x22=>(bif (bD:Int) != x22 then(some false)else(pT aB aV k1 bn (i1+1))))
def xC(aB:bJ)(aV:bJ):Option Bool:=(bif (((aB.map dZ).length:Int):Int) != ((aV.map dZ).length:Int)then(some false)else(pT aB aV (some true) aB 0))
def O5(aB:bJ)(aV:bJ)(cS:Int):St:=⟨[(0,D.sl (aB.map dZ)),(1,D.sl (aV.map dZ)),(5,D.int .i64 cS)],[]⟩
theorem MW(hΓ:Γ.nt=26){aB:bJ}{aV:bJ}{r:Bool}{k1:Option Bool}(cX:k1=some r->Ax Γ N f54 (.q [[none]] (D.bool r)) [1,1,1] ⟨[],[]⟩)(hm1:aB.length<=maxLen):∀(rest:bJ) (i1:Nat),aB.drop i1=rest->pT aB aV k1 rest i1=some r->Ar Γ N f54 (.q [[none]] (D.bool r)) [1,1,0,1,0] (rest.length+1) (O5 aB aV (i1:Int)):=by
 intro rest
 induction rest with
 |nil=>
  intro i1 aq h;rw[pT]at h;refine aM fun N1 bu bq=>?_
  exact((aU.ge dZ aq).a [.hl 0 [] []]).ex hΓ bu (cX h)
 |cons bD bn ih1=>
  intro i1 aq h;rw[pT]at h;refine aM fun N1 bu bq=>?_
  obtain⟨x22,h23,h⟩:=aD h;have dJ:=((((aU.lt dZ aq).a [.n 8]).l (ax dZ 1 (dc aq) rfl)).l (dV dZ 1 h23 rfl))
  obtain⟨h24,h⟩|⟨h24,h⟩:=aL h
  ·have h:=aG h;subst h;exact(dJ.b h24).ret hΓ
  ·exact((dJ.b h24).a [.cn [0,1,5] []]).ct hΓ bq (iS aq hm1) (ih1 (i1+1) (dn aq) h)
theorem Kj{aB:bJ}{aV:bJ}{r:Bool}(h:xC aB aV=some r):Good prog 54 [D.sl (aB.map dZ),D.sl (aV.map dZ)] (D.bool r):=by
 refine gd func54 [[none]] 26 fun hr Γ hΓ=>?_
 rw[xC]at h;obtain⟨h1,h⟩|⟨h1,h⟩:=aL h
 ·have h:=aG h;subst h;exact(aU.b h1).ret hΓ
 ·refine((aU.b h1).a [.cn [0,1,5] []]).lp hΓ (MW hΓ (fun h=>?_) (by have:=(dS.sl (hr _ (aC (i:=0) rfl))).1;simpa using this) aB 0 rfl h);have h:=aG h;subst h;exact aU.ret hΓ
def rL(aB:aE)(aV:aE):Option Bool:=(bif !((aB.rel:Bytes)==aV.rel)then(some false)else((pU aB.args aV.args).bind fun y2=>(bif !(y2)then(some false)else(some true))))
theorem Bm{aB:aE}{aV:aE}{r:Bool}(h:rL aB aV=some r):Good prog 27 [D.agg (aE.c aB),D.agg (aE.c aV)] (D.bool r):=by
 refine gd func27 [[none]] 16 fun hr Γ hΓ=>?_
 rw[rL]at h;obtain⟨h1,h⟩|⟨h1,h⟩:=aL h
 ·have h:=aG h;subst h;exact(aU.b h1).ret hΓ
 ·obtain⟨y2,h3,h⟩:=aD h;have jz:=((aU.b h1).g (yy h3))
  obtain⟨h4,h⟩|⟨h4,h⟩:=aL h
  ·have h:=aG h;subst h;exact(jz.b h4).ret hΓ
  ·have h:=aG h;subst h;exact(jz.b h4).ret hΓ
def oF(aB:aQ)(aV:aQ)(k1:Option Bool):aQ->Nat->Option Bool
 | [],i1=>(k1)
 |bD::bn,i1=>((mC aV (i1:Int)).bind fun x30=>((rL bD x30).bind fun Dt=>(bif !(Dt)then(some false)else(oF aB aV k1 bn (i1+1)))))
def py(aB:aQ)(aV:aQ):Option Bool:=(bif (((aB.map aE.c).length:Int):Int) != ((aV.map aE.c).length:Int)then(some false)else(oF aB aV (some true) aB 0))
def MV(aB:aQ)(aV:aQ)(cS:Int):St:=⟨[(0,D.sl (aB.map aE.c)),(1,D.sl (aV.map aE.c)),(5,D.int .i64 cS)],[]⟩
theorem Ki(hΓ:Γ.nt=27){aB:aQ}{aV:aQ}{r:Bool}{k1:Option Bool}(cX:k1=some r->Ax Γ N f18 (.q [[none]] (D.bool r)) [1,1,1] ⟨[],[]⟩)(hm1:aB.length<=maxLen):∀(rest:aQ) (i1:Nat),aB.drop i1=rest->oF aB aV k1 rest i1=some r->Ar Γ N f18 (.q [[none]] (D.bool r)) [1,1,0,1,0] (rest.length+1) (MV aB aV (i1:Int)):=by
 intro rest
 induction rest with
 |nil=>
  intro i1 aq h;rw[oF]at h;refine aM fun N1 bu bq=>?_
  exact((aU.ge aE.c aq).a [.hl 0 [] []]).ex hΓ bu (cX h)
 |cons bD bn ih1=>
  intro i1 aq h;rw[oF]at h;refine aM fun N1 bu bq=>?_
  obtain⟨x30,h31,h⟩:=aD h;obtain⟨Dt,h33,h⟩:=aD h;have dJ:=(((((aU.lt aE.c aq).a [.n 8]).l (ax aE.c 2 (dc aq) rfl)).l (dV aE.c 2 h31 rfl)).g (Bm h33))
  obtain⟨h34,h⟩|⟨h34,h⟩:=aL h
  ·have h:=aG h;subst h;exact(dJ.b h34).ret hΓ
  ·exact((dJ.b h34).a [.cn [0,1,5] []]).ct hΓ bq (iS aq hm1) (ih1 (i1+1) (dn aq) h)
theorem s8{aB:aQ}{aV:aQ}{r:Bool}(h:py aB aV=some r):Good prog 18 [D.sl (aB.map aE.c),D.sl (aV.map aE.c)] (D.bool r):=by
 refine gd func18 [[none]] 27 fun hr Γ hΓ=>?_
 rw[py]at h;obtain⟨h1,h⟩|⟨h1,h⟩:=aL h
 ·have h:=aG h;subst h;exact(aU.b h1).ret hΓ
 ·refine((aU.b h1).a [.cn [0,1,5] []]).lp hΓ (Ki hΓ (fun h=>?_) (by have:=(dS.sl (hr _ (aC (i:=0) rfl))).1;simpa using this) aB 0 rfl h);have h:=aG h;subst h;exact aU.ret hΓ
def sV(aB:aP)(aV:aP):Option Bool:=((n9 aB.shape aV.shape).bind fun y1=>(bif !(y1)then(some false)else((py aB.facts aV.facts).bind fun y4=>(bif !(y4)then(some false)else(some true)))))
theorem Ir{aB:aP}{aV:aP}{r:Bool}(h:sV aB aV=some r):Good prog 115 [D.agg (aP.c aB),D.agg (aP.c aV)] (D.bool r):=by
 refine gd func115 [[none]] 17 fun hr Γ hΓ=>?_
 rw[sV]at h;obtain⟨y1,h2,h⟩:=aD h;obtain⟨h3,h⟩|⟨h3,h⟩:=aL h
 ·have h:=aG h;subst h;exact((aU.g (qO h2)).b h3).ret hΓ
 ·obtain⟨y4,h5,h⟩:=aD h;have jz:=(((aU.g (qO h2)).b h3).g (s8 h5))
  obtain⟨h6,h⟩|⟨h6,h⟩:=aL h
  ·have h:=aG h;subst h;exact(jz.b h6).ret hΓ
  ·have h:=aG h;subst h;exact(jz.b h6).ret hΓ
def n8(aB:b8)(aV:b8)(k1:Option Bool):b8->Nat->Option Bool
 | [],i1=>(k1)
 |bD::bn,i1=>((mC aV (i1:Int)).bind fun x30=>((sV bD x30).bind fun Dt=>(bif !(Dt)then(some false)else(n8 aB aV k1 bn (i1+1)))))
def uB(aB:b8)(aV:b8):Option Bool:=(bif (((aB.map aP.c).length:Int):Int) != ((aV.map aP.c).length:Int)then(some false)else(n8 aB aV (some true) aB 0))
def Kg(aB:b8)(aV:b8)(cS:Int):St:=⟨[(0,D.sl (aB.map aP.c)),(1,D.sl (aV.map aP.c)),(5,D.int .i64 cS)],[]⟩
theorem Iq(hΓ:Γ.nt=27){aB:b8}{aV:b8}{r:Bool}{k1:Option Bool}(cX:k1=some r->Ax Γ N f55 (.q [[none]] (D.bool r)) [1,1,1] ⟨[],[]⟩)(hm1:aB.length<=maxLen):∀(rest:b8) (i1:Nat),aB.drop i1=rest->n8 aB aV k1 rest i1=some r->Ar Γ N f55 (.q [[none]] (D.bool r)) [1,1,0,1,0] (rest.length+1) (Kg aB aV (i1:Int)):=by
 intro rest
 induction rest with
 |nil=>
  intro i1 aq h;rw[n8]at h;refine aM fun N1 bu bq=>?_
  exact((aU.ge aP.c aq).a [.hl 0 [] []]).ex hΓ bu (cX h)
 |cons bD bn ih1=>
  intro i1 aq h;rw[n8]at h;refine aM fun N1 bu bq=>?_
  obtain⟨x30,h31,h⟩:=aD h;obtain⟨Dt,h33,h⟩:=aD h;have dJ:=(((((aU.lt aP.c aq).a [.n 8]).l (ax aP.c 3 (dc aq) rfl)).l (dV aP.c 3 h31 rfl)).g (Ir h33))
  obtain⟨h34,h⟩|⟨h34,h⟩:=aL h
  ·have h:=aG h;subst h;exact(dJ.b h34).ret hΓ
  ·exact((dJ.b h34).a [.cn [0,1,5] []]).ct hΓ bq (iS aq hm1) (ih1 (i1+1) (dn aq) h)
theorem Gc{aB:b8}{aV:b8}{r:Bool}(h:uB aB aV=some r):Good prog 55 [D.sl (aB.map aP.c),D.sl (aV.map aP.c)] (D.bool r):=by
 refine gd func55 [[none]] 27 fun hr Γ hΓ=>?_
 rw[uB]at h;obtain⟨h1,h⟩|⟨h1,h⟩:=aL h
 ·have h:=aG h;subst h;exact(aU.b h1).ret hΓ
 ·refine((aU.b h1).a [.cn [0,1,5] []]).lp hΓ (Iq hΓ (fun h=>?_) (by have:=(dS.sl (hr _ (aC (i:=0) rfl))).1;simpa using this) aB 0 rfl h);have h:=aG h;subst h;exact aU.ret hΓ
def uf(aB:aS)(aV:aS):Option Bool:=(bif !((aB.var:Bytes)==aV.var)then(some false)else(bif !((aB.value:Bytes)==aV.value)then(some false)else(some true)))
theorem Kn{aB:aS}{aV:aS}{r:Bool}(h:uf aB aV=some r):Good prog 195 [D.agg (aS.c aB),D.agg (aS.c aV)] (D.bool r):=by
 refine gd func195 [[none]] 15 fun hr Γ hΓ=>?_
 rw[uf]at h;obtain⟨h1,h⟩|⟨h1,h⟩:=aL h
 ·have h:=aG h;subst h;exact(aU.b h1).ret hΓ
 ·obtain⟨h2,h⟩|⟨h2,h⟩:=aL h
  ·have h:=aG h;subst h;exact((aU.b h1).b h2).ret hΓ
  ·have h:=aG h;subst h;exact((aU.b h1).b h2).ret hΓ
def oH(aB:aT)(aV:aT)(k1:Option Bool):aT->Nat->Option Bool
 | [],i1=>(k1)
 |bD::bn,i1=>((mC aV (i1:Int)).bind fun x30=>((uf bD x30).bind fun Dt=>(bif !(Dt)then(some false)else(oH aB aV k1 bn (i1+1)))))
def vi(aB:aT)(aV:aT):Option Bool:=(bif (((aB.map aS.c).length:Int):Int) != ((aV.map aS.c).length:Int)then(some false)else(oH aB aV (some true) aB 0))
def MY(aB:aT)(aV:aT)(cS:Int):St:=⟨[(0,D.sl (aB.map aS.c)),(1,D.sl (aV.map aS.c)),(5,D.int .i64 cS)],[]⟩
theorem Km(hΓ:Γ.nt=27){aB:aT}{aV:aT}{r:Bool}{k1:Option Bool}(cX:k1=some r->Ax Γ N f130 (.q [[none]] (D.bool r)) [1,1,1] ⟨[],[]⟩)(hm1:aB.length<=maxLen):∀(rest:aT) (i1:Nat),aB.drop i1=rest->oH aB aV k1 rest i1=some r->Ar Γ N f130 (.q [[none]] (D.bool r)) [1,1,0,1,0] (rest.length+1) (MY aB aV (i1:Int)):=by
 intro rest
 induction rest with
 |nil=>
  intro i1 aq h;rw[oH]at h;refine aM fun N1 bu bq=>?_
  exact((aU.ge aS.c aq).a [.hl 0 [] []]).ex hΓ bu (cX h)
 |cons bD bn ih1=>
  intro i1 aq h;rw[oH]at h;refine aM fun N1 bu bq=>?_
  obtain⟨x30,h31,h⟩:=aD h;obtain⟨Dt,h33,h⟩:=aD h;have dJ:=(((((aU.lt aS.c aq).a [.n 8]).l (ax aS.c 2 (dc aq) rfl)).l (dV aS.c 2 h31 rfl)).g (Kn h33))
  obtain⟨h34,h⟩|⟨h34,h⟩:=aL h
  ·have h:=aG h;subst h;exact(dJ.b h34).ret hΓ
  ·exact((dJ.b h34).a [.cn [0,1,5] []]).ct hΓ bq (iS aq hm1) (ih1 (i1+1) (dn aq) h)
theorem Iu{aB:aT}{aV:aT}{r:Bool}(h:vi aB aV=some r):Good prog 130 [D.sl (aB.map aS.c),D.sl (aV.map aS.c)] (D.bool r):=by
 refine gd func130 [[none]] 27 fun hr Γ hΓ=>?_
 rw[vi]at h;obtain⟨h1,h⟩|⟨h1,h⟩:=aL h
 ·have h:=aG h;subst h;exact(aU.b h1).ret hΓ
 ·refine((aU.b h1).a [.cn [0,1,5] []]).lp hΓ (Km hΓ (fun h=>?_) (by have:=(dS.sl (hr _ (aC (i:=0) rfl))).1;simpa using this) aB 0 rfl h);have h:=aG h;subst h;exact aU.ret hΓ
def sW(aB:aJ)(aV:aJ):Option Bool:=((py aB.facts aV.facts).bind fun y1=>(bif !(y1)then(some false)else((vi aB.bind aV.bind).bind fun y4=>(bif !(y4)then(some false)else(some true)))))
theorem Ix{aB:aJ}{aV:aJ}{r:Bool}(h:sW aB aV=some r):Good prog 245 [D.agg (aJ.c aB),D.agg (aJ.c aV)] (D.bool r):=by
 refine gd func245 [[none]] 17 fun hr Γ hΓ=>?_
 rw[sW]at h;obtain⟨y1,h2,h⟩:=aD h;obtain⟨h3,h⟩|⟨h3,h⟩:=aL h
 ·have h:=aG h;subst h;exact((aU.g (s8 h2)).b h3).ret hΓ
 ·obtain⟨y4,h5,h⟩:=aD h;have jz:=(((aU.g (s8 h2)).b h3).g (Iu h5))
  obtain⟨h6,h⟩|⟨h6,h⟩:=aL h
  ·have h:=aG h;subst h;exact(jz.b h6).ret hΓ
  ·have h:=aG h;subst h;exact(jz.b h6).ret hΓ
def nA(aB:af)(aV:af)(k1:Option Bool):af->Nat->Option Bool
 | [],i1=>(k1)
 |bD::bn,i1=>((mC aV (i1:Int)).bind fun x30=>((sW bD x30).bind fun Dt=>(bif !(Dt)then(some false)else(nA aB aV k1 bn (i1+1)))))
def uC(aB:af)(aV:af):Option Bool:=(bif (((aB.map aJ.c).length:Int):Int) != ((aV.map aJ.c).length:Int)then(some false)else(nA aB aV (some true) aB 0))
def Kq(aB:af)(aV:af)(cS:Int):St:=⟨[(0,D.sl (aB.map aJ.c)),(1,D.sl (aV.map aJ.c)),(5,D.int .i64 cS)],[]⟩
theorem Iw(hΓ:Γ.nt=27){aB:af}{aV:af}{r:Bool}{k1:Option Bool}(cX:k1=some r->Ax Γ N f188 (.q [[none]] (D.bool r)) [1,1,1] ⟨[],[]⟩)(hm1:aB.length<=maxLen):∀(rest:af) (i1:Nat),aB.drop i1=rest->nA aB aV k1 rest i1=some r->Ar Γ N f188 (.q [[none]] (D.bool r)) [1,1,0,1,0] (rest.length+1) (Kq aB aV (i1:Int)):=by
 intro rest
 induction rest with
 |nil=>
  intro i1 aq h;rw[nA]at h;refine aM fun N1 bu bq=>?_
  exact((aU.ge aJ.c aq).a [.hl 0 [] []]).ex hΓ bu (cX h)
 |cons bD bn ih1=>
  intro i1 aq h;rw[nA]at h;refine aM fun N1 bu bq=>?_
  obtain⟨x30,h31,h⟩:=aD h;obtain⟨Dt,h33,h⟩:=aD h;have dJ:=(((((aU.lt aJ.c aq).a [.n 8]).l (ax aJ.c 2 (dc aq) rfl)).l (dV aJ.c 2 h31 rfl)).g (Ix h33))
  obtain⟨h34,h⟩|⟨h34,h⟩:=aL h
  ·have h:=aG h;subst h;exact(dJ.b h34).ret hΓ
  ·exact((dJ.b h34).a [.cn [0,1,5] []]).ct hΓ bq (iS aq hm1) (ih1 (i1+1) (dn aq) h)
theorem Ge{aB:af}{aV:af}{r:Bool}(h:uC aB aV=some r):Good prog 188 [D.sl (aB.map aJ.c),D.sl (aV.map aJ.c)] (D.bool r):=by
 refine gd func188 [[none]] 27 fun hr Γ hΓ=>?_
 rw[uC]at h;obtain⟨h1,h⟩|⟨h1,h⟩:=aL h
 ·have h:=aG h;subst h;exact(aU.b h1).ret hΓ
 ·refine((aU.b h1).a [.cn [0,1,5] []]).lp hΓ (Iw hΓ (fun h=>?_) (by have:=(dS.sl (hr _ (aC (i:=0) rfl))).1;simpa using this) aB 0 rfl h);have h:=aG h;subst h;exact aU.ret hΓ
def ue(aB:Node)(aV:Node):Option Bool:=(bif (aB.parent:Int) != aV.parent then(some false)else((rK aB.cond aV.cond).bind fun y2=>(bif !(y2)then(some false)else(bif (aB.cP:Int) != aV.cP then(some false)else((uC aB.tokens aV.tokens).bind fun y6=>(bif !(y6)then(some false)else(some true)))))))
theorem Kl{aB:Node}{aV:Node}{r:Bool}(h:ue aB aV=some r):Good prog 116 [D.agg (Node.c aB),D.agg (Node.c aV)] (D.bool r):=by
 refine gd func116 [[none]] 27 fun hr Γ hΓ=>?_
 rw[ue]at h;obtain⟨h1,h⟩|⟨h1,h⟩:=aL h
 ·have h:=aG h;subst h;exact(aU.b h1).ret hΓ
 ·obtain⟨y2,h3,h⟩:=aD h;have jz:=((aU.b h1).g (Bl h3))
  obtain⟨h4,h⟩|⟨h4,h⟩:=aL h
  ·have h:=aG h;subst h;exact(jz.b h4).ret hΓ
  ·obtain⟨h5,h⟩|⟨h5,h⟩:=aL h
   ·have h:=aG h;subst h;exact((jz.b h4).b h5).ret hΓ
   ·obtain⟨y6,h7,h⟩:=aD h;have dJ:=(((jz.b h4).b h5).g (Ge h7))
    obtain⟨h8,h⟩|⟨h8,h⟩:=aL h
    ·have h:=aG h;subst h;exact(dJ.b h8).ret hΓ
    ·have h:=aG h;subst h;exact(dJ.b h8).ret hΓ
def oG(aB:az)(aV:az)(k1:Option Bool):az->Nat->Option Bool
 | [],i1=>(k1)
 |bD::bn,i1=>((mC aV (i1:Int)).bind fun x30=>((ue bD x30).bind fun Dt=>(bif !(Dt)then(some false)else(oG aB aV k1 bn (i1+1)))))
def vh(aB:az)(aV:az):Option Bool:=(bif (((aB.map Node.c).length:Int):Int) != ((aV.map Node.c).length:Int)then(some false)else(oG aB aV (some true) aB 0))
def MX(aB:az)(aV:az)(cS:Int):St:=⟨[(0,D.sl (aB.map Node.c)),(1,D.sl (aV.map Node.c)),(5,D.int .i64 cS)],[]⟩
theorem Kk(hΓ:Γ.nt=27){aB:az}{aV:az}{r:Bool}{k1:Option Bool}(cX:k1=some r->Ax Γ N f56 (.q [[none]] (D.bool r)) [1,1,1] ⟨[],[]⟩)(hm1:aB.length<=maxLen):∀(rest:az) (i1:Nat),aB.drop i1=rest->oG aB aV k1 rest i1=some r->Ar Γ N f56 (.q [[none]] (D.bool r)) [1,1,0,1,0] (rest.length+1) (MX aB aV (i1:Int)):=by
 intro rest
 induction rest with
 |nil=>
  intro i1 aq h;rw[oG]at h;refine aM fun N1 bu bq=>?_
  exact((aU.ge Node.c aq).a [.hl 0 [] []]).ex hΓ bu (cX h)
 |cons bD bn ih1=>
  intro i1 aq h;rw[oG]at h;refine aM fun N1 bu bq=>?_
  obtain⟨x30,h31,h⟩:=aD h;obtain⟨Dt,h33,h⟩:=aD h;have dJ:=(((((aU.lt Node.c aq).a [.n 8]).l (ax Node.c 8 (dc aq) rfl)).l (dV Node.c 8 h31 rfl)).g (Kl h33))
  obtain⟨h34,h⟩|⟨h34,h⟩:=aL h
  ·have h:=aG h;subst h;exact(dJ.b h34).ret hΓ
  ·exact((dJ.b h34).a [.cn [0,1,5] []]).ct hΓ bq (iS aq hm1) (ih1 (i1+1) (dn aq) h)
theorem It{aB:az}{aV:az}{r:Bool}(h:vh aB aV=some r):Good prog 56 [D.sl (aB.map Node.c),D.sl (aV.map Node.c)] (D.bool r):=by
 refine gd func56 [[none]] 27 fun hr Γ hΓ=>?_
 rw[vh]at h;obtain⟨h1,h⟩|⟨h1,h⟩:=aL h
 ·have h:=aG h;subst h;exact(aU.b h1).ret hΓ
 ·refine((aU.b h1).a [.cn [0,1,5] []]).lp hΓ (Kk hΓ (fun h=>?_) (by have:=(dS.sl (hr _ (aC (i:=0) rfl))).1;simpa using this) aB 0 rfl h);have h:=aG h;subst h;exact aU.ret hΓ
def kq(aB:aF)(aV:aF):Option Bool:=((vl aB.rules aV.rules).bind fun y1=>(bif !(y1)then(some false)else((xC aB.ends aV.ends).bind fun y4=>(bif !(y4)then(some false)else((uB aB.ay aV.ay).bind fun y7=>(bif !(y7)then(some false)else((vh aB.nodes aV.nodes).bind fun Oa=>(bif !(Oa)then(some false)else((py aB.facts aV.facts).bind fun rp=>(bif !(rp)then(some false)else(bif (aB.cK:Int) != aV.cK then(some false)else(some true))))))))))))
theorem qN{aB:aF}{aV:aF}{r:Bool}(h:kq aB aV=some r):Good prog 17 [D.agg (aF.c aB),D.agg (aF.c aV)] (D.bool r):=by
 refine gd func17 [[none]] 40 fun hr Γ hΓ=>?_
 rw[kq]at h;obtain⟨y1,h2,h⟩:=aD h;obtain⟨h3,h⟩|⟨h3,h⟩:=aL h
 ·have h:=aG h;subst h;exact((aU.g (Ak h2)).b h3).ret hΓ
 ·obtain⟨y4,h5,h⟩:=aD h;have jz:=(((aU.g (Ak h2)).b h3).g (Kj h5))
  obtain⟨h6,h⟩|⟨h6,h⟩:=aL h
  ·have h:=aG h;subst h;exact(jz.b h6).ret hΓ
  ·obtain⟨y7,h8,h⟩:=aD h;have dJ:=((jz.b h6).g (Gc h8))
   obtain⟨h9,h⟩|⟨h9,h⟩:=aL h
   ·have h:=aG h;subst h;exact(dJ.b h9).ret hΓ
   ·obtain⟨Oa,h11,h⟩:=aD h;have kT:=((dJ.b h9).g (It h11))
    obtain⟨h12,h⟩|⟨h12,h⟩:=aL h
    ·have h:=aG h;subst h;exact(kT.b h12).ret hΓ
    ·obtain⟨rp,h14,h⟩:=aD h;have jN:=((kT.b h12).g (s8 h14))
     obtain⟨h15,h⟩|⟨h15,h⟩:=aL h
     ·have h:=aG h;subst h;exact(jN.b h15).ret hΓ
     ·obtain⟨h16,h⟩|⟨h16,h⟩:=aL h
      ·have h:=aG h;subst h;exact((jN.b h15).b h16).ret hΓ
      ·have h:=aG h;subst h;exact((jN.b h15).b h16).ret hΓ
end Go.Cx

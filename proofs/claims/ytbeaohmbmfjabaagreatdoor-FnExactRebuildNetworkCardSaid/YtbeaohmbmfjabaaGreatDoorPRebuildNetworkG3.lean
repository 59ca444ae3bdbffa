/- Regions whose order is drawn, where operations that only compute float beside a chain that makes objects of objects: every order gives the state of the text's order. No condition; plain lemmas. -/
import Derived.Test.YtbeaohmbmfjabaaGreatDoorPRebuildNetworkG2
import Derived.LoopN
import Derived.Test.YtbeaohmbmfjabaaGreatDoorProg
import Derived.KernelRfl
set_option linter.unusedVariables false
set_option linter.unusedSimpArgs false
namespace Go.Cx
open Go.RowKit
abbrev eo:=List An
section
variable{P:Program}{Γ:w5}{Q:Exit->St->Prop}{st:St}{κ:Nat->Option Value}{Θ:Nat->Nat}{a:Act}{w:World}{all:Array Oper}{X:af}
def Bi(X:af)(H H':bX):Prop:=∀(i:Nat) o,i∉X->H[i]?=some o->H'[i]?=some o
theorem Bi.refl{X:af}(H:bX):Bi X H H:=fun _ _ _ h=>h
theorem Bi.trans{X:af}{A B C:bX}(h:Bi X A B)(k:Bi X B C):Bi X A C:=fun i o n e=>k i o n (h i o n e)
theorem Bi.app{X:af}{H H':bX}(h:Bi X H H')(n:bX):Bi X H (H'++n):=by
 intro i o hni hi;have:=h i o hni hi;rw[b9 (aH.1 this).1,this]
theorem Bi.cs{X:af}{H H':bX}(h:Bi X H H'){i:Nat}{cs:aR}(hi:i∉X)(hc:(H[i]?).bind Ob.ZX=some cs):(H'[i]?).bind Ob.ZX=some cs:=by
 obtain⟨ob,hb,YY⟩:=oG.1 hc;rw[h i ob hi hb];exact YY
def F4(X:af)(st:St):Op->Bool
 | .fieldAddr _ _ _=>true
 | .field _ _ _=>true
 | .extract _ _=>true
 | .move _=>true
 | .binOp _ _ _ _ _=>true
 | .unOp _ _ _=>true
 | .nilCheck _=>true
 | .convert _ _ _=>true
 | .index _ _ _=>true
 | .build _ _=>true
 | .indexAddr _ x _=>(match st.ev x with| .sl _=>true| .acc id=> !X.contains id|_=>false)
 | .load _ x=>(match st.ev x with| .ep _ _=>true| .ptr id _=> !X.contains id| .op id _ _ _=> !X.contains id|_=>false)
 |_=>false
theorem a3d{X:af}{σ σ':List (Nat×D)}{H H':bX}{op:Op}{d:D}(hx:Bi X H H')(hs:F4 X ⟨σ,H⟩ op=true)(he:∀x∈op.operands.toList,St.ev ⟨σ,H⟩ x=St.ev ⟨σ',H'⟩ x)(h:pv P ⟨σ,H⟩ op=some d):pv P ⟨σ',H'⟩ op=some d:=by
 cases op<;>simp only[F4,Bg]at hs<;>simp only[pv]at h⊢
 case move x=>rw[he x (by simp[Op.operands])]at*;exact h
 case nilCheck x=>rw[he x (by simp[Op.operands])]at h;exact h
 case binOp op t x y t'=>rw[he x (by simp[Op.operands]),he y (by simp[Op.operands])]at h;exact h
 case unOp op t x=>cases op<;>simp only[pv]at h⊢ <;>(try cases h)<;>(rw[he x (by simp[Op.operands])]at h;exact h)
 case convert s d x=>rw[he x (by simp[Op.operands])]at h;exact h
 case field t x f=>rw[he x (by simp[Op.operands])]at h;exact h
 case fieldAddr t x f=>rw[he x (by simp[Op.operands])]at h;exact h
 case indexAddr t x i=>
  rw[he x (by simp[Op.operands])]at hs;rw[he x (by simp[Op.operands]),he i (by simp[Op.operands])]at h;split at hs
  ·rename_i rows h0;rw[h0]at h⊢;generalize Ia P t=a at h⊢;generalize St.ev ⟨σ',H'⟩ i=b at h⊢;cases a<;>cases b<;>exact h
  ·rename_i id h0;rw[h0]at h⊢;generalize Ia P t=a at h⊢;generalize St.ev ⟨σ',H'⟩ i=b at h⊢;cases a<;>cases b<;>first|exact h|skip
   dsimp only at h⊢;cases hH:H[id]? with
   |none=>rw[hH]at h;cases h
   |some o=>rw[hx id o (by simpa using hs) hH];rw[hH]at h;exact h
  ·cases hs
 case load t x=>
  rw[he x (by simp[Op.operands])]at hs h;split at hs
  ·rename_i row off h0;rw[h0]at h⊢;generalize CL P t=a at h⊢;cases a<;>exact h
  ·rename_i id off h0;rw[h0]at h⊢;generalize CL P t=a at h⊢;cases a
   ·exact h
   ·dsimp only at h⊢;split at h
    ·rename_i cells hH;simp only[hx.cs (by simpa using hs) hH];exact h
    ·cases h
  ·rename_i id i sz off h0;rw[h0]at h⊢;generalize CL P t=a at h⊢;cases a
   ·exact h
   ·dsimp only at h⊢;cases hH:H[id]? with
    |none=>rw[hH]at h;cases h
    |some o=>rw[hx id o (by simpa using hs) hH];rw[hH]at h;exact h
  ·cases hs
 case extract x i=>rw[he x (by simp[Op.operands])]at h;exact h
 case index t x i=>rw[he x (by simp[Op.operands]),he i (by simp[Op.operands])]at h;exact h
 case build t parts=>
  have:(parts.toList.map fun p=>(p.1,St.ev ⟨σ,H⟩ p.2))=parts.toList.map fun p=>(p.1,St.ev ⟨σ',H'⟩ p.2):=by
   apply mJ;intro p hp;rw[he p.2 (by simp only[Op.operands];simp;exact⟨p.1,by simpa using hp⟩)]
  rw[this]at h;exact h
def Wb(xs acc:af):af:=xs.foldl (fun acc x=>bif acc.contains x then acc else x::acc) acc
theorem XJ:∀ {xs acc:af} {x:Nat},x∈Wb xs acc->x∈xs\/x∈acc:=by
 intro xs
 induction xs with
 |nil=>intro acc x h;exact .inr h
 |cons y ys ih=>
  intro acc x h;rcases ih (acc:=bif acc.contains y then acc else y::acc) h with h|h
  ·exact .inl (by simp[h])
  ·cases hc:acc.contains y with
   |true=>rw[hc]at h;exact .inr h
   |false=>
    rw[hc]at h;rcases bM.1 h with rfl|h
    ·exact .inl (by simp)
    ·exact .inr h
def a69(acc:List af)(es:List Edge):af:=es.foldl (fun d e=>bif Region.binds .any e then Wb (e.on::acc.getD e.on []) d else d) []
theorem Zz{acc:List af}{es:List Edge}{i:Nat}(h:i∈a69 acc es):∃e∈es,Region.binds .any e=true/\(i=e.on\/i∈acc.getD e.on []):=by
 have key:∀(es:List Edge) (d:af),i∈es.foldl (fun d e=>bif Region.binds .any e then Wb (e.on::acc.getD e.on []) d else d) d->i∈d\/∃e∈es,Region.binds .any e=true/\(i=e.on\/i∈acc.getD e.on []):=by
  intro es
  induction es with
  |nil=>intro d h;exact .inl h
  |cons e es ih=>
   intro d h;rcases ih _ h with h|⟨e',h1,h2⟩
   ·cases hb:Region.binds .any e with
    |false=>simp only[hb,aZ]at h;exact .inl h
    |true=>
     simp only[hb,aV]at h;rcases XJ h with h|h
     ·exact .inr ⟨e,by simp,hb,by simpa using h⟩
     ·exact .inl h
   ·exact .inr ⟨e',by simp[h1],h2⟩
 rcases key es [] h with h|h
 ·cases h
 ·exact h
def NX(acc:List af)(o:Oper):List af:=acc++[a69 acc o.after.toList]
def Wm(ops:List Oper):List af:=ops.foldl NX []
theorem a4k{ops:Array Oper}{listed:Array Bool}(closed:∀(j:Nat) oj,ops[j]?=some oj->listed.getD j false=true->∀e∈oj.after,Region.binds .any e=true->listed.getD e.on false=true):
 ∀(l pre:List Oper) (acc:List af),ops.toList=pre++l->acc.length=pre.length->
  (∀(j:Nat) o,ops[j]?=some o->(∀e∈o.after,Region.binds .any e=true->listed.getD e.on false=true)->∀i∈acc.getD j [],listed.getD i false=true)->
  ∀(j:Nat) o,ops[j]?=some o->(∀e∈o.after,Region.binds .any e=true->listed.getD e.on false=true)->∀i∈(l.foldl NX acc).getD j [],listed.getD i false=true:=by
 intro l
 induction l with
 |nil=>intro pre acc _ _ h;exact h
 |cons o l ih=>
  intro pre acc hl ha h;refine ih (pre++[o]) (NX acc o) (by simp[hl]) (by simp[NX,ha]) ?_;intro j oj hj hall i hi;unfold NX at hi;rw[lW]at hi;rcases yj j acc.length with hlt|heq|hgt
  ·rw[b9 hlt,<-lW]at hi;exact h j oj hj hall i hi
  ·subst heq;rw[bE (bR _),pM]at hi;simp only[DL,za]at hi;have ho:oj=o:=by
    rw[<-vY,hl,bE (by omega),ha,pM]at hj;simpa using hj.symm
   subst ho;obtain⟨e,he,hb,hi⟩:=Zz hi;have he':e∈oj.after:=by simpa using he
   have hel:=hall e he' hb;rcases hi with rfl|hi
   ·exact hel
   ·cases hoe:ops[e.on]? with
    |none=>
     have h1:e.on<acc.length:=by
      rcases eR e.on acc.length with h|h
      ·exact h
      ·rw[lW,ck h]at hi;cases hi
     have h2:ops.size<=e.on:=by simpa using hoe
     have h3:ops.size=pre.length+(l.length+1):=by rw[<-xK,hl];simp
     omega
    |some oe=>exact h e.on oe hoe (closed e.on oe hoe hel) i hi
  ·rw[ck (by simp;omega)]at hi;cases hi
theorem AL{ops:Array Oper}{listed:Array Bool}(closed:∀(j:Nat) oj,ops[j]?=some oj->listed.getD j false=true->∀e∈oj.after,Region.binds .any e=true->listed.getD e.on false=true){j:Nat}(hj:j∈Region.ready .any ops listed){i:Nat}(hi:((Wm ops.toList).getD j []).contains i=true):listed.getD i false=true:=by
 obtain⟨_,o,ho,hall⟩:=mem_ready.1 hj;exact a4k closed ops.toList [] [] (by simp) rfl (by simp) j o ho hall i (List.contains_iff_mem.1 hi)
def a1V(dp:List af)(ops:Array Oper)(n m:Nat)(L:af):Bool:=
 (decide (n<=m)&&decide (m<ops.size))&&
 (Region.seqB .any ops (ops.size-m) m (Array.replicate m true++Array.replicate (ops.size-m) false)&&
 (((List.range (ops.size-m)).all fun j=>(List.range m).all fun i=>(dp.getD (m+j) []).contains i)&&
 (((List.range (m-n)).all fun j=>(List.range (n+j)).all fun i=>(dp.getD (n+j) []).contains i||L.contains i)&&
 (((List.range m).all fun i=>match ops[i]? with|none=>false|some o=>o.after.all fun e=> !Region.binds .any e||decide (e.on<i))&&
 ((
  (List.range n).all fun i=>match ops[i]? with
  |none=>false
  |some o=>((o.looksAt ops).all fun t=>(List.range n).all fun j=>match ops[j]? with|some oj=> !(oj.dst==some t)||(decide (j<i)&&Region.waitsFor .any ops i j)|none=>true)&&
   (List.range n).all fun j=>j==i||(match ops[j]? with|some oj=> !(oj.dst==o.dst)||o.dst.isNone|none=>true))&&
 ((
  (List.range (m-n)).all fun j=>match ops[n+j]? with
  |none=>false
  |some o=>L.all fun i=>match ops[i]? with
   |none=>false
   |some oi=>(!(oi.dst==o.dst)&& !((oi.looksAt ops).any fun t=>o.dst==some t))&&((dp.getD (n+j) []).contains i|| !((o.looksAt ops).any fun t=>oi.dst==some t)))&&
 L.all fun i=>decide (i<n)&&(match ops[i]? with|some oi=>oi.guard.isNone&&oi.dst.isSome|none=>false)))))))
def Qd(ops:Array Oper)(n m:Nat)(L:af):Bool:=a1V (Wm ops.toList) ops n m L
def Step(P:Program)(Γ:w5)(o:Oper)(st AX:St):Prop:=
 ∀κ Θ a w,eO Γ st κ Θ a w->o.wp P a w (fun a' w'=>∃κ' Θ',eO Γ AX κ' Θ' a' w') (fun e _ _=>e=.normal)
def a0v(P:Program)(Γ:w5)(X:af)(K:St->Prop):List Oper->St->Prop
 | [],st=>K st
 |o::os,st=>∃AX,((∃t d,o.dst=some t/\t<Γ.nt/\AX.σ=(t,d)::st.σ)\/(o.dst=none/\AX.σ=st.σ))/\Bi X st.H AX.H/\o.guard=none/\(∀cs b,o.op≠ .select cs b)/\Step P Γ o st AX/\a0v P Γ X K os AX
theorem WE{o:Oper}{a b:Act}{w:World}{K K2:Act->World->Prop}{Q1 Q2:Exit->Act->World->Prop}(hsel:∀cs b,o.op≠ .select cs b)(he:∀x∈o.op.operands,a.eval x=b.eval x)
 (hK:∀v w',K (b.put o.dst v) w'->K2 (a.put o.dst v) w') (hdf:∀d w',¬K ({b with defers:=d::b.defers}.put o.dst undef) w') (hQ:∀e c w',Q1 e c w'->e=.normal) (h:o.wp P b w K Q1):o.wp P a w K2 Q2:=by
 unfold Oper.wp at*;rw[execOp_congr o hsel he];generalize(execOp b.eval o).run P w=r at*;cases r with
 |ok n w'=>
  cases n with
  |value v=>exact hK _ _ h
  |skip=>exact hK _ _ h
  |defer d=>exact absurd h (hdf _ _)
  |enter f args=>
   refine Calls.mono h ?_;intro e w'' he;cases e with
   |returned v=>exact hK _ _ he
   |panicked c=>exact absurd (hQ _ _ _ he) (by simp)
   |outgrown=>
    obtain⟨a0,w0,hq⟩:=he;exact absurd (hQ _ _ _ hq) (by simp)
  |row r args=>exact Rows.mono h fun v w'' he=>hK _ _ he
  |_=>exact h.elim
 |halt x w'=>
  cases x with
  |panic u=>exact absurd (hQ _ _ _ h) (by simp)
  |_=>exact h.elim
theorem a8T{l:List (Nat×D)}{σ:List (Nat×D)}(h:∀p∈l,p.2=.any){t:Nat}(ht:t∈l.map Prod.fst):lk (l++σ) t=.any:=by
 induction l with
 |nil=>cases ht
 |cons p l ih=>
  obtain⟨u,d⟩:=p;have hd:d=.any:=h (u,d) (by simp);subst hd;simp only[dS,lk];by_cases e:t=u
  ·rw[bS e]
  ·rw[bH e];refine ih (fun p hp=>h p (by simp[hp])) ?_;simp only[bG,bM]at ht;rcases ht with h|h
   ·exact absurd h e
   ·exact h
theorem ME(a:Act){t u:Nat}(v:Value)(h:u≠t):(a.put (some t) v).tmps.getD u undef=a.tmps.getD u undef:=by
 show(a.tmps.setIfInBounds t v).getD u undef=_;simp[cO,uA h]
theorem Nv(a:Act){t:Nat}(v:Value)(h:t<a.tmps.size):(a.put (some t) v).tmps.getD t undef=v:=by
 show(a.tmps.setIfInBounds t v).getD t undef=_;simp[cO,h]
theorem count_set{m i:Nat}{listed:Array Bool}(hi:i<m)(hsz:i<listed.size)(hl:listed.getD i false=false):((List.range m).filter fun j=> !(listed.setIfInBounds i true).getD j false).length+1=((List.range m).filter fun j=> !listed.getD j false).length:=by
 have Zl:((List.range m).filter fun j=> !(listed.setIfInBounds i true).getD j false)=((List.range m).filter fun j=> !listed.getD j false).erase i:=by
  have hnd:((List.range m).filter fun j=> !listed.getD j false).Nodup:=zy _ DN;rw[hnd.erase_eq_filter,yC];apply yh;intro j _;by_cases e:j=i
  ·subst e;simp[hsz]
  ·rw[getD_set_ne false (uA e)];simp[e]
 have hmem:i∈(List.range m).filter fun j=> !listed.getD j false:=gA.2 ⟨bq.2 hi,by simp only[hl];rfl⟩
 have hpos:0<((List.range m).filter fun j=> !listed.getD j false).length:=EF hmem;rw[Zl,rj hmem];omega
def a1C(P:Program)(Γ:w5)(X:af)(l:List Oper)(σF:List (Nat×D))(H0:bX)(i:Nat):Prop:=
 ∃o t d,l.toArray[i]?=some o/\o.guard=none/\o.dst=some t/\t<Γ.nt/\lk σF t=d/\∀σ' H',Bi X H0 H'->(∀u∈o.looksAt l.toArray,lk σ' u=lk σF u)->pv P ⟨σ',H'⟩ o.op=some d
theorem V0{l:List Oper}{n m:Nat}{L:af}{σF:List (Nat×D)}{H0:bX}(hB:Qd l.toArray n m L=true)(a6G:∀i∈L,a1C P Γ X l σF H0 i):
 ∀(f c:Nat) (S:St) (listed:Array Bool) (σ':List (Nat×D)) (κ:Nat->Option Value) (Θ:Nat->Nat) (a:Act) (w:World),HeadInv .any l.toArray l.toArray.size listed->
  (∀i,i<n->i∉L->listed.getD i false=true)->n+c<=m->(∀i,n<=i->i<n+c->listed.getD i false=true)->(∀i,n+c<=i->i<l.toArray.size->listed.getD i false=false)->
  ((List.range m).filter fun i=> !listed.getD i false).length=f->
  (∀t,(∀(i:Nat) o,l.toArray[i]?=some o->n<=i->i<n+c->o.dst≠some t)->lk S.σ t=lk σF t)->Bi X H0 S.H->
  a0v P Γ X (fun xw=>AO P Γ l.toArray (l.drop m) Q xw) ((l.drop (n+c)).take (m-(n+c))) S->
  (∀t,(∀i∈L,∀o,l.toArray[i]?=some o->listed.getD i false=false->o.dst≠some t)->lk σ' t=lk S.σ t)->
  eO Γ ⟨σ',S.H⟩ κ Θ a w->
  wpAny P .any l.toArray (fun e a' w'=>∃xw κ' Θ',eO Γ xw κ' Θ' a' w'/\Q e xw) (f+(l.toArray.size-m)) listed a w:=by
 simp only[Qd,a1V,aY,bJ]at hB;obtain⟨⟨hnm,TT⟩,a4v,a1s,hmid,a1e,a1g,a1o,hL⟩:=hB;have aCH:∀i,i<m->∃o,l.toArray[i]?=some o/\∀e∈o.after,Region.binds .any e=true->e.on<i:=by
  intro i hi;have:=bB.1 a1e i (bq.2 hi);split at this
  ·cases this
  ·rename_i o ho;refine⟨o,ho,fun e he hb=>?_⟩;have:=yB.1 this e he;simpa[hb]using this
 have I7:∀i∈L,i<n:=by
  intro i hi;have:=bB.1 hL i hi;simp only[aY,bJ]at this;exact this.1
 have VD:∀(i:Nat) o,i<n->l.toArray[i]?=some o->∀u∈o.looksAt l.toArray,∀(j:Nat) oj,j<n->l.toArray[j]?=some oj->oj.dst=some u->j<i/\Region.waitsFor .any l.toArray i j=true:=by
  intro i o hi ho u hu j oj hj AM hd;have:=bB.1 a1g i (bq.2 hi);simp only[ho,aY]at this;have:=bB.1 (bB.1 this.1 u hu) j (bq.2 hj);simpa[AM,hd]using this
 have Ns:∀(j:Nat) o,n<=j->j<m->l.toArray[j]?=some o->∀i∈L,∀oi,l.toArray[i]?=some oi->oi.dst≠o.dst/\(∀u∈oi.looksAt l.toArray,o.dst≠some u)/\(((Wm l.toArray.toList).getD j []).contains i=true\/∀u∈o.looksAt l.toArray,oi.dst≠some u):=by
  intro j o KN hj2 ho i hi oi hoi;have:=bB.1 a1o (j-n) (bq.2 (by omega));rw[show n+(j-n)=j from by omega]at this;simp only[ho]at this;have:=bB.1 this i hi;simp only[hoi,aY,rG,om]at this;obtain⟨⟨h1,h2⟩,h3⟩:=this;refine⟨by simpa using h1,fun u hu he=>?_,h3.imp id fun h u hu he=>?_⟩
  ·have:=Cf.1 h2 u hu;simp[he]at this
  ·have:=Cf.1 h u hu;simp[he]at this
 intro f
 induction f with
 |zero=>
  intro c S listed σ' κ Θ a w inv hN hc hM hT pO hS hX hA hag hs;have hall:∀i,i<m->listed.getD i false=true:=by
   intro i hi;have h0:=cg pO;cases hl:listed.getD i false with
   |true=>rfl
   |false=>
    have:i∈(List.range m).filter fun i=> !listed.getD i false:=gA.2 ⟨bq.2 hi,by simp only[hl];rfl⟩
    rw[h0]at this;cases this
  have hcm:n+c=m:=by
   rcases eR (n+c) m with h|h
   ·have h1:=hall (n+c) h;rw[hT (n+c) (bR _) (by omega)]at h1;cases h1
   ·omega
  have a1k:listed=Array.replicate m true++Array.replicate (l.toArray.size-m) false:=by
   apply Array.ext
   ·rw[inv.size];simp at TT⊢;omega
   ·intro i h1 h2;by_cases hi:i<m
    ·have:=hall i hi;rw[CP (by simpa using hi)];simp[h1]at this;simp[this]
    ·have hi':i<l.toArray.size:=by rw[<-inv.size];exact h1
     have:=hT i (by omega) hi';rw[Bf (by simpa using hi)];simp[h1]at this;simp[this]
  rw[cr];rw[hcm,pM,List.take_zero]at hA;have hA:AO P Γ l.toArray (l.drop m) Q S:=hA;have hs2:=eO.same (st:=⟨σ',S.H⟩) (σ':=S.σ) (fun t=>hag t (fun i hi o ho hl=>by rw[hall i (by have:=I7 i hi;omega)]at hl;cases hl)) hs;have hwp:=hA κ Θ a w hs2;have hdl:(l.drop m).length=l.toArray.size-m:=by simp
  have:=wpAny_of_seq (md:=.any) (l.drop m) m listed a w (fun j=>by simp[eD]) (by rw[hdl,a1k];exact a4v) hwp
  rwa[hdl]at this
 |succ f ih=>
  intro c S listed σ' κ Θ a w inv hN hc hM hT pO hS hX hA hag hs;have hun:∃i,i<m/\listed.getD i false=false:=by
   have hne:((List.range m).filter fun i=> !listed.getD i false)≠[]:=by
    intro h0;rw[h0]at pO;simp at pO
   obtain⟨i,hi⟩:=xE _ hne;obtain⟨h1,h2⟩:=gA.1 hi;exact⟨i,bq.1 h1,by simpa using h2⟩
  have hsz:=inv.size;rw[show f+1+(l.toArray.size-m)=(f+(l.toArray.size-m))+1 from by omega];refine⟨fun h0=>?_,fun i hi=>?_⟩
  ·exfalso;obtain⟨i,⟨hin,WM⟩,hmin⟩:=exists_least (p:=fun i=>i<m/\listed.getD i false=false) hun;obtain⟨o,ho,hed⟩:=aCH i hin;have:i∈Region.ready .any l.toArray listed:=by
    refine mem_ready.2 ⟨getD_in (by rw[hsz];omega) WM,o,ho,fun e he hb=>?_⟩;have:=hed e he hb;cases hl:listed.getD e.on false with
    |true=>rfl
    |false=>have:=hmin e.on ⟨by omega,hl⟩;omega
   rw[h0]at this;cases this
  ·obtain⟨i0,hi0,hl0⟩:=hun;obtain⟨WM,o,ho,hall⟩:=mem_ready.1 hi;have DA:=getD_both WM;have Ex:i<l.toArray.size:=(bL.1 ho).1;have him:i<m:=by
    rcases eR i m with h|h
    ·exact h
    ·have h1:=bB.1 a1s (i-m) (bq.2 (by omega));have h2:=bB.1 h1 i0 (bq.2 hi0);rw[show m+(i-m)=i from by omega]at h2;rw[AL inv.closed hi h2]at hl0;cases hl0
   have Zl:=count_set him (by rw[hsz];exact Ex) DA;have qu:∀(j:Nat),(listed.setIfInBounds i true).getD j false=true↔(j=i\/listed.getD j false=true):=by
    intro j;by_cases e:i=j
    ·subst e;have:i<listed.size:=by rw[hsz];exact Ex
     simp[this]
    ·rw[getD_set_ne false e];constructor
     ·exact .inr
     ·rintro(rfl|h)
      ·exact absurd rfl e
      ·exact h
   have aEK:∀(j:Nat),(listed.setIfInBounds i true).getD j false=false->j≠i/\listed.getD j false=false:=by
    intro j h;refine⟨fun e=>?_,?_⟩
    ·have:=(qu j).2 (.inl e);rw[this]at h;cases h
    ·cases h2:listed.getD j false with
     |false=>rfl
     |true=>have:=(qu j).2 (.inr h2);rw[this]at h;cases h
   rcases eR i n with hin|hin
   ·
    have hiL:i∈L:=by
     by_cases h:i∈L
     ·exact h
     ·rw[hN i hin h]at DA;cases DA
    obtain⟨o',t,d,ho',hg,hd,htn,hdF,hpv⟩:=a6G i hiL;rw[ho]at ho';cases ho';have VF:∀u∈o.looksAt l.toArray,lk σ' u=lk σF u:=by
     intro u hu;rw[hag u,hS u]
     ·intro j oj AM KN hj2 he;exact(Ns j oj KN (by omega) AM i hiL o ho).2.1 u hu he
     ·intro j hj oj AM hlj he;obtain⟨h1,h2⟩:=VD i o hin ho u hu j oj (I7 j hj) AM he;obtain⟨o2,ho2,e,M8,hb,hon⟩:=Region.waitsFor_spec h2;rw[ho]at ho2;cases ho2;have:=hall e M8 hb;rw[hon,hlj]at this;cases this
    have hp:=hpv σ' S.H hX VF;obtain⟨v,bs,hrun,hrd,hz⟩:=IF (st:=⟨σ',S.H⟩) hs hp;refine CM ho (by simp[Region.wanted,hg]) ?_;unfold Oper.wp;rw[hrun,Oper.upon_value,hd];refine ih c S (listed.setIfInBounds i true) ((t,d)::σ') κ Θ _ w (inv.set hi Ex) ?_ hc ?_ ?_ (by omega) hS hX hA ?_ (hs.set (st:=⟨σ',S.H⟩) htn hrd hz)
    ·intro j hj hjL;exact(qu j).2 (.inr (hN j hj hjL))
    ·intro j KN hj2;exact(qu j).2 (.inr (hM j KN hj2))
    ·intro j KN hj2;rw[getD_set_ne false (by omega)];exact hT j KN hj2
    ·intro u hu;simp only[lk];by_cases e:u=t
     ·rw[bS e,e,hS t,hdF];intro j oj AM KN hj2 he;exact(Ns j oj KN (by omega) AM i hiL o ho).1 (by rw[hd,he])
     ·rw[bH e];refine hag u fun j hj oj AM hlj he=>?_
      by_cases hji:j=i
      ·subst hji;rw[ho]at AM;cases AM;rw[hd]at he;cases he;exact e rfl
      ·exact hu j hj oj AM (by rw[getD_set_ne false (uA hji)];exact hlj) he
   ·
    have hic:i=n+c:=by
     rcases yj i (n+c)with h|h|h
     ·rw[hM i hin h]at DA;cases DA
     ·exact h
     ·have h1:=bB.1 hmid (i-n) (bq.2 (by omega));rw[show n+(i-n)=i from by omega]at h1;have h2:=bB.1 h1 (n+c) (bq.2 h);simp only[om]at h2;rcases h2 with h2|h2
      ·have:=AL inv.closed hi h2;rw[hT (n+c) (bR _) (by omega)]at this;cases this
      ·have:=I7 (n+c) (by simpa using h2);omega
    subst hic;have VC:(l.drop (n+c)).take (m-(n+c))=o::(l.drop (n+(c+1))).take (m-(n+(c+1))):=by
     have h1:l[n+c]?=some o:=by simpa using ho
     have h2:(n+c)<l.length:=(aH.1 h1).1;have h3:l[n+c]=o:=(aH.1 h1).2;rw[mm h2,h3,show m-(n+c)=(m-(n+(c+1)))+1 from by omega,xL];rfl
    rw[VC]at hA;obtain⟨S1,TQ,hX1,hgm,hsel,hstep,hA1⟩:=hA;have aCu:∀u,o.dst≠some u->lk S1.σ u=lk S.σ u:=by
     intro u hu;rcases TQ with⟨tm,dm,hdm,htm,a81⟩|⟨_,a81⟩
     ·rw[a81];simp only[lk];rw[bH (fun e=>hu (by rw[hdm,e]))]
     ·rw[a81]
    have aA5:∀(b:Act) (v:Value),(b.put o.dst v).tmps.size=b.tmps.size:=by
     intro b v;rcases TQ with⟨tm,dm,hdm,_,_⟩|⟨hdm,_⟩
     ·rw[hdm];show(b.tmps.setIfInBounds tm v).size=_;simp
     ·rw[hdm];rfl
    have aA4:∀(b:Act) (v:Value),(b.put o.dst v).defers=b.defers:=by
     intro b v;cases o.dst<;>rfl
    have fill:∀k,k<=n->∃(ak:Act) (σk:List (Nat×D)),eO Γ ⟨σk,S.H⟩ κ Θ ak w/\(∀u,(∀j∈L,∀oj,l.toArray[j]?=some oj->listed.getD j false=false->k<=j->oj.dst≠some u)->lk σk u=lk S.σ u)/\
     (∀u,(∀j∈L,∀oj,l.toArray[j]?=some oj->listed.getD j false=false->oj.dst≠some u)->ak.tmps.getD u undef=a.tmps.getD u undef):=by
     intro k
     induction k with
     |zero=>intro _;exact⟨a,σ',hs,fun u hu=>hag u (fun j hj oj AM hl=>hu j hj oj AM hl (GM _)),fun _ _=>rfl⟩
     |succ k ihk=>
      intro hk;obtain⟨ak,σk,hsk,a7X,hek⟩:=ihk (by omega);by_cases hkl:k∈L/\listed.getD k false=false
      ·obtain⟨hkL,hkF⟩:=hkl;obtain⟨ok,t,d,hok,hg,hd,htn,hdF,hpv⟩:=a6G k hkL;have VF:∀u∈ok.looksAt l.toArray,lk σk u=lk σF u:=by
        intro u hu;rw[a7X u,hS u]
        ·intro j oj AM KN hj2 he;exact(Ns j oj KN (by omega) AM k hkL ok hok).2.1 u hu he
        ·intro j hj oj AM hlj hkj he;obtain⟨h1,h2⟩:=VD k ok (by omega) hok u hu j oj (I7 j hj) AM he;omega
       have hp:=hpv σk S.H hX VF;obtain⟨v,bs,hrun,hrd,hz⟩:=IF (st:=⟨σk,S.H⟩) hsk hp;refine⟨ak.put (some t) v,(t,d)::σk,hsk.set (st:=⟨σk,S.H⟩) htn hrd hz,?_,?_⟩
       ·intro u hu;simp only[lk];by_cases e:u=t
        ·rw[bS e,e,hS t,hdF];intro j oj AM KN hj2 he;exact(Ns j oj KN (by omega) AM k hkL ok hok).1 (by rw[hd,he])
        ·rw[bH e];refine a7X u fun j hj oj AM hlj hkj he=>?_
         by_cases hjk:j=k
         ·subst hjk;rw[hok]at AM;cases AM;rw[hd]at he;cases he;exact e rfl
         ·exact hu j hj oj AM hlj (by omega) he
       ·intro u hu;rw[ME _ _ (fun e=>hu k hkL ok hok hkF (by rw[hd,e])),hek u hu]
      ·refine⟨ak,σk,hsk,fun u hu=>a7X u fun j hj oj AM hlj hkj=>?_,hek⟩;by_cases hjk:j=k
       ·subst hjk;exact absurd ⟨hj,hlj⟩ hkl
       ·exact hu j hj oj AM hlj (by omega)
    obtain⟨an,σn,hsn,aCT,hen⟩:=fill n (bR _);have hsS:=eO.same (st:=⟨σn,S.H⟩) (σ':=S.σ) (fun u=>aCT u (fun j hj oj AM _ hnj=>by have:=I7 j hj;omega)) hsn;have hwp:=hstep κ Θ an w hsS;refine CM ho (by simp[Region.wanted,hgm]) (WE (Q2:=_) hsel ?_ ?_ ?_ (fun e _ _ h=>h) hwp)
    ·intro x hx;cases x with
     |tmp u=>
      refine(hen u fun j hj oj AM hlj he=>?_).symm;have hu:u∈o.looksAt l.toArray:=by
       unfold Oper.looksAt;exact au.2 (.inl (cF.2 ⟨.tmp u,by simpa using hx,rfl⟩))
      rcases(Ns (n+c) o (by omega) him ho j hj oj AM).2.2 with h|h
      ·rw[AL inv.closed hi h]at hlj;cases hlj
      ·exact h u hu he
     |const v=>rfl
     |global g=>rfl
     |func f=>rfl
    ·rintro v w' ⟨κ',Θ',hs'⟩;let late:List (Nat×D):=(L.filterMap fun j=>bif listed.getD j false then none else(l.toArray[j]?).bind (·.dst)).map fun u=>(u,D.any)
     have VE:∀u,u∈late.map Prod.fst↔∃j∈L,∃oj,l.toArray[j]?=some oj/\listed.getD j false=false/\oj.dst=some u:=by
      intro u;simp only[late,rH,cJ,cF,Function.comp];constructor
      ·rintro⟨x,⟨j,hj,hx⟩,rfl⟩;cases hl:listed.getD j false with
       |true=>rw[hl]at hx;cases hx
       |false=>
        rw[hl,aZ]at hx;cases AM:l.toArray[j]? with
        |none=>rw[AM]at hx;cases hx
        |some oj=>rw[AM]at hx;exact⟨j,hj,oj,AM,hl,hx⟩
      ·rintro⟨j,hj,oj,AM,hl,hx⟩;exact⟨u,⟨j,hj,by rw[hl,aZ,AM];exact hx⟩,rfl⟩
     have hs2:eO Γ ⟨late++S1.σ,S1.H⟩ κ' Θ' (a.put o.dst v) w':=by
      refine⟨by rw[aA4];exact hs.defers,by rw[aA5];exact hs.size,hs'.rX,hs'.qp,?_,hs'.ob,hs'.own,hs'.old,hs'.mine,hs'.stays,hs'.wq⟩;intro u;show∃bs,uB w' κ' _ (lk (late++S1.σ) u) bs/\_;by_cases hu:u∈late.map Prod.fst
      ·rw[a8T (fun p hp=>by simp only[late,cJ]at hp;obtain⟨_,_,rfl⟩:=hp;rfl) hu];exact⟨[],.of (.any _),by simp⟩
      ·rw[I9 _ _ _ (fun p hp e=>hu (cJ.2 ⟨p,hp,e⟩))];have e1:(a.put o.dst v).tmps.getD u undef=(an.put o.dst v).tmps.getD u undef:=by
        have e0:=(hen u fun j hj oj AM hlj he=>hu ((VE u).2 ⟨j,hj,oj,AM,hlj,he⟩)).symm;rcases TQ with⟨tm,dm,hdm,htm,_⟩|⟨hdm,_⟩
        ·rw[hdm];by_cases e:u=tm
         ·subst e;rw[Nv _ _ (by rw[hs.size];exact htm),Nv _ _ (by rw[hsn.size];exact htm)]
         ·rw[ME _ _ e,ME _ _ e];exact e0
        ·rw[hdm];exact e0
       rw[e1];exact hs'.slot u
     refine ih (c+1) S1 (listed.setIfInBounds (n+c) true) (late++S1.σ) κ' Θ' _ w' (inv.set hi Ex) ?_ (by omega) ?_ ?_ (by omega) ?_ (hX.trans hX1) hA1 ?_ hs2
     ·intro j hj hjL;exact(qu j).2 (.inr (hN j hj hjL))
     ·intro j KN hj2;by_cases e:j=n+c
      ·exact(qu j).2 (.inl e)
      ·exact(qu j).2 (.inr (hM j KN (by omega)))
     ·intro j KN hj2;rw[getD_set_ne false (by omega)];exact hT j (by omega) hj2
     ·intro u hu;rw[aCu u (hu (n+c) o ho (by omega) (by omega))];exact hS u fun j oj AM KN hj2=>hu j oj AM KN (by omega)
     ·intro u hu;rw[I9];intro p hp e;obtain⟨j,hj,oj,AM,hl,he⟩:=(VE u).1 (cJ.2 ⟨p,hp,e⟩);refine hu j hj oj AM ?_ he;rw[getD_set_ne false (by have:=I7 j hj;omega)];exact hl
    ·rintro d w' ⟨κ',Θ',hs'⟩;have:=hs'.defers;cases hod:o.dst<;>rw[hod]at this<;>cases this
theorem PS{p:Nat->Bool}{n:Nat}:∀(k:Nat),(∀i,n<=i->i<n+k->p i=true)->((List.range (n+k)).filter p).length=((List.range n).filter p).length+k
 |0,_=>rfl
 |k+1,h=>by
  rw[<-rp,List.range_succ,List.filter_append,aX,PS k (fun i h1 h2=>h i h1 (by omega))];have:p (n+k)=true:=h (n+k) (by omega) (by omega);simp[this];omega
def S9(P:Program)(Γ:w5)(ops:Array Oper)(Q:Exit->St->Prop)(st:St):Prop:=
 ∀κ Θ a w,eO Γ st κ Θ a w->wpAny P .any ops (fun e a' w'=>∃xw κ' Θ',eO Γ xw κ' Θ' a' w'/\Q e xw) ops.size (Array.replicate ops.size false) a w
theorem S9.aw{id:Nat}{ops:Array Oper}(hm:P.follows .mixedOrders=true)(h:S9 P Γ ops Q st):AW P Γ (.region id ops true) Q st:=
 fun κ Θ a w hs=>wp_region_any hm (h κ Θ a w.drew hs.drew)
theorem ZP{l:List Oper}(n m:Nat)(L:af)(hB0:Qd l.toArray n m L=true)
 (h:P9 P Γ l.toArray st.H (fun σ acc=>(∀i∈L,∀o,l[i]?=some o->F4 X ⟨σ,st.H⟩ o.op=true)/\a0v P Γ X (fun xw=>AO P Γ l.toArray (l.drop m) Q xw) ((l.drop n).take (m-n)) ⟨σ,st.H++acc⟩) (l.take n) st.σ [] []):S9 P Γ l.toArray Q st:=by
 have hB:=hB0;simp only[Qd,a1V,aY,bJ]at hB;obtain⟨⟨hnm,TT⟩,a4v,a1s,hmid,a1e,a1g,a1o,hL⟩:=hB;have hn:n<l.toArray.size:=by omega
 have PE:((List.range n).all fun i=>match l.toArray[i]? with
  |none=>false
  |some o=>(o.after.all fun e=> !Region.binds .any e||decide (e.on<i))&&
   ((o.looksAt l.toArray).all fun t=>(List.range n).all fun j=>match l.toArray[j]? with|some oj=> !(oj.dst==some t)||(decide (j<i)&&Region.waitsFor .any l.toArray i j)|none=>true)&&
   (List.range n).all fun j=>j==i||(match l.toArray[j]? with|some oj=> !(oj.dst==o.dst)||o.dst.isNone|none=>true))=true:=by
  rw[bB];intro i hi;have h1:=bB.1 a1e i (bq.2 (by have:=bq.1 hi;omega));have h2:=bB.1 a1g i hi;cases ho:l.toArray[i]? with
  |none=>rw[ho]at h1;cases h1
  |some o=>
   simp only[ho,aY]at h1 h2⊢;exact⟨⟨h1,h2.1⟩,h2.2⟩
 have I7:∀i∈L,i<n:=by
  intro i hi;have:=bB.1 hL i hi;simp only[aY,bJ]at this;exact this.1
 obtain⟨ps,Pd,hlen,Qo,⟨hstill,hK⟩,hFl,hFo,hFu⟩:=P9.unfold _ _ _ _ h;simp only[cI,bK,BG,cr]at Qo hK hFl hFo hstill;have hn':n<l.length:=by simpa using hn
 have hpl:ps.length=n:=by rw[hlen];simp;omega
 have hop:∀(i:Nat),i<n->∃o p,l.toArray[i]?=some o/\ps[i]?=some p/\o.dst=p.t/\wG P Γ l.toArray st.H (((ps.take i).filterMap Cp.sl).reverse++st.σ) o p/\p.r=st.H.length+((ps.take i).flatMap Cp.obs).length:=by
  intro i hi;have h1:l[i]?=some l[i]:=ai (by omega);have h2:ps[i]?=some ps[i]:=ai (by omega);have h3:=Qo i l[i] ps[i] (by rw[cK,bS hi];exact h1) h2;exact⟨l[i],ps[i],by simp[mq,h1],h2,h3.1.slots,h3.1,h3.2.1⟩
 have X8:∀(i:Nat) p,ps[i]?=some p->p.r=st.H.length+((ps.take i).flatMap Cp.obs).length:=by
  intro i p hp;have hi:i<n:=by have:=(aH.1 hp).1;omega
  obtain⟨_,p',_,hp',_,_,hr⟩:=hop i hi;rw[hp]at hp';cases hp';exact hr
 have TU:∀(i:Nat) p id ob,ps[i]?=some p->p.up=some (id,ob)->st.H.length<=id/\(∃zs ds,ob=.box ds/\zs.length=ds.length/\((ps.take i).flatMap Cp.obs)[id-st.H.length]?=some (.box zs))/\∀(i2:Nat) q DJ,i2<i->ps[i2]?=some q->q.up≠some (id,DJ):=by
  intro i p id ob hp he;have hi:i<n:=by have:=(aH.1 hp).1;omega
  have h1:l[i]?=some l[i]:=ai (by omega);have h3:=(Qo i l[i] p (by rw[cK,bS hi];exact h1) hp).2.2 id ob he;exact⟨h3.2.1,h3.2.2.1,h3.2.2.2⟩
 have a1u:∀(i j:Nat) p q id ob DJ,ps[i]?=some p->ps[j]?=some q->p.up=some (id,ob)->q.up=some (id,DJ)->i=j:=by
  intro i j p q id ob DJ hp hq he M8;rcases yj i j with h|h|h
  ·exact absurd he ((TU j q id DJ hq M8).2.2 i p ob h hp)
  ·exact h
  ·exact absurd M8 ((TU i p id ob hp he).2.2 j q DJ h hq)
 have a1v:∀(i:Nat) p id ob,ps[i]?=some p->p.up=some (id,ob)->p.obs=[]:=by
  intro i p id ob hp he;have hi:i<n:=by have:=(aH.1 hp).1;omega
  obtain⟨_,p',_,hp',_,hc,_⟩:=hop i hi;rw[hp]at hp';cases hp';rcases hc.a3n with h|h
  ·rw[h]at he;cases he
  ·exact h
 have hfit:∀(i:Nat) p,ps[i]?=some p->p.r+p.obs.length<=st.H.length+(ps.flatMap Cp.obs).length:=by
  intro i p hp;rw[X8 i p hp,sK hp];simp only[aX];omega
 have TP:∀(i j:Nat) p q,ps[i]?=some p->ps[j]?=some q->i<j->p.r+p.obs.length<=q.r:=by
  intro i j p q hp hq hij;rw[X8 i p hp,X8 j q hq];have:=Sl hp hij;omega
 have hdist:∀(i j:Nat) p q t,ps[i]?=some p->ps[j]?=some q->p.t=some t->q.t=some t->i=j:=by
  intro i j p q t hp hq he1 M8;have hi:i<n:=by have:=(aH.1 hp).1;omega
  have hj:j<n:=by have:=(aH.1 hq).1;omega
  obtain⟨oi,p',ho,hp',hdi,_⟩:=hop i hi;obtain⟨oj,q',AM,Rz,hdj,_⟩:=hop j hj;rw[hp]at hp';cases hp';rw[hq]at Rz;cases Rz;have:=bB.1 PE i (bq.2 hi);simp only[ho,aY]at this;have:=bB.1 this.2 j (bq.2 hj);simp only[AM,hdi,hdj,he1,M8,cy,bP,vE,Option.isNone_some,vE,cj]at this;exact this.symm
 have I4:∀(i:Nat) p t,ps[i]?=some p->p.t=some t->∀q∈ps.filterMap Cp.sl,q.1=t->q=(t,p.d):=by
  intro i p t hp hpt q hq he;obtain⟨q',Rz,Qs⟩:=cF.1 hq;obtain⟨j,hj,rfl⟩:=eS.1 Rz;have MP:ps[j]?=some ps[j]:=ai hj;unfold Cp.sl at Qs;cases hpj:ps[j].t with
  |none=>rw[hpj]at Qs;cases Qs
  |some u=>
   rw[hpj]at Qs;simp only[cc,az]at Qs;subst Qs;simp only at he;subst he;have:=hdist j i _ p u MP hp hpj hpt;subst this;rw[hp]at MP;cases MP;rfl
 have hlk:∀(i:Nat) (o:Oper),i<n->l.toArray[i]?=some o->∀t∈o.looksAt l.toArray,lk (((ps.take i).filterMap Cp.sl).reverse++st.σ) t=lk ((ps.filterMap Cp.sl).reverse++st.σ) t:=by
  intro i o hin ho t ht;have Nb:=bB.1 PE i (bq.2 hin);simp only[ho,aY]at Nb;have Nb:=bB.1 Nb.1.2 t ht;by_cases hex:∃(j:Nat) (q:Cp),ps[j]?=some q/\q.t=some t
  ·obtain⟨j,q,hq,Pn⟩:=hex;have hj:j<n:=by have:=(aH.1 hq).1;omega
   obtain⟨oj,q',AM,Rz,hdj,_⟩:=hop j hj;rw[hq]at Rz;cases Rz;have:=bB.1 Nb j (bq.2 hj);simp only[AM,hdj,Pn,cy,bP,pR,aY,bJ]at this;obtain⟨hji,_⟩:=this;rw[MB (ps.filterMap Cp.sl).reverse st.σ (t,q.d) (by rw[e9];exact cF.2 ⟨q,aC hq,by simp[Cp.sl,Pn]⟩) (fun q2 MP M8=>I4 j q t hq Pn q2 (by simpa using MP) M8)];refine MB ((ps.take i).filterMap Cp.sl).reverse st.σ (t,q.d) ?_ (fun q2 MP M8=>I4 j q t hq Pn q2 ?_ M8)
   ·rw[e9];exact cF.2 ⟨q,aC (i:=j) (by rw[cK,bS hji];exact hq),by simp[Cp.sl,Pn]⟩
   ·obtain⟨q3,X9,AN⟩:=cF.1 (e9.1 MP);exact cF.2 ⟨q3,cH X9,AN⟩
  ·have hno:∀q3∈ps,q3.t≠some t:=by
    intro q3 X9 he;obtain⟨j,hj,hqj⟩:=eS.1 X9;exact hex ⟨j,q3,by rw[<-hqj];exact ai hj,he⟩
   have hsl:∀(qs:List Cp),(∀q3∈qs,q3.t≠some t)->∀p∈(qs.filterMap Cp.sl).reverse,p.1≠t:=by
    intro qs Qs p hp he;obtain⟨q3,X9,AN⟩:=cF.1 (e9.1 hp);unfold Cp.sl at AN;cases hpt:q3.t with
    |none=>rw[hpt]at AN;cases AN
    |some u=>rw[hpt]at AN;simp only[cc,az]at AN;subst AN;simp only at he;exact Qs q3 X9 (by rw[hpt,he])
   rw[I9 _ _ _ (hsl _ hno),I9 _ _ _ (hsl _ (fun q3 X9=>hno q3 (cH X9)))]
 have a6Q:∀i∈L,∃(o:Oper) (p:Cp),l.toArray[i]?=some o/\ps[i]?=some p/\p.obs=[]/\p.up=none/\a1C P Γ X l ((ps.filterMap Cp.sl).reverse++st.σ) st.H i:=by
  intro i hi;have hin:=I7 i hi;have h1:=bB.1 hL i hi;obtain⟨o,p,ho,hp,hd,hc,_⟩:=hop i hin;simp only[ho,aY]at h1;have hg:o.guard=none:=by simpa using h1.2.1
  have hst:=hstill i hi o (by simpa using ho);rcases hc with⟨t,hpt,Ya,hdt,htn,hc⟩|⟨_,_,hdt,_⟩
  ·have hc:MU P st.H (((ps.take i).filterMap Cp.sl).reverse++st.σ) o p:=by
    rcases hc with⟨_,hc⟩|⟨_,_,_,_,hg',_⟩|⟨_,_,_,hg',_⟩
    ·exact hc
    ·rw[hg]at hg';cases hg'
    ·rw[hg]at hg';cases hg'
   have hpv:pv P ⟨((ps.take i).filterMap Cp.sl).reverse++st.σ,st.H⟩ o.op=some p.d/\p.obs=[]:=by
    rcases hc with(hc|⟨f,xs,ts,ds,ms,d,X5,_⟩)| (⟨T,zs,X5,_⟩|⟨T,x,ds,X5,_⟩)|⟨T,e,sz,len,parts,zs,ds,es,X5,_⟩|⟨T,e,sz,len,parts,zs,ds,X5,_⟩
    ·exact hc
    all_goals(rw[X5]at hst;simp[F4]at hst)
   refine⟨o,p,ho,hp,hpv.2,Ya,o,t,p.d,ho,hg,hdt,htn,?_,?_⟩
   ·exact MB (ps.filterMap Cp.sl).reverse st.σ (t,p.d) (by rw[e9];exact cF.2 ⟨p,aC hp,by simp[Cp.sl,hpt]⟩) (fun q2 MP M8=>I4 i p t hp hpt q2 (by simpa using MP) M8)
   ·intro σ' H' hX VF;have e1:pv P ⟨(ps.filterMap Cp.sl).reverse++st.σ,st.H⟩ o.op=some p.d:=Tx (fun _ _ h=>h) (Qe (st:=⟨_,st.H⟩) (xw:=⟨_,st.H⟩) (ops:=l.toArray) (o:=o) (fun t ht=>hlk i o hin ho t ht)) hpv.1;refine a3d hX hst ?_ e1;intro x hx;rw[V5 σ' H' st.H x];exact(Qe (st:=⟨σ',st.H⟩) (xw:=⟨_,st.H⟩) (ops:=l.toArray) (o:=o) (fun t ht=>VF t ht) x hx).symm
  ·have:o.dst.isSome=true:=h1.2.2;rw[hdt]at this;cases this
 intro κ Θ a w hs;have switch:∀(f:Nat) (listed:Array Bool) (σ':List (Nat×D)) (H':bX) (κ:Nat->Option Value) (Θ:Nat->Nat) (a:Act) (w:World),HeadInv .any l.toArray n listed->
  ((List.range n).filter fun i=> !listed.getD i false).length=f->
  (∀(i:Nat) p t,ps[i]?=some p->p.t=some t->listed.getD i false=true->lk σ' t=p.d)->
  (∀t,(∀(i:Nat) p,ps[i]?=some p->listed.getD i false=true->p.t≠some t)->lk σ' t=lk st.σ t)->
  H'.length=st.H.length+(ps.flatMap Cp.obs).length->Ext st.H H'->
  (∀(i:Nat) p,ps[i]?=some p->listed.getD i false=true->∀(j:Nat) o,p.obs[j]?=some o->(∀(i2:Nat) q ob,ps[i2]?=some q->listed.getD i2 false=true->q.up≠some (p.r+j,ob))->H'[p.r+j]?=some o)->
  (∀(i:Nat) q id ob,ps[i]?=some q->listed.getD i false=true->q.up=some (id,ob)->H'[id]?=some ob/\∃v,κ id=some v)->
  (∀(i:Nat) p,ps[i]?=some p->listed.getD i false=false->∀j,j<p.obs.length->κ (p.r+j)=none)->
  eO Γ ⟨σ',H'⟩ κ Θ a w->(∀i,i<n->i∉L->listed.getD i false=true)->
  wpAny P .any l.toArray (fun e a' w'=>∃xw κ' Θ',eO Γ xw κ' Θ' a' w'/\Q e xw) (f+(l.toArray.size-n)) listed a w:=by
  intro f listed σ' H' κ Θ a w inv pO hA hB hHl hHe YW hHu YV hs hN;have a6C:∀(i:Nat) p,ps[i]?=some p->(p.up≠none\/p.obs≠[])->listed.getD i false=true:=by
   intro i p hp hne;have hi:i<n:=by have:=(aH.1 hp).1;omega
   refine hN i hi fun hiL=>?_
   obtain⟨_,p',_,hp',h1,h2,_⟩:=a6Q i hiL;rw[hp]at hp';cases hp';rcases hne with h|h
   ·exact h h2
   ·exact h h1
  have Oj:∀t,(∀i∈L,∀o,l.toArray[i]?=some o->listed.getD i false=false->o.dst≠some t)->lk σ' t=lk ((ps.filterMap Cp.sl).reverse++st.σ) t:=by
   intro t hno;by_cases hex:∃(i:Nat) (p:Cp),ps[i]?=some p/\p.t=some t
   ·obtain⟨i,p,hp,hpt⟩:=hex;have hi:i<n:=by have:=(aH.1 hp).1;omega
    have hli:listed.getD i false=true:=by
     cases hl:listed.getD i false with
     |true=>rfl
     |false=>
      obtain⟨o,p',ho,hp',hd,_⟩:=hop i hi;rw[hp]at hp';cases hp';by_cases hiL:i∈L
      ·exact absurd (by rw[hd,hpt]) (hno i hiL o ho hl)
      ·rw[hN i hi hiL]at hl;cases hl
    rw[hA i p t hp hpt hli];exact(MB (ps.filterMap Cp.sl).reverse st.σ (t,p.d) (by rw[e9];exact cF.2 ⟨p,aC hp,by simp[Cp.sl,hpt]⟩) (fun q hq he=>I4 i p t hp hpt q (by simpa using hq) he)).symm
   ·rw[hB t (fun i p hp _ he=>hex ⟨i,p,hp,he⟩),I9];intro q hq he;obtain⟨p,hp,hps⟩:=cF.1 (e9.1 hq);obtain⟨i,hi,hpi⟩:=eS.1 hp;refine hex ⟨i,p,by rw[<-hpi];exact ai hi,?_⟩;unfold Cp.sl at hps;cases hpt:p.t with
    |none=>rw[hpt]at hps;cases hps
    |some u=>rw[hpt]at hps;simp only[cc,az]at hps;subst hps;simp only at he;rw[he]
  have a1Z:H'=st.H++Pd:=by
   apply oF;intro k;by_cases h1:k<st.H.length
   ·rw[b9 h1];exact hHe k _ (ai h1)|>.trans (ai h1).symm
   ·rw[bE (by omega)];by_cases hex:∃(i:Nat) (q:Cp) (ob:Ob),ps[i]?=some q/\q.up=some (k,ob)
    ·obtain⟨i,q,ob,hq,he⟩:=hex;rw[(hHu i q k ob hq (a6C i q hq (.inl (by rw[he];simp))) he).1,hFu i q k ob hq he]
    ·have hno:∀(i:Nat) q ob,ps[i]?=some q->q.up≠some (k,ob):=fun i q ob hq he=>hex ⟨i,q,ob,hq,he⟩
     rw[hFo (k-st.H.length) (fun i q ob hq=>by rw[show st.H.length+(k-st.H.length)=k from by omega];exact hno i q ob hq)];by_cases h2:k-st.H.length<(ps.flatMap Cp.obs).length
     ·obtain⟨i,p,j,hp,hj,hk⟩:=BR h2;have e3:p.r+j=k:=by rw[X8 i p hp];omega
      have h3:=YW i p hp (a6C i p hp (.inr (by intro e;rw[e]at hj;simp at hj))) j _ (ai hj) (fun i2 q ob hq _=>by rw[e3];exact hno i2 q ob hq);rw[e3]at h3;rw[h3,sK hp,hk,bE (by omega),eA,b9 hj,ai hj]
     ·rw[ck (by omega),ck (by omega)]
  subst a1Z;have hsz:=inv.size;have hcm:((List.range m).filter fun i=> !listed.getD i false).length=f+(m-n):=by
   have:=PS (p:=fun i=> !listed.getD i false) (n:=n) (m-n) (fun i h1 h2=>by
    have:=getD_both (inv.tail i h1 (by omega));simp only[this];rfl)
   rw[show n+(m-n)=m from by omega]at this;rw[this,pO]
  have:=V0 (Q:=Q) (H0:=st.H) hB0 (fun i hi=>by obtain⟨_,_,_,_,_,_,h⟩:=a6Q i hi;exact h) (f+(m-n)) 0 ⟨(ps.filterMap Cp.sl).reverse++st.σ,st.H++Pd⟩ listed σ' κ Θ a w
   ⟨hsz,inv.closed,fun t h1 h2=>absurd h2 (by omega)⟩ hN (by omega) (fun i h1 h2=>absurd h2 (by omega)) (fun i h1 h2=>getD_both (inv.tail i (by omega) h2)) hcm (fun _ _=>rfl)
   ((Bi.refl _).app _) (by simpa using hK) Oj hs
  rw[show f+(m-n)+(l.toArray.size-m)=f+(l.toArray.size-n)from by omega]at this;exact this
 have main:∀(f:Nat) (listed:Array Bool) (σ':List (Nat×D)) (H':bX) (κ:Nat->Option Value) (Θ:Nat->Nat) (a:Act) (w:World),HeadInv .any l.toArray n listed->
  ((List.range n).filter fun i=> !listed.getD i false).length=f->
  (∀(i:Nat) p t,ps[i]?=some p->p.t=some t->listed.getD i false=true->lk σ' t=p.d)->
  (∀t,(∀(i:Nat) p,ps[i]?=some p->listed.getD i false=true->p.t≠some t)->lk σ' t=lk st.σ t)->
  H'.length=st.H.length+(ps.flatMap Cp.obs).length->Ext st.H H'->
  (∀(i:Nat) p,ps[i]?=some p->listed.getD i false=true->∀(j:Nat) o,p.obs[j]?=some o->(∀(i2:Nat) q ob,ps[i2]?=some q->listed.getD i2 false=true->q.up≠some (p.r+j,ob))->H'[p.r+j]?=some o)->
  (∀(i:Nat) q id ob,ps[i]?=some q->listed.getD i false=true->q.up=some (id,ob)->H'[id]?=some ob/\∃v,κ id=some v)->
  (∀(i:Nat) p,ps[i]?=some p->listed.getD i false=false->∀j,j<p.obs.length->κ (p.r+j)=none)->
  eO Γ ⟨σ',H'⟩ κ Θ a w->
  wpAny P .any l.toArray (fun e a' w'=>∃xw κ' Θ',eO Γ xw κ' Θ' a' w'/\Q e xw) (f+(l.toArray.size-n)) listed a w:=by
  intro f
  induction f with
  |zero=>
   intro listed σ' H' κ Θ a w inv pO hA hB hHl hHe YW hHu YV hs;have hall:∀i,i<n->listed.getD i false=true:=by
    intro i hi;have h0:=cg pO;cases hl:listed.getD i false with
    |true=>rfl
    |false=>
     have:i∈(List.range n).filter fun i=> !listed.getD i false:=gA.2 ⟨bq.2 hi,by simp[hl]⟩
     rw[h0]at this;cases this
   exact switch 0 listed σ' H' κ Θ a w inv pO hA hB hHl hHe YW hHu YV hs (fun i hi _=>hall i hi)
  |succ f ih=>
   intro listed σ' H' κ Θ a w inv pO hA hB hHl hHe YW hHu YV hs;by_cases hsw:∀i,i<n->i∉L->listed.getD i false=true
   ·exact switch (f+1) listed σ' H' κ Θ a w inv pO hA hB hHl hHe YW hHu YV hs hsw
   have aDJ:∃i,i<n/\i∉L/\listed.getD i false=false:=by
    obtain⟨i,hi⟩:=Classical.not_forall.1 hsw;refine⟨i,?_⟩;by_cases h1:i<n
    ·by_cases h2:i∈L
     ·exact absurd (fun _ h=>absurd h2 h) hi
     ·refine⟨h1,h2,?_⟩;cases hl:listed.getD i false with
      |false=>rfl
      |true=>exact absurd (fun _ _=>hl) hi
    ·exact absurd (fun h=>absurd h h1) hi
   have hun:∃i,i<n/\listed.getD i false=false:=by
    have hne:((List.range n).filter fun i=> !listed.getD i false)≠[]:=by
     intro h0;rw[h0]at pO;simp at pO
    obtain⟨i,hi⟩:=xE _ hne;obtain⟨h1,h2⟩:=gA.1 hi;exact⟨i,bq.1 h1,by simpa using h2⟩
   have hsz:=inv.size;rw[show f+1+(l.toArray.size-n)=(f+(l.toArray.size-n))+1 from by omega];refine⟨fun h0=>?_,fun i hi=>?_⟩
   ·exfalso;obtain⟨i,⟨hin,WM⟩,hmin⟩:=exists_least (p:=fun i=>i<n/\listed.getD i false=false) hun;obtain⟨o,p,ho,_,_,_⟩:=hop i hin;have:i∈Region.ready .any l.toArray listed:=by
     refine mem_ready.2 ⟨getD_in (by rw[hsz];omega) WM,o,ho,fun e he hb=>?_⟩;have:=bB.1 PE i (bq.2 hin);simp only[ho,aY]at this;have:=yB.1 this.1.1 e he;simp only[hb,bP,pR,bJ]at this;cases hl:listed.getD e.on false with
     |true=>rfl
     |false=>
      have:=hmin e.on ⟨by omega,hl⟩;omega
    rw[h0]at this;cases this
   ·obtain⟨i0,hi0,hl0⟩:=hun;have hin:i<n:=by
     rcases eR i n with h|h
     ·exact h
     ·obtain⟨i1,hi1,aCm,hl1⟩:=aDJ;obtain⟨_,oi,hoi,_⟩:=mem_ready.1 hi;have Ex:i<l.toArray.size:=(bL.1 hoi).1;exfalso;rcases eR i m with hm1|hm1
      ·have h1:=bB.1 hmid (i-n) (bq.2 (by omega));have h2:=bB.1 h1 i1 (bq.2 (by omega));rw[show n+(i-n)=i from by omega]at h2;simp only[om]at h2;rcases h2 with h2|h2
       ·rw[AL inv.closed hi h2]at hl1;cases hl1
       ·exact aCm (by simpa using h2)
      ·have h1:=bB.1 a1s (i-m) (bq.2 (by omega));have h2:=bB.1 h1 i1 (bq.2 (by omega));rw[show m+(i-m)=i from by omega]at h2;rw[AL inv.closed hi h2]at hl1;cases hl1
    obtain⟨o,p,ho,hp,hd,hc,_⟩:=hop i hin;obtain⟨WM,o',ho',hall⟩:=mem_ready.1 hi;rw[ho]at ho';cases ho';have DA:=getD_both WM;have hc':wG P Γ l.toArray st.H σ' o p:=by
     refine wG.congr (σ:=((ps.take i).filterMap Cp.sl).reverse++st.σ) (σ':=σ') ?_ hc;intro t ht;have Nb:=bB.1 PE i (bq.2 hin);simp only[ho,aY]at Nb;have Nb:=bB.1 Nb.1.2 t ht;by_cases hex:∃(j:Nat) (q:Cp),ps[j]?=some q/\q.t=some t
     ·obtain⟨j,q,hq,Pn⟩:=hex;have hj:j<n:=by have:=(aH.1 hq).1;omega
      obtain⟨oj,q',AM,Rz,hdj,_⟩:=hop j hj;rw[hq]at Rz;cases Rz;have:=bB.1 Nb j (bq.2 hj);simp only[AM,hdj,Pn,cy,bP,pR,aY,bJ]at this;obtain⟨hji,a1w⟩:=this;obtain⟨oi',a1p,e,he,hb,hon⟩:=Region.waitsFor_spec a1w;rw[ho]at a1p;cases a1p;have hjl:=hall e he hb;rw[hon]at hjl;rw[hA j q t hq Pn hjl];refine MB ((ps.take i).filterMap Cp.sl).reverse st.σ (t,q.d) ?_ (fun q2 MP M8=>I4 j q t hq Pn q2 ?_ M8)
      ·rw[e9];exact cF.2 ⟨q,aC (i:=j) (by rw[cK,bS hji];exact hq),by simp[Cp.sl,Pn]⟩
      ·obtain⟨q3,X9,AN⟩:=cF.1 (e9.1 MP);exact cF.2 ⟨q3,cH X9,AN⟩
     ·rw[hB t (fun j q hq _ he=>hex ⟨j,q,hq,he⟩),I9];intro q hq he;obtain⟨q3,X9,AN⟩:=cF.1 (e9.1 hq);obtain⟨j,hj,hqj⟩:=eS.1 (cH X9);refine hex ⟨j,q3,by rw[<-hqj];exact ai hj,?_⟩;unfold Cp.sl at AN;cases hpt:q3.t with
      |none=>rw[hpt]at AN;cases AN
      |some u=>rw[hpt]at AN;simp only[cc,az]at AN;subst AN;simp only at he;rw[he]
    have hfp:=hfit i p hp;have a1i:∀id ob,p.up=some (id,ob)->∃v,κ id=some v:=by
     intro id ob he;rcases hc' with⟨_,_,h,_⟩|⟨_,_,_,_,T,x,y,id',ds,X5,hx',_,_,_,_,Ya⟩
     ·rw[h]at he;cases he
     ·rw[Ya]at he;cases he;obtain⟨b1,r1,_⟩:=hs.ev x;rw[V5 σ' H' st.H x,hx']at r1;obtain⟨g,hk,_⟩:=r1.Cr;exact⟨_,hk⟩
    have a1t:∀id ob,p.up=some (id,ob)->∃zs ds,H'[id]?=some (.box zs)/\ob=.box ds/\zs.length=ds.length:=by
     intro id ob he;obtain⟨u1,⟨zs,ds,u2,u3,u4⟩,_⟩:=TU i p id ob hp he;refine⟨zs,ds,?_,u2,u3⟩;obtain⟨i1,p1,j1,hp1,KN,hk1⟩:=BR (aH.1 u4).1;have X6:ps[i1]?=some p1:=by
      have:=(aH.1 hp1).1;rw[cK]at hp1;split at hp1
      ·exact hp1
      ·cases hp1
     have hi1:i1<i:=by have:=(aH.1 hp1).1;simp at this;omega
     have et:(ps.take i).take i1=ps.take i1:=by rw[wD,fE (by omega)]
     rw[et]at hk1;have e1:p1.r+j1=id:=by rw[X8 i1 p1 X6];omega
     have CN:p1.obs[j1]?=some (.box zs):=by
      rw[sK hp1,et,hk1,bE (by omega),eA,b9 KN]at u4;exact u4
     have hl1:listed.getD i1 false=true:=by
      cases hl:listed.getD i1 false with
      |true=>rfl
      |false=>
       have h0:=YV i1 p1 X6 hl j1 KN;rw[e1]at h0;obtain⟨v,hv⟩:=a1i id ob he;rw[h0]at hv;cases hv
     have:=YW i1 p1 X6 hl1 j1 _ CN (fun i2 q DJ hq hl M8=>by
      rw[e1]at M8;have:=a1u i i2 p q id ob DJ hp hq he M8;subst this;rw[DA]at hl;cases hl)
     rw[e1]at this;exact this
    refine hc'.wp hs hHe ho (by omega) (fun j hj=>YV i p hp DA j hj) a1t fun κ' Θ' a' w' hs' hsame=>?_
    have qu:∀(j:Nat),(listed.setIfInBounds i true).getD j false=true↔(j=i\/listed.getD j false=true):=by
     intro j;by_cases e:i=j
     ·subst e;have:i<listed.size:=by rw[hsz];omega
      simp[this]
     ·rw[getD_set_ne false e];constructor
      ·exact .inr
      ·rintro(rfl|h)
       ·exact absurd rfl e
       ·exact h
    have hput:(p.DF H').length=H'.length:=by
     unfold Cp.DF;split
     ·simp
     ·exact xA (by omega)
    have a7h:∀(k:Nat),k<st.H.length->(p.DF H')[k]?=H'[k]?:=by
     intro k hk;unfold Cp.DF;split
     ·rename_i id ob he;have:=(TU i p id ob hp he).1;rw[cG (by omega)]
     ·rw[x9 (by omega),bS (by rw[X8 i p hp];omega)]
    refine ih (listed.setIfInBounds i true) (p.slot σ') (p.DF H') κ' Θ' a' w' (inv.set hi hin) ?_ ?_ ?_ (by rw[hput];exact hHl) ?_ ?_ ?_ ?_ hs'
    ·have Zl:((List.range n).filter fun j=> !(listed.setIfInBounds i true).getD j false)=((List.range n).filter fun j=> !listed.getD j false).erase i:=by
      have hnd:((List.range n).filter fun j=> !listed.getD j false).Nodup:=zy _ DN;rw[hnd.erase_eq_filter,yC];apply yh;intro j _;by_cases e:j=i
      ·subst e;have:=(qu j).2 (.inl rfl);rw[this];simp
      ·rw[getD_set_ne false (uA e)];simp[e]
     rw[Zl,rj (gA.2 ⟨bq.2 hin,by simp[DA]⟩),pO];rfl
    ·intro j q t hq Pn hl;unfold Cp.slot;rcases(qu j).1 hl with rfl|Ey
     ·rw[hp]at hq;cases hq;rw[Pn];simp[lk]
     ·cases hpt:p.t with
      |none=>exact hA j q t hq Pn Ey
      |some u=>
       simp only[lk];rw[bH,hA j q t hq Pn Ey];intro e;have:=hdist j i q p t hq hp Pn (by rw[hpt,e]);subst this;rw[DA]at Ey;cases Ey
    ·intro t ht;unfold Cp.slot;have xp:=hB t (fun j q hq hl=>ht j q hq ((qu j).2 (.inr hl)));cases hpt:p.t with
     |none=>exact xp
     |some u=>
      simp only[lk];rw[bH (fun e=>ht i p hp ((qu i).2 (.inl rfl)) (by rw[hpt,e]))];exact xp
    ·intro j y hj;rw[a7h j (aH.1 hj).1];exact hHe j y hj
    ·intro j q hq hl k y hy hno;have hkl:=(aH.1 hy).1;unfold Cp.DF;split
     ·rename_i id ob he;have hne:q.r+k≠id:=fun e=>hno i p ob hp ((qu i).2 (.inl rfl)) (by rw[e];exact he)
      rw[cG (uA hne)];rcases(qu j).1 hl with rfl|Ey
      ·rw[hp]at hq;cases hq;rw[a1v j p id ob hp he]at hy;simp at hy
      ·exact YW j q hq Ey k y hy (fun i2 q2 DJ MP hl3=>hno i2 q2 DJ MP ((qu i2).2 (.inr hl3)))
     ·rw[x9 (by omega)];rcases(qu j).1 hl with rfl|Ey
      ·rw[hp]at hq;cases hq;rw[bH (by omega),bS (by omega),eA];exact hy
      ·have hne:j≠i:=fun e=>by subst e;rw[DA]at Ey;cases Ey
       have h3:=YW j q hq Ey k y hy (fun i2 q2 DJ MP hl3=>hno i2 q2 DJ MP ((qu i2).2 (.inr hl3)));rcases yD hne with h|h
       ·have:=TP j i q p hq hp h;rw[bS (by omega)];exact h3
       ·have:=TP i j p q hp hq h;rw[bH (by omega),bH (by omega)];exact h3
    ·intro j q id ob hq hl he;rcases(qu j).1 hl with rfl|Ey
     ·rw[hp]at hq;cases hq;obtain⟨zs,ds,z1,_⟩:=a1t id ob he;have hlt:=(aH.1 z1).1;refine⟨by simp only[Cp.DF,he];rw[dX hlt],?_⟩;obtain⟨v,hv⟩:=a1i id ob he;refine⟨v,?_⟩;rw[hsame id (by rw[a1v j p id ob hp he];simp;omega)];exact hv
     ·obtain⟨h1,v,hv⟩:=hHu j q id ob hq Ey he;have hout:id<p.r\/p.r+p.obs.length<=id:=by
       rcases eR id p.r with h|h
       ·exact .inl h
       ·rcases eR id (p.r+p.obs.length)with h2|h2
        ·have:=YV i p hp DA (id-p.r) (by omega);rw[show p.r+(id-p.r)=id from by omega,hv]at this;cases this
        ·exact .inr h2
      refine⟨?_,v,by rw[hsame id hout];exact hv⟩;unfold Cp.DF;split
      ·rename_i id2 DJ M8;have hne:id2≠id:=fun e=>by
        subst e;have:=a1u i j p q id2 DJ ob hp hq M8 he;subst this;rw[DA]at Ey;cases Ey
       rw[cG hne];exact h1
      ·rw[x9 (by omega)];rcases hout with h|h
       ·rw[bS h];exact h1
       ·rw[bH (by omega),bH (by omega)];exact h1
    ·intro j q hq hl k hk;have hne:j≠i:=fun e=>by
      subst e;have:=(qu j).2 (.inl rfl);rw[this]at hl;cases hl
     have Ey:listed.getD j false=false:=by
      cases h:listed.getD j false with
      |false=>rfl
      |true=>have:=(qu j).2 (.inr h);rw[this]at hl;cases hl
     have h3:=YV j q hq Ey k hk;rw[hsame,h3];rcases yD hne with h|h
     ·have:=TP j i q p hq hp h;omega
     ·have:=TP i j p q hp hq h;omega
 have a8N:HeadInv .any l.toArray n (Array.replicate l.toArray.size false):=
  ⟨by simp,fun j oj _ hl=>(by rw[getD_replicate_false]at hl;cases hl),fun t _ ht=>getD_in (by simpa using ht) (getD_replicate_false _ _)⟩
 have pO:((List.range n).filter fun i=> !(Array.replicate l.toArray.size false).getD i false).length=n:=by
  rw[List.filter_eq_self.2]
  ·simp
  ·intro i _;rw[getD_replicate_false];rfl
 have:=main n (Array.replicate l.toArray.size false) st.σ (st.H++List.replicate (ps.flatMap Cp.obs).length .gone) κ Θ a w a8N pO (fun i p t _ _ hl=>by rw[getD_replicate_false]at hl;cases hl) (fun t _=>rfl)
  (by simp) (fun i o h=>by rw[b9 (aH.1 h).1];exact h) (fun i p _ hl=>by rw[getD_replicate_false]at hl;cases hl)
  (fun i q id ob _ hl=>by rw[getD_replicate_false]at hl;cases hl)
  (fun i p hp _ j _=>hs.rX _ (by rw[X8 i p hp];omega)) (hs.room _)
 rw[show n+(l.toArray.size-n)=l.toArray.size from by omega]at this;exact this
def PM(X:af)(st:St)(op:Op)(A:eo):Bool:=match op with
 | .buildSlice _ _ _=>true
 | .build _ _=>true
 | .extract _ _=>true
 | .field _ _ _=>true
 | .move _=>true
 | .indexAddr _ x _=>(R4 st (st.ev x)).isNone
 | .load _ x=>(Ti st (st.ev x)).isNone&&(match st.ev x,A with| .op id _ _ _,.tk _::_=>X.contains id|_,_=>true)
 | .store _ x _=>(match st.ev x with| .ptr id _=>X.contains id|_=>false)
 | .call c=>(match c.callee,A with
  | .builtin .append,_=>true
  | .value (.func _),.d _::_=>true
  | .value (.func _),.gp _ _ _::_=>(match c.args.toList with|x::_=>(match st.ev x with| .ptr id _=>X.contains id|_=>false)| []=>false)
  |_,_=>false)
 |_=>false
def VA(X:af)(H H':bX):Bool:=(List.range H.length).all fun i=>X.contains i||(match H[i]? with|some .gone=>true|_=>(match H'[i]? with|some .gone=>false|_=>true))
def RD(P:Program)(nt:Nat)(X:af):List Oper->St->eo->Option (St×eo×EJ)
 | [],st,A=>some (st,A,[])
 |o::rest,st,A=>match o.guard,PM X st o.op A with
  |none,true=>(match KZ P nt o st A with
   |some (AX,A1,p)=>(match VA X st.H AX.H,RD P nt X rest AX A1 with|true,some (RZ,A2,q)=>some (RZ,A2,p++q)|_,_=>none)
   |none=>none)
  |_,_=>none
theorem VR{H:bX}{ms:af}{i:Nat}(h:i∈ms)(hl:i<H.length):(kill H ms)[i]?=some .gone:=by
 induction ms generalizing H with
 |nil=>cases h
 |cons m ms ih=>
  show(kill (H.set m .gone) ms)[i]?=_;by_cases hi:i∈ms
  ·exact ih hi (by simpa using hl)
  ·rw[ju hi];rcases bM.1 h with rfl|h
   ·rw[dX hl]
   ·exact absurd h hi
theorem YU{X:af}{H H':bX}(h:VA X H H'=true){i:Nat}{o:Ob}(hi:i∉X)(ho:H[i]?=some o)(hg:H'[i]?=some .gone):o=.gone:=by
 have h1:=bB.1 h i (bq.2 (aH.1 ho).1);rw[ho,hg,List.contains_eq_mem,bA hi,pR]at h1;cases o<;>first|rfl|cases h1
theorem VQ{X:af}{H:bX}{ms:af}{n:bX}(h:VA X H (kill H ms++n)=true):Bi X H (kill H ms++n):=by
 intro i o hi ho;have hl:=(aH.1 ho).1;have e:(kill H ms++n)[i]?=(kill H ms)[i]?:=b9 (by rw[iK];exact hl);by_cases hm:i∈ms
 ·have e2:=e.trans (VR hm hl);rw[e2,YU h hi ho e2]
 ·rw[e,ju hm,ho]
theorem Zu{X:af}{H:bX}{ms:af}{n:bX}{id:Nat}{b:Ob}(hid:id∈X)(h:VA X H ((kill H ms).set id b++n)=true):Bi X H ((kill H ms).set id b++n):=by
 intro i o hi ho;have hne:id≠i:=fun e=>hi (e▸hid)
 have hl:=(aH.1 ho).1;have e:((kill H ms).set id b++n)[i]?=(kill H ms)[i]?:=by
  rw[b9 (by rw[bf,iK];exact hl),cG hne]
 by_cases hm:i∈ms
 ·have e2:=e.trans (VR hm hl);rw[e2,YU h hi ho e2]
 ·rw[e,ju hm,ho]
theorem a3a{X:af}{nt:Nat}{o:Oper}{A A1:eo}{AX:St}{p:EJ}(hk:PM X st o.op A=true)(hgn:VA X st.H AX.H=true)(h:KZ P nt o st A=some (AX,A1,p)):((∃t d,o.dst=some t/\t<nt/\AX.σ=(t,d)::st.σ)\/(o.dst=none/\AX.σ=st.σ))/\Bi X st.H AX.H:=by
 have plain:∀ {t:Nat},o.dst=some t->(if t<nt then match KC P st o.op A with|some (d,A,ow)=>some ((⟨(t,d)::st.σ,st.H⟩:St),A,ow)|none=>none else none)=some (AX,A1,p)->((∃t d,o.dst=some t/\t<nt/\AX.σ=(t,d)::st.σ)\/(o.dst=none/\AX.σ=st.σ))/\Bi X st.H AX.H:=by
  intro t hd h;split at h
  ·rename_i ht;split at h
   ·cases h;exact⟨.inl ⟨t,_,hd,ht,rfl⟩,Bi.refl _⟩
   ·cases h
  ·cases h
 unfold KZ at h;split at h
 case h_3=>
  rename_i T x y hop hd;rw[hop]at hk;simp only[PM]at hk;split at h
  ·rename_i id off ds h1 h2;rw[h1]at hk;split at h
   ·split at h
    ·split at h
     ·cases h;refine⟨.inr ⟨hd,rfl⟩,fun i cs hi hcs=>?_⟩;have hne:id≠i:=fun e=>hi (by subst e;simpa using hk)
      show(st.H.set id _)[i]?=_;rw[cG hne,hcs]
     ·cases h
    ·cases h
   ·cases h
  ·rename_i id i sz off ds h1 h2;rw[h1]at hk;cases hk
  ·cases h
 case h_7=>
  rename_i T len parts t hop hd;split at h
  ·split at h
   ·split at h
    ·split at h
     ·rename_i es ms hab;split at h
      ·rename_i hc;cases h;exact⟨.inl ⟨t,_,hd,hc.1,rfl⟩,VQ hgn⟩
      ·cases h
     ·cases h
    ·cases h
   ·cases h
  ·cases h
 case h_8=>
  rename_i c t hop hd;rw[hop]at hk;simp only[PM]at hk;split at h
  ·split at h
   ·split at h
    ·rename_i rows u1 k1 fo u2 k2 A' ow _ hS hX;split at h
     ·rename_i hc;cases h;exact⟨.inl ⟨t,_,hd,hc.1,rfl⟩,VQ hgn⟩
     ·cases h
    ·cases h
   ·cases h
  ·rename_i a7a _ _;rw[a7a]at hk;cases hk
  ·rename_i f a7a;rw[a7a]at hk;split at hk
   ·rename_i hb;cases hb
   ·rename_i f' d A' hb;split at h
    ·rename_i hA;cases hA
    ·rename_i hA;cases hA
    ·rename_i hA;cases hA
    ·rename_i hA;cases hA
    ·rename_i hA;cases hA
    ·rename_i hA;cases hA
    ·rename_i ds ms d' A'' hv hA;split at h
     ·rename_i hc;cases h;exact⟨.inl ⟨t,_,hd,hc.1,rfl⟩,(Bi.refl _).app _⟩
     ·cases h
    ·rename_i hA;cases hA
    ·cases h
   ·rename_i f' nz cells' d A' hb;generalize MM st.H (List.map st.ev c.args.toList)=q at h;rcases q with _|⟨qa,qb⟩
    all_goals
     dsimp only at h;split at h
     ·rename_i x0 xr h5;rw[h5]at hk;split at h
      ·rename_i id h6;simp only[h6]at hk;split at h
       ·rename_i ob h7;split at h
        ·rename_i OK h8;split at h
         ·rename_i cells ds ms qs h9;split at h
          ·rename_i hc;cases h;exact⟨.inl ⟨t,_,hd,hc.1,rfl⟩,Zu (by simpa using hk) hgn⟩
          ·cases h
         ·cases h
        ·cases h
       ·cases h
      ·cases h
     ·cases h
   ·cases hk
  ·exact plain hd h
 case h_13=>
  rename_i T x i t hop hd;rw[hop]at hk;simp only[PM]at hk;split at h
  ·rename_i hl;rw[hl]at hk;cases hk
  ·exact plain hd h
 case h_14=>
  rename_i T x t hop hd;rw[hop]at hk;simp only[PM]at hk;split at h
  ·rename_i hl;rw[hl]at hk;cases hk
  ·rw[aY]at hk
   replace hk:=hk.2
   split at h
   ·rename_i r A' id i sz h1;split at h
    ·rename_i n e sz' rows h2;split at h
     ·rename_i hc;cases h;refine⟨.inl ⟨t,_,hd,hc.1,rfl⟩,Bi.app (fun j cs hj hcs=>?_) _⟩;have hne:id≠j:=fun e=>hj (by subst e;rw[h1]at hk;simpa using hk)
      rw[cG hne];exact hcs
     ·cases h
    ·cases h
   ·exact plain hd h
 all_goals first
  | (rename_i hop _;rw[hop]at hk;simp[PM]at hk;done)
  | (rename_i hop;rw[hop]at hk;simp[PM]at hk;done)
  |skip
 all_goals first
  |exact plain (by assumption) h
  |cases h
theorem Step.of{nt:Nat}(hnt:Γ.nt=nt){o:Oper}{A A1:eo}{AX:St}{p:EJ}(hg:o.guard=none)(hsel:∀cs b,o.op≠ .select cs b)(h:KZ P nt o st A=some (AX,A1,p))(hp:zc p):Step P Γ o st AX:=by
 intro κ Θ a w hs;have h1:=T7 (P:=P) (Γ:=Γ) (all:= #[]) (rest:=[]) (Q:=fun e s=>e=.normal/\s=AX) hnt hg h hp (a7G ⟨rfl,rfl⟩) κ Θ a w hs;have hw:Region.wanted o (yielded #[] a.tmps)=true:=by simp[Region.wanted,hg]
 simp only[wpList,hw,sN]at h1;rcases h1 with h1|⟨_,a0,w0,xw,κ',Θ',_,hq,_⟩
 ·refine WE hsel (fun _ _=>rfl) ?_ ?_ ?_ h1
  ·rintro v w' ⟨xw,κ',Θ',hs',_,rfl⟩;exact⟨κ',Θ',hs'⟩
  ·rintro d w' ⟨xw,κ',Θ',hs',_,rfl⟩;have:=hs'.defers;cases hod:o.dst<;>rw[hod]at this<;>cases this
  ·rintro e c w' ⟨xw,κ',Θ',hs',rfl,_⟩;rfl
 ·cases hq
theorem Tm{X:af}{nt:Nat}(hnt:Γ.nt=nt){K:St->Prop}{RZ:St}{A2:eo}:∀ {ops:List Oper} {st:St} {A:eo} {p:EJ},RD P nt X ops st A=some (RZ,A2,p)->zc p->K RZ->a0v P Γ X K ops st:=by
 intro ops
 induction ops with
 |nil=>intro st A p h hp hK;simp only[RD,az,cV]at h;obtain⟨rfl,_,_⟩:=h;exact hK
 |cons o os ih=>
  intro st A p h hp hK;simp only[RD]at h;split at h
  ·rename_i hg hok;split at h
   ·rename_i AX A1 p1 h1;split at h
    ·rename_i a5q A2' q hgn h2;cases h;obtain⟨hp1,hq⟩:=hp.app;obtain⟨hd,hX⟩:=a3a hok hgn h1;have hsel:∀cs b,o.op≠ .select cs b:=by
      intro cs b e;rw[e]at hok;cases hok
     exact⟨AX,hd.imp (fun⟨t,d,hd,ht,hσ⟩=>⟨t,d,hd,by rw[hnt];exact ht,hσ⟩) id,hX,hg,hsel,Step.of hnt hg hsel h1 hp1,ih h2 hq hK⟩
    ·cases h
   ·cases h
  ·cases h
def a3c(X:af)(st:St)(ops:List Oper)(L:af):Bool:=L.all fun i=>match ops[i]? with|some o=>F4 X st o.op|none=>false
theorem a0M{X:af}{st:St}{ops:List Oper}{L:af}(h:a3c X st ops L=true):∀i∈L,∀o,ops[i]?=some o->F4 X st o.op=true:=by
 intro i hi o ho;have:=bB.1 h i hi;rw[ho]at this;exact this
def E6(ρ:af)(o:Oper):Oper:= {o with after:=o.after.map fun e=> {e with on:=ρ.getD e.on 0},guard:=o.guard.map fun g=>(ρ.getD g.1 0,g.2)}
def yA(ops:Array Oper)(π ρ:af):List Oper:=π.filterMap fun i=>(ops[i]?).map (E6 ρ)
def PN(ops:Array Oper)(π ρ:af):Bool:=
 decide (π.length=ops.size)&&(decide (ρ.length=ops.size)&&
 (((List.range ops.size).all fun i=>(match ρ[i]? with|some k=>π[k]?==some i|none=>false))&&
 (((List.range ops.size).all fun k=>(match π[k]? with|some i=>ρ[i]?==some k|none=>false))&&
 (ops.toList.all fun o=>(o.after.all fun e=>decide (e.on<ops.size))&&(match o.guard with|some g=>decide (g.1<ops.size)|none=>true)))))
theorem Qf(ρ:af)(o:Oper)(f:Operand->Value):execOp f (E6 ρ o)=execOp f o:=by
 cases o;rfl
theorem a3u(ρ:af){o:Oper}{K:Act->World->Prop}{Q:Exit->Act->World->Prop}(h:(E6 ρ o).wp P a w K Q):o.wp P a w K Q:=by
 unfold Oper.wp at*;rw[Qf]at h;exact h
theorem We(ρ:af){o:Oper}(h:(E6 ρ o).asks P a w):o.asks P a w:=by
 unfold Oper.asks at*;rw[Qf]at h;exact h
section
variable{ops:Array Oper}{π ρ:af}
theorem RS(hB:PN ops π ρ=true){k i:Nat}{o:Oper}(hk:π[k]?=some i)(ho:ops[i]?=some o):(yA ops π ρ).toArray[k]?=some (E6 ρ o):=by
 simp only[PN,aY,bJ]at hB;obtain⟨h1,h2,h3,h4,h5⟩:=hB;have hall:∀x∈π,∃o,ops[x]?=some o:=by
  intro x hx;obtain⟨j,hj,rfl⟩:=eS.1 hx;have:=bB.1 h4 j (bq.2 (by omega));rw[ai hj]at this;simp only[cj]at this;have:=(aH.1 this).1;exact⟨_,cS (by omega)⟩
 have key:∀(l:af) (k:Nat),(∀x∈l,∃o,ops[x]?=some o)->l[k]?=some i->(l.filterMap fun i=>(ops[i]?).map (E6 ρ))[k]?=some (E6 ρ o):=by
  intro l
  induction l with
  |nil=>intro k _ h;simp at h
  |cons x l ih=>
   intro k hl h;obtain⟨ox,hox⟩:=hl x (by simp);rw[Aw];simp only[hox,cc];cases k with
   |zero=>simp at h;subst h;rw[ho]at hox;cases hox;rfl
   |succ k=>simpa using ih k (fun y hy=>hl y (by simp[hy])) (by simpa using h)
 have:=key π k hall hk;simpa[yA]using this
theorem Vh(hB:PN ops π ρ=true):(yA ops π ρ).toArray.size=ops.size:=by
 have hB':=hB;simp only[PN,aY,bJ]at hB;obtain⟨h1,h2,h3,h4,h5⟩:=hB;have hall:∀x∈π,∃o,ops[x]?=some o:=by
  intro x hx;obtain⟨j,hj,rfl⟩:=eS.1 hx;have:=bB.1 h4 j (bq.2 (by omega));rw[ai hj]at this;simp only[cj]at this;have:=(aH.1 this).1;exact⟨_,cS (by omega)⟩
 have key:∀(l:af),(∀x∈l,∃o,ops[x]?=some o)->(l.filterMap fun i=>(ops[i]?).map (E6 ρ)).length=l.length:=by
  intro l
  induction l with
  |nil=>intro _;rfl
  |cons x l ih=>
   intro hl;obtain⟨ox,hox⟩:=hl x (by simp);rw[Aw];simp only[hox,cc,aK,ih (fun y hy=>hl y (by simp[hy]))]
 rw[Cg,yA,key π hall,h1]
theorem a2o{Q':Exit->Act->World->Prop}(hB:PN ops π ρ=true):∀(fuel:Nat) (listed listed':Array Bool) (a:Act) (w:World),listed.size=ops.size->listed'.size=ops.size->(∀(k i:Nat),π[k]?=some i->listed'.getD k false=listed.getD i false)->
 wpAny P .any (yA ops π ρ).toArray Q' fuel listed' a w->wpAny P .any ops Q' fuel listed a w:=by
 have hB':=hB;simp only[PN,aY,bJ]at hB';obtain⟨h1,h2,h3,h4,h5⟩:=hB';have to:∀i,i<ops.size->∃k,ρ[i]?=some k/\π[k]?=some i/\k<ops.size:=by
  intro i hi;have:=bB.1 h3 i (bq.2 hi);split at this
  ·rename_i k hk;simp only[cj]at this;exact⟨k,hk,this,by have:=(aH.1 this).1;omega⟩
  ·cases this
 have back:∀k,k<ops.size->∃i,π[k]?=some i/\ρ[i]?=some k/\i<ops.size:=by
  intro k hk;have:=bB.1 h4 k (bq.2 hk);split at this
  ·rename_i i hi;simp only[cj]at this;exact⟨i,hi,this,by have:=(aH.1 this).1;omega⟩
  ·cases this
 have rin:∀(i:Nat) o,ops[i]?=some o->(∀e∈o.after,e.on<ops.size)/\∀g,o.guard=some g->g.1<ops.size:=by
  intro i o ho;have hm:o∈ops.toList:=by rw[<-vY]at ho;exact aC ho
  have:=bB.1 h5 o hm;simp only[aY]at this;refine⟨fun e he=>by simpa using yB.1 this.1 e he,fun g hg=>?_⟩;have:=this.2;rw[hg]at this;simpa using this
 have rd:∀(listed listed':Array Bool),listed.size=ops.size->listed'.size=ops.size->(∀(k i:Nat),π[k]?=some i->listed'.getD k false=listed.getD i false)->∀(k i:Nat),π[k]?=some i->(i∈Region.ready .any ops listed↔k∈Region.ready .any (yA ops π ρ).toArray listed'):=by
  intro listed listed' hs1 hs2 WN k i hki;have hk:k<ops.size:=by have:=(aH.1 hki).1;omega
  obtain⟨i',hi',hr,hilt⟩:=back k hk;rw[hki]at hi';cases hi';have ho:ops[i]?=some ops[i]:=cS hilt;have ho':=RS hB hki ho;have hon:∀e∈ops[i].after,listed'.getD (ρ.getD e.on 0) false=listed.getD e.on false:=by
   intro e he;obtain⟨k2,hk2,hk3,_⟩:=to e.on ((rin i _ ho).1 e he);rw[lW,hk2,za];exact WN k2 e.on hk3
  rw[mem_ready,mem_ready];constructor
  ·rintro⟨q1,o,q2,q3⟩;rw[ho]at q2;cases q2;refine⟨getD_in (by omega) (by rw[WN k i hki];exact getD_both q1),_,ho',?_⟩;intro e he hb;simp only[E6,Array.mem_map]at he;obtain⟨e0,he0,rfl⟩:=he;simp only;rw[hon e0 he0];exact q3 e0 he0 hb
  ·rintro⟨q1,o,q2,q3⟩;rw[ho']at q2;cases q2;refine⟨getD_in (by omega) (by rw[<-WN k i hki];exact getD_both q1),_,ho,?_⟩;intro e he hb;rw[<-hon e he];exact q3 {e with on:=ρ.getD e.on 0} (by simp only[E6,Array.mem_map];exact⟨e,he,rfl⟩) hb
 have lt:∀ {listed:Array Bool} {ops:Array Oper} {i:Nat},i∈Region.ready .any ops listed->i<ops.size:=by
  intro listed ops i hi;obtain⟨_,o,ho,_⟩:=mem_ready.1 hi;exact(bL.1 ho).1
 have a6S:∀(listed listed':Array Bool),listed.size=ops.size->listed'.size=ops.size->(∀(k i:Nat),π[k]?=some i->listed'.getD k false=listed.getD i false)->(Region.ready .any ops listed=[]↔Region.ready .any (yA ops π ρ).toArray listed'=[]):=by
  intro listed listed' hs1 hs2 WN;constructor
  ·intro h;rw[zZ];intro k hk;obtain⟨i,hi,_⟩:=back k (by have:=lt hk;rw[Vh hB]at this;exact this);have:=(rd listed listed' hs1 hs2 WN k i hi).2 hk;rw[h]at this;cases this
  ·intro h;rw[zZ];intro i hi;obtain⟨k,_,hk,_⟩:=to i (lt hi);have:=(rd listed listed' hs1 hs2 WN k i hk).1 hi;rw[h]at this;cases this
 intro fuel
 induction fuel with
 |zero=>
  intro listed listed' a w hs1 hs2 WN h;exact⟨(a6S listed listed' hs1 hs2 WN).2 h.1,h.2⟩
 |succ fuel ih=>
  intro listed listed' a w hs1 hs2 WN h;refine⟨fun h0=>h.1 ((a6S listed listed' hs1 hs2 WN).1 h0),fun i hi=>?_⟩;have hilt:=lt hi;obtain⟨k,hrk,hk,aFP⟩:=to i hilt;have hkr:=(rd listed listed' hs1 hs2 WN k i hk).1 hi;have ho:ops[i]?=some ops[i]:=cS hilt;have ho':=RS hB hk ho;have h2:=wpOp_mono (K':=wpAny P .any ops Q' fuel (listed.setIfInBounds i true)) (fun a' w' h'=>ih (listed.setIfInBounds i true) (listed'.setIfInBounds k true) a' w' (by simpa using hs1) (by simpa using hs2) (by
   intro k2 i2 a1h;by_cases e:k=k2
   ·subst e;rw[hk]at a1h;cases a1h;have g1:k<listed'.size:=by omega
    have g2:i<listed.size:=by omega
    simp[g1,g2]
   ·have e2:i≠i2:=by
     intro e3;subst e3;obtain⟨i',hi',hr',_⟩:=back k2 (by have:=(aH.1 a1h).1;omega);rw[a1h]at hi';cases hi';rw[hrk]at hr';cases hr';exact e rfl
    rw[getD_set_ne false e,getD_set_ne false e2];exact WN k2 i2 a1h) h') (h.2 k hkr)
  have hw:Region.wanted (E6 ρ ops[i]) (yielded (yA ops π ρ).toArray a.tmps)=Region.wanted ops[i] (yielded ops a.tmps):=by
   cases hg:ops[i].guard with
   |none=>simp[Region.wanted,E6,hg]
   |some g=>
    obtain⟨j,want⟩:=g;have hj:=(rin i _ ho).2 _ hg;obtain⟨k3,aD8,hk3,_⟩:=to j hj;have AM:ops[j]?=some ops[j]:=cS hj;have aD2:=RS hB hk3 AM;have:yielded (yA ops π ρ).toArray a.tmps (ρ.getD j 0)=yielded ops a.tmps j:=by
     rw[lW,aD8,za];unfold yielded;rw[aD2,AM];rfl
    simp only[Region.wanted,E6,hg,cc];rw[this]
  unfold wpOp at h2⊢;simp only[ho',ho]at h2⊢;rw[hw]at h2;split
  ·rename_i hwt;rw[bS hwt]at h2;exact h2.imp (a3u ρ) fun⟨q1,q2⟩=>⟨We ρ q1,q2⟩
  ·rename_i hwt;rw[bH hwt]at h2;exact h2
theorem S9.perm(hB:PN ops π ρ=true)(h:S9 P Γ (yA ops π ρ).toArray Q st):S9 P Γ ops Q st:=by
 intro κ Θ a w hs;have:=h κ Θ a w hs;rw[Vh hB]at this;refine a2o hB ops.size (Array.replicate ops.size false) (Array.replicate ops.size false) a w (by simp) (by simp) (fun k i _=>?_) this;rw[getD_replicate_false,getD_replicate_false]
end
end
def Ap(P:Program)(nt:Nat)(all:Array Oper):List Oper->St->eo->Option (St×eo×EJ)
 | [],st,A=>(match shares A st with| (AX,A1)=>some (AX,A1,[]))
 |o::rest,st,A=>match o.guard with
  |none=>(match KZ P nt o st A with
   |some (AX,A1,p)=>(match Ap P nt all rest AX A1 with|some (RZ,A2,q)=>some (RZ,A2,p++q)|none=>none)
   |none=>none)
  |some (j,want)=>(match(all[j]?).bind (·.dst),A with
   |some s,.b v::A=>(match lk st.σ s with
    | .bool b=>(match v==want with
     |true=>(match KZ P nt {o with guard:=none} st A with
      |some (AX,A1,p)=>(match Ap P nt all rest AX A1 with|some (RZ,A2,q)=>some (RZ,A2,(b=v)::(p++q))|none=>none)
      |none=>none)
     |false=>(match o.dst with
      |some t=>(if t<nt then match Ap P nt all rest ⟨(t,.gZ [])::st.σ,st.H⟩ A with|some (RZ,A2,q)=>some (RZ,A2,(b=v)::q)|none=>none else none)
      |none=>(match Ap P nt all rest st A with|some (RZ,A2,q)=>some (RZ,A2,(b=v)::q)|none=>none)))
    | .gZ []=>(match o.dst with
     |some t=>(if t<nt then Ap P nt all rest ⟨(t,.gZ [])::st.σ,st.H⟩ A else none)
     |none=>Ap P nt all rest st A)
    |_=>none)
   |_,_=>none)
def YH(P:Program)(H:bX)(r:Nat)(σ:List (Nat×D))(o:Oper)(A:eo):Option (D×bX×eo×EJ):=match o.op with
 | .call c=>(match c.callee with
  | .value (.func f)=>(match MM H (c.args.toList.map (St.ev ⟨σ,H⟩)),A with
   |some (ds,ms),.d d::A=>(if ms=[]\/d.RN=true then some ((rW r d).1,(rW r d).2,A,[Good P f ds d])else none)
   |some (ds,ms),.ds d::A=>(if d.a8Y=true/\d.RN=true then some (d.shV,[],A,[Good P f ds d])else none)
   |_,.nl d::A=>(if(c.args.toList.map (St.ev ⟨σ,H⟩)).all PK=true then some ((rW r d).1,(rW r d).2,A,[Good P f (c.args.toList.map (St.ev ⟨σ,H⟩)) d])else none)
   |_,_=>none)
  |_=>(match KC P ⟨σ,H⟩ o.op A with|some (d,A,ow)=>some (d,[],A,ow)|none=>none))
 | .alloc T=>(match tz P T with|some zs=>some (.ptr r 0,[.box zs],A,[])|none=>none)
 | .box _ x=>(match(St.ev ⟨σ,H⟩ x).cellsOf with|some ds=>some (.ptr r 0,[.box ds],A,[])|none=>none)
 | .buildSlice T len parts=>(match Ia P T with
  |some (e,sz)=>(match tz P e with
   |some zs=>(match AT (vW len sz) (List.replicate len zs).flatten (parts.toList.map fun q=>(q.1,St.ev ⟨σ,H⟩ q.2))with
    |some ds=>(match A with
     | .vw _::A=>(if 0<sz/\len*sz<=16777216/\ds.all D.UW=true/\ds.all D.flat=true then some (.sl (chunk sz len ds),[],A,[])else none)
     |A=>(match OH H ds with
      |some (es,ms)=>(if 0<sz/\len*sz<=16777216/\ms=[]then some (.acc r,[.row (BV (ds.all (Z7 H))) e sz (chunk sz len es)],A,[])else none)
      |none=>none))
    |none=>none)
   |none=>none)
  |none=>none)
 |_=>(match KC P ⟨σ,H⟩ o.op A with|some (d,A,ow)=>some (d,[],A,ow)|none=>none)
def zo(P:Program)(nt:Nat)(all:Array Oper)(H:bX):List Oper->List (Nat×D)->bX->af->eo->Option (List (Nat×D)×bX×eo×EJ)
 | [],σ,acc,_,A=>some (σ,acc,A,[])
 |o::rest,σ,acc,U,A=>match o.dst with
  |none=>(match o.op,o.guard with
   | .store T x y,none=>(match St.ev ⟨σ,H⟩ x,(St.ev ⟨σ,H⟩ y).cellsOf with
    | .ptr id off,some ds=>(match acc[id-H.length]? with
     |some (.box zs)=>(if off=0/\H.length<=id/\id∉U/\UF P T=true/\ds.length=Be P T/\zs.length=ds.length then zo P nt all H rest σ (acc.set (id-H.length) (.box ds)) (id::U) A else none)
     |_=>none)
    |_,_=>none)
   |_,_=>none)
  |some t=>(if t<nt then match o.guard with
   |none=>(match YH P H (H.length+acc.length) σ o A with
    |some (d,obs,A1,p)=>(match zo P nt all H rest ((t,d)::σ) (acc++obs) U A1 with|some (σ2,Uj,A2,q)=>some (σ2,Uj,A2,p++q)|none=>none)
    |none=>none)
   |some (j,want)=>(match(all[j]?).bind (·.dst),A with
    |some s,.b v::A=>(match lk σ s with
     | .bool b=>(match v==want with
      |true=>(match YH P H (H.length+acc.length) σ o A with
       |some (d,obs,A1,p)=>(match zo P nt all H rest ((t,d)::σ) (acc++obs) U A1 with|some (σ2,Uj,A2,q)=>some (σ2,Uj,A2,(b=v)::(p++q))|none=>none)
       |none=>none)
      |false=>(match zo P nt all H rest ((t,.gZ [])::σ) acc U A with|some (σ2,Uj,A2,q)=>some (σ2,Uj,A2,(b=v)::q)|none=>none))
     | .gZ []=>zo P nt all H rest ((t,.gZ [])::σ) acc U A
     |_=>none)
    |_,_=>none)
   else none)
inductive Fr where
 |sq (c:Code)
 |bl (id:Nat)
 |lp
def depth:List Fr->Nat
 | []=>0
 | .lp::K=>depth K+1
 |_::K=>depth K
inductive Cfg where
 |run (c:Code)
 |nor
 |ex (id:Nat)
inductive Stop where
 |ret (d:D)
 |lp (c:Code) (K:List Fr) (st:St)
 |cont (k:Nat) (st:St)
 |at_ (c:Code) (K:List Fr) (st:St)
def a8c(P:Program)(rs:List ResultVar×List (List (Option (Nat×Nat))))(st:St):Option D:=match FI P st rs.1 with
 |some ds=>(match E7 st.H rs.2 ds with|some (es,ms,qs)=>(if ms.Nodup/\qs.Nodup then some (CG es)else none)|none=>none)
 |none=>none
def aCt(A:eo)(m:Nat):Option (af×af):=match A with
 | .hl m' k o::_=>if m'=m then some (k,o)else none
 |_=>none
def Sy(p:EJ)(x:Option (Stop×EJ)):Option (Stop×EJ):=match x with
 |some (s,q)=>some (s,p++q)
 |none=>none
def go(P:Program)(rf:St->Option D)(nt:Nat):Nat->Cfg->List Fr->St->eo->Option (Stop×EJ)
 |0,_,_,_,_=>none
 |n+1,.run c,K,st,A=>(match c with
  | .skip=>go P rf nt n .nor K st A
  | .ret=>(match rf st with|some d=>some (.ret d,[])|none=>none)
  | .exit id=>go P rf nt n (.ex id) K st A
  | .seq x y=>go P rf nt n (.run x) (.sq y::K) st A
  | .block id x=>go P rf nt n (.run x) (.bl id::K) st A
  | .loop x=>(match A with
   | .cn k o::_=>(if o.Nodup then some (.lp x K (st.FE k o),[])else none)
   | .pb id off e sz::A=>(match st.prom id off e sz with|some AX=>(match shares A AX with| (RZ,A2)=>go P rf nt n (.run (.loop x)) K RZ A2)|none=>none)
   |_=>none)
  | .cond x y z=>(match st.ev x,A with
   | .bool b,.b v::A=>Sy [b=v] (go P rf nt n (.run (match v with|true=>y|false=>z)) K st A)
   |_,_=>none)
  | .region _ ops dr=>(match dr with
   |false=>(match Ap P nt ops ops.toList st A with|some (AX,A1,p)=>Sy p (go P rf nt n .nor K AX A1)|none=>none)
   |true=>(match A with
    | .n k::A=>(match a1U ops k with
     |true=>(match zo P nt ops st.H (ops.toList.take k) st.σ [] [] A with
      |some (σ1,acc,A1,p)=>(match Ap P nt ops (ops.toList.drop k) ⟨σ1,st.H++acc⟩ A1 with|some (RZ,A2,q)=>Sy (p++q) (go P rf nt n .nor K RZ A2)|none=>none)
      |none=>none)
     |false=>none)
    | .n2 π ρ k m L X::A=>(match PN ops π ρ,yA ops π ρ with
     |true,ops'=>(match Qd ops'.toArray k m L with
      |true=>(match zo P nt ops'.toArray st.H (ops'.take k) st.σ [] [] A with
       |some (σ1,acc,A1,p)=>(match a3c X ⟨σ1,st.H⟩ ops' L,RD P nt X ((ops'.drop k).take (m-k)) ⟨σ1,st.H++acc⟩ A1 with
        |true,some (AX,A2,p2)=>(match Ap P nt ops'.toArray (ops'.drop m) AX A2 with|some (RZ,A3,q)=>Sy (p++(p2++q)) (go P rf nt n .nor K RZ A3)|none=>none)
        |_,_=>none)
       |none=>none)
      |false=>none)
     |false,_=>none)
    |_=>none))
  |_=>none)
 |n+1,.nor,K,st,A=>(match K with
  | []=>(match rf st with|some d=>some (.ret d,[])|none=>none)
  | .sq y::K=>(match aCt A K.length with|some (k,o)=>(if o.Nodup then some (.at_ y K (st.FE k o),[])else none)|none=>go P rf nt n (.run y) K st A)
  | .bl _::K=>go P rf nt n .nor K st A
  | .lp::K=>(match A with| .cn k o::_=>(if o.Nodup then some (.cont (depth K) (st.FE k o),[])else none)|_=>none))
 |n+1,.ex id,K,st,A=>(match K with
  | []=>none
  | .sq _::K=>go P rf nt n (.ex id) K st A
  | .bl i::K=>(if id=i then go P rf nt n .nor K st A else go P rf nt n (.ex id) K st A)
  | .lp::K=>go P rf nt n (.ex id) K st A)
section
variable{P:Program}{Γ:w5}{Q:Exit->St->Prop}{N:Nat->St->Prop}
def KQ(P:Program)(Γ:w5)(N:Nat->St->Prop)(Q:Exit->St->Prop):List Fr->Exit->St->Prop
 | []=>Q
 | .sq y::K=>a3i (AW P Γ y (KQ P Γ N Q K)) (KQ P Γ N Q K)
 | .bl id::K=>TF id (KQ P Γ N Q K)
 | .lp::K=>a3i (fun st=>∃k o,o.Nodup/\N (depth K) (st.FE k o)) (KQ P Γ N Q K)
theorem a7K:∀(K:List Fr) {st:St},Q .ret st->KQ P Γ N Q K .ret st:=by
 intro K
 induction K with
 |nil=>intro st h;exact h
 |cons f K ih=>intro st h;cases f<;>exact ih h
theorem Ua{N':Nat->St->Prop}:∀(K:List Fr),(∀d,d<depth K->N d=N' d)->KQ P Γ N Q K=KQ P Γ N' Q K:=by
 intro K
 induction K with
 |nil=>intro _;rfl
 |cons f K ih=>
  intro h;cases f with
  |sq y=>simp only[KQ];rw[ih h]
  |bl id=>simp only[KQ];rw[ih h]
  |lp=>simp only[KQ];rw[ih (fun d hd=>h d (by simp only[depth];omega)),h (depth K) (by simp only[depth];omega)]
theorem F1{nt:Nat}(hnt:Γ.nt=nt){all:Array Oper}{RZ:St}{A2:eo}:∀ {ops:List Oper} {st:St} {A:eo} {p:EJ},Ap P nt all ops st A=some (RZ,A2,p)->zc p->Q .normal RZ->AO P Γ all ops Q st:=by
 intro ops
 induction ops with
 |nil=>
  intro st A p h _ hq;simp only[Ap]at h;cases hsh:shares A st with
  |mk AX A1=>
   rw[hsh]at h;simp only[az,cV]at h;obtain⟨rfl,_,_⟩:=h;exact fun κ Θ a w hs=>wpList_nil ⟨_,_,_,hs.shares hsh,hq⟩
 |cons o rest ih=>
  intro st A p h hp hq;simp only[Ap]at h;split at h
  ·rename_i hg;split at h
   ·rename_i AX A1 p1 h1;split at h
    ·rename_i a5q A2' q h2;cases h;exact T7 hnt hg h1 hp.app.1 (ih h2 hp.app.2 hq)
    ·cases h
   ·cases h
  ·rename_i j want hg;split at h
   ·rename_i s v A1 hj;split at h
    ·rename_i b hb;split at h
     ·rename_i hv;simp only[cj]at hv;subst hv;split at h
      ·rename_i AX A2' p1 h1;split at h
       ·rename_i a5q A3 q h2;cases h;refine QG (b:=b) hg hj hb ?_ (fun _=>T7 hnt rfl h1 hp.2.app.1 (ih h2 hp.2.app.2 hq)) (fun hne=>absurd hp.1 hne);intro t ht;exact a3b hnt h1 ht
       ·cases h
      ·cases h
     ·rename_i hv;split at h
      ·rename_i t hd;split at h
       ·rename_i ht;split at h
        ·rename_i a5q A3 q h2;cases h;refine QG (b:=b) hg hj hb (fun t' ht'=>?_) (fun e=>?_) (fun _=>?_)
         ·rw[hd]at ht';cases ht';rw[hnt];exact ht
         ·exfalso;have:=hp.1;simp only[dH,ne_eq]at hv;exact hv (this.symm.trans e)
         ·rw[hd];exact ih h2 hp.2 hq
        ·cases h
       ·cases h
      ·rename_i hd;split at h
       ·rename_i a5q A3 q h2;cases h;refine QG (b:=b) hg hj hb (fun t' ht'=>?_) (fun e=>?_) (fun _=>?_)
        ·rw[hd]at ht';cases ht'
        ·exfalso;have:=hp.1;simp only[dH,ne_eq]at hv;exact hv (this.symm.trans e)
        ·rw[hd];exact ih h2 hp.2 hq
       ·cases h
    ·rename_i hb;split at h
     ·rename_i t hd;split at h
      ·rename_i ht;refine S8 hg hj hb (fun t' ht'=>?_) ?_
       ·rw[hd]at ht';cases ht';rw[hnt];exact ht
       ·rw[hd];exact ih h hp hq
      ·cases h
     ·rename_i hd;refine S8 hg hj hb (fun t' ht'=>?_) ?_
      ·rw[hd]at ht';cases ht'
      ·rw[hd];exact ih h hp hq
    ·cases h
   ·cases h
theorem PA{H:bX}{r:Nat}{σ:List (Nat×D)}{o:Oper}{A A1:eo}{d:D}{obs:bX}{p:EJ}(t:Option Nat)(u:Option (Nat×Ob))(h:YH P H r σ o A=some (d,obs,A1,p))(hp:zc p):MU P H σ o ⟨t,d,r,obs,u⟩:=by
 have plain:∀ {x},(match KC P ⟨σ,H⟩ x A with|some (d,A,ow)=>some (d,([]:bX),A,ow)|none=>none)=some (d,obs,A1,p)->pv P ⟨σ,H⟩ x=some d/\obs=[]:=by
  intro x h;split at h
  ·rename_i d' A' ow h1;cases h;exact⟨Z8 h1 hp,rfl⟩
  ·cases h
 unfold YH at h;split at h
 ·rename_i c hop;split at h
  ·rename_i f hc;split at h
   ·rename_i ds ms d' A' h1;split at h
    ·rename_i hsh;cases h;exact .inl (.inr ⟨f,_,_,ds,ms,d',hop.trans (congrArg Op.call (sZ c hc rfl rfl)),.inl (by simpa using h1),hsh,hp.1,.inl rfl⟩)
    ·cases h
   ·rename_i ds ms d' A' h1;split at h
    ·rename_i hc2;cases h;exact .inl (.inr ⟨f,_,_,ds,ms,d',hop.trans (congrArg Op.call (sZ c hc rfl rfl)),.inl (by simpa using h1),.inr hc2.2,hp.1,.inr ⟨hc2.1,rfl,rfl⟩⟩)
    ·cases h
   ·rename_i d' A';split at h
    ·rename_i hk;cases h;exact .inl (.inr ⟨f,_,_,_,[],d',hop.trans (congrArg Op.call (sZ c hc rfl rfl)),.inr ⟨by simpa using hk,by simp,rfl⟩,.inl rfl,hp.1,.inl rfl⟩)
    ·cases h
   ·cases h
  ·exact .inl (.inl (plain h))
 ·rename_i T hop;split at h
  ·rename_i zs hz;cases h;exact .inr (.inl (.inl ⟨T,zs,hop,hz,rfl,rfl⟩))
  ·cases h
 ·rename_i T x hop;split at h
  ·rename_i ds hc;cases h;exact .inr (.inl (.inr ⟨T,x,ds,hop,hc,rfl,rfl⟩))
  ·cases h
 ·rename_i T len parts hop;split at h
  ·rename_i e sz h1;split at h
   ·rename_i zs h2;split at h
    ·rename_i ds h3;split at h
     ·split at h
      ·rename_i hc;obtain⟨c1,c2,c3,c4⟩:=hc;cases h;exact .inr (.inr (.inr ⟨T,e,sz,len,parts,zs,ds,hop,h1,h2,c1,c2,h3,c3,c4,rfl,rfl⟩))
      ·cases h
     ·split at h
      ·rename_i es ms h4;split at h
       ·rename_i hc;obtain⟨c1,c2,rfl⟩:=hc;cases h;exact .inr (.inr (.inl ⟨T,e,sz,len,parts,zs,ds,es,hop,h1,h2,c1,c2,h3,h4,rfl,rfl⟩))
       ·cases h
      ·cases h
    ·cases h
   ·cases h
  ·cases h
 ·exact .inl (.inl (plain h))
theorem KJ{nt:Nat}(hnt:Γ.nt=nt){all:Array Oper}{H:bX}{K:List (Nat×D)->bX->Prop}{σ2:List (Nat×D)}{Uj:bX}{A2:eo}:∀ {ops:List Oper} {σ:List (Nat×D)} {acc:bX} {U:af} {A:eo} {p:EJ},
 zo P nt all H ops σ acc U A=some (σ2,Uj,A2,p)->zc p->K σ2 Uj->P9 P Γ all H K ops σ acc U:=by
 subst hnt;intro ops
 induction ops with
 |nil=>
  intro σ acc U A p h _ hK;simp only[zo,az,cV]at h;obtain⟨rfl,rfl,_,_⟩:=h;exact hK
 |cons o rest ih=>
  intro σ acc U A p h hp hK;simp only[zo]at h;split at h
  ·rename_i hd;split at h
   ·rename_i T x y hop hg;split at h
    ·rename_i id off ds h1 h2;split at h
     ·rename_i zs h3;split at h
      ·rename_i hc;obtain⟨rfl,c2,c3,c4,c5,c6⟩:=hc;exact⟨⟨none,.any,H.length+acc.length,[],some (id,.box ds)⟩,rfl,.inr ⟨rfl,rfl,hd,hg,T,x,y,id,ds,hop,h1,c2,h2,c4,c5,rfl⟩,⟨c3,c2,zs,ds,h3,rfl,c6⟩,ih h hp hK⟩
      ·cases h
     ·cases h
    ·cases h
   ·cases h
  ·rename_i t hd;split at h
   ·rename_i ht;split at h
    ·rename_i hg;split at h
     ·rename_i d obs A1 p1 h1;split at h
      ·rename_i σ3 a9V A3 q h2;cases h;exact⟨⟨some t,d,H.length+acc.length,obs,none⟩,rfl,.inl ⟨t,rfl,rfl,hd,ht,.inl ⟨hg,PA _ _ h1 hp.app.1⟩⟩,trivial,ih h2 hp.app.2 hK⟩
      ·cases h
     ·cases h
    ·rename_i j want hg;split at h
     ·rename_i s v A1 hj;split at h
      ·rename_i b hb;split at h
       ·rename_i hv;simp only[cj]at hv;subst hv;split at h
        ·rename_i d obs A2' p1 h1;split at h
         ·rename_i σ3 a9V A3 q h2;cases h;exact⟨⟨some t,d,H.length+acc.length,obs,none⟩,rfl,.inl ⟨t,rfl,rfl,hd,ht,.inr (.inl ⟨j,s,v,b,hg,hj,hb,.inl ⟨hp.1,PA _ _ h1 hp.2.app.1⟩⟩)⟩,trivial,ih h2 hp.2.app.2 hK⟩
         ·cases h
        ·cases h
       ·rename_i hv;simp only[dH,ne_eq]at hv;split at h
        ·rename_i σ3 a9V A3 q h2;cases h;refine⟨⟨some t,.gZ [],H.length+acc.length,[],none⟩,rfl,.inl ⟨t,rfl,rfl,hd,ht,.inr (.inl ⟨j,s,want,b,hg,hj,hb,.inr ⟨fun e=>hv (hp.1.symm.trans e),rfl,rfl⟩⟩)⟩,trivial,?_⟩;simp only[Cp.fill,cN];exact ih h2 hp.2 hK
        ·cases h
      ·rename_i hb;refine⟨⟨some t,.gZ [],H.length+acc.length,[],none⟩,rfl,.inl ⟨t,rfl,rfl,hd,ht,.inr (.inr ⟨j,s,want,hg,hj,hb,rfl,rfl⟩)⟩,trivial,?_⟩;simp only[Cp.fill,cN];exact ih h hp hK
      ·cases h
     ·cases h
   ·cases h
def WW(P:Program)(Γ:w5)(N:Nat->St->Prop)(Q:Exit->St->Prop)(d0:D):Stop->Prop
 | .ret d=>d=d0
 | .lp c K st=>AW P Γ (.loop c) (KQ P Γ N Q K) st
 | .cont k st=>N k st
 | .at_ c K st=>AW P Γ c (KQ P Γ N Q K) st
theorem UY{c:Code}{st:St}{k o:af}(hnd:o.Nodup)(h:AW P Γ c Q (st.FE k o)):AW P Γ c Q st:=by
 intro κ Θ a w hs;obtain⟨κ',Θ',hs'⟩:=hs.FE k o hnd;exact h κ' Θ' a w hs'
theorem a8d{fn:Func}{st:St}{d:D}{e:Exit}(he:e=.ret\/e=.normal){nz:List (List (Option (Nat×Nat)))}(h:a8c P (fn.results.toList,nz) st=some d):WV P fn d e st:=by
 unfold a8c at h;split at h
 ·rename_i ds h1;split at h
  ·rename_i es ms qs h2;split at h
   ·rename_i hc;cases h;exact⟨he,nz,ds,es,ms,qs,h1,h2,hc.1,hc.2,rfl⟩
   ·cases h
  ·cases h
 ·cases h
def a9T(P:Program)(Γ:w5)(N:Nat->St->Prop)(Q:Exit->St->Prop)(K:List Fr)(st:St):Cfg->Prop
 | .run c=>AW P Γ c (KQ P Γ N Q K) st
 | .nor=>KQ P Γ N Q K .normal st
 | .ex id=>KQ P Γ N Q K (.exit id) st
theorem F8{p q:EJ}{x:Option (Stop×EJ)}{s:Stop}(h:Sy p x=some (s,q)):∃q',x=some (s,q')/\q=p++q':=by
 unfold Sy at h;split at h
 ·cases h;exact⟨_,rfl,rfl⟩
 ·cases h
theorem go_sound{rf:St->Option D}{d0:D}(hrf:∀st e,(e=.ret\/e=.normal)->rf st=some d0->Q e st){nt:Nat}(hnt:Γ.nt=nt)(hm:P.follows .mixedOrders=true):∀ {n:Nat} {cfg:Cfg} {K:List Fr} {st:St} {A:eo} {s:Stop} {p:EJ},go P rf nt n cfg K st A=some (s,p)->zc p->WW P Γ N Q d0 s->a9T P Γ N Q K st cfg:=by
 intro n
 induction n with
 |zero=>intro cfg K st A s p h;simp[go]at h
 |succ n ih=>
  intro cfg K st A s p h hp hs;cases cfg with
  |run c=>
   show AW P Γ c (KQ P Γ N Q K) st;cases c with
   |skip=>simp only[go]at h;exact a4T (ih h hp hs)
   |ret=>
    simp only[go]at h;split at h
    ·rename_i d hd;simp only[az,cV]at h;obtain⟨rfl,_⟩:=h;have hd0:d=d0:=hs;subst hd0;exact a7I (a7K K (hrf st _ (.inl rfl) hd))
    ·cases h
   |exit id=>simp only[go]at h;exact a4S (ih h hp hs)
   |seq x y=>simp only[go]at h;exact a7J (ih h hp hs)
   |block id x=>simp only[go]at h;exact a19 (ih h hp hs)
   |loop x=>
    simp only[go]at h;split at h
    ·split at h
     ·rename_i hnd;simp only[az,cV]at h;obtain⟨rfl,_⟩:=h;exact UY hnd hs
     ·cases h
    ·split at h
     ·rename_i A0 x0 AX hst;intro κ Θ a w aDD;obtain⟨κ',hs'⟩:=aDD.prom hst;exact(ih h hp hs:AW P Γ (.loop x) (KQ P Γ N Q K) (shares A0 AX).1) κ' Θ a w (hs'.shares (rfl:shares A0 AX=((shares A0 AX).1,(shares A0 AX).2)))
     ·cases h
    ·cases h
   |cond x y z=>
    simp only[go]at h;split at h
    ·rename_i b v A1 hx;obtain⟨q,h1,rfl⟩:=F8 h;obtain⟨hb,hp'⟩:=hp;subst hb;refine a4Q hx (fun e=>?_) (fun e=>?_)
     ·subst e;exact ih h1 hp' hs
     ·subst e;exact ih h1 hp' hs
    ·cases h
   |region id ops dr=>
    simp only[go]at h;cases dr with
    |false=>
     simp only at h;split at h
     ·rename_i AX A1 p1 h1;obtain⟨q,h2,rfl⟩:=F8 h;have:=F1 (Q:=KQ P Γ N Q K) hnt h1 hp.app.1 (ih h2 hp.app.2 hs);have hr:=ZH (id:=id) (l:=ops.toList) (by simpa using this);simpa using hr
     ·cases h
    |true=>
     simp only at h;split at h
     ·rename_i k A1;split at h
      ·rename_i hB;split at h
       ·rename_i σ1 acc A2 p1 h1;split at h
        ·rename_i RZ A3 p2 h2;obtain⟨q,h3,rfl⟩:=F8 h;have hq:=hp.app.1.app;have h4:=F1 (Q:=KQ P Γ N Q K) hnt h2 hq.2 (ih h3 hp.app.2 hs);have h5:=KJ (Γ:=Γ) (K:=fun σ acc=>AO P Γ ops (ops.toList.drop k) (KQ P Γ N Q K) ⟨σ,st.H++acc⟩) hnt h1 hq.1 h4;have hr:=a4R (id:=id) (l:=ops.toList) (Q:=KQ P Γ N Q K) (st:=st) k hm (by simpa using hB) (by simpa using h5);simpa using hr
        ·cases h
       ·cases h
      ·cases h
     ·rename_i π ρ k m L X A1;split at h
      ·rename_i ops' hB1;generalize aD3:yA ops π ρ=ops' at h;split at h
       ·rename_i hB;split at h
        ·rename_i σ1 acc A2 p1 h1;split at h
         ·rename_i AX A3 p2 hst hmid;split at h
          ·rename_i RZ A4 p3 h2;obtain⟨q,h3,rfl⟩:=F8 h;have hq:=hp.app.1.app;have MP:=hq.2.app;have h4:=F1 (Q:=KQ P Γ N Q K) hnt h2 MP.2 (ih h3 hp.app.2 hs);have h6:=Tm (Γ:=Γ) (K:=fun xw=>AO P Γ ops'.toArray (ops'.drop m) (KQ P Γ N Q K) xw) hnt hmid MP.1 h4;have h5:=KJ (Γ:=Γ) (K:=fun σ acc=>(∀i∈L,∀o,ops'[i]?=some o->F4 X ⟨σ,st.H⟩ o.op=true)/\a0v P Γ X (fun xw=>AO P Γ ops'.toArray (ops'.drop m) (KQ P Γ N Q K) xw) ((ops'.drop k).take (m-k)) ⟨σ,st.H++acc⟩) hnt h1 hq.1 ⟨a0M hst,h6⟩;have hr:=ZP (l:=ops') (Q:=KQ P Γ N Q K) (st:=st) k m L hB h5;rw[<-aD3]at hr;exact(hr.perm hB1).aw hm
          ·cases h
         ·cases h
        ·cases h
       ·cases h
      ·cases h
     ·cases h
   |_=>simp[go]at h
  |nor=>
   show KQ P Γ N Q K .normal st;simp only[go]at h;split at h
   ·split at h
    ·rename_i d hd;simp only[az,cV]at h;obtain⟨rfl,_⟩:=h;have hd0:d=d0:=hs;subst hd0;exact hrf st _ (.inr rfl) hd
    ·cases h
   ·split at h
    ·split at h
     ·rename_i hnd;simp only[az,cV]at h;obtain⟨rfl,_⟩:=h;exact UY hnd hs
     ·cases h
    ·exact ih (cfg:=.run _) h hp hs
   ·exact ih (cfg:=.nor) h hp hs
   ·split at h
    ·split at h
     ·rename_i k o _ hnd;simp only[az,cV]at h;obtain⟨rfl,_⟩:=h;exact⟨k,o,hnd,hs⟩
     ·cases h
    ·cases h
  |ex id=>
   show KQ P Γ N Q K (.exit id) st;simp only[go]at h;split at h
   ·cases h
   ·exact ih (cfg:=.ex id) h hp hs
   ·rename_i i K;simp only[KQ,TF];split at h
    ·rename_i e;rw[bS e];exact ih (cfg:=.nor) h hp hs
    ·rename_i e;rw[bH e];exact ih (cfg:=.ex id) h hp hs
   ·exact ih (cfg:=.ex id) h hp hs
def dig:Code->af->List Fr->Code×List Fr
 |c,[],K=>(c,K)
 | .seq x y,i::p,K=>(match i with|0=>dig x p (.sq y::K)|_=>dig y p K)
 | .block id c,_::p,K=>dig c p (.bl id::K)
 | .cond _ x y,i::p,K=>(match i with|0=>dig x p K|_=>dig y p K)
 | .loop c,_::p,K=>dig c p (.lp::K)
 |c,_::_,K=>(c,K)
def a6R:Ob->Option D
 | .fG sz rows (some v)=>some (.agg [.fr 0 sz rows,.val v])
 |_=>none
def Ou:Nat->bX->Option aR
 |0,_=>some []
 |n+1,o::H=>(match a6R o,Ou n H with|some d,some ds=>some (d::ds)|_,_=>none)
 |_+1,[]=>none
def a2y(P:Program)(rs:List ResultVar)(n:Nat)(st:St):Option D:=match FI P st rs with
 |some ds=>(if ds.all D.flat=true then match Ou n st.H with|some es=>some (.gZ (CG ds::es))|none=>none else none)
 |none=>none
def XT:List Rw->br->aR
 |x::xs,v::vs=>.agg [.fr 0 x.1 x.2,.val v]::XT xs vs
 |_,_=>[]
theorem XG:∀ {n:Nat} {H:bX} {outs:List Rw} {vs:br},Ou n H=some (XT outs vs)->∀(i:Nat) x v,outs[i]?=some x->vs[i]?=some v->H[i]?=some (x.ob (some v)):=by
 intro n
 induction n with
 |zero=>
  intro H outs vs h i x v hx hv;cases outs with
  |nil=>simp at hx
  |cons y ys=>
   cases vs with
   |nil=>simp at hv
   |cons u us=>simp[Ou,XT]at h
 |succ n ih=>
  intro H outs vs h i x v hx hv;cases outs with
  |nil=>simp at hx
  |cons y ys=>
   cases vs with
   |nil=>simp at hv
   |cons u us=>
    cases H with
    |nil=>simp[Ou]at h
    |cons o H=>
     simp only[Ou,XT]at h;split at h
     ·rename_i d ds h1 h2;simp only[az,Ae]at h;obtain⟨rfl,rfl⟩:=h;cases i with
      |zero=>
       simp at hx hv;subst hx;subst hv;unfold a6R at h1;split at h1
       ·simp only[az,D.agg.injEq,Ae,D.fr.injEq,D.val.injEq,wF,and_true]at h1;obtain⟨⟨h3,h4⟩,h5⟩:=h1;simp[Rw.ob,h3,h4,h5]
       ·cases h1
      |succ i=>simpa using ih h2 i x v (by simpa using hx) (by simpa using hv)
     ·cases h
theorem a5Z{fn:Func}{st:St}{d:D}{outs:List Rw}{vs:br}{n:Nat}{e:Exit}(he:e=.ret\/e=.normal)(h:a2y P fn.results.toList n st=some (.gZ (d::XT outs vs))):wB P fn vs outs d e st:=by
 unfold a2y at h;split at h
 ·rename_i ds h1;split at h
  ·rename_i hf;split at h
   ·rename_i es h2;simp only[az,D.gZ.injEq,Ae]at h;obtain⟨rfl,rfl⟩:=h;exact⟨he,ds,h1,hf,rfl,XG h2⟩
   ·cases h
  ·cases h
 ·cases h
theorem gC{fn:Func}{d:D}{outs:List Rw}{vs:br}{nt n:Nat}(m:Nat){c:Code}{K:List Fr}{st:St}(A:eo)(s:Stop){p:EJ}(hnt:Γ.nt=nt)(hm:P.follows .mixedOrders=true)(h:go P (a2y P fn.results.toList m) nt n (.run c) K st A=some (s,p))(hp:zc p)
 (hs:WW P Γ N (wB P fn vs outs d) (.gZ (d::XT outs vs)) s):AW P Γ c (KQ P Γ N (wB P fn vs outs d) K) st:=go_sound (Q:=wB P fn vs outs d) (N:=N) (K:=K) (st:=st) (d0:=.gZ (d::XT outs vs)) (cfg:=.run c) (fun _ _ he h=>a5Z he h) hnt hm h hp hs
def a6p(P:Program)(rs:List ResultVar×List (List (Option (Nat×Nat))))(st:St):Option D:=match FI P st rs.1,(st.H[0]?:Option Ob)with
 |some ds,some (Ob.Pr cells v)=>(match E7 st.H rs.2 (.agg cells::ds)with
  |some (.agg cells'::es,ms,qs)=>(if ms.Nodup/\qs.Nodup then some (.gZ [CG es,.agg cells',.val v])else none)
  |_=>none)
 |_,_=>none
def a6o(P:Program)(rs:List ResultVar)(st:St):Option D:=match FI P st rs with
 |some [.ptr j 0]=>(match st.H[j]? with|some (.box cells)=>(if cells.all D.UW=true then some (.agg cells)else none)|_=>none)
 |_=>none
inductive Kd where
 |q (nz:List (List (Option (Nat×Nat)))) (d:D)
 |p (nz:List (List (Option (Nat×Nat)))) (v:Value) (cells:aR) (d:D)
 |n (cells:aR)
def Kd.rf(P:Program)(fn:Func)(k:Kd)(st:St):Option D:=match k with
 | .q nz _=>a8c P (fn.results.toList,nz) st
 | .p nz _ _ _=>a6p P (fn.results.toList,nz) st
 | .n _=>a6o P fn.results.toList st
def Kd.d0:Kd->D
 | .q _ d=>d
 | .p _ v cells d=>.gZ [d,.agg cells,.val v]
 | .n cells=>.agg cells
def Kd.qq(P:Program)(fn:Func):Kd->Exit->St->Prop
 | .q _ d=>WV P fn d
 | .p _ v cells d=>a1E P fn v cells d
 | .n cells=>aC8 P fn cells
theorem Kd.ok{fn:Func}(k:Kd){st:St}{e:Exit}(he:e=.ret\/e=.normal)(h:k.rf P fn st=some k.d0):k.qq P fn e st:=by
 cases k with
 |q nz d=>exact a8d he h
 |p nz v cells d=>
  simp only[Kd.rf,a6p,Kd.d0]at h;split at h
  ·rename_i ds TG v' h1 h2;split at h
   ·rename_i cells' es ms qs h3;split at h
    ·rename_i hc;simp only[az,D.gZ.injEq,Ae,D.agg.injEq,D.val.injEq,and_true]at h;obtain⟨rfl,rfl,rfl⟩:=h;exact⟨he,_,_,_,_,_,_,h1,h2,h3,hc.1,hc.2,rfl⟩
    ·cases h
   ·cases h
  ·cases h
 |n cells=>
  simp only[Kd.rf,a6o,Kd.d0]at h;split at h
  ·rename_i j h1;split at h
   ·rename_i cells' h2;split at h
    ·rename_i hc;simp only[az,D.agg.injEq]at h;subst h;exact⟨he,j,h1,h2,hc⟩
    ·cases h
   ·cases h
  ·cases h
theorem QI{fn:Func}{k:Kd}{nt n:Nat}{c:Code}{K:List Fr}{st:St}(A:eo)(s:Stop){p:EJ}(hnt:Γ.nt=nt)(hm:P.follows .mixedOrders=true)(h:go P (k.rf P fn) nt n (.run c) K st A=some (s,p))(hp:zc p)
 (hs:WW P Γ N (k.qq P fn) k.d0 s):AW P Γ c (KQ P Γ N (k.qq P fn) K) st:=go_sound (Q:=k.qq P fn) (N:=N) (K:=K) (st:=st) (d0:=k.d0) (cfg:=.run c) (fun _ _ he h=>k.ok he h) hnt hm h hp hs
def Pz(P:Program)(Γ:w5)(c:Code)(Q:Exit->St->Prop)(n:Nat)(st:St):Prop:=
 ∀κ Θ a w,eO Γ st κ Θ a w->Code.rounds P c (fun e a' w'=>∃xw κ' Θ',eO Γ xw κ' Θ' a' w'/\Q e xw) n a w
theorem ym{c:Code}{n:Nat}{st:St}(h:Pz P Γ c Q n st):AW P Γ (.loop c) Q st:=fun κ Θ a w hs=>wp_loop_rounds n (h κ Θ a w hs)
theorem aO{c:Code}{K:List Fr}{n:Nat}{st:St}
 (h:∀N',(∀d,d<depth K->N' d=N d)->N' (depth K)=Pz P Γ c (KQ P Γ N Q K) n->AW P Γ c (KQ P Γ N' Q (.lp::K)) st):Pz P Γ c (KQ P Γ N Q K) (n+1) st:=by
 intro κ Θ a w hs;have:=h (fun d=>if d<depth K then N d else Pz P Γ c (KQ P Γ N Q K) n) (fun d hd=>bS hd) (bH (by omega));simp only[KQ]at this;rw[bH (by omega)]at this;rw[<-Ua (N:=N) (N':=fun d=>if d<depth K then N d else Pz P Γ c (KQ P Γ N Q K) n) K (fun d hd=>(bS hd).symm)]at this;rw[rounds_succ];refine wp_mono (this κ Θ a w hs) ?_;rintro e a' w' ⟨xw,κ',Θ',hs',hq⟩;cases e with
 |normal=>
  obtain⟨k,o,hnd,hR'⟩:=hq;obtain⟨κ2,Θ2,hs2⟩:=hs'.FE k o hnd;exact hR' κ2 Θ2 a' w' hs2
 |exit id=>exact⟨_,_,_,hs',hq⟩
 |goto l=>exact⟨_,_,_,hs',hq⟩
 |ret=>exact⟨_,_,_,hs',hq⟩
 |panic c=>exact⟨_,_,_,hs',hq⟩
 |outgrown=>exact⟨_,_,_,hs',hq⟩
end
theorem aM{α:Type}{c:Bool}{x y:Option α}{r:α}(h:(bif c then x else y)=some r):(c=true/\x=some r)\/(c=false/\y=some r):=by
 cases c
 ·exact .inr ⟨rfl,h⟩
 ·exact .inl ⟨rfl,h⟩
theorem bV{α:Type}{c:Bool}{x:Option α}{r:α}(h:(bif c then x else none)=some r):c=true/\x=some r:=by
 cases c
 ·cases h
 ·exact⟨rfl,h⟩
theorem aD{α β:Type}{x:Option α}{f:α->Option β}{r:β}(h:x.bind f=some r):∃y,x=some y/\f y=some r:=by
 cases x with
 |none=>cases h
 |some y=>exact⟨y,rfl,h⟩
theorem aG{α:Type}{x y:α}(h:some x=some y):x=y:=by cases h;rfl
theorem E4:zc []:=trivial
theorem ow{p:Prop}{ps:EJ}(h:p)(t:zc ps):zc (p::ps):=⟨h,t⟩
def mK{α:Type}(l:List α)(i:Int):Option α:=bif decide (0<=i)then l[i.toNat]? else none
theorem YE{α β:Type}{l:List α}{i:Int}{x:α}(f:α->β)(h:mK l i=some x):0<=i/\(l.map f)[i.toNat]?=some (f x):=by
 unfold mK at h;cases hd:decide (0<=i)with
 |false=>rw[hd]at h;cases h
 |true=>rw[hd]at h;simp only[aV]at h;exact⟨by simpa using hd,by rw[cA,h];rfl⟩
theorem a7O{l:Bytes}{i:Int}{x:UInt8}(h:mK l i=some x):0<=i/\l[i.toNat]?=some x:=by
 unfold mK at h;cases hd:decide (0<=i)with
 |false=>rw[hd]at h;cases h
 |true=>rw[hd]at h;exact⟨by simpa using hd,h⟩
def fuel:Nat:=4194304
theorem dl{α:Type}{l:List α}{i:Int}{x:α}(f:α->aR)(n:Nat)(h:mK l i=some x)(hn:(f x).length=n):0<=i/\(l.map f)[i.toNat]?=some (f x)/\(f x).length=n:=⟨(YE f h).1,(YE f h).2,hn⟩
theorem zh{i n:Nat}(sz:Nat)(h:decide (i<n)=true):sz=sz/\(i:Int)=((i:Nat):Int)/\i<n:=⟨rfl,rfl,bt h⟩
theorem pP{α:Type}{l:List α}{i:Nat}{x:α}(f:α->aR)(sz:Nat)(h:l[i]?=some x):sz=sz/\(i:Int)=((i:Nat):Int)/\i<(l.map f).length:=⟨rfl,rfl,by rw[aa];exact(aH.1 h).1⟩
theorem yO{α:Type}{l:List α}{i:Int}{x:α}(f:α->aR)(sz:Nat)(h:mK l i=some x):sz=sz/\i=((i.toNat:Nat):Int)/\i.toNat<(l.map f).length:=by
 obtain⟨h0,h1⟩:=YE f h;exact⟨rfl,by omega,(aH.1 h1).1⟩
theorem uC{α:Type}{l:List α}{i:Int}{x:α}(h:mK l i=some x):l[i.toNat]?=some x:=by
 have:=(YE (fun y=>y) h).2;simpa using this
theorem Ty{x y:Int}(k:IntKind)(h:(decide (0<=x)&&decide (0<y))=true):k=k/\0<=x/\0<y:=by simpa using h
def room(n b:Nat):Bool:=decide (n<=maxLen)&&decide (n*b<=140737488355328)
theorem cB{n b:Nat}(h:room n b=true):n<=maxLen/\n*b<=140737488355328:=by
 simp only[room,aY,bJ]at h;exact h
def Ct(n:Int)(b:Nat):Bool:=decide (0<=n)&&decide (b*n.toNat<=281474976710656)&&decide (n.toNat<=4611686018427387904)
theorem xq{n:Int}{b:Nat}(h:Ct n b=true):n=n/\0<=n/\b*n.toNat<=281474976710656/\n.toNat<=4611686018427387904:=by
 simp only[Ct,aY,bJ]at h;exact⟨rfl,h.1.1,h.1.2,h.2⟩
theorem a23{k n:Nat}(h:k<n)(hn:n<=maxLen):IntKind.i64.wrap ((k:Int)+1)=((k+1:Nat):Int):=by
 unfold maxLen at hn;rw[gx (tv.i64.2 (by omega))];omega
theorem a5N{k n:Nat}(h:k<n):decide ((k:Int)<(n:Int))=true:=by simp[h]
theorem a2a{k n:Nat}(h:n<=k):decide ((k:Int)<(n:Int))=false:=by simp;omega
theorem drop_cons{α:Type}{l:List α}{k:Nat}{x:α}{xs:List α}(h:l.drop k=x::xs):l[k]?=some x/\k<l.length/\l.drop (k+1)=xs:=by
 have h1:l[k]?=some x:=by
  have:=congrArg (fun m:List α=>m[0]?) h;simpa[eD]using this
 refine⟨h1,(aH.1 h1).1,?_⟩;rw[<-gz,h];rfl
theorem drop_nil{α:Type}{l:List α}{k:Nat}(h:l.drop k=[]):l.length<=k:=by simpa using h
theorem a2c{α β:Type}{l:List α}{k:Nat}{x:α}(f:α->β)(h:l[k]?=some x):0<=(k:Int)/\(l.map f)[(k:Int).toNat]?=some (f x):=⟨by omega,by simp[h]⟩
theorem ax{α:Type}{l:List α}{k:Nat}{x:α}(f:α->aR)(n:Nat)(h:l[k]?=some x)(hn:(f x).length=n):0<=(k:Int)/\(l.map f)[(k:Int).toNat]?=some (f x)/\(f x).length=n:=⟨(a2c f h).1,(a2c f h).2,hn⟩
theorem a2b{α β:Type}{l:List α}{k:Nat}(f:α->β)(h:k<l.length):decide ((k:Int)<((l.map f).length:Int))=true:=by rw[aa];exact a5N h
theorem Zx{α β:Type}{l:List α}{k:Nat}(f:α->β)(h:l.length<=k):decide ((k:Int)<((l.map f).length:Int))=false:=by rw[aa];exact a2a h
theorem dG{α β:Type}{l:List α}{k:Nat}{x:α}(f:α->β)(h:l[k]?=some x):(l.map f)[k]?=some (f x):=by rw[cA,h];rfl
theorem dA{α β:Type}{f:α->β}(dn:List α)(y z:β)(r:List β):(dn.map f++y::r).set dn.length z=dn.map f++z::r:=by
 rw[mr _ _ (by simp)];simp
theorem di{α β:Type}{f:α->β}(dn:List α)(y:β)(r:List β):(dn.map f++y::r)[dn.length]?=some y:=by
 rw[bE (by simp)];simp
theorem DC{α β:Type}{f:α->β}(dn:List α)(y:β)(r:List β):decide ((dn.length:Int)<((dn.map f++y::r).length:Int))=true:=by
 rw[bJ,aX,aa,aK];omega
theorem D9{α β:Type}{f:α->β}(dn:List α):decide ((dn.length:Int)<((dn.map f++([]:List α).map f).length:Int))=false:=by
 rw[oH];simp
theorem zq{n:Nat}(h:n+1<=maxLen):IntKind.i64.wrap ((n:Int)+1)=((n+1:Nat):Int):=by
 unfold maxLen at h;rw[gx (tv.i64.2 (by omega))];omega
def Np{α β:Type}[BEq α](z:β)(k:α):List (α×β)->β
 | []=>z
 |p::r=>bif k==p.1 then p.2 else Np z k r
def a5O{α β:Type}[BEq α](k:α):List (α×β)->Bool
 | []=>false
 |p::r=>bif k==p.1 then true else a5O k r
def R7{α β:Type}[BEq α](k:α)(v:β):List (α×β)->List (α×β)
 | []=>[(k,v)]
 |p::r=>bif k==p.1 then(k,v)::r else p::R7 k v r
def eB(b:Bool):D:=.bool b
def kS{β:Type}(e:β->D)(p:Bytes×β):D×D:=(.str p.1,e p.2)
theorem YR{β:Type}{e:β->D}(z:β)(k:Bytes):∀(m:List (Bytes×β)),(I6 (.str k) (m.map (kS e))=some none/\a5O k m=false/\Np z k m=z)\/(I6 (.str k) (m.map (kS e))=some (some (e (Np z k m)))/\a5O k m=true)
 | []=>.inl ⟨rfl,rfl,rfl⟩
 |p::r=>by
  simp only[bG,I6,kS,keq,a5O,Np];cases hb:k==p.1 with
  |true=>exact .inr ⟨rfl,rfl⟩
  |false=>exact YR z k r
theorem aAi{P:Program}{T:TypeId}{β:Type}{e:β->D}{z:β}{k:Bytes}{m:List (Bytes×β)}(hT:a0T P T=some (.string,e z)):plk P T (m.map (kS e)) (.str k) false=some (e (Np z k m)):=by
 unfold plk;rw[hT];rcases YR (e:=e) z k m with⟨h1,_,h3⟩|⟨h1,_⟩
 ·simp only[M9,h1,h3,aZ]
 ·simp only[M9,h1,aZ]
theorem a2r{β:Type}{e:β->D}{k:Bytes}{v:β}:∀ {m:List (Bytes×β)},Nl (.str k) (e v) (m.map (kS e))=some ((R7 k v m).map (kS e))
 | []=>rfl
 |p::r=>by
  simp only[bG,Nl,R7];have hq:keq (.str k) (kS e p).1=some (k==p.1):=rfl;rw[hq];cases hb:k==p.1 with
  |true=>rfl
  |false=>simp only[a2r (m:=r),cc,aZ,bG]
open Go.RowKit Go.Proofs Tryz
abbrev xW:=List Fr
structure aE where
 rel:Bytes
 args:aJ
 deriving DecidableEq
structure aS where
 var:Bytes
 value:Bytes
 deriving DecidableEq
structure aQ where
 kind:Int
 pat:aE
 left:Bytes
 right:Bytes
 deriving DecidableEq
structure Action where
 kind:Int
 pat:aE
 deriving DecidableEq
structure aN where
 name:Bytes
 prio:Int
 conds:List aQ
 cv:List Action
 deriving DecidableEq
structure aI where
 facts:List aE
 bind:List aS
 deriving DecidableEq
structure cu where
 rule:Bytes
 facts:List aE
 bind:List aS
 deriving DecidableEq
structure aP where
 shape:aE
 facts:List aE
 deriving DecidableEq
structure Node where
 parent:Int
 cond:aQ
 cP:Int
 tokens:List aI
 deriving DecidableEq
structure aF where
 rules:List aN
 ends:bI
 av:List aP
 nodes:List Node
 facts:List aE
 bw:Int
 deriving DecidableEq
structure cw where
 fact:aE
 time:Int
 deriving DecidableEq
structure aC7 where
 rule:Bytes
 times:bI
 deriving DecidableEq
structure aC6 where
 aFp:cu
 prio:Int
 times:bI
 spec:Int
 order:Int
 deriving DecidableEq
structure Cur where
 b:bI
 i:Int
 h:Int
 deriving DecidableEq
abbrev tx(s:Bytes):List D:=[.str s]
abbrev dL(n:Int):List D:=[.int .i64 n]
abbrev bx(b:Bool):List D:=[.bool b]
abbrev dT(l:List Bytes):D:=.sl (l.map tx)
abbrev dI(l:List Int):D:=.sl (l.map dL)
abbrev aE.c(x:aE):List D:=[.str x.rel,dT x.args]
abbrev aS.c(x:aS):List D:=[.str x.var,.str x.value]
abbrev aQ.c(x:aQ):List D:=[.int .i64 x.kind,.str x.pat.rel,dT x.pat.args,.str x.left,.str x.right]
abbrev Action.c(x:Action):List D:=[.int .i64 x.kind,.str x.pat.rel,dT x.pat.args]
abbrev aN.c(x:aN):List D:=[.str x.name,.int .i64 x.prio,.sl (x.conds.map aQ.c),.sl (x.cv.map Action.c)]
abbrev aI.c(x:aI):List D:=[.sl (x.facts.map aE.c),.sl (x.bind.map aS.c)]
abbrev cu.c(x:cu):List D:=[.str x.rule,.sl (x.facts.map aE.c),.sl (x.bind.map aS.c)]
abbrev aP.c(x:aP):List D:=[.str x.shape.rel,dT x.shape.args,.sl (x.facts.map aE.c)]
abbrev Node.c(x:Node):List D:=[.int .i64 x.parent,.int .i64 x.cond.kind,.str x.cond.pat.rel,dT x.cond.pat.args,.str x.cond.left,.str x.cond.right,.int .i64 x.cP,.sl (x.tokens.map aI.c)]
abbrev aF.c(x:aF):List D:=[.sl (x.rules.map aN.c),dI x.ends,.sl (x.av.map aP.c),.sl (x.nodes.map Node.c),.sl (x.facts.map aE.c),.int .i64 x.bw]
abbrev cw.c(x:cw):List D:=[.str x.fact.rel,dT x.fact.args,.int .i64 x.time]
def lR(fn:Func):Code:=match fn.body with
 |some c=>c
 |none=>.skip
theorem CO:prog.follows .mixedOrders=true:=by kernel_rfl
theorem QH{P:Program}{Γ:w5}{Q:Exit->St->Prop}{N N':Nat->St->Prop}{c:Code}{K K0:xW}{st:St}(hd:depth K=depth K0)(hN:∀d,d<depth K0->N' d=N d)(t:AW P Γ c (KQ P Γ N Q K) st):AW P Γ c (KQ P Γ N' Q K) st:=by
 rw[Ua (N:=N') (N':=N) K (fun d h=>hN d (by omega))];exact t
theorem xX{P:Program}{Γ:w5}{Q:Exit->St->Prop}{c:Code}{s s':St}(h:s=s')(t:AW P Γ c Q s'):AW P Γ c Q s:=by rw[h];exact t
theorem Dy{α:Type}{c:α->aR}(hc:∀x,(c x).all D.flat=true)(l:List α):(l.map c).flatten.all D.flat=true:=by
 induction l with
 |nil=>rfl
 |cons x l ih=>rw[bG,eV,List.all_append,hc,ih];rfl
abbrev bT:An:=.b true
abbrev bF:An:=.b false
structure Pre(A:List An)(p:EJ):Prop where
 h:zc p
theorem aU:Pre [] []:=⟨trivial⟩
theorem zc.join{p q:EJ}(h:zc p)(k:zc q):zc (p++q):=by
 induction p with
 |nil=>exact k
 |cons x p ih=>exact⟨h.1,ih h.2⟩
theorem Pre.ext{A:eo}{p:EJ}(o:Pre A p)(B:eo){q:EJ}(hq:zc q):Pre (A++B) (p++q):=⟨o.h.join hq⟩
section
variable{A:eo}{p:EJ}
theorem Pre.b(o:Pre A p){c v:Bool}(h:c=v):Pre (A++[.b v]) (p++[c=v]):=o.ext _ ⟨h,trivial⟩
theorem Pre.r(o:Pre A p)(n:Nat){c v:Bool}(h:c=v):Pre (A++List.replicate n (.b v)) (p++List.replicate n (c=v)):=o.ext _ (by
 induction n with
 |zero=>trivial
 |succ n ih=>exact⟨h,ih⟩)
theorem Pre.T(o:Pre A p)(n:Nat):Pre (A++List.replicate n bT) (p++List.replicate n (true=true)):=o.r n rfl
theorem Pre.F(o:Pre A p)(n:Nat):Pre (A++List.replicate n bF) (p++List.replicate n (false=false)):=o.r n rfl
theorem Pre.g(o:Pre A p){f:FuncId}{ds:aR}{d:D}(h:Good prog f ds d):Pre (A++[.d d]) (p++[Good prog f ds d]):=o.ext _ ⟨h,trivial⟩
theorem Pre.hp(o:Pre A p)(nz:List (List (Option (Nat×Nat)))){f:FuncId}{cells cells' ds:aR}{d:D}(h:Bj prog f cells cells' ds d):Pre (A++[.gp nz cells' d]) (p++[Bj prog f cells cells' ds d]):=o.ext _ ⟨h,trivial⟩
theorem Pre.w(o:Pre A p){q:Prop}(h:q):Pre (A++[]) (p++[q]):=o.ext _ ⟨h,trivial⟩
theorem Pre.a(o:Pre A p)(B:eo):Pre (A++B) (p++[]):=o.ext _ (q:=[]) trivial
theorem Pre.l(o:Pre A p){n:Int}{rows:List aR}{r:aR}{sz:Nat}(h:0<=n/\rows[n.toNat]?=some r/\r.length=sz):Pre (A++[.row r]) (p++[0<=n/\rows[n.toNat]?=some r/\r.length=sz]):=o.ext _ ⟨h,trivial⟩
theorem Pre.i(o:Pre A p){sz sz' m k:Nat}{n:Int}(h:sz=sz'/\n=((k:Nat):Int)/\k<m):Pre (A++[.ix k]) (p++[sz=sz'/\n=((k:Nat):Int)/\k<m]):=o.ext _ ⟨h,trivial⟩
theorem Pre.o(o:Pre A p)(sz n:Nat)(k:RK){rows:List aR}{i:Nat}{r:aR}(h:rows[i]?=some r)(hk:k.Tt=true:=by kernel_rfl)(hn:Nat.ble n sz=true:=by kernel_rfl):Pre (A++[.row r]) (p++[sz=sz/\k.Tt=true/\rows[i]?=some r/\n<=sz]):=o.ext _ ⟨⟨rfl,hk,h,zI hn⟩,trivial⟩
theorem Pre.c(o:Pre A p){s:Bytes}{i:Int}{b:UInt8}(h:mK s i=some b):Pre (A++[.ch b]) (p++[0<=i/\s[i.toNat]?=some b]):=o.ext _ ⟨a7O h,trivial⟩
theorem Pre.lt{α:Type}{l xs:List α}{i:Nat}{x:α}(o:Pre A p)(f:α->aR)(h:l.drop i=x::xs):Pre (A++[bT]) (p++[decide ((i:Int)<((l.map f).length:Int))=true]):=o.b (a2b f (drop_cons h).2.1)
theorem Pre.ge{α:Type}{l:List α}{i:Nat}(o:Pre A p)(f:α->aR)(h:l.drop i=[]):Pre (A++[bF]) (p++[decide ((i:Int)<((l.map f).length:Int))=false]):=o.b (Zx f (drop_nil h))
end
theorem dc{α:Type}{l:List α}{k:Nat}{x:α}{xs:List α}(h:l.drop k=x::xs):l[k]?=some x:=(drop_cons h).1
theorem dn{α:Type}{l:List α}{k:Nat}{x:α}{xs:List α}(h:l.drop k=x::xs):l.drop (k+1)=xs:=(drop_cons h).2.2
theorem iS{α:Type}{l:List α}{k:Nat}{x:α}{xs:List α}(h:l.drop k=x::xs)(hn:l.length<=maxLen):IntKind.i64.wrap ((k:Int)+1)=((k+1:Nat):Int):=a23 (drop_cons h).2.1 hn
theorem mA{α β:Type}(f:α->β):(∀a b:List α,(a++b).map f=a.map f++b.map f)/\(∀(x:α) (a:List α),(x::a).map f=f x::a.map f)/\([]:List α).map f=[]/\(∀(l:List α) (i:Nat) (x:α),(l.set i x).map f=(l.map f).set i (f x))/\(∀(n:Nat) (x:α),(List.replicate n x).map f=List.replicate n (f x))/\(∀(l:List α) (n:Nat),(l.take n).map f=(l.map f).take n):=
 ⟨fun _ _=>bN,fun _ _=>rfl,rfl,fun _ _ _=>List.map_set,fun _ _=>List.map_replicate,fun _ _=>cm⟩
section
variable{Γ:w5}{N N1:Nat->St->Prop}{fn:Func}{k:Kd}{nt:Nat}{A:eo}{p:EJ}{c c':Code}{K K' K0:xW}{st xw:St}
theorem Pre.ret(o:Pre A p)(hnt:Γ.nt=nt)(h:go prog (k.rf prog fn) nt 2000 (.run c) K st A=some (.ret k.d0,p):=by kernel_rfl):AW prog Γ c (KQ prog Γ N (k.qq prog fn) K) st:=QI (n:=2000) A _ hnt CO h o.h rfl
theorem Pre.rts(o:Pre A p)(hnt:Γ.nt=nt)(d:D)(hd:d=k.d0)(h:go prog (k.rf prog fn) nt 2000 (.run c) K st A=some (.ret d,p):=by kernel_rfl):AW prog Γ c (KQ prog Γ N (k.qq prog fn) K) st:=QI (n:=2000) A _ hnt CO h o.h hd
theorem Pre.cs(o:Pre A p)(hnt:Γ.nt=nt){n:Nat}(hS:N1 (depth K')=Pz prog Γ c' (KQ prog Γ N (k.qq prog fn) K') n)(S:St)(e:S=xw)(t:Pz prog Γ c' (KQ prog Γ N (k.qq prog fn) K') n xw)
 (h:go prog (k.rf prog fn) nt 2000 (.run c) K st A=some (.cont (depth K') S,p):=by kernel_rfl):AW prog Γ c (KQ prog Γ N1 (k.qq prog fn) K) st:=QI (n:=2000) A _ hnt CO h o.h ((congrFun hS _).mpr (by rw[e];exact t))
theorem Pre.cf(o:Pre A p)(hnt:Γ.nt=nt){n:Nat}(hS:N1 (depth K')=Pz prog Γ c' (KQ prog Γ N (k.qq prog fn) K') n)(t:Pz prog Γ c' (KQ prog Γ N (k.qq prog fn) K') n xw)
 (h:go prog (k.rf prog fn) nt 2000 (.run c) K st A=some (.cont (depth K') xw,p):=by kernel_rfl):AW prog Γ c (KQ prog Γ N1 (k.qq prog fn) K) st:=o.cs hnt hS _ rfl t h
theorem Pre.ct(o:Pre A p)(hnt:Γ.nt=nt){n i:Nat}{S:Int->St}(hS:N1 (depth K')=Pz prog Γ c' (KQ prog Γ N (k.qq prog fn) K') n)(hi:IntKind.i64.wrap ((i:Int)+1)=((i+1:Nat):Int))(t:Pz prog Γ c' (KQ prog Γ N (k.qq prog fn) K') n (S ((i+1:Nat):Int)))
 (h:go prog (k.rf prog fn) nt 2000 (.run c) K st A=some (.cont (depth K') (S (IntKind.i64.wrap ((i:Int)+1))),p):=by kernel_rfl):AW prog Γ c (KQ prog Γ N1 (k.qq prog fn) K) st:=o.cs hnt hS _ (congrArg S hi) t h
theorem Pre.exs(o:Pre A p)(hnt:Γ.nt=nt)(hN:∀d,d<depth K0->N1 d=N d)(S:St)(e:S=xw)(t:AW prog Γ c' (KQ prog Γ N (k.qq prog fn) K') xw)(hd:depth K'=depth K0:=by kernel_rfl)(h:go prog (k.rf prog fn) nt 2000 (.run c) K st A=some (.at_ c' K' S,p):=by kernel_rfl):
 AW prog Γ c (KQ prog Γ N1 (k.qq prog fn) K) st:=QI (n:=2000) A _ hnt CO h o.h (QH (K0:=K0) hd hN (by rw[e];exact t))
theorem Pre.ex(o:Pre A p)(hnt:Γ.nt=nt)(hN:∀d,d<depth K0->N1 d=N d)(t:AW prog Γ c' (KQ prog Γ N (k.qq prog fn) K') xw)(hd:depth K'=depth K0:=by kernel_rfl)(h:go prog (k.rf prog fn) nt 2000 (.run c) K st A=some (.at_ c' K' xw,p):=by kernel_rfl):
 AW prog Γ c (KQ prog Γ N1 (k.qq prog fn) K) st:=o.exs hnt hN _ rfl t hd h
theorem Pre.XI(o:Pre A p)(hnt:Γ.nt=nt){n:Nat}(S:St)(e:S=xw)(t:Pz prog Γ c' (KQ prog Γ N (k.qq prog fn) K') n xw)(h:go prog (k.rf prog fn) nt 2000 (.run c) K st A=some (.lp c' K' S,p):=by kernel_rfl):
 AW prog Γ c (KQ prog Γ N (k.qq prog fn) K) st:=QI (n:=2000) A _ hnt CO h o.h (xX e (ym t))
theorem Pre.lp(o:Pre A p)(hnt:Γ.nt=nt){n:Nat}(t:Pz prog Γ c' (KQ prog Γ N (k.qq prog fn) K') n xw)(h:go prog (k.rf prog fn) nt 2000 (.run c) K st A=some (.lp c' K' xw,p):=by kernel_rfl):
 AW prog Γ c (KQ prog Γ N (k.qq prog fn) K) st:=o.XI hnt _ rfl t h
end
abbrev lc(f:Func)(p:List Nat):Code:=(dig (lR f) p []).1
abbrev Ac(f:Func)(p:List Nat):List Fr:=(dig (lR f) p []).2
abbrev Ax(Γ:w5)(N:Nat->St->Prop)(f:Func)(k:Kd)(p:List Nat)(s:St):Prop:=AW prog Γ (lc f p) (KQ prog Γ N (k.qq prog f) (Ac f p)) s
abbrev Ar(Γ:w5)(N:Nat->St->Prop)(f:Func)(k:Kd)(p:List Nat)(n:Nat)(s:St):Prop:=Pz prog Γ (lc f (p++[0])) (KQ prog Γ N (k.qq prog f) (Ac f p)) n s
theorem gd{f:FuncId}{fn:Func}{ds:aR}{d:D}(hf:prog.funcs[f]?=some fn)(nz:List (List (Option (Nat×Nat))))(nt:Nat)(h:(∀d∈ds,dY d)->∀Γ:w5,Γ.nt=nt->AW prog Γ (lR fn) (KQ prog Γ (fun _ _=>False) ((Kd.q nz d).qq prog fn) []) ⟨Cj 0 ds,[]⟩)
 (hb:fn.body=some (lR fn):=by kernel_rfl) (hn:(fn.name== "runtime.NumGoroutine")=false:=by kernel_rfl) (hl:Nat.ble ds.length fn.ntmps=true:=by kernel_rfl) (ht:fn.ntmps=nt:=by kernel_rfl):Good prog f ds d:=
 Good.of hf hb hn (zI hl) fun hr Γ hΓ=>h hr Γ (hΓ.trans ht)
theorem gdP{f:FuncId}{fn:Func}{cells cells' ds:aR}{d:D}(hf:prog.funcs[f]?=some fn)(nz:List (List (Option (Nat×Nat))))(nt:Nat)(GQ ds1:aR)(obs:bX)
 (h:(∀x∈(D.agg cells::ds).map D.shV,dY x)->∀(v0:Value) (Γ:w5),Γ.nt=nt->AW prog Γ (lR fn) (KQ prog Γ (fun _ _=>False) ((Kd.p nz v0 cells' d).qq prog fn) []) ⟨Cj 0 (.ptr 0 0::ds1),.Pr GQ v0::obs⟩)
 (hI:Ez 1 (.agg cells::ds)=(.agg GQ::ds1,obs):=by kernel_rfl) (hb:fn.body=some (lR fn):=by kernel_rfl) (hn:(fn.name== "runtime.NumGoroutine")=false:=by kernel_rfl) (hl:Nat.ble (ds1.length+1) fn.ntmps=true:=by kernel_rfl) (ht:fn.ntmps=nt:=by kernel_rfl):Bj prog f cells cells' ds d:=
 Bj.of hf hb hn hI (zI hl) fun hr v0 Γ hΓ=>h hr v0 Γ (hΓ.trans ht)
abbrev aL:=List aE
abbrev aT:=List aS
abbrev ah:=List aI
abbrev aq:=List aQ
abbrev ar:=List aN
abbrev ay:=List Node
abbrev b7:=List aP
abbrev c8:=List Action
theorem fH{α:Type}[DecidableEq α][BEq α][LawfulBEq α](a b:α):(a==b)=decide (a=b):=by rw[bp];simp
def yE(cs:aR):Prop:=∀d∈cs,dY d
theorem yE.row{α:Type}{c:α->aR}{l:List α}(h:dY (.sl (l.map c))):∀x∈l,yE (c x):=fun x hx d hd=>(dY.sl h).2 (c x) (cJ.2 ⟨x,hx,rfl⟩) d hd
theorem Good.a8W{P:Program}{f:FuncId}{ds:aR}{d:D}(hf:∃fn,P.funcs[f]?=some fn/\fn.body.isSome=true/\(fn.name== "runtime.NumGoroutine")=false)(h:yE ds->Good P f ds d):Good P f ds d:=
 ⟨hf,fun w Θ args bs hv hargs h1 h2 h3=>(h hargs.rdb).2 w Θ args bs hv hargs h1 h2 h3⟩
def kA{α:Type}(w:α->Nat)(l:List α):Nat:=l.length+(l.map w).sum
def tw(s:Bytes):Nat:=s.length
theorem qh{α:Type}(w:α->Nat)(x:α)(l:List α):kA w (x::l)=1+w x+kA w l:=by simp[kA];omega
theorem Y0{α:Type}(w:α->Nat)(a b:List α):kA w (a++b)=kA w a+kA w b:=by
 induction a with
 |nil=>simp[kA]
 |cons x a ih=>rw[dS,qh,qh,ih];omega
theorem gy{α:Type}(w:α->Nat)(l:List α):l.length<=kA w l:=by unfold kA;omega
theorem ic{α:Type}{w:α->Nat}{l:List α}{x:α}(h:x∈l):w x+1<=kA w l:=by
 induction l with
 |nil=>cases h
 |cons y l ih=>
  rw[qh];rcases bM.1 h with rfl|h
  ·omega
  ·have:=ih h;omega
theorem a3v{n:Nat}{v:Int}(hn:n<=maxLen)(h0:0<=v)(h1:v<=1048576):IntKind.i64.wrap (v-(n:Int))=v-(n:Int):=by
 unfold maxLen at hn;exact gx (tv.i64.2 (by omega))
def xY(o:Option Int)(v:Int)(n:Nat):Prop:=∃r,o=some r/\r<=v/\(0<=r->(n:Int)<=v-r)
theorem xY.str{n m:Nat}{v:Int}{k:Option Int}(hn:n<=maxLen)(h0:0<=v)(h1:v<=1048576)(hk:0<=v-(n:Int)->IntKind.i64.wrap (v-(n:Int))=v-(n:Int)->xY k (v-(n:Int)) m):
 xY (bif decide (IntKind.i64.wrap (v-(n:Int))<0)then some (-1)else k) v (n+m):=by
 have hw:=a3v hn h0 h1;rw[hw];by_cases c:v-(n:Int)<0
 ·exact⟨-1,by simp[c],by omega,by omega⟩
 ·obtain⟨r,e1,e2,e3⟩:=hk (by omega) hw;exact⟨r,by simp[c,e1],by omega,fun h=>by have:=e3 h;omega⟩
theorem xY.sub{o:Option Int}{v:Int}{k:Int->Option Int}{n m:Nat}(h:xY o v n)(h1:v<=1048576)(h0:0<=v)(hk:∀r,0<=r->r<=1048576->xY (k r) r m):
 xY (o.bind fun y=>bif decide (y<0)then some (-1)else k y) v (n+m):=by
 obtain⟨r,e1,e2,e3⟩:=h;rw[e1];by_cases c:r<0
 ·exact⟨-1,by simp[c],by omega,by omega⟩
 ·obtain⟨r',q1,q2,q3⟩:=hk r (by omega) (by omega);exact⟨r',by simp[c,q1],by omega,fun h=>by have:=e3 (by omega);have:=q3 h;omega⟩
theorem xY.fin{v:Int}:xY (some v) v 0:=⟨v,rfl,Int.le_refl _,fun _=>by omega⟩
theorem xY.eq{o:Option Int}{v:Int}{n m:Nat}(h:xY o v n)(e:n=m):xY o v m:=e▸h
theorem szL{α:Type}{w:α->Nat}{f:α->Int->Option Int}(L:List α->Nat->Int->Option Int)(v8:∀i v,L [] i v=some v)
 (th:∀x xs i v,L (x::xs) i v=(f x v).bind fun y=>bif decide (y<0)then some (-1)else L xs (i+1) y):
 ∀(l:List α),(∀x∈l,∀v,0<=v->v<=1048576->xY (f x v) v (w x))->∀i v,0<=v->v<=1048576->xY (L l i v) v ((l.map w).sum):=by
 intro l
 induction l with
 |nil=>intro _ i v _ _;rw[v8];exact .fin
 |cons x xs ih=>
  intro hf i v h0 h1;rw[th];refine((hf x (by simp) v h0 h1).sub h1 h0 (m:=(xs.map w).sum) fun r r0 r1=>?_).eq (by simp);exact ih (fun y hy=>hf y (by simp[hy])) (i+1) r r0 r1
theorem szS{α:Type}{c:α->aR}{w:α->Nat}{l:List α}{v:Int}{k:Int->Option Int}(hr:dY (.sl (l.map c)))(h0:0<=v)(h1:v<=1048576)
 (hk:∀v',0<=v'->v'<=1048576->xY (k v') v' ((l.map w).sum)):xY (bif decide (IntKind.i64.wrap (v-((l.map c).length:Int))<0)then some (-1)else k (IntKind.i64.wrap (v-((l.map c).length:Int)))) v (kA w l):=by
 have hn:(l.map c).length<=maxLen:=(dY.sl hr).1;refine(xY.str hn h0 h1 (m:=(l.map w).sum) fun g e=>?_).eq (by simp[kA]);rw[e];exact hk _ g (by omega)
theorem toL{α:Type}{z:α}{c:α->aR}{f:α->Option α}{l:List α}(L:List α->Nat->List α->Option (List α))(v8:∀i w,L [] i w=some w)
 (th:∀x xs i w,L (x::xs) i w=(f x).bind fun y=>bif decide (i<(w.map c).length)then(w[i]?).bind (fun _=>L xs (i+1) (w.set i y))else none) (hf:∀x∈l,f x=some x):
 L l 0 (List.replicate ((l.map c).length:Int).toNat z)=some l:=by
 have key:∀(rest pre:List α),l=pre++rest->L rest pre.length (pre++List.replicate rest.length z)=some l:=by
  intro rest
  induction rest with
  |nil=>intro pre h;rw[v8,h];simp
  |cons x xs ih=>
   intro pre h;rw[th,hf x (by rw[h];simp)];have e1:decide (pre.length<((pre++List.replicate (x::xs).length z).map c).length)=true:=by simp
   have e2:(pre++List.replicate (x::xs).length z)[pre.length]?=some z:=by simp[Ay]
   have e3:(pre++List.replicate (x::xs).length z).set pre.length x=(pre++[x])++List.replicate xs.length z:=by
    rw[aK,Ay,mr _ _ (bR _),pM,List.set_cons_zero];simp
   simp only[aA,e1,aV,e2,e3];have:=ih (pre++[x]) (by rw[h];simp);simpa using this
 have:=key l [] rfl;simpa using this
theorem KU{n b:Nat}(hn:n<=1048576)(hb:b<=1000):Ct (n:Int) b=true:=by
 unfold Ct;have h1:b*n<=1000*1048576:=GL hb hn;simp;omega
theorem SQ{α:Type}[DecidableEq α]{f:α->α->Option Bool}{a b:List α}{c:α->aR}(L:Option Bool->List α->Nat->Option Bool)(v8:∀k i,L k [] i=k)
 (th:∀k x xs i,L k (x::xs) i=(mK b (i:Int)).bind fun y=>(f x y).bind fun r=>bif !r then some false else L k xs (i+1)) (hf:∀x y,f x y=some (decide (x=y))):
 (bif (((a.map c).length:Int) != ((b.map c).length:Int))then some false else L (some true) a 0)=some (decide (a=b)):=by
 by_cases hl:a.length=b.length
 ·have e:(((a.map c).length:Int) != ((b.map c).length:Int))=false:=by simp[hl]
  rw[e];have key:∀(ra rb pa pb:List α),a=pa++ra->b=pb++rb->pa.length=pb.length->L (some true) ra pa.length=some (decide (ra=rb)):=by
   intro ra
   induction ra with
   |nil=>
    intro rb pa pb h1 h2 h3;rw[v8];have:rb=[]:=by
     have:=congrArg List.length h1;have:=congrArg List.length h2;simp at*;apply cg;omega
    subst this;simp
   |cons x xs ih=>
    intro rb pa pb h1 h2 h3;cases rb with
    |nil=>
     exfalso;have:=congrArg List.length h1;have:=congrArg List.length h2;simp at*;omega
    |cons y ys=>
     rw[th];have e1:mK b (pa.length:Int)=some y:=by
      unfold mK;have:b[pa.length]?=some y:=by rw[h2,h3];simp
      simp[this]
     rw[e1,aA,hf,aA];have:=ih ys (pa++[x]) (pb++[y]) (by rw[h1];simp) (by rw[h2];simp) (by simp[h3]);by_cases hxy:x=y
     ·subst hxy;simp only[Ch,bP,aZ];simp only[aX,aK,bK]at this;rw[this];simp
     ·simp[hxy]
  have:=key a b [] [] rfl rfl rfl;simpa using this
 ·have e:(((a.map c).length:Int) != ((b.map c).length:Int))=true:=by simp;omega
  rw[e];have:a≠b:=fun h=>hl (by rw[h])
  simp[this]
theorem yc{z:Int}(h0:0<=z)(h1:z<=4611686018427387904):IntKind.i64.wrap (z+1)=z+1:=gx (tv.i64.2 (by omega))
set_option maxRecDepth 100000
variable{Γ:w5}{N:Nat->St->Prop}
def jg(aB:aJ)(k1:Int->Option Int):aJ->Nat->Int->Option Int
 | [],i1,b8=>(k1 b8)
 |bD::bZ,i1,b8=>(bif decide ((IntKind.i64.wrap (b8-(bD.length:Int)):Int)<0)then(some (-1))else(jg aB k1 bZ (i1+1) (IntKind.i64.wrap (b8-(bD.length:Int)))))
def qC(aB:aJ)(aW:Int):Option Int:=(bif decide ((IntKind.i64.wrap (aW-((aB.map tx).length:Int)):Int)<0)then(some (-1))else(jg aB (fun(cL:Int)=>(some cL)) aB 0 (IntKind.i64.wrap (aW-((aB.map tx).length:Int)))))
def JT(aB:aJ)(b8:Int)(cT:Int):St:=⟨[(0,D.sl (aB.map tx)),(1,D.int .i64 b8),(5,D.int .i64 cT)],[]⟩
theorem HM(hΓ:Γ.nt=28){aB:aJ}{r:Int}{k1:Int->Option Int}(cX:∀(cL:Int),k1 cL=some r->Ax Γ N f68 (.q [[none]] (D.int .i64 r)) [1,1,1,1] ⟨[(1,D.int .i64 cL)],[]⟩)(hm1:aB.length<=maxLen):∀(rest:aJ) (i1:Nat) (b8:Int),aB.drop i1=rest->jg aB k1 rest i1 b8=some r->Ar Γ N f68 (.q [[none]] (D.int .i64 r)) [1,1,1,0,1,0] (rest.length+1) (JT aB b8 (i1:Int)):=by
 intro rest
 induction rest with
 |nil=>
  intro i1 b8 aj h;rw[jg]at h;refine aO fun N1 bz bg=>?_
  exact((aU.ge tx aj).a [.hl 0 [1] []]).ex hΓ bz (cX b8 h)
 |cons bD bZ ih1=>
  intro i1 b8 aj h;rw[jg]at h;refine aO fun N1 bz bg=>?_
  have dJ:=((aU.lt tx aj).l (ax tx 1 (dc aj) rfl))
  obtain⟨h14,h⟩|⟨h14,h⟩:=aM h
  ·cases h;exact(dJ.b h14).ret hΓ
  ·exact((dJ.b h14).a [.cn [0,1,5] []]).ct hΓ bg (iS aj hm1) (ih1 (i1+1) (IntKind.i64.wrap (b8-(bD.length:Int))) (dn aj) h)
theorem zV{aB:aJ}{aW:Int}{r:Int}(h:qC aB aW=some r):Good prog 68 [D.sl (aB.map tx),D.int .i64 aW] (D.int .i64 r):=by
 refine gd func68 [[none]] 28 fun hr Γ hΓ=>?_
 rw[qC]at h;obtain⟨h1,h⟩|⟨h1,h⟩:=aM h
 ·cases h;exact(aU.b h1).ret hΓ
 ·refine((aU.b h1).a [.cn [0,1,5] []]).lp hΓ (HM hΓ (fun cL h=>?_) (by have:=(dY.sl (hr _ (aC (i:=0) rfl))).1;simpa using this) aB 0 (IntKind.i64.wrap (aW-((aB.map tx).length:Int))) rfl h);have h:=aG h;subst h;exact aU.ret hΓ
def nM(aB:aE)(aW:Int):Option Int:=(bif decide ((IntKind.i64.wrap (aW-(aB.rel.length:Int)):Int)<0)then(some (-1))else((qC aB.args (IntKind.i64.wrap (aW-(aB.rel.length:Int)))).bind fun y2=>(bif decide ((y2:Int)<0)then(some (-1))else(some y2))))
theorem k6{aB:aE}{aW:Int}{r:Int}(h:nM aB aW=some r):Good prog 172 [D.agg (aE.c aB),D.int .i64 aW] (D.int .i64 r):=by
 refine gd func172 [[none]] 19 fun hr Γ hΓ=>?_
 rw[nM]at h;obtain⟨h1,h⟩|⟨h1,h⟩:=aM h
 ·cases h;exact(aU.b h1).ret hΓ
 ·obtain⟨y2,h3,h⟩:=aD h;have kF:=((aU.b h1).g (zV h3))
  obtain⟨h4,h⟩|⟨h4,h⟩:=aM h
  ·cases h;exact(kF.b h4).ret hΓ
  ·have h:=aG h;subst h;exact(kF.b h4).ret hΓ
def s9(aB:aQ)(aW:Int):Option Int:=((nM aB.pat aW).bind fun y1=>(bif decide ((y1:Int)<0)then(some (-1))else(bif decide ((IntKind.i64.wrap (y1-(aB.left.length:Int)):Int)<0)then(some (-1))else(bif decide ((IntKind.i64.wrap ((IntKind.i64.wrap (y1-(aB.left.length:Int)))-(aB.right.length:Int)):Int)<0)then(some (-1))else(some (IntKind.i64.wrap ((IntKind.i64.wrap (y1-(aB.left.length:Int)))-(aB.right.length:Int))))))))
theorem yJ{aB:aQ}{aW:Int}{r:Int}(h:s9 aB aW=some r):Good prog 173 [D.agg (aQ.c aB),D.int .i64 aW] (D.int .i64 r):=by
 refine gd func173 [[none]] 26 fun hr Γ hΓ=>?_
 rw[s9]at h;obtain⟨y1,h2,h⟩:=aD h;obtain⟨h3,h⟩|⟨h3,h⟩:=aM h
 ·cases h;exact((aU.g (k6 h2)).b h3).ret hΓ
 ·have kF:=((aU.g (k6 h2)).b h3)
  obtain⟨h4,h⟩|⟨h4,h⟩:=aM h
  ·cases h;exact(kF.b h4).ret hΓ
  ·obtain⟨h5,h⟩|⟨h5,h⟩:=aM h
   ·cases h;exact((kF.b h4).b h5).ret hΓ
   ·cases h;exact((kF.b h4).b h5).ret hΓ
def oU(aB:aq)(k1:Int->Option Int):aq->Nat->Int->Option Int
 | [],i1,b8=>(k1 b8)
 |bD::bZ,i1,b8=>((s9 bD b8).bind fun lT=>(bif decide ((lT:Int)<0)then(some (-1))else(oU aB k1 bZ (i1+1) lT)))
def wT(aB:aq)(aW:Int):Option Int:=(bif decide ((IntKind.i64.wrap (aW-((aB.map aQ.c).length:Int)):Int)<0)then(some (-1))else(oU aB (fun(cL:Int)=>(some cL)) aB 0 (IntKind.i64.wrap (aW-((aB.map aQ.c).length:Int)))))
def Mx(aB:aq)(b8:Int)(cT:Int):St:=⟨[(0,D.sl (aB.map aQ.c)),(1,D.int .i64 b8),(5,D.int .i64 cT)],[]⟩
theorem LK(hΓ:Γ.nt=27){aB:aq}{r:Int}{k1:Int->Option Int}(cX:∀(cL:Int),k1 cL=some r->Ax Γ N f136 (.q [[none]] (D.int .i64 r)) [1,1,1,1] ⟨[(1,D.int .i64 cL)],[]⟩)(hm1:aB.length<=maxLen):∀(rest:aq) (i1:Nat) (b8:Int),aB.drop i1=rest->oU aB k1 rest i1 b8=some r->Ar Γ N f136 (.q [[none]] (D.int .i64 r)) [1,1,1,0,1,0] (rest.length+1) (Mx aB b8 (i1:Int)):=by
 intro rest
 induction rest with
 |nil=>
  intro i1 b8 aj h;rw[oU]at h;refine aO fun N1 bz bg=>?_
  exact((aU.ge aQ.c aj).a [.hl 0 [1] []]).ex hΓ bz (cX b8 h)
 |cons bD bZ ih1=>
  intro i1 b8 aj h;rw[oU]at h;refine aO fun N1 bz bg=>?_
  obtain⟨lT,h23,h⟩:=aD h;have dJ:=(((aU.lt aQ.c aj).l (ax aQ.c 5 (dc aj) rfl)).g (yJ h23))
  obtain⟨h24,h⟩|⟨h24,h⟩:=aM h
  ·cases h;exact(dJ.b h24).ret hΓ
  ·exact((dJ.b h24).a [.cn [0,1,5] []]).ct hΓ bg (iS aj hm1) (ih1 (i1+1) lT (dn aj) h)
theorem JQ{aB:aq}{aW:Int}{r:Int}(h:wT aB aW=some r):Good prog 136 [D.sl (aB.map aQ.c),D.int .i64 aW] (D.int .i64 r):=by
 refine gd func136 [[none]] 27 fun hr Γ hΓ=>?_
 rw[wT]at h;obtain⟨h1,h⟩|⟨h1,h⟩:=aM h
 ·cases h;exact(aU.b h1).ret hΓ
 ·refine((aU.b h1).a [.cn [0,1,5] []]).lp hΓ (LK hΓ (fun cL h=>?_) (by have:=(dY.sl (hr _ (aC (i:=0) rfl))).1;simpa using this) aB 0 (IntKind.i64.wrap (aW-((aB.map aQ.c).length:Int))) rfl h);have h:=aG h;subst h;exact aU.ret hΓ
def rB(aB:Action)(aW:Int):Option Int:=((nM aB.pat aW).bind fun y1=>(bif decide ((y1:Int)<0)then(some (-1))else(some y1)))
theorem HK{aB:Action}{aW:Int}{r:Int}(h:rB aB aW=some r):Good prog 205 [D.agg (Action.c aB),D.int .i64 aW] (D.int .i64 r):=by
 refine gd func205 [[none]] 12 fun hr Γ hΓ=>?_
 rw[rB]at h;obtain⟨y1,h2,h⟩:=aD h;obtain⟨h3,h⟩|⟨h3,h⟩:=aM h
 ·cases h;exact((aU.g (k6 h2)).b h3).ret hΓ
 ·have h:=aG h;subst h;exact((aU.g (k6 h2)).b h3).ret hΓ
def mV(aB:c8)(k1:Int->Option Int):c8->Nat->Int->Option Int
 | [],i1,b8=>(k1 b8)
 |bD::bZ,i1,b8=>((rB bD b8).bind fun lT=>(bif decide ((lT:Int)<0)then(some (-1))else(mV aB k1 bZ (i1+1) lT)))
def tQ(aB:c8)(aW:Int):Option Int:=(bif decide ((IntKind.i64.wrap (aW-((aB.map Action.c).length:Int)):Int)<0)then(some (-1))else(mV aB (fun(cL:Int)=>(some cL)) aB 0 (IntKind.i64.wrap (aW-((aB.map Action.c).length:Int)))))
def JN(aB:c8)(b8:Int)(cT:Int):St:=⟨[(0,D.sl (aB.map Action.c)),(1,D.int .i64 b8),(5,D.int .i64 cT)],[]⟩
theorem HJ(hΓ:Γ.nt=27){aB:c8}{r:Int}{k1:Int->Option Int}(cX:∀(cL:Int),k1 cL=some r->Ax Γ N f137 (.q [[none]] (D.int .i64 r)) [1,1,1,1] ⟨[(1,D.int .i64 cL)],[]⟩)(hm1:aB.length<=maxLen):∀(rest:c8) (i1:Nat) (b8:Int),aB.drop i1=rest->mV aB k1 rest i1 b8=some r->Ar Γ N f137 (.q [[none]] (D.int .i64 r)) [1,1,1,0,1,0] (rest.length+1) (JN aB b8 (i1:Int)):=by
 intro rest
 induction rest with
 |nil=>
  intro i1 b8 aj h;rw[mV]at h;refine aO fun N1 bz bg=>?_
  exact((aU.ge Action.c aj).a [.hl 0 [1] []]).ex hΓ bz (cX b8 h)
 |cons bD bZ ih1=>
  intro i1 b8 aj h;rw[mV]at h;refine aO fun N1 bz bg=>?_
  obtain⟨lT,h23,h⟩:=aD h;have dJ:=(((aU.lt Action.c aj).l (ax Action.c 3 (dc aj) rfl)).g (HK h23))
  obtain⟨h24,h⟩|⟨h24,h⟩:=aM h
  ·cases h;exact(dJ.b h24).ret hΓ
  ·exact((dJ.b h24).a [.cn [0,1,5] []]).ct hΓ bg (iS aj hm1) (ih1 (i1+1) lT (dn aj) h)
theorem Fy{aB:c8}{aW:Int}{r:Int}(h:tQ aB aW=some r):Good prog 137 [D.sl (aB.map Action.c),D.int .i64 aW] (D.int .i64 r):=by
 refine gd func137 [[none]] 27 fun hr Γ hΓ=>?_
 rw[tQ]at h;obtain⟨h1,h⟩|⟨h1,h⟩:=aM h
 ·cases h;exact(aU.b h1).ret hΓ
 ·refine((aU.b h1).a [.cn [0,1,5] []]).lp hΓ (HJ hΓ (fun cL h=>?_) (by have:=(dY.sl (hr _ (aC (i:=0) rfl))).1;simpa using this) aB 0 (IntKind.i64.wrap (aW-((aB.map Action.c).length:Int))) rfl h);have h:=aG h;subst h;exact aU.ret hΓ
def vP(aB:aN)(aW:Int):Option Int:=(bif decide ((IntKind.i64.wrap (aW-(aB.name.length:Int)):Int)<0)then(some (-1))else((wT aB.conds (IntKind.i64.wrap (aW-(aB.name.length:Int)))).bind fun y2=>(bif decide ((y2:Int)<0)then(some (-1))else((tQ aB.cv y2).bind fun y5=>(bif decide ((y5:Int)<0)then(some (-1))else(some y5))))))
theorem LU{aB:aN}{aW:Int}{r:Int}(h:vP aB aW=some r):Good prog 79 [D.agg (aN.c aB),D.int .i64 aW] (D.int .i64 r):=by
 refine gd func79 [[none]] 25 fun hr Γ hΓ=>?_
 rw[vP]at h;obtain⟨h1,h⟩|⟨h1,h⟩:=aM h
 ·cases h;exact(aU.b h1).ret hΓ
 ·obtain⟨y2,h3,h⟩:=aD h;have kF:=((aU.b h1).g (JQ h3))
  obtain⟨h4,h⟩|⟨h4,h⟩:=aM h
  ·cases h;exact(kF.b h4).ret hΓ
  ·obtain⟨y5,h6,h⟩:=aD h;have dJ:=((kF.b h4).g (Fy h6))
   obtain⟨h7,h⟩|⟨h7,h⟩:=aM h
   ·cases h;exact(dJ.b h7).ret hΓ
   ·have h:=aG h;subst h;exact(dJ.b h7).ret hΓ
def oY(aB:ar)(k1:Int->Option Int):ar->Nat->Int->Option Int
 | [],i1,b8=>(k1 b8)
 |bD::bZ,i1,b8=>((vP bD b8).bind fun lT=>(bif decide ((lT:Int)<0)then(some (-1))else(oY aB k1 bZ (i1+1) lT)))
def wW(aB:ar)(aW:Int):Option Int:=(bif decide ((IntKind.i64.wrap (aW-((aB.map aN.c).length:Int)):Int)<0)then(some (-1))else(oY aB (fun(cL:Int)=>(some cL)) aB 0 (IntKind.i64.wrap (aW-((aB.map aN.c).length:Int)))))
def N7(aB:ar)(b8:Int)(cT:Int):St:=⟨[(0,D.sl (aB.map aN.c)),(1,D.int .i64 b8),(5,D.int .i64 cT)],[]⟩
theorem LS(hΓ:Γ.nt=27){aB:ar}{r:Int}{k1:Int->Option Int}(cX:∀(cL:Int),k1 cL=some r->Ax Γ N f33 (.q [[none]] (D.int .i64 r)) [1,1,1,1] ⟨[(1,D.int .i64 cL)],[]⟩)(hm1:aB.length<=maxLen):∀(rest:ar) (i1:Nat) (b8:Int),aB.drop i1=rest->oY aB k1 rest i1 b8=some r->Ar Γ N f33 (.q [[none]] (D.int .i64 r)) [1,1,1,0,1,0] (rest.length+1) (N7 aB b8 (i1:Int)):=by
 intro rest
 induction rest with
 |nil=>
  intro i1 b8 aj h;rw[oY]at h;refine aO fun N1 bz bg=>?_
  exact((aU.ge aN.c aj).a [.hl 0 [1] []]).ex hΓ bz (cX b8 h)
 |cons bD bZ ih1=>
  intro i1 b8 aj h;rw[oY]at h;refine aO fun N1 bz bg=>?_
  obtain⟨lT,h23,h⟩:=aD h;have dJ:=(((aU.lt aN.c aj).l (ax aN.c 4 (dc aj) rfl)).g (LU h23))
  obtain⟨h24,h⟩|⟨h24,h⟩:=aM h
  ·cases h;exact(dJ.b h24).ret hΓ
  ·exact((dJ.b h24).a [.cn [0,1,5] []]).ct hΓ bg (iS aj hm1) (ih1 (i1+1) lT (dn aj) h)
theorem B9{aB:ar}{aW:Int}{r:Int}(h:wW aB aW=some r):Good prog 33 [D.sl (aB.map aN.c),D.int .i64 aW] (D.int .i64 r):=by
 refine gd func33 [[none]] 27 fun hr Γ hΓ=>?_
 rw[wW]at h;obtain⟨h1,h⟩|⟨h1,h⟩:=aM h
 ·cases h;exact(aU.b h1).ret hΓ
 ·refine((aU.b h1).a [.cn [0,1,5] []]).lp hΓ (LS hΓ (fun cL h=>?_) (by have:=(dY.sl (hr _ (aC (i:=0) rfl))).1;simpa using this) aB 0 (IntKind.i64.wrap (aW-((aB.map aN.c).length:Int))) rfl h);have h:=aG h;subst h;exact aU.ret hΓ
def xe(aB:bI)(aW:Int):Option Int:=(bif decide ((IntKind.i64.wrap (aW-((aB.map dL).length:Int)):Int)<0)then(some (-1))else(some (IntKind.i64.wrap (aW-((aB.map dL).length:Int)))))
theorem LN{aB:bI}{aW:Int}{r:Int}(h:xe aB aW=some r):Good prog 46 [D.sl (aB.map dL),D.int .i64 aW] (D.int .i64 r):=by
 refine gd func46 [[none]] 12 fun hr Γ hΓ=>?_
 rw[xe]at h;obtain⟨h1,h⟩|⟨h1,h⟩:=aM h
 ·cases h;exact(aU.b h1).ret hΓ
 ·cases h;exact(aU.b h1).ret hΓ
def vM(aB:aE)(aW:Int):Option Int:=(bif decide ((IntKind.i64.wrap (aW-(aB.rel.length:Int)):Int)<0)then(some (-1))else((qC aB.args (IntKind.i64.wrap (aW-(aB.rel.length:Int)))).bind fun y2=>(bif decide ((y2:Int)<0)then(some (-1))else(some y2))))
theorem LM{aB:aE}{aW:Int}{r:Int}(h:vM aB aW=some r):Good prog 22 [D.agg (aE.c aB),D.int .i64 aW] (D.int .i64 r):=by
 refine gd func22 [[none]] 19 fun hr Γ hΓ=>?_
 rw[vM]at h;obtain⟨h1,h⟩|⟨h1,h⟩:=aM h
 ·cases h;exact(aU.b h1).ret hΓ
 ·obtain⟨y2,h3,h⟩:=aD h;have kF:=((aU.b h1).g (zV h3))
  obtain⟨h4,h⟩|⟨h4,h⟩:=aM h
  ·cases h;exact(kF.b h4).ret hΓ
  ·have h:=aG h;subst h;exact(kF.b h4).ret hΓ
def oV(aB:aL)(k1:Int->Option Int):aL->Nat->Int->Option Int
 | [],i1,b8=>(k1 b8)
 |bD::bZ,i1,b8=>((vM bD b8).bind fun lT=>(bif decide ((lT:Int)<0)then(some (-1))else(oV aB k1 bZ (i1+1) lT)))
def qQ(aB:aL)(aW:Int):Option Int:=(bif decide ((IntKind.i64.wrap (aW-((aB.map aE.c).length:Int)):Int)<0)then(some (-1))else(oV aB (fun(cL:Int)=>(some cL)) aB 0 (IntKind.i64.wrap (aW-((aB.map aE.c).length:Int)))))
def My(aB:aL)(b8:Int)(cT:Int):St:=⟨[(0,D.sl (aB.map aE.c)),(1,D.int .i64 b8),(5,D.int .i64 cT)],[]⟩
theorem LL(hΓ:Γ.nt=27){aB:aL}{r:Int}{k1:Int->Option Int}(cX:∀(cL:Int),k1 cL=some r->Ax Γ N f12 (.q [[none]] (D.int .i64 r)) [1,1,1,1] ⟨[(1,D.int .i64 cL)],[]⟩)(hm1:aB.length<=maxLen):∀(rest:aL) (i1:Nat) (b8:Int),aB.drop i1=rest->oV aB k1 rest i1 b8=some r->Ar Γ N f12 (.q [[none]] (D.int .i64 r)) [1,1,1,0,1,0] (rest.length+1) (My aB b8 (i1:Int)):=by
 intro rest
 induction rest with
 |nil=>
  intro i1 b8 aj h;rw[oV]at h;refine aO fun N1 bz bg=>?_
  exact((aU.ge aE.c aj).a [.hl 0 [1] []]).ex hΓ bz (cX b8 h)
 |cons bD bZ ih1=>
  intro i1 b8 aj h;rw[oV]at h;refine aO fun N1 bz bg=>?_
  obtain⟨lT,h23,h⟩:=aD h;have dJ:=(((aU.lt aE.c aj).l (ax aE.c 2 (dc aj) rfl)).g (LM h23))
  obtain⟨h24,h⟩|⟨h24,h⟩:=aM h
  ·cases h;exact(dJ.b h24).ret hΓ
  ·exact((dJ.b h24).a [.cn [0,1,5] []]).ct hΓ bg (iS aj hm1) (ih1 (i1+1) lT (dn aj) h)
theorem sS{aB:aL}{aW:Int}{r:Int}(h:qQ aB aW=some r):Good prog 12 [D.sl (aB.map aE.c),D.int .i64 aW] (D.int .i64 r):=by
 refine gd func12 [[none]] 27 fun hr Γ hΓ=>?_
 rw[qQ]at h;obtain⟨h1,h⟩|⟨h1,h⟩:=aM h
 ·cases h;exact(aU.b h1).ret hΓ
 ·refine((aU.b h1).a [.cn [0,1,5] []]).lp hΓ (LL hΓ (fun cL h=>?_) (by have:=(dY.sl (hr _ (aC (i:=0) rfl))).1;simpa using this) aB 0 (IntKind.i64.wrap (aW-((aB.map aE.c).length:Int))) rfl h);have h:=aG h;subst h;exact aU.ret hΓ
def tR(aB:aP)(aW:Int):Option Int:=((nM aB.shape aW).bind fun y1=>(bif decide ((y1:Int)<0)then(some (-1))else((qQ aB.facts y1).bind fun y4=>(bif decide ((y4:Int)<0)then(some (-1))else(some y4)))))
theorem JP{aB:aP}{aW:Int}{r:Int}(h:tR aB aW=some r):Good prog 100 [D.agg (aP.c aB),D.int .i64 aW] (D.int .i64 r):=by
 refine gd func100 [[none]] 18 fun hr Γ hΓ=>?_
 rw[tR]at h;obtain⟨y1,h2,h⟩:=aD h;obtain⟨h3,h⟩|⟨h3,h⟩:=aM h
 ·cases h;exact((aU.g (k6 h2)).b h3).ret hΓ
 ·obtain⟨y4,h5,h⟩:=aD h;have kF:=(((aU.g (k6 h2)).b h3).g (sS h5))
  obtain⟨h6,h⟩|⟨h6,h⟩:=aM h
  ·cases h;exact(kF.b h6).ret hΓ
  ·have h:=aG h;subst h;exact(kF.b h6).ret hΓ
def nL(aB:b7)(k1:Int->Option Int):b7->Nat->Int->Option Int
 | [],i1,b8=>(k1 b8)
 |bD::bZ,i1,b8=>((tR bD b8).bind fun lT=>(bif decide ((lT:Int)<0)then(some (-1))else(nL aB k1 bZ (i1+1) lT)))
def ud(aB:b7)(aW:Int):Option Int:=(bif decide ((IntKind.i64.wrap (aW-((aB.map aP.c).length:Int)):Int)<0)then(some (-1))else(nL aB (fun(cL:Int)=>(some cL)) aB 0 (IntKind.i64.wrap (aW-((aB.map aP.c).length:Int)))))
def LJ(aB:b7)(b8:Int)(cT:Int):St:=⟨[(0,D.sl (aB.map aP.c)),(1,D.int .i64 b8),(5,D.int .i64 cT)],[]⟩
theorem JO(hΓ:Γ.nt=27){aB:b7}{r:Int}{k1:Int->Option Int}(cX:∀(cL:Int),k1 cL=some r->Ax Γ N f47 (.q [[none]] (D.int .i64 r)) [1,1,1,1] ⟨[(1,D.int .i64 cL)],[]⟩)(hm1:aB.length<=maxLen):∀(rest:b7) (i1:Nat) (b8:Int),aB.drop i1=rest->nL aB k1 rest i1 b8=some r->Ar Γ N f47 (.q [[none]] (D.int .i64 r)) [1,1,1,0,1,0] (rest.length+1) (LJ aB b8 (i1:Int)):=by
 intro rest
 induction rest with
 |nil=>
  intro i1 b8 aj h;rw[nL]at h;refine aO fun N1 bz bg=>?_
  exact((aU.ge aP.c aj).a [.hl 0 [1] []]).ex hΓ bz (cX b8 h)
 |cons bD bZ ih1=>
  intro i1 b8 aj h;rw[nL]at h;refine aO fun N1 bz bg=>?_
  obtain⟨lT,h23,h⟩:=aD h;have dJ:=(((aU.lt aP.c aj).l (ax aP.c 3 (dc aj) rfl)).g (JP h23))
  obtain⟨h24,h⟩|⟨h24,h⟩:=aM h
  ·cases h;exact(dJ.b h24).ret hΓ
  ·exact((dJ.b h24).a [.cn [0,1,5] []]).ct hΓ bg (iS aj hm1) (ih1 (i1+1) lT (dn aj) h)
theorem HL{aB:b7}{aW:Int}{r:Int}(h:ud aB aW=some r):Good prog 47 [D.sl (aB.map aP.c),D.int .i64 aW] (D.int .i64 r):=by
 refine gd func47 [[none]] 27 fun hr Γ hΓ=>?_
 rw[ud]at h;obtain⟨h1,h⟩|⟨h1,h⟩:=aM h
 ·cases h;exact(aU.b h1).ret hΓ
 ·refine((aU.b h1).a [.cn [0,1,5] []]).lp hΓ (JO hΓ (fun cL h=>?_) (by have:=(dY.sl (hr _ (aC (i:=0) rfl))).1;simpa using this) aB 0 (IntKind.i64.wrap (aW-((aB.map aP.c).length:Int))) rfl h);have h:=aG h;subst h;exact aU.ret hΓ
def vO(aB:aS)(aW:Int):Option Int:=(bif decide ((IntKind.i64.wrap (aW-(aB.var.length:Int)):Int)<0)then(some (-1))else(bif decide ((IntKind.i64.wrap ((IntKind.i64.wrap (aW-(aB.var.length:Int)))-(aB.value.length:Int)):Int)<0)then(some (-1))else(some (IntKind.i64.wrap ((IntKind.i64.wrap (aW-(aB.var.length:Int)))-(aB.value.length:Int))))))
theorem LR{aB:aS}{aW:Int}{r:Int}(h:vO aB aW=some r):Good prog 283 [D.agg (aS.c aB),D.int .i64 aW] (D.int .i64 r):=by
 refine gd func283 [[none]] 20 fun hr Γ hΓ=>?_
 rw[vO]at h;obtain⟨h1,h⟩|⟨h1,h⟩:=aM h
 ·cases h;exact(aU.b h1).ret hΓ
 ·obtain⟨h2,h⟩|⟨h2,h⟩:=aM h
  ·cases h;exact((aU.b h1).b h2).ret hΓ
  ·cases h;exact((aU.b h1).b h2).ret hΓ
def oX(aB:aT)(k1:Int->Option Int):aT->Nat->Int->Option Int
 | [],i1,b8=>(k1 b8)
 |bD::bZ,i1,b8=>((vO bD b8).bind fun lT=>(bif decide ((lT:Int)<0)then(some (-1))else(oX aB k1 bZ (i1+1) lT)))
def wV(aB:aT)(aW:Int):Option Int:=(bif decide ((IntKind.i64.wrap (aW-((aB.map aS.c).length:Int)):Int)<0)then(some (-1))else(oX aB (fun(cL:Int)=>(some cL)) aB 0 (IntKind.i64.wrap (aW-((aB.map aS.c).length:Int)))))
def N6(aB:aT)(b8:Int)(cT:Int):St:=⟨[(0,D.sl (aB.map aS.c)),(1,D.int .i64 b8),(5,D.int .i64 cT)],[]⟩
theorem LQ(hΓ:Γ.nt=27){aB:aT}{r:Int}{k1:Int->Option Int}(cX:∀(cL:Int),k1 cL=some r->Ax Γ N f272 (.q [[none]] (D.int .i64 r)) [1,1,1,1] ⟨[(1,D.int .i64 cL)],[]⟩)(hm1:aB.length<=maxLen):∀(rest:aT) (i1:Nat) (b8:Int),aB.drop i1=rest->oX aB k1 rest i1 b8=some r->Ar Γ N f272 (.q [[none]] (D.int .i64 r)) [1,1,1,0,1,0] (rest.length+1) (N6 aB b8 (i1:Int)):=by
 intro rest
 induction rest with
 |nil=>
  intro i1 b8 aj h;rw[oX]at h;refine aO fun N1 bz bg=>?_
  exact((aU.ge aS.c aj).a [.hl 0 [1] []]).ex hΓ bz (cX b8 h)
 |cons bD bZ ih1=>
  intro i1 b8 aj h;rw[oX]at h;refine aO fun N1 bz bg=>?_
  obtain⟨lT,h23,h⟩:=aD h;have dJ:=(((aU.lt aS.c aj).l (ax aS.c 2 (dc aj) rfl)).g (LR h23))
  obtain⟨h24,h⟩|⟨h24,h⟩:=aM h
  ·cases h;exact(dJ.b h24).ret hΓ
  ·exact((dJ.b h24).a [.cn [0,1,5] []]).ct hΓ bg (iS aj hm1) (ih1 (i1+1) lT (dn aj) h)
theorem JS{aB:aT}{aW:Int}{r:Int}(h:wV aB aW=some r):Good prog 272 [D.sl (aB.map aS.c),D.int .i64 aW] (D.int .i64 r):=by
 refine gd func272 [[none]] 27 fun hr Γ hΓ=>?_
 rw[wV]at h;obtain⟨h1,h⟩|⟨h1,h⟩:=aM h
 ·cases h;exact(aU.b h1).ret hΓ
 ·refine((aU.b h1).a [.cn [0,1,5] []]).lp hΓ (LQ hΓ (fun cL h=>?_) (by have:=(dY.sl (hr _ (aC (i:=0) rfl))).1;simpa using this) aB 0 (IntKind.i64.wrap (aW-((aB.map aS.c).length:Int))) rfl h);have h:=aG h;subst h;exact aU.ret hΓ
def tT(aB:aI)(aW:Int):Option Int:=((qQ aB.facts aW).bind fun y1=>(bif decide ((y1:Int)<0)then(some (-1))else((wV aB.bind y1).bind fun y4=>(bif decide ((y4:Int)<0)then(some (-1))else(some y4)))))
theorem JV{aB:aI}{aW:Int}{r:Int}(h:tT aB aW=some r):Good prog 241 [D.agg (aI.c aB),D.int .i64 aW] (D.int .i64 r):=by
 refine gd func241 [[none]] 18 fun hr Γ hΓ=>?_
 rw[tT]at h;obtain⟨y1,h2,h⟩:=aD h;obtain⟨h3,h⟩|⟨h3,h⟩:=aM h
 ·cases h;exact((aU.g (sS h2)).b h3).ret hΓ
 ·obtain⟨y4,h5,h⟩:=aD h;have kF:=(((aU.g (sS h2)).b h3).g (JS h5))
  obtain⟨h6,h⟩|⟨h6,h⟩:=aM h
  ·cases h;exact(kF.b h6).ret hΓ
  ·have h:=aG h;subst h;exact(kF.b h6).ret hΓ
def nN(aB:ah)(k1:Int->Option Int):ah->Nat->Int->Option Int
 | [],i1,b8=>(k1 b8)
 |bD::bZ,i1,b8=>((tT bD b8).bind fun lT=>(bif decide ((lT:Int)<0)then(some (-1))else(nN aB k1 bZ (i1+1) lT)))
def ue(aB:ah)(aW:Int):Option Int:=(bif decide ((IntKind.i64.wrap (aW-((aB.map aI.c).length:Int)):Int)<0)then(some (-1))else(nN aB (fun(cL:Int)=>(some cL)) aB 0 (IntKind.i64.wrap (aW-((aB.map aI.c).length:Int)))))
def LV(aB:ah)(b8:Int)(cT:Int):St:=⟨[(0,D.sl (aB.map aI.c)),(1,D.int .i64 b8),(5,D.int .i64 cT)],[]⟩
theorem JU(hΓ:Γ.nt=27){aB:ah}{r:Int}{k1:Int->Option Int}(cX:∀(cL:Int),k1 cL=some r->Ax Γ N f174 (.q [[none]] (D.int .i64 r)) [1,1,1,1] ⟨[(1,D.int .i64 cL)],[]⟩)(hm1:aB.length<=maxLen):∀(rest:ah) (i1:Nat) (b8:Int),aB.drop i1=rest->nN aB k1 rest i1 b8=some r->Ar Γ N f174 (.q [[none]] (D.int .i64 r)) [1,1,1,0,1,0] (rest.length+1) (LV aB b8 (i1:Int)):=by
 intro rest
 induction rest with
 |nil=>
  intro i1 b8 aj h;rw[nN]at h;refine aO fun N1 bz bg=>?_
  exact((aU.ge aI.c aj).a [.hl 0 [1] []]).ex hΓ bz (cX b8 h)
 |cons bD bZ ih1=>
  intro i1 b8 aj h;rw[nN]at h;refine aO fun N1 bz bg=>?_
  obtain⟨lT,h23,h⟩:=aD h;have dJ:=(((aU.lt aI.c aj).l (ax aI.c 2 (dc aj) rfl)).g (JV h23))
  obtain⟨h24,h⟩|⟨h24,h⟩:=aM h
  ·cases h;exact(dJ.b h24).ret hΓ
  ·exact((dJ.b h24).a [.cn [0,1,5] []]).ct hΓ bg (iS aj hm1) (ih1 (i1+1) lT (dn aj) h)
theorem HN{aB:ah}{aW:Int}{r:Int}(h:ue aB aW=some r):Good prog 174 [D.sl (aB.map aI.c),D.int .i64 aW] (D.int .i64 r):=by
 refine gd func174 [[none]] 27 fun hr Γ hΓ=>?_
 rw[ue]at h;obtain⟨h1,h⟩|⟨h1,h⟩:=aM h
 ·cases h;exact(aU.b h1).ret hΓ
 ·refine((aU.b h1).a [.cn [0,1,5] []]).lp hΓ (JU hΓ (fun cL h=>?_) (by have:=(dY.sl (hr _ (aC (i:=0) rfl))).1;simpa using this) aB 0 (IntKind.i64.wrap (aW-((aB.map aI.c).length:Int))) rfl h);have h:=aG h;subst h;exact aU.ret hΓ
def vN(aB:Node)(aW:Int):Option Int:=((s9 aB.cond aW).bind fun y1=>(bif decide ((y1:Int)<0)then(some (-1))else((ue aB.tokens y1).bind fun y4=>(bif decide ((y4:Int)<0)then(some (-1))else(some y4)))))
theorem LP{aB:Node}{aW:Int}{r:Int}(h:vN aB aW=some r):Good prog 101 [D.agg (Node.c aB),D.int .i64 aW] (D.int .i64 r):=by
 refine gd func101 [[none]] 18 fun hr Γ hΓ=>?_
 rw[vN]at h;obtain⟨y1,h2,h⟩:=aD h;obtain⟨h3,h⟩|⟨h3,h⟩:=aM h
 ·cases h;exact((aU.g (yJ h2)).b h3).ret hΓ
 ·obtain⟨y4,h5,h⟩:=aD h;have kF:=(((aU.g (yJ h2)).b h3).g (HN h5))
  obtain⟨h6,h⟩|⟨h6,h⟩:=aM h
  ·cases h;exact(kF.b h6).ret hΓ
  ·have h:=aG h;subst h;exact(kF.b h6).ret hΓ
def oW(aB:ay)(k1:Int->Option Int):ay->Nat->Int->Option Int
 | [],i1,b8=>(k1 b8)
 |bD::bZ,i1,b8=>((vN bD b8).bind fun lT=>(bif decide ((lT:Int)<0)then(some (-1))else(oW aB k1 bZ (i1+1) lT)))
def wU(aB:ay)(aW:Int):Option Int:=(bif decide ((IntKind.i64.wrap (aW-((aB.map Node.c).length:Int)):Int)<0)then(some (-1))else(oW aB (fun(cL:Int)=>(some cL)) aB 0 (IntKind.i64.wrap (aW-((aB.map Node.c).length:Int)))))
def Mz(aB:ay)(b8:Int)(cT:Int):St:=⟨[(0,D.sl (aB.map Node.c)),(1,D.int .i64 b8),(5,D.int .i64 cT)],[]⟩
theorem LO(hΓ:Γ.nt=27){aB:ay}{r:Int}{k1:Int->Option Int}(cX:∀(cL:Int),k1 cL=some r->Ax Γ N f48 (.q [[none]] (D.int .i64 r)) [1,1,1,1] ⟨[(1,D.int .i64 cL)],[]⟩)(hm1:aB.length<=maxLen):∀(rest:ay) (i1:Nat) (b8:Int),aB.drop i1=rest->oW aB k1 rest i1 b8=some r->Ar Γ N f48 (.q [[none]] (D.int .i64 r)) [1,1,1,0,1,0] (rest.length+1) (Mz aB b8 (i1:Int)):=by
 intro rest
 induction rest with
 |nil=>
  intro i1 b8 aj h;rw[oW]at h;refine aO fun N1 bz bg=>?_
  exact((aU.ge Node.c aj).a [.hl 0 [1] []]).ex hΓ bz (cX b8 h)
 |cons bD bZ ih1=>
  intro i1 b8 aj h;rw[oW]at h;refine aO fun N1 bz bg=>?_
  obtain⟨lT,h23,h⟩:=aD h;have dJ:=(((aU.lt Node.c aj).l (ax Node.c 8 (dc aj) rfl)).g (LP h23))
  obtain⟨h24,h⟩|⟨h24,h⟩:=aM h
  ·cases h;exact(dJ.b h24).ret hΓ
  ·exact((dJ.b h24).a [.cn [0,1,5] []]).ct hΓ bg (iS aj hm1) (ih1 (i1+1) lT (dn aj) h)
theorem JR{aB:ay}{aW:Int}{r:Int}(h:wU aB aW=some r):Good prog 48 [D.sl (aB.map Node.c),D.int .i64 aW] (D.int .i64 r):=by
 refine gd func48 [[none]] 27 fun hr Γ hΓ=>?_
 rw[wU]at h;obtain⟨h1,h⟩|⟨h1,h⟩:=aM h
 ·cases h;exact(aU.b h1).ret hΓ
 ·refine((aU.b h1).a [.cn [0,1,5] []]).lp hΓ (LO hΓ (fun cL h=>?_) (by have:=(dY.sl (hr _ (aC (i:=0) rfl))).1;simpa using this) aB 0 (IntKind.i64.wrap (aW-((aB.map Node.c).length:Int))) rfl h);have h:=aG h;subst h;exact aU.ret hΓ
def tS(aB:aF)(aW:Int):Option Int:=((wW aB.rules aW).bind fun y1=>(bif decide ((y1:Int)<0)then(some (-1))else((xe aB.ends y1).bind fun y4=>(bif decide ((y4:Int)<0)then(some (-1))else((ud aB.av y4).bind fun y7=>(bif decide ((y7:Int)<0)then(some (-1))else((wU aB.nodes y7).bind fun DK=>(bif decide ((DK:Int)<0)then(some (-1))else((qQ aB.facts DK).bind fun vz=>(bif decide ((vz:Int)<0)then(some (-1))else(some vz)))))))))))
theorem zU{aB:aF}{aW:Int}{r:Int}(h:tS aB aW=some r):Good prog 11 [D.agg (aF.c aB),D.int .i64 aW] (D.int .i64 r):=by
 refine gd func11 [[none]] 36 fun hr Γ hΓ=>?_
 rw[tS]at h;obtain⟨y1,h2,h⟩:=aD h;obtain⟨h3,h⟩|⟨h3,h⟩:=aM h
 ·cases h;exact((aU.g (B9 h2)).b h3).ret hΓ
 ·obtain⟨y4,h5,h⟩:=aD h;have kF:=(((aU.g (B9 h2)).b h3).g (LN h5))
  obtain⟨h6,h⟩|⟨h6,h⟩:=aM h
  ·cases h;exact(kF.b h6).ret hΓ
  ·obtain⟨y7,h8,h⟩:=aD h;have dJ:=((kF.b h6).g (HL h8))
   obtain⟨h9,h⟩|⟨h9,h⟩:=aM h
   ·cases h;exact(dJ.b h9).ret hΓ
   ·obtain⟨DK,h11,h⟩:=aD h;have jb:=((dJ.b h9).g (JR h11))
    obtain⟨h12,h⟩|⟨h12,h⟩:=aM h
    ·cases h;exact(jb.b h12).ret hΓ
    ·obtain⟨vz,h14,h⟩:=aD h;have ia:=((jb.b h12).g (sS h14))
     obtain⟨h15,h⟩|⟨h15,h⟩:=aM h
     ·cases h;exact(ia.b h15).ret hΓ
     ·have h:=aG h;subst h;exact(ia.b h15).ret hΓ
variable{Γ:w5}{N:Nat->St->Prop}
def jh(aB:aJ)(k1:aJ->Option aJ):aJ->Nat->aJ->Option aJ
 | [],i1,bC=>(k1 bC)
 |bD::bZ,i1,bC=>(bif decide (i1<(bC.map tx).length)then(((bC)[i1]?).bind fun x30=>(jh aB k1 bZ (i1+1) (bC.set i1 bD)))else none)
def qD(aB:aJ):Option aJ:=(bif Ct ((aB.map tx).length:Int) 16 then(jh aB (fun(bQ:aJ)=>(some bQ)) aB 0 (List.replicate ((aB.map tx).length:Int).toNat ([]:Bytes)))else none)
def xR(aB:aJ)(W0:List aR)(cT:Int):St:=⟨[(0,D.sl (aB.map tx)),(3,D.acc 0),(4,D.int .i64 cT)],[Ob.row .uq 9 1 W0]⟩
theorem HR(hΓ:Γ.nt=22){aB:aJ}{r:aJ}{k1:aJ->Option aJ}(cX:∀(bQ:aJ),k1 bQ=some r->Ax Γ N f70 (.q [[some (9,1)]] (D.fr 9 1 (r.map tx))) [1,1,1] ⟨[(3,D.acc 0)],[Ob.row .uq 9 1 (bQ.map tx)]⟩)(hm1:aB.length<=maxLen):∀(rest:aJ) (i1:Nat) (bC:aJ),aB.drop i1=rest->jh aB k1 rest i1 bC=some r->Ar Γ N f70 (.q [[some (9,1)]] (D.fr 9 1 (r.map tx))) [1,1,0,1,0] (rest.length+1) (xR aB (bC.map tx) (i1:Int)):=by
 intro rest
 induction rest with
 |nil=>
  intro i1 bC aj h;rw[jh]at h;refine aO fun N1 bz bg=>?_
  exact((aU.ge tx aj).a [.hl 0 [3] [0]]).ex hΓ bz (cX bC h)
 |cons bD bZ ih1=>
  intro i1 bC aj h;rw[jh]at h;refine aO fun N1 bz bg=>?_
  obtain⟨h29,h⟩:=bV h;obtain⟨x30,h31,h⟩:=aD h;exact(((((aU.lt tx aj).l (ax tx 1 (dc aj) rfl)).i (zh 1 h29)).w (show(bC.map tx)[i1]?=some [D.str x30]from dG tx h31)).a [.row [D.str x30],.cn [0,3,4] [0]]).cs hΓ bg (xR aB ((bC.map tx).set i1 [D.str bD]) (IntKind.i64.wrap ((i1:Int)+1))) (by first| (simp only[iS aj hm1,mA]<;>rfl)| (simp only[iS aj hm1,mA,aE.c,aS.c,aQ.c,Action.c,aN.c,aI.c,cu.c,aP.c,Node.c,aF.c,cw.c]<;>rfl)) (ih1 (i1+1) (bC.set i1 bD) (dn aj) h)
theorem zW{aB:aJ}{r:aJ}(h:qD aB=some r):Good prog 70 [D.sl (aB.map tx)] (D.fr 9 1 (r.map tx)):=by
 refine gd func70 [[some (9,1)]] 22 fun hr Γ hΓ=>?_
 rw[qD]at h;obtain⟨h1,h⟩:=bV h;refine((aU.w (xq h1)).a [.cn [0,3,4] [0]]).XI hΓ (xR aB (List.replicate ((aB.map tx).length:Int).toNat [D.str ([])]) 0) (by first| (simp only[mA]<;>rfl)| (simp only[mA,aE.c,aS.c,aQ.c,Action.c,aN.c,aI.c,cu.c,aP.c,Node.c,aF.c,cw.c]<;>rfl)) (HR hΓ (fun bQ h=>?_) (by have:=(dY.sl (hr _ (aC (i:=0) rfl))).1;simpa using this) aB 0 (List.replicate ((aB.map tx).length:Int).toNat ([]:Bytes)) rfl h);have h:=aG h;subst h;exact aU.ret hΓ
def nQ(aB:aE):Option aE:=((qD aB.args).bind fun y1=>(some (⟨aB.rel,y1⟩:aE)))
theorem vl{aB:aE}{r:aE}(h:nQ aB=some r):Good prog 179 [D.agg (aE.c aB)] (D.agg [D.str r.rel,D.fr 9 1 (r.args.map tx)]):=by
 refine gd func179 [[none,some (9,1)]] 12 fun hr Γ hΓ=>?_
 rw[nQ]at h;obtain⟨y1,h2,h⟩:=aD h;cases h;exact(aU.g (zW h2)).ret hΓ
def sA(aB:aQ):Option aQ:=((nQ aB.pat).bind fun y1=>(some (⟨aB.kind,y1,aB.left,aB.right⟩:aQ)))
theorem C3{aB:aQ}{r:aQ}(h:sA aB=some r):Good prog 180 [D.agg (aQ.c aB)] (D.agg [D.int .i64 r.kind,D.str r.pat.rel,D.fr 9 1 (r.pat.args.map tx),D.str r.left,D.str r.right]):=by
 refine gd func180 [[none,none,some (9,1),none,none]] 18 fun hr Γ hΓ=>?_
 rw[sA]at h;obtain⟨y1,h2,h⟩:=aD h;cases h;exact(aU.g (vl h2)).ret hΓ
def oZ(aB:aq)(k1:aq->Option aq):aq->Nat->aq->Option aq
 | [],i1,bC=>(k1 bC)
 |bD::bZ,i1,bC=>((sA bD).bind fun vX=>(bif decide (i1<(bC.map aQ.c).length)then(((bC)[i1]?).bind fun x44=>(oZ aB k1 bZ (i1+1) (bC.set i1 vX)))else none))
def wX(aB:aq):Option aq:=(bif Ct ((aB.map aQ.c).length:Int) 80 then(oZ aB (fun(bQ:aq)=>(some bQ)) aB 0 (List.replicate ((aB.map aQ.c).length:Int).toNat (⟨(0:Int),(⟨([]:Bytes),[]⟩:aE),([]:Bytes),([]:Bytes)⟩:aQ)))else none)
def yw(aB:aq)(W0:List aR)(cT:Int):St:=⟨[(0,D.sl (aB.map aQ.c)),(3,D.acc 0),(4,D.int .i64 cT)],[Ob.row .uq 115 5 W0]⟩
theorem LW(hΓ:Γ.nt=23){aB:aq}{r:aq}{k1:aq->Option aq}(cX:∀(bQ:aq),k1 bQ=some r->Ax Γ N f140 (.q [[some (115,5)]] (D.fr 115 5 (r.map aQ.c))) [1,1,1] ⟨[(3,D.acc 0)],[Ob.row .uq 115 5 (bQ.map aQ.c)]⟩)(hm1:aB.length<=maxLen):∀(rest:aq) (i1:Nat) (bC:aq),aB.drop i1=rest->oZ aB k1 rest i1 bC=some r->Ar Γ N f140 (.q [[some (115,5)]] (D.fr 115 5 (r.map aQ.c))) [1,1,0,1,0] (rest.length+1) (yw aB (bC.map aQ.c) (i1:Int)):=by
 intro rest
 induction rest with
 |nil=>
  intro i1 bC aj h;rw[oZ]at h;refine aO fun N1 bz bg=>?_
  exact((aU.ge aQ.c aj).a [.hl 0 [3] [0]]).ex hΓ bz (cX bC h)
 |cons bD bZ ih1=>
  intro i1 bC aj h;rw[oZ]at h;refine aO fun N1 bz bg=>?_
  obtain⟨vX,h42,h⟩:=aD h;obtain⟨h43,h⟩:=bV h;obtain⟨x44,h45,h⟩:=aD h;exact((((((aU.lt aQ.c aj).l (ax aQ.c 5 (dc aj) rfl)).g (C3 h42)).i (zh 5 h43)).w (show(bC.map aQ.c)[i1]?=some [D.int .i64 x44.kind,D.str x44.pat.rel,D.sl (x44.pat.args.map tx),D.str x44.left,D.str x44.right]from dG aQ.c h45)).a [.row [D.int .i64 x44.kind,D.str x44.pat.rel,D.sl (x44.pat.args.map tx),D.str x44.left,D.str x44.right],.cn [0,3,4] [0]]).cs hΓ bg (yw aB ((bC.map aQ.c).set i1 [D.int .i64 vX.kind,D.str vX.pat.rel,D.sl (vX.pat.args.map tx),D.str vX.left,D.str vX.right]) (IntKind.i64.wrap ((i1:Int)+1))) (by first| (simp only[iS aj hm1,mA]<;>rfl)| (simp only[iS aj hm1,mA,aE.c,aS.c,aQ.c,Action.c,aN.c,aI.c,cu.c,aP.c,Node.c,aF.c,cw.c]<;>rfl)) (ih1 (i1+1) (bC.set i1 vX) (dn aj) h)
theorem JY{aB:aq}{r:aq}(h:wX aB=some r):Good prog 140 [D.sl (aB.map aQ.c)] (D.fr 115 5 (r.map aQ.c)):=by
 refine gd func140 [[some (115,5)]] 23 fun hr Γ hΓ=>?_
 rw[wX]at h;obtain⟨h1,h⟩:=bV h;refine((aU.w (xq h1)).a [.cn [0,3,4] [0]]).XI hΓ (yw aB (List.replicate ((aB.map aQ.c).length:Int).toNat [D.int .i64 0,D.str ([]),D.sl ([]),D.str ([]),D.str ([])]) 0) (by first| (simp only[mA]<;>rfl)| (simp only[mA,aE.c,aS.c,aQ.c,Action.c,aN.c,aI.c,cu.c,aP.c,Node.c,aF.c,cw.c]<;>rfl)) (LW hΓ (fun bQ h=>?_) (by have:=(dY.sl (hr _ (aC (i:=0) rfl))).1;simpa using this) aB 0 (List.replicate ((aB.map aQ.c).length:Int).toNat (⟨(0:Int),(⟨([]:Bytes),[]⟩:aE),([]:Bytes),([]:Bytes)⟩:aQ)) rfl h);have h:=aG h;subst h;exact aU.ret hΓ
def rC(aB:Action):Option Action:=((nQ aB.pat).bind fun y1=>(some (⟨aB.kind,y1⟩:Action)))
theorem HP{aB:Action}{r:Action}(h:rC aB=some r):Good prog 210 [D.agg (Action.c aB)] (D.agg [D.int .i64 r.kind,D.str r.pat.rel,D.fr 9 1 (r.pat.args.map tx)]):=by
 refine gd func210 [[none,none,some (9,1)]] 12 fun hr Γ hΓ=>?_
 rw[rC]at h;obtain⟨y1,h2,h⟩:=aD h;cases h;exact(aU.g (vl h2)).ret hΓ
def mW(aB:c8)(k1:c8->Option c8):c8->Nat->c8->Option c8
 | [],i1,bC=>(k1 bC)
 |bD::bZ,i1,bC=>((rC bD).bind fun vX=>(bif decide (i1<(bC.map Action.c).length)then(((bC)[i1]?).bind fun x44=>(mW aB k1 bZ (i1+1) (bC.set i1 vX)))else none))
def tU(aB:c8):Option c8:=(bif Ct ((aB.map Action.c).length:Int) 48 then(mW aB (fun(bQ:c8)=>(some bQ)) aB 0 (List.replicate ((aB.map Action.c).length:Int).toNat (⟨(0:Int),(⟨([]:Bytes),[]⟩:aE)⟩:Action)))else none)
def xP(aB:c8)(W0:List aR)(cT:Int):St:=⟨[(0,D.sl (aB.map Action.c)),(3,D.acc 0),(4,D.int .i64 cT)],[Ob.row .uq 199 3 W0]⟩
theorem HO(hΓ:Γ.nt=23){aB:c8}{r:c8}{k1:c8->Option c8}(cX:∀(bQ:c8),k1 bQ=some r->Ax Γ N f141 (.q [[some (199,3)]] (D.fr 199 3 (r.map Action.c))) [1,1,1] ⟨[(3,D.acc 0)],[Ob.row .uq 199 3 (bQ.map Action.c)]⟩)(hm1:aB.length<=maxLen):∀(rest:c8) (i1:Nat) (bC:c8),aB.drop i1=rest->mW aB k1 rest i1 bC=some r->Ar Γ N f141 (.q [[some (199,3)]] (D.fr 199 3 (r.map Action.c))) [1,1,0,1,0] (rest.length+1) (xP aB (bC.map Action.c) (i1:Int)):=by
 intro rest
 induction rest with
 |nil=>
  intro i1 bC aj h;rw[mW]at h;refine aO fun N1 bz bg=>?_
  exact((aU.ge Action.c aj).a [.hl 0 [3] [0]]).ex hΓ bz (cX bC h)
 |cons bD bZ ih1=>
  intro i1 bC aj h;rw[mW]at h;refine aO fun N1 bz bg=>?_
  obtain⟨vX,h42,h⟩:=aD h;obtain⟨h43,h⟩:=bV h;obtain⟨x44,h45,h⟩:=aD h;exact((((((aU.lt Action.c aj).l (ax Action.c 3 (dc aj) rfl)).g (HP h42)).i (zh 3 h43)).w (show(bC.map Action.c)[i1]?=some [D.int .i64 x44.kind,D.str x44.pat.rel,D.sl (x44.pat.args.map tx)]from dG Action.c h45)).a [.row [D.int .i64 x44.kind,D.str x44.pat.rel,D.sl (x44.pat.args.map tx)],.cn [0,3,4] [0]]).cs hΓ bg (xP aB ((bC.map Action.c).set i1 [D.int .i64 vX.kind,D.str vX.pat.rel,D.sl (vX.pat.args.map tx)]) (IntKind.i64.wrap ((i1:Int)+1))) (by first| (simp only[iS aj hm1,mA]<;>rfl)| (simp only[iS aj hm1,mA,aE.c,aS.c,aQ.c,Action.c,aN.c,aI.c,cu.c,aP.c,Node.c,aF.c,cw.c]<;>rfl)) (ih1 (i1+1) (bC.set i1 vX) (dn aj) h)
theorem Fz{aB:c8}{r:c8}(h:tU aB=some r):Good prog 141 [D.sl (aB.map Action.c)] (D.fr 199 3 (r.map Action.c)):=by
 refine gd func141 [[some (199,3)]] 23 fun hr Γ hΓ=>?_
 rw[tU]at h;obtain⟨h1,h⟩:=bV h;refine((aU.w (xq h1)).a [.cn [0,3,4] [0]]).XI hΓ (xP aB (List.replicate ((aB.map Action.c).length:Int).toNat [D.int .i64 0,D.str ([]),D.sl ([])]) 0) (by first| (simp only[mA]<;>rfl)| (simp only[mA,aE.c,aS.c,aQ.c,Action.c,aN.c,aI.c,cu.c,aP.c,Node.c,aF.c,cw.c]<;>rfl)) (HO hΓ (fun bQ h=>?_) (by have:=(dY.sl (hr _ (aC (i:=0) rfl))).1;simpa using this) aB 0 (List.replicate ((aB.map Action.c).length:Int).toNat (⟨(0:Int),(⟨([]:Bytes),[]⟩:aE)⟩:Action)) rfl h);have h:=aG h;subst h;exact aU.ret hΓ
def vT(aB:aN):Option aN:=((wX aB.conds).bind fun y1=>((tU aB.cv).bind fun y3=>(some (⟨aB.name,aB.prio,y1,y3⟩:aN))))
theorem Lh{aB:aN}{r:aN}(h:vT aB=some r):Good prog 81 [D.agg (aN.c aB)] (D.agg [D.str r.name,D.int .i64 r.prio,D.fr 115 5 (r.conds.map aQ.c),D.fr 199 3 (r.cv.map Action.c)]):=by
 refine gd func81 [[none,none,some (115,5),some (199,3)]] 19 fun hr Γ hΓ=>?_
 rw[vT]at h;obtain⟨y1,h2,h⟩:=aD h;obtain⟨y3,h4,h⟩:=aD h;cases h;exact((aU.g (JY h2)).g (Fz h4)).ret hΓ
def oh(aB:ar)(k1:ar->Option ar):ar->Nat->ar->Option ar
 | [],i1,bC=>(k1 bC)
 |bD::bZ,i1,bC=>((vT bD).bind fun vX=>(bif decide (i1<(bC.map aN.c).length)then(((bC)[i1]?).bind fun x44=>(oh aB k1 bZ (i1+1) (bC.set i1 vX)))else none))
def we(aB:ar):Option ar:=(bif Ct ((aB.map aN.c).length:Int) 72 then(oh aB (fun(bQ:ar)=>(some bQ)) aB 0 (List.replicate ((aB.map aN.c).length:Int).toNat (⟨([]:Bytes),(0:Int),[],[]⟩:aN)))else none)
def z6(aB:ar)(W0:List aR)(cT:Int):St:=⟨[(0,D.sl (aB.map aN.c)),(3,D.acc 0),(4,D.int .i64 cT)],[Ob.row .uq 105 4 W0]⟩
theorem Lg(hΓ:Γ.nt=23){aB:ar}{r:ar}{k1:ar->Option ar}(cX:∀(bQ:ar),k1 bQ=some r->Ax Γ N f35 (.q [[some (105,4)]] (D.fr 105 4 (r.map aN.c))) [1,1,1] ⟨[(3,D.acc 0)],[Ob.row .uq 105 4 (bQ.map aN.c)]⟩)(hm1:aB.length<=maxLen):∀(rest:ar) (i1:Nat) (bC:ar),aB.drop i1=rest->oh aB k1 rest i1 bC=some r->Ar Γ N f35 (.q [[some (105,4)]] (D.fr 105 4 (r.map aN.c))) [1,1,0,1,0] (rest.length+1) (z6 aB (bC.map aN.c) (i1:Int)):=by
 intro rest
 induction rest with
 |nil=>
  intro i1 bC aj h;rw[oh]at h;refine aO fun N1 bz bg=>?_
  exact((aU.ge aN.c aj).a [.hl 0 [3] [0]]).ex hΓ bz (cX bC h)
 |cons bD bZ ih1=>
  intro i1 bC aj h;rw[oh]at h;refine aO fun N1 bz bg=>?_
  obtain⟨vX,h42,h⟩:=aD h;obtain⟨h43,h⟩:=bV h;obtain⟨x44,h45,h⟩:=aD h;exact((((((aU.lt aN.c aj).l (ax aN.c 4 (dc aj) rfl)).g (Lh h42)).i (zh 4 h43)).w (show(bC.map aN.c)[i1]?=some [D.str x44.name,D.int .i64 x44.prio,D.sl (x44.conds.map aQ.c),D.sl (x44.cv.map Action.c)]from dG aN.c h45)).a [.row [D.str x44.name,D.int .i64 x44.prio,D.sl (x44.conds.map aQ.c),D.sl (x44.cv.map Action.c)],.cn [0,3,4] [0]]).cs hΓ bg (z6 aB ((bC.map aN.c).set i1 [D.str vX.name,D.int .i64 vX.prio,D.sl (vX.conds.map aQ.c),D.sl (vX.cv.map Action.c)]) (IntKind.i64.wrap ((i1:Int)+1))) (by first| (simp only[iS aj hm1,mA]<;>rfl)| (simp only[iS aj hm1,mA,aE.c,aS.c,aQ.c,Action.c,aN.c,aI.c,cu.c,aP.c,Node.c,aF.c,cw.c]<;>rfl)) (ih1 (i1+1) (bC.set i1 vX) (dn aj) h)
theorem Jb{aB:ar}{r:ar}(h:we aB=some r):Good prog 35 [D.sl (aB.map aN.c)] (D.fr 105 4 (r.map aN.c)):=by
 refine gd func35 [[some (105,4)]] 23 fun hr Γ hΓ=>?_
 rw[we]at h;obtain⟨h1,h⟩:=bV h;refine((aU.w (xq h1)).a [.cn [0,3,4] [0]]).XI hΓ (z6 aB (List.replicate ((aB.map aN.c).length:Int).toNat [D.str ([]),D.int .i64 0,D.sl ([]),D.sl ([])]) 0) (by first| (simp only[mA]<;>rfl)| (simp only[mA,aE.c,aS.c,aQ.c,Action.c,aN.c,aI.c,cu.c,aP.c,Node.c,aF.c,cw.c]<;>rfl)) (Lg hΓ (fun bQ h=>?_) (by have:=(dY.sl (hr _ (aC (i:=0) rfl))).1;simpa using this) aB 0 (List.replicate ((aB.map aN.c).length:Int).toNat (⟨([]:Bytes),(0:Int),[],[]⟩:aN)) rfl h);have h:=aG h;subst h;exact aU.ret hΓ
def nP(aB:bI)(k1:bI->Option bI):bI->Nat->bI->Option bI
 | [],i1,bC=>(k1 bC)
 |bD::bZ,i1,bC=>(bif decide (i1<(bC.map dL).length)then(((bC)[i1]?).bind fun x30=>(nP aB k1 bZ (i1+1) (bC.set i1 bD)))else none)
def xf(aB:bI):Option bI:=(bif Ct ((aB.map dL).length:Int) 8 then(nP aB (fun(bQ:bI)=>(some bQ)) aB 0 (List.replicate ((aB.map dL).length:Int).toNat (0:Int)))else none)
def zf(aB:bI)(W0:List aR)(cT:Int):St:=⟨[(0,D.sl (aB.map dL)),(3,D.acc 0),(4,D.int .i64 cT)],[Ob.row .uq 3 1 W0]⟩
theorem N8(hΓ:Γ.nt=22){aB:bI}{r:bI}{k1:bI->Option bI}(cX:∀(bQ:bI),k1 bQ=some r->Ax Γ N f50 (.q [[some (3,1)]] (D.fr 3 1 (r.map dL))) [1,1,1] ⟨[(3,D.acc 0)],[Ob.row .uq 3 1 (bQ.map dL)]⟩)(hm1:aB.length<=maxLen):∀(rest:bI) (i1:Nat) (bC:bI),aB.drop i1=rest->nP aB k1 rest i1 bC=some r->Ar Γ N f50 (.q [[some (3,1)]] (D.fr 3 1 (r.map dL))) [1,1,0,1,0] (rest.length+1) (zf aB (bC.map dL) (i1:Int)):=by
 intro rest
 induction rest with
 |nil=>
  intro i1 bC aj h;rw[nP]at h;refine aO fun N1 bz bg=>?_
  exact((aU.ge dL aj).a [.hl 0 [3] [0]]).ex hΓ bz (cX bC h)
 |cons bD bZ ih1=>
  intro i1 bC aj h;rw[nP]at h;refine aO fun N1 bz bg=>?_
  obtain⟨h29,h⟩:=bV h;obtain⟨x30,h31,h⟩:=aD h;exact(((((aU.lt dL aj).l (ax dL 1 (dc aj) rfl)).i (zh 1 h29)).w (show(bC.map dL)[i1]?=some [D.int .i64 x30]from dG dL h31)).a [.row [D.int .i64 x30],.cn [0,3,4] [0]]).cs hΓ bg (zf aB ((bC.map dL).set i1 [D.int .i64 bD]) (IntKind.i64.wrap ((i1:Int)+1))) (by first| (simp only[iS aj hm1,mA]<;>rfl)| (simp only[iS aj hm1,mA,aE.c,aS.c,aQ.c,Action.c,aN.c,aI.c,cu.c,aP.c,Node.c,aF.c,cw.c]<;>rfl)) (ih1 (i1+1) (bC.set i1 bD) (dn aj) h)
theorem LZ{aB:bI}{r:bI}(h:xf aB=some r):Good prog 50 [D.sl (aB.map dL)] (D.fr 3 1 (r.map dL)):=by
 refine gd func50 [[some (3,1)]] 22 fun hr Γ hΓ=>?_
 rw[xf]at h;obtain⟨h1,h⟩:=bV h;refine((aU.w (xq h1)).a [.cn [0,3,4] [0]]).XI hΓ (zf aB (List.replicate ((aB.map dL).length:Int).toNat [D.int .i64 0]) 0) (by first| (simp only[mA]<;>rfl)| (simp only[mA,aE.c,aS.c,aQ.c,Action.c,aN.c,aI.c,cu.c,aP.c,Node.c,aF.c,cw.c]<;>rfl)) (N8 hΓ (fun bQ h=>?_) (by have:=(dY.sl (hr _ (aC (i:=0) rfl))).1;simpa using this) aB 0 (List.replicate ((aB.map dL).length:Int).toNat (0:Int)) rfl h);have h:=aG h;subst h;exact aU.ret hΓ
def vQ(aB:aE):Option aE:=((qD aB.args).bind fun y1=>(some (⟨aB.rel,y1⟩:aE)))
theorem LY{aB:aE}{r:aE}(h:vQ aB=some r):Good prog 24 [D.agg (aE.c aB)] (D.agg [D.str r.rel,D.fr 9 1 (r.args.map tx)]):=by
 refine gd func24 [[none,some (9,1)]] 12 fun hr Γ hΓ=>?_
 rw[vQ]at h;obtain⟨y1,h2,h⟩:=aD h;cases h;exact(aU.g (zW h2)).ret hΓ
def oa(aB:aL)(k1:aL->Option aL):aL->Nat->aL->Option aL
 | [],i1,bC=>(k1 bC)
 |bD::bZ,i1,bC=>((vQ bD).bind fun vX=>(bif decide (i1<(bC.map aE.c).length)then(((bC)[i1]?).bind fun x44=>(oa aB k1 bZ (i1+1) (bC.set i1 vX)))else none))
def qR(aB:aL):Option aL:=(bif Ct ((aB.map aE.c).length:Int) 40 then(oa aB (fun(bQ:aL)=>(some bQ)) aB 0 (List.replicate ((aB.map aE.c).length:Int).toNat (⟨([]:Bytes),[]⟩:aE)))else none)
def yx(aB:aL)(W0:List aR)(cT:Int):St:=⟨[(0,D.sl (aB.map aE.c)),(3,D.acc 0),(4,D.int .i64 cT)],[Ob.row .uq 53 2 W0]⟩
theorem LX(hΓ:Γ.nt=23){aB:aL}{r:aL}{k1:aL->Option aL}(cX:∀(bQ:aL),k1 bQ=some r->Ax Γ N f15 (.q [[some (53,2)]] (D.fr 53 2 (r.map aE.c))) [1,1,1] ⟨[(3,D.acc 0)],[Ob.row .uq 53 2 (bQ.map aE.c)]⟩)(hm1:aB.length<=maxLen):∀(rest:aL) (i1:Nat) (bC:aL),aB.drop i1=rest->oa aB k1 rest i1 bC=some r->Ar Γ N f15 (.q [[some (53,2)]] (D.fr 53 2 (r.map aE.c))) [1,1,0,1,0] (rest.length+1) (yx aB (bC.map aE.c) (i1:Int)):=by
 intro rest
 induction rest with
 |nil=>
  intro i1 bC aj h;rw[oa]at h;refine aO fun N1 bz bg=>?_
  exact((aU.ge aE.c aj).a [.hl 0 [3] [0]]).ex hΓ bz (cX bC h)
 |cons bD bZ ih1=>
  intro i1 bC aj h;rw[oa]at h;refine aO fun N1 bz bg=>?_
  obtain⟨vX,h42,h⟩:=aD h;obtain⟨h43,h⟩:=bV h;obtain⟨x44,h45,h⟩:=aD h;exact((((((aU.lt aE.c aj).l (ax aE.c 2 (dc aj) rfl)).g (LY h42)).i (zh 2 h43)).w (show(bC.map aE.c)[i1]?=some [D.str x44.rel,D.sl (x44.args.map tx)]from dG aE.c h45)).a [.row [D.str x44.rel,D.sl (x44.args.map tx)],.cn [0,3,4] [0]]).cs hΓ bg (yx aB ((bC.map aE.c).set i1 [D.str vX.rel,D.sl (vX.args.map tx)]) (IntKind.i64.wrap ((i1:Int)+1))) (by first| (simp only[iS aj hm1,mA]<;>rfl)| (simp only[iS aj hm1,mA,aE.c,aS.c,aQ.c,Action.c,aN.c,aI.c,cu.c,aP.c,Node.c,aF.c,cw.c]<;>rfl)) (ih1 (i1+1) (bC.set i1 vX) (dn aj) h)
theorem xQ{aB:aL}{r:aL}(h:qR aB=some r):Good prog 15 [D.sl (aB.map aE.c)] (D.fr 53 2 (r.map aE.c)):=by
 refine gd func15 [[some (53,2)]] 23 fun hr Γ hΓ=>?_
 rw[qR]at h;obtain⟨h1,h⟩:=bV h;refine((aU.w (xq h1)).a [.cn [0,3,4] [0]]).XI hΓ (yx aB (List.replicate ((aB.map aE.c).length:Int).toNat [D.str ([]),D.sl ([])]) 0) (by first| (simp only[mA]<;>rfl)| (simp only[mA,aE.c,aS.c,aQ.c,Action.c,aN.c,aI.c,cu.c,aP.c,Node.c,aF.c,cw.c]<;>rfl)) (LX hΓ (fun bQ h=>?_) (by have:=(dY.sl (hr _ (aC (i:=0) rfl))).1;simpa using this) aB 0 (List.replicate ((aB.map aE.c).length:Int).toNat (⟨([]:Bytes),[]⟩:aE)) rfl h);have h:=aG h;subst h;exact aU.ret hΓ
def tV(aB:aP):Option aP:=((nQ aB.shape).bind fun y1=>((qR aB.facts).bind fun y3=>(some (⟨y1,y3⟩:aP))))
theorem JX{aB:aP}{r:aP}(h:tV aB=some r):Good prog 107 [D.agg (aP.c aB)] (D.agg [D.str r.shape.rel,D.fr 9 1 (r.shape.args.map tx),D.fr 53 2 (r.facts.map aE.c)]):=by
 refine gd func107 [[none,some (9,1),some (53,2)]] 13 fun hr Γ hΓ=>?_
 rw[tV]at h;obtain⟨y1,h2,h⟩:=aD h;obtain⟨y3,h4,h⟩:=aD h;cases h;exact((aU.g (vl h2)).g (xQ h4)).ret hΓ
def nO(aB:b7)(k1:b7->Option b7):b7->Nat->b7->Option b7
 | [],i1,bC=>(k1 bC)
 |bD::bZ,i1,bC=>((tV bD).bind fun vX=>(bif decide (i1<(bC.map aP.c).length)then(((bC)[i1]?).bind fun x44=>(nO aB k1 bZ (i1+1) (bC.set i1 vX)))else none))
def uf(aB:b7):Option b7:=(bif Ct ((aB.map aP.c).length:Int) 64 then(nO aB (fun(bQ:b7)=>(some bQ)) aB 0 (List.replicate ((aB.map aP.c).length:Int).toNat (⟨(⟨([]:Bytes),[]⟩:aE),[]⟩:aP)))else none)
def yK(aB:b7)(W0:List aR)(cT:Int):St:=⟨[(0,D.sl (aB.map aP.c)),(3,D.acc 0),(4,D.int .i64 cT)],[Ob.row .uq 111 3 W0]⟩
theorem JW(hΓ:Γ.nt=23){aB:b7}{r:b7}{k1:b7->Option b7}(cX:∀(bQ:b7),k1 bQ=some r->Ax Γ N f51 (.q [[some (111,3)]] (D.fr 111 3 (r.map aP.c))) [1,1,1] ⟨[(3,D.acc 0)],[Ob.row .uq 111 3 (bQ.map aP.c)]⟩)(hm1:aB.length<=maxLen):∀(rest:b7) (i1:Nat) (bC:b7),aB.drop i1=rest->nO aB k1 rest i1 bC=some r->Ar Γ N f51 (.q [[some (111,3)]] (D.fr 111 3 (r.map aP.c))) [1,1,0,1,0] (rest.length+1) (yK aB (bC.map aP.c) (i1:Int)):=by
 intro rest
 induction rest with
 |nil=>
  intro i1 bC aj h;rw[nO]at h;refine aO fun N1 bz bg=>?_
  exact((aU.ge aP.c aj).a [.hl 0 [3] [0]]).ex hΓ bz (cX bC h)
 |cons bD bZ ih1=>
  intro i1 bC aj h;rw[nO]at h;refine aO fun N1 bz bg=>?_
  obtain⟨vX,h42,h⟩:=aD h;obtain⟨h43,h⟩:=bV h;obtain⟨x44,h45,h⟩:=aD h;exact((((((aU.lt aP.c aj).l (ax aP.c 3 (dc aj) rfl)).g (JX h42)).i (zh 3 h43)).w (show(bC.map aP.c)[i1]?=some [D.str x44.shape.rel,D.sl (x44.shape.args.map tx),D.sl (x44.facts.map aE.c)]from dG aP.c h45)).a [.row [D.str x44.shape.rel,D.sl (x44.shape.args.map tx),D.sl (x44.facts.map aE.c)],.cn [0,3,4] [0]]).cs hΓ bg (yK aB ((bC.map aP.c).set i1 [D.str vX.shape.rel,D.sl (vX.shape.args.map tx),D.sl (vX.facts.map aE.c)]) (IntKind.i64.wrap ((i1:Int)+1))) (by first| (simp only[iS aj hm1,mA]<;>rfl)| (simp only[iS aj hm1,mA,aE.c,aS.c,aQ.c,Action.c,aN.c,aI.c,cu.c,aP.c,Node.c,aF.c,cw.c]<;>rfl)) (ih1 (i1+1) (bC.set i1 vX) (dn aj) h)
theorem HQ{aB:b7}{r:b7}(h:uf aB=some r):Good prog 51 [D.sl (aB.map aP.c)] (D.fr 111 3 (r.map aP.c)):=by
 refine gd func51 [[some (111,3)]] 23 fun hr Γ hΓ=>?_
 rw[uf]at h;obtain⟨h1,h⟩:=bV h;refine((aU.w (xq h1)).a [.cn [0,3,4] [0]]).XI hΓ (yK aB (List.replicate ((aB.map aP.c).length:Int).toNat [D.str ([]),D.sl ([]),D.sl ([])]) 0) (by first| (simp only[mA]<;>rfl)| (simp only[mA,aE.c,aS.c,aQ.c,Action.c,aN.c,aI.c,cu.c,aP.c,Node.c,aF.c,cw.c]<;>rfl)) (JW hΓ (fun bQ h=>?_) (by have:=(dY.sl (hr _ (aC (i:=0) rfl))).1;simpa using this) aB 0 (List.replicate ((aB.map aP.c).length:Int).toNat (⟨(⟨([]:Bytes),[]⟩:aE),[]⟩:aP)) rfl h);have h:=aG h;subst h;exact aU.ret hΓ
def vS(aB:aS):Option aS:=(some aB)
theorem Lf{aB:aS}{r:aS}(h:vS aB=some r):Good prog 284 [D.agg (aS.c aB)] (D.agg [D.str r.var,D.str r.value]):=by
 refine gd func284 [[none,none]] 11 fun hr Γ hΓ=>?_
 rw[vS]at h;have h:=aG h;subst h;exact aU.ret hΓ
def og(aB:aT)(k1:aT->Option aT):aT->Nat->aT->Option aT
 | [],i1,bC=>(k1 bC)
 |bD::bZ,i1,bC=>((vS bD).bind fun vX=>(bif decide (i1<(bC.map aS.c).length)then(((bC)[i1]?).bind fun x44=>(og aB k1 bZ (i1+1) (bC.set i1 vX)))else none))
def wZ(aB:aT):Option aT:=(bif Ct ((aB.map aS.c).length:Int) 32 then(og aB (fun(bQ:aT)=>(some bQ)) aB 0 (List.replicate ((aB.map aS.c).length:Int).toNat (⟨([]:Bytes),([]:Bytes)⟩:aS)))else none)
def yz(aB:aT)(W0:List aR)(cT:Int):St:=⟨[(0,D.sl (aB.map aS.c)),(3,D.acc 0),(4,D.int .i64 cT)],[Ob.row .uq 152 2 W0]⟩
theorem Le(hΓ:Γ.nt=23){aB:aT}{r:aT}{k1:aT->Option aT}(cX:∀(bQ:aT),k1 bQ=some r->Ax Γ N f273 (.q [[some (152,2)]] (D.fr 152 2 (r.map aS.c))) [1,1,1] ⟨[(3,D.acc 0)],[Ob.row .uq 152 2 (bQ.map aS.c)]⟩)(hm1:aB.length<=maxLen):∀(rest:aT) (i1:Nat) (bC:aT),aB.drop i1=rest->og aB k1 rest i1 bC=some r->Ar Γ N f273 (.q [[some (152,2)]] (D.fr 152 2 (r.map aS.c))) [1,1,0,1,0] (rest.length+1) (yz aB (bC.map aS.c) (i1:Int)):=by
 intro rest
 induction rest with
 |nil=>
  intro i1 bC aj h;rw[og]at h;refine aO fun N1 bz bg=>?_
  exact((aU.ge aS.c aj).a [.hl 0 [3] [0]]).ex hΓ bz (cX bC h)
 |cons bD bZ ih1=>
  intro i1 bC aj h;rw[og]at h;refine aO fun N1 bz bg=>?_
  obtain⟨vX,h42,h⟩:=aD h;obtain⟨h43,h⟩:=bV h;obtain⟨x44,h45,h⟩:=aD h;exact((((((aU.lt aS.c aj).l (ax aS.c 2 (dc aj) rfl)).g (Lf h42)).i (zh 2 h43)).w (show(bC.map aS.c)[i1]?=some [D.str x44.var,D.str x44.value]from dG aS.c h45)).a [.row [D.str x44.var,D.str x44.value],.cn [0,3,4] [0]]).cs hΓ bg (yz aB ((bC.map aS.c).set i1 [D.str vX.var,D.str vX.value]) (IntKind.i64.wrap ((i1:Int)+1))) (by first| (simp only[iS aj hm1,mA]<;>rfl)| (simp only[iS aj hm1,mA,aE.c,aS.c,aQ.c,Action.c,aN.c,aI.c,cu.c,aP.c,Node.c,aF.c,cw.c]<;>rfl)) (ih1 (i1+1) (bC.set i1 vX) (dn aj) h)
theorem Ja{aB:aT}{r:aT}(h:wZ aB=some r):Good prog 273 [D.sl (aB.map aS.c)] (D.fr 152 2 (r.map aS.c)):=by
 refine gd func273 [[some (152,2)]] 23 fun hr Γ hΓ=>?_
 rw[wZ]at h;obtain⟨h1,h⟩:=bV h;refine((aU.w (xq h1)).a [.cn [0,3,4] [0]]).XI hΓ (yz aB (List.replicate ((aB.map aS.c).length:Int).toNat [D.str ([]),D.str ([])]) 0) (by first| (simp only[mA]<;>rfl)| (simp only[mA,aE.c,aS.c,aQ.c,Action.c,aN.c,aI.c,cu.c,aP.c,Node.c,aF.c,cw.c]<;>rfl)) (Le hΓ (fun bQ h=>?_) (by have:=(dY.sl (hr _ (aC (i:=0) rfl))).1;simpa using this) aB 0 (List.replicate ((aB.map aS.c).length:Int).toNat (⟨([]:Bytes),([]:Bytes)⟩:aS)) rfl h);have h:=aG h;subst h;exact aU.ret hΓ
def tW(aB:aI):Option aI:=((qR aB.facts).bind fun y1=>((wZ aB.bind).bind fun y3=>(some (⟨y1,y3⟩:aI))))
theorem Jd{aB:aI}{r:aI}(h:tW aB=some r):Good prog 243 [D.agg (aI.c aB)] (D.agg [D.fr 53 2 (r.facts.map aE.c),D.fr 152 2 (r.bind.map aS.c)]):=by
 refine gd func243 [[some (53,2),some (152,2)]] 13 fun hr Γ hΓ=>?_
 rw[tW]at h;obtain⟨y1,h2,h⟩:=aD h;obtain⟨y3,h4,h⟩:=aD h;cases h;exact((aU.g (xQ h2)).g (Ja h4)).ret hΓ
def nR(aB:ah)(k1:ah->Option ah):ah->Nat->ah->Option ah
 | [],i1,bC=>(k1 bC)
 |bD::bZ,i1,bC=>((tW bD).bind fun vX=>(bif decide (i1<(bC.map aI.c).length)then(((bC)[i1]?).bind fun x44=>(nR aB k1 bZ (i1+1) (bC.set i1 vX)))else none))
def ug(aB:ah):Option ah:=(bif Ct ((aB.map aI.c).length:Int) 48 then(nR aB (fun(bQ:ah)=>(some bQ)) aB 0 (List.replicate ((aB.map aI.c).length:Int).toNat (⟨[],[]⟩:aI)))else none)
def yL(aB:ah)(W0:List aR)(cT:Int):St:=⟨[(0,D.sl (aB.map aI.c)),(3,D.acc 0),(4,D.int .i64 cT)],[Ob.row .uq 124 2 W0]⟩
theorem Jc(hΓ:Γ.nt=23){aB:ah}{r:ah}{k1:ah->Option ah}(cX:∀(bQ:ah),k1 bQ=some r->Ax Γ N f181 (.q [[some (124,2)]] (D.fr 124 2 (r.map aI.c))) [1,1,1] ⟨[(3,D.acc 0)],[Ob.row .uq 124 2 (bQ.map aI.c)]⟩)(hm1:aB.length<=maxLen):∀(rest:ah) (i1:Nat) (bC:ah),aB.drop i1=rest->nR aB k1 rest i1 bC=some r->Ar Γ N f181 (.q [[some (124,2)]] (D.fr 124 2 (r.map aI.c))) [1,1,0,1,0] (rest.length+1) (yL aB (bC.map aI.c) (i1:Int)):=by
 intro rest
 induction rest with
 |nil=>
  intro i1 bC aj h;rw[nR]at h;refine aO fun N1 bz bg=>?_
  exact((aU.ge aI.c aj).a [.hl 0 [3] [0]]).ex hΓ bz (cX bC h)
 |cons bD bZ ih1=>
  intro i1 bC aj h;rw[nR]at h;refine aO fun N1 bz bg=>?_
  obtain⟨vX,h42,h⟩:=aD h;obtain⟨h43,h⟩:=bV h;obtain⟨x44,h45,h⟩:=aD h;exact((((((aU.lt aI.c aj).l (ax aI.c 2 (dc aj) rfl)).g (Jd h42)).i (zh 2 h43)).w (show(bC.map aI.c)[i1]?=some [D.sl (x44.facts.map aE.c),D.sl (x44.bind.map aS.c)]from dG aI.c h45)).a [.row [D.sl (x44.facts.map aE.c),D.sl (x44.bind.map aS.c)],.cn [0,3,4] [0]]).cs hΓ bg (yL aB ((bC.map aI.c).set i1 [D.sl (vX.facts.map aE.c),D.sl (vX.bind.map aS.c)]) (IntKind.i64.wrap ((i1:Int)+1))) (by first| (simp only[iS aj hm1,mA]<;>rfl)| (simp only[iS aj hm1,mA,aE.c,aS.c,aQ.c,Action.c,aN.c,aI.c,cu.c,aP.c,Node.c,aF.c,cw.c]<;>rfl)) (ih1 (i1+1) (bC.set i1 vX) (dn aj) h)
theorem HS{aB:ah}{r:ah}(h:ug aB=some r):Good prog 181 [D.sl (aB.map aI.c)] (D.fr 124 2 (r.map aI.c)):=by
 refine gd func181 [[some (124,2)]] 23 fun hr Γ hΓ=>?_
 rw[ug]at h;obtain⟨h1,h⟩:=bV h;refine((aU.w (xq h1)).a [.cn [0,3,4] [0]]).XI hΓ (yL aB (List.replicate ((aB.map aI.c).length:Int).toNat [D.sl ([]),D.sl ([])]) 0) (by first| (simp only[mA]<;>rfl)| (simp only[mA,aE.c,aS.c,aQ.c,Action.c,aN.c,aI.c,cu.c,aP.c,Node.c,aF.c,cw.c]<;>rfl)) (Jc hΓ (fun bQ h=>?_) (by have:=(dY.sl (hr _ (aC (i:=0) rfl))).1;simpa using this) aB 0 (List.replicate ((aB.map aI.c).length:Int).toNat (⟨[],[]⟩:aI)) rfl h);have h:=aG h;subst h;exact aU.ret hΓ
def vR(aB:Node):Option Node:=((sA aB.cond).bind fun y1=>((ug aB.tokens).bind fun y3=>(some (⟨aB.parent,y1,aB.cP,y3⟩:Node))))
theorem Lc{aB:Node}{r:Node}(h:vR aB=some r):Good prog 108 [D.agg (Node.c aB)] (D.agg [D.int .i64 r.parent,D.int .i64 r.cond.kind,D.str r.cond.pat.rel,D.fr 9 1 (r.cond.pat.args.map tx),D.str r.cond.left,D.str r.cond.right,D.int .i64 r.cP,D.fr 124 2 (r.tokens.map aI.c)]):=by
 refine gd func108 [[none,none,none,some (9,1),none,none,none,some (124,2)]] 19 fun hr Γ hΓ=>?_
 rw[vR]at h;obtain⟨y1,h2,h⟩:=aD h;obtain⟨y3,h4,h⟩:=aD h;cases h;exact((aU.g (C3 h2)).g (HS h4)).ret hΓ
def oc(aB:ay)(k1:ay->Option ay):ay->Nat->ay->Option ay
 | [],i1,bC=>(k1 bC)
 |bD::bZ,i1,bC=>((vR bD).bind fun vX=>(bif decide (i1<(bC.map Node.c).length)then(((bC)[i1]?).bind fun x44=>(oc aB k1 bZ (i1+1) (bC.set i1 vX)))else none))
def wY(aB:ay):Option ay:=(bif Ct ((aB.map Node.c).length:Int) 120 then(oc aB (fun(bQ:ay)=>(some bQ)) aB 0 (List.replicate ((aB.map Node.c).length:Int).toNat (⟨(0:Int),(⟨(0:Int),(⟨([]:Bytes),[]⟩:aE),([]:Bytes),([]:Bytes)⟩:aQ),(0:Int),[]⟩:Node)))else none)
def yy(aB:ay)(W0:List aR)(cT:Int):St:=⟨[(0,D.sl (aB.map Node.c)),(3,D.acc 0),(4,D.int .i64 cT)],[Ob.row .uq 118 8 W0]⟩
theorem La(hΓ:Γ.nt=23){aB:ay}{r:ay}{k1:ay->Option ay}(cX:∀(bQ:ay),k1 bQ=some r->Ax Γ N f52 (.q [[some (118,8)]] (D.fr 118 8 (r.map Node.c))) [1,1,1] ⟨[(3,D.acc 0)],[Ob.row .uq 118 8 (bQ.map Node.c)]⟩)(hm1:aB.length<=maxLen):∀(rest:ay) (i1:Nat) (bC:ay),aB.drop i1=rest->oc aB k1 rest i1 bC=some r->Ar Γ N f52 (.q [[some (118,8)]] (D.fr 118 8 (r.map Node.c))) [1,1,0,1,0] (rest.length+1) (yy aB (bC.map Node.c) (i1:Int)):=by
 intro rest
 induction rest with
 |nil=>
  intro i1 bC aj h;rw[oc]at h;refine aO fun N1 bz bg=>?_
  exact((aU.ge Node.c aj).a [.hl 0 [3] [0]]).ex hΓ bz (cX bC h)
 |cons bD bZ ih1=>
  intro i1 bC aj h;rw[oc]at h;refine aO fun N1 bz bg=>?_
  obtain⟨vX,h42,h⟩:=aD h;obtain⟨h43,h⟩:=bV h;obtain⟨x44,h45,h⟩:=aD h;exact((((((aU.lt Node.c aj).l (ax Node.c 8 (dc aj) rfl)).g (Lc h42)).i (zh 8 h43)).w (show(bC.map Node.c)[i1]?=some [D.int .i64 x44.parent,D.int .i64 x44.cond.kind,D.str x44.cond.pat.rel,D.sl (x44.cond.pat.args.map tx),D.str x44.cond.left,D.str x44.cond.right,D.int .i64 x44.cP,D.sl (x44.tokens.map aI.c)]from dG Node.c h45)).a [.row [D.int .i64 x44.parent,D.int .i64 x44.cond.kind,D.str x44.cond.pat.rel,D.sl (x44.cond.pat.args.map tx),D.str x44.cond.left,D.str x44.cond.right,D.int .i64 x44.cP,D.sl (x44.tokens.map aI.c)],.cn [0,3,4] [0]]).cs hΓ bg (yy aB ((bC.map Node.c).set i1 [D.int .i64 vX.parent,D.int .i64 vX.cond.kind,D.str vX.cond.pat.rel,D.sl (vX.cond.pat.args.map tx),D.str vX.cond.left,D.str vX.cond.right,D.int .i64 vX.cP,D.sl (vX.tokens.map aI.c)]) (IntKind.i64.wrap ((i1:Int)+1))) (by first| (simp only[iS aj hm1,mA]<;>rfl)| (simp only[iS aj hm1,mA,aE.c,aS.c,aQ.c,Action.c,aN.c,aI.c,cu.c,aP.c,Node.c,aF.c,cw.c]<;>rfl)) (ih1 (i1+1) (bC.set i1 vX) (dn aj) h)
theorem JZ{aB:ay}{r:ay}(h:wY aB=some r):Good prog 52 [D.sl (aB.map Node.c)] (D.fr 118 8 (r.map Node.c)):=by
 refine gd func52 [[some (118,8)]] 23 fun hr Γ hΓ=>?_
 rw[wY]at h;obtain⟨h1,h⟩:=bV h;refine((aU.w (xq h1)).a [.cn [0,3,4] [0]]).XI hΓ (yy aB (List.replicate ((aB.map Node.c).length:Int).toNat [D.int .i64 0,D.int .i64 0,D.str ([]),D.sl ([]),D.str ([]),D.str ([]),D.int .i64 0,D.sl ([])]) 0) (by first| (simp only[mA]<;>rfl)| (simp only[mA,aE.c,aS.c,aQ.c,Action.c,aN.c,aI.c,cu.c,aP.c,Node.c,aF.c,cw.c]<;>rfl)) (La hΓ (fun bQ h=>?_) (by have:=(dY.sl (hr _ (aC (i:=0) rfl))).1;simpa using this) aB 0 (List.replicate ((aB.map Node.c).length:Int).toNat (⟨(0:Int),(⟨(0:Int),(⟨([]:Bytes),[]⟩:aE),([]:Bytes),([]:Bytes)⟩:aQ),(0:Int),[]⟩:Node)) rfl h);have h:=aG h;subst h;exact aU.ret hΓ
def lD(aB:aF):Option aF:=((we aB.rules).bind fun y1=>((xf aB.ends).bind fun y3=>((uf aB.av).bind fun y5=>((wY aB.nodes).bind fun y7=>((qR aB.facts).bind fun y9=>(some (⟨y1,y3,y5,y7,y9,aB.bw⟩:aF)))))))
theorem qn{aB:aF}{r:aF}(h:lD aB=some r):Good prog 14 [D.agg (aF.c aB)] (D.agg [D.fr 105 4 (r.rules.map aN.c),D.fr 3 1 (r.ends.map dL),D.fr 111 3 (r.av.map aP.c),D.fr 118 8 (r.nodes.map Node.c),D.fr 53 2 (r.facts.map aE.c),D.int .i64 r.bw]):=by
 refine gd func14 [[some (105,4),some (3,1),some (111,3),some (118,8),some (53,2),none]] 28 fun hr Γ hΓ=>?_
 rw[lD]at h;obtain⟨y1,h2,h⟩:=aD h;obtain⟨y3,h4,h⟩:=aD h;obtain⟨y5,h6,h⟩:=aD h;obtain⟨y7,h8,h⟩:=aD h;obtain⟨y9,h10,h⟩:=aD h;cases h;exact(((((aU.g (Jb h2)).g (LZ h4)).g (HQ h6)).g (JZ h8)).g (xQ h10)).ret hΓ
variable{Γ:w5}{N:Nat->St->Prop}
def mU(aB:aJ)(aW:aJ)(k1:Option Bool):aJ->Nat->Option Bool
 | [],i1=>(k1)
 |bD::bZ,i1=>((mK aW (i1:Int)).bind fun x22=>(bif !((bD:Bytes)==x22)then(some false)else(mU aB aW k1 bZ (i1+1))))
def qB(aB:aJ)(aW:aJ):Option Bool:=(bif (((aB.map tx).length:Int):Int) != ((aW.map tx).length:Int)then(some false)else(mU aB aW (some true) aB 0))
def JC(aB:aJ)(aW:aJ)(cT:Int):St:=⟨[(0,D.sl (aB.map tx)),(1,D.sl (aW.map tx)),(5,D.int .i64 cT)],[]⟩
theorem Gx(hΓ:Γ.nt=26){aB:aJ}{aW:aJ}{r:Bool}{k1:Option Bool}(cX:k1=some r->Ax Γ N f74 (.q [[none]] (D.bool r)) [1,1,1] ⟨[],[]⟩)(hm1:aB.length<=maxLen):∀(rest:aJ) (i1:Nat),aB.drop i1=rest->mU aB aW k1 rest i1=some r->Ar Γ N f74 (.q [[none]] (D.bool r)) [1,1,0,1,0] (rest.length+1) (JC aB aW (i1:Int)):=by
 intro rest
 induction rest with
 |nil=>
  intro i1 aj h;rw[mU]at h;refine aO fun N1 bz bg=>?_
  exact((aU.ge tx aj).a [.hl 0 [] []]).ex hΓ bz (cX h)
 |cons bD bZ ih1=>
  intro i1 aj h;rw[mU]at h;refine aO fun N1 bz bg=>?_
  obtain⟨x22,h23,h⟩:=aD h;have dJ:=((((aU.lt tx aj).a [.n 8]).l (ax tx 1 (dc aj) rfl)).l (dl tx 1 h23 rfl))
  obtain⟨h24,h⟩|⟨h24,h⟩:=aM h
  ·have h:=aG h;subst h;exact(dJ.b h24).ret hΓ
  ·exact((dJ.b h24).a [.cn [0,1,5] []]).ct hΓ bg (iS aj hm1) (ih1 (i1+1) (dn aj) h)
theorem zS{aB:aJ}{aW:aJ}{r:Bool}(h:qB aB aW=some r):Good prog 74 [D.sl (aB.map tx),D.sl (aW.map tx)] (D.bool r):=by
 refine gd func74 [[none]] 26 fun hr Γ hΓ=>?_
 rw[qB]at h;obtain⟨h1,h⟩|⟨h1,h⟩:=aM h
 ·have h:=aG h;subst h;exact(aU.b h1).ret hΓ
 ·refine((aU.b h1).a [.cn [0,1,5] []]).lp hΓ (Gx hΓ (fun h=>?_) (by have:=(dY.sl (hr _ (aC (i:=0) rfl))).1;simpa using this) aB 0 rfl h);have h:=aG h;subst h;exact aU.ret hΓ
def nH(aB:aE)(aW:aE):Option Bool:=(bif !((aB.rel:Bytes)==aW.rel)then(some false)else((qB aB.args aW.args).bind fun y2=>(bif !(y2)then(some false)else(some true))))
theorem qm{aB:aE}{aW:aE}{r:Bool}(h:nH aB aW=some r):Good prog 186 [D.agg (aE.c aB),D.agg (aE.c aW)] (D.bool r):=by
 refine gd func186 [[none]] 16 fun hr Γ hΓ=>?_
 rw[nH]at h;obtain⟨h1,h⟩|⟨h1,h⟩:=aM h
 ·have h:=aG h;subst h;exact(aU.b h1).ret hΓ
 ·obtain⟨y2,h3,h⟩:=aD h;have kF:=((aU.b h1).g (zS h3))
  obtain⟨h4,h⟩|⟨h4,h⟩:=aM h
  ·have h:=aG h;subst h;exact(kF.b h4).ret hΓ
  ·have h:=aG h;subst h;exact(kF.b h4).ret hΓ
def s8(aB:aQ)(aW:aQ):Option Bool:=(bif (aB.kind:Int) != aW.kind then(some false)else((nH aB.pat aW.pat).bind fun y2=>(bif !(y2)then(some false)else(bif !((aB.left:Bytes)==aW.left)then(some false)else(bif !((aB.right:Bytes)==aW.right)then(some false)else(some true))))))
theorem C2{aB:aQ}{aW:aQ}{r:Bool}(h:s8 aB aW=some r):Good prog 187 [D.agg (aQ.c aB),D.agg (aQ.c aW)] (D.bool r):=by
 refine gd func187 [[none]] 26 fun hr Γ hΓ=>?_
 rw[s8]at h;obtain⟨h1,h⟩|⟨h1,h⟩:=aM h
 ·have h:=aG h;subst h;exact(aU.b h1).ret hΓ
 ·obtain⟨y2,h3,h⟩:=aD h;have kF:=((aU.b h1).g (qm h3))
  obtain⟨h4,h⟩|⟨h4,h⟩:=aM h
  ·have h:=aG h;subst h;exact(kF.b h4).ret hΓ
  ·obtain⟨h5,h⟩|⟨h5,h⟩:=aM h
   ·have h:=aG h;subst h;exact((kF.b h4).b h5).ret hΓ
   ·have dJ:=((kF.b h4).b h5)
    obtain⟨h6,h⟩|⟨h6,h⟩:=aM h
    ·have h:=aG h;subst h;exact(dJ.b h6).ret hΓ
    ·have h:=aG h;subst h;exact(dJ.b h6).ret hΓ
def oP(aB:aq)(aW:aq)(k1:Option Bool):aq->Nat->Option Bool
 | [],i1=>(k1)
 |bD::bZ,i1=>((mK aW (i1:Int)).bind fun x30=>((s8 bD x30).bind fun BF=>(bif !(BF)then(some false)else(oP aB aW k1 bZ (i1+1)))))
def wP(aB:aq)(aW:aq):Option Bool:=(bif (((aB.map aQ.c).length:Int):Int) != ((aW.map aQ.c).length:Int)then(some false)else(oP aB aW (some true) aB 0))
def Mr(aB:aq)(aW:aq)(cT:Int):St:=⟨[(0,D.sl (aB.map aQ.c)),(1,D.sl (aW.map aQ.c)),(5,D.int .i64 cT)],[]⟩
theorem L5(hΓ:Γ.nt=27){aB:aq}{aW:aq}{r:Bool}{k1:Option Bool}(cX:k1=some r->Ax Γ N f146 (.q [[none]] (D.bool r)) [1,1,1] ⟨[],[]⟩)(hm1:aB.length<=maxLen):∀(rest:aq) (i1:Nat),aB.drop i1=rest->oP aB aW k1 rest i1=some r->Ar Γ N f146 (.q [[none]] (D.bool r)) [1,1,0,1,0] (rest.length+1) (Mr aB aW (i1:Int)):=by
 intro rest
 induction rest with
 |nil=>
  intro i1 aj h;rw[oP]at h;refine aO fun N1 bz bg=>?_
  exact((aU.ge aQ.c aj).a [.hl 0 [] []]).ex hΓ bz (cX h)
 |cons bD bZ ih1=>
  intro i1 aj h;rw[oP]at h;refine aO fun N1 bz bg=>?_
  obtain⟨x30,h31,h⟩:=aD h;obtain⟨BF,h33,h⟩:=aD h;have dJ:=(((((aU.lt aQ.c aj).a [.n 8]).l (ax aQ.c 5 (dc aj) rfl)).l (dl aQ.c 5 h31 rfl)).g (C2 h33))
  obtain⟨h34,h⟩|⟨h34,h⟩:=aM h
  ·have h:=aG h;subst h;exact(dJ.b h34).ret hΓ
  ·exact((dJ.b h34).a [.cn [0,1,5] []]).ct hΓ bg (iS aj hm1) (ih1 (i1+1) (dn aj) h)
theorem J9{aB:aq}{aW:aq}{r:Bool}(h:wP aB aW=some r):Good prog 146 [D.sl (aB.map aQ.c),D.sl (aW.map aQ.c)] (D.bool r):=by
 refine gd func146 [[none]] 27 fun hr Γ hΓ=>?_
 rw[wP]at h;obtain⟨h1,h⟩|⟨h1,h⟩:=aM h
 ·have h:=aG h;subst h;exact(aU.b h1).ret hΓ
 ·refine((aU.b h1).a [.cn [0,1,5] []]).lp hΓ (L5 hΓ (fun h=>?_) (by have:=(dY.sl (hr _ (aC (i:=0) rfl))).1;simpa using this) aB 0 rfl h);have h:=aG h;subst h;exact aU.ret hΓ
def rA(aB:Action)(aW:Action):Option Bool:=(bif (aB.kind:Int) != aW.kind then(some false)else((nH aB.pat aW.pat).bind fun y2=>(bif !(y2)then(some false)else(some true))))
theorem Gv{aB:Action}{aW:Action}{r:Bool}(h:rA aB aW=some r):Good prog 223 [D.agg (Action.c aB),D.agg (Action.c aW)] (D.bool r):=by
 refine gd func223 [[none]] 16 fun hr Γ hΓ=>?_
 rw[rA]at h;obtain⟨h1,h⟩|⟨h1,h⟩:=aM h
 ·have h:=aG h;subst h;exact(aU.b h1).ret hΓ
 ·obtain⟨y2,h3,h⟩:=aD h;have kF:=((aU.b h1).g (qm h3))
  obtain⟨h4,h⟩|⟨h4,h⟩:=aM h
  ·have h:=aG h;subst h;exact(kF.b h4).ret hΓ
  ·have h:=aG h;subst h;exact(kF.b h4).ret hΓ
def mT(aB:c8)(aW:c8)(k1:Option Bool):c8->Nat->Option Bool
 | [],i1=>(k1)
 |bD::bZ,i1=>((mK aW (i1:Int)).bind fun x30=>((rA bD x30).bind fun BF=>(bif !(BF)then(some false)else(mT aB aW k1 bZ (i1+1)))))
def tF(aB:c8)(aW:c8):Option Bool:=(bif (((aB.map Action.c).length:Int):Int) != ((aW.map Action.c).length:Int)then(some false)else(mT aB aW (some true) aB 0))
def J6(aB:c8)(aW:c8)(cT:Int):St:=⟨[(0,D.sl (aB.map Action.c)),(1,D.sl (aW.map Action.c)),(5,D.int .i64 cT)],[]⟩
theorem Gu(hΓ:Γ.nt=27){aB:c8}{aW:c8}{r:Bool}{k1:Option Bool}(cX:k1=some r->Ax Γ N f147 (.q [[none]] (D.bool r)) [1,1,1] ⟨[],[]⟩)(hm1:aB.length<=maxLen):∀(rest:c8) (i1:Nat),aB.drop i1=rest->mT aB aW k1 rest i1=some r->Ar Γ N f147 (.q [[none]] (D.bool r)) [1,1,0,1,0] (rest.length+1) (J6 aB aW (i1:Int)):=by
 intro rest
 induction rest with
 |nil=>
  intro i1 aj h;rw[mT]at h;refine aO fun N1 bz bg=>?_
  exact((aU.ge Action.c aj).a [.hl 0 [] []]).ex hΓ bz (cX h)
 |cons bD bZ ih1=>
  intro i1 aj h;rw[mT]at h;refine aO fun N1 bz bg=>?_
  obtain⟨x30,h31,h⟩:=aD h;obtain⟨BF,h33,h⟩:=aD h;have dJ:=(((((aU.lt Action.c aj).a [.n 8]).l (ax Action.c 3 (dc aj) rfl)).l (dl Action.c 3 h31 rfl)).g (Gv h33))
  obtain⟨h34,h⟩|⟨h34,h⟩:=aM h
  ·have h:=aG h;subst h;exact(dJ.b h34).ret hΓ
  ·exact((dJ.b h34).a [.cn [0,1,5] []]).ct hΓ bg (iS aj hm1) (ih1 (i1+1) (dn aj) h)
theorem Fh{aB:c8}{aW:c8}{r:Bool}(h:tF aB aW=some r):Good prog 147 [D.sl (aB.map Action.c),D.sl (aW.map Action.c)] (D.bool r):=by
 refine gd func147 [[none]] 27 fun hr Γ hΓ=>?_
 rw[tF]at h;obtain⟨h1,h⟩|⟨h1,h⟩:=aM h
 ·have h:=aG h;subst h;exact(aU.b h1).ret hΓ
 ·refine((aU.b h1).a [.cn [0,1,5] []]).lp hΓ (Gu hΓ (fun h=>?_) (by have:=(dY.sl (hr _ (aC (i:=0) rfl))).1;simpa using this) aB 0 rfl h);have h:=aG h;subst h;exact aU.ret hΓ
def vL(aB:aN)(aW:aN):Option Bool:=(bif !((aB.name:Bytes)==aW.name)then(some false)else(bif (aB.prio:Int) != aW.prio then(some false)else((wP aB.conds aW.conds).bind fun y3=>(bif !(y3)then(some false)else((tF aB.cv aW.cv).bind fun y6=>(bif !(y6)then(some false)else(some true)))))))
theorem LF{aB:aN}{aW:aN}{r:Bool}(h:vL aB aW=some r):Good prog 84 [D.agg (aN.c aB),D.agg (aN.c aW)] (D.bool r):=by
 refine gd func84 [[none]] 27 fun hr Γ hΓ=>?_
 rw[vL]at h;obtain⟨h1,h⟩|⟨h1,h⟩:=aM h
 ·have h:=aG h;subst h;exact(aU.b h1).ret hΓ
 ·obtain⟨h2,h⟩|⟨h2,h⟩:=aM h
  ·have h:=aG h;subst h;exact((aU.b h1).b h2).ret hΓ
  ·obtain⟨y3,h4,h⟩:=aD h;have kF:=(((aU.b h1).b h2).g (J9 h4))
   obtain⟨h5,h⟩|⟨h5,h⟩:=aM h
   ·have h:=aG h;subst h;exact(kF.b h5).ret hΓ
   ·obtain⟨y6,h7,h⟩:=aD h;have dJ:=((kF.b h5).g (Fh h7))
    obtain⟨h8,h⟩|⟨h8,h⟩:=aM h
    ·have h:=aG h;subst h;exact(dJ.b h8).ret hΓ
    ·have h:=aG h;subst h;exact(dJ.b h8).ret hΓ
def oT(aB:ar)(aW:ar)(k1:Option Bool):ar->Nat->Option Bool
 | [],i1=>(k1)
 |bD::bZ,i1=>((mK aW (i1:Int)).bind fun x30=>((vL bD x30).bind fun BF=>(bif !(BF)then(some false)else(oT aB aW k1 bZ (i1+1)))))
def wS(aB:ar)(aW:ar):Option Bool:=(bif (((aB.map aN.c).length:Int):Int) != ((aW.map aN.c).length:Int)then(some false)else(oT aB aW (some true) aB 0))
def Mw(aB:ar)(aW:ar)(cT:Int):St:=⟨[(0,D.sl (aB.map aN.c)),(1,D.sl (aW.map aN.c)),(5,D.int .i64 cT)],[]⟩
theorem LD(hΓ:Γ.nt=27){aB:ar}{aW:ar}{r:Bool}{k1:Option Bool}(cX:k1=some r->Ax Γ N f37 (.q [[none]] (D.bool r)) [1,1,1] ⟨[],[]⟩)(hm1:aB.length<=maxLen):∀(rest:ar) (i1:Nat),aB.drop i1=rest->oT aB aW k1 rest i1=some r->Ar Γ N f37 (.q [[none]] (D.bool r)) [1,1,0,1,0] (rest.length+1) (Mw aB aW (i1:Int)):=by
 intro rest
 induction rest with
 |nil=>
  intro i1 aj h;rw[oT]at h;refine aO fun N1 bz bg=>?_
  exact((aU.ge aN.c aj).a [.hl 0 [] []]).ex hΓ bz (cX h)
 |cons bD bZ ih1=>
  intro i1 aj h;rw[oT]at h;refine aO fun N1 bz bg=>?_
  obtain⟨x30,h31,h⟩:=aD h;obtain⟨BF,h33,h⟩:=aD h;have dJ:=(((((aU.lt aN.c aj).a [.n 8]).l (ax aN.c 4 (dc aj) rfl)).l (dl aN.c 4 h31 rfl)).g (LF h33))
  obtain⟨h34,h⟩|⟨h34,h⟩:=aM h
  ·have h:=aG h;subst h;exact(dJ.b h34).ret hΓ
  ·exact((dJ.b h34).a [.cn [0,1,5] []]).ct hΓ bg (iS aj hm1) (ih1 (i1+1) (dn aj) h)
theorem B8{aB:ar}{aW:ar}{r:Bool}(h:wS aB aW=some r):Good prog 37 [D.sl (aB.map aN.c),D.sl (aW.map aN.c)] (D.bool r):=by
 refine gd func37 [[none]] 27 fun hr Γ hΓ=>?_
 rw[wS]at h;obtain⟨h1,h⟩|⟨h1,h⟩:=aM h
 ·have h:=aG h;subst h;exact(aU.b h1).ret hΓ
 ·refine((aU.b h1).a [.cn [0,1,5] []]).lp hΓ (LD hΓ (fun h=>?_) (by have:=(dY.sl (hr _ (aC (i:=0) rfl))).1;simpa using this) aB 0 rfl h);have h:=aG h;subst h;exact aU.ret hΓ
def qA(aB:bI)(aW:bI)(k1:Option Bool):bI->Nat->Option Bool
 | [],i1=>(k1)
 |bD::bZ,i1=>((mK aW (i1:Int)).bind fun x22=>(bif (bD:Int) != x22 then(some false)else(qA aB aW k1 bZ (i1+1))))
def xd(aB:bI)(aW:bI):Option Bool:=(bif (((aB.map dL).length:Int):Int) != ((aW.map dL).length:Int)then(some false)else(qA aB aW (some true) aB 0))
def OR(aB:bI)(aW:bI)(cT:Int):St:=⟨[(0,D.sl (aB.map dL)),(1,D.sl (aW.map dL)),(5,D.int .i64 cT)],[]⟩
theorem Mt(hΓ:Γ.nt=26){aB:bI}{aW:bI}{r:Bool}{k1:Option Bool}(cX:k1=some r->Ax Γ N f54 (.q [[none]] (D.bool r)) [1,1,1] ⟨[],[]⟩)(hm1:aB.length<=maxLen):∀(rest:bI) (i1:Nat),aB.drop i1=rest->qA aB aW k1 rest i1=some r->Ar Γ N f54 (.q [[none]] (D.bool r)) [1,1,0,1,0] (rest.length+1) (OR aB aW (i1:Int)):=by
 intro rest
 induction rest with
 |nil=>
  intro i1 aj h;rw[qA]at h;refine aO fun N1 bz bg=>?_
  exact((aU.ge dL aj).a [.hl 0 [] []]).ex hΓ bz (cX h)
 |cons bD bZ ih1=>
  intro i1 aj h;rw[qA]at h;refine aO fun N1 bz bg=>?_
  obtain⟨x22,h23,h⟩:=aD h;have dJ:=((((aU.lt dL aj).a [.n 8]).l (ax dL 1 (dc aj) rfl)).l (dl dL 1 h23 rfl))
  obtain⟨h24,h⟩|⟨h24,h⟩:=aM h
  ·have h:=aG h;subst h;exact(dJ.b h24).ret hΓ
  ·exact((dJ.b h24).a [.cn [0,1,5] []]).ct hΓ bg (iS aj hm1) (ih1 (i1+1) (dn aj) h)
theorem L8{aB:bI}{aW:bI}{r:Bool}(h:xd aB aW=some r):Good prog 54 [D.sl (aB.map dL),D.sl (aW.map dL)] (D.bool r):=by
 refine gd func54 [[none]] 26 fun hr Γ hΓ=>?_
 rw[xd]at h;obtain⟨h1,h⟩|⟨h1,h⟩:=aM h
 ·have h:=aG h;subst h;exact(aU.b h1).ret hΓ
 ·refine((aU.b h1).a [.cn [0,1,5] []]).lp hΓ (Mt hΓ (fun h=>?_) (by have:=(dY.sl (hr _ (aC (i:=0) rfl))).1;simpa using this) aB 0 rfl h);have h:=aG h;subst h;exact aU.ret hΓ
def vI(aB:aE)(aW:aE):Option Bool:=(bif !((aB.rel:Bytes)==aW.rel)then(some false)else((qB aB.args aW.args).bind fun y2=>(bif !(y2)then(some false)else(some true))))
theorem L7{aB:aE}{aW:aE}{r:Bool}(h:vI aB aW=some r):Good prog 27 [D.agg (aE.c aB),D.agg (aE.c aW)] (D.bool r):=by
 refine gd func27 [[none]] 16 fun hr Γ hΓ=>?_
 rw[vI]at h;obtain⟨h1,h⟩|⟨h1,h⟩:=aM h
 ·have h:=aG h;subst h;exact(aU.b h1).ret hΓ
 ·obtain⟨y2,h3,h⟩:=aD h;have kF:=((aU.b h1).g (zS h3))
  obtain⟨h4,h⟩|⟨h4,h⟩:=aM h
  ·have h:=aG h;subst h;exact(kF.b h4).ret hΓ
  ·have h:=aG h;subst h;exact(kF.b h4).ret hΓ
def oQ(aB:aL)(aW:aL)(k1:Option Bool):aL->Nat->Option Bool
 | [],i1=>(k1)
 |bD::bZ,i1=>((mK aW (i1:Int)).bind fun x30=>((vI bD x30).bind fun BF=>(bif !(BF)then(some false)else(oQ aB aW k1 bZ (i1+1)))))
def qN(aB:aL)(aW:aL):Option Bool:=(bif (((aB.map aE.c).length:Int):Int) != ((aW.map aE.c).length:Int)then(some false)else(oQ aB aW (some true) aB 0))
def Ms(aB:aL)(aW:aL)(cT:Int):St:=⟨[(0,D.sl (aB.map aE.c)),(1,D.sl (aW.map aE.c)),(5,D.int .i64 cT)],[]⟩
theorem L6(hΓ:Γ.nt=27){aB:aL}{aW:aL}{r:Bool}{k1:Option Bool}(cX:k1=some r->Ax Γ N f18 (.q [[none]] (D.bool r)) [1,1,1] ⟨[],[]⟩)(hm1:aB.length<=maxLen):∀(rest:aL) (i1:Nat),aB.drop i1=rest->oQ aB aW k1 rest i1=some r->Ar Γ N f18 (.q [[none]] (D.bool r)) [1,1,0,1,0] (rest.length+1) (Ms aB aW (i1:Int)):=by
 intro rest
 induction rest with
 |nil=>
  intro i1 aj h;rw[oQ]at h;refine aO fun N1 bz bg=>?_
  exact((aU.ge aE.c aj).a [.hl 0 [] []]).ex hΓ bz (cX h)
 |cons bD bZ ih1=>
  intro i1 aj h;rw[oQ]at h;refine aO fun N1 bz bg=>?_
  obtain⟨x30,h31,h⟩:=aD h;obtain⟨BF,h33,h⟩:=aD h;have dJ:=(((((aU.lt aE.c aj).a [.n 8]).l (ax aE.c 2 (dc aj) rfl)).l (dl aE.c 2 h31 rfl)).g (L7 h33))
  obtain⟨h34,h⟩|⟨h34,h⟩:=aM h
  ·have h:=aG h;subst h;exact(dJ.b h34).ret hΓ
  ·exact((dJ.b h34).a [.cn [0,1,5] []]).ct hΓ bg (iS aj hm1) (ih1 (i1+1) (dn aj) h)
theorem sR{aB:aL}{aW:aL}{r:Bool}(h:qN aB aW=some r):Good prog 18 [D.sl (aB.map aE.c),D.sl (aW.map aE.c)] (D.bool r):=by
 refine gd func18 [[none]] 27 fun hr Γ hΓ=>?_
 rw[qN]at h;obtain⟨h1,h⟩|⟨h1,h⟩:=aM h
 ·have h:=aG h;subst h;exact(aU.b h1).ret hΓ
 ·refine((aU.b h1).a [.cn [0,1,5] []]).lp hΓ (L6 hΓ (fun h=>?_) (by have:=(dY.sl (hr _ (aC (i:=0) rfl))).1;simpa using this) aB 0 rfl h);have h:=aG h;subst h;exact aU.ret hΓ
def tG(aB:aP)(aW:aP):Option Bool:=((nH aB.shape aW.shape).bind fun y1=>(bif !(y1)then(some false)else((qN aB.facts aW.facts).bind fun y4=>(bif !(y4)then(some false)else(some true)))))
theorem J8{aB:aP}{aW:aP}{r:Bool}(h:tG aB aW=some r):Good prog 115 [D.agg (aP.c aB),D.agg (aP.c aW)] (D.bool r):=by
 refine gd func115 [[none]] 17 fun hr Γ hΓ=>?_
 rw[tG]at h;obtain⟨y1,h2,h⟩:=aD h;obtain⟨h3,h⟩|⟨h3,h⟩:=aM h
 ·have h:=aG h;subst h;exact((aU.g (qm h2)).b h3).ret hΓ
 ·obtain⟨y4,h5,h⟩:=aD h;have kF:=(((aU.g (qm h2)).b h3).g (sR h5))
  obtain⟨h6,h⟩|⟨h6,h⟩:=aM h
  ·have h:=aG h;subst h;exact(kF.b h6).ret hΓ
  ·have h:=aG h;subst h;exact(kF.b h6).ret hΓ
def nG(aB:b7)(aW:b7)(k1:Option Bool):b7->Nat->Option Bool
 | [],i1=>(k1)
 |bD::bZ,i1=>((mK aW (i1:Int)).bind fun x30=>((tG bD x30).bind fun BF=>(bif !(BF)then(some false)else(nG aB aW k1 bZ (i1+1)))))
def uY(aB:b7)(aW:b7):Option Bool:=(bif (((aB.map aP.c).length:Int):Int) != ((aW.map aP.c).length:Int)then(some false)else(nG aB aW (some true) aB 0))
def L4(aB:b7)(aW:b7)(cT:Int):St:=⟨[(0,D.sl (aB.map aP.c)),(1,D.sl (aW.map aP.c)),(5,D.int .i64 cT)],[]⟩
theorem J7(hΓ:Γ.nt=27){aB:b7}{aW:b7}{r:Bool}{k1:Option Bool}(cX:k1=some r->Ax Γ N f55 (.q [[none]] (D.bool r)) [1,1,1] ⟨[],[]⟩)(hm1:aB.length<=maxLen):∀(rest:b7) (i1:Nat),aB.drop i1=rest->nG aB aW k1 rest i1=some r->Ar Γ N f55 (.q [[none]] (D.bool r)) [1,1,0,1,0] (rest.length+1) (L4 aB aW (i1:Int)):=by
 intro rest
 induction rest with
 |nil=>
  intro i1 aj h;rw[nG]at h;refine aO fun N1 bz bg=>?_
  exact((aU.ge aP.c aj).a [.hl 0 [] []]).ex hΓ bz (cX h)
 |cons bD bZ ih1=>
  intro i1 aj h;rw[nG]at h;refine aO fun N1 bz bg=>?_
  obtain⟨x30,h31,h⟩:=aD h;obtain⟨BF,h33,h⟩:=aD h;have dJ:=(((((aU.lt aP.c aj).a [.n 8]).l (ax aP.c 3 (dc aj) rfl)).l (dl aP.c 3 h31 rfl)).g (J8 h33))
  obtain⟨h34,h⟩|⟨h34,h⟩:=aM h
  ·have h:=aG h;subst h;exact(dJ.b h34).ret hΓ
  ·exact((dJ.b h34).a [.cn [0,1,5] []]).ct hΓ bg (iS aj hm1) (ih1 (i1+1) (dn aj) h)
theorem Gw{aB:b7}{aW:b7}{r:Bool}(h:uY aB aW=some r):Good prog 55 [D.sl (aB.map aP.c),D.sl (aW.map aP.c)] (D.bool r):=by
 refine gd func55 [[none]] 27 fun hr Γ hΓ=>?_
 rw[uY]at h;obtain⟨h1,h⟩|⟨h1,h⟩:=aM h
 ·have h:=aG h;subst h;exact(aU.b h1).ret hΓ
 ·refine((aU.b h1).a [.cn [0,1,5] []]).lp hΓ (J7 hΓ (fun h=>?_) (by have:=(dY.sl (hr _ (aC (i:=0) rfl))).1;simpa using this) aB 0 rfl h);have h:=aG h;subst h;exact aU.ret hΓ
def vK(aB:aS)(aW:aS):Option Bool:=(bif !((aB.var:Bytes)==aW.var)then(some false)else(bif !((aB.value:Bytes)==aW.value)then(some false)else(some true)))
theorem LC{aB:aS}{aW:aS}{r:Bool}(h:vK aB aW=some r):Good prog 195 [D.agg (aS.c aB),D.agg (aS.c aW)] (D.bool r):=by
 refine gd func195 [[none]] 15 fun hr Γ hΓ=>?_
 rw[vK]at h;obtain⟨h1,h⟩|⟨h1,h⟩:=aM h
 ·have h:=aG h;subst h;exact(aU.b h1).ret hΓ
 ·obtain⟨h2,h⟩|⟨h2,h⟩:=aM h
  ·have h:=aG h;subst h;exact((aU.b h1).b h2).ret hΓ
  ·have h:=aG h;subst h;exact((aU.b h1).b h2).ret hΓ
def oS(aB:aT)(aW:aT)(k1:Option Bool):aT->Nat->Option Bool
 | [],i1=>(k1)
 |bD::bZ,i1=>((mK aW (i1:Int)).bind fun x30=>((vK bD x30).bind fun BF=>(bif !(BF)then(some false)else(oS aB aW k1 bZ (i1+1)))))
def wR(aB:aT)(aW:aT):Option Bool:=(bif (((aB.map aS.c).length:Int):Int) != ((aW.map aS.c).length:Int)then(some false)else(oS aB aW (some true) aB 0))
def Mv(aB:aT)(aW:aT)(cT:Int):St:=⟨[(0,D.sl (aB.map aS.c)),(1,D.sl (aW.map aS.c)),(5,D.int .i64 cT)],[]⟩
theorem LB(hΓ:Γ.nt=27){aB:aT}{aW:aT}{r:Bool}{k1:Option Bool}(cX:k1=some r->Ax Γ N f130 (.q [[none]] (D.bool r)) [1,1,1] ⟨[],[]⟩)(hm1:aB.length<=maxLen):∀(rest:aT) (i1:Nat),aB.drop i1=rest->oS aB aW k1 rest i1=some r->Ar Γ N f130 (.q [[none]] (D.bool r)) [1,1,0,1,0] (rest.length+1) (Mv aB aW (i1:Int)):=by
 intro rest
 induction rest with
 |nil=>
  intro i1 aj h;rw[oS]at h;refine aO fun N1 bz bg=>?_
  exact((aU.ge aS.c aj).a [.hl 0 [] []]).ex hΓ bz (cX h)
 |cons bD bZ ih1=>
  intro i1 aj h;rw[oS]at h;refine aO fun N1 bz bg=>?_
  obtain⟨x30,h31,h⟩:=aD h;obtain⟨BF,h33,h⟩:=aD h;have dJ:=(((((aU.lt aS.c aj).a [.n 8]).l (ax aS.c 2 (dc aj) rfl)).l (dl aS.c 2 h31 rfl)).g (LC h33))
  obtain⟨h34,h⟩|⟨h34,h⟩:=aM h
  ·have h:=aG h;subst h;exact(dJ.b h34).ret hΓ
  ·exact((dJ.b h34).a [.cn [0,1,5] []]).ct hΓ bg (iS aj hm1) (ih1 (i1+1) (dn aj) h)
theorem JB{aB:aT}{aW:aT}{r:Bool}(h:wR aB aW=some r):Good prog 130 [D.sl (aB.map aS.c),D.sl (aW.map aS.c)] (D.bool r):=by
 refine gd func130 [[none]] 27 fun hr Γ hΓ=>?_
 rw[wR]at h;obtain⟨h1,h⟩|⟨h1,h⟩:=aM h
 ·have h:=aG h;subst h;exact(aU.b h1).ret hΓ
 ·refine((aU.b h1).a [.cn [0,1,5] []]).lp hΓ (LB hΓ (fun h=>?_) (by have:=(dY.sl (hr _ (aC (i:=0) rfl))).1;simpa using this) aB 0 rfl h);have h:=aG h;subst h;exact aU.ret hΓ
def tH(aB:aI)(aW:aI):Option Bool:=((qN aB.facts aW.facts).bind fun y1=>(bif !(y1)then(some false)else((wR aB.bind aW.bind).bind fun y4=>(bif !(y4)then(some false)else(some true)))))
theorem JE{aB:aI}{aW:aI}{r:Bool}(h:tH aB aW=some r):Good prog 245 [D.agg (aI.c aB),D.agg (aI.c aW)] (D.bool r):=by
 refine gd func245 [[none]] 17 fun hr Γ hΓ=>?_
 rw[tH]at h;obtain⟨y1,h2,h⟩:=aD h;obtain⟨h3,h⟩|⟨h3,h⟩:=aM h
 ·have h:=aG h;subst h;exact((aU.g (sR h2)).b h3).ret hΓ
 ·obtain⟨y4,h5,h⟩:=aD h;have kF:=(((aU.g (sR h2)).b h3).g (JB h5))
  obtain⟨h6,h⟩|⟨h6,h⟩:=aM h
  ·have h:=aG h;subst h;exact(kF.b h6).ret hΓ
  ·have h:=aG h;subst h;exact(kF.b h6).ret hΓ
def nI(aB:ah)(aW:ah)(k1:Option Bool):ah->Nat->Option Bool
 | [],i1=>(k1)
 |bD::bZ,i1=>((mK aW (i1:Int)).bind fun x30=>((tH bD x30).bind fun BF=>(bif !(BF)then(some false)else(nI aB aW k1 bZ (i1+1)))))
def uZ(aB:ah)(aW:ah):Option Bool:=(bif (((aB.map aI.c).length:Int):Int) != ((aW.map aI.c).length:Int)then(some false)else(nI aB aW (some true) aB 0))
def LG(aB:ah)(aW:ah)(cT:Int):St:=⟨[(0,D.sl (aB.map aI.c)),(1,D.sl (aW.map aI.c)),(5,D.int .i64 cT)],[]⟩
theorem JD(hΓ:Γ.nt=27){aB:ah}{aW:ah}{r:Bool}{k1:Option Bool}(cX:k1=some r->Ax Γ N f188 (.q [[none]] (D.bool r)) [1,1,1] ⟨[],[]⟩)(hm1:aB.length<=maxLen):∀(rest:ah) (i1:Nat),aB.drop i1=rest->nI aB aW k1 rest i1=some r->Ar Γ N f188 (.q [[none]] (D.bool r)) [1,1,0,1,0] (rest.length+1) (LG aB aW (i1:Int)):=by
 intro rest
 induction rest with
 |nil=>
  intro i1 aj h;rw[nI]at h;refine aO fun N1 bz bg=>?_
  exact((aU.ge aI.c aj).a [.hl 0 [] []]).ex hΓ bz (cX h)
 |cons bD bZ ih1=>
  intro i1 aj h;rw[nI]at h;refine aO fun N1 bz bg=>?_
  obtain⟨x30,h31,h⟩:=aD h;obtain⟨BF,h33,h⟩:=aD h;have dJ:=(((((aU.lt aI.c aj).a [.n 8]).l (ax aI.c 2 (dc aj) rfl)).l (dl aI.c 2 h31 rfl)).g (JE h33))
  obtain⟨h34,h⟩|⟨h34,h⟩:=aM h
  ·have h:=aG h;subst h;exact(dJ.b h34).ret hΓ
  ·exact((dJ.b h34).a [.cn [0,1,5] []]).ct hΓ bg (iS aj hm1) (ih1 (i1+1) (dn aj) h)
theorem Gy{aB:ah}{aW:ah}{r:Bool}(h:uZ aB aW=some r):Good prog 188 [D.sl (aB.map aI.c),D.sl (aW.map aI.c)] (D.bool r):=by
 refine gd func188 [[none]] 27 fun hr Γ hΓ=>?_
 rw[uZ]at h;obtain⟨h1,h⟩|⟨h1,h⟩:=aM h
 ·have h:=aG h;subst h;exact(aU.b h1).ret hΓ
 ·refine((aU.b h1).a [.cn [0,1,5] []]).lp hΓ (JD hΓ (fun h=>?_) (by have:=(dY.sl (hr _ (aC (i:=0) rfl))).1;simpa using this) aB 0 rfl h);have h:=aG h;subst h;exact aU.ret hΓ
def vJ(aB:Node)(aW:Node):Option Bool:=(bif (aB.parent:Int) != aW.parent then(some false)else((s8 aB.cond aW.cond).bind fun y2=>(bif !(y2)then(some false)else(bif (aB.cP:Int) != aW.cP then(some false)else((uZ aB.tokens aW.tokens).bind fun y6=>(bif !(y6)then(some false)else(some true)))))))
theorem LA{aB:Node}{aW:Node}{r:Bool}(h:vJ aB aW=some r):Good prog 116 [D.agg (Node.c aB),D.agg (Node.c aW)] (D.bool r):=by
 refine gd func116 [[none]] 27 fun hr Γ hΓ=>?_
 rw[vJ]at h;obtain⟨h1,h⟩|⟨h1,h⟩:=aM h
 ·have h:=aG h;subst h;exact(aU.b h1).ret hΓ
 ·obtain⟨y2,h3,h⟩:=aD h;have kF:=((aU.b h1).g (C2 h3))
  obtain⟨h4,h⟩|⟨h4,h⟩:=aM h
  ·have h:=aG h;subst h;exact(kF.b h4).ret hΓ
  ·obtain⟨h5,h⟩|⟨h5,h⟩:=aM h
   ·have h:=aG h;subst h;exact((kF.b h4).b h5).ret hΓ
   ·obtain⟨y6,h7,h⟩:=aD h;have dJ:=(((kF.b h4).b h5).g (Gy h7))
    obtain⟨h8,h⟩|⟨h8,h⟩:=aM h
    ·have h:=aG h;subst h;exact(dJ.b h8).ret hΓ
    ·have h:=aG h;subst h;exact(dJ.b h8).ret hΓ
def oR(aB:ay)(aW:ay)(k1:Option Bool):ay->Nat->Option Bool
 | [],i1=>(k1)
 |bD::bZ,i1=>((mK aW (i1:Int)).bind fun x30=>((vJ bD x30).bind fun BF=>(bif !(BF)then(some false)else(oR aB aW k1 bZ (i1+1)))))
def wQ(aB:ay)(aW:ay):Option Bool:=(bif (((aB.map Node.c).length:Int):Int) != ((aW.map Node.c).length:Int)then(some false)else(oR aB aW (some true) aB 0))
def Mu(aB:ay)(aW:ay)(cT:Int):St:=⟨[(0,D.sl (aB.map Node.c)),(1,D.sl (aW.map Node.c)),(5,D.int .i64 cT)],[]⟩
theorem L9(hΓ:Γ.nt=27){aB:ay}{aW:ay}{r:Bool}{k1:Option Bool}(cX:k1=some r->Ax Γ N f56 (.q [[none]] (D.bool r)) [1,1,1] ⟨[],[]⟩)(hm1:aB.length<=maxLen):∀(rest:ay) (i1:Nat),aB.drop i1=rest->oR aB aW k1 rest i1=some r->Ar Γ N f56 (.q [[none]] (D.bool r)) [1,1,0,1,0] (rest.length+1) (Mu aB aW (i1:Int)):=by
 intro rest
 induction rest with
 |nil=>
  intro i1 aj h;rw[oR]at h;refine aO fun N1 bz bg=>?_
  exact((aU.ge Node.c aj).a [.hl 0 [] []]).ex hΓ bz (cX h)
 |cons bD bZ ih1=>
  intro i1 aj h;rw[oR]at h;refine aO fun N1 bz bg=>?_
  obtain⟨x30,h31,h⟩:=aD h;obtain⟨BF,h33,h⟩:=aD h;have dJ:=(((((aU.lt Node.c aj).a [.n 8]).l (ax Node.c 8 (dc aj) rfl)).l (dl Node.c 8 h31 rfl)).g (LA h33))
  obtain⟨h34,h⟩|⟨h34,h⟩:=aM h
  ·have h:=aG h;subst h;exact(dJ.b h34).ret hΓ
  ·exact((dJ.b h34).a [.cn [0,1,5] []]).ct hΓ bg (iS aj hm1) (ih1 (i1+1) (dn aj) h)
theorem JA{aB:ay}{aW:ay}{r:Bool}(h:wQ aB aW=some r):Good prog 56 [D.sl (aB.map Node.c),D.sl (aW.map Node.c)] (D.bool r):=by
 refine gd func56 [[none]] 27 fun hr Γ hΓ=>?_
 rw[wQ]at h;obtain⟨h1,h⟩|⟨h1,h⟩:=aM h
 ·have h:=aG h;subst h;exact(aU.b h1).ret hΓ
 ·refine((aU.b h1).a [.cn [0,1,5] []]).lp hΓ (L9 hΓ (fun h=>?_) (by have:=(dY.sl (hr _ (aC (i:=0) rfl))).1;simpa using this) aB 0 rfl h);have h:=aG h;subst h;exact aU.ret hΓ
def l9(aB:aF)(aW:aF):Option Bool:=((wS aB.rules aW.rules).bind fun y1=>(bif !(y1)then(some false)else((xd aB.ends aW.ends).bind fun y4=>(bif !(y4)then(some false)else((uY aB.av aW.av).bind fun y7=>(bif !(y7)then(some false)else((wQ aB.nodes aW.nodes).bind fun DK=>(bif !(DK)then(some false)else((qN aB.facts aW.facts).bind fun vz=>(bif !(vz)then(some false)else(bif (aB.bw:Int) != aW.bw then(some false)else(some true))))))))))))
theorem ql{aB:aF}{aW:aF}{r:Bool}(h:l9 aB aW=some r):Good prog 17 [D.agg (aF.c aB),D.agg (aF.c aW)] (D.bool r):=by
 refine gd func17 [[none]] 40 fun hr Γ hΓ=>?_
 rw[l9]at h;obtain⟨y1,h2,h⟩:=aD h;obtain⟨h3,h⟩|⟨h3,h⟩:=aM h
 ·have h:=aG h;subst h;exact((aU.g (B8 h2)).b h3).ret hΓ
 ·obtain⟨y4,h5,h⟩:=aD h;have kF:=(((aU.g (B8 h2)).b h3).g (L8 h5))
  obtain⟨h6,h⟩|⟨h6,h⟩:=aM h
  ·have h:=aG h;subst h;exact(kF.b h6).ret hΓ
  ·obtain⟨y7,h8,h⟩:=aD h;have dJ:=((kF.b h6).g (Gw h8))
   obtain⟨h9,h⟩|⟨h9,h⟩:=aM h
   ·have h:=aG h;subst h;exact(dJ.b h9).ret hΓ
   ·obtain⟨DK,h11,h⟩:=aD h;have jb:=((dJ.b h9).g (JA h11))
    obtain⟨h12,h⟩|⟨h12,h⟩:=aM h
    ·have h:=aG h;subst h;exact(jb.b h12).ret hΓ
    ·obtain⟨vz,h14,h⟩:=aD h;have ia:=((jb.b h12).g (sR h14))
     obtain⟨h15,h⟩|⟨h15,h⟩:=aM h
     ·have h:=aG h;subst h;exact(ia.b h15).ret hΓ
     ·obtain⟨h16,h⟩|⟨h16,h⟩:=aM h
      ·have h:=aG h;subst h;exact((ia.b h15).b h16).ret hΓ
      ·have h:=aG h;subst h;exact((ia.b h15).b h16).ret hΓ
end Go.Cx

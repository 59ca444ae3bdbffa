/- Plain laws on what the laws' own helpers compute: sizes, copies, equality. No condition; plain lemmas. -/
import Derived.Test.YtbeaohmbmfjabaaGreatDoorPIsNetworkG3
import Derived.Shelf.Strings.OnBuilder
import Derived.Shelf.Sort.Plain
import Derived.Shelf.Slices.In.SortNone2
import Derived.Shelf.Strconv.Itoa3
import Derived.WalkSmall
import Derived.Shelf.Strconv.Atoi
import Derived.Shelf.Strconv.ErrVar
import Derived.Shelf.Small.Strs
import Derived.Lib.AtoiBound
namespace Go.Cx
set_option linter.unusedVariables false
set_option linter.unusedSimpArgs false
open Go.RowKit Go.Proofs
theorem cB{α:Type}[DecidableEq α][BEq α][LawfulBEq α](a b:α):(a==b)=decide (a=b):=by rw[Bool.eq_iff_iff];simp
def vG(cs:List D):Prop:=∀d∈cs,bR d
theorem vG.row{α:Type}{c:α→List D}{l:List α}(h:bR (.sl (l.map c))):∀x∈l,vG (c x):=fun x hx d hd=>(bR.sl h).2 (c x) (List.mem_map.2 ⟨x,hx,rfl⟩) d hd
theorem bR.len{α:Type}{c:α→List D}{l:List α}(h:bR (.sl (l.map c))):l.length≤maxLen:=by have:=(bR.sl h).1;simpa using this
theorem Good.aBs{P:Program}{f:FuncId}{ds:List D}{d:D}(hf:∃fn,P.funcs[f]?=some fn∧fn.body.isSome=true∧(fn.name== "runtime.NumGoroutine")=false)(h:vG ds→Good P f ds d):Good P f ds d:=
 ⟨hf,fun w Θ args bs hv hargs h1 h2 h3=>(h hargs.rdb).2 w Θ args bs hv hargs h1 h2 h3⟩
def j6{α:Type}(w:α→Nat)(l:List α):Nat:=l.length+(l.map w).sum
def tw(s:Bytes):Nat:=s.length
theorem pP{α:Type}(w:α→Nat)(x:α)(l:List α):j6 w (x::l)=1+w x+j6 w l:=by simp[j6];omega
theorem a1s{α:Type}(w:α→Nat)(a b:List α):j6 w (a++b)=j6 w a+j6 w b:=by
 induction a with
 |nil=>simp[j6]
 |cons x a ih=>rw[List.cons_append,pP,pP,ih];omega
theorem gB{α:Type}(w:α→Nat)(l:List α):l.length≤j6 w l:=by unfold j6;omega
theorem iP{α:Type}{w:α→Nat}{l:List α}{x:α}(h:x∈l):w x+1≤j6 w l:=by
 induction l with
 |nil=>cases h
 |cons y l ih=>
  rw[pP]
  rcases List.mem_cons.1 h with rfl|h
  ·omega
  ·have:=ih h;omega
theorem a6o{n:Nat}{v:Int}(hn:n≤maxLen)(h0:0≤v)(h1:v≤1048576):IntKind.i64.wrap (v-(n:Int))=v-(n:Int):=by
 unfold maxLen at hn
 exact dY (rC.i64.2 (by omega))
def uP(o:Option Int)(v:Int)(n:Nat):Prop:=∃r,o=some r∧r≤v∧(0≤r→(n:Int)≤v-r)
theorem uP.str{n m:Nat}{v:Int}{k:Option Int}(hn:n≤maxLen)(h0:0≤v)(h1:v≤1048576)(hk:0≤v-(n:Int)→IntKind.i64.wrap (v-(n:Int))=v-(n:Int)→uP k (v-(n:Int)) m):
 uP (bif decide (IntKind.i64.wrap (v-(n:Int))<0)then some (-1)else k) v (n+m):=by
 have hw:=a6o hn h0 h1
 rw[hw]
 by_cases c:v-(n:Int)<0
 ·exact⟨-1,by simp[c],by omega,by omega⟩
 ·obtain⟨r,e1,e2,e3⟩:=hk (by omega) hw
  exact⟨r,by simp[c,e1],by omega,fun h=>by have:=e3 h;omega⟩
theorem uP.sub{o:Option Int}{v:Int}{k:Int→Option Int}{n m:Nat}(h:uP o v n)(h1:v≤1048576)(h0:0≤v)(hk:∀r,0≤r→r≤1048576→uP (k r) r m):
 uP (o.bind fun y=>bif decide (y<0)then some (-1)else k y) v (n+m):=by
 obtain⟨r,e1,e2,e3⟩:=h
 rw[e1]
 by_cases c:r<0
 ·exact⟨-1,by simp[c],by omega,by omega⟩
 ·obtain⟨r',q1,q2,q3⟩:=hk r (by omega) (by omega)
  exact⟨r',by simp[c,q1],by omega,fun h=>by have:=e3 (by omega);have:=q3 h;omega⟩
theorem uP.fin{v:Int}:uP (some v) v 0:=⟨v,rfl,Int.le_refl _,fun _=>by omega⟩
theorem uP.eq{o:Option Int}{v:Int}{n m:Nat}(h:uP o v n)(e:n=m):uP o v m:=e▸h
theorem szL{α:Type}{w:α→Nat}{f:α→Int→Option Int}(L:List α→Nat→Int→Option Int)(rD:∀i v,L [] i v=some v)
 (qU:∀x xs i v,L (x::xs) i v=(f x v).bind fun y=>bif decide (y<0)then some (-1)else L xs (i+1) y):
 ∀(l:List α),(∀x∈l,∀v,0≤v→v≤1048576→uP (f x v) v (w x))→∀i v,0≤v→v≤1048576→uP (L l i v) v ((l.map w).sum):=by
 intro l
 induction l with
 |nil=>intro _ i v _ _;rw[rD];exact .fin
 |cons x xs ih=>
  intro hf i v h0 h1
  rw[qU]
  refine((hf x (by simp) v h0 h1).sub h1 h0 (m:=(xs.map w).sum) fun r r0 r1=>?_).eq (by simp)
  exact ih (fun y hy=>hf y (by simp[hy])) (i+1) r r0 r1
theorem szS{α:Type}{c:α→List D}{w:α→Nat}{l:List α}{v:Int}{k:Int→Option Int}(hr:bR (.sl (l.map c)))(h0:0≤v)(h1:v≤1048576)
 (hk:∀v',0≤v'→v'≤1048576→uP (k v') v' ((l.map w).sum)):uP (bif decide (IntKind.i64.wrap (v-((l.map c).length:Int))<0)then some (-1)else k (IntKind.i64.wrap (v-((l.map c).length:Int)))) v (j6 w l):=by
 have hn:(l.map c).length≤maxLen:=(bR.sl hr).1
 refine(uP.str hn h0 h1 (m:=(l.map w).sum) fun g e=>?_).eq (by simp[j6])
 rw[e]
 exact hk _ g (by omega)
theorem toL{α:Type}{z:α}{c:α→List D}{f:α→Option α}{l:List α}(L:List α→Nat→List α→Option (List α))(rD:∀i w,L [] i w=some w)
 (qU:∀x xs i w,L (x::xs) i w=(f x).bind fun y=>bif decide (i<(w.map c).length)then(w[i]?).bind (fun _=>L xs (i+1) (w.set i y))else none) (hf:∀x∈l,f x=some x):
 L l 0 (List.replicate (((l.map c).length:Int)).toNat z)=some l:=by
 have key:∀(rest pre:List α),l=pre++rest→L rest pre.length (pre++List.replicate rest.length z)=some l:=by
  intro rest
  induction rest with
  |nil=>intro pre h;rw[rD,h];simp
  |cons x xs ih=>
   intro pre h
   rw[qU,hf x (by rw[h];simp)]
   have e1:decide (pre.length<((pre++List.replicate (x::xs).length z).map c).length)=true:=by simp
   have e2:(pre++List.replicate (x::xs).length z)[pre.length]?=some z:=by simp[List.replicate_succ]
   have e3:(pre++List.replicate (x::xs).length z).set pre.length x=(pre++[x])++List.replicate xs.length z:=by
    rw[List.length_cons,List.replicate_succ,List.set_append_right _ _ (Nat.le_refl _),Nat.sub_self,List.set_cons_zero];simp
   simp only[Option.bind_some,e1,cond_true,e2,e3]
   have:=ih (pre++[x]) (by rw[h];simp)
   simpa using this
 have:=key l [] rfl
 simpa using this
theorem L7{n b:Nat}(hn:n≤1048576)(hb:b≤1000):BK (n:Int) b=true:=by
 unfold BK
 have h1:b*n≤1000*1048576:=Nat.mul_le_mul hb hn
 simp
 omega
theorem WN{α:Type}[DecidableEq α]{f:α→α→Option Bool}{a b:List α}{c:α→List D}(L:Option Bool→List α→Nat→Option Bool)(rD:∀k i,L k [] i=k)
 (qU:∀k x xs i,L k (x::xs) i=(oI b (i:Int)).bind fun y=>(f x y).bind fun r=>bif !r then some false else L k xs (i+1)) (hf:∀x y,f x y=some (decide (x=y))):
 (bif (((a.map c).length:Int) != ((b.map c).length:Int))then some false else L (some true) a 0)=some (decide (a=b)):=by
 by_cases hl:a.length=b.length
 ·have e:(((a.map c).length:Int) != ((b.map c).length:Int))=false:=by simp[hl]
  rw[e]
  have key:∀(ra rb pa pb:List α),a=pa++ra→b=pb++rb→pa.length=pb.length→L (some true) ra pa.length=some (decide (ra=rb)):=by
   intro ra
   induction ra with
   |nil=>
    intro rb pa pb h1 h2 h3
    rw[rD]
    have:rb=[]:=by
     have:=congrArg List.length h1;have:=congrArg List.length h2
     simp at*
     apply List.eq_nil_of_length_eq_zero;omega
    subst this;simp
   |cons x xs ih=>
    intro rb pa pb h1 h2 h3
    cases rb with
    |nil=>
     exfalso
     have:=congrArg List.length h1;have:=congrArg List.length h2
     simp at*
     omega
    |cons y ys=>
     rw[qU]
     have e1:oI b (pa.length:Int)=some y:=by
      unfold oI
      have:b[pa.length]?=some y:=by rw[h2,h3];simp
      simp[this]
     rw[e1,Option.bind_some,hf,Option.bind_some]
     have:=ih ys (pa++[x]) (pb++[y]) (by rw[h1];simp) (by rw[h2];simp) (by simp[h3])
     by_cases hxy:x=y
     ·subst hxy
      simp only[decide_true,Bool.not_true,cond_false]
      simp only[List.length_append,List.length_cons,List.length_nil]at this
      rw[this]
      simp
     ·simp[hxy]
  have:=key a b [] [] rfl rfl rfl
  simpa using this
 ·have e:(((a.map c).length:Int) != ((b.map c).length:Int))=true:=by simp;omega
  rw[e]
  have:a≠b:=fun h=>hl (by rw[h])
  simp[this]
end Go.Cx
namespace Go.Cx
open Go.RowKit Go.Proofs
set_option linter.unusedVariables false
set_option linter.unusedSimpArgs false
set_option maxRecDepth 100000
variable{Γ:uK}{N:Nat→St→Prop}
def fG(aA:List Bytes)(k1:Int→Option Int):List Bytes→Nat→Int→Option Int
 | [],i1,b9=>(k1 (b9))
 |aS::aX,i1,b9=>(bif decide ((IntKind.i64.wrap ((b9)-(((aS).length:Int))):Int)<(0))then(some (-1))else(fG aA k1 aX (i1+1) (IntKind.i64.wrap ((b9)-(((aS).length:Int))))))
def n9(aA:List Bytes)(aM:Int):Option Int:=(bif decide ((IntKind.i64.wrap ((aM)-((((aA).map tx).length:Int))):Int)<(0))then(some (-1))else(fG aA (fun(lB:Int)=>(some (lB))) (aA) 0 (IntKind.i64.wrap ((aM)-((((aA).map tx).length:Int))))))
def IU(aA:List Bytes)(b9:Int)(bB:Int):St:=⟨[(0,D.sl ((aA).map tx)),(1,D.int .i64 (b9)),(5,D.int .i64 (bB))],[]⟩
theorem G0(hΓ:Γ.nt=28){aA:List Bytes}{r:Int}{k1:Int→Option Int}(bE:∀(lB:Int),k1 lB=some r→Ax Γ N Tryz.f68 (.q [[none]] (D.int .i64 (r))) [1,1,1,1] ⟨[(1,D.int .i64 (lB))],[]⟩)(hm1:(aA).length≤maxLen):∀(rest:List Bytes) (i1:Nat) (b9:Int),(aA).drop i1=rest→fG aA k1 rest i1 b9=some r→Ar Γ N Tryz.f68 (.q [[none]] (D.int .i64 (r))) [1,1,1,0,1,0] (rest.length+1) (IU aA b9 ((i1:Int))):=by
 intro rest
 induction rest with
 |nil=>
  intro i1 b9 aO h
  rw[fG]at h
  refine aJ fun N1 aY aV=>?_
  exact((aK.ge tx aO).a [.hl 0 [1] []]).ex hΓ aY (bE (b9) h)
 |cons aS aX ih1=>
  intro i1 b9 aO h
  rw[fG]at h
  refine aJ fun N1 aY aV=>?_
  have bO:=((aK.lt tx aO).l (aQ tx 1 (dc aO) rfl))
  obtain⟨h14,h⟩|⟨h14,h⟩:=aE h
  ·cases h;exact(bO.b h14).ret hΓ
  ·exact((bO.b h14).a [.cn [0,1,5] []]).ct hΓ aV (iS aO hm1) (ih1 (i1+1) (IntKind.i64.wrap ((b9)-(((aS).length:Int)))) (dn aO) h)
theorem wQ{aA:List Bytes}{aM:Int}{r:Int}(h:n9 aA aM=some r):Good Tryz.prog 68 [D.sl ((aA).map tx),D.int .i64 (aM)] (D.int .i64 (r)):=by
 refine gd Tryz.func68 [[none]] 28 fun hr Γ hΓ=>?_
 rw[n9]at h
 obtain⟨h1,h⟩|⟨h1,h⟩:=aE h
 ·cases h;exact(aK.b h1).ret hΓ
 ·refine((aK.b h1).a [.cn [0,1,5] []]).lp hΓ (G0 hΓ (fun lB h=>?_) (by have:=(bR.sl (hr _ (List.mem_of_getElem? (i:=0) rfl))).1;simpa using this) (aA) 0 (IntKind.i64.wrap ((aM)-((((aA).map tx).length:Int)))) rfl h)
  have h:=aC h;subst h;exact aK.ret hΓ
def jY(aA:aD)(aM:Int):Option Int:=(bif decide ((IntKind.i64.wrap ((aM)-(((aA.rel).length:Int))):Int)<(0))then(some (-1))else((n9 (aA.args) (IntKind.i64.wrap ((aM)-(((aA.rel).length:Int))))).bind fun y2=>(bif decide ((y2:Int)<(0))then(some (-1))else(some (y2)))))
theorem fW{aA:aD}{aM:Int}{r:Int}(h:jY aA aM=some r):Good Tryz.prog 172 [D.agg (aD.c aA),D.int .i64 (aM)] (D.int .i64 (r)):=by
 refine gd Tryz.func172 [[none]] 19 fun hr Γ hΓ=>?_
 rw[jY]at h
 obtain⟨h1,h⟩|⟨h1,h⟩:=aE h
 ·cases h;exact(aK.b h1).ret hΓ
 ·obtain⟨y2,h3,h⟩:=aB h
  have jO:=((aK.b h1).g (wQ h3))
  obtain⟨h4,h⟩|⟨h4,h⟩:=aE h
  ·cases h;exact(jO.b h4).ret hΓ
  ·have h:=aC h;subst h;exact(jO.b h4).ret hΓ
def oV(aA:aF)(aM:Int):Option Int:=((jY (aA.pat) (aM)).bind fun y1=>(bif decide ((y1:Int)<(0))then(some (-1))else(bif decide ((IntKind.i64.wrap ((y1)-(((aA.left).length:Int))):Int)<(0))then(some (-1))else(bif decide ((IntKind.i64.wrap ((IntKind.i64.wrap ((y1)-(((aA.left).length:Int))))-(((aA.right).length:Int))):Int)<(0))then(some (-1))else(some (IntKind.i64.wrap ((IntKind.i64.wrap ((y1)-(((aA.left).length:Int))))-(((aA.right).length:Int)))))))))
theorem vH{aA:aF}{aM:Int}{r:Int}(h:oV aA aM=some r):Good Tryz.prog 173 [D.agg (aF.c aA),D.int .i64 (aM)] (D.int .i64 (r)):=by
 refine gd Tryz.func173 [[none]] 26 fun hr Γ hΓ=>?_
 rw[oV]at h
 obtain⟨y1,h2,h⟩:=aB h
 obtain⟨h3,h⟩|⟨h3,h⟩:=aE h
 ·cases h;exact((aK.g (fW h2)).b h3).ret hΓ
 ·have jO:=((aK.g (fW h2)).b h3)
  obtain⟨h4,h⟩|⟨h4,h⟩:=aE h
  ·cases h;exact(jO.b h4).ret hΓ
  ·obtain⟨h5,h⟩|⟨h5,h⟩:=aE h
   ·cases h;exact((jO.b h4).b h5).ret hΓ
   ·cases h;exact((jO.b h4).b h5).ret hΓ
def lG(aA:List aF)(k1:Int→Option Int):List aF→Nat→Int→Option Int
 | [],i1,b9=>(k1 (b9))
 |aS::aX,i1,b9=>((oV (aS) (b9)).bind fun iI=>(bif decide ((iI:Int)<(0))then(some (-1))else(lG aA k1 aX (i1+1) (iI))))
def tG(aA:List aF)(aM:Int):Option Int:=(bif decide ((IntKind.i64.wrap ((aM)-((((aA).map aF.c).length:Int))):Int)<(0))then(some (-1))else(lG aA (fun(lB:Int)=>(some (lB))) (aA) 0 (IntKind.i64.wrap ((aM)-((((aA).map aF.c).length:Int))))))
def OH(aA:List aF)(b9:Int)(bB:Int):St:=⟨[(0,D.sl ((aA).map aF.c)),(1,D.int .i64 (b9)),(5,D.int .i64 (bB))],[]⟩
theorem LM(hΓ:Γ.nt=27){aA:List aF}{r:Int}{k1:Int→Option Int}(bE:∀(lB:Int),k1 lB=some r→Ax Γ N Tryz.f136 (.q [[none]] (D.int .i64 (r))) [1,1,1,1] ⟨[(1,D.int .i64 (lB))],[]⟩)(hm1:(aA).length≤maxLen):∀(rest:List aF) (i1:Nat) (b9:Int),(aA).drop i1=rest→lG aA k1 rest i1 b9=some r→Ar Γ N Tryz.f136 (.q [[none]] (D.int .i64 (r))) [1,1,1,0,1,0] (rest.length+1) (OH aA b9 ((i1:Int))):=by
 intro rest
 induction rest with
 |nil=>
  intro i1 b9 aO h
  rw[lG]at h
  refine aJ fun N1 aY aV=>?_
  exact((aK.ge aF.c aO).a [.hl 0 [1] []]).ex hΓ aY (bE (b9) h)
 |cons aS aX ih1=>
  intro i1 b9 aO h
  rw[lG]at h
  refine aJ fun N1 aY aV=>?_
  obtain⟨iI,h23,h⟩:=aB h
  have bO:=(((aK.lt aF.c aO).l (aQ aF.c 5 (dc aO) rfl)).g (vH h23))
  obtain⟨h24,h⟩|⟨h24,h⟩:=aE h
  ·cases h;exact(bO.b h24).ret hΓ
  ·exact((bO.b h24).a [.cn [0,1,5] []]).ct hΓ aV (iS aO hm1) (ih1 (i1+1) (iI) (dn aO) h)
theorem IV{aA:List aF}{aM:Int}{r:Int}(h:tG aA aM=some r):Good Tryz.prog 136 [D.sl ((aA).map aF.c),D.int .i64 (aM)] (D.int .i64 (r)):=by
 refine gd Tryz.func136 [[none]] 27 fun hr Γ hΓ=>?_
 rw[tG]at h
 obtain⟨h1,h⟩|⟨h1,h⟩:=aE h
 ·cases h;exact(aK.b h1).ret hΓ
 ·refine((aK.b h1).a [.cn [0,1,5] []]).lp hΓ (LM hΓ (fun lB h=>?_) (by have:=(bR.sl (hr _ (List.mem_of_getElem? (i:=0) rfl))).1;simpa using this) (aA) 0 (IntKind.i64.wrap ((aM)-((((aA).map aF.c).length:Int)))) rfl h)
  have h:=aC h;subst h;exact aK.ret hΓ
def o5(aA:Action)(aM:Int):Option Int:=((jY (aA.pat) (aM)).bind fun y1=>(bif decide ((y1:Int)<(0))then(some (-1))else(some (y1))))
theorem G1{aA:Action}{aM:Int}{r:Int}(h:o5 aA aM=some r):Good Tryz.prog 205 [D.agg (Action.c aA),D.int .i64 (aM)] (D.int .i64 (r)):=by
 refine gd Tryz.func205 [[none]] 12 fun hr Γ hΓ=>?_
 rw[o5]at h
 obtain⟨y1,h2,h⟩:=aB h
 obtain⟨h3,h⟩|⟨h3,h⟩:=aE h
 ·cases h;exact((aK.g (fW h2)).b h3).ret hΓ
 ·have h:=aC h;subst h;exact((aK.g (fW h2)).b h3).ret hΓ
def j7(aA:List Action)(k1:Int→Option Int):List Action→Nat→Int→Option Int
 | [],i1,b9=>(k1 (b9))
 |aS::aX,i1,b9=>((o5 (aS) (b9)).bind fun iI=>(bif decide ((iI:Int)<(0))then(some (-1))else(j7 aA k1 aX (i1+1) (iI))))
def pQ(aA:List Action)(aM:Int):Option Int:=(bif decide ((IntKind.i64.wrap ((aM)-((((aA).map Action.c).length:Int))):Int)<(0))then(some (-1))else(j7 aA (fun(lB:Int)=>(some (lB))) (aA) 0 (IntKind.i64.wrap ((aM)-((((aA).map Action.c).length:Int))))))
def IW(aA:List Action)(b9:Int)(bB:Int):St:=⟨[(0,D.sl ((aA).map Action.c)),(1,D.int .i64 (b9)),(5,D.int .i64 (bB))],[]⟩
theorem G2(hΓ:Γ.nt=27){aA:List Action}{r:Int}{k1:Int→Option Int}(bE:∀(lB:Int),k1 lB=some r→Ax Γ N Tryz.f137 (.q [[none]] (D.int .i64 (r))) [1,1,1,1] ⟨[(1,D.int .i64 (lB))],[]⟩)(hm1:(aA).length≤maxLen):∀(rest:List Action) (i1:Nat) (b9:Int),(aA).drop i1=rest→j7 aA k1 rest i1 b9=some r→Ar Γ N Tryz.f137 (.q [[none]] (D.int .i64 (r))) [1,1,1,0,1,0] (rest.length+1) (IW aA b9 ((i1:Int))):=by
 intro rest
 induction rest with
 |nil=>
  intro i1 b9 aO h
  rw[j7]at h
  refine aJ fun N1 aY aV=>?_
  exact((aK.ge Action.c aO).a [.hl 0 [1] []]).ex hΓ aY (bE (b9) h)
 |cons aS aX ih1=>
  intro i1 b9 aO h
  rw[j7]at h
  refine aJ fun N1 aY aV=>?_
  obtain⟨iI,h23,h⟩:=aB h
  have bO:=(((aK.lt Action.c aO).l (aQ Action.c 3 (dc aO) rfl)).g (G1 h23))
  obtain⟨h24,h⟩|⟨h24,h⟩:=aE h
  ·cases h;exact(bO.b h24).ret hΓ
  ·exact((bO.b h24).a [.cn [0,1,5] []]).ct hΓ aV (iS aO hm1) (ih1 (i1+1) (iI) (dn aO) h)
theorem EF{aA:List Action}{aM:Int}{r:Int}(h:pQ aA aM=some r):Good Tryz.prog 137 [D.sl ((aA).map Action.c),D.int .i64 (aM)] (D.int .i64 (r)):=by
 refine gd Tryz.func137 [[none]] 27 fun hr Γ hΓ=>?_
 rw[pQ]at h
 obtain⟨h1,h⟩|⟨h1,h⟩:=aE h
 ·cases h;exact(aK.b h1).ret hΓ
 ·refine((aK.b h1).a [.cn [0,1,5] []]).lp hΓ (G2 hΓ (fun lB h=>?_) (by have:=(bR.sl (hr _ (List.mem_of_getElem? (i:=0) rfl))).1;simpa using this) (aA) 0 (IntKind.i64.wrap ((aM)-((((aA).map Action.c).length:Int)))) rfl h)
  have h:=aC h;subst h;exact aK.ret hΓ
def s7(aA:aI)(aM:Int):Option Int:=(bif decide ((IntKind.i64.wrap ((aM)-(((aA.name).length:Int))):Int)<(0))then(some (-1))else((tG (aA.conds) (IntKind.i64.wrap ((aM)-(((aA.name).length:Int))))).bind fun y2=>(bif decide ((y2:Int)<(0))then(some (-1))else((pQ (aA.bC) (y2)).bind fun y5=>(bif decide ((y5:Int)<(0))then(some (-1))else(some (y5)))))))
theorem LN{aA:aI}{aM:Int}{r:Int}(h:s7 aA aM=some r):Good Tryz.prog 79 [D.agg (aI.c aA),D.int .i64 (aM)] (D.int .i64 (r)):=by
 refine gd Tryz.func79 [[none]] 25 fun hr Γ hΓ=>?_
 rw[s7]at h
 obtain⟨h1,h⟩|⟨h1,h⟩:=aE h
 ·cases h;exact(aK.b h1).ret hΓ
 ·obtain⟨y2,h3,h⟩:=aB h
  have jO:=((aK.b h1).g (IV h3))
  obtain⟨h4,h⟩|⟨h4,h⟩:=aE h
  ·cases h;exact(jO.b h4).ret hΓ
  ·obtain⟨y5,h6,h⟩:=aB h
   have bO:=((jO.b h4).g (EF h6))
   obtain⟨h7,h⟩|⟨h7,h⟩:=aE h
   ·cases h;exact(bO.b h7).ret hΓ
   ·have h:=aC h;subst h;exact(bO.b h7).ret hΓ
def lH(aA:List aI)(k1:Int→Option Int):List aI→Nat→Int→Option Int
 | [],i1,b9=>(k1 (b9))
 |aS::aX,i1,b9=>((s7 (aS) (b9)).bind fun iI=>(bif decide ((iI:Int)<(0))then(some (-1))else(lH aA k1 aX (i1+1) (iI))))
def tH(aA:List aI)(aM:Int):Option Int:=(bif decide ((IntKind.i64.wrap ((aM)-((((aA).map aI.c).length:Int))):Int)<(0))then(some (-1))else(lH aA (fun(lB:Int)=>(some (lB))) (aA) 0 (IntKind.i64.wrap ((aM)-((((aA).map aI.c).length:Int))))))
def OI(aA:List aI)(b9:Int)(bB:Int):St:=⟨[(0,D.sl ((aA).map aI.c)),(1,D.int .i64 (b9)),(5,D.int .i64 (bB))],[]⟩
theorem LO(hΓ:Γ.nt=27){aA:List aI}{r:Int}{k1:Int→Option Int}(bE:∀(lB:Int),k1 lB=some r→Ax Γ N Tryz.f33 (.q [[none]] (D.int .i64 (r))) [1,1,1,1] ⟨[(1,D.int .i64 (lB))],[]⟩)(hm1:(aA).length≤maxLen):∀(rest:List aI) (i1:Nat) (b9:Int),(aA).drop i1=rest→lH aA k1 rest i1 b9=some r→Ar Γ N Tryz.f33 (.q [[none]] (D.int .i64 (r))) [1,1,1,0,1,0] (rest.length+1) (OI aA b9 ((i1:Int))):=by
 intro rest
 induction rest with
 |nil=>
  intro i1 b9 aO h
  rw[lH]at h
  refine aJ fun N1 aY aV=>?_
  exact((aK.ge aI.c aO).a [.hl 0 [1] []]).ex hΓ aY (bE (b9) h)
 |cons aS aX ih1=>
  intro i1 b9 aO h
  rw[lH]at h
  refine aJ fun N1 aY aV=>?_
  obtain⟨iI,h23,h⟩:=aB h
  have bO:=(((aK.lt aI.c aO).l (aQ aI.c 4 (dc aO) rfl)).g (LN h23))
  obtain⟨h24,h⟩|⟨h24,h⟩:=aE h
  ·cases h;exact(bO.b h24).ret hΓ
  ·exact((bO.b h24).a [.cn [0,1,5] []]).ct hΓ aV (iS aO hm1) (ih1 (i1+1) (iI) (dn aO) h)
theorem zB{aA:List aI}{aM:Int}{r:Int}(h:tH aA aM=some r):Good Tryz.prog 33 [D.sl ((aA).map aI.c),D.int .i64 (aM)] (D.int .i64 (r)):=by
 refine gd Tryz.func33 [[none]] 27 fun hr Γ hΓ=>?_
 rw[tH]at h
 obtain⟨h1,h⟩|⟨h1,h⟩:=aE h
 ·cases h;exact(aK.b h1).ret hΓ
 ·refine((aK.b h1).a [.cn [0,1,5] []]).lp hΓ (LO hΓ (fun lB h=>?_) (by have:=(bR.sl (hr _ (List.mem_of_getElem? (i:=0) rfl))).1;simpa using this) (aA) 0 (IntKind.i64.wrap ((aM)-((((aA).map aI.c).length:Int)))) rfl h)
  have h:=aC h;subst h;exact aK.ret hΓ
def uQ(aA:List Int)(aM:Int):Option Int:=(bif decide ((IntKind.i64.wrap ((aM)-((((aA).map iL).length:Int))):Int)<(0))then(some (-1))else(some (IntKind.i64.wrap ((aM)-((((aA).map iL).length:Int))))))
theorem LP{aA:List Int}{aM:Int}{r:Int}(h:uQ aA aM=some r):Good Tryz.prog 46 [D.sl ((aA).map iL),D.int .i64 (aM)] (D.int .i64 (r)):=by
 refine gd Tryz.func46 [[none]] 12 fun hr Γ hΓ=>?_
 rw[uQ]at h
 obtain⟨h1,h⟩|⟨h1,h⟩:=aE h
 ·cases h;exact(aK.b h1).ret hΓ
 ·cases h;exact(aK.b h1).ret hΓ
def s8(aA:aD)(aM:Int):Option Int:=(bif decide ((IntKind.i64.wrap ((aM)-(((aA.rel).length:Int))):Int)<(0))then(some (-1))else((n9 (aA.args) (IntKind.i64.wrap ((aM)-(((aA.rel).length:Int))))).bind fun y2=>(bif decide ((y2:Int)<(0))then(some (-1))else(some (y2)))))
theorem LQ{aA:aD}{aM:Int}{r:Int}(h:s8 aA aM=some r):Good Tryz.prog 22 [D.agg (aD.c aA),D.int .i64 (aM)] (D.int .i64 (r)):=by
 refine gd Tryz.func22 [[none]] 19 fun hr Γ hΓ=>?_
 rw[s8]at h
 obtain⟨h1,h⟩|⟨h1,h⟩:=aE h
 ·cases h;exact(aK.b h1).ret hΓ
 ·obtain⟨y2,h3,h⟩:=aB h
  have jO:=((aK.b h1).g (wQ h3))
  obtain⟨h4,h⟩|⟨h4,h⟩:=aE h
  ·cases h;exact(jO.b h4).ret hΓ
  ·have h:=aC h;subst h;exact(jO.b h4).ret hΓ
def lI(aA:List aD)(k1:Int→Option Int):List aD→Nat→Int→Option Int
 | [],i1,b9=>(k1 (b9))
 |aS::aX,i1,b9=>((s8 (aS) (b9)).bind fun iI=>(bif decide ((iI:Int)<(0))then(some (-1))else(lI aA k1 aX (i1+1) (iI))))
def nP(aA:List aD)(aM:Int):Option Int:=(bif decide ((IntKind.i64.wrap ((aM)-((((aA).map aD.c).length:Int))):Int)<(0))then(some (-1))else(lI aA (fun(lB:Int)=>(some (lB))) (aA) 0 (IntKind.i64.wrap ((aM)-((((aA).map aD.c).length:Int))))))
def OJ(aA:List aD)(b9:Int)(bB:Int):St:=⟨[(0,D.sl ((aA).map aD.c)),(1,D.int .i64 (b9)),(5,D.int .i64 (bB))],[]⟩
theorem LR(hΓ:Γ.nt=27){aA:List aD}{r:Int}{k1:Int→Option Int}(bE:∀(lB:Int),k1 lB=some r→Ax Γ N Tryz.f12 (.q [[none]] (D.int .i64 (r))) [1,1,1,1] ⟨[(1,D.int .i64 (lB))],[]⟩)(hm1:(aA).length≤maxLen):∀(rest:List aD) (i1:Nat) (b9:Int),(aA).drop i1=rest→lI aA k1 rest i1 b9=some r→Ar Γ N Tryz.f12 (.q [[none]] (D.int .i64 (r))) [1,1,1,0,1,0] (rest.length+1) (OJ aA b9 ((i1:Int))):=by
 intro rest
 induction rest with
 |nil=>
  intro i1 b9 aO h
  rw[lI]at h
  refine aJ fun N1 aY aV=>?_
  exact((aK.ge aD.c aO).a [.hl 0 [1] []]).ex hΓ aY (bE (b9) h)
 |cons aS aX ih1=>
  intro i1 b9 aO h
  rw[lI]at h
  refine aJ fun N1 aY aV=>?_
  obtain⟨iI,h23,h⟩:=aB h
  have bO:=(((aK.lt aD.c aO).l (aQ aD.c 2 (dc aO) rfl)).g (LQ h23))
  obtain⟨h24,h⟩|⟨h24,h⟩:=aE h
  ·cases h;exact(bO.b h24).ret hΓ
  ·exact((bO.b h24).a [.cn [0,1,5] []]).ct hΓ aV (iS aO hm1) (ih1 (i1+1) (iI) (dn aO) h)
theorem pH{aA:List aD}{aM:Int}{r:Int}(h:nP aA aM=some r):Good Tryz.prog 12 [D.sl ((aA).map aD.c),D.int .i64 (aM)] (D.int .i64 (r)):=by
 refine gd Tryz.func12 [[none]] 27 fun hr Γ hΓ=>?_
 rw[nP]at h
 obtain⟨h1,h⟩|⟨h1,h⟩:=aE h
 ·cases h;exact(aK.b h1).ret hΓ
 ·refine((aK.b h1).a [.cn [0,1,5] []]).lp hΓ (LR hΓ (fun lB h=>?_) (by have:=(bR.sl (hr _ (List.mem_of_getElem? (i:=0) rfl))).1;simpa using this) (aA) 0 (IntKind.i64.wrap ((aM)-((((aA).map aD.c).length:Int)))) rfl h)
  have h:=aC h;subst h;exact aK.ret hΓ
def pR(aA:aN)(aM:Int):Option Int:=((jY (aA.shape) (aM)).bind fun y1=>(bif decide ((y1:Int)<(0))then(some (-1))else((nP (aA.facts) (y1)).bind fun y4=>(bif decide ((y4:Int)<(0))then(some (-1))else(some (y4))))))
theorem IX{aA:aN}{aM:Int}{r:Int}(h:pR aA aM=some r):Good Tryz.prog 100 [D.agg (aN.c aA),D.int .i64 (aM)] (D.int .i64 (r)):=by
 refine gd Tryz.func100 [[none]] 18 fun hr Γ hΓ=>?_
 rw[pR]at h
 obtain⟨y1,h2,h⟩:=aB h
 obtain⟨h3,h⟩|⟨h3,h⟩:=aE h
 ·cases h;exact((aK.g (fW h2)).b h3).ret hΓ
 ·obtain⟨y4,h5,h⟩:=aB h
  have jO:=(((aK.g (fW h2)).b h3).g (pH h5))
  obtain⟨h6,h⟩|⟨h6,h⟩:=aE h
  ·cases h;exact(jO.b h6).ret hΓ
  ·have h:=aC h;subst h;exact(jO.b h6).ret hΓ
def jZ(aA:List aN)(k1:Int→Option Int):List aN→Nat→Int→Option Int
 | [],i1,b9=>(k1 (b9))
 |aS::aX,i1,b9=>((pR (aS) (b9)).bind fun iI=>(bif decide ((iI:Int)<(0))then(some (-1))else(jZ aA k1 aX (i1+1) (iI))))
def rF(aA:List aN)(aM:Int):Option Int:=(bif decide ((IntKind.i64.wrap ((aM)-((((aA).map aN.c).length:Int))):Int)<(0))then(some (-1))else(jZ aA (fun(lB:Int)=>(some (lB))) (aA) 0 (IntKind.i64.wrap ((aM)-((((aA).map aN.c).length:Int))))))
def LS(aA:List aN)(b9:Int)(bB:Int):St:=⟨[(0,D.sl ((aA).map aN.c)),(1,D.int .i64 (b9)),(5,D.int .i64 (bB))],[]⟩
theorem IY(hΓ:Γ.nt=27){aA:List aN}{r:Int}{k1:Int→Option Int}(bE:∀(lB:Int),k1 lB=some r→Ax Γ N Tryz.f47 (.q [[none]] (D.int .i64 (r))) [1,1,1,1] ⟨[(1,D.int .i64 (lB))],[]⟩)(hm1:(aA).length≤maxLen):∀(rest:List aN) (i1:Nat) (b9:Int),(aA).drop i1=rest→jZ aA k1 rest i1 b9=some r→Ar Γ N Tryz.f47 (.q [[none]] (D.int .i64 (r))) [1,1,1,0,1,0] (rest.length+1) (LS aA b9 ((i1:Int))):=by
 intro rest
 induction rest with
 |nil=>
  intro i1 b9 aO h
  rw[jZ]at h
  refine aJ fun N1 aY aV=>?_
  exact((aK.ge aN.c aO).a [.hl 0 [1] []]).ex hΓ aY (bE (b9) h)
 |cons aS aX ih1=>
  intro i1 b9 aO h
  rw[jZ]at h
  refine aJ fun N1 aY aV=>?_
  obtain⟨iI,h23,h⟩:=aB h
  have bO:=(((aK.lt aN.c aO).l (aQ aN.c 3 (dc aO) rfl)).g (IX h23))
  obtain⟨h24,h⟩|⟨h24,h⟩:=aE h
  ·cases h;exact(bO.b h24).ret hΓ
  ·exact((bO.b h24).a [.cn [0,1,5] []]).ct hΓ aV (iS aO hm1) (ih1 (i1+1) (iI) (dn aO) h)
theorem G3{aA:List aN}{aM:Int}{r:Int}(h:rF aA aM=some r):Good Tryz.prog 47 [D.sl ((aA).map aN.c),D.int .i64 (aM)] (D.int .i64 (r)):=by
 refine gd Tryz.func47 [[none]] 27 fun hr Γ hΓ=>?_
 rw[rF]at h
 obtain⟨h1,h⟩|⟨h1,h⟩:=aE h
 ·cases h;exact(aK.b h1).ret hΓ
 ·refine((aK.b h1).a [.cn [0,1,5] []]).lp hΓ (IY hΓ (fun lB h=>?_) (by have:=(bR.sl (hr _ (List.mem_of_getElem? (i:=0) rfl))).1;simpa using this) (aA) 0 (IntKind.i64.wrap ((aM)-((((aA).map aN.c).length:Int)))) rfl h)
  have h:=aC h;subst h;exact aK.ret hΓ
def s9(aA:aH)(aM:Int):Option Int:=(bif decide ((IntKind.i64.wrap ((aM)-(((aA.var).length:Int))):Int)<(0))then(some (-1))else(bif decide ((IntKind.i64.wrap ((IntKind.i64.wrap ((aM)-(((aA.var).length:Int))))-(((aA.value).length:Int))):Int)<(0))then(some (-1))else(some (IntKind.i64.wrap ((IntKind.i64.wrap ((aM)-(((aA.var).length:Int))))-(((aA.value).length:Int)))))))
theorem LU{aA:aH}{aM:Int}{r:Int}(h:s9 aA aM=some r):Good Tryz.prog 283 [D.agg (aH.c aA),D.int .i64 (aM)] (D.int .i64 (r)):=by
 refine gd Tryz.func283 [[none]] 20 fun hr Γ hΓ=>?_
 rw[s9]at h
 obtain⟨h1,h⟩|⟨h1,h⟩:=aE h
 ·cases h;exact(aK.b h1).ret hΓ
 ·obtain⟨h2,h⟩|⟨h2,h⟩:=aE h
  ·cases h;exact((aK.b h1).b h2).ret hΓ
  ·cases h;exact((aK.b h1).b h2).ret hΓ
def lJ(aA:List aH)(k1:Int→Option Int):List aH→Nat→Int→Option Int
 | [],i1,b9=>(k1 (b9))
 |aS::aX,i1,b9=>((s9 (aS) (b9)).bind fun iI=>(bif decide ((iI:Int)<(0))then(some (-1))else(lJ aA k1 aX (i1+1) (iI))))
def tI(aA:List aH)(aM:Int):Option Int:=(bif decide ((IntKind.i64.wrap ((aM)-((((aA).map aH.c).length:Int))):Int)<(0))then(some (-1))else(lJ aA (fun(lB:Int)=>(some (lB))) (aA) 0 (IntKind.i64.wrap ((aM)-((((aA).map aH.c).length:Int))))))
def OK(aA:List aH)(b9:Int)(bB:Int):St:=⟨[(0,D.sl ((aA).map aH.c)),(1,D.int .i64 (b9)),(5,D.int .i64 (bB))],[]⟩
theorem LV(hΓ:Γ.nt=27){aA:List aH}{r:Int}{k1:Int→Option Int}(bE:∀(lB:Int),k1 lB=some r→Ax Γ N Tryz.f272 (.q [[none]] (D.int .i64 (r))) [1,1,1,1] ⟨[(1,D.int .i64 (lB))],[]⟩)(hm1:(aA).length≤maxLen):∀(rest:List aH) (i1:Nat) (b9:Int),(aA).drop i1=rest→lJ aA k1 rest i1 b9=some r→Ar Γ N Tryz.f272 (.q [[none]] (D.int .i64 (r))) [1,1,1,0,1,0] (rest.length+1) (OK aA b9 ((i1:Int))):=by
 intro rest
 induction rest with
 |nil=>
  intro i1 b9 aO h
  rw[lJ]at h
  refine aJ fun N1 aY aV=>?_
  exact((aK.ge aH.c aO).a [.hl 0 [1] []]).ex hΓ aY (bE (b9) h)
 |cons aS aX ih1=>
  intro i1 b9 aO h
  rw[lJ]at h
  refine aJ fun N1 aY aV=>?_
  obtain⟨iI,h23,h⟩:=aB h
  have bO:=(((aK.lt aH.c aO).l (aQ aH.c 2 (dc aO) rfl)).g (LU h23))
  obtain⟨h24,h⟩|⟨h24,h⟩:=aE h
  ·cases h;exact(bO.b h24).ret hΓ
  ·exact((bO.b h24).a [.cn [0,1,5] []]).ct hΓ aV (iS aO hm1) (ih1 (i1+1) (iI) (dn aO) h)
theorem IZ{aA:List aH}{aM:Int}{r:Int}(h:tI aA aM=some r):Good Tryz.prog 272 [D.sl ((aA).map aH.c),D.int .i64 (aM)] (D.int .i64 (r)):=by
 refine gd Tryz.func272 [[none]] 27 fun hr Γ hΓ=>?_
 rw[tI]at h
 obtain⟨h1,h⟩|⟨h1,h⟩:=aE h
 ·cases h;exact(aK.b h1).ret hΓ
 ·refine((aK.b h1).a [.cn [0,1,5] []]).lp hΓ (LV hΓ (fun lB h=>?_) (by have:=(bR.sl (hr _ (List.mem_of_getElem? (i:=0) rfl))).1;simpa using this) (aA) 0 (IntKind.i64.wrap ((aM)-((((aA).map aH.c).length:Int)))) rfl h)
  have h:=aC h;subst h;exact aK.ret hΓ
def pS(aA:aL)(aM:Int):Option Int:=((nP (aA.facts) (aM)).bind fun y1=>(bif decide ((y1:Int)<(0))then(some (-1))else((tI (aA.bind) (y1)).bind fun y4=>(bif decide ((y4:Int)<(0))then(some (-1))else(some (y4))))))
theorem J0{aA:aL}{aM:Int}{r:Int}(h:pS aA aM=some r):Good Tryz.prog 241 [D.agg (aL.c aA),D.int .i64 (aM)] (D.int .i64 (r)):=by
 refine gd Tryz.func241 [[none]] 18 fun hr Γ hΓ=>?_
 rw[pS]at h
 obtain⟨y1,h2,h⟩:=aB h
 obtain⟨h3,h⟩|⟨h3,h⟩:=aE h
 ·cases h;exact((aK.g (pH h2)).b h3).ret hΓ
 ·obtain⟨y4,h5,h⟩:=aB h
  have jO:=(((aK.g (pH h2)).b h3).g (IZ h5))
  obtain⟨h6,h⟩|⟨h6,h⟩:=aE h
  ·cases h;exact(jO.b h6).ret hΓ
  ·have h:=aC h;subst h;exact(jO.b h6).ret hΓ
def k6(aA:List aL)(k1:Int→Option Int):List aL→Nat→Int→Option Int
 | [],i1,b9=>(k1 (b9))
 |aS::aX,i1,b9=>((pS (aS) (b9)).bind fun iI=>(bif decide ((iI:Int)<(0))then(some (-1))else(k6 aA k1 aX (i1+1) (iI))))
def rG(aA:List aL)(aM:Int):Option Int:=(bif decide ((IntKind.i64.wrap ((aM)-((((aA).map aL.c).length:Int))):Int)<(0))then(some (-1))else(k6 aA (fun(lB:Int)=>(some (lB))) (aA) 0 (IntKind.i64.wrap ((aM)-((((aA).map aL.c).length:Int))))))
def LW(aA:List aL)(b9:Int)(bB:Int):St:=⟨[(0,D.sl ((aA).map aL.c)),(1,D.int .i64 (b9)),(5,D.int .i64 (bB))],[]⟩
theorem J1(hΓ:Γ.nt=27){aA:List aL}{r:Int}{k1:Int→Option Int}(bE:∀(lB:Int),k1 lB=some r→Ax Γ N Tryz.f174 (.q [[none]] (D.int .i64 (r))) [1,1,1,1] ⟨[(1,D.int .i64 (lB))],[]⟩)(hm1:(aA).length≤maxLen):∀(rest:List aL) (i1:Nat) (b9:Int),(aA).drop i1=rest→k6 aA k1 rest i1 b9=some r→Ar Γ N Tryz.f174 (.q [[none]] (D.int .i64 (r))) [1,1,1,0,1,0] (rest.length+1) (LW aA b9 ((i1:Int))):=by
 intro rest
 induction rest with
 |nil=>
  intro i1 b9 aO h
  rw[k6]at h
  refine aJ fun N1 aY aV=>?_
  exact((aK.ge aL.c aO).a [.hl 0 [1] []]).ex hΓ aY (bE (b9) h)
 |cons aS aX ih1=>
  intro i1 b9 aO h
  rw[k6]at h
  refine aJ fun N1 aY aV=>?_
  obtain⟨iI,h23,h⟩:=aB h
  have bO:=(((aK.lt aL.c aO).l (aQ aL.c 2 (dc aO) rfl)).g (J0 h23))
  obtain⟨h24,h⟩|⟨h24,h⟩:=aE h
  ·cases h;exact(bO.b h24).ret hΓ
  ·exact((bO.b h24).a [.cn [0,1,5] []]).ct hΓ aV (iS aO hm1) (ih1 (i1+1) (iI) (dn aO) h)
theorem G4{aA:List aL}{aM:Int}{r:Int}(h:rG aA aM=some r):Good Tryz.prog 174 [D.sl ((aA).map aL.c),D.int .i64 (aM)] (D.int .i64 (r)):=by
 refine gd Tryz.func174 [[none]] 27 fun hr Γ hΓ=>?_
 rw[rG]at h
 obtain⟨h1,h⟩|⟨h1,h⟩:=aE h
 ·cases h;exact(aK.b h1).ret hΓ
 ·refine((aK.b h1).a [.cn [0,1,5] []]).lp hΓ (J1 hΓ (fun lB h=>?_) (by have:=(bR.sl (hr _ (List.mem_of_getElem? (i:=0) rfl))).1;simpa using this) (aA) 0 (IntKind.i64.wrap ((aM)-((((aA).map aL.c).length:Int)))) rfl h)
  have h:=aC h;subst h;exact aK.ret hΓ
def sA(aA:Node)(aM:Int):Option Int:=((oV (aA.cond) (aM)).bind fun y1=>(bif decide ((y1:Int)<(0))then(some (-1))else((rG (aA.tokens) (y1)).bind fun y4=>(bif decide ((y4:Int)<(0))then(some (-1))else(some (y4))))))
theorem LX{aA:Node}{aM:Int}{r:Int}(h:sA aA aM=some r):Good Tryz.prog 101 [D.agg (Node.c aA),D.int .i64 (aM)] (D.int .i64 (r)):=by
 refine gd Tryz.func101 [[none]] 18 fun hr Γ hΓ=>?_
 rw[sA]at h
 obtain⟨y1,h2,h⟩:=aB h
 obtain⟨h3,h⟩|⟨h3,h⟩:=aE h
 ·cases h;exact((aK.g (vH h2)).b h3).ret hΓ
 ·obtain⟨y4,h5,h⟩:=aB h
  have jO:=(((aK.g (vH h2)).b h3).g (G4 h5))
  obtain⟨h6,h⟩|⟨h6,h⟩:=aE h
  ·cases h;exact(jO.b h6).ret hΓ
  ·have h:=aC h;subst h;exact(jO.b h6).ret hΓ
def lK(aA:List Node)(k1:Int→Option Int):List Node→Nat→Int→Option Int
 | [],i1,b9=>(k1 (b9))
 |aS::aX,i1,b9=>((sA (aS) (b9)).bind fun iI=>(bif decide ((iI:Int)<(0))then(some (-1))else(lK aA k1 aX (i1+1) (iI))))
def tJ(aA:List Node)(aM:Int):Option Int:=(bif decide ((IntKind.i64.wrap ((aM)-((((aA).map Node.c).length:Int))):Int)<(0))then(some (-1))else(lK aA (fun(lB:Int)=>(some (lB))) (aA) 0 (IntKind.i64.wrap ((aM)-((((aA).map Node.c).length:Int))))))
def OL(aA:List Node)(b9:Int)(bB:Int):St:=⟨[(0,D.sl ((aA).map Node.c)),(1,D.int .i64 (b9)),(5,D.int .i64 (bB))],[]⟩
theorem LY(hΓ:Γ.nt=27){aA:List Node}{r:Int}{k1:Int→Option Int}(bE:∀(lB:Int),k1 lB=some r→Ax Γ N Tryz.f48 (.q [[none]] (D.int .i64 (r))) [1,1,1,1] ⟨[(1,D.int .i64 (lB))],[]⟩)(hm1:(aA).length≤maxLen):∀(rest:List Node) (i1:Nat) (b9:Int),(aA).drop i1=rest→lK aA k1 rest i1 b9=some r→Ar Γ N Tryz.f48 (.q [[none]] (D.int .i64 (r))) [1,1,1,0,1,0] (rest.length+1) (OL aA b9 ((i1:Int))):=by
 intro rest
 induction rest with
 |nil=>
  intro i1 b9 aO h
  rw[lK]at h
  refine aJ fun N1 aY aV=>?_
  exact((aK.ge Node.c aO).a [.hl 0 [1] []]).ex hΓ aY (bE (b9) h)
 |cons aS aX ih1=>
  intro i1 b9 aO h
  rw[lK]at h
  refine aJ fun N1 aY aV=>?_
  obtain⟨iI,h23,h⟩:=aB h
  have bO:=(((aK.lt Node.c aO).l (aQ Node.c 8 (dc aO) rfl)).g (LX h23))
  obtain⟨h24,h⟩|⟨h24,h⟩:=aE h
  ·cases h;exact(bO.b h24).ret hΓ
  ·exact((bO.b h24).a [.cn [0,1,5] []]).ct hΓ aV (iS aO hm1) (ih1 (i1+1) (iI) (dn aO) h)
theorem J2{aA:List Node}{aM:Int}{r:Int}(h:tJ aA aM=some r):Good Tryz.prog 48 [D.sl ((aA).map Node.c),D.int .i64 (aM)] (D.int .i64 (r)):=by
 refine gd Tryz.func48 [[none]] 27 fun hr Γ hΓ=>?_
 rw[tJ]at h
 obtain⟨h1,h⟩|⟨h1,h⟩:=aE h
 ·cases h;exact(aK.b h1).ret hΓ
 ·refine((aK.b h1).a [.cn [0,1,5] []]).lp hΓ (LY hΓ (fun lB h=>?_) (by have:=(bR.sl (hr _ (List.mem_of_getElem? (i:=0) rfl))).1;simpa using this) (aA) 0 (IntKind.i64.wrap ((aM)-((((aA).map Node.c).length:Int)))) rfl h)
  have h:=aC h;subst h;exact aK.ret hΓ
def pT(aA:aG)(aM:Int):Option Int:=((tH (aA.rules) (aM)).bind fun y1=>(bif decide ((y1:Int)<(0))then(some (-1))else((uQ (aA.ends) (y1)).bind fun y4=>(bif decide ((y4:Int)<(0))then(some (-1))else((rF (aA.aR) (y4)).bind fun y7=>(bif decide ((y7:Int)<(0))then(some (-1))else((tJ (aA.nodes) (y7)).bind fun QZ=>(bif decide ((QZ:Int)<(0))then(some (-1))else((nP (aA.facts) (QZ)).bind fun sZ=>(bif decide ((sZ:Int)<(0))then(some (-1))else(some (sZ))))))))))))
theorem wR{aA:aG}{aM:Int}{r:Int}(h:pT aA aM=some r):Good Tryz.prog 11 [D.agg (aG.c aA),D.int .i64 (aM)] (D.int .i64 (r)):=by
 refine gd Tryz.func11 [[none]] 36 fun hr Γ hΓ=>?_
 rw[pT]at h
 obtain⟨y1,h2,h⟩:=aB h
 obtain⟨h3,h⟩|⟨h3,h⟩:=aE h
 ·cases h;exact((aK.g (zB h2)).b h3).ret hΓ
 ·obtain⟨y4,h5,h⟩:=aB h
  have jO:=(((aK.g (zB h2)).b h3).g (LP h5))
  obtain⟨h6,h⟩|⟨h6,h⟩:=aE h
  ·cases h;exact(jO.b h6).ret hΓ
  ·obtain⟨y7,h8,h⟩:=aB h
   have bO:=((jO.b h6).g (G3 h8))
   obtain⟨h9,h⟩|⟨h9,h⟩:=aE h
   ·cases h;exact(bO.b h9).ret hΓ
   ·obtain⟨QZ,h11,h⟩:=aB h
    have mG:=((bO.b h9).g (J2 h11))
    obtain⟨h12,h⟩|⟨h12,h⟩:=aE h
    ·cases h;exact(mG.b h12).ret hΓ
    ·obtain⟨sZ,h14,h⟩:=aB h
     have l8:=((mG.b h12).g (pH h14))
     obtain⟨h15,h⟩|⟨h15,h⟩:=aE h
     ·cases h;exact(l8.b h15).ret hΓ
     ·have h:=aC h;subst h;exact(l8.b h15).ret hΓ
end Go.Cx
namespace Go.Cx
open Go.RowKit Go.Proofs
set_option linter.unusedVariables false
set_option linter.unusedSimpArgs false
set_option maxRecDepth 100000
variable{Γ:uK}{N:Nat→St→Prop}
def fH(aA:List Bytes)(k1:List Bytes→Option (List Bytes)):List Bytes→Nat→List Bytes→Option (List Bytes)
 | [],i1,aP=>(k1 (aP))
 |aS::aX,i1,aP=>(bif decide (i1<((aP).map tx).length)then(((aP)[i1]?).bind fun x30=>(fH aA k1 aX (i1+1) ((aP).set i1 aS)))else none)
def nA(aA:List Bytes):Option (List Bytes):=(bif BK ((((aA).map tx).length:Int)) 16 then(fH aA (fun(aT:List Bytes)=>(some (aT))) (aA) 0 (List.replicate ((((aA).map tx).length:Int)).toNat ([]:Bytes)))else none)
def uE(aA:List Bytes)(W0:List (List D))(bB:Int):St:=⟨[(0,D.sl ((aA).map tx)),(3,D.acc 0),(4,D.int .i64 (bB))],[Ob.row .uq 9 1 (W0)]⟩
theorem G5(hΓ:Γ.nt=22){aA:List Bytes}{r:List Bytes}{k1:List Bytes→Option (List Bytes)}(bE:∀(aT:List Bytes),k1 aT=some r→Ax Γ N Tryz.f70 (.q [[some (9,1)]] (D.fr 9 1 ((r).map tx))) [1,1,1] ⟨[(3,D.acc 0)],[Ob.row .uq 9 1 ((aT).map tx)]⟩)(hm1:(aA).length≤maxLen):∀(rest:List Bytes) (i1:Nat) (aP:List Bytes),(aA).drop i1=rest→fH aA k1 rest i1 aP=some r→Ar Γ N Tryz.f70 (.q [[some (9,1)]] (D.fr 9 1 ((r).map tx))) [1,1,0,1,0] (rest.length+1) (uE aA ((aP).map tx) ((i1:Int))):=by
 intro rest
 induction rest with
 |nil=>
  intro i1 aP aO h
  rw[fH]at h
  refine aJ fun N1 aY aV=>?_
  exact((aK.ge tx aO).a [.hl 0 [3] [0]]).ex hΓ aY (bE (aP) h)
 |cons aS aX ih1=>
  intro i1 aP aO h
  rw[fH]at h
  refine aJ fun N1 aY aV=>?_
  obtain⟨h29,h⟩:=aU h
  obtain⟨x30,h31,h⟩:=aB h
  exact(((((aK.lt tx aO).l (aQ tx 1 (dc aO) rfl)).i (xB 1 h29)).w (show((aP).map tx)[i1]?=some [D.str (x30)]from cA tx h31)).a [.row [D.str (x30)],.cn [0,3,4] [0]]).cs hΓ aV (uE aA (((aP).map tx).set i1 [D.str (aS)]) (IntKind.i64.wrap (((i1:Int))+(1)))) (by first| (simp only[iS aO hm1,mA]<;>rfl)| (simp only[iS aO hm1,mA,aD.c,aH.c,aF.c,Action.c,aI.c,aL.c,bH.c,aN.c,Node.c,aG.c,bI.c]<;>rfl)) (ih1 (i1+1) ((aP).set i1 aS) (dn aO) h)
theorem wS{aA:List Bytes}{r:List Bytes}(h:nA aA=some r):Good Tryz.prog 70 [D.sl ((aA).map tx)] (D.fr 9 1 ((r).map tx)):=by
 refine gd Tryz.func70 [[some (9,1)]] 22 fun hr Γ hΓ=>?_
 rw[nA]at h
 obtain⟨h1,h⟩:=aU h
 refine((aK.w (uO h1)).a [.cn [0,3,4] [0]]).lps hΓ (uE aA (List.replicate ((((aA).map tx).length:Int)).toNat [D.str ([])]) 0) (by first| (simp only[mA]<;>rfl)| (simp only[mA,aD.c,aH.c,aF.c,Action.c,aI.c,aL.c,bH.c,aN.c,Node.c,aG.c,bI.c]<;>rfl)) (G5 hΓ (fun aT h=>?_) (by have:=(bR.sl (hr _ (List.mem_of_getElem? (i:=0) rfl))).1;simpa using this) (aA) 0 (List.replicate ((((aA).map tx).length:Int)).toNat ([]:Bytes)) rfl h)
 have h:=aC h;subst h;exact aK.ret hΓ
def k7(aA:aD):Option aD:=((nA (aA.args)).bind fun y1=>(some ((⟨aA.rel,y1⟩:aD))))
theorem sO{aA:aD}{r:aD}(h:k7 aA=some r):Good Tryz.prog 179 [D.agg (aD.c aA)] (D.agg [D.str (r.rel),D.fr 9 1 ((r.args).map tx)]):=by
 refine gd Tryz.func179 [[none,some (9,1)]] 12 fun hr Γ hΓ=>?_
 rw[k7]at h
 obtain⟨y1,h2,h⟩:=aB h
 cases h;exact(aK.g (wS h2)).ret hΓ
def oW(aA:aF):Option aF:=((k7 (aA.pat)).bind fun y1=>(some ((⟨aA.kind,y1,aA.left,aA.right⟩:aF))))
theorem AF{aA:aF}{r:aF}(h:oW aA=some r):Good Tryz.prog 180 [D.agg (aF.c aA)] (D.agg [D.int .i64 (r.kind),D.str (r.pat.rel),D.fr 9 1 ((r.pat.args).map tx),D.str (r.left),D.str (r.right)]):=by
 refine gd Tryz.func180 [[none,none,some (9,1),none,none]] 18 fun hr Γ hΓ=>?_
 rw[oW]at h
 obtain⟨y1,h2,h⟩:=aB h
 cases h;exact(aK.g (sO h2)).ret hΓ
def lM(aA:List aF)(k1:List aF→Option (List aF)):List aF→Nat→List aF→Option (List aF)
 | [],i1,aP=>(k1 (aP))
 |aS::aX,i1,aP=>((oW (aS)).bind fun tK=>(bif decide (i1<((aP).map aF.c).length)then(((aP)[i1]?).bind fun x44=>(lM aA k1 aX (i1+1) ((aP).set i1 tK)))else none))
def tL(aA:List aF):Option (List aF):=(bif BK ((((aA).map aF.c).length:Int)) 80 then(lM aA (fun(aT:List aF)=>(some (aT))) (aA) 0 (List.replicate ((((aA).map aF.c).length:Int)).toNat (⟨(0:Int),(⟨([]:Bytes),[]⟩:aD),([]:Bytes),([]:Bytes)⟩:aF)))else none)
def wB(aA:List aF)(W0:List (List D))(bB:Int):St:=⟨[(0,D.sl ((aA).map aF.c)),(3,D.acc 0),(4,D.int .i64 (bB))],[Ob.row .uq 115 5 (W0)]⟩
theorem LZ(hΓ:Γ.nt=23){aA:List aF}{r:List aF}{k1:List aF→Option (List aF)}(bE:∀(aT:List aF),k1 aT=some r→Ax Γ N Tryz.f140 (.q [[some (115,5)]] (D.fr 115 5 ((r).map aF.c))) [1,1,1] ⟨[(3,D.acc 0)],[Ob.row .uq 115 5 ((aT).map aF.c)]⟩)(hm1:(aA).length≤maxLen):∀(rest:List aF) (i1:Nat) (aP:List aF),(aA).drop i1=rest→lM aA k1 rest i1 aP=some r→Ar Γ N Tryz.f140 (.q [[some (115,5)]] (D.fr 115 5 ((r).map aF.c))) [1,1,0,1,0] (rest.length+1) (wB aA ((aP).map aF.c) ((i1:Int))):=by
 intro rest
 induction rest with
 |nil=>
  intro i1 aP aO h
  rw[lM]at h
  refine aJ fun N1 aY aV=>?_
  exact((aK.ge aF.c aO).a [.hl 0 [3] [0]]).ex hΓ aY (bE (aP) h)
 |cons aS aX ih1=>
  intro i1 aP aO h
  rw[lM]at h
  refine aJ fun N1 aY aV=>?_
  obtain⟨tK,h42,h⟩:=aB h
  obtain⟨h43,h⟩:=aU h
  obtain⟨x44,h45,h⟩:=aB h
  exact((((((aK.lt aF.c aO).l (aQ aF.c 5 (dc aO) rfl)).g (AF h42)).i (xB 5 h43)).w (show((aP).map aF.c)[i1]?=some [D.int .i64 (x44.kind),D.str (x44.pat.rel),D.sl ((x44.pat.args).map tx),D.str (x44.left),D.str (x44.right)]from cA aF.c h45)).a [.row [D.int .i64 (x44.kind),D.str (x44.pat.rel),D.sl ((x44.pat.args).map tx),D.str (x44.left),D.str (x44.right)],.cn [0,3,4] [0]]).cs hΓ aV (wB aA (((aP).map aF.c).set i1 [D.int .i64 (tK.kind),D.str (tK.pat.rel),D.sl ((tK.pat.args).map tx),D.str (tK.left),D.str (tK.right)]) (IntKind.i64.wrap (((i1:Int))+(1)))) (by first| (simp only[iS aO hm1,mA]<;>rfl)| (simp only[iS aO hm1,mA,aD.c,aH.c,aF.c,Action.c,aI.c,aL.c,bH.c,aN.c,Node.c,aG.c,bI.c]<;>rfl)) (ih1 (i1+1) ((aP).set i1 tK) (dn aO) h)
theorem J3{aA:List aF}{r:List aF}(h:tL aA=some r):Good Tryz.prog 140 [D.sl ((aA).map aF.c)] (D.fr 115 5 ((r).map aF.c)):=by
 refine gd Tryz.func140 [[some (115,5)]] 23 fun hr Γ hΓ=>?_
 rw[tL]at h
 obtain⟨h1,h⟩:=aU h
 refine((aK.w (uO h1)).a [.cn [0,3,4] [0]]).lps hΓ (wB aA (List.replicate ((((aA).map aF.c).length:Int)).toNat [D.int .i64 (0),D.str ([]),D.sl ([]),D.str ([]),D.str ([])]) 0) (by first| (simp only[mA]<;>rfl)| (simp only[mA,aD.c,aH.c,aF.c,Action.c,aI.c,aL.c,bH.c,aN.c,Node.c,aG.c,bI.c]<;>rfl)) (LZ hΓ (fun aT h=>?_) (by have:=(bR.sl (hr _ (List.mem_of_getElem? (i:=0) rfl))).1;simpa using this) (aA) 0 (List.replicate ((((aA).map aF.c).length:Int)).toNat (⟨(0:Int),(⟨([]:Bytes),[]⟩:aD),([]:Bytes),([]:Bytes)⟩:aF)) rfl h)
 have h:=aC h;subst h;exact aK.ret hΓ
def o6(aA:Action):Option Action:=((k7 (aA.pat)).bind fun y1=>(some ((⟨aA.kind,y1⟩:Action))))
theorem G6{aA:Action}{r:Action}(h:o6 aA=some r):Good Tryz.prog 210 [D.agg (Action.c aA)] (D.agg [D.int .i64 (r.kind),D.str (r.pat.rel),D.fr 9 1 ((r.pat.args).map tx)]):=by
 refine gd Tryz.func210 [[none,none,some (9,1)]] 12 fun hr Γ hΓ=>?_
 rw[o6]at h
 obtain⟨y1,h2,h⟩:=aB h
 cases h;exact(aK.g (sO h2)).ret hΓ
def j8(aA:List Action)(k1:List Action→Option (List Action)):List Action→Nat→List Action→Option (List Action)
 | [],i1,aP=>(k1 (aP))
 |aS::aX,i1,aP=>((o6 (aS)).bind fun tK=>(bif decide (i1<((aP).map Action.c).length)then(((aP)[i1]?).bind fun x44=>(j8 aA k1 aX (i1+1) ((aP).set i1 tK)))else none))
def pU(aA:List Action):Option (List Action):=(bif BK ((((aA).map Action.c).length:Int)) 48 then(j8 aA (fun(aT:List Action)=>(some (aT))) (aA) 0 (List.replicate ((((aA).map Action.c).length:Int)).toNat (⟨(0:Int),(⟨([]:Bytes),[]⟩:aD)⟩:Action)))else none)
def uF(aA:List Action)(W0:List (List D))(bB:Int):St:=⟨[(0,D.sl ((aA).map Action.c)),(3,D.acc 0),(4,D.int .i64 (bB))],[Ob.row .uq 199 3 (W0)]⟩
theorem G7(hΓ:Γ.nt=23){aA:List Action}{r:List Action}{k1:List Action→Option (List Action)}(bE:∀(aT:List Action),k1 aT=some r→Ax Γ N Tryz.f141 (.q [[some (199,3)]] (D.fr 199 3 ((r).map Action.c))) [1,1,1] ⟨[(3,D.acc 0)],[Ob.row .uq 199 3 ((aT).map Action.c)]⟩)(hm1:(aA).length≤maxLen):∀(rest:List Action) (i1:Nat) (aP:List Action),(aA).drop i1=rest→j8 aA k1 rest i1 aP=some r→Ar Γ N Tryz.f141 (.q [[some (199,3)]] (D.fr 199 3 ((r).map Action.c))) [1,1,0,1,0] (rest.length+1) (uF aA ((aP).map Action.c) ((i1:Int))):=by
 intro rest
 induction rest with
 |nil=>
  intro i1 aP aO h
  rw[j8]at h
  refine aJ fun N1 aY aV=>?_
  exact((aK.ge Action.c aO).a [.hl 0 [3] [0]]).ex hΓ aY (bE (aP) h)
 |cons aS aX ih1=>
  intro i1 aP aO h
  rw[j8]at h
  refine aJ fun N1 aY aV=>?_
  obtain⟨tK,h42,h⟩:=aB h
  obtain⟨h43,h⟩:=aU h
  obtain⟨x44,h45,h⟩:=aB h
  exact((((((aK.lt Action.c aO).l (aQ Action.c 3 (dc aO) rfl)).g (G6 h42)).i (xB 3 h43)).w (show((aP).map Action.c)[i1]?=some [D.int .i64 (x44.kind),D.str (x44.pat.rel),D.sl ((x44.pat.args).map tx)]from cA Action.c h45)).a [.row [D.int .i64 (x44.kind),D.str (x44.pat.rel),D.sl ((x44.pat.args).map tx)],.cn [0,3,4] [0]]).cs hΓ aV (uF aA (((aP).map Action.c).set i1 [D.int .i64 (tK.kind),D.str (tK.pat.rel),D.sl ((tK.pat.args).map tx)]) (IntKind.i64.wrap (((i1:Int))+(1)))) (by first| (simp only[iS aO hm1,mA]<;>rfl)| (simp only[iS aO hm1,mA,aD.c,aH.c,aF.c,Action.c,aI.c,aL.c,bH.c,aN.c,Node.c,aG.c,bI.c]<;>rfl)) (ih1 (i1+1) ((aP).set i1 tK) (dn aO) h)
theorem EG{aA:List Action}{r:List Action}(h:pU aA=some r):Good Tryz.prog 141 [D.sl ((aA).map Action.c)] (D.fr 199 3 ((r).map Action.c)):=by
 refine gd Tryz.func141 [[some (199,3)]] 23 fun hr Γ hΓ=>?_
 rw[pU]at h
 obtain⟨h1,h⟩:=aU h
 refine((aK.w (uO h1)).a [.cn [0,3,4] [0]]).lps hΓ (uF aA (List.replicate ((((aA).map Action.c).length:Int)).toNat [D.int .i64 (0),D.str ([]),D.sl ([])]) 0) (by first| (simp only[mA]<;>rfl)| (simp only[mA,aD.c,aH.c,aF.c,Action.c,aI.c,aL.c,bH.c,aN.c,Node.c,aG.c,bI.c]<;>rfl)) (G7 hΓ (fun aT h=>?_) (by have:=(bR.sl (hr _ (List.mem_of_getElem? (i:=0) rfl))).1;simpa using this) (aA) 0 (List.replicate ((((aA).map Action.c).length:Int)).toNat (⟨(0:Int),(⟨([]:Bytes),[]⟩:aD)⟩:Action)) rfl h)
 have h:=aC h;subst h;exact aK.ret hΓ
def sB(aA:aI):Option aI:=((tL (aA.conds)).bind fun y1=>((pU (aA.bC)).bind fun y3=>(some ((⟨aA.name,aA.prio,y1,y3⟩:aI)))))
theorem M0{aA:aI}{r:aI}(h:sB aA=some r):Good Tryz.prog 81 [D.agg (aI.c aA)] (D.agg [D.str (r.name),D.int .i64 (r.prio),D.fr 115 5 ((r.conds).map aF.c),D.fr 199 3 ((r.bC).map Action.c)]):=by
 refine gd Tryz.func81 [[none,none,some (115,5),some (199,3)]] 19 fun hr Γ hΓ=>?_
 rw[sB]at h
 obtain⟨y1,h2,h⟩:=aB h
 obtain⟨y3,h4,h⟩:=aB h
 cases h;exact((aK.g (J3 h2)).g (EG h4)).ret hΓ
def lN(aA:List aI)(k1:List aI→Option (List aI)):List aI→Nat→List aI→Option (List aI)
 | [],i1,aP=>(k1 (aP))
 |aS::aX,i1,aP=>((sB (aS)).bind fun tK=>(bif decide (i1<((aP).map aI.c).length)then(((aP)[i1]?).bind fun x44=>(lN aA k1 aX (i1+1) ((aP).set i1 tK)))else none))
def tM(aA:List aI):Option (List aI):=(bif BK ((((aA).map aI.c).length:Int)) 72 then(lN aA (fun(aT:List aI)=>(some (aT))) (aA) 0 (List.replicate ((((aA).map aI.c).length:Int)).toNat (⟨([]:Bytes),(0:Int),[],[]⟩:aI)))else none)
def wC(aA:List aI)(W0:List (List D))(bB:Int):St:=⟨[(0,D.sl ((aA).map aI.c)),(3,D.acc 0),(4,D.int .i64 (bB))],[Ob.row .uq 105 4 (W0)]⟩
theorem M1(hΓ:Γ.nt=23){aA:List aI}{r:List aI}{k1:List aI→Option (List aI)}(bE:∀(aT:List aI),k1 aT=some r→Ax Γ N Tryz.f35 (.q [[some (105,4)]] (D.fr 105 4 ((r).map aI.c))) [1,1,1] ⟨[(3,D.acc 0)],[Ob.row .uq 105 4 ((aT).map aI.c)]⟩)(hm1:(aA).length≤maxLen):∀(rest:List aI) (i1:Nat) (aP:List aI),(aA).drop i1=rest→lN aA k1 rest i1 aP=some r→Ar Γ N Tryz.f35 (.q [[some (105,4)]] (D.fr 105 4 ((r).map aI.c))) [1,1,0,1,0] (rest.length+1) (wC aA ((aP).map aI.c) ((i1:Int))):=by
 intro rest
 induction rest with
 |nil=>
  intro i1 aP aO h
  rw[lN]at h
  refine aJ fun N1 aY aV=>?_
  exact((aK.ge aI.c aO).a [.hl 0 [3] [0]]).ex hΓ aY (bE (aP) h)
 |cons aS aX ih1=>
  intro i1 aP aO h
  rw[lN]at h
  refine aJ fun N1 aY aV=>?_
  obtain⟨tK,h42,h⟩:=aB h
  obtain⟨h43,h⟩:=aU h
  obtain⟨x44,h45,h⟩:=aB h
  exact((((((aK.lt aI.c aO).l (aQ aI.c 4 (dc aO) rfl)).g (M0 h42)).i (xB 4 h43)).w (show((aP).map aI.c)[i1]?=some [D.str (x44.name),D.int .i64 (x44.prio),D.sl ((x44.conds).map aF.c),D.sl ((x44.bC).map Action.c)]from cA aI.c h45)).a [.row [D.str (x44.name),D.int .i64 (x44.prio),D.sl ((x44.conds).map aF.c),D.sl ((x44.bC).map Action.c)],.cn [0,3,4] [0]]).cs hΓ aV (wC aA (((aP).map aI.c).set i1 [D.str (tK.name),D.int .i64 (tK.prio),D.sl ((tK.conds).map aF.c),D.sl ((tK.bC).map Action.c)]) (IntKind.i64.wrap (((i1:Int))+(1)))) (by first| (simp only[iS aO hm1,mA]<;>rfl)| (simp only[iS aO hm1,mA,aD.c,aH.c,aF.c,Action.c,aI.c,aL.c,bH.c,aN.c,Node.c,aG.c,bI.c]<;>rfl)) (ih1 (i1+1) ((aP).set i1 tK) (dn aO) h)
theorem J4{aA:List aI}{r:List aI}(h:tM aA=some r):Good Tryz.prog 35 [D.sl ((aA).map aI.c)] (D.fr 105 4 ((r).map aI.c)):=by
 refine gd Tryz.func35 [[some (105,4)]] 23 fun hr Γ hΓ=>?_
 rw[tM]at h
 obtain⟨h1,h⟩:=aU h
 refine((aK.w (uO h1)).a [.cn [0,3,4] [0]]).lps hΓ (wC aA (List.replicate ((((aA).map aI.c).length:Int)).toNat [D.str ([]),D.int .i64 (0),D.sl ([]),D.sl ([])]) 0) (by first| (simp only[mA]<;>rfl)| (simp only[mA,aD.c,aH.c,aF.c,Action.c,aI.c,aL.c,bH.c,aN.c,Node.c,aG.c,bI.c]<;>rfl)) (M1 hΓ (fun aT h=>?_) (by have:=(bR.sl (hr _ (List.mem_of_getElem? (i:=0) rfl))).1;simpa using this) (aA) 0 (List.replicate ((((aA).map aI.c).length:Int)).toNat (⟨([]:Bytes),(0:Int),[],[]⟩:aI)) rfl h)
 have h:=aC h;subst h;exact aK.ret hΓ
def k8(aA:List Int)(k1:List Int→Option (List Int)):List Int→Nat→List Int→Option (List Int)
 | [],i1,aP=>(k1 (aP))
 |aS::aX,i1,aP=>(bif decide (i1<((aP).map iL).length)then(((aP)[i1]?).bind fun x30=>(k8 aA k1 aX (i1+1) ((aP).set i1 aS)))else none)
def uR(aA:List Int):Option (List Int):=(bif BK ((((aA).map iL).length:Int)) 8 then(k8 aA (fun(aT:List Int)=>(some (aT))) (aA) 0 (List.replicate ((((aA).map iL).length:Int)).toNat (0:Int)))else none)
def xC(aA:List Int)(W0:List (List D))(bB:Int):St:=⟨[(0,D.sl ((aA).map iL)),(3,D.acc 0),(4,D.int .i64 (bB))],[Ob.row .uq 3 1 (W0)]⟩
theorem OM(hΓ:Γ.nt=22){aA:List Int}{r:List Int}{k1:List Int→Option (List Int)}(bE:∀(aT:List Int),k1 aT=some r→Ax Γ N Tryz.f50 (.q [[some (3,1)]] (D.fr 3 1 ((r).map iL))) [1,1,1] ⟨[(3,D.acc 0)],[Ob.row .uq 3 1 ((aT).map iL)]⟩)(hm1:(aA).length≤maxLen):∀(rest:List Int) (i1:Nat) (aP:List Int),(aA).drop i1=rest→k8 aA k1 rest i1 aP=some r→Ar Γ N Tryz.f50 (.q [[some (3,1)]] (D.fr 3 1 ((r).map iL))) [1,1,0,1,0] (rest.length+1) (xC aA ((aP).map iL) ((i1:Int))):=by
 intro rest
 induction rest with
 |nil=>
  intro i1 aP aO h
  rw[k8]at h
  refine aJ fun N1 aY aV=>?_
  exact((aK.ge iL aO).a [.hl 0 [3] [0]]).ex hΓ aY (bE (aP) h)
 |cons aS aX ih1=>
  intro i1 aP aO h
  rw[k8]at h
  refine aJ fun N1 aY aV=>?_
  obtain⟨h29,h⟩:=aU h
  obtain⟨x30,h31,h⟩:=aB h
  exact(((((aK.lt iL aO).l (aQ iL 1 (dc aO) rfl)).i (xB 1 h29)).w (show((aP).map iL)[i1]?=some [D.int .i64 (x30)]from cA iL h31)).a [.row [D.int .i64 (x30)],.cn [0,3,4] [0]]).cs hΓ aV (xC aA (((aP).map iL).set i1 [D.int .i64 (aS)]) (IntKind.i64.wrap (((i1:Int))+(1)))) (by first| (simp only[iS aO hm1,mA]<;>rfl)| (simp only[iS aO hm1,mA,aD.c,aH.c,aF.c,Action.c,aI.c,aL.c,bH.c,aN.c,Node.c,aG.c,bI.c]<;>rfl)) (ih1 (i1+1) ((aP).set i1 aS) (dn aO) h)
theorem M2{aA:List Int}{r:List Int}(h:uR aA=some r):Good Tryz.prog 50 [D.sl ((aA).map iL)] (D.fr 3 1 ((r).map iL)):=by
 refine gd Tryz.func50 [[some (3,1)]] 22 fun hr Γ hΓ=>?_
 rw[uR]at h
 obtain⟨h1,h⟩:=aU h
 refine((aK.w (uO h1)).a [.cn [0,3,4] [0]]).lps hΓ (xC aA (List.replicate ((((aA).map iL).length:Int)).toNat [D.int .i64 (0)]) 0) (by first| (simp only[mA]<;>rfl)| (simp only[mA,aD.c,aH.c,aF.c,Action.c,aI.c,aL.c,bH.c,aN.c,Node.c,aG.c,bI.c]<;>rfl)) (OM hΓ (fun aT h=>?_) (by have:=(bR.sl (hr _ (List.mem_of_getElem? (i:=0) rfl))).1;simpa using this) (aA) 0 (List.replicate ((((aA).map iL).length:Int)).toNat (0:Int)) rfl h)
 have h:=aC h;subst h;exact aK.ret hΓ
def sC(aA:aD):Option aD:=((nA (aA.args)).bind fun y1=>(some ((⟨aA.rel,y1⟩:aD))))
theorem M3{aA:aD}{r:aD}(h:sC aA=some r):Good Tryz.prog 24 [D.agg (aD.c aA)] (D.agg [D.str (r.rel),D.fr 9 1 ((r.args).map tx)]):=by
 refine gd Tryz.func24 [[none,some (9,1)]] 12 fun hr Γ hΓ=>?_
 rw[sC]at h
 obtain⟨y1,h2,h⟩:=aB h
 cases h;exact(aK.g (wS h2)).ret hΓ
def lP(aA:List aD)(k1:List aD→Option (List aD)):List aD→Nat→List aD→Option (List aD)
 | [],i1,aP=>(k1 (aP))
 |aS::aX,i1,aP=>((sC (aS)).bind fun tK=>(bif decide (i1<((aP).map aD.c).length)then(((aP)[i1]?).bind fun x44=>(lP aA k1 aX (i1+1) ((aP).set i1 tK)))else none))
def nQ(aA:List aD):Option (List aD):=(bif BK ((((aA).map aD.c).length:Int)) 40 then(lP aA (fun(aT:List aD)=>(some (aT))) (aA) 0 (List.replicate ((((aA).map aD.c).length:Int)).toNat (⟨([]:Bytes),[]⟩:aD)))else none)
def wD(aA:List aD)(W0:List (List D))(bB:Int):St:=⟨[(0,D.sl ((aA).map aD.c)),(3,D.acc 0),(4,D.int .i64 (bB))],[Ob.row .uq 53 2 (W0)]⟩
theorem M4(hΓ:Γ.nt=23){aA:List aD}{r:List aD}{k1:List aD→Option (List aD)}(bE:∀(aT:List aD),k1 aT=some r→Ax Γ N Tryz.f15 (.q [[some (53,2)]] (D.fr 53 2 ((r).map aD.c))) [1,1,1] ⟨[(3,D.acc 0)],[Ob.row .uq 53 2 ((aT).map aD.c)]⟩)(hm1:(aA).length≤maxLen):∀(rest:List aD) (i1:Nat) (aP:List aD),(aA).drop i1=rest→lP aA k1 rest i1 aP=some r→Ar Γ N Tryz.f15 (.q [[some (53,2)]] (D.fr 53 2 ((r).map aD.c))) [1,1,0,1,0] (rest.length+1) (wD aA ((aP).map aD.c) ((i1:Int))):=by
 intro rest
 induction rest with
 |nil=>
  intro i1 aP aO h
  rw[lP]at h
  refine aJ fun N1 aY aV=>?_
  exact((aK.ge aD.c aO).a [.hl 0 [3] [0]]).ex hΓ aY (bE (aP) h)
 |cons aS aX ih1=>
  intro i1 aP aO h
  rw[lP]at h
  refine aJ fun N1 aY aV=>?_
  obtain⟨tK,h42,h⟩:=aB h
  obtain⟨h43,h⟩:=aU h
  obtain⟨x44,h45,h⟩:=aB h
  exact((((((aK.lt aD.c aO).l (aQ aD.c 2 (dc aO) rfl)).g (M3 h42)).i (xB 2 h43)).w (show((aP).map aD.c)[i1]?=some [D.str (x44.rel),D.sl ((x44.args).map tx)]from cA aD.c h45)).a [.row [D.str (x44.rel),D.sl ((x44.args).map tx)],.cn [0,3,4] [0]]).cs hΓ aV (wD aA (((aP).map aD.c).set i1 [D.str (tK.rel),D.sl ((tK.args).map tx)]) (IntKind.i64.wrap (((i1:Int))+(1)))) (by first| (simp only[iS aO hm1,mA]<;>rfl)| (simp only[iS aO hm1,mA,aD.c,aH.c,aF.c,Action.c,aI.c,aL.c,bH.c,aN.c,Node.c,aG.c,bI.c]<;>rfl)) (ih1 (i1+1) ((aP).set i1 tK) (dn aO) h)
theorem uG{aA:List aD}{r:List aD}(h:nQ aA=some r):Good Tryz.prog 15 [D.sl ((aA).map aD.c)] (D.fr 53 2 ((r).map aD.c)):=by
 refine gd Tryz.func15 [[some (53,2)]] 23 fun hr Γ hΓ=>?_
 rw[nQ]at h
 obtain⟨h1,h⟩:=aU h
 refine((aK.w (uO h1)).a [.cn [0,3,4] [0]]).lps hΓ (wD aA (List.replicate ((((aA).map aD.c).length:Int)).toNat [D.str ([]),D.sl ([])]) 0) (by first| (simp only[mA]<;>rfl)| (simp only[mA,aD.c,aH.c,aF.c,Action.c,aI.c,aL.c,bH.c,aN.c,Node.c,aG.c,bI.c]<;>rfl)) (M4 hΓ (fun aT h=>?_) (by have:=(bR.sl (hr _ (List.mem_of_getElem? (i:=0) rfl))).1;simpa using this) (aA) 0 (List.replicate ((((aA).map aD.c).length:Int)).toNat (⟨([]:Bytes),[]⟩:aD)) rfl h)
 have h:=aC h;subst h;exact aK.ret hΓ
def pV(aA:aN):Option aN:=((k7 (aA.shape)).bind fun y1=>((nQ (aA.facts)).bind fun y3=>(some ((⟨y1,y3⟩:aN)))))
theorem J5{aA:aN}{r:aN}(h:pV aA=some r):Good Tryz.prog 107 [D.agg (aN.c aA)] (D.agg [D.str (r.shape.rel),D.fr 9 1 ((r.shape.args).map tx),D.fr 53 2 ((r.facts).map aD.c)]):=by
 refine gd Tryz.func107 [[none,some (9,1),some (53,2)]] 13 fun hr Γ hΓ=>?_
 rw[pV]at h
 obtain⟨y1,h2,h⟩:=aB h
 obtain⟨y3,h4,h⟩:=aB h
 cases h;exact((aK.g (sO h2)).g (uG h4)).ret hΓ
def k9(aA:List aN)(k1:List aN→Option (List aN)):List aN→Nat→List aN→Option (List aN)
 | [],i1,aP=>(k1 (aP))
 |aS::aX,i1,aP=>((pV (aS)).bind fun tK=>(bif decide (i1<((aP).map aN.c).length)then(((aP)[i1]?).bind fun x44=>(k9 aA k1 aX (i1+1) ((aP).set i1 tK)))else none))
def rH(aA:List aN):Option (List aN):=(bif BK ((((aA).map aN.c).length:Int)) 64 then(k9 aA (fun(aT:List aN)=>(some (aT))) (aA) 0 (List.replicate ((((aA).map aN.c).length:Int)).toNat (⟨(⟨([]:Bytes),[]⟩:aD),[]⟩:aN)))else none)
def vI(aA:List aN)(W0:List (List D))(bB:Int):St:=⟨[(0,D.sl ((aA).map aN.c)),(3,D.acc 0),(4,D.int .i64 (bB))],[Ob.row .uq 111 3 (W0)]⟩
theorem J6(hΓ:Γ.nt=23){aA:List aN}{r:List aN}{k1:List aN→Option (List aN)}(bE:∀(aT:List aN),k1 aT=some r→Ax Γ N Tryz.f51 (.q [[some (111,3)]] (D.fr 111 3 ((r).map aN.c))) [1,1,1] ⟨[(3,D.acc 0)],[Ob.row .uq 111 3 ((aT).map aN.c)]⟩)(hm1:(aA).length≤maxLen):∀(rest:List aN) (i1:Nat) (aP:List aN),(aA).drop i1=rest→k9 aA k1 rest i1 aP=some r→Ar Γ N Tryz.f51 (.q [[some (111,3)]] (D.fr 111 3 ((r).map aN.c))) [1,1,0,1,0] (rest.length+1) (vI aA ((aP).map aN.c) ((i1:Int))):=by
 intro rest
 induction rest with
 |nil=>
  intro i1 aP aO h
  rw[k9]at h
  refine aJ fun N1 aY aV=>?_
  exact((aK.ge aN.c aO).a [.hl 0 [3] [0]]).ex hΓ aY (bE (aP) h)
 |cons aS aX ih1=>
  intro i1 aP aO h
  rw[k9]at h
  refine aJ fun N1 aY aV=>?_
  obtain⟨tK,h42,h⟩:=aB h
  obtain⟨h43,h⟩:=aU h
  obtain⟨x44,h45,h⟩:=aB h
  exact((((((aK.lt aN.c aO).l (aQ aN.c 3 (dc aO) rfl)).g (J5 h42)).i (xB 3 h43)).w (show((aP).map aN.c)[i1]?=some [D.str (x44.shape.rel),D.sl ((x44.shape.args).map tx),D.sl ((x44.facts).map aD.c)]from cA aN.c h45)).a [.row [D.str (x44.shape.rel),D.sl ((x44.shape.args).map tx),D.sl ((x44.facts).map aD.c)],.cn [0,3,4] [0]]).cs hΓ aV (vI aA (((aP).map aN.c).set i1 [D.str (tK.shape.rel),D.sl ((tK.shape.args).map tx),D.sl ((tK.facts).map aD.c)]) (IntKind.i64.wrap (((i1:Int))+(1)))) (by first| (simp only[iS aO hm1,mA]<;>rfl)| (simp only[iS aO hm1,mA,aD.c,aH.c,aF.c,Action.c,aI.c,aL.c,bH.c,aN.c,Node.c,aG.c,bI.c]<;>rfl)) (ih1 (i1+1) ((aP).set i1 tK) (dn aO) h)
theorem G8{aA:List aN}{r:List aN}(h:rH aA=some r):Good Tryz.prog 51 [D.sl ((aA).map aN.c)] (D.fr 111 3 ((r).map aN.c)):=by
 refine gd Tryz.func51 [[some (111,3)]] 23 fun hr Γ hΓ=>?_
 rw[rH]at h
 obtain⟨h1,h⟩:=aU h
 refine((aK.w (uO h1)).a [.cn [0,3,4] [0]]).lps hΓ (vI aA (List.replicate ((((aA).map aN.c).length:Int)).toNat [D.str ([]),D.sl ([]),D.sl ([])]) 0) (by first| (simp only[mA]<;>rfl)| (simp only[mA,aD.c,aH.c,aF.c,Action.c,aI.c,aL.c,bH.c,aN.c,Node.c,aG.c,bI.c]<;>rfl)) (J6 hΓ (fun aT h=>?_) (by have:=(bR.sl (hr _ (List.mem_of_getElem? (i:=0) rfl))).1;simpa using this) (aA) 0 (List.replicate ((((aA).map aN.c).length:Int)).toNat (⟨(⟨([]:Bytes),[]⟩:aD),[]⟩:aN)) rfl h)
 have h:=aC h;subst h;exact aK.ret hΓ
def sD(aA:aH):Option aH:=(some (aA))
theorem M5{aA:aH}{r:aH}(h:sD aA=some r):Good Tryz.prog 284 [D.agg (aH.c aA)] (D.agg [D.str (r.var),D.str (r.value)]):=by
 refine gd Tryz.func284 [[none,none]] 11 fun hr Γ hΓ=>?_
 rw[sD]at h
 have h:=aC h;subst h;exact aK.ret hΓ
def lQ(aA:List aH)(k1:List aH→Option (List aH)):List aH→Nat→List aH→Option (List aH)
 | [],i1,aP=>(k1 (aP))
 |aS::aX,i1,aP=>((sD (aS)).bind fun tK=>(bif decide (i1<((aP).map aH.c).length)then(((aP)[i1]?).bind fun x44=>(lQ aA k1 aX (i1+1) ((aP).set i1 tK)))else none))
def tN(aA:List aH):Option (List aH):=(bif BK ((((aA).map aH.c).length:Int)) 32 then(lQ aA (fun(aT:List aH)=>(some (aT))) (aA) 0 (List.replicate ((((aA).map aH.c).length:Int)).toNat (⟨([]:Bytes),([]:Bytes)⟩:aH)))else none)
def wE(aA:List aH)(W0:List (List D))(bB:Int):St:=⟨[(0,D.sl ((aA).map aH.c)),(3,D.acc 0),(4,D.int .i64 (bB))],[Ob.row .uq 152 2 (W0)]⟩
theorem M6(hΓ:Γ.nt=23){aA:List aH}{r:List aH}{k1:List aH→Option (List aH)}(bE:∀(aT:List aH),k1 aT=some r→Ax Γ N Tryz.f273 (.q [[some (152,2)]] (D.fr 152 2 ((r).map aH.c))) [1,1,1] ⟨[(3,D.acc 0)],[Ob.row .uq 152 2 ((aT).map aH.c)]⟩)(hm1:(aA).length≤maxLen):∀(rest:List aH) (i1:Nat) (aP:List aH),(aA).drop i1=rest→lQ aA k1 rest i1 aP=some r→Ar Γ N Tryz.f273 (.q [[some (152,2)]] (D.fr 152 2 ((r).map aH.c))) [1,1,0,1,0] (rest.length+1) (wE aA ((aP).map aH.c) ((i1:Int))):=by
 intro rest
 induction rest with
 |nil=>
  intro i1 aP aO h
  rw[lQ]at h
  refine aJ fun N1 aY aV=>?_
  exact((aK.ge aH.c aO).a [.hl 0 [3] [0]]).ex hΓ aY (bE (aP) h)
 |cons aS aX ih1=>
  intro i1 aP aO h
  rw[lQ]at h
  refine aJ fun N1 aY aV=>?_
  obtain⟨tK,h42,h⟩:=aB h
  obtain⟨h43,h⟩:=aU h
  obtain⟨x44,h45,h⟩:=aB h
  exact((((((aK.lt aH.c aO).l (aQ aH.c 2 (dc aO) rfl)).g (M5 h42)).i (xB 2 h43)).w (show((aP).map aH.c)[i1]?=some [D.str (x44.var),D.str (x44.value)]from cA aH.c h45)).a [.row [D.str (x44.var),D.str (x44.value)],.cn [0,3,4] [0]]).cs hΓ aV (wE aA (((aP).map aH.c).set i1 [D.str (tK.var),D.str (tK.value)]) (IntKind.i64.wrap (((i1:Int))+(1)))) (by first| (simp only[iS aO hm1,mA]<;>rfl)| (simp only[iS aO hm1,mA,aD.c,aH.c,aF.c,Action.c,aI.c,aL.c,bH.c,aN.c,Node.c,aG.c,bI.c]<;>rfl)) (ih1 (i1+1) ((aP).set i1 tK) (dn aO) h)
theorem J7{aA:List aH}{r:List aH}(h:tN aA=some r):Good Tryz.prog 273 [D.sl ((aA).map aH.c)] (D.fr 152 2 ((r).map aH.c)):=by
 refine gd Tryz.func273 [[some (152,2)]] 23 fun hr Γ hΓ=>?_
 rw[tN]at h
 obtain⟨h1,h⟩:=aU h
 refine((aK.w (uO h1)).a [.cn [0,3,4] [0]]).lps hΓ (wE aA (List.replicate ((((aA).map aH.c).length:Int)).toNat [D.str ([]),D.str ([])]) 0) (by first| (simp only[mA]<;>rfl)| (simp only[mA,aD.c,aH.c,aF.c,Action.c,aI.c,aL.c,bH.c,aN.c,Node.c,aG.c,bI.c]<;>rfl)) (M6 hΓ (fun aT h=>?_) (by have:=(bR.sl (hr _ (List.mem_of_getElem? (i:=0) rfl))).1;simpa using this) (aA) 0 (List.replicate ((((aA).map aH.c).length:Int)).toNat (⟨([]:Bytes),([]:Bytes)⟩:aH)) rfl h)
 have h:=aC h;subst h;exact aK.ret hΓ
def pW(aA:aL):Option aL:=((nQ (aA.facts)).bind fun y1=>((tN (aA.bind)).bind fun y3=>(some ((⟨y1,y3⟩:aL)))))
theorem J8{aA:aL}{r:aL}(h:pW aA=some r):Good Tryz.prog 243 [D.agg (aL.c aA)] (D.agg [D.fr 53 2 ((r.facts).map aD.c),D.fr 152 2 ((r.bind).map aH.c)]):=by
 refine gd Tryz.func243 [[some (53,2),some (152,2)]] 13 fun hr Γ hΓ=>?_
 rw[pW]at h
 obtain⟨y1,h2,h⟩:=aB h
 obtain⟨y3,h4,h⟩:=aB h
 cases h;exact((aK.g (uG h2)).g (J7 h4)).ret hΓ
def kA(aA:List aL)(k1:List aL→Option (List aL)):List aL→Nat→List aL→Option (List aL)
 | [],i1,aP=>(k1 (aP))
 |aS::aX,i1,aP=>((pW (aS)).bind fun tK=>(bif decide (i1<((aP).map aL.c).length)then(((aP)[i1]?).bind fun x44=>(kA aA k1 aX (i1+1) ((aP).set i1 tK)))else none))
def rI(aA:List aL):Option (List aL):=(bif BK ((((aA).map aL.c).length:Int)) 48 then(kA aA (fun(aT:List aL)=>(some (aT))) (aA) 0 (List.replicate ((((aA).map aL.c).length:Int)).toNat (⟨[],[]⟩:aL)))else none)
def vJ(aA:List aL)(W0:List (List D))(bB:Int):St:=⟨[(0,D.sl ((aA).map aL.c)),(3,D.acc 0),(4,D.int .i64 (bB))],[Ob.row .uq 124 2 (W0)]⟩
theorem J9(hΓ:Γ.nt=23){aA:List aL}{r:List aL}{k1:List aL→Option (List aL)}(bE:∀(aT:List aL),k1 aT=some r→Ax Γ N Tryz.f181 (.q [[some (124,2)]] (D.fr 124 2 ((r).map aL.c))) [1,1,1] ⟨[(3,D.acc 0)],[Ob.row .uq 124 2 ((aT).map aL.c)]⟩)(hm1:(aA).length≤maxLen):∀(rest:List aL) (i1:Nat) (aP:List aL),(aA).drop i1=rest→kA aA k1 rest i1 aP=some r→Ar Γ N Tryz.f181 (.q [[some (124,2)]] (D.fr 124 2 ((r).map aL.c))) [1,1,0,1,0] (rest.length+1) (vJ aA ((aP).map aL.c) ((i1:Int))):=by
 intro rest
 induction rest with
 |nil=>
  intro i1 aP aO h
  rw[kA]at h
  refine aJ fun N1 aY aV=>?_
  exact((aK.ge aL.c aO).a [.hl 0 [3] [0]]).ex hΓ aY (bE (aP) h)
 |cons aS aX ih1=>
  intro i1 aP aO h
  rw[kA]at h
  refine aJ fun N1 aY aV=>?_
  obtain⟨tK,h42,h⟩:=aB h
  obtain⟨h43,h⟩:=aU h
  obtain⟨x44,h45,h⟩:=aB h
  exact((((((aK.lt aL.c aO).l (aQ aL.c 2 (dc aO) rfl)).g (J8 h42)).i (xB 2 h43)).w (show((aP).map aL.c)[i1]?=some [D.sl ((x44.facts).map aD.c),D.sl ((x44.bind).map aH.c)]from cA aL.c h45)).a [.row [D.sl ((x44.facts).map aD.c),D.sl ((x44.bind).map aH.c)],.cn [0,3,4] [0]]).cs hΓ aV (vJ aA (((aP).map aL.c).set i1 [D.sl ((tK.facts).map aD.c),D.sl ((tK.bind).map aH.c)]) (IntKind.i64.wrap (((i1:Int))+(1)))) (by first| (simp only[iS aO hm1,mA]<;>rfl)| (simp only[iS aO hm1,mA,aD.c,aH.c,aF.c,Action.c,aI.c,aL.c,bH.c,aN.c,Node.c,aG.c,bI.c]<;>rfl)) (ih1 (i1+1) ((aP).set i1 tK) (dn aO) h)
theorem G9{aA:List aL}{r:List aL}(h:rI aA=some r):Good Tryz.prog 181 [D.sl ((aA).map aL.c)] (D.fr 124 2 ((r).map aL.c)):=by
 refine gd Tryz.func181 [[some (124,2)]] 23 fun hr Γ hΓ=>?_
 rw[rI]at h
 obtain⟨h1,h⟩:=aU h
 refine((aK.w (uO h1)).a [.cn [0,3,4] [0]]).lps hΓ (vJ aA (List.replicate ((((aA).map aL.c).length:Int)).toNat [D.sl ([]),D.sl ([])]) 0) (by first| (simp only[mA]<;>rfl)| (simp only[mA,aD.c,aH.c,aF.c,Action.c,aI.c,aL.c,bH.c,aN.c,Node.c,aG.c,bI.c]<;>rfl)) (J9 hΓ (fun aT h=>?_) (by have:=(bR.sl (hr _ (List.mem_of_getElem? (i:=0) rfl))).1;simpa using this) (aA) 0 (List.replicate ((((aA).map aL.c).length:Int)).toNat (⟨[],[]⟩:aL)) rfl h)
 have h:=aC h;subst h;exact aK.ret hΓ
def sE(aA:Node):Option Node:=((oW (aA.cond)).bind fun y1=>((rI (aA.tokens)).bind fun y3=>(some ((⟨aA.parent,y1,aA.iO,y3⟩:Node)))))
theorem M7{aA:Node}{r:Node}(h:sE aA=some r):Good Tryz.prog 108 [D.agg (Node.c aA)] (D.agg [D.int .i64 (r.parent),D.int .i64 (r.cond.kind),D.str (r.cond.pat.rel),D.fr 9 1 ((r.cond.pat.args).map tx),D.str (r.cond.left),D.str (r.cond.right),D.int .i64 (r.iO),D.fr 124 2 ((r.tokens).map aL.c)]):=by
 refine gd Tryz.func108 [[none,none,none,some (9,1),none,none,none,some (124,2)]] 19 fun hr Γ hΓ=>?_
 rw[sE]at h
 obtain⟨y1,h2,h⟩:=aB h
 obtain⟨y3,h4,h⟩:=aB h
 cases h;exact((aK.g (AF h2)).g (G9 h4)).ret hΓ
def lR(aA:List Node)(k1:List Node→Option (List Node)):List Node→Nat→List Node→Option (List Node)
 | [],i1,aP=>(k1 (aP))
 |aS::aX,i1,aP=>((sE (aS)).bind fun tK=>(bif decide (i1<((aP).map Node.c).length)then(((aP)[i1]?).bind fun x44=>(lR aA k1 aX (i1+1) ((aP).set i1 tK)))else none))
def tO(aA:List Node):Option (List Node):=(bif BK ((((aA).map Node.c).length:Int)) 120 then(lR aA (fun(aT:List Node)=>(some (aT))) (aA) 0 (List.replicate ((((aA).map Node.c).length:Int)).toNat (⟨(0:Int),(⟨(0:Int),(⟨([]:Bytes),[]⟩:aD),([]:Bytes),([]:Bytes)⟩:aF),(0:Int),[]⟩:Node)))else none)
def wF(aA:List Node)(W0:List (List D))(bB:Int):St:=⟨[(0,D.sl ((aA).map Node.c)),(3,D.acc 0),(4,D.int .i64 (bB))],[Ob.row .uq 118 8 (W0)]⟩
theorem M8(hΓ:Γ.nt=23){aA:List Node}{r:List Node}{k1:List Node→Option (List Node)}(bE:∀(aT:List Node),k1 aT=some r→Ax Γ N Tryz.f52 (.q [[some (118,8)]] (D.fr 118 8 ((r).map Node.c))) [1,1,1] ⟨[(3,D.acc 0)],[Ob.row .uq 118 8 ((aT).map Node.c)]⟩)(hm1:(aA).length≤maxLen):∀(rest:List Node) (i1:Nat) (aP:List Node),(aA).drop i1=rest→lR aA k1 rest i1 aP=some r→Ar Γ N Tryz.f52 (.q [[some (118,8)]] (D.fr 118 8 ((r).map Node.c))) [1,1,0,1,0] (rest.length+1) (wF aA ((aP).map Node.c) ((i1:Int))):=by
 intro rest
 induction rest with
 |nil=>
  intro i1 aP aO h
  rw[lR]at h
  refine aJ fun N1 aY aV=>?_
  exact((aK.ge Node.c aO).a [.hl 0 [3] [0]]).ex hΓ aY (bE (aP) h)
 |cons aS aX ih1=>
  intro i1 aP aO h
  rw[lR]at h
  refine aJ fun N1 aY aV=>?_
  obtain⟨tK,h42,h⟩:=aB h
  obtain⟨h43,h⟩:=aU h
  obtain⟨x44,h45,h⟩:=aB h
  exact((((((aK.lt Node.c aO).l (aQ Node.c 8 (dc aO) rfl)).g (M7 h42)).i (xB 8 h43)).w (show((aP).map Node.c)[i1]?=some [D.int .i64 (x44.parent),D.int .i64 (x44.cond.kind),D.str (x44.cond.pat.rel),D.sl ((x44.cond.pat.args).map tx),D.str (x44.cond.left),D.str (x44.cond.right),D.int .i64 (x44.iO),D.sl ((x44.tokens).map aL.c)]from cA Node.c h45)).a [.row [D.int .i64 (x44.parent),D.int .i64 (x44.cond.kind),D.str (x44.cond.pat.rel),D.sl ((x44.cond.pat.args).map tx),D.str (x44.cond.left),D.str (x44.cond.right),D.int .i64 (x44.iO),D.sl ((x44.tokens).map aL.c)],.cn [0,3,4] [0]]).cs hΓ aV (wF aA (((aP).map Node.c).set i1 [D.int .i64 (tK.parent),D.int .i64 (tK.cond.kind),D.str (tK.cond.pat.rel),D.sl ((tK.cond.pat.args).map tx),D.str (tK.cond.left),D.str (tK.cond.right),D.int .i64 (tK.iO),D.sl ((tK.tokens).map aL.c)]) (IntKind.i64.wrap (((i1:Int))+(1)))) (by first| (simp only[iS aO hm1,mA]<;>rfl)| (simp only[iS aO hm1,mA,aD.c,aH.c,aF.c,Action.c,aI.c,aL.c,bH.c,aN.c,Node.c,aG.c,bI.c]<;>rfl)) (ih1 (i1+1) ((aP).set i1 tK) (dn aO) h)
theorem JA{aA:List Node}{r:List Node}(h:tO aA=some r):Good Tryz.prog 52 [D.sl ((aA).map Node.c)] (D.fr 118 8 ((r).map Node.c)):=by
 refine gd Tryz.func52 [[some (118,8)]] 23 fun hr Γ hΓ=>?_
 rw[tO]at h
 obtain⟨h1,h⟩:=aU h
 refine((aK.w (uO h1)).a [.cn [0,3,4] [0]]).lps hΓ (wF aA (List.replicate ((((aA).map Node.c).length:Int)).toNat [D.int .i64 (0),D.int .i64 (0),D.str ([]),D.sl ([]),D.str ([]),D.str ([]),D.int .i64 (0),D.sl ([])]) 0) (by first| (simp only[mA]<;>rfl)| (simp only[mA,aD.c,aH.c,aF.c,Action.c,aI.c,aL.c,bH.c,aN.c,Node.c,aG.c,bI.c]<;>rfl)) (M8 hΓ (fun aT h=>?_) (by have:=(bR.sl (hr _ (List.mem_of_getElem? (i:=0) rfl))).1;simpa using this) (aA) 0 (List.replicate ((((aA).map Node.c).length:Int)).toNat (⟨(0:Int),(⟨(0:Int),(⟨([]:Bytes),[]⟩:aD),([]:Bytes),([]:Bytes)⟩:aF),(0:Int),[]⟩:Node)) rfl h)
 have h:=aC h;subst h;exact aK.ret hΓ
def kB(aA:aG):Option aG:=((tM (aA.rules)).bind fun y1=>((uR (aA.ends)).bind fun y3=>((rH (aA.aR)).bind fun y5=>((tO (aA.nodes)).bind fun y7=>((nQ (aA.facts)).bind fun y9=>(some ((⟨y1,y3,y5,y7,y9,aA.bJ⟩:aG))))))))
theorem sP{aA:aG}{r:aG}(h:kB aA=some r):Good Tryz.prog 14 [D.agg (aG.c aA)] (D.agg [D.fr 105 4 ((r.rules).map aI.c),D.fr 3 1 ((r.ends).map iL),D.fr 111 3 ((r.aR).map aN.c),D.fr 118 8 ((r.nodes).map Node.c),D.fr 53 2 ((r.facts).map aD.c),D.int .i64 (r.bJ)]):=by
 refine gd Tryz.func14 [[some (105,4),some (3,1),some (111,3),some (118,8),some (53,2),none]] 28 fun hr Γ hΓ=>?_
 rw[kB]at h
 obtain⟨y1,h2,h⟩:=aB h
 obtain⟨y3,h4,h⟩:=aB h
 obtain⟨y5,h6,h⟩:=aB h
 obtain⟨y7,h8,h⟩:=aB h
 obtain⟨y9,h10,h⟩:=aB h
 cases h;exact(((((aK.g (J4 h2)).g (M2 h4)).g (G8 h6)).g (JA h8)).g (uG h10)).ret hΓ
end Go.Cx
namespace Go.Cx
open Go.RowKit Go.Proofs
set_option linter.unusedVariables false
set_option linter.unusedSimpArgs false
set_option maxRecDepth 100000
variable{Γ:uK}{N:Nat→St→Prop}
def j9(aA:List Bytes)(aM:List Bytes)(k1:Option Bool):List Bytes→Nat→Option Bool
 | [],i1=>(k1)
 |aS::aX,i1=>((oI (aM) ((i1:Int))).bind fun x22=>(bif !((aS:Bytes)==(x22))then(some (false))else(j9 aA aM k1 aX (i1+1))))
def nB(aA:List Bytes)(aM:List Bytes):Option Bool:=(bif ((((aA).map tx).length:Int):Int) != ((((aM).map tx).length:Int))then(some (false))else(j9 aA aM (some (true)) (aA) 0))
def JB(aA:List Bytes)(aM:List Bytes)(bB:Int):St:=⟨[(0,D.sl ((aA).map tx)),(1,D.sl ((aM).map tx)),(5,D.int .i64 (bB))],[]⟩
theorem GA(hΓ:Γ.nt=26){aA:List Bytes}{aM:List Bytes}{r:Bool}{k1:Option Bool}(bE:k1=some r→Ax Γ N Tryz.f74 (.q [[none]] (D.bool (r))) [1,1,1] ⟨[],[]⟩)(hm1:(aA).length≤maxLen):∀(rest:List Bytes) (i1:Nat),(aA).drop i1=rest→j9 aA aM k1 rest i1=some r→Ar Γ N Tryz.f74 (.q [[none]] (D.bool (r))) [1,1,0,1,0] (rest.length+1) (JB aA aM ((i1:Int))):=by
 intro rest
 induction rest with
 |nil=>
  intro i1 aO h
  rw[j9]at h
  refine aJ fun N1 aY aV=>?_
  exact((aK.ge tx aO).a [.hl 0 [] []]).ex hΓ aY (bE h)
 |cons aS aX ih1=>
  intro i1 aO h
  rw[j9]at h
  refine aJ fun N1 aY aV=>?_
  obtain⟨x22,h23,h⟩:=aB h
  have bO:=((((aK.lt tx aO).a [.n 8]).l (aQ tx 1 (dc aO) rfl)).l (bP tx 1 h23 rfl))
  obtain⟨h24,h⟩|⟨h24,h⟩:=aE h
  ·have h:=aC h;subst h;exact(bO.b h24).ret hΓ
  ·exact((bO.b h24).a [.cn [0,1,5] []]).ct hΓ aV (iS aO hm1) (ih1 (i1+1) (dn aO) h)
theorem wT{aA:List Bytes}{aM:List Bytes}{r:Bool}(h:nB aA aM=some r):Good Tryz.prog 74 [D.sl ((aA).map tx),D.sl ((aM).map tx)] (D.bool (r)):=by
 refine gd Tryz.func74 [[none]] 26 fun hr Γ hΓ=>?_
 rw[nB]at h
 obtain⟨h1,h⟩|⟨h1,h⟩:=aE h
 ·have h:=aC h;subst h;exact(aK.b h1).ret hΓ
 ·refine((aK.b h1).a [.cn [0,1,5] []]).lp hΓ (GA hΓ (fun h=>?_) (by have:=(bR.sl (hr _ (List.mem_of_getElem? (i:=0) rfl))).1;simpa using this) (aA) 0 rfl h)
  have h:=aC h;subst h;exact aK.ret hΓ
def kC(aA:aD)(aM:aD):Option Bool:=(bif !((aA.rel:Bytes)==(aM.rel))then(some (false))else((nB (aA.args) (aM.args)).bind fun y2=>(bif !(y2)then(some (false))else(some (true)))))
theorem nZ{aA:aD}{aM:aD}{r:Bool}(h:kC aA aM=some r):Good Tryz.prog 186 [D.agg (aD.c aA),D.agg (aD.c aM)] (D.bool (r)):=by
 refine gd Tryz.func186 [[none]] 16 fun hr Γ hΓ=>?_
 rw[kC]at h
 obtain⟨h1,h⟩|⟨h1,h⟩:=aE h
 ·have h:=aC h;subst h;exact(aK.b h1).ret hΓ
 ·obtain⟨y2,h3,h⟩:=aB h
  have jO:=((aK.b h1).g (wT h3))
  obtain⟨h4,h⟩|⟨h4,h⟩:=aE h
  ·have h:=aC h;subst h;exact(jO.b h4).ret hΓ
  ·have h:=aC h;subst h;exact(jO.b h4).ret hΓ
def oX(aA:aF)(aM:aF):Option Bool:=(bif (aA.kind:Int) != (aM.kind)then(some (false))else((kC (aA.pat) (aM.pat)).bind fun y2=>(bif !(y2)then(some (false))else(bif !((aA.left:Bytes)==(aM.left))then(some (false))else(bif !((aA.right:Bytes)==(aM.right))then(some (false))else(some (true)))))))
theorem AG{aA:aF}{aM:aF}{r:Bool}(h:oX aA aM=some r):Good Tryz.prog 187 [D.agg (aF.c aA),D.agg (aF.c aM)] (D.bool (r)):=by
 refine gd Tryz.func187 [[none]] 26 fun hr Γ hΓ=>?_
 rw[oX]at h
 obtain⟨h1,h⟩|⟨h1,h⟩:=aE h
 ·have h:=aC h;subst h;exact(aK.b h1).ret hΓ
 ·obtain⟨y2,h3,h⟩:=aB h
  have jO:=((aK.b h1).g (nZ h3))
  obtain⟨h4,h⟩|⟨h4,h⟩:=aE h
  ·have h:=aC h;subst h;exact(jO.b h4).ret hΓ
  ·obtain⟨h5,h⟩|⟨h5,h⟩:=aE h
   ·have h:=aC h;subst h;exact((jO.b h4).b h5).ret hΓ
   ·have bO:=((jO.b h4).b h5)
    obtain⟨h6,h⟩|⟨h6,h⟩:=aE h
    ·have h:=aC h;subst h;exact(bO.b h6).ret hΓ
    ·have h:=aC h;subst h;exact(bO.b h6).ret hΓ
def lS(aA:List aF)(aM:List aF)(k1:Option Bool):List aF→Nat→Option Bool
 | [],i1=>(k1)
 |aS::aX,i1=>((oI (aM) ((i1:Int))).bind fun x30=>((oX (aS) (x30)).bind fun CK=>(bif !(CK)then(some (false))else(lS aA aM k1 aX (i1+1)))))
def tP(aA:List aF)(aM:List aF):Option Bool:=(bif ((((aA).map aF.c).length:Int):Int) != ((((aM).map aF.c).length:Int))then(some (false))else(lS aA aM (some (true)) (aA) 0))
def ON(aA:List aF)(aM:List aF)(bB:Int):St:=⟨[(0,D.sl ((aA).map aF.c)),(1,D.sl ((aM).map aF.c)),(5,D.int .i64 (bB))],[]⟩
theorem M9(hΓ:Γ.nt=27){aA:List aF}{aM:List aF}{r:Bool}{k1:Option Bool}(bE:k1=some r→Ax Γ N Tryz.f146 (.q [[none]] (D.bool (r))) [1,1,1] ⟨[],[]⟩)(hm1:(aA).length≤maxLen):∀(rest:List aF) (i1:Nat),(aA).drop i1=rest→lS aA aM k1 rest i1=some r→Ar Γ N Tryz.f146 (.q [[none]] (D.bool (r))) [1,1,0,1,0] (rest.length+1) (ON aA aM ((i1:Int))):=by
 intro rest
 induction rest with
 |nil=>
  intro i1 aO h
  rw[lS]at h
  refine aJ fun N1 aY aV=>?_
  exact((aK.ge aF.c aO).a [.hl 0 [] []]).ex hΓ aY (bE h)
 |cons aS aX ih1=>
  intro i1 aO h
  rw[lS]at h
  refine aJ fun N1 aY aV=>?_
  obtain⟨x30,h31,h⟩:=aB h
  obtain⟨CK,h33,h⟩:=aB h
  have bO:=(((((aK.lt aF.c aO).a [.n 8]).l (aQ aF.c 5 (dc aO) rfl)).l (bP aF.c 5 h31 rfl)).g (AG h33))
  obtain⟨h34,h⟩|⟨h34,h⟩:=aE h
  ·have h:=aC h;subst h;exact(bO.b h34).ret hΓ
  ·exact((bO.b h34).a [.cn [0,1,5] []]).ct hΓ aV (iS aO hm1) (ih1 (i1+1) (dn aO) h)
theorem JC{aA:List aF}{aM:List aF}{r:Bool}(h:tP aA aM=some r):Good Tryz.prog 146 [D.sl ((aA).map aF.c),D.sl ((aM).map aF.c)] (D.bool (r)):=by
 refine gd Tryz.func146 [[none]] 27 fun hr Γ hΓ=>?_
 rw[tP]at h
 obtain⟨h1,h⟩|⟨h1,h⟩:=aE h
 ·have h:=aC h;subst h;exact(aK.b h1).ret hΓ
 ·refine((aK.b h1).a [.cn [0,1,5] []]).lp hΓ (M9 hΓ (fun h=>?_) (by have:=(bR.sl (hr _ (List.mem_of_getElem? (i:=0) rfl))).1;simpa using this) (aA) 0 rfl h)
  have h:=aC h;subst h;exact aK.ret hΓ
def o7(aA:Action)(aM:Action):Option Bool:=(bif (aA.kind:Int) != (aM.kind)then(some (false))else((kC (aA.pat) (aM.pat)).bind fun y2=>(bif !(y2)then(some (false))else(some (true)))))
theorem GB{aA:Action}{aM:Action}{r:Bool}(h:o7 aA aM=some r):Good Tryz.prog 223 [D.agg (Action.c aA),D.agg (Action.c aM)] (D.bool (r)):=by
 refine gd Tryz.func223 [[none]] 16 fun hr Γ hΓ=>?_
 rw[o7]at h
 obtain⟨h1,h⟩|⟨h1,h⟩:=aE h
 ·have h:=aC h;subst h;exact(aK.b h1).ret hΓ
 ·obtain⟨y2,h3,h⟩:=aB h
  have jO:=((aK.b h1).g (nZ h3))
  obtain⟨h4,h⟩|⟨h4,h⟩:=aE h
  ·have h:=aC h;subst h;exact(jO.b h4).ret hΓ
  ·have h:=aC h;subst h;exact(jO.b h4).ret hΓ
def jA(aA:List Action)(aM:List Action)(k1:Option Bool):List Action→Nat→Option Bool
 | [],i1=>(k1)
 |aS::aX,i1=>((oI (aM) ((i1:Int))).bind fun x30=>((o7 (aS) (x30)).bind fun CK=>(bif !(CK)then(some (false))else(jA aA aM k1 aX (i1+1)))))
def pX(aA:List Action)(aM:List Action):Option Bool:=(bif ((((aA).map Action.c).length:Int):Int) != ((((aM).map Action.c).length:Int))then(some (false))else(jA aA aM (some (true)) (aA) 0))
def JD(aA:List Action)(aM:List Action)(bB:Int):St:=⟨[(0,D.sl ((aA).map Action.c)),(1,D.sl ((aM).map Action.c)),(5,D.int .i64 (bB))],[]⟩
theorem GC(hΓ:Γ.nt=27){aA:List Action}{aM:List Action}{r:Bool}{k1:Option Bool}(bE:k1=some r→Ax Γ N Tryz.f147 (.q [[none]] (D.bool (r))) [1,1,1] ⟨[],[]⟩)(hm1:(aA).length≤maxLen):∀(rest:List Action) (i1:Nat),(aA).drop i1=rest→jA aA aM k1 rest i1=some r→Ar Γ N Tryz.f147 (.q [[none]] (D.bool (r))) [1,1,0,1,0] (rest.length+1) (JD aA aM ((i1:Int))):=by
 intro rest
 induction rest with
 |nil=>
  intro i1 aO h
  rw[jA]at h
  refine aJ fun N1 aY aV=>?_
  exact((aK.ge Action.c aO).a [.hl 0 [] []]).ex hΓ aY (bE h)
 |cons aS aX ih1=>
  intro i1 aO h
  rw[jA]at h
  refine aJ fun N1 aY aV=>?_
  obtain⟨x30,h31,h⟩:=aB h
  obtain⟨CK,h33,h⟩:=aB h
  have bO:=(((((aK.lt Action.c aO).a [.n 8]).l (aQ Action.c 3 (dc aO) rfl)).l (bP Action.c 3 h31 rfl)).g (GB h33))
  obtain⟨h34,h⟩|⟨h34,h⟩:=aE h
  ·have h:=aC h;subst h;exact(bO.b h34).ret hΓ
  ·exact((bO.b h34).a [.cn [0,1,5] []]).ct hΓ aV (iS aO hm1) (ih1 (i1+1) (dn aO) h)
theorem EH{aA:List Action}{aM:List Action}{r:Bool}(h:pX aA aM=some r):Good Tryz.prog 147 [D.sl ((aA).map Action.c),D.sl ((aM).map Action.c)] (D.bool (r)):=by
 refine gd Tryz.func147 [[none]] 27 fun hr Γ hΓ=>?_
 rw[pX]at h
 obtain⟨h1,h⟩|⟨h1,h⟩:=aE h
 ·have h:=aC h;subst h;exact(aK.b h1).ret hΓ
 ·refine((aK.b h1).a [.cn [0,1,5] []]).lp hΓ (GC hΓ (fun h=>?_) (by have:=(bR.sl (hr _ (List.mem_of_getElem? (i:=0) rfl))).1;simpa using this) (aA) 0 rfl h)
  have h:=aC h;subst h;exact aK.ret hΓ
def sF(aA:aI)(aM:aI):Option Bool:=(bif !((aA.name:Bytes)==(aM.name))then(some (false))else(bif (aA.prio:Int) != (aM.prio)then(some (false))else((tP (aA.conds) (aM.conds)).bind fun y3=>(bif !(y3)then(some (false))else((pX (aA.bC) (aM.bC)).bind fun y6=>(bif !(y6)then(some (false))else(some (true))))))))
theorem MA{aA:aI}{aM:aI}{r:Bool}(h:sF aA aM=some r):Good Tryz.prog 84 [D.agg (aI.c aA),D.agg (aI.c aM)] (D.bool (r)):=by
 refine gd Tryz.func84 [[none]] 27 fun hr Γ hΓ=>?_
 rw[sF]at h
 obtain⟨h1,h⟩|⟨h1,h⟩:=aE h
 ·have h:=aC h;subst h;exact(aK.b h1).ret hΓ
 ·obtain⟨h2,h⟩|⟨h2,h⟩:=aE h
  ·have h:=aC h;subst h;exact((aK.b h1).b h2).ret hΓ
  ·obtain⟨y3,h4,h⟩:=aB h
   have jO:=(((aK.b h1).b h2).g (JC h4))
   obtain⟨h5,h⟩|⟨h5,h⟩:=aE h
   ·have h:=aC h;subst h;exact(jO.b h5).ret hΓ
   ·obtain⟨y6,h7,h⟩:=aB h
    have bO:=((jO.b h5).g (EH h7))
    obtain⟨h8,h⟩|⟨h8,h⟩:=aE h
    ·have h:=aC h;subst h;exact(bO.b h8).ret hΓ
    ·have h:=aC h;subst h;exact(bO.b h8).ret hΓ
def lT(aA:List aI)(aM:List aI)(k1:Option Bool):List aI→Nat→Option Bool
 | [],i1=>(k1)
 |aS::aX,i1=>((oI (aM) ((i1:Int))).bind fun x30=>((sF (aS) (x30)).bind fun CK=>(bif !(CK)then(some (false))else(lT aA aM k1 aX (i1+1)))))
def tQ(aA:List aI)(aM:List aI):Option Bool:=(bif ((((aA).map aI.c).length:Int):Int) != ((((aM).map aI.c).length:Int))then(some (false))else(lT aA aM (some (true)) (aA) 0))
def OO(aA:List aI)(aM:List aI)(bB:Int):St:=⟨[(0,D.sl ((aA).map aI.c)),(1,D.sl ((aM).map aI.c)),(5,D.int .i64 (bB))],[]⟩
theorem MB(hΓ:Γ.nt=27){aA:List aI}{aM:List aI}{r:Bool}{k1:Option Bool}(bE:k1=some r→Ax Γ N Tryz.f37 (.q [[none]] (D.bool (r))) [1,1,1] ⟨[],[]⟩)(hm1:(aA).length≤maxLen):∀(rest:List aI) (i1:Nat),(aA).drop i1=rest→lT aA aM k1 rest i1=some r→Ar Γ N Tryz.f37 (.q [[none]] (D.bool (r))) [1,1,0,1,0] (rest.length+1) (OO aA aM ((i1:Int))):=by
 intro rest
 induction rest with
 |nil=>
  intro i1 aO h
  rw[lT]at h
  refine aJ fun N1 aY aV=>?_
  exact((aK.ge aI.c aO).a [.hl 0 [] []]).ex hΓ aY (bE h)
 |cons aS aX ih1=>
  intro i1 aO h
  rw[lT]at h
  refine aJ fun N1 aY aV=>?_
  obtain⟨x30,h31,h⟩:=aB h
  obtain⟨CK,h33,h⟩:=aB h
  have bO:=(((((aK.lt aI.c aO).a [.n 8]).l (aQ aI.c 4 (dc aO) rfl)).l (bP aI.c 4 h31 rfl)).g (MA h33))
  obtain⟨h34,h⟩|⟨h34,h⟩:=aE h
  ·have h:=aC h;subst h;exact(bO.b h34).ret hΓ
  ·exact((bO.b h34).a [.cn [0,1,5] []]).ct hΓ aV (iS aO hm1) (ih1 (i1+1) (dn aO) h)
theorem zC{aA:List aI}{aM:List aI}{r:Bool}(h:tQ aA aM=some r):Good Tryz.prog 37 [D.sl ((aA).map aI.c),D.sl ((aM).map aI.c)] (D.bool (r)):=by
 refine gd Tryz.func37 [[none]] 27 fun hr Γ hΓ=>?_
 rw[tQ]at h
 obtain⟨h1,h⟩|⟨h1,h⟩:=aE h
 ·have h:=aC h;subst h;exact(aK.b h1).ret hΓ
 ·refine((aK.b h1).a [.cn [0,1,5] []]).lp hΓ (MB hΓ (fun h=>?_) (by have:=(bR.sl (hr _ (List.mem_of_getElem? (i:=0) rfl))).1;simpa using this) (aA) 0 rfl h)
  have h:=aC h;subst h;exact aK.ret hΓ
def nC(aA:List Int)(aM:List Int)(k1:Option Bool):List Int→Nat→Option Bool
 | [],i1=>(k1)
 |aS::aX,i1=>((oI (aM) ((i1:Int))).bind fun x22=>(bif (aS:Int) != (x22)then(some (false))else(nC aA aM k1 aX (i1+1))))
def uS(aA:List Int)(aM:List Int):Option Bool:=(bif ((((aA).map iL).length:Int):Int) != ((((aM).map iL).length:Int))then(some (false))else(nC aA aM (some (true)) (aA) 0))
def R1(aA:List Int)(aM:List Int)(bB:Int):St:=⟨[(0,D.sl ((aA).map iL)),(1,D.sl ((aM).map iL)),(5,D.int .i64 (bB))],[]⟩
theorem OP(hΓ:Γ.nt=26){aA:List Int}{aM:List Int}{r:Bool}{k1:Option Bool}(bE:k1=some r→Ax Γ N Tryz.f54 (.q [[none]] (D.bool (r))) [1,1,1] ⟨[],[]⟩)(hm1:(aA).length≤maxLen):∀(rest:List Int) (i1:Nat),(aA).drop i1=rest→nC aA aM k1 rest i1=some r→Ar Γ N Tryz.f54 (.q [[none]] (D.bool (r))) [1,1,0,1,0] (rest.length+1) (R1 aA aM ((i1:Int))):=by
 intro rest
 induction rest with
 |nil=>
  intro i1 aO h
  rw[nC]at h
  refine aJ fun N1 aY aV=>?_
  exact((aK.ge iL aO).a [.hl 0 [] []]).ex hΓ aY (bE h)
 |cons aS aX ih1=>
  intro i1 aO h
  rw[nC]at h
  refine aJ fun N1 aY aV=>?_
  obtain⟨x22,h23,h⟩:=aB h
  have bO:=((((aK.lt iL aO).a [.n 8]).l (aQ iL 1 (dc aO) rfl)).l (bP iL 1 h23 rfl))
  obtain⟨h24,h⟩|⟨h24,h⟩:=aE h
  ·have h:=aC h;subst h;exact(bO.b h24).ret hΓ
  ·exact((bO.b h24).a [.cn [0,1,5] []]).ct hΓ aV (iS aO hm1) (ih1 (i1+1) (dn aO) h)
theorem MC{aA:List Int}{aM:List Int}{r:Bool}(h:uS aA aM=some r):Good Tryz.prog 54 [D.sl ((aA).map iL),D.sl ((aM).map iL)] (D.bool (r)):=by
 refine gd Tryz.func54 [[none]] 26 fun hr Γ hΓ=>?_
 rw[uS]at h
 obtain⟨h1,h⟩|⟨h1,h⟩:=aE h
 ·have h:=aC h;subst h;exact(aK.b h1).ret hΓ
 ·refine((aK.b h1).a [.cn [0,1,5] []]).lp hΓ (OP hΓ (fun h=>?_) (by have:=(bR.sl (hr _ (List.mem_of_getElem? (i:=0) rfl))).1;simpa using this) (aA) 0 rfl h)
  have h:=aC h;subst h;exact aK.ret hΓ
def sG(aA:aD)(aM:aD):Option Bool:=(bif !((aA.rel:Bytes)==(aM.rel))then(some (false))else((nB (aA.args) (aM.args)).bind fun y2=>(bif !(y2)then(some (false))else(some (true)))))
theorem MD{aA:aD}{aM:aD}{r:Bool}(h:sG aA aM=some r):Good Tryz.prog 27 [D.agg (aD.c aA),D.agg (aD.c aM)] (D.bool (r)):=by
 refine gd Tryz.func27 [[none]] 16 fun hr Γ hΓ=>?_
 rw[sG]at h
 obtain⟨h1,h⟩|⟨h1,h⟩:=aE h
 ·have h:=aC h;subst h;exact(aK.b h1).ret hΓ
 ·obtain⟨y2,h3,h⟩:=aB h
  have jO:=((aK.b h1).g (wT h3))
  obtain⟨h4,h⟩|⟨h4,h⟩:=aE h
  ·have h:=aC h;subst h;exact(jO.b h4).ret hΓ
  ·have h:=aC h;subst h;exact(jO.b h4).ret hΓ
def lU(aA:List aD)(aM:List aD)(k1:Option Bool):List aD→Nat→Option Bool
 | [],i1=>(k1)
 |aS::aX,i1=>((oI (aM) ((i1:Int))).bind fun x30=>((sG (aS) (x30)).bind fun CK=>(bif !(CK)then(some (false))else(lU aA aM k1 aX (i1+1)))))
def nR(aA:List aD)(aM:List aD):Option Bool:=(bif ((((aA).map aD.c).length:Int):Int) != ((((aM).map aD.c).length:Int))then(some (false))else(lU aA aM (some (true)) (aA) 0))
def OQ(aA:List aD)(aM:List aD)(bB:Int):St:=⟨[(0,D.sl ((aA).map aD.c)),(1,D.sl ((aM).map aD.c)),(5,D.int .i64 (bB))],[]⟩
theorem ME(hΓ:Γ.nt=27){aA:List aD}{aM:List aD}{r:Bool}{k1:Option Bool}(bE:k1=some r→Ax Γ N Tryz.f18 (.q [[none]] (D.bool (r))) [1,1,1] ⟨[],[]⟩)(hm1:(aA).length≤maxLen):∀(rest:List aD) (i1:Nat),(aA).drop i1=rest→lU aA aM k1 rest i1=some r→Ar Γ N Tryz.f18 (.q [[none]] (D.bool (r))) [1,1,0,1,0] (rest.length+1) (OQ aA aM ((i1:Int))):=by
 intro rest
 induction rest with
 |nil=>
  intro i1 aO h
  rw[lU]at h
  refine aJ fun N1 aY aV=>?_
  exact((aK.ge aD.c aO).a [.hl 0 [] []]).ex hΓ aY (bE h)
 |cons aS aX ih1=>
  intro i1 aO h
  rw[lU]at h
  refine aJ fun N1 aY aV=>?_
  obtain⟨x30,h31,h⟩:=aB h
  obtain⟨CK,h33,h⟩:=aB h
  have bO:=(((((aK.lt aD.c aO).a [.n 8]).l (aQ aD.c 2 (dc aO) rfl)).l (bP aD.c 2 h31 rfl)).g (MD h33))
  obtain⟨h34,h⟩|⟨h34,h⟩:=aE h
  ·have h:=aC h;subst h;exact(bO.b h34).ret hΓ
  ·exact((bO.b h34).a [.cn [0,1,5] []]).ct hΓ aV (iS aO hm1) (ih1 (i1+1) (dn aO) h)
theorem pJ{aA:List aD}{aM:List aD}{r:Bool}(h:nR aA aM=some r):Good Tryz.prog 18 [D.sl ((aA).map aD.c),D.sl ((aM).map aD.c)] (D.bool (r)):=by
 refine gd Tryz.func18 [[none]] 27 fun hr Γ hΓ=>?_
 rw[nR]at h
 obtain⟨h1,h⟩|⟨h1,h⟩:=aE h
 ·have h:=aC h;subst h;exact(aK.b h1).ret hΓ
 ·refine((aK.b h1).a [.cn [0,1,5] []]).lp hΓ (ME hΓ (fun h=>?_) (by have:=(bR.sl (hr _ (List.mem_of_getElem? (i:=0) rfl))).1;simpa using this) (aA) 0 rfl h)
  have h:=aC h;subst h;exact aK.ret hΓ
def pY(aA:aN)(aM:aN):Option Bool:=((kC (aA.shape) (aM.shape)).bind fun y1=>(bif !(y1)then(some (false))else((nR (aA.facts) (aM.facts)).bind fun y4=>(bif !(y4)then(some (false))else(some (true))))))
theorem JE{aA:aN}{aM:aN}{r:Bool}(h:pY aA aM=some r):Good Tryz.prog 115 [D.agg (aN.c aA),D.agg (aN.c aM)] (D.bool (r)):=by
 refine gd Tryz.func115 [[none]] 17 fun hr Γ hΓ=>?_
 rw[pY]at h
 obtain⟨y1,h2,h⟩:=aB h
 obtain⟨h3,h⟩|⟨h3,h⟩:=aE h
 ·have h:=aC h;subst h;exact((aK.g (nZ h2)).b h3).ret hΓ
 ·obtain⟨y4,h5,h⟩:=aB h
  have jO:=(((aK.g (nZ h2)).b h3).g (pJ h5))
  obtain⟨h6,h⟩|⟨h6,h⟩:=aE h
  ·have h:=aC h;subst h;exact(jO.b h6).ret hΓ
  ·have h:=aC h;subst h;exact(jO.b h6).ret hΓ
def kD(aA:List aN)(aM:List aN)(k1:Option Bool):List aN→Nat→Option Bool
 | [],i1=>(k1)
 |aS::aX,i1=>((oI (aM) ((i1:Int))).bind fun x30=>((pY (aS) (x30)).bind fun CK=>(bif !(CK)then(some (false))else(kD aA aM k1 aX (i1+1)))))
def rJ(aA:List aN)(aM:List aN):Option Bool:=(bif ((((aA).map aN.c).length:Int):Int) != ((((aM).map aN.c).length:Int))then(some (false))else(kD aA aM (some (true)) (aA) 0))
def MF(aA:List aN)(aM:List aN)(bB:Int):St:=⟨[(0,D.sl ((aA).map aN.c)),(1,D.sl ((aM).map aN.c)),(5,D.int .i64 (bB))],[]⟩
theorem JF(hΓ:Γ.nt=27){aA:List aN}{aM:List aN}{r:Bool}{k1:Option Bool}(bE:k1=some r→Ax Γ N Tryz.f55 (.q [[none]] (D.bool (r))) [1,1,1] ⟨[],[]⟩)(hm1:(aA).length≤maxLen):∀(rest:List aN) (i1:Nat),(aA).drop i1=rest→kD aA aM k1 rest i1=some r→Ar Γ N Tryz.f55 (.q [[none]] (D.bool (r))) [1,1,0,1,0] (rest.length+1) (MF aA aM ((i1:Int))):=by
 intro rest
 induction rest with
 |nil=>
  intro i1 aO h
  rw[kD]at h
  refine aJ fun N1 aY aV=>?_
  exact((aK.ge aN.c aO).a [.hl 0 [] []]).ex hΓ aY (bE h)
 |cons aS aX ih1=>
  intro i1 aO h
  rw[kD]at h
  refine aJ fun N1 aY aV=>?_
  obtain⟨x30,h31,h⟩:=aB h
  obtain⟨CK,h33,h⟩:=aB h
  have bO:=(((((aK.lt aN.c aO).a [.n 8]).l (aQ aN.c 3 (dc aO) rfl)).l (bP aN.c 3 h31 rfl)).g (JE h33))
  obtain⟨h34,h⟩|⟨h34,h⟩:=aE h
  ·have h:=aC h;subst h;exact(bO.b h34).ret hΓ
  ·exact((bO.b h34).a [.cn [0,1,5] []]).ct hΓ aV (iS aO hm1) (ih1 (i1+1) (dn aO) h)
theorem GD{aA:List aN}{aM:List aN}{r:Bool}(h:rJ aA aM=some r):Good Tryz.prog 55 [D.sl ((aA).map aN.c),D.sl ((aM).map aN.c)] (D.bool (r)):=by
 refine gd Tryz.func55 [[none]] 27 fun hr Γ hΓ=>?_
 rw[rJ]at h
 obtain⟨h1,h⟩|⟨h1,h⟩:=aE h
 ·have h:=aC h;subst h;exact(aK.b h1).ret hΓ
 ·refine((aK.b h1).a [.cn [0,1,5] []]).lp hΓ (JF hΓ (fun h=>?_) (by have:=(bR.sl (hr _ (List.mem_of_getElem? (i:=0) rfl))).1;simpa using this) (aA) 0 rfl h)
  have h:=aC h;subst h;exact aK.ret hΓ
def sH(aA:aH)(aM:aH):Option Bool:=(bif !((aA.var:Bytes)==(aM.var))then(some (false))else(bif !((aA.value:Bytes)==(aM.value))then(some (false))else(some (true))))
theorem MG{aA:aH}{aM:aH}{r:Bool}(h:sH aA aM=some r):Good Tryz.prog 195 [D.agg (aH.c aA),D.agg (aH.c aM)] (D.bool (r)):=by
 refine gd Tryz.func195 [[none]] 15 fun hr Γ hΓ=>?_
 rw[sH]at h
 obtain⟨h1,h⟩|⟨h1,h⟩:=aE h
 ·have h:=aC h;subst h;exact(aK.b h1).ret hΓ
 ·obtain⟨h2,h⟩|⟨h2,h⟩:=aE h
  ·have h:=aC h;subst h;exact((aK.b h1).b h2).ret hΓ
  ·have h:=aC h;subst h;exact((aK.b h1).b h2).ret hΓ
def lV(aA:List aH)(aM:List aH)(k1:Option Bool):List aH→Nat→Option Bool
 | [],i1=>(k1)
 |aS::aX,i1=>((oI (aM) ((i1:Int))).bind fun x30=>((sH (aS) (x30)).bind fun CK=>(bif !(CK)then(some (false))else(lV aA aM k1 aX (i1+1)))))
def tR(aA:List aH)(aM:List aH):Option Bool:=(bif ((((aA).map aH.c).length:Int):Int) != ((((aM).map aH.c).length:Int))then(some (false))else(lV aA aM (some (true)) (aA) 0))
def OR(aA:List aH)(aM:List aH)(bB:Int):St:=⟨[(0,D.sl ((aA).map aH.c)),(1,D.sl ((aM).map aH.c)),(5,D.int .i64 (bB))],[]⟩
theorem MH(hΓ:Γ.nt=27){aA:List aH}{aM:List aH}{r:Bool}{k1:Option Bool}(bE:k1=some r→Ax Γ N Tryz.f130 (.q [[none]] (D.bool (r))) [1,1,1] ⟨[],[]⟩)(hm1:(aA).length≤maxLen):∀(rest:List aH) (i1:Nat),(aA).drop i1=rest→lV aA aM k1 rest i1=some r→Ar Γ N Tryz.f130 (.q [[none]] (D.bool (r))) [1,1,0,1,0] (rest.length+1) (OR aA aM ((i1:Int))):=by
 intro rest
 induction rest with
 |nil=>
  intro i1 aO h
  rw[lV]at h
  refine aJ fun N1 aY aV=>?_
  exact((aK.ge aH.c aO).a [.hl 0 [] []]).ex hΓ aY (bE h)
 |cons aS aX ih1=>
  intro i1 aO h
  rw[lV]at h
  refine aJ fun N1 aY aV=>?_
  obtain⟨x30,h31,h⟩:=aB h
  obtain⟨CK,h33,h⟩:=aB h
  have bO:=(((((aK.lt aH.c aO).a [.n 8]).l (aQ aH.c 2 (dc aO) rfl)).l (bP aH.c 2 h31 rfl)).g (MG h33))
  obtain⟨h34,h⟩|⟨h34,h⟩:=aE h
  ·have h:=aC h;subst h;exact(bO.b h34).ret hΓ
  ·exact((bO.b h34).a [.cn [0,1,5] []]).ct hΓ aV (iS aO hm1) (ih1 (i1+1) (dn aO) h)
theorem JG{aA:List aH}{aM:List aH}{r:Bool}(h:tR aA aM=some r):Good Tryz.prog 130 [D.sl ((aA).map aH.c),D.sl ((aM).map aH.c)] (D.bool (r)):=by
 refine gd Tryz.func130 [[none]] 27 fun hr Γ hΓ=>?_
 rw[tR]at h
 obtain⟨h1,h⟩|⟨h1,h⟩:=aE h
 ·have h:=aC h;subst h;exact(aK.b h1).ret hΓ
 ·refine((aK.b h1).a [.cn [0,1,5] []]).lp hΓ (MH hΓ (fun h=>?_) (by have:=(bR.sl (hr _ (List.mem_of_getElem? (i:=0) rfl))).1;simpa using this) (aA) 0 rfl h)
  have h:=aC h;subst h;exact aK.ret hΓ
def pZ(aA:aL)(aM:aL):Option Bool:=((nR (aA.facts) (aM.facts)).bind fun y1=>(bif !(y1)then(some (false))else((tR (aA.bind) (aM.bind)).bind fun y4=>(bif !(y4)then(some (false))else(some (true))))))
theorem JH{aA:aL}{aM:aL}{r:Bool}(h:pZ aA aM=some r):Good Tryz.prog 245 [D.agg (aL.c aA),D.agg (aL.c aM)] (D.bool (r)):=by
 refine gd Tryz.func245 [[none]] 17 fun hr Γ hΓ=>?_
 rw[pZ]at h
 obtain⟨y1,h2,h⟩:=aB h
 obtain⟨h3,h⟩|⟨h3,h⟩:=aE h
 ·have h:=aC h;subst h;exact((aK.g (pJ h2)).b h3).ret hΓ
 ·obtain⟨y4,h5,h⟩:=aB h
  have jO:=(((aK.g (pJ h2)).b h3).g (JG h5))
  obtain⟨h6,h⟩|⟨h6,h⟩:=aE h
  ·have h:=aC h;subst h;exact(jO.b h6).ret hΓ
  ·have h:=aC h;subst h;exact(jO.b h6).ret hΓ
def kE(aA:List aL)(aM:List aL)(k1:Option Bool):List aL→Nat→Option Bool
 | [],i1=>(k1)
 |aS::aX,i1=>((oI (aM) ((i1:Int))).bind fun x30=>((pZ (aS) (x30)).bind fun CK=>(bif !(CK)then(some (false))else(kE aA aM k1 aX (i1+1)))))
def rK(aA:List aL)(aM:List aL):Option Bool:=(bif ((((aA).map aL.c).length:Int):Int) != ((((aM).map aL.c).length:Int))then(some (false))else(kE aA aM (some (true)) (aA) 0))
def MI(aA:List aL)(aM:List aL)(bB:Int):St:=⟨[(0,D.sl ((aA).map aL.c)),(1,D.sl ((aM).map aL.c)),(5,D.int .i64 (bB))],[]⟩
theorem JI(hΓ:Γ.nt=27){aA:List aL}{aM:List aL}{r:Bool}{k1:Option Bool}(bE:k1=some r→Ax Γ N Tryz.f188 (.q [[none]] (D.bool (r))) [1,1,1] ⟨[],[]⟩)(hm1:(aA).length≤maxLen):∀(rest:List aL) (i1:Nat),(aA).drop i1=rest→kE aA aM k1 rest i1=some r→Ar Γ N Tryz.f188 (.q [[none]] (D.bool (r))) [1,1,0,1,0] (rest.length+1) (MI aA aM ((i1:Int))):=by
 intro rest
 induction rest with
 |nil=>
  intro i1 aO h
  rw[kE]at h
  refine aJ fun N1 aY aV=>?_
  exact((aK.ge aL.c aO).a [.hl 0 [] []]).ex hΓ aY (bE h)
 |cons aS aX ih1=>
  intro i1 aO h
  rw[kE]at h
  refine aJ fun N1 aY aV=>?_
  obtain⟨x30,h31,h⟩:=aB h
  obtain⟨CK,h33,h⟩:=aB h
  have bO:=(((((aK.lt aL.c aO).a [.n 8]).l (aQ aL.c 2 (dc aO) rfl)).l (bP aL.c 2 h31 rfl)).g (JH h33))
  obtain⟨h34,h⟩|⟨h34,h⟩:=aE h
  ·have h:=aC h;subst h;exact(bO.b h34).ret hΓ
  ·exact((bO.b h34).a [.cn [0,1,5] []]).ct hΓ aV (iS aO hm1) (ih1 (i1+1) (dn aO) h)
theorem GF{aA:List aL}{aM:List aL}{r:Bool}(h:rK aA aM=some r):Good Tryz.prog 188 [D.sl ((aA).map aL.c),D.sl ((aM).map aL.c)] (D.bool (r)):=by
 refine gd Tryz.func188 [[none]] 27 fun hr Γ hΓ=>?_
 rw[rK]at h
 obtain⟨h1,h⟩|⟨h1,h⟩:=aE h
 ·have h:=aC h;subst h;exact(aK.b h1).ret hΓ
 ·refine((aK.b h1).a [.cn [0,1,5] []]).lp hΓ (JI hΓ (fun h=>?_) (by have:=(bR.sl (hr _ (List.mem_of_getElem? (i:=0) rfl))).1;simpa using this) (aA) 0 rfl h)
  have h:=aC h;subst h;exact aK.ret hΓ
def sI(aA:Node)(aM:Node):Option Bool:=(bif (aA.parent:Int) != (aM.parent)then(some (false))else((oX (aA.cond) (aM.cond)).bind fun y2=>(bif !(y2)then(some (false))else(bif (aA.iO:Int) != (aM.iO)then(some (false))else((rK (aA.tokens) (aM.tokens)).bind fun y6=>(bif !(y6)then(some (false))else(some (true))))))))
theorem MJ{aA:Node}{aM:Node}{r:Bool}(h:sI aA aM=some r):Good Tryz.prog 116 [D.agg (Node.c aA),D.agg (Node.c aM)] (D.bool (r)):=by
 refine gd Tryz.func116 [[none]] 27 fun hr Γ hΓ=>?_
 rw[sI]at h
 obtain⟨h1,h⟩|⟨h1,h⟩:=aE h
 ·have h:=aC h;subst h;exact(aK.b h1).ret hΓ
 ·obtain⟨y2,h3,h⟩:=aB h
  have jO:=((aK.b h1).g (AG h3))
  obtain⟨h4,h⟩|⟨h4,h⟩:=aE h
  ·have h:=aC h;subst h;exact(jO.b h4).ret hΓ
  ·obtain⟨h5,h⟩|⟨h5,h⟩:=aE h
   ·have h:=aC h;subst h;exact((jO.b h4).b h5).ret hΓ
   ·obtain⟨y6,h7,h⟩:=aB h
    have bO:=(((jO.b h4).b h5).g (GF h7))
    obtain⟨h8,h⟩|⟨h8,h⟩:=aE h
    ·have h:=aC h;subst h;exact(bO.b h8).ret hΓ
    ·have h:=aC h;subst h;exact(bO.b h8).ret hΓ
def lW(aA:List Node)(aM:List Node)(k1:Option Bool):List Node→Nat→Option Bool
 | [],i1=>(k1)
 |aS::aX,i1=>((oI (aM) ((i1:Int))).bind fun x30=>((sI (aS) (x30)).bind fun CK=>(bif !(CK)then(some (false))else(lW aA aM k1 aX (i1+1)))))
def tS(aA:List Node)(aM:List Node):Option Bool:=(bif ((((aA).map Node.c).length:Int):Int) != ((((aM).map Node.c).length:Int))then(some (false))else(lW aA aM (some (true)) (aA) 0))
def OS(aA:List Node)(aM:List Node)(bB:Int):St:=⟨[(0,D.sl ((aA).map Node.c)),(1,D.sl ((aM).map Node.c)),(5,D.int .i64 (bB))],[]⟩
theorem MK(hΓ:Γ.nt=27){aA:List Node}{aM:List Node}{r:Bool}{k1:Option Bool}(bE:k1=some r→Ax Γ N Tryz.f56 (.q [[none]] (D.bool (r))) [1,1,1] ⟨[],[]⟩)(hm1:(aA).length≤maxLen):∀(rest:List Node) (i1:Nat),(aA).drop i1=rest→lW aA aM k1 rest i1=some r→Ar Γ N Tryz.f56 (.q [[none]] (D.bool (r))) [1,1,0,1,0] (rest.length+1) (OS aA aM ((i1:Int))):=by
 intro rest
 induction rest with
 |nil=>
  intro i1 aO h
  rw[lW]at h
  refine aJ fun N1 aY aV=>?_
  exact((aK.ge Node.c aO).a [.hl 0 [] []]).ex hΓ aY (bE h)
 |cons aS aX ih1=>
  intro i1 aO h
  rw[lW]at h
  refine aJ fun N1 aY aV=>?_
  obtain⟨x30,h31,h⟩:=aB h
  obtain⟨CK,h33,h⟩:=aB h
  have bO:=(((((aK.lt Node.c aO).a [.n 8]).l (aQ Node.c 8 (dc aO) rfl)).l (bP Node.c 8 h31 rfl)).g (MJ h33))
  obtain⟨h34,h⟩|⟨h34,h⟩:=aE h
  ·have h:=aC h;subst h;exact(bO.b h34).ret hΓ
  ·exact((bO.b h34).a [.cn [0,1,5] []]).ct hΓ aV (iS aO hm1) (ih1 (i1+1) (dn aO) h)
theorem JJ{aA:List Node}{aM:List Node}{r:Bool}(h:tS aA aM=some r):Good Tryz.prog 56 [D.sl ((aA).map Node.c),D.sl ((aM).map Node.c)] (D.bool (r)):=by
 refine gd Tryz.func56 [[none]] 27 fun hr Γ hΓ=>?_
 rw[tS]at h
 obtain⟨h1,h⟩|⟨h1,h⟩:=aE h
 ·have h:=aC h;subst h;exact(aK.b h1).ret hΓ
 ·refine((aK.b h1).a [.cn [0,1,5] []]).lp hΓ (MK hΓ (fun h=>?_) (by have:=(bR.sl (hr _ (List.mem_of_getElem? (i:=0) rfl))).1;simpa using this) (aA) 0 rfl h)
  have h:=aC h;subst h;exact aK.ret hΓ
def q8(aA:aG)(aM:aG):Option Bool:=((tQ (aA.rules) (aM.rules)).bind fun y1=>(bif !(y1)then(some (false))else((uS (aA.ends) (aM.ends)).bind fun y4=>(bif !(y4)then(some (false))else((rJ (aA.aR) (aM.aR)).bind fun y7=>(bif !(y7)then(some (false))else((tS (aA.nodes) (aM.nodes)).bind fun QZ=>(bif !(QZ)then(some (false))else((nR (aA.facts) (aM.facts)).bind fun sZ=>(bif !(sZ)then(some (false))else(bif (aA.bJ:Int) != (aM.bJ)then(some (false))else(some (true)))))))))))))
theorem EI{aA:aG}{aM:aG}{r:Bool}(h:q8 aA aM=some r):Good Tryz.prog 17 [D.agg (aG.c aA),D.agg (aG.c aM)] (D.bool (r)):=by
 refine gd Tryz.func17 [[none]] 40 fun hr Γ hΓ=>?_
 rw[q8]at h
 obtain⟨y1,h2,h⟩:=aB h
 obtain⟨h3,h⟩|⟨h3,h⟩:=aE h
 ·have h:=aC h;subst h;exact((aK.g (zC h2)).b h3).ret hΓ
 ·obtain⟨y4,h5,h⟩:=aB h
  have jO:=(((aK.g (zC h2)).b h3).g (MC h5))
  obtain⟨h6,h⟩|⟨h6,h⟩:=aE h
  ·have h:=aC h;subst h;exact(jO.b h6).ret hΓ
  ·obtain⟨y7,h8,h⟩:=aB h
   have bO:=((jO.b h6).g (GD h8))
   obtain⟨h9,h⟩|⟨h9,h⟩:=aE h
   ·have h:=aC h;subst h;exact(bO.b h9).ret hΓ
   ·obtain⟨QZ,h11,h⟩:=aB h
    have mG:=((bO.b h9).g (JJ h11))
    obtain⟨h12,h⟩|⟨h12,h⟩:=aE h
    ·have h:=aC h;subst h;exact(mG.b h12).ret hΓ
    ·obtain⟨sZ,h14,h⟩:=aB h
     have l8:=((mG.b h12).g (pJ h14))
     obtain⟨h15,h⟩|⟨h15,h⟩:=aE h
     ·have h:=aC h;subst h;exact(l8.b h15).ret hΓ
     ·obtain⟨h16,h⟩|⟨h16,h⟩:=aE h
      ·have h:=aC h;subst h;exact((l8.b h15).b h16).ret hΓ
      ·have h:=aC h;subst h;exact((l8.b h15).b h16).ret hΓ
end Go.Cx
namespace Go.Cx
open Go.RowKit Go.Proofs
set_option linter.unusedVariables false
set_option linter.unusedSimpArgs false
set_option maxRecDepth 100000
variable{Γ:uK}{N:Nat→St→Prop}
end Go.Cx
namespace Go.Cx
open Go.RowKit Go.Proofs
set_option linter.unusedVariables false
set_option linter.unusedSimpArgs false
set_option maxRecDepth 100000
variable{Γ:uK}{N:Nat→St→Prop}
end Go.Cx
namespace Go.Cx
open Go.RowKit Go.Proofs
set_option linter.unusedVariables false
set_option linter.unusedSimpArgs false
theorem vG.sub{a b:List D}(h:vG a)(hs:∀d∈b,d∈a):vG b:=fun d hd=>h d (hs d hd)
def zw(_:Int):Nat:=0
theorem aBt(l:List Int):(l.map zw).sum=0:=by
 induction l with
 |nil=>rfl
 |cons x l ih=>simp only[List.map_cons,List.sum_cons,ih];rfl
theorem OT(l:List Bytes)(h:bR (.sl (l.map tx)))(v:Int)(h0:0≤v)(h1:v≤1048576):uP (n9 l v) v (j6 tw l):=by
 unfold n9
 exact szS h h0 h1 fun v' g0 g1=>szL (w:=tw) (f:=fun x v=>some (IntKind.i64.wrap (v-(x.length:Int)))) (fG l (fun z=>some z)) (fun _ _=>rfl) (fun _ _ _ _=>by simp only[fG,Option.bind_some]) l (fun x hx v g0 g1=>⟨_,rfl,by rw[a6o ((vG.row h x hx (.str x) (by simp)).str) g0 g1];omega,fun q=>by rw[a6o ((vG.row h x hx (.str x) (by simp)).str) g0 g1]at q⊢;unfold tw;omega⟩) 0 v' g0 g1
theorem OU(l:List Bytes)(h:j6 tw l≤1048576):nA l=some l:=by
 unfold nA
 rw[L7 (by rw[List.length_map];exact Nat.le_trans (gB _ _) h) (by decide)]
 exact toL (c:=tx) (f:=(fun x=>some x)) (fH l (fun q=>some q)) (fun _ _=>rfl) (fun _ _ _ _=>by simp only[fH,Option.bind_some]) (fun x hx=>rfl)
theorem OV(a b:List Bytes):nB a b=some (decide (a=b)):=by
 unfold nB
 exact WN (c:=tx) (f:=(fun x y=>some (x==y))) (fun k=>j9 a b k) (fun _ _=>rfl) (fun _ _ _ _=>rfl) (fun x y=>by rw[Option.some.injEq,Bool.eq_iff_iff];simp)
theorem a4I(l:List Int)(h:bR (.sl (l.map iL)))(v:Int)(h0:0≤v)(h1:v≤1048576):uP (uQ l v) v (j6 zw l):=by
 unfold uQ
 exact szS h h0 h1 fun v' g0 g1=>uP.fin.eq (aBt l).symm
theorem a4J(l:List Int)(h:j6 zw l≤1048576):uR l=some l:=by
 unfold uR
 rw[L7 (by rw[List.length_map];exact Nat.le_trans (gB _ _) h) (by decide)]
 exact toL (c:=iL) (f:=(fun x=>some x)) (k8 l (fun q=>some q)) (fun _ _=>rfl) (fun _ _ _ _=>by simp only[k8,Option.bind_some]) (fun x hx=>rfl)
theorem a4K(a b:List Int):uS a b=some (decide (a=b)):=by
 unfold uS
 exact WN (c:=iL) (f:=(fun x y=>some (x==y))) (fun k=>nC a b k) (fun _ _=>rfl) (fun _ _ _ _=>rfl) (fun x y=>by rw[Option.some.injEq,Bool.eq_iff_iff];simp)
def aD.wt(x:aD):Nat:=tw x.rel+j6 tw x.args
theorem a4L(x:aD)(h:vG x.c)(v:Int)(h0:0≤v)(h1:v≤1048576):uP (s8 x v) v (aD.wt x):=by
 unfold s8
 refine uP.eq (n:=(tw x.rel+(j6 tw x.args+(0)))) ?_ (by simp only[aD.wt];omega)
 refine uP.str (m:=(j6 tw x.args+(0))) ((h (.str x.rel) (by simp)).str) h0 h1 fun g1 e1=>?_
 rw[e1]
 have l1:v-(x.rel.length:Int)≤1048576:=by omega
 refine(OT x.args (h (.sl (x.args.map tx)) (by simp)) _ g1 l1).sub l1 g1 (m:=0) fun r2 g2 l2=>?_
 exact uP.fin
theorem a4M(x:aD)(h:aD.wt x≤1048576):sC x=some x:=by
 unfold sC
 simp only[OU x.args (by simp only[aD.wt]at h;omega),Option.bind_some]
theorem a4N(a b:aD):sG a b=some (decide (a=b)):=by
 obtain⟨a0,a1⟩:=a
 obtain⟨b0,b1⟩:=b
 unfold sG
 simp only[OV,Option.bind_some,cB,bne]
 by_cases h0:a0=b0<;>by_cases h1:a1=b1<;>simp[h0,h1]
theorem ML(l:List aD)(h:bR (.sl (l.map aD.c)))(v:Int)(h0:0≤v)(h1:v≤1048576):uP (nP l v) v (j6 aD.wt l):=by
 unfold nP
 exact szS h h0 h1 fun v' g0 g1=>szL (w:=aD.wt) (f:=s8) (lI l (fun z=>some z)) (fun _ _=>rfl) (fun _ _ _ _=>rfl) l (fun x hx v g0 g1=>a4L x (vG.row h x hx) v g0 g1) 0 v' g0 g1
theorem MM(l:List aD)(h:j6 aD.wt l≤1048576):nQ l=some l:=by
 unfold nQ
 rw[L7 (by rw[List.length_map];exact Nat.le_trans (gB _ _) h) (by decide)]
 exact toL (c:=aD.c) (f:=sC) (lP l (fun q=>some q)) (fun _ _=>rfl) (fun _ _ _ _=>rfl) (fun x hx=>a4M x (by have:=iP (w:=aD.wt) hx;omega))
theorem MN(a b:List aD):nR a b=some (decide (a=b)):=by
 unfold nR
 exact WN (c:=aD.c) (f:=sG) (fun k=>lU a b k) (fun _ _=>rfl) (fun _ _ _ _=>rfl) a4N
theorem DI(x:aD)(h:vG x.c)(v:Int)(h0:0≤v)(h1:v≤1048576):uP (jY x v) v (aD.wt x):=by
 unfold jY
 refine uP.eq (n:=(tw x.rel+(j6 tw x.args+(0)))) ?_ (by simp only[aD.wt];omega)
 refine uP.str (m:=(j6 tw x.args+(0))) ((h (.str x.rel) (by simp)).str) h0 h1 fun g1 e1=>?_
 rw[e1]
 have l1:v-(x.rel.length:Int)≤1048576:=by omega
 refine(OT x.args (h (.sl (x.args.map tx)) (by simp)) _ g1 l1).sub l1 g1 (m:=0) fun r2 g2 l2=>?_
 exact uP.fin
theorem DJ(x:aD)(h:aD.wt x≤1048576):k7 x=some x:=by
 unfold k7
 simp only[OU x.args (by simp only[aD.wt]at h;omega),Option.bind_some]
theorem DK(a b:aD):kC a b=some (decide (a=b)):=by
 obtain⟨a0,a1⟩:=a
 obtain⟨b0,b1⟩:=b
 unfold kC
 simp only[OV,Option.bind_some,cB,bne]
 by_cases h0:a0=b0<;>by_cases h1:a1=b1<;>simp[h0,h1]
def aH.wt(x:aH):Nat:=tw x.var+tw x.value
theorem a4O(x:aH)(h:vG x.c)(v:Int)(h0:0≤v)(h1:v≤1048576):uP (s9 x v) v (aH.wt x):=by
 unfold s9
 refine uP.eq (n:=(tw x.var+(tw x.value+(0)))) ?_ (by simp only[aH.wt];omega)
 refine uP.str (m:=(tw x.value+(0))) ((h (.str x.var) (by simp)).str) h0 h1 fun g1 e1=>?_
 rw[e1]
 have l1:v-(x.var.length:Int)≤1048576:=by omega
 refine uP.str (m:=0) ((h (.str x.value) (by simp)).str) g1 l1 fun g2 e2=>?_
 rw[e2]
 have l2:v-(x.var.length:Int)-(x.value.length:Int)≤1048576:=by omega
 exact uP.fin
theorem a4P(x:aH)(h:aH.wt x≤1048576):sD x=some x:=by
 unfold sD
 rfl
theorem a4Q(a b:aH):sH a b=some (decide (a=b)):=by
 obtain⟨a0,a1⟩:=a
 obtain⟨b0,b1⟩:=b
 unfold sH
 simp only[Option.bind_some,cB,bne]
 by_cases h0:a0=b0<;>by_cases h1:a1=b1<;>simp[h0,h1]
theorem a1t(l:List aH)(h:bR (.sl (l.map aH.c)))(v:Int)(h0:0≤v)(h1:v≤1048576):uP (tI l v) v (j6 aH.wt l):=by
 unfold tI
 exact szS h h0 h1 fun v' g0 g1=>szL (w:=aH.wt) (f:=s9) (lJ l (fun z=>some z)) (fun _ _=>rfl) (fun _ _ _ _=>rfl) l (fun x hx v g0 g1=>a4O x (vG.row h x hx) v g0 g1) 0 v' g0 g1
theorem a1u(l:List aH)(h:j6 aH.wt l≤1048576):tN l=some l:=by
 unfold tN
 rw[L7 (by rw[List.length_map];exact Nat.le_trans (gB _ _) h) (by decide)]
 exact toL (c:=aH.c) (f:=sD) (lQ l (fun q=>some q)) (fun _ _=>rfl) (fun _ _ _ _=>rfl) (fun x hx=>a4P x (by have:=iP (w:=aH.wt) hx;omega))
theorem a1v(a b:List aH):tR a b=some (decide (a=b)):=by
 unfold tR
 exact WN (c:=aH.c) (f:=sH) (fun k=>lV a b k) (fun _ _=>rfl) (fun _ _ _ _=>rfl) a4Q
def aF.wt(x:aF):Nat:=tw x.pat.rel+j6 tw x.pat.args+tw x.left+tw x.right
theorem WO(x:aF)(h:vG x.c)(v:Int)(h0:0≤v)(h1:v≤1048576):uP (oV x v) v (aF.wt x):=by
 unfold oV
 refine uP.eq (n:=(aD.wt x.pat+(tw x.left+(tw x.right+(0))))) ?_ (by simp only[aF.wt,aD.wt];omega)
 refine(DI x.pat (vG.sub h (by intro d hd;simp only[List.mem_cons,List.not_mem_nil,or_false]at hd⊢;rcases hd with rfl|rfl<;>simp)) _ h0 h1).sub h1 h0 (m:=(tw x.left+(tw x.right+(0)))) fun r1 g1 l1=>?_
 refine uP.str (m:=(tw x.right+(0))) ((h (.str x.left) (by simp)).str) g1 l1 fun g2 e2=>?_
 rw[e2]
 have l2:r1-(x.left.length:Int)≤1048576:=by omega
 refine uP.str (m:=0) ((h (.str x.right) (by simp)).str) g2 l2 fun g3 e3=>?_
 rw[e3]
 have l3:r1-(x.left.length:Int)-(x.right.length:Int)≤1048576:=by omega
 exact uP.fin
theorem WQ(x:aF)(h:aF.wt x≤1048576):oW x=some x:=by
 unfold oW
 simp only[DJ x.pat (by simp only[aF.wt,aD.wt]at h⊢;omega),Option.bind_some]
theorem WR(a b:aF):oX a b=some (decide (a=b)):=by
 obtain⟨a0,a1,a2,a3⟩:=a
 obtain⟨b0,b1,b2,b3⟩:=b
 unfold oX
 simp only[DK,Option.bind_some,cB,bne]
 by_cases h0:a0=b0<;>by_cases h1:a1=b1<;>by_cases h2:a2=b2<;>by_cases h3:a3=b3<;>simp[h0,h1,h2,h3]
theorem a1w(l:List aF)(h:bR (.sl (l.map aF.c)))(v:Int)(h0:0≤v)(h1:v≤1048576):uP (tG l v) v (j6 aF.wt l):=by
 unfold tG
 exact szS h h0 h1 fun v' g0 g1=>szL (w:=aF.wt) (f:=oV) (lG l (fun z=>some z)) (fun _ _=>rfl) (fun _ _ _ _=>rfl) l (fun x hx v g0 g1=>WO x (vG.row h x hx) v g0 g1) 0 v' g0 g1
theorem a1x(l:List aF)(h:j6 aF.wt l≤1048576):tL l=some l:=by
 unfold tL
 rw[L7 (by rw[List.length_map];exact Nat.le_trans (gB _ _) h) (by decide)]
 exact toL (c:=aF.c) (f:=oW) (lM l (fun q=>some q)) (fun _ _=>rfl) (fun _ _ _ _=>rfl) (fun x hx=>WQ x (by have:=iP (w:=aF.wt) hx;omega))
theorem a1y(a b:List aF):tP a b=some (decide (a=b)):=by
 unfold tP
 exact WN (c:=aF.c) (f:=oX) (fun k=>lS a b k) (fun _ _=>rfl) (fun _ _ _ _=>rfl) WR
def Action.wt(x:Action):Nat:=tw x.pat.rel+j6 tw x.pat.args
theorem a0N(x:Action)(h:vG x.c)(v:Int)(h0:0≤v)(h1:v≤1048576):uP (o5 x v) v (Action.wt x):=by
 unfold o5
 refine uP.eq (n:=(aD.wt x.pat+(0))) ?_ (by simp only[Action.wt,aD.wt];omega)
 refine(DI x.pat (vG.sub h (by intro d hd;simp only[List.mem_cons,List.not_mem_nil,or_false]at hd⊢;rcases hd with rfl|rfl<;>simp)) _ h0 h1).sub h1 h0 (m:=0) fun r1 g1 l1=>?_
 exact uP.fin
theorem a0O(x:Action)(h:Action.wt x≤1048576):o6 x=some x:=by
 unfold o6
 simp only[DJ x.pat (by simp only[Action.wt,aD.wt]at h⊢;omega),Option.bind_some]
theorem a0P(a b:Action):o7 a b=some (decide (a=b)):=by
 obtain⟨a0,a1⟩:=a
 obtain⟨b0,b1⟩:=b
 unfold o7
 simp only[DK,Option.bind_some,cB,bne]
 by_cases h0:a0=b0<;>by_cases h1:a1=b1<;>simp[h0,h1]
theorem Y8(l:List Action)(h:bR (.sl (l.map Action.c)))(v:Int)(h0:0≤v)(h1:v≤1048576):uP (pQ l v) v (j6 Action.wt l):=by
 unfold pQ
 exact szS h h0 h1 fun v' g0 g1=>szL (w:=Action.wt) (f:=o5) (j7 l (fun z=>some z)) (fun _ _=>rfl) (fun _ _ _ _=>rfl) l (fun x hx v g0 g1=>a0N x (vG.row h x hx) v g0 g1) 0 v' g0 g1
theorem Y9(l:List Action)(h:j6 Action.wt l≤1048576):pU l=some l:=by
 unfold pU
 rw[L7 (by rw[List.length_map];exact Nat.le_trans (gB _ _) h) (by decide)]
 exact toL (c:=Action.c) (f:=o6) (j8 l (fun q=>some q)) (fun _ _=>rfl) (fun _ _ _ _=>rfl) (fun x hx=>a0O x (by have:=iP (w:=Action.wt) hx;omega))
theorem YA(a b:List Action):pX a b=some (decide (a=b)):=by
 unfold pX
 exact WN (c:=Action.c) (f:=o7) (fun k=>jA a b k) (fun _ _=>rfl) (fun _ _ _ _=>rfl) a0P
def aI.wt(x:aI):Nat:=tw x.name+j6 aF.wt x.conds+j6 Action.wt x.bC
theorem a4R(x:aI)(h:vG x.c)(v:Int)(h0:0≤v)(h1:v≤1048576):uP (s7 x v) v (aI.wt x):=by
 unfold s7
 refine uP.eq (n:=(tw x.name+(j6 aF.wt x.conds+(j6 Action.wt x.bC+(0))))) ?_ (by simp only[aI.wt];omega)
 refine uP.str (m:=(j6 aF.wt x.conds+(j6 Action.wt x.bC+(0)))) ((h (.str x.name) (by simp)).str) h0 h1 fun g1 e1=>?_
 rw[e1]
 have l1:v-(x.name.length:Int)≤1048576:=by omega
 refine(a1w x.conds (h (.sl (x.conds.map aF.c)) (by simp)) _ g1 l1).sub l1 g1 (m:=(j6 Action.wt x.bC+(0))) fun r2 g2 l2=>?_
 refine(Y8 x.bC (h (.sl (x.bC.map Action.c)) (by simp)) _ g2 l2).sub l2 g2 (m:=0) fun r3 g3 l3=>?_
 exact uP.fin
theorem a4S(x:aI)(h:aI.wt x≤1048576):sB x=some x:=by
 unfold sB
 simp only[a1x x.conds (by simp only[aI.wt]at h;omega),Y9 x.bC (by simp only[aI.wt]at h;omega),Option.bind_some]
theorem a4T(a b:aI):sF a b=some (decide (a=b)):=by
 obtain⟨a0,a1,a2,a3⟩:=a
 obtain⟨b0,b1,b2,b3⟩:=b
 unfold sF
 simp only[YA,a1y,Option.bind_some,cB,bne]
 by_cases h0:a0=b0<;>by_cases h1:a1=b1<;>by_cases h2:a2=b2<;>by_cases h3:a3=b3<;>simp[h0,h1,h2,h3]
theorem a1z(l:List aI)(h:bR (.sl (l.map aI.c)))(v:Int)(h0:0≤v)(h1:v≤1048576):uP (tH l v) v (j6 aI.wt l):=by
 unfold tH
 exact szS h h0 h1 fun v' g0 g1=>szL (w:=aI.wt) (f:=s7) (lH l (fun z=>some z)) (fun _ _=>rfl) (fun _ _ _ _=>rfl) l (fun x hx v g0 g1=>a4R x (vG.row h x hx) v g0 g1) 0 v' g0 g1
theorem a22(l:List aI)(h:j6 aI.wt l≤1048576):tM l=some l:=by
 unfold tM
 rw[L7 (by rw[List.length_map];exact Nat.le_trans (gB _ _) h) (by decide)]
 exact toL (c:=aI.c) (f:=sB) (lN l (fun q=>some q)) (fun _ _=>rfl) (fun _ _ _ _=>rfl) (fun x hx=>a4S x (by have:=iP (w:=aI.wt) hx;omega))
theorem a23(a b:List aI):tQ a b=some (decide (a=b)):=by
 unfold tQ
 exact WN (c:=aI.c) (f:=sF) (fun k=>lT a b k) (fun _ _=>rfl) (fun _ _ _ _=>rfl) a4T
def aL.wt(x:aL):Nat:=j6 aD.wt x.facts+j6 aH.wt x.bind
theorem a25(x:aL)(h:vG x.c)(v:Int)(h0:0≤v)(h1:v≤1048576):uP (pS x v) v (aL.wt x):=by
 unfold pS
 refine uP.eq (n:=(j6 aD.wt x.facts+(j6 aH.wt x.bind+(0)))) ?_ (by simp only[aL.wt];omega)
 refine(ML x.facts (h (.sl (x.facts.map aD.c)) (by simp)) _ h0 h1).sub h1 h0 (m:=(j6 aH.wt x.bind+(0))) fun r1 g1 l1=>?_
 refine(a1t x.bind (h (.sl (x.bind.map aH.c)) (by simp)) _ g1 l1).sub l1 g1 (m:=0) fun r2 g2 l2=>?_
 exact uP.fin
theorem a26(x:aL)(h:aL.wt x≤1048576):pW x=some x:=by
 unfold pW
 simp only[MM x.facts (by simp only[aL.wt]at h;omega),a1u x.bind (by simp only[aL.wt]at h;omega),Option.bind_some]
theorem a27(a b:aL):pZ a b=some (decide (a=b)):=by
 obtain⟨a0,a1⟩:=a
 obtain⟨b0,b1⟩:=b
 unfold pZ
 simp only[MN,a1v,Option.bind_some,cB,bne]
 by_cases h0:a0=b0<;>by_cases h1:a1=b1<;>simp[h0,h1]
theorem a0Q(l:List aL)(h:bR (.sl (l.map aL.c)))(v:Int)(h0:0≤v)(h1:v≤1048576):uP (rG l v) v (j6 aL.wt l):=by
 unfold rG
 exact szS h h0 h1 fun v' g0 g1=>szL (w:=aL.wt) (f:=pS) (k6 l (fun z=>some z)) (fun _ _=>rfl) (fun _ _ _ _=>rfl) l (fun x hx v g0 g1=>a25 x (vG.row h x hx) v g0 g1) 0 v' g0 g1
theorem a0R(l:List aL)(h:j6 aL.wt l≤1048576):rI l=some l:=by
 unfold rI
 rw[L7 (by rw[List.length_map];exact Nat.le_trans (gB _ _) h) (by decide)]
 exact toL (c:=aL.c) (f:=pW) (kA l (fun q=>some q)) (fun _ _=>rfl) (fun _ _ _ _=>rfl) (fun x hx=>a26 x (by have:=iP (w:=aL.wt) hx;omega))
theorem a0S(a b:List aL):rK a b=some (decide (a=b)):=by
 unfold rK
 exact WN (c:=aL.c) (f:=pZ) (fun k=>kE a b k) (fun _ _=>rfl) (fun _ _ _ _=>rfl) a27
def aN.wt(x:aN):Nat:=tw x.shape.rel+j6 tw x.shape.args+j6 aD.wt x.facts
theorem a29(x:aN)(h:vG x.c)(v:Int)(h0:0≤v)(h1:v≤1048576):uP (pR x v) v (aN.wt x):=by
 unfold pR
 refine uP.eq (n:=(aD.wt x.shape+(j6 aD.wt x.facts+(0)))) ?_ (by simp only[aN.wt,aD.wt];omega)
 refine(DI x.shape (vG.sub h (by intro d hd;simp only[List.mem_cons,List.not_mem_nil,or_false]at hd⊢;rcases hd with rfl|rfl<;>simp)) _ h0 h1).sub h1 h0 (m:=(j6 aD.wt x.facts+(0))) fun r1 g1 l1=>?_
 refine(ML x.facts (h (.sl (x.facts.map aD.c)) (by simp)) _ g1 l1).sub l1 g1 (m:=0) fun r2 g2 l2=>?_
 exact uP.fin
theorem a2A(x:aN)(h:aN.wt x≤1048576):pV x=some x:=by
 unfold pV
 simp only[DJ x.shape (by simp only[aN.wt,aD.wt]at h⊢;omega),MM x.facts (by simp only[aN.wt]at h;omega),Option.bind_some]
theorem a2B(a b:aN):pY a b=some (decide (a=b)):=by
 obtain⟨a0,a1⟩:=a
 obtain⟨b0,b1⟩:=b
 unfold pY
 simp only[MN,DK,Option.bind_some,cB,bne]
 by_cases h0:a0=b0<;>by_cases h1:a1=b1<;>simp[h0,h1]
theorem a0T(l:List aN)(h:bR (.sl (l.map aN.c)))(v:Int)(h0:0≤v)(h1:v≤1048576):uP (rF l v) v (j6 aN.wt l):=by
 unfold rF
 exact szS h h0 h1 fun v' g0 g1=>szL (w:=aN.wt) (f:=pR) (jZ l (fun z=>some z)) (fun _ _=>rfl) (fun _ _ _ _=>rfl) l (fun x hx v g0 g1=>a29 x (vG.row h x hx) v g0 g1) 0 v' g0 g1
theorem a0U(l:List aN)(h:j6 aN.wt l≤1048576):rH l=some l:=by
 unfold rH
 rw[L7 (by rw[List.length_map];exact Nat.le_trans (gB _ _) h) (by decide)]
 exact toL (c:=aN.c) (f:=pV) (k9 l (fun q=>some q)) (fun _ _=>rfl) (fun _ _ _ _=>rfl) (fun x hx=>a2A x (by have:=iP (w:=aN.wt) hx;omega))
theorem a0V(a b:List aN):rJ a b=some (decide (a=b)):=by
 unfold rJ
 exact WN (c:=aN.c) (f:=pY) (fun k=>kD a b k) (fun _ _=>rfl) (fun _ _ _ _=>rfl) a2B
def Node.wt(x:Node):Nat:=tw x.cond.pat.rel+j6 tw x.cond.pat.args+tw x.cond.left+tw x.cond.right+j6 aL.wt x.tokens
theorem a4U(x:Node)(h:vG x.c)(v:Int)(h0:0≤v)(h1:v≤1048576):uP (sA x v) v (Node.wt x):=by
 unfold sA
 refine uP.eq (n:=(aF.wt x.cond+(j6 aL.wt x.tokens+(0)))) ?_ (by simp only[Node.wt,aF.wt];omega)
 refine(WO x.cond (vG.sub h (by intro d hd;simp only[List.mem_cons,List.not_mem_nil,or_false]at hd⊢;rcases hd with rfl|rfl|rfl|rfl|rfl<;>simp)) _ h0 h1).sub h1 h0 (m:=(j6 aL.wt x.tokens+(0))) fun r1 g1 l1=>?_
 refine(a0Q x.tokens (h (.sl (x.tokens.map aL.c)) (by simp)) _ g1 l1).sub l1 g1 (m:=0) fun r2 g2 l2=>?_
 exact uP.fin
theorem a4V(x:Node)(h:Node.wt x≤1048576):sE x=some x:=by
 unfold sE
 simp only[WQ x.cond (by simp only[Node.wt,aF.wt]at h⊢;omega),a0R x.tokens (by simp only[Node.wt]at h;omega),Option.bind_some]
theorem a4W(a b:Node):sI a b=some (decide (a=b)):=by
 obtain⟨a0,a1,a2,a3⟩:=a
 obtain⟨b0,b1,b2,b3⟩:=b
 unfold sI
 simp only[WR,a0S,Option.bind_some,cB,bne]
 by_cases h0:a0=b0<;>by_cases h1:a1=b1<;>by_cases h2:a2=b2<;>by_cases h3:a3=b3<;>simp[h0,h1,h2,h3]
theorem a2C(l:List Node)(h:bR (.sl (l.map Node.c)))(v:Int)(h0:0≤v)(h1:v≤1048576):uP (tJ l v) v (j6 Node.wt l):=by
 unfold tJ
 exact szS h h0 h1 fun v' g0 g1=>szL (w:=Node.wt) (f:=sA) (lK l (fun z=>some z)) (fun _ _=>rfl) (fun _ _ _ _=>rfl) l (fun x hx v g0 g1=>a4U x (vG.row h x hx) v g0 g1) 0 v' g0 g1
theorem a2D(l:List Node)(h:j6 Node.wt l≤1048576):tO l=some l:=by
 unfold tO
 rw[L7 (by rw[List.length_map];exact Nat.le_trans (gB _ _) h) (by decide)]
 exact toL (c:=Node.c) (f:=sE) (lR l (fun q=>some q)) (fun _ _=>rfl) (fun _ _ _ _=>rfl) (fun x hx=>a4V x (by have:=iP (w:=Node.wt) hx;omega))
theorem a2E(a b:List Node):tS a b=some (decide (a=b)):=by
 unfold tS
 exact WN (c:=Node.c) (f:=sI) (fun k=>lW a b k) (fun _ _=>rfl) (fun _ _ _ _=>rfl) a4W
def aG.wt(x:aG):Nat:=j6 aI.wt x.rules+j6 zw x.ends+j6 aN.wt x.aR+j6 Node.wt x.nodes+j6 aD.wt x.facts
theorem YB(x:aG)(h:vG x.c)(v:Int)(h0:0≤v)(h1:v≤1048576):uP (pT x v) v (aG.wt x):=by
 unfold pT
 refine uP.eq (n:=(j6 aI.wt x.rules+(j6 zw x.ends+(j6 aN.wt x.aR+(j6 Node.wt x.nodes+(j6 aD.wt x.facts+(0))))))) ?_ (by simp only[aG.wt];omega)
 refine(a1z x.rules (h (.sl (x.rules.map aI.c)) (by simp)) _ h0 h1).sub h1 h0 (m:=(j6 zw x.ends+(j6 aN.wt x.aR+(j6 Node.wt x.nodes+(j6 aD.wt x.facts+(0)))))) fun r1 g1 l1=>?_
 refine(a4I x.ends (h (.sl (x.ends.map iL)) (by simp)) _ g1 l1).sub l1 g1 (m:=(j6 aN.wt x.aR+(j6 Node.wt x.nodes+(j6 aD.wt x.facts+(0))))) fun r2 g2 l2=>?_
 refine(a0T x.aR (h (.sl (x.aR.map aN.c)) (by simp)) _ g2 l2).sub l2 g2 (m:=(j6 Node.wt x.nodes+(j6 aD.wt x.facts+(0)))) fun r3 g3 l3=>?_
 refine(a2C x.nodes (h (.sl (x.nodes.map Node.c)) (by simp)) _ g3 l3).sub l3 g3 (m:=(j6 aD.wt x.facts+(0))) fun r4 g4 l4=>?_
 refine(ML x.facts (h (.sl (x.facts.map aD.c)) (by simp)) _ g4 l4).sub l4 g4 (m:=0) fun r5 g5 l5=>?_
 exact uP.fin
theorem YC(x:aG)(h:aG.wt x≤1048576):kB x=some x:=by
 unfold kB
 simp only[a22 x.rules (by simp only[aG.wt]at h;omega),a4J x.ends (by simp only[aG.wt]at h;omega),a0U x.aR (by simp only[aG.wt]at h;omega),a2D x.nodes (by simp only[aG.wt]at h;omega),MM x.facts (by simp only[aG.wt]at h;omega),Option.bind_some]
theorem YD(a b:aG):q8 a b=some (decide (a=b)):=by
 obtain⟨a0,a1,a2,a3,a4,a5⟩:=a
 obtain⟨b0,b1,b2,b3,b4,b5⟩:=b
 unfold q8
 simp only[a0V,MN,a4K,a2E,a23,Option.bind_some,cB,bne]
 by_cases h0:a0=b0<;>by_cases h1:a1=b1<;>by_cases h2:a2=b2<;>by_cases h3:a3=b3<;>by_cases h4:a4=b4<;>by_cases h5:a5=b5<;>simp[h0,h1,h2,h3,h4,h5]
def bH.wt(x:bH):Nat:=tw x.rule+j6 aD.wt x.facts+j6 aH.wt x.bind
end Go.Cx
namespace Go.Cx
set_option linter.unusedVariables false
set_option linter.unusedSimpArgs false
open Go.RowKit Go.Proofs Go.Shelf
theorem Rd.tY{w:World}{v:Value}{s:Bytes}{bs:List Nat}(h:Rd w v (.str s) bs):∃y:ByteArray,v=.string y∧y.data.toList=s∧y.size≤maxLen∧bs=[]:=by
 cases h with
 |str y hy=>exact⟨y,rfl,rfl,hy,rfl⟩
theorem jN.strs{w:World}{xs:List Bytes}:∀ {cs:List Value} {bs:List Nat},jN w cs (xs.map D.str) bs→∃ys:List ByteArray,cs=ys.map Value.string∧ys.map (·.data.toList)=xs:=by
 induction xs with
 |nil=>intro cs bs h;cases h;exact⟨[],rfl,rfl⟩
 |cons x xs ih=>
  intro cs bs h
  cases h with
  |cons v vs d ds b1 b2 h1 h2 h3=>
   obtain⟨y,e1,e2,_,_⟩:=h2.tY
   obtain⟨ys,e3,e4⟩:=ih h3
   exact⟨y::ys,by simp[e1,e3],by simp[e2,e4]⟩
theorem YE(xs:List Bytes):(xs.map tx).flatten=xs.map D.str:=by
 induction xs with
 |nil=>rfl
 |cons x xs ih=>simp[tx,ih]
theorem Calls.txt{P:Program}{f:FuncId}{args:Array Value}{w:World}{r:ByteArray}{Θ:Nat→Nat}(hr:r.size≤maxLen)
 (h:Calls P f args w fun e w'=>e=.returned (.string r)∧Below w.heap.size w w'):
 Calls P f args w (fun e w'=>∃v bs' ts us,e=.returned v∧Below w.heap.size w w'∧DA w' v (.str r.data.toList) bs' ts us∧(∀b∈bs',b<w.heap.size→Θ b=0)∧(∀b∈bs',b∉ts)∧us.Nodup∧
  (∀b∈us,w.heap.size≤b∧Wr w' b)∧∀b∈ts,b∈us):=
 h.mono fun e w' ⟨h1,h2⟩=>⟨_,[],[],[],h1,h2,.v (.cell (.pure (.str r hr))),by simp,by simp,by simp,by simp,by simp⟩
end Go.Cx
namespace Go.Cx
set_option linter.unusedVariables false
set_option linter.unusedSimpArgs false
open Go.RowKit Go.Proofs Go.Shelf Go.Sort
theorem jN.a97{w:World}{xs:List Bytes}:∀ {cs:List Value} {bs:List Nat},jN w cs (xs.map D.str) bs→∀x∈xs,x.length≤maxLen:=by
 induction xs with
 |nil=>intro cs bs h x hx;cases hx
 |cons x xs ih=>
  intro cs bs h y hy
  cases h with
  |cons v vs d ds b1 b2 h1 h2 h3=>
   obtain⟨s,_,e2,e3,_⟩:=h2.tY
   rcases List.mem_cons.1 hy with rfl|hy
   ·rw[←e2];exact e3
   ·exact ih h3 y hy
theorem jN.a3B{w:World}:∀ {xs:List Bytes},(∀x∈xs,x.length≤maxLen)→jN w (xs.map encStr) (xs.map D.str) []
 | [],_=>.nil
 |x::xs,h=>by
  have h1:Rd w (.string ⟨x.toArray⟩) (.str x) []:=by
   have:=Rd.str (w:=w) ⟨x.toArray⟩ (by have:=h x (by simp);simpa[ByteArray.size]using this)
   simpa using this
  exact .cons _ _ _ _ [] [] rfl h1 (jN.a3B fun y hy=>h y (by simp[hy]))
theorem a0W(xs:List Bytes):(xs.map tx).flatten.all D.flat=true:=by
 rw[YE]
 simp[D.flat]
def lX(xs:List Bytes):List Bytes:=xs.mergeSort fun x y=>decide (x≤y)
theorem AH(xs:List Bytes):(lX xs).Perm xs:=List.mergeSort_perm _ _
theorem UF{P:Program}{ρ:Ren}(L:Lays.n192 P ρ){e:TypeId}{xs:List Bytes}(hn:xs.length<4611686018427387904):a09 P (ρ.f 192) e 1 (xs.map tx) ((lX xs).map tx):=by
 refine⟨⟨_,L.f192,rfl,rfl⟩,?_⟩
 intro w v cs hsz hrl hown hrd
 rw[YE]at hrd
 have hle:=hrd.a97
 obtain⟨ys,rfl,hys⟩:=hrd.strs
 have hlen:(lX xs).length=xs.length:=(AH xs).length_eq
 have SN:∀r∈(lX xs).map tx,r.length=1:=by
  intro r hr
  obtain⟨x,_,rfl⟩:=List.mem_map.1 hr
  rfl
 rcases hown.2 with⟨rfl,h0⟩|⟨g,cap,cur,rfl,hb,XH,hnc,hcm,hcs,ZR⟩
 ·have hx:xs=[]:=by simpa using h0
  subst hx
  refine(Any.sort_Strings_none L none 0 w).mono ?_
  rintro e' w' ⟨rfl,rfl⟩
  exact⟨rfl,rfl,rfl,rfl,Nat.le_refl _,fun _ _ _=>rfl,SN,[],⟨by simp[hlen],.inl ⟨rfl,by simp[hlen]⟩⟩,by simpa[lX]using jN.nil⟩
 ·rw[List.length_map]at hnc ZR⊢
  rw[Nat.mul_one]at ZR hcs
  have hyl:ys.length=xs.length:=by rw[←hys];simp
  have TN:∀j,j<xs.length→cur[j]?=some (encStr xs.toArray[j]!):=by
   intro j hj
   have h1:(cur.toList.take xs.length)[j]?=cur[j]?:=by rw[List.getElem?_take_of_lt hj];simp
   rw[←h1,ZR,List.getElem?_map]
   have hj':j<ys.length:=by omega
   rw[List.getElem?_eq_getElem hj']
   have:xs[j]?=some ys[j].data.toList:=by rw[←hys,List.getElem?_map,List.getElem?_eq_getElem hj'];rfl
   have hx:xs.toArray[j]! =ys[j].data.toList:=by
    rw[getElem!_pos _ _ (by simpa using hj)]
    rw[List.getElem?_eq_getElem hj]at this
    simpa using this
   rw[hx]
   simp[encStr]
  have hH:Holds encStr w g 0 xs.toArray:=by
   intro j hj
   have hj:j<xs.length:=by simpa using hj
   refine⟨?_,?_⟩
   ·rw[←TN j hj]
    simp[World.cell?,XH]
   ·simp[World.frozen?,XH]
  have hblk:g<w.heap.size:=(Array.getElem?_eq_some_iff.1 XH).1
  refine(Any.sort_Strings L g 0 cap xs w hH hblk hn).mono ?_
  rintro e' w' ⟨rfl,n,os,rfl⟩
  have hheap:(grow (putRow encStr (Sort.ahead w n) g 0 (lX xs).toArray) os).heap=(w.heap.modify g (onCells (putCells encStr 0 (lX xs).toArray)))++os:=rfl
  have U0:∀b,b<w.heap.size→b≠g→(grow (putRow encStr (Sort.ahead w n) g 0 (lX xs).toArray) os).heap[b]?=w.heap[b]?:=by
   intro b hb hne
   rw[hheap,Array.getElem?_append_left (by simpa using hb),Array.getElem?_modify,if_neg (fun e=>hne e.symm)]
  have hrow:(grow (putRow encStr (Sort.ahead w n) g 0 (lX xs).toArray) os).heap[g]?=some (.cells (putCells encStr 0 (lX xs).toArray cur) e (0,0)):=by
   rw[hheap,Array.getElem?_append_left (by simpa using hblk),Array.getElem?_modify,if_pos rfl,XH]
   rfl
  refine⟨rfl,rfl,rfl,rfl,by show w.heap.size≤(grow (putRow encStr (Sort.ahead w n) g 0 (lX xs).toArray) os).heap.size;rw[hheap];simp,fun b hb hne=>U0 b hb fun e=>hne (by rw[e];rfl),SN,(lX xs).map encStr,⟨by simp,.inr ⟨g,cap,_,by simp[hlen],hb,hrow,by simpa[hlen]using hnc,hcm,by simp[putCells,hcs],?_⟩⟩,?_⟩
  ·apply List.ext_getElem?
   intro j
   simp only[List.length_map,Nat.mul_one]
   by_cases hj:j<(lX xs).length
   ·have hj2:j<cur.size:=by omega
    rw[List.getElem?_take_of_lt hj,List.getElem?_map,List.getElem?_eq_getElem hj]
    simp[putCells,hj2,hj]
   ·rw[List.getElem?_eq_none (by simp;omega),List.getElem?_eq_none (by simp;omega)]
  ·rw[YE]
   exact jN.a3B fun x hx=>hle x ((AH xs).mem_iff.1 hx)
end Go.Cx
namespace Go.Cx
set_option linter.unusedVariables false
set_option linter.unusedSimpArgs false
open Go.RowKit Go.Proofs Go.Shelf Go.Lib
theorem a6p(n:Int)(h:rC .i64 n):(itoa n).length≤20:=by
 have h1: -9223372036854775808≤n:=h.1
 have h2:n≤9223372036854775807:=h.2
 have key:∀u:Nat,u≤9223372036854775808→nDigits u≤19:=by
  intro u hu
  by_cases h0:u=0
  ·subst h0;rw[nDigits_small (by omega)];omega
  ·by_cases hk:nDigits u≤19
   ·exact hk
   ·exfalso
    have aBi:∀(k v:Nat),v<10^k→1≤k→nDigits v≤k:=by
     intro k
     induction k with
     |zero=>intro v _ h;omega
     |succ k ih=>
      intro v hv _
      by_cases h10:v<10
      ·rw[nDigits_small h10];omega
      ·rw[nDigits_big h10]
       have h3:v/10<10^k:=by rw[Nat.pow_succ]at hv;omega
       have hk1:1≤k:=by
        cases k with
        |zero=>simp at hv;omega
        |succ k=>omega
       have:=ih (v/10) h3 hk1
       omega
    have:=aBi 19 u (by omega) (by omega)
    omega
 unfold itoa
 split
 ·rw[List.length_cons,decDigits_length];have:=key n.natAbs (by omega);omega
 ·rw[decDigits_length];have:=key n.toNat (by omega);omega
theorem a0X(w:World)(k:Nat)(os:Array Obj):Below w.heap.size w (Sort.grow (w.drewN k) os):=
 ⟨rfl,rfl,rfl,by show w.heap.size≤(w.heap++os).size;simp,fun b hb=>by show(w.heap++os)[b]?=_;rw[Array.getElem?_append_left hb]⟩
theorem a0Y{P:Program}{ρ:Ren}(L:LaysM.n171 P ρ){g:Nat}(hg:P.globalNamed "internal/strconv.uint64pow10" =some g)(hx:(g,fun cs:List Value=>cs=pow10Tab.map fun z=>Value.int .u64 z)∈w5){n:Int}:
 Good P (ρ.f 171) [.int .i64 n] (.str (itoa n)):=by
 refine⟨⟨_,L.f171,rfl,rfl⟩,?_⟩
 intro w Θ args bs hv ha _ _ _
 obtain _|⟨v1,_,_,_,b1,_,h1,ha⟩:=ha
 cases ha
 cases h1 with
 |int _ _ hr=>
  have h0: -9223372036854775808≤n:=hr.1
  have h1:n≤9223372036854775807:=hr.2
  have hl:=a6p n hr
  have ht:TabIs P w "internal/strconv.uint64pow10" .u64 pow10Tab:=by
   obtain⟨cs,h2,h3⟩:=hv.var hx hg
   have h4:cs=(pow10Tab.map fun z=>Value.int .u64 z).toArray:=by rw[←h3]
   rw[h4]at h2
   exact h2
  have:=Calls.txt (Θ:=Θ) (r:=⟨(itoa n).toArray⟩) (by show(itoa n).toArray.size≤maxLen;rw[List.size_toArray];unfold maxLen;omega)
   ((Any.strconv_Itoa L n h0 h1 w ht).mono fun e w' ⟨k1,k,os,k2⟩=>⟨k1,by subst k2;exact a0X w k os⟩)
  simpa using this
end Go.Cx
namespace Go.Cx
set_option linter.unusedVariables false
set_option linter.unusedSimpArgs false
open Go.RowKit Go.Proofs Go.Shelf Go.Lib
theorem a0Z(w:World)(t5:TypeId)(t:ByteArray):Below w.heap.size w (Lib.bytesWorld w t5 t):=Lib.bytesWorld_below _ _ _
def YF(s:Bytes):Option (Int×Bool):=if s.length≤18 then(match Lib.atoi s with|some n=>some (n,false)|none=>some (0,true))else none
theorem a0a{P:Program}{ρ:Ren}(L:LaysC.n172 P ρ){g:Nat}(hg:P.globalNamed "strconv.ErrSyntax" =some g)(hx:(g,fun cs:List Value=>∃tp p,cs=[Value.iface tp p])∈w5){s:Bytes}{r:Int×Bool}(h:YF s=some r):
 Good P (ρ.f 172) [.str s] (.iJ [.int .i64 r.1,.ifc r.2]):=by
 refine⟨⟨_,L.f172,rfl,rfl⟩,?_⟩
 intro w Θ args bs hv ha _ _ _
 obtain _|⟨v1,_,_,_,b1,_,h1,ha⟩:=ha
 cases ha
 obtain⟨y,rfl,rfl,_,_⟩:=h1.tY
 unfold YF at h
 split at h
 ·rename_i hl
  have hl':y.size≤18:=by simpa using hl
  split at h
  ·rename_i n hn
   cases h
   have hb:=Lib.atoi_bound hn hl
   refine(Any.strconv_Atoi L.toM.ton172 y n hl' hn w).mono ?_
   rintro e w' ⟨rfl,t,rfl⟩
   exact⟨_,[],[],[],rfl,a0Z _ _ _,.iJ [.int .i64 n,.nilIface] [.int .i64 n,.ifc false] [] [] [] (.cons _ _ _ _ [] [] [] [] [] [] (.cell (.pure (.int _ _ (rC.i64.2 (by omega))))) (.cons _ _ _ _ [] [] [] [] [] [] (.cell (.pure .a3i)) .nil)),by simp,by simp,by simp,by simp,by simp⟩
  ·rename_i hn
   cases h
   obtain⟨cs,h2,tp,p,h3⟩:=hv.var hx hg
   have h4:cs= #[.iface tp p]:=by rw[←Array.toList_inj,h3]
   rw[h4]at h2
   refine(Any.strconv_Atoi_err_var L y hl' hn tp p w h2).mono ?_
   rintro e w' ⟨N,rfl,_,_,hbl⟩
   exact⟨_,[],[],[],rfl,hbl,.iJ [.int .i64 0,.iface _ _] [.int .i64 0,.ifc true] [] [] [] (.cons _ _ _ _ [] [] [] [] [] [] (.cell (.pure (.int _ _ (rC.zero _)))) (.cons _ _ _ _ [] [] [] [] [] [] (.cell (.pure (.a3j _ _))) .nil)),by simp,by simp,by simp,by simp,by simp⟩
 ·cases h
theorem a3C:∀(a b:Bytes), -1≤Lib.compareBytes a b∧Lib.compareBytes a b≤1
 | [],[]=>by simp[Lib.compareBytes]
 | [],_::_=>by simp[Lib.compareBytes]
 |_::_,[]=>by simp[Lib.compareBytes]
 |a::xs,b::ys=>by
  simp only[Lib.compareBytes]
  split
  ·omega
  ·split
   ·omega
   ·exact a3C xs ys
theorem UG{P:Program}{ρ:Ren}(L:Lays.n106 P ρ){a b:Bytes}:Good P (ρ.f 106) [.str a,.str b] (.int .i64 (Lib.compareBytes a b)):=by
 refine⟨⟨_,L.f106,rfl,rfl⟩,?_⟩
 intro w Θ args bs hv ha _ _ _
 obtain _|⟨v1,_,_,_,b1,_,h1,ha⟩:=ha
 obtain _|⟨v2,_,_,_,b2,_,h2,ha⟩:=ha
 cases ha
 obtain⟨y,rfl,rfl,_,_⟩:=h1.tY
 obtain⟨z,rfl,rfl,_,_⟩:=h2.tY
 have hc:=a3C y.data.toList z.data.toList
 refine(Any.strings_Compare L y z w).mono ?_
 rintro e w' ⟨rfl,rfl⟩
 exact⟨_,[],[],[],rfl,Below.refl _ _,.v (.cell (.pure (.int _ _ (rC.i64.2 (by omega))))),by simp,by simp,by simp,by simp,by simp⟩
end Go.Cx
namespace Go.Cx
open Go.RowKit Go.Proofs Go.Shelf
def a0b:Ren:=⟨fun|192=>266|190=>278|125=>288|258=>287|128=>301|129=>302|302=>292|303=>293|304=>294|305=>295|306=>296|307=>297|308=>298|309=>299|310=>300|333=>312|329=>313|330=>314|334=>315|335=>316|336=>317|344=>325|n=>n,fun|31=>46|0=>0|9=>9|3=>3|46=>254|51=>266|53=>268|4=>4|183=>259|182=>258|131=>237|5=>5|218=>279|222=>283|228=>296|229=>186|n=>n,fun|n=>n⟩
theorem a98:Lays.n192 Tryz.prog a0b:= {
 mixed:=by kernel_rfl,
 f125:=Tryz.func288.trans (congrArg some (by kernel_rfl)),
 f128:=Tryz.func301.trans (congrArg some (by kernel_rfl)),
 f129:=Tryz.func302.trans (congrArg some (by kernel_rfl)),
 f190:=Tryz.func278.trans (congrArg some (by kernel_rfl)),
 f192:=Tryz.func266.trans (congrArg some (by kernel_rfl)),
 f258:=Tryz.func287.trans (congrArg some (by kernel_rfl)),
 f302:=Tryz.func292.trans (congrArg some (by kernel_rfl)),
 f303:=Tryz.func293.trans (congrArg some (by kernel_rfl)),
 f304:=Tryz.func294.trans (congrArg some (by kernel_rfl)),
 f305:=Tryz.func295.trans (congrArg some (by kernel_rfl)),
 f306:=Tryz.func296.trans (congrArg some (by kernel_rfl)),
 f307:=Tryz.func297.trans (congrArg some (by kernel_rfl)),
 f308:=Tryz.func298.trans (congrArg some (by kernel_rfl)),
 f309:=Tryz.func299.trans (congrArg some (by kernel_rfl)),
 f310:=Tryz.func300.trans (congrArg some (by kernel_rfl)),
 f329:=Tryz.func313.trans (congrArg some (by kernel_rfl)),
 f330:=Tryz.func314.trans (congrArg some (by kernel_rfl)),
 f333:=Tryz.func312.trans (congrArg some (by kernel_rfl)),
 f334:=Tryz.func315.trans (congrArg some (by kernel_rfl)),
 f335:=Tryz.func316.trans (congrArg some (by kernel_rfl)),
 f336:=Tryz.func317.trans (congrArg some (by kernel_rfl)),
 f344:=Tryz.func325.trans (congrArg some (by kernel_rfl)),
 t0:=Tryz.underlying0,
 a0:=Tryz.isAgg0,
 z0:=Tryz.sizeOf0,
 v0:=Tryz.zeroValue0,
 t3:=Tryz.underlying3,
 a3:=Tryz.isAgg3,
 z3:=Tryz.sizeOf3,
 v3:=Tryz.zeroValue3,
 t4:=Tryz.underlying4,
 a4:=Tryz.isAgg4,
 z4:=Tryz.sizeOf4,
 v4:=Tryz.zeroValue4,
 t5:=Tryz.underlying5,
 a5:=Tryz.isAgg5,
 z5:=Tryz.sizeOf5,
 v5:=Tryz.zeroValue5,
 t9:=Tryz.underlying9,
 a9:=Tryz.isAgg9,
 z9:=Tryz.sizeOf9,
 v9:=Tryz.zeroValue9,
 t31:=Tryz.underlying46,
 a31:=Tryz.isAgg46,
 z31:=Tryz.sizeOf46,
 v31:=Tryz.zeroValue46,
 t46:=Tryz.underlying254,
 a46:=Tryz.isAgg254,
 z46:=Tryz.sizeOf254,
 v46:=Tryz.zeroValue254,
 t51:=Tryz.underlying266,
 a51:=Tryz.isAgg266,
 z51:=Tryz.sizeOf266,
 v51:=Tryz.zeroValue266,
 t53:=Tryz.underlying268,
 a53:=Tryz.isAgg268,
 z53:=Tryz.sizeOf268,
 v53:=Tryz.zeroValue268,
 t131:=Tryz.underlying237,
 a131:=Tryz.isAgg237,
 z131:=Tryz.sizeOf237,
 v131:=Tryz.zeroValue237,
 t182:=Tryz.underlying258,
 a182:=Tryz.isAgg258,
 z182:=Tryz.sizeOf258,
 v182:=Tryz.zeroValue258,
 t183:=Tryz.underlying259,
 a183:=Tryz.isAgg259,
 z183:=Tryz.sizeOf259,
 v183:=Tryz.zeroValue259,
 t218:=Tryz.underlying279,
 a218:=Tryz.isAgg279,
 z218:=Tryz.sizeOf279,
 v218:=Tryz.zeroValue279,
 t222:=Tryz.underlying283,
 a222:=Tryz.isAgg283,
 z222:=Tryz.sizeOf283,
 v222:=Tryz.zeroValue283,
 t228:=Tryz.underlying296,
 a228:=Tryz.isAgg296,
 z228:=Tryz.sizeOf296,
 v228:=Tryz.zeroValue296,
 t229:=Tryz.underlying186,
 a229:=Tryz.isAgg186,
 z229:=Tryz.sizeOf186,
 v229:=Tryz.zeroValue186}
theorem JK{e:TypeId}{xs:List Bytes}(hn:xs.length<4611686018427387904):a09 Tryz.prog 266 e 1 (xs.map tx) ((lX xs).map tx):=UF a98 hn
def S7:Ren:=⟨fun|171=>274|243=>285|246=>291|283=>308|284=>309|285=>310|286=>311|129=>302|317=>321|318=>322|319=>323|320=>324|337=>328|338=>329|n=>n,fun|3=>3|9=>9|2=>2|4=>4|171=>275|0=>0|53=>268|37=>150|5=>5|173=>277|212=>293|51=>266|20=>20|213=>294|46=>254|232=>303|233=>304|n=>n,fun|17=>3|18=>4|19=>5|n=>n⟩
theorem a99:Lays.n171 Tryz.prog S7:= {
 mixed:=by kernel_rfl,
 f129:=Tryz.func302.trans (congrArg some (by kernel_rfl)),
 f171:=Tryz.func274.trans (congrArg some (by kernel_rfl)),
 f243:=Tryz.func285.trans (congrArg some (by kernel_rfl)),
 f246:=Tryz.func291.trans (congrArg some (by kernel_rfl)),
 f283:=Tryz.func308.trans (congrArg some (by kernel_rfl)),
 f284:=Tryz.func309.trans (congrArg some (by kernel_rfl)),
 f285:=Tryz.func310.trans (congrArg some (by kernel_rfl)),
 f286:=Tryz.func311.trans (congrArg some (by kernel_rfl)),
 f317:=Tryz.func321.trans (congrArg some (by kernel_rfl)),
 f318:=Tryz.func322.trans (congrArg some (by kernel_rfl)),
 f319:=Tryz.func323.trans (congrArg some (by kernel_rfl)),
 f320:=Tryz.func324.trans (congrArg some (by kernel_rfl)),
 f337:=Tryz.func328.trans (congrArg some (by kernel_rfl)),
 f338:=Tryz.func329.trans (congrArg some (by kernel_rfl)),
 t0:=Tryz.underlying0,
 a0:=Tryz.isAgg0,
 z0:=Tryz.sizeOf0,
 v0:=Tryz.zeroValue0,
 t2:=Tryz.underlying2,
 a2:=Tryz.isAgg2,
 z2:=Tryz.sizeOf2,
 v2:=Tryz.zeroValue2,
 t3:=Tryz.underlying3,
 a3:=Tryz.isAgg3,
 z3:=Tryz.sizeOf3,
 v3:=Tryz.zeroValue3,
 t4:=Tryz.underlying4,
 a4:=Tryz.isAgg4,
 z4:=Tryz.sizeOf4,
 v4:=Tryz.zeroValue4,
 t5:=Tryz.underlying5,
 a5:=Tryz.isAgg5,
 z5:=Tryz.sizeOf5,
 v5:=Tryz.zeroValue5,
 t9:=Tryz.underlying9,
 a9:=Tryz.isAgg9,
 z9:=Tryz.sizeOf9,
 v9:=Tryz.zeroValue9,
 t20:=Tryz.underlying20,
 a20:=Tryz.isAgg20,
 z20:=Tryz.sizeOf20,
 v20:=Tryz.zeroValue20,
 t37:=Tryz.underlying150,
 a37:=Tryz.isAgg150,
 z37:=Tryz.sizeOf150,
 v37:=Tryz.zeroValue150,
 t46:=Tryz.underlying254,
 a46:=Tryz.isAgg254,
 z46:=Tryz.sizeOf254,
 v46:=Tryz.zeroValue254,
 t51:=Tryz.underlying266,
 a51:=Tryz.isAgg266,
 z51:=Tryz.sizeOf266,
 v51:=Tryz.zeroValue266,
 t53:=Tryz.underlying268,
 a53:=Tryz.isAgg268,
 z53:=Tryz.sizeOf268,
 v53:=Tryz.zeroValue268,
 t171:=Tryz.underlying275,
 a171:=Tryz.isAgg275,
 z171:=Tryz.sizeOf275,
 v171:=Tryz.zeroValue275,
 t173:=Tryz.underlying277,
 a173:=Tryz.isAgg277,
 z173:=Tryz.sizeOf277,
 v173:=Tryz.zeroValue277,
 t212:=Tryz.underlying293,
 a212:=Tryz.isAgg293,
 z212:=Tryz.sizeOf293,
 v212:=Tryz.zeroValue293,
 t213:=Tryz.underlying294,
 a213:=Tryz.isAgg294,
 z213:=Tryz.sizeOf294,
 t232:=Tryz.underlying303,
 a232:=Tryz.isAgg303,
 z232:=Tryz.sizeOf303,
 v232:=Tryz.zeroValue303,
 t233:=Tryz.underlying304,
 a233:=Tryz.isAgg304,
 z233:=Tryz.sizeOf304,
 v233:=Tryz.zeroValue304,
 g17:=by kernel_rfl,
 g18:=by kernel_rfl,
 g19:=by kernel_rfl}
theorem a6q:LaysM.n171 Tryz.prog S7:= {a99 with
 i0:=by kernel_rfl,
 i2:=by kernel_rfl,
 i3:=by kernel_rfl,
 i4:=by kernel_rfl,
 i5:=by kernel_rfl,
 i9:=by kernel_rfl,
 i20:=by kernel_rfl,
 i37:=by kernel_rfl,
 i46:=by kernel_rfl,
 i51:=by kernel_rfl,
 i53:=by kernel_rfl,
 i171:=by kernel_rfl,
 i173:=by kernel_rfl,
 i212:=by kernel_rfl,
 i232:=by kernel_rfl,
 i233:=by kernel_rfl,
 m17:=by kernel_rfl,
 m18:=by kernel_rfl,
 m19:=by kernel_rfl}
def AI(aA:Int):Option Bytes:=(fun n:Int=>some (Lib.itoa n)) aA
theorem JL{aA:Int}{r:Bytes}(h:AI aA=some r):Good Tryz.prog 274 [.int .i64 aA] (.str r):=by cases h;exact a0Y a6q (g:=3) (by kernel_rfl) (List.mem_of_getElem? (i:=0) (by kernel_rfl))
def GG:Ren:=⟨fun|172=>280|244=>289|245=>290|247=>303|279=>304|280=>305|281=>306|282=>307|287=>318|316=>319|171=>274|205=>320|321=>326|322=>327|243=>285|246=>291|283=>308|284=>309|285=>310|286=>311|129=>302|317=>321|318=>322|319=>323|320=>324|337=>328|338=>329|n=>n,fun|9=>9|3=>3|75=>245|76=>246|4=>4|5=>5|167=>269|37=>150|0=>0|85=>270|2=>2|168=>272|53=>268|175=>285|46=>254|210=>289|127=>299|145=>302|143=>300|21=>21|171=>275|173=>277|212=>293|51=>266|20=>20|213=>294|232=>303|233=>304|80=>305|n=>n,fun|15=>1|16=>2|17=>3|18=>4|19=>5|n=>n⟩
theorem a9A:Lays.n172 Tryz.prog GG:= {
 mixed:=by kernel_rfl,
 f129:=Tryz.func302.trans (congrArg some (by kernel_rfl)),
 f171:=Tryz.func274.trans (congrArg some (by kernel_rfl)),
 f172:=Tryz.func280.trans (congrArg some (by kernel_rfl)),
 f205:=Tryz.func320.trans (congrArg some (by kernel_rfl)),
 f243:=Tryz.func285.trans (congrArg some (by kernel_rfl)),
 f244:=Tryz.func289.trans (congrArg some (by kernel_rfl)),
 f245:=Tryz.func290.trans (congrArg some (by kernel_rfl)),
 f246:=Tryz.func291.trans (congrArg some (by kernel_rfl)),
 f247:=Tryz.func303.trans (congrArg some (by kernel_rfl)),
 f279:=Tryz.func304.trans (congrArg some (by kernel_rfl)),
 f280:=Tryz.func305.trans (congrArg some (by kernel_rfl)),
 f281:=Tryz.func306.trans (congrArg some (by kernel_rfl)),
 f282:=Tryz.func307.trans (congrArg some (by kernel_rfl)),
 f283:=Tryz.func308.trans (congrArg some (by kernel_rfl)),
 f284:=Tryz.func309.trans (congrArg some (by kernel_rfl)),
 f285:=Tryz.func310.trans (congrArg some (by kernel_rfl)),
 f286:=Tryz.func311.trans (congrArg some (by kernel_rfl)),
 f287:=Tryz.func318.trans (congrArg some (by kernel_rfl)),
 f316:=Tryz.func319.trans (congrArg some (by kernel_rfl)),
 f317:=Tryz.func321.trans (congrArg some (by kernel_rfl)),
 f318:=Tryz.func322.trans (congrArg some (by kernel_rfl)),
 f319:=Tryz.func323.trans (congrArg some (by kernel_rfl)),
 f320:=Tryz.func324.trans (congrArg some (by kernel_rfl)),
 f321:=Tryz.func326.trans (congrArg some (by kernel_rfl)),
 f322:=Tryz.func327.trans (congrArg some (by kernel_rfl)),
 f337:=Tryz.func328.trans (congrArg some (by kernel_rfl)),
 f338:=Tryz.func329.trans (congrArg some (by kernel_rfl)),
 t0:=Tryz.underlying0,
 a0:=Tryz.isAgg0,
 z0:=Tryz.sizeOf0,
 v0:=Tryz.zeroValue0,
 t2:=Tryz.underlying2,
 a2:=Tryz.isAgg2,
 z2:=Tryz.sizeOf2,
 v2:=Tryz.zeroValue2,
 t3:=Tryz.underlying3,
 a3:=Tryz.isAgg3,
 z3:=Tryz.sizeOf3,
 v3:=Tryz.zeroValue3,
 t4:=Tryz.underlying4,
 a4:=Tryz.isAgg4,
 z4:=Tryz.sizeOf4,
 v4:=Tryz.zeroValue4,
 t5:=Tryz.underlying5,
 a5:=Tryz.isAgg5,
 z5:=Tryz.sizeOf5,
 v5:=Tryz.zeroValue5,
 t9:=Tryz.underlying9,
 a9:=Tryz.isAgg9,
 z9:=Tryz.sizeOf9,
 v9:=Tryz.zeroValue9,
 t20:=Tryz.underlying20,
 a20:=Tryz.isAgg20,
 z20:=Tryz.sizeOf20,
 v20:=Tryz.zeroValue20,
 t21:=Tryz.underlying21,
 a21:=Tryz.isAgg21,
 z21:=Tryz.sizeOf21,
 v21:=Tryz.zeroValue21,
 t37:=Tryz.underlying150,
 a37:=Tryz.isAgg150,
 z37:=Tryz.sizeOf150,
 v37:=Tryz.zeroValue150,
 t46:=Tryz.underlying254,
 a46:=Tryz.isAgg254,
 z46:=Tryz.sizeOf254,
 v46:=Tryz.zeroValue254,
 t51:=Tryz.underlying266,
 a51:=Tryz.isAgg266,
 z51:=Tryz.sizeOf266,
 v51:=Tryz.zeroValue266,
 t53:=Tryz.underlying268,
 a53:=Tryz.isAgg268,
 z53:=Tryz.sizeOf268,
 v53:=Tryz.zeroValue268,
 t75:=Tryz.underlying245,
 a75:=Tryz.isAgg245,
 z75:=Tryz.sizeOf245,
 v75:=Tryz.zeroValue245,
 t76:=Tryz.underlying246,
 a76:=Tryz.isAgg246,
 z76:=Tryz.sizeOf246,
 v76:=Tryz.zeroValue246,
 t85:=Tryz.underlying270,
 a85:=Tryz.isAgg270,
 z85:=Tryz.sizeOf270,
 v85:=Tryz.zeroValue270,
 t127:=Tryz.underlying299,
 a127:=Tryz.isAgg299,
 z127:=Tryz.sizeOf299,
 v127:=Tryz.zeroValue299,
 t143:=Tryz.underlying300,
 a143:=Tryz.isAgg300,
 z143:=Tryz.sizeOf300,
 v143:=Tryz.zeroValue300,
 t145:=Tryz.underlying302,
 a145:=Tryz.isAgg302,
 z145:=Tryz.sizeOf302,
 v145:=Tryz.zeroValue302,
 t167:=Tryz.underlying269,
 a167:=Tryz.isAgg269,
 z167:=Tryz.sizeOf269,
 v167:=Tryz.zeroValue269,
 t168:=Tryz.underlying272,
 a168:=Tryz.isAgg272,
 z168:=Tryz.sizeOf272,
 v168:=Tryz.zeroValue272,
 t171:=Tryz.underlying275,
 a171:=Tryz.isAgg275,
 z171:=Tryz.sizeOf275,
 v171:=Tryz.zeroValue275,
 t173:=Tryz.underlying277,
 a173:=Tryz.isAgg277,
 z173:=Tryz.sizeOf277,
 v173:=Tryz.zeroValue277,
 t175:=Tryz.underlying285,
 a175:=Tryz.isAgg285,
 z175:=Tryz.sizeOf285,
 v175:=Tryz.zeroValue285,
 t210:=Tryz.underlying289,
 a210:=Tryz.isAgg289,
 z210:=Tryz.sizeOf289,
 v210:=Tryz.zeroValue289,
 t212:=Tryz.underlying293,
 a212:=Tryz.isAgg293,
 z212:=Tryz.sizeOf293,
 v212:=Tryz.zeroValue293,
 t213:=Tryz.underlying294,
 a213:=Tryz.isAgg294,
 z213:=Tryz.sizeOf294,
 t232:=Tryz.underlying303,
 a232:=Tryz.isAgg303,
 z232:=Tryz.sizeOf303,
 v232:=Tryz.zeroValue303,
 t233:=Tryz.underlying304,
 a233:=Tryz.isAgg304,
 z233:=Tryz.sizeOf304,
 v233:=Tryz.zeroValue304,
 g15:=by kernel_rfl,
 g16:=by kernel_rfl,
 g17:=by kernel_rfl,
 g18:=by kernel_rfl,
 g19:=by kernel_rfl}
theorem a6r:LaysM.n172 Tryz.prog GG:= {a9A with
 t80:=Tryz.underlying305,
 a80:=Tryz.isAgg305,
 z80:=Tryz.sizeOf305,
 v80:=Tryz.zeroValue305,
 i0:=by kernel_rfl,
 i2:=by kernel_rfl,
 i3:=by kernel_rfl,
 i4:=by kernel_rfl,
 i5:=by kernel_rfl,
 i9:=by kernel_rfl,
 i20:=by kernel_rfl,
 i21:=by kernel_rfl,
 i37:=by kernel_rfl,
 i46:=by kernel_rfl,
 i51:=by kernel_rfl,
 i53:=by kernel_rfl,
 i75:=by kernel_rfl,
 i76:=by kernel_rfl,
 i80:=by kernel_rfl,
 i85:=by kernel_rfl,
 i127:=by kernel_rfl,
 i143:=by kernel_rfl,
 i145:=by kernel_rfl,
 i167:=by kernel_rfl,
 i168:=by kernel_rfl,
 i171:=by kernel_rfl,
 i173:=by kernel_rfl,
 i175:=by kernel_rfl,
 i210:=by kernel_rfl,
 i212:=by kernel_rfl,
 i232:=by kernel_rfl,
 i233:=by kernel_rfl,
 m15:=by kernel_rfl,
 m16:=by kernel_rfl,
 m17:=by kernel_rfl,
 m18:=by kernel_rfl,
 m19:=by kernel_rfl}
theorem a6s:LaysC.n172 Tryz.prog GG:= {a6r with
 c0:=by kernel_rfl,
 c2:=by kernel_rfl,
 c3:=by kernel_rfl,
 c4:=by kernel_rfl,
 c5:=by kernel_rfl,
 c9:=by kernel_rfl,
 c20:=by kernel_rfl,
 c21:=by kernel_rfl,
 c37:=by kernel_rfl,
 c46:=by kernel_rfl,
 c51:=by kernel_rfl,
 c53:=by kernel_rfl,
 c75:=by kernel_rfl,
 c76:=by kernel_rfl,
 c80:=by kernel_rfl,
 c85:=by kernel_rfl,
 c127:=by kernel_rfl,
 c143:=by kernel_rfl,
 c145:=by kernel_rfl,
 c167:=by kernel_rfl,
 c168:=by kernel_rfl,
 c171:=by kernel_rfl,
 c173:=by kernel_rfl,
 c175:=by kernel_rfl,
 c210:=by kernel_rfl,
 c212:=by kernel_rfl,
 c213:=by kernel_rfl,
 c232:=by kernel_rfl,
 c233:=by kernel_rfl}
def AJ(aA:Bytes):Option (Int×Bool):=(YF) aA
theorem JM{aA:Bytes}{r:Int×Bool}(h:AJ aA=some r):Good Tryz.prog 280 [.str aA] (.iJ [.int .i64 r.1,.ifc r.2]):=a0a a6s (g:=1) (by kernel_rfl) (List.mem_of_getElem? (i:=1) (by kernel_rfl)) h
def a0c:Ren:=⟨fun|106=>220|213=>267|265=>279|n=>n,fun|9=>9|3=>3|n=>n,fun|n=>n⟩
theorem a9B:Lays.n106 Tryz.prog a0c:= {
 mixed:=by kernel_rfl,
 f106:=Tryz.func220.trans (congrArg some (by kernel_rfl)),
 f213:=Tryz.func267.trans (congrArg some (by kernel_rfl)),
 f265:=Tryz.func279.trans (congrArg some (by kernel_rfl)),
 t3:=Tryz.underlying3,
 a3:=Tryz.isAgg3,
 z3:=Tryz.sizeOf3,
 v3:=Tryz.zeroValue3,
 t9:=Tryz.underlying9,
 a9:=Tryz.isAgg9,
 z9:=Tryz.sizeOf9,
 v9:=Tryz.zeroValue9}
def oJ(aA:Bytes)(aM:Bytes):Option Int:=(fun a b:Bytes=>some (Lib.compareBytes a b)) aA aM
theorem qX{aA:Bytes}{aM:Bytes}{r:Int}(h:oJ aA aM=some r):Good Tryz.prog 220 [.str aA,.str aM] (.int .i64 r):=by cases h;exact UG a9B
end Go.Cx

/- What functions of the program compute, and the walks that show it. No condition. -/
import Derived.Test.YtbeaohmbmfjabaaGreatDoorPConflictSetG5
import Derived.Test.YtbeaohmbmfjabaaGreatDoorPConflictSetG4
import Derived.Sort.Walk0
set_option linter.unusedVariables false
set_option linter.unusedSimpArgs false
namespace Go.Cx
open Go.RowKit Go.Proofs Tryz
set_option maxRecDepth 100000
variable{Γ:tY}{N:Nat->St->Prop}
def ia(aB:aJ)(k1:ai->Option ai):Nat->Int->ai->Option ai
 |0,_,_=>none
 |n1+1,ay,cA=>((k8 ay 1 (IntKind.i64.wrap (((aB.nodes.map Node.c).length:Int)-1))).bind fun y28=>(bif y28 then((nF aB.nodes ay).bind fun x31=>((oN x31.cond).bind fun Db=>(bif room (([[D.int .i64 Db.kind,D.str Db.pat.rel,D.sl (Db.pat.args.map tx),D.str Db.left,D.str Db.right]]).length+(cA.map aM.c).length) 80 then(bif decide ((x31.parent:Int)>=ay)then(k1 (([Db])++cA))else(ia aB k1 n1 x31.parent (([Db])++cA)))else none)))else(k1 cA)))
def vU(aB:aJ)(aV:Int):Option ai:=(ia aB (fun(bN:ai)=>(some bN)) fuel aV ([]:ai))
def CA(aB:aJ)(ay:Int)(W1:List aQ):St:=⟨[(1,D.int .i64 ay),(2,D.ptr 0 0),(5,D.acc 1)],[Ob.box (aJ.c aB),Ob.row .uq 115 5 W1]⟩
theorem Kn(hΓ:Γ.nt=35){aB:aJ}{r:ai}{k1:ai->Option ai}(cq:∀(bN:ai),k1 bN=some r->Ax Γ N f90 (.q [[some (115,5)]] (D.fr 115 5 (r.map aM.c))) [1,1,1] ⟨[(5,D.acc 0)],[Ob.row .uq 115 5 (bN.map aM.c)]⟩):∀(n1:Nat) (ay:Int) (cA:ai),ia aB k1 n1 ay cA=some r->Ar Γ N f90 (.q [[some (115,5)]] (D.fr 115 5 (r.map aM.c))) [1,1,0,0] n1 (CA aB ay (cA.map aM.c)):=by
 intro n
 induction n with
 |zero=>intro ay cA h;simp[ia]at h
 |succ n1 ih1=>
  intro ay cA h;rw[ia]at h;refine aP fun N1 cB bw=>?_
  obtain⟨y28,h29,h⟩:=aD h;obtain⟨h30,h⟩|⟨h30,h⟩:=aO h
  ·obtain⟨x31,h32,h⟩:=aD h;obtain⟨Db,h34,h⟩:=aD h;obtain⟨h35,h⟩:=bY h;have dL:=((((((aT.g (fU h29)).b h30).l (dO Node.c 8 h32 rfl)).g (sJ h34)).w (cN h35)).l (dO Node.c 8 h32 rfl))
   obtain⟨h36,h⟩|⟨h36,h⟩:=aO h
   ·exact((dL.b h36).a [.hl 0 [5] [4]]).exs hΓ cB ⟨[(5,D.acc 0)],[Ob.row .uq 115 5 (([[D.int .i64 Db.kind,D.str Db.pat.rel,D.sl (Db.pat.args.map tx),D.str Db.left,D.str Db.right]])++(cA.map aM.c))]⟩ (by first| (simp only[mA]<;>rfl)| (simp only[mA,aG.c,aK.c,aM.c,Action.c,aN.c,aR.c,az.c,aW.c,Node.c,aJ.c,dH.c]<;>rfl)) (cq (([Db])++cA) h)
   ·exact((dL.b h36).a [.cn [1,2,5] [0,4]]).cs hΓ bw (CA aB x31.parent (([[D.int .i64 Db.kind,D.str Db.pat.rel,D.sl (Db.pat.args.map tx),D.str Db.left,D.str Db.right]])++(cA.map aM.c))) (by first| (simp only[mA]<;>rfl)| (simp only[mA,aG.c,aK.c,aM.c,Action.c,aN.c,aR.c,az.c,aW.c,Node.c,aJ.c,dH.c]<;>rfl)) (ih1 x31.parent (([Db])++cA) h)
  ·exact(((aT.g (fU h29)).b h30).a [.hl 0 [5] [1]]).ex hΓ cB (cq cA h)
theorem JR{aB:aJ}{aV:Int}{r:ai}(h:vU aB aV=some r):Good prog 90 [D.agg (aJ.c aB),D.int .i64 aV] (D.fr 115 5 (r.map aM.c)):=by
 refine gd func90 [[some (115,5)]] 35 fun hr Γ hΓ=>?_
 rw[vU]at h;refine(aT.a [.cn [1,2,5] [0,1]]).lp hΓ (Kn hΓ (fun bN h=>?_) fuel aV ([]:ai) h);have h:=aE h;subst h;exact aT.ret hΓ
def sw(aB:Bytes):Option Bool:=((nw aB).bind fun y1=>(some y1.2))
theorem yM{aB:Bytes}{r:Bool}(h:sw aB=some r):Good prog 281 [D.str aB] (D.bool r):=by
 refine gd func281 [[none]] 11 fun hr Γ hΓ=>?_
 rw[sw]at h;obtain⟨y1,h2,h⟩:=aD h;cases h;exact(aT.g (uY h2)).ret hΓ
def rU(aB:aM)(aV:aI):Option Bool:=((qX aB).bind fun y1=>(bif !(y1)then(some false)else((jw aV).bind fun y4=>(bif !(y4)then(some false)else((n9 aV aB.left).bind fun y7=>((n9 aV aB.right).bind fun y9=>(bif !(y7.2)then(some false)else(bif !(y9.2)then(some false)else(bif (aB.kind:Int)==3 then(some ((y7.1:Bytes)==y9.1))else(bif (aB.kind:Int)==4 then(some (!((y7.1:Bytes)==y9.1)))else((sw y7.1).bind fun Xt=>(bif Xt then((sw y9.1).bind fun y18=>(bif y18 then((j4 y7.1 y9.1).bind fun WD=>(some (decide ((WD:Int)<0))))else(some false)))else(some false)))))))))))))
theorem ED{aB:aM}{aV:aI}{r:Bool}(h:rU aB aV=some r):Good prog 270 [D.agg (aM.c aB),D.sl (aV.map aK.c)] (D.bool r):=by
 refine gd func270 [[none]] 61 fun hr Γ hΓ=>?_
 rw[rU]at h;obtain⟨y1,h2,h⟩:=aD h;obtain⟨h3,h⟩|⟨h3,h⟩:=aO h
 ·have h:=aE h;subst h;exact(((aT.g (sH h2)).r 4 h3).T 1).ret hΓ
 ·obtain⟨y4,h5,h⟩:=aD h;have kX:=((((aT.g (sH h2)).r 2 h3).g (lT h5)).r 2 h3)
  obtain⟨h6,h⟩|⟨h6,h⟩:=aO h
  ·have h:=aE h;subst h;exact(kX.b h6).ret hΓ
  ·obtain⟨y7,h8,h⟩:=aD h;obtain⟨y9,h10,h⟩:=aD h;have dL:=(((kX.b h6).g (qj h8)).g (qj h10))
   obtain⟨h11,h⟩|⟨h11,h⟩:=aO h
   ·have h:=aE h;subst h;exact((dL.r 3 h11).T 1).ret hΓ
   ·have lV:=(dL.r 3 h11)
    obtain⟨h12,h⟩|⟨h12,h⟩:=aO h
    ·have h:=aE h;subst h;exact(lV.b h12).ret hΓ
    ·obtain⟨h13,h⟩|⟨h13,h⟩:=aO h
     ·cases h;exact((lV.b h12).b h13).ret hΓ
     ·have kH:=((lV.b h12).b h13)
      obtain⟨h14,h⟩|⟨h14,h⟩:=aO h
      ·cases h;exact(kH.b h14).ret hΓ
      ·obtain⟨Xt,h16,h⟩:=aD h;have uB:=((kH.b h14).g (yM h16))
       obtain⟨h17,h⟩|⟨h17,h⟩:=aO h
       ·obtain⟨y18,h19,h⟩:=aD h;have x9:=(((uB.r 2 h17).g (yM h19)).b h17)
        obtain⟨h20,h⟩|⟨h20,h⟩:=aO h
        ·obtain⟨WD,h22,h⟩:=aD h;cases h;exact(((x9.r 3 h20).g (vR h22)).r 2 h20).ret hΓ
        ·have h:=aE h;subst h;exact(x9.r 5 h20).ret hΓ
       ·have h:=aE h;subst h;exact((uB.r 3 h17).F 5).ret hΓ
def rT(aB:aM)(aV:aI)(cr:aX):Option Bool:=((qU aB).bind fun y1=>(bif !(y1)then(some false)else((jw aV).bind fun y4=>(bif !(y4)then(some false)else(bif (aB.kind:Int)==1 then((iC aB.pat aV cr).bind fun y8=>(some (decide ((((y8.map aG.c).length:Int):Int)>0))))else(bif (aB.kind:Int)==2 then((iC aB.pat aV cr).bind fun y11=>(some ((((y11.map aG.c).length:Int):Int)==0)))else((rU aB aV).bind fun u7=>(some u7))))))))
theorem EC{aB:aM}{aV:aI}{cr:aX}{r:Bool}(h:rT aB aV cr=some r):Good prog 229 [D.agg (aM.c aB),D.sl (aV.map aK.c),D.sl (cr.map aG.c)] (D.bool r):=by
 refine gd func229 [[none]] 38 fun hr Γ hΓ=>?_
 rw[rT]at h;obtain⟨y1,h2,h⟩:=aD h;obtain⟨h3,h⟩|⟨h3,h⟩:=aO h
 ·have h:=aE h;subst h;exact(((aT.g (p9 h2)).r 4 h3).T 1).ret hΓ
 ·obtain⟨y4,h5,h⟩:=aD h;have kX:=((((aT.g (p9 h2)).r 2 h3).g (lT h5)).r 2 h3)
  obtain⟨h6,h⟩|⟨h6,h⟩:=aO h
  ·have h:=aE h;subst h;exact(kX.b h6).ret hΓ
  ·obtain⟨h7,h⟩|⟨h7,h⟩:=aO h
   ·obtain⟨y8,h9,h⟩:=aD h;cases h;exact(((kX.b h6).b h7).g (lN h9)).ret hΓ
   ·have dL:=((kX.b h6).b h7)
    obtain⟨h10,h⟩|⟨h10,h⟩:=aO h
    ·obtain⟨y11,h12,h⟩:=aD h;cases h;exact((dL.b h10).g (lN h12)).ret hΓ
    ·obtain⟨u7,h14,h⟩:=aD h;have h:=aE h;subst h;exact((dL.b h10).g (ED h14)).ret hΓ
def mX(aB:av)(aV:aM)(cr:aX)(i1:Nat)(bA:aR)(k2:av->Option av):aX->Nat->av->Option av
 | [],i2,dZ=>(k2 dZ)
 |mh::wD,i2,dZ=>((jy aV.pat mh bA.bind).bind fun Xi=>(bif Xi.2 then((lH bA.facts).bind fun Xj=>((kG mh).bind fun RV=>(bif room ((Xj.map aG.c).length+([[D.str RV.rel,D.sl (RV.args.map tx)]]).length) 40 then(bif room ((dZ.map aR.c).length+([[D.sl ((Xj.map aG.c)++([[D.str RV.rel,D.sl (RV.args.map tx)]])),D.sl (Xi.1.map aK.c)]]).length) 48 then(mX aB aV cr i1 bA k2 wD (i2+1) (dZ++([(⟨Xj++([RV]),Xi.1⟩:aR)])))else none)else none)))else(mX aB aV cr i1 bA k2 wD (i2+1) dZ)))
def gP(aB:av)(aV:aM)(cr:aX)(k1:av->Option av):av->Nat->av->Option av
 | [],i1,cA=>(k1 cA)
 |bA::bt,i1,cA=>(bif (aV.kind:Int) != 1 then((rT aV bA.bind cr).bind fun TU=>(bif TU then((vV bA).bind fun VA=>(bif room ((cA.map aR.c).length+([[D.sl (VA.facts.map aG.c),D.sl (VA.bind.map aK.c)]]).length) 48 then(gP aB aV cr k1 bt (i1+1) (cA++([VA])))else none))else(gP aB aV cr k1 bt (i1+1) cA)))else(bif decide (cr.length<=maxLen)then(mX aB aV cr i1 bA (fun(qd:av)=>(gP aB aV cr k1 bt (i1+1) qd)) cr 0 cA)else none))
def vW(aB:av)(aV:aM)(cr:aX):Option av:=(gP aB aV cr (fun(bN:av)=>(some bN)) aB 0 ([]:av))
def CD(aB:av)(aV:aM)(cr:aX)(W0:List aQ)(cZ:Int):St:=⟨[(0,D.sl (aB.map aR.c)),(2,D.sl (cr.map aG.c)),(4,D.ptr 0 0),(7,D.acc 1),(8,D.int .i64 cZ)],[Ob.box (aM.c aV),Ob.row .uq 124 2 W0]⟩
def CE(aB:av)(aV:aM)(cr:aX)(i1:Nat)(W0:List aQ)(cZ:Int):St:=⟨[(0,D.sl (aB.map aR.c)),(2,D.sl (cr.map aG.c)),(4,D.ptr 0 0),(7,D.acc 1),(8,D.int .i64 (i1:Int)),(9,D.int .i64 cZ)],[Ob.box (aM.c aV),Ob.row .uq 124 2 W0]⟩
theorem Ku(hΓ:Γ.nt=79){aB:av}{aV:aM}{cr:aX}{i1:Nat}{bA:aR}{r:av}{k2:av->Option av}(DV:∀(qd:av),k2 qd=some r->Ax Γ N f154 (.q [[some (124,2)]] (D.fr 124 2 (r.map aR.c))) [1,1,0,1,0,0,1,1] ⟨[(0,D.sl (aB.map aR.c)),(2,D.sl (cr.map aG.c)),(4,D.ptr 0 0),(7,D.acc 1),(8,D.int .i64 (i1:Int))],[Ob.box (aM.c aV),Ob.row .uq 124 2 (qd.map aR.c)]⟩)(hx1:(aB)[i1]?=some bA)(hm2:cr.length<=maxLen):∀(rest:aX) (i2:Nat) (dZ:av),cr.drop i2=rest->mX aB aV cr i1 bA k2 rest i2 dZ=some r->Ar Γ N f154 (.q [[some (124,2)]] (D.fr 124 2 (r.map aR.c))) [1,1,0,1,0,0,1,0,0,1,1,0] (rest.length+1) (CE aB aV cr i1 (dZ.map aR.c) (i2:Int)):=by
 intro rest
 induction rest with
 |nil=>
  intro i2 dZ hd2 h;rw[mX]at h;refine aP fun N2 xA vY=>?_
  exact((aT.ge aG.c hd2).a [.hl 3 [0,2,4,7,8] [0,1]]).ex hΓ xA (DV dZ h)
 |cons mh wD ih2=>
  intro i2 dZ hd2 h;rw[mX]at h;refine aP fun N2 xA vY=>?_
  obtain⟨Xi,h652,h⟩:=aD h;have LL:=(((((aT.lt aG.c hd2).a [.n 16]).l (b9 aG.c 2 (dc hd2) rfl)).l (b9 aR.c 2 hx1 rfl)).g (xV h652))
  obtain⟨h653,h⟩|⟨h653,h⟩:=aO h
  ·obtain⟨Xj,h660,h⟩:=aD h;obtain⟨RV,h662,h⟩:=aD h;obtain⟨h663,h⟩:=bY h;obtain⟨h664,h⟩:=bY h;exact(((((((((LL.b h653).a [.n2 [0,1,2,3,4,5,6,7,8,9,10,11,14,12,13,15,16,17,18] [0,1,2,3,4,5,6,7,8,9,10,11,13,14,12,15,16,17,18] 13 17 [0,12] [2,3,4,5,6]]).l (b9 aR.c 2 hx1 rfl)).g (uZ h660)).l (b9 aG.c 2 (dc hd2) rfl)).g (w5 h662)).w (cN h663)).w (cN h664)).a [.cn [0,2,4,7,8,9] [0,8]]).cs hΓ vY (CE aB aV cr i1 ((dZ.map aR.c)++([[D.sl ((Xj.map aG.c)++([[D.str RV.rel,D.sl (RV.args.map tx)]])),D.sl (Xi.1.map aK.c)]])) (IntKind.i64.wrap ((i2:Int)+1))) (by first| (simp only[iS hd2 hm2,mA]<;>rfl)| (simp only[iS hd2 hm2,mA,aG.c,aK.c,aM.c,Action.c,aN.c,aR.c,az.c,aW.c,Node.c,aJ.c,dH.c]<;>rfl)) (ih2 (i2+1) (dZ++([(⟨Xj++([RV]),Xi.1⟩:aR)])) (dn hd2) h)
  ·exact((LL.b h653).a [.cn [0,2,4,7,8,9] [0,1]]).ct hΓ vY (iS hd2 hm2) (ih2 (i2+1) dZ (dn hd2) h)
theorem Kt(hΓ:Γ.nt=79){aB:av}{aV:aM}{cr:aX}{r:av}{k1:av->Option av}(cq:∀(bN:av),k1 bN=some r->Ax Γ N f154 (.q [[some (124,2)]] (D.fr 124 2 (r.map aR.c))) [1,1,1] ⟨[(7,D.acc 0)],[Ob.row .uq 124 2 (bN.map aR.c)]⟩)(hm1:aB.length<=maxLen):∀(rest:av) (i1:Nat) (cA:av),aB.drop i1=rest->gP aB aV cr k1 rest i1 cA=some r->Ar Γ N f154 (.q [[some (124,2)]] (D.fr 124 2 (r.map aR.c))) [1,1,0,1,0] (rest.length+1) (CD aB aV cr (cA.map aR.c) (i1:Int)):=by
 intro rest
 induction rest with
 |nil=>
  intro i1 cA au h;rw[gP]at h;refine aP fun N1 cB bw=>?_
  exact((aT.ge aR.c au).a [.hl 0 [7] [1]]).ex hΓ cB (cq cA h)
 |cons bA bt ih1=>
  intro i1 cA au h;rw[gP]at h;refine aP fun N1 cB bw=>?_
  obtain⟨h563,h⟩|⟨h563,h⟩:=aO h
  ·obtain⟨TU,h565,h⟩:=aD h;have OU:=(((((aT.lt aR.c au).b h563).a [.n 7]).l (b9 aR.c 2 (dc au) rfl)).g (EC h565))
   obtain⟨h566,h⟩|⟨h566,h⟩:=aO h
   ·obtain⟨VA,h568,h⟩:=aD h;obtain⟨h569,h⟩:=bY h;exact(((((OU.b h566).l (b9 aR.c 2 (dc au) rfl)).g (Ja h568)).w (cN h569)).a [.cn [0,2,4,7,8] [0,5]]).cs hΓ bw (CD aB aV cr ((cA.map aR.c)++([[D.sl (VA.facts.map aG.c),D.sl (VA.bind.map aK.c)]])) (IntKind.i64.wrap ((i1:Int)+1))) (by first| (simp only[iS au hm1,mA]<;>rfl)| (simp only[iS au hm1,mA,aG.c,aK.c,aM.c,Action.c,aN.c,aR.c,az.c,aW.c,Node.c,aJ.c,dH.c]<;>rfl)) (ih1 (i1+1) (cA++([VA])) (dn au) h)
   ·exact((OU.b h566).a [.cn [0,2,4,7,8] [0,1]]).ct hΓ bw (iS au hm1) (ih1 (i1+1) cA (dn au) h)
  ·obtain⟨h665,h⟩:=bY h;refine(((aT.lt aR.c au).b h563).a [.cn [0,2,4,7,8,9] [0,1]]).lp hΓ (Ku hΓ (fun qd h=>?_) ((drop_cons au).1) (bp h665) cr 0 cA rfl h);exact(aT.a [.cn [0,2,4,7,8] [0,1]]).ct hΓ bw (iS au hm1) (ih1 (i1+1) qd (dn au) h)
theorem Jb{aB:av}{aV:aM}{cr:aX}{r:av}(h:vW aB aV cr=some r):Good prog 154 [D.sl (aB.map aR.c),D.agg (aM.c aV),D.sl (cr.map aG.c)] (D.fr 124 2 (r.map aR.c)):=by
 refine gd func154 [[some (124,2)]] 79 fun hr Γ hΓ=>?_
 rw[vW]at h;refine(aT.a [.cn [0,2,4,7,8] [0,1]]).lp hΓ (Kt hΓ (fun bN h=>?_) (by have:=(e7.sl (hr _ (aC (i:=0) rfl))).1;simpa using this) aB 0 ([]:av) rfl h);have h:=aE h;subst h;exact aT.ret hΓ
def jd(aB:ai)(aV:aX)(k1:av->Option av):ai->Nat->av->Option av
 | [],i1,b7=>(k1 b7)
 |bA::bt,i1,b7=>((vW b7 bA aV).bind fun kE=>(jd aB aV k1 bt (i1+1) kE))
def tB(aB:ai)(aV:aX):Option av:=(jd aB aV (fun(bN:av)=>(some bN)) aB 0 ([(⟨[],[]⟩:aR)]))
def AT(aB:ai)(aV:aX)(W0:List aQ)(cZ:Int):St:=⟨[(0,D.sl (aB.map aM.c)),(1,D.sl (aV.map aG.c)),(5,D.acc 0),(6,D.int .i64 cZ)],[Ob.row .uq 124 2 W0]⟩
theorem Hz(hΓ:Γ.nt=23){aB:ai}{aV:aX}{r:av}{k1:av->Option av}(cq:∀(bN:av),k1 bN=some r->Ax Γ N f89 (.q [[some (124,2)]] (D.fr 124 2 (r.map aR.c))) [1,1,1] ⟨[(5,D.acc 0)],[Ob.row .uq 124 2 (bN.map aR.c)]⟩)(hm1:aB.length<=maxLen):∀(rest:ai) (i1:Nat) (b7:av),aB.drop i1=rest->jd aB aV k1 rest i1 b7=some r->Ar Γ N f89 (.q [[some (124,2)]] (D.fr 124 2 (r.map aR.c))) [1,1,0,1,0] (rest.length+1) (AT aB aV (b7.map aR.c) (i1:Int)):=by
 intro rest
 induction rest with
 |nil=>
  intro i1 b7 au h;rw[jd]at h;refine aP fun N1 cB bw=>?_
  exact((aT.ge aM.c au).a [.hl 0 [5] [0]]).ex hΓ cB (cq b7 h)
 |cons bA bt ih1=>
  intro i1 b7 au h;rw[jd]at h;refine aP fun N1 cB bw=>?_
  obtain⟨kE,h23,h⟩:=aD h;exact((((aT.lt aM.c au).l (b9 aM.c 5 (dc au) rfl)).g (Jb h23)).a [.cn [0,1,5,6] [1]]).ct hΓ bw (iS au hm1) (ih1 (i1+1) kE (dn au) h)
theorem Fo{aB:ai}{aV:aX}{r:av}(h:tB aB aV=some r):Good prog 89 [D.sl (aB.map aM.c),D.sl (aV.map aG.c)] (D.fr 124 2 (r.map aR.c)):=by
 refine gd func89 [[some (124,2)]] 23 fun hr Γ hΓ=>?_
 rw[tB]at h;refine(aT.a [.cn [0,1,5,6] [0]]).UP hΓ (AT aB aV ([[D.sl ([]),D.sl ([])]]) 0) (by first| (simp only[mA]<;>rfl)| (simp only[mA,aG.c,aK.c,aM.c,Action.c,aN.c,aR.c,az.c,aW.c,Node.c,aJ.c,dH.c]<;>rfl)) (Hz hΓ (fun bN h=>?_) (by have:=(e7.sl (hr _ (aC (i:=0) rfl))).1;simpa using this) aB 0 ([(⟨[],[]⟩:aR)]) rfl h);have h:=aE h;subst h;exact aT.ret hΓ
def fV(aB:aI)(aV:aI)(k1:Option Bool):aI->Nat->Option Bool
 | [],i1=>(k1)
 |bA::bt,i1=>((nF aV (i1:Int)).bind fun x22=>(bif !((bA.var:Bytes)==x22.var&&(bA.value:Bytes)==x22.value)then(some false)else(fV aB aV k1 bt (i1+1))))
def kA(aB:aI)(aV:aI):Option Bool:=(bif (((aB.map aK.c).length:Int):Int) != ((aV.map aK.c).length:Int)then(some false)else(fV aB aV (some true) aB 0))
def CF(aB:aI)(aV:aI)(cZ:Int):St:=⟨[(0,D.sl (aB.map aK.c)),(1,D.sl (aV.map aK.c)),(5,D.int .i64 cZ)],[]⟩
theorem BT(hΓ:Γ.nt=26){aB:aI}{aV:aI}{r:Bool}{k1:Option Bool}(cq:k1=some r->Ax Γ N f153 (.q [[none]] (D.bool r)) [1,1,1] ⟨[],[]⟩)(hm1:aB.length<=maxLen):∀(rest:aI) (i1:Nat),aB.drop i1=rest->fV aB aV k1 rest i1=some r->Ar Γ N f153 (.q [[none]] (D.bool r)) [1,1,0,1,0] (rest.length+1) (CF aB aV (i1:Int)):=by
 intro rest
 induction rest with
 |nil=>
  intro i1 au h;rw[fV]at h;refine aP fun N1 cB bw=>?_
  exact((aT.ge aK.c au).a [.hl 0 [] []]).ex hΓ cB (cq h)
 |cons bA bt ih1=>
  intro i1 au h;rw[fV]at h;refine aP fun N1 cB bw=>?_
  obtain⟨x22,h23,h⟩:=aD h;have dL:=((((aT.lt aK.c au).a [.n 8]).l (b9 aK.c 2 (dc au) rfl)).l (dO aK.c 2 h23 rfl))
  obtain⟨h24,h⟩|⟨h24,h⟩:=aO h
  ·have h:=aE h;subst h;exact(dL.b h24).ret hΓ
  ·exact((dL.b h24).a [.cn [0,1,5] []]).ct hΓ bw (iS au hm1) (ih1 (i1+1) (dn au) h)
theorem B2{aB:aI}{aV:aI}{r:Bool}(h:kA aB aV=some r):Good prog 153 [D.sl (aB.map aK.c),D.sl (aV.map aK.c)] (D.bool r):=by
 refine gd func153 [[none]] 26 fun hr Γ hΓ=>?_
 rw[kA]at h;obtain⟨h1,h⟩|⟨h1,h⟩:=aO h
 ·have h:=aE h;subst h;exact(aT.b h1).ret hΓ
 ·refine((aT.b h1).a [.cn [0,1,5] []]).lp hΓ (BT hΓ (fun h=>?_) (by have:=(e7.sl (hr _ (aC (i:=0) rfl))).1;simpa using this) aB 0 rfl h);have h:=aE h;subst h;exact aT.ret hΓ
def gI(aB:av)(aV:av)(k1:Option Bool):av->Nat->Option Bool
 | [],i1=>(k1)
 |bA::bt,i1=>((nF aV (i1:Int)).bind fun x42=>((mR bA.facts x42.facts).bind fun y44=>(bif !(y44)then(some false)else((kA bA.bind x42.bind).bind fun y47=>(bif !(y47)then(some false)else(gI aB aV k1 bt (i1+1)))))))
def oF(aB:av)(aV:av):Option Bool:=(bif (((aB.map aR.c).length:Int):Int) != ((aV.map aR.c).length:Int)then(some false)else(gI aB aV (some true) aB 0))
def DC(aB:av)(aV:av)(cZ:Int):St:=⟨[(0,D.sl (aB.map aR.c)),(1,D.sl (aV.map aR.c)),(5,D.int .i64 cZ)],[]⟩
theorem CG(hΓ:Γ.nt=43){aB:av}{aV:av}{r:Bool}{k1:Option Bool}(cq:k1=some r->Ax Γ N f88 (.q [[none]] (D.bool r)) [1,1,1] ⟨[],[]⟩)(hm1:aB.length<=maxLen):∀(rest:av) (i1:Nat),aB.drop i1=rest->gI aB aV k1 rest i1=some r->Ar Γ N f88 (.q [[none]] (D.bool r)) [1,1,0,1,0] (rest.length+1) (DC aB aV (i1:Int)):=by
 intro rest
 induction rest with
 |nil=>
  intro i1 au h;rw[gI]at h;refine aP fun N1 cB bw=>?_
  exact((aT.ge aR.c au).a [.hl 0 [] []]).ex hΓ cB (cq h)
 |cons bA bt ih1=>
  intro i1 au h;rw[gI]at h;refine aP fun N1 cB bw=>?_
  obtain⟨x42,h43,h⟩:=aD h;obtain⟨y44,h45,h⟩:=aD h;have lV:=(((((aT.lt aR.c au).a [.n 23]).l (b9 aR.c 2 (dc au) rfl)).l (dO aR.c 2 h43 rfl)).g (xW h45))
  obtain⟨h46,h⟩|⟨h46,h⟩:=aO h
  ·have h:=aE h;subst h;exact((lV.r 13 h46).T 1).ret hΓ
  ·obtain⟨y47,h48,h⟩:=aD h;have kH:=(((((((lV.r 3 h46).l (b9 aR.c 2 (dc au) rfl)).r 5 h46).l (dO aR.c 2 h43 rfl)).r 3 h46).g (B2 h48)).r 2 h46)
   obtain⟨h49,h⟩|⟨h49,h⟩:=aO h
   ·have h:=aE h;subst h;exact(kH.b h49).ret hΓ
   ·exact((kH.b h49).a [.cn [0,1,5] []]).ct hΓ bw (iS au hm1) (ih1 (i1+1) (dn au) h)
theorem BU{aB:av}{aV:av}{r:Bool}(h:oF aB aV=some r):Good prog 88 [D.sl (aB.map aR.c),D.sl (aV.map aR.c)] (D.bool r):=by
 refine gd func88 [[none]] 43 fun hr Γ hΓ=>?_
 rw[oF]at h;obtain⟨h1,h⟩|⟨h1,h⟩:=aO h
 ·have h:=aE h;subst h;exact(aT.b h1).ret hΓ
 ·refine((aT.b h1).a [.cn [0,1,5] []]).lp hΓ (CG hΓ (fun h=>?_) (by have:=(e7.sl (hr _ (aC (i:=0) rfl))).1;simpa using this) aB 0 rfl h);have h:=aE h;subst h;exact aT.ret hΓ
def j7(aB:aJ)(k1:Option Bool):bK->Nat->Option Bool
 | [],i1=>(k1)
 |bA::bt,i1=>((iC bA.shape ([]) aB.facts).bind fun Oy=>((mR bA.facts Oy).bind fun u9=>(bif !(u9)then(some false)else(j7 aB k1 bt (i1+1)))))
def j8(aB:aJ)(k2:Option Bool):bE->Nat->Option Bool
 | [],i2=>(k2)
 |mh::wD,i2=>((vU aB (i2:Int)).bind fun V9=>((tB V9 aB.facts).bind fun a8D=>((oF mh.tokens a8D).bind fun a8E=>(bif !(a8E)then(some false)else(j8 aB k2 wD (i2+1))))))
def om(aB:aJ):Option Bool:=((oD aB.rules).bind fun y1=>(bif !(y1.2)then(some false)else((sn aB.facts).bind fun y4=>(bif !(y4)then(some false)else((qF aB y1.1).bind fun y7=>(bif !(y7)then(some false)else(bif decide ((aB.dB:Int)<0)then(some false)else(j7 aB (j8 aB (some true) aB.nodes 0) aB.bJ 0))))))))
def Hi(aB:aJ)(cZ:Int):St:=⟨[(1,D.ptr 0 0),(5,D.int .i64 cZ)],[Ob.box (aJ.c aB)]⟩
theorem Fb(hΓ:Γ.nt=77){aB:aJ}{r:Bool}{k1:Option Bool}(cq:k1=some r->Ax Γ N f38 (.q [[none]] (D.bool r)) [1,1,1,1] ⟨[(1,D.ptr 0 0)],[Ob.box (aJ.c aB)]⟩)(hm1:aB.bJ.length<=maxLen):∀(rest:bK) (i1:Nat),aB.bJ.drop i1=rest->j7 aB k1 rest i1=some r->Ar Γ N f38 (.q [[none]] (D.bool r)) [1,1,1,0,1,0] (rest.length+1) (Hi aB (i1:Int)):=by
 intro rest
 induction rest with
 |nil=>
  intro i1 au h;rw[j7]at h;refine aP fun N1 cB bw=>?_
  exact((aT.ge aW.c au).a [.hl 0 [1] [0]]).ex hΓ cB (cq h)
 |cons bA bt ih1=>
  intro i1 au h;rw[j7]at h;refine aP fun N1 cB bw=>?_
  obtain⟨Oy,h40,h⟩:=aD h;obtain⟨u9,h42,h⟩:=aD h;have lV:=(((((((aT.lt aW.c au).a [.n 15]).l (b9 aW.c 3 (dc au) rfl)).l (b9 aW.c 3 (dc au) rfl)).a [.d (D.fr 53 2 (Oy.map aG.c))]).w (show Good prog 87 [D.agg (aG.c bA.shape),D.sl ([]),D.sl (aB.facts.map aG.c)] (D.fr 53 2 (Oy.map aG.c))from by first| (simpa only[bu,bD,bZ,kF,jK]using lN h40)|exact lN h40)).g (xW h42))
  obtain⟨h43,h⟩|⟨h43,h⟩:=aO h
  ·have h:=aE h;subst h;exact(lV.b h43).ret hΓ
  ·exact((lV.b h43).a [.cn [1,5] [0]]).ct hΓ bw (iS au hm1) (ih1 (i1+1) (dn au) h)
def Hj(aB:aJ)(cZ:Int):St:=⟨[(1,D.ptr 0 0),(6,D.int .i64 cZ)],[Ob.box (aJ.c aB)]⟩
theorem Fc(hΓ:Γ.nt=77){aB:aJ}{r:Bool}{k2:Option Bool}(DV:k2=some r->Ax Γ N f38 (.q [[none]] (D.bool r)) [1,1,1,1,1] ⟨[],[]⟩)(hm2:aB.nodes.length<=maxLen):∀(rest:bE) (i2:Nat),aB.nodes.drop i2=rest->j8 aB k2 rest i2=some r->Ar Γ N f38 (.q [[none]] (D.bool r)) [1,1,1,1,0,1,0] (rest.length+1) (Hj aB (i2:Int)):=by
 intro rest
 induction rest with
 |nil=>
  intro i2 hd2 h;rw[j8]at h;refine aP fun N2 xA vY=>?_
  exact((aT.ge Node.c hd2).a [.hl 0 [] []]).ex hΓ xA (DV h)
 |cons mh wD ih2=>
  intro i2 hd2 h;rw[j8]at h;refine aP fun N2 xA vY=>?_
  obtain⟨V9,h105,h⟩:=aD h;obtain⟨a8D,h107,h⟩:=aD h;obtain⟨a8E,h109,h⟩:=aD h;have kH:=((((((aT.lt Node.c hd2).a [.n2 [0,1,2,3,4,5,6,7,8,9,10,11,12,13] [0,1,2,3,4,5,6,7,8,9,10,11,12,13] 11 12 [0,1,2,3,4,5] []]).l (b9 Node.c 8 (dc hd2) rfl)).g (JR h105)).g (Fo h107)).g (BU h109))
  obtain⟨h110,h⟩|⟨h110,h⟩:=aO h
  ·have h:=aE h;subst h;exact(kH.b h110).ret hΓ
  ·exact((kH.b h110).a [.cn [1,6] [0]]).ct hΓ vY (iS hd2 hm2) (ih2 (i2+1) (dn hd2) h)
theorem EE{aB:aJ}{r:Bool}(h:om aB=some r):Good prog 38 [D.agg (aJ.c aB)] (D.bool r):=by
 refine gd func38 [[none]] 77 fun hr Γ hΓ=>?_
 rw[om]at h;obtain⟨y1,h2,h⟩:=aD h;obtain⟨h3,h⟩|⟨h3,h⟩:=aO h
 ·have h:=aE h;subst h;exact(((aT.g (vS h2)).r 5 h3).T 10).ret hΓ
 ·obtain⟨y4,h5,h⟩:=aD h;have uB:=((((aT.g (vS h2)).r 3 h3).g (FV h5)).r 2 h3)
  obtain⟨h6,h⟩|⟨h6,h⟩:=aO h
  ·have h:=aE h;subst h;exact((uB.r 5 h6).T 5).ret hΓ
  ·obtain⟨y7,h8,h⟩:=aD h;have x9:=(((uB.r 3 h6).g (DB h8)).r 2 h6)
   obtain⟨h9,h⟩|⟨h9,h⟩:=aO h
   ·have h:=aE h;subst h;exact((x9.r 4 h9).T 1).ret hΓ
   ·have Ac:=(x9.r 4 h9)
    obtain⟨h10,h⟩|⟨h10,h⟩:=aO h
    ·have h:=aE h;subst h;exact(Ac.b h10).ret hΓ
    ·refine((Ac.b h10).a [.cn [1,5] [0]]).lp hΓ (Fb hΓ (fun h=>?_) (by have:=(e7.sl (e7.agg (hr _ (aC (i:=0) rfl)) (.sl (aB.bJ.map aW.c)) (by simp))).1;simpa using this) aB.bJ 0 rfl h);refine(aT.a [.cn [1,6] [0]]).lp hΓ (Fc hΓ (fun h=>?_) (by have:=(e7.sl (e7.agg (hr _ (aC (i:=0) rfl)) (.sl (aB.nodes.map Node.c)) (by simp))).1;simpa using this) aB.nodes 0 rfl h);have h:=aE h;subst h;exact aT.ret hΓ
def C5(aB:aR)(aV:aR)(k1:Option Int):aX->Nat->Option Int
 | [],i1=>(k1)
 |bA::bt,i1=>(bif decide (((i1:Int):Int)<((aV.facts.map aG.c).length:Int))then((nF aV.facts (i1:Int)).bind fun x34=>((j5 bA x34).bind fun IP=>(bif (IP:Int) != 0 then(some IP)else(C5 aB aV k1 bt (i1+1)))))else(k1))
def lg(aB:aH):Option aH:=(bif room (([]:List aQ).length+(aB.map tx).length) 16 then(some (([]:aH)++aB))else none)
theorem th{aB:aH}{r:aH}(h:lg aB=some r):Good prog 184 [D.sl (aB.map tx)] (D.fr 9 1 (r.map tx)):=by
 refine gd func184 [[some (9,1)]] 5 fun hr Γ hΓ=>?_
 rw[lg]at h;obtain⟨h1,h⟩:=bY h;cases h;exact(((aT.w (cN h1)).w (show(∀r∈(aB.map tx),r.length=1)/\(true=true->D.rZ (aB.map tx)=true)from⟨by first|simp| (intro r hr;obtain⟨x,_,rfl⟩:=cC.1 (cK (jf hr));rfl),by simp[D.rZ,D.flat]⟩)).a [.P3 2,.fl true]).rts hΓ (D.fr 9 1 (([]:List aQ)++(aB.map tx))) (by first|rfl| (simp only[mA]<;>rfl)| (simp only[cY,mA]<;>rfl))
def gB(aB:aG):Option aG:=((lg aB.args).bind fun y1=>(some (⟨aB.rel,y1⟩:aG)))
theorem wH{aB:aG}{r:aG}(h:gB aB=some r):Good prog 112 [D.agg (aG.c aB)] (D.agg [D.str r.rel,D.fr 9 1 (r.args.map tx)]):=by
 refine gd func112 [[none,some (9,1)]] 9 fun hr Γ hΓ=>?_
 rw[gB]at h;obtain⟨y1,h2,h⟩:=aD h;cases h;exact((aT.a [.n 5]).g (th h2)).ret hΓ
def iO(aB:aM):Option aM:=((gB aB.pat).bind fun y1=>(some (⟨aB.kind,y1,aB.left,aB.right⟩:aM)))
theorem mr{aB:aM}{r:aM}(h:iO aB=some r):Good prog 113 [D.agg (aM.c aB)] (D.agg [D.int .i64 r.kind,D.str r.pat.rel,D.fr 9 1 (r.pat.args.map tx),D.str r.left,D.str r.right]):=by
 refine gd func113 [[none,none,some (9,1),none,none]] 8 fun hr Γ hΓ=>?_
 rw[iO]at h;obtain⟨y1,h2,h⟩:=aD h;cases h;exact(aT.g (wH h2)).ret hΓ
def kq(aB:ai)(k1:ai->Option ai):ai->Nat->ai->Option ai
 | [],i1,b7=>(k1 b7)
 |bA::bt,i1,b7=>((iO bA).bind fun pY=>(bif room ((b7.map aM.c).length+([[D.int .i64 pY.kind,D.str pY.pat.rel,D.sl (pY.pat.args.map tx),D.str pY.left,D.str pY.right]]).length) 80 then(kq aB k1 bt (i1+1) (b7++([pY])))else none))
def qy(aB:ai):Option ai:=(kq aB (fun(bN:ai)=>(some bN)) aB 0 ([]:ai))
def zD(aB:ai)(W0:List aQ)(cZ:Int):St:=⟨[(3,D.acc 0),(6,D.sl (aB.map aM.c)),(7,D.int .i64 ((aB.map aM.c).length:Int)),(8,D.int .i64 cZ)],[Ob.row .uq 115 5 W0]⟩
theorem Es(hΓ:Γ.nt=19){aB:ai}{r:ai}{k1:ai->Option ai}(cq:∀(bN:ai),k1 bN=some r->Ax Γ N f244 (.q [[some (115,5)]] (D.fr 115 5 (r.map aM.c))) [1,1,1] ⟨[(3,D.acc 0)],[Ob.row .uq 115 5 (bN.map aM.c)]⟩)(hm1:aB.length<=maxLen):∀(rest:ai) (i1:Nat) (b7:ai),aB.drop i1=rest->kq aB k1 rest i1 b7=some r->Ar Γ N f244 (.q [[some (115,5)]] (D.fr 115 5 (r.map aM.c))) [1,1,0,1,0] (rest.length+1) (zD aB (b7.map aM.c) (i1:Int)):=by
 intro rest
 induction rest with
 |nil=>
  intro i1 b7 au h;rw[kq]at h;refine aP fun N1 cB bw=>?_
  exact((aT.ge aM.c au).a [.hl 0 [3] [0]]).ex hΓ cB (cq b7 h)
 |cons bA bt ih1=>
  intro i1 b7 au h;rw[kq]at h;refine aP fun N1 cB bw=>?_
  obtain⟨pY,h28,h⟩:=aD h;obtain⟨h29,h⟩:=bY h;exact(((((aT.lt aM.c au).l (b9 aM.c 5 (dc au) rfl)).g (mr h28)).w (cN h29)).a [.cn [3,6,7,8] [4]]).cs hΓ bw (zD aB ((b7.map aM.c)++([[D.int .i64 pY.kind,D.str pY.pat.rel,D.sl (pY.pat.args.map tx),D.str pY.left,D.str pY.right]])) (IntKind.i64.wrap ((i1:Int)+1))) (by first| (simp only[iS au hm1,mA]<;>rfl)| (simp only[iS au hm1,mA,aG.c,aK.c,aM.c,Action.c,aN.c,aR.c,az.c,aW.c,Node.c,aJ.c,dH.c]<;>rfl)) (ih1 (i1+1) (b7++([pY])) (dn au) h)
theorem Dp{aB:ai}{r:ai}(h:qy aB=some r):Good prog 244 [D.sl (aB.map aM.c)] (D.fr 115 5 (r.map aM.c)):=by
 refine gd func244 [[some (115,5)]] 19 fun hr Γ hΓ=>?_
 rw[qy]at h;refine(aT.a [.P3 3,.cn [3,6,7,8] [0]]).lp hΓ (Es hΓ (fun bN h=>?_) (by have:=(e7.sl (hr _ (aC (i:=0) rfl))).1;simpa using this) aB 0 ([]:ai) rfl h);have h:=aE h;subst h;exact aT.ret hΓ
def jU(aB:aN)(y1:ai)(k1:c8->Option aN):c8->Nat->c8->Option aN
 | [],i1,gR=>(k1 gR)
 |bA::bt,i1,gR=>((gB bA.pat).bind fun u9=>(bif room ((gR.map Action.c).length+([[D.int .i64 bA.kind,D.str u9.rel,D.sl (u9.args.map tx)]]).length) 48 then(jU aB y1 k1 bt (i1+1) (gR++([(⟨bA.kind,u9⟩:Action)])))else none))
def pS(aB:aN):Option aN:=((qy aB.conds).bind fun y1=>(jU aB y1 (fun(nB:c8)=>(some (⟨aB.name,aB.prio,y1,nB⟩:aN))) aB.ck 0 ([]:c8)))
def AH(aB:aN)(y1:ai)(W0:List aQ)(cZ:Int):St:=⟨[(2,D.ptr 0 0),(3,D.ptr 1 0),(15,D.sl (aB.ck.map Action.c)),(16,D.int .i64 ((aB.ck.map Action.c).length:Int)),(17,D.int .i64 cZ)],[Ob.box [D.str ([]),D.int .i64 0,D.nil,D.nil],Ob.box [D.str aB.name,D.int .i64 aB.prio,D.acc 2,D.acc 3],Ob.row .uq 115 5 (y1.map aM.c),Ob.row .uq 199 3 W0]⟩
theorem Gm(hΓ:Γ.nt=34){aB:aN}{y1:ai}{r:aN}{k1:c8->Option aN}(cq:∀(nB:c8),k1 nB=some r->Ax Γ N f182 (.q [[none,none,some (115,5),some (199,3)]] (D.agg [D.str r.name,D.int .i64 r.prio,D.fr 115 5 (r.conds.map aM.c),D.fr 199 3 (r.ck.map Action.c)])) [1,1,1] ⟨[(2,D.ptr 0 0),(3,D.ptr 1 0)],[Ob.box [D.str ([]),D.int .i64 0,D.nil,D.nil],Ob.box [D.str aB.name,D.int .i64 aB.prio,D.acc 2,D.acc 3],Ob.row .uq 115 5 (y1.map aM.c),Ob.row .uq 199 3 (nB.map Action.c)]⟩)(hm1:aB.ck.length<=maxLen):∀(rest:c8) (i1:Nat) (gR:c8),aB.ck.drop i1=rest->jU aB y1 k1 rest i1 gR=some r->Ar Γ N f182 (.q [[none,none,some (115,5),some (199,3)]] (D.agg [D.str r.name,D.int .i64 r.prio,D.fr 115 5 (r.conds.map aM.c),D.fr 199 3 (r.ck.map Action.c)])) [1,1,0,1,0] (rest.length+1) (AH aB y1 (gR.map Action.c) (i1:Int)):=by
 intro rest
 induction rest with
 |nil=>
  intro i1 gR au h;rw[jU]at h;refine aP fun N1 cB bw=>?_
  exact((aT.ge Action.c au).a [.hl 0 [2,3] [0,1,2,3]]).ex hΓ cB (cq gR h)
 |cons bA bt ih1=>
  intro i1 gR au h;rw[jU]at h;refine aP fun N1 cB bw=>?_
  obtain⟨u9,h42,h⟩:=aD h;obtain⟨h43,h⟩:=bY h;exact((((((aT.lt Action.c au).l (b9 Action.c 3 (dc au) rfl)).a [.n2 [0,1,2,3,4,5,6,7,8,9,10,11] [0,1,2,3,4,5,6,7,8,9,10,11] 8 9 [0,1] [5]]).g (wH h42)).w (cN h43)).a [.cn [2,3,15,16,17] [0,1,2,7]]).cs hΓ bw (AH aB y1 ((gR.map Action.c)++([[D.int .i64 bA.kind,D.str u9.rel,D.sl (u9.args.map tx)]])) (IntKind.i64.wrap ((i1:Int)+1))) (by first| (simp only[iS au hm1,mA]<;>rfl)| (simp only[iS au hm1,mA,aG.c,aK.c,aM.c,Action.c,aN.c,aR.c,az.c,aW.c,Node.c,aJ.c,dH.c]<;>rfl)) (ih1 (i1+1) (gR++([(⟨bA.kind,u9⟩:Action)])) (dn au) h)
theorem Eu{aB:aN}{r:aN}(h:pS aB=some r):Good prog 182 [D.agg (aN.c aB)] (D.agg [D.str r.name,D.int .i64 r.prio,D.fr 115 5 (r.conds.map aM.c),D.fr 199 3 (r.ck.map Action.c)]):=by
 refine gd func182 [[none,none,some (115,5),some (199,3)]] 34 fun hr Γ hΓ=>?_
 rw[pS]at h;obtain⟨y1,h2,h⟩:=aD h;refine(((aT.a [.n 9]).g (Dp h2)).a [.pb 3 3 199 3,.cn [2,3,15,16,17] [1,3,2,4]]).lp hΓ (Gm hΓ (fun nB h=>?_) (by have:=(e7.sl (e7.agg (hr _ (aC (i:=0) rfl)) (.sl (aB.ck.map Action.c)) (by simp))).1;simpa using this) aB.ck 0 ([]:c8) rfl h);cases h;exact aT.ret hΓ
def kw(aB:aq)(k1:aq->Option aq):aq->Nat->aq->Option aq
 | [],i1,b7=>(k1 b7)
 |bA::bt,i1,b7=>((pS bA).bind fun pY=>(bif room ((b7.map aN.c).length+([[D.str pY.name,D.int .i64 pY.prio,D.sl (pY.conds.map aM.c),D.sl (pY.ck.map Action.c)]]).length) 72 then(kw aB k1 bt (i1+1) (b7++([pY])))else none))
def qz(aB:aq):Option aq:=(kw aB (fun(bN:aq)=>(some bN)) aB 0 ([]:aq))
def zF(aB:aq)(W0:List aQ)(cZ:Int):St:=⟨[(3,D.acc 0),(6,D.sl (aB.map aN.c)),(7,D.int .i64 ((aB.map aN.c).length:Int)),(8,D.int .i64 cZ)],[Ob.row .uq 105 4 W0]⟩
theorem Ev(hΓ:Γ.nt=19){aB:aq}{r:aq}{k1:aq->Option aq}(cq:∀(bN:aq),k1 bN=some r->Ax Γ N f109 (.q [[some (105,4)]] (D.fr 105 4 (r.map aN.c))) [1,1,1] ⟨[(3,D.acc 0)],[Ob.row .uq 105 4 (bN.map aN.c)]⟩)(hm1:aB.length<=maxLen):∀(rest:aq) (i1:Nat) (b7:aq),aB.drop i1=rest->kw aB k1 rest i1 b7=some r->Ar Γ N f109 (.q [[some (105,4)]] (D.fr 105 4 (r.map aN.c))) [1,1,0,1,0] (rest.length+1) (zF aB (b7.map aN.c) (i1:Int)):=by
 intro rest
 induction rest with
 |nil=>
  intro i1 b7 au h;rw[kw]at h;refine aP fun N1 cB bw=>?_
  exact((aT.ge aN.c au).a [.hl 0 [3] [0]]).ex hΓ cB (cq b7 h)
 |cons bA bt ih1=>
  intro i1 b7 au h;rw[kw]at h;refine aP fun N1 cB bw=>?_
  obtain⟨pY,h28,h⟩:=aD h;obtain⟨h29,h⟩:=bY h;exact(((((aT.lt aN.c au).l (b9 aN.c 4 (dc au) rfl)).g (Eu h28)).w (cN h29)).a [.cn [3,6,7,8] [5]]).cs hΓ bw (zF aB ((b7.map aN.c)++([[D.str pY.name,D.int .i64 pY.prio,D.sl (pY.conds.map aM.c),D.sl (pY.ck.map Action.c)]])) (IntKind.i64.wrap ((i1:Int)+1))) (by first| (simp only[iS au hm1,mA]<;>rfl)| (simp only[iS au hm1,mA,aG.c,aK.c,aM.c,Action.c,aN.c,aR.c,az.c,aW.c,Node.c,aJ.c,dH.c]<;>rfl)) (ih1 (i1+1) (b7++([pY])) (dn au) h)
theorem Dq{aB:aq}{r:aq}(h:qz aB=some r):Good prog 109 [D.sl (aB.map aN.c)] (D.fr 105 4 (r.map aN.c)):=by
 refine gd func109 [[some (105,4)]] 19 fun hr Γ hΓ=>?_
 rw[qz]at h;refine(aT.a [.P3 3,.cn [3,6,7,8] [0]]).lp hΓ (Ev hΓ (fun bN h=>?_) (by have:=(e7.sl (hr _ (aC (i:=0) rfl))).1;simpa using this) aB 0 ([]:aq) rfl h);have h:=aE h;subst h;exact aT.ret hΓ
def iP(aB:aG):Option aG:=((lg aB.args).bind fun y1=>(some (⟨aB.rel,y1⟩:aG)))
theorem uL{aB:aG}{r:aG}(h:iP aB=some r):Good prog 183 [D.agg (aG.c aB)] (D.agg [D.str r.rel,D.fr 9 1 (r.args.map tx)]):=by
 refine gd func183 [[none,some (9,1)]] 9 fun hr Γ hΓ=>?_
 rw[iP]at h;obtain⟨y1,h2,h⟩:=aD h;cases h;exact((aT.a [.n 5]).g (th h2)).ret hΓ
def kr(aB:aX)(k1:aX->Option aX):aX->Nat->aX->Option aX
 | [],i1,b7=>(k1 b7)
 |bA::bt,i1,b7=>((iP bA).bind fun pY=>(bif room ((b7.map aG.c).length+([[D.str pY.rel,D.sl (pY.args.map tx)]]).length) 40 then(kr aB k1 bt (i1+1) (b7++([pY])))else none))
def jr(aB:aX):Option aX:=(kr aB (fun(bN:aX)=>(some bN)) aB 0 ([]:aX))
def zE(aB:aX)(W0:List aQ)(cZ:Int):St:=⟨[(3,D.acc 0),(6,D.sl (aB.map aG.c)),(7,D.int .i64 ((aB.map aG.c).length:Int)),(8,D.int .i64 cZ)],[Ob.row .uq 53 2 W0]⟩
theorem Et(hΓ:Γ.nt=19){aB:aX}{r:aX}{k1:aX->Option aX}(cq:∀(bN:aX),k1 bN=some r->Ax Γ N f111 (.q [[some (53,2)]] (D.fr 53 2 (r.map aG.c))) [1,1,1] ⟨[(3,D.acc 0)],[Ob.row .uq 53 2 (bN.map aG.c)]⟩)(hm1:aB.length<=maxLen):∀(rest:aX) (i1:Nat) (b7:aX),aB.drop i1=rest->kr aB k1 rest i1 b7=some r->Ar Γ N f111 (.q [[some (53,2)]] (D.fr 53 2 (r.map aG.c))) [1,1,0,1,0] (rest.length+1) (zE aB (b7.map aG.c) (i1:Int)):=by
 intro rest
 induction rest with
 |nil=>
  intro i1 b7 au h;rw[kr]at h;refine aP fun N1 cB bw=>?_
  exact((aT.ge aG.c au).a [.hl 0 [3] [0]]).ex hΓ cB (cq b7 h)
 |cons bA bt ih1=>
  intro i1 b7 au h;rw[kr]at h;refine aP fun N1 cB bw=>?_
  obtain⟨pY,h28,h⟩:=aD h;obtain⟨h29,h⟩:=bY h;exact(((((aT.lt aG.c au).l (b9 aG.c 2 (dc au) rfl)).g (uL h28)).w (cN h29)).a [.cn [3,6,7,8] [4]]).cs hΓ bw (zE aB ((b7.map aG.c)++([[D.str pY.rel,D.sl (pY.args.map tx)]])) (IntKind.i64.wrap ((i1:Int)+1))) (by first| (simp only[iS au hm1,mA]<;>rfl)| (simp only[iS au hm1,mA,aG.c,aK.c,aM.c,Action.c,aN.c,aR.c,az.c,aW.c,Node.c,aJ.c,dH.c]<;>rfl)) (ih1 (i1+1) (b7++([pY])) (dn au) h)
theorem tg{aB:aX}{r:aX}(h:jr aB=some r):Good prog 111 [D.sl (aB.map aG.c)] (D.fr 53 2 (r.map aG.c)):=by
 refine gd func111 [[some (53,2)]] 19 fun hr Γ hΓ=>?_
 rw[jr]at h;refine(aT.a [.P3 3,.cn [3,6,7,8] [0]]).lp hΓ (Et hΓ (fun bN h=>?_) (by have:=(e7.sl (hr _ (aC (i:=0) rfl))).1;simpa using this) aB 0 ([]:aX) rfl h);have h:=aE h;subst h;exact aT.ret hΓ
def oU(aB:aI):Option aI:=(bif room (([]:List aQ).length+(aB.map aK.c).length) 32 then(some (([]:aI)++aB))else none)
theorem xM{aB:aI}{r:aI}(h:oU aB=some r):Good prog 185 [D.sl (aB.map aK.c)] (D.fr 152 2 (r.map aK.c)):=by
 refine gd func185 [[some (152,2)]] 5 fun hr Γ hΓ=>?_
 rw[oU]at h;obtain⟨h1,h⟩:=bY h;cases h;exact(((aT.w (cN h1)).w (show(∀r∈(aB.map aK.c),r.length=2)/\(true=true->D.rZ (aB.map aK.c)=true)from⟨by first|simp| (intro r hr;obtain⟨x,_,rfl⟩:=cC.1 (cK (jf hr));rfl),by simp[D.rZ,D.flat]⟩)).a [.P3 2,.fl true]).rts hΓ (D.fr 152 2 (([]:List aQ)++(aB.map aK.c))) (by first|rfl| (simp only[mA]<;>rfl)| (simp only[cY,mA]<;>rfl))
def fP(aB:Bytes)(k1:Option Bool):Nat->Int->Option Bool
 |0,_=>none
 |n1+1,mZ=>(bif decide ((mZ:Int)<(aB.length:Int))then((nF aB mZ).bind fun b31=>(bif decide ((b31.toNat:Int)<97)then(bif decide ((b31.toNat:Int)<48)then(some false)else(bif decide ((b31.toNat:Int)>57)then(some false)else(fP aB k1 n1 (IntKind.i64.wrap (mZ+1)))))else(bif decide ((b31.toNat:Int)>122)then(bif decide ((b31.toNat:Int)<48)then(some false)else(bif decide ((b31.toNat:Int)>57)then(some false)else(fP aB k1 n1 (IntKind.i64.wrap (mZ+1)))))else(fP aB k1 n1 (IntKind.i64.wrap (mZ+1))))))else(k1))
def ed(aB:Bytes):Option Bool:=(bif decide (((aB.length:Int):Int)<1)then(some false)else(bif decide (((aB.length:Int):Int)>8)then(some false)else(fP aB (some true) fuel 0)))
def Lr(aB:Bytes)(mZ:Int):St:=⟨[(0,D.str aB),(3,D.int .i64 mZ)],[]⟩
theorem KI(hΓ:Γ.nt=40){aB:Bytes}{r:Bool}{k1:Option Bool}(cq:k1=some r->Ax Γ N f191 (.q [[none]] (D.bool r)) [1,1,1] ⟨[],[]⟩):∀(n1:Nat) (mZ:Int),fP aB k1 n1 mZ=some r->Ar Γ N f191 (.q [[none]] (D.bool r)) [1,1,0,1,0] n1 (Lr aB mZ):=by
 intro n
 induction n with
 |zero=>intro mZ h;simp[fP]at h
 |succ n1 ih1=>
  intro mZ h;rw[fP]at h;refine aP fun N1 cB bw=>?_
  obtain⟨h30,h⟩|⟨h30,h⟩:=aO h
  ·obtain⟨b31,h32,h⟩:=aD h;have Ac:=((aT.b h30).c h32)
   obtain⟨h33,h⟩|⟨h33,h⟩:=aO h
   ·have IE:=((((Ac.r 5 h33).T 3).c h32).T 2)
    obtain⟨h34,h⟩|⟨h34,h⟩:=aO h
    ·have h:=aE h;subst h;exact((((IE.r 4 h34).T 1).b h34).T 2).ret hΓ
    ·have Mi:=((((((IE.r 3 h34).c h32).b h34).T 1).b h34).T 1)
     obtain⟨h35,h⟩|⟨h35,h⟩:=aO h
     ·have h:=aE h;subst h;exact(Mi.b h35).ret hΓ
     ·exact((Mi.b h35).a [.cn [0,3] []]).cf hΓ bw (ih1 (IntKind.i64.wrap (mZ+1)) h)
   ·have CM:=(((Ac.r 3 h33).c h32).r 2 h33)
    obtain⟨h36,h⟩|⟨h36,h⟩:=aO h
    ·have LK:=(((CM.r 3 h36).c h32).r 2 h36)
     obtain⟨h37,h⟩|⟨h37,h⟩:=aO h
     ·have h:=aE h;subst h;exact(((((LK.r 4 h37).b h36).b h37).b h36).T 1).ret hΓ
     ·have ER:=((((((LK.r 3 h37).c h32).b h37).b h36).b h37).b h36)
      obtain⟨h38,h⟩|⟨h38,h⟩:=aO h
      ·have h:=aE h;subst h;exact(ER.b h38).ret hΓ
      ·exact((ER.b h38).a [.cn [0,3] []]).cf hΓ bw (ih1 (IntKind.i64.wrap (mZ+1)) h)
    ·exact(((CM.r 7 h36).F 1).a [bF,bF,bF,bF,.cn [0,3] []]).cf hΓ bw (ih1 (IntKind.i64.wrap (mZ+1)) h)
  ·exact((aT.b h30).a [.hl 0 [] []]).ex hΓ cB (cq h)
theorem eF{aB:Bytes}{r:Bool}(h:ed aB=some r):Good prog 191 [D.str aB] (D.bool r):=by
 refine gd func191 [[none]] 40 fun hr Γ hΓ=>?_
 rw[ed]at h;obtain⟨h1,h⟩|⟨h1,h⟩:=aO h
 ·have h:=aE h;subst h;exact((aT.r 4 h1).T 1).ret hΓ
 ·have LL:=(aT.r 4 h1)
  obtain⟨h2,h⟩|⟨h2,h⟩:=aO h
  ·have h:=aE h;subst h;exact(LL.b h2).ret hΓ
  ·refine((LL.b h2).a [.cn [0,3] []]).lp hΓ (KI hΓ (fun h=>?_) fuel 0 h);have h:=aE h;subst h;exact aT.ret hΓ
def qQ(aB:Bytes):Option Bool:=((ed aB).bind fun y1=>(bif y1 then((nF aB 0).bind fun b4=>(some (decide ((b4.toNat:Int)>=97))))else(some false)))
theorem lX{aB:Bytes}{r:Bool}(h:qQ aB=some r):Good prog 211 [D.str aB] (D.bool r):=by
 refine gd func211 [[none]] 10 fun hr Γ hΓ=>?_
 rw[qQ]at h;obtain⟨y1,h2,h⟩:=aD h;obtain⟨h3,h⟩|⟨h3,h⟩:=aO h
 ·obtain⟨b4,h5,h⟩:=aD h;cases h;exact((((aT.g (eF h2)).r 2 h3).c h5).r 2 h3).ret hΓ
 ·have h:=aE h;subst h;exact((aT.g (eF h2)).r 4 h3).ret hΓ
def kL(aB:Bytes):Option Bool:=(bif decide (((aB.length:Int):Int)>1)then((nF aB 0).bind fun b2=>(bif (b2.toNat:Int)==63 then((NG aB.length (some (D.int .i64 1)) none).bind fun p=>(fun l5 u6=>((ed ((aB.take u6).drop l5)).bind fun y8=>(some y8))) p.1 p.2)else(some false)))else(some false))
theorem nG{aB:Bytes}{r:Bool}(h:kL aB=some r):Good prog 192 [D.str aB] (D.bool r):=by
 refine gd func192 [[none]] 16 fun hr Γ hΓ=>?_
 rw[kL]at h;obtain⟨h1,h⟩|⟨h1,h⟩:=aO h
 ·obtain⟨b2,h3,h⟩:=aD h;have kX:=(((aT.r 2 h1).c h3).r 2 h1)
  obtain⟨h4,h⟩|⟨h4,h⟩:=aO h
  ·obtain⟨⟨l5,u6⟩,h7,h⟩:=aD h;obtain⟨y8,h9,h⟩:=aD h;have h:=aE h;subst h;exact((((((kX.r 2 h4).w h7).a [.cut l5 u6]).b h4).g (eF h9)).b h4).ret hΓ
  ·have h:=aE h;subst h;exact(kX.r 4 h4).ret hΓ
 ·have h:=aE h;subst h;exact((aT.r 4 h1).F 4).ret hΓ
def iN(aB:Bytes):Option Bool:=((ed aB).bind fun y1=>(bif y1 then(some true)else((kL aB).bind fun y4=>(some y4))))
theorem jR{aB:Bytes}{r:Bool}(h:iN aB=some r):Good prog 262 [D.str aB] (D.bool r):=by
 refine gd func262 [[none]] 9 fun hr Γ hΓ=>?_
 rw[iN]at h;obtain⟨y1,h2,h⟩:=aD h;obtain⟨h3,h⟩|⟨h3,h⟩:=aO h
 ·have h:=aE h;subst h;exact((aT.g (eF h2)).r 3 h3).ret hΓ
 ·obtain⟨y4,h5,h⟩:=aD h;have h:=aE h;subst h;exact((((aT.g (eF h2)).r 2 h3).g (nG h5)).b h3).ret hΓ
def ko(aB:aG)(k1:Option Bool):aH->Nat->Option Bool
 | [],i1=>(k1)
 |bA::bt,i1=>((iN bA).bind fun y25=>(bif !(y25)then(some false)else(ko aB k1 bt (i1+1))))
def iU(aB:aG):Option Bool:=((qQ aB.rel).bind fun y1=>(bif !(y1)then(some false)else(bif decide ((((aB.args.map tx).length:Int):Int)>3)then(some false)else(ko aB (some true) aB.args 0))))
def Gg(aB:aG)(cZ:Int):St:=⟨[(16,D.sl (aB.args.map tx)),(17,D.int .i64 ((aB.args.map tx).length:Int)),(18,D.int .i64 cZ)],[]⟩
theorem En(hΓ:Γ.nt=26){aB:aG}{r:Bool}{k1:Option Bool}(cq:k1=some r->Ax Γ N f261 (.q [[none]] (D.bool r)) [1,1,1] ⟨[],[]⟩)(hm1:aB.args.length<=maxLen):∀(rest:aH) (i1:Nat),aB.args.drop i1=rest->ko aB k1 rest i1=some r->Ar Γ N f261 (.q [[none]] (D.bool r)) [1,1,0,1,0] (rest.length+1) (Gg aB (i1:Int)):=by
 intro rest
 induction rest with
 |nil=>
  intro i1 au h;rw[ko]at h;refine aP fun N1 cB bw=>?_
  exact((aT.ge tx au).a [.hl 0 [] []]).ex hΓ cB (cq h)
 |cons bA bt ih1=>
  intro i1 au h;rw[ko]at h;refine aP fun N1 cB bw=>?_
  obtain⟨y25,h26,h⟩:=aD h;have dL:=(((aT.lt tx au).l (b9 tx 1 (dc au) rfl)).g (jR h26))
  obtain⟨h27,h⟩|⟨h27,h⟩:=aO h
  ·have h:=aE h;subst h;exact(dL.b h27).ret hΓ
  ·exact((dL.b h27).a [.cn [16,17,18] []]).ct hΓ bw (iS au hm1) (ih1 (i1+1) (dn au) h)
theorem jG{aB:aG}{r:Bool}(h:iU aB=some r):Good prog 261 [D.agg (aG.c aB)] (D.bool r):=by
 refine gd func261 [[none]] 26 fun hr Γ hΓ=>?_
 rw[iU]at h;obtain⟨y1,h2,h⟩:=aD h;obtain⟨h3,h⟩|⟨h3,h⟩:=aO h
 ·have h:=aE h;subst h;exact(((aT.g (lX h2)).r 5 h3).T 1).ret hΓ
 ·have lV:=((aT.g (lX h2)).r 5 h3)
  obtain⟨h4,h⟩|⟨h4,h⟩:=aO h
  ·have h:=aE h;subst h;exact(lV.b h4).ret hΓ
  ·refine((lV.b h4).a [.cn [16,17,18] []]).lp hΓ (En hΓ (fun h=>?_) (by have:=(e7.sl (e7.agg (hr _ (aC (i:=0) rfl)) (.sl (aB.args.map tx)) (by simp))).1;simpa using this) aB.args 0 rfl h);have h:=aE h;subst h;exact aT.ret hΓ
def iA(aB:aG):Option Bool:=(bif (aB.rel:Bytes)==([])then(some ((((aB.args.map tx).length:Int):Int)==0))else(some false))
theorem nL{aB:aG}{r:Bool}(h:iA aB=some r):Good prog 263 [D.agg (aG.c aB)] (D.bool r):=by
 refine gd func263 [[none]] 12 fun hr Γ hΓ=>?_
 rw[iA]at h;obtain⟨h1,h⟩|⟨h1,h⟩:=aO h
 ·cases h;exact(aT.r 5 h1).ret hΓ
 ·have h:=aE h;subst h;exact(aT.r 5 h1).ret hΓ
def qO(aB:aM):Option Bool:=(bif (aB.kind:Int)==1 then((iU aB.pat).bind fun y2=>(bif y2 then(bif (aB.left:Bytes)==([])then(some ((aB.right:Bytes)==([])))else(some false))else(some false)))else(bif (aB.kind:Int)==2 then((iU aB.pat).bind fun y7=>(bif y7 then(bif (aB.left:Bytes)==([])then(some ((aB.right:Bytes)==([])))else(some false))else(some false)))else(bif (aB.kind:Int)==3 then((iN aB.left).bind fun WC=>(bif WC then((iN aB.right).bind fun Xt=>(bif Xt then((iA aB.pat).bind fun y18=>(some y18))else(some false)))else(some false)))else(bif (aB.kind:Int)==4 then((iN aB.left).bind fun WD=>(bif WD then((iN aB.right).bind fun PT=>(bif PT then((iA aB.pat).bind fun pY=>(some pY))else(some false)))else(some false)))else(bif (aB.kind:Int)==5 then((iN aB.left).bind fun y30=>(bif y30 then((iN aB.right).bind fun Db=>(bif Db then((iA aB.pat).bind fun IP=>(some IP))else(some false)))else(some false)))else(some false))))))
theorem oy{aB:aM}{r:Bool}(h:qO aB=some r):Good prog 212 [D.agg (aM.c aB)] (D.bool r):=by
 refine gd func212 [[none]] 38 fun hr Γ hΓ=>?_
 rw[qO]at h;obtain⟨h1,h⟩|⟨h1,h⟩:=aO h
 ·obtain⟨y2,h3,h⟩:=aD h;have kX:=((aT.r 2 h1).g (jG h3))
  obtain⟨h4,h⟩|⟨h4,h⟩:=aO h
  ·have dL:=(kX.r 4 h4)
   obtain⟨h5,h⟩|⟨h5,h⟩:=aO h
   ·cases h;exact(dL.r 4 h5).ret hΓ
   ·have h:=aE h;subst h;exact(dL.r 4 h5).ret hΓ
  ·have h:=aE h;subst h;exact((kX.r 4 h4).F 4).ret hΓ
 ·obtain⟨h6,h⟩|⟨h6,h⟩:=aO h
  ·obtain⟨y7,h8,h⟩:=aD h;have lV:=(((aT.b h1).b h6).g (jG h8))
   obtain⟨h9,h⟩|⟨h9,h⟩:=aO h
   ·have kH:=(lV.r 4 h9)
    obtain⟨h10,h⟩|⟨h10,h⟩:=aO h
    ·cases h;exact(kH.r 4 h10).ret hΓ
    ·have h:=aE h;subst h;exact(kH.r 4 h10).ret hΓ
   ·have h:=aE h;subst h;exact((lV.r 4 h9).F 4).ret hΓ
  ·have uB:=((aT.b h1).b h6)
   obtain⟨h11,h⟩|⟨h11,h⟩:=aO h
   ·obtain⟨WC,h13,h⟩:=aD h;have x9:=((uB.r 2 h11).g (jR h13))
    obtain⟨h14,h⟩|⟨h14,h⟩:=aO h
    ·obtain⟨Xt,h16,h⟩:=aD h;have Ac:=(((x9.r 3 h14).g (jR h16)).b h14)
     obtain⟨h17,h⟩|⟨h17,h⟩:=aO h
     ·obtain⟨y18,h19,h⟩:=aD h;have h:=aE h;subst h;exact(((Ac.r 3 h17).g (nL h19)).b h17).ret hΓ
     ·have h:=aE h;subst h;exact(Ac.r 4 h17).ret hΓ
    ·have h:=aE h;subst h;exact((x9.r 4 h14).F 4).ret hΓ
   ·obtain⟨h20,h⟩|⟨h20,h⟩:=aO h
    ·obtain⟨WD,h22,h⟩:=aD h;have IE:=(((uB.b h11).r 2 h20).g (jR h22))
     obtain⟨h23,h⟩|⟨h23,h⟩:=aO h
     ·obtain⟨PT,h25,h⟩:=aD h;have Mi:=(((IE.r 3 h23).g (jR h25)).b h23)
      obtain⟨h26,h⟩|⟨h26,h⟩:=aO h
      ·obtain⟨pY,h28,h⟩:=aD h;have h:=aE h;subst h;exact(((Mi.r 3 h26).g (nL h28)).b h26).ret hΓ
      ·have h:=aE h;subst h;exact(Mi.r 4 h26).ret hΓ
     ·have h:=aE h;subst h;exact((IE.r 4 h23).F 4).ret hΓ
    ·have CM:=((uB.b h11).b h20)
     obtain⟨h29,h⟩|⟨h29,h⟩:=aO h
     ·obtain⟨y30,h31,h⟩:=aD h;have LK:=((CM.b h29).g (jR h31))
      obtain⟨h32,h⟩|⟨h32,h⟩:=aO h
      ·obtain⟨Db,h34,h⟩:=aD h;have ER:=(((LK.r 3 h32).g (jR h34)).b h32)
       obtain⟨h35,h⟩|⟨h35,h⟩:=aO h
       ·obtain⟨IP,h37,h⟩:=aD h;have h:=aE h;subst h;exact(((ER.r 3 h35).g (nL h37)).b h35).ret hΓ
       ·have h:=aE h;subst h;exact(ER.r 4 h35).ret hΓ
      ·have h:=aE h;subst h;exact((LK.r 4 h32).F 4).ret hΓ
     ·have h:=aE h;subst h;exact(CM.b h29).ret hΓ
def fK(aB:aH)(k1:aH->Option aH):aH->Nat->aH->Option aH
 | [],i1,b7=>(k1 b7)
 |bA::bt,i1,b7=>((kL bA).bind fun ya=>(bif ya then(bif room ((b7.map tx).length+([[D.str bA]]).length) 16 then(fK aB k1 bt (i1+1) (b7++([bA])))else none)else(fK aB k1 bt (i1+1) b7)))
def lq(aB:aH):Option aH:=(fK aB (fun(bN:aH)=>(some bN)) aB 0 ([]:aH))
def zH(aB:aH)(W0:List aQ)(cZ:Int):St:=⟨[(3,D.acc 0),(6,D.sl (aB.map tx)),(7,D.int .i64 ((aB.map tx).length:Int)),(8,D.int .i64 cZ)],[Ob.row .uq 9 1 W0]⟩
theorem F5(hΓ:Γ.nt=20){aB:aH}{r:aH}{k1:aH->Option aH}(cq:∀(bN:aH),k1 bN=some r->Ax Γ N f216 (.q [[some (9,1)]] (D.fr 9 1 (r.map tx))) [1,1,1] ⟨[(3,D.acc 0)],[Ob.row .uq 9 1 (bN.map tx)]⟩)(hm1:aB.length<=maxLen):∀(rest:aH) (i1:Nat) (b7:aH),aB.drop i1=rest->fK aB k1 rest i1 b7=some r->Ar Γ N f216 (.q [[some (9,1)]] (D.fr 9 1 (r.map tx))) [1,1,0,1,0] (rest.length+1) (zH aB (b7.map tx) (i1:Int)):=by
 intro rest
 induction rest with
 |nil=>
  intro i1 b7 au h;rw[fK]at h;refine aP fun N1 cB bw=>?_
  exact((aT.ge tx au).a [.hl 0 [3] [0]]).ex hΓ cB (cq b7 h)
 |cons bA bt ih1=>
  intro i1 b7 au h;rw[fK]at h;refine aP fun N1 cB bw=>?_
  obtain⟨ya,h33,h⟩:=aD h;have dL:=(((aT.lt tx au).l (b9 tx 1 (dc au) rfl)).g (nG h33))
  obtain⟨h34,h⟩|⟨h34,h⟩:=aO h
  ·obtain⟨h35,h⟩:=bY h;exact(((dL.b h34).w (cN h35)).a [.cn [3,6,7,8] [2]]).cs hΓ bw (zH aB ((b7.map tx)++([[D.str bA]])) (IntKind.i64.wrap ((i1:Int)+1))) (by first| (simp only[iS au hm1,mA]<;>rfl)| (simp only[iS au hm1,mA,aG.c,aK.c,aM.c,Action.c,aN.c,aR.c,az.c,aW.c,Node.c,aJ.c,dH.c]<;>rfl)) (ih1 (i1+1) (b7++([bA])) (dn au) h)
  ·exact((dL.b h34).a [.cn [3,6,7,8] [0]]).ct hΓ bw (iS au hm1) (ih1 (i1+1) b7 (dn au) h)
theorem tj{aB:aH}{r:aH}(h:lq aB=some r):Good prog 216 [D.sl (aB.map tx)] (D.fr 9 1 (r.map tx)):=by
 refine gd func216 [[some (9,1)]] 20 fun hr Γ hΓ=>?_
 rw[lq]at h;refine(aT.a [.P3 3,.cn [3,6,7,8] [0]]).lp hΓ (F5 hΓ (fun bN h=>?_) (by have:=(e7.sl (hr _ (aC (i:=0) rfl))).1;simpa using this) aB 0 ([]:aH) rfl h);have h:=aE h;subst h;exact aT.ret hΓ
def dS(aB:aH)(k1:aH->Option aH):aH->Nat->aH->Option aH
 | [],i1,cA=>(k1 cA)
 |bA::bt,i1,cA=>(bif ((i1:Int):Int)==0 then(bif room ((cA.map tx).length+([[D.str bA]]).length) 16 then(dS aB k1 bt (i1+1) (cA++([bA])))else none)else((nF (nj (([]:aH)++aB)) (IntKind.i64.wrap ((i1:Int)-1))).bind fun x47=>(bif !((x47:Bytes)==bA)then(bif room ((cA.map tx).length+([[D.str bA]]).length) 16 then(dS aB k1 bt (i1+1) (cA++([bA])))else none)else(dS aB k1 bt (i1+1) cA))))
def jT(aB:aH):Option aH:=(bif room (([]:List aQ).length+(aB.map tx).length) 16 then(bif decide ((([]:aH)++aB).length<4611686018427387904)then(bif decide ((nj (([]:aH)++aB)).length<=maxLen)then(dS aB (fun(bN:aH)=>(some bN)) (nj (([]:aH)++aB)) 0 ([]:aH))else none)else none)else none)
def tf(aB:aH)(W0:List aQ)(cZ:Int):St:=⟨[(3,D.acc 0),(4,D.acc 1),(11,D.acc 0),(12,D.int .i64 (((nj (([]:aH)++aB)).map tx).length:Int)),(13,D.int .i64 cZ)],[Ob.row .uq 9 1 ((nj (([]:aH)++aB)).map tx),Ob.row .uq 9 1 W0]⟩
theorem Cn(hΓ:Γ.nt=35){aB:aH}{r:aH}{k1:aH->Option aH}(cq:∀(bN:aH),k1 bN=some r->Ax Γ N f218 (.q [[some (9,1)]] (D.fr 9 1 (r.map tx))) [1,1,1,1,1] ⟨[(4,D.acc 0)],[Ob.row .uq 9 1 (bN.map tx)]⟩)(hm1:(nj (([]:aH)++aB)).length<=maxLen):∀(rest:aH) (i1:Nat) (cA:aH),(nj (([]:aH)++aB)).drop i1=rest->dS aB k1 rest i1 cA=some r->Ar Γ N f218 (.q [[some (9,1)]] (D.fr 9 1 (r.map tx))) [1,1,1,1,0,1,0] (rest.length+1) (tf aB (cA.map tx) (i1:Int)):=by
 intro rest
 induction rest with
 |nil=>
  intro i1 cA au h;rw[dS]at h;refine aP fun N1 cB bw=>?_
  exact((aT.ge tx au).a [.hl 0 [4] [1]]).ex hΓ cB (cq cA h)
 |cons bA bt ih1=>
  intro i1 cA au h;rw[dS]at h;refine aP fun N1 cB bw=>?_
  have lV:=(((aT.lt tx au).i (oK tx 1 (dc au))).o 1 1 .uq (eT tx (dc au)))
  obtain⟨h45,h⟩|⟨h45,h⟩:=aO h
  ·obtain⟨h46,h⟩:=bY h;exact((((lV.r 8 h45).T 1).w (cN h46)).a [.cn [3,4,11,12,13] [0,3]]).cs hΓ bw (tf aB ((cA.map tx)++([[D.str bA]])) (IntKind.i64.wrap ((i1:Int)+1))) (by first| (simp only[iS au hm1,mA]<;>rfl)| (simp only[iS au hm1,mA,aG.c,aK.c,aM.c,Action.c,aN.c,aR.c,az.c,aW.c,Node.c,aJ.c,dH.c]<;>rfl)) (ih1 (i1+1) (cA++([bA])) (dn au) h)
  ·obtain⟨x47,h48,h⟩:=aD h;have kH:=(((((lV.r 4 h45).i (Qu tx 1 h48)).b h45).o 1 1 .uq (eT tx (NL h48))).r 3 h45)
   obtain⟨h49,h⟩|⟨h49,h⟩:=aO h
   ·obtain⟨h50,h⟩:=bY h;exact(((kH.b h49).w (cN h50)).a [.cn [3,4,11,12,13] [0,3]]).cs hΓ bw (tf aB ((cA.map tx)++([[D.str bA]])) (IntKind.i64.wrap ((i1:Int)+1))) (by first| (simp only[iS au hm1,mA]<;>rfl)| (simp only[iS au hm1,mA,aG.c,aK.c,aM.c,Action.c,aN.c,aR.c,az.c,aW.c,Node.c,aJ.c,dH.c]<;>rfl)) (ih1 (i1+1) (cA++([bA])) (dn au) h)
   ·exact((kH.b h49).a [.cn [3,4,11,12,13] [0,1]]).ct hΓ bw (iS au hm1) (ih1 (i1+1) cA (dn au) h)
theorem qx{aB:aH}{r:aH}(h:jT aB=some r):Good prog 218 [D.sl (aB.map tx)] (D.fr 9 1 (r.map tx)):=by
 refine gd func218 [[some (9,1)]] 35 fun hr Γ hΓ=>?_
 rw[jT]at h;obtain⟨h1,h⟩:=bY h;obtain⟨h2,h⟩:=bY h;obtain⟨h51,h⟩:=bY h;refine(((((aT.w (cN h1)).w (show(∀r∈(aB.map tx),r.length=1)/\(true=true->D.rZ (aB.map tx)=true)from⟨by first|simp| (intro r hr;obtain⟨x,_,rfl⟩:=cC.1 (cK (jf hr));rfl),by simp[D.rZ,D.flat]⟩)).w (show(([]:List aQ)++(aB.map tx)).flatten.all D.flat=true from by simpa only[bu,bD,bZ]using SF (([]:aH)++aB))).w (show Rg prog 266 9 1 (([]:List aQ)++(aB.map tx)) ((nj (([]:aH)++aB)).map tx)from by simpa only[bu,bD,bZ]using(HX (e:=9) (bp h2)))).a [.fl true,.mu 0 ((nj (([]:aH)++aB)).map tx),.P3 4,.cn [3,4,11,12,13] [0,1]]).lp hΓ (Cn hΓ (fun bN h=>?_) (bp h51) (nj (([]:aH)++aB)) 0 ([]:aH) rfl h);have h:=aE h;subst h;exact aT.ret hΓ
def eR(aB:aN)(aV:Int)(k1:aH->Option aH):ai->Nat->aH->Option aH
 | [],i1,b7=>(k1 b7)
 |bA::bt,i1,b7=>(bif decide (((i1:Int):Int)<aV)then(bif (bA.kind:Int)==1 then((lq bA.pat.args).bind fun Oy=>(bif room ((b7.map tx).length+(Oy.map tx).length) 16 then(eR aB aV k1 bt (i1+1) (b7++Oy))else none))else(eR aB aV k1 bt (i1+1) b7))else(eR aB aV k1 bt (i1+1) b7))
def oS(aB:aN)(aV:Int):Option aH:=(eR aB aV (fun(bN:aH)=>((jT bN).bind fun y42=>(some y42))) aB.conds 0 ([]:aH))
def zB(aB:aN)(aV:Int)(W0:List aQ)(cZ:Int):St:=⟨[(1,D.int .i64 aV),(5,D.acc 0),(9,D.sl (aB.conds.map aM.c)),(10,D.int .i64 ((aB.conds.map aM.c).length:Int)),(11,D.int .i64 cZ)],[Ob.row .uq 9 1 W0]⟩
theorem Ej(hΓ:Γ.nt=33){aB:aN}{aV:Int}{r:aH}{k1:aH->Option aH}(cq:∀(bN:aH),k1 bN=some r->Ax Γ N f214 (.q [[some (9,1)]] (D.fr 9 1 (r.map tx))) [1,1,1] ⟨[(5,D.acc 0)],[Ob.row .uq 9 1 (bN.map tx)]⟩)(hm1:aB.conds.length<=maxLen):∀(rest:ai) (i1:Nat) (b7:aH),aB.conds.drop i1=rest->eR aB aV k1 rest i1 b7=some r->Ar Γ N f214 (.q [[some (9,1)]] (D.fr 9 1 (r.map tx))) [1,1,0,1,0] (rest.length+1) (zB aB aV (b7.map tx) (i1:Int)):=by
 intro rest
 induction rest with
 |nil=>
  intro i1 b7 au h;rw[eR]at h;refine aP fun N1 cB bw=>?_
  exact((aT.ge aM.c au).a [.hl 0 [5] [0]]).ex hΓ cB (cq b7 h)
 |cons bA bt ih1=>
  intro i1 b7 au h;rw[eR]at h;refine aP fun N1 cB bw=>?_
  have lV:=((aT.lt aM.c au).l (b9 aM.c 5 (dc au) rfl))
  obtain⟨h37,h⟩|⟨h37,h⟩:=aO h
  ·have kH:=(lV.r 4 h37)
   obtain⟨h38,h⟩|⟨h38,h⟩:=aO h
   ·obtain⟨Oy,h40,h⟩:=aD h;obtain⟨h41,h⟩:=bY h;exact((((kH.b h38).g (tj h40)).w (cN h41)).a [.cn [1,5,9,10,11] [3]]).cs hΓ bw (zB aB aV ((b7.map tx)++(Oy.map tx)) (IntKind.i64.wrap ((i1:Int)+1))) (by first| (simp only[iS au hm1,mA]<;>rfl)| (simp only[iS au hm1,mA,aG.c,aK.c,aM.c,Action.c,aN.c,aR.c,az.c,aW.c,Node.c,aJ.c,dH.c]<;>rfl)) (ih1 (i1+1) (b7++Oy) (dn au) h)
   ·exact((kH.b h38).a [.cn [1,5,9,10,11] [0]]).ct hΓ bw (iS au hm1) (ih1 (i1+1) b7 (dn au) h)
  ·exact(((lV.r 4 h37).F 1).a [.cn [1,5,9,10,11] [0]]).ct hΓ bw (iS au hm1) (ih1 (i1+1) b7 (dn au) h)
theorem xH{aB:aN}{aV:Int}{r:aH}(h:oS aB aV=some r):Good prog 214 [D.agg (aN.c aB),D.int .i64 aV] (D.fr 9 1 (r.map tx)):=by
 refine gd func214 [[some (9,1)]] 33 fun hr Γ hΓ=>?_
 rw[oS]at h;refine(aT.a [.P3 5,.cn [1,5,9,10,11] [1]]).lp hΓ (Ej hΓ (fun bN h=>?_) (by have:=(e7.sl (e7.agg (hr _ (aC (i:=0) rfl)) (.sl (aB.conds.map aM.c)) (by simp))).1;simpa using this) aB.conds 0 ([]:aH) rfl h);obtain⟨y42,h43,h⟩:=aD h;have h:=aE h;subst h;exact(aT.g (qx h43)).ret hΓ
def rC(aB:aM):Option aH:=((lg aB.pat.args).bind fun y1=>(bif room ((y1.map tx).length+(([aB.left,aB.right]:aH).map tx).length) 16 then(some (y1++([aB.left,aB.right]:aH)))else none))
theorem zG{aB:aM}{r:aH}(h:rC aB=some r):Good prog 189 [D.agg (aM.c aB)] (D.fr 9 1 (r.map tx)):=by
 refine gd func189 [[some (9,1)]] 13 fun hr Γ hΓ=>?_
 rw[rC]at h;obtain⟨y1,h2,h⟩:=aD h;obtain⟨h3,h⟩:=bY h;cases h;exact(((aT.a [.P3 2,.n 9]).g (th h2)).w (cN h3)).rts hΓ (D.fr 9 1 ((y1.map tx)++(([aB.left,aB.right]:aH).map tx))) (by first|rfl| (simp only[mA]<;>rfl)| (simp only[cY,mA]<;>rfl))
def nu(aB:aM):Option aH:=((rC aB).bind fun y1=>((lq y1).bind fun y3=>((jT y3).bind fun y5=>(some y5))))
theorem uJ{aB:aM}{r:aH}(h:nu aB=some r):Good prog 264 [D.agg (aM.c aB)] (D.fr 9 1 (r.map tx)):=by
 refine gd func264 [[some (9,1)]] 7 fun hr Γ hΓ=>?_
 rw[nu]at h;obtain⟨y1,h2,h⟩:=aD h;obtain⟨y3,h4,h⟩:=aD h;obtain⟨y5,h6,h⟩:=aD h;have h:=aE h;subst h;exact(((aT.g (zG h2)).g (tj h4)).g (qx h6)).ret hΓ
def kP(aB:aH)(aV:Bytes)(k1:Option Bool):aH->Nat->Option Bool
 | [],i1=>(k1)
 |bA::bt,i1=>(bif (bA:Bytes)==aV then(some true)else(kP aB aV k1 bt (i1+1)))
def kO(aB:aH)(aV:Bytes):Option Bool:=(kP aB aV (some false) aB 0)
def KS(aB:aH)(aV:Bytes)(cZ:Int):St:=⟨[(1,D.str aV),(7,D.sl (aB.map tx)),(8,D.int .i64 ((aB.map tx).length:Int)),(9,D.int .i64 cZ)],[]⟩
theorem Ii(hΓ:Γ.nt=17){aB:aH}{aV:Bytes}{r:Bool}{k1:Option Bool}(cq:k1=some r->Ax Γ N f217 (.q [[none]] (D.bool r)) [1,1] ⟨[],[]⟩)(hm1:aB.length<=maxLen):∀(rest:aH) (i1:Nat),aB.drop i1=rest->kP aB aV k1 rest i1=some r->Ar Γ N f217 (.q [[none]] (D.bool r)) [1,0,1,0] (rest.length+1) (KS aB aV (i1:Int)):=by
 intro rest
 induction rest with
 |nil=>
  intro i1 au h;rw[kP]at h;refine aP fun N1 cB bw=>?_
  exact((aT.ge tx au).a [.hl 0 [] []]).ex hΓ cB (cq h)
 |cons bA bt ih1=>
  intro i1 au h;rw[kP]at h;refine aP fun N1 cB bw=>?_
  have dL:=((aT.lt tx au).l (b9 tx 1 (dc au) rfl))
  obtain⟨h13,h⟩|⟨h13,h⟩:=aO h
  ·have h:=aE h;subst h;exact(dL.b h13).ret hΓ
  ·exact((dL.b h13).a [.cn [1,7,8,9] []]).ct hΓ bw (iS au hm1) (ih1 (i1+1) (dn au) h)
theorem qh{aB:aH}{aV:Bytes}{r:Bool}(h:kO aB aV=some r):Good prog 217 [D.sl (aB.map tx),D.str aV] (D.bool r):=by
 refine gd func217 [[none]] 17 fun hr Γ hΓ=>?_
 rw[kO]at h;refine(aT.a [.cn [1,7,8,9] []]).lp hΓ (Ii hΓ (fun h=>?_) (by have:=(e7.sl (hr _ (aC (i:=0) rfl))).1;simpa using this) aB 0 rfl h);have h:=aE h;subst h;exact aT.ret hΓ
def dX(aB:aN)(aV:Int)(cr:Bytes)(k1:Option Bool):ai->Nat->Option Bool
 | [],i1=>(k1)
 |bA::bt,i1=>(bif ((i1:Int):Int) != aV then((nu bA).bind fun CT=>((kO CT cr).bind fun IP=>(bif IP then(some true)else(dX aB aV cr k1 bt (i1+1)))))else(dX aB aV cr k1 bt (i1+1)))
def eW(aB:aN)(cr:Bytes)(k2:Option Bool):c8->Nat->Option Bool
 | [],i2=>(k2)
 |mh::wD,i2=>((kO mh.pat.args cr).bind fun y59=>(bif y59 then(some true)else(eW aB cr k2 wD (i2+1))))
def kQ(aB:aN)(aV:Int)(cr:Bytes):Option Bool:=(dX aB aV cr (eW aB cr (some false) aB.ck 0) aB.conds 0)
def Az(aB:aN)(aV:Int)(cr:Bytes)(cZ:Int):St:=⟨[(1,D.int .i64 aV),(2,D.str cr),(3,D.ptr 0 0),(12,D.sl (aB.conds.map aM.c)),(13,D.int .i64 ((aB.conds.map aM.c).length:Int)),(14,D.int .i64 cZ)],[Ob.box (aN.c aB)]⟩
theorem AI(hΓ:Γ.nt=42){aB:aN}{aV:Int}{cr:Bytes}{r:Bool}{k1:Option Bool}(cq:k1=some r->Ax Γ N f265 (.q [[none]] (D.bool r)) [1,1] ⟨[(2,D.str cr),(3,D.ptr 0 0)],[Ob.box (aN.c aB)]⟩)(hm1:aB.conds.length<=maxLen):∀(rest:ai) (i1:Nat),aB.conds.drop i1=rest->dX aB aV cr k1 rest i1=some r->Ar Γ N f265 (.q [[none]] (D.bool r)) [1,0,1,0] (rest.length+1) (Az aB aV cr (i1:Int)):=by
 intro rest
 induction rest with
 |nil=>
  intro i1 au h;rw[dX]at h;refine aP fun N1 cB bw=>?_
  exact((aT.ge aM.c au).a [.hl 0 [2,3] [0]]).ex hΓ cB (cq h)
 |cons bA bt ih1=>
  intro i1 au h;rw[dX]at h;refine aP fun N1 cB bw=>?_
  have kH:=((aT.lt aM.c au).l (b9 aM.c 5 (dc au) rfl))
  obtain⟨h33,h⟩|⟨h33,h⟩:=aO h
  ·obtain⟨CT,h35,h⟩:=aD h;obtain⟨IP,h37,h⟩:=aD h;have uB:=(((((kH.r 2 h33).g (uJ h35)).r 2 h33).g (qh h37)).b h33)
   obtain⟨h38,h⟩|⟨h38,h⟩:=aO h
   ·have h:=aE h;subst h;exact(uB.b h38).ret hΓ
   ·exact((uB.b h38).a [.cn [1,2,3,12,13,14] [0]]).ct hΓ bw (iS au hm1) (ih1 (i1+1) (dn au) h)
  ·exact(((kH.r 5 h33).F 1).a [.cn [1,2,3,12,13,14] [0]]).ct hΓ bw (iS au hm1) (ih1 (i1+1) (dn au) h)
def B0(aB:aN)(cr:Bytes)(cZ:Int):St:=⟨[(2,D.str cr),(30,D.sl (aB.ck.map Action.c)),(31,D.int .i64 ((aB.ck.map Action.c).length:Int)),(32,D.int .i64 cZ)],[]⟩
theorem AJ(hΓ:Γ.nt=42){aB:aN}{cr:Bytes}{r:Bool}{k2:Option Bool}(DV:k2=some r->Ax Γ N f265 (.q [[none]] (D.bool r)) [1,1,1] ⟨[],[]⟩)(hm2:aB.ck.length<=maxLen):∀(rest:c8) (i2:Nat),aB.ck.drop i2=rest->eW aB cr k2 rest i2=some r->Ar Γ N f265 (.q [[none]] (D.bool r)) [1,1,0,1,0] (rest.length+1) (B0 aB cr (i2:Int)):=by
 intro rest
 induction rest with
 |nil=>
  intro i2 hd2 h;rw[eW]at h;refine aP fun N2 xA vY=>?_
  exact((aT.ge Action.c hd2).a [.hl 0 [] []]).ex hΓ xA (DV h)
 |cons mh wD ih2=>
  intro i2 hd2 h;rw[eW]at h;refine aP fun N2 xA vY=>?_
  obtain⟨y59,h60,h⟩:=aD h;have x9:=(((aT.lt Action.c hd2).l (b9 Action.c 3 (dc hd2) rfl)).g (qh h60))
  obtain⟨h61,h⟩|⟨h61,h⟩:=aO h
  ·have h:=aE h;subst h;exact(x9.b h61).ret hΓ
  ·exact((x9.b h61).a [.cn [2,30,31,32] []]).ct hΓ vY (iS hd2 hm2) (ih2 (i2+1) (dn hd2) h)
theorem zc{aB:aN}{aV:Int}{cr:Bytes}{r:Bool}(h:kQ aB aV cr=some r):Good prog 265 [D.agg (aN.c aB),D.int .i64 aV,D.str cr] (D.bool r):=by
 refine gd func265 [[none]] 42 fun hr Γ hΓ=>?_
 rw[kQ]at h;refine(aT.a [.cn [1,2,3,12,13,14] [0]]).lp hΓ (AI hΓ (fun h=>?_) (by have:=(e7.sl (e7.agg (hr _ (aC (i:=0) rfl)) (.sl (aB.conds.map aM.c)) (by simp))).1;simpa using this) aB.conds 0 rfl h);refine(aT.a [.cn [2,30,31,32] []]).lp hΓ (AJ hΓ (fun h=>?_) (by have:=(e7.sl (e7.agg (hr _ (aC (i:=0) rfl)) (.sl (aB.ck.map Action.c)) (by simp))).1;simpa using this) aB.ck 0 rfl h);have h:=aE h;subst h;exact aT.ret hΓ
def gA(aB:aN)(aV:Int)(x1:aM)(y3:aH)(y5:aH)(k1:Option Bool):aH->Nat->Option Bool
 | [],i1=>(k1)
 |bA::bt,i1=>(bif (x1.kind:Int)==1 then(gA aB aV x1 y3 y5 k1 bt (i1+1))else((kO y3 bA).bind fun Lf=>(bif Lf then(gA aB aV x1 y3 y5 k1 bt (i1+1))else(bif (x1.kind:Int) != 2 then(some false)else((kQ aB aV bA).bind fun y53=>(bif y53 then(some false)else(gA aB aV x1 y3 y5 k1 bt (i1+1))))))))
def pR(aB:aN)(aV:Int):Option Bool:=((nF aB.conds aV).bind fun x1=>((oS aB aV).bind fun y3=>((nu x1).bind fun y5=>(bif decide (y5.length<=maxLen)then(gA aB aV x1 y3 y5 (some true) y5 0)else none))))
def Ih(aB:aN)(aV:Int)(x1:aM)(y3:aH)(y5:aH)(cZ:Int):St:=⟨[(1,D.int .i64 aV),(2,D.ptr 0 0),(5,D.ptr 1 0),(6,D.acc 2),(18,D.acc 3),(19,D.int .i64 ((y5.map tx).length:Int)),(20,D.int .i64 cZ)],[Ob.box (aN.c aB),Ob.box [D.int .i64 x1.kind,D.str x1.pat.rel,D.sl (x1.pat.args.map tx),D.str x1.left,D.str x1.right],Ob.row .uq 9 1 (y3.map tx),Ob.row .uq 9 1 (y5.map tx)]⟩
theorem Gl(hΓ:Γ.nt=42){aB:aN}{aV:Int}{x1:aM}{y3:aH}{y5:aH}{r:Bool}{k1:Option Bool}(cq:k1=some r->Ax Γ N f213 (.q [[none]] (D.bool r)) [1,1,1,1] ⟨[],[]⟩)(hm1:y5.length<=maxLen):∀(rest:aH) (i1:Nat),y5.drop i1=rest->gA aB aV x1 y3 y5 k1 rest i1=some r->Ar Γ N f213 (.q [[none]] (D.bool r)) [1,1,1,0,1,0] (rest.length+1) (Ih aB aV x1 y3 y5 (i1:Int)):=by
 intro rest
 induction rest with
 |nil=>
  intro i1 au h;rw[gA]at h;refine aP fun N1 cB bw=>?_
  exact((aT.ge tx au).a [.hl 0 [] []]).ex hΓ cB (cq h)
 |cons bA bt ih1=>
  intro i1 au h;rw[gA]at h;refine aP fun N1 cB bw=>?_
  have kH:=(((aT.lt tx au).i (oK tx 1 (dc au))).o 1 1 .uq (eT tx (dc au)))
  obtain⟨h48,h⟩|⟨h48,h⟩:=aO h
  ·exact(((kH.r 4 h48).T 1).a [.cn [1,2,5,6,18,19,20] [0,1,2,3]]).ct hΓ bw (iS au hm1) (ih1 (i1+1) (dn au) h)
  ·obtain⟨Lf,h50,h⟩:=aD h;have uB:=(((kH.r 3 h48).g (qh h50)).b h48)
   obtain⟨h51,h⟩|⟨h51,h⟩:=aO h
   ·exact((uB.b h51).a [.cn [1,2,5,6,18,19,20] [0,1,2,3]]).ct hΓ bw (iS au hm1) (ih1 (i1+1) (dn au) h)
   ·obtain⟨h52,h⟩|⟨h52,h⟩:=aO h
    ·have h:=aE h;subst h;exact(((uB.b h51).r 5 h52).T 1).ret hΓ
    ·obtain⟨y53,h54,h⟩:=aD h;have x9:=((((uB.b h51).r 4 h52).g (zc h54)).b h52)
     obtain⟨h55,h⟩|⟨h55,h⟩:=aO h
     ·have h:=aE h;subst h;exact(x9.b h55).ret hΓ
     ·exact((x9.b h55).a [.cn [1,2,5,6,18,19,20] [0,1,2,3]]).ct hΓ bw (iS au hm1) (ih1 (i1+1) (dn au) h)
theorem yI{aB:aN}{aV:Int}{r:Bool}(h:pR aB aV=some r):Good prog 213 [D.agg (aN.c aB),D.int .i64 aV] (D.bool r):=by
 refine gd func213 [[none]] 42 fun hr Γ hΓ=>?_
 rw[pR]at h;obtain⟨x1,h2,h⟩:=aD h;obtain⟨y3,h4,h⟩:=aD h;obtain⟨y5,h6,h⟩:=aD h;obtain⟨h56,h⟩:=bY h;refine((((aT.l (dO aM.c 5 h2 rfl)).g (xH h4)).g (uJ h6)).a [.cn [1,2,5,6,18,19,20] [0,1,2,3]]).lp hΓ (Gl hΓ (fun h=>?_) (bp h56) y5 0 rfl h);have h:=aE h;subst h;exact aT.ret hΓ
def sR(aB:Action):Option Bool:=(bif (aB.kind:Int)==1 then((iU aB.pat).bind fun y2=>(some y2))else(bif (aB.kind:Int)==2 then((iU aB.pat).bind fun y5=>(some y5))else(bif (aB.kind:Int)==3 then((iA aB.pat).bind fun y8=>(some y8))else(some false))))
theorem El{aB:Action}{r:Bool}(h:sR aB=some r):Good prog 215 [D.agg (Action.c aB)] (D.bool r):=by
 refine gd func215 [[none]] 16 fun hr Γ hΓ=>?_
 rw[sR]at h;obtain⟨h1,h⟩|⟨h1,h⟩:=aO h
 ·obtain⟨y2,h3,h⟩:=aD h;have h:=aE h;subst h;exact((aT.r 2 h1).g (jG h3)).ret hΓ
 ·obtain⟨h4,h⟩|⟨h4,h⟩:=aO h
  ·obtain⟨y5,h6,h⟩:=aD h;have h:=aE h;subst h;exact(((aT.b h1).b h4).g (jG h6)).ret hΓ
  ·have kX:=((aT.b h1).b h4)
   obtain⟨h7,h⟩|⟨h7,h⟩:=aO h
   ·obtain⟨y8,h9,h⟩:=aD h;have h:=aE h;subst h;exact((kX.b h7).g (nL h9)).ret hΓ
   ·have h:=aE h;subst h;exact(kX.b h7).ret hΓ
def fk(aB:ai)(k1:aH->Option aH):ai->Nat->aH->Option aH
 | [],i1,b7=>(k1 b7)
 |bA::bt,i1,b7=>((nu bA).bind fun pY=>(bif room ((b7.map tx).length+(pY.map tx).length) 16 then(fk aB k1 bt (i1+1) (b7++pY))else none))
def q9(aB:ai):Option aH:=(fk aB (fun(bN:aH)=>(some bN)) aB 0 ([]:aH))
def yJ(aB:ai)(W0:List aQ)(cZ:Int):St:=⟨[(3,D.acc 0),(6,D.sl (aB.map aM.c)),(7,D.int .i64 ((aB.map aM.c).length:Int)),(8,D.int .i64 cZ)],[Ob.row .uq 9 1 W0]⟩
theorem Dl(hΓ:Γ.nt=18){aB:ai}{r:aH}{k1:aH->Option aH}(cq:∀(bN:aH),k1 bN=some r->Ax Γ N f219 (.q [[some (9,1)]] (D.fr 9 1 (r.map tx))) [1,1,1] ⟨[(3,D.acc 0)],[Ob.row .uq 9 1 (bN.map tx)]⟩)(hm1:aB.length<=maxLen):∀(rest:ai) (i1:Nat) (b7:aH),aB.drop i1=rest->fk aB k1 rest i1 b7=some r->Ar Γ N f219 (.q [[some (9,1)]] (D.fr 9 1 (r.map tx))) [1,1,0,1,0] (rest.length+1) (yJ aB (b7.map tx) (i1:Int)):=by
 intro rest
 induction rest with
 |nil=>
  intro i1 b7 au h;rw[fk]at h;refine aP fun N1 cB bw=>?_
  exact((aT.ge aM.c au).a [.hl 0 [3] [0]]).ex hΓ cB (cq b7 h)
 |cons bA bt ih1=>
  intro i1 b7 au h;rw[fk]at h;refine aP fun N1 cB bw=>?_
  obtain⟨pY,h28,h⟩:=aD h;obtain⟨h29,h⟩:=bY h;exact(((((aT.lt aM.c au).l (b9 aM.c 5 (dc au) rfl)).g (uJ h28)).w (cN h29)).a [.cn [3,6,7,8] [3]]).cs hΓ bw (yJ aB ((b7.map tx)++(pY.map tx)) (IntKind.i64.wrap ((i1:Int)+1))) (by first| (simp only[iS au hm1,mA]<;>rfl)| (simp only[iS au hm1,mA,aG.c,aK.c,aM.c,Action.c,aN.c,aR.c,az.c,aW.c,Node.c,aJ.c,dH.c]<;>rfl)) (ih1 (i1+1) (b7++pY) (dn au) h)
theorem Co{aB:ai}{r:aH}(h:q9 aB=some r):Good prog 219 [D.sl (aB.map aM.c)] (D.fr 9 1 (r.map tx)):=by
 refine gd func219 [[some (9,1)]] 18 fun hr Γ hΓ=>?_
 rw[q9]at h;refine(aT.a [.P3 3,.cn [3,6,7,8] [0]]).lp hΓ (Dl hΓ (fun bN h=>?_) (by have:=(e7.sl (hr _ (aC (i:=0) rfl))).1;simpa using this) aB 0 ([]:aH) rfl h);have h:=aE h;subst h;exact aT.ret hΓ
def iV(aB:aN)(k1:Option Bool):ai->Nat->Option Bool
 | [],i1=>(k1)
 |bA::bt,i1=>((qO bA).bind fun y62=>(bif !(y62)then(some false)else(bif ((i1:Int):Int)==0 then(bif (bA.kind:Int) != 1 then(some false)else((pR aB (i1:Int)).bind fun y67=>(bif !(y67)then(some false)else(iV aB k1 bt (i1+1)))))else((pR aB (i1:Int)).bind fun y70=>(bif !(y70)then(some false)else(iV aB k1 bt (i1+1)))))))
def lZ(aB:aN)(P6:aH)(i2:Nat)(Bg:aH)(k3:Option Bool):aH->Nat->Option Bool
 | [],i3=>(k3)
 |Q4::Ow,i3=>((kO P6 Q4).bind fun a8J=>(bif !(a8J)then(some false)else(lZ aB P6 i2 Bg k3 Ow (i3+1))))
def lY(aB:aN)(P6:aH)(k2:Option Bool):c8->Nat->Option Bool
 | [],i2=>(k2)
 |mh::wD,i2=>((sR mh).bind fun a8I=>(bif !(a8I)then(some false)else((lq mh.pat.args).bind fun Bg=>(bif decide (Bg.length<=maxLen)then(lZ aB P6 i2 Bg (lY aB P6 k2 wD (i2+1)) Bg 0)else none))))
def vL(aB:aN):Option Bool:=((qQ aB.name).bind fun y1=>(bif !(y1)then(some false)else(bif decide ((aB.prio:Int)<0)then(some false)else(bif decide ((aB.prio:Int)>9)then(some false)else(bif decide ((((aB.conds.map aM.c).length:Int):Int)<1)then(some false)else(bif decide ((((aB.conds.map aM.c).length:Int):Int)>4)then(some false)else(bif decide ((((aB.ck.map Action.c).length:Int):Int)<1)then(some false)else(bif decide ((((aB.ck.map Action.c).length:Int):Int)>2)then(some false)else(iV aB ((oS aB ((aB.conds.map aM.c).length:Int)).bind fun P6=>(lY aB P6 ((q9 aB.conds).bind fun a8K=>((jT a8K).bind fun a8L=>(some (decide ((((a8L.map tx).length:Int):Int)<=6))))) aB.ck 0)) aB.conds 0)))))))))
def Lt(aB:aN)(cZ:Int):St:=⟨[(1,D.ptr 0 0),(49,D.sl (aB.conds.map aM.c)),(50,D.int .i64 ((aB.conds.map aM.c).length:Int)),(51,D.int .i64 cZ)],[Ob.box (aN.c aB)]⟩
theorem KK(hΓ:Γ.nt=111){aB:aN}{r:Bool}{k1:Option Bool}(cq:k1=some r->Ax Γ N f142 (.q [[none]] (D.bool r)) [1,1,1] ⟨[(1,D.ptr 0 0)],[Ob.box (aN.c aB)]⟩)(hm1:aB.conds.length<=maxLen):∀(rest:ai) (i1:Nat),aB.conds.drop i1=rest->iV aB k1 rest i1=some r->Ar Γ N f142 (.q [[none]] (D.bool r)) [1,1,0,1,0] (rest.length+1) (Lt aB (i1:Int)):=by
 intro rest
 induction rest with
 |nil=>
  intro i1 au h;rw[iV]at h;refine aP fun N1 cB bw=>?_
  exact((aT.ge aM.c au).a [.hl 0 [1] [0]]).ex hΓ cB (cq h)
 |cons bA bt ih1=>
  intro i1 au h;rw[iV]at h;refine aP fun N1 cB bw=>?_
  obtain⟨y62,h63,h⟩:=aD h;have ER:=(((aT.lt aM.c au).l (b9 aM.c 5 (dc au) rfl)).g (oy h63))
  obtain⟨h64,h⟩|⟨h64,h⟩:=aO h
  ·have h:=aE h;subst h;exact((((ER.r 3 h64).a [bF,bF,bF]).r 2 h64).T 6).ret hΓ
  ·have LL:=(ER.r 3 h64)
   obtain⟨h65,h⟩|⟨h65,h⟩:=aO h
   ·have OU:=((((LL.r 3 h65).b h64).b h65).b h64)
    obtain⟨h66,h⟩|⟨h66,h⟩:=aO h
    ·have h:=aE h;subst h;exact((OU.r 5 h66).T 1).ret hΓ
    ·obtain⟨y67,h68,h⟩:=aD h;have Zi:=(((OU.r 3 h66).g (yI h68)).r 2 h66)
     obtain⟨h69,h⟩|⟨h69,h⟩:=aO h
     ·have h:=aE h;subst h;exact(Zi.b h69).ret hΓ
     ·exact((Zi.b h69).a [.cn [1,49,50,51] [0]]).ct hΓ bw (iS au hm1) (ih1 (i1+1) (dn au) h)
   ·obtain⟨y70,h71,h⟩:=aD h;have Zj:=(((((((LL.r 3 h65).b h64).b h65).b h64).F 3).g (yI h71)).F 2)
    obtain⟨h72,h⟩|⟨h72,h⟩:=aO h
    ·have h:=aE h;subst h;exact(Zj.b h72).ret hΓ
    ·exact((Zj.b h72).a [.cn [1,49,50,51] [0]]).ct hΓ bw (iS au hm1) (ih1 (i1+1) (dn au) h)
def Lu(aB:aN)(P6:aH)(cZ:Int):St:=⟨[(1,D.ptr 0 0),(5,D.acc 1),(81,D.sl (aB.ck.map Action.c)),(82,D.int .i64 ((aB.ck.map Action.c).length:Int)),(83,D.int .i64 cZ)],[Ob.box (aN.c aB),Ob.row .uq 9 1 (P6.map tx)]⟩
def Lv(aB:aN)(P6:aH)(i2:Nat)(Bg:aH)(cZ:Int):St:=⟨[(1,D.ptr 0 0),(5,D.acc 1),(81,D.sl (aB.ck.map Action.c)),(82,D.int .i64 ((aB.ck.map Action.c).length:Int)),(83,D.int .i64 (i2:Int)),(93,D.acc 2),(94,D.int .i64 ((Bg.map tx).length:Int)),(95,D.int .i64 cZ)],[Ob.box (aN.c aB),Ob.row .uq 9 1 (P6.map tx),Ob.row .uq 9 1 (Bg.map tx)]⟩
theorem KM(hΓ:Γ.nt=111){aB:aN}{P6:aH}{i2:Nat}{Bg:aH}{r:Bool}{k3:Option Bool}(Yb:k3=some r->Ax Γ N f142 (.q [[none]] (D.bool r)) [1,1,1,1,0,1,0,0,1,1,1] ⟨[(1,D.ptr 0 0),(5,D.acc 1),(81,D.sl (aB.ck.map Action.c)),(82,D.int .i64 ((aB.ck.map Action.c).length:Int)),(83,D.int .i64 (i2:Int))],[Ob.box (aN.c aB),Ob.row .uq 9 1 (P6.map tx)]⟩)(RZ:Bg.length<=maxLen):∀(rest:aH) (i3:Nat),Bg.drop i3=rest->lZ aB P6 i2 Bg k3 rest i3=some r->Ar Γ N f142 (.q [[none]] (D.bool r)) [1,1,1,1,0,1,0,0,1,1,0,0,1,1,1,0] (rest.length+1) (Lv aB P6 i2 Bg (i3:Int)):=by
 intro rest
 induction rest with
 |nil=>
  intro i3 wv h;rw[lZ]at h;refine aP fun N3 SK Ny=>?_
  exact((aT.ge tx wv).a [.hl 3 [1,5,81,82,83] [0,1]]).ex hΓ SK (Yb h)
 |cons Q4 Ow ih3=>
  intro i3 wv h;rw[lZ]at h;refine aP fun N3 SK Ny=>?_
  obtain⟨a8J,h230,h⟩:=aD h;have a7V:=((((aT.lt tx wv).i (oK tx 1 (dc wv))).o 1 1 .uq (eT tx (dc wv))).g (qh h230))
  obtain⟨h231,h⟩|⟨h231,h⟩:=aO h
  ·have h:=aE h;subst h;exact(a7V.b h231).ret hΓ
  ·exact((a7V.b h231).a [.cn [1,5,81,82,83,93,94,95] [0,1,2]]).ct hΓ Ny (iS wv RZ) (ih3 (i3+1) (dn wv) h)
theorem KL(hΓ:Γ.nt=111){aB:aN}{P6:aH}{r:Bool}{k2:Option Bool}(DV:k2=some r->Ax Γ N f142 (.q [[none]] (D.bool r)) [1,1,1,1,1] ⟨[(1,D.ptr 0 0)],[Ob.box (aN.c aB)]⟩)(hm2:aB.ck.length<=maxLen):∀(rest:c8) (i2:Nat),aB.ck.drop i2=rest->lY aB P6 k2 rest i2=some r->Ar Γ N f142 (.q [[none]] (D.bool r)) [1,1,1,1,0,1,0] (rest.length+1) (Lu aB P6 (i2:Int)):=by
 intro rest
 induction rest with
 |nil=>
  intro i2 hd2 h;rw[lY]at h;refine aP fun N2 xA vY=>?_
  exact((aT.ge Action.c hd2).a [.hl 0 [1] [0]]).ex hΓ xA (DV h)
 |cons mh wD ih2=>
  intro i2 hd2 h;rw[lY]at h;refine aP fun N2 xA vY=>?_
  obtain⟨a8I,h204,h⟩:=aD h;have a7W:=(((aT.lt Action.c hd2).l (b9 Action.c 3 (dc hd2) rfl)).g (El h204))
  obtain⟨h205,h⟩|⟨h205,h⟩:=aO h
  ·have h:=aE h;subst h;exact(a7W.b h205).ret hΓ
  ·obtain⟨Bg,h207,h⟩:=aD h;obtain⟨h232,h⟩:=bY h;refine(((a7W.b h205).g (tj h207)).a [.cn [1,5,81,82,83,93,94,95] [0,1,3]]).lp hΓ (KM hΓ (fun h=>?_) (bp h232) Bg 0 rfl h);exact(aT.a [.cn [1,5,81,82,83] [0,1]]).ct hΓ vY (iS hd2 hm2) (ih2 (i2+1) (dn hd2) h)
theorem Ib{aB:aN}{r:Bool}(h:vL aB=some r):Good prog 142 [D.agg (aN.c aB)] (D.bool r):=by
 refine gd func142 [[none]] 111 fun hr Γ hΓ=>?_
 rw[vL]at h;obtain⟨y1,h2,h⟩:=aD h;obtain⟨h3,h⟩|⟨h3,h⟩:=aO h
 ·have h:=aE h;subst h;exact(((aT.g (lX h2)).r 4 h3).T 25).ret hΓ
 ·have a7X:=((aT.g (lX h2)).r 4 h3)
  obtain⟨h4,h⟩|⟨h4,h⟩:=aO h
  ·have h:=aE h;subst h;exact((a7X.r 4 h4).T 21).ret hΓ
  ·have a7Y:=(a7X.r 4 h4)
   obtain⟨h5,h⟩|⟨h5,h⟩:=aO h
   ·have h:=aE h;subst h;exact((a7Y.r 5 h5).T 16).ret hΓ
   ·have a7Z:=(a7Y.r 5 h5)
    obtain⟨h6,h⟩|⟨h6,h⟩:=aO h
    ·have h:=aE h;subst h;exact((a7Z.r 5 h6).T 11).ret hΓ
    ·have a7a:=(a7Z.r 5 h6)
     obtain⟨h7,h⟩|⟨h7,h⟩:=aO h
     ·have h:=aE h;subst h;exact((a7a.r 5 h7).T 6).ret hΓ
     ·have a7b:=(a7a.r 5 h7)
      obtain⟨h8,h⟩|⟨h8,h⟩:=aO h
      ·have h:=aE h;subst h;exact((a7b.r 5 h8).T 1).ret hΓ
      ·have a7c:=(a7b.r 5 h8)
       obtain⟨h9,h⟩|⟨h9,h⟩:=aO h
       ·have h:=aE h;subst h;exact(a7c.b h9).ret hΓ
       ·refine((a7c.b h9).a [.cn [1,49,50,51] [0]]).lp hΓ (KK hΓ (fun h=>?_) (by have:=(e7.sl (e7.agg (hr _ (aC (i:=0) rfl)) (.sl (aB.conds.map aM.c)) (by simp))).1;simpa using this) aB.conds 0 rfl h);obtain⟨P6,h74,h⟩:=aD h;refine((aT.g (xH h74)).a [.cn [1,5,81,82,83] [0,1]]).lp hΓ (KL hΓ (fun h=>?_) (by have:=(e7.sl (e7.agg (hr _ (aC (i:=0) rfl)) (.sl (aB.ck.map Action.c)) (by simp))).1;simpa using this) aB.ck 0 rfl h);obtain⟨a8K,h234,h⟩:=aD h;obtain⟨a8L,h236,h⟩:=aD h;cases h;exact((aT.g (Co h234)).g (qx h236)).ret hΓ
def jQ(aB:aq)(aV:Bytes)(k1:Option Int):aq->Nat->Option Int
 | [],i1=>(k1)
 |bA::bt,i1=>(bif (bA.name:Bytes)==aV then(some (i1:Int))else(jQ aB aV k1 bt (i1+1)))
def sQ(aB:aq)(aV:Bytes):Option Int:=(jQ aB aV (some (-1)) aB 0)
def Ia(aB:aq)(aV:Bytes)(cZ:Int):St:=⟨[(1,D.str aV),(7,D.sl (aB.map aN.c)),(8,D.int .i64 ((aB.map aN.c).length:Int)),(9,D.int .i64 cZ)],[]⟩
theorem Ge(hΓ:Γ.nt=20){aB:aq}{aV:Bytes}{r:Int}{k1:Option Int}(cq:k1=some r->Ax Γ N f143 (.q [[none]] (D.int .i64 r)) [1,1] ⟨[],[]⟩)(hm1:aB.length<=maxLen):∀(rest:aq) (i1:Nat),aB.drop i1=rest->jQ aB aV k1 rest i1=some r->Ar Γ N f143 (.q [[none]] (D.int .i64 r)) [1,0,1,0] (rest.length+1) (Ia aB aV (i1:Int)):=by
 intro rest
 induction rest with
 |nil=>
  intro i1 au h;rw[jQ]at h;refine aP fun N1 cB bw=>?_
  exact((aT.ge aN.c au).a [.hl 0 [] []]).ex hΓ cB (cq h)
 |cons bA bt ih1=>
  intro i1 au h;rw[jQ]at h;refine aP fun N1 cB bw=>?_
  have dL:=((aT.lt aN.c au).l (b9 aN.c 4 (dc au) rfl))
  obtain⟨h13,h⟩|⟨h13,h⟩:=aO h
  ·cases h;exact(dL.b h13).ret hΓ
  ·exact((dL.b h13).a [.cn [1,7,8,9] []]).ct hΓ bw (iS au hm1) (ih1 (i1+1) (dn au) h)
theorem Ek{aB:aq}{aV:Bytes}{r:Int}(h:sQ aB aV=some r):Good prog 143 [D.sl (aB.map aN.c),D.str aV] (D.int .i64 r):=by
 refine gd func143 [[none]] 20 fun hr Γ hΓ=>?_
 rw[sQ]at h;refine(aT.a [.cn [1,7,8,9] []]).lp hΓ (Ge hΓ (fun h=>?_) (by have:=(e7.sl (hr _ (aC (i:=0) rfl))).1;simpa using this) aB 0 rfl h);cases h;exact aT.ret hΓ
def jO(aB:aq)(k1:Option Bool):aq->Nat->Option Bool
 | [],i1=>(k1)
 |bA::bt,i1=>((vL bA).bind fun CT=>(bif !(CT)then(some false)else((sQ aB bA.name).bind fun RU=>(bif (RU:Int) != (i1:Int)then(some false)else(jO aB k1 bt (i1+1))))))
def sP(aB:aq):Option Bool:=(bif decide ((((aB.map aN.c).length:Int):Int)>6)then(some false)else(jO aB (some true) aB 0))
def IZ(aB:aq)(cZ:Int):St:=⟨[(0,D.sl (aB.map aN.c)),(8,D.sl (aB.map aN.c)),(9,D.int .i64 ((aB.map aN.c).length:Int)),(10,D.int .i64 cZ)],[]⟩
theorem Gd(hΓ:Γ.nt=27){aB:aq}{r:Bool}{k1:Option Bool}(cq:k1=some r->Ax Γ N f82 (.q [[none]] (D.bool r)) [1,1,1] ⟨[],[]⟩)(hm1:aB.length<=maxLen):∀(rest:aq) (i1:Nat),aB.drop i1=rest->jO aB k1 rest i1=some r->Ar Γ N f82 (.q [[none]] (D.bool r)) [1,1,0,1,0] (rest.length+1) (IZ aB (i1:Int)):=by
 intro rest
 induction rest with
 |nil=>
  intro i1 au h;rw[jO]at h;refine aP fun N1 cB bw=>?_
  exact((aT.ge aN.c au).a [.hl 0 [] []]).ex hΓ cB (cq h)
 |cons bA bt ih1=>
  intro i1 au h;rw[jO]at h;refine aP fun N1 cB bw=>?_
  obtain⟨CT,h35,h⟩:=aD h;have lV:=(((aT.lt aN.c au).l (b9 aN.c 4 (dc au) rfl)).g (Ib h35))
  obtain⟨h36,h⟩|⟨h36,h⟩:=aO h
  ·have h:=aE h;subst h;exact((lV.r 7 h36).T 1).ret hΓ
  ·obtain⟨RU,h38,h⟩:=aD h;have kH:=(((lV.r 4 h36).g (Ek h38)).r 3 h36)
   obtain⟨h39,h⟩|⟨h39,h⟩:=aO h
   ·have h:=aE h;subst h;exact(kH.b h39).ret hΓ
   ·exact((kH.b h39).a [.cn [0,8,9,10] []]).ct hΓ bw (iS au hm1) (ih1 (i1+1) (dn au) h)
theorem Ei{aB:aq}{r:Bool}(h:sP aB=some r):Good prog 82 [D.sl (aB.map aN.c)] (D.bool r):=by
 refine gd func82 [[none]] 27 fun hr Γ hΓ=>?_
 rw[sP]at h;obtain⟨h1,h⟩|⟨h1,h⟩:=aO h
 ·have h:=aE h;subst h;exact(aT.b h1).ret hΓ
 ·refine((aT.b h1).a [.cn [0,8,9,10] []]).lp hΓ (Gd hΓ (fun h=>?_) (by have:=(e7.sl (hr _ (aC (i:=0) rfl))).1;simpa using this) aB 0 rfl h);have h:=aE h;subst h;exact aT.ret hΓ
def oT(aB:aG)(k1:Option Bool):aH->Nat->Option Bool
 | [],i1=>(k1)
 |bA::bt,i1=>((ed bA).bind fun y25=>(bif !(y25)then(some false)else(oT aB k1 bt (i1+1))))
def qP(aB:aG):Option Bool:=((qQ aB.rel).bind fun y1=>(bif !(y1)then(some false)else(bif decide ((((aB.args.map tx).length:Int):Int)>3)then(some false)else(oT aB (some true) aB.args 0))))
def Ls(aB:aG)(cZ:Int):St:=⟨[(16,D.sl (aB.args.map tx)),(17,D.int .i64 ((aB.args.map tx).length:Int)),(18,D.int .i64 cZ)],[]⟩
theorem KJ(hΓ:Γ.nt=26){aB:aG}{r:Bool}{k1:Option Bool}(cq:k1=some r->Ax Γ N f144 (.q [[none]] (D.bool r)) [1,1,1] ⟨[],[]⟩)(hm1:aB.args.length<=maxLen):∀(rest:aH) (i1:Nat),aB.args.drop i1=rest->oT aB k1 rest i1=some r->Ar Γ N f144 (.q [[none]] (D.bool r)) [1,1,0,1,0] (rest.length+1) (Ls aB (i1:Int)):=by
 intro rest
 induction rest with
 |nil=>
  intro i1 au h;rw[oT]at h;refine aP fun N1 cB bw=>?_
  exact((aT.ge tx au).a [.hl 0 [] []]).ex hΓ cB (cq h)
 |cons bA bt ih1=>
  intro i1 au h;rw[oT]at h;refine aP fun N1 cB bw=>?_
  obtain⟨y25,h26,h⟩:=aD h;have dL:=(((aT.lt tx au).l (b9 tx 1 (dc au) rfl)).g (eF h26))
  obtain⟨h27,h⟩|⟨h27,h⟩:=aO h
  ·have h:=aE h;subst h;exact(dL.b h27).ret hΓ
  ·exact((dL.b h27).a [.cn [16,17,18] []]).ct hΓ bw (iS au hm1) (ih1 (i1+1) (dn au) h)
theorem AF{aB:aG}{r:Bool}(h:qP aB=some r):Good prog 144 [D.agg (aG.c aB)] (D.bool r):=by
 refine gd func144 [[none]] 26 fun hr Γ hΓ=>?_
 rw[qP]at h;obtain⟨y1,h2,h⟩:=aD h;obtain⟨h3,h⟩|⟨h3,h⟩:=aO h
 ·have h:=aE h;subst h;exact(((aT.g (lX h2)).r 5 h3).T 1).ret hΓ
 ·have lV:=((aT.g (lX h2)).r 5 h3)
  obtain⟨h4,h⟩|⟨h4,h⟩:=aO h
  ·have h:=aE h;subst h;exact(lV.b h4).ret hΓ
  ·refine((lV.b h4).a [.cn [16,17,18] []]).lp hΓ (KJ hΓ (fun h=>?_) (by have:=(e7.sl (e7.agg (hr _ (aC (i:=0) rfl)) (.sl (aB.args.map tx)) (by simp))).1;simpa using this) aB.args 0 rfl h);have h:=aE h;subst h;exact aT.ret hΓ
def jj(aB:Int):Option Bytes:=((AV aB).bind fun y1=>(some y1))
theorem xI{aB:Int}{r:Bytes}(h:jj aB=some r):Good prog 246 [D.int .i64 aB] (D.str r):=by
 refine gd func246 [[none]] 5 fun hr Γ hΓ=>?_
 rw[jj]at h;obtain⟨y1,h2,h⟩:=aD h;have h:=aE h;subst h;exact(aT.g (I2 h2)).ret hΓ
def lF(aB:Bytes):Option (Int×Bool):=(bif decide (((aB.length:Int):Int)<1)then(some (0,false))else(bif decide (((aB.length:Int):Int)>4)then(some (0,false))else((AU aB).bind fun y3=>(bif y3.2 then(some (0,false))else(bif decide ((y3.1:Int)<0)then(some (0,false))else(bif decide ((y3.1:Int)>9999)then(some (0,false))else((jj y3.1).bind fun y8=>(bif !((y8:Bytes)==aB)then(some (0,false))else(some (y3.1,true))))))))))
theorem pz{aB:Bytes}{r:Int×Bool}(h:lF aB=some r):Good prog 268 [D.str aB] (D.ij [D.int .i64 r.1,D.bool r.2]):=by
 refine gd func268 [[none],[none]] 36 fun hr Γ hΓ=>?_
 rw[lF]at h;obtain⟨h1,h⟩|⟨h1,h⟩:=aO h
 ·cases h;exact((aT.r 4 h1).T 1).ret hΓ
 ·have kX:=(aT.r 4 h1)
  obtain⟨h2,h⟩|⟨h2,h⟩:=aO h
  ·cases h;exact(kX.b h2).ret hΓ
  ·obtain⟨y3,h4,h⟩:=aD h;have dL:=((kX.b h2).g (I1 h4))
   obtain⟨h5,h⟩|⟨h5,h⟩:=aO h
   ·cases h;exact((dL.r 3 h5).T 9).ret hΓ
   ·have lV:=(dL.r 3 h5)
    obtain⟨h6,h⟩|⟨h6,h⟩:=aO h
    ·cases h;exact((lV.r 3 h6).T 6).ret hΓ
    ·have kH:=(lV.r 3 h6)
     obtain⟨h7,h⟩|⟨h7,h⟩:=aO h
     ·cases h;exact((kH.r 5 h7).T 1).ret hΓ
     ·obtain⟨y8,h9,h⟩:=aD h;have uB:=(((kH.r 2 h7).g (xI h9)).r 3 h7)
      obtain⟨h10,h⟩|⟨h10,h⟩:=aO h
      ·cases h;exact(uB.b h10).ret hΓ
      ·cases h;exact(uB.b h10).ret hΓ
def lf(aB:Int)(aV:Int):Option Int:=(bif decide ((aB:Int)<aV)then(some (-1))else(bif decide ((aB:Int)>aV)then(some 1)else(some 0)))
theorem wG{aB:Int}{aV:Int}{r:Int}(h:lf aB aV=some r):Good prog 222 [D.int .i64 aB,D.int .i64 aV] (D.int .i64 r):=by
 refine gd func222 [[none]] 13 fun hr Γ hΓ=>?_
 rw[lf]at h;obtain⟨h1,h⟩|⟨h1,h⟩:=aO h
 ·cases h;exact(aT.b h1).ret hΓ
 ·obtain⟨h2,h⟩|⟨h2,h⟩:=aO h
  ·have h:=aE h;subst h;exact((aT.b h1).b h2).ret hΓ
  ·have h:=aE h;subst h;exact((aT.b h1).b h2).ret hΓ
def kj(aB:Bytes)(aV:Bytes):Option Int:=((lF aB).bind fun y1=>((lF aV).bind fun y3=>(bif y1.2 then(bif y3.2 then((lf y1.1 y3.1).bind fun y7=>(some y7))else(some (-1)))else(bif y3.2 then(some 1)else((qG aB aV).bind fun IN=>(some IN))))))
theorem BN{aB:Bytes}{aV:Bytes}{r:Int}(h:kj aB aV=some r):Good prog 221 [D.str aB,D.str aV] (D.int .i64 r):=by
 refine gd func221 [[none]] 34 fun hr Γ hΓ=>?_
 rw[kj]at h;obtain⟨y1,h2,h⟩:=aD h;obtain⟨y3,h4,h⟩:=aD h;have kX:=((aT.g (pz h2)).g (pz h4))
 obtain⟨h5,h⟩|⟨h5,h⟩:=aO h
 ·have dL:=(kX.r 2 h5)
  obtain⟨h6,h⟩|⟨h6,h⟩:=aO h
  ·obtain⟨y7,h8,h⟩:=aD h;have h:=aE h;subst h;exact((dL.b h6).g (wG h8)).ret hΓ
  ·cases h;exact((dL.b h6).b h5).ret hΓ
 ·have lV:=(((kX.r 2 h5).F 1).b h5)
  obtain⟨h9,h⟩|⟨h9,h⟩:=aO h
  ·have h:=aE h;subst h;exact(lV.b h9).ret hΓ
  ·obtain⟨IN,h11,h⟩:=aD h;have h:=aE h;subst h;exact((lV.b h9).g (sL h11)).ret hΓ
def iT(aB:aG)(aV:aG)(k1:Option Int):aH->Nat->Option Int
 | [],i1=>(k1)
 |bA::bt,i1=>(bif decide (((i1:Int):Int)<((aV.args.map tx).length:Int))then((nF aV.args (i1:Int)).bind fun x37=>((kj bA x37).bind fun Oy=>(bif (Oy:Int) != 0 then(some Oy)else(iT aB aV k1 bt (i1+1)))))else(k1))
def kn(aB:aG)(aV:aG):Option Int:=((qG aB.rel aV.rel).bind fun y1=>(bif (y1:Int) != 0 then(some y1)else(iT aB aV ((lf ((aB.args.map tx).length:Int) ((aV.args.map tx).length:Int)).bind fun y42=>(some y42)) aB.args 0)))
def Cj(aB:aG)(aV:aG)(cZ:Int):St:=⟨[(2,D.ptr 0 0),(3,D.ptr 1 0),(6,D.int .i64 cZ)],[Ob.box (aG.c aB),Ob.box (aG.c aV)]⟩
theorem Bv(hΓ:Γ.nt=51){aB:aG}{aV:aG}{r:Int}{k1:Option Int}(cq:k1=some r->Ax Γ N f145 (.q [[none]] (D.int .i64 r)) [1,1,1] ⟨[(2,D.ptr 0 0),(3,D.ptr 1 0)],[Ob.box (aG.c aB),Ob.box (aG.c aV)]⟩)(hm1:aB.args.length<=maxLen):∀(rest:aH) (i1:Nat),aB.args.drop i1=rest->iT aB aV k1 rest i1=some r->Ar Γ N f145 (.q [[none]] (D.int .i64 r)) [1,1,0,1,0] (rest.length+1) (Cj aB aV (i1:Int)):=by
 intro rest
 induction rest with
 |nil=>
  intro i1 au h;rw[iT]at h;refine aP fun N1 cB bw=>?_
  exact((((((((aT.ge tx au).ge tx au).ge tx au).ge tx au).ge tx au).ge tx au).F 1).a [.hl 0 [2,3] [0,1]]).ex hΓ cB (cq h)
 |cons bA bt ih1=>
  intro i1 au h;rw[iT]at h;refine aP fun N1 cB bw=>?_
  have lV:=((((((aT.lt tx au).lt tx au).lt tx au).lt tx au).lt tx au).lt tx au)
  obtain⟨h36,h⟩|⟨h36,h⟩:=aO h
  ·obtain⟨x37,h38,h⟩:=aD h;obtain⟨Oy,h40,h⟩:=aD h;have kH:=(((((lV.b h36).a [.n 10]).l (b9 tx 1 (dc au) rfl)).l (dO tx 1 h38 rfl)).g (BN h40))
   obtain⟨h41,h⟩|⟨h41,h⟩:=aO h
   ·have h:=aE h;subst h;exact(kH.b h41).ret hΓ
   ·exact((kH.b h41).a [.cn [2,3,6] [0,1]]).ct hΓ bw (iS au hm1) (ih1 (i1+1) (dn au) h)
  ·exact((lV.b h36).a [.hl 0 [2,3] [0,1]]).ex hΓ cB (cq h)
theorem BO{aB:aG}{aV:aG}{r:Int}(h:kn aB aV=some r):Good prog 145 [D.agg (aG.c aB),D.agg (aG.c aV)] (D.int .i64 r):=by
 refine gd func145 [[none]] 51 fun hr Γ hΓ=>?_
 rw[kn]at h;obtain⟨y1,h2,h⟩:=aD h;obtain⟨h3,h⟩|⟨h3,h⟩:=aO h
 ·have h:=aE h;subst h;exact((aT.g (sL h2)).b h3).ret hΓ
 ·refine(((aT.g (sL h2)).b h3).a [.cn [2,3,6] [0,1]]).lp hΓ (Bv hΓ (fun h=>?_) (by have:=(e7.sl (e7.agg (hr _ (aC (i:=0) rfl)) (.sl (aB.args.map tx)) (by simp))).1;simpa using this) aB.args 0 rfl h);obtain⟨y42,h43,h⟩:=aD h;have h:=aE h;subst h;exact(aT.g (wG h43)).ret hΓ
def gy(aB:aX)(k1:Option Bool):aX->Nat->Option Bool
 | [],i1=>(k1)
 |bA::bt,i1=>((qP bA).bind fun y46=>(bif !(y46)then(some false)else(bif decide (((i1:Int):Int)>0)then((nF aB (IntKind.i64.wrap ((i1:Int)-1))).bind fun x50=>((kn x50 bA).bind fun y52=>(bif decide ((y52:Int)>=0)then(some false)else(gy aB k1 bt (i1+1)))))else(gy aB k1 bt (i1+1)))))
def sO(aB:aX):Option Bool:=(bif decide ((((aB.map aG.c).length:Int):Int)>24)then(some false)else(gy aB (some true) aB 0))
def IY(aB:aX)(cZ:Int):St:=⟨[(0,D.sl (aB.map aG.c)),(8,D.sl (aB.map aG.c)),(9,D.int .i64 ((aB.map aG.c).length:Int)),(10,D.int .i64 cZ)],[]⟩
theorem Gc(hΓ:Γ.nt=33){aB:aX}{r:Bool}{k1:Option Bool}(cq:k1=some r->Ax Γ N f83 (.q [[none]] (D.bool r)) [1,1,1] ⟨[],[]⟩)(hm1:aB.length<=maxLen):∀(rest:aX) (i1:Nat),aB.drop i1=rest->gy aB k1 rest i1=some r->Ar Γ N f83 (.q [[none]] (D.bool r)) [1,1,0,1,0] (rest.length+1) (IY aB (i1:Int)):=by
 intro rest
 induction rest with
 |nil=>
  intro i1 au h;rw[gy]at h;refine aP fun N1 cB bw=>?_
  exact((aT.ge aG.c au).a [.hl 0 [] []]).ex hΓ cB (cq h)
 |cons bA bt ih1=>
  intro i1 au h;rw[gy]at h;refine aP fun N1 cB bw=>?_
  obtain⟨y46,h47,h⟩:=aD h;have kH:=((((aT.lt aG.c au).l (b9 aG.c 2 (dc au) rfl)).a [.n 13]).g (AF h47))
  obtain⟨h48,h⟩|⟨h48,h⟩:=aO h
  ·have h:=aE h;subst h;exact((((kH.r 3 h48).a [bF,bF,bF,bF,bF,bF,bF,bF]).r 2 h48).T 1).ret hΓ
  ·have uB:=(kH.r 3 h48)
   obtain⟨h49,h⟩|⟨h49,h⟩:=aO h
   ·obtain⟨x50,h51,h⟩:=aD h;obtain⟨y52,h53,h⟩:=aD h;have x9:=((((((((uB.r 4 h49).l (dO aG.c 2 h51 rfl)).r 3 h49).g (BO h53)).b h49).b h48).b h49).b h48)
    obtain⟨h54,h⟩|⟨h54,h⟩:=aO h
    ·have h:=aE h;subst h;exact(x9.b h54).ret hΓ
    ·exact((x9.b h54).a [.cn [0,8,9,10] []]).ct hΓ bw (iS au hm1) (ih1 (i1+1) (dn au) h)
   ·exact((((((uB.r 8 h49).b h48).b h49).b h48).F 1).a [.cn [0,8,9,10] []]).ct hΓ bw (iS au hm1) (ih1 (i1+1) (dn au) h)
theorem Eh{aB:aX}{r:Bool}(h:sO aB=some r):Good prog 83 [D.sl (aB.map aG.c)] (D.bool r):=by
 refine gd func83 [[none]] 33 fun hr Γ hΓ=>?_
 rw[sO]at h;obtain⟨h1,h⟩|⟨h1,h⟩:=aO h
 ·have h:=aE h;subst h;exact(aT.b h1).ret hΓ
 ·refine((aT.b h1).a [.cn [0,8,9,10] []]).lp hΓ (Gc hΓ (fun h=>?_) (by have:=(e7.sl (hr _ (aC (i:=0) rfl))).1;simpa using this) aB 0 rfl h);have h:=aE h;subst h;exact aT.ret hΓ
def eb(aB:aH)(k1:aI->Option aI):aH->Nat->aI->List (Bytes×Bool)->Option aI
 | [],i1,b7,BX=>(k1 b7)
 |bA::bt,i1,b7,BX=>((kL bA).bind fun y52=>(bif y52 then(bif !(LH false bA BX)then((jj (IntKind.i64.wrap (((b7.map aK.c).length:Int)+1))).bind fun y56=>(bif decide (([63]:Bytes).length+(y56:Bytes).length<=maxLen)then(bif room ((b7.map aK.c).length+([[D.str bA,D.str (([63])++y56)]]).length) 32 then(eb aB k1 bt (i1+1) (b7++([(⟨bA,([63])++y56⟩:aK)])) (OJ bA true BX))else none)else none))else(eb aB k1 bt (i1+1) b7 BX))else(eb aB k1 bt (i1+1) b7 BX)))
def nJ(aB:aH):Option aI:=(eb aB (fun(bN:aI)=>(some bN)) aB 0 ([]:aI) ([]:List (Bytes×Bool)))
def yK(aB:aH)(W0:List aQ)(W1:List (D×D))(cZ:Int):St:=⟨[(3,D.acc 0),(4,D.acc 1),(8,D.sl (aB.map tx)),(9,D.int .i64 ((aB.map tx).length:Int)),(10,D.int .i64 cZ)],[Ob.row .uq 152 2 W0,Ob.mp W1]⟩
theorem Dr(hΓ:Γ.nt=36){aB:aH}{r:aI}{k1:aI->Option aI}(cq:∀(bN:aI),k1 bN=some r->Ax Γ N f190 (.q [[some (152,2)]] (D.fr 152 2 (r.map aK.c))) [1,1,1,1] ⟨[(3,D.acc 0)],[Ob.row .uq 152 2 (bN.map aK.c)]⟩)(hm1:aB.length<=maxLen):∀(rest:aH) (i1:Nat) (b7:aI) (BX:List (Bytes×Bool)),aB.drop i1=rest->eb aB k1 rest i1 b7 BX=some r->Ar Γ N f190 (.q [[some (152,2)]] (D.fr 152 2 (r.map aK.c))) [1,1,1,0,1,0] (rest.length+1) (yK aB (b7.map aK.c) (BX.map (kS eB)) (i1:Int)):=by
 intro rest
 induction rest with
 |nil=>
  intro i1 b7 BX au h;rw[eb]at h;refine aP fun N1 cB bw=>?_
  exact((aT.ge tx au).a [.hl 0 [3] [0]]).ex hΓ cB (cq b7 h)
 |cons bA bt ih1=>
  intro i1 b7 BX au h;rw[eb]at h;refine aP fun N1 cB bw=>?_
  obtain⟨y52,h53,h⟩:=aD h;have lV:=(((aT.lt tx au).l (b9 tx 1 (dc au) rfl)).g (nG h53))
  obtain⟨h54,h⟩|⟨h54,h⟩:=aO h
  ·have kH:=((((lV.r 3 h54).w (show plk prog 232 (BX.map (kS eB)) (D.str bA) false=some (D.bool (LH false bA BX))from a7R (e:=eB) (z:=false) (by kernel_rfl))).a [.d (D.bool (LH false bA BX))]).r 2 h54)
   obtain⟨h55,h⟩|⟨h55,h⟩:=aO h
   ·obtain⟨y56,h57,h⟩:=aD h;obtain⟨h58,h⟩:=bY h;obtain⟨h59,h⟩:=bY h;exact(((((((kH.b h55).w (show LD (D.str bA) (D.bool true) (BX.map (kS eB))=some ((OJ bA true BX).map (kS eB))from Zo (e:=eB) (m:=BX))).a [.kv ((OJ bA true BX).map (kS eB))]).g (xI h57)).w (bp h58)).w (cN h59)).a [.cn [3,4,8,9,10] [3,1]]).cs hΓ bw (yK aB ((b7.map aK.c)++([[D.str bA,D.str (([63])++y56)]])) ((OJ bA true BX).map (kS eB)) (IntKind.i64.wrap ((i1:Int)+1))) (by first| (simp only[iS au hm1,mA]<;>rfl)| (simp only[iS au hm1,mA,aG.c,aK.c,aM.c,Action.c,aN.c,aR.c,az.c,aW.c,Node.c,aJ.c,dH.c]<;>rfl)) (ih1 (i1+1) (b7++([(⟨bA,([63])++y56⟩:aK)])) (OJ bA true BX) (dn au) h)
   ·exact((kH.b h55).a [.cn [3,4,8,9,10] [0,1]]).ct hΓ bw (iS au hm1) (ih1 (i1+1) b7 BX (dn au) h)
  ·exact(((lV.r 5 h54).F 1).a [.cn [3,4,8,9,10] [0,1]]).ct hΓ bw (iS au hm1) (ih1 (i1+1) b7 BX (dn au) h)
theorem wZ{aB:aH}{r:aI}(h:nJ aB=some r):Good prog 190 [D.sl (aB.map tx)] (D.fr 152 2 (r.map aK.c)):=by
 refine gd func190 [[some (152,2)]] 36 fun hr Γ hΓ=>?_
 rw[nJ]at h;refine(aT.a [.P3 3,.cn [3,4,8,9,10] [0,1]]).lp hΓ (Dr hΓ (fun bN h=>?_) (by have:=(e7.sl (hr _ (aC (i:=0) rfl))).1;simpa using this) aB 0 ([]:aI) ([]:List (Bytes×Bool)) rfl h);have h:=aE h;subst h;exact aT.ret hΓ
def ff(aB:aN)(k1:aH->Option aI):ai->Nat->aH->Option aI
 | [],i1,b7=>(k1 b7)
 |bA::bt,i1,b7=>((rC bA).bind fun pY=>(bif room ((b7.map tx).length+(pY.map tx).length) 16 then(ff aB k1 bt (i1+1) (b7++pY))else none))
def nH(aB:aN):Option aI:=(ff aB (fun(bN:aH)=>((nJ bN).bind fun y30=>(some y30))) aB.conds 0 ([]:aH))
def yG(aB:aN)(W0:List aQ)(cZ:Int):St:=⟨[(3,D.acc 0),(7,D.sl (aB.conds.map aM.c)),(8,D.int .i64 ((aB.conds.map aM.c).length:Int)),(9,D.int .i64 cZ)],[Ob.row .uq 9 1 W0]⟩
theorem Dj(hΓ:Γ.nt=20){aB:aN}{r:aI}{k1:aH->Option aI}(cq:∀(bN:aH),k1 bN=some r->Ax Γ N f125 (.q [[some (152,2)]] (D.fr 152 2 (r.map aK.c))) [1,1,1] ⟨[(3,D.acc 0)],[Ob.row .uq 9 1 (bN.map tx)]⟩)(hm1:aB.conds.length<=maxLen):∀(rest:ai) (i1:Nat) (b7:aH),aB.conds.drop i1=rest->ff aB k1 rest i1 b7=some r->Ar Γ N f125 (.q [[some (152,2)]] (D.fr 152 2 (r.map aK.c))) [1,1,0,1,0] (rest.length+1) (yG aB (b7.map tx) (i1:Int)):=by
 intro rest
 induction rest with
 |nil=>
  intro i1 b7 au h;rw[ff]at h;refine aP fun N1 cB bw=>?_
  exact((aT.ge aM.c au).a [.hl 0 [3] [0]]).ex hΓ cB (cq b7 h)
 |cons bA bt ih1=>
  intro i1 b7 au h;rw[ff]at h;refine aP fun N1 cB bw=>?_
  obtain⟨pY,h28,h⟩:=aD h;obtain⟨h29,h⟩:=bY h;exact(((((aT.lt aM.c au).l (b9 aM.c 5 (dc au) rfl)).g (zG h28)).w (cN h29)).a [.cn [3,7,8,9] [3]]).cs hΓ bw (yG aB ((b7.map tx)++(pY.map tx)) (IntKind.i64.wrap ((i1:Int)+1))) (by first| (simp only[iS au hm1,mA]<;>rfl)| (simp only[iS au hm1,mA,aG.c,aK.c,aM.c,Action.c,aN.c,aR.c,az.c,aW.c,Node.c,aJ.c,dH.c]<;>rfl)) (ih1 (i1+1) (b7++pY) (dn au) h)
theorem wX{aB:aN}{r:aI}(h:nH aB=some r):Good prog 125 [D.agg (aN.c aB)] (D.fr 152 2 (r.map aK.c)):=by
 refine gd func125 [[some (152,2)]] 20 fun hr Γ hΓ=>?_
 rw[nH]at h;refine(aT.a [.P3 3,.cn [3,7,8,9] [1]]).lp hΓ (Dj hΓ (fun bN h=>?_) (by have:=(e7.sl (e7.agg (hr _ (aC (i:=0) rfl)) (.sl (aB.conds.map aM.c)) (by simp))).1;simpa using this) aB.conds 0 ([]:aH) rfl h);obtain⟨y30,h31,h⟩:=aD h;have h:=aE h;subst h;exact(aT.g (wZ h31)).ret hΓ
def gi(aB:Bytes)(aV:aI)(k1:Option Bytes):aI->Nat->Option Bytes
 | [],i1=>(k1)
 |bA::bt,i1=>(bif (bA.var:Bytes)==aB then(some bA.value)else(gi aB aV k1 bt (i1+1)))
def hO(aB:Bytes)(aV:aI):Option Bytes:=(gi aB aV (some aB) aV 0)
def Ds(aB:Bytes)(aV:aI)(cZ:Int):St:=⟨[(0,D.str aB),(7,D.sl (aV.map aK.c)),(8,D.int .i64 ((aV.map aK.c).length:Int)),(9,D.int .i64 cZ)],[]⟩
theorem Ct(hΓ:Γ.nt=21){aB:Bytes}{aV:aI}{r:Bytes}{k1:Option Bytes}(cq:k1=some r->Ax Γ N f276 (.q [[none]] (D.str r)) [1,1] ⟨[(0,D.str aB)],[]⟩)(hm1:aV.length<=maxLen):∀(rest:aI) (i1:Nat),aV.drop i1=rest->gi aB aV k1 rest i1=some r->Ar Γ N f276 (.q [[none]] (D.str r)) [1,0,1,0] (rest.length+1) (Ds aB aV (i1:Int)):=by
 intro rest
 induction rest with
 |nil=>
  intro i1 au h;rw[gi]at h;refine aP fun N1 cB bw=>?_
  exact((aT.ge aK.c au).a [.hl 0 [0] []]).ex hΓ cB (cq h)
 |cons bA bt ih1=>
  intro i1 au h;rw[gi]at h;refine aP fun N1 cB bw=>?_
  have dL:=((aT.lt aK.c au).l (b9 aK.c 2 (dc au) rfl))
  obtain⟨h13,h⟩|⟨h13,h⟩:=aO h
  ·cases h;exact(dL.b h13).ret hΓ
  ·exact((dL.b h13).a [.cn [0,7,8,9] []]).ct hΓ bw (iS au hm1) (ih1 (i1+1) (dn au) h)
theorem r9{aB:Bytes}{aV:aI}{r:Bytes}(h:hO aB aV=some r):Good prog 276 [D.str aB,D.sl (aV.map aK.c)] (D.str r):=by
 refine gd func276 [[none]] 21 fun hr Γ hΓ=>?_
 rw[hO]at h;refine(aT.a [.cn [0,7,8,9] []]).lp hΓ (Ct hΓ (fun h=>?_) (by have:=(e7.sl (hr _ (aC (i:=1) rfl))).1;simpa using this) aV 0 rfl h);have h:=aE h;subst h;exact aT.ret hΓ
def jq(aB:aM)(aV:aI)(y1:Bytes)(y3:Bytes)(k1:aH->Option aM):aH->Nat->aH->Option aM
 | [],i1,kZ=>(k1 kZ)
 |bA::bt,i1,kZ=>((hO bA aV).bind fun WE=>(bif room ((kZ.map tx).length+([[D.str WE]]).length) 16 then(jq aB aV y1 y3 k1 bt (i1+1) (kZ++([WE])))else none))
def kM(aB:aM)(aV:aI):Option aM:=((hO aB.left aV).bind fun y1=>((hO aB.right aV).bind fun y3=>(jq aB aV y1 y3 (fun(wO:aH)=>(some (⟨aB.kind,(⟨aB.pat.rel,wO⟩:aG),y1,y3⟩:aM))) aB.pat.args 0 ([]:aH))))
def yH(aB:aM)(aV:aI)(y1:Bytes)(y3:Bytes)(W0:List aQ)(cZ:Int):St:=⟨[(1,D.sl (aV.map aK.c)),(4,D.ptr 0 0),(5,D.ptr 1 0),(26,D.sl (aB.pat.args.map tx)),(27,D.int .i64 ((aB.pat.args.map tx).length:Int)),(28,D.int .i64 cZ)],[Ob.box [D.int .i64 0,D.str ([]),D.nil,D.str ([]),D.str ([])],Ob.box [D.int .i64 aB.kind,D.str aB.pat.rel,D.acc 2,D.str y1,D.str y3],Ob.row .uq 9 1 W0]⟩
theorem Dk(hΓ:Γ.nt=44){aB:aM}{aV:aI}{y1:Bytes}{y3:Bytes}{r:aM}{k1:aH->Option aM}(cq:∀(wO:aH),k1 wO=some r->Ax Γ N f256 (.q [[none,none,some (9,1),none,none]] (D.agg [D.int .i64 r.kind,D.str r.pat.rel,D.fr 9 1 (r.pat.args.map tx),D.str r.left,D.str r.right])) [1,1,1,1] ⟨[(4,D.ptr 0 0),(5,D.ptr 1 0)],[Ob.box [D.int .i64 0,D.str ([]),D.nil,D.str ([]),D.str ([])],Ob.box [D.int .i64 aB.kind,D.str aB.pat.rel,D.acc 2,D.str y1,D.str y3],Ob.row .uq 9 1 (wO.map tx)]⟩)(hm1:aB.pat.args.length<=maxLen):∀(rest:aH) (i1:Nat) (kZ:aH),aB.pat.args.drop i1=rest->jq aB aV y1 y3 k1 rest i1 kZ=some r->Ar Γ N f256 (.q [[none,none,some (9,1),none,none]] (D.agg [D.int .i64 r.kind,D.str r.pat.rel,D.fr 9 1 (r.pat.args.map tx),D.str r.left,D.str r.right])) [1,1,1,0,1,0] (rest.length+1) (yH aB aV y1 y3 (kZ.map tx) (i1:Int)):=by
 intro rest
 induction rest with
 |nil=>
  intro i1 kZ au h;rw[jq]at h;refine aP fun N1 cB bw=>?_
  exact((aT.ge tx au).a [.hl 0 [4,5] [0,1,2]]).ex hΓ cB (cq kZ h)
 |cons bA bt ih1=>
  intro i1 kZ au h;rw[jq]at h;refine aP fun N1 cB bw=>?_
  obtain⟨WE,h32,h⟩:=aD h;obtain⟨h33,h⟩:=bY h;exact((((((aT.lt tx au).l (b9 tx 1 (dc au) rfl)).a [.n 7]).g (r9 h32)).w (cN h33)).a [.cn [1,4,5,26,27,28] [0,1,4]]).cs hΓ bw (yH aB aV y1 y3 ((kZ.map tx)++([[D.str WE]])) (IntKind.i64.wrap ((i1:Int)+1))) (by first| (simp only[iS au hm1,mA]<;>rfl)| (simp only[iS au hm1,mA,aG.c,aK.c,aM.c,Action.c,aN.c,aR.c,az.c,aW.c,Node.c,aJ.c,dH.c]<;>rfl)) (ih1 (i1+1) (kZ++([WE])) (dn au) h)
theorem oI{aB:aM}{aV:aI}{r:aM}(h:kM aB aV=some r):Good prog 256 [D.agg (aM.c aB),D.sl (aV.map aK.c)] (D.agg [D.int .i64 r.kind,D.str r.pat.rel,D.fr 9 1 (r.pat.args.map tx),D.str r.left,D.str r.right]):=by
 refine gd func256 [[none,none,some (9,1),none,none]] 44 fun hr Γ hΓ=>?_
 rw[kM]at h;obtain⟨y1,h2,h⟩:=aD h;obtain⟨y3,h4,h⟩:=aD h;refine((((aT.a [.n 12]).g (r9 h2)).g (r9 h4)).a [.pb 2 2 9 1,.cn [1,4,5,26,27,28] [1,2,3]]).lp hΓ (Dk hΓ (fun wO h=>?_) (by have:=(e7.sl (e7.agg (hr _ (aC (i:=0) rfl)) (.sl (aB.pat.args.map tx)) (by simp))).1;simpa using this) aB.pat.args 0 ([]:aH) rfl h);cases h;exact aT.ret hΓ
def jo(aB:aN)(y1:aI)(k1:ai->Option ai):ai->Nat->ai->Option ai
 | [],i1,cA=>(k1 cA)
 |bA::bt,i1,cA=>((kM bA y1).bind fun GL=>(bif room ((cA.map aM.c).length+([[D.int .i64 GL.kind,D.str GL.pat.rel,D.sl (GL.pat.args.map tx),D.str GL.left,D.str GL.right]]).length) 80 then(jo aB y1 k1 bt (i1+1) (cA++([GL])))else none))
def q8(aB:aN):Option ai:=((nH aB).bind fun y1=>(jo aB y1 (fun(bN:ai)=>(some bN)) aB.conds 0 ([]:ai)))
def yF(aB:aN)(y1:aI)(W0:List aQ)(cZ:Int):St:=⟨[(3,D.acc 0),(4,D.acc 1),(10,D.sl (aB.conds.map aM.c)),(11,D.int .i64 ((aB.conds.map aM.c).length:Int)),(12,D.int .i64 cZ)],[Ob.row .uq 152 2 (y1.map aK.c),Ob.row .uq 115 5 W0]⟩
theorem Di(hΓ:Γ.nt=24){aB:aN}{y1:aI}{r:ai}{k1:ai->Option ai}(cq:∀(bN:ai),k1 bN=some r->Ax Γ N f200 (.q [[some (115,5)]] (D.fr 115 5 (r.map aM.c))) [1,1,1,1] ⟨[(4,D.acc 0)],[Ob.row .uq 115 5 (bN.map aM.c)]⟩)(hm1:aB.conds.length<=maxLen):∀(rest:ai) (i1:Nat) (cA:ai),aB.conds.drop i1=rest->jo aB y1 k1 rest i1 cA=some r->Ar Γ N f200 (.q [[some (115,5)]] (D.fr 115 5 (r.map aM.c))) [1,1,1,0,1,0] (rest.length+1) (yF aB y1 (cA.map aM.c) (i1:Int)):=by
 intro rest
 induction rest with
 |nil=>
  intro i1 cA au h;rw[jo]at h;refine aP fun N1 cB bw=>?_
  exact((aT.ge aM.c au).a [.hl 0 [4] [1]]).ex hΓ cB (cq cA h)
 |cons bA bt ih1=>
  intro i1 cA au h;rw[jo]at h;refine aP fun N1 cB bw=>?_
  obtain⟨GL,h30,h⟩:=aD h;obtain⟨h31,h⟩:=bY h;exact(((((aT.lt aM.c au).l (b9 aM.c 5 (dc au) rfl)).g (oI h30)).w (cN h31)).a [.cn [3,4,10,11,12] [0,5]]).cs hΓ bw (yF aB y1 ((cA.map aM.c)++([[D.int .i64 GL.kind,D.str GL.pat.rel,D.sl (GL.pat.args.map tx),D.str GL.left,D.str GL.right]])) (IntKind.i64.wrap ((i1:Int)+1))) (by first| (simp only[iS au hm1,mA]<;>rfl)| (simp only[iS au hm1,mA,aG.c,aK.c,aM.c,Action.c,aN.c,aR.c,az.c,aW.c,Node.c,aJ.c,dH.c]<;>rfl)) (ih1 (i1+1) (cA++([GL])) (dn au) h)
theorem Ck{aB:aN}{r:ai}(h:q8 aB=some r):Good prog 200 [D.agg (aN.c aB)] (D.fr 115 5 (r.map aM.c)):=by
 refine gd func200 [[some (115,5)]] 24 fun hr Γ hΓ=>?_
 rw[q8]at h;obtain⟨y1,h2,h⟩:=aD h;refine((aT.g (wX h2)).a [.P3 4,.cn [3,4,10,11,12] [1,2]]).lp hΓ (Di hΓ (fun bN h=>?_) (by have:=(e7.sl (e7.agg (hr _ (aC (i:=0) rfl)) (.sl (aB.conds.map aM.c)) (by simp))).1;simpa using this) aB.conds 0 ([]:ai) rfl h);have h:=aE h;subst h;exact aT.ret hΓ
def kz(aB:aH)(aV:aH)(k1:Option Bool):aH->Nat->Option Bool
 | [],i1=>(k1)
 |bA::bt,i1=>((nF aV (i1:Int)).bind fun x22=>(bif !((bA:Bytes)==x22)then(some false)else(kz aB aV k1 bt (i1+1))))
def oW(aB:aH)(aV:aH):Option Bool:=(bif (((aB.map tx).length:Int):Int) != ((aV.map tx).length:Int)then(some false)else(kz aB aV (some true) aB 0))
def Gr(aB:aH)(aV:aH)(cZ:Int):St:=⟨[(0,D.sl (aB.map tx)),(1,D.sl (aV.map tx)),(12,D.int .i64 ((aB.map tx).length:Int)),(13,D.int .i64 cZ)],[]⟩
theorem F0(hΓ:Γ.nt=26){aB:aH}{aV:aH}{r:Bool}{k1:Option Bool}(cq:k1=some r->Ax Γ N f232 (.q [[none]] (D.bool r)) [1,1,1] ⟨[],[]⟩)(hm1:aB.length<=maxLen):∀(rest:aH) (i1:Nat),aB.drop i1=rest->kz aB aV k1 rest i1=some r->Ar Γ N f232 (.q [[none]] (D.bool r)) [1,1,0,1,0] (rest.length+1) (Gr aB aV (i1:Int)):=by
 intro rest
 induction rest with
 |nil=>
  intro i1 au h;rw[kz]at h;refine aP fun N1 cB bw=>?_
  exact((aT.ge tx au).a [.hl 0 [] []]).ex hΓ cB (cq h)
 |cons bA bt ih1=>
  intro i1 au h;rw[kz]at h;refine aP fun N1 cB bw=>?_
  obtain⟨x22,h23,h⟩:=aD h;have dL:=((((aT.lt tx au).a [.n 8]).l (b9 tx 1 (dc au) rfl)).l (dO tx 1 h23 rfl))
  obtain⟨h24,h⟩|⟨h24,h⟩:=aO h
  ·have h:=aE h;subst h;exact(dL.b h24).ret hΓ
  ·exact((dL.b h24).a [.cn [0,1,12,13] []]).ct hΓ bw (iS au hm1) (ih1 (i1+1) (dn au) h)
theorem xO{aB:aH}{aV:aH}{r:Bool}(h:oW aB aV=some r):Good prog 232 [D.sl (aB.map tx),D.sl (aV.map tx)] (D.bool r):=by
 refine gd func232 [[none]] 26 fun hr Γ hΓ=>?_
 rw[oW]at h;obtain⟨h1,h⟩|⟨h1,h⟩:=aO h
 ·have h:=aE h;subst h;exact(aT.b h1).ret hΓ
 ·refine((aT.b h1).a [.cn [0,1,12,13] []]).lp hΓ (F0 hΓ (fun h=>?_) (by have:=(e7.sl (hr _ (aC (i:=0) rfl))).1;simpa using this) aB 0 rfl h);have h:=aE h;subst h;exact aT.ret hΓ
def eg(aB:aG)(aV:aG):Option Bool:=(bif (aB.rel:Bytes)==aV.rel then((oW aB.args aV.args).bind fun y2=>(some y2))else(some false))
theorem nI{aB:aG}{aV:aG}{r:Bool}(h:eg aB aV=some r):Good prog 159 [D.agg (aG.c aB),D.agg (aG.c aV)] (D.bool r):=by
 refine gd func159 [[none]] 17 fun hr Γ hΓ=>?_
 rw[eg]at h;obtain⟨h1,h⟩|⟨h1,h⟩:=aO h
 ·obtain⟨y2,h3,h⟩:=aD h;have h:=aE h;subst h;exact(((aT.r 5 h1).g (xO h3)).b h1).ret hΓ
 ·have h:=aE h;subst h;exact(aT.r 6 h1).ret hΓ
def jM(aB:aM)(aV:aM):Option Bool:=(bif (aB.kind:Int)==aV.kind then(bif (aB.left:Bytes)==aV.left then(bif (aB.right:Bytes)==aV.right then((eg aB.pat aV.pat).bind fun y4=>(some y4))else(some false))else(some false))else(some false))
theorem uK{aB:aM}{aV:aM}{r:Bool}(h:jM aB aV=some r):Good prog 160 [D.agg (aM.c aB),D.agg (aM.c aV)] (D.bool r):=by
 refine gd func160 [[none]] 31 fun hr Γ hΓ=>?_
 rw[jM]at h;obtain⟨h1,h⟩|⟨h1,h⟩:=aO h
 ·have kX:=(aT.r 6 h1)
  obtain⟨h2,h⟩|⟨h2,h⟩:=aO h
  ·have dL:=(kX.r 6 h2)
   obtain⟨h3,h⟩|⟨h3,h⟩:=aO h
   ·obtain⟨y4,h5,h⟩:=aD h;have h:=aE h;subst h;exact(((dL.r 5 h3).g (nI h5)).b h3).ret hΓ
   ·have h:=aE h;subst h;exact(dL.r 6 h3).ret hΓ
  ·have h:=aE h;subst h;exact((kX.r 6 h2).F 6).ret hΓ
 ·have h:=aE h;subst h;exact((aT.r 6 h1).F 12).ret hΓ
def qw(aB:aG):Option aG:=((nJ aB.args).bind fun y1=>((kM (⟨0,aB,[],[]⟩:aM) y1).bind fun y3=>(some y3.pat)))
theorem zC{aB:aG}{r:aG}(h:qw aB=some r):Good prog 258 [D.agg (aG.c aB)] (D.agg [D.str r.rel,D.fr 9 1 (r.args.map tx)]):=by
 refine gd func258 [[none,some (9,1)]] 10 fun hr Γ hΓ=>?_
 rw[qw]at h;obtain⟨y1,h2,h⟩:=aD h;obtain⟨y3,h4,h⟩:=aD h;cases h;exact((((aT.a [.n 5]).g (wZ h2)).a [.d (D.agg [D.int .i64 y3.kind,D.str y3.pat.rel,D.fr 9 1 (y3.pat.args.map tx),D.str y3.left,D.str y3.right])]).w (show Good prog 256 [D.agg [D.int .i64 0,D.str aB.rel,D.sl (aB.args.map tx),D.str ([]),D.str ([])],D.sl (y1.map aK.c)] (D.agg [D.int .i64 y3.kind,D.str y3.pat.rel,D.fr 9 1 (y3.pat.args.map tx),D.str y3.left,D.str y3.right])from by first| (simpa only[bu,bD,bZ,kF,jK]using oI h4)|exact oI h4| (have t:=oI h4;simp only[bu,kF,jK,aM.c]at t;exact t))).ret hΓ
def eE(aB:aJ)(aV:aG)(k1:Option (aJ×Int)):bK->Nat->Option (aJ×Int)
 | [],i1=>(k1)
 |bA::bt,i1=>((eg bA.shape aV).bind fun kE=>(bif kE then(some (aB,(i1:Int)))else(eE aB aV k1 bt (i1+1))))
def gx(aB:aJ)(aV:aG):Option (aJ×Int):=(bif decide (aB.bJ.length<=maxLen)then(eE aB aV (bif room ((aB.bJ.map aW.c).length+([[D.str aV.rel,D.sl (aV.args.map tx),D.sl ([])]]).length) 64 then(some ((⟨aB.rules,aB.ends,aB.bJ++([(⟨aV,[]⟩:aW)]),aB.nodes,aB.facts,aB.dB⟩:aJ),IntKind.i64.wrap ((((aB.bJ.map aW.c)++([[D.str aV.rel,D.sl (aV.args.map tx),D.sl ([])]])).length:Int)-1)))else none) aB.bJ 0)else none)
def A9(eM:Value)(aB:aJ)(aV:aG)(cZ:Int):St:=⟨[(0,D.ptr 0 0),(3,D.ptr 1 0),(10,D.acc 2),(11,D.int .i64 ((aB.bJ.map aW.c).length:Int)),(12,D.int .i64 cZ)],[Ob.NF [D.acc 3,D.acc 4,D.acc 2,D.acc 5,D.acc 6,D.int .i64 aB.dB] eM,Ob.box [D.str aV.rel,D.acc 7],Ob.row .uq 111 3 (aB.bJ.map aW.c),Ob.row .uq 105 4 (aB.rules.map aN.c),Ob.row .uq 3 1 (aB.ends.map gQ),Ob.row .uq 118 8 (aB.nodes.map Node.c),Ob.row .uq 53 2 (aB.facts.map aG.c),Ob.row .uq 9 1 (aV.args.map tx)]⟩
theorem zZ(hΓ:Γ.nt=40){eM:Value}{aB:aJ}{aV:aG}{r:aJ×Int}{k1:Option (aJ×Int)}(cq:k1=some r->Ax Γ N f257 (.p [[some (105,4),some (3,1),some (111,3),some (118,8),some (53,2),none],[none]] eM (cY r.1) (D.int .i64 r.2)) [1,1] ⟨[(0,D.ptr 0 0),(3,D.ptr 1 0)],[Ob.NF [D.acc 2,D.acc 3,D.acc 4,D.acc 5,D.acc 6,D.int .i64 aB.dB] eM,Ob.box [D.str aV.rel,D.acc 7],Ob.row .uq 105 4 (aB.rules.map aN.c),Ob.row .uq 3 1 (aB.ends.map gQ),Ob.row .uq 111 3 (aB.bJ.map aW.c),Ob.row .uq 118 8 (aB.nodes.map Node.c),Ob.row .uq 53 2 (aB.facts.map aG.c),Ob.row .uq 9 1 (aV.args.map tx)]⟩)(hm1:aB.bJ.length<=maxLen):∀(rest:bK) (i1:Nat),aB.bJ.drop i1=rest->eE aB aV k1 rest i1=some r->Ar Γ N f257 (.p [[some (105,4),some (3,1),some (111,3),some (118,8),some (53,2),none],[none]] eM (cY r.1) (D.int .i64 r.2)) [1,0,1,0] (rest.length+1) (A9 eM aB aV (i1:Int)):=by
 intro rest
 induction rest with
 |nil=>
  intro i1 au h;rw[eE]at h;refine aP fun N1 cB bw=>?_
  exact((aT.ge aW.c au).a [.hl 0 [0,3] [0,1,3,4,2,5,6,7]]).ex hΓ cB (cq h)
 |cons bA bt ih1=>
  intro i1 au h;rw[eE]at h;refine aP fun N1 cB bw=>?_
  obtain⟨kE,h23,h⟩:=aD h;have dL:=((((aT.lt aW.c au).i (oK aW.c 3 (dc au))).o 3 3 .uq (eT aW.c (dc au))).g (nI h23))
  obtain⟨h24,h⟩|⟨h24,h⟩:=aO h
  ·cases h;exact(dL.b h24).ret hΓ
  ·exact((dL.b h24).a [.cn [0,3,10,11,12] [0,1,2,3,4,5,6,7]]).ct hΓ bw (iS au hm1) (ih1 (i1+1) (dn au) h)
theorem sN{aB:aJ}{aV:aG}{r:aJ×Int}(h:gx aB aV=some r):zx prog 257 (cY aB) (cY r.1) [D.agg [D.str aV.rel,D.fr 9 1 (aV.args.map tx)]] (D.int .i64 r.2):=by
 refine gdP func257 [[some (105,4),some (3,1),some (111,3),some (118,8),some (53,2),none],[none]] 40 [D.acc 1,D.acc 2,D.acc 3,D.acc 4,D.acc 5,D.int .i64 aB.dB] [D.agg [D.str aV.rel,D.acc 6]] [Ob.row .uq 105 4 (aB.rules.map aN.c),Ob.row .uq 3 1 (aB.ends.map gQ),Ob.row .uq 111 3 (aB.bJ.map aW.c),Ob.row .uq 118 8 (aB.nodes.map Node.c),Ob.row .uq 53 2 (aB.facts.map aG.c),Ob.row .uq 9 1 (aV.args.map tx)] fun hr eM Γ hΓ=>?_
 rw[gx]at h;obtain⟨h27,h⟩:=bY h;refine(aT.a [.cn [0,3,10,11,12] [0,7,3,1,2,4,5,6]]).lp hΓ (zZ hΓ (fun h=>?_) (bp h27) aB.bJ 0 rfl h);obtain⟨h26,h⟩:=bY h;cases h;exact((aT.w (cN h26)).a [.n2 [0,1,2,3,4,5,6,7,8,9,10,11] [0,1,2,3,4,5,6,7,8,9,10,11] 7 9 [0,1,2,3,4] [4,7,8]]).rts hΓ (D.ij [D.int .i64 (IntKind.i64.wrap ((((aB.bJ.map aW.c)++([[D.str aV.rel,D.sl (aV.args.map tx),D.sl ([])]])).length:Int)-1)),D.agg [D.fr 105 4 (aB.rules.map aN.c),D.fr 3 1 (aB.ends.map gQ),D.fr 111 3 ((aB.bJ.map aW.c)++([[D.str aV.rel,D.sl (aV.args.map tx),D.sl ([])]])),D.fr 118 8 (aB.nodes.map Node.c),D.fr 53 2 (aB.facts.map aG.c),D.int .i64 aB.dB],D.val eM]) (by first|rfl| (simp only[mA]<;>rfl)| (simp only[cY,mA]<;>rfl))
def cy(aB:aJ)(aV:Int)(cr:aM)(k1:Option (aJ×Int)):bE->Nat->Option (aJ×Int)
 | [],i1=>(k1)
 |bA::bt,i1=>(bif decide (((i1:Int):Int)>0)then(bif (bA.parent:Int)==aV then((jM bA.cond cr).bind fun ya=>(bif ya then(some (aB,(i1:Int)))else(cy aB aV cr k1 bt (i1+1))))else(cy aB aV cr k1 bt (i1+1)))else(cy aB aV cr k1 bt (i1+1)))
def jh(aB:aJ)(aV:Int)(cr:aM):Option (aJ×Int):=(bif decide (aB.nodes.length<=maxLen)then(cy aB aV cr (bif (cr.kind:Int)==1 then((qw cr.pat).bind fun IP=>((gx aB IP).bind fun Ox=>((iO cr).bind fun P4=>(bif room ((Ox.1.nodes.map Node.c).length+([[D.int .i64 aV,D.int .i64 P4.kind,D.str P4.pat.rel,D.sl (P4.pat.args.map tx),D.str P4.left,D.str P4.right,D.int .i64 Ox.2,D.sl ([])]]).length) 120 then(some ((⟨Ox.1.rules,Ox.1.ends,Ox.1.bJ,Ox.1.nodes++([(⟨aV,P4,Ox.2,[]⟩:Node)]),Ox.1.facts,Ox.1.dB⟩:aJ),IntKind.i64.wrap ((((Ox.1.nodes.map Node.c)++([[D.int .i64 aV,D.int .i64 P4.kind,D.str P4.pat.rel,D.sl (P4.pat.args.map tx),D.str P4.left,D.str P4.right,D.int .i64 Ox.2,D.sl ([])]])).length:Int)-1)))else none))))else(bif (cr.kind:Int)==2 then((qw cr.pat).bind fun y47=>((gx aB y47).bind fun Lf=>((iO cr).bind fun NK=>(bif room ((Lf.1.nodes.map Node.c).length+([[D.int .i64 aV,D.int .i64 NK.kind,D.str NK.pat.rel,D.sl (NK.pat.args.map tx),D.str NK.left,D.str NK.right,D.int .i64 Lf.2,D.sl ([])]]).length) 120 then(some ((⟨Lf.1.rules,Lf.1.ends,Lf.1.bJ,Lf.1.nodes++([(⟨aV,NK,Lf.2,[]⟩:Node)]),Lf.1.facts,Lf.1.dB⟩:aJ),IntKind.i64.wrap ((((Lf.1.nodes.map Node.c)++([[D.int .i64 aV,D.int .i64 NK.kind,D.str NK.pat.rel,D.sl (NK.pat.args.map tx),D.str NK.left,D.str NK.right,D.int .i64 Lf.2,D.sl ([])]])).length:Int)-1)))else none))))else((iO cr).bind fun P5=>(bif room ((aB.nodes.map Node.c).length+([[D.int .i64 aV,D.int .i64 P5.kind,D.str P5.pat.rel,D.sl (P5.pat.args.map tx),D.str P5.left,D.str P5.right,D.int .i64 (-1),D.sl ([])]]).length) 120 then(some ((⟨aB.rules,aB.ends,aB.bJ,aB.nodes++([(⟨aV,P5, -1,[]⟩:Node)]),aB.facts,aB.dB⟩:aJ),IntKind.i64.wrap ((((aB.nodes.map Node.c)++([[D.int .i64 aV,D.int .i64 P5.kind,D.str P5.pat.rel,D.sl (P5.pat.args.map tx),D.str P5.left,D.str P5.right,D.int .i64 (-1),D.sl ([])]])).length:Int)-1)))else none)))) aB.nodes 0)else none)
def AA(eM:Value)(aB:aJ)(aV:Int)(cr:aM)(cZ:Int):St:=⟨[(0,D.ptr 0 0),(1,D.int .i64 aV),(5,D.ptr 1 0),(13,D.acc 2),(14,D.int .i64 ((aB.nodes.map Node.c).length:Int)),(15,D.int .i64 cZ)],[Ob.NF [D.acc 3,D.acc 4,D.acc 5,D.acc 2,D.acc 6,D.int .i64 aB.dB] eM,Ob.box (aM.c cr),Ob.row .uq 118 8 (aB.nodes.map Node.c),Ob.row .uq 105 4 (aB.rules.map aN.c),Ob.row .uq 3 1 (aB.ends.map gQ),Ob.row .uq 111 3 (aB.bJ.map aW.c),Ob.row .uq 53 2 (aB.facts.map aG.c)]⟩
theorem za(hΓ:Γ.nt=69){eM:Value}{aB:aJ}{aV:Int}{cr:aM}{r:aJ×Int}{k1:Option (aJ×Int)}(cq:k1=some r->Ax Γ N f201 (.p [[some (105,4),some (3,1),some (111,3),some (118,8),some (53,2),none],[none]] eM (cY r.1) (D.int .i64 r.2)) [1,1] ⟨[(0,D.ptr 0 0),(1,D.int .i64 aV),(5,D.ptr 1 0)],[Ob.NF [D.acc 2,D.acc 3,D.acc 4,D.acc 5,D.acc 6,D.int .i64 aB.dB] eM,Ob.box (aM.c cr),Ob.row .uq 105 4 (aB.rules.map aN.c),Ob.row .uq 3 1 (aB.ends.map gQ),Ob.row .uq 111 3 (aB.bJ.map aW.c),Ob.row .uq 118 8 (aB.nodes.map Node.c),Ob.row .uq 53 2 (aB.facts.map aG.c)]⟩)(hm1:aB.nodes.length<=maxLen):∀(rest:bE) (i1:Nat),aB.nodes.drop i1=rest->cy aB aV cr k1 rest i1=some r->Ar Γ N f201 (.p [[some (105,4),some (3,1),some (111,3),some (118,8),some (53,2),none],[none]] eM (cY r.1) (D.int .i64 r.2)) [1,0,1,0] (rest.length+1) (AA eM aB aV cr (i1:Int)):=by
 intro rest
 induction rest with
 |nil=>
  intro i1 au h;rw[cy]at h;refine aP fun N1 cB bw=>?_
  exact((aT.ge Node.c au).a [.hl 0 [0,1,5] [0,1,3,4,5,2,6]]).ex hΓ cB (cq h)
 |cons bA bt ih1=>
  intro i1 au h;rw[cy]at h;refine aP fun N1 cB bw=>?_
  have kH:=(((aT.lt Node.c au).i (oK Node.c 8 (dc au))).o 8 8 .uq (eT Node.c (dc au)))
  obtain⟨h30,h⟩|⟨h30,h⟩:=aO h
  ·have uB:=(kH.r 5 h30)
   obtain⟨h31,h⟩|⟨h31,h⟩:=aO h
   ·obtain⟨ya,h33,h⟩:=aD h;have x9:=(((uB.r 4 h31).g (uK h33)).b h31)
    obtain⟨h34,h⟩|⟨h34,h⟩:=aO h
    ·cases h;exact(x9.b h34).ret hΓ
    ·exact((x9.b h34).a [.cn [0,1,5,13,14,15] [0,1,2,3,4,5,6]]).ct hΓ bw (iS au hm1) (ih1 (i1+1) (dn au) h)
   ·exact(((uB.r 5 h31).F 1).a [.cn [0,1,5,13,14,15] [0,1,2,3,4,5,6]]).ct hΓ bw (iS au hm1) (ih1 (i1+1) (dn au) h)
  ·exact(((kH.r 5 h30).F 6).a [.cn [0,1,5,13,14,15] [0,1,2,3,4,5,6]]).ct hΓ bw (iS au hm1) (ih1 (i1+1) (dn au) h)
theorem ym{aB:aJ}{aV:Int}{cr:aM}{r:aJ×Int}(h:jh aB aV cr=some r):zx prog 201 (cY aB) (cY r.1) [D.int .i64 aV,D.agg (aM.c cr)] (D.int .i64 r.2):=by
 refine gdP func201 [[some (105,4),some (3,1),some (111,3),some (118,8),some (53,2),none],[none]] 69 [D.acc 1,D.acc 2,D.acc 3,D.acc 4,D.acc 5,D.int .i64 aB.dB] [D.int .i64 aV,D.agg [D.int .i64 cr.kind,D.str cr.pat.rel,D.sl (cr.pat.args.map tx),D.str cr.left,D.str cr.right]] [Ob.row .uq 105 4 (aB.rules.map aN.c),Ob.row .uq 3 1 (aB.ends.map gQ),Ob.row .uq 111 3 (aB.bJ.map aW.c),Ob.row .uq 118 8 (aB.nodes.map Node.c),Ob.row .uq 53 2 (aB.facts.map aG.c)] fun hr eM Γ hΓ=>?_
 rw[jh]at h;obtain⟨h63,h⟩:=bY h;refine(aT.a [.cn [0,1,5,13,14,15] [0,6,4,1,2,3,5]]).lp hΓ (za hΓ (fun h=>?_) (bp h63) aB.nodes 0 rfl h);obtain⟨h35,h⟩|⟨h35,h⟩:=aO h
 ·obtain⟨IP,h37,h⟩:=aD h;obtain⟨Ox,h39,h⟩:=aD h;obtain⟨P4,h44,h⟩:=aD h;obtain⟨h45,h⟩:=bY h;cases h;exact(((((((aT.r 4 h35).T 1).g (zC h37)).hp [[some (105,4),some (3,1),some (111,3),some (118,8),some (53,2),none],[none,some (9,1)]] (sN h39)).a [.n2 [0,1,2,3,4,5,6,7,8,9,10,11,12,13,14] [0,1,2,3,4,5,6,7,8,9,10,11,12,13,14] 10 12 [0,1,2,3,4] [11,13,14]]).g (mr h44)).w (cN h45)).rts hΓ (D.ij [D.int .i64 (IntKind.i64.wrap ((((Ox.1.nodes.map Node.c)++([[D.int .i64 aV,D.int .i64 P4.kind,D.str P4.pat.rel,D.sl (P4.pat.args.map tx),D.str P4.left,D.str P4.right,D.int .i64 Ox.2,D.sl ([])]])).length:Int)-1)),D.agg [D.fr 105 4 (Ox.1.rules.map aN.c),D.fr 3 1 (Ox.1.ends.map gQ),D.fr 111 3 (Ox.1.bJ.map aW.c),D.fr 118 8 ((Ox.1.nodes.map Node.c)++([[D.int .i64 aV,D.int .i64 P4.kind,D.str P4.pat.rel,D.sl (P4.pat.args.map tx),D.str P4.left,D.str P4.right,D.int .i64 Ox.2,D.sl ([])]])),D.fr 53 2 (Ox.1.facts.map aG.c),D.int .i64 Ox.1.dB],D.val eM]) (by first|rfl| (simp only[mA]<;>rfl)| (simp only[cY,mA]<;>rfl))
 ·have Ac:=(aT.r 4 h35)
  obtain⟨h46,h⟩|⟨h46,h⟩:=aO h
  ·obtain⟨y47,h48,h⟩:=aD h;obtain⟨Lf,h50,h⟩:=aD h;obtain⟨NK,h55,h⟩:=aD h;obtain⟨h56,h⟩:=bY h;cases h;exact((((((Ac.b h46).g (zC h48)).hp [[some (105,4),some (3,1),some (111,3),some (118,8),some (53,2),none],[none,some (9,1)]] (sN h50)).a [.n2 [0,1,2,3,4,5,6,7,8,9,10,11,12,13,14] [0,1,2,3,4,5,6,7,8,9,10,11,12,13,14] 10 12 [0,1,2,3,4] [11,13,14]]).g (mr h55)).w (cN h56)).rts hΓ (D.ij [D.int .i64 (IntKind.i64.wrap ((((Lf.1.nodes.map Node.c)++([[D.int .i64 aV,D.int .i64 NK.kind,D.str NK.pat.rel,D.sl (NK.pat.args.map tx),D.str NK.left,D.str NK.right,D.int .i64 Lf.2,D.sl ([])]])).length:Int)-1)),D.agg [D.fr 105 4 (Lf.1.rules.map aN.c),D.fr 3 1 (Lf.1.ends.map gQ),D.fr 111 3 (Lf.1.bJ.map aW.c),D.fr 118 8 ((Lf.1.nodes.map Node.c)++([[D.int .i64 aV,D.int .i64 NK.kind,D.str NK.pat.rel,D.sl (NK.pat.args.map tx),D.str NK.left,D.str NK.right,D.int .i64 Lf.2,D.sl ([])]])),D.fr 53 2 (Lf.1.facts.map aG.c),D.int .i64 Lf.1.dB],D.val eM]) (by first|rfl| (simp only[mA]<;>rfl)| (simp only[cY,mA]<;>rfl))
  ·obtain⟨P5,h61,h⟩:=aD h;obtain⟨h62,h⟩:=bY h;cases h;exact((((Ac.b h46).a [.n2 [0,1,2,3,4,5,6,7,8,9,10,11,12,13,14] [0,1,2,3,4,5,6,7,8,9,10,11,12,13,14] 10 12 [0,1,2,3,4] [5,7,8]]).g (mr h61)).w (cN h62)).rts hΓ (D.ij [D.int .i64 (IntKind.i64.wrap ((((aB.nodes.map Node.c)++([[D.int .i64 aV,D.int .i64 P5.kind,D.str P5.pat.rel,D.sl (P5.pat.args.map tx),D.str P5.left,D.str P5.right,D.int .i64 (-1),D.sl ([])]])).length:Int)-1)),D.agg [D.fr 105 4 (aB.rules.map aN.c),D.fr 3 1 (aB.ends.map gQ),D.fr 111 3 (aB.bJ.map aW.c),D.fr 118 8 ((aB.nodes.map Node.c)++([[D.int .i64 aV,D.int .i64 P5.kind,D.str P5.pat.rel,D.sl (P5.pat.args.map tx),D.str P5.left,D.str P5.right,D.int .i64 (-1),D.sl ([])]])),D.fr 53 2 (aB.facts.map aG.c),D.int .i64 aB.dB],D.val eM]) (by first|rfl| (simp only[mA]<;>rfl)| (simp only[cY,mA]<;>rfl))
def iy(aB:aq)(i1:Nat)(Jv:ai)(k2:Int->Int->aq->bP->bK->bE->aX->Option aJ):ai->Nat->Int->Int->aq->bP->bK->bE->aX->Option aJ
 | [],i2,yy,o4,Bc,oG,Bd,Be,Bf=>(k2 yy o4 Bc oG Bd Be Bf)
 |mh::wD,i2,yy,o4,Bc,oG,Bd,Be,Bf=>((jh (⟨Bc,oG,Bd,Be,Bf,o4⟩:aJ) yy mh).bind fun xw=>(iy aB i1 Jv k2 wD (i2+1) xw.2 xw.1.dB xw.1.rules xw.1.ends xw.1.bJ xw.1.nodes xw.1.facts))
def iw(aB:aq)(k1:Int->aq->bP->bK->bE->aX->Option aJ):aq->Nat->Int->aq->bP->bK->bE->aX->Option aJ
 | [],i1,ny,kZ,gR,BZ,Ba,Bb=>(k1 ny kZ gR BZ Ba Bb)
 |bA::bt,i1,ny,kZ,gR,BZ,Ba,Bb=>((q8 bA).bind fun Jv=>(bif decide (Jv.length<=maxLen)then(iy aB i1 Jv (fun(GM:Int) (wB:Int) (Jm:aq) (Ag:bP) (Jn:bK) (Jo:bE) (Jp:aX)=>(bif room ((Ag.map gQ).length+([[D.int .i64 GM]]).length) 8 then(iw aB k1 bt (i1+1) wB Jm (Ag++([GM])) Jn Jo Jp)else none)) Jv 0 0 ny kZ gR BZ Ba Bb)else none))
def rB(aB:aq):Option aJ:=((qz aB).bind fun y1=>(iw aB (fun(Ah:Int) (wO:aq) (nB:bP) (Oa:bK) (Oc:bE) (Od:aX)=>(some (⟨wO,nB,Oa,Oc,Od,Ah⟩:aJ))) aB 0 0 y1 ([]:bP) ([]:bK) ([(⟨-1,(⟨0,(⟨[],[]⟩:aG),[],[]⟩:aM), -1,[]⟩:Node)]) ([]:aX)))
def vC(aB:aq)(ny:Int)(W1:List aQ)(W2:List aQ)(W3:List aQ)(W4:List aQ)(W5:List aQ)(cZ:Int):St:=⟨[(2,D.ptr 0 0),(3,D.ptr 1 0),(14,D.sl (aB.map aN.c)),(15,D.int .i64 ((aB.map aN.c).length:Int)),(16,D.int .i64 cZ)],[Ob.box [D.nil,D.nil,D.nil,D.nil,D.nil,D.int .i64 0],Ob.box [D.acc 2,D.acc 3,D.acc 4,D.acc 5,D.acc 6,D.int .i64 ny],Ob.row .uq 105 4 W1,Ob.row .uq 3 1 W2,Ob.row .uq 111 3 W3,Ob.row .uq 118 8 W4,Ob.row .uq 53 2 W5]⟩
def Gs(aB:aq)(i1:Nat)(Jv:ai)(yy:Int)(o4:Int)(W2:List aQ)(W3:List aQ)(W4:List aQ)(W5:List aQ)(W6:List aQ)(cZ:Int):St:=⟨[(2,D.ptr 0 0),(3,D.ptr 1 0),(6,D.int .i64 yy),(14,D.sl (aB.map aN.c)),(15,D.int .i64 ((aB.map aN.c).length:Int)),(16,D.int .i64 (i1:Int)),(21,D.acc 2),(22,D.int .i64 ((Jv.map aM.c).length:Int)),(23,D.int .i64 cZ)],[Ob.box [D.nil,D.nil,D.nil,D.nil,D.nil,D.int .i64 0],Ob.box [D.acc 3,D.acc 4,D.acc 5,D.acc 6,D.acc 7,D.int .i64 o4],Ob.row .uq 115 5 (Jv.map aM.c),Ob.row .uq 105 4 W2,Ob.row .uq 3 1 W3,Ob.row .uq 111 3 W4,Ob.row .uq 118 8 W5,Ob.row .uq 53 2 W6]⟩
theorem F3(hΓ:Γ.nt=39){aB:aq}{i1:Nat}{Jv:ai}{r:aJ}{k2:Int->Int->aq->bP->bK->bE->aX->Option aJ}(DV:∀(GM:Int) (wB:Int) (Jm:aq) (Ag:bP) (Jn:bK) (Jo:bE) (Jp:aX),k2 GM wB Jm Ag Jn Jo Jp=some r->Ax Γ N f134 (.q [[some (105,4),some (3,1),some (111,3),some (118,8),some (53,2),none]] (D.agg [D.fr 105 4 (r.rules.map aN.c),D.fr 3 1 (r.ends.map gQ),D.fr 111 3 (r.bJ.map aW.c),D.fr 118 8 (r.nodes.map Node.c),D.fr 53 2 (r.facts.map aG.c),D.int .i64 r.dB])) [1,1,0,1,0,0,1,1,0,0,1,1,1] ⟨[(2,D.ptr 0 0),(3,D.ptr 1 0),(6,D.int .i64 GM),(14,D.sl (aB.map aN.c)),(15,D.int .i64 ((aB.map aN.c).length:Int)),(16,D.int .i64 (i1:Int))],[Ob.box [D.nil,D.nil,D.nil,D.nil,D.nil,D.int .i64 0],Ob.box [D.acc 2,D.acc 3,D.acc 4,D.acc 5,D.acc 6,D.int .i64 wB],Ob.row .uq 105 4 (Jm.map aN.c),Ob.row .uq 3 1 (Ag.map gQ),Ob.row .uq 111 3 (Jn.map aW.c),Ob.row .uq 118 8 (Jo.map Node.c),Ob.row .uq 53 2 (Jp.map aG.c)]⟩)(hm2:Jv.length<=maxLen):∀(rest:ai) (i2:Nat) (yy:Int) (o4:Int) (Bc:aq) (oG:bP) (Bd:bK) (Be:bE) (Bf:aX),Jv.drop i2=rest->iy aB i1 Jv k2 rest i2 yy o4 Bc oG Bd Be Bf=some r->Ar Γ N f134 (.q [[some (105,4),some (3,1),some (111,3),some (118,8),some (53,2),none]] (D.agg [D.fr 105 4 (r.rules.map aN.c),D.fr 3 1 (r.ends.map gQ),D.fr 111 3 (r.bJ.map aW.c),D.fr 118 8 (r.nodes.map Node.c),D.fr 53 2 (r.facts.map aG.c),D.int .i64 r.dB])) [1,1,0,1,0,0,1,1,0,0,1,1,0,1,0] (rest.length+1) (Gs aB i1 Jv yy o4 (Bc.map aN.c) (oG.map gQ) (Bd.map aW.c) (Be.map Node.c) (Bf.map aG.c) (i2:Int)):=by
 intro rest
 induction rest with
 |nil=>
  intro i2 yy o4 Bc oG Bd Be Bf hd2 h;rw[iy]at h;refine aP fun N2 xA vY=>?_
  exact((aT.ge aM.c hd2).a [.hl 5 [2,3,6,14,15,16] [0,1,3,4,5,6,7]]).ex hΓ xA (DV yy o4 Bc oG Bd Be Bf h)
 |cons mh wD ih2=>
  intro i2 yy o4 Bc oG Bd Be Bf hd2 h;rw[iy]at h;refine aP fun N2 xA vY=>?_
  obtain⟨xw,h209,h⟩:=aD h;exact((((((aT.lt aM.c hd2).i (oK aM.c 5 (dc hd2))).o 5 5 .uq (eT aM.c (dc hd2))).a [.gp [[some (105,4),some (3,1),some (111,3),some (118,8),some (53,2),none],[none],[none,none,none,none,none]] (cY xw.1) (D.int .i64 xw.2)]).w (show zx prog 201 (cY (⟨Bc,oG,Bd,Be,Bf,o4⟩:aJ)) (cY xw.1) [D.int .i64 yy,D.agg (aM.c mh)] (D.int .i64 xw.2)from by simpa only[bu,bD,bZ,kF,jK]using ym h209)).a [.cn [2,3,6,14,15,16,21,22,23] [0,1,2,9,10,11,12,13]]).ct hΓ vY (iS hd2 hm2) (ih2 (i2+1) xw.2 xw.1.dB xw.1.rules xw.1.ends xw.1.bJ xw.1.nodes xw.1.facts (dn hd2) h)
theorem F2(hΓ:Γ.nt=39){aB:aq}{r:aJ}{k1:Int->aq->bP->bK->bE->aX->Option aJ}(cq:∀(Ah:Int) (wO:aq) (nB:bP) (Oa:bK) (Oc:bE) (Od:aX),k1 Ah wO nB Oa Oc Od=some r->Ax Γ N f134 (.q [[some (105,4),some (3,1),some (111,3),some (118,8),some (53,2),none]] (D.agg [D.fr 105 4 (r.rules.map aN.c),D.fr 3 1 (r.ends.map gQ),D.fr 111 3 (r.bJ.map aW.c),D.fr 118 8 (r.nodes.map Node.c),D.fr 53 2 (r.facts.map aG.c),D.int .i64 r.dB])) [1,1,1] ⟨[(2,D.ptr 0 0),(3,D.ptr 1 0)],[Ob.box [D.nil,D.nil,D.nil,D.nil,D.nil,D.int .i64 0],Ob.box [D.acc 2,D.acc 3,D.acc 4,D.acc 5,D.acc 6,D.int .i64 Ah],Ob.row .uq 105 4 (wO.map aN.c),Ob.row .uq 3 1 (nB.map gQ),Ob.row .uq 111 3 (Oa.map aW.c),Ob.row .uq 118 8 (Oc.map Node.c),Ob.row .uq 53 2 (Od.map aG.c)]⟩)(hm1:aB.length<=maxLen):∀(rest:aq) (i1:Nat) (ny:Int) (kZ:aq) (gR:bP) (BZ:bK) (Ba:bE) (Bb:aX),aB.drop i1=rest->iw aB k1 rest i1 ny kZ gR BZ Ba Bb=some r->Ar Γ N f134 (.q [[some (105,4),some (3,1),some (111,3),some (118,8),some (53,2),none]] (D.agg [D.fr 105 4 (r.rules.map aN.c),D.fr 3 1 (r.ends.map gQ),D.fr 111 3 (r.bJ.map aW.c),D.fr 118 8 (r.nodes.map Node.c),D.fr 53 2 (r.facts.map aG.c),D.int .i64 r.dB])) [1,1,0,1,0] (rest.length+1) (vC aB ny (kZ.map aN.c) (gR.map gQ) (BZ.map aW.c) (Ba.map Node.c) (Bb.map aG.c) (i1:Int)):=by
 intro rest
 induction rest with
 |nil=>
  intro i1 ny kZ gR BZ Ba Bb au h;rw[iw]at h;refine aP fun N1 cB bw=>?_
  exact((aT.ge aN.c au).a [.hl 0 [2,3] [0,1,2,3,4,5,6]]).ex hΓ cB (cq ny kZ gR BZ Ba Bb h)
 |cons bA bt ih1=>
  intro i1 ny kZ gR BZ Ba Bb au h;rw[iw]at h;refine aP fun N1 cB bw=>?_
  obtain⟨Jv,h180,h⟩:=aD h;obtain⟨h211,h⟩:=bY h;refine((((aT.lt aN.c au).l (b9 aN.c 4 (dc au) rfl)).g (Ck h180)).a [.cn [2,3,6,14,15,16,21,22,23] [0,1,8,2,3,4,5,6]]).lp hΓ (F3 hΓ (fun GM wB Jm Ag Jn Jo Jp h=>?_) (bp h211) Jv 0 0 ny kZ gR BZ Ba Bb rfl h);obtain⟨h210,h⟩:=bY h;exact((aT.w (cN h210)).a [.cn [2,3,14,15,16] [0,1,2,8,4,5,6]]).cs hΓ bw (vC aB wB (Jm.map aN.c) ((Ag.map gQ)++([[D.int .i64 GM]])) (Jn.map aW.c) (Jo.map Node.c) (Jp.map aG.c) (IntKind.i64.wrap ((i1:Int)+1))) (by first| (simp only[iS au hm1,mA]<;>rfl)| (simp only[iS au hm1,mA,aG.c,aK.c,aM.c,Action.c,aN.c,aR.c,az.c,aW.c,Node.c,aJ.c,dH.c]<;>rfl)) (ih1 (i1+1) wB Jm (Ag++([GM])) Jn Jo Jp (dn au) h)
theorem Dv{aB:aq}{r:aJ}(h:rB aB=some r):Good prog 134 [D.sl (aB.map aN.c)] (D.agg [D.fr 105 4 (r.rules.map aN.c),D.fr 3 1 (r.ends.map gQ),D.fr 111 3 (r.bJ.map aW.c),D.fr 118 8 (r.nodes.map Node.c),D.fr 53 2 (r.facts.map aG.c),D.int .i64 r.dB]):=by
 refine gd func134 [[some (105,4),some (3,1),some (111,3),some (118,8),some (53,2),none]] 39 fun hr Γ hΓ=>?_
 rw[rB]at h;obtain⟨y1,h2,h⟩:=aD h;refine((aT.g (Dq h2)).a [.pb 3 1 3 1,.pb 3 2 111 3,.pb 3 4 53 2,.cn [2,3,14,15,16] [0,3,1,4,5,2,6]]).UP hΓ (vC aB 0 (y1.map aN.c) ([]:List aQ) ([]:List aQ) ([[D.int .i64 (-1),D.int .i64 0,D.str ([]),D.sl ([]),D.str ([]),D.str ([]),D.int .i64 (-1),D.sl ([])]]) ([]:List aQ) 0) (by first| (simp only[mA]<;>rfl)| (simp only[mA,aG.c,aK.c,aM.c,Action.c,aN.c,aR.c,az.c,aW.c,Node.c,aJ.c,dH.c]<;>rfl)) (F2 hΓ (fun Ah wO nB Oa Oc Od h=>?_) (by have:=(e7.sl (hr _ (aC (i:=0) rfl))).1;simpa using this) aB 0 0 y1 ([]:bP) ([]:bK) ([(⟨-1,(⟨0,(⟨[],[]⟩:aG),[],[]⟩:aM), -1,[]⟩:Node)]) ([]:aX) rfl h);cases h;exact aT.ret hΓ
def gT(aB:aI)(k1:Option Bool):aI->Nat->Option Bool
 | [],i1=>(k1)
 |bA::bt,i1=>((kL bA.var).bind fun y50=>(bif !(y50)then(some false)else((ed bA.value).bind fun y53=>(bif !(y53)then(some false)else(bif decide (((i1:Int):Int)>0)then((nF aB (IntKind.i64.wrap ((i1:Int)-1))).bind fun x57=>(bif !(Op.bytesLess x57.var bA.var)then(some false)else(gT aB k1 bt (i1+1))))else(gT aB k1 bt (i1+1)))))))
def jk(aB:aI):Option Bool:=(bif decide ((((aB.map aK.c).length:Int):Int)>6)then(some false)else(gT aB (some true) aB 0))
def Gf(aB:aI)(cZ:Int):St:=⟨[(0,D.sl (aB.map aK.c)),(8,D.sl (aB.map aK.c)),(9,D.int .i64 ((aB.map aK.c).length:Int)),(10,D.int .i64 cZ)],[]⟩
theorem Em(hΓ:Γ.nt=41){aB:aI}{r:Bool}{k1:Option Bool}(cq:k1=some r->Ax Γ N f193 (.q [[none]] (D.bool r)) [1,1,1] ⟨[],[]⟩)(hm1:aB.length<=maxLen):∀(rest:aI) (i1:Nat),aB.drop i1=rest->gT aB k1 rest i1=some r->Ar Γ N f193 (.q [[none]] (D.bool r)) [1,1,0,1,0] (rest.length+1) (Gf aB (i1:Int)):=by
 intro rest
 induction rest with
 |nil=>
  intro i1 au h;rw[gT]at h;refine aP fun N1 cB bw=>?_
  exact((aT.ge aK.c au).a [.hl 0 [] []]).ex hΓ cB (cq h)
 |cons bA bt ih1=>
  intro i1 au h;rw[gT]at h;refine aP fun N1 cB bw=>?_
  obtain⟨y50,h51,h⟩:=aD h;have uB:=((((aT.lt aK.c au).l (b9 aK.c 2 (dc au) rfl)).a [.n 22]).g (nG h51))
  obtain⟨h52,h⟩|⟨h52,h⟩:=aO h
  ·have h:=aE h;subst h;exact((((uB.r 5 h52).T 3).a [bF,bF,bF,bF,bF,bF,bF,bF,bF]).T 3).ret hΓ
  ·obtain⟨y53,h54,h⟩:=aD h;have x9:=(((uB.r 3 h52).g (eF h54)).r 2 h52)
   obtain⟨h55,h⟩|⟨h55,h⟩:=aO h
   ·have h:=aE h;subst h;exact((((x9.r 3 h55).a [bF,bF,bF,bF,bF,bF,bF,bF,bF]).r 2 h55).T 1).ret hΓ
   ·have Ac:=(x9.r 3 h55)
    obtain⟨h56,h⟩|⟨h56,h⟩:=aO h
    ·obtain⟨x57,h58,h⟩:=aD h;have IE:=((((((Ac.r 4 h56).l (dO aK.c 2 h58 rfl)).r 5 h56).b h55).b h56).b h55)
     obtain⟨h59,h⟩|⟨h59,h⟩:=aO h
     ·have h:=aE h;subst h;exact(IE.b h59).ret hΓ
     ·exact((IE.b h59).a [.cn [0,8,9,10] []]).ct hΓ bw (iS au hm1) (ih1 (i1+1) (dn au) h)
    ·exact((((((Ac.r 9 h56).b h55).b h56).b h55).F 1).a [.cn [0,8,9,10] []]).ct hΓ bw (iS au hm1) (ih1 (i1+1) (dn au) h)
theorem lR{aB:aI}{r:Bool}(h:jk aB=some r):Good prog 193 [D.sl (aB.map aK.c)] (D.bool r):=by
 refine gd func193 [[none]] 41 fun hr Γ hΓ=>?_
 rw[jk]at h;obtain⟨h1,h⟩|⟨h1,h⟩:=aO h
 ·have h:=aE h;subst h;exact(aT.b h1).ret hΓ
 ·refine((aT.b h1).a [.cn [0,8,9,10] []]).lp hΓ (Em hΓ (fun h=>?_) (by have:=(e7.sl (hr _ (aC (i:=0) rfl))).1;simpa using this) aB 0 rfl h);have h:=aE h;subst h;exact aT.ret hΓ
def kN(aB:aI)(aV:Bytes)(k1:Option (Bytes×Bool)):aI->Nat->Option (Bytes×Bool)
 | [],i1=>(k1)
 |bA::bt,i1=>(bif (bA.var:Bytes)==aV then(some (bA.value,true))else(kN aB aV k1 bt (i1+1)))
def mq(aB:aI)(aV:Bytes):Option (Bytes×Bool):=((ed aV).bind fun y1=>(bif y1 then(some (aV,true))else((kL aV).bind fun y4=>(bif !(y4)then(some ([],false))else(kN aB aV (some ([],false)) aB 0)))))
def KP(aB:aI)(aV:Bytes)(cZ:Int):St:=⟨[(1,D.str aV),(14,D.sl (aB.map aK.c)),(15,D.int .i64 ((aB.map aK.c).length:Int)),(16,D.int .i64 cZ)],[]⟩
theorem Ig(hΓ:Γ.nt=27){aB:aI}{aV:Bytes}{r:Bytes×Bool}{k1:Option (Bytes×Bool)}(cq:k1=some r->Ax Γ N f126 (.q [[none],[none]] (D.ij [D.str r.1,D.bool r.2])) [1,1,1,1] ⟨[],[]⟩)(hm1:aB.length<=maxLen):∀(rest:aI) (i1:Nat),aB.drop i1=rest->kN aB aV k1 rest i1=some r->Ar Γ N f126 (.q [[none],[none]] (D.ij [D.str r.1,D.bool r.2])) [1,1,1,0,1,0] (rest.length+1) (KP aB aV (i1:Int)):=by
 intro rest
 induction rest with
 |nil=>
  intro i1 au h;rw[kN]at h;refine aP fun N1 cB bw=>?_
  exact((aT.ge aK.c au).a [.hl 0 [] []]).ex hΓ cB (cq h)
 |cons bA bt ih1=>
  intro i1 au h;rw[kN]at h;refine aP fun N1 cB bw=>?_
  have dL:=((aT.lt aK.c au).l (b9 aK.c 2 (dc au) rfl))
  obtain⟨h19,h⟩|⟨h19,h⟩:=aO h
  ·cases h;exact(dL.b h19).ret hΓ
  ·exact((dL.b h19).a [.cn [1,14,15,16] []]).ct hΓ bw (iS au hm1) (ih1 (i1+1) (dn au) h)
theorem qg{aB:aI}{aV:Bytes}{r:Bytes×Bool}(h:mq aB aV=some r):Good prog 126 [D.sl (aB.map aK.c),D.str aV] (D.ij [D.str r.1,D.bool r.2]):=by
 refine gd func126 [[none],[none]] 27 fun hr Γ hΓ=>?_
 rw[mq]at h;obtain⟨y1,h2,h⟩:=aD h;obtain⟨h3,h⟩|⟨h3,h⟩:=aO h
 ·cases h;exact((aT.g (eF h2)).b h3).ret hΓ
 ·obtain⟨y4,h5,h⟩:=aD h;have lV:=(((aT.g (eF h2)).b h3).g (nG h5))
  obtain⟨h6,h⟩|⟨h6,h⟩:=aO h
  ·cases h;exact(lV.b h6).ret hΓ
  ·refine((lV.b h6).a [.cn [1,14,15,16] []]).lp hΓ (Ig hΓ (fun h=>?_) (by have:=(e7.sl (hr _ (aC (i:=0) rfl))).1;simpa using this) aB 0 rfl h);cases h;exact aT.ret hΓ
end Go.Cx
namespace Go.Cx
open Go.RowKit Go.Proofs Tryz
set_option maxRecDepth 100000
variable{Γ:tY}{N:Nat->St->Prop}
def ji(aB:aI)(aV:Bytes)(cr:Bytes)(k1:Bool->aI->Option (aI×Bool)):aI->Nat->Bool->aI->Option (aI×Bool)
 | [],i1,yY,b7=>(k1 yY b7)
 |bA::bt,i1,yY,b7=>(bif !(yY)then(bif !(Op.bytesLess bA.var aV||(bA.var:Bytes)==aV)then(bif room ((b7.map aK.c).length+([[D.str aV,D.str cr]]).length) 32 then(bif room (((b7.map aK.c)++([[D.str aV,D.str cr]])).length+([[D.str bA.var,D.str bA.value]]).length) 32 then(ji aB aV cr k1 bt (i1+1) true ((b7++([(⟨aV,cr⟩:aK)]))++([bA])))else none)else none)else(bif room ((b7.map aK.c).length+([[D.str bA.var,D.str bA.value]]).length) 32 then(ji aB aV cr k1 bt (i1+1) yY (b7++([bA])))else none))else(bif room ((b7.map aK.c).length+([[D.str bA.var,D.str bA.value]]).length) 32 then(ji aB aV cr k1 bt (i1+1) yY (b7++([bA])))else none))
def qN(aB:aI)(aV:Bytes)(cr:Bytes):Option (aI×Bool):=((jk aB).bind fun y1=>(bif !(y1)then(some ([],false))else((kL aV).bind fun y4=>(bif !(y4)then(some ([],false))else((ed cr).bind fun y7=>(bif !(y7)then(some ([],false))else((mq aB aV).bind fun IN=>(bif IN.2 then(bif !((IN.1:Bytes)==cr)then(some ([],false))else((oU aB).bind fun y14=>(some (y14,true))))else(bif decide ((((aB.map aK.c).length:Int):Int)>=6)then(some ([],false))else(ji aB aV cr (fun(TV:Bool) (bN:aI)=>(bif !(TV)then(bif room ((bN.map aK.c).length+([[D.str aV,D.str cr]]).length) 32 then(some (bN++([(⟨aV,cr⟩:aK)]),true))else none)else(some (bN,true)))) aB 0 false ([]:aI)))))))))))
def uf(aB:aI)(aV:Bytes)(cr:Bytes)(yY:Bool)(W1:List aQ)(cZ:Int):St:=⟨[(1,D.str aV),(2,D.str cr),(10,D.acc 0),(11,D.bool yY),(42,D.sl (aB.map aK.c)),(43,D.int .i64 ((aB.map aK.c).length:Int)),(44,D.int .i64 cZ)],[Ob.row .uq 152 2 W1]⟩
theorem KH(hΓ:Γ.nt=76){aB:aI}{aV:Bytes}{cr:Bytes}{r:aI×Bool}{k1:Bool->aI->Option (aI×Bool)}(cq:∀(TV:Bool) (bN:aI),k1 TV bN=some r->Ax Γ N f127 (.q [[some (152,2)],[none]] (D.ij [D.fr 152 2 (r.1.map aK.c),D.bool r.2])) [1,1,1,1,1,1,1] ⟨[(1,D.str aV),(2,D.str cr),(10,D.acc 0),(11,D.bool TV)],[Ob.row .uq 152 2 (bN.map aK.c)]⟩)(hm1:aB.length<=maxLen):∀(rest:aI) (i1:Nat) (yY:Bool) (b7:aI),aB.drop i1=rest->ji aB aV cr k1 rest i1 yY b7=some r->Ar Γ N f127 (.q [[some (152,2)],[none]] (D.ij [D.fr 152 2 (r.1.map aK.c),D.bool r.2])) [1,1,1,1,1,1,0,1,0] (rest.length+1) (uf aB aV cr yY (b7.map aK.c) (i1:Int)):=by
 intro rest
 induction rest with
 |nil=>
  intro i1 yY b7 au h;rw[ji]at h;refine aP fun N1 cB bw=>?_
  exact((aT.ge aK.c au).a [.hl 0 [1,2,10,11] [0]]).ex hΓ cB (cq yY b7 h)
 |cons bA bt ih1=>
  intro i1 yY b7 au h;rw[ji]at h;refine aP fun N1 cB bw=>?_
  have lV:=((aT.lt aK.c au).l (b9 aK.c 2 (dc au) rfl))
  obtain⟨h58,h⟩|⟨h58,h⟩:=aO h
  ·have kH:=(lV.r 5 h58)
   obtain⟨h59,h⟩|⟨h59,h⟩:=aO h
   ·obtain⟨h60,h⟩:=bY h;obtain⟨h61,h⟩:=bY h;exact((((kH.b h59).w (cN h60)).w (cN h61)).a [.cn [1,2,10,11,42,43,44] [5]]).cs hΓ bw (uf aB aV cr true (((b7.map aK.c)++([[D.str aV,D.str cr]]))++([[D.str bA.var,D.str bA.value]])) (IntKind.i64.wrap ((i1:Int)+1))) (by first| (simp only[iS au hm1,mA]<;>rfl)| (simp only[iS au hm1,mA,aG.c,aK.c,aM.c,Action.c,aN.c,aR.c,az.c,aW.c,Node.c,aJ.c,dH.c]<;>rfl)) (ih1 (i1+1) true ((b7++([(⟨aV,cr⟩:aK)]))++([bA])) (dn au) h)
   ·obtain⟨h62,h⟩:=bY h;exact(((kH.b h59).w (cN h62)).a [.cn [1,2,10,11,42,43,44] [3]]).cs hΓ bw (uf aB aV cr yY ((b7.map aK.c)++([[D.str bA.var,D.str bA.value]])) (IntKind.i64.wrap ((i1:Int)+1))) (by first| (simp only[iS au hm1,mA]<;>rfl)| (simp only[iS au hm1,mA,aG.c,aK.c,aM.c,Action.c,aN.c,aR.c,az.c,aW.c,Node.c,aJ.c,dH.c]<;>rfl)) (ih1 (i1+1) yY (b7++([bA])) (dn au) h)
  ·obtain⟨h63,h⟩:=bY h;exact((((lV.r 5 h58).F 1).w (cN h63)).a [.cn [1,2,10,11,42,43,44] [3]]).cs hΓ bw (uf aB aV cr yY ((b7.map aK.c)++([[D.str bA.var,D.str bA.value]])) (IntKind.i64.wrap ((i1:Int)+1))) (by first| (simp only[iS au hm1,mA]<;>rfl)| (simp only[iS au hm1,mA,aG.c,aK.c,aM.c,Action.c,aN.c,aR.c,az.c,aW.c,Node.c,aJ.c,dH.c]<;>rfl)) (ih1 (i1+1) yY (b7++([bA])) (dn au) h)
theorem AE{aB:aI}{aV:Bytes}{cr:Bytes}{r:aI×Bool}(h:qN aB aV cr=some r):Good prog 127 [D.sl (aB.map aK.c),D.str aV,D.str cr] (D.ij [D.fr 152 2 (r.1.map aK.c),D.bool r.2]):=by
 refine gd func127 [[some (152,2)],[none]] 76 fun hr Γ hΓ=>?_
 rw[qN]at h;obtain⟨y1,h2,h⟩:=aD h;obtain⟨h3,h⟩|⟨h3,h⟩:=aO h
 ·cases h;exact(((aT.g (lR h2)).r 4 h3).T 5).ret hΓ
 ·obtain⟨y4,h5,h⟩:=aD h;have uB:=((((aT.g (lR h2)).r 2 h3).g (nG h5)).r 2 h3)
  obtain⟨h6,h⟩|⟨h6,h⟩:=aO h
  ·cases h;exact((uB.r 4 h6).T 1).ret hΓ
  ·obtain⟨y7,h8,h⟩:=aD h;have x9:=(((uB.r 2 h6).g (eF h8)).r 2 h6)
   obtain⟨h9,h⟩|⟨h9,h⟩:=aO h
   ·cases h;exact(x9.b h9).ret hΓ
   ·obtain⟨IN,h11,h⟩:=aD h;have Ac:=((x9.b h9).g (qg h11))
    obtain⟨h12,h⟩|⟨h12,h⟩:=aO h
    ·obtain⟨h13,h⟩|⟨h13,h⟩:=aO h
     ·cases h;exact((Ac.b h12).b h13).ret hΓ
     ·obtain⟨y14,h15,h⟩:=aD h;cases h;exact(((Ac.b h12).b h13).g (xM h15)).ret hΓ
    ·obtain⟨h16,h⟩|⟨h16,h⟩:=aO h
     ·cases h;exact((Ac.b h12).b h16).ret hΓ
     ·refine(((Ac.b h12).b h16).a [.P3 10,.cn [1,2,10,11,42,43,44] [0]]).lp hΓ (KH hΓ (fun TV bN h=>?_) (by have:=(e7.sl (hr _ (aC (i:=0) rfl))).1;simpa using this) aB 0 false ([]:aI) rfl h);obtain⟨h64,h⟩|⟨h64,h⟩:=aO h
      ·obtain⟨h65,h⟩:=bY h;cases h;exact((aT.b h64).w (cN h65)).rts hΓ (D.ij [D.fr 152 2 ((bN.map aK.c)++([[D.str aV,D.str cr]])),D.bool true]) (by first|rfl| (simp only[mA]<;>rfl)| (simp only[cY,mA]<;>rfl))
      ·cases h;exact(aT.b h64).ret hΓ
def ir(aB:aG)(aV:aG)(k1:aI->Option (aI×Bool)):aH->Nat->aI->Option (aI×Bool)
 | [],i1,cA=>(k1 cA)
 |bA::bt,i1,cA=>((ed bA).bind fun y80=>(bif y80 then((nF aV.args (i1:Int)).bind fun x83=>(bif !((bA:Bytes)==x83)then(some ([],false))else(ir aB aV k1 bt (i1+1) cA)))else((nF aV.args (i1:Int)).bind fun x86=>((qN cA bA x86).bind fun y88=>(bif !(y88.2)then(some ([],false))else(ir aB aV k1 bt (i1+1) y88.1))))))
def jl(aB:aG)(aV:aG)(cr:aI):Option (aI×Bool):=((iU aB).bind fun y1=>(bif !(y1)then(some ([],false))else((qP aV).bind fun y4=>(bif !(y4)then(some ([],false))else((jk cr).bind fun y7=>(bif !(y7)then(some ([],false))else(bif !((aB.rel:Bytes)==aV.rel)then(some ([],false))else(bif (((aB.args.map tx).length:Int):Int) != ((aV.args.map tx).length:Int)then(some ([],false))else((oU cr).bind fun WC=>(ir aB aV (fun(bN:aI)=>(some (bN,true))) aB.args 0 WC))))))))))
def Gh(aB:aG)(aV:aG)(W0:List aQ)(cZ:Int):St:=⟨[(4,D.ptr 0 0),(8,D.acc 1),(45,D.sl (aB.args.map tx)),(46,D.int .i64 ((aB.args.map tx).length:Int)),(47,D.int .i64 cZ)],[Ob.box (aG.c aV),Ob.row .uq 152 2 W0]⟩
theorem Eo(hΓ:Γ.nt=77){aB:aG}{aV:aG}{r:aI×Bool}{k1:aI->Option (aI×Bool)}(cq:∀(bN:aI),k1 bN=some r->Ax Γ N f239 (.q [[some (152,2)],[none]] (D.ij [D.fr 152 2 (r.1.map aK.c),D.bool r.2])) [1,1,1,1] ⟨[(8,D.acc 0)],[Ob.row .uq 152 2 (bN.map aK.c)]⟩)(hm1:aB.args.length<=maxLen):∀(rest:aH) (i1:Nat) (cA:aI),aB.args.drop i1=rest->ir aB aV k1 rest i1 cA=some r->Ar Γ N f239 (.q [[some (152,2)],[none]] (D.ij [D.fr 152 2 (r.1.map aK.c),D.bool r.2])) [1,1,1,0,1,0] (rest.length+1) (Gh aB aV (cA.map aK.c) (i1:Int)):=by
 intro rest
 induction rest with
 |nil=>
  intro i1 cA au h;rw[ir]at h;refine aP fun N1 cB bw=>?_
  exact((aT.ge tx au).a [.hl 0 [8] [1]]).ex hΓ cB (cq cA h)
 |cons bA bt ih1=>
  intro i1 cA au h;rw[ir]at h;refine aP fun N1 cB bw=>?_
  obtain⟨y80,h81,h⟩:=aD h;have kH:=(((aT.lt tx au).l (b9 tx 1 (dc au) rfl)).g (eF h81))
  obtain⟨h82,h⟩|⟨h82,h⟩:=aO h
  ·obtain⟨x83,h84,h⟩:=aD h;have uB:=((kH.b h82).l (dO tx 1 h84 rfl))
   obtain⟨h85,h⟩|⟨h85,h⟩:=aO h
   ·cases h;exact(uB.b h85).ret hΓ
   ·exact((uB.b h85).a [.cn [4,8,45,46,47] [0,1]]).ct hΓ bw (iS au hm1) (ih1 (i1+1) cA (dn au) h)
  ·obtain⟨x86,h87,h⟩:=aD h;obtain⟨y88,h89,h⟩:=aD h;have x9:=(((kH.b h82).l (dO tx 1 h87 rfl)).g (AE h89))
   obtain⟨h90,h⟩|⟨h90,h⟩:=aO h
   ·cases h;exact(x9.b h90).ret hΓ
   ·exact((x9.b h90).a [.cn [4,8,45,46,47] [0,2]]).ct hΓ bw (iS au hm1) (ih1 (i1+1) y88.1 (dn au) h)
theorem xK{aB:aG}{aV:aG}{cr:aI}{r:aI×Bool}(h:jl aB aV cr=some r):Good prog 239 [D.agg (aG.c aB),D.agg (aG.c aV),D.sl (cr.map aK.c)] (D.ij [D.fr 152 2 (r.1.map aK.c),D.bool r.2]):=by
 refine gd func239 [[some (152,2)],[none]] 77 fun hr Γ hΓ=>?_
 rw[jl]at h;obtain⟨y1,h2,h⟩:=aD h;obtain⟨h3,h⟩|⟨h3,h⟩:=aO h
 ·cases h;exact(((aT.g (jG h2)).r 4 h3).T 19).ret hΓ
 ·obtain⟨y4,h5,h⟩:=aD h;have Ac:=((((aT.g (jG h2)).r 2 h3).g (AF h5)).r 2 h3)
  obtain⟨h6,h⟩|⟨h6,h⟩:=aO h
  ·cases h;exact((Ac.r 4 h6).T 15).ret hΓ
  ·obtain⟨y7,h8,h⟩:=aD h;have IE:=(((Ac.r 2 h6).g (lR h8)).r 2 h6)
   obtain⟨h9,h⟩|⟨h9,h⟩:=aO h
   ·cases h;exact((IE.r 6 h9).T 9).ret hΓ
   ·have Mi:=(IE.r 6 h9)
    obtain⟨h10,h⟩|⟨h10,h⟩:=aO h
    ·cases h;exact((Mi.r 8 h10).T 1).ret hΓ
    ·have CM:=(Mi.r 8 h10)
     obtain⟨h11,h⟩|⟨h11,h⟩:=aO h
     ·cases h;exact(CM.b h11).ret hΓ
     ·obtain⟨WC,h13,h⟩:=aD h;refine(((CM.b h11).g (xM h13)).a [.cn [4,8,45,46,47] [1,2]]).lp hΓ (Eo hΓ (fun bN h=>?_) (by have:=(e7.sl (e7.agg (hr _ (aC (i:=0) rfl)) (.sl (aB.args.map tx)) (by simp))).1;simpa using this) aB.args 0 WC rfl h);cases h;exact aT.ret hΓ
def fQ(aB:aG)(aV:aI)(cr:aX)(k1:aX->Option aX):aX->Nat->aX->Option aX
 | [],i1,cA=>(k1 cA)
 |bA::bt,i1,cA=>((jl aB bA aV).bind fun y42=>(bif y42.2 then((iP bA).bind fun ET=>(bif room ((cA.map aG.c).length+([[D.str ET.rel,D.sl (ET.args.map tx)]]).length) 40 then(fQ aB aV cr k1 bt (i1+1) (cA++([ET])))else none))else(fQ aB aV cr k1 bt (i1+1) cA)))
def gz(aB:aG)(aV:aI)(cr:aX):Option aX:=(fQ aB aV cr (fun(bN:aX)=>(some bN)) cr 0 ([]:aX))
def wF(aB:aG)(aV:aI)(cr:aX)(W0:List aQ)(cZ:Int):St:=⟨[(1,D.sl (aV.map aK.c)),(3,D.ptr 0 0),(7,D.acc 1),(12,D.sl (cr.map aG.c)),(13,D.int .i64 ((cr.map aG.c).length:Int)),(14,D.int .i64 cZ)],[Ob.box (aG.c aB),Ob.row .uq 53 2 W0]⟩
theorem BP(hΓ:Γ.nt=33){aB:aG}{aV:aI}{cr:aX}{r:aX}{k1:aX->Option aX}(cq:∀(bN:aX),k1 bN=some r->Ax Γ N f202 (.q [[some (53,2)]] (D.fr 53 2 (r.map aG.c))) [1,1,1] ⟨[(7,D.acc 0)],[Ob.row .uq 53 2 (bN.map aG.c)]⟩)(hm1:cr.length<=maxLen):∀(rest:aX) (i1:Nat) (cA:aX),cr.drop i1=rest->fQ aB aV cr k1 rest i1 cA=some r->Ar Γ N f202 (.q [[some (53,2)]] (D.fr 53 2 (r.map aG.c))) [1,1,0,1,0] (rest.length+1) (wF aB aV cr (cA.map aG.c) (i1:Int)):=by
 intro rest
 induction rest with
 |nil=>
  intro i1 cA au h;rw[fQ]at h;refine aP fun N1 cB bw=>?_
  exact((aT.ge aG.c au).a [.hl 0 [7] [1]]).ex hΓ cB (cq cA h)
 |cons bA bt ih1=>
  intro i1 cA au h;rw[fQ]at h;refine aP fun N1 cB bw=>?_
  obtain⟨y42,h43,h⟩:=aD h;have dL:=(((aT.lt aG.c au).l (b9 aG.c 2 (dc au) rfl)).g (xK h43))
  obtain⟨h44,h⟩|⟨h44,h⟩:=aO h
  ·obtain⟨ET,h46,h⟩:=aD h;obtain⟨h47,h⟩:=bY h;exact((((dL.b h44).g (uL h46)).w (cN h47)).a [.cn [1,3,7,12,13,14] [0,6]]).cs hΓ bw (wF aB aV cr ((cA.map aG.c)++([[D.str ET.rel,D.sl (ET.args.map tx)]])) (IntKind.i64.wrap ((i1:Int)+1))) (by first| (simp only[iS au hm1,mA]<;>rfl)| (simp only[iS au hm1,mA,aG.c,aK.c,aM.c,Action.c,aN.c,aR.c,az.c,aW.c,Node.c,aJ.c,dH.c]<;>rfl)) (ih1 (i1+1) (cA++([ET])) (dn au) h)
  ·exact((dL.b h44).a [.cn [1,3,7,12,13,14] [0,1]]).ct hΓ bw (iS au hm1) (ih1 (i1+1) cA (dn au) h)
theorem lK{aB:aG}{aV:aI}{cr:aX}{r:aX}(h:gz aB aV cr=some r):Good prog 202 [D.agg (aG.c aB),D.sl (aV.map aK.c),D.sl (cr.map aG.c)] (D.fr 53 2 (r.map aG.c)):=by
 refine gd func202 [[some (53,2)]] 33 fun hr Γ hΓ=>?_
 rw[gz]at h;refine(aT.a [.P3 7,.cn [1,3,7,12,13,14] [0,1]]).lp hΓ (BP hΓ (fun bN h=>?_) (by have:=(e7.sl (hr _ (aC (i:=2) rfl))).1;simpa using this) cr 0 ([]:aX) rfl h);have h:=aE h;subst h;exact aT.ret hΓ
def ld(aB:aJ)(k1:bP->Option ai):Nat->Int->bP->Option ai
 |0,_,_=>none
 |n1+1,ay,cA=>(bif room ((cA.map gQ).length+([[D.int .i64 ay]]).length) 8 then((nF aB.nodes ay).bind fun x19=>(bif decide ((x19.parent:Int)<1)then(k1 (cA++([ay])))else(bif decide ((x19.parent:Int)>=ay)then(k1 (cA++([ay])))else(ld aB k1 n1 x19.parent (cA++([ay]))))))else none)
def jm(aB:aJ)(Af:bP)(k2:ai->Option ai):Nat->Int->ai->Option ai
 |0,_,_=>none
 |n2+1,NJ,Ou=>(bif decide ((NJ:Int)>=0)then((nF Af NJ).bind fun x72=>((nF aB.nodes x72).bind fun x74=>((iO x74.cond).bind fun Xk=>(bif room ((Ou.map aM.c).length+([[D.int .i64 Xk.kind,D.str Xk.pat.rel,D.sl (Xk.pat.args.map tx),D.str Xk.left,D.str Xk.right]]).length) 80 then(jm aB Af k2 n2 (IntKind.i64.wrap (NJ-1)) (Ou++([Xk])))else none))))else(k2 Ou))
def vN(aB:aJ)(aV:Int):Option ai:=(bif decide ((aV:Int)<1)then(some ([]))else(bif decide ((aV:Int)>=((aB.nodes.map Node.c).length:Int))then(some ([]))else(ld aB (fun(Af:bP)=>(jm aB Af (fun(NH:ai)=>(some NH)) fuel (IntKind.i64.wrap (((Af.map gQ).length:Int)-1)) ([]:ai))) fuel aV ([]:bP))))
def Bw(aB:aJ)(ay:Int)(W1:List aQ):St:=⟨[(1,D.int .i64 ay),(2,D.ptr 0 0),(5,D.acc 1)],[Ob.box (aJ.c aB),Ob.row .uq 3 1 W1]⟩
theorem KN(hΓ:Γ.nt=57){aB:aJ}{r:ai}{k1:bP->Option ai}(cq:∀(Af:bP),k1 Af=some r->Ax Γ N f204 (.q [[some (115,5)]] (D.fr 115 5 (r.map aM.c))) [1,1,1,1] ⟨[(2,D.ptr 0 0),(5,D.acc 1)],[Ob.box (aJ.c aB),Ob.row .uq 3 1 (Af.map gQ)]⟩):∀(n1:Nat) (ay:Int) (cA:bP),ld aB k1 n1 ay cA=some r->Ar Γ N f204 (.q [[some (115,5)]] (D.fr 115 5 (r.map aM.c))) [1,1,1,0,0] n1 (Bw aB ay (cA.map gQ)):=by
 intro n
 induction n with
 |zero=>intro ay cA h;simp[ld]at h
 |succ n1 ih1=>
  intro ay cA h;rw[ld]at h;refine aP fun N1 cB bw=>?_
  obtain⟨h18,h⟩:=bY h;obtain⟨x19,h20,h⟩:=aD h;have lV:=((aT.w (cN h18)).l (dO Node.c 8 h20 rfl))
  obtain⟨h21,h⟩|⟨h21,h⟩:=aO h
  ·exact(((lV.r 4 h21).T 1).a [.hl 0 [2,5] [0,3]]).exs hΓ cB ⟨[(2,D.ptr 0 0),(5,D.acc 1)],[Ob.box (aJ.c aB),Ob.row .uq 3 1 ((cA.map gQ)++([[D.int .i64 ay]]))]⟩ (by first| (simp only[mA]<;>rfl)| (simp only[mA,aG.c,aK.c,aM.c,Action.c,aN.c,aR.c,az.c,aW.c,Node.c,aJ.c,dH.c]<;>rfl)) (cq (cA++([ay])) h)
  ·have kH:=(lV.r 4 h21)
   obtain⟨h22,h⟩|⟨h22,h⟩:=aO h
   ·exact((kH.b h22).a [.hl 0 [2,5] [0,3]]).exs hΓ cB ⟨[(2,D.ptr 0 0),(5,D.acc 1)],[Ob.box (aJ.c aB),Ob.row .uq 3 1 ((cA.map gQ)++([[D.int .i64 ay]]))]⟩ (by first| (simp only[mA]<;>rfl)| (simp only[mA,aG.c,aK.c,aM.c,Action.c,aN.c,aR.c,az.c,aW.c,Node.c,aJ.c,dH.c]<;>rfl)) (cq (cA++([ay])) h)
   ·exact((kH.b h22).a [.cn [1,2,5] [0,3]]).cs hΓ bw (Bw aB x19.parent ((cA.map gQ)++([[D.int .i64 ay]]))) (by first| (simp only[mA]<;>rfl)| (simp only[mA,aG.c,aK.c,aM.c,Action.c,aN.c,aR.c,az.c,aW.c,Node.c,aJ.c,dH.c]<;>rfl)) (ih1 x19.parent (cA++([ay])) h)
def Bx(aB:aJ)(Af:bP)(NJ:Int)(W1:List aQ):St:=⟨[(2,D.ptr 0 0),(5,D.acc 1),(7,D.acc 2),(8,D.int .i64 NJ)],[Ob.box (aJ.c aB),Ob.row .uq 3 1 (Af.map gQ),Ob.row .uq 115 5 W1]⟩
theorem KO(hΓ:Γ.nt=57){aB:aJ}{Af:bP}{r:ai}{k2:ai->Option ai}(DV:∀(NH:ai),k2 NH=some r->Ax Γ N f204 (.q [[some (115,5)]] (D.fr 115 5 (r.map aM.c))) [1,1,1,1,1,1] ⟨[(7,D.acc 0)],[Ob.row .uq 115 5 (NH.map aM.c)]⟩):∀(n2:Nat) (NJ:Int) (Ou:ai),jm aB Af k2 n2 NJ Ou=some r->Ar Γ N f204 (.q [[some (115,5)]] (D.fr 115 5 (r.map aM.c))) [1,1,1,1,1,0,1,0] n2 (Bx aB Af NJ (Ou.map aM.c)):=by
 intro n
 induction n with
 |zero=>intro NJ Ou h;simp[jm]at h
 |succ n2 ih2=>
  intro NJ Ou h;rw[jm]at h;refine aP fun N2 xA vY=>?_
  obtain⟨h65,h⟩|⟨h65,h⟩:=aO h
  ·obtain⟨x72,h73,h⟩:=aD h;obtain⟨x74,h75,h⟩:=aD h;obtain⟨Xk,h77,h⟩:=aD h;obtain⟨h78,h⟩:=bY h;exact((((((((aT.b h65).a [.n2 [0,1,2,3,4,5,6,7,8,9,10,11,12,13] [0,1,2,3,4,5,6,7,8,9,10,11,12,13] 11 12 [0] [3]]).i (Qu gQ 1 h73)).o 1 1 .uq (eT gQ (NL h73))).l (dO Node.c 8 h75 rfl)).g (mr h77)).w (cN h78)).a [.cn [2,5,7,8] [0,1,5]]).cs hΓ vY (Bx aB Af (IntKind.i64.wrap (NJ-1)) ((Ou.map aM.c)++([[D.int .i64 Xk.kind,D.str Xk.pat.rel,D.sl (Xk.pat.args.map tx),D.str Xk.left,D.str Xk.right]]))) (by first| (simp only[mA]<;>rfl)| (simp only[mA,aG.c,aK.c,aM.c,Action.c,aN.c,aR.c,az.c,aW.c,Node.c,aJ.c,dH.c]<;>rfl)) (ih2 (IntKind.i64.wrap (NJ-1)) (Ou++([Xk])) h)
  ·exact((aT.b h65).a [.hl 0 [7] [2]]).ex hΓ xA (DV Ou h)
theorem vp{aB:aJ}{aV:Int}{r:ai}(h:vN aB aV=some r):Good prog 204 [D.agg (aJ.c aB),D.int .i64 aV] (D.fr 115 5 (r.map aM.c)):=by
 refine gd func204 [[some (115,5)]] 57 fun hr Γ hΓ=>?_
 rw[vN]at h;obtain⟨h1,h⟩|⟨h1,h⟩:=aO h
 ·cases h;exact((aT.r 6 h1).T 1).ret hΓ
 ·have uB:=(aT.r 6 h1)
  obtain⟨h2,h⟩|⟨h2,h⟩:=aO h
  ·cases h;exact(uB.b h2).ret hΓ
  ·refine((uB.b h2).a [.P3 5,.cn [1,2,5] [0,1]]).lp hΓ (KN hΓ (fun Af h=>?_) fuel aV ([]:bP) h);refine(aT.a [.P3 7,.cn [2,5,7,8] [0,1,2]]).lp hΓ (KO hΓ (fun NH h=>?_) fuel (IntKind.i64.wrap (((Af.map gQ).length:Int)-1)) ([]:ai) h);have h:=aE h;subst h;exact aT.ret hΓ
def vM(aB:aM):Option Bool:=((qO aB).bind fun y1=>(bif y1 then(some (decide ((aB.kind:Int)>=3)))else(some false)))
theorem AG{aB:aM}{r:Bool}(h:vM aB=some r):Good prog 286 [D.agg (aM.c aB)] (D.bool r):=by
 refine gd func286 [[none]] 10 fun hr Γ hΓ=>?_
 rw[vM]at h;obtain⟨y1,h2,h⟩:=aD h;obtain⟨h3,h⟩|⟨h3,h⟩:=aO h
 ·cases h;exact((aT.g (oy h2)).r 4 h3).ret hΓ
 ·have h:=aE h;subst h;exact((aT.g (oy h2)).r 4 h3).ret hΓ
def qu(aB:aM)(aV:aI):Option Bool:=((vM aB).bind fun y1=>(bif !(y1)then(some false)else((jk aV).bind fun y4=>(bif !(y4)then(some false)else((mq aV aB.left).bind fun y7=>((mq aV aB.right).bind fun y9=>(bif !(y7.2)then(some false)else(bif !(y9.2)then(some false)else(bif (aB.kind:Int)==3 then(some ((y7.1:Bytes)==y9.1))else(bif (aB.kind:Int)==4 then(some (!((y7.1:Bytes)==y9.1)))else((lF y7.1).bind fun Xt=>((lF y9.1).bind fun Xh=>(bif Xt.2 then(bif Xh.2 then(some (decide ((Xt.1:Int)<Xh.1)))else(some false))else(some false))))))))))))))
theorem Dh{aB:aM}{aV:aI}{r:Bool}(h:qu aB aV=some r):Good prog 277 [D.agg (aM.c aB),D.sl (aV.map aK.c)] (D.bool r):=by
 refine gd func277 [[none]] 70 fun hr Γ hΓ=>?_
 rw[qu]at h;obtain⟨y1,h2,h⟩:=aD h;obtain⟨h3,h⟩|⟨h3,h⟩:=aO h
 ·have h:=aE h;subst h;exact(((aT.g (AG h2)).r 4 h3).T 1).ret hΓ
 ·obtain⟨y4,h5,h⟩:=aD h;have kX:=((((aT.g (AG h2)).r 2 h3).g (lR h5)).r 2 h3)
  obtain⟨h6,h⟩|⟨h6,h⟩:=aO h
  ·have h:=aE h;subst h;exact(kX.b h6).ret hΓ
  ·obtain⟨y7,h8,h⟩:=aD h;obtain⟨y9,h10,h⟩:=aD h;have dL:=(((kX.b h6).g (qg h8)).g (qg h10))
   obtain⟨h11,h⟩|⟨h11,h⟩:=aO h
   ·have h:=aE h;subst h;exact((dL.r 3 h11).T 1).ret hΓ
   ·have lV:=(dL.r 3 h11)
    obtain⟨h12,h⟩|⟨h12,h⟩:=aO h
    ·have h:=aE h;subst h;exact(lV.b h12).ret hΓ
    ·obtain⟨h13,h⟩|⟨h13,h⟩:=aO h
     ·cases h;exact((lV.b h12).b h13).ret hΓ
     ·have kH:=((lV.b h12).b h13)
      obtain⟨h14,h⟩|⟨h14,h⟩:=aO h
      ·cases h;exact(kH.b h14).ret hΓ
      ·obtain⟨Xt,h16,h⟩:=aD h;obtain⟨Xh,h18,h⟩:=aD h;have uB:=(((kH.b h14).g (pz h16)).g (pz h18))
       obtain⟨h19,h⟩|⟨h19,h⟩:=aO h
       ·have x9:=(uB.r 2 h19)
        obtain⟨h20,h⟩|⟨h20,h⟩:=aO h
        ·cases h;exact(x9.r 4 h20).ret hΓ
        ·have h:=aE h;subst h;exact(x9.r 4 h20).ret hΓ
       ·have h:=aE h;subst h;exact((uB.r 2 h19).F 4).ret hΓ
def qt(aB:aM)(aV:aI)(cr:aX):Option Bool:=((qO aB).bind fun y1=>(bif !(y1)then(some false)else((jk aV).bind fun y4=>(bif !(y4)then(some false)else(bif (aB.kind:Int)==1 then((gz aB.pat aV cr).bind fun y8=>(some (decide ((((y8.map aG.c).length:Int):Int)>0))))else(bif (aB.kind:Int)==2 then((gz aB.pat aV cr).bind fun y11=>(some ((((y11.map aG.c).length:Int):Int)==0)))else((qu aB aV).bind fun u7=>(some u7))))))))
theorem Dg{aB:aM}{aV:aI}{cr:aX}{r:Bool}(h:qt aB aV cr=some r):Good prog 259 [D.agg (aM.c aB),D.sl (aV.map aK.c),D.sl (cr.map aG.c)] (D.bool r):=by
 refine gd func259 [[none]] 38 fun hr Γ hΓ=>?_
 rw[qt]at h;obtain⟨y1,h2,h⟩:=aD h;obtain⟨h3,h⟩|⟨h3,h⟩:=aO h
 ·have h:=aE h;subst h;exact(((aT.g (oy h2)).r 4 h3).T 1).ret hΓ
 ·obtain⟨y4,h5,h⟩:=aD h;have kX:=((((aT.g (oy h2)).r 2 h3).g (lR h5)).r 2 h3)
  obtain⟨h6,h⟩|⟨h6,h⟩:=aO h
  ·have h:=aE h;subst h;exact(kX.b h6).ret hΓ
  ·obtain⟨h7,h⟩|⟨h7,h⟩:=aO h
   ·obtain⟨y8,h9,h⟩:=aD h;cases h;exact(((kX.b h6).b h7).g (lK h9)).ret hΓ
   ·have dL:=((kX.b h6).b h7)
    obtain⟨h10,h⟩|⟨h10,h⟩:=aO h
    ·obtain⟨y11,h12,h⟩:=aD h;cases h;exact((dL.b h10).g (lK h12)).ret hΓ
    ·obtain⟨u7,h14,h⟩:=aD h;have h:=aE h;subst h;exact((dL.b h10).g (Dh h14)).ret hΓ
def jW(aB:ai)(aV:aX)(i2:Nat)(b7:av)(mh:aR)(i1:Nat)(bA:aM)(k3:av->Option av):aX->Nat->av->Option av
 | [],i3,yz=>(k3 yz)
 |Q4::Ow,i3,yz=>((jl bA.pat Q4 mh.bind).bind fun Q5=>(bif Q5.2 then((jr mh.facts).bind fun Q6=>((iP Q4).bind fun Le=>(bif room ((Q6.map aG.c).length+([[D.str Le.rel,D.sl (Le.args.map tx)]]).length) 40 then(bif room ((yz.map aR.c).length+([[D.sl ((Q6.map aG.c)++([[D.str Le.rel,D.sl (Le.args.map tx)]])),D.sl (Q5.1.map aK.c)]]).length) 48 then(jW aB aV i2 b7 mh i1 bA k3 Ow (i3+1) (yz++([(⟨Q6++([Le]),Q5.1⟩:aR)])))else none)else none)))else(jW aB aV i2 b7 mh i1 bA k3 Ow (i3+1) yz)))
def er(aB:ai)(aV:aX)(b7:av)(i1:Nat)(bA:aM)(k2:av->Option av):av->Nat->av->Option av
 | [],i2,dZ=>(k2 dZ)
 |mh::wD,i2,dZ=>(bif (bA.kind:Int) != 1 then((qt bA mh.bind aV).bind fun a3r=>(bif a3r then(bif room ((dZ.map aR.c).length+([[D.sl (mh.facts.map aG.c),D.sl (mh.bind.map aK.c)]]).length) 48 then(er aB aV b7 i1 bA k2 wD (i2+1) (dZ++([mh])))else none)else(er aB aV b7 i1 bA k2 wD (i2+1) dZ)))else(bif decide (aV.length<=maxLen)then(jW aB aV i2 b7 mh i1 bA (fun(XI:av)=>(er aB aV b7 i1 bA k2 wD (i2+1) XI)) aV 0 dZ)else none))
def jV(aB:ai)(aV:aX)(k1:av->Option av):ai->Nat->av->Option av
 | [],i1,b7=>(k1 b7)
 |bA::bt,i1,b7=>(bif decide (b7.length<=maxLen)then(er aB aV b7 i1 bA (fun(NH:av)=>(jV aB aV k1 bt (i1+1) NH)) b7 0 ([]:av))else none)
def sU(aB:ai)(aV:aX):Option av:=(jV aB aV (fun(bN:av)=>(some bN)) aB 0 ([(⟨[],[]⟩:aR)]))
def AK(aB:ai)(aV:aX)(W0:List aQ)(cZ:Int):St:=⟨[(1,D.sl (aV.map aG.c)),(5,D.acc 0),(17,D.sl (aB.map aM.c)),(18,D.int .i64 ((aB.map aM.c).length:Int)),(19,D.int .i64 cZ)],[Ob.row .uq 124 2 W0]⟩
def AL(aB:ai)(aV:aX)(b7:av)(i1:Nat)(bA:aM)(W0:List aQ)(aAH:Nat)(cZ:Int):St:=⟨[(1,D.sl (aV.map aG.c)),(7,D.ptr 0 0),(8,D.acc 1),(17,D.sl (aB.map aM.c)),(18,D.int .i64 ((aB.map aM.c).length:Int)),(19,D.int .i64 (i1:Int)),(23,D.acc 2),(24,D.int .i64 ((b7.map aR.c).length:Int)),(25,D.int .i64 cZ)],[Ob.box [D.int .i64 bA.kind,D.str bA.pat.rel,D.sl (bA.pat.args.map tx),D.str bA.left,D.str bA.right],Ob.row .uq 124 2 W0,Ob.row (.mv aAH) 124 2 (b7.map aR.c)]⟩
def AM(aB:ai)(aV:aX)(i2:Nat)(b7:av)(mh:aR)(i1:Nat)(bA:aM)(W0:List aQ)(cZ:Int):St:=⟨[(1,D.sl (aV.map aG.c)),(7,D.ptr 0 0),(8,D.acc 1),(10,D.ptr 2 0),(17,D.sl (aB.map aM.c)),(18,D.int .i64 ((aB.map aM.c).length:Int)),(19,D.int .i64 (i1:Int)),(23,D.acc 3),(24,D.int .i64 ((b7.map aR.c).length:Int)),(25,D.int .i64 (i2:Int)),(41,D.sl (aV.map aG.c)),(42,D.int .i64 ((aV.map aG.c).length:Int)),(43,D.int .i64 cZ)],[Ob.box [D.int .i64 bA.kind,D.str bA.pat.rel,D.sl (bA.pat.args.map tx),D.str bA.left,D.str bA.right],Ob.row .uq 124 2 W0,Ob.box [D.acc 4,D.acc 5],Ob.row (.mv (i2+1)) 124 2 (b7.map aR.c),Ob.tk (mh.facts.map aG.c),Ob.tk (mh.bind.map aK.c)]⟩
theorem Gv(hΓ:Γ.nt=74){aB:ai}{aV:aX}{i2:Nat}{b7:av}{mh:aR}{i1:Nat}{bA:aM}{r:av}{k3:av->Option av}(Yb:∀(XI:av),k3 XI=some r->Ax Γ N f203 (.q [[some (124,2)]] (D.fr 124 2 (r.map aR.c))) [1,1,0,1,0,0,1,1,0,0,1,1,0,1,0,0,1,1,1] ⟨[(1,D.sl (aV.map aG.c)),(7,D.ptr 0 0),(8,D.acc 1),(17,D.sl (aB.map aM.c)),(18,D.int .i64 ((aB.map aM.c).length:Int)),(19,D.int .i64 (i1:Int)),(23,D.acc 2),(24,D.int .i64 ((b7.map aR.c).length:Int)),(25,D.int .i64 (i2:Int))],[Ob.box [D.int .i64 bA.kind,D.str bA.pat.rel,D.sl (bA.pat.args.map tx),D.str bA.left,D.str bA.right],Ob.row .uq 124 2 (XI.map aR.c),Ob.row (.mv (i2+1)) 124 2 (b7.map aR.c)]⟩)(RZ:aV.length<=maxLen):∀(rest:aX) (i3:Nat) (yz:av),aV.drop i3=rest->jW aB aV i2 b7 mh i1 bA k3 rest i3 yz=some r->Ar Γ N f203 (.q [[some (124,2)]] (D.fr 124 2 (r.map aR.c))) [1,1,0,1,0,0,1,1,0,0,1,1,0,1,0,0,1,1,0,0,1,1,1,0] (rest.length+1) (AM aB aV i2 b7 mh i1 bA (yz.map aR.c) (i3:Int)):=by
 intro rest
 induction rest with
 |nil=>
  intro i3 yz wv h;rw[jW]at h;refine aP fun N3 SK Ny=>?_
  exact((aT.ge aG.c wv).a [.hl 8 [1,7,8,17,18,19,23,24,25] [0,1,3]]).ex hΓ SK (Yb yz h)
 |cons Q4 Ow ih3=>
  intro i3 yz wv h;rw[jW]at h;refine aP fun N3 SK Ny=>?_
  obtain⟨Q5,h3513,h⟩:=aD h;have a7e:=(((aT.lt aG.c wv).l (b9 aG.c 2 (dc wv) rfl)).g (xK h3513))
  obtain⟨h3514,h⟩|⟨h3514,h⟩:=aO h
  ·obtain⟨Q6,h3521,h⟩:=aD h;obtain⟨Le,h3523,h⟩:=aD h;obtain⟨h3524,h⟩:=bY h;obtain⟨h3525,h⟩:=bY h;exact(((((((a7e.b h3514).a [.n2 [0,1,2,3,4,5,8,6,7,9,10,11,12] [0,1,2,3,4,5,7,8,6,9,10,11,12] 7 11 [0,6] [7,8,9,10,11]]).g (tg h3521)).g (uL h3523)).w (cN h3524)).w (cN h3525)).a [.cn [1,7,8,10,17,18,19,23,24,25,41,42,43] [0,13,2,3,4,5]]).cs hΓ Ny (AM aB aV i2 b7 mh i1 bA ((yz.map aR.c)++([[D.sl ((Q6.map aG.c)++([[D.str Le.rel,D.sl (Le.args.map tx)]])),D.sl (Q5.1.map aK.c)]])) (IntKind.i64.wrap ((i3:Int)+1))) (by first| (simp only[iS wv RZ,mA]<;>rfl)| (simp only[iS wv RZ,mA,aG.c,aK.c,aM.c,Action.c,aN.c,aR.c,az.c,aW.c,Node.c,aJ.c,dH.c]<;>rfl)) (ih3 (i3+1) (yz++([(⟨Q6++([Le]),Q5.1⟩:aR)])) (dn wv) h)
  ·exact((a7e.b h3514).a [.cn [1,7,8,10,17,18,19,23,24,25,41,42,43] [0,1,2,3,4,5]]).ct hΓ Ny (iS wv RZ) (ih3 (i3+1) yz (dn wv) h)
theorem Gu(hΓ:Γ.nt=74){aB:ai}{aV:aX}{b7:av}{i1:Nat}{bA:aM}{r:av}{k2:av->Option av}(DV:∀(NH:av),k2 NH=some r->Ax Γ N f203 (.q [[some (124,2)]] (D.fr 124 2 (r.map aR.c))) [1,1,0,1,0,0,1,1,0,0,1,1,1] ⟨[(1,D.sl (aV.map aG.c)),(8,D.acc 0),(17,D.sl (aB.map aM.c)),(18,D.int .i64 ((aB.map aM.c).length:Int)),(19,D.int .i64 (i1:Int))],[Ob.row .uq 124 2 (NH.map aR.c)]⟩)(hm2:b7.length<=maxLen):∀(rest:av) (i2:Nat) (dZ:av),b7.drop i2=rest->er aB aV b7 i1 bA k2 rest i2 dZ=some r->Ar Γ N f203 (.q [[some (124,2)]] (D.fr 124 2 (r.map aR.c))) [1,1,0,1,0,0,1,1,0,0,1,1,0,1,0] (rest.length+1) (AL aB aV b7 i1 bA (dZ.map aR.c) i2 (i2:Int)):=by
 intro rest
 induction rest with
 |nil=>
  intro i2 dZ hd2 h;rw[er]at h;refine aP fun N2 xA vY=>?_
  exact((aT.ge aR.c hd2).a [.hl 5 [1,8,17,18,19] [1]]).ex hΓ xA (DV dZ h)
 |cons mh wD ih2=>
  intro i2 dZ hd2 h;rw[er]at h;refine aP fun N2 xA vY=>?_
  have a7f:=((((aT.lt aR.c hd2).i (oK aR.c 2 (dc hd2))).w (show i2=i2/\(b7.map aR.c)[i2]?=some [D.sl (mh.facts.map aG.c),D.sl (mh.bind.map aK.c)]/\RE [D.sl (mh.facts.map aG.c),D.sl (mh.bind.map aK.c)]=true from⟨rfl,eT aR.c (dc hd2),rfl⟩)).a [.tk [D.sl (mh.facts.map aG.c),D.sl (mh.bind.map aK.c)]])
  obtain⟨h3426,h⟩|⟨h3426,h⟩:=aO h
  ·obtain⟨a3r,h3428,h⟩:=aD h;have a7g:=((a7f.b h3426).g (Dg h3428))
   obtain⟨h3429,h⟩|⟨h3429,h⟩:=aO h
   ·obtain⟨h3430,h⟩:=bY h;exact(((a7g.b h3429).w (cN h3430)).a [.cn [1,7,8,17,18,19,23,24,25] [0,7,2]]).cs hΓ vY (AL aB aV b7 i1 bA ((dZ.map aR.c)++([[D.sl (mh.facts.map aG.c),D.sl (mh.bind.map aK.c)]])) (i2+1) (IntKind.i64.wrap ((i2:Int)+1))) (by first| (simp only[iS hd2 hm2,mA]<;>rfl)| (simp only[iS hd2 hm2,mA,aG.c,aK.c,aM.c,Action.c,aN.c,aR.c,az.c,aW.c,Node.c,aJ.c,dH.c]<;>rfl)) (ih2 (i2+1) (dZ++([mh])) (dn hd2) h)
   ·exact((a7g.b h3429).a [.cn [1,7,8,17,18,19,23,24,25] [0,1,2]]).ct hΓ vY (iS hd2 hm2) (ih2 (i2+1) dZ (dn hd2) h)
  ·obtain⟨h3526,h⟩:=bY h;refine((a7f.b h3426).a [.cn [1,7,8,10,17,18,19,23,24,25,41,42,43] [0,1,5,2,3,4]]).lp hΓ (Gv hΓ (fun XI h=>?_) (bp h3526) aV 0 dZ rfl h);exact(aT.a [.cn [1,7,8,17,18,19,23,24,25] [0,1,2]]).ct hΓ vY (iS hd2 hm2) (ih2 (i2+1) XI (dn hd2) h)
theorem Gt(hΓ:Γ.nt=74){aB:ai}{aV:aX}{r:av}{k1:av->Option av}(cq:∀(bN:av),k1 bN=some r->Ax Γ N f203 (.q [[some (124,2)]] (D.fr 124 2 (r.map aR.c))) [1,1,1] ⟨[(5,D.acc 0)],[Ob.row .uq 124 2 (bN.map aR.c)]⟩)(hm1:aB.length<=maxLen):∀(rest:ai) (i1:Nat) (b7:av),aB.drop i1=rest->jV aB aV k1 rest i1 b7=some r->Ar Γ N f203 (.q [[some (124,2)]] (D.fr 124 2 (r.map aR.c))) [1,1,0,1,0] (rest.length+1) (AK aB aV (b7.map aR.c) (i1:Int)):=by
 intro rest
 induction rest with
 |nil=>
  intro i1 b7 au h;rw[jV]at h;refine aP fun N1 cB bw=>?_
  exact((aT.ge aM.c au).a [.hl 0 [5] [0]]).ex hΓ cB (cq b7 h)
 |cons bA bt ih1=>
  intro i1 b7 au h;rw[jV]at h;refine aP fun N1 cB bw=>?_
  obtain⟨h3527,h⟩:=bY h;refine(((aT.lt aM.c au).l (b9 aM.c 5 (dc au) rfl)).a [.P3 8,.mz 0,.cn [1,7,8,17,18,19,23,24,25] [1,2,0]]).lp hΓ (Gu hΓ (fun NH h=>?_) (bp h3527) b7 0 ([]:av) rfl h);exact(aT.a [.cn [1,5,17,18,19] [0]]).ct hΓ bw (iS au hm1) (ih1 (i1+1) NH (dn au) h)
theorem F4{aB:ai}{aV:aX}{r:av}(h:sU aB aV=some r):Good prog 203 [D.sl (aB.map aM.c),D.sl (aV.map aG.c)] (D.fr 124 2 (r.map aR.c)):=by
 refine gd func203 [[some (124,2)]] 74 fun hr Γ hΓ=>?_
 rw[sU]at h;refine(aT.a [.cn [1,5,17,18,19] [0]]).UP hΓ (AK aB aV ([[D.sl ([]),D.sl ([])]]) 0) (by first| (simp only[mA]<;>rfl)| (simp only[mA,aG.c,aK.c,aM.c,Action.c,aN.c,aR.c,az.c,aW.c,Node.c,aJ.c,dH.c]<;>rfl)) (Gt hΓ (fun bN h=>?_) (by have:=(e7.sl (hr _ (aC (i:=0) rfl))).1;simpa using this) aB 0 ([(⟨[],[]⟩:aR)]) rfl h);have h:=aE h;subst h;exact aT.ret hΓ
def eV(aB:aJ)(aV:aX)(y1:aX)(k1:bK->Option (aJ×Unit)):bK->Nat->bK->Option (aJ×Unit)
 | [],i1,gR=>(k1 gR)
 |bA::bt,i1,gR=>(bif decide (i1<(gR.map aW.c).length)then(((gR)[i1]?).bind fun x35=>((gz x35.shape ([]) aV).bind fun RU=>(bif decide (i1<(gR.map aW.c).length)then(eV aB aV y1 k1 bt (i1+1) (gR.set i1 (⟨x35.shape,RU⟩:aW)))else none)))else none)
def dW(aB:aJ)(aV:aX)(y1:aX)(nB:bK)(k2:Option (aJ×Unit)):bE->Nat->bE->Option (aJ×Unit)
 | [],i2,oG=>(some ((⟨aB.rules,aB.ends,nB,oG,y1,aB.dB⟩:aJ),()))
 |mh::wD,i2,oG=>((vN (⟨aB.rules,aB.ends,nB,oG,y1,aB.dB⟩:aJ) (i2:Int)).bind fun a2b=>((sU a2b aV).bind fun V9=>(bif decide (i2<(oG.map Node.c).length)then(((oG)[i2]?).bind fun x107=>(dW aB aV y1 nB k2 wD (i2+1) (oG.set i2 (⟨x107.parent,x107.cond,x107.gK,V9⟩:Node))))else none)))
def kK(aB:aJ)(aV:aX):Option (aJ×Unit):=((jr aV).bind fun y1=>(bif decide (aB.bJ.length<=maxLen)then(eV aB aV y1 (fun(nB:bK)=>(bif decide (aB.nodes.length<=maxLen)then(dW aB aV y1 nB none aB.nodes 0 aB.nodes)else none)) aB.bJ 0 aB.bJ)else none))
def uw(eM:Value)(aB:aJ)(aV:aX)(y1:aX)(W0:List aQ)(cZ:Int):St:=⟨[(0,D.ptr 0 0),(1,D.sl (aV.map aG.c)),(15,D.int .i64 ((aB.bJ.map aW.c).length:Int)),(16,D.int .i64 cZ)],[Ob.NF [D.acc 1,D.acc 2,D.acc 3,D.acc 4,D.acc 5,D.int .i64 aB.dB] eM,Ob.row .uq 105 4 (aB.rules.map aN.c),Ob.row .uq 3 1 (aB.ends.map gQ),Ob.row .uq 111 3 W0,Ob.row .uq 118 8 (aB.nodes.map Node.c),Ob.row .uq 53 2 (y1.map aG.c)]⟩
theorem AB(hΓ:Γ.nt=60){eM:Value}{aB:aJ}{aV:aX}{y1:aX}{r:aJ×Unit}{k1:bK->Option (aJ×Unit)}(cq:∀(nB:bK),k1 nB=some r->Ax Γ N f135 (.p [[some (105,4),some (3,1),some (111,3),some (118,8),some (53,2),none]] eM (cY r.1) (D.ij [])) [1,1] ⟨[(0,D.ptr 0 0),(1,D.sl (aV.map aG.c))],[Ob.NF [D.acc 1,D.acc 2,D.acc 3,D.acc 4,D.acc 5,D.int .i64 aB.dB] eM,Ob.row .uq 105 4 (aB.rules.map aN.c),Ob.row .uq 3 1 (aB.ends.map gQ),Ob.row .uq 111 3 (nB.map aW.c),Ob.row .uq 118 8 (aB.nodes.map Node.c),Ob.row .uq 53 2 (y1.map aG.c)]⟩)(hm1:aB.bJ.length<=maxLen):∀(rest:bK) (i1:Nat) (gR:bK),aB.bJ.drop i1=rest->eV aB aV y1 k1 rest i1 gR=some r->Ar Γ N f135 (.p [[some (105,4),some (3,1),some (111,3),some (118,8),some (53,2),none]] eM (cY r.1) (D.ij [])) [1,0,1,0] (rest.length+1) (uw eM aB aV y1 (gR.map aW.c) (i1:Int)):=by
 intro rest
 induction rest with
 |nil=>
  intro i1 gR au h;rw[eV]at h;refine aP fun N1 cB bw=>?_
  exact((aT.ge aW.c au).a [.hl 0 [0,1] [0,1,2,3,4,5]]).ex hΓ cB (cq gR h)
 |cons bA bt ih1=>
  intro i1 gR au h;rw[eV]at h;refine aP fun N1 cB bw=>?_
  obtain⟨h34,h⟩:=bY h;obtain⟨x35,h36,h⟩:=aD h;obtain⟨RU,h38,h⟩:=aD h;obtain⟨h39,h⟩:=bY h;exact(((((((((aT.lt aW.c au).a [.n 15]).i (xp 3 h34)).o 3 2 .uq (eT aW.c h36)).a [.d (D.fr 53 2 (RU.map aG.c))]).w (show Good prog 202 [D.agg (aG.c x35.shape),D.sl ([]),D.sl (aV.map aG.c)] (D.fr 53 2 (RU.map aG.c))from by first| (simpa only[bu,bD,bZ,kF,jK]using lK h38)|exact lK h38)).i (xp 3 h39)).w (show(gR.map aW.c)[i1]?=some [D.str x35.shape.rel,D.sl (x35.shape.args.map tx),D.sl (x35.facts.map aG.c)]from eT aW.c h36)).a [.row [D.str x35.shape.rel,D.sl (x35.shape.args.map tx),D.sl (x35.facts.map aG.c)],.cn [0,1,15,16] [0,1,2,3,4,5]]).cs hΓ bw (uw eM aB aV y1 ((gR.map aW.c).set i1 [D.str x35.shape.rel,D.sl (x35.shape.args.map tx),D.sl (RU.map aG.c)]) (IntKind.i64.wrap ((i1:Int)+1))) (by first| (simp only[iS au hm1,mA]<;>rfl)| (simp only[iS au hm1,mA,aG.c,aK.c,aM.c,Action.c,aN.c,aR.c,az.c,aW.c,Node.c,aJ.c,dH.c]<;>rfl)) (ih1 (i1+1) (gR.set i1 (⟨x35.shape,RU⟩:aW)) (dn au) h)
def ux(eM:Value)(aB:aJ)(aV:aX)(y1:aX)(nB:bK)(W0:List aQ)(cZ:Int):St:=⟨[(0,D.ptr 0 0),(1,D.sl (aV.map aG.c)),(41,D.int .i64 ((aB.nodes.map Node.c).length:Int)),(42,D.int .i64 cZ)],[Ob.NF [D.acc 1,D.acc 2,D.acc 3,D.acc 4,D.acc 5,D.int .i64 aB.dB] eM,Ob.row .uq 105 4 (aB.rules.map aN.c),Ob.row .uq 3 1 (aB.ends.map gQ),Ob.row .uq 111 3 (nB.map aW.c),Ob.row .uq 118 8 W0,Ob.row .uq 53 2 (y1.map aG.c)]⟩
theorem AD(hΓ:Γ.nt=60){eM:Value}{aB:aJ}{aV:aX}{y1:aX}{nB:bK}{r:aJ×Unit}{k2:Option (aJ×Unit)}(DV:k2=some r->Ax Γ N f135 (.p [[some (105,4),some (3,1),some (111,3),some (118,8),some (53,2),none]] eM (cY r.1) (D.ij [])) [1,1,1,0,0] ⟨[],[]⟩)(hm2:aB.nodes.length<=maxLen):∀(rest:bE) (i2:Nat) (oG:bE),aB.nodes.drop i2=rest->dW aB aV y1 nB k2 rest i2 oG=some r->Ar Γ N f135 (.p [[some (105,4),some (3,1),some (111,3),some (118,8),some (53,2),none]] eM (cY r.1) (D.ij [])) [1,1,1,0] (rest.length+1) (ux eM aB aV y1 nB (oG.map Node.c) (i2:Int)):=by
 intro rest
 induction rest with
 |nil=>
  intro i2 oG hd2 h;rw[dW]at h;refine aP fun N2 xA vY=>?_
  cases h;exact(aT.ge Node.c hd2).ret hΓ
 |cons mh wD ih2=>
  intro i2 oG hd2 h;rw[dW]at h;refine aP fun N2 xA vY=>?_
  obtain⟨a2b,h103,h⟩:=aD h;obtain⟨V9,h105,h⟩:=aD h;obtain⟨h106,h⟩:=bY h;obtain⟨x107,h108,h⟩:=aD h;exact(((((((aT.lt Node.c hd2).a [.n2 [0,1,2,3,4,5,6,7,8,9,10,11,12,13,14] [0,1,2,3,4,5,6,7,8,9,10,11,12,13,14] 11 12 [0,1,2,3,4] [],.d (D.fr 115 5 (a2b.map aM.c))]).w (show Good prog 204 [D.agg [D.sl (aB.rules.map aN.c),D.sl (aB.ends.map gQ),D.sl (nB.map aW.c),D.sl (oG.map Node.c),D.sl (y1.map aG.c),D.int .i64 aB.dB],D.int .i64 (i2:Int)] (D.fr 115 5 (a2b.map aM.c))from by first| (simpa only[bu,bD,bZ,kF,jK]using vp h103)|exact vp h103| (have t:=vp h103;simp only[bu,kF,jK,aJ.c]at t;exact t))).g (F4 h105)).i (xp 8 h106)).w (show(oG.map Node.c)[i2]?=some [D.int .i64 x107.parent,D.int .i64 x107.cond.kind,D.str x107.cond.pat.rel,D.sl (x107.cond.pat.args.map tx),D.str x107.cond.left,D.str x107.cond.right,D.int .i64 x107.gK,D.sl (x107.tokens.map aR.c)]from eT Node.c h108)).a [.row [D.int .i64 x107.parent,D.int .i64 x107.cond.kind,D.str x107.cond.pat.rel,D.sl (x107.cond.pat.args.map tx),D.str x107.cond.left,D.str x107.cond.right,D.int .i64 x107.gK,D.sl (x107.tokens.map aR.c)],.cn [0,1,41,42] [0,1,2,3,4,5]]).cs hΓ vY (ux eM aB aV y1 nB ((oG.map Node.c).set i2 [D.int .i64 x107.parent,D.int .i64 x107.cond.kind,D.str x107.cond.pat.rel,D.sl (x107.cond.pat.args.map tx),D.str x107.cond.left,D.str x107.cond.right,D.int .i64 x107.gK,D.sl (V9.map aR.c)]) (IntKind.i64.wrap ((i2:Int)+1))) (by first| (simp only[iS hd2 hm2,mA]<;>rfl)| (simp only[iS hd2 hm2,mA,aG.c,aK.c,aM.c,Action.c,aN.c,aR.c,az.c,aW.c,Node.c,aJ.c,dH.c]<;>rfl)) (ih2 (i2+1) (oG.set i2 (⟨x107.parent,x107.cond,x107.gK,V9⟩:Node)) (dn hd2) h)
theorem zb{aB:aJ}{aV:aX}{r:aJ×Unit}(h:kK aB aV=some r):zx prog 135 (cY aB) (cY r.1) [D.sl (aV.map aG.c)] (D.ij []):=by
 refine gdP func135 [[some (105,4),some (3,1),some (111,3),some (118,8),some (53,2),none]] 60 [D.acc 1,D.acc 2,D.acc 3,D.acc 4,D.acc 5,D.int .i64 aB.dB] [D.sl (aV.map aG.c)] [Ob.row .uq 105 4 (aB.rules.map aN.c),Ob.row .uq 3 1 (aB.ends.map gQ),Ob.row .uq 111 3 (aB.bJ.map aW.c),Ob.row .uq 118 8 (aB.nodes.map Node.c),Ob.row .uq 53 2 (aB.facts.map aG.c)] fun hr eM Γ hΓ=>?_
 rw[kK]at h;obtain⟨y1,h2,h⟩:=aD h;obtain⟨h110,h⟩:=bY h;refine((aT.g (tg h2)).a [.cn [0,1,15,16] [0,1,2,3,4,6]]).lp hΓ (AB hΓ (fun nB h=>?_) (bp h110) aB.bJ 0 aB.bJ rfl h);obtain⟨h109,h⟩:=bY h;refine(aT.a [.cn [0,1,41,42] [0,1,2,3,4,5]]).lp hΓ (AD hΓ (fun h=>?_) (bp h109) aB.nodes 0 aB.nodes rfl h);cases h
def wY(aB:aq)(aV:aX)(cr:Int):Option aJ:=((rB aB).bind fun y1=>((kK y1 aV).bind fun y3=>(some (⟨y3.1.rules,y3.1.ends,y3.1.bJ,y3.1.nodes,y3.1.facts,cr⟩:aJ))))
theorem KR{aB:aq}{aV:aX}{cr:Int}{r:aJ}(h:wY aB aV cr=some r):Good prog 78 [D.sl (aB.map aN.c),D.sl (aV.map aG.c),D.int .i64 cr] (D.agg [D.fr 105 4 (r.rules.map aN.c),D.fr 3 1 (r.ends.map gQ),D.fr 111 3 (r.bJ.map aW.c),D.fr 118 8 (r.nodes.map Node.c),D.fr 53 2 (r.facts.map aG.c),D.int .i64 r.dB]):=by
 refine gd func78 [[some (105,4),some (3,1),some (111,3),some (118,8),some (53,2),none]] 15 fun hr Γ hΓ=>?_
 rw[wY]at h;obtain⟨y1,h2,h⟩:=aD h;obtain⟨y3,h4,h⟩:=aD h;cases h;exact((aT.g (Dv h2)).hp [[some (105,4),some (3,1),some (111,3),some (118,8),some (53,2),none],[none]] (zb h4)).ret hΓ
def jS(aB:aN)(aV:aN)(k1:Option Bool):ai->Nat->Option Bool
 | [],i1=>(k1)
 |bA::bt,i1=>((nF aV.conds (i1:Int)).bind fun x33=>((jM bA x33).bind fun y35=>(bif !(y35)then(some false)else(jS aB aV k1 bt (i1+1)))))
def hG(aB:aN)(aV:aN)(k2:Option Bool):c8->Nat->Option Bool
 | [],i2=>(k2)
 |mh::wD,i2=>((nF aV.ck (i2:Int)).bind fun x70=>(bif (mh.kind:Int) != x70.kind then(some false)else((eg mh.pat x70.pat).bind fun P6=>(bif !(P6)then(some false)else(hG aB aV k2 wD (i2+1))))))
def pQ(aB:aN)(aV:aN):Option Bool:=(bif !((aB.name:Bytes)==aV.name)then(some false)else(bif (aB.prio:Int) != aV.prio then(some false)else(bif (((aB.conds.map aM.c).length:Int):Int) != ((aV.conds.map aM.c).length:Int)then(some false)else(bif (((aB.ck.map Action.c).length:Int):Int) != ((aV.ck.map Action.c).length:Int)then(some false)else(jS aB aV (hG aB aV (some true) aB.ck 0) aB.conds 0)))))
def Ic(aB:aN)(aV:aN)(cZ:Int):St:=⟨[(2,D.ptr 0 0),(3,D.ptr 1 0),(39,D.int .i64 ((aB.conds.map aM.c).length:Int)),(40,D.int .i64 cZ)],[Ob.box (aN.c aB),Ob.box (aN.c aV)]⟩
theorem Gj(hΓ:Γ.nt=92){aB:aN}{aV:aN}{r:Bool}{k1:Option Bool}(cq:k1=some r->Ax Γ N f230 (.q [[none]] (D.bool r)) [1,1,1] ⟨[(2,D.ptr 0 0),(3,D.ptr 1 0)],[Ob.box (aN.c aB),Ob.box (aN.c aV)]⟩)(hm1:aB.conds.length<=maxLen):∀(rest:ai) (i1:Nat),aB.conds.drop i1=rest->jS aB aV k1 rest i1=some r->Ar Γ N f230 (.q [[none]] (D.bool r)) [1,1,0,1,0] (rest.length+1) (Ic aB aV (i1:Int)):=by
 intro rest
 induction rest with
 |nil=>
  intro i1 au h;rw[jS]at h;refine aP fun N1 cB bw=>?_
  exact((aT.ge aM.c au).a [.hl 0 [2,3] [0,1]]).ex hΓ cB (cq h)
 |cons bA bt ih1=>
  intro i1 au h;rw[jS]at h;refine aP fun N1 cB bw=>?_
  obtain⟨x33,h34,h⟩:=aD h;obtain⟨y35,h36,h⟩:=aD h;have kH:=(((((aT.lt aM.c au).a [.n 10]).l (b9 aM.c 5 (dc au) rfl)).l (dO aM.c 5 h34 rfl)).g (uK h36))
  obtain⟨h37,h⟩|⟨h37,h⟩:=aO h
  ·have h:=aE h;subst h;exact(kH.b h37).ret hΓ
  ·exact((kH.b h37).a [.cn [2,3,39,40] [0,1]]).ct hΓ bw (iS au hm1) (ih1 (i1+1) (dn au) h)
def Ie(aB:aN)(aV:aN)(cZ:Int):St:=⟨[(2,D.ptr 0 0),(3,D.ptr 1 0),(58,D.int .i64 ((aB.ck.map Action.c).length:Int)),(59,D.int .i64 cZ)],[Ob.box (aN.c aB),Ob.box (aN.c aV)]⟩
theorem Gk(hΓ:Γ.nt=92){aB:aN}{aV:aN}{r:Bool}{k2:Option Bool}(DV:k2=some r->Ax Γ N f230 (.q [[none]] (D.bool r)) [1,1,1,1] ⟨[],[]⟩)(hm2:aB.ck.length<=maxLen):∀(rest:c8) (i2:Nat),aB.ck.drop i2=rest->hG aB aV k2 rest i2=some r->Ar Γ N f230 (.q [[none]] (D.bool r)) [1,1,1,0,1,0] (rest.length+1) (Ie aB aV (i2:Int)):=by
 intro rest
 induction rest with
 |nil=>
  intro i2 hd2 h;rw[hG]at h;refine aP fun N2 xA vY=>?_
  exact((aT.ge Action.c hd2).a [.hl 0 [] []]).ex hΓ xA (DV h)
 |cons mh wD ih2=>
  intro i2 hd2 h;rw[hG]at h;refine aP fun N2 xA vY=>?_
  obtain⟨x70,h71,h⟩:=aD h;have uB:=((((aT.lt Action.c hd2).a [.n 26]).l (b9 Action.c 3 (dc hd2) rfl)).l (dO Action.c 3 h71 rfl))
  obtain⟨h72,h⟩|⟨h72,h⟩:=aO h
  ·have h:=aE h;subst h;exact((uB.r 15 h72).T 1).ret hΓ
  ·obtain⟨P6,h74,h⟩:=aD h;have x9:=(((((((uB.r 4 h72).l (b9 Action.c 3 (dc hd2) rfl)).r 6 h72).l (dO Action.c 3 h71 rfl)).r 3 h72).g (nI h74)).r 2 h72)
   obtain⟨h75,h⟩|⟨h75,h⟩:=aO h
   ·have h:=aE h;subst h;exact(x9.b h75).ret hΓ
   ·exact((x9.b h75).a [.cn [2,3,58,59] [0,1]]).ct hΓ vY (iS hd2 hm2) (ih2 (i2+1) (dn hd2) h)
theorem Er{aB:aN}{aV:aN}{r:Bool}(h:pQ aB aV=some r):Good prog 230 [D.agg (aN.c aB),D.agg (aN.c aV)] (D.bool r):=by
 refine gd func230 [[none]] 92 fun hr Γ hΓ=>?_
 rw[pQ]at h;obtain⟨h1,h⟩|⟨h1,h⟩:=aO h
 ·have h:=aE h;subst h;exact((aT.r 6 h1).T 17).ret hΓ
 ·have Ac:=(aT.r 6 h1)
  obtain⟨h2,h⟩|⟨h2,h⟩:=aO h
  ·have h:=aE h;subst h;exact((Ac.r 8 h2).T 9).ret hΓ
  ·have IE:=(Ac.r 8 h2)
   obtain⟨h3,h⟩|⟨h3,h⟩:=aO h
   ·have h:=aE h;subst h;exact((IE.r 8 h3).T 1).ret hΓ
   ·have Mi:=(IE.r 8 h3)
    obtain⟨h4,h⟩|⟨h4,h⟩:=aO h
    ·have h:=aE h;subst h;exact(Mi.b h4).ret hΓ
    ·refine((Mi.b h4).a [.cn [2,3,39,40] [0,1]]).lp hΓ (Gj hΓ (fun h=>?_) (by have:=(e7.sl (e7.agg (hr _ (aC (i:=0) rfl)) (.sl (aB.conds.map aM.c)) (by simp))).1;simpa using this) aB.conds 0 rfl h);refine(aT.a [.cn [2,3,58,59] [0,1]]).lp hΓ (Gk hΓ (fun h=>?_) (by have:=(e7.sl (e7.agg (hr _ (aC (i:=0) rfl)) (.sl (aB.ck.map Action.c)) (by simp))).1;simpa using this) aB.ck 0 rfl h);have h:=aE h;subst h;exact aT.ret hΓ
def kx(aB:aq)(aV:aq)(k1:Option Bool):aq->Nat->Option Bool
 | [],i1=>(k1)
 |bA::bt,i1=>((nF aV (i1:Int)).bind fun x30=>((pQ bA x30).bind fun ya=>(bif !(ya)then(some false)else(kx aB aV k1 bt (i1+1)))))
def rA(aB:aq)(aV:aq):Option Bool:=(bif (((aB.map aN.c).length:Int):Int) != ((aV.map aN.c).length:Int)then(some false)else(kx aB aV (some true) aB 0))
def Gq(aB:aq)(aV:aq)(cZ:Int):St:=⟨[(0,D.sl (aB.map aN.c)),(1,D.sl (aV.map aN.c)),(12,D.int .i64 ((aB.map aN.c).length:Int)),(13,D.int .i64 cZ)],[]⟩
theorem Ez(hΓ:Γ.nt=27){aB:aq}{aV:aq}{r:Bool}{k1:Option Bool}(cq:k1=some r->Ax Γ N f156 (.q [[none]] (D.bool r)) [1,1,1] ⟨[],[]⟩)(hm1:aB.length<=maxLen):∀(rest:aq) (i1:Nat),aB.drop i1=rest->kx aB aV k1 rest i1=some r->Ar Γ N f156 (.q [[none]] (D.bool r)) [1,1,0,1,0] (rest.length+1) (Gq aB aV (i1:Int)):=by
 intro rest
 induction rest with
 |nil=>
  intro i1 au h;rw[kx]at h;refine aP fun N1 cB bw=>?_
  exact((aT.ge aN.c au).a [.hl 0 [] []]).ex hΓ cB (cq h)
 |cons bA bt ih1=>
  intro i1 au h;rw[kx]at h;refine aP fun N1 cB bw=>?_
  obtain⟨x30,h31,h⟩:=aD h;obtain⟨ya,h33,h⟩:=aD h;have dL:=(((((aT.lt aN.c au).a [.n 8]).l (b9 aN.c 4 (dc au) rfl)).l (dO aN.c 4 h31 rfl)).g (Er h33))
  obtain⟨h34,h⟩|⟨h34,h⟩:=aO h
  ·have h:=aE h;subst h;exact(dL.b h34).ret hΓ
  ·exact((dL.b h34).a [.cn [0,1,12,13] []]).ct hΓ bw (iS au hm1) (ih1 (i1+1) (dn au) h)
theorem xN{aB:aq}{aV:aq}{r:Bool}(h:rA aB aV=some r):Good prog 156 [D.sl (aB.map aN.c),D.sl (aV.map aN.c)] (D.bool r):=by
 refine gd func156 [[none]] 27 fun hr Γ hΓ=>?_
 rw[rA]at h;obtain⟨h1,h⟩|⟨h1,h⟩:=aO h
 ·have h:=aE h;subst h;exact(aT.b h1).ret hΓ
 ·refine((aT.b h1).a [.cn [0,1,12,13] []]).lp hΓ (Ez hΓ (fun h=>?_) (by have:=(e7.sl (hr _ (aC (i:=0) rfl))).1;simpa using this) aB 0 rfl h);have h:=aE h;subst h;exact aT.ret hΓ
def lm(aB:bP)(aV:bP)(k1:Option Bool):bP->Nat->Option Bool
 | [],i1=>(k1)
 |bA::bt,i1=>((nF aV (i1:Int)).bind fun x22=>(bif (bA:Int) != x22 then(some false)else(lm aB aV k1 bt (i1+1))))
def sS(aB:bP)(aV:bP):Option Bool:=(bif (((aB.map gQ).length:Int):Int) != ((aV.map gQ).length:Int)then(some false)else(lm aB aV (some true) aB 0))
def Ij(aB:bP)(aV:bP)(cZ:Int):St:=⟨[(0,D.sl (aB.map gQ)),(1,D.sl (aV.map gQ)),(12,D.int .i64 ((aB.map gQ).length:Int)),(13,D.int .i64 cZ)],[]⟩
theorem Gn(hΓ:Γ.nt=26){aB:bP}{aV:bP}{r:Bool}{k1:Option Bool}(cq:k1=some r->Ax Γ N f157 (.q [[none]] (D.bool r)) [1,1,1] ⟨[],[]⟩)(hm1:aB.length<=maxLen):∀(rest:bP) (i1:Nat),aB.drop i1=rest->lm aB aV k1 rest i1=some r->Ar Γ N f157 (.q [[none]] (D.bool r)) [1,1,0,1,0] (rest.length+1) (Ij aB aV (i1:Int)):=by
 intro rest
 induction rest with
 |nil=>
  intro i1 au h;rw[lm]at h;refine aP fun N1 cB bw=>?_
  exact((aT.ge gQ au).a [.hl 0 [] []]).ex hΓ cB (cq h)
 |cons bA bt ih1=>
  intro i1 au h;rw[lm]at h;refine aP fun N1 cB bw=>?_
  obtain⟨x22,h23,h⟩:=aD h;have dL:=((((aT.lt gQ au).a [.n 8]).l (b9 gQ 1 (dc au) rfl)).l (dO gQ 1 h23 rfl))
  obtain⟨h24,h⟩|⟨h24,h⟩:=aO h
  ·have h:=aE h;subst h;exact(dL.b h24).ret hΓ
  ·exact((dL.b h24).a [.cn [0,1,12,13] []]).ct hΓ bw (iS au hm1) (ih1 (i1+1) (dn au) h)
theorem Ex{aB:bP}{aV:bP}{r:Bool}(h:sS aB aV=some r):Good prog 157 [D.sl (aB.map gQ),D.sl (aV.map gQ)] (D.bool r):=by
 refine gd func157 [[none]] 26 fun hr Γ hΓ=>?_
 rw[sS]at h;obtain⟨h1,h⟩|⟨h1,h⟩:=aO h
 ·have h:=aE h;subst h;exact(aT.b h1).ret hΓ
 ·refine((aT.b h1).a [.cn [0,1,12,13] []]).lp hΓ (Gn hΓ (fun h=>?_) (by have:=(e7.sl (hr _ (aC (i:=0) rfl))).1;simpa using this) aB 0 rfl h);have h:=aE h;subst h;exact aT.ret hΓ
def pT(aB:aG)(aV:aG):Option Bool:=(bif (aB.rel:Bytes)==aV.rel then((oW aB.args aV.args).bind fun y2=>(some y2))else(some false))
theorem Ew{aB:aG}{aV:aG}{r:Bool}(h:pT aB aV=some r):Good prog 231 [D.agg (aG.c aB),D.agg (aG.c aV)] (D.bool r):=by
 refine gd func231 [[none]] 17 fun hr Γ hΓ=>?_
 rw[pT]at h;obtain⟨h1,h⟩|⟨h1,h⟩:=aO h
 ·obtain⟨y2,h3,h⟩:=aD h;have h:=aE h;subst h;exact(((aT.r 5 h1).g (xO h3)).b h1).ret hΓ
 ·have h:=aE h;subst h;exact(aT.r 6 h1).ret hΓ
def kp(aB:aX)(aV:aX)(k1:Option Bool):aX->Nat->Option Bool
 | [],i1=>(k1)
 |bA::bt,i1=>((nF aV (i1:Int)).bind fun x30=>((pT bA x30).bind fun ya=>(bif !(ya)then(some false)else(kp aB aV k1 bt (i1+1)))))
def iW(aB:aX)(aV:aX):Option Bool:=(bif (((aB.map aG.c).length:Int):Int) != ((aV.map aG.c).length:Int)then(some false)else(kp aB aV (some true) aB 0))
def Gi(aB:aX)(aV:aX)(cZ:Int):St:=⟨[(0,D.sl (aB.map aG.c)),(1,D.sl (aV.map aG.c)),(12,D.int .i64 ((aB.map aG.c).length:Int)),(13,D.int .i64 cZ)],[]⟩
theorem Ep(hΓ:Γ.nt=27){aB:aX}{aV:aX}{r:Bool}{k1:Option Bool}(cq:k1=some r->Ax Γ N f158 (.q [[none]] (D.bool r)) [1,1,1] ⟨[],[]⟩)(hm1:aB.length<=maxLen):∀(rest:aX) (i1:Nat),aB.drop i1=rest->kp aB aV k1 rest i1=some r->Ar Γ N f158 (.q [[none]] (D.bool r)) [1,1,0,1,0] (rest.length+1) (Gi aB aV (i1:Int)):=by
 intro rest
 induction rest with
 |nil=>
  intro i1 au h;rw[kp]at h;refine aP fun N1 cB bw=>?_
  exact((aT.ge aG.c au).a [.hl 0 [] []]).ex hΓ cB (cq h)
 |cons bA bt ih1=>
  intro i1 au h;rw[kp]at h;refine aP fun N1 cB bw=>?_
  obtain⟨x30,h31,h⟩:=aD h;obtain⟨ya,h33,h⟩:=aD h;have dL:=(((((aT.lt aG.c au).a [.n 8]).l (b9 aG.c 2 (dc au) rfl)).l (dO aG.c 2 h31 rfl)).g (Ew h33))
  obtain⟨h34,h⟩|⟨h34,h⟩:=aO h
  ·have h:=aE h;subst h;exact(dL.b h34).ret hΓ
  ·exact((dL.b h34).a [.cn [0,1,12,13] []]).ct hΓ bw (iS au hm1) (ih1 (i1+1) (dn au) h)
theorem td{aB:aX}{aV:aX}{r:Bool}(h:iW aB aV=some r):Good prog 158 [D.sl (aB.map aG.c),D.sl (aV.map aG.c)] (D.bool r):=by
 refine gd func158 [[none]] 27 fun hr Γ hΓ=>?_
 rw[iW]at h;obtain⟨h1,h⟩|⟨h1,h⟩:=aO h
 ·have h:=aE h;subst h;exact(aT.b h1).ret hΓ
 ·refine((aT.b h1).a [.cn [0,1,12,13] []]).lp hΓ (Ep hΓ (fun h=>?_) (by have:=(e7.sl (hr _ (aC (i:=0) rfl))).1;simpa using this) aB 0 rfl h);have h:=aE h;subst h;exact aT.ret hΓ
def iv(aB:aI)(aV:aI)(k1:Option Bool):aI->Nat->Option Bool
 | [],i1=>(k1)
 |bA::bt,i1=>((nF aV (i1:Int)).bind fun x22=>(bif !((bA.var:Bytes)==x22.var&&(bA.value:Bytes)==x22.value)then(some false)else(iv aB aV k1 bt (i1+1))))
def oV(aB:aI)(aV:aI):Option Bool:=(bif (((aB.map aK.c).length:Int):Int) != ((aV.map aK.c).length:Int)then(some false)else(iv aB aV (some true) aB 0))
def Gp(aB:aI)(aV:aI)(cZ:Int):St:=⟨[(0,D.sl (aB.map aK.c)),(1,D.sl (aV.map aK.c)),(12,D.int .i64 ((aB.map aK.c).length:Int)),(13,D.int .i64 cZ)],[]⟩
theorem Ey(hΓ:Γ.nt=26){aB:aI}{aV:aI}{r:Bool}{k1:Option Bool}(cq:k1=some r->Ax Γ N f233 (.q [[none]] (D.bool r)) [1,1,1] ⟨[],[]⟩)(hm1:aB.length<=maxLen):∀(rest:aI) (i1:Nat),aB.drop i1=rest->iv aB aV k1 rest i1=some r->Ar Γ N f233 (.q [[none]] (D.bool r)) [1,1,0,1,0] (rest.length+1) (Gp aB aV (i1:Int)):=by
 intro rest
 induction rest with
 |nil=>
  intro i1 au h;rw[iv]at h;refine aP fun N1 cB bw=>?_
  exact((aT.ge aK.c au).a [.hl 0 [] []]).ex hΓ cB (cq h)
 |cons bA bt ih1=>
  intro i1 au h;rw[iv]at h;refine aP fun N1 cB bw=>?_
  obtain⟨x22,h23,h⟩:=aD h;have dL:=((((aT.lt aK.c au).a [.n 8]).l (b9 aK.c 2 (dc au) rfl)).l (dO aK.c 2 h23 rfl))
  obtain⟨h24,h⟩|⟨h24,h⟩:=aO h
  ·have h:=aE h;subst h;exact(dL.b h24).ret hΓ
  ·exact((dL.b h24).a [.cn [0,1,12,13] []]).ct hΓ bw (iS au hm1) (ih1 (i1+1) (dn au) h)
theorem Dt{aB:aI}{aV:aI}{r:Bool}(h:oV aB aV=some r):Good prog 233 [D.sl (aB.map aK.c),D.sl (aV.map aK.c)] (D.bool r):=by
 refine gd func233 [[none]] 26 fun hr Γ hΓ=>?_
 rw[oV]at h;obtain⟨h1,h⟩|⟨h1,h⟩:=aO h
 ·have h:=aE h;subst h;exact(aT.b h1).ret hΓ
 ·refine((aT.b h1).a [.cn [0,1,12,13] []]).lp hΓ (Ey hΓ (fun h=>?_) (by have:=(e7.sl (hr _ (aC (i:=0) rfl))).1;simpa using this) aB 0 rfl h);have h:=aE h;subst h;exact aT.ret hΓ
def hY(aB:av)(aV:av)(k1:Option Bool):av->Nat->Option Bool
 | [],i1=>(k1)
 |bA::bt,i1=>((nF aV (i1:Int)).bind fun x42=>((iW bA.facts x42.facts).bind fun y44=>(bif !(y44)then(some false)else((oV bA.bind x42.bind).bind fun y47=>(bif !(y47)then(some false)else(hY aB aV k1 bt (i1+1)))))))
def nK(aB:av)(aV:av):Option Bool:=(bif (((aB.map aR.c).length:Int):Int) != ((aV.map aR.c).length:Int)then(some false)else(hY aB aV (some true) aB 0))
def F1(aB:av)(aV:av)(cZ:Int):St:=⟨[(0,D.sl (aB.map aR.c)),(1,D.sl (aV.map aR.c)),(12,D.int .i64 ((aB.map aR.c).length:Int)),(13,D.int .i64 cZ)],[]⟩
theorem Du(hΓ:Γ.nt=43){aB:av}{aV:av}{r:Bool}{k1:Option Bool}(cq:k1=some r->Ax Γ N f161 (.q [[none]] (D.bool r)) [1,1,1] ⟨[],[]⟩)(hm1:aB.length<=maxLen):∀(rest:av) (i1:Nat),aB.drop i1=rest->hY aB aV k1 rest i1=some r->Ar Γ N f161 (.q [[none]] (D.bool r)) [1,1,0,1,0] (rest.length+1) (F1 aB aV (i1:Int)):=by
 intro rest
 induction rest with
 |nil=>
  intro i1 au h;rw[hY]at h;refine aP fun N1 cB bw=>?_
  exact((aT.ge aR.c au).a [.hl 0 [] []]).ex hΓ cB (cq h)
 |cons bA bt ih1=>
  intro i1 au h;rw[hY]at h;refine aP fun N1 cB bw=>?_
  obtain⟨x42,h43,h⟩:=aD h;obtain⟨y44,h45,h⟩:=aD h;have lV:=(((((aT.lt aR.c au).a [.n 23]).l (b9 aR.c 2 (dc au) rfl)).l (dO aR.c 2 h43 rfl)).g (td h45))
  obtain⟨h46,h⟩|⟨h46,h⟩:=aO h
  ·have h:=aE h;subst h;exact((lV.r 13 h46).T 1).ret hΓ
  ·obtain⟨y47,h48,h⟩:=aD h;have kH:=(((((((lV.r 3 h46).l (b9 aR.c 2 (dc au) rfl)).r 5 h46).l (dO aR.c 2 h43 rfl)).r 3 h46).g (Dt h48)).r 2 h46)
   obtain⟨h49,h⟩|⟨h49,h⟩:=aO h
   ·have h:=aE h;subst h;exact(kH.b h49).ret hΓ
   ·exact((kH.b h49).a [.cn [0,1,12,13] []]).ct hΓ bw (iS au hm1) (ih1 (i1+1) (dn au) h)
theorem Cu{aB:av}{aV:av}{r:Bool}(h:nK aB aV=some r):Good prog 161 [D.sl (aB.map aR.c),D.sl (aV.map aR.c)] (D.bool r):=by
 refine gd func161 [[none]] 43 fun hr Γ hΓ=>?_
 rw[nK]at h;obtain⟨h1,h⟩|⟨h1,h⟩:=aO h
 ·have h:=aE h;subst h;exact(aT.b h1).ret hΓ
 ·refine((aT.b h1).a [.cn [0,1,12,13] []]).lp hΓ (Du hΓ (fun h=>?_) (by have:=(e7.sl (hr _ (aC (i:=0) rfl))).1;simpa using this) aB 0 rfl h);have h:=aE h;subst h;exact aT.ret hΓ
def fw(aB:aJ)(aV:aJ)(k1:Option Bool):bK->Nat->Option Bool
 | [],i1=>(k1)
 |bA::bt,i1=>((nF aV.bJ (i1:Int)).bind fun x52=>((eg bA.shape x52.shape).bind fun NK=>(bif !(NK)then(some false)else((iW bA.facts x52.facts).bind fun y57=>(bif !(y57)then(some false)else(fw aB aV k1 bt (i1+1)))))))
def fy(aB:aJ)(aV:aJ)(k2:Option Bool):bE->Nat->Option Bool
 | [],i2=>(k2)
 |mh::wD,i2=>((nF aV.nodes (i2:Int)).bind fun x108=>(bif (mh.parent:Int) != x108.parent then(some false)else(bif (mh.gK:Int) != x108.gK then(some false)else((jM mh.cond x108.cond).bind fun a8F=>(bif !(a8F)then(some false)else((nK mh.tokens x108.tokens).bind fun a8G=>(bif !(a8G)then(some false)else(fy aB aV k2 wD (i2+1)))))))))
def o8(aB:aJ)(aV:aJ):Option Bool:=((rA aB.rules aV.rules).bind fun y1=>(bif !(y1)then(some false)else((sS aB.ends aV.ends).bind fun y4=>(bif !(y4)then(some false)else((iW aB.facts aV.facts).bind fun y7=>(bif !(y7)then(some false)else(bif (((aB.bJ.map aW.c).length:Int):Int) != ((aV.bJ.map aW.c).length:Int)then(some false)else(bif (((aB.nodes.map Node.c).length:Int):Int) != ((aV.nodes.map Node.c).length:Int)then(some false)else(fw aB aV (fy aB aV (some true) aB.nodes 0) aB.bJ 0)))))))))
def Cl(aB:aJ)(aV:aJ)(cZ:Int):St:=⟨[(2,D.ptr 0 0),(3,D.ptr 1 0),(51,D.int .i64 ((aB.bJ.map aW.c).length:Int)),(52,D.int .i64 cZ)],[Ob.box (aJ.c aB),Ob.box (aJ.c aV)]⟩
theorem By(hΓ:Γ.nt=131){aB:aJ}{aV:aJ}{r:Bool}{k1:Option Bool}(cq:k1=some r->Ax Γ N f91 (.q [[none]] (D.bool r)) [1,1,1] ⟨[(2,D.ptr 0 0),(3,D.ptr 1 0)],[Ob.box (aJ.c aB),Ob.box (aJ.c aV)]⟩)(hm1:aB.bJ.length<=maxLen):∀(rest:bK) (i1:Nat),aB.bJ.drop i1=rest->fw aB aV k1 rest i1=some r->Ar Γ N f91 (.q [[none]] (D.bool r)) [1,1,0,1,0] (rest.length+1) (Cl aB aV (i1:Int)):=by
 intro rest
 induction rest with
 |nil=>
  intro i1 au h;rw[fw]at h;refine aP fun N1 cB bw=>?_
  exact((aT.ge aW.c au).a [.hl 0 [2,3] [0,1]]).ex hΓ cB (cq h)
 |cons bA bt ih1=>
  intro i1 au h;rw[fw]at h;refine aP fun N1 cB bw=>?_
  obtain⟨x52,h53,h⟩:=aD h;obtain⟨NK,h55,h⟩:=aD h;have Ac:=(((((aT.lt aW.c au).a [.n 27]).l (b9 aW.c 3 (dc au) rfl)).l (dO aW.c 3 h53 rfl)).g (nI h55))
  obtain⟨h56,h⟩|⟨h56,h⟩:=aO h
  ·have h:=aE h;subst h;exact((Ac.r 15 h56).T 1).ret hΓ
  ·obtain⟨y57,h58,h⟩:=aD h;have IE:=(((((((Ac.r 4 h56).l (b9 aW.c 3 (dc au) rfl)).r 6 h56).l (dO aW.c 3 h53 rfl)).r 3 h56).g (td h58)).r 2 h56)
   obtain⟨h59,h⟩|⟨h59,h⟩:=aO h
   ·have h:=aE h;subst h;exact(IE.b h59).ret hΓ
   ·exact((IE.b h59).a [.cn [2,3,51,52] [0,1]]).ct hΓ bw (iS au hm1) (ih1 (i1+1) (dn au) h)
def Cm(aB:aJ)(aV:aJ)(cZ:Int):St:=⟨[(2,D.ptr 0 0),(3,D.ptr 1 0),(88,D.int .i64 ((aB.nodes.map Node.c).length:Int)),(89,D.int .i64 cZ)],[Ob.box (aJ.c aB),Ob.box (aJ.c aV)]⟩
theorem Bz(hΓ:Γ.nt=131){aB:aJ}{aV:aJ}{r:Bool}{k2:Option Bool}(DV:k2=some r->Ax Γ N f91 (.q [[none]] (D.bool r)) [1,1,1,1] ⟨[],[]⟩)(hm2:aB.nodes.length<=maxLen):∀(rest:bE) (i2:Nat),aB.nodes.drop i2=rest->fy aB aV k2 rest i2=some r->Ar Γ N f91 (.q [[none]] (D.bool r)) [1,1,1,0,1,0] (rest.length+1) (Cm aB aV (i2:Int)):=by
 intro rest
 induction rest with
 |nil=>
  intro i2 hd2 h;rw[fy]at h;refine aP fun N2 xA vY=>?_
  exact((aT.ge Node.c hd2).a [.hl 0 [] []]).ex hΓ xA (DV h)
 |cons mh wD ih2=>
  intro i2 hd2 h;rw[fy]at h;refine aP fun N2 xA vY=>?_
  obtain⟨x108,h109,h⟩:=aD h;have Mi:=((((aT.lt Node.c hd2).a [.n 13]).l (b9 Node.c 8 (dc hd2) rfl)).l (dO Node.c 8 h109 rfl))
  obtain⟨h110,h⟩|⟨h110,h⟩:=aO h
  ·have h:=aE h;subst h;exact((Mi.r 6 h110).T 15).ret hΓ
  ·have CM:=(Mi.r 6 h110)
   obtain⟨h111,h⟩|⟨h111,h⟩:=aO h
   ·have h:=aE h;subst h;exact((CM.r 7 h111).T 8).ret hΓ
   ·obtain⟨a8F,h113,h⟩:=aD h;have LK:=(((CM.r 5 h111).g (uK h113)).r 2 h111)
    obtain⟨h114,h⟩|⟨h114,h⟩:=aO h
    ·have h:=aE h;subst h;exact((LK.r 7 h114).T 1).ret hΓ
    ·obtain⟨a8G,h116,h⟩:=aD h;have ER:=(((LK.r 5 h114).g (Cu h116)).r 2 h114)
     obtain⟨h117,h⟩|⟨h117,h⟩:=aO h
     ·have h:=aE h;subst h;exact(ER.b h117).ret hΓ
     ·exact((ER.b h117).a [.cn [2,3,88,89] [0,1]]).ct hΓ vY (iS hd2 hm2) (ih2 (i2+1) (dn hd2) h)
theorem BQ{aB:aJ}{aV:aJ}{r:Bool}(h:o8 aB aV=some r):Good prog 91 [D.agg (aJ.c aB),D.agg (aJ.c aV)] (D.bool r):=by
 refine gd func91 [[none]] 131 fun hr Γ hΓ=>?_
 rw[o8]at h;obtain⟨y1,h2,h⟩:=aD h;obtain⟨h3,h⟩|⟨h3,h⟩:=aO h
 ·have h:=aE h;subst h;exact(((aT.g (xN h2)).r 7 h3).T 24).ret hΓ
 ·obtain⟨y4,h5,h⟩:=aD h;have LL:=((((aT.g (xN h2)).r 5 h3).g (Ex h5)).r 2 h3)
  obtain⟨h6,h⟩|⟨h6,h⟩:=aO h
  ·have h:=aE h;subst h;exact((LL.r 7 h6).T 17).ret hΓ
  ·obtain⟨y7,h8,h⟩:=aD h;have OU:=(((LL.r 5 h6).g (td h8)).r 2 h6)
   obtain⟨h9,h⟩|⟨h9,h⟩:=aO h
   ·have h:=aE h;subst h;exact((OU.r 8 h9).T 9).ret hΓ
   ·have Zi:=(OU.r 8 h9)
    obtain⟨h10,h⟩|⟨h10,h⟩:=aO h
    ·have h:=aE h;subst h;exact((Zi.r 8 h10).T 1).ret hΓ
    ·have Zj:=(Zi.r 8 h10)
     obtain⟨h11,h⟩|⟨h11,h⟩:=aO h
     ·have h:=aE h;subst h;exact(Zj.b h11).ret hΓ
     ·refine((Zj.b h11).a [.cn [2,3,51,52] [0,1]]).lp hΓ (By hΓ (fun h=>?_) (by have:=(e7.sl (e7.agg (hr _ (aC (i:=0) rfl)) (.sl (aB.bJ.map aW.c)) (by simp))).1;simpa using this) aB.bJ 0 rfl h);refine(aT.a [.cn [2,3,88,89] [0,1]]).lp hΓ (Bz hΓ (fun h=>?_) (by have:=(e7.sl (e7.agg (hr _ (aC (i:=0) rfl)) (.sl (aB.nodes.map Node.c)) (by simp))).1;simpa using this) aB.nodes 0 rfl h);have h:=aE h;subst h;exact aT.ret hΓ
def qv(aB:aJ):Option Bool:=((sP aB.rules).bind fun y1=>(bif y1 then((sO aB.facts).bind fun y4=>(bif y4 then(bif decide ((aB.dB:Int)>=0)then((wY aB.rules aB.facts 0).bind fun y8=>((o8 aB y8).bind fun IN=>(some IN)))else(some false))else(some false)))else(some false)))
theorem xJ{aB:aJ}{r:Bool}(h:qv aB=some r):Good prog 39 [D.agg (aJ.c aB)] (D.bool r):=by
 refine gd func39 [[none]] 25 fun hr Γ hΓ=>?_
 rw[qv]at h;obtain⟨y1,h2,h⟩:=aD h;have kX:=((aT.a [.n 20]).g (Ei h2))
 obtain⟨h3,h⟩|⟨h3,h⟩:=aO h
 ·obtain⟨y4,h5,h⟩:=aD h;have dL:=(((kX.r 3 h3).g (Eh h5)).b h3)
  obtain⟨h6,h⟩|⟨h6,h⟩:=aO h
  ·have lV:=(dL.r 4 h6)
   obtain⟨h7,h⟩|⟨h7,h⟩:=aO h
   ·obtain⟨y8,h9,h⟩:=aD h;obtain⟨IN,h11,h⟩:=aD h;have h:=aE h;subst h;exact(((((lV.r 6 h7).g (KR h9)).b h7).g (BQ h11)).b h7).ret hΓ
   ·have h:=aE h;subst h;exact(lV.r 8 h7).ret hΓ
  ·have h:=aE h;subst h;exact((dL.r 4 h6).F 8).ret hΓ
 ·have h:=aE h;subst h;exact((kX.r 4 h3).F 12).ret hΓ
def kB(aB:aI)(aV:aI)(k1:aI->Option aI):aI->Nat->aI->Option aI
 | [],i1,b7=>(k1 b7)
 |bA::bt,i1,b7=>((n9 aB bA.value).bind fun RU=>(bif RU.2 then((ug b7 bA.var RU.1).bind fun y40=>(kB aB aV k1 bt (i1+1) y40))else(kB aB aV k1 bt (i1+1) b7)))
def vX(aB:aI)(aV:aI):Option aI:=(kB aB aV (fun(bN:aI)=>(some bN)) aV 0 ([]:aI))
def M8(aB:aI)(aV:aI)(W0:List aQ)(cZ:Int):St:=⟨[(0,D.sl (aB.map aK.c)),(1,D.sl (aV.map aK.c)),(5,D.acc 0),(6,D.int .i64 cZ)],[Ob.row .uq 152 2 W0]⟩
theorem Kw(hΓ:Γ.nt=36){aB:aI}{aV:aI}{r:aI}{k1:aI->Option aI}(cq:∀(bN:aI),k1 bN=some r->Ax Γ N f94 (.q [[some (152,2)]] (D.fr 152 2 (r.map aK.c))) [1,1,1] ⟨[(5,D.acc 0)],[Ob.row .uq 152 2 (bN.map aK.c)]⟩)(hm1:aV.length<=maxLen):∀(rest:aI) (i1:Nat) (b7:aI),aV.drop i1=rest->kB aB aV k1 rest i1 b7=some r->Ar Γ N f94 (.q [[some (152,2)]] (D.fr 152 2 (r.map aK.c))) [1,1,0,1,0] (rest.length+1) (M8 aB aV (b7.map aK.c) (i1:Int)):=by
 intro rest
 induction rest with
 |nil=>
  intro i1 b7 au h;rw[kB]at h;refine aP fun N1 cB bw=>?_
  exact((aT.ge aK.c au).a [.hl 0 [5] [0]]).ex hΓ cB (cq b7 h)
 |cons bA bt ih1=>
  intro i1 b7 au h;rw[kB]at h;refine aP fun N1 cB bw=>?_
  obtain⟨RU,h38,h⟩:=aD h;have dL:=(((aT.lt aK.c au).l (b9 aK.c 2 (dc au) rfl)).g (qj h38))
  obtain⟨h39,h⟩|⟨h39,h⟩:=aO h
  ·obtain⟨y40,h41,h⟩:=aD h;exact((((dL.b h39).l (b9 aK.c 2 (dc au) rfl)).g (BB h41)).a [.cn [0,1,5,6] [1]]).ct hΓ bw (iS au hm1) (ih1 (i1+1) y40 (dn au) h)
  ·exact((dL.b h39).a [.cn [0,1,5,6] [0]]).ct hΓ bw (iS au hm1) (ih1 (i1+1) b7 (dn au) h)
theorem Jd{aB:aI}{aV:aI}{r:aI}(h:vX aB aV=some r):Good prog 94 [D.sl (aB.map aK.c),D.sl (aV.map aK.c)] (D.fr 152 2 (r.map aK.c)):=by
 refine gd func94 [[some (152,2)]] 36 fun hr Γ hΓ=>?_
 rw[vX]at h;refine(aT.a [.cn [0,1,5,6] [0]]).lp hΓ (Kw hΓ (fun bN h=>?_) (by have:=(e7.sl (hr _ (aC (i:=1) rfl))).1;simpa using this) aV 0 ([]:aI) rfl h);have h:=aE h;subst h;exact aT.ret hΓ
def fG(aB:aJ)(i1:Nat)(bA:aN)(Oz:aI)(x496:Node)(k2:bq->Option bq):av->Nat->bq->Option bq
 | [],i2,dZ=>(k2 dZ)
 |mh::wD,i2,dZ=>((lH mh.facts).bind fun TU=>((vX mh.bind Oz).bind fun a0o=>(bif room ((dZ.map az.c).length+([[D.str bA.name,D.sl (TU.map aG.c),D.sl (a0o.map aK.c)]]).length) 64 then(fG aB i1 bA Oz x496 k2 wD (i2+1) (dZ++([(⟨bA.name,TU,a0o⟩:az)])))else none)))
def eN(aB:aJ)(k1:bq->Option bq):aq->Nat->bq->Option bq
 | [],i1,cA=>(k1 cA)
 |bA::bt,i1,cA=>((om aB).bind fun a8N=>(bif a8N then((nh bA).bind fun Oz=>((nF aB.ends (i1:Int)).bind fun x494=>((nF aB.nodes x494).bind fun x496=>(bif decide (x496.tokens.length<=maxLen)then(fG aB i1 bA Oz x496 (fun(qd:bq)=>(eN aB k1 bt (i1+1) qd)) x496.tokens 0 cA)else none))))else(k1 cA)))
def mN(aB:aJ):Option bq:=(eN aB (fun(bN:bq)=>(some bN)) aB.rules 0 ([]:bq))
def EA(aB:aJ)(W0:List aQ)(cZ:Int):St:=⟨[(1,D.ptr 0 0),(3,D.acc 1),(4,D.int .i64 cZ)],[Ob.box (aJ.c aB),Ob.row .uq 91 3 W0]⟩
def xU(aB:aJ)(i1:Nat)(Oz:aI)(x496:Node)(W0:List aQ)(cZ:Int):St:=⟨[(1,D.ptr 0 0),(3,D.acc 1),(4,D.int .i64 (i1:Int)),(5,D.acc 2),(6,D.sl (x496.tokens.map aR.c)),(7,D.int .i64 cZ)],[Ob.box (aJ.c aB),Ob.row .uq 91 3 W0,Ob.row .uq 152 2 (Oz.map aK.c)]⟩
theorem D4(hΓ:Γ.nt=66){aB:aJ}{i1:Nat}{bA:aN}{Oz:aI}{x496:Node}{r:bq}{k2:bq->Option bq}(DV:∀(qd:bq),k2 qd=some r->Ax Γ N f40 (.q [[some (91,3)]] (D.fr 91 3 (r.map az.c))) [1,1,0,1,0,0,1,1] ⟨[(1,D.ptr 0 0),(3,D.acc 1),(4,D.int .i64 (i1:Int))],[Ob.box (aJ.c aB),Ob.row .uq 91 3 (qd.map az.c)]⟩)(hx1:(aB.rules)[i1]?=some bA)(hm2:x496.tokens.length<=maxLen):∀(rest:av) (i2:Nat) (dZ:bq),x496.tokens.drop i2=rest->fG aB i1 bA Oz x496 k2 rest i2 dZ=some r->Ar Γ N f40 (.q [[some (91,3)]] (D.fr 91 3 (r.map az.c))) [1,1,0,1,0,0,1,0,0,1,1,1,0] (rest.length+1) (xU aB i1 Oz x496 (dZ.map az.c) (i2:Int)):=by
 intro rest
 induction rest with
 |nil=>
  intro i2 dZ hd2 h;rw[fG]at h;refine aP fun N2 xA vY=>?_
  exact((aT.ge aR.c hd2).a [.hl 3 [1,3,4] [0,1]]).ex hΓ xA (DV dZ h)
 |cons mh wD ih2=>
  intro i2 dZ hd2 h;rw[fG]at h;refine aP fun N2 xA vY=>?_
  obtain⟨TU,h565,h⟩:=aD h;obtain⟨a0o,h567,h⟩:=aD h;obtain⟨h568,h⟩:=bY h;exact(((((((((aT.lt aR.c hd2).a [.n2 [0,1,2,3,4,5,6,7,8,9,10,11,12,13,14,15,16,17,18,19,20,21,22,23] [0,1,2,3,4,5,6,7,8,9,10,11,12,13,14,15,16,17,18,19,20,21,22,23] 21 22 [0] [3,4]]).l (b9 aN.c 4 hx1 rfl)).l (b9 aR.c 2 (dc hd2) rfl)).g (uZ h565)).l (b9 aR.c 2 (dc hd2) rfl)).g (Jd h567)).w (cN h568)).a [.cn [1,3,4,5,6,7] [0,6,2]]).cs hΓ vY (xU aB i1 Oz x496 ((dZ.map az.c)++([[D.str bA.name,D.sl (TU.map aG.c),D.sl (a0o.map aK.c)]])) (IntKind.i64.wrap ((i2:Int)+1))) (by first| (simp only[iS hd2 hm2,mA]<;>rfl)| (simp only[iS hd2 hm2,mA,aG.c,aK.c,aM.c,Action.c,aN.c,aR.c,az.c,aW.c,Node.c,aJ.c,dH.c]<;>rfl)) (ih2 (i2+1) (dZ++([(⟨bA.name,TU,a0o⟩:az)])) (dn hd2) h)
theorem D3(hΓ:Γ.nt=66){aB:aJ}{r:bq}{k1:bq->Option bq}(cq:∀(bN:bq),k1 bN=some r->Ax Γ N f40 (.q [[some (91,3)]] (D.fr 91 3 (r.map az.c))) [1,1,1] ⟨[(3,D.acc 0)],[Ob.row .uq 91 3 (bN.map az.c)]⟩)(hm1:aB.rules.length<=maxLen):∀(rest:aq) (i1:Nat) (cA:bq),aB.rules.drop i1=rest->eN aB k1 rest i1 cA=some r->Ar Γ N f40 (.q [[some (91,3)]] (D.fr 91 3 (r.map az.c))) [1,1,0,1,0] (rest.length+1) (EA aB (cA.map az.c) (i1:Int)):=by
 intro rest
 induction rest with
 |nil=>
  intro i1 cA au h;rw[eN]at h;refine aP fun N1 cB bw=>?_
  exact(((((aT.ge aN.c au).ge aN.c au).ge aN.c au).F 1).a [.hl 0 [3] [1]]).ex hΓ cB (cq cA h)
 |cons bA bt ih1=>
  intro i1 cA au h;rw[eN]at h;refine aP fun N1 cB bw=>?_
  obtain⟨a8N,h490,h⟩:=aD h;have dL:=((((aT.lt aN.c au).lt aN.c au).g (EE h490)).lt aN.c au)
  obtain⟨h491,h⟩|⟨h491,h⟩:=aO h
  ·obtain⟨Oz,h493,h⟩:=aD h;obtain⟨x494,h495,h⟩:=aD h;obtain⟨x496,h497,h⟩:=aD h;obtain⟨h569,h⟩:=bY h;refine(((((((dL.b h491).l (b9 aN.c 4 (dc au) rfl)).g (wq h493)).a [.n 7]).l (dO gQ 1 h495 rfl)).l (dO Node.c 8 h497 rfl)).a [.cn [1,3,4,5,6,7] [0,1,2]]).lp hΓ (D4 hΓ (fun qd h=>?_) ((drop_cons au).1) (bp h569) x496.tokens 0 cA rfl h);exact(aT.a [.cn [1,3,4] [0,1]]).ct hΓ bw (iS au hm1) (ih1 (i1+1) qd (dn au) h)
  ·exact((dL.b h491).a [.hl 0 [3] [1]]).ex hΓ cB (cq cA h)
theorem C6{aB:aJ}{r:bq}(h:mN aB=some r):Good prog 40 [D.agg (aJ.c aB)] (D.fr 91 3 (r.map az.c)):=by
 refine gd func40 [[some (91,3)]] 66 fun hr Γ hΓ=>?_
 rw[mN]at h;refine(aT.a [.cn [1,3,4] [0,1]]).lp hΓ (D3 hΓ (fun bN h=>?_) (by have:=(e7.sl (e7.agg (hr _ (aC (i:=0) rfl)) (.sl (aB.rules.map aN.c)) (by simp))).1;simpa using this) aB.rules 0 ([]:bq) rfl h);have h:=aE h;subst h;exact aT.ret hΓ
def fC(aB:aJ)(dZ:bq)(i2:Nat)(mh:aR)(i1:Nat)(bA:aN)(rz:aI)(x1486:Node)(Al:aX)(k3:aI->Option bq):aI->Nat->aI->Option bq
 | [],i3,Ov=>(k3 Ov)
 |Q4::Ow,i3,Ov=>((mq mh.bind Q4.value).bind fun a0i=>(bif a0i.2 then((qN Ov Q4.var a0i.1).bind fun a0j=>(fC aB dZ i2 mh i1 bA rz x1486 Al k3 Ow (i3+1) a0j.1))else(fC aB dZ i2 mh i1 bA rz x1486 Al k3 Ow (i3+1) Ov)))
def fB(aB:aJ)(i1:Nat)(bA:aN)(rz:aI)(x1486:Node)(k2:bq->Option bq):av->Nat->bq->Option bq
 | [],i2,dZ=>(k2 dZ)
 |mh::wD,i2,dZ=>((jr mh.facts).bind fun Al=>(bif decide (rz.length<=maxLen)then(fC aB dZ i2 mh i1 bA rz x1486 Al (fun(Sz:aI)=>(bif room ((dZ.map az.c).length+([[D.str bA.name,D.sl (Al.map aG.c),D.sl (Sz.map aK.c)]]).length) 64 then(fB aB i1 bA rz x1486 k2 wD (i2+1) (dZ++([(⟨bA.name,Al,Sz⟩:az)])))else none)) rz 0 ([]:aI))else none))
def fA(aB:aJ)(k1:bq->Option bq):aq->Nat->bq->Option bq
 | [],i1,cA=>(k1 cA)
 |bA::bt,i1,cA=>((nH bA).bind fun rz=>((nF aB.ends (i1:Int)).bind fun x1484=>((nF aB.nodes x1484).bind fun x1486=>(bif decide (x1486.tokens.length<=maxLen)then(fB aB i1 bA rz x1486 (fun(qd:bq)=>(fA aB k1 bt (i1+1) qd)) x1486.tokens 0 cA)else none))))
def sF(aB:aJ):Option bq:=(fA aB (fun(bN:bq)=>(some bN)) aB.rules 0 ([]:bq))
def Dm(aB:aJ)(W0:List aQ)(cZ:Int):St:=⟨[(1,D.ptr 0 0),(3,D.acc 1),(15,D.sl (aB.rules.map aN.c)),(16,D.int .i64 ((aB.rules.map aN.c).length:Int)),(17,D.int .i64 cZ)],[Ob.box (aJ.c aB),Ob.row .uq 91 3 W0]⟩
def xL(aB:aJ)(i1:Nat)(bA:aN)(rz:aI)(x1486:Node)(W0:List aQ)(cZ:Int):St:=⟨[(1,D.ptr 0 0),(3,D.acc 1),(5,D.ptr 2 0),(6,D.acc 3),(15,D.sl (aB.rules.map aN.c)),(16,D.int .i64 ((aB.rules.map aN.c).length:Int)),(17,D.int .i64 (i1:Int)),(33,D.sl (x1486.tokens.map aR.c)),(34,D.int .i64 ((x1486.tokens.map aR.c).length:Int)),(35,D.int .i64 cZ)],[Ob.box (aJ.c aB),Ob.row .uq 91 3 W0,Ob.box [D.str bA.name,D.int .i64 bA.prio,D.sl (bA.conds.map aM.c),D.sl (bA.ck.map Action.c)],Ob.row .uq 152 2 (rz.map aK.c)]⟩
def Dn(aB:aJ)(dZ:bq)(i2:Nat)(mh:aR)(i1:Nat)(bA:aN)(rz:aI)(x1486:Node)(Al:aX)(W0:List aQ)(cZ:Int):St:=⟨[(1,D.ptr 0 0),(3,D.acc 1),(5,D.ptr 2 0),(6,D.acc 3),(8,D.ptr 4 0),(9,D.ptr 5 0),(15,D.sl (aB.rules.map aN.c)),(16,D.int .i64 ((aB.rules.map aN.c).length:Int)),(17,D.int .i64 (i1:Int)),(33,D.sl (x1486.tokens.map aR.c)),(34,D.int .i64 ((x1486.tokens.map aR.c).length:Int)),(35,D.int .i64 (i2:Int)),(45,D.acc 3),(46,D.int .i64 ((rz.map aK.c).length:Int)),(47,D.int .i64 cZ)],[Ob.box (aJ.c aB),Ob.row .uq 91 3 (dZ.map az.c),Ob.box [D.str bA.name,D.int .i64 bA.prio,D.sl (bA.conds.map aM.c),D.sl (bA.ck.map Action.c)],Ob.row .uq 152 2 (rz.map aK.c),Ob.box [D.sl (mh.facts.map aG.c),D.sl (mh.bind.map aK.c)],Ob.box [D.str bA.name,D.acc 6,D.acc 7],Ob.row .uq 53 2 (Al.map aG.c),Ob.row .uq 152 2 W0]⟩
theorem Cs(hΓ:Γ.nt=78){aB:aJ}{dZ:bq}{i2:Nat}{mh:aR}{i1:Nat}{bA:aN}{rz:aI}{x1486:Node}{Al:aX}{r:bq}{k3:aI->Option bq}(Yb:∀(Sz:aI),k3 Sz=some r->Ax Γ N f71 (.q [[some (91,3)]] (D.fr 91 3 (r.map az.c))) [1,1,0,1,0,0,1,1,0,0,1,1,1,0,0,1,1,0,0,1,1,1] ⟨[(1,D.ptr 0 0),(3,D.acc 1),(5,D.ptr 2 0),(6,D.acc 3),(9,D.ptr 4 0),(15,D.sl (aB.rules.map aN.c)),(16,D.int .i64 ((aB.rules.map aN.c).length:Int)),(17,D.int .i64 (i1:Int)),(33,D.sl (x1486.tokens.map aR.c)),(34,D.int .i64 ((x1486.tokens.map aR.c).length:Int)),(35,D.int .i64 (i2:Int))],[Ob.box (aJ.c aB),Ob.row .uq 91 3 (dZ.map az.c),Ob.box [D.str bA.name,D.int .i64 bA.prio,D.sl (bA.conds.map aM.c),D.sl (bA.ck.map Action.c)],Ob.row .uq 152 2 (rz.map aK.c),Ob.box [D.str bA.name,D.acc 5,D.acc 6],Ob.row .uq 53 2 (Al.map aG.c),Ob.row .uq 152 2 (Sz.map aK.c)]⟩)(RZ:rz.length<=maxLen):∀(rest:aI) (i3:Nat) (Ov:aI),rz.drop i3=rest->fC aB dZ i2 mh i1 bA rz x1486 Al k3 rest i3 Ov=some r->Ar Γ N f71 (.q [[some (91,3)]] (D.fr 91 3 (r.map az.c))) [1,1,0,1,0,0,1,1,0,0,1,1,1,0,0,1,1,0,0,1,1,0,1,0] (rest.length+1) (Dn aB dZ i2 mh i1 bA rz x1486 Al (Ov.map aK.c) (i3:Int)):=by
 intro rest
 induction rest with
 |nil=>
  intro i3 Ov wv h;rw[fC]at h;refine aP fun N3 SK Ny=>?_
  exact((aT.ge aK.c wv).a [.hl 9 [1,3,5,6,9,15,16,17,33,34,35] [0,1,2,3,5,6,7]]).ex hΓ SK (Yb Ov h)
 |cons Q4 Ow ih3=>
  intro i3 Ov wv h;rw[fC]at h;refine aP fun N3 SK Ny=>?_
  obtain⟨a0i,h1769,h⟩:=aD h;have a7d:=((((aT.lt aK.c wv).i (oK aK.c 2 (dc wv))).o 2 2 .uq (eT aK.c (dc wv))).g (qg h1769))
  obtain⟨h1770,h⟩|⟨h1770,h⟩:=aO h
  ·obtain⟨a0j,h1772,h⟩:=aD h;exact(((a7d.b h1770).g (AE h1772)).a [.cn [1,3,5,6,8,9,15,16,17,33,34,35,45,46,47] [0,1,2,3,4,5,6,9]]).ct hΓ Ny (iS wv RZ) (ih3 (i3+1) a0j.1 (dn wv) h)
  ·exact((a7d.b h1770).a [.cn [1,3,5,6,8,9,15,16,17,33,34,35,45,46,47] [0,1,2,3,4,5,6,7]]).ct hΓ Ny (iS wv RZ) (ih3 (i3+1) Ov (dn wv) h)
theorem Cr(hΓ:Γ.nt=78){aB:aJ}{i1:Nat}{bA:aN}{rz:aI}{x1486:Node}{r:bq}{k2:bq->Option bq}(DV:∀(qd:bq),k2 qd=some r->Ax Γ N f71 (.q [[some (91,3)]] (D.fr 91 3 (r.map az.c))) [1,1,0,1,0,0,1,1,1] ⟨[(1,D.ptr 0 0),(3,D.acc 1),(15,D.sl (aB.rules.map aN.c)),(16,D.int .i64 ((aB.rules.map aN.c).length:Int)),(17,D.int .i64 (i1:Int))],[Ob.box (aJ.c aB),Ob.row .uq 91 3 (qd.map az.c)]⟩)(hm2:x1486.tokens.length<=maxLen):∀(rest:av) (i2:Nat) (dZ:bq),x1486.tokens.drop i2=rest->fB aB i1 bA rz x1486 k2 rest i2 dZ=some r->Ar Γ N f71 (.q [[some (91,3)]] (D.fr 91 3 (r.map az.c))) [1,1,0,1,0,0,1,1,0,0,1,1,1,0] (rest.length+1) (xL aB i1 bA rz x1486 (dZ.map az.c) (i2:Int)):=by
 intro rest
 induction rest with
 |nil=>
  intro i2 dZ hd2 h;rw[fB]at h;refine aP fun N2 xA vY=>?_
  exact((aT.ge aR.c hd2).a [.hl 3 [1,3,15,16,17] [0,1]]).ex hΓ xA (DV dZ h)
 |cons mh wD ih2=>
  intro i2 dZ hd2 h;rw[fB]at h;refine aP fun N2 xA vY=>?_
  obtain⟨Al,h1730,h⟩:=aD h;obtain⟨h1774,h⟩:=bY h;refine(((((aT.lt aR.c hd2).l (b9 aR.c 2 (dc hd2) rfl)).a [.n 7]).g (tg h1730)).a [.pb 6 2 152 2,.cn [1,3,5,6,8,9,15,16,17,33,34,35,45,46,47] [0,1,2,3,4,6,5,7]]).lp hΓ (Cs hΓ (fun Sz h=>?_) (bp h1774) rz 0 ([]:aI) rfl h);obtain⟨h1773,h⟩:=bY h;exact((aT.w (cN h1773)).a [.cn [1,3,5,6,15,16,17,33,34,35] [0,8,2,3]]).cs hΓ vY (xL aB i1 bA rz x1486 ((dZ.map az.c)++([[D.str bA.name,D.sl (Al.map aG.c),D.sl (Sz.map aK.c)]])) (IntKind.i64.wrap ((i2:Int)+1))) (by first| (simp only[iS hd2 hm2,mA]<;>rfl)| (simp only[iS hd2 hm2,mA,aG.c,aK.c,aM.c,Action.c,aN.c,aR.c,az.c,aW.c,Node.c,aJ.c,dH.c]<;>rfl)) (ih2 (i2+1) (dZ++([(⟨bA.name,Al,Sz⟩:az)])) (dn hd2) h)
theorem Cq(hΓ:Γ.nt=78){aB:aJ}{r:bq}{k1:bq->Option bq}(cq:∀(bN:bq),k1 bN=some r->Ax Γ N f71 (.q [[some (91,3)]] (D.fr 91 3 (r.map az.c))) [1,1,1] ⟨[(3,D.acc 0)],[Ob.row .uq 91 3 (bN.map az.c)]⟩)(hm1:aB.rules.length<=maxLen):∀(rest:aq) (i1:Nat) (cA:bq),aB.rules.drop i1=rest->fA aB k1 rest i1 cA=some r->Ar Γ N f71 (.q [[some (91,3)]] (D.fr 91 3 (r.map az.c))) [1,1,0,1,0] (rest.length+1) (Dm aB (cA.map az.c) (i1:Int)):=by
 intro rest
 induction rest with
 |nil=>
  intro i1 cA au h;rw[fA]at h;refine aP fun N1 cB bw=>?_
  exact((aT.ge aN.c au).a [.hl 0 [3] [1]]).ex hΓ cB (cq cA h)
 |cons bA bt ih1=>
  intro i1 cA au h;rw[fA]at h;refine aP fun N1 cB bw=>?_
  obtain⟨rz,h1483,h⟩:=aD h;obtain⟨x1484,h1485,h⟩:=aD h;obtain⟨x1486,h1487,h⟩:=aD h;obtain⟨h1775,h⟩:=bY h;refine(((((((aT.lt aN.c au).l (b9 aN.c 4 (dc au) rfl)).g (wX h1483)).a [.n 12]).l (dO gQ 1 h1485 rfl)).l (dO Node.c 8 h1487 rfl)).a [.cn [1,3,5,6,15,16,17,33,34,35] [0,1,2,3]]).lp hΓ (Cr hΓ (fun qd h=>?_) (bp h1775) x1486.tokens 0 cA rfl h);exact(aT.a [.cn [1,3,15,16,17] [0,1]]).ct hΓ bw (iS au hm1) (ih1 (i1+1) qd (dn au) h)
theorem C0{aB:aJ}{r:bq}(h:sF aB=some r):Good prog 71 [D.agg (aJ.c aB)] (D.fr 91 3 (r.map az.c)):=by
 refine gd func71 [[some (91,3)]] 78 fun hr Γ hΓ=>?_
 rw[sF]at h;refine(aT.a [.P3 3,.cn [1,3,15,16,17] [0,1]]).lp hΓ (Cq hΓ (fun bN h=>?_) (by have:=(e7.sl (e7.agg (hr _ (aC (i:=0) rfl)) (.sl (aB.rules.map aN.c)) (by simp))).1;simpa using this) aB.rules 0 ([]:bq) rfl h);have h:=aE h;subst h;exact aT.ret hΓ
def jP(aB:aJ):Option bq:=((qv aB).bind fun y1=>(bif !(y1)then(some ([]))else((sF aB).bind fun y4=>(some y4))))
theorem wE{aB:aJ}{r:bq}(h:jP aB=some r):Good prog 41 [D.agg (aJ.c aB)] (D.fr 91 3 (r.map az.c)):=by
 refine gd func41 [[some (91,3)]] 8 fun hr Γ hΓ=>?_
 rw[jP]at h;obtain⟨y1,h2,h⟩:=aD h;obtain⟨h3,h⟩|⟨h3,h⟩:=aO h
 ·cases h;exact((aT.g (xJ h2)).b h3).ret hΓ
 ·obtain⟨y4,h5,h⟩:=aD h;have h:=aE h;subst h;exact(((aT.g (xJ h2)).b h3).g (C0 h5)).ret hΓ
end Go.Cx
namespace Go.Cx
open Go.RowKit Go.Proofs Tryz
theorem zY{α:Type}{a pre xs:List α}{x:α}(h:a=pre++x::xs):nF a (pre.length:Int)=some x:=by
 unfold nF;have:a[pre.length]?=some x:=by rw[h];simp
 simp[this]
theorem Oh{n b:Nat}(hn:n<=1099511627776)(hb:b<=128):room n b=true:=by
 unfold room maxLen;have:n*b<=1099511627776*128:=Nat.mul_le_mul hn hb;simp;omega
theorem ni{α:Type}{w:List α}{c:α->aQ}{y:aQ}{b:Nat}(h:w.length<1099511627776)(hb:b<=128):room ((w.map c).length+([y]).length) b=true:=Oh (by simp;omega) hb
theorem Zw{α β:Type}{w:List α}{v:List β}{c:α->aQ}{d:β->aQ}{b:Nat}(h:w.length+v.length<=1099511627776)(hb:b<=128):room ((w.map c).length+(v.map d).length) b=true:=Oh (by simp;omega) hb
theorem T5{β:Type}{v:List β}{d:β->aQ}{b:Nat}(h:v.length<=1099511627776)(hb:b<=128):room (([]:List aQ).length+(v.map d).length) b=true:=Oh (by simp;omega) hb
theorem uz{α:Type}{l:List α}(h:l.length<=1099511627776):decide (l.length<=maxLen)=true:=by unfold maxLen;simp;omega
theorem NE{α β γ:Type}{c:β->aQ}{b:Nat}{f:α->Option β}{g:α->β}{L:List α->Nat->List β->Option γ}{k:List β->Option γ}(hb:b<=128)(tC:∀i w,L [] i w=k w)
 (ru:∀x xs i w,L (x::xs) i w=(f x).bind fun y=>bif room ((w.map c).length+([c y]).length) b then L xs (i+1) (w++[y])else none):
 ∀(l:List α) (i:Nat) (w:List β),(∀x∈l,f x=some (g x))->w.length+l.length<=1099511627776->L l i w=k (w++l.map g):=by
 intro l
 induction l with
 |nil=>intro i w _ _;simp[tC]
 |cons x xs ih=>
  intro i w hf hl;simp only[aL]at hl;rw[ru,hf x (by simp),aA,ni (by omega) hb,aU,ih _ _ (fun y hy=>hf y (by simp[hy])) (by simp;omega)];simp
theorem WQ{α:Type}{f:α->Option Bool}{p:α->Bool}{L:List α->Nat->Option Bool}{k:Option Bool}(tC:∀i,L [] i=k)
 (ru:∀x xs i,L (x::xs) i=(f x).bind fun y=>bif !y then some false else L xs (i+1)):∀(l:List α) (i:Nat),(∀x∈l,f x=some (p x))->L l i=bif l.all p then k else some false:=by
 intro l
 induction l with
 |nil=>intro i _;simp[tC]
 |cons x xs ih=>
  intro i hf;rw[ru,hf x (by simp),aA,ih _ (fun y hy=>hf y (by simp[hy])),dD];cases p x<;>simp
theorem qm:∀(a:Bytes),Op.bytesLess a a=false
 | []=>rfl
 |x::a=>by simp[Op.bytesLess,qm a]
theorem A7:∀ {a b c:Bytes},Op.bytesLess a b=true->Op.bytesLess b c=true->Op.bytesLess a c=true
 | [],b,[],_,h2=>by cases b<;>simp[Op.bytesLess]at h2
 | [],b,_::_,_,_=>by simp[Op.bytesLess]
 |_::_,[],_,h1,_=>by simp[Op.bytesLess]at h1
 |_::_,_::_,[],_,h2=>by simp[Op.bytesLess]at h2
 |x::a,y::b,z::c,h1,h2=>by
  simp only[Op.bytesLess,nq,bM,aZ,cj]at h1 h2⊢;rcases h1 with h1|⟨rfl,h1⟩
  ·rcases h2 with h2|⟨rfl,h2⟩
   ·exact .inl (UInt8.lt_trans h1 h2)
   ·exact .inl h1
  ·rcases h2 with h2|⟨rfl,h2⟩
   ·exact .inl h2
   ·exact .inr ⟨rfl,A7 h1 h2⟩
theorem IW:∀ {a b:Bytes},Op.bytesLess a b=false->Op.bytesLess b a=false->a=b
 | [],[],_,_=>rfl
 | [],_::_,h,_=>by simp[Op.bytesLess]at h
 |_::_,[],_,h=>by simp[Op.bytesLess]at h
 |x::a,y::b,h1,h2=>by
  simp only[Op.bytesLess,Bool.or_eq_false_iff,nE,Dc,dJ,ne_eq]at h1 h2;have e:x=y:=by
   have h3:=h1.1;have h4:=h2.1;rw[Df]at h3 h4;exact UInt8.toNat_inj.1 (by omega)
  subst e;rw[IW (h1.2.resolve_left (by simp)) (h2.2.resolve_left (by simp))]
theorem Ng{a b:Bytes}(h:Op.bytesLess a b=true):Op.bytesLess b a=false:=by
 cases hb:Op.bytesLess b a with
 |false=>rfl
 |true=>have:=A7 h hb;rw[qm]at this;cases this
def SS(l:aH):Prop:=l.Pairwise fun a b=>Op.bytesLess a b=true
theorem Ll:∀ {a b:aH},SS a->SS b->(∀x,x∈a↔x∈b)->a=b
 | [],[],_,_,_=>rfl
 | [],y::b,_,_,h=>by have:=(h y).2 (by simp);cases this
 |x::a,[],_,_,h=>by have:=(h x).1 (by simp);cases this
 |x::a,y::b,h1,h2,h=>by
  obtain⟨p1,p2⟩:=lW.1 h1;obtain⟨q1,q2⟩:=lW.1 h2;have e:x=y:=by
   refine IW ?_ ?_
   ·cases hb:Op.bytesLess x y with
    |false=>rfl
    |true=>
     rcases bI.1 ((h x).1 (by simp))with rfl|hx
     ·exact(qm x▸hb).symm
     ·have:=Ng (q1 x hx);rw[hb]at this;exact this
   ·cases hb:Op.bytesLess y x with
    |false=>rfl
    |true=>
     rcases bI.1 ((h y).2 (by simp))with rfl|hx
     ·exact(qm y▸hb).symm
     ·have:=Ng (p1 y hx);rw[hb]at this;exact this
  subst e;rw[Ll p2 q2 (fun z=>?_)];constructor
  ·intro hz;rcases bI.1 ((h z).1 (by simp[hz]))with rfl|P0
   ·have:=p1 z hz;rw[qm]at this;cases this
   ·exact P0
  ·intro hz;rcases bI.1 ((h z).2 (by simp[hz]))with rfl|P0
   ·have:=q1 z hz;rw[qm]at this;cases this
   ·exact P0
def yx:aH->Bytes->aH
 | [],s=>[s]
 |x::xs,s=>bif Op.bytesLess x s then x::yx xs s else bif x==s then x::xs else s::x::xs
theorem ON:∀ {l:aH} {s y:Bytes},y∈yx l s↔y=s\/y∈l
 | [],s,y=>by simp[yx]
 |x::xs,s,y=>by
  simp only[yx];cases Op.bytesLess x s with
  |true=>simp only[aU,bI,ON (l:=xs)];constructor<;>(rintro(h|h|h)<;>simp[h])
  |false=>
   simp only[af];cases hx:x==s with
   |true=>
    simp only[cj]at hx;subst hx;simp
   |false=>simp
theorem Vr:∀ {l:aH} {s:Bytes},SS l->SS (yx l s)
 | [],s,_=>by simp[yx,SS]
 |x::xs,s,h=>by
  obtain⟨p1,p2⟩:=lW.1 h;simp only[yx];cases hb:Op.bytesLess x s with
  |true=>
   simp only[aU];refine lW.2 ⟨fun y hy=>?_,Vr p2⟩;rcases ON.1 hy with rfl|hy
   ·exact hb
   ·exact p1 y hy
  |false=>
   simp only[af];cases hx:x==s with
   |true=>exact h
   |false=>
    have hs:Op.bytesLess s x=true:=by
     cases hc:Op.bytesLess s x with
     |true=>rfl
     |false=>have:=IW hb hc;subst this;simp at hx
    refine lW.2 ⟨fun y hy=>?_,h⟩;rcases bI.1 hy with rfl|hy
    ·exact hs
    ·exact A7 hs (p1 y hy)
theorem AZ:∀(l:aH) (s:Bytes),(yx l s).length<=l.length+1
 | [],s=>by simp[yx]
 |x::xs,s=>by
  have:=AZ xs s;simp only[yx];cases Op.bytesLess x s<;>simp only[aU,af,aL]
  ·cases x==s<;>simp
  ·omega
def eH(l:aH):aH:=l.foldl yx []
theorem G0:∀(l a:aH) (y:Bytes),y∈l.foldl yx a↔y∈a\/y∈l
 | [],a,y=>by simp
 |x::l,a,y=>by
  rw[cm,G0 l,ON];simp only[bI];constructor
  ·rintro((h|h)|h)<;>simp[h]
  ·rintro(h|h|h)<;>simp[h]
theorem IB:∀(l:aH) {a:aH},SS a->SS (l.foldl yx a)
 | [],a,h=>h
 |x::l,a,h=>IB l (Vr h)
theorem Fz:∀(l a:aH),(l.foldl yx a).length<=a.length+l.length
 | [],a=>by simp
 |x::l,a=>by
  have h1:=Fz l (yx a x);have h2:=AZ a x;rw[cm,aL];omega
theorem oq{l:aH}{y:Bytes}:y∈eH l↔y∈l:=by unfold eH;rw[G0];simp
theorem Oj(l:aH):SS (eH l):=IB l (by simp[SS])
theorem pX(l:aH):(eH l).length<=l.length:=by have:=Fz l [];simpa[eH]using this
theorem GG{a b:aH}(h:∀x,x∈a↔x∈b):eH a=eH b:=Ll (Oj a) (Oj b) (fun x=>by rw[oq,oq,h])
theorem V5(a:aH)(x:Bytes):yx (eH a) x=eH (a++[x]):=by simp[eH]
theorem V4(a b:aH):b.foldl yx (eH a)=eH (a++b):=by simp[eH]
theorem GH(a b:aH):(eH b).foldl yx (eH a)=eH (a++b):=by
 rw[V4];exact GG (fun x=>by simp[oq])
theorem mo(l:aH)(v:Bytes):(eH l).contains v=l.contains v:=by
 rw[bf];simp[oq]
def in1(x:UInt8):Bool:=decide ((x.toNat:Int)>=97)&&decide ((x.toNat:Int)<=122)
def in2(x:UInt8):Bool:=decide ((x.toNat:Int)>=48)&&decide ((x.toNat:Int)<=57)
def ab(x:UInt8):Bool:=in1 x||in2 x
def Wx(s:Bytes):Bool:=decide ((s.length:Int)>=1)&&decide ((s.length:Int)<=8)
def fZ(s:Bytes):Bool:=s.all ab&&Wx s
def a2t:Bytes->Bool
 | []=>false
 |x::_=>decide ((x.toNat:Int)>=97)
def zQ(s:Bytes):Bool:=fZ s&&a2t s
def ez:Bytes->Bool
 | []=>false
 |x::t=>decide ((x.toNat:Int)=63)&&fZ t
def nk(s:Bytes):Bool:=fZ s||ez s
theorem Bp{s:Bytes}(h:fZ s=true):1<=s.length/\s.length<=8:=by
 simp only[fZ,Wx,aZ,bM]at h;omega
theorem X8{s:Bytes}(h:zQ s=true):1<=s.length/\s.length<=8:=by
 simp only[zQ,aZ]at h;exact Bp h.1
theorem GK{s:Bytes}(h:ez s=true):1<=s.length/\s.length<=9:=by
 cases s with
 |nil=>cases h
 |cons x t=>simp only[ez,aZ]at h;have:=Bp h.2;simp;omega
theorem XU{s:Bytes}(h:nk s=true):1<=s.length/\s.length<=9:=by
 simp only[nk,nq]at h;rcases h with h|h
 ·have:=Bp h;omega
 ·exact GK h
theorem oM{s:Bytes}(h:ez s=true):fZ s=false:=by
 cases s with
 |nil=>cases h
 |cons x t=>
  simp only[ez,aZ,bM]at h;simp only[fZ,dD,ab,in1,in2];have:(x.toNat:Int)=63:=h.1;simp[this]
theorem a3n(x:UInt8):IntKind.i64.wrap ((x.toNat:Nat):Int)=(x.toNat:Int):=gM (sC.i64.2 (by have:=x.toNat_lt;omega))
theorem WA{n:Nat}(h:n<=1099511627776):IntKind.i64.wrap ((n:Int)+1)=((n+1:Nat):Int):=by rw[gM (sC.i64.2 (by omega))];omega
theorem a3X{n:Nat}(h:1<=n):NG n (some (D.int .i64 1)) none=some (1,n):=by
 unfold NG;have:(0:Int)<=1/\(1:Int).toNat<=n:=⟨by decide,h⟩
 simp only[bX this];rfl
theorem LB(a b c:Int):k8 a b c=some (decide (a>=b)&&decide (a<=c)):=by
 unfold k8;cases decide (a>=b)<;>rfl
theorem a5N(a:Bytes)(k:Option Bool)(ha:a.length<=1048576):∀(rest pre:Bytes),a=pre++rest->∀n,rest.length<n->iY a k n (pre.length:Int)=bif rest.all ab then k else some false:=by
 intro rest
 induction rest with
 |nil=>
  intro pre h n hn;obtain⟨m,rfl⟩:∃m,n=m+1:=⟨n-1,by simp at hn;omega⟩
  have e1:decide ((pre.length:Int)<(a.length:Int))=false:=by simp[h]
  rw[iY,e1];rfl
 |cons x xs ih=>
  intro pre h n hn;obtain⟨m,rfl⟩:∃m,n=m+1:=⟨n-1,by simp at hn;omega⟩
  have hl:a.length=pre.length+(xs.length+1):=by rw[h];simp
  have e1:decide ((pre.length:Int)<(a.length:Int))=true:=by rw[hl];simp;omega
  have e4:IntKind.i64.wrap ((pre.length:Int)+1)=((pre++[x]).length:Int):=by rw[WA (by omega)];simp
  have t:=ih (pre++[x]) (by simp[h]) m (by simp at hn;omega);rw[iY,e1,aU,zY h,aA,a3n,LB,LB,aA,aA,e4,t,dD];show(bif !in1 x then(bif !in2 x then _ else _)else _)=bif (in1 x||in2 x)&&xs.all ab then k else some false
  cases in1 x<;>cases in2 x<;>simp
theorem Mn(a:Bytes)(ha:a.length<=1048576):ey a=some (fZ a):=by
 unfold ey;refine(a5N a _ ha a [] rfl fuel (by unfold fuel;omega)).trans ?_;rw[LB,aA];show _=some (a.all ab&&Wx a);cases a.all ab<;>rfl
theorem a4i(a:Bytes)(k:Option Bool)(ha:a.length<=1048576):∀(rest pre:Bytes),a=pre++rest->∀n,rest.length<n->fP a k n (pre.length:Int)=bif rest.all ab then k else some false:=by
 intro rest
 induction rest with
 |nil=>
  intro pre h n hn;obtain⟨m,rfl⟩:∃m,n=m+1:=⟨n-1,by simp at hn;omega⟩
  have e1:decide ((pre.length:Int)<(a.length:Int))=false:=by simp[h]
  rw[fP,e1];rfl
 |cons x xs ih=>
  intro pre h n hn;obtain⟨m,rfl⟩:∃m,n=m+1:=⟨n-1,by simp at hn;omega⟩
  have hl:a.length=pre.length+(xs.length+1):=by rw[h];simp
  have e1:decide ((pre.length:Int)<(a.length:Int))=true:=by rw[hl];simp;omega
  have e4:IntKind.i64.wrap ((pre.length:Int)+1)=((pre++[x]).length:Int):=by rw[WA (by omega)];simp
  have t:=ih (pre++[x]) (by simp[h]) m (by simp at hn;omega);rw[fP,e1,aU,zY h,aA,e4,t,dD];have c1:decide ((x.toNat:Int)>=97)= !decide ((x.toNat:Int)<97):=by rw[bf];simp
  have c2:decide ((x.toNat:Int)<=122)= !decide ((x.toNat:Int)>122):=by rw[bf];simp
  have c3:decide ((x.toNat:Int)>=48)= !decide ((x.toNat:Int)<48):=by rw[bf];simp
  have c4:decide ((x.toNat:Int)<=57)= !decide ((x.toNat:Int)>57):=by rw[bf];simp
  rw[ab,in1,in2,c1,c2,c3,c4];cases decide ((x.toNat:Int)<97)<;>cases decide ((x.toNat:Int)>122)<;>cases decide ((x.toNat:Int)<48)<;>cases decide ((x.toNat:Int)>57)<;>simp
theorem Me(a:Bytes)(ha:a.length<=1048576):ed a=some (fZ a):=by
 unfold ed;rw[show fP a (some true) fuel 0=_ from a4i a _ ha a [] rfl fuel (by unfold fuel;omega)];have c1:decide ((a.length:Int)>=1)= !decide ((a.length:Int)<1):=by rw[bf];simp
 have c2:decide ((a.length:Int)<=8)= !decide ((a.length:Int)>8):=by rw[bf];simp
 rw[fZ,Wx,c1,c2];cases decide ((a.length:Int)<1)<;>cases decide ((a.length:Int)>8)<;>cases a.all ab<;>rfl
theorem a04(a:Bytes)(ha:a.length<=1048576):qW a=some (zQ a):=by
 unfold qW;rw[Mn a ha,aA,zQ];cases h:fZ a with
 |false=>rfl
 |true=>
  cases a with
  |nil=>simp[fZ,Wx]at h
  |cons x xs=>
   rw[show nF (x::xs) 0=some x from rfl];simp only[aU,aA,a3n,LB,eP,ar,a2t];simp only[fZ,dD,ab,in1,in2,aZ,nq,bM]at h;rw[bf];simp only[aZ,bM];omega
theorem ZB(a:Bytes)(ha:a.length<=1048576):qQ a=some (zQ a):=by
 unfold qQ;rw[Me a ha,aA,zQ];cases h:fZ a with
 |false=>rfl
 |true=>
  cases a with
  |nil=>simp[fZ,Wx]at h
  |cons x xs=>rfl
theorem T6(a:Bytes)(ha:a.length<=1048576):gm a=some (ez a):=by
 unfold gm;cases a with
 |nil=>rfl
 |cons x t=>
  simp only[aL]at ha;rw[show nF (x::t) 0=some x from rfl,aA,a3X (by simp),aA];have e:(((x::t).take ((x::t).length)).drop 1)=t:=by simp
  simp only[e,Mn t (by omega),aA,ez,eS];cases t with
  |nil=>cases decide ((x.toNat:Int)=63)<;>rfl
  |cons y t=>
   have e2:decide ((((x::y::t).length:Int):Int)>1)=true:=by simp;omega
   rw[e2];cases decide ((x.toNat:Int)=63)<;>simp
theorem Wq(a:Bytes)(ha:a.length<=1048576):kL a=some (ez a):=by
 unfold kL;cases a with
 |nil=>rfl
 |cons x t=>
  simp only[aL]at ha;rw[show nF (x::t) 0=some x from rfl,aA,a3X (by simp),aA];have e:(((x::t).take ((x::t).length)).drop 1)=t:=by simp
  simp only[e,Me t (by omega),aA,ez,eS];cases t with
  |nil=>cases decide ((x.toNat:Int)=63)<;>rfl
  |cons y t=>
   have e2:decide ((((x::y::t).length:Int):Int)>1)=true:=by simp;omega
   rw[e2];cases decide ((x.toNat:Int)=63)<;>simp
theorem a0D(a:Bytes)(ha:a.length<=1048576):iQ a=some (nk a):=by
 unfold iQ nk;rw[Mn a ha,T6 a ha];cases fZ a<;>simp
theorem ZF(a:Bytes)(ha:a.length<=1048576):iN a=some (nk a):=by
 unfold iN nk;rw[Me a ha,Wq a ha];cases fZ a<;>simp
theorem a0F(l:aH)(h:l.length<=1099511627776):rX l=some l:=by
 unfold rX;rw[T5 h (by decide)];rfl
theorem Qf(l:aH)(h:l.length<=1099511627776):lg l=some l:=by
 unfold lg;rw[T5 h (by decide)];rfl
theorem a0C(a b:aH):mS a b=some (decide (a=b)):=by
 unfold mS;exact PG (c:=tx) (f:=fun x y=>some (x==y)) (fun k=>jJ a b k) (fun _ _=>rfl) (fun _ _ _ _=>rfl) (fun x y=>by rw[ar,bf];simp)
theorem ZD(a b:aH):oW a b=some (decide (a=b)):=by
 unfold oW;exact PG (c:=tx) (f:=fun x y=>some (x==y)) (fun k=>kz a b k) (fun _ _=>rfl) (fun _ _ _ _=>rfl) (fun x y=>by rw[ar,bf];simp)
theorem a4u(a b:bP):sS a b=some (decide (a=b)):=by
 unfold sS;exact PG (c:=gQ) (f:=fun x y=>some (x==y)) (fun k=>lm a b k) (fun _ _=>rfl) (fun _ _ _ _=>rfl) (fun x y=>by rw[ar,bf];simp)
theorem a03(l:aH)(v:Bytes):gO l v=some (l.contains v):=by
 unfold gO;have:∀(r:aH) (i:Nat),jA l v (some false) r i=some (r.contains v):=by
  intro r
  induction r with
  |nil=>intro i;rfl
  |cons x r ih=>
   intro i;rw[jA,ih,List.contains_cons];have:(x==v)=(v==x):=by rw[bf,cj,cj];exact eq_comm
   rw[this];cases v==x<;>rfl
 exact this l 0
theorem a1h(l:aH)(v:Bytes):kO l v=some (l.contains v):=by
 unfold kO;have:∀(r:aH) (i:Nat),kP l v (some false) r i=some (r.contains v):=by
  intro r
  induction r with
  |nil=>intro i;rfl
  |cons x r ih=>
   intro i;rw[kP,ih,List.contains_cons];have:(x==v)=(v==x):=by rw[bf,cj,cj];exact eq_comm
   rw[this];cases v==x<;>rfl
 exact this l 0
theorem a3k(a:aH)(s:Bytes)(k:Bool->aH->Option aH):∀(l:aH) (i:Nat) (w:aH),w.length+l.length<1099511627776->
 eA a s k l i true w=k true (w++l):=by
 intro l
 induction l with
 |nil=>intro i w _;simp[eA]
 |cons x xs ih=>
  intro i w h;simp only[aL]at h;rw[eA,bW,af,ni (by omega) (by decide),aU,ih _ _ (by simp;omega)];simp
theorem a81(a:aH)(s:Bytes)(k:Bool->aH->Option aH)(hk:∀w,w.length<1099511627776->k false w=some (w++[s]))(hk2:∀w,k true w=some w):∀(l:aH) (i:Nat) (w:aH),w.length+l.length+1<1099511627776->
 eA a s k l i false w=some (w++yx l s):=by
 intro l
 induction l with
 |nil=>intro i w h;rw[eA,hk w (by omega)];rfl
 |cons x xs ih=>
  intro i w h;simp only[aL]at h;rw[eA,eY,aU,yx];cases Op.bytesLess x s with
  |true=>
   simp only[bW,af,aU];rw[ni (by omega) (by decide),aU,ih _ _ (by simp;omega)];simp
  |false=>
   simp only[eY,aU,af];cases x==s with
   |true=>
    simp only[bW,af,aU];rw[ni (by omega) (by decide),aU,a3k _ _ _ _ _ _ (by simp;omega),hk2];simp
   |false=>
    simp only[eY,aU,af];rw[ni (by omega) (by decide),aU];have e:room (((w.map tx)++[[D.str s]]).length+([[D.str x]]).length) 16=true:=Oh (by simp;omega) (by decide);rw[e,aU,a3k _ _ _ _ _ _ (by simp;omega),hk2];simp
theorem Ul(l:aH)(s:Bytes)(h:l.length+1<1099511627776):kT l s=some (yx l s):=by
 unfold kT;rw[a81 l s _ (fun w hw=>by simp only[eY,aU];rw[ni hw (by decide)];rfl) (fun w=>by simp) l 0 [] (by simpa using h)];rfl
def dd:Option Bytes->aH->aH
 |_,[]=>[]
 |p,x::xs=>if p=some x then dd (some x) xs else x::dd (some x) xs
theorem Tt:∀ {l:aH} {p:Option Bytes} {y:Bytes},y∈dd p l->y∈l
 | [],p,y,h=>by cases h
 |x::xs,p,y,h=>by
  simp only[dd]at h;split at h
  ·exact bI.2 (.inr (Tt h))
  ·rcases bI.1 h with rfl|h
   ·simp
   ·exact bI.2 (.inr (Tt h))
theorem ZZ:∀ {l:aH} {p:Option Bytes} {y:Bytes},y∈l->p=some y\/y∈dd p l
 |x::xs,p,y,h=>by
  simp only[dd];rcases bI.1 h with rfl|h
  ·by_cases hp:p=some y
   ·exact .inl hp
   ·rw[bL hp];exact .inr (by simp)
  ·have:=ZZ (p:=some x) h;split
   ·rename_i hp;rcases this with e|e
    ·exact .inl (hp.trans e)
    ·exact .inr e
   ·rcases this with e|e
    ·cases e;exact .inr (by simp)
    ·exact .inr (by simp[e])
theorem a2o:∀ {l:aH} {p:Option Bytes},l.Pairwise (fun a b=>Op.bytesLess b a=false)->(∀q,p=some q->∀y∈l,Op.bytesLess y q=false)->SS (dd p l)/\∀q,p=some q->∀y∈dd p l,Op.bytesLess q y=true
 | [],p,_,_=>⟨by simp[dd,SS],by simp[dd]⟩
 |x::xs,p,h,hp=>by
  obtain⟨p1,p2⟩:=lW.1 h;obtain⟨i1,i2⟩:=a2o (l:=xs) (p:=some x) p2 (fun q hq y hy=>by cases hq;exact p1 y hy);simp only[dd];split
  ·rename_i he;exact⟨i1,fun q hq y hy=>by rw[he]at hq;cases hq;exact i2 x rfl y hy⟩
  ·rename_i he;refine⟨lW.2 ⟨fun y hy=>i2 x rfl y hy,i1⟩,fun q hq y hy=>?_⟩;have hqx:Op.bytesLess q x=true:=by
    cases hc:Op.bytesLess q x with
    |true=>rfl
    |false=>exact absurd (by rw[hq,IW hc (hp q hq x (by simp))]) he
   rcases bI.1 hy with rfl|hy
   ·exact hqx
   ·exact A7 hqx (i2 x rfl y hy)
theorem a0M(l:aH):nj l=l.mergeSort (fun x y=> !Op.bytesLess y x):=by
 unfold nj
 congr 1
 funext x y
 rw[Go.Proofs.bytesLess_eq];rw[bf];simp[List.not_lt]
theorem RA(l:aH):(nj l).Pairwise (fun a b=>Op.bytesLess b a=false):=by
 rw[a0M];have:=List.pairwise_mergeSort (le:=fun x y=> !Op.bytesLess y x) (fun a b c h1 h2=>by
  simp only[pZ]at h1 h2⊢;cases hc:Op.bytesLess c a with
  |false=>rfl
  |true=>
   cases hb:Op.bytesLess b a with
   |true=>rw[h1]at hb;cases hb
   |false=>
    cases Ph:Op.bytesLess a b with
    |true=>have:=A7 hc Ph;rw[h2]at this;cases this
    |false=>have:=IW hb Ph;subst this;rw[h2]at hc;cases hc) (fun a b=>by
  cases hc:Op.bytesLess b a with
  |false=>simp
  |true=>simp[Ng hc]) l
 exact this.imp (fun h=>by simpa using h)
theorem a1T(l:aH):dd none (nj l)=eH l:=by
 refine Ll (a2o (RA l) (by simp)).1 (Oj l) (fun x=>?_);rw[oq];have hm:x∈nj l↔x∈l:=(Ai l).mem_iff;constructor
 ·intro h;exact hm.1 (Tt h)
 ·intro h;rcases ZZ (p:=none) (hm.2 h)with h|h
  ·cases h
  ·exact h
theorem ZE(a:aH)(k:aH->Option aH)(ha:a.length<=1099511627775):∀(rest pre:aH) (w:aH),nj ([]++a)=pre++rest->w.length+rest.length<=1099511627775->
 dS a k rest pre.length w=k (w++dd pre.getLast? rest):=by
 have hlen:(nj ([]++a)).length=a.length:=(Ai _).length_eq;intro rest
 induction rest with
 |nil=>intro pre w _ _;simp[dS,dd]
 |cons x xs ih=>
  intro pre w h hw;simp only[aL]at hw;have hl:pre.length+(xs.length+1)=a.length:=by rw[<-hlen,h];simp
  have t:=fun w'=>ih (pre++[x]) w' (by rw[h];simp)
  simp only[aS,aL,bG,mi]at t;rw[dS];rcases xE pre with rfl|⟨p,z,hpz⟩
  ·have e0:(((([]:aH).length:Int):Int)==0)=true:=rfl;rw[e0,aU,ni (by omega) (by decide),aU,t _ (by simp;omega)];simp[dd]
  ·rw[xD]at hpz;subst hpz;have e0:((((p++[z]).length:Int):Int)==0)=false:=by simp;omega
   have e1:IntKind.i64.wrap (((p++[z]).length:Int)-1)=(p.length:Int):=by
    rw[gM (sC.i64.2 (by simp at hl⊢;omega))];simp
   have e2:nF (nj ([]++a)) (p.length:Int)=some z:=zY (xs:=x::xs) (by rw[h];simp);rw[e0,af,e1,e2,aA];simp only[dd,mi];by_cases hz:z=x
   ·subst hz;have e3:((z:Bytes)==z)=true:=by simp
    rw[e3,bW,af,t _ (by omega),bX rfl]
   ·have e3:((z:Bytes)==x)=false:=by simpa using hz
    rw[e3,eY,aU,ni (by omega) (by decide),aU,t _ (by simp;omega),bL (by simpa using hz)];simp
theorem Qe(l:aH)(h:l.length<1099511627775):jT l=some (eH l):=by
 have hlen:(nj ([]++l)).length=l.length:=(Ai _).length_eq;unfold jT;have e1:decide ((([]:aH)++l).length<4611686018427387904)=true:=by simp;omega
 rw[T5 (by omega) (by decide),aU,e1,aU,uz (by rw[hlen];omega),aU];have:=ZE l (fun q=>some q) (by omega) (nj ([]++l)) [] [] rfl (by rw[hlen];simp;omega);rw[show([]:aH).length=0 from rfl]at this;rw[this,<-a1T];simp
end Go.Cx
namespace Go.Cx
open Go.RowKit Go.Proofs Tryz
theorem aG.R1{p:aG}{n:Nat}(h:p.wt<=n):p.rel.length<=n:=by unfold aG.wt tw at h;omega
theorem aG.fJ{p:aG}{n:Nat}(h:p.wt<=n):p.args.length<=n:=by unfold aG.wt at h;have:=gN tw p.args;omega
theorem aG.tZ{p:aG}{n:Nat}(h:p.wt<=n){x:Bytes}(hx:x∈p.args):x.length<=n:=by unfold aG.wt at h;have:=gu (w:=tw) hx;have e:tw x=x.length:=rfl;omega
theorem aM.fX{c:aM}{n:Nat}(h:c.wt<=n):c.pat.wt<=n:=by simp only[aM.wt,aG.wt]at h⊢;omega
theorem aM.BD{c:aM}{n:Nat}(h:c.wt<=n):c.left.length<=n:=by simp only[aM.wt,tw]at h;omega
theorem aM.yV{c:aM}{n:Nat}(h:c.wt<=n):c.right.length<=n:=by simp only[aM.wt,tw]at h;omega
theorem Action.fX{c:Action}{n:Nat}(h:c.wt<=n):c.pat.wt<=n:=by simp only[Action.wt,aG.wt]at h⊢;omega
theorem aN.Vg{r:aN}{n:Nat}(h:r.wt<=n):r.name.length<=n:=by simp only[aN.wt,tw]at h;omega
theorem aN.sM{r:aN}{n:Nat}(h:r.wt<=n):kD aM.wt r.conds<=n:=by simp only[aN.wt]at h;omega
theorem aN.KC{r:aN}{n:Nat}(h:r.wt<=n):kD Action.wt r.ck<=n:=by simp only[aN.wt]at h;omega
theorem aN.py{r:aN}{n:Nat}(h:r.wt<=n){c:aM}(hc:c∈r.conds):c.wt<=n:=by have:=aN.sM h;have:=gu (w:=aM.wt) hc;omega
theorem aN.QF{r:aN}{n:Nat}(h:r.wt<=n){c:Action}(hc:c∈r.ck):c.wt<=n:=by have:=aN.KC h;have:=gu (w:=Action.wt) hc;omega
theorem Uj(f:aG)(h:f.args.length<=1099511627776):kG f=some f:=by
 unfold kG;rw[a0F _ h];rfl
theorem UK(f:aG)(h:f.args.length<=1099511627776):iP f=some f:=by
 unfold iP;rw[Qf _ h];rfl
theorem a5b(a b:aG):tT a b=some (decide (a=b)):=by
 obtain⟨a0,a1⟩:=a;obtain⟨b0,b1⟩:=b;unfold tT;simp only[a0C,aA,eS];by_cases h0:a0=b0<;>by_cases h1:a1=b1<;>simp[h0,h1]
theorem a4t(a b:aG):pT a b=some (decide (a=b)):=by
 obtain⟨a0,a1⟩:=a;obtain⟨b0,b1⟩:=b;unfold pT;simp only[ZD,aA,eS];by_cases h0:a0=b0<;>by_cases h1:a1=b1<;>simp[h0,h1]
theorem Um(a b:aG):iH a b=some (decide (a=b)):=by
 obtain⟨a0,a1⟩:=a;obtain⟨b0,b1⟩:=b;unfold iH;simp only[a0C,aA,eS];by_cases h0:a0=b0<;>by_cases h1:a1=b1<;>simp[h0,h1]
theorem OA(a b:aG):eg a b=some (decide (a=b)):=by
 obtain⟨a0,a1⟩:=a;obtain⟨b0,b1⟩:=b;unfold eg;simp only[ZD,aA,eS];by_cases h0:a0=b0<;>by_cases h1:a1=b1<;>simp[h0,h1]
theorem R6(a b:aX):mR a b=some (decide (a=b)):=by
 unfold mR;exact PG (c:=aG.c) (f:=tT) (fun k=>lD a b k) (fun _ _=>rfl) (fun _ _ _ _=>rfl) a5b
theorem NP(a b:aX):iW a b=some (decide (a=b)):=by
 unfold iW;exact PG (c:=aG.c) (f:=pT) (fun k=>kp a b k) (fun _ _=>rfl) (fun _ _ _ _=>rfl) a4t
def yT(p:aG):Bool:=p.args.all nk&&(zQ p.rel&&decide ((p.args.length:Int)<=3))
def zO(f:aG):Bool:=f.args.all fZ&&(zQ f.rel&&decide ((f.args.length:Int)<=3))
theorem a3g(f:aG)(h:f.wt<=1048576):qV f=some (zO f):=by
 unfold qV;rw[WQ (f:=ey) (L:=ol f _) (fun _=>rfl) (fun _ _ _=>rfl) f.args 0 (fun x hx=>Mn x (aG.tZ h hx)),a04 _ (aG.R1 h),aA,aa,zO];cases f.args.all fZ<;>cases zQ f.rel<;>rfl
theorem a36(f:aG)(h:f.wt<=1048576):qP f=some (zO f):=by
 unfold qP;rw[WQ (f:=ed) (L:=oT f _) (fun _=>rfl) (fun _ _ _=>rfl) f.args 0 (fun x hx=>Me x (aG.tZ h hx)),ZB _ (aG.R1 h),aA,aa,zO];have c:decide ((f.args.length:Int)<=3)= !decide ((f.args.length:Int)>3):=by rw[bf];simp
 rw[c];cases f.args.all fZ<;>cases zQ f.rel<;>cases decide ((f.args.length:Int)>3)<;>rfl
theorem a5V(f:aG)(h:f.wt<=1048576):iZ f=some (yT f):=by
 unfold iZ;rw[WQ (f:=iQ) (L:=lC f _) (fun _=>rfl) (fun _ _ _=>rfl) f.args 0 (fun x hx=>a0D x (aG.tZ h hx)),a04 _ (aG.R1 h),aA,aa,yT];cases f.args.all nk<;>cases zQ f.rel<;>rfl
theorem a4q(f:aG)(h:f.wt<=1048576):iU f=some (yT f):=by
 unfold iU;rw[WQ (f:=iN) (L:=ko f _) (fun _=>rfl) (fun _ _ _=>rfl) f.args 0 (fun x hx=>ZF x (aG.tZ h hx)),ZB _ (aG.R1 h),aA,aa,yT];have c:decide ((f.args.length:Int)<=3)= !decide ((f.args.length:Int)>3):=by rw[bf];simp
 rw[c];cases f.args.all nk<;>cases zQ f.rel<;>cases decide ((f.args.length:Int)>3)<;>rfl
def iq(l:aH):aH:=l.filter ez
theorem wN(l:aH):(iq l).length<=l.length:=List.length_filter_le _ _
theorem Q0(a b:aH):iq (a++b)=iq a++iq b:=List.filter_append _ _
theorem LR(p:aG)(h:p.wt<=1048576):me p=some (eH (iq p.args)):=by
 unfold me;have:∀(r:aH) (i:Nat) (w:aH),(∀x∈r,x.length<=1048576)->w.length+r.length<=2097152->k7 p (fun q=>some q) r i w=some ((iq r).foldl yx w):=by
  intro r
  induction r with
  |nil=>intro i w _ _;rfl
  |cons x r ih=>
   intro i w hr hw;simp only[aL]at hw;have hl:=AZ w x;rw[k7,T6 x (hr x (by simp)),aA,Ul w x (by omega),aA,ih _ _ (fun y hy=>hr y (by simp[hy])) (by omega),ih _ _ (fun y hy=>hr y (by simp[hy])) (by omega)];cases hv:ez x<;>simp[iq,hv]
 exact this p.args 0 [] (fun x hx=>aG.tZ h hx) (by have:=aG.fJ h;simp;omega)
theorem ZH(l:aH)(hl:l.length<=2097152)(h:∀x∈l,x.length<=1048576):lq l=some (iq l):=by
 unfold lq;have:∀(r:aH) (i:Nat) (w:aH),(∀x∈r,x.length<=1048576)->w.length+r.length<=2097152->fK l (fun q=>some q) r i w=some (w++iq r):=by
  intro r
  induction r with
  |nil=>intro i w _ _;simp[fK,iq]
  |cons x r ih=>
   intro i w hr hw;simp only[aL]at hw;rw[fK,Wq x (hr x (by simp)),aA,ni (by omega) (by decide),ih _ _ (fun y hy=>hr y (by simp[hy])) (by simp;omega),ih _ _ (fun y hy=>hr y (by simp[hy])) (by omega)];cases hv:ez x<;>simp[iq,hv]
 exact this l 0 [] h (by simpa using hl)
def pu(c:aM):aH:=iq (c.pat.args++[c.left,c.right])
theorem xe{c:aM}{n:Nat}(h:c.wt<=n):(pu c).length<=n+2:=by
 have h1:=wN (c.pat.args++[c.left,c.right]);have h2:=aG.fJ (aM.fX h);simp only[aS,aL,bG]at h1;unfold pu;omega
theorem Uh(c:aM)(h:c.wt<=1048576):lG c=some (eH (pu c)):=by
 unfold lG;have h1:=aG.fJ (aM.fX h);have h2:=pX (iq c.pat.args);have h3:=wN c.pat.args;have h4:=AZ (eH (iq c.pat.args)) c.left;rw[LR _ (aM.fX h),aA,T6 _ (aM.BD h),aA,T6 _ (aM.yV h)];simp only[aA];rw[Ul _ _ (by omega),Ul _ _ (by omega),aA,Ul _ _ (by omega)];simp only[aA,pu,Q0,V5];cases hl:ez c.left<;>cases hr:ez c.right<;>simp[iq,hl,hr]
theorem ZG(c:aM)(h:c.wt<=1048576):rC c=some (c.pat.args++[c.left,c.right]):=by
 unfold rC;have h1:=aG.fJ (aM.fX h);rw[Qf _ (by omega),aA];rw[Oh (by simp;omega) (by decide)];rfl
theorem UI(c:aM)(h:c.wt<=1048576):nu c=some (eH (pu c)):=by
 unfold nu;have h1:=aG.fJ (aM.fX h);have h5:=xe h;rw[ZG c h,aA,ZH _ (by simp;omega) (fun x hx=>by
  simp only[aj,bI,ql,Ea]at hx;rcases hx with hx|rfl|rfl
  ·exact aG.tZ (aM.fX h) hx
  ·exact aM.BD h
  ·exact aM.yV h),aA]
 rw[show iq (c.pat.args++[c.left,c.right])=pu c from rfl,Qe _ (by omega)];rfl
def CS(p:aG):Bool:=p.rel==[]&&decide ((p.args.length:Int)=0)
def mm(c:aM):Bool:=bif decide (c.kind=1)||decide (c.kind=2)then yT c.pat&&(c.left==[]&&c.right==[])else bif decide (c.kind=3)||decide (c.kind=4)||decide (c.kind=5)then CS c.pat&&(nk c.left&&nk c.right)else false
def IM(c:aM):Bool:=mm c&&decide (c.kind>=3)
theorem IX{c:aM}(h:mm c=true):1<=c.kind/\c.kind<=5:=by
 unfold mm at h;by_cases h1:c.kind=1
 ·omega
 by_cases h2:c.kind=2
 ·omega
 by_cases h3:c.kind=3
 ·omega
 by_cases h4:c.kind=4
 ·omega
 by_cases h5:c.kind=5
 ·omega
 simp[h1,h2,h3,h4,h5]at h
theorem a01(c:aM)(h:c.wt<=1048576):qU c=some (mm c):=by
 unfold qU mm CS;simp only[a5V _ (aM.fX h),a0D _ (aM.BD h),a0D _ (aM.yV h),aA,aa,eS];by_cases h1:c.kind=1
 ·simp only[h1];cases yT c.pat<;>cases decide (c.left=[])<;>simp
 by_cases h2:c.kind=2
 ·simp only[h2];cases yT c.pat<;>cases decide (c.left=[])<;>simp
 by_cases h3:c.kind=3
 ·simp only[h3];cases decide (c.pat.rel=[])<;>cases decide ((c.pat.args.length:Int)=0)<;>cases nk c.left<;>simp
 by_cases h4:c.kind=4
 ·simp only[h4];cases decide (c.pat.rel=[])<;>cases decide ((c.pat.args.length:Int)=0)<;>cases nk c.left<;>simp
 by_cases h5:c.kind=5
 ·simp only[h5];cases decide (c.pat.rel=[])<;>cases decide ((c.pat.args.length:Int)=0)<;>cases nk c.left<;>simp
 simp[h1,h2,h3,h4,h5]
theorem a38(p:aG):iA p=some (CS p):=by
 unfold iA CS;simp only[aa,eS];cases decide (p.rel=[])<;>rfl
theorem Z7(c:aM)(h:c.wt<=1048576):qO c=some (mm c):=by
 unfold qO mm;simp only[a4q _ (aM.fX h),ZF _ (aM.BD h),ZF _ (aM.yV h),a38,aA,eS];by_cases h1:c.kind=1
 ·simp only[h1];cases yT c.pat<;>cases decide (c.left=[])<;>simp
 by_cases h2:c.kind=2
 ·simp only[h2];cases yT c.pat<;>cases decide (c.left=[])<;>simp
 by_cases h3:c.kind=3
 ·simp only[h3];cases CS c.pat<;>cases nk c.left<;>cases nk c.right<;>simp
 by_cases h4:c.kind=4
 ·simp only[h4];cases CS c.pat<;>cases nk c.left<;>cases nk c.right<;>simp
 by_cases h5:c.kind=5
 ·simp only[h5];cases CS c.pat<;>cases nk c.left<;>cases nk c.right<;>simp
 simp[h1,h2,h3,h4,h5]
theorem a0E(c:aM)(h:c.wt<=1048576):qX c=some (IM c):=by
 unfold qX IM;rw[a01 c h];cases mm c<;>rfl
theorem a7M(c:aM)(h:c.wt<=1048576):vM c=some (IM c):=by
 unfold vM IM;rw[Z7 c h];cases mm c<;>rfl
theorem a0B(a b:aM):nx a b=some (decide (a=b)):=by
 obtain⟨a0,a1,a2,a3⟩:=a;obtain⟨b0,b1,b2,b3⟩:=b;unfold nx;simp only[Um,aA,eS];by_cases h0:a0=b0<;>by_cases h1:a1=b1<;>by_cases h2:a2=b2<;>by_cases h3:a3=b3<;>simp[h0,h1,h2,h3]
theorem Qd(a b:aM):jM a b=some (decide (a=b)):=by
 obtain⟨a0,a1,a2,a3⟩:=a;obtain⟨b0,b1,b2,b3⟩:=b;unfold jM;simp only[OA,aA,eS];by_cases h0:a0=b0<;>by_cases h1:a1=b1<;>by_cases h2:a2=b2<;>by_cases h3:a3=b3<;>simp[h0,h1,h2,h3]
def Nc(a:Action):Bool:=bif decide (a.kind=1)||decide (a.kind=2)then yT a.pat else bif decide (a.kind=3)then CS a.pat else false
theorem aAP(a:Action)(h:a.wt<=1048576):sv a=some (Nc a):=by
 unfold sv Nc CS;simp only[a5V _ (Action.fX h),aA,aa,eS];by_cases h1:a.kind=1
 ·simp[h1]
 by_cases h2:a.kind=2
 ·simp[h2]
 by_cases h3:a.kind=3
 ·simp only[h3];cases decide (a.pat.rel=[])<;>simp
 simp[h1,h2,h3]
theorem aA5(a:Action)(h:a.wt<=1048576):sR a=some (Nc a):=by
 unfold sR Nc;simp only[a4q _ (Action.fX h),a38,aA,eS];by_cases h1:a.kind=1
 ·simp[h1]
 by_cases h2:a.kind=2
 ·simp[h2]
 by_cases h3:a.kind=3
 ·simp[h3]
 simp[h1,h2,h3]
end Go.Cx

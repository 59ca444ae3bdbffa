/- What functions of the program compute, and the walks that show it. No condition. -/
import Derived.Test.YtcmgbmkjnekbkaaGreatDoorPEmptyNetworkG4
import Derived.Sort.Walk0
import Derived.Lib.ItoaNum
import Derived.Lib.ItoaLen
import Derived.Lib.Atoi
set_option linter.unusedVariables false
set_option linter.unusedSimpArgs false
namespace Go.Cx
open Go.RowKit Go.Proofs Tryz
set_option maxRecDepth 100000
variable{Γ:pG}{N:Nat->St->Prop}
def fL(aC:aH)(aZ:Int)(x1:aI)(y3:aE)(y5:aE)(k1:Option Bool):aE->Nat->Option Bool
 | [],i1=>(k1)
 |bC::cE,i1=>(bif (x1.kind:Int)==1 then(fL aC aZ x1 y3 y5 k1 cE (i1+1))else((jD y3 bC).bind fun Gs=>(bif Gs then(fL aC aZ x1 y3 y5 k1 cE (i1+1))else(bif (x1.kind:Int) != 2 then(some false)else((jF aC aZ bC).bind fun WG=>(bif WG then(some false)else(fL aC aZ x1 y3 y5 k1 cE (i1+1))))))))
def mV(aC:aH)(aZ:Int):Option Bool:=((sK aC.conds aZ).bind fun x1=>((lT aC aZ).bind fun y3=>((l7 x1).bind fun y5=>(bif decide (y5.length<=maxLen)then(fL aC aZ x1 y3 y5 (some true) y5 0)else none))))
def Dm(aC:aH)(aZ:Int)(x1:aI)(y3:aE)(y5:aE)(dM:Int):St:=⟨[(1,D.int .i64 aZ),(2,D.ptr 0 0),(5,D.ptr 1 0),(6,D.acc 2),(18,D.acc 3),(19,D.int .i64 ((y5.map tx).length:Int)),(20,D.int .i64 dM)],[Ob.box (aH.c aC),Ob.box [D.int .i64 x1.kind,D.str x1.pat.rel,D.sl (x1.pat.args.map tx),D.str x1.left,D.str x1.right],Ob.row .uq 9 1 (y3.map tx),Ob.row .uq 9 1 (y5.map tx)]⟩
theorem CW(hΓ:Γ.nt=42){aC:aH}{aZ:Int}{x1:aI}{y3:aE}{y5:aE}{r:Bool}{k1:Option Bool}(dQ:k1=some r->Ax Γ N f105 (.q [[none]] (D.bool r)) [1,1,1,1] ⟨[],[]⟩)(hm1:y5.length<=maxLen):∀(rest:aE) (i1:Nat),y5.drop i1=rest->fL aC aZ x1 y3 y5 k1 rest i1=some r->Ar Γ N f105 (.q [[none]] (D.bool r)) [1,1,1,0,1,0] (rest.length+1) (Dm aC aZ x1 y3 y5 (i1:Int)):=by
 intro rest
 induction rest with
 |nil=>
  intro i1 b7 h;rw[fL]at h;refine aO fun N1 cN cI=>?_
  exact((aT.ge tx b7).a [.hl 0 [] []]).ex hΓ cN (dQ h)
 |cons bC cE ih1=>
  intro i1 b7 h;rw[fL]at h;refine aO fun N1 cN cI=>?_
  have nS:=(((aT.lt tx b7).i (mQ tx 1 (dc b7))).o 1 1 .uq (fX tx (dc b7)))
  obtain⟨h48,h⟩|⟨h48,h⟩:=aN h
  ·exact(((nS.r 4 h48).T 1).a [.cn [1,2,5,6,18,19,20] [0,1,2,3]]).ct hΓ cI (iS b7 hm1) (ih1 (i1+1) (dn b7) h)
  ·obtain⟨Gs,h50,h⟩:=aF h;have vB:=(((nS.r 3 h48).g (nO h50)).b h48)
   obtain⟨h51,h⟩|⟨h51,h⟩:=aN h
   ·exact((vB.b h51).a [.cn [1,2,5,6,18,19,20] [0,1,2,3]]).ct hΓ cI (iS b7 hm1) (ih1 (i1+1) (dn b7) h)
   ·obtain⟨h52,h⟩|⟨h52,h⟩:=aN h
    ·have h:=aJ h;subst h;exact(((vB.b h51).r 5 h52).T 1).ret hΓ
    ·obtain⟨WG,h54,h⟩:=aF h;have xh:=((((vB.b h51).r 4 h52).g (vM h54)).b h52)
     obtain⟨h55,h⟩|⟨h55,h⟩:=aN h
     ·have h:=aJ h;subst h;exact(xh.b h55).ret hΓ
     ·exact((xh.b h55).a [.cn [1,2,5,6,18,19,20] [0,1,2,3]]).ct hΓ cI (iS b7 hm1) (ih1 (i1+1) (dn b7) h)
theorem u9{aC:aH}{aZ:Int}{r:Bool}(h:mV aC aZ=some r):Good prog 105 [D.agg (aH.c aC),D.int .i64 aZ] (D.bool r):=by
 refine gd func105 [[none]] 42 fun hr Γ hΓ=>?_
 rw[mV]at h;obtain⟨x1,h2,h⟩:=aF h;obtain⟨y3,h4,h⟩:=aF h;obtain⟨y5,h6,h⟩:=aF h;obtain⟨h56,h⟩:=bu h;refine((((aT.l (oL aI.c 5 h2 rfl)).g (tA h4)).g (qL h6)).a [.cn [1,2,5,6,18,19,20] [0,1,2,3]]).lp hΓ (CW hΓ (fun h=>?_) (bq h56) y5 0 rfl h);have h:=aJ h;subst h;exact aT.ret hΓ
def oa(aC:Action):Option Bool:=(bif (aC.kind:Int)==1 then((gb aC.pat).bind fun y2=>(some y2))else(bif (aC.kind:Int)==2 then((gb aC.pat).bind fun y5=>(some y5))else(bif (aC.kind:Int)==3 then((gN aC.pat).bind fun y8=>(some y8))else(some false))))
theorem As{aC:Action}{r:Bool}(h:oa aC=some r):Good prog 107 [D.agg (Action.c aC)] (D.bool r):=by
 refine gd func107 [[none]] 16 fun hr Γ hΓ=>?_
 rw[oa]at h;obtain⟨h1,h⟩|⟨h1,h⟩:=aN h
 ·obtain⟨y2,h3,h⟩:=aF h;have h:=aJ h;subst h;exact((aT.r 2 h1).g (iC h3)).ret hΓ
 ·obtain⟨h4,h⟩|⟨h4,h⟩:=aN h
  ·obtain⟨y5,h6,h⟩:=aF h;have h:=aJ h;subst h;exact(((aT.b h1).b h4).g (iC h6)).ret hΓ
  ·have nL:=((aT.b h1).b h4)
   obtain⟨h7,h⟩|⟨h7,h⟩:=aN h
   ·obtain⟨y8,h9,h⟩:=aF h;have h:=aJ h;subst h;exact((nL.b h7).g (ke h9)).ret hΓ
   ·have h:=aJ h;subst h;exact(nL.b h7).ret hΓ
def fG(aC:aY)(k1:aE->Option aE):aY->Nat->aE->Option aE
 | [],i1,bK=>(k1 bK)
 |bC::cE,i1,bK=>((l7 bC).bind fun jj=>(bif room ((bK.map tx).length+(jj.map tx).length) 16 then(fG aC k1 cE (i1+1) (bK++jj))else none))
def mq(aC:aY):Option aE:=(fG aC (fun(bf:aE)=>(some bf)) aC 0 ([]:aE))
def uA(aC:aY)(W0:List aK)(dM:Int):St:=⟨[(3,D.acc 0),(6,D.sl (aC.map aI.c)),(7,D.int .i64 ((aC.map aI.c).length:Int)),(8,D.int .i64 dM)],[Ob.row .uq 9 1 W0]⟩
theorem zo(hΓ:Γ.nt=18){aC:aY}{r:aE}{k1:aE->Option aE}(dQ:∀(bf:aE),k1 bf=some r->Ax Γ N f111 (.q [[some (9,1)]] (D.fr 9 1 (r.map tx))) [1,1,1] ⟨[(3,D.acc 0)],[Ob.row .uq 9 1 (bf.map tx)]⟩)(hm1:aC.length<=maxLen):∀(rest:aY) (i1:Nat) (bK:aE),aC.drop i1=rest->fG aC k1 rest i1 bK=some r->Ar Γ N f111 (.q [[some (9,1)]] (D.fr 9 1 (r.map tx))) [1,1,0,1,0] (rest.length+1) (uA aC (bK.map tx) (i1:Int)):=by
 intro rest
 induction rest with
 |nil=>
  intro i1 bK b7 h;rw[fG]at h;refine aO fun N1 cN cI=>?_
  exact((aT.ge aI.c b7).a [.hl 0 [3] [0]]).ex hΓ cN (dQ bK h)
 |cons bC cE ih1=>
  intro i1 bK b7 h;rw[fG]at h;refine aO fun N1 cN cI=>?_
  obtain⟨jj,h28,h⟩:=aF h;obtain⟨h29,h⟩:=bu h;exact(((((aT.lt aI.c b7).l (bD aI.c 5 (dc b7) rfl)).g (qL h28)).w (cT h29)).a [.cn [3,6,7,8] [3]]).cs hΓ cI (uA aC ((bK.map tx)++(jj.map tx)) (IntKind.i64.wrap ((i1:Int)+1))) (by first| (simp only[iS b7 hm1,mA]<;>rfl)| (simp only[iS b7 hm1,mA,aL.c,aS.c,aI.c,Action.c,aH.c,aq.c,fW.c,aW.c,Node.c,aR.c,fc.c]<;>rfl)) (ih1 (i1+1) (bK++jj) (dn b7) h)
theorem yl{aC:aY}{r:aE}(h:mq aC=some r):Good prog 111 [D.sl (aC.map aI.c)] (D.fr 9 1 (r.map tx)):=by
 refine gd func111 [[some (9,1)]] 18 fun hr Γ hΓ=>?_
 rw[mq]at h;refine(aT.a [.KE 3,.cn [3,6,7,8] [0]]).lp hΓ (zo hΓ (fun bf h=>?_) (by have:=(gm.sl (hr _ (aB (i:=0) rfl))).1;simpa using this) aC 0 ([]:aE) rfl h);have h:=aJ h;subst h;exact aT.ret hΓ
def gh(aC:aH)(k1:Option Bool):aY->Nat->Option Bool
 | [],i1=>(k1)
 |bC::cE,i1=>((nE bC).bind fun y62=>(bif !(y62)then(some false)else(bif ((i1:Int):Int)==0 then(bif (bC.kind:Int) != 1 then(some false)else((mV aC (i1:Int)).bind fun y67=>(bif !(y67)then(some false)else(gh aC k1 cE (i1+1)))))else((mV aC (i1:Int)).bind fun y70=>(bif !(y70)then(some false)else(gh aC k1 cE (i1+1)))))))
def jq(aC:aH)(LZ:aE)(i2:Nat)(xf:aE)(k3:Option Bool):aE->Nat->Option Bool
 | [],i3=>(k3)
 |RH::NP,i3=>((jD LZ RH).bind fun a0o=>(bif !(a0o)then(some false)else(jq aC LZ i2 xf k3 NP (i3+1))))
def jo(aC:aH)(LZ:aE)(k2:Option Bool):bh->Nat->Option Bool
 | [],i2=>(k2)
 |qp::yT,i2=>((oa qp).bind fun a0n=>(bif !(a0n)then(some false)else((jv qp.pat.args).bind fun xf=>(bif decide (xf.length<=maxLen)then(jq aC LZ i2 xf (jo aC LZ k2 yT (i2+1)) xf 0)else none))))
def rH(aC:aH):Option Bool:=((nF aC.name).bind fun y1=>(bif !(y1)then(some false)else(bif decide ((aC.prio:Int)<0)then(some false)else(bif decide ((aC.prio:Int)>9)then(some false)else(bif decide ((((aC.conds.map aI.c).length:Int):Int)<1)then(some false)else(bif decide ((((aC.conds.map aI.c).length:Int):Int)>4)then(some false)else(bif decide ((((aC.cc.map Action.c).length:Int):Int)<1)then(some false)else(bif decide ((((aC.cc.map Action.c).length:Int):Int)>2)then(some false)else(gh aC ((lT aC ((aC.conds.map aI.c).length:Int)).bind fun LZ=>(jo aC LZ ((mq aC.conds).bind fun a0p=>((iI a0p).bind fun a0q=>(some (decide ((((a0q.map tx).length:Int):Int)<=6))))) aC.cc 0)) aC.conds 0)))))))))
def GQ(aC:aH)(dM:Int):St:=⟨[(1,D.ptr 0 0),(49,D.sl (aC.conds.map aI.c)),(50,D.int .i64 ((aC.conds.map aI.c).length:Int)),(51,D.int .i64 dM)],[Ob.box (aH.c aC)]⟩
theorem F6(hΓ:Γ.nt=111){aC:aH}{r:Bool}{k1:Option Bool}(dQ:k1=some r->Ax Γ N f58 (.q [[none]] (D.bool r)) [1,1,1] ⟨[(1,D.ptr 0 0)],[Ob.box (aH.c aC)]⟩)(hm1:aC.conds.length<=maxLen):∀(rest:aY) (i1:Nat),aC.conds.drop i1=rest->gh aC k1 rest i1=some r->Ar Γ N f58 (.q [[none]] (D.bool r)) [1,1,0,1,0] (rest.length+1) (GQ aC (i1:Int)):=by
 intro rest
 induction rest with
 |nil=>
  intro i1 b7 h;rw[gh]at h;refine aO fun N1 cN cI=>?_
  exact((aT.ge aI.c b7).a [.hl 0 [1] [0]]).ex hΓ cN (dQ h)
 |cons bC cE ih1=>
  intro i1 b7 h;rw[gh]at h;refine aO fun N1 cN cI=>?_
  obtain⟨y62,h63,h⟩:=aF h;have EX:=(((aT.lt aI.c b7).l (bD aI.c 5 (dc b7) rfl)).g (lq h63))
  obtain⟨h64,h⟩|⟨h64,h⟩:=aN h
  ·have h:=aJ h;subst h;exact((((EX.r 3 h64).a [bF,bF,bF]).r 2 h64).T 6).ret hΓ
  ·have Iy:=(EX.r 3 h64)
   obtain⟨h65,h⟩|⟨h65,h⟩:=aN h
   ·have Ms:=((((Iy.r 3 h65).b h64).b h65).b h64)
    obtain⟨h66,h⟩|⟨h66,h⟩:=aN h
    ·have h:=aJ h;subst h;exact((Ms.r 5 h66).T 1).ret hΓ
    ·obtain⟨y67,h68,h⟩:=aF h;have TI:=(((Ms.r 3 h66).g (u9 h68)).r 2 h66)
     obtain⟨h69,h⟩|⟨h69,h⟩:=aN h
     ·have h:=aJ h;subst h;exact(TI.b h69).ret hΓ
     ·exact((TI.b h69).a [.cn [1,49,50,51] [0]]).ct hΓ cI (iS b7 hm1) (ih1 (i1+1) (dn b7) h)
   ·obtain⟨y70,h71,h⟩:=aF h;have TJ:=(((((((Iy.r 3 h65).b h64).b h65).b h64).F 3).g (u9 h71)).F 2)
    obtain⟨h72,h⟩|⟨h72,h⟩:=aN h
    ·have h:=aJ h;subst h;exact(TJ.b h72).ret hΓ
    ·exact((TJ.b h72).a [.cn [1,49,50,51] [0]]).ct hΓ cI (iS b7 hm1) (ih1 (i1+1) (dn b7) h)
def GR(aC:aH)(LZ:aE)(dM:Int):St:=⟨[(1,D.ptr 0 0),(5,D.acc 1),(81,D.sl (aC.cc.map Action.c)),(82,D.int .i64 ((aC.cc.map Action.c).length:Int)),(83,D.int .i64 dM)],[Ob.box (aH.c aC),Ob.row .uq 9 1 (LZ.map tx)]⟩
def GS(aC:aH)(LZ:aE)(i2:Nat)(xf:aE)(dM:Int):St:=⟨[(1,D.ptr 0 0),(5,D.acc 1),(81,D.sl (aC.cc.map Action.c)),(82,D.int .i64 ((aC.cc.map Action.c).length:Int)),(83,D.int .i64 (i2:Int)),(93,D.acc 2),(94,D.int .i64 ((xf.map tx).length:Int)),(95,D.int .i64 dM)],[Ob.box (aH.c aC),Ob.row .uq 9 1 (LZ.map tx),Ob.row .uq 9 1 (xf.map tx)]⟩
theorem F8(hΓ:Γ.nt=111){aC:aH}{LZ:aE}{i2:Nat}{xf:aE}{r:Bool}{k3:Option Bool}(XS:k3=some r->Ax Γ N f58 (.q [[none]] (D.bool r)) [1,1,1,1,0,1,0,0,1,1,1] ⟨[(1,D.ptr 0 0),(5,D.acc 1),(81,D.sl (aC.cc.map Action.c)),(82,D.int .i64 ((aC.cc.map Action.c).length:Int)),(83,D.int .i64 (i2:Int))],[Ob.box (aH.c aC),Ob.row .uq 9 1 (LZ.map tx)]⟩)(Qa:xf.length<=maxLen):∀(rest:aE) (i3:Nat),xf.drop i3=rest->jq aC LZ i2 xf k3 rest i3=some r->Ar Γ N f58 (.q [[none]] (D.bool r)) [1,1,1,1,0,1,0,0,1,1,0,0,1,1,1,0] (rest.length+1) (GS aC LZ i2 xf (i3:Int)):=by
 intro rest
 induction rest with
 |nil=>
  intro i3 xg h;rw[jq]at h;refine aO fun N3 S9 NM=>?_
  exact((aT.ge tx xg).a [.hl 3 [1,5,81,82,83] [0,1]]).ex hΓ S9 (XS h)
 |cons RH NP ih3=>
  intro i3 xg h;rw[jq]at h;refine aO fun N3 S9 NM=>?_
  obtain⟨a0o,h230,h⟩:=aF h;have a0J:=((((aT.lt tx xg).i (mQ tx 1 (dc xg))).o 1 1 .uq (fX tx (dc xg))).g (nO h230))
  obtain⟨h231,h⟩|⟨h231,h⟩:=aN h
  ·have h:=aJ h;subst h;exact(a0J.b h231).ret hΓ
  ·exact((a0J.b h231).a [.cn [1,5,81,82,83,93,94,95] [0,1,2]]).ct hΓ NM (iS xg Qa) (ih3 (i3+1) (dn xg) h)
theorem F7(hΓ:Γ.nt=111){aC:aH}{LZ:aE}{r:Bool}{k2:Option Bool}(Ho:k2=some r->Ax Γ N f58 (.q [[none]] (D.bool r)) [1,1,1,1,1] ⟨[(1,D.ptr 0 0)],[Ob.box (aH.c aC)]⟩)(hm2:aC.cc.length<=maxLen):∀(rest:bh) (i2:Nat),aC.cc.drop i2=rest->jo aC LZ k2 rest i2=some r->Ar Γ N f58 (.q [[none]] (D.bool r)) [1,1,1,1,0,1,0] (rest.length+1) (GR aC LZ (i2:Int)):=by
 intro rest
 induction rest with
 |nil=>
  intro i2 hd2 h;rw[jo]at h;refine aO fun N2 Ac xP=>?_
  exact((aT.ge Action.c hd2).a [.hl 0 [1] [0]]).ex hΓ Ac (Ho h)
 |cons qp yT ih2=>
  intro i2 hd2 h;rw[jo]at h;refine aO fun N2 Ac xP=>?_
  obtain⟨a0n,h204,h⟩:=aF h;have a0K:=(((aT.lt Action.c hd2).l (bD Action.c 3 (dc hd2) rfl)).g (As h204))
  obtain⟨h205,h⟩|⟨h205,h⟩:=aN h
  ·have h:=aJ h;subst h;exact(a0K.b h205).ret hΓ
  ·obtain⟨xf,h207,h⟩:=aF h;obtain⟨h232,h⟩:=bu h;refine(((a0K.b h205).g (pg h207)).a [.cn [1,5,81,82,83,93,94,95] [0,1,3]]).lp hΓ (F8 hΓ (fun h=>?_) (bq h232) xf 0 rfl h);exact(aT.a [.cn [1,5,81,82,83] [0,1]]).ct hΓ xP (iS hd2 hm2) (ih2 (i2+1) (dn hd2) h)
theorem Dk{aC:aH}{r:Bool}(h:rH aC=some r):Good prog 58 [D.agg (aH.c aC)] (D.bool r):=by
 refine gd func58 [[none]] 111 fun hr Γ hΓ=>?_
 rw[rH]at h;obtain⟨y1,h2,h⟩:=aF h;obtain⟨h3,h⟩|⟨h3,h⟩:=aN h
 ·have h:=aJ h;subst h;exact(((aT.g (jm h2)).r 4 h3).T 25).ret hΓ
 ·have a0L:=((aT.g (jm h2)).r 4 h3)
  obtain⟨h4,h⟩|⟨h4,h⟩:=aN h
  ·have h:=aJ h;subst h;exact((a0L.r 4 h4).T 21).ret hΓ
  ·have a0M:=(a0L.r 4 h4)
   obtain⟨h5,h⟩|⟨h5,h⟩:=aN h
   ·have h:=aJ h;subst h;exact((a0M.r 5 h5).T 16).ret hΓ
   ·have a0N:=(a0M.r 5 h5)
    obtain⟨h6,h⟩|⟨h6,h⟩:=aN h
    ·have h:=aJ h;subst h;exact((a0N.r 5 h6).T 11).ret hΓ
    ·have a0O:=(a0N.r 5 h6)
     obtain⟨h7,h⟩|⟨h7,h⟩:=aN h
     ·have h:=aJ h;subst h;exact((a0O.r 5 h7).T 6).ret hΓ
     ·have a0P:=(a0O.r 5 h7)
      obtain⟨h8,h⟩|⟨h8,h⟩:=aN h
      ·have h:=aJ h;subst h;exact((a0P.r 5 h8).T 1).ret hΓ
      ·have a0Q:=(a0P.r 5 h8)
       obtain⟨h9,h⟩|⟨h9,h⟩:=aN h
       ·have h:=aJ h;subst h;exact(a0Q.b h9).ret hΓ
       ·refine((a0Q.b h9).a [.cn [1,49,50,51] [0]]).lp hΓ (F6 hΓ (fun h=>?_) (by have:=(gm.sl (gm.agg (hr _ (aB (i:=0) rfl)) (.sl (aC.conds.map aI.c)) (by simp))).1;simpa using this) aC.conds 0 rfl h);obtain⟨LZ,h74,h⟩:=aF h;refine((aT.g (tA h74)).a [.cn [1,5,81,82,83] [0,1]]).lp hΓ (F7 hΓ (fun h=>?_) (by have:=(gm.sl (gm.agg (hr _ (aB (i:=0) rfl)) (.sl (aC.cc.map Action.c)) (by simp))).1;simpa using this) aC.cc 0 rfl h);obtain⟨a0p,h234,h⟩:=aF h;obtain⟨a0q,h236,h⟩:=aF h;cases h;exact((aT.g (yl h234)).g (nY h236)).ret hΓ
def iG(aC:af)(aZ:Bytes)(k1:Option Int):af->Nat->Option Int
 | [],i1=>(k1)
 |bC::cE,i1=>(bif (bC.name:Bytes)==aZ then(some (i1:Int))else(iG aC aZ k1 cE (i1+1)))
def oZ(aC:af)(aZ:Bytes):Option Int:=(iG aC aZ (some (-1)) aC 0)
def Di(aC:af)(aZ:Bytes)(dM:Int):St:=⟨[(1,D.str aZ),(7,D.sl (aC.map aH.c)),(8,D.int .i64 ((aC.map aH.c).length:Int)),(9,D.int .i64 dM)],[]⟩
theorem CS(hΓ:Γ.nt=20){aC:af}{aZ:Bytes}{r:Int}{k1:Option Int}(dQ:k1=some r->Ax Γ N f59 (.q [[none]] (D.int .i64 r)) [1,1] ⟨[],[]⟩)(hm1:aC.length<=maxLen):∀(rest:af) (i1:Nat),aC.drop i1=rest->iG aC aZ k1 rest i1=some r->Ar Γ N f59 (.q [[none]] (D.int .i64 r)) [1,0,1,0] (rest.length+1) (Di aC aZ (i1:Int)):=by
 intro rest
 induction rest with
 |nil=>
  intro i1 b7 h;rw[iG]at h;refine aO fun N1 cN cI=>?_
  exact((aT.ge aH.c b7).a [.hl 0 [] []]).ex hΓ cN (dQ h)
 |cons bC cE ih1=>
  intro i1 b7 h;rw[iG]at h;refine aO fun N1 cN cI=>?_
  have gJ:=((aT.lt aH.c b7).l (bD aH.c 4 (dc b7) rfl))
  obtain⟨h13,h⟩|⟨h13,h⟩:=aN h
  ·cases h;exact(gJ.b h13).ret hΓ
  ·exact((gJ.b h13).a [.cn [1,7,8,9] []]).ct hΓ cI (iS b7 hm1) (ih1 (i1+1) (dn b7) h)
theorem Aq{aC:af}{aZ:Bytes}{r:Int}(h:oZ aC aZ=some r):Good prog 59 [D.sl (aC.map aH.c),D.str aZ] (D.int .i64 r):=by
 refine gd func59 [[none]] 20 fun hr Γ hΓ=>?_
 rw[oZ]at h;refine(aT.a [.cn [1,7,8,9] []]).lp hΓ (CS hΓ (fun h=>?_) (by have:=(gm.sl (hr _ (aB (i:=0) rfl))).1;simpa using this) aC 0 rfl h);cases h;exact aT.ret hΓ
def iF(aC:af)(k1:Option Bool):af->Nat->Option Bool
 | [],i1=>(k1)
 |bC::cE,i1=>((rH bC).bind fun DN=>(bif !(DN)then(some false)else((oZ aC bC.name).bind fun LY=>(bif (LY:Int) != (i1:Int)then(some false)else(iF aC k1 cE (i1+1))))))
def oY(aC:af):Option Bool:=(bif decide ((((aC.map aH.c).length:Int):Int)>6)then(some false)else(iF aC (some true) aC 0))
def Dg(aC:af)(dM:Int):St:=⟨[(0,D.sl (aC.map aH.c)),(8,D.sl (aC.map aH.c)),(9,D.int .i64 ((aC.map aH.c).length:Int)),(10,D.int .i64 dM)],[]⟩
theorem CR(hΓ:Γ.nt=27){aC:af}{r:Bool}{k1:Option Bool}(dQ:k1=some r->Ax Γ N f23 (.q [[none]] (D.bool r)) [1,1,1] ⟨[],[]⟩)(hm1:aC.length<=maxLen):∀(rest:af) (i1:Nat),aC.drop i1=rest->iF aC k1 rest i1=some r->Ar Γ N f23 (.q [[none]] (D.bool r)) [1,1,0,1,0] (rest.length+1) (Dg aC (i1:Int)):=by
 intro rest
 induction rest with
 |nil=>
  intro i1 b7 h;rw[iF]at h;refine aO fun N1 cN cI=>?_
  exact((aT.ge aH.c b7).a [.hl 0 [] []]).ex hΓ cN (dQ h)
 |cons bC cE ih1=>
  intro i1 b7 h;rw[iF]at h;refine aO fun N1 cN cI=>?_
  obtain⟨DN,h35,h⟩:=aF h;have oR:=(((aT.lt aH.c b7).l (bD aH.c 4 (dc b7) rfl)).g (Dk h35))
  obtain⟨h36,h⟩|⟨h36,h⟩:=aN h
  ·have h:=aJ h;subst h;exact((oR.r 7 h36).T 1).ret hΓ
  ·obtain⟨LY,h38,h⟩:=aF h;have nS:=(((oR.r 4 h36).g (Aq h38)).r 3 h36)
   obtain⟨h39,h⟩|⟨h39,h⟩:=aN h
   ·have h:=aJ h;subst h;exact(nS.b h39).ret hΓ
   ·exact((nS.b h39).a [.cn [0,8,9,10] []]).ct hΓ cI (iS b7 hm1) (ih1 (i1+1) (dn b7) h)
theorem tq{aC:af}{r:Bool}(h:oY aC=some r):Good prog 23 [D.sl (aC.map aH.c)] (D.bool r):=by
 refine gd func23 [[none]] 27 fun hr Γ hΓ=>?_
 rw[oY]at h;obtain⟨h1,h⟩|⟨h1,h⟩:=aN h
 ·have h:=aJ h;subst h;exact(aT.b h1).ret hΓ
 ·refine((aT.b h1).a [.cn [0,8,9,10] []]).lp hΓ (CR hΓ (fun h=>?_) (by have:=(gm.sl (hr _ (aB (i:=0) rfl))).1;simpa using this) aC 0 rfl h);have h:=aJ h;subst h;exact aT.ret hΓ
def fM(aC:aL):Option aL:=((ju aC.args).bind fun y1=>(some (⟨aC.rel,y1⟩:aL)))
theorem sA{aC:aL}{r:aL}(h:fM aC=some r):Good prog 157 [D.agg (aL.c aC)] (D.agg [D.str r.rel,D.fr 9 1 (r.args.map tx)]):=by
 refine gd func157 [[none,some (9,1)]] 9 fun hr Γ hΓ=>?_
 rw[fM]at h;obtain⟨y1,h2,h⟩:=aF h;cases h;exact((aT.a [.n 5]).g (pZ h2)).ret hΓ
def gW(aC:aI):Option aI:=((fM aC.pat).bind fun y1=>(some (⟨aC.kind,y1,aC.left,aC.right⟩:aI)))
theorem kR{aC:aI}{r:aI}(h:gW aC=some r):Good prog 118 [D.agg (aI.c aC)] (D.agg [D.int .i64 r.kind,D.str r.pat.rel,D.fr 9 1 (r.pat.args.map tx),D.str r.left,D.str r.right]):=by
 refine gd func118 [[none,none,some (9,1),none,none]] 8 fun hr Γ hΓ=>?_
 rw[gW]at h;obtain⟨y1,h2,h⟩:=aF h;cases h;exact(aT.g (sA h2)).ret hΓ
def jT(aC:aY)(k1:aY->Option aY):aY->Nat->aY->Option aY
 | [],i1,bK=>(k1 bK)
 |bC::cE,i1,bK=>((gW bC).bind fun jj=>(bif room ((bK.map aI.c).length+([[D.int .i64 jj.kind,D.str jj.pat.rel,D.sl (jj.pat.args.map tx),D.str jj.left,D.str jj.right]]).length) 80 then(jT aC k1 cE (i1+1) (bK++([jj])))else none))
def nZ(aC:aY):Option aY:=(jT aC (fun(bf:aY)=>(some bf)) aC 0 ([]:aY))
def um(aC:aY)(W0:List aK)(dM:Int):St:=⟨[(3,D.acc 0),(6,D.sl (aC.map aI.c)),(7,D.int .i64 ((aC.map aI.c).length:Int)),(8,D.int .i64 dM)],[Ob.row .uq 71 5 W0]⟩
theorem Az(hΓ:Γ.nt=19){aC:aY}{r:aY}{k1:aY->Option aY}(dQ:∀(bf:aY),k1 bf=some r->Ax Γ N f156 (.q [[some (71,5)]] (D.fr 71 5 (r.map aI.c))) [1,1,1] ⟨[(3,D.acc 0)],[Ob.row .uq 71 5 (bf.map aI.c)]⟩)(hm1:aC.length<=maxLen):∀(rest:aY) (i1:Nat) (bK:aY),aC.drop i1=rest->jT aC k1 rest i1 bK=some r->Ar Γ N f156 (.q [[some (71,5)]] (D.fr 71 5 (r.map aI.c))) [1,1,0,1,0] (rest.length+1) (um aC (bK.map aI.c) (i1:Int)):=by
 intro rest
 induction rest with
 |nil=>
  intro i1 bK b7 h;rw[jT]at h;refine aO fun N1 cN cI=>?_
  exact((aT.ge aI.c b7).a [.hl 0 [3] [0]]).ex hΓ cN (dQ bK h)
 |cons bC cE ih1=>
  intro i1 bK b7 h;rw[jT]at h;refine aO fun N1 cN cI=>?_
  obtain⟨jj,h28,h⟩:=aF h;obtain⟨h29,h⟩:=bu h;exact(((((aT.lt aI.c b7).l (bD aI.c 5 (dc b7) rfl)).g (kR h28)).w (cT h29)).a [.cn [3,6,7,8] [4]]).cs hΓ cI (um aC ((bK.map aI.c)++([[D.int .i64 jj.kind,D.str jj.pat.rel,D.sl (jj.pat.args.map tx),D.str jj.left,D.str jj.right]])) (IntKind.i64.wrap ((i1:Int)+1))) (by first| (simp only[iS b7 hm1,mA]<;>rfl)| (simp only[iS b7 hm1,mA,aL.c,aS.c,aI.c,Action.c,aH.c,aq.c,fW.c,aW.c,Node.c,aR.c,fc.c]<;>rfl)) (ih1 (i1+1) (bK++([jj])) (dn b7) h)
theorem zq{aC:aY}{r:aY}(h:nZ aC=some r):Good prog 156 [D.sl (aC.map aI.c)] (D.fr 71 5 (r.map aI.c)):=by
 refine gd func156 [[some (71,5)]] 19 fun hr Γ hΓ=>?_
 rw[nZ]at h;refine(aT.a [.KE 3,.cn [3,6,7,8] [0]]).lp hΓ (Az hΓ (fun bf h=>?_) (by have:=(gm.sl (hr _ (aB (i:=0) rfl))).1;simpa using this) aC 0 ([]:aY) rfl h);have h:=aJ h;subst h;exact aT.ret hΓ
def iJ(aC:aH)(y1:aY)(k1:bh->Option aH):bh->Nat->bh->Option aH
 | [],i1,eL=>(k1 eL)
 |bC::cE,i1,eL=>((fM bC.pat).bind fun xk=>(bif room ((eL.map Action.c).length+([[D.int .i64 bC.kind,D.str xk.rel,D.sl (xk.args.map tx)]]).length) 48 then(iJ aC y1 k1 cE (i1+1) (eL++([(⟨bC.kind,xk⟩:Action)])))else none))
def mW(aC:aH):Option aH:=((nZ aC.conds).bind fun y1=>(iJ aC y1 (fun(kI:bh)=>(some (⟨aC.name,aC.prio,y1,kI⟩:aH))) aC.cc 0 ([]:bh)))
def vv(aC:aH)(y1:aY)(W0:List aK)(dM:Int):St:=⟨[(2,D.ptr 0 0),(3,D.ptr 1 0),(15,D.sl (aC.cc.map Action.c)),(16,D.int .i64 ((aC.cc.map Action.c).length:Int)),(17,D.int .i64 dM)],[Ob.box [D.str ([]),D.int .i64 0,D.nil,D.nil],Ob.box [D.str aC.name,D.int .i64 aC.prio,D.acc 2,D.acc 3],Ob.row .uq 71 5 (y1.map aI.c),Ob.row .uq 100 3 W0]⟩
theorem CX(hΓ:Γ.nt=34){aC:aH}{y1:aY}{r:aH}{k1:bh->Option aH}(dQ:∀(kI:bh),k1 kI=some r->Ax Γ N f112 (.q [[none,none,some (71,5),some (100,3)]] (D.agg [D.str r.name,D.int .i64 r.prio,D.fr 71 5 (r.conds.map aI.c),D.fr 100 3 (r.cc.map Action.c)])) [1,1,1] ⟨[(2,D.ptr 0 0),(3,D.ptr 1 0)],[Ob.box [D.str ([]),D.int .i64 0,D.nil,D.nil],Ob.box [D.str aC.name,D.int .i64 aC.prio,D.acc 2,D.acc 3],Ob.row .uq 71 5 (y1.map aI.c),Ob.row .uq 100 3 (kI.map Action.c)]⟩)(hm1:aC.cc.length<=maxLen):∀(rest:bh) (i1:Nat) (eL:bh),aC.cc.drop i1=rest->iJ aC y1 k1 rest i1 eL=some r->Ar Γ N f112 (.q [[none,none,some (71,5),some (100,3)]] (D.agg [D.str r.name,D.int .i64 r.prio,D.fr 71 5 (r.conds.map aI.c),D.fr 100 3 (r.cc.map Action.c)])) [1,1,0,1,0] (rest.length+1) (vv aC y1 (eL.map Action.c) (i1:Int)):=by
 intro rest
 induction rest with
 |nil=>
  intro i1 eL b7 h;rw[iJ]at h;refine aO fun N1 cN cI=>?_
  exact((aT.ge Action.c b7).a [.hl 0 [2,3] [0,1,2,3]]).ex hΓ cN (dQ eL h)
 |cons bC cE ih1=>
  intro i1 eL b7 h;rw[iJ]at h;refine aO fun N1 cN cI=>?_
  obtain⟨xk,h42,h⟩:=aF h;obtain⟨h43,h⟩:=bu h;exact((((((aT.lt Action.c b7).l (bD Action.c 3 (dc b7) rfl)).a [.n2 [0,1,2,3,4,5,6,7,8,9,10,11] [0,1,2,3,4,5,6,7,8,9,10,11] 8 9 [0,1] [5]]).g (sA h42)).w (cT h43)).a [.cn [2,3,15,16,17] [0,1,2,7]]).cs hΓ cI (vv aC y1 ((eL.map Action.c)++([[D.int .i64 bC.kind,D.str xk.rel,D.sl (xk.args.map tx)]])) (IntKind.i64.wrap ((i1:Int)+1))) (by first| (simp only[iS b7 hm1,mA]<;>rfl)| (simp only[iS b7 hm1,mA,aL.c,aS.c,aI.c,Action.c,aH.c,aq.c,fW.c,aW.c,Node.c,aR.c,fc.c]<;>rfl)) (ih1 (i1+1) (eL++([(⟨bC.kind,xk⟩:Action)])) (dn b7) h)
theorem B1{aC:aH}{r:aH}(h:mW aC=some r):Good prog 112 [D.agg (aH.c aC)] (D.agg [D.str r.name,D.int .i64 r.prio,D.fr 71 5 (r.conds.map aI.c),D.fr 100 3 (r.cc.map Action.c)]):=by
 refine gd func112 [[none,none,some (71,5),some (100,3)]] 34 fun hr Γ hΓ=>?_
 rw[mW]at h;obtain⟨y1,h2,h⟩:=aF h;refine(((aT.a [.n 9]).g (zq h2)).a [.pb 3 3 100 3,.cn [2,3,15,16,17] [1,3,2,4]]).lp hΓ (CX hΓ (fun kI h=>?_) (by have:=(gm.sl (gm.agg (hr _ (aB (i:=0) rfl)) (.sl (aC.cc.map Action.c)) (by simp))).1;simpa using this) aC.cc 0 ([]:bh) rfl h);cases h;exact aT.ret hΓ
def jV(aC:af)(k1:af->Option af):af->Nat->af->Option af
 | [],i1,bK=>(k1 bK)
 |bC::cE,i1,bK=>((mW bC).bind fun jj=>(bif room ((bK.map aH.c).length+([[D.str jj.name,D.int .i64 jj.prio,D.sl (jj.conds.map aI.c),D.sl (jj.cc.map Action.c)]]).length) 72 then(jV aC k1 cE (i1+1) (bK++([jj])))else none))
def nc(aC:af):Option af:=(jV aC (fun(bf:af)=>(some bf)) aC 0 ([]:af))
def ur(aC:af)(W0:List aK)(dM:Int):St:=⟨[(3,D.acc 0),(6,D.sl (aC.map aH.c)),(7,D.int .i64 ((aC.map aH.c).length:Int)),(8,D.int .i64 dM)],[Ob.row .uq 31 4 W0]⟩
theorem B2(hΓ:Γ.nt=19){aC:af}{r:af}{k1:af->Option af}(dQ:∀(bf:af),k1 bf=some r->Ax Γ N f60 (.q [[some (31,4)]] (D.fr 31 4 (r.map aH.c))) [1,1,1] ⟨[(3,D.acc 0)],[Ob.row .uq 31 4 (bf.map aH.c)]⟩)(hm1:aC.length<=maxLen):∀(rest:af) (i1:Nat) (bK:af),aC.drop i1=rest->jV aC k1 rest i1 bK=some r->Ar Γ N f60 (.q [[some (31,4)]] (D.fr 31 4 (r.map aH.c))) [1,1,0,1,0] (rest.length+1) (ur aC (bK.map aH.c) (i1:Int)):=by
 intro rest
 induction rest with
 |nil=>
  intro i1 bK b7 h;rw[jV]at h;refine aO fun N1 cN cI=>?_
  exact((aT.ge aH.c b7).a [.hl 0 [3] [0]]).ex hΓ cN (dQ bK h)
 |cons bC cE ih1=>
  intro i1 bK b7 h;rw[jV]at h;refine aO fun N1 cN cI=>?_
  obtain⟨jj,h28,h⟩:=aF h;obtain⟨h29,h⟩:=bu h;exact(((((aT.lt aH.c b7).l (bD aH.c 4 (dc b7) rfl)).g (B1 h28)).w (cT h29)).a [.cn [3,6,7,8] [5]]).cs hΓ cI (ur aC ((bK.map aH.c)++([[D.str jj.name,D.int .i64 jj.prio,D.sl (jj.conds.map aI.c),D.sl (jj.cc.map Action.c)]])) (IntKind.i64.wrap ((i1:Int)+1))) (by first| (simp only[iS b7 hm1,mA]<;>rfl)| (simp only[iS b7 hm1,mA,aL.c,aS.c,aI.c,Action.c,aH.c,aq.c,fW.c,aW.c,Node.c,aR.c,fc.c]<;>rfl)) (ih1 (i1+1) (bK++([jj])) (dn b7) h)
theorem zu{aC:af}{r:af}(h:nc aC=some r):Good prog 60 [D.sl (aC.map aH.c)] (D.fr 31 4 (r.map aH.c)):=by
 refine gd func60 [[some (31,4)]] 19 fun hr Γ hΓ=>?_
 rw[nc]at h;refine(aT.a [.KE 3,.cn [3,6,7,8] [0]]).lp hΓ (B2 hΓ (fun bf h=>?_) (by have:=(gm.sl (hr _ (aB (i:=0) rfl))).1;simpa using this) aC 0 ([]:af) rfl h);have h:=aJ h;subst h;exact aT.ret hΓ
def iW(aC:Int):Option Bytes:=((wG aC).bind fun y1=>(some y1))
theorem tB{aC:Int}{r:Bytes}(h:iW aC=some r):Good prog 177 [D.int .i64 aC] (D.str r):=by
 refine gd func177 [[none]] 5 fun hr Γ hΓ=>?_
 rw[iW]at h;obtain⟨y1,h2,h⟩:=aF h;have h:=aJ h;subst h;exact(aT.g (DG h2)).ret hΓ
def eG(aC:aE)(k1:aQ->Option aQ):aE->Nat->aQ->List (Bytes×Bool)->Option aQ
 | [],i1,bK,xV=>(k1 bK)
 |bC::cE,i1,bK,xV=>((jA bC).bind fun y52=>(bif y52 then(bif !(Fl false bC xV)then((iW (IntKind.i64.wrap (((bK.map aS.c).length:Int)+1))).bind fun UK=>(bif decide (([63]:Bytes).length+(UK:Bytes).length<=maxLen)then(bif room ((bK.map aS.c).length+([[D.str bC,D.str (([63])++UK)]]).length) 32 then(eG aC k1 cE (i1+1) (bK++([(⟨bC,([63])++UK⟩:aS)])) (Ip bC true xV))else none)else none))else(eG aC k1 cE (i1+1) bK xV))else(eG aC k1 cE (i1+1) bK xV)))
def kZ(aC:aE):Option aQ:=(eG aC (fun(bf:aQ)=>(some bf)) aC 0 ([]:aQ) ([]:List (Bytes×Bool)))
def uB(aC:aE)(W0:List aK)(W1:List (D×D))(dM:Int):St:=⟨[(3,D.acc 0),(4,D.acc 1),(8,D.sl (aC.map tx)),(9,D.int .i64 ((aC.map tx).length:Int)),(10,D.int .i64 dM)],[Ob.row .uq 175 2 W0,Ob.mp W1]⟩
theorem zv(hΓ:Γ.nt=36){aC:aE}{r:aQ}{k1:aQ->Option aQ}(dQ:∀(bf:aQ),k1 bf=some r->Ax Γ N f159 (.q [[some (175,2)]] (D.fr 175 2 (r.map aS.c))) [1,1,1,1] ⟨[(3,D.acc 0)],[Ob.row .uq 175 2 (bf.map aS.c)]⟩)(hm1:aC.length<=maxLen):∀(rest:aE) (i1:Nat) (bK:aQ) (xV:List (Bytes×Bool)),aC.drop i1=rest->eG aC k1 rest i1 bK xV=some r->Ar Γ N f159 (.q [[some (175,2)]] (D.fr 175 2 (r.map aS.c))) [1,1,1,0,1,0] (rest.length+1) (uB aC (bK.map aS.c) (xV.map (kS eB)) (i1:Int)):=by
 intro rest
 induction rest with
 |nil=>
  intro i1 bK xV b7 h;rw[eG]at h;refine aO fun N1 cN cI=>?_
  exact((aT.ge tx b7).a [.hl 0 [3] [0]]).ex hΓ cN (dQ bK h)
 |cons bC cE ih1=>
  intro i1 bK xV b7 h;rw[eG]at h;refine aO fun N1 cN cI=>?_
  obtain⟨y52,h53,h⟩:=aF h;have oR:=(((aT.lt tx b7).l (bD tx 1 (dc b7) rfl)).g (kY h53))
  obtain⟨h54,h⟩|⟨h54,h⟩:=aN h
  ·have nS:=((((oR.r 3 h54).w (show Z4 prog 189 (xV.map (kS eB)) (D.str bC) false=some (D.bool (Fl false bC xV))from a0F (e:=eB) (z:=false) (by kernel_rfl))).a [.d (D.bool (Fl false bC xV))]).r 2 h54)
   obtain⟨h55,h⟩|⟨h55,h⟩:=aN h
   ·obtain⟨UK,h57,h⟩:=aF h;obtain⟨h58,h⟩:=bu h;obtain⟨h59,h⟩:=bu h;exact(((((((nS.b h55).w (show Fj (D.str bC) (D.bool true) (xV.map (kS eB))=some ((Ip bC true xV).map (kS eB))from TP (e:=eB) (m:=xV))).a [.kv ((Ip bC true xV).map (kS eB))]).g (tB h57)).w (bq h58)).w (cT h59)).a [.cn [3,4,8,9,10] [3,1]]).cs hΓ cI (uB aC ((bK.map aS.c)++([[D.str bC,D.str (([63])++UK)]])) ((Ip bC true xV).map (kS eB)) (IntKind.i64.wrap ((i1:Int)+1))) (by first| (simp only[iS b7 hm1,mA]<;>rfl)| (simp only[iS b7 hm1,mA,aL.c,aS.c,aI.c,Action.c,aH.c,aq.c,fW.c,aW.c,Node.c,aR.c,fc.c]<;>rfl)) (ih1 (i1+1) (bK++([(⟨bC,([63])++UK⟩:aS)])) (Ip bC true xV) (dn b7) h)
   ·exact((nS.b h55).a [.cn [3,4,8,9,10] [0,1]]).ct hΓ cI (iS b7 hm1) (ih1 (i1+1) bK xV (dn b7) h)
  ·exact(((oR.r 5 h54).F 1).a [.cn [3,4,8,9,10] [0,1]]).ct hΓ cI (iS b7 hm1) (ih1 (i1+1) bK xV (dn b7) h)
theorem sU{aC:aE}{r:aQ}(h:kZ aC=some r):Good prog 159 [D.sl (aC.map tx)] (D.fr 175 2 (r.map aS.c)):=by
 refine gd func159 [[some (175,2)]] 36 fun hr Γ hΓ=>?_
 rw[kZ]at h;refine(aT.a [.KE 3,.cn [3,4,8,9,10] [0,1]]).lp hΓ (zv hΓ (fun bf h=>?_) (by have:=(gm.sl (hr _ (aB (i:=0) rfl))).1;simpa using this) aC 0 ([]:aQ) ([]:List (Bytes×Bool)) rfl h);have h:=aJ h;subst h;exact aT.ret hΓ
def fF(aC:aH)(k1:aE->Option aQ):aY->Nat->aE->Option aQ
 | [],i1,bK=>(k1 bK)
 |bC::cE,i1,bK=>((nj bC).bind fun jj=>(bif room ((bK.map tx).length+(jj.map tx).length) 16 then(fF aC k1 cE (i1+1) (bK++jj))else none))
def mo(aC:aH):Option aQ:=(fF aC (fun(bf:aE)=>((kZ bf).bind fun Gq=>(some Gq))) aC.conds 0 ([]:aE))
def tv(aC:aH)(W0:List aK)(dM:Int):St:=⟨[(3,D.acc 0),(7,D.sl (aC.conds.map aI.c)),(8,D.int .i64 ((aC.conds.map aI.c).length:Int)),(9,D.int .i64 dM)],[Ob.row .uq 9 1 W0]⟩
theorem zm(hΓ:Γ.nt=20){aC:aH}{r:aQ}{k1:aE->Option aQ}(dQ:∀(bf:aE),k1 bf=some r->Ax Γ N f113 (.q [[some (175,2)]] (D.fr 175 2 (r.map aS.c))) [1,1,1] ⟨[(3,D.acc 0)],[Ob.row .uq 9 1 (bf.map tx)]⟩)(hm1:aC.conds.length<=maxLen):∀(rest:aY) (i1:Nat) (bK:aE),aC.conds.drop i1=rest->fF aC k1 rest i1 bK=some r->Ar Γ N f113 (.q [[some (175,2)]] (D.fr 175 2 (r.map aS.c))) [1,1,0,1,0] (rest.length+1) (tv aC (bK.map tx) (i1:Int)):=by
 intro rest
 induction rest with
 |nil=>
  intro i1 bK b7 h;rw[fF]at h;refine aO fun N1 cN cI=>?_
  exact((aT.ge aI.c b7).a [.hl 0 [3] [0]]).ex hΓ cN (dQ bK h)
 |cons bC cE ih1=>
  intro i1 bK b7 h;rw[fF]at h;refine aO fun N1 cN cI=>?_
  obtain⟨jj,h28,h⟩:=aF h;obtain⟨h29,h⟩:=bu h;exact(((((aT.lt aI.c b7).l (bD aI.c 5 (dc b7) rfl)).g (uw h28)).w (cT h29)).a [.cn [3,7,8,9] [3]]).cs hΓ cI (tv aC ((bK.map tx)++(jj.map tx)) (IntKind.i64.wrap ((i1:Int)+1))) (by first| (simp only[iS b7 hm1,mA]<;>rfl)| (simp only[iS b7 hm1,mA,aL.c,aS.c,aI.c,Action.c,aH.c,aq.c,fW.c,aW.c,Node.c,aR.c,fc.c]<;>rfl)) (ih1 (i1+1) (bK++jj) (dn b7) h)
theorem yh{aC:aH}{r:aQ}(h:mo aC=some r):Good prog 113 [D.agg (aH.c aC)] (D.fr 175 2 (r.map aS.c)):=by
 refine gd func113 [[some (175,2)]] 20 fun hr Γ hΓ=>?_
 rw[mo]at h;refine(aT.a [.KE 3,.cn [3,7,8,9] [1]]).lp hΓ (zm hΓ (fun bf h=>?_) (by have:=(gm.sl (gm.agg (hr _ (aB (i:=0) rfl)) (.sl (aC.conds.map aI.c)) (by simp))).1;simpa using this) aC.conds 0 ([]:aE) rfl h);obtain⟨Gq,h31,h⟩:=aF h;have h:=aJ h;subst h;exact(aT.g (sU h31)).ret hΓ
def gC(aC:Bytes)(aZ:aQ)(k1:Option Bytes):aQ->Nat->Option Bytes
 | [],i1=>(k1)
 |bC::cE,i1=>(bif (bC.var:Bytes)==aC then(some bC.value)else(gC aC aZ k1 cE (i1+1)))
def gM(aC:Bytes)(aZ:aQ):Option Bytes:=(gC aC aZ (some aC) aZ 0)
def zw(aC:Bytes)(aZ:aQ)(dM:Int):St:=⟨[(0,D.str aC),(7,D.sl (aZ.map aS.c)),(8,D.int .i64 ((aZ.map aS.c).length:Int)),(9,D.int .i64 dM)],[]⟩
theorem ym(hΓ:Γ.nt=21){aC:Bytes}{aZ:aQ}{r:Bytes}{k1:Option Bytes}(dQ:k1=some r->Ax Γ N f160 (.q [[none]] (D.str r)) [1,1] ⟨[(0,D.str aC)],[]⟩)(hm1:aZ.length<=maxLen):∀(rest:aQ) (i1:Nat),aZ.drop i1=rest->gC aC aZ k1 rest i1=some r->Ar Γ N f160 (.q [[none]] (D.str r)) [1,0,1,0] (rest.length+1) (zw aC aZ (i1:Int)):=by
 intro rest
 induction rest with
 |nil=>
  intro i1 b7 h;rw[gC]at h;refine aO fun N1 cN cI=>?_
  exact((aT.ge aS.c b7).a [.hl 0 [0] []]).ex hΓ cN (dQ h)
 |cons bC cE ih1=>
  intro i1 b7 h;rw[gC]at h;refine aO fun N1 cN cI=>?_
  have gJ:=((aT.lt aS.c b7).l (bD aS.c 2 (dc b7) rfl))
  obtain⟨h13,h⟩|⟨h13,h⟩:=aN h
  ·cases h;exact(gJ.b h13).ret hΓ
  ·exact((gJ.b h13).a [.cn [0,7,8,9] []]).ct hΓ cI (iS b7 hm1) (ih1 (i1+1) (dn b7) h)
theorem ng{aC:Bytes}{aZ:aQ}{r:Bytes}(h:gM aC aZ=some r):Good prog 160 [D.str aC,D.sl (aZ.map aS.c)] (D.str r):=by
 refine gd func160 [[none]] 21 fun hr Γ hΓ=>?_
 rw[gM]at h;refine(aT.a [.cn [0,7,8,9] []]).lp hΓ (ym hΓ (fun h=>?_) (by have:=(gm.sl (hr _ (aB (i:=1) rfl))).1;simpa using this) aZ 0 rfl h);have h:=aJ h;subst h;exact aT.ret hΓ
def ic(aC:aI)(aZ:aQ)(y1:Bytes)(y3:Bytes)(k1:aE->Option aI):aE->Nat->aE->Option aI
 | [],i1,mK=>(k1 mK)
 |bC::cE,i1,mK=>((gM bC aZ).bind fun Ps=>(bif room ((mK.map tx).length+([[D.str Ps]]).length) 16 then(ic aC aZ y1 y3 k1 cE (i1+1) (mK++([Ps])))else none))
def jB(aC:aI)(aZ:aQ):Option aI:=((gM aC.left aZ).bind fun y1=>((gM aC.right aZ).bind fun y3=>(ic aC aZ y1 y3 (fun(sJ:aE)=>(some (⟨aC.kind,(⟨aC.pat.rel,sJ⟩:aL),y1,y3⟩:aI))) aC.pat.args 0 ([]:aE))))
def u7(aC:aI)(aZ:aQ)(y1:Bytes)(y3:Bytes)(W0:List aK)(dM:Int):St:=⟨[(1,D.sl (aZ.map aS.c)),(4,D.ptr 0 0),(5,D.ptr 1 0),(26,D.sl (aC.pat.args.map tx)),(27,D.int .i64 ((aC.pat.args.map tx).length:Int)),(28,D.int .i64 dM)],[Ob.box [D.int .i64 0,D.str ([]),D.nil,D.str ([]),D.str ([])],Ob.box [D.int .i64 aC.kind,D.str aC.pat.rel,D.acc 2,D.str y1,D.str y3],Ob.row .uq 9 1 W0]⟩
theorem zn(hΓ:Γ.nt=44){aC:aI}{aZ:aQ}{y1:Bytes}{y3:Bytes}{r:aI}{k1:aE->Option aI}(dQ:∀(sJ:aE),k1 sJ=some r->Ax Γ N f114 (.q [[none,none,some (9,1),none,none]] (D.agg [D.int .i64 r.kind,D.str r.pat.rel,D.fr 9 1 (r.pat.args.map tx),D.str r.left,D.str r.right])) [1,1,1,1] ⟨[(4,D.ptr 0 0),(5,D.ptr 1 0)],[Ob.box [D.int .i64 0,D.str ([]),D.nil,D.str ([]),D.str ([])],Ob.box [D.int .i64 aC.kind,D.str aC.pat.rel,D.acc 2,D.str y1,D.str y3],Ob.row .uq 9 1 (sJ.map tx)]⟩)(hm1:aC.pat.args.length<=maxLen):∀(rest:aE) (i1:Nat) (mK:aE),aC.pat.args.drop i1=rest->ic aC aZ y1 y3 k1 rest i1 mK=some r->Ar Γ N f114 (.q [[none,none,some (9,1),none,none]] (D.agg [D.int .i64 r.kind,D.str r.pat.rel,D.fr 9 1 (r.pat.args.map tx),D.str r.left,D.str r.right])) [1,1,1,0,1,0] (rest.length+1) (u7 aC aZ y1 y3 (mK.map tx) (i1:Int)):=by
 intro rest
 induction rest with
 |nil=>
  intro i1 mK b7 h;rw[ic]at h;refine aO fun N1 cN cI=>?_
  exact((aT.ge tx b7).a [.hl 0 [4,5] [0,1,2]]).ex hΓ cN (dQ mK h)
 |cons bC cE ih1=>
  intro i1 mK b7 h;rw[ic]at h;refine aO fun N1 cN cI=>?_
  obtain⟨Ps,h32,h⟩:=aF h;obtain⟨h33,h⟩:=bu h;exact((((((aT.lt tx b7).l (bD tx 1 (dc b7) rfl)).a [.n 7]).g (ng h32)).w (cT h33)).a [.cn [1,4,5,26,27,28] [0,1,4]]).cs hΓ cI (u7 aC aZ y1 y3 ((mK.map tx)++([[D.str Ps]])) (IntKind.i64.wrap ((i1:Int)+1))) (by first| (simp only[iS b7 hm1,mA]<;>rfl)| (simp only[iS b7 hm1,mA,aL.c,aS.c,aI.c,Action.c,aH.c,aq.c,fW.c,aW.c,Node.c,aR.c,fc.c]<;>rfl)) (ih1 (i1+1) (mK++([Ps])) (dn b7) h)
theorem lJ{aC:aI}{aZ:aQ}{r:aI}(h:jB aC aZ=some r):Good prog 114 [D.agg (aI.c aC),D.sl (aZ.map aS.c)] (D.agg [D.int .i64 r.kind,D.str r.pat.rel,D.fr 9 1 (r.pat.args.map tx),D.str r.left,D.str r.right]):=by
 refine gd func114 [[none,none,some (9,1),none,none]] 44 fun hr Γ hΓ=>?_
 rw[jB]at h;obtain⟨y1,h2,h⟩:=aF h;obtain⟨y3,h4,h⟩:=aF h;refine((((aT.a [.n 12]).g (ng h2)).g (ng h4)).a [.pb 2 2 9 1,.cn [1,4,5,26,27,28] [1,2,3]]).lp hΓ (zn hΓ (fun sJ h=>?_) (by have:=(gm.sl (gm.agg (hr _ (aB (i:=0) rfl)) (.sl (aC.pat.args.map tx)) (by simp))).1;simpa using this) aC.pat.args 0 ([]:aE) rfl h);cases h;exact aT.ret hΓ
def ia(aC:aH)(y1:aQ)(k1:aY->Option aY):aY->Nat->aY->Option aY
 | [],i1,cQ=>(k1 cQ)
 |bC::cE,i1,cQ=>((jB bC y1).bind fun DM=>(bif room ((cQ.map aI.c).length+([[D.int .i64 DM.kind,D.str DM.pat.rel,D.sl (DM.pat.args.map tx),D.str DM.left,D.str DM.right]]).length) 80 then(ia aC y1 k1 cE (i1+1) (cQ++([DM])))else none))
def mm(aC:aH):Option aY:=((mo aC).bind fun y1=>(ia aC y1 (fun(bf:aY)=>(some bf)) aC.conds 0 ([]:aY)))
def tu(aC:aH)(y1:aQ)(W0:List aK)(dM:Int):St:=⟨[(3,D.acc 0),(4,D.acc 1),(10,D.sl (aC.conds.map aI.c)),(11,D.int .i64 ((aC.conds.map aI.c).length:Int)),(12,D.int .i64 dM)],[Ob.row .uq 175 2 (y1.map aS.c),Ob.row .uq 71 5 W0]⟩
theorem zl(hΓ:Γ.nt=24){aC:aH}{y1:aQ}{r:aY}{k1:aY->Option aY}(dQ:∀(bf:aY),k1 bf=some r->Ax Γ N f61 (.q [[some (71,5)]] (D.fr 71 5 (r.map aI.c))) [1,1,1,1] ⟨[(4,D.acc 0)],[Ob.row .uq 71 5 (bf.map aI.c)]⟩)(hm1:aC.conds.length<=maxLen):∀(rest:aY) (i1:Nat) (cQ:aY),aC.conds.drop i1=rest->ia aC y1 k1 rest i1 cQ=some r->Ar Γ N f61 (.q [[some (71,5)]] (D.fr 71 5 (r.map aI.c))) [1,1,1,0,1,0] (rest.length+1) (tu aC y1 (cQ.map aI.c) (i1:Int)):=by
 intro rest
 induction rest with
 |nil=>
  intro i1 cQ b7 h;rw[ia]at h;refine aO fun N1 cN cI=>?_
  exact((aT.ge aI.c b7).a [.hl 0 [4] [1]]).ex hΓ cN (dQ cQ h)
 |cons bC cE ih1=>
  intro i1 cQ b7 h;rw[ia]at h;refine aO fun N1 cN cI=>?_
  obtain⟨DM,h30,h⟩:=aF h;obtain⟨h31,h⟩:=bu h;exact(((((aT.lt aI.c b7).l (bD aI.c 5 (dc b7) rfl)).g (lJ h30)).w (cT h31)).a [.cn [3,4,10,11,12] [0,5]]).cs hΓ cI (tu aC y1 ((cQ.map aI.c)++([[D.int .i64 DM.kind,D.str DM.pat.rel,D.sl (DM.pat.args.map tx),D.str DM.left,D.str DM.right]])) (IntKind.i64.wrap ((i1:Int)+1))) (by first| (simp only[iS b7 hm1,mA]<;>rfl)| (simp only[iS b7 hm1,mA,aL.c,aS.c,aI.c,Action.c,aH.c,aq.c,fW.c,aW.c,Node.c,aR.c,fc.c]<;>rfl)) (ih1 (i1+1) (cQ++([DM])) (dn b7) h)
theorem yg{aC:aH}{r:aY}(h:mm aC=some r):Good prog 61 [D.agg (aH.c aC)] (D.fr 71 5 (r.map aI.c)):=by
 refine gd func61 [[some (71,5)]] 24 fun hr Γ hΓ=>?_
 rw[mm]at h;obtain⟨y1,h2,h⟩:=aF h;refine((aT.g (yh h2)).a [.KE 4,.cn [3,4,10,11,12] [1,2]]).lp hΓ (zl hΓ (fun bf h=>?_) (by have:=(gm.sl (gm.agg (hr _ (aB (i:=0) rfl)) (.sl (aC.conds.map aI.c)) (by simp))).1;simpa using this) aC.conds 0 ([]:aY) rfl h);have h:=aJ h;subst h;exact aT.ret hΓ
def jW(aC:aE)(aZ:aE)(k1:Option Bool):aE->Nat->Option Bool
 | [],i1=>(k1)
 |bC::cE,i1=>((sK aZ (i1:Int)).bind fun x22=>(bif !((bC:Bytes)==x22)then(some false)else(jW aC aZ k1 cE (i1+1))))
def nh(aC:aE)(aZ:aE):Option Bool:=(bif (((aC.map tx).length:Int):Int) != ((aZ.map tx).length:Int)then(some false)else(jW aC aZ (some true) aC 0))
def CY(aC:aE)(aZ:aE)(dM:Int):St:=⟨[(0,D.sl (aC.map tx)),(1,D.sl (aZ.map tx)),(12,D.int .i64 ((aC.map tx).length:Int)),(13,D.int .i64 dM)],[]⟩
theorem B3(hΓ:Γ.nt=26){aC:aE}{aZ:aE}{r:Bool}{k1:Option Bool}(dQ:k1=some r->Ax Γ N f178 (.q [[none]] (D.bool r)) [1,1,1] ⟨[],[]⟩)(hm1:aC.length<=maxLen):∀(rest:aE) (i1:Nat),aC.drop i1=rest->jW aC aZ k1 rest i1=some r->Ar Γ N f178 (.q [[none]] (D.bool r)) [1,1,0,1,0] (rest.length+1) (CY aC aZ (i1:Int)):=by
 intro rest
 induction rest with
 |nil=>
  intro i1 b7 h;rw[jW]at h;refine aO fun N1 cN cI=>?_
  exact((aT.ge tx b7).a [.hl 0 [] []]).ex hΓ cN (dQ h)
 |cons bC cE ih1=>
  intro i1 b7 h;rw[jW]at h;refine aO fun N1 cN cI=>?_
  obtain⟨x22,h23,h⟩:=aF h;have gJ:=((((aT.lt tx b7).a [.n 8]).l (bD tx 1 (dc b7) rfl)).l (oL tx 1 h23 rfl))
  obtain⟨h24,h⟩|⟨h24,h⟩:=aN h
  ·have h:=aJ h;subst h;exact(gJ.b h24).ret hΓ
  ·exact((gJ.b h24).a [.cn [0,1,12,13] []]).ct hΓ cI (iS b7 hm1) (ih1 (i1+1) (dn b7) h)
theorem zx{aC:aE}{aZ:aE}{r:Bool}(h:nh aC aZ=some r):Good prog 178 [D.sl (aC.map tx),D.sl (aZ.map tx)] (D.bool r):=by
 refine gd func178 [[none]] 26 fun hr Γ hΓ=>?_
 rw[nh]at h;obtain⟨h1,h⟩|⟨h1,h⟩:=aN h
 ·have h:=aJ h;subst h;exact(aT.b h1).ret hΓ
 ·refine((aT.b h1).a [.cn [0,1,12,13] []]).lp hΓ (B3 hΓ (fun h=>?_) (by have:=(gm.sl (hr _ (aB (i:=0) rfl))).1;simpa using this) aC 0 rfl h);have h:=aJ h;subst h;exact aT.ret hΓ
def js(aC:aL)(aZ:aL):Option Bool:=(bif (aC.rel:Bytes)==aZ.rel then((nh aC.args aZ.args).bind fun y2=>(some y2))else(some false))
theorem s9{aC:aL}{aZ:aL}{r:Bool}(h:js aC aZ=some r):Good prog 161 [D.agg (aL.c aC),D.agg (aL.c aZ)] (D.bool r):=by
 refine gd func161 [[none]] 17 fun hr Γ hΓ=>?_
 rw[js]at h;obtain⟨h1,h⟩|⟨h1,h⟩:=aN h
 ·obtain⟨y2,h3,h⟩:=aF h;have h:=aJ h;subst h;exact(((aT.r 5 h1).g (zx h3)).b h1).ret hΓ
 ·have h:=aJ h;subst h;exact(aT.r 6 h1).ret hΓ
def oc(aC:aI)(aZ:aI):Option Bool:=(bif (aC.kind:Int)==aZ.kind then(bif (aC.left:Bytes)==aZ.left then(bif (aC.right:Bytes)==aZ.right then((js aC.pat aZ.pat).bind fun y4=>(some y4))else(some false))else(some false))else(some false))
theorem Ay{aC:aI}{aZ:aI}{r:Bool}(h:oc aC aZ=some r):Good prog 115 [D.agg (aI.c aC),D.agg (aI.c aZ)] (D.bool r):=by
 refine gd func115 [[none]] 31 fun hr Γ hΓ=>?_
 rw[oc]at h;obtain⟨h1,h⟩|⟨h1,h⟩:=aN h
 ·have nL:=(aT.r 6 h1)
  obtain⟨h2,h⟩|⟨h2,h⟩:=aN h
  ·have gJ:=(nL.r 6 h2)
   obtain⟨h3,h⟩|⟨h3,h⟩:=aN h
   ·obtain⟨y4,h5,h⟩:=aF h;have h:=aJ h;subst h;exact(((gJ.r 5 h3).g (s9 h5)).b h3).ret hΓ
   ·have h:=aJ h;subst h;exact(gJ.r 6 h3).ret hΓ
  ·have h:=aJ h;subst h;exact((nL.r 6 h2).F 6).ret hΓ
 ·have h:=aJ h;subst h;exact((aT.r 6 h1).F 12).ret hΓ
def nX(aC:aL):Option aL:=((kZ aC.args).bind fun y1=>((jB (⟨0,aC,[],[]⟩:aI) y1).bind fun y3=>(some y3.pat)))
theorem ul{aC:aL}{r:aL}(h:nX aC=some r):Good prog 117 [D.agg (aL.c aC)] (D.agg [D.str r.rel,D.fr 9 1 (r.args.map tx)]):=by
 refine gd func117 [[none,some (9,1)]] 10 fun hr Γ hΓ=>?_
 rw[nX]at h;obtain⟨y1,h2,h⟩:=aF h;obtain⟨y3,h4,h⟩:=aF h;cases h;exact((((aT.a [.n 5]).g (sU h2)).a [.d (D.agg [D.int .i64 y3.kind,D.str y3.pat.rel,D.fr 9 1 (y3.pat.args.map tx),D.str y3.left,D.str y3.right])]).w (show Good prog 114 [D.agg [D.int .i64 0,D.str aC.rel,D.sl (aC.args.map tx),D.str ([]),D.str ([])],D.sl (y1.map aS.c)] (D.agg [D.int .i64 y3.kind,D.str y3.pat.rel,D.fr 9 1 (y3.pat.args.map tx),D.str y3.left,D.str y3.right])from by first| (simpa only[bR,bI,bP,eM,dl]using lJ h4)|exact lJ h4| (have t:=lJ h4;simp only[bR,eM,dl,aI.c]at t;exact t))).ret hΓ
def cP(x:aR):aK:=[D.fr 31 4 (x.rules.map aH.c),D.fr 3 1 (x.ends.map jd),D.fr 124 3 (x.bU.map aW.c),D.fr 73 8 (x.nodes.map Node.c),D.fr 127 2 (x.facts.map aL.c),D.int .i64 x.cu]
def dY(aC:aR)(aZ:aL)(k1:Option (aR×Int)):bE->Nat->Option (aR×Int)
 | [],i1=>(k1)
 |bC::cE,i1=>((js bC.shape aZ).bind fun mR=>(bif mR then(some (aC,(i1:Int)))else(dY aC aZ k1 cE (i1+1))))
def gH(aC:aR)(aZ:aL):Option (aR×Int):=(bif decide (aC.bU.length<=maxLen)then(dY aC aZ (bif room ((aC.bU.map aW.c).length+([[D.str aZ.rel,D.sl (aZ.args.map tx),D.sl ([])]]).length) 64 then(some ((⟨aC.rules,aC.ends,aC.bU++([(⟨aZ,[]⟩:aW)]),aC.nodes,aC.facts,aC.cu⟩:aR),IntKind.i64.wrap ((((aC.bU.map aW.c)++([[D.str aZ.rel,D.sl (aZ.args.map tx),D.sl ([])]])).length:Int)-1)))else none) aC.bU 0)else none)
def vo(dU:Value)(aC:aR)(aZ:aL)(dM:Int):St:=⟨[(0,D.ptr 0 0),(3,D.ptr 1 0),(10,D.acc 2),(11,D.int .i64 ((aC.bU.map aW.c).length:Int)),(12,D.int .i64 dM)],[Ob.Gj [D.acc 3,D.acc 4,D.acc 2,D.acc 5,D.acc 6,D.int .i64 aC.cu] dU,Ob.box [D.str aZ.rel,D.acc 7],Ob.row .uq 124 3 (aC.bU.map aW.c),Ob.row .uq 31 4 (aC.rules.map aH.c),Ob.row .uq 3 1 (aC.ends.map jd),Ob.row .uq 73 8 (aC.nodes.map Node.c),Ob.row .uq 127 2 (aC.facts.map aL.c),Ob.row .uq 9 1 (aZ.args.map tx)]⟩
theorem vJ(hΓ:Γ.nt=40){dU:Value}{aC:aR}{aZ:aL}{r:aR×Int}{k1:Option (aR×Int)}(dQ:k1=some r->Ax Γ N f116 (.p [[some (31,4),some (3,1),some (124,3),some (73,8),some (127,2),none],[none]] dU (cP r.1) (D.int .i64 r.2)) [1,1] ⟨[(0,D.ptr 0 0),(3,D.ptr 1 0)],[Ob.Gj [D.acc 2,D.acc 3,D.acc 4,D.acc 5,D.acc 6,D.int .i64 aC.cu] dU,Ob.box [D.str aZ.rel,D.acc 7],Ob.row .uq 31 4 (aC.rules.map aH.c),Ob.row .uq 3 1 (aC.ends.map jd),Ob.row .uq 124 3 (aC.bU.map aW.c),Ob.row .uq 73 8 (aC.nodes.map Node.c),Ob.row .uq 127 2 (aC.facts.map aL.c),Ob.row .uq 9 1 (aZ.args.map tx)]⟩)(hm1:aC.bU.length<=maxLen):∀(rest:bE) (i1:Nat),aC.bU.drop i1=rest->dY aC aZ k1 rest i1=some r->Ar Γ N f116 (.p [[some (31,4),some (3,1),some (124,3),some (73,8),some (127,2),none],[none]] dU (cP r.1) (D.int .i64 r.2)) [1,0,1,0] (rest.length+1) (vo dU aC aZ (i1:Int)):=by
 intro rest
 induction rest with
 |nil=>
  intro i1 b7 h;rw[dY]at h;refine aO fun N1 cN cI=>?_
  exact((aT.ge aW.c b7).a [.hl 0 [0,3] [0,1,3,4,2,5,6,7]]).ex hΓ cN (dQ h)
 |cons bC cE ih1=>
  intro i1 b7 h;rw[dY]at h;refine aO fun N1 cN cI=>?_
  obtain⟨mR,h23,h⟩:=aF h;have gJ:=((((aT.lt aW.c b7).i (mQ aW.c 3 (dc b7))).o 3 3 .uq (fX aW.c (dc b7))).g (s9 h23))
  obtain⟨h24,h⟩|⟨h24,h⟩:=aN h
  ·cases h;exact(gJ.b h24).ret hΓ
  ·exact((gJ.b h24).a [.cn [0,3,10,11,12] [0,1,2,3,4,5,6,7]]).ct hΓ cI (iS b7 hm1) (ih1 (i1+1) (dn b7) h)
theorem oX{aC:aR}{aZ:aL}{r:aR×Int}(h:gH aC aZ=some r):qm prog 116 (cP aC) (cP r.1) [D.agg [D.str aZ.rel,D.fr 9 1 (aZ.args.map tx)]] (D.int .i64 r.2):=by
 refine S7 func116 [[some (31,4),some (3,1),some (124,3),some (73,8),some (127,2),none],[none]] 40 [D.acc 1,D.acc 2,D.acc 3,D.acc 4,D.acc 5,D.int .i64 aC.cu] [D.agg [D.str aZ.rel,D.acc 6]] [Ob.row .uq 31 4 (aC.rules.map aH.c),Ob.row .uq 3 1 (aC.ends.map jd),Ob.row .uq 124 3 (aC.bU.map aW.c),Ob.row .uq 73 8 (aC.nodes.map Node.c),Ob.row .uq 127 2 (aC.facts.map aL.c),Ob.row .uq 9 1 (aZ.args.map tx)] fun hr dU Γ hΓ=>?_
 rw[gH]at h;obtain⟨h27,h⟩:=bu h;refine(aT.a [.cn [0,3,10,11,12] [0,7,3,1,2,4,5,6]]).lp hΓ (vJ hΓ (fun h=>?_) (bq h27) aC.bU 0 rfl h);obtain⟨h26,h⟩:=bu h;cases h;exact((aT.w (cT h26)).a [.n2 [0,1,2,3,4,5,6,7,8,9,10,11] [0,1,2,3,4,5,6,7,8,9,10,11] 7 9 [0,1,2,3,4] [4,7,8]]).rts hΓ (D.iE [D.int .i64 (IntKind.i64.wrap ((((aC.bU.map aW.c)++([[D.str aZ.rel,D.sl (aZ.args.map tx),D.sl ([])]])).length:Int)-1)),D.agg [D.fr 31 4 (aC.rules.map aH.c),D.fr 3 1 (aC.ends.map jd),D.fr 124 3 ((aC.bU.map aW.c)++([[D.str aZ.rel,D.sl (aZ.args.map tx),D.sl ([])]])),D.fr 73 8 (aC.nodes.map Node.c),D.fr 127 2 (aC.facts.map aL.c),D.int .i64 aC.cu],D.val dU]) (by first|rfl| (simp only[mA]<;>rfl)| (simp only[cP,mA]<;>rfl))
def cg(aC:aR)(aZ:Int)(eZ:aI)(k1:Option (aR×Int)):bB->Nat->Option (aR×Int)
 | [],i1=>(k1)
 |bC::cE,i1=>(bif decide (((i1:Int):Int)>0)then(bif (bC.parent:Int)==aZ then((oc bC.cond eZ).bind fun Da=>(bif Da then(some (aC,(i1:Int)))else(cg aC aZ eZ k1 cE (i1+1))))else(cg aC aZ eZ k1 cE (i1+1)))else(cg aC aZ eZ k1 cE (i1+1)))
def iU(aC:aR)(aZ:Int)(eZ:aI):Option (aR×Int):=(bif decide (aC.nodes.length<=maxLen)then(cg aC aZ eZ (bif (eZ.kind:Int)==1 then((nX eZ.pat).bind fun Gr=>((gH aC Gr).bind fun Hu=>((gW eZ).bind fun JM=>(bif room ((Hu.1.nodes.map Node.c).length+([[D.int .i64 aZ,D.int .i64 JM.kind,D.str JM.pat.rel,D.sl (JM.pat.args.map tx),D.str JM.left,D.str JM.right,D.int .i64 Hu.2,D.sl ([])]]).length) 120 then(some ((⟨Hu.1.rules,Hu.1.ends,Hu.1.bU,Hu.1.nodes++([(⟨aZ,JM,Hu.2,[]⟩:Node)]),Hu.1.facts,Hu.1.cu⟩:aR),IntKind.i64.wrap ((((Hu.1.nodes.map Node.c)++([[D.int .i64 aZ,D.int .i64 JM.kind,D.str JM.pat.rel,D.sl (JM.pat.args.map tx),D.str JM.left,D.str JM.right,D.int .i64 Hu.2,D.sl ([])]])).length:Int)-1)))else none))))else(bif (eZ.kind:Int)==2 then((nX eZ.pat).bind fun y47=>((gH aC y47).bind fun Gs=>((gW eZ).bind fun JN=>(bif room ((Gs.1.nodes.map Node.c).length+([[D.int .i64 aZ,D.int .i64 JN.kind,D.str JN.pat.rel,D.sl (JN.pat.args.map tx),D.str JN.left,D.str JN.right,D.int .i64 Gs.2,D.sl ([])]]).length) 120 then(some ((⟨Gs.1.rules,Gs.1.ends,Gs.1.bU,Gs.1.nodes++([(⟨aZ,JN,Gs.2,[]⟩:Node)]),Gs.1.facts,Gs.1.cu⟩:aR),IntKind.i64.wrap ((((Gs.1.nodes.map Node.c)++([[D.int .i64 aZ,D.int .i64 JN.kind,D.str JN.pat.rel,D.sl (JN.pat.args.map tx),D.str JN.left,D.str JN.right,D.int .i64 Gs.2,D.sl ([])]])).length:Int)-1)))else none))))else((gW eZ).bind fun JO=>(bif room ((aC.nodes.map Node.c).length+([[D.int .i64 aZ,D.int .i64 JO.kind,D.str JO.pat.rel,D.sl (JO.pat.args.map tx),D.str JO.left,D.str JO.right,D.int .i64 (-1),D.sl ([])]]).length) 120 then(some ((⟨aC.rules,aC.ends,aC.bU,aC.nodes++([(⟨aZ,JO, -1,[]⟩:Node)]),aC.facts,aC.cu⟩:aR),IntKind.i64.wrap ((((aC.nodes.map Node.c)++([[D.int .i64 aZ,D.int .i64 JO.kind,D.str JO.pat.rel,D.sl (JO.pat.args.map tx),D.str JO.left,D.str JO.right,D.int .i64 (-1),D.sl ([])]])).length:Int)-1)))else none)))) aC.nodes 0)else none)
def vp(dU:Value)(aC:aR)(aZ:Int)(eZ:aI)(dM:Int):St:=⟨[(0,D.ptr 0 0),(1,D.int .i64 aZ),(5,D.ptr 1 0),(13,D.acc 2),(14,D.int .i64 ((aC.nodes.map Node.c).length:Int)),(15,D.int .i64 dM)],[Ob.Gj [D.acc 3,D.acc 4,D.acc 5,D.acc 2,D.acc 6,D.int .i64 aC.cu] dU,Ob.box (aI.c eZ),Ob.row .uq 73 8 (aC.nodes.map Node.c),Ob.row .uq 31 4 (aC.rules.map aH.c),Ob.row .uq 3 1 (aC.ends.map jd),Ob.row .uq 124 3 (aC.bU.map aW.c),Ob.row .uq 127 2 (aC.facts.map aL.c)]⟩
theorem vK(hΓ:Γ.nt=69){dU:Value}{aC:aR}{aZ:Int}{eZ:aI}{r:aR×Int}{k1:Option (aR×Int)}(dQ:k1=some r->Ax Γ N f62 (.p [[some (31,4),some (3,1),some (124,3),some (73,8),some (127,2),none],[none]] dU (cP r.1) (D.int .i64 r.2)) [1,1] ⟨[(0,D.ptr 0 0),(1,D.int .i64 aZ),(5,D.ptr 1 0)],[Ob.Gj [D.acc 2,D.acc 3,D.acc 4,D.acc 5,D.acc 6,D.int .i64 aC.cu] dU,Ob.box (aI.c eZ),Ob.row .uq 31 4 (aC.rules.map aH.c),Ob.row .uq 3 1 (aC.ends.map jd),Ob.row .uq 124 3 (aC.bU.map aW.c),Ob.row .uq 73 8 (aC.nodes.map Node.c),Ob.row .uq 127 2 (aC.facts.map aL.c)]⟩)(hm1:aC.nodes.length<=maxLen):∀(rest:bB) (i1:Nat),aC.nodes.drop i1=rest->cg aC aZ eZ k1 rest i1=some r->Ar Γ N f62 (.p [[some (31,4),some (3,1),some (124,3),some (73,8),some (127,2),none],[none]] dU (cP r.1) (D.int .i64 r.2)) [1,0,1,0] (rest.length+1) (vp dU aC aZ eZ (i1:Int)):=by
 intro rest
 induction rest with
 |nil=>
  intro i1 b7 h;rw[cg]at h;refine aO fun N1 cN cI=>?_
  exact((aT.ge Node.c b7).a [.hl 0 [0,1,5] [0,1,3,4,5,2,6]]).ex hΓ cN (dQ h)
 |cons bC cE ih1=>
  intro i1 b7 h;rw[cg]at h;refine aO fun N1 cN cI=>?_
  have nS:=(((aT.lt Node.c b7).i (mQ Node.c 8 (dc b7))).o 8 8 .uq (fX Node.c (dc b7)))
  obtain⟨h30,h⟩|⟨h30,h⟩:=aN h
  ·have vB:=(nS.r 5 h30)
   obtain⟨h31,h⟩|⟨h31,h⟩:=aN h
   ·obtain⟨Da,h33,h⟩:=aF h;have xh:=(((vB.r 4 h31).g (Ay h33)).b h31)
    obtain⟨h34,h⟩|⟨h34,h⟩:=aN h
    ·cases h;exact(xh.b h34).ret hΓ
    ·exact((xh.b h34).a [.cn [0,1,5,13,14,15] [0,1,2,3,4,5,6]]).ct hΓ cI (iS b7 hm1) (ih1 (i1+1) (dn b7) h)
   ·exact(((vB.r 5 h31).F 1).a [.cn [0,1,5,13,14,15] [0,1,2,3,4,5,6]]).ct hΓ cI (iS b7 hm1) (ih1 (i1+1) (dn b7) h)
  ·exact(((nS.r 5 h30).F 6).a [.cn [0,1,5,13,14,15] [0,1,2,3,4,5,6]]).ct hΓ cI (iS b7 hm1) (ih1 (i1+1) (dn b7) h)
theorem uW{aC:aR}{aZ:Int}{eZ:aI}{r:aR×Int}(h:iU aC aZ eZ=some r):qm prog 62 (cP aC) (cP r.1) [D.int .i64 aZ,D.agg (aI.c eZ)] (D.int .i64 r.2):=by
 refine S7 func62 [[some (31,4),some (3,1),some (124,3),some (73,8),some (127,2),none],[none]] 69 [D.acc 1,D.acc 2,D.acc 3,D.acc 4,D.acc 5,D.int .i64 aC.cu] [D.int .i64 aZ,D.agg [D.int .i64 eZ.kind,D.str eZ.pat.rel,D.sl (eZ.pat.args.map tx),D.str eZ.left,D.str eZ.right]] [Ob.row .uq 31 4 (aC.rules.map aH.c),Ob.row .uq 3 1 (aC.ends.map jd),Ob.row .uq 124 3 (aC.bU.map aW.c),Ob.row .uq 73 8 (aC.nodes.map Node.c),Ob.row .uq 127 2 (aC.facts.map aL.c)] fun hr dU Γ hΓ=>?_
 rw[iU]at h;obtain⟨h63,h⟩:=bu h;refine(aT.a [.cn [0,1,5,13,14,15] [0,6,4,1,2,3,5]]).lp hΓ (vK hΓ (fun h=>?_) (bq h63) aC.nodes 0 rfl h);obtain⟨h35,h⟩|⟨h35,h⟩:=aN h
 ·obtain⟨Gr,h37,h⟩:=aF h;obtain⟨Hu,h39,h⟩:=aF h;obtain⟨JM,h44,h⟩:=aF h;obtain⟨h45,h⟩:=bu h;cases h;exact(((((((aT.r 4 h35).T 1).g (ul h37)).hp [[some (31,4),some (3,1),some (124,3),some (73,8),some (127,2),none],[none,some (9,1)]] (oX h39)).a [.n2 [0,1,2,3,4,5,6,7,8,9,10,11,12,13,14] [0,1,2,3,4,5,6,7,8,9,10,11,12,13,14] 10 12 [0,1,2,3,4] [11,13,14]]).g (kR h44)).w (cT h45)).rts hΓ (D.iE [D.int .i64 (IntKind.i64.wrap ((((Hu.1.nodes.map Node.c)++([[D.int .i64 aZ,D.int .i64 JM.kind,D.str JM.pat.rel,D.sl (JM.pat.args.map tx),D.str JM.left,D.str JM.right,D.int .i64 Hu.2,D.sl ([])]])).length:Int)-1)),D.agg [D.fr 31 4 (Hu.1.rules.map aH.c),D.fr 3 1 (Hu.1.ends.map jd),D.fr 124 3 (Hu.1.bU.map aW.c),D.fr 73 8 ((Hu.1.nodes.map Node.c)++([[D.int .i64 aZ,D.int .i64 JM.kind,D.str JM.pat.rel,D.sl (JM.pat.args.map tx),D.str JM.left,D.str JM.right,D.int .i64 Hu.2,D.sl ([])]])),D.fr 127 2 (Hu.1.facts.map aL.c),D.int .i64 Hu.1.cu],D.val dU]) (by first|rfl| (simp only[mA]<;>rfl)| (simp only[cP,mA]<;>rfl))
 ·have EY:=(aT.r 4 h35)
  obtain⟨h46,h⟩|⟨h46,h⟩:=aN h
  ·obtain⟨y47,h48,h⟩:=aF h;obtain⟨Gs,h50,h⟩:=aF h;obtain⟨JN,h55,h⟩:=aF h;obtain⟨h56,h⟩:=bu h;cases h;exact((((((EY.b h46).g (ul h48)).hp [[some (31,4),some (3,1),some (124,3),some (73,8),some (127,2),none],[none,some (9,1)]] (oX h50)).a [.n2 [0,1,2,3,4,5,6,7,8,9,10,11,12,13,14] [0,1,2,3,4,5,6,7,8,9,10,11,12,13,14] 10 12 [0,1,2,3,4] [11,13,14]]).g (kR h55)).w (cT h56)).rts hΓ (D.iE [D.int .i64 (IntKind.i64.wrap ((((Gs.1.nodes.map Node.c)++([[D.int .i64 aZ,D.int .i64 JN.kind,D.str JN.pat.rel,D.sl (JN.pat.args.map tx),D.str JN.left,D.str JN.right,D.int .i64 Gs.2,D.sl ([])]])).length:Int)-1)),D.agg [D.fr 31 4 (Gs.1.rules.map aH.c),D.fr 3 1 (Gs.1.ends.map jd),D.fr 124 3 (Gs.1.bU.map aW.c),D.fr 73 8 ((Gs.1.nodes.map Node.c)++([[D.int .i64 aZ,D.int .i64 JN.kind,D.str JN.pat.rel,D.sl (JN.pat.args.map tx),D.str JN.left,D.str JN.right,D.int .i64 Gs.2,D.sl ([])]])),D.fr 127 2 (Gs.1.facts.map aL.c),D.int .i64 Gs.1.cu],D.val dU]) (by first|rfl| (simp only[mA]<;>rfl)| (simp only[cP,mA]<;>rfl))
  ·obtain⟨JO,h61,h⟩:=aF h;obtain⟨h62,h⟩:=bu h;cases h;exact((((EY.b h46).a [.n2 [0,1,2,3,4,5,6,7,8,9,10,11,12,13,14] [0,1,2,3,4,5,6,7,8,9,10,11,12,13,14] 10 12 [0,1,2,3,4] [5,7,8]]).g (kR h61)).w (cT h62)).rts hΓ (D.iE [D.int .i64 (IntKind.i64.wrap ((((aC.nodes.map Node.c)++([[D.int .i64 aZ,D.int .i64 JO.kind,D.str JO.pat.rel,D.sl (JO.pat.args.map tx),D.str JO.left,D.str JO.right,D.int .i64 (-1),D.sl ([])]])).length:Int)-1)),D.agg [D.fr 31 4 (aC.rules.map aH.c),D.fr 3 1 (aC.ends.map jd),D.fr 124 3 (aC.bU.map aW.c),D.fr 73 8 ((aC.nodes.map Node.c)++([[D.int .i64 aZ,D.int .i64 JO.kind,D.str JO.pat.rel,D.sl (JO.pat.args.map tx),D.str JO.left,D.str JO.right,D.int .i64 (-1),D.sl ([])]])),D.fr 127 2 (aC.facts.map aL.c),D.int .i64 aC.cu],D.val dU]) (by first|rfl| (simp only[mA]<;>rfl)| (simp only[cP,mA]<;>rfl))
def gw(aC:af)(i1:Nat)(Eh:aY)(k2:Int->Int->af->bZ->bE->bB->ar->Option aR):aY->Nat->Int->Int->af->bZ->bE->bB->ar->Option aR
 | [],i2,ud,lB,xa,lH,xb,xd,xe=>(k2 ud lB xa lH xb xd xe)
 |qp::yT,i2,ud,lB,xa,lH,xb,xd,xe=>((iU (⟨xa,lH,xb,xd,xe,lB⟩:aR) ud qp).bind fun tV=>(gw aC i1 Eh k2 yT (i2+1) tV.2 tV.1.cu tV.1.rules tV.1.ends tV.1.bU tV.1.nodes tV.1.facts))
def gu(aC:af)(k1:Int->af->bZ->bE->bB->ar->Option aR):af->Nat->Int->af->bZ->bE->bB->ar->Option aR
 | [],i1,l9,mK,eL,xX,xY,xZ=>(k1 l9 mK eL xX xY xZ)
 |bC::cE,i1,l9,mK,eL,xX,xY,xZ=>((mm bC).bind fun Eh=>(bif decide (Eh.length<=maxLen)then(gw aC i1 Eh (fun(C9:Int) (rp:Int) (Eb:af) (wP:bZ) (Ec:bE) (Ed:bB) (Ee:ar)=>(bif room ((wP.map jd).length+([[D.int .i64 C9]]).length) 8 then(gu aC k1 cE (i1+1) rp Eb (wP++([C9])) Ec Ed Ee)else none)) Eh 0 0 l9 mK eL xX xY xZ)else none))
def ni(aC:af):Option aR:=((nc aC).bind fun y1=>(gu aC (fun(wQ:Int) (sJ:af) (kI:bZ) (J4:bE) (J5:bB) (J6:ar)=>(some (⟨sJ,kI,J4,J5,J6,wQ⟩:aR))) aC 0 0 y1 ([]:bZ) ([]:bE) ([(⟨-1,(⟨0,(⟨[],[]⟩:aL),[],[]⟩:aI), -1,[]⟩:Node)]) ([]:ar)))
def qx(aC:af)(l9:Int)(W1:List aK)(W2:List aK)(W3:List aK)(W4:List aK)(W5:List aK)(dM:Int):St:=⟨[(2,D.ptr 0 0),(3,D.ptr 1 0),(14,D.sl (aC.map aH.c)),(15,D.int .i64 ((aC.map aH.c).length:Int)),(16,D.int .i64 dM)],[Ob.box [D.nil,D.nil,D.nil,D.nil,D.nil,D.int .i64 0],Ob.box [D.acc 2,D.acc 3,D.acc 4,D.acc 5,D.acc 6,D.int .i64 l9],Ob.row .uq 31 4 W1,Ob.row .uq 3 1 W2,Ob.row .uq 124 3 W3,Ob.row .uq 73 8 W4,Ob.row .uq 127 2 W5]⟩
def CZ(aC:af)(i1:Nat)(Eh:aY)(ud:Int)(lB:Int)(W2:List aK)(W3:List aK)(W4:List aK)(W5:List aK)(W6:List aK)(dM:Int):St:=⟨[(2,D.ptr 0 0),(3,D.ptr 1 0),(6,D.int .i64 ud),(14,D.sl (aC.map aH.c)),(15,D.int .i64 ((aC.map aH.c).length:Int)),(16,D.int .i64 (i1:Int)),(21,D.acc 2),(22,D.int .i64 ((Eh.map aI.c).length:Int)),(23,D.int .i64 dM)],[Ob.box [D.nil,D.nil,D.nil,D.nil,D.nil,D.int .i64 0],Ob.box [D.acc 3,D.acc 4,D.acc 5,D.acc 6,D.acc 7,D.int .i64 lB],Ob.row .uq 71 5 (Eh.map aI.c),Ob.row .uq 31 4 W2,Ob.row .uq 3 1 W3,Ob.row .uq 124 3 W4,Ob.row .uq 73 8 W5,Ob.row .uq 127 2 W6]⟩
theorem B5(hΓ:Γ.nt=39){aC:af}{i1:Nat}{Eh:aY}{r:aR}{k2:Int->Int->af->bZ->bE->bB->ar->Option aR}(Ho:∀(C9:Int) (rp:Int) (Eb:af) (wP:bZ) (Ec:bE) (Ed:bB) (Ee:ar),k2 C9 rp Eb wP Ec Ed Ee=some r->Ax Γ N f24 (.q [[some (31,4),some (3,1),some (124,3),some (73,8),some (127,2),none]] (D.agg [D.fr 31 4 (r.rules.map aH.c),D.fr 3 1 (r.ends.map jd),D.fr 124 3 (r.bU.map aW.c),D.fr 73 8 (r.nodes.map Node.c),D.fr 127 2 (r.facts.map aL.c),D.int .i64 r.cu])) [1,1,0,1,0,0,1,1,0,0,1,1,1] ⟨[(2,D.ptr 0 0),(3,D.ptr 1 0),(6,D.int .i64 C9),(14,D.sl (aC.map aH.c)),(15,D.int .i64 ((aC.map aH.c).length:Int)),(16,D.int .i64 (i1:Int))],[Ob.box [D.nil,D.nil,D.nil,D.nil,D.nil,D.int .i64 0],Ob.box [D.acc 2,D.acc 3,D.acc 4,D.acc 5,D.acc 6,D.int .i64 rp],Ob.row .uq 31 4 (Eb.map aH.c),Ob.row .uq 3 1 (wP.map jd),Ob.row .uq 124 3 (Ec.map aW.c),Ob.row .uq 73 8 (Ed.map Node.c),Ob.row .uq 127 2 (Ee.map aL.c)]⟩)(hm2:Eh.length<=maxLen):∀(rest:aY) (i2:Nat) (ud:Int) (lB:Int) (xa:af) (lH:bZ) (xb:bE) (xd:bB) (xe:ar),Eh.drop i2=rest->gw aC i1 Eh k2 rest i2 ud lB xa lH xb xd xe=some r->Ar Γ N f24 (.q [[some (31,4),some (3,1),some (124,3),some (73,8),some (127,2),none]] (D.agg [D.fr 31 4 (r.rules.map aH.c),D.fr 3 1 (r.ends.map jd),D.fr 124 3 (r.bU.map aW.c),D.fr 73 8 (r.nodes.map Node.c),D.fr 127 2 (r.facts.map aL.c),D.int .i64 r.cu])) [1,1,0,1,0,0,1,1,0,0,1,1,0,1,0] (rest.length+1) (CZ aC i1 Eh ud lB (xa.map aH.c) (lH.map jd) (xb.map aW.c) (xd.map Node.c) (xe.map aL.c) (i2:Int)):=by
 intro rest
 induction rest with
 |nil=>
  intro i2 ud lB xa lH xb xd xe hd2 h;rw[gw]at h;refine aO fun N2 Ac xP=>?_
  exact((aT.ge aI.c hd2).a [.hl 5 [2,3,6,14,15,16] [0,1,3,4,5,6,7]]).ex hΓ Ac (Ho ud lB xa lH xb xd xe h)
 |cons qp yT ih2=>
  intro i2 ud lB xa lH xb xd xe hd2 h;rw[gw]at h;refine aO fun N2 Ac xP=>?_
  obtain⟨tV,h209,h⟩:=aF h;exact((((((aT.lt aI.c hd2).i (mQ aI.c 5 (dc hd2))).o 5 5 .uq (fX aI.c (dc hd2))).a [.gp [[some (31,4),some (3,1),some (124,3),some (73,8),some (127,2),none],[none],[none,none,none,none,none]] (cP tV.1) (D.int .i64 tV.2)]).w (show qm prog 62 (cP (⟨xa,lH,xb,xd,xe,lB⟩:aR)) (cP tV.1) [D.int .i64 ud,D.agg (aI.c qp)] (D.int .i64 tV.2)from by simpa only[bR,bI,bP,eM,dl]using uW h209)).a [.cn [2,3,6,14,15,16,21,22,23] [0,1,2,9,10,11,12,13]]).ct hΓ xP (iS hd2 hm2) (ih2 (i2+1) tV.2 tV.1.cu tV.1.rules tV.1.ends tV.1.bU tV.1.nodes tV.1.facts (dn hd2) h)
theorem B4(hΓ:Γ.nt=39){aC:af}{r:aR}{k1:Int->af->bZ->bE->bB->ar->Option aR}(dQ:∀(wQ:Int) (sJ:af) (kI:bZ) (J4:bE) (J5:bB) (J6:ar),k1 wQ sJ kI J4 J5 J6=some r->Ax Γ N f24 (.q [[some (31,4),some (3,1),some (124,3),some (73,8),some (127,2),none]] (D.agg [D.fr 31 4 (r.rules.map aH.c),D.fr 3 1 (r.ends.map jd),D.fr 124 3 (r.bU.map aW.c),D.fr 73 8 (r.nodes.map Node.c),D.fr 127 2 (r.facts.map aL.c),D.int .i64 r.cu])) [1,1,1] ⟨[(2,D.ptr 0 0),(3,D.ptr 1 0)],[Ob.box [D.nil,D.nil,D.nil,D.nil,D.nil,D.int .i64 0],Ob.box [D.acc 2,D.acc 3,D.acc 4,D.acc 5,D.acc 6,D.int .i64 wQ],Ob.row .uq 31 4 (sJ.map aH.c),Ob.row .uq 3 1 (kI.map jd),Ob.row .uq 124 3 (J4.map aW.c),Ob.row .uq 73 8 (J5.map Node.c),Ob.row .uq 127 2 (J6.map aL.c)]⟩)(hm1:aC.length<=maxLen):∀(rest:af) (i1:Nat) (l9:Int) (mK:af) (eL:bZ) (xX:bE) (xY:bB) (xZ:ar),aC.drop i1=rest->gu aC k1 rest i1 l9 mK eL xX xY xZ=some r->Ar Γ N f24 (.q [[some (31,4),some (3,1),some (124,3),some (73,8),some (127,2),none]] (D.agg [D.fr 31 4 (r.rules.map aH.c),D.fr 3 1 (r.ends.map jd),D.fr 124 3 (r.bU.map aW.c),D.fr 73 8 (r.nodes.map Node.c),D.fr 127 2 (r.facts.map aL.c),D.int .i64 r.cu])) [1,1,0,1,0] (rest.length+1) (qx aC l9 (mK.map aH.c) (eL.map jd) (xX.map aW.c) (xY.map Node.c) (xZ.map aL.c) (i1:Int)):=by
 intro rest
 induction rest with
 |nil=>
  intro i1 l9 mK eL xX xY xZ b7 h;rw[gu]at h;refine aO fun N1 cN cI=>?_
  exact((aT.ge aH.c b7).a [.hl 0 [2,3] [0,1,2,3,4,5,6]]).ex hΓ cN (dQ l9 mK eL xX xY xZ h)
 |cons bC cE ih1=>
  intro i1 l9 mK eL xX xY xZ b7 h;rw[gu]at h;refine aO fun N1 cN cI=>?_
  obtain⟨Eh,h180,h⟩:=aF h;obtain⟨h211,h⟩:=bu h;refine((((aT.lt aH.c b7).l (bD aH.c 4 (dc b7) rfl)).g (yg h180)).a [.cn [2,3,6,14,15,16,21,22,23] [0,1,8,2,3,4,5,6]]).lp hΓ (B5 hΓ (fun C9 rp Eb wP Ec Ed Ee h=>?_) (bq h211) Eh 0 0 l9 mK eL xX xY xZ rfl h);obtain⟨h210,h⟩:=bu h;exact((aT.w (cT h210)).a [.cn [2,3,14,15,16] [0,1,2,8,4,5,6]]).cs hΓ cI (qx aC rp (Eb.map aH.c) ((wP.map jd)++([[D.int .i64 C9]])) (Ec.map aW.c) (Ed.map Node.c) (Ee.map aL.c) (IntKind.i64.wrap ((i1:Int)+1))) (by first| (simp only[iS b7 hm1,mA]<;>rfl)| (simp only[iS b7 hm1,mA,aL.c,aS.c,aI.c,Action.c,aH.c,aq.c,fW.c,aW.c,Node.c,aR.c,fc.c]<;>rfl)) (ih1 (i1+1) rp Eb (wP++([C9])) Ec Ed Ee (dn b7) h)
theorem zy{aC:af}{r:aR}(h:ni aC=some r):Good prog 24 [D.sl (aC.map aH.c)] (D.agg [D.fr 31 4 (r.rules.map aH.c),D.fr 3 1 (r.ends.map jd),D.fr 124 3 (r.bU.map aW.c),D.fr 73 8 (r.nodes.map Node.c),D.fr 127 2 (r.facts.map aL.c),D.int .i64 r.cu]):=by
 refine gd func24 [[some (31,4),some (3,1),some (124,3),some (73,8),some (127,2),none]] 39 fun hr Γ hΓ=>?_
 rw[ni]at h;obtain⟨y1,h2,h⟩:=aF h;refine((aT.g (zu h2)).a [.pb 3 1 3 1,.pb 3 2 124 3,.pb 3 4 127 2,.cn [2,3,14,15,16] [0,3,1,4,5,2,6]]).Wd hΓ (qx aC 0 (y1.map aH.c) ([]:List aK) ([]:List aK) ([[D.int .i64 (-1),D.int .i64 0,D.str ([]),D.sl ([]),D.str ([]),D.str ([]),D.int .i64 (-1),D.sl ([])]]) ([]:List aK) 0) (by first| (simp only[mA]<;>rfl)| (simp only[mA,aL.c,aS.c,aI.c,Action.c,aH.c,aq.c,fW.c,aW.c,Node.c,aR.c,fc.c]<;>rfl)) (B4 hΓ (fun wQ sJ kI J4 J5 J6 h=>?_) (by have:=(gm.sl (hr _ (aB (i:=0) rfl))).1;simpa using this) aC 0 0 y1 ([]:bZ) ([]:bE) ([(⟨-1,(⟨0,(⟨[],[]⟩:aL),[],[]⟩:aI), -1,[]⟩:Node)]) ([]:ar) rfl h);cases h;exact aT.ret hΓ
def iN(aC:af)(aZ:Bytes)(k1:Option Int):af->Nat->Option Int
 | [],i1=>(k1)
 |bC::cE,i1=>(bif (bC.name:Bytes)==aZ then(some (i1:Int))else(iN aC aZ k1 cE (i1+1)))
def ot(aC:af)(aZ:Bytes):Option Int:=(iN aC aZ (some (-1)) aC 0)
def EC(aC:af)(aZ:Bytes)(dM:Int):St:=⟨[(0,D.sl (aC.map aH.c)),(1,D.str aZ),(5,D.int .i64 dM)],[]⟩
theorem D4(hΓ:Γ.nt=20){aC:af}{aZ:Bytes}{r:Int}{k1:Option Int}(dQ:k1=some r->Ax Γ N f26 (.q [[none]] (D.int .i64 r)) [1,1] ⟨[],[]⟩)(hm1:aC.length<=maxLen):∀(rest:af) (i1:Nat),aC.drop i1=rest->iN aC aZ k1 rest i1=some r->Ar Γ N f26 (.q [[none]] (D.int .i64 r)) [1,0,1,0] (rest.length+1) (EC aC aZ (i1:Int)):=by
 intro rest
 induction rest with
 |nil=>
  intro i1 b7 h;rw[iN]at h;refine aO fun N1 cN cI=>?_
  exact((aT.ge aH.c b7).a [.hl 0 [] []]).ex hΓ cN (dQ h)
 |cons bC cE ih1=>
  intro i1 b7 h;rw[iN]at h;refine aO fun N1 cN cI=>?_
  have gJ:=((aT.lt aH.c b7).l (bD aH.c 4 (dc b7) rfl))
  obtain⟨h13,h⟩|⟨h13,h⟩:=aN h
  ·cases h;exact(gJ.b h13).ret hΓ
  ·exact((gJ.b h13).a [.cn [0,1,5] []]).ct hΓ cI (iS b7 hm1) (ih1 (i1+1) (dn b7) h)
theorem BZ{aC:af}{aZ:Bytes}{r:Int}(h:ot aC aZ=some r):Good prog 26 [D.sl (aC.map aH.c),D.str aZ] (D.int .i64 r):=by
 refine gd func26 [[none]] 20 fun hr Γ hΓ=>?_
 rw[ot]at h;refine(aT.a [.cn [0,1,5] []]).lp hΓ (D4 hΓ (fun h=>?_) (by have:=(gm.sl (hr _ (aB (i:=0) rfl))).1;simpa using this) aC 0 rfl h);cases h;exact aT.ret hΓ
def iM(aC:af)(k1:Option Bool):af->Nat->Option Bool
 | [],i1=>(k1)
 |bC::cE,i1=>((rL bC).bind fun JL=>(bif !(JL)then(some false)else((ot aC bC.name).bind fun Gr=>(bif (Gr:Int) != (i1:Int)then(some false)else(iM aC k1 cE (i1+1))))))
def oq(aC:af):Option Bool:=(iM aC (some (decide ((((aC.map aH.c).length:Int):Int)<=6))) aC 0)
def EB(aC:af)(dM:Int):St:=⟨[(0,D.sl (aC.map aH.c)),(3,D.int .i64 dM)],[]⟩
theorem D1(hΓ:Γ.nt=30){aC:af}{r:Bool}{k1:Option Bool}(dQ:k1=some r->Ax Γ N f8 (.q [[none]] (D.bool r)) [1,1] ⟨[(0,D.sl (aC.map aH.c))],[]⟩)(hm1:aC.length<=maxLen):∀(rest:af) (i1:Nat),aC.drop i1=rest->iM aC k1 rest i1=some r->Ar Γ N f8 (.q [[none]] (D.bool r)) [1,0,1,0] (rest.length+1) (EB aC (i1:Int)):=by
 intro rest
 induction rest with
 |nil=>
  intro i1 b7 h;rw[iM]at h;refine aO fun N1 cN cI=>?_
  exact((aT.ge aH.c b7).a [.hl 0 [0] []]).ex hΓ cN (dQ h)
 |cons bC cE ih1=>
  intro i1 b7 h;rw[iM]at h;refine aO fun N1 cN cI=>?_
  obtain⟨JL,h34,h⟩:=aF h;have oR:=(((aT.lt aH.c b7).l (bD aH.c 4 (dc b7) rfl)).g (ED h34))
  obtain⟨h35,h⟩|⟨h35,h⟩:=aN h
  ·have h:=aJ h;subst h;exact((oR.r 10 h35).T 1).ret hΓ
  ·obtain⟨Gr,h37,h⟩:=aF h;have nS:=(((((oR.r 4 h35).l (bD aH.c 4 (dc b7) rfl)).r 3 h35).g (BZ h37)).r 3 h35)
   obtain⟨h38,h⟩|⟨h38,h⟩:=aN h
   ·have h:=aJ h;subst h;exact(nS.b h38).ret hΓ
   ·exact((nS.b h38).a [.cn [0,3] []]).ct hΓ cI (iS b7 hm1) (ih1 (i1+1) (dn b7) h)
theorem uC{aC:af}{r:Bool}(h:oq aC=some r):Good prog 8 [D.sl (aC.map aH.c)] (D.bool r):=by
 refine gd func8 [[none]] 30 fun hr Γ hΓ=>?_
 rw[oq]at h;refine(aT.a [.cn [0,3] []]).lp hΓ (D1 hΓ (fun h=>?_) (by have:=(gm.sl (hr _ (aB (i:=0) rfl))).1;simpa using this) aC 0 rfl h);cases h;exact aT.ret hΓ
def kE(aC:af)(k1:af->Option af):af->Nat->af->Option af
 | [],i1,bK=>(k1 bK)
 |bC::cE,i1,bK=>((pV bC).bind fun jj=>(bif room ((bK.map aH.c).length+([[D.str jj.name,D.int .i64 jj.prio,D.sl (jj.conds.map aI.c),D.sl (jj.cc.map Action.c)]]).length) 72 then(kE aC k1 cE (i1+1) (bK++([jj])))else none))
def p7(aC:af):Option af:=(kE aC (fun(bf:af)=>(some bf)) aC 0 ([]:af))
def wE(aC:af)(W0:List aK)(dM:Int):St:=⟨[(0,D.sl (aC.map aH.c)),(3,D.acc 0),(4,D.int .i64 dM)],[Ob.row .uq 31 4 W0]⟩
theorem DD(hΓ:Γ.nt=21){aC:af}{r:af}{k1:af->Option af}(dQ:∀(bf:af),k1 bf=some r->Ax Γ N f28 (.q [[some (31,4)]] (D.fr 31 4 (r.map aH.c))) [1,1,1] ⟨[(3,D.acc 0)],[Ob.row .uq 31 4 (bf.map aH.c)]⟩)(hm1:aC.length<=maxLen):∀(rest:af) (i1:Nat) (bK:af),aC.drop i1=rest->kE aC k1 rest i1 bK=some r->Ar Γ N f28 (.q [[some (31,4)]] (D.fr 31 4 (r.map aH.c))) [1,1,0,1,0] (rest.length+1) (wE aC (bK.map aH.c) (i1:Int)):=by
 intro rest
 induction rest with
 |nil=>
  intro i1 bK b7 h;rw[kE]at h;refine aO fun N1 cN cI=>?_
  exact((aT.ge aH.c b7).a [.hl 0 [3] [0]]).ex hΓ cN (dQ bK h)
 |cons bC cE ih1=>
  intro i1 bK b7 h;rw[kE]at h;refine aO fun N1 cN cI=>?_
  obtain⟨jj,h28,h⟩:=aF h;obtain⟨h29,h⟩:=bu h;exact(((((aT.lt aH.c b7).l (bD aH.c 4 (dc b7) rfl)).g (EL h28)).w (cT h29)).a [.cn [0,3,4] [4]]).cs hΓ cI (wE aC ((bK.map aH.c)++([[D.str jj.name,D.int .i64 jj.prio,D.sl (jj.conds.map aI.c),D.sl (jj.cc.map Action.c)]])) (IntKind.i64.wrap ((i1:Int)+1))) (by first| (simp only[iS b7 hm1,mA]<;>rfl)| (simp only[iS b7 hm1,mA,aL.c,aS.c,aI.c,Action.c,aH.c,aq.c,fW.c,aW.c,Node.c,aR.c,fc.c]<;>rfl)) (ih1 (i1+1) (bK++([jj])) (dn b7) h)
theorem Bi{aC:af}{r:af}(h:p7 aC=some r):Good prog 28 [D.sl (aC.map aH.c)] (D.fr 31 4 (r.map aH.c)):=by
 refine gd func28 [[some (31,4)]] 21 fun hr Γ hΓ=>?_
 rw[p7]at h;refine(aT.a [.cn [0,3,4] [0]]).lp hΓ (DD hΓ (fun bf h=>?_) (by have:=(gm.sl (hr _ (aB (i:=0) rfl))).1;simpa using this) aC 0 ([]:af) rfl h);have h:=aJ h;subst h;exact aT.ret hΓ
def kH(aC:aQ)(aZ:Bytes)(k1:Option aQ):aQ->Nat->Option aQ
 | [],i1=>(k1)
 |bC::cE,i1=>(bif (bC.var:Bytes)==aZ then(some aC)else(kH aC aZ k1 cE (i1+1)))
def lQ(aC:aQ)(aZ:Bytes):Option aQ:=((kM aZ).bind fun y1=>(bif !(y1)then(some aC)else(kH aC aZ ((qf (IntKind.i64.wrap (((aC.map aS.c).length:Int)+1))).bind fun RR=>(bif decide (([63]:Bytes).length+(RR:Bytes).length<=maxLen)then(bif room ((aC.map aS.c).length+([[D.str aZ,D.str (([63])++RR)]]).length) 32 then(some (aC++([(⟨aZ,([63])++RR⟩:aS)])))else none)else none)) aC 0)))
def Gd(aC:aQ)(aZ:Bytes)(dM:Int):St:=⟨[(0,D.acc 0),(1,D.str aZ),(5,D.int .i64 dM)],[Ob.row .uq 175 2 (aC.map aS.c)]⟩
theorem FY(hΓ:Γ.nt=34){aC:aQ}{aZ:Bytes}{r:aQ}{k1:Option aQ}(dQ:k1=some r->Ax Γ N f126 (.q [[some (175,2)]] (D.fr 175 2 (r.map aS.c))) [1,1,1] ⟨[(0,D.acc 0),(1,D.str aZ)],[Ob.row .uq 175 2 (aC.map aS.c)]⟩)(hm1:aC.length<=maxLen):∀(rest:aQ) (i1:Nat),aC.drop i1=rest->kH aC aZ k1 rest i1=some r->Ar Γ N f126 (.q [[some (175,2)]] (D.fr 175 2 (r.map aS.c))) [1,1,0,1,0] (rest.length+1) (Gd aC aZ (i1:Int)):=by
 intro rest
 induction rest with
 |nil=>
  intro i1 b7 h;rw[kH]at h;refine aO fun N1 cN cI=>?_
  exact((aT.ge aS.c b7).a [.hl 0 [0,1] [0]]).ex hΓ cN (dQ h)
 |cons bC cE ih1=>
  intro i1 b7 h;rw[kH]at h;refine aO fun N1 cN cI=>?_
  have nL:=(((aT.lt aS.c b7).i (mQ aS.c 2 (dc b7))).o 2 1 .uq (fX aS.c (dc b7)))
  obtain⟨h17,h⟩|⟨h17,h⟩:=aN h
  ·have h:=aJ h;subst h;exact(nL.b h17).ret hΓ
  ·exact((nL.b h17).a [.cn [0,1,5] [0]]).ct hΓ cI (iS b7 hm1) (ih1 (i1+1) (dn b7) h)
theorem oP{aC:aQ}{aZ:Bytes}{r:aQ}(h:lQ aC aZ=some r):DP prog 126 [D.acc 0,D.str aZ] 175 2 (aC.map aS.c) (r.map aS.c):=by
 refine DP.of (c:=j4 f126) func126 rfl (by decide) (by simp[f126]) (yJ (c:=aS.c) (fun _=>rfl) r) ?_;intro xR Γ hΓ;have hΓ:Γ.nt=34:=hΓ;rw[lQ]at h;refine(show AW prog Γ (j4 f126) (KQ prog Γ (fun _ _=>False) ((Kd.q [[some (175,2)]] (D.fr 175 2 (r.map aS.c))).qq prog f126) []) _ from ?_);obtain⟨y1,h2,h⟩:=aF h;obtain⟨h3,h⟩|⟨h3,h⟩:=aN h
 ·have h:=aJ h;subst h;exact((aT.g (jH h2)).b h3).ret hΓ
 ·refine(((aT.g (jH h2)).b h3).a [.cn [0,1,5] [0]]).lp hΓ (FY hΓ (fun h=>?_) (by simpa using xR) aC 0 rfl h);obtain⟨RR,h19,h⟩:=aF h;obtain⟨h20,h⟩:=bu h;obtain⟨h21,h⟩:=bu h;cases h;exact(((aT.g (AN h19)).w (bq h20)).w (cT h21)).rts hΓ (D.fr 175 2 ((aC.map aS.c)++([[D.str aZ,D.str (([63])++RR)]]))) (by first|rfl| (simp only[mA]<;>rfl)| (simp only[cP,mA]<;>rfl))
def gR(aC:aH)(i1:Nat)(bC:aI)(k2:aQ->Option aQ):aE->Nat->aQ->Option aQ
 | [],i2,lP=>(k2 lP)
 |qp::yT,i2,lP=>((lQ lP qp).bind fun xf=>(gR aC i1 bC k2 yT (i2+1) xf))
def gQ(aC:aH)(k1:aQ->Option aQ):aY->Nat->aQ->Option aQ
 | [],i1,cQ=>(k1 cQ)
 |bC::cE,i1,cQ=>(bif decide (bC.pat.args.length<=maxLen)then(gR aC i1 bC (fun(wz:aQ)=>((lQ wz bC.left).bind fun tV=>((lQ tV bC.right).bind fun UI=>(gQ aC k1 cE (i1+1) UI)))) bC.pat.args 0 cQ)else none)
def nB(aC:aH):Option aQ:=(gQ aC (fun(bf:aQ)=>(some bf)) aC.conds 0 ([]:aQ))
def Bc(aC:aH)(W0:List aK)(dM:Int):St:=⟨[(1,D.ptr 0 0),(3,D.acc 1),(4,D.int .i64 dM)],[Ob.box (aH.c aC),Ob.row .uq 175 2 W0]⟩
def Bd(aC:aH)(i1:Nat)(W0:List aK)(dM:Int):St:=⟨[(1,D.ptr 0 0),(3,D.acc 1),(4,D.int .i64 (i1:Int)),(5,D.int .i64 dM)],[Ob.box (aH.c aC),Ob.row .uq 175 2 W0]⟩
theorem AR(hΓ:Γ.nt=55){aC:aH}{i1:Nat}{bC:aI}{r:aQ}{k2:aQ->Option aQ}(Ho:∀(wz:aQ),k2 wz=some r->Ax Γ N f76 (.q [[some (175,2)]] (D.fr 175 2 (r.map aS.c))) [1,1,0,1,0,0,1,0,0,1] ⟨[(1,D.ptr 0 0),(3,D.acc 1),(4,D.int .i64 (i1:Int))],[Ob.box (aH.c aC),Ob.row .uq 175 2 (wz.map aS.c)]⟩)(hx1:(aC.conds)[i1]?=some bC)(hm2:bC.pat.args.length<=maxLen):∀(rest:aE) (i2:Nat) (lP:aQ),bC.pat.args.drop i2=rest->gR aC i1 bC k2 rest i2 lP=some r->Ar Γ N f76 (.q [[some (175,2)]] (D.fr 175 2 (r.map aS.c))) [1,1,0,1,0,0,1,0,0,0,1,0] (rest.length+1) (Bd aC i1 (lP.map aS.c) (i2:Int)):=by
 intro rest
 induction rest with
 |nil=>
  intro i2 lP hd2 h;rw[gR]at h;refine aO fun N2 Ac xP=>?_
  exact(((aT.l (bD aI.c 5 hx1 rfl)).ge tx hd2).a [.hl 5 [1,3,4] [0,1]]).ex hΓ Ac (Ho lP h)
 |cons qp yT ih2=>
  intro i2 lP hd2 h;rw[gR]at h;refine aO fun N2 Ac xP=>?_
  obtain⟨xf,h207,h⟩:=aF h;exact(((((((aT.l (bD aI.c 5 hx1 rfl)).lt tx hd2).l (bD aI.c 5 hx1 rfl)).l (bD tx 1 (dc hd2) rfl)).w (show(lP.map aS.c).flatten.all D.flat=true from by simpa only[bR,bI,bP]using yJ (c:=aS.c) (fun _=>rfl) lP)).w (show DP prog 126 [D.acc 0,D.str qp] 175 2 (lP.map aS.c) (xf.map aS.c)from by simpa only[bR,bI,bP]using oP h207)).a [.ov 1 (xf.map aS.c),.cn [1,3,4,5] [0,2]]).ct hΓ xP (iS hd2 hm2) (ih2 (i2+1) xf (dn hd2) h)
theorem AQ(hΓ:Γ.nt=55){aC:aH}{r:aQ}{k1:aQ->Option aQ}(dQ:∀(bf:aQ),k1 bf=some r->Ax Γ N f76 (.q [[some (175,2)]] (D.fr 175 2 (r.map aS.c))) [1,1,1] ⟨[(3,D.acc 0)],[Ob.row .uq 175 2 (bf.map aS.c)]⟩)(hm1:aC.conds.length<=maxLen):∀(rest:aY) (i1:Nat) (cQ:aQ),aC.conds.drop i1=rest->gQ aC k1 rest i1 cQ=some r->Ar Γ N f76 (.q [[some (175,2)]] (D.fr 175 2 (r.map aS.c))) [1,1,0,1,0] (rest.length+1) (Bc aC (cQ.map aS.c) (i1:Int)):=by
 intro rest
 induction rest with
 |nil=>
  intro i1 cQ b7 h;rw[gQ]at h;refine aO fun N1 cN cI=>?_
  exact((aT.ge aI.c b7).a [.hl 0 [3] [1]]).ex hΓ cN (dQ cQ h)
 |cons bC cE ih1=>
  intro i1 cQ b7 h;rw[gQ]at h;refine aO fun N1 cN cI=>?_
  obtain⟨h212,h⟩:=bu h;refine((aT.lt aI.c b7).a [.cn [1,3,4,5] [0,1]]).lp hΓ (AR hΓ (fun wz h=>?_) ((drop_cons b7).1) (bq h212) bC.pat.args 0 cQ rfl h);obtain⟨tV,h209,h⟩:=aF h;obtain⟨UI,h211,h⟩:=aF h;exact((((((((aT.l (bD aI.c 5 (dc b7) rfl)).w (show(wz.map aS.c).flatten.all D.flat=true from by simpa only[bR,bI,bP]using yJ (c:=aS.c) (fun _=>rfl) wz)).w (show DP prog 126 [D.acc 0,D.str bC.left] 175 2 (wz.map aS.c) (tV.map aS.c)from by simpa only[bR,bI,bP]using oP h209)).a [.ov 1 (tV.map aS.c)]).l (bD aI.c 5 (dc b7) rfl)).w (show(tV.map aS.c).flatten.all D.flat=true from by simpa only[bR,bI,bP]using yJ (c:=aS.c) (fun _=>rfl) tV)).w (show DP prog 126 [D.acc 0,D.str bC.right] 175 2 (tV.map aS.c) (UI.map aS.c)from by simpa only[bR,bI,bP]using oP h211)).a [.ov 2 (UI.map aS.c),.cn [1,3,4] [0,3]]).ct hΓ cI (iS b7 hm1) (ih1 (i1+1) UI (dn b7) h)
theorem zA{aC:aH}{r:aQ}(h:nB aC=some r):Good prog 76 [D.agg (aH.c aC)] (D.fr 175 2 (r.map aS.c)):=by
 refine gd func76 [[some (175,2)]] 55 fun hr Γ hΓ=>?_
 rw[nB]at h;refine(aT.a [.cn [1,3,4] [0,1]]).lp hΓ (AQ hΓ (fun bf h=>?_) (by have:=(gm.sl (gm.agg (hr _ (aB (i:=0) rfl)) (.sl (aC.conds.map aI.c)) (by simp))).1;simpa using this) aC.conds 0 ([]:aQ) rfl h);have h:=aJ h;subst h;exact aT.ret hΓ
def iv(aC:aH)(y1:aQ)(k1:aY->Option aY):aY->Nat->aY->Option aY
 | [],i1,cQ=>(k1 cQ)
 |bC::cE,i1,cQ=>((iA bC y1).bind fun DM=>(bif room ((cQ.map aI.c).length+([[D.int .i64 DM.kind,D.str DM.pat.rel,D.sl (DM.pat.args.map tx),D.str DM.left,D.str DM.right]]).length) 80 then(iv aC y1 k1 cE (i1+1) (cQ++([DM])))else none))
def nA(aC:aH):Option aY:=((nB aC).bind fun y1=>(iv aC y1 (fun(bf:aY)=>(some bf)) aC.conds 0 ([]:aY)))
def uD(aC:aH)(y1:aQ)(W0:List aK)(dM:Int):St:=⟨[(1,D.ptr 0 0),(3,D.acc 1),(4,D.acc 2),(5,D.int .i64 dM)],[Ob.box (aH.c aC),Ob.row .uq 71 5 W0,Ob.row .uq 175 2 (y1.map aS.c)]⟩
theorem AP(hΓ:Γ.nt=27){aC:aH}{y1:aQ}{r:aY}{k1:aY->Option aY}(dQ:∀(bf:aY),k1 bf=some r->Ax Γ N f29 (.q [[some (71,5)]] (D.fr 71 5 (r.map aI.c))) [1,1,1,1] ⟨[(3,D.acc 0)],[Ob.row .uq 71 5 (bf.map aI.c)]⟩)(hm1:aC.conds.length<=maxLen):∀(rest:aY) (i1:Nat) (cQ:aY),aC.conds.drop i1=rest->iv aC y1 k1 rest i1 cQ=some r->Ar Γ N f29 (.q [[some (71,5)]] (D.fr 71 5 (r.map aI.c))) [1,1,1,0,1,0] (rest.length+1) (uD aC y1 (cQ.map aI.c) (i1:Int)):=by
 intro rest
 induction rest with
 |nil=>
  intro i1 cQ b7 h;rw[iv]at h;refine aO fun N1 cN cI=>?_
  exact((aT.ge aI.c b7).a [.hl 0 [3] [1]]).ex hΓ cN (dQ cQ h)
 |cons bC cE ih1=>
  intro i1 cQ b7 h;rw[iv]at h;refine aO fun N1 cN cI=>?_
  obtain⟨DM,h30,h⟩:=aF h;obtain⟨h31,h⟩:=bu h;exact(((((aT.lt aI.c b7).l (bD aI.c 5 (dc b7) rfl)).g (gj h30)).w (cT h31)).a [.cn [1,3,4,5] [0,5,2]]).cs hΓ cI (uD aC y1 ((cQ.map aI.c)++([[D.int .i64 DM.kind,D.str DM.pat.rel,D.sl (DM.pat.args.map tx),D.str DM.left,D.str DM.right]])) (IntKind.i64.wrap ((i1:Int)+1))) (by first| (simp only[iS b7 hm1,mA]<;>rfl)| (simp only[iS b7 hm1,mA,aL.c,aS.c,aI.c,Action.c,aH.c,aq.c,fW.c,aW.c,Node.c,aR.c,fc.c]<;>rfl)) (ih1 (i1+1) (cQ++([DM])) (dn b7) h)
theorem z8{aC:aH}{r:aY}(h:nA aC=some r):Good prog 29 [D.agg (aH.c aC)] (D.fr 71 5 (r.map aI.c)):=by
 refine gd func29 [[some (71,5)]] 27 fun hr Γ hΓ=>?_
 rw[nA]at h;obtain⟨y1,h2,h⟩:=aF h;refine((aT.g (zA h2)).a [.cn [1,3,4,5] [0,1,2]]).lp hΓ (AP hΓ (fun bf h=>?_) (by have:=(gm.sl (gm.agg (hr _ (aB (i:=0) rfl)) (.sl (aC.conds.map aI.c)) (by simp))).1;simpa using this) aC.conds 0 ([]:aY) rfl h);have h:=aJ h;subst h;exact aT.ret hΓ
def iD(aC:aE)(aZ:aE)(k1:Option Bool):aE->Nat->Option Bool
 | [],i1=>(k1)
 |bC::cE,i1=>((sK aZ (i1:Int)).bind fun x22=>(bif !((bC:Bytes)==x22)then(some false)else(iD aC aZ k1 cE (i1+1))))
def mH(aC:aE)(aZ:aE):Option Bool:=(bif (((aC.map tx).length:Int):Int) != ((aZ.map tx).length:Int)then(some false)else(iD aC aZ (some true) aC 0))
def AT(aC:aE)(aZ:aE)(dM:Int):St:=⟨[(0,D.sl (aC.map tx)),(1,D.sl (aZ.map tx)),(5,D.int .i64 dM)],[]⟩
theorem zB(hΓ:Γ.nt=26){aC:aE}{aZ:aE}{r:Bool}{k1:Option Bool}(dQ:k1=some r->Ax Γ N f163 (.q [[none]] (D.bool r)) [1,1,1] ⟨[],[]⟩)(hm1:aC.length<=maxLen):∀(rest:aE) (i1:Nat),aC.drop i1=rest->iD aC aZ k1 rest i1=some r->Ar Γ N f163 (.q [[none]] (D.bool r)) [1,1,0,1,0] (rest.length+1) (AT aC aZ (i1:Int)):=by
 intro rest
 induction rest with
 |nil=>
  intro i1 b7 h;rw[iD]at h;refine aO fun N1 cN cI=>?_
  exact((aT.ge tx b7).a [.hl 0 [] []]).ex hΓ cN (dQ h)
 |cons bC cE ih1=>
  intro i1 b7 h;rw[iD]at h;refine aO fun N1 cN cI=>?_
  obtain⟨x22,h23,h⟩:=aF h;have gJ:=((((aT.lt tx b7).a [.n 8]).l (bD tx 1 (dc b7) rfl)).l (oL tx 1 h23 rfl))
  obtain⟨h24,h⟩|⟨h24,h⟩:=aN h
  ·have h:=aJ h;subst h;exact(gJ.b h24).ret hΓ
  ·exact((gJ.b h24).a [.cn [0,1,5] []]).ct hΓ cI (iS b7 hm1) (ih1 (i1+1) (dn b7) h)
theorem yF{aC:aE}{aZ:aE}{r:Bool}(h:mH aC aZ=some r):Good prog 163 [D.sl (aC.map tx),D.sl (aZ.map tx)] (D.bool r):=by
 refine gd func163 [[none]] 26 fun hr Γ hΓ=>?_
 rw[mH]at h;obtain⟨h1,h⟩|⟨h1,h⟩:=aN h
 ·have h:=aJ h;subst h;exact(aT.b h1).ret hΓ
 ·refine((aT.b h1).a [.cn [0,1,5] []]).lp hΓ (zB hΓ (fun h=>?_) (by have:=(gm.sl (hr _ (aB (i:=0) rfl))).1;simpa using this) aC 0 rfl h);have h:=aJ h;subst h;exact aT.ret hΓ
def kC(aC:aL)(aZ:aL):Option Bool:=(bif (aC.rel:Bytes)==aZ.rel then((mH aC.args aZ.args).bind fun y2=>(some y2))else(some false))
theorem sC{aC:aL}{aZ:aL}{r:Bool}(h:kC aC aZ=some r):Good prog 128 [D.agg (aL.c aC),D.agg (aL.c aZ)] (D.bool r):=by
 refine gd func128 [[none]] 17 fun hr Γ hΓ=>?_
 rw[kC]at h;obtain⟨h1,h⟩|⟨h1,h⟩:=aN h
 ·obtain⟨y2,h3,h⟩:=aF h;have h:=aJ h;subst h;exact(((aT.r 5 h1).g (yF h3)).b h1).ret hΓ
 ·have h:=aJ h;subst h;exact(aT.r 6 h1).ret hΓ
def oz(aC:aI)(aZ:aI):Option Bool:=(bif (aC.kind:Int)==aZ.kind then((kC aC.pat aZ.pat).bind fun y2=>(bif y2 then(bif (aC.left:Bytes)==aZ.left then(some ((aC.right:Bytes)==aZ.right))else(some false))else(some false)))else(some false))
theorem Bf{aC:aI}{aZ:aI}{r:Bool}(h:oz aC aZ=some r):Good prog 78 [D.agg (aI.c aC),D.agg (aI.c aZ)] (D.bool r):=by
 refine gd func78 [[none]] 31 fun hr Γ hΓ=>?_
 rw[oz]at h;obtain⟨h1,h⟩|⟨h1,h⟩:=aN h
 ·obtain⟨y2,h3,h⟩:=aF h;have nL:=(((aT.r 5 h1).g (sC h3)).b h1)
  obtain⟨h4,h⟩|⟨h4,h⟩:=aN h
  ·have gJ:=(nL.r 6 h4)
   obtain⟨h5,h⟩|⟨h5,h⟩:=aN h
   ·cases h;exact(gJ.r 6 h5).ret hΓ
   ·have h:=aJ h;subst h;exact(gJ.r 6 h5).ret hΓ
  ·have h:=aJ h;subst h;exact((nL.r 6 h4).F 6).ret hΓ
 ·have h:=aJ h;subst h;exact((aT.r 6 h1).F 12).ret hΓ
def jI(aC:aL)(k1:aQ->Option aL):aE->Nat->aQ->Option aL
 | [],i1,mK=>(k1 mK)
 |bC::cE,i1,mK=>((lQ mK bC).bind fun mR=>(jI aC k1 cE (i1+1) mR))
def oB(aC:aL):Option aL:=(jI aC (fun(sJ:aQ)=>((iA (⟨0,aC,[],[]⟩:aI) sJ).bind fun JK=>(some JK.pat))) aC.args 0 ([]:aQ))
def FR(aC:aL)(W0:List aK)(dM:Int):St:=⟨[(1,D.ptr 0 0),(2,D.ptr 1 0),(3,D.acc 2),(4,D.int .i64 dM)],[Ob.box (aL.c aC),Ob.box [D.str ([]),D.nil],Ob.row .uq 175 2 W0]⟩
theorem EI(hΓ:Γ.nt=25){aC:aL}{r:aL}{k1:aQ->Option aL}(dQ:∀(sJ:aQ),k1 sJ=some r->Ax Γ N f80 (.q [[none,some (9,1)]] (D.agg [D.str r.rel,D.fr 9 1 (r.args.map tx)])) [1,1,1] ⟨[(1,D.ptr 0 0),(2,D.ptr 1 0),(3,D.acc 2)],[Ob.box (aL.c aC),Ob.box [D.str ([]),D.nil],Ob.row .uq 175 2 (sJ.map aS.c)]⟩)(hm1:aC.args.length<=maxLen):∀(rest:aE) (i1:Nat) (mK:aQ),aC.args.drop i1=rest->jI aC k1 rest i1 mK=some r->Ar Γ N f80 (.q [[none,some (9,1)]] (D.agg [D.str r.rel,D.fr 9 1 (r.args.map tx)])) [1,1,0,1,0] (rest.length+1) (FR aC (mK.map aS.c) (i1:Int)):=by
 intro rest
 induction rest with
 |nil=>
  intro i1 mK b7 h;rw[jI]at h;refine aO fun N1 cN cI=>?_
  exact((aT.ge tx b7).a [.hl 0 [1,2,3] [0,1,2]]).ex hΓ cN (dQ mK h)
 |cons bC cE ih1=>
  intro i1 mK b7 h;rw[jI]at h;refine aO fun N1 cN cI=>?_
  obtain⟨mR,h23,h⟩:=aF h;exact(((((aT.lt tx b7).l (bD tx 1 (dc b7) rfl)).w (show(mK.map aS.c).flatten.all D.flat=true from by simpa only[bR,bI,bP]using yJ (c:=aS.c) (fun _=>rfl) mK)).w (show DP prog 126 [D.acc 0,D.str bC] 175 2 (mK.map aS.c) (mR.map aS.c)from by simpa only[bR,bI,bP]using oP h23)).a [.ov 2 (mR.map aS.c),.cn [1,2,3,4] [0,1,3]]).ct hΓ cI (iS b7 hm1) (ih1 (i1+1) mR (dn b7) h)
theorem uz{aC:aL}{r:aL}(h:oB aC=some r):Good prog 80 [D.agg (aL.c aC)] (D.agg [D.str r.rel,D.fr 9 1 (r.args.map tx)]):=by
 refine gd func80 [[none,some (9,1)]] 25 fun hr Γ hΓ=>?_
 rw[oB]at h;refine(aT.a [.cn [1,2,3,4] [0,1,2]]).lp hΓ (EI hΓ (fun sJ h=>?_) (by have:=(gm.sl (gm.agg (hr _ (aB (i:=0) rfl)) (.sl (aC.args.map tx)) (by simp))).1;simpa using this) aC.args 0 ([]:aQ) rfl h);obtain⟨JK,h25,h⟩:=aF h;cases h;exact((aT.a [.d (D.agg [D.int .i64 JK.kind,D.str JK.pat.rel,D.fr 9 1 (JK.pat.args.map tx),D.str JK.left,D.str JK.right])]).w (show Good prog 77 [D.agg [D.int .i64 0,D.str aC.rel,D.sl (aC.args.map tx),D.str ([]),D.str ([])],D.sl (sJ.map aS.c)] (D.agg [D.int .i64 JK.kind,D.str JK.pat.rel,D.fr 9 1 (JK.pat.args.map tx),D.str JK.left,D.str JK.right])from by first| (simpa only[bR,bI,bP,eM,dl]using gj h25)|exact gj h25| (have t:=gj h25;simp only[bR,eM,dl,aI.c]at t;exact t))).ret hΓ
def jL(aC:aR)(aZ:aL)(k1:Option (aR×Int)):bE->Nat->Option (aR×Int)
 | [],i1=>(k1)
 |bC::cE,i1=>((kC bC.shape aZ).bind fun mR=>(bif mR then(some (aC,(i1:Int)))else(jL aC aZ k1 cE (i1+1))))
def oC(aC:aR)(aZ:aL):Option (aR×Int):=(bif decide (aC.bU.length<=maxLen)then(jL aC aZ (bif room ((aC.bU.map aW.c).length+([[D.str aZ.rel,D.sl (aZ.args.map tx),D.sl ([])]]).length) 64 then(some ((⟨aC.rules,aC.ends,aC.bU++([(⟨aZ,[]⟩:aW)]),aC.nodes,aC.facts,aC.cu⟩:aR),IntKind.i64.wrap ((((aC.bU.map aW.c)++([[D.str aZ.rel,D.sl (aZ.args.map tx),D.sl ([])]])).length:Int)-1)))else none) aC.bU 0)else none)
def FW(dU:Value)(aC:aR)(aZ:aL)(dM:Int):St:=⟨[(0,D.ptr 0 0),(3,D.ptr 1 0),(5,D.int .i64 dM)],[Ob.Gj [D.acc 2,D.acc 3,D.acc 4,D.acc 5,D.acc 6,D.int .i64 aC.cu] dU,Ob.box [D.str aZ.rel,D.acc 7],Ob.row .uq 31 4 (aC.rules.map aH.c),Ob.row .uq 3 1 (aC.ends.map jd),Ob.row .uq 124 3 (aC.bU.map aW.c),Ob.row .uq 73 8 (aC.nodes.map Node.c),Ob.row .uq 127 2 (aC.facts.map aL.c),Ob.row .uq 9 1 (aZ.args.map tx)]⟩
theorem EM(hΓ:Γ.nt=43){dU:Value}{aC:aR}{aZ:aL}{r:aR×Int}{k1:Option (aR×Int)}(dQ:k1=some r->Ax Γ N f79 (.p [[some (31,4),some (3,1),some (124,3),some (73,8),some (127,2),none],[none]] dU (cP r.1) (D.int .i64 r.2)) [1,1] ⟨[(0,D.ptr 0 0),(3,D.ptr 1 0)],[Ob.Gj [D.acc 2,D.acc 3,D.acc 4,D.acc 5,D.acc 6,D.int .i64 aC.cu] dU,Ob.box [D.str aZ.rel,D.acc 7],Ob.row .uq 31 4 (aC.rules.map aH.c),Ob.row .uq 3 1 (aC.ends.map jd),Ob.row .uq 124 3 (aC.bU.map aW.c),Ob.row .uq 73 8 (aC.nodes.map Node.c),Ob.row .uq 127 2 (aC.facts.map aL.c),Ob.row .uq 9 1 (aZ.args.map tx)]⟩)(hm1:aC.bU.length<=maxLen):∀(rest:bE) (i1:Nat),aC.bU.drop i1=rest->jL aC aZ k1 rest i1=some r->Ar Γ N f79 (.p [[some (31,4),some (3,1),some (124,3),some (73,8),some (127,2),none],[none]] dU (cP r.1) (D.int .i64 r.2)) [1,0,1,0] (rest.length+1) (FW dU aC aZ (i1:Int)):=by
 intro rest
 induction rest with
 |nil=>
  intro i1 b7 h;rw[jL]at h;refine aO fun N1 cN cI=>?_
  exact((aT.ge aW.c b7).a [.hl 0 [0,3] [0,1,2,3,4,5,6,7]]).ex hΓ cN (dQ h)
 |cons bC cE ih1=>
  intro i1 b7 h;rw[jL]at h;refine aO fun N1 cN cI=>?_
  obtain⟨mR,h23,h⟩:=aF h;have gJ:=(((((aT.lt aW.c b7).a [.n 9]).i (mQ aW.c 3 (dc b7))).o 3 2 .uq (fX aW.c (dc b7))).g (sC h23))
  obtain⟨h24,h⟩|⟨h24,h⟩:=aN h
  ·cases h;exact(gJ.b h24).ret hΓ
  ·exact((gJ.b h24).a [.cn [0,3,5] [0,1,2,3,4,5,6,7]]).ct hΓ cI (iS b7 hm1) (ih1 (i1+1) (dn b7) h)
theorem v8{aC:aR}{aZ:aL}{r:aR×Int}(h:oC aC aZ=some r):qm prog 79 (cP aC) (cP r.1) [D.agg [D.str aZ.rel,D.fr 9 1 (aZ.args.map tx)]] (D.int .i64 r.2):=by
 refine S7 func79 [[some (31,4),some (3,1),some (124,3),some (73,8),some (127,2),none],[none]] 43 [D.acc 1,D.acc 2,D.acc 3,D.acc 4,D.acc 5,D.int .i64 aC.cu] [D.agg [D.str aZ.rel,D.acc 6]] [Ob.row .uq 31 4 (aC.rules.map aH.c),Ob.row .uq 3 1 (aC.ends.map jd),Ob.row .uq 124 3 (aC.bU.map aW.c),Ob.row .uq 73 8 (aC.nodes.map Node.c),Ob.row .uq 127 2 (aC.facts.map aL.c),Ob.row .uq 9 1 (aZ.args.map tx)] fun hr dU Γ hΓ=>?_
 rw[oC]at h;obtain⟨h27,h⟩:=bu h;refine(aT.a [.cn [0,3,5] [0,7,1,2,3,4,5,6]]).lp hΓ (EM hΓ (fun h=>?_) (bq h27) aC.bU 0 rfl h);obtain⟨h26,h⟩:=bu h;cases h;exact((aT.w (cT h26)).a [.n2 [0,1,2,3,4,5,6,7,8,9,10,11] [0,1,2,3,4,5,6,7,8,9,10,11] 7 9 [0,1,2,3,4] [4,7,8]]).rts hΓ (D.iE [D.int .i64 (IntKind.i64.wrap ((((aC.bU.map aW.c)++([[D.str aZ.rel,D.sl (aZ.args.map tx),D.sl ([])]])).length:Int)-1)),D.agg [D.fr 31 4 (aC.rules.map aH.c),D.fr 3 1 (aC.ends.map jd),D.fr 124 3 ((aC.bU.map aW.c)++([[D.str aZ.rel,D.sl (aZ.args.map tx),D.sl ([])]])),D.fr 73 8 (aC.nodes.map Node.c),D.fr 127 2 (aC.facts.map aL.c),D.int .i64 aC.cu],D.val dU]) (by first|rfl| (simp only[mA]<;>rfl)| (simp only[cP,mA]<;>rfl))
def fE(aC:aR)(aZ:Int)(eZ:aI)(k1:Option (aR×Int)):Nat->Int->Option (aR×Int)
 |0,_=>none
 |n1+1,G5=>(bif decide ((G5:Int)<((aC.nodes.map Node.c).length:Int))then((sK aC.nodes G5).bind fun x16=>(bif (x16.parent:Int)==aZ then((oz x16.cond eZ).bind fun y19=>(bif y19 then(some (aC,G5))else(fE aC aZ eZ k1 n1 (IntKind.i64.wrap (G5+1)))))else(fE aC aZ eZ k1 n1 (IntKind.i64.wrap (G5+1)))))else(k1))
def qU(aC:aR)(aZ:Int)(eZ:aI):Option (aR×Int):=(fE aC aZ eZ ((nI eZ).bind fun mR=>(bif (eZ.kind:Int)==1 then((oB eZ.pat).bind fun UJ=>((oC aC UJ).bind fun jj=>(bif room ((jj.1.nodes.map Node.c).length+([[D.int .i64 aZ,D.int .i64 mR.kind,D.str mR.pat.rel,D.sl (mR.pat.args.map tx),D.str mR.left,D.str mR.right,D.int .i64 jj.2,D.sl ([])]]).length) 120 then(some ((⟨jj.1.rules,jj.1.ends,jj.1.bU,jj.1.nodes++([(⟨aZ,mR,jj.2,[]⟩:Node)]),jj.1.facts,jj.1.cu⟩:aR),IntKind.i64.wrap ((((jj.1.nodes.map Node.c)++([[D.int .i64 aZ,D.int .i64 mR.kind,D.str mR.pat.rel,D.sl (mR.pat.args.map tx),D.str mR.left,D.str mR.right,D.int .i64 jj.2,D.sl ([])]])).length:Int)-1)))else none)))else(bif (eZ.kind:Int)==2 then((oB eZ.pat).bind fun Da=>((oC aC Da).bind fun DN=>(bif room ((DN.1.nodes.map Node.c).length+([[D.int .i64 aZ,D.int .i64 mR.kind,D.str mR.pat.rel,D.sl (mR.pat.args.map tx),D.str mR.left,D.str mR.right,D.int .i64 DN.2,D.sl ([])]]).length) 120 then(some ((⟨DN.1.rules,DN.1.ends,DN.1.bU,DN.1.nodes++([(⟨aZ,mR,DN.2,[]⟩:Node)]),DN.1.facts,DN.1.cu⟩:aR),IntKind.i64.wrap ((((DN.1.nodes.map Node.c)++([[D.int .i64 aZ,D.int .i64 mR.kind,D.str mR.pat.rel,D.sl (mR.pat.args.map tx),D.str mR.left,D.str mR.right,D.int .i64 DN.2,D.sl ([])]])).length:Int)-1)))else none)))else(bif room ((aC.nodes.map Node.c).length+([[D.int .i64 aZ,D.int .i64 mR.kind,D.str mR.pat.rel,D.sl (mR.pat.args.map tx),D.str mR.left,D.str mR.right,D.int .i64 (-1),D.sl ([])]]).length) 120 then(some ((⟨aC.rules,aC.ends,aC.bU,aC.nodes++([(⟨aZ,mR, -1,[]⟩:Node)]),aC.facts,aC.cu⟩:aR),IntKind.i64.wrap ((((aC.nodes.map Node.c)++([[D.int .i64 aZ,D.int .i64 mR.kind,D.str mR.pat.rel,D.sl (mR.pat.args.map tx),D.str mR.left,D.str mR.right,D.int .i64 (-1),D.sl ([])]])).length:Int)-1)))else none)))) fuel 1)
def FX(dU:Value)(aC:aR)(aZ:Int)(eZ:aI)(G5:Int):St:=⟨[(0,D.ptr 0 0),(1,D.int .i64 aZ),(5,D.ptr 1 0),(7,D.int .i64 G5)],[Ob.Gj [D.acc 2,D.acc 3,D.acc 4,D.acc 5,D.acc 6,D.int .i64 aC.cu] dU,Ob.box (aI.c eZ),Ob.row .uq 31 4 (aC.rules.map aH.c),Ob.row .uq 3 1 (aC.ends.map jd),Ob.row .uq 124 3 (aC.bU.map aW.c),Ob.row .uq 73 8 (aC.nodes.map Node.c),Ob.row .uq 127 2 (aC.facts.map aL.c)]⟩
theorem EN(hΓ:Γ.nt=75){dU:Value}{aC:aR}{aZ:Int}{eZ:aI}{r:aR×Int}{k1:Option (aR×Int)}(dQ:k1=some r->Ax Γ N f30 (.p [[some (31,4),some (3,1),some (124,3),some (73,8),some (127,2),none],[none]] dU (cP r.1) (D.int .i64 r.2)) [1,1] ⟨[(0,D.ptr 0 0),(1,D.int .i64 aZ),(5,D.ptr 1 0)],[Ob.Gj [D.acc 2,D.acc 3,D.acc 4,D.acc 5,D.acc 6,D.int .i64 aC.cu] dU,Ob.box (aI.c eZ),Ob.row .uq 31 4 (aC.rules.map aH.c),Ob.row .uq 3 1 (aC.ends.map jd),Ob.row .uq 124 3 (aC.bU.map aW.c),Ob.row .uq 73 8 (aC.nodes.map Node.c),Ob.row .uq 127 2 (aC.facts.map aL.c)]⟩):∀(n1:Nat) (G5:Int),fE aC aZ eZ k1 n1 G5=some r->Ar Γ N f30 (.p [[some (31,4),some (3,1),some (124,3),some (73,8),some (127,2),none],[none]] dU (cP r.1) (D.int .i64 r.2)) [1,0,1,0] n1 (FX dU aC aZ eZ G5):=by
 intro n
 induction n with
 |zero=>intro G5 h;simp[fE]at h
 |succ n1 ih1=>
  intro G5 h;rw[fE]at h;refine aO fun N1 cN cI=>?_
  obtain⟨h15,h⟩|⟨h15,h⟩:=aN h
  ·obtain⟨x16,h17,h⟩:=aF h;have oR:=((((aT.b h15).a [.n 20]).i (J1 Node.c 8 h17)).o 8 1 .uq (fX Node.c (Ex h17)))
   obtain⟨h18,h⟩|⟨h18,h⟩:=aN h
   ·obtain⟨y19,h20,h⟩:=aF h;have nS:=(((((((oR.r 6 h18).i (J1 Node.c 8 h17)).r 2 h18).o 8 6 .uq (fX Node.c (Ex h17))).r 2 h18).g (Bf h20)).b h18)
    obtain⟨h21,h⟩|⟨h21,h⟩:=aN h
    ·cases h;exact(nS.b h21).ret hΓ
    ·exact((nS.b h21).a [.cn [0,1,5,7] [0,1,2,3,4,5,6]]).cf hΓ cI (ih1 (IntKind.i64.wrap (G5+1)) h)
   ·exact(((oR.r 11 h18).F 1).a [.cn [0,1,5,7] [0,1,2,3,4,5,6]]).cf hΓ cI (ih1 (IntKind.i64.wrap (G5+1)) h)
  ·exact((aT.b h15).a [.hl 0 [0,1,5] [0,1,2,3,4,5,6]]).ex hΓ cN (dQ h)
theorem DE{aC:aR}{aZ:Int}{eZ:aI}{r:aR×Int}(h:qU aC aZ eZ=some r):qm prog 30 (cP aC) (cP r.1) [D.int .i64 aZ,D.agg (aI.c eZ)] (D.int .i64 r.2):=by
 refine S7 func30 [[some (31,4),some (3,1),some (124,3),some (73,8),some (127,2),none],[none]] 75 [D.acc 1,D.acc 2,D.acc 3,D.acc 4,D.acc 5,D.int .i64 aC.cu] [D.int .i64 aZ,D.agg [D.int .i64 eZ.kind,D.str eZ.pat.rel,D.sl (eZ.pat.args.map tx),D.str eZ.left,D.str eZ.right]] [Ob.row .uq 31 4 (aC.rules.map aH.c),Ob.row .uq 3 1 (aC.ends.map jd),Ob.row .uq 124 3 (aC.bU.map aW.c),Ob.row .uq 73 8 (aC.nodes.map Node.c),Ob.row .uq 127 2 (aC.facts.map aL.c)] fun hr dU Γ hΓ=>?_
 rw[qU]at h;refine(aT.a [.cn [0,1,5,7] [0,6,1,2,3,4,5]]).lp hΓ (EN hΓ (fun h=>?_) fuel 1 h);obtain⟨mR,h23,h⟩:=aF h;obtain⟨h24,h⟩|⟨h24,h⟩:=aN h
 ·obtain⟨UJ,h26,h⟩:=aF h;obtain⟨jj,h28,h⟩:=aF h;obtain⟨h30,h⟩:=bu h;cases h;exact(((((((aT.g (rY h23)).r 4 h24).T 1).g (uz h26)).hp [[some (31,4),some (3,1),some (124,3),some (73,8),some (127,2),none],[none,some (9,1)]] (v8 h28)).w (cT h30)).a [.n2 [0,1,2,3,4,5,6,7,8,9,10] [0,1,2,3,4,5,6,7,8,9,10] 6 8 [0,1,2,3,4] [7,13,15]]).rts hΓ (D.iE [D.int .i64 (IntKind.i64.wrap ((((jj.1.nodes.map Node.c)++([[D.int .i64 aZ,D.int .i64 mR.kind,D.str mR.pat.rel,D.sl (mR.pat.args.map tx),D.str mR.left,D.str mR.right,D.int .i64 jj.2,D.sl ([])]])).length:Int)-1)),D.agg [D.fr 31 4 (jj.1.rules.map aH.c),D.fr 3 1 (jj.1.ends.map jd),D.fr 124 3 (jj.1.bU.map aW.c),D.fr 73 8 ((jj.1.nodes.map Node.c)++([[D.int .i64 aZ,D.int .i64 mR.kind,D.str mR.pat.rel,D.sl (mR.pat.args.map tx),D.str mR.left,D.str mR.right,D.int .i64 jj.2,D.sl ([])]])),D.fr 127 2 (jj.1.facts.map aL.c),D.int .i64 jj.1.cu],D.val dU]) (by first|rfl| (simp only[mA]<;>rfl)| (simp only[cP,mA]<;>rfl))
 ·have vB:=((aT.g (rY h23)).r 4 h24)
  obtain⟨h31,h⟩|⟨h31,h⟩:=aN h
  ·obtain⟨Da,h33,h⟩:=aF h;obtain⟨DN,h35,h⟩:=aF h;obtain⟨h37,h⟩:=bu h;cases h;exact(((((vB.b h31).g (uz h33)).hp [[some (31,4),some (3,1),some (124,3),some (73,8),some (127,2),none],[none,some (9,1)]] (v8 h35)).w (cT h37)).a [.n2 [0,1,2,3,4,5,6,7,8,9,10] [0,1,2,3,4,5,6,7,8,9,10] 6 8 [0,1,2,3,4] [7,13,15]]).rts hΓ (D.iE [D.int .i64 (IntKind.i64.wrap ((((DN.1.nodes.map Node.c)++([[D.int .i64 aZ,D.int .i64 mR.kind,D.str mR.pat.rel,D.sl (mR.pat.args.map tx),D.str mR.left,D.str mR.right,D.int .i64 DN.2,D.sl ([])]])).length:Int)-1)),D.agg [D.fr 31 4 (DN.1.rules.map aH.c),D.fr 3 1 (DN.1.ends.map jd),D.fr 124 3 (DN.1.bU.map aW.c),D.fr 73 8 ((DN.1.nodes.map Node.c)++([[D.int .i64 aZ,D.int .i64 mR.kind,D.str mR.pat.rel,D.sl (mR.pat.args.map tx),D.str mR.left,D.str mR.right,D.int .i64 DN.2,D.sl ([])]])),D.fr 127 2 (DN.1.facts.map aL.c),D.int .i64 DN.1.cu],D.val dU]) (by first|rfl| (simp only[mA]<;>rfl)| (simp only[cP,mA]<;>rfl))
  ·obtain⟨h39,h⟩:=bu h;cases h;exact(((vB.b h31).w (cT h39)).a [.n2 [0,1,2,3,4,5,6,7,8,9,10] [0,1,2,3,4,5,6,7,8,9,10] 6 8 [0,1,2,3,4] [5,7,9]]).rts hΓ (D.iE [D.int .i64 (IntKind.i64.wrap ((((aC.nodes.map Node.c)++([[D.int .i64 aZ,D.int .i64 mR.kind,D.str mR.pat.rel,D.sl (mR.pat.args.map tx),D.str mR.left,D.str mR.right,D.int .i64 (-1),D.sl ([])]])).length:Int)-1)),D.agg [D.fr 31 4 (aC.rules.map aH.c),D.fr 3 1 (aC.ends.map jd),D.fr 124 3 (aC.bU.map aW.c),D.fr 73 8 ((aC.nodes.map Node.c)++([[D.int .i64 aZ,D.int .i64 mR.kind,D.str mR.pat.rel,D.sl (mR.pat.args.map tx),D.str mR.left,D.str mR.right,D.int .i64 (-1),D.sl ([])]])),D.fr 127 2 (aC.facts.map aL.c),D.int .i64 aC.cu],D.val dU]) (by first|rfl| (simp only[mA]<;>rfl)| (simp only[cP,mA]<;>rfl))
def fQ(aC:af)(i1:Nat)(G8:aY)(k2:Int->Int->af->bZ->bE->bB->ar->Option (aR×Bool)):aY->Nat->Int->Int->af->bZ->bE->bB->ar->Option (aR×Bool)
 | [],i2,ud,lB,xa,lH,xb,xd,xe=>(k2 ud lB xa lH xb xd xe)
 |qp::yT,i2,ud,lB,xa,lH,xb,xd,xe=>((qU (⟨xa,lH,xb,xd,xe,lB⟩:aR) ud qp).bind fun zQ=>(fQ aC i1 G8 k2 yT (i2+1) zQ.2 zQ.1.cu zQ.1.rules zQ.1.ends zQ.1.bU zQ.1.nodes zQ.1.facts))
def fP(aC:af)(k1:Int->af->bZ->bE->bB->ar->Option (aR×Bool)):af->Nat->Int->af->bZ->bE->bB->ar->Option (aR×Bool)
 | [],i1,l9,mK,eL,xX,xY,xZ=>(k1 l9 mK eL xX xY xZ)
 |bC::cE,i1,l9,mK,eL,xX,xY,xZ=>((nA bC).bind fun G8=>(bif decide (G8.length<=maxLen)then(fQ aC i1 G8 (fun(C9:Int) (rp:Int) (Eb:af) (wP:bZ) (Ec:bE) (Ed:bB) (Ee:ar)=>(bif room ((wP.map jd).length+([[D.int .i64 C9]]).length) 8 then(fP aC k1 cE (i1+1) rp Eb (wP++([C9])) Ec Ed Ee)else none)) G8 0 0 l9 mK eL xX xY xZ)else none))
def hG(aC:af):Option (aR×Bool):=((oq aC).bind fun y1=>(bif !(y1)then(some ((⟨[],[],[],[],[],0⟩:aR),false))else((p7 aC).bind fun y4=>(fP aC (fun(wQ:Int) (sJ:af) (kI:bZ) (J4:bE) (J5:bB) (J6:ar)=>(some ((⟨sJ,kI,J4,J5,J6,wQ⟩:aR),true))) aC 0 0 y4 ([]:bZ) ([]:bE) ([(⟨-1,(⟨0,(⟨[],[]⟩:aL),[],[]⟩:aI), -1,[(⟨[],[]⟩:aq)]⟩:Node)]) ([]:ar)))))
def oM(aC:af)(l9:Int)(W1:List aK)(W2:List aK)(W3:List aK)(W4:List aK)(W5:List aK)(dM:Int):St:=⟨[(0,D.sl (aC.map aH.c)),(2,D.ptr 0 0),(4,D.ptr 1 0),(5,D.int .i64 dM)],[Ob.box [D.nil,D.nil,D.nil,D.nil,D.nil,D.int .i64 0],Ob.box [D.acc 2,D.acc 3,D.acc 4,D.acc 5,D.acc 6,D.int .i64 l9],Ob.row .uq 31 4 W1,Ob.row .uq 3 1 W2,Ob.row .uq 124 3 W3,Ob.row .uq 73 8 W4,Ob.row .uq 127 2 W5]⟩
def z6(aC:af)(i1:Nat)(G8:aY)(ud:Int)(lB:Int)(W2:List aK)(W3:List aK)(W4:List aK)(W5:List aK)(W6:List aK)(dM:Int):St:=⟨[(0,D.sl (aC.map aH.c)),(2,D.ptr 0 0),(4,D.ptr 1 0),(5,D.int .i64 (i1:Int)),(6,D.int .i64 ud),(7,D.acc 2),(8,D.int .i64 dM)],[Ob.box [D.nil,D.nil,D.nil,D.nil,D.nil,D.int .i64 0],Ob.box [D.acc 3,D.acc 4,D.acc 5,D.acc 6,D.acc 7,D.int .i64 lB],Ob.row .uq 71 5 (G8.map aI.c),Ob.row .uq 31 4 W2,Ob.row .uq 3 1 W3,Ob.row .uq 124 3 W4,Ob.row .uq 73 8 W5,Ob.row .uq 127 2 W6]⟩
theorem yD(hΓ:Γ.nt=50){aC:af}{i1:Nat}{G8:aY}{r:aR×Bool}{k2:Int->Int->af->bZ->bE->bB->ar->Option (aR×Bool)}(Ho:∀(C9:Int) (rp:Int) (Eb:af) (wP:bZ) (Ec:bE) (Ed:bB) (Ee:ar),k2 C9 rp Eb wP Ec Ed Ee=some r->Ax Γ N f11 (.q [[some (31,4),some (3,1),some (124,3),some (73,8),some (127,2),none],[none]] (D.iE [D.agg [D.fr 31 4 (r.1.rules.map aH.c),D.fr 3 1 (r.1.ends.map jd),D.fr 124 3 (r.1.bU.map aW.c),D.fr 73 8 (r.1.nodes.map Node.c),D.fr 127 2 (r.1.facts.map aL.c),D.int .i64 r.1.cu],D.bool r.2])) [1,1,1,0,1,0,0,1,0,0,1,1,1] ⟨[(0,D.sl (aC.map aH.c)),(2,D.ptr 0 0),(4,D.ptr 1 0),(5,D.int .i64 (i1:Int)),(6,D.int .i64 C9)],[Ob.box [D.nil,D.nil,D.nil,D.nil,D.nil,D.int .i64 0],Ob.box [D.acc 2,D.acc 3,D.acc 4,D.acc 5,D.acc 6,D.int .i64 rp],Ob.row .uq 31 4 (Eb.map aH.c),Ob.row .uq 3 1 (wP.map jd),Ob.row .uq 124 3 (Ec.map aW.c),Ob.row .uq 73 8 (Ed.map Node.c),Ob.row .uq 127 2 (Ee.map aL.c)]⟩)(hm2:G8.length<=maxLen):∀(rest:aY) (i2:Nat) (ud:Int) (lB:Int) (xa:af) (lH:bZ) (xb:bE) (xd:bB) (xe:ar),G8.drop i2=rest->fQ aC i1 G8 k2 rest i2 ud lB xa lH xb xd xe=some r->Ar Γ N f11 (.q [[some (31,4),some (3,1),some (124,3),some (73,8),some (127,2),none],[none]] (D.iE [D.agg [D.fr 31 4 (r.1.rules.map aH.c),D.fr 3 1 (r.1.ends.map jd),D.fr 124 3 (r.1.bU.map aW.c),D.fr 73 8 (r.1.nodes.map Node.c),D.fr 127 2 (r.1.facts.map aL.c),D.int .i64 r.1.cu],D.bool r.2])) [1,1,1,0,1,0,0,1,0,0,1,1,0,1,0] (rest.length+1) (z6 aC i1 G8 ud lB (xa.map aH.c) (lH.map jd) (xb.map aW.c) (xd.map Node.c) (xe.map aL.c) (i2:Int)):=by
 intro rest
 induction rest with
 |nil=>
  intro i2 ud lB xa lH xb xd xe hd2 h;rw[fQ]at h;refine aO fun N2 Ac xP=>?_
  exact((aT.ge aI.c hd2).a [.hl 5 [0,2,4,5,6] [0,1,3,4,5,6,7]]).ex hΓ Ac (Ho ud lB xa lH xb xd xe h)
 |cons qp yT ih2=>
  intro i2 ud lB xa lH xb xd xe hd2 h;rw[fQ]at h;refine aO fun N2 Ac xP=>?_
  obtain⟨zQ,h212,h⟩:=aF h;exact((((((aT.lt aI.c hd2).i (mQ aI.c 5 (dc hd2))).o 5 5 .uq (fX aI.c (dc hd2))).a [.gp [[some (31,4),some (3,1),some (124,3),some (73,8),some (127,2),none],[none],[none,none,none,none,none]] (cP zQ.1) (D.int .i64 zQ.2)]).w (show qm prog 30 (cP (⟨xa,lH,xb,xd,xe,lB⟩:aR)) (cP zQ.1) [D.int .i64 ud,D.agg (aI.c qp)] (D.int .i64 zQ.2)from by simpa only[bR,bI,bP,eM,dl]using DE h212)).a [.cn [0,2,4,5,6,7,8] [0,1,2,8,9,10,11,12]]).ct hΓ xP (iS hd2 hm2) (ih2 (i2+1) zQ.2 zQ.1.cu zQ.1.rules zQ.1.ends zQ.1.bU zQ.1.nodes zQ.1.facts (dn hd2) h)
theorem yC(hΓ:Γ.nt=50){aC:af}{r:aR×Bool}{k1:Int->af->bZ->bE->bB->ar->Option (aR×Bool)}(dQ:∀(wQ:Int) (sJ:af) (kI:bZ) (J4:bE) (J5:bB) (J6:ar),k1 wQ sJ kI J4 J5 J6=some r->Ax Γ N f11 (.q [[some (31,4),some (3,1),some (124,3),some (73,8),some (127,2),none],[none]] (D.iE [D.agg [D.fr 31 4 (r.1.rules.map aH.c),D.fr 3 1 (r.1.ends.map jd),D.fr 124 3 (r.1.bU.map aW.c),D.fr 73 8 (r.1.nodes.map Node.c),D.fr 127 2 (r.1.facts.map aL.c),D.int .i64 r.1.cu],D.bool r.2])) [1,1,1,1] ⟨[(2,D.ptr 0 0),(4,D.ptr 1 0)],[Ob.box [D.nil,D.nil,D.nil,D.nil,D.nil,D.int .i64 0],Ob.box [D.acc 2,D.acc 3,D.acc 4,D.acc 5,D.acc 6,D.int .i64 wQ],Ob.row .uq 31 4 (sJ.map aH.c),Ob.row .uq 3 1 (kI.map jd),Ob.row .uq 124 3 (J4.map aW.c),Ob.row .uq 73 8 (J5.map Node.c),Ob.row .uq 127 2 (J6.map aL.c)]⟩)(hm1:aC.length<=maxLen):∀(rest:af) (i1:Nat) (l9:Int) (mK:af) (eL:bZ) (xX:bE) (xY:bB) (xZ:ar),aC.drop i1=rest->fP aC k1 rest i1 l9 mK eL xX xY xZ=some r->Ar Γ N f11 (.q [[some (31,4),some (3,1),some (124,3),some (73,8),some (127,2),none],[none]] (D.iE [D.agg [D.fr 31 4 (r.1.rules.map aH.c),D.fr 3 1 (r.1.ends.map jd),D.fr 124 3 (r.1.bU.map aW.c),D.fr 73 8 (r.1.nodes.map Node.c),D.fr 127 2 (r.1.facts.map aL.c),D.int .i64 r.1.cu],D.bool r.2])) [1,1,1,0,1,0] (rest.length+1) (oM aC l9 (mK.map aH.c) (eL.map jd) (xX.map aW.c) (xY.map Node.c) (xZ.map aL.c) (i1:Int)):=by
 intro rest
 induction rest with
 |nil=>
  intro i1 l9 mK eL xX xY xZ b7 h;rw[fP]at h;refine aO fun N1 cN cI=>?_
  exact((aT.ge aH.c b7).a [.hl 0 [2,4] [0,1,2,3,4,5,6]]).ex hΓ cN (dQ l9 mK eL xX xY xZ h)
 |cons bC cE ih1=>
  intro i1 l9 mK eL xX xY xZ b7 h;rw[fP]at h;refine aO fun N1 cN cI=>?_
  obtain⟨G8,h183,h⟩:=aF h;obtain⟨h214,h⟩:=bu h;refine((((aT.lt aH.c b7).l (bD aH.c 4 (dc b7) rfl)).g (z8 h183)).a [.cn [0,2,4,5,6,7,8] [0,1,7,2,3,4,5,6]]).lp hΓ (yD hΓ (fun C9 rp Eb wP Ec Ed Ee h=>?_) (bq h214) G8 0 0 l9 mK eL xX xY xZ rfl h);obtain⟨h213,h⟩:=bu h;exact((aT.w (cT h213)).a [.cn [0,2,4,5] [0,1,2,8,4,5,6]]).cs hΓ cI (oM aC rp (Eb.map aH.c) ((wP.map jd)++([[D.int .i64 C9]])) (Ec.map aW.c) (Ed.map Node.c) (Ee.map aL.c) (IntKind.i64.wrap ((i1:Int)+1))) (by first| (simp only[iS b7 hm1,mA]<;>rfl)| (simp only[iS b7 hm1,mA,aL.c,aS.c,aI.c,Action.c,aH.c,aq.c,fW.c,aW.c,Node.c,aR.c,fc.c]<;>rfl)) (ih1 (i1+1) rp Eb (wP++([C9])) Ec Ed Ee (dn b7) h)
theorem xK{aC:af}{r:aR×Bool}(h:hG aC=some r):Good prog 11 [D.sl (aC.map aH.c)] (D.iE [D.agg [D.fr 31 4 (r.1.rules.map aH.c),D.fr 3 1 (r.1.ends.map jd),D.fr 124 3 (r.1.bU.map aW.c),D.fr 73 8 (r.1.nodes.map Node.c),D.fr 127 2 (r.1.facts.map aL.c),D.int .i64 r.1.cu],D.bool r.2]):=by
 refine gd func11 [[some (31,4),some (3,1),some (124,3),some (73,8),some (127,2),none],[none]] 50 fun hr Γ hΓ=>?_
 rw[hG]at h;obtain⟨y1,h2,h⟩:=aF h;obtain⟨h3,h⟩|⟨h3,h⟩:=aN h
 ·cases h;exact((aT.g (uC h2)).b h3).ret hΓ
 ·obtain⟨y4,h5,h⟩:=aF h;refine((((aT.g (uC h2)).b h3).g (Bi h5)).a [.pb 4 1 3 1,.pb 4 2 124 3,.pb 4 4 127 2,.cn [0,2,4,5] [0,4,1,5,6,3,7]]).Wd hΓ (oM aC 0 (y4.map aH.c) ([]:List aK) ([]:List aK) ([[D.int .i64 (-1),D.int .i64 0,D.str ([]),D.sl ([]),D.str ([]),D.str ([]),D.int .i64 (-1),D.sl ([[D.sl ([]),D.sl ([])]])]]) ([]:List aK) 0) (by first| (simp only[mA]<;>rfl)| (simp only[mA,aL.c,aS.c,aI.c,Action.c,aH.c,aq.c,fW.c,aW.c,Node.c,aR.c,fc.c]<;>rfl)) (yC hΓ (fun wQ sJ kI J4 J5 J6 h=>?_) (by have:=(gm.sl (hr _ (aB (i:=0) rfl))).1;simpa using this) aC 0 0 y4 ([]:bZ) ([]:bE) ([(⟨-1,(⟨0,(⟨[],[]⟩:aL),[],[]⟩:aI), -1,[(⟨[],[]⟩:aq)]⟩:Node)]) ([]:ar) rfl h);cases h;exact aT.ret hΓ
def gX(aC:aL):Option aL:=((ju aC.args).bind fun y1=>(some (⟨aC.rel,y1⟩:aL)))
theorem qM{aC:aL}{r:aL}(h:gX aC=some r):Good prog 165 [D.agg (aL.c aC)] (D.agg [D.str r.rel,D.fr 9 1 (r.args.map tx)]):=by
 refine gd func165 [[none,some (9,1)]] 9 fun hr Γ hΓ=>?_
 rw[gX]at h;obtain⟨y1,h2,h⟩:=aF h;cases h;exact((aT.a [.n 5]).g (pZ h2)).ret hΓ
def jU(aC:ar)(k1:ar->Option ar):ar->Nat->ar->Option ar
 | [],i1,bK=>(k1 bK)
 |bC::cE,i1,bK=>((gX bC).bind fun jj=>(bif room ((bK.map aL.c).length+([[D.str jj.rel,D.sl (jj.args.map tx)]]).length) 40 then(jU aC k1 cE (i1+1) (bK++([jj])))else none))
def jt(aC:ar):Option ar:=(jU aC (fun(bf:ar)=>(some bf)) aC 0 ([]:ar))
def uo(aC:ar)(W0:List aK)(dM:Int):St:=⟨[(3,D.acc 0),(6,D.sl (aC.map aL.c)),(7,D.int .i64 ((aC.map aL.c).length:Int)),(8,D.int .i64 dM)],[Ob.row .uq 127 2 W0]⟩
theorem B0(hΓ:Γ.nt=19){aC:ar}{r:ar}{k1:ar->Option ar}(dQ:∀(bf:ar),k1 bf=some r->Ax Γ N f131 (.q [[some (127,2)]] (D.fr 127 2 (r.map aL.c))) [1,1,1] ⟨[(3,D.acc 0)],[Ob.row .uq 127 2 (bf.map aL.c)]⟩)(hm1:aC.length<=maxLen):∀(rest:ar) (i1:Nat) (bK:ar),aC.drop i1=rest->jU aC k1 rest i1 bK=some r->Ar Γ N f131 (.q [[some (127,2)]] (D.fr 127 2 (r.map aL.c))) [1,1,0,1,0] (rest.length+1) (uo aC (bK.map aL.c) (i1:Int)):=by
 intro rest
 induction rest with
 |nil=>
  intro i1 bK b7 h;rw[jU]at h;refine aO fun N1 cN cI=>?_
  exact((aT.ge aL.c b7).a [.hl 0 [3] [0]]).ex hΓ cN (dQ bK h)
 |cons bC cE ih1=>
  intro i1 bK b7 h;rw[jU]at h;refine aO fun N1 cN cI=>?_
  obtain⟨jj,h28,h⟩:=aF h;obtain⟨h29,h⟩:=bu h;exact(((((aT.lt aL.c b7).l (bD aL.c 2 (dc b7) rfl)).g (qM h28)).w (cT h29)).a [.cn [3,6,7,8] [4]]).cs hΓ cI (uo aC ((bK.map aL.c)++([[D.str jj.rel,D.sl (jj.args.map tx)]])) (IntKind.i64.wrap ((i1:Int)+1))) (by first| (simp only[iS b7 hm1,mA]<;>rfl)| (simp only[iS b7 hm1,mA,aL.c,aS.c,aI.c,Action.c,aH.c,aq.c,fW.c,aW.c,Node.c,aR.c,fc.c]<;>rfl)) (ih1 (i1+1) (bK++([jj])) (dn b7) h)
theorem tD{aC:ar}{r:ar}(h:jt aC=some r):Good prog 131 [D.sl (aC.map aL.c)] (D.fr 127 2 (r.map aL.c)):=by
 refine gd func131 [[some (127,2)]] 19 fun hr Γ hΓ=>?_
 rw[jt]at h;refine(aT.a [.KE 3,.cn [3,6,7,8] [0]]).lp hΓ (B0 hΓ (fun bf h=>?_) (by have:=(gm.sl (hr _ (aB (i:=0) rfl))).1;simpa using this) aC 0 ([]:ar) rfl h);have h:=aJ h;subst h;exact aT.ret hΓ
def lU(aC:aL)(k1:Option Bool):aE->Nat->Option Bool
 | [],i1=>(k1)
 |bC::cE,i1=>((eO bC).bind fun UJ=>(bif !(UJ)then(some false)else(lU aC k1 cE (i1+1))))
def rG(aC:aL):Option Bool:=((nF aC.rel).bind fun y1=>(bif !(y1)then(some false)else(bif decide ((((aC.args.map tx).length:Int):Int)>3)then(some false)else(lU aC (some true) aC.args 0))))
def GP(aC:aL)(dM:Int):St:=⟨[(16,D.sl (aC.args.map tx)),(17,D.int .i64 ((aC.args.map tx).length:Int)),(18,D.int .i64 dM)],[]⟩
theorem F5(hΓ:Γ.nt=26){aC:aL}{r:Bool}{k1:Option Bool}(dQ:k1=some r->Ax Γ N f181 (.q [[none]] (D.bool r)) [1,1,1] ⟨[],[]⟩)(hm1:aC.args.length<=maxLen):∀(rest:aE) (i1:Nat),aC.args.drop i1=rest->lU aC k1 rest i1=some r->Ar Γ N f181 (.q [[none]] (D.bool r)) [1,1,0,1,0] (rest.length+1) (GP aC (i1:Int)):=by
 intro rest
 induction rest with
 |nil=>
  intro i1 b7 h;rw[lU]at h;refine aO fun N1 cN cI=>?_
  exact((aT.ge tx b7).a [.hl 0 [] []]).ex hΓ cN (dQ h)
 |cons bC cE ih1=>
  intro i1 b7 h;rw[lU]at h;refine aO fun N1 cN cI=>?_
  obtain⟨UJ,h26,h⟩:=aF h;have gJ:=(((aT.lt tx b7).l (bD tx 1 (dc b7) rfl)).g (dZ h26))
  obtain⟨h27,h⟩|⟨h27,h⟩:=aN h
  ·have h:=aJ h;subst h;exact(gJ.b h27).ret hΓ
  ·exact((gJ.b h27).a [.cn [16,17,18] []]).ct hΓ cI (iS b7 hm1) (ih1 (i1+1) (dn b7) h)
theorem Dj{aC:aL}{r:Bool}(h:rG aC=some r):Good prog 181 [D.agg (aL.c aC)] (D.bool r):=by
 refine gd func181 [[none]] 26 fun hr Γ hΓ=>?_
 rw[rG]at h;obtain⟨y1,h2,h⟩:=aF h;obtain⟨h3,h⟩|⟨h3,h⟩:=aN h
 ·have h:=aJ h;subst h;exact(((aT.g (jm h2)).r 5 h3).T 1).ret hΓ
 ·have oR:=((aT.g (jm h2)).r 5 h3)
  obtain⟨h4,h⟩|⟨h4,h⟩:=aN h
  ·have h:=aJ h;subst h;exact(oR.b h4).ret hΓ
  ·refine((oR.b h4).a [.cn [16,17,18] []]).lp hΓ (F5 hΓ (fun h=>?_) (by have:=(gm.sl (gm.agg (hr _ (aB (i:=0) rfl)) (.sl (aC.args.map tx)) (by simp))).1;simpa using this) aC.args 0 rfl h);have h:=aJ h;subst h;exact aT.ret hΓ
def fe(aC:aQ)(k1:Option Bool):aQ->Nat->Option Bool
 | [],i1=>(k1)
 |bC::cE,i1=>((jA bC.var).bind fun y50=>(bif !(y50)then(some false)else((eO bC.value).bind fun WG=>(bif !(WG)then(some false)else(bif decide (((i1:Int):Int)>0)then((sK aC (IntKind.i64.wrap ((i1:Int)-1))).bind fun x57=>(bif !(Op.bytesLess x57.var bC.var)then(some false)else(fe aC k1 cE (i1+1))))else(fe aC k1 cE (i1+1)))))))
def iX(aC:aQ):Option Bool:=(bif decide ((((aC.map aS.c).length:Int):Int)>6)then(some false)else(fe aC (some true) aC 0))
def CT(aC:aQ)(dM:Int):St:=⟨[(0,D.sl (aC.map aS.c)),(8,D.sl (aC.map aS.c)),(9,D.int .i64 ((aC.map aS.c).length:Int)),(10,D.int .i64 dM)],[]⟩
theorem Au(hΓ:Γ.nt=41){aC:aQ}{r:Bool}{k1:Option Bool}(dQ:k1=some r->Ax Γ N f182 (.q [[none]] (D.bool r)) [1,1,1] ⟨[],[]⟩)(hm1:aC.length<=maxLen):∀(rest:aQ) (i1:Nat),aC.drop i1=rest->fe aC k1 rest i1=some r->Ar Γ N f182 (.q [[none]] (D.bool r)) [1,1,0,1,0] (rest.length+1) (CT aC (i1:Int)):=by
 intro rest
 induction rest with
 |nil=>
  intro i1 b7 h;rw[fe]at h;refine aO fun N1 cN cI=>?_
  exact((aT.ge aS.c b7).a [.hl 0 [] []]).ex hΓ cN (dQ h)
 |cons bC cE ih1=>
  intro i1 b7 h;rw[fe]at h;refine aO fun N1 cN cI=>?_
  obtain⟨y50,h51,h⟩:=aF h;have vB:=((((aT.lt aS.c b7).l (bD aS.c 2 (dc b7) rfl)).a [.n 22]).g (kY h51))
  obtain⟨h52,h⟩|⟨h52,h⟩:=aN h
  ·have h:=aJ h;subst h;exact((((vB.r 5 h52).T 3).a [bF,bF,bF,bF,bF,bF,bF,bF,bF]).T 3).ret hΓ
  ·obtain⟨WG,h54,h⟩:=aF h;have xh:=(((vB.r 3 h52).g (dZ h54)).r 2 h52)
   obtain⟨h55,h⟩|⟨h55,h⟩:=aN h
   ·have h:=aJ h;subst h;exact((((xh.r 3 h55).a [bF,bF,bF,bF,bF,bF,bF,bF,bF]).r 2 h55).T 1).ret hΓ
   ·have EY:=(xh.r 3 h55)
    obtain⟨h56,h⟩|⟨h56,h⟩:=aN h
    ·obtain⟨x57,h58,h⟩:=aF h;have Iz:=((((((EY.r 4 h56).l (oL aS.c 2 h58 rfl)).r 5 h56).b h55).b h56).b h55)
     obtain⟨h59,h⟩|⟨h59,h⟩:=aN h
     ·have h:=aJ h;subst h;exact(Iz.b h59).ret hΓ
     ·exact((Iz.b h59).a [.cn [0,8,9,10] []]).ct hΓ cI (iS b7 hm1) (ih1 (i1+1) (dn b7) h)
    ·exact((((((EY.r 9 h56).b h55).b h56).b h55).F 1).a [.cn [0,8,9,10] []]).ct hΓ cI (iS b7 hm1) (ih1 (i1+1) (dn b7) h)
theorem jh{aC:aQ}{r:Bool}(h:iX aC=some r):Good prog 182 [D.sl (aC.map aS.c)] (D.bool r):=by
 refine gd func182 [[none]] 41 fun hr Γ hΓ=>?_
 rw[iX]at h;obtain⟨h1,h⟩|⟨h1,h⟩:=aN h
 ·have h:=aJ h;subst h;exact(aT.b h1).ret hΓ
 ·refine((aT.b h1).a [.cn [0,8,9,10] []]).lp hΓ (Au hΓ (fun h=>?_) (by have:=(gm.sl (hr _ (aB (i:=0) rfl))).1;simpa using this) aC 0 rfl h);have h:=aJ h;subst h;exact aT.ret hΓ
def lV(aC:aQ):Option aQ:=(bif room (([]:List aK).length+(aC.map aS.c).length) 32 then(some (([]:aQ)++aC))else none)
theorem tE{aC:aQ}{r:aQ}(h:lV aC=some r):Good prog 183 [D.sl (aC.map aS.c)] (D.fr 175 2 (r.map aS.c)):=by
 refine gd func183 [[some (175,2)]] 5 fun hr Γ hΓ=>?_
 rw[lV]at h;obtain⟨h1,h⟩:=bu h;cases h;exact(((aT.w (cT h1)).w (show(∀r∈(aC.map aS.c),r.length=2)/\(true=true->D.qV (aC.map aS.c)=true)from⟨by first|simp| (intro r hr;obtain⟨x,_,rfl⟩:=cO.1 (cM (kO hr));rfl),by simp[D.qV,D.flat]⟩)).a [.KE 2,.fl true]).rts hΓ (D.fr 175 2 (([]:List aK)++(aC.map aS.c))) (by first|rfl| (simp only[mA]<;>rfl)| (simp only[cP,mA]<;>rfl))
def jC(aC:aQ)(aZ:Bytes)(k1:Option (Bytes×Bool)):aQ->Nat->Option (Bytes×Bool)
 | [],i1=>(k1)
 |bC::cE,i1=>(bif (bC.var:Bytes)==aZ then(some (bC.value,true))else(jC aC aZ k1 cE (i1+1)))
def lz(aC:aQ)(aZ:Bytes):Option (Bytes×Bool):=((eO aZ).bind fun y1=>(bif y1 then(some (aZ,true))else((jA aZ).bind fun y4=>(bif !(y4)then(some ([],false))else(jC aC aZ (some ([],false)) aC 0)))))
def FB(aC:aQ)(aZ:Bytes)(dM:Int):St:=⟨[(1,D.str aZ),(14,D.sl (aC.map aS.c)),(15,D.int .i64 ((aC.map aS.c).length:Int)),(16,D.int .i64 dM)],[]⟩
theorem Dl(hΓ:Γ.nt=27){aC:aQ}{aZ:Bytes}{r:Bytes×Bool}{k1:Option (Bytes×Bool)}(dQ:k1=some r->Ax Γ N f192 (.q [[none],[none]] (D.iE [D.str r.1,D.bool r.2])) [1,1,1,1] ⟨[],[]⟩)(hm1:aC.length<=maxLen):∀(rest:aQ) (i1:Nat),aC.drop i1=rest->jC aC aZ k1 rest i1=some r->Ar Γ N f192 (.q [[none],[none]] (D.iE [D.str r.1,D.bool r.2])) [1,1,1,0,1,0] (rest.length+1) (FB aC aZ (i1:Int)):=by
 intro rest
 induction rest with
 |nil=>
  intro i1 b7 h;rw[jC]at h;refine aO fun N1 cN cI=>?_
  exact((aT.ge aS.c b7).a [.hl 0 [] []]).ex hΓ cN (dQ h)
 |cons bC cE ih1=>
  intro i1 b7 h;rw[jC]at h;refine aO fun N1 cN cI=>?_
  have gJ:=((aT.lt aS.c b7).l (bD aS.c 2 (dc b7) rfl))
  obtain⟨h19,h⟩|⟨h19,h⟩:=aN h
  ·cases h;exact(gJ.b h19).ret hΓ
  ·exact((gJ.b h19).a [.cn [1,14,15,16] []]).ct hΓ cI (iS b7 hm1) (ih1 (i1+1) (dn b7) h)
theorem qw{aC:aQ}{aZ:Bytes}{r:Bytes×Bool}(h:lz aC aZ=some r):Good prog 192 [D.sl (aC.map aS.c),D.str aZ] (D.iE [D.str r.1,D.bool r.2]):=by
 refine gd func192 [[none],[none]] 27 fun hr Γ hΓ=>?_
 rw[lz]at h;obtain⟨y1,h2,h⟩:=aF h;obtain⟨h3,h⟩|⟨h3,h⟩:=aN h
 ·cases h;exact((aT.g (dZ h2)).b h3).ret hΓ
 ·obtain⟨y4,h5,h⟩:=aF h;have oR:=(((aT.g (dZ h2)).b h3).g (kY h5))
  obtain⟨h6,h⟩|⟨h6,h⟩:=aN h
  ·cases h;exact(oR.b h6).ret hΓ
  ·refine((oR.b h6).a [.cn [1,14,15,16] []]).lp hΓ (Dl hΓ (fun h=>?_) (by have:=(gm.sl (hr _ (aB (i:=0) rfl))).1;simpa using this) aC 0 rfl h);cases h;exact aT.ret hΓ
def iV(aC:aQ)(aZ:Bytes)(eZ:Bytes)(k1:Bool->aQ->Option (aQ×Bool)):aQ->Nat->Bool->aQ->Option (aQ×Bool)
 | [],i1,uL,bK=>(k1 uL bK)
 |bC::cE,i1,uL,bK=>(bif !(uL)then(bif !(Op.bytesLess bC.var aZ||(bC.var:Bytes)==aZ)then(bif room ((bK.map aS.c).length+([[D.str aZ,D.str eZ]]).length) 32 then(bif room (((bK.map aS.c)++([[D.str aZ,D.str eZ]])).length+([[D.str bC.var,D.str bC.value]]).length) 32 then(iV aC aZ eZ k1 cE (i1+1) true ((bK++([(⟨aZ,eZ⟩:aS)]))++([bC])))else none)else none)else(bif room ((bK.map aS.c).length+([[D.str bC.var,D.str bC.value]]).length) 32 then(iV aC aZ eZ k1 cE (i1+1) uL (bK++([bC])))else none))else(bif room ((bK.map aS.c).length+([[D.str bC.var,D.str bC.value]]).length) 32 then(iV aC aZ eZ k1 cE (i1+1) uL (bK++([bC])))else none))
def pH(aC:aQ)(aZ:Bytes)(eZ:Bytes):Option (aQ×Bool):=((iX aC).bind fun y1=>(bif !(y1)then(some ([],false))else((jA aZ).bind fun y4=>(bif !(y4)then(some ([],false))else((eO eZ).bind fun y7=>(bif !(y7)then(some ([],false))else((lz aC aZ).bind fun C8=>(bif C8.2 then(bif !((C8.1:Bytes)==eZ)then(some ([],false))else((lV aC).bind fun y14=>(some (y14,true))))else(bif decide ((((aC.map aS.c).length:Int):Int)>=6)then(some ([],false))else(iV aC aZ eZ (fun(NK:Bool) (bf:aQ)=>(bif !(NK)then(bif room ((bf.map aS.c).length+([[D.str aZ,D.str eZ]]).length) 32 then(some (bf++([(⟨aZ,eZ⟩:aS)]),true))else none)else(some (bf,true)))) aC 0 false ([]:aQ)))))))))))
def qd(aC:aQ)(aZ:Bytes)(eZ:Bytes)(uL:Bool)(W1:List aK)(dM:Int):St:=⟨[(1,D.str aZ),(2,D.str eZ),(10,D.acc 0),(11,D.bool uL),(42,D.sl (aC.map aS.c)),(43,D.int .i64 ((aC.map aS.c).length:Int)),(44,D.int .i64 dM)],[Ob.row .uq 175 2 W1]⟩
theorem F3(hΓ:Γ.nt=76){aC:aQ}{aZ:Bytes}{eZ:Bytes}{r:aQ×Bool}{k1:Bool->aQ->Option (aQ×Bool)}(dQ:∀(NK:Bool) (bf:aQ),k1 NK bf=some r->Ax Γ N f184 (.q [[some (175,2)],[none]] (D.iE [D.fr 175 2 (r.1.map aS.c),D.bool r.2])) [1,1,1,1,1,1,1] ⟨[(1,D.str aZ),(2,D.str eZ),(10,D.acc 0),(11,D.bool NK)],[Ob.row .uq 175 2 (bf.map aS.c)]⟩)(hm1:aC.length<=maxLen):∀(rest:aQ) (i1:Nat) (uL:Bool) (bK:aQ),aC.drop i1=rest->iV aC aZ eZ k1 rest i1 uL bK=some r->Ar Γ N f184 (.q [[some (175,2)],[none]] (D.iE [D.fr 175 2 (r.1.map aS.c),D.bool r.2])) [1,1,1,1,1,1,0,1,0] (rest.length+1) (qd aC aZ eZ uL (bK.map aS.c) (i1:Int)):=by
 intro rest
 induction rest with
 |nil=>
  intro i1 uL bK b7 h;rw[iV]at h;refine aO fun N1 cN cI=>?_
  exact((aT.ge aS.c b7).a [.hl 0 [1,2,10,11] [0]]).ex hΓ cN (dQ uL bK h)
 |cons bC cE ih1=>
  intro i1 uL bK b7 h;rw[iV]at h;refine aO fun N1 cN cI=>?_
  have oR:=((aT.lt aS.c b7).l (bD aS.c 2 (dc b7) rfl))
  obtain⟨h58,h⟩|⟨h58,h⟩:=aN h
  ·have nS:=(oR.r 5 h58)
   obtain⟨h59,h⟩|⟨h59,h⟩:=aN h
   ·obtain⟨h60,h⟩:=bu h;obtain⟨h61,h⟩:=bu h;exact((((nS.b h59).w (cT h60)).w (cT h61)).a [.cn [1,2,10,11,42,43,44] [5]]).cs hΓ cI (qd aC aZ eZ true (((bK.map aS.c)++([[D.str aZ,D.str eZ]]))++([[D.str bC.var,D.str bC.value]])) (IntKind.i64.wrap ((i1:Int)+1))) (by first| (simp only[iS b7 hm1,mA]<;>rfl)| (simp only[iS b7 hm1,mA,aL.c,aS.c,aI.c,Action.c,aH.c,aq.c,fW.c,aW.c,Node.c,aR.c,fc.c]<;>rfl)) (ih1 (i1+1) true ((bK++([(⟨aZ,eZ⟩:aS)]))++([bC])) (dn b7) h)
   ·obtain⟨h62,h⟩:=bu h;exact(((nS.b h59).w (cT h62)).a [.cn [1,2,10,11,42,43,44] [3]]).cs hΓ cI (qd aC aZ eZ uL ((bK.map aS.c)++([[D.str bC.var,D.str bC.value]])) (IntKind.i64.wrap ((i1:Int)+1))) (by first| (simp only[iS b7 hm1,mA]<;>rfl)| (simp only[iS b7 hm1,mA,aL.c,aS.c,aI.c,Action.c,aH.c,aq.c,fW.c,aW.c,Node.c,aR.c,fc.c]<;>rfl)) (ih1 (i1+1) uL (bK++([bC])) (dn b7) h)
  ·obtain⟨h63,h⟩:=bu h;exact((((oR.r 5 h58).F 1).w (cT h63)).a [.cn [1,2,10,11,42,43,44] [3]]).cs hΓ cI (qd aC aZ eZ uL ((bK.map aS.c)++([[D.str bC.var,D.str bC.value]])) (IntKind.i64.wrap ((i1:Int)+1))) (by first| (simp only[iS b7 hm1,mA]<;>rfl)| (simp only[iS b7 hm1,mA,aL.c,aS.c,aI.c,Action.c,aH.c,aq.c,fW.c,aW.c,Node.c,aR.c,fc.c]<;>rfl)) (ih1 (i1+1) uL (bK++([bC])) (dn b7) h)
theorem Dh{aC:aQ}{aZ:Bytes}{eZ:Bytes}{r:aQ×Bool}(h:pH aC aZ eZ=some r):Good prog 184 [D.sl (aC.map aS.c),D.str aZ,D.str eZ] (D.iE [D.fr 175 2 (r.1.map aS.c),D.bool r.2]):=by
 refine gd func184 [[some (175,2)],[none]] 76 fun hr Γ hΓ=>?_
 rw[pH]at h;obtain⟨y1,h2,h⟩:=aF h;obtain⟨h3,h⟩|⟨h3,h⟩:=aN h
 ·cases h;exact(((aT.g (jh h2)).r 4 h3).T 5).ret hΓ
 ·obtain⟨y4,h5,h⟩:=aF h;have vB:=((((aT.g (jh h2)).r 2 h3).g (kY h5)).r 2 h3)
  obtain⟨h6,h⟩|⟨h6,h⟩:=aN h
  ·cases h;exact((vB.r 4 h6).T 1).ret hΓ
  ·obtain⟨y7,h8,h⟩:=aF h;have xh:=(((vB.r 2 h6).g (dZ h8)).r 2 h6)
   obtain⟨h9,h⟩|⟨h9,h⟩:=aN h
   ·cases h;exact(xh.b h9).ret hΓ
   ·obtain⟨C8,h11,h⟩:=aF h;have EY:=((xh.b h9).g (qw h11))
    obtain⟨h12,h⟩|⟨h12,h⟩:=aN h
    ·obtain⟨h13,h⟩|⟨h13,h⟩:=aN h
     ·cases h;exact((EY.b h12).b h13).ret hΓ
     ·obtain⟨y14,h15,h⟩:=aF h;cases h;exact(((EY.b h12).b h13).g (tE h15)).ret hΓ
    ·obtain⟨h16,h⟩|⟨h16,h⟩:=aN h
     ·cases h;exact((EY.b h12).b h16).ret hΓ
     ·refine(((EY.b h12).b h16).a [.KE 10,.cn [1,2,10,11,42,43,44] [0]]).lp hΓ (F3 hΓ (fun NK bf h=>?_) (by have:=(gm.sl (hr _ (aB (i:=0) rfl))).1;simpa using this) aC 0 false ([]:aQ) rfl h);obtain⟨h64,h⟩|⟨h64,h⟩:=aN h
      ·obtain⟨h65,h⟩:=bu h;cases h;exact((aT.b h64).w (cT h65)).rts hΓ (D.iE [D.fr 175 2 ((bf.map aS.c)++([[D.str aZ,D.str eZ]])),D.bool true]) (by first|rfl| (simp only[mA]<;>rfl)| (simp only[cP,mA]<;>rfl))
      ·cases h;exact(aT.b h64).ret hΓ
def gr(aC:aL)(aZ:aL)(k1:aQ->Option (aQ×Bool)):aE->Nat->aQ->Option (aQ×Bool)
 | [],i1,cQ=>(k1 cQ)
 |bC::cE,i1,cQ=>((eO bC).bind fun y80=>(bif y80 then((sK aZ.args (i1:Int)).bind fun x83=>(bif !((bC:Bytes)==x83)then(some ([],false))else(gr aC aZ k1 cE (i1+1) cQ)))else((sK aZ.args (i1:Int)).bind fun x86=>((pH cQ bC x86).bind fun y88=>(bif !(y88.2)then(some ([],false))else(gr aC aZ k1 cE (i1+1) y88.1))))))
def iY(aC:aL)(aZ:aL)(eZ:aQ):Option (aQ×Bool):=((gb aC).bind fun y1=>(bif !(y1)then(some ([],false))else((rG aZ).bind fun y4=>(bif !(y4)then(some ([],false))else((iX eZ).bind fun y7=>(bif !(y7)then(some ([],false))else(bif !((aC.rel:Bytes)==aZ.rel)then(some ([],false))else(bif (((aC.args.map tx).length:Int):Int) != ((aZ.args.map tx).length:Int)then(some ([],false))else((lV eZ).bind fun Uc=>(gr aC aZ (fun(bf:aQ)=>(some (bf,true))) aC.args 0 Uc))))))))))
def CV(aC:aL)(aZ:aL)(W0:List aK)(dM:Int):St:=⟨[(4,D.ptr 0 0),(8,D.acc 1),(45,D.sl (aC.args.map tx)),(46,D.int .i64 ((aC.args.map tx).length:Int)),(47,D.int .i64 dM)],[Ob.box (aL.c aZ),Ob.row .uq 175 2 W0]⟩
theorem Aw(hΓ:Γ.nt=77){aC:aL}{aZ:aL}{r:aQ×Bool}{k1:aQ->Option (aQ×Bool)}(dQ:∀(bf:aQ),k1 bf=some r->Ax Γ N f166 (.q [[some (175,2)],[none]] (D.iE [D.fr 175 2 (r.1.map aS.c),D.bool r.2])) [1,1,1,1] ⟨[(8,D.acc 0)],[Ob.row .uq 175 2 (bf.map aS.c)]⟩)(hm1:aC.args.length<=maxLen):∀(rest:aE) (i1:Nat) (cQ:aQ),aC.args.drop i1=rest->gr aC aZ k1 rest i1 cQ=some r->Ar Γ N f166 (.q [[some (175,2)],[none]] (D.iE [D.fr 175 2 (r.1.map aS.c),D.bool r.2])) [1,1,1,0,1,0] (rest.length+1) (CV aC aZ (cQ.map aS.c) (i1:Int)):=by
 intro rest
 induction rest with
 |nil=>
  intro i1 cQ b7 h;rw[gr]at h;refine aO fun N1 cN cI=>?_
  exact((aT.ge tx b7).a [.hl 0 [8] [1]]).ex hΓ cN (dQ cQ h)
 |cons bC cE ih1=>
  intro i1 cQ b7 h;rw[gr]at h;refine aO fun N1 cN cI=>?_
  obtain⟨y80,h81,h⟩:=aF h;have nS:=(((aT.lt tx b7).l (bD tx 1 (dc b7) rfl)).g (dZ h81))
  obtain⟨h82,h⟩|⟨h82,h⟩:=aN h
  ·obtain⟨x83,h84,h⟩:=aF h;have vB:=((nS.b h82).l (oL tx 1 h84 rfl))
   obtain⟨h85,h⟩|⟨h85,h⟩:=aN h
   ·cases h;exact(vB.b h85).ret hΓ
   ·exact((vB.b h85).a [.cn [4,8,45,46,47] [0,1]]).ct hΓ cI (iS b7 hm1) (ih1 (i1+1) cQ (dn b7) h)
  ·obtain⟨x86,h87,h⟩:=aF h;obtain⟨y88,h89,h⟩:=aF h;have xh:=(((nS.b h82).l (oL tx 1 h87 rfl)).g (Dh h89))
   obtain⟨h90,h⟩|⟨h90,h⟩:=aN h
   ·cases h;exact(xh.b h90).ret hΓ
   ·exact((xh.b h90).a [.cn [4,8,45,46,47] [0,2]]).ct hΓ cI (iS b7 hm1) (ih1 (i1+1) y88.1 (dn b7) h)
theorem tC{aC:aL}{aZ:aL}{eZ:aQ}{r:aQ×Bool}(h:iY aC aZ eZ=some r):Good prog 166 [D.agg (aL.c aC),D.agg (aL.c aZ),D.sl (eZ.map aS.c)] (D.iE [D.fr 175 2 (r.1.map aS.c),D.bool r.2]):=by
 refine gd func166 [[some (175,2)],[none]] 77 fun hr Γ hΓ=>?_
 rw[iY]at h;obtain⟨y1,h2,h⟩:=aF h;obtain⟨h3,h⟩|⟨h3,h⟩:=aN h
 ·cases h;exact(((aT.g (iC h2)).r 4 h3).T 19).ret hΓ
 ·obtain⟨y4,h5,h⟩:=aF h;have EY:=((((aT.g (iC h2)).r 2 h3).g (Dj h5)).r 2 h3)
  obtain⟨h6,h⟩|⟨h6,h⟩:=aN h
  ·cases h;exact((EY.r 4 h6).T 15).ret hΓ
  ·obtain⟨y7,h8,h⟩:=aF h;have Iz:=(((EY.r 2 h6).g (jh h8)).r 2 h6)
   obtain⟨h9,h⟩|⟨h9,h⟩:=aN h
   ·cases h;exact((Iz.r 6 h9).T 9).ret hΓ
   ·have Ji:=(Iz.r 6 h9)
    obtain⟨h10,h⟩|⟨h10,h⟩:=aN h
    ·cases h;exact((Ji.r 8 h10).T 1).ret hΓ
    ·have C0:=(Ji.r 8 h10)
     obtain⟨h11,h⟩|⟨h11,h⟩:=aN h
     ·cases h;exact(C0.b h11).ret hΓ
     ·obtain⟨Uc,h13,h⟩:=aF h;refine(((C0.b h11).g (tE h13)).a [.cn [4,8,45,46,47] [1,2]]).lp hΓ (Aw hΓ (fun bf h=>?_) (by have:=(gm.sl (gm.agg (hr _ (aB (i:=0) rfl)) (.sl (aC.args.map tx)) (by simp))).1;simpa using this) aC.args 0 Uc rfl h);cases h;exact aT.ret hΓ
def ey(aC:aL)(aZ:aQ)(eZ:ar)(k1:ar->Option ar):ar->Nat->ar->Option ar
 | [],i1,cQ=>(k1 cQ)
 |bC::cE,i1,cQ=>((iY aC bC aZ).bind fun y42=>(bif y42.2 then((gX bC).bind fun Hv=>(bif room ((cQ.map aL.c).length+([[D.str Hv.rel,D.sl (Hv.args.map tx)]]).length) 40 then(ey aC aZ eZ k1 cE (i1+1) (cQ++([Hv])))else none))else(ey aC aZ eZ k1 cE (i1+1) cQ)))
def gL(aC:aL)(aZ:aQ)(eZ:ar):Option ar:=(ey aC aZ eZ (fun(bf:ar)=>(some bf)) eZ 0 ([]:ar))
def s8(aC:aL)(aZ:aQ)(eZ:ar)(W0:List aK)(dM:Int):St:=⟨[(1,D.sl (aZ.map aS.c)),(3,D.ptr 0 0),(7,D.acc 1),(12,D.sl (eZ.map aL.c)),(13,D.int .i64 ((eZ.map aL.c).length:Int)),(14,D.int .i64 dM)],[Ob.box (aL.c aC),Ob.row .uq 127 2 W0]⟩
theorem xJ(hΓ:Γ.nt=33){aC:aL}{aZ:aQ}{eZ:ar}{r:ar}{k1:ar->Option ar}(dQ:∀(bf:ar),k1 bf=some r->Ax Γ N f132 (.q [[some (127,2)]] (D.fr 127 2 (r.map aL.c))) [1,1,1] ⟨[(7,D.acc 0)],[Ob.row .uq 127 2 (bf.map aL.c)]⟩)(hm1:eZ.length<=maxLen):∀(rest:ar) (i1:Nat) (cQ:ar),eZ.drop i1=rest->ey aC aZ eZ k1 rest i1 cQ=some r->Ar Γ N f132 (.q [[some (127,2)]] (D.fr 127 2 (r.map aL.c))) [1,1,0,1,0] (rest.length+1) (s8 aC aZ eZ (cQ.map aL.c) (i1:Int)):=by
 intro rest
 induction rest with
 |nil=>
  intro i1 cQ b7 h;rw[ey]at h;refine aO fun N1 cN cI=>?_
  exact((aT.ge aL.c b7).a [.hl 0 [7] [1]]).ex hΓ cN (dQ cQ h)
 |cons bC cE ih1=>
  intro i1 cQ b7 h;rw[ey]at h;refine aO fun N1 cN cI=>?_
  obtain⟨y42,h43,h⟩:=aF h;have gJ:=(((aT.lt aL.c b7).l (bD aL.c 2 (dc b7) rfl)).g (tC h43))
  obtain⟨h44,h⟩|⟨h44,h⟩:=aN h
  ·obtain⟨Hv,h46,h⟩:=aF h;obtain⟨h47,h⟩:=bu h;exact((((gJ.b h44).g (qM h46)).w (cT h47)).a [.cn [1,3,7,12,13,14] [0,6]]).cs hΓ cI (s8 aC aZ eZ ((cQ.map aL.c)++([[D.str Hv.rel,D.sl (Hv.args.map tx)]])) (IntKind.i64.wrap ((i1:Int)+1))) (by first| (simp only[iS b7 hm1,mA]<;>rfl)| (simp only[iS b7 hm1,mA,aL.c,aS.c,aI.c,Action.c,aH.c,aq.c,fW.c,aW.c,Node.c,aR.c,fc.c]<;>rfl)) (ih1 (i1+1) (cQ++([Hv])) (dn b7) h)
  ·exact((gJ.b h44).a [.cn [1,3,7,12,13,14] [0,1]]).ct hΓ cI (iS b7 hm1) (ih1 (i1+1) cQ (dn b7) h)
theorem jf{aC:aL}{aZ:aQ}{eZ:ar}{r:ar}(h:gL aC aZ eZ=some r):Good prog 132 [D.agg (aL.c aC),D.sl (aZ.map aS.c),D.sl (eZ.map aL.c)] (D.fr 127 2 (r.map aL.c)):=by
 refine gd func132 [[some (127,2)]] 33 fun hr Γ hΓ=>?_
 rw[gL]at h;refine(aT.a [.KE 7,.cn [1,3,7,12,13,14] [0,1]]).lp hΓ (xJ hΓ (fun bf h=>?_) (by have:=(gm.sl (hr _ (aB (i:=2) rfl))).1;simpa using this) eZ 0 ([]:ar) rfl h);have h:=aJ h;subst h;exact aT.ret hΓ
def jr(aC:aR)(k1:bZ->Option aY):Nat->Int->bZ->Option aY
 |0,_,_=>none
 |n1+1,ax,cQ=>(bif room ((cQ.map jd).length+([[D.int .i64 ax]]).length) 8 then((sK aC.nodes ax).bind fun x19=>(bif decide ((x19.parent:Int)<1)then(k1 (cQ++([ax])))else(bif decide ((x19.parent:Int)>=ax)then(k1 (cQ++([ax])))else(jr aC k1 n1 x19.parent (cQ++([ax]))))))else none)
def iZ(aC:aR)(wO:bZ)(k2:aY->Option aY):Nat->Int->aY->Option aY
 |0,_,_=>none
 |n2+1,Hg,JG=>(bif decide ((Hg:Int)>=0)then((sK wO Hg).bind fun x72=>((sK aC.nodes x72).bind fun x74=>((gW x74.cond).bind fun RJ=>(bif room ((JG.map aI.c).length+([[D.int .i64 RJ.kind,D.str RJ.pat.rel,D.sl (RJ.pat.args.map tx),D.str RJ.left,D.str RJ.right]]).length) 80 then(iZ aC wO k2 n2 (IntKind.i64.wrap (Hg-1)) (JG++([RJ])))else none))))else(k2 JG))
def rJ(aC:aR)(aZ:Int):Option aY:=(bif decide ((aZ:Int)<1)then(some ([]))else(bif decide ((aZ:Int)>=((aC.nodes.map Node.c).length:Int))then(some ([]))else(jr aC (fun(wO:bZ)=>(iZ aC wO (fun(HZ:aY)=>(some HZ)) fuel (IntKind.i64.wrap (((wO.map jd).length:Int)-1)) ([]:aY))) fuel aZ ([]:bZ))))
def xx(aC:aR)(ax:Int)(W1:List aK):St:=⟨[(1,D.int .i64 ax),(2,D.ptr 0 0),(5,D.acc 1)],[Ob.box (aR.c aC),Ob.row .uq 3 1 W1]⟩
theorem F9(hΓ:Γ.nt=57){aC:aR}{r:aY}{k1:bZ->Option aY}(dQ:∀(wO:bZ),k1 wO=some r->Ax Γ N f134 (.q [[some (71,5)]] (D.fr 71 5 (r.map aI.c))) [1,1,1,1] ⟨[(2,D.ptr 0 0),(5,D.acc 1)],[Ob.box (aR.c aC),Ob.row .uq 3 1 (wO.map jd)]⟩):∀(n1:Nat) (ax:Int) (cQ:bZ),jr aC k1 n1 ax cQ=some r->Ar Γ N f134 (.q [[some (71,5)]] (D.fr 71 5 (r.map aI.c))) [1,1,1,0,0] n1 (xx aC ax (cQ.map jd)):=by
 intro n
 induction n with
 |zero=>intro ax cQ h;simp[jr]at h
 |succ n1 ih1=>
  intro ax cQ h;rw[jr]at h;refine aO fun N1 cN cI=>?_
  obtain⟨h18,h⟩:=bu h;obtain⟨x19,h20,h⟩:=aF h;have oR:=((aT.w (cT h18)).l (oL Node.c 8 h20 rfl))
  obtain⟨h21,h⟩|⟨h21,h⟩:=aN h
  ·exact(((oR.r 4 h21).T 1).a [.hl 0 [2,5] [0,3]]).exs hΓ cN ⟨[(2,D.ptr 0 0),(5,D.acc 1)],[Ob.box (aR.c aC),Ob.row .uq 3 1 ((cQ.map jd)++([[D.int .i64 ax]]))]⟩ (by first| (simp only[mA]<;>rfl)| (simp only[mA,aL.c,aS.c,aI.c,Action.c,aH.c,aq.c,fW.c,aW.c,Node.c,aR.c,fc.c]<;>rfl)) (dQ (cQ++([ax])) h)
  ·have nS:=(oR.r 4 h21)
   obtain⟨h22,h⟩|⟨h22,h⟩:=aN h
   ·exact((nS.b h22).a [.hl 0 [2,5] [0,3]]).exs hΓ cN ⟨[(2,D.ptr 0 0),(5,D.acc 1)],[Ob.box (aR.c aC),Ob.row .uq 3 1 ((cQ.map jd)++([[D.int .i64 ax]]))]⟩ (by first| (simp only[mA]<;>rfl)| (simp only[mA,aL.c,aS.c,aI.c,Action.c,aH.c,aq.c,fW.c,aW.c,Node.c,aR.c,fc.c]<;>rfl)) (dQ (cQ++([ax])) h)
   ·exact((nS.b h22).a [.cn [1,2,5] [0,3]]).cs hΓ cI (xx aC x19.parent ((cQ.map jd)++([[D.int .i64 ax]]))) (by first| (simp only[mA]<;>rfl)| (simp only[mA,aL.c,aS.c,aI.c,Action.c,aH.c,aq.c,fW.c,aW.c,Node.c,aR.c,fc.c]<;>rfl)) (ih1 x19.parent (cQ++([ax])) h)
def xy(aC:aR)(wO:bZ)(Hg:Int)(W1:List aK):St:=⟨[(2,D.ptr 0 0),(5,D.acc 1),(7,D.acc 2),(8,D.int .i64 Hg)],[Ob.box (aR.c aC),Ob.row .uq 3 1 (wO.map jd),Ob.row .uq 71 5 W1]⟩
theorem FA(hΓ:Γ.nt=57){aC:aR}{wO:bZ}{r:aY}{k2:aY->Option aY}(Ho:∀(HZ:aY),k2 HZ=some r->Ax Γ N f134 (.q [[some (71,5)]] (D.fr 71 5 (r.map aI.c))) [1,1,1,1,1,1] ⟨[(7,D.acc 0)],[Ob.row .uq 71 5 (HZ.map aI.c)]⟩):∀(n2:Nat) (Hg:Int) (JG:aY),iZ aC wO k2 n2 Hg JG=some r->Ar Γ N f134 (.q [[some (71,5)]] (D.fr 71 5 (r.map aI.c))) [1,1,1,1,1,0,1,0] n2 (xy aC wO Hg (JG.map aI.c)):=by
 intro n
 induction n with
 |zero=>intro Hg JG h;simp[iZ]at h
 |succ n2 ih2=>
  intro Hg JG h;rw[iZ]at h;refine aO fun N2 Ac xP=>?_
  obtain⟨h65,h⟩|⟨h65,h⟩:=aN h
  ·obtain⟨x72,h73,h⟩:=aF h;obtain⟨x74,h75,h⟩:=aF h;obtain⟨RJ,h77,h⟩:=aF h;obtain⟨h78,h⟩:=bu h;exact((((((((aT.b h65).a [.n2 [0,1,2,3,4,5,6,7,8,9,10,11,12,13] [0,1,2,3,4,5,6,7,8,9,10,11,12,13] 11 12 [0] [3]]).i (J1 jd 1 h73)).o 1 1 .uq (fX jd (Ex h73))).l (oL Node.c 8 h75 rfl)).g (kR h77)).w (cT h78)).a [.cn [2,5,7,8] [0,1,5]]).cs hΓ xP (xy aC wO (IntKind.i64.wrap (Hg-1)) ((JG.map aI.c)++([[D.int .i64 RJ.kind,D.str RJ.pat.rel,D.sl (RJ.pat.args.map tx),D.str RJ.left,D.str RJ.right]]))) (by first| (simp only[mA]<;>rfl)| (simp only[mA,aL.c,aS.c,aI.c,Action.c,aH.c,aq.c,fW.c,aW.c,Node.c,aR.c,fc.c]<;>rfl)) (ih2 (IntKind.i64.wrap (Hg-1)) (JG++([RJ])) h)
  ·exact((aT.b h65).a [.hl 0 [7] [2]]).ex hΓ Ac (Ho JG h)
theorem rW{aC:aR}{aZ:Int}{r:aY}(h:rJ aC aZ=some r):Good prog 134 [D.agg (aR.c aC),D.int .i64 aZ] (D.fr 71 5 (r.map aI.c)):=by
 refine gd func134 [[some (71,5)]] 57 fun hr Γ hΓ=>?_
 rw[rJ]at h;obtain⟨h1,h⟩|⟨h1,h⟩:=aN h
 ·cases h;exact((aT.r 6 h1).T 1).ret hΓ
 ·have vB:=(aT.r 6 h1)
  obtain⟨h2,h⟩|⟨h2,h⟩:=aN h
  ·cases h;exact(vB.b h2).ret hΓ
  ·refine((vB.b h2).a [.KE 5,.cn [1,2,5] [0,1]]).lp hΓ (F9 hΓ (fun wO h=>?_) fuel aZ ([]:bZ) h);refine(aT.a [.KE 7,.cn [2,5,7,8] [0,1,2]]).lp hΓ (FA hΓ (fun HZ h=>?_) fuel (IntKind.i64.wrap (((wO.map jd).length:Int)-1)) ([]:aY) h);have h:=aJ h;subst h;exact aT.ret hΓ
def rI(aC:aI):Option Bool:=((nE aC).bind fun y1=>(bif y1 then(some (decide ((aC.kind:Int)>=3)))else(some false)))
theorem vu{aC:aI}{r:Bool}(h:rI aC=some r):Good prog 193 [D.agg (aI.c aC)] (D.bool r):=by
 refine gd func193 [[none]] 10 fun hr Γ hΓ=>?_
 rw[rI]at h;obtain⟨y1,h2,h⟩:=aF h;obtain⟨h3,h⟩|⟨h3,h⟩:=aN h
 ·cases h;exact((aT.g (lq h2)).r 4 h3).ret hΓ
 ·have h:=aJ h;subst h;exact((aT.g (lq h2)).r 4 h3).ret hΓ
def mU(aC:Bytes):Option (Int×Bool):=(bif decide (((aC.length:Int):Int)<1)then(some (0,false))else(bif decide (((aC.length:Int):Int)>4)then(some (0,false))else((wF aC).bind fun y3=>(bif y3.2 then(some (0,false))else(bif decide ((y3.1:Int)<0)then(some (0,false))else(bif decide ((y3.1:Int)>9999)then(some (0,false))else((iW y3.1).bind fun y8=>(bif !((y8:Bytes)==aC)then(some (0,false))else(some (y3.1,true))))))))))
theorem tr{aC:Bytes}{r:Int×Bool}(h:mU aC=some r):Good prog 194 [D.str aC] (D.iE [D.int .i64 r.1,D.bool r.2]):=by
 refine gd func194 [[none],[none]] 36 fun hr Γ hΓ=>?_
 rw[mU]at h;obtain⟨h1,h⟩|⟨h1,h⟩:=aN h
 ·cases h;exact((aT.r 4 h1).T 1).ret hΓ
 ·have nL:=(aT.r 4 h1)
  obtain⟨h2,h⟩|⟨h2,h⟩:=aN h
  ·cases h;exact(nL.b h2).ret hΓ
  ·obtain⟨y3,h4,h⟩:=aF h;have gJ:=((nL.b h2).g (DF h4))
   obtain⟨h5,h⟩|⟨h5,h⟩:=aN h
   ·cases h;exact((gJ.r 3 h5).T 9).ret hΓ
   ·have oR:=(gJ.r 3 h5)
    obtain⟨h6,h⟩|⟨h6,h⟩:=aN h
    ·cases h;exact((oR.r 3 h6).T 6).ret hΓ
    ·have nS:=(oR.r 3 h6)
     obtain⟨h7,h⟩|⟨h7,h⟩:=aN h
     ·cases h;exact((nS.r 5 h7).T 1).ret hΓ
     ·obtain⟨y8,h9,h⟩:=aF h;have vB:=(((nS.r 2 h7).g (tB h9)).r 3 h7)
      obtain⟨h10,h⟩|⟨h10,h⟩:=aN h
      ·cases h;exact(vB.b h10).ret hΓ
      ·cases h;exact(vB.b h10).ret hΓ
def nW(aC:aI)(aZ:aQ):Option Bool:=((rI aC).bind fun y1=>(bif !(y1)then(some false)else((iX aZ).bind fun y4=>(bif !(y4)then(some false)else((lz aZ aC.left).bind fun y7=>((lz aZ aC.right).bind fun y9=>(bif !(y7.2)then(some false)else(bif !(y9.2)then(some false)else(bif (aC.kind:Int)==3 then(some ((y7.1:Bytes)==y9.1))else(bif (aC.kind:Int)==4 then(some (!((y7.1:Bytes)==y9.1)))else((mU y7.1).bind fun Z8=>((mU y9.1).bind fun ZA=>(bif Z8.2 then(bif ZA.2 then(some (decide ((Z8.1:Int)<ZA.1)))else(some false))else(some false))))))))))))))
theorem zk{aC:aI}{aZ:aQ}{r:Bool}(h:nW aC aZ=some r):Good prog 185 [D.agg (aI.c aC),D.sl (aZ.map aS.c)] (D.bool r):=by
 refine gd func185 [[none]] 70 fun hr Γ hΓ=>?_
 rw[nW]at h;obtain⟨y1,h2,h⟩:=aF h;obtain⟨h3,h⟩|⟨h3,h⟩:=aN h
 ·have h:=aJ h;subst h;exact(((aT.g (vu h2)).r 4 h3).T 1).ret hΓ
 ·obtain⟨y4,h5,h⟩:=aF h;have nL:=((((aT.g (vu h2)).r 2 h3).g (jh h5)).r 2 h3)
  obtain⟨h6,h⟩|⟨h6,h⟩:=aN h
  ·have h:=aJ h;subst h;exact(nL.b h6).ret hΓ
  ·obtain⟨y7,h8,h⟩:=aF h;obtain⟨y9,h10,h⟩:=aF h;have gJ:=(((nL.b h6).g (qw h8)).g (qw h10))
   obtain⟨h11,h⟩|⟨h11,h⟩:=aN h
   ·have h:=aJ h;subst h;exact((gJ.r 3 h11).T 1).ret hΓ
   ·have oR:=(gJ.r 3 h11)
    obtain⟨h12,h⟩|⟨h12,h⟩:=aN h
    ·have h:=aJ h;subst h;exact(oR.b h12).ret hΓ
    ·obtain⟨h13,h⟩|⟨h13,h⟩:=aN h
     ·cases h;exact((oR.b h12).b h13).ret hΓ
     ·have nS:=((oR.b h12).b h13)
      obtain⟨h14,h⟩|⟨h14,h⟩:=aN h
      ·cases h;exact(nS.b h14).ret hΓ
      ·obtain⟨Z8,h16,h⟩:=aF h;obtain⟨ZA,h18,h⟩:=aF h;have vB:=(((nS.b h14).g (tr h16)).g (tr h18))
       obtain⟨h19,h⟩|⟨h19,h⟩:=aN h
       ·have xh:=(vB.r 2 h19)
        obtain⟨h20,h⟩|⟨h20,h⟩:=aN h
        ·cases h;exact(xh.r 4 h20).ret hΓ
        ·have h:=aJ h;subst h;exact(xh.r 4 h20).ret hΓ
       ·have h:=aJ h;subst h;exact((vB.r 2 h19).F 4).ret hΓ
def nV(aC:aI)(aZ:aQ)(eZ:ar):Option Bool:=((nE aC).bind fun y1=>(bif !(y1)then(some false)else((iX aZ).bind fun y4=>(bif !(y4)then(some false)else(bif (aC.kind:Int)==1 then((gL aC.pat aZ eZ).bind fun y8=>(some (decide ((((y8.map aL.c).length:Int):Int)>0))))else(bif (aC.kind:Int)==2 then((gL aC.pat aZ eZ).bind fun y11=>(some ((((y11.map aL.c).length:Int):Int)==0)))else((nW aC aZ).bind fun qt=>(some qt))))))))
theorem zj{aC:aI}{aZ:aQ}{eZ:ar}{r:Bool}(h:nV aC aZ eZ=some r):Good prog 167 [D.agg (aI.c aC),D.sl (aZ.map aS.c),D.sl (eZ.map aL.c)] (D.bool r):=by
 refine gd func167 [[none]] 38 fun hr Γ hΓ=>?_
 rw[nV]at h;obtain⟨y1,h2,h⟩:=aF h;obtain⟨h3,h⟩|⟨h3,h⟩:=aN h
 ·have h:=aJ h;subst h;exact(((aT.g (lq h2)).r 4 h3).T 1).ret hΓ
 ·obtain⟨y4,h5,h⟩:=aF h;have nL:=((((aT.g (lq h2)).r 2 h3).g (jh h5)).r 2 h3)
  obtain⟨h6,h⟩|⟨h6,h⟩:=aN h
  ·have h:=aJ h;subst h;exact(nL.b h6).ret hΓ
  ·obtain⟨h7,h⟩|⟨h7,h⟩:=aN h
   ·obtain⟨y8,h9,h⟩:=aF h;cases h;exact(((nL.b h6).b h7).g (jf h9)).ret hΓ
   ·have gJ:=((nL.b h6).b h7)
    obtain⟨h10,h⟩|⟨h10,h⟩:=aN h
    ·obtain⟨y11,h12,h⟩:=aF h;cases h;exact((gJ.b h10).g (jf h12)).ret hΓ
    ·obtain⟨qt,h14,h⟩:=aF h;have h:=aJ h;subst h;exact((gJ.b h10).g (zk h14)).ret hΓ
def iL(aC:aY)(aZ:ar)(i2:Nat)(bK:bX)(qp:aq)(i1:Nat)(bC:aI)(k3:bX->Option bX):ar->Nat->bX->Option bX
 | [],i3,ue=>(k3 ue)
 |RH::NP,i3,ue=>((iY bC.pat RH qp.bind).bind fun KO=>(bif KO.2 then((jt qp.facts).bind fun KP=>((gX RH).bind fun GA=>(bif room ((KP.map aL.c).length+([[D.str GA.rel,D.sl (GA.args.map tx)]]).length) 40 then(bif room ((ue.map aq.c).length+([[D.sl ((KP.map aL.c)++([[D.str GA.rel,D.sl (GA.args.map tx)]])),D.sl (KO.1.map aS.c)]]).length) 48 then(iL aC aZ i2 bK qp i1 bC k3 NP (i3+1) (ue++([(⟨KP++([GA]),KO.1⟩:aq)])))else none)else none)))else(iL aC aZ i2 bK qp i1 bC k3 NP (i3+1) ue)))
def eP(aC:aY)(aZ:ar)(bK:bX)(i1:Nat)(bC:aI)(k2:bX->Option bX):bX->Nat->bX->Option bX
 | [],i2,lP=>(k2 lP)
 |qp::yT,i2,lP=>(bif (bC.kind:Int) != 1 then((nV bC qp.bind aZ).bind fun XC=>(bif XC then(bif room ((lP.map aq.c).length+([[D.sl (qp.facts.map aL.c),D.sl (qp.bind.map aS.c)]]).length) 48 then(eP aC aZ bK i1 bC k2 yT (i2+1) (lP++([qp])))else none)else(eP aC aZ bK i1 bC k2 yT (i2+1) lP)))else(bif decide (aZ.length<=maxLen)then(iL aC aZ i2 bK qp i1 bC (fun(Qy:bX)=>(eP aC aZ bK i1 bC k2 yT (i2+1) Qy)) aZ 0 lP)else none))
def iK(aC:aY)(aZ:ar)(k1:bX->Option bX):aY->Nat->bX->Option bX
 | [],i1,bK=>(k1 bK)
 |bC::cE,i1,bK=>(bif decide (bK.length<=maxLen)then(eP aC aZ bK i1 bC (fun(HZ:bX)=>(iK aC aZ k1 cE (i1+1) HZ)) bK 0 ([]:bX))else none)
def og(aC:aY)(aZ:ar):Option bX:=(iK aC aZ (fun(bf:bX)=>(some bf)) aC 0 ([(⟨[],[]⟩:aq)]))
def w8(aC:aY)(aZ:ar)(W0:List aK)(dM:Int):St:=⟨[(1,D.sl (aZ.map aL.c)),(5,D.acc 0),(17,D.sl (aC.map aI.c)),(18,D.int .i64 ((aC.map aI.c).length:Int)),(19,D.int .i64 dM)],[Ob.row .uq 65 2 W0]⟩
def w9(aC:aY)(aZ:ar)(bK:bX)(i1:Nat)(bC:aI)(W0:List aK)(a2q:Nat)(dM:Int):St:=⟨[(1,D.sl (aZ.map aL.c)),(7,D.ptr 0 0),(8,D.acc 1),(17,D.sl (aC.map aI.c)),(18,D.int .i64 ((aC.map aI.c).length:Int)),(19,D.int .i64 (i1:Int)),(23,D.acc 2),(24,D.int .i64 ((bK.map aq.c).length:Int)),(25,D.int .i64 dM)],[Ob.box [D.int .i64 bC.kind,D.str bC.pat.rel,D.sl (bC.pat.args.map tx),D.str bC.left,D.str bC.right],Ob.row .uq 65 2 W0,Ob.row (.mv a2q) 65 2 (bK.map aq.c)]⟩
def wA(aC:aY)(aZ:ar)(i2:Nat)(bK:bX)(qp:aq)(i1:Nat)(bC:aI)(W0:List aK)(dM:Int):St:=⟨[(1,D.sl (aZ.map aL.c)),(7,D.ptr 0 0),(8,D.acc 1),(10,D.ptr 2 0),(17,D.sl (aC.map aI.c)),(18,D.int .i64 ((aC.map aI.c).length:Int)),(19,D.int .i64 (i1:Int)),(23,D.acc 3),(24,D.int .i64 ((bK.map aq.c).length:Int)),(25,D.int .i64 (i2:Int)),(41,D.sl (aZ.map aL.c)),(42,D.int .i64 ((aZ.map aL.c).length:Int)),(43,D.int .i64 dM)],[Ob.box [D.int .i64 bC.kind,D.str bC.pat.rel,D.sl (bC.pat.args.map tx),D.str bC.left,D.str bC.right],Ob.row .uq 65 2 W0,Ob.box [D.acc 4,D.acc 5],Ob.row (.mv (i2+1)) 65 2 (bK.map aq.c),Ob.tk (qp.facts.map aL.c),Ob.tk (qp.bind.map aS.c)]⟩
theorem Cc(hΓ:Γ.nt=74){aC:aY}{aZ:ar}{i2:Nat}{bK:bX}{qp:aq}{i1:Nat}{bC:aI}{r:bX}{k3:bX->Option bX}(XS:∀(Qy:bX),k3 Qy=some r->Ax Γ N f133 (.q [[some (65,2)]] (D.fr 65 2 (r.map aq.c))) [1,1,0,1,0,0,1,1,0,0,1,1,0,1,0,0,1,1,1] ⟨[(1,D.sl (aZ.map aL.c)),(7,D.ptr 0 0),(8,D.acc 1),(17,D.sl (aC.map aI.c)),(18,D.int .i64 ((aC.map aI.c).length:Int)),(19,D.int .i64 (i1:Int)),(23,D.acc 2),(24,D.int .i64 ((bK.map aq.c).length:Int)),(25,D.int .i64 (i2:Int))],[Ob.box [D.int .i64 bC.kind,D.str bC.pat.rel,D.sl (bC.pat.args.map tx),D.str bC.left,D.str bC.right],Ob.row .uq 65 2 (Qy.map aq.c),Ob.row (.mv (i2+1)) 65 2 (bK.map aq.c)]⟩)(Qa:aZ.length<=maxLen):∀(rest:ar) (i3:Nat) (ue:bX),aZ.drop i3=rest->iL aC aZ i2 bK qp i1 bC k3 rest i3 ue=some r->Ar Γ N f133 (.q [[some (65,2)]] (D.fr 65 2 (r.map aq.c))) [1,1,0,1,0,0,1,1,0,0,1,1,0,1,0,0,1,1,0,0,1,1,1,0] (rest.length+1) (wA aC aZ i2 bK qp i1 bC (ue.map aq.c) (i3:Int)):=by
 intro rest
 induction rest with
 |nil=>
  intro i3 ue xg h;rw[iL]at h;refine aO fun N3 S9 NM=>?_
  exact((aT.ge aL.c xg).a [.hl 8 [1,7,8,17,18,19,23,24,25] [0,1,3]]).ex hΓ S9 (XS ue h)
 |cons RH NP ih3=>
  intro i3 ue xg h;rw[iL]at h;refine aO fun N3 S9 NM=>?_
  obtain⟨KO,h3513,h⟩:=aF h;have a0R:=(((aT.lt aL.c xg).l (bD aL.c 2 (dc xg) rfl)).g (tC h3513))
  obtain⟨h3514,h⟩|⟨h3514,h⟩:=aN h
  ·obtain⟨KP,h3521,h⟩:=aF h;obtain⟨GA,h3523,h⟩:=aF h;obtain⟨h3524,h⟩:=bu h;obtain⟨h3525,h⟩:=bu h;exact(((((((a0R.b h3514).a [.n2 [0,1,2,3,4,5,8,6,7,9,10,11,12] [0,1,2,3,4,5,7,8,6,9,10,11,12] 7 11 [0,6] [7,8,9,10,11]]).g (tD h3521)).g (qM h3523)).w (cT h3524)).w (cT h3525)).a [.cn [1,7,8,10,17,18,19,23,24,25,41,42,43] [0,13,2,3,4,5]]).cs hΓ NM (wA aC aZ i2 bK qp i1 bC ((ue.map aq.c)++([[D.sl ((KP.map aL.c)++([[D.str GA.rel,D.sl (GA.args.map tx)]])),D.sl (KO.1.map aS.c)]])) (IntKind.i64.wrap ((i3:Int)+1))) (by first| (simp only[iS xg Qa,mA]<;>rfl)| (simp only[iS xg Qa,mA,aL.c,aS.c,aI.c,Action.c,aH.c,aq.c,fW.c,aW.c,Node.c,aR.c,fc.c]<;>rfl)) (ih3 (i3+1) (ue++([(⟨KP++([GA]),KO.1⟩:aq)])) (dn xg) h)
  ·exact((a0R.b h3514).a [.cn [1,7,8,10,17,18,19,23,24,25,41,42,43] [0,1,2,3,4,5]]).ct hΓ NM (iS xg Qa) (ih3 (i3+1) ue (dn xg) h)
theorem Cb(hΓ:Γ.nt=74){aC:aY}{aZ:ar}{bK:bX}{i1:Nat}{bC:aI}{r:bX}{k2:bX->Option bX}(Ho:∀(HZ:bX),k2 HZ=some r->Ax Γ N f133 (.q [[some (65,2)]] (D.fr 65 2 (r.map aq.c))) [1,1,0,1,0,0,1,1,0,0,1,1,1] ⟨[(1,D.sl (aZ.map aL.c)),(8,D.acc 0),(17,D.sl (aC.map aI.c)),(18,D.int .i64 ((aC.map aI.c).length:Int)),(19,D.int .i64 (i1:Int))],[Ob.row .uq 65 2 (HZ.map aq.c)]⟩)(hm2:bK.length<=maxLen):∀(rest:bX) (i2:Nat) (lP:bX),bK.drop i2=rest->eP aC aZ bK i1 bC k2 rest i2 lP=some r->Ar Γ N f133 (.q [[some (65,2)]] (D.fr 65 2 (r.map aq.c))) [1,1,0,1,0,0,1,1,0,0,1,1,0,1,0] (rest.length+1) (w9 aC aZ bK i1 bC (lP.map aq.c) i2 (i2:Int)):=by
 intro rest
 induction rest with
 |nil=>
  intro i2 lP hd2 h;rw[eP]at h;refine aO fun N2 Ac xP=>?_
  exact((aT.ge aq.c hd2).a [.hl 5 [1,8,17,18,19] [1]]).ex hΓ Ac (Ho lP h)
 |cons qp yT ih2=>
  intro i2 lP hd2 h;rw[eP]at h;refine aO fun N2 Ac xP=>?_
  have a0S:=((((aT.lt aq.c hd2).i (mQ aq.c 2 (dc hd2))).w (show i2=i2/\(bK.map aq.c)[i2]?=some [D.sl (qp.facts.map aL.c),D.sl (qp.bind.map aS.c)]/\LO [D.sl (qp.facts.map aL.c),D.sl (qp.bind.map aS.c)]=true from⟨rfl,fX aq.c (dc hd2),rfl⟩)).a [.tk [D.sl (qp.facts.map aL.c),D.sl (qp.bind.map aS.c)]])
  obtain⟨h3426,h⟩|⟨h3426,h⟩:=aN h
  ·obtain⟨XC,h3428,h⟩:=aF h;have a0T:=((a0S.b h3426).g (zj h3428))
   obtain⟨h3429,h⟩|⟨h3429,h⟩:=aN h
   ·obtain⟨h3430,h⟩:=bu h;exact(((a0T.b h3429).w (cT h3430)).a [.cn [1,7,8,17,18,19,23,24,25] [0,7,2]]).cs hΓ xP (w9 aC aZ bK i1 bC ((lP.map aq.c)++([[D.sl (qp.facts.map aL.c),D.sl (qp.bind.map aS.c)]])) (i2+1) (IntKind.i64.wrap ((i2:Int)+1))) (by first| (simp only[iS hd2 hm2,mA]<;>rfl)| (simp only[iS hd2 hm2,mA,aL.c,aS.c,aI.c,Action.c,aH.c,aq.c,fW.c,aW.c,Node.c,aR.c,fc.c]<;>rfl)) (ih2 (i2+1) (lP++([qp])) (dn hd2) h)
   ·exact((a0T.b h3429).a [.cn [1,7,8,17,18,19,23,24,25] [0,1,2]]).ct hΓ xP (iS hd2 hm2) (ih2 (i2+1) lP (dn hd2) h)
  ·obtain⟨h3526,h⟩:=bu h;refine((a0S.b h3426).a [.cn [1,7,8,10,17,18,19,23,24,25,41,42,43] [0,1,5,2,3,4]]).lp hΓ (Cc hΓ (fun Qy h=>?_) (bq h3526) aZ 0 lP rfl h);exact(aT.a [.cn [1,7,8,17,18,19,23,24,25] [0,1,2]]).ct hΓ xP (iS hd2 hm2) (ih2 (i2+1) Qy (dn hd2) h)
theorem Ca(hΓ:Γ.nt=74){aC:aY}{aZ:ar}{r:bX}{k1:bX->Option bX}(dQ:∀(bf:bX),k1 bf=some r->Ax Γ N f133 (.q [[some (65,2)]] (D.fr 65 2 (r.map aq.c))) [1,1,1] ⟨[(5,D.acc 0)],[Ob.row .uq 65 2 (bf.map aq.c)]⟩)(hm1:aC.length<=maxLen):∀(rest:aY) (i1:Nat) (bK:bX),aC.drop i1=rest->iK aC aZ k1 rest i1 bK=some r->Ar Γ N f133 (.q [[some (65,2)]] (D.fr 65 2 (r.map aq.c))) [1,1,0,1,0] (rest.length+1) (w8 aC aZ (bK.map aq.c) (i1:Int)):=by
 intro rest
 induction rest with
 |nil=>
  intro i1 bK b7 h;rw[iK]at h;refine aO fun N1 cN cI=>?_
  exact((aT.ge aI.c b7).a [.hl 0 [5] [0]]).ex hΓ cN (dQ bK h)
 |cons bC cE ih1=>
  intro i1 bK b7 h;rw[iK]at h;refine aO fun N1 cN cI=>?_
  obtain⟨h3527,h⟩:=bu h;refine(((aT.lt aI.c b7).l (bD aI.c 5 (dc b7) rfl)).a [.KE 8,.mz 0,.cn [1,7,8,17,18,19,23,24,25] [1,2,0]]).lp hΓ (Cb hΓ (fun HZ h=>?_) (bq h3527) bK 0 ([]:bX) rfl h);exact(aT.a [.cn [1,5,17,18,19] [0]]).ct hΓ cI (iS b7 hm1) (ih1 (i1+1) HZ (dn b7) h)
theorem B6{aC:aY}{aZ:ar}{r:bX}(h:og aC aZ=some r):Good prog 133 [D.sl (aC.map aI.c),D.sl (aZ.map aL.c)] (D.fr 65 2 (r.map aq.c)):=by
 refine gd func133 [[some (65,2)]] 74 fun hr Γ hΓ=>?_
 rw[og]at h;refine(aT.a [.cn [1,5,17,18,19] [0]]).Wd hΓ (w8 aC aZ ([[D.sl ([]),D.sl ([])]]) 0) (by first| (simp only[mA]<;>rfl)| (simp only[mA,aL.c,aS.c,aI.c,Action.c,aH.c,aq.c,fW.c,aW.c,Node.c,aR.c,fc.c]<;>rfl)) (Ca hΓ (fun bf h=>?_) (by have:=(gm.sl (hr _ (aB (i:=0) rfl))).1;simpa using this) aC 0 ([(⟨[],[]⟩:aq)]) rfl h);have h:=aJ h;subst h;exact aT.ret hΓ
def eA(aC:aR)(aZ:ar)(y1:ar)(k1:bE->Option (aR×Unit)):bE->Nat->bE->Option (aR×Unit)
 | [],i1,eL=>(k1 eL)
 |bC::cE,i1,eL=>(bif decide (i1<(eL.map aW.c).length)then(((eL)[i1]?).bind fun x35=>((gL x35.shape ([]) aZ).bind fun LY=>(bif decide (i1<(eL.map aW.c).length)then(eA aC aZ y1 k1 cE (i1+1) (eL.set i1 (⟨x35.shape,LY⟩:aW)))else none)))else none)
def dH(aC:aR)(aZ:ar)(y1:ar)(kI:bE)(k2:Option (aR×Unit)):bB->Nat->bB->Option (aR×Unit)
 | [],i2,lH=>(some ((⟨aC.rules,aC.ends,kI,lH,y1,aC.cu⟩:aR),()))
 |qp::yT,i2,lH=>((rJ (⟨aC.rules,aC.ends,kI,lH,y1,aC.cu⟩:aR) (i2:Int)).bind fun WD=>((og WD aZ).bind fun WE=>(bif decide (i2<(lH.map Node.c).length)then(((lH)[i2]?).bind fun x107=>(dH aC aZ y1 kI k2 yT (i2+1) (lH.set i2 (⟨x107.parent,x107.cond,x107.oU,WE⟩:Node))))else none)))
def j9(aC:aR)(aZ:ar):Option (aR×Unit):=((jt aZ).bind fun y1=>(bif decide (aC.bU.length<=maxLen)then(eA aC aZ y1 (fun(kI:bE)=>(bif decide (aC.nodes.length<=maxLen)then(dH aC aZ y1 kI none aC.nodes 0 aC.nodes)else none)) aC.bU 0 aC.bU)else none))
def qn(dU:Value)(aC:aR)(aZ:ar)(y1:ar)(W0:List aK)(dM:Int):St:=⟨[(0,D.ptr 0 0),(1,D.sl (aZ.map aL.c)),(15,D.int .i64 ((aC.bU.map aW.c).length:Int)),(16,D.int .i64 dM)],[Ob.Gj [D.acc 1,D.acc 2,D.acc 3,D.acc 4,D.acc 5,D.int .i64 aC.cu] dU,Ob.row .uq 31 4 (aC.rules.map aH.c),Ob.row .uq 3 1 (aC.ends.map jd),Ob.row .uq 124 3 W0,Ob.row .uq 73 8 (aC.nodes.map Node.c),Ob.row .uq 127 2 (y1.map aL.c)]⟩
theorem vq(hΓ:Γ.nt=60){dU:Value}{aC:aR}{aZ:ar}{y1:ar}{r:aR×Unit}{k1:bE->Option (aR×Unit)}(dQ:∀(kI:bE),k1 kI=some r->Ax Γ N f83 (.p [[some (31,4),some (3,1),some (124,3),some (73,8),some (127,2),none]] dU (cP r.1) (D.iE [])) [1,1] ⟨[(0,D.ptr 0 0),(1,D.sl (aZ.map aL.c))],[Ob.Gj [D.acc 1,D.acc 2,D.acc 3,D.acc 4,D.acc 5,D.int .i64 aC.cu] dU,Ob.row .uq 31 4 (aC.rules.map aH.c),Ob.row .uq 3 1 (aC.ends.map jd),Ob.row .uq 124 3 (kI.map aW.c),Ob.row .uq 73 8 (aC.nodes.map Node.c),Ob.row .uq 127 2 (y1.map aL.c)]⟩)(hm1:aC.bU.length<=maxLen):∀(rest:bE) (i1:Nat) (eL:bE),aC.bU.drop i1=rest->eA aC aZ y1 k1 rest i1 eL=some r->Ar Γ N f83 (.p [[some (31,4),some (3,1),some (124,3),some (73,8),some (127,2),none]] dU (cP r.1) (D.iE [])) [1,0,1,0] (rest.length+1) (qn dU aC aZ y1 (eL.map aW.c) (i1:Int)):=by
 intro rest
 induction rest with
 |nil=>
  intro i1 eL b7 h;rw[eA]at h;refine aO fun N1 cN cI=>?_
  exact((aT.ge aW.c b7).a [.hl 0 [0,1] [0,1,2,3,4,5]]).ex hΓ cN (dQ eL h)
 |cons bC cE ih1=>
  intro i1 eL b7 h;rw[eA]at h;refine aO fun N1 cN cI=>?_
  obtain⟨h34,h⟩:=bu h;obtain⟨x35,h36,h⟩:=aF h;obtain⟨LY,h38,h⟩:=aF h;obtain⟨h39,h⟩:=bu h;exact(((((((((aT.lt aW.c b7).a [.n 15]).i (EZ 3 h34)).o 3 2 .uq (fX aW.c h36)).a [.d (D.fr 127 2 (LY.map aL.c))]).w (show Good prog 132 [D.agg (aL.c x35.shape),D.sl ([]),D.sl (aZ.map aL.c)] (D.fr 127 2 (LY.map aL.c))from by first| (simpa only[bR,bI,bP,eM,dl]using jf h38)|exact jf h38)).i (EZ 3 h39)).w (show(eL.map aW.c)[i1]?=some [D.str x35.shape.rel,D.sl (x35.shape.args.map tx),D.sl (x35.facts.map aL.c)]from fX aW.c h36)).a [.row [D.str x35.shape.rel,D.sl (x35.shape.args.map tx),D.sl (x35.facts.map aL.c)],.cn [0,1,15,16] [0,1,2,3,4,5]]).cs hΓ cI (qn dU aC aZ y1 ((eL.map aW.c).set i1 [D.str x35.shape.rel,D.sl (x35.shape.args.map tx),D.sl (LY.map aL.c)]) (IntKind.i64.wrap ((i1:Int)+1))) (by first| (simp only[iS b7 hm1,mA]<;>rfl)| (simp only[iS b7 hm1,mA,aL.c,aS.c,aI.c,Action.c,aH.c,aq.c,fW.c,aW.c,Node.c,aR.c,fc.c]<;>rfl)) (ih1 (i1+1) (eL.set i1 (⟨x35.shape,LY⟩:aW)) (dn b7) h)
def qo(dU:Value)(aC:aR)(aZ:ar)(y1:ar)(kI:bE)(W0:List aK)(dM:Int):St:=⟨[(0,D.ptr 0 0),(1,D.sl (aZ.map aL.c)),(41,D.int .i64 ((aC.nodes.map Node.c).length:Int)),(42,D.int .i64 dM)],[Ob.Gj [D.acc 1,D.acc 2,D.acc 3,D.acc 4,D.acc 5,D.int .i64 aC.cu] dU,Ob.row .uq 31 4 (aC.rules.map aH.c),Ob.row .uq 3 1 (aC.ends.map jd),Ob.row .uq 124 3 (kI.map aW.c),Ob.row .uq 73 8 W0,Ob.row .uq 127 2 (y1.map aL.c)]⟩
theorem vr(hΓ:Γ.nt=60){dU:Value}{aC:aR}{aZ:ar}{y1:ar}{kI:bE}{r:aR×Unit}{k2:Option (aR×Unit)}(Ho:k2=some r->Ax Γ N f83 (.p [[some (31,4),some (3,1),some (124,3),some (73,8),some (127,2),none]] dU (cP r.1) (D.iE [])) [1,1,1,0,0] ⟨[],[]⟩)(hm2:aC.nodes.length<=maxLen):∀(rest:bB) (i2:Nat) (lH:bB),aC.nodes.drop i2=rest->dH aC aZ y1 kI k2 rest i2 lH=some r->Ar Γ N f83 (.p [[some (31,4),some (3,1),some (124,3),some (73,8),some (127,2),none]] dU (cP r.1) (D.iE [])) [1,1,1,0] (rest.length+1) (qo dU aC aZ y1 kI (lH.map Node.c) (i2:Int)):=by
 intro rest
 induction rest with
 |nil=>
  intro i2 lH hd2 h;rw[dH]at h;refine aO fun N2 Ac xP=>?_
  cases h;exact(aT.ge Node.c hd2).ret hΓ
 |cons qp yT ih2=>
  intro i2 lH hd2 h;rw[dH]at h;refine aO fun N2 Ac xP=>?_
  obtain⟨WD,h103,h⟩:=aF h;obtain⟨WE,h105,h⟩:=aF h;obtain⟨h106,h⟩:=bu h;obtain⟨x107,h108,h⟩:=aF h;exact(((((((aT.lt Node.c hd2).a [.n2 [0,1,2,3,4,5,6,7,8,9,10,11,12,13,14] [0,1,2,3,4,5,6,7,8,9,10,11,12,13,14] 11 12 [0,1,2,3,4] [],.d (D.fr 71 5 (WD.map aI.c))]).w (show Good prog 134 [D.agg [D.sl (aC.rules.map aH.c),D.sl (aC.ends.map jd),D.sl (kI.map aW.c),D.sl (lH.map Node.c),D.sl (y1.map aL.c),D.int .i64 aC.cu],D.int .i64 (i2:Int)] (D.fr 71 5 (WD.map aI.c))from by first| (simpa only[bR,bI,bP,eM,dl]using rW h103)|exact rW h103| (have t:=rW h103;simp only[bR,eM,dl,aR.c]at t;exact t))).g (B6 h105)).i (EZ 8 h106)).w (show(lH.map Node.c)[i2]?=some [D.int .i64 x107.parent,D.int .i64 x107.cond.kind,D.str x107.cond.pat.rel,D.sl (x107.cond.pat.args.map tx),D.str x107.cond.left,D.str x107.cond.right,D.int .i64 x107.oU,D.sl (x107.tokens.map aq.c)]from fX Node.c h108)).a [.row [D.int .i64 x107.parent,D.int .i64 x107.cond.kind,D.str x107.cond.pat.rel,D.sl (x107.cond.pat.args.map tx),D.str x107.cond.left,D.str x107.cond.right,D.int .i64 x107.oU,D.sl (x107.tokens.map aq.c)],.cn [0,1,41,42] [0,1,2,3,4,5]]).cs hΓ xP (qo dU aC aZ y1 kI ((lH.map Node.c).set i2 [D.int .i64 x107.parent,D.int .i64 x107.cond.kind,D.str x107.cond.pat.rel,D.sl (x107.cond.pat.args.map tx),D.str x107.cond.left,D.str x107.cond.right,D.int .i64 x107.oU,D.sl (WE.map aq.c)]) (IntKind.i64.wrap ((i2:Int)+1))) (by first| (simp only[iS hd2 hm2,mA]<;>rfl)| (simp only[iS hd2 hm2,mA,aL.c,aS.c,aI.c,Action.c,aH.c,aq.c,fW.c,aW.c,Node.c,aR.c,fc.c]<;>rfl)) (ih2 (i2+1) (lH.set i2 (⟨x107.parent,x107.cond,x107.oU,WE⟩:Node)) (dn hd2) h)
theorem vL{aC:aR}{aZ:ar}{r:aR×Unit}(h:j9 aC aZ=some r):qm prog 83 (cP aC) (cP r.1) [D.sl (aZ.map aL.c)] (D.iE []):=by
 refine S7 func83 [[some (31,4),some (3,1),some (124,3),some (73,8),some (127,2),none]] 60 [D.acc 1,D.acc 2,D.acc 3,D.acc 4,D.acc 5,D.int .i64 aC.cu] [D.sl (aZ.map aL.c)] [Ob.row .uq 31 4 (aC.rules.map aH.c),Ob.row .uq 3 1 (aC.ends.map jd),Ob.row .uq 124 3 (aC.bU.map aW.c),Ob.row .uq 73 8 (aC.nodes.map Node.c),Ob.row .uq 127 2 (aC.facts.map aL.c)] fun hr dU Γ hΓ=>?_
 rw[j9]at h;obtain⟨y1,h2,h⟩:=aF h;obtain⟨h110,h⟩:=bu h;refine((aT.g (tD h2)).a [.cn [0,1,15,16] [0,1,2,3,4,6]]).lp hΓ (vq hΓ (fun kI h=>?_) (bq h110) aC.bU 0 aC.bU rfl h);obtain⟨h109,h⟩:=bu h;refine(aT.a [.cn [0,1,41,42] [0,1,2,3,4,5]]).lp hΓ (vr hΓ (fun h=>?_) (bq h109) aC.nodes 0 aC.nodes rfl h);cases h
def qe(aC:af)(aZ:ar)(eZ:Int):Option aR:=((ni aC).bind fun y1=>((j9 y1 aZ).bind fun y3=>(some (⟨y3.1.rules,y3.1.ends,y3.1.bU,y3.1.nodes,y3.1.facts,eZ⟩:aR))))
theorem xA{aC:af}{aZ:ar}{eZ:Int}{r:aR}(h:qe aC aZ eZ=some r):Good prog 32 [D.sl (aC.map aH.c),D.sl (aZ.map aL.c),D.int .i64 eZ] (D.agg [D.fr 31 4 (r.rules.map aH.c),D.fr 3 1 (r.ends.map jd),D.fr 124 3 (r.bU.map aW.c),D.fr 73 8 (r.nodes.map Node.c),D.fr 127 2 (r.facts.map aL.c),D.int .i64 r.cu]):=by
 refine gd func32 [[some (31,4),some (3,1),some (124,3),some (73,8),some (127,2),none]] 15 fun hr Γ hΓ=>?_
 rw[qe]at h;obtain⟨y1,h2,h⟩:=aF h;obtain⟨y3,h4,h⟩:=aF h;cases h;exact((aT.g (zy h2)).hp [[some (31,4),some (3,1),some (124,3),some (73,8),some (127,2),none],[none]] (vL h4)).ret hΓ
def gq(aC:af):Option (aR×Bool):=((oY aC).bind fun y1=>(bif !(y1)then(some ((⟨[],[],[],[],[],0⟩:aR),false))else((qe aC ([]) 0).bind fun y4=>(some (y4,true)))))
theorem rF{aC:af}{r:aR×Bool}(h:gq aC=some r):Good prog 13 [D.sl (aC.map aH.c)] (D.iE [D.agg [D.fr 31 4 (r.1.rules.map aH.c),D.fr 3 1 (r.1.ends.map jd),D.fr 124 3 (r.1.bU.map aW.c),D.fr 73 8 (r.1.nodes.map Node.c),D.fr 127 2 (r.1.facts.map aL.c),D.int .i64 r.1.cu],D.bool r.2]):=by
 refine gd func13 [[some (31,4),some (3,1),some (124,3),some (73,8),some (127,2),none],[none]] 10 fun hr Γ hΓ=>?_
 rw[gq]at h;obtain⟨y1,h2,h⟩:=aF h;obtain⟨h3,h⟩|⟨h3,h⟩:=aN h
 ·cases h;exact((aT.g (tq h2)).b h3).ret hΓ
 ·obtain⟨y4,h5,h⟩:=aF h;cases h;exact((((aT.g (tq h2)).b h3).a [.d (D.agg [D.fr 31 4 (y4.rules.map aH.c),D.fr 3 1 (y4.ends.map jd),D.fr 124 3 (y4.bU.map aW.c),D.fr 73 8 (y4.nodes.map Node.c),D.fr 127 2 (y4.facts.map aL.c),D.int .i64 y4.cu])]).w (show Good prog 32 [D.sl (aC.map aH.c),D.sl ([]),D.int .i64 0] (D.agg [D.fr 31 4 (y4.rules.map aH.c),D.fr 3 1 (y4.ends.map jd),D.fr 124 3 (y4.bU.map aW.c),D.fr 73 8 (y4.nodes.map Node.c),D.fr 127 2 (y4.facts.map aL.c),D.int .i64 y4.cu])from by first| (simpa only[bR,bI,bP,eM,dl]using xA h5)|exact xA h5)).ret hΓ
end Go.Cx
namespace Go.Cx
open Go.RowKit Go.Proofs Tryz
theorem Ey{α:Type}{a pre xs:List α}{x:α}(h:a=pre++x::xs):sK a (pre.length:Int)=some x:=by
 unfold sK;have:a[pre.length]?=some x:=by rw[h];simp
 simp[this]
theorem KF{n b:Nat}(hn:n<=1099511627776)(hb:b<=128):room n b=true:=by
 unfold room maxLen;have:n*b<=1099511627776*128:=Nat.mul_le_mul hn hb;simp;omega
theorem mS{α:Type}{w:List α}{c:α->aK}{y:aK}{b:Nat}(h:w.length<1099511627776)(hb:b<=128):room ((w.map c).length+([y]).length) b=true:=KF (by simp;omega) hb
theorem Ta{α β:Type}{w:List α}{v:List β}{c:α->aK}{d:β->aK}{b:Nat}(h:w.length+v.length<=1099511627776)(hb:b<=128):room ((w.map c).length+(v.map d).length) b=true:=KF (by simp;omega) hb
theorem Pa{β:Type}{v:List β}{d:β->aK}{b:Nat}(h:v.length<=1099511627776)(hb:b<=128):room (([]:List aK).length+(v.map d).length) b=true:=KF (by simp;omega) hb
theorem tK{α:Type}{l:List α}(h:l.length<=1099511627776):decide (l.length<=maxLen)=true:=by unfold maxLen;simp;omega
theorem Ir{α β γ:Type}{c:β->aK}{b:Nat}{f:α->Option β}{g:α->β}{L:List α->Nat->List β->Option γ}{k:List β->Option γ}(hb:b<=128)(rM:∀i w,L [] i w=k w)
 (sF:∀x xs i w,L (x::xs) i w=(f x).bind fun y=>bif room ((w.map c).length+([c y]).length) b then L xs (i+1) (w++[y])else none):
 ∀(l:List α) (i:Nat) (w:List β),(∀x∈l,f x=some (g x))->w.length+l.length<=1099511627776->L l i w=k (w++l.map g):=by
 intro l
 induction l with
 |nil=>intro i w _ _;simp[rM]
 |cons x xs ih=>
  intro i w hf hl;simp only[aG]at hl;rw[sF,hf x (by simp),aA,mS (by omega) hb,aa,ih _ _ (fun y hy=>hf y (by simp[hy])) (by simp;omega)];simp
theorem Ro{α:Type}{f:α->Option Bool}{p:α->Bool}{L:List α->Nat->Option Bool}{k:Option Bool}(rM:∀i,L [] i=k)
 (sF:∀x xs i,L (x::xs) i=(f x).bind fun y=>bif !y then some false else L xs (i+1)):∀(l:List α) (i:Nat),(∀x∈l,f x=some (p x))->L l i=bif l.all p then k else some false:=by
 intro l
 induction l with
 |nil=>intro i _;simp[rM]
 |cons x xs ih=>
  intro i hf;rw[sF,hf x (by simp),aA,ih _ (fun y hy=>hf y (by simp[hy])),dD];cases p x<;>simp
theorem s7:∀(a:Bytes),Op.bytesLess a a=false
 | []=>rfl
 |x::a=>by simp[Op.bytesLess,s7 a]
theorem xp:∀ {a b c:Bytes},Op.bytesLess a b=true->Op.bytesLess b c=true->Op.bytesLess a c=true
 | [],b,[],_,h2=>by cases b<;>simp[Op.bytesLess]at h2
 | [],b,_::_,_,_=>by simp[Op.bytesLess]
 |_::_,[],_,h1,_=>by simp[Op.bytesLess]at h1
 |_::_,_::_,[],_,h2=>by simp[Op.bytesLess]at h2
 |x::a,y::b,z::c,h1,h2=>by
  simp only[Op.bytesLess,l6,bO,aX,cR]at h1 h2⊢;rcases h1 with h1|⟨rfl,h1⟩
  ·rcases h2 with h2|⟨rfl,h2⟩
   ·exact .inl (UInt8.lt_trans h1 h2)
   ·exact .inl h1
  ·rcases h2 with h2|⟨rfl,h2⟩
   ·exact .inl h2
   ·exact .inr ⟨rfl,xp h1 h2⟩
theorem GM:∀ {a b:Bytes},Op.bytesLess a b=false->Op.bytesLess b a=false->a=b
 | [],[],_,_=>rfl
 | [],_::_,h,_=>by simp[Op.bytesLess]at h
 |_::_,[],_,h=>by simp[Op.bytesLess]at h
 |x::a,y::b,h1,h2=>by
  simp only[Op.bytesLess,Bool.or_eq_false_iff,rz,Bool.and_eq_false_iff,dK,ne_eq]at h1 h2;have e:x=y:=by
   have h3:=h1.1;have h4:=h2.1;rw[UInt8.lt_iff_toNat_lt]at h3 h4;exact UInt8.toNat_inj.1 (by omega)
  subst e;rw[GM (h1.2.resolve_left (by simp)) (h2.2.resolve_left (by simp))]
theorem Ez{a b:Bytes}(h:Op.bytesLess a b=true):Op.bytesLess b a=false:=by
 cases hb:Op.bytesLess b a with
 |false=>rfl
 |true=>have:=xp h hb;rw[s7]at this;cases this
def SS(l:aE):Prop:=l.Pairwise fun a b=>Op.bytesLess a b=true
theorem GI:∀ {a b:aE},SS a->SS b->(∀x,x∈a↔x∈b)->a=b
 | [],[],_,_,_=>rfl
 | [],y::b,_,_,h=>by have:=(h y).2 (by simp);cases this
 |x::a,[],_,_,h=>by have:=(h x).1 (by simp);cases this
 |x::a,y::b,h1,h2,h=>by
  obtain⟨p1,p2⟩:=jk.1 h1;obtain⟨q1,q2⟩:=jk.1 h2;have e:x=y:=by
   refine GM ?_ ?_
   ·cases hb:Op.bytesLess x y with
    |false=>rfl
    |true=>
     rcases bG.1 ((h x).1 (by simp))with rfl|hx
     ·exact(s7 x▸hb).symm
     ·have:=Ez (q1 x hx);rw[hb]at this;exact this
   ·cases hb:Op.bytesLess y x with
    |false=>rfl
    |true=>
     rcases bG.1 ((h y).2 (by simp))with rfl|hx
     ·exact(s7 y▸hb).symm
     ·have:=Ez (p1 y hx);rw[hb]at this;exact this
  subst e;rw[GI p2 q2 (fun z=>?_)];constructor
  ·intro hz;rcases bG.1 ((h z).1 (by simp[hz]))with rfl|JI
   ·have:=p1 z hz;rw[s7]at this;cases this
   ·exact JI
  ·intro hz;rcases bG.1 ((h z).2 (by simp[hz]))with rfl|JI
   ·have:=q1 z hz;rw[s7]at this;cases this
   ·exact JI
def ua:aE->Bytes->aE
 | [],s=>[s]
 |x::xs,s=>bif Op.bytesLess x s then x::ua xs s else bif x==s then x::xs else s::x::xs
theorem Is:∀ {l:aE} {s y:Bytes},y∈ua l s↔y=s\/y∈l
 | [],s,y=>by simp[ua]
 |x::xs,s,y=>by
  simp only[ua];cases Op.bytesLess x s with
  |true=>simp only[aa,bG,Is (l:=xs)];constructor<;>(rintro(h|h|h)<;>simp[h])
  |false=>
   simp only[ay];cases hx:x==s with
   |true=>
    simp only[cR]at hx;subst hx;simp
   |false=>simp
theorem Pd:∀ {l:aE} {s:Bytes},SS l->SS (ua l s)
 | [],s,_=>by simp[ua,SS]
 |x::xs,s,h=>by
  obtain⟨p1,p2⟩:=jk.1 h;simp only[ua];cases hb:Op.bytesLess x s with
  |true=>
   simp only[aa];refine jk.2 ⟨fun y hy=>?_,Pd p2⟩;rcases Is.1 hy with rfl|hy
   ·exact hb
   ·exact p1 y hy
  |false=>
   simp only[ay];cases hx:x==s with
   |true=>exact h
   |false=>
    have hs:Op.bytesLess s x=true:=by
     cases hc:Op.bytesLess s x with
     |true=>rfl
     |false=>have:=GM hb hc;subst this;simp at hx
    refine jk.2 ⟨fun y hy=>?_,h⟩;rcases bG.1 hy with rfl|hy
    ·exact hs
    ·exact xp hs (p1 y hy)
theorem wK:∀(l:aE) (s:Bytes),(ua l s).length<=l.length+1
 | [],s=>by simp[ua]
 |x::xs,s=>by
  have:=wK xs s;simp only[ua];cases Op.bytesLess x s<;>simp only[aa,ay,aG]
  ·cases x==s<;>simp
  ·omega
def eH(l:aE):aE:=l.foldl ua []
theorem Bo:∀(l a:aE) (y:Bytes),y∈l.foldl ua a↔y∈a\/y∈l
 | [],a,y=>by simp
 |x::l,a,y=>by
  rw[cj,Bo l,Is];simp only[bG];constructor
  ·rintro((h|h)|h)<;>simp[h]
  ·rintro(h|h|h)<;>simp[h]
theorem DT:∀(l:aE) {a:aE},SS a->SS (l.foldl ua a)
 | [],a,h=>h
 |x::l,a,h=>DT l (Pd h)
theorem Bn:∀(l a:aE),(l.foldl ua a).length<=a.length+l.length
 | [],a=>by simp
 |x::l,a=>by
  have h1:=Bn l (ua a x);have h2:=wK a x;rw[cj,aG];omega
theorem qh{l:aE}{y:Bytes}:y∈eH l↔y∈l:=by unfold eH;rw[Bo];simp
theorem J9(l:aE):SS (eH l):=DT l (by simp[SS])
theorem mc(l:aE):(eH l).length<=l.length:=by have:=Bn l [];simpa[eH]using this
theorem C6{a b:aE}(h:∀x,x∈a↔x∈b):eH a=eH b:=GI (J9 a) (J9 b) (fun x=>by rw[qh,qh,h])
theorem Om(a:aE)(x:Bytes):ua (eH a) x=eH (a++[x]):=by simp[eH]
theorem Ol(a b:aE):b.foldl ua (eH a)=eH (a++b):=by simp[eH]
theorem C7(a b:aE):(eH b).foldl ua (eH a)=eH (a++b):=by
 rw[Ol];exact C6 (fun x=>by simp[qh])
theorem kQ(l:aE)(v:Bytes):(eH l).contains v=l.contains v:=by
 rw[bn];simp[qh]
def YA(x:UInt8):Bool:=decide ((x.toNat:Int)>=97)&&decide ((x.toNat:Int)<=122)
def YB(x:UInt8):Bool:=decide ((x.toNat:Int)>=48)&&decide ((x.toNat:Int)<=57)
def ab(x:UInt8):Bool:=YA x||YB x
def Qi(s:Bytes):Bool:=decide ((s.length:Int)>=1)&&decide ((s.length:Int)<=8)
def lm(s:Bytes):Bool:=s.all ab&&Qi s
def WS:Bytes->Bool
 | []=>false
 |x::_=>decide ((x.toNat:Int)>=97)
def wM(s:Bytes):Bool:=lm s&&WS s
def nK:Bytes->Bool
 | []=>false
 |x::t=>decide ((x.toNat:Int)=63)&&lm t
def qD(s:Bytes):Bool:=lm s||nK s
theorem CD{s:Bytes}(h:lm s=true):1<=s.length/\s.length<=8:=by
 simp only[lm,Qi,aX,bO]at h;omega
theorem K8{s:Bytes}(h:wM s=true):1<=s.length/\s.length<=8:=by
 simp only[wM,aX]at h;exact CD h.1
theorem UA{s:Bytes}(h:nK s=true):1<=s.length/\s.length<=9:=by
 cases s with
 |nil=>cases h
 |cons x t=>simp only[nK,aX]at h;have:=CD h.2;simp;omega
theorem R8{s:Bytes}(h:qD s=true):1<=s.length/\s.length<=9:=by
 simp only[qD,l6]at h;rcases h with h|h
 ·have:=CD h;omega
 ·exact UA h
theorem LV{s:Bytes}(h:nK s=true):lm s=false:=by
 cases s with
 |nil=>cases h
 |cons x t=>
  simp only[nK,aX,bO]at h;simp only[lm,dD,ab,YA,YB];have:(x.toNat:Int)=63:=h.1;simp[this]
theorem XB(x:UInt8):IntKind.i64.wrap ((x.toNat:Nat):Int)=(x.toNat:Int):=jO (qY.i64.2 (by have:=x.toNat_lt;omega))
theorem UG{n:Nat}(h:n<=1099511627776):IntKind.i64.wrap ((n:Int)+1)=((n+1:Nat):Int):=by rw[jO (qY.i64.2 (by omega))];omega
theorem X0{n:Nat}(h:1<=n):HY n (some (D.int .i64 1)) none=some (1,n):=by
 unfold HY;have:(0:Int)<=1/\(1:Int).toNat<=n:=⟨by decide,h⟩
 simp only[bM this];rfl
theorem MY(a b c:Int):kU a b c=some (decide (a>=b)&&decide (a<=c)):=by
 unfold kU;cases decide (a>=b)<;>rfl
theorem Ya(a:Bytes)(k:Option Bool)(ha:a.length<=1048576):∀(rest pre:Bytes),a=pre++rest->∀n,rest.length<n->gi a k n (pre.length:Int)=bif rest.all ab then k else some false:=by
 intro rest
 induction rest with
 |nil=>
  intro pre h n hn;obtain⟨m,rfl⟩:∃m,n=m+1:=⟨n-1,by simp at hn;omega⟩
  have e1:decide ((pre.length:Int)<(a.length:Int))=false:=by simp[h]
  rw[gi,e1];rfl
 |cons x xs ih=>
  intro pre h n hn;obtain⟨m,rfl⟩:∃m,n=m+1:=⟨n-1,by simp at hn;omega⟩
  have hl:a.length=pre.length+(xs.length+1):=by rw[h];simp
  have e1:decide ((pre.length:Int)<(a.length:Int))=true:=by rw[hl];simp;omega
  have e4:IntKind.i64.wrap ((pre.length:Int)+1)=((pre++[x]).length:Int):=by rw[UG (by omega)];simp
  have t:=ih (pre++[x]) (by simp[h]) m (by simp at hn;omega);rw[gi,e1,aa,Ey h,aA,XB,MY,MY,aA,aA,e4,t,dD];show(bif !YA x then(bif !YB x then _ else _)else _)=bif (YA x||YB x)&&xs.all ab then k else some false
  cases YA x<;>cases YB x<;>simp
theorem Td(a:Bytes)(ha:a.length<=1048576):nH a=some (lm a):=by
 unfold nH;refine(Ya a _ ha a [] rfl fuel (by unfold fuel;omega)).trans ?_;rw[MY,aA];show _=some (a.all ab&&Qi a);cases a.all ab<;>rfl
theorem Xv(a:Bytes)(k:Option Bool)(ha:a.length<=1048576):∀(rest pre:Bytes),a=pre++rest->∀n,rest.length<n->ew a k n (pre.length:Int)=bif rest.all ab then k else some false:=by
 intro rest
 induction rest with
 |nil=>
  intro pre h n hn;obtain⟨m,rfl⟩:∃m,n=m+1:=⟨n-1,by simp at hn;omega⟩
  have e1:decide ((pre.length:Int)<(a.length:Int))=false:=by simp[h]
  rw[ew,e1];rfl
 |cons x xs ih=>
  intro pre h n hn;obtain⟨m,rfl⟩:∃m,n=m+1:=⟨n-1,by simp at hn;omega⟩
  have hl:a.length=pre.length+(xs.length+1):=by rw[h];simp
  have e1:decide ((pre.length:Int)<(a.length:Int))=true:=by rw[hl];simp;omega
  have e4:IntKind.i64.wrap ((pre.length:Int)+1)=((pre++[x]).length:Int):=by rw[UG (by omega)];simp
  have t:=ih (pre++[x]) (by simp[h]) m (by simp at hn;omega);rw[ew,e1,aa,Ey h,aA,e4,t,dD];have c1:decide ((x.toNat:Int)>=97)= !decide ((x.toNat:Int)<97):=by rw[bn];simp
  have c2:decide ((x.toNat:Int)<=122)= !decide ((x.toNat:Int)>122):=by rw[bn];simp
  have c3:decide ((x.toNat:Int)>=48)= !decide ((x.toNat:Int)<48):=by rw[bn];simp
  have c4:decide ((x.toNat:Int)<=57)= !decide ((x.toNat:Int)>57):=by rw[bn];simp
  rw[ab,YA,YB,c1,c2,c3,c4];cases decide ((x.toNat:Int)<97)<;>cases decide ((x.toNat:Int)>122)<;>cases decide ((x.toNat:Int)<48)<;>cases decide ((x.toNat:Int)>57)<;>simp
theorem H8(a:Bytes)(ha:a.length<=1048576):eO a=some (lm a):=by
 unfold eO;rw[show ew a (some true) fuel 0=_ from Xv a _ ha a [] rfl fuel (by unfold fuel;omega)];have c1:decide ((a.length:Int)>=1)= !decide ((a.length:Int)<1):=by rw[bn];simp
 have c2:decide ((a.length:Int)<=8)= !decide ((a.length:Int)>8):=by rw[bn];simp
 rw[lm,Qi,c1,c2];cases decide ((a.length:Int)<1)<;>cases decide ((a.length:Int)>8)<;>cases a.all ab<;>rfl
theorem X7(a:Bytes)(ha:a.length<=1048576):pS a=some (wM a):=by
 unfold pS;rw[Td a ha,aA,wM];cases h:lm a with
 |false=>rfl
 |true=>
  cases a with
  |nil=>simp[lm,Qi]at h
  |cons x xs=>
   rw[show sK (x::xs) 0=some x from rfl];simp only[aa,aA,XB,MY,pF,ah,WS];simp only[lm,dD,ab,YA,YB,aX,l6,bO]at h;rw[bn];simp only[aX,bO];omega
theorem Sn(a:Bytes)(ha:a.length<=1048576):nF a=some (wM a):=by
 unfold nF;rw[H8 a ha,aA,wM];cases h:lm a with
 |false=>rfl
 |true=>
  cases a with
  |nil=>simp[lm,Qi]at h
  |cons x xs=>rfl
theorem Tq(a:Bytes)(ha:a.length<=1048576):kM a=some (nK a):=by
 unfold kM;cases a with
 |nil=>rfl
 |cons x t=>
  simp only[aG]at ha;rw[show sK (x::t) 0=some x from rfl,aA,X0 (by simp),aA];have e:(((x::t).take ((x::t).length)).drop 1)=t:=by simp
  simp only[e,Td t (by omega),aA,nK,gK];cases t with
  |nil=>cases decide ((x.toNat:Int)=63)<;>rfl
  |cons y t=>
   have e2:decide ((((x::y::t).length:Int):Int)>1)=true:=by simp;omega
   rw[e2];cases decide ((x.toNat:Int)=63)<;>simp
theorem Qc(a:Bytes)(ha:a.length<=1048576):jA a=some (nK a):=by
 unfold jA;cases a with
 |nil=>rfl
 |cons x t=>
  simp only[aG]at ha;rw[show sK (x::t) 0=some x from rfl,aA,X0 (by simp),aA];have e:(((x::t).take ((x::t).length)).drop 1)=t:=by simp
  simp only[e,H8 t (by omega),aA,nK,gK];cases t with
  |nil=>cases decide ((x.toNat:Int)=63)<;>rfl
  |cons y t=>
   have e2:decide ((((x::y::t).length:Int):Int)>1)=true:=by simp;omega
   rw[e2];cases decide ((x.toNat:Int)=63)<;>simp
theorem Tp(a:Bytes)(ha:a.length<=1048576):gY a=some (qD a):=by
 unfold gY qD;rw[Td a ha,Tq a ha];cases lm a<;>simp
theorem Ss(a:Bytes)(ha:a.length<=1048576):gV a=some (qD a):=by
 unfold gV qD;rw[H8 a ha,Qc a ha];cases lm a<;>simp
theorem Yl(l:aE)(h:l.length<=1099511627776):qT l=some l:=by
 unfold qT;rw[Pa h (by decide)];rfl
theorem Kt(l:aE)(h:l.length<=1099511627776):ju l=some l:=by
 unfold ju;rw[Pa h (by decide)];rfl
theorem Yj(a b:aE):mH a b=some (decide (a=b)):=by
 unfold mH;exact RL (c:=tx) (f:=fun x y=>some (x==y)) (fun k=>iD a b k) (fun _ _=>rfl) (fun _ _ _ _=>rfl) (fun x y=>by rw[ah,bn];simp)
theorem Y6(a b:aE):nh a b=some (decide (a=b)):=by
 unfold nh;exact RL (c:=tx) (f:=fun x y=>some (x==y)) (fun k=>jW a b k) (fun _ _=>rfl) (fun _ _ _ _=>rfl) (fun x y=>by rw[ah,bn];simp)
theorem Ti(l:aE)(v:Bytes):fZ l v=some (l.contains v):=by
 unfold fZ;have:∀(r:aE) (i:Nat),hO l v (some false) r i=some (r.contains v):=by
  intro r
  induction r with
  |nil=>intro i;rfl
  |cons x r ih=>
   intro i;rw[hO,ih,List.contains_cons];have:(x==v)=(v==x):=by rw[bn,cR,cR];exact eq_comm
   rw[this];cases v==x<;>rfl
 exact this l 0
theorem VL(l:aE)(v:Bytes):jD l v=some (l.contains v):=by
 unfold jD;have:∀(r:aE) (i:Nat),jE l v (some false) r i=some (r.contains v):=by
  intro r
  induction r with
  |nil=>intro i;rfl
  |cons x r ih=>
   intro i;rw[jE,ih,List.contains_cons];have:(x==v)=(v==x):=by rw[bn,cR,cR];exact eq_comm
   rw[this];cases v==x<;>rfl
 exact this l 0
theorem X8(a:aE)(s:Bytes)(k:Bool->aE->Option aE):∀(l:aE) (i:Nat) (w:aE),w.length+l.length<1099511627776->
 dS a s k l i true w=k true (w++l):=by
 intro l
 induction l with
 |nil=>intro i w _;simp[dS]
 |cons x xs ih=>
  intro i w h;simp only[aG]at h;rw[dS,c8,ay,mS (by omega) (by decide),aa,ih _ _ (by simp;omega)];simp
theorem a0d(a:aE)(s:Bytes)(k:Bool->aE->Option aE)(hk:∀w,w.length<1099511627776->k false w=some (w++[s]))(hk2:∀w,k true w=some w):∀(l:aE) (i:Nat) (w:aE),w.length+l.length+1<1099511627776->
 dS a s k l i false w=some (w++ua l s):=by
 intro l
 induction l with
 |nil=>intro i w h;rw[dS,hk w (by omega)];rfl
 |cons x xs ih=>
  intro i w h;simp only[aG]at h;rw[dS,j6,aa,ua];cases Op.bytesLess x s with
  |true=>
   simp only[c8,ay,aa];rw[mS (by omega) (by decide),aa,ih _ _ (by simp;omega)];simp
  |false=>
   simp only[j6,aa,ay];cases x==s with
   |true=>
    simp only[c8,ay,aa];rw[mS (by omega) (by decide),aa,X8 _ _ _ _ _ _ (by simp;omega),hk2];simp
   |false=>
    simp only[j6,aa,ay];rw[mS (by omega) (by decide),aa];have e:room (((w.map tx)++[[D.str s]]).length+([[D.str x]]).length) 16=true:=KF (by simp;omega) (by decide);rw[e,aa,X8 _ _ _ _ _ _ (by simp;omega),hk2];simp
theorem OZ(l:aE)(s:Bytes)(h:l.length+1<1099511627776):jJ l s=some (ua l s):=by
 unfold jJ;rw[a0d l s _ (fun w hw=>by simp only[j6,aa];rw[mS hw (by decide)];rfl) (fun w=>by simp) l 0 [] (by simpa using h)];rfl
def dd:Option Bytes->aE->aE
 |_,[]=>[]
 |p,x::xs=>if p=some x then dd (some x) xs else x::dd (some x) xs
theorem Ng:∀ {l:aE} {p:Option Bytes} {y:Bytes},y∈dd p l->y∈l
 | [],p,y,h=>by cases h
 |x::xs,p,y,h=>by
  simp only[dd]at h;split at h
  ·exact bG.2 (.inr (Ng h))
  ·rcases bG.1 h with rfl|h
   ·simp
   ·exact bG.2 (.inr (Ng h))
theorem TA:∀ {l:aE} {p:Option Bytes} {y:Bytes},y∈l->p=some y\/y∈dd p l
 |x::xs,p,y,h=>by
  simp only[dd];rcases bG.1 h with rfl|h
  ·by_cases hp:p=some y
   ·exact .inl hp
   ·rw[b9 hp];exact .inr (by simp)
  ·have:=TA (p:=some x) h;split
   ·rename_i hp;rcases this with e|e
    ·exact .inl (hp.trans e)
    ·exact .inr e
   ·rcases this with e|e
    ·cases e;exact .inr (by simp)
    ·exact .inr (by simp[e])
theorem WM:∀ {l:aE} {p:Option Bytes},l.Pairwise (fun a b=>Op.bytesLess b a=false)->(∀q,p=some q->∀y∈l,Op.bytesLess y q=false)->SS (dd p l)/\∀q,p=some q->∀y∈dd p l,Op.bytesLess q y=true
 | [],p,_,_=>⟨by simp[dd,SS],by simp[dd]⟩
 |x::xs,p,h,hp=>by
  obtain⟨p1,p2⟩:=jk.1 h;obtain⟨i1,i2⟩:=WM (l:=xs) (p:=some x) p2 (fun q hq y hy=>by cases hq;exact p1 y hy);simp only[dd];split
  ·rename_i he;exact⟨i1,fun q hq y hy=>by rw[he]at hq;cases hq;exact i2 x rfl y hy⟩
  ·rename_i he;refine⟨jk.2 ⟨fun y hy=>i2 x rfl y hy,i1⟩,fun q hq y hy=>?_⟩;have hqx:Op.bytesLess q x=true:=by
    cases hc:Op.bytesLess q x with
    |true=>rfl
    |false=>exact absurd (by rw[hq,GM hc (hp q hq x (by simp))]) he
   rcases bG.1 hy with rfl|hy
   ·exact hqx
   ·exact xp hqx (i2 x rfl y hy)
theorem Tw(l:aE):kz l=l.mergeSort (fun x y=> !Op.bytesLess y x):=by
 unfold kz
 congr 1
 funext x y
 rw[Go.Proofs.bytesLess_eq];rw[bn];simp[List.not_lt]
theorem LL(l:aE):(kz l).Pairwise (fun a b=>Op.bytesLess b a=false):=by
 rw[Tw];have:=List.pairwise_mergeSort (le:=fun x y=> !Op.bytesLess y x) (fun a b c h1 h2=>by
  simp only[me]at h1 h2⊢;cases hc:Op.bytesLess c a with
  |false=>rfl
  |true=>
   cases hb:Op.bytesLess b a with
   |true=>rw[h1]at hb;cases hb
   |false=>
    cases NN:Op.bytesLess a b with
    |true=>have:=xp hc NN;rw[h2]at this;cases this
    |false=>have:=GM hb NN;subst this;rw[h2]at hc;cases hc) (fun a b=>by
  cases hc:Op.bytesLess b a with
  |false=>simp
  |true=>simp[Ez hc]) l
 exact this.imp (fun h=>by simpa using h)
theorem V2(l:aE):dd none (kz l)=eH l:=by
 refine GI (WM (LL l) (by simp)).1 (J9 l) (fun x=>?_);rw[qh];have hm:x∈kz l↔x∈l:=(wT l).mem_iff;constructor
 ·intro h;exact hm.1 (Ng h)
 ·intro h;rcases TA (p:=none) (hm.2 h)with h|h
  ·cases h
  ·exact h
theorem Sr(a:aE)(k:aE->Option aE)(ha:a.length<=1099511627775):∀(rest pre:aE) (w:aE),kz ([]++a)=pre++rest->w.length+rest.length<=1099511627775->
 dF a k rest pre.length w=k (w++dd pre.getLast? rest):=by
 have hlen:(kz ([]++a)).length=a.length:=(wT _).length_eq;intro rest
 induction rest with
 |nil=>intro pre w _ _;simp[dF,dd]
 |cons x xs ih=>
  intro pre w h hw;simp only[aG]at hw;have hl:pre.length+(xs.length+1)=a.length:=by rw[<-hlen,h];simp
  have t:=fun w'=>ih (pre++[x]) w' (by rw[h];simp)
  simp only[aM,aG,b8,qH]at t;rw[dF];rcases ze pre with rfl|⟨p,z,Xm⟩
  ·have e0:(((([]:aE).length:Int):Int)==0)=true:=rfl;rw[e0,aa,mS (by omega) (by decide),aa,t _ (by simp;omega)];simp[dd]
  ·rw[zc]at Xm;subst Xm;have e0:((((p++[z]).length:Int):Int)==0)=false:=by simp;omega
   have e1:IntKind.i64.wrap (((p++[z]).length:Int)-1)=(p.length:Int):=by
    rw[jO (qY.i64.2 (by simp at hl⊢;omega))];simp
   have e2:sK (kz ([]++a)) (p.length:Int)=some z:=Ey (xs:=x::xs) (by rw[h];simp);rw[e0,ay,e1,e2,aA];simp only[dd,qH];by_cases hz:z=x
   ·subst hz;have e3:((z:Bytes)==z)=true:=by simp
    rw[e3,c8,ay,t _ (by omega),bM rfl]
   ·have e3:((z:Bytes)==x)=false:=by simpa using hz
    rw[e3,j6,aa,mS (by omega) (by decide),aa,t _ (by simp;omega),b9 (by simpa using hz)];simp
theorem Ks(l:aE)(h:l.length<1099511627775):iI l=some (eH l):=by
 have hlen:(kz ([]++l)).length=l.length:=(wT _).length_eq;unfold iI;have e1:decide ((([]:aE)++l).length<4611686018427387904)=true:=by simp;omega
 rw[Pa (by omega) (by decide),aa,e1,aa,tK (by rw[hlen];omega),aa];have:=Sr l (fun q=>some q) (by omega) (kz ([]++l)) [] [] rfl (by rw[hlen];simp;omega);rw[show([]:aE).length=0 from rfl]at this;rw[this,<-V2];simp
end Go.Cx
namespace Go.Cx
open Go.RowKit Go.Proofs Tryz
theorem aL.OU{p:aL}{n:Nat}(h:p.wt<=n):p.rel.length<=n:=by unfold aL.wt tw at h;omega
theorem aL.ga{p:aL}{n:Nat}(h:p.wt<=n):p.args.length<=n:=by unfold aL.wt at h;have:=oQ tw p.args;omega
theorem aL.rU{p:aL}{n:Nat}(h:p.wt<=n){x:Bytes}(hx:x∈p.args):x.length<=n:=by unfold aL.wt at h;have:=qE (w:=tw) hx;have e:tw x=x.length:=rfl;omega
theorem aI.fT{c:aI}{n:Nat}(h:c.wt<=n):c.pat.wt<=n:=by simp only[aI.wt,aL.wt]at h⊢;omega
theorem aI.zH{c:aI}{n:Nat}(h:c.wt<=n):c.left.length<=n:=by simp only[aI.wt,tw]at h;omega
theorem aI.wS{c:aI}{n:Nat}(h:c.wt<=n):c.right.length<=n:=by simp only[aI.wt,tw]at h;omega
theorem Action.fT{c:Action}{n:Nat}(h:c.wt<=n):c.pat.wt<=n:=by simp only[Action.wt,aL.wt]at h⊢;omega
theorem aH.PU{r:aH}{n:Nat}(h:r.wt<=n):r.name.length<=n:=by simp only[aH.wt,tw]at h;omega
theorem aH.oW{r:aH}{n:Nat}(h:r.wt<=n):qB aI.wt r.conds<=n:=by simp only[aH.wt]at h;omega
theorem aH.Eu{r:aH}{n:Nat}(h:r.wt<=n):qB Action.wt r.cc<=n:=by simp only[aH.wt]at h;omega
theorem aH.nN{r:aH}{n:Nat}(h:r.wt<=n){c:aI}(hc:c∈r.conds):c.wt<=n:=by have:=aH.oW h;have:=qE (w:=aI.wt) hc;omega
theorem aH.Ka{r:aH}{n:Nat}(h:r.wt<=n){c:Action}(hc:c∈r.cc):c.wt<=n:=by have:=aH.Eu h;have:=qE (w:=Action.wt) hc;omega
theorem OA(f:aL)(h:f.args.length<=1099511627776):gX f=some f:=by
 unfold gX;rw[Kt _ h];rfl
theorem To(a b:aL):kC a b=some (decide (a=b)):=by
 obtain⟨a0,a1⟩:=a;obtain⟨b0,b1⟩:=b;unfold kC;simp only[Yj,aA,gK];by_cases h0:a0=b0<;>by_cases h1:a1=b1<;>simp[h0,h1]
theorem Sq(a b:aL):js a b=some (decide (a=b)):=by
 obtain⟨a0,a1⟩:=a;obtain⟨b0,b1⟩:=b;unfold js;simp only[Y6,aA,gK];by_cases h0:a0=b0<;>by_cases h1:a1=b1<;>simp[h0,h1]
def C2(p:aL):Bool:=p.args.all qD&&(wM p.rel&&decide ((p.args.length:Int)<=3))
def Bj(f:aL):Bool:=f.args.all lm&&(wM f.rel&&decide ((f.args.length:Int)<=3))
theorem Zz(f:aL)(h:f.wt<=1048576):rG f=some (Bj f):=by
 unfold rG;rw[Ro (f:=eO) (L:=lU f _) (fun _=>rfl) (fun _ _ _=>rfl) f.args 0 (fun x hx=>H8 x (aL.rU h hx)),Sn _ (aL.OU h),aA,ai,Bj];have c:decide ((f.args.length:Int)<=3)= !decide ((f.args.length:Int)>3):=by rw[bn];simp
 rw[c];cases f.args.all lm<;>cases wM f.rel<;>cases decide ((f.args.length:Int)>3)<;>rfl
theorem a0c(f:aL)(h:f.wt<=1048576):iq f=some (C2 f):=by
 unfold iq;rw[Ro (f:=gY) (L:=jb f _) (fun _=>rfl) (fun _ _ _=>rfl) f.args 0 (fun x hx=>Tp x (aL.rU h hx)),X7 _ (aL.OU h),aA,ai,C2];cases f.args.all qD<;>cases wM f.rel<;>rfl
theorem Y3(f:aL)(h:f.wt<=1048576):gb f=some (C2 f):=by
 unfold gb;rw[Ro (f:=gV) (L:=jS f _) (fun _=>rfl) (fun _ _ _=>rfl) f.args 0 (fun x hx=>Ss x (aL.rU h hx)),Sn _ (aL.OU h),aA,ai,C2];have c:decide ((f.args.length:Int)<=3)= !decide ((f.args.length:Int)>3):=by rw[bn];simp
 rw[c];cases f.args.all qD<;>cases wM f.rel<;>cases decide ((f.args.length:Int)>3)<;>rfl
def gl(l:aE):aE:=l.filter nK
theorem sH(l:aE):(gl l).length<=l.length:=sw _ _
theorem KL(a b:aE):gl (a++b)=gl a++gl b:=List.filter_append _ _
theorem G0(p:aL)(h:p.wt<=1048576):kN p=some (eH (gl p.args)):=by
 unfold kN;have:∀(r:aE) (i:Nat) (w:aE),(∀x∈r,x.length<=1048576)->w.length+r.length<=2097152->iy p (fun q=>some q) r i w=some ((gl r).foldl ua w):=by
  intro r
  induction r with
  |nil=>intro i w _ _;rfl
  |cons x r ih=>
   intro i w hr hw;simp only[aG]at hw;have hl:=wK w x;rw[iy,Tq x (hr x (by simp)),aA,OZ w x (by omega),aA,ih _ _ (fun y hy=>hr y (by simp[hy])) (by omega),ih _ _ (fun y hy=>hr y (by simp[hy])) (by omega)];cases hv:nK x<;>simp[gl,hv]
 exact this p.args 0 [] (fun x hx=>aL.rU h hx) (by have:=aL.ga h;simp;omega)
theorem Sv(l:aE)(hl:l.length<=2097152)(h:∀x∈l,x.length<=1048576):jv l=some (gl l):=by
 unfold jv;have:∀(r:aE) (i:Nat) (w:aE),(∀x∈r,x.length<=1048576)->w.length+r.length<=2097152->eb l (fun q=>some q) r i w=some (w++gl r):=by
  intro r
  induction r with
  |nil=>intro i w _ _;simp[eb,gl]
  |cons x r ih=>
   intro i w hr hw;simp only[aG]at hw;rw[eb,Qc x (hr x (by simp)),aA,mS (by omega) (by decide),ih _ _ (fun y hy=>hr y (by simp[hy])) (by simp;omega),ih _ _ (fun y hy=>hr y (by simp[hy])) (by omega)];cases hv:nK x<;>simp[gl,hv]
 exact this l 0 [] h (by simpa using hl)
def mj(c:aI):aE:=gl (c.pat.args++[c.left,c.right])
theorem tQ{c:aI}{n:Nat}(h:c.wt<=n):(mj c).length<=n+2:=by
 have h1:=sH (c.pat.args++[c.left,c.right]);have h2:=aL.ga (aI.fT h);simp only[aM,aG,b8]at h1;unfold mj;omega
theorem OY(c:aI)(h:c.wt<=1048576):jc c=some (eH (mj c)):=by
 unfold jc;have h1:=aL.ga (aI.fT h);have h2:=mc (gl c.pat.args);have h3:=sH c.pat.args;have h4:=wK (eH (gl c.pat.args)) c.left;rw[G0 _ (aI.fT h),aA,Tq _ (aI.zH h),aA,Tq _ (aI.wS h)];simp only[aA];rw[OZ _ _ (by omega),OZ _ _ (by omega),aA,OZ _ _ (by omega)];simp only[aA,mj,KL,Om];cases hl:nK c.left<;>cases hr:nK c.right<;>simp[gl,hl,hr]
theorem Su(c:aI)(h:c.wt<=1048576):nj c=some (c.pat.args++[c.left,c.right]):=by
 unfold nj;have h1:=aL.ga (aI.fT h);rw[Kt _ (by omega),aA];rw[KF (by simp;omega) (by decide)];rfl
theorem O8(c:aI)(h:c.wt<=1048576):l7 c=some (eH (mj c)):=by
 unfold l7;have h1:=aL.ga (aI.fT h);have h5:=tQ h;rw[Su c h,aA,Sv _ (by simp;omega) (fun x hx=>by
  simp only[aU,bG,tO,or_false]at hx;rcases hx with hx|rfl|rfl
  ·exact aL.rU (aI.fT h) hx
  ·exact aI.zH h
  ·exact aI.wS h),aA]
 rw[show gl (c.pat.args++[c.left,c.right])=mj c from rfl,Ks _ (by omega)];rfl
def CA(p:aL):Bool:=p.rel==[]&&decide ((p.args.length:Int)=0)
def oG(c:aI):Bool:=bif decide (c.kind=1)||decide (c.kind=2)then C2 c.pat&&(c.left==[]&&c.right==[])else bif decide (c.kind=3)||decide (c.kind=4)||decide (c.kind=5)then CA c.pat&&(qD c.left&&qD c.right)else false
def HI(c:aI):Bool:=oG c&&decide (c.kind>=3)
theorem Df{c:aI}(h:oG c=true):1<=c.kind/\c.kind<=5:=by
 unfold oG at h;by_cases h1:c.kind=1
 ·omega
 by_cases h2:c.kind=2
 ·omega
 by_cases h3:c.kind=3
 ·omega
 by_cases h4:c.kind=4
 ·omega
 by_cases h5:c.kind=5
 ·omega
 simp[h1,h2,h3,h4,h5]at h
theorem X5(c:aI)(h:c.wt<=1048576):pR c=some (oG c):=by
 unfold pR oG CA;simp only[a0c _ (aI.fT h),Tp _ (aI.zH h),Tp _ (aI.wS h),aA,ai,gK];by_cases h1:c.kind=1
 ·simp only[h1];cases C2 c.pat<;>cases decide (c.left=[])<;>simp
 by_cases h2:c.kind=2
 ·simp only[h2];cases C2 c.pat<;>cases decide (c.left=[])<;>simp
 by_cases h3:c.kind=3
 ·simp only[h3];cases decide (c.pat.rel=[])<;>cases decide ((c.pat.args.length:Int)=0)<;>cases qD c.left<;>simp
 by_cases h4:c.kind=4
 ·simp only[h4];cases decide (c.pat.rel=[])<;>cases decide ((c.pat.args.length:Int)=0)<;>cases qD c.left<;>simp
 by_cases h5:c.kind=5
 ·simp only[h5];cases decide (c.pat.rel=[])<;>cases decide ((c.pat.args.length:Int)=0)<;>cases qD c.left<;>simp
 simp[h1,h2,h3,h4,h5]
theorem WY(p:aL):gN p=some (CA p):=by
 unfold gN CA;simp only[ai,gK];cases decide (p.rel=[])<;>rfl
theorem Sj(c:aI)(h:c.wt<=1048576):nE c=some (oG c):=by
 unfold nE oG;simp only[Y3 _ (aI.fT h),Ss _ (aI.zH h),Ss _ (aI.wS h),WY,aA,gK];by_cases h1:c.kind=1
 ·simp only[h1];cases C2 c.pat<;>cases decide (c.left=[])<;>simp
 by_cases h2:c.kind=2
 ·simp only[h2];cases C2 c.pat<;>cases decide (c.left=[])<;>simp
 by_cases h3:c.kind=3
 ·simp only[h3];cases CA c.pat<;>cases qD c.left<;>cases qD c.right<;>simp
 by_cases h4:c.kind=4
 ·simp only[h4];cases CA c.pat<;>cases qD c.left<;>cases qD c.right<;>simp
 by_cases h5:c.kind=5
 ·simp only[h5];cases CA c.pat<;>cases qD c.left<;>cases qD c.right<;>simp
 simp[h1,h2,h3,h4,h5]
theorem X9(c:aI)(h:c.wt<=1048576):pT c=some (HI c):=by
 unfold pT HI;rw[X5 c h];cases oG c<;>rfl
theorem a0B(c:aI)(h:c.wt<=1048576):rI c=some (HI c):=by
 unfold rI HI;rw[Sj c h];cases oG c<;>rfl
theorem Yi(a b:aI):oz a b=some (decide (a=b)):=by
 obtain⟨a0,a1,a2,a3⟩:=a;obtain⟨b0,b1,b2,b3⟩:=b;unfold oz;simp only[To,aA,gK];by_cases h0:a0=b0<;>by_cases h1:a1=b1<;>by_cases h2:a2=b2<;>by_cases h3:a3=b3<;>simp[h0,h1,h2,h3]
theorem Y5(a b:aI):oc a b=some (decide (a=b)):=by
 obtain⟨a0,a1,a2,a3⟩:=a;obtain⟨b0,b1,b2,b3⟩:=b;unfold oc;simp only[Sq,aA,gK];by_cases h0:a0=b0<;>by_cases h1:a1=b1<;>by_cases h2:a2=b2<;>by_cases h3:a3=b3<;>simp[h0,h1,h2,h3]
def I5(a:Action):Bool:=bif decide (a.kind=1)||decide (a.kind=2)then C2 a.pat else bif decide (a.kind=3)then CA a.pat else false
theorem a2w(a:Action)(h:a.wt<=1048576):ou a=some (I5 a):=by
 unfold ou I5 CA;simp only[a0c _ (Action.fT h),aA,ai,gK];by_cases h1:a.kind=1
 ·simp[h1]
 by_cases h2:a.kind=2
 ·simp[h2]
 by_cases h3:a.kind=3
 ·simp only[h3];cases decide (a.pat.rel=[])<;>simp
 simp[h1,h2,h3]
theorem a2d(a:Action)(h:a.wt<=1048576):oa a=some (I5 a):=by
 unfold oa I5;simp only[Y3 _ (Action.fT h),WY,aA,gK];by_cases h1:a.kind=1
 ·simp[h1]
 by_cases h2:a.kind=2
 ·simp[h2]
 by_cases h3:a.kind=3
 ·simp[h3]
 simp[h1,h2,h3]
end Go.Cx
namespace Go.Cx
open Go.RowKit Go.Proofs Tryz
theorem Ve:∀(k v:Nat),v<10^k->1<=k->Lib.nDigits v<=k:=by
 intro k
 induction k with
 |zero=>intro v _ h;omega
 |succ k ih=>
  intro v hv _;by_cases h10:v<10
  ·rw[Lib.nDigits_small h10];omega
  ·rw[Lib.nDigits_big h10];have h3:v/10<10^k:=by rw[yZ]at hv;omega
   have hk1:1<=k:=by
    cases k with
    |zero=>simp at hv;omega
    |succ k=>omega
   have:=ih (v/10) h3 hk1;omega
theorem OL{u:Nat}(h:u<=9223372036854775808):Lib.nDigits u<=19:=Ve 19 u (by omega) (by omega)
theorem a1U(u:Nat):UInt8.ofNat (IntKind.u8.wrap (IntKind.i64.wrap (48+((u:Int)%10)))).toNat=UInt8.ofNat (48+u%10):=by
 rw[jO (k:=.i64) (qY.i64.2 (by omega)),jO (qY.u8.2 (by omega))]
 congr 1
theorem X6(k:Option Bytes):∀(n u:Nat) (acc:Bytes),Lib.nDigits u<=n->acc.length+Lib.nDigits u<=1000->gD k n (u:Int) acc=some (Lib.decDigits u++acc):=by
 intro n
 induction n with
 |zero=>intro u acc h _;have:=Lib.nDigits_pos u;omega
 |succ n ih=>
  intro u acc hn hl;have hp:=Lib.nDigits_pos u;have e0:(decide (0<=(u:Int))&&decide (0<(10:Int)))=true:=by simp
  have e1:decide (([UInt8.ofNat (48+u%10)]:Bytes).length+(acc:Bytes).length<=maxLen)=true:=by unfold maxLen;simp;omega
  rw[gD];simp only[a1U,e0,e1,aa];by_cases h10:u<10
  ·have e2:(((u:Int)/10:Int)==0)=true:=by rw[cR];omega
   rw[e2,aa,Lib.decDigits,dif_pos h10,Nat.mod_eq_of_lt h10]
  ·have e2:(((u:Int)/10:Int)==0)=false:=by rw[dK];omega
   have e3:((u:Int)/10)=((u/10:Nat):Int):=by omega
   have hd:=Lib.nDigits_big h10;rw[e2,ay,e3,ih (u/10) _ (by omega) (by simp;omega)]
   conv=>rhs;rw[Lib.decDigits,dif_neg h10]
   simp
theorem a0b(m u:Nat)(h:u<=9223372036854775807):fR (m+1) (u:Int)=some (Lib.decDigits u):=by
 rw[fR];have e1:((u:Int)==(-9223372036854775808))=false:=by rw[dK];omega
 have e2:decide ((u:Int)<0)=false:=by simp
 have:=OL (u:=u) (by omega);rw[e1,ay,e2,ay,X6 _ _ _ _ (by unfold fuel;omega) (by simp;omega)];simp
theorem Sx:Lib.itoa (-9223372036854775808)=[45,57,50,50,51,51,55,50,48,51,54,56,53,52,55,55,53,56,48,56]:=by
 unfold Lib.itoa;simp[Lib.decDigits]
theorem a30(n:Int)(h:qY .i64 n):qf n=some (Lib.itoa n):=by
 have h:=qY.i64.1 h;unfold qf;rw[show fuel=4194303+1 from rfl,fR];by_cases hm:n= -9223372036854775808
 ·subst hm;rw[Sx];rfl
 have e1:((n:Int)==(-9223372036854775808))=false:=by rw[dK];exact hm
 rw[e1,ay];by_cases hn:n<0
 ·have e2:decide (n<0)=true:=by simpa using hn
  have e3:IntKind.i64.wrap (0-n)=((n.natAbs:Nat):Int):=by rw[jO (qY.i64.2 (by omega))];omega
  have hd:=OL (u:=n.natAbs) (by omega);rw[e2,aa,e3,show(4194303:Nat)=4194302+1 from rfl,a0b _ _ (by omega),aA];have e4:decide (([45]:Bytes).length+(Lib.decDigits n.natAbs:Bytes).length<=maxLen)=true:=by unfold maxLen;rw[Lib.decDigits_length];simp;omega
  rw[e4,aa];unfold Lib.itoa;rw[bM hn];rfl
 ·have e2:decide (n<0)=false:=by simpa using hn
  have e3:n=((n.toNat:Nat):Int):=by omega
  have:=OL (u:=n.toNat) (by omega);rw[e2,ay]
  conv=>lhs;rw[e3]
  rw[X6 _ _ _ _ (by unfold fuel;omega) (by simp;omega)];unfold Lib.itoa;rw[b9 hn];simp
theorem Y1(n:Int):iW n=some (Lib.itoa n):=by
 unfold iW wG;rfl
theorem Ih(n:Int)(h:qY .i64 n):(Lib.itoa n).length<=21:=by
 have:=qY.i64.1 h;exact Lib.itoa_length_le n this.1 this.2
def CH(to:aQ)(s:Bytes):Bytes:=match to with
 | []=>s
 |p::r=>bif p.var==s then p.value else CH r s
def J7(to:aQ)(x:aI):aI:=⟨x.kind,⟨x.pat.rel,x.pat.args.map (CH to)⟩,CH to x.left,CH to x.right⟩
theorem sRn(to:aQ)(s:Bytes):iz s to=some (CH to s):=by
 unfold iz;have:∀(r:aQ) (i:Nat),hY s to (some s) r i=some (CH r s):=by
  intro r
  induction r with
  |nil=>intro i;rfl
  |cons x r ih=>
   intro i;rw[hY,ih,CH];cases x.var==s<;>rfl
 exact this to 0
theorem iRn(to:aQ)(s:Bytes):gM s to=some (CH to s):=by
 unfold gM;have:∀(r:aQ) (i:Nat),gC s to (some s) r i=some (CH r s):=by
  intro r
  induction r with
  |nil=>intro i;rfl
  |cons x r ih=>
   intro i;rw[gC,ih,CH];cases x.var==s<;>rfl
 exact this to 0
theorem Yg(x:aI)(to:aQ)(h:x.pat.args.length<=1099511627770):iA x to=some (J7 to x):=by
 unfold iA;rw[sRn,aA,sRn,aA];rw[Ir (c:=tx) (b:=16) (f:=fun a=>iz a to) (g:=CH to) (L:=iw x to (CH to x.left) (CH to x.right) _) (k:=_) (by decide) (fun _ _=>rfl) (fun _ _ _ _=>rfl) _ _ _ (fun a _=>sRn to a) (by simp;omega)];rfl
theorem a07(x:aI)(to:aQ)(h:x.pat.args.length<=1099511627770):jB x to=some (J7 to x):=by
 unfold jB;rw[iRn,aA,iRn,aA];rw[Ir (c:=tx) (b:=16) (f:=fun a=>gM a to) (g:=CH to) (L:=ic x to (CH to x.left) (CH to x.right) _) (k:=_) (by decide) (fun _ _=>rfl) (fun _ _ _ _=>rfl) _ _ _ (fun a _=>iRn to a) (by simp;omega)];rfl
def Bp(l:aQ)(t:Bytes):Bool:=l.any fun p=>p.var==t
def jM(l:aQ)(t:Bytes):aQ:=bif nK t&& !Bp l t then l++[⟨t,[63]++Lib.itoa ((l.length:Int)+1)⟩]else l
theorem yN(l:aQ)(t:Bytes):(jM l t).length<=l.length+1:=by
 unfold jM;cases nK t&& !Bp l t<;>simp
theorem uX:∀(ts:aE) (l:aQ),(ts.foldl jM l).length<=l.length+ts.length
 | [],l=>by simp
 |t::ts,l=>by
  have h1:=uX ts (jM l t);have h2:=yN l t;rw[cj,aG];omega
theorem LH(l:aQ)(t:Bytes)(hl:l.length<=1099511627770)(ht:t.length<=1048576):lQ l t=some (jM l t):=by
 unfold lQ;rw[Tq t ht,aA,jM];cases hv:nK t with
 |false=>rfl
 |true=>
  rw[c8,ay,pF];have key:∀(k:Option aQ) (r:aQ) (i:Nat),kH l t k r i=bif Bp r t then some l else k:=by
   intro k r
   induction r with
   |nil=>intro i;rfl
   |cons x r ih=>
    intro i;rw[kH,ih];simp only[Bp,xF];cases x.var==t<;>simp
  rw[key];cases Bp l t with
  |true=>rfl
  |false=>
   have e1:IntKind.i64.wrap (((l.map aS.c).length:Int)+1)=(l.length:Int)+1:=by rw[jO (qY.i64.2 (by simp;omega))];simp
   have hr:qY .i64 ((l.length:Int)+1):=qY.i64.2 (by omega);have hi:=Ih _ hr;have e2:decide (([63]:Bytes).length+(Lib.itoa ((l.length:Int)+1):Bytes).length<=maxLen)=true:=by unfold maxLen;simp;omega
   simp only[ay,j6,aa];rw[e1,a30 _ hr,aA,e2,aa,mS (by omega) (by decide)];rfl
theorem Mf(x y:Bytes):∀(m:List (Bytes×Bool)),Fl false y (Ip x true m)=(y==x||Fl false y m)
 | []=>by simp only[Ip,Fl];cases y==x<;>rfl
 |p::m=>by
  simp only[Ip];cases h:x==p.1 with
  |true=>
   have h':x=p.1:=by simpa using h
   subst h';simp only[aa,Fl];cases y==p.1<;>simp
  |false=>
   simp only[ay,Fl,Mf x y m];cases hy:y==p.1 with
   |true=>
    have h1:y=p.1:=by simpa using hy
    have h2:(y==x)=false:=by
     rw[dK]at h⊢;intro e;exact h (e.symm.trans h1)
    simp[h2]
   |false=>simp
theorem QU(l:aQ)(x y v:Bytes):Bp (l++[⟨x,v⟩]) y=(y==x||Bp l y):=by
 have:(x==y)=(y==x):=by rw[bn,cR,cR];exact eq_comm
 simp only[Bp,List.any_append,xF,El,rD,this];cases y==x<;>simp
theorem PS(ts:aE)(hl:ts.length<=1099511627700)(h:∀x∈ts,x.length<=1048576):kZ ts=some (ts.foldl jM []):=by
 unfold kZ;have key:∀(r:aE) (i:Nat) (w:aQ) (m:List (Bytes×Bool)),(∀x∈r,x.length<=1048576)->w.length+r.length<=1099511627700->(∀y,Fl false y m=Bp w y)->
  eG ts (fun q=>some q) r i w m=some (r.foldl jM w):=by
  intro r
  induction r with
  |nil=>intro i w m _ _ _;rfl
  |cons x r ih=>
   intro i w m hx hw hm;simp only[aG]at hw;have hr:qY .i64 ((w.length:Int)+1):=qY.i64.2 (by omega);have hi:=Ih _ hr;have e1:IntKind.i64.wrap (((w.map aS.c).length:Int)+1)=(w.length:Int)+1:=by rw[jO (qY.i64.2 (by simp;omega))];simp
   have e2:decide (([63]:Bytes).length+(Lib.itoa ((w.length:Int)+1):Bytes).length<=maxLen)=true:=by unfold maxLen;simp;omega
   rw[eG,Qc x (hx x (by simp)),aA,cj,jM,hm x];cases hv:nK x with
   |false=>simp only[ay,Bool.false_and];exact ih _ _ _ (fun y hy=>hx y (by simp[hy])) (by omega) hm
   |true=>
    cases hh:Bp w x with
    |true=>simp only[aa,c8,ay,pF];exact ih _ _ _ (fun y hy=>hx y (by simp[hy])) (by omega) hm
    |false=>
     simp only[aa,j6,pF];rw[e1,Y1,aA,e2,aa,mS (by omega) (by decide),aa];exact ih _ _ _ (fun y hy=>hx y (by simp[hy])) (by simp;omega) (fun y=>by rw[Mf,QU,hm])
 exact key ts 0 [] [] h (by simpa using hl) (fun y=>rfl)
def Ef(p:aL):aL:=(J7 (p.args.foldl jM []) ⟨0,p,[],[]⟩).pat
theorem Yk(p:aL)(h:p.wt<=1048576):oB p=some (Ef p):=by
 have hl:=aL.ga h;unfold oB;have key:∀(k:aQ->Option aL) (r:aE) (i:Nat) (w:aQ),(∀x∈r,x.length<=1048576)->w.length+r.length<=1099511627700->jI p k r i w=k (r.foldl jM w):=by
  intro k r
  induction r with
  |nil=>intro i w _ _;rfl
  |cons x r ih=>
   intro i w hx hw;simp only[aG]at hw;have:=yN w x;rw[jI,LH w x (by omega) (hx x (by simp)),aA,ih _ _ (fun y hy=>hx y (by simp[hy])) (by omega)];rfl
 rw[key _ _ _ _ (fun x hx=>aL.rU h hx) (by simp;omega),Yg _ _ (by simp;omega)];rfl
theorem Y7(p:aL)(h:p.wt<=1048576):nX p=some (Ef p):=by
 have hl:=aL.ga h;unfold nX;rw[PS _ (by omega) (fun x hx=>aL.rU h hx),aA,a07 _ _ (by simp;omega)];rfl
def uc(l:aY):aE:=l.flatMap fun c=>c.pat.args++[c.left,c.right]
theorem Of(l:aY):(uc l).length<=3*qB aI.wt l:=by
 unfold uc
 induction l with
 |nil=>simp
 |cons x l ih=>
  rw[eF,aM,mL];have:=aL.ga (aI.fT (c:=x) (bH _));simp only[aM,aG,b8];omega
def mI(r:aH):aQ:=(uc r.conds).foldl jM []
def gG(r:aH):aY:=r.conds.map (J7 (mI r))
theorem Tj(a:aH)(i:Nat)(c:aI)(k:aQ->Option aQ):∀(r:aE) (j:Nat) (w:aQ),(∀x∈r,x.length<=1048576)->w.length+r.length<=1099511627700->gR a i c k r j w=k (r.foldl jM w):=by
 intro r
 induction r with
 |nil=>intro i w _ _;rfl
 |cons x r ih=>
  intro i w hx hw;simp only[aG]at hw;have:=yN w x;rw[gR,LH w x (by omega) (hx x (by simp)),aA,ih _ _ (fun y hy=>hx y (by simp[hy])) (by omega)];rfl
theorem Yf(r:aH)(h:r.wt<=1048576):nB r=some (mI r):=by
 unfold nB;have key:∀(l:aY) (i:Nat) (w:aQ),(∀c∈l,c.wt<=1048576)->w.length+3*qB aI.wt l<=1099511627700->gQ r (fun q=>some q) l i w=some ((uc l).foldl jM w):=by
  intro l
  induction l with
  |nil=>intro i w _ _;rfl
  |cons c l ih=>
   intro i w hc hw;rw[mL]at hw;have QX:=hc c (by simp);have ha:=aL.ga (aI.fT (c:=c) (bH _));have h1:=uX c.pat.args w;have h2:=yN (c.pat.args.foldl jM w) c.left;have h3:=yN (jM (c.pat.args.foldl jM w) c.left) c.right;rw[gQ,tK (by omega),aa,Tj _ _ _ _ _ _ _ (fun x hx=>aL.rU (aI.fT QX) hx) (by omega),LH _ _ (by omega) (aI.zH QX),aA,LH _ _ (by omega) (aI.wS QX),aA,
    ih _ _ (fun y hy=>hc y (by simp[hy])) (by omega)]
   simp[uc]
 have:=aH.oW h;exact key r.conds 0 [] (fun c hc=>aH.nN h hc) (by simp;omega)
theorem Y2(r:aH)(h:r.wt<=1048576):mo r=some (mI r):=by
 unfold mo;have hw:=aH.oW h;have key:∀(k:aE->Option aQ) (l:aY) (i:Nat) (w:aE),(∀c∈l,c.wt<=1048576)->w.length+3*qB aI.wt l<=1099511627700->fF r k l i w=k (w++uc l):=by
  intro k l
  induction l with
  |nil=>intro i w _ _;simp[fF,uc]
  |cons c l ih=>
   intro i w hc hw;rw[mL]at hw;have QX:=hc c (by simp);have ha:=aL.ga (aI.fT (c:=c) (bH _));rw[fF,Su c QX,aA,Ta (by simp;omega) (by decide),aa,ih _ _ (fun y hy=>hc y (by simp[hy])) (by simp;omega)];simp[uc]
 have hl:=Of r.conds;rw[key _ _ _ _ (fun c hc=>aH.nN h hc) (by simp;omega),cC,PS _ (by omega) ?_]
 ·rfl
 ·intro x hx;unfold uc at hx;obtain⟨c,hc,hx⟩:=bp.1 hx;have QX:=aH.nN h hc;rcases aU.1 hx with hx|hx
  ·exact aL.rU (aI.fT QX) hx
  ·simp only[bG,tO,or_false]at hx;rcases hx with rfl|rfl
   ·exact aI.zH QX
   ·exact aI.wS QX
theorem Yb(r:aH)(h:r.wt<=1048576):nA r=some (gG r):=by
 unfold nA;have hw:=aH.oW h;have hl:=oQ aI.wt r.conds;rw[Yf r h,aA];rw[Ir (c:=aI.c) (b:=80) (f:=fun a=>iA a (mI r)) (g:=J7 (mI r)) (L:=iv r (mI r) _) (k:=_) (by decide) (fun _ _=>rfl) (fun _ _ _ _=>rfl) _ _ _ (fun c hc=>Yg c _ (by have:=aL.ga (aI.fT (aH.nN h hc));omega)) (by simp;omega)];simp[gG]
theorem Xx(r:aH)(h:r.wt<=1048576):mm r=some (gG r):=by
 unfold mm;have hw:=aH.oW h;have hl:=oQ aI.wt r.conds;rw[Y2 r h,aA];rw[Ir (c:=aI.c) (b:=80) (f:=fun a=>jB a (mI r)) (g:=J7 (mI r)) (L:=ia r (mI r) _) (k:=_) (by decide) (fun _ _=>rfl) (fun _ _ _ _=>rfl) _ _ _ (fun c hc=>a07 c _ (by have:=aL.ga (aI.fT (aH.nN h hc));omega)) (by simp;omega)];simp[gG]
end Go.Cx
namespace Go.Cx
open Go.RowKit Go.Proofs Tryz
def NOk(n:aR):Prop:=n.nodes.length<=1048576/\∀x∈n.nodes,x.cond.wt<=1048576
theorem Vm(s:Bytes):CH [] s=s:=rfl
theorem TU(x:aI):J7 [] x=x:=by
 have:x.pat.args.map (CH [])=x.pat.args:=by
  rw[show(CH [])=id from funext Vm];simp
 unfold J7;rw[this];rfl
def e9(i:Nat):Int:=(i:Int)
def Jk(ns:bB):Nat->Nat->aP
 |0,_=>[]
 |k+1,v=>v::(match ns[v]? with
  |some x=>if 1<=x.parent/\x.parent<(v:Int)then Jk ns k x.parent.toNat else []
  |none=>[])
def xI(ns:bB)(i:Nat):Option aI:=(ns[i]?).map Node.cond
def Fu(ns:bB)(k v:Nat):aY:=(Jk ns k v).reverse.filterMap (xI ns)
def j3(ns:bB)(v:Int):aY:=if 1<=v/\v<(ns.length:Int)then Fu ns v.toNat v.toNat else []
theorem NG{ns:bB}{k v:Nat}{x:Node}(hx:ns[v]?=some x):Jk ns (k+1) v=v::(if 1<=x.parent/\x.parent<(v:Int)then Jk ns k x.parent.toNat else []):=by simp only[Jk,hx]
theorem U7(ns:bB):∀(k v:Nat),v<ns.length->∀i∈Jk ns k v,i<ns.length
 |0,v,_,i,hi=>by cases hi
 |k+1,v,hv,i,hi=>by
  rw[Jk]at hi;rcases bG.1 hi with rfl|hi
  ·exact hv
  ·split at hi
   ·split at hi
    ·rename_i x hx hp;exact U7 ns k _ (by omega) i hi
    ·cases hi
   ·cases hi
theorem Pn(ns:bB):∀(k v:Nat),(Jk ns k v).length<=k
 |0,v=>by simp[Jk]
 |k+1,v=>by
  rw[Jk,aG];split
  ·split
   ·have:=Pn ns k (by assumption:Node).parent.toNat;omega
   ·simp
  ·simp
theorem OP{ns:bB}{k v:Nat}{x:Node}(hx:ns[v]?=some x):Fu ns (k+1) v=(if 1<=x.parent/\x.parent<(v:Int)then Fu ns k x.parent.toNat else [])++[x.cond]:=by
 have hc:xI ns v=some x.cond:=by unfold xI;rw[hx];rfl
 unfold Fu;rw[NG hx];by_cases hp:1<=x.parent/\x.parent<(v:Int)
 ·rw[bM hp,bM hp];simp[hc]
 ·rw[b9 hp,b9 hp];simp[hc]
theorem Th(x:aI)(h:x.pat.args.length<=1099511627770):nI x=some x:=by
 unfold nI;rw[Yg x [] h,aA,TU]
theorem O9(x:aI)(h:x.pat.args.length<=1099511627770):gW x=some x:=by
 unfold gW fM;rw[Kt x.pat.args (by omega)];rfl
theorem VN(n:aR)(h:NOk n)(K:bZ->Option aY):∀(k v fu:Nat) (w:bZ),v<=k->1<=v->v<n.nodes.length->k<fu->w.length+k<=4194304->jr n K fu (v:Int) w=K (w++(Jk n.nodes k v).map e9):=by
 have hl:=h.1;intro k
 induction k with
 |zero=>intro v fu w h1 h2;omega
 |succ k ih=>
  intro v fu w h1 h2 h3 h4 h5;obtain⟨fu,rfl⟩:∃m,fu=m+1:=⟨fu-1,by omega⟩
  have hx:n.nodes[v]?=some n.nodes[v]:=aV h3;generalize hxe:n.nodes[v]=x at*;have e3:sK n.nodes (v:Int)=some x:=by unfold sK;rw[cV (by omega),aa];exact hx
  rw[jr,mS (by omega) (by decide),aa,e3,aA,NG hx];by_cases h7:x.parent<1
  ·rw[cV h7,aa,b9 (by omega)];rfl
  ·rw[bL h7,ay];by_cases h6:x.parent>=(v:Int)
   ·rw[cV h6,aa,b9 (by omega)];rfl
   ·rw[bL h6,ay,bM ⟨by omega,by omega⟩];obtain⟨m,hm⟩:=ru (by omega:0<=x.parent);rw[hm,ih m fu (w++[(v:Int)]) (by omega) (by omega) (by omega) (by omega) (by simp;omega)];simp[e9]
theorem VO(n:aR)(h:NOk n)(us:aP)(q9:∀i∈us,i<n.nodes.length)(hul:us.length<=1048576)(K:aY->Option aY):∀(j fu:Nat) (w:aY),j<=us.length->j<fu->w.length+j<=4194304->iZ n (us.map e9) K fu ((j:Int)-1) w=K (w++((us.take j).reverse.filterMap (xI n.nodes))):=by
 intro j
 induction j with
 |zero=>
  intro fu w _ hf _;obtain⟨fu,rfl⟩:∃m,fu=m+1:=⟨fu-1,by omega⟩
  rw[iZ,bL (by omega),ay];simp
 |succ j ih=>
  intro fu w hj hf hw;obtain⟨fu,rfl⟩:∃m,fu=m+1:=⟨fu-1,by omega⟩
  have hlt:j<us.length:=by omega
  have h3:=q9 us[j] (List.getElem_mem hlt);have hx:n.nodes[us[j]]?=some n.nodes[us[j]]:=aV h3;have hww:=h.2 _ (List.getElem_mem h3);generalize hxe:n.nodes[us[j]]=x at*;have e0:((j+1:Nat):Int)-1=(j:Int):=by omega
  have e1:sK (us.map e9) (j:Int)=some ((us[j]:Nat):Int):=by
   unfold sK;rw[cV (by omega),aa];show(us.map e9)[(j:Int).toNat]?=_;rw[sL,bg,aV hlt];rfl
  have e3:sK n.nodes ((us[j]:Nat):Int)=some x:=by unfold sK;rw[cV (by omega),aa];exact hx
  have e4:=O9 x.cond (by have:=aL.ga (aI.fT hww);omega);have e5:IntKind.i64.wrap ((j:Int)-1)=(j:Int)-1:=jO (qY.i64.2 (by omega));rw[e0,iZ,cV (by omega),aa,e1,aA,e3,aA,e4,aA,mS (by omega) (by decide),aa,e5,ih fu _ (by omega) (by omega) (by simp;omega)];have hc:xI n.nodes us[j]=some x.cond:=by unfold xI;rw[hx];rfl
  have ht:us.take (j+1)=us.take j++[us[j]]:=by rw[List.take_add_one,aV hlt];rfl
  rw[ht,List.reverse_append,List.filterMap_append];simp[hc]
theorem Y4(n:aR)(v:Int)(h:NOk n):rJ n v=some (j3 n.nodes v):=by
 have hl:=h.1;unfold rJ j3;rw[ai];by_cases h1:v<1
 ·rw[cV h1,aa,b9 (by omega)]
 ·rw[bL h1,ay];by_cases h2:v>=(n.nodes.length:Int)
  ·rw[cV h2,aa,b9 (by omega)]
  ·rw[bL h2,ay,bM ⟨by omega,by omega⟩];obtain⟨m,rfl⟩:=ru (by omega:0<=v);rw[VN n h _ m m fuel [] (bH _) (by omega) (by omega) (by unfold fuel;omega) (by simp;omega)];have hul:=Pn n.nodes m m;have e5:IntKind.i64.wrap ((((([]:bZ)++(Jk n.nodes m m).map e9).map jd).length:Int)-1)=(((Jk n.nodes m m).length:Nat):Int)-1:=by
    rw[cC,ai,ai];exact jO (qY.i64.2 (by omega))
   rw[e5,cC,VO n h (Jk n.nodes m m) (U7 n.nodes m m (by omega)) (by omega) _ (Jk n.nodes m m).length fuel [] (bH _) (by unfold fuel;omega) (by simp;omega),List.take_length];rfl
end Go.Cx
namespace Go.Cx
open Go.RowKit Go.Proofs Tryz
def Z3(k:Nat):Bytes:=[63]++Lib.itoa ((k:Int)+1)
theorem decDigits_one{u:Nat}(h:u<10):Lib.decDigits u=[UInt8.ofNat (48+u)]:=by
 rw[Lib.decDigits,dif_pos h]
theorem Vg:∀i,i<6->Z3 i=[63,UInt8.ofNat (49+i)]
 |0,_|1,_|2,_|3,_|4,_|5,_=>by
  unfold Z3 Lib.itoa;rw[b9 (by decide),decDigits_one (by decide)];decide
 |n+6,h=>by omega
def UN(N:aQ):Prop:=∀(i:Nat) p,N[i]?=some p->p.value=Z3 i/\nK p.var=true
theorem MP(N:aQ)(t:Bytes):Bp N t=true↔∃p∈N,p.var=t:=by simp[Bp]
theorem Qq(N:aQ)(t:Bytes){p:aS}(h:p∈N):p∈jM N t:=by
 unfold jM;cases nK t&& !Bp N t<;>simp[h]
theorem MN:∀(ts:aE) (N:aQ) {p:aS},p∈N->p∈ts.foldl jM N
 | [],_,_,h=>h
 |t::ts,N,p,h=>MN ts (jM N t) (Qq N t h)
theorem UE{N:aQ}(h:UN N)(t:Bytes):UN (jM N t):=by
 unfold jM;cases hv:nK t&& !Bp N t with
 |false=>exact h
 |true=>
  simp only[aX]at hv;intro i p hp;rw[aa]at hp;rcases dL i N.length with hlt|hge
  ·rw[aj hlt]at hp;exact h i p hp
  ·rw[av hge]at hp;cases hi:i-N.length with
   |zero=>
    rw[hi]at hp;simp at hp;subst hp;have:i=N.length:=by omega
    subst this;exact⟨rfl,hv.1⟩
   |succ m=>rw[hi]at hp;simp at hp
theorem Hs:∀(ts:aE) {N:aQ},UN N->UN (ts.foldl jM N)
 | [],_,h=>h
 |t::ts,_,h=>Hs ts (UE h t)
def Ov(N:aQ):Prop:=(N.map aS.var).Nodup
theorem Qs{N:aQ}(h:Ov N)(t:Bytes):Ov (jM N t):=by
 unfold jM;cases hv:nK t&& !Bp N t with
 |false=>exact h
 |true=>
  simp only[aX,me]at hv;rw[aa];unfold Ov;rw[bR,bA];refine⟨h,by simp,?_⟩;intro a ha b hb e;simp at hb;subst hb;subst e;obtain⟨p,hp,he⟩:=cO.1 ha;have:=(MP N a).2 ⟨p,hp,he⟩;rw[hv.2]at this;cases this
theorem Fp:∀(ts:aE) {N:aQ},Ov N->Ov (ts.foldl jM N)
 | [],_,h=>h
 |t::ts,_,h=>Fp ts (Qs h t)
theorem ML:∀(ts:aE) (N:aQ) {t:Bytes},t∈ts->nK t=true->∃p∈ts.foldl jM N,p.var=t
 |x::ts,N,t,h,hv=>by
  rcases bG.1 h with rfl|h
  ·have:∃p∈jM N t,p.var=t:=by
    unfold jM;cases hh:Bp N t with
    |true=>rw[hv];exact(MP N t).1 hh
    |false=>rw[hv];exact⟨⟨t,[63]++Lib.itoa ((N.length:Int)+1)⟩,by simp,rfl⟩
   obtain⟨p,hp,he⟩:=this;exact⟨p,MN ts _ hp,he⟩
  ·exact ML ts _ h hv
theorem LD:∀ {N:aQ} {p:aS},Ov N->p∈N->CH N p.var=p.value
 |q::N,p,hn,hp=>by
  unfold Ov at hn;rw[bI,eo]at hn;rcases bG.1 hp with rfl|hp
  ·simp[CH]
  ·have hne:(q.var==p.var)=false:=by
    rw[dK];intro e;exact hn.1 (by rw[e];exact cO.2 ⟨p,hp,rfl⟩)
   rw[CH,hne,ay];exact LD (show Ov N from hn.2) hp
theorem Gl:∀ {N:aQ} {t:Bytes},(∀p∈N,p.var≠t)->CH N t=t
 | [],t,_=>rfl
 |q::N,t,h=>by
  have hne:(q.var==t)=false:=by rw[dK];exact h q (by simp)
  rw[CH,hne,ay];exact Gl fun p hp=>h p (by simp[hp])
theorem UN.nil:UN []:=fun i p h=>by simp at h
theorem Ov.nil:Ov []:=by simp[Ov]
theorem MM(ts:aE):(ts.foldl jM []).length<=ts.length:=by simpa using uX ts []
theorem Oo{N:aQ}(h:UN N){p:aS}(hp:p∈N):∃i,i<N.length/\N[i]?=some p/\p.value=Z3 i/\nK p.var=true:=by
 obtain⟨i,hi⟩:=cX hp;exact⟨i,(aD.1 hi).1,hi,h i p hi⟩
theorem TG{ts:aE}{t:Bytes}(ht:nK t=false):CH (ts.foldl jM []) t=t:=
 Gl fun p hp e=>by
  obtain⟨i,_,_,_,hv⟩:=Oo (Hs ts UN.nil) hp;rw[e,ht]at hv;cases hv
theorem PV:∀i,i<6->(Z3 i).length<=16:=by
 intro i hi;rw[Vg i hi];simp
theorem YX{ts:aE}(hl:ts.length<=5){t:Bytes}(ht:t.length<=16):(CH (ts.foldl jM []) t).length<=16:=by
 by_cases h:∃p∈ts.foldl jM [],p.var=t
 ·obtain⟨p,hp,he⟩:=h;rw[<-he,LD (Fp ts Ov.nil) hp];obtain⟨i,hi,_,hpv,_⟩:=Oo (Hs ts UN.nil) hp;have:=MM ts;rw[hpv];exact PV i (by omega)
 ·rw[Gl (fun p hp e=>h ⟨p,hp,e⟩)];exact ht
end Go.Cx
namespace Go.Cx
open Go.RowKit Go.Proofs Tryz
def HQ(c:aI):aE:=bif decide (c.kind=1)then gl c.pat.args else []
theorem Ru{c:aI}:(HQ c).length<=c.wt:=by
 unfold HQ;have h2:=sH c.pat.args;have h3:=aL.ga (aI.fT (bH c.wt));cases decide (c.kind=1)<;>simp;omega
def wm(r:aH)(n:Int):aE:=(r.conds.take n.toNat).flatMap HQ
theorem KI{α:Type}(x:α)(xs:List α)(n:Int)(i:Nat):(x::xs).take (n-(i:Int)).toNat=if(i:Int)<n then x::xs.take (n-((i+1:Nat):Int)).toNat else []:=by
 by_cases h:(i:Int)<n
 ·rw[bM h];obtain⟨m,hm⟩:∃m,(n-(i:Int)).toNat=m+1:=⟨(n-(i:Int)).toNat -1,by omega⟩
  have:(n-((i+1:Nat):Int)).toNat=m:=by omega
  rw[hm,this];rfl
 ·rw[b9 h,show(n-(i:Int)).toNat=0 from by omega];rfl
theorem Bk{α β:Type}{f:α->List β}{w:α->Nat}(l:List α)(h:∀x∈l,(f x).length<=w x+2):(l.flatMap f).length<=3*qB w l:=by
 induction l with
 |nil=>simp[qB]
 |cons x l ih=>
  rw[eF,aM,mL];have h1:=h x (by simp);have h2:=ih (fun y hy=>h y (by simp[hy]));omega
theorem Rv{r:aH}{n:Nat}(h:r.wt<=n)(m:Int):(wm r m).length<=3*n:=by
 unfold wm;have h1:=Bk (w:=aI.wt) (f:=HQ) (r.conds.take m.toNat) (fun c _=>by have:= @Ru c;omega);have h2:qB aI.wt (r.conds.take m.toNat)<=qB aI.wt r.conds:=by
  conv=>rhs;rw[<-cA m.toNat r.conds]
  rw[Oq];omega
 have h3:=aH.oW h;omega
theorem Tf(a:aH)(n:Int)(i:Nat)(y:aE)(k:aE->Option aE):∀(l:aE) (j:Nat) (w:aE),w.length+l.length<=1099511627770->gz a n i y k l j w=k (l.foldl ua w):=by
 intro l
 induction l with
 |nil=>intro j w _;rfl
 |cons x l ih=>
  intro j w hw;simp only[aG]at hw;have:=wK w x;rw[gz,OZ w x (by omega),aA,ih _ _ (by omega)];rfl
theorem Vp(a:aH)(n:Int)(k:aE->Option aE):∀(l:aY) (i:Nat) (acc:aE),(∀c∈l,c.wt<=1048576)->acc.length+qB aI.wt l<=2097152->
 ed a n k l i (eH acc)=k (eH (acc++(l.take (n-(i:Int)).toNat).flatMap HQ)):=by
 intro l
 induction l with
 |nil=>intro i acc _ _;simp[ed]
 |cons c l ih=>
  intro i acc hc hb;rw[mL]at hb;have Sd:=hc c (by simp);have hv:=sH c.pat.args;have ha:=aL.ga (aI.fT (bH c.wt));have hu:=mc (gl c.pat.args);have UU:=mc acc;rw[ed,KI];by_cases hi:(i:Int)<n
  ·have e1:decide (((i:Int):Int)<n)=true:=by simp[hi]
   rw[e1,aa,bM hi];by_cases hk:c.kind=1
   ·have e2:((c.kind:Int)==1)=true:=by simp[hk]
    rw[e2,aa,G0 _ (aI.fT Sd),aA,tK (by omega),aa,Tf _ _ _ _ _ _ _ _ (by omega),C7,ih _ _ (fun x hx=>hc x (by simp[hx])) (by simp;omega)];simp[HQ,hk]
   ·have e2:((c.kind:Int)==1)=false:=by simp[hk]
    rw[e2,ay,ih _ _ (fun x hx=>hc x (by simp[hx])) (by omega)];simp[HQ,hk]
  ·have e1:decide (((i:Int):Int)<n)=false:=by simp[hi]
   rw[e1,ay,b9 hi];simp
theorem Te(r:aH)(n:Int)(h:r.wt<=1048576):k9 r n=some (eH (wm r n)):=by
 unfold k9;have:=Vp r n (fun q=>some q) r.conds 0 [] (fun c hc=>aH.nN h hc) (by have:=aH.oW h;simp;omega);rw[show eH []=[]from rfl]at this;rw[this];simp[wm]
theorem VI(a:aH)(n:Int)(k:aE->Option aE):∀(l:aY) (i:Nat) (w:aE),(∀c∈l,c.wt<=1048576)->w.length+qB aI.wt l<=2097152->
 e7 a n k l i w=k (w++(l.take (n-(i:Int)).toNat).flatMap HQ):=by
 intro l
 induction l with
 |nil=>intro i w _ _;simp[e7]
 |cons c l ih=>
  intro i w hc hb;rw[mL]at hb;have Sd:=hc c (by simp);have hv:=sH c.pat.args;have ha:=aL.ga (aI.fT (bH c.wt));rw[e7,KI];by_cases hi:(i:Int)<n
  ·have e1:decide (((i:Int):Int)<n)=true:=by simp[hi]
   rw[e1,aa,bM hi];by_cases hk:c.kind=1
   ·have e2:((c.kind:Int)==1)=true:=by simp[hk]
    rw[e2,aa,Sv _ (by omega) (fun x hx=>aL.rU (aI.fT Sd) hx),aA,Ta (by omega) (by decide),aa,ih _ _ (fun x hx=>hc x (by simp[hx])) (by simp;omega)];simp[HQ,hk]
   ·have e2:((c.kind:Int)==1)=false:=by simp[hk]
    rw[e2,ay,ih _ _ (fun x hx=>hc x (by simp[hx])) (by omega)];simp[HQ,hk]
  ·have e1:decide (((i:Int):Int)<n)=false:=by simp[hi]
   rw[e1,ay,b9 hi,ih _ _ (fun x hx=>hc x (by simp[hx])) (by omega),show(n-((i+1:Nat):Int)).toNat=0 from by omega];simp
theorem Si(r:aH)(n:Int)(h:r.wt<=1048576):lT r n=some (eH (wm r n)):=by
 unfold lT;have hl:=Rv h n;rw[VI r n _ r.conds 0 [] (fun c hc=>aH.nN h hc) (by have:=aH.oW h;simp;omega)];have e:([]:aE)++(r.conds.take (n-((0:Nat):Int)).toNat).flatMap HQ=wm r n:=by simp[wm]
 rw[e,Ks _ (by omega)];rfl
def zi(l:aY):aE:=l.flatMap mj
def Uo(l:bh):aE:=l.flatMap fun a=>gl a.pat.args
def YZ(r:aH):aE:=zi r.conds++Uo r.cc
theorem Rz(l:aY):(zi l).length<=3*qB aI.wt l:=Bk l (fun c _=>tQ (bH _))
theorem Tl(a:aH)(i:Nat)(y:aE)(k:aE->Option aE):∀(l:aE) (j:Nat) (w:aE),w.length+l.length<=1099511627770->iP a i y k l j w=k (l.foldl ua w):=by
 intro l
 induction l with
 |nil=>intro j w _;rfl
 |cons x l ih=>
  intro j w hw;simp only[aG]at hw;have:=wK w x;rw[iP,OZ w x (by omega),aA,ih _ _ (by omega)];rfl
theorem Tn(a:aH)(i:Nat)(y:aE)(k:aE->Option aE):∀(l:aE) (j:Nat) (w:aE),w.length+l.length<=1099511627770->iQ a i y k l j w=k (l.foldl ua w):=by
 intro l
 induction l with
 |nil=>intro j w _;rfl
 |cons x l ih=>
  intro j w hw;simp only[aG]at hw;have:=wK w x;rw[iQ,OZ w x (by omega),aA,ih _ _ (by omega)];rfl
theorem Tk(a:aH)(k:aE->Option aE):∀(l:aY) (i:Nat) (acc:aE),(∀c∈l,c.wt<=1048576)->acc.length+3*qB aI.wt l<=16777216->
 gS a k l i (eH acc)=k (eH (acc++zi l)):=by
 intro l
 induction l with
 |nil=>intro i acc _ _;simp[gS,zi]
 |cons c l ih=>
  intro i acc hc hb;rw[mL]at hb;have Sd:=hc c (by simp);have h1:=tQ (bH c.wt);have hu:=mc (mj c);have UU:=mc acc;rw[gS,OY c Sd,aA,tK (by omega),aa,Tl _ _ _ _ _ _ _ (by omega),C7,ih _ _ (fun x hx=>hc x (by simp[hx])) (by simp;omega)];simp[zi]
theorem Tm(a:aH)(k:aE->Option aE):∀(l:bh) (i:Nat) (acc:aE),(∀c∈l,c.wt<=1048576)->acc.length+3*qB Action.wt l<=16777216->
 fS a k l i (eH acc)=k (eH (acc++Uo l)):=by
 intro l
 induction l with
 |nil=>intro i acc _ _;simp[fS,Uo]
 |cons c l ih=>
  intro i acc hc hb;rw[mL]at hb;have Sd:=hc c (by simp);have h1:=sH c.pat.args;have h2:=aL.ga (Action.fT (bH c.wt));have hu:=mc (gl c.pat.args);have UU:=mc acc;rw[fS,G0 _ (Action.fT Sd),aA,tK (by omega),aa,Tn _ _ _ _ _ _ _ (by omega),C7,ih _ _ (fun x hx=>hc x (by simp[hx])) (by simp;omega)];simp[Uo]
theorem Yh(r:aH)(h:r.wt<=1048576):oy r=some (eH (YZ r)):=by
 unfold oy;have h3:=aH.oW h;have h4:=aH.Eu h;have hl:=Rz r.conds;have:=Tk r (fun q=>fS r (fun q=>some q) r.cc 0 q) r.conds 0 [] (fun c hc=>aH.nN h hc) (by simp;omega);rw[show eH []=[]from rfl]at this;rw[this];simp only[cC];rw[Tm r _ r.cc 0 _ (fun c hc=>aH.Ka h hc) (by omega)];rfl
theorem Zy(l:aY)(hc:∀c∈l,c.wt<=1048576)(hb:qB aI.wt l<=1048576):mq l=some (l.flatMap fun c=>eH (mj c)):=by
 unfold mq;have:∀(r:aY) (i:Nat) (w:aE),(∀c∈r,c.wt<=1048576)->w.length+3*qB aI.wt r<=16777216->fG l (fun q=>some q) r i w=some (w++r.flatMap fun c=>eH (mj c)):=by
  intro r
  induction r with
  |nil=>intro i w _ _;simp[fG]
  |cons c r ih=>
   intro i w hc hb;rw[mL]at hb;have h1:=tQ (bH c.wt);have hu:=mc (mj c);rw[fG,O8 c (hc c (by simp)),aA,Ta (by omega) (by decide),aa,ih _ _ (fun x hx=>hc x (by simp[hx])) (by simp;omega)];simp
 exact this l 0 [] hc (by simp;omega)
theorem Ry(l:aY):(l.flatMap fun c=>eH (mj c)).length<=3*qB aI.wt l:=Bk l (fun c _=>by
 have h1:=tQ (bH c.wt);have hu:=mc (mj c);omega)
theorem a1Q(l:aY)(b:aE):eH ((l.flatMap fun c=>eH (mj c))++b)=eH (zi l++b):=C6 (fun x=>by simp[zi,qh])
def QG(v:Bytes)(k:Int):aY->Nat->Bool
 | [],_=>false
 |c::cs,i=>(decide (((i:Nat):Int)≠k)&&(mj c).contains v)||QG v k cs (i+1)
def MC(r:aH)(k:Int)(v:Bytes):Bool:=QG v k r.conds 0||r.cc.any fun a=>(gl a.pat.args).contains v
theorem JW{l:aE}{v:Bytes}(h:nK v=true):l.contains v=(gl l).contains v:=by
 rw[bn];simp[gl,h]
theorem a0Z(r:aH)(k:Int)(v:Bytes)(h:r.wt<=1048576):kG r k v=some (MC r k v):=by
 unfold kG MC;have k2:∀(l:bh) (i:Nat),(∀c∈l,c.wt<=1048576)->gE r v (some false) l i=some (l.any fun a=>(gl a.pat.args).contains v):=by
  intro l
  induction l with
  |nil=>intro i _;rfl
  |cons a l ih=>
   intro i hc;rw[gE,G0 _ (Action.fT (hc a (by simp))),aA,Ti,aA,kQ,ih _ (fun x hx=>hc x (by simp[hx])),xF];cases(gl a.pat.args).contains v<;>rfl
 have k1:∀(l:aY) (i:Nat),(∀c∈l,c.wt<=1048576)->eW r k v (some (r.cc.any fun a=>(gl a.pat.args).contains v)) l i=some (QG v k l i||r.cc.any fun a=>(gl a.pat.args).contains v):=by
  intro l
  induction l with
  |nil=>intro i _;rfl
  |cons c l ih=>
   intro i hc;rw[eW,OY _ (hc c (by simp)),aA,Ti,aA,kQ,ih _ (fun x hx=>hc x (by simp[hx]))];simp only[QG,bne,gK];by_cases hi:((i:Nat):Int)=k
   ·simp[hi]
   ·cases(mj c).contains v<;>simp[hi]
 rw[k2 _ _ (fun c hc=>aH.Ka h hc),k1 _ _ (fun c hc=>aH.nN h hc)]
theorem a2h(r:aH)(k:Int)(v:Bytes)(hv:nK v=true)(h:r.wt<=1048576):jF r k v=some (MC r k v):=by
 unfold jF MC;have k2:∀(l:bh) (i:Nat),eC r v (some false) l i=some (l.any fun a=>(gl a.pat.args).contains v):=by
  intro l
  induction l with
  |nil=>intro i;rfl
  |cons a l ih=>
   intro i;rw[eC,VL,aA,JW hv,ih,xF];cases(gl a.pat.args).contains v<;>rfl
 have k1:∀(l:aY) (i:Nat),(∀c∈l,c.wt<=1048576)->dJ r k v (some (r.cc.any fun a=>(gl a.pat.args).contains v)) l i=some (QG v k l i||r.cc.any fun a=>(gl a.pat.args).contains v):=by
  intro l
  induction l with
  |nil=>intro i _;rfl
  |cons c l ih=>
   intro i hc;rw[dJ,O8 _ (hc c (by simp)),aA,VL,aA,kQ,ih _ (fun x hx=>hc x (by simp[hx]))];simp only[QG,bne,gK];by_cases hi:((i:Nat):Int)=k
   ·simp[hi]
   ·cases(mj c).contains v<;>simp[hi]
 rw[k2,k1 _ _ (fun c hc=>aH.nN h hc)]
def HU(r:aH)(i:Nat)(c:aI)(v:Bytes):Bool:=decide (c.kind=1)||(wm r i).contains v||(decide (c.kind=2)&& !MC r i v)
def rV(r:aH):aY->Nat->Bool
 | [],_=>true
 |c::cs,i=>(oG c&&(!decide (i=0)||decide (c.kind=1))&&(eH (mj c)).all (HU r i c))&&rV r cs (i+1)
def I6(r:aH):Bool:=r.cc.all fun a=>I5 a&&(gl a.pat.args).all fun v=>(wm r r.conds.length).contains v
def kL(r:aH):Bool:=wM r.name&&(decide (0<=r.prio)&&decide (r.prio<=9))&&(decide (1<=(r.conds.length:Int))&&decide ((r.conds.length:Int)<=4))&&(decide (1<=(r.cc.length:Int))&&decide ((r.cc.length:Int)<=2))&&
 (rV r r.conds 0&&(I6 r&&decide (((eH (zi r.conds)).length:Int)<=6)))
theorem Jp(l:aE)(p:Bytes->Bool):(eH l).all p=l.all p:=by
 rw[bn];simp[au,qh]
theorem Ur(r:aH)(n:Int){v:Bytes}(h:v∈wm r n):v∈zi r.conds:=by
 unfold wm at h;obtain⟨c,hc,hv⟩:=bp.1 h;refine bp.2 ⟨c,cM hc,?_⟩;unfold HQ at hv;cases hk:decide (c.kind=1)with
 |false=>rw[hk]at hv;cases hv
 |true=>
  rw[hk]at hv;simp only[aa]at hv;unfold mj;rw[KL];exact aU.2 (.inl hv)
theorem NW{r:aH}(h:I6 r=true):eH (YZ r)=eH (zi r.conds):=by
 refine C6 (fun x=>?_);unfold YZ;simp only[aU];constructor
 ·rintro(hx|hx)
  ·exact hx
  ·obtain⟨a,ha,hv⟩:=bp.1 hx;unfold I6 at h;have:=au.1 h a ha;simp only[aX,au]at this;have:=this.2 x hv;exact Ur r _ (by simpa using this)
 ·exact .inl
theorem Vs(r:aH)(y:aE)(i:Nat)(c:aI)(l:aE)(k:Option Bool)(hc:c.wt<=1048576)(hr:r.wt<=1048576)(hcb:oG c=true):∀(rest:aE) (j:Nat),ez r y i c (eH (wm r i)) l k rest j=bif rest.all (HU r i c)then k else some false:=by
 have hk:=Df hcb;intro rest
 induction rest with
 |nil=>intro j;rfl
 |cons v rest ih=>
  intro j;rw[ez,Ti,aA,kQ,X9 c hc,aA,a0Z r _ v hr,aA,ih,dD];unfold HI HU;rw[hcb];by_cases h1:c.kind=1
  ·simp[h1]
  by_cases h2:c.kind=2
  ·cases(wm r i).contains v<;>cases MC r i v<;>simp[h2]
  have h3:c.kind>=3:=by omega
  cases(wm r i).contains v<;>simp[h1,h2,h3]
theorem Vt(r:aH)(y:aE)(i:Nat)(c:aI)(l:aE)(k:Option Bool)(hc:c.wt<=1048576)(hr:r.wt<=1048576)(hcb:oG c=true):∀(rest:aE) (j:Nat),fA r y i c (eH (wm r i)) l k rest j=bif rest.all (HU r i c)then k else some false:=by
 have hk:=Df hcb;intro rest
 induction rest with
 |nil=>intro j;rfl
 |cons v rest ih=>
  intro j;rw[fA,Ti,aA,kQ,X9 c hc,aA,a0Z r _ v hr,aA,ih,dD];unfold HI HU;rw[hcb];by_cases h1:c.kind=1
  ·simp[h1]
  by_cases h2:c.kind=2
  ·cases(wm r i).contains v<;>cases MC r i v<;>simp[h2]
  have h3:c.kind>=3:=by omega
  cases(wm r i).contains v<;>simp[h1,h2,h3]
theorem Vr(r:aH)(y:aE)(k:Option Bool)(hr:r.wt<=1048576):∀(rest:aY) (i:Nat),(∀c∈rest,c.wt<=1048576)->ir r y k rest i=bif rV r rest i then k else some false:=by
 intro rest
 induction rest with
 |nil=>intro i _;rfl
 |cons c rest ih=>
  intro i h;have hc:=h c (by simp);have hl:=tQ hc;have hu:=mc (mj c);rw[ir,X5 c hc,aA,rV];cases hcb:oG c with
  |false=>rfl
  |true=>
   rw[Te r _ hr,OY c hc,ih _ (fun x hx=>h x (by simp[hx]))];simp only[aA,tK (show(eH (mj c)).length<=1099511627776 by omega),aa];rw[Vs r y i c _ _ hc hr hcb,Vt r y i c _ _ hc hr hcb];simp only[bne,gK];have e0:decide (((i:Int):Int)=0)=decide (i=0):=by rw[bn];simp
   rw[e0];cases decide (i=0)<;>cases decide (c.kind=1)<;>cases(eH (mj c)).all (HU r i c)<;>simp
theorem Vv(r:aH)(y:aE)(i:Nat)(l:aE)(k:Option Bool):∀(rest:aE) (j:Nat),kB r y i l k rest j=bif rest.all (fun v=>y.contains v)then k else some false:=
 fun rest j=>Ro (f:=fun v=>fZ y v) (L:=kB r y i l k) (fun _=>rfl) (fun _ _ _=>rfl) rest j (fun v _=>Ti y v)
theorem Vu(r:aH)(b:aE)(k:Option Bool):∀(rest:bh) (i:Nat),(∀a∈rest,a.wt<=1048576)->kA r (eH b) k rest i=bif rest.all (fun a=>I5 a&&(gl a.pat.args).all fun v=>b.contains v)then k else some false:=by
 intro rest
 induction rest with
 |nil=>intro i _;rfl
 |cons a rest ih=>
  intro i h;have ha:=h a (by simp);have h1:=sH a.pat.args;have h2:=aL.ga (Action.fT ha);have hu:=mc (gl a.pat.args);rw[kA,a2w a ha,aA,G0 _ (Action.fT ha),aA,tK (by omega),ih _ (fun x hx=>h x (by simp[hx])),Vv,dD,Jp];have e:((gl a.pat.args).all fun v=>(eH b).contains v)=(gl a.pat.args).all fun v=>b.contains v:=by
   congr 1;funext v;exact kQ b v
  rw[e];cases I5 a<;>cases(gl a.pat.args).all (fun v=>b.contains v)<;>simp
theorem a0e(r:aH)(h:r.wt<=1048576):rL r=some (kL r):=by
 unfold rL;simp only[X7 _ (aH.PU h),aA,MY,ai];rw[Te r _ h];simp only[aA];rw[Vr r _ _ h _ _ (fun c hc=>aH.nN h hc),Vu r _ _ _ _ (fun a ha=>aH.Ka h ha),Yh r h];simp only[aA,ai];have hab:(r.cc.all fun a=>I5 a&&(gl a.pat.args).all fun v=>(wm r r.conds.length).contains v)=I6 r:=rfl;rw[hab];unfold kL;have g1:decide (r.prio>=0)=decide (0<=r.prio):=rfl;have g2:decide ((r.conds.length:Int)>=1)=decide (1<=(r.conds.length:Int)):=rfl;have g3:decide ((r.cc.length:Int)>=1)=decide (1<=(r.cc.length:Int)):=rfl;rw[g1,g2,g3];cases ha:I6 r with
 |false=>cases wM r.name<;>cases(decide (0<=r.prio)&&decide (r.prio<=9))<;>cases(decide (1<=(r.conds.length:Int))&&decide ((r.conds.length:Int)<=4))<;>cases(decide (1<=(r.cc.length:Int))&&decide ((r.cc.length:Int)<=2))<;>cases rV r r.conds 0<;>rfl
 |true=>
  rw[NW ha];cases wM r.name<;>cases(decide (0<=r.prio)&&decide (r.prio<=9))<;>cases(decide (1<=(r.conds.length:Int))&&decide ((r.conds.length:Int)<=4))<;>cases(decide (1<=(r.cc.length:Int))&&decide ((r.cc.length:Int)<=2))<;>cases rV r r.conds 0<;>simp
theorem Y0(r:aH)(i:Nat)(c:aI)(l:aE)(k:Option Bool)(hr:r.wt<=1048576)(hcb:oG c=true):∀(rest:aE) (j:Nat),(∀v∈rest,nK v=true)->fL r (i:Int) c (eH (wm r i)) l k rest j=bif rest.all (HU r i c)then k else some false:=by
 have hk:=Df hcb;intro rest
 induction rest with
 |nil=>intro j _;rfl
 |cons v rest ih=>
  intro j hv;rw[fL,VL,aA,kQ,a2h r _ v (hv v (by simp)) hr,aA,ih _ (fun x hx=>hv x (by simp[hx])),dD];unfold HU;simp only[bne,gK];by_cases h1:c.kind=1
  ·simp[h1]
  by_cases h2:c.kind=2
  ·cases(wm r i).contains v<;>cases MC r i v<;>simp[h2]
  cases(wm r i).contains v<;>simp[h1,h2]
theorem a03(r:aH)(i:Nat)(c:aI)(hr:r.wt<=1048576)(hi:r.conds[i]?=some c)(hcb:oG c=true):mV r (i:Int)=some ((eH (mj c)).all (HU r i c)):=by
 unfold mV;have hc:=aH.nN hr (aB hi);have hl:=tQ hc;have hu:=mc (mj c);have e:sK r.conds (i:Int)=some c:=by unfold sK;simp[hi]
 rw[e,aA,Si r _ hr,aA,O8 c hc,aA,tK (by omega),aa,Y0 r i c _ _ hr hcb _ _ (fun v hv=>by
  rw[qh]at hv;unfold mj gl at hv;exact(fV.1 hv).2)]
 cases(eH (mj c)).all (HU r i c)<;>rfl
theorem VP(r:aH)(k:Option Bool)(hr:r.wt<=1048576):∀(rest pre:aY),r.conds=pre++rest->gh r k rest pre.length=bif rV r rest pre.length then k else some false:=by
 intro rest
 induction rest with
 |nil=>intro pre _;rfl
 |cons c rest ih=>
  intro pre h;have hm:c∈r.conds:=by rw[h];simp
  have hc:=aH.nN hr hm;have hi:r.conds[pre.length]?=some c:=by rw[h];simp
  have t:=ih (pre++[c]) (by rw[h];simp);simp only[aM,aG,b8]at t;rw[gh,Sj c hc,aA,rV];cases hcb:oG c with
  |false=>rfl
  |true=>
   rw[a03 r _ c hr hi hcb,aA,t];simp only[bne,gK];have e0:decide ((((pre.length:Nat):Int):Int)=0)=decide (pre.length=0):=by rw[bn];simp
   rw[e0];cases decide (pre.length=0)<;>cases decide (c.kind=1)<;>cases(eH (mj c)).all (HU r pre.length c)<;>simp
theorem VR(r:aH)(y:aE)(i:Nat)(l:aE)(k:Option Bool):∀(rest:aE) (j:Nat),jq r y i l k rest j=bif rest.all (fun v=>y.contains v)then k else some false:=
 fun rest j=>Ro (f:=fun v=>jD y v) (L:=jq r y i l k) (fun _=>rfl) (fun _ _ _=>rfl) rest j (fun v _=>VL y v)
theorem VQ(r:aH)(b:aE)(k:Option Bool):∀(rest:bh) (i:Nat),(∀a∈rest,a.wt<=1048576)->jo r (eH b) k rest i=bif rest.all (fun a=>I5 a&&(gl a.pat.args).all fun v=>b.contains v)then k else some false:=by
 intro rest
 induction rest with
 |nil=>intro i _;rfl
 |cons a rest ih=>
  intro i h;have ha:=h a (by simp);have h1:=sH a.pat.args;have h2:=aL.ga (Action.fT ha);rw[jo,a2d a ha,aA,Sv _ (by omega) (fun x hx=>aL.rU (Action.fT ha) hx),aA,tK (by omega),ih _ (fun x hx=>h x (by simp[hx])),VR,dD];have e:((gl a.pat.args).all fun v=>(eH b).contains v)=(gl a.pat.args).all fun v=>b.contains v:=by
   congr 1;funext v;exact kQ b v
  rw[e];cases I5 a<;>cases(gl a.pat.args).all (fun v=>b.contains v)<;>simp
theorem a08(r:aH)(h:r.wt<=1048576):rH r=some (kL r):=by
 unfold rH;have hcu:=Ry r.conds;have hcl:=aH.oW h;rw[show gh r _ r.conds 0=_ from VP r _ h r.conds [] rfl,Si r _ h,aA,VQ r _ _ _ _ (fun a ha=>aH.Ka h ha),Zy _ (fun c hc=>aH.nN h hc) hcl,aA,Ks _ (by omega),Sn _ (aH.PU h)];have e:=a1Q r.conds [];simp only[cB]at e;rw[e];simp only[aA,ai,b8];have hab:(r.cc.all fun a=>I5 a&&(gl a.pat.args).all fun v=>(wm r r.conds.length).contains v)=I6 r:=rfl;rw[hab];unfold kL;have g1:decide (0<=r.prio)= !decide (r.prio<0):=by rw[bn];simp
 have g2:decide (r.prio<=9)= !decide (r.prio>9):=by rw[bn];simp
 have g3:decide (1<=(r.conds.length:Int))= !decide ((r.conds.length:Int)<1):=by rw[bn];simp
 have g4:decide ((r.conds.length:Int)<=4)= !decide ((r.conds.length:Int)>4):=by rw[bn];simp
 have g5:decide (1<=(r.cc.length:Int))= !decide ((r.cc.length:Int)<1):=by rw[bn];simp
 have g6:decide ((r.cc.length:Int)<=2)= !decide ((r.cc.length:Int)>2):=by rw[bn];simp
 rw[g1,g2,g3,g4,g5,g6];cases wM r.name
 ·rfl
 cases decide (r.prio<0)
 case true=>rfl
 cases decide (r.prio>9)
 case true=>rfl
 cases decide ((r.conds.length:Int)<1)
 case true=>rfl
 cases decide ((r.conds.length:Int)>4)
 case true=>rfl
 cases decide ((r.cc.length:Int)<1)
 case true=>rfl
 cases decide ((r.cc.length:Int)>2)
 case true=>rfl
 cases rV r r.conds 0
 ·rfl
 cases I6 r
 ·rfl
 simp
def DS(name:Bytes):af->Nat->Int
 | [],_=> -1
 |r::rs,i=>bif r.name==name then(i:Int)else DS name rs (i+1)
def JV(all:af):af->Nat->Bool
 | [],_=>true
 |r::rs,i=>(kL r&&decide (DS r.name all 0=(i:Int)))&&JV all rs (i+1)
def th(l:af):Bool:=JV l l 0&&decide ((l.length:Int)<=6)
theorem a0a(l:af)(n:Bytes):ot l n=some (DS n l 0):=by
 unfold ot;have:∀(r:af) (i:Nat),iN l n (some (-1)) r i=some (DS n r i):=by
  intro r
  induction r with
  |nil=>intro i;rfl
  |cons x r ih=>intro i;rw[iN,ih,DS];cases x.name==n<;>rfl
 exact this l 0
theorem a01(l:af)(n:Bytes):oZ l n=some (DS n l 0):=by
 unfold oZ;have:∀(r:af) (i:Nat),iG l n (some (-1)) r i=some (DS n r i):=by
  intro r
  induction r with
  |nil=>intro i;rfl
  |cons x r ih=>intro i;rw[iG,ih,DS];cases x.name==n<;>rfl
 exact this l 0
theorem a2y(l:af)(h:qB aH.wt l<=1048576):oq l=some (th l):=by
 unfold oq;have:∀(r:af) (i:Nat) (k:Option Bool),(∀x∈r,x.wt<=1048576)->iM l k r i=bif JV l r i then k else some false:=by
  intro r
  induction r with
  |nil=>intro i k _;rfl
  |cons x r ih=>
   intro i k hx;rw[iM,a0e x (hx x (by simp)),aA,a0a,aA,ih _ _ (fun y hy=>hx y (by simp[hy])),JV];simp only[bne,gK];cases kL x<;>cases decide (DS x.name l 0=(i:Int))<;>simp
 rw[this _ _ _ (fun x hx=>by have:=qE (w:=aH.wt) hx;omega),ai,th];cases JV l l 0<;>rfl
theorem a2f(l:af)(h:qB aH.wt l<=1048576):oY l=some (th l):=by
 unfold oY;have:∀(r:af) (i:Nat) (k:Option Bool),(∀x∈r,x.wt<=1048576)->iF l k r i=bif JV l r i then k else some false:=by
  intro r
  induction r with
  |nil=>intro i k _;rfl
  |cons x r ih=>
   intro i k hx;rw[iF,a08 x (hx x (by simp)),aA,a01,aA,ih _ _ (fun y hy=>hx y (by simp[hy])),JV];simp only[bne,gK];cases kL x<;>cases decide (DS x.name l 0=(i:Int))<;>simp
 rw[this _ _ _ (fun x hx=>by have:=qE (w:=aH.wt) hx;omega),ai,th];have g:decide ((l.length:Int)<=6)= !decide ((l.length:Int)>6):=by rw[bn];simp
 rw[g];cases JV l l 0<;>cases decide ((l.length:Int)>6)<;>rfl
end Go.Cx
namespace Go.Cx
open Go.RowKit Go.Proofs Tryz
end Go.Cx
namespace Go.Cx
open Go.RowKit Go.Proofs Tryz
def DI(s:Bytes):Option Nat:=if 1<=s.length/\s.length<=4 then(match Lib.decFrom 0 s with|some n=>if Lib.decDigits n=s then some n else none|none=>none)else none
def pI(s:Bytes):Int×Bool:=match DI s with|some n=>((n:Int),true)|none=>(0,false)
theorem S0:∀(u:Nat),∀b∈Lib.decDigits u,48<=b.toNat/\b.toNat<=57:=by
 intro u
 induction u using Nat.strongRecOn with
 |_ u ih=>
  have hb:∀v:Nat,v<10->48<=(UInt8.ofNat (48+v)).toNat/\(UInt8.ofNat (48+v)).toNat<=57:=by
   intro v hv;have:(UInt8.ofNat (48+v)).toNat=48+v:=by simp;omega
   omega
  intro b hm;rw[Lib.decDigits]at hm;split at hm
  ·rename_i h10;simp only[dX]at hm;subst hm;exact hb u h10
  ·rename_i h10;rcases aU.1 hm with hm|hm
   ·exact ih (u/10) (by omega) b hm
   ·simp only[dX]at hm;subst hm;exact hb (u%10) (by omega)
theorem Sp(s:Bytes):mU s=some (pI s):=by
 unfold mU pI DI;by_cases hl:1<=s.length/\s.length<=4
 ·have e1:decide ((s.length:Int)<1)=false:=by simp;omega
  have e2:decide ((s.length:Int)>4)=false:=by simp;omega
  rw[bM hl,e1,ay,e2,ay];unfold wF Ku;rw[bM (by omega)];cases s with
  |nil=>simp at hl
  |cons b t=>
   have fin:∀(m:Nat),Lib.decFrom 0 (b::t)=some m->(bif decide ((m:Int)<0)then some ((0:Int),false)else bif decide ((m:Int)>9999)then some (0,false)else(iW (m:Int)).bind fun y8=>bif !((y8:Bytes)==(b::t))then some (0,false)else some ((m:Int),true))=
    some (match(if Lib.decDigits m=b::t then some m else none)with|some n=>((n:Int),true)|none=>(0,false)):=by
    intro m hd;have hm:=Lib.decFrom_lt (b::t) 0 m hd;have h10:m<10000:=by
     have:=Nat.pow_le_pow_right (n:=10) (by omega) hl.2;omega
    have e3:decide ((m:Int)<0)=false:=by simp
    have e4:decide ((m:Int)>9999)=false:=by simp;omega
    have e5:Lib.itoa (m:Int)=Lib.decDigits m:=by unfold Lib.itoa;rw[b9 (by omega)];simp
    rw[e3,ay,e4,ay,Y1,aA,e5];by_cases he:Lib.decDigits m=b::t
    ·rw[bM he,he];simp
    ·rw[b9 he];have:(Lib.decDigits m==(b::t))=false:=by simpa using he
     rw[this];rfl
   have sign:∀(n:Int),b.toNat<48->(bif decide (n<0)then some ((0:Int),false)else bif decide (n>9999)then some (0,false)else(iW n).bind fun y8=>bif !((y8:Bytes)==(b::t))then some (0,false)else some (n,true))=some (0,false):=by
    intro n hb;by_cases hn:n<0
    ·rw[cV hn];rfl
    rw[bL hn,ay,Y1,aA];cases decide (n>9999)with
    |true=>rfl
    |false=>
     have e5:Lib.itoa n=Lib.decDigits n.toNat:=by unfold Lib.itoa;rw[b9 hn]
     have:(Lib.itoa n==(b::t))=false:=by
      rw[e5,dK];intro h;have:=S0 n.toNat b (by rw[h];simp);omega
     rw[this];rfl
   simp only[Lib.atoi];by_cases hb:b=45
   ·subst hb;have hd:Lib.decFrom 0 ((45:UInt8)::t)=none:=by simp[Lib.decFrom,Lib.digitVal]
    rw[bM (by decide),hd];cases Lib.decNat t with
    |none=>rfl
    |some m=>exact sign _ (by decide)
   ·rw[b9 (by simpa using hb)];by_cases NN:b=43
    ·subst NN;have hd:Lib.decFrom 0 ((43:UInt8)::t)=none:=by simp[Lib.decFrom,Lib.digitVal]
     rw[bM (by decide),hd];cases Lib.decNat t with
     |none=>rfl
     |some m=>exact sign (m:Int) (by decide)
    ·rw[b9 (by simpa using NN)];have hdn:Lib.decNat (b::t)=Lib.decFrom 0 (b::t):=by simp[Lib.decNat]
     rw[hdn];cases hd:Lib.decFrom 0 (b::t)with
     |none=>rfl
     |some m=>exact fin m hd
 ·rw[b9 hl];by_cases h1:(s.length:Int)<1
  ·rw[cV h1];rfl
  ·have h2:(s.length:Int)>4:=by omega
   rw[bL h1,ay,cV h2];rfl
def yf(a b:Bytes):Int:=if Op.bytesLess a b=true then-1 else if a=b then 0 else 1
def IC(x y:Int):Int:=if x<y then-1 else if x>y then 1 else 0
def IA(a b:Bytes):Int:=match DI a,DI b with
 |some x,some y=>IC x y
 |some _,none=> -1
 |none,some _=>1
 |none,none=>yf a b
def tJ{α:Type}(g:α->α->Int):List α->List α->Option Int
 |x::xs,y::ys=>if g x y≠0 then some (g x y)else tJ g xs ys
 |_,_=>none
def cmpL{α:Type}(g:α->α->Int)(a b:List α):Int:=match tJ g a b with|some z=>z|none=>IC a.length b.length
def F1(a b:aL):Int:=if a.rel≠b.rel then yf a.rel b.rel else cmpL IA a.args b.args
theorem V1{a b:Bytes}(h:a≠b):yf a b≠0:=by
 unfold yf;split
 ·omega
 ·first|omega| (rw[b9 h];omega)
theorem Q9(a:Bytes):yf a a=0:=by
 unfold yf;rw[s7];simp
def chainB:Option aL->ar->Bool
 |_,[]=>true
 |p,x::xs=>Bj x&&(match p with|some q=>decide (F1 q x<0)|none=>true)&&chainB (some x) xs
def Aj(l:ar):Bool:=chainB none l&&decide (l.length<=24)
end Go.Cx

/- What functions of the program compute, and the walks that show it. No condition. -/
import Derived.Test.YtbeaohmbmfjabaaGreatDoorPRebuildNetworkG4
set_option linter.unusedVariables false
set_option linter.unusedSimpArgs false
namespace Go.Cx
open Go.RowKit Go.Proofs Tryz
set_option maxRecDepth 100000
variable{Γ:w5}{N:Nat->St->Prop}
def js(aB:Bytes)(aW:aT)(k1:Option Bytes):aT->Nat->Option Bytes
 | [],i1=>(k1)
 |bD::bZ,i1=>(bif (bD.var:Bytes)==aB then(some bD.value)else(js aB aW k1 bZ (i1+1)))
def lK(aB:Bytes)(aW:aT):Option Bytes:=(js aB aW (some aB) aW 0)
def Jz(aB:Bytes)(aW:aT)(cT:Int):St:=⟨[(0,D.str aB),(1,D.sl (aW.map aS.c)),(5,D.int .i64 cT)],[]⟩
theorem Hp(hΓ:Γ.nt=25){aB:Bytes}{aW:aT}{r:Bytes}{k1:Option Bytes}(cX:k1=some r->Ax Γ N f242 (.q [[none]] (D.str r)) [1,1] ⟨[(0,D.str aB)],[]⟩)(hm1:aW.length<=maxLen):∀(rest:aT) (i1:Nat),aW.drop i1=rest->js aB aW k1 rest i1=some r->Ar Γ N f242 (.q [[none]] (D.str r)) [1,0,1,0] (rest.length+1) (Jz aB aW (i1:Int)):=by
 intro rest
 induction rest with
 |nil=>
  intro i1 aj h;rw[js]at h;refine aO fun N1 bz bg=>?_
  exact((aU.ge aS.c aj).a [.hl 0 [0] []]).ex hΓ bz (cX h)
 |cons bD bZ ih1=>
  intro i1 aj h;rw[js]at h;refine aO fun N1 bz bg=>?_
  have dJ:=((aU.lt aS.c aj).l (ax aS.c 2 (dc aj) rfl))
  obtain⟨h13,h⟩|⟨h13,h⟩:=aM h
  ·cases h;exact((dJ.b h13).l (ax aS.c 2 (dc aj) rfl)).ret hΓ
  ·exact((dJ.b h13).a [.cn [0,1,5] []]).ct hΓ bg (iS aj hm1) (ih1 (i1+1) (dn aj) h)
theorem vp{aB:Bytes}{aW:aT}{r:Bytes}(h:lK aB aW=some r):Good prog 242 [D.str aB,D.sl (aW.map aS.c)] (D.str r):=by
 refine gd func242 [[none]] 25 fun hr Γ hΓ=>?_
 rw[lK]at h;refine(aU.a [.cn [0,1,5] []]).lp hΓ (Hp hΓ (fun h=>?_) (by have:=(dY.sl (hr _ (aC (i:=1) rfl))).1;simpa using this) aW 0 rfl h);have h:=aG h;subst h;exact aU.ret hΓ
def lH(aB:aQ)(aW:aT)(y1:Bytes)(y3:Bytes)(k1:aJ->Option aQ):aJ->Nat->aJ->Option aQ
 | [],i1,eN=>(k1 eN)
 |bD::bZ,i1,eN=>((lK bD aW).bind fun ZC=>(bif room ((eN.map tx).length+([[D.str ZC]]).length) 16 then(lH aB aW y1 y3 k1 bZ (i1+1) (eN++([ZC])))else none))
def jx(aB:aQ)(aW:aT):Option aQ:=((lK aB.left aW).bind fun y1=>((lK aB.right aW).bind fun y3=>(lH aB aW y1 y3 (fun(sM:aJ)=>(some (⟨aB.kind,(⟨aB.pat.rel,sM⟩:aE),y1,y3⟩:aQ))) aB.pat.args 0 ([]:aJ))))
def AI(aB:aQ)(aW:aT)(y1:Bytes)(y3:Bytes)(W0:List aR)(cT:Int):St:=⟨[(1,D.sl (aW.map aS.c)),(2,D.ptr 0 0),(4,D.ptr 1 0),(5,D.ptr 2 0),(6,D.int .i64 cT)],[Ob.box (aQ.c aB),Ob.box [D.int .i64 0,D.str ([]),D.nil,D.str ([]),D.str ([])],Ob.box [D.int .i64 aB.kind,D.str aB.pat.rel,D.acc 3,D.str y1,D.str y3],Ob.row .uq 9 1 W0]⟩
theorem G7(hΓ:Γ.nt=46){aB:aQ}{aW:aT}{y1:Bytes}{y3:Bytes}{r:aQ}{k1:aJ->Option aQ}(cX:∀(sM:aJ),k1 sM=some r->Ax Γ N f177 (.q [[none,none,some (9,1),none,none]] (D.agg [D.int .i64 r.kind,D.str r.pat.rel,D.fr 9 1 (r.pat.args.map tx),D.str r.left,D.str r.right])) [1,1,1] ⟨[(4,D.ptr 0 0),(5,D.ptr 1 0)],[Ob.box [D.int .i64 0,D.str ([]),D.nil,D.str ([]),D.str ([])],Ob.box [D.int .i64 aB.kind,D.str aB.pat.rel,D.acc 2,D.str y1,D.str y3],Ob.row .uq 9 1 (sM.map tx)]⟩)(hm1:aB.pat.args.length<=maxLen):∀(rest:aJ) (i1:Nat) (eN:aJ),aB.pat.args.drop i1=rest->lH aB aW y1 y3 k1 rest i1 eN=some r->Ar Γ N f177 (.q [[none,none,some (9,1),none,none]] (D.agg [D.int .i64 r.kind,D.str r.pat.rel,D.fr 9 1 (r.pat.args.map tx),D.str r.left,D.str r.right])) [1,1,0,1,0] (rest.length+1) (AI aB aW y1 y3 (eN.map tx) (i1:Int)):=by
 intro rest
 induction rest with
 |nil=>
  intro i1 eN aj h;rw[lH]at h;refine aO fun N1 bz bg=>?_
  exact((aU.ge tx aj).a [.hl 0 [4,5] [1,2,3]]).ex hΓ bz (cX eN h)
 |cons bD bZ ih1=>
  intro i1 eN aj h;rw[lH]at h;refine aO fun N1 bz bg=>?_
  obtain⟨ZC,h32,h⟩:=aD h;obtain⟨h33,h⟩:=bV h;exact((((((aU.lt tx aj).a [.n 12]).l (ax tx 1 (dc aj) rfl)).g (vp h32)).w (cB h33)).a [.cn [1,2,4,5,6] [0,1,2,5]]).cs hΓ bg (AI aB aW y1 y3 ((eN.map tx)++([[D.str ZC]])) (IntKind.i64.wrap ((i1:Int)+1))) (by first| (simp only[iS aj hm1,mA]<;>rfl)| (simp only[iS aj hm1,mA,aE.c,aS.c,aQ.c,Action.c,aN.c,aI.c,cu.c,aP.c,Node.c,aF.c,cw.c]<;>rfl)) (ih1 (i1+1) (eN++([ZC])) (dn aj) h)
theorem jV{aB:aQ}{aW:aT}{r:aQ}(h:jx aB aW=some r):Good prog 177 [D.agg (aQ.c aB),D.sl (aW.map aS.c)] (D.agg [D.int .i64 r.kind,D.str r.pat.rel,D.fr 9 1 (r.pat.args.map tx),D.str r.left,D.str r.right]):=by
 refine gd func177 [[none,none,some (9,1),none,none]] 46 fun hr Γ hΓ=>?_
 rw[jx]at h;obtain⟨y1,h2,h⟩:=aD h;obtain⟨y3,h4,h⟩:=aD h;refine((((aU.a [.n 16]).g (vp h2)).g (vp h4)).a [.pb 2 2 9 1,.cn [1,2,4,5,6] [0,1,2,3]]).lp hΓ (G7 hΓ (fun sM h=>?_) (by have:=(dY.sl (dY.agg (hr _ (aC (i:=0) rfl)) (.sl (aB.pat.args.map tx)) (by simp))).1;simpa using this) aB.pat.args 0 ([]:aJ) rfl h);cases h;exact aU.ret hΓ
def kB(aB:aQ):Option aQ:=((jx aB ([])).bind fun y1=>(some y1))
theorem qW{aB:aQ}{r:aQ}(h:kB aB=some r):Good prog 105 [D.agg (aQ.c aB)] (D.agg [D.int .i64 r.kind,D.str r.pat.rel,D.fr 9 1 (r.pat.args.map tx),D.str r.left,D.str r.right]):=by
 refine gd func105 [[none,none,some (9,1),none,none]] 5 fun hr Γ hΓ=>?_
 rw[kB]at h;obtain⟨y1,h2,h⟩:=aD h;have h:=aG h;subst h;exact((aU.a [.d (D.agg [D.int .i64 y1.kind,D.str y1.pat.rel,D.fr 9 1 (y1.pat.args.map tx),D.str y1.left,D.str y1.right])]).w (show Good prog 177 [D.agg (aQ.c aB),D.sl ([])] (D.agg [D.int .i64 y1.kind,D.str y1.pat.rel,D.fr 9 1 (y1.pat.args.map tx),D.str y1.left,D.str y1.right])from by first| (simpa only[bN,bG,bW,dB,cm]using jV h2)|exact jV h2)).ret hΓ
def tf(aB:aJ):Option aJ:=(bif room (([]:List aR).length+(aB.map tx).length) 16 then(some (([]:aJ)++aB))else none)
theorem BB{aB:aJ}{r:aJ}(h:tf aB=some r):Good prog 176 [D.sl (aB.map tx)] (D.fr 9 1 (r.map tx)):=by
 refine gd func176 [[some (9,1)]] 6 fun hr Γ hΓ=>?_
 rw[tf]at h;obtain⟨h1,h⟩:=bV h;cases h;exact(((aU.w (cB h1)).w (show(∀r∈(aB.map tx),r.length=1)/\(true=true->D.oA (aB.map tx)=true)from⟨by first|simp| (intro r hr;obtain⟨x,_,rfl⟩:=cJ.1 (cH (gP hr));rfl),by simp[D.oA,D.flat]⟩)).a [.Pt 2,.fl true]).rts hΓ (D.fr 9 1 (([]:List aR)++(aB.map tx))) (by first|rfl| (simp only[mA]<;>rfl))
def eU(aB:aE):Option aE:=((tf aB.args).bind fun y1=>(some (⟨aB.rel,y1⟩:aE)))
theorem xH{aB:aE}{r:aE}(h:eU aB=some r):Good prog 104 [D.agg (aE.c aB)] (D.agg [D.str r.rel,D.fr 9 1 (r.args.map tx)]):=by
 refine gd func104 [[none,some (9,1)]] 9 fun hr Γ hΓ=>?_
 rw[eU]at h;obtain⟨y1,h2,h⟩:=aD h;cases h;exact((aU.a [.n 5]).g (BB h2)).ret hΓ
def qH(aB:aN)(k1:aq->Option aN):aq->Nat->aq->Option aN
 | [],i1,eN=>(k1 eN)
 |bD::bZ,i1,eN=>((kB bD).bind fun IN=>(bif room ((eN.map aQ.c).length+([[D.int .i64 IN.kind,D.str IN.pat.rel,D.sl (IN.pat.args.map tx),D.str IN.left,D.str IN.right]]).length) 80 then(qH aB k1 bZ (i1+1) (eN++([IN])))else none))
def nc(aB:aN)(fV:aq)(k2:c8->Option aN):c8->Nat->c8->Option aN
 | [],i2,pJ=>(k2 pJ)
 |lV::wu,i2,pJ=>((eU lV.pat).bind fun y92=>(bif room ((pJ.map Action.c).length+([[D.int .i64 lV.kind,D.str y92.rel,D.sl (y92.args.map tx)]]).length) 48 then(nc aB fV k2 wu (i2+1) (pJ++([(⟨lV.kind,y92⟩:Action)])))else none))
def vV(aB:aN):Option aN:=(qH aB (fun(fV:aq)=>(nc aB fV (fun(CI:c8)=>(some (⟨aB.name,aB.prio,fV,CI⟩:aN))) aB.cv 0 ([]:c8))) aB.conds 0 ([]:aq))
def Dm(aB:aN)(W0:List aR)(cT:Int):St:=⟨[(1,D.ptr 0 0),(2,D.ptr 1 0),(3,D.ptr 2 0),(4,D.int .i64 cT)],[Ob.box (aN.c aB),Ob.box [D.str ([]),D.int .i64 0,D.nil,D.nil],Ob.box [D.str aB.name,D.int .i64 aB.prio,D.acc 3,D.nil],Ob.row .uq 115 5 W0]⟩
theorem NM(hΓ:Γ.nt=56){aB:aN}{r:aN}{k1:aq->Option aN}(cX:∀(fV:aq),k1 fV=some r->Ax Γ N f175 (.q [[none,none,some (115,5),some (199,3)]] (D.agg [D.str r.name,D.int .i64 r.prio,D.fr 115 5 (r.conds.map aQ.c),D.fr 199 3 (r.cv.map Action.c)])) [1,1,1] ⟨[(1,D.ptr 0 0),(2,D.ptr 1 0),(3,D.ptr 2 0)],[Ob.box (aN.c aB),Ob.box [D.str ([]),D.int .i64 0,D.nil,D.nil],Ob.box [D.str aB.name,D.int .i64 aB.prio,D.acc 3,D.nil],Ob.row .uq 115 5 (fV.map aQ.c)]⟩)(hm1:aB.conds.length<=maxLen):∀(rest:aq) (i1:Nat) (eN:aq),aB.conds.drop i1=rest->qH aB k1 rest i1 eN=some r->Ar Γ N f175 (.q [[none,none,some (115,5),some (199,3)]] (D.agg [D.str r.name,D.int .i64 r.prio,D.fr 115 5 (r.conds.map aQ.c),D.fr 199 3 (r.cv.map Action.c)])) [1,1,0,1,0] (rest.length+1) (Dm aB (eN.map aQ.c) (i1:Int)):=by
 intro rest
 induction rest with
 |nil=>
  intro i1 eN aj h;rw[qH]at h;refine aO fun N1 bz bg=>?_
  exact((aU.ge aQ.c aj).a [.hl 0 [1,2,3] [0,1,2,3]]).ex hΓ bz (cX eN h)
 |cons bD bZ ih1=>
  intro i1 eN aj h;rw[qH]at h;refine aO fun N1 bz bg=>?_
  obtain⟨IN,h46,h⟩:=aD h;obtain⟨h47,h⟩:=bV h;exact((((((aU.lt aQ.c aj).a [.n2 [0,1,2,3,4,5,6,7,8,9,10,11] [0,1,2,3,4,5,6,7,8,9,10,11] 8 9 [0,1] [4]]).l (ax aQ.c 5 (dc aj) rfl)).g (qW h46)).w (cB h47)).a [.cn [1,2,3,4] [0,1,2,6]]).cs hΓ bg (Dm aB ((eN.map aQ.c)++([[D.int .i64 IN.kind,D.str IN.pat.rel,D.sl (IN.pat.args.map tx),D.str IN.left,D.str IN.right]])) (IntKind.i64.wrap ((i1:Int)+1))) (by first| (simp only[iS aj hm1,mA]<;>rfl)| (simp only[iS aj hm1,mA,aE.c,aS.c,aQ.c,Action.c,aN.c,aI.c,cu.c,aP.c,Node.c,aF.c,cw.c]<;>rfl)) (ih1 (i1+1) (eN++([IN])) (dn aj) h)
def Dn(aB:aN)(fV:aq)(W0:List aR)(cT:Int):St:=⟨[(1,D.ptr 0 0),(2,D.ptr 1 0),(3,D.ptr 2 0),(5,D.int .i64 cT)],[Ob.box (aN.c aB),Ob.box [D.str ([]),D.int .i64 0,D.nil,D.nil],Ob.box [D.str aB.name,D.int .i64 aB.prio,D.acc 3,D.acc 4],Ob.row .uq 115 5 (fV.map aQ.c),Ob.row .uq 199 3 W0]⟩
theorem NN(hΓ:Γ.nt=56){aB:aN}{fV:aq}{r:aN}{k2:c8->Option aN}(Cn:∀(CI:c8),k2 CI=some r->Ax Γ N f175 (.q [[none,none,some (115,5),some (199,3)]] (D.agg [D.str r.name,D.int .i64 r.prio,D.fr 115 5 (r.conds.map aQ.c),D.fr 199 3 (r.cv.map Action.c)])) [1,1,1,1] ⟨[(2,D.ptr 0 0),(3,D.ptr 1 0)],[Ob.box [D.str ([]),D.int .i64 0,D.nil,D.nil],Ob.box [D.str aB.name,D.int .i64 aB.prio,D.acc 2,D.acc 3],Ob.row .uq 115 5 (fV.map aQ.c),Ob.row .uq 199 3 (CI.map Action.c)]⟩)(hm2:aB.cv.length<=maxLen):∀(rest:c8) (i2:Nat) (pJ:c8),aB.cv.drop i2=rest->nc aB fV k2 rest i2 pJ=some r->Ar Γ N f175 (.q [[none,none,some (115,5),some (199,3)]] (D.agg [D.str r.name,D.int .i64 r.prio,D.fr 115 5 (r.conds.map aQ.c),D.fr 199 3 (r.cv.map Action.c)])) [1,1,1,0,1,0] (rest.length+1) (Dn aB fV (pJ.map Action.c) (i2:Int)):=by
 intro rest
 induction rest with
 |nil=>
  intro i2 pJ hd2 h;rw[nc]at h;refine aO fun N2 xo uz=>?_
  exact((aU.ge Action.c hd2).a [.hl 0 [2,3] [1,2,3,4]]).ex hΓ xo (Cn pJ h)
 |cons lV wu ih2=>
  intro i2 pJ hd2 h;rw[nc]at h;refine aO fun N2 xo uz=>?_
  obtain⟨y92,h93,h⟩:=aD h;obtain⟨h94,h⟩:=bV h;exact(((((((aU.lt Action.c hd2).a [.n2 [0,1,2,3,4,5,6,7,8,9,10,11,12,13,14,15,16,17,18,19] [0,1,2,3,4,5,6,7,8,9,10,11,12,13,14,15,16,17,18,19] 16 17 [0,1] [5]]).l (ax Action.c 3 (dc hd2) rfl)).l (ax Action.c 3 (dc hd2) rfl)).g (xH h93)).w (cB h94)).a [.cn [1,2,3,5] [0,1,2,3,7]]).cs hΓ uz (Dn aB fV ((pJ.map Action.c)++([[D.int .i64 lV.kind,D.str y92.rel,D.sl (y92.args.map tx)]])) (IntKind.i64.wrap ((i2:Int)+1))) (by first| (simp only[iS hd2 hm2,mA]<;>rfl)| (simp only[iS hd2 hm2,mA,aE.c,aS.c,aQ.c,Action.c,aN.c,aI.c,cu.c,aP.c,Node.c,aF.c,cw.c]<;>rfl)) (ih2 (i2+1) (pJ++([(⟨lV.kind,y92⟩:Action)])) (dn hd2) h)
theorem M0{aB:aN}{r:aN}(h:vV aB=some r):Good prog 175 [D.agg (aN.c aB)] (D.agg [D.str r.name,D.int .i64 r.prio,D.fr 115 5 (r.conds.map aQ.c),D.fr 199 3 (r.cv.map Action.c)]):=by
 refine gd func175 [[none,none,some (115,5),some (199,3)]] 56 fun hr Γ hΓ=>?_
 rw[vV]at h;refine(aU.a [.pb 2 2 115 5,.cn [1,2,3,4] [0,1,2,3]]).lp hΓ (NM hΓ (fun fV h=>?_) (by have:=(dY.sl (dY.agg (hr _ (aC (i:=0) rfl)) (.sl (aB.conds.map aQ.c)) (by simp))).1;simpa using this) aB.conds 0 ([]:aq) rfl h);refine(aU.a [.pb 2 3 199 3,.cn [1,2,3,5] [0,1,2,3,4]]).lp hΓ (NN hΓ (fun CI h=>?_) (by have:=(dY.sl (dY.agg (hr _ (aC (i:=0) rfl)) (.sl (aB.cv.map Action.c)) (by simp))).1;simpa using this) aB.cv 0 ([]:c8) rfl h);cases h;exact aU.ret hΓ
def nZ(aB:ar)(k1:ar->Option ar):ar->Nat->ar->Option ar
 | [],i1,bC=>(k1 bC)
 |bD::bZ,i1,bC=>((vV bD).bind fun pY=>(bif room ((bC.map aN.c).length+([[D.str pY.name,D.int .i64 pY.prio,D.sl (pY.conds.map aQ.c),D.sl (pY.cv.map Action.c)]]).length) 72 then(nZ aB k1 bZ (i1+1) (bC++([pY])))else none))
def rE(aB:ar):Option ar:=(nZ aB (fun(bQ:ar)=>(some bQ)) aB 0 ([]:ar))
def C7(aB:ar)(W0:List aR)(cT:Int):St:=⟨[(0,D.sl (aB.map aN.c)),(3,D.acc 0),(4,D.int .i64 cT)],[Ob.row .uq 105 4 W0]⟩
theorem K1(hΓ:Γ.nt=21){aB:ar}{r:ar}{k1:ar->Option ar}(cX:∀(bQ:ar),k1 bQ=some r->Ax Γ N f102 (.q [[some (105,4)]] (D.fr 105 4 (r.map aN.c))) [1,1,1] ⟨[(3,D.acc 0)],[Ob.row .uq 105 4 (bQ.map aN.c)]⟩)(hm1:aB.length<=maxLen):∀(rest:ar) (i1:Nat) (bC:ar),aB.drop i1=rest->nZ aB k1 rest i1 bC=some r->Ar Γ N f102 (.q [[some (105,4)]] (D.fr 105 4 (r.map aN.c))) [1,1,0,1,0] (rest.length+1) (C7 aB (bC.map aN.c) (i1:Int)):=by
 intro rest
 induction rest with
 |nil=>
  intro i1 bC aj h;rw[nZ]at h;refine aO fun N1 bz bg=>?_
  exact((aU.ge aN.c aj).a [.hl 0 [3] [0]]).ex hΓ bz (cX bC h)
 |cons bD bZ ih1=>
  intro i1 bC aj h;rw[nZ]at h;refine aO fun N1 bz bg=>?_
  obtain⟨pY,h28,h⟩:=aD h;obtain⟨h29,h⟩:=bV h;exact(((((aU.lt aN.c aj).l (ax aN.c 4 (dc aj) rfl)).g (M0 h28)).w (cB h29)).a [.cn [0,3,4] [4]]).cs hΓ bg (C7 aB ((bC.map aN.c)++([[D.str pY.name,D.int .i64 pY.prio,D.sl (pY.conds.map aQ.c),D.sl (pY.cv.map Action.c)]])) (IntKind.i64.wrap ((i1:Int)+1))) (by first| (simp only[iS aj hm1,mA]<;>rfl)| (simp only[iS aj hm1,mA,aE.c,aS.c,aQ.c,Action.c,aN.c,aI.c,cu.c,aP.c,Node.c,aF.c,cw.c]<;>rfl)) (ih1 (i1+1) (bC++([pY])) (dn aj) h)
theorem AK{aB:ar}{r:ar}(h:rE aB=some r):Good prog 102 [D.sl (aB.map aN.c)] (D.fr 105 4 (r.map aN.c)):=by
 refine gd func102 [[some (105,4)]] 21 fun hr Γ hΓ=>?_
 rw[rE]at h;refine(aU.a [.cn [0,3,4] [0]]).lp hΓ (K1 hΓ (fun bQ h=>?_) (by have:=(dY.sl (hr _ (aC (i:=0) rfl))).1;simpa using this) aB 0 ([]:ar) rfl h);have h:=aG h;subst h;exact aU.ret hΓ
def xk(aB:bI):Option bI:=(bif room (([]:List aR).length+(aB.map dL).length) 8 then(some (([]:bI)++aB))else none)
theorem Lz{aB:bI}{r:bI}(h:xk aB=some r):Good prog 103 [D.sl (aB.map dL)] (D.fr 3 1 (r.map dL)):=by
 refine gd func103 [[some (3,1)]] 6 fun hr Γ hΓ=>?_
 rw[xk]at h;obtain⟨h1,h⟩:=bV h;cases h;exact(((aU.w (cB h1)).w (show(∀r∈(aB.map dL),r.length=1)/\(true=true->D.oA (aB.map dL)=true)from⟨by first|simp| (intro r hr;obtain⟨x,_,rfl⟩:=cJ.1 (cH (gP hr));rfl),by simp[D.oA,D.flat]⟩)).a [.Pt 2,.fl true]).rts hΓ (D.fr 3 1 (([]:List aR)++(aB.map dL))) (by first|rfl| (simp only[mA]<;>rfl))
def fA(aB:aE):Option aE:=((tf aB.args).bind fun y1=>(some (⟨aB.rel,y1⟩:aE)))
theorem gr{aB:aE}{r:aE}(h:fA aB=some r):Good prog 152 [D.agg (aE.c aB)] (D.agg [D.str r.rel,D.fr 9 1 (r.args.map tx)]):=by
 refine gd func152 [[none,some (9,1)]] 9 fun hr Γ hΓ=>?_
 rw[fA]at h;obtain⟨y1,h2,h⟩:=aD h;cases h;exact((aU.a [.n 5]).g (BB h2)).ret hΓ
def nY(aB:aL)(k1:aL->Option aL):aL->Nat->aL->Option aL
 | [],i1,bC=>(k1 bC)
 |bD::bZ,i1,bC=>((fA bD).bind fun pY=>(bif room ((bC.map aE.c).length+([[D.str pY.rel,D.sl (pY.args.map tx)]]).length) 40 then(nY aB k1 bZ (i1+1) (bC++([pY])))else none))
def dW(aB:aL):Option aL:=(nY aB (fun(bQ:aL)=>(some bQ)) aB 0 ([]:aL))
def C5(aB:aL)(W0:List aR)(cT:Int):St:=⟨[(0,D.sl (aB.map aE.c)),(3,D.acc 0),(4,D.int .i64 cT)],[Ob.row .uq 53 2 W0]⟩
theorem Jy(hΓ:Γ.nt=21){aB:aL}{r:aL}{k1:aL->Option aL}(cX:∀(bQ:aL),k1 bQ=some r->Ax Γ N f93 (.q [[some (53,2)]] (D.fr 53 2 (r.map aE.c))) [1,1,1] ⟨[(3,D.acc 0)],[Ob.row .uq 53 2 (bQ.map aE.c)]⟩)(hm1:aB.length<=maxLen):∀(rest:aL) (i1:Nat) (bC:aL),aB.drop i1=rest->nY aB k1 rest i1 bC=some r->Ar Γ N f93 (.q [[some (53,2)]] (D.fr 53 2 (r.map aE.c))) [1,1,0,1,0] (rest.length+1) (C5 aB (bC.map aE.c) (i1:Int)):=by
 intro rest
 induction rest with
 |nil=>
  intro i1 bC aj h;rw[nY]at h;refine aO fun N1 bz bg=>?_
  exact((aU.ge aE.c aj).a [.hl 0 [3] [0]]).ex hΓ bz (cX bC h)
 |cons bD bZ ih1=>
  intro i1 bC aj h;rw[nY]at h;refine aO fun N1 bz bg=>?_
  obtain⟨pY,h28,h⟩:=aD h;obtain⟨h29,h⟩:=bV h;exact(((((aU.lt aE.c aj).l (ax aE.c 2 (dc aj) rfl)).g (gr h28)).w (cB h29)).a [.cn [0,3,4] [3]]).cs hΓ bg (C5 aB ((bC.map aE.c)++([[D.str pY.rel,D.sl (pY.args.map tx)]])) (IntKind.i64.wrap ((i1:Int)+1))) (by first| (simp only[iS aj hm1,mA]<;>rfl)| (simp only[iS aj hm1,mA,aE.c,aS.c,aQ.c,Action.c,aN.c,aI.c,cu.c,aP.c,Node.c,aF.c,cw.c]<;>rfl)) (ih1 (i1+1) (bC++([pY])) (dn aj) h)
theorem fK{aB:aL}{r:aL}(h:dW aB=some r):Good prog 93 [D.sl (aB.map aE.c)] (D.fr 53 2 (r.map aE.c)):=by
 refine gd func93 [[some (53,2)]] 21 fun hr Γ hΓ=>?_
 rw[dW]at h;refine(aU.a [.cn [0,3,4] [0]]).lp hΓ (Jy hΓ (fun bQ h=>?_) (by have:=(dY.sl (hr _ (aC (i:=0) rfl))).1;simpa using this) aB 0 ([]:aL) rfl h);have h:=aG h;subst h;exact aU.ret hΓ
def sH(aB:aT):Option aT:=(bif room (([]:List aR).length+(aB.map aS.c).length) 32 then(some (([]:aT)++aB))else none)
theorem yN{aB:aT}{r:aT}(h:sH aB=some r):Good prog 227 [D.sl (aB.map aS.c)] (D.fr 152 2 (r.map aS.c)):=by
 refine gd func227 [[some (152,2)]] 6 fun hr Γ hΓ=>?_
 rw[sH]at h;obtain⟨h1,h⟩:=bV h;cases h;exact(((aU.w (cB h1)).w (show(∀r∈(aB.map aS.c),r.length=2)/\(true=true->D.oA (aB.map aS.c)=true)from⟨by first|simp| (intro r hr;obtain⟨x,_,rfl⟩:=cJ.1 (cH (gP hr));rfl),by simp[D.oA,D.flat]⟩)).a [.Pt 2,.fl true]).rts hΓ (D.fr 152 2 (([]:List aR)++(aB.map aS.c))) (by first|rfl| (simp only[mA]<;>rfl))
def sI(aB:aI):Option aI:=((dW aB.facts).bind fun y1=>((sH aB.bind).bind fun y3=>(some (⟨y1,y3⟩:aI))))
theorem C8{aB:aI}{r:aI}(h:sI aB=some r):Good prog 178 [D.agg (aI.c aB)] (D.agg [D.fr 53 2 (r.facts.map aE.c),D.fr 152 2 (r.bind.map aS.c)]):=by
 refine gd func178 [[some (53,2),some (152,2)]] 10 fun hr Γ hΓ=>?_
 rw[sI]at h;obtain⟨y1,h2,h⟩:=aD h;obtain⟨y3,h4,h⟩:=aD h;cases h;exact(((aU.a [.n 5]).g (fK h2)).g (yN h4)).ret hΓ
def jW(aB:ah)(k1:ah->Option ah):ah->Nat->ah->Option ah
 | [],i1,bC=>(k1 bC)
 |bD::bZ,i1,bC=>((sI bD).bind fun pY=>(bif room ((bC.map aI.c).length+([[D.sl (pY.facts.map aE.c),D.sl (pY.bind.map aS.c)]]).length) 48 then(jW aB k1 bZ (i1+1) (bC++([pY])))else none))
def jt(aB:ah):Option ah:=(jW aB (fun(bQ:ah)=>(some bQ)) aB 0 ([]:ah))
def zB(aB:ah)(W0:List aR)(cT:Int):St:=⟨[(0,D.sl (aB.map aI.c)),(3,D.acc 0),(4,D.int .i64 cT)],[Ob.row .uq 124 2 W0]⟩
theorem Ds(hΓ:Γ.nt=21){aB:ah}{r:ah}{k1:ah->Option ah}(cX:∀(bQ:ah),k1 bQ=some r->Ax Γ N f106 (.q [[some (124,2)]] (D.fr 124 2 (r.map aI.c))) [1,1,1] ⟨[(3,D.acc 0)],[Ob.row .uq 124 2 (bQ.map aI.c)]⟩)(hm1:aB.length<=maxLen):∀(rest:ah) (i1:Nat) (bC:ah),aB.drop i1=rest->jW aB k1 rest i1 bC=some r->Ar Γ N f106 (.q [[some (124,2)]] (D.fr 124 2 (r.map aI.c))) [1,1,0,1,0] (rest.length+1) (zB aB (bC.map aI.c) (i1:Int)):=by
 intro rest
 induction rest with
 |nil=>
  intro i1 bC aj h;rw[jW]at h;refine aO fun N1 bz bg=>?_
  exact((aU.ge aI.c aj).a [.hl 0 [3] [0]]).ex hΓ bz (cX bC h)
 |cons bD bZ ih1=>
  intro i1 bC aj h;rw[jW]at h;refine aO fun N1 bz bg=>?_
  obtain⟨pY,h28,h⟩:=aD h;obtain⟨h29,h⟩:=bV h;exact(((((aU.lt aI.c aj).l (ax aI.c 2 (dc aj) rfl)).g (C8 h28)).w (cB h29)).a [.cn [0,3,4] [4]]).cs hΓ bg (zB aB ((bC.map aI.c)++([[D.sl (pY.facts.map aE.c),D.sl (pY.bind.map aS.c)]])) (IntKind.i64.wrap ((i1:Int)+1))) (by first| (simp only[iS aj hm1,mA]<;>rfl)| (simp only[iS aj hm1,mA,aE.c,aS.c,aQ.c,Action.c,aN.c,aI.c,cu.c,aP.c,Node.c,aF.c,cw.c]<;>rfl)) (ih1 (i1+1) (bC++([pY])) (dn aj) h)
theorem D7{aB:ah}{r:ah}(h:jt aB=some r):Good prog 106 [D.sl (aB.map aI.c)] (D.fr 124 2 (r.map aI.c)):=by
 refine gd func106 [[some (124,2)]] 21 fun hr Γ hΓ=>?_
 rw[jt]at h;refine(aU.a [.cn [0,3,4] [0]]).lp hΓ (Ds hΓ (fun bQ h=>?_) (by have:=(dY.sl (hr _ (aC (i:=0) rfl))).1;simpa using this) aB 0 ([]:ah) rfl h);have h:=aG h;subst h;exact aU.ret hΓ
def ni(aB:aF)(y1:ar)(y3:bI)(y5:aL)(k1:b7->Option aF):b7->Nat->b7->Option aF
 | [],i1,iV=>(k1 iV)
 |bD::bZ,i1,iV=>((eU bD.shape).bind fun MR=>((dW bD.facts).bind fun y75=>(bif room ((iV.map aP.c).length+([[D.str MR.rel,D.sl (MR.args.map tx),D.sl (y75.map aE.c)]]).length) 64 then(ni aB y1 y3 y5 k1 bZ (i1+1) (iV++([(⟨MR,y75⟩:aP)])))else none)))
def nj(aB:aF)(y1:ar)(y3:bI)(y5:aL)(nu:b7)(k2:ay->Option aF):ay->Nat->ay->Option aF
 | [],i2,xD=>(k2 xD)
 |lV::wu,i2,xD=>((kB lV.cond).bind fun DH=>((jt lV.tokens).bind fun a3x=>(bif room ((xD.map Node.c).length+([[D.int .i64 lV.parent,D.int .i64 DH.kind,D.str DH.pat.rel,D.sl (DH.pat.args.map tx),D.str DH.left,D.str DH.right,D.int .i64 lV.cP,D.sl (a3x.map aI.c)]]).length) 120 then(nj aB y1 y3 y5 nu k2 wu (i2+1) (xD++([(⟨lV.parent,DH,lV.cP,a3x⟩:Node)])))else none)))
def pU(aB:aF):Option aF:=((rE aB.rules).bind fun y1=>((xk aB.ends).bind fun y3=>((dW aB.facts).bind fun y5=>(ni aB y1 y3 y5 (fun(nu:b7)=>(nj aB y1 y3 y5 nu (fun(vr:ay)=>(some (⟨y1,y3,nu,vr,y5,aB.bw⟩:aF))) aB.nodes 0 ([]:ay))) aB.av 0 ([]:b7)))))
def Dt(aB:aF)(y1:ar)(y3:bI)(y5:aL)(W0:List aR)(cT:Int):St:=⟨[(1,D.ptr 0 0),(2,D.ptr 1 0),(3,D.ptr 2 0),(4,D.int .i64 cT)],[Ob.box (aF.c aB),Ob.box [D.nil,D.nil,D.nil,D.nil,D.nil,D.int .i64 0],Ob.box [D.acc 3,D.acc 4,D.acc 5,D.nil,D.acc 6,D.int .i64 aB.bw],Ob.row .uq 105 4 (y1.map aN.c),Ob.row .uq 3 1 (y3.map dL),Ob.row .uq 111 3 W0,Ob.row .uq 53 2 (y5.map aE.c)]⟩
theorem NS(hΓ:Γ.nt=75){aB:aF}{y1:ar}{y3:bI}{y5:aL}{r:aF}{k1:b7->Option aF}(cX:∀(nu:b7),k1 nu=some r->Ax Γ N f49 (.q [[some (105,4),some (3,1),some (111,3),some (118,8),some (53,2),none]] (D.agg [D.fr 105 4 (r.rules.map aN.c),D.fr 3 1 (r.ends.map dL),D.fr 111 3 (r.av.map aP.c),D.fr 118 8 (r.nodes.map Node.c),D.fr 53 2 (r.facts.map aE.c),D.int .i64 r.bw])) [1,1,1] ⟨[(1,D.ptr 0 0),(2,D.ptr 1 0),(3,D.ptr 2 0)],[Ob.box (aF.c aB),Ob.box [D.nil,D.nil,D.nil,D.nil,D.nil,D.int .i64 0],Ob.box [D.acc 3,D.acc 4,D.acc 5,D.nil,D.acc 6,D.int .i64 aB.bw],Ob.row .uq 105 4 (y1.map aN.c),Ob.row .uq 3 1 (y3.map dL),Ob.row .uq 111 3 (nu.map aP.c),Ob.row .uq 53 2 (y5.map aE.c)]⟩)(hm1:aB.av.length<=maxLen):∀(rest:b7) (i1:Nat) (iV:b7),aB.av.drop i1=rest->ni aB y1 y3 y5 k1 rest i1 iV=some r->Ar Γ N f49 (.q [[some (105,4),some (3,1),some (111,3),some (118,8),some (53,2),none]] (D.agg [D.fr 105 4 (r.rules.map aN.c),D.fr 3 1 (r.ends.map dL),D.fr 111 3 (r.av.map aP.c),D.fr 118 8 (r.nodes.map Node.c),D.fr 53 2 (r.facts.map aE.c),D.int .i64 r.bw])) [1,1,0,1,0] (rest.length+1) (Dt aB y1 y3 y5 (iV.map aP.c) (i1:Int)):=by
 intro rest
 induction rest with
 |nil=>
  intro i1 iV aj h;rw[ni]at h;refine aO fun N1 bz bg=>?_
  exact((aU.ge aP.c aj).a [.hl 0 [1,2,3] [0,1,2,3,4,5,6]]).ex hΓ bz (cX iV h)
 |cons bD bZ ih1=>
  intro i1 iV aj h;rw[ni]at h;refine aO fun N1 bz bg=>?_
  obtain⟨MR,h74,h⟩:=aD h;obtain⟨y75,h76,h⟩:=aD h;obtain⟨h77,h⟩:=bV h;exact((((((((aU.lt aP.c aj).a [.n2 [0,1,2,3,4,5,6,7,8,9,10,11,12,13,14,15,16,17,18,19,20] [0,1,2,3,4,5,6,7,8,9,10,11,12,13,14,15,16,17,18,19,20] 17 18 [0,1] [7,8]]).l (ax aP.c 3 (dc aj) rfl)).g (xH h74)).l (ax aP.c 3 (dc aj) rfl)).g (fK h76)).w (cB h77)).a [.cn [1,2,3,4] [0,1,2,3,4,10,6]]).cs hΓ bg (Dt aB y1 y3 y5 ((iV.map aP.c)++([[D.str MR.rel,D.sl (MR.args.map tx),D.sl (y75.map aE.c)]])) (IntKind.i64.wrap ((i1:Int)+1))) (by first| (simp only[iS aj hm1,mA]<;>rfl)| (simp only[iS aj hm1,mA,aE.c,aS.c,aQ.c,Action.c,aN.c,aI.c,cu.c,aP.c,Node.c,aF.c,cw.c]<;>rfl)) (ih1 (i1+1) (iV++([(⟨MR,y75⟩:aP)])) (dn aj) h)
def Du(aB:aF)(y1:ar)(y3:bI)(y5:aL)(nu:b7)(W0:List aR)(cT:Int):St:=⟨[(1,D.ptr 0 0),(2,D.ptr 1 0),(3,D.ptr 2 0),(5,D.int .i64 cT)],[Ob.box (aF.c aB),Ob.box [D.nil,D.nil,D.nil,D.nil,D.nil,D.int .i64 0],Ob.box [D.acc 3,D.acc 4,D.acc 5,D.acc 6,D.acc 7,D.int .i64 aB.bw],Ob.row .uq 105 4 (y1.map aN.c),Ob.row .uq 3 1 (y3.map dL),Ob.row .uq 111 3 (nu.map aP.c),Ob.row .uq 118 8 W0,Ob.row .uq 53 2 (y5.map aE.c)]⟩
theorem NT(hΓ:Γ.nt=75){aB:aF}{y1:ar}{y3:bI}{y5:aL}{nu:b7}{r:aF}{k2:ay->Option aF}(Cn:∀(vr:ay),k2 vr=some r->Ax Γ N f49 (.q [[some (105,4),some (3,1),some (111,3),some (118,8),some (53,2),none]] (D.agg [D.fr 105 4 (r.rules.map aN.c),D.fr 3 1 (r.ends.map dL),D.fr 111 3 (r.av.map aP.c),D.fr 118 8 (r.nodes.map Node.c),D.fr 53 2 (r.facts.map aE.c),D.int .i64 r.bw])) [1,1,1,1] ⟨[(2,D.ptr 0 0),(3,D.ptr 1 0)],[Ob.box [D.nil,D.nil,D.nil,D.nil,D.nil,D.int .i64 0],Ob.box [D.acc 2,D.acc 3,D.acc 4,D.acc 5,D.acc 6,D.int .i64 aB.bw],Ob.row .uq 105 4 (y1.map aN.c),Ob.row .uq 3 1 (y3.map dL),Ob.row .uq 111 3 (nu.map aP.c),Ob.row .uq 118 8 (vr.map Node.c),Ob.row .uq 53 2 (y5.map aE.c)]⟩)(hm2:aB.nodes.length<=maxLen):∀(rest:ay) (i2:Nat) (xD:ay),aB.nodes.drop i2=rest->nj aB y1 y3 y5 nu k2 rest i2 xD=some r->Ar Γ N f49 (.q [[some (105,4),some (3,1),some (111,3),some (118,8),some (53,2),none]] (D.agg [D.fr 105 4 (r.rules.map aN.c),D.fr 3 1 (r.ends.map dL),D.fr 111 3 (r.av.map aP.c),D.fr 118 8 (r.nodes.map Node.c),D.fr 53 2 (r.facts.map aE.c),D.int .i64 r.bw])) [1,1,1,0,1,0] (rest.length+1) (Du aB y1 y3 y5 nu (xD.map Node.c) (i2:Int)):=by
 intro rest
 induction rest with
 |nil=>
  intro i2 xD hd2 h;rw[nj]at h;refine aO fun N2 xo uz=>?_
  exact((aU.ge Node.c hd2).a [.hl 0 [2,3] [1,2,3,4,5,6,7]]).ex hΓ xo (Cn xD h)
 |cons lV wu ih2=>
  intro i2 xD hd2 h;rw[nj]at h;refine aO fun N2 xo uz=>?_
  obtain⟨DH,h139,h⟩:=aD h;obtain⟨a3x,h141,h⟩:=aD h;obtain⟨h142,h⟩:=bV h;exact(((((((aU.lt Node.c hd2).l (ax Node.c 8 (dc hd2) rfl)).a [.n2 [0,1,2,3,4,5,6,7,8,9,10,11,12,13,14,15,16] [0,1,2,3,4,5,6,7,8,9,10,11,12,13,14,15,16] 13 14 [0,1] [9,10]]).g (qW h139)).g (D7 h141)).w (cB h142)).a [.cn [1,2,3,5] [0,1,2,3,4,5,12,7]]).cs hΓ uz (Du aB y1 y3 y5 nu ((xD.map Node.c)++([[D.int .i64 lV.parent,D.int .i64 DH.kind,D.str DH.pat.rel,D.sl (DH.pat.args.map tx),D.str DH.left,D.str DH.right,D.int .i64 lV.cP,D.sl (a3x.map aI.c)]])) (IntKind.i64.wrap ((i2:Int)+1))) (by first| (simp only[iS hd2 hm2,mA]<;>rfl)| (simp only[iS hd2 hm2,mA,aE.c,aS.c,aQ.c,Action.c,aN.c,aI.c,cu.c,aP.c,Node.c,aF.c,cw.c]<;>rfl)) (ih2 (i2+1) (xD++([(⟨lV.parent,DH,lV.cP,a3x⟩:Node)])) (dn hd2) h)
theorem uI{aB:aF}{r:aF}(h:pU aB=some r):Good prog 49 [D.agg (aF.c aB)] (D.agg [D.fr 105 4 (r.rules.map aN.c),D.fr 3 1 (r.ends.map dL),D.fr 111 3 (r.av.map aP.c),D.fr 118 8 (r.nodes.map Node.c),D.fr 53 2 (r.facts.map aE.c),D.int .i64 r.bw]):=by
 refine gd func49 [[some (105,4),some (3,1),some (111,3),some (118,8),some (53,2),none]] 75 fun hr Γ hΓ=>?_
 rw[pU]at h;obtain⟨y1,h2,h⟩:=aD h;obtain⟨y3,h4,h⟩:=aD h;obtain⟨y5,h6,h⟩:=aD h;refine(((((aU.a [.n 13]).g (AK h2)).g (Lz h4)).g (fK h6)).a [.pb 5 2 111 3,.cn [1,2,3,4] [0,1,5,2,3,6,4]]).lp hΓ (NS hΓ (fun nu h=>?_) (by have:=(dY.sl (dY.agg (hr _ (aC (i:=0) rfl)) (.sl (aB.av.map aP.c)) (by simp))).1;simpa using this) aB.av 0 ([]:b7) rfl h);refine(aU.a [.pb 2 3 118 8,.cn [1,2,3,5] [0,1,2,3,4,5,7,6]]).lp hΓ (NT hΓ (fun vr h=>?_) (by have:=(dY.sl (dY.agg (hr _ (aC (i:=0) rfl)) (.sl (aB.nodes.map Node.c)) (by simp))).1;simpa using this) aB.nodes 0 ([]:ay) rfl h);cases h;exact aU.ret hΓ
def lJ(aB:Int)(aW:Int)(cY:Int):Option Bool:=(bif decide ((aB:Int)>=aW)then(some (decide ((aB:Int)<=cY)))else(some false))
theorem gI{aB:Int}{aW:Int}{cY:Int}{r:Bool}(h:lJ aB aW cY=some r):Good prog 155 [D.int .i64 aB,D.int .i64 aW,D.int .i64 cY] (D.bool r):=by
 refine gd func155 [[none]] 15 fun hr Γ hΓ=>?_
 rw[lJ]at h;obtain⟨h1,h⟩|⟨h1,h⟩:=aM h
 ·cases h;exact(aU.r 4 h1).ret hΓ
 ·have h:=aG h;subst h;exact(aU.r 4 h1).ret hΓ
def jR(aB:Bytes)(k1:Option Bool):Nat->Int->Option Bool
 |0,_=>none
 |n1+1,nv=>(bif decide ((nv:Int)<(aB.length:Int))then((mK aB nv).bind fun b29=>((lJ (IntKind.i64.wrap b29.toNat) 97 122).bind fun ZC=>(bif !(ZC)then((lJ (IntKind.i64.wrap b29.toNat) 48 57).bind fun Ce=>(bif !(Ce)then(some false)else(jR aB k1 n1 (IntKind.i64.wrap (nv+1)))))else(jR aB k1 n1 (IntKind.i64.wrap (nv+1))))))else(k1))
def fU(aB:Bytes):Option Bool:=(jR aB ((lJ (aB.length:Int) 1 8).bind fun Y6=>(some Y6)) fuel 0)
def OS(aB:Bytes)(nv:Int):St:=⟨[(0,D.str aB),(3,D.int .i64 nv)],[]⟩
theorem N9(hΓ:Γ.nt=27){aB:Bytes}{r:Bool}{k1:Option Bool}(cX:k1=some r->Ax Γ N f206 (.q [[none]] (D.bool r)) [1,1] ⟨[(0,D.str aB)],[]⟩):∀(n1:Nat) (nv:Int),jR aB k1 n1 nv=some r->Ar Γ N f206 (.q [[none]] (D.bool r)) [1,0,1,0] n1 (OS aB nv):=by
 intro n
 induction n with
 |zero=>intro nv h;simp[jR]at h
 |succ n1 ih1=>
  intro nv h;rw[jR]at h;refine aO fun N1 bz bg=>?_
  obtain⟨h28,h⟩|⟨h28,h⟩:=aM h
  ·obtain⟨b29,h30,h⟩:=aD h;obtain⟨ZC,h32,h⟩:=aD h;have jb:=(((aU.b h28).c h30).g (gI h32))
   obtain⟨h33,h⟩|⟨h33,h⟩:=aM h
   ·obtain⟨Ce,h35,h⟩:=aD h;have ia:=(((((jb.r 3 h33).c h30).r 2 h33).g (gI h35)).r 2 h33)
    obtain⟨h36,h⟩|⟨h36,h⟩:=aM h
    ·have h:=aG h;subst h;exact(ia.b h36).ret hΓ
    ·exact((ia.b h36).a [.cn [0,3] []]).cf hΓ bg (ih1 (IntKind.i64.wrap (nv+1)) h)
   ·exact(((jb.r 7 h33).F 1).a [.cn [0,3] []]).cf hΓ bg (ih1 (IntKind.i64.wrap (nv+1)) h)
  ·exact((aU.b h28).a [.hl 0 [0] []]).ex hΓ bz (cX h)
theorem eb{aB:Bytes}{r:Bool}(h:fU aB=some r):Good prog 206 [D.str aB] (D.bool r):=by
 refine gd func206 [[none]] 27 fun hr Γ hΓ=>?_
 rw[fU]at h;refine(aU.a [.cn [0,3] []]).lp hΓ (N9 hΓ (fun h=>?_) fuel 0 h);obtain⟨Y6,h38,h⟩:=aD h;have h:=aG h;subst h;exact(aU.g (gI h38)).ret hΓ
def sD(aB:Bytes):Option Bool:=((fU aB).bind fun y1=>(bif y1 then((mK aB 0).bind fun b4=>((lJ (IntKind.i64.wrap b4.toNat) 97 122).bind fun y6=>(some y6)))else(some false)))
theorem nT{aB:Bytes}{r:Bool}(h:sD aB=some r):Good prog 207 [D.str aB] (D.bool r):=by
 refine gd func207 [[none]] 11 fun hr Γ hΓ=>?_
 rw[sD]at h;obtain⟨y1,h2,h⟩:=aD h;obtain⟨h3,h⟩|⟨h3,h⟩:=aM h
 ·obtain⟨b4,h5,h⟩:=aD h;obtain⟨y6,h7,h⟩:=aD h;have h:=aG h;subst h;exact((((((aU.g (eb h2)).r 2 h3).c h5).r 2 h3).g (gI h7)).b h3).ret hΓ
 ·have h:=aG h;subst h;exact((aU.g (eb h2)).r 5 h3).ret hΓ
def qF(aB:aE)(k1:Option Bool):aJ->Nat->Option Bool
 | [],i1=>(k1)
 |bD::bZ,i1=>((fU bD).bind fun Ri=>(bif !(Ri)then(some false)else(qF aB k1 bZ (i1+1))))
def pT(aB:aE):Option Bool:=(qF aB ((sD aB.rel).bind fun S6=>(bif S6 then(some (decide ((((aB.args.map tx).length:Int):Int)<=3)))else(some false))) aB.args 0)
def OT(aB:aE)(cT:Int):St:=⟨[(1,D.ptr 0 0),(3,D.int .i64 cT)],[Ob.box (aE.c aB)]⟩
theorem NA(hΓ:Γ.nt=27){aB:aE}{r:Bool}{k1:Option Bool}(cX:k1=some r->Ax Γ N f138 (.q [[none]] (D.bool r)) [1,1] ⟨[(1,D.ptr 0 0)],[Ob.box (aE.c aB)]⟩)(hm1:aB.args.length<=maxLen):∀(rest:aJ) (i1:Nat),aB.args.drop i1=rest->qF aB k1 rest i1=some r->Ar Γ N f138 (.q [[none]] (D.bool r)) [1,0,1,0] (rest.length+1) (OT aB (i1:Int)):=by
 intro rest
 induction rest with
 |nil=>
  intro i1 aj h;rw[qF]at h;refine aO fun N1 bz bg=>?_
  exact((aU.ge tx aj).a [.hl 0 [1] [0]]).ex hΓ bz (cX h)
 |cons bD bZ ih1=>
  intro i1 aj h;rw[qF]at h;refine aO fun N1 bz bg=>?_
  obtain⟨Ri,h22,h⟩:=aD h;have dJ:=(((aU.lt tx aj).l (ax tx 1 (dc aj) rfl)).g (eb h22))
  obtain⟨h23,h⟩|⟨h23,h⟩:=aM h
  ·have h:=aG h;subst h;exact(dJ.b h23).ret hΓ
  ·exact((dJ.b h23).a [.cn [1,3] [0]]).ct hΓ bg (iS aj hm1) (ih1 (i1+1) (dn aj) h)
theorem yM{aB:aE}{r:Bool}(h:pT aB=some r):Good prog 138 [D.agg (aE.c aB)] (D.bool r):=by
 refine gd func138 [[none]] 27 fun hr Γ hΓ=>?_
 rw[pT]at h;refine(aU.a [.cn [1,3] [0]]).lp hΓ (NA hΓ (fun h=>?_) (by have:=(dY.sl (dY.agg (hr _ (aC (i:=0) rfl)) (.sl (aB.args.map tx)) (by simp))).1;simpa using this) aB.args 0 rfl h);obtain⟨S6,h25,h⟩:=aD h;obtain⟨h26,h⟩|⟨h26,h⟩:=aM h
 ·cases h;exact((aU.g (nT h25)).r 5 h26).ret hΓ
 ·have h:=aG h;subst h;exact((aU.g (nT h25)).r 5 h26).ret hΓ
def uG(aB:Bytes)(aW:Bytes):Option Int:=(bif Op.bytesLess aB aW then(some (-1))else(bif !(Op.bytesLess aB aW||(aB:Bytes)==aW)then(some 1)else(some 0)))
theorem z7{aB:Bytes}{aW:Bytes}{r:Int}(h:uG aB aW=some r):Good prog 208 [D.str aB,D.str aW] (D.int .i64 r):=by
 refine gd func208 [[none]] 13 fun hr Γ hΓ=>?_
 rw[uG]at h;obtain⟨h1,h⟩|⟨h1,h⟩:=aM h
 ·cases h;exact(aU.b h1).ret hΓ
 ·obtain⟨h2,h⟩|⟨h2,h⟩:=aM h
  ·have h:=aG h;subst h;exact((aU.b h1).b h2).ret hΓ
  ·have h:=aG h;subst h;exact((aU.b h1).b h2).ret hΓ
def iQ(k1:Option Bytes):Nat->Int->Bytes->Option Bytes
 |0,_,_=>none
 |n1+1,xV,nv=>(bif decide (0<=(xV:Int))&&decide (0<(10:Int))then(bif decide (([UInt8.ofNat (IntKind.u8.wrap (IntKind.i64.wrap (48+((xV:Int)%10)))).toNat]:Bytes).length+(nv:Bytes).length<=maxLen)then(bif decide (0<=(xV:Int))&&decide (0<(10:Int))then(bif ((xV:Int)/10:Int)==0 then(some (([UInt8.ofNat (IntKind.u8.wrap (IntKind.i64.wrap (48+((xV:Int)%10)))).toNat])++nv))else(iQ k1 n1 ((xV:Int)/10) (([UInt8.ofNat (IntKind.u8.wrap (IntKind.i64.wrap (48+((xV:Int)%10)))).toNat])++nv)))else none)else none)else none)
def gm:Nat->Int->Option Bytes
 |0,_=>none
 |m_+1,aB=>(bif (aB:Int)==(-9223372036854775808)then(some ([45,57,50,50,51,51,55,50,48,51,54,56,53,52,55,55,53,56,48,56]))else(bif decide ((aB:Int)<0)then((gm m_ (IntKind.i64.wrap (0-aB))).bind fun y3=>(bif decide (([45]:Bytes).length+(y3:Bytes).length<=maxLen)then(some (([45])++y3))else none))else(iQ none fuel aB ([]))))
def G1(xV:Int)(nv:Bytes):St:=⟨[(0,D.int .i64 xV),(3,D.str nv)],[]⟩
theorem Em(hΓ:Γ.nt=25){r:Bytes}{k1:Option Bytes}(cX:k1=some r->Ax Γ N f235 (.q [[none]] (D.str r)) [1,1,1,1,0,0] ⟨[],[]⟩):∀(n1:Nat) (xV:Int) (nv:Bytes),iQ k1 n1 xV nv=some r->Ar Γ N f235 (.q [[none]] (D.str r)) [1,1,1,1,0] n1 (G1 xV nv):=by
 intro n
 induction n with
 |zero=>intro xV nv h;simp[iQ]at h
 |succ n1 ih1=>
  intro xV nv h;rw[iQ]at h;refine aO fun N1 bz bg=>?_
  obtain⟨h14,h⟩:=bV h;obtain⟨h15,h⟩:=bV h;obtain⟨h16,h⟩:=bV h;have dJ:=(((aU.w (Ty .i64 h14)).w (bt h15)).w (Ty .i64 h16))
  obtain⟨h17,h⟩|⟨h17,h⟩:=aM h
  ·cases h;exact(dJ.b h17).rts hΓ (D.str (([UInt8.ofNat (IntKind.u8.wrap (IntKind.i64.wrap (48+((xV:Int)%10)))).toNat])++nv)) (by first|rfl| (simp only[mA]<;>rfl))
  ·exact((dJ.b h17).a [.cn [0,3] []]).cf hΓ bg (ih1 ((xV:Int)/10) (([UInt8.ofNat (IntKind.u8.wrap (IntKind.i64.wrap (48+((xV:Int)%10)))).toNat])++nv) h)
theorem Dk{m_:Nat}(ihR:∀ {aB:Int} {r:Bytes},gm m_ aB=some r->Good prog 235 [D.int .i64 aB] (D.str r)){aB:Int}{r:Bytes}(h:gm (m_+1) aB=some r):Good prog 235 [D.int .i64 aB] (D.str r):=by
 refine gd func235 [[none]] 25 fun hr Γ hΓ=>?_
 rw[gm]at h;obtain⟨h1,h⟩|⟨h1,h⟩:=aM h
 ·cases h;exact(aU.b h1).ret hΓ
 ·obtain⟨h2,h⟩|⟨h2,h⟩:=aM h
  ·obtain⟨y3,h4,h⟩:=aD h;obtain⟨h5,h⟩:=bV h;cases h;exact((((aU.b h1).b h2).g (ihR h4)).w (bt h5)).rts hΓ (D.str (([45])++y3)) (by first|rfl| (simp only[mA]<;>rfl))
  ·refine(((aU.b h1).b h2).a [.cn [0,3] []]).lp hΓ (Em hΓ (fun h=>?_) fuel aB ([]) h);cases h
theorem yU:∀(m_:Nat) {aB:Int} {r:Bytes},gm m_ aB=some r->Good prog 235 [D.int .i64 aB] (D.str r)
 |0,_,_,h=>by cases h
 |m_+1,_,_,h=>Dk (fun h=>yU m_ h) h
def qE(aB:Int):Option Bytes:=gm fuel aB
theorem vn{aB:Int}{r:Bytes}(h:qE aB=some r):Good prog 235 [D.int .i64 aB] (D.str r):=yU fuel h
def j6(aB:Bytes)(k1:Int->Option (Int×Bool)):Nat->Int->Int->Option (Int×Bool)
 |0,_,_=>none
 |n1+1,Rf,Rg=>(bif decide ((Rg:Int)<(aB.length:Int))then((mK aB Rg).bind fun b25=>(bif decide ((b25.toNat:Int)<48)then(some (0,false))else(bif decide ((b25.toNat:Int)>57)then(some (0,false))else(j6 aB k1 n1 (IntKind.i64.wrap ((IntKind.i64.wrap (10*Rf))+(IntKind.i64.wrap (IntKind.u8.wrap (b25.toNat-48))))) (IntKind.i64.wrap (Rg+1))))))else(k1 Rf))
def ot(aB:Bytes):Option (Int×Bool):=((lJ (aB.length:Int) 1 4).bind fun y1=>(bif !(y1)then(some (0,false))else(j6 aB (fun(a0m:Int)=>((qE a0m).bind fun IM=>(bif !((IM:Bytes)==aB)then(some (0,false))else(some (a0m,true))))) fuel 0 0)))
def Lp(aB:Bytes)(Rf:Int)(Rg:Int):St:=⟨[(0,D.str aB),(4,D.int .i64 Rf),(5,D.int .i64 Rg)],[]⟩
theorem Jr(hΓ:Γ.nt=39){aB:Bytes}{r:Int×Bool}{k1:Int->Option (Int×Bool)}(cX:∀(a0m:Int),k1 a0m=some r->Ax Γ N f260 (.q [[none],[none]] (D.gZ [D.int .i64 r.1,D.bool r.2])) [1,1,1,1] ⟨[(0,D.str aB),(4,D.int .i64 a0m)],[]⟩):∀(n1:Nat) (Rf:Int) (Rg:Int),j6 aB k1 n1 Rf Rg=some r->Ar Γ N f260 (.q [[none],[none]] (D.gZ [D.int .i64 r.1,D.bool r.2])) [1,1,1,0,1,0] n1 (Lp aB Rf Rg):=by
 intro n
 induction n with
 |zero=>intro Rf Rg h;simp[j6]at h
 |succ n1 ih1=>
  intro Rf Rg h;rw[j6]at h;refine aO fun N1 bz bg=>?_
  obtain⟨h24,h⟩|⟨h24,h⟩:=aM h
  ·obtain⟨b25,h26,h⟩:=aD h;have jb:=((aU.b h24).c h26)
   obtain⟨h27,h⟩|⟨h27,h⟩:=aM h
   ·cases h;exact((jb.r 5 h27).T 1).ret hΓ
   ·have ia:=(((jb.r 3 h27).c h26).r 2 h27)
    obtain⟨h28,h⟩|⟨h28,h⟩:=aM h
    ·cases h;exact(ia.b h28).ret hΓ
    ·exact(((ia.b h28).c h26).a [.cn [0,4,5] []]).cf hΓ bg (ih1 (IntKind.i64.wrap ((IntKind.i64.wrap (10*Rf))+(IntKind.i64.wrap (IntKind.u8.wrap (b25.toNat-48))))) (IntKind.i64.wrap (Rg+1)) h)
  ·exact((aU.b h24).a [.hl 0 [0,4] []]).ex hΓ bz (cX Rf h)
theorem wi{aB:Bytes}{r:Int×Bool}(h:ot aB=some r):Good prog 260 [D.str aB] (D.gZ [D.int .i64 r.1,D.bool r.2]):=by
 refine gd func260 [[none],[none]] 39 fun hr Γ hΓ=>?_
 rw[ot]at h;obtain⟨y1,h2,h⟩:=aD h;obtain⟨h3,h⟩|⟨h3,h⟩:=aM h
 ·cases h;exact((aU.g (gI h2)).b h3).ret hΓ
 ·refine(((aU.g (gI h2)).b h3).a [.cn [0,4,5] []]).lp hΓ (Jr hΓ (fun a0m h=>?_) fuel 0 0 h);obtain⟨IM,h30,h⟩:=aD h;obtain⟨h31,h⟩|⟨h31,h⟩:=aM h
  ·cases h;exact((aU.g (vn h30)).b h31).ret hΓ
  ·cases h;exact((aU.g (vn h30)).b h31).ret hΓ
def jj(aB:Bytes)(aW:Bytes):Option Int:=((ot aB).bind fun y1=>((ot aW).bind fun y3=>(bif y1.2 then(bif y3.2 then(bif decide ((y1.1:Int)<y3.1)then(some (-1))else(bif !(y3.2)then(some (-1))else(bif decide ((y1.1:Int)>y3.1)then(some 1)else(bif !(y1.2)then(some 1)else(some 0)))))else(bif !(y3.2)then(some (-1))else(some 0)))else(bif y3.2 then(bif !(y1.2)then(some 1)else((uG aB aW).bind fun WH=>(some WH)))else((uG aB aW).bind fun y16=>(some y16))))))
theorem xg{aB:Bytes}{aW:Bytes}{r:Int}(h:jj aB aW=some r):Good prog 209 [D.str aB,D.str aW] (D.int .i64 r):=by
 refine gd func209 [[none]] 54 fun hr Γ hΓ=>?_
 rw[jj]at h;obtain⟨y1,h2,h⟩:=aD h;obtain⟨y3,h4,h⟩:=aD h;have kF:=((aU.g (wi h2)).g (wi h4))
 obtain⟨h5,h⟩|⟨h5,h⟩:=aM h
 ·have dJ:=(kF.r 2 h5)
  obtain⟨h6,h⟩|⟨h6,h⟩:=aM h
  ·have jb:=(dJ.r 4 h6)
   obtain⟨h7,h⟩|⟨h7,h⟩:=aM h
   ·cases h;exact(jb.r 2 h7).ret hΓ
   ·have ia:=((jb.b h7).r 3 h5)
    obtain⟨h8,h⟩|⟨h8,h⟩:=aM h
    ·cases h;exact(ia.b h8).ret hΓ
    ·have tq:=(((ia.b h8).r 2 h5).r 4 h6)
     obtain⟨h9,h⟩|⟨h9,h⟩:=aM h
     ·have h:=aG h;subst h;exact(tq.r 2 h9).ret hΓ
     ·have wm:=((tq.b h9).r 3 h6)
      obtain⟨h10,h⟩|⟨h10,h⟩:=aM h
      ·have h:=aG h;subst h;exact(wm.b h10).ret hΓ
      ·have h:=aG h;subst h;exact((wm.b h10).b h5).ret hΓ
  ·have AR:=(((dJ.r 4 h6).F 1).r 3 h5)
   obtain⟨h11,h⟩|⟨h11,h⟩:=aM h
   ·cases h;exact(AR.b h11).ret hΓ
   ·have h:=aG h;subst h;exact(((((((AR.b h11).r 2 h5).r 4 h6).F 1).r 3 h6).F 1).b h5).ret hΓ
 ·have FG:=((((((kF.r 2 h5).F 5).r 3 h5).F 1).r 2 h5).F 5)
  obtain⟨h12,h⟩|⟨h12,h⟩:=aM h
  ·have KR:=(FG.r 3 h12)
   obtain⟨h13,h⟩|⟨h13,h⟩:=aM h
   ·have h:=aG h;subst h;exact(KR.b h13).ret hΓ
   ·obtain⟨WH,h15,h⟩:=aD h;have h:=aG h;subst h;exact(((KR.b h13).b h5).g (z7 h15)).ret hΓ
  ·obtain⟨y16,h17,h⟩:=aD h;have h:=aG h;subst h;exact((((FG.r 3 h12).F 1).b h5).g (z7 h17)).ret hΓ
def jQ(aB:aE)(aW:aE)(k1:Option Int):aJ->Nat->Option Int
 | [],i1=>(k1)
 |bD::bZ,i1=>(bif decide (((i1:Int):Int)<((aW.args.map tx).length:Int))then((mK aW.args (i1:Int)).bind fun x37=>((jj bD x37).bind fun O9=>(bif (O9:Int) != 0 then(some O9)else(jQ aB aW k1 bZ (i1+1)))))else(k1))
def ez(aB:aE)(aW:aE):Option Int:=(bif !((aB.rel:Bytes)==aW.rel)then((uG aB.rel aW.rel).bind fun y2=>(some y2))else(jQ aB aW (bif decide ((((aB.args.map tx).length:Int):Int)<((aW.args.map tx).length:Int))then(some (-1))else(bif decide ((((aB.args.map tx).length:Int):Int)>((aW.args.map tx).length:Int))then(some 1)else(some 0))) aB.args 0))
def Ej(aB:aE)(aW:aE)(cT:Int):St:=⟨[(2,D.ptr 0 0),(3,D.ptr 1 0),(5,D.int .i64 cT)],[Ob.box (aE.c aB),Ob.box (aE.c aW)]⟩
theorem Df(hΓ:Γ.nt=61){aB:aE}{aW:aE}{r:Int}{k1:Option Int}(cX:k1=some r->Ax Γ N f139 (.q [[none]] (D.int .i64 r)) [1,1,1] ⟨[(2,D.ptr 0 0),(3,D.ptr 1 0)],[Ob.box (aE.c aB),Ob.box (aE.c aW)]⟩)(hm1:aB.args.length<=maxLen):∀(rest:aJ) (i1:Nat),aB.args.drop i1=rest->jQ aB aW k1 rest i1=some r->Ar Γ N f139 (.q [[none]] (D.int .i64 r)) [1,1,0,1,0] (rest.length+1) (Ej aB aW (i1:Int)):=by
 intro rest
 induction rest with
 |nil=>
  intro i1 aj h;rw[jQ]at h;refine aO fun N1 bz bg=>?_
  exact((((((((aU.ge tx aj).ge tx aj).ge tx aj).ge tx aj).ge tx aj).ge tx aj).F 1).a [.hl 0 [2,3] [0,1]]).ex hΓ bz (cX h)
 |cons bD bZ ih1=>
  intro i1 aj h;rw[jQ]at h;refine aO fun N1 bz bg=>?_
  have jb:=((((((aU.lt tx aj).lt tx aj).lt tx aj).lt tx aj).lt tx aj).lt tx aj)
  obtain⟨h36,h⟩|⟨h36,h⟩:=aM h
  ·obtain⟨x37,h38,h⟩:=aD h;obtain⟨O9,h40,h⟩:=aD h;have ia:=(((((jb.b h36).a [.n 10]).l (ax tx 1 (dc aj) rfl)).l (dl tx 1 h38 rfl)).g (xg h40))
   obtain⟨h41,h⟩|⟨h41,h⟩:=aM h
   ·have h:=aG h;subst h;exact(ia.b h41).ret hΓ
   ·exact((ia.b h41).a [.cn [2,3,5] [0,1]]).ct hΓ bg (iS aj hm1) (ih1 (i1+1) (dn aj) h)
  ·exact((jb.b h36).a [.hl 0 [2,3] [0,1]]).ex hΓ bz (cX h)
theorem ny{aB:aE}{aW:aE}{r:Int}(h:ez aB aW=some r):Good prog 139 [D.agg (aE.c aB),D.agg (aE.c aW)] (D.int .i64 r):=by
 refine gd func139 [[none]] 61 fun hr Γ hΓ=>?_
 rw[ez]at h;obtain⟨h1,h⟩|⟨h1,h⟩:=aM h
 ·obtain⟨y2,h3,h⟩:=aD h;have h:=aG h;subst h;exact((aU.b h1).g (z7 h3)).ret hΓ
 ·refine((aU.b h1).a [.cn [2,3,5] [0,1]]).lp hΓ (Df hΓ (fun h=>?_) (by have:=(dY.sl (dY.agg (hr _ (aC (i:=0) rfl)) (.sl (aB.args.map tx)) (by simp))).1;simpa using this) aB.args 0 rfl h);obtain⟨h42,h⟩|⟨h42,h⟩:=aM h
  ·cases h;exact(aU.b h42).ret hΓ
  ·obtain⟨h43,h⟩|⟨h43,h⟩:=aM h
   ·have h:=aG h;subst h;exact((aU.b h42).b h43).ret hΓ
   ·have h:=aG h;subst h;exact((aU.b h42).b h43).ret hΓ
def kU(aB:aL)(k1:Option Bool):aL->Nat->Option Bool
 | [],i1=>(k1)
 |bD::bZ,i1=>((pT bD).bind fun IN=>(bif !(IN)then(some false)else(bif decide (((i1:Int):Int)>0)then((mK aB (IntKind.i64.wrap ((i1:Int)-1))).bind fun x49=>((ez x49 bD).bind fun y51=>(bif decide ((y51:Int)>=0)then(some false)else(kU aB k1 bZ (i1+1)))))else(kU aB k1 bZ (i1+1)))))
def rD(aB:aL):Option Bool:=(kU aB (some (decide ((((aB.map aE.c).length:Int):Int)<=24))) aB 0)
def Li(aB:aL)(cT:Int):St:=⟨[(0,D.sl (aB.map aE.c)),(3,D.int .i64 cT)],[]⟩
theorem Jg(hΓ:Γ.nt=36){aB:aL}{r:Bool}{k1:Option Bool}(cX:k1=some r->Ax Γ N f80 (.q [[none]] (D.bool r)) [1,1] ⟨[(0,D.sl (aB.map aE.c))],[]⟩)(hm1:aB.length<=maxLen):∀(rest:aL) (i1:Nat),aB.drop i1=rest->kU aB k1 rest i1=some r->Ar Γ N f80 (.q [[none]] (D.bool r)) [1,0,1,0] (rest.length+1) (Li aB (i1:Int)):=by
 intro rest
 induction rest with
 |nil=>
  intro i1 aj h;rw[kU]at h;refine aO fun N1 bz bg=>?_
  exact((aU.ge aE.c aj).a [.hl 0 [0] []]).ex hΓ bz (cX h)
 |cons bD bZ ih1=>
  intro i1 aj h;rw[kU]at h;refine aO fun N1 bz bg=>?_
  obtain⟨IN,h46,h⟩:=aD h;have ia:=((((aU.lt aE.c aj).a [.n 19]).l (ax aE.c 2 (dc aj) rfl)).g (yM h46))
  obtain⟨h47,h⟩|⟨h47,h⟩:=aM h
  ·have h:=aG h;subst h;exact((((ia.r 3 h47).a [bF,bF,bF,bF,bF,bF,bF,bF,bF,bF,bF]).r 2 h47).T 1).ret hΓ
  ·have tq:=(ia.r 3 h47)
   obtain⟨h48,h⟩|⟨h48,h⟩:=aM h
   ·obtain⟨x49,h50,h⟩:=aD h;obtain⟨y51,h52,h⟩:=aD h;have wm:=((((((((((tq.r 4 h48).l (dl aE.c 2 h50 rfl)).r 4 h48).l (ax aE.c 2 (dc aj) rfl)).r 2 h48).g (ny h52)).b h48).b h47).b h48).b h47)
    obtain⟨h53,h⟩|⟨h53,h⟩:=aM h
    ·have h:=aG h;subst h;exact(wm.b h53).ret hΓ
    ·exact((wm.b h53).a [.cn [0,3] []]).ct hΓ bg (iS aj hm1) (ih1 (i1+1) (dn aj) h)
   ·exact((((((tq.r 11 h48).b h47).b h48).b h47).F 1).a [.cn [0,3] []]).ct hΓ bg (iS aj hm1) (ih1 (i1+1) (dn aj) h)
theorem wh{aB:aL}{r:Bool}(h:rD aB=some r):Good prog 80 [D.sl (aB.map aE.c)] (D.bool r):=by
 refine gd func80 [[none]] 36 fun hr Γ hΓ=>?_
 rw[rD]at h;refine(aU.a [.cn [0,3] []]).lp hΓ (Jg hΓ (fun h=>?_) (by have:=(dY.sl (hr _ (aC (i:=0) rfl))).1;simpa using this) aB 0 rfl h);cases h;exact aU.ret hΓ
def k9(aB:aJ)(aW:aJ)(k1:Option Bool):aJ->Nat->Option Bool
 | [],i1=>(k1)
 |bD::bZ,i1=>((mK aW (i1:Int)).bind fun x22=>(bif !((bD:Bytes)==x22)then(some false)else(k9 aB aW k1 bZ (i1+1))))
def nX(aB:aJ)(aW:aJ):Option Bool:=(bif (((aB.map tx).length:Int):Int) != ((aW.map tx).length:Int)then(some false)else(k9 aB aW (some true) aB 0))
def G8(aB:aJ)(aW:aJ)(cT:Int):St:=⟨[(0,D.sl (aB.map tx)),(1,D.sl (aW.map tx)),(5,D.int .i64 cT)],[]⟩
theorem Ep(hΓ:Γ.nt=26){aB:aJ}{aW:aJ}{r:Bool}{k1:Option Bool}(cX:k1=some r->Ax Γ N f224 (.q [[none]] (D.bool r)) [1,1,1] ⟨[],[]⟩)(hm1:aB.length<=maxLen):∀(rest:aJ) (i1:Nat),aB.drop i1=rest->k9 aB aW k1 rest i1=some r->Ar Γ N f224 (.q [[none]] (D.bool r)) [1,1,0,1,0] (rest.length+1) (G8 aB aW (i1:Int)):=by
 intro rest
 induction rest with
 |nil=>
  intro i1 aj h;rw[k9]at h;refine aO fun N1 bz bg=>?_
  exact((aU.ge tx aj).a [.hl 0 [] []]).ex hΓ bz (cX h)
 |cons bD bZ ih1=>
  intro i1 aj h;rw[k9]at h;refine aO fun N1 bz bg=>?_
  obtain⟨x22,h23,h⟩:=aD h;have dJ:=((((aU.lt tx aj).a [.n 8]).l (ax tx 1 (dc aj) rfl)).l (dl tx 1 h23 rfl))
  obtain⟨h24,h⟩|⟨h24,h⟩:=aM h
  ·have h:=aG h;subst h;exact(dJ.b h24).ret hΓ
  ·exact((dJ.b h24).a [.cn [0,1,5] []]).ct hΓ bg (iS aj hm1) (ih1 (i1+1) (dn aj) h)
theorem yW{aB:aJ}{aW:aJ}{r:Bool}(h:nX aB aW=some r):Good prog 224 [D.sl (aB.map tx),D.sl (aW.map tx)] (D.bool r):=by
 refine gd func224 [[none]] 26 fun hr Γ hΓ=>?_
 rw[nX]at h;obtain⟨h1,h⟩|⟨h1,h⟩:=aM h
 ·have h:=aG h;subst h;exact(aU.b h1).ret hΓ
 ·refine((aU.b h1).a [.cn [0,1,5] []]).lp hΓ (Ep hΓ (fun h=>?_) (by have:=(dY.sl (hr _ (aC (i:=0) rfl))).1;simpa using this) aB 0 rfl h);have h:=aG h;subst h;exact aU.ret hΓ
def sG(aB:aE)(aW:aE):Option Bool:=(bif (aB.rel:Bytes)==aW.rel then((nX aB.args aW.args).bind fun y2=>(some y2))else(some false))
theorem C6{aB:aE}{aW:aE}{r:Bool}(h:sG aB aW=some r):Good prog 150 [D.agg (aE.c aB),D.agg (aE.c aW)] (D.bool r):=by
 refine gd func150 [[none]] 17 fun hr Γ hΓ=>?_
 rw[sG]at h;obtain⟨h1,h⟩|⟨h1,h⟩:=aM h
 ·obtain⟨y2,h3,h⟩:=aD h;have h:=aG h;subst h;exact(((aU.r 5 h1).g (yW h3)).b h1).ret hΓ
 ·have h:=aG h;subst h;exact(aU.r 6 h1).ret hΓ
def kW(aB:aL)(aW:aE)(k1:Option Int):aL->Nat->Option Int
 | [],i1=>(k1)
 |bD::bZ,i1=>((sG bD aW).bind fun Ri=>(bif Ri then(some (i1:Int))else(kW aB aW k1 bZ (i1+1))))
def uj(aB:aL)(aW:aE):Option Int:=(kW aB aW (some (-1)) aB 0)
def Lm(aB:aL)(aW:aE)(cT:Int):St:=⟨[(0,D.sl (aB.map aE.c)),(3,D.ptr 0 0),(5,D.int .i64 cT)],[Ob.box (aE.c aW)]⟩
theorem Jk(hΓ:Γ.nt=19){aB:aL}{aW:aE}{r:Int}{k1:Option Int}(cX:k1=some r->Ax Γ N f165 (.q [[none]] (D.int .i64 r)) [1,1] ⟨[],[]⟩)(hm1:aB.length<=maxLen):∀(rest:aL) (i1:Nat),aB.drop i1=rest->kW aB aW k1 rest i1=some r->Ar Γ N f165 (.q [[none]] (D.int .i64 r)) [1,0,1,0] (rest.length+1) (Lm aB aW (i1:Int)):=by
 intro rest
 induction rest with
 |nil=>
  intro i1 aj h;rw[kW]at h;refine aO fun N1 bz bg=>?_
  exact((aU.ge aE.c aj).a [.hl 0 [] []]).ex hΓ bz (cX h)
 |cons bD bZ ih1=>
  intro i1 aj h;rw[kW]at h;refine aO fun N1 bz bg=>?_
  obtain⟨Ri,h22,h⟩:=aD h;have dJ:=((((aU.lt aE.c aj).a [.n 5]).l (ax aE.c 2 (dc aj) rfl)).g (C6 h22))
  obtain⟨h23,h⟩|⟨h23,h⟩:=aM h
  ·cases h;exact(dJ.b h23).ret hΓ
  ·exact((dJ.b h23).a [.cn [0,3,5] [0]]).ct hΓ bg (iS aj hm1) (ih1 (i1+1) (dn aj) h)
theorem HV{aB:aL}{aW:aE}{r:Int}(h:uj aB aW=some r):Good prog 165 [D.sl (aB.map aE.c),D.agg (aE.c aW)] (D.int .i64 r):=by
 refine gd func165 [[none]] 19 fun hr Γ hΓ=>?_
 rw[uj]at h;refine(aU.a [.cn [0,3,5] [0]]).lp hΓ (Jk hΓ (fun h=>?_) (by have:=(dY.sl (hr _ (aC (i:=0) rfl))).1;simpa using this) aB 0 rfl h);cases h;exact aU.ret hΓ
def eH(aB:aL)(aW:aE)(k1:Bool->aL->Option aL):aL->Nat->Bool->aL->Option aL
 | [],i1,jy,bu=>(k1 jy bu)
 |bD::bZ,i1,jy,bu=>(bif !(jy)then((ez bD aW).bind fun aBV=>(bif decide ((aBV:Int)>=0)then((ez bD aW).bind fun KF=>(bif decide ((KF:Int)>0)then((fA aW).bind fun UO=>(bif room ((bu.map aE.c).length+([[D.str UO.rel,D.sl (UO.args.map tx)]]).length) 40 then((fA bD).bind fun DH=>(bif room (((bu.map aE.c)++([[D.str UO.rel,D.sl (UO.args.map tx)]])).length+([[D.str DH.rel,D.sl (DH.args.map tx)]]).length) 40 then(eH aB aW k1 bZ (i1+1) true ((bu++([UO]))++([DH])))else none))else none))else((fA bD).bind fun Y4=>(bif room ((bu.map aE.c).length+([[D.str Y4.rel,D.sl (Y4.args.map tx)]]).length) 40 then(eH aB aW k1 bZ (i1+1) true (bu++([Y4])))else none))))else((fA bD).bind fun Y5=>(bif room ((bu.map aE.c).length+([[D.str Y5.rel,D.sl (Y5.args.map tx)]]).length) 40 then(eH aB aW k1 bZ (i1+1) jy (bu++([Y5])))else none))))else((fA bD).bind fun Cd=>(bif room ((bu.map aE.c).length+([[D.str Cd.rel,D.sl (Cd.args.map tx)]]).length) 40 then(eH aB aW k1 bZ (i1+1) jy (bu++([Cd])))else none)))
def z8(aB:aL)(aW:aE):Option aL:=(eH aB aW (fun(zk:Bool) (tj:aL)=>(bif !(zk)then((fA aW).bind fun a0g=>(bif room ((tj.map aE.c).length+([[D.str a0g.rel,D.sl (a0g.args.map tx)]]).length) 40 then(some (tj++([a0g])))else none))else(some tj))) aB 0 false ([]:aL))
def uw(aB:aL)(aW:aE)(jy:Bool)(W1:List aR)(cT:Int):St:=⟨[(0,D.sl (aB.map aE.c)),(3,D.ptr 0 0),(5,D.acc 1),(6,D.bool jy),(7,D.int .i64 cT)],[Ob.box (aE.c aW),Ob.row .uq 53 2 W1]⟩
theorem Oc(hΓ:Γ.nt=54){aB:aL}{aW:aE}{r:aL}{k1:Bool->aL->Option aL}(cX:∀(zk:Bool) (tj:aL),k1 zk tj=some r->Ax Γ N f170 (.q [[some (53,2)]] (D.fr 53 2 (r.map aE.c))) [1,1,1,1] ⟨[(3,D.ptr 0 0),(5,D.acc 1),(6,D.bool zk)],[Ob.box (aE.c aW),Ob.row .uq 53 2 (tj.map aE.c)]⟩)(hm1:aB.length<=maxLen):∀(rest:aL) (i1:Nat) (jy:Bool) (bu:aL),aB.drop i1=rest->eH aB aW k1 rest i1 jy bu=some r->Ar Γ N f170 (.q [[some (53,2)]] (D.fr 53 2 (r.map aE.c))) [1,1,1,0,1,0] (rest.length+1) (uw aB aW jy (bu.map aE.c) (i1:Int)):=by
 intro rest
 induction rest with
 |nil=>
  intro i1 jy bu aj h;rw[eH]at h;refine aO fun N1 bz bg=>?_
  exact((aU.ge aE.c aj).a [.hl 0 [3,5,6] [0,1]]).ex hΓ bz (cX jy bu h)
 |cons bD bZ ih1=>
  intro i1 jy bu aj h;rw[eH]at h;refine aO fun N1 bz bg=>?_
  have ia:=((aU.lt aE.c aj).a [.n 8])
  obtain⟨h128,h⟩|⟨h128,h⟩:=aM h
  ·obtain⟨aBV,h130,h⟩:=aD h;have tq:=(((((ia.r 3 h128).l (ax aE.c 2 (dc aj) rfl)).r 3 h128).g (ny h130)).r 2 h128)
   obtain⟨h131,h⟩|⟨h131,h⟩:=aM h
   ·obtain⟨KF,h133,h⟩:=aD h;have wm:=((((tq.b h131).a [.n 5]).l (ax aE.c 2 (dc aj) rfl)).g (ny h133))
    obtain⟨h134,h⟩|⟨h134,h⟩:=aM h
    ·obtain⟨UO,h136,h⟩:=aD h;obtain⟨h137,h⟩:=bV h;obtain⟨DH,h139,h⟩:=aD h;obtain⟨h140,h⟩:=bV h;exact(((((((wm.b h134).g (gr h136)).w (cB h137)).l (ax aE.c 2 (dc aj) rfl)).g (gr h139)).w (cB h140)).a [.cn [0,3,5,6,7] [0,7]]).cs hΓ bg (uw aB aW true (((bu.map aE.c)++([[D.str UO.rel,D.sl (UO.args.map tx)]]))++([[D.str DH.rel,D.sl (DH.args.map tx)]])) (IntKind.i64.wrap ((i1:Int)+1))) (by first| (simp only[iS aj hm1,mA]<;>rfl)| (simp only[iS aj hm1,mA,aE.c,aS.c,aQ.c,Action.c,aN.c,aI.c,cu.c,aP.c,Node.c,aF.c,cw.c]<;>rfl)) (ih1 (i1+1) true ((bu++([UO]))++([DH])) (dn aj) h)
    ·obtain⟨Y4,h142,h⟩:=aD h;obtain⟨h143,h⟩:=bV h;exact(((((wm.b h134).l (ax aE.c 2 (dc aj) rfl)).g (gr h142)).w (cB h143)).a [.cn [0,3,5,6,7] [0,4]]).cs hΓ bg (uw aB aW true ((bu.map aE.c)++([[D.str Y4.rel,D.sl (Y4.args.map tx)]])) (IntKind.i64.wrap ((i1:Int)+1))) (by first| (simp only[iS aj hm1,mA]<;>rfl)| (simp only[iS aj hm1,mA,aE.c,aS.c,aQ.c,Action.c,aN.c,aI.c,cu.c,aP.c,Node.c,aF.c,cw.c]<;>rfl)) (ih1 (i1+1) true (bu++([Y4])) (dn aj) h)
   ·obtain⟨Y5,h145,h⟩:=aD h;obtain⟨h146,h⟩:=bV h;exact(((((tq.b h131).l (ax aE.c 2 (dc aj) rfl)).g (gr h145)).w (cB h146)).a [.cn [0,3,5,6,7] [0,4]]).cs hΓ bg (uw aB aW jy ((bu.map aE.c)++([[D.str Y5.rel,D.sl (Y5.args.map tx)]])) (IntKind.i64.wrap ((i1:Int)+1))) (by first| (simp only[iS aj hm1,mA]<;>rfl)| (simp only[iS aj hm1,mA,aE.c,aS.c,aQ.c,Action.c,aN.c,aI.c,cu.c,aP.c,Node.c,aF.c,cw.c]<;>rfl)) (ih1 (i1+1) jy (bu++([Y5])) (dn aj) h)
  ·obtain⟨Cd,h148,h⟩:=aD h;obtain⟨h149,h⟩:=bV h;exact((((((ia.r 8 h128).F 1).l (ax aE.c 2 (dc aj) rfl)).g (gr h148)).w (cB h149)).a [.cn [0,3,5,6,7] [0,4]]).cs hΓ bg (uw aB aW jy ((bu.map aE.c)++([[D.str Cd.rel,D.sl (Cd.args.map tx)]])) (IntKind.i64.wrap ((i1:Int)+1))) (by first| (simp only[iS aj hm1,mA]<;>rfl)| (simp only[iS aj hm1,mA,aE.c,aS.c,aQ.c,Action.c,aN.c,aI.c,cu.c,aP.c,Node.c,aF.c,cw.c]<;>rfl)) (ih1 (i1+1) jy (bu++([Cd])) (dn aj) h)
theorem NK{aB:aL}{aW:aE}{r:aL}(h:z8 aB aW=some r):Good prog 170 [D.sl (aB.map aE.c),D.agg (aE.c aW)] (D.fr 53 2 (r.map aE.c)):=by
 refine gd func170 [[some (53,2)]] 54 fun hr Γ hΓ=>?_
 rw[z8]at h;refine(aU.a [.cn [0,3,5,6,7] [0,1]]).lp hΓ (Oc hΓ (fun zk tj h=>?_) (by have:=(dY.sl (hr _ (aC (i:=0) rfl))).1;simpa using this) aB 0 false ([]:aL) rfl h);obtain⟨h150,h⟩|⟨h150,h⟩:=aM h
 ·obtain⟨a0g,h152,h⟩:=aD h;obtain⟨h153,h⟩:=bV h;cases h;exact(((aU.b h150).g (gr h152)).w (cB h153)).rts hΓ (D.fr 53 2 ((tj.map aE.c)++([[D.str a0g.rel,D.sl (a0g.args.map tx)]]))) (by first|rfl| (simp only[mA]<;>rfl))
 ·have h:=aG h;subst h;exact(aU.b h150).ret hΓ
def wg(aB:aL)(aW:aE):Option (aL×Bool):=((rD aB).bind fun y1=>(bif !(y1)then((dW aB).bind fun y4=>(some (y4,false)))else((pT aW).bind fun y6=>(bif !(y6)then((dW aB).bind fun y9=>(some (y9,false)))else((uj aB aW).bind fun WG=>(bif decide ((WG:Int)>=0)then((dW aB).bind fun WH=>(some (WH,false)))else(bif (((aB.map aE.c).length:Int):Int)==24 then((dW aB).bind fun UP=>(some (UP,false)))else((z8 aB aW).bind fun y19=>(some (y19,true))))))))))
theorem Jf{aB:aL}{aW:aE}{r:aL×Bool}(h:wg aB aW=some r):Good prog 98 [D.sl (aB.map aE.c),D.agg (aE.c aW)] (D.gZ [D.fr 53 2 (r.1.map aE.c),D.bool r.2]):=by
 refine gd func98 [[some (53,2)],[none]] 30 fun hr Γ hΓ=>?_
 rw[wg]at h;obtain⟨y1,h2,h⟩:=aD h;obtain⟨h3,h⟩|⟨h3,h⟩:=aM h
 ·obtain⟨y4,h5,h⟩:=aD h;cases h;exact((((aU.g (wh h2)).r 4 h3).T 10).g (fK h5)).ret hΓ
 ·obtain⟨y6,h7,h⟩:=aD h;have kF:=((((aU.g (wh h2)).r 2 h3).g (yM h7)).r 2 h3)
  obtain⟨h8,h⟩|⟨h8,h⟩:=aM h
  ·obtain⟨y9,h10,h⟩:=aD h;cases h;exact(((kF.r 5 h8).T 5).g (fK h10)).ret hΓ
  ·obtain⟨WG,h12,h⟩:=aD h;have dJ:=(((kF.r 3 h8).g (HV h12)).r 2 h8)
   obtain⟨h13,h⟩|⟨h13,h⟩:=aM h
   ·obtain⟨WH,h15,h⟩:=aD h;cases h;exact(((dJ.r 4 h13).T 1).g (fK h15)).ret hΓ
   ·have jb:=(dJ.r 4 h13)
    obtain⟨h16,h⟩|⟨h16,h⟩:=aM h
    ·obtain⟨UP,h18,h⟩:=aD h;cases h;exact((jb.b h16).g (fK h18)).ret hΓ
    ·obtain⟨y19,h20,h⟩:=aD h;cases h;exact((jb.b h16).g (NK h20)).ret hΓ
def iT(aB:Bytes):Option Bool:=(bif decide (((aB.length:Int):Int)>1)then((mK aB 0).bind fun b2=>(bif (b2.toNat:Int)==63 then((Ps aB.length (some (D.int .i64 1)) none).bind fun p=>(fun l5 u6=>((fU ((aB.take u6).drop l5)).bind fun y8=>(some y8))) p.1 p.2)else(some false)))else(some false))
theorem gM{aB:Bytes}{r:Bool}(h:iT aB=some r):Good prog 234 [D.str aB] (D.bool r):=by
 refine gd func234 [[none]] 16 fun hr Γ hΓ=>?_
 rw[iT]at h;obtain⟨h1,h⟩|⟨h1,h⟩:=aM h
 ·obtain⟨b2,h3,h⟩:=aD h;have kF:=(((aU.r 2 h1).c h3).r 2 h1)
  obtain⟨h4,h⟩|⟨h4,h⟩:=aM h
  ·obtain⟨⟨l5,u6⟩,h7,h⟩:=aD h;obtain⟨y8,h9,h⟩:=aD h;have h:=aG h;subst h;exact((((((kF.r 2 h4).w h7).a [.cut l5 u6]).b h4).g (eb h9)).b h4).ret hΓ
  ·have h:=aG h;subst h;exact(kF.r 4 h4).ret hΓ
 ·have h:=aG h;subst h;exact((aU.r 4 h1).F 4).ret hΓ
def eW(aB:aJ)(aW:Bytes)(k1:Bool->aJ->Option aJ):aJ->Nat->Bool->aJ->Option aJ
 | [],i1,jy,bC=>(k1 jy bC)
 |bD::bZ,i1,jy,bC=>(bif !(jy)then(bif !(Op.bytesLess bD aW)then(bif !((bD:Bytes)==aW)then(bif room ((bC.map tx).length+([[D.str aW]]).length) 16 then(bif room (((bC.map tx)++([[D.str aW]])).length+([[D.str bD]]).length) 16 then(eW aB aW k1 bZ (i1+1) true ((bC++([aW]))++([bD])))else none)else none)else(bif room ((bC.map tx).length+([[D.str bD]]).length) 16 then(eW aB aW k1 bZ (i1+1) true (bC++([bD])))else none))else(bif room ((bC.map tx).length+([[D.str bD]]).length) 16 then(eW aB aW k1 bZ (i1+1) jy (bC++([bD])))else none))else(bif room ((bC.map tx).length+([[D.str bD]]).length) 16 then(eW aB aW k1 bZ (i1+1) jy (bC++([bD])))else none))
def mB(aB:aJ)(aW:Bytes):Option aJ:=(eW aB aW (fun(zk:Bool) (bQ:aJ)=>(bif !(zk)then(bif room ((bQ.map tx).length+([[D.str aW]]).length) 16 then(some (bQ++([aW])))else none)else(some bQ))) aB 0 false ([]:aJ))
def ur(aB:aJ)(aW:Bytes)(jy:Bool)(W1:List aR)(cT:Int):St:=⟨[(0,D.sl (aB.map tx)),(1,D.str aW),(5,D.acc 0),(6,D.bool jy),(7,D.int .i64 cT)],[Ob.row .uq 9 1 W1]⟩
theorem Oa(hΓ:Γ.nt=49){aB:aJ}{aW:Bytes}{r:aJ}{k1:Bool->aJ->Option aJ}(cX:∀(zk:Bool) (bQ:aJ),k1 zk bQ=some r->Ax Γ N f275 (.q [[some (9,1)]] (D.fr 9 1 (r.map tx))) [1,1,1,1] ⟨[(1,D.str aW),(5,D.acc 0),(6,D.bool zk)],[Ob.row .uq 9 1 (bQ.map tx)]⟩)(hm1:aB.length<=maxLen):∀(rest:aJ) (i1:Nat) (jy:Bool) (bC:aJ),aB.drop i1=rest->eW aB aW k1 rest i1 jy bC=some r->Ar Γ N f275 (.q [[some (9,1)]] (D.fr 9 1 (r.map tx))) [1,1,1,0,1,0] (rest.length+1) (ur aB aW jy (bC.map tx) (i1:Int)):=by
 intro rest
 induction rest with
 |nil=>
  intro i1 jy bC aj h;rw[eW]at h;refine aO fun N1 bz bg=>?_
  exact((aU.ge tx aj).a [.hl 0 [1,5,6] [0]]).ex hΓ bz (cX jy bC h)
 |cons bD bZ ih1=>
  intro i1 jy bC aj h;rw[eW]at h;refine aO fun N1 bz bg=>?_
  obtain⟨h58,h⟩|⟨h58,h⟩:=aM h
  ·have jb:=((((aU.lt tx aj).r 3 h58).l (ax tx 1 (dc aj) rfl)).r 4 h58)
   obtain⟨h59,h⟩|⟨h59,h⟩:=aM h
   ·have ia:=((jb.b h59).l (ax tx 1 (dc aj) rfl))
    obtain⟨h60,h⟩|⟨h60,h⟩:=aM h
    ·obtain⟨h61,h⟩:=bV h;obtain⟨h62,h⟩:=bV h;exact(((((ia.b h60).w (cB h61)).l (ax tx 1 (dc aj) rfl)).w (cB h62)).a [.cn [0,1,5,6,7] [4]]).cs hΓ bg (ur aB aW true (((bC.map tx)++([[D.str aW]]))++([[D.str bD]])) (IntKind.i64.wrap ((i1:Int)+1))) (by first| (simp only[iS aj hm1,mA]<;>rfl)| (simp only[iS aj hm1,mA,aE.c,aS.c,aQ.c,Action.c,aN.c,aI.c,cu.c,aP.c,Node.c,aF.c,cw.c]<;>rfl)) (ih1 (i1+1) true ((bC++([aW]))++([bD])) (dn aj) h)
    ·obtain⟨h63,h⟩:=bV h;exact((((ia.b h60).l (ax tx 1 (dc aj) rfl)).w (cB h63)).a [.cn [0,1,5,6,7] [2]]).cs hΓ bg (ur aB aW true ((bC.map tx)++([[D.str bD]])) (IntKind.i64.wrap ((i1:Int)+1))) (by first| (simp only[iS aj hm1,mA]<;>rfl)| (simp only[iS aj hm1,mA,aE.c,aS.c,aQ.c,Action.c,aN.c,aI.c,cu.c,aP.c,Node.c,aF.c,cw.c]<;>rfl)) (ih1 (i1+1) true (bC++([bD])) (dn aj) h)
   ·obtain⟨h64,h⟩:=bV h;exact((((jb.b h59).l (ax tx 1 (dc aj) rfl)).w (cB h64)).a [.cn [0,1,5,6,7] [2]]).cs hΓ bg (ur aB aW jy ((bC.map tx)++([[D.str bD]])) (IntKind.i64.wrap ((i1:Int)+1))) (by first| (simp only[iS aj hm1,mA]<;>rfl)| (simp only[iS aj hm1,mA,aE.c,aS.c,aQ.c,Action.c,aN.c,aI.c,cu.c,aP.c,Node.c,aF.c,cw.c]<;>rfl)) (ih1 (i1+1) jy (bC++([bD])) (dn aj) h)
  ·obtain⟨h65,h⟩:=bV h;exact((((((aU.lt tx aj).r 7 h58).F 1).l (ax tx 1 (dc aj) rfl)).w (cB h65)).a [.cn [0,1,5,6,7] [2]]).cs hΓ bg (ur aB aW jy ((bC.map tx)++([[D.str bD]])) (IntKind.i64.wrap ((i1:Int)+1))) (by first| (simp only[iS aj hm1,mA]<;>rfl)| (simp only[iS aj hm1,mA,aE.c,aS.c,aQ.c,Action.c,aN.c,aI.c,cu.c,aP.c,Node.c,aF.c,cw.c]<;>rfl)) (ih1 (i1+1) jy (bC++([bD])) (dn aj) h)
theorem mC{aB:aJ}{aW:Bytes}{r:aJ}(h:mB aB aW=some r):Good prog 275 [D.sl (aB.map tx),D.str aW] (D.fr 9 1 (r.map tx)):=by
 refine gd func275 [[some (9,1)]] 49 fun hr Γ hΓ=>?_
 rw[mB]at h;refine(aU.a [.cn [0,1,5,6,7] [0]]).lp hΓ (Oa hΓ (fun zk bQ h=>?_) (by have:=(dY.sl (hr _ (aC (i:=0) rfl))).1;simpa using this) aB 0 false ([]:aJ) rfl h);obtain⟨h66,h⟩|⟨h66,h⟩:=aM h
 ·obtain⟨h67,h⟩:=bV h;cases h;exact((aU.b h66).w (cB h67)).rts hΓ (D.fr 9 1 ((bQ.map tx)++([[D.str aW]]))) (by first|rfl| (simp only[mA]<;>rfl))
 ·have h:=aG h;subst h;exact(aU.b h66).ret hΓ
def lI(aB:aE)(k1:aJ->Option aJ):aJ->Nat->aJ->Option aJ
 | [],i1,bu=>(k1 bu)
 |bD::bZ,i1,bu=>((iT bD).bind fun Y6=>(bif Y6 then((mB bu bD).bind fun y40=>(lI aB k1 bZ (i1+1) y40))else(lI aB k1 bZ (i1+1) bu)))
def o4(aB:aE):Option aJ:=(lI aB (fun(bQ:aJ)=>(some bQ)) aB.args 0 ([]:aJ))
def OZ(aB:aE)(W0:List aR)(cT:Int):St:=⟨[(1,D.ptr 0 0),(3,D.acc 1),(4,D.int .i64 cT)],[Ob.box (aE.c aB),Ob.row .uq 9 1 W0]⟩
theorem NJ(hΓ:Γ.nt=27){aB:aE}{r:aJ}{k1:aJ->Option aJ}(cX:∀(bQ:aJ),k1 bQ=some r->Ax Γ N f254 (.q [[some (9,1)]] (D.fr 9 1 (r.map tx))) [1,1,1] ⟨[(3,D.acc 0)],[Ob.row .uq 9 1 (bQ.map tx)]⟩)(hm1:aB.args.length<=maxLen):∀(rest:aJ) (i1:Nat) (bu:aJ),aB.args.drop i1=rest->lI aB k1 rest i1 bu=some r->Ar Γ N f254 (.q [[some (9,1)]] (D.fr 9 1 (r.map tx))) [1,1,0,1,0] (rest.length+1) (OZ aB (bu.map tx) (i1:Int)):=by
 intro rest
 induction rest with
 |nil=>
  intro i1 bu aj h;rw[lI]at h;refine aO fun N1 bz bg=>?_
  exact((aU.ge tx aj).a [.hl 0 [3] [1]]).ex hΓ bz (cX bu h)
 |cons bD bZ ih1=>
  intro i1 bu aj h;rw[lI]at h;refine aO fun N1 bz bg=>?_
  obtain⟨Y6,h38,h⟩:=aD h;have dJ:=(((aU.lt tx aj).l (ax tx 1 (dc aj) rfl)).g (gM h38))
  obtain⟨h39,h⟩|⟨h39,h⟩:=aM h
  ·obtain⟨y40,h41,h⟩:=aD h;exact((((dJ.b h39).l (ax tx 1 (dc aj) rfl)).g (mC h41)).a [.cn [1,3,4] [0,2]]).ct hΓ bg (iS aj hm1) (ih1 (i1+1) y40 (dn aj) h)
  ·exact((dJ.b h39).a [.cn [1,3,4] [0,1]]).ct hΓ bg (iS aj hm1) (ih1 (i1+1) bu (dn aj) h)
theorem qV{aB:aE}{r:aJ}(h:o4 aB=some r):Good prog 254 [D.agg (aE.c aB)] (D.fr 9 1 (r.map tx)):=by
 refine gd func254 [[some (9,1)]] 27 fun hr Γ hΓ=>?_
 rw[o4]at h;refine(aU.a [.cn [1,3,4] [0,1]]).lp hΓ (NJ hΓ (fun bQ h=>?_) (by have:=(dY.sl (dY.agg (hr _ (aC (i:=0) rfl)) (.sl (aB.args.map tx)) (by simp))).1;simpa using this) aB.args 0 ([]:aJ) rfl h);have h:=aG h;subst h;exact aU.ret hΓ
def ji(aB:aN)(aW:Int)(i1:Nat)(O4:aJ)(k2:aJ->Option aJ):aJ->Nat->aJ->Option aJ
 | [],i2,kE=>(k2 kE)
 |lV::wu,i2,kE=>((mB kE lV).bind fun a97=>(ji aB aW i1 O4 k2 wu (i2+1) a97))
def fw(aB:aN)(aW:Int)(k1:aJ->Option aJ):aq->Nat->aJ->Option aJ
 | [],i1,bu=>(k1 bu)
 |bD::bZ,i1,bu=>(bif decide (((i1:Int):Int)<aW)then(bif (bD.kind:Int)==1 then((o4 bD.pat).bind fun O4=>(bif decide (O4.length<=maxLen)then(ji aB aW i1 O4 (fun(zD:aJ)=>(fw aB aW k1 bZ (i1+1) zD)) O4 0 bu)else none))else(fw aB aW k1 bZ (i1+1) bu))else(k1 bu))
def nS(aB:aN)(aW:Int):Option aJ:=(fw aB aW (fun(bQ:aJ)=>(some bQ)) aB.conds 0 ([]:aJ))
def Ji(aB:aN)(aW:Int)(W0:List aR)(cT:Int):St:=⟨[(1,D.int .i64 aW),(2,D.ptr 0 0),(5,D.acc 1),(6,D.int .i64 cT)],[Ob.box (aN.c aB),Ob.row .uq 9 1 W0]⟩
def Jj(aB:aN)(aW:Int)(i1:Nat)(O4:aJ)(W0:List aR)(cT:Int):St:=⟨[(1,D.int .i64 aW),(2,D.ptr 0 0),(5,D.acc 1),(6,D.int .i64 (i1:Int)),(7,D.acc 2),(8,D.int .i64 cT)],[Ob.box (aN.c aB),Ob.row .uq 9 1 W0,Ob.row .uq 9 1 (O4.map tx)]⟩
theorem HU(hΓ:Γ.nt=49){aB:aN}{aW:Int}{i1:Nat}{O4:aJ}{r:aJ}{k2:aJ->Option aJ}(Cn:∀(zD:aJ),k2 zD=some r->Ax Γ N f247 (.q [[some (9,1)]] (D.fr 9 1 (r.map tx))) [1,1,0,1,0,0,1,1] ⟨[(1,D.int .i64 aW),(2,D.ptr 0 0),(5,D.acc 1),(6,D.int .i64 (i1:Int))],[Ob.box (aN.c aB),Ob.row .uq 9 1 (zD.map tx)]⟩)(hm2:O4.length<=maxLen):∀(rest:aJ) (i2:Nat) (kE:aJ),O4.drop i2=rest->ji aB aW i1 O4 k2 rest i2 kE=some r->Ar Γ N f247 (.q [[some (9,1)]] (D.fr 9 1 (r.map tx))) [1,1,0,1,0,0,1,0,0,1,0,1,1,0] (rest.length+1) (Jj aB aW i1 O4 (kE.map tx) (i2:Int)):=by
 intro rest
 induction rest with
 |nil=>
  intro i2 kE hd2 h;rw[ji]at h;refine aO fun N2 xo uz=>?_
  exact((aU.ge tx hd2).a [.hl 3 [1,2,5,6] [0,1]]).ex hΓ xo (Cn kE h)
 |cons lV wu ih2=>
  intro i2 kE hd2 h;rw[ji]at h;refine aO fun N2 xo uz=>?_
  obtain⟨a97,h184,h⟩:=aD h;exact(((((aU.lt tx hd2).i (pP tx 1 (dc hd2))).o 1 1 .uq (dG tx (dc hd2))).g (mC h184)).a [.cn [1,2,5,6,7,8] [0,3,2]]).ct hΓ uz (iS hd2 hm2) (ih2 (i2+1) a97 (dn hd2) h)
theorem HT(hΓ:Γ.nt=49){aB:aN}{aW:Int}{r:aJ}{k1:aJ->Option aJ}(cX:∀(bQ:aJ),k1 bQ=some r->Ax Γ N f247 (.q [[some (9,1)]] (D.fr 9 1 (r.map tx))) [1,1,1] ⟨[(5,D.acc 0)],[Ob.row .uq 9 1 (bQ.map tx)]⟩)(hm1:aB.conds.length<=maxLen):∀(rest:aq) (i1:Nat) (bu:aJ),aB.conds.drop i1=rest->fw aB aW k1 rest i1 bu=some r->Ar Γ N f247 (.q [[some (9,1)]] (D.fr 9 1 (r.map tx))) [1,1,0,1,0] (rest.length+1) (Ji aB aW (bu.map tx) (i1:Int)):=by
 intro rest
 induction rest with
 |nil=>
  intro i1 bu aj h;rw[fw]at h;refine aO fun N1 bz bg=>?_
  exact((((((aU.ge aQ.c aj).ge aQ.c aj).ge aQ.c aj).ge aQ.c aj).F 1).a [.hl 0 [5] [1]]).ex hΓ bz (cX bu h)
 |cons bD bZ ih1=>
  intro i1 bu aj h;rw[fw]at h;refine aO fun N1 bz bg=>?_
  have jb:=((((aU.lt aQ.c aj).lt aQ.c aj).lt aQ.c aj).lt aQ.c aj)
  obtain⟨h157,h⟩|⟨h157,h⟩:=aM h
  ·have ia:=((jb.b h157).l (ax aQ.c 5 (dc aj) rfl))
   obtain⟨h158,h⟩|⟨h158,h⟩:=aM h
   ·obtain⟨O4,h160,h⟩:=aD h;obtain⟨h185,h⟩:=bV h;refine((((ia.b h158).l (ax aQ.c 5 (dc aj) rfl)).g (qV h160)).a [.cn [1,2,5,6,7,8] [0,1,2]]).lp hΓ (HU hΓ (fun zD h=>?_) (bt h185) O4 0 bu rfl h);exact(aU.a [.cn [1,2,5,6] [0,1]]).ct hΓ bg (iS aj hm1) (ih1 (i1+1) zD (dn aj) h)
   ·exact((ia.b h158).a [.cn [1,2,5,6] [0,1]]).ct hΓ bg (iS aj hm1) (ih1 (i1+1) bu (dn aj) h)
  ·exact((jb.b h157).a [.hl 0 [5] [1]]).ex hΓ bz (cX bu h)
theorem vm{aB:aN}{aW:Int}{r:aJ}(h:nS aB aW=some r):Good prog 247 [D.agg (aN.c aB),D.int .i64 aW] (D.fr 9 1 (r.map tx)):=by
 refine gd func247 [[some (9,1)]] 49 fun hr Γ hΓ=>?_
 rw[nS]at h;refine(aU.a [.cn [1,2,5,6] [0,1]]).lp hΓ (HT hΓ (fun bQ h=>?_) (by have:=(dY.sl (dY.agg (hr _ (aC (i:=0) rfl)) (.sl (aB.conds.map aQ.c)) (by simp))).1;simpa using this) aB.conds 0 ([]:aJ) rfl h);have h:=aG h;subst h;exact aU.ret hΓ
def jH(aB:Bytes):Option Bool:=((fU aB).bind fun y1=>(bif y1 then(some true)else((iT aB).bind fun y4=>(some y4))))
theorem kY{aB:Bytes}{r:Bool}(h:jH aB=some r):Good prog 269 [D.str aB] (D.bool r):=by
 refine gd func269 [[none]] 9 fun hr Γ hΓ=>?_
 rw[jH]at h;obtain⟨y1,h2,h⟩:=aD h;obtain⟨h3,h⟩|⟨h3,h⟩:=aM h
 ·have h:=aG h;subst h;exact((aU.g (eb h2)).r 3 h3).ret hΓ
 ·obtain⟨y4,h5,h⟩:=aD h;have h:=aG h;subst h;exact((((aU.g (eb h2)).r 2 h3).g (gM h5)).b h3).ret hΓ
def mX(aB:aE)(k1:Option Bool):aJ->Nat->Option Bool
 | [],i1=>(k1)
 |bD::bZ,i1=>((jH bD).bind fun Ri=>(bif !(Ri)then(some false)else(mX aB k1 bZ (i1+1))))
def jS(aB:aE):Option Bool:=(mX aB ((sD aB.rel).bind fun S6=>(bif S6 then(some (decide ((((aB.args.map tx).length:Int):Int)<=3)))else(some false))) aB.args 0)
def Jp(aB:aE)(cT:Int):St:=⟨[(1,D.ptr 0 0),(3,D.int .i64 cT)],[Ob.box (aE.c aB)]⟩
theorem Hf(hΓ:Γ.nt=27){aB:aE}{r:Bool}{k1:Option Bool}(cX:k1=some r->Ax Γ N f225 (.q [[none]] (D.bool r)) [1,1] ⟨[(1,D.ptr 0 0)],[Ob.box (aE.c aB)]⟩)(hm1:aB.args.length<=maxLen):∀(rest:aJ) (i1:Nat),aB.args.drop i1=rest->mX aB k1 rest i1=some r->Ar Γ N f225 (.q [[none]] (D.bool r)) [1,0,1,0] (rest.length+1) (Jp aB (i1:Int)):=by
 intro rest
 induction rest with
 |nil=>
  intro i1 aj h;rw[mX]at h;refine aO fun N1 bz bg=>?_
  exact((aU.ge tx aj).a [.hl 0 [1] [0]]).ex hΓ bz (cX h)
 |cons bD bZ ih1=>
  intro i1 aj h;rw[mX]at h;refine aO fun N1 bz bg=>?_
  obtain⟨Ri,h22,h⟩:=aD h;have dJ:=(((aU.lt tx aj).l (ax tx 1 (dc aj) rfl)).g (kY h22))
  obtain⟨h23,h⟩|⟨h23,h⟩:=aM h
  ·have h:=aG h;subst h;exact(dJ.b h23).ret hΓ
  ·exact((dJ.b h23).a [.cn [1,3] [0]]).ct hΓ bg (iS aj hm1) (ih1 (i1+1) (dn aj) h)
theorem k7{aB:aE}{r:Bool}(h:jS aB=some r):Good prog 225 [D.agg (aE.c aB)] (D.bool r):=by
 refine gd func225 [[none]] 27 fun hr Γ hΓ=>?_
 rw[jS]at h;refine(aU.a [.cn [1,3] [0]]).lp hΓ (Hf hΓ (fun h=>?_) (by have:=(dY.sl (dY.agg (hr _ (aC (i:=0) rfl)) (.sl (aB.args.map tx)) (by simp))).1;simpa using this) aB.args 0 rfl h);obtain⟨S6,h25,h⟩:=aD h;obtain⟨h26,h⟩|⟨h26,h⟩:=aM h
 ·cases h;exact((aU.g (nT h25)).r 5 h26).ret hΓ
 ·have h:=aG h;subst h;exact((aU.g (nT h25)).r 5 h26).ret hΓ
def sC(aB:aQ):Option Bool:=(bif (aB.kind:Int)==1 then((jS aB.pat).bind fun y2=>(bif y2 then(bif (aB.left:Bytes)==([])then(some ((aB.right:Bytes)==([])))else(some false))else(some false)))else(bif (aB.kind:Int)==2 then((jS aB.pat).bind fun y7=>(bif y7 then(bif (aB.left:Bytes)==([])then(some ((aB.right:Bytes)==([])))else(some false))else(some false)))else(bif (aB.kind:Int)==3 then(bif (aB.pat.rel:Bytes)==([])then(bif (((aB.pat.args.map tx).length:Int):Int)==0 then((jH aB.left).bind fun WH=>(bif WH then((jH aB.right).bind fun UP=>(some UP))else(some false)))else(some false))else(some false))else(bif (aB.kind:Int)==4 then(bif (aB.pat.rel:Bytes)==([])then(bif (((aB.pat.args.map tx).length:Int):Int)==0 then((jH aB.left).bind fun lT=>(bif lT then((jH aB.right).bind fun y25=>(some y25))else(some false)))else(some false))else(some false))else(bif (aB.kind:Int)==5 then(bif (aB.pat.rel:Bytes)==([])then(bif (((aB.pat.args.map tx).length:Int):Int)==0 then((jH aB.left).bind fun y30=>(bif y30 then((jH aB.right).bind fun FA=>(some FA))else(some false)))else(some false))else(some false))else(some false))))))
theorem qT{aB:aQ}{r:Bool}(h:sC aB=some r):Good prog 248 [D.agg (aQ.c aB)] (D.bool r):=by
 refine gd func248 [[none]] 46 fun hr Γ hΓ=>?_
 rw[sC]at h;obtain⟨h1,h⟩|⟨h1,h⟩:=aM h
 ·obtain⟨y2,h3,h⟩:=aD h;have kF:=((aU.r 2 h1).g (k7 h3))
  obtain⟨h4,h⟩|⟨h4,h⟩:=aM h
  ·have dJ:=(kF.r 4 h4)
   obtain⟨h5,h⟩|⟨h5,h⟩:=aM h
   ·cases h;exact(dJ.r 4 h5).ret hΓ
   ·have h:=aG h;subst h;exact(dJ.r 4 h5).ret hΓ
  ·have h:=aG h;subst h;exact((kF.r 4 h4).F 4).ret hΓ
 ·obtain⟨h6,h⟩|⟨h6,h⟩:=aM h
  ·obtain⟨y7,h8,h⟩:=aD h;have jb:=(((aU.b h1).b h6).g (k7 h8))
   obtain⟨h9,h⟩|⟨h9,h⟩:=aM h
   ·have ia:=(jb.r 4 h9)
    obtain⟨h10,h⟩|⟨h10,h⟩:=aM h
    ·cases h;exact(ia.r 4 h10).ret hΓ
    ·have h:=aG h;subst h;exact(ia.r 4 h10).ret hΓ
   ·have h:=aG h;subst h;exact((jb.r 4 h9).F 4).ret hΓ
  ·have tq:=((aU.b h1).b h6)
   obtain⟨h11,h⟩|⟨h11,h⟩:=aM h
   ·have wm:=(tq.r 2 h11)
    obtain⟨h12,h⟩|⟨h12,h⟩:=aM h
    ·have AR:=(wm.r 6 h12)
     obtain⟨h13,h⟩|⟨h13,h⟩:=aM h
     ·obtain⟨WH,h15,h⟩:=aD h;have FG:=(((AR.r 3 h13).g (kY h15)).b h13)
      obtain⟨h16,h⟩|⟨h16,h⟩:=aM h
      ·obtain⟨UP,h18,h⟩:=aD h;have h:=aG h;subst h;exact(((FG.r 3 h16).g (kY h18)).b h16).ret hΓ
      ·have h:=aG h;subst h;exact(FG.r 4 h16).ret hΓ
     ·have h:=aG h;subst h;exact((AR.r 4 h13).F 4).ret hΓ
    ·have h:=aG h;subst h;exact((wm.r 6 h12).F 8).ret hΓ
   ·obtain⟨h19,h⟩|⟨h19,h⟩:=aM h
    ·have KR:=((tq.b h11).r 2 h19)
     obtain⟨h20,h⟩|⟨h20,h⟩:=aM h
     ·have AQ:=(KR.r 6 h20)
      obtain⟨h21,h⟩|⟨h21,h⟩:=aM h
      ·obtain⟨lT,h23,h⟩:=aD h;have IB:=(((AQ.r 3 h21).g (kY h23)).b h21)
       obtain⟨h24,h⟩|⟨h24,h⟩:=aM h
       ·obtain⟨y25,h26,h⟩:=aD h;have h:=aG h;subst h;exact(((IB.r 3 h24).g (kY h26)).b h24).ret hΓ
       ·have h:=aG h;subst h;exact(IB.r 4 h24).ret hΓ
      ·have h:=aG h;subst h;exact((AQ.r 4 h21).F 4).ret hΓ
     ·have h:=aG h;subst h;exact((KR.r 6 h20).F 8).ret hΓ
    ·have BU:=((tq.b h11).b h19)
     obtain⟨h27,h⟩|⟨h27,h⟩:=aM h
     ·obtain⟨h28,h⟩|⟨h28,h⟩:=aM h
      ·have IC:=((BU.b h27).r 6 h28)
       obtain⟨h29,h⟩|⟨h29,h⟩:=aM h
       ·obtain⟨y30,h31,h⟩:=aD h;have ID:=(((IC.r 3 h29).g (kY h31)).b h29)
        obtain⟨h32,h⟩|⟨h32,h⟩:=aM h
        ·obtain⟨FA,h34,h⟩:=aD h;have h:=aG h;subst h;exact(((ID.r 3 h32).g (kY h34)).b h32).ret hΓ
        ·have h:=aG h;subst h;exact(ID.r 4 h32).ret hΓ
       ·have h:=aG h;subst h;exact((IC.r 4 h29).F 4).ret hΓ
      ·have h:=aG h;subst h;exact(((BU.b h27).r 6 h28).F 8).ret hΓ
     ·have h:=aG h;subst h;exact(BU.b h27).ret hΓ
def me(aB:aQ):Option aJ:=((o4 aB.pat).bind fun y1=>((iT aB.left).bind fun y3=>(bif y3 then((mB y1 aB.left).bind fun y6=>((iT aB.right).bind fun y8=>(bif y8 then((mB y6 aB.right).bind fun WG=>(some WG))else(some y6))))else((iT aB.right).bind fun vz=>(bif vz then((mB y1 aB.right).bind fun y16=>(some y16))else(some y1))))))
theorem rR{aB:aQ}{r:aJ}(h:me aB=some r):Good prog 249 [D.agg (aQ.c aB)] (D.fr 9 1 (r.map tx)):=by
 refine gd func249 [[some (9,1)]] 22 fun hr Γ hΓ=>?_
 rw[me]at h;obtain⟨y1,h2,h⟩:=aD h;obtain⟨y3,h4,h⟩:=aD h;have kF:=((aU.g (qV h2)).g (gM h4))
 obtain⟨h5,h⟩|⟨h5,h⟩:=aM h
 ·obtain⟨y6,h7,h⟩:=aD h;obtain⟨y8,h9,h⟩:=aD h;have dJ:=(((kF.b h5).g (mC h7)).g (gM h9))
  obtain⟨h10,h⟩|⟨h10,h⟩:=aM h
  ·obtain⟨WG,h12,h⟩:=aD h;have h:=aG h;subst h;exact((dJ.b h10).g (mC h12)).ret hΓ
  ·have h:=aG h;subst h;exact(dJ.b h10).ret hΓ
 ·obtain⟨vz,h14,h⟩:=aD h;have jb:=((kF.b h5).g (gM h14))
  obtain⟨h15,h⟩|⟨h15,h⟩:=aM h
  ·obtain⟨y16,h17,h⟩:=aD h;have h:=aG h;subst h;exact((jb.b h15).g (mC h17)).ret hΓ
  ·have h:=aG h;subst h;exact(jb.b h15).ret hΓ
def jr(aB:aJ)(aW:Bytes)(k1:Option Bool):aJ->Nat->Option Bool
 | [],i1=>(k1)
 |bD::bZ,i1=>(bif (bD:Bytes)==aW then(some true)else(jr aB aW k1 bZ (i1+1)))
def hG(aB:aJ)(aW:Bytes):Option Bool:=(jr aB aW (some false) aB 0)
def Jx(aB:aJ)(aW:Bytes)(cT:Int):St:=⟨[(0,D.sl (aB.map tx)),(1,D.str aW),(5,D.int .i64 cT)],[]⟩
theorem Ho(hΓ:Γ.nt=18){aB:aJ}{aW:Bytes}{r:Bool}{k1:Option Bool}(cX:k1=some r->Ax Γ N f250 (.q [[none]] (D.bool r)) [1,1] ⟨[],[]⟩)(hm1:aB.length<=maxLen):∀(rest:aJ) (i1:Nat),aB.drop i1=rest->jr aB aW k1 rest i1=some r->Ar Γ N f250 (.q [[none]] (D.bool r)) [1,0,1,0] (rest.length+1) (Jx aB aW (i1:Int)):=by
 intro rest
 induction rest with
 |nil=>
  intro i1 aj h;rw[jr]at h;refine aO fun N1 bz bg=>?_
  exact((aU.ge tx aj).a [.hl 0 [] []]).ex hΓ bz (cX h)
 |cons bD bZ ih1=>
  intro i1 aj h;rw[jr]at h;refine aO fun N1 bz bg=>?_
  have dJ:=((aU.lt tx aj).l (ax tx 1 (dc aj) rfl))
  obtain⟨h13,h⟩|⟨h13,h⟩:=aM h
  ·have h:=aG h;subst h;exact(dJ.b h13).ret hΓ
  ·exact((dJ.b h13).a [.cn [0,1,5] []]).ct hΓ bg (iS aj hm1) (ih1 (i1+1) (dn aj) h)
theorem n8{aB:aJ}{aW:Bytes}{r:Bool}(h:hG aB aW=some r):Good prog 250 [D.sl (aB.map tx),D.str aW] (D.bool r):=by
 refine gd func250 [[none]] 18 fun hr Γ hΓ=>?_
 rw[hG]at h;refine(aU.a [.cn [0,1,5] []]).lp hΓ (Ho hΓ (fun h=>?_) (by have:=(dY.sl (hr _ (aC (i:=0) rfl))).1;simpa using this) aB 0 rfl h);have h:=aG h;subst h;exact aU.ret hΓ
def sE(aB:aQ):Option Bool:=((sC aB).bind fun y1=>(bif y1 then(some (decide ((aB.kind:Int)>=3)))else(some false)))
theorem uF{aB:aQ}{r:Bool}(h:sE aB=some r):Good prog 251 [D.agg (aQ.c aB)] (D.bool r):=by
 refine gd func251 [[none]] 10 fun hr Γ hΓ=>?_
 rw[sE]at h;obtain⟨y1,h2,h⟩:=aD h;obtain⟨h3,h⟩|⟨h3,h⟩:=aM h
 ·cases h;exact((aU.g (qT h2)).r 4 h3).ret hΓ
 ·have h:=aG h;subst h;exact((aU.g (qT h2)).r 4 h3).ret hΓ
def fm(aB:aN)(aW:Int)(cY:Bytes)(k1:Option Bool):aq->Nat->Option Bool
 | [],i1=>(k1)
 |bD::bZ,i1=>(bif ((i1:Int):Int) != aW then((me bD).bind fun Ce=>((hG Ce cY).bind fun FB=>(bif FB then(some true)else(fm aB aW cY k1 bZ (i1+1)))))else(fm aB aW cY k1 bZ (i1+1)))
def iR(aB:aN)(cY:Bytes)(k2:Option Bool):c8->Nat->Option Bool
 | [],i2=>(k2)
 |lV::wu,i2=>((o4 lV.pat).bind fun y67=>((hG y67 cY).bind fun y69=>(bif y69 then(some true)else(iR aB cY k2 wu (i2+1)))))
def ng(aB:aN)(aW:Int)(cY:Bytes):Option Bool:=(fm aB aW cY (iR aB cY (some false) aB.cv 0) aB.conds 0)
def G9(aB:aN)(aW:Int)(cY:Bytes)(cT:Int):St:=⟨[(1,D.int .i64 aW),(2,D.str cY),(3,D.ptr 0 0),(7,D.int .i64 cT)],[Ob.box (aN.c aB)]⟩
theorem Er(hΓ:Γ.nt=45){aB:aN}{aW:Int}{cY:Bytes}{r:Bool}{k1:Option Bool}(cX:k1=some r->Ax Γ N f252 (.q [[none]] (D.bool r)) [1,1] ⟨[(2,D.str cY),(3,D.ptr 0 0)],[Ob.box (aN.c aB)]⟩)(hm1:aB.conds.length<=maxLen):∀(rest:aq) (i1:Nat),aB.conds.drop i1=rest->fm aB aW cY k1 rest i1=some r->Ar Γ N f252 (.q [[none]] (D.bool r)) [1,0,1,0] (rest.length+1) (G9 aB aW cY (i1:Int)):=by
 intro rest
 induction rest with
 |nil=>
  intro i1 aj h;rw[fm]at h;refine aO fun N1 bz bg=>?_
  exact((aU.ge aQ.c aj).a [.hl 0 [2,3] [0]]).ex hΓ bz (cX h)
 |cons bD bZ ih1=>
  intro i1 aj h;rw[fm]at h;refine aO fun N1 bz bg=>?_
  obtain⟨h33,h⟩|⟨h33,h⟩:=aM h
  ·obtain⟨Ce,h35,h⟩:=aD h;obtain⟨FB,h37,h⟩:=aD h;have jb:=((((((((aU.lt aQ.c aj).r 4 h33).l (ax aQ.c 5 (dc aj) rfl)).r 2 h33).g (rR h35)).r 2 h33).g (n8 h37)).b h33)
   obtain⟨h38,h⟩|⟨h38,h⟩:=aM h
   ·have h:=aG h;subst h;exact(jb.b h38).ret hΓ
   ·exact((jb.b h38).a [.cn [1,2,3,7] [0]]).ct hΓ bg (iS aj hm1) (ih1 (i1+1) (dn aj) h)
  ·exact((((aU.lt aQ.c aj).r 9 h33).F 1).a [.cn [1,2,3,7] [0]]).ct hΓ bg (iS aj hm1) (ih1 (i1+1) (dn aj) h)
def GA(aB:aN)(cY:Bytes)(cT:Int):St:=⟨[(2,D.str cY),(3,D.ptr 0 0),(8,D.int .i64 cT)],[Ob.box (aN.c aB)]⟩
theorem Es(hΓ:Γ.nt=45){aB:aN}{cY:Bytes}{r:Bool}{k2:Option Bool}(Cn:k2=some r->Ax Γ N f252 (.q [[none]] (D.bool r)) [1,1,1] ⟨[],[]⟩)(hm2:aB.cv.length<=maxLen):∀(rest:c8) (i2:Nat),aB.cv.drop i2=rest->iR aB cY k2 rest i2=some r->Ar Γ N f252 (.q [[none]] (D.bool r)) [1,1,0,1,0] (rest.length+1) (GA aB cY (i2:Int)):=by
 intro rest
 induction rest with
 |nil=>
  intro i2 hd2 h;rw[iR]at h;refine aO fun N2 xo uz=>?_
  exact((aU.ge Action.c hd2).a [.hl 0 [] []]).ex hΓ xo (Cn h)
 |cons lV wu ih2=>
  intro i2 hd2 h;rw[iR]at h;refine aO fun N2 xo uz=>?_
  obtain⟨y67,h68,h⟩:=aD h;obtain⟨y69,h70,h⟩:=aD h;have ia:=((((aU.lt Action.c hd2).l (ax Action.c 3 (dc hd2) rfl)).g (qV h68)).g (n8 h70))
  obtain⟨h71,h⟩|⟨h71,h⟩:=aM h
  ·have h:=aG h;subst h;exact(ia.b h71).ret hΓ
  ·exact((ia.b h71).a [.cn [2,3,8] [0]]).ct hΓ uz (iS hd2 hm2) (ih2 (i2+1) (dn hd2) h)
theorem yX{aB:aN}{aW:Int}{cY:Bytes}{r:Bool}(h:ng aB aW cY=some r):Good prog 252 [D.agg (aN.c aB),D.int .i64 aW,D.str cY] (D.bool r):=by
 refine gd func252 [[none]] 45 fun hr Γ hΓ=>?_
 rw[ng]at h;refine(aU.a [.cn [1,2,3,7] [0]]).lp hΓ (Er hΓ (fun h=>?_) (by have:=(dY.sl (dY.agg (hr _ (aC (i:=0) rfl)) (.sl (aB.conds.map aQ.c)) (by simp))).1;simpa using this) aB.conds 0 rfl h);refine(aU.a [.cn [2,3,8] [0]]).lp hΓ (Es hΓ (fun h=>?_) (by have:=(dY.sl (dY.agg (hr _ (aC (i:=0) rfl)) (.sl (aB.cv.map Action.c)) (by simp))).1;simpa using this) aB.cv 0 rfl h);have h:=aG h;subst h;exact aU.ret hΓ
def ul(aB:Action):Option Bool:=(bif (aB.kind:Int)==1 then((jS aB.pat).bind fun y2=>(some y2))else(bif (aB.kind:Int)==2 then((jS aB.pat).bind fun y5=>(some y5))else(bif (aB.kind:Int)==3 then(bif (aB.pat.rel:Bytes)==([])then(some ((((aB.pat.args.map tx).length:Int):Int)==0))else(some false))else(some false))))
theorem HX{aB:Action}{r:Bool}(h:ul aB=some r):Good prog 253 [D.agg (Action.c aB)] (D.bool r):=by
 refine gd func253 [[none]] 24 fun hr Γ hΓ=>?_
 rw[ul]at h;obtain⟨h1,h⟩|⟨h1,h⟩:=aM h
 ·obtain⟨y2,h3,h⟩:=aD h;have h:=aG h;subst h;exact((aU.r 2 h1).g (k7 h3)).ret hΓ
 ·obtain⟨h4,h⟩|⟨h4,h⟩:=aM h
  ·obtain⟨y5,h6,h⟩:=aD h;have h:=aG h;subst h;exact(((aU.b h1).b h4).g (k7 h6)).ret hΓ
  ·have kF:=((aU.b h1).b h4)
   obtain⟨h7,h⟩|⟨h7,h⟩:=aM h
   ·obtain⟨h8,h⟩|⟨h8,h⟩:=aM h
    ·cases h;exact((kF.b h7).r 6 h8).ret hΓ
    ·have h:=aG h;subst h;exact((kF.b h7).r 6 h8).ret hΓ
   ·have h:=aG h;subst h;exact(kF.b h7).ret hΓ
def kZ(aB:aN)(i1:Nat)(Cd:aJ)(k2:aJ->Option aJ):aJ->Nat->aJ->Option aJ
 | [],i2,kE=>(k2 kE)
 |lV::wu,i2,kE=>((mB kE lV).bind fun a96=>(kZ aB i1 Cd k2 wu (i2+1) a96))
def j9(aB:aN)(k1:aJ->Option aJ):aq->Nat->aJ->Option aJ
 | [],i1,bu=>(k1 bu)
 |bD::bZ,i1,bu=>((me bD).bind fun Cd=>(bif decide (Cd.length<=maxLen)then(kZ aB i1 Cd (fun(zD:aJ)=>(j9 aB k1 bZ (i1+1) zD)) Cd 0 bu)else none))
def ke(aB:aN)(i3:Nat)(O7:aJ)(k4:aJ->Option aJ):aJ->Nat->aJ->Option aJ
 | [],i4,UL=>(k4 UL)
 |x4_::xs4,i4,UL=>((mB UL x4_).bind fun a98=>(ke aB i3 O7 k4 xs4 (i4+1) a98))
def gq(aB:aN)(k3:aJ->Option aJ):c8->Nat->aJ->Option aJ
 | [],i3,Av=>(k3 Av)
 |WS::UM,i3,Av=>((o4 WS.pat).bind fun O7=>(bif decide (O7.length<=maxLen)then(ke aB i3 O7 (fun(a0E:aJ)=>(gq aB k3 UM (i3+1) a0E)) O7 0 Av)else none))
def uo(aB:aN):Option aJ:=(j9 aB (fun(tj:aJ)=>(gq aB (fun(a2s:aJ)=>(some a2s)) aB.cv 0 tj)) aB.conds 0 ([]:aJ))
def Ls(aB:aN)(W0:List aR)(cT:Int):St:=⟨[(1,D.ptr 0 0),(3,D.acc 1),(4,D.int .i64 cT)],[Ob.box (aN.c aB),Ob.row .uq 9 1 W0]⟩
def Lt(aB:aN)(i1:Nat)(Cd:aJ)(W0:List aR)(cT:Int):St:=⟨[(1,D.ptr 0 0),(3,D.acc 1),(4,D.int .i64 (i1:Int)),(5,D.acc 2),(6,D.int .i64 cT)],[Ob.box (aN.c aB),Ob.row .uq 9 1 W0,Ob.row .uq 9 1 (Cd.map tx)]⟩
theorem Jt(hΓ:Γ.nt=63){aB:aN}{i1:Nat}{Cd:aJ}{r:aJ}{k2:aJ->Option aJ}(Cn:∀(zD:aJ),k2 zD=some r->Ax Γ N f255 (.q [[some (9,1)]] (D.fr 9 1 (r.map tx))) [1,1,0,1,0,0,1,1] ⟨[(1,D.ptr 0 0),(3,D.acc 1),(4,D.int .i64 (i1:Int))],[Ob.box (aN.c aB),Ob.row .uq 9 1 (zD.map tx)]⟩)(hm2:Cd.length<=maxLen):∀(rest:aJ) (i2:Nat) (kE:aJ),Cd.drop i2=rest->kZ aB i1 Cd k2 rest i2 kE=some r->Ar Γ N f255 (.q [[some (9,1)]] (D.fr 9 1 (r.map tx))) [1,1,0,1,0,0,1,0,0,1,1,0] (rest.length+1) (Lt aB i1 Cd (kE.map tx) (i2:Int)):=by
 intro rest
 induction rest with
 |nil=>
  intro i2 kE hd2 h;rw[kZ]at h;refine aO fun N2 xo uz=>?_
  exact((aU.ge tx hd2).a [.hl 3 [1,3,4] [0,1]]).ex hΓ xo (Cn kE h)
 |cons lV wu ih2=>
  intro i2 kE hd2 h;rw[kZ]at h;refine aO fun N2 xo uz=>?_
  obtain⟨a96,h172,h⟩:=aD h;exact(((((aU.lt tx hd2).i (pP tx 1 (dc hd2))).o 1 1 .uq (dG tx (dc hd2))).g (mC h172)).a [.cn [1,3,4,5,6] [0,3,2]]).ct hΓ uz (iS hd2 hm2) (ih2 (i2+1) a96 (dn hd2) h)
theorem Js(hΓ:Γ.nt=63){aB:aN}{r:aJ}{k1:aJ->Option aJ}(cX:∀(tj:aJ),k1 tj=some r->Ax Γ N f255 (.q [[some (9,1)]] (D.fr 9 1 (r.map tx))) [1,1,1] ⟨[(1,D.ptr 0 0),(3,D.acc 1)],[Ob.box (aN.c aB),Ob.row .uq 9 1 (tj.map tx)]⟩)(hm1:aB.conds.length<=maxLen):∀(rest:aq) (i1:Nat) (bu:aJ),aB.conds.drop i1=rest->j9 aB k1 rest i1 bu=some r->Ar Γ N f255 (.q [[some (9,1)]] (D.fr 9 1 (r.map tx))) [1,1,0,1,0] (rest.length+1) (Ls aB (bu.map tx) (i1:Int)):=by
 intro rest
 induction rest with
 |nil=>
  intro i1 bu aj h;rw[j9]at h;refine aO fun N1 bz bg=>?_
  exact((aU.ge aQ.c aj).a [.hl 0 [1,3] [0,1]]).ex hΓ bz (cX bu h)
 |cons bD bZ ih1=>
  intro i1 bu aj h;rw[j9]at h;refine aO fun N1 bz bg=>?_
  obtain⟨Cd,h148,h⟩:=aD h;obtain⟨h173,h⟩:=bV h;refine((((aU.lt aQ.c aj).l (ax aQ.c 5 (dc aj) rfl)).g (rR h148)).a [.cn [1,3,4,5,6] [0,1,2]]).lp hΓ (Jt hΓ (fun zD h=>?_) (bt h173) Cd 0 bu rfl h);exact(aU.a [.cn [1,3,4] [0,1]]).ct hΓ bg (iS aj hm1) (ih1 (i1+1) zD (dn aj) h)
def Lu(aB:aN)(W0:List aR)(cT:Int):St:=⟨[(1,D.ptr 0 0),(3,D.acc 1),(7,D.int .i64 cT)],[Ob.box (aN.c aB),Ob.row .uq 9 1 W0]⟩
def Lv(aB:aN)(i3:Nat)(O7:aJ)(W0:List aR)(cT:Int):St:=⟨[(1,D.ptr 0 0),(3,D.acc 1),(7,D.int .i64 (i3:Int)),(8,D.acc 2),(9,D.int .i64 cT)],[Ob.box (aN.c aB),Ob.row .uq 9 1 W0,Ob.row .uq 9 1 (O7.map tx)]⟩
theorem Jv(hΓ:Γ.nt=63){aB:aN}{i3:Nat}{O7:aJ}{r:aJ}{k4:aJ->Option aJ}(hE4:∀(a0E:aJ),k4 a0E=some r->Ax Γ N f255 (.q [[some (9,1)]] (D.fr 9 1 (r.map tx))) [1,1,1,0,1,0,0,1,1] ⟨[(1,D.ptr 0 0),(3,D.acc 1),(7,D.int .i64 (i3:Int))],[Ob.box (aN.c aB),Ob.row .uq 9 1 (a0E.map tx)]⟩)(hm4:O7.length<=maxLen):∀(rest:aJ) (i4:Nat) (UL:aJ),O7.drop i4=rest->ke aB i3 O7 k4 rest i4 UL=some r->Ar Γ N f255 (.q [[some (9,1)]] (D.fr 9 1 (r.map tx))) [1,1,1,0,1,0,0,1,0,0,1,1,0] (rest.length+1) (Lv aB i3 O7 (UL.map tx) (i4:Int)):=by
 intro rest
 induction rest with
 |nil=>
  intro i4 UL X2 h;rw[ke]at h;refine aO fun N4 hN4 hS4=>?_
  exact((aU.ge tx X2).a [.hl 3 [1,3,7] [0,1]]).ex hΓ hN4 (hE4 UL h)
 |cons x4_ xs4 ih4=>
  intro i4 UL X2 h;rw[ke]at h;refine aO fun N4 hN4 hS4=>?_
  obtain⟨a98,h345,h⟩:=aD h;exact(((((aU.lt tx X2).i (pP tx 1 (dc X2))).o 1 1 .uq (dG tx (dc X2))).g (mC h345)).a [.cn [1,3,7,8,9] [0,3,2]]).ct hΓ hS4 (iS X2 hm4) (ih4 (i4+1) a98 (dn X2) h)
theorem Ju(hΓ:Γ.nt=63){aB:aN}{r:aJ}{k3:aJ->Option aJ}(hE3:∀(a2s:aJ),k3 a2s=some r->Ax Γ N f255 (.q [[some (9,1)]] (D.fr 9 1 (r.map tx))) [1,1,1,1] ⟨[(3,D.acc 0)],[Ob.row .uq 9 1 (a2s.map tx)]⟩)(X4:aB.cv.length<=maxLen):∀(rest:c8) (i3:Nat) (Av:aJ),aB.cv.drop i3=rest->gq aB k3 rest i3 Av=some r->Ar Γ N f255 (.q [[some (9,1)]] (D.fr 9 1 (r.map tx))) [1,1,1,0,1,0] (rest.length+1) (Lu aB (Av.map tx) (i3:Int)):=by
 intro rest
 induction rest with
 |nil=>
  intro i3 Av BS h;rw[gq]at h;refine aO fun N3 YX TO=>?_
  exact((aU.ge Action.c BS).a [.hl 0 [3] [1]]).ex hΓ YX (hE3 Av h)
 |cons WS UM ih3=>
  intro i3 Av BS h;rw[gq]at h;refine aO fun N3 YX TO=>?_
  obtain⟨O7,h321,h⟩:=aD h;obtain⟨h346,h⟩:=bV h;refine((((aU.lt Action.c BS).l (ax Action.c 3 (dc BS) rfl)).g (qV h321)).a [.cn [1,3,7,8,9] [0,1,2]]).lp hΓ (Jv hΓ (fun a0E h=>?_) (bt h346) O7 0 Av rfl h);exact(aU.a [.cn [1,3,7] [0,1]]).ct hΓ TO (iS BS X4) (ih3 (i3+1) a0E (dn BS) h)
theorem Hj{aB:aN}{r:aJ}(h:uo aB=some r):Good prog 255 [D.agg (aN.c aB)] (D.fr 9 1 (r.map tx)):=by
 refine gd func255 [[some (9,1)]] 63 fun hr Γ hΓ=>?_
 rw[uo]at h;refine(aU.a [.cn [1,3,4] [0,1]]).lp hΓ (Js hΓ (fun tj h=>?_) (by have:=(dY.sl (dY.agg (hr _ (aC (i:=0) rfl)) (.sl (aB.conds.map aQ.c)) (by simp))).1;simpa using this) aB.conds 0 ([]:aJ) rfl h);refine(aU.a [.cn [1,3,7] [0,1]]).lp hΓ (Ju hΓ (fun a2s h=>?_) (by have:=(dY.sl (dY.agg (hr _ (aC (i:=0) rfl)) (.sl (aB.cv.map Action.c)) (by simp))).1;simpa using this) aB.cv 0 tj rfl h);have h:=aG h;subst h;exact aU.ret hΓ
def gF(aB:aN)(vz:aJ)(i1:Nat)(bD:aQ)(OA:aJ)(GH:aJ)(k2:Option Bool):aJ->Nat->Option Bool
 | [],i2=>(k2)
 |lV::wu,i2=>((hG OA lV).bind fun a9A=>((sE bD).bind fun aBj=>(bif aBj then(bif !(a9A)then(some false)else(bif (bD.kind:Int)==2 then(gF aB vz i1 bD OA GH k2 wu (i2+1))else(gF aB vz i1 bD OA GH k2 wu (i2+1))))else(bif (bD.kind:Int)==2 then(bif !(a9A)then((ng aB (i1:Int) lV).bind fun aBk=>(bif aBk then(some false)else(gF aB vz i1 bD OA GH k2 wu (i2+1))))else(gF aB vz i1 bD OA GH k2 wu (i2+1)))else(gF aB vz i1 bD OA GH k2 wu (i2+1))))))
def gG(aB:aN)(vz:aJ)(i1:Nat)(bD:aQ)(OB:aJ)(GI:aJ)(k3:Option Bool):aJ->Nat->Option Bool
 | [],i3=>(k3)
 |WS::UM,i3=>((hG OB WS).bind fun a9B=>((sE bD).bind fun aBm=>(bif aBm then(bif !(a9B)then(some false)else(bif (bD.kind:Int)==2 then(gG aB vz i1 bD OB GI k3 UM (i3+1))else(gG aB vz i1 bD OB GI k3 UM (i3+1))))else(bif (bD.kind:Int)==2 then(bif !(a9B)then((ng aB (i1:Int) WS).bind fun aBn=>(bif aBn then(some false)else(gG aB vz i1 bD OB GI k3 UM (i3+1))))else(gG aB vz i1 bD OB GI k3 UM (i3+1)))else(gG aB vz i1 bD OB GI k3 UM (i3+1))))))
def lF(aB:aN)(vz:aJ)(k1:Option Bool):aq->Nat->Option Bool
 | [],i1=>(k1)
 |bD::bZ,i1=>((sC bD).bind fun aBi=>(bif !(aBi)then(some false)else(bif ((i1:Int):Int)==0 then(bif (bD.kind:Int) != 1 then(some false)else((nS aB (i1:Int)).bind fun OA=>((me bD).bind fun GH=>(bif decide (GH.length<=maxLen)then(gF aB vz i1 bD OA GH (lF aB vz k1 bZ (i1+1)) GH 0)else none))))else((nS aB (i1:Int)).bind fun OB=>((me bD).bind fun GI=>(bif decide (GI.length<=maxLen)then(gG aB vz i1 bD OB GI (lF aB vz k1 bZ (i1+1)) GI 0)else none))))))
def nV(aB:aN)(vz:aJ)(i4:Nat)(OC:aJ)(k5:Option Bool):aJ->Nat->Option Bool
 | [],i5=>(k5)
 |x5_::xs5,i5=>((hG vz x5_).bind fun aBq=>(bif !(aBq)then(some false)else(nV aB vz i4 OC k5 xs5 (i5+1))))
def nU(aB:aN)(vz:aJ)(k4:Option Bool):c8->Nat->Option Bool
 | [],i4=>(k4)
 |x4_::xs4,i4=>((ul x4_).bind fun aBp=>(bif !(aBp)then(some false)else((o4 x4_.pat).bind fun OC=>(bif decide (OC.length<=maxLen)then(nV aB vz i4 OC (nU aB vz k4 xs4 (i4+1)) OC 0)else none))))
def xh(aB:aN):Option Bool:=((sD aB.name).bind fun y1=>(bif !(y1)then(some false)else((lJ aB.prio 0 9).bind fun y4=>(bif !(y4)then(some false)else((lJ ((aB.conds.map aQ.c).length:Int) 1 4).bind fun y7=>(bif !(y7)then(some false)else((lJ ((aB.cv.map Action.c).length:Int) 1 2).bind fun DK=>(bif !(DK)then(some false)else((nS aB ((aB.conds.map aQ.c).length:Int)).bind fun vz=>(lF aB vz (nU aB vz ((uo aB).bind fun aBr=>(some (decide ((((aBr.map tx).length:Int):Int)<=6)))) aB.cv 0) aB.conds 0))))))))))
def OU(aB:aN)(vz:aJ)(cT:Int):St:=⟨[(1,D.ptr 0 0),(3,D.acc 1),(4,D.int .i64 cT)],[Ob.box (aN.c aB),Ob.row .uq 9 1 (vz.map tx)]⟩
def OV(aB:aN)(vz:aJ)(i1:Nat)(bD:aQ)(OA:aJ)(GH:aJ)(cT:Int):St:=⟨[(1,D.ptr 0 0),(3,D.acc 1),(4,D.int .i64 (i1:Int)),(5,D.ptr 2 0),(6,D.acc 3),(7,D.acc 4),(8,D.int .i64 cT)],[Ob.box (aN.c aB),Ob.row .uq 9 1 (vz.map tx),Ob.box [D.int .i64 bD.kind,D.str bD.pat.rel,D.sl (bD.pat.args.map tx),D.str bD.left,D.str bD.right],Ob.row .uq 9 1 (OA.map tx),Ob.row .uq 9 1 (GH.map tx)]⟩
theorem NC(hΓ:Γ.nt=145){aB:aN}{vz:aJ}{i1:Nat}{bD:aQ}{OA:aJ}{GH:aJ}{r:Bool}{k2:Option Bool}(Cn:k2=some r->Ax Γ N f196 (.q [[none]] (D.bool r)) [1,1,1,0,1,0,0,1,1] ⟨[(1,D.ptr 0 0),(3,D.acc 1),(4,D.int .i64 (i1:Int))],[Ob.box (aN.c aB),Ob.row .uq 9 1 (vz.map tx)]⟩)(hm2:GH.length<=maxLen):∀(rest:aJ) (i2:Nat),GH.drop i2=rest->gF aB vz i1 bD OA GH k2 rest i2=some r->Ar Γ N f196 (.q [[none]] (D.bool r)) [1,1,1,0,1,0,0,1,0,0,1,1,1,1,1,0] (rest.length+1) (OV aB vz i1 bD OA GH (i2:Int)):=by
 intro rest
 induction rest with
 |nil=>
  intro i2 hd2 h;rw[gF]at h;refine aO fun N2 xo uz=>?_
  exact((aU.ge tx hd2).a [.hl 3 [1,3,4] [0,1]]).ex hΓ xo (Cn h)
 |cons lV wu ih2=>
  intro i2 hd2 h;rw[gF]at h;refine aO fun N2 xo uz=>?_
  obtain⟨a9A,h711,h⟩:=aD h;obtain⟨aBj,h713,h⟩:=aD h;have a6T:=((((((aU.lt tx hd2).i (pP tx 1 (dc hd2))).o 1 1 .uq (dG tx (dc hd2))).g (n8 h711)).a [.n 21]).g (uF h713))
  obtain⟨h714,h⟩|⟨h714,h⟩:=aM h
  ·have a6U:=(a6T.r 3 h714)
   obtain⟨h715,h⟩|⟨h715,h⟩:=aM h
   ·have h:=aG h;subst h;exact((((((a6U.r 4 h715).a [bF,bF]).r 2 h715).a [bF,bF,bF,bF,bF,bF,bF]).r 2 h715).T 1).ret hΓ
   ·have a6V:=(a6U.r 4 h715)
    obtain⟨h716,h⟩|⟨h716,h⟩:=aM h
    ·exact((((((a6V.r 2 h716).b h715).b h716).r 11 h715).F 1).a [.cn [1,3,4,5,6,7,8] [0,1,2,3,4]]).ct hΓ uz (iS hd2 hm2) (ih2 (i2+1) (dn hd2) h)
    ·exact((((((((((a6V.r 2 h716).b h715).b h716).b h715).F 7).b h715).F 1).b h715).F 1).a [.cn [1,3,4,5,6,7,8] [0,1,2,3,4]]).ct hΓ uz (iS hd2 hm2) (ih2 (i2+1) (dn hd2) h)
  ·have a6W:=((a6T.r 3 h714).F 4)
   obtain⟨h717,h⟩|⟨h717,h⟩:=aM h
   ·have a6X:=((((a6W.r 2 h717).F 1).b h717).F 1)
    obtain⟨h718,h⟩|⟨h718,h⟩:=aM h
    ·obtain⟨aBk,h720,h⟩:=aD h;have a6Y:=(((((((((a6X.r 5 h718).i (pP tx 1 (dc hd2))).b h718).o 1 1 .uq (dG tx (dc hd2))).b h718).g (yX h720)).F 1).b h718).F 1)
     obtain⟨h721,h⟩|⟨h721,h⟩:=aM h
     ·have h:=aG h;subst h;exact(a6Y.b h721).ret hΓ
     ·exact((a6Y.b h721).a [.cn [1,3,4,5,6,7,8] [0,1,2,3,4]]).ct hΓ uz (iS hd2 hm2) (ih2 (i2+1) (dn hd2) h)
    ·exact(((((a6X.r 7 h718).F 1).b h718).F 2).a [.cn [1,3,4,5,6,7,8] [0,1,2,3,4]]).ct hΓ uz (iS hd2 hm2) (ih2 (i2+1) (dn hd2) h)
   ·exact(((((a6W.r 2 h717).F 1).b h717).F 12).a [.cn [1,3,4,5,6,7,8] [0,1,2,3,4]]).ct hΓ uz (iS hd2 hm2) (ih2 (i2+1) (dn hd2) h)
def OW(aB:aN)(vz:aJ)(i1:Nat)(bD:aQ)(OB:aJ)(GI:aJ)(cT:Int):St:=⟨[(1,D.ptr 0 0),(3,D.acc 1),(4,D.int .i64 (i1:Int)),(5,D.ptr 2 0),(6,D.acc 3),(7,D.acc 4),(8,D.int .i64 cT)],[Ob.box (aN.c aB),Ob.row .uq 9 1 (vz.map tx),Ob.box [D.int .i64 bD.kind,D.str bD.pat.rel,D.sl (bD.pat.args.map tx),D.str bD.left,D.str bD.right],Ob.row .uq 9 1 (OB.map tx),Ob.row .uq 9 1 (GI.map tx)]⟩
theorem ND(hΓ:Γ.nt=145){aB:aN}{vz:aJ}{i1:Nat}{bD:aQ}{OB:aJ}{GI:aJ}{r:Bool}{k3:Option Bool}(hE3:k3=some r->Ax Γ N f196 (.q [[none]] (D.bool r)) [1,1,1,0,1,0,0,1,1] ⟨[(1,D.ptr 0 0),(3,D.acc 1),(4,D.int .i64 (i1:Int))],[Ob.box (aN.c aB),Ob.row .uq 9 1 (vz.map tx)]⟩)(X4:GI.length<=maxLen):∀(rest:aJ) (i3:Nat),GI.drop i3=rest->gG aB vz i1 bD OB GI k3 rest i3=some r->Ar Γ N f196 (.q [[none]] (D.bool r)) [1,1,1,0,1,0,0,1,0,0,1,1,1,1,1,0] (rest.length+1) (OW aB vz i1 bD OB GI (i3:Int)):=by
 intro rest
 induction rest with
 |nil=>
  intro i3 BS h;rw[gG]at h;refine aO fun N3 YX TO=>?_
  exact((aU.ge tx BS).a [.hl 3 [1,3,4] [0,1]]).ex hΓ YX (hE3 h)
 |cons WS UM ih3=>
  intro i3 BS h;rw[gG]at h;refine aO fun N3 YX TO=>?_
  obtain⟨a9B,h786,h⟩:=aD h;obtain⟨aBm,h788,h⟩:=aD h;have a6Z:=((((((aU.lt tx BS).i (pP tx 1 (dc BS))).o 1 1 .uq (dG tx (dc BS))).g (n8 h786)).a [.n 21]).g (uF h788))
  obtain⟨h789,h⟩|⟨h789,h⟩:=aM h
  ·have a6a:=(a6Z.r 3 h789)
   obtain⟨h790,h⟩|⟨h790,h⟩:=aM h
   ·have h:=aG h;subst h;exact((((((a6a.r 4 h790).a [bF,bF]).r 2 h790).a [bF,bF,bF,bF,bF,bF,bF]).r 2 h790).T 1).ret hΓ
   ·have a6b:=(a6a.r 4 h790)
    obtain⟨h791,h⟩|⟨h791,h⟩:=aM h
    ·exact((((((a6b.r 2 h791).b h790).b h791).r 11 h790).F 1).a [.cn [1,3,4,5,6,7,8] [0,1,2,3,4]]).ct hΓ TO (iS BS X4) (ih3 (i3+1) (dn BS) h)
    ·exact((((((((((a6b.r 2 h791).b h790).b h791).b h790).F 7).b h790).F 1).b h790).F 1).a [.cn [1,3,4,5,6,7,8] [0,1,2,3,4]]).ct hΓ TO (iS BS X4) (ih3 (i3+1) (dn BS) h)
  ·have a6c:=((a6Z.r 3 h789).F 4)
   obtain⟨h792,h⟩|⟨h792,h⟩:=aM h
   ·have a6d:=((((a6c.r 2 h792).F 1).b h792).F 1)
    obtain⟨h793,h⟩|⟨h793,h⟩:=aM h
    ·obtain⟨aBn,h795,h⟩:=aD h;have a6e:=(((((((((a6d.r 5 h793).i (pP tx 1 (dc BS))).b h793).o 1 1 .uq (dG tx (dc BS))).b h793).g (yX h795)).F 1).b h793).F 1)
     obtain⟨h796,h⟩|⟨h796,h⟩:=aM h
     ·have h:=aG h;subst h;exact(a6e.b h796).ret hΓ
     ·exact((a6e.b h796).a [.cn [1,3,4,5,6,7,8] [0,1,2,3,4]]).ct hΓ TO (iS BS X4) (ih3 (i3+1) (dn BS) h)
    ·exact(((((a6d.r 7 h793).F 1).b h793).F 2).a [.cn [1,3,4,5,6,7,8] [0,1,2,3,4]]).ct hΓ TO (iS BS X4) (ih3 (i3+1) (dn BS) h)
   ·exact(((((a6c.r 2 h792).F 1).b h792).F 12).a [.cn [1,3,4,5,6,7,8] [0,1,2,3,4]]).ct hΓ TO (iS BS X4) (ih3 (i3+1) (dn BS) h)
theorem NB(hΓ:Γ.nt=145){aB:aN}{vz:aJ}{r:Bool}{k1:Option Bool}(cX:k1=some r->Ax Γ N f196 (.q [[none]] (D.bool r)) [1,1,1,1] ⟨[(1,D.ptr 0 0),(3,D.acc 1)],[Ob.box (aN.c aB),Ob.row .uq 9 1 (vz.map tx)]⟩)(hm1:aB.conds.length<=maxLen):∀(rest:aq) (i1:Nat),aB.conds.drop i1=rest->lF aB vz k1 rest i1=some r->Ar Γ N f196 (.q [[none]] (D.bool r)) [1,1,1,0,1,0] (rest.length+1) (OU aB vz (i1:Int)):=by
 intro rest
 induction rest with
 |nil=>
  intro i1 aj h;rw[lF]at h;refine aO fun N1 bz bg=>?_
  exact((aU.ge aQ.c aj).a [.hl 0 [1,3] [0,1]]).ex hΓ bz (cX h)
 |cons bD bZ ih1=>
  intro i1 aj h;rw[lF]at h;refine aO fun N1 bz bg=>?_
  obtain⟨aBi,h644,h⟩:=aD h;have a6f:=(((aU.lt aQ.c aj).l (ax aQ.c 5 (dc aj) rfl)).g (qT h644))
  obtain⟨h645,h⟩|⟨h645,h⟩:=aM h
  ·have h:=aG h;subst h;exact((((a6f.r 3 h645).a [bF,bF,bF]).r 2 h645).T 1).ret hΓ
  ·have a6g:=(a6f.r 3 h645)
   obtain⟨h646,h⟩|⟨h646,h⟩:=aM h
   ·have a6h:=((((a6g.r 3 h646).b h645).b h646).b h645)
    obtain⟨h647,h⟩|⟨h647,h⟩:=aM h
    ·have h:=aG h;subst h;exact(a6h.b h647).ret hΓ
    ·obtain⟨OA,h649,h⟩:=aD h;obtain⟨GH,h651,h⟩:=aD h;obtain⟨h722,h⟩:=bV h;refine((((a6h.b h647).g (vm h649)).g (rR h651)).a [.cn [1,3,4,5,6,7,8] [0,1,2,3,4]]).lp hΓ (NC hΓ (fun h=>?_) (bt h722) GH 0 rfl h);exact(aU.a [.cn [1,3,4] [0,1]]).ct hΓ bg (iS aj hm1) (ih1 (i1+1) (dn aj) h)
   ·obtain⟨OB,h724,h⟩:=aD h;obtain⟨GI,h726,h⟩:=aD h;obtain⟨h797,h⟩:=bV h;refine((((((((a6g.r 3 h646).b h645).b h646).b h645).F 1).g (vm h724)).g (rR h726)).a [.cn [1,3,4,5,6,7,8] [0,1,2,3,4]]).lp hΓ (ND hΓ (fun h=>?_) (bt h797) GI 0 rfl h);exact(aU.a [.cn [1,3,4] [0,1]]).ct hΓ bg (iS aj hm1) (ih1 (i1+1) (dn aj) h)
def OX(aB:aN)(vz:aJ)(cT:Int):St:=⟨[(1,D.ptr 0 0),(3,D.acc 1),(10,D.int .i64 cT)],[Ob.box (aN.c aB),Ob.row .uq 9 1 (vz.map tx)]⟩
def OY(aB:aN)(vz:aJ)(i4:Nat)(OC:aJ)(cT:Int):St:=⟨[(1,D.ptr 0 0),(3,D.acc 1),(10,D.int .i64 (i4:Int)),(11,D.acc 2),(12,D.int .i64 cT)],[Ob.box (aN.c aB),Ob.row .uq 9 1 (vz.map tx),Ob.row .uq 9 1 (OC.map tx)]⟩
theorem NF(hΓ:Γ.nt=145){aB:aN}{vz:aJ}{i4:Nat}{OC:aJ}{r:Bool}{k5:Option Bool}(hE5:k5=some r->Ax Γ N f196 (.q [[none]] (D.bool r)) [1,1,1,1,0,1,0,0,1,1] ⟨[(1,D.ptr 0 0),(3,D.acc 1),(10,D.int .i64 (i4:Int))],[Ob.box (aN.c aB),Ob.row .uq 9 1 (vz.map tx)]⟩)(hm5:OC.length<=maxLen):∀(rest:aJ) (i5:Nat),OC.drop i5=rest->nV aB vz i4 OC k5 rest i5=some r->Ar Γ N f196 (.q [[none]] (D.bool r)) [1,1,1,1,0,1,0,0,1,0,0,1,1,1,0] (rest.length+1) (OY aB vz i4 OC (i5:Int)):=by
 intro rest
 induction rest with
 |nil=>
  intro i5 hd5 h;rw[nV]at h;refine aO fun N5 hN5 hS5=>?_
  exact((aU.ge tx hd5).a [.hl 3 [1,3,10] [0,1]]).ex hΓ hN5 (hE5 h)
 |cons x5_ xs5 ih5=>
  intro i5 hd5 h;rw[nV]at h;refine aO fun N5 hN5 hS5=>?_
  obtain⟨aBq,h953,h⟩:=aD h;have a6i:=((((aU.lt tx hd5).i (pP tx 1 (dc hd5))).o 1 1 .uq (dG tx (dc hd5))).g (n8 h953))
  obtain⟨h954,h⟩|⟨h954,h⟩:=aM h
  ·have h:=aG h;subst h;exact(a6i.b h954).ret hΓ
  ·exact((a6i.b h954).a [.cn [1,3,10,11,12] [0,1,2]]).ct hΓ hS5 (iS hd5 hm5) (ih5 (i5+1) (dn hd5) h)
theorem NE(hΓ:Γ.nt=145){aB:aN}{vz:aJ}{r:Bool}{k4:Option Bool}(hE4:k4=some r->Ax Γ N f196 (.q [[none]] (D.bool r)) [1,1,1,1,1] ⟨[(1,D.ptr 0 0)],[Ob.box (aN.c aB)]⟩)(hm4:aB.cv.length<=maxLen):∀(rest:c8) (i4:Nat),aB.cv.drop i4=rest->nU aB vz k4 rest i4=some r->Ar Γ N f196 (.q [[none]] (D.bool r)) [1,1,1,1,0,1,0] (rest.length+1) (OX aB vz (i4:Int)):=by
 intro rest
 induction rest with
 |nil=>
  intro i4 X2 h;rw[nU]at h;refine aO fun N4 hN4 hS4=>?_
  exact((aU.ge Action.c X2).a [.hl 0 [1] [0]]).ex hΓ hN4 (hE4 h)
 |cons x4_ xs4 ih4=>
  intro i4 X2 h;rw[nU]at h;refine aO fun N4 hN4 hS4=>?_
  obtain⟨aBp,h927,h⟩:=aD h;have a6j:=(((aU.lt Action.c X2).l (ax Action.c 3 (dc X2) rfl)).g (HX h927))
  obtain⟨h928,h⟩|⟨h928,h⟩:=aM h
  ·have h:=aG h;subst h;exact(a6j.b h928).ret hΓ
  ·obtain⟨OC,h930,h⟩:=aD h;obtain⟨h955,h⟩:=bV h;refine((((a6j.b h928).l (ax Action.c 3 (dc X2) rfl)).g (qV h930)).a [.cn [1,3,10,11,12] [0,1,2]]).lp hΓ (NF hΓ (fun h=>?_) (bt h955) OC 0 rfl h);exact(aU.a [.cn [1,3,10] [0,1]]).ct hΓ hS4 (iS X2 hm4) (ih4 (i4+1) (dn X2) h)
theorem Lo{aB:aN}{r:Bool}(h:xh aB=some r):Good prog 196 [D.agg (aN.c aB)] (D.bool r):=by
 refine gd func196 [[none]] 145 fun hr Γ hΓ=>?_
 rw[xh]at h;obtain⟨y1,h2,h⟩:=aD h;obtain⟨h3,h⟩|⟨h3,h⟩:=aM h
 ·have h:=aG h;subst h;exact(((aU.g (nT h2)).r 5 h3).T 13).ret hΓ
 ·obtain⟨y4,h5,h⟩:=aD h;have a6k:=((((aU.g (nT h2)).r 3 h3).g (gI h5)).r 2 h3)
  obtain⟨h6,h⟩|⟨h6,h⟩:=aM h
  ·have h:=aG h;subst h;exact((a6k.r 6 h6).T 7).ret hΓ
  ·obtain⟨y7,h8,h⟩:=aD h;have a6l:=(((a6k.r 4 h6).g (gI h8)).r 2 h6)
   obtain⟨h9,h⟩|⟨h9,h⟩:=aM h
   ·have h:=aG h;subst h;exact((a6l.r 6 h9).T 1).ret hΓ
   ·obtain⟨DK,h11,h⟩:=aD h;have a6m:=(((a6l.r 4 h9).g (gI h11)).r 2 h9)
    obtain⟨h12,h⟩|⟨h12,h⟩:=aM h
    ·have h:=aG h;subst h;exact(a6m.b h12).ret hΓ
    ·obtain⟨vz,h14,h⟩:=aD h;refine(((a6m.b h12).g (vm h14)).a [.cn [1,3,4] [0,1]]).lp hΓ (NB hΓ (fun h=>?_) (by have:=(dY.sl (dY.agg (hr _ (aC (i:=0) rfl)) (.sl (aB.conds.map aQ.c)) (by simp))).1;simpa using this) aB.conds 0 rfl h);refine(aU.a [.cn [1,3,10] [0,1]]).lp hΓ (NE hΓ (fun h=>?_) (by have:=(dY.sl (dY.agg (hr _ (aC (i:=0) rfl)) (.sl (aB.cv.map Action.c)) (by simp))).1;simpa using this) aB.cv 0 rfl h);obtain⟨aBr,h957,h⟩:=aD h;cases h;exact(aU.g (Hj h957)).ret hΓ
def kX(aB:ar)(aW:Bytes)(k1:Option Int):ar->Nat->Option Int
 | [],i1=>(k1)
 |bD::bZ,i1=>(bif (bD.name:Bytes)==aW then(some (i1:Int))else(kX aB aW k1 bZ (i1+1)))
def uk(aB:ar)(aW:Bytes):Option Int:=(kX aB aW (some (-1)) aB 0)
def Ln(aB:ar)(aW:Bytes)(cT:Int):St:=⟨[(0,D.sl (aB.map aN.c)),(1,D.str aW),(5,D.int .i64 cT)],[]⟩
theorem Jl(hΓ:Γ.nt=20){aB:ar}{aW:Bytes}{r:Int}{k1:Option Int}(cX:k1=some r->Ax Γ N f197 (.q [[none]] (D.int .i64 r)) [1,1] ⟨[],[]⟩)(hm1:aB.length<=maxLen):∀(rest:ar) (i1:Nat),aB.drop i1=rest->kX aB aW k1 rest i1=some r->Ar Γ N f197 (.q [[none]] (D.int .i64 r)) [1,0,1,0] (rest.length+1) (Ln aB aW (i1:Int)):=by
 intro rest
 induction rest with
 |nil=>
  intro i1 aj h;rw[kX]at h;refine aO fun N1 bz bg=>?_
  exact((aU.ge aN.c aj).a [.hl 0 [] []]).ex hΓ bz (cX h)
 |cons bD bZ ih1=>
  intro i1 aj h;rw[kX]at h;refine aO fun N1 bz bg=>?_
  have dJ:=((aU.lt aN.c aj).l (ax aN.c 4 (dc aj) rfl))
  obtain⟨h13,h⟩|⟨h13,h⟩:=aM h
  ·cases h;exact(dJ.b h13).ret hΓ
  ·exact((dJ.b h13).a [.cn [0,1,5] []]).ct hΓ bg (iS aj hm1) (ih1 (i1+1) (dn aj) h)
theorem HW{aB:ar}{aW:Bytes}{r:Int}(h:uk aB aW=some r):Good prog 197 [D.sl (aB.map aN.c),D.str aW] (D.int .i64 r):=by
 refine gd func197 [[none]] 20 fun hr Γ hΓ=>?_
 rw[uk]at h;refine(aU.a [.cn [0,1,5] []]).lp hΓ (Jl hΓ (fun h=>?_) (by have:=(dY.sl (hr _ (aC (i:=0) rfl))).1;simpa using this) aB 0 rfl h);cases h;exact aU.ret hΓ
def kV(aB:ar)(k1:Option Bool):ar->Nat->Option Bool
 | [],i1=>(k1)
 |bD::bZ,i1=>((xh bD).bind fun FA=>(bif !(FA)then(some false)else((uk aB bD.name).bind fun FB=>(bif (FB:Int) != (i1:Int)then(some false)else(kV aB k1 bZ (i1+1))))))
def uh(aB:ar):Option Bool:=(kV aB (some (decide ((((aB.map aN.c).length:Int):Int)<=6))) aB 0)
def Lj(aB:ar)(cT:Int):St:=⟨[(0,D.sl (aB.map aN.c)),(3,D.int .i64 cT)],[]⟩
theorem Jh(hΓ:Γ.nt=30){aB:ar}{r:Bool}{k1:Option Bool}(cX:k1=some r->Ax Γ N f131 (.q [[none]] (D.bool r)) [1,1] ⟨[(0,D.sl (aB.map aN.c))],[]⟩)(hm1:aB.length<=maxLen):∀(rest:ar) (i1:Nat),aB.drop i1=rest->kV aB k1 rest i1=some r->Ar Γ N f131 (.q [[none]] (D.bool r)) [1,0,1,0] (rest.length+1) (Lj aB (i1:Int)):=by
 intro rest
 induction rest with
 |nil=>
  intro i1 aj h;rw[kV]at h;refine aO fun N1 bz bg=>?_
  exact((aU.ge aN.c aj).a [.hl 0 [0] []]).ex hΓ bz (cX h)
 |cons bD bZ ih1=>
  intro i1 aj h;rw[kV]at h;refine aO fun N1 bz bg=>?_
  obtain⟨FA,h34,h⟩:=aD h;have jb:=(((aU.lt aN.c aj).l (ax aN.c 4 (dc aj) rfl)).g (Lo h34))
  obtain⟨h35,h⟩|⟨h35,h⟩:=aM h
  ·have h:=aG h;subst h;exact((jb.r 10 h35).T 1).ret hΓ
  ·obtain⟨FB,h37,h⟩:=aD h;have ia:=(((((jb.r 4 h35).l (ax aN.c 4 (dc aj) rfl)).r 3 h35).g (HW h37)).r 3 h35)
   obtain⟨h38,h⟩|⟨h38,h⟩:=aM h
   ·have h:=aG h;subst h;exact(ia.b h38).ret hΓ
   ·exact((ia.b h38).a [.cn [0,3] []]).ct hΓ bg (iS aj hm1) (ih1 (i1+1) (dn aj) h)
theorem AF{aB:ar}{r:Bool}(h:uh aB=some r):Good prog 131 [D.sl (aB.map aN.c)] (D.bool r):=by
 refine gd func131 [[none]] 30 fun hr Γ hΓ=>?_
 rw[uh]at h;refine(aU.a [.cn [0,3] []]).lp hΓ (Jh hΓ (fun h=>?_) (by have:=(dY.sl (hr _ (aC (i:=0) rfl))).1;simpa using this) aB 0 rfl h);cases h;exact aU.ret hΓ
def nk(aB:aT)(aW:Bytes)(k1:Option aT):aT->Nat->Option aT
 | [],i1=>(k1)
 |bD::bZ,i1=>(bif (bD.var:Bytes)==aW then(some aB)else(nk aB aW k1 bZ (i1+1)))
def pV(aB:aT)(aW:Bytes):Option aT:=((iT aW).bind fun y1=>(bif !(y1)then(some aB)else(nk aB aW ((qE (IntKind.i64.wrap (((aB.map aS.c).length:Int)+1))).bind fun y18=>(bif decide (([63]:Bytes).length+(y18:Bytes).length<=maxLen)then(bif room ((aB.map aS.c).length+([[D.str aW,D.str (([63])++y18)]]).length) 32 then(some (aB++([(⟨aW,([63])++y18⟩:aS)])))else none)else none)) aB 0)))
def Oe(aB:aT)(aW:Bytes)(cT:Int):St:=⟨[(0,D.acc 0),(1,D.str aW),(5,D.int .i64 cT)],[Ob.row .uq 152 2 (aB.map aS.c)]⟩
theorem NU(hΓ:Γ.nt=34){aB:aT}{aW:Bytes}{r:aT}{k1:Option aT}(cX:k1=some r->Ax Γ N f162 (.q [[some (152,2)]] (D.fr 152 2 (r.map aS.c))) [1,1,1] ⟨[(0,D.acc 0),(1,D.str aW)],[Ob.row .uq 152 2 (aB.map aS.c)]⟩)(hm1:aB.length<=maxLen):∀(rest:aT) (i1:Nat),aB.drop i1=rest->nk aB aW k1 rest i1=some r->Ar Γ N f162 (.q [[some (152,2)]] (D.fr 152 2 (r.map aS.c))) [1,1,0,1,0] (rest.length+1) (Oe aB aW (i1:Int)):=by
 intro rest
 induction rest with
 |nil=>
  intro i1 aj h;rw[nk]at h;refine aO fun N1 bz bg=>?_
  exact((aU.ge aS.c aj).a [.hl 0 [0,1] [0]]).ex hΓ bz (cX h)
 |cons bD bZ ih1=>
  intro i1 aj h;rw[nk]at h;refine aO fun N1 bz bg=>?_
  have kF:=(((aU.lt aS.c aj).i (pP aS.c 2 (dc aj))).o 2 1 .uq (dG aS.c (dc aj)))
  obtain⟨h17,h⟩|⟨h17,h⟩:=aM h
  ·have h:=aG h;subst h;exact(kF.b h17).ret hΓ
  ·exact((kF.b h17).a [.cn [0,1,5] [0]]).ct hΓ bg (iS aj hm1) (ih1 (i1+1) (dn aj) h)
theorem uJ{aB:aT}{aW:Bytes}{r:aT}(h:pV aB aW=some r):KH prog 162 [D.acc 0,D.str aW] 152 2 (aB.map aS.c) (r.map aS.c):=by
 refine KH.of (c:=lR f162) func162 rfl (by decide) (by simp[f162]) (Dy (c:=aS.c) (fun _=>rfl) r) ?_;intro DB Γ hΓ;have hΓ:Γ.nt=34:=hΓ;rw[pV]at h;refine(show AW prog Γ (lR f162) (KQ prog Γ (fun _ _=>False) ((Kd.q [[some (152,2)]] (D.fr 152 2 (r.map aS.c))).qq prog f162) []) _ from ?_);obtain⟨y1,h2,h⟩:=aD h;obtain⟨h3,h⟩|⟨h3,h⟩:=aM h
 ·have h:=aG h;subst h;exact((aU.g (gM h2)).b h3).ret hΓ
 ·refine(((aU.g (gM h2)).b h3).a [.cn [0,1,5] [0]]).lp hΓ (NU hΓ (fun h=>?_) (by simpa using DB) aB 0 rfl h);obtain⟨y18,h19,h⟩:=aD h;obtain⟨h20,h⟩:=bV h;obtain⟨h21,h⟩:=bV h;cases h;exact(((aU.g (vn h19)).w (bt h20)).w (cB h21)).rts hΓ (D.fr 152 2 ((aB.map aS.c)++([[D.str aW,D.str (([63])++y18)]]))) (by first|rfl| (simp only[mA]<;>rfl))
def j8(aB:aN)(i1:Nat)(bD:aQ)(k2:aT->Option aT):aJ->Nat->aT->Option aT
 | [],i2,kE=>(k2 kE)
 |lV::wu,i2,kE=>((pV kE lV).bind fun DI=>(j8 aB i1 bD k2 wu (i2+1) DI))
def j7(aB:aN)(k1:aT->Option aT):aq->Nat->aT->Option aT
 | [],i1,bu=>(k1 bu)
 |bD::bZ,i1,bu=>(bif decide (bD.pat.args.length<=maxLen)then(j8 aB i1 bD (fun(zD:aT)=>((pV zD bD.left).bind fun zj=>((pV zj bD.right).bind fun a3z=>(j7 aB k1 bZ (i1+1) a3z)))) bD.pat.args 0 bu)else none)
def rT(aB:aN):Option aT:=(j7 aB (fun(bQ:aT)=>(some bQ)) aB.conds 0 ([]:aT))
def Hh(aB:aN)(W0:List aR)(cT:Int):St:=⟨[(1,D.ptr 0 0),(3,D.acc 1),(4,D.int .i64 cT)],[Ob.box (aN.c aB),Ob.row .uq 152 2 W0]⟩
def Hi(aB:aN)(i1:Nat)(W0:List aR)(cT:Int):St:=⟨[(1,D.ptr 0 0),(3,D.acc 1),(4,D.int .i64 (i1:Int)),(5,D.int .i64 cT)],[Ob.box (aN.c aB),Ob.row .uq 152 2 W0]⟩
theorem G6(hΓ:Γ.nt=55){aB:aN}{i1:Nat}{bD:aQ}{r:aT}{k2:aT->Option aT}(Cn:∀(zD:aT),k2 zD=some r->Ax Γ N f92 (.q [[some (152,2)]] (D.fr 152 2 (r.map aS.c))) [1,1,0,1,0,0,1,0,0,1] ⟨[(1,D.ptr 0 0),(3,D.acc 1),(4,D.int .i64 (i1:Int))],[Ob.box (aN.c aB),Ob.row .uq 152 2 (zD.map aS.c)]⟩)(hx1:(aB.conds)[i1]?=some bD)(hm2:bD.pat.args.length<=maxLen):∀(rest:aJ) (i2:Nat) (kE:aT),bD.pat.args.drop i2=rest->j8 aB i1 bD k2 rest i2 kE=some r->Ar Γ N f92 (.q [[some (152,2)]] (D.fr 152 2 (r.map aS.c))) [1,1,0,1,0,0,1,0,0,0,1,0] (rest.length+1) (Hi aB i1 (kE.map aS.c) (i2:Int)):=by
 intro rest
 induction rest with
 |nil=>
  intro i2 kE hd2 h;rw[j8]at h;refine aO fun N2 xo uz=>?_
  exact(((aU.l (ax aQ.c 5 hx1 rfl)).ge tx hd2).a [.hl 5 [1,3,4] [0,1]]).ex hΓ xo (Cn kE h)
 |cons lV wu ih2=>
  intro i2 kE hd2 h;rw[j8]at h;refine aO fun N2 xo uz=>?_
  obtain⟨DI,h207,h⟩:=aD h;exact(((((((aU.l (ax aQ.c 5 hx1 rfl)).lt tx hd2).l (ax aQ.c 5 hx1 rfl)).l (ax tx 1 (dc hd2) rfl)).w (show(kE.map aS.c).flatten.all D.flat=true from by simpa only[bN,bG,bW]using Dy (c:=aS.c) (fun _=>rfl) kE)).w (show KH prog 162 [D.acc 0,D.str lV] 152 2 (kE.map aS.c) (DI.map aS.c)from by simpa only[bN,bG,bW]using uJ h207)).a [.ov 1 (DI.map aS.c),.cn [1,3,4,5] [0,2]]).ct hΓ uz (iS hd2 hm2) (ih2 (i2+1) DI (dn hd2) h)
theorem G5(hΓ:Γ.nt=55){aB:aN}{r:aT}{k1:aT->Option aT}(cX:∀(bQ:aT),k1 bQ=some r->Ax Γ N f92 (.q [[some (152,2)]] (D.fr 152 2 (r.map aS.c))) [1,1,1] ⟨[(3,D.acc 0)],[Ob.row .uq 152 2 (bQ.map aS.c)]⟩)(hm1:aB.conds.length<=maxLen):∀(rest:aq) (i1:Nat) (bu:aT),aB.conds.drop i1=rest->j7 aB k1 rest i1 bu=some r->Ar Γ N f92 (.q [[some (152,2)]] (D.fr 152 2 (r.map aS.c))) [1,1,0,1,0] (rest.length+1) (Hh aB (bu.map aS.c) (i1:Int)):=by
 intro rest
 induction rest with
 |nil=>
  intro i1 bu aj h;rw[j7]at h;refine aO fun N1 bz bg=>?_
  exact((aU.ge aQ.c aj).a [.hl 0 [3] [1]]).ex hΓ bz (cX bu h)
 |cons bD bZ ih1=>
  intro i1 bu aj h;rw[j7]at h;refine aO fun N1 bz bg=>?_
  obtain⟨h212,h⟩:=bV h;refine((aU.lt aQ.c aj).a [.cn [1,3,4,5] [0,1]]).lp hΓ (G6 hΓ (fun zD h=>?_) ((drop_cons aj).1) (bt h212) bD.pat.args 0 bu rfl h);obtain⟨zj,h209,h⟩:=aD h;obtain⟨a3z,h211,h⟩:=aD h;exact((((((((aU.l (ax aQ.c 5 (dc aj) rfl)).w (show(zD.map aS.c).flatten.all D.flat=true from by simpa only[bN,bG,bW]using Dy (c:=aS.c) (fun _=>rfl) zD)).w (show KH prog 162 [D.acc 0,D.str bD.left] 152 2 (zD.map aS.c) (zj.map aS.c)from by simpa only[bN,bG,bW]using uJ h209)).a [.ov 1 (zj.map aS.c)]).l (ax aQ.c 5 (dc aj) rfl)).w (show(zj.map aS.c).flatten.all D.flat=true from by simpa only[bN,bG,bW]using Dy (c:=aS.c) (fun _=>rfl) zj)).w (show KH prog 162 [D.acc 0,D.str bD.right] 152 2 (zj.map aS.c) (a3z.map aS.c)from by simpa only[bN,bG,bW]using uJ h211)).a [.ov 2 (a3z.map aS.c),.cn [1,3,4] [0,3]]).ct hΓ bg (iS aj hm1) (ih1 (i1+1) a3z (dn aj) h)
theorem Eo{aB:aN}{r:aT}(h:rT aB=some r):Good prog 92 [D.agg (aN.c aB)] (D.fr 152 2 (r.map aS.c)):=by
 refine gd func92 [[some (152,2)]] 55 fun hr Γ hΓ=>?_
 rw[rT]at h;refine(aU.a [.cn [1,3,4] [0,1]]).lp hΓ (G5 hΓ (fun bQ h=>?_) (by have:=(dY.sl (dY.agg (hr _ (aC (i:=0) rfl)) (.sl (aB.conds.map aQ.c)) (by simp))).1;simpa using this) aB.conds 0 ([]:aT) rfl h);have h:=aG h;subst h;exact aU.ret hΓ
def lG(aB:aN)(y1:aT)(k1:aq->Option aq):aq->Nat->aq->Option aq
 | [],i1,bu=>(k1 bu)
 |bD::bZ,i1,bu=>((jx bD y1).bind fun IM=>(bif room ((bu.map aQ.c).length+([[D.int .i64 IM.kind,D.str IM.pat.rel,D.sl (IM.pat.args.map tx),D.str IM.left,D.str IM.right]]).length) 80 then(lG aB y1 k1 bZ (i1+1) (bu++([IM])))else none))
def rS(aB:aN):Option aq:=((rT aB).bind fun y1=>(lG aB y1 (fun(bQ:aq)=>(some bQ)) aB.conds 0 ([]:aq)))
def AH(aB:aN)(y1:aT)(W0:List aR)(cT:Int):St:=⟨[(1,D.ptr 0 0),(3,D.acc 1),(4,D.acc 2),(5,D.int .i64 cT)],[Ob.box (aN.c aB),Ob.row .uq 115 5 W0,Ob.row .uq 152 2 (y1.map aS.c)]⟩
theorem G4(hΓ:Γ.nt=27){aB:aN}{y1:aT}{r:aq}{k1:aq->Option aq}(cX:∀(bQ:aq),k1 bQ=some r->Ax Γ N f132 (.q [[some (115,5)]] (D.fr 115 5 (r.map aQ.c))) [1,1,1,1] ⟨[(3,D.acc 0)],[Ob.row .uq 115 5 (bQ.map aQ.c)]⟩)(hm1:aB.conds.length<=maxLen):∀(rest:aq) (i1:Nat) (bu:aq),aB.conds.drop i1=rest->lG aB y1 k1 rest i1 bu=some r->Ar Γ N f132 (.q [[some (115,5)]] (D.fr 115 5 (r.map aQ.c))) [1,1,1,0,1,0] (rest.length+1) (AH aB y1 (bu.map aQ.c) (i1:Int)):=by
 intro rest
 induction rest with
 |nil=>
  intro i1 bu aj h;rw[lG]at h;refine aO fun N1 bz bg=>?_
  exact((aU.ge aQ.c aj).a [.hl 0 [3] [1]]).ex hΓ bz (cX bu h)
 |cons bD bZ ih1=>
  intro i1 bu aj h;rw[lG]at h;refine aO fun N1 bz bg=>?_
  obtain⟨IM,h30,h⟩:=aD h;obtain⟨h31,h⟩:=bV h;exact(((((aU.lt aQ.c aj).l (ax aQ.c 5 (dc aj) rfl)).g (jV h30)).w (cB h31)).a [.cn [1,3,4,5] [0,5,2]]).cs hΓ bg (AH aB y1 ((bu.map aQ.c)++([[D.int .i64 IM.kind,D.str IM.pat.rel,D.sl (IM.pat.args.map tx),D.str IM.left,D.str IM.right]])) (IntKind.i64.wrap ((i1:Int)+1))) (by first| (simp only[iS aj hm1,mA]<;>rfl)| (simp only[iS aj hm1,mA,aE.c,aS.c,aQ.c,Action.c,aN.c,aI.c,cu.c,aP.c,Node.c,aF.c,cw.c]<;>rfl)) (ih1 (i1+1) (bu++([IM])) (dn aj) h)
theorem En{aB:aN}{r:aq}(h:rS aB=some r):Good prog 132 [D.agg (aN.c aB)] (D.fr 115 5 (r.map aQ.c)):=by
 refine gd func132 [[some (115,5)]] 27 fun hr Γ hΓ=>?_
 rw[rS]at h;obtain⟨y1,h2,h⟩:=aD h;refine((aU.g (Eo h2)).a [.cn [1,3,4,5] [0,1,2]]).lp hΓ (G4 hΓ (fun bQ h=>?_) (by have:=(dY.sl (dY.agg (hr _ (aC (i:=0) rfl)) (.sl (aB.conds.map aQ.c)) (by simp))).1;simpa using this) aB.conds 0 ([]:aq) rfl h);have h:=aG h;subst h;exact aU.ret hΓ
def jA(aB:aE)(aW:aE):Option Bool:=(bif (aB.rel:Bytes)==aW.rel then((nX aB.args aW.args).bind fun y2=>(some y2))else(some false))
theorem tZ{aB:aE}{aW:aE}{r:Bool}(h:jA aB aW=some r):Good prog 148 [D.agg (aE.c aB),D.agg (aE.c aW)] (D.bool r):=by
 refine gd func148 [[none]] 17 fun hr Γ hΓ=>?_
 rw[jA]at h;obtain⟨h1,h⟩|⟨h1,h⟩:=aM h
 ·obtain⟨y2,h3,h⟩:=aD h;have h:=aG h;subst h;exact(((aU.r 5 h1).g (yW h3)).b h1).ret hΓ
 ·have h:=aG h;subst h;exact(aU.r 6 h1).ret hΓ
def ou(aB:aQ)(aW:aQ):Option Bool:=(bif (aB.kind:Int)==aW.kind then((jA aB.pat aW.pat).bind fun y2=>(bif y2 then(bif (aB.left:Bytes)==aW.left then(some ((aB.right:Bytes)==aW.right))else(some false))else(some false)))else(some false))
theorem AJ{aB:aQ}{aW:aQ}{r:Bool}(h:ou aB aW=some r):Good prog 149 [D.agg (aQ.c aB),D.agg (aQ.c aW)] (D.bool r):=by
 refine gd func149 [[none]] 31 fun hr Γ hΓ=>?_
 rw[ou]at h;obtain⟨h1,h⟩|⟨h1,h⟩:=aM h
 ·obtain⟨y2,h3,h⟩:=aD h;have kF:=(((aU.r 5 h1).g (tZ h3)).b h1)
  obtain⟨h4,h⟩|⟨h4,h⟩:=aM h
  ·have dJ:=(kF.r 6 h4)
   obtain⟨h5,h⟩|⟨h5,h⟩:=aM h
   ·cases h;exact(dJ.r 6 h5).ret hΓ
   ·have h:=aG h;subst h;exact(dJ.r 6 h5).ret hΓ
  ·have h:=aG h;subst h;exact((kF.r 6 h4).F 6).ret hΓ
 ·have h:=aG h;subst h;exact((aU.r 6 h1).F 12).ret hΓ
def lz(aB:aE)(k1:aT->Option aE):aJ->Nat->aT->Option aE
 | [],i1,fW=>(k1 fW)
 |bD::bZ,i1,fW=>((pV fW bD).bind fun lT=>(lz aB k1 bZ (i1+1) lT))
def td(aB:aE):Option aE:=(lz aB (fun(sM:aT)=>((jx (⟨0,aB,[],[]⟩:aQ) sM).bind fun S6=>(some S6.pat))) aB.args 0 ([]:aT))
def NH(aB:aE)(W0:List aR)(cT:Int):St:=⟨[(1,D.ptr 0 0),(2,D.ptr 1 0),(3,D.acc 2),(4,D.int .i64 cT)],[Ob.box (aE.c aB),Ob.box [D.str ([]),D.nil],Ob.row .uq 152 2 W0]⟩
theorem Lw(hΓ:Γ.nt=25){aB:aE}{r:aE}{k1:aT->Option aE}(cX:∀(sM:aT),k1 sM=some r->Ax Γ N f199 (.q [[none,some (9,1)]] (D.agg [D.str r.rel,D.fr 9 1 (r.args.map tx)])) [1,1,1] ⟨[(1,D.ptr 0 0),(2,D.ptr 1 0),(3,D.acc 2)],[Ob.box (aE.c aB),Ob.box [D.str ([]),D.nil],Ob.row .uq 152 2 (sM.map aS.c)]⟩)(hm1:aB.args.length<=maxLen):∀(rest:aJ) (i1:Nat) (fW:aT),aB.args.drop i1=rest->lz aB k1 rest i1 fW=some r->Ar Γ N f199 (.q [[none,some (9,1)]] (D.agg [D.str r.rel,D.fr 9 1 (r.args.map tx)])) [1,1,0,1,0] (rest.length+1) (NH aB (fW.map aS.c) (i1:Int)):=by
 intro rest
 induction rest with
 |nil=>
  intro i1 fW aj h;rw[lz]at h;refine aO fun N1 bz bg=>?_
  exact((aU.ge tx aj).a [.hl 0 [1,2,3] [0,1,2]]).ex hΓ bz (cX fW h)
 |cons bD bZ ih1=>
  intro i1 fW aj h;rw[lz]at h;refine aO fun N1 bz bg=>?_
  obtain⟨lT,h23,h⟩:=aD h;exact(((((aU.lt tx aj).l (ax tx 1 (dc aj) rfl)).w (show(fW.map aS.c).flatten.all D.flat=true from by simpa only[bN,bG,bW]using Dy (c:=aS.c) (fun _=>rfl) fW)).w (show KH prog 162 [D.acc 0,D.str bD] 152 2 (fW.map aS.c) (lT.map aS.c)from by simpa only[bN,bG,bW]using uJ h23)).a [.ov 2 (lT.map aS.c),.cn [1,2,3,4] [0,1,3]]).ct hΓ bg (iS aj hm1) (ih1 (i1+1) lT (dn aj) h)
theorem BA{aB:aE}{r:aE}(h:td aB=some r):Good prog 199 [D.agg (aE.c aB)] (D.agg [D.str r.rel,D.fr 9 1 (r.args.map tx)]):=by
 refine gd func199 [[none,some (9,1)]] 25 fun hr Γ hΓ=>?_
 rw[td]at h;refine(aU.a [.cn [1,2,3,4] [0,1,2]]).lp hΓ (Lw hΓ (fun sM h=>?_) (by have:=(dY.sl (dY.agg (hr _ (aC (i:=0) rfl)) (.sl (aB.args.map tx)) (by simp))).1;simpa using this) aB.args 0 ([]:aT) rfl h);obtain⟨S6,h25,h⟩:=aD h;cases h;exact((aU.a [.d (D.agg [D.int .i64 S6.kind,D.str S6.pat.rel,D.fr 9 1 (S6.pat.args.map tx),D.str S6.left,D.str S6.right])]).w (show Good prog 177 [D.agg [D.int .i64 0,D.str aB.rel,D.sl (aB.args.map tx),D.str ([]),D.str ([])],D.sl (sM.map aS.c)] (D.agg [D.int .i64 S6.kind,D.str S6.pat.rel,D.fr 9 1 (S6.pat.args.map tx),D.str S6.left,D.str S6.right])from by first| (simpa only[bN,bG,bW,dB,cm]using jV h25)|exact jV h25| (have t:=jV h25;simp only[bN,dB,cm,aQ.c]at t;exact t))).ret hΓ
def cW(x:aF):aR:=[D.fr 105 4 (x.rules.map aN.c),D.fr 3 1 (x.ends.map dL),D.fr 111 3 (x.av.map aP.c),D.fr 118 8 (x.nodes.map Node.c),D.fr 53 2 (x.facts.map aE.c),D.int .i64 x.bw]
def mD(aB:aF)(aW:aE)(k1:Option (aF×Int)):b7->Nat->Option (aF×Int)
 | [],i1=>(k1)
 |bD::bZ,i1=>((jA bD.shape aW).bind fun lT=>(bif lT then(some (aB,(i1:Int)))else(mD aB aW k1 bZ (i1+1))))
def tg(aB:aF)(aW:aE):Option (aF×Int):=(bif decide (aB.av.length<=maxLen)then(mD aB aW (bif room ((aB.av.map aP.c).length+([[D.str aW.rel,D.sl (aW.args.map tx),D.sl ([])]]).length) 64 then(some ((⟨aB.rules,aB.ends,aB.av++([(⟨aW,[]⟩:aP)]),aB.nodes,aB.facts,aB.bw⟩:aF),IntKind.i64.wrap ((((aB.av.map aP.c)++([[D.str aW.rel,D.sl (aW.args.map tx),D.sl ([])]])).length:Int)-1)))else none) aB.av 0)else none)
def NQ(fN:Value)(aB:aF)(aW:aE)(cT:Int):St:=⟨[(0,D.ptr 0 0),(3,D.ptr 1 0),(5,D.int .i64 cT)],[Ob.Pr [D.acc 2,D.acc 3,D.acc 4,D.acc 5,D.acc 6,D.int .i64 aB.bw] fN,Ob.box [D.str aW.rel,D.acc 7],Ob.row .uq 105 4 (aB.rules.map aN.c),Ob.row .uq 3 1 (aB.ends.map dL),Ob.row .uq 111 3 (aB.av.map aP.c),Ob.row .uq 118 8 (aB.nodes.map Node.c),Ob.row .uq 53 2 (aB.facts.map aE.c),Ob.row .uq 9 1 (aW.args.map tx)]⟩
theorem M1(hΓ:Γ.nt=43){fN:Value}{aB:aF}{aW:aE}{r:aF×Int}{k1:Option (aF×Int)}(cX:k1=some r->Ax Γ N f198 (.p [[some (105,4),some (3,1),some (111,3),some (118,8),some (53,2),none],[none]] fN (cW r.1) (D.int .i64 r.2)) [1,1] ⟨[(0,D.ptr 0 0),(3,D.ptr 1 0)],[Ob.Pr [D.acc 2,D.acc 3,D.acc 4,D.acc 5,D.acc 6,D.int .i64 aB.bw] fN,Ob.box [D.str aW.rel,D.acc 7],Ob.row .uq 105 4 (aB.rules.map aN.c),Ob.row .uq 3 1 (aB.ends.map dL),Ob.row .uq 111 3 (aB.av.map aP.c),Ob.row .uq 118 8 (aB.nodes.map Node.c),Ob.row .uq 53 2 (aB.facts.map aE.c),Ob.row .uq 9 1 (aW.args.map tx)]⟩)(hm1:aB.av.length<=maxLen):∀(rest:b7) (i1:Nat),aB.av.drop i1=rest->mD aB aW k1 rest i1=some r->Ar Γ N f198 (.p [[some (105,4),some (3,1),some (111,3),some (118,8),some (53,2),none],[none]] fN (cW r.1) (D.int .i64 r.2)) [1,0,1,0] (rest.length+1) (NQ fN aB aW (i1:Int)):=by
 intro rest
 induction rest with
 |nil=>
  intro i1 aj h;rw[mD]at h;refine aO fun N1 bz bg=>?_
  exact((aU.ge aP.c aj).a [.hl 0 [0,3] [0,1,2,3,4,5,6,7]]).ex hΓ bz (cX h)
 |cons bD bZ ih1=>
  intro i1 aj h;rw[mD]at h;refine aO fun N1 bz bg=>?_
  obtain⟨lT,h23,h⟩:=aD h;have dJ:=(((((aU.lt aP.c aj).a [.n 9]).i (pP aP.c 3 (dc aj))).o 3 2 .uq (dG aP.c (dc aj))).g (tZ h23))
  obtain⟨h24,h⟩|⟨h24,h⟩:=aM h
  ·cases h;exact(dJ.b h24).ret hΓ
  ·exact((dJ.b h24).a [.cn [0,3,5] [0,1,2,3,4,5,6,7]]).ct hΓ bg (iS aj hm1) (ih1 (i1+1) (dn aj) h)
theorem BC{aB:aF}{aW:aE}{r:aF×Int}(h:tg aB aW=some r):Bj prog 198 (cW aB) (cW r.1) [D.agg [D.str aW.rel,D.fr 9 1 (aW.args.map tx)]] (D.int .i64 r.2):=by
 refine gdP func198 [[some (105,4),some (3,1),some (111,3),some (118,8),some (53,2),none],[none]] 43 [D.acc 1,D.acc 2,D.acc 3,D.acc 4,D.acc 5,D.int .i64 aB.bw] [D.agg [D.str aW.rel,D.acc 6]] [Ob.row .uq 105 4 (aB.rules.map aN.c),Ob.row .uq 3 1 (aB.ends.map dL),Ob.row .uq 111 3 (aB.av.map aP.c),Ob.row .uq 118 8 (aB.nodes.map Node.c),Ob.row .uq 53 2 (aB.facts.map aE.c),Ob.row .uq 9 1 (aW.args.map tx)] fun hr fN Γ hΓ=>?_
 rw[tg]at h;obtain⟨h27,h⟩:=bV h;refine(aU.a [.cn [0,3,5] [0,7,1,2,3,4,5,6]]).lp hΓ (M1 hΓ (fun h=>?_) (bt h27) aB.av 0 rfl h);obtain⟨h26,h⟩:=bV h;cases h;exact((aU.w (cB h26)).a [.n2 [0,1,2,3,4,5,6,7,8,9,10,11] [0,1,2,3,4,5,6,7,8,9,10,11] 7 9 [0,1,2,3,4] [4,7,8]]).rts hΓ (D.gZ [D.int .i64 (IntKind.i64.wrap ((((aB.av.map aP.c)++([[D.str aW.rel,D.sl (aW.args.map tx),D.sl ([])]])).length:Int)-1)),D.agg [D.fr 105 4 (aB.rules.map aN.c),D.fr 3 1 (aB.ends.map dL),D.fr 111 3 ((aB.av.map aP.c)++([[D.str aW.rel,D.sl (aW.args.map tx),D.sl ([])]])),D.fr 118 8 (aB.nodes.map Node.c),D.fr 53 2 (aB.facts.map aE.c),D.int .i64 aB.bw],D.val fN]) (by first|rfl| (simp only[mA]<;>rfl)| (simp only[cW,mA]<;>rfl))
def gN(aB:aF)(aW:Int)(cY:aQ)(k1:Option (aF×Int)):Nat->Int->Option (aF×Int)
 |0,_=>none
 |n1+1,rY=>(bif decide ((rY:Int)<((aB.nodes.map Node.c).length:Int))then((mK aB.nodes rY).bind fun x16=>(bif (x16.parent:Int)==aW then((ou x16.cond cY).bind fun y19=>(bif y19 then(some (aB,rY))else(gN aB aW cY k1 n1 (IntKind.i64.wrap (rY+1)))))else(gN aB aW cY k1 n1 (IntKind.i64.wrap (rY+1)))))else(k1))
def wj(aB:aF)(aW:Int)(cY:aQ):Option (aF×Int):=(gN aB aW cY ((kB cY).bind fun lT=>(bif (cY.kind:Int)==1 then((td cY.pat).bind fun y25=>((tg aB y25).bind fun pY=>(bif room ((pY.1.nodes.map Node.c).length+([[D.int .i64 aW,D.int .i64 lT.kind,D.str lT.pat.rel,D.sl (lT.pat.args.map tx),D.str lT.left,D.str lT.right,D.int .i64 pY.2,D.sl ([])]]).length) 120 then(some ((⟨pY.1.rules,pY.1.ends,pY.1.av,pY.1.nodes++([(⟨aW,lT,pY.2,[]⟩:Node)]),pY.1.facts,pY.1.bw⟩:aF),IntKind.i64.wrap ((((pY.1.nodes.map Node.c)++([[D.int .i64 aW,D.int .i64 lT.kind,D.str lT.pat.rel,D.sl (lT.pat.args.map tx),D.str lT.left,D.str lT.right,D.int .i64 pY.2,D.sl ([])]])).length:Int)-1)))else none)))else(bif (cY.kind:Int)==2 then((td cY.pat).bind fun BF=>((tg aB BF).bind fun Ce=>(bif room ((Ce.1.nodes.map Node.c).length+([[D.int .i64 aW,D.int .i64 lT.kind,D.str lT.pat.rel,D.sl (lT.pat.args.map tx),D.str lT.left,D.str lT.right,D.int .i64 Ce.2,D.sl ([])]]).length) 120 then(some ((⟨Ce.1.rules,Ce.1.ends,Ce.1.av,Ce.1.nodes++([(⟨aW,lT,Ce.2,[]⟩:Node)]),Ce.1.facts,Ce.1.bw⟩:aF),IntKind.i64.wrap ((((Ce.1.nodes.map Node.c)++([[D.int .i64 aW,D.int .i64 lT.kind,D.str lT.pat.rel,D.sl (lT.pat.args.map tx),D.str lT.left,D.str lT.right,D.int .i64 Ce.2,D.sl ([])]])).length:Int)-1)))else none)))else(bif room ((aB.nodes.map Node.c).length+([[D.int .i64 aW,D.int .i64 lT.kind,D.str lT.pat.rel,D.sl (lT.pat.args.map tx),D.str lT.left,D.str lT.right,D.int .i64 (-1),D.sl ([])]]).length) 120 then(some ((⟨aB.rules,aB.ends,aB.av,aB.nodes++([(⟨aW,lT, -1,[]⟩:Node)]),aB.facts,aB.bw⟩:aF),IntKind.i64.wrap ((((aB.nodes.map Node.c)++([[D.int .i64 aW,D.int .i64 lT.kind,D.str lT.pat.rel,D.sl (lT.pat.args.map tx),D.str lT.left,D.str lT.right,D.int .i64 (-1),D.sl ([])]])).length:Int)-1)))else none)))) fuel 1)
def NR(fN:Value)(aB:aF)(aW:Int)(cY:aQ)(rY:Int):St:=⟨[(0,D.ptr 0 0),(1,D.int .i64 aW),(5,D.ptr 1 0),(7,D.int .i64 rY)],[Ob.Pr [D.acc 2,D.acc 3,D.acc 4,D.acc 5,D.acc 6,D.int .i64 aB.bw] fN,Ob.box (aQ.c cY),Ob.row .uq 105 4 (aB.rules.map aN.c),Ob.row .uq 3 1 (aB.ends.map dL),Ob.row .uq 111 3 (aB.av.map aP.c),Ob.row .uq 118 8 (aB.nodes.map Node.c),Ob.row .uq 53 2 (aB.facts.map aE.c)]⟩
theorem M2(hΓ:Γ.nt=75){fN:Value}{aB:aF}{aW:Int}{cY:aQ}{r:aF×Int}{k1:Option (aF×Int)}(cX:k1=some r->Ax Γ N f133 (.p [[some (105,4),some (3,1),some (111,3),some (118,8),some (53,2),none],[none]] fN (cW r.1) (D.int .i64 r.2)) [1,1] ⟨[(0,D.ptr 0 0),(1,D.int .i64 aW),(5,D.ptr 1 0)],[Ob.Pr [D.acc 2,D.acc 3,D.acc 4,D.acc 5,D.acc 6,D.int .i64 aB.bw] fN,Ob.box (aQ.c cY),Ob.row .uq 105 4 (aB.rules.map aN.c),Ob.row .uq 3 1 (aB.ends.map dL),Ob.row .uq 111 3 (aB.av.map aP.c),Ob.row .uq 118 8 (aB.nodes.map Node.c),Ob.row .uq 53 2 (aB.facts.map aE.c)]⟩):∀(n1:Nat) (rY:Int),gN aB aW cY k1 n1 rY=some r->Ar Γ N f133 (.p [[some (105,4),some (3,1),some (111,3),some (118,8),some (53,2),none],[none]] fN (cW r.1) (D.int .i64 r.2)) [1,0,1,0] n1 (NR fN aB aW cY rY):=by
 intro n
 induction n with
 |zero=>intro rY h;simp[gN]at h
 |succ n1 ih1=>
  intro rY h;rw[gN]at h;refine aO fun N1 bz bg=>?_
  obtain⟨h15,h⟩|⟨h15,h⟩:=aM h
  ·obtain⟨x16,h17,h⟩:=aD h;have jb:=((((aU.b h15).a [.n 20]).i (yO Node.c 8 h17)).o 8 1 .uq (dG Node.c (uC h17)))
   obtain⟨h18,h⟩|⟨h18,h⟩:=aM h
   ·obtain⟨y19,h20,h⟩:=aD h;have ia:=(((((((jb.r 6 h18).i (yO Node.c 8 h17)).r 2 h18).o 8 6 .uq (dG Node.c (uC h17))).r 2 h18).g (AJ h20)).b h18)
    obtain⟨h21,h⟩|⟨h21,h⟩:=aM h
    ·cases h;exact(ia.b h21).ret hΓ
    ·exact((ia.b h21).a [.cn [0,1,5,7] [0,1,2,3,4,5,6]]).cf hΓ bg (ih1 (IntKind.i64.wrap (rY+1)) h)
   ·exact(((jb.r 11 h18).F 1).a [.cn [0,1,5,7] [0,1,2,3,4,5,6]]).cf hΓ bg (ih1 (IntKind.i64.wrap (rY+1)) h)
  ·exact((aU.b h15).a [.hl 0 [0,1,5] [0,1,2,3,4,5,6]]).ex hΓ bz (cX h)
theorem K4{aB:aF}{aW:Int}{cY:aQ}{r:aF×Int}(h:wj aB aW cY=some r):Bj prog 133 (cW aB) (cW r.1) [D.int .i64 aW,D.agg (aQ.c cY)] (D.int .i64 r.2):=by
 refine gdP func133 [[some (105,4),some (3,1),some (111,3),some (118,8),some (53,2),none],[none]] 75 [D.acc 1,D.acc 2,D.acc 3,D.acc 4,D.acc 5,D.int .i64 aB.bw] [D.int .i64 aW,D.agg [D.int .i64 cY.kind,D.str cY.pat.rel,D.sl (cY.pat.args.map tx),D.str cY.left,D.str cY.right]] [Ob.row .uq 105 4 (aB.rules.map aN.c),Ob.row .uq 3 1 (aB.ends.map dL),Ob.row .uq 111 3 (aB.av.map aP.c),Ob.row .uq 118 8 (aB.nodes.map Node.c),Ob.row .uq 53 2 (aB.facts.map aE.c)] fun hr fN Γ hΓ=>?_
 rw[wj]at h;refine(aU.a [.cn [0,1,5,7] [0,6,1,2,3,4,5]]).lp hΓ (M2 hΓ (fun h=>?_) fuel 1 h);obtain⟨lT,h23,h⟩:=aD h;obtain⟨h24,h⟩|⟨h24,h⟩:=aM h
 ·obtain⟨y25,h26,h⟩:=aD h;obtain⟨pY,h28,h⟩:=aD h;obtain⟨h30,h⟩:=bV h;cases h;exact(((((((aU.g (qW h23)).r 4 h24).T 1).g (BA h26)).hp [[some (105,4),some (3,1),some (111,3),some (118,8),some (53,2),none],[none,some (9,1)]] (BC h28)).w (cB h30)).a [.n2 [0,1,2,3,4,5,6,7,8,9,10] [0,1,2,3,4,5,6,7,8,9,10] 6 8 [0,1,2,3,4] [7,13,15]]).rts hΓ (D.gZ [D.int .i64 (IntKind.i64.wrap ((((pY.1.nodes.map Node.c)++([[D.int .i64 aW,D.int .i64 lT.kind,D.str lT.pat.rel,D.sl (lT.pat.args.map tx),D.str lT.left,D.str lT.right,D.int .i64 pY.2,D.sl ([])]])).length:Int)-1)),D.agg [D.fr 105 4 (pY.1.rules.map aN.c),D.fr 3 1 (pY.1.ends.map dL),D.fr 111 3 (pY.1.av.map aP.c),D.fr 118 8 ((pY.1.nodes.map Node.c)++([[D.int .i64 aW,D.int .i64 lT.kind,D.str lT.pat.rel,D.sl (lT.pat.args.map tx),D.str lT.left,D.str lT.right,D.int .i64 pY.2,D.sl ([])]])),D.fr 53 2 (pY.1.facts.map aE.c),D.int .i64 pY.1.bw],D.val fN]) (by first|rfl| (simp only[mA]<;>rfl)| (simp only[cW,mA]<;>rfl))
 ·have tq:=((aU.g (qW h23)).r 4 h24)
  obtain⟨h31,h⟩|⟨h31,h⟩:=aM h
  ·obtain⟨BF,h33,h⟩:=aD h;obtain⟨Ce,h35,h⟩:=aD h;obtain⟨h37,h⟩:=bV h;cases h;exact(((((tq.b h31).g (BA h33)).hp [[some (105,4),some (3,1),some (111,3),some (118,8),some (53,2),none],[none,some (9,1)]] (BC h35)).w (cB h37)).a [.n2 [0,1,2,3,4,5,6,7,8,9,10] [0,1,2,3,4,5,6,7,8,9,10] 6 8 [0,1,2,3,4] [7,13,15]]).rts hΓ (D.gZ [D.int .i64 (IntKind.i64.wrap ((((Ce.1.nodes.map Node.c)++([[D.int .i64 aW,D.int .i64 lT.kind,D.str lT.pat.rel,D.sl (lT.pat.args.map tx),D.str lT.left,D.str lT.right,D.int .i64 Ce.2,D.sl ([])]])).length:Int)-1)),D.agg [D.fr 105 4 (Ce.1.rules.map aN.c),D.fr 3 1 (Ce.1.ends.map dL),D.fr 111 3 (Ce.1.av.map aP.c),D.fr 118 8 ((Ce.1.nodes.map Node.c)++([[D.int .i64 aW,D.int .i64 lT.kind,D.str lT.pat.rel,D.sl (lT.pat.args.map tx),D.str lT.left,D.str lT.right,D.int .i64 Ce.2,D.sl ([])]])),D.fr 53 2 (Ce.1.facts.map aE.c),D.int .i64 Ce.1.bw],D.val fN]) (by first|rfl| (simp only[mA]<;>rfl)| (simp only[cW,mA]<;>rfl))
  ·obtain⟨h39,h⟩:=bV h;cases h;exact(((tq.b h31).w (cB h39)).a [.n2 [0,1,2,3,4,5,6,7,8,9,10] [0,1,2,3,4,5,6,7,8,9,10] 6 8 [0,1,2,3,4] [5,7,9]]).rts hΓ (D.gZ [D.int .i64 (IntKind.i64.wrap ((((aB.nodes.map Node.c)++([[D.int .i64 aW,D.int .i64 lT.kind,D.str lT.pat.rel,D.sl (lT.pat.args.map tx),D.str lT.left,D.str lT.right,D.int .i64 (-1),D.sl ([])]])).length:Int)-1)),D.agg [D.fr 105 4 (aB.rules.map aN.c),D.fr 3 1 (aB.ends.map dL),D.fr 111 3 (aB.av.map aP.c),D.fr 118 8 ((aB.nodes.map Node.c)++([[D.int .i64 aW,D.int .i64 lT.kind,D.str lT.pat.rel,D.sl (lT.pat.args.map tx),D.str lT.left,D.str lT.right,D.int .i64 (-1),D.sl ([])]])),D.fr 53 2 (aB.facts.map aE.c),D.int .i64 aB.bw],D.val fN]) (by first|rfl| (simp only[mA]<;>rfl)| (simp only[cW,mA]<;>rfl))
def gl(aB:ar)(i1:Nat)(O5:aq)(k2:Int->Int->ar->bI->b7->ay->aL->Option (aF×Bool)):aq->Nat->Int->Int->ar->bI->b7->ay->aL->Option (aF×Bool)
 | [],i2,tr,oz,DG,pJ,xC,xD,sL=>(k2 tr oz DG pJ xC xD sL)
 |lV::wu,i2,tr,oz,DG,pJ,xC,xD,sL=>((wj (⟨DG,pJ,xC,xD,sL,oz⟩:aF) tr lV).bind fun F9=>(gl aB i1 O5 k2 wu (i2+1) F9.2 F9.1.bw F9.1.rules F9.1.ends F9.1.av F9.1.nodes F9.1.facts))
def gj(aB:ar)(k1:Int->ar->bI->b7->ay->aL->Option (aF×Bool)):ar->Nat->Int->ar->bI->b7->ay->aL->Option (aF×Bool)
 | [],i1,dV,fW,eN,mG,iV,qg=>(k1 dV fW eN mG iV qg)
 |bD::bZ,i1,dV,fW,eN,mG,iV,qg=>((rS bD).bind fun O5=>(bif decide (O5.length<=maxLen)then(gl aB i1 O5 (fun(BZ:Int) (oy:Int) (MF:ar) (CI:bI) (MG:b7) (vr:ay) (MH:aL)=>(bif room ((CI.map dL).length+([[D.int .i64 BZ]]).length) 8 then(gj aB k1 bZ (i1+1) oy MF (CI++([BZ])) MG vr MH)else none)) O5 0 0 dV fW eN mG iV qg)else none))
def jk(aB:ar):Option (aF×Bool):=((uh aB).bind fun y1=>(bif !(y1)then(some ((⟨[],[],[],[],[],0⟩:aF),false))else((rE aB).bind fun y4=>(gj aB (fun(mE:Int) (sM:ar) (fV:bI) (CH:b7) (nu:ay) (qc:aL)=>(some ((⟨sM,fV,CH,nu,qc,mE⟩:aF),true))) aB 0 0 y4 ([]:bI) ([]:b7) ([(⟨-1,(⟨0,(⟨[],[]⟩:aE),[],[]⟩:aQ), -1,[(⟨[],[]⟩:aI)]⟩:Node)]) ([]:aL)))))
def uE(aB:ar)(dV:Int)(W1:List aR)(W2:List aR)(W3:List aR)(W4:List aR)(W5:List aR)(cT:Int):St:=⟨[(0,D.sl (aB.map aN.c)),(2,D.ptr 0 0),(4,D.ptr 1 0),(5,D.int .i64 cT)],[Ob.box [D.nil,D.nil,D.nil,D.nil,D.nil,D.int .i64 0],Ob.box [D.acc 2,D.acc 3,D.acc 4,D.acc 5,D.acc 6,D.int .i64 dV],Ob.row .uq 105 4 W1,Ob.row .uq 3 1 W2,Ob.row .uq 111 3 W3,Ob.row .uq 118 8 W4,Ob.row .uq 53 2 W5]⟩
def Ek(aB:ar)(i1:Nat)(O5:aq)(tr:Int)(oz:Int)(W2:List aR)(W3:List aR)(W4:List aR)(W5:List aR)(W6:List aR)(cT:Int):St:=⟨[(0,D.sl (aB.map aN.c)),(2,D.ptr 0 0),(4,D.ptr 1 0),(5,D.int .i64 (i1:Int)),(6,D.int .i64 tr),(7,D.acc 2),(8,D.int .i64 cT)],[Ob.box [D.nil,D.nil,D.nil,D.nil,D.nil,D.int .i64 0],Ob.box [D.acc 3,D.acc 4,D.acc 5,D.acc 6,D.acc 7,D.int .i64 oz],Ob.row .uq 115 5 (O5.map aQ.c),Ob.row .uq 105 4 W2,Ob.row .uq 3 1 W3,Ob.row .uq 111 3 W4,Ob.row .uq 118 8 W5,Ob.row .uq 53 2 W6]⟩
theorem Di(hΓ:Γ.nt=50){aB:ar}{i1:Nat}{O5:aq}{r:aF×Bool}{k2:Int->Int->ar->bI->b7->ay->aL->Option (aF×Bool)}(Cn:∀(BZ:Int) (oy:Int) (MF:ar) (CI:bI) (MG:b7) (vr:ay) (MH:aL),k2 BZ oy MF CI MG vr MH=some r->Ax Γ N f77 (.q [[some (105,4),some (3,1),some (111,3),some (118,8),some (53,2),none],[none]] (D.gZ [D.agg [D.fr 105 4 (r.1.rules.map aN.c),D.fr 3 1 (r.1.ends.map dL),D.fr 111 3 (r.1.av.map aP.c),D.fr 118 8 (r.1.nodes.map Node.c),D.fr 53 2 (r.1.facts.map aE.c),D.int .i64 r.1.bw],D.bool r.2])) [1,1,1,0,1,0,0,1,0,0,1,1,1] ⟨[(0,D.sl (aB.map aN.c)),(2,D.ptr 0 0),(4,D.ptr 1 0),(5,D.int .i64 (i1:Int)),(6,D.int .i64 BZ)],[Ob.box [D.nil,D.nil,D.nil,D.nil,D.nil,D.int .i64 0],Ob.box [D.acc 2,D.acc 3,D.acc 4,D.acc 5,D.acc 6,D.int .i64 oy],Ob.row .uq 105 4 (MF.map aN.c),Ob.row .uq 3 1 (CI.map dL),Ob.row .uq 111 3 (MG.map aP.c),Ob.row .uq 118 8 (vr.map Node.c),Ob.row .uq 53 2 (MH.map aE.c)]⟩)(hm2:O5.length<=maxLen):∀(rest:aq) (i2:Nat) (tr:Int) (oz:Int) (DG:ar) (pJ:bI) (xC:b7) (xD:ay) (sL:aL),O5.drop i2=rest->gl aB i1 O5 k2 rest i2 tr oz DG pJ xC xD sL=some r->Ar Γ N f77 (.q [[some (105,4),some (3,1),some (111,3),some (118,8),some (53,2),none],[none]] (D.gZ [D.agg [D.fr 105 4 (r.1.rules.map aN.c),D.fr 3 1 (r.1.ends.map dL),D.fr 111 3 (r.1.av.map aP.c),D.fr 118 8 (r.1.nodes.map Node.c),D.fr 53 2 (r.1.facts.map aE.c),D.int .i64 r.1.bw],D.bool r.2])) [1,1,1,0,1,0,0,1,0,0,1,1,0,1,0] (rest.length+1) (Ek aB i1 O5 tr oz (DG.map aN.c) (pJ.map dL) (xC.map aP.c) (xD.map Node.c) (sL.map aE.c) (i2:Int)):=by
 intro rest
 induction rest with
 |nil=>
  intro i2 tr oz DG pJ xC xD sL hd2 h;rw[gl]at h;refine aO fun N2 xo uz=>?_
  exact((aU.ge aQ.c hd2).a [.hl 5 [0,2,4,5,6] [0,1,3,4,5,6,7]]).ex hΓ xo (Cn tr oz DG pJ xC xD sL h)
 |cons lV wu ih2=>
  intro i2 tr oz DG pJ xC xD sL hd2 h;rw[gl]at h;refine aO fun N2 xo uz=>?_
  obtain⟨F9,h212,h⟩:=aD h;exact((((((aU.lt aQ.c hd2).i (pP aQ.c 5 (dc hd2))).o 5 5 .uq (dG aQ.c (dc hd2))).a [.gp [[some (105,4),some (3,1),some (111,3),some (118,8),some (53,2),none],[none],[none,none,none,none,none]] (cW F9.1) (D.int .i64 F9.2)]).w (show Bj prog 133 (cW (⟨DG,pJ,xC,xD,sL,oz⟩:aF)) (cW F9.1) [D.int .i64 tr,D.agg (aQ.c lV)] (D.int .i64 F9.2)from by simpa only[bN,bG,bW,dB,cm]using K4 h212)).a [.cn [0,2,4,5,6,7,8] [0,1,2,8,9,10,11,12]]).ct hΓ uz (iS hd2 hm2) (ih2 (i2+1) F9.2 F9.1.bw F9.1.rules F9.1.ends F9.1.av F9.1.nodes F9.1.facts (dn hd2) h)
theorem Dh(hΓ:Γ.nt=50){aB:ar}{r:aF×Bool}{k1:Int->ar->bI->b7->ay->aL->Option (aF×Bool)}(cX:∀(mE:Int) (sM:ar) (fV:bI) (CH:b7) (nu:ay) (qc:aL),k1 mE sM fV CH nu qc=some r->Ax Γ N f77 (.q [[some (105,4),some (3,1),some (111,3),some (118,8),some (53,2),none],[none]] (D.gZ [D.agg [D.fr 105 4 (r.1.rules.map aN.c),D.fr 3 1 (r.1.ends.map dL),D.fr 111 3 (r.1.av.map aP.c),D.fr 118 8 (r.1.nodes.map Node.c),D.fr 53 2 (r.1.facts.map aE.c),D.int .i64 r.1.bw],D.bool r.2])) [1,1,1,1] ⟨[(2,D.ptr 0 0),(4,D.ptr 1 0)],[Ob.box [D.nil,D.nil,D.nil,D.nil,D.nil,D.int .i64 0],Ob.box [D.acc 2,D.acc 3,D.acc 4,D.acc 5,D.acc 6,D.int .i64 mE],Ob.row .uq 105 4 (sM.map aN.c),Ob.row .uq 3 1 (fV.map dL),Ob.row .uq 111 3 (CH.map aP.c),Ob.row .uq 118 8 (nu.map Node.c),Ob.row .uq 53 2 (qc.map aE.c)]⟩)(hm1:aB.length<=maxLen):∀(rest:ar) (i1:Nat) (dV:Int) (fW:ar) (eN:bI) (mG:b7) (iV:ay) (qg:aL),aB.drop i1=rest->gj aB k1 rest i1 dV fW eN mG iV qg=some r->Ar Γ N f77 (.q [[some (105,4),some (3,1),some (111,3),some (118,8),some (53,2),none],[none]] (D.gZ [D.agg [D.fr 105 4 (r.1.rules.map aN.c),D.fr 3 1 (r.1.ends.map dL),D.fr 111 3 (r.1.av.map aP.c),D.fr 118 8 (r.1.nodes.map Node.c),D.fr 53 2 (r.1.facts.map aE.c),D.int .i64 r.1.bw],D.bool r.2])) [1,1,1,0,1,0] (rest.length+1) (uE aB dV (fW.map aN.c) (eN.map dL) (mG.map aP.c) (iV.map Node.c) (qg.map aE.c) (i1:Int)):=by
 intro rest
 induction rest with
 |nil=>
  intro i1 dV fW eN mG iV qg aj h;rw[gj]at h;refine aO fun N1 bz bg=>?_
  exact((aU.ge aN.c aj).a [.hl 0 [2,4] [0,1,2,3,4,5,6]]).ex hΓ bz (cX dV fW eN mG iV qg h)
 |cons bD bZ ih1=>
  intro i1 dV fW eN mG iV qg aj h;rw[gj]at h;refine aO fun N1 bz bg=>?_
  obtain⟨O5,h183,h⟩:=aD h;obtain⟨h214,h⟩:=bV h;refine((((aU.lt aN.c aj).l (ax aN.c 4 (dc aj) rfl)).g (En h183)).a [.cn [0,2,4,5,6,7,8] [0,1,7,2,3,4,5,6]]).lp hΓ (Di hΓ (fun BZ oy MF CI MG vr MH h=>?_) (bt h214) O5 0 0 dV fW eN mG iV qg rfl h);obtain⟨h213,h⟩:=bV h;exact((aU.w (cB h213)).a [.cn [0,2,4,5] [0,1,2,8,4,5,6]]).cs hΓ bg (uE aB oy (MF.map aN.c) ((CI.map dL)++([[D.int .i64 BZ]])) (MG.map aP.c) (vr.map Node.c) (MH.map aE.c) (IntKind.i64.wrap ((i1:Int)+1))) (by first| (simp only[iS aj hm1,mA]<;>rfl)| (simp only[iS aj hm1,mA,aE.c,aS.c,aQ.c,Action.c,aN.c,aI.c,cu.c,aP.c,Node.c,aF.c,cw.c]<;>rfl)) (ih1 (i1+1) oy MF (CI++([BZ])) MG vr MH (dn aj) h)
theorem sB{aB:ar}{r:aF×Bool}(h:jk aB=some r):Good prog 77 [D.sl (aB.map aN.c)] (D.gZ [D.agg [D.fr 105 4 (r.1.rules.map aN.c),D.fr 3 1 (r.1.ends.map dL),D.fr 111 3 (r.1.av.map aP.c),D.fr 118 8 (r.1.nodes.map Node.c),D.fr 53 2 (r.1.facts.map aE.c),D.int .i64 r.1.bw],D.bool r.2]):=by
 refine gd func77 [[some (105,4),some (3,1),some (111,3),some (118,8),some (53,2),none],[none]] 50 fun hr Γ hΓ=>?_
 rw[jk]at h;obtain⟨y1,h2,h⟩:=aD h;obtain⟨h3,h⟩|⟨h3,h⟩:=aM h
 ·cases h;exact((aU.g (AF h2)).b h3).ret hΓ
 ·obtain⟨y4,h5,h⟩:=aD h;refine((((aU.g (AF h2)).b h3).g (AK h5)).a [.pb 4 1 3 1,.pb 4 2 111 3,.pb 4 4 53 2,.cn [0,2,4,5] [0,4,1,5,6,3,7]]).XI hΓ (uE aB 0 (y4.map aN.c) ([]:List aR) ([]:List aR) ([[D.int .i64 (-1),D.int .i64 0,D.str ([]),D.sl ([]),D.str ([]),D.str ([]),D.int .i64 (-1),D.sl ([[D.sl ([]),D.sl ([])]])]]) ([]:List aR) 0) (by first| (simp only[mA]<;>rfl)| (simp only[mA,aE.c,aS.c,aQ.c,Action.c,aN.c,aI.c,cu.c,aP.c,Node.c,aF.c,cw.c]<;>rfl)) (Dh hΓ (fun mE sM fV CH nu qc h=>?_) (by have:=(dY.sl (hr _ (aC (i:=0) rfl))).1;simpa using this) aB 0 0 y4 ([]:bI) ([]:b7) ([(⟨-1,(⟨0,(⟨[],[]⟩:aE),[],[]⟩:aQ), -1,[(⟨[],[]⟩:aI)]⟩:Node)]) ([]:aL) rfl h);cases h;exact aU.ret hΓ
def lN(aB:aF)(aW:aF)(k1:Option Bool):b7->Nat->Option Bool
 | [],i1=>(k1)
 |bD::bZ,i1=>((mK aW.av (i1:Int)).bind fun x32=>((jA bD.shape x32.shape).bind fun Ce=>(bif !(Ce)then(some false)else(lN aB aW k1 bZ (i1+1)))))
def jB(aB:aF)(aW:aF)(k2:Option Bool):ay->Nat->Option Bool
 | [],i2=>(k2)
 |lV::wu,i2=>((mK aW.nodes (i2:Int)).bind fun x73=>(bif (lV.parent:Int) != x73.parent then(some false)else(bif (lV.cP:Int) != x73.cP then(some false)else((ou lV.cond x73.cond).bind fun y77=>(bif !(y77)then(some false)else(jB aB aW k2 wu (i2+1)))))))
def jC(aB:aF)(aW:aF)(k3:Option Bool):bI->Nat->Option Bool
 | [],i3=>(k3)
 |WS::UM,i3=>((mK aW.ends (i3:Int)).bind fun x100=>(bif (WS:Int) != x100 then(some false)else(jC aB aW k3 UM (i3+1))))
def rU(aB:aF)(aW:aF):Option Bool:=(bif (((aB.av.map aP.c).length:Int):Int) != ((aW.av.map aP.c).length:Int)then(some false)else(bif (((aB.nodes.map Node.c).length:Int):Int) != ((aW.nodes.map Node.c).length:Int)then(some false)else(bif (((aB.ends.map dL).length:Int):Int) != ((aW.ends.map dL).length:Int)then(some false)else(lN aB aW (jB aB aW (jC aB aW (some true) aB.ends 0) aB.nodes 0) aB.av 0))))
def Hr(aB:aF)(aW:aF)(cT:Int):St:=⟨[(2,D.ptr 0 0),(3,D.ptr 1 0),(5,D.int .i64 cT)],[Ob.box (aF.c aB),Ob.box (aF.c aW)]⟩
theorem GB(hΓ:Γ.nt=123){aB:aF}{aW:aF}{r:Bool}{k1:Option Bool}(cX:k1=some r->Ax Γ N f85 (.q [[none]] (D.bool r)) [1,1,1] ⟨[(2,D.ptr 0 0),(3,D.ptr 1 0)],[Ob.box (aF.c aB),Ob.box (aF.c aW)]⟩)(hm1:aB.av.length<=maxLen):∀(rest:b7) (i1:Nat),aB.av.drop i1=rest->lN aB aW k1 rest i1=some r->Ar Γ N f85 (.q [[none]] (D.bool r)) [1,1,0,1,0] (rest.length+1) (Hr aB aW (i1:Int)):=by
 intro rest
 induction rest with
 |nil=>
  intro i1 aj h;rw[lN]at h;refine aO fun N1 bz bg=>?_
  exact((aU.ge aP.c aj).a [.hl 0 [2,3] [0,1]]).ex hΓ bz (cX h)
 |cons bD bZ ih1=>
  intro i1 aj h;rw[lN]at h;refine aO fun N1 bz bg=>?_
  obtain⟨x32,h33,h⟩:=aD h;obtain⟨Ce,h35,h⟩:=aD h;have wm:=(((((aU.lt aP.c aj).a [.n 12]).l (ax aP.c 3 (dc aj) rfl)).l (dl aP.c 3 h33 rfl)).g (tZ h35))
  obtain⟨h36,h⟩|⟨h36,h⟩:=aM h
  ·have h:=aG h;subst h;exact(wm.b h36).ret hΓ
  ·exact((wm.b h36).a [.cn [2,3,5] [0,1]]).ct hΓ bg (iS aj hm1) (ih1 (i1+1) (dn aj) h)
def Hs(aB:aF)(aW:aF)(cT:Int):St:=⟨[(2,D.ptr 0 0),(3,D.ptr 1 0),(6,D.int .i64 cT)],[Ob.box (aF.c aB),Ob.box (aF.c aW)]⟩
theorem GC(hΓ:Γ.nt=123){aB:aF}{aW:aF}{r:Bool}{k2:Option Bool}(Cn:k2=some r->Ax Γ N f85 (.q [[none]] (D.bool r)) [1,1,1,1] ⟨[(2,D.ptr 0 0),(3,D.ptr 1 0)],[Ob.box (aF.c aB),Ob.box (aF.c aW)]⟩)(hm2:aB.nodes.length<=maxLen):∀(rest:ay) (i2:Nat),aB.nodes.drop i2=rest->jB aB aW k2 rest i2=some r->Ar Γ N f85 (.q [[none]] (D.bool r)) [1,1,1,0,1,0] (rest.length+1) (Hs aB aW (i2:Int)):=by
 intro rest
 induction rest with
 |nil=>
  intro i2 hd2 h;rw[jB]at h;refine aO fun N2 xo uz=>?_
  exact((aU.ge Node.c hd2).a [.hl 0 [2,3] [0,1]]).ex hΓ xo (Cn h)
 |cons lV wu ih2=>
  intro i2 hd2 h;rw[jB]at h;refine aO fun N2 xo uz=>?_
  obtain⟨x73,h74,h⟩:=aD h;have AR:=((((aU.lt Node.c hd2).a [.n 41]).l (ax Node.c 8 (dc hd2) rfl)).l (dl Node.c 8 h74 rfl))
  obtain⟨h75,h⟩|⟨h75,h⟩:=aM h
  ·have h:=aG h;subst h;exact((AR.r 14 h75).T 16).ret hΓ
  ·have FG:=(((((AR.r 4 h75).l (ax Node.c 8 (dc hd2) rfl)).r 6 h75).l (dl Node.c 8 h74 rfl)).r 4 h75)
   obtain⟨h76,h⟩|⟨h76,h⟩:=aM h
   ·have h:=aG h;subst h;exact((FG.r 15 h76).T 1).ret hΓ
   ·obtain⟨y77,h78,h⟩:=aD h;have KR:=(((((((FG.r 4 h76).l (ax Node.c 8 (dc hd2) rfl)).r 6 h76).l (dl Node.c 8 h74 rfl)).r 3 h76).g (AJ h78)).r 2 h76)
    obtain⟨h79,h⟩|⟨h79,h⟩:=aM h
    ·have h:=aG h;subst h;exact(KR.b h79).ret hΓ
    ·exact((KR.b h79).a [.cn [2,3,6] [0,1]]).ct hΓ uz (iS hd2 hm2) (ih2 (i2+1) (dn hd2) h)
def Ht(aB:aF)(aW:aF)(cT:Int):St:=⟨[(2,D.ptr 0 0),(3,D.ptr 1 0),(7,D.int .i64 cT)],[Ob.box (aF.c aB),Ob.box (aF.c aW)]⟩
theorem GD(hΓ:Γ.nt=123){aB:aF}{aW:aF}{r:Bool}{k3:Option Bool}(hE3:k3=some r->Ax Γ N f85 (.q [[none]] (D.bool r)) [1,1,1,1,1] ⟨[],[]⟩)(X4:aB.ends.length<=maxLen):∀(rest:bI) (i3:Nat),aB.ends.drop i3=rest->jC aB aW k3 rest i3=some r->Ar Γ N f85 (.q [[none]] (D.bool r)) [1,1,1,1,0,1,0] (rest.length+1) (Ht aB aW (i3:Int)):=by
 intro rest
 induction rest with
 |nil=>
  intro i3 BS h;rw[jC]at h;refine aO fun N3 YX TO=>?_
  exact((aU.ge dL BS).a [.hl 0 [] []]).ex hΓ YX (hE3 h)
 |cons WS UM ih3=>
  intro i3 BS h;rw[jC]at h;refine aO fun N3 YX TO=>?_
  obtain⟨x100,h101,h⟩:=aD h;have AQ:=((((aU.lt dL BS).a [.n 10]).l (ax dL 1 (dc BS) rfl)).l (dl dL 1 h101 rfl))
  obtain⟨h102,h⟩|⟨h102,h⟩:=aM h
  ·have h:=aG h;subst h;exact(AQ.b h102).ret hΓ
  ·exact((AQ.b h102).a [.cn [2,3,7] [0,1]]).ct hΓ TO (iS BS X4) (ih3 (i3+1) (dn BS) h)
theorem Et{aB:aF}{aW:aF}{r:Bool}(h:rU aB aW=some r):Good prog 85 [D.agg (aF.c aB),D.agg (aF.c aW)] (D.bool r):=by
 refine gd func85 [[none]] 123 fun hr Γ hΓ=>?_
 rw[rU]at h;obtain⟨h1,h⟩|⟨h1,h⟩:=aM h
 ·have h:=aG h;subst h;exact((aU.r 8 h1).T 9).ret hΓ
 ·have IB:=(aU.r 8 h1)
  obtain⟨h2,h⟩|⟨h2,h⟩:=aM h
  ·have h:=aG h;subst h;exact((IB.r 8 h2).T 1).ret hΓ
  ·have BU:=(IB.r 8 h2)
   obtain⟨h3,h⟩|⟨h3,h⟩:=aM h
   ·have h:=aG h;subst h;exact(BU.b h3).ret hΓ
   ·refine((BU.b h3).a [.cn [2,3,5] [0,1]]).lp hΓ (GB hΓ (fun h=>?_) (by have:=(dY.sl (dY.agg (hr _ (aC (i:=0) rfl)) (.sl (aB.av.map aP.c)) (by simp))).1;simpa using this) aB.av 0 rfl h);refine(aU.a [.cn [2,3,6] [0,1]]).lp hΓ (GC hΓ (fun h=>?_) (by have:=(dY.sl (dY.agg (hr _ (aC (i:=0) rfl)) (.sl (aB.nodes.map Node.c)) (by simp))).1;simpa using this) aB.nodes 0 rfl h);refine(aU.a [.cn [2,3,7] [0,1]]).lp hΓ (GD hΓ (fun h=>?_) (by have:=(dY.sl (dY.agg (hr _ (aC (i:=0) rfl)) (.sl (aB.ends.map dL)) (by simp))).1;simpa using this) aB.ends 0 rfl h);have h:=aG h;subst h;exact aU.ret hΓ
def jl(aB:aT)(k1:Option Bool):aT->Nat->Option Bool
 | [],i1=>(k1)
 |bD::bZ,i1=>((iT bD.var).bind fun MQ=>(bif !(MQ)then(some false)else((fU bD.value).bind fun y52=>(bif !(y52)then(some false)else(bif decide (((i1:Int):Int)>0)then((mK aB (IntKind.i64.wrap ((i1:Int)-1))).bind fun x56=>(bif !(Op.bytesLess x56.var bD.var)then(some false)else(jl aB k1 bZ (i1+1))))else(jl aB k1 bZ (i1+1)))))))
def lE(aB:aT):Option Bool:=(jl aB (some (decide ((((aB.map aS.c).length:Int):Int)<=6))) aB 0)
def Jm(aB:aT)(cT:Int):St:=⟨[(0,D.sl (aB.map aS.c)),(3,D.int .i64 cT)],[]⟩
theorem HY(hΓ:Γ.nt=47){aB:aT}{r:Bool}{k1:Option Bool}(cX:k1=some r->Ax Γ N f226 (.q [[none]] (D.bool r)) [1,1] ⟨[(0,D.sl (aB.map aS.c))],[]⟩)(hm1:aB.length<=maxLen):∀(rest:aT) (i1:Nat),aB.drop i1=rest->jl aB k1 rest i1=some r->Ar Γ N f226 (.q [[none]] (D.bool r)) [1,0,1,0] (rest.length+1) (Jm aB (i1:Int)):=by
 intro rest
 induction rest with
 |nil=>
  intro i1 aj h;rw[jl]at h;refine aO fun N1 bz bg=>?_
  exact((aU.ge aS.c aj).a [.hl 0 [0] []]).ex hΓ bz (cX h)
 |cons bD bZ ih1=>
  intro i1 aj h;rw[jl]at h;refine aO fun N1 bz bg=>?_
  obtain⟨MQ,h50,h⟩:=aD h;have tq:=((((aU.lt aS.c aj).a [.n 31]).l (ax aS.c 2 (dc aj) rfl)).g (gM h50))
  obtain⟨h51,h⟩|⟨h51,h⟩:=aM h
  ·have h:=aG h;subst h;exact((((tq.r 8 h51).T 3).a [bF,bF,bF,bF,bF,bF,bF,bF,bF,bF,bF,bF]).T 3).ret hΓ
  ·obtain⟨y52,h53,h⟩:=aD h;have wm:=(((((tq.r 3 h51).l (ax aS.c 2 (dc aj) rfl)).r 3 h51).g (eb h53)).r 2 h51)
   obtain⟨h54,h⟩|⟨h54,h⟩:=aM h
   ·have h:=aG h;subst h;exact((((wm.r 3 h54).a [bF,bF,bF,bF,bF,bF,bF,bF,bF,bF,bF,bF]).r 2 h54).T 1).ret hΓ
   ·have AR:=(wm.r 3 h54)
    obtain⟨h55,h⟩|⟨h55,h⟩:=aM h
    ·obtain⟨x56,h57,h⟩:=aD h;have FG:=((((((((AR.r 4 h55).l (dl aS.c 2 h57 rfl)).r 5 h55).l (ax aS.c 2 (dc aj) rfl)).r 3 h55).b h54).b h55).b h54)
     obtain⟨h58,h⟩|⟨h58,h⟩:=aM h
     ·have h:=aG h;subst h;exact(FG.b h58).ret hΓ
     ·exact((FG.b h58).a [.cn [0,3] []]).ct hΓ bg (iS aj hm1) (ih1 (i1+1) (dn aj) h)
    ·exact((((((AR.r 12 h55).b h54).b h55).b h54).F 1).a [.cn [0,3] []]).ct hΓ bg (iS aj hm1) (ih1 (i1+1) (dn aj) h)
theorem n7{aB:aT}{r:Bool}(h:lE aB=some r):Good prog 226 [D.sl (aB.map aS.c)] (D.bool r):=by
 refine gd func226 [[none]] 47 fun hr Γ hΓ=>?_
 rw[lE]at h;refine(aU.a [.cn [0,3] []]).lp hΓ (HY hΓ (fun h=>?_) (by have:=(dY.sl (hr _ (aC (i:=0) rfl))).1;simpa using this) aB 0 rfl h);cases h;exact aU.ret hΓ
def iU(aB:aT)(aW:Bytes)(k1:Option (Bytes×Bool)):aT->Nat->Option (Bytes×Bool)
 | [],i1=>(k1)
 |bD::bZ,i1=>(bif (bD.var:Bytes)==aW then((iT aW).bind fun IM=>(bif IM then(some (bD.value,true))else(iU aB aW k1 bZ (i1+1))))else(iU aB aW k1 bZ (i1+1)))
def qU(aB:aT)(aW:Bytes):Option (Bytes×Bool):=((fU aW).bind fun y1=>(bif y1 then(some (aW,true))else(iU aB aW (some ([],false)) aB 0)))
def NI(aB:aT)(aW:Bytes)(cT:Int):St:=⟨[(0,D.sl (aB.map aS.c)),(1,D.str aW),(6,D.int .i64 cT)],[]⟩
theorem Lx(hΓ:Γ.nt=32){aB:aT}{aW:Bytes}{r:Bytes×Bool}{k1:Option (Bytes×Bool)}(cX:k1=some r->Ax Γ N f163 (.q [[none],[none]] (D.gZ [D.str r.1,D.bool r.2])) [1,1,1] ⟨[],[]⟩)(hm1:aB.length<=maxLen):∀(rest:aT) (i1:Nat),aB.drop i1=rest->iU aB aW k1 rest i1=some r->Ar Γ N f163 (.q [[none],[none]] (D.gZ [D.str r.1,D.bool r.2])) [1,1,0,1,0] (rest.length+1) (NI aB aW (i1:Int)):=by
 intro rest
 induction rest with
 |nil=>
  intro i1 aj h;rw[iU]at h;refine aO fun N1 bz bg=>?_
  exact((aU.ge aS.c aj).a [.hl 0 [] []]).ex hΓ bz (cX h)
 |cons bD bZ ih1=>
  intro i1 aj h;rw[iU]at h;refine aO fun N1 bz bg=>?_
  have jb:=((aU.lt aS.c aj).l (ax aS.c 2 (dc aj) rfl))
  obtain⟨h28,h⟩|⟨h28,h⟩:=aM h
  ·obtain⟨IM,h30,h⟩:=aD h;have ia:=(((jb.r 2 h28).g (gM h30)).b h28)
   obtain⟨h31,h⟩|⟨h31,h⟩:=aM h
   ·cases h;exact((ia.b h31).l (ax aS.c 2 (dc aj) rfl)).ret hΓ
   ·exact((ia.b h31).a [.cn [0,1,6] []]).ct hΓ bg (iS aj hm1) (ih1 (i1+1) (dn aj) h)
  ·exact(((jb.r 3 h28).F 1).a [.cn [0,1,6] []]).ct hΓ bg (iS aj hm1) (ih1 (i1+1) (dn aj) h)
theorem xS{aB:aT}{aW:Bytes}{r:Bytes×Bool}(h:qU aB aW=some r):Good prog 163 [D.sl (aB.map aS.c),D.str aW] (D.gZ [D.str r.1,D.bool r.2]):=by
 refine gd func163 [[none],[none]] 32 fun hr Γ hΓ=>?_
 rw[qU]at h;obtain⟨y1,h2,h⟩:=aD h;obtain⟨h3,h⟩|⟨h3,h⟩:=aM h
 ·cases h;exact((aU.g (eb h2)).b h3).ret hΓ
 ·refine(((aU.g (eb h2)).b h3).a [.cn [0,1,6] []]).lp hΓ (Lx hΓ (fun h=>?_) (by have:=(dY.sl (hr _ (aC (i:=0) rfl))).1;simpa using this) aB 0 rfl h);cases h;exact aU.ret hΓ
def mh(aB:aT)(aW:Bytes)(cY:Bytes)(k1:Bool->aT->Option aT):aT->Nat->Bool->aT->Option aT
 | [],i1,IK,bC=>(k1 IK bC)
 |bD::bZ,i1,IK,bC=>(bif !(IK)then(bif !(Op.bytesLess bD.var aW||(bD.var:Bytes)==aW)then(bif room ((bC.map aS.c).length+([[D.str aW,D.str cY]]).length) 32 then(bif room (((bC.map aS.c)++([[D.str aW,D.str cY]])).length+([[D.str bD.var,D.str bD.value]]).length) 32 then(mh aB aW cY k1 bZ (i1+1) true ((bC++([(⟨aW,cY⟩:aS)]))++([bD])))else none)else none)else(bif room ((bC.map aS.c).length+([[D.str bD.var,D.str bD.value]]).length) 32 then(mh aB aW cY k1 bZ (i1+1) IK (bC++([bD])))else none))else(bif room ((bC.map aS.c).length+([[D.str bD.var,D.str bD.value]]).length) 32 then(mh aB aW cY k1 bZ (i1+1) IK (bC++([bD])))else none))
def zA(aB:aT)(aW:Bytes)(cY:Bytes):Option aT:=(mh aB aW cY (fun(a44:Bool) (bQ:aT)=>(bif !(a44)then(bif room ((bQ.map aS.c).length+([[D.str aW,D.str cY]]).length) 32 then(some (bQ++([(⟨aW,cY⟩:aS)])))else none)else(some bQ))) aB 0 false ([]:aT))
def xz(aB:aT)(aW:Bytes)(cY:Bytes)(IK:Bool)(W1:List aR)(cT:Int):St:=⟨[(0,D.sl (aB.map aS.c)),(1,D.str aW),(2,D.str cY),(7,D.acc 0),(8,D.bool IK),(9,D.int .i64 cT)],[Ob.row .uq 152 2 W1]⟩
theorem Od(hΓ:Γ.nt=50){aB:aT}{aW:Bytes}{cY:Bytes}{r:aT}{k1:Bool->aT->Option aT}(cX:∀(a44:Bool) (bQ:aT),k1 a44 bQ=some r->Ax Γ N f164 (.q [[some (152,2)]] (D.fr 152 2 (r.map aS.c))) [1,1,1,1] ⟨[(1,D.str aW),(2,D.str cY),(7,D.acc 0),(8,D.bool a44)],[Ob.row .uq 152 2 (bQ.map aS.c)]⟩)(hm1:aB.length<=maxLen):∀(rest:aT) (i1:Nat) (IK:Bool) (bC:aT),aB.drop i1=rest->mh aB aW cY k1 rest i1 IK bC=some r->Ar Γ N f164 (.q [[some (152,2)]] (D.fr 152 2 (r.map aS.c))) [1,1,1,0,1,0] (rest.length+1) (xz aB aW cY IK (bC.map aS.c) (i1:Int)):=by
 intro rest
 induction rest with
 |nil=>
  intro i1 IK bC aj h;rw[mh]at h;refine aO fun N1 bz bg=>?_
  exact((aU.ge aS.c aj).a [.hl 0 [1,2,7,8] [0]]).ex hΓ bz (cX IK bC h)
 |cons bD bZ ih1=>
  intro i1 IK bC aj h;rw[mh]at h;refine aO fun N1 bz bg=>?_
  obtain⟨h48,h⟩|⟨h48,h⟩:=aM h
  ·have dJ:=((((aU.lt aS.c aj).r 3 h48).l (ax aS.c 2 (dc aj) rfl)).r 5 h48)
   obtain⟨h49,h⟩|⟨h49,h⟩:=aM h
   ·obtain⟨h50,h⟩:=bV h;obtain⟨h51,h⟩:=bV h;exact(((((dJ.b h49).w (cB h50)).l (ax aS.c 2 (dc aj) rfl)).w (cB h51)).a [.cn [0,1,2,7,8,9] [4]]).cs hΓ bg (xz aB aW cY true (((bC.map aS.c)++([[D.str aW,D.str cY]]))++([[D.str bD.var,D.str bD.value]])) (IntKind.i64.wrap ((i1:Int)+1))) (by first| (simp only[iS aj hm1,mA]<;>rfl)| (simp only[iS aj hm1,mA,aE.c,aS.c,aQ.c,Action.c,aN.c,aI.c,cu.c,aP.c,Node.c,aF.c,cw.c]<;>rfl)) (ih1 (i1+1) true ((bC++([(⟨aW,cY⟩:aS)]))++([bD])) (dn aj) h)
   ·obtain⟨h52,h⟩:=bV h;exact((((dJ.b h49).l (ax aS.c 2 (dc aj) rfl)).w (cB h52)).a [.cn [0,1,2,7,8,9] [2]]).cs hΓ bg (xz aB aW cY IK ((bC.map aS.c)++([[D.str bD.var,D.str bD.value]])) (IntKind.i64.wrap ((i1:Int)+1))) (by first| (simp only[iS aj hm1,mA]<;>rfl)| (simp only[iS aj hm1,mA,aE.c,aS.c,aQ.c,Action.c,aN.c,aI.c,cu.c,aP.c,Node.c,aF.c,cw.c]<;>rfl)) (ih1 (i1+1) IK (bC++([bD])) (dn aj) h)
  ·obtain⟨h53,h⟩:=bV h;exact((((((aU.lt aS.c aj).r 8 h48).F 1).l (ax aS.c 2 (dc aj) rfl)).w (cB h53)).a [.cn [0,1,2,7,8,9] [2]]).cs hΓ bg (xz aB aW cY IK ((bC.map aS.c)++([[D.str bD.var,D.str bD.value]])) (IntKind.i64.wrap ((i1:Int)+1))) (by first| (simp only[iS aj hm1,mA]<;>rfl)| (simp only[iS aj hm1,mA,aE.c,aS.c,aQ.c,Action.c,aN.c,aI.c,cu.c,aP.c,Node.c,aF.c,cw.c]<;>rfl)) (ih1 (i1+1) IK (bC++([bD])) (dn aj) h)
theorem NL{aB:aT}{aW:Bytes}{cY:Bytes}{r:aT}(h:zA aB aW cY=some r):Good prog 164 [D.sl (aB.map aS.c),D.str aW,D.str cY] (D.fr 152 2 (r.map aS.c)):=by
 refine gd func164 [[some (152,2)]] 50 fun hr Γ hΓ=>?_
 rw[zA]at h;refine(aU.a [.cn [0,1,2,7,8,9] [0]]).lp hΓ (Od hΓ (fun a44 bQ h=>?_) (by have:=(dY.sl (hr _ (aC (i:=0) rfl))).1;simpa using this) aB 0 false ([]:aT) rfl h);obtain⟨h54,h⟩|⟨h54,h⟩:=aM h
 ·obtain⟨h55,h⟩:=bV h;cases h;exact((aU.b h54).w (cB h55)).rts hΓ (D.fr 152 2 ((bQ.map aS.c)++([[D.str aW,D.str cY]]))) (by first|rfl| (simp only[mA]<;>rfl)| (simp only[cW,mA]<;>rfl))
 ·have h:=aG h;subst h;exact(aU.b h54).ret hΓ
def vU(aB:aT)(aW:Bytes)(cY:Bytes):Option (aT×Bool):=((lE aB).bind fun y1=>(bif !(y1)then(some (([]:aT),false))else((iT aW).bind fun y4=>(bif !(y4)then(some (([]:aT),false))else((fU cY).bind fun y7=>(bif !(y7)then(some (([]:aT),false))else((qU aB aW).bind fun DK=>(bif DK.2 then(bif (DK.1:Bytes)==cY then((sH aB).bind fun WH=>(some (WH,true)))else(some (([]:aT),false)))else(bif (((aB.map aS.c).length:Int):Int)==6 then(some (([]:aT),false))else((zA aB aW cY).bind fun UP=>(some (UP,true))))))))))))
theorem Ll{aB:aT}{aW:Bytes}{cY:Bytes}{r:aT×Bool}(h:vU aB aW cY=some r):Good prog 228 [D.sl (aB.map aS.c),D.str aW,D.str cY] (D.gZ [D.fr 152 2 (r.1.map aS.c),D.bool r.2]):=by
 refine gd func228 [[some (152,2)],[none]] 49 fun hr Γ hΓ=>?_
 rw[vU]at h;obtain⟨y1,h2,h⟩:=aD h;obtain⟨h3,h⟩|⟨h3,h⟩:=aM h
 ·cases h;exact(((aU.g (n7 h2)).r 4 h3).T 5).ret hΓ
 ·obtain⟨y4,h5,h⟩:=aD h;have kF:=((((aU.g (n7 h2)).r 2 h3).g (gM h5)).r 2 h3)
  obtain⟨h6,h⟩|⟨h6,h⟩:=aM h
  ·cases h;exact((kF.r 4 h6).T 1).ret hΓ
  ·obtain⟨y7,h8,h⟩:=aD h;have dJ:=(((kF.r 2 h6).g (eb h8)).r 2 h6)
   obtain⟨h9,h⟩|⟨h9,h⟩:=aM h
   ·cases h;exact(dJ.b h9).ret hΓ
   ·obtain⟨DK,h11,h⟩:=aD h;have jb:=((dJ.b h9).g (xS h11))
    obtain⟨h12,h⟩|⟨h12,h⟩:=aM h
    ·have ia:=(jb.r 4 h12)
     obtain⟨h13,h⟩|⟨h13,h⟩:=aM h
     ·obtain⟨WH,h15,h⟩:=aD h;cases h;exact((ia.b h13).g (yN h15)).ret hΓ
     ·cases h;exact(((ia.b h13).r 4 h12).T 1).ret hΓ
    ·have tq:=(((jb.r 4 h12).F 1).r 4 h12)
     obtain⟨h16,h⟩|⟨h16,h⟩:=aM h
     ·cases h;exact(tq.b h16).ret hΓ
     ·obtain⟨UP,h18,h⟩:=aD h;cases h;exact((tq.b h16).g (NL h18)).ret hΓ
def jq(aB:aE)(aW:aE)(k1:aT->Option (aT×Bool)):aJ->Nat->aT->Option (aT×Bool)
 | [],i1,fW=>(k1 fW)
 |bD::bZ,i1,fW=>((fU bD).bind fun y80=>(bif y80 then((mK aW.args (i1:Int)).bind fun x83=>(bif !((bD:Bytes)==x83)then(some (([]:aT),false))else(jq aB aW k1 bZ (i1+1) fW)))else((mK aW.args (i1:Int)).bind fun x86=>((vU fW bD x86).bind fun y88=>(bif !(y88.2)then(some (([]:aT),false))else(jq aB aW k1 bZ (i1+1) y88.1))))))
def jT(aB:aE)(aW:aE)(cY:aT):Option (aT×Bool):=((jS aB).bind fun y1=>(bif !(y1)then(some (([]:aT),false))else((pT aW).bind fun y4=>(bif !(y4)then(some (([]:aT),false))else((lE cY).bind fun y7=>(bif !(y7)then(some (([]:aT),false))else(bif !((aB.rel:Bytes)==aW.rel)then(some (([]:aT),false))else(bif (((aB.args.map tx).length:Int):Int) != ((aW.args.map tx).length:Int)then(some (([]:aT),false))else((sH cY).bind fun ZB=>(jq aB aW (fun(bQ:aT)=>(some (bQ,true))) aB.args 0 ZB))))))))))
def Jq(aB:aE)(aW:aE)(W0:List aR)(cT:Int):St:=⟨[(3,D.ptr 0 0),(4,D.ptr 1 0),(8,D.acc 2),(9,D.int .i64 cT)],[Ob.box (aE.c aB),Ob.box (aE.c aW),Ob.row .uq 152 2 W0]⟩
theorem Hg(hΓ:Γ.nt=89){aB:aE}{aW:aE}{r:aT×Bool}{k1:aT->Option (aT×Bool)}(cX:∀(bQ:aT),k1 bQ=some r->Ax Γ N f151 (.q [[some (152,2)],[none]] (D.gZ [D.fr 152 2 (r.1.map aS.c),D.bool r.2])) [1,1,1,1] ⟨[(8,D.acc 0)],[Ob.row .uq 152 2 (bQ.map aS.c)]⟩)(hm1:aB.args.length<=maxLen):∀(rest:aJ) (i1:Nat) (fW:aT),aB.args.drop i1=rest->jq aB aW k1 rest i1 fW=some r->Ar Γ N f151 (.q [[some (152,2)],[none]] (D.gZ [D.fr 152 2 (r.1.map aS.c),D.bool r.2])) [1,1,1,0,1,0] (rest.length+1) (Jq aB aW (fW.map aS.c) (i1:Int)):=by
 intro rest
 induction rest with
 |nil=>
  intro i1 fW aj h;rw[jq]at h;refine aO fun N1 bz bg=>?_
  exact((aU.ge tx aj).a [.hl 0 [8] [2]]).ex hΓ bz (cX fW h)
 |cons bD bZ ih1=>
  intro i1 fW aj h;rw[jq]at h;refine aO fun N1 bz bg=>?_
  obtain⟨y80,h81,h⟩:=aD h;have ia:=(((aU.lt tx aj).l (ax tx 1 (dc aj) rfl)).g (eb h81))
  obtain⟨h82,h⟩|⟨h82,h⟩:=aM h
  ·obtain⟨x83,h84,h⟩:=aD h;have tq:=((((ia.b h82).a [.n 10]).l (ax tx 1 (dc aj) rfl)).l (dl tx 1 h84 rfl))
   obtain⟨h85,h⟩|⟨h85,h⟩:=aM h
   ·cases h;exact(tq.b h85).ret hΓ
   ·exact((tq.b h85).a [.cn [3,4,8,9] [0,1,2]]).ct hΓ bg (iS aj hm1) (ih1 (i1+1) fW (dn aj) h)
  ·obtain⟨x86,h87,h⟩:=aD h;obtain⟨y88,h89,h⟩:=aD h;have wm:=(((((ia.b h82).a [.n 16]).l (ax tx 1 (dc aj) rfl)).l (dl tx 1 h87 rfl)).g (Ll h89))
   obtain⟨h90,h⟩|⟨h90,h⟩:=aM h
   ·cases h;exact(wm.b h90).ret hΓ
   ·exact((wm.b h90).a [.cn [3,4,8,9] [0,1,3]]).ct hΓ bg (iS aj hm1) (ih1 (i1+1) y88.1 (dn aj) h)
theorem qo{aB:aE}{aW:aE}{cY:aT}{r:aT×Bool}(h:jT aB aW cY=some r):Good prog 151 [D.agg (aE.c aB),D.agg (aE.c aW),D.sl (cY.map aS.c)] (D.gZ [D.fr 152 2 (r.1.map aS.c),D.bool r.2]):=by
 refine gd func151 [[some (152,2)],[none]] 89 fun hr Γ hΓ=>?_
 rw[jT]at h;obtain⟨y1,h2,h⟩:=aD h;obtain⟨h3,h⟩|⟨h3,h⟩:=aM h
 ·cases h;exact(((aU.g (k7 h2)).r 4 h3).T 19).ret hΓ
 ·obtain⟨y4,h5,h⟩:=aD h;have AR:=((((aU.g (k7 h2)).r 2 h3).g (yM h5)).r 2 h3)
  obtain⟨h6,h⟩|⟨h6,h⟩:=aM h
  ·cases h;exact((AR.r 4 h6).T 15).ret hΓ
  ·obtain⟨y7,h8,h⟩:=aD h;have FG:=(((AR.r 2 h6).g (n7 h8)).r 2 h6)
   obtain⟨h9,h⟩|⟨h9,h⟩:=aM h
   ·cases h;exact((FG.r 6 h9).T 9).ret hΓ
   ·have KR:=(FG.r 6 h9)
    obtain⟨h10,h⟩|⟨h10,h⟩:=aM h
    ·cases h;exact((KR.r 8 h10).T 1).ret hΓ
    ·have AQ:=(KR.r 8 h10)
     obtain⟨h11,h⟩|⟨h11,h⟩:=aM h
     ·cases h;exact(AQ.b h11).ret hΓ
     ·obtain⟨ZB,h13,h⟩:=aD h;refine(((AQ.b h11).g (yN h13)).a [.cn [3,4,8,9] [0,1,2]]).lp hΓ (Hg hΓ (fun bQ h=>?_) (by have:=(dY.sl (dY.agg (hr _ (aC (i:=0) rfl)) (.sl (aB.args.map tx)) (by simp))).1;simpa using this) aB.args 0 ZB rfl h);cases h;exact aU.ret hΓ
def gH(aB:aE)(aW:aT)(cY:aL)(k1:aL->Option aL):aL->Nat->aL->Option aL
 | [],i1,bu=>(k1 bu)
 |bD::bZ,i1,bu=>((jT aB bD aW).bind fun y42=>(bif y42.2 then((fA bD).bind fun IN=>(bif room ((bu.map aE.c).length+([[D.str IN.rel,D.sl (IN.args.map tx)]]).length) 40 then(gH aB aW cY k1 bZ (i1+1) (bu++([IN])))else none))else(gH aB aW cY k1 bZ (i1+1) bu)))
def gX(aB:aE)(aW:aT)(cY:aL):Option aL:=(gH aB aW cY (fun(bQ:aL)=>(some bQ)) cY 0 ([]:aL))
def yV(aB:aE)(aW:aT)(cY:aL)(W0:List aR)(cT:Int):St:=⟨[(1,D.sl (aW.map aS.c)),(2,D.sl (cY.map aE.c)),(3,D.ptr 0 0),(7,D.acc 1),(8,D.int .i64 cT)],[Ob.box (aE.c aB),Ob.row .uq 53 2 W0]⟩
theorem D5(hΓ:Γ.nt=38){aB:aE}{aW:aT}{cY:aL}{r:aL}{k1:aL->Option aL}(cX:∀(bQ:aL),k1 bQ=some r->Ax Γ N f87 (.q [[some (53,2)]] (D.fr 53 2 (r.map aE.c))) [1,1,1] ⟨[(7,D.acc 0)],[Ob.row .uq 53 2 (bQ.map aE.c)]⟩)(hm1:cY.length<=maxLen):∀(rest:aL) (i1:Nat) (bu:aL),cY.drop i1=rest->gH aB aW cY k1 rest i1 bu=some r->Ar Γ N f87 (.q [[some (53,2)]] (D.fr 53 2 (r.map aE.c))) [1,1,0,1,0] (rest.length+1) (yV aB aW cY (bu.map aE.c) (i1:Int)):=by
 intro rest
 induction rest with
 |nil=>
  intro i1 bu aj h;rw[gH]at h;refine aO fun N1 bz bg=>?_
  exact((aU.ge aE.c aj).a [.hl 0 [7] [1]]).ex hΓ bz (cX bu h)
 |cons bD bZ ih1=>
  intro i1 bu aj h;rw[gH]at h;refine aO fun N1 bz bg=>?_
  obtain⟨y42,h43,h⟩:=aD h;have dJ:=((((aU.lt aE.c aj).a [.n 11]).l (ax aE.c 2 (dc aj) rfl)).g (qo h43))
  obtain⟨h44,h⟩|⟨h44,h⟩:=aM h
  ·obtain⟨IN,h46,h⟩:=aD h;obtain⟨h47,h⟩:=bV h;exact(((((dJ.b h44).l (ax aE.c 2 (dc aj) rfl)).g (gr h46)).w (cB h47)).a [.cn [1,2,3,7,8] [0,5]]).cs hΓ bg (yV aB aW cY ((bu.map aE.c)++([[D.str IN.rel,D.sl (IN.args.map tx)]])) (IntKind.i64.wrap ((i1:Int)+1))) (by first| (simp only[iS aj hm1,mA]<;>rfl)| (simp only[iS aj hm1,mA,aE.c,aS.c,aQ.c,Action.c,aN.c,aI.c,cu.c,aP.c,Node.c,aF.c,cw.c]<;>rfl)) (ih1 (i1+1) (bu++([IN])) (dn aj) h)
  ·exact((dJ.b h44).a [.cn [1,2,3,7,8] [0,1]]).ct hΓ bg (iS aj hm1) (ih1 (i1+1) bu (dn aj) h)
theorem gY{aB:aE}{aW:aT}{cY:aL}{r:aL}(h:gX aB aW cY=some r):Good prog 87 [D.agg (aE.c aB),D.sl (aW.map aS.c),D.sl (cY.map aE.c)] (D.fr 53 2 (r.map aE.c)):=by
 refine gd func87 [[some (53,2)]] 38 fun hr Γ hΓ=>?_
 rw[gX]at h;refine(aU.a [.cn [1,2,3,7,8] [0,1]]).lp hΓ (D5 hΓ (fun bQ h=>?_) (by have:=(dY.sl (hr _ (aC (i:=2) rfl))).1;simpa using this) cY 0 ([]:aL) rfl h);have h:=aG h;subst h;exact aU.ret hΓ
def mY(aB:aL)(aW:aL)(k1:Option Bool):aL->Nat->Option Bool
 | [],i1=>(k1)
 |bD::bZ,i1=>((mK aW (i1:Int)).bind fun x30=>((sG bD x30).bind fun BF=>(bif !(BF)then(some false)else(mY aB aW k1 bZ (i1+1)))))
def nW(aB:aL)(aW:aL):Option Bool:=(bif (((aB.map aE.c).length:Int):Int) != ((aW.map aE.c).length:Int)then(some false)else(mY aB aW (some true) aB 0))
def Jw(aB:aL)(aW:aL)(cT:Int):St:=⟨[(0,D.sl (aB.map aE.c)),(1,D.sl (aW.map aE.c)),(5,D.int .i64 cT)],[]⟩
theorem Hl(hΓ:Γ.nt=27){aB:aL}{aW:aL}{r:Bool}{k1:Option Bool}(cX:k1=some r->Ax Γ N f86 (.q [[none]] (D.bool r)) [1,1,1] ⟨[],[]⟩)(hm1:aB.length<=maxLen):∀(rest:aL) (i1:Nat),aB.drop i1=rest->mY aB aW k1 rest i1=some r->Ar Γ N f86 (.q [[none]] (D.bool r)) [1,1,0,1,0] (rest.length+1) (Jw aB aW (i1:Int)):=by
 intro rest
 induction rest with
 |nil=>
  intro i1 aj h;rw[mY]at h;refine aO fun N1 bz bg=>?_
  exact((aU.ge aE.c aj).a [.hl 0 [] []]).ex hΓ bz (cX h)
 |cons bD bZ ih1=>
  intro i1 aj h;rw[mY]at h;refine aO fun N1 bz bg=>?_
  obtain⟨x30,h31,h⟩:=aD h;obtain⟨BF,h33,h⟩:=aD h;have dJ:=(((((aU.lt aE.c aj).a [.n 8]).l (ax aE.c 2 (dc aj) rfl)).l (dl aE.c 2 h31 rfl)).g (C6 h33))
  obtain⟨h34,h⟩|⟨h34,h⟩:=aM h
  ·have h:=aG h;subst h;exact(dJ.b h34).ret hΓ
  ·exact((dJ.b h34).a [.cn [0,1,5] []]).ct hΓ bg (iS aj hm1) (ih1 (i1+1) (dn aj) h)
theorem zX{aB:aL}{aW:aL}{r:Bool}(h:nW aB aW=some r):Good prog 86 [D.sl (aB.map aE.c),D.sl (aW.map aE.c)] (D.bool r):=by
 refine gd func86 [[none]] 27 fun hr Γ hΓ=>?_
 rw[nW]at h;obtain⟨h1,h⟩|⟨h1,h⟩:=aM h
 ·have h:=aG h;subst h;exact(aU.b h1).ret hΓ
 ·refine((aU.b h1).a [.cn [0,1,5] []]).lp hΓ (Hl hΓ (fun h=>?_) (by have:=(dY.sl (hr _ (aC (i:=0) rfl))).1;simpa using this) aB 0 rfl h);have h:=aG h;subst h;exact aU.ret hΓ
end Go.Cx

/- What functions of the program compute, and the walks that show it. No condition. -/
import Derived.Test.YtbeaohmbmfjabaaGreatDoorPFeedNetworkG4
set_option linter.unusedVariables false
set_option linter.unusedSimpArgs false
namespace Go.Cx
open Go.RowKit Go.Proofs Tryz
set_option maxRecDepth 100000
variable{Γ:vn}{N:Nat->St->Prop}
def jr(aB:Bytes)(aV:aT)(k1:Option Bytes):aT->Nat->Option Bytes
 | [],i1=>(k1)
 |bD::bZ,i1=>(bif (bD.var:Bytes)==aB then(some bD.value)else(jr aB aV k1 bZ (i1+1)))
def lJ(aB:Bytes)(aV:aT):Option Bytes:=(jr aB aV (some aB) aV 0)
def Jz(aB:Bytes)(aV:aT)(cS:Int):St:=⟨[(0,D.str aB),(1,D.sl (aV.map aS.c)),(5,D.int .i64 cS)],[]⟩
theorem Hj(hΓ:Γ.nt=25){aB:Bytes}{aV:aT}{r:Bytes}{k1:Option Bytes}(cW:k1=some r->Ax Γ N f242 (.q [[none]] (D.str r)) [1,1] ⟨[(0,D.str aB)],[]⟩)(hm1:aV.length<=maxLen):∀(rest:aT) (i1:Nat),aV.drop i1=rest->jr aB aV k1 rest i1=some r->Ar Γ N f242 (.q [[none]] (D.str r)) [1,0,1,0] (rest.length+1) (Jz aB aV (i1:Int)):=by
 intro rest
 induction rest with
 |nil=>
  intro i1 aj h;rw[jr]at h;refine aN fun N1 bw bg=>?_
  exact((aU.ge aS.c aj).a [.hl 0 [0] []]).ex hΓ bw (cW h)
 |cons bD bZ ih1=>
  intro i1 aj h;rw[jr]at h;refine aN fun N1 bw bg=>?_
  have dJ:=((aU.lt aS.c aj).l (ax aS.c 2 (dc aj) rfl))
  obtain⟨h13,h⟩|⟨h13,h⟩:=aL h
  ·cases h;exact((dJ.b h13).l (ax aS.c 2 (dc aj) rfl)).ret hΓ
  ·exact((dJ.b h13).a [.cn [0,1,5] []]).ct hΓ bg (iS aj hm1) (ih1 (i1+1) (dn aj) h)
theorem vg{aB:Bytes}{aV:aT}{r:Bytes}(h:lJ aB aV=some r):Good prog 242 [D.str aB,D.sl (aV.map aS.c)] (D.str r):=by
 refine gd func242 [[none]] 25 fun hr Γ hΓ=>?_
 rw[lJ]at h;refine(aU.a [.cn [0,1,5] []]).lp hΓ (Hj hΓ (fun h=>?_) (by have:=(dW.sl (hr _ (aC (i:=1) rfl))).1;simpa using this) aV 0 rfl h);have h:=aG h;subst h;exact aU.ret hΓ
def lG(aB:aQ)(aV:aT)(y1:Bytes)(y3:Bytes)(k1:aJ->Option aQ):aJ->Nat->aJ->Option aQ
 | [],i1,eN=>(k1 eN)
 |bD::bZ,i1,eN=>((lJ bD aV).bind fun Z5=>(bif room ((eN.map tx).length+([[D.str Z5]]).length) 16 then(lG aB aV y1 y3 k1 bZ (i1+1) (eN++([Z5])))else none))
def jw(aB:aQ)(aV:aT):Option aQ:=((lJ aB.left aV).bind fun y1=>((lJ aB.right aV).bind fun y3=>(lG aB aV y1 y3 (fun(sK:aJ)=>(some (⟨aB.kind,(⟨aB.pat.rel,sK⟩:aE),y1,y3⟩:aQ))) aB.pat.args 0 ([]:aJ))))
def AE(aB:aQ)(aV:aT)(y1:Bytes)(y3:Bytes)(W0:List aR)(cS:Int):St:=⟨[(1,D.sl (aV.map aS.c)),(2,D.ptr 0 0),(4,D.ptr 1 0),(5,D.ptr 2 0),(6,D.int .i64 cS)],[Ob.box (aQ.c aB),Ob.box [D.int .i64 0,D.str ([]),D.nil,D.str ([]),D.str ([])],Ob.box [D.int .i64 aB.kind,D.str aB.pat.rel,D.acc 3,D.str y1,D.str y3],Ob.row .uq 9 1 W0]⟩
theorem G3(hΓ:Γ.nt=46){aB:aQ}{aV:aT}{y1:Bytes}{y3:Bytes}{r:aQ}{k1:aJ->Option aQ}(cW:∀(sK:aJ),k1 sK=some r->Ax Γ N f177 (.q [[none,none,some (9,1),none,none]] (D.agg [D.int .i64 r.kind,D.str r.pat.rel,D.fr 9 1 (r.pat.args.map tx),D.str r.left,D.str r.right])) [1,1,1] ⟨[(4,D.ptr 0 0),(5,D.ptr 1 0)],[Ob.box [D.int .i64 0,D.str ([]),D.nil,D.str ([]),D.str ([])],Ob.box [D.int .i64 aB.kind,D.str aB.pat.rel,D.acc 2,D.str y1,D.str y3],Ob.row .uq 9 1 (sK.map tx)]⟩)(hm1:aB.pat.args.length<=maxLen):∀(rest:aJ) (i1:Nat) (eN:aJ),aB.pat.args.drop i1=rest->lG aB aV y1 y3 k1 rest i1 eN=some r->Ar Γ N f177 (.q [[none,none,some (9,1),none,none]] (D.agg [D.int .i64 r.kind,D.str r.pat.rel,D.fr 9 1 (r.pat.args.map tx),D.str r.left,D.str r.right])) [1,1,0,1,0] (rest.length+1) (AE aB aV y1 y3 (eN.map tx) (i1:Int)):=by
 intro rest
 induction rest with
 |nil=>
  intro i1 eN aj h;rw[lG]at h;refine aN fun N1 bw bg=>?_
  exact((aU.ge tx aj).a [.hl 0 [4,5] [1,2,3]]).ex hΓ bw (cW eN h)
 |cons bD bZ ih1=>
  intro i1 eN aj h;rw[lG]at h;refine aN fun N1 bw bg=>?_
  obtain⟨Z5,h32,h⟩:=aD h;obtain⟨h33,h⟩:=bV h;exact((((((aU.lt tx aj).a [.n 12]).l (ax tx 1 (dc aj) rfl)).g (vg h32)).w (cB h33)).a [.cn [1,2,4,5,6] [0,1,2,5]]).cs hΓ bg (AE aB aV y1 y3 ((eN.map tx)++([[D.str Z5]])) (IntKind.i64.wrap ((i1:Int)+1))) (by first| (simp only[iS aj hm1,mA]<;>rfl)| (simp only[iS aj hm1,mA,aE.c,aS.c,aQ.c,Action.c,aO.c,aI.c,cr.c,aP.c,Node.c,aF.c,cv.c]<;>rfl)) (ih1 (i1+1) (eN++([Z5])) (dn aj) h)
theorem jT{aB:aQ}{aV:aT}{r:aQ}(h:jw aB aV=some r):Good prog 177 [D.agg (aQ.c aB),D.sl (aV.map aS.c)] (D.agg [D.int .i64 r.kind,D.str r.pat.rel,D.fr 9 1 (r.pat.args.map tx),D.str r.left,D.str r.right]):=by
 refine gd func177 [[none,none,some (9,1),none,none]] 46 fun hr Γ hΓ=>?_
 rw[jw]at h;obtain⟨y1,h2,h⟩:=aD h;obtain⟨y3,h4,h⟩:=aD h;refine((((aU.a [.n 16]).g (vg h2)).g (vg h4)).a [.pb 2 2 9 1,.cn [1,2,4,5,6] [0,1,2,3]]).lp hΓ (G3 hΓ (fun sK h=>?_) (by have:=(dW.sl (dW.agg (hr _ (aC (i:=0) rfl)) (.sl (aB.pat.args.map tx)) (by simp))).1;simpa using this) aB.pat.args 0 ([]:aJ) rfl h);cases h;exact aU.ret hΓ
def k9(aB:aQ):Option aQ:=((jw aB ([])).bind fun y1=>(some y1))
theorem qV{aB:aQ}{r:aQ}(h:k9 aB=some r):Good prog 105 [D.agg (aQ.c aB)] (D.agg [D.int .i64 r.kind,D.str r.pat.rel,D.fr 9 1 (r.pat.args.map tx),D.str r.left,D.str r.right]):=by
 refine gd func105 [[none,none,some (9,1),none,none]] 5 fun hr Γ hΓ=>?_
 rw[k9]at h;obtain⟨y1,h2,h⟩:=aD h;have h:=aG h;subst h;exact((aU.a [.d (D.agg [D.int .i64 y1.kind,D.str y1.pat.rel,D.fr 9 1 (y1.pat.args.map tx),D.str y1.left,D.str y1.right])]).w (show Good prog 177 [D.agg (aQ.c aB),D.sl ([])] (D.agg [D.int .i64 y1.kind,D.str y1.pat.rel,D.fr 9 1 (y1.pat.args.map tx),D.str y1.left,D.str y1.right])from by first| (simpa only[bN,bH,bX,dB,dA]using jT h2)|exact jT h2)).ret hΓ
def tX(aB:aJ):Option aJ:=(bif room (([]:List aR).length+(aB.map tx).length) 16 then(some (([]:aJ)++aB))else none)
theorem B5{aB:aJ}{r:aJ}(h:tX aB=some r):Good prog 176 [D.sl (aB.map tx)] (D.fr 9 1 (r.map tx)):=by
 refine gd func176 [[some (9,1)]] 6 fun hr Γ hΓ=>?_
 rw[tX]at h;obtain⟨h1,h⟩:=bV h;cases h;exact(((aU.w (cB h1)).w (show(∀r∈(aB.map tx),r.length=1)/\(true=true->D.oB (aB.map tx)=true)from⟨by first|simp| (intro r hr;obtain⟨x,_,rfl⟩:=cJ.1 (cH (gO hr));rfl),by simp[D.oB,D.flat]⟩)).a [.Pk 2,.fl true]).rts hΓ (D.fr 9 1 (([]:List aR)++(aB.map tx))) (by first|rfl| (simp only[mA]<;>rfl))
def eU(aB:aE):Option aE:=((tX aB.args).bind fun y1=>(some (⟨aB.rel,y1⟩:aE)))
theorem x8{aB:aE}{r:aE}(h:eU aB=some r):Good prog 104 [D.agg (aE.c aB)] (D.agg [D.str r.rel,D.fr 9 1 (r.args.map tx)]):=by
 refine gd func104 [[none,some (9,1)]] 9 fun hr Γ hΓ=>?_
 rw[eU]at h;obtain⟨y1,h2,h⟩:=aD h;cases h;exact((aU.a [.n 5]).g (B5 h2)).ret hΓ
def qM(aB:aO)(k1:aq->Option aO):aq->Nat->aq->Option aO
 | [],i1,eN=>(k1 eN)
 |bD::bZ,i1,eN=>((k9 bD).bind fun IL=>(bif room ((eN.map aQ.c).length+([[D.int .i64 IL.kind,D.str IL.pat.rel,D.sl (IL.pat.args.map tx),D.str IL.left,D.str IL.right]]).length) 80 then(qM aB k1 bZ (i1+1) (eN++([IL])))else none))
def ng(aB:aO)(fU:aq)(k2:c8->Option aO):c8->Nat->c8->Option aO
 | [],i2,pO=>(k2 pO)
 |lU::wg,i2,pO=>((eU lU.pat).bind fun y92=>(bif room ((pO.map Action.c).length+([[D.int .i64 lU.kind,D.str y92.rel,D.sl (y92.args.map tx)]]).length) 48 then(ng aB fU k2 wg (i2+1) (pO++([(⟨lU.kind,y92⟩:Action)])))else none))
def vR(aB:aO):Option aO:=(qM aB (fun(fU:aq)=>(ng aB fU (fun(CD:c8)=>(some (⟨aB.name,aB.prio,fU,CD⟩:aO))) aB.cu 0 ([]:c8))) aB.conds 0 ([]:aq))
def De(aB:aO)(W0:List aR)(cS:Int):St:=⟨[(1,D.ptr 0 0),(2,D.ptr 1 0),(3,D.ptr 2 0),(4,D.int .i64 cS)],[Ob.box (aO.c aB),Ob.box [D.str ([]),D.int .i64 0,D.nil,D.nil],Ob.box [D.str aB.name,D.int .i64 aB.prio,D.acc 3,D.nil],Ob.row .uq 115 5 W0]⟩
theorem NI(hΓ:Γ.nt=56){aB:aO}{r:aO}{k1:aq->Option aO}(cW:∀(fU:aq),k1 fU=some r->Ax Γ N f175 (.q [[none,none,some (115,5),some (199,3)]] (D.agg [D.str r.name,D.int .i64 r.prio,D.fr 115 5 (r.conds.map aQ.c),D.fr 199 3 (r.cu.map Action.c)])) [1,1,1] ⟨[(1,D.ptr 0 0),(2,D.ptr 1 0),(3,D.ptr 2 0)],[Ob.box (aO.c aB),Ob.box [D.str ([]),D.int .i64 0,D.nil,D.nil],Ob.box [D.str aB.name,D.int .i64 aB.prio,D.acc 3,D.nil],Ob.row .uq 115 5 (fU.map aQ.c)]⟩)(hm1:aB.conds.length<=maxLen):∀(rest:aq) (i1:Nat) (eN:aq),aB.conds.drop i1=rest->qM aB k1 rest i1 eN=some r->Ar Γ N f175 (.q [[none,none,some (115,5),some (199,3)]] (D.agg [D.str r.name,D.int .i64 r.prio,D.fr 115 5 (r.conds.map aQ.c),D.fr 199 3 (r.cu.map Action.c)])) [1,1,0,1,0] (rest.length+1) (De aB (eN.map aQ.c) (i1:Int)):=by
 intro rest
 induction rest with
 |nil=>
  intro i1 eN aj h;rw[qM]at h;refine aN fun N1 bw bg=>?_
  exact((aU.ge aQ.c aj).a [.hl 0 [1,2,3] [0,1,2,3]]).ex hΓ bw (cW eN h)
 |cons bD bZ ih1=>
  intro i1 eN aj h;rw[qM]at h;refine aN fun N1 bw bg=>?_
  obtain⟨IL,h46,h⟩:=aD h;obtain⟨h47,h⟩:=bV h;exact((((((aU.lt aQ.c aj).a [.n2 [0,1,2,3,4,5,6,7,8,9,10,11] [0,1,2,3,4,5,6,7,8,9,10,11] 8 9 [0,1] [4]]).l (ax aQ.c 5 (dc aj) rfl)).g (qV h46)).w (cB h47)).a [.cn [1,2,3,4] [0,1,2,6]]).cs hΓ bg (De aB ((eN.map aQ.c)++([[D.int .i64 IL.kind,D.str IL.pat.rel,D.sl (IL.pat.args.map tx),D.str IL.left,D.str IL.right]])) (IntKind.i64.wrap ((i1:Int)+1))) (by first| (simp only[iS aj hm1,mA]<;>rfl)| (simp only[iS aj hm1,mA,aE.c,aS.c,aQ.c,Action.c,aO.c,aI.c,cr.c,aP.c,Node.c,aF.c,cv.c]<;>rfl)) (ih1 (i1+1) (eN++([IL])) (dn aj) h)
def Df(aB:aO)(fU:aq)(W0:List aR)(cS:Int):St:=⟨[(1,D.ptr 0 0),(2,D.ptr 1 0),(3,D.ptr 2 0),(5,D.int .i64 cS)],[Ob.box (aO.c aB),Ob.box [D.str ([]),D.int .i64 0,D.nil,D.nil],Ob.box [D.str aB.name,D.int .i64 aB.prio,D.acc 3,D.acc 4],Ob.row .uq 115 5 (fU.map aQ.c),Ob.row .uq 199 3 W0]⟩
theorem NJ(hΓ:Γ.nt=56){aB:aO}{fU:aq}{r:aO}{k2:c8->Option aO}(Cf:∀(CD:c8),k2 CD=some r->Ax Γ N f175 (.q [[none,none,some (115,5),some (199,3)]] (D.agg [D.str r.name,D.int .i64 r.prio,D.fr 115 5 (r.conds.map aQ.c),D.fr 199 3 (r.cu.map Action.c)])) [1,1,1,1] ⟨[(2,D.ptr 0 0),(3,D.ptr 1 0)],[Ob.box [D.str ([]),D.int .i64 0,D.nil,D.nil],Ob.box [D.str aB.name,D.int .i64 aB.prio,D.acc 2,D.acc 3],Ob.row .uq 115 5 (fU.map aQ.c),Ob.row .uq 199 3 (CD.map Action.c)]⟩)(hm2:aB.cu.length<=maxLen):∀(rest:c8) (i2:Nat) (pO:c8),aB.cu.drop i2=rest->ng aB fU k2 rest i2 pO=some r->Ar Γ N f175 (.q [[none,none,some (115,5),some (199,3)]] (D.agg [D.str r.name,D.int .i64 r.prio,D.fr 115 5 (r.conds.map aQ.c),D.fr 199 3 (r.cu.map Action.c)])) [1,1,1,0,1,0] (rest.length+1) (Df aB fU (pO.map Action.c) (i2:Int)):=by
 intro rest
 induction rest with
 |nil=>
  intro i2 pO hd2 h;rw[ng]at h;refine aN fun N2 xa ur=>?_
  exact((aU.ge Action.c hd2).a [.hl 0 [2,3] [1,2,3,4]]).ex hΓ xa (Cf pO h)
 |cons lU wg ih2=>
  intro i2 pO hd2 h;rw[ng]at h;refine aN fun N2 xa ur=>?_
  obtain⟨y92,h93,h⟩:=aD h;obtain⟨h94,h⟩:=bV h;exact(((((((aU.lt Action.c hd2).a [.n2 [0,1,2,3,4,5,6,7,8,9,10,11,12,13,14,15,16,17,18,19] [0,1,2,3,4,5,6,7,8,9,10,11,12,13,14,15,16,17,18,19] 16 17 [0,1] [5]]).l (ax Action.c 3 (dc hd2) rfl)).l (ax Action.c 3 (dc hd2) rfl)).g (x8 h93)).w (cB h94)).a [.cn [1,2,3,5] [0,1,2,3,7]]).cs hΓ ur (Df aB fU ((pO.map Action.c)++([[D.int .i64 lU.kind,D.str y92.rel,D.sl (y92.args.map tx)]])) (IntKind.i64.wrap ((i2:Int)+1))) (by first| (simp only[iS hd2 hm2,mA]<;>rfl)| (simp only[iS hd2 hm2,mA,aE.c,aS.c,aQ.c,Action.c,aO.c,aI.c,cr.c,aP.c,Node.c,aF.c,cv.c]<;>rfl)) (ih2 (i2+1) (pO++([(⟨lU.kind,y92⟩:Action)])) (dn hd2) h)
theorem Lz{aB:aO}{r:aO}(h:vR aB=some r):Good prog 175 [D.agg (aO.c aB)] (D.agg [D.str r.name,D.int .i64 r.prio,D.fr 115 5 (r.conds.map aQ.c),D.fr 199 3 (r.cu.map Action.c)]):=by
 refine gd func175 [[none,none,some (115,5),some (199,3)]] 56 fun hr Γ hΓ=>?_
 rw[vR]at h;refine(aU.a [.pb 2 2 115 5,.cn [1,2,3,4] [0,1,2,3]]).lp hΓ (NI hΓ (fun fU h=>?_) (by have:=(dW.sl (dW.agg (hr _ (aC (i:=0) rfl)) (.sl (aB.conds.map aQ.c)) (by simp))).1;simpa using this) aB.conds 0 ([]:aq) rfl h);refine(aU.a [.pb 2 3 199 3,.cn [1,2,3,5] [0,1,2,3,4]]).lp hΓ (NJ hΓ (fun CD h=>?_) (by have:=(dW.sl (dW.agg (hr _ (aC (i:=0) rfl)) (.sl (aB.cu.map Action.c)) (by simp))).1;simpa using this) aB.cu 0 ([]:c8) rfl h);cases h;exact aU.ret hΓ
def nc(aB:ar)(k1:ar->Option ar):ar->Nat->ar->Option ar
 | [],i1,bC=>(k1 bC)
 |bD::bZ,i1,bC=>((vR bD).bind fun q8=>(bif room ((bC.map aO.c).length+([[D.str q8.name,D.int .i64 q8.prio,D.sl (q8.conds.map aQ.c),D.sl (q8.cu.map Action.c)]]).length) 72 then(nc aB k1 bZ (i1+1) (bC++([q8])))else none))
def rB(aB:ar):Option ar:=(nc aB (fun(bP:ar)=>(some bP)) aB 0 ([]:ar))
def C1(aB:ar)(W0:List aR)(cS:Int):St:=⟨[(0,D.sl (aB.map aO.c)),(3,D.acc 0),(4,D.int .i64 cS)],[Ob.row .uq 105 4 W0]⟩
theorem K1(hΓ:Γ.nt=21){aB:ar}{r:ar}{k1:ar->Option ar}(cW:∀(bP:ar),k1 bP=some r->Ax Γ N f102 (.q [[some (105,4)]] (D.fr 105 4 (r.map aO.c))) [1,1,1] ⟨[(3,D.acc 0)],[Ob.row .uq 105 4 (bP.map aO.c)]⟩)(hm1:aB.length<=maxLen):∀(rest:ar) (i1:Nat) (bC:ar),aB.drop i1=rest->nc aB k1 rest i1 bC=some r->Ar Γ N f102 (.q [[some (105,4)]] (D.fr 105 4 (r.map aO.c))) [1,1,0,1,0] (rest.length+1) (C1 aB (bC.map aO.c) (i1:Int)):=by
 intro rest
 induction rest with
 |nil=>
  intro i1 bC aj h;rw[nc]at h;refine aN fun N1 bw bg=>?_
  exact((aU.ge aO.c aj).a [.hl 0 [3] [0]]).ex hΓ bw (cW bC h)
 |cons bD bZ ih1=>
  intro i1 bC aj h;rw[nc]at h;refine aN fun N1 bw bg=>?_
  obtain⟨q8,h28,h⟩:=aD h;obtain⟨h29,h⟩:=bV h;exact(((((aU.lt aO.c aj).l (ax aO.c 4 (dc aj) rfl)).g (Lz h28)).w (cB h29)).a [.cn [0,3,4] [4]]).cs hΓ bg (C1 aB ((bC.map aO.c)++([[D.str q8.name,D.int .i64 q8.prio,D.sl (q8.conds.map aQ.c),D.sl (q8.cu.map Action.c)]])) (IntKind.i64.wrap ((i1:Int)+1))) (by first| (simp only[iS aj hm1,mA]<;>rfl)| (simp only[iS aj hm1,mA,aE.c,aS.c,aQ.c,Action.c,aO.c,aI.c,cr.c,aP.c,Node.c,aF.c,cv.c]<;>rfl)) (ih1 (i1+1) (bC++([q8])) (dn aj) h)
theorem AG{aB:ar}{r:ar}(h:rB aB=some r):Good prog 102 [D.sl (aB.map aO.c)] (D.fr 105 4 (r.map aO.c)):=by
 refine gd func102 [[some (105,4)]] 21 fun hr Γ hΓ=>?_
 rw[rB]at h;refine(aU.a [.cn [0,3,4] [0]]).lp hΓ (K1 hΓ (fun bP h=>?_) (by have:=(dW.sl (hr _ (aC (i:=0) rfl))).1;simpa using this) aB 0 ([]:ar) rfl h);have h:=aG h;subst h;exact aU.ret hΓ
def xY(aB:bI):Option bI:=(bif room (([]:List aR).length+(aB.map dL).length) 8 then(some (([]:bI)++aB))else none)
theorem Lx{aB:bI}{r:bI}(h:xY aB=some r):Good prog 103 [D.sl (aB.map dL)] (D.fr 3 1 (r.map dL)):=by
 refine gd func103 [[some (3,1)]] 6 fun hr Γ hΓ=>?_
 rw[xY]at h;obtain⟨h1,h⟩:=bV h;cases h;exact(((aU.w (cB h1)).w (show(∀r∈(aB.map dL),r.length=1)/\(true=true->D.oB (aB.map dL)=true)from⟨by first|simp| (intro r hr;obtain⟨x,_,rfl⟩:=cJ.1 (cH (gO hr));rfl),by simp[D.oB,D.flat]⟩)).a [.Pk 2,.fl true]).rts hΓ (D.fr 3 1 (([]:List aR)++(aB.map dL))) (by first|rfl| (simp only[mA]<;>rfl))
def ez(aB:aE):Option aE:=((tX aB.args).bind fun y1=>(some (⟨aB.rel,y1⟩:aE)))
theorem gm{aB:aE}{r:aE}(h:ez aB=some r):Good prog 152 [D.agg (aE.c aB)] (D.agg [D.str r.rel,D.fr 9 1 (r.args.map tx)]):=by
 refine gd func152 [[none,some (9,1)]] 9 fun hr Γ hΓ=>?_
 rw[ez]at h;obtain⟨y1,h2,h⟩:=aD h;cases h;exact((aU.a [.n 5]).g (B5 h2)).ret hΓ
def nZ(aB:aK)(k1:aK->Option aK):aK->Nat->aK->Option aK
 | [],i1,bC=>(k1 bC)
 |bD::bZ,i1,bC=>((ez bD).bind fun q8=>(bif room ((bC.map aE.c).length+([[D.str q8.rel,D.sl (q8.args.map tx)]]).length) 40 then(nZ aB k1 bZ (i1+1) (bC++([q8])))else none))
def dU(aB:aK):Option aK:=(nZ aB (fun(bP:aK)=>(some bP)) aB 0 ([]:aK))
def Bz(aB:aK)(W0:List aR)(cS:Int):St:=⟨[(0,D.sl (aB.map aE.c)),(3,D.acc 0),(4,D.int .i64 cS)],[Ob.row .uq 53 2 W0]⟩
theorem Jy(hΓ:Γ.nt=21){aB:aK}{r:aK}{k1:aK->Option aK}(cW:∀(bP:aK),k1 bP=some r->Ax Γ N f93 (.q [[some (53,2)]] (D.fr 53 2 (r.map aE.c))) [1,1,1] ⟨[(3,D.acc 0)],[Ob.row .uq 53 2 (bP.map aE.c)]⟩)(hm1:aB.length<=maxLen):∀(rest:aK) (i1:Nat) (bC:aK),aB.drop i1=rest->nZ aB k1 rest i1 bC=some r->Ar Γ N f93 (.q [[some (53,2)]] (D.fr 53 2 (r.map aE.c))) [1,1,0,1,0] (rest.length+1) (Bz aB (bC.map aE.c) (i1:Int)):=by
 intro rest
 induction rest with
 |nil=>
  intro i1 bC aj h;rw[nZ]at h;refine aN fun N1 bw bg=>?_
  exact((aU.ge aE.c aj).a [.hl 0 [3] [0]]).ex hΓ bw (cW bC h)
 |cons bD bZ ih1=>
  intro i1 bC aj h;rw[nZ]at h;refine aN fun N1 bw bg=>?_
  obtain⟨q8,h28,h⟩:=aD h;obtain⟨h29,h⟩:=bV h;exact(((((aU.lt aE.c aj).l (ax aE.c 2 (dc aj) rfl)).g (gm h28)).w (cB h29)).a [.cn [0,3,4] [3]]).cs hΓ bg (Bz aB ((bC.map aE.c)++([[D.str q8.rel,D.sl (q8.args.map tx)]])) (IntKind.i64.wrap ((i1:Int)+1))) (by first| (simp only[iS aj hm1,mA]<;>rfl)| (simp only[iS aj hm1,mA,aE.c,aS.c,aQ.c,Action.c,aO.c,aI.c,cr.c,aP.c,Node.c,aF.c,cv.c]<;>rfl)) (ih1 (i1+1) (bC++([q8])) (dn aj) h)
theorem fJ{aB:aK}{r:aK}(h:dU aB=some r):Good prog 93 [D.sl (aB.map aE.c)] (D.fr 53 2 (r.map aE.c)):=by
 refine gd func93 [[some (53,2)]] 21 fun hr Γ hΓ=>?_
 rw[dU]at h;refine(aU.a [.cn [0,3,4] [0]]).lp hΓ (Jy hΓ (fun bP h=>?_) (by have:=(dW.sl (hr _ (aC (i:=0) rfl))).1;simpa using this) aB 0 ([]:aK) rfl h);have h:=aG h;subst h;exact aU.ret hΓ
def sE(aB:aT):Option aT:=(bif room (([]:List aR).length+(aB.map aS.c).length) 32 then(some (([]:aT)++aB))else none)
theorem yD{aB:aT}{r:aT}(h:sE aB=some r):Good prog 227 [D.sl (aB.map aS.c)] (D.fr 152 2 (r.map aS.c)):=by
 refine gd func227 [[some (152,2)]] 6 fun hr Γ hΓ=>?_
 rw[sE]at h;obtain⟨h1,h⟩:=bV h;cases h;exact(((aU.w (cB h1)).w (show(∀r∈(aB.map aS.c),r.length=2)/\(true=true->D.oB (aB.map aS.c)=true)from⟨by first|simp| (intro r hr;obtain⟨x,_,rfl⟩:=cJ.1 (cH (gO hr));rfl),by simp[D.oB,D.flat]⟩)).a [.Pk 2,.fl true]).rts hΓ (D.fr 152 2 (([]:List aR)++(aB.map aS.c))) (by first|rfl| (simp only[mA]<;>rfl))
def sF(aB:aI):Option aI:=((dU aB.facts).bind fun y1=>((sE aB.bind).bind fun y3=>(some (⟨y1,y3⟩:aI))))
theorem C2{aB:aI}{r:aI}(h:sF aB=some r):Good prog 178 [D.agg (aI.c aB)] (D.agg [D.fr 53 2 (r.facts.map aE.c),D.fr 152 2 (r.bind.map aS.c)]):=by
 refine gd func178 [[some (53,2),some (152,2)]] 10 fun hr Γ hΓ=>?_
 rw[sF]at h;obtain⟨y1,h2,h⟩:=aD h;obtain⟨y3,h4,h⟩:=aD h;cases h;exact(((aU.a [.n 5]).g (fJ h2)).g (yD h4)).ret hΓ
def jU(aB:ah)(k1:ah->Option ah):ah->Nat->ah->Option ah
 | [],i1,bC=>(k1 bC)
 |bD::bZ,i1,bC=>((sF bD).bind fun q8=>(bif room ((bC.map aI.c).length+([[D.sl (q8.facts.map aE.c),D.sl (q8.bind.map aS.c)]]).length) 48 then(jU aB k1 bZ (i1+1) (bC++([q8])))else none))
def js(aB:ah):Option ah:=(jU aB (fun(bP:ah)=>(some bP)) aB 0 ([]:ah))
def yq(aB:ah)(W0:List aR)(cS:Int):St:=⟨[(0,D.sl (aB.map aI.c)),(3,D.acc 0),(4,D.int .i64 cS)],[Ob.row .uq 124 2 W0]⟩
theorem Dj(hΓ:Γ.nt=21){aB:ah}{r:ah}{k1:ah->Option ah}(cW:∀(bP:ah),k1 bP=some r->Ax Γ N f106 (.q [[some (124,2)]] (D.fr 124 2 (r.map aI.c))) [1,1,1] ⟨[(3,D.acc 0)],[Ob.row .uq 124 2 (bP.map aI.c)]⟩)(hm1:aB.length<=maxLen):∀(rest:ah) (i1:Nat) (bC:ah),aB.drop i1=rest->jU aB k1 rest i1 bC=some r->Ar Γ N f106 (.q [[some (124,2)]] (D.fr 124 2 (r.map aI.c))) [1,1,0,1,0] (rest.length+1) (yq aB (bC.map aI.c) (i1:Int)):=by
 intro rest
 induction rest with
 |nil=>
  intro i1 bC aj h;rw[jU]at h;refine aN fun N1 bw bg=>?_
  exact((aU.ge aI.c aj).a [.hl 0 [3] [0]]).ex hΓ bw (cW bC h)
 |cons bD bZ ih1=>
  intro i1 bC aj h;rw[jU]at h;refine aN fun N1 bw bg=>?_
  obtain⟨q8,h28,h⟩:=aD h;obtain⟨h29,h⟩:=bV h;exact(((((aU.lt aI.c aj).l (ax aI.c 2 (dc aj) rfl)).g (C2 h28)).w (cB h29)).a [.cn [0,3,4] [4]]).cs hΓ bg (yq aB ((bC.map aI.c)++([[D.sl (q8.facts.map aE.c),D.sl (q8.bind.map aS.c)]])) (IntKind.i64.wrap ((i1:Int)+1))) (by first| (simp only[iS aj hm1,mA]<;>rfl)| (simp only[iS aj hm1,mA,aE.c,aS.c,aQ.c,Action.c,aO.c,aI.c,cr.c,aP.c,Node.c,aF.c,cv.c]<;>rfl)) (ih1 (i1+1) (bC++([q8])) (dn aj) h)
theorem D0{aB:ah}{r:ah}(h:js aB=some r):Good prog 106 [D.sl (aB.map aI.c)] (D.fr 124 2 (r.map aI.c)):=by
 refine gd func106 [[some (124,2)]] 21 fun hr Γ hΓ=>?_
 rw[js]at h;refine(aU.a [.cn [0,3,4] [0]]).lp hΓ (Dj hΓ (fun bP h=>?_) (by have:=(dW.sl (hr _ (aC (i:=0) rfl))).1;simpa using this) aB 0 ([]:ah) rfl h);have h:=aG h;subst h;exact aU.ret hΓ
def nj(aB:aF)(y1:ar)(y3:bI)(y5:aK)(k1:b7->Option aF):b7->Nat->b7->Option aF
 | [],i1,iU=>(k1 iU)
 |bD::bZ,i1,iU=>((eU bD.shape).bind fun MM=>((dU bD.facts).bind fun y75=>(bif room ((iU.map aP.c).length+([[D.str MM.rel,D.sl (MM.args.map tx),D.sl (y75.map aE.c)]]).length) 64 then(nj aB y1 y3 y5 k1 bZ (i1+1) (iU++([(⟨MM,y75⟩:aP)])))else none)))
def nk(aB:aF)(y1:ar)(y3:bI)(y5:aK)(nu:b7)(k2:ay->Option aF):ay->Nat->ay->Option aF
 | [],i2,wv=>(k2 wv)
 |lU::wg,i2,wv=>((k9 lU.cond).bind fun DA=>((js lU.tokens).bind fun a3k=>(bif room ((wv.map Node.c).length+([[D.int .i64 lU.parent,D.int .i64 DA.kind,D.str DA.pat.rel,D.sl (DA.pat.args.map tx),D.str DA.left,D.str DA.right,D.int .i64 lU.cP,D.sl (a3k.map aI.c)]]).length) 120 then(nk aB y1 y3 y5 nu k2 wg (i2+1) (wv++([(⟨lU.parent,DA,lU.cP,a3k⟩:Node)])))else none)))
def pq(aB:aF):Option aF:=((rB aB.rules).bind fun y1=>((xY aB.ends).bind fun y3=>((dU aB.facts).bind fun y5=>(nj aB y1 y3 y5 (fun(nu:b7)=>(nk aB y1 y3 y5 nu (fun(vi:ay)=>(some (⟨y1,y3,nu,vi,y5,aB.bz⟩:aF))) aB.nodes 0 ([]:ay))) aB.av 0 ([]:b7)))))
def Dk(aB:aF)(y1:ar)(y3:bI)(y5:aK)(W0:List aR)(cS:Int):St:=⟨[(1,D.ptr 0 0),(2,D.ptr 1 0),(3,D.ptr 2 0),(4,D.int .i64 cS)],[Ob.box (aF.c aB),Ob.box [D.nil,D.nil,D.nil,D.nil,D.nil,D.int .i64 0],Ob.box [D.acc 3,D.acc 4,D.acc 5,D.nil,D.acc 6,D.int .i64 aB.bz],Ob.row .uq 105 4 (y1.map aO.c),Ob.row .uq 3 1 (y3.map dL),Ob.row .uq 111 3 W0,Ob.row .uq 53 2 (y5.map aE.c)]⟩
theorem NO(hΓ:Γ.nt=75){aB:aF}{y1:ar}{y3:bI}{y5:aK}{r:aF}{k1:b7->Option aF}(cW:∀(nu:b7),k1 nu=some r->Ax Γ N f49 (.q [[some (105,4),some (3,1),some (111,3),some (118,8),some (53,2),none]] (D.agg [D.fr 105 4 (r.rules.map aO.c),D.fr 3 1 (r.ends.map dL),D.fr 111 3 (r.av.map aP.c),D.fr 118 8 (r.nodes.map Node.c),D.fr 53 2 (r.facts.map aE.c),D.int .i64 r.bz])) [1,1,1] ⟨[(1,D.ptr 0 0),(2,D.ptr 1 0),(3,D.ptr 2 0)],[Ob.box (aF.c aB),Ob.box [D.nil,D.nil,D.nil,D.nil,D.nil,D.int .i64 0],Ob.box [D.acc 3,D.acc 4,D.acc 5,D.nil,D.acc 6,D.int .i64 aB.bz],Ob.row .uq 105 4 (y1.map aO.c),Ob.row .uq 3 1 (y3.map dL),Ob.row .uq 111 3 (nu.map aP.c),Ob.row .uq 53 2 (y5.map aE.c)]⟩)(hm1:aB.av.length<=maxLen):∀(rest:b7) (i1:Nat) (iU:b7),aB.av.drop i1=rest->nj aB y1 y3 y5 k1 rest i1 iU=some r->Ar Γ N f49 (.q [[some (105,4),some (3,1),some (111,3),some (118,8),some (53,2),none]] (D.agg [D.fr 105 4 (r.rules.map aO.c),D.fr 3 1 (r.ends.map dL),D.fr 111 3 (r.av.map aP.c),D.fr 118 8 (r.nodes.map Node.c),D.fr 53 2 (r.facts.map aE.c),D.int .i64 r.bz])) [1,1,0,1,0] (rest.length+1) (Dk aB y1 y3 y5 (iU.map aP.c) (i1:Int)):=by
 intro rest
 induction rest with
 |nil=>
  intro i1 iU aj h;rw[nj]at h;refine aN fun N1 bw bg=>?_
  exact((aU.ge aP.c aj).a [.hl 0 [1,2,3] [0,1,2,3,4,5,6]]).ex hΓ bw (cW iU h)
 |cons bD bZ ih1=>
  intro i1 iU aj h;rw[nj]at h;refine aN fun N1 bw bg=>?_
  obtain⟨MM,h74,h⟩:=aD h;obtain⟨y75,h76,h⟩:=aD h;obtain⟨h77,h⟩:=bV h;exact((((((((aU.lt aP.c aj).a [.n2 [0,1,2,3,4,5,6,7,8,9,10,11,12,13,14,15,16,17,18,19,20] [0,1,2,3,4,5,6,7,8,9,10,11,12,13,14,15,16,17,18,19,20] 17 18 [0,1] [7,8]]).l (ax aP.c 3 (dc aj) rfl)).g (x8 h74)).l (ax aP.c 3 (dc aj) rfl)).g (fJ h76)).w (cB h77)).a [.cn [1,2,3,4] [0,1,2,3,4,10,6]]).cs hΓ bg (Dk aB y1 y3 y5 ((iU.map aP.c)++([[D.str MM.rel,D.sl (MM.args.map tx),D.sl (y75.map aE.c)]])) (IntKind.i64.wrap ((i1:Int)+1))) (by first| (simp only[iS aj hm1,mA]<;>rfl)| (simp only[iS aj hm1,mA,aE.c,aS.c,aQ.c,Action.c,aO.c,aI.c,cr.c,aP.c,Node.c,aF.c,cv.c]<;>rfl)) (ih1 (i1+1) (iU++([(⟨MM,y75⟩:aP)])) (dn aj) h)
def Dl(aB:aF)(y1:ar)(y3:bI)(y5:aK)(nu:b7)(W0:List aR)(cS:Int):St:=⟨[(1,D.ptr 0 0),(2,D.ptr 1 0),(3,D.ptr 2 0),(5,D.int .i64 cS)],[Ob.box (aF.c aB),Ob.box [D.nil,D.nil,D.nil,D.nil,D.nil,D.int .i64 0],Ob.box [D.acc 3,D.acc 4,D.acc 5,D.acc 6,D.acc 7,D.int .i64 aB.bz],Ob.row .uq 105 4 (y1.map aO.c),Ob.row .uq 3 1 (y3.map dL),Ob.row .uq 111 3 (nu.map aP.c),Ob.row .uq 118 8 W0,Ob.row .uq 53 2 (y5.map aE.c)]⟩
theorem NP(hΓ:Γ.nt=75){aB:aF}{y1:ar}{y3:bI}{y5:aK}{nu:b7}{r:aF}{k2:ay->Option aF}(Cf:∀(vi:ay),k2 vi=some r->Ax Γ N f49 (.q [[some (105,4),some (3,1),some (111,3),some (118,8),some (53,2),none]] (D.agg [D.fr 105 4 (r.rules.map aO.c),D.fr 3 1 (r.ends.map dL),D.fr 111 3 (r.av.map aP.c),D.fr 118 8 (r.nodes.map Node.c),D.fr 53 2 (r.facts.map aE.c),D.int .i64 r.bz])) [1,1,1,1] ⟨[(2,D.ptr 0 0),(3,D.ptr 1 0)],[Ob.box [D.nil,D.nil,D.nil,D.nil,D.nil,D.int .i64 0],Ob.box [D.acc 2,D.acc 3,D.acc 4,D.acc 5,D.acc 6,D.int .i64 aB.bz],Ob.row .uq 105 4 (y1.map aO.c),Ob.row .uq 3 1 (y3.map dL),Ob.row .uq 111 3 (nu.map aP.c),Ob.row .uq 118 8 (vi.map Node.c),Ob.row .uq 53 2 (y5.map aE.c)]⟩)(hm2:aB.nodes.length<=maxLen):∀(rest:ay) (i2:Nat) (wv:ay),aB.nodes.drop i2=rest->nk aB y1 y3 y5 nu k2 rest i2 wv=some r->Ar Γ N f49 (.q [[some (105,4),some (3,1),some (111,3),some (118,8),some (53,2),none]] (D.agg [D.fr 105 4 (r.rules.map aO.c),D.fr 3 1 (r.ends.map dL),D.fr 111 3 (r.av.map aP.c),D.fr 118 8 (r.nodes.map Node.c),D.fr 53 2 (r.facts.map aE.c),D.int .i64 r.bz])) [1,1,1,0,1,0] (rest.length+1) (Dl aB y1 y3 y5 nu (wv.map Node.c) (i2:Int)):=by
 intro rest
 induction rest with
 |nil=>
  intro i2 wv hd2 h;rw[nk]at h;refine aN fun N2 xa ur=>?_
  exact((aU.ge Node.c hd2).a [.hl 0 [2,3] [1,2,3,4,5,6,7]]).ex hΓ xa (Cf wv h)
 |cons lU wg ih2=>
  intro i2 wv hd2 h;rw[nk]at h;refine aN fun N2 xa ur=>?_
  obtain⟨DA,h139,h⟩:=aD h;obtain⟨a3k,h141,h⟩:=aD h;obtain⟨h142,h⟩:=bV h;exact(((((((aU.lt Node.c hd2).l (ax Node.c 8 (dc hd2) rfl)).a [.n2 [0,1,2,3,4,5,6,7,8,9,10,11,12,13,14,15,16] [0,1,2,3,4,5,6,7,8,9,10,11,12,13,14,15,16] 13 14 [0,1] [9,10]]).g (qV h139)).g (D0 h141)).w (cB h142)).a [.cn [1,2,3,5] [0,1,2,3,4,5,12,7]]).cs hΓ ur (Dl aB y1 y3 y5 nu ((wv.map Node.c)++([[D.int .i64 lU.parent,D.int .i64 DA.kind,D.str DA.pat.rel,D.sl (DA.pat.args.map tx),D.str DA.left,D.str DA.right,D.int .i64 lU.cP,D.sl (a3k.map aI.c)]])) (IntKind.i64.wrap ((i2:Int)+1))) (by first| (simp only[iS hd2 hm2,mA]<;>rfl)| (simp only[iS hd2 hm2,mA,aE.c,aS.c,aQ.c,Action.c,aO.c,aI.c,cr.c,aP.c,Node.c,aF.c,cv.c]<;>rfl)) (ih2 (i2+1) (wv++([(⟨lU.parent,DA,lU.cP,a3k⟩:Node)])) (dn hd2) h)
theorem uE{aB:aF}{r:aF}(h:pq aB=some r):Good prog 49 [D.agg (aF.c aB)] (D.agg [D.fr 105 4 (r.rules.map aO.c),D.fr 3 1 (r.ends.map dL),D.fr 111 3 (r.av.map aP.c),D.fr 118 8 (r.nodes.map Node.c),D.fr 53 2 (r.facts.map aE.c),D.int .i64 r.bz]):=by
 refine gd func49 [[some (105,4),some (3,1),some (111,3),some (118,8),some (53,2),none]] 75 fun hr Γ hΓ=>?_
 rw[pq]at h;obtain⟨y1,h2,h⟩:=aD h;obtain⟨y3,h4,h⟩:=aD h;obtain⟨y5,h6,h⟩:=aD h;refine(((((aU.a [.n 13]).g (AG h2)).g (Lx h4)).g (fJ h6)).a [.pb 5 2 111 3,.cn [1,2,3,4] [0,1,5,2,3,6,4]]).lp hΓ (NO hΓ (fun nu h=>?_) (by have:=(dW.sl (dW.agg (hr _ (aC (i:=0) rfl)) (.sl (aB.av.map aP.c)) (by simp))).1;simpa using this) aB.av 0 ([]:b7) rfl h);refine(aU.a [.pb 2 3 118 8,.cn [1,2,3,5] [0,1,2,3,4,5,7,6]]).lp hΓ (NP hΓ (fun vi h=>?_) (by have:=(dW.sl (dW.agg (hr _ (aC (i:=0) rfl)) (.sl (aB.nodes.map Node.c)) (by simp))).1;simpa using this) aB.nodes 0 ([]:ay) rfl h);cases h;exact aU.ret hΓ
def lI(aB:Int)(aV:Int)(cX:Int):Option Bool:=(bif decide ((aB:Int)>=aV)then(some (decide ((aB:Int)<=cX)))else(some false))
theorem gH{aB:Int}{aV:Int}{cX:Int}{r:Bool}(h:lI aB aV cX=some r):Good prog 155 [D.int .i64 aB,D.int .i64 aV,D.int .i64 cX] (D.bool r):=by
 refine gd func155 [[none]] 15 fun hr Γ hΓ=>?_
 rw[lI]at h;obtain⟨h1,h⟩|⟨h1,h⟩:=aL h
 ·cases h;exact(aU.r 4 h1).ret hΓ
 ·have h:=aG h;subst h;exact(aU.r 4 h1).ret hΓ
def jP(aB:Bytes)(k1:Option Bool):Nat->Int->Option Bool
 |0,_=>none
 |n1+1,nv=>(bif decide ((nv:Int)<(aB.length:Int))then((mJ aB nv).bind fun b29=>((lI (IntKind.i64.wrap b29.toNat) 97 122).bind fun Z5=>(bif !(Z5)then((lI (IntKind.i64.wrap b29.toNat) 48 57).bind fun GF=>(bif !(GF)then(some false)else(jP aB k1 n1 (IntKind.i64.wrap (nv+1)))))else(jP aB k1 n1 (IntKind.i64.wrap (nv+1))))))else(k1))
def fT(aB:Bytes):Option Bool:=(jP aB ((lI (aB.length:Int) 1 8).bind fun Y1=>(some Y1)) fuel 0)
def ON(aB:Bytes)(nv:Int):St:=⟨[(0,D.str aB),(3,D.int .i64 nv)],[]⟩
theorem Mz(hΓ:Γ.nt=27){aB:Bytes}{r:Bool}{k1:Option Bool}(cW:k1=some r->Ax Γ N f206 (.q [[none]] (D.bool r)) [1,1] ⟨[(0,D.str aB)],[]⟩):∀(n1:Nat) (nv:Int),jP aB k1 n1 nv=some r->Ar Γ N f206 (.q [[none]] (D.bool r)) [1,0,1,0] n1 (ON aB nv):=by
 intro n
 induction n with
 |zero=>intro nv h;simp[jP]at h
 |succ n1 ih1=>
  intro nv h;rw[jP]at h;refine aN fun N1 bw bg=>?_
  obtain⟨h28,h⟩|⟨h28,h⟩:=aL h
  ·obtain⟨b29,h30,h⟩:=aD h;obtain⟨Z5,h32,h⟩:=aD h;have ja:=(((aU.b h28).c h30).g (gH h32))
   obtain⟨h33,h⟩|⟨h33,h⟩:=aL h
   ·obtain⟨GF,h35,h⟩:=aD h;have iY:=(((((ja.r 3 h33).c h30).r 2 h33).g (gH h35)).r 2 h33)
    obtain⟨h36,h⟩|⟨h36,h⟩:=aL h
    ·have h:=aG h;subst h;exact(iY.b h36).ret hΓ
    ·exact((iY.b h36).a [.cn [0,3] []]).cf hΓ bg (ih1 (IntKind.i64.wrap (nv+1)) h)
   ·exact(((ja.r 7 h33).F 1).a [.cn [0,3] []]).cf hΓ bg (ih1 (IntKind.i64.wrap (nv+1)) h)
  ·exact((aU.b h28).a [.hl 0 [0] []]).ex hΓ bw (cW h)
theorem eb{aB:Bytes}{r:Bool}(h:fT aB=some r):Good prog 206 [D.str aB] (D.bool r):=by
 refine gd func206 [[none]] 27 fun hr Γ hΓ=>?_
 rw[fT]at h;refine(aU.a [.cn [0,3] []]).lp hΓ (Mz hΓ (fun h=>?_) fuel 0 h);obtain⟨Y1,h38,h⟩:=aD h;have h:=aG h;subst h;exact(aU.g (gH h38)).ret hΓ
def sA(aB:Bytes):Option Bool:=((fT aB).bind fun y1=>(bif y1 then((mJ aB 0).bind fun b4=>((lI (IntKind.i64.wrap b4.toNat) 97 122).bind fun y6=>(some y6)))else(some false)))
theorem nU{aB:Bytes}{r:Bool}(h:sA aB=some r):Good prog 207 [D.str aB] (D.bool r):=by
 refine gd func207 [[none]] 11 fun hr Γ hΓ=>?_
 rw[sA]at h;obtain⟨y1,h2,h⟩:=aD h;obtain⟨h3,h⟩|⟨h3,h⟩:=aL h
 ·obtain⟨b4,h5,h⟩:=aD h;obtain⟨y6,h7,h⟩:=aD h;have h:=aG h;subst h;exact((((((aU.g (eb h2)).r 2 h3).c h5).r 2 h3).g (gH h7)).b h3).ret hΓ
 ·have h:=aG h;subst h;exact((aU.g (eb h2)).r 5 h3).ret hΓ
def qL(aB:aE)(k1:Option Bool):aJ->Nat->Option Bool
 | [],i1=>(k1)
 |bD::bZ,i1=>((fT bD).bind fun RZ=>(bif !(RZ)then(some false)else(qL aB k1 bZ (i1+1))))
def pg(aB:aE):Option Bool:=(qL aB ((sA aB.rel).bind fun Rx=>(bif Rx then(some (decide ((((aB.args.map tx).length:Int):Int)<=3)))else(some false))) aB.args 0)
def OO(aB:aE)(cS:Int):St:=⟨[(1,D.ptr 0 0),(3,D.int .i64 cS)],[Ob.box (aE.c aB)]⟩
theorem N6(hΓ:Γ.nt=27){aB:aE}{r:Bool}{k1:Option Bool}(cW:k1=some r->Ax Γ N f138 (.q [[none]] (D.bool r)) [1,1] ⟨[(1,D.ptr 0 0)],[Ob.box (aE.c aB)]⟩)(hm1:aB.args.length<=maxLen):∀(rest:aJ) (i1:Nat),aB.args.drop i1=rest->qL aB k1 rest i1=some r->Ar Γ N f138 (.q [[none]] (D.bool r)) [1,0,1,0] (rest.length+1) (OO aB (i1:Int)):=by
 intro rest
 induction rest with
 |nil=>
  intro i1 aj h;rw[qL]at h;refine aN fun N1 bw bg=>?_
  exact((aU.ge tx aj).a [.hl 0 [1] [0]]).ex hΓ bw (cW h)
 |cons bD bZ ih1=>
  intro i1 aj h;rw[qL]at h;refine aN fun N1 bw bg=>?_
  obtain⟨RZ,h22,h⟩:=aD h;have dJ:=(((aU.lt tx aj).l (ax tx 1 (dc aj) rfl)).g (eb h22))
  obtain⟨h23,h⟩|⟨h23,h⟩:=aL h
  ·have h:=aG h;subst h;exact(dJ.b h23).ret hΓ
  ·exact((dJ.b h23).a [.cn [1,3] [0]]).ct hΓ bg (iS aj hm1) (ih1 (i1+1) (dn aj) h)
theorem yC{aB:aE}{r:Bool}(h:pg aB=some r):Good prog 138 [D.agg (aE.c aB)] (D.bool r):=by
 refine gd func138 [[none]] 27 fun hr Γ hΓ=>?_
 rw[pg]at h;refine(aU.a [.cn [1,3] [0]]).lp hΓ (N6 hΓ (fun h=>?_) (by have:=(dW.sl (dW.agg (hr _ (aC (i:=0) rfl)) (.sl (aB.args.map tx)) (by simp))).1;simpa using this) aB.args 0 rfl h);obtain⟨Rx,h25,h⟩:=aD h;obtain⟨h26,h⟩|⟨h26,h⟩:=aL h
 ·cases h;exact((aU.g (nU h25)).r 5 h26).ret hΓ
 ·have h:=aG h;subst h;exact((aU.g (nU h25)).r 5 h26).ret hΓ
def uC(aB:Bytes)(aV:Bytes):Option Int:=(bif Op.bytesLess aB aV then(some (-1))else(bif !(Op.bytesLess aB aV||(aB:Bytes)==aV)then(some 1)else(some 0)))
theorem ym{aB:Bytes}{aV:Bytes}{r:Int}(h:uC aB aV=some r):Good prog 208 [D.str aB,D.str aV] (D.int .i64 r):=by
 refine gd func208 [[none]] 13 fun hr Γ hΓ=>?_
 rw[uC]at h;obtain⟨h1,h⟩|⟨h1,h⟩:=aL h
 ·cases h;exact(aU.b h1).ret hΓ
 ·obtain⟨h2,h⟩|⟨h2,h⟩:=aL h
  ·have h:=aG h;subst h;exact((aU.b h1).b h2).ret hΓ
  ·have h:=aG h;subst h;exact((aU.b h1).b h2).ret hΓ
def iO(k1:Option Bytes):Nat->Int->Bytes->Option Bytes
 |0,_,_=>none
 |n1+1,xK,nv=>(bif decide (0<=(xK:Int))&&decide (0<(10:Int))then(bif decide (([UInt8.ofNat (IntKind.u8.wrap (IntKind.i64.wrap (48+((xK:Int)%10)))).toNat]:Bytes).length+(nv:Bytes).length<=maxLen)then(bif decide (0<=(xK:Int))&&decide (0<(10:Int))then(bif ((xK:Int)/10:Int)==0 then(some (([UInt8.ofNat (IntKind.u8.wrap (IntKind.i64.wrap (48+((xK:Int)%10)))).toNat])++nv))else(iO k1 n1 ((xK:Int)/10) (([UInt8.ofNat (IntKind.u8.wrap (IntKind.i64.wrap (48+((xK:Int)%10)))).toNat])++nv)))else none)else none)else none)
def gj:Nat->Int->Option Bytes
 |0,_=>none
 |m_+1,aB=>(bif (aB:Int)==(-9223372036854775808)then(some ([45,57,50,50,51,51,55,50,48,51,54,56,53,52,55,55,53,56,48,56]))else(bif decide ((aB:Int)<0)then((gj m_ (IntKind.i64.wrap (0-aB))).bind fun y3=>(bif decide (([45]:Bytes).length+(y3:Bytes).length<=maxLen)then(some (([45])++y3))else none))else(iO none fuel aB ([]))))
def Fw(xK:Int)(nv:Bytes):St:=⟨[(0,D.int .i64 xK),(3,D.str nv)],[]⟩
theorem Ef(hΓ:Γ.nt=25){r:Bytes}{k1:Option Bytes}(cW:k1=some r->Ax Γ N f235 (.q [[none]] (D.str r)) [1,1,1,1,0,0] ⟨[],[]⟩):∀(n1:Nat) (xK:Int) (nv:Bytes),iO k1 n1 xK nv=some r->Ar Γ N f235 (.q [[none]] (D.str r)) [1,1,1,1,0] n1 (Fw xK nv):=by
 intro n
 induction n with
 |zero=>intro xK nv h;simp[iO]at h
 |succ n1 ih1=>
  intro xK nv h;rw[iO]at h;refine aN fun N1 bw bg=>?_
  obtain⟨h14,h⟩:=bV h;obtain⟨h15,h⟩:=bV h;obtain⟨h16,h⟩:=bV h;have dJ:=(((aU.w (Tr .i64 h14)).w (bt h15)).w (Tr .i64 h16))
  obtain⟨h17,h⟩|⟨h17,h⟩:=aL h
  ·cases h;exact(dJ.b h17).rts hΓ (D.str (([UInt8.ofNat (IntKind.u8.wrap (IntKind.i64.wrap (48+((xK:Int)%10)))).toNat])++nv)) (by first|rfl| (simp only[mA]<;>rfl))
  ·exact((dJ.b h17).a [.cn [0,3] []]).cf hΓ bg (ih1 ((xK:Int)/10) (([UInt8.ofNat (IntKind.u8.wrap (IntKind.i64.wrap (48+((xK:Int)%10)))).toNat])++nv) h)
theorem Dc{m_:Nat}(ihR:∀ {aB:Int} {r:Bytes},gj m_ aB=some r->Good prog 235 [D.int .i64 aB] (D.str r)){aB:Int}{r:Bytes}(h:gj (m_+1) aB=some r):Good prog 235 [D.int .i64 aB] (D.str r):=by
 refine gd func235 [[none]] 25 fun hr Γ hΓ=>?_
 rw[gj]at h;obtain⟨h1,h⟩|⟨h1,h⟩:=aL h
 ·cases h;exact(aU.b h1).ret hΓ
 ·obtain⟨h2,h⟩|⟨h2,h⟩:=aL h
  ·obtain⟨y3,h4,h⟩:=aD h;obtain⟨h5,h⟩:=bV h;cases h;exact((((aU.b h1).b h2).g (ihR h4)).w (bt h5)).rts hΓ (D.str (([45])++y3)) (by first|rfl| (simp only[mA]<;>rfl))
  ·refine(((aU.b h1).b h2).a [.cn [0,3] []]).lp hΓ (Ef hΓ (fun h=>?_) fuel aB ([]) h);cases h
theorem yM:∀(m_:Nat) {aB:Int} {r:Bytes},gj m_ aB=some r->Good prog 235 [D.int .i64 aB] (D.str r)
 |0,_,_,h=>by cases h
 |m_+1,_,_,h=>Dc (fun h=>yM m_ h) h
def qK(aB:Int):Option Bytes:=gj fuel aB
theorem vf{aB:Int}{r:Bytes}(h:qK aB=some r):Good prog 235 [D.int .i64 aB] (D.str r):=yM fuel h
def j5(aB:Bytes)(k1:Int->Option (Int×Bool)):Nat->Int->Int->Option (Int×Bool)
 |0,_,_=>none
 |n1+1,RW,RX=>(bif decide ((RX:Int)<(aB.length:Int))then((mJ aB RX).bind fun b25=>(bif decide ((b25.toNat:Int)<48)then(some (0,false))else(bif decide ((b25.toNat:Int)>57)then(some (0,false))else(j5 aB k1 n1 (IntKind.i64.wrap ((IntKind.i64.wrap (10*RW))+(IntKind.i64.wrap (IntKind.u8.wrap (b25.toNat-48))))) (IntKind.i64.wrap (RX+1))))))else(k1 RW))
def oz(aB:Bytes):Option (Int×Bool):=((lI (aB.length:Int) 1 4).bind fun y1=>(bif !(y1)then(some (0,false))else(j5 aB (fun(a0d:Int)=>((qK a0d).bind fun IJ=>(bif !((IJ:Bytes)==aB)then(some (0,false))else(some (a0d,true))))) fuel 0 0)))
def Lo(aB:Bytes)(RW:Int)(RX:Int):St:=⟨[(0,D.str aB),(4,D.int .i64 RW),(5,D.int .i64 RX)],[]⟩
theorem Jr(hΓ:Γ.nt=39){aB:Bytes}{r:Int×Bool}{k1:Int->Option (Int×Bool)}(cW:∀(a0d:Int),k1 a0d=some r->Ax Γ N f260 (.q [[none],[none]] (D.gN [D.int .i64 r.1,D.bool r.2])) [1,1,1,1] ⟨[(0,D.str aB),(4,D.int .i64 a0d)],[]⟩):∀(n1:Nat) (RW:Int) (RX:Int),j5 aB k1 n1 RW RX=some r->Ar Γ N f260 (.q [[none],[none]] (D.gN [D.int .i64 r.1,D.bool r.2])) [1,1,1,0,1,0] n1 (Lo aB RW RX):=by
 intro n
 induction n with
 |zero=>intro RW RX h;simp[j5]at h
 |succ n1 ih1=>
  intro RW RX h;rw[j5]at h;refine aN fun N1 bw bg=>?_
  obtain⟨h24,h⟩|⟨h24,h⟩:=aL h
  ·obtain⟨b25,h26,h⟩:=aD h;have ja:=((aU.b h24).c h26)
   obtain⟨h27,h⟩|⟨h27,h⟩:=aL h
   ·cases h;exact((ja.r 5 h27).T 1).ret hΓ
   ·have iY:=(((ja.r 3 h27).c h26).r 2 h27)
    obtain⟨h28,h⟩|⟨h28,h⟩:=aL h
    ·cases h;exact(iY.b h28).ret hΓ
    ·exact(((iY.b h28).c h26).a [.cn [0,4,5] []]).cf hΓ bg (ih1 (IntKind.i64.wrap ((IntKind.i64.wrap (10*RW))+(IntKind.i64.wrap (IntKind.u8.wrap (b25.toNat-48))))) (IntKind.i64.wrap (RX+1)) h)
  ·exact((aU.b h24).a [.hl 0 [0,4] []]).ex hΓ bw (cW RW h)
theorem wU{aB:Bytes}{r:Int×Bool}(h:oz aB=some r):Good prog 260 [D.str aB] (D.gN [D.int .i64 r.1,D.bool r.2]):=by
 refine gd func260 [[none],[none]] 39 fun hr Γ hΓ=>?_
 rw[oz]at h;obtain⟨y1,h2,h⟩:=aD h;obtain⟨h3,h⟩|⟨h3,h⟩:=aL h
 ·cases h;exact((aU.g (gH h2)).b h3).ret hΓ
 ·refine(((aU.g (gH h2)).b h3).a [.cn [0,4,5] []]).lp hΓ (Jr hΓ (fun a0d h=>?_) fuel 0 0 h);obtain⟨IJ,h30,h⟩:=aD h;obtain⟨h31,h⟩|⟨h31,h⟩:=aL h
  ·cases h;exact((aU.g (vf h30)).b h31).ret hΓ
  ·cases h;exact((aU.g (vf h30)).b h31).ret hΓ
def jj(aB:Bytes)(aV:Bytes):Option Int:=((oz aB).bind fun y1=>((oz aV).bind fun y3=>(bif y1.2 then(bif y3.2 then(bif decide ((y1.1:Int)<y3.1)then(some (-1))else(bif !(y3.2)then(some (-1))else(bif decide ((y1.1:Int)>y3.1)then(some 1)else(bif !(y1.2)then(some 1)else(some 0)))))else(bif !(y3.2)then(some (-1))else(some 0)))else(bif y3.2 then(bif !(y1.2)then(some 1)else((uC aB aV).bind fun W7=>(some W7)))else((uC aB aV).bind fun y16=>(some y16))))))
theorem xU{aB:Bytes}{aV:Bytes}{r:Int}(h:jj aB aV=some r):Good prog 209 [D.str aB,D.str aV] (D.int .i64 r):=by
 refine gd func209 [[none]] 54 fun hr Γ hΓ=>?_
 rw[jj]at h;obtain⟨y1,h2,h⟩:=aD h;obtain⟨y3,h4,h⟩:=aD h;have kC:=((aU.g (wU h2)).g (wU h4))
 obtain⟨h5,h⟩|⟨h5,h⟩:=aL h
 ·have dJ:=(kC.r 2 h5)
  obtain⟨h6,h⟩|⟨h6,h⟩:=aL h
  ·have ja:=(dJ.r 4 h6)
   obtain⟨h7,h⟩|⟨h7,h⟩:=aL h
   ·cases h;exact(ja.r 2 h7).ret hΓ
   ·have iY:=((ja.b h7).r 3 h5)
    obtain⟨h8,h⟩|⟨h8,h⟩:=aL h
    ·cases h;exact(iY.b h8).ret hΓ
    ·have tr:=(((iY.b h8).r 2 h5).r 4 h6)
     obtain⟨h9,h⟩|⟨h9,h⟩:=aL h
     ·have h:=aG h;subst h;exact(tr.r 2 h9).ret hΓ
     ·have wX:=((tr.b h9).r 3 h6)
      obtain⟨h10,h⟩|⟨h10,h⟩:=aL h
      ·have h:=aG h;subst h;exact(wX.b h10).ret hΓ
      ·have h:=aG h;subst h;exact((wX.b h10).b h5).ret hΓ
  ·have AV:=(((dJ.r 4 h6).F 1).r 3 h5)
   obtain⟨h11,h⟩|⟨h11,h⟩:=aL h
   ·cases h;exact(AV.b h11).ret hΓ
   ·have h:=aG h;subst h;exact(((((((AV.b h11).r 2 h5).r 4 h6).F 1).r 3 h6).F 1).b h5).ret hΓ
 ·have DC:=((((((kC.r 2 h5).F 5).r 3 h5).F 1).r 2 h5).F 5)
  obtain⟨h12,h⟩|⟨h12,h⟩:=aL h
  ·have IA:=(DC.r 3 h12)
   obtain⟨h13,h⟩|⟨h13,h⟩:=aL h
   ·have h:=aG h;subst h;exact(IA.b h13).ret hΓ
   ·obtain⟨W7,h15,h⟩:=aD h;have h:=aG h;subst h;exact(((IA.b h13).b h5).g (ym h15)).ret hΓ
  ·obtain⟨y16,h17,h⟩:=aD h;have h:=aG h;subst h;exact((((DC.r 3 h12).F 1).b h5).g (ym h17)).ret hΓ
def jO(aB:aE)(aV:aE)(k1:Option Int):aJ->Nat->Option Int
 | [],i1=>(k1)
 |bD::bZ,i1=>(bif decide (((i1:Int):Int)<((aV.args.map tx).length:Int))then((mJ aV.args (i1:Int)).bind fun x37=>((jj bD x37).bind fun Ra=>(bif (Ra:Int) != 0 then(some Ra)else(jO aB aV k1 bZ (i1+1)))))else(k1))
def ey(aB:aE)(aV:aE):Option Int:=(bif !((aB.rel:Bytes)==aV.rel)then((uC aB.rel aV.rel).bind fun y2=>(some y2))else(jO aB aV (bif decide ((((aB.args.map tx).length:Int):Int)<((aV.args.map tx).length:Int))then(some (-1))else(bif decide ((((aB.args.map tx).length:Int):Int)>((aV.args.map tx).length:Int))then(some 1)else(some 0))) aB.args 0))
def Ec(aB:aE)(aV:aE)(cS:Int):St:=⟨[(2,D.ptr 0 0),(3,D.ptr 1 0),(5,D.int .i64 cS)],[Ob.box (aE.c aB),Ob.box (aE.c aV)]⟩
theorem DX(hΓ:Γ.nt=61){aB:aE}{aV:aE}{r:Int}{k1:Option Int}(cW:k1=some r->Ax Γ N f139 (.q [[none]] (D.int .i64 r)) [1,1,1] ⟨[(2,D.ptr 0 0),(3,D.ptr 1 0)],[Ob.box (aE.c aB),Ob.box (aE.c aV)]⟩)(hm1:aB.args.length<=maxLen):∀(rest:aJ) (i1:Nat),aB.args.drop i1=rest->jO aB aV k1 rest i1=some r->Ar Γ N f139 (.q [[none]] (D.int .i64 r)) [1,1,0,1,0] (rest.length+1) (Ec aB aV (i1:Int)):=by
 intro rest
 induction rest with
 |nil=>
  intro i1 aj h;rw[jO]at h;refine aN fun N1 bw bg=>?_
  exact((((((((aU.ge tx aj).ge tx aj).ge tx aj).ge tx aj).ge tx aj).ge tx aj).F 1).a [.hl 0 [2,3] [0,1]]).ex hΓ bw (cW h)
 |cons bD bZ ih1=>
  intro i1 aj h;rw[jO]at h;refine aN fun N1 bw bg=>?_
  have ja:=((((((aU.lt tx aj).lt tx aj).lt tx aj).lt tx aj).lt tx aj).lt tx aj)
  obtain⟨h36,h⟩|⟨h36,h⟩:=aL h
  ·obtain⟨x37,h38,h⟩:=aD h;obtain⟨Ra,h40,h⟩:=aD h;have iY:=(((((ja.b h36).a [.n 10]).l (ax tx 1 (dc aj) rfl)).l (dh tx 1 h38 rfl)).g (xU h40))
   obtain⟨h41,h⟩|⟨h41,h⟩:=aL h
   ·have h:=aG h;subst h;exact(iY.b h41).ret hΓ
   ·exact((iY.b h41).a [.cn [2,3,5] [0,1]]).ct hΓ bg (iS aj hm1) (ih1 (i1+1) (dn aj) h)
  ·exact((ja.b h36).a [.hl 0 [2,3] [0,1]]).ex hΓ bw (cW h)
theorem nw{aB:aE}{aV:aE}{r:Int}(h:ey aB aV=some r):Good prog 139 [D.agg (aE.c aB),D.agg (aE.c aV)] (D.int .i64 r):=by
 refine gd func139 [[none]] 61 fun hr Γ hΓ=>?_
 rw[ey]at h;obtain⟨h1,h⟩|⟨h1,h⟩:=aL h
 ·obtain⟨y2,h3,h⟩:=aD h;have h:=aG h;subst h;exact((aU.b h1).g (ym h3)).ret hΓ
 ·refine((aU.b h1).a [.cn [2,3,5] [0,1]]).lp hΓ (DX hΓ (fun h=>?_) (by have:=(dW.sl (dW.agg (hr _ (aC (i:=0) rfl)) (.sl (aB.args.map tx)) (by simp))).1;simpa using this) aB.args 0 rfl h);obtain⟨h42,h⟩|⟨h42,h⟩:=aL h
  ·cases h;exact(aU.b h42).ret hΓ
  ·obtain⟨h43,h⟩|⟨h43,h⟩:=aL h
   ·have h:=aG h;subst h;exact((aU.b h42).b h43).ret hΓ
   ·have h:=aG h;subst h;exact((aU.b h42).b h43).ret hΓ
def kR(aB:aK)(k1:Option Bool):aK->Nat->Option Bool
 | [],i1=>(k1)
 |bD::bZ,i1=>((pg bD).bind fun IL=>(bif !(IL)then(some false)else(bif decide (((i1:Int):Int)>0)then((mJ aB (IntKind.i64.wrap ((i1:Int)-1))).bind fun x49=>((ey x49 bD).bind fun UO=>(bif decide ((UO:Int)>=0)then(some false)else(kR aB k1 bZ (i1+1)))))else(kR aB k1 bZ (i1+1)))))
def rA(aB:aK):Option Bool:=(kR aB (some (decide ((((aB.map aE.c).length:Int):Int)<=24))) aB 0)
def Lh(aB:aK)(cS:Int):St:=⟨[(0,D.sl (aB.map aE.c)),(3,D.int .i64 cS)],[]⟩
theorem Jg(hΓ:Γ.nt=36){aB:aK}{r:Bool}{k1:Option Bool}(cW:k1=some r->Ax Γ N f80 (.q [[none]] (D.bool r)) [1,1] ⟨[(0,D.sl (aB.map aE.c))],[]⟩)(hm1:aB.length<=maxLen):∀(rest:aK) (i1:Nat),aB.drop i1=rest->kR aB k1 rest i1=some r->Ar Γ N f80 (.q [[none]] (D.bool r)) [1,0,1,0] (rest.length+1) (Lh aB (i1:Int)):=by
 intro rest
 induction rest with
 |nil=>
  intro i1 aj h;rw[kR]at h;refine aN fun N1 bw bg=>?_
  exact((aU.ge aE.c aj).a [.hl 0 [0] []]).ex hΓ bw (cW h)
 |cons bD bZ ih1=>
  intro i1 aj h;rw[kR]at h;refine aN fun N1 bw bg=>?_
  obtain⟨IL,h46,h⟩:=aD h;have iY:=((((aU.lt aE.c aj).a [.n 19]).l (ax aE.c 2 (dc aj) rfl)).g (yC h46))
  obtain⟨h47,h⟩|⟨h47,h⟩:=aL h
  ·have h:=aG h;subst h;exact((((iY.r 3 h47).a [bF,bF,bF,bF,bF,bF,bF,bF,bF,bF,bF]).r 2 h47).T 1).ret hΓ
  ·have tr:=(iY.r 3 h47)
   obtain⟨h48,h⟩|⟨h48,h⟩:=aL h
   ·obtain⟨x49,h50,h⟩:=aD h;obtain⟨UO,h52,h⟩:=aD h;have wX:=((((((((((tr.r 4 h48).l (dh aE.c 2 h50 rfl)).r 4 h48).l (ax aE.c 2 (dc aj) rfl)).r 2 h48).g (nw h52)).b h48).b h47).b h48).b h47)
    obtain⟨h53,h⟩|⟨h53,h⟩:=aL h
    ·have h:=aG h;subst h;exact(wX.b h53).ret hΓ
    ·exact((wX.b h53).a [.cn [0,3] []]).ct hΓ bg (iS aj hm1) (ih1 (i1+1) (dn aj) h)
   ·exact((((((tr.r 11 h48).b h47).b h48).b h47).F 1).a [.cn [0,3] []]).ct hΓ bg (iS aj hm1) (ih1 (i1+1) (dn aj) h)
theorem wT{aB:aK}{r:Bool}(h:rA aB=some r):Good prog 80 [D.sl (aB.map aE.c)] (D.bool r):=by
 refine gd func80 [[none]] 36 fun hr Γ hΓ=>?_
 rw[rA]at h;refine(aU.a [.cn [0,3] []]).lp hΓ (Jg hΓ (fun h=>?_) (by have:=(dW.sl (hr _ (aC (i:=0) rfl))).1;simpa using this) aB 0 rfl h);cases h;exact aU.ret hΓ
def k7(aB:aJ)(aV:aJ)(k1:Option Bool):aJ->Nat->Option Bool
 | [],i1=>(k1)
 |bD::bZ,i1=>((mJ aV (i1:Int)).bind fun x22=>(bif !((bD:Bytes)==x22)then(some false)else(k7 aB aV k1 bZ (i1+1))))
def nY(aB:aJ)(aV:aJ):Option Bool:=(bif (((aB.map tx).length:Int):Int) != ((aV.map tx).length:Int)then(some false)else(k7 aB aV (some true) aB 0))
def G4(aB:aJ)(aV:aJ)(cS:Int):St:=⟨[(0,D.sl (aB.map tx)),(1,D.sl (aV.map tx)),(5,D.int .i64 cS)],[]⟩
theorem Ei(hΓ:Γ.nt=26){aB:aJ}{aV:aJ}{r:Bool}{k1:Option Bool}(cW:k1=some r->Ax Γ N f224 (.q [[none]] (D.bool r)) [1,1,1] ⟨[],[]⟩)(hm1:aB.length<=maxLen):∀(rest:aJ) (i1:Nat),aB.drop i1=rest->k7 aB aV k1 rest i1=some r->Ar Γ N f224 (.q [[none]] (D.bool r)) [1,1,0,1,0] (rest.length+1) (G4 aB aV (i1:Int)):=by
 intro rest
 induction rest with
 |nil=>
  intro i1 aj h;rw[k7]at h;refine aN fun N1 bw bg=>?_
  exact((aU.ge tx aj).a [.hl 0 [] []]).ex hΓ bw (cW h)
 |cons bD bZ ih1=>
  intro i1 aj h;rw[k7]at h;refine aN fun N1 bw bg=>?_
  obtain⟨x22,h23,h⟩:=aD h;have dJ:=((((aU.lt tx aj).a [.n 8]).l (ax tx 1 (dc aj) rfl)).l (dh tx 1 h23 rfl))
  obtain⟨h24,h⟩|⟨h24,h⟩:=aL h
  ·have h:=aG h;subst h;exact(dJ.b h24).ret hΓ
  ·exact((dJ.b h24).a [.cn [0,1,5] []]).ct hΓ bg (iS aj hm1) (ih1 (i1+1) (dn aj) h)
theorem yO{aB:aJ}{aV:aJ}{r:Bool}(h:nY aB aV=some r):Good prog 224 [D.sl (aB.map tx),D.sl (aV.map tx)] (D.bool r):=by
 refine gd func224 [[none]] 26 fun hr Γ hΓ=>?_
 rw[nY]at h;obtain⟨h1,h⟩|⟨h1,h⟩:=aL h
 ·have h:=aG h;subst h;exact(aU.b h1).ret hΓ
 ·refine((aU.b h1).a [.cn [0,1,5] []]).lp hΓ (Ei hΓ (fun h=>?_) (by have:=(dW.sl (hr _ (aC (i:=0) rfl))).1;simpa using this) aB 0 rfl h);have h:=aG h;subst h;exact aU.ret hΓ
def sD(aB:aE)(aV:aE):Option Bool:=(bif (aB.rel:Bytes)==aV.rel then((nY aB.args aV.args).bind fun y2=>(some y2))else(some false))
theorem C0{aB:aE}{aV:aE}{r:Bool}(h:sD aB aV=some r):Good prog 150 [D.agg (aE.c aB),D.agg (aE.c aV)] (D.bool r):=by
 refine gd func150 [[none]] 17 fun hr Γ hΓ=>?_
 rw[sD]at h;obtain⟨h1,h⟩|⟨h1,h⟩:=aL h
 ·obtain⟨y2,h3,h⟩:=aD h;have h:=aG h;subst h;exact(((aU.r 5 h1).g (yO h3)).b h1).ret hΓ
 ·have h:=aG h;subst h;exact(aU.r 6 h1).ret hΓ
def kU(aB:aK)(aV:aE)(k1:Option Int):aK->Nat->Option Int
 | [],i1=>(k1)
 |bD::bZ,i1=>((sD bD aV).bind fun RZ=>(bif RZ then(some (i1:Int))else(kU aB aV k1 bZ (i1+1))))
def ud(aB:aK)(aV:aE):Option Int:=(kU aB aV (some (-1)) aB 0)
def Ll(aB:aK)(aV:aE)(cS:Int):St:=⟨[(0,D.sl (aB.map aE.c)),(3,D.ptr 0 0),(5,D.int .i64 cS)],[Ob.box (aE.c aV)]⟩
theorem Jk(hΓ:Γ.nt=19){aB:aK}{aV:aE}{r:Int}{k1:Option Int}(cW:k1=some r->Ax Γ N f165 (.q [[none]] (D.int .i64 r)) [1,1] ⟨[],[]⟩)(hm1:aB.length<=maxLen):∀(rest:aK) (i1:Nat),aB.drop i1=rest->kU aB aV k1 rest i1=some r->Ar Γ N f165 (.q [[none]] (D.int .i64 r)) [1,0,1,0] (rest.length+1) (Ll aB aV (i1:Int)):=by
 intro rest
 induction rest with
 |nil=>
  intro i1 aj h;rw[kU]at h;refine aN fun N1 bw bg=>?_
  exact((aU.ge aE.c aj).a [.hl 0 [] []]).ex hΓ bw (cW h)
 |cons bD bZ ih1=>
  intro i1 aj h;rw[kU]at h;refine aN fun N1 bw bg=>?_
  obtain⟨RZ,h22,h⟩:=aD h;have dJ:=((((aU.lt aE.c aj).a [.n 5]).l (ax aE.c 2 (dc aj) rfl)).g (C0 h22))
  obtain⟨h23,h⟩|⟨h23,h⟩:=aL h
  ·cases h;exact(dJ.b h23).ret hΓ
  ·exact((dJ.b h23).a [.cn [0,3,5] [0]]).ct hΓ bg (iS aj hm1) (ih1 (i1+1) (dn aj) h)
theorem HS{aB:aK}{aV:aE}{r:Int}(h:ud aB aV=some r):Good prog 165 [D.sl (aB.map aE.c),D.agg (aE.c aV)] (D.int .i64 r):=by
 refine gd func165 [[none]] 19 fun hr Γ hΓ=>?_
 rw[ud]at h;refine(aU.a [.cn [0,3,5] [0]]).lp hΓ (Jk hΓ (fun h=>?_) (by have:=(dW.sl (hr _ (aC (i:=0) rfl))).1;simpa using this) aB 0 rfl h);cases h;exact aU.ret hΓ
def eH(aB:aK)(aV:aE)(k1:Bool->aK->Option aK):aK->Nat->Bool->aK->Option aK
 | [],i1,jx,bu=>(k1 jx bu)
 |bD::bZ,i1,jx,bu=>(bif !(jx)then((ey bD aV).bind fun aBB=>(bif decide ((aBB:Int)>=0)then((ey bD aV).bind fun KF=>(bif decide ((KF:Int)>0)then((ez aV).bind fun UH=>(bif room ((bu.map aE.c).length+([[D.str UH.rel,D.sl (UH.args.map tx)]]).length) 40 then((ez bD).bind fun DA=>(bif room (((bu.map aE.c)++([[D.str UH.rel,D.sl (UH.args.map tx)]])).length+([[D.str DA.rel,D.sl (DA.args.map tx)]]).length) 40 then(eH aB aV k1 bZ (i1+1) true ((bu++([UH]))++([DA])))else none))else none))else((ez bD).bind fun Xx=>(bif room ((bu.map aE.c).length+([[D.str Xx.rel,D.sl (Xx.args.map tx)]]).length) 40 then(eH aB aV k1 bZ (i1+1) true (bu++([Xx])))else none))))else((ez bD).bind fun Xy=>(bif room ((bu.map aE.c).length+([[D.str Xy.rel,D.sl (Xy.args.map tx)]]).length) 40 then(eH aB aV k1 bZ (i1+1) jx (bu++([Xy])))else none))))else((ez bD).bind fun CX=>(bif room ((bu.map aE.c).length+([[D.str CX.rel,D.sl (CX.args.map tx)]]).length) 40 then(eH aB aV k1 bZ (i1+1) jx (bu++([CX])))else none)))
def yo(aB:aK)(aV:aE):Option aK:=(eH aB aV (fun(ze:Bool) (td:aK)=>(bif !(ze)then((ez aV).bind fun a0W=>(bif room ((td.map aE.c).length+([[D.str a0W.rel,D.sl (a0W.args.map tx)]]).length) 40 then(some (td++([a0W])))else none))else(some td))) aB 0 false ([]:aK))
def uk(aB:aK)(aV:aE)(jx:Bool)(W1:List aR)(cS:Int):St:=⟨[(0,D.sl (aB.map aE.c)),(3,D.ptr 0 0),(5,D.acc 1),(6,D.bool jx),(7,D.int .i64 cS)],[Ob.box (aE.c aV),Ob.row .uq 53 2 W1]⟩
theorem OW(hΓ:Γ.nt=54){aB:aK}{aV:aE}{r:aK}{k1:Bool->aK->Option aK}(cW:∀(ze:Bool) (td:aK),k1 ze td=some r->Ax Γ N f170 (.q [[some (53,2)]] (D.fr 53 2 (r.map aE.c))) [1,1,1,1] ⟨[(3,D.ptr 0 0),(5,D.acc 1),(6,D.bool ze)],[Ob.box (aE.c aV),Ob.row .uq 53 2 (td.map aE.c)]⟩)(hm1:aB.length<=maxLen):∀(rest:aK) (i1:Nat) (jx:Bool) (bu:aK),aB.drop i1=rest->eH aB aV k1 rest i1 jx bu=some r->Ar Γ N f170 (.q [[some (53,2)]] (D.fr 53 2 (r.map aE.c))) [1,1,1,0,1,0] (rest.length+1) (uk aB aV jx (bu.map aE.c) (i1:Int)):=by
 intro rest
 induction rest with
 |nil=>
  intro i1 jx bu aj h;rw[eH]at h;refine aN fun N1 bw bg=>?_
  exact((aU.ge aE.c aj).a [.hl 0 [3,5,6] [0,1]]).ex hΓ bw (cW jx bu h)
 |cons bD bZ ih1=>
  intro i1 jx bu aj h;rw[eH]at h;refine aN fun N1 bw bg=>?_
  have iY:=((aU.lt aE.c aj).a [.n 8])
  obtain⟨h128,h⟩|⟨h128,h⟩:=aL h
  ·obtain⟨aBB,h130,h⟩:=aD h;have tr:=(((((iY.r 3 h128).l (ax aE.c 2 (dc aj) rfl)).r 3 h128).g (nw h130)).r 2 h128)
   obtain⟨h131,h⟩|⟨h131,h⟩:=aL h
   ·obtain⟨KF,h133,h⟩:=aD h;have wX:=((((tr.b h131).a [.n 5]).l (ax aE.c 2 (dc aj) rfl)).g (nw h133))
    obtain⟨h134,h⟩|⟨h134,h⟩:=aL h
    ·obtain⟨UH,h136,h⟩:=aD h;obtain⟨h137,h⟩:=bV h;obtain⟨DA,h139,h⟩:=aD h;obtain⟨h140,h⟩:=bV h;exact(((((((wX.b h134).g (gm h136)).w (cB h137)).l (ax aE.c 2 (dc aj) rfl)).g (gm h139)).w (cB h140)).a [.cn [0,3,5,6,7] [0,7]]).cs hΓ bg (uk aB aV true (((bu.map aE.c)++([[D.str UH.rel,D.sl (UH.args.map tx)]]))++([[D.str DA.rel,D.sl (DA.args.map tx)]])) (IntKind.i64.wrap ((i1:Int)+1))) (by first| (simp only[iS aj hm1,mA]<;>rfl)| (simp only[iS aj hm1,mA,aE.c,aS.c,aQ.c,Action.c,aO.c,aI.c,cr.c,aP.c,Node.c,aF.c,cv.c]<;>rfl)) (ih1 (i1+1) true ((bu++([UH]))++([DA])) (dn aj) h)
    ·obtain⟨Xx,h142,h⟩:=aD h;obtain⟨h143,h⟩:=bV h;exact(((((wX.b h134).l (ax aE.c 2 (dc aj) rfl)).g (gm h142)).w (cB h143)).a [.cn [0,3,5,6,7] [0,4]]).cs hΓ bg (uk aB aV true ((bu.map aE.c)++([[D.str Xx.rel,D.sl (Xx.args.map tx)]])) (IntKind.i64.wrap ((i1:Int)+1))) (by first| (simp only[iS aj hm1,mA]<;>rfl)| (simp only[iS aj hm1,mA,aE.c,aS.c,aQ.c,Action.c,aO.c,aI.c,cr.c,aP.c,Node.c,aF.c,cv.c]<;>rfl)) (ih1 (i1+1) true (bu++([Xx])) (dn aj) h)
   ·obtain⟨Xy,h145,h⟩:=aD h;obtain⟨h146,h⟩:=bV h;exact(((((tr.b h131).l (ax aE.c 2 (dc aj) rfl)).g (gm h145)).w (cB h146)).a [.cn [0,3,5,6,7] [0,4]]).cs hΓ bg (uk aB aV jx ((bu.map aE.c)++([[D.str Xy.rel,D.sl (Xy.args.map tx)]])) (IntKind.i64.wrap ((i1:Int)+1))) (by first| (simp only[iS aj hm1,mA]<;>rfl)| (simp only[iS aj hm1,mA,aE.c,aS.c,aQ.c,Action.c,aO.c,aI.c,cr.c,aP.c,Node.c,aF.c,cv.c]<;>rfl)) (ih1 (i1+1) jx (bu++([Xy])) (dn aj) h)
  ·obtain⟨CX,h148,h⟩:=aD h;obtain⟨h149,h⟩:=bV h;exact((((((iY.r 8 h128).F 1).l (ax aE.c 2 (dc aj) rfl)).g (gm h148)).w (cB h149)).a [.cn [0,3,5,6,7] [0,4]]).cs hΓ bg (uk aB aV jx ((bu.map aE.c)++([[D.str CX.rel,D.sl (CX.args.map tx)]])) (IntKind.i64.wrap ((i1:Int)+1))) (by first| (simp only[iS aj hm1,mA]<;>rfl)| (simp only[iS aj hm1,mA,aE.c,aS.c,aQ.c,Action.c,aO.c,aI.c,cr.c,aP.c,Node.c,aF.c,cv.c]<;>rfl)) (ih1 (i1+1) jx (bu++([CX])) (dn aj) h)
theorem NG{aB:aK}{aV:aE}{r:aK}(h:yo aB aV=some r):Good prog 170 [D.sl (aB.map aE.c),D.agg (aE.c aV)] (D.fr 53 2 (r.map aE.c)):=by
 refine gd func170 [[some (53,2)]] 54 fun hr Γ hΓ=>?_
 rw[yo]at h;refine(aU.a [.cn [0,3,5,6,7] [0,1]]).lp hΓ (OW hΓ (fun ze td h=>?_) (by have:=(dW.sl (hr _ (aC (i:=0) rfl))).1;simpa using this) aB 0 false ([]:aK) rfl h);obtain⟨h150,h⟩|⟨h150,h⟩:=aL h
 ·obtain⟨a0W,h152,h⟩:=aD h;obtain⟨h153,h⟩:=bV h;cases h;exact(((aU.b h150).g (gm h152)).w (cB h153)).rts hΓ (D.fr 53 2 ((td.map aE.c)++([[D.str a0W.rel,D.sl (a0W.args.map tx)]]))) (by first|rfl| (simp only[mA]<;>rfl))
 ·have h:=aG h;subst h;exact(aU.b h150).ret hΓ
def wS(aB:aK)(aV:aE):Option (aK×Bool):=((rA aB).bind fun y1=>(bif !(y1)then((dU aB).bind fun y4=>(some (y4,false)))else((pg aV).bind fun y6=>(bif !(y6)then((dU aB).bind fun y9=>(some (y9,false)))else((ud aB aV).bind fun MI=>(bif decide ((MI:Int)>=0)then((dU aB).bind fun W7=>(some (W7,false)))else(bif (((aB.map aE.c).length:Int):Int)==24 then((dU aB).bind fun Ka=>(some (Ka,false)))else((yo aB aV).bind fun y19=>(some (y19,true))))))))))
theorem Jf{aB:aK}{aV:aE}{r:aK×Bool}(h:wS aB aV=some r):Good prog 98 [D.sl (aB.map aE.c),D.agg (aE.c aV)] (D.gN [D.fr 53 2 (r.1.map aE.c),D.bool r.2]):=by
 refine gd func98 [[some (53,2)],[none]] 30 fun hr Γ hΓ=>?_
 rw[wS]at h;obtain⟨y1,h2,h⟩:=aD h;obtain⟨h3,h⟩|⟨h3,h⟩:=aL h
 ·obtain⟨y4,h5,h⟩:=aD h;cases h;exact((((aU.g (wT h2)).r 4 h3).T 10).g (fJ h5)).ret hΓ
 ·obtain⟨y6,h7,h⟩:=aD h;have kC:=((((aU.g (wT h2)).r 2 h3).g (yC h7)).r 2 h3)
  obtain⟨h8,h⟩|⟨h8,h⟩:=aL h
  ·obtain⟨y9,h10,h⟩:=aD h;cases h;exact(((kC.r 5 h8).T 5).g (fJ h10)).ret hΓ
  ·obtain⟨MI,h12,h⟩:=aD h;have dJ:=(((kC.r 3 h8).g (HS h12)).r 2 h8)
   obtain⟨h13,h⟩|⟨h13,h⟩:=aL h
   ·obtain⟨W7,h15,h⟩:=aD h;cases h;exact(((dJ.r 4 h13).T 1).g (fJ h15)).ret hΓ
   ·have ja:=(dJ.r 4 h13)
    obtain⟨h16,h⟩|⟨h16,h⟩:=aL h
    ·obtain⟨Ka,h18,h⟩:=aD h;cases h;exact((ja.b h16).g (fJ h18)).ret hΓ
    ·obtain⟨y19,h20,h⟩:=aD h;cases h;exact((ja.b h16).g (NG h20)).ret hΓ
def iR(aB:Bytes):Option Bool:=(bif decide (((aB.length:Int):Int)>1)then((mJ aB 0).bind fun b2=>(bif (b2.toNat:Int)==63 then((Pj aB.length (some (D.int .i64 1)) none).bind fun p=>(fun l5 u6=>((fT ((aB.take u6).drop l5)).bind fun y8=>(some y8))) p.1 p.2)else(some false)))else(some false))
theorem gL{aB:Bytes}{r:Bool}(h:iR aB=some r):Good prog 234 [D.str aB] (D.bool r):=by
 refine gd func234 [[none]] 16 fun hr Γ hΓ=>?_
 rw[iR]at h;obtain⟨h1,h⟩|⟨h1,h⟩:=aL h
 ·obtain⟨b2,h3,h⟩:=aD h;have kC:=(((aU.r 2 h1).c h3).r 2 h1)
  obtain⟨h4,h⟩|⟨h4,h⟩:=aL h
  ·obtain⟨⟨l5,u6⟩,h7,h⟩:=aD h;obtain⟨y8,h9,h⟩:=aD h;have h:=aG h;subst h;exact((((((kC.r 2 h4).w h7).a [.cut l5 u6]).b h4).g (eb h9)).b h4).ret hΓ
  ·have h:=aG h;subst h;exact(kC.r 4 h4).ret hΓ
 ·have h:=aG h;subst h;exact((aU.r 4 h1).F 4).ret hΓ
def eW(aB:aJ)(aV:Bytes)(k1:Bool->aJ->Option aJ):aJ->Nat->Bool->aJ->Option aJ
 | [],i1,jx,bC=>(k1 jx bC)
 |bD::bZ,i1,jx,bC=>(bif !(jx)then(bif !(Op.bytesLess bD aV)then(bif !((bD:Bytes)==aV)then(bif room ((bC.map tx).length+([[D.str aV]]).length) 16 then(bif room (((bC.map tx)++([[D.str aV]])).length+([[D.str bD]]).length) 16 then(eW aB aV k1 bZ (i1+1) true ((bC++([aV]))++([bD])))else none)else none)else(bif room ((bC.map tx).length+([[D.str bD]]).length) 16 then(eW aB aV k1 bZ (i1+1) true (bC++([bD])))else none))else(bif room ((bC.map tx).length+([[D.str bD]]).length) 16 then(eW aB aV k1 bZ (i1+1) jx (bC++([bD])))else none))else(bif room ((bC.map tx).length+([[D.str bD]]).length) 16 then(eW aB aV k1 bZ (i1+1) jx (bC++([bD])))else none))
def lz(aB:aJ)(aV:Bytes):Option aJ:=(eW aB aV (fun(ze:Bool) (bP:aJ)=>(bif !(ze)then(bif room ((bP.map tx).length+([[D.str aV]]).length) 16 then(some (bP++([aV])))else none)else(some bP))) aB 0 false ([]:aJ))
def uj(aB:aJ)(aV:Bytes)(jx:Bool)(W1:List aR)(cS:Int):St:=⟨[(0,D.sl (aB.map tx)),(1,D.str aV),(5,D.acc 0),(6,D.bool jx),(7,D.int .i64 cS)],[Ob.row .uq 9 1 W1]⟩
theorem OV(hΓ:Γ.nt=49){aB:aJ}{aV:Bytes}{r:aJ}{k1:Bool->aJ->Option aJ}(cW:∀(ze:Bool) (bP:aJ),k1 ze bP=some r->Ax Γ N f275 (.q [[some (9,1)]] (D.fr 9 1 (r.map tx))) [1,1,1,1] ⟨[(1,D.str aV),(5,D.acc 0),(6,D.bool ze)],[Ob.row .uq 9 1 (bP.map tx)]⟩)(hm1:aB.length<=maxLen):∀(rest:aJ) (i1:Nat) (jx:Bool) (bC:aJ),aB.drop i1=rest->eW aB aV k1 rest i1 jx bC=some r->Ar Γ N f275 (.q [[some (9,1)]] (D.fr 9 1 (r.map tx))) [1,1,1,0,1,0] (rest.length+1) (uj aB aV jx (bC.map tx) (i1:Int)):=by
 intro rest
 induction rest with
 |nil=>
  intro i1 jx bC aj h;rw[eW]at h;refine aN fun N1 bw bg=>?_
  exact((aU.ge tx aj).a [.hl 0 [1,5,6] [0]]).ex hΓ bw (cW jx bC h)
 |cons bD bZ ih1=>
  intro i1 jx bC aj h;rw[eW]at h;refine aN fun N1 bw bg=>?_
  obtain⟨h58,h⟩|⟨h58,h⟩:=aL h
  ·have ja:=((((aU.lt tx aj).r 3 h58).l (ax tx 1 (dc aj) rfl)).r 4 h58)
   obtain⟨h59,h⟩|⟨h59,h⟩:=aL h
   ·have iY:=((ja.b h59).l (ax tx 1 (dc aj) rfl))
    obtain⟨h60,h⟩|⟨h60,h⟩:=aL h
    ·obtain⟨h61,h⟩:=bV h;obtain⟨h62,h⟩:=bV h;exact(((((iY.b h60).w (cB h61)).l (ax tx 1 (dc aj) rfl)).w (cB h62)).a [.cn [0,1,5,6,7] [4]]).cs hΓ bg (uj aB aV true (((bC.map tx)++([[D.str aV]]))++([[D.str bD]])) (IntKind.i64.wrap ((i1:Int)+1))) (by first| (simp only[iS aj hm1,mA]<;>rfl)| (simp only[iS aj hm1,mA,aE.c,aS.c,aQ.c,Action.c,aO.c,aI.c,cr.c,aP.c,Node.c,aF.c,cv.c]<;>rfl)) (ih1 (i1+1) true ((bC++([aV]))++([bD])) (dn aj) h)
    ·obtain⟨h63,h⟩:=bV h;exact((((iY.b h60).l (ax tx 1 (dc aj) rfl)).w (cB h63)).a [.cn [0,1,5,6,7] [2]]).cs hΓ bg (uj aB aV true ((bC.map tx)++([[D.str bD]])) (IntKind.i64.wrap ((i1:Int)+1))) (by first| (simp only[iS aj hm1,mA]<;>rfl)| (simp only[iS aj hm1,mA,aE.c,aS.c,aQ.c,Action.c,aO.c,aI.c,cr.c,aP.c,Node.c,aF.c,cv.c]<;>rfl)) (ih1 (i1+1) true (bC++([bD])) (dn aj) h)
   ·obtain⟨h64,h⟩:=bV h;exact((((ja.b h59).l (ax tx 1 (dc aj) rfl)).w (cB h64)).a [.cn [0,1,5,6,7] [2]]).cs hΓ bg (uj aB aV jx ((bC.map tx)++([[D.str bD]])) (IntKind.i64.wrap ((i1:Int)+1))) (by first| (simp only[iS aj hm1,mA]<;>rfl)| (simp only[iS aj hm1,mA,aE.c,aS.c,aQ.c,Action.c,aO.c,aI.c,cr.c,aP.c,Node.c,aF.c,cv.c]<;>rfl)) (ih1 (i1+1) jx (bC++([bD])) (dn aj) h)
  ·obtain⟨h65,h⟩:=bV h;exact((((((aU.lt tx aj).r 7 h58).F 1).l (ax tx 1 (dc aj) rfl)).w (cB h65)).a [.cn [0,1,5,6,7] [2]]).cs hΓ bg (uj aB aV jx ((bC.map tx)++([[D.str bD]])) (IntKind.i64.wrap ((i1:Int)+1))) (by first| (simp only[iS aj hm1,mA]<;>rfl)| (simp only[iS aj hm1,mA,aE.c,aS.c,aQ.c,Action.c,aO.c,aI.c,cr.c,aP.c,Node.c,aF.c,cv.c]<;>rfl)) (ih1 (i1+1) jx (bC++([bD])) (dn aj) h)
theorem mB{aB:aJ}{aV:Bytes}{r:aJ}(h:lz aB aV=some r):Good prog 275 [D.sl (aB.map tx),D.str aV] (D.fr 9 1 (r.map tx)):=by
 refine gd func275 [[some (9,1)]] 49 fun hr Γ hΓ=>?_
 rw[lz]at h;refine(aU.a [.cn [0,1,5,6,7] [0]]).lp hΓ (OV hΓ (fun ze bP h=>?_) (by have:=(dW.sl (hr _ (aC (i:=0) rfl))).1;simpa using this) aB 0 false ([]:aJ) rfl h);obtain⟨h66,h⟩|⟨h66,h⟩:=aL h
 ·obtain⟨h67,h⟩:=bV h;cases h;exact((aU.b h66).w (cB h67)).rts hΓ (D.fr 9 1 ((bP.map tx)++([[D.str aV]]))) (by first|rfl| (simp only[mA]<;>rfl))
 ·have h:=aG h;subst h;exact(aU.b h66).ret hΓ
def lH(aB:aE)(k1:aJ->Option aJ):aJ->Nat->aJ->Option aJ
 | [],i1,bu=>(k1 bu)
 |bD::bZ,i1,bu=>((iR bD).bind fun Y1=>(bif Y1 then((lz bu bD).bind fun y40=>(lH aB k1 bZ (i1+1) y40))else(lH aB k1 bZ (i1+1) bu)))
def ny(aB:aE):Option aJ:=(lH aB (fun(bP:aJ)=>(some bP)) aB.args 0 ([]:aJ))
def OU(aB:aE)(W0:List aR)(cS:Int):St:=⟨[(1,D.ptr 0 0),(3,D.acc 1),(4,D.int .i64 cS)],[Ob.box (aE.c aB),Ob.row .uq 9 1 W0]⟩
theorem NF(hΓ:Γ.nt=27){aB:aE}{r:aJ}{k1:aJ->Option aJ}(cW:∀(bP:aJ),k1 bP=some r->Ax Γ N f254 (.q [[some (9,1)]] (D.fr 9 1 (r.map tx))) [1,1,1] ⟨[(3,D.acc 0)],[Ob.row .uq 9 1 (bP.map tx)]⟩)(hm1:aB.args.length<=maxLen):∀(rest:aJ) (i1:Nat) (bu:aJ),aB.args.drop i1=rest->lH aB k1 rest i1 bu=some r->Ar Γ N f254 (.q [[some (9,1)]] (D.fr 9 1 (r.map tx))) [1,1,0,1,0] (rest.length+1) (OU aB (bu.map tx) (i1:Int)):=by
 intro rest
 induction rest with
 |nil=>
  intro i1 bu aj h;rw[lH]at h;refine aN fun N1 bw bg=>?_
  exact((aU.ge tx aj).a [.hl 0 [3] [1]]).ex hΓ bw (cW bu h)
 |cons bD bZ ih1=>
  intro i1 bu aj h;rw[lH]at h;refine aN fun N1 bw bg=>?_
  obtain⟨Y1,h38,h⟩:=aD h;have dJ:=(((aU.lt tx aj).l (ax tx 1 (dc aj) rfl)).g (gL h38))
  obtain⟨h39,h⟩|⟨h39,h⟩:=aL h
  ·obtain⟨y40,h41,h⟩:=aD h;exact((((dJ.b h39).l (ax tx 1 (dc aj) rfl)).g (mB h41)).a [.cn [1,3,4] [0,2]]).ct hΓ bg (iS aj hm1) (ih1 (i1+1) y40 (dn aj) h)
  ·exact((dJ.b h39).a [.cn [1,3,4] [0,1]]).ct hΓ bg (iS aj hm1) (ih1 (i1+1) bu (dn aj) h)
theorem qU{aB:aE}{r:aJ}(h:ny aB=some r):Good prog 254 [D.agg (aE.c aB)] (D.fr 9 1 (r.map tx)):=by
 refine gd func254 [[some (9,1)]] 27 fun hr Γ hΓ=>?_
 rw[ny]at h;refine(aU.a [.cn [1,3,4] [0,1]]).lp hΓ (NF hΓ (fun bP h=>?_) (by have:=(dW.sl (dW.agg (hr _ (aC (i:=0) rfl)) (.sl (aB.args.map tx)) (by simp))).1;simpa using this) aB.args 0 ([]:aJ) rfl h);have h:=aG h;subst h;exact aU.ret hΓ
def ji(aB:aO)(aV:Int)(i1:Nat)(O2:aJ)(k2:aJ->Option aJ):aJ->Nat->aJ->Option aJ
 | [],i2,kB=>(k2 kB)
 |lU::wg,i2,kB=>((lz kB lU).bind fun a8j=>(ji aB aV i1 O2 k2 wg (i2+1) a8j))
def fq(aB:aO)(aV:Int)(k1:aJ->Option aJ):aq->Nat->aJ->Option aJ
 | [],i1,bu=>(k1 bu)
 |bD::bZ,i1,bu=>(bif decide (((i1:Int):Int)<aV)then(bif (bD.kind:Int)==1 then((ny bD.pat).bind fun O2=>(bif decide (O2.length<=maxLen)then(ji aB aV i1 O2 (fun(yw:aJ)=>(fq aB aV k1 bZ (i1+1) yw)) O2 0 bu)else none))else(fq aB aV k1 bZ (i1+1) bu))else(k1 bu))
def nS(aB:aO)(aV:Int):Option aJ:=(fq aB aV (fun(bP:aJ)=>(some bP)) aB.conds 0 ([]:aJ))
def Ji(aB:aO)(aV:Int)(W0:List aR)(cS:Int):St:=⟨[(1,D.int .i64 aV),(2,D.ptr 0 0),(5,D.acc 1),(6,D.int .i64 cS)],[Ob.box (aO.c aB),Ob.row .uq 9 1 W0]⟩
def Jj(aB:aO)(aV:Int)(i1:Nat)(O2:aJ)(W0:List aR)(cS:Int):St:=⟨[(1,D.int .i64 aV),(2,D.ptr 0 0),(5,D.acc 1),(6,D.int .i64 (i1:Int)),(7,D.acc 2),(8,D.int .i64 cS)],[Ob.box (aO.c aB),Ob.row .uq 9 1 W0,Ob.row .uq 9 1 (O2.map tx)]⟩
theorem HR(hΓ:Γ.nt=49){aB:aO}{aV:Int}{i1:Nat}{O2:aJ}{r:aJ}{k2:aJ->Option aJ}(Cf:∀(yw:aJ),k2 yw=some r->Ax Γ N f247 (.q [[some (9,1)]] (D.fr 9 1 (r.map tx))) [1,1,0,1,0,0,1,1] ⟨[(1,D.int .i64 aV),(2,D.ptr 0 0),(5,D.acc 1),(6,D.int .i64 (i1:Int))],[Ob.box (aO.c aB),Ob.row .uq 9 1 (yw.map tx)]⟩)(hm2:O2.length<=maxLen):∀(rest:aJ) (i2:Nat) (kB:aJ),O2.drop i2=rest->ji aB aV i1 O2 k2 rest i2 kB=some r->Ar Γ N f247 (.q [[some (9,1)]] (D.fr 9 1 (r.map tx))) [1,1,0,1,0,0,1,0,0,1,0,1,1,0] (rest.length+1) (Jj aB aV i1 O2 (kB.map tx) (i2:Int)):=by
 intro rest
 induction rest with
 |nil=>
  intro i2 kB hd2 h;rw[ji]at h;refine aN fun N2 xa ur=>?_
  exact((aU.ge tx hd2).a [.hl 3 [1,2,5,6] [0,1]]).ex hΓ xa (Cf kB h)
 |cons lU wg ih2=>
  intro i2 kB hd2 h;rw[ji]at h;refine aN fun N2 xa ur=>?_
  obtain⟨a8j,h184,h⟩:=aD h;exact(((((aU.lt tx hd2).i (pV tx 1 (dc hd2))).o 1 1 .uq (dF tx (dc hd2))).g (mB h184)).a [.cn [1,2,5,6,7,8] [0,3,2]]).ct hΓ ur (iS hd2 hm2) (ih2 (i2+1) a8j (dn hd2) h)
theorem HQ(hΓ:Γ.nt=49){aB:aO}{aV:Int}{r:aJ}{k1:aJ->Option aJ}(cW:∀(bP:aJ),k1 bP=some r->Ax Γ N f247 (.q [[some (9,1)]] (D.fr 9 1 (r.map tx))) [1,1,1] ⟨[(5,D.acc 0)],[Ob.row .uq 9 1 (bP.map tx)]⟩)(hm1:aB.conds.length<=maxLen):∀(rest:aq) (i1:Nat) (bu:aJ),aB.conds.drop i1=rest->fq aB aV k1 rest i1 bu=some r->Ar Γ N f247 (.q [[some (9,1)]] (D.fr 9 1 (r.map tx))) [1,1,0,1,0] (rest.length+1) (Ji aB aV (bu.map tx) (i1:Int)):=by
 intro rest
 induction rest with
 |nil=>
  intro i1 bu aj h;rw[fq]at h;refine aN fun N1 bw bg=>?_
  exact((((((aU.ge aQ.c aj).ge aQ.c aj).ge aQ.c aj).ge aQ.c aj).F 1).a [.hl 0 [5] [1]]).ex hΓ bw (cW bu h)
 |cons bD bZ ih1=>
  intro i1 bu aj h;rw[fq]at h;refine aN fun N1 bw bg=>?_
  have ja:=((((aU.lt aQ.c aj).lt aQ.c aj).lt aQ.c aj).lt aQ.c aj)
  obtain⟨h157,h⟩|⟨h157,h⟩:=aL h
  ·have iY:=((ja.b h157).l (ax aQ.c 5 (dc aj) rfl))
   obtain⟨h158,h⟩|⟨h158,h⟩:=aL h
   ·obtain⟨O2,h160,h⟩:=aD h;obtain⟨h185,h⟩:=bV h;refine((((iY.b h158).l (ax aQ.c 5 (dc aj) rfl)).g (qU h160)).a [.cn [1,2,5,6,7,8] [0,1,2]]).lp hΓ (HR hΓ (fun yw h=>?_) (bt h185) O2 0 bu rfl h);exact(aU.a [.cn [1,2,5,6] [0,1]]).ct hΓ bg (iS aj hm1) (ih1 (i1+1) yw (dn aj) h)
   ·exact((iY.b h158).a [.cn [1,2,5,6] [0,1]]).ct hΓ bg (iS aj hm1) (ih1 (i1+1) bu (dn aj) h)
  ·exact((ja.b h157).a [.hl 0 [5] [1]]).ex hΓ bw (cW bu h)
theorem ve{aB:aO}{aV:Int}{r:aJ}(h:nS aB aV=some r):Good prog 247 [D.agg (aO.c aB),D.int .i64 aV] (D.fr 9 1 (r.map tx)):=by
 refine gd func247 [[some (9,1)]] 49 fun hr Γ hΓ=>?_
 rw[nS]at h;refine(aU.a [.cn [1,2,5,6] [0,1]]).lp hΓ (HQ hΓ (fun bP h=>?_) (by have:=(dW.sl (dW.agg (hr _ (aC (i:=0) rfl)) (.sl (aB.conds.map aQ.c)) (by simp))).1;simpa using this) aB.conds 0 ([]:aJ) rfl h);have h:=aG h;subst h;exact aU.ret hΓ
def jF(aB:Bytes):Option Bool:=((fT aB).bind fun y1=>(bif y1 then(some true)else((iR aB).bind fun y4=>(some y4))))
theorem kW{aB:Bytes}{r:Bool}(h:jF aB=some r):Good prog 269 [D.str aB] (D.bool r):=by
 refine gd func269 [[none]] 9 fun hr Γ hΓ=>?_
 rw[jF]at h;obtain⟨y1,h2,h⟩:=aD h;obtain⟨h3,h⟩|⟨h3,h⟩:=aL h
 ·have h:=aG h;subst h;exact((aU.g (eb h2)).r 3 h3).ret hΓ
 ·obtain⟨y4,h5,h⟩:=aD h;have h:=aG h;subst h;exact((((aU.g (eb h2)).r 2 h3).g (gL h5)).b h3).ret hΓ
def mW(aB:aE)(k1:Option Bool):aJ->Nat->Option Bool
 | [],i1=>(k1)
 |bD::bZ,i1=>((jF bD).bind fun RZ=>(bif !(RZ)then(some false)else(mW aB k1 bZ (i1+1))))
def jQ(aB:aE):Option Bool:=(mW aB ((sA aB.rel).bind fun Rx=>(bif Rx then(some (decide ((((aB.args.map tx).length:Int):Int)<=3)))else(some false))) aB.args 0)
def Jp(aB:aE)(cS:Int):St:=⟨[(1,D.ptr 0 0),(3,D.int .i64 cS)],[Ob.box (aE.c aB)]⟩
theorem HY(hΓ:Γ.nt=27){aB:aE}{r:Bool}{k1:Option Bool}(cW:k1=some r->Ax Γ N f225 (.q [[none]] (D.bool r)) [1,1] ⟨[(1,D.ptr 0 0)],[Ob.box (aE.c aB)]⟩)(hm1:aB.args.length<=maxLen):∀(rest:aJ) (i1:Nat),aB.args.drop i1=rest->mW aB k1 rest i1=some r->Ar Γ N f225 (.q [[none]] (D.bool r)) [1,0,1,0] (rest.length+1) (Jp aB (i1:Int)):=by
 intro rest
 induction rest with
 |nil=>
  intro i1 aj h;rw[mW]at h;refine aN fun N1 bw bg=>?_
  exact((aU.ge tx aj).a [.hl 0 [1] [0]]).ex hΓ bw (cW h)
 |cons bD bZ ih1=>
  intro i1 aj h;rw[mW]at h;refine aN fun N1 bw bg=>?_
  obtain⟨RZ,h22,h⟩:=aD h;have dJ:=(((aU.lt tx aj).l (ax tx 1 (dc aj) rfl)).g (kW h22))
  obtain⟨h23,h⟩|⟨h23,h⟩:=aL h
  ·have h:=aG h;subst h;exact(dJ.b h23).ret hΓ
  ·exact((dJ.b h23).a [.cn [1,3] [0]]).ct hΓ bg (iS aj hm1) (ih1 (i1+1) (dn aj) h)
theorem k6{aB:aE}{r:Bool}(h:jQ aB=some r):Good prog 225 [D.agg (aE.c aB)] (D.bool r):=by
 refine gd func225 [[none]] 27 fun hr Γ hΓ=>?_
 rw[jQ]at h;refine(aU.a [.cn [1,3] [0]]).lp hΓ (HY hΓ (fun h=>?_) (by have:=(dW.sl (dW.agg (hr _ (aC (i:=0) rfl)) (.sl (aB.args.map tx)) (by simp))).1;simpa using this) aB.args 0 rfl h);obtain⟨Rx,h25,h⟩:=aD h;obtain⟨h26,h⟩|⟨h26,h⟩:=aL h
 ·cases h;exact((aU.g (nU h25)).r 5 h26).ret hΓ
 ·have h:=aG h;subst h;exact((aU.g (nU h25)).r 5 h26).ret hΓ
def s9(aB:aQ):Option Bool:=(bif (aB.kind:Int)==1 then((jQ aB.pat).bind fun y2=>(bif y2 then(bif (aB.left:Bytes)==([])then(some ((aB.right:Bytes)==([])))else(some false))else(some false)))else(bif (aB.kind:Int)==2 then((jQ aB.pat).bind fun y7=>(bif y7 then(bif (aB.left:Bytes)==([])then(some ((aB.right:Bytes)==([])))else(some false))else(some false)))else(bif (aB.kind:Int)==3 then(bif (aB.pat.rel:Bytes)==([])then(bif (((aB.pat.args.map tx).length:Int):Int)==0 then((jF aB.left).bind fun W7=>(bif W7 then((jF aB.right).bind fun Ka=>(some Ka))else(some false)))else(some false))else(some false))else(bif (aB.kind:Int)==4 then(bif (aB.pat.rel:Bytes)==([])then(bif (((aB.pat.args.map tx).length:Int):Int)==0 then((jF aB.left).bind fun lS=>(bif lS then((jF aB.right).bind fun Y0=>(some Y0))else(some false)))else(some false))else(some false))else(bif (aB.kind:Int)==5 then(bif (aB.pat.rel:Bytes)==([])then(bif (((aB.pat.args.map tx).length:Int):Int)==0 then((jF aB.left).bind fun y30=>(bif y30 then((jF aB.right).bind fun BZ=>(some BZ))else(some false)))else(some false))else(some false))else(some false))))))
theorem qS{aB:aQ}{r:Bool}(h:s9 aB=some r):Good prog 248 [D.agg (aQ.c aB)] (D.bool r):=by
 refine gd func248 [[none]] 46 fun hr Γ hΓ=>?_
 rw[s9]at h;obtain⟨h1,h⟩|⟨h1,h⟩:=aL h
 ·obtain⟨y2,h3,h⟩:=aD h;have kC:=((aU.r 2 h1).g (k6 h3))
  obtain⟨h4,h⟩|⟨h4,h⟩:=aL h
  ·have dJ:=(kC.r 4 h4)
   obtain⟨h5,h⟩|⟨h5,h⟩:=aL h
   ·cases h;exact(dJ.r 4 h5).ret hΓ
   ·have h:=aG h;subst h;exact(dJ.r 4 h5).ret hΓ
  ·have h:=aG h;subst h;exact((kC.r 4 h4).F 4).ret hΓ
 ·obtain⟨h6,h⟩|⟨h6,h⟩:=aL h
  ·obtain⟨y7,h8,h⟩:=aD h;have ja:=(((aU.b h1).b h6).g (k6 h8))
   obtain⟨h9,h⟩|⟨h9,h⟩:=aL h
   ·have iY:=(ja.r 4 h9)
    obtain⟨h10,h⟩|⟨h10,h⟩:=aL h
    ·cases h;exact(iY.r 4 h10).ret hΓ
    ·have h:=aG h;subst h;exact(iY.r 4 h10).ret hΓ
   ·have h:=aG h;subst h;exact((ja.r 4 h9).F 4).ret hΓ
  ·have tr:=((aU.b h1).b h6)
   obtain⟨h11,h⟩|⟨h11,h⟩:=aL h
   ·have wX:=(tr.r 2 h11)
    obtain⟨h12,h⟩|⟨h12,h⟩:=aL h
    ·have AV:=(wX.r 6 h12)
     obtain⟨h13,h⟩|⟨h13,h⟩:=aL h
     ·obtain⟨W7,h15,h⟩:=aD h;have DC:=(((AV.r 3 h13).g (kW h15)).b h13)
      obtain⟨h16,h⟩|⟨h16,h⟩:=aL h
      ·obtain⟨Ka,h18,h⟩:=aD h;have h:=aG h;subst h;exact(((DC.r 3 h16).g (kW h18)).b h16).ret hΓ
      ·have h:=aG h;subst h;exact(DC.r 4 h16).ret hΓ
     ·have h:=aG h;subst h;exact((AV.r 4 h13).F 4).ret hΓ
    ·have h:=aG h;subst h;exact((wX.r 6 h12).F 8).ret hΓ
   ·obtain⟨h19,h⟩|⟨h19,h⟩:=aL h
    ·have IA:=((tr.b h11).r 2 h19)
     obtain⟨h20,h⟩|⟨h20,h⟩:=aL h
     ·have yu:=(IA.r 6 h20)
      obtain⟨h21,h⟩|⟨h21,h⟩:=aL h
      ·obtain⟨lS,h23,h⟩:=aD h;have D7:=(((yu.r 3 h21).g (kW h23)).b h21)
       obtain⟨h24,h⟩|⟨h24,h⟩:=aL h
       ·obtain⟨Y0,h26,h⟩:=aD h;have h:=aG h;subst h;exact(((D7.r 3 h24).g (kW h26)).b h24).ret hΓ
       ·have h:=aG h;subst h;exact(D7.r 4 h24).ret hΓ
      ·have h:=aG h;subst h;exact((yu.r 4 h21).F 4).ret hΓ
     ·have h:=aG h;subst h;exact((IA.r 6 h20).F 8).ret hΓ
    ·have BN:=((tr.b h11).b h19)
     obtain⟨h27,h⟩|⟨h27,h⟩:=aL h
     ·obtain⟨h28,h⟩|⟨h28,h⟩:=aL h
      ·have I8:=((BN.b h27).r 6 h28)
       obtain⟨h29,h⟩|⟨h29,h⟩:=aL h
       ·obtain⟨y30,h31,h⟩:=aD h;have I9:=(((I8.r 3 h29).g (kW h31)).b h29)
        obtain⟨h32,h⟩|⟨h32,h⟩:=aL h
        ·obtain⟨BZ,h34,h⟩:=aD h;have h:=aG h;subst h;exact(((I9.r 3 h32).g (kW h34)).b h32).ret hΓ
        ·have h:=aG h;subst h;exact(I9.r 4 h32).ret hΓ
       ·have h:=aG h;subst h;exact((I8.r 4 h29).F 4).ret hΓ
      ·have h:=aG h;subst h;exact(((BN.b h27).r 6 h28).F 8).ret hΓ
     ·have h:=aG h;subst h;exact(BN.b h27).ret hΓ
def mc(aB:aQ):Option aJ:=((ny aB.pat).bind fun y1=>((iR aB.left).bind fun y3=>(bif y3 then((lz y1 aB.left).bind fun y6=>((iR aB.right).bind fun y8=>(bif y8 then((lz y6 aB.right).bind fun MI=>(some MI))else(some y6))))else((iR aB.right).bind fun sJ=>(bif sJ then((lz y1 aB.right).bind fun y16=>(some y16))else(some y1))))))
theorem rP{aB:aQ}{r:aJ}(h:mc aB=some r):Good prog 249 [D.agg (aQ.c aB)] (D.fr 9 1 (r.map tx)):=by
 refine gd func249 [[some (9,1)]] 22 fun hr Γ hΓ=>?_
 rw[mc]at h;obtain⟨y1,h2,h⟩:=aD h;obtain⟨y3,h4,h⟩:=aD h;have kC:=((aU.g (qU h2)).g (gL h4))
 obtain⟨h5,h⟩|⟨h5,h⟩:=aL h
 ·obtain⟨y6,h7,h⟩:=aD h;obtain⟨y8,h9,h⟩:=aD h;have dJ:=(((kC.b h5).g (mB h7)).g (gL h9))
  obtain⟨h10,h⟩|⟨h10,h⟩:=aL h
  ·obtain⟨MI,h12,h⟩:=aD h;have h:=aG h;subst h;exact((dJ.b h10).g (mB h12)).ret hΓ
  ·have h:=aG h;subst h;exact(dJ.b h10).ret hΓ
 ·obtain⟨sJ,h14,h⟩:=aD h;have ja:=((kC.b h5).g (gL h14))
  obtain⟨h15,h⟩|⟨h15,h⟩:=aL h
  ·obtain⟨y16,h17,h⟩:=aD h;have h:=aG h;subst h;exact((ja.b h15).g (mB h17)).ret hΓ
  ·have h:=aG h;subst h;exact(ja.b h15).ret hΓ
def jq(aB:aJ)(aV:Bytes)(k1:Option Bool):aJ->Nat->Option Bool
 | [],i1=>(k1)
 |bD::bZ,i1=>(bif (bD:Bytes)==aV then(some true)else(jq aB aV k1 bZ (i1+1)))
def gz(aB:aJ)(aV:Bytes):Option Bool:=(jq aB aV (some false) aB 0)
def Jx(aB:aJ)(aV:Bytes)(cS:Int):St:=⟨[(0,D.sl (aB.map tx)),(1,D.str aV),(5,D.int .i64 cS)],[]⟩
theorem Hi(hΓ:Γ.nt=18){aB:aJ}{aV:Bytes}{r:Bool}{k1:Option Bool}(cW:k1=some r->Ax Γ N f250 (.q [[none]] (D.bool r)) [1,1] ⟨[],[]⟩)(hm1:aB.length<=maxLen):∀(rest:aJ) (i1:Nat),aB.drop i1=rest->jq aB aV k1 rest i1=some r->Ar Γ N f250 (.q [[none]] (D.bool r)) [1,0,1,0] (rest.length+1) (Jx aB aV (i1:Int)):=by
 intro rest
 induction rest with
 |nil=>
  intro i1 aj h;rw[jq]at h;refine aN fun N1 bw bg=>?_
  exact((aU.ge tx aj).a [.hl 0 [] []]).ex hΓ bw (cW h)
 |cons bD bZ ih1=>
  intro i1 aj h;rw[jq]at h;refine aN fun N1 bw bg=>?_
  have dJ:=((aU.lt tx aj).l (ax tx 1 (dc aj) rfl))
  obtain⟨h13,h⟩|⟨h13,h⟩:=aL h
  ·have h:=aG h;subst h;exact(dJ.b h13).ret hΓ
  ·exact((dJ.b h13).a [.cn [0,1,5] []]).ct hΓ bg (iS aj hm1) (ih1 (i1+1) (dn aj) h)
theorem n9{aB:aJ}{aV:Bytes}{r:Bool}(h:gz aB aV=some r):Good prog 250 [D.sl (aB.map tx),D.str aV] (D.bool r):=by
 refine gd func250 [[none]] 18 fun hr Γ hΓ=>?_
 rw[gz]at h;refine(aU.a [.cn [0,1,5] []]).lp hΓ (Hi hΓ (fun h=>?_) (by have:=(dW.sl (hr _ (aC (i:=0) rfl))).1;simpa using this) aB 0 rfl h);have h:=aG h;subst h;exact aU.ret hΓ
def sB(aB:aQ):Option Bool:=((s9 aB).bind fun y1=>(bif y1 then(some (decide ((aB.kind:Int)>=3)))else(some false)))
theorem uB{aB:aQ}{r:Bool}(h:sB aB=some r):Good prog 251 [D.agg (aQ.c aB)] (D.bool r):=by
 refine gd func251 [[none]] 10 fun hr Γ hΓ=>?_
 rw[sB]at h;obtain⟨y1,h2,h⟩:=aD h;obtain⟨h3,h⟩|⟨h3,h⟩:=aL h
 ·cases h;exact((aU.g (qS h2)).r 4 h3).ret hΓ
 ·have h:=aG h;subst h;exact((aU.g (qS h2)).r 4 h3).ret hΓ
def fk(aB:aO)(aV:Int)(cX:Bytes)(k1:Option Bool):aq->Nat->Option Bool
 | [],i1=>(k1)
 |bD::bZ,i1=>(bif ((i1:Int):Int) != aV then((mc bD).bind fun GF=>((gz GF cX).bind fun IK=>(bif IK then(some true)else(fk aB aV cX k1 bZ (i1+1)))))else(fk aB aV cX k1 bZ (i1+1)))
def iP(aB:aO)(cX:Bytes)(k2:Option Bool):c8->Nat->Option Bool
 | [],i2=>(k2)
 |lU::wg,i2=>((ny lU.pat).bind fun y67=>((gz y67 cX).bind fun y69=>(bif y69 then(some true)else(iP aB cX k2 wg (i2+1)))))
def nh(aB:aO)(aV:Int)(cX:Bytes):Option Bool:=(fk aB aV cX (iP aB cX (some false) aB.cu 0) aB.conds 0)
def G5(aB:aO)(aV:Int)(cX:Bytes)(cS:Int):St:=⟨[(1,D.int .i64 aV),(2,D.str cX),(3,D.ptr 0 0),(7,D.int .i64 cS)],[Ob.box (aO.c aB)]⟩
theorem Ej(hΓ:Γ.nt=45){aB:aO}{aV:Int}{cX:Bytes}{r:Bool}{k1:Option Bool}(cW:k1=some r->Ax Γ N f252 (.q [[none]] (D.bool r)) [1,1] ⟨[(2,D.str cX),(3,D.ptr 0 0)],[Ob.box (aO.c aB)]⟩)(hm1:aB.conds.length<=maxLen):∀(rest:aq) (i1:Nat),aB.conds.drop i1=rest->fk aB aV cX k1 rest i1=some r->Ar Γ N f252 (.q [[none]] (D.bool r)) [1,0,1,0] (rest.length+1) (G5 aB aV cX (i1:Int)):=by
 intro rest
 induction rest with
 |nil=>
  intro i1 aj h;rw[fk]at h;refine aN fun N1 bw bg=>?_
  exact((aU.ge aQ.c aj).a [.hl 0 [2,3] [0]]).ex hΓ bw (cW h)
 |cons bD bZ ih1=>
  intro i1 aj h;rw[fk]at h;refine aN fun N1 bw bg=>?_
  obtain⟨h33,h⟩|⟨h33,h⟩:=aL h
  ·obtain⟨GF,h35,h⟩:=aD h;obtain⟨IK,h37,h⟩:=aD h;have ja:=((((((((aU.lt aQ.c aj).r 4 h33).l (ax aQ.c 5 (dc aj) rfl)).r 2 h33).g (rP h35)).r 2 h33).g (n9 h37)).b h33)
   obtain⟨h38,h⟩|⟨h38,h⟩:=aL h
   ·have h:=aG h;subst h;exact(ja.b h38).ret hΓ
   ·exact((ja.b h38).a [.cn [1,2,3,7] [0]]).ct hΓ bg (iS aj hm1) (ih1 (i1+1) (dn aj) h)
  ·exact((((aU.lt aQ.c aj).r 9 h33).F 1).a [.cn [1,2,3,7] [0]]).ct hΓ bg (iS aj hm1) (ih1 (i1+1) (dn aj) h)
def G6(aB:aO)(cX:Bytes)(cS:Int):St:=⟨[(2,D.str cX),(3,D.ptr 0 0),(8,D.int .i64 cS)],[Ob.box (aO.c aB)]⟩
theorem Ek(hΓ:Γ.nt=45){aB:aO}{cX:Bytes}{r:Bool}{k2:Option Bool}(Cf:k2=some r->Ax Γ N f252 (.q [[none]] (D.bool r)) [1,1,1] ⟨[],[]⟩)(hm2:aB.cu.length<=maxLen):∀(rest:c8) (i2:Nat),aB.cu.drop i2=rest->iP aB cX k2 rest i2=some r->Ar Γ N f252 (.q [[none]] (D.bool r)) [1,1,0,1,0] (rest.length+1) (G6 aB cX (i2:Int)):=by
 intro rest
 induction rest with
 |nil=>
  intro i2 hd2 h;rw[iP]at h;refine aN fun N2 xa ur=>?_
  exact((aU.ge Action.c hd2).a [.hl 0 [] []]).ex hΓ xa (Cf h)
 |cons lU wg ih2=>
  intro i2 hd2 h;rw[iP]at h;refine aN fun N2 xa ur=>?_
  obtain⟨y67,h68,h⟩:=aD h;obtain⟨y69,h70,h⟩:=aD h;have iY:=((((aU.lt Action.c hd2).l (ax Action.c 3 (dc hd2) rfl)).g (qU h68)).g (n9 h70))
  obtain⟨h71,h⟩|⟨h71,h⟩:=aL h
  ·have h:=aG h;subst h;exact(iY.b h71).ret hΓ
  ·exact((iY.b h71).a [.cn [2,3,8] [0]]).ct hΓ ur (iS hd2 hm2) (ih2 (i2+1) (dn hd2) h)
theorem yP{aB:aO}{aV:Int}{cX:Bytes}{r:Bool}(h:nh aB aV cX=some r):Good prog 252 [D.agg (aO.c aB),D.int .i64 aV,D.str cX] (D.bool r):=by
 refine gd func252 [[none]] 45 fun hr Γ hΓ=>?_
 rw[nh]at h;refine(aU.a [.cn [1,2,3,7] [0]]).lp hΓ (Ej hΓ (fun h=>?_) (by have:=(dW.sl (dW.agg (hr _ (aC (i:=0) rfl)) (.sl (aB.conds.map aQ.c)) (by simp))).1;simpa using this) aB.conds 0 rfl h);refine(aU.a [.cn [2,3,8] [0]]).lp hΓ (Ek hΓ (fun h=>?_) (by have:=(dW.sl (dW.agg (hr _ (aC (i:=0) rfl)) (.sl (aB.cu.map Action.c)) (by simp))).1;simpa using this) aB.cu 0 rfl h);have h:=aG h;subst h;exact aU.ret hΓ
def uf(aB:Action):Option Bool:=(bif (aB.kind:Int)==1 then((jQ aB.pat).bind fun y2=>(some y2))else(bif (aB.kind:Int)==2 then((jQ aB.pat).bind fun y5=>(some y5))else(bif (aB.kind:Int)==3 then(bif (aB.pat.rel:Bytes)==([])then(some ((((aB.pat.args.map tx).length:Int):Int)==0))else(some false))else(some false))))
theorem HU{aB:Action}{r:Bool}(h:uf aB=some r):Good prog 253 [D.agg (Action.c aB)] (D.bool r):=by
 refine gd func253 [[none]] 24 fun hr Γ hΓ=>?_
 rw[uf]at h;obtain⟨h1,h⟩|⟨h1,h⟩:=aL h
 ·obtain⟨y2,h3,h⟩:=aD h;have h:=aG h;subst h;exact((aU.r 2 h1).g (k6 h3)).ret hΓ
 ·obtain⟨h4,h⟩|⟨h4,h⟩:=aL h
  ·obtain⟨y5,h6,h⟩:=aD h;have h:=aG h;subst h;exact(((aU.b h1).b h4).g (k6 h6)).ret hΓ
  ·have kC:=((aU.b h1).b h4)
   obtain⟨h7,h⟩|⟨h7,h⟩:=aL h
   ·obtain⟨h8,h⟩|⟨h8,h⟩:=aL h
    ·cases h;exact((kC.b h7).r 6 h8).ret hΓ
    ·have h:=aG h;subst h;exact((kC.b h7).r 6 h8).ret hΓ
   ·have h:=aG h;subst h;exact(kC.b h7).ret hΓ
def kX(aB:aO)(i1:Nat)(CX:aJ)(k2:aJ->Option aJ):aJ->Nat->aJ->Option aJ
 | [],i2,kB=>(k2 kB)
 |lU::wg,i2,kB=>((lz kB lU).bind fun a8i=>(kX aB i1 CX k2 wg (i2+1) a8i))
def j8(aB:aO)(k1:aJ->Option aJ):aq->Nat->aJ->Option aJ
 | [],i1,bu=>(k1 bu)
 |bD::bZ,i1,bu=>((mc bD).bind fun CX=>(bif decide (CX.length<=maxLen)then(kX aB i1 CX (fun(yw:aJ)=>(j8 aB k1 bZ (i1+1) yw)) CX 0 bu)else none))
def kY(aB:aO)(i3:Nat)(O4:aJ)(k4:aJ->Option aJ):aJ->Nat->aJ->Option aJ
 | [],i4,UE=>(k4 UE)
 |x4_::xs4,i4,UE=>((lz UE x4_).bind fun a8k=>(kY aB i3 O4 k4 xs4 (i4+1) a8k))
def gl(aB:aO)(k3:aJ->Option aJ):c8->Nat->aJ->Option aJ
 | [],i3,Am=>(k3 Am)
 |WJ::UF,i3,Am=>((ny WJ.pat).bind fun O4=>(bif decide (O4.length<=maxLen)then(kY aB i3 O4 (fun(a04:aJ)=>(gl aB k3 UF (i3+1) a04)) O4 0 Am)else none))
def uh(aB:aO):Option aJ:=(j8 aB (fun(td:aJ)=>(gl aB (fun(a2i:aJ)=>(some a2i)) aB.cu 0 td)) aB.conds 0 ([]:aJ))
def Lr(aB:aO)(W0:List aR)(cS:Int):St:=⟨[(1,D.ptr 0 0),(3,D.acc 1),(4,D.int .i64 cS)],[Ob.box (aO.c aB),Ob.row .uq 9 1 W0]⟩
def Ls(aB:aO)(i1:Nat)(CX:aJ)(W0:List aR)(cS:Int):St:=⟨[(1,D.ptr 0 0),(3,D.acc 1),(4,D.int .i64 (i1:Int)),(5,D.acc 2),(6,D.int .i64 cS)],[Ob.box (aO.c aB),Ob.row .uq 9 1 W0,Ob.row .uq 9 1 (CX.map tx)]⟩
theorem Jt(hΓ:Γ.nt=63){aB:aO}{i1:Nat}{CX:aJ}{r:aJ}{k2:aJ->Option aJ}(Cf:∀(yw:aJ),k2 yw=some r->Ax Γ N f255 (.q [[some (9,1)]] (D.fr 9 1 (r.map tx))) [1,1,0,1,0,0,1,1] ⟨[(1,D.ptr 0 0),(3,D.acc 1),(4,D.int .i64 (i1:Int))],[Ob.box (aO.c aB),Ob.row .uq 9 1 (yw.map tx)]⟩)(hm2:CX.length<=maxLen):∀(rest:aJ) (i2:Nat) (kB:aJ),CX.drop i2=rest->kX aB i1 CX k2 rest i2 kB=some r->Ar Γ N f255 (.q [[some (9,1)]] (D.fr 9 1 (r.map tx))) [1,1,0,1,0,0,1,0,0,1,1,0] (rest.length+1) (Ls aB i1 CX (kB.map tx) (i2:Int)):=by
 intro rest
 induction rest with
 |nil=>
  intro i2 kB hd2 h;rw[kX]at h;refine aN fun N2 xa ur=>?_
  exact((aU.ge tx hd2).a [.hl 3 [1,3,4] [0,1]]).ex hΓ xa (Cf kB h)
 |cons lU wg ih2=>
  intro i2 kB hd2 h;rw[kX]at h;refine aN fun N2 xa ur=>?_
  obtain⟨a8i,h172,h⟩:=aD h;exact(((((aU.lt tx hd2).i (pV tx 1 (dc hd2))).o 1 1 .uq (dF tx (dc hd2))).g (mB h172)).a [.cn [1,3,4,5,6] [0,3,2]]).ct hΓ ur (iS hd2 hm2) (ih2 (i2+1) a8i (dn hd2) h)
theorem Js(hΓ:Γ.nt=63){aB:aO}{r:aJ}{k1:aJ->Option aJ}(cW:∀(td:aJ),k1 td=some r->Ax Γ N f255 (.q [[some (9,1)]] (D.fr 9 1 (r.map tx))) [1,1,1] ⟨[(1,D.ptr 0 0),(3,D.acc 1)],[Ob.box (aO.c aB),Ob.row .uq 9 1 (td.map tx)]⟩)(hm1:aB.conds.length<=maxLen):∀(rest:aq) (i1:Nat) (bu:aJ),aB.conds.drop i1=rest->j8 aB k1 rest i1 bu=some r->Ar Γ N f255 (.q [[some (9,1)]] (D.fr 9 1 (r.map tx))) [1,1,0,1,0] (rest.length+1) (Lr aB (bu.map tx) (i1:Int)):=by
 intro rest
 induction rest with
 |nil=>
  intro i1 bu aj h;rw[j8]at h;refine aN fun N1 bw bg=>?_
  exact((aU.ge aQ.c aj).a [.hl 0 [1,3] [0,1]]).ex hΓ bw (cW bu h)
 |cons bD bZ ih1=>
  intro i1 bu aj h;rw[j8]at h;refine aN fun N1 bw bg=>?_
  obtain⟨CX,h148,h⟩:=aD h;obtain⟨h173,h⟩:=bV h;refine((((aU.lt aQ.c aj).l (ax aQ.c 5 (dc aj) rfl)).g (rP h148)).a [.cn [1,3,4,5,6] [0,1,2]]).lp hΓ (Jt hΓ (fun yw h=>?_) (bt h173) CX 0 bu rfl h);exact(aU.a [.cn [1,3,4] [0,1]]).ct hΓ bg (iS aj hm1) (ih1 (i1+1) yw (dn aj) h)
def Lt(aB:aO)(W0:List aR)(cS:Int):St:=⟨[(1,D.ptr 0 0),(3,D.acc 1),(7,D.int .i64 cS)],[Ob.box (aO.c aB),Ob.row .uq 9 1 W0]⟩
def Lu(aB:aO)(i3:Nat)(O4:aJ)(W0:List aR)(cS:Int):St:=⟨[(1,D.ptr 0 0),(3,D.acc 1),(7,D.int .i64 (i3:Int)),(8,D.acc 2),(9,D.int .i64 cS)],[Ob.box (aO.c aB),Ob.row .uq 9 1 W0,Ob.row .uq 9 1 (O4.map tx)]⟩
theorem Jv(hΓ:Γ.nt=63){aB:aO}{i3:Nat}{O4:aJ}{r:aJ}{k4:aJ->Option aJ}(hE4:∀(a04:aJ),k4 a04=some r->Ax Γ N f255 (.q [[some (9,1)]] (D.fr 9 1 (r.map tx))) [1,1,1,0,1,0,0,1,1] ⟨[(1,D.ptr 0 0),(3,D.acc 1),(7,D.int .i64 (i3:Int))],[Ob.box (aO.c aB),Ob.row .uq 9 1 (a04.map tx)]⟩)(hm4:O4.length<=maxLen):∀(rest:aJ) (i4:Nat) (UE:aJ),O4.drop i4=rest->kY aB i3 O4 k4 rest i4 UE=some r->Ar Γ N f255 (.q [[some (9,1)]] (D.fr 9 1 (r.map tx))) [1,1,1,0,1,0,0,1,0,0,1,1,0] (rest.length+1) (Lu aB i3 O4 (UE.map tx) (i4:Int)):=by
 intro rest
 induction rest with
 |nil=>
  intro i4 UE Wu h;rw[kY]at h;refine aN fun N4 hN4 hS4=>?_
  exact((aU.ge tx Wu).a [.hl 3 [1,3,7] [0,1]]).ex hΓ hN4 (hE4 UE h)
 |cons x4_ xs4 ih4=>
  intro i4 UE Wu h;rw[kY]at h;refine aN fun N4 hN4 hS4=>?_
  obtain⟨a8k,h345,h⟩:=aD h;exact(((((aU.lt tx Wu).i (pV tx 1 (dc Wu))).o 1 1 .uq (dF tx (dc Wu))).g (mB h345)).a [.cn [1,3,7,8,9] [0,3,2]]).ct hΓ hS4 (iS Wu hm4) (ih4 (i4+1) a8k (dn Wu) h)
theorem Ju(hΓ:Γ.nt=63){aB:aO}{r:aJ}{k3:aJ->Option aJ}(hE3:∀(a2i:aJ),k3 a2i=some r->Ax Γ N f255 (.q [[some (9,1)]] (D.fr 9 1 (r.map tx))) [1,1,1,1] ⟨[(3,D.acc 0)],[Ob.row .uq 9 1 (a2i.map tx)]⟩)(Ww:aB.cu.length<=maxLen):∀(rest:c8) (i3:Nat) (Am:aJ),aB.cu.drop i3=rest->gl aB k3 rest i3 Am=some r->Ar Γ N f255 (.q [[some (9,1)]] (D.fr 9 1 (r.map tx))) [1,1,1,0,1,0] (rest.length+1) (Lt aB (Am.map tx) (i3:Int)):=by
 intro rest
 induction rest with
 |nil=>
  intro i3 Am BL h;rw[gl]at h;refine aN fun N3 YS TF=>?_
  exact((aU.ge Action.c BL).a [.hl 0 [3] [1]]).ex hΓ YS (hE3 Am h)
 |cons WJ UF ih3=>
  intro i3 Am BL h;rw[gl]at h;refine aN fun N3 YS TF=>?_
  obtain⟨O4,h321,h⟩:=aD h;obtain⟨h346,h⟩:=bV h;refine((((aU.lt Action.c BL).l (ax Action.c 3 (dc BL) rfl)).g (qU h321)).a [.cn [1,3,7,8,9] [0,1,2]]).lp hΓ (Jv hΓ (fun a04 h=>?_) (bt h346) O4 0 Am rfl h);exact(aU.a [.cn [1,3,7] [0,1]]).ct hΓ TF (iS BL Ww) (ih3 (i3+1) a04 (dn BL) h)
theorem Hg{aB:aO}{r:aJ}(h:uh aB=some r):Good prog 255 [D.agg (aO.c aB)] (D.fr 9 1 (r.map tx)):=by
 refine gd func255 [[some (9,1)]] 63 fun hr Γ hΓ=>?_
 rw[uh]at h;refine(aU.a [.cn [1,3,4] [0,1]]).lp hΓ (Js hΓ (fun td h=>?_) (by have:=(dW.sl (dW.agg (hr _ (aC (i:=0) rfl)) (.sl (aB.conds.map aQ.c)) (by simp))).1;simpa using this) aB.conds 0 ([]:aJ) rfl h);refine(aU.a [.cn [1,3,7] [0,1]]).lp hΓ (Ju hΓ (fun a2i h=>?_) (by have:=(dW.sl (dW.agg (hr _ (aC (i:=0) rfl)) (.sl (aB.cu.map Action.c)) (by simp))).1;simpa using this) aB.cu 0 td rfl h);have h:=aG h;subst h;exact aU.ret hΓ
def gE(aB:aO)(sJ:aJ)(i1:Nat)(bD:aQ)(O6:aJ)(GC:aJ)(k2:Option Bool):aJ->Nat->Option Bool
 | [],i2=>(k2)
 |lU::wg,i2=>((gz O6 lU).bind fun a8l=>((sB bD).bind fun aBP=>(bif aBP then(bif !(a8l)then(some false)else(bif (bD.kind:Int)==2 then(gE aB sJ i1 bD O6 GC k2 wg (i2+1))else(gE aB sJ i1 bD O6 GC k2 wg (i2+1))))else(bif (bD.kind:Int)==2 then(bif !(a8l)then((nh aB (i1:Int) lU).bind fun aBQ=>(bif aBQ then(some false)else(gE aB sJ i1 bD O6 GC k2 wg (i2+1))))else(gE aB sJ i1 bD O6 GC k2 wg (i2+1)))else(gE aB sJ i1 bD O6 GC k2 wg (i2+1))))))
def gF(aB:aO)(sJ:aJ)(i1:Nat)(bD:aQ)(O7:aJ)(GD:aJ)(k3:Option Bool):aJ->Nat->Option Bool
 | [],i3=>(k3)
 |WJ::UF,i3=>((gz O7 WJ).bind fun a8m=>((sB bD).bind fun aBS=>(bif aBS then(bif !(a8m)then(some false)else(bif (bD.kind:Int)==2 then(gF aB sJ i1 bD O7 GD k3 UF (i3+1))else(gF aB sJ i1 bD O7 GD k3 UF (i3+1))))else(bif (bD.kind:Int)==2 then(bif !(a8m)then((nh aB (i1:Int) WJ).bind fun aBT=>(bif aBT then(some false)else(gF aB sJ i1 bD O7 GD k3 UF (i3+1))))else(gF aB sJ i1 bD O7 GD k3 UF (i3+1)))else(gF aB sJ i1 bD O7 GD k3 UF (i3+1))))))
def lE(aB:aO)(sJ:aJ)(k1:Option Bool):aq->Nat->Option Bool
 | [],i1=>(k1)
 |bD::bZ,i1=>((s9 bD).bind fun aBO=>(bif !(aBO)then(some false)else(bif ((i1:Int):Int)==0 then(bif (bD.kind:Int) != 1 then(some false)else((nS aB (i1:Int)).bind fun O6=>((mc bD).bind fun GC=>(bif decide (GC.length<=maxLen)then(gE aB sJ i1 bD O6 GC (lE aB sJ k1 bZ (i1+1)) GC 0)else none))))else((nS aB (i1:Int)).bind fun O7=>((mc bD).bind fun GD=>(bif decide (GD.length<=maxLen)then(gF aB sJ i1 bD O7 GD (lE aB sJ k1 bZ (i1+1)) GD 0)else none))))))
def nW(aB:aO)(sJ:aJ)(i4:Nat)(O8:aJ)(k5:Option Bool):aJ->Nat->Option Bool
 | [],i5=>(k5)
 |x5_::xs5,i5=>((gz sJ x5_).bind fun aBW=>(bif !(aBW)then(some false)else(nW aB sJ i4 O8 k5 xs5 (i5+1))))
def nV(aB:aO)(sJ:aJ)(k4:Option Bool):c8->Nat->Option Bool
 | [],i4=>(k4)
 |x4_::xs4,i4=>((uf x4_).bind fun aBV=>(bif !(aBV)then(some false)else((ny x4_.pat).bind fun O8=>(bif decide (O8.length<=maxLen)then(nW aB sJ i4 O8 (nV aB sJ k4 xs4 (i4+1)) O8 0)else none))))
def xW(aB:aO):Option Bool:=((sA aB.name).bind fun y1=>(bif !(y1)then(some false)else((lI aB.prio 0 9).bind fun y4=>(bif !(y4)then(some false)else((lI ((aB.conds.map aQ.c).length:Int) 1 4).bind fun y7=>(bif !(y7)then(some false)else((lI ((aB.cu.map Action.c).length:Int) 1 2).bind fun Oz=>(bif !(Oz)then(some false)else((nS aB ((aB.conds.map aQ.c).length:Int)).bind fun sJ=>(lE aB sJ (nV aB sJ ((uh aB).bind fun aBX=>(some (decide ((((aBX.map tx).length:Int):Int)<=6)))) aB.cu 0) aB.conds 0))))))))))
def OP(aB:aO)(sJ:aJ)(cS:Int):St:=⟨[(1,D.ptr 0 0),(3,D.acc 1),(4,D.int .i64 cS)],[Ob.box (aO.c aB),Ob.row .uq 9 1 (sJ.map tx)]⟩
def OQ(aB:aO)(sJ:aJ)(i1:Nat)(bD:aQ)(O6:aJ)(GC:aJ)(cS:Int):St:=⟨[(1,D.ptr 0 0),(3,D.acc 1),(4,D.int .i64 (i1:Int)),(5,D.ptr 2 0),(6,D.acc 3),(7,D.acc 4),(8,D.int .i64 cS)],[Ob.box (aO.c aB),Ob.row .uq 9 1 (sJ.map tx),Ob.box [D.int .i64 bD.kind,D.str bD.pat.rel,D.sl (bD.pat.args.map tx),D.str bD.left,D.str bD.right],Ob.row .uq 9 1 (O6.map tx),Ob.row .uq 9 1 (GC.map tx)]⟩
theorem N8(hΓ:Γ.nt=145){aB:aO}{sJ:aJ}{i1:Nat}{bD:aQ}{O6:aJ}{GC:aJ}{r:Bool}{k2:Option Bool}(Cf:k2=some r->Ax Γ N f196 (.q [[none]] (D.bool r)) [1,1,1,0,1,0,0,1,1] ⟨[(1,D.ptr 0 0),(3,D.acc 1),(4,D.int .i64 (i1:Int))],[Ob.box (aO.c aB),Ob.row .uq 9 1 (sJ.map tx)]⟩)(hm2:GC.length<=maxLen):∀(rest:aJ) (i2:Nat),GC.drop i2=rest->gE aB sJ i1 bD O6 GC k2 rest i2=some r->Ar Γ N f196 (.q [[none]] (D.bool r)) [1,1,1,0,1,0,0,1,0,0,1,1,1,1,1,0] (rest.length+1) (OQ aB sJ i1 bD O6 GC (i2:Int)):=by
 intro rest
 induction rest with
 |nil=>
  intro i2 hd2 h;rw[gE]at h;refine aN fun N2 xa ur=>?_
  exact((aU.ge tx hd2).a [.hl 3 [1,3,4] [0,1]]).ex hΓ xa (Cf h)
 |cons lU wg ih2=>
  intro i2 hd2 h;rw[gE]at h;refine aN fun N2 xa ur=>?_
  obtain⟨a8l,h711,h⟩:=aD h;obtain⟨aBP,h713,h⟩:=aD h;have a68:=((((((aU.lt tx hd2).i (pV tx 1 (dc hd2))).o 1 1 .uq (dF tx (dc hd2))).g (n9 h711)).a [.n 21]).g (uB h713))
  obtain⟨h714,h⟩|⟨h714,h⟩:=aL h
  ·have a69:=(a68.r 3 h714)
   obtain⟨h715,h⟩|⟨h715,h⟩:=aL h
   ·have h:=aG h;subst h;exact((((((a69.r 4 h715).a [bF,bF]).r 2 h715).a [bF,bF,bF,bF,bF,bF,bF]).r 2 h715).T 1).ret hΓ
   ·have a6A:=(a69.r 4 h715)
    obtain⟨h716,h⟩|⟨h716,h⟩:=aL h
    ·exact((((((a6A.r 2 h716).b h715).b h716).r 11 h715).F 1).a [.cn [1,3,4,5,6,7,8] [0,1,2,3,4]]).ct hΓ ur (iS hd2 hm2) (ih2 (i2+1) (dn hd2) h)
    ·exact((((((((((a6A.r 2 h716).b h715).b h716).b h715).F 7).b h715).F 1).b h715).F 1).a [.cn [1,3,4,5,6,7,8] [0,1,2,3,4]]).ct hΓ ur (iS hd2 hm2) (ih2 (i2+1) (dn hd2) h)
  ·have a6B:=((a68.r 3 h714).F 4)
   obtain⟨h717,h⟩|⟨h717,h⟩:=aL h
   ·have a6C:=((((a6B.r 2 h717).F 1).b h717).F 1)
    obtain⟨h718,h⟩|⟨h718,h⟩:=aL h
    ·obtain⟨aBQ,h720,h⟩:=aD h;have a6D:=(((((((((a6C.r 5 h718).i (pV tx 1 (dc hd2))).b h718).o 1 1 .uq (dF tx (dc hd2))).b h718).g (yP h720)).F 1).b h718).F 1)
     obtain⟨h721,h⟩|⟨h721,h⟩:=aL h
     ·have h:=aG h;subst h;exact(a6D.b h721).ret hΓ
     ·exact((a6D.b h721).a [.cn [1,3,4,5,6,7,8] [0,1,2,3,4]]).ct hΓ ur (iS hd2 hm2) (ih2 (i2+1) (dn hd2) h)
    ·exact(((((a6C.r 7 h718).F 1).b h718).F 2).a [.cn [1,3,4,5,6,7,8] [0,1,2,3,4]]).ct hΓ ur (iS hd2 hm2) (ih2 (i2+1) (dn hd2) h)
   ·exact(((((a6B.r 2 h717).F 1).b h717).F 12).a [.cn [1,3,4,5,6,7,8] [0,1,2,3,4]]).ct hΓ ur (iS hd2 hm2) (ih2 (i2+1) (dn hd2) h)
def OR(aB:aO)(sJ:aJ)(i1:Nat)(bD:aQ)(O7:aJ)(GD:aJ)(cS:Int):St:=⟨[(1,D.ptr 0 0),(3,D.acc 1),(4,D.int .i64 (i1:Int)),(5,D.ptr 2 0),(6,D.acc 3),(7,D.acc 4),(8,D.int .i64 cS)],[Ob.box (aO.c aB),Ob.row .uq 9 1 (sJ.map tx),Ob.box [D.int .i64 bD.kind,D.str bD.pat.rel,D.sl (bD.pat.args.map tx),D.str bD.left,D.str bD.right],Ob.row .uq 9 1 (O7.map tx),Ob.row .uq 9 1 (GD.map tx)]⟩
theorem N9(hΓ:Γ.nt=145){aB:aO}{sJ:aJ}{i1:Nat}{bD:aQ}{O7:aJ}{GD:aJ}{r:Bool}{k3:Option Bool}(hE3:k3=some r->Ax Γ N f196 (.q [[none]] (D.bool r)) [1,1,1,0,1,0,0,1,1] ⟨[(1,D.ptr 0 0),(3,D.acc 1),(4,D.int .i64 (i1:Int))],[Ob.box (aO.c aB),Ob.row .uq 9 1 (sJ.map tx)]⟩)(Ww:GD.length<=maxLen):∀(rest:aJ) (i3:Nat),GD.drop i3=rest->gF aB sJ i1 bD O7 GD k3 rest i3=some r->Ar Γ N f196 (.q [[none]] (D.bool r)) [1,1,1,0,1,0,0,1,0,0,1,1,1,1,1,0] (rest.length+1) (OR aB sJ i1 bD O7 GD (i3:Int)):=by
 intro rest
 induction rest with
 |nil=>
  intro i3 BL h;rw[gF]at h;refine aN fun N3 YS TF=>?_
  exact((aU.ge tx BL).a [.hl 3 [1,3,4] [0,1]]).ex hΓ YS (hE3 h)
 |cons WJ UF ih3=>
  intro i3 BL h;rw[gF]at h;refine aN fun N3 YS TF=>?_
  obtain⟨a8m,h786,h⟩:=aD h;obtain⟨aBS,h788,h⟩:=aD h;have a6E:=((((((aU.lt tx BL).i (pV tx 1 (dc BL))).o 1 1 .uq (dF tx (dc BL))).g (n9 h786)).a [.n 21]).g (uB h788))
  obtain⟨h789,h⟩|⟨h789,h⟩:=aL h
  ·have a6F:=(a6E.r 3 h789)
   obtain⟨h790,h⟩|⟨h790,h⟩:=aL h
   ·have h:=aG h;subst h;exact((((((a6F.r 4 h790).a [bF,bF]).r 2 h790).a [bF,bF,bF,bF,bF,bF,bF]).r 2 h790).T 1).ret hΓ
   ·have a6G:=(a6F.r 4 h790)
    obtain⟨h791,h⟩|⟨h791,h⟩:=aL h
    ·exact((((((a6G.r 2 h791).b h790).b h791).r 11 h790).F 1).a [.cn [1,3,4,5,6,7,8] [0,1,2,3,4]]).ct hΓ TF (iS BL Ww) (ih3 (i3+1) (dn BL) h)
    ·exact((((((((((a6G.r 2 h791).b h790).b h791).b h790).F 7).b h790).F 1).b h790).F 1).a [.cn [1,3,4,5,6,7,8] [0,1,2,3,4]]).ct hΓ TF (iS BL Ww) (ih3 (i3+1) (dn BL) h)
  ·have a6H:=((a6E.r 3 h789).F 4)
   obtain⟨h792,h⟩|⟨h792,h⟩:=aL h
   ·have a6I:=((((a6H.r 2 h792).F 1).b h792).F 1)
    obtain⟨h793,h⟩|⟨h793,h⟩:=aL h
    ·obtain⟨aBT,h795,h⟩:=aD h;have a6J:=(((((((((a6I.r 5 h793).i (pV tx 1 (dc BL))).b h793).o 1 1 .uq (dF tx (dc BL))).b h793).g (yP h795)).F 1).b h793).F 1)
     obtain⟨h796,h⟩|⟨h796,h⟩:=aL h
     ·have h:=aG h;subst h;exact(a6J.b h796).ret hΓ
     ·exact((a6J.b h796).a [.cn [1,3,4,5,6,7,8] [0,1,2,3,4]]).ct hΓ TF (iS BL Ww) (ih3 (i3+1) (dn BL) h)
    ·exact(((((a6I.r 7 h793).F 1).b h793).F 2).a [.cn [1,3,4,5,6,7,8] [0,1,2,3,4]]).ct hΓ TF (iS BL Ww) (ih3 (i3+1) (dn BL) h)
   ·exact(((((a6H.r 2 h792).F 1).b h792).F 12).a [.cn [1,3,4,5,6,7,8] [0,1,2,3,4]]).ct hΓ TF (iS BL Ww) (ih3 (i3+1) (dn BL) h)
theorem N7(hΓ:Γ.nt=145){aB:aO}{sJ:aJ}{r:Bool}{k1:Option Bool}(cW:k1=some r->Ax Γ N f196 (.q [[none]] (D.bool r)) [1,1,1,1] ⟨[(1,D.ptr 0 0),(3,D.acc 1)],[Ob.box (aO.c aB),Ob.row .uq 9 1 (sJ.map tx)]⟩)(hm1:aB.conds.length<=maxLen):∀(rest:aq) (i1:Nat),aB.conds.drop i1=rest->lE aB sJ k1 rest i1=some r->Ar Γ N f196 (.q [[none]] (D.bool r)) [1,1,1,0,1,0] (rest.length+1) (OP aB sJ (i1:Int)):=by
 intro rest
 induction rest with
 |nil=>
  intro i1 aj h;rw[lE]at h;refine aN fun N1 bw bg=>?_
  exact((aU.ge aQ.c aj).a [.hl 0 [1,3] [0,1]]).ex hΓ bw (cW h)
 |cons bD bZ ih1=>
  intro i1 aj h;rw[lE]at h;refine aN fun N1 bw bg=>?_
  obtain⟨aBO,h644,h⟩:=aD h;have a6K:=(((aU.lt aQ.c aj).l (ax aQ.c 5 (dc aj) rfl)).g (qS h644))
  obtain⟨h645,h⟩|⟨h645,h⟩:=aL h
  ·have h:=aG h;subst h;exact((((a6K.r 3 h645).a [bF,bF,bF]).r 2 h645).T 1).ret hΓ
  ·have a6L:=(a6K.r 3 h645)
   obtain⟨h646,h⟩|⟨h646,h⟩:=aL h
   ·have a6M:=((((a6L.r 3 h646).b h645).b h646).b h645)
    obtain⟨h647,h⟩|⟨h647,h⟩:=aL h
    ·have h:=aG h;subst h;exact(a6M.b h647).ret hΓ
    ·obtain⟨O6,h649,h⟩:=aD h;obtain⟨GC,h651,h⟩:=aD h;obtain⟨h722,h⟩:=bV h;refine((((a6M.b h647).g (ve h649)).g (rP h651)).a [.cn [1,3,4,5,6,7,8] [0,1,2,3,4]]).lp hΓ (N8 hΓ (fun h=>?_) (bt h722) GC 0 rfl h);exact(aU.a [.cn [1,3,4] [0,1]]).ct hΓ bg (iS aj hm1) (ih1 (i1+1) (dn aj) h)
   ·obtain⟨O7,h724,h⟩:=aD h;obtain⟨GD,h726,h⟩:=aD h;obtain⟨h797,h⟩:=bV h;refine((((((((a6L.r 3 h646).b h645).b h646).b h645).F 1).g (ve h724)).g (rP h726)).a [.cn [1,3,4,5,6,7,8] [0,1,2,3,4]]).lp hΓ (N9 hΓ (fun h=>?_) (bt h797) GD 0 rfl h);exact(aU.a [.cn [1,3,4] [0,1]]).ct hΓ bg (iS aj hm1) (ih1 (i1+1) (dn aj) h)
def OS(aB:aO)(sJ:aJ)(cS:Int):St:=⟨[(1,D.ptr 0 0),(3,D.acc 1),(10,D.int .i64 cS)],[Ob.box (aO.c aB),Ob.row .uq 9 1 (sJ.map tx)]⟩
def OT(aB:aO)(sJ:aJ)(i4:Nat)(O8:aJ)(cS:Int):St:=⟨[(1,D.ptr 0 0),(3,D.acc 1),(10,D.int .i64 (i4:Int)),(11,D.acc 2),(12,D.int .i64 cS)],[Ob.box (aO.c aB),Ob.row .uq 9 1 (sJ.map tx),Ob.row .uq 9 1 (O8.map tx)]⟩
theorem NB(hΓ:Γ.nt=145){aB:aO}{sJ:aJ}{i4:Nat}{O8:aJ}{r:Bool}{k5:Option Bool}(hE5:k5=some r->Ax Γ N f196 (.q [[none]] (D.bool r)) [1,1,1,1,0,1,0,0,1,1] ⟨[(1,D.ptr 0 0),(3,D.acc 1),(10,D.int .i64 (i4:Int))],[Ob.box (aO.c aB),Ob.row .uq 9 1 (sJ.map tx)]⟩)(hm5:O8.length<=maxLen):∀(rest:aJ) (i5:Nat),O8.drop i5=rest->nW aB sJ i4 O8 k5 rest i5=some r->Ar Γ N f196 (.q [[none]] (D.bool r)) [1,1,1,1,0,1,0,0,1,0,0,1,1,1,0] (rest.length+1) (OT aB sJ i4 O8 (i5:Int)):=by
 intro rest
 induction rest with
 |nil=>
  intro i5 hd5 h;rw[nW]at h;refine aN fun N5 hN5 hS5=>?_
  exact((aU.ge tx hd5).a [.hl 3 [1,3,10] [0,1]]).ex hΓ hN5 (hE5 h)
 |cons x5_ xs5 ih5=>
  intro i5 hd5 h;rw[nW]at h;refine aN fun N5 hN5 hS5=>?_
  obtain⟨aBW,h953,h⟩:=aD h;have a6N:=((((aU.lt tx hd5).i (pV tx 1 (dc hd5))).o 1 1 .uq (dF tx (dc hd5))).g (n9 h953))
  obtain⟨h954,h⟩|⟨h954,h⟩:=aL h
  ·have h:=aG h;subst h;exact(a6N.b h954).ret hΓ
  ·exact((a6N.b h954).a [.cn [1,3,10,11,12] [0,1,2]]).ct hΓ hS5 (iS hd5 hm5) (ih5 (i5+1) (dn hd5) h)
theorem NA(hΓ:Γ.nt=145){aB:aO}{sJ:aJ}{r:Bool}{k4:Option Bool}(hE4:k4=some r->Ax Γ N f196 (.q [[none]] (D.bool r)) [1,1,1,1,1] ⟨[(1,D.ptr 0 0)],[Ob.box (aO.c aB)]⟩)(hm4:aB.cu.length<=maxLen):∀(rest:c8) (i4:Nat),aB.cu.drop i4=rest->nV aB sJ k4 rest i4=some r->Ar Γ N f196 (.q [[none]] (D.bool r)) [1,1,1,1,0,1,0] (rest.length+1) (OS aB sJ (i4:Int)):=by
 intro rest
 induction rest with
 |nil=>
  intro i4 Wu h;rw[nV]at h;refine aN fun N4 hN4 hS4=>?_
  exact((aU.ge Action.c Wu).a [.hl 0 [1] [0]]).ex hΓ hN4 (hE4 h)
 |cons x4_ xs4 ih4=>
  intro i4 Wu h;rw[nV]at h;refine aN fun N4 hN4 hS4=>?_
  obtain⟨aBV,h927,h⟩:=aD h;have a6O:=(((aU.lt Action.c Wu).l (ax Action.c 3 (dc Wu) rfl)).g (HU h927))
  obtain⟨h928,h⟩|⟨h928,h⟩:=aL h
  ·have h:=aG h;subst h;exact(a6O.b h928).ret hΓ
  ·obtain⟨O8,h930,h⟩:=aD h;obtain⟨h955,h⟩:=bV h;refine((((a6O.b h928).l (ax Action.c 3 (dc Wu) rfl)).g (qU h930)).a [.cn [1,3,10,11,12] [0,1,2]]).lp hΓ (NB hΓ (fun h=>?_) (bt h955) O8 0 rfl h);exact(aU.a [.cn [1,3,10] [0,1]]).ct hΓ hS4 (iS Wu hm4) (ih4 (i4+1) (dn Wu) h)
theorem Ln{aB:aO}{r:Bool}(h:xW aB=some r):Good prog 196 [D.agg (aO.c aB)] (D.bool r):=by
 refine gd func196 [[none]] 145 fun hr Γ hΓ=>?_
 rw[xW]at h;obtain⟨y1,h2,h⟩:=aD h;obtain⟨h3,h⟩|⟨h3,h⟩:=aL h
 ·have h:=aG h;subst h;exact(((aU.g (nU h2)).r 5 h3).T 13).ret hΓ
 ·obtain⟨y4,h5,h⟩:=aD h;have a6P:=((((aU.g (nU h2)).r 3 h3).g (gH h5)).r 2 h3)
  obtain⟨h6,h⟩|⟨h6,h⟩:=aL h
  ·have h:=aG h;subst h;exact((a6P.r 6 h6).T 7).ret hΓ
  ·obtain⟨y7,h8,h⟩:=aD h;have a6Q:=(((a6P.r 4 h6).g (gH h8)).r 2 h6)
   obtain⟨h9,h⟩|⟨h9,h⟩:=aL h
   ·have h:=aG h;subst h;exact((a6Q.r 6 h9).T 1).ret hΓ
   ·obtain⟨Oz,h11,h⟩:=aD h;have a6R:=(((a6Q.r 4 h9).g (gH h11)).r 2 h9)
    obtain⟨h12,h⟩|⟨h12,h⟩:=aL h
    ·have h:=aG h;subst h;exact(a6R.b h12).ret hΓ
    ·obtain⟨sJ,h14,h⟩:=aD h;refine(((a6R.b h12).g (ve h14)).a [.cn [1,3,4] [0,1]]).lp hΓ (N7 hΓ (fun h=>?_) (by have:=(dW.sl (dW.agg (hr _ (aC (i:=0) rfl)) (.sl (aB.conds.map aQ.c)) (by simp))).1;simpa using this) aB.conds 0 rfl h);refine(aU.a [.cn [1,3,10] [0,1]]).lp hΓ (NA hΓ (fun h=>?_) (by have:=(dW.sl (dW.agg (hr _ (aC (i:=0) rfl)) (.sl (aB.cu.map Action.c)) (by simp))).1;simpa using this) aB.cu 0 rfl h);obtain⟨aBX,h957,h⟩:=aD h;cases h;exact(aU.g (Hg h957)).ret hΓ
def kV(aB:ar)(aV:Bytes)(k1:Option Int):ar->Nat->Option Int
 | [],i1=>(k1)
 |bD::bZ,i1=>(bif (bD.name:Bytes)==aV then(some (i1:Int))else(kV aB aV k1 bZ (i1+1)))
def ue(aB:ar)(aV:Bytes):Option Int:=(kV aB aV (some (-1)) aB 0)
def Lm(aB:ar)(aV:Bytes)(cS:Int):St:=⟨[(0,D.sl (aB.map aO.c)),(1,D.str aV),(5,D.int .i64 cS)],[]⟩
theorem Jl(hΓ:Γ.nt=20){aB:ar}{aV:Bytes}{r:Int}{k1:Option Int}(cW:k1=some r->Ax Γ N f197 (.q [[none]] (D.int .i64 r)) [1,1] ⟨[],[]⟩)(hm1:aB.length<=maxLen):∀(rest:ar) (i1:Nat),aB.drop i1=rest->kV aB aV k1 rest i1=some r->Ar Γ N f197 (.q [[none]] (D.int .i64 r)) [1,0,1,0] (rest.length+1) (Lm aB aV (i1:Int)):=by
 intro rest
 induction rest with
 |nil=>
  intro i1 aj h;rw[kV]at h;refine aN fun N1 bw bg=>?_
  exact((aU.ge aO.c aj).a [.hl 0 [] []]).ex hΓ bw (cW h)
 |cons bD bZ ih1=>
  intro i1 aj h;rw[kV]at h;refine aN fun N1 bw bg=>?_
  have dJ:=((aU.lt aO.c aj).l (ax aO.c 4 (dc aj) rfl))
  obtain⟨h13,h⟩|⟨h13,h⟩:=aL h
  ·cases h;exact(dJ.b h13).ret hΓ
  ·exact((dJ.b h13).a [.cn [0,1,5] []]).ct hΓ bg (iS aj hm1) (ih1 (i1+1) (dn aj) h)
theorem HT{aB:ar}{aV:Bytes}{r:Int}(h:ue aB aV=some r):Good prog 197 [D.sl (aB.map aO.c),D.str aV] (D.int .i64 r):=by
 refine gd func197 [[none]] 20 fun hr Γ hΓ=>?_
 rw[ue]at h;refine(aU.a [.cn [0,1,5] []]).lp hΓ (Jl hΓ (fun h=>?_) (by have:=(dW.sl (hr _ (aC (i:=0) rfl))).1;simpa using this) aB 0 rfl h);cases h;exact aU.ret hΓ
def kT(aB:ar)(k1:Option Bool):ar->Nat->Option Bool
 | [],i1=>(k1)
 |bD::bZ,i1=>((xW bD).bind fun BZ=>(bif !(BZ)then(some false)else((ue aB bD.name).bind fun IK=>(bif (IK:Int) != (i1:Int)then(some false)else(kT aB k1 bZ (i1+1))))))
def uc(aB:ar):Option Bool:=(kT aB (some (decide ((((aB.map aO.c).length:Int):Int)<=6))) aB 0)
def Li(aB:ar)(cS:Int):St:=⟨[(0,D.sl (aB.map aO.c)),(3,D.int .i64 cS)],[]⟩
theorem Jh(hΓ:Γ.nt=30){aB:ar}{r:Bool}{k1:Option Bool}(cW:k1=some r->Ax Γ N f131 (.q [[none]] (D.bool r)) [1,1] ⟨[(0,D.sl (aB.map aO.c))],[]⟩)(hm1:aB.length<=maxLen):∀(rest:ar) (i1:Nat),aB.drop i1=rest->kT aB k1 rest i1=some r->Ar Γ N f131 (.q [[none]] (D.bool r)) [1,0,1,0] (rest.length+1) (Li aB (i1:Int)):=by
 intro rest
 induction rest with
 |nil=>
  intro i1 aj h;rw[kT]at h;refine aN fun N1 bw bg=>?_
  exact((aU.ge aO.c aj).a [.hl 0 [0] []]).ex hΓ bw (cW h)
 |cons bD bZ ih1=>
  intro i1 aj h;rw[kT]at h;refine aN fun N1 bw bg=>?_
  obtain⟨BZ,h34,h⟩:=aD h;have ja:=(((aU.lt aO.c aj).l (ax aO.c 4 (dc aj) rfl)).g (Ln h34))
  obtain⟨h35,h⟩|⟨h35,h⟩:=aL h
  ·have h:=aG h;subst h;exact((ja.r 10 h35).T 1).ret hΓ
  ·obtain⟨IK,h37,h⟩:=aD h;have iY:=(((((ja.r 4 h35).l (ax aO.c 4 (dc aj) rfl)).r 3 h35).g (HT h37)).r 3 h35)
   obtain⟨h38,h⟩|⟨h38,h⟩:=aL h
   ·have h:=aG h;subst h;exact(iY.b h38).ret hΓ
   ·exact((iY.b h38).a [.cn [0,3] []]).ct hΓ bg (iS aj hm1) (ih1 (i1+1) (dn aj) h)
theorem AA{aB:ar}{r:Bool}(h:uc aB=some r):Good prog 131 [D.sl (aB.map aO.c)] (D.bool r):=by
 refine gd func131 [[none]] 30 fun hr Γ hΓ=>?_
 rw[uc]at h;refine(aU.a [.cn [0,3] []]).lp hΓ (Jh hΓ (fun h=>?_) (by have:=(dW.sl (hr _ (aC (i:=0) rfl))).1;simpa using this) aB 0 rfl h);cases h;exact aU.ret hΓ
def nq(aB:aT)(aV:Bytes)(k1:Option aT):aT->Nat->Option aT
 | [],i1=>(k1)
 |bD::bZ,i1=>(bif (bD.var:Bytes)==aV then(some aB)else(nq aB aV k1 bZ (i1+1)))
def pu(aB:aT)(aV:Bytes):Option aT:=((iR aV).bind fun y1=>(bif !(y1)then(some aB)else(nq aB aV ((qK (IntKind.i64.wrap (((aB.map aS.c).length:Int)+1))).bind fun y18=>(bif decide (([63]:Bytes).length+(y18:Bytes).length<=maxLen)then(bif room ((aB.map aS.c).length+([[D.str aV,D.str (([63])++y18)]]).length) 32 then(some (aB++([(⟨aV,([63])++y18⟩:aS)])))else none)else none)) aB 0)))
def OY(aB:aT)(aV:Bytes)(cS:Int):St:=⟨[(0,D.acc 0),(1,D.str aV),(5,D.int .i64 cS)],[Ob.row .uq 152 2 (aB.map aS.c)]⟩
theorem NQ(hΓ:Γ.nt=34){aB:aT}{aV:Bytes}{r:aT}{k1:Option aT}(cW:k1=some r->Ax Γ N f162 (.q [[some (152,2)]] (D.fr 152 2 (r.map aS.c))) [1,1,1] ⟨[(0,D.acc 0),(1,D.str aV)],[Ob.row .uq 152 2 (aB.map aS.c)]⟩)(hm1:aB.length<=maxLen):∀(rest:aT) (i1:Nat),aB.drop i1=rest->nq aB aV k1 rest i1=some r->Ar Γ N f162 (.q [[some (152,2)]] (D.fr 152 2 (r.map aS.c))) [1,1,0,1,0] (rest.length+1) (OY aB aV (i1:Int)):=by
 intro rest
 induction rest with
 |nil=>
  intro i1 aj h;rw[nq]at h;refine aN fun N1 bw bg=>?_
  exact((aU.ge aS.c aj).a [.hl 0 [0,1] [0]]).ex hΓ bw (cW h)
 |cons bD bZ ih1=>
  intro i1 aj h;rw[nq]at h;refine aN fun N1 bw bg=>?_
  have kC:=(((aU.lt aS.c aj).i (pV aS.c 2 (dc aj))).o 2 1 .uq (dF aS.c (dc aj)))
  obtain⟨h17,h⟩|⟨h17,h⟩:=aL h
  ·have h:=aG h;subst h;exact(kC.b h17).ret hΓ
  ·exact((kC.b h17).a [.cn [0,1,5] [0]]).ct hΓ bg (iS aj hm1) (ih1 (i1+1) (dn aj) h)
theorem uF{aB:aT}{aV:Bytes}{r:aT}(h:pu aB aV=some r):KH prog 162 [D.acc 0,D.str aV] 152 2 (aB.map aS.c) (r.map aS.c):=by
 refine KH.of (c:=lQ f162) func162 rfl (by decide) (by simp[f162]) (Dq (c:=aS.c) (fun _=>rfl) r) ?_;intro D4 Γ hΓ;have hΓ:Γ.nt=34:=hΓ;rw[pu]at h;refine(show AW prog Γ (lQ f162) (KQ prog Γ (fun _ _=>False) ((Kd.q [[some (152,2)]] (D.fr 152 2 (r.map aS.c))).qq prog f162) []) _ from ?_);obtain⟨y1,h2,h⟩:=aD h;obtain⟨h3,h⟩|⟨h3,h⟩:=aL h
 ·have h:=aG h;subst h;exact((aU.g (gL h2)).b h3).ret hΓ
 ·refine(((aU.g (gL h2)).b h3).a [.cn [0,1,5] [0]]).lp hΓ (NQ hΓ (fun h=>?_) (by simpa using D4) aB 0 rfl h);obtain⟨y18,h19,h⟩:=aD h;obtain⟨h20,h⟩:=bV h;obtain⟨h21,h⟩:=bV h;cases h;exact(((aU.g (vf h19)).w (bt h20)).w (cB h21)).rts hΓ (D.fr 152 2 ((aB.map aS.c)++([[D.str aV,D.str (([63])++y18)]]))) (by first|rfl| (simp only[mA]<;>rfl))
def j7(aB:aO)(i1:Nat)(bD:aQ)(k2:aT->Option aT):aJ->Nat->aT->Option aT
 | [],i2,kB=>(k2 kB)
 |lU::wg,i2,kB=>((pu kB lU).bind fun DB=>(j7 aB i1 bD k2 wg (i2+1) DB))
def j6(aB:aO)(k1:aT->Option aT):aq->Nat->aT->Option aT
 | [],i1,bu=>(k1 bu)
 |bD::bZ,i1,bu=>(bif decide (bD.pat.args.length<=maxLen)then(j7 aB i1 bD (fun(yw:aT)=>((pu yw bD.left).bind fun zc=>((pu zc bD.right).bind fun a3m=>(j6 aB k1 bZ (i1+1) a3m)))) bD.pat.args 0 bu)else none)
def rR(aB:aO):Option aT:=(j6 aB (fun(bP:aT)=>(some bP)) aB.conds 0 ([]:aT))
def He(aB:aO)(W0:List aR)(cS:Int):St:=⟨[(1,D.ptr 0 0),(3,D.acc 1),(4,D.int .i64 cS)],[Ob.box (aO.c aB),Ob.row .uq 152 2 W0]⟩
def Hf(aB:aO)(i1:Nat)(W0:List aR)(cS:Int):St:=⟨[(1,D.ptr 0 0),(3,D.acc 1),(4,D.int .i64 (i1:Int)),(5,D.int .i64 cS)],[Ob.box (aO.c aB),Ob.row .uq 152 2 W0]⟩
theorem G2(hΓ:Γ.nt=55){aB:aO}{i1:Nat}{bD:aQ}{r:aT}{k2:aT->Option aT}(Cf:∀(yw:aT),k2 yw=some r->Ax Γ N f92 (.q [[some (152,2)]] (D.fr 152 2 (r.map aS.c))) [1,1,0,1,0,0,1,0,0,1] ⟨[(1,D.ptr 0 0),(3,D.acc 1),(4,D.int .i64 (i1:Int))],[Ob.box (aO.c aB),Ob.row .uq 152 2 (yw.map aS.c)]⟩)(hx1:(aB.conds)[i1]?=some bD)(hm2:bD.pat.args.length<=maxLen):∀(rest:aJ) (i2:Nat) (kB:aT),bD.pat.args.drop i2=rest->j7 aB i1 bD k2 rest i2 kB=some r->Ar Γ N f92 (.q [[some (152,2)]] (D.fr 152 2 (r.map aS.c))) [1,1,0,1,0,0,1,0,0,0,1,0] (rest.length+1) (Hf aB i1 (kB.map aS.c) (i2:Int)):=by
 intro rest
 induction rest with
 |nil=>
  intro i2 kB hd2 h;rw[j7]at h;refine aN fun N2 xa ur=>?_
  exact(((aU.l (ax aQ.c 5 hx1 rfl)).ge tx hd2).a [.hl 5 [1,3,4] [0,1]]).ex hΓ xa (Cf kB h)
 |cons lU wg ih2=>
  intro i2 kB hd2 h;rw[j7]at h;refine aN fun N2 xa ur=>?_
  obtain⟨DB,h207,h⟩:=aD h;exact(((((((aU.l (ax aQ.c 5 hx1 rfl)).lt tx hd2).l (ax aQ.c 5 hx1 rfl)).l (ax tx 1 (dc hd2) rfl)).w (show(kB.map aS.c).flatten.all D.flat=true from by simpa only[bN,bH,bX]using Dq (c:=aS.c) (fun _=>rfl) kB)).w (show KH prog 162 [D.acc 0,D.str lU] 152 2 (kB.map aS.c) (DB.map aS.c)from by simpa only[bN,bH,bX]using uF h207)).a [.ov 1 (DB.map aS.c),.cn [1,3,4,5] [0,2]]).ct hΓ ur (iS hd2 hm2) (ih2 (i2+1) DB (dn hd2) h)
theorem G1(hΓ:Γ.nt=55){aB:aO}{r:aT}{k1:aT->Option aT}(cW:∀(bP:aT),k1 bP=some r->Ax Γ N f92 (.q [[some (152,2)]] (D.fr 152 2 (r.map aS.c))) [1,1,1] ⟨[(3,D.acc 0)],[Ob.row .uq 152 2 (bP.map aS.c)]⟩)(hm1:aB.conds.length<=maxLen):∀(rest:aq) (i1:Nat) (bu:aT),aB.conds.drop i1=rest->j6 aB k1 rest i1 bu=some r->Ar Γ N f92 (.q [[some (152,2)]] (D.fr 152 2 (r.map aS.c))) [1,1,0,1,0] (rest.length+1) (He aB (bu.map aS.c) (i1:Int)):=by
 intro rest
 induction rest with
 |nil=>
  intro i1 bu aj h;rw[j6]at h;refine aN fun N1 bw bg=>?_
  exact((aU.ge aQ.c aj).a [.hl 0 [3] [1]]).ex hΓ bw (cW bu h)
 |cons bD bZ ih1=>
  intro i1 bu aj h;rw[j6]at h;refine aN fun N1 bw bg=>?_
  obtain⟨h212,h⟩:=bV h;refine((aU.lt aQ.c aj).a [.cn [1,3,4,5] [0,1]]).lp hΓ (G2 hΓ (fun yw h=>?_) ((drop_cons aj).1) (bt h212) bD.pat.args 0 bu rfl h);obtain⟨zc,h209,h⟩:=aD h;obtain⟨a3m,h211,h⟩:=aD h;exact((((((((aU.l (ax aQ.c 5 (dc aj) rfl)).w (show(yw.map aS.c).flatten.all D.flat=true from by simpa only[bN,bH,bX]using Dq (c:=aS.c) (fun _=>rfl) yw)).w (show KH prog 162 [D.acc 0,D.str bD.left] 152 2 (yw.map aS.c) (zc.map aS.c)from by simpa only[bN,bH,bX]using uF h209)).a [.ov 1 (zc.map aS.c)]).l (ax aQ.c 5 (dc aj) rfl)).w (show(zc.map aS.c).flatten.all D.flat=true from by simpa only[bN,bH,bX]using Dq (c:=aS.c) (fun _=>rfl) zc)).w (show KH prog 162 [D.acc 0,D.str bD.right] 152 2 (zc.map aS.c) (a3m.map aS.c)from by simpa only[bN,bH,bX]using uF h211)).a [.ov 2 (a3m.map aS.c),.cn [1,3,4] [0,3]]).ct hΓ bg (iS aj hm1) (ih1 (i1+1) a3m (dn aj) h)
theorem Eh{aB:aO}{r:aT}(h:rR aB=some r):Good prog 92 [D.agg (aO.c aB)] (D.fr 152 2 (r.map aS.c)):=by
 refine gd func92 [[some (152,2)]] 55 fun hr Γ hΓ=>?_
 rw[rR]at h;refine(aU.a [.cn [1,3,4] [0,1]]).lp hΓ (G1 hΓ (fun bP h=>?_) (by have:=(dW.sl (dW.agg (hr _ (aC (i:=0) rfl)) (.sl (aB.conds.map aQ.c)) (by simp))).1;simpa using this) aB.conds 0 ([]:aT) rfl h);have h:=aG h;subst h;exact aU.ret hΓ
def lF(aB:aO)(y1:aT)(k1:aq->Option aq):aq->Nat->aq->Option aq
 | [],i1,bu=>(k1 bu)
 |bD::bZ,i1,bu=>((jw bD y1).bind fun IJ=>(bif room ((bu.map aQ.c).length+([[D.int .i64 IJ.kind,D.str IJ.pat.rel,D.sl (IJ.pat.args.map tx),D.str IJ.left,D.str IJ.right]]).length) 80 then(lF aB y1 k1 bZ (i1+1) (bu++([IJ])))else none))
def rQ(aB:aO):Option aq:=((rR aB).bind fun y1=>(lF aB y1 (fun(bP:aq)=>(some bP)) aB.conds 0 ([]:aq)))
def AD(aB:aO)(y1:aT)(W0:List aR)(cS:Int):St:=⟨[(1,D.ptr 0 0),(3,D.acc 1),(4,D.acc 2),(5,D.int .i64 cS)],[Ob.box (aO.c aB),Ob.row .uq 115 5 W0,Ob.row .uq 152 2 (y1.map aS.c)]⟩
theorem G0(hΓ:Γ.nt=27){aB:aO}{y1:aT}{r:aq}{k1:aq->Option aq}(cW:∀(bP:aq),k1 bP=some r->Ax Γ N f132 (.q [[some (115,5)]] (D.fr 115 5 (r.map aQ.c))) [1,1,1,1] ⟨[(3,D.acc 0)],[Ob.row .uq 115 5 (bP.map aQ.c)]⟩)(hm1:aB.conds.length<=maxLen):∀(rest:aq) (i1:Nat) (bu:aq),aB.conds.drop i1=rest->lF aB y1 k1 rest i1 bu=some r->Ar Γ N f132 (.q [[some (115,5)]] (D.fr 115 5 (r.map aQ.c))) [1,1,1,0,1,0] (rest.length+1) (AD aB y1 (bu.map aQ.c) (i1:Int)):=by
 intro rest
 induction rest with
 |nil=>
  intro i1 bu aj h;rw[lF]at h;refine aN fun N1 bw bg=>?_
  exact((aU.ge aQ.c aj).a [.hl 0 [3] [1]]).ex hΓ bw (cW bu h)
 |cons bD bZ ih1=>
  intro i1 bu aj h;rw[lF]at h;refine aN fun N1 bw bg=>?_
  obtain⟨IJ,h30,h⟩:=aD h;obtain⟨h31,h⟩:=bV h;exact(((((aU.lt aQ.c aj).l (ax aQ.c 5 (dc aj) rfl)).g (jT h30)).w (cB h31)).a [.cn [1,3,4,5] [0,5,2]]).cs hΓ bg (AD aB y1 ((bu.map aQ.c)++([[D.int .i64 IJ.kind,D.str IJ.pat.rel,D.sl (IJ.pat.args.map tx),D.str IJ.left,D.str IJ.right]])) (IntKind.i64.wrap ((i1:Int)+1))) (by first| (simp only[iS aj hm1,mA]<;>rfl)| (simp only[iS aj hm1,mA,aE.c,aS.c,aQ.c,Action.c,aO.c,aI.c,cr.c,aP.c,Node.c,aF.c,cv.c]<;>rfl)) (ih1 (i1+1) (bu++([IJ])) (dn aj) h)
theorem Eg{aB:aO}{r:aq}(h:rQ aB=some r):Good prog 132 [D.agg (aO.c aB)] (D.fr 115 5 (r.map aQ.c)):=by
 refine gd func132 [[some (115,5)]] 27 fun hr Γ hΓ=>?_
 rw[rQ]at h;obtain⟨y1,h2,h⟩:=aD h;refine((aU.g (Eh h2)).a [.cn [1,3,4,5] [0,1,2]]).lp hΓ (G0 hΓ (fun bP h=>?_) (by have:=(dW.sl (dW.agg (hr _ (aC (i:=0) rfl)) (.sl (aB.conds.map aQ.c)) (by simp))).1;simpa using this) aB.conds 0 ([]:aq) rfl h);have h:=aG h;subst h;exact aU.ret hΓ
def j9(aB:aE)(aV:aE):Option Bool:=(bif (aB.rel:Bytes)==aV.rel then((nY aB.args aV.args).bind fun y2=>(some y2))else(some false))
theorem tV{aB:aE}{aV:aE}{r:Bool}(h:j9 aB aV=some r):Good prog 148 [D.agg (aE.c aB),D.agg (aE.c aV)] (D.bool r):=by
 refine gd func148 [[none]] 17 fun hr Γ hΓ=>?_
 rw[j9]at h;obtain⟨h1,h⟩|⟨h1,h⟩:=aL h
 ·obtain⟨y2,h3,h⟩:=aD h;have h:=aG h;subst h;exact(((aU.r 5 h1).g (yO h3)).b h1).ret hΓ
 ·have h:=aG h;subst h;exact(aU.r 6 h1).ret hΓ
def p6(aB:aQ)(aV:aQ):Option Bool:=(bif (aB.kind:Int)==aV.kind then((j9 aB.pat aV.pat).bind fun y2=>(bif y2 then(bif (aB.left:Bytes)==aV.left then(some ((aB.right:Bytes)==aV.right))else(some false))else(some false)))else(some false))
theorem AF{aB:aQ}{aV:aQ}{r:Bool}(h:p6 aB aV=some r):Good prog 149 [D.agg (aQ.c aB),D.agg (aQ.c aV)] (D.bool r):=by
 refine gd func149 [[none]] 31 fun hr Γ hΓ=>?_
 rw[p6]at h;obtain⟨h1,h⟩|⟨h1,h⟩:=aL h
 ·obtain⟨y2,h3,h⟩:=aD h;have kC:=(((aU.r 5 h1).g (tV h3)).b h1)
  obtain⟨h4,h⟩|⟨h4,h⟩:=aL h
  ·have dJ:=(kC.r 6 h4)
   obtain⟨h5,h⟩|⟨h5,h⟩:=aL h
   ·cases h;exact(dJ.r 6 h5).ret hΓ
   ·have h:=aG h;subst h;exact(dJ.r 6 h5).ret hΓ
  ·have h:=aG h;subst h;exact((kC.r 6 h4).F 6).ret hΓ
 ·have h:=aG h;subst h;exact((aU.r 6 h1).F 12).ret hΓ
def lq(aB:aE)(k1:aT->Option aE):aJ->Nat->aT->Option aE
 | [],i1,fV=>(k1 fV)
 |bD::bZ,i1,fV=>((pu fV bD).bind fun lS=>(lq aB k1 bZ (i1+1) lS))
def tW(aB:aE):Option aE:=(lq aB (fun(sK:aT)=>((jw (⟨0,aB,[],[]⟩:aQ) sK).bind fun Rx=>(some Rx.pat))) aB.args 0 ([]:aT))
def ND(aB:aE)(W0:List aR)(cS:Int):St:=⟨[(1,D.ptr 0 0),(2,D.ptr 1 0),(3,D.acc 2),(4,D.int .i64 cS)],[Ob.box (aE.c aB),Ob.box [D.str ([]),D.nil],Ob.row .uq 152 2 W0]⟩
theorem Lv(hΓ:Γ.nt=25){aB:aE}{r:aE}{k1:aT->Option aE}(cW:∀(sK:aT),k1 sK=some r->Ax Γ N f199 (.q [[none,some (9,1)]] (D.agg [D.str r.rel,D.fr 9 1 (r.args.map tx)])) [1,1,1] ⟨[(1,D.ptr 0 0),(2,D.ptr 1 0),(3,D.acc 2)],[Ob.box (aE.c aB),Ob.box [D.str ([]),D.nil],Ob.row .uq 152 2 (sK.map aS.c)]⟩)(hm1:aB.args.length<=maxLen):∀(rest:aJ) (i1:Nat) (fV:aT),aB.args.drop i1=rest->lq aB k1 rest i1 fV=some r->Ar Γ N f199 (.q [[none,some (9,1)]] (D.agg [D.str r.rel,D.fr 9 1 (r.args.map tx)])) [1,1,0,1,0] (rest.length+1) (ND aB (fV.map aS.c) (i1:Int)):=by
 intro rest
 induction rest with
 |nil=>
  intro i1 fV aj h;rw[lq]at h;refine aN fun N1 bw bg=>?_
  exact((aU.ge tx aj).a [.hl 0 [1,2,3] [0,1,2]]).ex hΓ bw (cW fV h)
 |cons bD bZ ih1=>
  intro i1 fV aj h;rw[lq]at h;refine aN fun N1 bw bg=>?_
  obtain⟨lS,h23,h⟩:=aD h;exact(((((aU.lt tx aj).l (ax tx 1 (dc aj) rfl)).w (show(fV.map aS.c).flatten.all D.flat=true from by simpa only[bN,bH,bX]using Dq (c:=aS.c) (fun _=>rfl) fV)).w (show KH prog 162 [D.acc 0,D.str bD] 152 2 (fV.map aS.c) (lS.map aS.c)from by simpa only[bN,bH,bX]using uF h23)).a [.ov 2 (lS.map aS.c),.cn [1,2,3,4] [0,1,3]]).ct hΓ bg (iS aj hm1) (ih1 (i1+1) lS (dn aj) h)
theorem B4{aB:aE}{r:aE}(h:tW aB=some r):Good prog 199 [D.agg (aE.c aB)] (D.agg [D.str r.rel,D.fr 9 1 (r.args.map tx)]):=by
 refine gd func199 [[none,some (9,1)]] 25 fun hr Γ hΓ=>?_
 rw[tW]at h;refine(aU.a [.cn [1,2,3,4] [0,1,2]]).lp hΓ (Lv hΓ (fun sK h=>?_) (by have:=(dW.sl (dW.agg (hr _ (aC (i:=0) rfl)) (.sl (aB.args.map tx)) (by simp))).1;simpa using this) aB.args 0 ([]:aT) rfl h);obtain⟨Rx,h25,h⟩:=aD h;cases h;exact((aU.a [.d (D.agg [D.int .i64 Rx.kind,D.str Rx.pat.rel,D.fr 9 1 (Rx.pat.args.map tx),D.str Rx.left,D.str Rx.right])]).w (show Good prog 177 [D.agg [D.int .i64 0,D.str aB.rel,D.sl (aB.args.map tx),D.str ([]),D.str ([])],D.sl (sK.map aS.c)] (D.agg [D.int .i64 Rx.kind,D.str Rx.pat.rel,D.fr 9 1 (Rx.pat.args.map tx),D.str Rx.left,D.str Rx.right])from by first| (simpa only[bN,bH,bX,dB,dA]using jT h25)|exact jT h25| (have t:=jT h25;simp only[bN,dB,dA,aQ.c]at t;exact t))).ret hΓ
def cV(x:aF):aR:=[D.fr 105 4 (x.rules.map aO.c),D.fr 3 1 (x.ends.map dL),D.fr 111 3 (x.av.map aP.c),D.fr 118 8 (x.nodes.map Node.c),D.fr 53 2 (x.facts.map aE.c),D.int .i64 x.bz]
def mC(aB:aF)(aV:aE)(k1:Option (aF×Int)):b7->Nat->Option (aF×Int)
 | [],i1=>(k1)
 |bD::bZ,i1=>((j9 bD.shape aV).bind fun lS=>(bif lS then(some (aB,(i1:Int)))else(mC aB aV k1 bZ (i1+1))))
def tY(aB:aF)(aV:aE):Option (aF×Int):=(bif decide (aB.av.length<=maxLen)then(mC aB aV (bif room ((aB.av.map aP.c).length+([[D.str aV.rel,D.sl (aV.args.map tx),D.sl ([])]]).length) 64 then(some ((⟨aB.rules,aB.ends,aB.av++([(⟨aV,[]⟩:aP)]),aB.nodes,aB.facts,aB.bz⟩:aF),IntKind.i64.wrap ((((aB.av.map aP.c)++([[D.str aV.rel,D.sl (aV.args.map tx),D.sl ([])]])).length:Int)-1)))else none) aB.av 0)else none)
def NM(fM:Value)(aB:aF)(aV:aE)(cS:Int):St:=⟨[(0,D.ptr 0 0),(3,D.ptr 1 0),(5,D.int .i64 cS)],[Ob.Ph [D.acc 2,D.acc 3,D.acc 4,D.acc 5,D.acc 6,D.int .i64 aB.bz] fM,Ob.box [D.str aV.rel,D.acc 7],Ob.row .uq 105 4 (aB.rules.map aO.c),Ob.row .uq 3 1 (aB.ends.map dL),Ob.row .uq 111 3 (aB.av.map aP.c),Ob.row .uq 118 8 (aB.nodes.map Node.c),Ob.row .uq 53 2 (aB.facts.map aE.c),Ob.row .uq 9 1 (aV.args.map tx)]⟩
theorem M0(hΓ:Γ.nt=43){fM:Value}{aB:aF}{aV:aE}{r:aF×Int}{k1:Option (aF×Int)}(cW:k1=some r->Ax Γ N f198 (.p [[some (105,4),some (3,1),some (111,3),some (118,8),some (53,2),none],[none]] fM (cV r.1) (D.int .i64 r.2)) [1,1] ⟨[(0,D.ptr 0 0),(3,D.ptr 1 0)],[Ob.Ph [D.acc 2,D.acc 3,D.acc 4,D.acc 5,D.acc 6,D.int .i64 aB.bz] fM,Ob.box [D.str aV.rel,D.acc 7],Ob.row .uq 105 4 (aB.rules.map aO.c),Ob.row .uq 3 1 (aB.ends.map dL),Ob.row .uq 111 3 (aB.av.map aP.c),Ob.row .uq 118 8 (aB.nodes.map Node.c),Ob.row .uq 53 2 (aB.facts.map aE.c),Ob.row .uq 9 1 (aV.args.map tx)]⟩)(hm1:aB.av.length<=maxLen):∀(rest:b7) (i1:Nat),aB.av.drop i1=rest->mC aB aV k1 rest i1=some r->Ar Γ N f198 (.p [[some (105,4),some (3,1),some (111,3),some (118,8),some (53,2),none],[none]] fM (cV r.1) (D.int .i64 r.2)) [1,0,1,0] (rest.length+1) (NM fM aB aV (i1:Int)):=by
 intro rest
 induction rest with
 |nil=>
  intro i1 aj h;rw[mC]at h;refine aN fun N1 bw bg=>?_
  exact((aU.ge aP.c aj).a [.hl 0 [0,3] [0,1,2,3,4,5,6,7]]).ex hΓ bw (cW h)
 |cons bD bZ ih1=>
  intro i1 aj h;rw[mC]at h;refine aN fun N1 bw bg=>?_
  obtain⟨lS,h23,h⟩:=aD h;have dJ:=(((((aU.lt aP.c aj).a [.n 9]).i (pV aP.c 3 (dc aj))).o 3 2 .uq (dF aP.c (dc aj))).g (tV h23))
  obtain⟨h24,h⟩|⟨h24,h⟩:=aL h
  ·cases h;exact(dJ.b h24).ret hΓ
  ·exact((dJ.b h24).a [.cn [0,3,5] [0,1,2,3,4,5,6,7]]).ct hΓ bg (iS aj hm1) (ih1 (i1+1) (dn aj) h)
theorem B6{aB:aF}{aV:aE}{r:aF×Int}(h:tY aB aV=some r):Be prog 198 (cV aB) (cV r.1) [D.agg [D.str aV.rel,D.fr 9 1 (aV.args.map tx)]] (D.int .i64 r.2):=by
 refine gdP func198 [[some (105,4),some (3,1),some (111,3),some (118,8),some (53,2),none],[none]] 43 [D.acc 1,D.acc 2,D.acc 3,D.acc 4,D.acc 5,D.int .i64 aB.bz] [D.agg [D.str aV.rel,D.acc 6]] [Ob.row .uq 105 4 (aB.rules.map aO.c),Ob.row .uq 3 1 (aB.ends.map dL),Ob.row .uq 111 3 (aB.av.map aP.c),Ob.row .uq 118 8 (aB.nodes.map Node.c),Ob.row .uq 53 2 (aB.facts.map aE.c),Ob.row .uq 9 1 (aV.args.map tx)] fun hr fM Γ hΓ=>?_
 rw[tY]at h;obtain⟨h27,h⟩:=bV h;refine(aU.a [.cn [0,3,5] [0,7,1,2,3,4,5,6]]).lp hΓ (M0 hΓ (fun h=>?_) (bt h27) aB.av 0 rfl h);obtain⟨h26,h⟩:=bV h;cases h;exact((aU.w (cB h26)).a [.n2 [0,1,2,3,4,5,6,7,8,9,10,11] [0,1,2,3,4,5,6,7,8,9,10,11] 7 9 [0,1,2,3,4] [4,7,8]]).rts hΓ (D.gN [D.int .i64 (IntKind.i64.wrap ((((aB.av.map aP.c)++([[D.str aV.rel,D.sl (aV.args.map tx),D.sl ([])]])).length:Int)-1)),D.agg [D.fr 105 4 (aB.rules.map aO.c),D.fr 3 1 (aB.ends.map dL),D.fr 111 3 ((aB.av.map aP.c)++([[D.str aV.rel,D.sl (aV.args.map tx),D.sl ([])]])),D.fr 118 8 (aB.nodes.map Node.c),D.fr 53 2 (aB.facts.map aE.c),D.int .i64 aB.bz],D.val fM]) (by first|rfl| (simp only[mA]<;>rfl)| (simp only[cV,mA]<;>rfl))
def gM(aB:aF)(aV:Int)(cX:aQ)(k1:Option (aF×Int)):Nat->Int->Option (aF×Int)
 |0,_=>none
 |n1+1,rW=>(bif decide ((rW:Int)<((aB.nodes.map Node.c).length:Int))then((mJ aB.nodes rW).bind fun x16=>(bif (x16.parent:Int)==aV then((p6 x16.cond cX).bind fun y19=>(bif y19 then(some (aB,rW))else(gM aB aV cX k1 n1 (IntKind.i64.wrap (rW+1)))))else(gM aB aV cX k1 n1 (IntKind.i64.wrap (rW+1)))))else(k1))
def wV(aB:aF)(aV:Int)(cX:aQ):Option (aF×Int):=(gM aB aV cX ((k9 cX).bind fun lS=>(bif (cX.kind:Int)==1 then((tW cX.pat).bind fun Y0=>((tY aB Y0).bind fun q8=>(bif room ((q8.1.nodes.map Node.c).length+([[D.int .i64 aV,D.int .i64 lS.kind,D.str lS.pat.rel,D.sl (lS.pat.args.map tx),D.str lS.left,D.str lS.right,D.int .i64 q8.2,D.sl ([])]]).length) 120 then(some ((⟨q8.1.rules,q8.1.ends,q8.1.av,q8.1.nodes++([(⟨aV,lS,q8.2,[]⟩:Node)]),q8.1.facts,q8.1.bz⟩:aF),IntKind.i64.wrap ((((q8.1.nodes.map Node.c)++([[D.int .i64 aV,D.int .i64 lS.kind,D.str lS.pat.rel,D.sl (lS.pat.args.map tx),D.str lS.left,D.str lS.right,D.int .i64 q8.2,D.sl ([])]])).length:Int)-1)))else none)))else(bif (cX.kind:Int)==2 then((tW cX.pat).bind fun E2=>((tY aB E2).bind fun GF=>(bif room ((GF.1.nodes.map Node.c).length+([[D.int .i64 aV,D.int .i64 lS.kind,D.str lS.pat.rel,D.sl (lS.pat.args.map tx),D.str lS.left,D.str lS.right,D.int .i64 GF.2,D.sl ([])]]).length) 120 then(some ((⟨GF.1.rules,GF.1.ends,GF.1.av,GF.1.nodes++([(⟨aV,lS,GF.2,[]⟩:Node)]),GF.1.facts,GF.1.bz⟩:aF),IntKind.i64.wrap ((((GF.1.nodes.map Node.c)++([[D.int .i64 aV,D.int .i64 lS.kind,D.str lS.pat.rel,D.sl (lS.pat.args.map tx),D.str lS.left,D.str lS.right,D.int .i64 GF.2,D.sl ([])]])).length:Int)-1)))else none)))else(bif room ((aB.nodes.map Node.c).length+([[D.int .i64 aV,D.int .i64 lS.kind,D.str lS.pat.rel,D.sl (lS.pat.args.map tx),D.str lS.left,D.str lS.right,D.int .i64 (-1),D.sl ([])]]).length) 120 then(some ((⟨aB.rules,aB.ends,aB.av,aB.nodes++([(⟨aV,lS, -1,[]⟩:Node)]),aB.facts,aB.bz⟩:aF),IntKind.i64.wrap ((((aB.nodes.map Node.c)++([[D.int .i64 aV,D.int .i64 lS.kind,D.str lS.pat.rel,D.sl (lS.pat.args.map tx),D.str lS.left,D.str lS.right,D.int .i64 (-1),D.sl ([])]])).length:Int)-1)))else none)))) fuel 1)
def NN(fM:Value)(aB:aF)(aV:Int)(cX:aQ)(rW:Int):St:=⟨[(0,D.ptr 0 0),(1,D.int .i64 aV),(5,D.ptr 1 0),(7,D.int .i64 rW)],[Ob.Ph [D.acc 2,D.acc 3,D.acc 4,D.acc 5,D.acc 6,D.int .i64 aB.bz] fM,Ob.box (aQ.c cX),Ob.row .uq 105 4 (aB.rules.map aO.c),Ob.row .uq 3 1 (aB.ends.map dL),Ob.row .uq 111 3 (aB.av.map aP.c),Ob.row .uq 118 8 (aB.nodes.map Node.c),Ob.row .uq 53 2 (aB.facts.map aE.c)]⟩
theorem M1(hΓ:Γ.nt=75){fM:Value}{aB:aF}{aV:Int}{cX:aQ}{r:aF×Int}{k1:Option (aF×Int)}(cW:k1=some r->Ax Γ N f133 (.p [[some (105,4),some (3,1),some (111,3),some (118,8),some (53,2),none],[none]] fM (cV r.1) (D.int .i64 r.2)) [1,1] ⟨[(0,D.ptr 0 0),(1,D.int .i64 aV),(5,D.ptr 1 0)],[Ob.Ph [D.acc 2,D.acc 3,D.acc 4,D.acc 5,D.acc 6,D.int .i64 aB.bz] fM,Ob.box (aQ.c cX),Ob.row .uq 105 4 (aB.rules.map aO.c),Ob.row .uq 3 1 (aB.ends.map dL),Ob.row .uq 111 3 (aB.av.map aP.c),Ob.row .uq 118 8 (aB.nodes.map Node.c),Ob.row .uq 53 2 (aB.facts.map aE.c)]⟩):∀(n1:Nat) (rW:Int),gM aB aV cX k1 n1 rW=some r->Ar Γ N f133 (.p [[some (105,4),some (3,1),some (111,3),some (118,8),some (53,2),none],[none]] fM (cV r.1) (D.int .i64 r.2)) [1,0,1,0] n1 (NN fM aB aV cX rW):=by
 intro n
 induction n with
 |zero=>intro rW h;simp[gM]at h
 |succ n1 ih1=>
  intro rW h;rw[gM]at h;refine aN fun N1 bw bg=>?_
  obtain⟨h15,h⟩|⟨h15,h⟩:=aL h
  ·obtain⟨x16,h17,h⟩:=aD h;have ja:=((((aU.b h15).a [.n 20]).i (yF Node.c 8 h17)).o 8 1 .uq (dF Node.c (u9 h17)))
   obtain⟨h18,h⟩|⟨h18,h⟩:=aL h
   ·obtain⟨y19,h20,h⟩:=aD h;have iY:=(((((((ja.r 6 h18).i (yF Node.c 8 h17)).r 2 h18).o 8 6 .uq (dF Node.c (u9 h17))).r 2 h18).g (AF h20)).b h18)
    obtain⟨h21,h⟩|⟨h21,h⟩:=aL h
    ·cases h;exact(iY.b h21).ret hΓ
    ·exact((iY.b h21).a [.cn [0,1,5,7] [0,1,2,3,4,5,6]]).cf hΓ bg (ih1 (IntKind.i64.wrap (rW+1)) h)
   ·exact(((ja.r 11 h18).F 1).a [.cn [0,1,5,7] [0,1,2,3,4,5,6]]).cf hΓ bg (ih1 (IntKind.i64.wrap (rW+1)) h)
  ·exact((aU.b h15).a [.hl 0 [0,1,5] [0,1,2,3,4,5,6]]).ex hΓ bw (cW h)
theorem K4{aB:aF}{aV:Int}{cX:aQ}{r:aF×Int}(h:wV aB aV cX=some r):Be prog 133 (cV aB) (cV r.1) [D.int .i64 aV,D.agg (aQ.c cX)] (D.int .i64 r.2):=by
 refine gdP func133 [[some (105,4),some (3,1),some (111,3),some (118,8),some (53,2),none],[none]] 75 [D.acc 1,D.acc 2,D.acc 3,D.acc 4,D.acc 5,D.int .i64 aB.bz] [D.int .i64 aV,D.agg [D.int .i64 cX.kind,D.str cX.pat.rel,D.sl (cX.pat.args.map tx),D.str cX.left,D.str cX.right]] [Ob.row .uq 105 4 (aB.rules.map aO.c),Ob.row .uq 3 1 (aB.ends.map dL),Ob.row .uq 111 3 (aB.av.map aP.c),Ob.row .uq 118 8 (aB.nodes.map Node.c),Ob.row .uq 53 2 (aB.facts.map aE.c)] fun hr fM Γ hΓ=>?_
 rw[wV]at h;refine(aU.a [.cn [0,1,5,7] [0,6,1,2,3,4,5]]).lp hΓ (M1 hΓ (fun h=>?_) fuel 1 h);obtain⟨lS,h23,h⟩:=aD h;obtain⟨h24,h⟩|⟨h24,h⟩:=aL h
 ·obtain⟨Y0,h26,h⟩:=aD h;obtain⟨q8,h28,h⟩:=aD h;obtain⟨h30,h⟩:=bV h;cases h;exact(((((((aU.g (qV h23)).r 4 h24).T 1).g (B4 h26)).hp [[some (105,4),some (3,1),some (111,3),some (118,8),some (53,2),none],[none,some (9,1)]] (B6 h28)).w (cB h30)).a [.n2 [0,1,2,3,4,5,6,7,8,9,10] [0,1,2,3,4,5,6,7,8,9,10] 6 8 [0,1,2,3,4] [7,13,15]]).rts hΓ (D.gN [D.int .i64 (IntKind.i64.wrap ((((q8.1.nodes.map Node.c)++([[D.int .i64 aV,D.int .i64 lS.kind,D.str lS.pat.rel,D.sl (lS.pat.args.map tx),D.str lS.left,D.str lS.right,D.int .i64 q8.2,D.sl ([])]])).length:Int)-1)),D.agg [D.fr 105 4 (q8.1.rules.map aO.c),D.fr 3 1 (q8.1.ends.map dL),D.fr 111 3 (q8.1.av.map aP.c),D.fr 118 8 ((q8.1.nodes.map Node.c)++([[D.int .i64 aV,D.int .i64 lS.kind,D.str lS.pat.rel,D.sl (lS.pat.args.map tx),D.str lS.left,D.str lS.right,D.int .i64 q8.2,D.sl ([])]])),D.fr 53 2 (q8.1.facts.map aE.c),D.int .i64 q8.1.bz],D.val fM]) (by first|rfl| (simp only[mA]<;>rfl)| (simp only[cV,mA]<;>rfl))
 ·have tr:=((aU.g (qV h23)).r 4 h24)
  obtain⟨h31,h⟩|⟨h31,h⟩:=aL h
  ·obtain⟨E2,h33,h⟩:=aD h;obtain⟨GF,h35,h⟩:=aD h;obtain⟨h37,h⟩:=bV h;cases h;exact(((((tr.b h31).g (B4 h33)).hp [[some (105,4),some (3,1),some (111,3),some (118,8),some (53,2),none],[none,some (9,1)]] (B6 h35)).w (cB h37)).a [.n2 [0,1,2,3,4,5,6,7,8,9,10] [0,1,2,3,4,5,6,7,8,9,10] 6 8 [0,1,2,3,4] [7,13,15]]).rts hΓ (D.gN [D.int .i64 (IntKind.i64.wrap ((((GF.1.nodes.map Node.c)++([[D.int .i64 aV,D.int .i64 lS.kind,D.str lS.pat.rel,D.sl (lS.pat.args.map tx),D.str lS.left,D.str lS.right,D.int .i64 GF.2,D.sl ([])]])).length:Int)-1)),D.agg [D.fr 105 4 (GF.1.rules.map aO.c),D.fr 3 1 (GF.1.ends.map dL),D.fr 111 3 (GF.1.av.map aP.c),D.fr 118 8 ((GF.1.nodes.map Node.c)++([[D.int .i64 aV,D.int .i64 lS.kind,D.str lS.pat.rel,D.sl (lS.pat.args.map tx),D.str lS.left,D.str lS.right,D.int .i64 GF.2,D.sl ([])]])),D.fr 53 2 (GF.1.facts.map aE.c),D.int .i64 GF.1.bz],D.val fM]) (by first|rfl| (simp only[mA]<;>rfl)| (simp only[cV,mA]<;>rfl))
  ·obtain⟨h39,h⟩:=bV h;cases h;exact(((tr.b h31).w (cB h39)).a [.n2 [0,1,2,3,4,5,6,7,8,9,10] [0,1,2,3,4,5,6,7,8,9,10] 6 8 [0,1,2,3,4] [5,7,9]]).rts hΓ (D.gN [D.int .i64 (IntKind.i64.wrap ((((aB.nodes.map Node.c)++([[D.int .i64 aV,D.int .i64 lS.kind,D.str lS.pat.rel,D.sl (lS.pat.args.map tx),D.str lS.left,D.str lS.right,D.int .i64 (-1),D.sl ([])]])).length:Int)-1)),D.agg [D.fr 105 4 (aB.rules.map aO.c),D.fr 3 1 (aB.ends.map dL),D.fr 111 3 (aB.av.map aP.c),D.fr 118 8 ((aB.nodes.map Node.c)++([[D.int .i64 aV,D.int .i64 lS.kind,D.str lS.pat.rel,D.sl (lS.pat.args.map tx),D.str lS.left,D.str lS.right,D.int .i64 (-1),D.sl ([])]])),D.fr 53 2 (aB.facts.map aE.c),D.int .i64 aB.bz],D.val fM]) (by first|rfl| (simp only[mA]<;>rfl)| (simp only[cV,mA]<;>rfl))
def gi(aB:ar)(i1:Nat)(O3:aq)(k2:Int->Int->ar->bI->b7->ay->aK->Option (aF×Bool)):aq->Nat->Int->Int->ar->bI->b7->ay->aK->Option (aF×Bool)
 | [],i2,tf,p8,D9,pO,wu,wv,sI=>(k2 tf p8 D9 pO wu wv sI)
 |lU::wg,i2,tf,p8,D9,pO,wu,wv,sI=>((wV (⟨D9,pO,wu,wv,sI,p8⟩:aF) tf lU).bind fun F6=>(gi aB i1 O3 k2 wg (i2+1) F6.2 F6.1.bz F6.1.rules F6.1.ends F6.1.av F6.1.nodes F6.1.facts))
def gh(aB:ar)(k1:Int->ar->bI->b7->ay->aK->Option (aF×Bool)):ar->Nat->Int->ar->bI->b7->ay->aK->Option (aF×Bool)
 | [],i1,dS,fV,eN,mF,iU,qd=>(k1 dS fV eN mF iU qd)
 |bD::bZ,i1,dS,fV,eN,mF,iU,qd=>((rQ bD).bind fun O3=>(bif decide (O3.length<=maxLen)then(gi aB i1 O3 (fun(BT:Int) (p7:Int) (MC:ar) (CD:bI) (MD:b7) (vi:ay) (ME:aK)=>(bif room ((CD.map dL).length+([[D.int .i64 BT]]).length) 8 then(gh aB k1 bZ (i1+1) p7 MC (CD++([BT])) MD vi ME)else none)) O3 0 0 dS fV eN mF iU qd)else none))
def pL(aB:ar):Option (aF×Bool):=((uc aB).bind fun y1=>(bif !(y1)then(some ((⟨[],[],[],[],[],0⟩:aF),false))else((rB aB).bind fun y4=>(gh aB (fun(mD:Int) (sK:ar) (fU:bI) (CC:b7) (nu:ay) (qX:aK)=>(some ((⟨sK,fU,CC,nu,qX,mD⟩:aF),true))) aB 0 0 y4 ([]:bI) ([]:b7) ([(⟨-1,(⟨0,(⟨[],[]⟩:aE),[],[]⟩:aQ), -1,[(⟨[],[]⟩:aI)]⟩:Node)]) ([]:aK)))))
def uA(aB:ar)(dS:Int)(W1:List aR)(W2:List aR)(W3:List aR)(W4:List aR)(W5:List aR)(cS:Int):St:=⟨[(0,D.sl (aB.map aO.c)),(2,D.ptr 0 0),(4,D.ptr 1 0),(5,D.int .i64 cS)],[Ob.box [D.nil,D.nil,D.nil,D.nil,D.nil,D.int .i64 0],Ob.box [D.acc 2,D.acc 3,D.acc 4,D.acc 5,D.acc 6,D.int .i64 dS],Ob.row .uq 105 4 W1,Ob.row .uq 3 1 W2,Ob.row .uq 111 3 W3,Ob.row .uq 118 8 W4,Ob.row .uq 53 2 W5]⟩
def Ed(aB:ar)(i1:Nat)(O3:aq)(tf:Int)(p8:Int)(W2:List aR)(W3:List aR)(W4:List aR)(W5:List aR)(W6:List aR)(cS:Int):St:=⟨[(0,D.sl (aB.map aO.c)),(2,D.ptr 0 0),(4,D.ptr 1 0),(5,D.int .i64 (i1:Int)),(6,D.int .i64 tf),(7,D.acc 2),(8,D.int .i64 cS)],[Ob.box [D.nil,D.nil,D.nil,D.nil,D.nil,D.int .i64 0],Ob.box [D.acc 3,D.acc 4,D.acc 5,D.acc 6,D.acc 7,D.int .i64 p8],Ob.row .uq 115 5 (O3.map aQ.c),Ob.row .uq 105 4 W2,Ob.row .uq 3 1 W3,Ob.row .uq 111 3 W4,Ob.row .uq 118 8 W5,Ob.row .uq 53 2 W6]⟩
theorem Da(hΓ:Γ.nt=50){aB:ar}{i1:Nat}{O3:aq}{r:aF×Bool}{k2:Int->Int->ar->bI->b7->ay->aK->Option (aF×Bool)}(Cf:∀(BT:Int) (p7:Int) (MC:ar) (CD:bI) (MD:b7) (vi:ay) (ME:aK),k2 BT p7 MC CD MD vi ME=some r->Ax Γ N f77 (.q [[some (105,4),some (3,1),some (111,3),some (118,8),some (53,2),none],[none]] (D.gN [D.agg [D.fr 105 4 (r.1.rules.map aO.c),D.fr 3 1 (r.1.ends.map dL),D.fr 111 3 (r.1.av.map aP.c),D.fr 118 8 (r.1.nodes.map Node.c),D.fr 53 2 (r.1.facts.map aE.c),D.int .i64 r.1.bz],D.bool r.2])) [1,1,1,0,1,0,0,1,0,0,1,1,1] ⟨[(0,D.sl (aB.map aO.c)),(2,D.ptr 0 0),(4,D.ptr 1 0),(5,D.int .i64 (i1:Int)),(6,D.int .i64 BT)],[Ob.box [D.nil,D.nil,D.nil,D.nil,D.nil,D.int .i64 0],Ob.box [D.acc 2,D.acc 3,D.acc 4,D.acc 5,D.acc 6,D.int .i64 p7],Ob.row .uq 105 4 (MC.map aO.c),Ob.row .uq 3 1 (CD.map dL),Ob.row .uq 111 3 (MD.map aP.c),Ob.row .uq 118 8 (vi.map Node.c),Ob.row .uq 53 2 (ME.map aE.c)]⟩)(hm2:O3.length<=maxLen):∀(rest:aq) (i2:Nat) (tf:Int) (p8:Int) (D9:ar) (pO:bI) (wu:b7) (wv:ay) (sI:aK),O3.drop i2=rest->gi aB i1 O3 k2 rest i2 tf p8 D9 pO wu wv sI=some r->Ar Γ N f77 (.q [[some (105,4),some (3,1),some (111,3),some (118,8),some (53,2),none],[none]] (D.gN [D.agg [D.fr 105 4 (r.1.rules.map aO.c),D.fr 3 1 (r.1.ends.map dL),D.fr 111 3 (r.1.av.map aP.c),D.fr 118 8 (r.1.nodes.map Node.c),D.fr 53 2 (r.1.facts.map aE.c),D.int .i64 r.1.bz],D.bool r.2])) [1,1,1,0,1,0,0,1,0,0,1,1,0,1,0] (rest.length+1) (Ed aB i1 O3 tf p8 (D9.map aO.c) (pO.map dL) (wu.map aP.c) (wv.map Node.c) (sI.map aE.c) (i2:Int)):=by
 intro rest
 induction rest with
 |nil=>
  intro i2 tf p8 D9 pO wu wv sI hd2 h;rw[gi]at h;refine aN fun N2 xa ur=>?_
  exact((aU.ge aQ.c hd2).a [.hl 5 [0,2,4,5,6] [0,1,3,4,5,6,7]]).ex hΓ xa (Cf tf p8 D9 pO wu wv sI h)
 |cons lU wg ih2=>
  intro i2 tf p8 D9 pO wu wv sI hd2 h;rw[gi]at h;refine aN fun N2 xa ur=>?_
  obtain⟨F6,h212,h⟩:=aD h;exact((((((aU.lt aQ.c hd2).i (pV aQ.c 5 (dc hd2))).o 5 5 .uq (dF aQ.c (dc hd2))).a [.gp [[some (105,4),some (3,1),some (111,3),some (118,8),some (53,2),none],[none],[none,none,none,none,none]] (cV F6.1) (D.int .i64 F6.2)]).w (show Be prog 133 (cV (⟨D9,pO,wu,wv,sI,p8⟩:aF)) (cV F6.1) [D.int .i64 tf,D.agg (aQ.c lU)] (D.int .i64 F6.2)from by simpa only[bN,bH,bX,dB,dA]using K4 h212)).a [.cn [0,2,4,5,6,7,8] [0,1,2,8,9,10,11,12]]).ct hΓ ur (iS hd2 hm2) (ih2 (i2+1) F6.2 F6.1.bz F6.1.rules F6.1.ends F6.1.av F6.1.nodes F6.1.facts (dn hd2) h)
theorem DZ(hΓ:Γ.nt=50){aB:ar}{r:aF×Bool}{k1:Int->ar->bI->b7->ay->aK->Option (aF×Bool)}(cW:∀(mD:Int) (sK:ar) (fU:bI) (CC:b7) (nu:ay) (qX:aK),k1 mD sK fU CC nu qX=some r->Ax Γ N f77 (.q [[some (105,4),some (3,1),some (111,3),some (118,8),some (53,2),none],[none]] (D.gN [D.agg [D.fr 105 4 (r.1.rules.map aO.c),D.fr 3 1 (r.1.ends.map dL),D.fr 111 3 (r.1.av.map aP.c),D.fr 118 8 (r.1.nodes.map Node.c),D.fr 53 2 (r.1.facts.map aE.c),D.int .i64 r.1.bz],D.bool r.2])) [1,1,1,1] ⟨[(2,D.ptr 0 0),(4,D.ptr 1 0)],[Ob.box [D.nil,D.nil,D.nil,D.nil,D.nil,D.int .i64 0],Ob.box [D.acc 2,D.acc 3,D.acc 4,D.acc 5,D.acc 6,D.int .i64 mD],Ob.row .uq 105 4 (sK.map aO.c),Ob.row .uq 3 1 (fU.map dL),Ob.row .uq 111 3 (CC.map aP.c),Ob.row .uq 118 8 (nu.map Node.c),Ob.row .uq 53 2 (qX.map aE.c)]⟩)(hm1:aB.length<=maxLen):∀(rest:ar) (i1:Nat) (dS:Int) (fV:ar) (eN:bI) (mF:b7) (iU:ay) (qd:aK),aB.drop i1=rest->gh aB k1 rest i1 dS fV eN mF iU qd=some r->Ar Γ N f77 (.q [[some (105,4),some (3,1),some (111,3),some (118,8),some (53,2),none],[none]] (D.gN [D.agg [D.fr 105 4 (r.1.rules.map aO.c),D.fr 3 1 (r.1.ends.map dL),D.fr 111 3 (r.1.av.map aP.c),D.fr 118 8 (r.1.nodes.map Node.c),D.fr 53 2 (r.1.facts.map aE.c),D.int .i64 r.1.bz],D.bool r.2])) [1,1,1,0,1,0] (rest.length+1) (uA aB dS (fV.map aO.c) (eN.map dL) (mF.map aP.c) (iU.map Node.c) (qd.map aE.c) (i1:Int)):=by
 intro rest
 induction rest with
 |nil=>
  intro i1 dS fV eN mF iU qd aj h;rw[gh]at h;refine aN fun N1 bw bg=>?_
  exact((aU.ge aO.c aj).a [.hl 0 [2,4] [0,1,2,3,4,5,6]]).ex hΓ bw (cW dS fV eN mF iU qd h)
 |cons bD bZ ih1=>
  intro i1 dS fV eN mF iU qd aj h;rw[gh]at h;refine aN fun N1 bw bg=>?_
  obtain⟨O3,h183,h⟩:=aD h;obtain⟨h214,h⟩:=bV h;refine((((aU.lt aO.c aj).l (ax aO.c 4 (dc aj) rfl)).g (Eg h183)).a [.cn [0,2,4,5,6,7,8] [0,1,7,2,3,4,5,6]]).lp hΓ (Da hΓ (fun BT p7 MC CD MD vi ME h=>?_) (bt h214) O3 0 0 dS fV eN mF iU qd rfl h);obtain⟨h213,h⟩:=bV h;exact((aU.w (cB h213)).a [.cn [0,2,4,5] [0,1,2,8,4,5,6]]).cs hΓ bg (uA aB p7 (MC.map aO.c) ((CD.map dL)++([[D.int .i64 BT]])) (MD.map aP.c) (vi.map Node.c) (ME.map aE.c) (IntKind.i64.wrap ((i1:Int)+1))) (by first| (simp only[iS aj hm1,mA]<;>rfl)| (simp only[iS aj hm1,mA,aE.c,aS.c,aQ.c,Action.c,aO.c,aI.c,cr.c,aP.c,Node.c,aF.c,cv.c]<;>rfl)) (ih1 (i1+1) p7 MC (CD++([BT])) MD vi ME (dn aj) h)
theorem xV{aB:ar}{r:aF×Bool}(h:pL aB=some r):Good prog 77 [D.sl (aB.map aO.c)] (D.gN [D.agg [D.fr 105 4 (r.1.rules.map aO.c),D.fr 3 1 (r.1.ends.map dL),D.fr 111 3 (r.1.av.map aP.c),D.fr 118 8 (r.1.nodes.map Node.c),D.fr 53 2 (r.1.facts.map aE.c),D.int .i64 r.1.bz],D.bool r.2]):=by
 refine gd func77 [[some (105,4),some (3,1),some (111,3),some (118,8),some (53,2),none],[none]] 50 fun hr Γ hΓ=>?_
 rw[pL]at h;obtain⟨y1,h2,h⟩:=aD h;obtain⟨h3,h⟩|⟨h3,h⟩:=aL h
 ·cases h;exact((aU.g (AA h2)).b h3).ret hΓ
 ·obtain⟨y4,h5,h⟩:=aD h;refine((((aU.g (AA h2)).b h3).g (AG h5)).a [.pb 4 1 3 1,.pb 4 2 111 3,.pb 4 4 53 2,.cn [0,2,4,5] [0,4,1,5,6,3,7]]).XB hΓ (uA aB 0 (y4.map aO.c) ([]:List aR) ([]:List aR) ([[D.int .i64 (-1),D.int .i64 0,D.str ([]),D.sl ([]),D.str ([]),D.str ([]),D.int .i64 (-1),D.sl ([[D.sl ([]),D.sl ([])]])]]) ([]:List aR) 0) (by first| (simp only[mA]<;>rfl)| (simp only[mA,aE.c,aS.c,aQ.c,Action.c,aO.c,aI.c,cr.c,aP.c,Node.c,aF.c,cv.c]<;>rfl)) (DZ hΓ (fun mD sK fU CC nu qX h=>?_) (by have:=(dW.sl (hr _ (aC (i:=0) rfl))).1;simpa using this) aB 0 0 y4 ([]:bI) ([]:b7) ([(⟨-1,(⟨0,(⟨[],[]⟩:aE),[],[]⟩:aQ), -1,[(⟨[],[]⟩:aI)]⟩:Node)]) ([]:aK) rfl h);cases h;exact aU.ret hΓ
def lM(aB:aF)(aV:aF)(k1:Option Bool):b7->Nat->Option Bool
 | [],i1=>(k1)
 |bD::bZ,i1=>((mJ aV.av (i1:Int)).bind fun x32=>((j9 bD.shape x32.shape).bind fun GF=>(bif !(GF)then(some false)else(lM aB aV k1 bZ (i1+1)))))
def jA(aB:aF)(aV:aF)(k2:Option Bool):ay->Nat->Option Bool
 | [],i2=>(k2)
 |lU::wg,i2=>((mJ aV.nodes (i2:Int)).bind fun x73=>(bif (lU.parent:Int) != x73.parent then(some false)else(bif (lU.cP:Int) != x73.cP then(some false)else((p6 lU.cond x73.cond).bind fun y77=>(bif !(y77)then(some false)else(jA aB aV k2 wg (i2+1)))))))
def jB(aB:aF)(aV:aF)(k3:Option Bool):bI->Nat->Option Bool
 | [],i3=>(k3)
 |WJ::UF,i3=>((mJ aV.ends (i3:Int)).bind fun x100=>(bif (WJ:Int) != x100 then(some false)else(jB aB aV k3 UF (i3+1))))
def rS(aB:aF)(aV:aF):Option Bool:=(bif (((aB.av.map aP.c).length:Int):Int) != ((aV.av.map aP.c).length:Int)then(some false)else(bif (((aB.nodes.map Node.c).length:Int):Int) != ((aV.nodes.map Node.c).length:Int)then(some false)else(bif (((aB.ends.map dL).length:Int):Int) != ((aV.ends.map dL).length:Int)then(some false)else(lM aB aV (jA aB aV (jB aB aV (some true) aB.ends 0) aB.nodes 0) aB.av 0))))
def Ho(aB:aF)(aV:aF)(cS:Int):St:=⟨[(2,D.ptr 0 0),(3,D.ptr 1 0),(5,D.int .i64 cS)],[Ob.box (aF.c aB),Ob.box (aF.c aV)]⟩
theorem G7(hΓ:Γ.nt=123){aB:aF}{aV:aF}{r:Bool}{k1:Option Bool}(cW:k1=some r->Ax Γ N f85 (.q [[none]] (D.bool r)) [1,1,1] ⟨[(2,D.ptr 0 0),(3,D.ptr 1 0)],[Ob.box (aF.c aB),Ob.box (aF.c aV)]⟩)(hm1:aB.av.length<=maxLen):∀(rest:b7) (i1:Nat),aB.av.drop i1=rest->lM aB aV k1 rest i1=some r->Ar Γ N f85 (.q [[none]] (D.bool r)) [1,1,0,1,0] (rest.length+1) (Ho aB aV (i1:Int)):=by
 intro rest
 induction rest with
 |nil=>
  intro i1 aj h;rw[lM]at h;refine aN fun N1 bw bg=>?_
  exact((aU.ge aP.c aj).a [.hl 0 [2,3] [0,1]]).ex hΓ bw (cW h)
 |cons bD bZ ih1=>
  intro i1 aj h;rw[lM]at h;refine aN fun N1 bw bg=>?_
  obtain⟨x32,h33,h⟩:=aD h;obtain⟨GF,h35,h⟩:=aD h;have wX:=(((((aU.lt aP.c aj).a [.n 12]).l (ax aP.c 3 (dc aj) rfl)).l (dh aP.c 3 h33 rfl)).g (tV h35))
  obtain⟨h36,h⟩|⟨h36,h⟩:=aL h
  ·have h:=aG h;subst h;exact(wX.b h36).ret hΓ
  ·exact((wX.b h36).a [.cn [2,3,5] [0,1]]).ct hΓ bg (iS aj hm1) (ih1 (i1+1) (dn aj) h)
def Hp(aB:aF)(aV:aF)(cS:Int):St:=⟨[(2,D.ptr 0 0),(3,D.ptr 1 0),(6,D.int .i64 cS)],[Ob.box (aF.c aB),Ob.box (aF.c aV)]⟩
theorem G8(hΓ:Γ.nt=123){aB:aF}{aV:aF}{r:Bool}{k2:Option Bool}(Cf:k2=some r->Ax Γ N f85 (.q [[none]] (D.bool r)) [1,1,1,1] ⟨[(2,D.ptr 0 0),(3,D.ptr 1 0)],[Ob.box (aF.c aB),Ob.box (aF.c aV)]⟩)(hm2:aB.nodes.length<=maxLen):∀(rest:ay) (i2:Nat),aB.nodes.drop i2=rest->jA aB aV k2 rest i2=some r->Ar Γ N f85 (.q [[none]] (D.bool r)) [1,1,1,0,1,0] (rest.length+1) (Hp aB aV (i2:Int)):=by
 intro rest
 induction rest with
 |nil=>
  intro i2 hd2 h;rw[jA]at h;refine aN fun N2 xa ur=>?_
  exact((aU.ge Node.c hd2).a [.hl 0 [2,3] [0,1]]).ex hΓ xa (Cf h)
 |cons lU wg ih2=>
  intro i2 hd2 h;rw[jA]at h;refine aN fun N2 xa ur=>?_
  obtain⟨x73,h74,h⟩:=aD h;have AV:=((((aU.lt Node.c hd2).a [.n 41]).l (ax Node.c 8 (dc hd2) rfl)).l (dh Node.c 8 h74 rfl))
  obtain⟨h75,h⟩|⟨h75,h⟩:=aL h
  ·have h:=aG h;subst h;exact((AV.r 14 h75).T 16).ret hΓ
  ·have DC:=(((((AV.r 4 h75).l (ax Node.c 8 (dc hd2) rfl)).r 6 h75).l (dh Node.c 8 h74 rfl)).r 4 h75)
   obtain⟨h76,h⟩|⟨h76,h⟩:=aL h
   ·have h:=aG h;subst h;exact((DC.r 15 h76).T 1).ret hΓ
   ·obtain⟨y77,h78,h⟩:=aD h;have IA:=(((((((DC.r 4 h76).l (ax Node.c 8 (dc hd2) rfl)).r 6 h76).l (dh Node.c 8 h74 rfl)).r 3 h76).g (AF h78)).r 2 h76)
    obtain⟨h79,h⟩|⟨h79,h⟩:=aL h
    ·have h:=aG h;subst h;exact(IA.b h79).ret hΓ
    ·exact((IA.b h79).a [.cn [2,3,6] [0,1]]).ct hΓ ur (iS hd2 hm2) (ih2 (i2+1) (dn hd2) h)
def Hq(aB:aF)(aV:aF)(cS:Int):St:=⟨[(2,D.ptr 0 0),(3,D.ptr 1 0),(7,D.int .i64 cS)],[Ob.box (aF.c aB),Ob.box (aF.c aV)]⟩
theorem G9(hΓ:Γ.nt=123){aB:aF}{aV:aF}{r:Bool}{k3:Option Bool}(hE3:k3=some r->Ax Γ N f85 (.q [[none]] (D.bool r)) [1,1,1,1,1] ⟨[],[]⟩)(Ww:aB.ends.length<=maxLen):∀(rest:bI) (i3:Nat),aB.ends.drop i3=rest->jB aB aV k3 rest i3=some r->Ar Γ N f85 (.q [[none]] (D.bool r)) [1,1,1,1,0,1,0] (rest.length+1) (Hq aB aV (i3:Int)):=by
 intro rest
 induction rest with
 |nil=>
  intro i3 BL h;rw[jB]at h;refine aN fun N3 YS TF=>?_
  exact((aU.ge dL BL).a [.hl 0 [] []]).ex hΓ YS (hE3 h)
 |cons WJ UF ih3=>
  intro i3 BL h;rw[jB]at h;refine aN fun N3 YS TF=>?_
  obtain⟨x100,h101,h⟩:=aD h;have yu:=((((aU.lt dL BL).a [.n 10]).l (ax dL 1 (dc BL) rfl)).l (dh dL 1 h101 rfl))
  obtain⟨h102,h⟩|⟨h102,h⟩:=aL h
  ·have h:=aG h;subst h;exact(yu.b h102).ret hΓ
  ·exact((yu.b h102).a [.cn [2,3,7] [0,1]]).ct hΓ TF (iS BL Ww) (ih3 (i3+1) (dn BL) h)
theorem El{aB:aF}{aV:aF}{r:Bool}(h:rS aB aV=some r):Good prog 85 [D.agg (aF.c aB),D.agg (aF.c aV)] (D.bool r):=by
 refine gd func85 [[none]] 123 fun hr Γ hΓ=>?_
 rw[rS]at h;obtain⟨h1,h⟩|⟨h1,h⟩:=aL h
 ·have h:=aG h;subst h;exact((aU.r 8 h1).T 9).ret hΓ
 ·have D7:=(aU.r 8 h1)
  obtain⟨h2,h⟩|⟨h2,h⟩:=aL h
  ·have h:=aG h;subst h;exact((D7.r 8 h2).T 1).ret hΓ
  ·have BN:=(D7.r 8 h2)
   obtain⟨h3,h⟩|⟨h3,h⟩:=aL h
   ·have h:=aG h;subst h;exact(BN.b h3).ret hΓ
   ·refine((BN.b h3).a [.cn [2,3,5] [0,1]]).lp hΓ (G7 hΓ (fun h=>?_) (by have:=(dW.sl (dW.agg (hr _ (aC (i:=0) rfl)) (.sl (aB.av.map aP.c)) (by simp))).1;simpa using this) aB.av 0 rfl h);refine(aU.a [.cn [2,3,6] [0,1]]).lp hΓ (G8 hΓ (fun h=>?_) (by have:=(dW.sl (dW.agg (hr _ (aC (i:=0) rfl)) (.sl (aB.nodes.map Node.c)) (by simp))).1;simpa using this) aB.nodes 0 rfl h);refine(aU.a [.cn [2,3,7] [0,1]]).lp hΓ (G9 hΓ (fun h=>?_) (by have:=(dW.sl (dW.agg (hr _ (aC (i:=0) rfl)) (.sl (aB.ends.map dL)) (by simp))).1;simpa using this) aB.ends 0 rfl h);have h:=aG h;subst h;exact aU.ret hΓ
def jk(aB:aT)(k1:Option Bool):aT->Nat->Option Bool
 | [],i1=>(k1)
 |bD::bZ,i1=>((iR bD.var).bind fun Ia=>(bif !(Ia)then(some false)else((fT bD.value).bind fun y52=>(bif !(y52)then(some false)else(bif decide (((i1:Int):Int)>0)then((mJ aB (IntKind.i64.wrap ((i1:Int)-1))).bind fun x56=>(bif !(Op.bytesLess x56.var bD.var)then(some false)else(jk aB k1 bZ (i1+1))))else(jk aB k1 bZ (i1+1)))))))
def lD(aB:aT):Option Bool:=(jk aB (some (decide ((((aB.map aS.c).length:Int):Int)<=6))) aB 0)
def Jm(aB:aT)(cS:Int):St:=⟨[(0,D.sl (aB.map aS.c)),(3,D.int .i64 cS)],[]⟩
theorem HV(hΓ:Γ.nt=47){aB:aT}{r:Bool}{k1:Option Bool}(cW:k1=some r->Ax Γ N f226 (.q [[none]] (D.bool r)) [1,1] ⟨[(0,D.sl (aB.map aS.c))],[]⟩)(hm1:aB.length<=maxLen):∀(rest:aT) (i1:Nat),aB.drop i1=rest->jk aB k1 rest i1=some r->Ar Γ N f226 (.q [[none]] (D.bool r)) [1,0,1,0] (rest.length+1) (Jm aB (i1:Int)):=by
 intro rest
 induction rest with
 |nil=>
  intro i1 aj h;rw[jk]at h;refine aN fun N1 bw bg=>?_
  exact((aU.ge aS.c aj).a [.hl 0 [0] []]).ex hΓ bw (cW h)
 |cons bD bZ ih1=>
  intro i1 aj h;rw[jk]at h;refine aN fun N1 bw bg=>?_
  obtain⟨Ia,h50,h⟩:=aD h;have tr:=((((aU.lt aS.c aj).a [.n 31]).l (ax aS.c 2 (dc aj) rfl)).g (gL h50))
  obtain⟨h51,h⟩|⟨h51,h⟩:=aL h
  ·have h:=aG h;subst h;exact((((tr.r 8 h51).T 3).a [bF,bF,bF,bF,bF,bF,bF,bF,bF,bF,bF,bF]).T 3).ret hΓ
  ·obtain⟨y52,h53,h⟩:=aD h;have wX:=(((((tr.r 3 h51).l (ax aS.c 2 (dc aj) rfl)).r 3 h51).g (eb h53)).r 2 h51)
   obtain⟨h54,h⟩|⟨h54,h⟩:=aL h
   ·have h:=aG h;subst h;exact((((wX.r 3 h54).a [bF,bF,bF,bF,bF,bF,bF,bF,bF,bF,bF,bF]).r 2 h54).T 1).ret hΓ
   ·have AV:=(wX.r 3 h54)
    obtain⟨h55,h⟩|⟨h55,h⟩:=aL h
    ·obtain⟨x56,h57,h⟩:=aD h;have DC:=((((((((AV.r 4 h55).l (dh aS.c 2 h57 rfl)).r 5 h55).l (ax aS.c 2 (dc aj) rfl)).r 3 h55).b h54).b h55).b h54)
     obtain⟨h58,h⟩|⟨h58,h⟩:=aL h
     ·have h:=aG h;subst h;exact(DC.b h58).ret hΓ
     ·exact((DC.b h58).a [.cn [0,3] []]).ct hΓ bg (iS aj hm1) (ih1 (i1+1) (dn aj) h)
    ·exact((((((AV.r 12 h55).b h54).b h55).b h54).F 1).a [.cn [0,3] []]).ct hΓ bg (iS aj hm1) (ih1 (i1+1) (dn aj) h)
theorem n8{aB:aT}{r:Bool}(h:lD aB=some r):Good prog 226 [D.sl (aB.map aS.c)] (D.bool r):=by
 refine gd func226 [[none]] 47 fun hr Γ hΓ=>?_
 rw[lD]at h;refine(aU.a [.cn [0,3] []]).lp hΓ (HV hΓ (fun h=>?_) (by have:=(dW.sl (hr _ (aC (i:=0) rfl))).1;simpa using this) aB 0 rfl h);cases h;exact aU.ret hΓ
def iT(aB:aT)(aV:Bytes)(k1:Option (Bytes×Bool)):aT->Nat->Option (Bytes×Bool)
 | [],i1=>(k1)
 |bD::bZ,i1=>(bif (bD.var:Bytes)==aV then((iR aV).bind fun IJ=>(bif IJ then(some (bD.value,true))else(iT aB aV k1 bZ (i1+1))))else(iT aB aV k1 bZ (i1+1)))
def qT(aB:aT)(aV:Bytes):Option (Bytes×Bool):=((fT aV).bind fun y1=>(bif y1 then(some (aV,true))else(iT aB aV (some ([],false)) aB 0)))
def NE(aB:aT)(aV:Bytes)(cS:Int):St:=⟨[(0,D.sl (aB.map aS.c)),(1,D.str aV),(6,D.int .i64 cS)],[]⟩
theorem Lw(hΓ:Γ.nt=32){aB:aT}{aV:Bytes}{r:Bytes×Bool}{k1:Option (Bytes×Bool)}(cW:k1=some r->Ax Γ N f163 (.q [[none],[none]] (D.gN [D.str r.1,D.bool r.2])) [1,1,1] ⟨[],[]⟩)(hm1:aB.length<=maxLen):∀(rest:aT) (i1:Nat),aB.drop i1=rest->iT aB aV k1 rest i1=some r->Ar Γ N f163 (.q [[none],[none]] (D.gN [D.str r.1,D.bool r.2])) [1,1,0,1,0] (rest.length+1) (NE aB aV (i1:Int)):=by
 intro rest
 induction rest with
 |nil=>
  intro i1 aj h;rw[iT]at h;refine aN fun N1 bw bg=>?_
  exact((aU.ge aS.c aj).a [.hl 0 [] []]).ex hΓ bw (cW h)
 |cons bD bZ ih1=>
  intro i1 aj h;rw[iT]at h;refine aN fun N1 bw bg=>?_
  have ja:=((aU.lt aS.c aj).l (ax aS.c 2 (dc aj) rfl))
  obtain⟨h28,h⟩|⟨h28,h⟩:=aL h
  ·obtain⟨IJ,h30,h⟩:=aD h;have iY:=(((ja.r 2 h28).g (gL h30)).b h28)
   obtain⟨h31,h⟩|⟨h31,h⟩:=aL h
   ·cases h;exact((iY.b h31).l (ax aS.c 2 (dc aj) rfl)).ret hΓ
   ·exact((iY.b h31).a [.cn [0,1,6] []]).ct hΓ bg (iS aj hm1) (ih1 (i1+1) (dn aj) h)
  ·exact(((ja.r 3 h28).F 1).a [.cn [0,1,6] []]).ct hΓ bg (iS aj hm1) (ih1 (i1+1) (dn aj) h)
theorem xI{aB:aT}{aV:Bytes}{r:Bytes×Bool}(h:qT aB aV=some r):Good prog 163 [D.sl (aB.map aS.c),D.str aV] (D.gN [D.str r.1,D.bool r.2]):=by
 refine gd func163 [[none],[none]] 32 fun hr Γ hΓ=>?_
 rw[qT]at h;obtain⟨y1,h2,h⟩:=aD h;obtain⟨h3,h⟩|⟨h3,h⟩:=aL h
 ·cases h;exact((aU.g (eb h2)).b h3).ret hΓ
 ·refine(((aU.g (eb h2)).b h3).a [.cn [0,1,6] []]).lp hΓ (Lw hΓ (fun h=>?_) (by have:=(dW.sl (hr _ (aC (i:=0) rfl))).1;simpa using this) aB 0 rfl h);cases h;exact aU.ret hΓ
def me(aB:aT)(aV:Bytes)(cX:Bytes)(k1:Bool->aT->Option aT):aT->Nat->Bool->aT->Option aT
 | [],i1,IG,bC=>(k1 IG bC)
 |bD::bZ,i1,IG,bC=>(bif !(IG)then(bif !(Op.bytesLess bD.var aV||(bD.var:Bytes)==aV)then(bif room ((bC.map aS.c).length+([[D.str aV,D.str cX]]).length) 32 then(bif room (((bC.map aS.c)++([[D.str aV,D.str cX]])).length+([[D.str bD.var,D.str bD.value]]).length) 32 then(me aB aV cX k1 bZ (i1+1) true ((bC++([(⟨aV,cX⟩:aS)]))++([bD])))else none)else none)else(bif room ((bC.map aS.c).length+([[D.str bD.var,D.str bD.value]]).length) 32 then(me aB aV cX k1 bZ (i1+1) IG (bC++([bD])))else none))else(bif room ((bC.map aS.c).length+([[D.str bD.var,D.str bD.value]]).length) 32 then(me aB aV cX k1 bZ (i1+1) IG (bC++([bD])))else none))
def yp(aB:aT)(aV:Bytes)(cX:Bytes):Option aT:=(me aB aV cX (fun(a3p:Bool) (bP:aT)=>(bif !(a3p)then(bif room ((bP.map aS.c).length+([[D.str aV,D.str cX]]).length) 32 then(some (bP++([(⟨aV,cX⟩:aS)])))else none)else(some bP))) aB 0 false ([]:aT))
def xj(aB:aT)(aV:Bytes)(cX:Bytes)(IG:Bool)(W1:List aR)(cS:Int):St:=⟨[(0,D.sl (aB.map aS.c)),(1,D.str aV),(2,D.str cX),(7,D.acc 0),(8,D.bool IG),(9,D.int .i64 cS)],[Ob.row .uq 152 2 W1]⟩
theorem OX(hΓ:Γ.nt=50){aB:aT}{aV:Bytes}{cX:Bytes}{r:aT}{k1:Bool->aT->Option aT}(cW:∀(a3p:Bool) (bP:aT),k1 a3p bP=some r->Ax Γ N f164 (.q [[some (152,2)]] (D.fr 152 2 (r.map aS.c))) [1,1,1,1] ⟨[(1,D.str aV),(2,D.str cX),(7,D.acc 0),(8,D.bool a3p)],[Ob.row .uq 152 2 (bP.map aS.c)]⟩)(hm1:aB.length<=maxLen):∀(rest:aT) (i1:Nat) (IG:Bool) (bC:aT),aB.drop i1=rest->me aB aV cX k1 rest i1 IG bC=some r->Ar Γ N f164 (.q [[some (152,2)]] (D.fr 152 2 (r.map aS.c))) [1,1,1,0,1,0] (rest.length+1) (xj aB aV cX IG (bC.map aS.c) (i1:Int)):=by
 intro rest
 induction rest with
 |nil=>
  intro i1 IG bC aj h;rw[me]at h;refine aN fun N1 bw bg=>?_
  exact((aU.ge aS.c aj).a [.hl 0 [1,2,7,8] [0]]).ex hΓ bw (cW IG bC h)
 |cons bD bZ ih1=>
  intro i1 IG bC aj h;rw[me]at h;refine aN fun N1 bw bg=>?_
  obtain⟨h48,h⟩|⟨h48,h⟩:=aL h
  ·have dJ:=((((aU.lt aS.c aj).r 3 h48).l (ax aS.c 2 (dc aj) rfl)).r 5 h48)
   obtain⟨h49,h⟩|⟨h49,h⟩:=aL h
   ·obtain⟨h50,h⟩:=bV h;obtain⟨h51,h⟩:=bV h;exact(((((dJ.b h49).w (cB h50)).l (ax aS.c 2 (dc aj) rfl)).w (cB h51)).a [.cn [0,1,2,7,8,9] [4]]).cs hΓ bg (xj aB aV cX true (((bC.map aS.c)++([[D.str aV,D.str cX]]))++([[D.str bD.var,D.str bD.value]])) (IntKind.i64.wrap ((i1:Int)+1))) (by first| (simp only[iS aj hm1,mA]<;>rfl)| (simp only[iS aj hm1,mA,aE.c,aS.c,aQ.c,Action.c,aO.c,aI.c,cr.c,aP.c,Node.c,aF.c,cv.c]<;>rfl)) (ih1 (i1+1) true ((bC++([(⟨aV,cX⟩:aS)]))++([bD])) (dn aj) h)
   ·obtain⟨h52,h⟩:=bV h;exact((((dJ.b h49).l (ax aS.c 2 (dc aj) rfl)).w (cB h52)).a [.cn [0,1,2,7,8,9] [2]]).cs hΓ bg (xj aB aV cX IG ((bC.map aS.c)++([[D.str bD.var,D.str bD.value]])) (IntKind.i64.wrap ((i1:Int)+1))) (by first| (simp only[iS aj hm1,mA]<;>rfl)| (simp only[iS aj hm1,mA,aE.c,aS.c,aQ.c,Action.c,aO.c,aI.c,cr.c,aP.c,Node.c,aF.c,cv.c]<;>rfl)) (ih1 (i1+1) IG (bC++([bD])) (dn aj) h)
  ·obtain⟨h53,h⟩:=bV h;exact((((((aU.lt aS.c aj).r 8 h48).F 1).l (ax aS.c 2 (dc aj) rfl)).w (cB h53)).a [.cn [0,1,2,7,8,9] [2]]).cs hΓ bg (xj aB aV cX IG ((bC.map aS.c)++([[D.str bD.var,D.str bD.value]])) (IntKind.i64.wrap ((i1:Int)+1))) (by first| (simp only[iS aj hm1,mA]<;>rfl)| (simp only[iS aj hm1,mA,aE.c,aS.c,aQ.c,Action.c,aO.c,aI.c,cr.c,aP.c,Node.c,aF.c,cv.c]<;>rfl)) (ih1 (i1+1) IG (bC++([bD])) (dn aj) h)
theorem NH{aB:aT}{aV:Bytes}{cX:Bytes}{r:aT}(h:yp aB aV cX=some r):Good prog 164 [D.sl (aB.map aS.c),D.str aV,D.str cX] (D.fr 152 2 (r.map aS.c)):=by
 refine gd func164 [[some (152,2)]] 50 fun hr Γ hΓ=>?_
 rw[yp]at h;refine(aU.a [.cn [0,1,2,7,8,9] [0]]).lp hΓ (OX hΓ (fun a3p bP h=>?_) (by have:=(dW.sl (hr _ (aC (i:=0) rfl))).1;simpa using this) aB 0 false ([]:aT) rfl h);obtain⟨h54,h⟩|⟨h54,h⟩:=aL h
 ·obtain⟨h55,h⟩:=bV h;cases h;exact((aU.b h54).w (cB h55)).rts hΓ (D.fr 152 2 ((bP.map aS.c)++([[D.str aV,D.str cX]]))) (by first|rfl| (simp only[mA]<;>rfl)| (simp only[cV,mA]<;>rfl))
 ·have h:=aG h;subst h;exact(aU.b h54).ret hΓ
def vQ(aB:aT)(aV:Bytes)(cX:Bytes):Option (aT×Bool):=((lD aB).bind fun y1=>(bif !(y1)then(some (([]:aT),false))else((iR aV).bind fun y4=>(bif !(y4)then(some (([]:aT),false))else((fT cX).bind fun y7=>(bif !(y7)then(some (([]:aT),false))else((qT aB aV).bind fun Oz=>(bif Oz.2 then(bif (Oz.1:Bytes)==cX then((sE aB).bind fun W7=>(some (W7,true)))else(some (([]:aT),false)))else(bif (((aB.map aS.c).length:Int):Int)==6 then(some (([]:aT),false))else((yp aB aV cX).bind fun Ka=>(some (Ka,true))))))))))))
theorem Lj{aB:aT}{aV:Bytes}{cX:Bytes}{r:aT×Bool}(h:vQ aB aV cX=some r):Good prog 228 [D.sl (aB.map aS.c),D.str aV,D.str cX] (D.gN [D.fr 152 2 (r.1.map aS.c),D.bool r.2]):=by
 refine gd func228 [[some (152,2)],[none]] 49 fun hr Γ hΓ=>?_
 rw[vQ]at h;obtain⟨y1,h2,h⟩:=aD h;obtain⟨h3,h⟩|⟨h3,h⟩:=aL h
 ·cases h;exact(((aU.g (n8 h2)).r 4 h3).T 5).ret hΓ
 ·obtain⟨y4,h5,h⟩:=aD h;have kC:=((((aU.g (n8 h2)).r 2 h3).g (gL h5)).r 2 h3)
  obtain⟨h6,h⟩|⟨h6,h⟩:=aL h
  ·cases h;exact((kC.r 4 h6).T 1).ret hΓ
  ·obtain⟨y7,h8,h⟩:=aD h;have dJ:=(((kC.r 2 h6).g (eb h8)).r 2 h6)
   obtain⟨h9,h⟩|⟨h9,h⟩:=aL h
   ·cases h;exact(dJ.b h9).ret hΓ
   ·obtain⟨Oz,h11,h⟩:=aD h;have ja:=((dJ.b h9).g (xI h11))
    obtain⟨h12,h⟩|⟨h12,h⟩:=aL h
    ·have iY:=(ja.r 4 h12)
     obtain⟨h13,h⟩|⟨h13,h⟩:=aL h
     ·obtain⟨W7,h15,h⟩:=aD h;cases h;exact((iY.b h13).g (yD h15)).ret hΓ
     ·cases h;exact(((iY.b h13).r 4 h12).T 1).ret hΓ
    ·have tr:=(((ja.r 4 h12).F 1).r 4 h12)
     obtain⟨h16,h⟩|⟨h16,h⟩:=aL h
     ·cases h;exact(tr.b h16).ret hΓ
     ·obtain⟨Ka,h18,h⟩:=aD h;cases h;exact((tr.b h16).g (NH h18)).ret hΓ
def jo(aB:aE)(aV:aE)(k1:aT->Option (aT×Bool)):aJ->Nat->aT->Option (aT×Bool)
 | [],i1,fV=>(k1 fV)
 |bD::bZ,i1,fV=>((fT bD).bind fun y80=>(bif y80 then((mJ aV.args (i1:Int)).bind fun x83=>(bif !((bD:Bytes)==x83)then(some (([]:aT),false))else(jo aB aV k1 bZ (i1+1) fV)))else((mJ aV.args (i1:Int)).bind fun x86=>((vQ fV bD x86).bind fun y88=>(bif !(y88.2)then(some (([]:aT),false))else(jo aB aV k1 bZ (i1+1) y88.1))))))
def jR(aB:aE)(aV:aE)(cX:aT):Option (aT×Bool):=((jQ aB).bind fun y1=>(bif !(y1)then(some (([]:aT),false))else((pg aV).bind fun y4=>(bif !(y4)then(some (([]:aT),false))else((lD cX).bind fun y7=>(bif !(y7)then(some (([]:aT),false))else(bif !((aB.rel:Bytes)==aV.rel)then(some (([]:aT),false))else(bif (((aB.args.map tx).length:Int):Int) != ((aV.args.map tx).length:Int)then(some (([]:aT),false))else((sE cX).bind fun y12=>(jo aB aV (fun(bP:aT)=>(some (bP,true))) aB.args 0 y12))))))))))
def Jq(aB:aE)(aV:aE)(W0:List aR)(cS:Int):St:=⟨[(3,D.ptr 0 0),(4,D.ptr 1 0),(8,D.acc 2),(9,D.int .i64 cS)],[Ob.box (aE.c aB),Ob.box (aE.c aV),Ob.row .uq 152 2 W0]⟩
theorem HZ(hΓ:Γ.nt=89){aB:aE}{aV:aE}{r:aT×Bool}{k1:aT->Option (aT×Bool)}(cW:∀(bP:aT),k1 bP=some r->Ax Γ N f151 (.q [[some (152,2)],[none]] (D.gN [D.fr 152 2 (r.1.map aS.c),D.bool r.2])) [1,1,1,1] ⟨[(8,D.acc 0)],[Ob.row .uq 152 2 (bP.map aS.c)]⟩)(hm1:aB.args.length<=maxLen):∀(rest:aJ) (i1:Nat) (fV:aT),aB.args.drop i1=rest->jo aB aV k1 rest i1 fV=some r->Ar Γ N f151 (.q [[some (152,2)],[none]] (D.gN [D.fr 152 2 (r.1.map aS.c),D.bool r.2])) [1,1,1,0,1,0] (rest.length+1) (Jq aB aV (fV.map aS.c) (i1:Int)):=by
 intro rest
 induction rest with
 |nil=>
  intro i1 fV aj h;rw[jo]at h;refine aN fun N1 bw bg=>?_
  exact((aU.ge tx aj).a [.hl 0 [8] [2]]).ex hΓ bw (cW fV h)
 |cons bD bZ ih1=>
  intro i1 fV aj h;rw[jo]at h;refine aN fun N1 bw bg=>?_
  obtain⟨y80,h81,h⟩:=aD h;have iY:=(((aU.lt tx aj).l (ax tx 1 (dc aj) rfl)).g (eb h81))
  obtain⟨h82,h⟩|⟨h82,h⟩:=aL h
  ·obtain⟨x83,h84,h⟩:=aD h;have tr:=((((iY.b h82).a [.n 10]).l (ax tx 1 (dc aj) rfl)).l (dh tx 1 h84 rfl))
   obtain⟨h85,h⟩|⟨h85,h⟩:=aL h
   ·cases h;exact(tr.b h85).ret hΓ
   ·exact((tr.b h85).a [.cn [3,4,8,9] [0,1,2]]).ct hΓ bg (iS aj hm1) (ih1 (i1+1) fV (dn aj) h)
  ·obtain⟨x86,h87,h⟩:=aD h;obtain⟨y88,h89,h⟩:=aD h;have wX:=(((((iY.b h82).a [.n 16]).l (ax tx 1 (dc aj) rfl)).l (dh tx 1 h87 rfl)).g (Lj h89))
   obtain⟨h90,h⟩|⟨h90,h⟩:=aL h
   ·cases h;exact(wX.b h90).ret hΓ
   ·exact((wX.b h90).a [.cn [3,4,8,9] [0,1,3]]).ct hΓ bg (iS aj hm1) (ih1 (i1+1) y88.1 (dn aj) h)
theorem ql{aB:aE}{aV:aE}{cX:aT}{r:aT×Bool}(h:jR aB aV cX=some r):Good prog 151 [D.agg (aE.c aB),D.agg (aE.c aV),D.sl (cX.map aS.c)] (D.gN [D.fr 152 2 (r.1.map aS.c),D.bool r.2]):=by
 refine gd func151 [[some (152,2)],[none]] 89 fun hr Γ hΓ=>?_
 rw[jR]at h;obtain⟨y1,h2,h⟩:=aD h;obtain⟨h3,h⟩|⟨h3,h⟩:=aL h
 ·cases h;exact(((aU.g (k6 h2)).r 4 h3).T 19).ret hΓ
 ·obtain⟨y4,h5,h⟩:=aD h;have AV:=((((aU.g (k6 h2)).r 2 h3).g (yC h5)).r 2 h3)
  obtain⟨h6,h⟩|⟨h6,h⟩:=aL h
  ·cases h;exact((AV.r 4 h6).T 15).ret hΓ
  ·obtain⟨y7,h8,h⟩:=aD h;have DC:=(((AV.r 2 h6).g (n8 h8)).r 2 h6)
   obtain⟨h9,h⟩|⟨h9,h⟩:=aL h
   ·cases h;exact((DC.r 6 h9).T 9).ret hΓ
   ·have IA:=(DC.r 6 h9)
    obtain⟨h10,h⟩|⟨h10,h⟩:=aL h
    ·cases h;exact((IA.r 8 h10).T 1).ret hΓ
    ·have yu:=(IA.r 8 h10)
     obtain⟨h11,h⟩|⟨h11,h⟩:=aL h
     ·cases h;exact(yu.b h11).ret hΓ
     ·obtain⟨y12,h13,h⟩:=aD h;refine(((yu.b h11).g (yD h13)).a [.cn [3,4,8,9] [0,1,2]]).lp hΓ (HZ hΓ (fun bP h=>?_) (by have:=(dW.sl (dW.agg (hr _ (aC (i:=0) rfl)) (.sl (aB.args.map tx)) (by simp))).1;simpa using this) aB.args 0 y12 rfl h);cases h;exact aU.ret hΓ
def gG(aB:aE)(aV:aT)(cX:aK)(k1:aK->Option aK):aK->Nat->aK->Option aK
 | [],i1,bu=>(k1 bu)
 |bD::bZ,i1,bu=>((jR aB bD aV).bind fun y42=>(bif y42.2 then((ez bD).bind fun IL=>(bif room ((bu.map aE.c).length+([[D.str IL.rel,D.sl (IL.args.map tx)]]).length) 40 then(gG aB aV cX k1 bZ (i1+1) (bu++([IL])))else none))else(gG aB aV cX k1 bZ (i1+1) bu)))
def gW(aB:aE)(aV:aT)(cX:aK):Option aK:=(gG aB aV cX (fun(bP:aK)=>(some bP)) cX 0 ([]:aK))
def yN(aB:aE)(aV:aT)(cX:aK)(W0:List aR)(cS:Int):St:=⟨[(1,D.sl (aV.map aS.c)),(2,D.sl (cX.map aE.c)),(3,D.ptr 0 0),(7,D.acc 1),(8,D.int .i64 cS)],[Ob.box (aE.c aB),Ob.row .uq 53 2 W0]⟩
theorem Cy(hΓ:Γ.nt=38){aB:aE}{aV:aT}{cX:aK}{r:aK}{k1:aK->Option aK}(cW:∀(bP:aK),k1 bP=some r->Ax Γ N f87 (.q [[some (53,2)]] (D.fr 53 2 (r.map aE.c))) [1,1,1] ⟨[(7,D.acc 0)],[Ob.row .uq 53 2 (bP.map aE.c)]⟩)(hm1:cX.length<=maxLen):∀(rest:aK) (i1:Nat) (bu:aK),cX.drop i1=rest->gG aB aV cX k1 rest i1 bu=some r->Ar Γ N f87 (.q [[some (53,2)]] (D.fr 53 2 (r.map aE.c))) [1,1,0,1,0] (rest.length+1) (yN aB aV cX (bu.map aE.c) (i1:Int)):=by
 intro rest
 induction rest with
 |nil=>
  intro i1 bu aj h;rw[gG]at h;refine aN fun N1 bw bg=>?_
  exact((aU.ge aE.c aj).a [.hl 0 [7] [1]]).ex hΓ bw (cW bu h)
 |cons bD bZ ih1=>
  intro i1 bu aj h;rw[gG]at h;refine aN fun N1 bw bg=>?_
  obtain⟨y42,h43,h⟩:=aD h;have dJ:=((((aU.lt aE.c aj).a [.n 11]).l (ax aE.c 2 (dc aj) rfl)).g (ql h43))
  obtain⟨h44,h⟩|⟨h44,h⟩:=aL h
  ·obtain⟨IL,h46,h⟩:=aD h;obtain⟨h47,h⟩:=bV h;exact(((((dJ.b h44).l (ax aE.c 2 (dc aj) rfl)).g (gm h46)).w (cB h47)).a [.cn [1,2,3,7,8] [0,5]]).cs hΓ bg (yN aB aV cX ((bu.map aE.c)++([[D.str IL.rel,D.sl (IL.args.map tx)]])) (IntKind.i64.wrap ((i1:Int)+1))) (by first| (simp only[iS aj hm1,mA]<;>rfl)| (simp only[iS aj hm1,mA,aE.c,aS.c,aQ.c,Action.c,aO.c,aI.c,cr.c,aP.c,Node.c,aF.c,cv.c]<;>rfl)) (ih1 (i1+1) (bu++([IL])) (dn aj) h)
  ·exact((dJ.b h44).a [.cn [1,2,3,7,8] [0,1]]).ct hΓ bg (iS aj hm1) (ih1 (i1+1) bu (dn aj) h)
theorem gX{aB:aE}{aV:aT}{cX:aK}{r:aK}(h:gW aB aV cX=some r):Good prog 87 [D.agg (aE.c aB),D.sl (aV.map aS.c),D.sl (cX.map aE.c)] (D.fr 53 2 (r.map aE.c)):=by
 refine gd func87 [[some (53,2)]] 38 fun hr Γ hΓ=>?_
 rw[gW]at h;refine(aU.a [.cn [1,2,3,7,8] [0,1]]).lp hΓ (Cy hΓ (fun bP h=>?_) (by have:=(dW.sl (hr _ (aC (i:=2) rfl))).1;simpa using this) cX 0 ([]:aK) rfl h);have h:=aG h;subst h;exact aU.ret hΓ
def mX(aB:aK)(aV:aK)(k1:Option Bool):aK->Nat->Option Bool
 | [],i1=>(k1)
 |bD::bZ,i1=>((mJ aV (i1:Int)).bind fun x30=>((sD bD x30).bind fun E2=>(bif !(E2)then(some false)else(mX aB aV k1 bZ (i1+1)))))
def nX(aB:aK)(aV:aK):Option Bool:=(bif (((aB.map aE.c).length:Int):Int) != ((aV.map aE.c).length:Int)then(some false)else(mX aB aV (some true) aB 0))
def Jw(aB:aK)(aV:aK)(cS:Int):St:=⟨[(0,D.sl (aB.map aE.c)),(1,D.sl (aV.map aE.c)),(5,D.int .i64 cS)],[]⟩
theorem Hh(hΓ:Γ.nt=27){aB:aK}{aV:aK}{r:Bool}{k1:Option Bool}(cW:k1=some r->Ax Γ N f86 (.q [[none]] (D.bool r)) [1,1,1] ⟨[],[]⟩)(hm1:aB.length<=maxLen):∀(rest:aK) (i1:Nat),aB.drop i1=rest->mX aB aV k1 rest i1=some r->Ar Γ N f86 (.q [[none]] (D.bool r)) [1,1,0,1,0] (rest.length+1) (Jw aB aV (i1:Int)):=by
 intro rest
 induction rest with
 |nil=>
  intro i1 aj h;rw[mX]at h;refine aN fun N1 bw bg=>?_
  exact((aU.ge aE.c aj).a [.hl 0 [] []]).ex hΓ bw (cW h)
 |cons bD bZ ih1=>
  intro i1 aj h;rw[mX]at h;refine aN fun N1 bw bg=>?_
  obtain⟨x30,h31,h⟩:=aD h;obtain⟨E2,h33,h⟩:=aD h;have dJ:=(((((aU.lt aE.c aj).a [.n 8]).l (ax aE.c 2 (dc aj) rfl)).l (dh aE.c 2 h31 rfl)).g (C0 h33))
  obtain⟨h34,h⟩|⟨h34,h⟩:=aL h
  ·have h:=aG h;subst h;exact(dJ.b h34).ret hΓ
  ·exact((dJ.b h34).a [.cn [0,1,5] []]).ct hΓ bg (iS aj hm1) (ih1 (i1+1) (dn aj) h)
theorem zN{aB:aK}{aV:aK}{r:Bool}(h:nX aB aV=some r):Good prog 86 [D.sl (aB.map aE.c),D.sl (aV.map aE.c)] (D.bool r):=by
 refine gd func86 [[none]] 27 fun hr Γ hΓ=>?_
 rw[nX]at h;obtain⟨h1,h⟩|⟨h1,h⟩:=aL h
 ·have h:=aG h;subst h;exact(aU.b h1).ret hΓ
 ·refine((aU.b h1).a [.cn [0,1,5] []]).lp hΓ (Hh hΓ (fun h=>?_) (by have:=(dW.sl (hr _ (aC (i:=0) rfl))).1;simpa using this) aB 0 rfl h);have h:=aG h;subst h;exact aU.ret hΓ
end Go.Cx

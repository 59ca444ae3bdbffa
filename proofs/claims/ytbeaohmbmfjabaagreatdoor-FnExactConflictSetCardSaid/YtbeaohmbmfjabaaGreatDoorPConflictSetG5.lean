/- What functions of the program compute, and the walks that show it. No condition. -/
import Derived.Test.YtbeaohmbmfjabaaGreatDoorPConflictSetG4
set_option linter.unusedVariables false
set_option linter.unusedSimpArgs false
namespace Go.Cx
open Go.RowKit Go.Proofs Tryz
set_option maxRecDepth 100000
variable{Γ:tY}{N:Nat->St->Prop}
def jB(aB:Bytes)(aV:aI)(k1:Option Bytes):aI->Nat->Option Bytes
 | [],i1=>(k1)
 |bA::bt,i1=>(bif (bA.var:Bytes)==aB then(some bA.value)else(jB aB aV k1 bt (i1+1)))
def k9(aB:Bytes)(aV:aI):Option Bytes:=(jB aB aV (some aB) aV 0)
def Hx(aB:Bytes)(aV:aI)(cZ:Int):St:=⟨[(0,D.str aB),(1,D.sl (aV.map aK.c)),(5,D.int .i64 cZ)],[]⟩
theorem Fl(hΓ:Γ.nt=25){aB:Bytes}{aV:aI}{r:Bytes}{k1:Option Bytes}(cq:k1=some r->Ax Γ N f242 (.q [[none]] (D.str r)) [1,1] ⟨[(0,D.str aB)],[]⟩)(hm1:aV.length<=maxLen):∀(rest:aI) (i1:Nat),aV.drop i1=rest->jB aB aV k1 rest i1=some r->Ar Γ N f242 (.q [[none]] (D.str r)) [1,0,1,0] (rest.length+1) (Hx aB aV (i1:Int)):=by
 intro rest
 induction rest with
 |nil=>
  intro i1 au h;rw[jB]at h;refine aP fun N1 cB bw=>?_
  exact((aT.ge aK.c au).a [.hl 0 [0] []]).ex hΓ cB (cq h)
 |cons bA bt ih1=>
  intro i1 au h;rw[jB]at h;refine aP fun N1 cB bw=>?_
  have dL:=((aT.lt aK.c au).l (b9 aK.c 2 (dc au) rfl))
  obtain⟨h13,h⟩|⟨h13,h⟩:=aO h
  ·cases h;exact((dL.b h13).l (b9 aK.c 2 (dc au) rfl)).ret hΓ
  ·exact((dL.b h13).a [.cn [0,1,5] []]).ct hΓ bw (iS au hm1) (ih1 (i1+1) (dn au) h)
theorem tv{aB:Bytes}{aV:aI}{r:Bytes}(h:k9 aB aV=some r):Good prog 242 [D.str aB,D.sl (aV.map aK.c)] (D.str r):=by
 refine gd func242 [[none]] 25 fun hr Γ hΓ=>?_
 rw[k9]at h;refine(aT.a [.cn [0,1,5] []]).lp hΓ (Fl hΓ (fun h=>?_) (by have:=(e7.sl (hr _ (aC (i:=1) rfl))).1;simpa using this) aV 0 rfl h);have h:=aE h;subst h;exact aT.ret hΓ
def k6(aB:aM)(aV:aI)(y1:Bytes)(y3:Bytes)(k1:aH->Option aM):aH->Nat->aH->Option aM
 | [],i1,gR=>(k1 gR)
 |bA::bt,i1,gR=>((k9 bA aV).bind fun WE=>(bif room ((gR.map tx).length+([[D.str WE]]).length) 16 then(k6 aB aV y1 y3 k1 bt (i1+1) (gR++([WE])))else none))
def jD(aB:aM)(aV:aI):Option aM:=((k9 aB.left aV).bind fun y1=>((k9 aB.right aV).bind fun y3=>(k6 aB aV y1 y3 (fun(wO:aH)=>(some (⟨aB.kind,(⟨aB.pat.rel,wO⟩:aG),y1,y3⟩:aM))) aB.pat.args 0 ([]:aH))))
def yO(aB:aM)(aV:aI)(y1:Bytes)(y3:Bytes)(W0:List aQ)(cZ:Int):St:=⟨[(1,D.sl (aV.map aK.c)),(2,D.ptr 0 0),(4,D.ptr 1 0),(5,D.ptr 2 0),(6,D.int .i64 cZ)],[Ob.box (aM.c aB),Ob.box [D.int .i64 0,D.str ([]),D.nil,D.str ([]),D.str ([])],Ob.box [D.int .i64 aB.kind,D.str aB.pat.rel,D.acc 3,D.str y1,D.str y3],Ob.row .uq 9 1 W0]⟩
theorem EI(hΓ:Γ.nt=46){aB:aM}{aV:aI}{y1:Bytes}{y3:Bytes}{r:aM}{k1:aH->Option aM}(cq:∀(wO:aH),k1 wO=some r->Ax Γ N f177 (.q [[none,none,some (9,1),none,none]] (D.agg [D.int .i64 r.kind,D.str r.pat.rel,D.fr 9 1 (r.pat.args.map tx),D.str r.left,D.str r.right])) [1,1,1] ⟨[(4,D.ptr 0 0),(5,D.ptr 1 0)],[Ob.box [D.int .i64 0,D.str ([]),D.nil,D.str ([]),D.str ([])],Ob.box [D.int .i64 aB.kind,D.str aB.pat.rel,D.acc 2,D.str y1,D.str y3],Ob.row .uq 9 1 (wO.map tx)]⟩)(hm1:aB.pat.args.length<=maxLen):∀(rest:aH) (i1:Nat) (gR:aH),aB.pat.args.drop i1=rest->k6 aB aV y1 y3 k1 rest i1 gR=some r->Ar Γ N f177 (.q [[none,none,some (9,1),none,none]] (D.agg [D.int .i64 r.kind,D.str r.pat.rel,D.fr 9 1 (r.pat.args.map tx),D.str r.left,D.str r.right])) [1,1,0,1,0] (rest.length+1) (yO aB aV y1 y3 (gR.map tx) (i1:Int)):=by
 intro rest
 induction rest with
 |nil=>
  intro i1 gR au h;rw[k6]at h;refine aP fun N1 cB bw=>?_
  exact((aT.ge tx au).a [.hl 0 [4,5] [1,2,3]]).ex hΓ cB (cq gR h)
 |cons bA bt ih1=>
  intro i1 gR au h;rw[k6]at h;refine aP fun N1 cB bw=>?_
  obtain⟨WE,h32,h⟩:=aD h;obtain⟨h33,h⟩:=bY h;exact((((((aT.lt tx au).a [.n 12]).l (b9 tx 1 (dc au) rfl)).g (tv h32)).w (cN h33)).a [.cn [1,2,4,5,6] [0,1,2,5]]).cs hΓ bw (yO aB aV y1 y3 ((gR.map tx)++([[D.str WE]])) (IntKind.i64.wrap ((i1:Int)+1))) (by first| (simp only[iS au hm1,mA]<;>rfl)| (simp only[iS au hm1,mA,aG.c,aK.c,aM.c,Action.c,aN.c,aR.c,az.c,aW.c,Node.c,aJ.c,dH.c]<;>rfl)) (ih1 (i1+1) (gR++([WE])) (dn au) h)
theorem ic{aB:aM}{aV:aI}{r:aM}(h:jD aB aV=some r):Good prog 177 [D.agg (aM.c aB),D.sl (aV.map aK.c)] (D.agg [D.int .i64 r.kind,D.str r.pat.rel,D.fr 9 1 (r.pat.args.map tx),D.str r.left,D.str r.right]):=by
 refine gd func177 [[none,none,some (9,1),none,none]] 46 fun hr Γ hΓ=>?_
 rw[jD]at h;obtain⟨y1,h2,h⟩:=aD h;obtain⟨y3,h4,h⟩:=aD h;refine((((aT.a [.n 16]).g (tv h2)).g (tv h4)).a [.pb 2 2 9 1,.cn [1,2,4,5,6] [0,1,2,3]]).lp hΓ (EI hΓ (fun wO h=>?_) (by have:=(e7.sl (e7.agg (hr _ (aC (i:=0) rfl)) (.sl (aB.pat.args.map tx)) (by simp))).1;simpa using this) aB.pat.args 0 ([]:aH) rfl h);cases h;exact aT.ret hΓ
def oN(aB:aM):Option aM:=((jD aB ([])).bind fun y1=>(some y1))
theorem sJ{aB:aM}{r:aM}(h:oN aB=some r):Good prog 105 [D.agg (aM.c aB)] (D.agg [D.int .i64 r.kind,D.str r.pat.rel,D.fr 9 1 (r.pat.args.map tx),D.str r.left,D.str r.right]):=by
 refine gd func105 [[none,none,some (9,1),none,none]] 5 fun hr Γ hΓ=>?_
 rw[oN]at h;obtain⟨y1,h2,h⟩:=aD h;have h:=aE h;subst h;exact((aT.a [.d (D.agg [D.int .i64 y1.kind,D.str y1.pat.rel,D.fr 9 1 (y1.pat.args.map tx),D.str y1.left,D.str y1.right])]).w (show Good prog 177 [D.agg (aM.c aB),D.sl ([])] (D.agg [D.int .i64 y1.kind,D.str y1.pat.rel,D.fr 9 1 (y1.pat.args.map tx),D.str y1.left,D.str y1.right])from by first| (simpa only[bu,bD,bZ,kF,jK]using ic h2)|exact ic h2)).ret hΓ
def rX(aB:aH):Option aH:=(bif room (([]:List aQ).length+(aB.map tx).length) 16 then(some (([]:aH)++aB))else none)
theorem zM{aB:aH}{r:aH}(h:rX aB=some r):Good prog 176 [D.sl (aB.map tx)] (D.fr 9 1 (r.map tx)):=by
 refine gd func176 [[some (9,1)]] 6 fun hr Γ hΓ=>?_
 rw[rX]at h;obtain⟨h1,h⟩:=bY h;cases h;exact(((aT.w (cN h1)).w (show(∀r∈(aB.map tx),r.length=1)/\(true=true->D.rZ (aB.map tx)=true)from⟨by first|simp| (intro r hr;obtain⟨x,_,rfl⟩:=cC.1 (cK (jf hr));rfl),by simp[D.rZ,D.flat]⟩)).a [.P3 2,.fl true]).rts hΓ (D.fr 9 1 (([]:List aQ)++(aB.map tx))) (by first|rfl| (simp only[mA]<;>rfl))
def iI(aB:aG):Option aG:=((rX aB.args).bind fun y1=>(some (⟨aB.rel,y1⟩:aG)))
theorem B1{aB:aG}{r:aG}(h:iI aB=some r):Good prog 104 [D.agg (aG.c aB)] (D.agg [D.str r.rel,D.fr 9 1 (r.args.map tx)]):=by
 refine gd func104 [[none,some (9,1)]] 9 fun hr Γ hΓ=>?_
 rw[iI]at h;obtain⟨y1,h2,h⟩:=aD h;cases h;exact((aT.a [.n 5]).g (zM h2)).ret hΓ
def oo(aB:aN)(k1:ai->Option aN):ai->Nat->ai->Option aN
 | [],i1,gR=>(k1 gR)
 |bA::bt,i1,gR=>((oN bA).bind fun ET=>(bif room ((gR.map aM.c).length+([[D.int .i64 ET.kind,D.str ET.pat.rel,D.sl (ET.pat.args.map tx),D.str ET.left,D.str ET.right]]).length) 80 then(oo aB k1 bt (i1+1) (gR++([ET])))else none))
def mV(aB:aN)(nB:ai)(k2:c8->Option aN):c8->Nat->c8->Option aN
 | [],i2,oG=>(k2 oG)
 |mh::wD,i2,oG=>((iI mh.pat).bind fun y92=>(bif room ((oG.map Action.c).length+([[D.int .i64 mh.kind,D.str y92.rel,D.sl (y92.args.map tx)]]).length) 48 then(mV aB nB k2 wD (i2+1) (oG++([(⟨mh.kind,y92⟩:Action)])))else none))
def tU(aB:aN):Option aN:=(oo aB (fun(nB:ai)=>(mV aB nB (fun(Ag:c8)=>(some (⟨aB.name,aB.prio,nB,Ag⟩:aN))) aB.ck 0 ([]:c8))) aB.conds 0 ([]:ai))
def CB(aB:aN)(W0:List aQ)(cZ:Int):St:=⟨[(1,D.ptr 0 0),(2,D.ptr 1 0),(3,D.ptr 2 0),(4,D.int .i64 cZ)],[Ob.box (aN.c aB),Ob.box [D.str ([]),D.int .i64 0,D.nil,D.nil],Ob.box [D.str aB.name,D.int .i64 aB.prio,D.acc 3,D.nil],Ob.row .uq 115 5 W0]⟩
theorem Kr(hΓ:Γ.nt=56){aB:aN}{r:aN}{k1:ai->Option aN}(cq:∀(nB:ai),k1 nB=some r->Ax Γ N f175 (.q [[none,none,some (115,5),some (199,3)]] (D.agg [D.str r.name,D.int .i64 r.prio,D.fr 115 5 (r.conds.map aM.c),D.fr 199 3 (r.ck.map Action.c)])) [1,1,1] ⟨[(1,D.ptr 0 0),(2,D.ptr 1 0),(3,D.ptr 2 0)],[Ob.box (aN.c aB),Ob.box [D.str ([]),D.int .i64 0,D.nil,D.nil],Ob.box [D.str aB.name,D.int .i64 aB.prio,D.acc 3,D.nil],Ob.row .uq 115 5 (nB.map aM.c)]⟩)(hm1:aB.conds.length<=maxLen):∀(rest:ai) (i1:Nat) (gR:ai),aB.conds.drop i1=rest->oo aB k1 rest i1 gR=some r->Ar Γ N f175 (.q [[none,none,some (115,5),some (199,3)]] (D.agg [D.str r.name,D.int .i64 r.prio,D.fr 115 5 (r.conds.map aM.c),D.fr 199 3 (r.ck.map Action.c)])) [1,1,0,1,0] (rest.length+1) (CB aB (gR.map aM.c) (i1:Int)):=by
 intro rest
 induction rest with
 |nil=>
  intro i1 gR au h;rw[oo]at h;refine aP fun N1 cB bw=>?_
  exact((aT.ge aM.c au).a [.hl 0 [1,2,3] [0,1,2,3]]).ex hΓ cB (cq gR h)
 |cons bA bt ih1=>
  intro i1 gR au h;rw[oo]at h;refine aP fun N1 cB bw=>?_
  obtain⟨ET,h46,h⟩:=aD h;obtain⟨h47,h⟩:=bY h;exact((((((aT.lt aM.c au).a [.n2 [0,1,2,3,4,5,6,7,8,9,10,11] [0,1,2,3,4,5,6,7,8,9,10,11] 8 9 [0,1] [4]]).l (b9 aM.c 5 (dc au) rfl)).g (sJ h46)).w (cN h47)).a [.cn [1,2,3,4] [0,1,2,6]]).cs hΓ bw (CB aB ((gR.map aM.c)++([[D.int .i64 ET.kind,D.str ET.pat.rel,D.sl (ET.pat.args.map tx),D.str ET.left,D.str ET.right]])) (IntKind.i64.wrap ((i1:Int)+1))) (by first| (simp only[iS au hm1,mA]<;>rfl)| (simp only[iS au hm1,mA,aG.c,aK.c,aM.c,Action.c,aN.c,aR.c,az.c,aW.c,Node.c,aJ.c,dH.c]<;>rfl)) (ih1 (i1+1) (gR++([ET])) (dn au) h)
def CC(aB:aN)(nB:ai)(W0:List aQ)(cZ:Int):St:=⟨[(1,D.ptr 0 0),(2,D.ptr 1 0),(3,D.ptr 2 0),(5,D.int .i64 cZ)],[Ob.box (aN.c aB),Ob.box [D.str ([]),D.int .i64 0,D.nil,D.nil],Ob.box [D.str aB.name,D.int .i64 aB.prio,D.acc 3,D.acc 4],Ob.row .uq 115 5 (nB.map aM.c),Ob.row .uq 199 3 W0]⟩
theorem Ks(hΓ:Γ.nt=56){aB:aN}{nB:ai}{r:aN}{k2:c8->Option aN}(DV:∀(Ag:c8),k2 Ag=some r->Ax Γ N f175 (.q [[none,none,some (115,5),some (199,3)]] (D.agg [D.str r.name,D.int .i64 r.prio,D.fr 115 5 (r.conds.map aM.c),D.fr 199 3 (r.ck.map Action.c)])) [1,1,1,1] ⟨[(2,D.ptr 0 0),(3,D.ptr 1 0)],[Ob.box [D.str ([]),D.int .i64 0,D.nil,D.nil],Ob.box [D.str aB.name,D.int .i64 aB.prio,D.acc 2,D.acc 3],Ob.row .uq 115 5 (nB.map aM.c),Ob.row .uq 199 3 (Ag.map Action.c)]⟩)(hm2:aB.ck.length<=maxLen):∀(rest:c8) (i2:Nat) (oG:c8),aB.ck.drop i2=rest->mV aB nB k2 rest i2 oG=some r->Ar Γ N f175 (.q [[none,none,some (115,5),some (199,3)]] (D.agg [D.str r.name,D.int .i64 r.prio,D.fr 115 5 (r.conds.map aM.c),D.fr 199 3 (r.ck.map Action.c)])) [1,1,1,0,1,0] (rest.length+1) (CC aB nB (oG.map Action.c) (i2:Int)):=by
 intro rest
 induction rest with
 |nil=>
  intro i2 oG hd2 h;rw[mV]at h;refine aP fun N2 xA vY=>?_
  exact((aT.ge Action.c hd2).a [.hl 0 [2,3] [1,2,3,4]]).ex hΓ xA (DV oG h)
 |cons mh wD ih2=>
  intro i2 oG hd2 h;rw[mV]at h;refine aP fun N2 xA vY=>?_
  obtain⟨y92,h93,h⟩:=aD h;obtain⟨h94,h⟩:=bY h;exact(((((((aT.lt Action.c hd2).a [.n2 [0,1,2,3,4,5,6,7,8,9,10,11,12,13,14,15,16,17,18,19] [0,1,2,3,4,5,6,7,8,9,10,11,12,13,14,15,16,17,18,19] 16 17 [0,1] [5]]).l (b9 Action.c 3 (dc hd2) rfl)).l (b9 Action.c 3 (dc hd2) rfl)).g (B1 h93)).w (cN h94)).a [.cn [1,2,3,5] [0,1,2,3,7]]).cs hΓ vY (CC aB nB ((oG.map Action.c)++([[D.int .i64 mh.kind,D.str y92.rel,D.sl (y92.args.map tx)]])) (IntKind.i64.wrap ((i2:Int)+1))) (by first| (simp only[iS hd2 hm2,mA]<;>rfl)| (simp only[iS hd2 hm2,mA,aG.c,aK.c,aM.c,Action.c,aN.c,aR.c,az.c,aW.c,Node.c,aJ.c,dH.c]<;>rfl)) (ih2 (i2+1) (oG++([(⟨mh.kind,y92⟩:Action)])) (dn hd2) h)
theorem JZ{aB:aN}{r:aN}(h:tU aB=some r):Good prog 175 [D.agg (aN.c aB)] (D.agg [D.str r.name,D.int .i64 r.prio,D.fr 115 5 (r.conds.map aM.c),D.fr 199 3 (r.ck.map Action.c)]):=by
 refine gd func175 [[none,none,some (115,5),some (199,3)]] 56 fun hr Γ hΓ=>?_
 rw[tU]at h;refine(aT.a [.pb 2 2 115 5,.cn [1,2,3,4] [0,1,2,3]]).lp hΓ (Kr hΓ (fun nB h=>?_) (by have:=(e7.sl (e7.agg (hr _ (aC (i:=0) rfl)) (.sl (aB.conds.map aM.c)) (by simp))).1;simpa using this) aB.conds 0 ([]:ai) rfl h);refine(aT.a [.pb 2 3 199 3,.cn [1,2,3,5] [0,1,2,3,4]]).lp hΓ (Ks hΓ (fun Ag h=>?_) (by have:=(e7.sl (e7.agg (hr _ (aC (i:=0) rfl)) (.sl (aB.ck.map Action.c)) (by simp))).1;simpa using this) aB.ck 0 ([]:c8) rfl h);cases h;exact aT.ret hΓ
def mU(aB:aq)(k1:aq->Option aq):aq->Nat->aq->Option aq
 | [],i1,b7=>(k1 b7)
 |bA::bt,i1,b7=>((tU bA).bind fun pY=>(bif room ((b7.map aN.c).length+([[D.str pY.name,D.int .i64 pY.prio,D.sl (pY.conds.map aM.c),D.sl (pY.ck.map Action.c)]]).length) 72 then(mU aB k1 bt (i1+1) (b7++([pY])))else none))
def tA(aB:aq):Option aq:=(mU aB (fun(bN:aq)=>(some bN)) aB 0 ([]:aq))
def AS(aB:aq)(W0:List aQ)(cZ:Int):St:=⟨[(0,D.sl (aB.map aN.c)),(3,D.acc 0),(4,D.int .i64 cZ)],[Ob.row .uq 105 4 W0]⟩
theorem Hy(hΓ:Γ.nt=21){aB:aq}{r:aq}{k1:aq->Option aq}(cq:∀(bN:aq),k1 bN=some r->Ax Γ N f102 (.q [[some (105,4)]] (D.fr 105 4 (r.map aN.c))) [1,1,1] ⟨[(3,D.acc 0)],[Ob.row .uq 105 4 (bN.map aN.c)]⟩)(hm1:aB.length<=maxLen):∀(rest:aq) (i1:Nat) (b7:aq),aB.drop i1=rest->mU aB k1 rest i1 b7=some r->Ar Γ N f102 (.q [[some (105,4)]] (D.fr 105 4 (r.map aN.c))) [1,1,0,1,0] (rest.length+1) (AS aB (b7.map aN.c) (i1:Int)):=by
 intro rest
 induction rest with
 |nil=>
  intro i1 b7 au h;rw[mU]at h;refine aP fun N1 cB bw=>?_
  exact((aT.ge aN.c au).a [.hl 0 [3] [0]]).ex hΓ cB (cq b7 h)
 |cons bA bt ih1=>
  intro i1 b7 au h;rw[mU]at h;refine aP fun N1 cB bw=>?_
  obtain⟨pY,h28,h⟩:=aD h;obtain⟨h29,h⟩:=bY h;exact(((((aT.lt aN.c au).l (b9 aN.c 4 (dc au) rfl)).g (JZ h28)).w (cN h29)).a [.cn [0,3,4] [4]]).cs hΓ bw (AS aB ((b7.map aN.c)++([[D.str pY.name,D.int .i64 pY.prio,D.sl (pY.conds.map aM.c),D.sl (pY.ck.map Action.c)]])) (IntKind.i64.wrap ((i1:Int)+1))) (by first| (simp only[iS au hm1,mA]<;>rfl)| (simp only[iS au hm1,mA,aG.c,aK.c,aM.c,Action.c,aN.c,aR.c,az.c,aW.c,Node.c,aJ.c,dH.c]<;>rfl)) (ih1 (i1+1) (b7++([pY])) (dn au) h)
theorem Fm{aB:aq}{r:aq}(h:tA aB=some r):Good prog 102 [D.sl (aB.map aN.c)] (D.fr 105 4 (r.map aN.c)):=by
 refine gd func102 [[some (105,4)]] 21 fun hr Γ hΓ=>?_
 rw[tA]at h;refine(aT.a [.cn [0,3,4] [0]]).lp hΓ (Hy hΓ (fun bN h=>?_) (by have:=(e7.sl (hr _ (aC (i:=0) rfl))).1;simpa using this) aB 0 ([]:aq) rfl h);have h:=aE h;subst h;exact aT.ret hΓ
def kG(aB:aG):Option aG:=((rX aB.args).bind fun y1=>(some (⟨aB.rel,y1⟩:aG)))
theorem w5{aB:aG}{r:aG}(h:kG aB=some r):Good prog 152 [D.agg (aG.c aB)] (D.agg [D.str r.rel,D.fr 9 1 (r.args.map tx)]):=by
 refine gd func152 [[none,some (9,1)]] 9 fun hr Γ hΓ=>?_
 rw[kG]at h;obtain⟨y1,h2,h⟩:=aD h;cases h;exact((aT.a [.n 5]).g (zM h2)).ret hΓ
def mT(aB:aX)(k1:aX->Option aX):aX->Nat->aX->Option aX
 | [],i1,b7=>(k1 b7)
 |bA::bt,i1,b7=>((kG bA).bind fun pY=>(bif room ((b7.map aG.c).length+([[D.str pY.rel,D.sl (pY.args.map tx)]]).length) 40 then(mT aB k1 bt (i1+1) (b7++([pY])))else none))
def lH(aB:aX):Option aX:=(mT aB (fun(bN:aX)=>(some bN)) aB 0 ([]:aX))
def AR(aB:aX)(W0:List aQ)(cZ:Int):St:=⟨[(0,D.sl (aB.map aG.c)),(3,D.acc 0),(4,D.int .i64 cZ)],[Ob.row .uq 53 2 W0]⟩
theorem Hw(hΓ:Γ.nt=21){aB:aX}{r:aX}{k1:aX->Option aX}(cq:∀(bN:aX),k1 bN=some r->Ax Γ N f93 (.q [[some (53,2)]] (D.fr 53 2 (r.map aG.c))) [1,1,1] ⟨[(3,D.acc 0)],[Ob.row .uq 53 2 (bN.map aG.c)]⟩)(hm1:aB.length<=maxLen):∀(rest:aX) (i1:Nat) (b7:aX),aB.drop i1=rest->mT aB k1 rest i1 b7=some r->Ar Γ N f93 (.q [[some (53,2)]] (D.fr 53 2 (r.map aG.c))) [1,1,0,1,0] (rest.length+1) (AR aB (b7.map aG.c) (i1:Int)):=by
 intro rest
 induction rest with
 |nil=>
  intro i1 b7 au h;rw[mT]at h;refine aP fun N1 cB bw=>?_
  exact((aT.ge aG.c au).a [.hl 0 [3] [0]]).ex hΓ cB (cq b7 h)
 |cons bA bt ih1=>
  intro i1 b7 au h;rw[mT]at h;refine aP fun N1 cB bw=>?_
  obtain⟨pY,h28,h⟩:=aD h;obtain⟨h29,h⟩:=bY h;exact(((((aT.lt aG.c au).l (b9 aG.c 2 (dc au) rfl)).g (w5 h28)).w (cN h29)).a [.cn [0,3,4] [3]]).cs hΓ bw (AR aB ((b7.map aG.c)++([[D.str pY.rel,D.sl (pY.args.map tx)]])) (IntKind.i64.wrap ((i1:Int)+1))) (by first| (simp only[iS au hm1,mA]<;>rfl)| (simp only[iS au hm1,mA,aG.c,aK.c,aM.c,Action.c,aN.c,aR.c,az.c,aW.c,Node.c,aJ.c,dH.c]<;>rfl)) (ih1 (i1+1) (b7++([pY])) (dn au) h)
theorem uZ{aB:aX}{r:aX}(h:lH aB=some r):Good prog 93 [D.sl (aB.map aG.c)] (D.fr 53 2 (r.map aG.c)):=by
 refine gd func93 [[some (53,2)]] 21 fun hr Γ hΓ=>?_
 rw[lH]at h;refine(aT.a [.cn [0,3,4] [0]]).lp hΓ (Hw hΓ (fun bN h=>?_) (by have:=(e7.sl (hr _ (aC (i:=0) rfl))).1;simpa using this) aB 0 ([]:aX) rfl h);have h:=aE h;subst h;exact aT.ret hΓ
def qY(aB:aI):Option aI:=(bif room (([]:List aQ).length+(aB.map aK.c).length) 32 then(some (([]:aI)++aB))else none)
theorem w8{aB:aI}{r:aI}(h:qY aB=some r):Good prog 227 [D.sl (aB.map aK.c)] (D.fr 152 2 (r.map aK.c)):=by
 refine gd func227 [[some (152,2)]] 6 fun hr Γ hΓ=>?_
 rw[qY]at h;obtain⟨h1,h⟩:=bY h;cases h;exact(((aT.w (cN h1)).w (show(∀r∈(aB.map aK.c),r.length=2)/\(true=true->D.rZ (aB.map aK.c)=true)from⟨by first|simp| (intro r hr;obtain⟨x,_,rfl⟩:=cC.1 (cK (jf hr));rfl),by simp[D.rZ,D.flat]⟩)).a [.P3 2,.fl true]).rts hΓ (D.fr 152 2 (([]:List aQ)++(aB.map aK.c))) (by first|rfl| (simp only[mA]<;>rfl))
def vV(aB:aR):Option aR:=((lH aB.facts).bind fun y1=>((qY aB.bind).bind fun y3=>(some (⟨y1,y3⟩:aR))))
theorem Ja{aB:aR}{r:aR}(h:vV aB=some r):Good prog 178 [D.agg (aR.c aB)] (D.agg [D.fr 53 2 (r.facts.map aG.c),D.fr 152 2 (r.bind.map aK.c)]):=by
 refine gd func178 [[some (53,2),some (152,2)]] 10 fun hr Γ hΓ=>?_
 rw[vV]at h;obtain⟨y1,h2,h⟩:=aD h;obtain⟨y3,h4,h⟩:=aD h;cases h;exact(((aT.a [.n 5]).g (uZ h2)).g (w8 h4)).ret hΓ
def k8(aB:Int)(aV:Int)(cr:Int):Option Bool:=(bif decide ((aB:Int)>=aV)then(some (decide ((aB:Int)<=cr)))else(some false))
theorem fU{aB:Int}{aV:Int}{cr:Int}{r:Bool}(h:k8 aB aV cr=some r):Good prog 155 [D.int .i64 aB,D.int .i64 aV,D.int .i64 cr] (D.bool r):=by
 refine gd func155 [[none]] 15 fun hr Γ hΓ=>?_
 rw[k8]at h;obtain⟨h1,h⟩|⟨h1,h⟩:=aO h
 ·cases h;exact(aT.r 4 h1).ret hΓ
 ·have h:=aE h;subst h;exact(aT.r 4 h1).ret hΓ
def iY(aB:Bytes)(k1:Option Bool):Nat->Int->Option Bool
 |0,_=>none
 |n1+1,mZ=>(bif decide ((mZ:Int)<(aB.length:Int))then((nF aB mZ).bind fun b29=>((k8 (IntKind.i64.wrap b29.toNat) 97 122).bind fun WE=>(bif !(WE)then((k8 (IntKind.i64.wrap b29.toNat) 48 57).bind fun CT=>(bif !(CT)then(some false)else(iY aB k1 n1 (IntKind.i64.wrap (mZ+1)))))else(iY aB k1 n1 (IntKind.i64.wrap (mZ+1))))))else(k1))
def ey(aB:Bytes):Option Bool:=(iY aB ((k8 (aB.length:Int) 1 8).bind fun RU=>(some RU)) fuel 0)
def Lx(aB:Bytes)(mZ:Int):St:=⟨[(0,D.str aB),(3,D.int .i64 mZ)],[]⟩
theorem Kg(hΓ:Γ.nt=27){aB:Bytes}{r:Bool}{k1:Option Bool}(cq:k1=some r->Ax Γ N f206 (.q [[none]] (D.bool r)) [1,1] ⟨[(0,D.str aB)],[]⟩):∀(n1:Nat) (mZ:Int),iY aB k1 n1 mZ=some r->Ar Γ N f206 (.q [[none]] (D.bool r)) [1,0,1,0] n1 (Lx aB mZ):=by
 intro n
 induction n with
 |zero=>intro mZ h;simp[iY]at h
 |succ n1 ih1=>
  intro mZ h;rw[iY]at h;refine aP fun N1 cB bw=>?_
  obtain⟨h28,h⟩|⟨h28,h⟩:=aO h
  ·obtain⟨b29,h30,h⟩:=aD h;obtain⟨WE,h32,h⟩:=aD h;have lV:=(((aT.b h28).c h30).g (fU h32))
   obtain⟨h33,h⟩|⟨h33,h⟩:=aO h
   ·obtain⟨CT,h35,h⟩:=aD h;have kH:=(((((lV.r 3 h33).c h30).r 2 h33).g (fU h35)).r 2 h33)
    obtain⟨h36,h⟩|⟨h36,h⟩:=aO h
    ·have h:=aE h;subst h;exact(kH.b h36).ret hΓ
    ·exact((kH.b h36).a [.cn [0,3] []]).cf hΓ bw (ih1 (IntKind.i64.wrap (mZ+1)) h)
   ·exact(((lV.r 7 h33).F 1).a [.cn [0,3] []]).cf hΓ bw (ih1 (IntKind.i64.wrap (mZ+1)) h)
  ·exact((aT.b h28).a [.hl 0 [0] []]).ex hΓ cB (cq h)
theorem eG{aB:Bytes}{r:Bool}(h:ey aB=some r):Good prog 206 [D.str aB] (D.bool r):=by
 refine gd func206 [[none]] 27 fun hr Γ hΓ=>?_
 rw[ey]at h;refine(aT.a [.cn [0,3] []]).lp hΓ (Kg hΓ (fun h=>?_) fuel 0 h);obtain⟨RU,h38,h⟩:=aD h;have h:=aE h;subst h;exact(aT.g (fU h38)).ret hΓ
def qW(aB:Bytes):Option Bool:=((ey aB).bind fun y1=>(bif y1 then((nF aB 0).bind fun b4=>((k8 (IntKind.i64.wrap b4.toNat) 97 122).bind fun y6=>(some y6)))else(some false)))
theorem mO{aB:Bytes}{r:Bool}(h:qW aB=some r):Good prog 207 [D.str aB] (D.bool r):=by
 refine gd func207 [[none]] 11 fun hr Γ hΓ=>?_
 rw[qW]at h;obtain⟨y1,h2,h⟩:=aD h;obtain⟨h3,h⟩|⟨h3,h⟩:=aO h
 ·obtain⟨b4,h5,h⟩:=aD h;obtain⟨y6,h7,h⟩:=aD h;have h:=aE h;subst h;exact((((((aT.g (eG h2)).r 2 h3).c h5).r 2 h3).g (fU h7)).b h3).ret hΓ
 ·have h:=aE h;subst h;exact((aT.g (eG h2)).r 5 h3).ret hΓ
def ol(aB:aG)(k1:Option Bool):aH->Nat->Option Bool
 | [],i1=>(k1)
 |bA::bt,i1=>((ey bA).bind fun WD=>(bif !(WD)then(some false)else(ol aB k1 bt (i1+1))))
def qV(aB:aG):Option Bool:=(ol aB ((qW aB.rel).bind fun PT=>(bif PT then(some (decide ((((aB.args.map tx).length:Int):Int)<=3)))else(some false))) aB.args 0)
def Lz(aB:aG)(cZ:Int):St:=⟨[(1,D.ptr 0 0),(3,D.int .i64 cZ)],[Ob.box (aG.c aB)]⟩
theorem Kh(hΓ:Γ.nt=27){aB:aG}{r:Bool}{k1:Option Bool}(cq:k1=some r->Ax Γ N f138 (.q [[none]] (D.bool r)) [1,1] ⟨[(1,D.ptr 0 0)],[Ob.box (aG.c aB)]⟩)(hm1:aB.args.length<=maxLen):∀(rest:aH) (i1:Nat),aB.args.drop i1=rest->ol aB k1 rest i1=some r->Ar Γ N f138 (.q [[none]] (D.bool r)) [1,0,1,0] (rest.length+1) (Lz aB (i1:Int)):=by
 intro rest
 induction rest with
 |nil=>
  intro i1 au h;rw[ol]at h;refine aP fun N1 cB bw=>?_
  exact((aT.ge tx au).a [.hl 0 [1] [0]]).ex hΓ cB (cq h)
 |cons bA bt ih1=>
  intro i1 au h;rw[ol]at h;refine aP fun N1 cB bw=>?_
  obtain⟨WD,h22,h⟩:=aD h;have dL:=(((aT.lt tx au).l (b9 tx 1 (dc au) rfl)).g (eG h22))
  obtain⟨h23,h⟩|⟨h23,h⟩:=aO h
  ·have h:=aE h;subst h;exact(dL.b h23).ret hΓ
  ·exact((dL.b h23).a [.cn [1,3] [0]]).ct hΓ bw (iS au hm1) (ih1 (i1+1) (dn au) h)
theorem AQ{aB:aG}{r:Bool}(h:qV aB=some r):Good prog 138 [D.agg (aG.c aB)] (D.bool r):=by
 refine gd func138 [[none]] 27 fun hr Γ hΓ=>?_
 rw[qV]at h;refine(aT.a [.cn [1,3] [0]]).lp hΓ (Kh hΓ (fun h=>?_) (by have:=(e7.sl (e7.agg (hr _ (aC (i:=0) rfl)) (.sl (aB.args.map tx)) (by simp))).1;simpa using this) aB.args 0 rfl h);obtain⟨PT,h25,h⟩:=aD h;obtain⟨h26,h⟩|⟨h26,h⟩:=aO h
 ·cases h;exact((aT.g (mO h25)).r 5 h26).ret hΓ
 ·have h:=aE h;subst h;exact((aT.g (mO h25)).r 5 h26).ret hΓ
def sI(aB:Bytes)(aV:Bytes):Option Int:=(bif Op.bytesLess aB aV then(some (-1))else(bif !(Op.bytesLess aB aV||(aB:Bytes)==aV)then(some 1)else(some 0)))
theorem wu{aB:Bytes}{aV:Bytes}{r:Int}(h:sI aB aV=some r):Good prog 208 [D.str aB,D.str aV] (D.int .i64 r):=by
 refine gd func208 [[none]] 13 fun hr Γ hΓ=>?_
 rw[sI]at h;obtain⟨h1,h⟩|⟨h1,h⟩:=aO h
 ·cases h;exact(aT.b h1).ret hΓ
 ·obtain⟨h2,h⟩|⟨h2,h⟩:=aO h
  ·have h:=aE h;subst h;exact((aT.b h1).b h2).ret hΓ
  ·have h:=aE h;subst h;exact((aT.b h1).b h2).ret hΓ
def gj(k1:Option Bytes):Nat->Int->Bytes->Option Bytes
 |0,_,_=>none
 |n1+1,vG,mZ=>(bif decide (0<=(vG:Int))&&decide (0<(10:Int))then(bif decide (([UInt8.ofNat (IntKind.u8.wrap (IntKind.i64.wrap (48+((vG:Int)%10)))).toNat]:Bytes).length+(mZ:Bytes).length<=maxLen)then(bif decide (0<=(vG:Int))&&decide (0<(10:Int))then(bif ((vG:Int)/10:Int)==0 then(some (([UInt8.ofNat (IntKind.u8.wrap (IntKind.i64.wrap (48+((vG:Int)%10)))).toNat])++mZ))else(gj k1 n1 ((vG:Int)/10) (([UInt8.ofNat (IntKind.u8.wrap (IntKind.i64.wrap (48+((vG:Int)%10)))).toNat])++mZ)))else none)else none)else none)
def gG:Nat->Int->Option Bytes
 |0,_=>none
 |m_+1,aB=>(bif (aB:Int)==(-9223372036854775808)then(some ([45,57,50,50,51,51,55,50,48,51,54,56,53,52,55,55,53,56,48,56]))else(bif decide ((aB:Int)<0)then((gG m_ (IntKind.i64.wrap (0-aB))).bind fun y3=>(bif decide (([45]:Bytes).length+(y3:Bytes).length<=maxLen)then(some (([45])++y3))else none))else(gj none fuel aB ([]))))
def EB(vG:Int)(mZ:Bytes):St:=⟨[(0,D.int .i64 vG),(3,D.str mZ)],[]⟩
theorem D6(hΓ:Γ.nt=25){r:Bytes}{k1:Option Bytes}(cq:k1=some r->Ax Γ N f235 (.q [[none]] (D.str r)) [1,1,1,1,0,0] ⟨[],[]⟩):∀(n1:Nat) (vG:Int) (mZ:Bytes),gj k1 n1 vG mZ=some r->Ar Γ N f235 (.q [[none]] (D.str r)) [1,1,1,1,0] n1 (EB vG mZ):=by
 intro n
 induction n with
 |zero=>intro vG mZ h;simp[gj]at h
 |succ n1 ih1=>
  intro vG mZ h;rw[gj]at h;refine aP fun N1 cB bw=>?_
  obtain⟨h14,h⟩:=bY h;obtain⟨h15,h⟩:=bY h;obtain⟨h16,h⟩:=bY h;have dL:=(((aT.w (Qz .i64 h14)).w (bp h15)).w (Qz .i64 h16))
  obtain⟨h17,h⟩|⟨h17,h⟩:=aO h
  ·cases h;exact(dL.b h17).rts hΓ (D.str (([UInt8.ofNat (IntKind.u8.wrap (IntKind.i64.wrap (48+((vG:Int)%10)))).toNat])++mZ)) (by first|rfl| (simp only[mA]<;>rfl))
  ·exact((dL.b h17).a [.cn [0,3] []]).cf hΓ bw (ih1 ((vG:Int)/10) (([UInt8.ofNat (IntKind.u8.wrap (IntKind.i64.wrap (48+((vG:Int)%10)))).toNat])++mZ) h)
theorem C9{m_:Nat}(ihR:∀ {aB:Int} {r:Bytes},gG m_ aB=some r->Good prog 235 [D.int .i64 aB] (D.str r)){aB:Int}{r:Bytes}(h:gG (m_+1) aB=some r):Good prog 235 [D.int .i64 aB] (D.str r):=by
 refine gd func235 [[none]] 25 fun hr Γ hΓ=>?_
 rw[gG]at h;obtain⟨h1,h⟩|⟨h1,h⟩:=aO h
 ·cases h;exact(aT.b h1).ret hΓ
 ·obtain⟨h2,h⟩|⟨h2,h⟩:=aO h
  ·obtain⟨y3,h4,h⟩:=aD h;obtain⟨h5,h⟩:=bY h;cases h;exact((((aT.b h1).b h2).g (ihR h4)).w (bp h5)).rts hΓ (D.str (([45])++y3)) (by first|rfl| (simp only[mA]<;>rfl))
  ·refine(((aT.b h1).b h2).a [.cn [0,3] []]).lp hΓ (D6 hΓ (fun h=>?_) fuel aB ([]) h);cases h
theorem wI:∀(m_:Nat) {aB:Int} {r:Bytes},gG m_ aB=some r->Good prog 235 [D.int .i64 aB] (D.str r)
 |0,_,_,h=>by cases h
 |m_+1,_,_,h=>C9 (fun h=>wI m_ h) h
def oh(aB:Int):Option Bytes:=gG fuel aB
theorem tu{aB:Int}{r:Bytes}(h:oh aB=some r):Good prog 235 [D.int .i64 aB] (D.str r):=wI fuel h
def iD(aB:Bytes)(k1:Int->Option (Int×Bool)):Nat->Int->Int->Option (Int×Bool)
 |0,_,_=>none
 |n1+1,Oq,Ot=>(bif decide ((Ot:Int)<(aB.length:Int))then((nF aB Ot).bind fun b25=>(bif decide ((b25.toNat:Int)<48)then(some (0,false))else(bif decide ((b25.toNat:Int)>57)then(some (0,false))else(iD aB k1 n1 (IntKind.i64.wrap ((IntKind.i64.wrap (10*Oq))+(IntKind.i64.wrap (IntKind.u8.wrap (b25.toNat-48))))) (IntKind.i64.wrap (Ot+1))))))else(k1 Oq))
def nw(aB:Bytes):Option (Int×Bool):=((k8 (aB.length:Int) 1 4).bind fun y1=>(bif !(y1)then(some (0,false))else(iD aB (fun(Xl:Int)=>((oh Xl).bind fun GL=>(bif !((GL:Bytes)==aB)then(some (0,false))else(some (Xl,true))))) fuel 0 0)))
def JQ(aB:Bytes)(Oq:Int)(Ot:Int):St:=⟨[(0,D.str aB),(4,D.int .i64 Oq),(5,D.int .i64 Ot)],[]⟩
theorem Hp(hΓ:Γ.nt=39){aB:Bytes}{r:Int×Bool}{k1:Int->Option (Int×Bool)}(cq:∀(Xl:Int),k1 Xl=some r->Ax Γ N f260 (.q [[none],[none]] (D.ij [D.int .i64 r.1,D.bool r.2])) [1,1,1,1] ⟨[(0,D.str aB),(4,D.int .i64 Xl)],[]⟩):∀(n1:Nat) (Oq:Int) (Ot:Int),iD aB k1 n1 Oq Ot=some r->Ar Γ N f260 (.q [[none],[none]] (D.ij [D.int .i64 r.1,D.bool r.2])) [1,1,1,0,1,0] n1 (JQ aB Oq Ot):=by
 intro n
 induction n with
 |zero=>intro Oq Ot h;simp[iD]at h
 |succ n1 ih1=>
  intro Oq Ot h;rw[iD]at h;refine aP fun N1 cB bw=>?_
  obtain⟨h24,h⟩|⟨h24,h⟩:=aO h
  ·obtain⟨b25,h26,h⟩:=aD h;have lV:=((aT.b h24).c h26)
   obtain⟨h27,h⟩|⟨h27,h⟩:=aO h
   ·cases h;exact((lV.r 5 h27).T 1).ret hΓ
   ·have kH:=(((lV.r 3 h27).c h26).r 2 h27)
    obtain⟨h28,h⟩|⟨h28,h⟩:=aO h
    ·cases h;exact(kH.b h28).ret hΓ
    ·exact(((kH.b h28).c h26).a [.cn [0,4,5] []]).cf hΓ bw (ih1 (IntKind.i64.wrap ((IntKind.i64.wrap (10*Oq))+(IntKind.i64.wrap (IntKind.u8.wrap (b25.toNat-48))))) (IntKind.i64.wrap (Ot+1)) h)
  ·exact((aT.b h24).a [.hl 0 [0,4] []]).ex hΓ cB (cq Oq h)
theorem uY{aB:Bytes}{r:Int×Bool}(h:nw aB=some r):Good prog 260 [D.str aB] (D.ij [D.int .i64 r.1,D.bool r.2]):=by
 refine gd func260 [[none],[none]] 39 fun hr Γ hΓ=>?_
 rw[nw]at h;obtain⟨y1,h2,h⟩:=aD h;obtain⟨h3,h⟩|⟨h3,h⟩:=aO h
 ·cases h;exact((aT.g (fU h2)).b h3).ret hΓ
 ·refine(((aT.g (fU h2)).b h3).a [.cn [0,4,5] []]).lp hΓ (Hp hΓ (fun Xl h=>?_) fuel 0 0 h);obtain⟨GL,h30,h⟩:=aD h;obtain⟨h31,h⟩|⟨h31,h⟩:=aO h
  ·cases h;exact((aT.g (tu h30)).b h31).ret hΓ
  ·cases h;exact((aT.g (tu h30)).b h31).ret hΓ
def j4(aB:Bytes)(aV:Bytes):Option Int:=((nw aB).bind fun y1=>((nw aV).bind fun y3=>(bif y1.2 then(bif y3.2 then(bif decide ((y1.1:Int)<y3.1)then(some (-1))else(bif !(y3.2)then(some (-1))else(bif decide ((y1.1:Int)>y3.1)then(some 1)else(bif !(y1.2)then(some 1)else(some 0)))))else(bif !(y3.2)then(some (-1))else(some 0)))else(bif y3.2 then(bif !(y1.2)then(some 1)else((sI aB aV).bind fun y14=>(some y14)))else((sI aB aV).bind fun y16=>(some y16))))))
theorem vR{aB:Bytes}{aV:Bytes}{r:Int}(h:j4 aB aV=some r):Good prog 209 [D.str aB,D.str aV] (D.int .i64 r):=by
 refine gd func209 [[none]] 54 fun hr Γ hΓ=>?_
 rw[j4]at h;obtain⟨y1,h2,h⟩:=aD h;obtain⟨y3,h4,h⟩:=aD h;have kX:=((aT.g (uY h2)).g (uY h4))
 obtain⟨h5,h⟩|⟨h5,h⟩:=aO h
 ·have dL:=(kX.r 2 h5)
  obtain⟨h6,h⟩|⟨h6,h⟩:=aO h
  ·have lV:=(dL.r 4 h6)
   obtain⟨h7,h⟩|⟨h7,h⟩:=aO h
   ·cases h;exact(lV.r 2 h7).ret hΓ
   ·have kH:=((lV.b h7).r 3 h5)
    obtain⟨h8,h⟩|⟨h8,h⟩:=aO h
    ·cases h;exact(kH.b h8).ret hΓ
    ·have uB:=(((kH.b h8).r 2 h5).r 4 h6)
     obtain⟨h9,h⟩|⟨h9,h⟩:=aO h
     ·have h:=aE h;subst h;exact(uB.r 2 h9).ret hΓ
     ·have x9:=((uB.b h9).r 3 h6)
      obtain⟨h10,h⟩|⟨h10,h⟩:=aO h
      ·have h:=aE h;subst h;exact(x9.b h10).ret hΓ
      ·have h:=aE h;subst h;exact((x9.b h10).b h5).ret hΓ
  ·have Ac:=(((dL.r 4 h6).F 1).r 3 h5)
   obtain⟨h11,h⟩|⟨h11,h⟩:=aO h
   ·cases h;exact(Ac.b h11).ret hΓ
   ·have h:=aE h;subst h;exact(((((((Ac.b h11).r 2 h5).r 4 h6).F 1).r 3 h6).F 1).b h5).ret hΓ
 ·have IE:=((((((kX.r 2 h5).F 5).r 3 h5).F 1).r 2 h5).F 5)
  obtain⟨h12,h⟩|⟨h12,h⟩:=aO h
  ·have Mi:=(IE.r 3 h12)
   obtain⟨h13,h⟩|⟨h13,h⟩:=aO h
   ·have h:=aE h;subst h;exact(Mi.b h13).ret hΓ
   ·obtain⟨y14,h15,h⟩:=aD h;have h:=aE h;subst h;exact(((Mi.b h13).b h5).g (wu h15)).ret hΓ
  ·obtain⟨y16,h17,h⟩:=aD h;have h:=aE h;subst h;exact((((IE.r 3 h12).F 1).b h5).g (wu h17)).ret hΓ
def iX(aB:aG)(aV:aG)(k1:Option Int):aH->Nat->Option Int
 | [],i1=>(k1)
 |bA::bt,i1=>(bif decide (((i1:Int):Int)<((aV.args.map tx).length:Int))then((nF aV.args (i1:Int)).bind fun x37=>((j4 bA x37).bind fun Oy=>(bif (Oy:Int) != 0 then(some Oy)else(iX aB aV k1 bt (i1+1)))))else(k1))
def j5(aB:aG)(aV:aG):Option Int:=(bif !((aB.rel:Bytes)==aV.rel)then((sI aB.rel aV.rel).bind fun y2=>(some y2))else(iX aB aV (bif decide ((((aB.args.map tx).length:Int):Int)<((aV.args.map tx).length:Int))then(some (-1))else(bif decide ((((aB.args.map tx).length:Int):Int)>((aV.args.map tx).length:Int))then(some 1)else(some 0))) aB.args 0))
def D2(aB:aG)(aV:aG)(cZ:Int):St:=⟨[(2,D.ptr 0 0),(3,D.ptr 1 0),(5,D.int .i64 cZ)],[Ob.box (aG.c aB),Ob.box (aG.c aV)]⟩
theorem C4(hΓ:Γ.nt=61){aB:aG}{aV:aG}{r:Int}{k1:Option Int}(cq:k1=some r->Ax Γ N f139 (.q [[none]] (D.int .i64 r)) [1,1,1] ⟨[(2,D.ptr 0 0),(3,D.ptr 1 0)],[Ob.box (aG.c aB),Ob.box (aG.c aV)]⟩)(hm1:aB.args.length<=maxLen):∀(rest:aH) (i1:Nat),aB.args.drop i1=rest->iX aB aV k1 rest i1=some r->Ar Γ N f139 (.q [[none]] (D.int .i64 r)) [1,1,0,1,0] (rest.length+1) (D2 aB aV (i1:Int)):=by
 intro rest
 induction rest with
 |nil=>
  intro i1 au h;rw[iX]at h;refine aP fun N1 cB bw=>?_
  exact((((((((aT.ge tx au).ge tx au).ge tx au).ge tx au).ge tx au).ge tx au).F 1).a [.hl 0 [2,3] [0,1]]).ex hΓ cB (cq h)
 |cons bA bt ih1=>
  intro i1 au h;rw[iX]at h;refine aP fun N1 cB bw=>?_
  have lV:=((((((aT.lt tx au).lt tx au).lt tx au).lt tx au).lt tx au).lt tx au)
  obtain⟨h36,h⟩|⟨h36,h⟩:=aO h
  ·obtain⟨x37,h38,h⟩:=aD h;obtain⟨Oy,h40,h⟩:=aD h;have kH:=(((((lV.b h36).a [.n 10]).l (b9 tx 1 (dc au) rfl)).l (dO tx 1 h38 rfl)).g (vR h40))
   obtain⟨h41,h⟩|⟨h41,h⟩:=aO h
   ·have h:=aE h;subst h;exact(kH.b h41).ret hΓ
   ·exact((kH.b h41).a [.cn [2,3,5] [0,1]]).ct hΓ bw (iS au hm1) (ih1 (i1+1) (dn au) h)
  ·exact((lV.b h36).a [.hl 0 [2,3] [0,1]]).ex hΓ cB (cq h)
theorem BR{aB:aG}{aV:aG}{r:Int}(h:j5 aB aV=some r):Good prog 139 [D.agg (aG.c aB),D.agg (aG.c aV)] (D.int .i64 r):=by
 refine gd func139 [[none]] 61 fun hr Γ hΓ=>?_
 rw[j5]at h;obtain⟨h1,h⟩|⟨h1,h⟩:=aO h
 ·obtain⟨y2,h3,h⟩:=aD h;have h:=aE h;subst h;exact((aT.b h1).g (wu h3)).ret hΓ
 ·refine((aT.b h1).a [.cn [2,3,5] [0,1]]).lp hΓ (C4 hΓ (fun h=>?_) (by have:=(e7.sl (e7.agg (hr _ (aC (i:=0) rfl)) (.sl (aB.args.map tx)) (by simp))).1;simpa using this) aB.args 0 rfl h);obtain⟨h42,h⟩|⟨h42,h⟩:=aO h
  ·cases h;exact(aT.b h42).ret hΓ
  ·obtain⟨h43,h⟩|⟨h43,h⟩:=aO h
   ·have h:=aE h;subst h;exact((aT.b h42).b h43).ret hΓ
   ·have h:=aE h;subst h;exact((aT.b h42).b h43).ret hΓ
def jX(aB:aX)(k1:Option Bool):aX->Nat->Option Bool
 | [],i1=>(k1)
 |bA::bt,i1=>((qV bA).bind fun ET=>(bif !(ET)then(some false)else(bif decide (((i1:Int):Int)>0)then((nF aB (IntKind.i64.wrap ((i1:Int)-1))).bind fun x49=>((j5 x49 bA).bind fun y51=>(bif decide ((y51:Int)>=0)then(some false)else(jX aB k1 bt (i1+1)))))else(jX aB k1 bt (i1+1)))))
def sn(aB:aX):Option Bool:=(jX aB (some (decide ((((aB.map aG.c).length:Int):Int)<=24))) aB 0)
def JL(aB:aX)(cZ:Int):St:=⟨[(0,D.sl (aB.map aG.c)),(3,D.int .i64 cZ)],[]⟩
theorem HY(hΓ:Γ.nt=36){aB:aX}{r:Bool}{k1:Option Bool}(cq:k1=some r->Ax Γ N f80 (.q [[none]] (D.bool r)) [1,1] ⟨[(0,D.sl (aB.map aG.c))],[]⟩)(hm1:aB.length<=maxLen):∀(rest:aX) (i1:Nat),aB.drop i1=rest->jX aB k1 rest i1=some r->Ar Γ N f80 (.q [[none]] (D.bool r)) [1,0,1,0] (rest.length+1) (JL aB (i1:Int)):=by
 intro rest
 induction rest with
 |nil=>
  intro i1 au h;rw[jX]at h;refine aP fun N1 cB bw=>?_
  exact((aT.ge aG.c au).a [.hl 0 [0] []]).ex hΓ cB (cq h)
 |cons bA bt ih1=>
  intro i1 au h;rw[jX]at h;refine aP fun N1 cB bw=>?_
  obtain⟨ET,h46,h⟩:=aD h;have kH:=((((aT.lt aG.c au).a [.n 19]).l (b9 aG.c 2 (dc au) rfl)).g (AQ h46))
  obtain⟨h47,h⟩|⟨h47,h⟩:=aO h
  ·have h:=aE h;subst h;exact((((kH.r 3 h47).a [bF,bF,bF,bF,bF,bF,bF,bF,bF,bF,bF]).r 2 h47).T 1).ret hΓ
  ·have uB:=(kH.r 3 h47)
   obtain⟨h48,h⟩|⟨h48,h⟩:=aO h
   ·obtain⟨x49,h50,h⟩:=aD h;obtain⟨y51,h52,h⟩:=aD h;have x9:=((((((((((uB.r 4 h48).l (dO aG.c 2 h50 rfl)).r 4 h48).l (b9 aG.c 2 (dc au) rfl)).r 2 h48).g (BR h52)).b h48).b h47).b h48).b h47)
    obtain⟨h53,h⟩|⟨h53,h⟩:=aO h
    ·have h:=aE h;subst h;exact(x9.b h53).ret hΓ
    ·exact((x9.b h53).a [.cn [0,3] []]).ct hΓ bw (iS au hm1) (ih1 (i1+1) (dn au) h)
   ·exact((((((uB.r 11 h48).b h47).b h48).b h47).F 1).a [.cn [0,3] []]).ct hΓ bw (iS au hm1) (ih1 (i1+1) (dn au) h)
theorem FV{aB:aX}{r:Bool}(h:sn aB=some r):Good prog 80 [D.sl (aB.map aG.c)] (D.bool r):=by
 refine gd func80 [[none]] 36 fun hr Γ hΓ=>?_
 rw[sn]at h;refine(aT.a [.cn [0,3] []]).lp hΓ (HY hΓ (fun h=>?_) (by have:=(e7.sl (hr _ (aC (i:=0) rfl))).1;simpa using this) aB 0 rfl h);cases h;exact aT.ret hΓ
def jJ(aB:aH)(aV:aH)(k1:Option Bool):aH->Nat->Option Bool
 | [],i1=>(k1)
 |bA::bt,i1=>((nF aV (i1:Int)).bind fun x22=>(bif !((bA:Bytes)==x22)then(some false)else(jJ aB aV k1 bt (i1+1))))
def mS(aB:aH)(aV:aH):Option Bool:=(bif (((aB.map tx).length:Int):Int) != ((aV.map tx).length:Int)then(some false)else(jJ aB aV (some true) aB 0))
def EJ(aB:aH)(aV:aH)(cZ:Int):St:=⟨[(0,D.sl (aB.map tx)),(1,D.sl (aV.map tx)),(5,D.int .i64 cZ)],[]⟩
theorem D8(hΓ:Γ.nt=26){aB:aH}{aV:aH}{r:Bool}{k1:Option Bool}(cq:k1=some r->Ax Γ N f224 (.q [[none]] (D.bool r)) [1,1,1] ⟨[],[]⟩)(hm1:aB.length<=maxLen):∀(rest:aH) (i1:Nat),aB.drop i1=rest->jJ aB aV k1 rest i1=some r->Ar Γ N f224 (.q [[none]] (D.bool r)) [1,1,0,1,0] (rest.length+1) (EJ aB aV (i1:Int)):=by
 intro rest
 induction rest with
 |nil=>
  intro i1 au h;rw[jJ]at h;refine aP fun N1 cB bw=>?_
  exact((aT.ge tx au).a [.hl 0 [] []]).ex hΓ cB (cq h)
 |cons bA bt ih1=>
  intro i1 au h;rw[jJ]at h;refine aP fun N1 cB bw=>?_
  obtain⟨x22,h23,h⟩:=aD h;have dL:=((((aT.lt tx au).a [.n 8]).l (b9 tx 1 (dc au) rfl)).l (dO tx 1 h23 rfl))
  obtain⟨h24,h⟩|⟨h24,h⟩:=aO h
  ·have h:=aE h;subst h;exact(dL.b h24).ret hΓ
  ·exact((dL.b h24).a [.cn [0,1,5] []]).ct hΓ bw (iS au hm1) (ih1 (i1+1) (dn au) h)
theorem wK{aB:aH}{aV:aH}{r:Bool}(h:mS aB aV=some r):Good prog 224 [D.sl (aB.map tx),D.sl (aV.map tx)] (D.bool r):=by
 refine gd func224 [[none]] 26 fun hr Γ hΓ=>?_
 rw[mS]at h;obtain⟨h1,h⟩|⟨h1,h⟩:=aO h
 ·have h:=aE h;subst h;exact(aT.b h1).ret hΓ
 ·refine((aT.b h1).a [.cn [0,1,5] []]).lp hΓ (D8 hΓ (fun h=>?_) (by have:=(e7.sl (hr _ (aC (i:=0) rfl))).1;simpa using this) aB 0 rfl h);have h:=aE h;subst h;exact aT.ret hΓ
def tT(aB:aG)(aV:aG):Option Bool:=(bif (aB.rel:Bytes)==aV.rel then((mS aB.args aV.args).bind fun y2=>(some y2))else(some false))
theorem JY{aB:aG}{aV:aG}{r:Bool}(h:tT aB aV=some r):Good prog 150 [D.agg (aG.c aB),D.agg (aG.c aV)] (D.bool r):=by
 refine gd func150 [[none]] 17 fun hr Γ hΓ=>?_
 rw[tT]at h;obtain⟨h1,h⟩|⟨h1,h⟩:=aO h
 ·obtain⟨y2,h3,h⟩:=aD h;have h:=aE h;subst h;exact(((aT.r 5 h1).g (wK h3)).b h1).ret hΓ
 ·have h:=aE h;subst h;exact(aT.r 6 h1).ret hΓ
def gm(aB:Bytes):Option Bool:=(bif decide (((aB.length:Int):Int)>1)then((nF aB 0).bind fun b2=>(bif (b2.toNat:Int)==63 then((NG aB.length (some (D.int .i64 1)) none).bind fun p=>(fun l5 u6=>((ey ((aB.take u6).drop l5)).bind fun y8=>(some y8))) p.1 p.2)else(some false)))else(some false))
theorem fc{aB:Bytes}{r:Bool}(h:gm aB=some r):Good prog 234 [D.str aB] (D.bool r):=by
 refine gd func234 [[none]] 16 fun hr Γ hΓ=>?_
 rw[gm]at h;obtain⟨h1,h⟩|⟨h1,h⟩:=aO h
 ·obtain⟨b2,h3,h⟩:=aD h;have kX:=(((aT.r 2 h1).c h3).r 2 h1)
  obtain⟨h4,h⟩|⟨h4,h⟩:=aO h
  ·obtain⟨⟨l5,u6⟩,h7,h⟩:=aD h;obtain⟨y8,h9,h⟩:=aD h;have h:=aE h;subst h;exact((((((kX.r 2 h4).w h7).a [.cut l5 u6]).b h4).g (eG h9)).b h4).ret hΓ
  ·have h:=aE h;subst h;exact(kX.r 4 h4).ret hΓ
 ·have h:=aE h;subst h;exact((aT.r 4 h1).F 4).ret hΓ
def eA(aB:aH)(aV:Bytes)(k1:Bool->aH->Option aH):aH->Nat->Bool->aH->Option aH
 | [],i1,GI,b7=>(k1 GI b7)
 |bA::bt,i1,GI,b7=>(bif !(GI)then(bif !(Op.bytesLess bA aV)then(bif !((bA:Bytes)==aV)then(bif room ((b7.map tx).length+([[D.str aV]]).length) 16 then(bif room (((b7.map tx)++([[D.str aV]])).length+([[D.str bA]]).length) 16 then(eA aB aV k1 bt (i1+1) true ((b7++([aV]))++([bA])))else none)else none)else(bif room ((b7.map tx).length+([[D.str bA]]).length) 16 then(eA aB aV k1 bt (i1+1) true (b7++([bA])))else none))else(bif room ((b7.map tx).length+([[D.str bA]]).length) 16 then(eA aB aV k1 bt (i1+1) GI (b7++([bA])))else none))else(bif room ((b7.map tx).length+([[D.str bA]]).length) 16 then(eA aB aV k1 bt (i1+1) GI (b7++([bA])))else none))
def kT(aB:aH)(aV:Bytes):Option aH:=(eA aB aV (fun(a0p:Bool) (bN:aH)=>(bif !(a0p)then(bif room ((bN.map tx).length+([[D.str aV]]).length) 16 then(some (bN++([aV])))else none)else(some bN))) aB 0 false ([]:aH))
def sy(aB:aH)(aV:Bytes)(GI:Bool)(W1:List aQ)(cZ:Int):St:=⟨[(0,D.sl (aB.map tx)),(1,D.str aV),(5,D.acc 0),(6,D.bool GI),(7,D.int .i64 cZ)],[Ob.row .uq 9 1 W1]⟩
theorem M6(hΓ:Γ.nt=49){aB:aH}{aV:Bytes}{r:aH}{k1:Bool->aH->Option aH}(cq:∀(a0p:Bool) (bN:aH),k1 a0p bN=some r->Ax Γ N f275 (.q [[some (9,1)]] (D.fr 9 1 (r.map tx))) [1,1,1,1] ⟨[(1,D.str aV),(5,D.acc 0),(6,D.bool a0p)],[Ob.row .uq 9 1 (bN.map tx)]⟩)(hm1:aB.length<=maxLen):∀(rest:aH) (i1:Nat) (GI:Bool) (b7:aH),aB.drop i1=rest->eA aB aV k1 rest i1 GI b7=some r->Ar Γ N f275 (.q [[some (9,1)]] (D.fr 9 1 (r.map tx))) [1,1,1,0,1,0] (rest.length+1) (sy aB aV GI (b7.map tx) (i1:Int)):=by
 intro rest
 induction rest with
 |nil=>
  intro i1 GI b7 au h;rw[eA]at h;refine aP fun N1 cB bw=>?_
  exact((aT.ge tx au).a [.hl 0 [1,5,6] [0]]).ex hΓ cB (cq GI b7 h)
 |cons bA bt ih1=>
  intro i1 GI b7 au h;rw[eA]at h;refine aP fun N1 cB bw=>?_
  obtain⟨h58,h⟩|⟨h58,h⟩:=aO h
  ·have lV:=((((aT.lt tx au).r 3 h58).l (b9 tx 1 (dc au) rfl)).r 4 h58)
   obtain⟨h59,h⟩|⟨h59,h⟩:=aO h
   ·have kH:=((lV.b h59).l (b9 tx 1 (dc au) rfl))
    obtain⟨h60,h⟩|⟨h60,h⟩:=aO h
    ·obtain⟨h61,h⟩:=bY h;obtain⟨h62,h⟩:=bY h;exact(((((kH.b h60).w (cN h61)).l (b9 tx 1 (dc au) rfl)).w (cN h62)).a [.cn [0,1,5,6,7] [4]]).cs hΓ bw (sy aB aV true (((b7.map tx)++([[D.str aV]]))++([[D.str bA]])) (IntKind.i64.wrap ((i1:Int)+1))) (by first| (simp only[iS au hm1,mA]<;>rfl)| (simp only[iS au hm1,mA,aG.c,aK.c,aM.c,Action.c,aN.c,aR.c,az.c,aW.c,Node.c,aJ.c,dH.c]<;>rfl)) (ih1 (i1+1) true ((b7++([aV]))++([bA])) (dn au) h)
    ·obtain⟨h63,h⟩:=bY h;exact((((kH.b h60).l (b9 tx 1 (dc au) rfl)).w (cN h63)).a [.cn [0,1,5,6,7] [2]]).cs hΓ bw (sy aB aV true ((b7.map tx)++([[D.str bA]])) (IntKind.i64.wrap ((i1:Int)+1))) (by first| (simp only[iS au hm1,mA]<;>rfl)| (simp only[iS au hm1,mA,aG.c,aK.c,aM.c,Action.c,aN.c,aR.c,az.c,aW.c,Node.c,aJ.c,dH.c]<;>rfl)) (ih1 (i1+1) true (b7++([bA])) (dn au) h)
   ·obtain⟨h64,h⟩:=bY h;exact((((lV.b h59).l (b9 tx 1 (dc au) rfl)).w (cN h64)).a [.cn [0,1,5,6,7] [2]]).cs hΓ bw (sy aB aV GI ((b7.map tx)++([[D.str bA]])) (IntKind.i64.wrap ((i1:Int)+1))) (by first| (simp only[iS au hm1,mA]<;>rfl)| (simp only[iS au hm1,mA,aG.c,aK.c,aM.c,Action.c,aN.c,aR.c,az.c,aW.c,Node.c,aJ.c,dH.c]<;>rfl)) (ih1 (i1+1) GI (b7++([bA])) (dn au) h)
  ·obtain⟨h65,h⟩:=bY h;exact((((((aT.lt tx au).r 7 h58).F 1).l (b9 tx 1 (dc au) rfl)).w (cN h65)).a [.cn [0,1,5,6,7] [2]]).cs hΓ bw (sy aB aV GI ((b7.map tx)++([[D.str bA]])) (IntKind.i64.wrap ((i1:Int)+1))) (by first| (simp only[iS au hm1,mA]<;>rfl)| (simp only[iS au hm1,mA,aG.c,aK.c,aM.c,Action.c,aN.c,aR.c,az.c,aW.c,Node.c,aJ.c,dH.c]<;>rfl)) (ih1 (i1+1) GI (b7++([bA])) (dn au) h)
theorem kU{aB:aH}{aV:Bytes}{r:aH}(h:kT aB aV=some r):Good prog 275 [D.sl (aB.map tx),D.str aV] (D.fr 9 1 (r.map tx)):=by
 refine gd func275 [[some (9,1)]] 49 fun hr Γ hΓ=>?_
 rw[kT]at h;refine(aT.a [.cn [0,1,5,6,7] [0]]).lp hΓ (M6 hΓ (fun a0p bN h=>?_) (by have:=(e7.sl (hr _ (aC (i:=0) rfl))).1;simpa using this) aB 0 false ([]:aH) rfl h);obtain⟨h66,h⟩|⟨h66,h⟩:=aO h
 ·obtain⟨h67,h⟩:=bY h;cases h;exact((aT.b h66).w (cN h67)).rts hΓ (D.fr 9 1 ((bN.map tx)++([[D.str aV]]))) (by first|rfl| (simp only[mA]<;>rfl))
 ·have h:=aE h;subst h;exact(aT.b h66).ret hΓ
def k7(aB:aG)(k1:aH->Option aH):aH->Nat->aH->Option aH
 | [],i1,cA=>(k1 cA)
 |bA::bt,i1,cA=>((gm bA).bind fun RU=>(bif RU then((kT cA bA).bind fun y40=>(k7 aB k1 bt (i1+1) y40))else(k7 aB k1 bt (i1+1) cA)))
def me(aB:aG):Option aH:=(k7 aB (fun(bN:aH)=>(some bN)) aB.args 0 ([]:aH))
def M5(aB:aG)(W0:List aQ)(cZ:Int):St:=⟨[(1,D.ptr 0 0),(3,D.acc 1),(4,D.int .i64 cZ)],[Ob.box (aG.c aB),Ob.row .uq 9 1 W0]⟩
theorem Kq(hΓ:Γ.nt=27){aB:aG}{r:aH}{k1:aH->Option aH}(cq:∀(bN:aH),k1 bN=some r->Ax Γ N f254 (.q [[some (9,1)]] (D.fr 9 1 (r.map tx))) [1,1,1] ⟨[(3,D.acc 0)],[Ob.row .uq 9 1 (bN.map tx)]⟩)(hm1:aB.args.length<=maxLen):∀(rest:aH) (i1:Nat) (cA:aH),aB.args.drop i1=rest->k7 aB k1 rest i1 cA=some r->Ar Γ N f254 (.q [[some (9,1)]] (D.fr 9 1 (r.map tx))) [1,1,0,1,0] (rest.length+1) (M5 aB (cA.map tx) (i1:Int)):=by
 intro rest
 induction rest with
 |nil=>
  intro i1 cA au h;rw[k7]at h;refine aP fun N1 cB bw=>?_
  exact((aT.ge tx au).a [.hl 0 [3] [1]]).ex hΓ cB (cq cA h)
 |cons bA bt ih1=>
  intro i1 cA au h;rw[k7]at h;refine aP fun N1 cB bw=>?_
  obtain⟨RU,h38,h⟩:=aD h;have dL:=(((aT.lt tx au).l (b9 tx 1 (dc au) rfl)).g (fc h38))
  obtain⟨h39,h⟩|⟨h39,h⟩:=aO h
  ·obtain⟨y40,h41,h⟩:=aD h;exact((((dL.b h39).l (b9 tx 1 (dc au) rfl)).g (kU h41)).a [.cn [1,3,4] [0,2]]).ct hΓ bw (iS au hm1) (ih1 (i1+1) y40 (dn au) h)
  ·exact((dL.b h39).a [.cn [1,3,4] [0,1]]).ct hΓ bw (iS au hm1) (ih1 (i1+1) cA (dn au) h)
theorem pE{aB:aG}{r:aH}(h:me aB=some r):Good prog 254 [D.agg (aG.c aB)] (D.fr 9 1 (r.map tx)):=by
 refine gd func254 [[some (9,1)]] 27 fun hr Γ hΓ=>?_
 rw[me]at h;refine(aT.a [.cn [1,3,4] [0,1]]).lp hΓ (Kq hΓ (fun bN h=>?_) (by have:=(e7.sl (e7.agg (hr _ (aC (i:=0) rfl)) (.sl (aB.args.map tx)) (by simp))).1;simpa using this) aB.args 0 ([]:aH) rfl h);have h:=aE h;subst h;exact aT.ret hΓ
def j3(aB:aN)(aV:Int)(i1:Nat)(LZ:aH)(k2:aH->Option aH):aH->Nat->aH->Option aH
 | [],i2,dZ=>(k2 dZ)
 |mh::wD,i2,dZ=>((kT dZ mh).bind fun a5n=>(j3 aB aV i1 LZ k2 wD (i2+1) a5n))
def fL(aB:aN)(aV:Int)(k1:aH->Option aH):ai->Nat->aH->Option aH
 | [],i1,cA=>(k1 cA)
 |bA::bt,i1,cA=>(bif decide (((i1:Int):Int)<aV)then(bif (bA.kind:Int)==1 then((me bA.pat).bind fun LZ=>(bif decide (LZ.length<=maxLen)then(j3 aB aV i1 LZ (fun(qd:aH)=>(fL aB aV k1 bt (i1+1) qd)) LZ 0 cA)else none))else(fL aB aV k1 bt (i1+1) cA))else(k1 cA))
def mM(aB:aN)(aV:Int):Option aH:=(fL aB aV (fun(bN:aH)=>(some bN)) aB.conds 0 ([]:aH))
def He(aB:aN)(aV:Int)(W0:List aQ)(cZ:Int):St:=⟨[(1,D.int .i64 aV),(2,D.ptr 0 0),(5,D.acc 1),(6,D.int .i64 cZ)],[Ob.box (aN.c aB),Ob.row .uq 9 1 W0]⟩
def Hf(aB:aN)(aV:Int)(i1:Nat)(LZ:aH)(W0:List aQ)(cZ:Int):St:=⟨[(1,D.int .i64 aV),(2,D.ptr 0 0),(5,D.acc 1),(6,D.int .i64 (i1:Int)),(7,D.acc 2),(8,D.int .i64 cZ)],[Ob.box (aN.c aB),Ob.row .uq 9 1 W0,Ob.row .uq 9 1 (LZ.map tx)]⟩
theorem FX(hΓ:Γ.nt=49){aB:aN}{aV:Int}{i1:Nat}{LZ:aH}{r:aH}{k2:aH->Option aH}(DV:∀(qd:aH),k2 qd=some r->Ax Γ N f247 (.q [[some (9,1)]] (D.fr 9 1 (r.map tx))) [1,1,0,1,0,0,1,1] ⟨[(1,D.int .i64 aV),(2,D.ptr 0 0),(5,D.acc 1),(6,D.int .i64 (i1:Int))],[Ob.box (aN.c aB),Ob.row .uq 9 1 (qd.map tx)]⟩)(hm2:LZ.length<=maxLen):∀(rest:aH) (i2:Nat) (dZ:aH),LZ.drop i2=rest->j3 aB aV i1 LZ k2 rest i2 dZ=some r->Ar Γ N f247 (.q [[some (9,1)]] (D.fr 9 1 (r.map tx))) [1,1,0,1,0,0,1,0,0,1,0,1,1,0] (rest.length+1) (Hf aB aV i1 LZ (dZ.map tx) (i2:Int)):=by
 intro rest
 induction rest with
 |nil=>
  intro i2 dZ hd2 h;rw[j3]at h;refine aP fun N2 xA vY=>?_
  exact((aT.ge tx hd2).a [.hl 3 [1,2,5,6] [0,1]]).ex hΓ xA (DV dZ h)
 |cons mh wD ih2=>
  intro i2 dZ hd2 h;rw[j3]at h;refine aP fun N2 xA vY=>?_
  obtain⟨a5n,h184,h⟩:=aD h;exact(((((aT.lt tx hd2).i (oK tx 1 (dc hd2))).o 1 1 .uq (eT tx (dc hd2))).g (kU h184)).a [.cn [1,2,5,6,7,8] [0,3,2]]).ct hΓ vY (iS hd2 hm2) (ih2 (i2+1) a5n (dn hd2) h)
theorem FW(hΓ:Γ.nt=49){aB:aN}{aV:Int}{r:aH}{k1:aH->Option aH}(cq:∀(bN:aH),k1 bN=some r->Ax Γ N f247 (.q [[some (9,1)]] (D.fr 9 1 (r.map tx))) [1,1,1] ⟨[(5,D.acc 0)],[Ob.row .uq 9 1 (bN.map tx)]⟩)(hm1:aB.conds.length<=maxLen):∀(rest:ai) (i1:Nat) (cA:aH),aB.conds.drop i1=rest->fL aB aV k1 rest i1 cA=some r->Ar Γ N f247 (.q [[some (9,1)]] (D.fr 9 1 (r.map tx))) [1,1,0,1,0] (rest.length+1) (He aB aV (cA.map tx) (i1:Int)):=by
 intro rest
 induction rest with
 |nil=>
  intro i1 cA au h;rw[fL]at h;refine aP fun N1 cB bw=>?_
  exact((((((aT.ge aM.c au).ge aM.c au).ge aM.c au).ge aM.c au).F 1).a [.hl 0 [5] [1]]).ex hΓ cB (cq cA h)
 |cons bA bt ih1=>
  intro i1 cA au h;rw[fL]at h;refine aP fun N1 cB bw=>?_
  have lV:=((((aT.lt aM.c au).lt aM.c au).lt aM.c au).lt aM.c au)
  obtain⟨h157,h⟩|⟨h157,h⟩:=aO h
  ·have kH:=((lV.b h157).l (b9 aM.c 5 (dc au) rfl))
   obtain⟨h158,h⟩|⟨h158,h⟩:=aO h
   ·obtain⟨LZ,h160,h⟩:=aD h;obtain⟨h185,h⟩:=bY h;refine((((kH.b h158).l (b9 aM.c 5 (dc au) rfl)).g (pE h160)).a [.cn [1,2,5,6,7,8] [0,1,2]]).lp hΓ (FX hΓ (fun qd h=>?_) (bp h185) LZ 0 cA rfl h);exact(aT.a [.cn [1,2,5,6] [0,1]]).ct hΓ bw (iS au hm1) (ih1 (i1+1) qd (dn au) h)
   ·exact((kH.b h158).a [.cn [1,2,5,6] [0,1]]).ct hΓ bw (iS au hm1) (ih1 (i1+1) cA (dn au) h)
  ·exact((lV.b h157).a [.hl 0 [5] [1]]).ex hΓ cB (cq cA h)
theorem tr{aB:aN}{aV:Int}{r:aH}(h:mM aB aV=some r):Good prog 247 [D.agg (aN.c aB),D.int .i64 aV] (D.fr 9 1 (r.map tx)):=by
 refine gd func247 [[some (9,1)]] 49 fun hr Γ hΓ=>?_
 rw[mM]at h;refine(aT.a [.cn [1,2,5,6] [0,1]]).lp hΓ (FW hΓ (fun bN h=>?_) (by have:=(e7.sl (e7.agg (hr _ (aC (i:=0) rfl)) (.sl (aB.conds.map aM.c)) (by simp))).1;simpa using this) aB.conds 0 ([]:aH) rfl h);have h:=aE h;subst h;exact aT.ret hΓ
def iQ(aB:Bytes):Option Bool:=((ey aB).bind fun y1=>(bif y1 then(some true)else((gm aB).bind fun y4=>(some y4))))
theorem ja{aB:Bytes}{r:Bool}(h:iQ aB=some r):Good prog 269 [D.str aB] (D.bool r):=by
 refine gd func269 [[none]] 9 fun hr Γ hΓ=>?_
 rw[iQ]at h;obtain⟨y1,h2,h⟩:=aD h;obtain⟨h3,h⟩|⟨h3,h⟩:=aO h
 ·have h:=aE h;subst h;exact((aT.g (eG h2)).r 3 h3).ret hΓ
 ·obtain⟨y4,h5,h⟩:=aD h;have h:=aE h;subst h;exact((((aT.g (eG h2)).r 2 h3).g (fc h5)).b h3).ret hΓ
def lC(aB:aG)(k1:Option Bool):aH->Nat->Option Bool
 | [],i1=>(k1)
 |bA::bt,i1=>((iQ bA).bind fun WD=>(bif !(WD)then(some false)else(lC aB k1 bt (i1+1))))
def iZ(aB:aG):Option Bool:=(lC aB ((qW aB.rel).bind fun PT=>(bif PT then(some (decide ((((aB.args.map tx).length:Int):Int)<=3)))else(some false))) aB.args 0)
def Hl(aB:aG)(cZ:Int):St:=⟨[(1,D.ptr 0 0),(3,D.int .i64 cZ)],[Ob.box (aG.c aB)]⟩
theorem Fe(hΓ:Γ.nt=27){aB:aG}{r:Bool}{k1:Option Bool}(cq:k1=some r->Ax Γ N f225 (.q [[none]] (D.bool r)) [1,1] ⟨[(1,D.ptr 0 0)],[Ob.box (aG.c aB)]⟩)(hm1:aB.args.length<=maxLen):∀(rest:aH) (i1:Nat),aB.args.drop i1=rest->lC aB k1 rest i1=some r->Ar Γ N f225 (.q [[none]] (D.bool r)) [1,0,1,0] (rest.length+1) (Hl aB (i1:Int)):=by
 intro rest
 induction rest with
 |nil=>
  intro i1 au h;rw[lC]at h;refine aP fun N1 cB bw=>?_
  exact((aT.ge tx au).a [.hl 0 [1] [0]]).ex hΓ cB (cq h)
 |cons bA bt ih1=>
  intro i1 au h;rw[lC]at h;refine aP fun N1 cB bw=>?_
  obtain⟨WD,h22,h⟩:=aD h;have dL:=(((aT.lt tx au).l (b9 tx 1 (dc au) rfl)).g (ja h22))
  obtain⟨h23,h⟩|⟨h23,h⟩:=aO h
  ·have h:=aE h;subst h;exact(dL.b h23).ret hΓ
  ·exact((dL.b h23).a [.cn [1,3] [0]]).ct hΓ bw (iS au hm1) (ih1 (i1+1) (dn au) h)
theorem jI{aB:aG}{r:Bool}(h:iZ aB=some r):Good prog 225 [D.agg (aG.c aB)] (D.bool r):=by
 refine gd func225 [[none]] 27 fun hr Γ hΓ=>?_
 rw[iZ]at h;refine(aT.a [.cn [1,3] [0]]).lp hΓ (Fe hΓ (fun h=>?_) (by have:=(e7.sl (e7.agg (hr _ (aC (i:=0) rfl)) (.sl (aB.args.map tx)) (by simp))).1;simpa using this) aB.args 0 rfl h);obtain⟨PT,h25,h⟩:=aD h;obtain⟨h26,h⟩|⟨h26,h⟩:=aO h
 ·cases h;exact((aT.g (mO h25)).r 5 h26).ret hΓ
 ·have h:=aE h;subst h;exact((aT.g (mO h25)).r 5 h26).ret hΓ
def qU(aB:aM):Option Bool:=(bif (aB.kind:Int)==1 then((iZ aB.pat).bind fun y2=>(bif y2 then(bif (aB.left:Bytes)==([])then(some ((aB.right:Bytes)==([])))else(some false))else(some false)))else(bif (aB.kind:Int)==2 then((iZ aB.pat).bind fun y7=>(bif y7 then(bif (aB.left:Bytes)==([])then(some ((aB.right:Bytes)==([])))else(some false))else(some false)))else(bif (aB.kind:Int)==3 then(bif (aB.pat.rel:Bytes)==([])then(bif (((aB.pat.args.map tx).length:Int):Int)==0 then((iQ aB.left).bind fun y14=>(bif y14 then((iQ aB.right).bind fun Xh=>(some Xh))else(some false)))else(some false))else(some false))else(bif (aB.kind:Int)==4 then(bif (aB.pat.rel:Bytes)==([])then(bif (((aB.pat.args.map tx).length:Int):Int)==0 then((iQ aB.left).bind fun kE=>(bif kE then((iQ aB.right).bind fun y25=>(some y25))else(some false)))else(some false))else(some false))else(bif (aB.kind:Int)==5 then(bif (aB.pat.rel:Bytes)==([])then(bif (((aB.pat.args.map tx).length:Int):Int)==0 then((iQ aB.left).bind fun y30=>(bif y30 then((iQ aB.right).bind fun Db=>(some Db))else(some false)))else(some false))else(some false))else(some false))))))
theorem p9{aB:aM}{r:Bool}(h:qU aB=some r):Good prog 248 [D.agg (aM.c aB)] (D.bool r):=by
 refine gd func248 [[none]] 46 fun hr Γ hΓ=>?_
 rw[qU]at h;obtain⟨h1,h⟩|⟨h1,h⟩:=aO h
 ·obtain⟨y2,h3,h⟩:=aD h;have kX:=((aT.r 2 h1).g (jI h3))
  obtain⟨h4,h⟩|⟨h4,h⟩:=aO h
  ·have dL:=(kX.r 4 h4)
   obtain⟨h5,h⟩|⟨h5,h⟩:=aO h
   ·cases h;exact(dL.r 4 h5).ret hΓ
   ·have h:=aE h;subst h;exact(dL.r 4 h5).ret hΓ
  ·have h:=aE h;subst h;exact((kX.r 4 h4).F 4).ret hΓ
 ·obtain⟨h6,h⟩|⟨h6,h⟩:=aO h
  ·obtain⟨y7,h8,h⟩:=aD h;have lV:=(((aT.b h1).b h6).g (jI h8))
   obtain⟨h9,h⟩|⟨h9,h⟩:=aO h
   ·have kH:=(lV.r 4 h9)
    obtain⟨h10,h⟩|⟨h10,h⟩:=aO h
    ·cases h;exact(kH.r 4 h10).ret hΓ
    ·have h:=aE h;subst h;exact(kH.r 4 h10).ret hΓ
   ·have h:=aE h;subst h;exact((lV.r 4 h9).F 4).ret hΓ
  ·have uB:=((aT.b h1).b h6)
   obtain⟨h11,h⟩|⟨h11,h⟩:=aO h
   ·have x9:=(uB.r 2 h11)
    obtain⟨h12,h⟩|⟨h12,h⟩:=aO h
    ·have Ac:=(x9.r 6 h12)
     obtain⟨h13,h⟩|⟨h13,h⟩:=aO h
     ·obtain⟨y14,h15,h⟩:=aD h;have IE:=(((Ac.r 3 h13).g (ja h15)).b h13)
      obtain⟨h16,h⟩|⟨h16,h⟩:=aO h
      ·obtain⟨Xh,h18,h⟩:=aD h;have h:=aE h;subst h;exact(((IE.r 3 h16).g (ja h18)).b h16).ret hΓ
      ·have h:=aE h;subst h;exact(IE.r 4 h16).ret hΓ
     ·have h:=aE h;subst h;exact((Ac.r 4 h13).F 4).ret hΓ
    ·have h:=aE h;subst h;exact((x9.r 6 h12).F 8).ret hΓ
   ·obtain⟨h19,h⟩|⟨h19,h⟩:=aO h
    ·have Mi:=((uB.b h11).r 2 h19)
     obtain⟨h20,h⟩|⟨h20,h⟩:=aO h
     ·have CM:=(Mi.r 6 h20)
      obtain⟨h21,h⟩|⟨h21,h⟩:=aO h
      ·obtain⟨kE,h23,h⟩:=aD h;have LK:=(((CM.r 3 h21).g (ja h23)).b h21)
       obtain⟨h24,h⟩|⟨h24,h⟩:=aO h
       ·obtain⟨y25,h26,h⟩:=aD h;have h:=aE h;subst h;exact(((LK.r 3 h24).g (ja h26)).b h24).ret hΓ
       ·have h:=aE h;subst h;exact(LK.r 4 h24).ret hΓ
      ·have h:=aE h;subst h;exact((CM.r 4 h21).F 4).ret hΓ
     ·have h:=aE h;subst h;exact((Mi.r 6 h20).F 8).ret hΓ
    ·have ER:=((uB.b h11).b h19)
     obtain⟨h27,h⟩|⟨h27,h⟩:=aO h
     ·obtain⟨h28,h⟩|⟨h28,h⟩:=aO h
      ·have LL:=((ER.b h27).r 6 h28)
       obtain⟨h29,h⟩|⟨h29,h⟩:=aO h
       ·obtain⟨y30,h31,h⟩:=aD h;have OU:=(((LL.r 3 h29).g (ja h31)).b h29)
        obtain⟨h32,h⟩|⟨h32,h⟩:=aO h
        ·obtain⟨Db,h34,h⟩:=aD h;have h:=aE h;subst h;exact(((OU.r 3 h32).g (ja h34)).b h32).ret hΓ
        ·have h:=aE h;subst h;exact(OU.r 4 h32).ret hΓ
       ·have h:=aE h;subst h;exact((LL.r 4 h29).F 4).ret hΓ
      ·have h:=aE h;subst h;exact(((ER.b h27).r 6 h28).F 8).ret hΓ
     ·have h:=aE h;subst h;exact(ER.b h27).ret hΓ
def lG(aB:aM):Option aH:=((me aB.pat).bind fun y1=>((gm aB.left).bind fun y3=>(bif y3 then((kT y1 aB.left).bind fun y6=>((gm aB.right).bind fun y8=>(bif y8 then((kT y6 aB.right).bind fun y11=>(some y11))else(some y6))))else((gm aB.right).bind fun u7=>(bif u7 then((kT y1 aB.right).bind fun y16=>(some y16))else(some y1))))))
theorem qD{aB:aM}{r:aH}(h:lG aB=some r):Good prog 249 [D.agg (aM.c aB)] (D.fr 9 1 (r.map tx)):=by
 refine gd func249 [[some (9,1)]] 22 fun hr Γ hΓ=>?_
 rw[lG]at h;obtain⟨y1,h2,h⟩:=aD h;obtain⟨y3,h4,h⟩:=aD h;have kX:=((aT.g (pE h2)).g (fc h4))
 obtain⟨h5,h⟩|⟨h5,h⟩:=aO h
 ·obtain⟨y6,h7,h⟩:=aD h;obtain⟨y8,h9,h⟩:=aD h;have dL:=(((kX.b h5).g (kU h7)).g (fc h9))
  obtain⟨h10,h⟩|⟨h10,h⟩:=aO h
  ·obtain⟨y11,h12,h⟩:=aD h;have h:=aE h;subst h;exact((dL.b h10).g (kU h12)).ret hΓ
  ·have h:=aE h;subst h;exact(dL.b h10).ret hΓ
 ·obtain⟨u7,h14,h⟩:=aD h;have lV:=((kX.b h5).g (fc h14))
  obtain⟨h15,h⟩|⟨h15,h⟩:=aO h
  ·obtain⟨y16,h17,h⟩:=aD h;have h:=aE h;subst h;exact((lV.b h15).g (kU h17)).ret hΓ
  ·have h:=aE h;subst h;exact(lV.b h15).ret hΓ
def jA(aB:aH)(aV:Bytes)(k1:Option Bool):aH->Nat->Option Bool
 | [],i1=>(k1)
 |bA::bt,i1=>(bif (bA:Bytes)==aV then(some true)else(jA aB aV k1 bt (i1+1)))
def gO(aB:aH)(aV:Bytes):Option Bool:=(jA aB aV (some false) aB 0)
def Hv(aB:aH)(aV:Bytes)(cZ:Int):St:=⟨[(0,D.sl (aB.map tx)),(1,D.str aV),(5,D.int .i64 cZ)],[]⟩
theorem Fk(hΓ:Γ.nt=18){aB:aH}{aV:Bytes}{r:Bool}{k1:Option Bool}(cq:k1=some r->Ax Γ N f250 (.q [[none]] (D.bool r)) [1,1] ⟨[],[]⟩)(hm1:aB.length<=maxLen):∀(rest:aH) (i1:Nat),aB.drop i1=rest->jA aB aV k1 rest i1=some r->Ar Γ N f250 (.q [[none]] (D.bool r)) [1,0,1,0] (rest.length+1) (Hv aB aV (i1:Int)):=by
 intro rest
 induction rest with
 |nil=>
  intro i1 au h;rw[jA]at h;refine aP fun N1 cB bw=>?_
  exact((aT.ge tx au).a [.hl 0 [] []]).ex hΓ cB (cq h)
 |cons bA bt ih1=>
  intro i1 au h;rw[jA]at h;refine aP fun N1 cB bw=>?_
  have dL:=((aT.lt tx au).l (b9 tx 1 (dc au) rfl))
  obtain⟨h13,h⟩|⟨h13,h⟩:=aO h
  ·have h:=aE h;subst h;exact(dL.b h13).ret hΓ
  ·exact((dL.b h13).a [.cn [0,1,5] []]).ct hΓ bw (iS au hm1) (ih1 (i1+1) (dn au) h)
theorem lU{aB:aH}{aV:Bytes}{r:Bool}(h:gO aB aV=some r):Good prog 250 [D.sl (aB.map tx),D.str aV] (D.bool r):=by
 refine gd func250 [[none]] 18 fun hr Γ hΓ=>?_
 rw[gO]at h;refine(aT.a [.cn [0,1,5] []]).lp hΓ (Fk hΓ (fun h=>?_) (by have:=(e7.sl (hr _ (aC (i:=0) rfl))).1;simpa using this) aB 0 rfl h);have h:=aE h;subst h;exact aT.ret hΓ
def qX(aB:aM):Option Bool:=((qU aB).bind fun y1=>(bif y1 then(some (decide ((aB.kind:Int)>=3)))else(some false)))
theorem sH{aB:aM}{r:Bool}(h:qX aB=some r):Good prog 251 [D.agg (aM.c aB)] (D.bool r):=by
 refine gd func251 [[none]] 10 fun hr Γ hΓ=>?_
 rw[qX]at h;obtain⟨y1,h2,h⟩:=aD h;obtain⟨h3,h⟩|⟨h3,h⟩:=aO h
 ·cases h;exact((aT.g (p9 h2)).r 4 h3).ret hΓ
 ·have h:=aE h;subst h;exact((aT.g (p9 h2)).r 4 h3).ret hΓ
def fH(aB:aN)(aV:Int)(cr:Bytes)(k1:Option Bool):ai->Nat->Option Bool
 | [],i1=>(k1)
 |bA::bt,i1=>(bif ((i1:Int):Int) != aV then((lG bA).bind fun CT=>((gO CT cr).bind fun IP=>(bif IP then(some true)else(fH aB aV cr k1 bt (i1+1)))))else(fH aB aV cr k1 bt (i1+1)))
def gl(aB:aN)(cr:Bytes)(k2:Option Bool):c8->Nat->Option Bool
 | [],i2=>(k2)
 |mh::wD,i2=>((me mh.pat).bind fun y67=>((gO y67 cr).bind fun y69=>(bif y69 then(some true)else(gl aB cr k2 wD (i2+1)))))
def mW(aB:aN)(aV:Int)(cr:Bytes):Option Bool:=(fH aB aV cr (gl aB cr (some false) aB.ck 0) aB.conds 0)
def EK(aB:aN)(aV:Int)(cr:Bytes)(cZ:Int):St:=⟨[(1,D.int .i64 aV),(2,D.str cr),(3,D.ptr 0 0),(7,D.int .i64 cZ)],[Ob.box (aN.c aB)]⟩
theorem D9(hΓ:Γ.nt=45){aB:aN}{aV:Int}{cr:Bytes}{r:Bool}{k1:Option Bool}(cq:k1=some r->Ax Γ N f252 (.q [[none]] (D.bool r)) [1,1] ⟨[(2,D.str cr),(3,D.ptr 0 0)],[Ob.box (aN.c aB)]⟩)(hm1:aB.conds.length<=maxLen):∀(rest:ai) (i1:Nat),aB.conds.drop i1=rest->fH aB aV cr k1 rest i1=some r->Ar Γ N f252 (.q [[none]] (D.bool r)) [1,0,1,0] (rest.length+1) (EK aB aV cr (i1:Int)):=by
 intro rest
 induction rest with
 |nil=>
  intro i1 au h;rw[fH]at h;refine aP fun N1 cB bw=>?_
  exact((aT.ge aM.c au).a [.hl 0 [2,3] [0]]).ex hΓ cB (cq h)
 |cons bA bt ih1=>
  intro i1 au h;rw[fH]at h;refine aP fun N1 cB bw=>?_
  obtain⟨h33,h⟩|⟨h33,h⟩:=aO h
  ·obtain⟨CT,h35,h⟩:=aD h;obtain⟨IP,h37,h⟩:=aD h;have lV:=((((((((aT.lt aM.c au).r 4 h33).l (b9 aM.c 5 (dc au) rfl)).r 2 h33).g (qD h35)).r 2 h33).g (lU h37)).b h33)
   obtain⟨h38,h⟩|⟨h38,h⟩:=aO h
   ·have h:=aE h;subst h;exact(lV.b h38).ret hΓ
   ·exact((lV.b h38).a [.cn [1,2,3,7] [0]]).ct hΓ bw (iS au hm1) (ih1 (i1+1) (dn au) h)
  ·exact((((aT.lt aM.c au).r 9 h33).F 1).a [.cn [1,2,3,7] [0]]).ct hΓ bw (iS au hm1) (ih1 (i1+1) (dn au) h)
def EL(aB:aN)(cr:Bytes)(cZ:Int):St:=⟨[(2,D.str cr),(3,D.ptr 0 0),(8,D.int .i64 cZ)],[Ob.box (aN.c aB)]⟩
theorem DA(hΓ:Γ.nt=45){aB:aN}{cr:Bytes}{r:Bool}{k2:Option Bool}(DV:k2=some r->Ax Γ N f252 (.q [[none]] (D.bool r)) [1,1,1] ⟨[],[]⟩)(hm2:aB.ck.length<=maxLen):∀(rest:c8) (i2:Nat),aB.ck.drop i2=rest->gl aB cr k2 rest i2=some r->Ar Γ N f252 (.q [[none]] (D.bool r)) [1,1,0,1,0] (rest.length+1) (EL aB cr (i2:Int)):=by
 intro rest
 induction rest with
 |nil=>
  intro i2 hd2 h;rw[gl]at h;refine aP fun N2 xA vY=>?_
  exact((aT.ge Action.c hd2).a [.hl 0 [] []]).ex hΓ xA (DV h)
 |cons mh wD ih2=>
  intro i2 hd2 h;rw[gl]at h;refine aP fun N2 xA vY=>?_
  obtain⟨y67,h68,h⟩:=aD h;obtain⟨y69,h70,h⟩:=aD h;have kH:=((((aT.lt Action.c hd2).l (b9 Action.c 3 (dc hd2) rfl)).g (pE h68)).g (lU h70))
  obtain⟨h71,h⟩|⟨h71,h⟩:=aO h
  ·have h:=aE h;subst h;exact(kH.b h71).ret hΓ
  ·exact((kH.b h71).a [.cn [2,3,8] [0]]).ct hΓ vY (iS hd2 hm2) (ih2 (i2+1) (dn hd2) h)
theorem wL{aB:aN}{aV:Int}{cr:Bytes}{r:Bool}(h:mW aB aV cr=some r):Good prog 252 [D.agg (aN.c aB),D.int .i64 aV,D.str cr] (D.bool r):=by
 refine gd func252 [[none]] 45 fun hr Γ hΓ=>?_
 rw[mW]at h;refine(aT.a [.cn [1,2,3,7] [0]]).lp hΓ (D9 hΓ (fun h=>?_) (by have:=(e7.sl (e7.agg (hr _ (aC (i:=0) rfl)) (.sl (aB.conds.map aM.c)) (by simp))).1;simpa using this) aB.conds 0 rfl h);refine(aT.a [.cn [2,3,8] [0]]).lp hΓ (DA hΓ (fun h=>?_) (by have:=(e7.sl (e7.agg (hr _ (aC (i:=0) rfl)) (.sl (aB.ck.map Action.c)) (by simp))).1;simpa using this) aB.ck 0 rfl h);have h:=aE h;subst h;exact aT.ret hΓ
def sv(aB:Action):Option Bool:=(bif (aB.kind:Int)==1 then((iZ aB.pat).bind fun y2=>(some y2))else(bif (aB.kind:Int)==2 then((iZ aB.pat).bind fun y5=>(some y5))else(bif (aB.kind:Int)==3 then(bif (aB.pat.rel:Bytes)==([])then(some ((((aB.pat.args.map tx).length:Int):Int)==0))else(some false))else(some false))))
theorem FZ{aB:Action}{r:Bool}(h:sv aB=some r):Good prog 253 [D.agg (Action.c aB)] (D.bool r):=by
 refine gd func253 [[none]] 24 fun hr Γ hΓ=>?_
 rw[sv]at h;obtain⟨h1,h⟩|⟨h1,h⟩:=aO h
 ·obtain⟨y2,h3,h⟩:=aD h;have h:=aE h;subst h;exact((aT.r 2 h1).g (jI h3)).ret hΓ
 ·obtain⟨h4,h⟩|⟨h4,h⟩:=aO h
  ·obtain⟨y5,h6,h⟩:=aD h;have h:=aE h;subst h;exact(((aT.b h1).b h4).g (jI h6)).ret hΓ
  ·have kX:=((aT.b h1).b h4)
   obtain⟨h7,h⟩|⟨h7,h⟩:=aO h
   ·obtain⟨h8,h⟩|⟨h8,h⟩:=aO h
    ·cases h;exact((kX.b h7).r 6 h8).ret hΓ
    ·have h:=aE h;subst h;exact((kX.b h7).r 6 h8).ret hΓ
   ·have h:=aE h;subst h;exact(kX.b h7).ret hΓ
def jb(aB:aN)(i1:Nat)(LY:aH)(k2:aH->Option aH):aH->Nat->aH->Option aH
 | [],i2,dZ=>(k2 dZ)
 |mh::wD,i2,dZ=>((kT dZ mh).bind fun a5m=>(jb aB i1 LY k2 wD (i2+1) a5m))
def iG(aB:aN)(k1:aH->Option aH):ai->Nat->aH->Option aH
 | [],i1,cA=>(k1 cA)
 |bA::bt,i1,cA=>((lG bA).bind fun LY=>(bif decide (LY.length<=maxLen)then(jb aB i1 LY (fun(qd:aH)=>(iG aB k1 bt (i1+1) qd)) LY 0 cA)else none))
def jc(aB:aN)(i3:Nat)(Lc:aH)(k4:aH->Option aH):aH->Nat->aH->Option aH
 | [],i4,RQ=>(k4 RQ)
 |x4_::xs4,i4,RQ=>((kT RQ x4_).bind fun a5q=>(jc aB i3 Lc k4 xs4 (i4+1) a5q))
def gH(aB:aN)(k3:aH->Option aH):c8->Nat->aH->Option aH
 | [],i3,yz=>(k3 yz)
 |Q4::Ow,i3,yz=>((me Q4.pat).bind fun Lc=>(bif decide (Lc.length<=maxLen)then(jc aB i3 Lc (fun(XJ:aH)=>(gH aB k3 Ow (i3+1) XJ)) Lc 0 yz)else none))
def sx(aB:aN):Option aH:=(iG aB (fun(Af:aH)=>(gH aB (fun(Zp:aH)=>(some Zp)) aB.ck 0 Af)) aB.conds 0 ([]:aH))
def JS(aB:aN)(W0:List aQ)(cZ:Int):St:=⟨[(1,D.ptr 0 0),(3,D.acc 1),(4,D.int .i64 cZ)],[Ob.box (aN.c aB),Ob.row .uq 9 1 W0]⟩
def JT(aB:aN)(i1:Nat)(LY:aH)(W0:List aQ)(cZ:Int):St:=⟨[(1,D.ptr 0 0),(3,D.acc 1),(4,D.int .i64 (i1:Int)),(5,D.acc 2),(6,D.int .i64 cZ)],[Ob.box (aN.c aB),Ob.row .uq 9 1 W0,Ob.row .uq 9 1 (LY.map tx)]⟩
theorem Hr(hΓ:Γ.nt=63){aB:aN}{i1:Nat}{LY:aH}{r:aH}{k2:aH->Option aH}(DV:∀(qd:aH),k2 qd=some r->Ax Γ N f255 (.q [[some (9,1)]] (D.fr 9 1 (r.map tx))) [1,1,0,1,0,0,1,1] ⟨[(1,D.ptr 0 0),(3,D.acc 1),(4,D.int .i64 (i1:Int))],[Ob.box (aN.c aB),Ob.row .uq 9 1 (qd.map tx)]⟩)(hm2:LY.length<=maxLen):∀(rest:aH) (i2:Nat) (dZ:aH),LY.drop i2=rest->jb aB i1 LY k2 rest i2 dZ=some r->Ar Γ N f255 (.q [[some (9,1)]] (D.fr 9 1 (r.map tx))) [1,1,0,1,0,0,1,0,0,1,1,0] (rest.length+1) (JT aB i1 LY (dZ.map tx) (i2:Int)):=by
 intro rest
 induction rest with
 |nil=>
  intro i2 dZ hd2 h;rw[jb]at h;refine aP fun N2 xA vY=>?_
  exact((aT.ge tx hd2).a [.hl 3 [1,3,4] [0,1]]).ex hΓ xA (DV dZ h)
 |cons mh wD ih2=>
  intro i2 dZ hd2 h;rw[jb]at h;refine aP fun N2 xA vY=>?_
  obtain⟨a5m,h172,h⟩:=aD h;exact(((((aT.lt tx hd2).i (oK tx 1 (dc hd2))).o 1 1 .uq (eT tx (dc hd2))).g (kU h172)).a [.cn [1,3,4,5,6] [0,3,2]]).ct hΓ vY (iS hd2 hm2) (ih2 (i2+1) a5m (dn hd2) h)
theorem Hq(hΓ:Γ.nt=63){aB:aN}{r:aH}{k1:aH->Option aH}(cq:∀(Af:aH),k1 Af=some r->Ax Γ N f255 (.q [[some (9,1)]] (D.fr 9 1 (r.map tx))) [1,1,1] ⟨[(1,D.ptr 0 0),(3,D.acc 1)],[Ob.box (aN.c aB),Ob.row .uq 9 1 (Af.map tx)]⟩)(hm1:aB.conds.length<=maxLen):∀(rest:ai) (i1:Nat) (cA:aH),aB.conds.drop i1=rest->iG aB k1 rest i1 cA=some r->Ar Γ N f255 (.q [[some (9,1)]] (D.fr 9 1 (r.map tx))) [1,1,0,1,0] (rest.length+1) (JS aB (cA.map tx) (i1:Int)):=by
 intro rest
 induction rest with
 |nil=>
  intro i1 cA au h;rw[iG]at h;refine aP fun N1 cB bw=>?_
  exact((aT.ge aM.c au).a [.hl 0 [1,3] [0,1]]).ex hΓ cB (cq cA h)
 |cons bA bt ih1=>
  intro i1 cA au h;rw[iG]at h;refine aP fun N1 cB bw=>?_
  obtain⟨LY,h148,h⟩:=aD h;obtain⟨h173,h⟩:=bY h;refine((((aT.lt aM.c au).l (b9 aM.c 5 (dc au) rfl)).g (qD h148)).a [.cn [1,3,4,5,6] [0,1,2]]).lp hΓ (Hr hΓ (fun qd h=>?_) (bp h173) LY 0 cA rfl h);exact(aT.a [.cn [1,3,4] [0,1]]).ct hΓ bw (iS au hm1) (ih1 (i1+1) qd (dn au) h)
def JU(aB:aN)(W0:List aQ)(cZ:Int):St:=⟨[(1,D.ptr 0 0),(3,D.acc 1),(7,D.int .i64 cZ)],[Ob.box (aN.c aB),Ob.row .uq 9 1 W0]⟩
def JV(aB:aN)(i3:Nat)(Lc:aH)(W0:List aQ)(cZ:Int):St:=⟨[(1,D.ptr 0 0),(3,D.acc 1),(7,D.int .i64 (i3:Int)),(8,D.acc 2),(9,D.int .i64 cZ)],[Ob.box (aN.c aB),Ob.row .uq 9 1 W0,Ob.row .uq 9 1 (Lc.map tx)]⟩
theorem Ht(hΓ:Γ.nt=63){aB:aN}{i3:Nat}{Lc:aH}{r:aH}{k4:aH->Option aH}(hE4:∀(XJ:aH),k4 XJ=some r->Ax Γ N f255 (.q [[some (9,1)]] (D.fr 9 1 (r.map tx))) [1,1,1,0,1,0,0,1,1] ⟨[(1,D.ptr 0 0),(3,D.acc 1),(7,D.int .i64 (i3:Int))],[Ob.box (aN.c aB),Ob.row .uq 9 1 (XJ.map tx)]⟩)(hm4:Lc.length<=maxLen):∀(rest:aH) (i4:Nat) (RQ:aH),Lc.drop i4=rest->jc aB i3 Lc k4 rest i4 RQ=some r->Ar Γ N f255 (.q [[some (9,1)]] (D.fr 9 1 (r.map tx))) [1,1,1,0,1,0,0,1,0,0,1,1,0] (rest.length+1) (JV aB i3 Lc (RQ.map tx) (i4:Int)):=by
 intro rest
 induction rest with
 |nil=>
  intro i4 RQ U7 h;rw[jc]at h;refine aP fun N4 hN4 hS4=>?_
  exact((aT.ge tx U7).a [.hl 3 [1,3,7] [0,1]]).ex hΓ hN4 (hE4 RQ h)
 |cons x4_ xs4 ih4=>
  intro i4 RQ U7 h;rw[jc]at h;refine aP fun N4 hN4 hS4=>?_
  obtain⟨a5q,h345,h⟩:=aD h;exact(((((aT.lt tx U7).i (oK tx 1 (dc U7))).o 1 1 .uq (eT tx (dc U7))).g (kU h345)).a [.cn [1,3,7,8,9] [0,3,2]]).ct hΓ hS4 (iS U7 hm4) (ih4 (i4+1) a5q (dn U7) h)
theorem Hs(hΓ:Γ.nt=63){aB:aN}{r:aH}{k3:aH->Option aH}(Yb:∀(Zp:aH),k3 Zp=some r->Ax Γ N f255 (.q [[some (9,1)]] (D.fr 9 1 (r.map tx))) [1,1,1,1] ⟨[(3,D.acc 0)],[Ob.row .uq 9 1 (Zp.map tx)]⟩)(RZ:aB.ck.length<=maxLen):∀(rest:c8) (i3:Nat) (yz:aH),aB.ck.drop i3=rest->gH aB k3 rest i3 yz=some r->Ar Γ N f255 (.q [[some (9,1)]] (D.fr 9 1 (r.map tx))) [1,1,1,0,1,0] (rest.length+1) (JU aB (yz.map tx) (i3:Int)):=by
 intro rest
 induction rest with
 |nil=>
  intro i3 yz wv h;rw[gH]at h;refine aP fun N3 SK Ny=>?_
  exact((aT.ge Action.c wv).a [.hl 0 [3] [1]]).ex hΓ SK (Yb yz h)
 |cons Q4 Ow ih3=>
  intro i3 yz wv h;rw[gH]at h;refine aP fun N3 SK Ny=>?_
  obtain⟨Lc,h321,h⟩:=aD h;obtain⟨h346,h⟩:=bY h;refine((((aT.lt Action.c wv).l (b9 Action.c 3 (dc wv) rfl)).g (pE h321)).a [.cn [1,3,7,8,9] [0,1,2]]).lp hΓ (Ht hΓ (fun XJ h=>?_) (bp h346) Lc 0 yz rfl h);exact(aT.a [.cn [1,3,7] [0,1]]).ct hΓ Ny (iS wv RZ) (ih3 (i3+1) XJ (dn wv) h)
theorem Fi{aB:aN}{r:aH}(h:sx aB=some r):Good prog 255 [D.agg (aN.c aB)] (D.fr 9 1 (r.map tx)):=by
 refine gd func255 [[some (9,1)]] 63 fun hr Γ hΓ=>?_
 rw[sx]at h;refine(aT.a [.cn [1,3,4] [0,1]]).lp hΓ (Hq hΓ (fun Af h=>?_) (by have:=(e7.sl (e7.agg (hr _ (aC (i:=0) rfl)) (.sl (aB.conds.map aM.c)) (by simp))).1;simpa using this) aB.conds 0 ([]:aH) rfl h);refine(aT.a [.cn [1,3,7] [0,1]]).lp hΓ (Hs hΓ (fun Zp h=>?_) (by have:=(e7.sl (e7.agg (hr _ (aC (i:=0) rfl)) (.sl (aB.ck.map Action.c)) (by simp))).1;simpa using this) aB.ck 0 Af rfl h);have h:=aE h;subst h;exact aT.ret hΓ
def fR(aB:aN)(u7:aH)(i1:Nat)(bA:aM)(Lg:aH)(EU:aH)(k2:Option Bool):aH->Nat->Option Bool
 | [],i2=>(k2)
 |mh::wD,i2=>((gO Lg mh).bind fun a5s=>((qX bA).bind fun a8Q=>(bif a8Q then(bif !(a5s)then(some false)else(bif (bA.kind:Int)==2 then(fR aB u7 i1 bA Lg EU k2 wD (i2+1))else(fR aB u7 i1 bA Lg EU k2 wD (i2+1))))else(bif (bA.kind:Int)==2 then(bif !(a5s)then((mW aB (i1:Int) mh).bind fun a8R=>(bif a8R then(some false)else(fR aB u7 i1 bA Lg EU k2 wD (i2+1))))else(fR aB u7 i1 bA Lg EU k2 wD (i2+1)))else(fR aB u7 i1 bA Lg EU k2 wD (i2+1))))))
def fS(aB:aN)(u7:aH)(i1:Nat)(bA:aM)(Lh:aH)(EV:aH)(k3:Option Bool):aH->Nat->Option Bool
 | [],i3=>(k3)
 |Q4::Ow,i3=>((gO Lh Q4).bind fun a5t=>((qX bA).bind fun a8S=>(bif a8S then(bif !(a5t)then(some false)else(bif (bA.kind:Int)==2 then(fS aB u7 i1 bA Lh EV k3 Ow (i3+1))else(fS aB u7 i1 bA Lh EV k3 Ow (i3+1))))else(bif (bA.kind:Int)==2 then(bif !(a5t)then((mW aB (i1:Int) Q4).bind fun a8T=>(bif a8T then(some false)else(fS aB u7 i1 bA Lh EV k3 Ow (i3+1))))else(fS aB u7 i1 bA Lh EV k3 Ow (i3+1)))else(fS aB u7 i1 bA Lh EV k3 Ow (i3+1))))))
def jx(aB:aN)(u7:aH)(k1:Option Bool):ai->Nat->Option Bool
 | [],i1=>(k1)
 |bA::bt,i1=>((qU bA).bind fun a8O=>(bif !(a8O)then(some false)else(bif ((i1:Int):Int)==0 then(bif (bA.kind:Int) != 1 then(some false)else((mM aB (i1:Int)).bind fun Lg=>((lG bA).bind fun EU=>(bif decide (EU.length<=maxLen)then(fR aB u7 i1 bA Lg EU (jx aB u7 k1 bt (i1+1)) EU 0)else none))))else((mM aB (i1:Int)).bind fun Lh=>((lG bA).bind fun EV=>(bif decide (EV.length<=maxLen)then(fS aB u7 i1 bA Lh EV (jx aB u7 k1 bt (i1+1)) EV 0)else none))))))
def mQ(aB:aN)(u7:aH)(i4:Nat)(Li:aH)(k5:Option Bool):aH->Nat->Option Bool
 | [],i5=>(k5)
 |x5_::xs5,i5=>((gO u7 x5_).bind fun a8X=>(bif !(a8X)then(some false)else(mQ aB u7 i4 Li k5 xs5 (i5+1))))
def mP(aB:aN)(u7:aH)(k4:Option Bool):c8->Nat->Option Bool
 | [],i4=>(k4)
 |x4_::xs4,i4=>((sv x4_).bind fun a8W=>(bif !(a8W)then(some false)else((me x4_.pat).bind fun Li=>(bif decide (Li.length<=maxLen)then(mQ aB u7 i4 Li (mP aB u7 k4 xs4 (i4+1)) Li 0)else none))))
def vT(aB:aN):Option Bool:=((qW aB.name).bind fun y1=>(bif !(y1)then(some false)else((k8 aB.prio 0 9).bind fun y4=>(bif !(y4)then(some false)else((k8 ((aB.conds.map aM.c).length:Int) 1 4).bind fun y7=>(bif !(y7)then(some false)else((k8 ((aB.ck.map Action.c).length:Int) 1 2).bind fun IN=>(bif !(IN)then(some false)else((mM aB ((aB.conds.map aM.c).length:Int)).bind fun u7=>(jx aB u7 (mP aB u7 ((sx aB).bind fun a8Y=>(some (decide ((((a8Y.map tx).length:Int):Int)<=6)))) aB.ck 0) aB.conds 0))))))))))
def M0(aB:aN)(u7:aH)(cZ:Int):St:=⟨[(1,D.ptr 0 0),(3,D.acc 1),(4,D.int .i64 cZ)],[Ob.box (aN.c aB),Ob.row .uq 9 1 (u7.map tx)]⟩
def M1(aB:aN)(u7:aH)(i1:Nat)(bA:aM)(Lg:aH)(EU:aH)(cZ:Int):St:=⟨[(1,D.ptr 0 0),(3,D.acc 1),(4,D.int .i64 (i1:Int)),(5,D.ptr 2 0),(6,D.acc 3),(7,D.acc 4),(8,D.int .i64 cZ)],[Ob.box (aN.c aB),Ob.row .uq 9 1 (u7.map tx),Ob.box [D.int .i64 bA.kind,D.str bA.pat.rel,D.sl (bA.pat.args.map tx),D.str bA.left,D.str bA.right],Ob.row .uq 9 1 (Lg.map tx),Ob.row .uq 9 1 (EU.map tx)]⟩
theorem Kj(hΓ:Γ.nt=145){aB:aN}{u7:aH}{i1:Nat}{bA:aM}{Lg:aH}{EU:aH}{r:Bool}{k2:Option Bool}(DV:k2=some r->Ax Γ N f196 (.q [[none]] (D.bool r)) [1,1,1,0,1,0,0,1,1] ⟨[(1,D.ptr 0 0),(3,D.acc 1),(4,D.int .i64 (i1:Int))],[Ob.box (aN.c aB),Ob.row .uq 9 1 (u7.map tx)]⟩)(hm2:EU.length<=maxLen):∀(rest:aH) (i2:Nat),EU.drop i2=rest->fR aB u7 i1 bA Lg EU k2 rest i2=some r->Ar Γ N f196 (.q [[none]] (D.bool r)) [1,1,1,0,1,0,0,1,0,0,1,1,1,1,1,0] (rest.length+1) (M1 aB u7 i1 bA Lg EU (i2:Int)):=by
 intro rest
 induction rest with
 |nil=>
  intro i2 hd2 h;rw[fR]at h;refine aP fun N2 xA vY=>?_
  exact((aT.ge tx hd2).a [.hl 3 [1,3,4] [0,1]]).ex hΓ xA (DV h)
 |cons mh wD ih2=>
  intro i2 hd2 h;rw[fR]at h;refine aP fun N2 xA vY=>?_
  obtain⟨a5s,h711,h⟩:=aD h;obtain⟨a8Q,h713,h⟩:=aD h;have a3D:=((((((aT.lt tx hd2).i (oK tx 1 (dc hd2))).o 1 1 .uq (eT tx (dc hd2))).g (lU h711)).a [.n 21]).g (sH h713))
  obtain⟨h714,h⟩|⟨h714,h⟩:=aO h
  ·have a3E:=(a3D.r 3 h714)
   obtain⟨h715,h⟩|⟨h715,h⟩:=aO h
   ·have h:=aE h;subst h;exact((((((a3E.r 4 h715).a [bF,bF]).r 2 h715).a [bF,bF,bF,bF,bF,bF,bF]).r 2 h715).T 1).ret hΓ
   ·have a3F:=(a3E.r 4 h715)
    obtain⟨h716,h⟩|⟨h716,h⟩:=aO h
    ·exact((((((a3F.r 2 h716).b h715).b h716).r 11 h715).F 1).a [.cn [1,3,4,5,6,7,8] [0,1,2,3,4]]).ct hΓ vY (iS hd2 hm2) (ih2 (i2+1) (dn hd2) h)
    ·exact((((((((((a3F.r 2 h716).b h715).b h716).b h715).F 7).b h715).F 1).b h715).F 1).a [.cn [1,3,4,5,6,7,8] [0,1,2,3,4]]).ct hΓ vY (iS hd2 hm2) (ih2 (i2+1) (dn hd2) h)
  ·have a3G:=((a3D.r 3 h714).F 4)
   obtain⟨h717,h⟩|⟨h717,h⟩:=aO h
   ·have a3H:=((((a3G.r 2 h717).F 1).b h717).F 1)
    obtain⟨h718,h⟩|⟨h718,h⟩:=aO h
    ·obtain⟨a8R,h720,h⟩:=aD h;have a3I:=(((((((((a3H.r 5 h718).i (oK tx 1 (dc hd2))).b h718).o 1 1 .uq (eT tx (dc hd2))).b h718).g (wL h720)).F 1).b h718).F 1)
     obtain⟨h721,h⟩|⟨h721,h⟩:=aO h
     ·have h:=aE h;subst h;exact(a3I.b h721).ret hΓ
     ·exact((a3I.b h721).a [.cn [1,3,4,5,6,7,8] [0,1,2,3,4]]).ct hΓ vY (iS hd2 hm2) (ih2 (i2+1) (dn hd2) h)
    ·exact(((((a3H.r 7 h718).F 1).b h718).F 2).a [.cn [1,3,4,5,6,7,8] [0,1,2,3,4]]).ct hΓ vY (iS hd2 hm2) (ih2 (i2+1) (dn hd2) h)
   ·exact(((((a3G.r 2 h717).F 1).b h717).F 12).a [.cn [1,3,4,5,6,7,8] [0,1,2,3,4]]).ct hΓ vY (iS hd2 hm2) (ih2 (i2+1) (dn hd2) h)
def M2(aB:aN)(u7:aH)(i1:Nat)(bA:aM)(Lh:aH)(EV:aH)(cZ:Int):St:=⟨[(1,D.ptr 0 0),(3,D.acc 1),(4,D.int .i64 (i1:Int)),(5,D.ptr 2 0),(6,D.acc 3),(7,D.acc 4),(8,D.int .i64 cZ)],[Ob.box (aN.c aB),Ob.row .uq 9 1 (u7.map tx),Ob.box [D.int .i64 bA.kind,D.str bA.pat.rel,D.sl (bA.pat.args.map tx),D.str bA.left,D.str bA.right],Ob.row .uq 9 1 (Lh.map tx),Ob.row .uq 9 1 (EV.map tx)]⟩
theorem Kk(hΓ:Γ.nt=145){aB:aN}{u7:aH}{i1:Nat}{bA:aM}{Lh:aH}{EV:aH}{r:Bool}{k3:Option Bool}(Yb:k3=some r->Ax Γ N f196 (.q [[none]] (D.bool r)) [1,1,1,0,1,0,0,1,1] ⟨[(1,D.ptr 0 0),(3,D.acc 1),(4,D.int .i64 (i1:Int))],[Ob.box (aN.c aB),Ob.row .uq 9 1 (u7.map tx)]⟩)(RZ:EV.length<=maxLen):∀(rest:aH) (i3:Nat),EV.drop i3=rest->fS aB u7 i1 bA Lh EV k3 rest i3=some r->Ar Γ N f196 (.q [[none]] (D.bool r)) [1,1,1,0,1,0,0,1,0,0,1,1,1,1,1,0] (rest.length+1) (M2 aB u7 i1 bA Lh EV (i3:Int)):=by
 intro rest
 induction rest with
 |nil=>
  intro i3 wv h;rw[fS]at h;refine aP fun N3 SK Ny=>?_
  exact((aT.ge tx wv).a [.hl 3 [1,3,4] [0,1]]).ex hΓ SK (Yb h)
 |cons Q4 Ow ih3=>
  intro i3 wv h;rw[fS]at h;refine aP fun N3 SK Ny=>?_
  obtain⟨a5t,h786,h⟩:=aD h;obtain⟨a8S,h788,h⟩:=aD h;have a3J:=((((((aT.lt tx wv).i (oK tx 1 (dc wv))).o 1 1 .uq (eT tx (dc wv))).g (lU h786)).a [.n 21]).g (sH h788))
  obtain⟨h789,h⟩|⟨h789,h⟩:=aO h
  ·have a3K:=(a3J.r 3 h789)
   obtain⟨h790,h⟩|⟨h790,h⟩:=aO h
   ·have h:=aE h;subst h;exact((((((a3K.r 4 h790).a [bF,bF]).r 2 h790).a [bF,bF,bF,bF,bF,bF,bF]).r 2 h790).T 1).ret hΓ
   ·have a3L:=(a3K.r 4 h790)
    obtain⟨h791,h⟩|⟨h791,h⟩:=aO h
    ·exact((((((a3L.r 2 h791).b h790).b h791).r 11 h790).F 1).a [.cn [1,3,4,5,6,7,8] [0,1,2,3,4]]).ct hΓ Ny (iS wv RZ) (ih3 (i3+1) (dn wv) h)
    ·exact((((((((((a3L.r 2 h791).b h790).b h791).b h790).F 7).b h790).F 1).b h790).F 1).a [.cn [1,3,4,5,6,7,8] [0,1,2,3,4]]).ct hΓ Ny (iS wv RZ) (ih3 (i3+1) (dn wv) h)
  ·have a3M:=((a3J.r 3 h789).F 4)
   obtain⟨h792,h⟩|⟨h792,h⟩:=aO h
   ·have a3N:=((((a3M.r 2 h792).F 1).b h792).F 1)
    obtain⟨h793,h⟩|⟨h793,h⟩:=aO h
    ·obtain⟨a8T,h795,h⟩:=aD h;have a3O:=(((((((((a3N.r 5 h793).i (oK tx 1 (dc wv))).b h793).o 1 1 .uq (eT tx (dc wv))).b h793).g (wL h795)).F 1).b h793).F 1)
     obtain⟨h796,h⟩|⟨h796,h⟩:=aO h
     ·have h:=aE h;subst h;exact(a3O.b h796).ret hΓ
     ·exact((a3O.b h796).a [.cn [1,3,4,5,6,7,8] [0,1,2,3,4]]).ct hΓ Ny (iS wv RZ) (ih3 (i3+1) (dn wv) h)
    ·exact(((((a3N.r 7 h793).F 1).b h793).F 2).a [.cn [1,3,4,5,6,7,8] [0,1,2,3,4]]).ct hΓ Ny (iS wv RZ) (ih3 (i3+1) (dn wv) h)
   ·exact(((((a3M.r 2 h792).F 1).b h792).F 12).a [.cn [1,3,4,5,6,7,8] [0,1,2,3,4]]).ct hΓ Ny (iS wv RZ) (ih3 (i3+1) (dn wv) h)
theorem Ki(hΓ:Γ.nt=145){aB:aN}{u7:aH}{r:Bool}{k1:Option Bool}(cq:k1=some r->Ax Γ N f196 (.q [[none]] (D.bool r)) [1,1,1,1] ⟨[(1,D.ptr 0 0),(3,D.acc 1)],[Ob.box (aN.c aB),Ob.row .uq 9 1 (u7.map tx)]⟩)(hm1:aB.conds.length<=maxLen):∀(rest:ai) (i1:Nat),aB.conds.drop i1=rest->jx aB u7 k1 rest i1=some r->Ar Γ N f196 (.q [[none]] (D.bool r)) [1,1,1,0,1,0] (rest.length+1) (M0 aB u7 (i1:Int)):=by
 intro rest
 induction rest with
 |nil=>
  intro i1 au h;rw[jx]at h;refine aP fun N1 cB bw=>?_
  exact((aT.ge aM.c au).a [.hl 0 [1,3] [0,1]]).ex hΓ cB (cq h)
 |cons bA bt ih1=>
  intro i1 au h;rw[jx]at h;refine aP fun N1 cB bw=>?_
  obtain⟨a8O,h644,h⟩:=aD h;have a3P:=(((aT.lt aM.c au).l (b9 aM.c 5 (dc au) rfl)).g (p9 h644))
  obtain⟨h645,h⟩|⟨h645,h⟩:=aO h
  ·have h:=aE h;subst h;exact((((a3P.r 3 h645).a [bF,bF,bF]).r 2 h645).T 1).ret hΓ
  ·have a3Q:=(a3P.r 3 h645)
   obtain⟨h646,h⟩|⟨h646,h⟩:=aO h
   ·have a3R:=((((a3Q.r 3 h646).b h645).b h646).b h645)
    obtain⟨h647,h⟩|⟨h647,h⟩:=aO h
    ·have h:=aE h;subst h;exact(a3R.b h647).ret hΓ
    ·obtain⟨Lg,h649,h⟩:=aD h;obtain⟨EU,h651,h⟩:=aD h;obtain⟨h722,h⟩:=bY h;refine((((a3R.b h647).g (tr h649)).g (qD h651)).a [.cn [1,3,4,5,6,7,8] [0,1,2,3,4]]).lp hΓ (Kj hΓ (fun h=>?_) (bp h722) EU 0 rfl h);exact(aT.a [.cn [1,3,4] [0,1]]).ct hΓ bw (iS au hm1) (ih1 (i1+1) (dn au) h)
   ·obtain⟨Lh,h724,h⟩:=aD h;obtain⟨EV,h726,h⟩:=aD h;obtain⟨h797,h⟩:=bY h;refine((((((((a3Q.r 3 h646).b h645).b h646).b h645).F 1).g (tr h724)).g (qD h726)).a [.cn [1,3,4,5,6,7,8] [0,1,2,3,4]]).lp hΓ (Kk hΓ (fun h=>?_) (bp h797) EV 0 rfl h);exact(aT.a [.cn [1,3,4] [0,1]]).ct hΓ bw (iS au hm1) (ih1 (i1+1) (dn au) h)
def M3(aB:aN)(u7:aH)(cZ:Int):St:=⟨[(1,D.ptr 0 0),(3,D.acc 1),(10,D.int .i64 cZ)],[Ob.box (aN.c aB),Ob.row .uq 9 1 (u7.map tx)]⟩
def M4(aB:aN)(u7:aH)(i4:Nat)(Li:aH)(cZ:Int):St:=⟨[(1,D.ptr 0 0),(3,D.acc 1),(10,D.int .i64 (i4:Int)),(11,D.acc 2),(12,D.int .i64 cZ)],[Ob.box (aN.c aB),Ob.row .uq 9 1 (u7.map tx),Ob.row .uq 9 1 (Li.map tx)]⟩
theorem Km(hΓ:Γ.nt=145){aB:aN}{u7:aH}{i4:Nat}{Li:aH}{r:Bool}{k5:Option Bool}(hE5:k5=some r->Ax Γ N f196 (.q [[none]] (D.bool r)) [1,1,1,1,0,1,0,0,1,1] ⟨[(1,D.ptr 0 0),(3,D.acc 1),(10,D.int .i64 (i4:Int))],[Ob.box (aN.c aB),Ob.row .uq 9 1 (u7.map tx)]⟩)(hm5:Li.length<=maxLen):∀(rest:aH) (i5:Nat),Li.drop i5=rest->mQ aB u7 i4 Li k5 rest i5=some r->Ar Γ N f196 (.q [[none]] (D.bool r)) [1,1,1,1,0,1,0,0,1,0,0,1,1,1,0] (rest.length+1) (M4 aB u7 i4 Li (i5:Int)):=by
 intro rest
 induction rest with
 |nil=>
  intro i5 hd5 h;rw[mQ]at h;refine aP fun N5 hN5 hS5=>?_
  exact((aT.ge tx hd5).a [.hl 3 [1,3,10] [0,1]]).ex hΓ hN5 (hE5 h)
 |cons x5_ xs5 ih5=>
  intro i5 hd5 h;rw[mQ]at h;refine aP fun N5 hN5 hS5=>?_
  obtain⟨a8X,h953,h⟩:=aD h;have a3S:=((((aT.lt tx hd5).i (oK tx 1 (dc hd5))).o 1 1 .uq (eT tx (dc hd5))).g (lU h953))
  obtain⟨h954,h⟩|⟨h954,h⟩:=aO h
  ·have h:=aE h;subst h;exact(a3S.b h954).ret hΓ
  ·exact((a3S.b h954).a [.cn [1,3,10,11,12] [0,1,2]]).ct hΓ hS5 (iS hd5 hm5) (ih5 (i5+1) (dn hd5) h)
theorem Kl(hΓ:Γ.nt=145){aB:aN}{u7:aH}{r:Bool}{k4:Option Bool}(hE4:k4=some r->Ax Γ N f196 (.q [[none]] (D.bool r)) [1,1,1,1,1] ⟨[(1,D.ptr 0 0)],[Ob.box (aN.c aB)]⟩)(hm4:aB.ck.length<=maxLen):∀(rest:c8) (i4:Nat),aB.ck.drop i4=rest->mP aB u7 k4 rest i4=some r->Ar Γ N f196 (.q [[none]] (D.bool r)) [1,1,1,1,0,1,0] (rest.length+1) (M3 aB u7 (i4:Int)):=by
 intro rest
 induction rest with
 |nil=>
  intro i4 U7 h;rw[mP]at h;refine aP fun N4 hN4 hS4=>?_
  exact((aT.ge Action.c U7).a [.hl 0 [1] [0]]).ex hΓ hN4 (hE4 h)
 |cons x4_ xs4 ih4=>
  intro i4 U7 h;rw[mP]at h;refine aP fun N4 hN4 hS4=>?_
  obtain⟨a8W,h927,h⟩:=aD h;have a3T:=(((aT.lt Action.c U7).l (b9 Action.c 3 (dc U7) rfl)).g (FZ h927))
  obtain⟨h928,h⟩|⟨h928,h⟩:=aO h
  ·have h:=aE h;subst h;exact(a3T.b h928).ret hΓ
  ·obtain⟨Li,h930,h⟩:=aD h;obtain⟨h955,h⟩:=bY h;refine((((a3T.b h928).l (b9 Action.c 3 (dc U7) rfl)).g (pE h930)).a [.cn [1,3,10,11,12] [0,1,2]]).lp hΓ (Km hΓ (fun h=>?_) (bp h955) Li 0 rfl h);exact(aT.a [.cn [1,3,10] [0,1]]).ct hΓ hS4 (iS U7 hm4) (ih4 (i4+1) (dn U7) h)
theorem JP{aB:aN}{r:Bool}(h:vT aB=some r):Good prog 196 [D.agg (aN.c aB)] (D.bool r):=by
 refine gd func196 [[none]] 145 fun hr Γ hΓ=>?_
 rw[vT]at h;obtain⟨y1,h2,h⟩:=aD h;obtain⟨h3,h⟩|⟨h3,h⟩:=aO h
 ·have h:=aE h;subst h;exact(((aT.g (mO h2)).r 5 h3).T 13).ret hΓ
 ·obtain⟨y4,h5,h⟩:=aD h;have a3U:=((((aT.g (mO h2)).r 3 h3).g (fU h5)).r 2 h3)
  obtain⟨h6,h⟩|⟨h6,h⟩:=aO h
  ·have h:=aE h;subst h;exact((a3U.r 6 h6).T 7).ret hΓ
  ·obtain⟨y7,h8,h⟩:=aD h;have a3V:=(((a3U.r 4 h6).g (fU h8)).r 2 h6)
   obtain⟨h9,h⟩|⟨h9,h⟩:=aO h
   ·have h:=aE h;subst h;exact((a3V.r 6 h9).T 1).ret hΓ
   ·obtain⟨IN,h11,h⟩:=aD h;have a3W:=(((a3V.r 4 h9).g (fU h11)).r 2 h9)
    obtain⟨h12,h⟩|⟨h12,h⟩:=aO h
    ·have h:=aE h;subst h;exact(a3W.b h12).ret hΓ
    ·obtain⟨u7,h14,h⟩:=aD h;refine(((a3W.b h12).g (tr h14)).a [.cn [1,3,4] [0,1]]).lp hΓ (Ki hΓ (fun h=>?_) (by have:=(e7.sl (e7.agg (hr _ (aC (i:=0) rfl)) (.sl (aB.conds.map aM.c)) (by simp))).1;simpa using this) aB.conds 0 rfl h);refine(aT.a [.cn [1,3,10] [0,1]]).lp hΓ (Kl hΓ (fun h=>?_) (by have:=(e7.sl (e7.agg (hr _ (aC (i:=0) rfl)) (.sl (aB.ck.map Action.c)) (by simp))).1;simpa using this) aB.ck 0 rfl h);obtain⟨a8Y,h957,h⟩:=aD h;cases h;exact(aT.g (Fi h957)).ret hΓ
def jZ(aB:aq)(aV:Bytes)(k1:Option Int):aq->Nat->Option Int
 | [],i1=>(k1)
 |bA::bt,i1=>(bif (bA.name:Bytes)==aV then(some (i1:Int))else(jZ aB aV k1 bt (i1+1)))
def su(aB:aq)(aV:Bytes):Option Int:=(jZ aB aV (some (-1)) aB 0)
def JO(aB:aq)(aV:Bytes)(cZ:Int):St:=⟨[(0,D.sl (aB.map aN.c)),(1,D.str aV),(5,D.int .i64 cZ)],[]⟩
theorem Hg(hΓ:Γ.nt=20){aB:aq}{aV:Bytes}{r:Int}{k1:Option Int}(cq:k1=some r->Ax Γ N f197 (.q [[none]] (D.int .i64 r)) [1,1] ⟨[],[]⟩)(hm1:aB.length<=maxLen):∀(rest:aq) (i1:Nat),aB.drop i1=rest->jZ aB aV k1 rest i1=some r->Ar Γ N f197 (.q [[none]] (D.int .i64 r)) [1,0,1,0] (rest.length+1) (JO aB aV (i1:Int)):=by
 intro rest
 induction rest with
 |nil=>
  intro i1 au h;rw[jZ]at h;refine aP fun N1 cB bw=>?_
  exact((aT.ge aN.c au).a [.hl 0 [] []]).ex hΓ cB (cq h)
 |cons bA bt ih1=>
  intro i1 au h;rw[jZ]at h;refine aP fun N1 cB bw=>?_
  have dL:=((aT.lt aN.c au).l (b9 aN.c 4 (dc au) rfl))
  obtain⟨h13,h⟩|⟨h13,h⟩:=aO h
  ·cases h;exact(dL.b h13).ret hΓ
  ·exact((dL.b h13).a [.cn [0,1,5] []]).ct hΓ bw (iS au hm1) (ih1 (i1+1) (dn au) h)
theorem FY{aB:aq}{aV:Bytes}{r:Int}(h:su aB aV=some r):Good prog 197 [D.sl (aB.map aN.c),D.str aV] (D.int .i64 r):=by
 refine gd func197 [[none]] 20 fun hr Γ hΓ=>?_
 rw[su]at h;refine(aT.a [.cn [0,1,5] []]).lp hΓ (Hg hΓ (fun h=>?_) (by have:=(e7.sl (hr _ (aC (i:=0) rfl))).1;simpa using this) aB 0 rfl h);cases h;exact aT.ret hΓ
def jY(aB:aq)(k1:Option Bool):aq->Nat->Option Bool
 | [],i1=>(k1)
 |bA::bt,i1=>((vT bA).bind fun Db=>(bif !(Db)then(some false)else((su aB bA.name).bind fun IP=>(bif (IP:Int) != (i1:Int)then(some false)else(jY aB k1 bt (i1+1))))))
def sr(aB:aq):Option Bool:=(jY aB (some (decide ((((aB.map aN.c).length:Int):Int)<=6))) aB 0)
def JM(aB:aq)(cZ:Int):St:=⟨[(0,D.sl (aB.map aN.c)),(3,D.int .i64 cZ)],[]⟩
theorem HZ(hΓ:Γ.nt=30){aB:aq}{r:Bool}{k1:Option Bool}(cq:k1=some r->Ax Γ N f131 (.q [[none]] (D.bool r)) [1,1] ⟨[(0,D.sl (aB.map aN.c))],[]⟩)(hm1:aB.length<=maxLen):∀(rest:aq) (i1:Nat),aB.drop i1=rest->jY aB k1 rest i1=some r->Ar Γ N f131 (.q [[none]] (D.bool r)) [1,0,1,0] (rest.length+1) (JM aB (i1:Int)):=by
 intro rest
 induction rest with
 |nil=>
  intro i1 au h;rw[jY]at h;refine aP fun N1 cB bw=>?_
  exact((aT.ge aN.c au).a [.hl 0 [0] []]).ex hΓ cB (cq h)
 |cons bA bt ih1=>
  intro i1 au h;rw[jY]at h;refine aP fun N1 cB bw=>?_
  obtain⟨Db,h34,h⟩:=aD h;have lV:=(((aT.lt aN.c au).l (b9 aN.c 4 (dc au) rfl)).g (JP h34))
  obtain⟨h35,h⟩|⟨h35,h⟩:=aO h
  ·have h:=aE h;subst h;exact((lV.r 10 h35).T 1).ret hΓ
  ·obtain⟨IP,h37,h⟩:=aD h;have kH:=(((((lV.r 4 h35).l (b9 aN.c 4 (dc au) rfl)).r 3 h35).g (FY h37)).r 3 h35)
   obtain⟨h38,h⟩|⟨h38,h⟩:=aO h
   ·have h:=aE h;subst h;exact(kH.b h38).ret hΓ
   ·exact((kH.b h38).a [.cn [0,3] []]).ct hΓ bw (iS au hm1) (ih1 (i1+1) (dn au) h)
theorem yL{aB:aq}{r:Bool}(h:sr aB=some r):Good prog 131 [D.sl (aB.map aN.c)] (D.bool r):=by
 refine gd func131 [[none]] 30 fun hr Γ hΓ=>?_
 rw[sr]at h;refine(aT.a [.cn [0,3] []]).lp hΓ (HZ hΓ (fun h=>?_) (by have:=(e7.sl (hr _ (aC (i:=0) rfl))).1;simpa using this) aB 0 rfl h);cases h;exact aT.ret hΓ
def mY(aB:aI)(aV:Bytes)(k1:Option aI):aI->Nat->Option aI
 | [],i1=>(k1)
 |bA::bt,i1=>(bif (bA.var:Bytes)==aV then(some aB)else(mY aB aV k1 bt (i1+1)))
def oO(aB:aI)(aV:Bytes):Option aI:=((gm aV).bind fun y1=>(bif !(y1)then(some aB)else(mY aB aV ((oh (IntKind.i64.wrap (((aB.map aK.c).length:Int)+1))).bind fun y18=>(bif decide (([63]:Bytes).length+(y18:Bytes).length<=maxLen)then(bif room ((aB.map aK.c).length+([[D.str aV,D.str (([63])++y18)]]).length) 32 then(some (aB++([(⟨aV,([63])++y18⟩:aK)])))else none)else none)) aB 0)))
def M9(aB:aI)(aV:Bytes)(cZ:Int):St:=⟨[(0,D.acc 0),(1,D.str aV),(5,D.int .i64 cZ)],[Ob.row .uq 152 2 (aB.map aK.c)]⟩
theorem Ky(hΓ:Γ.nt=34){aB:aI}{aV:Bytes}{r:aI}{k1:Option aI}(cq:k1=some r->Ax Γ N f162 (.q [[some (152,2)]] (D.fr 152 2 (r.map aK.c))) [1,1,1] ⟨[(0,D.acc 0),(1,D.str aV)],[Ob.row .uq 152 2 (aB.map aK.c)]⟩)(hm1:aB.length<=maxLen):∀(rest:aI) (i1:Nat),aB.drop i1=rest->mY aB aV k1 rest i1=some r->Ar Γ N f162 (.q [[some (152,2)]] (D.fr 152 2 (r.map aK.c))) [1,1,0,1,0] (rest.length+1) (M9 aB aV (i1:Int)):=by
 intro rest
 induction rest with
 |nil=>
  intro i1 au h;rw[mY]at h;refine aP fun N1 cB bw=>?_
  exact((aT.ge aK.c au).a [.hl 0 [0,1] [0]]).ex hΓ cB (cq h)
 |cons bA bt ih1=>
  intro i1 au h;rw[mY]at h;refine aP fun N1 cB bw=>?_
  have kX:=(((aT.lt aK.c au).i (oK aK.c 2 (dc au))).o 2 1 .uq (eT aK.c (dc au)))
  obtain⟨h17,h⟩|⟨h17,h⟩:=aO h
  ·have h:=aE h;subst h;exact(kX.b h17).ret hΓ
  ·exact((kX.b h17).a [.cn [0,1,5] [0]]).ct hΓ bw (iS au hm1) (ih1 (i1+1) (dn au) h)
theorem sK{aB:aI}{aV:Bytes}{r:aI}(h:oO aB aV=some r):I7 prog 162 [D.acc 0,D.str aV] 152 2 (aB.map aK.c) (r.map aK.c):=by
 refine I7.of (c:=jL f162) func162 rfl (by decide) (by simp[f162]) (CI (c:=aK.c) (fun _=>rfl) r) ?_;intro BW Γ hΓ;have hΓ:Γ.nt=34:=hΓ;rw[oO]at h;refine(show AW prog Γ (jL f162) (KQ prog Γ (fun _ _=>False) ((Kd.q [[some (152,2)]] (D.fr 152 2 (r.map aK.c))).qq prog f162) []) _ from ?_);obtain⟨y1,h2,h⟩:=aD h;obtain⟨h3,h⟩|⟨h3,h⟩:=aO h
 ·have h:=aE h;subst h;exact((aT.g (fc h2)).b h3).ret hΓ
 ·refine(((aT.g (fc h2)).b h3).a [.cn [0,1,5] [0]]).lp hΓ (Ky hΓ (fun h=>?_) (by simpa using BW) aB 0 rfl h);obtain⟨y18,h19,h⟩:=aD h;obtain⟨h20,h⟩:=bY h;obtain⟨h21,h⟩:=bY h;cases h;exact(((aT.g (tu h19)).w (bp h20)).w (cN h21)).rts hΓ (D.fr 152 2 ((aB.map aK.c)++([[D.str aV,D.str (([63])++y18)]]))) (by first|rfl| (simp only[mA]<;>rfl))
def iF(aB:aN)(i1:Nat)(bA:aM)(k2:aI->Option aI):aH->Nat->aI->Option aI
 | [],i2,dZ=>(k2 dZ)
 |mh::wD,i2,dZ=>((oO dZ mh).bind fun Bg=>(iF aB i1 bA k2 wD (i2+1) Bg))
def iE(aB:aN)(k1:aI->Option aI):ai->Nat->aI->Option aI
 | [],i1,cA=>(k1 cA)
 |bA::bt,i1,cA=>(bif decide (bA.pat.args.length<=maxLen)then(iF aB i1 bA (fun(qd:aI)=>((oO qd bA.left).bind fun xw=>((oO xw bA.right).bind fun a0l=>(iE aB k1 bt (i1+1) a0l)))) bA.pat.args 0 cA)else none)
def nh(aB:aN):Option aI:=(iE aB (fun(bN:aI)=>(some bN)) aB.conds 0 ([]:aI))
def Fg(aB:aN)(W0:List aQ)(cZ:Int):St:=⟨[(1,D.ptr 0 0),(3,D.acc 1),(4,D.int .i64 cZ)],[Ob.box (aN.c aB),Ob.row .uq 152 2 W0]⟩
def Fh(aB:aN)(i1:Nat)(W0:List aQ)(cZ:Int):St:=⟨[(1,D.ptr 0 0),(3,D.acc 1),(4,D.int .i64 (i1:Int)),(5,D.int .i64 cZ)],[Ob.box (aN.c aB),Ob.row .uq 152 2 W0]⟩
theorem EH(hΓ:Γ.nt=55){aB:aN}{i1:Nat}{bA:aM}{r:aI}{k2:aI->Option aI}(DV:∀(qd:aI),k2 qd=some r->Ax Γ N f92 (.q [[some (152,2)]] (D.fr 152 2 (r.map aK.c))) [1,1,0,1,0,0,1,0,0,1] ⟨[(1,D.ptr 0 0),(3,D.acc 1),(4,D.int .i64 (i1:Int))],[Ob.box (aN.c aB),Ob.row .uq 152 2 (qd.map aK.c)]⟩)(hx1:(aB.conds)[i1]?=some bA)(hm2:bA.pat.args.length<=maxLen):∀(rest:aH) (i2:Nat) (dZ:aI),bA.pat.args.drop i2=rest->iF aB i1 bA k2 rest i2 dZ=some r->Ar Γ N f92 (.q [[some (152,2)]] (D.fr 152 2 (r.map aK.c))) [1,1,0,1,0,0,1,0,0,0,1,0] (rest.length+1) (Fh aB i1 (dZ.map aK.c) (i2:Int)):=by
 intro rest
 induction rest with
 |nil=>
  intro i2 dZ hd2 h;rw[iF]at h;refine aP fun N2 xA vY=>?_
  exact(((aT.l (b9 aM.c 5 hx1 rfl)).ge tx hd2).a [.hl 5 [1,3,4] [0,1]]).ex hΓ xA (DV dZ h)
 |cons mh wD ih2=>
  intro i2 dZ hd2 h;rw[iF]at h;refine aP fun N2 xA vY=>?_
  obtain⟨Bg,h207,h⟩:=aD h;exact(((((((aT.l (b9 aM.c 5 hx1 rfl)).lt tx hd2).l (b9 aM.c 5 hx1 rfl)).l (b9 tx 1 (dc hd2) rfl)).w (show(dZ.map aK.c).flatten.all D.flat=true from by simpa only[bu,bD,bZ]using CI (c:=aK.c) (fun _=>rfl) dZ)).w (show I7 prog 162 [D.acc 0,D.str mh] 152 2 (dZ.map aK.c) (Bg.map aK.c)from by simpa only[bu,bD,bZ]using sK h207)).a [.ov 1 (Bg.map aK.c),.cn [1,3,4,5] [0,2]]).ct hΓ vY (iS hd2 hm2) (ih2 (i2+1) Bg (dn hd2) h)
theorem EG(hΓ:Γ.nt=55){aB:aN}{r:aI}{k1:aI->Option aI}(cq:∀(bN:aI),k1 bN=some r->Ax Γ N f92 (.q [[some (152,2)]] (D.fr 152 2 (r.map aK.c))) [1,1,1] ⟨[(3,D.acc 0)],[Ob.row .uq 152 2 (bN.map aK.c)]⟩)(hm1:aB.conds.length<=maxLen):∀(rest:ai) (i1:Nat) (cA:aI),aB.conds.drop i1=rest->iE aB k1 rest i1 cA=some r->Ar Γ N f92 (.q [[some (152,2)]] (D.fr 152 2 (r.map aK.c))) [1,1,0,1,0] (rest.length+1) (Fg aB (cA.map aK.c) (i1:Int)):=by
 intro rest
 induction rest with
 |nil=>
  intro i1 cA au h;rw[iE]at h;refine aP fun N1 cB bw=>?_
  exact((aT.ge aM.c au).a [.hl 0 [3] [1]]).ex hΓ cB (cq cA h)
 |cons bA bt ih1=>
  intro i1 cA au h;rw[iE]at h;refine aP fun N1 cB bw=>?_
  obtain⟨h212,h⟩:=bY h;refine((aT.lt aM.c au).a [.cn [1,3,4,5] [0,1]]).lp hΓ (EH hΓ (fun qd h=>?_) ((drop_cons au).1) (bp h212) bA.pat.args 0 cA rfl h);obtain⟨xw,h209,h⟩:=aD h;obtain⟨a0l,h211,h⟩:=aD h;exact((((((((aT.l (b9 aM.c 5 (dc au) rfl)).w (show(qd.map aK.c).flatten.all D.flat=true from by simpa only[bu,bD,bZ]using CI (c:=aK.c) (fun _=>rfl) qd)).w (show I7 prog 162 [D.acc 0,D.str bA.left] 152 2 (qd.map aK.c) (xw.map aK.c)from by simpa only[bu,bD,bZ]using sK h209)).a [.ov 1 (xw.map aK.c)]).l (b9 aM.c 5 (dc au) rfl)).w (show(xw.map aK.c).flatten.all D.flat=true from by simpa only[bu,bD,bZ]using CI (c:=aK.c) (fun _=>rfl) xw)).w (show I7 prog 162 [D.acc 0,D.str bA.right] 152 2 (xw.map aK.c) (a0l.map aK.c)from by simpa only[bu,bD,bZ]using sK h211)).a [.ov 2 (a0l.map aK.c),.cn [1,3,4] [0,3]]).ct hΓ bw (iS au hm1) (ih1 (i1+1) a0l (dn au) h)
theorem wq{aB:aN}{r:aI}(h:nh aB=some r):Good prog 92 [D.agg (aN.c aB)] (D.fr 152 2 (r.map aK.c)):=by
 refine gd func92 [[some (152,2)]] 55 fun hr Γ hΓ=>?_
 rw[nh]at h;refine(aT.a [.cn [1,3,4] [0,1]]).lp hΓ (EG hΓ (fun bN h=>?_) (by have:=(e7.sl (e7.agg (hr _ (aC (i:=0) rfl)) (.sl (aB.conds.map aM.c)) (by simp))).1;simpa using this) aB.conds 0 ([]:aI) rfl h);have h:=aE h;subst h;exact aT.ret hΓ
def jz(aB:aN)(y1:aI)(k1:ai->Option ai):ai->Nat->ai->Option ai
 | [],i1,cA=>(k1 cA)
 |bA::bt,i1,cA=>((jD bA y1).bind fun GL=>(bif room ((cA.map aM.c).length+([[D.int .i64 GL.kind,D.str GL.pat.rel,D.sl (GL.pat.args.map tx),D.str GL.left,D.str GL.right]]).length) 80 then(jz aB y1 k1 bt (i1+1) (cA++([GL])))else none))
def qE(aB:aN):Option ai:=((nh aB).bind fun y1=>(jz aB y1 (fun(bN:ai)=>(some bN)) aB.conds 0 ([]:ai)))
def yN(aB:aN)(y1:aI)(W0:List aQ)(cZ:Int):St:=⟨[(1,D.ptr 0 0),(3,D.acc 1),(4,D.acc 2),(5,D.int .i64 cZ)],[Ob.box (aN.c aB),Ob.row .uq 115 5 W0,Ob.row .uq 152 2 (y1.map aK.c)]⟩
theorem EF(hΓ:Γ.nt=27){aB:aN}{y1:aI}{r:ai}{k1:ai->Option ai}(cq:∀(bN:ai),k1 bN=some r->Ax Γ N f132 (.q [[some (115,5)]] (D.fr 115 5 (r.map aM.c))) [1,1,1,1] ⟨[(3,D.acc 0)],[Ob.row .uq 115 5 (bN.map aM.c)]⟩)(hm1:aB.conds.length<=maxLen):∀(rest:ai) (i1:Nat) (cA:ai),aB.conds.drop i1=rest->jz aB y1 k1 rest i1 cA=some r->Ar Γ N f132 (.q [[some (115,5)]] (D.fr 115 5 (r.map aM.c))) [1,1,1,0,1,0] (rest.length+1) (yN aB y1 (cA.map aM.c) (i1:Int)):=by
 intro rest
 induction rest with
 |nil=>
  intro i1 cA au h;rw[jz]at h;refine aP fun N1 cB bw=>?_
  exact((aT.ge aM.c au).a [.hl 0 [3] [1]]).ex hΓ cB (cq cA h)
 |cons bA bt ih1=>
  intro i1 cA au h;rw[jz]at h;refine aP fun N1 cB bw=>?_
  obtain⟨GL,h30,h⟩:=aD h;obtain⟨h31,h⟩:=bY h;exact(((((aT.lt aM.c au).l (b9 aM.c 5 (dc au) rfl)).g (ic h30)).w (cN h31)).a [.cn [1,3,4,5] [0,5,2]]).cs hΓ bw (yN aB y1 ((cA.map aM.c)++([[D.int .i64 GL.kind,D.str GL.pat.rel,D.sl (GL.pat.args.map tx),D.str GL.left,D.str GL.right]])) (IntKind.i64.wrap ((i1:Int)+1))) (by first| (simp only[iS au hm1,mA]<;>rfl)| (simp only[iS au hm1,mA,aG.c,aK.c,aM.c,Action.c,aN.c,aR.c,az.c,aW.c,Node.c,aJ.c,dH.c]<;>rfl)) (ih1 (i1+1) (cA++([GL])) (dn au) h)
theorem D7{aB:aN}{r:ai}(h:qE aB=some r):Good prog 132 [D.agg (aN.c aB)] (D.fr 115 5 (r.map aM.c)):=by
 refine gd func132 [[some (115,5)]] 27 fun hr Γ hΓ=>?_
 rw[qE]at h;obtain⟨y1,h2,h⟩:=aD h;refine((aT.g (wq h2)).a [.cn [1,3,4,5] [0,1,2]]).lp hΓ (EF hΓ (fun bN h=>?_) (by have:=(e7.sl (e7.agg (hr _ (aC (i:=0) rfl)) (.sl (aB.conds.map aM.c)) (by simp))).1;simpa using this) aB.conds 0 ([]:ai) rfl h);have h:=aE h;subst h;exact aT.ret hΓ
def iH(aB:aG)(aV:aG):Option Bool:=(bif (aB.rel:Bytes)==aV.rel then((mS aB.args aV.args).bind fun y2=>(some y2))else(some false))
theorem rV{aB:aG}{aV:aG}{r:Bool}(h:iH aB aV=some r):Good prog 148 [D.agg (aG.c aB),D.agg (aG.c aV)] (D.bool r):=by
 refine gd func148 [[none]] 17 fun hr Γ hΓ=>?_
 rw[iH]at h;obtain⟨h1,h⟩|⟨h1,h⟩:=aO h
 ·obtain⟨y2,h3,h⟩:=aD h;have h:=aE h;subst h;exact(((aT.r 5 h1).g (wK h3)).b h1).ret hΓ
 ·have h:=aE h;subst h;exact(aT.r 6 h1).ret hΓ
def nx(aB:aM)(aV:aM):Option Bool:=(bif (aB.kind:Int)==aV.kind then((iH aB.pat aV.pat).bind fun y2=>(bif y2 then(bif (aB.left:Bytes)==aV.left then(some ((aB.right:Bytes)==aV.right))else(some false))else(some false)))else(some false))
theorem yP{aB:aM}{aV:aM}{r:Bool}(h:nx aB aV=some r):Good prog 149 [D.agg (aM.c aB),D.agg (aM.c aV)] (D.bool r):=by
 refine gd func149 [[none]] 31 fun hr Γ hΓ=>?_
 rw[nx]at h;obtain⟨h1,h⟩|⟨h1,h⟩:=aO h
 ·obtain⟨y2,h3,h⟩:=aD h;have kX:=(((aT.r 5 h1).g (rV h3)).b h1)
  obtain⟨h4,h⟩|⟨h4,h⟩:=aO h
  ·have dL:=(kX.r 6 h4)
   obtain⟨h5,h⟩|⟨h5,h⟩:=aO h
   ·cases h;exact(dL.r 6 h5).ret hΓ
   ·have h:=aE h;subst h;exact(dL.r 6 h5).ret hΓ
  ·have h:=aE h;subst h;exact((kX.r 6 h4).F 6).ret hΓ
 ·have h:=aE h;subst h;exact((aT.r 6 h1).F 12).ret hΓ
def kR(aB:aG)(k1:aI->Option aG):aH->Nat->aI->Option aG
 | [],i1,kZ=>(k1 kZ)
 |bA::bt,i1,kZ=>((oO kZ bA).bind fun kE=>(kR aB k1 bt (i1+1) kE))
def rW(aB:aG):Option aG:=(kR aB (fun(wO:aI)=>((jD (⟨0,aB,[],[]⟩:aM) wO).bind fun PT=>(some PT.pat))) aB.args 0 ([]:aI))
def Ko(aB:aG)(W0:List aQ)(cZ:Int):St:=⟨[(1,D.ptr 0 0),(2,D.ptr 1 0),(3,D.acc 2),(4,D.int .i64 cZ)],[Ob.box (aG.c aB),Ob.box [D.str ([]),D.nil],Ob.row .uq 152 2 W0]⟩
theorem JW(hΓ:Γ.nt=25){aB:aG}{r:aG}{k1:aI->Option aG}(cq:∀(wO:aI),k1 wO=some r->Ax Γ N f199 (.q [[none,some (9,1)]] (D.agg [D.str r.rel,D.fr 9 1 (r.args.map tx)])) [1,1,1] ⟨[(1,D.ptr 0 0),(2,D.ptr 1 0),(3,D.acc 2)],[Ob.box (aG.c aB),Ob.box [D.str ([]),D.nil],Ob.row .uq 152 2 (wO.map aK.c)]⟩)(hm1:aB.args.length<=maxLen):∀(rest:aH) (i1:Nat) (kZ:aI),aB.args.drop i1=rest->kR aB k1 rest i1 kZ=some r->Ar Γ N f199 (.q [[none,some (9,1)]] (D.agg [D.str r.rel,D.fr 9 1 (r.args.map tx)])) [1,1,0,1,0] (rest.length+1) (Ko aB (kZ.map aK.c) (i1:Int)):=by
 intro rest
 induction rest with
 |nil=>
  intro i1 kZ au h;rw[kR]at h;refine aP fun N1 cB bw=>?_
  exact((aT.ge tx au).a [.hl 0 [1,2,3] [0,1,2]]).ex hΓ cB (cq kZ h)
 |cons bA bt ih1=>
  intro i1 kZ au h;rw[kR]at h;refine aP fun N1 cB bw=>?_
  obtain⟨kE,h23,h⟩:=aD h;exact(((((aT.lt tx au).l (b9 tx 1 (dc au) rfl)).w (show(kZ.map aK.c).flatten.all D.flat=true from by simpa only[bu,bD,bZ]using CI (c:=aK.c) (fun _=>rfl) kZ)).w (show I7 prog 162 [D.acc 0,D.str bA] 152 2 (kZ.map aK.c) (kE.map aK.c)from by simpa only[bu,bD,bZ]using sK h23)).a [.ov 2 (kE.map aK.c),.cn [1,2,3,4] [0,1,3]]).ct hΓ bw (iS au hm1) (ih1 (i1+1) kE (dn au) h)
theorem zL{aB:aG}{r:aG}(h:rW aB=some r):Good prog 199 [D.agg (aG.c aB)] (D.agg [D.str r.rel,D.fr 9 1 (r.args.map tx)]):=by
 refine gd func199 [[none,some (9,1)]] 25 fun hr Γ hΓ=>?_
 rw[rW]at h;refine(aT.a [.cn [1,2,3,4] [0,1,2]]).lp hΓ (JW hΓ (fun wO h=>?_) (by have:=(e7.sl (e7.agg (hr _ (aC (i:=0) rfl)) (.sl (aB.args.map tx)) (by simp))).1;simpa using this) aB.args 0 ([]:aI) rfl h);obtain⟨PT,h25,h⟩:=aD h;cases h;exact((aT.a [.d (D.agg [D.int .i64 PT.kind,D.str PT.pat.rel,D.fr 9 1 (PT.pat.args.map tx),D.str PT.left,D.str PT.right])]).w (show Good prog 177 [D.agg [D.int .i64 0,D.str aB.rel,D.sl (aB.args.map tx),D.str ([]),D.str ([])],D.sl (wO.map aK.c)] (D.agg [D.int .i64 PT.kind,D.str PT.pat.rel,D.fr 9 1 (PT.pat.args.map tx),D.str PT.left,D.str PT.right])from by first| (simpa only[bu,bD,bZ,kF,jK]using ic h25)|exact ic h25| (have t:=ic h25;simp only[bu,kF,jK,aM.c]at t;exact t))).ret hΓ
def cY(x:aJ):aQ:=[D.fr 105 4 (x.rules.map aN.c),D.fr 3 1 (x.ends.map gQ),D.fr 111 3 (x.bJ.map aW.c),D.fr 118 8 (x.nodes.map Node.c),D.fr 53 2 (x.facts.map aG.c),D.int .i64 x.dB]
def kV(aB:aJ)(aV:aG)(k1:Option (aJ×Int)):bK->Nat->Option (aJ×Int)
 | [],i1=>(k1)
 |bA::bt,i1=>((iH bA.shape aV).bind fun kE=>(bif kE then(some (aB,(i1:Int)))else(kV aB aV k1 bt (i1+1))))
def rY(aB:aJ)(aV:aG):Option (aJ×Int):=(bif decide (aB.bJ.length<=maxLen)then(kV aB aV (bif room ((aB.bJ.map aW.c).length+([[D.str aV.rel,D.sl (aV.args.map tx),D.sl ([])]]).length) 64 then(some ((⟨aB.rules,aB.ends,aB.bJ++([(⟨aV,[]⟩:aW)]),aB.nodes,aB.facts,aB.dB⟩:aJ),IntKind.i64.wrap ((((aB.bJ.map aW.c)++([[D.str aV.rel,D.sl (aV.args.map tx),D.sl ([])]])).length:Int)-1)))else none) aB.bJ 0)else none)
def Kv(eM:Value)(aB:aJ)(aV:aG)(cZ:Int):St:=⟨[(0,D.ptr 0 0),(3,D.ptr 1 0),(5,D.int .i64 cZ)],[Ob.NF [D.acc 2,D.acc 3,D.acc 4,D.acc 5,D.acc 6,D.int .i64 aB.dB] eM,Ob.box [D.str aV.rel,D.acc 7],Ob.row .uq 105 4 (aB.rules.map aN.c),Ob.row .uq 3 1 (aB.ends.map gQ),Ob.row .uq 111 3 (aB.bJ.map aW.c),Ob.row .uq 118 8 (aB.nodes.map Node.c),Ob.row .uq 53 2 (aB.facts.map aG.c),Ob.row .uq 9 1 (aV.args.map tx)]⟩
theorem Jc(hΓ:Γ.nt=43){eM:Value}{aB:aJ}{aV:aG}{r:aJ×Int}{k1:Option (aJ×Int)}(cq:k1=some r->Ax Γ N f198 (.p [[some (105,4),some (3,1),some (111,3),some (118,8),some (53,2),none],[none]] eM (cY r.1) (D.int .i64 r.2)) [1,1] ⟨[(0,D.ptr 0 0),(3,D.ptr 1 0)],[Ob.NF [D.acc 2,D.acc 3,D.acc 4,D.acc 5,D.acc 6,D.int .i64 aB.dB] eM,Ob.box [D.str aV.rel,D.acc 7],Ob.row .uq 105 4 (aB.rules.map aN.c),Ob.row .uq 3 1 (aB.ends.map gQ),Ob.row .uq 111 3 (aB.bJ.map aW.c),Ob.row .uq 118 8 (aB.nodes.map Node.c),Ob.row .uq 53 2 (aB.facts.map aG.c),Ob.row .uq 9 1 (aV.args.map tx)]⟩)(hm1:aB.bJ.length<=maxLen):∀(rest:bK) (i1:Nat),aB.bJ.drop i1=rest->kV aB aV k1 rest i1=some r->Ar Γ N f198 (.p [[some (105,4),some (3,1),some (111,3),some (118,8),some (53,2),none],[none]] eM (cY r.1) (D.int .i64 r.2)) [1,0,1,0] (rest.length+1) (Kv eM aB aV (i1:Int)):=by
 intro rest
 induction rest with
 |nil=>
  intro i1 au h;rw[kV]at h;refine aP fun N1 cB bw=>?_
  exact((aT.ge aW.c au).a [.hl 0 [0,3] [0,1,2,3,4,5,6,7]]).ex hΓ cB (cq h)
 |cons bA bt ih1=>
  intro i1 au h;rw[kV]at h;refine aP fun N1 cB bw=>?_
  obtain⟨kE,h23,h⟩:=aD h;have dL:=(((((aT.lt aW.c au).a [.n 9]).i (oK aW.c 3 (dc au))).o 3 2 .uq (eT aW.c (dc au))).g (rV h23))
  obtain⟨h24,h⟩|⟨h24,h⟩:=aO h
  ·cases h;exact(dL.b h24).ret hΓ
  ·exact((dL.b h24).a [.cn [0,3,5] [0,1,2,3,4,5,6,7]]).ct hΓ bw (iS au hm1) (ih1 (i1+1) (dn au) h)
theorem zN{aB:aJ}{aV:aG}{r:aJ×Int}(h:rY aB aV=some r):zx prog 198 (cY aB) (cY r.1) [D.agg [D.str aV.rel,D.fr 9 1 (aV.args.map tx)]] (D.int .i64 r.2):=by
 refine gdP func198 [[some (105,4),some (3,1),some (111,3),some (118,8),some (53,2),none],[none]] 43 [D.acc 1,D.acc 2,D.acc 3,D.acc 4,D.acc 5,D.int .i64 aB.dB] [D.agg [D.str aV.rel,D.acc 6]] [Ob.row .uq 105 4 (aB.rules.map aN.c),Ob.row .uq 3 1 (aB.ends.map gQ),Ob.row .uq 111 3 (aB.bJ.map aW.c),Ob.row .uq 118 8 (aB.nodes.map Node.c),Ob.row .uq 53 2 (aB.facts.map aG.c),Ob.row .uq 9 1 (aV.args.map tx)] fun hr eM Γ hΓ=>?_
 rw[rY]at h;obtain⟨h27,h⟩:=bY h;refine(aT.a [.cn [0,3,5] [0,7,1,2,3,4,5,6]]).lp hΓ (Jc hΓ (fun h=>?_) (bp h27) aB.bJ 0 rfl h);obtain⟨h26,h⟩:=bY h;cases h;exact((aT.w (cN h26)).a [.n2 [0,1,2,3,4,5,6,7,8,9,10,11] [0,1,2,3,4,5,6,7,8,9,10,11] 7 9 [0,1,2,3,4] [4,7,8]]).rts hΓ (D.ij [D.int .i64 (IntKind.i64.wrap ((((aB.bJ.map aW.c)++([[D.str aV.rel,D.sl (aV.args.map tx),D.sl ([])]])).length:Int)-1)),D.agg [D.fr 105 4 (aB.rules.map aN.c),D.fr 3 1 (aB.ends.map gQ),D.fr 111 3 ((aB.bJ.map aW.c)++([[D.str aV.rel,D.sl (aV.args.map tx),D.sl ([])]])),D.fr 118 8 (aB.nodes.map Node.c),D.fr 53 2 (aB.facts.map aG.c),D.int .i64 aB.dB],D.val eM]) (by first|rfl| (simp only[mA]<;>rfl)| (simp only[cY,mA]<;>rfl))
def fe(aB:aJ)(aV:Int)(cr:aM)(k1:Option (aJ×Int)):Nat->Int->Option (aJ×Int)
 |0,_=>none
 |n1+1,LW=>(bif decide ((LW:Int)<((aB.nodes.map Node.c).length:Int))then((nF aB.nodes LW).bind fun x16=>(bif (x16.parent:Int)==aV then((nx x16.cond cr).bind fun y19=>(bif y19 then(some (aB,LW))else(fe aB aV cr k1 n1 (IntKind.i64.wrap (LW+1)))))else(fe aB aV cr k1 n1 (IntKind.i64.wrap (LW+1)))))else(k1))
def ua(aB:aJ)(aV:Int)(cr:aM):Option (aJ×Int):=(fe aB aV cr ((oN cr).bind fun kE=>(bif (cr.kind:Int)==1 then((rW cr.pat).bind fun y25=>((rY aB y25).bind fun pY=>(bif room ((pY.1.nodes.map Node.c).length+([[D.int .i64 aV,D.int .i64 kE.kind,D.str kE.pat.rel,D.sl (kE.pat.args.map tx),D.str kE.left,D.str kE.right,D.int .i64 pY.2,D.sl ([])]]).length) 120 then(some ((⟨pY.1.rules,pY.1.ends,pY.1.bJ,pY.1.nodes++([(⟨aV,kE,pY.2,[]⟩:Node)]),pY.1.facts,pY.1.dB⟩:aJ),IntKind.i64.wrap ((((pY.1.nodes.map Node.c)++([[D.int .i64 aV,D.int .i64 kE.kind,D.str kE.pat.rel,D.sl (kE.pat.args.map tx),D.str kE.left,D.str kE.right,D.int .i64 pY.2,D.sl ([])]])).length:Int)-1)))else none)))else(bif (cr.kind:Int)==2 then((rW cr.pat).bind fun ya=>((rY aB ya).bind fun CT=>(bif room ((CT.1.nodes.map Node.c).length+([[D.int .i64 aV,D.int .i64 kE.kind,D.str kE.pat.rel,D.sl (kE.pat.args.map tx),D.str kE.left,D.str kE.right,D.int .i64 CT.2,D.sl ([])]]).length) 120 then(some ((⟨CT.1.rules,CT.1.ends,CT.1.bJ,CT.1.nodes++([(⟨aV,kE,CT.2,[]⟩:Node)]),CT.1.facts,CT.1.dB⟩:aJ),IntKind.i64.wrap ((((CT.1.nodes.map Node.c)++([[D.int .i64 aV,D.int .i64 kE.kind,D.str kE.pat.rel,D.sl (kE.pat.args.map tx),D.str kE.left,D.str kE.right,D.int .i64 CT.2,D.sl ([])]])).length:Int)-1)))else none)))else(bif room ((aB.nodes.map Node.c).length+([[D.int .i64 aV,D.int .i64 kE.kind,D.str kE.pat.rel,D.sl (kE.pat.args.map tx),D.str kE.left,D.str kE.right,D.int .i64 (-1),D.sl ([])]]).length) 120 then(some ((⟨aB.rules,aB.ends,aB.bJ,aB.nodes++([(⟨aV,kE, -1,[]⟩:Node)]),aB.facts,aB.dB⟩:aJ),IntKind.i64.wrap ((((aB.nodes.map Node.c)++([[D.int .i64 aV,D.int .i64 kE.kind,D.str kE.pat.rel,D.sl (kE.pat.args.map tx),D.str kE.left,D.str kE.right,D.int .i64 (-1),D.sl ([])]])).length:Int)-1)))else none)))) fuel 1)
def Kx(eM:Value)(aB:aJ)(aV:Int)(cr:aM)(LW:Int):St:=⟨[(0,D.ptr 0 0),(1,D.int .i64 aV),(5,D.ptr 1 0),(7,D.int .i64 LW)],[Ob.NF [D.acc 2,D.acc 3,D.acc 4,D.acc 5,D.acc 6,D.int .i64 aB.dB] eM,Ob.box (aM.c cr),Ob.row .uq 105 4 (aB.rules.map aN.c),Ob.row .uq 3 1 (aB.ends.map gQ),Ob.row .uq 111 3 (aB.bJ.map aW.c),Ob.row .uq 118 8 (aB.nodes.map Node.c),Ob.row .uq 53 2 (aB.facts.map aG.c)]⟩
theorem Je(hΓ:Γ.nt=75){eM:Value}{aB:aJ}{aV:Int}{cr:aM}{r:aJ×Int}{k1:Option (aJ×Int)}(cq:k1=some r->Ax Γ N f133 (.p [[some (105,4),some (3,1),some (111,3),some (118,8),some (53,2),none],[none]] eM (cY r.1) (D.int .i64 r.2)) [1,1] ⟨[(0,D.ptr 0 0),(1,D.int .i64 aV),(5,D.ptr 1 0)],[Ob.NF [D.acc 2,D.acc 3,D.acc 4,D.acc 5,D.acc 6,D.int .i64 aB.dB] eM,Ob.box (aM.c cr),Ob.row .uq 105 4 (aB.rules.map aN.c),Ob.row .uq 3 1 (aB.ends.map gQ),Ob.row .uq 111 3 (aB.bJ.map aW.c),Ob.row .uq 118 8 (aB.nodes.map Node.c),Ob.row .uq 53 2 (aB.facts.map aG.c)]⟩):∀(n1:Nat) (LW:Int),fe aB aV cr k1 n1 LW=some r->Ar Γ N f133 (.p [[some (105,4),some (3,1),some (111,3),some (118,8),some (53,2),none],[none]] eM (cY r.1) (D.int .i64 r.2)) [1,0,1,0] n1 (Kx eM aB aV cr LW):=by
 intro n
 induction n with
 |zero=>intro LW h;simp[fe]at h
 |succ n1 ih1=>
  intro LW h;rw[fe]at h;refine aP fun N1 cB bw=>?_
  obtain⟨h15,h⟩|⟨h15,h⟩:=aO h
  ·obtain⟨x16,h17,h⟩:=aD h;have lV:=((((aT.b h15).a [.n 20]).i (Qu Node.c 8 h17)).o 8 1 .uq (eT Node.c (NL h17)))
   obtain⟨h18,h⟩|⟨h18,h⟩:=aO h
   ·obtain⟨y19,h20,h⟩:=aD h;have kH:=(((((((lV.r 6 h18).i (Qu Node.c 8 h17)).r 2 h18).o 8 6 .uq (eT Node.c (NL h17))).r 2 h18).g (yP h20)).b h18)
    obtain⟨h21,h⟩|⟨h21,h⟩:=aO h
    ·cases h;exact(kH.b h21).ret hΓ
    ·exact((kH.b h21).a [.cn [0,1,5,7] [0,1,2,3,4,5,6]]).cf hΓ bw (ih1 (IntKind.i64.wrap (LW+1)) h)
   ·exact(((lV.r 11 h18).F 1).a [.cn [0,1,5,7] [0,1,2,3,4,5,6]]).cf hΓ bw (ih1 (IntKind.i64.wrap (LW+1)) h)
  ·exact((aT.b h15).a [.hl 0 [0,1,5] [0,1,2,3,4,5,6]]).ex hΓ cB (cq h)
theorem I0{aB:aJ}{aV:Int}{cr:aM}{r:aJ×Int}(h:ua aB aV cr=some r):zx prog 133 (cY aB) (cY r.1) [D.int .i64 aV,D.agg (aM.c cr)] (D.int .i64 r.2):=by
 refine gdP func133 [[some (105,4),some (3,1),some (111,3),some (118,8),some (53,2),none],[none]] 75 [D.acc 1,D.acc 2,D.acc 3,D.acc 4,D.acc 5,D.int .i64 aB.dB] [D.int .i64 aV,D.agg [D.int .i64 cr.kind,D.str cr.pat.rel,D.sl (cr.pat.args.map tx),D.str cr.left,D.str cr.right]] [Ob.row .uq 105 4 (aB.rules.map aN.c),Ob.row .uq 3 1 (aB.ends.map gQ),Ob.row .uq 111 3 (aB.bJ.map aW.c),Ob.row .uq 118 8 (aB.nodes.map Node.c),Ob.row .uq 53 2 (aB.facts.map aG.c)] fun hr eM Γ hΓ=>?_
 rw[ua]at h;refine(aT.a [.cn [0,1,5,7] [0,6,1,2,3,4,5]]).lp hΓ (Je hΓ (fun h=>?_) fuel 1 h);obtain⟨kE,h23,h⟩:=aD h;obtain⟨h24,h⟩|⟨h24,h⟩:=aO h
 ·obtain⟨y25,h26,h⟩:=aD h;obtain⟨pY,h28,h⟩:=aD h;obtain⟨h30,h⟩:=bY h;cases h;exact(((((((aT.g (sJ h23)).r 4 h24).T 1).g (zL h26)).hp [[some (105,4),some (3,1),some (111,3),some (118,8),some (53,2),none],[none,some (9,1)]] (zN h28)).w (cN h30)).a [.n2 [0,1,2,3,4,5,6,7,8,9,10] [0,1,2,3,4,5,6,7,8,9,10] 6 8 [0,1,2,3,4] [7,13,15]]).rts hΓ (D.ij [D.int .i64 (IntKind.i64.wrap ((((pY.1.nodes.map Node.c)++([[D.int .i64 aV,D.int .i64 kE.kind,D.str kE.pat.rel,D.sl (kE.pat.args.map tx),D.str kE.left,D.str kE.right,D.int .i64 pY.2,D.sl ([])]])).length:Int)-1)),D.agg [D.fr 105 4 (pY.1.rules.map aN.c),D.fr 3 1 (pY.1.ends.map gQ),D.fr 111 3 (pY.1.bJ.map aW.c),D.fr 118 8 ((pY.1.nodes.map Node.c)++([[D.int .i64 aV,D.int .i64 kE.kind,D.str kE.pat.rel,D.sl (kE.pat.args.map tx),D.str kE.left,D.str kE.right,D.int .i64 pY.2,D.sl ([])]])),D.fr 53 2 (pY.1.facts.map aG.c),D.int .i64 pY.1.dB],D.val eM]) (by first|rfl| (simp only[mA]<;>rfl)| (simp only[cY,mA]<;>rfl))
 ·have uB:=((aT.g (sJ h23)).r 4 h24)
  obtain⟨h31,h⟩|⟨h31,h⟩:=aO h
  ·obtain⟨ya,h33,h⟩:=aD h;obtain⟨CT,h35,h⟩:=aD h;obtain⟨h37,h⟩:=bY h;cases h;exact(((((uB.b h31).g (zL h33)).hp [[some (105,4),some (3,1),some (111,3),some (118,8),some (53,2),none],[none,some (9,1)]] (zN h35)).w (cN h37)).a [.n2 [0,1,2,3,4,5,6,7,8,9,10] [0,1,2,3,4,5,6,7,8,9,10] 6 8 [0,1,2,3,4] [7,13,15]]).rts hΓ (D.ij [D.int .i64 (IntKind.i64.wrap ((((CT.1.nodes.map Node.c)++([[D.int .i64 aV,D.int .i64 kE.kind,D.str kE.pat.rel,D.sl (kE.pat.args.map tx),D.str kE.left,D.str kE.right,D.int .i64 CT.2,D.sl ([])]])).length:Int)-1)),D.agg [D.fr 105 4 (CT.1.rules.map aN.c),D.fr 3 1 (CT.1.ends.map gQ),D.fr 111 3 (CT.1.bJ.map aW.c),D.fr 118 8 ((CT.1.nodes.map Node.c)++([[D.int .i64 aV,D.int .i64 kE.kind,D.str kE.pat.rel,D.sl (kE.pat.args.map tx),D.str kE.left,D.str kE.right,D.int .i64 CT.2,D.sl ([])]])),D.fr 53 2 (CT.1.facts.map aG.c),D.int .i64 CT.1.dB],D.val eM]) (by first|rfl| (simp only[mA]<;>rfl)| (simp only[cY,mA]<;>rfl))
  ·obtain⟨h39,h⟩:=bY h;cases h;exact(((uB.b h31).w (cN h39)).a [.n2 [0,1,2,3,4,5,6,7,8,9,10] [0,1,2,3,4,5,6,7,8,9,10] 6 8 [0,1,2,3,4] [5,7,9]]).rts hΓ (D.ij [D.int .i64 (IntKind.i64.wrap ((((aB.nodes.map Node.c)++([[D.int .i64 aV,D.int .i64 kE.kind,D.str kE.pat.rel,D.sl (kE.pat.args.map tx),D.str kE.left,D.str kE.right,D.int .i64 (-1),D.sl ([])]])).length:Int)-1)),D.agg [D.fr 105 4 (aB.rules.map aN.c),D.fr 3 1 (aB.ends.map gQ),D.fr 111 3 (aB.bJ.map aW.c),D.fr 118 8 ((aB.nodes.map Node.c)++([[D.int .i64 aV,D.int .i64 kE.kind,D.str kE.pat.rel,D.sl (kE.pat.args.map tx),D.str kE.left,D.str kE.right,D.int .i64 (-1),D.sl ([])]])),D.fr 53 2 (aB.facts.map aG.c),D.int .i64 aB.dB],D.val eM]) (by first|rfl| (simp only[mA]<;>rfl)| (simp only[cY,mA]<;>rfl))
def gF(aB:aq)(i1:Nat)(La:ai)(k2:Int->Int->aq->bP->bK->bE->aX->Option (aJ×Bool)):ai->Nat->Int->Int->aq->bP->bK->bE->aX->Option (aJ×Bool)
 | [],i2,yy,o4,Bc,oG,Bd,Be,Bf=>(k2 yy o4 Bc oG Bd Be Bf)
 |mh::wD,i2,yy,o4,Bc,oG,Bd,Be,Bf=>((ua (⟨Bc,oG,Bd,Be,Bf,o4⟩:aJ) yy mh).bind fun DR=>(gF aB i1 La k2 wD (i2+1) DR.2 DR.1.dB DR.1.rules DR.1.ends DR.1.bJ DR.1.nodes DR.1.facts))
def gE(aB:aq)(k1:Int->aq->bP->bK->bE->aX->Option (aJ×Bool)):aq->Nat->Int->aq->bP->bK->bE->aX->Option (aJ×Bool)
 | [],i1,ny,kZ,gR,BZ,Ba,Bb=>(k1 ny kZ gR BZ Ba Bb)
 |bA::bt,i1,ny,kZ,gR,BZ,Ba,Bb=>((qE bA).bind fun La=>(bif decide (La.length<=maxLen)then(gF aB i1 La (fun(GM:Int) (wB:Int) (Jm:aq) (Ag:bP) (Jn:bK) (Jo:bE) (Jp:aX)=>(bif room ((Ag.map gQ).length+([[D.int .i64 GM]]).length) 8 then(gE aB k1 bt (i1+1) wB Jm (Ag++([GM])) Jn Jo Jp)else none)) La 0 0 ny kZ gR BZ Ba Bb)else none))
def oD(aB:aq):Option (aJ×Bool):=((sr aB).bind fun y1=>(bif !(y1)then(some ((⟨[],[],[],[],[],0⟩:aJ),false))else((tA aB).bind fun y4=>(gE aB (fun(Ah:Int) (wO:aq) (nB:bP) (Oa:bK) (Oc:bE) (Od:aX)=>(some ((⟨wO,nB,Oa,Oc,Od,Ah⟩:aJ),true))) aB 0 0 y4 ([]:bP) ([]:bK) ([(⟨-1,(⟨0,(⟨[],[]⟩:aG),[],[]⟩:aM), -1,[(⟨[],[]⟩:aR)]⟩:Node)]) ([]:aX)))))
def sG(aB:aq)(ny:Int)(W1:List aQ)(W2:List aQ)(W3:List aQ)(W4:List aQ)(W5:List aQ)(cZ:Int):St:=⟨[(0,D.sl (aB.map aN.c)),(2,D.ptr 0 0),(4,D.ptr 1 0),(5,D.int .i64 cZ)],[Ob.box [D.nil,D.nil,D.nil,D.nil,D.nil,D.int .i64 0],Ob.box [D.acc 2,D.acc 3,D.acc 4,D.acc 5,D.acc 6,D.int .i64 ny],Ob.row .uq 105 4 W1,Ob.row .uq 3 1 W2,Ob.row .uq 111 3 W3,Ob.row .uq 118 8 W4,Ob.row .uq 53 2 W5]⟩
def D5(aB:aq)(i1:Nat)(La:ai)(yy:Int)(o4:Int)(W2:List aQ)(W3:List aQ)(W4:List aQ)(W5:List aQ)(W6:List aQ)(cZ:Int):St:=⟨[(0,D.sl (aB.map aN.c)),(2,D.ptr 0 0),(4,D.ptr 1 0),(5,D.int .i64 (i1:Int)),(6,D.int .i64 yy),(7,D.acc 2),(8,D.int .i64 cZ)],[Ob.box [D.nil,D.nil,D.nil,D.nil,D.nil,D.int .i64 0],Ob.box [D.acc 3,D.acc 4,D.acc 5,D.acc 6,D.acc 7,D.int .i64 o4],Ob.row .uq 115 5 (La.map aM.c),Ob.row .uq 105 4 W2,Ob.row .uq 3 1 W3,Ob.row .uq 111 3 W4,Ob.row .uq 118 8 W5,Ob.row .uq 53 2 W6]⟩
theorem C8(hΓ:Γ.nt=50){aB:aq}{i1:Nat}{La:ai}{r:aJ×Bool}{k2:Int->Int->aq->bP->bK->bE->aX->Option (aJ×Bool)}(DV:∀(GM:Int) (wB:Int) (Jm:aq) (Ag:bP) (Jn:bK) (Jo:bE) (Jp:aX),k2 GM wB Jm Ag Jn Jo Jp=some r->Ax Γ N f77 (.q [[some (105,4),some (3,1),some (111,3),some (118,8),some (53,2),none],[none]] (D.ij [D.agg [D.fr 105 4 (r.1.rules.map aN.c),D.fr 3 1 (r.1.ends.map gQ),D.fr 111 3 (r.1.bJ.map aW.c),D.fr 118 8 (r.1.nodes.map Node.c),D.fr 53 2 (r.1.facts.map aG.c),D.int .i64 r.1.dB],D.bool r.2])) [1,1,1,0,1,0,0,1,0,0,1,1,1] ⟨[(0,D.sl (aB.map aN.c)),(2,D.ptr 0 0),(4,D.ptr 1 0),(5,D.int .i64 (i1:Int)),(6,D.int .i64 GM)],[Ob.box [D.nil,D.nil,D.nil,D.nil,D.nil,D.int .i64 0],Ob.box [D.acc 2,D.acc 3,D.acc 4,D.acc 5,D.acc 6,D.int .i64 wB],Ob.row .uq 105 4 (Jm.map aN.c),Ob.row .uq 3 1 (Ag.map gQ),Ob.row .uq 111 3 (Jn.map aW.c),Ob.row .uq 118 8 (Jo.map Node.c),Ob.row .uq 53 2 (Jp.map aG.c)]⟩)(hm2:La.length<=maxLen):∀(rest:ai) (i2:Nat) (yy:Int) (o4:Int) (Bc:aq) (oG:bP) (Bd:bK) (Be:bE) (Bf:aX),La.drop i2=rest->gF aB i1 La k2 rest i2 yy o4 Bc oG Bd Be Bf=some r->Ar Γ N f77 (.q [[some (105,4),some (3,1),some (111,3),some (118,8),some (53,2),none],[none]] (D.ij [D.agg [D.fr 105 4 (r.1.rules.map aN.c),D.fr 3 1 (r.1.ends.map gQ),D.fr 111 3 (r.1.bJ.map aW.c),D.fr 118 8 (r.1.nodes.map Node.c),D.fr 53 2 (r.1.facts.map aG.c),D.int .i64 r.1.dB],D.bool r.2])) [1,1,1,0,1,0,0,1,0,0,1,1,0,1,0] (rest.length+1) (D5 aB i1 La yy o4 (Bc.map aN.c) (oG.map gQ) (Bd.map aW.c) (Be.map Node.c) (Bf.map aG.c) (i2:Int)):=by
 intro rest
 induction rest with
 |nil=>
  intro i2 yy o4 Bc oG Bd Be Bf hd2 h;rw[gF]at h;refine aP fun N2 xA vY=>?_
  exact((aT.ge aM.c hd2).a [.hl 5 [0,2,4,5,6] [0,1,3,4,5,6,7]]).ex hΓ xA (DV yy o4 Bc oG Bd Be Bf h)
 |cons mh wD ih2=>
  intro i2 yy o4 Bc oG Bd Be Bf hd2 h;rw[gF]at h;refine aP fun N2 xA vY=>?_
  obtain⟨DR,h212,h⟩:=aD h;exact((((((aT.lt aM.c hd2).i (oK aM.c 5 (dc hd2))).o 5 5 .uq (eT aM.c (dc hd2))).a [.gp [[some (105,4),some (3,1),some (111,3),some (118,8),some (53,2),none],[none],[none,none,none,none,none]] (cY DR.1) (D.int .i64 DR.2)]).w (show zx prog 133 (cY (⟨Bc,oG,Bd,Be,Bf,o4⟩:aJ)) (cY DR.1) [D.int .i64 yy,D.agg (aM.c mh)] (D.int .i64 DR.2)from by simpa only[bu,bD,bZ,kF,jK]using I0 h212)).a [.cn [0,2,4,5,6,7,8] [0,1,2,8,9,10,11,12]]).ct hΓ vY (iS hd2 hm2) (ih2 (i2+1) DR.2 DR.1.dB DR.1.rules DR.1.ends DR.1.bJ DR.1.nodes DR.1.facts (dn hd2) h)
theorem C7(hΓ:Γ.nt=50){aB:aq}{r:aJ×Bool}{k1:Int->aq->bP->bK->bE->aX->Option (aJ×Bool)}(cq:∀(Ah:Int) (wO:aq) (nB:bP) (Oa:bK) (Oc:bE) (Od:aX),k1 Ah wO nB Oa Oc Od=some r->Ax Γ N f77 (.q [[some (105,4),some (3,1),some (111,3),some (118,8),some (53,2),none],[none]] (D.ij [D.agg [D.fr 105 4 (r.1.rules.map aN.c),D.fr 3 1 (r.1.ends.map gQ),D.fr 111 3 (r.1.bJ.map aW.c),D.fr 118 8 (r.1.nodes.map Node.c),D.fr 53 2 (r.1.facts.map aG.c),D.int .i64 r.1.dB],D.bool r.2])) [1,1,1,1] ⟨[(2,D.ptr 0 0),(4,D.ptr 1 0)],[Ob.box [D.nil,D.nil,D.nil,D.nil,D.nil,D.int .i64 0],Ob.box [D.acc 2,D.acc 3,D.acc 4,D.acc 5,D.acc 6,D.int .i64 Ah],Ob.row .uq 105 4 (wO.map aN.c),Ob.row .uq 3 1 (nB.map gQ),Ob.row .uq 111 3 (Oa.map aW.c),Ob.row .uq 118 8 (Oc.map Node.c),Ob.row .uq 53 2 (Od.map aG.c)]⟩)(hm1:aB.length<=maxLen):∀(rest:aq) (i1:Nat) (ny:Int) (kZ:aq) (gR:bP) (BZ:bK) (Ba:bE) (Bb:aX),aB.drop i1=rest->gE aB k1 rest i1 ny kZ gR BZ Ba Bb=some r->Ar Γ N f77 (.q [[some (105,4),some (3,1),some (111,3),some (118,8),some (53,2),none],[none]] (D.ij [D.agg [D.fr 105 4 (r.1.rules.map aN.c),D.fr 3 1 (r.1.ends.map gQ),D.fr 111 3 (r.1.bJ.map aW.c),D.fr 118 8 (r.1.nodes.map Node.c),D.fr 53 2 (r.1.facts.map aG.c),D.int .i64 r.1.dB],D.bool r.2])) [1,1,1,0,1,0] (rest.length+1) (sG aB ny (kZ.map aN.c) (gR.map gQ) (BZ.map aW.c) (Ba.map Node.c) (Bb.map aG.c) (i1:Int)):=by
 intro rest
 induction rest with
 |nil=>
  intro i1 ny kZ gR BZ Ba Bb au h;rw[gE]at h;refine aP fun N1 cB bw=>?_
  exact((aT.ge aN.c au).a [.hl 0 [2,4] [0,1,2,3,4,5,6]]).ex hΓ cB (cq ny kZ gR BZ Ba Bb h)
 |cons bA bt ih1=>
  intro i1 ny kZ gR BZ Ba Bb au h;rw[gE]at h;refine aP fun N1 cB bw=>?_
  obtain⟨La,h183,h⟩:=aD h;obtain⟨h214,h⟩:=bY h;refine((((aT.lt aN.c au).l (b9 aN.c 4 (dc au) rfl)).g (D7 h183)).a [.cn [0,2,4,5,6,7,8] [0,1,7,2,3,4,5,6]]).lp hΓ (C8 hΓ (fun GM wB Jm Ag Jn Jo Jp h=>?_) (bp h214) La 0 0 ny kZ gR BZ Ba Bb rfl h);obtain⟨h213,h⟩:=bY h;exact((aT.w (cN h213)).a [.cn [0,2,4,5] [0,1,2,8,4,5,6]]).cs hΓ bw (sG aB wB (Jm.map aN.c) ((Ag.map gQ)++([[D.int .i64 GM]])) (Jn.map aW.c) (Jo.map Node.c) (Jp.map aG.c) (IntKind.i64.wrap ((i1:Int)+1))) (by first| (simp only[iS au hm1,mA]<;>rfl)| (simp only[iS au hm1,mA,aG.c,aK.c,aM.c,Action.c,aN.c,aR.c,az.c,aW.c,Node.c,aJ.c,dH.c]<;>rfl)) (ih1 (i1+1) wB Jm (Ag++([GM])) Jn Jo Jp (dn au) h)
theorem vS{aB:aq}{r:aJ×Bool}(h:oD aB=some r):Good prog 77 [D.sl (aB.map aN.c)] (D.ij [D.agg [D.fr 105 4 (r.1.rules.map aN.c),D.fr 3 1 (r.1.ends.map gQ),D.fr 111 3 (r.1.bJ.map aW.c),D.fr 118 8 (r.1.nodes.map Node.c),D.fr 53 2 (r.1.facts.map aG.c),D.int .i64 r.1.dB],D.bool r.2]):=by
 refine gd func77 [[some (105,4),some (3,1),some (111,3),some (118,8),some (53,2),none],[none]] 50 fun hr Γ hΓ=>?_
 rw[oD]at h;obtain⟨y1,h2,h⟩:=aD h;obtain⟨h3,h⟩|⟨h3,h⟩:=aO h
 ·cases h;exact((aT.g (yL h2)).b h3).ret hΓ
 ·obtain⟨y4,h5,h⟩:=aD h;refine((((aT.g (yL h2)).b h3).g (Fm h5)).a [.pb 4 1 3 1,.pb 4 2 111 3,.pb 4 4 53 2,.cn [0,2,4,5] [0,4,1,5,6,3,7]]).UP hΓ (sG aB 0 (y4.map aN.c) ([]:List aQ) ([]:List aQ) ([[D.int .i64 (-1),D.int .i64 0,D.str ([]),D.sl ([]),D.str ([]),D.str ([]),D.int .i64 (-1),D.sl ([[D.sl ([]),D.sl ([])]])]]) ([]:List aQ) 0) (by first| (simp only[mA]<;>rfl)| (simp only[mA,aG.c,aK.c,aM.c,Action.c,aN.c,aR.c,az.c,aW.c,Node.c,aJ.c,dH.c]<;>rfl)) (C7 hΓ (fun Ah wO nB Oa Oc Od h=>?_) (by have:=(e7.sl (hr _ (aC (i:=0) rfl))).1;simpa using this) aB 0 0 y4 ([]:bP) ([]:bK) ([(⟨-1,(⟨0,(⟨[],[]⟩:aG),[],[]⟩:aM), -1,[(⟨[],[]⟩:aR)]⟩:Node)]) ([]:aX) rfl h);cases h;exact aT.ret hΓ
def kC(aB:aJ)(aV:aJ)(k1:Option Bool):bK->Nat->Option Bool
 | [],i1=>(k1)
 |bA::bt,i1=>((nF aV.bJ (i1:Int)).bind fun x32=>((iH bA.shape x32.shape).bind fun CT=>(bif !(CT)then(some false)else(kC aB aV k1 bt (i1+1)))))
def iJ(aB:aJ)(aV:aJ)(k2:Option Bool):bE->Nat->Option Bool
 | [],i2=>(k2)
 |mh::wD,i2=>((nF aV.nodes (i2:Int)).bind fun x73=>(bif (mh.parent:Int) != x73.parent then(some false)else(bif (mh.gK:Int) != x73.gK then(some false)else((nx mh.cond x73.cond).bind fun y77=>(bif !(y77)then(some false)else(iJ aB aV k2 wD (i2+1)))))))
def iK(aB:aJ)(aV:aJ)(k3:Option Bool):bP->Nat->Option Bool
 | [],i3=>(k3)
 |Q4::Ow,i3=>((nF aV.ends (i3:Int)).bind fun x100=>(bif (Q4:Int) != x100 then(some false)else(iK aB aV k3 Ow (i3+1))))
def qF(aB:aJ)(aV:aJ):Option Bool:=(bif (((aB.bJ.map aW.c).length:Int):Int) != ((aV.bJ.map aW.c).length:Int)then(some false)else(bif (((aB.nodes.map Node.c).length:Int):Int) != ((aV.nodes.map Node.c).length:Int)then(some false)else(bif (((aB.ends.map gQ).length:Int):Int) != ((aV.ends.map gQ).length:Int)then(some false)else(kC aB aV (iJ aB aV (iK aB aV (some true) aB.ends 0) aB.nodes 0) aB.bJ 0))))
def Fp(aB:aJ)(aV:aJ)(cZ:Int):St:=⟨[(2,D.ptr 0 0),(3,D.ptr 1 0),(5,D.int .i64 cZ)],[Ob.box (aJ.c aB),Ob.box (aJ.c aV)]⟩
theorem EM(hΓ:Γ.nt=123){aB:aJ}{aV:aJ}{r:Bool}{k1:Option Bool}(cq:k1=some r->Ax Γ N f85 (.q [[none]] (D.bool r)) [1,1,1] ⟨[(2,D.ptr 0 0),(3,D.ptr 1 0)],[Ob.box (aJ.c aB),Ob.box (aJ.c aV)]⟩)(hm1:aB.bJ.length<=maxLen):∀(rest:bK) (i1:Nat),aB.bJ.drop i1=rest->kC aB aV k1 rest i1=some r->Ar Γ N f85 (.q [[none]] (D.bool r)) [1,1,0,1,0] (rest.length+1) (Fp aB aV (i1:Int)):=by
 intro rest
 induction rest with
 |nil=>
  intro i1 au h;rw[kC]at h;refine aP fun N1 cB bw=>?_
  exact((aT.ge aW.c au).a [.hl 0 [2,3] [0,1]]).ex hΓ cB (cq h)
 |cons bA bt ih1=>
  intro i1 au h;rw[kC]at h;refine aP fun N1 cB bw=>?_
  obtain⟨x32,h33,h⟩:=aD h;obtain⟨CT,h35,h⟩:=aD h;have x9:=(((((aT.lt aW.c au).a [.n 12]).l (b9 aW.c 3 (dc au) rfl)).l (dO aW.c 3 h33 rfl)).g (rV h35))
  obtain⟨h36,h⟩|⟨h36,h⟩:=aO h
  ·have h:=aE h;subst h;exact(x9.b h36).ret hΓ
  ·exact((x9.b h36).a [.cn [2,3,5] [0,1]]).ct hΓ bw (iS au hm1) (ih1 (i1+1) (dn au) h)
def Fq(aB:aJ)(aV:aJ)(cZ:Int):St:=⟨[(2,D.ptr 0 0),(3,D.ptr 1 0),(6,D.int .i64 cZ)],[Ob.box (aJ.c aB),Ob.box (aJ.c aV)]⟩
theorem EN(hΓ:Γ.nt=123){aB:aJ}{aV:aJ}{r:Bool}{k2:Option Bool}(DV:k2=some r->Ax Γ N f85 (.q [[none]] (D.bool r)) [1,1,1,1] ⟨[(2,D.ptr 0 0),(3,D.ptr 1 0)],[Ob.box (aJ.c aB),Ob.box (aJ.c aV)]⟩)(hm2:aB.nodes.length<=maxLen):∀(rest:bE) (i2:Nat),aB.nodes.drop i2=rest->iJ aB aV k2 rest i2=some r->Ar Γ N f85 (.q [[none]] (D.bool r)) [1,1,1,0,1,0] (rest.length+1) (Fq aB aV (i2:Int)):=by
 intro rest
 induction rest with
 |nil=>
  intro i2 hd2 h;rw[iJ]at h;refine aP fun N2 xA vY=>?_
  exact((aT.ge Node.c hd2).a [.hl 0 [2,3] [0,1]]).ex hΓ xA (DV h)
 |cons mh wD ih2=>
  intro i2 hd2 h;rw[iJ]at h;refine aP fun N2 xA vY=>?_
  obtain⟨x73,h74,h⟩:=aD h;have Ac:=((((aT.lt Node.c hd2).a [.n 41]).l (b9 Node.c 8 (dc hd2) rfl)).l (dO Node.c 8 h74 rfl))
  obtain⟨h75,h⟩|⟨h75,h⟩:=aO h
  ·have h:=aE h;subst h;exact((Ac.r 14 h75).T 16).ret hΓ
  ·have IE:=(((((Ac.r 4 h75).l (b9 Node.c 8 (dc hd2) rfl)).r 6 h75).l (dO Node.c 8 h74 rfl)).r 4 h75)
   obtain⟨h76,h⟩|⟨h76,h⟩:=aO h
   ·have h:=aE h;subst h;exact((IE.r 15 h76).T 1).ret hΓ
   ·obtain⟨y77,h78,h⟩:=aD h;have Mi:=(((((((IE.r 4 h76).l (b9 Node.c 8 (dc hd2) rfl)).r 6 h76).l (dO Node.c 8 h74 rfl)).r 3 h76).g (yP h78)).r 2 h76)
    obtain⟨h79,h⟩|⟨h79,h⟩:=aO h
    ·have h:=aE h;subst h;exact(Mi.b h79).ret hΓ
    ·exact((Mi.b h79).a [.cn [2,3,6] [0,1]]).ct hΓ vY (iS hd2 hm2) (ih2 (i2+1) (dn hd2) h)
def Ft(aB:aJ)(aV:aJ)(cZ:Int):St:=⟨[(2,D.ptr 0 0),(3,D.ptr 1 0),(7,D.int .i64 cZ)],[Ob.box (aJ.c aB),Ob.box (aJ.c aV)]⟩
theorem EO(hΓ:Γ.nt=123){aB:aJ}{aV:aJ}{r:Bool}{k3:Option Bool}(Yb:k3=some r->Ax Γ N f85 (.q [[none]] (D.bool r)) [1,1,1,1,1] ⟨[],[]⟩)(RZ:aB.ends.length<=maxLen):∀(rest:bP) (i3:Nat),aB.ends.drop i3=rest->iK aB aV k3 rest i3=some r->Ar Γ N f85 (.q [[none]] (D.bool r)) [1,1,1,1,0,1,0] (rest.length+1) (Ft aB aV (i3:Int)):=by
 intro rest
 induction rest with
 |nil=>
  intro i3 wv h;rw[iK]at h;refine aP fun N3 SK Ny=>?_
  exact((aT.ge gQ wv).a [.hl 0 [] []]).ex hΓ SK (Yb h)
 |cons Q4 Ow ih3=>
  intro i3 wv h;rw[iK]at h;refine aP fun N3 SK Ny=>?_
  obtain⟨x100,h101,h⟩:=aD h;have CM:=((((aT.lt gQ wv).a [.n 10]).l (b9 gQ 1 (dc wv) rfl)).l (dO gQ 1 h101 rfl))
  obtain⟨h102,h⟩|⟨h102,h⟩:=aO h
  ·have h:=aE h;subst h;exact(CM.b h102).ret hΓ
  ·exact((CM.b h102).a [.cn [2,3,7] [0,1]]).ct hΓ Ny (iS wv RZ) (ih3 (i3+1) (dn wv) h)
theorem DB{aB:aJ}{aV:aJ}{r:Bool}(h:qF aB aV=some r):Good prog 85 [D.agg (aJ.c aB),D.agg (aJ.c aV)] (D.bool r):=by
 refine gd func85 [[none]] 123 fun hr Γ hΓ=>?_
 rw[qF]at h;obtain⟨h1,h⟩|⟨h1,h⟩:=aO h
 ·have h:=aE h;subst h;exact((aT.r 8 h1).T 9).ret hΓ
 ·have LK:=(aT.r 8 h1)
  obtain⟨h2,h⟩|⟨h2,h⟩:=aO h
  ·have h:=aE h;subst h;exact((LK.r 8 h2).T 1).ret hΓ
  ·have ER:=(LK.r 8 h2)
   obtain⟨h3,h⟩|⟨h3,h⟩:=aO h
   ·have h:=aE h;subst h;exact(ER.b h3).ret hΓ
   ·refine((ER.b h3).a [.cn [2,3,5] [0,1]]).lp hΓ (EM hΓ (fun h=>?_) (by have:=(e7.sl (e7.agg (hr _ (aC (i:=0) rfl)) (.sl (aB.bJ.map aW.c)) (by simp))).1;simpa using this) aB.bJ 0 rfl h);refine(aT.a [.cn [2,3,6] [0,1]]).lp hΓ (EN hΓ (fun h=>?_) (by have:=(e7.sl (e7.agg (hr _ (aC (i:=0) rfl)) (.sl (aB.nodes.map Node.c)) (by simp))).1;simpa using this) aB.nodes 0 rfl h);refine(aT.a [.cn [2,3,7] [0,1]]).lp hΓ (EO hΓ (fun h=>?_) (by have:=(e7.sl (e7.agg (hr _ (aC (i:=0) rfl)) (.sl (aB.ends.map gQ)) (by simp))).1;simpa using this) aB.ends 0 rfl h);have h:=aE h;subst h;exact aT.ret hΓ
def j6(aB:aI)(k1:Option Bool):aI->Nat->Option Bool
 | [],i1=>(k1)
 |bA::bt,i1=>((gm bA.var).bind fun Lf=>(bif !(Lf)then(some false)else((ey bA.value).bind fun y52=>(bif !(y52)then(some false)else(bif decide (((i1:Int):Int)>0)then((nF aB (IntKind.i64.wrap ((i1:Int)-1))).bind fun x56=>(bif !(Op.bytesLess x56.var bA.var)then(some false)else(j6 aB k1 bt (i1+1))))else(j6 aB k1 bt (i1+1)))))))
def jw(aB:aI):Option Bool:=(j6 aB (some (decide ((((aB.map aK.c).length:Int):Int)<=6))) aB 0)
def Hh(aB:aI)(cZ:Int):St:=⟨[(0,D.sl (aB.map aK.c)),(3,D.int .i64 cZ)],[]⟩
theorem Fa(hΓ:Γ.nt=47){aB:aI}{r:Bool}{k1:Option Bool}(cq:k1=some r->Ax Γ N f226 (.q [[none]] (D.bool r)) [1,1] ⟨[(0,D.sl (aB.map aK.c))],[]⟩)(hm1:aB.length<=maxLen):∀(rest:aI) (i1:Nat),aB.drop i1=rest->j6 aB k1 rest i1=some r->Ar Γ N f226 (.q [[none]] (D.bool r)) [1,0,1,0] (rest.length+1) (Hh aB (i1:Int)):=by
 intro rest
 induction rest with
 |nil=>
  intro i1 au h;rw[j6]at h;refine aP fun N1 cB bw=>?_
  exact((aT.ge aK.c au).a [.hl 0 [0] []]).ex hΓ cB (cq h)
 |cons bA bt ih1=>
  intro i1 au h;rw[j6]at h;refine aP fun N1 cB bw=>?_
  obtain⟨Lf,h50,h⟩:=aD h;have uB:=((((aT.lt aK.c au).a [.n 31]).l (b9 aK.c 2 (dc au) rfl)).g (fc h50))
  obtain⟨h51,h⟩|⟨h51,h⟩:=aO h
  ·have h:=aE h;subst h;exact((((uB.r 8 h51).T 3).a [bF,bF,bF,bF,bF,bF,bF,bF,bF,bF,bF,bF]).T 3).ret hΓ
  ·obtain⟨y52,h53,h⟩:=aD h;have x9:=(((((uB.r 3 h51).l (b9 aK.c 2 (dc au) rfl)).r 3 h51).g (eG h53)).r 2 h51)
   obtain⟨h54,h⟩|⟨h54,h⟩:=aO h
   ·have h:=aE h;subst h;exact((((x9.r 3 h54).a [bF,bF,bF,bF,bF,bF,bF,bF,bF,bF,bF,bF]).r 2 h54).T 1).ret hΓ
   ·have Ac:=(x9.r 3 h54)
    obtain⟨h55,h⟩|⟨h55,h⟩:=aO h
    ·obtain⟨x56,h57,h⟩:=aD h;have IE:=((((((((Ac.r 4 h55).l (dO aK.c 2 h57 rfl)).r 5 h55).l (b9 aK.c 2 (dc au) rfl)).r 3 h55).b h54).b h55).b h54)
     obtain⟨h58,h⟩|⟨h58,h⟩:=aO h
     ·have h:=aE h;subst h;exact(IE.b h58).ret hΓ
     ·exact((IE.b h58).a [.cn [0,3] []]).ct hΓ bw (iS au hm1) (ih1 (i1+1) (dn au) h)
    ·exact((((((Ac.r 12 h55).b h54).b h55).b h54).F 1).a [.cn [0,3] []]).ct hΓ bw (iS au hm1) (ih1 (i1+1) (dn au) h)
theorem lT{aB:aI}{r:Bool}(h:jw aB=some r):Good prog 226 [D.sl (aB.map aK.c)] (D.bool r):=by
 refine gd func226 [[none]] 47 fun hr Γ hΓ=>?_
 rw[jw]at h;refine(aT.a [.cn [0,3] []]).lp hΓ (Fa hΓ (fun h=>?_) (by have:=(e7.sl (hr _ (aC (i:=0) rfl))).1;simpa using this) aB 0 rfl h);cases h;exact aT.ret hΓ
def gq(aB:aI)(aV:Bytes)(k1:Option (Bytes×Bool)):aI->Nat->Option (Bytes×Bool)
 | [],i1=>(k1)
 |bA::bt,i1=>(bif (bA.var:Bytes)==aV then((gm aV).bind fun GL=>(bif GL then(some (bA.value,true))else(gq aB aV k1 bt (i1+1))))else(gq aB aV k1 bt (i1+1)))
def n9(aB:aI)(aV:Bytes):Option (Bytes×Bool):=((ey aV).bind fun y1=>(bif y1 then(some (aV,true))else(gq aB aV (some ([],false)) aB 0)))
def Kp(aB:aI)(aV:Bytes)(cZ:Int):St:=⟨[(0,D.sl (aB.map aK.c)),(1,D.str aV),(6,D.int .i64 cZ)],[]⟩
theorem JX(hΓ:Γ.nt=32){aB:aI}{aV:Bytes}{r:Bytes×Bool}{k1:Option (Bytes×Bool)}(cq:k1=some r->Ax Γ N f163 (.q [[none],[none]] (D.ij [D.str r.1,D.bool r.2])) [1,1,1] ⟨[],[]⟩)(hm1:aB.length<=maxLen):∀(rest:aI) (i1:Nat),aB.drop i1=rest->gq aB aV k1 rest i1=some r->Ar Γ N f163 (.q [[none],[none]] (D.ij [D.str r.1,D.bool r.2])) [1,1,0,1,0] (rest.length+1) (Kp aB aV (i1:Int)):=by
 intro rest
 induction rest with
 |nil=>
  intro i1 au h;rw[gq]at h;refine aP fun N1 cB bw=>?_
  exact((aT.ge aK.c au).a [.hl 0 [] []]).ex hΓ cB (cq h)
 |cons bA bt ih1=>
  intro i1 au h;rw[gq]at h;refine aP fun N1 cB bw=>?_
  have lV:=((aT.lt aK.c au).l (b9 aK.c 2 (dc au) rfl))
  obtain⟨h28,h⟩|⟨h28,h⟩:=aO h
  ·obtain⟨GL,h30,h⟩:=aD h;have kH:=(((lV.r 2 h28).g (fc h30)).b h28)
   obtain⟨h31,h⟩|⟨h31,h⟩:=aO h
   ·cases h;exact((kH.b h31).l (b9 aK.c 2 (dc au) rfl)).ret hΓ
   ·exact((kH.b h31).a [.cn [0,1,6] []]).ct hΓ bw (iS au hm1) (ih1 (i1+1) (dn au) h)
  ·exact(((lV.r 3 h28).F 1).a [.cn [0,1,6] []]).ct hΓ bw (iS au hm1) (ih1 (i1+1) (dn au) h)
theorem qj{aB:aI}{aV:Bytes}{r:Bytes×Bool}(h:n9 aB aV=some r):Good prog 163 [D.sl (aB.map aK.c),D.str aV] (D.ij [D.str r.1,D.bool r.2]):=by
 refine gd func163 [[none],[none]] 32 fun hr Γ hΓ=>?_
 rw[n9]at h;obtain⟨y1,h2,h⟩:=aD h;obtain⟨h3,h⟩|⟨h3,h⟩:=aO h
 ·cases h;exact((aT.g (eG h2)).b h3).ret hΓ
 ·refine(((aT.g (eG h2)).b h3).a [.cn [0,1,6] []]).lp hΓ (JX hΓ (fun h=>?_) (by have:=(e7.sl (hr _ (aC (i:=0) rfl))).1;simpa using this) aB 0 rfl h);cases h;exact aT.ret hΓ
def lI(aB:aI)(aV:Bytes)(cr:Bytes)(k1:Bool->aI->Option aI):aI->Nat->Bool->aI->Option aI
 | [],i1,GJ,b7=>(k1 GJ b7)
 |bA::bt,i1,GJ,b7=>(bif !(GJ)then(bif !(Op.bytesLess bA.var aV||(bA.var:Bytes)==aV)then(bif room ((b7.map aK.c).length+([[D.str aV,D.str cr]]).length) 32 then(bif room (((b7.map aK.c)++([[D.str aV,D.str cr]])).length+([[D.str bA.var,D.str bA.value]]).length) 32 then(lI aB aV cr k1 bt (i1+1) true ((b7++([(⟨aV,cr⟩:aK)]))++([bA])))else none)else none)else(bif room ((b7.map aK.c).length+([[D.str bA.var,D.str bA.value]]).length) 32 then(lI aB aV cr k1 bt (i1+1) GJ (b7++([bA])))else none))else(bif room ((b7.map aK.c).length+([[D.str bA.var,D.str bA.value]]).length) 32 then(lI aB aV cr k1 bt (i1+1) GJ (b7++([bA])))else none))
def ug(aB:aI)(aV:Bytes)(cr:Bytes):Option aI:=(lI aB aV cr (fun(a0q:Bool) (bN:aI)=>(bif !(a0q)then(bif room ((bN.map aK.c).length+([[D.str aV,D.str cr]]).length) 32 then(some (bN++([(⟨aV,cr⟩:aK)])))else none)else(some bN))) aB 0 false ([]:aI))
def vh(aB:aI)(aV:Bytes)(cr:Bytes)(GJ:Bool)(W1:List aQ)(cZ:Int):St:=⟨[(0,D.sl (aB.map aK.c)),(1,D.str aV),(2,D.str cr),(7,D.acc 0),(8,D.bool GJ),(9,D.int .i64 cZ)],[Ob.row .uq 152 2 W1]⟩
theorem M7(hΓ:Γ.nt=50){aB:aI}{aV:Bytes}{cr:Bytes}{r:aI}{k1:Bool->aI->Option aI}(cq:∀(a0q:Bool) (bN:aI),k1 a0q bN=some r->Ax Γ N f164 (.q [[some (152,2)]] (D.fr 152 2 (r.map aK.c))) [1,1,1,1] ⟨[(1,D.str aV),(2,D.str cr),(7,D.acc 0),(8,D.bool a0q)],[Ob.row .uq 152 2 (bN.map aK.c)]⟩)(hm1:aB.length<=maxLen):∀(rest:aI) (i1:Nat) (GJ:Bool) (b7:aI),aB.drop i1=rest->lI aB aV cr k1 rest i1 GJ b7=some r->Ar Γ N f164 (.q [[some (152,2)]] (D.fr 152 2 (r.map aK.c))) [1,1,1,0,1,0] (rest.length+1) (vh aB aV cr GJ (b7.map aK.c) (i1:Int)):=by
 intro rest
 induction rest with
 |nil=>
  intro i1 GJ b7 au h;rw[lI]at h;refine aP fun N1 cB bw=>?_
  exact((aT.ge aK.c au).a [.hl 0 [1,2,7,8] [0]]).ex hΓ cB (cq GJ b7 h)
 |cons bA bt ih1=>
  intro i1 GJ b7 au h;rw[lI]at h;refine aP fun N1 cB bw=>?_
  obtain⟨h48,h⟩|⟨h48,h⟩:=aO h
  ·have dL:=((((aT.lt aK.c au).r 3 h48).l (b9 aK.c 2 (dc au) rfl)).r 5 h48)
   obtain⟨h49,h⟩|⟨h49,h⟩:=aO h
   ·obtain⟨h50,h⟩:=bY h;obtain⟨h51,h⟩:=bY h;exact(((((dL.b h49).w (cN h50)).l (b9 aK.c 2 (dc au) rfl)).w (cN h51)).a [.cn [0,1,2,7,8,9] [4]]).cs hΓ bw (vh aB aV cr true (((b7.map aK.c)++([[D.str aV,D.str cr]]))++([[D.str bA.var,D.str bA.value]])) (IntKind.i64.wrap ((i1:Int)+1))) (by first| (simp only[iS au hm1,mA]<;>rfl)| (simp only[iS au hm1,mA,aG.c,aK.c,aM.c,Action.c,aN.c,aR.c,az.c,aW.c,Node.c,aJ.c,dH.c]<;>rfl)) (ih1 (i1+1) true ((b7++([(⟨aV,cr⟩:aK)]))++([bA])) (dn au) h)
   ·obtain⟨h52,h⟩:=bY h;exact((((dL.b h49).l (b9 aK.c 2 (dc au) rfl)).w (cN h52)).a [.cn [0,1,2,7,8,9] [2]]).cs hΓ bw (vh aB aV cr GJ ((b7.map aK.c)++([[D.str bA.var,D.str bA.value]])) (IntKind.i64.wrap ((i1:Int)+1))) (by first| (simp only[iS au hm1,mA]<;>rfl)| (simp only[iS au hm1,mA,aG.c,aK.c,aM.c,Action.c,aN.c,aR.c,az.c,aW.c,Node.c,aJ.c,dH.c]<;>rfl)) (ih1 (i1+1) GJ (b7++([bA])) (dn au) h)
  ·obtain⟨h53,h⟩:=bY h;exact((((((aT.lt aK.c au).r 8 h48).F 1).l (b9 aK.c 2 (dc au) rfl)).w (cN h53)).a [.cn [0,1,2,7,8,9] [2]]).cs hΓ bw (vh aB aV cr GJ ((b7.map aK.c)++([[D.str bA.var,D.str bA.value]])) (IntKind.i64.wrap ((i1:Int)+1))) (by first| (simp only[iS au hm1,mA]<;>rfl)| (simp only[iS au hm1,mA,aG.c,aK.c,aM.c,Action.c,aN.c,aR.c,az.c,aW.c,Node.c,aJ.c,dH.c]<;>rfl)) (ih1 (i1+1) GJ (b7++([bA])) (dn au) h)
theorem BB{aB:aI}{aV:Bytes}{cr:Bytes}{r:aI}(h:ug aB aV cr=some r):Good prog 164 [D.sl (aB.map aK.c),D.str aV,D.str cr] (D.fr 152 2 (r.map aK.c)):=by
 refine gd func164 [[some (152,2)]] 50 fun hr Γ hΓ=>?_
 rw[ug]at h;refine(aT.a [.cn [0,1,2,7,8,9] [0]]).lp hΓ (M7 hΓ (fun a0q bN h=>?_) (by have:=(e7.sl (hr _ (aC (i:=0) rfl))).1;simpa using this) aB 0 false ([]:aI) rfl h);obtain⟨h54,h⟩|⟨h54,h⟩:=aO h
 ·obtain⟨h55,h⟩:=bY h;cases h;exact((aT.b h54).w (cN h55)).rts hΓ (D.fr 152 2 ((bN.map aK.c)++([[D.str aV,D.str cr]]))) (by first|rfl| (simp only[mA]<;>rfl)| (simp only[cY,mA]<;>rfl))
 ·have h:=aE h;subst h;exact(aT.b h54).ret hΓ
def tS(aB:aI)(aV:Bytes)(cr:Bytes):Option (aI×Bool):=((jw aB).bind fun y1=>(bif !(y1)then(some (([]:aI),false))else((gm aV).bind fun y4=>(bif !(y4)then(some (([]:aI),false))else((ey cr).bind fun y7=>(bif !(y7)then(some (([]:aI),false))else((n9 aB aV).bind fun IN=>(bif IN.2 then(bif (IN.1:Bytes)==cr then((qY aB).bind fun y14=>(some (y14,true)))else(some (([]:aI),false)))else(bif (((aB.map aK.c).length:Int):Int)==6 then(some (([]:aI),false))else((ug aB aV cr).bind fun Xh=>(some (Xh,true))))))))))))
theorem JN{aB:aI}{aV:Bytes}{cr:Bytes}{r:aI×Bool}(h:tS aB aV cr=some r):Good prog 228 [D.sl (aB.map aK.c),D.str aV,D.str cr] (D.ij [D.fr 152 2 (r.1.map aK.c),D.bool r.2]):=by
 refine gd func228 [[some (152,2)],[none]] 49 fun hr Γ hΓ=>?_
 rw[tS]at h;obtain⟨y1,h2,h⟩:=aD h;obtain⟨h3,h⟩|⟨h3,h⟩:=aO h
 ·cases h;exact(((aT.g (lT h2)).r 4 h3).T 5).ret hΓ
 ·obtain⟨y4,h5,h⟩:=aD h;have kX:=((((aT.g (lT h2)).r 2 h3).g (fc h5)).r 2 h3)
  obtain⟨h6,h⟩|⟨h6,h⟩:=aO h
  ·cases h;exact((kX.r 4 h6).T 1).ret hΓ
  ·obtain⟨y7,h8,h⟩:=aD h;have dL:=(((kX.r 2 h6).g (eG h8)).r 2 h6)
   obtain⟨h9,h⟩|⟨h9,h⟩:=aO h
   ·cases h;exact(dL.b h9).ret hΓ
   ·obtain⟨IN,h11,h⟩:=aD h;have lV:=((dL.b h9).g (qj h11))
    obtain⟨h12,h⟩|⟨h12,h⟩:=aO h
    ·have kH:=(lV.r 4 h12)
     obtain⟨h13,h⟩|⟨h13,h⟩:=aO h
     ·obtain⟨y14,h15,h⟩:=aD h;cases h;exact((kH.b h13).g (w8 h15)).ret hΓ
     ·cases h;exact(((kH.b h13).r 4 h12).T 1).ret hΓ
    ·have uB:=(((lV.r 4 h12).F 1).r 4 h12)
     obtain⟨h16,h⟩|⟨h16,h⟩:=aO h
     ·cases h;exact(uB.b h16).ret hΓ
     ·obtain⟨Xh,h18,h⟩:=aD h;cases h;exact((uB.b h16).g (BB h18)).ret hΓ
def j9(aB:aG)(aV:aG)(k1:aI->Option (aI×Bool)):aH->Nat->aI->Option (aI×Bool)
 | [],i1,kZ=>(k1 kZ)
 |bA::bt,i1,kZ=>((ey bA).bind fun y80=>(bif y80 then((nF aV.args (i1:Int)).bind fun x83=>(bif !((bA:Bytes)==x83)then(some (([]:aI),false))else(j9 aB aV k1 bt (i1+1) kZ)))else((nF aV.args (i1:Int)).bind fun x86=>((tS kZ bA x86).bind fun y88=>(bif !(y88.2)then(some (([]:aI),false))else(j9 aB aV k1 bt (i1+1) y88.1))))))
def jy(aB:aG)(aV:aG)(cr:aI):Option (aI×Bool):=((iZ aB).bind fun y1=>(bif !(y1)then(some (([]:aI),false))else((qV aV).bind fun y4=>(bif !(y4)then(some (([]:aI),false))else((jw cr).bind fun y7=>(bif !(y7)then(some (([]:aI),false))else(bif !((aB.rel:Bytes)==aV.rel)then(some (([]:aI),false))else(bif (((aB.args.map tx).length:Int):Int) != ((aV.args.map tx).length:Int)then(some (([]:aI),false))else((qY cr).bind fun WC=>(j9 aB aV (fun(bN:aI)=>(some (bN,true))) aB.args 0 WC))))))))))
def Ho(aB:aG)(aV:aG)(W0:List aQ)(cZ:Int):St:=⟨[(3,D.ptr 0 0),(4,D.ptr 1 0),(8,D.acc 2),(9,D.int .i64 cZ)],[Ob.box (aG.c aB),Ob.box (aG.c aV),Ob.row .uq 152 2 W0]⟩
theorem Ff(hΓ:Γ.nt=89){aB:aG}{aV:aG}{r:aI×Bool}{k1:aI->Option (aI×Bool)}(cq:∀(bN:aI),k1 bN=some r->Ax Γ N f151 (.q [[some (152,2)],[none]] (D.ij [D.fr 152 2 (r.1.map aK.c),D.bool r.2])) [1,1,1,1] ⟨[(8,D.acc 0)],[Ob.row .uq 152 2 (bN.map aK.c)]⟩)(hm1:aB.args.length<=maxLen):∀(rest:aH) (i1:Nat) (kZ:aI),aB.args.drop i1=rest->j9 aB aV k1 rest i1 kZ=some r->Ar Γ N f151 (.q [[some (152,2)],[none]] (D.ij [D.fr 152 2 (r.1.map aK.c),D.bool r.2])) [1,1,1,0,1,0] (rest.length+1) (Ho aB aV (kZ.map aK.c) (i1:Int)):=by
 intro rest
 induction rest with
 |nil=>
  intro i1 kZ au h;rw[j9]at h;refine aP fun N1 cB bw=>?_
  exact((aT.ge tx au).a [.hl 0 [8] [2]]).ex hΓ cB (cq kZ h)
 |cons bA bt ih1=>
  intro i1 kZ au h;rw[j9]at h;refine aP fun N1 cB bw=>?_
  obtain⟨y80,h81,h⟩:=aD h;have kH:=(((aT.lt tx au).l (b9 tx 1 (dc au) rfl)).g (eG h81))
  obtain⟨h82,h⟩|⟨h82,h⟩:=aO h
  ·obtain⟨x83,h84,h⟩:=aD h;have uB:=((((kH.b h82).a [.n 10]).l (b9 tx 1 (dc au) rfl)).l (dO tx 1 h84 rfl))
   obtain⟨h85,h⟩|⟨h85,h⟩:=aO h
   ·cases h;exact(uB.b h85).ret hΓ
   ·exact((uB.b h85).a [.cn [3,4,8,9] [0,1,2]]).ct hΓ bw (iS au hm1) (ih1 (i1+1) kZ (dn au) h)
  ·obtain⟨x86,h87,h⟩:=aD h;obtain⟨y88,h89,h⟩:=aD h;have x9:=(((((kH.b h82).a [.n 16]).l (b9 tx 1 (dc au) rfl)).l (dO tx 1 h87 rfl)).g (JN h89))
   obtain⟨h90,h⟩|⟨h90,h⟩:=aO h
   ·cases h;exact(x9.b h90).ret hΓ
   ·exact((x9.b h90).a [.cn [3,4,8,9] [0,1,3]]).ct hΓ bw (iS au hm1) (ih1 (i1+1) y88.1 (dn au) h)
theorem xV{aB:aG}{aV:aG}{cr:aI}{r:aI×Bool}(h:jy aB aV cr=some r):Good prog 151 [D.agg (aG.c aB),D.agg (aG.c aV),D.sl (cr.map aK.c)] (D.ij [D.fr 152 2 (r.1.map aK.c),D.bool r.2]):=by
 refine gd func151 [[some (152,2)],[none]] 89 fun hr Γ hΓ=>?_
 rw[jy]at h;obtain⟨y1,h2,h⟩:=aD h;obtain⟨h3,h⟩|⟨h3,h⟩:=aO h
 ·cases h;exact(((aT.g (jI h2)).r 4 h3).T 19).ret hΓ
 ·obtain⟨y4,h5,h⟩:=aD h;have Ac:=((((aT.g (jI h2)).r 2 h3).g (AQ h5)).r 2 h3)
  obtain⟨h6,h⟩|⟨h6,h⟩:=aO h
  ·cases h;exact((Ac.r 4 h6).T 15).ret hΓ
  ·obtain⟨y7,h8,h⟩:=aD h;have IE:=(((Ac.r 2 h6).g (lT h8)).r 2 h6)
   obtain⟨h9,h⟩|⟨h9,h⟩:=aO h
   ·cases h;exact((IE.r 6 h9).T 9).ret hΓ
   ·have Mi:=(IE.r 6 h9)
    obtain⟨h10,h⟩|⟨h10,h⟩:=aO h
    ·cases h;exact((Mi.r 8 h10).T 1).ret hΓ
    ·have CM:=(Mi.r 8 h10)
     obtain⟨h11,h⟩|⟨h11,h⟩:=aO h
     ·cases h;exact(CM.b h11).ret hΓ
     ·obtain⟨WC,h13,h⟩:=aD h;refine(((CM.b h11).g (w8 h13)).a [.cn [3,4,8,9] [0,1,2]]).lp hΓ (Ff hΓ (fun bN h=>?_) (by have:=(e7.sl (e7.agg (hr _ (aC (i:=0) rfl)) (.sl (aB.args.map tx)) (by simp))).1;simpa using this) aB.args 0 WC rfl h);cases h;exact aT.ret hΓ
def fT(aB:aG)(aV:aI)(cr:aX)(k1:aX->Option aX):aX->Nat->aX->Option aX
 | [],i1,cA=>(k1 cA)
 |bA::bt,i1,cA=>((jy aB bA aV).bind fun y42=>(bif y42.2 then((kG bA).bind fun ET=>(bif room ((cA.map aG.c).length+([[D.str ET.rel,D.sl (ET.args.map tx)]]).length) 40 then(fT aB aV cr k1 bt (i1+1) (cA++([ET])))else none))else(fT aB aV cr k1 bt (i1+1) cA)))
def iC(aB:aG)(aV:aI)(cr:aX):Option aX:=(fT aB aV cr (fun(bN:aX)=>(some bN)) cr 0 ([]:aX))
def wJ(aB:aG)(aV:aI)(cr:aX)(W0:List aQ)(cZ:Int):St:=⟨[(1,D.sl (aV.map aK.c)),(2,D.sl (cr.map aG.c)),(3,D.ptr 0 0),(7,D.acc 1),(8,D.int .i64 cZ)],[Ob.box (aG.c aB),Ob.row .uq 53 2 W0]⟩
theorem BS(hΓ:Γ.nt=38){aB:aG}{aV:aI}{cr:aX}{r:aX}{k1:aX->Option aX}(cq:∀(bN:aX),k1 bN=some r->Ax Γ N f87 (.q [[some (53,2)]] (D.fr 53 2 (r.map aG.c))) [1,1,1] ⟨[(7,D.acc 0)],[Ob.row .uq 53 2 (bN.map aG.c)]⟩)(hm1:cr.length<=maxLen):∀(rest:aX) (i1:Nat) (cA:aX),cr.drop i1=rest->fT aB aV cr k1 rest i1 cA=some r->Ar Γ N f87 (.q [[some (53,2)]] (D.fr 53 2 (r.map aG.c))) [1,1,0,1,0] (rest.length+1) (wJ aB aV cr (cA.map aG.c) (i1:Int)):=by
 intro rest
 induction rest with
 |nil=>
  intro i1 cA au h;rw[fT]at h;refine aP fun N1 cB bw=>?_
  exact((aT.ge aG.c au).a [.hl 0 [7] [1]]).ex hΓ cB (cq cA h)
 |cons bA bt ih1=>
  intro i1 cA au h;rw[fT]at h;refine aP fun N1 cB bw=>?_
  obtain⟨y42,h43,h⟩:=aD h;have dL:=((((aT.lt aG.c au).a [.n 11]).l (b9 aG.c 2 (dc au) rfl)).g (xV h43))
  obtain⟨h44,h⟩|⟨h44,h⟩:=aO h
  ·obtain⟨ET,h46,h⟩:=aD h;obtain⟨h47,h⟩:=bY h;exact(((((dL.b h44).l (b9 aG.c 2 (dc au) rfl)).g (w5 h46)).w (cN h47)).a [.cn [1,2,3,7,8] [0,5]]).cs hΓ bw (wJ aB aV cr ((cA.map aG.c)++([[D.str ET.rel,D.sl (ET.args.map tx)]])) (IntKind.i64.wrap ((i1:Int)+1))) (by first| (simp only[iS au hm1,mA]<;>rfl)| (simp only[iS au hm1,mA,aG.c,aK.c,aM.c,Action.c,aN.c,aR.c,az.c,aW.c,Node.c,aJ.c,dH.c]<;>rfl)) (ih1 (i1+1) (cA++([ET])) (dn au) h)
  ·exact((dL.b h44).a [.cn [1,2,3,7,8] [0,1]]).ct hΓ bw (iS au hm1) (ih1 (i1+1) cA (dn au) h)
theorem lN{aB:aG}{aV:aI}{cr:aX}{r:aX}(h:iC aB aV cr=some r):Good prog 87 [D.agg (aG.c aB),D.sl (aV.map aK.c),D.sl (cr.map aG.c)] (D.fr 53 2 (r.map aG.c)):=by
 refine gd func87 [[some (53,2)]] 38 fun hr Γ hΓ=>?_
 rw[iC]at h;refine(aT.a [.cn [1,2,3,7,8] [0,1]]).lp hΓ (BS hΓ (fun bN h=>?_) (by have:=(e7.sl (hr _ (aC (i:=2) rfl))).1;simpa using this) cr 0 ([]:aX) rfl h);have h:=aE h;subst h;exact aT.ret hΓ
def lD(aB:aX)(aV:aX)(k1:Option Bool):aX->Nat->Option Bool
 | [],i1=>(k1)
 |bA::bt,i1=>((nF aV (i1:Int)).bind fun x30=>((tT bA x30).bind fun ya=>(bif !(ya)then(some false)else(lD aB aV k1 bt (i1+1)))))
def mR(aB:aX)(aV:aX):Option Bool:=(bif (((aB.map aG.c).length:Int):Int) != ((aV.map aG.c).length:Int)then(some false)else(lD aB aV (some true) aB 0))
def Hu(aB:aX)(aV:aX)(cZ:Int):St:=⟨[(0,D.sl (aB.map aG.c)),(1,D.sl (aV.map aG.c)),(5,D.int .i64 cZ)],[]⟩
theorem Fj(hΓ:Γ.nt=27){aB:aX}{aV:aX}{r:Bool}{k1:Option Bool}(cq:k1=some r->Ax Γ N f86 (.q [[none]] (D.bool r)) [1,1,1] ⟨[],[]⟩)(hm1:aB.length<=maxLen):∀(rest:aX) (i1:Nat),aB.drop i1=rest->lD aB aV k1 rest i1=some r->Ar Γ N f86 (.q [[none]] (D.bool r)) [1,1,0,1,0] (rest.length+1) (Hu aB aV (i1:Int)):=by
 intro rest
 induction rest with
 |nil=>
  intro i1 au h;rw[lD]at h;refine aP fun N1 cB bw=>?_
  exact((aT.ge aG.c au).a [.hl 0 [] []]).ex hΓ cB (cq h)
 |cons bA bt ih1=>
  intro i1 au h;rw[lD]at h;refine aP fun N1 cB bw=>?_
  obtain⟨x30,h31,h⟩:=aD h;obtain⟨ya,h33,h⟩:=aD h;have dL:=(((((aT.lt aG.c au).a [.n 8]).l (b9 aG.c 2 (dc au) rfl)).l (dO aG.c 2 h31 rfl)).g (JY h33))
  obtain⟨h34,h⟩|⟨h34,h⟩:=aO h
  ·have h:=aE h;subst h;exact(dL.b h34).ret hΓ
  ·exact((dL.b h34).a [.cn [0,1,5] []]).ct hΓ bw (iS au hm1) (ih1 (i1+1) (dn au) h)
theorem xW{aB:aX}{aV:aX}{r:Bool}(h:mR aB aV=some r):Good prog 86 [D.sl (aB.map aG.c),D.sl (aV.map aG.c)] (D.bool r):=by
 refine gd func86 [[none]] 27 fun hr Γ hΓ=>?_
 rw[mR]at h;obtain⟨h1,h⟩|⟨h1,h⟩:=aO h
 ·have h:=aE h;subst h;exact(aT.b h1).ret hΓ
 ·refine((aT.b h1).a [.cn [0,1,5] []]).lp hΓ (Fj hΓ (fun h=>?_) (by have:=(e7.sl (hr _ (aC (i:=0) rfl))).1;simpa using this) aB 0 rfl h);have h:=aE h;subst h;exact aT.ret hΓ
end Go.Cx

/- What functions of the program compute, and the walks that show it. No condition. -/
import Derived.Test.YtbeaohmbmfjabaaGreatDoorPTakeFromNetworkG4
set_option linter.unusedVariables false
set_option linter.unusedSimpArgs false
namespace Go.Cx
open Go.RowKit Go.Proofs Tryz
set_option maxRecDepth 100000
variable{Γ:vP}{N:Nat->St->Prop}
def jg(aB:Bytes)(aV:aT)(k1:Option Bytes):aT->Nat->Option Bytes
 | [],i1=>(k1)
 |bD::bn,i1=>(bif (bD.var:Bytes)==aB then(some bD.value)else(jg aB aV k1 bn (i1+1)))
def lC(aB:Bytes)(aV:aT):Option Bytes:=(jg aB aV (some aB) aV 0)
def Jh(aB:Bytes)(aV:aT)(cS:Int):St:=⟨[(0,D.str aB),(1,D.sl (aV.map aS.c)),(5,D.int .i64 cS)],[]⟩
theorem HR(hΓ:Γ.nt=25){aB:Bytes}{aV:aT}{r:Bytes}{k1:Option Bytes}(cX:k1=some r->Ax Γ N f242 (.q [[none]] (D.str r)) [1,1] ⟨[(0,D.str aB)],[]⟩)(hm1:aV.length<=maxLen):∀(rest:aT) (i1:Nat),aV.drop i1=rest->jg aB aV k1 rest i1=some r->Ar Γ N f242 (.q [[none]] (D.str r)) [1,0,1,0] (rest.length+1) (Jh aB aV (i1:Int)):=by
 intro rest
 induction rest with
 |nil=>
  intro i1 aq h;rw[jg]at h;refine aM fun N1 bu bq=>?_
  exact((aU.ge aS.c aq).a [.hl 0 [0] []]).ex hΓ bu (cX h)
 |cons bD bn ih1=>
  intro i1 aq h;rw[jg]at h;refine aM fun N1 bu bq=>?_
  have dJ:=((aU.lt aS.c aq).l (ax aS.c 2 (dc aq) rfl))
  obtain⟨h13,h⟩|⟨h13,h⟩:=aL h
  ·cases h;exact((dJ.b h13).l (ax aS.c 2 (dc aq) rfl)).ret hΓ
  ·exact((dJ.b h13).a [.cn [0,1,5] []]).ct hΓ bq (iS aq hm1) (ih1 (i1+1) (dn aq) h)
theorem vK{aB:Bytes}{aV:aT}{r:Bytes}(h:lC aB aV=some r):Good prog 242 [D.str aB,D.sl (aV.map aS.c)] (D.str r):=by
 refine gd func242 [[none]] 25 fun hr Γ hΓ=>?_
 rw[lC]at h;refine(aU.a [.cn [0,1,5] []]).lp hΓ (HR hΓ (fun h=>?_) (by have:=(dS.sl (hr _ (aC (i:=1) rfl))).1;simpa using this) aV 0 rfl h);have h:=aG h;subst h;exact aU.ret hΓ
def l7(aB:aN)(aV:aT)(y1:Bytes)(y3:Bytes)(k1:aI->Option aN):aI->Nat->aI->Option aN
 | [],i1,gf=>(k1 gf)
 |bD::bn,i1,gf=>((lC bD aV).bind fun Yk=>(bif room ((gf.map tx).length+([[D.str Yk]]).length) 16 then(l7 aB aV y1 y3 k1 bn (i1+1) (gf++([Yk])))else none))
def jm(aB:aN)(aV:aT):Option aN:=((lC aB.left aV).bind fun y1=>((lC aB.right aV).bind fun y3=>(l7 aB aV y1 y3 (fun(yH:aI)=>(some (⟨aB.kind,(⟨aB.pat.rel,yH⟩:aE),y1,y3⟩:aN))) aB.pat.args 0 ([]:aI))))
def zo(aB:aN)(aV:aT)(y1:Bytes)(y3:Bytes)(W0:List aR)(cS:Int):St:=⟨[(1,D.sl (aV.map aS.c)),(2,D.ptr 0 0),(4,D.ptr 1 0),(5,D.ptr 2 0),(6,D.int .i64 cS)],[Ob.box (aN.c aB),Ob.box [D.int .i64 0,D.str ([]),D.nil,D.str ([]),D.str ([])],Ob.box [D.int .i64 aB.kind,D.str aB.pat.rel,D.acc 3,D.str y1,D.str y3],Ob.row .uq 9 1 W0]⟩
theorem Fj(hΓ:Γ.nt=46){aB:aN}{aV:aT}{y1:Bytes}{y3:Bytes}{r:aN}{k1:aI->Option aN}(cX:∀(yH:aI),k1 yH=some r->Ax Γ N f177 (.q [[none,none,some (9,1),none,none]] (D.agg [D.int .i64 r.kind,D.str r.pat.rel,D.fr 9 1 (r.pat.args.map tx),D.str r.left,D.str r.right])) [1,1,1] ⟨[(4,D.ptr 0 0),(5,D.ptr 1 0)],[Ob.box [D.int .i64 0,D.str ([]),D.nil,D.str ([]),D.str ([])],Ob.box [D.int .i64 aB.kind,D.str aB.pat.rel,D.acc 2,D.str y1,D.str y3],Ob.row .uq 9 1 (yH.map tx)]⟩)(hm1:aB.pat.args.length<=maxLen):∀(rest:aI) (i1:Nat) (gf:aI),aB.pat.args.drop i1=rest->l7 aB aV y1 y3 k1 rest i1 gf=some r->Ar Γ N f177 (.q [[none,none,some (9,1),none,none]] (D.agg [D.int .i64 r.kind,D.str r.pat.rel,D.fr 9 1 (r.pat.args.map tx),D.str r.left,D.str r.right])) [1,1,0,1,0] (rest.length+1) (zo aB aV y1 y3 (gf.map tx) (i1:Int)):=by
 intro rest
 induction rest with
 |nil=>
  intro i1 gf aq h;rw[l7]at h;refine aM fun N1 bu bq=>?_
  exact((aU.ge tx aq).a [.hl 0 [4,5] [1,2,3]]).ex hΓ bu (cX gf h)
 |cons bD bn ih1=>
  intro i1 gf aq h;rw[l7]at h;refine aM fun N1 bu bq=>?_
  obtain⟨Yk,h32,h⟩:=aD h;obtain⟨h33,h⟩:=bX h;exact((((((aU.lt tx aq).a [.n 12]).l (ax tx 1 (dc aq) rfl)).g (vK h32)).w (cG h33)).a [.cn [1,2,4,5,6] [0,1,2,5]]).cs hΓ bq (zo aB aV y1 y3 ((gf.map tx)++([[D.str Yk]])) (IntKind.i64.wrap ((i1:Int)+1))) (by first| (simp only[iS aq hm1,mA]<;>rfl)| (simp only[iS aq hm1,mA,aE.c,aS.c,aN.c,Action.c,aO.c,aJ.c,cx.c,aP.c,Node.c,aF.c,cy.c]<;>rfl)) (ih1 (i1+1) (gf++([Yk])) (dn aq) h)
theorem jK{aB:aN}{aV:aT}{r:aN}(h:jm aB aV=some r):Good prog 177 [D.agg (aN.c aB),D.sl (aV.map aS.c)] (D.agg [D.int .i64 r.kind,D.str r.pat.rel,D.fr 9 1 (r.pat.args.map tx),D.str r.left,D.str r.right]):=by
 refine gd func177 [[none,none,some (9,1),none,none]] 46 fun hr Γ hΓ=>?_
 rw[jm]at h;obtain⟨y1,h2,h⟩:=aD h;obtain⟨y3,h4,h⟩:=aD h;refine((((aU.a [.n 16]).g (vK h2)).g (vK h4)).a [.pb 2 2 9 1,.cn [1,2,4,5,6] [0,1,2,3]]).lp hΓ (Fj hΓ (fun yH h=>?_) (by have:=(dS.sl (dS.agg (hr _ (aC (i:=0) rfl)) (.sl (aB.pat.args.map tx)) (by simp))).1;simpa using this) aB.pat.args 0 ([]:aI) rfl h);cases h;exact aU.ret hΓ
def jv(aB:aN):Option aN:=((jm aB ([])).bind fun y1=>(some y1))
theorem qF{aB:aN}{r:aN}(h:jv aB=some r):Good prog 105 [D.agg (aN.c aB)] (D.agg [D.int .i64 r.kind,D.str r.pat.rel,D.fr 9 1 (r.pat.args.map tx),D.str r.left,D.str r.right]):=by
 refine gd func105 [[none,none,some (9,1),none,none]] 5 fun hr Γ hΓ=>?_
 rw[jv]at h;obtain⟨y1,h2,h⟩:=aD h;have h:=aG h;subst h;exact((aU.a [.d (D.agg [D.int .i64 y1.kind,D.str y1.pat.rel,D.fr 9 1 (y1.pat.args.map tx),D.str y1.left,D.str y1.right])]).w (show Good prog 177 [D.agg (aN.c aB),D.sl ([])] (D.agg [D.int .i64 y1.kind,D.str y1.pat.rel,D.fr 9 1 (y1.pat.args.map tx),D.str y1.left,D.str y1.right])from by first| (simpa only[bS,bG,bV,dH,cz]using jK h2)|exact jK h2)).ret hΓ
def tI(aB:aI):Option aI:=(bif room (([]:List aR).length+(aB.map tx).length) 16 then(some (([]:aI)++aB))else none)
theorem Ao{aB:aI}{r:aI}(h:tI aB=some r):Good prog 176 [D.sl (aB.map tx)] (D.fr 9 1 (r.map tx)):=by
 refine gd func176 [[some (9,1)]] 6 fun hr Γ hΓ=>?_
 rw[tI]at h;obtain⟨h1,h⟩:=bX h;cases h;exact(((aU.w (cG h1)).w (show(∀r∈(aB.map tx),r.length=1)/\(true=true->D.nr (aB.map tx)=true)from⟨by first|simp| (intro r hr;obtain⟨x,_,rfl⟩:=cH.1 (cF (gB hr));rfl),by simp[D.nr,D.flat]⟩)).a [.PT 2,.fl true]).rts hΓ (D.fr 9 1 (([]:List aR)++(aB.map tx))) (by first|rfl| (simp only[mA]<;>rfl))
def eN(aB:aE):Option aE:=((tI aB.args).bind fun y1=>(some (⟨aB.rel,y1⟩:aE)))
theorem wU{aB:aE}{r:aE}(h:eN aB=some r):Good prog 104 [D.agg (aE.c aB)] (D.agg [D.str r.rel,D.fr 9 1 (r.args.map tx)]):=by
 refine gd func104 [[none,some (9,1)]] 9 fun hr Γ hΓ=>?_
 rw[eN]at h;obtain⟨y1,h2,h⟩:=aD h;cases h;exact((aU.a [.n 5]).g (Ao h2)).ret hΓ
def pZ(aB:aO)(k1:aj->Option aO):aj->Nat->aj->Option aO
 | [],i1,gf=>(k1 gf)
 |bD::bn,i1,gf=>((jv bD).bind fun D2=>(bif room ((gf.map aN.c).length+([[D.int .i64 D2.kind,D.str D2.pat.rel,D.sl (D2.pat.args.map tx),D.str D2.left,D.str D2.right]]).length) 80 then(pZ aB k1 bn (i1+1) (gf++([D2])))else none))
def nS(aB:aO)(iI:aj)(k2:bw->Option aO):bw->Nat->bw->Option aO
 | [],i2,ou=>(k2 ou)
 |lM::wF,i2,ou=>((eN lM.pat).bind fun y92=>(bif room ((ou.map Action.c).length+([[D.int .i64 lM.kind,D.str y92.rel,D.sl (y92.args.map tx)]]).length) 48 then(nS aB iI k2 wF (i2+1) (ou++([(⟨lM.kind,y92⟩:Action)])))else none))
def uw(aB:aO):Option aO:=(pZ aB (fun(iI:aj)=>(nS aB iI (fun(C3:bw)=>(some (⟨aB.name,aB.prio,iI,C3⟩:aO))) aB.cr 0 ([]:bw))) aB.conds 0 ([]:aj))
def DW(aB:aO)(W0:List aR)(cS:Int):St:=⟨[(1,D.ptr 0 0),(2,D.ptr 1 0),(3,D.ptr 2 0),(4,D.int .i64 cS)],[Ob.box (aO.c aB),Ob.box [D.str ([]),D.int .i64 0,D.nil,D.nil],Ob.box [D.str aB.name,D.int .i64 aB.prio,D.acc 3,D.nil],Ob.row .uq 115 5 W0]⟩
theorem Ms(hΓ:Γ.nt=56){aB:aO}{r:aO}{k1:aj->Option aO}(cX:∀(iI:aj),k1 iI=some r->Ax Γ N f175 (.q [[none,none,some (115,5),some (199,3)]] (D.agg [D.str r.name,D.int .i64 r.prio,D.fr 115 5 (r.conds.map aN.c),D.fr 199 3 (r.cr.map Action.c)])) [1,1,1] ⟨[(1,D.ptr 0 0),(2,D.ptr 1 0),(3,D.ptr 2 0)],[Ob.box (aO.c aB),Ob.box [D.str ([]),D.int .i64 0,D.nil,D.nil],Ob.box [D.str aB.name,D.int .i64 aB.prio,D.acc 3,D.nil],Ob.row .uq 115 5 (iI.map aN.c)]⟩)(hm1:aB.conds.length<=maxLen):∀(rest:aj) (i1:Nat) (gf:aj),aB.conds.drop i1=rest->pZ aB k1 rest i1 gf=some r->Ar Γ N f175 (.q [[none,none,some (115,5),some (199,3)]] (D.agg [D.str r.name,D.int .i64 r.prio,D.fr 115 5 (r.conds.map aN.c),D.fr 199 3 (r.cr.map Action.c)])) [1,1,0,1,0] (rest.length+1) (DW aB (gf.map aN.c) (i1:Int)):=by
 intro rest
 induction rest with
 |nil=>
  intro i1 gf aq h;rw[pZ]at h;refine aM fun N1 bu bq=>?_
  exact((aU.ge aN.c aq).a [.hl 0 [1,2,3] [0,1,2,3]]).ex hΓ bu (cX gf h)
 |cons bD bn ih1=>
  intro i1 gf aq h;rw[pZ]at h;refine aM fun N1 bu bq=>?_
  obtain⟨D2,h46,h⟩:=aD h;obtain⟨h47,h⟩:=bX h;exact((((((aU.lt aN.c aq).a [.n2 [0,1,2,3,4,5,6,7,8,9,10,11] [0,1,2,3,4,5,6,7,8,9,10,11] 8 9 [0,1] [4]]).l (ax aN.c 5 (dc aq) rfl)).g (qF h46)).w (cG h47)).a [.cn [1,2,3,4] [0,1,2,6]]).cs hΓ bq (DW aB ((gf.map aN.c)++([[D.int .i64 D2.kind,D.str D2.pat.rel,D.sl (D2.pat.args.map tx),D.str D2.left,D.str D2.right]])) (IntKind.i64.wrap ((i1:Int)+1))) (by first| (simp only[iS aq hm1,mA]<;>rfl)| (simp only[iS aq hm1,mA,aE.c,aS.c,aN.c,Action.c,aO.c,aJ.c,cx.c,aP.c,Node.c,aF.c,cy.c]<;>rfl)) (ih1 (i1+1) (gf++([D2])) (dn aq) h)
def DX(aB:aO)(iI:aj)(W0:List aR)(cS:Int):St:=⟨[(1,D.ptr 0 0),(2,D.ptr 1 0),(3,D.ptr 2 0),(5,D.int .i64 cS)],[Ob.box (aO.c aB),Ob.box [D.str ([]),D.int .i64 0,D.nil,D.nil],Ob.box [D.str aB.name,D.int .i64 aB.prio,D.acc 3,D.acc 4],Ob.row .uq 115 5 (iI.map aN.c),Ob.row .uq 199 3 W0]⟩
theorem Mt(hΓ:Γ.nt=56){aB:aO}{iI:aj}{r:aO}{k2:bw->Option aO}(CV:∀(C3:bw),k2 C3=some r->Ax Γ N f175 (.q [[none,none,some (115,5),some (199,3)]] (D.agg [D.str r.name,D.int .i64 r.prio,D.fr 115 5 (r.conds.map aN.c),D.fr 199 3 (r.cr.map Action.c)])) [1,1,1,1] ⟨[(2,D.ptr 0 0),(3,D.ptr 1 0)],[Ob.box [D.str ([]),D.int .i64 0,D.nil,D.nil],Ob.box [D.str aB.name,D.int .i64 aB.prio,D.acc 2,D.acc 3],Ob.row .uq 115 5 (iI.map aN.c),Ob.row .uq 199 3 (C3.map Action.c)]⟩)(hm2:aB.cr.length<=maxLen):∀(rest:bw) (i2:Nat) (ou:bw),aB.cr.drop i2=rest->nS aB iI k2 rest i2 ou=some r->Ar Γ N f175 (.q [[none,none,some (115,5),some (199,3)]] (D.agg [D.str r.name,D.int .i64 r.prio,D.fr 115 5 (r.conds.map aN.c),D.fr 199 3 (r.cr.map Action.c)])) [1,1,1,0,1,0] (rest.length+1) (DX aB iI (ou.map Action.c) (i2:Int)):=by
 intro rest
 induction rest with
 |nil=>
  intro i2 ou hd2 h;rw[nS]at h;refine aM fun N2 xM uT=>?_
  exact((aU.ge Action.c hd2).a [.hl 0 [2,3] [1,2,3,4]]).ex hΓ xM (CV ou h)
 |cons lM wF ih2=>
  intro i2 ou hd2 h;rw[nS]at h;refine aM fun N2 xM uT=>?_
  obtain⟨y92,h93,h⟩:=aD h;obtain⟨h94,h⟩:=bX h;exact(((((((aU.lt Action.c hd2).a [.n2 [0,1,2,3,4,5,6,7,8,9,10,11,12,13,14,15,16,17,18,19] [0,1,2,3,4,5,6,7,8,9,10,11,12,13,14,15,16,17,18,19] 16 17 [0,1] [5]]).l (ax Action.c 3 (dc hd2) rfl)).l (ax Action.c 3 (dc hd2) rfl)).g (wU h93)).w (cG h94)).a [.cn [1,2,3,5] [0,1,2,3,7]]).cs hΓ uT (DX aB iI ((ou.map Action.c)++([[D.int .i64 lM.kind,D.str y92.rel,D.sl (y92.args.map tx)]])) (IntKind.i64.wrap ((i2:Int)+1))) (by first| (simp only[iS hd2 hm2,mA]<;>rfl)| (simp only[iS hd2 hm2,mA,aE.c,aS.c,aN.c,Action.c,aO.c,aJ.c,cx.c,aP.c,Node.c,aF.c,cy.c]<;>rfl)) (ih2 (i2+1) (ou++([(⟨lM.kind,y92⟩:Action)])) (dn hd2) h)
theorem LX{aB:aO}{r:aO}(h:uw aB=some r):Good prog 175 [D.agg (aO.c aB)] (D.agg [D.str r.name,D.int .i64 r.prio,D.fr 115 5 (r.conds.map aN.c),D.fr 199 3 (r.cr.map Action.c)]):=by
 refine gd func175 [[none,none,some (115,5),some (199,3)]] 56 fun hr Γ hΓ=>?_
 rw[uw]at h;refine(aU.a [.pb 2 2 115 5,.cn [1,2,3,4] [0,1,2,3]]).lp hΓ (Ms hΓ (fun iI h=>?_) (by have:=(dS.sl (dS.agg (hr _ (aC (i:=0) rfl)) (.sl (aB.conds.map aN.c)) (by simp))).1;simpa using this) aB.conds 0 ([]:aj) rfl h);refine(aU.a [.pb 2 3 199 3,.cn [1,2,3,5] [0,1,2,3,4]]).lp hΓ (Mt hΓ (fun C3 h=>?_) (by have:=(dS.sl (dS.agg (hr _ (aC (i:=0) rfl)) (.sl (aB.cr.map Action.c)) (by simp))).1;simpa using this) aB.cr 0 ([]:bw) rfl h);cases h;exact aU.ret hΓ
def nR(aB:au)(k1:au->Option au):au->Nat->au->Option au
 | [],i1,bC=>(k1 bC)
 |bD::bn,i1,bC=>((uw bD).bind fun pM=>(bif room ((bC.map aO.c).length+([[D.str pM.name,D.int .i64 pM.prio,D.sl (pM.conds.map aN.c),D.sl (pM.cr.map Action.c)]]).length) 72 then(nR aB k1 bn (i1+1) (bC++([pM])))else none))
def qh(aB:au):Option au:=(nR aB (fun(bO:au)=>(some bO)) aB 0 ([]:au))
def Br(aB:au)(W0:List aR)(cS:Int):St:=⟨[(0,D.sl (aB.map aO.c)),(3,D.acc 0),(4,D.int .i64 cS)],[Ob.row .uq 105 4 W0]⟩
theorem Ji(hΓ:Γ.nt=21){aB:au}{r:au}{k1:au->Option au}(cX:∀(bO:au),k1 bO=some r->Ax Γ N f102 (.q [[some (105,4)]] (D.fr 105 4 (r.map aO.c))) [1,1,1] ⟨[(3,D.acc 0)],[Ob.row .uq 105 4 (bO.map aO.c)]⟩)(hm1:aB.length<=maxLen):∀(rest:au) (i1:Nat) (bC:au),aB.drop i1=rest->nR aB k1 rest i1 bC=some r->Ar Γ N f102 (.q [[some (105,4)]] (D.fr 105 4 (r.map aO.c))) [1,1,0,1,0] (rest.length+1) (Br aB (bC.map aO.c) (i1:Int)):=by
 intro rest
 induction rest with
 |nil=>
  intro i1 bC aq h;rw[nR]at h;refine aM fun N1 bu bq=>?_
  exact((aU.ge aO.c aq).a [.hl 0 [3] [0]]).ex hΓ bu (cX bC h)
 |cons bD bn ih1=>
  intro i1 bC aq h;rw[nR]at h;refine aM fun N1 bu bq=>?_
  obtain⟨pM,h28,h⟩:=aD h;obtain⟨h29,h⟩:=bX h;exact(((((aU.lt aO.c aq).l (ax aO.c 4 (dc aq) rfl)).g (LX h28)).w (cG h29)).a [.cn [0,3,4] [4]]).cs hΓ bq (Br aB ((bC.map aO.c)++([[D.str pM.name,D.int .i64 pM.prio,D.sl (pM.conds.map aN.c),D.sl (pM.cr.map Action.c)]])) (IntKind.i64.wrap ((i1:Int)+1))) (by first| (simp only[iS aq hm1,mA]<;>rfl)| (simp only[iS aq hm1,mA,aE.c,aS.c,aN.c,Action.c,aO.c,aJ.c,cx.c,aP.c,Node.c,aF.c,cy.c]<;>rfl)) (ih1 (i1+1) (bC++([pM])) (dn aq) h)
theorem zu{aB:au}{r:au}(h:qh aB=some r):Good prog 102 [D.sl (aB.map aO.c)] (D.fr 105 4 (r.map aO.c)):=by
 refine gd func102 [[some (105,4)]] 21 fun hr Γ hΓ=>?_
 rw[qh]at h;refine(aU.a [.cn [0,3,4] [0]]).lp hΓ (Ji hΓ (fun bO h=>?_) (by have:=(dS.sl (hr _ (aC (i:=0) rfl))).1;simpa using this) aB 0 ([]:au) rfl h);have h:=aG h;subst h;exact aU.ret hΓ
def xK(aB:bJ):Option bJ:=(bif room (([]:List aR).length+(aB.map dZ).length) 8 then(some (([]:bJ)++aB))else none)
theorem LW{aB:bJ}{r:bJ}(h:xK aB=some r):Good prog 103 [D.sl (aB.map dZ)] (D.fr 3 1 (r.map dZ)):=by
 refine gd func103 [[some (3,1)]] 6 fun hr Γ hΓ=>?_
 rw[xK]at h;obtain⟨h1,h⟩:=bX h;cases h;exact(((aU.w (cG h1)).w (show(∀r∈(aB.map dZ),r.length=1)/\(true=true->D.nr (aB.map dZ)=true)from⟨by first|simp| (intro r hr;obtain⟨x,_,rfl⟩:=cH.1 (cF (gB hr));rfl),by simp[D.nr,D.flat]⟩)).a [.PT 2,.fl true]).rts hΓ (D.fr 3 1 (([]:List aR)++(aB.map dZ))) (by first|rfl| (simp only[mA]<;>rfl))
def ju(aB:aE):Option aE:=((tI aB.args).bind fun y1=>(some (⟨aB.rel,y1⟩:aE)))
theorem tW{aB:aE}{r:aE}(h:ju aB=some r):Good prog 152 [D.agg (aE.c aB)] (D.agg [D.str r.rel,D.fr 9 1 (r.args.map tx)]):=by
 refine gd func152 [[none,some (9,1)]] 9 fun hr Γ hΓ=>?_
 rw[ju]at h;obtain⟨y1,h2,h⟩:=aD h;cases h;exact((aU.a [.n 5]).g (Ao h2)).ret hΓ
def nQ(aB:aQ)(k1:aQ->Option aQ):aQ->Nat->aQ->Option aQ
 | [],i1,bC=>(k1 bC)
 |bD::bn,i1,bC=>((ju bD).bind fun pM=>(bif room ((bC.map aE.c).length+([[D.str pM.rel,D.sl (pM.args.map tx)]]).length) 40 then(nQ aB k1 bn (i1+1) (bC++([pM])))else none))
def eS(aB:aQ):Option aQ:=(nQ aB (fun(bO:aQ)=>(some bO)) aB 0 ([]:aQ))
def Bq(aB:aQ)(W0:List aR)(cS:Int):St:=⟨[(0,D.sl (aB.map aE.c)),(3,D.acc 0),(4,D.int .i64 cS)],[Ob.row .uq 53 2 W0]⟩
theorem Jg(hΓ:Γ.nt=21){aB:aQ}{r:aQ}{k1:aQ->Option aQ}(cX:∀(bO:aQ),k1 bO=some r->Ax Γ N f93 (.q [[some (53,2)]] (D.fr 53 2 (r.map aE.c))) [1,1,1] ⟨[(3,D.acc 0)],[Ob.row .uq 53 2 (bO.map aE.c)]⟩)(hm1:aB.length<=maxLen):∀(rest:aQ) (i1:Nat) (bC:aQ),aB.drop i1=rest->nQ aB k1 rest i1 bC=some r->Ar Γ N f93 (.q [[some (53,2)]] (D.fr 53 2 (r.map aE.c))) [1,1,0,1,0] (rest.length+1) (Bq aB (bC.map aE.c) (i1:Int)):=by
 intro rest
 induction rest with
 |nil=>
  intro i1 bC aq h;rw[nQ]at h;refine aM fun N1 bu bq=>?_
  exact((aU.ge aE.c aq).a [.hl 0 [3] [0]]).ex hΓ bu (cX bC h)
 |cons bD bn ih1=>
  intro i1 bC aq h;rw[nQ]at h;refine aM fun N1 bu bq=>?_
  obtain⟨pM,h28,h⟩:=aD h;obtain⟨h29,h⟩:=bX h;exact(((((aU.lt aE.c aq).l (ax aE.c 2 (dc aq) rfl)).g (tW h28)).w (cG h29)).a [.cn [0,3,4] [3]]).cs hΓ bq (Bq aB ((bC.map aE.c)++([[D.str pM.rel,D.sl (pM.args.map tx)]])) (IntKind.i64.wrap ((i1:Int)+1))) (by first| (simp only[iS aq hm1,mA]<;>rfl)| (simp only[iS aq hm1,mA,aE.c,aS.c,aN.c,Action.c,aO.c,aJ.c,cx.c,aP.c,Node.c,aF.c,cy.c]<;>rfl)) (ih1 (i1+1) (bC++([pM])) (dn aq) h)
theorem iv{aB:aQ}{r:aQ}(h:eS aB=some r):Good prog 93 [D.sl (aB.map aE.c)] (D.fr 53 2 (r.map aE.c)):=by
 refine gd func93 [[some (53,2)]] 21 fun hr Γ hΓ=>?_
 rw[eS]at h;refine(aU.a [.cn [0,3,4] [0]]).lp hΓ (Jg hΓ (fun bO h=>?_) (by have:=(dS.sl (hr _ (aC (i:=0) rfl))).1;simpa using this) aB 0 ([]:aQ) rfl h);have h:=aG h;subst h;exact aU.ret hΓ
def rT(aB:aT):Option aT:=(bif room (([]:List aR).length+(aB.map aS.c).length) 32 then(some (([]:aT)++aB))else none)
theorem xf{aB:aT}{r:aT}(h:rT aB=some r):Good prog 227 [D.sl (aB.map aS.c)] (D.fr 152 2 (r.map aS.c)):=by
 refine gd func227 [[some (152,2)]] 6 fun hr Γ hΓ=>?_
 rw[rT]at h;obtain⟨h1,h⟩:=bX h;cases h;exact(((aU.w (cG h1)).w (show(∀r∈(aB.map aS.c),r.length=2)/\(true=true->D.nr (aB.map aS.c)=true)from⟨by first|simp| (intro r hr;obtain⟨x,_,rfl⟩:=cH.1 (cF (gB hr));rfl),by simp[D.nr,D.flat]⟩)).a [.PT 2,.fl true]).rts hΓ (D.fr 152 2 (([]:List aR)++(aB.map aS.c))) (by first|rfl| (simp only[mA]<;>rfl))
def rU(aB:aJ):Option aJ:=((eS aB.facts).bind fun y1=>((rT aB.bind).bind fun y3=>(some (⟨y1,y3⟩:aJ))))
theorem Bs{aB:aJ}{r:aJ}(h:rU aB=some r):Good prog 178 [D.agg (aJ.c aB)] (D.agg [D.fr 53 2 (r.facts.map aE.c),D.fr 152 2 (r.bind.map aS.c)]):=by
 refine gd func178 [[some (53,2),some (152,2)]] 10 fun hr Γ hΓ=>?_
 rw[rU]at h;obtain⟨y1,h2,h⟩:=aD h;obtain⟨y3,h4,h⟩:=aD h;cases h;exact(((aU.a [.n 5]).g (iv h2)).g (xf h4)).ret hΓ
def jM(aB:af)(k1:af->Option af):af->Nat->af->Option af
 | [],i1,bC=>(k1 bC)
 |bD::bn,i1,bC=>((rU bD).bind fun pM=>(bif room ((bC.map aJ.c).length+([[D.sl (pM.facts.map aE.c),D.sl (pM.bind.map aS.c)]]).length) 48 then(jM aB k1 bn (i1+1) (bC++([pM])))else none))
def jh(aB:af):Option af:=(jM aB (fun(bO:af)=>(some bO)) aB 0 ([]:af))
def yb(aB:af)(W0:List aR)(cS:Int):St:=⟨[(0,D.sl (aB.map aJ.c)),(3,D.acc 0),(4,D.int .i64 cS)],[Ob.row .uq 124 2 W0]⟩
theorem Db(hΓ:Γ.nt=21){aB:af}{r:af}{k1:af->Option af}(cX:∀(bO:af),k1 bO=some r->Ax Γ N f106 (.q [[some (124,2)]] (D.fr 124 2 (r.map aJ.c))) [1,1,1] ⟨[(3,D.acc 0)],[Ob.row .uq 124 2 (bO.map aJ.c)]⟩)(hm1:aB.length<=maxLen):∀(rest:af) (i1:Nat) (bC:af),aB.drop i1=rest->jM aB k1 rest i1 bC=some r->Ar Γ N f106 (.q [[some (124,2)]] (D.fr 124 2 (r.map aJ.c))) [1,1,0,1,0] (rest.length+1) (yb aB (bC.map aJ.c) (i1:Int)):=by
 intro rest
 induction rest with
 |nil=>
  intro i1 bC aq h;rw[jM]at h;refine aM fun N1 bu bq=>?_
  exact((aU.ge aJ.c aq).a [.hl 0 [3] [0]]).ex hΓ bu (cX bC h)
 |cons bD bn ih1=>
  intro i1 bC aq h;rw[jM]at h;refine aM fun N1 bu bq=>?_
  obtain⟨pM,h28,h⟩:=aD h;obtain⟨h29,h⟩:=bX h;exact(((((aU.lt aJ.c aq).l (ax aJ.c 2 (dc aq) rfl)).g (Bs h28)).w (cG h29)).a [.cn [0,3,4] [4]]).cs hΓ bq (yb aB ((bC.map aJ.c)++([[D.sl (pM.facts.map aE.c),D.sl (pM.bind.map aS.c)]])) (IntKind.i64.wrap ((i1:Int)+1))) (by first| (simp only[iS aq hm1,mA]<;>rfl)| (simp only[iS aq hm1,mA,aE.c,aS.c,aN.c,Action.c,aO.c,aJ.c,cx.c,aP.c,Node.c,aF.c,cy.c]<;>rfl)) (ih1 (i1+1) (bC++([pM])) (dn aq) h)
theorem Cn{aB:af}{r:af}(h:jh aB=some r):Good prog 106 [D.sl (aB.map aJ.c)] (D.fr 124 2 (r.map aJ.c)):=by
 refine gd func106 [[some (124,2)]] 21 fun hr Γ hΓ=>?_
 rw[jh]at h;refine(aU.a [.cn [0,3,4] [0]]).lp hΓ (Db hΓ (fun bO h=>?_) (by have:=(dS.sl (hr _ (aC (i:=0) rfl))).1;simpa using this) aB 0 ([]:af) rfl h);have h:=aG h;subst h;exact aU.ret hΓ
def nV(aB:aF)(y1:au)(y3:bJ)(y5:aQ)(k1:b8->Option aF):b8->Nat->b8->Option aF
 | [],i1,qK=>(k1 qK)
 |bD::bn,i1,qK=>((eN bD.shape).bind fun M3=>((eS bD.facts).bind fun y75=>(bif room ((qK.map aP.c).length+([[D.str M3.rel,D.sl (M3.args.map tx),D.sl (y75.map aE.c)]]).length) 64 then(nV aB y1 y3 y5 k1 bn (i1+1) (qK++([(⟨M3,y75⟩:aP)])))else none)))
def nW(aB:aF)(y1:au)(y3:bJ)(y5:aQ)(rY:b8)(k2:az->Option aF):az->Nat->az->Option aF
 | [],i2,wQ=>(k2 wQ)
 |lM::wF,i2,wQ=>((jv lM.cond).bind fun Od=>((jh lM.tokens).bind fun a3J=>(bif room ((wQ.map Node.c).length+([[D.int .i64 lM.parent,D.int .i64 Od.kind,D.str Od.pat.rel,D.sl (Od.pat.args.map tx),D.str Od.left,D.str Od.right,D.int .i64 lM.cP,D.sl (a3J.map aJ.c)]]).length) 120 then(nW aB y1 y3 y5 rY k2 wF (i2+1) (wQ++([(⟨lM.parent,Od,lM.cP,a3J⟩:Node)])))else none)))
def rW(aB:aF):Option aF:=((qh aB.rules).bind fun y1=>((xK aB.ends).bind fun y3=>((eS aB.facts).bind fun y5=>(nV aB y1 y3 y5 (fun(rY:b8)=>(nW aB y1 y3 y5 rY (fun(vM:az)=>(some (⟨y1,y3,rY,vM,y5,aB.cK⟩:aF))) aB.nodes 0 ([]:az))) aB.ay 0 ([]:b8)))))
def Dc(aB:aF)(y1:au)(y3:bJ)(y5:aQ)(W0:List aR)(cS:Int):St:=⟨[(1,D.ptr 0 0),(2,D.ptr 1 0),(3,D.ptr 2 0),(4,D.int .i64 cS)],[Ob.box (aF.c aB),Ob.box [D.nil,D.nil,D.nil,D.nil,D.nil,D.int .i64 0],Ob.box [D.acc 3,D.acc 4,D.acc 5,D.nil,D.acc 6,D.int .i64 aB.cK],Ob.row .uq 105 4 (y1.map aO.c),Ob.row .uq 3 1 (y3.map dZ),Ob.row .uq 111 3 W0,Ob.row .uq 53 2 (y5.map aE.c)]⟩
theorem My(hΓ:Γ.nt=75){aB:aF}{y1:au}{y3:bJ}{y5:aQ}{r:aF}{k1:b8->Option aF}(cX:∀(rY:b8),k1 rY=some r->Ax Γ N f49 (.q [[some (105,4),some (3,1),some (111,3),some (118,8),some (53,2),none]] (D.agg [D.fr 105 4 (r.rules.map aO.c),D.fr 3 1 (r.ends.map dZ),D.fr 111 3 (r.ay.map aP.c),D.fr 118 8 (r.nodes.map Node.c),D.fr 53 2 (r.facts.map aE.c),D.int .i64 r.cK])) [1,1,1] ⟨[(1,D.ptr 0 0),(2,D.ptr 1 0),(3,D.ptr 2 0)],[Ob.box (aF.c aB),Ob.box [D.nil,D.nil,D.nil,D.nil,D.nil,D.int .i64 0],Ob.box [D.acc 3,D.acc 4,D.acc 5,D.nil,D.acc 6,D.int .i64 aB.cK],Ob.row .uq 105 4 (y1.map aO.c),Ob.row .uq 3 1 (y3.map dZ),Ob.row .uq 111 3 (rY.map aP.c),Ob.row .uq 53 2 (y5.map aE.c)]⟩)(hm1:aB.ay.length<=maxLen):∀(rest:b8) (i1:Nat) (qK:b8),aB.ay.drop i1=rest->nV aB y1 y3 y5 k1 rest i1 qK=some r->Ar Γ N f49 (.q [[some (105,4),some (3,1),some (111,3),some (118,8),some (53,2),none]] (D.agg [D.fr 105 4 (r.rules.map aO.c),D.fr 3 1 (r.ends.map dZ),D.fr 111 3 (r.ay.map aP.c),D.fr 118 8 (r.nodes.map Node.c),D.fr 53 2 (r.facts.map aE.c),D.int .i64 r.cK])) [1,1,0,1,0] (rest.length+1) (Dc aB y1 y3 y5 (qK.map aP.c) (i1:Int)):=by
 intro rest
 induction rest with
 |nil=>
  intro i1 qK aq h;rw[nV]at h;refine aM fun N1 bu bq=>?_
  exact((aU.ge aP.c aq).a [.hl 0 [1,2,3] [0,1,2,3,4,5,6]]).ex hΓ bu (cX qK h)
 |cons bD bn ih1=>
  intro i1 qK aq h;rw[nV]at h;refine aM fun N1 bu bq=>?_
  obtain⟨M3,h74,h⟩:=aD h;obtain⟨y75,h76,h⟩:=aD h;obtain⟨h77,h⟩:=bX h;exact((((((((aU.lt aP.c aq).a [.n2 [0,1,2,3,4,5,6,7,8,9,10,11,12,13,14,15,16,17,18,19,20] [0,1,2,3,4,5,6,7,8,9,10,11,12,13,14,15,16,17,18,19,20] 17 18 [0,1] [7,8]]).l (ax aP.c 3 (dc aq) rfl)).g (wU h74)).l (ax aP.c 3 (dc aq) rfl)).g (iv h76)).w (cG h77)).a [.cn [1,2,3,4] [0,1,2,3,4,10,6]]).cs hΓ bq (Dc aB y1 y3 y5 ((qK.map aP.c)++([[D.str M3.rel,D.sl (M3.args.map tx),D.sl (y75.map aE.c)]])) (IntKind.i64.wrap ((i1:Int)+1))) (by first| (simp only[iS aq hm1,mA]<;>rfl)| (simp only[iS aq hm1,mA,aE.c,aS.c,aN.c,Action.c,aO.c,aJ.c,cx.c,aP.c,Node.c,aF.c,cy.c]<;>rfl)) (ih1 (i1+1) (qK++([(⟨M3,y75⟩:aP)])) (dn aq) h)
def Dd(aB:aF)(y1:au)(y3:bJ)(y5:aQ)(rY:b8)(W0:List aR)(cS:Int):St:=⟨[(1,D.ptr 0 0),(2,D.ptr 1 0),(3,D.ptr 2 0),(5,D.int .i64 cS)],[Ob.box (aF.c aB),Ob.box [D.nil,D.nil,D.nil,D.nil,D.nil,D.int .i64 0],Ob.box [D.acc 3,D.acc 4,D.acc 5,D.acc 6,D.acc 7,D.int .i64 aB.cK],Ob.row .uq 105 4 (y1.map aO.c),Ob.row .uq 3 1 (y3.map dZ),Ob.row .uq 111 3 (rY.map aP.c),Ob.row .uq 118 8 W0,Ob.row .uq 53 2 (y5.map aE.c)]⟩
theorem Mz(hΓ:Γ.nt=75){aB:aF}{y1:au}{y3:bJ}{y5:aQ}{rY:b8}{r:aF}{k2:az->Option aF}(CV:∀(vM:az),k2 vM=some r->Ax Γ N f49 (.q [[some (105,4),some (3,1),some (111,3),some (118,8),some (53,2),none]] (D.agg [D.fr 105 4 (r.rules.map aO.c),D.fr 3 1 (r.ends.map dZ),D.fr 111 3 (r.ay.map aP.c),D.fr 118 8 (r.nodes.map Node.c),D.fr 53 2 (r.facts.map aE.c),D.int .i64 r.cK])) [1,1,1,1] ⟨[(2,D.ptr 0 0),(3,D.ptr 1 0)],[Ob.box [D.nil,D.nil,D.nil,D.nil,D.nil,D.int .i64 0],Ob.box [D.acc 2,D.acc 3,D.acc 4,D.acc 5,D.acc 6,D.int .i64 aB.cK],Ob.row .uq 105 4 (y1.map aO.c),Ob.row .uq 3 1 (y3.map dZ),Ob.row .uq 111 3 (rY.map aP.c),Ob.row .uq 118 8 (vM.map Node.c),Ob.row .uq 53 2 (y5.map aE.c)]⟩)(hm2:aB.nodes.length<=maxLen):∀(rest:az) (i2:Nat) (wQ:az),aB.nodes.drop i2=rest->nW aB y1 y3 y5 rY k2 rest i2 wQ=some r->Ar Γ N f49 (.q [[some (105,4),some (3,1),some (111,3),some (118,8),some (53,2),none]] (D.agg [D.fr 105 4 (r.rules.map aO.c),D.fr 3 1 (r.ends.map dZ),D.fr 111 3 (r.ay.map aP.c),D.fr 118 8 (r.nodes.map Node.c),D.fr 53 2 (r.facts.map aE.c),D.int .i64 r.cK])) [1,1,1,0,1,0] (rest.length+1) (Dd aB y1 y3 y5 rY (wQ.map Node.c) (i2:Int)):=by
 intro rest
 induction rest with
 |nil=>
  intro i2 wQ hd2 h;rw[nW]at h;refine aM fun N2 xM uT=>?_
  exact((aU.ge Node.c hd2).a [.hl 0 [2,3] [1,2,3,4,5,6,7]]).ex hΓ xM (CV wQ h)
 |cons lM wF ih2=>
  intro i2 wQ hd2 h;rw[nW]at h;refine aM fun N2 xM uT=>?_
  obtain⟨Od,h139,h⟩:=aD h;obtain⟨a3J,h141,h⟩:=aD h;obtain⟨h142,h⟩:=bX h;exact(((((((aU.lt Node.c hd2).l (ax Node.c 8 (dc hd2) rfl)).a [.n2 [0,1,2,3,4,5,6,7,8,9,10,11,12,13,14,15,16] [0,1,2,3,4,5,6,7,8,9,10,11,12,13,14,15,16] 13 14 [0,1] [9,10]]).g (qF h139)).g (Cn h141)).w (cG h142)).a [.cn [1,2,3,5] [0,1,2,3,4,5,12,7]]).cs hΓ uT (Dd aB y1 y3 y5 rY ((wQ.map Node.c)++([[D.int .i64 lM.parent,D.int .i64 Od.kind,D.str Od.pat.rel,D.sl (Od.pat.args.map tx),D.str Od.left,D.str Od.right,D.int .i64 lM.cP,D.sl (a3J.map aJ.c)]])) (IntKind.i64.wrap ((i2:Int)+1))) (by first| (simp only[iS hd2 hm2,mA]<;>rfl)| (simp only[iS hd2 hm2,mA,aE.c,aS.c,aN.c,Action.c,aO.c,aJ.c,cx.c,aP.c,Node.c,aF.c,cy.c]<;>rfl)) (ih2 (i2+1) (wQ++([(⟨lM.parent,Od,lM.cP,a3J⟩:Node)])) (dn hd2) h)
theorem xg{aB:aF}{r:aF}(h:rW aB=some r):Good prog 49 [D.agg (aF.c aB)] (D.agg [D.fr 105 4 (r.rules.map aO.c),D.fr 3 1 (r.ends.map dZ),D.fr 111 3 (r.ay.map aP.c),D.fr 118 8 (r.nodes.map Node.c),D.fr 53 2 (r.facts.map aE.c),D.int .i64 r.cK]):=by
 refine gd func49 [[some (105,4),some (3,1),some (111,3),some (118,8),some (53,2),none]] 75 fun hr Γ hΓ=>?_
 rw[rW]at h;obtain⟨y1,h2,h⟩:=aD h;obtain⟨y3,h4,h⟩:=aD h;obtain⟨y5,h6,h⟩:=aD h;refine(((((aU.a [.n 13]).g (zu h2)).g (LW h4)).g (iv h6)).a [.pb 5 2 111 3,.cn [1,2,3,4] [0,1,5,2,3,6,4]]).lp hΓ (My hΓ (fun rY h=>?_) (by have:=(dS.sl (dS.agg (hr _ (aC (i:=0) rfl)) (.sl (aB.ay.map aP.c)) (by simp))).1;simpa using this) aB.ay 0 ([]:b8) rfl h);refine(aU.a [.pb 2 3 118 8,.cn [1,2,3,5] [0,1,2,3,4,5,7,6]]).lp hΓ (Mz hΓ (fun vM h=>?_) (by have:=(dS.sl (dS.agg (hr _ (aC (i:=0) rfl)) (.sl (aB.nodes.map Node.c)) (by simp))).1;simpa using this) aB.nodes 0 ([]:az) rfl h);cases h;exact aU.ret hΓ
def lB(aB:Int)(aV:Int)(cV:Int):Option Bool:=(bif decide ((aB:Int)>=aV)then(some (decide ((aB:Int)<=cV)))else(some false))
theorem fo{aB:Int}{aV:Int}{cV:Int}{r:Bool}(h:lB aB aV cV=some r):Good prog 155 [D.int .i64 aB,D.int .i64 aV,D.int .i64 cV] (D.bool r):=by
 refine gd func155 [[none]] 15 fun hr Γ hΓ=>?_
 rw[lB]at h;obtain⟨h1,h⟩|⟨h1,h⟩:=aL h
 ·cases h;exact(aU.r 4 h1).ret hΓ
 ·have h:=aG h;subst h;exact(aU.r 4 h1).ret hΓ
def jG(aB:Bytes)(k1:Option Bool):Nat->Int->Option Bool
 |0,_=>none
 |n1+1,nc=>(bif decide ((nc:Int)<(aB.length:Int))then((mC aB nc).bind fun b29=>((lB (IntKind.i64.wrap b29.toNat) 97 122).bind fun Yk=>(bif !(Yk)then((lB (IntKind.i64.wrap b29.toNat) 48 57).bind fun Fy=>(bif !(Fy)then(some false)else(jG aB k1 n1 (IntKind.i64.wrap (nc+1)))))else(jG aB k1 n1 (IntKind.i64.wrap (nc+1))))))else(k1))
def fL(aB:Bytes):Option Bool:=(jG aB ((lB (aB.length:Int) 1 8).bind fun Xh=>(some Xh)) fuel 0)
def O6(aB:Bytes)(nc:Int):St:=⟨[(0,D.str aB),(3,D.int .i64 nc)],[]⟩
theorem Mg(hΓ:Γ.nt=27){aB:Bytes}{r:Bool}{k1:Option Bool}(cX:k1=some r->Ax Γ N f206 (.q [[none]] (D.bool r)) [1,1] ⟨[(0,D.str aB)],[]⟩):∀(n1:Nat) (nc:Int),jG aB k1 n1 nc=some r->Ar Γ N f206 (.q [[none]] (D.bool r)) [1,0,1,0] n1 (O6 aB nc):=by
 intro n
 induction n with
 |zero=>intro nc h;simp[jG]at h
 |succ n1 ih1=>
  intro nc h;rw[jG]at h;refine aM fun N1 bu bq=>?_
  obtain⟨h28,h⟩|⟨h28,h⟩:=aL h
  ·obtain⟨b29,h30,h⟩:=aD h;obtain⟨Yk,h32,h⟩:=aD h;have kT:=(((aU.b h28).c h30).g (fo h32))
   obtain⟨h33,h⟩|⟨h33,h⟩:=aL h
   ·obtain⟨Fy,h35,h⟩:=aD h;have jN:=(((((kT.r 3 h33).c h30).r 2 h33).g (fo h35)).r 2 h33)
    obtain⟨h36,h⟩|⟨h36,h⟩:=aL h
    ·have h:=aG h;subst h;exact(jN.b h36).ret hΓ
    ·exact((jN.b h36).a [.cn [0,3] []]).cf hΓ bq (ih1 (IntKind.i64.wrap (nc+1)) h)
   ·exact(((kT.r 7 h33).F 1).a [.cn [0,3] []]).cf hΓ bq (ih1 (IntKind.i64.wrap (nc+1)) h)
  ·exact((aU.b h28).a [.hl 0 [0] []]).ex hΓ bu (cX h)
theorem eW{aB:Bytes}{r:Bool}(h:fL aB=some r):Good prog 206 [D.str aB] (D.bool r):=by
 refine gd func206 [[none]] 27 fun hr Γ hΓ=>?_
 rw[fL]at h;refine(aU.a [.cn [0,3] []]).lp hΓ (Mg hΓ (fun h=>?_) fuel 0 h);obtain⟨Xh,h38,h⟩:=aD h;have h:=aG h;subst h;exact(aU.g (fo h38)).ret hΓ
def rR(aB:Bytes):Option Bool:=((fL aB).bind fun y1=>(bif y1 then((mC aB 0).bind fun b4=>((lB (IntKind.i64.wrap b4.toNat) 97 122).bind fun y6=>(some y6)))else(some false)))
theorem nL{aB:Bytes}{r:Bool}(h:rR aB=some r):Good prog 207 [D.str aB] (D.bool r):=by
 refine gd func207 [[none]] 11 fun hr Γ hΓ=>?_
 rw[rR]at h;obtain⟨y1,h2,h⟩:=aD h;obtain⟨h3,h⟩|⟨h3,h⟩:=aL h
 ·obtain⟨b4,h5,h⟩:=aD h;obtain⟨y6,h7,h⟩:=aD h;have h:=aG h;subst h;exact((((((aU.g (eW h2)).r 2 h3).c h5).r 2 h3).g (fo h7)).b h3).ret hΓ
 ·have h:=aG h;subst h;exact((aU.g (eW h2)).r 5 h3).ret hΓ
def pY(aB:aE)(k1:Option Bool):aI->Nat->Option Bool
 | [],i1=>(k1)
 |bD::bn,i1=>((fL bD).bind fun RE=>(bif !(RE)then(some false)else(pY aB k1 bn (i1+1))))
def rQ(aB:aE):Option Bool:=(pY aB ((rR aB.rel).bind fun Rf=>(bif Rf then(some (decide ((((aB.args.map tx).length:Int):Int)<=3)))else(some false))) aB.args 0)
def O7(aB:aE)(cS:Int):St:=⟨[(1,D.ptr 0 0),(3,D.int .i64 cS)],[Ob.box (aE.c aB)]⟩
theorem Mh(hΓ:Γ.nt=27){aB:aE}{r:Bool}{k1:Option Bool}(cX:k1=some r->Ax Γ N f138 (.q [[none]] (D.bool r)) [1,1] ⟨[(1,D.ptr 0 0)],[Ob.box (aE.c aB)]⟩)(hm1:aB.args.length<=maxLen):∀(rest:aI) (i1:Nat),aB.args.drop i1=rest->pY aB k1 rest i1=some r->Ar Γ N f138 (.q [[none]] (D.bool r)) [1,0,1,0] (rest.length+1) (O7 aB (i1:Int)):=by
 intro rest
 induction rest with
 |nil=>
  intro i1 aq h;rw[pY]at h;refine aM fun N1 bu bq=>?_
  exact((aU.ge tx aq).a [.hl 0 [1] [0]]).ex hΓ bu (cX h)
 |cons bD bn ih1=>
  intro i1 aq h;rw[pY]at h;refine aM fun N1 bu bq=>?_
  obtain⟨RE,h22,h⟩:=aD h;have dJ:=(((aU.lt tx aq).l (ax tx 1 (dc aq) rfl)).g (eW h22))
  obtain⟨h23,h⟩|⟨h23,h⟩:=aL h
  ·have h:=aG h;subst h;exact(dJ.b h23).ret hΓ
  ·exact((dJ.b h23).a [.cn [1,3] [0]]).ct hΓ bq (iS aq hm1) (ih1 (i1+1) (dn aq) h)
theorem Bp{aB:aE}{r:Bool}(h:rQ aB=some r):Good prog 138 [D.agg (aE.c aB)] (D.bool r):=by
 refine gd func138 [[none]] 27 fun hr Γ hΓ=>?_
 rw[rQ]at h;refine(aU.a [.cn [1,3] [0]]).lp hΓ (Mh hΓ (fun h=>?_) (by have:=(dS.sl (dS.agg (hr _ (aC (i:=0) rfl)) (.sl (aB.args.map tx)) (by simp))).1;simpa using this) aB.args 0 rfl h);obtain⟨Rf,h25,h⟩:=aD h;obtain⟨h26,h⟩|⟨h26,h⟩:=aL h
 ·cases h;exact((aU.g (nL h25)).r 5 h26).ret hΓ
 ·have h:=aG h;subst h;exact((aU.g (nL h25)).r 5 h26).ret hΓ
def tV(aB:Bytes)(aV:Bytes):Option Int:=(bif Op.bytesLess aB aV then(some (-1))else(bif !(Op.bytesLess aB aV||(aB:Bytes)==aV)then(some 1)else(some 0)))
theorem yZ{aB:Bytes}{aV:Bytes}{r:Int}(h:tV aB aV=some r):Good prog 208 [D.str aB,D.str aV] (D.int .i64 r):=by
 refine gd func208 [[none]] 13 fun hr Γ hΓ=>?_
 rw[tV]at h;obtain⟨h1,h⟩|⟨h1,h⟩:=aL h
 ·cases h;exact(aU.b h1).ret hΓ
 ·obtain⟨h2,h⟩|⟨h2,h⟩:=aL h
  ·have h:=aG h;subst h;exact((aU.b h1).b h2).ret hΓ
  ·have h:=aG h;subst h;exact((aU.b h1).b h2).ret hΓ
def iD(k1:Option Bytes):Nat->Int->Bytes->Option Bytes
 |0,_,_=>none
 |n1+1,wq,nc=>(bif decide (0<=(wq:Int))&&decide (0<(10:Int))then(bif decide (([UInt8.ofNat (IntKind.u8.wrap (IntKind.i64.wrap (48+((wq:Int)%10)))).toNat]:Bytes).length+(nc:Bytes).length<=maxLen)then(bif decide (0<=(wq:Int))&&decide (0<(10:Int))then(bif ((wq:Int)/10:Int)==0 then(some (([UInt8.ofNat (IntKind.u8.wrap (IntKind.i64.wrap (48+((wq:Int)%10)))).toNat])++nc))else(iD k1 n1 ((wq:Int)/10) (([UInt8.ofNat (IntKind.u8.wrap (IntKind.i64.wrap (48+((wq:Int)%10)))).toNat])++nc)))else none)else none)else none)
def gR:Nat->Int->Option Bytes
 |0,_=>none
 |m_+1,aB=>(bif (aB:Int)==(-9223372036854775808)then(some ([45,57,50,50,51,51,55,50,48,51,54,56,53,52,55,55,53,56,48,56]))else(bif decide ((aB:Int)<0)then((gR m_ (IntKind.i64.wrap (0-aB))).bind fun y3=>(bif decide (([45]:Bytes).length+(y3:Bytes).length<=maxLen)then(some (([45])++y3))else none))else(iD none fuel aB ([]))))
def Fb(wq:Int)(nc:Bytes):St:=⟨[(0,D.int .i64 wq),(3,D.str nc)],[]⟩
theorem ET(hΓ:Γ.nt=25){r:Bytes}{k1:Option Bytes}(cX:k1=some r->Ax Γ N f235 (.q [[none]] (D.str r)) [1,1,1,1,0,0] ⟨[],[]⟩):∀(n1:Nat) (wq:Int) (nc:Bytes),iD k1 n1 wq nc=some r->Ar Γ N f235 (.q [[none]] (D.str r)) [1,1,1,1,0] n1 (Fb wq nc):=by
 intro n
 induction n with
 |zero=>intro wq nc h;simp[iD]at h
 |succ n1 ih1=>
  intro wq nc h;rw[iD]at h;refine aM fun N1 bu bq=>?_
  obtain⟨h14,h⟩:=bX h;obtain⟨h15,h⟩:=bX h;obtain⟨h16,h⟩:=bX h;have dJ:=(((aU.w (TZ .i64 h14)).w (bt h15)).w (TZ .i64 h16))
  obtain⟨h17,h⟩|⟨h17,h⟩:=aL h
  ·cases h;exact(dJ.b h17).rts hΓ (D.str (([UInt8.ofNat (IntKind.u8.wrap (IntKind.i64.wrap (48+((wq:Int)%10)))).toNat])++nc)) (by first|rfl| (simp only[mA]<;>rfl))
  ·exact((dJ.b h17).a [.cn [0,3] []]).cf hΓ bq (ih1 ((wq:Int)/10) (([UInt8.ofNat (IntKind.u8.wrap (IntKind.i64.wrap (48+((wq:Int)%10)))).toNat])++nc) h)
theorem DU{m_:Nat}(ihR:∀ {aB:Int} {r:Bytes},gR m_ aB=some r->Good prog 235 [D.int .i64 aB] (D.str r)){aB:Int}{r:Bytes}(h:gR (m_+1) aB=some r):Good prog 235 [D.int .i64 aB] (D.str r):=by
 refine gd func235 [[none]] 25 fun hr Γ hΓ=>?_
 rw[gR]at h;obtain⟨h1,h⟩|⟨h1,h⟩:=aL h
 ·cases h;exact(aU.b h1).ret hΓ
 ·obtain⟨h2,h⟩|⟨h2,h⟩:=aL h
  ·obtain⟨y3,h4,h⟩:=aD h;obtain⟨h5,h⟩:=bX h;cases h;exact((((aU.b h1).b h2).g (ihR h4)).w (bt h5)).rts hΓ (D.str (([45])++y3)) (by first|rfl| (simp only[mA]<;>rfl))
  ·refine(((aU.b h1).b h2).a [.cn [0,3] []]).lp hΓ (ET hΓ (fun h=>?_) fuel aB ([]) h);cases h
theorem xw:∀(m_:Nat) {aB:Int} {r:Bytes},gR m_ aB=some r->Good prog 235 [D.int .i64 aB] (D.str r)
 |0,_,_,h=>by cases h
 |m_+1,_,_,h=>DU (fun h=>xw m_ h) h
def pX(aB:Int):Option Bytes:=gR fuel aB
theorem vJ{aB:Int}{r:Bytes}(h:pX aB=some r):Good prog 235 [D.int .i64 aB] (D.str r):=xw fuel h
def ic(aB:Bytes)(k1:Int->Option (Int×Bool)):Nat->Int->Int->Option (Int×Bool)
 |0,_,_=>none
 |n1+1,RA,RC=>(bif decide ((RC:Int)<(aB.length:Int))then((mC aB RC).bind fun b25=>(bif decide ((b25.toNat:Int)<48)then(some (0,false))else(bif decide ((b25.toNat:Int)>57)then(some (0,false))else(ic aB k1 n1 (IntKind.i64.wrap ((IntKind.i64.wrap (10*RA))+(IntKind.i64.wrap (IntKind.u8.wrap (b25.toNat-48))))) (IntKind.i64.wrap (RC+1))))))else(k1 RA))
def oX(aB:Bytes):Option (Int×Bool):=((lB (aB.length:Int) 1 4).bind fun y1=>(bif !(y1)then(some (0,false))else(ic aB (fun(a0I:Int)=>((pX a0I).bind fun I4=>(bif !((I4:Bytes)==aB)then(some (0,false))else(some (a0I,true))))) fuel 0 0)))
def LN(aB:Bytes)(RA:Int)(RC:Int):St:=⟨[(0,D.str aB),(4,D.int .i64 RA),(5,D.int .i64 RC)],[]⟩
theorem JZ(hΓ:Γ.nt=39){aB:Bytes}{r:Int×Bool}{k1:Int->Option (Int×Bool)}(cX:∀(a0I:Int),k1 a0I=some r->Ax Γ N f260 (.q [[none],[none]] (D.gb [D.int .i64 r.1,D.bool r.2])) [1,1,1,1] ⟨[(0,D.str aB),(4,D.int .i64 a0I)],[]⟩):∀(n1:Nat) (RA:Int) (RC:Int),ic aB k1 n1 RA RC=some r->Ar Γ N f260 (.q [[none],[none]] (D.gb [D.int .i64 r.1,D.bool r.2])) [1,1,1,0,1,0] n1 (LN aB RA RC):=by
 intro n
 induction n with
 |zero=>intro RA RC h;simp[ic]at h
 |succ n1 ih1=>
  intro RA RC h;rw[ic]at h;refine aM fun N1 bu bq=>?_
  obtain⟨h24,h⟩|⟨h24,h⟩:=aL h
  ·obtain⟨b25,h26,h⟩:=aD h;have kT:=((aU.b h24).c h26)
   obtain⟨h27,h⟩|⟨h27,h⟩:=aL h
   ·cases h;exact((kT.r 5 h27).T 1).ret hΓ
   ·have jN:=(((kT.r 3 h27).c h26).r 2 h27)
    obtain⟨h28,h⟩|⟨h28,h⟩:=aL h
    ·cases h;exact(jN.b h28).ret hΓ
    ·exact(((jN.b h28).c h26).a [.cn [0,4,5] []]).cf hΓ bq (ih1 (IntKind.i64.wrap ((IntKind.i64.wrap (10*RA))+(IntKind.i64.wrap (IntKind.u8.wrap (b25.toNat-48))))) (IntKind.i64.wrap (RC+1)) h)
  ·exact((aU.b h24).a [.hl 0 [0,4] []]).ex hΓ bu (cX RA h)
theorem w5{aB:Bytes}{r:Int×Bool}(h:oX aB=some r):Good prog 260 [D.str aB] (D.gb [D.int .i64 r.1,D.bool r.2]):=by
 refine gd func260 [[none],[none]] 39 fun hr Γ hΓ=>?_
 rw[oX]at h;obtain⟨y1,h2,h⟩:=aD h;obtain⟨h3,h⟩|⟨h3,h⟩:=aL h
 ·cases h;exact((aU.g (fo h2)).b h3).ret hΓ
 ·refine(((aU.g (fo h2)).b h3).a [.cn [0,4,5] []]).lp hΓ (JZ hΓ (fun a0I h=>?_) fuel 0 0 h);obtain⟨I4,h30,h⟩:=aD h;obtain⟨h31,h⟩|⟨h31,h⟩:=aL h
  ·cases h;exact((aU.g (vJ h30)).b h31).ret hΓ
  ·cases h;exact((aU.g (vJ h30)).b h31).ret hΓ
def ja(aB:Bytes)(aV:Bytes):Option Int:=((oX aB).bind fun y1=>((oX aV).bind fun y3=>(bif y1.2 then(bif y3.2 then(bif decide ((y1.1:Int)<y3.1)then(some (-1))else(bif !(y3.2)then(some (-1))else(bif decide ((y1.1:Int)>y3.1)then(some 1)else(bif !(y1.2)then(some 1)else(some 0)))))else(bif !(y3.2)then(some (-1))else(some 0)))else(bif y3.2 then(bif !(y1.2)then(some 1)else((tV aB aV).bind fun U6=>(some U6)))else((tV aB aV).bind fun y16=>(some y16))))))
theorem xF{aB:Bytes}{aV:Bytes}{r:Int}(h:ja aB aV=some r):Good prog 209 [D.str aB,D.str aV] (D.int .i64 r):=by
 refine gd func209 [[none]] 54 fun hr Γ hΓ=>?_
 rw[ja]at h;obtain⟨y1,h2,h⟩:=aD h;obtain⟨y3,h4,h⟩:=aD h;have jz:=((aU.g (w5 h2)).g (w5 h4))
 obtain⟨h5,h⟩|⟨h5,h⟩:=aL h
 ·have dJ:=(jz.r 2 h5)
  obtain⟨h6,h⟩|⟨h6,h⟩:=aL h
  ·have kT:=(dJ.r 4 h6)
   obtain⟨h7,h⟩|⟨h7,h⟩:=aL h
   ·cases h;exact(kT.r 2 h7).ret hΓ
   ·have jN:=((kT.b h7).r 3 h5)
    obtain⟨h8,h⟩|⟨h8,h⟩:=aL h
    ·cases h;exact(jN.b h8).ret hΓ
    ·have uY:=(((jN.b h8).r 2 h5).r 4 h6)
     obtain⟨h9,h⟩|⟨h9,h⟩:=aL h
     ·have h:=aG h;subst h;exact(uY.r 2 h9).ret hΓ
     ·have wX:=((uY.b h9).r 3 h6)
      obtain⟨h10,h⟩|⟨h10,h⟩:=aL h
      ·have h:=aG h;subst h;exact(wX.b h10).ret hΓ
      ·have h:=aG h;subst h;exact((wX.b h10).b h5).ret hΓ
  ·have AG:=(((dJ.r 4 h6).F 1).r 3 h5)
   obtain⟨h11,h⟩|⟨h11,h⟩:=aL h
   ·cases h;exact(AG.b h11).ret hΓ
   ·have h:=aG h;subst h;exact(((((((AG.b h11).r 2 h5).r 4 h6).F 1).r 3 h6).F 1).b h5).ret hΓ
 ·have D3:=((((((jz.r 2 h5).F 5).r 3 h5).F 1).r 2 h5).F 5)
  obtain⟨h12,h⟩|⟨h12,h⟩:=aL h
  ·have Hw:=(D3.r 3 h12)
   obtain⟨h13,h⟩|⟨h13,h⟩:=aL h
   ·have h:=aG h;subst h;exact(Hw.b h13).ret hΓ
   ·obtain⟨U6,h15,h⟩:=aD h;have h:=aG h;subst h;exact(((Hw.b h13).b h5).g (yZ h15)).ret hΓ
  ·obtain⟨y16,h17,h⟩:=aD h;have h:=aG h;subst h;exact((((D3.r 3 h12).F 1).b h5).g (yZ h17)).ret hΓ
def jF(aB:aE)(aV:aE)(k1:Option Int):aI->Nat->Option Int
 | [],i1=>(k1)
 |bD::bn,i1=>(bif decide (((i1:Int):Int)<((aV.args.map tx).length:Int))then((mC aV.args (i1:Int)).bind fun x37=>((ja bD x37).bind fun RF=>(bif (RF:Int) != 0 then(some RF)else(jF aB aV k1 bn (i1+1)))))else(k1))
def hG(aB:aE)(aV:aE):Option Int:=(bif !((aB.rel:Bytes)==aV.rel)then((tV aB.rel aV.rel).bind fun y2=>(some y2))else(jF aB aV (bif decide ((((aB.args.map tx).length:Int):Int)<((aV.args.map tx).length:Int))then(some (-1))else(bif decide ((((aB.args.map tx).length:Int):Int)>((aV.args.map tx).length:Int))then(some 1)else(some 0))) aB.args 0))
def ER(aB:aE)(aV:aE)(cS:Int):St:=⟨[(2,D.ptr 0 0),(3,D.ptr 1 0),(5,D.int .i64 cS)],[Ob.box (aE.c aB),Ob.box (aE.c aV)]⟩
theorem DQ(hΓ:Γ.nt=61){aB:aE}{aV:aE}{r:Int}{k1:Option Int}(cX:k1=some r->Ax Γ N f139 (.q [[none]] (D.int .i64 r)) [1,1,1] ⟨[(2,D.ptr 0 0),(3,D.ptr 1 0)],[Ob.box (aE.c aB),Ob.box (aE.c aV)]⟩)(hm1:aB.args.length<=maxLen):∀(rest:aI) (i1:Nat),aB.args.drop i1=rest->jF aB aV k1 rest i1=some r->Ar Γ N f139 (.q [[none]] (D.int .i64 r)) [1,1,0,1,0] (rest.length+1) (ER aB aV (i1:Int)):=by
 intro rest
 induction rest with
 |nil=>
  intro i1 aq h;rw[jF]at h;refine aM fun N1 bu bq=>?_
  exact((((((((aU.ge tx aq).ge tx aq).ge tx aq).ge tx aq).ge tx aq).ge tx aq).F 1).a [.hl 0 [2,3] [0,1]]).ex hΓ bu (cX h)
 |cons bD bn ih1=>
  intro i1 aq h;rw[jF]at h;refine aM fun N1 bu bq=>?_
  have kT:=((((((aU.lt tx aq).lt tx aq).lt tx aq).lt tx aq).lt tx aq).lt tx aq)
  obtain⟨h36,h⟩|⟨h36,h⟩:=aL h
  ·obtain⟨x37,h38,h⟩:=aD h;obtain⟨RF,h40,h⟩:=aD h;have jN:=(((((kT.b h36).a [.n 10]).l (ax tx 1 (dc aq) rfl)).l (dV tx 1 h38 rfl)).g (xF h40))
   obtain⟨h41,h⟩|⟨h41,h⟩:=aL h
   ·have h:=aG h;subst h;exact(jN.b h41).ret hΓ
   ·exact((jN.b h41).a [.cn [2,3,5] [0,1]]).ct hΓ bq (iS aq hm1) (ih1 (i1+1) (dn aq) h)
  ·exact((kT.b h36).a [.hl 0 [2,3] [0,1]]).ex hΓ bu (cX h)
theorem xG{aB:aE}{aV:aE}{r:Int}(h:hG aB aV=some r):Good prog 139 [D.agg (aE.c aB),D.agg (aE.c aV)] (D.int .i64 r):=by
 refine gd func139 [[none]] 61 fun hr Γ hΓ=>?_
 rw[hG]at h;obtain⟨h1,h⟩|⟨h1,h⟩:=aL h
 ·obtain⟨y2,h3,h⟩:=aD h;have h:=aG h;subst h;exact((aU.b h1).g (yZ h3)).ret hΓ
 ·refine((aU.b h1).a [.cn [2,3,5] [0,1]]).lp hΓ (DQ hΓ (fun h=>?_) (by have:=(dS.sl (dS.agg (hr _ (aC (i:=0) rfl)) (.sl (aB.args.map tx)) (by simp))).1;simpa using this) aB.args 0 rfl h);obtain⟨h42,h⟩|⟨h42,h⟩:=aL h
  ·cases h;exact(aU.b h42).ret hΓ
  ·obtain⟨h43,h⟩|⟨h43,h⟩:=aL h
   ·have h:=aG h;subst h;exact((aU.b h42).b h43).ret hΓ
   ·have h:=aG h;subst h;exact((aU.b h42).b h43).ret hΓ
def kK(aB:aQ)(k1:Option Bool):aQ->Nat->Option Bool
 | [],i1=>(k1)
 |bD::bn,i1=>((rQ bD).bind fun D2=>(bif !(D2)then(some false)else(bif decide (((i1:Int):Int)>0)then((mC aB (IntKind.i64.wrap ((i1:Int)-1))).bind fun x49=>((hG x49 bD).bind fun y51=>(bif decide ((y51:Int)>=0)then(some false)else(kK aB k1 bn (i1+1)))))else(kK aB k1 bn (i1+1)))))
def qg(aB:aQ):Option Bool:=(kK aB (some (decide ((((aB.map aE.c).length:Int):Int)<=24))) aB 0)
def LH(aB:aQ)(cS:Int):St:=⟨[(0,D.sl (aB.map aE.c)),(3,D.int .i64 cS)],[]⟩
theorem JO(hΓ:Γ.nt=36){aB:aQ}{r:Bool}{k1:Option Bool}(cX:k1=some r->Ax Γ N f80 (.q [[none]] (D.bool r)) [1,1] ⟨[(0,D.sl (aB.map aE.c))],[]⟩)(hm1:aB.length<=maxLen):∀(rest:aQ) (i1:Nat),aB.drop i1=rest->kK aB k1 rest i1=some r->Ar Γ N f80 (.q [[none]] (D.bool r)) [1,0,1,0] (rest.length+1) (LH aB (i1:Int)):=by
 intro rest
 induction rest with
 |nil=>
  intro i1 aq h;rw[kK]at h;refine aM fun N1 bu bq=>?_
  exact((aU.ge aE.c aq).a [.hl 0 [0] []]).ex hΓ bu (cX h)
 |cons bD bn ih1=>
  intro i1 aq h;rw[kK]at h;refine aM fun N1 bu bq=>?_
  obtain⟨D2,h46,h⟩:=aD h;have jN:=((((aU.lt aE.c aq).a [.n 19]).l (ax aE.c 2 (dc aq) rfl)).g (Bp h46))
  obtain⟨h47,h⟩|⟨h47,h⟩:=aL h
  ·have h:=aG h;subst h;exact((((jN.r 3 h47).a [bF,bF,bF,bF,bF,bF,bF,bF,bF,bF,bF]).r 2 h47).T 1).ret hΓ
  ·have uY:=(jN.r 3 h47)
   obtain⟨h48,h⟩|⟨h48,h⟩:=aL h
   ·obtain⟨x49,h50,h⟩:=aD h;obtain⟨y51,h52,h⟩:=aD h;have wX:=((((((((((uY.r 4 h48).l (dV aE.c 2 h50 rfl)).r 4 h48).l (ax aE.c 2 (dc aq) rfl)).r 2 h48).g (xG h52)).b h48).b h47).b h48).b h47)
    obtain⟨h53,h⟩|⟨h53,h⟩:=aL h
    ·have h:=aG h;subst h;exact(wX.b h53).ret hΓ
    ·exact((wX.b h53).a [.cn [0,3] []]).ct hΓ bq (iS aq hm1) (ih1 (i1+1) (dn aq) h)
   ·exact((((((uY.r 11 h48).b h47).b h48).b h47).F 1).a [.cn [0,3] []]).ct hΓ bq (iS aq hm1) (ih1 (i1+1) (dn aq) h)
theorem vz{aB:aQ}{r:Bool}(h:qg aB=some r):Good prog 80 [D.sl (aB.map aE.c)] (D.bool r):=by
 refine gd func80 [[none]] 36 fun hr Γ hΓ=>?_
 rw[qg]at h;refine(aU.a [.cn [0,3] []]).lp hΓ (JO hΓ (fun h=>?_) (by have:=(dS.sl (hr _ (aC (i:=0) rfl))).1;simpa using this) aB 0 rfl h);cases h;exact aU.ret hΓ
def js(aB:aI)(aV:aI)(k1:Option Bool):aI->Nat->Option Bool
 | [],i1=>(k1)
 |bD::bn,i1=>((mC aV (i1:Int)).bind fun x22=>(bif !((bD:Bytes)==x22)then(some false)else(js aB aV k1 bn (i1+1))))
def nP(aB:aI)(aV:aI):Option Bool:=(bif (((aB.map tx).length:Int):Int) != ((aV.map tx).length:Int)then(some false)else(js aB aV (some true) aB 0))
def Fk(aB:aI)(aV:aI)(cS:Int):St:=⟨[(0,D.sl (aB.map tx)),(1,D.sl (aV.map tx)),(5,D.int .i64 cS)],[]⟩
theorem EX(hΓ:Γ.nt=26){aB:aI}{aV:aI}{r:Bool}{k1:Option Bool}(cX:k1=some r->Ax Γ N f224 (.q [[none]] (D.bool r)) [1,1,1] ⟨[],[]⟩)(hm1:aB.length<=maxLen):∀(rest:aI) (i1:Nat),aB.drop i1=rest->js aB aV k1 rest i1=some r->Ar Γ N f224 (.q [[none]] (D.bool r)) [1,1,0,1,0] (rest.length+1) (Fk aB aV (i1:Int)):=by
 intro rest
 induction rest with
 |nil=>
  intro i1 aq h;rw[js]at h;refine aM fun N1 bu bq=>?_
  exact((aU.ge tx aq).a [.hl 0 [] []]).ex hΓ bu (cX h)
 |cons bD bn ih1=>
  intro i1 aq h;rw[js]at h;refine aM fun N1 bu bq=>?_
  obtain⟨x22,h23,h⟩:=aD h;have dJ:=((((aU.lt tx aq).a [.n 8]).l (ax tx 1 (dc aq) rfl)).l (dV tx 1 h23 rfl))
  obtain⟨h24,h⟩|⟨h24,h⟩:=aL h
  ·have h:=aG h;subst h;exact(dJ.b h24).ret hΓ
  ·exact((dJ.b h24).a [.cn [0,1,5] []]).ct hΓ bq (iS aq hm1) (ih1 (i1+1) (dn aq) h)
theorem xz{aB:aI}{aV:aI}{r:Bool}(h:nP aB aV=some r):Good prog 224 [D.sl (aB.map tx),D.sl (aV.map tx)] (D.bool r):=by
 refine gd func224 [[none]] 26 fun hr Γ hΓ=>?_
 rw[nP]at h;obtain⟨h1,h⟩|⟨h1,h⟩:=aL h
 ·have h:=aG h;subst h;exact(aU.b h1).ret hΓ
 ·refine((aU.b h1).a [.cn [0,1,5] []]).lp hΓ (EX hΓ (fun h=>?_) (by have:=(dS.sl (hr _ (aC (i:=0) rfl))).1;simpa using this) aB 0 rfl h);have h:=aG h;subst h;exact aU.ret hΓ
def pH(aB:aE)(aV:aE):Option Bool:=(bif (aB.rel:Bytes)==aV.rel then((nP aB.args aV.args).bind fun y2=>(some y2))else(some false))
theorem xe{aB:aE}{aV:aE}{r:Bool}(h:pH aB aV=some r):Good prog 150 [D.agg (aE.c aB),D.agg (aE.c aV)] (D.bool r):=by
 refine gd func150 [[none]] 17 fun hr Γ hΓ=>?_
 rw[pH]at h;obtain⟨h1,h⟩|⟨h1,h⟩:=aL h
 ·obtain⟨y2,h3,h⟩:=aD h;have h:=aG h;subst h;exact(((aU.r 5 h1).g (xz h3)).b h1).ret hΓ
 ·have h:=aG h;subst h;exact(aU.r 6 h1).ret hΓ
def kM(aB:aQ)(aV:aE)(k1:Option Int):aQ->Nat->Option Int
 | [],i1=>(k1)
 |bD::bn,i1=>((pH bD aV).bind fun RE=>(bif RE then(some (i1:Int))else(kM aB aV k1 bn (i1+1))))
def uK(aB:aQ)(aV:aE):Option Int:=(kM aB aV (some (-1)) aB 0)
def LK(aB:aQ)(aV:aE)(cS:Int):St:=⟨[(0,D.sl (aB.map aE.c)),(3,D.ptr 0 0),(5,D.int .i64 cS)],[Ob.box (aE.c aV)]⟩
theorem JS(hΓ:Γ.nt=19){aB:aQ}{aV:aE}{r:Int}{k1:Option Int}(cX:k1=some r->Ax Γ N f165 (.q [[none]] (D.int .i64 r)) [1,1] ⟨[],[]⟩)(hm1:aB.length<=maxLen):∀(rest:aQ) (i1:Nat),aB.drop i1=rest->kM aB aV k1 rest i1=some r->Ar Γ N f165 (.q [[none]] (D.int .i64 r)) [1,0,1,0] (rest.length+1) (LK aB aV (i1:Int)):=by
 intro rest
 induction rest with
 |nil=>
  intro i1 aq h;rw[kM]at h;refine aM fun N1 bu bq=>?_
  exact((aU.ge aE.c aq).a [.hl 0 [] []]).ex hΓ bu (cX h)
 |cons bD bn ih1=>
  intro i1 aq h;rw[kM]at h;refine aM fun N1 bu bq=>?_
  obtain⟨RE,h22,h⟩:=aD h;have dJ:=((((aU.lt aE.c aq).a [.n 5]).l (ax aE.c 2 (dc aq) rfl)).g (xe h22))
  obtain⟨h23,h⟩|⟨h23,h⟩:=aL h
  ·cases h;exact(dJ.b h23).ret hΓ
  ·exact((dJ.b h23).a [.cn [0,3,5] [0]]).ct hΓ bq (iS aq hm1) (ih1 (i1+1) (dn aq) h)
theorem HD{aB:aQ}{aV:aE}{r:Int}(h:uK aB aV=some r):Good prog 165 [D.sl (aB.map aE.c),D.agg (aE.c aV)] (D.int .i64 r):=by
 refine gd func165 [[none]] 19 fun hr Γ hΓ=>?_
 rw[uK]at h;refine(aU.a [.cn [0,3,5] [0]]).lp hΓ (JS hΓ (fun h=>?_) (by have:=(dS.sl (hr _ (aC (i:=0) rfl))).1;simpa using this) aB 0 rfl h);cases h;exact aU.ret hΓ
def iF(aB:Bytes):Option Bool:=(bif decide (((aB.length:Int):Int)>1)then((mC aB 0).bind fun b2=>(bif (b2.toNat:Int)==63 then((Cw aB.length (some (D.int .i64 1)) none).bind fun p=>(fun l5 u6=>((fL ((aB.take u6).drop l5)).bind fun y8=>(some y8))) p.1 p.2)else(some false)))else(some false))
theorem fy{aB:Bytes}{r:Bool}(h:iF aB=some r):Good prog 234 [D.str aB] (D.bool r):=by
 refine gd func234 [[none]] 16 fun hr Γ hΓ=>?_
 rw[iF]at h;obtain⟨h1,h⟩|⟨h1,h⟩:=aL h
 ·obtain⟨b2,h3,h⟩:=aD h;have jz:=(((aU.r 2 h1).c h3).r 2 h1)
  obtain⟨h4,h⟩|⟨h4,h⟩:=aL h
  ·obtain⟨⟨l5,u6⟩,h7,h⟩:=aD h;obtain⟨y8,h9,h⟩:=aD h;have h:=aG h;subst h;exact((((((jz.r 2 h4).w h7).a [.cut l5 u6]).b h4).g (eW h9)).b h4).ret hΓ
  ·have h:=aG h;subst h;exact(jz.r 4 h4).ret hΓ
 ·have h:=aG h;subst h;exact((aU.r 4 h1).F 4).ret hΓ
def eR(aB:aI)(aV:Bytes)(k1:Bool->aI->Option aI):aI->Nat->Bool->aI->Option aI
 | [],i1,yJ,bC=>(k1 yJ bC)
 |bD::bn,i1,yJ,bC=>(bif !(yJ)then(bif !(Op.bytesLess bD aV)then(bif !((bD:Bytes)==aV)then(bif room ((bC.map tx).length+([[D.str aV]]).length) 16 then(bif room (((bC.map tx)++([[D.str aV]])).length+([[D.str bD]]).length) 16 then(eR aB aV k1 bn (i1+1) true ((bC++([aV]))++([bD])))else none)else none)else(bif room ((bC.map tx).length+([[D.str bD]]).length) 16 then(eR aB aV k1 bn (i1+1) true (bC++([bD])))else none))else(bif room ((bC.map tx).length+([[D.str bD]]).length) 16 then(eR aB aV k1 bn (i1+1) yJ (bC++([bD])))else none))else(bif room ((bC.map tx).length+([[D.str bD]]).length) 16 then(eR aB aV k1 bn (i1+1) yJ (bC++([bD])))else none))
def lZ(aB:aI)(aV:Bytes):Option aI:=(eR aB aV (fun(M0:Bool) (bO:aI)=>(bif !(M0)then(bif room ((bO.map tx).length+([[D.str aV]]).length) 16 then(some (bO++([aV])))else none)else(some bO))) aB 0 false ([]:aI))
def uP(aB:aI)(aV:Bytes)(yJ:Bool)(W1:List aR)(cS:Int):St:=⟨[(0,D.sl (aB.map tx)),(1,D.str aV),(5,D.acc 0),(6,D.bool yJ),(7,D.int .i64 cS)],[Ob.row .uq 9 1 W1]⟩
theorem OE(hΓ:Γ.nt=49){aB:aI}{aV:Bytes}{r:aI}{k1:Bool->aI->Option aI}(cX:∀(M0:Bool) (bO:aI),k1 M0 bO=some r->Ax Γ N f275 (.q [[some (9,1)]] (D.fr 9 1 (r.map tx))) [1,1,1,1] ⟨[(1,D.str aV),(5,D.acc 0),(6,D.bool M0)],[Ob.row .uq 9 1 (bO.map tx)]⟩)(hm1:aB.length<=maxLen):∀(rest:aI) (i1:Nat) (yJ:Bool) (bC:aI),aB.drop i1=rest->eR aB aV k1 rest i1 yJ bC=some r->Ar Γ N f275 (.q [[some (9,1)]] (D.fr 9 1 (r.map tx))) [1,1,1,0,1,0] (rest.length+1) (uP aB aV yJ (bC.map tx) (i1:Int)):=by
 intro rest
 induction rest with
 |nil=>
  intro i1 yJ bC aq h;rw[eR]at h;refine aM fun N1 bu bq=>?_
  exact((aU.ge tx aq).a [.hl 0 [1,5,6] [0]]).ex hΓ bu (cX yJ bC h)
 |cons bD bn ih1=>
  intro i1 yJ bC aq h;rw[eR]at h;refine aM fun N1 bu bq=>?_
  obtain⟨h58,h⟩|⟨h58,h⟩:=aL h
  ·have kT:=((((aU.lt tx aq).r 3 h58).l (ax tx 1 (dc aq) rfl)).r 4 h58)
   obtain⟨h59,h⟩|⟨h59,h⟩:=aL h
   ·have jN:=((kT.b h59).l (ax tx 1 (dc aq) rfl))
    obtain⟨h60,h⟩|⟨h60,h⟩:=aL h
    ·obtain⟨h61,h⟩:=bX h;obtain⟨h62,h⟩:=bX h;exact(((((jN.b h60).w (cG h61)).l (ax tx 1 (dc aq) rfl)).w (cG h62)).a [.cn [0,1,5,6,7] [4]]).cs hΓ bq (uP aB aV true (((bC.map tx)++([[D.str aV]]))++([[D.str bD]])) (IntKind.i64.wrap ((i1:Int)+1))) (by first| (simp only[iS aq hm1,mA]<;>rfl)| (simp only[iS aq hm1,mA,aE.c,aS.c,aN.c,Action.c,aO.c,aJ.c,cx.c,aP.c,Node.c,aF.c,cy.c]<;>rfl)) (ih1 (i1+1) true ((bC++([aV]))++([bD])) (dn aq) h)
    ·obtain⟨h63,h⟩:=bX h;exact((((jN.b h60).l (ax tx 1 (dc aq) rfl)).w (cG h63)).a [.cn [0,1,5,6,7] [2]]).cs hΓ bq (uP aB aV true ((bC.map tx)++([[D.str bD]])) (IntKind.i64.wrap ((i1:Int)+1))) (by first| (simp only[iS aq hm1,mA]<;>rfl)| (simp only[iS aq hm1,mA,aE.c,aS.c,aN.c,Action.c,aO.c,aJ.c,cx.c,aP.c,Node.c,aF.c,cy.c]<;>rfl)) (ih1 (i1+1) true (bC++([bD])) (dn aq) h)
   ·obtain⟨h64,h⟩:=bX h;exact((((kT.b h59).l (ax tx 1 (dc aq) rfl)).w (cG h64)).a [.cn [0,1,5,6,7] [2]]).cs hΓ bq (uP aB aV yJ ((bC.map tx)++([[D.str bD]])) (IntKind.i64.wrap ((i1:Int)+1))) (by first| (simp only[iS aq hm1,mA]<;>rfl)| (simp only[iS aq hm1,mA,aE.c,aS.c,aN.c,Action.c,aO.c,aJ.c,cx.c,aP.c,Node.c,aF.c,cy.c]<;>rfl)) (ih1 (i1+1) yJ (bC++([bD])) (dn aq) h)
  ·obtain⟨h65,h⟩:=bX h;exact((((((aU.lt tx aq).r 7 h58).F 1).l (ax tx 1 (dc aq) rfl)).w (cG h65)).a [.cn [0,1,5,6,7] [2]]).cs hΓ bq (uP aB aV yJ ((bC.map tx)++([[D.str bD]])) (IntKind.i64.wrap ((i1:Int)+1))) (by first| (simp only[iS aq hm1,mA]<;>rfl)| (simp only[iS aq hm1,mA,aE.c,aS.c,aN.c,Action.c,aO.c,aJ.c,cx.c,aP.c,Node.c,aF.c,cy.c]<;>rfl)) (ih1 (i1+1) yJ (bC++([bD])) (dn aq) h)
theorem ld{aB:aI}{aV:Bytes}{r:aI}(h:lZ aB aV=some r):Good prog 275 [D.sl (aB.map tx),D.str aV] (D.fr 9 1 (r.map tx)):=by
 refine gd func275 [[some (9,1)]] 49 fun hr Γ hΓ=>?_
 rw[lZ]at h;refine(aU.a [.cn [0,1,5,6,7] [0]]).lp hΓ (OE hΓ (fun M0 bO h=>?_) (by have:=(dS.sl (hr _ (aC (i:=0) rfl))).1;simpa using this) aB 0 false ([]:aI) rfl h);obtain⟨h66,h⟩|⟨h66,h⟩:=aL h
 ·obtain⟨h67,h⟩:=bX h;cases h;exact((aU.b h66).w (cG h67)).rts hΓ (D.fr 9 1 ((bO.map tx)++([[D.str aV]]))) (by first|rfl| (simp only[mA]<;>rfl))
 ·have h:=aG h;subst h;exact(aU.b h66).ret hΓ
def l9(aB:aE)(k1:aI->Option aI):aI->Nat->aI->Option aI
 | [],i1,cB=>(k1 cB)
 |bD::bn,i1,cB=>((iF bD).bind fun Xh=>(bif Xh then((lZ cB bD).bind fun y40=>(l9 aB k1 bn (i1+1) y40))else(l9 aB k1 bn (i1+1) cB)))
def ng(aB:aE):Option aI:=(l9 aB (fun(bO:aI)=>(some bO)) aB.args 0 ([]:aI))
def OD(aB:aE)(W0:List aR)(cS:Int):St:=⟨[(1,D.ptr 0 0),(3,D.acc 1),(4,D.int .i64 cS)],[Ob.box (aE.c aB),Ob.row .uq 9 1 W0]⟩
theorem Mq(hΓ:Γ.nt=27){aB:aE}{r:aI}{k1:aI->Option aI}(cX:∀(bO:aI),k1 bO=some r->Ax Γ N f254 (.q [[some (9,1)]] (D.fr 9 1 (r.map tx))) [1,1,1] ⟨[(3,D.acc 0)],[Ob.row .uq 9 1 (bO.map tx)]⟩)(hm1:aB.args.length<=maxLen):∀(rest:aI) (i1:Nat) (cB:aI),aB.args.drop i1=rest->l9 aB k1 rest i1 cB=some r->Ar Γ N f254 (.q [[some (9,1)]] (D.fr 9 1 (r.map tx))) [1,1,0,1,0] (rest.length+1) (OD aB (cB.map tx) (i1:Int)):=by
 intro rest
 induction rest with
 |nil=>
  intro i1 cB aq h;rw[l9]at h;refine aM fun N1 bu bq=>?_
  exact((aU.ge tx aq).a [.hl 0 [3] [1]]).ex hΓ bu (cX cB h)
 |cons bD bn ih1=>
  intro i1 cB aq h;rw[l9]at h;refine aM fun N1 bu bq=>?_
  obtain⟨Xh,h38,h⟩:=aD h;have dJ:=(((aU.lt tx aq).l (ax tx 1 (dc aq) rfl)).g (fy h38))
  obtain⟨h39,h⟩|⟨h39,h⟩:=aL h
  ·obtain⟨y40,h41,h⟩:=aD h;exact((((dJ.b h39).l (ax tx 1 (dc aq) rfl)).g (ld h41)).a [.cn [1,3,4] [0,2]]).ct hΓ bq (iS aq hm1) (ih1 (i1+1) y40 (dn aq) h)
  ·exact((dJ.b h39).a [.cn [1,3,4] [0,1]]).ct hΓ bq (iS aq hm1) (ih1 (i1+1) cB (dn aq) h)
theorem qE{aB:aE}{r:aI}(h:ng aB=some r):Good prog 254 [D.agg (aE.c aB)] (D.fr 9 1 (r.map tx)):=by
 refine gd func254 [[some (9,1)]] 27 fun hr Γ hΓ=>?_
 rw[ng]at h;refine(aU.a [.cn [1,3,4] [0,1]]).lp hΓ (Mq hΓ (fun bO h=>?_) (by have:=(dS.sl (dS.agg (hr _ (aC (i:=0) rfl)) (.sl (aB.args.map tx)) (by simp))).1;simpa using this) aB.args 0 ([]:aI) rfl h);have h:=aG h;subst h;exact aU.ret hΓ
def jZ(aB:aO)(aV:Int)(i1:Nat)(Ni:aI)(k2:aI->Option aI):aI->Nat->aI->Option aI
 | [],i2,jy=>(k2 jy)
 |lM::wF,i2,jy=>((lZ jy lM).bind fun a8O=>(jZ aB aV i1 Ni k2 wF (i2+1) a8O))
def fV(aB:aO)(aV:Int)(k1:aI->Option aI):aj->Nat->aI->Option aI
 | [],i1,cB=>(k1 cB)
 |bD::bn,i1,cB=>(bif decide (((i1:Int):Int)<aV)then(bif (bD.kind:Int)==1 then((ng bD.pat).bind fun Ni=>(bif decide (Ni.length<=maxLen)then(jZ aB aV i1 Ni (fun(yd:aI)=>(fV aB aV k1 bn (i1+1) yd)) Ni 0 cB)else none))else(fV aB aV k1 bn (i1+1) cB))else(k1 cB))
def nK(aB:aO)(aV:Int):Option aI:=(fV aB aV (fun(bO:aI)=>(some bO)) aB.conds 0 ([]:aI))
def JQ(aB:aO)(aV:Int)(W0:List aR)(cS:Int):St:=⟨[(1,D.int .i64 aV),(2,D.ptr 0 0),(5,D.acc 1),(6,D.int .i64 cS)],[Ob.box (aO.c aB),Ob.row .uq 9 1 W0]⟩
def JR(aB:aO)(aV:Int)(i1:Nat)(Ni:aI)(W0:List aR)(cS:Int):St:=⟨[(1,D.int .i64 aV),(2,D.ptr 0 0),(5,D.acc 1),(6,D.int .i64 (i1:Int)),(7,D.acc 2),(8,D.int .i64 cS)],[Ob.box (aO.c aB),Ob.row .uq 9 1 W0,Ob.row .uq 9 1 (Ni.map tx)]⟩
theorem HC(hΓ:Γ.nt=49){aB:aO}{aV:Int}{i1:Nat}{Ni:aI}{r:aI}{k2:aI->Option aI}(CV:∀(yd:aI),k2 yd=some r->Ax Γ N f247 (.q [[some (9,1)]] (D.fr 9 1 (r.map tx))) [1,1,0,1,0,0,1,1] ⟨[(1,D.int .i64 aV),(2,D.ptr 0 0),(5,D.acc 1),(6,D.int .i64 (i1:Int))],[Ob.box (aO.c aB),Ob.row .uq 9 1 (yd.map tx)]⟩)(hm2:Ni.length<=maxLen):∀(rest:aI) (i2:Nat) (jy:aI),Ni.drop i2=rest->jZ aB aV i1 Ni k2 rest i2 jy=some r->Ar Γ N f247 (.q [[some (9,1)]] (D.fr 9 1 (r.map tx))) [1,1,0,1,0,0,1,0,0,1,0,1,1,0] (rest.length+1) (JR aB aV i1 Ni (jy.map tx) (i2:Int)):=by
 intro rest
 induction rest with
 |nil=>
  intro i2 jy hd2 h;rw[jZ]at h;refine aM fun N2 xM uT=>?_
  exact((aU.ge tx hd2).a [.hl 3 [1,2,5,6] [0,1]]).ex hΓ xM (CV jy h)
 |cons lM wF ih2=>
  intro i2 jy hd2 h;rw[jZ]at h;refine aM fun N2 xM uT=>?_
  obtain⟨a8O,h184,h⟩:=aD h;exact(((((aU.lt tx hd2).i (p9 tx 1 (dc hd2))).o 1 1 .uq (dB tx (dc hd2))).g (ld h184)).a [.cn [1,2,5,6,7,8] [0,3,2]]).ct hΓ uT (iS hd2 hm2) (ih2 (i2+1) a8O (dn hd2) h)
theorem HB(hΓ:Γ.nt=49){aB:aO}{aV:Int}{r:aI}{k1:aI->Option aI}(cX:∀(bO:aI),k1 bO=some r->Ax Γ N f247 (.q [[some (9,1)]] (D.fr 9 1 (r.map tx))) [1,1,1] ⟨[(5,D.acc 0)],[Ob.row .uq 9 1 (bO.map tx)]⟩)(hm1:aB.conds.length<=maxLen):∀(rest:aj) (i1:Nat) (cB:aI),aB.conds.drop i1=rest->fV aB aV k1 rest i1 cB=some r->Ar Γ N f247 (.q [[some (9,1)]] (D.fr 9 1 (r.map tx))) [1,1,0,1,0] (rest.length+1) (JQ aB aV (cB.map tx) (i1:Int)):=by
 intro rest
 induction rest with
 |nil=>
  intro i1 cB aq h;rw[fV]at h;refine aM fun N1 bu bq=>?_
  exact((((((aU.ge aN.c aq).ge aN.c aq).ge aN.c aq).ge aN.c aq).F 1).a [.hl 0 [5] [1]]).ex hΓ bu (cX cB h)
 |cons bD bn ih1=>
  intro i1 cB aq h;rw[fV]at h;refine aM fun N1 bu bq=>?_
  have kT:=((((aU.lt aN.c aq).lt aN.c aq).lt aN.c aq).lt aN.c aq)
  obtain⟨h157,h⟩|⟨h157,h⟩:=aL h
  ·have jN:=((kT.b h157).l (ax aN.c 5 (dc aq) rfl))
   obtain⟨h158,h⟩|⟨h158,h⟩:=aL h
   ·obtain⟨Ni,h160,h⟩:=aD h;obtain⟨h185,h⟩:=bX h;refine((((jN.b h158).l (ax aN.c 5 (dc aq) rfl)).g (qE h160)).a [.cn [1,2,5,6,7,8] [0,1,2]]).lp hΓ (HC hΓ (fun yd h=>?_) (bt h185) Ni 0 cB rfl h);exact(aU.a [.cn [1,2,5,6] [0,1]]).ct hΓ bq (iS aq hm1) (ih1 (i1+1) yd (dn aq) h)
   ·exact((jN.b h158).a [.cn [1,2,5,6] [0,1]]).ct hΓ bq (iS aq hm1) (ih1 (i1+1) cB (dn aq) h)
  ·exact((kT.b h157).a [.hl 0 [5] [1]]).ex hΓ bu (cX cB h)
theorem vI{aB:aO}{aV:Int}{r:aI}(h:nK aB aV=some r):Good prog 247 [D.agg (aO.c aB),D.int .i64 aV] (D.fr 9 1 (r.map tx)):=by
 refine gd func247 [[some (9,1)]] 49 fun hr Γ hΓ=>?_
 rw[nK]at h;refine(aU.a [.cn [1,2,5,6] [0,1]]).lp hΓ (HB hΓ (fun bO h=>?_) (by have:=(dS.sl (dS.agg (hr _ (aC (i:=0) rfl)) (.sl (aB.conds.map aN.c)) (by simp))).1;simpa using this) aB.conds 0 ([]:aI) rfl h);have h:=aG h;subst h;exact aU.ret hΓ
def j6(aB:Bytes):Option Bool:=((fL aB).bind fun y1=>(bif y1 then(some true)else((iF aB).bind fun y4=>(some y4))))
theorem kO{aB:Bytes}{r:Bool}(h:j6 aB=some r):Good prog 269 [D.str aB] (D.bool r):=by
 refine gd func269 [[none]] 9 fun hr Γ hΓ=>?_
 rw[j6]at h;obtain⟨y1,h2,h⟩:=aD h;obtain⟨h3,h⟩|⟨h3,h⟩:=aL h
 ·have h:=aG h;subst h;exact((aU.g (eW h2)).r 3 h3).ret hΓ
 ·obtain⟨y4,h5,h⟩:=aD h;have h:=aG h;subst h;exact((((aU.g (eW h2)).r 2 h3).g (fy h5)).b h3).ret hΓ
def mP(aB:aE)(k1:Option Bool):aI->Nat->Option Bool
 | [],i1=>(k1)
 |bD::bn,i1=>((j6 bD).bind fun RE=>(bif !(RE)then(some false)else(mP aB k1 bn (i1+1))))
def jH(aB:aE):Option Bool:=(mP aB ((rR aB.rel).bind fun Rf=>(bif Rf then(some (decide ((((aB.args.map tx).length:Int):Int)<=3)))else(some false))) aB.args 0)
def JX(aB:aE)(cS:Int):St:=⟨[(1,D.ptr 0 0),(3,D.int .i64 cS)],[Ob.box (aE.c aB)]⟩
theorem HJ(hΓ:Γ.nt=27){aB:aE}{r:Bool}{k1:Option Bool}(cX:k1=some r->Ax Γ N f225 (.q [[none]] (D.bool r)) [1,1] ⟨[(1,D.ptr 0 0)],[Ob.box (aE.c aB)]⟩)(hm1:aB.args.length<=maxLen):∀(rest:aI) (i1:Nat),aB.args.drop i1=rest->mP aB k1 rest i1=some r->Ar Γ N f225 (.q [[none]] (D.bool r)) [1,0,1,0] (rest.length+1) (JX aB (i1:Int)):=by
 intro rest
 induction rest with
 |nil=>
  intro i1 aq h;rw[mP]at h;refine aM fun N1 bu bq=>?_
  exact((aU.ge tx aq).a [.hl 0 [1] [0]]).ex hΓ bu (cX h)
 |cons bD bn ih1=>
  intro i1 aq h;rw[mP]at h;refine aM fun N1 bu bq=>?_
  obtain⟨RE,h22,h⟩:=aD h;have dJ:=(((aU.lt tx aq).l (ax tx 1 (dc aq) rfl)).g (kO h22))
  obtain⟨h23,h⟩|⟨h23,h⟩:=aL h
  ·have h:=aG h;subst h;exact(dJ.b h23).ret hΓ
  ·exact((dJ.b h23).a [.cn [1,3] [0]]).ct hΓ bq (iS aq hm1) (ih1 (i1+1) (dn aq) h)
theorem jr{aB:aE}{r:Bool}(h:jH aB=some r):Good prog 225 [D.agg (aE.c aB)] (D.bool r):=by
 refine gd func225 [[none]] 27 fun hr Γ hΓ=>?_
 rw[jH]at h;refine(aU.a [.cn [1,3] [0]]).lp hΓ (HJ hΓ (fun h=>?_) (by have:=(dS.sl (dS.agg (hr _ (aC (i:=0) rfl)) (.sl (aB.args.map tx)) (by simp))).1;simpa using this) aB.args 0 rfl h);obtain⟨Rf,h25,h⟩:=aD h;obtain⟨h26,h⟩|⟨h26,h⟩:=aL h
 ·cases h;exact((aU.g (nL h25)).r 5 h26).ret hΓ
 ·have h:=aG h;subst h;exact((aU.g (nL h25)).r 5 h26).ret hΓ
def rP(aB:aN):Option Bool:=(bif (aB.kind:Int)==1 then((jH aB.pat).bind fun y2=>(bif y2 then(bif (aB.left:Bytes)==([])then(some ((aB.right:Bytes)==([])))else(some false))else(some false)))else(bif (aB.kind:Int)==2 then((jH aB.pat).bind fun y7=>(bif y7 then(bif (aB.left:Bytes)==([])then(some ((aB.right:Bytes)==([])))else(some false))else(some false)))else(bif (aB.kind:Int)==3 then(bif (aB.pat.rel:Bytes)==([])then(bif (((aB.pat.args.map tx).length:Int):Int)==0 then((j6 aB.left).bind fun U6=>(bif U6 then((j6 aB.right).bind fun P6=>(some P6))else(some false)))else(some false))else(some false))else(bif (aB.kind:Int)==4 then(bif (aB.pat.rel:Bytes)==([])then(bif (((aB.pat.args.map tx).length:Int):Int)==0 then((j6 aB.left).bind fun lI=>(bif lI then((j6 aB.right).bind fun Xg=>(some Xg))else(some false)))else(some false))else(some false))else(bif (aB.kind:Int)==5 then(bif (aB.pat.rel:Bytes)==([])then(bif (((aB.pat.args.map tx).length:Int):Int)==0 then((j6 aB.left).bind fun y30=>(bif y30 then((j6 aB.right).bind fun BL=>(some BL))else(some false)))else(some false))else(some false))else(some false))))))
theorem qC{aB:aN}{r:Bool}(h:rP aB=some r):Good prog 248 [D.agg (aN.c aB)] (D.bool r):=by
 refine gd func248 [[none]] 46 fun hr Γ hΓ=>?_
 rw[rP]at h;obtain⟨h1,h⟩|⟨h1,h⟩:=aL h
 ·obtain⟨y2,h3,h⟩:=aD h;have jz:=((aU.r 2 h1).g (jr h3))
  obtain⟨h4,h⟩|⟨h4,h⟩:=aL h
  ·have dJ:=(jz.r 4 h4)
   obtain⟨h5,h⟩|⟨h5,h⟩:=aL h
   ·cases h;exact(dJ.r 4 h5).ret hΓ
   ·have h:=aG h;subst h;exact(dJ.r 4 h5).ret hΓ
  ·have h:=aG h;subst h;exact((jz.r 4 h4).F 4).ret hΓ
 ·obtain⟨h6,h⟩|⟨h6,h⟩:=aL h
  ·obtain⟨y7,h8,h⟩:=aD h;have kT:=(((aU.b h1).b h6).g (jr h8))
   obtain⟨h9,h⟩|⟨h9,h⟩:=aL h
   ·have jN:=(kT.r 4 h9)
    obtain⟨h10,h⟩|⟨h10,h⟩:=aL h
    ·cases h;exact(jN.r 4 h10).ret hΓ
    ·have h:=aG h;subst h;exact(jN.r 4 h10).ret hΓ
   ·have h:=aG h;subst h;exact((kT.r 4 h9).F 4).ret hΓ
  ·have uY:=((aU.b h1).b h6)
   obtain⟨h11,h⟩|⟨h11,h⟩:=aL h
   ·have wX:=(uY.r 2 h11)
    obtain⟨h12,h⟩|⟨h12,h⟩:=aL h
    ·have AG:=(wX.r 6 h12)
     obtain⟨h13,h⟩|⟨h13,h⟩:=aL h
     ·obtain⟨U6,h15,h⟩:=aD h;have D3:=(((AG.r 3 h13).g (kO h15)).b h13)
      obtain⟨h16,h⟩|⟨h16,h⟩:=aL h
      ·obtain⟨P6,h18,h⟩:=aD h;have h:=aG h;subst h;exact(((D3.r 3 h16).g (kO h18)).b h16).ret hΓ
      ·have h:=aG h;subst h;exact(D3.r 4 h16).ret hΓ
     ·have h:=aG h;subst h;exact((AG.r 4 h13).F 4).ret hΓ
    ·have h:=aG h;subst h;exact((wX.r 6 h12).F 8).ret hΓ
   ·obtain⟨h19,h⟩|⟨h19,h⟩:=aL h
    ·have Hw:=((uY.b h11).r 2 h19)
     obtain⟨h20,h⟩|⟨h20,h⟩:=aL h
     ·have yc:=(Hw.r 6 h20)
      obtain⟨h21,h⟩|⟨h21,h⟩:=aL h
      ·obtain⟨lI,h23,h⟩:=aD h;have Cv:=(((yc.r 3 h21).g (kO h23)).b h21)
       obtain⟨h24,h⟩|⟨h24,h⟩:=aL h
       ·obtain⟨Xg,h26,h⟩:=aD h;have h:=aG h;subst h;exact(((Cv.r 3 h24).g (kO h26)).b h24).ret hΓ
       ·have h:=aG h;subst h;exact(Cv.r 4 h24).ret hΓ
      ·have h:=aG h;subst h;exact((yc.r 4 h21).F 4).ret hΓ
     ·have h:=aG h;subst h;exact((Hw.r 6 h20).F 8).ret hΓ
    ·have BB:=((uY.b h11).b h19)
     obtain⟨h27,h⟩|⟨h27,h⟩:=aL h
     ·obtain⟨h28,h⟩|⟨h28,h⟩:=aL h
      ·have Hu:=((BB.b h27).r 6 h28)
       obtain⟨h29,h⟩|⟨h29,h⟩:=aL h
       ·obtain⟨y30,h31,h⟩:=aD h;have Hv:=(((Hu.r 3 h29).g (kO h31)).b h29)
        obtain⟨h32,h⟩|⟨h32,h⟩:=aL h
        ·obtain⟨BL,h34,h⟩:=aD h;have h:=aG h;subst h;exact(((Hv.r 3 h32).g (kO h34)).b h32).ret hΓ
        ·have h:=aG h;subst h;exact(Hv.r 4 h32).ret hΓ
       ·have h:=aG h;subst h;exact((Hu.r 4 h29).F 4).ret hΓ
      ·have h:=aG h;subst h;exact(((BB.b h27).r 6 h28).F 8).ret hΓ
     ·have h:=aG h;subst h;exact(BB.b h27).ret hΓ
def mT(aB:aN):Option aI:=((ng aB.pat).bind fun y1=>((iF aB.left).bind fun y3=>(bif y3 then((lZ y1 aB.left).bind fun y6=>((iF aB.right).bind fun y8=>(bif y8 then((lZ y6 aB.right).bind fun Re=>(some Re))else(some y6))))else((iF aB.right).bind fun rp=>(bif rp then((lZ y1 aB.right).bind fun y16=>(some y16))else(some y1))))))
theorem qx{aB:aN}{r:aI}(h:mT aB=some r):Good prog 249 [D.agg (aN.c aB)] (D.fr 9 1 (r.map tx)):=by
 refine gd func249 [[some (9,1)]] 22 fun hr Γ hΓ=>?_
 rw[mT]at h;obtain⟨y1,h2,h⟩:=aD h;obtain⟨y3,h4,h⟩:=aD h;have jz:=((aU.g (qE h2)).g (fy h4))
 obtain⟨h5,h⟩|⟨h5,h⟩:=aL h
 ·obtain⟨y6,h7,h⟩:=aD h;obtain⟨y8,h9,h⟩:=aD h;have dJ:=(((jz.b h5).g (ld h7)).g (fy h9))
  obtain⟨h10,h⟩|⟨h10,h⟩:=aL h
  ·obtain⟨Re,h12,h⟩:=aD h;have h:=aG h;subst h;exact((dJ.b h10).g (ld h12)).ret hΓ
  ·have h:=aG h;subst h;exact(dJ.b h10).ret hΓ
 ·obtain⟨rp,h14,h⟩:=aD h;have kT:=((jz.b h5).g (fy h14))
  obtain⟨h15,h⟩|⟨h15,h⟩:=aL h
  ·obtain⟨y16,h17,h⟩:=aD h;have h:=aG h;subst h;exact((kT.b h15).g (ld h17)).ret hΓ
  ·have h:=aG h;subst h;exact(kT.b h15).ret hΓ
def jf(aB:aI)(aV:Bytes)(k1:Option Bool):aI->Nat->Option Bool
 | [],i1=>(k1)
 |bD::bn,i1=>(bif (bD:Bytes)==aV then(some true)else(jf aB aV k1 bn (i1+1)))
def gZ(aB:aI)(aV:Bytes):Option Bool:=(jf aB aV (some false) aB 0)
def Jf(aB:aI)(aV:Bytes)(cS:Int):St:=⟨[(0,D.sl (aB.map tx)),(1,D.str aV),(5,D.int .i64 cS)],[]⟩
theorem HP(hΓ:Γ.nt=18){aB:aI}{aV:Bytes}{r:Bool}{k1:Option Bool}(cX:k1=some r->Ax Γ N f250 (.q [[none]] (D.bool r)) [1,1] ⟨[],[]⟩)(hm1:aB.length<=maxLen):∀(rest:aI) (i1:Nat),aB.drop i1=rest->jf aB aV k1 rest i1=some r->Ar Γ N f250 (.q [[none]] (D.bool r)) [1,0,1,0] (rest.length+1) (Jf aB aV (i1:Int)):=by
 intro rest
 induction rest with
 |nil=>
  intro i1 aq h;rw[jf]at h;refine aM fun N1 bu bq=>?_
  exact((aU.ge tx aq).a [.hl 0 [] []]).ex hΓ bu (cX h)
 |cons bD bn ih1=>
  intro i1 aq h;rw[jf]at h;refine aM fun N1 bu bq=>?_
  have dJ:=((aU.lt tx aq).l (ax tx 1 (dc aq) rfl))
  obtain⟨h13,h⟩|⟨h13,h⟩:=aL h
  ·have h:=aG h;subst h;exact(dJ.b h13).ret hΓ
  ·exact((dJ.b h13).a [.cn [0,1,5] []]).ct hΓ bq (iS aq hm1) (ih1 (i1+1) (dn aq) h)
theorem mi{aB:aI}{aV:Bytes}{r:Bool}(h:gZ aB aV=some r):Good prog 250 [D.sl (aB.map tx),D.str aV] (D.bool r):=by
 refine gd func250 [[none]] 18 fun hr Γ hΓ=>?_
 rw[gZ]at h;refine(aU.a [.cn [0,1,5] []]).lp hΓ (HP hΓ (fun h=>?_) (by have:=(dS.sl (hr _ (aC (i:=0) rfl))).1;simpa using this) aB 0 rfl h);have h:=aG h;subst h;exact aU.ret hΓ
def rS(aB:aN):Option Bool:=((rP aB).bind fun y1=>(bif y1 then(some (decide ((aB.kind:Int)>=3)))else(some false)))
theorem tU{aB:aN}{r:Bool}(h:rS aB=some r):Good prog 251 [D.agg (aN.c aB)] (D.bool r):=by
 refine gd func251 [[none]] 10 fun hr Γ hΓ=>?_
 rw[rS]at h;obtain⟨y1,h2,h⟩:=aD h;obtain⟨h3,h⟩|⟨h3,h⟩:=aL h
 ·cases h;exact((aU.g (qC h2)).r 4 h3).ret hΓ
 ·have h:=aG h;subst h;exact((aU.g (qC h2)).r 4 h3).ret hΓ
def fS(aB:aO)(aV:Int)(cV:Bytes)(k1:Option Bool):aj->Nat->Option Bool
 | [],i1=>(k1)
 |bD::bn,i1=>(bif ((i1:Int):Int) != aV then((mT bD).bind fun Fy=>((gZ Fy cV).bind fun I5=>(bif I5 then(some true)else(fS aB aV cV k1 bn (i1+1)))))else(fS aB aV cV k1 bn (i1+1)))
def iE(aB:aO)(cV:Bytes)(k2:Option Bool):bw->Nat->Option Bool
 | [],i2=>(k2)
 |lM::wF,i2=>((ng lM.pat).bind fun y67=>((gZ y67 cV).bind fun y69=>(bif y69 then(some true)else(iE aB cV k2 wF (i2+1)))))
def nT(aB:aO)(aV:Int)(cV:Bytes):Option Bool:=(fS aB aV cV (iE aB cV (some false) aB.cr 0) aB.conds 0)
def Fm(aB:aO)(aV:Int)(cV:Bytes)(cS:Int):St:=⟨[(1,D.int .i64 aV),(2,D.str cV),(3,D.ptr 0 0),(7,D.int .i64 cS)],[Ob.box (aO.c aB)]⟩
theorem EY(hΓ:Γ.nt=45){aB:aO}{aV:Int}{cV:Bytes}{r:Bool}{k1:Option Bool}(cX:k1=some r->Ax Γ N f252 (.q [[none]] (D.bool r)) [1,1] ⟨[(2,D.str cV),(3,D.ptr 0 0)],[Ob.box (aO.c aB)]⟩)(hm1:aB.conds.length<=maxLen):∀(rest:aj) (i1:Nat),aB.conds.drop i1=rest->fS aB aV cV k1 rest i1=some r->Ar Γ N f252 (.q [[none]] (D.bool r)) [1,0,1,0] (rest.length+1) (Fm aB aV cV (i1:Int)):=by
 intro rest
 induction rest with
 |nil=>
  intro i1 aq h;rw[fS]at h;refine aM fun N1 bu bq=>?_
  exact((aU.ge aN.c aq).a [.hl 0 [2,3] [0]]).ex hΓ bu (cX h)
 |cons bD bn ih1=>
  intro i1 aq h;rw[fS]at h;refine aM fun N1 bu bq=>?_
  obtain⟨h33,h⟩|⟨h33,h⟩:=aL h
  ·obtain⟨Fy,h35,h⟩:=aD h;obtain⟨I5,h37,h⟩:=aD h;have kT:=((((((((aU.lt aN.c aq).r 4 h33).l (ax aN.c 5 (dc aq) rfl)).r 2 h33).g (qx h35)).r 2 h33).g (mi h37)).b h33)
   obtain⟨h38,h⟩|⟨h38,h⟩:=aL h
   ·have h:=aG h;subst h;exact(kT.b h38).ret hΓ
   ·exact((kT.b h38).a [.cn [1,2,3,7] [0]]).ct hΓ bq (iS aq hm1) (ih1 (i1+1) (dn aq) h)
  ·exact((((aU.lt aN.c aq).r 9 h33).F 1).a [.cn [1,2,3,7] [0]]).ct hΓ bq (iS aq hm1) (ih1 (i1+1) (dn aq) h)
def Fo(aB:aO)(cV:Bytes)(cS:Int):St:=⟨[(2,D.str cV),(3,D.ptr 0 0),(8,D.int .i64 cS)],[Ob.box (aO.c aB)]⟩
theorem EZ(hΓ:Γ.nt=45){aB:aO}{cV:Bytes}{r:Bool}{k2:Option Bool}(CV:k2=some r->Ax Γ N f252 (.q [[none]] (D.bool r)) [1,1,1] ⟨[],[]⟩)(hm2:aB.cr.length<=maxLen):∀(rest:bw) (i2:Nat),aB.cr.drop i2=rest->iE aB cV k2 rest i2=some r->Ar Γ N f252 (.q [[none]] (D.bool r)) [1,1,0,1,0] (rest.length+1) (Fo aB cV (i2:Int)):=by
 intro rest
 induction rest with
 |nil=>
  intro i2 hd2 h;rw[iE]at h;refine aM fun N2 xM uT=>?_
  exact((aU.ge Action.c hd2).a [.hl 0 [] []]).ex hΓ xM (CV h)
 |cons lM wF ih2=>
  intro i2 hd2 h;rw[iE]at h;refine aM fun N2 xM uT=>?_
  obtain⟨y67,h68,h⟩:=aD h;obtain⟨y69,h70,h⟩:=aD h;have jN:=((((aU.lt Action.c hd2).l (ax Action.c 3 (dc hd2) rfl)).g (qE h68)).g (mi h70))
  obtain⟨h71,h⟩|⟨h71,h⟩:=aL h
  ·have h:=aG h;subst h;exact(jN.b h71).ret hΓ
  ·exact((jN.b h71).a [.cn [2,3,8] [0]]).ct hΓ uT (iS hd2 hm2) (ih2 (i2+1) (dn hd2) h)
theorem yA{aB:aO}{aV:Int}{cV:Bytes}{r:Bool}(h:nT aB aV cV=some r):Good prog 252 [D.agg (aO.c aB),D.int .i64 aV,D.str cV] (D.bool r):=by
 refine gd func252 [[none]] 45 fun hr Γ hΓ=>?_
 rw[nT]at h;refine(aU.a [.cn [1,2,3,7] [0]]).lp hΓ (EY hΓ (fun h=>?_) (by have:=(dS.sl (dS.agg (hr _ (aC (i:=0) rfl)) (.sl (aB.conds.map aN.c)) (by simp))).1;simpa using this) aB.conds 0 rfl h);refine(aU.a [.cn [2,3,8] [0]]).lp hΓ (EZ hΓ (fun h=>?_) (by have:=(dS.sl (dS.agg (hr _ (aC (i:=0) rfl)) (.sl (aB.cr.map Action.c)) (by simp))).1;simpa using this) aB.cr 0 rfl h);have h:=aG h;subst h;exact aU.ret hΓ
def uM(aB:Action):Option Bool:=(bif (aB.kind:Int)==1 then((jH aB.pat).bind fun y2=>(some y2))else(bif (aB.kind:Int)==2 then((jH aB.pat).bind fun y5=>(some y5))else(bif (aB.kind:Int)==3 then(bif (aB.pat.rel:Bytes)==([])then(some ((((aB.pat.args.map tx).length:Int):Int)==0))else(some false))else(some false))))
theorem HF{aB:Action}{r:Bool}(h:uM aB=some r):Good prog 253 [D.agg (Action.c aB)] (D.bool r):=by
 refine gd func253 [[none]] 24 fun hr Γ hΓ=>?_
 rw[uM]at h;obtain⟨h1,h⟩|⟨h1,h⟩:=aL h
 ·obtain⟨y2,h3,h⟩:=aD h;have h:=aG h;subst h;exact((aU.r 2 h1).g (jr h3)).ret hΓ
 ·obtain⟨h4,h⟩|⟨h4,h⟩:=aL h
  ·obtain⟨y5,h6,h⟩:=aD h;have h:=aG h;subst h;exact(((aU.b h1).b h4).g (jr h6)).ret hΓ
  ·have jz:=((aU.b h1).b h4)
   obtain⟨h7,h⟩|⟨h7,h⟩:=aL h
   ·obtain⟨h8,h⟩|⟨h8,h⟩:=aL h
    ·cases h;exact((jz.b h7).r 6 h8).ret hΓ
    ·have h:=aG h;subst h;exact((jz.b h7).r 6 h8).ret hΓ
   ·have h:=aG h;subst h;exact(jz.b h7).ret hΓ
def kP(aB:aO)(i1:Nat)(Nh:aI)(k2:aI->Option aI):aI->Nat->aI->Option aI
 | [],i2,jy=>(k2 jy)
 |lM::wF,i2,jy=>((lZ jy lM).bind fun a8N=>(kP aB i1 Nh k2 wF (i2+1) a8N))
def iq(aB:aO)(k1:aI->Option aI):aj->Nat->aI->Option aI
 | [],i1,cB=>(k1 cB)
 |bD::bn,i1,cB=>((mT bD).bind fun Nh=>(bif decide (Nh.length<=maxLen)then(kP aB i1 Nh (fun(yd:aI)=>(iq aB k1 bn (i1+1) yd)) Nh 0 cB)else none))
def kQ(aB:aO)(i3:Nat)(Nk:aI)(k4:aI->Option aI):aI->Nat->aI->Option aI
 | [],i4,Tx=>(k4 Tx)
 |x4_::xs4,i4,Tx=>((lZ Tx x4_).bind fun a8P=>(kQ aB i3 Nk k4 xs4 (i4+1) a8P))
def gS(aB:aO)(k3:aI->Option aI):bw->Nat->aI->Option aI
 | [],i3,AZ=>(k3 AZ)
 |Vo::Ty,i3,AZ=>((ng Vo.pat).bind fun Nk=>(bif decide (Nk.length<=maxLen)then(kQ aB i3 Nk (fun(Zk:aI)=>(gS aB k3 Ty (i3+1) Zk)) Nk 0 AZ)else none))
def uO(aB:aO):Option aI:=(iq aB (fun(C2:aI)=>(gS aB (fun(a2K:aI)=>(some a2K)) aB.cr 0 C2)) aB.conds 0 ([]:aI))
def LP(aB:aO)(W0:List aR)(cS:Int):St:=⟨[(1,D.ptr 0 0),(3,D.acc 1),(4,D.int .i64 cS)],[Ob.box (aO.c aB),Ob.row .uq 9 1 W0]⟩
def LQ(aB:aO)(i1:Nat)(Nh:aI)(W0:List aR)(cS:Int):St:=⟨[(1,D.ptr 0 0),(3,D.acc 1),(4,D.int .i64 (i1:Int)),(5,D.acc 2),(6,D.int .i64 cS)],[Ob.box (aO.c aB),Ob.row .uq 9 1 W0,Ob.row .uq 9 1 (Nh.map tx)]⟩
theorem Jb(hΓ:Γ.nt=63){aB:aO}{i1:Nat}{Nh:aI}{r:aI}{k2:aI->Option aI}(CV:∀(yd:aI),k2 yd=some r->Ax Γ N f255 (.q [[some (9,1)]] (D.fr 9 1 (r.map tx))) [1,1,0,1,0,0,1,1] ⟨[(1,D.ptr 0 0),(3,D.acc 1),(4,D.int .i64 (i1:Int))],[Ob.box (aO.c aB),Ob.row .uq 9 1 (yd.map tx)]⟩)(hm2:Nh.length<=maxLen):∀(rest:aI) (i2:Nat) (jy:aI),Nh.drop i2=rest->kP aB i1 Nh k2 rest i2 jy=some r->Ar Γ N f255 (.q [[some (9,1)]] (D.fr 9 1 (r.map tx))) [1,1,0,1,0,0,1,0,0,1,1,0] (rest.length+1) (LQ aB i1 Nh (jy.map tx) (i2:Int)):=by
 intro rest
 induction rest with
 |nil=>
  intro i2 jy hd2 h;rw[kP]at h;refine aM fun N2 xM uT=>?_
  exact((aU.ge tx hd2).a [.hl 3 [1,3,4] [0,1]]).ex hΓ xM (CV jy h)
 |cons lM wF ih2=>
  intro i2 jy hd2 h;rw[kP]at h;refine aM fun N2 xM uT=>?_
  obtain⟨a8N,h172,h⟩:=aD h;exact(((((aU.lt tx hd2).i (p9 tx 1 (dc hd2))).o 1 1 .uq (dB tx (dc hd2))).g (ld h172)).a [.cn [1,3,4,5,6] [0,3,2]]).ct hΓ uT (iS hd2 hm2) (ih2 (i2+1) a8N (dn hd2) h)
theorem Ja(hΓ:Γ.nt=63){aB:aO}{r:aI}{k1:aI->Option aI}(cX:∀(C2:aI),k1 C2=some r->Ax Γ N f255 (.q [[some (9,1)]] (D.fr 9 1 (r.map tx))) [1,1,1] ⟨[(1,D.ptr 0 0),(3,D.acc 1)],[Ob.box (aO.c aB),Ob.row .uq 9 1 (C2.map tx)]⟩)(hm1:aB.conds.length<=maxLen):∀(rest:aj) (i1:Nat) (cB:aI),aB.conds.drop i1=rest->iq aB k1 rest i1 cB=some r->Ar Γ N f255 (.q [[some (9,1)]] (D.fr 9 1 (r.map tx))) [1,1,0,1,0] (rest.length+1) (LP aB (cB.map tx) (i1:Int)):=by
 intro rest
 induction rest with
 |nil=>
  intro i1 cB aq h;rw[iq]at h;refine aM fun N1 bu bq=>?_
  exact((aU.ge aN.c aq).a [.hl 0 [1,3] [0,1]]).ex hΓ bu (cX cB h)
 |cons bD bn ih1=>
  intro i1 cB aq h;rw[iq]at h;refine aM fun N1 bu bq=>?_
  obtain⟨Nh,h148,h⟩:=aD h;obtain⟨h173,h⟩:=bX h;refine((((aU.lt aN.c aq).l (ax aN.c 5 (dc aq) rfl)).g (qx h148)).a [.cn [1,3,4,5,6] [0,1,2]]).lp hΓ (Jb hΓ (fun yd h=>?_) (bt h173) Nh 0 cB rfl h);exact(aU.a [.cn [1,3,4] [0,1]]).ct hΓ bq (iS aq hm1) (ih1 (i1+1) yd (dn aq) h)
def LR(aB:aO)(W0:List aR)(cS:Int):St:=⟨[(1,D.ptr 0 0),(3,D.acc 1),(7,D.int .i64 cS)],[Ob.box (aO.c aB),Ob.row .uq 9 1 W0]⟩
def LS(aB:aO)(i3:Nat)(Nk:aI)(W0:List aR)(cS:Int):St:=⟨[(1,D.ptr 0 0),(3,D.acc 1),(7,D.int .i64 (i3:Int)),(8,D.acc 2),(9,D.int .i64 cS)],[Ob.box (aO.c aB),Ob.row .uq 9 1 W0,Ob.row .uq 9 1 (Nk.map tx)]⟩
theorem Jd(hΓ:Γ.nt=63){aB:aO}{i3:Nat}{Nk:aI}{r:aI}{k4:aI->Option aI}(hE4:∀(Zk:aI),k4 Zk=some r->Ax Γ N f255 (.q [[some (9,1)]] (D.fr 9 1 (r.map tx))) [1,1,1,0,1,0,0,1,1] ⟨[(1,D.ptr 0 0),(3,D.acc 1),(7,D.int .i64 (i3:Int))],[Ob.box (aO.c aB),Ob.row .uq 9 1 (Zk.map tx)]⟩)(hm4:Nk.length<=maxLen):∀(rest:aI) (i4:Nat) (Tx:aI),Nk.drop i4=rest->kQ aB i3 Nk k4 rest i4 Tx=some r->Ar Γ N f255 (.q [[some (9,1)]] (D.fr 9 1 (r.map tx))) [1,1,1,0,1,0,0,1,0,0,1,1,0] (rest.length+1) (LS aB i3 Nk (Tx.map tx) (i4:Int)):=by
 intro rest
 induction rest with
 |nil=>
  intro i4 Tx WW h;rw[kQ]at h;refine aM fun N4 hN4 hS4=>?_
  exact((aU.ge tx WW).a [.hl 3 [1,3,7] [0,1]]).ex hΓ hN4 (hE4 Tx h)
 |cons x4_ xs4 ih4=>
  intro i4 Tx WW h;rw[kQ]at h;refine aM fun N4 hN4 hS4=>?_
  obtain⟨a8P,h345,h⟩:=aD h;exact(((((aU.lt tx WW).i (p9 tx 1 (dc WW))).o 1 1 .uq (dB tx (dc WW))).g (ld h345)).a [.cn [1,3,7,8,9] [0,3,2]]).ct hΓ hS4 (iS WW hm4) (ih4 (i4+1) a8P (dn WW) h)
theorem Jc(hΓ:Γ.nt=63){aB:aO}{r:aI}{k3:aI->Option aI}(hE3:∀(a2K:aI),k3 a2K=some r->Ax Γ N f255 (.q [[some (9,1)]] (D.fr 9 1 (r.map tx))) [1,1,1,1] ⟨[(3,D.acc 0)],[Ob.row .uq 9 1 (a2K.map tx)]⟩)(WY:aB.cr.length<=maxLen):∀(rest:bw) (i3:Nat) (AZ:aI),aB.cr.drop i3=rest->gS aB k3 rest i3 AZ=some r->Ar Γ N f255 (.q [[some (9,1)]] (D.fr 9 1 (r.map tx))) [1,1,1,0,1,0] (rest.length+1) (LR aB (AZ.map tx) (i3:Int)):=by
 intro rest
 induction rest with
 |nil=>
  intro i3 AZ B9 h;rw[gS]at h;refine aM fun N3 Y8 Sy=>?_
  exact((aU.ge Action.c B9).a [.hl 0 [3] [1]]).ex hΓ Y8 (hE3 AZ h)
 |cons Vo Ty ih3=>
  intro i3 AZ B9 h;rw[gS]at h;refine aM fun N3 Y8 Sy=>?_
  obtain⟨Nk,h321,h⟩:=aD h;obtain⟨h346,h⟩:=bX h;refine((((aU.lt Action.c B9).l (ax Action.c 3 (dc B9) rfl)).g (qE h321)).a [.cn [1,3,7,8,9] [0,1,2]]).lp hΓ (Jd hΓ (fun Zk h=>?_) (bt h346) Nk 0 AZ rfl h);exact(aU.a [.cn [1,3,7] [0,1]]).ct hΓ Sy (iS B9 WY) (ih3 (i3+1) Zk (dn B9) h)
theorem HN{aB:aO}{r:aI}(h:uO aB=some r):Good prog 255 [D.agg (aO.c aB)] (D.fr 9 1 (r.map tx)):=by
 refine gd func255 [[some (9,1)]] 63 fun hr Γ hΓ=>?_
 rw[uO]at h;refine(aU.a [.cn [1,3,4] [0,1]]).lp hΓ (Ja hΓ (fun C2 h=>?_) (by have:=(dS.sl (dS.agg (hr _ (aC (i:=0) rfl)) (.sl (aB.conds.map aN.c)) (by simp))).1;simpa using this) aB.conds 0 ([]:aI) rfl h);refine(aU.a [.cn [1,3,7] [0,1]]).lp hΓ (Jc hΓ (fun a2K h=>?_) (by have:=(dS.sl (dS.agg (hr _ (aC (i:=0) rfl)) (.sl (aB.cr.map Action.c)) (by simp))).1;simpa using this) aB.cr 0 C2 rfl h);have h:=aG h;subst h;exact aU.ret hΓ
def ff(aB:aO)(rp:aI)(i1:Nat)(bD:aN)(Nn:aI)(Fw:aI)(k2:Option Bool):aI->Nat->Option Bool
 | [],i2=>(k2)
 |lM::wF,i2=>((gZ Nn lM).bind fun a8R=>((rS bD).bind fun aB2=>(bif aB2 then(bif !(a8R)then(some false)else(bif (bD.kind:Int)==2 then(ff aB rp i1 bD Nn Fw k2 wF (i2+1))else(ff aB rp i1 bD Nn Fw k2 wF (i2+1))))else(bif (bD.kind:Int)==2 then(bif !(a8R)then((nT aB (i1:Int) lM).bind fun aB3=>(bif aB3 then(some false)else(ff aB rp i1 bD Nn Fw k2 wF (i2+1))))else(ff aB rp i1 bD Nn Fw k2 wF (i2+1)))else(ff aB rp i1 bD Nn Fw k2 wF (i2+1))))))
def fk(aB:aO)(rp:aI)(i1:Nat)(bD:aN)(No:aI)(Fx:aI)(k3:Option Bool):aI->Nat->Option Bool
 | [],i3=>(k3)
 |Vo::Ty,i3=>((gZ No Vo).bind fun a8S=>((rS bD).bind fun aB5=>(bif aB5 then(bif !(a8S)then(some false)else(bif (bD.kind:Int)==2 then(fk aB rp i1 bD No Fx k3 Ty (i3+1))else(fk aB rp i1 bD No Fx k3 Ty (i3+1))))else(bif (bD.kind:Int)==2 then(bif !(a8S)then((nT aB (i1:Int) Vo).bind fun aB6=>(bif aB6 then(some false)else(fk aB rp i1 bD No Fx k3 Ty (i3+1))))else(fk aB rp i1 bD No Fx k3 Ty (i3+1)))else(fk aB rp i1 bD No Fx k3 Ty (i3+1))))))
def kz(aB:aO)(rp:aI)(k1:Option Bool):aj->Nat->Option Bool
 | [],i1=>(k1)
 |bD::bn,i1=>((rP bD).bind fun aB1=>(bif !(aB1)then(some false)else(bif ((i1:Int):Int)==0 then(bif (bD.kind:Int) != 1 then(some false)else((nK aB (i1:Int)).bind fun Nn=>((mT bD).bind fun Fw=>(bif decide (Fw.length<=maxLen)then(ff aB rp i1 bD Nn Fw (kz aB rp k1 bn (i1+1)) Fw 0)else none))))else((nK aB (i1:Int)).bind fun No=>((mT bD).bind fun Fx=>(bif decide (Fx.length<=maxLen)then(fk aB rp i1 bD No Fx (kz aB rp k1 bn (i1+1)) Fx 0)else none))))))
def nN(aB:aO)(rp:aI)(i4:Nat)(Np:aI)(k5:Option Bool):aI->Nat->Option Bool
 | [],i5=>(k5)
 |x5_::xs5,i5=>((gZ rp x5_).bind fun aB9=>(bif !(aB9)then(some false)else(nN aB rp i4 Np k5 xs5 (i5+1))))
def nM(aB:aO)(rp:aI)(k4:Option Bool):bw->Nat->Option Bool
 | [],i4=>(k4)
 |x4_::xs4,i4=>((uM x4_).bind fun aB8=>(bif !(aB8)then(some false)else((ng x4_.pat).bind fun Np=>(bif decide (Np.length<=maxLen)then(nN aB rp i4 Np (nM aB rp k4 xs4 (i4+1)) Np 0)else none))))
def xI(aB:aO):Option Bool:=((rR aB.name).bind fun y1=>(bif !(y1)then(some false)else((lB aB.prio 0 9).bind fun y4=>(bif !(y4)then(some false)else((lB ((aB.conds.map aN.c).length:Int) 1 4).bind fun y7=>(bif !(y7)then(some false)else((lB ((aB.cr.map Action.c).length:Int) 1 2).bind fun Oa=>(bif !(Oa)then(some false)else((nK aB ((aB.conds.map aN.c).length:Int)).bind fun rp=>(kz aB rp (nM aB rp ((uO aB).bind fun aBA=>(some (decide ((((aBA.map tx).length:Int):Int)<=6)))) aB.cr 0) aB.conds 0))))))))))
def O8(aB:aO)(rp:aI)(cS:Int):St:=⟨[(1,D.ptr 0 0),(3,D.acc 1),(4,D.int .i64 cS)],[Ob.box (aO.c aB),Ob.row .uq 9 1 (rp.map tx)]⟩
def O9(aB:aO)(rp:aI)(i1:Nat)(bD:aN)(Nn:aI)(Fw:aI)(cS:Int):St:=⟨[(1,D.ptr 0 0),(3,D.acc 1),(4,D.int .i64 (i1:Int)),(5,D.ptr 2 0),(6,D.acc 3),(7,D.acc 4),(8,D.int .i64 cS)],[Ob.box (aO.c aB),Ob.row .uq 9 1 (rp.map tx),Ob.box [D.int .i64 bD.kind,D.str bD.pat.rel,D.sl (bD.pat.args.map tx),D.str bD.left,D.str bD.right],Ob.row .uq 9 1 (Nn.map tx),Ob.row .uq 9 1 (Fw.map tx)]⟩
theorem Mj(hΓ:Γ.nt=145){aB:aO}{rp:aI}{i1:Nat}{bD:aN}{Nn:aI}{Fw:aI}{r:Bool}{k2:Option Bool}(CV:k2=some r->Ax Γ N f196 (.q [[none]] (D.bool r)) [1,1,1,0,1,0,0,1,1] ⟨[(1,D.ptr 0 0),(3,D.acc 1),(4,D.int .i64 (i1:Int))],[Ob.box (aO.c aB),Ob.row .uq 9 1 (rp.map tx)]⟩)(hm2:Fw.length<=maxLen):∀(rest:aI) (i2:Nat),Fw.drop i2=rest->ff aB rp i1 bD Nn Fw k2 rest i2=some r->Ar Γ N f196 (.q [[none]] (D.bool r)) [1,1,1,0,1,0,0,1,0,0,1,1,1,1,1,0] (rest.length+1) (O9 aB rp i1 bD Nn Fw (i2:Int)):=by
 intro rest
 induction rest with
 |nil=>
  intro i2 hd2 h;rw[ff]at h;refine aM fun N2 xM uT=>?_
  exact((aU.ge tx hd2).a [.hl 3 [1,3,4] [0,1]]).ex hΓ xM (CV h)
 |cons lM wF ih2=>
  intro i2 hd2 h;rw[ff]at h;refine aM fun N2 xM uT=>?_
  obtain⟨a8R,h711,h⟩:=aD h;obtain⟨aB2,h713,h⟩:=aD h;have a5l:=((((((aU.lt tx hd2).i (p9 tx 1 (dc hd2))).o 1 1 .uq (dB tx (dc hd2))).g (mi h711)).a [.n 21]).g (tU h713))
  obtain⟨h714,h⟩|⟨h714,h⟩:=aL h
  ·have a5m:=(a5l.r 3 h714)
   obtain⟨h715,h⟩|⟨h715,h⟩:=aL h
   ·have h:=aG h;subst h;exact((((((a5m.r 4 h715).a [bF,bF]).r 2 h715).a [bF,bF,bF,bF,bF,bF,bF]).r 2 h715).T 1).ret hΓ
   ·have a5n:=(a5m.r 4 h715)
    obtain⟨h716,h⟩|⟨h716,h⟩:=aL h
    ·exact((((((a5n.r 2 h716).b h715).b h716).r 11 h715).F 1).a [.cn [1,3,4,5,6,7,8] [0,1,2,3,4]]).ct hΓ uT (iS hd2 hm2) (ih2 (i2+1) (dn hd2) h)
    ·exact((((((((((a5n.r 2 h716).b h715).b h716).b h715).F 7).b h715).F 1).b h715).F 1).a [.cn [1,3,4,5,6,7,8] [0,1,2,3,4]]).ct hΓ uT (iS hd2 hm2) (ih2 (i2+1) (dn hd2) h)
  ·have a5o:=((a5l.r 3 h714).F 4)
   obtain⟨h717,h⟩|⟨h717,h⟩:=aL h
   ·have a5p:=((((a5o.r 2 h717).F 1).b h717).F 1)
    obtain⟨h718,h⟩|⟨h718,h⟩:=aL h
    ·obtain⟨aB3,h720,h⟩:=aD h;have a5q:=(((((((((a5p.r 5 h718).i (p9 tx 1 (dc hd2))).b h718).o 1 1 .uq (dB tx (dc hd2))).b h718).g (yA h720)).F 1).b h718).F 1)
     obtain⟨h721,h⟩|⟨h721,h⟩:=aL h
     ·have h:=aG h;subst h;exact(a5q.b h721).ret hΓ
     ·exact((a5q.b h721).a [.cn [1,3,4,5,6,7,8] [0,1,2,3,4]]).ct hΓ uT (iS hd2 hm2) (ih2 (i2+1) (dn hd2) h)
    ·exact(((((a5p.r 7 h718).F 1).b h718).F 2).a [.cn [1,3,4,5,6,7,8] [0,1,2,3,4]]).ct hΓ uT (iS hd2 hm2) (ih2 (i2+1) (dn hd2) h)
   ·exact(((((a5o.r 2 h717).F 1).b h717).F 12).a [.cn [1,3,4,5,6,7,8] [0,1,2,3,4]]).ct hΓ uT (iS hd2 hm2) (ih2 (i2+1) (dn hd2) h)
def OA(aB:aO)(rp:aI)(i1:Nat)(bD:aN)(No:aI)(Fx:aI)(cS:Int):St:=⟨[(1,D.ptr 0 0),(3,D.acc 1),(4,D.int .i64 (i1:Int)),(5,D.ptr 2 0),(6,D.acc 3),(7,D.acc 4),(8,D.int .i64 cS)],[Ob.box (aO.c aB),Ob.row .uq 9 1 (rp.map tx),Ob.box [D.int .i64 bD.kind,D.str bD.pat.rel,D.sl (bD.pat.args.map tx),D.str bD.left,D.str bD.right],Ob.row .uq 9 1 (No.map tx),Ob.row .uq 9 1 (Fx.map tx)]⟩
theorem Mk(hΓ:Γ.nt=145){aB:aO}{rp:aI}{i1:Nat}{bD:aN}{No:aI}{Fx:aI}{r:Bool}{k3:Option Bool}(hE3:k3=some r->Ax Γ N f196 (.q [[none]] (D.bool r)) [1,1,1,0,1,0,0,1,1] ⟨[(1,D.ptr 0 0),(3,D.acc 1),(4,D.int .i64 (i1:Int))],[Ob.box (aO.c aB),Ob.row .uq 9 1 (rp.map tx)]⟩)(WY:Fx.length<=maxLen):∀(rest:aI) (i3:Nat),Fx.drop i3=rest->fk aB rp i1 bD No Fx k3 rest i3=some r->Ar Γ N f196 (.q [[none]] (D.bool r)) [1,1,1,0,1,0,0,1,0,0,1,1,1,1,1,0] (rest.length+1) (OA aB rp i1 bD No Fx (i3:Int)):=by
 intro rest
 induction rest with
 |nil=>
  intro i3 B9 h;rw[fk]at h;refine aM fun N3 Y8 Sy=>?_
  exact((aU.ge tx B9).a [.hl 3 [1,3,4] [0,1]]).ex hΓ Y8 (hE3 h)
 |cons Vo Ty ih3=>
  intro i3 B9 h;rw[fk]at h;refine aM fun N3 Y8 Sy=>?_
  obtain⟨a8S,h786,h⟩:=aD h;obtain⟨aB5,h788,h⟩:=aD h;have a5r:=((((((aU.lt tx B9).i (p9 tx 1 (dc B9))).o 1 1 .uq (dB tx (dc B9))).g (mi h786)).a [.n 21]).g (tU h788))
  obtain⟨h789,h⟩|⟨h789,h⟩:=aL h
  ·have a5s:=(a5r.r 3 h789)
   obtain⟨h790,h⟩|⟨h790,h⟩:=aL h
   ·have h:=aG h;subst h;exact((((((a5s.r 4 h790).a [bF,bF]).r 2 h790).a [bF,bF,bF,bF,bF,bF,bF]).r 2 h790).T 1).ret hΓ
   ·have a5t:=(a5s.r 4 h790)
    obtain⟨h791,h⟩|⟨h791,h⟩:=aL h
    ·exact((((((a5t.r 2 h791).b h790).b h791).r 11 h790).F 1).a [.cn [1,3,4,5,6,7,8] [0,1,2,3,4]]).ct hΓ Sy (iS B9 WY) (ih3 (i3+1) (dn B9) h)
    ·exact((((((((((a5t.r 2 h791).b h790).b h791).b h790).F 7).b h790).F 1).b h790).F 1).a [.cn [1,3,4,5,6,7,8] [0,1,2,3,4]]).ct hΓ Sy (iS B9 WY) (ih3 (i3+1) (dn B9) h)
  ·have a5u:=((a5r.r 3 h789).F 4)
   obtain⟨h792,h⟩|⟨h792,h⟩:=aL h
   ·have a5v:=((((a5u.r 2 h792).F 1).b h792).F 1)
    obtain⟨h793,h⟩|⟨h793,h⟩:=aL h
    ·obtain⟨aB6,h795,h⟩:=aD h;have a5w:=(((((((((a5v.r 5 h793).i (p9 tx 1 (dc B9))).b h793).o 1 1 .uq (dB tx (dc B9))).b h793).g (yA h795)).F 1).b h793).F 1)
     obtain⟨h796,h⟩|⟨h796,h⟩:=aL h
     ·have h:=aG h;subst h;exact(a5w.b h796).ret hΓ
     ·exact((a5w.b h796).a [.cn [1,3,4,5,6,7,8] [0,1,2,3,4]]).ct hΓ Sy (iS B9 WY) (ih3 (i3+1) (dn B9) h)
    ·exact(((((a5v.r 7 h793).F 1).b h793).F 2).a [.cn [1,3,4,5,6,7,8] [0,1,2,3,4]]).ct hΓ Sy (iS B9 WY) (ih3 (i3+1) (dn B9) h)
   ·exact(((((a5u.r 2 h792).F 1).b h792).F 12).a [.cn [1,3,4,5,6,7,8] [0,1,2,3,4]]).ct hΓ Sy (iS B9 WY) (ih3 (i3+1) (dn B9) h)
theorem Mi(hΓ:Γ.nt=145){aB:aO}{rp:aI}{r:Bool}{k1:Option Bool}(cX:k1=some r->Ax Γ N f196 (.q [[none]] (D.bool r)) [1,1,1,1] ⟨[(1,D.ptr 0 0),(3,D.acc 1)],[Ob.box (aO.c aB),Ob.row .uq 9 1 (rp.map tx)]⟩)(hm1:aB.conds.length<=maxLen):∀(rest:aj) (i1:Nat),aB.conds.drop i1=rest->kz aB rp k1 rest i1=some r->Ar Γ N f196 (.q [[none]] (D.bool r)) [1,1,1,0,1,0] (rest.length+1) (O8 aB rp (i1:Int)):=by
 intro rest
 induction rest with
 |nil=>
  intro i1 aq h;rw[kz]at h;refine aM fun N1 bu bq=>?_
  exact((aU.ge aN.c aq).a [.hl 0 [1,3] [0,1]]).ex hΓ bu (cX h)
 |cons bD bn ih1=>
  intro i1 aq h;rw[kz]at h;refine aM fun N1 bu bq=>?_
  obtain⟨aB1,h644,h⟩:=aD h;have a5x:=(((aU.lt aN.c aq).l (ax aN.c 5 (dc aq) rfl)).g (qC h644))
  obtain⟨h645,h⟩|⟨h645,h⟩:=aL h
  ·have h:=aG h;subst h;exact((((a5x.r 3 h645).a [bF,bF,bF]).r 2 h645).T 1).ret hΓ
  ·have a5y:=(a5x.r 3 h645)
   obtain⟨h646,h⟩|⟨h646,h⟩:=aL h
   ·have a5z:=((((a5y.r 3 h646).b h645).b h646).b h645)
    obtain⟨h647,h⟩|⟨h647,h⟩:=aL h
    ·have h:=aG h;subst h;exact(a5z.b h647).ret hΓ
    ·obtain⟨Nn,h649,h⟩:=aD h;obtain⟨Fw,h651,h⟩:=aD h;obtain⟨h722,h⟩:=bX h;refine((((a5z.b h647).g (vI h649)).g (qx h651)).a [.cn [1,3,4,5,6,7,8] [0,1,2,3,4]]).lp hΓ (Mj hΓ (fun h=>?_) (bt h722) Fw 0 rfl h);exact(aU.a [.cn [1,3,4] [0,1]]).ct hΓ bq (iS aq hm1) (ih1 (i1+1) (dn aq) h)
   ·obtain⟨No,h724,h⟩:=aD h;obtain⟨Fx,h726,h⟩:=aD h;obtain⟨h797,h⟩:=bX h;refine((((((((a5y.r 3 h646).b h645).b h646).b h645).F 1).g (vI h724)).g (qx h726)).a [.cn [1,3,4,5,6,7,8] [0,1,2,3,4]]).lp hΓ (Mk hΓ (fun h=>?_) (bt h797) Fx 0 rfl h);exact(aU.a [.cn [1,3,4] [0,1]]).ct hΓ bq (iS aq hm1) (ih1 (i1+1) (dn aq) h)
def OB(aB:aO)(rp:aI)(cS:Int):St:=⟨[(1,D.ptr 0 0),(3,D.acc 1),(10,D.int .i64 cS)],[Ob.box (aO.c aB),Ob.row .uq 9 1 (rp.map tx)]⟩
def OC(aB:aO)(rp:aI)(i4:Nat)(Np:aI)(cS:Int):St:=⟨[(1,D.ptr 0 0),(3,D.acc 1),(10,D.int .i64 (i4:Int)),(11,D.acc 2),(12,D.int .i64 cS)],[Ob.box (aO.c aB),Ob.row .uq 9 1 (rp.map tx),Ob.row .uq 9 1 (Np.map tx)]⟩
theorem Mm(hΓ:Γ.nt=145){aB:aO}{rp:aI}{i4:Nat}{Np:aI}{r:Bool}{k5:Option Bool}(hE5:k5=some r->Ax Γ N f196 (.q [[none]] (D.bool r)) [1,1,1,1,0,1,0,0,1,1] ⟨[(1,D.ptr 0 0),(3,D.acc 1),(10,D.int .i64 (i4:Int))],[Ob.box (aO.c aB),Ob.row .uq 9 1 (rp.map tx)]⟩)(hm5:Np.length<=maxLen):∀(rest:aI) (i5:Nat),Np.drop i5=rest->nN aB rp i4 Np k5 rest i5=some r->Ar Γ N f196 (.q [[none]] (D.bool r)) [1,1,1,1,0,1,0,0,1,0,0,1,1,1,0] (rest.length+1) (OC aB rp i4 Np (i5:Int)):=by
 intro rest
 induction rest with
 |nil=>
  intro i5 hd5 h;rw[nN]at h;refine aM fun N5 hN5 hS5=>?_
  exact((aU.ge tx hd5).a [.hl 3 [1,3,10] [0,1]]).ex hΓ hN5 (hE5 h)
 |cons x5_ xs5 ih5=>
  intro i5 hd5 h;rw[nN]at h;refine aM fun N5 hN5 hS5=>?_
  obtain⟨aB9,h953,h⟩:=aD h;have a60:=((((aU.lt tx hd5).i (p9 tx 1 (dc hd5))).o 1 1 .uq (dB tx (dc hd5))).g (mi h953))
  obtain⟨h954,h⟩|⟨h954,h⟩:=aL h
  ·have h:=aG h;subst h;exact(a60.b h954).ret hΓ
  ·exact((a60.b h954).a [.cn [1,3,10,11,12] [0,1,2]]).ct hΓ hS5 (iS hd5 hm5) (ih5 (i5+1) (dn hd5) h)
theorem Ml(hΓ:Γ.nt=145){aB:aO}{rp:aI}{r:Bool}{k4:Option Bool}(hE4:k4=some r->Ax Γ N f196 (.q [[none]] (D.bool r)) [1,1,1,1,1] ⟨[(1,D.ptr 0 0)],[Ob.box (aO.c aB)]⟩)(hm4:aB.cr.length<=maxLen):∀(rest:bw) (i4:Nat),aB.cr.drop i4=rest->nM aB rp k4 rest i4=some r->Ar Γ N f196 (.q [[none]] (D.bool r)) [1,1,1,1,0,1,0] (rest.length+1) (OB aB rp (i4:Int)):=by
 intro rest
 induction rest with
 |nil=>
  intro i4 WW h;rw[nM]at h;refine aM fun N4 hN4 hS4=>?_
  exact((aU.ge Action.c WW).a [.hl 0 [1] [0]]).ex hΓ hN4 (hE4 h)
 |cons x4_ xs4 ih4=>
  intro i4 WW h;rw[nM]at h;refine aM fun N4 hN4 hS4=>?_
  obtain⟨aB8,h927,h⟩:=aD h;have a61:=(((aU.lt Action.c WW).l (ax Action.c 3 (dc WW) rfl)).g (HF h927))
  obtain⟨h928,h⟩|⟨h928,h⟩:=aL h
  ·have h:=aG h;subst h;exact(a61.b h928).ret hΓ
  ·obtain⟨Np,h930,h⟩:=aD h;obtain⟨h955,h⟩:=bX h;refine((((a61.b h928).l (ax Action.c 3 (dc WW) rfl)).g (qE h930)).a [.cn [1,3,10,11,12] [0,1,2]]).lp hΓ (Mm hΓ (fun h=>?_) (bt h955) Np 0 rfl h);exact(aU.a [.cn [1,3,10] [0,1]]).ct hΓ hS4 (iS WW hm4) (ih4 (i4+1) (dn WW) h)
theorem LM{aB:aO}{r:Bool}(h:xI aB=some r):Good prog 196 [D.agg (aO.c aB)] (D.bool r):=by
 refine gd func196 [[none]] 145 fun hr Γ hΓ=>?_
 rw[xI]at h;obtain⟨y1,h2,h⟩:=aD h;obtain⟨h3,h⟩|⟨h3,h⟩:=aL h
 ·have h:=aG h;subst h;exact(((aU.g (nL h2)).r 5 h3).T 13).ret hΓ
 ·obtain⟨y4,h5,h⟩:=aD h;have a62:=((((aU.g (nL h2)).r 3 h3).g (fo h5)).r 2 h3)
  obtain⟨h6,h⟩|⟨h6,h⟩:=aL h
  ·have h:=aG h;subst h;exact((a62.r 6 h6).T 7).ret hΓ
  ·obtain⟨y7,h8,h⟩:=aD h;have a63:=(((a62.r 4 h6).g (fo h8)).r 2 h6)
   obtain⟨h9,h⟩|⟨h9,h⟩:=aL h
   ·have h:=aG h;subst h;exact((a63.r 6 h9).T 1).ret hΓ
   ·obtain⟨Oa,h11,h⟩:=aD h;have a64:=(((a63.r 4 h9).g (fo h11)).r 2 h9)
    obtain⟨h12,h⟩|⟨h12,h⟩:=aL h
    ·have h:=aG h;subst h;exact(a64.b h12).ret hΓ
    ·obtain⟨rp,h14,h⟩:=aD h;refine(((a64.b h12).g (vI h14)).a [.cn [1,3,4] [0,1]]).lp hΓ (Mi hΓ (fun h=>?_) (by have:=(dS.sl (dS.agg (hr _ (aC (i:=0) rfl)) (.sl (aB.conds.map aN.c)) (by simp))).1;simpa using this) aB.conds 0 rfl h);refine(aU.a [.cn [1,3,10] [0,1]]).lp hΓ (Ml hΓ (fun h=>?_) (by have:=(dS.sl (dS.agg (hr _ (aC (i:=0) rfl)) (.sl (aB.cr.map Action.c)) (by simp))).1;simpa using this) aB.cr 0 rfl h);obtain⟨aBA,h957,h⟩:=aD h;cases h;exact(aU.g (HN h957)).ret hΓ
def kN(aB:au)(aV:Bytes)(k1:Option Int):au->Nat->Option Int
 | [],i1=>(k1)
 |bD::bn,i1=>(bif (bD.name:Bytes)==aV then(some (i1:Int))else(kN aB aV k1 bn (i1+1)))
def uL(aB:au)(aV:Bytes):Option Int:=(kN aB aV (some (-1)) aB 0)
def LL(aB:au)(aV:Bytes)(cS:Int):St:=⟨[(0,D.sl (aB.map aO.c)),(1,D.str aV),(5,D.int .i64 cS)],[]⟩
theorem JT(hΓ:Γ.nt=20){aB:au}{aV:Bytes}{r:Int}{k1:Option Int}(cX:k1=some r->Ax Γ N f197 (.q [[none]] (D.int .i64 r)) [1,1] ⟨[],[]⟩)(hm1:aB.length<=maxLen):∀(rest:au) (i1:Nat),aB.drop i1=rest->kN aB aV k1 rest i1=some r->Ar Γ N f197 (.q [[none]] (D.int .i64 r)) [1,0,1,0] (rest.length+1) (LL aB aV (i1:Int)):=by
 intro rest
 induction rest with
 |nil=>
  intro i1 aq h;rw[kN]at h;refine aM fun N1 bu bq=>?_
  exact((aU.ge aO.c aq).a [.hl 0 [] []]).ex hΓ bu (cX h)
 |cons bD bn ih1=>
  intro i1 aq h;rw[kN]at h;refine aM fun N1 bu bq=>?_
  have dJ:=((aU.lt aO.c aq).l (ax aO.c 4 (dc aq) rfl))
  obtain⟨h13,h⟩|⟨h13,h⟩:=aL h
  ·cases h;exact(dJ.b h13).ret hΓ
  ·exact((dJ.b h13).a [.cn [0,1,5] []]).ct hΓ bq (iS aq hm1) (ih1 (i1+1) (dn aq) h)
theorem HE{aB:au}{aV:Bytes}{r:Int}(h:uL aB aV=some r):Good prog 197 [D.sl (aB.map aO.c),D.str aV] (D.int .i64 r):=by
 refine gd func197 [[none]] 20 fun hr Γ hΓ=>?_
 rw[uL]at h;refine(aU.a [.cn [0,1,5] []]).lp hΓ (JT hΓ (fun h=>?_) (by have:=(dS.sl (hr _ (aC (i:=0) rfl))).1;simpa using this) aB 0 rfl h);cases h;exact aU.ret hΓ
def kL(aB:au)(k1:Option Bool):au->Nat->Option Bool
 | [],i1=>(k1)
 |bD::bn,i1=>((xI bD).bind fun BL=>(bif !(BL)then(some false)else((uL aB bD.name).bind fun I5=>(bif (I5:Int) != (i1:Int)then(some false)else(kL aB k1 bn (i1+1))))))
def uJ(aB:au):Option Bool:=(kL aB (some (decide ((((aB.map aO.c).length:Int):Int)<=6))) aB 0)
def LI(aB:au)(cS:Int):St:=⟨[(0,D.sl (aB.map aO.c)),(3,D.int .i64 cS)],[]⟩
theorem JP(hΓ:Γ.nt=30){aB:au}{r:Bool}{k1:Option Bool}(cX:k1=some r->Ax Γ N f131 (.q [[none]] (D.bool r)) [1,1] ⟨[(0,D.sl (aB.map aO.c))],[]⟩)(hm1:aB.length<=maxLen):∀(rest:au) (i1:Nat),aB.drop i1=rest->kL aB k1 rest i1=some r->Ar Γ N f131 (.q [[none]] (D.bool r)) [1,0,1,0] (rest.length+1) (LI aB (i1:Int)):=by
 intro rest
 induction rest with
 |nil=>
  intro i1 aq h;rw[kL]at h;refine aM fun N1 bu bq=>?_
  exact((aU.ge aO.c aq).a [.hl 0 [0] []]).ex hΓ bu (cX h)
 |cons bD bn ih1=>
  intro i1 aq h;rw[kL]at h;refine aM fun N1 bu bq=>?_
  obtain⟨BL,h34,h⟩:=aD h;have kT:=(((aU.lt aO.c aq).l (ax aO.c 4 (dc aq) rfl)).g (LM h34))
  obtain⟨h35,h⟩|⟨h35,h⟩:=aL h
  ·have h:=aG h;subst h;exact((kT.r 10 h35).T 1).ret hΓ
  ·obtain⟨I5,h37,h⟩:=aD h;have jN:=(((((kT.r 4 h35).l (ax aO.c 4 (dc aq) rfl)).r 3 h35).g (HE h37)).r 3 h35)
   obtain⟨h38,h⟩|⟨h38,h⟩:=aL h
   ·have h:=aG h;subst h;exact(jN.b h38).ret hΓ
   ·exact((jN.b h38).a [.cn [0,3] []]).ct hΓ bq (iS aq hm1) (ih1 (i1+1) (dn aq) h)
theorem zl{aB:au}{r:Bool}(h:uJ aB=some r):Good prog 131 [D.sl (aB.map aO.c)] (D.bool r):=by
 refine gd func131 [[none]] 30 fun hr Γ hΓ=>?_
 rw[uJ]at h;refine(aU.a [.cn [0,3] []]).lp hΓ (JP hΓ (fun h=>?_) (by have:=(dS.sl (hr _ (aC (i:=0) rfl))).1;simpa using this) aB 0 rfl h);cases h;exact aU.ret hΓ
def nX(aB:aT)(aV:Bytes)(k1:Option aT):aT->Nat->Option aT
 | [],i1=>(k1)
 |bD::bn,i1=>(bif (bD.var:Bytes)==aV then(some aB)else(nX aB aV k1 bn (i1+1)))
def pJ(aB:aT)(aV:Bytes):Option aT:=((iF aV).bind fun y1=>(bif !(y1)then(some aB)else(nX aB aV ((pX (IntKind.i64.wrap (((aB.map aS.c).length:Int)+1))).bind fun y18=>(bif decide (([63]:Bytes).length+(y18:Bytes).length<=maxLen)then(bif room ((aB.map aS.c).length+([[D.str aV,D.str (([63])++y18)]]).length) 32 then(some (aB++([(⟨aV,([63])++y18⟩:aS)])))else none)else none)) aB 0)))
def OG(aB:aT)(aV:Bytes)(cS:Int):St:=⟨[(0,D.acc 0),(1,D.str aV),(5,D.int .i64 cS)],[Ob.row .uq 152 2 (aB.map aS.c)]⟩
theorem N6(hΓ:Γ.nt=34){aB:aT}{aV:Bytes}{r:aT}{k1:Option aT}(cX:k1=some r->Ax Γ N f162 (.q [[some (152,2)]] (D.fr 152 2 (r.map aS.c))) [1,1,1] ⟨[(0,D.acc 0),(1,D.str aV)],[Ob.row .uq 152 2 (aB.map aS.c)]⟩)(hm1:aB.length<=maxLen):∀(rest:aT) (i1:Nat),aB.drop i1=rest->nX aB aV k1 rest i1=some r->Ar Γ N f162 (.q [[some (152,2)]] (D.fr 152 2 (r.map aS.c))) [1,1,0,1,0] (rest.length+1) (OG aB aV (i1:Int)):=by
 intro rest
 induction rest with
 |nil=>
  intro i1 aq h;rw[nX]at h;refine aM fun N1 bu bq=>?_
  exact((aU.ge aS.c aq).a [.hl 0 [0,1] [0]]).ex hΓ bu (cX h)
 |cons bD bn ih1=>
  intro i1 aq h;rw[nX]at h;refine aM fun N1 bu bq=>?_
  have jz:=(((aU.lt aS.c aq).i (p9 aS.c 2 (dc aq))).o 2 1 .uq (dB aS.c (dc aq)))
  obtain⟨h17,h⟩|⟨h17,h⟩:=aL h
  ·have h:=aG h;subst h;exact(jz.b h17).ret hΓ
  ·exact((jz.b h17).a [.cn [0,1,5] [0]]).ct hΓ bq (iS aq hm1) (ih1 (i1+1) (dn aq) h)
theorem tY{aB:aT}{aV:Bytes}{r:aT}(h:pJ aB aV=some r):Jw prog 162 [D.acc 0,D.str aV] 152 2 (aB.map aS.c) (r.map aS.c):=by
 refine Jw.of (c:=jt f162) func162 rfl (by decide) (by simp[f162]) (Dh (c:=aS.c) (fun _=>rfl) r) ?_;intro Cs Γ hΓ;have hΓ:Γ.nt=34:=hΓ;rw[pJ]at h;refine(show AW prog Γ (jt f162) (KQ prog Γ (fun _ _=>False) ((Kd.q [[some (152,2)]] (D.fr 152 2 (r.map aS.c))).qq prog f162) []) _ from ?_);obtain⟨y1,h2,h⟩:=aD h;obtain⟨h3,h⟩|⟨h3,h⟩:=aL h
 ·have h:=aG h;subst h;exact((aU.g (fy h2)).b h3).ret hΓ
 ·refine(((aU.g (fy h2)).b h3).a [.cn [0,1,5] [0]]).lp hΓ (N6 hΓ (fun h=>?_) (by simpa using Cs) aB 0 rfl h);obtain⟨y18,h19,h⟩:=aD h;obtain⟨h20,h⟩:=bX h;obtain⟨h21,h⟩:=bX h;cases h;exact(((aU.g (vJ h19)).w (bt h20)).w (cG h21)).rts hΓ (D.fr 152 2 ((aB.map aS.c)++([[D.str aV,D.str (([63])++y18)]]))) (by first|rfl| (simp only[mA]<;>rfl))
def ij(aB:aO)(i1:Nat)(bD:aN)(k2:aT->Option aT):aI->Nat->aT->Option aT
 | [],i2,jy=>(k2 jy)
 |lM::wF,i2,jy=>((pJ jy lM).bind fun D1=>(ij aB i1 bD k2 wF (i2+1) D1))
def ig(aB:aO)(k1:aT->Option aT):aj->Nat->aT->Option aT
 | [],i1,cB=>(k1 cB)
 |bD::bn,i1,cB=>(bif decide (bD.pat.args.length<=maxLen)then(ij aB i1 bD (fun(yd:aT)=>((pJ yd bD.left).bind fun zN=>((pJ zN bD.right).bind fun a3L=>(ig aB k1 bn (i1+1) a3L)))) bD.pat.args 0 cB)else none)
def qz(aB:aO):Option aT:=(ig aB (fun(bO:aT)=>(some bO)) aB.conds 0 ([]:aT))
def HL(aB:aO)(W0:List aR)(cS:Int):St:=⟨[(1,D.ptr 0 0),(3,D.acc 1),(4,D.int .i64 cS)],[Ob.box (aO.c aB),Ob.row .uq 152 2 W0]⟩
def HM(aB:aO)(i1:Nat)(W0:List aR)(cS:Int):St:=⟨[(1,D.ptr 0 0),(3,D.acc 1),(4,D.int .i64 (i1:Int)),(5,D.int .i64 cS)],[Ob.box (aO.c aB),Ob.row .uq 152 2 W0]⟩
theorem Fi(hΓ:Γ.nt=55){aB:aO}{i1:Nat}{bD:aN}{r:aT}{k2:aT->Option aT}(CV:∀(yd:aT),k2 yd=some r->Ax Γ N f92 (.q [[some (152,2)]] (D.fr 152 2 (r.map aS.c))) [1,1,0,1,0,0,1,0,0,1] ⟨[(1,D.ptr 0 0),(3,D.acc 1),(4,D.int .i64 (i1:Int))],[Ob.box (aO.c aB),Ob.row .uq 152 2 (yd.map aS.c)]⟩)(hx1:(aB.conds)[i1]?=some bD)(hm2:bD.pat.args.length<=maxLen):∀(rest:aI) (i2:Nat) (jy:aT),bD.pat.args.drop i2=rest->ij aB i1 bD k2 rest i2 jy=some r->Ar Γ N f92 (.q [[some (152,2)]] (D.fr 152 2 (r.map aS.c))) [1,1,0,1,0,0,1,0,0,0,1,0] (rest.length+1) (HM aB i1 (jy.map aS.c) (i2:Int)):=by
 intro rest
 induction rest with
 |nil=>
  intro i2 jy hd2 h;rw[ij]at h;refine aM fun N2 xM uT=>?_
  exact(((aU.l (ax aN.c 5 hx1 rfl)).ge tx hd2).a [.hl 5 [1,3,4] [0,1]]).ex hΓ xM (CV jy h)
 |cons lM wF ih2=>
  intro i2 jy hd2 h;rw[ij]at h;refine aM fun N2 xM uT=>?_
  obtain⟨D1,h207,h⟩:=aD h;exact(((((((aU.l (ax aN.c 5 hx1 rfl)).lt tx hd2).l (ax aN.c 5 hx1 rfl)).l (ax tx 1 (dc hd2) rfl)).w (show(jy.map aS.c).flatten.all D.flat=true from by simpa only[bS,bG,bV]using Dh (c:=aS.c) (fun _=>rfl) jy)).w (show Jw prog 162 [D.acc 0,D.str lM] 152 2 (jy.map aS.c) (D1.map aS.c)from by simpa only[bS,bG,bV]using tY h207)).a [.ov 1 (D1.map aS.c),.cn [1,3,4,5] [0,2]]).ct hΓ uT (iS hd2 hm2) (ih2 (i2+1) D1 (dn hd2) h)
theorem Fh(hΓ:Γ.nt=55){aB:aO}{r:aT}{k1:aT->Option aT}(cX:∀(bO:aT),k1 bO=some r->Ax Γ N f92 (.q [[some (152,2)]] (D.fr 152 2 (r.map aS.c))) [1,1,1] ⟨[(3,D.acc 0)],[Ob.row .uq 152 2 (bO.map aS.c)]⟩)(hm1:aB.conds.length<=maxLen):∀(rest:aj) (i1:Nat) (cB:aT),aB.conds.drop i1=rest->ig aB k1 rest i1 cB=some r->Ar Γ N f92 (.q [[some (152,2)]] (D.fr 152 2 (r.map aS.c))) [1,1,0,1,0] (rest.length+1) (HL aB (cB.map aS.c) (i1:Int)):=by
 intro rest
 induction rest with
 |nil=>
  intro i1 cB aq h;rw[ig]at h;refine aM fun N1 bu bq=>?_
  exact((aU.ge aN.c aq).a [.hl 0 [3] [1]]).ex hΓ bu (cX cB h)
 |cons bD bn ih1=>
  intro i1 cB aq h;rw[ig]at h;refine aM fun N1 bu bq=>?_
  obtain⟨h212,h⟩:=bX h;refine((aU.lt aN.c aq).a [.cn [1,3,4,5] [0,1]]).lp hΓ (Fi hΓ (fun yd h=>?_) ((drop_cons aq).1) (bt h212) bD.pat.args 0 cB rfl h);obtain⟨zN,h209,h⟩:=aD h;obtain⟨a3L,h211,h⟩:=aD h;exact((((((((aU.l (ax aN.c 5 (dc aq) rfl)).w (show(yd.map aS.c).flatten.all D.flat=true from by simpa only[bS,bG,bV]using Dh (c:=aS.c) (fun _=>rfl) yd)).w (show Jw prog 162 [D.acc 0,D.str bD.left] 152 2 (yd.map aS.c) (zN.map aS.c)from by simpa only[bS,bG,bV]using tY h209)).a [.ov 1 (zN.map aS.c)]).l (ax aN.c 5 (dc aq) rfl)).w (show(zN.map aS.c).flatten.all D.flat=true from by simpa only[bS,bG,bV]using Dh (c:=aS.c) (fun _=>rfl) zN)).w (show Jw prog 162 [D.acc 0,D.str bD.right] 152 2 (zN.map aS.c) (a3L.map aS.c)from by simpa only[bS,bG,bV]using tY h211)).a [.ov 2 (a3L.map aS.c),.cn [1,3,4] [0,3]]).ct hΓ bq (iS aq hm1) (ih1 (i1+1) a3L (dn aq) h)
theorem EV{aB:aO}{r:aT}(h:qz aB=some r):Good prog 92 [D.agg (aO.c aB)] (D.fr 152 2 (r.map aS.c)):=by
 refine gd func92 [[some (152,2)]] 55 fun hr Γ hΓ=>?_
 rw[qz]at h;refine(aU.a [.cn [1,3,4] [0,1]]).lp hΓ (Fh hΓ (fun bO h=>?_) (by have:=(dS.sl (dS.agg (hr _ (aC (i:=0) rfl)) (.sl (aB.conds.map aN.c)) (by simp))).1;simpa using this) aB.conds 0 ([]:aT) rfl h);have h:=aG h;subst h;exact aU.ret hΓ
def l6(aB:aO)(y1:aT)(k1:aj->Option aj):aj->Nat->aj->Option aj
 | [],i1,cB=>(k1 cB)
 |bD::bn,i1,cB=>((jm bD y1).bind fun I4=>(bif room ((cB.map aN.c).length+([[D.int .i64 I4.kind,D.str I4.pat.rel,D.sl (I4.pat.args.map tx),D.str I4.left,D.str I4.right]]).length) 80 then(l6 aB y1 k1 bn (i1+1) (cB++([I4])))else none))
def qy(aB:aO):Option aj:=((qz aB).bind fun y1=>(l6 aB y1 (fun(bO:aj)=>(some bO)) aB.conds 0 ([]:aj)))
def zn(aB:aO)(y1:aT)(W0:List aR)(cS:Int):St:=⟨[(1,D.ptr 0 0),(3,D.acc 1),(4,D.acc 2),(5,D.int .i64 cS)],[Ob.box (aO.c aB),Ob.row .uq 115 5 W0,Ob.row .uq 152 2 (y1.map aS.c)]⟩
theorem Fg(hΓ:Γ.nt=27){aB:aO}{y1:aT}{r:aj}{k1:aj->Option aj}(cX:∀(bO:aj),k1 bO=some r->Ax Γ N f132 (.q [[some (115,5)]] (D.fr 115 5 (r.map aN.c))) [1,1,1,1] ⟨[(3,D.acc 0)],[Ob.row .uq 115 5 (bO.map aN.c)]⟩)(hm1:aB.conds.length<=maxLen):∀(rest:aj) (i1:Nat) (cB:aj),aB.conds.drop i1=rest->l6 aB y1 k1 rest i1 cB=some r->Ar Γ N f132 (.q [[some (115,5)]] (D.fr 115 5 (r.map aN.c))) [1,1,1,0,1,0] (rest.length+1) (zn aB y1 (cB.map aN.c) (i1:Int)):=by
 intro rest
 induction rest with
 |nil=>
  intro i1 cB aq h;rw[l6]at h;refine aM fun N1 bu bq=>?_
  exact((aU.ge aN.c aq).a [.hl 0 [3] [1]]).ex hΓ bu (cX cB h)
 |cons bD bn ih1=>
  intro i1 cB aq h;rw[l6]at h;refine aM fun N1 bu bq=>?_
  obtain⟨I4,h30,h⟩:=aD h;obtain⟨h31,h⟩:=bX h;exact(((((aU.lt aN.c aq).l (ax aN.c 5 (dc aq) rfl)).g (jK h30)).w (cG h31)).a [.cn [1,3,4,5] [0,5,2]]).cs hΓ bq (zn aB y1 ((cB.map aN.c)++([[D.int .i64 I4.kind,D.str I4.pat.rel,D.sl (I4.pat.args.map tx),D.str I4.left,D.str I4.right]])) (IntKind.i64.wrap ((i1:Int)+1))) (by first| (simp only[iS aq hm1,mA]<;>rfl)| (simp only[iS aq hm1,mA,aE.c,aS.c,aN.c,Action.c,aO.c,aJ.c,cx.c,aP.c,Node.c,aF.c,cy.c]<;>rfl)) (ih1 (i1+1) (cB++([I4])) (dn aq) h)
theorem EU{aB:aO}{r:aj}(h:qy aB=some r):Good prog 132 [D.agg (aO.c aB)] (D.fr 115 5 (r.map aN.c)):=by
 refine gd func132 [[some (115,5)]] 27 fun hr Γ hΓ=>?_
 rw[qy]at h;obtain⟨y1,h2,h⟩:=aD h;refine((aU.g (EV h2)).a [.cn [1,3,4,5] [0,1,2]]).lp hΓ (Fg hΓ (fun bO h=>?_) (by have:=(dS.sl (dS.agg (hr _ (aC (i:=0) rfl)) (.sl (aB.conds.map aN.c)) (by simp))).1;simpa using this) aB.conds 0 ([]:aj) rfl h);have h:=aG h;subst h;exact aU.ret hΓ
def ir(aB:aE)(aV:aE):Option Bool:=(bif (aB.rel:Bytes)==aV.rel then((nP aB.args aV.args).bind fun y2=>(some y2))else(some false))
theorem tG{aB:aE}{aV:aE}{r:Bool}(h:ir aB aV=some r):Good prog 148 [D.agg (aE.c aB),D.agg (aE.c aV)] (D.bool r):=by
 refine gd func148 [[none]] 17 fun hr Γ hΓ=>?_
 rw[ir]at h;obtain⟨h1,h⟩|⟨h1,h⟩:=aL h
 ·obtain⟨y2,h3,h⟩:=aD h;have h:=aG h;subst h;exact(((aU.r 5 h1).g (xz h3)).b h1).ret hΓ
 ·have h:=aG h;subst h;exact(aU.r 6 h1).ret hΓ
def oY(aB:aN)(aV:aN):Option Bool:=(bif (aB.kind:Int)==aV.kind then((ir aB.pat aV.pat).bind fun y2=>(bif y2 then(bif (aB.left:Bytes)==aV.left then(some ((aB.right:Bytes)==aV.right))else(some false))else(some false)))else(some false))
theorem zq{aB:aN}{aV:aN}{r:Bool}(h:oY aB aV=some r):Good prog 149 [D.agg (aN.c aB),D.agg (aN.c aV)] (D.bool r):=by
 refine gd func149 [[none]] 31 fun hr Γ hΓ=>?_
 rw[oY]at h;obtain⟨h1,h⟩|⟨h1,h⟩:=aL h
 ·obtain⟨y2,h3,h⟩:=aD h;have jz:=(((aU.r 5 h1).g (tG h3)).b h1)
  obtain⟨h4,h⟩|⟨h4,h⟩:=aL h
  ·have dJ:=(jz.r 6 h4)
   obtain⟨h5,h⟩|⟨h5,h⟩:=aL h
   ·cases h;exact(dJ.r 6 h5).ret hΓ
   ·have h:=aG h;subst h;exact(dJ.r 6 h5).ret hΓ
  ·have h:=aG h;subst h;exact((jz.r 6 h4).F 6).ret hΓ
 ·have h:=aG h;subst h;exact((aU.r 6 h1).F 12).ret hΓ
def lY(aB:aE)(k1:aT->Option aE):aI->Nat->aT->Option aE
 | [],i1,lm=>(k1 lm)
 |bD::bn,i1,lm=>((pJ lm bD).bind fun lI=>(lY aB k1 bn (i1+1) lI))
def tH(aB:aE):Option aE:=(lY aB (fun(yH:aT)=>((jm (⟨0,aB,[],[]⟩:aN) yH).bind fun Rf=>(some Rf.pat))) aB.args 0 ([]:aT))
def Mo(aB:aE)(W0:List aR)(cS:Int):St:=⟨[(1,D.ptr 0 0),(2,D.ptr 1 0),(3,D.acc 2),(4,D.int .i64 cS)],[Ob.box (aE.c aB),Ob.box [D.str ([]),D.nil],Ob.row .uq 152 2 W0]⟩
theorem LU(hΓ:Γ.nt=25){aB:aE}{r:aE}{k1:aT->Option aE}(cX:∀(yH:aT),k1 yH=some r->Ax Γ N f199 (.q [[none,some (9,1)]] (D.agg [D.str r.rel,D.fr 9 1 (r.args.map tx)])) [1,1,1] ⟨[(1,D.ptr 0 0),(2,D.ptr 1 0),(3,D.acc 2)],[Ob.box (aE.c aB),Ob.box [D.str ([]),D.nil],Ob.row .uq 152 2 (yH.map aS.c)]⟩)(hm1:aB.args.length<=maxLen):∀(rest:aI) (i1:Nat) (lm:aT),aB.args.drop i1=rest->lY aB k1 rest i1 lm=some r->Ar Γ N f199 (.q [[none,some (9,1)]] (D.agg [D.str r.rel,D.fr 9 1 (r.args.map tx)])) [1,1,0,1,0] (rest.length+1) (Mo aB (lm.map aS.c) (i1:Int)):=by
 intro rest
 induction rest with
 |nil=>
  intro i1 lm aq h;rw[lY]at h;refine aM fun N1 bu bq=>?_
  exact((aU.ge tx aq).a [.hl 0 [1,2,3] [0,1,2]]).ex hΓ bu (cX lm h)
 |cons bD bn ih1=>
  intro i1 lm aq h;rw[lY]at h;refine aM fun N1 bu bq=>?_
  obtain⟨lI,h23,h⟩:=aD h;exact(((((aU.lt tx aq).l (ax tx 1 (dc aq) rfl)).w (show(lm.map aS.c).flatten.all D.flat=true from by simpa only[bS,bG,bV]using Dh (c:=aS.c) (fun _=>rfl) lm)).w (show Jw prog 162 [D.acc 0,D.str bD] 152 2 (lm.map aS.c) (lI.map aS.c)from by simpa only[bS,bG,bV]using tY h23)).a [.ov 2 (lI.map aS.c),.cn [1,2,3,4] [0,1,3]]).ct hΓ bq (iS aq hm1) (ih1 (i1+1) lI (dn aq) h)
theorem Am{aB:aE}{r:aE}(h:tH aB=some r):Good prog 199 [D.agg (aE.c aB)] (D.agg [D.str r.rel,D.fr 9 1 (r.args.map tx)]):=by
 refine gd func199 [[none,some (9,1)]] 25 fun hr Γ hΓ=>?_
 rw[tH]at h;refine(aU.a [.cn [1,2,3,4] [0,1,2]]).lp hΓ (LU hΓ (fun yH h=>?_) (by have:=(dS.sl (dS.agg (hr _ (aC (i:=0) rfl)) (.sl (aB.args.map tx)) (by simp))).1;simpa using this) aB.args 0 ([]:aT) rfl h);obtain⟨Rf,h25,h⟩:=aD h;cases h;exact((aU.a [.d (D.agg [D.int .i64 Rf.kind,D.str Rf.pat.rel,D.fr 9 1 (Rf.pat.args.map tx),D.str Rf.left,D.str Rf.right])]).w (show Good prog 177 [D.agg [D.int .i64 0,D.str aB.rel,D.sl (aB.args.map tx),D.str ([]),D.str ([])],D.sl (yH.map aS.c)] (D.agg [D.int .i64 Rf.kind,D.str Rf.pat.rel,D.fr 9 1 (Rf.pat.args.map tx),D.str Rf.left,D.str Rf.right])from by first| (simpa only[bS,bG,bV,dH,cz]using jK h25)|exact jK h25| (have t:=jK h25;simp only[bS,dH,cz,aN.c]at t;exact t))).ret hΓ
def cU(x:aF):aR:=[D.fr 105 4 (x.rules.map aO.c),D.fr 3 1 (x.ends.map dZ),D.fr 111 3 (x.ay.map aP.c),D.fr 118 8 (x.nodes.map Node.c),D.fr 53 2 (x.facts.map aE.c),D.int .i64 x.cK]
def lf(aB:aF)(aV:aE)(k1:Option (aF×Int)):b8->Nat->Option (aF×Int)
 | [],i1=>(k1)
 |bD::bn,i1=>((ir bD.shape aV).bind fun lI=>(bif lI then(some (aB,(i1:Int)))else(lf aB aV k1 bn (i1+1))))
def tJ(aB:aF)(aV:aE):Option (aF×Int):=(bif decide (aB.ay.length<=maxLen)then(lf aB aV (bif room ((aB.ay.map aP.c).length+([[D.str aV.rel,D.sl (aV.args.map tx),D.sl ([])]]).length) 64 then(some ((⟨aB.rules,aB.ends,aB.ay++([(⟨aV,[]⟩:aP)]),aB.nodes,aB.facts,aB.cK⟩:aF),IntKind.i64.wrap ((((aB.ay.map aP.c)++([[D.str aV.rel,D.sl (aV.args.map tx),D.sl ([])]])).length:Int)-1)))else none) aB.ay 0)else none)
def Mw(ey:Value)(aB:aF)(aV:aE)(cS:Int):St:=⟨[(0,D.ptr 0 0),(3,D.ptr 1 0),(5,D.int .i64 cS)],[Ob.PS [D.acc 2,D.acc 3,D.acc 4,D.acc 5,D.acc 6,D.int .i64 aB.cK] ey,Ob.box [D.str aV.rel,D.acc 7],Ob.row .uq 105 4 (aB.rules.map aO.c),Ob.row .uq 3 1 (aB.ends.map dZ),Ob.row .uq 111 3 (aB.ay.map aP.c),Ob.row .uq 118 8 (aB.nodes.map Node.c),Ob.row .uq 53 2 (aB.facts.map aE.c),Ob.row .uq 9 1 (aV.args.map tx)]⟩
theorem LY(hΓ:Γ.nt=43){ey:Value}{aB:aF}{aV:aE}{r:aF×Int}{k1:Option (aF×Int)}(cX:k1=some r->Ax Γ N f198 (.p [[some (105,4),some (3,1),some (111,3),some (118,8),some (53,2),none],[none]] ey (cU r.1) (D.int .i64 r.2)) [1,1] ⟨[(0,D.ptr 0 0),(3,D.ptr 1 0)],[Ob.PS [D.acc 2,D.acc 3,D.acc 4,D.acc 5,D.acc 6,D.int .i64 aB.cK] ey,Ob.box [D.str aV.rel,D.acc 7],Ob.row .uq 105 4 (aB.rules.map aO.c),Ob.row .uq 3 1 (aB.ends.map dZ),Ob.row .uq 111 3 (aB.ay.map aP.c),Ob.row .uq 118 8 (aB.nodes.map Node.c),Ob.row .uq 53 2 (aB.facts.map aE.c),Ob.row .uq 9 1 (aV.args.map tx)]⟩)(hm1:aB.ay.length<=maxLen):∀(rest:b8) (i1:Nat),aB.ay.drop i1=rest->lf aB aV k1 rest i1=some r->Ar Γ N f198 (.p [[some (105,4),some (3,1),some (111,3),some (118,8),some (53,2),none],[none]] ey (cU r.1) (D.int .i64 r.2)) [1,0,1,0] (rest.length+1) (Mw ey aB aV (i1:Int)):=by
 intro rest
 induction rest with
 |nil=>
  intro i1 aq h;rw[lf]at h;refine aM fun N1 bu bq=>?_
  exact((aU.ge aP.c aq).a [.hl 0 [0,3] [0,1,2,3,4,5,6,7]]).ex hΓ bu (cX h)
 |cons bD bn ih1=>
  intro i1 aq h;rw[lf]at h;refine aM fun N1 bu bq=>?_
  obtain⟨lI,h23,h⟩:=aD h;have dJ:=(((((aU.lt aP.c aq).a [.n 9]).i (p9 aP.c 3 (dc aq))).o 3 2 .uq (dB aP.c (dc aq))).g (tG h23))
  obtain⟨h24,h⟩|⟨h24,h⟩:=aL h
  ·cases h;exact(dJ.b h24).ret hΓ
  ·exact((dJ.b h24).a [.cn [0,3,5] [0,1,2,3,4,5,6,7]]).ct hΓ bq (iS aq hm1) (ih1 (i1+1) (dn aq) h)
theorem Aq{aB:aF}{aV:aE}{r:aF×Int}(h:tJ aB aV=some r):BR prog 198 (cU aB) (cU r.1) [D.agg [D.str aV.rel,D.fr 9 1 (aV.args.map tx)]] (D.int .i64 r.2):=by
 refine gdP func198 [[some (105,4),some (3,1),some (111,3),some (118,8),some (53,2),none],[none]] 43 [D.acc 1,D.acc 2,D.acc 3,D.acc 4,D.acc 5,D.int .i64 aB.cK] [D.agg [D.str aV.rel,D.acc 6]] [Ob.row .uq 105 4 (aB.rules.map aO.c),Ob.row .uq 3 1 (aB.ends.map dZ),Ob.row .uq 111 3 (aB.ay.map aP.c),Ob.row .uq 118 8 (aB.nodes.map Node.c),Ob.row .uq 53 2 (aB.facts.map aE.c),Ob.row .uq 9 1 (aV.args.map tx)] fun hr ey Γ hΓ=>?_
 rw[tJ]at h;obtain⟨h27,h⟩:=bX h;refine(aU.a [.cn [0,3,5] [0,7,1,2,3,4,5,6]]).lp hΓ (LY hΓ (fun h=>?_) (bt h27) aB.ay 0 rfl h);obtain⟨h26,h⟩:=bX h;cases h;exact((aU.w (cG h26)).a [.n2 [0,1,2,3,4,5,6,7,8,9,10,11] [0,1,2,3,4,5,6,7,8,9,10,11] 7 9 [0,1,2,3,4] [4,7,8]]).rts hΓ (D.gb [D.int .i64 (IntKind.i64.wrap ((((aB.ay.map aP.c)++([[D.str aV.rel,D.sl (aV.args.map tx),D.sl ([])]])).length:Int)-1)),D.agg [D.fr 105 4 (aB.rules.map aO.c),D.fr 3 1 (aB.ends.map dZ),D.fr 111 3 ((aB.ay.map aP.c)++([[D.str aV.rel,D.sl (aV.args.map tx),D.sl ([])]])),D.fr 118 8 (aB.nodes.map Node.c),D.fr 53 2 (aB.facts.map aE.c),D.int .i64 aB.cK],D.val ey]) (by first|rfl| (simp only[mA]<;>rfl)| (simp only[cU,mA]<;>rfl))
def gA(aB:aF)(aV:Int)(cV:aN)(k1:Option (aF×Int)):Nat->Int->Option (aF×Int)
 |0,_=>none
 |n1+1,Ng=>(bif decide ((Ng:Int)<((aB.nodes.map Node.c).length:Int))then((mC aB.nodes Ng).bind fun x16=>(bif (x16.parent:Int)==aV then((oY x16.cond cV).bind fun y19=>(bif y19 then(some (aB,Ng))else(gA aB aV cV k1 n1 (IntKind.i64.wrap (Ng+1)))))else(gA aB aV cV k1 n1 (IntKind.i64.wrap (Ng+1)))))else(k1))
def w8(aB:aF)(aV:Int)(cV:aN):Option (aF×Int):=(gA aB aV cV ((jv cV).bind fun lI=>(bif (cV.kind:Int)==1 then((tH cV.pat).bind fun Xg=>((tJ aB Xg).bind fun pM=>(bif room ((pM.1.nodes.map Node.c).length+([[D.int .i64 aV,D.int .i64 lI.kind,D.str lI.pat.rel,D.sl (lI.pat.args.map tx),D.str lI.left,D.str lI.right,D.int .i64 pM.2,D.sl ([])]]).length) 120 then(some ((⟨pM.1.rules,pM.1.ends,pM.1.ay,pM.1.nodes++([(⟨aV,lI,pM.2,[]⟩:Node)]),pM.1.facts,pM.1.cK⟩:aF),IntKind.i64.wrap ((((pM.1.nodes.map Node.c)++([[D.int .i64 aV,D.int .i64 lI.kind,D.str lI.pat.rel,D.sl (lI.pat.args.map tx),D.str lI.left,D.str lI.right,D.int .i64 pM.2,D.sl ([])]])).length:Int)-1)))else none)))else(bif (cV.kind:Int)==2 then((tH cV.pat).bind fun Dt=>((tJ aB Dt).bind fun Fy=>(bif room ((Fy.1.nodes.map Node.c).length+([[D.int .i64 aV,D.int .i64 lI.kind,D.str lI.pat.rel,D.sl (lI.pat.args.map tx),D.str lI.left,D.str lI.right,D.int .i64 Fy.2,D.sl ([])]]).length) 120 then(some ((⟨Fy.1.rules,Fy.1.ends,Fy.1.ay,Fy.1.nodes++([(⟨aV,lI,Fy.2,[]⟩:Node)]),Fy.1.facts,Fy.1.cK⟩:aF),IntKind.i64.wrap ((((Fy.1.nodes.map Node.c)++([[D.int .i64 aV,D.int .i64 lI.kind,D.str lI.pat.rel,D.sl (lI.pat.args.map tx),D.str lI.left,D.str lI.right,D.int .i64 Fy.2,D.sl ([])]])).length:Int)-1)))else none)))else(bif room ((aB.nodes.map Node.c).length+([[D.int .i64 aV,D.int .i64 lI.kind,D.str lI.pat.rel,D.sl (lI.pat.args.map tx),D.str lI.left,D.str lI.right,D.int .i64 (-1),D.sl ([])]]).length) 120 then(some ((⟨aB.rules,aB.ends,aB.ay,aB.nodes++([(⟨aV,lI, -1,[]⟩:Node)]),aB.facts,aB.cK⟩:aF),IntKind.i64.wrap ((((aB.nodes.map Node.c)++([[D.int .i64 aV,D.int .i64 lI.kind,D.str lI.pat.rel,D.sl (lI.pat.args.map tx),D.str lI.left,D.str lI.right,D.int .i64 (-1),D.sl ([])]])).length:Int)-1)))else none)))) fuel 1)
def Mx(ey:Value)(aB:aF)(aV:Int)(cV:aN)(Ng:Int):St:=⟨[(0,D.ptr 0 0),(1,D.int .i64 aV),(5,D.ptr 1 0),(7,D.int .i64 Ng)],[Ob.PS [D.acc 2,D.acc 3,D.acc 4,D.acc 5,D.acc 6,D.int .i64 aB.cK] ey,Ob.box (aN.c cV),Ob.row .uq 105 4 (aB.rules.map aO.c),Ob.row .uq 3 1 (aB.ends.map dZ),Ob.row .uq 111 3 (aB.ay.map aP.c),Ob.row .uq 118 8 (aB.nodes.map Node.c),Ob.row .uq 53 2 (aB.facts.map aE.c)]⟩
theorem LZ(hΓ:Γ.nt=75){ey:Value}{aB:aF}{aV:Int}{cV:aN}{r:aF×Int}{k1:Option (aF×Int)}(cX:k1=some r->Ax Γ N f133 (.p [[some (105,4),some (3,1),some (111,3),some (118,8),some (53,2),none],[none]] ey (cU r.1) (D.int .i64 r.2)) [1,1] ⟨[(0,D.ptr 0 0),(1,D.int .i64 aV),(5,D.ptr 1 0)],[Ob.PS [D.acc 2,D.acc 3,D.acc 4,D.acc 5,D.acc 6,D.int .i64 aB.cK] ey,Ob.box (aN.c cV),Ob.row .uq 105 4 (aB.rules.map aO.c),Ob.row .uq 3 1 (aB.ends.map dZ),Ob.row .uq 111 3 (aB.ay.map aP.c),Ob.row .uq 118 8 (aB.nodes.map Node.c),Ob.row .uq 53 2 (aB.facts.map aE.c)]⟩):∀(n1:Nat) (Ng:Int),gA aB aV cV k1 n1 Ng=some r->Ar Γ N f133 (.p [[some (105,4),some (3,1),some (111,3),some (118,8),some (53,2),none],[none]] ey (cU r.1) (D.int .i64 r.2)) [1,0,1,0] n1 (Mx ey aB aV cV Ng):=by
 intro n
 induction n with
 |zero=>intro Ng h;simp[gA]at h
 |succ n1 ih1=>
  intro Ng h;rw[gA]at h;refine aM fun N1 bu bq=>?_
  obtain⟨h15,h⟩|⟨h15,h⟩:=aL h
  ·obtain⟨x16,h17,h⟩:=aD h;have kT:=((((aU.b h15).a [.n 20]).i (xj Node.c 8 h17)).o 8 1 .uq (dB Node.c (tR h17)))
   obtain⟨h18,h⟩|⟨h18,h⟩:=aL h
   ·obtain⟨y19,h20,h⟩:=aD h;have jN:=(((((((kT.r 6 h18).i (xj Node.c 8 h17)).r 2 h18).o 8 6 .uq (dB Node.c (tR h17))).r 2 h18).g (zq h20)).b h18)
    obtain⟨h21,h⟩|⟨h21,h⟩:=aL h
    ·cases h;exact(jN.b h21).ret hΓ
    ·exact((jN.b h21).a [.cn [0,1,5,7] [0,1,2,3,4,5,6]]).cf hΓ bq (ih1 (IntKind.i64.wrap (Ng+1)) h)
   ·exact(((kT.r 11 h18).F 1).a [.cn [0,1,5,7] [0,1,2,3,4,5,6]]).cf hΓ bq (ih1 (IntKind.i64.wrap (Ng+1)) h)
  ·exact((aU.b h15).a [.hl 0 [0,1,5] [0,1,2,3,4,5,6]]).ex hΓ bu (cX h)
theorem Jk{aB:aF}{aV:Int}{cV:aN}{r:aF×Int}(h:w8 aB aV cV=some r):BR prog 133 (cU aB) (cU r.1) [D.int .i64 aV,D.agg (aN.c cV)] (D.int .i64 r.2):=by
 refine gdP func133 [[some (105,4),some (3,1),some (111,3),some (118,8),some (53,2),none],[none]] 75 [D.acc 1,D.acc 2,D.acc 3,D.acc 4,D.acc 5,D.int .i64 aB.cK] [D.int .i64 aV,D.agg [D.int .i64 cV.kind,D.str cV.pat.rel,D.sl (cV.pat.args.map tx),D.str cV.left,D.str cV.right]] [Ob.row .uq 105 4 (aB.rules.map aO.c),Ob.row .uq 3 1 (aB.ends.map dZ),Ob.row .uq 111 3 (aB.ay.map aP.c),Ob.row .uq 118 8 (aB.nodes.map Node.c),Ob.row .uq 53 2 (aB.facts.map aE.c)] fun hr ey Γ hΓ=>?_
 rw[w8]at h;refine(aU.a [.cn [0,1,5,7] [0,6,1,2,3,4,5]]).lp hΓ (LZ hΓ (fun h=>?_) fuel 1 h);obtain⟨lI,h23,h⟩:=aD h;obtain⟨h24,h⟩|⟨h24,h⟩:=aL h
 ·obtain⟨Xg,h26,h⟩:=aD h;obtain⟨pM,h28,h⟩:=aD h;obtain⟨h30,h⟩:=bX h;cases h;exact(((((((aU.g (qF h23)).r 4 h24).T 1).g (Am h26)).hp [[some (105,4),some (3,1),some (111,3),some (118,8),some (53,2),none],[none,some (9,1)]] (Aq h28)).w (cG h30)).a [.n2 [0,1,2,3,4,5,6,7,8,9,10] [0,1,2,3,4,5,6,7,8,9,10] 6 8 [0,1,2,3,4] [7,13,15]]).rts hΓ (D.gb [D.int .i64 (IntKind.i64.wrap ((((pM.1.nodes.map Node.c)++([[D.int .i64 aV,D.int .i64 lI.kind,D.str lI.pat.rel,D.sl (lI.pat.args.map tx),D.str lI.left,D.str lI.right,D.int .i64 pM.2,D.sl ([])]])).length:Int)-1)),D.agg [D.fr 105 4 (pM.1.rules.map aO.c),D.fr 3 1 (pM.1.ends.map dZ),D.fr 111 3 (pM.1.ay.map aP.c),D.fr 118 8 ((pM.1.nodes.map Node.c)++([[D.int .i64 aV,D.int .i64 lI.kind,D.str lI.pat.rel,D.sl (lI.pat.args.map tx),D.str lI.left,D.str lI.right,D.int .i64 pM.2,D.sl ([])]])),D.fr 53 2 (pM.1.facts.map aE.c),D.int .i64 pM.1.cK],D.val ey]) (by first|rfl| (simp only[mA]<;>rfl)| (simp only[cU,mA]<;>rfl))
 ·have uY:=((aU.g (qF h23)).r 4 h24)
  obtain⟨h31,h⟩|⟨h31,h⟩:=aL h
  ·obtain⟨Dt,h33,h⟩:=aD h;obtain⟨Fy,h35,h⟩:=aD h;obtain⟨h37,h⟩:=bX h;cases h;exact(((((uY.b h31).g (Am h33)).hp [[some (105,4),some (3,1),some (111,3),some (118,8),some (53,2),none],[none,some (9,1)]] (Aq h35)).w (cG h37)).a [.n2 [0,1,2,3,4,5,6,7,8,9,10] [0,1,2,3,4,5,6,7,8,9,10] 6 8 [0,1,2,3,4] [7,13,15]]).rts hΓ (D.gb [D.int .i64 (IntKind.i64.wrap ((((Fy.1.nodes.map Node.c)++([[D.int .i64 aV,D.int .i64 lI.kind,D.str lI.pat.rel,D.sl (lI.pat.args.map tx),D.str lI.left,D.str lI.right,D.int .i64 Fy.2,D.sl ([])]])).length:Int)-1)),D.agg [D.fr 105 4 (Fy.1.rules.map aO.c),D.fr 3 1 (Fy.1.ends.map dZ),D.fr 111 3 (Fy.1.ay.map aP.c),D.fr 118 8 ((Fy.1.nodes.map Node.c)++([[D.int .i64 aV,D.int .i64 lI.kind,D.str lI.pat.rel,D.sl (lI.pat.args.map tx),D.str lI.left,D.str lI.right,D.int .i64 Fy.2,D.sl ([])]])),D.fr 53 2 (Fy.1.facts.map aE.c),D.int .i64 Fy.1.cK],D.val ey]) (by first|rfl| (simp only[mA]<;>rfl)| (simp only[cU,mA]<;>rfl))
  ·obtain⟨h39,h⟩:=bX h;cases h;exact(((uY.b h31).w (cG h39)).a [.n2 [0,1,2,3,4,5,6,7,8,9,10] [0,1,2,3,4,5,6,7,8,9,10] 6 8 [0,1,2,3,4] [5,7,9]]).rts hΓ (D.gb [D.int .i64 (IntKind.i64.wrap ((((aB.nodes.map Node.c)++([[D.int .i64 aV,D.int .i64 lI.kind,D.str lI.pat.rel,D.sl (lI.pat.args.map tx),D.str lI.left,D.str lI.right,D.int .i64 (-1),D.sl ([])]])).length:Int)-1)),D.agg [D.fr 105 4 (aB.rules.map aO.c),D.fr 3 1 (aB.ends.map dZ),D.fr 111 3 (aB.ay.map aP.c),D.fr 118 8 ((aB.nodes.map Node.c)++([[D.int .i64 aV,D.int .i64 lI.kind,D.str lI.pat.rel,D.sl (lI.pat.args.map tx),D.str lI.left,D.str lI.right,D.int .i64 (-1),D.sl ([])]])),D.fr 53 2 (aB.facts.map aE.c),D.int .i64 aB.cK],D.val ey]) (by first|rfl| (simp only[mA]<;>rfl)| (simp only[cU,mA]<;>rfl))
def gQ(aB:au)(i1:Nat)(Nj:aj)(k2:Int->Int->au->bJ->b8->az->aQ->Option (aF×Bool)):aj->Nat->Int->Int->au->bJ->b8->az->aQ->Option (aF×Bool)
 | [],i2,tL,oc,D0,ou,wP,wQ,rZ=>(k2 tL oc D0 ou wP wQ rZ)
 |lM::wF,i2,tL,oc,D0,ou,wP,wQ,rZ=>((w8 (⟨D0,ou,wP,wQ,rZ,oc⟩:aF) tL lM).bind fun Er=>(gQ aB i1 Nj k2 wF (i2+1) Er.2 Er.1.cK Er.1.rules Er.1.ends Er.1.ay Er.1.nodes Er.1.facts))
def gP(aB:au)(k1:Int->au->bJ->b8->az->aQ->Option (aF×Bool)):au->Nat->Int->au->bJ->b8->az->aQ->Option (aF×Bool)
 | [],i1,oa,lm,gf,wu,qK,Cz=>(k1 oa lm gf wu qK Cz)
 |bD::bn,i1,oa,lm,gf,wu,qK,Cz=>((qy bD).bind fun Nj=>(bif decide (Nj.length<=maxLen)then(gQ aB i1 Nj (fun(BG:Int) (oZ:Int) (Lp:au) (C3:bJ) (Lr:b8) (vM:az) (Ls:aQ)=>(bif room ((C3.map dZ).length+([[D.int .i64 BG]]).length) 8 then(gP aB k1 bn (i1+1) oZ Lp (C3++([BG])) Lr vM Ls)else none)) Nj 0 0 oa lm gf wu qK Cz)else none))
def oo(aB:au):Option (aF×Bool):=((uJ aB).bind fun y1=>(bif !(y1)then(some ((⟨[],[],[],[],[],0⟩:aF),false))else((qh aB).bind fun y4=>(gP aB (fun(wC:Int) (yH:au) (iI:bJ) (Qz:b8) (rY:az) (wB:aQ)=>(some ((⟨yH,iI,Qz,rY,wB,wC⟩:aF),true))) aB 0 0 y4 ([]:bJ) ([]:b8) ([(⟨-1,(⟨0,(⟨[],[]⟩:aE),[],[]⟩:aN), -1,[(⟨[],[]⟩:aJ)]⟩:Node)]) ([]:aQ)))))
def tT(aB:au)(oa:Int)(W1:List aR)(W2:List aR)(W3:List aR)(W4:List aR)(W5:List aR)(cS:Int):St:=⟨[(0,D.sl (aB.map aO.c)),(2,D.ptr 0 0),(4,D.ptr 1 0),(5,D.int .i64 cS)],[Ob.box [D.nil,D.nil,D.nil,D.nil,D.nil,D.int .i64 0],Ob.box [D.acc 2,D.acc 3,D.acc 4,D.acc 5,D.acc 6,D.int .i64 oa],Ob.row .uq 105 4 W1,Ob.row .uq 3 1 W2,Ob.row .uq 111 3 W3,Ob.row .uq 118 8 W4,Ob.row .uq 53 2 W5]⟩
def ES(aB:au)(i1:Nat)(Nj:aj)(tL:Int)(oc:Int)(W2:List aR)(W3:List aR)(W4:List aR)(W5:List aR)(W6:List aR)(cS:Int):St:=⟨[(0,D.sl (aB.map aO.c)),(2,D.ptr 0 0),(4,D.ptr 1 0),(5,D.int .i64 (i1:Int)),(6,D.int .i64 tL),(7,D.acc 2),(8,D.int .i64 cS)],[Ob.box [D.nil,D.nil,D.nil,D.nil,D.nil,D.int .i64 0],Ob.box [D.acc 3,D.acc 4,D.acc 5,D.acc 6,D.acc 7,D.int .i64 oc],Ob.row .uq 115 5 (Nj.map aN.c),Ob.row .uq 105 4 W2,Ob.row .uq 3 1 W3,Ob.row .uq 111 3 W4,Ob.row .uq 118 8 W5,Ob.row .uq 53 2 W6]⟩
theorem DT(hΓ:Γ.nt=50){aB:au}{i1:Nat}{Nj:aj}{r:aF×Bool}{k2:Int->Int->au->bJ->b8->az->aQ->Option (aF×Bool)}(CV:∀(BG:Int) (oZ:Int) (Lp:au) (C3:bJ) (Lr:b8) (vM:az) (Ls:aQ),k2 BG oZ Lp C3 Lr vM Ls=some r->Ax Γ N f77 (.q [[some (105,4),some (3,1),some (111,3),some (118,8),some (53,2),none],[none]] (D.gb [D.agg [D.fr 105 4 (r.1.rules.map aO.c),D.fr 3 1 (r.1.ends.map dZ),D.fr 111 3 (r.1.ay.map aP.c),D.fr 118 8 (r.1.nodes.map Node.c),D.fr 53 2 (r.1.facts.map aE.c),D.int .i64 r.1.cK],D.bool r.2])) [1,1,1,0,1,0,0,1,0,0,1,1,1] ⟨[(0,D.sl (aB.map aO.c)),(2,D.ptr 0 0),(4,D.ptr 1 0),(5,D.int .i64 (i1:Int)),(6,D.int .i64 BG)],[Ob.box [D.nil,D.nil,D.nil,D.nil,D.nil,D.int .i64 0],Ob.box [D.acc 2,D.acc 3,D.acc 4,D.acc 5,D.acc 6,D.int .i64 oZ],Ob.row .uq 105 4 (Lp.map aO.c),Ob.row .uq 3 1 (C3.map dZ),Ob.row .uq 111 3 (Lr.map aP.c),Ob.row .uq 118 8 (vM.map Node.c),Ob.row .uq 53 2 (Ls.map aE.c)]⟩)(hm2:Nj.length<=maxLen):∀(rest:aj) (i2:Nat) (tL:Int) (oc:Int) (D0:au) (ou:bJ) (wP:b8) (wQ:az) (rZ:aQ),Nj.drop i2=rest->gQ aB i1 Nj k2 rest i2 tL oc D0 ou wP wQ rZ=some r->Ar Γ N f77 (.q [[some (105,4),some (3,1),some (111,3),some (118,8),some (53,2),none],[none]] (D.gb [D.agg [D.fr 105 4 (r.1.rules.map aO.c),D.fr 3 1 (r.1.ends.map dZ),D.fr 111 3 (r.1.ay.map aP.c),D.fr 118 8 (r.1.nodes.map Node.c),D.fr 53 2 (r.1.facts.map aE.c),D.int .i64 r.1.cK],D.bool r.2])) [1,1,1,0,1,0,0,1,0,0,1,1,0,1,0] (rest.length+1) (ES aB i1 Nj tL oc (D0.map aO.c) (ou.map dZ) (wP.map aP.c) (wQ.map Node.c) (rZ.map aE.c) (i2:Int)):=by
 intro rest
 induction rest with
 |nil=>
  intro i2 tL oc D0 ou wP wQ rZ hd2 h;rw[gQ]at h;refine aM fun N2 xM uT=>?_
  exact((aU.ge aN.c hd2).a [.hl 5 [0,2,4,5,6] [0,1,3,4,5,6,7]]).ex hΓ xM (CV tL oc D0 ou wP wQ rZ h)
 |cons lM wF ih2=>
  intro i2 tL oc D0 ou wP wQ rZ hd2 h;rw[gQ]at h;refine aM fun N2 xM uT=>?_
  obtain⟨Er,h212,h⟩:=aD h;exact((((((aU.lt aN.c hd2).i (p9 aN.c 5 (dc hd2))).o 5 5 .uq (dB aN.c (dc hd2))).a [.gp [[some (105,4),some (3,1),some (111,3),some (118,8),some (53,2),none],[none],[none,none,none,none,none]] (cU Er.1) (D.int .i64 Er.2)]).w (show BR prog 133 (cU (⟨D0,ou,wP,wQ,rZ,oc⟩:aF)) (cU Er.1) [D.int .i64 tL,D.agg (aN.c lM)] (D.int .i64 Er.2)from by simpa only[bS,bG,bV,dH,cz]using Jk h212)).a [.cn [0,2,4,5,6,7,8] [0,1,2,8,9,10,11,12]]).ct hΓ uT (iS hd2 hm2) (ih2 (i2+1) Er.2 Er.1.cK Er.1.rules Er.1.ends Er.1.ay Er.1.nodes Er.1.facts (dn hd2) h)
theorem DS(hΓ:Γ.nt=50){aB:au}{r:aF×Bool}{k1:Int->au->bJ->b8->az->aQ->Option (aF×Bool)}(cX:∀(wC:Int) (yH:au) (iI:bJ) (Qz:b8) (rY:az) (wB:aQ),k1 wC yH iI Qz rY wB=some r->Ax Γ N f77 (.q [[some (105,4),some (3,1),some (111,3),some (118,8),some (53,2),none],[none]] (D.gb [D.agg [D.fr 105 4 (r.1.rules.map aO.c),D.fr 3 1 (r.1.ends.map dZ),D.fr 111 3 (r.1.ay.map aP.c),D.fr 118 8 (r.1.nodes.map Node.c),D.fr 53 2 (r.1.facts.map aE.c),D.int .i64 r.1.cK],D.bool r.2])) [1,1,1,1] ⟨[(2,D.ptr 0 0),(4,D.ptr 1 0)],[Ob.box [D.nil,D.nil,D.nil,D.nil,D.nil,D.int .i64 0],Ob.box [D.acc 2,D.acc 3,D.acc 4,D.acc 5,D.acc 6,D.int .i64 wC],Ob.row .uq 105 4 (yH.map aO.c),Ob.row .uq 3 1 (iI.map dZ),Ob.row .uq 111 3 (Qz.map aP.c),Ob.row .uq 118 8 (rY.map Node.c),Ob.row .uq 53 2 (wB.map aE.c)]⟩)(hm1:aB.length<=maxLen):∀(rest:au) (i1:Nat) (oa:Int) (lm:au) (gf:bJ) (wu:b8) (qK:az) (Cz:aQ),aB.drop i1=rest->gP aB k1 rest i1 oa lm gf wu qK Cz=some r->Ar Γ N f77 (.q [[some (105,4),some (3,1),some (111,3),some (118,8),some (53,2),none],[none]] (D.gb [D.agg [D.fr 105 4 (r.1.rules.map aO.c),D.fr 3 1 (r.1.ends.map dZ),D.fr 111 3 (r.1.ay.map aP.c),D.fr 118 8 (r.1.nodes.map Node.c),D.fr 53 2 (r.1.facts.map aE.c),D.int .i64 r.1.cK],D.bool r.2])) [1,1,1,0,1,0] (rest.length+1) (tT aB oa (lm.map aO.c) (gf.map dZ) (wu.map aP.c) (qK.map Node.c) (Cz.map aE.c) (i1:Int)):=by
 intro rest
 induction rest with
 |nil=>
  intro i1 oa lm gf wu qK Cz aq h;rw[gP]at h;refine aM fun N1 bu bq=>?_
  exact((aU.ge aO.c aq).a [.hl 0 [2,4] [0,1,2,3,4,5,6]]).ex hΓ bu (cX oa lm gf wu qK Cz h)
 |cons bD bn ih1=>
  intro i1 oa lm gf wu qK Cz aq h;rw[gP]at h;refine aM fun N1 bu bq=>?_
  obtain⟨Nj,h183,h⟩:=aD h;obtain⟨h214,h⟩:=bX h;refine((((aU.lt aO.c aq).l (ax aO.c 4 (dc aq) rfl)).g (EU h183)).a [.cn [0,2,4,5,6,7,8] [0,1,7,2,3,4,5,6]]).lp hΓ (DT hΓ (fun BG oZ Lp C3 Lr vM Ls h=>?_) (bt h214) Nj 0 0 oa lm gf wu qK Cz rfl h);obtain⟨h213,h⟩:=bX h;exact((aU.w (cG h213)).a [.cn [0,2,4,5] [0,1,2,8,4,5,6]]).cs hΓ bq (tT aB oZ (Lp.map aO.c) ((C3.map dZ)++([[D.int .i64 BG]])) (Lr.map aP.c) (vM.map Node.c) (Ls.map aE.c) (IntKind.i64.wrap ((i1:Int)+1))) (by first| (simp only[iS aq hm1,mA]<;>rfl)| (simp only[iS aq hm1,mA,aE.c,aS.c,aN.c,Action.c,aO.c,aJ.c,cx.c,aP.c,Node.c,aF.c,cy.c]<;>rfl)) (ih1 (i1+1) oZ Lp (C3++([BG])) Lr vM Ls (dn aq) h)
theorem xH{aB:au}{r:aF×Bool}(h:oo aB=some r):Good prog 77 [D.sl (aB.map aO.c)] (D.gb [D.agg [D.fr 105 4 (r.1.rules.map aO.c),D.fr 3 1 (r.1.ends.map dZ),D.fr 111 3 (r.1.ay.map aP.c),D.fr 118 8 (r.1.nodes.map Node.c),D.fr 53 2 (r.1.facts.map aE.c),D.int .i64 r.1.cK],D.bool r.2]):=by
 refine gd func77 [[some (105,4),some (3,1),some (111,3),some (118,8),some (53,2),none],[none]] 50 fun hr Γ hΓ=>?_
 rw[oo]at h;obtain⟨y1,h2,h⟩:=aD h;obtain⟨h3,h⟩|⟨h3,h⟩:=aL h
 ·cases h;exact((aU.g (zl h2)).b h3).ret hΓ
 ·obtain⟨y4,h5,h⟩:=aD h;refine((((aU.g (zl h2)).b h3).g (zu h5)).a [.pb 4 1 3 1,.pb 4 2 111 3,.pb 4 4 53 2,.cn [0,2,4,5] [0,4,1,5,6,3,7]]).Wq hΓ (tT aB 0 (y4.map aO.c) ([]:List aR) ([]:List aR) ([[D.int .i64 (-1),D.int .i64 0,D.str ([]),D.sl ([]),D.str ([]),D.str ([]),D.int .i64 (-1),D.sl ([[D.sl ([]),D.sl ([])]])]]) ([]:List aR) 0) (by first| (simp only[mA]<;>rfl)| (simp only[mA,aE.c,aS.c,aN.c,Action.c,aO.c,aJ.c,cx.c,aP.c,Node.c,aF.c,cy.c]<;>rfl)) (DS hΓ (fun wC yH iI Qz rY wB h=>?_) (by have:=(dS.sl (hr _ (aC (i:=0) rfl))).1;simpa using this) aB 0 0 y4 ([]:bJ) ([]:b8) ([(⟨-1,(⟨0,(⟨[],[]⟩:aE),[],[]⟩:aN), -1,[(⟨[],[]⟩:aJ)]⟩:Node)]) ([]:aQ) rfl h);cases h;exact aU.ret hΓ
def lE(aB:aF)(aV:aF)(k1:Option Bool):b8->Nat->Option Bool
 | [],i1=>(k1)
 |bD::bn,i1=>((mC aV.ay (i1:Int)).bind fun x32=>((ir bD.shape x32.shape).bind fun Fy=>(bif !(Fy)then(some false)else(lE aB aV k1 bn (i1+1)))))
def iw(aB:aF)(aV:aF)(k2:Option Bool):az->Nat->Option Bool
 | [],i2=>(k2)
 |lM::wF,i2=>((mC aV.nodes (i2:Int)).bind fun x73=>(bif (lM.parent:Int) != x73.parent then(some false)else(bif (lM.cP:Int) != x73.cP then(some false)else((oY lM.cond x73.cond).bind fun y77=>(bif !(y77)then(some false)else(iw aB aV k2 wF (i2+1)))))))
def iy(aB:aF)(aV:aF)(k3:Option Bool):bJ->Nat->Option Bool
 | [],i3=>(k3)
 |Vo::Ty,i3=>((mC aV.ends (i3:Int)).bind fun x100=>(bif (Vo:Int) != x100 then(some false)else(iy aB aV k3 Ty (i3+1))))
def rA(aB:aF)(aV:aF):Option Bool:=(bif (((aB.ay.map aP.c).length:Int):Int) != ((aV.ay.map aP.c).length:Int)then(some false)else(bif (((aB.nodes.map Node.c).length:Int):Int) != ((aV.nodes.map Node.c).length:Int)then(some false)else(bif (((aB.ends.map dZ).length:Int):Int) != ((aV.ends.map dZ).length:Int)then(some false)else(lE aB aV (iw aB aV (iy aB aV (some true) aB.ends 0) aB.nodes 0) aB.ay 0))))
def HT(aB:aF)(aV:aF)(cS:Int):St:=⟨[(2,D.ptr 0 0),(3,D.ptr 1 0),(5,D.int .i64 cS)],[Ob.box (aF.c aB),Ob.box (aF.c aV)]⟩
theorem Fp(hΓ:Γ.nt=123){aB:aF}{aV:aF}{r:Bool}{k1:Option Bool}(cX:k1=some r->Ax Γ N f85 (.q [[none]] (D.bool r)) [1,1,1] ⟨[(2,D.ptr 0 0),(3,D.ptr 1 0)],[Ob.box (aF.c aB),Ob.box (aF.c aV)]⟩)(hm1:aB.ay.length<=maxLen):∀(rest:b8) (i1:Nat),aB.ay.drop i1=rest->lE aB aV k1 rest i1=some r->Ar Γ N f85 (.q [[none]] (D.bool r)) [1,1,0,1,0] (rest.length+1) (HT aB aV (i1:Int)):=by
 intro rest
 induction rest with
 |nil=>
  intro i1 aq h;rw[lE]at h;refine aM fun N1 bu bq=>?_
  exact((aU.ge aP.c aq).a [.hl 0 [2,3] [0,1]]).ex hΓ bu (cX h)
 |cons bD bn ih1=>
  intro i1 aq h;rw[lE]at h;refine aM fun N1 bu bq=>?_
  obtain⟨x32,h33,h⟩:=aD h;obtain⟨Fy,h35,h⟩:=aD h;have wX:=(((((aU.lt aP.c aq).a [.n 12]).l (ax aP.c 3 (dc aq) rfl)).l (dV aP.c 3 h33 rfl)).g (tG h35))
  obtain⟨h36,h⟩|⟨h36,h⟩:=aL h
  ·have h:=aG h;subst h;exact(wX.b h36).ret hΓ
  ·exact((wX.b h36).a [.cn [2,3,5] [0,1]]).ct hΓ bq (iS aq hm1) (ih1 (i1+1) (dn aq) h)
def HU(aB:aF)(aV:aF)(cS:Int):St:=⟨[(2,D.ptr 0 0),(3,D.ptr 1 0),(6,D.int .i64 cS)],[Ob.box (aF.c aB),Ob.box (aF.c aV)]⟩
theorem Fq(hΓ:Γ.nt=123){aB:aF}{aV:aF}{r:Bool}{k2:Option Bool}(CV:k2=some r->Ax Γ N f85 (.q [[none]] (D.bool r)) [1,1,1,1] ⟨[(2,D.ptr 0 0),(3,D.ptr 1 0)],[Ob.box (aF.c aB),Ob.box (aF.c aV)]⟩)(hm2:aB.nodes.length<=maxLen):∀(rest:az) (i2:Nat),aB.nodes.drop i2=rest->iw aB aV k2 rest i2=some r->Ar Γ N f85 (.q [[none]] (D.bool r)) [1,1,1,0,1,0] (rest.length+1) (HU aB aV (i2:Int)):=by
 intro rest
 induction rest with
 |nil=>
  intro i2 hd2 h;rw[iw]at h;refine aM fun N2 xM uT=>?_
  exact((aU.ge Node.c hd2).a [.hl 0 [2,3] [0,1]]).ex hΓ xM (CV h)
 |cons lM wF ih2=>
  intro i2 hd2 h;rw[iw]at h;refine aM fun N2 xM uT=>?_
  obtain⟨x73,h74,h⟩:=aD h;have AG:=((((aU.lt Node.c hd2).a [.n 41]).l (ax Node.c 8 (dc hd2) rfl)).l (dV Node.c 8 h74 rfl))
  obtain⟨h75,h⟩|⟨h75,h⟩:=aL h
  ·have h:=aG h;subst h;exact((AG.r 14 h75).T 16).ret hΓ
  ·have D3:=(((((AG.r 4 h75).l (ax Node.c 8 (dc hd2) rfl)).r 6 h75).l (dV Node.c 8 h74 rfl)).r 4 h75)
   obtain⟨h76,h⟩|⟨h76,h⟩:=aL h
   ·have h:=aG h;subst h;exact((D3.r 15 h76).T 1).ret hΓ
   ·obtain⟨y77,h78,h⟩:=aD h;have Hw:=(((((((D3.r 4 h76).l (ax Node.c 8 (dc hd2) rfl)).r 6 h76).l (dV Node.c 8 h74 rfl)).r 3 h76).g (zq h78)).r 2 h76)
    obtain⟨h79,h⟩|⟨h79,h⟩:=aL h
    ·have h:=aG h;subst h;exact(Hw.b h79).ret hΓ
    ·exact((Hw.b h79).a [.cn [2,3,6] [0,1]]).ct hΓ uT (iS hd2 hm2) (ih2 (i2+1) (dn hd2) h)
def HV(aB:aF)(aV:aF)(cS:Int):St:=⟨[(2,D.ptr 0 0),(3,D.ptr 1 0),(7,D.int .i64 cS)],[Ob.box (aF.c aB),Ob.box (aF.c aV)]⟩
theorem Ft(hΓ:Γ.nt=123){aB:aF}{aV:aF}{r:Bool}{k3:Option Bool}(hE3:k3=some r->Ax Γ N f85 (.q [[none]] (D.bool r)) [1,1,1,1,1] ⟨[],[]⟩)(WY:aB.ends.length<=maxLen):∀(rest:bJ) (i3:Nat),aB.ends.drop i3=rest->iy aB aV k3 rest i3=some r->Ar Γ N f85 (.q [[none]] (D.bool r)) [1,1,1,1,0,1,0] (rest.length+1) (HV aB aV (i3:Int)):=by
 intro rest
 induction rest with
 |nil=>
  intro i3 B9 h;rw[iy]at h;refine aM fun N3 Y8 Sy=>?_
  exact((aU.ge dZ B9).a [.hl 0 [] []]).ex hΓ Y8 (hE3 h)
 |cons Vo Ty ih3=>
  intro i3 B9 h;rw[iy]at h;refine aM fun N3 Y8 Sy=>?_
  obtain⟨x100,h101,h⟩:=aD h;have yc:=((((aU.lt dZ B9).a [.n 10]).l (ax dZ 1 (dc B9) rfl)).l (dV dZ 1 h101 rfl))
  obtain⟨h102,h⟩|⟨h102,h⟩:=aL h
  ·have h:=aG h;subst h;exact(yc.b h102).ret hΓ
  ·exact((yc.b h102).a [.cn [2,3,7] [0,1]]).ct hΓ Sy (iS B9 WY) (ih3 (i3+1) (dn B9) h)
theorem Ea{aB:aF}{aV:aF}{r:Bool}(h:rA aB aV=some r):Good prog 85 [D.agg (aF.c aB),D.agg (aF.c aV)] (D.bool r):=by
 refine gd func85 [[none]] 123 fun hr Γ hΓ=>?_
 rw[rA]at h;obtain⟨h1,h⟩|⟨h1,h⟩:=aL h
 ·have h:=aG h;subst h;exact((aU.r 8 h1).T 9).ret hΓ
 ·have Cv:=(aU.r 8 h1)
  obtain⟨h2,h⟩|⟨h2,h⟩:=aL h
  ·have h:=aG h;subst h;exact((Cv.r 8 h2).T 1).ret hΓ
  ·have BB:=(Cv.r 8 h2)
   obtain⟨h3,h⟩|⟨h3,h⟩:=aL h
   ·have h:=aG h;subst h;exact(BB.b h3).ret hΓ
   ·refine((BB.b h3).a [.cn [2,3,5] [0,1]]).lp hΓ (Fp hΓ (fun h=>?_) (by have:=(dS.sl (dS.agg (hr _ (aC (i:=0) rfl)) (.sl (aB.ay.map aP.c)) (by simp))).1;simpa using this) aB.ay 0 rfl h);refine(aU.a [.cn [2,3,6] [0,1]]).lp hΓ (Fq hΓ (fun h=>?_) (by have:=(dS.sl (dS.agg (hr _ (aC (i:=0) rfl)) (.sl (aB.nodes.map Node.c)) (by simp))).1;simpa using this) aB.nodes 0 rfl h);refine(aU.a [.cn [2,3,7] [0,1]]).lp hΓ (Ft hΓ (fun h=>?_) (by have:=(dS.sl (dS.agg (hr _ (aC (i:=0) rfl)) (.sl (aB.ends.map dZ)) (by simp))).1;simpa using this) aB.ends 0 rfl h);have h:=aG h;subst h;exact aU.ret hΓ
def jb(aB:aT)(k1:Option Bool):aT->Nat->Option Bool
 | [],i1=>(k1)
 |bD::bn,i1=>((iF bD.var).bind fun Ju=>(bif !(Ju)then(some false)else((fL bD.value).bind fun y52=>(bif !(y52)then(some false)else(bif decide (((i1:Int):Int)>0)then((mC aB (IntKind.i64.wrap ((i1:Int)-1))).bind fun x56=>(bif !(Op.bytesLess x56.var bD.var)then(some false)else(jb aB k1 bn (i1+1))))else(jb aB k1 bn (i1+1)))))))
def kx(aB:aT):Option Bool:=(jb aB (some (decide ((((aB.map aS.c).length:Int):Int)<=6))) aB 0)
def JU(aB:aT)(cS:Int):St:=⟨[(0,D.sl (aB.map aS.c)),(3,D.int .i64 cS)],[]⟩
theorem HG(hΓ:Γ.nt=47){aB:aT}{r:Bool}{k1:Option Bool}(cX:k1=some r->Ax Γ N f226 (.q [[none]] (D.bool r)) [1,1] ⟨[(0,D.sl (aB.map aS.c))],[]⟩)(hm1:aB.length<=maxLen):∀(rest:aT) (i1:Nat),aB.drop i1=rest->jb aB k1 rest i1=some r->Ar Γ N f226 (.q [[none]] (D.bool r)) [1,0,1,0] (rest.length+1) (JU aB (i1:Int)):=by
 intro rest
 induction rest with
 |nil=>
  intro i1 aq h;rw[jb]at h;refine aM fun N1 bu bq=>?_
  exact((aU.ge aS.c aq).a [.hl 0 [0] []]).ex hΓ bu (cX h)
 |cons bD bn ih1=>
  intro i1 aq h;rw[jb]at h;refine aM fun N1 bu bq=>?_
  obtain⟨Ju,h50,h⟩:=aD h;have uY:=((((aU.lt aS.c aq).a [.n 31]).l (ax aS.c 2 (dc aq) rfl)).g (fy h50))
  obtain⟨h51,h⟩|⟨h51,h⟩:=aL h
  ·have h:=aG h;subst h;exact((((uY.r 8 h51).T 3).a [bF,bF,bF,bF,bF,bF,bF,bF,bF,bF,bF,bF]).T 3).ret hΓ
  ·obtain⟨y52,h53,h⟩:=aD h;have wX:=(((((uY.r 3 h51).l (ax aS.c 2 (dc aq) rfl)).r 3 h51).g (eW h53)).r 2 h51)
   obtain⟨h54,h⟩|⟨h54,h⟩:=aL h
   ·have h:=aG h;subst h;exact((((wX.r 3 h54).a [bF,bF,bF,bF,bF,bF,bF,bF,bF,bF,bF,bF]).r 2 h54).T 1).ret hΓ
   ·have AG:=(wX.r 3 h54)
    obtain⟨h55,h⟩|⟨h55,h⟩:=aL h
    ·obtain⟨x56,h57,h⟩:=aD h;have D3:=((((((((AG.r 4 h55).l (dV aS.c 2 h57 rfl)).r 5 h55).l (ax aS.c 2 (dc aq) rfl)).r 3 h55).b h54).b h55).b h54)
     obtain⟨h58,h⟩|⟨h58,h⟩:=aL h
     ·have h:=aG h;subst h;exact(D3.b h58).ret hΓ
     ·exact((D3.b h58).a [.cn [0,3] []]).ct hΓ bq (iS aq hm1) (ih1 (i1+1) (dn aq) h)
    ·exact((((((AG.r 12 h55).b h54).b h55).b h54).F 1).a [.cn [0,3] []]).ct hΓ bq (iS aq hm1) (ih1 (i1+1) (dn aq) h)
theorem mh{aB:aT}{r:Bool}(h:kx aB=some r):Good prog 226 [D.sl (aB.map aS.c)] (D.bool r):=by
 refine gd func226 [[none]] 47 fun hr Γ hΓ=>?_
 rw[kx]at h;refine(aU.a [.cn [0,3] []]).lp hΓ (HG hΓ (fun h=>?_) (by have:=(dS.sl (hr _ (aC (i:=0) rfl))).1;simpa using this) aB 0 rfl h);cases h;exact aU.ret hΓ
def iG(aB:aT)(aV:Bytes)(k1:Option (Bytes×Bool)):aT->Nat->Option (Bytes×Bool)
 | [],i1=>(k1)
 |bD::bn,i1=>(bif (bD.var:Bytes)==aV then((iF aV).bind fun I4=>(bif I4 then(some (bD.value,true))else(iG aB aV k1 bn (i1+1))))else(iG aB aV k1 bn (i1+1)))
def qD(aB:aT)(aV:Bytes):Option (Bytes×Bool):=((fL aV).bind fun y1=>(bif y1 then(some (aV,true))else(iG aB aV (some ([],false)) aB 0)))
def Mp(aB:aT)(aV:Bytes)(cS:Int):St:=⟨[(0,D.sl (aB.map aS.c)),(1,D.str aV),(6,D.int .i64 cS)],[]⟩
theorem LV(hΓ:Γ.nt=32){aB:aT}{aV:Bytes}{r:Bytes×Bool}{k1:Option (Bytes×Bool)}(cX:k1=some r->Ax Γ N f163 (.q [[none],[none]] (D.gb [D.str r.1,D.bool r.2])) [1,1,1] ⟨[],[]⟩)(hm1:aB.length<=maxLen):∀(rest:aT) (i1:Nat),aB.drop i1=rest->iG aB aV k1 rest i1=some r->Ar Γ N f163 (.q [[none],[none]] (D.gb [D.str r.1,D.bool r.2])) [1,1,0,1,0] (rest.length+1) (Mp aB aV (i1:Int)):=by
 intro rest
 induction rest with
 |nil=>
  intro i1 aq h;rw[iG]at h;refine aM fun N1 bu bq=>?_
  exact((aU.ge aS.c aq).a [.hl 0 [] []]).ex hΓ bu (cX h)
 |cons bD bn ih1=>
  intro i1 aq h;rw[iG]at h;refine aM fun N1 bu bq=>?_
  have kT:=((aU.lt aS.c aq).l (ax aS.c 2 (dc aq) rfl))
  obtain⟨h28,h⟩|⟨h28,h⟩:=aL h
  ·obtain⟨I4,h30,h⟩:=aD h;have jN:=(((kT.r 2 h28).g (fy h30)).b h28)
   obtain⟨h31,h⟩|⟨h31,h⟩:=aL h
   ·cases h;exact((jN.b h31).l (ax aS.c 2 (dc aq) rfl)).ret hΓ
   ·exact((jN.b h31).a [.cn [0,1,6] []]).ct hΓ bq (iS aq hm1) (ih1 (i1+1) (dn aq) h)
  ·exact(((kT.r 3 h28).F 1).a [.cn [0,1,6] []]).ct hΓ bq (iS aq hm1) (ih1 (i1+1) (dn aq) h)
theorem wm{aB:aT}{aV:Bytes}{r:Bytes×Bool}(h:qD aB aV=some r):Good prog 163 [D.sl (aB.map aS.c),D.str aV] (D.gb [D.str r.1,D.bool r.2]):=by
 refine gd func163 [[none],[none]] 32 fun hr Γ hΓ=>?_
 rw[qD]at h;obtain⟨y1,h2,h⟩:=aD h;obtain⟨h3,h⟩|⟨h3,h⟩:=aL h
 ·cases h;exact((aU.g (eW h2)).b h3).ret hΓ
 ·refine(((aU.g (eW h2)).b h3).a [.cn [0,1,6] []]).lp hΓ (LV hΓ (fun h=>?_) (by have:=(dS.sl (hr _ (aC (i:=0) rfl))).1;simpa using this) aB 0 rfl h);cases h;exact aU.ret hΓ
def mU(aB:aT)(aV:Bytes)(cV:Bytes)(k1:Bool->aT->Option aT):aT->Nat->Bool->aT->Option aT
 | [],i1,I3,bC=>(k1 I3 bC)
 |bD::bn,i1,I3,bC=>(bif !(I3)then(bif !(Op.bytesLess bD.var aV||(bD.var:Bytes)==aV)then(bif room ((bC.map aS.c).length+([[D.str aV,D.str cV]]).length) 32 then(bif room (((bC.map aS.c)++([[D.str aV,D.str cV]])).length+([[D.str bD.var,D.str bD.value]]).length) 32 then(mU aB aV cV k1 bn (i1+1) true ((bC++([(⟨aV,cV⟩:aS)]))++([bD])))else none)else none)else(bif room ((bC.map aS.c).length+([[D.str bD.var,D.str bD.value]]).length) 32 then(mU aB aV cV k1 bn (i1+1) I3 (bC++([bD])))else none))else(bif room ((bC.map aS.c).length+([[D.str bD.var,D.str bD.value]]).length) 32 then(mU aB aV cV k1 bn (i1+1) I3 (bC++([bD])))else none))
def ya(aB:aT)(aV:Bytes)(cV:Bytes):Option aT:=(mU aB aV cV (fun(a3P:Bool) (bO:aT)=>(bif !(a3P)then(bif room ((bO.map aS.c).length+([[D.str aV,D.str cV]]).length) 32 then(some (bO++([(⟨aV,cV⟩:aS)])))else none)else(some bO))) aB 0 false ([]:aT))
def xS(aB:aT)(aV:Bytes)(cV:Bytes)(I3:Bool)(W1:List aR)(cS:Int):St:=⟨[(0,D.sl (aB.map aS.c)),(1,D.str aV),(2,D.str cV),(7,D.acc 0),(8,D.bool I3),(9,D.int .i64 cS)],[Ob.row .uq 152 2 W1]⟩
theorem OF(hΓ:Γ.nt=50){aB:aT}{aV:Bytes}{cV:Bytes}{r:aT}{k1:Bool->aT->Option aT}(cX:∀(a3P:Bool) (bO:aT),k1 a3P bO=some r->Ax Γ N f164 (.q [[some (152,2)]] (D.fr 152 2 (r.map aS.c))) [1,1,1,1] ⟨[(1,D.str aV),(2,D.str cV),(7,D.acc 0),(8,D.bool a3P)],[Ob.row .uq 152 2 (bO.map aS.c)]⟩)(hm1:aB.length<=maxLen):∀(rest:aT) (i1:Nat) (I3:Bool) (bC:aT),aB.drop i1=rest->mU aB aV cV k1 rest i1 I3 bC=some r->Ar Γ N f164 (.q [[some (152,2)]] (D.fr 152 2 (r.map aS.c))) [1,1,1,0,1,0] (rest.length+1) (xS aB aV cV I3 (bC.map aS.c) (i1:Int)):=by
 intro rest
 induction rest with
 |nil=>
  intro i1 I3 bC aq h;rw[mU]at h;refine aM fun N1 bu bq=>?_
  exact((aU.ge aS.c aq).a [.hl 0 [1,2,7,8] [0]]).ex hΓ bu (cX I3 bC h)
 |cons bD bn ih1=>
  intro i1 I3 bC aq h;rw[mU]at h;refine aM fun N1 bu bq=>?_
  obtain⟨h48,h⟩|⟨h48,h⟩:=aL h
  ·have dJ:=((((aU.lt aS.c aq).r 3 h48).l (ax aS.c 2 (dc aq) rfl)).r 5 h48)
   obtain⟨h49,h⟩|⟨h49,h⟩:=aL h
   ·obtain⟨h50,h⟩:=bX h;obtain⟨h51,h⟩:=bX h;exact(((((dJ.b h49).w (cG h50)).l (ax aS.c 2 (dc aq) rfl)).w (cG h51)).a [.cn [0,1,2,7,8,9] [4]]).cs hΓ bq (xS aB aV cV true (((bC.map aS.c)++([[D.str aV,D.str cV]]))++([[D.str bD.var,D.str bD.value]])) (IntKind.i64.wrap ((i1:Int)+1))) (by first| (simp only[iS aq hm1,mA]<;>rfl)| (simp only[iS aq hm1,mA,aE.c,aS.c,aN.c,Action.c,aO.c,aJ.c,cx.c,aP.c,Node.c,aF.c,cy.c]<;>rfl)) (ih1 (i1+1) true ((bC++([(⟨aV,cV⟩:aS)]))++([bD])) (dn aq) h)
   ·obtain⟨h52,h⟩:=bX h;exact((((dJ.b h49).l (ax aS.c 2 (dc aq) rfl)).w (cG h52)).a [.cn [0,1,2,7,8,9] [2]]).cs hΓ bq (xS aB aV cV I3 ((bC.map aS.c)++([[D.str bD.var,D.str bD.value]])) (IntKind.i64.wrap ((i1:Int)+1))) (by first| (simp only[iS aq hm1,mA]<;>rfl)| (simp only[iS aq hm1,mA,aE.c,aS.c,aN.c,Action.c,aO.c,aJ.c,cx.c,aP.c,Node.c,aF.c,cy.c]<;>rfl)) (ih1 (i1+1) I3 (bC++([bD])) (dn aq) h)
  ·obtain⟨h53,h⟩:=bX h;exact((((((aU.lt aS.c aq).r 8 h48).F 1).l (ax aS.c 2 (dc aq) rfl)).w (cG h53)).a [.cn [0,1,2,7,8,9] [2]]).cs hΓ bq (xS aB aV cV I3 ((bC.map aS.c)++([[D.str bD.var,D.str bD.value]])) (IntKind.i64.wrap ((i1:Int)+1))) (by first| (simp only[iS aq hm1,mA]<;>rfl)| (simp only[iS aq hm1,mA,aE.c,aS.c,aN.c,Action.c,aO.c,aJ.c,cx.c,aP.c,Node.c,aF.c,cy.c]<;>rfl)) (ih1 (i1+1) I3 (bC++([bD])) (dn aq) h)
theorem Mr{aB:aT}{aV:Bytes}{cV:Bytes}{r:aT}(h:ya aB aV cV=some r):Good prog 164 [D.sl (aB.map aS.c),D.str aV,D.str cV] (D.fr 152 2 (r.map aS.c)):=by
 refine gd func164 [[some (152,2)]] 50 fun hr Γ hΓ=>?_
 rw[ya]at h;refine(aU.a [.cn [0,1,2,7,8,9] [0]]).lp hΓ (OF hΓ (fun a3P bO h=>?_) (by have:=(dS.sl (hr _ (aC (i:=0) rfl))).1;simpa using this) aB 0 false ([]:aT) rfl h);obtain⟨h54,h⟩|⟨h54,h⟩:=aL h
 ·obtain⟨h55,h⟩:=bX h;cases h;exact((aU.b h54).w (cG h55)).rts hΓ (D.fr 152 2 ((bO.map aS.c)++([[D.str aV,D.str cV]]))) (by first|rfl| (simp only[mA]<;>rfl)| (simp only[cU,mA]<;>rfl))
 ·have h:=aG h;subst h;exact(aU.b h54).ret hΓ
def ur(aB:aT)(aV:Bytes)(cV:Bytes):Option (aT×Bool):=((kx aB).bind fun y1=>(bif !(y1)then(some (([]:aT),false))else((iF aV).bind fun y4=>(bif !(y4)then(some (([]:aT),false))else((fL cV).bind fun y7=>(bif !(y7)then(some (([]:aT),false))else((qD aB aV).bind fun Oa=>(bif Oa.2 then(bif (Oa.1:Bytes)==cV then((rT aB).bind fun U6=>(some (U6,true)))else(some (([]:aT),false)))else(bif (((aB.map aS.c).length:Int):Int)==6 then(some (([]:aT),false))else((ya aB aV cV).bind fun P6=>(some (P6,true))))))))))))
theorem LJ{aB:aT}{aV:Bytes}{cV:Bytes}{r:aT×Bool}(h:ur aB aV cV=some r):Good prog 228 [D.sl (aB.map aS.c),D.str aV,D.str cV] (D.gb [D.fr 152 2 (r.1.map aS.c),D.bool r.2]):=by
 refine gd func228 [[some (152,2)],[none]] 49 fun hr Γ hΓ=>?_
 rw[ur]at h;obtain⟨y1,h2,h⟩:=aD h;obtain⟨h3,h⟩|⟨h3,h⟩:=aL h
 ·cases h;exact(((aU.g (mh h2)).r 4 h3).T 5).ret hΓ
 ·obtain⟨y4,h5,h⟩:=aD h;have jz:=((((aU.g (mh h2)).r 2 h3).g (fy h5)).r 2 h3)
  obtain⟨h6,h⟩|⟨h6,h⟩:=aL h
  ·cases h;exact((jz.r 4 h6).T 1).ret hΓ
  ·obtain⟨y7,h8,h⟩:=aD h;have dJ:=(((jz.r 2 h6).g (eW h8)).r 2 h6)
   obtain⟨h9,h⟩|⟨h9,h⟩:=aL h
   ·cases h;exact(dJ.b h9).ret hΓ
   ·obtain⟨Oa,h11,h⟩:=aD h;have kT:=((dJ.b h9).g (wm h11))
    obtain⟨h12,h⟩|⟨h12,h⟩:=aL h
    ·have jN:=(kT.r 4 h12)
     obtain⟨h13,h⟩|⟨h13,h⟩:=aL h
     ·obtain⟨U6,h15,h⟩:=aD h;cases h;exact((jN.b h13).g (xf h15)).ret hΓ
     ·cases h;exact(((jN.b h13).r 4 h12).T 1).ret hΓ
    ·have uY:=(((kT.r 4 h12).F 1).r 4 h12)
     obtain⟨h16,h⟩|⟨h16,h⟩:=aL h
     ·cases h;exact(uY.b h16).ret hΓ
     ·obtain⟨P6,h18,h⟩:=aD h;cases h;exact((uY.b h16).g (Mr h18)).ret hΓ
def je(aB:aE)(aV:aE)(k1:aT->Option (aT×Bool)):aI->Nat->aT->Option (aT×Bool)
 | [],i1,lm=>(k1 lm)
 |bD::bn,i1,lm=>((fL bD).bind fun y80=>(bif y80 then((mC aV.args (i1:Int)).bind fun x83=>(bif !((bD:Bytes)==x83)then(some (([]:aT),false))else(je aB aV k1 bn (i1+1) lm)))else((mC aV.args (i1:Int)).bind fun x86=>((ur lm bD x86).bind fun y88=>(bif !(y88.2)then(some (([]:aT),false))else(je aB aV k1 bn (i1+1) y88.1))))))
def jI(aB:aE)(aV:aE)(cV:aT):Option (aT×Bool):=((jH aB).bind fun y1=>(bif !(y1)then(some (([]:aT),false))else((rQ aV).bind fun y4=>(bif !(y4)then(some (([]:aT),false))else((kx cV).bind fun y7=>(bif !(y7)then(some (([]:aT),false))else(bif !((aB.rel:Bytes)==aV.rel)then(some (([]:aT),false))else(bif (((aB.args.map tx).length:Int):Int) != ((aV.args.map tx).length:Int)then(some (([]:aT),false))else((rT cV).bind fun y12=>(je aB aV (fun(bO:aT)=>(some (bO,true))) aB.args 0 y12))))))))))
def JY(aB:aE)(aV:aE)(W0:List aR)(cS:Int):St:=⟨[(3,D.ptr 0 0),(4,D.ptr 1 0),(8,D.acc 2),(9,D.int .i64 cS)],[Ob.box (aE.c aB),Ob.box (aE.c aV),Ob.row .uq 152 2 W0]⟩
theorem HK(hΓ:Γ.nt=89){aB:aE}{aV:aE}{r:aT×Bool}{k1:aT->Option (aT×Bool)}(cX:∀(bO:aT),k1 bO=some r->Ax Γ N f151 (.q [[some (152,2)],[none]] (D.gb [D.fr 152 2 (r.1.map aS.c),D.bool r.2])) [1,1,1,1] ⟨[(8,D.acc 0)],[Ob.row .uq 152 2 (bO.map aS.c)]⟩)(hm1:aB.args.length<=maxLen):∀(rest:aI) (i1:Nat) (lm:aT),aB.args.drop i1=rest->je aB aV k1 rest i1 lm=some r->Ar Γ N f151 (.q [[some (152,2)],[none]] (D.gb [D.fr 152 2 (r.1.map aS.c),D.bool r.2])) [1,1,1,0,1,0] (rest.length+1) (JY aB aV (lm.map aS.c) (i1:Int)):=by
 intro rest
 induction rest with
 |nil=>
  intro i1 lm aq h;rw[je]at h;refine aM fun N1 bu bq=>?_
  exact((aU.ge tx aq).a [.hl 0 [8] [2]]).ex hΓ bu (cX lm h)
 |cons bD bn ih1=>
  intro i1 lm aq h;rw[je]at h;refine aM fun N1 bu bq=>?_
  obtain⟨y80,h81,h⟩:=aD h;have jN:=(((aU.lt tx aq).l (ax tx 1 (dc aq) rfl)).g (eW h81))
  obtain⟨h82,h⟩|⟨h82,h⟩:=aL h
  ·obtain⟨x83,h84,h⟩:=aD h;have uY:=((((jN.b h82).a [.n 10]).l (ax tx 1 (dc aq) rfl)).l (dV tx 1 h84 rfl))
   obtain⟨h85,h⟩|⟨h85,h⟩:=aL h
   ·cases h;exact(uY.b h85).ret hΓ
   ·exact((uY.b h85).a [.cn [3,4,8,9] [0,1,2]]).ct hΓ bq (iS aq hm1) (ih1 (i1+1) lm (dn aq) h)
  ·obtain⟨x86,h87,h⟩:=aD h;obtain⟨y88,h89,h⟩:=aD h;have wX:=(((((jN.b h82).a [.n 16]).l (ax tx 1 (dc aq) rfl)).l (dV tx 1 h87 rfl)).g (LJ h89))
   obtain⟨h90,h⟩|⟨h90,h⟩:=aL h
   ·cases h;exact(wX.b h90).ret hΓ
   ·exact((wX.b h90).a [.cn [3,4,8,9] [0,1,3]]).ct hΓ bq (iS aq hm1) (ih1 (i1+1) y88.1 (dn aq) h)
theorem qQ{aB:aE}{aV:aE}{cV:aT}{r:aT×Bool}(h:jI aB aV cV=some r):Good prog 151 [D.agg (aE.c aB),D.agg (aE.c aV),D.sl (cV.map aS.c)] (D.gb [D.fr 152 2 (r.1.map aS.c),D.bool r.2]):=by
 refine gd func151 [[some (152,2)],[none]] 89 fun hr Γ hΓ=>?_
 rw[jI]at h;obtain⟨y1,h2,h⟩:=aD h;obtain⟨h3,h⟩|⟨h3,h⟩:=aL h
 ·cases h;exact(((aU.g (jr h2)).r 4 h3).T 19).ret hΓ
 ·obtain⟨y4,h5,h⟩:=aD h;have AG:=((((aU.g (jr h2)).r 2 h3).g (Bp h5)).r 2 h3)
  obtain⟨h6,h⟩|⟨h6,h⟩:=aL h
  ·cases h;exact((AG.r 4 h6).T 15).ret hΓ
  ·obtain⟨y7,h8,h⟩:=aD h;have D3:=(((AG.r 2 h6).g (mh h8)).r 2 h6)
   obtain⟨h9,h⟩|⟨h9,h⟩:=aL h
   ·cases h;exact((D3.r 6 h9).T 9).ret hΓ
   ·have Hw:=(D3.r 6 h9)
    obtain⟨h10,h⟩|⟨h10,h⟩:=aL h
    ·cases h;exact((Hw.r 8 h10).T 1).ret hΓ
    ·have yc:=(Hw.r 8 h10)
     obtain⟨h11,h⟩|⟨h11,h⟩:=aL h
     ·cases h;exact(yc.b h11).ret hΓ
     ·obtain⟨y12,h13,h⟩:=aD h;refine(((yc.b h11).g (xf h13)).a [.cn [3,4,8,9] [0,1,2]]).lp hΓ (HK hΓ (fun bO h=>?_) (by have:=(dS.sl (dS.agg (hr _ (aC (i:=0) rfl)) (.sl (aB.args.map tx)) (by simp))).1;simpa using this) aB.args 0 y12 rfl h);cases h;exact aU.ret hΓ
def fm(aB:aE)(aV:aT)(cV:aQ)(k1:aQ->Option aQ):aQ->Nat->aQ->Option aQ
 | [],i1,cB=>(k1 cB)
 |bD::bn,i1,cB=>((jI aB bD aV).bind fun Yl=>(bif Yl.2 then((ju bD).bind fun D2=>(bif room ((cB.map aE.c).length+([[D.str D2.rel,D.sl (D2.args.map tx)]]).length) 40 then(fm aB aV cV k1 bn (i1+1) (cB++([D2])))else none))else(fm aB aV cV k1 bn (i1+1) cB)))
def gI(aB:aE)(aV:aT)(cV:aQ):Option aQ:=(fm aB aV cV (fun(bO:aQ)=>(some bO)) cV 0 ([]:aQ))
def xy(aB:aE)(aV:aT)(cV:aQ)(W0:List aR)(cS:Int):St:=⟨[(1,D.sl (aV.map aS.c)),(2,D.sl (cV.map aE.c)),(3,D.ptr 0 0),(7,D.acc 1),(8,D.int .i64 cS)],[Ob.box (aE.c aB),Ob.row .uq 53 2 W0]⟩
theorem Cl(hΓ:Γ.nt=38){aB:aE}{aV:aT}{cV:aQ}{r:aQ}{k1:aQ->Option aQ}(cX:∀(bO:aQ),k1 bO=some r->Ax Γ N f87 (.q [[some (53,2)]] (D.fr 53 2 (r.map aE.c))) [1,1,1] ⟨[(7,D.acc 0)],[Ob.row .uq 53 2 (bO.map aE.c)]⟩)(hm1:cV.length<=maxLen):∀(rest:aQ) (i1:Nat) (cB:aQ),cV.drop i1=rest->fm aB aV cV k1 rest i1 cB=some r->Ar Γ N f87 (.q [[some (53,2)]] (D.fr 53 2 (r.map aE.c))) [1,1,0,1,0] (rest.length+1) (xy aB aV cV (cB.map aE.c) (i1:Int)):=by
 intro rest
 induction rest with
 |nil=>
  intro i1 cB aq h;rw[fm]at h;refine aM fun N1 bu bq=>?_
  exact((aU.ge aE.c aq).a [.hl 0 [7] [1]]).ex hΓ bu (cX cB h)
 |cons bD bn ih1=>
  intro i1 cB aq h;rw[fm]at h;refine aM fun N1 bu bq=>?_
  obtain⟨Yl,h43,h⟩:=aD h;have dJ:=((((aU.lt aE.c aq).a [.n 11]).l (ax aE.c 2 (dc aq) rfl)).g (qQ h43))
  obtain⟨h44,h⟩|⟨h44,h⟩:=aL h
  ·obtain⟨D2,h46,h⟩:=aD h;obtain⟨h47,h⟩:=bX h;exact(((((dJ.b h44).l (ax aE.c 2 (dc aq) rfl)).g (tW h46)).w (cG h47)).a [.cn [1,2,3,7,8] [0,5]]).cs hΓ bq (xy aB aV cV ((cB.map aE.c)++([[D.str D2.rel,D.sl (D2.args.map tx)]])) (IntKind.i64.wrap ((i1:Int)+1))) (by first| (simp only[iS aq hm1,mA]<;>rfl)| (simp only[iS aq hm1,mA,aE.c,aS.c,aN.c,Action.c,aO.c,aJ.c,cx.c,aP.c,Node.c,aF.c,cy.c]<;>rfl)) (ih1 (i1+1) (cB++([D2])) (dn aq) h)
  ·exact((dJ.b h44).a [.cn [1,2,3,7,8] [0,1]]).ct hΓ bq (iS aq hm1) (ih1 (i1+1) cB (dn aq) h)
theorem gJ{aB:aE}{aV:aT}{cV:aQ}{r:aQ}(h:gI aB aV cV=some r):Good prog 87 [D.agg (aE.c aB),D.sl (aV.map aS.c),D.sl (cV.map aE.c)] (D.fr 53 2 (r.map aE.c)):=by
 refine gd func87 [[some (53,2)]] 38 fun hr Γ hΓ=>?_
 rw[gI]at h;refine(aU.a [.cn [1,2,3,7,8] [0,1]]).lp hΓ (Cl hΓ (fun bO h=>?_) (by have:=(dS.sl (hr _ (aC (i:=2) rfl))).1;simpa using this) cV 0 ([]:aQ) rfl h);have h:=aG h;subst h;exact aU.ret hΓ
def mQ(aB:aQ)(aV:aQ)(k1:Option Bool):aQ->Nat->Option Bool
 | [],i1=>(k1)
 |bD::bn,i1=>((mC aV (i1:Int)).bind fun x30=>((pH bD x30).bind fun Dt=>(bif !(Dt)then(some false)else(mQ aB aV k1 bn (i1+1)))))
def nO(aB:aQ)(aV:aQ):Option Bool:=(bif (((aB.map aE.c).length:Int):Int) != ((aV.map aE.c).length:Int)then(some false)else(mQ aB aV (some true) aB 0))
def Je(aB:aQ)(aV:aQ)(cS:Int):St:=⟨[(0,D.sl (aB.map aE.c)),(1,D.sl (aV.map aE.c)),(5,D.int .i64 cS)],[]⟩
theorem HO(hΓ:Γ.nt=27){aB:aQ}{aV:aQ}{r:Bool}{k1:Option Bool}(cX:k1=some r->Ax Γ N f86 (.q [[none]] (D.bool r)) [1,1,1] ⟨[],[]⟩)(hm1:aB.length<=maxLen):∀(rest:aQ) (i1:Nat),aB.drop i1=rest->mQ aB aV k1 rest i1=some r->Ar Γ N f86 (.q [[none]] (D.bool r)) [1,1,0,1,0] (rest.length+1) (Je aB aV (i1:Int)):=by
 intro rest
 induction rest with
 |nil=>
  intro i1 aq h;rw[mQ]at h;refine aM fun N1 bu bq=>?_
  exact((aU.ge aE.c aq).a [.hl 0 [] []]).ex hΓ bu (cX h)
 |cons bD bn ih1=>
  intro i1 aq h;rw[mQ]at h;refine aM fun N1 bu bq=>?_
  obtain⟨x30,h31,h⟩:=aD h;obtain⟨Dt,h33,h⟩:=aD h;have dJ:=(((((aU.lt aE.c aq).a [.n 8]).l (ax aE.c 2 (dc aq) rfl)).l (dV aE.c 2 h31 rfl)).g (xe h33))
  obtain⟨h34,h⟩|⟨h34,h⟩:=aL h
  ·have h:=aG h;subst h;exact(dJ.b h34).ret hΓ
  ·exact((dJ.b h34).a [.cn [0,1,5] []]).ct hΓ bq (iS aq hm1) (ih1 (i1+1) (dn aq) h)
theorem zA{aB:aQ}{aV:aQ}{r:Bool}(h:nO aB aV=some r):Good prog 86 [D.sl (aB.map aE.c),D.sl (aV.map aE.c)] (D.bool r):=by
 refine gd func86 [[none]] 27 fun hr Γ hΓ=>?_
 rw[nO]at h;obtain⟨h1,h⟩|⟨h1,h⟩:=aL h
 ·have h:=aG h;subst h;exact(aU.b h1).ret hΓ
 ·refine((aU.b h1).a [.cn [0,1,5] []]).lp hΓ (HO hΓ (fun h=>?_) (by have:=(dS.sl (hr _ (aC (i:=0) rfl))).1;simpa using this) aB 0 rfl h);have h:=aG h;subst h;exact aU.ret hΓ
end Go.Cx

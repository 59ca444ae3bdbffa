/- What functions of the program compute, and the walks that show it. No condition. -/
import Derived.Test.YtbeaohmbmfjabaaGreatDoorPPutInNetworkG4
set_option linter.unusedVariables false
set_option linter.unusedSimpArgs false
namespace Go.Cx
open Go.RowKit Go.Proofs Tryz
set_option maxRecDepth 100000
variable{Γ:vY}{N:Nat->St->Prop}
def jj(aB:Bytes)(aV:aT)(k1:Option Bytes):aT->Nat->Option Bytes
 | [],i1=>(k1)
 |bD::bg,i1=>(bif (bD.var:Bytes)==aB then(some bD.value)else(jj aB aV k1 bg (i1+1)))
def lC(aB:Bytes)(aV:aT):Option Bytes:=(jj aB aV (some aB) aV 0)
def Jm(aB:Bytes)(aV:aT)(cT:Int):St:=⟨[(0,D.str aB),(1,D.sl (aV.map aR.c)),(5,D.int .i64 cT)],[]⟩
theorem HU(hΓ:Γ.nt=25){aB:Bytes}{aV:aT}{r:Bytes}{k1:Option Bytes}(cY:k1=some r->Ax Γ N f242 (.q [[none]] (D.str r)) [1,1] ⟨[(0,D.str aB)],[]⟩)(hm1:aV.length<=maxLen):∀(rest:aT) (i1:Nat),aV.drop i1=rest->jj aB aV k1 rest i1=some r->Ar Γ N f242 (.q [[none]] (D.str r)) [1,0,1,0] (rest.length+1) (Jm aB aV (i1:Int)):=by
 intro rest
 induction rest with
 |nil=>
  intro i1 aq h;rw[jj]at h;refine aM fun N1 bw bn=>?_
  exact((aU.ge aR.c aq).a [.hl 0 [0] []]).ex hΓ bw (cY h)
 |cons bD bg ih1=>
  intro i1 aq h;rw[jj]at h;refine aM fun N1 bw bn=>?_
  have dH:=((aU.lt aR.c aq).l (av aR.c 2 (dc aq) rfl))
  obtain⟨h13,h⟩|⟨h13,h⟩:=aK h
  ·cases h;exact((dH.b h13).l (av aR.c 2 (dc aq) rfl)).ret hΓ
  ·exact((dH.b h13).a [.cn [0,1,5] []]).ct hΓ bn (iS aq hm1) (ih1 (i1+1) (dn aq) h)
theorem vT{aB:Bytes}{aV:aT}{r:Bytes}(h:lC aB aV=some r):Good prog 242 [D.str aB,D.sl (aV.map aR.c)] (D.str r):=by
 refine gd func242 [[none]] 25 fun hr Γ hΓ=>?_
 rw[lC]at h;refine(aU.a [.cn [0,1,5] []]).lp hΓ (HU hΓ (fun h=>?_) (by have:=(dU.sl (hr _ (aC (i:=1) rfl))).1;simpa using this) aV 0 rfl h);have h:=aG h;subst h;exact aU.ret hΓ
def l7(aB:aN)(aV:aT)(y1:Bytes)(y3:Bytes)(k1:aJ->Option aN):aJ->Nat->aJ->Option aN
 | [],i1,gr=>(k1 gr)
 |bD::bg,i1,gr=>((lC bD aV).bind fun Yr=>(bif room ((gr.map tx).length+([[D.str Yr]]).length) 16 then(l7 aB aV y1 y3 k1 bg (i1+1) (gr++([Yr])))else none))
def jq(aB:aN)(aV:aT):Option aN:=((lC aB.left aV).bind fun y1=>((lC aB.right aV).bind fun y3=>(l7 aB aV y1 y3 (fun(yO:aJ)=>(some (⟨aB.kind,(⟨aB.pat.rel,yO⟩:aE),y1,y3⟩:aN))) aB.pat.args 0 ([]:aJ))))
def A5(aB:aN)(aV:aT)(y1:Bytes)(y3:Bytes)(W0:List aS)(cT:Int):St:=⟨[(1,D.sl (aV.map aR.c)),(2,D.ptr 0 0),(4,D.ptr 1 0),(5,D.ptr 2 0),(6,D.int .i64 cT)],[Ob.box (aN.c aB),Ob.box [D.int .i64 0,D.str ([]),D.nil,D.str ([]),D.str ([])],Ob.box [D.int .i64 aB.kind,D.str aB.pat.rel,D.acc 3,D.str y1,D.str y3],Ob.row .uq 9 1 W0]⟩
theorem Fo(hΓ:Γ.nt=46){aB:aN}{aV:aT}{y1:Bytes}{y3:Bytes}{r:aN}{k1:aJ->Option aN}(cY:∀(yO:aJ),k1 yO=some r->Ax Γ N f177 (.q [[none,none,some (9,1),none,none]] (D.agg [D.int .i64 r.kind,D.str r.pat.rel,D.fr 9 1 (r.pat.args.map tx),D.str r.left,D.str r.right])) [1,1,1] ⟨[(4,D.ptr 0 0),(5,D.ptr 1 0)],[Ob.box [D.int .i64 0,D.str ([]),D.nil,D.str ([]),D.str ([])],Ob.box [D.int .i64 aB.kind,D.str aB.pat.rel,D.acc 2,D.str y1,D.str y3],Ob.row .uq 9 1 (yO.map tx)]⟩)(hm1:aB.pat.args.length<=maxLen):∀(rest:aJ) (i1:Nat) (gr:aJ),aB.pat.args.drop i1=rest->l7 aB aV y1 y3 k1 rest i1 gr=some r->Ar Γ N f177 (.q [[none,none,some (9,1),none,none]] (D.agg [D.int .i64 r.kind,D.str r.pat.rel,D.fr 9 1 (r.pat.args.map tx),D.str r.left,D.str r.right])) [1,1,0,1,0] (rest.length+1) (A5 aB aV y1 y3 (gr.map tx) (i1:Int)):=by
 intro rest
 induction rest with
 |nil=>
  intro i1 gr aq h;rw[l7]at h;refine aM fun N1 bw bn=>?_
  exact((aU.ge tx aq).a [.hl 0 [4,5] [1,2,3]]).ex hΓ bw (cY gr h)
 |cons bD bg ih1=>
  intro i1 gr aq h;rw[l7]at h;refine aM fun N1 bw bn=>?_
  obtain⟨Yr,h32,h⟩:=aD h;obtain⟨h33,h⟩:=bV h;exact((((((aU.lt tx aq).a [.n 12]).l (av tx 1 (dc aq) rfl)).g (vT h32)).w (cA h33)).a [.cn [1,2,4,5,6] [0,1,2,5]]).cs hΓ bn (A5 aB aV y1 y3 ((gr.map tx)++([[D.str Yr]])) (IntKind.i64.wrap ((i1:Int)+1))) (by first| (simp only[iS aq hm1,mA]<;>rfl)| (simp only[iS aq hm1,mA,aE.c,aR.c,aN.c,Action.c,aO.c,aI.c,cr.c,aQ.c,Node.c,aF.c,cv.c]<;>rfl)) (ih1 (i1+1) (gr++([Yr])) (dn aq) h)
theorem jN{aB:aN}{aV:aT}{r:aN}(h:jq aB aV=some r):Good prog 177 [D.agg (aN.c aB),D.sl (aV.map aR.c)] (D.agg [D.int .i64 r.kind,D.str r.pat.rel,D.fr 9 1 (r.pat.args.map tx),D.str r.left,D.str r.right]):=by
 refine gd func177 [[none,none,some (9,1),none,none]] 46 fun hr Γ hΓ=>?_
 rw[jq]at h;obtain⟨y1,h2,h⟩:=aD h;obtain⟨y3,h4,h⟩:=aD h;refine((((aU.a [.n 16]).g (vT h2)).g (vT h4)).a [.pb 2 2 9 1,.cn [1,2,4,5,6] [0,1,2,3]]).lp hΓ (Fo hΓ (fun yO h=>?_) (by have:=(dU.sl (dU.agg (hr _ (aC (i:=0) rfl)) (.sl (aB.pat.args.map tx)) (by simp))).1;simpa using this) aB.pat.args 0 ([]:aJ) rfl h);cases h;exact aU.ret hΓ
def jx(aB:aN):Option aN:=((jq aB ([])).bind fun y1=>(some y1))
theorem qK{aB:aN}{r:aN}(h:jx aB=some r):Good prog 105 [D.agg (aN.c aB)] (D.agg [D.int .i64 r.kind,D.str r.pat.rel,D.fr 9 1 (r.pat.args.map tx),D.str r.left,D.str r.right]):=by
 refine gd func105 [[none,none,some (9,1),none,none]] 5 fun hr Γ hΓ=>?_
 rw[jx]at h;obtain⟨y1,h2,h⟩:=aD h;have h:=aG h;subst h;exact((aU.a [.d (D.agg [D.int .i64 y1.kind,D.str y1.pat.rel,D.fr 9 1 (y1.pat.args.map tx),D.str y1.left,D.str y1.right])]).w (show Good prog 177 [D.agg (aN.c aB),D.sl ([])] (D.agg [D.int .i64 y1.kind,D.str y1.pat.rel,D.fr 9 1 (y1.pat.args.map tx),D.str y1.left,D.str y1.right])from by first| (simpa only[bS,bH,bX,dl,dR]using jN h2)|exact jN h2)).ret hΓ
def tP(aB:aJ):Option aJ:=(bif room (([]:List aS).length+(aB.map tx).length) 16 then(some (([]:aJ)++aB))else none)
theorem Ay{aB:aJ}{r:aJ}(h:tP aB=some r):Good prog 176 [D.sl (aB.map tx)] (D.fr 9 1 (r.map tx)):=by
 refine gd func176 [[some (9,1)]] 6 fun hr Γ hΓ=>?_
 rw[tP]at h;obtain⟨h1,h⟩:=bV h;cases h;exact(((aU.w (cA h1)).w (show(∀r∈(aB.map tx),r.length=1)/\(true=true->D.nv (aB.map tx)=true)from⟨by first|simp| (intro r hr;obtain⟨x,_,rfl⟩:=cI.1 (cG (gI hr));rfl),by simp[D.nv,D.flat]⟩)).a [.PY 2,.fl true]).rts hΓ (D.fr 9 1 (([]:List aS)++(aB.map tx))) (by first|rfl| (simp only[mA]<;>rfl))
def eS(aB:aE):Option aE:=((tP aB.args).bind fun y1=>(some (⟨aB.rel,y1⟩:aE)))
theorem wk{aB:aE}{r:aE}(h:eS aB=some r):Good prog 104 [D.agg (aE.c aB)] (D.agg [D.str r.rel,D.fr 9 1 (r.args.map tx)]):=by
 refine gd func104 [[none,some (9,1)]] 9 fun hr Γ hΓ=>?_
 rw[eS]at h;obtain⟨y1,h2,h⟩:=aD h;cases h;exact((aU.a [.n 5]).g (Ay h2)).ret hΓ
def pz(aB:aO)(k1:aj->Option aO):aj->Nat->aj->Option aO
 | [],i1,gr=>(k1 gr)
 |bD::bg,i1,gr=>((jx bD).bind fun I8=>(bif room ((gr.map aN.c).length+([[D.int .i64 I8.kind,D.str I8.pat.rel,D.sl (I8.pat.args.map tx),D.str I8.left,D.str I8.right]]).length) 80 then(pz aB k1 bg (i1+1) (gr++([I8])))else none))
def nT(aB:aO)(iO:aj)(k2:bz->Option aO):bz->Nat->bz->Option aO
 | [],i2,oz=>(k2 oz)
 |lM::wR,i2,oz=>((eS lM.pat).bind fun y92=>(bif room ((oz.map Action.c).length+([[D.int .i64 lM.kind,D.str y92.rel,D.sl (y92.args.map tx)]]).length) 48 then(nT aB iO k2 wR (i2+1) (oz++([(⟨lM.kind,y92⟩:Action)])))else none))
def vE(aB:aO):Option aO:=(pz aB (fun(iO:aj)=>(nT aB iO (fun(C6:bz)=>(some (⟨aB.name,aB.prio,iO,C6⟩:aO))) aB.cu 0 ([]:bz))) aB.conds 0 ([]:aj))
def DZ(aB:aO)(W0:List aS)(cT:Int):St:=⟨[(1,D.ptr 0 0),(2,D.ptr 1 0),(3,D.ptr 2 0),(4,D.int .i64 cT)],[Ob.box (aO.c aB),Ob.box [D.str ([]),D.int .i64 0,D.nil,D.nil],Ob.box [D.str aB.name,D.int .i64 aB.prio,D.acc 3,D.nil],Ob.row .uq 115 5 W0]⟩
theorem N6(hΓ:Γ.nt=56){aB:aO}{r:aO}{k1:aj->Option aO}(cY:∀(iO:aj),k1 iO=some r->Ax Γ N f175 (.q [[none,none,some (115,5),some (199,3)]] (D.agg [D.str r.name,D.int .i64 r.prio,D.fr 115 5 (r.conds.map aN.c),D.fr 199 3 (r.cu.map Action.c)])) [1,1,1] ⟨[(1,D.ptr 0 0),(2,D.ptr 1 0),(3,D.ptr 2 0)],[Ob.box (aO.c aB),Ob.box [D.str ([]),D.int .i64 0,D.nil,D.nil],Ob.box [D.str aB.name,D.int .i64 aB.prio,D.acc 3,D.nil],Ob.row .uq 115 5 (iO.map aN.c)]⟩)(hm1:aB.conds.length<=maxLen):∀(rest:aj) (i1:Nat) (gr:aj),aB.conds.drop i1=rest->pz aB k1 rest i1 gr=some r->Ar Γ N f175 (.q [[none,none,some (115,5),some (199,3)]] (D.agg [D.str r.name,D.int .i64 r.prio,D.fr 115 5 (r.conds.map aN.c),D.fr 199 3 (r.cu.map Action.c)])) [1,1,0,1,0] (rest.length+1) (DZ aB (gr.map aN.c) (i1:Int)):=by
 intro rest
 induction rest with
 |nil=>
  intro i1 gr aq h;rw[pz]at h;refine aM fun N1 bw bn=>?_
  exact((aU.ge aN.c aq).a [.hl 0 [1,2,3] [0,1,2,3]]).ex hΓ bw (cY gr h)
 |cons bD bg ih1=>
  intro i1 gr aq h;rw[pz]at h;refine aM fun N1 bw bn=>?_
  obtain⟨I8,h46,h⟩:=aD h;obtain⟨h47,h⟩:=bV h;exact((((((aU.lt aN.c aq).a [.n2 [0,1,2,3,4,5,6,7,8,9,10,11] [0,1,2,3,4,5,6,7,8,9,10,11] 8 9 [0,1] [4]]).l (av aN.c 5 (dc aq) rfl)).g (qK h46)).w (cA h47)).a [.cn [1,2,3,4] [0,1,2,6]]).cs hΓ bn (DZ aB ((gr.map aN.c)++([[D.int .i64 I8.kind,D.str I8.pat.rel,D.sl (I8.pat.args.map tx),D.str I8.left,D.str I8.right]])) (IntKind.i64.wrap ((i1:Int)+1))) (by first| (simp only[iS aq hm1,mA]<;>rfl)| (simp only[iS aq hm1,mA,aE.c,aR.c,aN.c,Action.c,aO.c,aI.c,cr.c,aQ.c,Node.c,aF.c,cv.c]<;>rfl)) (ih1 (i1+1) (gr++([I8])) (dn aq) h)
def Da(aB:aO)(iO:aj)(W0:List aS)(cT:Int):St:=⟨[(1,D.ptr 0 0),(2,D.ptr 1 0),(3,D.ptr 2 0),(5,D.int .i64 cT)],[Ob.box (aO.c aB),Ob.box [D.str ([]),D.int .i64 0,D.nil,D.nil],Ob.box [D.str aB.name,D.int .i64 aB.prio,D.acc 3,D.acc 4],Ob.row .uq 115 5 (iO.map aN.c),Ob.row .uq 199 3 W0]⟩
theorem N7(hΓ:Γ.nt=56){aB:aO}{iO:aj}{r:aO}{k2:bz->Option aO}(CZ:∀(C6:bz),k2 C6=some r->Ax Γ N f175 (.q [[none,none,some (115,5),some (199,3)]] (D.agg [D.str r.name,D.int .i64 r.prio,D.fr 115 5 (r.conds.map aN.c),D.fr 199 3 (r.cu.map Action.c)])) [1,1,1,1] ⟨[(2,D.ptr 0 0),(3,D.ptr 1 0)],[Ob.box [D.str ([]),D.int .i64 0,D.nil,D.nil],Ob.box [D.str aB.name,D.int .i64 aB.prio,D.acc 2,D.acc 3],Ob.row .uq 115 5 (iO.map aN.c),Ob.row .uq 199 3 (C6.map Action.c)]⟩)(hm2:aB.cu.length<=maxLen):∀(rest:bz) (i2:Nat) (oz:bz),aB.cu.drop i2=rest->nT aB iO k2 rest i2 oz=some r->Ar Γ N f175 (.q [[none,none,some (115,5),some (199,3)]] (D.agg [D.str r.name,D.int .i64 r.prio,D.fr 115 5 (r.conds.map aN.c),D.fr 199 3 (r.cu.map Action.c)])) [1,1,1,0,1,0] (rest.length+1) (Da aB iO (oz.map Action.c) (i2:Int)):=by
 intro rest
 induction rest with
 |nil=>
  intro i2 oz hd2 h;rw[nT]at h;refine aM fun N2 xV ud=>?_
  exact((aU.ge Action.c hd2).a [.hl 0 [2,3] [1,2,3,4]]).ex hΓ xV (CZ oz h)
 |cons lM wR ih2=>
  intro i2 oz hd2 h;rw[nT]at h;refine aM fun N2 xV ud=>?_
  obtain⟨y92,h93,h⟩:=aD h;obtain⟨h94,h⟩:=bV h;exact(((((((aU.lt Action.c hd2).a [.n2 [0,1,2,3,4,5,6,7,8,9,10,11,12,13,14,15,16,17,18,19] [0,1,2,3,4,5,6,7,8,9,10,11,12,13,14,15,16,17,18,19] 16 17 [0,1] [5]]).l (av Action.c 3 (dc hd2) rfl)).l (av Action.c 3 (dc hd2) rfl)).g (wk h93)).w (cA h94)).a [.cn [1,2,3,5] [0,1,2,3,7]]).cs hΓ ud (Da aB iO ((oz.map Action.c)++([[D.int .i64 lM.kind,D.str y92.rel,D.sl (y92.args.map tx)]])) (IntKind.i64.wrap ((i2:Int)+1))) (by first| (simp only[iS hd2 hm2,mA]<;>rfl)| (simp only[iS hd2 hm2,mA,aE.c,aR.c,aN.c,Action.c,aO.c,aI.c,cr.c,aQ.c,Node.c,aF.c,cv.c]<;>rfl)) (ih2 (i2+1) (oz++([(⟨lM.kind,y92⟩:Action)])) (dn hd2) h)
theorem Lh{aB:aO}{r:aO}(h:vE aB=some r):Good prog 175 [D.agg (aO.c aB)] (D.agg [D.str r.name,D.int .i64 r.prio,D.fr 115 5 (r.conds.map aN.c),D.fr 199 3 (r.cu.map Action.c)]):=by
 refine gd func175 [[none,none,some (115,5),some (199,3)]] 56 fun hr Γ hΓ=>?_
 rw[vE]at h;refine(aU.a [.pb 2 2 115 5,.cn [1,2,3,4] [0,1,2,3]]).lp hΓ (N6 hΓ (fun iO h=>?_) (by have:=(dU.sl (dU.agg (hr _ (aC (i:=0) rfl)) (.sl (aB.conds.map aN.c)) (by simp))).1;simpa using this) aB.conds 0 ([]:aj) rfl h);refine(aU.a [.pb 2 3 199 3,.cn [1,2,3,5] [0,1,2,3,4]]).lp hΓ (N7 hΓ (fun C6 h=>?_) (by have:=(dU.sl (dU.agg (hr _ (aC (i:=0) rfl)) (.sl (aB.cu.map Action.c)) (by simp))).1;simpa using this) aB.cu 0 ([]:bz) rfl h);cases h;exact aU.ret hΓ
def nS(aB:au)(k1:au->Option au):au->Nat->au->Option au
 | [],i1,bC=>(k1 bC)
 |bD::bg,i1,bC=>((vE bD).bind fun pQ=>(bif room ((bC.map aO.c).length+([[D.str pQ.name,D.int .i64 pQ.prio,D.sl (pQ.conds.map aN.c),D.sl (pQ.cu.map Action.c)]]).length) 72 then(nS aB k1 bg (i1+1) (bC++([pQ])))else none))
def qn(aB:au):Option au:=(nS aB (fun(bO:au)=>(some bO)) aB 0 ([]:au))
def Bv(aB:au)(W0:List aS)(cT:Int):St:=⟨[(0,D.sl (aB.map aO.c)),(3,D.acc 0),(4,D.int .i64 cT)],[Ob.row .uq 105 4 W0]⟩
theorem Jn(hΓ:Γ.nt=21){aB:au}{r:au}{k1:au->Option au}(cY:∀(bO:au),k1 bO=some r->Ax Γ N f102 (.q [[some (105,4)]] (D.fr 105 4 (r.map aO.c))) [1,1,1] ⟨[(3,D.acc 0)],[Ob.row .uq 105 4 (bO.map aO.c)]⟩)(hm1:aB.length<=maxLen):∀(rest:au) (i1:Nat) (bC:au),aB.drop i1=rest->nS aB k1 rest i1 bC=some r->Ar Γ N f102 (.q [[some (105,4)]] (D.fr 105 4 (r.map aO.c))) [1,1,0,1,0] (rest.length+1) (Bv aB (bC.map aO.c) (i1:Int)):=by
 intro rest
 induction rest with
 |nil=>
  intro i1 bC aq h;rw[nS]at h;refine aM fun N1 bw bn=>?_
  exact((aU.ge aO.c aq).a [.hl 0 [3] [0]]).ex hΓ bw (cY bC h)
 |cons bD bg ih1=>
  intro i1 bC aq h;rw[nS]at h;refine aM fun N1 bw bn=>?_
  obtain⟨pQ,h28,h⟩:=aD h;obtain⟨h29,h⟩:=bV h;exact(((((aU.lt aO.c aq).l (av aO.c 4 (dc aq) rfl)).g (Lh h28)).w (cA h29)).a [.cn [0,3,4] [4]]).cs hΓ bn (Bv aB ((bC.map aO.c)++([[D.str pQ.name,D.int .i64 pQ.prio,D.sl (pQ.conds.map aN.c),D.sl (pQ.cu.map Action.c)]])) (IntKind.i64.wrap ((i1:Int)+1))) (by first| (simp only[iS aq hm1,mA]<;>rfl)| (simp only[iS aq hm1,mA,aE.c,aR.c,aN.c,Action.c,aO.c,aI.c,cr.c,aQ.c,Node.c,aF.c,cv.c]<;>rfl)) (ih1 (i1+1) (bC++([pQ])) (dn aq) h)
theorem A7{aB:au}{r:au}(h:qn aB=some r):Good prog 102 [D.sl (aB.map aO.c)] (D.fr 105 4 (r.map aO.c)):=by
 refine gd func102 [[some (105,4)]] 21 fun hr Γ hΓ=>?_
 rw[qn]at h;refine(aU.a [.cn [0,3,4] [0]]).lp hΓ (Jn hΓ (fun bO h=>?_) (by have:=(dU.sl (hr _ (aC (i:=0) rfl))).1;simpa using this) aB 0 ([]:au) rfl h);have h:=aG h;subst h;exact aU.ret hΓ
def xT(aB:bJ):Option bJ:=(bif room (([]:List aS).length+(aB.map di).length) 8 then(some (([]:bJ)++aB))else none)
theorem Lg{aB:bJ}{r:bJ}(h:xT aB=some r):Good prog 103 [D.sl (aB.map di)] (D.fr 3 1 (r.map di)):=by
 refine gd func103 [[some (3,1)]] 6 fun hr Γ hΓ=>?_
 rw[xT]at h;obtain⟨h1,h⟩:=bV h;cases h;exact(((aU.w (cA h1)).w (show(∀r∈(aB.map di),r.length=1)/\(true=true->D.nv (aB.map di)=true)from⟨by first|simp| (intro r hr;obtain⟨x,_,rfl⟩:=cI.1 (cG (gI hr));rfl),by simp[D.nv,D.flat]⟩)).a [.PY 2,.fl true]).rts hΓ (D.fr 3 1 (([]:List aS)++(aB.map di))) (by first|rfl| (simp only[mA]<;>rfl))
def ew(aB:aE):Option aE:=((tP aB.args).bind fun y1=>(some (⟨aB.rel,y1⟩:aE)))
theorem ga{aB:aE}{r:aE}(h:ew aB=some r):Good prog 152 [D.agg (aE.c aB)] (D.agg [D.str r.rel,D.fr 9 1 (r.args.map tx)]):=by
 refine gd func152 [[none,some (9,1)]] 9 fun hr Γ hΓ=>?_
 rw[ew]at h;obtain⟨y1,h2,h⟩:=aD h;cases h;exact((aU.a [.n 5]).g (Ay h2)).ret hΓ
def nR(aB:aP)(k1:aP->Option aP):aP->Nat->aP->Option aP
 | [],i1,bC=>(k1 bC)
 |bD::bg,i1,bC=>((ew bD).bind fun pQ=>(bif room ((bC.map aE.c).length+([[D.str pQ.rel,D.sl (pQ.args.map tx)]]).length) 40 then(nR aB k1 bg (i1+1) (bC++([pQ])))else none))
def dP(aB:aP):Option aP:=(nR aB (fun(bO:aP)=>(some bO)) aB 0 ([]:aP))
def Bt(aB:aP)(W0:List aS)(cT:Int):St:=⟨[(0,D.sl (aB.map aE.c)),(3,D.acc 0),(4,D.int .i64 cT)],[Ob.row .uq 53 2 W0]⟩
theorem Jl(hΓ:Γ.nt=21){aB:aP}{r:aP}{k1:aP->Option aP}(cY:∀(bO:aP),k1 bO=some r->Ax Γ N f93 (.q [[some (53,2)]] (D.fr 53 2 (r.map aE.c))) [1,1,1] ⟨[(3,D.acc 0)],[Ob.row .uq 53 2 (bO.map aE.c)]⟩)(hm1:aB.length<=maxLen):∀(rest:aP) (i1:Nat) (bC:aP),aB.drop i1=rest->nR aB k1 rest i1 bC=some r->Ar Γ N f93 (.q [[some (53,2)]] (D.fr 53 2 (r.map aE.c))) [1,1,0,1,0] (rest.length+1) (Bt aB (bC.map aE.c) (i1:Int)):=by
 intro rest
 induction rest with
 |nil=>
  intro i1 bC aq h;rw[nR]at h;refine aM fun N1 bw bn=>?_
  exact((aU.ge aE.c aq).a [.hl 0 [3] [0]]).ex hΓ bw (cY bC h)
 |cons bD bg ih1=>
  intro i1 bC aq h;rw[nR]at h;refine aM fun N1 bw bn=>?_
  obtain⟨pQ,h28,h⟩:=aD h;obtain⟨h29,h⟩:=bV h;exact(((((aU.lt aE.c aq).l (av aE.c 2 (dc aq) rfl)).g (ga h28)).w (cA h29)).a [.cn [0,3,4] [3]]).cs hΓ bn (Bt aB ((bC.map aE.c)++([[D.str pQ.rel,D.sl (pQ.args.map tx)]])) (IntKind.i64.wrap ((i1:Int)+1))) (by first| (simp only[iS aq hm1,mA]<;>rfl)| (simp only[iS aq hm1,mA,aE.c,aR.c,aN.c,Action.c,aO.c,aI.c,cr.c,aQ.c,Node.c,aF.c,cv.c]<;>rfl)) (ih1 (i1+1) (bC++([pQ])) (dn aq) h)
theorem fI{aB:aP}{r:aP}(h:dP aB=some r):Good prog 93 [D.sl (aB.map aE.c)] (D.fr 53 2 (r.map aE.c)):=by
 refine gd func93 [[some (53,2)]] 21 fun hr Γ hΓ=>?_
 rw[dP]at h;refine(aU.a [.cn [0,3,4] [0]]).lp hΓ (Jl hΓ (fun bO h=>?_) (by have:=(dU.sl (hr _ (aC (i:=0) rfl))).1;simpa using this) aB 0 ([]:aP) rfl h);have h:=aG h;subst h;exact aU.ret hΓ
def rY(aB:aT):Option aT:=(bif room (([]:List aS).length+(aB.map aR.c).length) 32 then(some (([]:aT)++aB))else none)
theorem xu{aB:aT}{r:aT}(h:rY aB=some r):Good prog 227 [D.sl (aB.map aR.c)] (D.fr 152 2 (r.map aR.c)):=by
 refine gd func227 [[some (152,2)]] 6 fun hr Γ hΓ=>?_
 rw[rY]at h;obtain⟨h1,h⟩:=bV h;cases h;exact(((aU.w (cA h1)).w (show(∀r∈(aB.map aR.c),r.length=2)/\(true=true->D.nv (aB.map aR.c)=true)from⟨by first|simp| (intro r hr;obtain⟨x,_,rfl⟩:=cI.1 (cG (gI hr));rfl),by simp[D.nv,D.flat]⟩)).a [.PY 2,.fl true]).rts hΓ (D.fr 152 2 (([]:List aS)++(aB.map aR.c))) (by first|rfl| (simp only[mA]<;>rfl))
def rZ(aB:aI):Option aI:=((dP aB.facts).bind fun y1=>((rY aB.bind).bind fun y3=>(some (⟨y1,y3⟩:aI))))
theorem Bw{aB:aI}{r:aI}(h:rZ aB=some r):Good prog 178 [D.agg (aI.c aB)] (D.agg [D.fr 53 2 (r.facts.map aE.c),D.fr 152 2 (r.bind.map aR.c)]):=by
 refine gd func178 [[some (53,2),some (152,2)]] 10 fun hr Γ hΓ=>?_
 rw[rZ]at h;obtain⟨y1,h2,h⟩:=aD h;obtain⟨y3,h4,h⟩:=aD h;cases h;exact(((aU.a [.n 5]).g (fI h2)).g (xu h4)).ret hΓ
def jO(aB:ah)(k1:ah->Option ah):ah->Nat->ah->Option ah
 | [],i1,bC=>(k1 bC)
 |bD::bg,i1,bC=>((rZ bD).bind fun pQ=>(bif room ((bC.map aI.c).length+([[D.sl (pQ.facts.map aE.c),D.sl (pQ.bind.map aR.c)]]).length) 48 then(jO aB k1 bg (i1+1) (bC++([pQ])))else none))
def jk(aB:ah):Option ah:=(jO aB (fun(bO:ah)=>(some bO)) aB 0 ([]:ah))
def yh(aB:ah)(W0:List aS)(cT:Int):St:=⟨[(0,D.sl (aB.map aI.c)),(3,D.acc 0),(4,D.int .i64 cT)],[Ob.row .uq 124 2 W0]⟩
theorem De(hΓ:Γ.nt=21){aB:ah}{r:ah}{k1:ah->Option ah}(cY:∀(bO:ah),k1 bO=some r->Ax Γ N f106 (.q [[some (124,2)]] (D.fr 124 2 (r.map aI.c))) [1,1,1] ⟨[(3,D.acc 0)],[Ob.row .uq 124 2 (bO.map aI.c)]⟩)(hm1:aB.length<=maxLen):∀(rest:ah) (i1:Nat) (bC:ah),aB.drop i1=rest->jO aB k1 rest i1 bC=some r->Ar Γ N f106 (.q [[some (124,2)]] (D.fr 124 2 (r.map aI.c))) [1,1,0,1,0] (rest.length+1) (yh aB (bC.map aI.c) (i1:Int)):=by
 intro rest
 induction rest with
 |nil=>
  intro i1 bC aq h;rw[jO]at h;refine aM fun N1 bw bn=>?_
  exact((aU.ge aI.c aq).a [.hl 0 [3] [0]]).ex hΓ bw (cY bC h)
 |cons bD bg ih1=>
  intro i1 bC aq h;rw[jO]at h;refine aM fun N1 bw bn=>?_
  obtain⟨pQ,h28,h⟩:=aD h;obtain⟨h29,h⟩:=bV h;exact(((((aU.lt aI.c aq).l (av aI.c 2 (dc aq) rfl)).g (Bw h28)).w (cA h29)).a [.cn [0,3,4] [4]]).cs hΓ bn (yh aB ((bC.map aI.c)++([[D.sl (pQ.facts.map aE.c),D.sl (pQ.bind.map aR.c)]])) (IntKind.i64.wrap ((i1:Int)+1))) (by first| (simp only[iS aq hm1,mA]<;>rfl)| (simp only[iS aq hm1,mA,aE.c,aR.c,aN.c,Action.c,aO.c,aI.c,cr.c,aQ.c,Node.c,aF.c,cv.c]<;>rfl)) (ih1 (i1+1) (bC++([pQ])) (dn aq) h)
theorem Ct{aB:ah}{r:ah}(h:jk aB=some r):Good prog 106 [D.sl (aB.map aI.c)] (D.fr 124 2 (r.map aI.c)):=by
 refine gd func106 [[some (124,2)]] 21 fun hr Γ hΓ=>?_
 rw[jk]at h;refine(aU.a [.cn [0,3,4] [0]]).lp hΓ (De hΓ (fun bO h=>?_) (by have:=(dU.sl (hr _ (aC (i:=0) rfl))).1;simpa using this) aB 0 ([]:ah) rfl h);have h:=aG h;subst h;exact aU.ret hΓ
def nW(aB:aF)(y1:au)(y3:bJ)(y5:aP)(k1:b8->Option aF):b8->Nat->b8->Option aF
 | [],i1,qP=>(k1 qP)
 |bD::bg,i1,qP=>((eS bD.shape).bind fun MA=>((dP bD.facts).bind fun y75=>(bif room ((qP.map aQ.c).length+([[D.str MA.rel,D.sl (MA.args.map tx),D.sl (y75.map aE.c)]]).length) 64 then(nW aB y1 y3 y5 k1 bg (i1+1) (qP++([(⟨MA,y75⟩:aQ)])))else none)))
def nX(aB:aF)(y1:au)(y3:bJ)(y5:aP)(ru:b8)(k2:az->Option aF):az->Nat->az->Option aF
 | [],i2,wg=>(k2 wg)
 |lM::wR,i2,wg=>((jx lM.cond).bind fun D5=>((jk lM.tokens).bind fun a3X=>(bif room ((wg.map Node.c).length+([[D.int .i64 lM.parent,D.int .i64 D5.kind,D.str D5.pat.rel,D.sl (D5.pat.args.map tx),D.str D5.left,D.str D5.right,D.int .i64 lM.cP,D.sl (a3X.map aI.c)]]).length) 120 then(nX aB y1 y3 y5 ru k2 wR (i2+1) (wg++([(⟨lM.parent,D5,lM.cP,a3X⟩:Node)])))else none)))
def rp(aB:aF):Option aF:=((qn aB.rules).bind fun y1=>((xT aB.ends).bind fun y3=>((dP aB.facts).bind fun y5=>(nW aB y1 y3 y5 (fun(ru:b8)=>(nX aB y1 y3 y5 ru (fun(vV:az)=>(some (⟨y1,y3,ru,vV,y5,aB.cL⟩:aF))) aB.nodes 0 ([]:az))) aB.ay 0 ([]:b8)))))
def Df(aB:aF)(y1:au)(y3:bJ)(y5:aP)(W0:List aS)(cT:Int):St:=⟨[(1,D.ptr 0 0),(2,D.ptr 1 0),(3,D.ptr 2 0),(4,D.int .i64 cT)],[Ob.box (aF.c aB),Ob.box [D.nil,D.nil,D.nil,D.nil,D.nil,D.int .i64 0],Ob.box [D.acc 3,D.acc 4,D.acc 5,D.nil,D.acc 6,D.int .i64 aB.cL],Ob.row .uq 105 4 (y1.map aO.c),Ob.row .uq 3 1 (y3.map di),Ob.row .uq 111 3 W0,Ob.row .uq 53 2 (y5.map aE.c)]⟩
theorem NC(hΓ:Γ.nt=75){aB:aF}{y1:au}{y3:bJ}{y5:aP}{r:aF}{k1:b8->Option aF}(cY:∀(ru:b8),k1 ru=some r->Ax Γ N f49 (.q [[some (105,4),some (3,1),some (111,3),some (118,8),some (53,2),none]] (D.agg [D.fr 105 4 (r.rules.map aO.c),D.fr 3 1 (r.ends.map di),D.fr 111 3 (r.ay.map aQ.c),D.fr 118 8 (r.nodes.map Node.c),D.fr 53 2 (r.facts.map aE.c),D.int .i64 r.cL])) [1,1,1] ⟨[(1,D.ptr 0 0),(2,D.ptr 1 0),(3,D.ptr 2 0)],[Ob.box (aF.c aB),Ob.box [D.nil,D.nil,D.nil,D.nil,D.nil,D.int .i64 0],Ob.box [D.acc 3,D.acc 4,D.acc 5,D.nil,D.acc 6,D.int .i64 aB.cL],Ob.row .uq 105 4 (y1.map aO.c),Ob.row .uq 3 1 (y3.map di),Ob.row .uq 111 3 (ru.map aQ.c),Ob.row .uq 53 2 (y5.map aE.c)]⟩)(hm1:aB.ay.length<=maxLen):∀(rest:b8) (i1:Nat) (qP:b8),aB.ay.drop i1=rest->nW aB y1 y3 y5 k1 rest i1 qP=some r->Ar Γ N f49 (.q [[some (105,4),some (3,1),some (111,3),some (118,8),some (53,2),none]] (D.agg [D.fr 105 4 (r.rules.map aO.c),D.fr 3 1 (r.ends.map di),D.fr 111 3 (r.ay.map aQ.c),D.fr 118 8 (r.nodes.map Node.c),D.fr 53 2 (r.facts.map aE.c),D.int .i64 r.cL])) [1,1,0,1,0] (rest.length+1) (Df aB y1 y3 y5 (qP.map aQ.c) (i1:Int)):=by
 intro rest
 induction rest with
 |nil=>
  intro i1 qP aq h;rw[nW]at h;refine aM fun N1 bw bn=>?_
  exact((aU.ge aQ.c aq).a [.hl 0 [1,2,3] [0,1,2,3,4,5,6]]).ex hΓ bw (cY qP h)
 |cons bD bg ih1=>
  intro i1 qP aq h;rw[nW]at h;refine aM fun N1 bw bn=>?_
  obtain⟨MA,h74,h⟩:=aD h;obtain⟨y75,h76,h⟩:=aD h;obtain⟨h77,h⟩:=bV h;exact((((((((aU.lt aQ.c aq).a [.n2 [0,1,2,3,4,5,6,7,8,9,10,11,12,13,14,15,16,17,18,19,20] [0,1,2,3,4,5,6,7,8,9,10,11,12,13,14,15,16,17,18,19,20] 17 18 [0,1] [7,8]]).l (av aQ.c 3 (dc aq) rfl)).g (wk h74)).l (av aQ.c 3 (dc aq) rfl)).g (fI h76)).w (cA h77)).a [.cn [1,2,3,4] [0,1,2,3,4,10,6]]).cs hΓ bn (Df aB y1 y3 y5 ((qP.map aQ.c)++([[D.str MA.rel,D.sl (MA.args.map tx),D.sl (y75.map aE.c)]])) (IntKind.i64.wrap ((i1:Int)+1))) (by first| (simp only[iS aq hm1,mA]<;>rfl)| (simp only[iS aq hm1,mA,aE.c,aR.c,aN.c,Action.c,aO.c,aI.c,cr.c,aQ.c,Node.c,aF.c,cv.c]<;>rfl)) (ih1 (i1+1) (qP++([(⟨MA,y75⟩:aQ)])) (dn aq) h)
def Dg(aB:aF)(y1:au)(y3:bJ)(y5:aP)(ru:b8)(W0:List aS)(cT:Int):St:=⟨[(1,D.ptr 0 0),(2,D.ptr 1 0),(3,D.ptr 2 0),(5,D.int .i64 cT)],[Ob.box (aF.c aB),Ob.box [D.nil,D.nil,D.nil,D.nil,D.nil,D.int .i64 0],Ob.box [D.acc 3,D.acc 4,D.acc 5,D.acc 6,D.acc 7,D.int .i64 aB.cL],Ob.row .uq 105 4 (y1.map aO.c),Ob.row .uq 3 1 (y3.map di),Ob.row .uq 111 3 (ru.map aQ.c),Ob.row .uq 118 8 W0,Ob.row .uq 53 2 (y5.map aE.c)]⟩
theorem ND(hΓ:Γ.nt=75){aB:aF}{y1:au}{y3:bJ}{y5:aP}{ru:b8}{r:aF}{k2:az->Option aF}(CZ:∀(vV:az),k2 vV=some r->Ax Γ N f49 (.q [[some (105,4),some (3,1),some (111,3),some (118,8),some (53,2),none]] (D.agg [D.fr 105 4 (r.rules.map aO.c),D.fr 3 1 (r.ends.map di),D.fr 111 3 (r.ay.map aQ.c),D.fr 118 8 (r.nodes.map Node.c),D.fr 53 2 (r.facts.map aE.c),D.int .i64 r.cL])) [1,1,1,1] ⟨[(2,D.ptr 0 0),(3,D.ptr 1 0)],[Ob.box [D.nil,D.nil,D.nil,D.nil,D.nil,D.int .i64 0],Ob.box [D.acc 2,D.acc 3,D.acc 4,D.acc 5,D.acc 6,D.int .i64 aB.cL],Ob.row .uq 105 4 (y1.map aO.c),Ob.row .uq 3 1 (y3.map di),Ob.row .uq 111 3 (ru.map aQ.c),Ob.row .uq 118 8 (vV.map Node.c),Ob.row .uq 53 2 (y5.map aE.c)]⟩)(hm2:aB.nodes.length<=maxLen):∀(rest:az) (i2:Nat) (wg:az),aB.nodes.drop i2=rest->nX aB y1 y3 y5 ru k2 rest i2 wg=some r->Ar Γ N f49 (.q [[some (105,4),some (3,1),some (111,3),some (118,8),some (53,2),none]] (D.agg [D.fr 105 4 (r.rules.map aO.c),D.fr 3 1 (r.ends.map di),D.fr 111 3 (r.ay.map aQ.c),D.fr 118 8 (r.nodes.map Node.c),D.fr 53 2 (r.facts.map aE.c),D.int .i64 r.cL])) [1,1,1,0,1,0] (rest.length+1) (Dg aB y1 y3 y5 ru (wg.map Node.c) (i2:Int)):=by
 intro rest
 induction rest with
 |nil=>
  intro i2 wg hd2 h;rw[nX]at h;refine aM fun N2 xV ud=>?_
  exact((aU.ge Node.c hd2).a [.hl 0 [2,3] [1,2,3,4,5,6,7]]).ex hΓ xV (CZ wg h)
 |cons lM wR ih2=>
  intro i2 wg hd2 h;rw[nX]at h;refine aM fun N2 xV ud=>?_
  obtain⟨D5,h139,h⟩:=aD h;obtain⟨a3X,h141,h⟩:=aD h;obtain⟨h142,h⟩:=bV h;exact(((((((aU.lt Node.c hd2).l (av Node.c 8 (dc hd2) rfl)).a [.n2 [0,1,2,3,4,5,6,7,8,9,10,11,12,13,14,15,16] [0,1,2,3,4,5,6,7,8,9,10,11,12,13,14,15,16] 13 14 [0,1] [9,10]]).g (qK h139)).g (Ct h141)).w (cA h142)).a [.cn [1,2,3,5] [0,1,2,3,4,5,12,7]]).cs hΓ ud (Dg aB y1 y3 y5 ru ((wg.map Node.c)++([[D.int .i64 lM.parent,D.int .i64 D5.kind,D.str D5.pat.rel,D.sl (D5.pat.args.map tx),D.str D5.left,D.str D5.right,D.int .i64 lM.cP,D.sl (a3X.map aI.c)]])) (IntKind.i64.wrap ((i2:Int)+1))) (by first| (simp only[iS hd2 hm2,mA]<;>rfl)| (simp only[iS hd2 hm2,mA,aE.c,aR.c,aN.c,Action.c,aO.c,aI.c,cr.c,aQ.c,Node.c,aF.c,cv.c]<;>rfl)) (ih2 (i2+1) (wg++([(⟨lM.parent,D5,lM.cP,a3X⟩:Node)])) (dn hd2) h)
theorem xw{aB:aF}{r:aF}(h:rp aB=some r):Good prog 49 [D.agg (aF.c aB)] (D.agg [D.fr 105 4 (r.rules.map aO.c),D.fr 3 1 (r.ends.map di),D.fr 111 3 (r.ay.map aQ.c),D.fr 118 8 (r.nodes.map Node.c),D.fr 53 2 (r.facts.map aE.c),D.int .i64 r.cL]):=by
 refine gd func49 [[some (105,4),some (3,1),some (111,3),some (118,8),some (53,2),none]] 75 fun hr Γ hΓ=>?_
 rw[rp]at h;obtain⟨y1,h2,h⟩:=aD h;obtain⟨y3,h4,h⟩:=aD h;obtain⟨y5,h6,h⟩:=aD h;refine(((((aU.a [.n 13]).g (A7 h2)).g (Lg h4)).g (fI h6)).a [.pb 5 2 111 3,.cn [1,2,3,4] [0,1,5,2,3,6,4]]).lp hΓ (NC hΓ (fun ru h=>?_) (by have:=(dU.sl (dU.agg (hr _ (aC (i:=0) rfl)) (.sl (aB.ay.map aQ.c)) (by simp))).1;simpa using this) aB.ay 0 ([]:b8) rfl h);refine(aU.a [.pb 2 3 118 8,.cn [1,2,3,5] [0,1,2,3,4,5,7,6]]).lp hΓ (ND hΓ (fun vV h=>?_) (by have:=(dU.sl (dU.agg (hr _ (aC (i:=0) rfl)) (.sl (aB.nodes.map Node.c)) (by simp))).1;simpa using this) aB.nodes 0 ([]:az) rfl h);cases h;exact aU.ret hΓ
def lB(aB:Int)(aV:Int)(cW:Int):Option Bool:=(bif decide ((aB:Int)>=aV)then(some (decide ((aB:Int)<=cW)))else(some false))
theorem gC{aB:Int}{aV:Int}{cW:Int}{r:Bool}(h:lB aB aV cW=some r):Good prog 155 [D.int .i64 aB,D.int .i64 aV,D.int .i64 cW] (D.bool r):=by
 refine gd func155 [[none]] 15 fun hr Γ hΓ=>?_
 rw[lB]at h;obtain⟨h1,h⟩|⟨h1,h⟩:=aK h
 ·cases h;exact(aU.r 4 h1).ret hΓ
 ·have h:=aG h;subst h;exact(aU.r 4 h1).ret hΓ
def jJ(aB:Bytes)(k1:Option Bool):Nat->Int->Option Bool
 |0,_=>none
 |n1+1,ng=>(bif decide ((ng:Int)<(aB.length:Int))then((mC aB ng).bind fun b29=>((lB (IntKind.i64.wrap b29.toNat) 97 122).bind fun Yr=>(bif !(Yr)then((lB (IntKind.i64.wrap b29.toNat) 48 57).bind fun G1=>(bif !(G1)then(some false)else(jJ aB k1 n1 (IntKind.i64.wrap (ng+1)))))else(jJ aB k1 n1 (IntKind.i64.wrap (ng+1))))))else(k1))
def fS(aB:Bytes):Option Bool:=(jJ aB ((lB (aB.length:Int) 1 8).bind fun Xo=>(some Xo)) fuel 0)
def OC(aB:Bytes)(ng:Int):St:=⟨[(0,D.str aB),(3,D.int .i64 ng)],[]⟩
theorem Mn(hΓ:Γ.nt=27){aB:Bytes}{r:Bool}{k1:Option Bool}(cY:k1=some r->Ax Γ N f206 (.q [[none]] (D.bool r)) [1,1] ⟨[(0,D.str aB)],[]⟩):∀(n1:Nat) (ng:Int),jJ aB k1 n1 ng=some r->Ar Γ N f206 (.q [[none]] (D.bool r)) [1,0,1,0] n1 (OC aB ng):=by
 intro n
 induction n with
 |zero=>intro ng h;simp[jJ]at h
 |succ n1 ih1=>
  intro ng h;rw[jJ]at h;refine aM fun N1 bw bn=>?_
  obtain⟨h28,h⟩|⟨h28,h⟩:=aK h
  ·obtain⟨b29,h30,h⟩:=aD h;obtain⟨Yr,h32,h⟩:=aD h;have jU:=(((aU.b h28).c h30).g (gC h32))
   obtain⟨h33,h⟩|⟨h33,h⟩:=aK h
   ·obtain⟨G1,h35,h⟩:=aD h;have iU:=(((((jU.r 3 h33).c h30).r 2 h33).g (gC h35)).r 2 h33)
    obtain⟨h36,h⟩|⟨h36,h⟩:=aK h
    ·have h:=aG h;subst h;exact(iU.b h36).ret hΓ
    ·exact((iU.b h36).a [.cn [0,3] []]).cf hΓ bn (ih1 (IntKind.i64.wrap (ng+1)) h)
   ·exact(((jU.r 7 h33).F 1).a [.cn [0,3] []]).cf hΓ bn (ih1 (IntKind.i64.wrap (ng+1)) h)
  ·exact((aU.b h28).a [.hl 0 [0] []]).ex hΓ bw (cY h)
theorem eY{aB:Bytes}{r:Bool}(h:fS aB=some r):Good prog 206 [D.str aB] (D.bool r):=by
 refine gd func206 [[none]] 27 fun hr Γ hΓ=>?_
 rw[fS]at h;refine(aU.a [.cn [0,3] []]).lp hΓ (Mn hΓ (fun h=>?_) fuel 0 h);obtain⟨Xo,h38,h⟩:=aD h;have h:=aG h;subst h;exact(aU.g (gC h38)).ret hΓ
def rV(aB:Bytes):Option Bool:=((fS aB).bind fun y1=>(bif y1 then((mC aB 0).bind fun b4=>((lB (IntKind.i64.wrap b4.toNat) 97 122).bind fun y6=>(some y6)))else(some false)))
theorem nM{aB:Bytes}{r:Bool}(h:rV aB=some r):Good prog 207 [D.str aB] (D.bool r):=by
 refine gd func207 [[none]] 11 fun hr Γ hΓ=>?_
 rw[rV]at h;obtain⟨y1,h2,h⟩:=aD h;obtain⟨h3,h⟩|⟨h3,h⟩:=aK h
 ·obtain⟨b4,h5,h⟩:=aD h;obtain⟨y6,h7,h⟩:=aD h;have h:=aG h;subst h;exact((((((aU.g (eY h2)).r 2 h3).c h5).r 2 h3).g (gC h7)).b h3).ret hΓ
 ·have h:=aG h;subst h;exact((aU.g (eY h2)).r 5 h3).ret hΓ
def py(aB:aE)(k1:Option Bool):aJ->Nat->Option Bool
 | [],i1=>(k1)
 |bD::bg,i1=>((fS bD).bind fun RI=>(bif !(RI)then(some false)else(py aB k1 bg (i1+1))))
def pM(aB:aE):Option Bool:=(py aB ((rV aB.rel).bind fun Ri=>(bif Ri then(some (decide ((((aB.args.map tx).length:Int):Int)<=3)))else(some false))) aB.args 0)
def OD(aB:aE)(cT:Int):St:=⟨[(1,D.ptr 0 0),(3,D.int .i64 cT)],[Ob.box (aE.c aB)]⟩
theorem Mo(hΓ:Γ.nt=27){aB:aE}{r:Bool}{k1:Option Bool}(cY:k1=some r->Ax Γ N f138 (.q [[none]] (D.bool r)) [1,1] ⟨[(1,D.ptr 0 0)],[Ob.box (aE.c aB)]⟩)(hm1:aB.args.length<=maxLen):∀(rest:aJ) (i1:Nat),aB.args.drop i1=rest->py aB k1 rest i1=some r->Ar Γ N f138 (.q [[none]] (D.bool r)) [1,0,1,0] (rest.length+1) (OD aB (i1:Int)):=by
 intro rest
 induction rest with
 |nil=>
  intro i1 aq h;rw[py]at h;refine aM fun N1 bw bn=>?_
  exact((aU.ge tx aq).a [.hl 0 [1] [0]]).ex hΓ bw (cY h)
 |cons bD bg ih1=>
  intro i1 aq h;rw[py]at h;refine aM fun N1 bw bn=>?_
  obtain⟨RI,h22,h⟩:=aD h;have dH:=(((aU.lt tx aq).l (av tx 1 (dc aq) rfl)).g (eY h22))
  obtain⟨h23,h⟩|⟨h23,h⟩:=aK h
  ·have h:=aG h;subst h;exact(dH.b h23).ret hΓ
  ·exact((dH.b h23).a [.cn [1,3] [0]]).ct hΓ bn (iS aq hm1) (ih1 (i1+1) (dn aq) h)
theorem xq{aB:aE}{r:Bool}(h:pM aB=some r):Good prog 138 [D.agg (aE.c aB)] (D.bool r):=by
 refine gd func138 [[none]] 27 fun hr Γ hΓ=>?_
 rw[pM]at h;refine(aU.a [.cn [1,3] [0]]).lp hΓ (Mo hΓ (fun h=>?_) (by have:=(dU.sl (dU.agg (hr _ (aC (i:=0) rfl)) (.sl (aB.args.map tx)) (by simp))).1;simpa using this) aB.args 0 rfl h);obtain⟨Ri,h25,h⟩:=aD h;obtain⟨h26,h⟩|⟨h26,h⟩:=aK h
 ·cases h;exact((aU.g (nM h25)).r 5 h26).ret hΓ
 ·have h:=aG h;subst h;exact((aU.g (nM h25)).r 5 h26).ret hΓ
def tj(aB:Bytes)(aV:Bytes):Option Int:=(bif Op.bytesLess aB aV then(some (-1))else(bif !(Op.bytesLess aB aV||(aB:Bytes)==aV)then(some 1)else(some 0)))
theorem ye{aB:Bytes}{aV:Bytes}{r:Int}(h:tj aB aV=some r):Good prog 208 [D.str aB,D.str aV] (D.int .i64 r):=by
 refine gd func208 [[none]] 13 fun hr Γ hΓ=>?_
 rw[tj]at h;obtain⟨h1,h⟩|⟨h1,h⟩:=aK h
 ·cases h;exact(aU.b h1).ret hΓ
 ·obtain⟨h2,h⟩|⟨h2,h⟩:=aK h
  ·have h:=aG h;subst h;exact((aU.b h1).b h2).ret hΓ
  ·have h:=aG h;subst h;exact((aU.b h1).b h2).ret hΓ
def iJ(k1:Option Bytes):Nat->Int->Bytes->Option Bytes
 |0,_,_=>none
 |n1+1,xC,ng=>(bif decide (0<=(xC:Int))&&decide (0<(10:Int))then(bif decide (([UInt8.ofNat (IntKind.u8.wrap (IntKind.i64.wrap (48+((xC:Int)%10)))).toNat]:Bytes).length+(ng:Bytes).length<=maxLen)then(bif decide (0<=(xC:Int))&&decide (0<(10:Int))then(bif ((xC:Int)/10:Int)==0 then(some (([UInt8.ofNat (IntKind.u8.wrap (IntKind.i64.wrap (48+((xC:Int)%10)))).toNat])++ng))else(iJ k1 n1 ((xC:Int)/10) (([UInt8.ofNat (IntKind.u8.wrap (IntKind.i64.wrap (48+((xC:Int)%10)))).toNat])++ng)))else none)else none)else none)
def gY:Nat->Int->Option Bytes
 |0,_=>none
 |m_+1,aB=>(bif (aB:Int)==(-9223372036854775808)then(some ([45,57,50,50,51,51,55,50,48,51,54,56,53,52,55,55,53,56,48,56]))else(bif decide ((aB:Int)<0)then((gY m_ (IntKind.i64.wrap (0-aB))).bind fun y3=>(bif decide (([45]:Bytes).length+(y3:Bytes).length<=maxLen)then(some (([45])++y3))else none))else(iJ none fuel aB ([]))))
def Fg(xC:Int)(ng:Bytes):St:=⟨[(0,D.int .i64 xC),(3,D.str ng)],[]⟩
theorem EY(hΓ:Γ.nt=25){r:Bytes}{k1:Option Bytes}(cY:k1=some r->Ax Γ N f235 (.q [[none]] (D.str r)) [1,1,1,1,0,0] ⟨[],[]⟩):∀(n1:Nat) (xC:Int) (ng:Bytes),iJ k1 n1 xC ng=some r->Ar Γ N f235 (.q [[none]] (D.str r)) [1,1,1,1,0] n1 (Fg xC ng):=by
 intro n
 induction n with
 |zero=>intro xC ng h;simp[iJ]at h
 |succ n1 ih1=>
  intro xC ng h;rw[iJ]at h;refine aM fun N1 bw bn=>?_
  obtain⟨h14,h⟩:=bV h;obtain⟨h15,h⟩:=bV h;obtain⟨h16,h⟩:=bV h;have dH:=(((aU.w (Te .i64 h14)).w (bt h15)).w (Te .i64 h16))
  obtain⟨h17,h⟩|⟨h17,h⟩:=aK h
  ·cases h;exact(dH.b h17).rts hΓ (D.str (([UInt8.ofNat (IntKind.u8.wrap (IntKind.i64.wrap (48+((xC:Int)%10)))).toNat])++ng)) (by first|rfl| (simp only[mA]<;>rfl))
  ·exact((dH.b h17).a [.cn [0,3] []]).cf hΓ bn (ih1 ((xC:Int)/10) (([UInt8.ofNat (IntKind.u8.wrap (IntKind.i64.wrap (48+((xC:Int)%10)))).toNat])++ng) h)
theorem DX{m_:Nat}(ihR:∀ {aB:Int} {r:Bytes},gY m_ aB=some r->Good prog 235 [D.int .i64 aB] (D.str r)){aB:Int}{r:Bytes}(h:gY (m_+1) aB=some r):Good prog 235 [D.int .i64 aB] (D.str r):=by
 refine gd func235 [[none]] 25 fun hr Γ hΓ=>?_
 rw[gY]at h;obtain⟨h1,h⟩|⟨h1,h⟩:=aK h
 ·cases h;exact(aU.b h1).ret hΓ
 ·obtain⟨h2,h⟩|⟨h2,h⟩:=aK h
  ·obtain⟨y3,h4,h⟩:=aD h;obtain⟨h5,h⟩:=bV h;cases h;exact((((aU.b h1).b h2).g (ihR h4)).w (bt h5)).rts hΓ (D.str (([45])++y3)) (by first|rfl| (simp only[mA]<;>rfl))
  ·refine(((aU.b h1).b h2).a [.cn [0,3] []]).lp hΓ (EY hΓ (fun h=>?_) fuel aB ([]) h);cases h
theorem yF:∀(m_:Nat) {aB:Int} {r:Bytes},gY m_ aB=some r->Good prog 235 [D.int .i64 aB] (D.str r)
 |0,_,_,h=>by cases h
 |m_+1,_,_,h=>DX (fun h=>yF m_ h) h
def pu(aB:Int):Option Bytes:=gY fuel aB
theorem vS{aB:Int}{r:Bytes}(h:pu aB=some r):Good prog 235 [D.int .i64 aB] (D.str r):=yF fuel h
def iv(aB:Bytes)(k1:Int->Option (Int×Bool)):Nat->Int->Int->Option (Int×Bool)
 |0,_,_=>none
 |n1+1,RF,RG=>(bif decide ((RG:Int)<(aB.length:Int))then((mC aB RG).bind fun b25=>(bif decide ((b25.toNat:Int)<48)then(some (0,false))else(bif decide ((b25.toNat:Int)>57)then(some (0,false))else(iv aB k1 n1 (IntKind.i64.wrap ((IntKind.i64.wrap (10*RF))+(IntKind.i64.wrap (IntKind.u8.wrap (b25.toNat-48))))) (IntKind.i64.wrap (RG+1))))))else(k1 RF))
def oa(aB:Bytes):Option (Int×Bool):=((lB (aB.length:Int) 1 4).bind fun y1=>(bif !(y1)then(some (0,false))else(iv aB (fun(a0Q:Int)=>((pu a0Q).bind fun I6=>(bif !((I6:Bytes)==aB)then(some (0,false))else(some (a0Q,true))))) fuel 0 0)))
def LW(aB:Bytes)(RF:Int)(RG:Int):St:=⟨[(0,D.str aB),(4,D.int .i64 RF),(5,D.int .i64 RG)],[]⟩
theorem Je(hΓ:Γ.nt=39){aB:Bytes}{r:Int×Bool}{k1:Int->Option (Int×Bool)}(cY:∀(a0Q:Int),k1 a0Q=some r->Ax Γ N f260 (.q [[none],[none]] (D.iF [D.int .i64 r.1,D.bool r.2])) [1,1,1,1] ⟨[(0,D.str aB),(4,D.int .i64 a0Q)],[]⟩):∀(n1:Nat) (RF:Int) (RG:Int),iv aB k1 n1 RF RG=some r->Ar Γ N f260 (.q [[none],[none]] (D.iF [D.int .i64 r.1,D.bool r.2])) [1,1,1,0,1,0] n1 (LW aB RF RG):=by
 intro n
 induction n with
 |zero=>intro RF RG h;simp[iv]at h
 |succ n1 ih1=>
  intro RF RG h;rw[iv]at h;refine aM fun N1 bw bn=>?_
  obtain⟨h24,h⟩|⟨h24,h⟩:=aK h
  ·obtain⟨b25,h26,h⟩:=aD h;have jU:=((aU.b h24).c h26)
   obtain⟨h27,h⟩|⟨h27,h⟩:=aK h
   ·cases h;exact((jU.r 5 h27).T 1).ret hΓ
   ·have iU:=(((jU.r 3 h27).c h26).r 2 h27)
    obtain⟨h28,h⟩|⟨h28,h⟩:=aK h
    ·cases h;exact(iU.b h28).ret hΓ
    ·exact(((iU.b h28).c h26).a [.cn [0,4,5] []]).cf hΓ bn (ih1 (IntKind.i64.wrap ((IntKind.i64.wrap (10*RF))+(IntKind.i64.wrap (IntKind.u8.wrap (b25.toNat-48))))) (IntKind.i64.wrap (RG+1)) h)
  ·exact((aU.b h24).a [.hl 0 [0,4] []]).ex hΓ bw (cY RF h)
theorem wI{aB:Bytes}{r:Int×Bool}(h:oa aB=some r):Good prog 260 [D.str aB] (D.iF [D.int .i64 r.1,D.bool r.2]):=by
 refine gd func260 [[none],[none]] 39 fun hr Γ hΓ=>?_
 rw[oa]at h;obtain⟨y1,h2,h⟩:=aD h;obtain⟨h3,h⟩|⟨h3,h⟩:=aK h
 ·cases h;exact((aU.g (gC h2)).b h3).ret hΓ
 ·refine(((aU.g (gC h2)).b h3).a [.cn [0,4,5] []]).lp hΓ (Je hΓ (fun a0Q h=>?_) fuel 0 0 h);obtain⟨I6,h30,h⟩:=aD h;obtain⟨h31,h⟩|⟨h31,h⟩:=aK h
  ·cases h;exact((aU.g (vS h30)).b h31).ret hΓ
  ·cases h;exact((aU.g (vS h30)).b h31).ret hΓ
def jd(aB:Bytes)(aV:Bytes):Option Int:=((oa aB).bind fun y1=>((oa aV).bind fun y3=>(bif y1.2 then(bif y3.2 then(bif decide ((y1.1:Int)<y3.1)then(some (-1))else(bif !(y3.2)then(some (-1))else(bif decide ((y1.1:Int)>y3.1)then(some 1)else(bif !(y1.2)then(some 1)else(some 0)))))else(bif !(y3.2)then(some (-1))else(some 0)))else(bif y3.2 then(bif !(y1.2)then(some 1)else((tj aB aV).bind fun Vk=>(some Vk)))else((tj aB aV).bind fun y16=>(some y16))))))
theorem xP{aB:Bytes}{aV:Bytes}{r:Int}(h:jd aB aV=some r):Good prog 209 [D.str aB,D.str aV] (D.int .i64 r):=by
 refine gd func209 [[none]] 54 fun hr Γ hΓ=>?_
 rw[jd]at h;obtain⟨y1,h2,h⟩:=aD h;obtain⟨y3,h4,h⟩:=aD h;have k7:=((aU.g (wI h2)).g (wI h4))
 obtain⟨h5,h⟩|⟨h5,h⟩:=aK h
 ·have dH:=(k7.r 2 h5)
  obtain⟨h6,h⟩|⟨h6,h⟩:=aK h
  ·have jU:=(dH.r 4 h6)
   obtain⟨h7,h⟩|⟨h7,h⟩:=aK h
   ·cases h;exact(jU.r 2 h7).ret hΓ
   ·have iU:=((jU.b h7).r 3 h5)
    obtain⟨h8,h⟩|⟨h8,h⟩:=aK h
    ·cases h;exact(iU.b h8).ret hΓ
    ·have tX:=(((iU.b h8).r 2 h5).r 4 h6)
     obtain⟨h9,h⟩|⟨h9,h⟩:=aK h
     ·have h:=aG h;subst h;exact(tX.r 2 h9).ret hΓ
     ·have wL:=((tX.b h9).r 3 h6)
      obtain⟨h10,h⟩|⟨h10,h⟩:=aK h
      ·have h:=aG h;subst h;exact(wL.b h10).ret hΓ
      ·have h:=aG h;subst h;exact((wL.b h10).b h5).ret hΓ
  ·have AM:=(((dH.r 4 h6).F 1).r 3 h5)
   obtain⟨h11,h⟩|⟨h11,h⟩:=aK h
   ·cases h;exact(AM.b h11).ret hΓ
   ·have h:=aG h;subst h;exact(((((((AM.b h11).r 2 h5).r 4 h6).F 1).r 3 h6).F 1).b h5).ret hΓ
 ·have D7:=((((((k7.r 2 h5).F 5).r 3 h5).F 1).r 2 h5).F 5)
  obtain⟨h12,h⟩|⟨h12,h⟩:=aK h
  ·have Hz:=(D7.r 3 h12)
   obtain⟨h13,h⟩|⟨h13,h⟩:=aK h
   ·have h:=aG h;subst h;exact(Hz.b h13).ret hΓ
   ·obtain⟨Vk,h15,h⟩:=aD h;have h:=aG h;subst h;exact(((Hz.b h13).b h5).g (ye h15)).ret hΓ
  ·obtain⟨y16,h17,h⟩:=aD h;have h:=aG h;subst h;exact((((D7.r 3 h12).F 1).b h5).g (ye h17)).ret hΓ
def jI(aB:aE)(aV:aE)(k1:Option Int):aJ->Nat->Option Int
 | [],i1=>(k1)
 |bD::bg,i1=>(bif decide (((i1:Int):Int)<((aV.args.map tx).length:Int))then((mC aV.args (i1:Int)).bind fun x37=>((jd bD x37).bind fun RJ=>(bif (RJ:Int) != 0 then(some RJ)else(jI aB aV k1 bg (i1+1)))))else(k1))
def er(aB:aE)(aV:aE):Option Int:=(bif !((aB.rel:Bytes)==aV.rel)then((tj aB.rel aV.rel).bind fun y2=>(some y2))else(jI aB aV (bif decide ((((aB.args.map tx).length:Int):Int)<((aV.args.map tx).length:Int))then(some (-1))else(bif decide ((((aB.args.map tx).length:Int):Int)>((aV.args.map tx).length:Int))then(some 1)else(some 0))) aB.args 0))
def EW(aB:aE)(aV:aE)(cT:Int):St:=⟨[(2,D.ptr 0 0),(3,D.ptr 1 0),(5,D.int .i64 cT)],[Ob.box (aE.c aB),Ob.box (aE.c aV)]⟩
theorem DT(hΓ:Γ.nt=61){aB:aE}{aV:aE}{r:Int}{k1:Option Int}(cY:k1=some r->Ax Γ N f139 (.q [[none]] (D.int .i64 r)) [1,1,1] ⟨[(2,D.ptr 0 0),(3,D.ptr 1 0)],[Ob.box (aE.c aB),Ob.box (aE.c aV)]⟩)(hm1:aB.args.length<=maxLen):∀(rest:aJ) (i1:Nat),aB.args.drop i1=rest->jI aB aV k1 rest i1=some r->Ar Γ N f139 (.q [[none]] (D.int .i64 r)) [1,1,0,1,0] (rest.length+1) (EW aB aV (i1:Int)):=by
 intro rest
 induction rest with
 |nil=>
  intro i1 aq h;rw[jI]at h;refine aM fun N1 bw bn=>?_
  exact((((((((aU.ge tx aq).ge tx aq).ge tx aq).ge tx aq).ge tx aq).ge tx aq).F 1).a [.hl 0 [2,3] [0,1]]).ex hΓ bw (cY h)
 |cons bD bg ih1=>
  intro i1 aq h;rw[jI]at h;refine aM fun N1 bw bn=>?_
  have jU:=((((((aU.lt tx aq).lt tx aq).lt tx aq).lt tx aq).lt tx aq).lt tx aq)
  obtain⟨h36,h⟩|⟨h36,h⟩:=aK h
  ·obtain⟨x37,h38,h⟩:=aD h;obtain⟨RJ,h40,h⟩:=aD h;have iU:=(((((jU.b h36).a [.n 10]).l (av tx 1 (dc aq) rfl)).l (dX tx 1 h38 rfl)).g (xP h40))
   obtain⟨h41,h⟩|⟨h41,h⟩:=aK h
   ·have h:=aG h;subst h;exact(iU.b h41).ret hΓ
   ·exact((iU.b h41).a [.cn [2,3,5] [0,1]]).ct hΓ bn (iS aq hm1) (ih1 (i1+1) (dn aq) h)
  ·exact((jU.b h36).a [.hl 0 [2,3] [0,1]]).ex hΓ bw (cY h)
theorem nh{aB:aE}{aV:aE}{r:Int}(h:er aB aV=some r):Good prog 139 [D.agg (aE.c aB),D.agg (aE.c aV)] (D.int .i64 r):=by
 refine gd func139 [[none]] 61 fun hr Γ hΓ=>?_
 rw[er]at h;obtain⟨h1,h⟩|⟨h1,h⟩:=aK h
 ·obtain⟨y2,h3,h⟩:=aD h;have h:=aG h;subst h;exact((aU.b h1).g (ye h3)).ret hΓ
 ·refine((aU.b h1).a [.cn [2,3,5] [0,1]]).lp hΓ (DT hΓ (fun h=>?_) (by have:=(dU.sl (dU.agg (hr _ (aC (i:=0) rfl)) (.sl (aB.args.map tx)) (by simp))).1;simpa using this) aB.args 0 rfl h);obtain⟨h42,h⟩|⟨h42,h⟩:=aK h
  ·cases h;exact(aU.b h42).ret hΓ
  ·obtain⟨h43,h⟩|⟨h43,h⟩:=aK h
   ·have h:=aG h;subst h;exact((aU.b h42).b h43).ret hΓ
   ·have h:=aG h;subst h;exact((aU.b h42).b h43).ret hΓ
def kM(aB:aP)(k1:Option Bool):aP->Nat->Option Bool
 | [],i1=>(k1)
 |bD::bg,i1=>((pM bD).bind fun I8=>(bif !(I8)then(some false)else(bif decide (((i1:Int):Int)>0)then((mC aB (IntKind.i64.wrap ((i1:Int)-1))).bind fun x49=>((er x49 bD).bind fun y51=>(bif decide ((y51:Int)>=0)then(some false)else(kM aB k1 bg (i1+1)))))else(kM aB k1 bg (i1+1)))))
def qm(aB:aP):Option Bool:=(kM aB (some (decide ((((aB.map aE.c).length:Int):Int)<=24))) aB 0)
def LP(aB:aP)(cT:Int):St:=⟨[(0,D.sl (aB.map aE.c)),(3,D.int .i64 cT)],[]⟩
theorem JT(hΓ:Γ.nt=36){aB:aP}{r:Bool}{k1:Option Bool}(cY:k1=some r->Ax Γ N f80 (.q [[none]] (D.bool r)) [1,1] ⟨[(0,D.sl (aB.map aE.c))],[]⟩)(hm1:aB.length<=maxLen):∀(rest:aP) (i1:Nat),aB.drop i1=rest->kM aB k1 rest i1=some r->Ar Γ N f80 (.q [[none]] (D.bool r)) [1,0,1,0] (rest.length+1) (LP aB (i1:Int)):=by
 intro rest
 induction rest with
 |nil=>
  intro i1 aq h;rw[kM]at h;refine aM fun N1 bw bn=>?_
  exact((aU.ge aE.c aq).a [.hl 0 [0] []]).ex hΓ bw (cY h)
 |cons bD bg ih1=>
  intro i1 aq h;rw[kM]at h;refine aM fun N1 bw bn=>?_
  obtain⟨I8,h46,h⟩:=aD h;have iU:=((((aU.lt aE.c aq).a [.n 19]).l (av aE.c 2 (dc aq) rfl)).g (xq h46))
  obtain⟨h47,h⟩|⟨h47,h⟩:=aK h
  ·have h:=aG h;subst h;exact((((iU.r 3 h47).a [bF,bF,bF,bF,bF,bF,bF,bF,bF,bF,bF]).r 2 h47).T 1).ret hΓ
  ·have tX:=(iU.r 3 h47)
   obtain⟨h48,h⟩|⟨h48,h⟩:=aK h
   ·obtain⟨x49,h50,h⟩:=aD h;obtain⟨y51,h52,h⟩:=aD h;have wL:=((((((((((tX.r 4 h48).l (dX aE.c 2 h50 rfl)).r 4 h48).l (av aE.c 2 (dc aq) rfl)).r 2 h48).g (nh h52)).b h48).b h47).b h48).b h47)
    obtain⟨h53,h⟩|⟨h53,h⟩:=aK h
    ·have h:=aG h;subst h;exact(wL.b h53).ret hΓ
    ·exact((wL.b h53).a [.cn [0,3] []]).ct hΓ bn (iS aq hm1) (ih1 (i1+1) (dn aq) h)
   ·exact((((((tX.r 11 h48).b h47).b h48).b h47).F 1).a [.cn [0,3] []]).ct hΓ bn (iS aq hm1) (ih1 (i1+1) (dn aq) h)
theorem wH{aB:aP}{r:Bool}(h:qm aB=some r):Good prog 80 [D.sl (aB.map aE.c)] (D.bool r):=by
 refine gd func80 [[none]] 36 fun hr Γ hΓ=>?_
 rw[qm]at h;refine(aU.a [.cn [0,3] []]).lp hΓ (JT hΓ (fun h=>?_) (by have:=(dU.sl (hr _ (aC (i:=0) rfl))).1;simpa using this) aB 0 rfl h);cases h;exact aU.ret hΓ
def jv(aB:aJ)(aV:aJ)(k1:Option Bool):aJ->Nat->Option Bool
 | [],i1=>(k1)
 |bD::bg,i1=>((mC aV (i1:Int)).bind fun x22=>(bif !((bD:Bytes)==x22)then(some false)else(jv aB aV k1 bg (i1+1))))
def nQ(aB:aJ)(aV:aJ):Option Bool:=(bif (((aB.map tx).length:Int):Int) != ((aV.map tx).length:Int)then(some false)else(jv aB aV (some true) aB 0))
def Fp(aB:aJ)(aV:aJ)(cT:Int):St:=⟨[(0,D.sl (aB.map tx)),(1,D.sl (aV.map tx)),(5,D.int .i64 cT)],[]⟩
theorem Eb(hΓ:Γ.nt=26){aB:aJ}{aV:aJ}{r:Bool}{k1:Option Bool}(cY:k1=some r->Ax Γ N f224 (.q [[none]] (D.bool r)) [1,1,1] ⟨[],[]⟩)(hm1:aB.length<=maxLen):∀(rest:aJ) (i1:Nat),aB.drop i1=rest->jv aB aV k1 rest i1=some r->Ar Γ N f224 (.q [[none]] (D.bool r)) [1,1,0,1,0] (rest.length+1) (Fp aB aV (i1:Int)):=by
 intro rest
 induction rest with
 |nil=>
  intro i1 aq h;rw[jv]at h;refine aM fun N1 bw bn=>?_
  exact((aU.ge tx aq).a [.hl 0 [] []]).ex hΓ bw (cY h)
 |cons bD bg ih1=>
  intro i1 aq h;rw[jv]at h;refine aM fun N1 bw bn=>?_
  obtain⟨x22,h23,h⟩:=aD h;have dH:=((((aU.lt tx aq).a [.n 8]).l (av tx 1 (dc aq) rfl)).l (dX tx 1 h23 rfl))
  obtain⟨h24,h⟩|⟨h24,h⟩:=aK h
  ·have h:=aG h;subst h;exact(dH.b h24).ret hΓ
  ·exact((dH.b h24).a [.cn [0,1,5] []]).ct hΓ bn (iS aq hm1) (ih1 (i1+1) (dn aq) h)
theorem yH{aB:aJ}{aV:aJ}{r:Bool}(h:nQ aB aV=some r):Good prog 224 [D.sl (aB.map tx),D.sl (aV.map tx)] (D.bool r):=by
 refine gd func224 [[none]] 26 fun hr Γ hΓ=>?_
 rw[nQ]at h;obtain⟨h1,h⟩|⟨h1,h⟩:=aK h
 ·have h:=aG h;subst h;exact(aU.b h1).ret hΓ
 ·refine((aU.b h1).a [.cn [0,1,5] []]).lp hΓ (Eb hΓ (fun h=>?_) (by have:=(dU.sl (hr _ (aC (i:=0) rfl))).1;simpa using this) aB 0 rfl h);have h:=aG h;subst h;exact aU.ret hΓ
def rX(aB:aE)(aV:aE):Option Bool:=(bif (aB.rel:Bytes)==aV.rel then((nQ aB.args aV.args).bind fun y2=>(some y2))else(some false))
theorem Bu{aB:aE}{aV:aE}{r:Bool}(h:rX aB aV=some r):Good prog 150 [D.agg (aE.c aB),D.agg (aE.c aV)] (D.bool r):=by
 refine gd func150 [[none]] 17 fun hr Γ hΓ=>?_
 rw[rX]at h;obtain⟨h1,h⟩|⟨h1,h⟩:=aK h
 ·obtain⟨y2,h3,h⟩:=aD h;have h:=aG h;subst h;exact(((aU.r 5 h1).g (yH h3)).b h1).ret hΓ
 ·have h:=aG h;subst h;exact(aU.r 6 h1).ret hΓ
def kO(aB:aP)(aV:aE)(k1:Option Int):aP->Nat->Option Int
 | [],i1=>(k1)
 |bD::bg,i1=>((rX bD aV).bind fun RI=>(bif RI then(some (i1:Int))else(kO aB aV k1 bg (i1+1))))
def uS(aB:aP)(aV:aE):Option Int:=(kO aB aV (some (-1)) aB 0)
def LS(aB:aP)(aV:aE)(cT:Int):St:=⟨[(0,D.sl (aB.map aE.c)),(3,D.ptr 0 0),(5,D.int .i64 cT)],[Ob.box (aE.c aV)]⟩
theorem JX(hΓ:Γ.nt=19){aB:aP}{aV:aE}{r:Int}{k1:Option Int}(cY:k1=some r->Ax Γ N f165 (.q [[none]] (D.int .i64 r)) [1,1] ⟨[],[]⟩)(hm1:aB.length<=maxLen):∀(rest:aP) (i1:Nat),aB.drop i1=rest->kO aB aV k1 rest i1=some r->Ar Γ N f165 (.q [[none]] (D.int .i64 r)) [1,0,1,0] (rest.length+1) (LS aB aV (i1:Int)):=by
 intro rest
 induction rest with
 |nil=>
  intro i1 aq h;rw[kO]at h;refine aM fun N1 bw bn=>?_
  exact((aU.ge aE.c aq).a [.hl 0 [] []]).ex hΓ bw (cY h)
 |cons bD bg ih1=>
  intro i1 aq h;rw[kO]at h;refine aM fun N1 bw bn=>?_
  obtain⟨RI,h22,h⟩:=aD h;have dH:=((((aU.lt aE.c aq).a [.n 5]).l (av aE.c 2 (dc aq) rfl)).g (Bu h22))
  obtain⟨h23,h⟩|⟨h23,h⟩:=aK h
  ·cases h;exact(dH.b h23).ret hΓ
  ·exact((dH.b h23).a [.cn [0,3,5] [0]]).ct hΓ bn (iS aq hm1) (ih1 (i1+1) (dn aq) h)
theorem HH{aB:aP}{aV:aE}{r:Int}(h:uS aB aV=some r):Good prog 165 [D.sl (aB.map aE.c),D.agg (aE.c aV)] (D.int .i64 r):=by
 refine gd func165 [[none]] 19 fun hr Γ hΓ=>?_
 rw[uS]at h;refine(aU.a [.cn [0,3,5] [0]]).lp hΓ (JX hΓ (fun h=>?_) (by have:=(dU.sl (hr _ (aC (i:=0) rfl))).1;simpa using this) aB 0 rfl h);cases h;exact aU.ret hΓ
def eG(aB:aP)(aV:aE)(k1:Bool->aP->Option aP):aP->Nat->Bool->aP->Option aP
 | [],i1,jr,bu=>(k1 jr bu)
 |bD::bg,i1,jr,bu=>(bif !(jr)then((er bD aV).bind fun aAx=>(bif decide ((aAx:Int)>=0)then((er bD aV).bind fun Jz=>(bif decide ((Jz:Int)>0)then((ew aV).bind fun U3=>(bif room ((bu.map aE.c).length+([[D.str U3.rel,D.sl (U3.args.map tx)]]).length) 40 then((ew bD).bind fun D5=>(bif room (((bu.map aE.c)++([[D.str U3.rel,D.sl (U3.args.map tx)]])).length+([[D.str D5.rel,D.sl (D5.args.map tx)]]).length) 40 then(eG aB aV k1 bg (i1+1) true ((bu++([U3]))++([D5])))else none))else none))else((ew bD).bind fun Xl=>(bif room ((bu.map aE.c).length+([[D.str Xl.rel,D.sl (Xl.args.map tx)]]).length) 40 then(eG aB aV k1 bg (i1+1) true (bu++([Xl])))else none))))else((ew bD).bind fun Xm=>(bif room ((bu.map aE.c).length+([[D.str Xm.rel,D.sl (Xm.args.map tx)]]).length) 40 then(eG aB aV k1 bg (i1+1) jr (bu++([Xm])))else none))))else((ew bD).bind fun CQ=>(bif room ((bu.map aE.c).length+([[D.str CQ.rel,D.sl (CQ.args.map tx)]]).length) 40 then(eG aB aV k1 bg (i1+1) jr (bu++([CQ])))else none)))
def yf(aB:aP)(aV:aE):Option aP:=(eG aB aV (fun(zW:Bool) (tS:aP)=>(bif !(zW)then((ew aV).bind fun a0J=>(bif room ((tS.map aE.c).length+([[D.str a0J.rel,D.sl (a0J.args.map tx)]]).length) 40 then(some (tS++([a0J])))else none))else(some tS))) aB 0 false ([]:aP))
def uY(aB:aP)(aV:aE)(jr:Bool)(W1:List aS)(cT:Int):St:=⟨[(0,D.sl (aB.map aE.c)),(3,D.ptr 0 0),(5,D.acc 1),(6,D.bool jr),(7,D.int .i64 cT)],[Ob.box (aE.c aV),Ob.row .uq 53 2 W1]⟩
theorem OL(hΓ:Γ.nt=54){aB:aP}{aV:aE}{r:aP}{k1:Bool->aP->Option aP}(cY:∀(zW:Bool) (tS:aP),k1 zW tS=some r->Ax Γ N f170 (.q [[some (53,2)]] (D.fr 53 2 (r.map aE.c))) [1,1,1,1] ⟨[(3,D.ptr 0 0),(5,D.acc 1),(6,D.bool zW)],[Ob.box (aE.c aV),Ob.row .uq 53 2 (tS.map aE.c)]⟩)(hm1:aB.length<=maxLen):∀(rest:aP) (i1:Nat) (jr:Bool) (bu:aP),aB.drop i1=rest->eG aB aV k1 rest i1 jr bu=some r->Ar Γ N f170 (.q [[some (53,2)]] (D.fr 53 2 (r.map aE.c))) [1,1,1,0,1,0] (rest.length+1) (uY aB aV jr (bu.map aE.c) (i1:Int)):=by
 intro rest
 induction rest with
 |nil=>
  intro i1 jr bu aq h;rw[eG]at h;refine aM fun N1 bw bn=>?_
  exact((aU.ge aE.c aq).a [.hl 0 [3,5,6] [0,1]]).ex hΓ bw (cY jr bu h)
 |cons bD bg ih1=>
  intro i1 jr bu aq h;rw[eG]at h;refine aM fun N1 bw bn=>?_
  have iU:=((aU.lt aE.c aq).a [.n 8])
  obtain⟨h128,h⟩|⟨h128,h⟩:=aK h
  ·obtain⟨aAx,h130,h⟩:=aD h;have tX:=(((((iU.r 3 h128).l (av aE.c 2 (dc aq) rfl)).r 3 h128).g (nh h130)).r 2 h128)
   obtain⟨h131,h⟩|⟨h131,h⟩:=aK h
   ·obtain⟨Jz,h133,h⟩:=aD h;have wL:=((((tX.b h131).a [.n 5]).l (av aE.c 2 (dc aq) rfl)).g (nh h133))
    obtain⟨h134,h⟩|⟨h134,h⟩:=aK h
    ·obtain⟨U3,h136,h⟩:=aD h;obtain⟨h137,h⟩:=bV h;obtain⟨D5,h139,h⟩:=aD h;obtain⟨h140,h⟩:=bV h;exact(((((((wL.b h134).g (ga h136)).w (cA h137)).l (av aE.c 2 (dc aq) rfl)).g (ga h139)).w (cA h140)).a [.cn [0,3,5,6,7] [0,7]]).cs hΓ bn (uY aB aV true (((bu.map aE.c)++([[D.str U3.rel,D.sl (U3.args.map tx)]]))++([[D.str D5.rel,D.sl (D5.args.map tx)]])) (IntKind.i64.wrap ((i1:Int)+1))) (by first| (simp only[iS aq hm1,mA]<;>rfl)| (simp only[iS aq hm1,mA,aE.c,aR.c,aN.c,Action.c,aO.c,aI.c,cr.c,aQ.c,Node.c,aF.c,cv.c]<;>rfl)) (ih1 (i1+1) true ((bu++([U3]))++([D5])) (dn aq) h)
    ·obtain⟨Xl,h142,h⟩:=aD h;obtain⟨h143,h⟩:=bV h;exact(((((wL.b h134).l (av aE.c 2 (dc aq) rfl)).g (ga h142)).w (cA h143)).a [.cn [0,3,5,6,7] [0,4]]).cs hΓ bn (uY aB aV true ((bu.map aE.c)++([[D.str Xl.rel,D.sl (Xl.args.map tx)]])) (IntKind.i64.wrap ((i1:Int)+1))) (by first| (simp only[iS aq hm1,mA]<;>rfl)| (simp only[iS aq hm1,mA,aE.c,aR.c,aN.c,Action.c,aO.c,aI.c,cr.c,aQ.c,Node.c,aF.c,cv.c]<;>rfl)) (ih1 (i1+1) true (bu++([Xl])) (dn aq) h)
   ·obtain⟨Xm,h145,h⟩:=aD h;obtain⟨h146,h⟩:=bV h;exact(((((tX.b h131).l (av aE.c 2 (dc aq) rfl)).g (ga h145)).w (cA h146)).a [.cn [0,3,5,6,7] [0,4]]).cs hΓ bn (uY aB aV jr ((bu.map aE.c)++([[D.str Xm.rel,D.sl (Xm.args.map tx)]])) (IntKind.i64.wrap ((i1:Int)+1))) (by first| (simp only[iS aq hm1,mA]<;>rfl)| (simp only[iS aq hm1,mA,aE.c,aR.c,aN.c,Action.c,aO.c,aI.c,cr.c,aQ.c,Node.c,aF.c,cv.c]<;>rfl)) (ih1 (i1+1) jr (bu++([Xm])) (dn aq) h)
  ·obtain⟨CQ,h148,h⟩:=aD h;obtain⟨h149,h⟩:=bV h;exact((((((iU.r 8 h128).F 1).l (av aE.c 2 (dc aq) rfl)).g (ga h148)).w (cA h149)).a [.cn [0,3,5,6,7] [0,4]]).cs hΓ bn (uY aB aV jr ((bu.map aE.c)++([[D.str CQ.rel,D.sl (CQ.args.map tx)]])) (IntKind.i64.wrap ((i1:Int)+1))) (by first| (simp only[iS aq hm1,mA]<;>rfl)| (simp only[iS aq hm1,mA,aE.c,aR.c,aN.c,Action.c,aO.c,aI.c,cr.c,aQ.c,Node.c,aF.c,cv.c]<;>rfl)) (ih1 (i1+1) jr (bu++([CQ])) (dn aq) h)
theorem My{aB:aP}{aV:aE}{r:aP}(h:yf aB aV=some r):Good prog 170 [D.sl (aB.map aE.c),D.agg (aE.c aV)] (D.fr 53 2 (r.map aE.c)):=by
 refine gd func170 [[some (53,2)]] 54 fun hr Γ hΓ=>?_
 rw[yf]at h;refine(aU.a [.cn [0,3,5,6,7] [0,1]]).lp hΓ (OL hΓ (fun zW tS h=>?_) (by have:=(dU.sl (hr _ (aC (i:=0) rfl))).1;simpa using this) aB 0 false ([]:aP) rfl h);obtain⟨h150,h⟩|⟨h150,h⟩:=aK h
 ·obtain⟨a0J,h152,h⟩:=aD h;obtain⟨h153,h⟩:=bV h;cases h;exact(((aU.b h150).g (ga h152)).w (cA h153)).rts hΓ (D.fr 53 2 ((tS.map aE.c)++([[D.str a0J.rel,D.sl (a0J.args.map tx)]]))) (by first|rfl| (simp only[mA]<;>rfl))
 ·have h:=aG h;subst h;exact(aU.b h150).ret hΓ
def wG(aB:aP)(aV:aE):Option (aP×Bool):=((qm aB).bind fun y1=>(bif !(y1)then((dP aB).bind fun y4=>(some (y4,false)))else((pM aV).bind fun y6=>(bif !(y6)then((dP aB).bind fun y9=>(some (y9,false)))else((uS aB aV).bind fun Pv=>(bif decide ((Pv:Int)>=0)then((dP aB).bind fun Vk=>(some (Vk,false)))else(bif (((aB.map aE.c).length:Int):Int)==24 then((dP aB).bind fun KN=>(some (KN,false)))else((yf aB aV).bind fun y19=>(some (y19,true))))))))))
theorem JS{aB:aP}{aV:aE}{r:aP×Bool}(h:wG aB aV=some r):Good prog 98 [D.sl (aB.map aE.c),D.agg (aE.c aV)] (D.iF [D.fr 53 2 (r.1.map aE.c),D.bool r.2]):=by
 refine gd func98 [[some (53,2)],[none]] 30 fun hr Γ hΓ=>?_
 rw[wG]at h;obtain⟨y1,h2,h⟩:=aD h;obtain⟨h3,h⟩|⟨h3,h⟩:=aK h
 ·obtain⟨y4,h5,h⟩:=aD h;cases h;exact((((aU.g (wH h2)).r 4 h3).T 10).g (fI h5)).ret hΓ
 ·obtain⟨y6,h7,h⟩:=aD h;have k7:=((((aU.g (wH h2)).r 2 h3).g (xq h7)).r 2 h3)
  obtain⟨h8,h⟩|⟨h8,h⟩:=aK h
  ·obtain⟨y9,h10,h⟩:=aD h;cases h;exact(((k7.r 5 h8).T 5).g (fI h10)).ret hΓ
  ·obtain⟨Pv,h12,h⟩:=aD h;have dH:=(((k7.r 3 h8).g (HH h12)).r 2 h8)
   obtain⟨h13,h⟩|⟨h13,h⟩:=aK h
   ·obtain⟨Vk,h15,h⟩:=aD h;cases h;exact(((dH.r 4 h13).T 1).g (fI h15)).ret hΓ
   ·have jU:=(dH.r 4 h13)
    obtain⟨h16,h⟩|⟨h16,h⟩:=aK h
    ·obtain⟨KN,h18,h⟩:=aD h;cases h;exact((jU.b h16).g (fI h18)).ret hΓ
    ·obtain⟨y19,h20,h⟩:=aD h;cases h;exact((jU.b h16).g (My h20)).ret hΓ
def iL(aB:Bytes):Option Bool:=(bif decide (((aB.length:Int):Int)>1)then((mC aB 0).bind fun b2=>(bif (b2.toNat:Int)==63 then((PX aB.length (some (D.int .i64 1)) none).bind fun p=>(fun l5 u6=>((fS ((aB.take u6).drop l5)).bind fun y8=>(some y8))) p.1 p.2)else(some false)))else(some false))
theorem gG{aB:Bytes}{r:Bool}(h:iL aB=some r):Good prog 234 [D.str aB] (D.bool r):=by
 refine gd func234 [[none]] 16 fun hr Γ hΓ=>?_
 rw[iL]at h;obtain⟨h1,h⟩|⟨h1,h⟩:=aK h
 ·obtain⟨b2,h3,h⟩:=aD h;have k7:=(((aU.r 2 h1).c h3).r 2 h1)
  obtain⟨h4,h⟩|⟨h4,h⟩:=aK h
  ·obtain⟨⟨l5,u6⟩,h7,h⟩:=aD h;obtain⟨y8,h9,h⟩:=aD h;have h:=aG h;subst h;exact((((((k7.r 2 h4).w h7).a [.cut l5 u6]).b h4).g (eY h9)).b h4).ret hΓ
  ·have h:=aG h;subst h;exact(k7.r 4 h4).ret hΓ
 ·have h:=aG h;subst h;exact((aU.r 4 h1).F 4).ret hΓ
def eU(aB:aJ)(aV:Bytes)(k1:Bool->aJ->Option aJ):aJ->Nat->Bool->aJ->Option aJ
 | [],i1,jr,bC=>(k1 jr bC)
 |bD::bg,i1,jr,bC=>(bif !(jr)then(bif !(Op.bytesLess bD aV)then(bif !((bD:Bytes)==aV)then(bif room ((bC.map tx).length+([[D.str aV]]).length) 16 then(bif room (((bC.map tx)++([[D.str aV]])).length+([[D.str bD]]).length) 16 then(eU aB aV k1 bg (i1+1) true ((bC++([aV]))++([bD])))else none)else none)else(bif room ((bC.map tx).length+([[D.str bD]]).length) 16 then(eU aB aV k1 bg (i1+1) true (bC++([bD])))else none))else(bif room ((bC.map tx).length+([[D.str bD]]).length) 16 then(eU aB aV k1 bg (i1+1) jr (bC++([bD])))else none))else(bif room ((bC.map tx).length+([[D.str bD]]).length) 16 then(eU aB aV k1 bg (i1+1) jr (bC++([bD])))else none))
def lZ(aB:aJ)(aV:Bytes):Option aJ:=(eU aB aV (fun(zW:Bool) (bO:aJ)=>(bif !(zW)then(bif room ((bO.map tx).length+([[D.str aV]]).length) 16 then(some (bO++([aV])))else none)else(some bO))) aB 0 false ([]:aJ))
def uX(aB:aJ)(aV:Bytes)(jr:Bool)(W1:List aS)(cT:Int):St:=⟨[(0,D.sl (aB.map tx)),(1,D.str aV),(5,D.acc 0),(6,D.bool jr),(7,D.int .i64 cT)],[Ob.row .uq 9 1 W1]⟩
theorem OK(hΓ:Γ.nt=49){aB:aJ}{aV:Bytes}{r:aJ}{k1:Bool->aJ->Option aJ}(cY:∀(zW:Bool) (bO:aJ),k1 zW bO=some r->Ax Γ N f275 (.q [[some (9,1)]] (D.fr 9 1 (r.map tx))) [1,1,1,1] ⟨[(1,D.str aV),(5,D.acc 0),(6,D.bool zW)],[Ob.row .uq 9 1 (bO.map tx)]⟩)(hm1:aB.length<=maxLen):∀(rest:aJ) (i1:Nat) (jr:Bool) (bC:aJ),aB.drop i1=rest->eU aB aV k1 rest i1 jr bC=some r->Ar Γ N f275 (.q [[some (9,1)]] (D.fr 9 1 (r.map tx))) [1,1,1,0,1,0] (rest.length+1) (uX aB aV jr (bC.map tx) (i1:Int)):=by
 intro rest
 induction rest with
 |nil=>
  intro i1 jr bC aq h;rw[eU]at h;refine aM fun N1 bw bn=>?_
  exact((aU.ge tx aq).a [.hl 0 [1,5,6] [0]]).ex hΓ bw (cY jr bC h)
 |cons bD bg ih1=>
  intro i1 jr bC aq h;rw[eU]at h;refine aM fun N1 bw bn=>?_
  obtain⟨h58,h⟩|⟨h58,h⟩:=aK h
  ·have jU:=((((aU.lt tx aq).r 3 h58).l (av tx 1 (dc aq) rfl)).r 4 h58)
   obtain⟨h59,h⟩|⟨h59,h⟩:=aK h
   ·have iU:=((jU.b h59).l (av tx 1 (dc aq) rfl))
    obtain⟨h60,h⟩|⟨h60,h⟩:=aK h
    ·obtain⟨h61,h⟩:=bV h;obtain⟨h62,h⟩:=bV h;exact(((((iU.b h60).w (cA h61)).l (av tx 1 (dc aq) rfl)).w (cA h62)).a [.cn [0,1,5,6,7] [4]]).cs hΓ bn (uX aB aV true (((bC.map tx)++([[D.str aV]]))++([[D.str bD]])) (IntKind.i64.wrap ((i1:Int)+1))) (by first| (simp only[iS aq hm1,mA]<;>rfl)| (simp only[iS aq hm1,mA,aE.c,aR.c,aN.c,Action.c,aO.c,aI.c,cr.c,aQ.c,Node.c,aF.c,cv.c]<;>rfl)) (ih1 (i1+1) true ((bC++([aV]))++([bD])) (dn aq) h)
    ·obtain⟨h63,h⟩:=bV h;exact((((iU.b h60).l (av tx 1 (dc aq) rfl)).w (cA h63)).a [.cn [0,1,5,6,7] [2]]).cs hΓ bn (uX aB aV true ((bC.map tx)++([[D.str bD]])) (IntKind.i64.wrap ((i1:Int)+1))) (by first| (simp only[iS aq hm1,mA]<;>rfl)| (simp only[iS aq hm1,mA,aE.c,aR.c,aN.c,Action.c,aO.c,aI.c,cr.c,aQ.c,Node.c,aF.c,cv.c]<;>rfl)) (ih1 (i1+1) true (bC++([bD])) (dn aq) h)
   ·obtain⟨h64,h⟩:=bV h;exact((((jU.b h59).l (av tx 1 (dc aq) rfl)).w (cA h64)).a [.cn [0,1,5,6,7] [2]]).cs hΓ bn (uX aB aV jr ((bC.map tx)++([[D.str bD]])) (IntKind.i64.wrap ((i1:Int)+1))) (by first| (simp only[iS aq hm1,mA]<;>rfl)| (simp only[iS aq hm1,mA,aE.c,aR.c,aN.c,Action.c,aO.c,aI.c,cr.c,aQ.c,Node.c,aF.c,cv.c]<;>rfl)) (ih1 (i1+1) jr (bC++([bD])) (dn aq) h)
  ·obtain⟨h65,h⟩:=bV h;exact((((((aU.lt tx aq).r 7 h58).F 1).l (av tx 1 (dc aq) rfl)).w (cA h65)).a [.cn [0,1,5,6,7] [2]]).cs hΓ bn (uX aB aV jr ((bC.map tx)++([[D.str bD]])) (IntKind.i64.wrap ((i1:Int)+1))) (by first| (simp only[iS aq hm1,mA]<;>rfl)| (simp only[iS aq hm1,mA,aE.c,aR.c,aN.c,Action.c,aO.c,aI.c,cr.c,aQ.c,Node.c,aF.c,cv.c]<;>rfl)) (ih1 (i1+1) jr (bC++([bD])) (dn aq) h)
theorem ld{aB:aJ}{aV:Bytes}{r:aJ}(h:lZ aB aV=some r):Good prog 275 [D.sl (aB.map tx),D.str aV] (D.fr 9 1 (r.map tx)):=by
 refine gd func275 [[some (9,1)]] 49 fun hr Γ hΓ=>?_
 rw[lZ]at h;refine(aU.a [.cn [0,1,5,6,7] [0]]).lp hΓ (OK hΓ (fun zW bO h=>?_) (by have:=(dU.sl (hr _ (aC (i:=0) rfl))).1;simpa using this) aB 0 false ([]:aJ) rfl h);obtain⟨h66,h⟩|⟨h66,h⟩:=aK h
 ·obtain⟨h67,h⟩:=bV h;cases h;exact((aU.b h66).w (cA h67)).rts hΓ (D.fr 9 1 ((bO.map tx)++([[D.str aV]]))) (by first|rfl| (simp only[mA]<;>rfl))
 ·have h:=aG h;subst h;exact(aU.b h66).ret hΓ
def l9(aB:aE)(k1:aJ->Option aJ):aJ->Nat->aJ->Option aJ
 | [],i1,bu=>(k1 bu)
 |bD::bg,i1,bu=>((iL bD).bind fun Xo=>(bif Xo then((lZ bu bD).bind fun y40=>(l9 aB k1 bg (i1+1) y40))else(l9 aB k1 bg (i1+1) bu)))
def ni(aB:aE):Option aJ:=(l9 aB (fun(bO:aJ)=>(some bO)) aB.args 0 ([]:aJ))
def OJ(aB:aE)(W0:List aS)(cT:Int):St:=⟨[(1,D.ptr 0 0),(3,D.acc 1),(4,D.int .i64 cT)],[Ob.box (aE.c aB),Ob.row .uq 9 1 W0]⟩
theorem Mx(hΓ:Γ.nt=27){aB:aE}{r:aJ}{k1:aJ->Option aJ}(cY:∀(bO:aJ),k1 bO=some r->Ax Γ N f254 (.q [[some (9,1)]] (D.fr 9 1 (r.map tx))) [1,1,1] ⟨[(3,D.acc 0)],[Ob.row .uq 9 1 (bO.map tx)]⟩)(hm1:aB.args.length<=maxLen):∀(rest:aJ) (i1:Nat) (bu:aJ),aB.args.drop i1=rest->l9 aB k1 rest i1 bu=some r->Ar Γ N f254 (.q [[some (9,1)]] (D.fr 9 1 (r.map tx))) [1,1,0,1,0] (rest.length+1) (OJ aB (bu.map tx) (i1:Int)):=by
 intro rest
 induction rest with
 |nil=>
  intro i1 bu aq h;rw[l9]at h;refine aM fun N1 bw bn=>?_
  exact((aU.ge tx aq).a [.hl 0 [3] [1]]).ex hΓ bw (cY bu h)
 |cons bD bg ih1=>
  intro i1 bu aq h;rw[l9]at h;refine aM fun N1 bw bn=>?_
  obtain⟨Xo,h38,h⟩:=aD h;have dH:=(((aU.lt tx aq).l (av tx 1 (dc aq) rfl)).g (gG h38))
  obtain⟨h39,h⟩|⟨h39,h⟩:=aK h
  ·obtain⟨y40,h41,h⟩:=aD h;exact((((dH.b h39).l (av tx 1 (dc aq) rfl)).g (ld h41)).a [.cn [1,3,4] [0,2]]).ct hΓ bn (iS aq hm1) (ih1 (i1+1) y40 (dn aq) h)
  ·exact((dH.b h39).a [.cn [1,3,4] [0,1]]).ct hΓ bn (iS aq hm1) (ih1 (i1+1) bu (dn aq) h)
theorem qJ{aB:aE}{r:aJ}(h:ni aB=some r):Good prog 254 [D.agg (aE.c aB)] (D.fr 9 1 (r.map tx)):=by
 refine gd func254 [[some (9,1)]] 27 fun hr Γ hΓ=>?_
 rw[ni]at h;refine(aU.a [.cn [1,3,4] [0,1]]).lp hΓ (Mx hΓ (fun bO h=>?_) (by have:=(dU.sl (dU.agg (hr _ (aC (i:=0) rfl)) (.sl (aB.args.map tx)) (by simp))).1;simpa using this) aB.args 0 ([]:aJ) rfl h);have h:=aG h;subst h;exact aU.ret hΓ
def jc(aB:aO)(aV:Int)(i1:Nat)(Nr:aJ)(k2:aJ->Option aJ):aJ->Nat->aJ->Option aJ
 | [],i2,k6=>(k2 k6)
 |lM::wR,i2,k6=>((lZ k6 lM).bind fun a8X=>(jc aB aV i1 Nr k2 wR (i2+1) a8X))
def fk(aB:aO)(aV:Int)(k1:aJ->Option aJ):aj->Nat->aJ->Option aJ
 | [],i1,bu=>(k1 bu)
 |bD::bg,i1,bu=>(bif decide (((i1:Int):Int)<aV)then(bif (bD.kind:Int)==1 then((ni bD.pat).bind fun Nr=>(bif decide (Nr.length<=maxLen)then(jc aB aV i1 Nr (fun(yl:aJ)=>(fk aB aV k1 bg (i1+1) yl)) Nr 0 bu)else none))else(fk aB aV k1 bg (i1+1) bu))else(k1 bu))
def nL(aB:aO)(aV:Int):Option aJ:=(fk aB aV (fun(bO:aJ)=>(some bO)) aB.conds 0 ([]:aJ))
def JV(aB:aO)(aV:Int)(W0:List aS)(cT:Int):St:=⟨[(1,D.int .i64 aV),(2,D.ptr 0 0),(5,D.acc 1),(6,D.int .i64 cT)],[Ob.box (aO.c aB),Ob.row .uq 9 1 W0]⟩
def JW(aB:aO)(aV:Int)(i1:Nat)(Nr:aJ)(W0:List aS)(cT:Int):St:=⟨[(1,D.int .i64 aV),(2,D.ptr 0 0),(5,D.acc 1),(6,D.int .i64 (i1:Int)),(7,D.acc 2),(8,D.int .i64 cT)],[Ob.box (aO.c aB),Ob.row .uq 9 1 W0,Ob.row .uq 9 1 (Nr.map tx)]⟩
theorem HG(hΓ:Γ.nt=49){aB:aO}{aV:Int}{i1:Nat}{Nr:aJ}{r:aJ}{k2:aJ->Option aJ}(CZ:∀(yl:aJ),k2 yl=some r->Ax Γ N f247 (.q [[some (9,1)]] (D.fr 9 1 (r.map tx))) [1,1,0,1,0,0,1,1] ⟨[(1,D.int .i64 aV),(2,D.ptr 0 0),(5,D.acc 1),(6,D.int .i64 (i1:Int))],[Ob.box (aO.c aB),Ob.row .uq 9 1 (yl.map tx)]⟩)(hm2:Nr.length<=maxLen):∀(rest:aJ) (i2:Nat) (k6:aJ),Nr.drop i2=rest->jc aB aV i1 Nr k2 rest i2 k6=some r->Ar Γ N f247 (.q [[some (9,1)]] (D.fr 9 1 (r.map tx))) [1,1,0,1,0,0,1,0,0,1,0,1,1,0] (rest.length+1) (JW aB aV i1 Nr (k6.map tx) (i2:Int)):=by
 intro rest
 induction rest with
 |nil=>
  intro i2 k6 hd2 h;rw[jc]at h;refine aM fun N2 xV ud=>?_
  exact((aU.ge tx hd2).a [.hl 3 [1,2,5,6] [0,1]]).ex hΓ xV (CZ k6 h)
 |cons lM wR ih2=>
  intro i2 k6 hd2 h;rw[jc]at h;refine aM fun N2 xV ud=>?_
  obtain⟨a8X,h184,h⟩:=aD h;exact(((((aU.lt tx hd2).i (pG tx 1 (dc hd2))).o 1 1 .uq (dB tx (dc hd2))).g (ld h184)).a [.cn [1,2,5,6,7,8] [0,3,2]]).ct hΓ ud (iS hd2 hm2) (ih2 (i2+1) a8X (dn hd2) h)
theorem HF(hΓ:Γ.nt=49){aB:aO}{aV:Int}{r:aJ}{k1:aJ->Option aJ}(cY:∀(bO:aJ),k1 bO=some r->Ax Γ N f247 (.q [[some (9,1)]] (D.fr 9 1 (r.map tx))) [1,1,1] ⟨[(5,D.acc 0)],[Ob.row .uq 9 1 (bO.map tx)]⟩)(hm1:aB.conds.length<=maxLen):∀(rest:aj) (i1:Nat) (bu:aJ),aB.conds.drop i1=rest->fk aB aV k1 rest i1 bu=some r->Ar Γ N f247 (.q [[some (9,1)]] (D.fr 9 1 (r.map tx))) [1,1,0,1,0] (rest.length+1) (JV aB aV (bu.map tx) (i1:Int)):=by
 intro rest
 induction rest with
 |nil=>
  intro i1 bu aq h;rw[fk]at h;refine aM fun N1 bw bn=>?_
  exact((((((aU.ge aN.c aq).ge aN.c aq).ge aN.c aq).ge aN.c aq).F 1).a [.hl 0 [5] [1]]).ex hΓ bw (cY bu h)
 |cons bD bg ih1=>
  intro i1 bu aq h;rw[fk]at h;refine aM fun N1 bw bn=>?_
  have jU:=((((aU.lt aN.c aq).lt aN.c aq).lt aN.c aq).lt aN.c aq)
  obtain⟨h157,h⟩|⟨h157,h⟩:=aK h
  ·have iU:=((jU.b h157).l (av aN.c 5 (dc aq) rfl))
   obtain⟨h158,h⟩|⟨h158,h⟩:=aK h
   ·obtain⟨Nr,h160,h⟩:=aD h;obtain⟨h185,h⟩:=bV h;refine((((iU.b h158).l (av aN.c 5 (dc aq) rfl)).g (qJ h160)).a [.cn [1,2,5,6,7,8] [0,1,2]]).lp hΓ (HG hΓ (fun yl h=>?_) (bt h185) Nr 0 bu rfl h);exact(aU.a [.cn [1,2,5,6] [0,1]]).ct hΓ bn (iS aq hm1) (ih1 (i1+1) yl (dn aq) h)
   ·exact((iU.b h158).a [.cn [1,2,5,6] [0,1]]).ct hΓ bn (iS aq hm1) (ih1 (i1+1) bu (dn aq) h)
  ·exact((jU.b h157).a [.hl 0 [5] [1]]).ex hΓ bw (cY bu h)
theorem vR{aB:aO}{aV:Int}{r:aJ}(h:nL aB aV=some r):Good prog 247 [D.agg (aO.c aB),D.int .i64 aV] (D.fr 9 1 (r.map tx)):=by
 refine gd func247 [[some (9,1)]] 49 fun hr Γ hΓ=>?_
 rw[nL]at h;refine(aU.a [.cn [1,2,5,6] [0,1]]).lp hΓ (HF hΓ (fun bO h=>?_) (by have:=(dU.sl (dU.agg (hr _ (aC (i:=0) rfl)) (.sl (aB.conds.map aN.c)) (by simp))).1;simpa using this) aB.conds 0 ([]:aJ) rfl h);have h:=aG h;subst h;exact aU.ret hΓ
def j9(aB:Bytes):Option Bool:=((fS aB).bind fun y1=>(bif y1 then(some true)else((iL aB).bind fun y4=>(some y4))))
theorem kQ{aB:Bytes}{r:Bool}(h:j9 aB=some r):Good prog 269 [D.str aB] (D.bool r):=by
 refine gd func269 [[none]] 9 fun hr Γ hΓ=>?_
 rw[j9]at h;obtain⟨y1,h2,h⟩:=aD h;obtain⟨h3,h⟩|⟨h3,h⟩:=aK h
 ·have h:=aG h;subst h;exact((aU.g (eY h2)).r 3 h3).ret hΓ
 ·obtain⟨y4,h5,h⟩:=aD h;have h:=aG h;subst h;exact((((aU.g (eY h2)).r 2 h3).g (gG h5)).b h3).ret hΓ
def mP(aB:aE)(k1:Option Bool):aJ->Nat->Option Bool
 | [],i1=>(k1)
 |bD::bg,i1=>((j9 bD).bind fun RI=>(bif !(RI)then(some false)else(mP aB k1 bg (i1+1))))
def jK(aB:aE):Option Bool:=(mP aB ((rV aB.rel).bind fun Ri=>(bif Ri then(some (decide ((((aB.args.map tx).length:Int):Int)<=3)))else(some false))) aB.args 0)
def Jc(aB:aE)(cT:Int):St:=⟨[(1,D.ptr 0 0),(3,D.int .i64 cT)],[Ob.box (aE.c aB)]⟩
theorem HN(hΓ:Γ.nt=27){aB:aE}{r:Bool}{k1:Option Bool}(cY:k1=some r->Ax Γ N f225 (.q [[none]] (D.bool r)) [1,1] ⟨[(1,D.ptr 0 0)],[Ob.box (aE.c aB)]⟩)(hm1:aB.args.length<=maxLen):∀(rest:aJ) (i1:Nat),aB.args.drop i1=rest->mP aB k1 rest i1=some r->Ar Γ N f225 (.q [[none]] (D.bool r)) [1,0,1,0] (rest.length+1) (Jc aB (i1:Int)):=by
 intro rest
 induction rest with
 |nil=>
  intro i1 aq h;rw[mP]at h;refine aM fun N1 bw bn=>?_
  exact((aU.ge tx aq).a [.hl 0 [1] [0]]).ex hΓ bw (cY h)
 |cons bD bg ih1=>
  intro i1 aq h;rw[mP]at h;refine aM fun N1 bw bn=>?_
  obtain⟨RI,h22,h⟩:=aD h;have dH:=(((aU.lt tx aq).l (av tx 1 (dc aq) rfl)).g (kQ h22))
  obtain⟨h23,h⟩|⟨h23,h⟩:=aK h
  ·have h:=aG h;subst h;exact(dH.b h23).ret hΓ
  ·exact((dH.b h23).a [.cn [1,3] [0]]).ct hΓ bn (iS aq hm1) (ih1 (i1+1) (dn aq) h)
theorem ju{aB:aE}{r:Bool}(h:jK aB=some r):Good prog 225 [D.agg (aE.c aB)] (D.bool r):=by
 refine gd func225 [[none]] 27 fun hr Γ hΓ=>?_
 rw[jK]at h;refine(aU.a [.cn [1,3] [0]]).lp hΓ (HN hΓ (fun h=>?_) (by have:=(dU.sl (dU.agg (hr _ (aC (i:=0) rfl)) (.sl (aB.args.map tx)) (by simp))).1;simpa using this) aB.args 0 rfl h);obtain⟨Ri,h25,h⟩:=aD h;obtain⟨h26,h⟩|⟨h26,h⟩:=aK h
 ·cases h;exact((aU.g (nM h25)).r 5 h26).ret hΓ
 ·have h:=aG h;subst h;exact((aU.g (nM h25)).r 5 h26).ret hΓ
def rU(aB:aN):Option Bool:=(bif (aB.kind:Int)==1 then((jK aB.pat).bind fun y2=>(bif y2 then(bif (aB.left:Bytes)==([])then(some ((aB.right:Bytes)==([])))else(some false))else(some false)))else(bif (aB.kind:Int)==2 then((jK aB.pat).bind fun y7=>(bif y7 then(bif (aB.left:Bytes)==([])then(some ((aB.right:Bytes)==([])))else(some false))else(some false)))else(bif (aB.kind:Int)==3 then(bif (aB.pat.rel:Bytes)==([])then(bif (((aB.pat.args.map tx).length:Int):Int)==0 then((j9 aB.left).bind fun Vk=>(bif Vk then((j9 aB.right).bind fun KN=>(some KN))else(some false)))else(some false))else(some false))else(bif (aB.kind:Int)==4 then(bif (aB.pat.rel:Bytes)==([])then(bif (((aB.pat.args.map tx).length:Int):Int)==0 then((j9 aB.left).bind fun lI=>(bif lI then((j9 aB.right).bind fun Xn=>(some Xn))else(some false)))else(some false))else(some false))else(bif (aB.kind:Int)==5 then(bif (aB.pat.rel:Bytes)==([])then(bif (((aB.pat.args.map tx).length:Int):Int)==0 then((j9 aB.left).bind fun y30=>(bif y30 then((j9 aB.right).bind fun BR=>(some BR))else(some false)))else(some false))else(some false))else(some false))))))
theorem qH{aB:aN}{r:Bool}(h:rU aB=some r):Good prog 248 [D.agg (aN.c aB)] (D.bool r):=by
 refine gd func248 [[none]] 46 fun hr Γ hΓ=>?_
 rw[rU]at h;obtain⟨h1,h⟩|⟨h1,h⟩:=aK h
 ·obtain⟨y2,h3,h⟩:=aD h;have k7:=((aU.r 2 h1).g (ju h3))
  obtain⟨h4,h⟩|⟨h4,h⟩:=aK h
  ·have dH:=(k7.r 4 h4)
   obtain⟨h5,h⟩|⟨h5,h⟩:=aK h
   ·cases h;exact(dH.r 4 h5).ret hΓ
   ·have h:=aG h;subst h;exact(dH.r 4 h5).ret hΓ
  ·have h:=aG h;subst h;exact((k7.r 4 h4).F 4).ret hΓ
 ·obtain⟨h6,h⟩|⟨h6,h⟩:=aK h
  ·obtain⟨y7,h8,h⟩:=aD h;have jU:=(((aU.b h1).b h6).g (ju h8))
   obtain⟨h9,h⟩|⟨h9,h⟩:=aK h
   ·have iU:=(jU.r 4 h9)
    obtain⟨h10,h⟩|⟨h10,h⟩:=aK h
    ·cases h;exact(iU.r 4 h10).ret hΓ
    ·have h:=aG h;subst h;exact(iU.r 4 h10).ret hΓ
   ·have h:=aG h;subst h;exact((jU.r 4 h9).F 4).ret hΓ
  ·have tX:=((aU.b h1).b h6)
   obtain⟨h11,h⟩|⟨h11,h⟩:=aK h
   ·have wL:=(tX.r 2 h11)
    obtain⟨h12,h⟩|⟨h12,h⟩:=aK h
    ·have AM:=(wL.r 6 h12)
     obtain⟨h13,h⟩|⟨h13,h⟩:=aK h
     ·obtain⟨Vk,h15,h⟩:=aD h;have D7:=(((AM.r 3 h13).g (kQ h15)).b h13)
      obtain⟨h16,h⟩|⟨h16,h⟩:=aK h
      ·obtain⟨KN,h18,h⟩:=aD h;have h:=aG h;subst h;exact(((D7.r 3 h16).g (kQ h18)).b h16).ret hΓ
      ·have h:=aG h;subst h;exact(D7.r 4 h16).ret hΓ
     ·have h:=aG h;subst h;exact((AM.r 4 h13).F 4).ret hΓ
    ·have h:=aG h;subst h;exact((wL.r 6 h12).F 8).ret hΓ
   ·obtain⟨h19,h⟩|⟨h19,h⟩:=aK h
    ·have Hz:=((tX.b h11).r 2 h19)
     obtain⟨h20,h⟩|⟨h20,h⟩:=aK h
     ·have yj:=(Hz.r 6 h20)
      obtain⟨h21,h⟩|⟨h21,h⟩:=aK h
      ·obtain⟨lI,h23,h⟩:=aD h;have D1:=(((yj.r 3 h21).g (kQ h23)).b h21)
       obtain⟨h24,h⟩|⟨h24,h⟩:=aK h
       ·obtain⟨Xn,h26,h⟩:=aD h;have h:=aG h;subst h;exact(((D1.r 3 h24).g (kQ h26)).b h24).ret hΓ
       ·have h:=aG h;subst h;exact(D1.r 4 h24).ret hΓ
      ·have h:=aG h;subst h;exact((yj.r 4 h21).F 4).ret hΓ
     ·have h:=aG h;subst h;exact((Hz.r 6 h20).F 8).ret hΓ
    ·have BG:=((tX.b h11).b h19)
     obtain⟨h27,h⟩|⟨h27,h⟩:=aK h
     ·obtain⟨h28,h⟩|⟨h28,h⟩:=aK h
      ·have Hx:=((BG.b h27).r 6 h28)
       obtain⟨h29,h⟩|⟨h29,h⟩:=aK h
       ·obtain⟨y30,h31,h⟩:=aD h;have Hy:=(((Hx.r 3 h29).g (kQ h31)).b h29)
        obtain⟨h32,h⟩|⟨h32,h⟩:=aK h
        ·obtain⟨BR,h34,h⟩:=aD h;have h:=aG h;subst h;exact(((Hy.r 3 h32).g (kQ h34)).b h32).ret hΓ
        ·have h:=aG h;subst h;exact(Hy.r 4 h32).ret hΓ
       ·have h:=aG h;subst h;exact((Hx.r 4 h29).F 4).ret hΓ
      ·have h:=aG h;subst h;exact(((BG.b h27).r 6 h28).F 8).ret hΓ
     ·have h:=aG h;subst h;exact(BG.b h27).ret hΓ
def mU(aB:aN):Option aJ:=((ni aB.pat).bind fun y1=>((iL aB.left).bind fun y3=>(bif y3 then((lZ y1 aB.left).bind fun y6=>((iL aB.right).bind fun y8=>(bif y8 then((lZ y6 aB.right).bind fun Pv=>(some Pv))else(some y6))))else((iL aB.right).bind fun s8=>(bif s8 then((lZ y1 aB.right).bind fun y16=>(some y16))else(some y1))))))
theorem rC{aB:aN}{r:aJ}(h:mU aB=some r):Good prog 249 [D.agg (aN.c aB)] (D.fr 9 1 (r.map tx)):=by
 refine gd func249 [[some (9,1)]] 22 fun hr Γ hΓ=>?_
 rw[mU]at h;obtain⟨y1,h2,h⟩:=aD h;obtain⟨y3,h4,h⟩:=aD h;have k7:=((aU.g (qJ h2)).g (gG h4))
 obtain⟨h5,h⟩|⟨h5,h⟩:=aK h
 ·obtain⟨y6,h7,h⟩:=aD h;obtain⟨y8,h9,h⟩:=aD h;have dH:=(((k7.b h5).g (ld h7)).g (gG h9))
  obtain⟨h10,h⟩|⟨h10,h⟩:=aK h
  ·obtain⟨Pv,h12,h⟩:=aD h;have h:=aG h;subst h;exact((dH.b h10).g (ld h12)).ret hΓ
  ·have h:=aG h;subst h;exact(dH.b h10).ret hΓ
 ·obtain⟨s8,h14,h⟩:=aD h;have jU:=((k7.b h5).g (gG h14))
  obtain⟨h15,h⟩|⟨h15,h⟩:=aK h
  ·obtain⟨y16,h17,h⟩:=aD h;have h:=aG h;subst h;exact((jU.b h15).g (ld h17)).ret hΓ
  ·have h:=aG h;subst h;exact(jU.b h15).ret hΓ
def ji(aB:aJ)(aV:Bytes)(k1:Option Bool):aJ->Nat->Option Bool
 | [],i1=>(k1)
 |bD::bg,i1=>(bif (bD:Bytes)==aV then(some true)else(ji aB aV k1 bg (i1+1)))
def gm(aB:aJ)(aV:Bytes):Option Bool:=(ji aB aV (some false) aB 0)
def Jk(aB:aJ)(aV:Bytes)(cT:Int):St:=⟨[(0,D.sl (aB.map tx)),(1,D.str aV),(5,D.int .i64 cT)],[]⟩
theorem HT(hΓ:Γ.nt=18){aB:aJ}{aV:Bytes}{r:Bool}{k1:Option Bool}(cY:k1=some r->Ax Γ N f250 (.q [[none]] (D.bool r)) [1,1] ⟨[],[]⟩)(hm1:aB.length<=maxLen):∀(rest:aJ) (i1:Nat),aB.drop i1=rest->ji aB aV k1 rest i1=some r->Ar Γ N f250 (.q [[none]] (D.bool r)) [1,0,1,0] (rest.length+1) (Jk aB aV (i1:Int)):=by
 intro rest
 induction rest with
 |nil=>
  intro i1 aq h;rw[ji]at h;refine aM fun N1 bw bn=>?_
  exact((aU.ge tx aq).a [.hl 0 [] []]).ex hΓ bw (cY h)
 |cons bD bg ih1=>
  intro i1 aq h;rw[ji]at h;refine aM fun N1 bw bn=>?_
  have dH:=((aU.lt tx aq).l (av tx 1 (dc aq) rfl))
  obtain⟨h13,h⟩|⟨h13,h⟩:=aK h
  ·have h:=aG h;subst h;exact(dH.b h13).ret hΓ
  ·exact((dH.b h13).a [.cn [0,1,5] []]).ct hΓ bn (iS aq hm1) (ih1 (i1+1) (dn aq) h)
theorem mj{aB:aJ}{aV:Bytes}{r:Bool}(h:gm aB aV=some r):Good prog 250 [D.sl (aB.map tx),D.str aV] (D.bool r):=by
 refine gd func250 [[none]] 18 fun hr Γ hΓ=>?_
 rw[gm]at h;refine(aU.a [.cn [0,1,5] []]).lp hΓ (HT hΓ (fun h=>?_) (by have:=(dU.sl (hr _ (aC (i:=0) rfl))).1;simpa using this) aB 0 rfl h);have h:=aG h;subst h;exact aU.ret hΓ
def rW(aB:aN):Option Bool:=((rU aB).bind fun y1=>(bif y1 then(some (decide ((aB.kind:Int)>=3)))else(some false)))
theorem th{aB:aN}{r:Bool}(h:rW aB=some r):Good prog 251 [D.agg (aN.c aB)] (D.bool r):=by
 refine gd func251 [[none]] 10 fun hr Γ hΓ=>?_
 rw[rW]at h;obtain⟨y1,h2,h⟩:=aD h;obtain⟨h3,h⟩|⟨h3,h⟩:=aK h
 ·cases h;exact((aU.g (qH h2)).r 4 h3).ret hΓ
 ·have h:=aG h;subst h;exact((aU.g (qH h2)).r 4 h3).ret hΓ
def fZ(aB:aO)(aV:Int)(cW:Bytes)(k1:Option Bool):aj->Nat->Option Bool
 | [],i1=>(k1)
 |bD::bg,i1=>(bif ((i1:Int):Int) != aV then((mU bD).bind fun G1=>((gm G1 cW).bind fun I7=>(bif I7 then(some true)else(fZ aB aV cW k1 bg (i1+1)))))else(fZ aB aV cW k1 bg (i1+1)))
def iK(aB:aO)(cW:Bytes)(k2:Option Bool):bz->Nat->Option Bool
 | [],i2=>(k2)
 |lM::wR,i2=>((ni lM.pat).bind fun y67=>((gm y67 cW).bind fun y69=>(bif y69 then(some true)else(iK aB cW k2 wR (i2+1)))))
def nU(aB:aO)(aV:Int)(cW:Bytes):Option Bool:=(fZ aB aV cW (iK aB cW (some false) aB.cu 0) aB.conds 0)
def Fq(aB:aO)(aV:Int)(cW:Bytes)(cT:Int):St:=⟨[(1,D.int .i64 aV),(2,D.str cW),(3,D.ptr 0 0),(7,D.int .i64 cT)],[Ob.box (aO.c aB)]⟩
theorem Ec(hΓ:Γ.nt=45){aB:aO}{aV:Int}{cW:Bytes}{r:Bool}{k1:Option Bool}(cY:k1=some r->Ax Γ N f252 (.q [[none]] (D.bool r)) [1,1] ⟨[(2,D.str cW),(3,D.ptr 0 0)],[Ob.box (aO.c aB)]⟩)(hm1:aB.conds.length<=maxLen):∀(rest:aj) (i1:Nat),aB.conds.drop i1=rest->fZ aB aV cW k1 rest i1=some r->Ar Γ N f252 (.q [[none]] (D.bool r)) [1,0,1,0] (rest.length+1) (Fq aB aV cW (i1:Int)):=by
 intro rest
 induction rest with
 |nil=>
  intro i1 aq h;rw[fZ]at h;refine aM fun N1 bw bn=>?_
  exact((aU.ge aN.c aq).a [.hl 0 [2,3] [0]]).ex hΓ bw (cY h)
 |cons bD bg ih1=>
  intro i1 aq h;rw[fZ]at h;refine aM fun N1 bw bn=>?_
  obtain⟨h33,h⟩|⟨h33,h⟩:=aK h
  ·obtain⟨G1,h35,h⟩:=aD h;obtain⟨I7,h37,h⟩:=aD h;have jU:=((((((((aU.lt aN.c aq).r 4 h33).l (av aN.c 5 (dc aq) rfl)).r 2 h33).g (rC h35)).r 2 h33).g (mj h37)).b h33)
   obtain⟨h38,h⟩|⟨h38,h⟩:=aK h
   ·have h:=aG h;subst h;exact(jU.b h38).ret hΓ
   ·exact((jU.b h38).a [.cn [1,2,3,7] [0]]).ct hΓ bn (iS aq hm1) (ih1 (i1+1) (dn aq) h)
  ·exact((((aU.lt aN.c aq).r 9 h33).F 1).a [.cn [1,2,3,7] [0]]).ct hΓ bn (iS aq hm1) (ih1 (i1+1) (dn aq) h)
def Ft(aB:aO)(cW:Bytes)(cT:Int):St:=⟨[(2,D.str cW),(3,D.ptr 0 0),(8,D.int .i64 cT)],[Ob.box (aO.c aB)]⟩
theorem Ed(hΓ:Γ.nt=45){aB:aO}{cW:Bytes}{r:Bool}{k2:Option Bool}(CZ:k2=some r->Ax Γ N f252 (.q [[none]] (D.bool r)) [1,1,1] ⟨[],[]⟩)(hm2:aB.cu.length<=maxLen):∀(rest:bz) (i2:Nat),aB.cu.drop i2=rest->iK aB cW k2 rest i2=some r->Ar Γ N f252 (.q [[none]] (D.bool r)) [1,1,0,1,0] (rest.length+1) (Ft aB cW (i2:Int)):=by
 intro rest
 induction rest with
 |nil=>
  intro i2 hd2 h;rw[iK]at h;refine aM fun N2 xV ud=>?_
  exact((aU.ge Action.c hd2).a [.hl 0 [] []]).ex hΓ xV (CZ h)
 |cons lM wR ih2=>
  intro i2 hd2 h;rw[iK]at h;refine aM fun N2 xV ud=>?_
  obtain⟨y67,h68,h⟩:=aD h;obtain⟨y69,h70,h⟩:=aD h;have iU:=((((aU.lt Action.c hd2).l (av Action.c 3 (dc hd2) rfl)).g (qJ h68)).g (mj h70))
  obtain⟨h71,h⟩|⟨h71,h⟩:=aK h
  ·have h:=aG h;subst h;exact(iU.b h71).ret hΓ
  ·exact((iU.b h71).a [.cn [2,3,8] [0]]).ct hΓ ud (iS hd2 hm2) (ih2 (i2+1) (dn hd2) h)
theorem yI{aB:aO}{aV:Int}{cW:Bytes}{r:Bool}(h:nU aB aV cW=some r):Good prog 252 [D.agg (aO.c aB),D.int .i64 aV,D.str cW] (D.bool r):=by
 refine gd func252 [[none]] 45 fun hr Γ hΓ=>?_
 rw[nU]at h;refine(aU.a [.cn [1,2,3,7] [0]]).lp hΓ (Ec hΓ (fun h=>?_) (by have:=(dU.sl (dU.agg (hr _ (aC (i:=0) rfl)) (.sl (aB.conds.map aN.c)) (by simp))).1;simpa using this) aB.conds 0 rfl h);refine(aU.a [.cn [2,3,8] [0]]).lp hΓ (Ed hΓ (fun h=>?_) (by have:=(dU.sl (dU.agg (hr _ (aC (i:=0) rfl)) (.sl (aB.cu.map Action.c)) (by simp))).1;simpa using this) aB.cu 0 rfl h);have h:=aG h;subst h;exact aU.ret hΓ
def uU(aB:Action):Option Bool:=(bif (aB.kind:Int)==1 then((jK aB.pat).bind fun y2=>(some y2))else(bif (aB.kind:Int)==2 then((jK aB.pat).bind fun y5=>(some y5))else(bif (aB.kind:Int)==3 then(bif (aB.pat.rel:Bytes)==([])then(some ((((aB.pat.args.map tx).length:Int):Int)==0))else(some false))else(some false))))
theorem HJ{aB:Action}{r:Bool}(h:uU aB=some r):Good prog 253 [D.agg (Action.c aB)] (D.bool r):=by
 refine gd func253 [[none]] 24 fun hr Γ hΓ=>?_
 rw[uU]at h;obtain⟨h1,h⟩|⟨h1,h⟩:=aK h
 ·obtain⟨y2,h3,h⟩:=aD h;have h:=aG h;subst h;exact((aU.r 2 h1).g (ju h3)).ret hΓ
 ·obtain⟨h4,h⟩|⟨h4,h⟩:=aK h
  ·obtain⟨y5,h6,h⟩:=aD h;have h:=aG h;subst h;exact(((aU.b h1).b h4).g (ju h6)).ret hΓ
  ·have k7:=((aU.b h1).b h4)
   obtain⟨h7,h⟩|⟨h7,h⟩:=aK h
   ·obtain⟨h8,h⟩|⟨h8,h⟩:=aK h
    ·cases h;exact((k7.b h7).r 6 h8).ret hΓ
    ·have h:=aG h;subst h;exact((k7.b h7).r 6 h8).ret hΓ
   ·have h:=aG h;subst h;exact(k7.b h7).ret hΓ
def kR(aB:aO)(i1:Nat)(CQ:aJ)(k2:aJ->Option aJ):aJ->Nat->aJ->Option aJ
 | [],i2,k6=>(k2 k6)
 |lM::wR,i2,k6=>((lZ k6 lM).bind fun a8W=>(kR aB i1 CQ k2 wR (i2+1) a8W))
def iz(aB:aO)(k1:aJ->Option aJ):aj->Nat->aJ->Option aJ
 | [],i1,bu=>(k1 bu)
 |bD::bg,i1,bu=>((mU bD).bind fun CQ=>(bif decide (CQ.length<=maxLen)then(kR aB i1 CQ (fun(yl:aJ)=>(iz aB k1 bg (i1+1) yl)) CQ 0 bu)else none))
def kT(aB:aO)(i3:Nat)(Nt:aJ)(k4:aJ->Option aJ):aJ->Nat->aJ->Option aJ
 | [],i4,U0=>(k4 U0)
 |x4_::xs4,i4,U0=>((lZ U0 x4_).bind fun a8Y=>(kT aB i3 Nt k4 xs4 (i4+1) a8Y))
def gZ(aB:aO)(k3:aJ->Option aJ):bz->Nat->aJ->Option aJ
 | [],i3,Af=>(k3 Af)
 |Vt::U1,i3,Af=>((ni Vt.pat).bind fun Nt=>(bif decide (Nt.length<=maxLen)then(kT aB i3 Nt (fun(Zt:aJ)=>(gZ aB k3 U1 (i3+1) Zt)) Nt 0 Af)else none))
def uW(aB:aO):Option aJ:=(iz aB (fun(tS:aJ)=>(gZ aB (fun(a2V:aJ)=>(some a2V)) aB.cu 0 tS)) aB.conds 0 ([]:aJ))
def LY(aB:aO)(W0:List aS)(cT:Int):St:=⟨[(1,D.ptr 0 0),(3,D.acc 1),(4,D.int .i64 cT)],[Ob.box (aO.c aB),Ob.row .uq 9 1 W0]⟩
def LZ(aB:aO)(i1:Nat)(CQ:aJ)(W0:List aS)(cT:Int):St:=⟨[(1,D.ptr 0 0),(3,D.acc 1),(4,D.int .i64 (i1:Int)),(5,D.acc 2),(6,D.int .i64 cT)],[Ob.box (aO.c aB),Ob.row .uq 9 1 W0,Ob.row .uq 9 1 (CQ.map tx)]⟩
theorem Jg(hΓ:Γ.nt=63){aB:aO}{i1:Nat}{CQ:aJ}{r:aJ}{k2:aJ->Option aJ}(CZ:∀(yl:aJ),k2 yl=some r->Ax Γ N f255 (.q [[some (9,1)]] (D.fr 9 1 (r.map tx))) [1,1,0,1,0,0,1,1] ⟨[(1,D.ptr 0 0),(3,D.acc 1),(4,D.int .i64 (i1:Int))],[Ob.box (aO.c aB),Ob.row .uq 9 1 (yl.map tx)]⟩)(hm2:CQ.length<=maxLen):∀(rest:aJ) (i2:Nat) (k6:aJ),CQ.drop i2=rest->kR aB i1 CQ k2 rest i2 k6=some r->Ar Γ N f255 (.q [[some (9,1)]] (D.fr 9 1 (r.map tx))) [1,1,0,1,0,0,1,0,0,1,1,0] (rest.length+1) (LZ aB i1 CQ (k6.map tx) (i2:Int)):=by
 intro rest
 induction rest with
 |nil=>
  intro i2 k6 hd2 h;rw[kR]at h;refine aM fun N2 xV ud=>?_
  exact((aU.ge tx hd2).a [.hl 3 [1,3,4] [0,1]]).ex hΓ xV (CZ k6 h)
 |cons lM wR ih2=>
  intro i2 k6 hd2 h;rw[kR]at h;refine aM fun N2 xV ud=>?_
  obtain⟨a8W,h172,h⟩:=aD h;exact(((((aU.lt tx hd2).i (pG tx 1 (dc hd2))).o 1 1 .uq (dB tx (dc hd2))).g (ld h172)).a [.cn [1,3,4,5,6] [0,3,2]]).ct hΓ ud (iS hd2 hm2) (ih2 (i2+1) a8W (dn hd2) h)
theorem Jf(hΓ:Γ.nt=63){aB:aO}{r:aJ}{k1:aJ->Option aJ}(cY:∀(tS:aJ),k1 tS=some r->Ax Γ N f255 (.q [[some (9,1)]] (D.fr 9 1 (r.map tx))) [1,1,1] ⟨[(1,D.ptr 0 0),(3,D.acc 1)],[Ob.box (aO.c aB),Ob.row .uq 9 1 (tS.map tx)]⟩)(hm1:aB.conds.length<=maxLen):∀(rest:aj) (i1:Nat) (bu:aJ),aB.conds.drop i1=rest->iz aB k1 rest i1 bu=some r->Ar Γ N f255 (.q [[some (9,1)]] (D.fr 9 1 (r.map tx))) [1,1,0,1,0] (rest.length+1) (LY aB (bu.map tx) (i1:Int)):=by
 intro rest
 induction rest with
 |nil=>
  intro i1 bu aq h;rw[iz]at h;refine aM fun N1 bw bn=>?_
  exact((aU.ge aN.c aq).a [.hl 0 [1,3] [0,1]]).ex hΓ bw (cY bu h)
 |cons bD bg ih1=>
  intro i1 bu aq h;rw[iz]at h;refine aM fun N1 bw bn=>?_
  obtain⟨CQ,h148,h⟩:=aD h;obtain⟨h173,h⟩:=bV h;refine((((aU.lt aN.c aq).l (av aN.c 5 (dc aq) rfl)).g (rC h148)).a [.cn [1,3,4,5,6] [0,1,2]]).lp hΓ (Jg hΓ (fun yl h=>?_) (bt h173) CQ 0 bu rfl h);exact(aU.a [.cn [1,3,4] [0,1]]).ct hΓ bn (iS aq hm1) (ih1 (i1+1) yl (dn aq) h)
def La(aB:aO)(W0:List aS)(cT:Int):St:=⟨[(1,D.ptr 0 0),(3,D.acc 1),(7,D.int .i64 cT)],[Ob.box (aO.c aB),Ob.row .uq 9 1 W0]⟩
def Lc(aB:aO)(i3:Nat)(Nt:aJ)(W0:List aS)(cT:Int):St:=⟨[(1,D.ptr 0 0),(3,D.acc 1),(7,D.int .i64 (i3:Int)),(8,D.acc 2),(9,D.int .i64 cT)],[Ob.box (aO.c aB),Ob.row .uq 9 1 W0,Ob.row .uq 9 1 (Nt.map tx)]⟩
theorem Ji(hΓ:Γ.nt=63){aB:aO}{i3:Nat}{Nt:aJ}{r:aJ}{k4:aJ->Option aJ}(hE4:∀(Zt:aJ),k4 Zt=some r->Ax Γ N f255 (.q [[some (9,1)]] (D.fr 9 1 (r.map tx))) [1,1,1,0,1,0,0,1,1] ⟨[(1,D.ptr 0 0),(3,D.acc 1),(7,D.int .i64 (i3:Int))],[Ob.box (aO.c aB),Ob.row .uq 9 1 (Zt.map tx)]⟩)(hm4:Nt.length<=maxLen):∀(rest:aJ) (i4:Nat) (U0:aJ),Nt.drop i4=rest->kT aB i3 Nt k4 rest i4 U0=some r->Ar Γ N f255 (.q [[some (9,1)]] (D.fr 9 1 (r.map tx))) [1,1,1,0,1,0,0,1,0,0,1,1,0] (rest.length+1) (Lc aB i3 Nt (U0.map tx) (i4:Int)):=by
 intro rest
 induction rest with
 |nil=>
  intro i4 U0 Wd h;rw[kT]at h;refine aM fun N4 hN4 hS4=>?_
  exact((aU.ge tx Wd).a [.hl 3 [1,3,7] [0,1]]).ex hΓ hN4 (hE4 U0 h)
 |cons x4_ xs4 ih4=>
  intro i4 U0 Wd h;rw[kT]at h;refine aM fun N4 hN4 hS4=>?_
  obtain⟨a8Y,h345,h⟩:=aD h;exact(((((aU.lt tx Wd).i (pG tx 1 (dc Wd))).o 1 1 .uq (dB tx (dc Wd))).g (ld h345)).a [.cn [1,3,7,8,9] [0,3,2]]).ct hΓ hS4 (iS Wd hm4) (ih4 (i4+1) a8Y (dn Wd) h)
theorem Jh(hΓ:Γ.nt=63){aB:aO}{r:aJ}{k3:aJ->Option aJ}(hE3:∀(a2V:aJ),k3 a2V=some r->Ax Γ N f255 (.q [[some (9,1)]] (D.fr 9 1 (r.map tx))) [1,1,1,1] ⟨[(3,D.acc 0)],[Ob.row .uq 9 1 (a2V.map tx)]⟩)(Wf:aB.cu.length<=maxLen):∀(rest:bz) (i3:Nat) (Af:aJ),aB.cu.drop i3=rest->gZ aB k3 rest i3 Af=some r->Ar Γ N f255 (.q [[some (9,1)]] (D.fr 9 1 (r.map tx))) [1,1,1,0,1,0] (rest.length+1) (La aB (Af.map tx) (i3:Int)):=by
 intro rest
 induction rest with
 |nil=>
  intro i3 Af BE h;rw[gZ]at h;refine aM fun N3 YF T4=>?_
  exact((aU.ge Action.c BE).a [.hl 0 [3] [1]]).ex hΓ YF (hE3 Af h)
 |cons Vt U1 ih3=>
  intro i3 Af BE h;rw[gZ]at h;refine aM fun N3 YF T4=>?_
  obtain⟨Nt,h321,h⟩:=aD h;obtain⟨h346,h⟩:=bV h;refine((((aU.lt Action.c BE).l (av Action.c 3 (dc BE) rfl)).g (qJ h321)).a [.cn [1,3,7,8,9] [0,1,2]]).lp hΓ (Ji hΓ (fun Zt h=>?_) (bt h346) Nt 0 Af rfl h);exact(aU.a [.cn [1,3,7] [0,1]]).ct hΓ T4 (iS BE Wf) (ih3 (i3+1) Zt (dn BE) h)
theorem HR{aB:aO}{r:aJ}(h:uW aB=some r):Good prog 255 [D.agg (aO.c aB)] (D.fr 9 1 (r.map tx)):=by
 refine gd func255 [[some (9,1)]] 63 fun hr Γ hΓ=>?_
 rw[uW]at h;refine(aU.a [.cn [1,3,4] [0,1]]).lp hΓ (Jf hΓ (fun tS h=>?_) (by have:=(dU.sl (dU.agg (hr _ (aC (i:=0) rfl)) (.sl (aB.conds.map aN.c)) (by simp))).1;simpa using this) aB.conds 0 ([]:aJ) rfl h);refine(aU.a [.cn [1,3,7] [0,1]]).lp hΓ (Jh hΓ (fun a2V h=>?_) (by have:=(dU.sl (dU.agg (hr _ (aC (i:=0) rfl)) (.sl (aB.cu.map Action.c)) (by simp))).1;simpa using this) aB.cu 0 tS rfl h);have h:=aG h;subst h;exact aU.ret hΓ
def fy(aB:aO)(s8:aJ)(i1:Nat)(bD:aN)(Nv:aJ)(Fz:aJ)(k2:Option Bool):aJ->Nat->Option Bool
 | [],i2=>(k2)
 |lM::wR,i2=>((gm Nv lM).bind fun a8a=>((rW bD).bind fun aBC=>(bif aBC then(bif !(a8a)then(some false)else(bif (bD.kind:Int)==2 then(fy aB s8 i1 bD Nv Fz k2 wR (i2+1))else(fy aB s8 i1 bD Nv Fz k2 wR (i2+1))))else(bif (bD.kind:Int)==2 then(bif !(a8a)then((nU aB (i1:Int) lM).bind fun aBD=>(bif aBD then(some false)else(fy aB s8 i1 bD Nv Fz k2 wR (i2+1))))else(fy aB s8 i1 bD Nv Fz k2 wR (i2+1)))else(fy aB s8 i1 bD Nv Fz k2 wR (i2+1))))))
def gA(aB:aO)(s8:aJ)(i1:Nat)(bD:aN)(Nw:aJ)(G0:aJ)(k3:Option Bool):aJ->Nat->Option Bool
 | [],i3=>(k3)
 |Vt::U1,i3=>((gm Nw Vt).bind fun a8b=>((rW bD).bind fun aBF=>(bif aBF then(bif !(a8b)then(some false)else(bif (bD.kind:Int)==2 then(gA aB s8 i1 bD Nw G0 k3 U1 (i3+1))else(gA aB s8 i1 bD Nw G0 k3 U1 (i3+1))))else(bif (bD.kind:Int)==2 then(bif !(a8b)then((nU aB (i1:Int) Vt).bind fun aBG=>(bif aBG then(some false)else(gA aB s8 i1 bD Nw G0 k3 U1 (i3+1))))else(gA aB s8 i1 bD Nw G0 k3 U1 (i3+1)))else(gA aB s8 i1 bD Nw G0 k3 U1 (i3+1))))))
def kz(aB:aO)(s8:aJ)(k1:Option Bool):aj->Nat->Option Bool
 | [],i1=>(k1)
 |bD::bg,i1=>((rU bD).bind fun aBB=>(bif !(aBB)then(some false)else(bif ((i1:Int):Int)==0 then(bif (bD.kind:Int) != 1 then(some false)else((nL aB (i1:Int)).bind fun Nv=>((mU bD).bind fun Fz=>(bif decide (Fz.length<=maxLen)then(fy aB s8 i1 bD Nv Fz (kz aB s8 k1 bg (i1+1)) Fz 0)else none))))else((nL aB (i1:Int)).bind fun Nw=>((mU bD).bind fun G0=>(bif decide (G0.length<=maxLen)then(gA aB s8 i1 bD Nw G0 (kz aB s8 k1 bg (i1+1)) G0 0)else none))))))
def nO(aB:aO)(s8:aJ)(i4:Nat)(Nx:aJ)(k5:Option Bool):aJ->Nat->Option Bool
 | [],i5=>(k5)
 |x5_::xs5,i5=>((gm s8 x5_).bind fun aBJ=>(bif !(aBJ)then(some false)else(nO aB s8 i4 Nx k5 xs5 (i5+1))))
def nN(aB:aO)(s8:aJ)(k4:Option Bool):bz->Nat->Option Bool
 | [],i4=>(k4)
 |x4_::xs4,i4=>((uU x4_).bind fun aBI=>(bif !(aBI)then(some false)else((ni x4_.pat).bind fun Nx=>(bif decide (Nx.length<=maxLen)then(nO aB s8 i4 Nx (nN aB s8 k4 xs4 (i4+1)) Nx 0)else none))))
def xR(aB:aO):Option Bool:=((rV aB.name).bind fun y1=>(bif !(y1)then(some false)else((lB aB.prio 0 9).bind fun y4=>(bif !(y4)then(some false)else((lB ((aB.conds.map aN.c).length:Int) 1 4).bind fun y7=>(bif !(y7)then(some false)else((lB ((aB.cu.map Action.c).length:Int) 1 2).bind fun Oj=>(bif !(Oj)then(some false)else((nL aB ((aB.conds.map aN.c).length:Int)).bind fun s8=>(kz aB s8 (nN aB s8 ((uW aB).bind fun aBK=>(some (decide ((((aBK.map tx).length:Int):Int)<=6)))) aB.cu 0) aB.conds 0))))))))))
def OE(aB:aO)(s8:aJ)(cT:Int):St:=⟨[(1,D.ptr 0 0),(3,D.acc 1),(4,D.int .i64 cT)],[Ob.box (aO.c aB),Ob.row .uq 9 1 (s8.map tx)]⟩
def OF(aB:aO)(s8:aJ)(i1:Nat)(bD:aN)(Nv:aJ)(Fz:aJ)(cT:Int):St:=⟨[(1,D.ptr 0 0),(3,D.acc 1),(4,D.int .i64 (i1:Int)),(5,D.ptr 2 0),(6,D.acc 3),(7,D.acc 4),(8,D.int .i64 cT)],[Ob.box (aO.c aB),Ob.row .uq 9 1 (s8.map tx),Ob.box [D.int .i64 bD.kind,D.str bD.pat.rel,D.sl (bD.pat.args.map tx),D.str bD.left,D.str bD.right],Ob.row .uq 9 1 (Nv.map tx),Ob.row .uq 9 1 (Fz.map tx)]⟩
theorem Mq(hΓ:Γ.nt=145){aB:aO}{s8:aJ}{i1:Nat}{bD:aN}{Nv:aJ}{Fz:aJ}{r:Bool}{k2:Option Bool}(CZ:k2=some r->Ax Γ N f196 (.q [[none]] (D.bool r)) [1,1,1,0,1,0,0,1,1] ⟨[(1,D.ptr 0 0),(3,D.acc 1),(4,D.int .i64 (i1:Int))],[Ob.box (aO.c aB),Ob.row .uq 9 1 (s8.map tx)]⟩)(hm2:Fz.length<=maxLen):∀(rest:aJ) (i2:Nat),Fz.drop i2=rest->fy aB s8 i1 bD Nv Fz k2 rest i2=some r->Ar Γ N f196 (.q [[none]] (D.bool r)) [1,1,1,0,1,0,0,1,0,0,1,1,1,1,1,0] (rest.length+1) (OF aB s8 i1 bD Nv Fz (i2:Int)):=by
 intro rest
 induction rest with
 |nil=>
  intro i2 hd2 h;rw[fy]at h;refine aM fun N2 xV ud=>?_
  exact((aU.ge tx hd2).a [.hl 3 [1,3,4] [0,1]]).ex hΓ xV (CZ h)
 |cons lM wR ih2=>
  intro i2 hd2 h;rw[fy]at h;refine aM fun N2 xV ud=>?_
  obtain⟨a8a,h711,h⟩:=aD h;obtain⟨aBC,h713,h⟩:=aD h;have a5x:=((((((aU.lt tx hd2).i (pG tx 1 (dc hd2))).o 1 1 .uq (dB tx (dc hd2))).g (mj h711)).a [.n 21]).g (th h713))
  obtain⟨h714,h⟩|⟨h714,h⟩:=aK h
  ·have a5y:=(a5x.r 3 h714)
   obtain⟨h715,h⟩|⟨h715,h⟩:=aK h
   ·have h:=aG h;subst h;exact((((((a5y.r 4 h715).a [bF,bF]).r 2 h715).a [bF,bF,bF,bF,bF,bF,bF]).r 2 h715).T 1).ret hΓ
   ·have a5z:=(a5y.r 4 h715)
    obtain⟨h716,h⟩|⟨h716,h⟩:=aK h
    ·exact((((((a5z.r 2 h716).b h715).b h716).r 11 h715).F 1).a [.cn [1,3,4,5,6,7,8] [0,1,2,3,4]]).ct hΓ ud (iS hd2 hm2) (ih2 (i2+1) (dn hd2) h)
    ·exact((((((((((a5z.r 2 h716).b h715).b h716).b h715).F 7).b h715).F 1).b h715).F 1).a [.cn [1,3,4,5,6,7,8] [0,1,2,3,4]]).ct hΓ ud (iS hd2 hm2) (ih2 (i2+1) (dn hd2) h)
  ·have a60:=((a5x.r 3 h714).F 4)
   obtain⟨h717,h⟩|⟨h717,h⟩:=aK h
   ·have a61:=((((a60.r 2 h717).F 1).b h717).F 1)
    obtain⟨h718,h⟩|⟨h718,h⟩:=aK h
    ·obtain⟨aBD,h720,h⟩:=aD h;have a62:=(((((((((a61.r 5 h718).i (pG tx 1 (dc hd2))).b h718).o 1 1 .uq (dB tx (dc hd2))).b h718).g (yI h720)).F 1).b h718).F 1)
     obtain⟨h721,h⟩|⟨h721,h⟩:=aK h
     ·have h:=aG h;subst h;exact(a62.b h721).ret hΓ
     ·exact((a62.b h721).a [.cn [1,3,4,5,6,7,8] [0,1,2,3,4]]).ct hΓ ud (iS hd2 hm2) (ih2 (i2+1) (dn hd2) h)
    ·exact(((((a61.r 7 h718).F 1).b h718).F 2).a [.cn [1,3,4,5,6,7,8] [0,1,2,3,4]]).ct hΓ ud (iS hd2 hm2) (ih2 (i2+1) (dn hd2) h)
   ·exact(((((a60.r 2 h717).F 1).b h717).F 12).a [.cn [1,3,4,5,6,7,8] [0,1,2,3,4]]).ct hΓ ud (iS hd2 hm2) (ih2 (i2+1) (dn hd2) h)
def OG(aB:aO)(s8:aJ)(i1:Nat)(bD:aN)(Nw:aJ)(G0:aJ)(cT:Int):St:=⟨[(1,D.ptr 0 0),(3,D.acc 1),(4,D.int .i64 (i1:Int)),(5,D.ptr 2 0),(6,D.acc 3),(7,D.acc 4),(8,D.int .i64 cT)],[Ob.box (aO.c aB),Ob.row .uq 9 1 (s8.map tx),Ob.box [D.int .i64 bD.kind,D.str bD.pat.rel,D.sl (bD.pat.args.map tx),D.str bD.left,D.str bD.right],Ob.row .uq 9 1 (Nw.map tx),Ob.row .uq 9 1 (G0.map tx)]⟩
theorem Mr(hΓ:Γ.nt=145){aB:aO}{s8:aJ}{i1:Nat}{bD:aN}{Nw:aJ}{G0:aJ}{r:Bool}{k3:Option Bool}(hE3:k3=some r->Ax Γ N f196 (.q [[none]] (D.bool r)) [1,1,1,0,1,0,0,1,1] ⟨[(1,D.ptr 0 0),(3,D.acc 1),(4,D.int .i64 (i1:Int))],[Ob.box (aO.c aB),Ob.row .uq 9 1 (s8.map tx)]⟩)(Wf:G0.length<=maxLen):∀(rest:aJ) (i3:Nat),G0.drop i3=rest->gA aB s8 i1 bD Nw G0 k3 rest i3=some r->Ar Γ N f196 (.q [[none]] (D.bool r)) [1,1,1,0,1,0,0,1,0,0,1,1,1,1,1,0] (rest.length+1) (OG aB s8 i1 bD Nw G0 (i3:Int)):=by
 intro rest
 induction rest with
 |nil=>
  intro i3 BE h;rw[gA]at h;refine aM fun N3 YF T4=>?_
  exact((aU.ge tx BE).a [.hl 3 [1,3,4] [0,1]]).ex hΓ YF (hE3 h)
 |cons Vt U1 ih3=>
  intro i3 BE h;rw[gA]at h;refine aM fun N3 YF T4=>?_
  obtain⟨a8b,h786,h⟩:=aD h;obtain⟨aBF,h788,h⟩:=aD h;have a63:=((((((aU.lt tx BE).i (pG tx 1 (dc BE))).o 1 1 .uq (dB tx (dc BE))).g (mj h786)).a [.n 21]).g (th h788))
  obtain⟨h789,h⟩|⟨h789,h⟩:=aK h
  ·have a64:=(a63.r 3 h789)
   obtain⟨h790,h⟩|⟨h790,h⟩:=aK h
   ·have h:=aG h;subst h;exact((((((a64.r 4 h790).a [bF,bF]).r 2 h790).a [bF,bF,bF,bF,bF,bF,bF]).r 2 h790).T 1).ret hΓ
   ·have a65:=(a64.r 4 h790)
    obtain⟨h791,h⟩|⟨h791,h⟩:=aK h
    ·exact((((((a65.r 2 h791).b h790).b h791).r 11 h790).F 1).a [.cn [1,3,4,5,6,7,8] [0,1,2,3,4]]).ct hΓ T4 (iS BE Wf) (ih3 (i3+1) (dn BE) h)
    ·exact((((((((((a65.r 2 h791).b h790).b h791).b h790).F 7).b h790).F 1).b h790).F 1).a [.cn [1,3,4,5,6,7,8] [0,1,2,3,4]]).ct hΓ T4 (iS BE Wf) (ih3 (i3+1) (dn BE) h)
  ·have a66:=((a63.r 3 h789).F 4)
   obtain⟨h792,h⟩|⟨h792,h⟩:=aK h
   ·have a67:=((((a66.r 2 h792).F 1).b h792).F 1)
    obtain⟨h793,h⟩|⟨h793,h⟩:=aK h
    ·obtain⟨aBG,h795,h⟩:=aD h;have a68:=(((((((((a67.r 5 h793).i (pG tx 1 (dc BE))).b h793).o 1 1 .uq (dB tx (dc BE))).b h793).g (yI h795)).F 1).b h793).F 1)
     obtain⟨h796,h⟩|⟨h796,h⟩:=aK h
     ·have h:=aG h;subst h;exact(a68.b h796).ret hΓ
     ·exact((a68.b h796).a [.cn [1,3,4,5,6,7,8] [0,1,2,3,4]]).ct hΓ T4 (iS BE Wf) (ih3 (i3+1) (dn BE) h)
    ·exact(((((a67.r 7 h793).F 1).b h793).F 2).a [.cn [1,3,4,5,6,7,8] [0,1,2,3,4]]).ct hΓ T4 (iS BE Wf) (ih3 (i3+1) (dn BE) h)
   ·exact(((((a66.r 2 h792).F 1).b h792).F 12).a [.cn [1,3,4,5,6,7,8] [0,1,2,3,4]]).ct hΓ T4 (iS BE Wf) (ih3 (i3+1) (dn BE) h)
theorem Mp(hΓ:Γ.nt=145){aB:aO}{s8:aJ}{r:Bool}{k1:Option Bool}(cY:k1=some r->Ax Γ N f196 (.q [[none]] (D.bool r)) [1,1,1,1] ⟨[(1,D.ptr 0 0),(3,D.acc 1)],[Ob.box (aO.c aB),Ob.row .uq 9 1 (s8.map tx)]⟩)(hm1:aB.conds.length<=maxLen):∀(rest:aj) (i1:Nat),aB.conds.drop i1=rest->kz aB s8 k1 rest i1=some r->Ar Γ N f196 (.q [[none]] (D.bool r)) [1,1,1,0,1,0] (rest.length+1) (OE aB s8 (i1:Int)):=by
 intro rest
 induction rest with
 |nil=>
  intro i1 aq h;rw[kz]at h;refine aM fun N1 bw bn=>?_
  exact((aU.ge aN.c aq).a [.hl 0 [1,3] [0,1]]).ex hΓ bw (cY h)
 |cons bD bg ih1=>
  intro i1 aq h;rw[kz]at h;refine aM fun N1 bw bn=>?_
  obtain⟨aBB,h644,h⟩:=aD h;have a69:=(((aU.lt aN.c aq).l (av aN.c 5 (dc aq) rfl)).g (qH h644))
  obtain⟨h645,h⟩|⟨h645,h⟩:=aK h
  ·have h:=aG h;subst h;exact((((a69.r 3 h645).a [bF,bF,bF]).r 2 h645).T 1).ret hΓ
  ·have a6A:=(a69.r 3 h645)
   obtain⟨h646,h⟩|⟨h646,h⟩:=aK h
   ·have a6B:=((((a6A.r 3 h646).b h645).b h646).b h645)
    obtain⟨h647,h⟩|⟨h647,h⟩:=aK h
    ·have h:=aG h;subst h;exact(a6B.b h647).ret hΓ
    ·obtain⟨Nv,h649,h⟩:=aD h;obtain⟨Fz,h651,h⟩:=aD h;obtain⟨h722,h⟩:=bV h;refine((((a6B.b h647).g (vR h649)).g (rC h651)).a [.cn [1,3,4,5,6,7,8] [0,1,2,3,4]]).lp hΓ (Mq hΓ (fun h=>?_) (bt h722) Fz 0 rfl h);exact(aU.a [.cn [1,3,4] [0,1]]).ct hΓ bn (iS aq hm1) (ih1 (i1+1) (dn aq) h)
   ·obtain⟨Nw,h724,h⟩:=aD h;obtain⟨G0,h726,h⟩:=aD h;obtain⟨h797,h⟩:=bV h;refine((((((((a6A.r 3 h646).b h645).b h646).b h645).F 1).g (vR h724)).g (rC h726)).a [.cn [1,3,4,5,6,7,8] [0,1,2,3,4]]).lp hΓ (Mr hΓ (fun h=>?_) (bt h797) G0 0 rfl h);exact(aU.a [.cn [1,3,4] [0,1]]).ct hΓ bn (iS aq hm1) (ih1 (i1+1) (dn aq) h)
def OH(aB:aO)(s8:aJ)(cT:Int):St:=⟨[(1,D.ptr 0 0),(3,D.acc 1),(10,D.int .i64 cT)],[Ob.box (aO.c aB),Ob.row .uq 9 1 (s8.map tx)]⟩
def OI(aB:aO)(s8:aJ)(i4:Nat)(Nx:aJ)(cT:Int):St:=⟨[(1,D.ptr 0 0),(3,D.acc 1),(10,D.int .i64 (i4:Int)),(11,D.acc 2),(12,D.int .i64 cT)],[Ob.box (aO.c aB),Ob.row .uq 9 1 (s8.map tx),Ob.row .uq 9 1 (Nx.map tx)]⟩
theorem Mt(hΓ:Γ.nt=145){aB:aO}{s8:aJ}{i4:Nat}{Nx:aJ}{r:Bool}{k5:Option Bool}(hE5:k5=some r->Ax Γ N f196 (.q [[none]] (D.bool r)) [1,1,1,1,0,1,0,0,1,1] ⟨[(1,D.ptr 0 0),(3,D.acc 1),(10,D.int .i64 (i4:Int))],[Ob.box (aO.c aB),Ob.row .uq 9 1 (s8.map tx)]⟩)(hm5:Nx.length<=maxLen):∀(rest:aJ) (i5:Nat),Nx.drop i5=rest->nO aB s8 i4 Nx k5 rest i5=some r->Ar Γ N f196 (.q [[none]] (D.bool r)) [1,1,1,1,0,1,0,0,1,0,0,1,1,1,0] (rest.length+1) (OI aB s8 i4 Nx (i5:Int)):=by
 intro rest
 induction rest with
 |nil=>
  intro i5 hd5 h;rw[nO]at h;refine aM fun N5 hN5 hS5=>?_
  exact((aU.ge tx hd5).a [.hl 3 [1,3,10] [0,1]]).ex hΓ hN5 (hE5 h)
 |cons x5_ xs5 ih5=>
  intro i5 hd5 h;rw[nO]at h;refine aM fun N5 hN5 hS5=>?_
  obtain⟨aBJ,h953,h⟩:=aD h;have a6C:=((((aU.lt tx hd5).i (pG tx 1 (dc hd5))).o 1 1 .uq (dB tx (dc hd5))).g (mj h953))
  obtain⟨h954,h⟩|⟨h954,h⟩:=aK h
  ·have h:=aG h;subst h;exact(a6C.b h954).ret hΓ
  ·exact((a6C.b h954).a [.cn [1,3,10,11,12] [0,1,2]]).ct hΓ hS5 (iS hd5 hm5) (ih5 (i5+1) (dn hd5) h)
theorem Ms(hΓ:Γ.nt=145){aB:aO}{s8:aJ}{r:Bool}{k4:Option Bool}(hE4:k4=some r->Ax Γ N f196 (.q [[none]] (D.bool r)) [1,1,1,1,1] ⟨[(1,D.ptr 0 0)],[Ob.box (aO.c aB)]⟩)(hm4:aB.cu.length<=maxLen):∀(rest:bz) (i4:Nat),aB.cu.drop i4=rest->nN aB s8 k4 rest i4=some r->Ar Γ N f196 (.q [[none]] (D.bool r)) [1,1,1,1,0,1,0] (rest.length+1) (OH aB s8 (i4:Int)):=by
 intro rest
 induction rest with
 |nil=>
  intro i4 Wd h;rw[nN]at h;refine aM fun N4 hN4 hS4=>?_
  exact((aU.ge Action.c Wd).a [.hl 0 [1] [0]]).ex hΓ hN4 (hE4 h)
 |cons x4_ xs4 ih4=>
  intro i4 Wd h;rw[nN]at h;refine aM fun N4 hN4 hS4=>?_
  obtain⟨aBI,h927,h⟩:=aD h;have a6D:=(((aU.lt Action.c Wd).l (av Action.c 3 (dc Wd) rfl)).g (HJ h927))
  obtain⟨h928,h⟩|⟨h928,h⟩:=aK h
  ·have h:=aG h;subst h;exact(a6D.b h928).ret hΓ
  ·obtain⟨Nx,h930,h⟩:=aD h;obtain⟨h955,h⟩:=bV h;refine((((a6D.b h928).l (av Action.c 3 (dc Wd) rfl)).g (qJ h930)).a [.cn [1,3,10,11,12] [0,1,2]]).lp hΓ (Mt hΓ (fun h=>?_) (bt h955) Nx 0 rfl h);exact(aU.a [.cn [1,3,10] [0,1]]).ct hΓ hS4 (iS Wd hm4) (ih4 (i4+1) (dn Wd) h)
theorem LV{aB:aO}{r:Bool}(h:xR aB=some r):Good prog 196 [D.agg (aO.c aB)] (D.bool r):=by
 refine gd func196 [[none]] 145 fun hr Γ hΓ=>?_
 rw[xR]at h;obtain⟨y1,h2,h⟩:=aD h;obtain⟨h3,h⟩|⟨h3,h⟩:=aK h
 ·have h:=aG h;subst h;exact(((aU.g (nM h2)).r 5 h3).T 13).ret hΓ
 ·obtain⟨y4,h5,h⟩:=aD h;have a6E:=((((aU.g (nM h2)).r 3 h3).g (gC h5)).r 2 h3)
  obtain⟨h6,h⟩|⟨h6,h⟩:=aK h
  ·have h:=aG h;subst h;exact((a6E.r 6 h6).T 7).ret hΓ
  ·obtain⟨y7,h8,h⟩:=aD h;have a6F:=(((a6E.r 4 h6).g (gC h8)).r 2 h6)
   obtain⟨h9,h⟩|⟨h9,h⟩:=aK h
   ·have h:=aG h;subst h;exact((a6F.r 6 h9).T 1).ret hΓ
   ·obtain⟨Oj,h11,h⟩:=aD h;have a6G:=(((a6F.r 4 h9).g (gC h11)).r 2 h9)
    obtain⟨h12,h⟩|⟨h12,h⟩:=aK h
    ·have h:=aG h;subst h;exact(a6G.b h12).ret hΓ
    ·obtain⟨s8,h14,h⟩:=aD h;refine(((a6G.b h12).g (vR h14)).a [.cn [1,3,4] [0,1]]).lp hΓ (Mp hΓ (fun h=>?_) (by have:=(dU.sl (dU.agg (hr _ (aC (i:=0) rfl)) (.sl (aB.conds.map aN.c)) (by simp))).1;simpa using this) aB.conds 0 rfl h);refine(aU.a [.cn [1,3,10] [0,1]]).lp hΓ (Ms hΓ (fun h=>?_) (by have:=(dU.sl (dU.agg (hr _ (aC (i:=0) rfl)) (.sl (aB.cu.map Action.c)) (by simp))).1;simpa using this) aB.cu 0 rfl h);obtain⟨aBK,h957,h⟩:=aD h;cases h;exact(aU.g (HR h957)).ret hΓ
def kP(aB:au)(aV:Bytes)(k1:Option Int):au->Nat->Option Int
 | [],i1=>(k1)
 |bD::bg,i1=>(bif (bD.name:Bytes)==aV then(some (i1:Int))else(kP aB aV k1 bg (i1+1)))
def uT(aB:au)(aV:Bytes):Option Int:=(kP aB aV (some (-1)) aB 0)
def LU(aB:au)(aV:Bytes)(cT:Int):St:=⟨[(0,D.sl (aB.map aO.c)),(1,D.str aV),(5,D.int .i64 cT)],[]⟩
theorem JY(hΓ:Γ.nt=20){aB:au}{aV:Bytes}{r:Int}{k1:Option Int}(cY:k1=some r->Ax Γ N f197 (.q [[none]] (D.int .i64 r)) [1,1] ⟨[],[]⟩)(hm1:aB.length<=maxLen):∀(rest:au) (i1:Nat),aB.drop i1=rest->kP aB aV k1 rest i1=some r->Ar Γ N f197 (.q [[none]] (D.int .i64 r)) [1,0,1,0] (rest.length+1) (LU aB aV (i1:Int)):=by
 intro rest
 induction rest with
 |nil=>
  intro i1 aq h;rw[kP]at h;refine aM fun N1 bw bn=>?_
  exact((aU.ge aO.c aq).a [.hl 0 [] []]).ex hΓ bw (cY h)
 |cons bD bg ih1=>
  intro i1 aq h;rw[kP]at h;refine aM fun N1 bw bn=>?_
  have dH:=((aU.lt aO.c aq).l (av aO.c 4 (dc aq) rfl))
  obtain⟨h13,h⟩|⟨h13,h⟩:=aK h
  ·cases h;exact(dH.b h13).ret hΓ
  ·exact((dH.b h13).a [.cn [0,1,5] []]).ct hΓ bn (iS aq hm1) (ih1 (i1+1) (dn aq) h)
theorem HI{aB:au}{aV:Bytes}{r:Int}(h:uT aB aV=some r):Good prog 197 [D.sl (aB.map aO.c),D.str aV] (D.int .i64 r):=by
 refine gd func197 [[none]] 20 fun hr Γ hΓ=>?_
 rw[uT]at h;refine(aU.a [.cn [0,1,5] []]).lp hΓ (JY hΓ (fun h=>?_) (by have:=(dU.sl (hr _ (aC (i:=0) rfl))).1;simpa using this) aB 0 rfl h);cases h;exact aU.ret hΓ
def kN(aB:au)(k1:Option Bool):au->Nat->Option Bool
 | [],i1=>(k1)
 |bD::bg,i1=>((xR bD).bind fun BR=>(bif !(BR)then(some false)else((uT aB bD.name).bind fun I7=>(bif (I7:Int) != (i1:Int)then(some false)else(kN aB k1 bg (i1+1))))))
def uR(aB:au):Option Bool:=(kN aB (some (decide ((((aB.map aO.c).length:Int):Int)<=6))) aB 0)
def LQ(aB:au)(cT:Int):St:=⟨[(0,D.sl (aB.map aO.c)),(3,D.int .i64 cT)],[]⟩
theorem JU(hΓ:Γ.nt=30){aB:au}{r:Bool}{k1:Option Bool}(cY:k1=some r->Ax Γ N f131 (.q [[none]] (D.bool r)) [1,1] ⟨[(0,D.sl (aB.map aO.c))],[]⟩)(hm1:aB.length<=maxLen):∀(rest:au) (i1:Nat),aB.drop i1=rest->kN aB k1 rest i1=some r->Ar Γ N f131 (.q [[none]] (D.bool r)) [1,0,1,0] (rest.length+1) (LQ aB (i1:Int)):=by
 intro rest
 induction rest with
 |nil=>
  intro i1 aq h;rw[kN]at h;refine aM fun N1 bw bn=>?_
  exact((aU.ge aO.c aq).a [.hl 0 [0] []]).ex hΓ bw (cY h)
 |cons bD bg ih1=>
  intro i1 aq h;rw[kN]at h;refine aM fun N1 bw bn=>?_
  obtain⟨BR,h34,h⟩:=aD h;have jU:=(((aU.lt aO.c aq).l (av aO.c 4 (dc aq) rfl)).g (LV h34))
  obtain⟨h35,h⟩|⟨h35,h⟩:=aK h
  ·have h:=aG h;subst h;exact((jU.r 10 h35).T 1).ret hΓ
  ·obtain⟨I7,h37,h⟩:=aD h;have iU:=(((((jU.r 4 h35).l (av aO.c 4 (dc aq) rfl)).r 3 h35).g (HI h37)).r 3 h35)
   obtain⟨h38,h⟩|⟨h38,h⟩:=aK h
   ·have h:=aG h;subst h;exact(iU.b h38).ret hΓ
   ·exact((iU.b h38).a [.cn [0,3] []]).ct hΓ bn (iS aq hm1) (ih1 (i1+1) (dn aq) h)
theorem zx{aB:au}{r:Bool}(h:uR aB=some r):Good prog 131 [D.sl (aB.map aO.c)] (D.bool r):=by
 refine gd func131 [[none]] 30 fun hr Γ hΓ=>?_
 rw[uR]at h;refine(aU.a [.cn [0,3] []]).lp hΓ (JU hΓ (fun h=>?_) (by have:=(dU.sl (hr _ (aC (i:=0) rfl))).1;simpa using this) aB 0 rfl h);cases h;exact aU.ret hΓ
def nY(aB:aT)(aV:Bytes)(k1:Option aT):aT->Nat->Option aT
 | [],i1=>(k1)
 |bD::bg,i1=>(bif (bD.var:Bytes)==aV then(some aB)else(nY aB aV k1 bg (i1+1)))
def pN(aB:aT)(aV:Bytes):Option aT:=((iL aV).bind fun y1=>(bif !(y1)then(some aB)else(nY aB aV ((pu (IntKind.i64.wrap (((aB.map aR.c).length:Int)+1))).bind fun y18=>(bif decide (([63]:Bytes).length+(y18:Bytes).length<=maxLen)then(bif room ((aB.map aR.c).length+([[D.str aV,D.str (([63])++y18)]]).length) 32 then(some (aB++([(⟨aV,([63])++y18⟩:aR)])))else none)else none)) aB 0)))
def ON(aB:aT)(aV:Bytes)(cT:Int):St:=⟨[(0,D.acc 0),(1,D.str aV),(5,D.int .i64 cT)],[Ob.row .uq 152 2 (aB.map aR.c)]⟩
theorem NE(hΓ:Γ.nt=34){aB:aT}{aV:Bytes}{r:aT}{k1:Option aT}(cY:k1=some r->Ax Γ N f162 (.q [[some (152,2)]] (D.fr 152 2 (r.map aR.c))) [1,1,1] ⟨[(0,D.acc 0),(1,D.str aV)],[Ob.row .uq 152 2 (aB.map aR.c)]⟩)(hm1:aB.length<=maxLen):∀(rest:aT) (i1:Nat),aB.drop i1=rest->nY aB aV k1 rest i1=some r->Ar Γ N f162 (.q [[some (152,2)]] (D.fr 152 2 (r.map aR.c))) [1,1,0,1,0] (rest.length+1) (ON aB aV (i1:Int)):=by
 intro rest
 induction rest with
 |nil=>
  intro i1 aq h;rw[nY]at h;refine aM fun N1 bw bn=>?_
  exact((aU.ge aR.c aq).a [.hl 0 [0,1] [0]]).ex hΓ bw (cY h)
 |cons bD bg ih1=>
  intro i1 aq h;rw[nY]at h;refine aM fun N1 bw bn=>?_
  have k7:=(((aU.lt aR.c aq).i (pG aR.c 2 (dc aq))).o 2 1 .uq (dB aR.c (dc aq)))
  obtain⟨h17,h⟩|⟨h17,h⟩:=aK h
  ·have h:=aG h;subst h;exact(k7.b h17).ret hΓ
  ·exact((k7.b h17).a [.cn [0,1,5] [0]]).ct hΓ bn (iS aq hm1) (ih1 (i1+1) (dn aq) h)
theorem tr{aB:aT}{aV:Bytes}{r:aT}(h:pN aB aV=some r):K4 prog 162 [D.acc 0,D.str aV] 152 2 (aB.map aR.c) (r.map aR.c):=by
 refine K4.of (c:=jw f162) func162 rfl (by decide) (by simp[f162]) (Dk (c:=aR.c) (fun _=>rfl) r) ?_;intro Cy Γ hΓ;have hΓ:Γ.nt=34:=hΓ;rw[pN]at h;refine(show AW prog Γ (jw f162) (KQ prog Γ (fun _ _=>False) ((Kd.q [[some (152,2)]] (D.fr 152 2 (r.map aR.c))).qq prog f162) []) _ from ?_);obtain⟨y1,h2,h⟩:=aD h;obtain⟨h3,h⟩|⟨h3,h⟩:=aK h
 ·have h:=aG h;subst h;exact((aU.g (gG h2)).b h3).ret hΓ
 ·refine(((aU.g (gG h2)).b h3).a [.cn [0,1,5] [0]]).lp hΓ (NE hΓ (fun h=>?_) (by simpa using Cy) aB 0 rfl h);obtain⟨y18,h19,h⟩:=aD h;obtain⟨h20,h⟩:=bV h;obtain⟨h21,h⟩:=bV h;cases h;exact(((aU.g (vS h19)).w (bt h20)).w (cA h21)).rts hΓ (D.fr 152 2 ((aB.map aR.c)++([[D.str aV,D.str (([63])++y18)]]))) (by first|rfl| (simp only[mA]<;>rfl))
def iy(aB:aO)(i1:Nat)(bD:aN)(k2:aT->Option aT):aJ->Nat->aT->Option aT
 | [],i2,k6=>(k2 k6)
 |lM::wR,i2,k6=>((pN k6 lM).bind fun D6=>(iy aB i1 bD k2 wR (i2+1) D6))
def iw(aB:aO)(k1:aT->Option aT):aj->Nat->aT->Option aT
 | [],i1,bu=>(k1 bu)
 |bD::bg,i1,bu=>(bif decide (bD.pat.args.length<=maxLen)then(iy aB i1 bD (fun(yl:aT)=>((pN yl bD.left).bind fun zV=>((pN zV bD.right).bind fun a3Z=>(iw aB k1 bg (i1+1) a3Z)))) bD.pat.args 0 bu)else none)
def rE(aB:aO):Option aT:=(iw aB (fun(bO:aT)=>(some bO)) aB.conds 0 ([]:aT))
def HP(aB:aO)(W0:List aS)(cT:Int):St:=⟨[(1,D.ptr 0 0),(3,D.acc 1),(4,D.int .i64 cT)],[Ob.box (aO.c aB),Ob.row .uq 152 2 W0]⟩
def HQ(aB:aO)(i1:Nat)(W0:List aS)(cT:Int):St:=⟨[(1,D.ptr 0 0),(3,D.acc 1),(4,D.int .i64 (i1:Int)),(5,D.int .i64 cT)],[Ob.box (aO.c aB),Ob.row .uq 152 2 W0]⟩
theorem Fm(hΓ:Γ.nt=55){aB:aO}{i1:Nat}{bD:aN}{r:aT}{k2:aT->Option aT}(CZ:∀(yl:aT),k2 yl=some r->Ax Γ N f92 (.q [[some (152,2)]] (D.fr 152 2 (r.map aR.c))) [1,1,0,1,0,0,1,0,0,1] ⟨[(1,D.ptr 0 0),(3,D.acc 1),(4,D.int .i64 (i1:Int))],[Ob.box (aO.c aB),Ob.row .uq 152 2 (yl.map aR.c)]⟩)(hx1:(aB.conds)[i1]?=some bD)(hm2:bD.pat.args.length<=maxLen):∀(rest:aJ) (i2:Nat) (k6:aT),bD.pat.args.drop i2=rest->iy aB i1 bD k2 rest i2 k6=some r->Ar Γ N f92 (.q [[some (152,2)]] (D.fr 152 2 (r.map aR.c))) [1,1,0,1,0,0,1,0,0,0,1,0] (rest.length+1) (HQ aB i1 (k6.map aR.c) (i2:Int)):=by
 intro rest
 induction rest with
 |nil=>
  intro i2 k6 hd2 h;rw[iy]at h;refine aM fun N2 xV ud=>?_
  exact(((aU.l (av aN.c 5 hx1 rfl)).ge tx hd2).a [.hl 5 [1,3,4] [0,1]]).ex hΓ xV (CZ k6 h)
 |cons lM wR ih2=>
  intro i2 k6 hd2 h;rw[iy]at h;refine aM fun N2 xV ud=>?_
  obtain⟨D6,h207,h⟩:=aD h;exact(((((((aU.l (av aN.c 5 hx1 rfl)).lt tx hd2).l (av aN.c 5 hx1 rfl)).l (av tx 1 (dc hd2) rfl)).w (show(k6.map aR.c).flatten.all D.flat=true from by simpa only[bS,bH,bX]using Dk (c:=aR.c) (fun _=>rfl) k6)).w (show K4 prog 162 [D.acc 0,D.str lM] 152 2 (k6.map aR.c) (D6.map aR.c)from by simpa only[bS,bH,bX]using tr h207)).a [.ov 1 (D6.map aR.c),.cn [1,3,4,5] [0,2]]).ct hΓ ud (iS hd2 hm2) (ih2 (i2+1) D6 (dn hd2) h)
theorem Fl(hΓ:Γ.nt=55){aB:aO}{r:aT}{k1:aT->Option aT}(cY:∀(bO:aT),k1 bO=some r->Ax Γ N f92 (.q [[some (152,2)]] (D.fr 152 2 (r.map aR.c))) [1,1,1] ⟨[(3,D.acc 0)],[Ob.row .uq 152 2 (bO.map aR.c)]⟩)(hm1:aB.conds.length<=maxLen):∀(rest:aj) (i1:Nat) (bu:aT),aB.conds.drop i1=rest->iw aB k1 rest i1 bu=some r->Ar Γ N f92 (.q [[some (152,2)]] (D.fr 152 2 (r.map aR.c))) [1,1,0,1,0] (rest.length+1) (HP aB (bu.map aR.c) (i1:Int)):=by
 intro rest
 induction rest with
 |nil=>
  intro i1 bu aq h;rw[iw]at h;refine aM fun N1 bw bn=>?_
  exact((aU.ge aN.c aq).a [.hl 0 [3] [1]]).ex hΓ bw (cY bu h)
 |cons bD bg ih1=>
  intro i1 bu aq h;rw[iw]at h;refine aM fun N1 bw bn=>?_
  obtain⟨h212,h⟩:=bV h;refine((aU.lt aN.c aq).a [.cn [1,3,4,5] [0,1]]).lp hΓ (Fm hΓ (fun yl h=>?_) ((drop_cons aq).1) (bt h212) bD.pat.args 0 bu rfl h);obtain⟨zV,h209,h⟩:=aD h;obtain⟨a3Z,h211,h⟩:=aD h;exact((((((((aU.l (av aN.c 5 (dc aq) rfl)).w (show(yl.map aR.c).flatten.all D.flat=true from by simpa only[bS,bH,bX]using Dk (c:=aR.c) (fun _=>rfl) yl)).w (show K4 prog 162 [D.acc 0,D.str bD.left] 152 2 (yl.map aR.c) (zV.map aR.c)from by simpa only[bS,bH,bX]using tr h209)).a [.ov 1 (zV.map aR.c)]).l (av aN.c 5 (dc aq) rfl)).w (show(zV.map aR.c).flatten.all D.flat=true from by simpa only[bS,bH,bX]using Dk (c:=aR.c) (fun _=>rfl) zV)).w (show K4 prog 162 [D.acc 0,D.str bD.right] 152 2 (zV.map aR.c) (a3Z.map aR.c)from by simpa only[bS,bH,bX]using tr h211)).a [.ov 2 (a3Z.map aR.c),.cn [1,3,4] [0,3]]).ct hΓ bn (iS aq hm1) (ih1 (i1+1) a3Z (dn aq) h)
theorem Ea{aB:aO}{r:aT}(h:rE aB=some r):Good prog 92 [D.agg (aO.c aB)] (D.fr 152 2 (r.map aR.c)):=by
 refine gd func92 [[some (152,2)]] 55 fun hr Γ hΓ=>?_
 rw[rE]at h;refine(aU.a [.cn [1,3,4] [0,1]]).lp hΓ (Fl hΓ (fun bO h=>?_) (by have:=(dU.sl (dU.agg (hr _ (aC (i:=0) rfl)) (.sl (aB.conds.map aN.c)) (by simp))).1;simpa using this) aB.conds 0 ([]:aT) rfl h);have h:=aG h;subst h;exact aU.ret hΓ
def l6(aB:aO)(y1:aT)(k1:aj->Option aj):aj->Nat->aj->Option aj
 | [],i1,bu=>(k1 bu)
 |bD::bg,i1,bu=>((jq bD y1).bind fun I6=>(bif room ((bu.map aN.c).length+([[D.int .i64 I6.kind,D.str I6.pat.rel,D.sl (I6.pat.args.map tx),D.str I6.left,D.str I6.right]]).length) 80 then(l6 aB y1 k1 bg (i1+1) (bu++([I6])))else none))
def rD(aB:aO):Option aj:=((rE aB).bind fun y1=>(l6 aB y1 (fun(bO:aj)=>(some bO)) aB.conds 0 ([]:aj)))
def zz(aB:aO)(y1:aT)(W0:List aS)(cT:Int):St:=⟨[(1,D.ptr 0 0),(3,D.acc 1),(4,D.acc 2),(5,D.int .i64 cT)],[Ob.box (aO.c aB),Ob.row .uq 115 5 W0,Ob.row .uq 152 2 (y1.map aR.c)]⟩
theorem Fk(hΓ:Γ.nt=27){aB:aO}{y1:aT}{r:aj}{k1:aj->Option aj}(cY:∀(bO:aj),k1 bO=some r->Ax Γ N f132 (.q [[some (115,5)]] (D.fr 115 5 (r.map aN.c))) [1,1,1,1] ⟨[(3,D.acc 0)],[Ob.row .uq 115 5 (bO.map aN.c)]⟩)(hm1:aB.conds.length<=maxLen):∀(rest:aj) (i1:Nat) (bu:aj),aB.conds.drop i1=rest->l6 aB y1 k1 rest i1 bu=some r->Ar Γ N f132 (.q [[some (115,5)]] (D.fr 115 5 (r.map aN.c))) [1,1,1,0,1,0] (rest.length+1) (zz aB y1 (bu.map aN.c) (i1:Int)):=by
 intro rest
 induction rest with
 |nil=>
  intro i1 bu aq h;rw[l6]at h;refine aM fun N1 bw bn=>?_
  exact((aU.ge aN.c aq).a [.hl 0 [3] [1]]).ex hΓ bw (cY bu h)
 |cons bD bg ih1=>
  intro i1 bu aq h;rw[l6]at h;refine aM fun N1 bw bn=>?_
  obtain⟨I6,h30,h⟩:=aD h;obtain⟨h31,h⟩:=bV h;exact(((((aU.lt aN.c aq).l (av aN.c 5 (dc aq) rfl)).g (jN h30)).w (cA h31)).a [.cn [1,3,4,5] [0,5,2]]).cs hΓ bn (zz aB y1 ((bu.map aN.c)++([[D.int .i64 I6.kind,D.str I6.pat.rel,D.sl (I6.pat.args.map tx),D.str I6.left,D.str I6.right]])) (IntKind.i64.wrap ((i1:Int)+1))) (by first| (simp only[iS aq hm1,mA]<;>rfl)| (simp only[iS aq hm1,mA,aE.c,aR.c,aN.c,Action.c,aO.c,aI.c,cr.c,aQ.c,Node.c,aF.c,cv.c]<;>rfl)) (ih1 (i1+1) (bu++([I6])) (dn aq) h)
theorem EZ{aB:aO}{r:aj}(h:rD aB=some r):Good prog 132 [D.agg (aO.c aB)] (D.fr 115 5 (r.map aN.c)):=by
 refine gd func132 [[some (115,5)]] 27 fun hr Γ hΓ=>?_
 rw[rD]at h;obtain⟨y1,h2,h⟩:=aD h;refine((aU.g (Ea h2)).a [.cn [1,3,4,5] [0,1,2]]).lp hΓ (Fk hΓ (fun bO h=>?_) (by have:=(dU.sl (dU.agg (hr _ (aC (i:=0) rfl)) (.sl (aB.conds.map aN.c)) (by simp))).1;simpa using this) aB.conds 0 ([]:aj) rfl h);have h:=aG h;subst h;exact aU.ret hΓ
def j0(aB:aE)(aV:aE):Option Bool:=(bif (aB.rel:Bytes)==aV.rel then((nQ aB.args aV.args).bind fun y2=>(some y2))else(some false))
theorem tN{aB:aE}{aV:aE}{r:Bool}(h:j0 aB aV=some r):Good prog 148 [D.agg (aE.c aB),D.agg (aE.c aV)] (D.bool r):=by
 refine gd func148 [[none]] 17 fun hr Γ hΓ=>?_
 rw[j0]at h;obtain⟨h1,h⟩|⟨h1,h⟩:=aK h
 ·obtain⟨y2,h3,h⟩:=aD h;have h:=aG h;subst h;exact(((aU.r 5 h1).g (yH h3)).b h1).ret hΓ
 ·have h:=aG h;subst h;exact(aU.r 6 h1).ret hΓ
def oc(aB:aN)(aV:aN):Option Bool:=(bif (aB.kind:Int)==aV.kind then((j0 aB.pat aV.pat).bind fun y2=>(bif y2 then(bif (aB.left:Bytes)==aV.left then(some ((aB.right:Bytes)==aV.right))else(some false))else(some false)))else(some false))
theorem A6{aB:aN}{aV:aN}{r:Bool}(h:oc aB aV=some r):Good prog 149 [D.agg (aN.c aB),D.agg (aN.c aV)] (D.bool r):=by
 refine gd func149 [[none]] 31 fun hr Γ hΓ=>?_
 rw[oc]at h;obtain⟨h1,h⟩|⟨h1,h⟩:=aK h
 ·obtain⟨y2,h3,h⟩:=aD h;have k7:=(((aU.r 5 h1).g (tN h3)).b h1)
  obtain⟨h4,h⟩|⟨h4,h⟩:=aK h
  ·have dH:=(k7.r 6 h4)
   obtain⟨h5,h⟩|⟨h5,h⟩:=aK h
   ·cases h;exact(dH.r 6 h5).ret hΓ
   ·have h:=aG h;subst h;exact(dH.r 6 h5).ret hΓ
  ·have h:=aG h;subst h;exact((k7.r 6 h4).F 6).ret hΓ
 ·have h:=aG h;subst h;exact((aU.r 6 h1).F 12).ret hΓ
def lY(aB:aE)(k1:aT->Option aE):aJ->Nat->aT->Option aE
 | [],i1,lm=>(k1 lm)
 |bD::bg,i1,lm=>((pN lm bD).bind fun lI=>(lY aB k1 bg (i1+1) lI))
def tO(aB:aE):Option aE:=(lY aB (fun(yO:aT)=>((jq (⟨0,aB,[],[]⟩:aN) yO).bind fun Ri=>(some Ri.pat))) aB.args 0 ([]:aT))
def Mv(aB:aE)(W0:List aS)(cT:Int):St:=⟨[(1,D.ptr 0 0),(2,D.ptr 1 0),(3,D.acc 2),(4,D.int .i64 cT)],[Ob.box (aE.c aB),Ob.box [D.str ([]),D.nil],Ob.row .uq 152 2 W0]⟩
theorem Le(hΓ:Γ.nt=25){aB:aE}{r:aE}{k1:aT->Option aE}(cY:∀(yO:aT),k1 yO=some r->Ax Γ N f199 (.q [[none,some (9,1)]] (D.agg [D.str r.rel,D.fr 9 1 (r.args.map tx)])) [1,1,1] ⟨[(1,D.ptr 0 0),(2,D.ptr 1 0),(3,D.acc 2)],[Ob.box (aE.c aB),Ob.box [D.str ([]),D.nil],Ob.row .uq 152 2 (yO.map aR.c)]⟩)(hm1:aB.args.length<=maxLen):∀(rest:aJ) (i1:Nat) (lm:aT),aB.args.drop i1=rest->lY aB k1 rest i1 lm=some r->Ar Γ N f199 (.q [[none,some (9,1)]] (D.agg [D.str r.rel,D.fr 9 1 (r.args.map tx)])) [1,1,0,1,0] (rest.length+1) (Mv aB (lm.map aR.c) (i1:Int)):=by
 intro rest
 induction rest with
 |nil=>
  intro i1 lm aq h;rw[lY]at h;refine aM fun N1 bw bn=>?_
  exact((aU.ge tx aq).a [.hl 0 [1,2,3] [0,1,2]]).ex hΓ bw (cY lm h)
 |cons bD bg ih1=>
  intro i1 lm aq h;rw[lY]at h;refine aM fun N1 bw bn=>?_
  obtain⟨lI,h23,h⟩:=aD h;exact(((((aU.lt tx aq).l (av tx 1 (dc aq) rfl)).w (show(lm.map aR.c).flatten.all D.flat=true from by simpa only[bS,bH,bX]using Dk (c:=aR.c) (fun _=>rfl) lm)).w (show K4 prog 162 [D.acc 0,D.str bD] 152 2 (lm.map aR.c) (lI.map aR.c)from by simpa only[bS,bH,bX]using tr h23)).a [.ov 2 (lI.map aR.c),.cn [1,2,3,4] [0,1,3]]).ct hΓ bn (iS aq hm1) (ih1 (i1+1) lI (dn aq) h)
theorem Aw{aB:aE}{r:aE}(h:tO aB=some r):Good prog 199 [D.agg (aE.c aB)] (D.agg [D.str r.rel,D.fr 9 1 (r.args.map tx)]):=by
 refine gd func199 [[none,some (9,1)]] 25 fun hr Γ hΓ=>?_
 rw[tO]at h;refine(aU.a [.cn [1,2,3,4] [0,1,2]]).lp hΓ (Le hΓ (fun yO h=>?_) (by have:=(dU.sl (dU.agg (hr _ (aC (i:=0) rfl)) (.sl (aB.args.map tx)) (by simp))).1;simpa using this) aB.args 0 ([]:aT) rfl h);obtain⟨Ri,h25,h⟩:=aD h;cases h;exact((aU.a [.d (D.agg [D.int .i64 Ri.kind,D.str Ri.pat.rel,D.fr 9 1 (Ri.pat.args.map tx),D.str Ri.left,D.str Ri.right])]).w (show Good prog 177 [D.agg [D.int .i64 0,D.str aB.rel,D.sl (aB.args.map tx),D.str ([]),D.str ([])],D.sl (yO.map aR.c)] (D.agg [D.int .i64 Ri.kind,D.str Ri.pat.rel,D.fr 9 1 (Ri.pat.args.map tx),D.str Ri.left,D.str Ri.right])from by first| (simpa only[bS,bH,bX,dl,dR]using jN h25)|exact jN h25| (have t:=jN h25;simp only[bS,dl,dR,aN.c]at t;exact t))).ret hΓ
def cV(x:aF):aS:=[D.fr 105 4 (x.rules.map aO.c),D.fr 3 1 (x.ends.map di),D.fr 111 3 (x.ay.map aQ.c),D.fr 118 8 (x.nodes.map Node.c),D.fr 53 2 (x.facts.map aE.c),D.int .i64 x.cL]
def lf(aB:aF)(aV:aE)(k1:Option (aF×Int)):b8->Nat->Option (aF×Int)
 | [],i1=>(k1)
 |bD::bg,i1=>((j0 bD.shape aV).bind fun lI=>(bif lI then(some (aB,(i1:Int)))else(lf aB aV k1 bg (i1+1))))
def tQ(aB:aF)(aV:aE):Option (aF×Int):=(bif decide (aB.ay.length<=maxLen)then(lf aB aV (bif room ((aB.ay.map aQ.c).length+([[D.str aV.rel,D.sl (aV.args.map tx),D.sl ([])]]).length) 64 then(some ((⟨aB.rules,aB.ends,aB.ay++([(⟨aV,[]⟩:aQ)]),aB.nodes,aB.facts,aB.cL⟩:aF),IntKind.i64.wrap ((((aB.ay.map aQ.c)++([[D.str aV.rel,D.sl (aV.args.map tx),D.sl ([])]])).length:Int)-1)))else none) aB.ay 0)else none)
def NA(fE:Value)(aB:aF)(aV:aE)(cT:Int):St:=⟨[(0,D.ptr 0 0),(3,D.ptr 1 0),(5,D.int .i64 cT)],[Ob.PW [D.acc 2,D.acc 3,D.acc 4,D.acc 5,D.acc 6,D.int .i64 aB.cL] fE,Ob.box [D.str aV.rel,D.acc 7],Ob.row .uq 105 4 (aB.rules.map aO.c),Ob.row .uq 3 1 (aB.ends.map di),Ob.row .uq 111 3 (aB.ay.map aQ.c),Ob.row .uq 118 8 (aB.nodes.map Node.c),Ob.row .uq 53 2 (aB.facts.map aE.c),Ob.row .uq 9 1 (aV.args.map tx)]⟩
theorem Li(hΓ:Γ.nt=43){fE:Value}{aB:aF}{aV:aE}{r:aF×Int}{k1:Option (aF×Int)}(cY:k1=some r->Ax Γ N f198 (.p [[some (105,4),some (3,1),some (111,3),some (118,8),some (53,2),none],[none]] fE (cV r.1) (D.int .i64 r.2)) [1,1] ⟨[(0,D.ptr 0 0),(3,D.ptr 1 0)],[Ob.PW [D.acc 2,D.acc 3,D.acc 4,D.acc 5,D.acc 6,D.int .i64 aB.cL] fE,Ob.box [D.str aV.rel,D.acc 7],Ob.row .uq 105 4 (aB.rules.map aO.c),Ob.row .uq 3 1 (aB.ends.map di),Ob.row .uq 111 3 (aB.ay.map aQ.c),Ob.row .uq 118 8 (aB.nodes.map Node.c),Ob.row .uq 53 2 (aB.facts.map aE.c),Ob.row .uq 9 1 (aV.args.map tx)]⟩)(hm1:aB.ay.length<=maxLen):∀(rest:b8) (i1:Nat),aB.ay.drop i1=rest->lf aB aV k1 rest i1=some r->Ar Γ N f198 (.p [[some (105,4),some (3,1),some (111,3),some (118,8),some (53,2),none],[none]] fE (cV r.1) (D.int .i64 r.2)) [1,0,1,0] (rest.length+1) (NA fE aB aV (i1:Int)):=by
 intro rest
 induction rest with
 |nil=>
  intro i1 aq h;rw[lf]at h;refine aM fun N1 bw bn=>?_
  exact((aU.ge aQ.c aq).a [.hl 0 [0,3] [0,1,2,3,4,5,6,7]]).ex hΓ bw (cY h)
 |cons bD bg ih1=>
  intro i1 aq h;rw[lf]at h;refine aM fun N1 bw bn=>?_
  obtain⟨lI,h23,h⟩:=aD h;have dH:=(((((aU.lt aQ.c aq).a [.n 9]).i (pG aQ.c 3 (dc aq))).o 3 2 .uq (dB aQ.c (dc aq))).g (tN h23))
  obtain⟨h24,h⟩|⟨h24,h⟩:=aK h
  ·cases h;exact(dH.b h24).ret hΓ
  ·exact((dH.b h24).a [.cn [0,3,5] [0,1,2,3,4,5,6,7]]).ct hΓ bn (iS aq hm1) (ih1 (i1+1) (dn aq) h)
theorem Az{aB:aF}{aV:aE}{r:aF×Int}(h:tQ aB aV=some r):BW prog 198 (cV aB) (cV r.1) [D.agg [D.str aV.rel,D.fr 9 1 (aV.args.map tx)]] (D.int .i64 r.2):=by
 refine gdP func198 [[some (105,4),some (3,1),some (111,3),some (118,8),some (53,2),none],[none]] 43 [D.acc 1,D.acc 2,D.acc 3,D.acc 4,D.acc 5,D.int .i64 aB.cL] [D.agg [D.str aV.rel,D.acc 6]] [Ob.row .uq 105 4 (aB.rules.map aO.c),Ob.row .uq 3 1 (aB.ends.map di),Ob.row .uq 111 3 (aB.ay.map aQ.c),Ob.row .uq 118 8 (aB.nodes.map Node.c),Ob.row .uq 53 2 (aB.facts.map aE.c),Ob.row .uq 9 1 (aV.args.map tx)] fun hr fE Γ hΓ=>?_
 rw[tQ]at h;obtain⟨h27,h⟩:=bV h;refine(aU.a [.cn [0,3,5] [0,7,1,2,3,4,5,6]]).lp hΓ (Li hΓ (fun h=>?_) (bt h27) aB.ay 0 rfl h);obtain⟨h26,h⟩:=bV h;cases h;exact((aU.w (cA h26)).a [.n2 [0,1,2,3,4,5,6,7,8,9,10,11] [0,1,2,3,4,5,6,7,8,9,10,11] 7 9 [0,1,2,3,4] [4,7,8]]).rts hΓ (D.iF [D.int .i64 (IntKind.i64.wrap ((((aB.ay.map aQ.c)++([[D.str aV.rel,D.sl (aV.args.map tx),D.sl ([])]])).length:Int)-1)),D.agg [D.fr 105 4 (aB.rules.map aO.c),D.fr 3 1 (aB.ends.map di),D.fr 111 3 ((aB.ay.map aQ.c)++([[D.str aV.rel,D.sl (aV.args.map tx),D.sl ([])]])),D.fr 118 8 (aB.nodes.map Node.c),D.fr 53 2 (aB.facts.map aE.c),D.int .i64 aB.cL],D.val fE]) (by first|rfl| (simp only[mA]<;>rfl)| (simp only[cV,mA]<;>rfl))
def gH(aB:aF)(aV:Int)(cW:aN)(k1:Option (aF×Int)):Nat->Int->Option (aF×Int)
 |0,_=>none
 |n1+1,Np=>(bif decide ((Np:Int)<((aB.nodes.map Node.c).length:Int))then((mC aB.nodes Np).bind fun x16=>(bif (x16.parent:Int)==aV then((oc x16.cond cW).bind fun y19=>(bif y19 then(some (aB,Np))else(gH aB aV cW k1 n1 (IntKind.i64.wrap (Np+1)))))else(gH aB aV cW k1 n1 (IntKind.i64.wrap (Np+1)))))else(k1))
def wJ(aB:aF)(aV:Int)(cW:aN):Option (aF×Int):=(gH aB aV cW ((jx cW).bind fun lI=>(bif (cW.kind:Int)==1 then((tO cW.pat).bind fun Xn=>((tQ aB Xn).bind fun pQ=>(bif room ((pQ.1.nodes.map Node.c).length+([[D.int .i64 aV,D.int .i64 lI.kind,D.str lI.pat.rel,D.sl (lI.pat.args.map tx),D.str lI.left,D.str lI.right,D.int .i64 pQ.2,D.sl ([])]]).length) 120 then(some ((⟨pQ.1.rules,pQ.1.ends,pQ.1.ay,pQ.1.nodes++([(⟨aV,lI,pQ.2,[]⟩:Node)]),pQ.1.facts,pQ.1.cL⟩:aF),IntKind.i64.wrap ((((pQ.1.nodes.map Node.c)++([[D.int .i64 aV,D.int .i64 lI.kind,D.str lI.pat.rel,D.sl (lI.pat.args.map tx),D.str lI.left,D.str lI.right,D.int .i64 pQ.2,D.sl ([])]])).length:Int)-1)))else none)))else(bif (cW.kind:Int)==2 then((tO cW.pat).bind fun Dx=>((tQ aB Dx).bind fun G1=>(bif room ((G1.1.nodes.map Node.c).length+([[D.int .i64 aV,D.int .i64 lI.kind,D.str lI.pat.rel,D.sl (lI.pat.args.map tx),D.str lI.left,D.str lI.right,D.int .i64 G1.2,D.sl ([])]]).length) 120 then(some ((⟨G1.1.rules,G1.1.ends,G1.1.ay,G1.1.nodes++([(⟨aV,lI,G1.2,[]⟩:Node)]),G1.1.facts,G1.1.cL⟩:aF),IntKind.i64.wrap ((((G1.1.nodes.map Node.c)++([[D.int .i64 aV,D.int .i64 lI.kind,D.str lI.pat.rel,D.sl (lI.pat.args.map tx),D.str lI.left,D.str lI.right,D.int .i64 G1.2,D.sl ([])]])).length:Int)-1)))else none)))else(bif room ((aB.nodes.map Node.c).length+([[D.int .i64 aV,D.int .i64 lI.kind,D.str lI.pat.rel,D.sl (lI.pat.args.map tx),D.str lI.left,D.str lI.right,D.int .i64 (-1),D.sl ([])]]).length) 120 then(some ((⟨aB.rules,aB.ends,aB.ay,aB.nodes++([(⟨aV,lI, -1,[]⟩:Node)]),aB.facts,aB.cL⟩:aF),IntKind.i64.wrap ((((aB.nodes.map Node.c)++([[D.int .i64 aV,D.int .i64 lI.kind,D.str lI.pat.rel,D.sl (lI.pat.args.map tx),D.str lI.left,D.str lI.right,D.int .i64 (-1),D.sl ([])]])).length:Int)-1)))else none)))) fuel 1)
def NB(fE:Value)(aB:aF)(aV:Int)(cW:aN)(Np:Int):St:=⟨[(0,D.ptr 0 0),(1,D.int .i64 aV),(5,D.ptr 1 0),(7,D.int .i64 Np)],[Ob.PW [D.acc 2,D.acc 3,D.acc 4,D.acc 5,D.acc 6,D.int .i64 aB.cL] fE,Ob.box (aN.c cW),Ob.row .uq 105 4 (aB.rules.map aO.c),Ob.row .uq 3 1 (aB.ends.map di),Ob.row .uq 111 3 (aB.ay.map aQ.c),Ob.row .uq 118 8 (aB.nodes.map Node.c),Ob.row .uq 53 2 (aB.facts.map aE.c)]⟩
theorem Lj(hΓ:Γ.nt=75){fE:Value}{aB:aF}{aV:Int}{cW:aN}{r:aF×Int}{k1:Option (aF×Int)}(cY:k1=some r->Ax Γ N f133 (.p [[some (105,4),some (3,1),some (111,3),some (118,8),some (53,2),none],[none]] fE (cV r.1) (D.int .i64 r.2)) [1,1] ⟨[(0,D.ptr 0 0),(1,D.int .i64 aV),(5,D.ptr 1 0)],[Ob.PW [D.acc 2,D.acc 3,D.acc 4,D.acc 5,D.acc 6,D.int .i64 aB.cL] fE,Ob.box (aN.c cW),Ob.row .uq 105 4 (aB.rules.map aO.c),Ob.row .uq 3 1 (aB.ends.map di),Ob.row .uq 111 3 (aB.ay.map aQ.c),Ob.row .uq 118 8 (aB.nodes.map Node.c),Ob.row .uq 53 2 (aB.facts.map aE.c)]⟩):∀(n1:Nat) (Np:Int),gH aB aV cW k1 n1 Np=some r->Ar Γ N f133 (.p [[some (105,4),some (3,1),some (111,3),some (118,8),some (53,2),none],[none]] fE (cV r.1) (D.int .i64 r.2)) [1,0,1,0] n1 (NB fE aB aV cW Np):=by
 intro n
 induction n with
 |zero=>intro Np h;simp[gH]at h
 |succ n1 ih1=>
  intro Np h;rw[gH]at h;refine aM fun N1 bw bn=>?_
  obtain⟨h15,h⟩|⟨h15,h⟩:=aK h
  ·obtain⟨x16,h17,h⟩:=aD h;have jU:=((((aU.b h15).a [.n 20]).i (xz Node.c 8 h17)).o 8 1 .uq (dB Node.c (tf h17)))
   obtain⟨h18,h⟩|⟨h18,h⟩:=aK h
   ·obtain⟨y19,h20,h⟩:=aD h;have iU:=(((((((jU.r 6 h18).i (xz Node.c 8 h17)).r 2 h18).o 8 6 .uq (dB Node.c (tf h17))).r 2 h18).g (A6 h20)).b h18)
    obtain⟨h21,h⟩|⟨h21,h⟩:=aK h
    ·cases h;exact(iU.b h21).ret hΓ
    ·exact((iU.b h21).a [.cn [0,1,5,7] [0,1,2,3,4,5,6]]).cf hΓ bn (ih1 (IntKind.i64.wrap (Np+1)) h)
   ·exact(((jU.r 11 h18).F 1).a [.cn [0,1,5,7] [0,1,2,3,4,5,6]]).cf hΓ bn (ih1 (IntKind.i64.wrap (Np+1)) h)
  ·exact((aU.b h15).a [.hl 0 [0,1,5] [0,1,2,3,4,5,6]]).ex hΓ bw (cY h)
theorem Jp{aB:aF}{aV:Int}{cW:aN}{r:aF×Int}(h:wJ aB aV cW=some r):BW prog 133 (cV aB) (cV r.1) [D.int .i64 aV,D.agg (aN.c cW)] (D.int .i64 r.2):=by
 refine gdP func133 [[some (105,4),some (3,1),some (111,3),some (118,8),some (53,2),none],[none]] 75 [D.acc 1,D.acc 2,D.acc 3,D.acc 4,D.acc 5,D.int .i64 aB.cL] [D.int .i64 aV,D.agg [D.int .i64 cW.kind,D.str cW.pat.rel,D.sl (cW.pat.args.map tx),D.str cW.left,D.str cW.right]] [Ob.row .uq 105 4 (aB.rules.map aO.c),Ob.row .uq 3 1 (aB.ends.map di),Ob.row .uq 111 3 (aB.ay.map aQ.c),Ob.row .uq 118 8 (aB.nodes.map Node.c),Ob.row .uq 53 2 (aB.facts.map aE.c)] fun hr fE Γ hΓ=>?_
 rw[wJ]at h;refine(aU.a [.cn [0,1,5,7] [0,6,1,2,3,4,5]]).lp hΓ (Lj hΓ (fun h=>?_) fuel 1 h);obtain⟨lI,h23,h⟩:=aD h;obtain⟨h24,h⟩|⟨h24,h⟩:=aK h
 ·obtain⟨Xn,h26,h⟩:=aD h;obtain⟨pQ,h28,h⟩:=aD h;obtain⟨h30,h⟩:=bV h;cases h;exact(((((((aU.g (qK h23)).r 4 h24).T 1).g (Aw h26)).hp [[some (105,4),some (3,1),some (111,3),some (118,8),some (53,2),none],[none,some (9,1)]] (Az h28)).w (cA h30)).a [.n2 [0,1,2,3,4,5,6,7,8,9,10] [0,1,2,3,4,5,6,7,8,9,10] 6 8 [0,1,2,3,4] [7,13,15]]).rts hΓ (D.iF [D.int .i64 (IntKind.i64.wrap ((((pQ.1.nodes.map Node.c)++([[D.int .i64 aV,D.int .i64 lI.kind,D.str lI.pat.rel,D.sl (lI.pat.args.map tx),D.str lI.left,D.str lI.right,D.int .i64 pQ.2,D.sl ([])]])).length:Int)-1)),D.agg [D.fr 105 4 (pQ.1.rules.map aO.c),D.fr 3 1 (pQ.1.ends.map di),D.fr 111 3 (pQ.1.ay.map aQ.c),D.fr 118 8 ((pQ.1.nodes.map Node.c)++([[D.int .i64 aV,D.int .i64 lI.kind,D.str lI.pat.rel,D.sl (lI.pat.args.map tx),D.str lI.left,D.str lI.right,D.int .i64 pQ.2,D.sl ([])]])),D.fr 53 2 (pQ.1.facts.map aE.c),D.int .i64 pQ.1.cL],D.val fE]) (by first|rfl| (simp only[mA]<;>rfl)| (simp only[cV,mA]<;>rfl))
 ·have tX:=((aU.g (qK h23)).r 4 h24)
  obtain⟨h31,h⟩|⟨h31,h⟩:=aK h
  ·obtain⟨Dx,h33,h⟩:=aD h;obtain⟨G1,h35,h⟩:=aD h;obtain⟨h37,h⟩:=bV h;cases h;exact(((((tX.b h31).g (Aw h33)).hp [[some (105,4),some (3,1),some (111,3),some (118,8),some (53,2),none],[none,some (9,1)]] (Az h35)).w (cA h37)).a [.n2 [0,1,2,3,4,5,6,7,8,9,10] [0,1,2,3,4,5,6,7,8,9,10] 6 8 [0,1,2,3,4] [7,13,15]]).rts hΓ (D.iF [D.int .i64 (IntKind.i64.wrap ((((G1.1.nodes.map Node.c)++([[D.int .i64 aV,D.int .i64 lI.kind,D.str lI.pat.rel,D.sl (lI.pat.args.map tx),D.str lI.left,D.str lI.right,D.int .i64 G1.2,D.sl ([])]])).length:Int)-1)),D.agg [D.fr 105 4 (G1.1.rules.map aO.c),D.fr 3 1 (G1.1.ends.map di),D.fr 111 3 (G1.1.ay.map aQ.c),D.fr 118 8 ((G1.1.nodes.map Node.c)++([[D.int .i64 aV,D.int .i64 lI.kind,D.str lI.pat.rel,D.sl (lI.pat.args.map tx),D.str lI.left,D.str lI.right,D.int .i64 G1.2,D.sl ([])]])),D.fr 53 2 (G1.1.facts.map aE.c),D.int .i64 G1.1.cL],D.val fE]) (by first|rfl| (simp only[mA]<;>rfl)| (simp only[cV,mA]<;>rfl))
  ·obtain⟨h39,h⟩:=bV h;cases h;exact(((tX.b h31).w (cA h39)).a [.n2 [0,1,2,3,4,5,6,7,8,9,10] [0,1,2,3,4,5,6,7,8,9,10] 6 8 [0,1,2,3,4] [5,7,9]]).rts hΓ (D.iF [D.int .i64 (IntKind.i64.wrap ((((aB.nodes.map Node.c)++([[D.int .i64 aV,D.int .i64 lI.kind,D.str lI.pat.rel,D.sl (lI.pat.args.map tx),D.str lI.left,D.str lI.right,D.int .i64 (-1),D.sl ([])]])).length:Int)-1)),D.agg [D.fr 105 4 (aB.rules.map aO.c),D.fr 3 1 (aB.ends.map di),D.fr 111 3 (aB.ay.map aQ.c),D.fr 118 8 ((aB.nodes.map Node.c)++([[D.int .i64 aV,D.int .i64 lI.kind,D.str lI.pat.rel,D.sl (lI.pat.args.map tx),D.str lI.left,D.str lI.right,D.int .i64 (-1),D.sl ([])]])),D.fr 53 2 (aB.facts.map aE.c),D.int .i64 aB.cL],D.val fE]) (by first|rfl| (simp only[mA]<;>rfl)| (simp only[cV,mA]<;>rfl))
def gX(aB:au)(i1:Nat)(Ns:aj)(k2:Int->Int->au->bJ->b8->az->aP->Option (aF×Bool)):aj->Nat->Int->Int->au->bJ->b8->az->aP->Option (aF×Bool)
 | [],i2,tT,ol,D4,oz,we,wg,rz=>(k2 tT ol D4 oz we wg rz)
 |lM::wR,i2,tT,ol,D4,oz,we,wg,rz=>((wJ (⟨D4,oz,we,wg,rz,ol⟩:aF) tT lM).bind fun Ev=>(gX aB i1 Ns k2 wR (i2+1) Ev.2 Ev.1.cL Ev.1.rules Ev.1.ends Ev.1.ay Ev.1.nodes Ev.1.facts))
def gW(aB:au)(k1:Int->au->bJ->b8->az->aP->Option (aF×Bool)):au->Nat->Int->au->bJ->b8->az->aP->Option (aF×Bool)
 | [],i1,oh,lm,gr,xD,qP,D3=>(k1 oh lm gr xD qP D3)
 |bD::bg,i1,oh,lm,gr,xD,qP,D3=>((rD bD).bind fun Ns=>(bif decide (Ns.length<=maxLen)then(gX aB i1 Ns (fun(BL:Int) (og:Int) (Lz:au) (C6:bJ) (M0:b8) (vV:az) (M1:aP)=>(bif room ((C6.map di).length+([[D.int .i64 BL]]).length) 8 then(gW aB k1 bg (i1+1) og Lz (C6++([BL])) M0 vV M1)else none)) Ns 0 0 oh lm gr xD qP D3)else none))
def ou(aB:au):Option (aF×Bool):=((uR aB).bind fun y1=>(bif !(y1)then(some ((⟨[],[],[],[],[],0⟩:aF),false))else((qn aB).bind fun y4=>(gW aB (fun(wO:Int) (yO:au) (iO:bJ) (R4:b8) (ru:az) (wN:aP)=>(some ((⟨yO,iO,R4,ru,wN,wO⟩:aF),true))) aB 0 0 y4 ([]:bJ) ([]:b8) ([(⟨-1,(⟨0,(⟨[],[]⟩:aE),[],[]⟩:aN), -1,[(⟨[],[]⟩:aI)]⟩:Node)]) ([]:aP)))))
def tg(aB:au)(oh:Int)(W1:List aS)(W2:List aS)(W3:List aS)(W4:List aS)(W5:List aS)(cT:Int):St:=⟨[(0,D.sl (aB.map aO.c)),(2,D.ptr 0 0),(4,D.ptr 1 0),(5,D.int .i64 cT)],[Ob.box [D.nil,D.nil,D.nil,D.nil,D.nil,D.int .i64 0],Ob.box [D.acc 2,D.acc 3,D.acc 4,D.acc 5,D.acc 6,D.int .i64 oh],Ob.row .uq 105 4 W1,Ob.row .uq 3 1 W2,Ob.row .uq 111 3 W3,Ob.row .uq 118 8 W4,Ob.row .uq 53 2 W5]⟩
def EX(aB:au)(i1:Nat)(Ns:aj)(tT:Int)(ol:Int)(W2:List aS)(W3:List aS)(W4:List aS)(W5:List aS)(W6:List aS)(cT:Int):St:=⟨[(0,D.sl (aB.map aO.c)),(2,D.ptr 0 0),(4,D.ptr 1 0),(5,D.int .i64 (i1:Int)),(6,D.int .i64 tT),(7,D.acc 2),(8,D.int .i64 cT)],[Ob.box [D.nil,D.nil,D.nil,D.nil,D.nil,D.int .i64 0],Ob.box [D.acc 3,D.acc 4,D.acc 5,D.acc 6,D.acc 7,D.int .i64 ol],Ob.row .uq 115 5 (Ns.map aN.c),Ob.row .uq 105 4 W2,Ob.row .uq 3 1 W3,Ob.row .uq 111 3 W4,Ob.row .uq 118 8 W5,Ob.row .uq 53 2 W6]⟩
theorem DW(hΓ:Γ.nt=50){aB:au}{i1:Nat}{Ns:aj}{r:aF×Bool}{k2:Int->Int->au->bJ->b8->az->aP->Option (aF×Bool)}(CZ:∀(BL:Int) (og:Int) (Lz:au) (C6:bJ) (M0:b8) (vV:az) (M1:aP),k2 BL og Lz C6 M0 vV M1=some r->Ax Γ N f77 (.q [[some (105,4),some (3,1),some (111,3),some (118,8),some (53,2),none],[none]] (D.iF [D.agg [D.fr 105 4 (r.1.rules.map aO.c),D.fr 3 1 (r.1.ends.map di),D.fr 111 3 (r.1.ay.map aQ.c),D.fr 118 8 (r.1.nodes.map Node.c),D.fr 53 2 (r.1.facts.map aE.c),D.int .i64 r.1.cL],D.bool r.2])) [1,1,1,0,1,0,0,1,0,0,1,1,1] ⟨[(0,D.sl (aB.map aO.c)),(2,D.ptr 0 0),(4,D.ptr 1 0),(5,D.int .i64 (i1:Int)),(6,D.int .i64 BL)],[Ob.box [D.nil,D.nil,D.nil,D.nil,D.nil,D.int .i64 0],Ob.box [D.acc 2,D.acc 3,D.acc 4,D.acc 5,D.acc 6,D.int .i64 og],Ob.row .uq 105 4 (Lz.map aO.c),Ob.row .uq 3 1 (C6.map di),Ob.row .uq 111 3 (M0.map aQ.c),Ob.row .uq 118 8 (vV.map Node.c),Ob.row .uq 53 2 (M1.map aE.c)]⟩)(hm2:Ns.length<=maxLen):∀(rest:aj) (i2:Nat) (tT:Int) (ol:Int) (D4:au) (oz:bJ) (we:b8) (wg:az) (rz:aP),Ns.drop i2=rest->gX aB i1 Ns k2 rest i2 tT ol D4 oz we wg rz=some r->Ar Γ N f77 (.q [[some (105,4),some (3,1),some (111,3),some (118,8),some (53,2),none],[none]] (D.iF [D.agg [D.fr 105 4 (r.1.rules.map aO.c),D.fr 3 1 (r.1.ends.map di),D.fr 111 3 (r.1.ay.map aQ.c),D.fr 118 8 (r.1.nodes.map Node.c),D.fr 53 2 (r.1.facts.map aE.c),D.int .i64 r.1.cL],D.bool r.2])) [1,1,1,0,1,0,0,1,0,0,1,1,0,1,0] (rest.length+1) (EX aB i1 Ns tT ol (D4.map aO.c) (oz.map di) (we.map aQ.c) (wg.map Node.c) (rz.map aE.c) (i2:Int)):=by
 intro rest
 induction rest with
 |nil=>
  intro i2 tT ol D4 oz we wg rz hd2 h;rw[gX]at h;refine aM fun N2 xV ud=>?_
  exact((aU.ge aN.c hd2).a [.hl 5 [0,2,4,5,6] [0,1,3,4,5,6,7]]).ex hΓ xV (CZ tT ol D4 oz we wg rz h)
 |cons lM wR ih2=>
  intro i2 tT ol D4 oz we wg rz hd2 h;rw[gX]at h;refine aM fun N2 xV ud=>?_
  obtain⟨Ev,h212,h⟩:=aD h;exact((((((aU.lt aN.c hd2).i (pG aN.c 5 (dc hd2))).o 5 5 .uq (dB aN.c (dc hd2))).a [.gp [[some (105,4),some (3,1),some (111,3),some (118,8),some (53,2),none],[none],[none,none,none,none,none]] (cV Ev.1) (D.int .i64 Ev.2)]).w (show BW prog 133 (cV (⟨D4,oz,we,wg,rz,ol⟩:aF)) (cV Ev.1) [D.int .i64 tT,D.agg (aN.c lM)] (D.int .i64 Ev.2)from by simpa only[bS,bH,bX,dl,dR]using Jp h212)).a [.cn [0,2,4,5,6,7,8] [0,1,2,8,9,10,11,12]]).ct hΓ ud (iS hd2 hm2) (ih2 (i2+1) Ev.2 Ev.1.cL Ev.1.rules Ev.1.ends Ev.1.ay Ev.1.nodes Ev.1.facts (dn hd2) h)
theorem DV(hΓ:Γ.nt=50){aB:au}{r:aF×Bool}{k1:Int->au->bJ->b8->az->aP->Option (aF×Bool)}(cY:∀(wO:Int) (yO:au) (iO:bJ) (R4:b8) (ru:az) (wN:aP),k1 wO yO iO R4 ru wN=some r->Ax Γ N f77 (.q [[some (105,4),some (3,1),some (111,3),some (118,8),some (53,2),none],[none]] (D.iF [D.agg [D.fr 105 4 (r.1.rules.map aO.c),D.fr 3 1 (r.1.ends.map di),D.fr 111 3 (r.1.ay.map aQ.c),D.fr 118 8 (r.1.nodes.map Node.c),D.fr 53 2 (r.1.facts.map aE.c),D.int .i64 r.1.cL],D.bool r.2])) [1,1,1,1] ⟨[(2,D.ptr 0 0),(4,D.ptr 1 0)],[Ob.box [D.nil,D.nil,D.nil,D.nil,D.nil,D.int .i64 0],Ob.box [D.acc 2,D.acc 3,D.acc 4,D.acc 5,D.acc 6,D.int .i64 wO],Ob.row .uq 105 4 (yO.map aO.c),Ob.row .uq 3 1 (iO.map di),Ob.row .uq 111 3 (R4.map aQ.c),Ob.row .uq 118 8 (ru.map Node.c),Ob.row .uq 53 2 (wN.map aE.c)]⟩)(hm1:aB.length<=maxLen):∀(rest:au) (i1:Nat) (oh:Int) (lm:au) (gr:bJ) (xD:b8) (qP:az) (D3:aP),aB.drop i1=rest->gW aB k1 rest i1 oh lm gr xD qP D3=some r->Ar Γ N f77 (.q [[some (105,4),some (3,1),some (111,3),some (118,8),some (53,2),none],[none]] (D.iF [D.agg [D.fr 105 4 (r.1.rules.map aO.c),D.fr 3 1 (r.1.ends.map di),D.fr 111 3 (r.1.ay.map aQ.c),D.fr 118 8 (r.1.nodes.map Node.c),D.fr 53 2 (r.1.facts.map aE.c),D.int .i64 r.1.cL],D.bool r.2])) [1,1,1,0,1,0] (rest.length+1) (tg aB oh (lm.map aO.c) (gr.map di) (xD.map aQ.c) (qP.map Node.c) (D3.map aE.c) (i1:Int)):=by
 intro rest
 induction rest with
 |nil=>
  intro i1 oh lm gr xD qP D3 aq h;rw[gW]at h;refine aM fun N1 bw bn=>?_
  exact((aU.ge aO.c aq).a [.hl 0 [2,4] [0,1,2,3,4,5,6]]).ex hΓ bw (cY oh lm gr xD qP D3 h)
 |cons bD bg ih1=>
  intro i1 oh lm gr xD qP D3 aq h;rw[gW]at h;refine aM fun N1 bw bn=>?_
  obtain⟨Ns,h183,h⟩:=aD h;obtain⟨h214,h⟩:=bV h;refine((((aU.lt aO.c aq).l (av aO.c 4 (dc aq) rfl)).g (EZ h183)).a [.cn [0,2,4,5,6,7,8] [0,1,7,2,3,4,5,6]]).lp hΓ (DW hΓ (fun BL og Lz C6 M0 vV M1 h=>?_) (bt h214) Ns 0 0 oh lm gr xD qP D3 rfl h);obtain⟨h213,h⟩:=bV h;exact((aU.w (cA h213)).a [.cn [0,2,4,5] [0,1,2,8,4,5,6]]).cs hΓ bn (tg aB og (Lz.map aO.c) ((C6.map di)++([[D.int .i64 BL]])) (M0.map aQ.c) (vV.map Node.c) (M1.map aE.c) (IntKind.i64.wrap ((i1:Int)+1))) (by first| (simp only[iS aq hm1,mA]<;>rfl)| (simp only[iS aq hm1,mA,aE.c,aR.c,aN.c,Action.c,aO.c,aI.c,cr.c,aQ.c,Node.c,aF.c,cv.c]<;>rfl)) (ih1 (i1+1) og Lz (C6++([BL])) M0 vV M1 (dn aq) h)
theorem xQ{aB:au}{r:aF×Bool}(h:ou aB=some r):Good prog 77 [D.sl (aB.map aO.c)] (D.iF [D.agg [D.fr 105 4 (r.1.rules.map aO.c),D.fr 3 1 (r.1.ends.map di),D.fr 111 3 (r.1.ay.map aQ.c),D.fr 118 8 (r.1.nodes.map Node.c),D.fr 53 2 (r.1.facts.map aE.c),D.int .i64 r.1.cL],D.bool r.2]):=by
 refine gd func77 [[some (105,4),some (3,1),some (111,3),some (118,8),some (53,2),none],[none]] 50 fun hr Γ hΓ=>?_
 rw[ou]at h;obtain⟨y1,h2,h⟩:=aD h;obtain⟨h3,h⟩|⟨h3,h⟩:=aK h
 ·cases h;exact((aU.g (zx h2)).b h3).ret hΓ
 ·obtain⟨y4,h5,h⟩:=aD h;refine((((aU.g (zx h2)).b h3).g (A7 h5)).a [.pb 4 1 3 1,.pb 4 2 111 3,.pb 4 4 53 2,.cn [0,2,4,5] [0,4,1,5,6,3,7]]).Ww hΓ (tg aB 0 (y4.map aO.c) ([]:List aS) ([]:List aS) ([[D.int .i64 (-1),D.int .i64 0,D.str ([]),D.sl ([]),D.str ([]),D.str ([]),D.int .i64 (-1),D.sl ([[D.sl ([]),D.sl ([])]])]]) ([]:List aS) 0) (by first| (simp only[mA]<;>rfl)| (simp only[mA,aE.c,aR.c,aN.c,Action.c,aO.c,aI.c,cr.c,aQ.c,Node.c,aF.c,cv.c]<;>rfl)) (DV hΓ (fun wO yO iO R4 ru wN h=>?_) (by have:=(dU.sl (hr _ (aC (i:=0) rfl))).1;simpa using this) aB 0 0 y4 ([]:bJ) ([]:b8) ([(⟨-1,(⟨0,(⟨[],[]⟩:aE),[],[]⟩:aN), -1,[(⟨[],[]⟩:aI)]⟩:Node)]) ([]:aP) rfl h);cases h;exact aU.ret hΓ
def lE(aB:aF)(aV:aF)(k1:Option Bool):b8->Nat->Option Bool
 | [],i1=>(k1)
 |bD::bg,i1=>((mC aV.ay (i1:Int)).bind fun x32=>((j0 bD.shape x32.shape).bind fun G1=>(bif !(G1)then(some false)else(lE aB aV k1 bg (i1+1)))))
def j3(aB:aF)(aV:aF)(k2:Option Bool):az->Nat->Option Bool
 | [],i2=>(k2)
 |lM::wR,i2=>((mC aV.nodes (i2:Int)).bind fun x73=>(bif (lM.parent:Int) != x73.parent then(some false)else(bif (lM.cP:Int) != x73.cP then(some false)else((oc lM.cond x73.cond).bind fun y77=>(bif !(y77)then(some false)else(j3 aB aV k2 wR (i2+1)))))))
def j5(aB:aF)(aV:aF)(k3:Option Bool):bJ->Nat->Option Bool
 | [],i3=>(k3)
 |Vt::U1,i3=>((mC aV.ends (i3:Int)).bind fun x100=>(bif (Vt:Int) != x100 then(some false)else(j5 aB aV k3 U1 (i3+1))))
def rF(aB:aF)(aV:aF):Option Bool:=(bif (((aB.ay.map aQ.c).length:Int):Int) != ((aV.ay.map aQ.c).length:Int)then(some false)else(bif (((aB.nodes.map Node.c).length:Int):Int) != ((aV.nodes.map Node.c).length:Int)then(some false)else(bif (((aB.ends.map di).length:Int):Int) != ((aV.ends.map di).length:Int)then(some false)else(lE aB aV (j3 aB aV (j5 aB aV (some true) aB.ends 0) aB.nodes 0) aB.ay 0))))
def HW(aB:aF)(aV:aF)(cT:Int):St:=⟨[(2,D.ptr 0 0),(3,D.ptr 1 0),(5,D.int .i64 cT)],[Ob.box (aF.c aB),Ob.box (aF.c aV)]⟩
theorem Fu(hΓ:Γ.nt=123){aB:aF}{aV:aF}{r:Bool}{k1:Option Bool}(cY:k1=some r->Ax Γ N f85 (.q [[none]] (D.bool r)) [1,1,1] ⟨[(2,D.ptr 0 0),(3,D.ptr 1 0)],[Ob.box (aF.c aB),Ob.box (aF.c aV)]⟩)(hm1:aB.ay.length<=maxLen):∀(rest:b8) (i1:Nat),aB.ay.drop i1=rest->lE aB aV k1 rest i1=some r->Ar Γ N f85 (.q [[none]] (D.bool r)) [1,1,0,1,0] (rest.length+1) (HW aB aV (i1:Int)):=by
 intro rest
 induction rest with
 |nil=>
  intro i1 aq h;rw[lE]at h;refine aM fun N1 bw bn=>?_
  exact((aU.ge aQ.c aq).a [.hl 0 [2,3] [0,1]]).ex hΓ bw (cY h)
 |cons bD bg ih1=>
  intro i1 aq h;rw[lE]at h;refine aM fun N1 bw bn=>?_
  obtain⟨x32,h33,h⟩:=aD h;obtain⟨G1,h35,h⟩:=aD h;have wL:=(((((aU.lt aQ.c aq).a [.n 12]).l (av aQ.c 3 (dc aq) rfl)).l (dX aQ.c 3 h33 rfl)).g (tN h35))
  obtain⟨h36,h⟩|⟨h36,h⟩:=aK h
  ·have h:=aG h;subst h;exact(wL.b h36).ret hΓ
  ·exact((wL.b h36).a [.cn [2,3,5] [0,1]]).ct hΓ bn (iS aq hm1) (ih1 (i1+1) (dn aq) h)
def HX(aB:aF)(aV:aF)(cT:Int):St:=⟨[(2,D.ptr 0 0),(3,D.ptr 1 0),(6,D.int .i64 cT)],[Ob.box (aF.c aB),Ob.box (aF.c aV)]⟩
theorem Fv(hΓ:Γ.nt=123){aB:aF}{aV:aF}{r:Bool}{k2:Option Bool}(CZ:k2=some r->Ax Γ N f85 (.q [[none]] (D.bool r)) [1,1,1,1] ⟨[(2,D.ptr 0 0),(3,D.ptr 1 0)],[Ob.box (aF.c aB),Ob.box (aF.c aV)]⟩)(hm2:aB.nodes.length<=maxLen):∀(rest:az) (i2:Nat),aB.nodes.drop i2=rest->j3 aB aV k2 rest i2=some r->Ar Γ N f85 (.q [[none]] (D.bool r)) [1,1,1,0,1,0] (rest.length+1) (HX aB aV (i2:Int)):=by
 intro rest
 induction rest with
 |nil=>
  intro i2 hd2 h;rw[j3]at h;refine aM fun N2 xV ud=>?_
  exact((aU.ge Node.c hd2).a [.hl 0 [2,3] [0,1]]).ex hΓ xV (CZ h)
 |cons lM wR ih2=>
  intro i2 hd2 h;rw[j3]at h;refine aM fun N2 xV ud=>?_
  obtain⟨x73,h74,h⟩:=aD h;have AM:=((((aU.lt Node.c hd2).a [.n 41]).l (av Node.c 8 (dc hd2) rfl)).l (dX Node.c 8 h74 rfl))
  obtain⟨h75,h⟩|⟨h75,h⟩:=aK h
  ·have h:=aG h;subst h;exact((AM.r 14 h75).T 16).ret hΓ
  ·have D7:=(((((AM.r 4 h75).l (av Node.c 8 (dc hd2) rfl)).r 6 h75).l (dX Node.c 8 h74 rfl)).r 4 h75)
   obtain⟨h76,h⟩|⟨h76,h⟩:=aK h
   ·have h:=aG h;subst h;exact((D7.r 15 h76).T 1).ret hΓ
   ·obtain⟨y77,h78,h⟩:=aD h;have Hz:=(((((((D7.r 4 h76).l (av Node.c 8 (dc hd2) rfl)).r 6 h76).l (dX Node.c 8 h74 rfl)).r 3 h76).g (A6 h78)).r 2 h76)
    obtain⟨h79,h⟩|⟨h79,h⟩:=aK h
    ·have h:=aG h;subst h;exact(Hz.b h79).ret hΓ
    ·exact((Hz.b h79).a [.cn [2,3,6] [0,1]]).ct hΓ ud (iS hd2 hm2) (ih2 (i2+1) (dn hd2) h)
def HY(aB:aF)(aV:aF)(cT:Int):St:=⟨[(2,D.ptr 0 0),(3,D.ptr 1 0),(7,D.int .i64 cT)],[Ob.box (aF.c aB),Ob.box (aF.c aV)]⟩
theorem Fw(hΓ:Γ.nt=123){aB:aF}{aV:aF}{r:Bool}{k3:Option Bool}(hE3:k3=some r->Ax Γ N f85 (.q [[none]] (D.bool r)) [1,1,1,1,1] ⟨[],[]⟩)(Wf:aB.ends.length<=maxLen):∀(rest:bJ) (i3:Nat),aB.ends.drop i3=rest->j5 aB aV k3 rest i3=some r->Ar Γ N f85 (.q [[none]] (D.bool r)) [1,1,1,1,0,1,0] (rest.length+1) (HY aB aV (i3:Int)):=by
 intro rest
 induction rest with
 |nil=>
  intro i3 BE h;rw[j5]at h;refine aM fun N3 YF T4=>?_
  exact((aU.ge di BE).a [.hl 0 [] []]).ex hΓ YF (hE3 h)
 |cons Vt U1 ih3=>
  intro i3 BE h;rw[j5]at h;refine aM fun N3 YF T4=>?_
  obtain⟨x100,h101,h⟩:=aD h;have yj:=((((aU.lt di BE).a [.n 10]).l (av di 1 (dc BE) rfl)).l (dX di 1 h101 rfl))
  obtain⟨h102,h⟩|⟨h102,h⟩:=aK h
  ·have h:=aG h;subst h;exact(yj.b h102).ret hΓ
  ·exact((yj.b h102).a [.cn [2,3,7] [0,1]]).ct hΓ T4 (iS BE Wf) (ih3 (i3+1) (dn BE) h)
theorem Ee{aB:aF}{aV:aF}{r:Bool}(h:rF aB aV=some r):Good prog 85 [D.agg (aF.c aB),D.agg (aF.c aV)] (D.bool r):=by
 refine gd func85 [[none]] 123 fun hr Γ hΓ=>?_
 rw[rF]at h;obtain⟨h1,h⟩|⟨h1,h⟩:=aK h
 ·have h:=aG h;subst h;exact((aU.r 8 h1).T 9).ret hΓ
 ·have D1:=(aU.r 8 h1)
  obtain⟨h2,h⟩|⟨h2,h⟩:=aK h
  ·have h:=aG h;subst h;exact((D1.r 8 h2).T 1).ret hΓ
  ·have BG:=(D1.r 8 h2)
   obtain⟨h3,h⟩|⟨h3,h⟩:=aK h
   ·have h:=aG h;subst h;exact(BG.b h3).ret hΓ
   ·refine((BG.b h3).a [.cn [2,3,5] [0,1]]).lp hΓ (Fu hΓ (fun h=>?_) (by have:=(dU.sl (dU.agg (hr _ (aC (i:=0) rfl)) (.sl (aB.ay.map aQ.c)) (by simp))).1;simpa using this) aB.ay 0 rfl h);refine(aU.a [.cn [2,3,6] [0,1]]).lp hΓ (Fv hΓ (fun h=>?_) (by have:=(dU.sl (dU.agg (hr _ (aC (i:=0) rfl)) (.sl (aB.nodes.map Node.c)) (by simp))).1;simpa using this) aB.nodes 0 rfl h);refine(aU.a [.cn [2,3,7] [0,1]]).lp hΓ (Fw hΓ (fun h=>?_) (by have:=(dU.sl (dU.agg (hr _ (aC (i:=0) rfl)) (.sl (aB.ends.map di)) (by simp))).1;simpa using this) aB.ends 0 rfl h);have h:=aG h;subst h;exact aU.ret hΓ
def je(aB:aT)(k1:Option Bool):aT->Nat->Option Bool
 | [],i1=>(k1)
 |bD::bg,i1=>((iL bD.var).bind fun K1=>(bif !(K1)then(some false)else((fS bD.value).bind fun y52=>(bif !(y52)then(some false)else(bif decide (((i1:Int):Int)>0)then((mC aB (IntKind.i64.wrap ((i1:Int)-1))).bind fun x56=>(bif !(Op.bytesLess x56.var bD.var)then(some false)else(je aB k1 bg (i1+1))))else(je aB k1 bg (i1+1)))))))
def kx(aB:aT):Option Bool:=(je aB (some (decide ((((aB.map aR.c).length:Int):Int)<=6))) aB 0)
def JZ(aB:aT)(cT:Int):St:=⟨[(0,D.sl (aB.map aR.c)),(3,D.int .i64 cT)],[]⟩
theorem HK(hΓ:Γ.nt=47){aB:aT}{r:Bool}{k1:Option Bool}(cY:k1=some r->Ax Γ N f226 (.q [[none]] (D.bool r)) [1,1] ⟨[(0,D.sl (aB.map aR.c))],[]⟩)(hm1:aB.length<=maxLen):∀(rest:aT) (i1:Nat),aB.drop i1=rest->je aB k1 rest i1=some r->Ar Γ N f226 (.q [[none]] (D.bool r)) [1,0,1,0] (rest.length+1) (JZ aB (i1:Int)):=by
 intro rest
 induction rest with
 |nil=>
  intro i1 aq h;rw[je]at h;refine aM fun N1 bw bn=>?_
  exact((aU.ge aR.c aq).a [.hl 0 [0] []]).ex hΓ bw (cY h)
 |cons bD bg ih1=>
  intro i1 aq h;rw[je]at h;refine aM fun N1 bw bn=>?_
  obtain⟨K1,h50,h⟩:=aD h;have tX:=((((aU.lt aR.c aq).a [.n 31]).l (av aR.c 2 (dc aq) rfl)).g (gG h50))
  obtain⟨h51,h⟩|⟨h51,h⟩:=aK h
  ·have h:=aG h;subst h;exact((((tX.r 8 h51).T 3).a [bF,bF,bF,bF,bF,bF,bF,bF,bF,bF,bF,bF]).T 3).ret hΓ
  ·obtain⟨y52,h53,h⟩:=aD h;have wL:=(((((tX.r 3 h51).l (av aR.c 2 (dc aq) rfl)).r 3 h51).g (eY h53)).r 2 h51)
   obtain⟨h54,h⟩|⟨h54,h⟩:=aK h
   ·have h:=aG h;subst h;exact((((wL.r 3 h54).a [bF,bF,bF,bF,bF,bF,bF,bF,bF,bF,bF,bF]).r 2 h54).T 1).ret hΓ
   ·have AM:=(wL.r 3 h54)
    obtain⟨h55,h⟩|⟨h55,h⟩:=aK h
    ·obtain⟨x56,h57,h⟩:=aD h;have D7:=((((((((AM.r 4 h55).l (dX aR.c 2 h57 rfl)).r 5 h55).l (av aR.c 2 (dc aq) rfl)).r 3 h55).b h54).b h55).b h54)
     obtain⟨h58,h⟩|⟨h58,h⟩:=aK h
     ·have h:=aG h;subst h;exact(D7.b h58).ret hΓ
     ·exact((D7.b h58).a [.cn [0,3] []]).ct hΓ bn (iS aq hm1) (ih1 (i1+1) (dn aq) h)
    ·exact((((((AM.r 12 h55).b h54).b h55).b h54).F 1).a [.cn [0,3] []]).ct hΓ bn (iS aq hm1) (ih1 (i1+1) (dn aq) h)
theorem mi{aB:aT}{r:Bool}(h:kx aB=some r):Good prog 226 [D.sl (aB.map aR.c)] (D.bool r):=by
 refine gd func226 [[none]] 47 fun hr Γ hΓ=>?_
 rw[kx]at h;refine(aU.a [.cn [0,3] []]).lp hΓ (HK hΓ (fun h=>?_) (by have:=(dU.sl (hr _ (aC (i:=0) rfl))).1;simpa using this) aB 0 rfl h);cases h;exact aU.ret hΓ
def iM(aB:aT)(aV:Bytes)(k1:Option (Bytes×Bool)):aT->Nat->Option (Bytes×Bool)
 | [],i1=>(k1)
 |bD::bg,i1=>(bif (bD.var:Bytes)==aV then((iL aV).bind fun I6=>(bif I6 then(some (bD.value,true))else(iM aB aV k1 bg (i1+1))))else(iM aB aV k1 bg (i1+1)))
def qI(aB:aT)(aV:Bytes):Option (Bytes×Bool):=((fS aV).bind fun y1=>(bif y1 then(some (aV,true))else(iM aB aV (some ([],false)) aB 0)))
def Mw(aB:aT)(aV:Bytes)(cT:Int):St:=⟨[(0,D.sl (aB.map aR.c)),(1,D.str aV),(6,D.int .i64 cT)],[]⟩
theorem Lf(hΓ:Γ.nt=32){aB:aT}{aV:Bytes}{r:Bytes×Bool}{k1:Option (Bytes×Bool)}(cY:k1=some r->Ax Γ N f163 (.q [[none],[none]] (D.iF [D.str r.1,D.bool r.2])) [1,1,1] ⟨[],[]⟩)(hm1:aB.length<=maxLen):∀(rest:aT) (i1:Nat),aB.drop i1=rest->iM aB aV k1 rest i1=some r->Ar Γ N f163 (.q [[none],[none]] (D.iF [D.str r.1,D.bool r.2])) [1,1,0,1,0] (rest.length+1) (Mw aB aV (i1:Int)):=by
 intro rest
 induction rest with
 |nil=>
  intro i1 aq h;rw[iM]at h;refine aM fun N1 bw bn=>?_
  exact((aU.ge aR.c aq).a [.hl 0 [] []]).ex hΓ bw (cY h)
 |cons bD bg ih1=>
  intro i1 aq h;rw[iM]at h;refine aM fun N1 bw bn=>?_
  have jU:=((aU.lt aR.c aq).l (av aR.c 2 (dc aq) rfl))
  obtain⟨h28,h⟩|⟨h28,h⟩:=aK h
  ·obtain⟨I6,h30,h⟩:=aD h;have iU:=(((jU.r 2 h28).g (gG h30)).b h28)
   obtain⟨h31,h⟩|⟨h31,h⟩:=aK h
   ·cases h;exact((iU.b h31).l (av aR.c 2 (dc aq) rfl)).ret hΓ
   ·exact((iU.b h31).a [.cn [0,1,6] []]).ct hΓ bn (iS aq hm1) (ih1 (i1+1) (dn aq) h)
  ·exact(((jU.r 3 h28).F 1).a [.cn [0,1,6] []]).ct hΓ bn (iS aq hm1) (ih1 (i1+1) (dn aq) h)
theorem xA{aB:aT}{aV:Bytes}{r:Bytes×Bool}(h:qI aB aV=some r):Good prog 163 [D.sl (aB.map aR.c),D.str aV] (D.iF [D.str r.1,D.bool r.2]):=by
 refine gd func163 [[none],[none]] 32 fun hr Γ hΓ=>?_
 rw[qI]at h;obtain⟨y1,h2,h⟩:=aD h;obtain⟨h3,h⟩|⟨h3,h⟩:=aK h
 ·cases h;exact((aU.g (eY h2)).b h3).ret hΓ
 ·refine(((aU.g (eY h2)).b h3).a [.cn [0,1,6] []]).lp hΓ (Lf hΓ (fun h=>?_) (by have:=(dU.sl (hr _ (aC (i:=0) rfl))).1;simpa using this) aB 0 rfl h);cases h;exact aU.ret hΓ
def mV(aB:aT)(aV:Bytes)(cW:Bytes)(k1:Bool->aT->Option aT):aT->Nat->Bool->aT->Option aT
 | [],i1,I5,bC=>(k1 I5 bC)
 |bD::bg,i1,I5,bC=>(bif !(I5)then(bif !(Op.bytesLess bD.var aV||(bD.var:Bytes)==aV)then(bif room ((bC.map aR.c).length+([[D.str aV,D.str cW]]).length) 32 then(bif room (((bC.map aR.c)++([[D.str aV,D.str cW]])).length+([[D.str bD.var,D.str bD.value]]).length) 32 then(mV aB aV cW k1 bg (i1+1) true ((bC++([(⟨aV,cW⟩:aR)]))++([bD])))else none)else none)else(bif room ((bC.map aR.c).length+([[D.str bD.var,D.str bD.value]]).length) 32 then(mV aB aV cW k1 bg (i1+1) I5 (bC++([bD])))else none))else(bif room ((bC.map aR.c).length+([[D.str bD.var,D.str bD.value]]).length) 32 then(mV aB aV cW k1 bg (i1+1) I5 (bC++([bD])))else none))
def yg(aB:aT)(aV:Bytes)(cW:Bytes):Option aT:=(mV aB aV cW (fun(a3e:Bool) (bO:aT)=>(bif !(a3e)then(bif room ((bO.map aR.c).length+([[D.str aV,D.str cW]]).length) 32 then(some (bO++([(⟨aV,cW⟩:aR)])))else none)else(some bO))) aB 0 false ([]:aT))
def xb(aB:aT)(aV:Bytes)(cW:Bytes)(I5:Bool)(W1:List aS)(cT:Int):St:=⟨[(0,D.sl (aB.map aR.c)),(1,D.str aV),(2,D.str cW),(7,D.acc 0),(8,D.bool I5),(9,D.int .i64 cT)],[Ob.row .uq 152 2 W1]⟩
theorem OM(hΓ:Γ.nt=50){aB:aT}{aV:Bytes}{cW:Bytes}{r:aT}{k1:Bool->aT->Option aT}(cY:∀(a3e:Bool) (bO:aT),k1 a3e bO=some r->Ax Γ N f164 (.q [[some (152,2)]] (D.fr 152 2 (r.map aR.c))) [1,1,1,1] ⟨[(1,D.str aV),(2,D.str cW),(7,D.acc 0),(8,D.bool a3e)],[Ob.row .uq 152 2 (bO.map aR.c)]⟩)(hm1:aB.length<=maxLen):∀(rest:aT) (i1:Nat) (I5:Bool) (bC:aT),aB.drop i1=rest->mV aB aV cW k1 rest i1 I5 bC=some r->Ar Γ N f164 (.q [[some (152,2)]] (D.fr 152 2 (r.map aR.c))) [1,1,1,0,1,0] (rest.length+1) (xb aB aV cW I5 (bC.map aR.c) (i1:Int)):=by
 intro rest
 induction rest with
 |nil=>
  intro i1 I5 bC aq h;rw[mV]at h;refine aM fun N1 bw bn=>?_
  exact((aU.ge aR.c aq).a [.hl 0 [1,2,7,8] [0]]).ex hΓ bw (cY I5 bC h)
 |cons bD bg ih1=>
  intro i1 I5 bC aq h;rw[mV]at h;refine aM fun N1 bw bn=>?_
  obtain⟨h48,h⟩|⟨h48,h⟩:=aK h
  ·have dH:=((((aU.lt aR.c aq).r 3 h48).l (av aR.c 2 (dc aq) rfl)).r 5 h48)
   obtain⟨h49,h⟩|⟨h49,h⟩:=aK h
   ·obtain⟨h50,h⟩:=bV h;obtain⟨h51,h⟩:=bV h;exact(((((dH.b h49).w (cA h50)).l (av aR.c 2 (dc aq) rfl)).w (cA h51)).a [.cn [0,1,2,7,8,9] [4]]).cs hΓ bn (xb aB aV cW true (((bC.map aR.c)++([[D.str aV,D.str cW]]))++([[D.str bD.var,D.str bD.value]])) (IntKind.i64.wrap ((i1:Int)+1))) (by first| (simp only[iS aq hm1,mA]<;>rfl)| (simp only[iS aq hm1,mA,aE.c,aR.c,aN.c,Action.c,aO.c,aI.c,cr.c,aQ.c,Node.c,aF.c,cv.c]<;>rfl)) (ih1 (i1+1) true ((bC++([(⟨aV,cW⟩:aR)]))++([bD])) (dn aq) h)
   ·obtain⟨h52,h⟩:=bV h;exact((((dH.b h49).l (av aR.c 2 (dc aq) rfl)).w (cA h52)).a [.cn [0,1,2,7,8,9] [2]]).cs hΓ bn (xb aB aV cW I5 ((bC.map aR.c)++([[D.str bD.var,D.str bD.value]])) (IntKind.i64.wrap ((i1:Int)+1))) (by first| (simp only[iS aq hm1,mA]<;>rfl)| (simp only[iS aq hm1,mA,aE.c,aR.c,aN.c,Action.c,aO.c,aI.c,cr.c,aQ.c,Node.c,aF.c,cv.c]<;>rfl)) (ih1 (i1+1) I5 (bC++([bD])) (dn aq) h)
  ·obtain⟨h53,h⟩:=bV h;exact((((((aU.lt aR.c aq).r 8 h48).F 1).l (av aR.c 2 (dc aq) rfl)).w (cA h53)).a [.cn [0,1,2,7,8,9] [2]]).cs hΓ bn (xb aB aV cW I5 ((bC.map aR.c)++([[D.str bD.var,D.str bD.value]])) (IntKind.i64.wrap ((i1:Int)+1))) (by first| (simp only[iS aq hm1,mA]<;>rfl)| (simp only[iS aq hm1,mA,aE.c,aR.c,aN.c,Action.c,aO.c,aI.c,cr.c,aQ.c,Node.c,aF.c,cv.c]<;>rfl)) (ih1 (i1+1) I5 (bC++([bD])) (dn aq) h)
theorem Mz{aB:aT}{aV:Bytes}{cW:Bytes}{r:aT}(h:yg aB aV cW=some r):Good prog 164 [D.sl (aB.map aR.c),D.str aV,D.str cW] (D.fr 152 2 (r.map aR.c)):=by
 refine gd func164 [[some (152,2)]] 50 fun hr Γ hΓ=>?_
 rw[yg]at h;refine(aU.a [.cn [0,1,2,7,8,9] [0]]).lp hΓ (OM hΓ (fun a3e bO h=>?_) (by have:=(dU.sl (hr _ (aC (i:=0) rfl))).1;simpa using this) aB 0 false ([]:aT) rfl h);obtain⟨h54,h⟩|⟨h54,h⟩:=aK h
 ·obtain⟨h55,h⟩:=bV h;cases h;exact((aU.b h54).w (cA h55)).rts hΓ (D.fr 152 2 ((bO.map aR.c)++([[D.str aV,D.str cW]]))) (by first|rfl| (simp only[mA]<;>rfl)| (simp only[cV,mA]<;>rfl))
 ·have h:=aG h;subst h;exact(aU.b h54).ret hΓ
def vD(aB:aT)(aV:Bytes)(cW:Bytes):Option (aT×Bool):=((kx aB).bind fun y1=>(bif !(y1)then(some (([]:aT),false))else((iL aV).bind fun y4=>(bif !(y4)then(some (([]:aT),false))else((fS cW).bind fun y7=>(bif !(y7)then(some (([]:aT),false))else((qI aB aV).bind fun Oj=>(bif Oj.2 then(bif (Oj.1:Bytes)==cW then((rY aB).bind fun Vk=>(some (Vk,true)))else(some (([]:aT),false)))else(bif (((aB.map aR.c).length:Int):Int)==6 then(some (([]:aT),false))else((yg aB aV cW).bind fun KN=>(some (KN,true))))))))))))
theorem LR{aB:aT}{aV:Bytes}{cW:Bytes}{r:aT×Bool}(h:vD aB aV cW=some r):Good prog 228 [D.sl (aB.map aR.c),D.str aV,D.str cW] (D.iF [D.fr 152 2 (r.1.map aR.c),D.bool r.2]):=by
 refine gd func228 [[some (152,2)],[none]] 49 fun hr Γ hΓ=>?_
 rw[vD]at h;obtain⟨y1,h2,h⟩:=aD h;obtain⟨h3,h⟩|⟨h3,h⟩:=aK h
 ·cases h;exact(((aU.g (mi h2)).r 4 h3).T 5).ret hΓ
 ·obtain⟨y4,h5,h⟩:=aD h;have k7:=((((aU.g (mi h2)).r 2 h3).g (gG h5)).r 2 h3)
  obtain⟨h6,h⟩|⟨h6,h⟩:=aK h
  ·cases h;exact((k7.r 4 h6).T 1).ret hΓ
  ·obtain⟨y7,h8,h⟩:=aD h;have dH:=(((k7.r 2 h6).g (eY h8)).r 2 h6)
   obtain⟨h9,h⟩|⟨h9,h⟩:=aK h
   ·cases h;exact(dH.b h9).ret hΓ
   ·obtain⟨Oj,h11,h⟩:=aD h;have jU:=((dH.b h9).g (xA h11))
    obtain⟨h12,h⟩|⟨h12,h⟩:=aK h
    ·have iU:=(jU.r 4 h12)
     obtain⟨h13,h⟩|⟨h13,h⟩:=aK h
     ·obtain⟨Vk,h15,h⟩:=aD h;cases h;exact((iU.b h13).g (xu h15)).ret hΓ
     ·cases h;exact(((iU.b h13).r 4 h12).T 1).ret hΓ
    ·have tX:=(((jU.r 4 h12).F 1).r 4 h12)
     obtain⟨h16,h⟩|⟨h16,h⟩:=aK h
     ·cases h;exact(tX.b h16).ret hΓ
     ·obtain⟨KN,h18,h⟩:=aD h;cases h;exact((tX.b h16).g (Mz h18)).ret hΓ
def jh(aB:aE)(aV:aE)(k1:aT->Option (aT×Bool)):aJ->Nat->aT->Option (aT×Bool)
 | [],i1,lm=>(k1 lm)
 |bD::bg,i1,lm=>((fS bD).bind fun y80=>(bif y80 then((mC aV.args (i1:Int)).bind fun x83=>(bif !((bD:Bytes)==x83)then(some (([]:aT),false))else(jh aB aV k1 bg (i1+1) lm)))else((mC aV.args (i1:Int)).bind fun x86=>((vD lm bD x86).bind fun y88=>(bif !(y88.2)then(some (([]:aT),false))else(jh aB aV k1 bg (i1+1) y88.1))))))
def jL(aB:aE)(aV:aE)(cW:aT):Option (aT×Bool):=((jK aB).bind fun y1=>(bif !(y1)then(some (([]:aT),false))else((pM aV).bind fun y4=>(bif !(y4)then(some (([]:aT),false))else((kx cW).bind fun y7=>(bif !(y7)then(some (([]:aT),false))else(bif !((aB.rel:Bytes)==aV.rel)then(some (([]:aT),false))else(bif (((aB.args.map tx).length:Int):Int) != ((aV.args.map tx).length:Int)then(some (([]:aT),false))else((rY cW).bind fun y12=>(jh aB aV (fun(bO:aT)=>(some (bO,true))) aB.args 0 y12))))))))))
def Jd(aB:aE)(aV:aE)(W0:List aS)(cT:Int):St:=⟨[(3,D.ptr 0 0),(4,D.ptr 1 0),(8,D.acc 2),(9,D.int .i64 cT)],[Ob.box (aE.c aB),Ob.box (aE.c aV),Ob.row .uq 152 2 W0]⟩
theorem HO(hΓ:Γ.nt=89){aB:aE}{aV:aE}{r:aT×Bool}{k1:aT->Option (aT×Bool)}(cY:∀(bO:aT),k1 bO=some r->Ax Γ N f151 (.q [[some (152,2)],[none]] (D.iF [D.fr 152 2 (r.1.map aR.c),D.bool r.2])) [1,1,1,1] ⟨[(8,D.acc 0)],[Ob.row .uq 152 2 (bO.map aR.c)]⟩)(hm1:aB.args.length<=maxLen):∀(rest:aJ) (i1:Nat) (lm:aT),aB.args.drop i1=rest->jh aB aV k1 rest i1 lm=some r->Ar Γ N f151 (.q [[some (152,2)],[none]] (D.iF [D.fr 152 2 (r.1.map aR.c),D.bool r.2])) [1,1,1,0,1,0] (rest.length+1) (Jd aB aV (lm.map aR.c) (i1:Int)):=by
 intro rest
 induction rest with
 |nil=>
  intro i1 lm aq h;rw[jh]at h;refine aM fun N1 bw bn=>?_
  exact((aU.ge tx aq).a [.hl 0 [8] [2]]).ex hΓ bw (cY lm h)
 |cons bD bg ih1=>
  intro i1 lm aq h;rw[jh]at h;refine aM fun N1 bw bn=>?_
  obtain⟨y80,h81,h⟩:=aD h;have iU:=(((aU.lt tx aq).l (av tx 1 (dc aq) rfl)).g (eY h81))
  obtain⟨h82,h⟩|⟨h82,h⟩:=aK h
  ·obtain⟨x83,h84,h⟩:=aD h;have tX:=((((iU.b h82).a [.n 10]).l (av tx 1 (dc aq) rfl)).l (dX tx 1 h84 rfl))
   obtain⟨h85,h⟩|⟨h85,h⟩:=aK h
   ·cases h;exact(tX.b h85).ret hΓ
   ·exact((tX.b h85).a [.cn [3,4,8,9] [0,1,2]]).ct hΓ bn (iS aq hm1) (ih1 (i1+1) lm (dn aq) h)
  ·obtain⟨x86,h87,h⟩:=aD h;obtain⟨y88,h89,h⟩:=aD h;have wL:=(((((iU.b h82).a [.n 16]).l (av tx 1 (dc aq) rfl)).l (dX tx 1 h87 rfl)).g (LR h89))
   obtain⟨h90,h⟩|⟨h90,h⟩:=aK h
   ·cases h;exact(wL.b h90).ret hΓ
   ·exact((wL.b h90).a [.cn [3,4,8,9] [0,1,3]]).ct hΓ bn (iS aq hm1) (ih1 (i1+1) y88.1 (dn aq) h)
theorem qW{aB:aE}{aV:aE}{cW:aT}{r:aT×Bool}(h:jL aB aV cW=some r):Good prog 151 [D.agg (aE.c aB),D.agg (aE.c aV),D.sl (cW.map aR.c)] (D.iF [D.fr 152 2 (r.1.map aR.c),D.bool r.2]):=by
 refine gd func151 [[some (152,2)],[none]] 89 fun hr Γ hΓ=>?_
 rw[jL]at h;obtain⟨y1,h2,h⟩:=aD h;obtain⟨h3,h⟩|⟨h3,h⟩:=aK h
 ·cases h;exact(((aU.g (ju h2)).r 4 h3).T 19).ret hΓ
 ·obtain⟨y4,h5,h⟩:=aD h;have AM:=((((aU.g (ju h2)).r 2 h3).g (xq h5)).r 2 h3)
  obtain⟨h6,h⟩|⟨h6,h⟩:=aK h
  ·cases h;exact((AM.r 4 h6).T 15).ret hΓ
  ·obtain⟨y7,h8,h⟩:=aD h;have D7:=(((AM.r 2 h6).g (mi h8)).r 2 h6)
   obtain⟨h9,h⟩|⟨h9,h⟩:=aK h
   ·cases h;exact((D7.r 6 h9).T 9).ret hΓ
   ·have Hz:=(D7.r 6 h9)
    obtain⟨h10,h⟩|⟨h10,h⟩:=aK h
    ·cases h;exact((Hz.r 8 h10).T 1).ret hΓ
    ·have yj:=(Hz.r 8 h10)
     obtain⟨h11,h⟩|⟨h11,h⟩:=aK h
     ·cases h;exact(yj.b h11).ret hΓ
     ·obtain⟨y12,h13,h⟩:=aD h;refine(((yj.b h11).g (xu h13)).a [.cn [3,4,8,9] [0,1,2]]).lp hΓ (HO hΓ (fun bO h=>?_) (by have:=(dU.sl (dU.agg (hr _ (aC (i:=0) rfl)) (.sl (aB.args.map tx)) (by simp))).1;simpa using this) aB.args 0 y12 rfl h);cases h;exact aU.ret hΓ
def gB(aB:aE)(aV:aT)(cW:aP)(k1:aP->Option aP):aP->Nat->aP->Option aP
 | [],i1,bu=>(k1 bu)
 |bD::bg,i1,bu=>((jL aB bD aV).bind fun y42=>(bif y42.2 then((ew bD).bind fun I8=>(bif room ((bu.map aE.c).length+([[D.str I8.rel,D.sl (I8.args.map tx)]]).length) 40 then(gB aB aV cW k1 bg (i1+1) (bu++([I8])))else none))else(gB aB aV cW k1 bg (i1+1) bu)))
def gQ(aB:aE)(aV:aT)(cW:aP):Option aP:=(gB aB aV cW (fun(bO:aP)=>(some bO)) cW 0 ([]:aP))
def yG(aB:aE)(aV:aT)(cW:aP)(W0:List aS)(cT:Int):St:=⟨[(1,D.sl (aV.map aR.c)),(2,D.sl (cW.map aE.c)),(3,D.ptr 0 0),(7,D.acc 1),(8,D.int .i64 cT)],[Ob.box (aE.c aB),Ob.row .uq 53 2 W0]⟩
theorem Cq(hΓ:Γ.nt=38){aB:aE}{aV:aT}{cW:aP}{r:aP}{k1:aP->Option aP}(cY:∀(bO:aP),k1 bO=some r->Ax Γ N f87 (.q [[some (53,2)]] (D.fr 53 2 (r.map aE.c))) [1,1,1] ⟨[(7,D.acc 0)],[Ob.row .uq 53 2 (bO.map aE.c)]⟩)(hm1:cW.length<=maxLen):∀(rest:aP) (i1:Nat) (bu:aP),cW.drop i1=rest->gB aB aV cW k1 rest i1 bu=some r->Ar Γ N f87 (.q [[some (53,2)]] (D.fr 53 2 (r.map aE.c))) [1,1,0,1,0] (rest.length+1) (yG aB aV cW (bu.map aE.c) (i1:Int)):=by
 intro rest
 induction rest with
 |nil=>
  intro i1 bu aq h;rw[gB]at h;refine aM fun N1 bw bn=>?_
  exact((aU.ge aE.c aq).a [.hl 0 [7] [1]]).ex hΓ bw (cY bu h)
 |cons bD bg ih1=>
  intro i1 bu aq h;rw[gB]at h;refine aM fun N1 bw bn=>?_
  obtain⟨y42,h43,h⟩:=aD h;have dH:=((((aU.lt aE.c aq).a [.n 11]).l (av aE.c 2 (dc aq) rfl)).g (qW h43))
  obtain⟨h44,h⟩|⟨h44,h⟩:=aK h
  ·obtain⟨I8,h46,h⟩:=aD h;obtain⟨h47,h⟩:=bV h;exact(((((dH.b h44).l (av aE.c 2 (dc aq) rfl)).g (ga h46)).w (cA h47)).a [.cn [1,2,3,7,8] [0,5]]).cs hΓ bn (yG aB aV cW ((bu.map aE.c)++([[D.str I8.rel,D.sl (I8.args.map tx)]])) (IntKind.i64.wrap ((i1:Int)+1))) (by first| (simp only[iS aq hm1,mA]<;>rfl)| (simp only[iS aq hm1,mA,aE.c,aR.c,aN.c,Action.c,aO.c,aI.c,cr.c,aQ.c,Node.c,aF.c,cv.c]<;>rfl)) (ih1 (i1+1) (bu++([I8])) (dn aq) h)
  ·exact((dH.b h44).a [.cn [1,2,3,7,8] [0,1]]).ct hΓ bn (iS aq hm1) (ih1 (i1+1) bu (dn aq) h)
theorem gR{aB:aE}{aV:aT}{cW:aP}{r:aP}(h:gQ aB aV cW=some r):Good prog 87 [D.agg (aE.c aB),D.sl (aV.map aR.c),D.sl (cW.map aE.c)] (D.fr 53 2 (r.map aE.c)):=by
 refine gd func87 [[some (53,2)]] 38 fun hr Γ hΓ=>?_
 rw[gQ]at h;refine(aU.a [.cn [1,2,3,7,8] [0,1]]).lp hΓ (Cq hΓ (fun bO h=>?_) (by have:=(dU.sl (hr _ (aC (i:=2) rfl))).1;simpa using this) cW 0 ([]:aP) rfl h);have h:=aG h;subst h;exact aU.ret hΓ
def mR(aB:aP)(aV:aP)(k1:Option Bool):aP->Nat->Option Bool
 | [],i1=>(k1)
 |bD::bg,i1=>((mC aV (i1:Int)).bind fun x30=>((rX bD x30).bind fun Dx=>(bif !(Dx)then(some false)else(mR aB aV k1 bg (i1+1)))))
def nP(aB:aP)(aV:aP):Option Bool:=(bif (((aB.map aE.c).length:Int):Int) != ((aV.map aE.c).length:Int)then(some false)else(mR aB aV (some true) aB 0))
def Jj(aB:aP)(aV:aP)(cT:Int):St:=⟨[(0,D.sl (aB.map aE.c)),(1,D.sl (aV.map aE.c)),(5,D.int .i64 cT)],[]⟩
theorem HS(hΓ:Γ.nt=27){aB:aP}{aV:aP}{r:Bool}{k1:Option Bool}(cY:k1=some r->Ax Γ N f86 (.q [[none]] (D.bool r)) [1,1,1] ⟨[],[]⟩)(hm1:aB.length<=maxLen):∀(rest:aP) (i1:Nat),aB.drop i1=rest->mR aB aV k1 rest i1=some r->Ar Γ N f86 (.q [[none]] (D.bool r)) [1,1,0,1,0] (rest.length+1) (Jj aB aV (i1:Int)):=by
 intro rest
 induction rest with
 |nil=>
  intro i1 aq h;rw[mR]at h;refine aM fun N1 bw bn=>?_
  exact((aU.ge aE.c aq).a [.hl 0 [] []]).ex hΓ bw (cY h)
 |cons bD bg ih1=>
  intro i1 aq h;rw[mR]at h;refine aM fun N1 bw bn=>?_
  obtain⟨x30,h31,h⟩:=aD h;obtain⟨Dx,h33,h⟩:=aD h;have dH:=(((((aU.lt aE.c aq).a [.n 8]).l (av aE.c 2 (dc aq) rfl)).l (dX aE.c 2 h31 rfl)).g (Bu h33))
  obtain⟨h34,h⟩|⟨h34,h⟩:=aK h
  ·have h:=aG h;subst h;exact(dH.b h34).ret hΓ
  ·exact((dH.b h34).a [.cn [0,1,5] []]).ct hΓ bn (iS aq hm1) (ih1 (i1+1) (dn aq) h)
theorem zH{aB:aP}{aV:aP}{r:Bool}(h:nP aB aV=some r):Good prog 86 [D.sl (aB.map aE.c),D.sl (aV.map aE.c)] (D.bool r):=by
 refine gd func86 [[none]] 27 fun hr Γ hΓ=>?_
 rw[nP]at h;obtain⟨h1,h⟩|⟨h1,h⟩:=aK h
 ·have h:=aG h;subst h;exact(aU.b h1).ret hΓ
 ·refine((aU.b h1).a [.cn [0,1,5] []]).lp hΓ (HS hΓ (fun h=>?_) (by have:=(dU.sl (hr _ (aC (i:=0) rfl))).1;simpa using this) aB 0 rfl h);have h:=aG h;subst h;exact aU.ret hΓ
end Go.Cx

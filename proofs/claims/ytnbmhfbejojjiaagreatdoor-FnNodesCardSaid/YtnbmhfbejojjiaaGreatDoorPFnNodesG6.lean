/- What functions of the program compute, and the walks that show it. No condition. -/
import Derived.Test.YtnbmhfbejojjiaaGreatDoorPFnNodesG5
import Derived.Test.YtnbmhfbejojjiaaGreatDoorPFnNodesG3
import Derived.Sort.Walk0
import Derived.Lib.ItoaNum
import Derived.Lib.ItoaLen
import Derived.Lib.Atoi
set_option linter.unusedVariables false
set_option linter.unusedSimpArgs false
namespace Go.Cx
open Go.RowKit Go.Proofs Tryz
set_option maxRecDepth 100000
variable{Γ:sO}{N:Nat->St->Prop}
def jH(aC:au)(aa:Bytes)(k1:Option Int):au->Nat->Option Int
 | [],i1=>(k1)
 |bh::cV,i1=>(bif (bh.name:Bytes)==aa then(some (i1:Int))else(jH aC aa k1 cV (i1+1)))
def qQ(aC:au)(aa:Bytes):Option Int:=(jH aC aa (some (-1)) aC 0)
def EX(aC:au)(aa:Bytes)(dQ:Int):St:=⟨[(0,D.sl (aC.map aJ.c)),(1,D.str aa),(5,D.int .i64 dQ)],[]⟩
theorem DW(hΓ:Γ.nt=20){aC:au}{aa:Bytes}{r:Int}{k1:Option Int}(eR:k1=some r->Ax Γ N f41 (.q [[none]] (D.int .i64 r)) [1,1] ⟨[],[]⟩)(hm1:aC.length<=maxLen):∀(rest:au) (i1:Nat),aC.drop i1=rest->jH aC aa k1 rest i1=some r->Ar Γ N f41 (.q [[none]] (D.int .i64 r)) [1,0,1,0] (rest.length+1) (EX aC aa (i1:Int)):=by
 intro rest
 induction rest with
 |nil=>
  intro i1 bA h;rw[jH]at h;refine aR fun N1 cW cL=>?_
  exact((aU.ge aJ.c bA).a [.hl 0 [] []]).ex hΓ cW (eR h)
 |cons bh cV ih1=>
  intro i1 bA h;rw[jH]at h;refine aR fun N1 cW cL=>?_
  have ig:=((aU.lt aJ.c bA).l (bI aJ.c 4 (dc bA) rfl))
  obtain⟨h13,h⟩|⟨h13,h⟩:=aM h
  ·cases h;exact(ig.b h13).ret hΓ
  ·exact((ig.b h13).a [.cn [0,1,5] []]).ct hΓ cL (iS bA hm1) (ih1 (i1+1) (dn bA) h)
theorem C4{aC:au}{aa:Bytes}{r:Int}(h:qQ aC aa=some r):Good prog 41 [D.sl (aC.map aJ.c),D.str aa] (D.int .i64 r):=by
 refine gd func41 [[none]] 20 fun hr Γ hΓ=>?_
 rw[qQ]at h;refine(aU.a [.cn [0,1,5] []]).lp hΓ (DW hΓ (fun h=>?_) (by have:=(j0.sl (hr _ (aD (i:=0) rfl))).1;simpa using this) aC 0 rfl h);cases h;exact aU.ret hΓ
def jG(aC:au)(k1:Option Bool):au->Nat->Option Bool
 | [],i1=>(k1)
 |bh::cV,i1=>((lf bh).bind fun sN=>(bif !(sN)then(some false)else((qQ aC bh.name).bind fun MX=>(bif (MX:Int) != (i1:Int)then(some false)else(jG aC k1 cV (i1+1))))))
def qP(aC:au):Option Bool:=(jG aC (some (decide ((((aC.map aJ.c).length:Int):Int)<=6))) aC 0)
def EV(aC:au)(dQ:Int):St:=⟨[(0,D.sl (aC.map aJ.c)),(3,D.int .i64 dQ)],[]⟩
theorem DT(hΓ:Γ.nt=30){aC:au}{r:Bool}{k1:Option Bool}(eR:k1=some r->Ax Γ N f87 (.q [[none]] (D.bool r)) [1,1] ⟨[(0,D.sl (aC.map aJ.c))],[]⟩)(hm1:aC.length<=maxLen):∀(rest:au) (i1:Nat),aC.drop i1=rest->jG aC k1 rest i1=some r->Ar Γ N f87 (.q [[none]] (D.bool r)) [1,0,1,0] (rest.length+1) (EV aC (i1:Int)):=by
 intro rest
 induction rest with
 |nil=>
  intro i1 bA h;rw[jG]at h;refine aR fun N1 cW cL=>?_
  exact((aU.ge aJ.c bA).a [.hl 0 [0] []]).ex hΓ cW (eR h)
 |cons bh cV ih1=>
  intro i1 bA h;rw[jG]at h;refine aR fun N1 cW cL=>?_
  obtain⟨sN,h34,h⟩:=aB h;have lC:=(((aU.lt aJ.c bA).l (bI aJ.c 4 (dc bA) rfl)).g (fD h34))
  obtain⟨h35,h⟩|⟨h35,h⟩:=aM h
  ·have h:=aK h;subst h;exact((lC.r 10 h35).T 1).ret hΓ
  ·obtain⟨MX,h37,h⟩:=aB h;have kw:=(((((lC.r 4 h35).l (bI aJ.c 4 (dc bA) rfl)).r 3 h35).g (C4 h37)).r 3 h35)
   obtain⟨h38,h⟩|⟨h38,h⟩:=aM h
   ·have h:=aK h;subst h;exact(kw.b h38).ret hΓ
   ·exact((kw.b h38).a [.cn [0,3] []]).ct hΓ cL (iS bA hm1) (ih1 (i1+1) (dn bA) h)
theorem vK{aC:au}{r:Bool}(h:qP aC=some r):Good prog 87 [D.sl (aC.map aJ.c)] (D.bool r):=by
 refine gd func87 [[none]] 30 fun hr Γ hΓ=>?_
 rw[qP]at h;refine(aU.a [.cn [0,3] []]).lp hΓ (DT hΓ (fun h=>?_) (by have:=(j0.sl (hr _ (aD (i:=0) rfl))).1;simpa using this) aC 0 rfl h);cases h;exact aU.ret hΓ
def iZ(aC:Bytes)(aa:aP)(k1:Option Bytes):aP->Nat->Option Bytes
 | [],i1=>(k1)
 |bh::cV,i1=>(bif (bh.var:Bytes)==aC then(some bh.value)else(iZ aC aa k1 cV (i1+1)))
def ji(aC:Bytes)(aa:aP):Option Bytes:=(iZ aC aa (some aC) aa 0)
def Di(aC:Bytes)(aa:aP)(dQ:Int):St:=⟨[(0,D.str aC),(1,D.sl (aa.map aQ.c)),(5,D.int .i64 dQ)],[]⟩
theorem CE(hΓ:Γ.nt=25){aC:Bytes}{aa:aP}{r:Bytes}{k1:Option Bytes}(eR:k1=some r->Ax Γ N f233 (.q [[none]] (D.str r)) [1,1] ⟨[(0,D.str aC)],[]⟩)(hm1:aa.length<=maxLen):∀(rest:aP) (i1:Nat),aa.drop i1=rest->iZ aC aa k1 rest i1=some r->Ar Γ N f233 (.q [[none]] (D.str r)) [1,0,1,0] (rest.length+1) (Di aC aa (i1:Int)):=by
 intro rest
 induction rest with
 |nil=>
  intro i1 bA h;rw[iZ]at h;refine aR fun N1 cW cL=>?_
  exact((aU.ge aQ.c bA).a [.hl 0 [0] []]).ex hΓ cW (eR h)
 |cons bh cV ih1=>
  intro i1 bA h;rw[iZ]at h;refine aR fun N1 cW cL=>?_
  have ig:=((aU.lt aQ.c bA).l (bI aQ.c 2 (dc bA) rfl))
  obtain⟨h13,h⟩|⟨h13,h⟩:=aM h
  ·cases h;exact((ig.b h13).l (bI aQ.c 2 (dc bA) rfl)).ret hΓ
  ·exact((ig.b h13).a [.cn [0,1,5] []]).ct hΓ cL (iS bA hm1) (ih1 (i1+1) (dn bA) h)
theorem qx{aC:Bytes}{aa:aP}{r:Bytes}(h:ji aC aa=some r):Good prog 233 [D.str aC,D.sl (aa.map aQ.c)] (D.str r):=by
 refine gd func233 [[none]] 25 fun hr Γ hΓ=>?_
 rw[ji]at h;refine(aU.a [.cn [0,1,5] []]).lp hΓ (CE hΓ (fun h=>?_) (by have:=(j0.sl (hr _ (aD (i:=1) rfl))).1;simpa using this) aa 0 rfl h);have h:=aK h;subst h;exact aU.ret hΓ
def jd(aC:aH)(aa:aP)(y1:Bytes)(y3:Bytes)(k1:aF->Option aH):aF->Nat->aF->Option aH
 | [],i1,cX=>(k1 cX)
 |bh::cV,i1,cX=>((ji bh aa).bind fun FF=>(bif room ((cX.map tx).length+([[D.str FF]]).length) 16 then(jd aC aa y1 y3 k1 cV (i1+1) (cX++([FF])))else none))
def ic(aC:aH)(aa:aP):Option aH:=((ji aC.left aa).bind fun y1=>((ji aC.right aa).bind fun y3=>(jd aC aa y1 y3 (fun(n7:aF)=>(some (⟨aC.kind,(⟨aC.pat.rel,n7⟩:aG),y1,y3⟩:aH))) aC.pat.args 0 ([]:aF))))
def vN(aC:aH)(aa:aP)(y1:Bytes)(y3:Bytes)(W0:List aL)(dQ:Int):St:=⟨[(1,D.sl (aa.map aQ.c)),(2,D.ptr 0 0),(4,D.ptr 1 0),(5,D.ptr 2 0),(6,D.int .i64 dQ)],[Ob.box (aH.c aC),Ob.box [D.int .i64 0,D.str ([]),D.nil,D.str ([]),D.str ([])],Ob.box [D.int .i64 aC.kind,D.str aC.pat.rel,D.acc 3,D.str y1,D.str y3],Ob.row .uq 9 1 W0]⟩
theorem BL(hΓ:Γ.nt=46){aC:aH}{aa:aP}{y1:Bytes}{y3:Bytes}{r:aH}{k1:aF->Option aH}(eR:∀(n7:aF),k1 n7=some r->Ax Γ N f196 (.q [[none,none,some (9,1),none,none]] (D.agg [D.int .i64 r.kind,D.str r.pat.rel,D.fr 9 1 (r.pat.args.map tx),D.str r.left,D.str r.right])) [1,1,1] ⟨[(4,D.ptr 0 0),(5,D.ptr 1 0)],[Ob.box [D.int .i64 0,D.str ([]),D.nil,D.str ([]),D.str ([])],Ob.box [D.int .i64 aC.kind,D.str aC.pat.rel,D.acc 2,D.str y1,D.str y3],Ob.row .uq 9 1 (n7.map tx)]⟩)(hm1:aC.pat.args.length<=maxLen):∀(rest:aF) (i1:Nat) (cX:aF),aC.pat.args.drop i1=rest->jd aC aa y1 y3 k1 rest i1 cX=some r->Ar Γ N f196 (.q [[none,none,some (9,1),none,none]] (D.agg [D.int .i64 r.kind,D.str r.pat.rel,D.fr 9 1 (r.pat.args.map tx),D.str r.left,D.str r.right])) [1,1,0,1,0] (rest.length+1) (vN aC aa y1 y3 (cX.map tx) (i1:Int)):=by
 intro rest
 induction rest with
 |nil=>
  intro i1 cX bA h;rw[jd]at h;refine aR fun N1 cW cL=>?_
  exact((aU.ge tx bA).a [.hl 0 [4,5] [1,2,3]]).ex hΓ cW (eR cX h)
 |cons bh cV ih1=>
  intro i1 cX bA h;rw[jd]at h;refine aR fun N1 cW cL=>?_
  obtain⟨FF,h32,h⟩:=aB h;obtain⟨h33,h⟩:=bQ h;exact((((((aU.lt tx bA).a [.n 12]).l (bI tx 1 (dc bA) rfl)).g (qx h32)).w (br h33)).a [.cn [1,2,4,5,6] [0,1,2,5]]).cs hΓ cL (vN aC aa y1 y3 ((cX.map tx)++([[D.str FF]])) (IntKind.i64.wrap ((i1:Int)+1))) (by first| (simp only[iS bA hm1,mA]<;>rfl)| (simp only[iS bA hm1,mA,aG.c,aQ.c,aH.c,Action.c,aJ.c,aX.c,dU.c,ai.c,Node.c,aN.c,dW.c]<;>rfl)) (ih1 (i1+1) (cX++([FF])) (dn bA) h)
theorem iH{aC:aH}{aa:aP}{r:aH}(h:ic aC aa=some r):Good prog 196 [D.agg (aH.c aC),D.sl (aa.map aQ.c)] (D.agg [D.int .i64 r.kind,D.str r.pat.rel,D.fr 9 1 (r.pat.args.map tx),D.str r.left,D.str r.right]):=by
 refine gd func196 [[none,none,some (9,1),none,none]] 46 fun hr Γ hΓ=>?_
 rw[ic]at h;obtain⟨y1,h2,h⟩:=aB h;obtain⟨y3,h4,h⟩:=aB h;refine((((aU.a [.n 16]).g (qx h2)).g (qx h4)).a [.pb 2 2 9 1,.cn [1,2,4,5,6] [0,1,2,3]]).lp hΓ (BL hΓ (fun n7 h=>?_) (by have:=(j0.sl (j0.agg (hr _ (aD (i:=0) rfl)) (.sl (aC.pat.args.map tx)) (by simp))).1;simpa using this) aC.pat.args 0 ([]:aF) rfl h);cases h;exact aU.ret hΓ
def nE(aC:aH):Option aH:=((ic aC ([])).bind fun y1=>(some y1))
theorem q9{aC:aH}{r:aH}(h:nE aC=some r):Good prog 140 [D.agg (aH.c aC)] (D.agg [D.int .i64 r.kind,D.str r.pat.rel,D.fr 9 1 (r.pat.args.map tx),D.str r.left,D.str r.right]):=by
 refine gd func140 [[none,none,some (9,1),none,none]] 5 fun hr Γ hΓ=>?_
 rw[nE]at h;obtain⟨y1,h2,h⟩:=aB h;have h:=aK h;subst h;exact((aU.a [.d (D.agg [D.int .i64 y1.kind,D.str y1.pat.rel,D.fr 9 1 (y1.pat.args.map tx),D.str y1.left,D.str y1.right])]).w (show Good prog 196 [D.agg (aH.c aC),D.sl ([])] (D.agg [D.int .i64 y1.kind,D.str y1.pat.rel,D.fr 9 1 (y1.pat.args.map tx),D.str y1.left,D.str y1.right])from by first| (simpa only[b8,bC,bf,bX,bY]using iH h2)|exact iH h2)).ret hΓ
def gr(aC:aG):Option aG:=((pM aC.args).bind fun y1=>(some (⟨aC.rel,y1⟩:aG)))
theorem yA{aC:aG}{r:aG}(h:gr aC=some r):Good prog 144 [D.agg (aG.c aC)] (D.agg [D.str r.rel,D.fr 9 1 (r.args.map tx)]):=by
 refine gd func144 [[none,some (9,1)]] 9 fun hr Γ hΓ=>?_
 rw[gr]at h;obtain⟨y1,h2,h⟩:=aB h;cases h;exact((aU.a [.n 5]).g (wI h2)).ret hΓ
def nP(aC:aJ)(k1:af->Option aJ):af->Nat->af->Option aJ
 | [],i1,cX=>(k1 cX)
 |bh::cV,i1,cX=>((nE bh).bind fun FB=>(bif room ((cX.map aH.c).length+([[D.int .i64 FB.kind,D.str FB.pat.rel,D.sl (FB.pat.args.map tx),D.str FB.left,D.str FB.right]]).length) 80 then(nP aC k1 cV (i1+1) (cX++([FB])))else none))
def lW(aC:aJ)(eS:af)(k2:dN->Option aJ):dN->Nat->dN->Option aJ
 | [],i2,j6=>(k2 j6)
 |jM::uO,i2,j6=>((gr jM.pat).bind fun XT=>(bif room ((j6.map Action.c).length+([[D.int .i64 jM.kind,D.str XT.rel,D.sl (XT.args.map tx)]]).length) 48 then(lW aC eS k2 uO (i2+1) (j6++([(⟨jM.kind,XT⟩:Action)])))else none))
def qk(aC:aJ):Option aJ:=(nP aC (fun(eS:af)=>(lW aC eS (fun(tM:dN)=>(some (⟨aC.name,aC.prio,eS,tM⟩:aJ))) aC.cO 0 ([]:dN))) aC.conds 0 ([]:af))
def zS(aC:aJ)(W0:List aL)(dQ:Int):St:=⟨[(1,D.ptr 0 0),(2,D.ptr 1 0),(3,D.ptr 2 0),(4,D.int .i64 dQ)],[Ob.box (aJ.c aC),Ob.box [D.str ([]),D.int .i64 0,D.nil,D.nil],Ob.box [D.str aC.name,D.int .i64 aC.prio,D.acc 3,D.nil],Ob.row .uq 47 5 W0]⟩
theorem G4(hΓ:Γ.nt=56){aC:aJ}{r:aJ}{k1:af->Option aJ}(eR:∀(eS:af),k1 eS=some r->Ax Γ N f195 (.q [[none,none,some (47,5),some (167,3)]] (D.agg [D.str r.name,D.int .i64 r.prio,D.fr 47 5 (r.conds.map aH.c),D.fr 167 3 (r.cO.map Action.c)])) [1,1,1] ⟨[(1,D.ptr 0 0),(2,D.ptr 1 0),(3,D.ptr 2 0)],[Ob.box (aJ.c aC),Ob.box [D.str ([]),D.int .i64 0,D.nil,D.nil],Ob.box [D.str aC.name,D.int .i64 aC.prio,D.acc 3,D.nil],Ob.row .uq 47 5 (eS.map aH.c)]⟩)(hm1:aC.conds.length<=maxLen):∀(rest:af) (i1:Nat) (cX:af),aC.conds.drop i1=rest->nP aC k1 rest i1 cX=some r->Ar Γ N f195 (.q [[none,none,some (47,5),some (167,3)]] (D.agg [D.str r.name,D.int .i64 r.prio,D.fr 47 5 (r.conds.map aH.c),D.fr 167 3 (r.cO.map Action.c)])) [1,1,0,1,0] (rest.length+1) (zS aC (cX.map aH.c) (i1:Int)):=by
 intro rest
 induction rest with
 |nil=>
  intro i1 cX bA h;rw[nP]at h;refine aR fun N1 cW cL=>?_
  exact((aU.ge aH.c bA).a [.hl 0 [1,2,3] [0,1,2,3]]).ex hΓ cW (eR cX h)
 |cons bh cV ih1=>
  intro i1 cX bA h;rw[nP]at h;refine aR fun N1 cW cL=>?_
  obtain⟨FB,h46,h⟩:=aB h;obtain⟨h47,h⟩:=bQ h;exact((((((aU.lt aH.c bA).a [.n2 [0,1,2,3,4,5,6,7,8,9,10,11] [0,1,2,3,4,5,6,7,8,9,10,11] 8 9 [0,1] [4]]).l (bI aH.c 5 (dc bA) rfl)).g (q9 h46)).w (br h47)).a [.cn [1,2,3,4] [0,1,2,6]]).cs hΓ cL (zS aC ((cX.map aH.c)++([[D.int .i64 FB.kind,D.str FB.pat.rel,D.sl (FB.pat.args.map tx),D.str FB.left,D.str FB.right]])) (IntKind.i64.wrap ((i1:Int)+1))) (by first| (simp only[iS bA hm1,mA]<;>rfl)| (simp only[iS bA hm1,mA,aG.c,aQ.c,aH.c,Action.c,aJ.c,aX.c,dU.c,ai.c,Node.c,aN.c,dW.c]<;>rfl)) (ih1 (i1+1) (cX++([FB])) (dn bA) h)
def zT(aC:aJ)(eS:af)(W0:List aL)(dQ:Int):St:=⟨[(1,D.ptr 0 0),(2,D.ptr 1 0),(3,D.ptr 2 0),(5,D.int .i64 dQ)],[Ob.box (aJ.c aC),Ob.box [D.str ([]),D.int .i64 0,D.nil,D.nil],Ob.box [D.str aC.name,D.int .i64 aC.prio,D.acc 3,D.acc 4],Ob.row .uq 47 5 (eS.map aH.c),Ob.row .uq 167 3 W0]⟩
theorem G5(hΓ:Γ.nt=56){aC:aJ}{eS:af}{r:aJ}{k2:dN->Option aJ}(Ak:∀(tM:dN),k2 tM=some r->Ax Γ N f195 (.q [[none,none,some (47,5),some (167,3)]] (D.agg [D.str r.name,D.int .i64 r.prio,D.fr 47 5 (r.conds.map aH.c),D.fr 167 3 (r.cO.map Action.c)])) [1,1,1,1] ⟨[(2,D.ptr 0 0),(3,D.ptr 1 0)],[Ob.box [D.str ([]),D.int .i64 0,D.nil,D.nil],Ob.box [D.str aC.name,D.int .i64 aC.prio,D.acc 2,D.acc 3],Ob.row .uq 47 5 (eS.map aH.c),Ob.row .uq 167 3 (tM.map Action.c)]⟩)(hm2:aC.cO.length<=maxLen):∀(rest:dN) (i2:Nat) (j6:dN),aC.cO.drop i2=rest->lW aC eS k2 rest i2 j6=some r->Ar Γ N f195 (.q [[none,none,some (47,5),some (167,3)]] (D.agg [D.str r.name,D.int .i64 r.prio,D.fr 47 5 (r.conds.map aH.c),D.fr 167 3 (r.cO.map Action.c)])) [1,1,1,0,1,0] (rest.length+1) (zT aC eS (j6.map Action.c) (i2:Int)):=by
 intro rest
 induction rest with
 |nil=>
  intro i2 j6 hd2 h;rw[lW]at h;refine aR fun N2 um sL=>?_
  exact((aU.ge Action.c hd2).a [.hl 0 [2,3] [1,2,3,4]]).ex hΓ um (Ak j6 h)
 |cons jM uO ih2=>
  intro i2 j6 hd2 h;rw[lW]at h;refine aR fun N2 um sL=>?_
  obtain⟨XT,h93,h⟩:=aB h;obtain⟨h94,h⟩:=bQ h;exact(((((((aU.lt Action.c hd2).a [.n2 [0,1,2,3,4,5,6,7,8,9,10,11,12,13,14,15,16,17,18,19] [0,1,2,3,4,5,6,7,8,9,10,11,12,13,14,15,16,17,18,19] 16 17 [0,1] [5]]).l (bI Action.c 3 (dc hd2) rfl)).l (bI Action.c 3 (dc hd2) rfl)).g (yA h93)).w (br h94)).a [.cn [1,2,3,5] [0,1,2,3,7]]).cs hΓ sL (zT aC eS ((j6.map Action.c)++([[D.int .i64 jM.kind,D.str XT.rel,D.sl (XT.args.map tx)]])) (IntKind.i64.wrap ((i2:Int)+1))) (by first| (simp only[iS hd2 hm2,mA]<;>rfl)| (simp only[iS hd2 hm2,mA,aG.c,aQ.c,aH.c,Action.c,aJ.c,aX.c,dU.c,ai.c,Node.c,aN.c,dW.c]<;>rfl)) (ih2 (i2+1) (j6++([(⟨jM.kind,XT⟩:Action)])) (dn hd2) h)
theorem Ek{aC:aJ}{r:aJ}(h:qk aC=some r):Good prog 195 [D.agg (aJ.c aC)] (D.agg [D.str r.name,D.int .i64 r.prio,D.fr 47 5 (r.conds.map aH.c),D.fr 167 3 (r.cO.map Action.c)]):=by
 refine gd func195 [[none,none,some (47,5),some (167,3)]] 56 fun hr Γ hΓ=>?_
 rw[qk]at h;refine(aU.a [.pb 2 2 47 5,.cn [1,2,3,4] [0,1,2,3]]).lp hΓ (G4 hΓ (fun eS h=>?_) (by have:=(j0.sl (j0.agg (hr _ (aD (i:=0) rfl)) (.sl (aC.conds.map aH.c)) (by simp))).1;simpa using this) aC.conds 0 ([]:af) rfl h);refine(aU.a [.pb 2 3 167 3,.cn [1,2,3,5] [0,1,2,3,4]]).lp hΓ (G5 hΓ (fun tM h=>?_) (by have:=(j0.sl (j0.agg (hr _ (aD (i:=0) rfl)) (.sl (aC.cO.map Action.c)) (by simp))).1;simpa using this) aC.cO 0 ([]:dN) rfl h);cases h;exact aU.ret hΓ
def lV(aC:au)(k1:au->Option au):au->Nat->au->Option au
 | [],i1,bO=>(k1 bO)
 |bh::cV,i1,bO=>((qk bh).bind fun nR=>(bif room ((bO.map aJ.c).length+([[D.str nR.name,D.int .i64 nR.prio,D.sl (nR.conds.map aH.c),D.sl (nR.cO.map Action.c)]]).length) 72 then(lV aC k1 cV (i1+1) (bO++([nR])))else none))
def qW(aC:au):Option au:=(lV aC (fun(cA:au)=>(some cA)) aC 0 ([]:au))
def xU(aC:au)(W0:List aL)(dQ:Int):St:=⟨[(0,D.sl (aC.map aJ.c)),(3,D.acc 0),(4,D.int .i64 dQ)],[Ob.row .uq 80 4 W0]⟩
theorem Dj(hΓ:Γ.nt=21){aC:au}{r:au}{k1:au->Option au}(eR:∀(cA:au),k1 cA=some r->Ax Γ N f132 (.q [[some (80,4)]] (D.fr 80 4 (r.map aJ.c))) [1,1,1] ⟨[(3,D.acc 0)],[Ob.row .uq 80 4 (cA.map aJ.c)]⟩)(hm1:aC.length<=maxLen):∀(rest:au) (i1:Nat) (bO:au),aC.drop i1=rest->lV aC k1 rest i1 bO=some r->Ar Γ N f132 (.q [[some (80,4)]] (D.fr 80 4 (r.map aJ.c))) [1,1,0,1,0] (rest.length+1) (xU aC (bO.map aJ.c) (i1:Int)):=by
 intro rest
 induction rest with
 |nil=>
  intro i1 bO bA h;rw[lV]at h;refine aR fun N1 cW cL=>?_
  exact((aU.ge aJ.c bA).a [.hl 0 [3] [0]]).ex hΓ cW (eR bO h)
 |cons bh cV ih1=>
  intro i1 bO bA h;rw[lV]at h;refine aR fun N1 cW cL=>?_
  obtain⟨nR,h28,h⟩:=aB h;obtain⟨h29,h⟩:=bQ h;exact(((((aU.lt aJ.c bA).l (bI aJ.c 4 (dc bA) rfl)).g (Ek h28)).w (br h29)).a [.cn [0,3,4] [4]]).cs hΓ cL (xU aC ((bO.map aJ.c)++([[D.str nR.name,D.int .i64 nR.prio,D.sl (nR.conds.map aH.c),D.sl (nR.cO.map Action.c)]])) (IntKind.i64.wrap ((i1:Int)+1))) (by first| (simp only[iS bA hm1,mA]<;>rfl)| (simp only[iS bA hm1,mA,aG.c,aQ.c,aH.c,Action.c,aJ.c,aX.c,dU.c,ai.c,Node.c,aN.c,dW.c]<;>rfl)) (ih1 (i1+1) (bO++([nR])) (dn bA) h)
theorem CG{aC:au}{r:au}(h:qW aC=some r):Good prog 132 [D.sl (aC.map aJ.c)] (D.fr 80 4 (r.map aJ.c)):=by
 refine gd func132 [[some (80,4)]] 21 fun hr Γ hΓ=>?_
 rw[qW]at h;refine(aU.a [.cn [0,3,4] [0]]).lp hΓ (Dj hΓ (fun cA h=>?_) (by have:=(j0.sl (hr _ (aD (i:=0) rfl))).1;simpa using this) aC 0 ([]:au) rfl h);have h:=aK h;subst h;exact aU.ret hΓ
def lZ(aC:aP)(aa:Bytes)(k1:Option aP):aP->Nat->Option aP
 | [],i1=>(k1)
 |bh::cV,i1=>(bif (bh.var:Bytes)==aa then(some aC)else(lZ aC aa k1 cV (i1+1)))
def nF(aC:aP)(aa:Bytes):Option aP:=((gB aa).bind fun y1=>(bif !(y1)then(some aC)else(lZ aC aa ((lP (IntKind.i64.wrap (((aC.map aQ.c).length:Int)+1))).bind fun KR=>(bif decide (([63]:Bytes).length+(KR:Bytes).length<=maxLen)then(bif room ((aC.map aQ.c).length+([[D.str aa,D.str (([63])++KR)]]).length) 32 then(some (aC++([(⟨aa,([63])++KR⟩:aQ)])))else none)else none)) aC 0)))
def HR(aC:aP)(aa:Bytes)(dQ:Int):St:=⟨[(0,D.acc 0),(1,D.str aa),(5,D.int .i64 dQ)],[Ob.row .uq 137 2 (aC.map aQ.c)]⟩
theorem GD(hΓ:Γ.nt=34){aC:aP}{aa:Bytes}{r:aP}{k1:Option aP}(eR:k1=some r->Ax Γ N f128 (.q [[some (137,2)]] (D.fr 137 2 (r.map aQ.c))) [1,1,1] ⟨[(0,D.acc 0),(1,D.str aa)],[Ob.row .uq 137 2 (aC.map aQ.c)]⟩)(hm1:aC.length<=maxLen):∀(rest:aP) (i1:Nat),aC.drop i1=rest->lZ aC aa k1 rest i1=some r->Ar Γ N f128 (.q [[some (137,2)]] (D.fr 137 2 (r.map aQ.c))) [1,1,0,1,0] (rest.length+1) (HR aC aa (i1:Int)):=by
 intro rest
 induction rest with
 |nil=>
  intro i1 bA h;rw[lZ]at h;refine aR fun N1 cW cL=>?_
  exact((aU.ge aQ.c bA).a [.hl 0 [0,1] [0]]).ex hΓ cW (eR h)
 |cons bh cV ih1=>
  intro i1 bA h;rw[lZ]at h;refine aR fun N1 cW cL=>?_
  have oa:=(((aU.lt aQ.c bA).i (mS aQ.c 2 (dc bA))).o 2 1 .uq (cH aQ.c (dc bA)))
  obtain⟨h17,h⟩|⟨h17,h⟩:=aM h
  ·have h:=aK h;subst h;exact(oa.b h17).ret hΓ
  ·exact((oa.b h17).a [.cn [0,1,5] [0]]).ct hΓ cL (iS bA hm1) (ih1 (i1+1) (dn bA) h)
theorem qA{aC:aP}{aa:Bytes}{r:aP}(h:nF aC aa=some r):Dz prog 128 [D.acc 0,D.str aa] 137 2 (aC.map aQ.c) (r.map aQ.c):=by
 refine Dz.of (c:=vh f128) func128 rfl (by decide) (by simp[f128]) (za (c:=aQ.c) (fun _=>rfl) r) ?_;intro yB Γ hΓ;have hΓ:Γ.nt=34:=hΓ;rw[nF]at h;refine(show AW prog Γ (vh f128) (KQ prog Γ (fun _ _=>False) ((Kd.q [[some (137,2)]] (D.fr 137 2 (r.map aQ.c))).qq prog f128) []) _ from ?_);obtain⟨y1,h2,h⟩:=aB h;obtain⟨h3,h⟩|⟨h3,h⟩:=aM h
 ·have h:=aK h;subst h;exact((aU.g (ew h2)).b h3).ret hΓ
 ·refine(((aU.g (ew h2)).b h3).a [.cn [0,1,5] [0]]).lp hΓ (GD hΓ (fun h=>?_) (by simpa using yB) aC 0 rfl h);obtain⟨KR,h19,h⟩:=aB h;obtain⟨h20,h⟩:=bQ h;obtain⟨h21,h⟩:=bQ h;cases h;exact(((aU.g (nh h19)).w (ay h20)).w (br h21)).rts hΓ (D.fr 137 2 ((aC.map aQ.c)++([[D.str aa,D.str (([63])++KR)]]))) (by first|rfl| (simp only[mA]<;>rfl)| (simp only[cC,mA]<;>rfl))
def gm(aC:aJ)(i1:Nat)(bh:aH)(k2:aP->Option aP):aF->Nat->aP->Option aP
 | [],i2,j5=>(k2 j5)
 |jM::uO,i2,j5=>((nF j5 jM).bind fun yw=>(gm aC i1 bh k2 uO (i2+1) yw))
def gl(aC:aJ)(k1:aP->Option aP):af->Nat->aP->Option aP
 | [],i1,bZ=>(k1 bZ)
 |bh::cV,i1,bZ=>(bif decide (bh.pat.args.length<=maxLen)then(gm aC i1 bh (fun(uM:aP)=>((nF uM bh.left).bind fun uy=>((nF uy bh.right).bind fun VB=>(gl aC k1 cV (i1+1) VB)))) bh.pat.args 0 bZ)else none)
def oJ(aC:aJ):Option aP:=(gl aC (fun(cA:aP)=>(some cA)) aC.conds 0 ([]:aP))
def CA(aC:aJ)(W0:List aL)(dQ:Int):St:=⟨[(1,D.ptr 0 0),(3,D.acc 1),(4,D.int .i64 dQ)],[Ob.box (aJ.c aC),Ob.row .uq 137 2 W0]⟩
def CB(aC:aJ)(i1:Nat)(W0:List aL)(dQ:Int):St:=⟨[(1,D.ptr 0 0),(3,D.acc 1),(4,D.int .i64 (i1:Int)),(5,D.int .i64 dQ)],[Ob.box (aJ.c aC),Ob.row .uq 137 2 W0]⟩
theorem BK(hΓ:Γ.nt=55){aC:aJ}{i1:Nat}{bh:aH}{r:aP}{k2:aP->Option aP}(Ak:∀(uM:aP),k2 uM=some r->Ax Γ N f69 (.q [[some (137,2)]] (D.fr 137 2 (r.map aQ.c))) [1,1,0,1,0,0,1,0,0,1] ⟨[(1,D.ptr 0 0),(3,D.acc 1),(4,D.int .i64 (i1:Int))],[Ob.box (aJ.c aC),Ob.row .uq 137 2 (uM.map aQ.c)]⟩)(hx1:(aC.conds)[i1]?=some bh)(hm2:bh.pat.args.length<=maxLen):∀(rest:aF) (i2:Nat) (j5:aP),bh.pat.args.drop i2=rest->gm aC i1 bh k2 rest i2 j5=some r->Ar Γ N f69 (.q [[some (137,2)]] (D.fr 137 2 (r.map aQ.c))) [1,1,0,1,0,0,1,0,0,0,1,0] (rest.length+1) (CB aC i1 (j5.map aQ.c) (i2:Int)):=by
 intro rest
 induction rest with
 |nil=>
  intro i2 j5 hd2 h;rw[gm]at h;refine aR fun N2 um sL=>?_
  exact(((aU.l (bI aH.c 5 hx1 rfl)).ge tx hd2).a [.hl 5 [1,3,4] [0,1]]).ex hΓ um (Ak j5 h)
 |cons jM uO ih2=>
  intro i2 j5 hd2 h;rw[gm]at h;refine aR fun N2 um sL=>?_
  obtain⟨yw,h207,h⟩:=aB h;exact(((((((aU.l (bI aH.c 5 hx1 rfl)).lt tx hd2).l (bI aH.c 5 hx1 rfl)).l (bI tx 1 (dc hd2) rfl)).w (show(j5.map aQ.c).flatten.all D.flat=true from by simpa only[b8,bC,bf]using za (c:=aQ.c) (fun _=>rfl) j5)).w (show Dz prog 128 [D.acc 0,D.str jM] 137 2 (j5.map aQ.c) (yw.map aQ.c)from by simpa only[b8,bC,bf]using qA h207)).a [.ov 1 (yw.map aQ.c),.cn [1,3,4,5] [0,2]]).ct hΓ sL (iS hd2 hm2) (ih2 (i2+1) yw (dn hd2) h)
theorem BJ(hΓ:Γ.nt=55){aC:aJ}{r:aP}{k1:aP->Option aP}(eR:∀(cA:aP),k1 cA=some r->Ax Γ N f69 (.q [[some (137,2)]] (D.fr 137 2 (r.map aQ.c))) [1,1,1] ⟨[(3,D.acc 0)],[Ob.row .uq 137 2 (cA.map aQ.c)]⟩)(hm1:aC.conds.length<=maxLen):∀(rest:af) (i1:Nat) (bZ:aP),aC.conds.drop i1=rest->gl aC k1 rest i1 bZ=some r->Ar Γ N f69 (.q [[some (137,2)]] (D.fr 137 2 (r.map aQ.c))) [1,1,0,1,0] (rest.length+1) (CA aC (bZ.map aQ.c) (i1:Int)):=by
 intro rest
 induction rest with
 |nil=>
  intro i1 bZ bA h;rw[gl]at h;refine aR fun N1 cW cL=>?_
  exact((aU.ge aH.c bA).a [.hl 0 [3] [1]]).ex hΓ cW (eR bZ h)
 |cons bh cV ih1=>
  intro i1 bZ bA h;rw[gl]at h;refine aR fun N1 cW cL=>?_
  obtain⟨h212,h⟩:=bQ h;refine((aU.lt aH.c bA).a [.cn [1,3,4,5] [0,1]]).lp hΓ (BK hΓ (fun uM h=>?_) ((drop_cons bA).1) (ay h212) bh.pat.args 0 bZ rfl h);obtain⟨uy,h209,h⟩:=aB h;obtain⟨VB,h211,h⟩:=aB h;exact((((((((aU.l (bI aH.c 5 (dc bA) rfl)).w (show(uM.map aQ.c).flatten.all D.flat=true from by simpa only[b8,bC,bf]using za (c:=aQ.c) (fun _=>rfl) uM)).w (show Dz prog 128 [D.acc 0,D.str bh.left] 137 2 (uM.map aQ.c) (uy.map aQ.c)from by simpa only[b8,bC,bf]using qA h209)).a [.ov 1 (uy.map aQ.c)]).l (bI aH.c 5 (dc bA) rfl)).w (show(uy.map aQ.c).flatten.all D.flat=true from by simpa only[b8,bC,bf]using za (c:=aQ.c) (fun _=>rfl) uy)).w (show Dz prog 128 [D.acc 0,D.str bh.right] 137 2 (uy.map aQ.c) (VB.map aQ.c)from by simpa only[b8,bC,bf]using qA h211)).a [.ov 2 (VB.map aQ.c),.cn [1,3,4] [0,3]]).ct hΓ cL (iS bA hm1) (ih1 (i1+1) VB (dn bA) h)
theorem AM{aC:aJ}{r:aP}(h:oJ aC=some r):Good prog 69 [D.agg (aJ.c aC)] (D.fr 137 2 (r.map aQ.c)):=by
 refine gd func69 [[some (137,2)]] 55 fun hr Γ hΓ=>?_
 rw[oJ]at h;refine(aU.a [.cn [1,3,4] [0,1]]).lp hΓ (BJ hΓ (fun cA h=>?_) (by have:=(j0.sl (j0.agg (hr _ (aD (i:=0) rfl)) (.sl (aC.conds.map aH.c)) (by simp))).1;simpa using this) aC.conds 0 ([]:aP) rfl h);have h:=aK h;subst h;exact aU.ret hΓ
def jc(aC:aJ)(y1:aP)(k1:af->Option af):af->Nat->af->Option af
 | [],i1,bZ=>(k1 bZ)
 |bh::cV,i1,bZ=>((ic bh y1).bind fun Cn=>(bif room ((bZ.map aH.c).length+([[D.int .i64 Cn.kind,D.str Cn.pat.rel,D.sl (Cn.pat.args.map tx),D.str Cn.left,D.str Cn.right]]).length) 80 then(jc aC y1 k1 cV (i1+1) (bZ++([Cn])))else none))
def oI(aC:aJ):Option af:=((oJ aC).bind fun y1=>(jc aC y1 (fun(cA:af)=>(some cA)) aC.conds 0 ([]:af)))
def vM(aC:aJ)(y1:aP)(W0:List aL)(dQ:Int):St:=⟨[(1,D.ptr 0 0),(3,D.acc 1),(4,D.acc 2),(5,D.int .i64 dQ)],[Ob.box (aJ.c aC),Ob.row .uq 47 5 W0,Ob.row .uq 137 2 (y1.map aQ.c)]⟩
theorem BI(hΓ:Γ.nt=27){aC:aJ}{y1:aP}{r:af}{k1:af->Option af}(eR:∀(cA:af),k1 cA=some r->Ax Γ N f133 (.q [[some (47,5)]] (D.fr 47 5 (r.map aH.c))) [1,1,1,1] ⟨[(3,D.acc 0)],[Ob.row .uq 47 5 (cA.map aH.c)]⟩)(hm1:aC.conds.length<=maxLen):∀(rest:af) (i1:Nat) (bZ:af),aC.conds.drop i1=rest->jc aC y1 k1 rest i1 bZ=some r->Ar Γ N f133 (.q [[some (47,5)]] (D.fr 47 5 (r.map aH.c))) [1,1,1,0,1,0] (rest.length+1) (vM aC y1 (bZ.map aH.c) (i1:Int)):=by
 intro rest
 induction rest with
 |nil=>
  intro i1 bZ bA h;rw[jc]at h;refine aR fun N1 cW cL=>?_
  exact((aU.ge aH.c bA).a [.hl 0 [3] [1]]).ex hΓ cW (eR bZ h)
 |cons bh cV ih1=>
  intro i1 bZ bA h;rw[jc]at h;refine aR fun N1 cW cL=>?_
  obtain⟨Cn,h30,h⟩:=aB h;obtain⟨h31,h⟩:=bQ h;exact(((((aU.lt aH.c bA).l (bI aH.c 5 (dc bA) rfl)).g (iH h30)).w (br h31)).a [.cn [1,3,4,5] [0,5,2]]).cs hΓ cL (vM aC y1 ((bZ.map aH.c)++([[D.int .i64 Cn.kind,D.str Cn.pat.rel,D.sl (Cn.pat.args.map tx),D.str Cn.left,D.str Cn.right]])) (IntKind.i64.wrap ((i1:Int)+1))) (by first| (simp only[iS bA hm1,mA]<;>rfl)| (simp only[iS bA hm1,mA,aG.c,aQ.c,aH.c,Action.c,aJ.c,aX.c,dU.c,ai.c,Node.c,aN.c,dW.c]<;>rfl)) (ih1 (i1+1) (bZ++([Cn])) (dn bA) h)
theorem AL{aC:aJ}{r:af}(h:oI aC=some r):Good prog 133 [D.agg (aJ.c aC)] (D.fr 47 5 (r.map aH.c)):=by
 refine gd func133 [[some (47,5)]] 27 fun hr Γ hΓ=>?_
 rw[oI]at h;obtain⟨y1,h2,h⟩:=aB h;refine((aU.g (AM h2)).a [.cn [1,3,4,5] [0,1,2]]).lp hΓ (BI hΓ (fun cA h=>?_) (by have:=(j0.sl (j0.agg (hr _ (aD (i:=0) rfl)) (.sl (aC.conds.map aH.c)) (by simp))).1;simpa using this) aC.conds 0 ([]:af) rfl h);have h:=aK h;subst h;exact aU.ret hΓ
def iv(aC:aF)(aa:aF)(k1:Option Bool):aF->Nat->Option Bool
 | [],i1=>(k1)
 |bh::cV,i1=>((iM aa (i1:Int)).bind fun x22=>(bif !((bh:Bytes)==x22)then(some false)else(iv aC aa k1 cV (i1+1))))
def nX(aC:aF)(aa:aF):Option Bool:=(bif (((aC.map tx).length:Int):Int) != ((aa.map tx).length:Int)then(some false)else(iv aC aa (some true) aC 0))
def BM(aC:aF)(aa:aF)(dQ:Int):St:=⟨[(0,D.sl (aC.map tx)),(1,D.sl (aa.map tx)),(5,D.int .i64 dQ)],[]⟩
theorem AN(hΓ:Γ.nt=26){aC:aF}{aa:aF}{r:Bool}{k1:Option Bool}(eR:k1=some r->Ax Γ N f113 (.q [[none]] (D.bool r)) [1,1,1] ⟨[],[]⟩)(hm1:aC.length<=maxLen):∀(rest:aF) (i1:Nat),aC.drop i1=rest->iv aC aa k1 rest i1=some r->Ar Γ N f113 (.q [[none]] (D.bool r)) [1,1,0,1,0] (rest.length+1) (BM aC aa (i1:Int)):=by
 intro rest
 induction rest with
 |nil=>
  intro i1 bA h;rw[iv]at h;refine aR fun N1 cW cL=>?_
  exact((aU.ge tx bA).a [.hl 0 [] []]).ex hΓ cW (eR h)
 |cons bh cV ih1=>
  intro i1 bA h;rw[iv]at h;refine aR fun N1 cW cL=>?_
  obtain⟨x22,h23,h⟩:=aB h;have ig:=((((aU.lt tx bA).a [.n 8]).l (bI tx 1 (dc bA) rfl)).l (iN tx 1 h23 rfl))
  obtain⟨h24,h⟩|⟨h24,h⟩:=aM h
  ·have h:=aK h;subst h;exact(ig.b h24).ret hΓ
  ·exact((ig.b h24).a [.cn [0,1,5] []]).ct hΓ cL (iS bA hm1) (ih1 (i1+1) (dn bA) h)
theorem zP{aC:aF}{aa:aF}{r:Bool}(h:nX aC aa=some r):Good prog 113 [D.sl (aC.map tx),D.sl (aa.map tx)] (D.bool r):=by
 refine gd func113 [[none]] 26 fun hr Γ hΓ=>?_
 rw[nX]at h;obtain⟨h1,h⟩|⟨h1,h⟩:=aM h
 ·have h:=aK h;subst h;exact(aU.b h1).ret hΓ
 ·refine((aU.b h1).a [.cn [0,1,5] []]).lp hΓ (AN hΓ (fun h=>?_) (by have:=(j0.sl (hr _ (aD (i:=0) rfl))).1;simpa using this) aC 0 rfl h);have h:=aK h;subst h;exact aU.ret hΓ
def lT(aC:aG)(aa:aG):Option Bool:=(bif (aC.rel:Bytes)==aa.rel then((nX aC.args aa.args).bind fun y2=>(some y2))else(some false))
theorem tW{aC:aG}{aa:aG}{r:Bool}(h:lT aC aa=some r):Good prog 60 [D.agg (aG.c aC),D.agg (aG.c aa)] (D.bool r):=by
 refine gd func60 [[none]] 17 fun hr Γ hΓ=>?_
 rw[lT]at h;obtain⟨h1,h⟩|⟨h1,h⟩:=aM h
 ·obtain⟨y2,h3,h⟩:=aB h;have h:=aK h;subst h;exact(((aU.r 5 h1).g (zP h3)).b h1).ret hΓ
 ·have h:=aK h;subst h;exact(aU.r 6 h1).ret hΓ
def nv(aC:aH)(aa:aH):Option Bool:=(bif (aC.kind:Int)==aa.kind then((lT aC.pat aa.pat).bind fun y2=>(bif y2 then(bif (aC.left:Bytes)==aa.left then(some ((aC.right:Bytes)==aa.right))else(some false))else(some false)))else(some false))
theorem vO{aC:aH}{aa:aH}{r:Bool}(h:nv aC aa=some r):Good prog 18 [D.agg (aH.c aC),D.agg (aH.c aa)] (D.bool r):=by
 refine gd func18 [[none]] 31 fun hr Γ hΓ=>?_
 rw[nv]at h;obtain⟨h1,h⟩|⟨h1,h⟩:=aM h
 ·obtain⟨y2,h3,h⟩:=aB h;have oa:=(((aU.r 5 h1).g (tW h3)).b h1)
  obtain⟨h4,h⟩|⟨h4,h⟩:=aM h
  ·have ig:=(oa.r 6 h4)
   obtain⟨h5,h⟩|⟨h5,h⟩:=aM h
   ·cases h;exact(ig.r 6 h5).ret hΓ
   ·have h:=aK h;subst h;exact(ig.r 6 h5).ret hΓ
  ·have h:=aK h;subst h;exact((oa.r 6 h4).F 6).ret hΓ
 ·have h:=aK h;subst h;exact((aU.r 6 h1).F 12).ret hΓ
def kE(aC:aG)(k1:aP->Option aG):aF->Nat->aP->Option aG
 | [],i1,kL=>(k1 kL)
 |bh::cV,i1,kL=>((nF kL bh).bind fun pP=>(kE aC k1 cV (i1+1) pP))
def pL(aC:aG):Option aG:=(kE aC (fun(n7:aP)=>((ic (⟨0,aC,[],[]⟩:aH) n7).bind fun KS=>(some KS.pat))) aC.args 0 ([]:aP))
def Fv(aC:aG)(W0:List aL)(dQ:Int):St:=⟨[(1,D.ptr 0 0),(2,D.ptr 1 0),(3,D.acc 2),(4,D.int .i64 dQ)],[Ob.box (aG.c aC),Ob.box [D.str ([]),D.nil],Ob.row .uq 137 2 W0]⟩
theorem Ee(hΓ:Γ.nt=25){aC:aG}{r:aG}{k1:aP->Option aG}(eR:∀(n7:aP),k1 n7=some r->Ax Γ N f198 (.q [[none,some (9,1)]] (D.agg [D.str r.rel,D.fr 9 1 (r.args.map tx)])) [1,1,1] ⟨[(1,D.ptr 0 0),(2,D.ptr 1 0),(3,D.acc 2)],[Ob.box (aG.c aC),Ob.box [D.str ([]),D.nil],Ob.row .uq 137 2 (n7.map aQ.c)]⟩)(hm1:aC.args.length<=maxLen):∀(rest:aF) (i1:Nat) (kL:aP),aC.args.drop i1=rest->kE aC k1 rest i1 kL=some r->Ar Γ N f198 (.q [[none,some (9,1)]] (D.agg [D.str r.rel,D.fr 9 1 (r.args.map tx)])) [1,1,0,1,0] (rest.length+1) (Fv aC (kL.map aQ.c) (i1:Int)):=by
 intro rest
 induction rest with
 |nil=>
  intro i1 kL bA h;rw[kE]at h;refine aR fun N1 cW cL=>?_
  exact((aU.ge tx bA).a [.hl 0 [1,2,3] [0,1,2]]).ex hΓ cW (eR kL h)
 |cons bh cV ih1=>
  intro i1 kL bA h;rw[kE]at h;refine aR fun N1 cW cL=>?_
  obtain⟨pP,h23,h⟩:=aB h;exact(((((aU.lt tx bA).l (bI tx 1 (dc bA) rfl)).w (show(kL.map aQ.c).flatten.all D.flat=true from by simpa only[b8,bC,bf]using za (c:=aQ.c) (fun _=>rfl) kL)).w (show Dz prog 128 [D.acc 0,D.str bh] 137 2 (kL.map aQ.c) (pP.map aQ.c)from by simpa only[b8,bC,bf]using qA h23)).a [.ov 2 (pP.map aQ.c),.cn [1,2,3,4] [0,1,3]]).ct hΓ cL (iS bA hm1) (ih1 (i1+1) pP (dn bA) h)
theorem wH{aC:aG}{r:aG}(h:pL aC=some r):Good prog 198 [D.agg (aG.c aC)] (D.agg [D.str r.rel,D.fr 9 1 (r.args.map tx)]):=by
 refine gd func198 [[none,some (9,1)]] 25 fun hr Γ hΓ=>?_
 rw[pL]at h;refine(aU.a [.cn [1,2,3,4] [0,1,2]]).lp hΓ (Ee hΓ (fun n7 h=>?_) (by have:=(j0.sl (j0.agg (hr _ (aD (i:=0) rfl)) (.sl (aC.args.map tx)) (by simp))).1;simpa using this) aC.args 0 ([]:aP) rfl h);obtain⟨KS,h25,h⟩:=aB h;cases h;exact((aU.a [.d (D.agg [D.int .i64 KS.kind,D.str KS.pat.rel,D.fr 9 1 (KS.pat.args.map tx),D.str KS.left,D.str KS.right])]).w (show Good prog 196 [D.agg [D.int .i64 0,D.str aC.rel,D.sl (aC.args.map tx),D.str ([]),D.str ([])],D.sl (n7.map aQ.c)] (D.agg [D.int .i64 KS.kind,D.str KS.pat.rel,D.fr 9 1 (KS.pat.args.map tx),D.str KS.left,D.str KS.right])from by first| (simpa only[b8,bC,bf,bX,bY]using iH h25)|exact iH h25| (have t:=iH h25;simp only[b8,bX,bY,aH.c]at t;exact t))).ret hΓ
def kI(aC:aN)(aa:aG)(k1:Option (aN×Int)):bS->Nat->Option (aN×Int)
 | [],i1=>(k1)
 |bh::cV,i1=>((lT bh.shape aa).bind fun pP=>(bif pP then(some (aC,(i1:Int)))else(kI aC aa k1 cV (i1+1))))
def pN(aC:aN)(aa:aG):Option (aN×Int):=(bif decide (aC.bM.length<=maxLen)then(kI aC aa (bif room ((aC.bM.map ai.c).length+([[D.str aa.rel,D.sl (aa.args.map tx),D.sl ([])]]).length) 64 then(some ((⟨aC.rules,aC.ends,aC.bM++([(⟨aa,[]⟩:ai)]),aC.nodes,aC.facts,aC.cS⟩:aN),IntKind.i64.wrap ((((aC.bM.map ai.c)++([[D.str aa.rel,D.sl (aa.args.map tx),D.sl ([])]])).length:Int)-1)))else none) aC.bM 0)else none)
def G9(jr:Value)(aC:aN)(aa:aG)(dQ:Int):St:=⟨[(0,D.ptr 0 0),(3,D.ptr 1 0),(5,D.int .i64 dQ)],[Ob.BQ [D.acc 2,D.acc 3,D.acc 4,D.acc 5,D.acc 6,D.int .i64 aC.cS] jr,Ob.box [D.str aa.rel,D.acc 7],Ob.row .uq 80 4 (aC.rules.map aJ.c),Ob.row .uq 3 1 (aC.ends.map mR),Ob.row .uq 93 3 (aC.bM.map ai.c),Ob.row .uq 50 8 (aC.nodes.map Node.c),Ob.row .uq 37 2 (aC.facts.map aG.c),Ob.row .uq 9 1 (aa.args.map tx)]⟩
theorem Er(hΓ:Γ.nt=43){jr:Value}{aC:aN}{aa:aG}{r:aN×Int}{k1:Option (aN×Int)}(eR:k1=some r->Ax Γ N f197 (.p [[some (80,4),some (3,1),some (93,3),some (50,8),some (37,2),none],[none]] jr (cC r.1) (D.int .i64 r.2)) [1,1] ⟨[(0,D.ptr 0 0),(3,D.ptr 1 0)],[Ob.BQ [D.acc 2,D.acc 3,D.acc 4,D.acc 5,D.acc 6,D.int .i64 aC.cS] jr,Ob.box [D.str aa.rel,D.acc 7],Ob.row .uq 80 4 (aC.rules.map aJ.c),Ob.row .uq 3 1 (aC.ends.map mR),Ob.row .uq 93 3 (aC.bM.map ai.c),Ob.row .uq 50 8 (aC.nodes.map Node.c),Ob.row .uq 37 2 (aC.facts.map aG.c),Ob.row .uq 9 1 (aa.args.map tx)]⟩)(hm1:aC.bM.length<=maxLen):∀(rest:bS) (i1:Nat),aC.bM.drop i1=rest->kI aC aa k1 rest i1=some r->Ar Γ N f197 (.p [[some (80,4),some (3,1),some (93,3),some (50,8),some (37,2),none],[none]] jr (cC r.1) (D.int .i64 r.2)) [1,0,1,0] (rest.length+1) (G9 jr aC aa (i1:Int)):=by
 intro rest
 induction rest with
 |nil=>
  intro i1 bA h;rw[kI]at h;refine aR fun N1 cW cL=>?_
  exact((aU.ge ai.c bA).a [.hl 0 [0,3] [0,1,2,3,4,5,6,7]]).ex hΓ cW (eR h)
 |cons bh cV ih1=>
  intro i1 bA h;rw[kI]at h;refine aR fun N1 cW cL=>?_
  obtain⟨pP,h23,h⟩:=aB h;have ig:=(((((aU.lt ai.c bA).a [.n 9]).i (mS ai.c 3 (dc bA))).o 3 2 .uq (cH ai.c (dc bA))).g (tW h23))
  obtain⟨h24,h⟩|⟨h24,h⟩:=aM h
  ·cases h;exact(ig.b h24).ret hΓ
  ·exact((ig.b h24).a [.cn [0,3,5] [0,1,2,3,4,5,6,7]]).ct hΓ cL (iS bA hm1) (ih1 (i1+1) (dn bA) h)
theorem wK{aC:aN}{aa:aG}{r:aN×Int}(h:pN aC aa=some r):jP prog 197 (cC aC) (cC r.1) [D.agg [D.str aa.rel,D.fr 9 1 (aa.args.map tx)]] (D.int .i64 r.2):=by
 refine J9 func197 [[some (80,4),some (3,1),some (93,3),some (50,8),some (37,2),none],[none]] 43 [D.acc 1,D.acc 2,D.acc 3,D.acc 4,D.acc 5,D.int .i64 aC.cS] [D.agg [D.str aa.rel,D.acc 6]] [Ob.row .uq 80 4 (aC.rules.map aJ.c),Ob.row .uq 3 1 (aC.ends.map mR),Ob.row .uq 93 3 (aC.bM.map ai.c),Ob.row .uq 50 8 (aC.nodes.map Node.c),Ob.row .uq 37 2 (aC.facts.map aG.c),Ob.row .uq 9 1 (aa.args.map tx)] fun hr jr Γ hΓ=>?_
 rw[pN]at h;obtain⟨h27,h⟩:=bQ h;refine(aU.a [.cn [0,3,5] [0,7,1,2,3,4,5,6]]).lp hΓ (Er hΓ (fun h=>?_) (ay h27) aC.bM 0 rfl h);obtain⟨h26,h⟩:=bQ h;cases h;exact((aU.w (br h26)).a [.n2 [0,1,2,3,4,5,6,7,8,9,10,11] [0,1,2,3,4,5,6,7,8,9,10,11] 7 9 [0,1,2,3,4] [4,7,8]]).rts hΓ (D.iK [D.int .i64 (IntKind.i64.wrap ((((aC.bM.map ai.c)++([[D.str aa.rel,D.sl (aa.args.map tx),D.sl ([])]])).length:Int)-1)),D.agg [D.fr 80 4 (aC.rules.map aJ.c),D.fr 3 1 (aC.ends.map mR),D.fr 93 3 ((aC.bM.map ai.c)++([[D.str aa.rel,D.sl (aa.args.map tx),D.sl ([])]])),D.fr 50 8 (aC.nodes.map Node.c),D.fr 37 2 (aC.facts.map aG.c),D.int .i64 aC.cS],D.val jr]) (by first|rfl| (simp only[mA]<;>rfl)| (simp only[cC,mA]<;>rfl))
def fZ(aC:aN)(aa:Int)(cN:aH)(k1:Option (aN×Int)):Nat->Int->Option (aN×Int)
 |0,_=>none
 |n1+1,ru=>(bif decide ((ru:Int)<((aC.nodes.map Node.c).length:Int))then((iM aC.nodes ru).bind fun x16=>(bif (x16.parent:Int)==aa then((nv x16.cond cN).bind fun Nz=>(bif Nz then(some (aC,ru))else(fZ aC aa cN k1 n1 (IntKind.i64.wrap (ru+1)))))else(fZ aC aa cN k1 n1 (IntKind.i64.wrap (ru+1)))))else(k1))
def rP(aC:aN)(aa:Int)(cN:aH):Option (aN×Int):=(fZ aC aa cN ((nE cN).bind fun pP=>(bif (cN.kind:Int)==1 then((pL cN.pat).bind fun tA=>((pN aC tA).bind fun nR=>(bif room ((nR.1.nodes.map Node.c).length+([[D.int .i64 aa,D.int .i64 pP.kind,D.str pP.pat.rel,D.sl (pP.pat.args.map tx),D.str pP.left,D.str pP.right,D.int .i64 nR.2,D.sl ([])]]).length) 120 then(some ((⟨nR.1.rules,nR.1.ends,nR.1.bM,nR.1.nodes++([(⟨aa,pP,nR.2,[]⟩:Node)]),nR.1.facts,nR.1.cS⟩:aN),IntKind.i64.wrap ((((nR.1.nodes.map Node.c)++([[D.int .i64 aa,D.int .i64 pP.kind,D.str pP.pat.rel,D.sl (pP.pat.args.map tx),D.str pP.left,D.str pP.right,D.int .i64 nR.2,D.sl ([])]])).length:Int)-1)))else none)))else(bif (cN.kind:Int)==2 then((pL cN.pat).bind fun Qp=>((pN aC Qp).bind fun Dw=>(bif room ((Dw.1.nodes.map Node.c).length+([[D.int .i64 aa,D.int .i64 pP.kind,D.str pP.pat.rel,D.sl (pP.pat.args.map tx),D.str pP.left,D.str pP.right,D.int .i64 Dw.2,D.sl ([])]]).length) 120 then(some ((⟨Dw.1.rules,Dw.1.ends,Dw.1.bM,Dw.1.nodes++([(⟨aa,pP,Dw.2,[]⟩:Node)]),Dw.1.facts,Dw.1.cS⟩:aN),IntKind.i64.wrap ((((Dw.1.nodes.map Node.c)++([[D.int .i64 aa,D.int .i64 pP.kind,D.str pP.pat.rel,D.sl (pP.pat.args.map tx),D.str pP.left,D.str pP.right,D.int .i64 Dw.2,D.sl ([])]])).length:Int)-1)))else none)))else(bif room ((aC.nodes.map Node.c).length+([[D.int .i64 aa,D.int .i64 pP.kind,D.str pP.pat.rel,D.sl (pP.pat.args.map tx),D.str pP.left,D.str pP.right,D.int .i64 (-1),D.sl ([])]]).length) 120 then(some ((⟨aC.rules,aC.ends,aC.bM,aC.nodes++([(⟨aa,pP, -1,[]⟩:Node)]),aC.facts,aC.cS⟩:aN),IntKind.i64.wrap ((((aC.nodes.map Node.c)++([[D.int .i64 aa,D.int .i64 pP.kind,D.str pP.pat.rel,D.sl (pP.pat.args.map tx),D.str pP.left,D.str pP.right,D.int .i64 (-1),D.sl ([])]])).length:Int)-1)))else none)))) fuel 1)
def GA(jr:Value)(aC:aN)(aa:Int)(cN:aH)(ru:Int):St:=⟨[(0,D.ptr 0 0),(1,D.int .i64 aa),(5,D.ptr 1 0),(7,D.int .i64 ru)],[Ob.BQ [D.acc 2,D.acc 3,D.acc 4,D.acc 5,D.acc 6,D.int .i64 aC.cS] jr,Ob.box (aH.c cN),Ob.row .uq 80 4 (aC.rules.map aJ.c),Ob.row .uq 3 1 (aC.ends.map mR),Ob.row .uq 93 3 (aC.bM.map ai.c),Ob.row .uq 50 8 (aC.nodes.map Node.c),Ob.row .uq 37 2 (aC.facts.map aG.c)]⟩
theorem Es(hΓ:Γ.nt=75){jr:Value}{aC:aN}{aa:Int}{cN:aH}{r:aN×Int}{k1:Option (aN×Int)}(eR:k1=some r->Ax Γ N f134 (.p [[some (80,4),some (3,1),some (93,3),some (50,8),some (37,2),none],[none]] jr (cC r.1) (D.int .i64 r.2)) [1,1] ⟨[(0,D.ptr 0 0),(1,D.int .i64 aa),(5,D.ptr 1 0)],[Ob.BQ [D.acc 2,D.acc 3,D.acc 4,D.acc 5,D.acc 6,D.int .i64 aC.cS] jr,Ob.box (aH.c cN),Ob.row .uq 80 4 (aC.rules.map aJ.c),Ob.row .uq 3 1 (aC.ends.map mR),Ob.row .uq 93 3 (aC.bM.map ai.c),Ob.row .uq 50 8 (aC.nodes.map Node.c),Ob.row .uq 37 2 (aC.facts.map aG.c)]⟩):∀(n1:Nat) (ru:Int),fZ aC aa cN k1 n1 ru=some r->Ar Γ N f134 (.p [[some (80,4),some (3,1),some (93,3),some (50,8),some (37,2),none],[none]] jr (cC r.1) (D.int .i64 r.2)) [1,0,1,0] n1 (GA jr aC aa cN ru):=by
 intro n
 induction n with
 |zero=>intro ru h;simp[fZ]at h
 |succ n1 ih1=>
  intro ru h;rw[fZ]at h;refine aR fun N1 cW cL=>?_
  obtain⟨h15,h⟩|⟨h15,h⟩:=aM h
  ·obtain⟨x16,h17,h⟩:=aB h;have lC:=((((aU.b h15).a [.n 20]).i (fc Node.c 8 h17)).o 8 1 .uq (cH Node.c (dR h17)))
   obtain⟨h18,h⟩|⟨h18,h⟩:=aM h
   ·obtain⟨Nz,h20,h⟩:=aB h;have kw:=(((((((lC.r 6 h18).i (fc Node.c 8 h17)).r 2 h18).o 8 6 .uq (cH Node.c (dR h17))).r 2 h18).g (vO h20)).b h18)
    obtain⟨h21,h⟩|⟨h21,h⟩:=aM h
    ·cases h;exact(kw.b h21).ret hΓ
    ·exact((kw.b h21).a [.cn [0,1,5,7] [0,1,2,3,4,5,6]]).cf hΓ cL (ih1 (IntKind.i64.wrap (ru+1)) h)
   ·exact(((lC.r 11 h18).F 1).a [.cn [0,1,5,7] [0,1,2,3,4,5,6]]).cf hΓ cL (ih1 (IntKind.i64.wrap (ru+1)) h)
  ·exact((aU.b h15).a [.hl 0 [0,1,5] [0,1,2,3,4,5,6]]).ex hΓ cW (eR h)
theorem Dn{aC:aN}{aa:Int}{cN:aH}{r:aN×Int}(h:rP aC aa cN=some r):jP prog 134 (cC aC) (cC r.1) [D.int .i64 aa,D.agg (aH.c cN)] (D.int .i64 r.2):=by
 refine J9 func134 [[some (80,4),some (3,1),some (93,3),some (50,8),some (37,2),none],[none]] 75 [D.acc 1,D.acc 2,D.acc 3,D.acc 4,D.acc 5,D.int .i64 aC.cS] [D.int .i64 aa,D.agg [D.int .i64 cN.kind,D.str cN.pat.rel,D.sl (cN.pat.args.map tx),D.str cN.left,D.str cN.right]] [Ob.row .uq 80 4 (aC.rules.map aJ.c),Ob.row .uq 3 1 (aC.ends.map mR),Ob.row .uq 93 3 (aC.bM.map ai.c),Ob.row .uq 50 8 (aC.nodes.map Node.c),Ob.row .uq 37 2 (aC.facts.map aG.c)] fun hr jr Γ hΓ=>?_
 rw[rP]at h;refine(aU.a [.cn [0,1,5,7] [0,6,1,2,3,4,5]]).lp hΓ (Es hΓ (fun h=>?_) fuel 1 h);obtain⟨pP,h23,h⟩:=aB h;obtain⟨h24,h⟩|⟨h24,h⟩:=aM h
 ·obtain⟨tA,h26,h⟩:=aB h;obtain⟨nR,h28,h⟩:=aB h;obtain⟨h30,h⟩:=bQ h;cases h;exact(((((((aU.g (q9 h23)).r 4 h24).T 1).g (wH h26)).hp [[some (80,4),some (3,1),some (93,3),some (50,8),some (37,2),none],[none,some (9,1)]] (wK h28)).w (br h30)).a [.n2 [0,1,2,3,4,5,6,7,8,9,10] [0,1,2,3,4,5,6,7,8,9,10] 6 8 [0,1,2,3,4] [7,13,15]]).rts hΓ (D.iK [D.int .i64 (IntKind.i64.wrap ((((nR.1.nodes.map Node.c)++([[D.int .i64 aa,D.int .i64 pP.kind,D.str pP.pat.rel,D.sl (pP.pat.args.map tx),D.str pP.left,D.str pP.right,D.int .i64 nR.2,D.sl ([])]])).length:Int)-1)),D.agg [D.fr 80 4 (nR.1.rules.map aJ.c),D.fr 3 1 (nR.1.ends.map mR),D.fr 93 3 (nR.1.bM.map ai.c),D.fr 50 8 ((nR.1.nodes.map Node.c)++([[D.int .i64 aa,D.int .i64 pP.kind,D.str pP.pat.rel,D.sl (pP.pat.args.map tx),D.str pP.left,D.str pP.right,D.int .i64 nR.2,D.sl ([])]])),D.fr 37 2 (nR.1.facts.map aG.c),D.int .i64 nR.1.cS],D.val jr]) (by first|rfl| (simp only[mA]<;>rfl)| (simp only[cC,mA]<;>rfl))
 ·have rR:=((aU.g (q9 h23)).r 4 h24)
  obtain⟨h31,h⟩|⟨h31,h⟩:=aM h
  ·obtain⟨Qp,h33,h⟩:=aB h;obtain⟨Dw,h35,h⟩:=aB h;obtain⟨h37,h⟩:=bQ h;cases h;exact(((((rR.b h31).g (wH h33)).hp [[some (80,4),some (3,1),some (93,3),some (50,8),some (37,2),none],[none,some (9,1)]] (wK h35)).w (br h37)).a [.n2 [0,1,2,3,4,5,6,7,8,9,10] [0,1,2,3,4,5,6,7,8,9,10] 6 8 [0,1,2,3,4] [7,13,15]]).rts hΓ (D.iK [D.int .i64 (IntKind.i64.wrap ((((Dw.1.nodes.map Node.c)++([[D.int .i64 aa,D.int .i64 pP.kind,D.str pP.pat.rel,D.sl (pP.pat.args.map tx),D.str pP.left,D.str pP.right,D.int .i64 Dw.2,D.sl ([])]])).length:Int)-1)),D.agg [D.fr 80 4 (Dw.1.rules.map aJ.c),D.fr 3 1 (Dw.1.ends.map mR),D.fr 93 3 (Dw.1.bM.map ai.c),D.fr 50 8 ((Dw.1.nodes.map Node.c)++([[D.int .i64 aa,D.int .i64 pP.kind,D.str pP.pat.rel,D.sl (pP.pat.args.map tx),D.str pP.left,D.str pP.right,D.int .i64 Dw.2,D.sl ([])]])),D.fr 37 2 (Dw.1.facts.map aG.c),D.int .i64 Dw.1.cS],D.val jr]) (by first|rfl| (simp only[mA]<;>rfl)| (simp only[cC,mA]<;>rfl))
  ·obtain⟨h39,h⟩:=bQ h;cases h;exact(((rR.b h31).w (br h39)).a [.n2 [0,1,2,3,4,5,6,7,8,9,10] [0,1,2,3,4,5,6,7,8,9,10] 6 8 [0,1,2,3,4] [5,7,9]]).rts hΓ (D.iK [D.int .i64 (IntKind.i64.wrap ((((aC.nodes.map Node.c)++([[D.int .i64 aa,D.int .i64 pP.kind,D.str pP.pat.rel,D.sl (pP.pat.args.map tx),D.str pP.left,D.str pP.right,D.int .i64 (-1),D.sl ([])]])).length:Int)-1)),D.agg [D.fr 80 4 (aC.rules.map aJ.c),D.fr 3 1 (aC.ends.map mR),D.fr 93 3 (aC.bM.map ai.c),D.fr 50 8 ((aC.nodes.map Node.c)++([[D.int .i64 aa,D.int .i64 pP.kind,D.str pP.pat.rel,D.sl (pP.pat.args.map tx),D.str pP.left,D.str pP.right,D.int .i64 (-1),D.sl ([])]])),D.fr 37 2 (aC.facts.map aG.c),D.int .i64 aC.cS],D.val jr]) (by first|rfl| (simp only[mA]<;>rfl)| (simp only[cC,mA]<;>rfl))
def fy(aC:au)(i1:Nat)(Gk:af)(k2:Int->Int->au->bJ->bS->bR->aO->Option (aN×Bool)):af->Nat->Int->Int->au->bJ->bS->bR->aO->Option (aN×Bool)
 | [],i2,oP,mZ,yq,j6,yt,ld,yu=>(k2 oP mZ yq j6 yt ld yu)
 |jM::uO,i2,oP,mZ,yq,j6,yt,ld,yu=>((rP (⟨yq,j6,yt,ld,yu,mZ⟩:aN) oP jM).bind fun Ab=>(fy aC i1 Gk k2 uO (i2+1) Ab.2 Ab.1.cS Ab.1.rules Ab.1.ends Ab.1.bM Ab.1.nodes Ab.1.facts))
def fw(aC:au)(k1:Int->au->bJ->bS->bR->aO->Option (aN×Bool)):au->Nat->Int->au->bJ->bS->bR->aO->Option (aN×Bool)
 | [],i1,mY,kL,cX,yo,rU,yp=>(k1 mY kL cX yo rU yp)
 |bh::cV,i1,mY,kL,cX,yo,rU,yp=>((oI bh).bind fun Gk=>(bif decide (Gk.length<=maxLen)then(fy aC i1 Gk (fun(Cq:Int) (tN:Int) (F5:au) (tM:bJ) (F6:bS) (pR:bR) (F7:aO)=>(bif room ((tM.map mR).length+([[D.int .i64 Cq]]).length) 8 then(fw aC k1 cV (i1+1) tN F5 (tM++([Cq])) F6 pR F7)else none)) Gk 0 0 mY kL cX yo rU yp)else none))
def kX(aC:au):Option (aN×Bool):=((qP aC).bind fun y1=>(bif !(y1)then(some ((⟨[],[],[],[],[],0⟩:aN),false))else((qW aC).bind fun y4=>(fw aC (fun(xm:Int) (n7:au) (eS:bJ) (Jl:bS) (si:bR) (Jm:aO)=>(some ((⟨n7,eS,Jl,si,Jm,xm⟩:aN),true))) aC 0 0 y4 ([]:bJ) ([]:bS) ([(⟨-1,(⟨0,(⟨[],[]⟩:aG),[],[]⟩:aH), -1,[(⟨[],[]⟩:aX)]⟩:Node)]) ([]:aO)))))
def pg(aC:au)(mY:Int)(W1:List aL)(W2:List aL)(W3:List aL)(W4:List aL)(W5:List aL)(dQ:Int):St:=⟨[(0,D.sl (aC.map aJ.c)),(2,D.ptr 0 0),(4,D.ptr 1 0),(5,D.int .i64 dQ)],[Ob.box [D.nil,D.nil,D.nil,D.nil,D.nil,D.int .i64 0],Ob.box [D.acc 2,D.acc 3,D.acc 4,D.acc 5,D.acc 6,D.int .i64 mY],Ob.row .uq 80 4 W1,Ob.row .uq 3 1 W2,Ob.row .uq 93 3 W3,Ob.row .uq 50 8 W4,Ob.row .uq 37 2 W5]⟩
def AJ(aC:au)(i1:Nat)(Gk:af)(oP:Int)(mZ:Int)(W2:List aL)(W3:List aL)(W4:List aL)(W5:List aL)(W6:List aL)(dQ:Int):St:=⟨[(0,D.sl (aC.map aJ.c)),(2,D.ptr 0 0),(4,D.ptr 1 0),(5,D.int .i64 (i1:Int)),(6,D.int .i64 oP),(7,D.acc 2),(8,D.int .i64 dQ)],[Ob.box [D.nil,D.nil,D.nil,D.nil,D.nil,D.int .i64 0],Ob.box [D.acc 3,D.acc 4,D.acc 5,D.acc 6,D.acc 7,D.int .i64 mZ],Ob.row .uq 47 5 (Gk.map aH.c),Ob.row .uq 80 4 W2,Ob.row .uq 3 1 W3,Ob.row .uq 93 3 W4,Ob.row .uq 50 8 W5,Ob.row .uq 37 2 W6]⟩
theorem zM(hΓ:Γ.nt=50){aC:au}{i1:Nat}{Gk:af}{r:aN×Bool}{k2:Int->Int->au->bJ->bS->bR->aO->Option (aN×Bool)}(Ak:∀(Cq:Int) (tN:Int) (F5:au) (tM:bJ) (F6:bS) (pR:bR) (F7:aO),k2 Cq tN F5 tM F6 pR F7=some r->Ax Γ N f72 (.q [[some (80,4),some (3,1),some (93,3),some (50,8),some (37,2),none],[none]] (D.iK [D.agg [D.fr 80 4 (r.1.rules.map aJ.c),D.fr 3 1 (r.1.ends.map mR),D.fr 93 3 (r.1.bM.map ai.c),D.fr 50 8 (r.1.nodes.map Node.c),D.fr 37 2 (r.1.facts.map aG.c),D.int .i64 r.1.cS],D.bool r.2])) [1,1,1,0,1,0,0,1,0,0,1,1,1] ⟨[(0,D.sl (aC.map aJ.c)),(2,D.ptr 0 0),(4,D.ptr 1 0),(5,D.int .i64 (i1:Int)),(6,D.int .i64 Cq)],[Ob.box [D.nil,D.nil,D.nil,D.nil,D.nil,D.int .i64 0],Ob.box [D.acc 2,D.acc 3,D.acc 4,D.acc 5,D.acc 6,D.int .i64 tN],Ob.row .uq 80 4 (F5.map aJ.c),Ob.row .uq 3 1 (tM.map mR),Ob.row .uq 93 3 (F6.map ai.c),Ob.row .uq 50 8 (pR.map Node.c),Ob.row .uq 37 2 (F7.map aG.c)]⟩)(hm2:Gk.length<=maxLen):∀(rest:af) (i2:Nat) (oP:Int) (mZ:Int) (yq:au) (j6:bJ) (yt:bS) (ld:bR) (yu:aO),Gk.drop i2=rest->fy aC i1 Gk k2 rest i2 oP mZ yq j6 yt ld yu=some r->Ar Γ N f72 (.q [[some (80,4),some (3,1),some (93,3),some (50,8),some (37,2),none],[none]] (D.iK [D.agg [D.fr 80 4 (r.1.rules.map aJ.c),D.fr 3 1 (r.1.ends.map mR),D.fr 93 3 (r.1.bM.map ai.c),D.fr 50 8 (r.1.nodes.map Node.c),D.fr 37 2 (r.1.facts.map aG.c),D.int .i64 r.1.cS],D.bool r.2])) [1,1,1,0,1,0,0,1,0,0,1,1,0,1,0] (rest.length+1) (AJ aC i1 Gk oP mZ (yq.map aJ.c) (j6.map mR) (yt.map ai.c) (ld.map Node.c) (yu.map aG.c) (i2:Int)):=by
 intro rest
 induction rest with
 |nil=>
  intro i2 oP mZ yq j6 yt ld yu hd2 h;rw[fy]at h;refine aR fun N2 um sL=>?_
  exact((aU.ge aH.c hd2).a [.hl 5 [0,2,4,5,6] [0,1,3,4,5,6,7]]).ex hΓ um (Ak oP mZ yq j6 yt ld yu h)
 |cons jM uO ih2=>
  intro i2 oP mZ yq j6 yt ld yu hd2 h;rw[fy]at h;refine aR fun N2 um sL=>?_
  obtain⟨Ab,h212,h⟩:=aB h;exact((((((aU.lt aH.c hd2).i (mS aH.c 5 (dc hd2))).o 5 5 .uq (cH aH.c (dc hd2))).a [.gp [[some (80,4),some (3,1),some (93,3),some (50,8),some (37,2),none],[none],[none,none,none,none,none]] (cC Ab.1) (D.int .i64 Ab.2)]).w (show jP prog 134 (cC (⟨yq,j6,yt,ld,yu,mZ⟩:aN)) (cC Ab.1) [D.int .i64 oP,D.agg (aH.c jM)] (D.int .i64 Ab.2)from by simpa only[b8,bC,bf,bX,bY]using Dn h212)).a [.cn [0,2,4,5,6,7,8] [0,1,2,8,9,10,11,12]]).ct hΓ sL (iS hd2 hm2) (ih2 (i2+1) Ab.2 Ab.1.cS Ab.1.rules Ab.1.ends Ab.1.bM Ab.1.nodes Ab.1.facts (dn hd2) h)
theorem zL(hΓ:Γ.nt=50){aC:au}{r:aN×Bool}{k1:Int->au->bJ->bS->bR->aO->Option (aN×Bool)}(eR:∀(xm:Int) (n7:au) (eS:bJ) (Jl:bS) (si:bR) (Jm:aO),k1 xm n7 eS Jl si Jm=some r->Ax Γ N f72 (.q [[some (80,4),some (3,1),some (93,3),some (50,8),some (37,2),none],[none]] (D.iK [D.agg [D.fr 80 4 (r.1.rules.map aJ.c),D.fr 3 1 (r.1.ends.map mR),D.fr 93 3 (r.1.bM.map ai.c),D.fr 50 8 (r.1.nodes.map Node.c),D.fr 37 2 (r.1.facts.map aG.c),D.int .i64 r.1.cS],D.bool r.2])) [1,1,1,1] ⟨[(2,D.ptr 0 0),(4,D.ptr 1 0)],[Ob.box [D.nil,D.nil,D.nil,D.nil,D.nil,D.int .i64 0],Ob.box [D.acc 2,D.acc 3,D.acc 4,D.acc 5,D.acc 6,D.int .i64 xm],Ob.row .uq 80 4 (n7.map aJ.c),Ob.row .uq 3 1 (eS.map mR),Ob.row .uq 93 3 (Jl.map ai.c),Ob.row .uq 50 8 (si.map Node.c),Ob.row .uq 37 2 (Jm.map aG.c)]⟩)(hm1:aC.length<=maxLen):∀(rest:au) (i1:Nat) (mY:Int) (kL:au) (cX:bJ) (yo:bS) (rU:bR) (yp:aO),aC.drop i1=rest->fw aC k1 rest i1 mY kL cX yo rU yp=some r->Ar Γ N f72 (.q [[some (80,4),some (3,1),some (93,3),some (50,8),some (37,2),none],[none]] (D.iK [D.agg [D.fr 80 4 (r.1.rules.map aJ.c),D.fr 3 1 (r.1.ends.map mR),D.fr 93 3 (r.1.bM.map ai.c),D.fr 50 8 (r.1.nodes.map Node.c),D.fr 37 2 (r.1.facts.map aG.c),D.int .i64 r.1.cS],D.bool r.2])) [1,1,1,0,1,0] (rest.length+1) (pg aC mY (kL.map aJ.c) (cX.map mR) (yo.map ai.c) (rU.map Node.c) (yp.map aG.c) (i1:Int)):=by
 intro rest
 induction rest with
 |nil=>
  intro i1 mY kL cX yo rU yp bA h;rw[fw]at h;refine aR fun N1 cW cL=>?_
  exact((aU.ge aJ.c bA).a [.hl 0 [2,4] [0,1,2,3,4,5,6]]).ex hΓ cW (eR mY kL cX yo rU yp h)
 |cons bh cV ih1=>
  intro i1 mY kL cX yo rU yp bA h;rw[fw]at h;refine aR fun N1 cW cL=>?_
  obtain⟨Gk,h183,h⟩:=aB h;obtain⟨h214,h⟩:=bQ h;refine((((aU.lt aJ.c bA).l (bI aJ.c 4 (dc bA) rfl)).g (AL h183)).a [.cn [0,2,4,5,6,7,8] [0,1,7,2,3,4,5,6]]).lp hΓ (zM hΓ (fun Cq tN F5 tM F6 pR F7 h=>?_) (ay h214) Gk 0 0 mY kL cX yo rU yp rfl h);obtain⟨h213,h⟩:=bQ h;exact((aU.w (br h213)).a [.cn [0,2,4,5] [0,1,2,8,4,5,6]]).cs hΓ cL (pg aC tN (F5.map aJ.c) ((tM.map mR)++([[D.int .i64 Cq]])) (F6.map ai.c) (pR.map Node.c) (F7.map aG.c) (IntKind.i64.wrap ((i1:Int)+1))) (by first| (simp only[iS bA hm1,mA]<;>rfl)| (simp only[iS bA hm1,mA,aG.c,aQ.c,aH.c,Action.c,aJ.c,aX.c,dU.c,ai.c,Node.c,aN.c,dW.c]<;>rfl)) (ih1 (i1+1) tN F5 (tM++([Cq])) F6 pR F7 (dn bA) h)
theorem yd{aC:au}{r:aN×Bool}(h:kX aC=some r):Good prog 72 [D.sl (aC.map aJ.c)] (D.iK [D.agg [D.fr 80 4 (r.1.rules.map aJ.c),D.fr 3 1 (r.1.ends.map mR),D.fr 93 3 (r.1.bM.map ai.c),D.fr 50 8 (r.1.nodes.map Node.c),D.fr 37 2 (r.1.facts.map aG.c),D.int .i64 r.1.cS],D.bool r.2]):=by
 refine gd func72 [[some (80,4),some (3,1),some (93,3),some (50,8),some (37,2),none],[none]] 50 fun hr Γ hΓ=>?_
 rw[kX]at h;obtain⟨y1,h2,h⟩:=aB h;obtain⟨h3,h⟩|⟨h3,h⟩:=aM h
 ·cases h;exact((aU.g (vK h2)).b h3).ret hΓ
 ·obtain⟨y4,h5,h⟩:=aB h;refine((((aU.g (vK h2)).b h3).g (CG h5)).a [.pb 4 1 3 1,.pb 4 2 93 3,.pb 4 4 37 2,.cn [0,2,4,5] [0,4,1,5,6,3,7]]).lps hΓ (pg aC 0 (y4.map aJ.c) ([]:List aL) ([]:List aL) ([[D.int .i64 (-1),D.int .i64 0,D.str ([]),D.sl ([]),D.str ([]),D.str ([]),D.int .i64 (-1),D.sl ([[D.sl ([]),D.sl ([])]])]]) ([]:List aL) 0) (by first| (simp only[mA]<;>rfl)| (simp only[mA,aG.c,aQ.c,aH.c,Action.c,aJ.c,aX.c,dU.c,ai.c,Node.c,aN.c,dW.c]<;>rfl)) (zL hΓ (fun xm n7 eS Jl si Jm h=>?_) (by have:=(j0.sl (hr _ (aD (i:=0) rfl))).1;simpa using this) aC 0 0 y4 ([]:bJ) ([]:bS) ([(⟨-1,(⟨0,(⟨[],[]⟩:aG),[],[]⟩:aH), -1,[(⟨[],[]⟩:aX)]⟩:Node)]) ([]:aO) rfl h);cases h;exact aU.ret hΓ
def lU(aC:aO)(k1:aO->Option aO):aO->Nat->aO->Option aO
 | [],i1,bO=>(k1 bO)
 |bh::cV,i1,bO=>((eV bh).bind fun nR=>(bif room ((bO.map aG.c).length+([[D.str nR.rel,D.sl (nR.args.map tx)]]).length) 40 then(lU aC k1 cV (i1+1) (bO++([nR])))else none))
def ko(aC:aO):Option aO:=(lU aC (fun(cA:aO)=>(some cA)) aC 0 ([]:aO))
def xS(aC:aO)(W0:List aL)(dQ:Int):St:=⟨[(0,D.sl (aC.map aG.c)),(3,D.acc 0),(4,D.int .i64 dQ)],[Ob.row .uq 37 2 W0]⟩
theorem Dh(hΓ:Γ.nt=21){aC:aO}{r:aO}{k1:aO->Option aO}(eR:∀(cA:aO),k1 cA=some r->Ax Γ N f70 (.q [[some (37,2)]] (D.fr 37 2 (r.map aG.c))) [1,1,1] ⟨[(3,D.acc 0)],[Ob.row .uq 37 2 (cA.map aG.c)]⟩)(hm1:aC.length<=maxLen):∀(rest:aO) (i1:Nat) (bO:aO),aC.drop i1=rest->lU aC k1 rest i1 bO=some r->Ar Γ N f70 (.q [[some (37,2)]] (D.fr 37 2 (r.map aG.c))) [1,1,0,1,0] (rest.length+1) (xS aC (bO.map aG.c) (i1:Int)):=by
 intro rest
 induction rest with
 |nil=>
  intro i1 bO bA h;rw[lU]at h;refine aR fun N1 cW cL=>?_
  exact((aU.ge aG.c bA).a [.hl 0 [3] [0]]).ex hΓ cW (eR bO h)
 |cons bh cV ih1=>
  intro i1 bO bA h;rw[lU]at h;refine aR fun N1 cW cL=>?_
  obtain⟨nR,h28,h⟩:=aB h;obtain⟨h29,h⟩:=bQ h;exact(((((aU.lt aG.c bA).l (bI aG.c 2 (dc bA) rfl)).g (gD h28)).w (br h29)).a [.cn [0,3,4] [3]]).cs hΓ cL (xS aC ((bO.map aG.c)++([[D.str nR.rel,D.sl (nR.args.map tx)]])) (IntKind.i64.wrap ((i1:Int)+1))) (by first| (simp only[iS bA hm1,mA]<;>rfl)| (simp only[iS bA hm1,mA,aG.c,aQ.c,aH.c,Action.c,aJ.c,aX.c,dU.c,ai.c,Node.c,aN.c,dW.c]<;>rfl)) (ih1 (i1+1) (bO++([nR])) (dn bA) h)
theorem rO{aC:aO}{r:aO}(h:ko aC=some r):Good prog 70 [D.sl (aC.map aG.c)] (D.fr 37 2 (r.map aG.c)):=by
 refine gd func70 [[some (37,2)]] 21 fun hr Γ hΓ=>?_
 rw[ko]at h;refine(aU.a [.cn [0,3,4] [0]]).lp hΓ (Dh hΓ (fun cA h=>?_) (by have:=(j0.sl (hr _ (aD (i:=0) rfl))).1;simpa using this) aC 0 ([]:aO) rfl h);have h:=aK h;subst h;exact aU.ret hΓ
def nN(aC:aG)(k1:Option Bool):aF->Nat->Option Bool
 | [],i1=>(k1)
 |bh::cV,i1=>((fC bh).bind fun Pb=>(bif !(Pb)then(some false)else(nN aC k1 cV (i1+1))))
def oT(aC:aG):Option Bool:=(nN aC ((oU aC.rel).bind fun KS=>(bif KS then(some (decide ((((aC.args.map tx).length:Int):Int)<=3)))else(some false))) aC.args 0)
def HD(aC:aG)(dQ:Int):St:=⟨[(1,D.ptr 0 0),(3,D.int .i64 dQ)],[Ob.box (aG.c aC)]⟩
theorem Fl(hΓ:Γ.nt=27){aC:aG}{r:Bool}{k1:Option Bool}(eR:k1=some r->Ax Γ N f84 (.q [[none]] (D.bool r)) [1,1] ⟨[(1,D.ptr 0 0)],[Ob.box (aG.c aC)]⟩)(hm1:aC.args.length<=maxLen):∀(rest:aF) (i1:Nat),aC.args.drop i1=rest->nN aC k1 rest i1=some r->Ar Γ N f84 (.q [[none]] (D.bool r)) [1,0,1,0] (rest.length+1) (HD aC (i1:Int)):=by
 intro rest
 induction rest with
 |nil=>
  intro i1 bA h;rw[nN]at h;refine aR fun N1 cW cL=>?_
  exact((aU.ge tx bA).a [.hl 0 [1] [0]]).ex hΓ cW (eR h)
 |cons bh cV ih1=>
  intro i1 bA h;rw[nN]at h;refine aR fun N1 cW cL=>?_
  obtain⟨Pb,h22,h⟩:=aB h;have ig:=(((aU.lt tx bA).l (bI tx 1 (dc bA) rfl)).g (eO h22))
  obtain⟨h23,h⟩|⟨h23,h⟩:=aM h
  ·have h:=aK h;subst h;exact(ig.b h23).ret hΓ
  ·exact((ig.b h23).a [.cn [1,3] [0]]).ct hΓ cL (iS bA hm1) (ih1 (i1+1) (dn bA) h)
theorem EY{aC:aG}{r:Bool}(h:oT aC=some r):Good prog 84 [D.agg (aG.c aC)] (D.bool r):=by
 refine gd func84 [[none]] 27 fun hr Γ hΓ=>?_
 rw[oT]at h;refine(aU.a [.cn [1,3] [0]]).lp hΓ (Fl hΓ (fun h=>?_) (by have:=(j0.sl (j0.agg (hr _ (aD (i:=0) rfl)) (.sl (aC.args.map tx)) (by simp))).1;simpa using this) aC.args 0 rfl h);obtain⟨KS,h25,h⟩:=aB h;obtain⟨h26,h⟩|⟨h26,h⟩:=aM h
 ·cases h;exact((aU.g (lQ h25)).r 5 h26).ret hΓ
 ·have h:=aK h;subst h;exact((aU.g (lQ h25)).r 5 h26).ret hΓ
def iV(aC:aP)(k1:Option Bool):aP->Nat->Option Bool
 | [],i1=>(k1)
 |bh::cV,i1=>((gB bh.var).bind fun Hl=>(bif !(Hl)then(some false)else((fC bh.value).bind fun Ye=>(bif !(Ye)then(some false)else(bif decide (((i1:Int):Int)>0)then((iM aC (IntKind.i64.wrap ((i1:Int)-1))).bind fun x56=>(bif !(Op.bytesLess x56.var bh.var)then(some false)else(iV aC k1 cV (i1+1))))else(iV aC k1 cV (i1+1)))))))
def jZ(aC:aP):Option Bool:=(iV aC (some (decide ((((aC.map aQ.c).length:Int):Int)<=6))) aC 0)
def DX(aC:aP)(dQ:Int):St:=⟨[(0,D.sl (aC.map aQ.c)),(3,D.int .i64 dQ)],[]⟩
theorem C6(hΓ:Γ.nt=47){aC:aP}{r:Bool}{k1:Option Bool}(eR:k1=some r->Ax Γ N f202 (.q [[none]] (D.bool r)) [1,1] ⟨[(0,D.sl (aC.map aQ.c))],[]⟩)(hm1:aC.length<=maxLen):∀(rest:aP) (i1:Nat),aC.drop i1=rest->iV aC k1 rest i1=some r->Ar Γ N f202 (.q [[none]] (D.bool r)) [1,0,1,0] (rest.length+1) (DX aC (i1:Int)):=by
 intro rest
 induction rest with
 |nil=>
  intro i1 bA h;rw[iV]at h;refine aR fun N1 cW cL=>?_
  exact((aU.ge aQ.c bA).a [.hl 0 [0] []]).ex hΓ cW (eR h)
 |cons bh cV ih1=>
  intro i1 bA h;rw[iV]at h;refine aR fun N1 cW cL=>?_
  obtain⟨Hl,h50,h⟩:=aB h;have rR:=((((aU.lt aQ.c bA).a [.n 31]).l (bI aQ.c 2 (dc bA) rfl)).g (ew h50))
  obtain⟨h51,h⟩|⟨h51,h⟩:=aM h
  ·have h:=aK h;subst h;exact((((rR.r 8 h51).T 3).a [bF,bF,bF,bF,bF,bF,bF,bF,bF,bF,bF,bF]).T 3).ret hΓ
  ·obtain⟨Ye,h53,h⟩:=aB h;have vT:=(((((rR.r 3 h51).l (bI aQ.c 2 (dc bA) rfl)).r 3 h51).g (eO h53)).r 2 h51)
   obtain⟨h54,h⟩|⟨h54,h⟩:=aM h
   ·have h:=aK h;subst h;exact((((vT.r 3 h54).a [bF,bF,bF,bF,bF,bF,bF,bF,bF,bF,bF,bF]).r 2 h54).T 1).ret hΓ
   ·have yl:=(vT.r 3 h54)
    obtain⟨h55,h⟩|⟨h55,h⟩:=aM h
    ·obtain⟨x56,h57,h⟩:=aB h;have E6:=((((((((yl.r 4 h55).l (iN aQ.c 2 h57 rfl)).r 5 h55).l (bI aQ.c 2 (dc bA) rfl)).r 3 h55).b h54).b h55).b h54)
     obtain⟨h58,h⟩|⟨h58,h⟩:=aM h
     ·have h:=aK h;subst h;exact(E6.b h58).ret hΓ
     ·exact((E6.b h58).a [.cn [0,3] []]).ct hΓ cL (iS bA hm1) (ih1 (i1+1) (dn bA) h)
    ·exact((((((yl.r 12 h55).b h54).b h55).b h54).F 1).a [.cn [0,3] []]).ct hΓ cL (iS bA hm1) (ih1 (i1+1) (dn bA) h)
theorem lB{aC:aP}{r:Bool}(h:jZ aC=some r):Good prog 202 [D.sl (aC.map aQ.c)] (D.bool r):=by
 refine gd func202 [[none]] 47 fun hr Γ hΓ=>?_
 rw[jZ]at h;refine(aU.a [.cn [0,3] []]).lp hΓ (C6 hΓ (fun h=>?_) (by have:=(j0.sl (hr _ (aD (i:=0) rfl))).1;simpa using this) aC 0 rfl h);cases h;exact aU.ret hΓ
def oX(aC:aP):Option aP:=(bif room (([]:List aL).length+(aC.map aQ.c).length) 32 then(some (([]:aP)++aC))else none)
theorem tG{aC:aP}{r:aP}(h:oX aC=some r):Good prog 203 [D.sl (aC.map aQ.c)] (D.fr 137 2 (r.map aQ.c)):=by
 refine gd func203 [[some (137,2)]] 6 fun hr Γ hΓ=>?_
 rw[oX]at h;obtain⟨h1,h⟩:=bQ h;cases h;exact(((aU.w (br h1)).w (show(∀r∈(aC.map aQ.c),r.length=2)/\(true=true->D.pO (aC.map aQ.c)=true)from⟨by first|simp| (intro r hr;obtain⟨x,_,rfl⟩:=cJ.1 (cD (jO hr));rfl),by simp[D.pO,D.flat]⟩)).a [.Jk 2,.fl true]).rts hΓ (D.fr 137 2 (([]:List aL)++(aC.map aQ.c))) (by first|rfl| (simp only[mA]<;>rfl)| (simp only[cC,mA]<;>rfl))
def gR(aC:aP)(aa:Bytes)(k1:Option (Bytes×Bool)):aP->Nat->Option (Bytes×Bool)
 | [],i1=>(k1)
 |bh::cV,i1=>(bif (bh.var:Bytes)==aa then((gB aa).bind fun Cn=>(bif Cn then(some (bh.value,true))else(gR aC aa k1 cV (i1+1))))else(gR aC aa k1 cV (i1+1)))
def nU(aC:aP)(aa:Bytes):Option (Bytes×Bool):=((fC aa).bind fun y1=>(bif y1 then(some (aa,true))else(gR aC aa (some ([],false)) aC 0)))
def Fw(aC:aP)(aa:Bytes)(dQ:Int):St:=⟨[(0,D.sl (aC.map aQ.c)),(1,D.str aa),(6,D.int .i64 dQ)],[]⟩
theorem Ef(hΓ:Γ.nt=32){aC:aP}{aa:Bytes}{r:Bytes×Bool}{k1:Option (Bytes×Bool)}(eR:k1=some r->Ax Γ N f130 (.q [[none],[none]] (D.iK [D.str r.1,D.bool r.2])) [1,1,1] ⟨[],[]⟩)(hm1:aC.length<=maxLen):∀(rest:aP) (i1:Nat),aC.drop i1=rest->gR aC aa k1 rest i1=some r->Ar Γ N f130 (.q [[none],[none]] (D.iK [D.str r.1,D.bool r.2])) [1,1,0,1,0] (rest.length+1) (Fw aC aa (i1:Int)):=by
 intro rest
 induction rest with
 |nil=>
  intro i1 bA h;rw[gR]at h;refine aR fun N1 cW cL=>?_
  exact((aU.ge aQ.c bA).a [.hl 0 [] []]).ex hΓ cW (eR h)
 |cons bh cV ih1=>
  intro i1 bA h;rw[gR]at h;refine aR fun N1 cW cL=>?_
  have lC:=((aU.lt aQ.c bA).l (bI aQ.c 2 (dc bA) rfl))
  obtain⟨h28,h⟩|⟨h28,h⟩:=aM h
  ·obtain⟨Cn,h30,h⟩:=aB h;have kw:=(((lC.r 2 h28).g (ew h30)).b h28)
   obtain⟨h31,h⟩|⟨h31,h⟩:=aM h
   ·cases h;exact((kw.b h31).l (bI aQ.c 2 (dc bA) rfl)).ret hΓ
   ·exact((kw.b h31).a [.cn [0,1,6] []]).ct hΓ cL (iS bA hm1) (ih1 (i1+1) (dn bA) h)
  ·exact(((lC.r 3 h28).F 1).a [.cn [0,1,6] []]).ct hΓ cL (iS bA hm1) (ih1 (i1+1) (dn bA) h)
theorem sI{aC:aP}{aa:Bytes}{r:Bytes×Bool}(h:nU aC aa=some r):Good prog 130 [D.sl (aC.map aQ.c),D.str aa] (D.iK [D.str r.1,D.bool r.2]):=by
 refine gd func130 [[none],[none]] 32 fun hr Γ hΓ=>?_
 rw[nU]at h;obtain⟨y1,h2,h⟩:=aB h;obtain⟨h3,h⟩|⟨h3,h⟩:=aM h
 ·cases h;exact((aU.g (eO h2)).b h3).ret hΓ
 ·refine(((aU.g (eO h2)).b h3).a [.cn [0,1,6] []]).lp hΓ (Ef hΓ (fun h=>?_) (by have:=(j0.sl (hr _ (aD (i:=0) rfl))).1;simpa using this) aC 0 rfl h);cases h;exact aU.ret hΓ
def kq(aC:aP)(aa:Bytes)(cN:Bytes)(k1:Bool->aP->Option aP):aP->Nat->Bool->aP->Option aP
 | [],i1,Ci,bO=>(k1 Ci bO)
 |bh::cV,i1,Ci,bO=>(bif !(Ci)then(bif !(Op.bytesLess bh.var aa||(bh.var:Bytes)==aa)then(bif room ((bO.map aQ.c).length+([[D.str aa,D.str cN]]).length) 32 then(bif room (((bO.map aQ.c)++([[D.str aa,D.str cN]])).length+([[D.str bh.var,D.str bh.value]]).length) 32 then(kq aC aa cN k1 cV (i1+1) true ((bO++([(⟨aa,cN⟩:aQ)]))++([bh])))else none)else none)else(bif room ((bO.map aQ.c).length+([[D.str bh.var,D.str bh.value]]).length) 32 then(kq aC aa cN k1 cV (i1+1) Ci (bO++([bh])))else none))else(bif room ((bO.map aQ.c).length+([[D.str bh.var,D.str bh.value]]).length) 32 then(kq aC aa cN k1 cV (i1+1) Ci (bO++([bh])))else none))
def uH(aC:aP)(aa:Bytes)(cN:Bytes):Option aP:=(kq aC aa cN (fun(VE:Bool) (cA:aP)=>(bif !(VE)then(bif room ((cA.map aQ.c).length+([[D.str aa,D.str cN]]).length) 32 then(some (cA++([(⟨aa,cN⟩:aQ)])))else none)else(some cA))) aC 0 false ([]:aP))
def sw(aC:aP)(aa:Bytes)(cN:Bytes)(Ci:Bool)(W1:List aL)(dQ:Int):St:=⟨[(0,D.sl (aC.map aQ.c)),(1,D.str aa),(2,D.str cN),(7,D.acc 0),(8,D.bool Ci),(9,D.int .i64 dQ)],[Ob.row .uq 137 2 W1]⟩
theorem HP(hΓ:Γ.nt=50){aC:aP}{aa:Bytes}{cN:Bytes}{r:aP}{k1:Bool->aP->Option aP}(eR:∀(VE:Bool) (cA:aP),k1 VE cA=some r->Ax Γ N f131 (.q [[some (137,2)]] (D.fr 137 2 (r.map aQ.c))) [1,1,1,1] ⟨[(1,D.str aa),(2,D.str cN),(7,D.acc 0),(8,D.bool VE)],[Ob.row .uq 137 2 (cA.map aQ.c)]⟩)(hm1:aC.length<=maxLen):∀(rest:aP) (i1:Nat) (Ci:Bool) (bO:aP),aC.drop i1=rest->kq aC aa cN k1 rest i1 Ci bO=some r->Ar Γ N f131 (.q [[some (137,2)]] (D.fr 137 2 (r.map aQ.c))) [1,1,1,0,1,0] (rest.length+1) (sw aC aa cN Ci (bO.map aQ.c) (i1:Int)):=by
 intro rest
 induction rest with
 |nil=>
  intro i1 Ci bO bA h;rw[kq]at h;refine aR fun N1 cW cL=>?_
  exact((aU.ge aQ.c bA).a [.hl 0 [1,2,7,8] [0]]).ex hΓ cW (eR Ci bO h)
 |cons bh cV ih1=>
  intro i1 Ci bO bA h;rw[kq]at h;refine aR fun N1 cW cL=>?_
  obtain⟨h48,h⟩|⟨h48,h⟩:=aM h
  ·have ig:=((((aU.lt aQ.c bA).r 3 h48).l (bI aQ.c 2 (dc bA) rfl)).r 5 h48)
   obtain⟨h49,h⟩|⟨h49,h⟩:=aM h
   ·obtain⟨h50,h⟩:=bQ h;obtain⟨h51,h⟩:=bQ h;exact(((((ig.b h49).w (br h50)).l (bI aQ.c 2 (dc bA) rfl)).w (br h51)).a [.cn [0,1,2,7,8,9] [4]]).cs hΓ cL (sw aC aa cN true (((bO.map aQ.c)++([[D.str aa,D.str cN]]))++([[D.str bh.var,D.str bh.value]])) (IntKind.i64.wrap ((i1:Int)+1))) (by first| (simp only[iS bA hm1,mA]<;>rfl)| (simp only[iS bA hm1,mA,aG.c,aQ.c,aH.c,Action.c,aJ.c,aX.c,dU.c,ai.c,Node.c,aN.c,dW.c]<;>rfl)) (ih1 (i1+1) true ((bO++([(⟨aa,cN⟩:aQ)]))++([bh])) (dn bA) h)
   ·obtain⟨h52,h⟩:=bQ h;exact((((ig.b h49).l (bI aQ.c 2 (dc bA) rfl)).w (br h52)).a [.cn [0,1,2,7,8,9] [2]]).cs hΓ cL (sw aC aa cN Ci ((bO.map aQ.c)++([[D.str bh.var,D.str bh.value]])) (IntKind.i64.wrap ((i1:Int)+1))) (by first| (simp only[iS bA hm1,mA]<;>rfl)| (simp only[iS bA hm1,mA,aG.c,aQ.c,aH.c,Action.c,aJ.c,aX.c,dU.c,ai.c,Node.c,aN.c,dW.c]<;>rfl)) (ih1 (i1+1) Ci (bO++([bh])) (dn bA) h)
  ·obtain⟨h53,h⟩:=bQ h;exact((((((aU.lt aQ.c bA).r 8 h48).F 1).l (bI aQ.c 2 (dc bA) rfl)).w (br h53)).a [.cn [0,1,2,7,8,9] [2]]).cs hΓ cL (sw aC aa cN Ci ((bO.map aQ.c)++([[D.str bh.var,D.str bh.value]])) (IntKind.i64.wrap ((i1:Int)+1))) (by first| (simp only[iS bA hm1,mA]<;>rfl)| (simp only[iS bA hm1,mA,aG.c,aQ.c,aH.c,Action.c,aJ.c,aX.c,dU.c,ai.c,Node.c,aN.c,dW.c]<;>rfl)) (ih1 (i1+1) Ci (bO++([bh])) (dn bA) h)
theorem G3{aC:aP}{aa:Bytes}{cN:Bytes}{r:aP}(h:uH aC aa cN=some r):Good prog 131 [D.sl (aC.map aQ.c),D.str aa,D.str cN] (D.fr 137 2 (r.map aQ.c)):=by
 refine gd func131 [[some (137,2)]] 50 fun hr Γ hΓ=>?_
 rw[uH]at h;refine(aU.a [.cn [0,1,2,7,8,9] [0]]).lp hΓ (HP hΓ (fun VE cA h=>?_) (by have:=(j0.sl (hr _ (aD (i:=0) rfl))).1;simpa using this) aC 0 false ([]:aP) rfl h);obtain⟨h54,h⟩|⟨h54,h⟩:=aM h
 ·obtain⟨h55,h⟩:=bQ h;cases h;exact((aU.b h54).w (br h55)).rts hΓ (D.fr 137 2 ((cA.map aQ.c)++([[D.str aa,D.str cN]]))) (by first|rfl| (simp only[mA]<;>rfl)| (simp only[cC,mA]<;>rfl))
 ·have h:=aK h;subst h;exact(aU.b h54).ret hΓ
def qh(aC:aP)(aa:Bytes)(cN:Bytes):Option (aP×Bool):=((jZ aC).bind fun y1=>(bif !(y1)then(some (([]:aP),false))else((gB aa).bind fun y4=>(bif !(y4)then(some (([]:aP),false))else((fC cN).bind fun y7=>(bif !(y7)then(some (([]:aP),false))else((nU aC aa).bind fun FE=>(bif FE.2 then(bif (FE.1:Bytes)==cN then((oX aC).bind fun Im=>(some (Im,true)))else(some (([]:aP),false)))else(bif (((aC.map aQ.c).length:Int):Int)==6 then(some (([]:aP),false))else((uH aC aa cN).bind fun XQ=>(some (XQ,true))))))))))))
theorem EW{aC:aP}{aa:Bytes}{cN:Bytes}{r:aP×Bool}(h:qh aC aa cN=some r):Good prog 204 [D.sl (aC.map aQ.c),D.str aa,D.str cN] (D.iK [D.fr 137 2 (r.1.map aQ.c),D.bool r.2]):=by
 refine gd func204 [[some (137,2)],[none]] 49 fun hr Γ hΓ=>?_
 rw[qh]at h;obtain⟨y1,h2,h⟩:=aB h;obtain⟨h3,h⟩|⟨h3,h⟩:=aM h
 ·cases h;exact(((aU.g (lB h2)).r 4 h3).T 5).ret hΓ
 ·obtain⟨y4,h5,h⟩:=aB h;have oa:=((((aU.g (lB h2)).r 2 h3).g (ew h5)).r 2 h3)
  obtain⟨h6,h⟩|⟨h6,h⟩:=aM h
  ·cases h;exact((oa.r 4 h6).T 1).ret hΓ
  ·obtain⟨y7,h8,h⟩:=aB h;have ig:=(((oa.r 2 h6).g (eO h8)).r 2 h6)
   obtain⟨h9,h⟩|⟨h9,h⟩:=aM h
   ·cases h;exact(ig.b h9).ret hΓ
   ·obtain⟨FE,h11,h⟩:=aB h;have lC:=((ig.b h9).g (sI h11))
    obtain⟨h12,h⟩|⟨h12,h⟩:=aM h
    ·have kw:=(lC.r 4 h12)
     obtain⟨h13,h⟩|⟨h13,h⟩:=aM h
     ·obtain⟨Im,h15,h⟩:=aB h;cases h;exact((kw.b h13).g (tG h15)).ret hΓ
     ·cases h;exact(((kw.b h13).r 4 h12).T 1).ret hΓ
    ·have rR:=(((lC.r 4 h12).F 1).r 4 h12)
     obtain⟨h16,h⟩|⟨h16,h⟩:=aM h
     ·cases h;exact(rR.b h16).ret hΓ
     ·obtain⟨XQ,h18,h⟩:=aB h;cases h;exact((rR.b h16).g (G3 h18)).ret hΓ
def iW(aC:aG)(aa:aG)(k1:aP->Option (aP×Bool)):aF->Nat->aP->Option (aP×Bool)
 | [],i1,kL=>(k1 kL)
 |bh::cV,i1,kL=>((fC bh).bind fun VU=>(bif VU then((iM aa.args (i1:Int)).bind fun x83=>(bif !((bh:Bytes)==x83)then(some (([]:aP),false))else(iW aC aa k1 cV (i1+1) kL)))else((iM aa.args (i1:Int)).bind fun x86=>((qh kL bh x86).bind fun XR=>(bif !(XR.2)then(some (([]:aP),false))else(iW aC aa k1 cV (i1+1) XR.1))))))
def jb(aC:aG)(aa:aG)(cN:aP):Option (aP×Bool):=((gI aC).bind fun y1=>(bif !(y1)then(some (([]:aP),false))else((oT aa).bind fun y4=>(bif !(y4)then(some (([]:aP),false))else((jZ cN).bind fun y7=>(bif !(y7)then(some (([]:aP),false))else(bif !((aC.rel:Bytes)==aa.rel)then(some (([]:aP),false))else(bif (((aC.args.map tx).length:Int):Int) != ((aa.args.map tx).length:Int)then(some (([]:aP),false))else((oX cN).bind fun Qo=>(iW aC aa (fun(cA:aP)=>(some (cA,true))) aC.args 0 Qo))))))))))
def DZ(aC:aG)(aa:aG)(W0:List aL)(dQ:Int):St:=⟨[(3,D.ptr 0 0),(4,D.ptr 1 0),(8,D.acc 2),(9,D.int .i64 dQ)],[Ob.box (aG.c aC),Ob.box (aG.c aa),Ob.row .uq 137 2 W0]⟩
theorem C8(hΓ:Γ.nt=89){aC:aG}{aa:aG}{r:aP×Bool}{k1:aP->Option (aP×Bool)}(eR:∀(cA:aP),k1 cA=some r->Ax Γ N f137 (.q [[some (137,2)],[none]] (D.iK [D.fr 137 2 (r.1.map aQ.c),D.bool r.2])) [1,1,1,1] ⟨[(8,D.acc 0)],[Ob.row .uq 137 2 (cA.map aQ.c)]⟩)(hm1:aC.args.length<=maxLen):∀(rest:aF) (i1:Nat) (kL:aP),aC.args.drop i1=rest->iW aC aa k1 rest i1 kL=some r->Ar Γ N f137 (.q [[some (137,2)],[none]] (D.iK [D.fr 137 2 (r.1.map aQ.c),D.bool r.2])) [1,1,1,0,1,0] (rest.length+1) (DZ aC aa (kL.map aQ.c) (i1:Int)):=by
 intro rest
 induction rest with
 |nil=>
  intro i1 kL bA h;rw[iW]at h;refine aR fun N1 cW cL=>?_
  exact((aU.ge tx bA).a [.hl 0 [8] [2]]).ex hΓ cW (eR kL h)
 |cons bh cV ih1=>
  intro i1 kL bA h;rw[iW]at h;refine aR fun N1 cW cL=>?_
  obtain⟨VU,h81,h⟩:=aB h;have kw:=(((aU.lt tx bA).l (bI tx 1 (dc bA) rfl)).g (eO h81))
  obtain⟨h82,h⟩|⟨h82,h⟩:=aM h
  ·obtain⟨x83,h84,h⟩:=aB h;have rR:=((((kw.b h82).a [.n 10]).l (bI tx 1 (dc bA) rfl)).l (iN tx 1 h84 rfl))
   obtain⟨h85,h⟩|⟨h85,h⟩:=aM h
   ·cases h;exact(rR.b h85).ret hΓ
   ·exact((rR.b h85).a [.cn [3,4,8,9] [0,1,2]]).ct hΓ cL (iS bA hm1) (ih1 (i1+1) kL (dn bA) h)
  ·obtain⟨x86,h87,h⟩:=aB h;obtain⟨XR,h89,h⟩:=aB h;have vT:=(((((kw.b h82).a [.n 16]).l (bI tx 1 (dc bA) rfl)).l (iN tx 1 h87 rfl)).g (EW h89))
   obtain⟨h90,h⟩|⟨h90,h⟩:=aM h
   ·cases h;exact(vT.b h90).ret hΓ
   ·exact((vT.b h90).a [.cn [3,4,8,9] [0,1,3]]).ct hΓ cL (iS bA hm1) (ih1 (i1+1) XR.1 (dn bA) h)
theorem ue{aC:aG}{aa:aG}{cN:aP}{r:aP×Bool}(h:jb aC aa cN=some r):Good prog 137 [D.agg (aG.c aC),D.agg (aG.c aa),D.sl (cN.map aQ.c)] (D.iK [D.fr 137 2 (r.1.map aQ.c),D.bool r.2]):=by
 refine gd func137 [[some (137,2)],[none]] 89 fun hr Γ hΓ=>?_
 rw[jb]at h;obtain⟨y1,h2,h⟩:=aB h;obtain⟨h3,h⟩|⟨h3,h⟩:=aM h
 ·cases h;exact(((aU.g (eP h2)).r 4 h3).T 19).ret hΓ
 ·obtain⟨y4,h5,h⟩:=aB h;have yl:=((((aU.g (eP h2)).r 2 h3).g (EY h5)).r 2 h3)
  obtain⟨h6,h⟩|⟨h6,h⟩:=aM h
  ·cases h;exact((yl.r 4 h6).T 15).ret hΓ
  ·obtain⟨y7,h8,h⟩:=aB h;have E6:=(((yl.r 2 h6).g (lB h8)).r 2 h6)
   obtain⟨h9,h⟩|⟨h9,h⟩:=aM h
   ·cases h;exact((E6.r 6 h9).T 9).ret hΓ
   ·have Je:=(E6.r 6 h9)
    obtain⟨h10,h⟩|⟨h10,h⟩:=aM h
    ·cases h;exact((Je.r 8 h10).T 1).ret hΓ
    ·have Ca:=(Je.r 8 h10)
     obtain⟨h11,h⟩|⟨h11,h⟩:=aM h
     ·cases h;exact(Ca.b h11).ret hΓ
     ·obtain⟨Qo,h13,h⟩:=aB h;refine(((Ca.b h11).g (tG h13)).a [.cn [3,4,8,9] [0,1,2]]).lp hΓ (C8 hΓ (fun cA h=>?_) (by have:=(j0.sl (j0.agg (hr _ (aD (i:=0) rfl)) (.sl (aC.args.map tx)) (by simp))).1;simpa using this) aC.args 0 Qo rfl h);cases h;exact aU.ret hΓ
def fT(aC:aG)(aa:aP)(cN:aO)(k1:aO->Option aO):aO->Nat->aO->Option aO
 | [],i1,bZ=>(k1 bZ)
 |bh::cV,i1,bZ=>((jb aC bh aa).bind fun VC=>(bif VC.2 then((eV bh).bind fun FB=>(bif room ((bZ.map aG.c).length+([[D.str FB.rel,D.sl (FB.args.map tx)]]).length) 40 then(fT aC aa cN k1 cV (i1+1) (bZ++([FB])))else none))else(fT aC aa cN k1 cV (i1+1) bZ)))
def gi(aC:aG)(aa:aP)(cN:aO):Option aO:=(fT aC aa cN (fun(cA:aO)=>(some cA)) cN 0 ([]:aO))
def tV(aC:aG)(aa:aP)(cN:aO)(W0:List aL)(dQ:Int):St:=⟨[(1,D.sl (aa.map aQ.c)),(2,D.sl (cN.map aG.c)),(3,D.ptr 0 0),(7,D.acc 1),(8,D.int .i64 dQ)],[Ob.box (aG.c aC),Ob.row .uq 37 2 W0]⟩
theorem ye(hΓ:Γ.nt=38){aC:aG}{aa:aP}{cN:aO}{r:aO}{k1:aO->Option aO}(eR:∀(cA:aO),k1 cA=some r->Ax Γ N f76 (.q [[some (37,2)]] (D.fr 37 2 (r.map aG.c))) [1,1,1] ⟨[(7,D.acc 0)],[Ob.row .uq 37 2 (cA.map aG.c)]⟩)(hm1:cN.length<=maxLen):∀(rest:aO) (i1:Nat) (bZ:aO),cN.drop i1=rest->fT aC aa cN k1 rest i1 bZ=some r->Ar Γ N f76 (.q [[some (37,2)]] (D.fr 37 2 (r.map aG.c))) [1,1,0,1,0] (rest.length+1) (tV aC aa cN (bZ.map aG.c) (i1:Int)):=by
 intro rest
 induction rest with
 |nil=>
  intro i1 bZ bA h;rw[fT]at h;refine aR fun N1 cW cL=>?_
  exact((aU.ge aG.c bA).a [.hl 0 [7] [1]]).ex hΓ cW (eR bZ h)
 |cons bh cV ih1=>
  intro i1 bZ bA h;rw[fT]at h;refine aR fun N1 cW cL=>?_
  obtain⟨VC,h43,h⟩:=aB h;have ig:=((((aU.lt aG.c bA).a [.n 11]).l (bI aG.c 2 (dc bA) rfl)).g (ue h43))
  obtain⟨h44,h⟩|⟨h44,h⟩:=aM h
  ·obtain⟨FB,h46,h⟩:=aB h;obtain⟨h47,h⟩:=bQ h;exact(((((ig.b h44).l (bI aG.c 2 (dc bA) rfl)).g (gD h46)).w (br h47)).a [.cn [1,2,3,7,8] [0,5]]).cs hΓ cL (tV aC aa cN ((bZ.map aG.c)++([[D.str FB.rel,D.sl (FB.args.map tx)]])) (IntKind.i64.wrap ((i1:Int)+1))) (by first| (simp only[iS bA hm1,mA]<;>rfl)| (simp only[iS bA hm1,mA,aG.c,aQ.c,aH.c,Action.c,aJ.c,aX.c,dU.c,ai.c,Node.c,aN.c,dW.c]<;>rfl)) (ih1 (i1+1) (bZ++([FB])) (dn bA) h)
  ·exact((ig.b h44).a [.cn [1,2,3,7,8] [0,1]]).ct hΓ cL (iS bA hm1) (ih1 (i1+1) bZ (dn bA) h)
theorem l7{aC:aG}{aa:aP}{cN:aO}{r:aO}(h:gi aC aa cN=some r):Good prog 76 [D.agg (aG.c aC),D.sl (aa.map aQ.c),D.sl (cN.map aG.c)] (D.fr 37 2 (r.map aG.c)):=by
 refine gd func76 [[some (37,2)]] 38 fun hr Γ hΓ=>?_
 rw[gi]at h;refine(aU.a [.cn [1,2,3,7,8] [0,1]]).lp hΓ (ye hΓ (fun cA h=>?_) (by have:=(j0.sl (hr _ (aD (i:=2) rfl))).1;simpa using this) cN 0 ([]:aO) rfl h);have h:=aK h;subst h;exact aU.ret hΓ
def iG(aC:aN)(k1:af->Option af):Nat->Int->af->Option af
 |0,_,_=>none
 |n1+1,th,bZ=>((jf th 1 (IntKind.i64.wrap (((aC.nodes.map Node.c).length:Int)-1))).bind fun xw=>(bif xw then((iM aC.nodes th).bind fun x31=>((nE x31.cond).bind fun sN=>(bif room (([[D.int .i64 sN.kind,D.str sN.pat.rel,D.sl (sN.pat.args.map tx),D.str sN.left,D.str sN.right]]).length+(bZ.map aH.c).length) 80 then(bif decide ((x31.parent:Int)>=th)then(k1 (([sN])++bZ))else(iG aC k1 n1 x31.parent (([sN])++bZ)))else none)))else(k1 bZ)))
def sV(aC:aN)(aa:Int):Option af:=(iG aC (fun(cA:af)=>(some cA)) fuel aa ([]:af))
def zO(aC:aN)(th:Int)(W1:List aL):St:=⟨[(1,D.int .i64 th),(2,D.ptr 0 0),(5,D.acc 1)],[Ob.box (aN.c aC),Ob.row .uq 47 5 W1]⟩
theorem Fu(hΓ:Γ.nt=35){aC:aN}{r:af}{k1:af->Option af}(eR:∀(cA:af),k1 cA=some r->Ax Γ N f79 (.q [[some (47,5)]] (D.fr 47 5 (r.map aH.c))) [1,1,1] ⟨[(5,D.acc 0)],[Ob.row .uq 47 5 (cA.map aH.c)]⟩):∀(n1:Nat) (th:Int) (bZ:af),iG aC k1 n1 th bZ=some r->Ar Γ N f79 (.q [[some (47,5)]] (D.fr 47 5 (r.map aH.c))) [1,1,0,0] n1 (zO aC th (bZ.map aH.c)):=by
 intro n
 induction n with
 |zero=>intro th bZ h;simp[iG]at h
 |succ n1 ih1=>
  intro th bZ h;rw[iG]at h;refine aR fun N1 cW cL=>?_
  obtain⟨xw,h29,h⟩:=aB h;obtain⟨h30,h⟩|⟨h30,h⟩:=aM h
  ·obtain⟨x31,h32,h⟩:=aB h;obtain⟨sN,h34,h⟩:=aB h;obtain⟨h35,h⟩:=bQ h;have ig:=((((((aU.g (fV h29)).b h30).l (iN Node.c 8 h32 rfl)).g (q9 h34)).w (br h35)).l (iN Node.c 8 h32 rfl))
   obtain⟨h36,h⟩|⟨h36,h⟩:=aM h
   ·exact((ig.b h36).a [.hl 0 [5] [4]]).exs hΓ cW ⟨[(5,D.acc 0)],[Ob.row .uq 47 5 (([[D.int .i64 sN.kind,D.str sN.pat.rel,D.sl (sN.pat.args.map tx),D.str sN.left,D.str sN.right]])++(bZ.map aH.c))]⟩ (by first| (simp only[mA]<;>rfl)| (simp only[mA,aG.c,aQ.c,aH.c,Action.c,aJ.c,aX.c,dU.c,ai.c,Node.c,aN.c,dW.c]<;>rfl)) (eR (([sN])++bZ) h)
   ·exact((ig.b h36).a [.cn [1,2,5] [0,4]]).cs hΓ cL (zO aC x31.parent (([[D.int .i64 sN.kind,D.str sN.pat.rel,D.sl (sN.pat.args.map tx),D.str sN.left,D.str sN.right]])++(bZ.map aH.c))) (by first| (simp only[mA]<;>rfl)| (simp only[mA,aG.c,aQ.c,aH.c,Action.c,aJ.c,aX.c,dU.c,ai.c,Node.c,aN.c,dW.c]<;>rfl)) (ih1 x31.parent (([sN])++bZ) h)
  ·exact(((aU.g (fV h29)).b h30).a [.hl 0 [5] [1]]).ex hΓ cW (eR bZ h)
theorem tE{aC:aN}{aa:Int}{r:af}(h:sV aC aa=some r):Good prog 79 [D.agg (aN.c aC),D.int .i64 aa] (D.fr 47 5 (r.map aH.c)):=by
 refine gd func79 [[some (47,5)]] 35 fun hr Γ hΓ=>?_
 rw[sV]at h;refine(aU.a [.cn [1,2,5] [0,1]]).lp hΓ (Fu hΓ (fun cA h=>?_) fuel aa ([]:af) h);have h:=aK h;subst h;exact aU.ret hΓ
def qS(aC:Bytes):Option Bool:=((kn aC).bind fun y1=>(some y1.2))
theorem vL{aC:Bytes}{r:Bool}(h:qS aC=some r):Good prog 254 [D.str aC] (D.bool r):=by
 refine gd func254 [[none]] 11 fun hr Γ hΓ=>?_
 rw[qS]at h;obtain⟨y1,h2,h⟩:=aB h;cases h;exact(aU.g (oH h2)).ret hΓ
def pK(aC:aH)(aa:aP):Option Bool:=((oV aC).bind fun y1=>(bif !(y1)then(some false)else((jZ aa).bind fun y4=>(bif !(y4)then(some false)else((nU aa aC.left).bind fun y7=>((nU aa aC.right).bind fun y9=>(bif !(y7.2)then(some false)else(bif !(y9.2)then(some false)else(bif (aC.kind:Int)==3 then(some ((y7.1:Bytes)==y9.1))else(bif (aC.kind:Int)==4 then(some (!((y7.1:Bytes)==y9.1)))else((qS y7.1).bind fun XP=>(bif XP then((qS y9.1).bind fun KR=>(bif KR then((iU y7.1 y9.1).bind fun Pb=>(some (decide ((Pb:Int)<0))))else(some false)))else(some false)))))))))))))
theorem BF{aC:aH}{aa:aP}{r:Bool}(h:pK aC aa=some r):Good prog 236 [D.agg (aH.c aC),D.sl (aa.map aQ.c)] (D.bool r):=by
 refine gd func236 [[none]] 61 fun hr Γ hΓ=>?_
 rw[pK]at h;obtain⟨y1,h2,h⟩:=aB h;obtain⟨h3,h⟩|⟨h3,h⟩:=aM h
 ·have h:=aK h;subst h;exact(((aU.g (pq h2)).r 4 h3).T 1).ret hΓ
 ·obtain⟨y4,h5,h⟩:=aB h;have oa:=((((aU.g (pq h2)).r 2 h3).g (lB h5)).r 2 h3)
  obtain⟨h6,h⟩|⟨h6,h⟩:=aM h
  ·have h:=aK h;subst h;exact(oa.b h6).ret hΓ
  ·obtain⟨y7,h8,h⟩:=aB h;obtain⟨y9,h10,h⟩:=aB h;have ig:=(((oa.b h6).g (sI h8)).g (sI h10))
   obtain⟨h11,h⟩|⟨h11,h⟩:=aM h
   ·have h:=aK h;subst h;exact((ig.r 3 h11).T 1).ret hΓ
   ·have lC:=(ig.r 3 h11)
    obtain⟨h12,h⟩|⟨h12,h⟩:=aM h
    ·have h:=aK h;subst h;exact(lC.b h12).ret hΓ
    ·obtain⟨h13,h⟩|⟨h13,h⟩:=aM h
     ·cases h;exact((lC.b h12).b h13).ret hΓ
     ·have kw:=((lC.b h12).b h13)
      obtain⟨h14,h⟩|⟨h14,h⟩:=aM h
      ·cases h;exact(kw.b h14).ret hΓ
      ·obtain⟨XP,h16,h⟩:=aB h;have rR:=((kw.b h14).g (vL h16))
       obtain⟨h17,h⟩|⟨h17,h⟩:=aM h
       ·obtain⟨KR,h19,h⟩:=aB h;have vT:=(((rR.r 2 h17).g (vL h19)).b h17)
        obtain⟨h20,h⟩|⟨h20,h⟩:=aM h
        ·obtain⟨Pb,h22,h⟩:=aB h;cases h;exact(((vT.r 3 h20).g (sS h22)).r 2 h20).ret hΓ
        ·have h:=aK h;subst h;exact(vT.r 5 h20).ret hΓ
       ·have h:=aK h;subst h;exact((rR.r 3 h17).F 5).ret hΓ
def pJ(aC:aH)(aa:aP)(cN:aO):Option Bool:=((nB aC).bind fun y1=>(bif !(y1)then(some false)else((jZ aa).bind fun y4=>(bif !(y4)then(some false)else(bif (aC.kind:Int)==1 then((gi aC.pat aa cN).bind fun y8=>(some (decide ((((y8.map aG.c).length:Int):Int)>0))))else(bif (aC.kind:Int)==2 then((gi aC.pat aa cN).bind fun Gs=>(some ((((Gs.map aG.c).length:Int):Int)==0)))else((pK aC aa).bind fun sy=>(some sy))))))))
theorem BE{aC:aH}{aa:aP}{cN:aO}{r:Bool}(h:pJ aC aa cN=some r):Good prog 205 [D.agg (aH.c aC),D.sl (aa.map aQ.c),D.sl (cN.map aG.c)] (D.bool r):=by
 refine gd func205 [[none]] 38 fun hr Γ hΓ=>?_
 rw[pJ]at h;obtain⟨y1,h2,h⟩:=aB h;obtain⟨h3,h⟩|⟨h3,h⟩:=aM h
 ·have h:=aK h;subst h;exact(((aU.g (gh h2)).r 4 h3).T 1).ret hΓ
 ·obtain⟨y4,h5,h⟩:=aB h;have oa:=((((aU.g (gh h2)).r 2 h3).g (lB h5)).r 2 h3)
  obtain⟨h6,h⟩|⟨h6,h⟩:=aM h
  ·have h:=aK h;subst h;exact(oa.b h6).ret hΓ
  ·obtain⟨h7,h⟩|⟨h7,h⟩:=aM h
   ·obtain⟨y8,h9,h⟩:=aB h;cases h;exact(((oa.b h6).b h7).g (l7 h9)).ret hΓ
   ·have ig:=((oa.b h6).b h7)
    obtain⟨h10,h⟩|⟨h10,h⟩:=aM h
    ·obtain⟨Gs,h12,h⟩:=aB h;cases h;exact((ig.b h10).g (l7 h12)).ret hΓ
    ·obtain⟨sy,h14,h⟩:=aB h;have h:=aK h;subst h;exact((ig.b h10).g (BF h14)).ret hΓ
def sX(aC:aX):Option aX:=((ko aC.facts).bind fun y1=>((oX aC.bind).bind fun y3=>(some (⟨y1,y3⟩:aX))))
theorem Eo{aC:aX}{r:aX}(h:sX aC=some r):Good prog 206 [D.agg (aX.c aC)] (D.agg [D.fr 37 2 (r.facts.map aG.c),D.fr 137 2 (r.bind.map aQ.c)]):=by
 refine gd func206 [[some (37,2),some (137,2)]] 10 fun hr Γ hΓ=>?_
 rw[sX]at h;obtain⟨y1,h2,h⟩:=aB h;obtain⟨y3,h4,h⟩:=aB h;cases h;exact(((aU.a [.n 5]).g (rO h2)).g (tG h4)).ret hΓ
def lY(aC:bE)(aa:aH)(cN:aO)(i1:Nat)(bh:aX)(k2:bE->Option bE):aO->Nat->bE->Option bE
 | [],i2,j5=>(k2 j5)
 |jM::uO,i2,j5=>((jb aa.pat jM bh.bind).bind fun S2=>(bif S2.2 then((ko bh.facts).bind fun S3=>((eV jM).bind fun MU=>(bif room ((S3.map aG.c).length+([[D.str MU.rel,D.sl (MU.args.map tx)]]).length) 40 then(bif room ((j5.map aX.c).length+([[D.sl ((S3.map aG.c)++([[D.str MU.rel,D.sl (MU.args.map tx)]])),D.sl (S2.1.map aQ.c)]]).length) 48 then(lY aC aa cN i1 bh k2 uO (i2+1) (j5++([(⟨S3++([MU]),S2.1⟩:aX)])))else none)else none)))else(lY aC aa cN i1 bh k2 uO (i2+1) j5)))
def gJ(aC:bE)(aa:aH)(cN:aO)(k1:bE->Option bE):bE->Nat->bE->Option bE
 | [],i1,bZ=>(k1 bZ)
 |bh::cV,i1,bZ=>(bif (aa.kind:Int) != 1 then((pJ aa bh.bind cN).bind fun a3F=>(bif a3F then((sX bh).bind fun Pc=>(bif room ((bZ.map aX.c).length+([[D.sl (Pc.facts.map aG.c),D.sl (Pc.bind.map aQ.c)]]).length) 48 then(gJ aC aa cN k1 cV (i1+1) (bZ++([Pc])))else none))else(gJ aC aa cN k1 cV (i1+1) bZ)))else(bif decide (cN.length<=maxLen)then(lY aC aa cN i1 bh (fun(uM:bE)=>(gJ aC aa cN k1 cV (i1+1) uM)) cN 0 bZ)else none))
def sY(aC:bE)(aa:aH)(cN:aO):Option bE:=(gJ aC aa cN (fun(cA:bE)=>(some cA)) aC 0 ([]:bE))
def zU(aC:bE)(aa:aH)(cN:aO)(W0:List aL)(dQ:Int):St:=⟨[(0,D.sl (aC.map aX.c)),(2,D.sl (cN.map aG.c)),(4,D.ptr 0 0),(7,D.acc 1),(8,D.int .i64 dQ)],[Ob.box (aH.c aa),Ob.row .uq 55 2 W0]⟩
def zV(aC:bE)(aa:aH)(cN:aO)(i1:Nat)(W0:List aL)(dQ:Int):St:=⟨[(0,D.sl (aC.map aX.c)),(2,D.sl (cN.map aG.c)),(4,D.ptr 0 0),(7,D.acc 1),(8,D.int .i64 (i1:Int)),(9,D.int .i64 dQ)],[Ob.box (aH.c aa),Ob.row .uq 55 2 W0]⟩
theorem G8(hΓ:Γ.nt=79){aC:bE}{aa:aH}{cN:aO}{i1:Nat}{bh:aX}{r:bE}{k2:bE->Option bE}(Ak:∀(uM:bE),k2 uM=some r->Ax Γ N f138 (.q [[some (55,2)]] (D.fr 55 2 (r.map aX.c))) [1,1,0,1,0,0,1,1] ⟨[(0,D.sl (aC.map aX.c)),(2,D.sl (cN.map aG.c)),(4,D.ptr 0 0),(7,D.acc 1),(8,D.int .i64 (i1:Int))],[Ob.box (aH.c aa),Ob.row .uq 55 2 (uM.map aX.c)]⟩)(hx1:(aC)[i1]?=some bh)(hm2:cN.length<=maxLen):∀(rest:aO) (i2:Nat) (j5:bE),cN.drop i2=rest->lY aC aa cN i1 bh k2 rest i2 j5=some r->Ar Γ N f138 (.q [[some (55,2)]] (D.fr 55 2 (r.map aX.c))) [1,1,0,1,0,0,1,0,0,1,1,0] (rest.length+1) (zV aC aa cN i1 (j5.map aX.c) (i2:Int)):=by
 intro rest
 induction rest with
 |nil=>
  intro i2 j5 hd2 h;rw[lY]at h;refine aR fun N2 um sL=>?_
  exact((aU.ge aG.c hd2).a [.hl 3 [0,2,4,7,8] [0,1]]).ex hΓ um (Ak j5 h)
 |cons jM uO ih2=>
  intro i2 j5 hd2 h;rw[lY]at h;refine aR fun N2 um sL=>?_
  obtain⟨S2,h652,h⟩:=aB h;have GX:=(((((aU.lt aG.c hd2).a [.n 16]).l (bI aG.c 2 (dc hd2) rfl)).l (bI aX.c 2 hx1 rfl)).g (ue h652))
  obtain⟨h653,h⟩|⟨h653,h⟩:=aM h
  ·obtain⟨S3,h660,h⟩:=aB h;obtain⟨MU,h662,h⟩:=aB h;obtain⟨h663,h⟩:=bQ h;obtain⟨h664,h⟩:=bQ h;exact(((((((((GX.b h653).a [.n2 [0,1,2,3,4,5,6,7,8,9,10,11,14,12,13,15,16,17,18] [0,1,2,3,4,5,6,7,8,9,10,11,13,14,12,15,16,17,18] 13 17 [0,12] [2,3,4,5,6]]).l (bI aX.c 2 hx1 rfl)).g (rO h660)).l (bI aG.c 2 (dc hd2) rfl)).g (gD h662)).w (br h663)).w (br h664)).a [.cn [0,2,4,7,8,9] [0,8]]).cs hΓ sL (zV aC aa cN i1 ((j5.map aX.c)++([[D.sl ((S3.map aG.c)++([[D.str MU.rel,D.sl (MU.args.map tx)]])),D.sl (S2.1.map aQ.c)]])) (IntKind.i64.wrap ((i2:Int)+1))) (by first| (simp only[iS hd2 hm2,mA]<;>rfl)| (simp only[iS hd2 hm2,mA,aG.c,aQ.c,aH.c,Action.c,aJ.c,aX.c,dU.c,ai.c,Node.c,aN.c,dW.c]<;>rfl)) (ih2 (i2+1) (j5++([(⟨S3++([MU]),S2.1⟩:aX)])) (dn hd2) h)
  ·exact((GX.b h653).a [.cn [0,2,4,7,8,9] [0,1]]).ct hΓ sL (iS hd2 hm2) (ih2 (i2+1) j5 (dn hd2) h)
theorem G7(hΓ:Γ.nt=79){aC:bE}{aa:aH}{cN:aO}{r:bE}{k1:bE->Option bE}(eR:∀(cA:bE),k1 cA=some r->Ax Γ N f138 (.q [[some (55,2)]] (D.fr 55 2 (r.map aX.c))) [1,1,1] ⟨[(7,D.acc 0)],[Ob.row .uq 55 2 (cA.map aX.c)]⟩)(hm1:aC.length<=maxLen):∀(rest:bE) (i1:Nat) (bZ:bE),aC.drop i1=rest->gJ aC aa cN k1 rest i1 bZ=some r->Ar Γ N f138 (.q [[some (55,2)]] (D.fr 55 2 (r.map aX.c))) [1,1,0,1,0] (rest.length+1) (zU aC aa cN (bZ.map aX.c) (i1:Int)):=by
 intro rest
 induction rest with
 |nil=>
  intro i1 bZ bA h;rw[gJ]at h;refine aR fun N1 cW cL=>?_
  exact((aU.ge aX.c bA).a [.hl 0 [7] [1]]).ex hΓ cW (eR bZ h)
 |cons bh cV ih1=>
  intro i1 bZ bA h;rw[gJ]at h;refine aR fun N1 cW cL=>?_
  obtain⟨h563,h⟩|⟨h563,h⟩:=aM h
  ·obtain⟨a3F,h565,h⟩:=aB h;have Jd:=(((((aU.lt aX.c bA).b h563).a [.n 7]).l (bI aX.c 2 (dc bA) rfl)).g (BE h565))
   obtain⟨h566,h⟩|⟨h566,h⟩:=aM h
   ·obtain⟨Pc,h568,h⟩:=aB h;obtain⟨h569,h⟩:=bQ h;exact(((((Jd.b h566).l (bI aX.c 2 (dc bA) rfl)).g (Eo h568)).w (br h569)).a [.cn [0,2,4,7,8] [0,5]]).cs hΓ cL (zU aC aa cN ((bZ.map aX.c)++([[D.sl (Pc.facts.map aG.c),D.sl (Pc.bind.map aQ.c)]])) (IntKind.i64.wrap ((i1:Int)+1))) (by first| (simp only[iS bA hm1,mA]<;>rfl)| (simp only[iS bA hm1,mA,aG.c,aQ.c,aH.c,Action.c,aJ.c,aX.c,dU.c,ai.c,Node.c,aN.c,dW.c]<;>rfl)) (ih1 (i1+1) (bZ++([Pc])) (dn bA) h)
   ·exact((Jd.b h566).a [.cn [0,2,4,7,8] [0,1]]).ct hΓ cL (iS bA hm1) (ih1 (i1+1) bZ (dn bA) h)
  ·obtain⟨h665,h⟩:=bQ h;refine(((aU.lt aX.c bA).b h563).a [.cn [0,2,4,7,8,9] [0,1]]).lp hΓ (G8 hΓ (fun uM h=>?_) ((drop_cons bA).1) (ay h665) cN 0 bZ rfl h);exact(aU.a [.cn [0,2,4,7,8] [0,1]]).ct hΓ cL (iS bA hm1) (ih1 (i1+1) uM (dn bA) h)
theorem Ep{aC:bE}{aa:aH}{cN:aO}{r:bE}(h:sY aC aa cN=some r):Good prog 138 [D.sl (aC.map aX.c),D.agg (aH.c aa),D.sl (cN.map aG.c)] (D.fr 55 2 (r.map aX.c)):=by
 refine gd func138 [[some (55,2)]] 79 fun hr Γ hΓ=>?_
 rw[sY]at h;refine(aU.a [.cn [0,2,4,7,8] [0,1]]).lp hΓ (G7 hΓ (fun cA h=>?_) (by have:=(j0.sl (hr _ (aD (i:=0) rfl))).1;simpa using this) aC 0 ([]:bE) rfl h);have h:=aK h;subst h;exact aU.ret hΓ
def jL(aC:af)(aa:aO)(k1:bE->Option bE):af->Nat->bE->Option bE
 | [],i1,bO=>(k1 bO)
 |bh::cV,i1,bO=>((sY bO bh aa).bind fun pP=>(jL aC aa k1 cV (i1+1) pP))
def ny(aC:af)(aa:aO):Option bE:=(jL aC aa (fun(cA:bE)=>(some cA)) aC 0 ([(⟨[],[]⟩:aX)]))
def xX(aC:af)(aa:aO)(W0:List aL)(dQ:Int):St:=⟨[(0,D.sl (aC.map aH.c)),(1,D.sl (aa.map aG.c)),(5,D.acc 0),(6,D.int .i64 dQ)],[Ob.row .uq 55 2 W0]⟩
theorem Dm(hΓ:Γ.nt=23){aC:af}{aa:aO}{r:bE}{k1:bE->Option bE}(eR:∀(cA:bE),k1 cA=some r->Ax Γ N f78 (.q [[some (55,2)]] (D.fr 55 2 (r.map aX.c))) [1,1,1] ⟨[(5,D.acc 0)],[Ob.row .uq 55 2 (cA.map aX.c)]⟩)(hm1:aC.length<=maxLen):∀(rest:af) (i1:Nat) (bO:bE),aC.drop i1=rest->jL aC aa k1 rest i1 bO=some r->Ar Γ N f78 (.q [[some (55,2)]] (D.fr 55 2 (r.map aX.c))) [1,1,0,1,0] (rest.length+1) (xX aC aa (bO.map aX.c) (i1:Int)):=by
 intro rest
 induction rest with
 |nil=>
  intro i1 bO bA h;rw[jL]at h;refine aR fun N1 cW cL=>?_
  exact((aU.ge aH.c bA).a [.hl 0 [5] [0]]).ex hΓ cW (eR bO h)
 |cons bh cV ih1=>
  intro i1 bO bA h;rw[jL]at h;refine aR fun N1 cW cL=>?_
  obtain⟨pP,h23,h⟩:=aB h;exact((((aU.lt aH.c bA).l (bI aH.c 5 (dc bA) rfl)).g (Ep h23)).a [.cn [0,1,5,6] [1]]).ct hΓ cL (iS bA hm1) (ih1 (i1+1) pP (dn bA) h)
theorem CI{aC:af}{aa:aO}{r:bE}(h:ny aC aa=some r):Good prog 78 [D.sl (aC.map aH.c),D.sl (aa.map aG.c)] (D.fr 55 2 (r.map aX.c)):=by
 refine gd func78 [[some (55,2)]] 23 fun hr Γ hΓ=>?_
 rw[ny]at h;refine(aU.a [.cn [0,1,5,6] [0]]).lps hΓ (xX aC aa ([[D.sl ([]),D.sl ([])]]) 0) (by first| (simp only[mA]<;>rfl)| (simp only[mA,aG.c,aQ.c,aH.c,Action.c,aJ.c,aX.c,dU.c,ai.c,Node.c,aN.c,dW.c]<;>rfl)) (Dm hΓ (fun cA h=>?_) (by have:=(j0.sl (hr _ (aD (i:=0) rfl))).1;simpa using this) aC 0 ([(⟨[],[]⟩:aX)]) rfl h);have h:=aK h;subst h;exact aU.ret hΓ
def jj(aC:aN)(aa:aO)(y1:aO)(k1:bS->Option aN):Nat->Int->bS->Option aN
 |0,_,_=>none
 |n1+1,uR,rU=>(bif decide ((uR:Int)<((rU.map ai.c).length:Int))then((iM rU uR).bind fun x26=>((gi x26.shape ([]) aa).bind fun xw=>(jj aC aa y1 k1 n1 (IntKind.i64.wrap (uR+1)) (rU.set uR.toNat (⟨x26.shape,xw⟩:ai)))))else(k1 rU))
def iI(aC:aN)(aa:aO)(y1:aO)(si:bS)(k2:bR->Option aN):Nat->Int->bR->Option aN
 |0,_,_=>none
 |n2+1,oP,ld=>(bif decide ((oP:Int)<((ld.map Node.c).length:Int))then((sV (⟨aC.rules,aC.ends,si,ld,y1,aC.cS⟩:aN) oP).bind fun VU=>((ny VU aa).bind fun y82=>((iM ld oP).bind fun x84=>(iI aC aa y1 si k2 n2 (IntKind.i64.wrap (oP+1)) (ld.set oP.toNat (⟨x84.parent,x84.cond,x84.ot,y82⟩:Node))))))else(k2 ld))
def ql(aC:aN)(aa:aO):Option aN:=((ko aa).bind fun y1=>(jj aC aa y1 (fun(si:bS)=>(iI aC aa y1 si (fun(pR:bR)=>(some (⟨aC.rules,aC.ends,si,pR,y1,aC.cS⟩:aN))) fuel 0 aC.nodes)) fuel 0 aC.bM))
def zW(aC:aN)(aa:aO)(y1:aO)(uR:Int)(W1:List aL):St:=⟨[(1,D.acc 0),(2,D.ptr 1 0),(4,D.ptr 2 0),(5,D.int .i64 uR)],[Ob.row .uq 37 2 (aa.map aG.c),Ob.box [D.acc 3,D.acc 4,D.acc 5,D.acc 6,D.acc 7,D.int .i64 aC.cS],Ob.box [D.nil,D.nil,D.nil,D.nil,D.nil,D.int .i64 0],Ob.row .uq 80 4 (aC.rules.map aJ.c),Ob.row .uq 3 1 (aC.ends.map mR),Ob.row .uq 93 3 W1,Ob.row .uq 50 8 (aC.nodes.map Node.c),Ob.row .uq 37 2 (y1.map aG.c)]⟩
theorem GB(hΓ:Γ.nt=48){aC:aN}{aa:aO}{y1:aO}{r:aN}{k1:bS->Option aN}(eR:∀(si:bS),k1 si=some r->Ax Γ N f112 (.q [[some (80,4),some (3,1),some (93,3),some (50,8),some (37,2),none]] (D.agg [D.fr 80 4 (r.rules.map aJ.c),D.fr 3 1 (r.ends.map mR),D.fr 93 3 (r.bM.map ai.c),D.fr 50 8 (r.nodes.map Node.c),D.fr 37 2 (r.facts.map aG.c),D.int .i64 r.cS])) [1,1,1] ⟨[(1,D.acc 0),(2,D.ptr 1 0),(4,D.ptr 2 0)],[Ob.row .uq 37 2 (aa.map aG.c),Ob.box [D.acc 3,D.acc 4,D.acc 5,D.acc 6,D.acc 7,D.int .i64 aC.cS],Ob.box [D.nil,D.nil,D.nil,D.nil,D.nil,D.int .i64 0],Ob.row .uq 80 4 (aC.rules.map aJ.c),Ob.row .uq 3 1 (aC.ends.map mR),Ob.row .uq 93 3 (si.map ai.c),Ob.row .uq 50 8 (aC.nodes.map Node.c),Ob.row .uq 37 2 (y1.map aG.c)]⟩):∀(n1:Nat) (uR:Int) (rU:bS),jj aC aa y1 k1 n1 uR rU=some r->Ar Γ N f112 (.q [[some (80,4),some (3,1),some (93,3),some (50,8),some (37,2),none]] (D.agg [D.fr 80 4 (r.rules.map aJ.c),D.fr 3 1 (r.ends.map mR),D.fr 93 3 (r.bM.map ai.c),D.fr 50 8 (r.nodes.map Node.c),D.fr 37 2 (r.facts.map aG.c),D.int .i64 r.cS])) [1,1,0,1,0] n1 (zW aC aa y1 uR (rU.map ai.c)):=by
 intro n
 induction n with
 |zero=>intro uR rU h;simp[jj]at h
 |succ n1 ih1=>
  intro uR rU h;rw[jj]at h;refine aR fun N1 cW cL=>?_
  obtain⟨h25,h⟩|⟨h25,h⟩:=aM h
  ·obtain⟨x26,h27,h⟩:=aB h;obtain⟨xw,h29,h⟩:=aB h;exact(((((((((aU.b h25).a [.n 11]).i (fc ai.c 3 h27)).o 3 2 .uq (cH ai.c (dR h27))).a [.d (D.fr 37 2 (xw.map aG.c))]).w (show Good prog 76 [D.agg (aG.c x26.shape),D.sl ([]),D.sl (aa.map aG.c)] (D.fr 37 2 (xw.map aG.c))from by first| (simpa only[b8,bC,bf,bX,bY]using l7 h29)|exact l7 h29)).i (fc ai.c 3 h27)).w (show(rU.map ai.c)[uR.toNat]?=some [D.str x26.shape.rel,D.sl (x26.shape.args.map tx),D.sl (x26.facts.map aG.c)]from cH ai.c (dR h27))).a [.row [D.str x26.shape.rel,D.sl (x26.shape.args.map tx),D.sl (x26.facts.map aG.c)],.cn [1,2,4,5] [0,1,2,3,4,5,6,7]]).cs hΓ cL (zW aC aa y1 (IntKind.i64.wrap (uR+1)) ((rU.map ai.c).set uR.toNat [D.str x26.shape.rel,D.sl (x26.shape.args.map tx),D.sl (xw.map aG.c)])) (by first| (simp only[mA]<;>rfl)| (simp only[mA,aG.c,aQ.c,aH.c,Action.c,aJ.c,aX.c,dU.c,ai.c,Node.c,aN.c,dW.c]<;>rfl)) (ih1 (IntKind.i64.wrap (uR+1)) (rU.set uR.toNat (⟨x26.shape,xw⟩:ai)) h)
  ·exact((aU.b h25).a [.hl 0 [1,2,4] [0,1,2,3,4,5,6,7]]).ex hΓ cW (eR rU h)
def zX(aC:aN)(aa:aO)(y1:aO)(si:bS)(oP:Int)(W1:List aL):St:=⟨[(1,D.acc 0),(2,D.ptr 1 0),(4,D.ptr 2 0),(6,D.int .i64 oP)],[Ob.row .uq 37 2 (aa.map aG.c),Ob.box [D.acc 3,D.acc 4,D.acc 5,D.acc 6,D.acc 7,D.int .i64 aC.cS],Ob.box [D.nil,D.nil,D.nil,D.nil,D.nil,D.int .i64 0],Ob.row .uq 80 4 (aC.rules.map aJ.c),Ob.row .uq 3 1 (aC.ends.map mR),Ob.row .uq 93 3 (si.map ai.c),Ob.row .uq 50 8 W1,Ob.row .uq 37 2 (y1.map aG.c)]⟩
theorem GC(hΓ:Γ.nt=48){aC:aN}{aa:aO}{y1:aO}{si:bS}{r:aN}{k2:bR->Option aN}(Ak:∀(pR:bR),k2 pR=some r->Ax Γ N f112 (.q [[some (80,4),some (3,1),some (93,3),some (50,8),some (37,2),none]] (D.agg [D.fr 80 4 (r.rules.map aJ.c),D.fr 3 1 (r.ends.map mR),D.fr 93 3 (r.bM.map ai.c),D.fr 50 8 (r.nodes.map Node.c),D.fr 37 2 (r.facts.map aG.c),D.int .i64 r.cS])) [1,1,1,1] ⟨[(2,D.ptr 0 0),(4,D.ptr 1 0)],[Ob.box [D.acc 2,D.acc 3,D.acc 4,D.acc 5,D.acc 6,D.int .i64 aC.cS],Ob.box [D.nil,D.nil,D.nil,D.nil,D.nil,D.int .i64 0],Ob.row .uq 80 4 (aC.rules.map aJ.c),Ob.row .uq 3 1 (aC.ends.map mR),Ob.row .uq 93 3 (si.map ai.c),Ob.row .uq 50 8 (pR.map Node.c),Ob.row .uq 37 2 (y1.map aG.c)]⟩):∀(n2:Nat) (oP:Int) (ld:bR),iI aC aa y1 si k2 n2 oP ld=some r->Ar Γ N f112 (.q [[some (80,4),some (3,1),some (93,3),some (50,8),some (37,2),none]] (D.agg [D.fr 80 4 (r.rules.map aJ.c),D.fr 3 1 (r.ends.map mR),D.fr 93 3 (r.bM.map ai.c),D.fr 50 8 (r.nodes.map Node.c),D.fr 37 2 (r.facts.map aG.c),D.int .i64 r.cS])) [1,1,1,0,1,0] n2 (zX aC aa y1 si oP (ld.map Node.c)):=by
 intro n
 induction n with
 |zero=>intro oP ld h;simp[iI]at h
 |succ n2 ih2=>
  intro oP ld h;rw[iI]at h;refine aR fun N2 um sL=>?_
  obtain⟨h75,h⟩|⟨h75,h⟩:=aM h
  ·obtain⟨VU,h81,h⟩:=aB h;obtain⟨y82,h83,h⟩:=aB h;obtain⟨x84,h85,h⟩:=aB h;exact(((((((aU.b h75).a [.n2 [0,1,2,3,4,5,6,7,8,9,10] [0,1,2,3,4,5,6,7,8,9,10] 7 8 [0,1,2] [],.d (D.fr 47 5 (VU.map aH.c))]).w (show Good prog 79 [D.agg [D.sl (aC.rules.map aJ.c),D.sl (aC.ends.map mR),D.sl (si.map ai.c),D.sl (ld.map Node.c),D.sl (y1.map aG.c),D.int .i64 aC.cS],D.int .i64 oP] (D.fr 47 5 (VU.map aH.c))from by first| (simpa only[b8,bC,bf,bX,bY]using tE h81)|exact tE h81| (have t:=tE h81;simp only[b8,bX,bY,aN.c]at t;exact t))).g (CI h83)).i (fc Node.c 8 h85)).w (show(ld.map Node.c)[oP.toNat]?=some [D.int .i64 x84.parent,D.int .i64 x84.cond.kind,D.str x84.cond.pat.rel,D.sl (x84.cond.pat.args.map tx),D.str x84.cond.left,D.str x84.cond.right,D.int .i64 x84.ot,D.sl (x84.tokens.map aX.c)]from cH Node.c (dR h85))).a [.row [D.int .i64 x84.parent,D.int .i64 x84.cond.kind,D.str x84.cond.pat.rel,D.sl (x84.cond.pat.args.map tx),D.str x84.cond.left,D.str x84.cond.right,D.int .i64 x84.ot,D.sl (x84.tokens.map aX.c)],.cn [1,2,4,6] [0,1,2,3,4,5,6,7]]).cs hΓ sL (zX aC aa y1 si (IntKind.i64.wrap (oP+1)) ((ld.map Node.c).set oP.toNat [D.int .i64 x84.parent,D.int .i64 x84.cond.kind,D.str x84.cond.pat.rel,D.sl (x84.cond.pat.args.map tx),D.str x84.cond.left,D.str x84.cond.right,D.int .i64 x84.ot,D.sl (y82.map aX.c)])) (by first| (simp only[mA]<;>rfl)| (simp only[mA,aG.c,aQ.c,aH.c,Action.c,aJ.c,aX.c,dU.c,ai.c,Node.c,aN.c,dW.c]<;>rfl)) (ih2 (IntKind.i64.wrap (oP+1)) (ld.set oP.toNat (⟨x84.parent,x84.cond,x84.ot,y82⟩:Node)) h)
  ·exact((aU.b h75).a [.hl 0 [2,4] [1,2,3,4,5,6,7]]).ex hΓ um (Ak ld h)
theorem Eu{aC:aN}{aa:aO}{r:aN}(h:ql aC aa=some r):FK prog 112 [D.agg [D.fr 80 4 (aC.rules.map aJ.c),D.fr 3 1 (aC.ends.map mR),D.fr 93 3 (aC.bM.map ai.c),D.fr 50 8 (aC.nodes.map Node.c),D.fr 37 2 (aC.facts.map aG.c),D.int .i64 aC.cS],D.fr 37 2 (aa.map aG.c)] (D.agg [D.fr 80 4 (r.rules.map aJ.c),D.fr 3 1 (r.ends.map mR),D.fr 93 3 (r.bM.map ai.c),D.fr 50 8 (r.nodes.map Node.c),D.fr 37 2 (r.facts.map aG.c),D.int .i64 r.cS]):=by
 refine gdF func112 [[some (80,4),some (3,1),some (93,3),some (50,8),some (37,2),none]] 48 [D.agg [D.acc 0,D.acc 1,D.acc 2,D.acc 3,D.acc 4,D.int .i64 aC.cS],D.acc 5] [Ob.row .uq 80 4 (aC.rules.map aJ.c),Ob.row .uq 3 1 (aC.ends.map mR),Ob.row .uq 93 3 (aC.bM.map ai.c),Ob.row .uq 50 8 (aC.nodes.map Node.c),Ob.row .uq 37 2 (aC.facts.map aG.c),Ob.row .uq 37 2 (aa.map aG.c)] fun hr Γ hΓ=>?_
 rw[ql]at h;obtain⟨y1,h2,h⟩:=aB h;refine((aU.g (rO h2)).a [.cn [1,2,4,5] [5,6,7,0,1,2,3,8]]).lp hΓ (GB hΓ (fun si h=>?_) fuel 0 aC.bM h);refine(aU.a [.cn [1,2,4,6] [0,1,2,3,4,5,6,7]]).lp hΓ (GC hΓ (fun pR h=>?_) fuel 0 aC.nodes h);cases h;exact aU.ret hΓ
def sZ(aC:cU):Option (cU×aN):=((uI aC 4).bind fun y1=>((kX y1.2).bind fun y3=>((uG y1.1 8).bind fun y7=>((ql y3.1 y7.2).bind fun y9=>((dV y7.1 50).bind fun Gs=>(some (Gs.1,(⟨y9.rules,y9.ends,y9.bM,y9.nodes,y9.facts,Gs.2⟩:aN))))))))
theorem Et{aC:cU}{r:cU×aN}(h:sZ aC=some r):jP prog 58 (cU.c aC) (cU.c r.1) [] (D.agg [D.fr 80 4 (r.2.rules.map aJ.c),D.fr 3 1 (r.2.ends.map mR),D.fr 93 3 (r.2.bM.map ai.c),D.fr 50 8 (r.2.nodes.map Node.c),D.fr 37 2 (r.2.facts.map aG.c),D.int .i64 r.2.cS]):=by
 refine J9 func58 [[none,none,none],[some (80,4),some (3,1),some (93,3),some (50,8),some (37,2),none]] 19 [D.sl (aC.b.map yx),D.int .i64 aC.i,D.int .i64 aC.h] [] [] fun hr jr Γ hΓ=>?_
 rw[sZ]at h;obtain⟨y1,h2,h⟩:=aB h;obtain⟨y3,h4,h⟩:=aB h;obtain⟨y7,h8,h⟩:=aB h;obtain⟨y9,h10,h⟩:=aB h;obtain⟨Gs,h12,h⟩:=aB h;cases h;exact((((((aU.hp [[none,none,none],[none]] (G6 h2)).g (yd h4)).a [.n2 [0,1,2,3,4] [0,1,2,3,4] 2 3 [0] [0]]).hp [[none,none,none],[none]] (G1 h8)).hf [[some (80,4),some (3,1),some (93,3),some (50,8),some (37,2),none],[some (37,2)]] (Eu h10)).hp [[none,none,none],[none]] (dB h12)).ret hΓ
def kD(aC:bJ):Option aN:=((uF aC).bind fun y1=>((sZ y1).bind fun y3=>(some y3.2)))
theorem wS{aC:bJ}{r:aN}(h:kD aC=some r):Good prog 16 [D.sl (aC.map yx)] (D.agg [D.fr 80 4 (r.rules.map aJ.c),D.fr 3 1 (r.ends.map mR),D.fr 93 3 (r.bM.map ai.c),D.fr 50 8 (r.nodes.map Node.c),D.fr 37 2 (r.facts.map aG.c),D.int .i64 r.cS]):=by
 refine gd func16 [[some (80,4),some (3,1),some (93,3),some (50,8),some (37,2),none]] 6 fun hr Γ hΓ=>?_
 rw[kD]at h;obtain⟨y1,h2,h⟩:=aB h;obtain⟨y3,h4,h⟩:=aB h;cases h;exact((aU.hn (Fy h2)).hp [[none,none,none]] (Et h4)).ret hΓ
def vD(aC:aF)(aa:Bytes):Option Bytes:=((xa aC aa).bind fun y1=>(some y1))
theorem HB{aC:aF}{aa:Bytes}{r:Bytes}(h:vD aC aa=some r):Good prog 181 [D.sl (aC.map tx),D.str aa] (D.str r):=by
 refine gd func181 [[none]] 8 fun hr Γ hΓ=>?_
 rw[vD]at h;obtain⟨y1,h2,h⟩:=aB h;have h:=aK h;subst h;exact(aU.g (Dr h2)).ret hΓ
def jS(aC:aG):Option Bytes:=((gH aC).bind fun y1=>(bif !(y1)then(some ([]))else(bif decide ((aC.rel:Bytes).length+([40]:Bytes).length<=maxLen)then((vD aC.args ([44])).bind fun y5=>(bif decide ((aC.rel++([40]):Bytes).length+(y5:Bytes).length<=maxLen)then(bif decide (((aC.rel++([40]))++y5:Bytes).length+([41]:Bytes).length<=maxLen)then(some (((aC.rel++([40]))++y5)++([41])))else none)else none))else none)))
theorem sB{aC:aG}{r:Bytes}(h:jS aC=some r):Good prog 116 [D.agg (aG.c aC)] (D.str r):=by
 refine gd func116 [[none]] 14 fun hr Γ hΓ=>?_
 rw[jS]at h;obtain⟨y1,h2,h⟩:=aB h;obtain⟨h3,h⟩|⟨h3,h⟩:=aM h
 ·cases h;exact((aU.g (fF h2)).b h3).ret hΓ
 ·obtain⟨h4,h⟩:=bQ h;obtain⟨y5,h6,h⟩:=aB h;obtain⟨h7,h⟩:=bQ h;obtain⟨h8,h⟩:=bQ h;cases h;exact(((((((aU.g (fF h2)).b h3).w (ay h4)).a [.n 6]).g (HB h6)).w (ay h7)).w (ay h8)).rts hΓ (D.str (((aC.rel++([40]))++y5)++([41]))) (by first|rfl| (simp only[mA]<;>rfl)| (simp only[cC,mA]<;>rfl))
def oA(aC:aH):Option Bytes:=((nA aC).bind fun y1=>(bif !(y1)then(some ([]))else(bif (aC.kind:Int)==1 then((jS aC.pat).bind fun y5=>(some y5))else(bif (aC.kind:Int)==2 then((jS aC.pat).bind fun y8=>(bif decide (([110,111,116,32]:Bytes).length+(y8:Bytes).length<=maxLen)then(some (([110,111,116,32])++y8))else none))else((iM ([[32,61,32],[32,33,61,32],[32,60,32]]:aF) (IntKind.i64.wrap (aC.kind-3))).bind fun s11=>(bif decide ((aC.left:Bytes).length+(s11:Bytes).length<=maxLen)then(bif decide ((aC.left++s11:Bytes).length+(aC.right:Bytes).length<=maxLen)then(some ((aC.left++s11)++aC.right))else none)else none))))))
theorem A7{aC:aH}{r:Bytes}(h:oA aC=some r):Good prog 62 [D.agg (aH.c aC)] (D.str r):=by
 refine gd func62 [[none]] 30 fun hr Γ hΓ=>?_
 rw[oA]at h;obtain⟨y1,h2,h⟩:=aB h;obtain⟨h3,h⟩|⟨h3,h⟩:=aM h
 ·cases h;exact((aU.g (j9 h2)).b h3).ret hΓ
 ·have oa:=((aU.g (j9 h2)).b h3)
  obtain⟨h4,h⟩|⟨h4,h⟩:=aM h
  ·obtain⟨y5,h6,h⟩:=aB h;have h:=aK h;subst h;exact((oa.b h4).g (sB h6)).ret hΓ
  ·obtain⟨h7,h⟩|⟨h7,h⟩:=aM h
   ·obtain⟨y8,h9,h⟩:=aB h;obtain⟨h10,h⟩:=bQ h;cases h;exact((((oa.b h4).b h7).g (sB h9)).w (ay h10)).rts hΓ (D.str (([110,111,116,32])++y8)) (by first|rfl| (simp only[mA]<;>rfl)| (simp only[cC,mA]<;>rfl))
   ·obtain⟨s11,h12,h⟩:=aB h;obtain⟨h13,h⟩:=bQ h;obtain⟨h14,h⟩:=bQ h;cases h;exact(((((((oa.b h4).b h7).w (W7 (m:=3) rfl h12)).w (Vz (g:=0) (fun _=>rfl) h12)).w (ay h13)).w (ay h14)).a [.n 10,.ix (IntKind.i64.wrap (aC.kind-3)).toNat,.d (D.str s11)]).rts hΓ (D.str ((aC.left++s11)++aC.right)) (by first|rfl| (simp only[mA]<;>rfl)| (simp only[cC,mA]<;>rfl))
def qM(aC:aN)(aa:Int):Option Bytes:=(bif decide ((aa:Int)<0)then(some ([]))else(bif decide ((aa:Int)>=((aC.nodes.map Node.c).length:Int))then(some ([]))else((iM aC.nodes aa).bind fun x3=>((fO ((x3.tokens.map aX.c).length:Int)).bind fun y5=>(bif decide (([91]:Bytes).length+(y5:Bytes).length<=maxLen)then(bif decide ((([91])++y5:Bytes).length+([93]:Bytes).length<=maxLen)then(bif (aa:Int)==0 then(bif decide (([48,58,32]:Bytes).length+((([91])++y5)++([93]):Bytes).length<=maxLen)then(some (([48,58,32])++((([91])++y5)++([93]))))else none)else((fO aa).bind fun Gs=>(bif decide ((Gs:Bytes).length+([32,60,45,32]:Bytes).length<=maxLen)then((fO x3.parent).bind fun Im=>(bif decide ((Gs++([32,60,45,32]):Bytes).length+(Im:Bytes).length<=maxLen)then(bif decide (((Gs++([32,60,45,32]))++Im:Bytes).length+([58,32]:Bytes).length<=maxLen)then((oA x3.cond).bind fun KR=>(bif decide ((((Gs++([32,60,45,32]))++Im)++([58,32]):Bytes).length+(KR:Bytes).length<=maxLen)then(bif decide (((((Gs++([32,60,45,32]))++Im)++([58,32]))++KR:Bytes).length+([32]:Bytes).length<=maxLen)then(bif decide ((((((Gs++([32,60,45,32]))++Im)++([58,32]))++KR)++([32]):Bytes).length+((([91])++y5)++([93]):Bytes).length<=maxLen)then(some ((((((Gs++([32,60,45,32]))++Im)++([58,32]))++KR)++([32]))++((([91])++y5)++([93]))))else none)else none)else none))else none)else none))else none)))else none)else none)))))
theorem Bl{aC:aN}{aa:Int}{r:Bytes}(h:qM aC aa=some r):Good prog 19 [D.agg (aN.c aC),D.int .i64 aa] (D.str r):=by
 refine gd func19 [[none]] 46 fun hr Γ hΓ=>?_
 rw[qM]at h;obtain⟨h1,h⟩|⟨h1,h⟩:=aM h
 ·cases h;exact((aU.r 6 h1).T 1).ret hΓ
 ·have oa:=(aU.r 6 h1)
  obtain⟨h2,h⟩|⟨h2,h⟩:=aM h
  ·cases h;exact(oa.b h2).ret hΓ
  ·obtain⟨x3,h4,h⟩:=aB h;obtain⟨y5,h6,h⟩:=aB h;obtain⟨h7,h⟩:=bQ h;obtain⟨h8,h⟩:=bQ h;have ig:=(((((oa.b h2).l (iN Node.c 8 h4 rfl)).g (l8 h6)).w (ay h7)).w (ay h8))
   obtain⟨h9,h⟩|⟨h9,h⟩:=aM h
   ·obtain⟨h10,h⟩:=bQ h;cases h;exact((ig.b h9).w (ay h10)).rts hΓ (D.str (([48,58,32])++((([91])++y5)++([93])))) (by first|rfl| (simp only[mA]<;>rfl)| (simp only[cC,mA]<;>rfl))
   ·obtain⟨Gs,h12,h⟩:=aB h;obtain⟨h13,h⟩:=bQ h;obtain⟨Im,h15,h⟩:=aB h;obtain⟨h16,h⟩:=bQ h;obtain⟨h17,h⟩:=bQ h;obtain⟨KR,h19,h⟩:=aB h;obtain⟨h20,h⟩:=bQ h;obtain⟨h21,h⟩:=bQ h;obtain⟨h22,h⟩:=bQ h;cases h;exact(((((((((((ig.b h9).a [.n 14]).g (l8 h12)).w (ay h13)).g (l8 h15)).w (ay h16)).w (ay h17)).g (A7 h19)).w (ay h20)).w (ay h21)).w (ay h22)).rts hΓ (D.str ((((((Gs++([32,60,45,32]))++Im)++([58,32]))++KR)++([32]))++((([91])++y5)++([93])))) (by first|rfl| (simp only[mA]<;>rfl)| (simp only[cC,mA]<;>rfl))
def pZ(aC:aO)(k1:Option Bool):aO->Nat->Option Bool
 | [],i1=>(k1)
 |bh::cV,i1=>((oT bh).bind fun FB=>(bif !(FB)then(some false)else(bif decide (((i1:Int):Int)>0)then((iM aC (IntKind.i64.wrap ((i1:Int)-1))).bind fun x49=>((gM x49 bh).bind fun y51=>(bif decide ((y51:Int)>=0)then(some false)else(pZ aC k1 cV (i1+1)))))else(pZ aC k1 cV (i1+1)))))
def Ah(aC:aO):Option Bool:=(pZ aC (some (decide ((((aC.map aG.c).length:Int):Int)<=24))) aC 0)
end Go.Cx
namespace Go.Cx
open Go.RowKit Go.Proofs Tryz
set_option maxRecDepth 100000
variable{Γ:sO}{N:Nat->St->Prop}
end Go.Cx
namespace Go.Cx
open Go.RowKit Go.Proofs Tryz
theorem sv{α:Type}{a pre xs:List α}{x:α}(h:a=pre++x::xs):iM a (pre.length:Int)=some x:=by
 unfold iM;have:a[pre.length]?=some x:=by rw[h];simp
 simp[this]
theorem I6{n b:Nat}(hn:n<=1099511627776)(hb:b<=128):room n b=true:=by
 unfold room maxLen;have:n*b<=1099511627776*128:=Nat.mul_le_mul hn hb;simp;omega
theorem jk{α:Type}{w:List α}{c:α->aL}{y:aL}{b:Nat}(h:w.length<1099511627776)(hb:b<=128):room ((w.map c).length+([y]).length) b=true:=I6 (by simp;omega) hb
theorem UN{α β:Type}{w:List α}{v:List β}{c:α->aL}{d:β->aL}{b:Nat}(h:w.length+v.length<=1099511627776)(hb:b<=128):room ((w.map c).length+(v.map d).length) b=true:=I6 (by simp;omega) hb
theorem Ni{β:Type}{v:List β}{d:β->aL}{b:Nat}(h:v.length<=1099511627776)(hb:b<=128):room (([]:List aL).length+(v.map d).length) b=true:=I6 (by simp;omega) hb
theorem sD{α:Type}{l:List α}(h:l.length<=1099511627776):decide (l.length<=maxLen)=true:=by unfold maxLen;simp;omega
theorem IQ{α β γ:Type}{c:β->aL}{b:Nat}{f:α->Option β}{g:α->β}{L:List α->Nat->List β->Option γ}{k:List β->Option γ}(hb:b<=128)(qZ:∀i w,L [] i w=k w)
 (pS:∀x xs i w,L (x::xs) i w=(f x).bind fun y=>bif room ((w.map c).length+([c y]).length) b then L xs (i+1) (w++[y])else none):
 ∀(l:List α) (i:Nat) (w:List β),(∀x∈l,f x=some (g x))->w.length+l.length<=1099511627776->L l i w=k (w++l.map g):=by
 intro l
 induction l with
 |nil=>intro i w _ _;simp[qZ]
 |cons x xs ih=>
  intro i w hf hl;simp only[aT]at hl;rw[pS,hf x (by simp),aA,jk (by omega) hb,aI,ih _ _ (fun y hy=>hf y (by simp[hy])) (by simp;omega)];simp
theorem Qy{α:Type}{f:α->Option Bool}{p:α->Bool}{L:List α->Nat->Option Bool}{k:Option Bool}(qZ:∀i,L [] i=k)
 (pS:∀x xs i,L (x::xs) i=(f x).bind fun y=>bif !y then some false else L xs (i+1)):∀(l:List α) (i:Nat),(∀x∈l,f x=some (p x))->L l i=bif l.all p then k else some false:=by
 intro l
 induction l with
 |nil=>intro i _;simp[qZ]
 |cons x xs ih=>
  intro i hf;rw[pS,hf x (by simp),aA,ih _ (fun y hy=>hf y (by simp[hy])),dh];cases p x<;>simp
theorem tR:∀(a:Bytes),Op.bytesLess a a=false
 | []=>rfl
 |x::a=>by simp[Op.bytesLess,tR a]
theorem zB:∀ {a b c:Bytes},Op.bytesLess a b=true->Op.bytesLess b c=true->Op.bytesLess a c=true
 | [],b,[],_,h2=>by cases b<;>simp[Op.bytesLess]at h2
 | [],b,_::_,_,_=>by simp[Op.bytesLess]
 |_::_,[],_,h1,_=>by simp[Op.bytesLess]at h1
 |_::_,_::_,[],_,h2=>by simp[Op.bytesLess]at h2
 |x::a,y::b,z::c,h1,h2=>by
  simp only[Op.bytesLess,mV,bK,aY,cQ]at h1 h2⊢;rcases h1 with h1|⟨rfl,h1⟩
  ·rcases h2 with h2|⟨rfl,h2⟩
   ·exact .inl (UInt8.lt_trans h1 h2)
   ·exact .inl h1
  ·rcases h2 with h2|⟨rfl,h2⟩
   ·exact .inl h2
   ·exact .inr ⟨rfl,zB h1 h2⟩
theorem Gx:∀ {a b:Bytes},Op.bytesLess a b=false->Op.bytesLess b a=false->a=b
 | [],[],_,_=>rfl
 | [],_::_,h,_=>by simp[Op.bytesLess]at h
 |_::_,[],_,h=>by simp[Op.bytesLess]at h
 |x::a,y::b,h1,h2=>by
  simp only[Op.bytesLess,Bool.or_eq_false_iff,oq,Ap,cT,ne_eq]at h1 h2;have e:x=y:=by
   have h3:=h1.1;have h4:=h2.1;rw[Aw]at h3 h4;exact UInt8.toNat_inj.1 (by omega)
  subst e;rw[Gx (h1.2.resolve_left (by simp)) (h2.2.resolve_left (by simp))]
theorem FQ{a b:Bytes}(h:Op.bytesLess a b=true):Op.bytesLess b a=false:=by
 cases hb:Op.bytesLess b a with
 |false=>rfl
 |true=>have:=zB h hb;rw[tR]at this;cases this
def SS(l:aF):Prop:=l.Pairwise fun a b=>Op.bytesLess a b=true
theorem Gv:∀ {a b:aF},SS a->SS b->(∀x,x∈a↔x∈b)->a=b
 | [],[],_,_,_=>rfl
 | [],y::b,_,_,h=>by have:=(h y).2 (by simp);cases this
 |x::a,[],_,_,h=>by have:=(h x).1 (by simp);cases this
 |x::a,y::b,h1,h2,h=>by
  obtain⟨p1,p2⟩:=lE.1 h1;obtain⟨q1,q2⟩:=lE.1 h2;have e:x=y:=by
   refine Gx ?_ ?_
   ·cases hb:Op.bytesLess x y with
    |false=>rfl
    |true=>
     rcases bH.1 ((h x).1 (by simp))with rfl|hx
     ·exact(tR x▸hb).symm
     ·have:=FQ (q1 x hx);rw[hb]at this;exact this
   ·cases hb:Op.bytesLess y x with
    |false=>rfl
    |true=>
     rcases bH.1 ((h y).2 (by simp))with rfl|hx
     ·exact(tR y▸hb).symm
     ·have:=FQ (p1 y hx);rw[hb]at this;exact this
  subst e;rw[Gv p2 q2 (fun z=>?_)];constructor
  ·intro hz;rcases bH.1 ((h z).1 (by simp[hz]))with rfl|Ia
   ·have:=p1 z hz;rw[tR]at this;cases this
   ·exact Ia
  ·intro hz;rcases bH.1 ((h z).2 (by simp[hz]))with rfl|Ia
   ·have:=q1 z hz;rw[tR]at this;cases this
   ·exact Ia
def vq:aF->Bytes->aF
 | [],s=>[s]
 |x::xs,s=>bif Op.bytesLess x s then x::vq xs s else bif x==s then x::xs else s::x::xs
theorem JX:∀ {l:aF} {s y:Bytes},y∈vq l s↔y=s\/y∈l
 | [],s,y=>by simp[vq]
 |x::xs,s,y=>by
  simp only[vq];cases Op.bytesLess x s with
  |true=>simp only[aI,bH,JX (l:=xs)];constructor<;>(rintro(h|h|h)<;>simp[h])
  |false=>
   simp only[aW];cases hx:x==s with
   |true=>
    simp only[cQ]at hx;subst hx;simp
   |false=>simp
theorem Qd:∀ {l:aF} {s:Bytes},SS l->SS (vq l s)
 | [],s,_=>by simp[vq,SS]
 |x::xs,s,h=>by
  obtain⟨p1,p2⟩:=lE.1 h;simp only[vq];cases hb:Op.bytesLess x s with
  |true=>
   simp only[aI];refine lE.2 ⟨fun y hy=>?_,Qd p2⟩;rcases JX.1 hy with rfl|hy
   ·exact hb
   ·exact p1 y hy
  |false=>
   simp only[aW];cases hx:x==s with
   |true=>exact h
   |false=>
    have hs:Op.bytesLess s x=true:=by
     cases hc:Op.bytesLess s x with
     |true=>rfl
     |false=>have:=Gx hb hc;subst this;simp at hx
    refine lE.2 ⟨fun y hy=>?_,h⟩;rcases bH.1 hy with rfl|hy
    ·exact hs
    ·exact zB hs (p1 y hy)
theorem xh:∀(l:aF) (s:Bytes),(vq l s).length<=l.length+1
 | [],s=>by simp[vq]
 |x::xs,s=>by
  have:=xh xs s;simp only[vq];cases Op.bytesLess x s<;>simp only[aI,aW,aT]
  ·cases x==s<;>simp
  ·omega
def eb(l:aF):aF:=l.foldl vq []
theorem CN:∀(l a:aF) (y:Bytes),y∈l.foldl vq a↔y∈a\/y∈l
 | [],a,y=>by simp
 |x::l,a,y=>by
  rw[cm,CN l,JX];simp only[bH];constructor
  ·rintro((h|h)|h)<;>simp[h]
  ·rintro(h|h|h)<;>simp[h]
theorem E4:∀(l:aF) {a:aF},SS a->SS (l.foldl vq a)
 | [],a,h=>h
 |x::l,a,h=>E4 l (Qd h)
theorem CM:∀(l a:aF),(l.foldl vq a).length<=a.length+l.length
 | [],a=>by simp
 |x::l,a=>by
  have h1:=CM l (vq a x);have h2:=xh a x;rw[cm,aT];omega
theorem rj{l:aF}{y:Bytes}:y∈eb l↔y∈l:=by unfold eb;rw[CN];simp
theorem Jq(l:aF):SS (eb l):=E4 l (by simp[SS])
theorem o4(l:aF):(eb l).length<=l.length:=by have:=CM l [];simpa[eb]using this
theorem Cf{a b:aF}(h:∀x,x∈a↔x∈b):eb a=eb b:=Gv (Jq a) (Jq b) (fun x=>by rw[rj,rj,h])
theorem PT(a:aF)(x:Bytes):vq (eb a) x=eb (a++[x]):=by simp[eb]
theorem PS(a b:aF):b.foldl vq (eb a)=eb (a++b):=by simp[eb]
theorem Cg(a b:aF):(eb b).foldl vq (eb a)=eb (a++b):=by
 rw[PS];exact Cf (fun x=>by simp[rj])
theorem lz(l:aF)(v:Bytes):(eb l).contains v=l.contains v:=by
 rw[bg];simp[rj]
def Ze(x:UInt8):Bool:=decide ((x.toNat:Int)>=97)&&decide ((x.toNat:Int)<=122)
def Zf(x:UInt8):Bool:=decide ((x.toNat:Int)>=48)&&decide ((x.toNat:Int)<=57)
def ab(x:UInt8):Bool:=Ze x||Zf x
def RS(s:Bytes):Bool:=decide ((s.length:Int)>=1)&&decide ((s.length:Int)<=8)
def ke(s:Bytes):Bool:=s.all ab&&RS s
def Xg:Bytes->Bool
 | []=>false
 |x::_=>decide ((x.toNat:Int)>=97)
def uL(s:Bytes):Bool:=ke s&&Xg s
def mF:Bytes->Bool
 | []=>false
 |x::t=>decide ((x.toNat:Int)=63)&&ke t
def rD(s:Bytes):Bool:=ke s||mF s
theorem Ct{s:Bytes}(h:ke s=true):1<=s.length/\s.length<=8:=by
 simp only[ke,RS,aY,bK]at h;omega
theorem HW{s:Bytes}(h:uL s=true):1<=s.length/\s.length<=8:=by
 simp only[uL,aY]at h;exact Ct h.1
theorem V5{s:Bytes}(h:mF s=true):1<=s.length/\s.length<=9:=by
 cases s with
 |nil=>cases h
 |cons x t=>simp only[mF,aY]at h;have:=Ct h.2;simp;omega
theorem D3{s:Bytes}(h:rD s=true):1<=s.length/\s.length<=9:=by
 simp only[rD,mV]at h;rcases h with h|h
 ·have:=Ct h;omega
 ·exact V5 h
theorem Gi{s:Bytes}(h:mF s=true):ke s=false:=by
 cases s with
 |nil=>cases h
 |cons x t=>
  simp only[mF,aY,bK]at h;simp only[ke,dh,ab,Ze,Zf];have:(x.toNat:Int)=63:=h.1;simp[this]
theorem Yc(x:UInt8):IntKind.i64.wrap ((x.toNat:Nat):Int)=(x.toNat:Int):=dZ (nS.i64.2 (by have:=x.toNat_lt;omega))
theorem Jy{n:Nat}(h:n<=1099511627776):IntKind.i64.wrap ((n:Int)+1)=((n+1:Nat):Int):=by rw[dZ (nS.i64.2 (by omega))];omega
theorem YM{n:Nat}(h:1<=n):yE n (some (D.int .i64 1)) none=some (1,n):=by
 unfold yE;have:(0:Int)<=1/\(1:Int).toNat<=n:=⟨by decide,h⟩
 simp only[bN this];rfl
theorem GM(a b c:Int):jf a b c=some (decide (a>=b)&&decide (a<=c)):=by
 unfold jf;cases decide (a>=b)<;>rfl
theorem a02(a:Bytes)(k:Option Bool)(ha:a.length<=1048576):∀(rest pre:Bytes),a=pre++rest->∀n,rest.length<n->iF a k n (pre.length:Int)=bif rest.all ab then k else some false:=by
 intro rest
 induction rest with
 |nil=>
  intro pre h n hn;obtain⟨m,rfl⟩:∃m,n=m+1:=⟨n-1,by simp at hn;omega⟩
  have e1:decide ((pre.length:Int)<(a.length:Int))=false:=by simp[h]
  rw[iF,e1];rfl
 |cons x xs ih=>
  intro pre h n hn;obtain⟨m,rfl⟩:∃m,n=m+1:=⟨n-1,by simp at hn;omega⟩
  have hl:a.length=pre.length+(xs.length+1):=by rw[h];simp
  have e1:decide ((pre.length:Int)<(a.length:Int))=true:=by rw[hl];simp;omega
  have e4:IntKind.i64.wrap ((pre.length:Int)+1)=((pre++[x]).length:Int):=by rw[Jy (by omega)];simp
  have t:=ih (pre++[x]) (by simp[h]) m (by simp at hn;omega);rw[iF,e1,aI,sv h,aA,Yc,GM,GM,aA,aA,e4,t,dh];show(bif !Ze x then(bif !Zf x then _ else _)else _)=bif (Ze x||Zf x)&&xs.all ab then k else some false
  cases Ze x<;>cases Zf x<;>simp
theorem I8(a:Bytes)(ha:a.length<=1048576):fC a=some (ke a):=by
 unfold fC;refine(a02 a _ ha a [] rfl fuel (by unfold fuel;omega)).trans ?_;rw[GM,aA];show _=some (a.all ab&&RS a);cases a.all ab<;>rfl
theorem ZO(a:Bytes)(k:Option Bool)(ha:a.length<=1048576):∀(rest pre:Bytes),a=pre++rest->∀n,rest.length<n->fP a k n (pre.length:Int)=bif rest.all ab then k else some false:=by
 intro rest
 induction rest with
 |nil=>
  intro pre h n hn;obtain⟨m,rfl⟩:∃m,n=m+1:=⟨n-1,by simp at hn;omega⟩
  have e1:decide ((pre.length:Int)<(a.length:Int))=false:=by simp[h]
  rw[fP,e1];rfl
 |cons x xs ih=>
  intro pre h n hn;obtain⟨m,rfl⟩:∃m,n=m+1:=⟨n-1,by simp at hn;omega⟩
  have hl:a.length=pre.length+(xs.length+1):=by rw[h];simp
  have e1:decide ((pre.length:Int)<(a.length:Int))=true:=by rw[hl];simp;omega
  have e4:IntKind.i64.wrap ((pre.length:Int)+1)=((pre++[x]).length:Int):=by rw[Jy (by omega)];simp
  have t:=ih (pre++[x]) (by simp[h]) m (by simp at hn;omega);rw[fP,e1,aI,sv h,aA,e4,t,dh];have c1:decide ((x.toNat:Int)>=97)= !decide ((x.toNat:Int)<97):=by rw[bg];simp
  have c2:decide ((x.toNat:Int)<=122)= !decide ((x.toNat:Int)>122):=by rw[bg];simp
  have c3:decide ((x.toNat:Int)>=48)= !decide ((x.toNat:Int)<48):=by rw[bg];simp
  have c4:decide ((x.toNat:Int)<=57)= !decide ((x.toNat:Int)>57):=by rw[bg];simp
  rw[ab,Ze,Zf,c1,c2,c3,c4];cases decide ((x.toNat:Int)<97)<;>cases decide ((x.toNat:Int)>122)<;>cases decide ((x.toNat:Int)<48)<;>cases decide ((x.toNat:Int)>57)<;>simp
theorem Hx(a:Bytes)(ha:a.length<=1048576):ez a=some (ke a):=by
 unfold ez;rw[show fP a (some true) fuel 0=_ from ZO a _ ha a [] rfl fuel (by unfold fuel;omega)];have c1:decide ((a.length:Int)>=1)= !decide ((a.length:Int)<1):=by rw[bg];simp
 have c2:decide ((a.length:Int)<=8)= !decide ((a.length:Int)>8):=by rw[bg];simp
 rw[ke,RS,c1,c2];cases decide ((a.length:Int)<1)<;>cases decide ((a.length:Int)>8)<;>cases a.all ab<;>rfl
theorem UZ(a:Bytes)(ha:a.length<=1048576):oU a=some (uL a):=by
 unfold oU;rw[I8 a ha,aA,uL];cases h:ke a with
 |false=>rfl
 |true=>
  cases a with
  |nil=>simp[ke,RS]at h
  |cons x xs=>
   rw[show iM (x::xs) 0=some x from rfl];simp only[aI,aA,Yc,GM,iw,ah,Xg];simp only[ke,dh,ab,Ze,Zf,aY,mV,bK]at h;rw[bg];simp only[aY,bK];omega
theorem TY(a:Bytes)(ha:a.length<=1048576):oS a=some (uL a):=by
 unfold oS;rw[Hx a ha,aA,uL];cases h:ke a with
 |false=>rfl
 |true=>
  cases a with
  |nil=>simp[ke,RS]at h
  |cons x xs=>rfl
theorem MI(a:Bytes)(ha:a.length<=1048576):gB a=some (mF a):=by
 unfold gB;cases a with
 |nil=>rfl
 |cons x t=>
  simp only[aT]at ha;rw[show iM (x::t) 0=some x from rfl,aA,YM (by simp),aA];have e:(((x::t).take ((x::t).length)).drop 1)=t:=by simp
  simp only[e,I8 t (by omega),aA,mF,jw];cases t with
  |nil=>cases decide ((x.toNat:Int)=63)<;>rfl
  |cons y t=>
   have e2:decide ((((x::y::t).length:Int):Int)>1)=true:=by simp;omega
   rw[e2];cases decide ((x.toNat:Int)=63)<;>simp
theorem RJ(a:Bytes)(ha:a.length<=1048576):jy a=some (mF a):=by
 unfold jy;cases a with
 |nil=>rfl
 |cons x t=>
  simp only[aT]at ha;rw[show iM (x::t) 0=some x from rfl,aA,YM (by simp),aA];have e:(((x::t).take ((x::t).length)).drop 1)=t:=by simp
  simp only[e,Hx t (by omega),aA,mF,jw];cases t with
  |nil=>cases decide ((x.toNat:Int)=63)<;>rfl
  |cons y t=>
   have e2:decide ((((x::y::t).length:Int):Int)>1)=true:=by simp;omega
   rw[e2];cases decide ((x.toNat:Int)=63)<;>simp
theorem Ui(a:Bytes)(ha:a.length<=1048576):hG a=some (rD a):=by
 unfold hG rD;rw[I8 a ha,MI a ha];cases ke a<;>simp
theorem Td(a:Bytes)(ha:a.length<=1048576):gx a=some (rD a):=by
 unfold gx rD;rw[Hx a ha,RJ a ha];cases ke a<;>simp
theorem Uk(l:aF)(h:l.length<=1099511627776):pM l=some l:=by
 unfold pM;rw[Ni h (by decide)];rfl
theorem Lt(l:aF)(h:l.length<=1099511627776):lK l=some l:=by
 unfold lK;rw[Ni h (by decide)];rfl
theorem a0L(a b:aF):nX a b=some (decide (a=b)):=by
 unfold nX;exact Yu (c:=tx) (f:=fun x y=>some (x==y)) (fun k=>iv a b k) (fun _ _=>rfl) (fun _ _ _ _=>rfl) (fun x y=>by rw[ah,bg];simp)
theorem Ta(a b:aF):nM a b=some (decide (a=b)):=by
 unfold nM;exact Yu (c:=tx) (f:=fun x y=>some (x==y)) (fun k=>kW a b k) (fun _ _=>rfl) (fun _ _ _ _=>rfl) (fun x y=>by rw[ah,bg];simp)
theorem ZZ(a b:bJ):qN a b=some (decide (a=b)):=by
 unfold qN;exact Yu (c:=mR) (f:=fun x y=>some (x==y)) (fun k=>lM a b k) (fun _ _=>rfl) (fun _ _ _ _=>rfl) (fun x y=>by rw[ah,bg];simp)
theorem Rp(l:aF)(v:Bytes):fU l v=some (l.contains v):=by
 unfold fU;have:∀(r:aF) (i:Nat),iY l v (some false) r i=some (r.contains v):=by
  intro r
  induction r with
  |nil=>intro i;rfl
  |cons x r ih=>
   intro i;rw[iY,ih,List.contains_cons];have:(x==v)=(v==x):=by rw[bg,cQ,cQ];exact eq_comm
   rw[this];cases v==x<;>rfl
 exact this l 0
theorem WR(l:aF)(v:Bytes):k8 l v=some (l.contains v):=by
 unfold k8;have:∀(r:aF) (i:Nat),k9 l v (some false) r i=some (r.contains v):=by
  intro r
  induction r with
  |nil=>intro i;rfl
  |cons x r ih=>
   intro i;rw[k9,ih,List.contains_cons];have:(x==v)=(v==x):=by rw[bg,cQ,cQ];exact eq_comm
   rw[this];cases v==x<;>rfl
 exact this l 0
theorem YX(a:aF)(s:Bytes)(k:Bool->aF->Option aF):∀(l:aF) (i:Nat) (w:aF),w.length+l.length<1099511627776->
 eD a s k l i true w=k true (w++l):=by
 intro l
 induction l with
 |nil=>intro i w _;simp[eD]
 |cons x xs ih=>
  intro i w h;simp only[aT]at h;rw[eD,bn,aW,jk (by omega) (by decide),aI,ih _ _ (by simp;omega)];simp
theorem a2o(a:aF)(s:Bytes)(k:Bool->aF->Option aF)(hk:∀w,w.length<1099511627776->k false w=some (w++[s]))(hk2:∀w,k true w=some w):∀(l:aF) (i:Nat) (w:aF),w.length+l.length+1<1099511627776->
 eD a s k l i false w=some (w++vq l s):=by
 intro l
 induction l with
 |nil=>intro i w h;rw[eD,hk w (by omega)];rfl
 |cons x xs ih=>
  intro i w h;simp only[aT]at h;rw[eD,dF,aI,vq];cases Op.bytesLess x s with
  |true=>
   simp only[bn,aW,aI];rw[jk (by omega) (by decide),aI,ih _ _ (by simp;omega)];simp
  |false=>
   simp only[dF,aI,aW];cases x==s with
   |true=>
    simp only[bn,aW,aI];rw[jk (by omega) (by decide),aI,YX _ _ _ _ _ _ (by simp;omega),hk2];simp
   |false=>
    simp only[dF,aI,aW];rw[jk (by omega) (by decide),aI];have e:room (((w.map tx)++[[D.str s]]).length+([[D.str x]]).length) 16=true:=I6 (by simp;omega) (by decide);rw[e,aI,YX _ _ _ _ _ _ (by simp;omega),hk2];simp
theorem PI(l:aF)(s:Bytes)(h:l.length+1<1099511627776):kG l s=some (vq l s):=by
 unfold kG;rw[a2o l s _ (fun w hw=>by simp only[dF,aI];rw[jk hw (by decide)];rfl) (fun w=>by simp) l 0 [] (by simpa using h)];rfl
def dd:Option Bytes->aF->aF
 |_,[]=>[]
 |p,x::xs=>if p=some x then dd (some x) xs else x::dd (some x) xs
theorem ON:∀ {l:aF} {p:Option Bytes} {y:Bytes},y∈dd p l->y∈l
 | [],p,y,h=>by cases h
 |x::xs,p,y,h=>by
  simp only[dd]at h;split at h
  ·exact bH.2 (.inr (ON h))
  ·rcases bH.1 h with rfl|h
   ·simp
   ·exact bH.2 (.inr (ON h))
theorem Tx:∀ {l:aF} {p:Option Bytes} {y:Bytes},y∈l->p=some y\/y∈dd p l
 |x::xs,p,y,h=>by
  simp only[dd];rcases bH.1 h with rfl|h
  ·by_cases hp:p=some y
   ·exact .inl hp
   ·rw[b9 hp];exact .inr (by simp)
  ·have:=Tx (p:=some x) h;split
   ·rename_i hp;rcases this with e|e
    ·exact .inl (hp.trans e)
    ·exact .inr e
   ·rcases this with e|e
    ·cases e;exact .inr (by simp)
    ·exact .inr (by simp[e])
theorem Xa:∀ {l:aF} {p:Option Bytes},l.Pairwise (fun a b=>Op.bytesLess b a=false)->(∀q,p=some q->∀y∈l,Op.bytesLess y q=false)->SS (dd p l)/\∀q,p=some q->∀y∈dd p l,Op.bytesLess q y=true
 | [],p,_,_=>⟨by simp[dd,SS],by simp[dd]⟩
 |x::xs,p,h,hp=>by
  obtain⟨p1,p2⟩:=lE.1 h;obtain⟨i1,i2⟩:=Xa (l:=xs) (p:=some x) p2 (fun q hq y hy=>by cases hq;exact p1 y hy);simp only[dd];split
  ·rename_i he;exact⟨i1,fun q hq y hy=>by rw[he]at hq;cases hq;exact i2 x rfl y hy⟩
  ·rename_i he;refine⟨lE.2 ⟨fun y hy=>i2 x rfl y hy,i1⟩,fun q hq y hy=>?_⟩;have hqx:Op.bytesLess q x=true:=by
    cases hc:Op.bytesLess q x with
    |true=>rfl
    |false=>exact absurd (by rw[hq,Gx hc (hp q hq x (by simp))]) he
   rcases bH.1 hy with rfl|hy
   ·exact hqx
   ·exact zB hqx (i2 x rfl y hy)
theorem Uq(l:aF):mU l=l.mergeSort (fun x y=> !Op.bytesLess y x):=by
 unfold mU
 congr 1
 funext x y
 rw[Go.Proofs.bytesLess_eq];rw[bg];simp[List.not_lt]
theorem MM(l:aF):(mU l).Pairwise (fun a b=>Op.bytesLess b a=false):=by
 rw[Uq];have:=List.pairwise_mergeSort (le:=fun x y=> !Op.bytesLess y x) (fun a b c h1 h2=>by
  simp only[o5]at h1 h2⊢;cases hc:Op.bytesLess c a with
  |false=>rfl
  |true=>
   cases hb:Op.bytesLess b a with
   |true=>rw[h1]at hb;cases hb
   |false=>
    cases O5:Op.bytesLess a b with
    |true=>have:=zB hc O5;rw[h2]at this;cases this
    |false=>have:=Gx hb O5;subst this;rw[h2]at hc;cases hc) (fun a b=>by
  cases hc:Op.bytesLess b a with
  |false=>simp
  |true=>simp[FQ hc]) l
 exact this.imp (fun h=>by simpa using h)
theorem Vv(l:aF):dd none (mU l)=eb l:=by
 refine Gv (Xa (MM l) (by simp)).1 (Jq l) (fun x=>?_);rw[rj];have hm:x∈mU l↔x∈l:=(xp l).mem_iff;constructor
 ·intro h;exact hm.1 (ON h)
 ·intro h;rcases Tx (p:=none) (hm.2 h)with h|h
  ·cases h
  ·exact h
theorem Tc(a:aF)(k:aF->Option aF)(ha:a.length<=1099511627775):∀(rest pre:aF) (w:aF),mU ([]++a)=pre++rest->w.length+rest.length<=1099511627775->
 dL a k rest pre.length w=k (w++dd pre.getLast? rest):=by
 have hlen:(mU ([]++a)).length=a.length:=(xp _).length_eq;intro rest
 induction rest with
 |nil=>intro pre w _ _;simp[dL,dd]
 |cons x xs ih=>
  intro pre w h hw;simp only[aT]at hw;have hl:pre.length+(xs.length+1)=a.length:=by rw[<-hlen,h];simp
  have t:=fun w'=>ih (pre++[x]) w' (by rw[h];simp)
  simp only[av,aT,bW,lm]at t;rw[dL];rcases uU pre with rfl|⟨p,z,VM⟩
  ·have e0:(((([]:aF).length:Int):Int)==0)=true:=rfl;rw[e0,aI,jk (by omega) (by decide),aI,t _ (by simp;omega)];simp[dd]
  ·rw[uT]at VM;subst VM;have e0:((((p++[z]).length:Int):Int)==0)=false:=by simp;omega
   have e1:IntKind.i64.wrap (((p++[z]).length:Int)-1)=(p.length:Int):=by
    rw[dZ (nS.i64.2 (by simp at hl⊢;omega))];simp
   have e2:iM (mU ([]++a)) (p.length:Int)=some z:=sv (xs:=x::xs) (by rw[h];simp);rw[e0,aW,e1,e2,aA];simp only[dd,lm];by_cases hz:z=x
   ·subst hz;have e3:((z:Bytes)==z)=true:=by simp
    rw[e3,bn,aW,t _ (by omega),bN rfl]
   ·have e3:((z:Bytes)==x)=false:=by simpa using hz
    rw[e3,dF,aI,jk (by omega) (by decide),aI,t _ (by simp;omega),b9 (by simpa using hz)];simp
theorem Ls(l:aF)(h:l.length<1099511627775):jC l=some (eb l):=by
 have hlen:(mU ([]++l)).length=l.length:=(xp _).length_eq;unfold jC;have e1:decide ((([]:aF)++l).length<4611686018427387904)=true:=by simp;omega
 rw[Ni (by omega) (by decide),aI,e1,aI,sD (by rw[hlen];omega),aI];have:=Tc l (fun q=>some q) (by omega) (mU ([]++l)) [] [] rfl (by rw[hlen];simp;omega);rw[show([]:aF).length=0 from rfl]at this;rw[this,<-Vv];simp
end Go.Cx
namespace Go.Cx
open Go.RowKit Go.Proofs Tryz
theorem aG.MC{p:aG}{n:Nat}(h:p.wt<=n):p.rel.length<=n:=by unfold aG.wt tw at h;omega
theorem aG.eo{p:aG}{n:Nat}(h:p.wt<=n):p.args.length<=n:=by unfold aG.wt at h;have:=rz tw p.args;omega
theorem aG.qp{p:aG}{n:Nat}(h:p.wt<=n){x:Bytes}(hx:x∈p.args):x.length<=n:=by unfold aG.wt at h;have:=s4 (w:=tw) hx;have e:tw x=x.length:=rfl;omega
theorem aH.fE{c:aH}{n:Nat}(h:c.wt<=n):c.pat.wt<=n:=by simp only[aH.wt,aG.wt]at h⊢;omega
theorem aH.yS{c:aH}{n:Nat}(h:c.wt<=n):c.left.length<=n:=by simp only[aH.wt,tw]at h;omega
theorem aH.vV{c:aH}{n:Nat}(h:c.wt<=n):c.right.length<=n:=by simp only[aH.wt,tw]at h;omega
theorem Action.fE{c:Action}{n:Nat}(h:c.wt<=n):c.pat.wt<=n:=by simp only[Action.wt,aG.wt]at h⊢;omega
theorem aJ.QT{r:aJ}{n:Nat}(h:r.wt<=n):r.name.length<=n:=by simp only[aJ.wt,tw]at h;omega
theorem aJ.qG{r:aJ}{n:Nat}(h:r.wt<=n):sM aH.wt r.conds<=n:=by simp only[aJ.wt]at h;omega
theorem aJ.FN{r:aJ}{n:Nat}(h:r.wt<=n):sM Action.wt r.cO<=n:=by simp only[aJ.wt]at h;omega
theorem aJ.og{r:aJ}{n:Nat}(h:r.wt<=n){c:aH}(hc:c∈r.conds):c.wt<=n:=by have:=aJ.qG h;have:=s4 (w:=aH.wt) hc;omega
theorem aJ.LS{r:aJ}{n:Nat}(h:r.wt<=n){c:Action}(hc:c∈r.cO):c.wt<=n:=by have:=aJ.FN h;have:=s4 (w:=Action.wt) hc;omega
theorem Ce(f:aG)(h:f.args.length<=1099511627776):eV f=some f:=by
 unfold eV;rw[Uk _ h];rfl
theorem Ol(f:aG)(h:f.args.length<=1099511627776):gz f=some f:=by
 unfold gz;rw[Lt _ h];rfl
theorem ZY(a b:aG):nu a b=some (decide (a=b)):=by
 obtain⟨a0,a1⟩:=a;obtain⟨b0,b1⟩:=b;unfold nu;simp only[Ta,aA,jw];by_cases h0:a0=b0<;>by_cases h1:a1=b1<;>simp[h0,h1]
theorem Uh(a b:aG):lT a b=some (decide (a=b)):=by
 obtain⟨a0,a1⟩:=a;obtain⟨b0,b1⟩:=b;unfold lT;simp only[a0L,aA,jw];by_cases h0:a0=b0<;>by_cases h1:a1=b1<;>simp[h0,h1]
theorem JL(a b:aG):fA a b=some (decide (a=b)):=by
 obtain⟨a0,a1⟩:=a;obtain⟨b0,b1⟩:=b;unfold fA;simp only[Ta,aA,jw];by_cases h0:a0=b0<;>by_cases h1:a1=b1<;>simp[h0,h1]
theorem Ib(a b:aO):iD a b=some (decide (a=b)):=by
 unfold iD;exact Yu (c:=aG.c) (f:=nu) (fun k=>kQ a b k) (fun _ _=>rfl) (fun _ _ _ _=>rfl) ZY
def xk(p:aG):Bool:=p.args.all rD&&(uL p.rel&&decide ((p.args.length:Int)<=3))
def sC(f:aG):Bool:=f.args.all ke&&(uL f.rel&&decide ((f.args.length:Int)<=3))
theorem YS(f:aG)(h:f.wt<=1048576):oT f=some (sC f):=by
 unfold oT;rw[Qy (f:=fC) (L:=nN f _) (fun _=>rfl) (fun _ _ _=>rfl) f.args 0 (fun x hx=>I8 x (aG.qp h hx)),UZ _ (aG.MC h),aA,ar,sC];cases f.args.all ke<;>cases uL f.rel<;>rfl
theorem Xo(f:aG)(h:f.wt<=1048576):oR f=some (sC f):=by
 unfold oR;rw[Qy (f:=ez) (L:=nJ f _) (fun _=>rfl) (fun _ _ _=>rfl) f.args 0 (fun x hx=>Hx x (aG.qp h hx)),TY _ (aG.MC h),aA,ar,sC];have c:decide ((f.args.length:Int)<=3)= !decide ((f.args.length:Int)>3):=by rw[bg];simp
 rw[c];cases f.args.all ke<;>cases uL f.rel<;>cases decide ((f.args.length:Int)>3)<;>rfl
theorem a0G(f:aG)(h:f.wt<=1048576):gI f=some (xk f):=by
 unfold gI;rw[Qy (f:=hG) (L:=kY f _) (fun _=>rfl) (fun _ _ _=>rfl) f.args 0 (fun x hx=>Ui x (aG.qp h hx)),UZ _ (aG.MC h),aA,ar,xk];cases f.args.all rD<;>cases uL f.rel<;>rfl
theorem WS(f:aG)(h:f.wt<=1048576):gH f=some (xk f):=by
 unfold gH;rw[Qy (f:=gx) (L:=kP f _) (fun _=>rfl) (fun _ _ _=>rfl) f.args 0 (fun x hx=>Td x (aG.qp h hx)),TY _ (aG.MC h),aA,ar,xk];have c:decide ((f.args.length:Int)<=3)= !decide ((f.args.length:Int)>3):=by rw[bg];simp
 rw[c];cases f.args.all rD<;>cases uL f.rel<;>cases decide ((f.args.length:Int)>3)<;>rfl
def iL(l:aF):aF:=l.filter mF
theorem td(l:aF):(iL l).length<=l.length:=Aq _ _
theorem LA(a b:aF):iL (a++b)=iL a++iL b:=List.filter_append _ _
theorem Gd(p:aG)(h:p.wt<=1048576):lg p=some (eb (iL p.args)):=by
 unfold lg;have:∀(r:aF) (i:Nat) (w:aF),(∀x∈r,x.length<=1048576)->w.length+r.length<=2097152->je p (fun q=>some q) r i w=some ((iL r).foldl vq w):=by
  intro r
  induction r with
  |nil=>intro i w _ _;rfl
  |cons x r ih=>
   intro i w hr hw;simp only[aT]at hw;have hl:=xh w x;rw[je,MI x (hr x (by simp)),aA,PI w x (by omega),aA,ih _ _ (fun y hy=>hr y (by simp[hy])) (by omega),ih _ _ (fun y hy=>hr y (by simp[hy])) (by omega)];cases hv:mF x<;>simp[iL,hv]
 exact this p.args 0 [] (fun x hx=>aG.qp h hx) (by have:=aG.eo h;simp;omega)
theorem Tf(l:aF)(hl:l.length<=2097152)(h:∀x∈l,x.length<=1048576):lN l=some (iL l):=by
 unfold lN;have:∀(r:aF) (i:Nat) (w:aF),(∀x∈r,x.length<=1048576)->w.length+r.length<=2097152->fJ l (fun q=>some q) r i w=some (w++iL r):=by
  intro r
  induction r with
  |nil=>intro i w _ _;simp[fJ,iL]
  |cons x r ih=>
   intro i w hr hw;simp only[aT]at hw;rw[fJ,RJ x (hr x (by simp)),aA,jk (by omega) (by decide),ih _ _ (fun y hy=>hr y (by simp[hy])) (by simp;omega),ih _ _ (fun y hy=>hr y (by simp[hy])) (by omega)];cases hv:mF x<;>simp[iL,hv]
 exact this l 0 [] h (by simpa using hl)
def o9(c:aH):aF:=iL (c.pat.args++[c.left,c.right])
theorem uk{c:aH}{n:Nat}(h:c.wt<=n):(o9 c).length<=n+2:=by
 have h1:=td (c.pat.args++[c.left,c.right]);have h2:=aG.eo (aH.fE h);simp only[av,aT,bW]at h1;unfold o9;omega
theorem PD(c:aH)(h:c.wt<=1048576):kj c=some (eb (o9 c)):=by
 unfold kj;have h1:=aG.eo (aH.fE h);have h2:=o4 (iL c.pat.args);have h3:=td c.pat.args;have h4:=xh (eb (iL c.pat.args)) c.left;rw[Gd _ (aH.fE h),aA,MI _ (aH.yS h),aA,MI _ (aH.vV h)];simp only[aA];rw[PI _ _ (by omega),PI _ _ (by omega),aA,PI _ _ (by omega)];simp only[aA,o9,LA,PT];cases hl:mF c.left<;>cases hr:mF c.right<;>simp[iL,hl,hr]
theorem Te(c:aH)(h:c.wt<=1048576):pH c=some (c.pat.args++[c.left,c.right]):=by
 unfold pH;have h1:=aG.eo (aH.fE h);rw[Lt _ (by omega),aA];rw[I6 (by simp;omega) (by decide)];rfl
theorem Oi(c:aH)(h:c.wt<=1048576):mW c=some (eb (o9 c)):=by
 unfold mW;have h1:=aG.eo (aH.fE h);have h5:=uk h;rw[Te c h,aA,Tf _ (by simp;omega) (fun x hx=>by
  simp only[aZ,bH,List.not_mem_nil,or_false]at hx;rcases hx with hx|rfl|rfl
  ·exact aG.qp (aH.fE h) hx
  ·exact aH.yS h
  ·exact aH.vV h),aA]
 rw[show iL (c.pat.args++[c.left,c.right])=o9 c from rfl,Ls _ (by omega)];rfl
def Cr(p:aG):Bool:=p.rel==[]&&decide ((p.args.length:Int)=0)
def n9(c:aH):Bool:=bif decide (c.kind=1)||decide (c.kind=2)then xk c.pat&&(c.left==[]&&c.right==[])else bif decide (c.kind=3)||decide (c.kind=4)||decide (c.kind=5)then Cr c.pat&&(rD c.left&&rD c.right)else false
def Gg(c:aH):Bool:=n9 c&&decide (c.kind>=3)
theorem A5{c:aH}(h:n9 c=true):1<=c.kind/\c.kind<=5:=by
 unfold n9 at h;by_cases h1:c.kind=1
 ·omega
 by_cases h2:c.kind=2
 ·omega
 by_cases h3:c.kind=3
 ·omega
 by_cases h4:c.kind=4
 ·omega
 by_cases h5:c.kind=5
 ·omega
 simp[h1,h2,h3,h4,h5]at h
theorem US(c:aH)(h:c.wt<=1048576):nB c=some (n9 c):=by
 unfold nB n9 Cr;simp only[a0G _ (aH.fE h),Ui _ (aH.yS h),Ui _ (aH.vV h),aA,ar,jw];by_cases h1:c.kind=1
 ·simp only[h1];cases xk c.pat<;>cases decide (c.left=[])<;>simp
 by_cases h2:c.kind=2
 ·simp only[h2];cases xk c.pat<;>cases decide (c.left=[])<;>simp
 by_cases h3:c.kind=3
 ·simp only[h3];cases decide (c.pat.rel=[])<;>cases decide ((c.pat.args.length:Int)=0)<;>cases rD c.left<;>simp
 by_cases h4:c.kind=4
 ·simp only[h4];cases decide (c.pat.rel=[])<;>cases decide ((c.pat.args.length:Int)=0)<;>cases rD c.left<;>simp
 by_cases h5:c.kind=5
 ·simp only[h5];cases decide (c.pat.rel=[])<;>cases decide ((c.pat.args.length:Int)=0)<;>cases rD c.left<;>simp
 simp[h1,h2,h3,h4,h5]
theorem Xp(p:aG):gb p=some (Cr p):=by
 unfold gb Cr;simp only[ar,jw];cases decide (p.rel=[])<;>rfl
theorem QJ(c:aH)(h:c.wt<=1048576):nA c=some (n9 c):=by
 unfold nA n9;simp only[WS _ (aH.fE h),Td _ (aH.yS h),Td _ (aH.vV h),Xp,aA,jw];by_cases h1:c.kind=1
 ·simp only[h1];cases xk c.pat<;>cases decide (c.left=[])<;>simp
 by_cases h2:c.kind=2
 ·simp only[h2];cases xk c.pat<;>cases decide (c.left=[])<;>simp
 by_cases h3:c.kind=3
 ·simp only[h3];cases Cr c.pat<;>cases rD c.left<;>cases rD c.right<;>simp
 by_cases h4:c.kind=4
 ·simp only[h4];cases Cr c.pat<;>cases rD c.left<;>cases rD c.right<;>simp
 by_cases h5:c.kind=5
 ·simp only[h5];cases Cr c.pat<;>cases rD c.left<;>cases rD c.right<;>simp
 simp[h1,h2,h3,h4,h5]
theorem Uj(c:aH)(h:c.wt<=1048576):oV c=some (Gg c):=by
 unfold oV Gg;rw[US c h];cases n9 c<;>rfl
theorem a2C(c:aH)(h:c.wt<=1048576):sR c=some (Gg c):=by
 unfold sR Gg;rw[QJ c h];cases n9 c<;>rfl
theorem Ug(a b:aH):nv a b=some (decide (a=b)):=by
 obtain⟨a0,a1,a2,a3⟩:=a;obtain⟨b0,b1,b2,b3⟩:=b;unfold nv;simp only[Uh,aA,jw];by_cases h0:a0=b0<;>by_cases h1:a1=b1<;>by_cases h2:a2=b2<;>by_cases h3:a3=b3<;>simp[h0,h1,h2,h3]
theorem Lr(a b:aH):j4 a b=some (decide (a=b)):=by
 obtain⟨a0,a1,a2,a3⟩:=a;obtain⟨b0,b1,b2,b3⟩:=b;unfold j4;simp only[JL,aA,jw];by_cases h0:a0=b0<;>by_cases h1:a1=b1<;>by_cases h2:a2=b2<;>by_cases h3:a3=b3<;>simp[h0,h1,h2,h3]
def It(a:Action):Bool:=bif decide (a.kind=1)||decide (a.kind=2)then xk a.pat else bif decide (a.kind=3)then Cr a.pat else false
theorem a5T(a:Action)(h:a.wt<=1048576):qR a=some (It a):=by
 unfold qR It Cr;simp only[a0G _ (Action.fE h),aA,ar,jw];by_cases h1:a.kind=1
 ·simp[h1]
 by_cases h2:a.kind=2
 ·simp[h2]
 by_cases h3:a.kind=3
 ·simp only[h3];cases decide (a.pat.rel=[])<;>simp
 simp[h1,h2,h3]
theorem a57(a:Action)(h:a.wt<=1048576):qL a=some (It a):=by
 unfold qL It;simp only[WS _ (Action.fE h),Xp,aA,jw];by_cases h1:a.kind=1
 ·simp[h1]
 by_cases h2:a.kind=2
 ·simp[h2]
 by_cases h3:a.kind=3
 ·simp[h3]
 simp[h1,h2,h3]
end Go.Cx
namespace Go.Cx
open Go.RowKit Go.Proofs Tryz
theorem Wq:∀(k v:Nat),v<10^k->1<=k->Lib.nDigits v<=k:=by
 intro k
 induction k with
 |zero=>intro v _ h;omega
 |succ k ih=>
  intro v hv _;by_cases h10:v<10
  ·rw[Lib.nDigits_small h10];omega
  ·rw[Lib.nDigits_big h10];have h3:v/10<10^k:=by rw[tu]at hv;omega
   have hk1:1<=k:=by
    cases k with
    |zero=>simp at hv;omega
    |succ k=>omega
   have:=ih (v/10) h3 hk1;omega
theorem Ov{u:Nat}(h:u<=9223372036854775808):Lib.nDigits u<=19:=Wq 19 u (by omega) (by omega)
theorem a3v(u:Nat):UInt8.ofNat (IntKind.u8.wrap (IntKind.i64.wrap (48+((u:Int)%10)))).toNat=UInt8.ofNat (48+u%10):=by
 rw[dZ (k:=.i64) (nS.i64.2 (by omega)),dZ (nS.u8.2 (by omega))]
 congr 1
theorem YT(k:Option Bytes):∀(n u:Nat) (acc:Bytes),Lib.nDigits u<=n->acc.length+Lib.nDigits u<=1000->gO k n (u:Int) acc=some (Lib.decDigits u++acc):=by
 intro n
 induction n with
 |zero=>intro u acc h _;have:=Lib.nDigits_pos u;omega
 |succ n ih=>
  intro u acc hn hl;have hp:=Lib.nDigits_pos u;have e0:(decide (0<=(u:Int))&&decide (0<(10:Int)))=true:=by simp
  have e1:decide (([UInt8.ofNat (48+u%10)]:Bytes).length+(acc:Bytes).length<=maxLen)=true:=by unfold maxLen;simp;omega
  rw[gO];simp only[a3v,e0,e1,aI];by_cases h10:u<10
  ·have e2:(((u:Int)/10:Int)==0)=true:=by rw[cQ];omega
   rw[e2,aI,Lib.decDigits,dif_pos h10,Nat.mod_eq_of_lt h10]
  ·have e2:(((u:Int)/10:Int)==0)=false:=by rw[cT];omega
   have e3:((u:Int)/10)=((u/10:Nat):Int):=by omega
   have hd:=Lib.nDigits_big h10;rw[e2,aW,e3,ih (u/10) _ (by omega) (by simp;omega)]
   conv=>rhs;rw[Lib.decDigits,dif_neg h10]
   simp
theorem a2g(m u:Nat)(h:u<=9223372036854775807):gA (m+1) (u:Int)=some (Lib.decDigits u):=by
 rw[gA];have e1:((u:Int)==(-9223372036854775808))=false:=by rw[cT];omega
 have e2:decide ((u:Int)<0)=false:=by simp
 have:=Ov (u:=u) (by omega);rw[e1,aW,e2,aW,YT _ _ _ _ (by unfold fuel;omega) (by simp;omega)];simp
theorem Th:Lib.itoa (-9223372036854775808)=[45,57,50,50,51,51,55,50,48,51,54,56,53,52,55,55,53,56,48,56]:=by
 unfold Lib.itoa;simp[Lib.decDigits]
theorem a0D(n:Int)(h:nS .i64 n):lP n=some (Lib.itoa n):=by
 have h:=nS.i64.1 h;unfold lP;rw[show fuel=4194303+1 from rfl,gA];by_cases hm:n= -9223372036854775808
 ·subst hm;rw[Th];rfl
 have e1:((n:Int)==(-9223372036854775808))=false:=by rw[cT];exact hm
 rw[e1,aW];by_cases hn:n<0
 ·have e2:decide (n<0)=true:=by simpa using hn
  have e3:IntKind.i64.wrap (0-n)=((n.natAbs:Nat):Int):=by rw[dZ (nS.i64.2 (by omega))];omega
  have hd:=Ov (u:=n.natAbs) (by omega);rw[e2,aI,e3,show(4194303:Nat)=4194302+1 from rfl,a2g _ _ (by omega),aA];have e4:decide (([45]:Bytes).length+(Lib.decDigits n.natAbs:Bytes).length<=maxLen)=true:=by unfold maxLen;rw[Lib.decDigits_length];simp;omega
  rw[e4,aI];unfold Lib.itoa;rw[bN hn];rfl
 ·have e2:decide (n<0)=false:=by simpa using hn
  have e3:n=((n.toNat:Nat):Int):=by omega
  have:=Ov (u:=n.toNat) (by omega);rw[e2,aW]
  conv=>lhs;rw[e3]
  rw[YT _ _ _ _ (by unfold fuel;omega) (by simp;omega)];unfold Lib.itoa;rw[b9 hn];simp
theorem RI(n:Int):fO n=some (Lib.itoa n):=by
 unfold fO xZ;rfl
theorem xg(n:Int)(h:nS .i64 n):(Lib.itoa n).length<=21:=by
 have:=nS.i64.1 h;exact Lib.itoa_length_le n this.1 this.2
def Cy(to:aP)(s:Bytes):Bytes:=match to with
 | []=>s
 |p::r=>bif p.var==s then p.value else Cy r s
def Jn(to:aP)(x:aH):aH:=⟨x.kind,⟨x.pat.rel,x.pat.args.map (Cy to)⟩,Cy to x.left,Cy to x.right⟩
theorem sRn(to:aP)(s:Bytes):ji s to=some (Cy to s):=by
 unfold ji;have:∀(r:aP) (i:Nat),iZ s to (some s) r i=some (Cy r s):=by
  intro r
  induction r with
  |nil=>intro i;rfl
  |cons x r ih=>
   intro i;rw[iZ,ih,Cy];cases x.var==s<;>rfl
 exact this to 0
theorem iRn(to:aP)(s:Bytes):gZ s to=some (Cy to s):=by
 unfold gZ;have:∀(r:aP) (i:Nat),gN s to (some s) r i=some (Cy r s):=by
  intro r
  induction r with
  |nil=>intro i;rfl
  |cons x r ih=>
   intro i;rw[gN,ih,Cy];cases x.var==s<;>rfl
 exact this to 0
theorem a0J(x:aH)(to:aP)(h:x.pat.args.length<=1099511627770):ic x to=some (Jn to x):=by
 unfold ic;rw[sRn,aA,sRn,aA];rw[IQ (c:=tx) (b:=16) (f:=fun a=>ji a to) (g:=Cy to) (L:=jd x to (Cy to x.left) (Cy to x.right) _) (k:=_) (by decide) (fun _ _=>rfl) (fun _ _ _ _=>rfl) _ _ _ (fun a _=>sRn to a) (by simp;omega)];rfl
theorem a27(x:aH)(to:aP)(h:x.pat.args.length<=1099511627770):jz x to=some (Jn to x):=by
 unfold jz;rw[iRn,aA,iRn,aA];rw[IQ (c:=tx) (b:=16) (f:=fun a=>gZ a to) (g:=Cy to) (L:=jX x to (Cy to x.left) (Cy to x.right) _) (k:=_) (by decide) (fun _ _=>rfl) (fun _ _ _ _=>rfl) _ _ _ (fun a _=>iRn to a) (by simp;omega)];rfl
def CO(l:aP)(t:Bytes):Bool:=l.any fun p=>p.var==t
def kJ(l:aP)(t:Bytes):aP:=bif mF t&& !CO l t then l++[⟨t,[63]++Lib.itoa ((l.length:Int)+1)⟩]else l
theorem ze(l:aP)(t:Bytes):(kJ l t).length<=l.length+1:=by
 unfold kJ;cases mF t&& !CO l t<;>simp
theorem vn:∀(ts:aF) (l:aP),(ts.foldl kJ l).length<=l.length+ts.length
 | [],l=>by simp
 |t::ts,l=>by
  have h1:=vn ts (kJ l t);have h2:=ze l t;rw[cm,aT];omega
theorem MG(l:aP)(t:Bytes)(hl:l.length<=1099511627770)(ht:t.length<=1048576):nF l t=some (kJ l t):=by
 unfold nF;rw[MI t ht,aA,kJ];cases hv:mF t with
 |false=>rfl
 |true=>
  rw[bn,aW,iw];have key:∀(k:Option aP) (r:aP) (i:Nat),lZ l t k r i=bif CO r t then some l else k:=by
   intro k r
   induction r with
   |nil=>intro i;rfl
   |cons x r ih=>
    intro i;rw[lZ,ih];simp only[CO,v7];cases x.var==t<;>simp
  rw[key];cases CO l t with
  |true=>rfl
  |false=>
   have e1:IntKind.i64.wrap (((l.map aQ.c).length:Int)+1)=(l.length:Int)+1:=by rw[dZ (nS.i64.2 (by simp;omega))];simp
   have hr:nS .i64 ((l.length:Int)+1):=nS.i64.2 (by omega);have hi:=xg _ hr;have e2:decide (([63]:Bytes).length+(Lib.itoa ((l.length:Int)+1):Bytes).length<=maxLen)=true:=by unfold maxLen;simp;omega
   simp only[aW,dF,aI];rw[e1,a0D _ hr,aA,e2,aI,jk (by omega) (by decide)];rfl
theorem NT(x y:Bytes):∀(m:List (Bytes×Bool)),GQ false y (JV x true m)=(y==x||GQ false y m)
 | []=>by simp only[JV,GQ];cases y==x<;>rfl
 |p::m=>by
  simp only[JV];cases h:x==p.1 with
  |true=>
   have h':x=p.1:=by simpa using h
   subst h';simp only[aI,GQ];cases y==p.1<;>simp
  |false=>
   simp only[aW,GQ,NT x y m];cases hy:y==p.1 with
   |true=>
    have h1:y=p.1:=by simpa using hy
    have h2:(y==x)=false:=by
     rw[cT]at h⊢;intro e;exact h (e.symm.trans h1)
    simp[h2]
   |false=>simp
theorem RC(l:aP)(x y v:Bytes):CO (l++[⟨x,v⟩]) y=(y==x||CO l y):=by
 have:(x==y)=(y==x):=by rw[bg,cQ,cQ];exact eq_comm
 simp only[CO,List.any_append,v7,FH,qe,this];cases y==x<;>simp
theorem QK(ts:aF)(hl:ts.length<=1099511627700)(h:∀x∈ts,x.length<=1048576):mN ts=some (ts.foldl kJ []):=by
 unfold mN;have key:∀(r:aF) (i:Nat) (w:aP) (m:List (Bytes×Bool)),(∀x∈r,x.length<=1048576)->w.length+r.length<=1099511627700->(∀y,GQ false y m=CO w y)->
  er ts (fun q=>some q) r i w m=some (r.foldl kJ w):=by
  intro r
  induction r with
  |nil=>intro i w m _ _ _;rfl
  |cons x r ih=>
   intro i w m hx hw hm;simp only[aT]at hw;have hr:nS .i64 ((w.length:Int)+1):=nS.i64.2 (by omega);have hi:=xg _ hr;have e1:IntKind.i64.wrap (((w.map aQ.c).length:Int)+1)=(w.length:Int)+1:=by rw[dZ (nS.i64.2 (by simp;omega))];simp
   have e2:decide (([63]:Bytes).length+(Lib.itoa ((w.length:Int)+1):Bytes).length<=maxLen)=true:=by unfold maxLen;simp;omega
   rw[er,RJ x (hx x (by simp)),aA,cm,kJ,hm x];cases hv:mF x with
   |false=>simp only[aW,Bool.false_and];exact ih _ _ _ (fun y hy=>hx y (by simp[hy])) (by omega) hm
   |true=>
    cases hh:CO w x with
    |true=>simp only[aI,bn,aW,iw];exact ih _ _ _ (fun y hy=>hx y (by simp[hy])) (by omega) hm
    |false=>
     simp only[aI,dF,iw];rw[e1,RI,aA,e2,aI,jk (by omega) (by decide),aI];exact ih _ _ _ (fun y hy=>hx y (by simp[hy])) (by simp;omega) (fun y=>by rw[NT,RC,hm])
 exact key ts 0 [] [] h (by simpa using hl) (fun y=>rfl)
def F8(p:aG):aG:=(Jn (p.args.foldl kJ []) ⟨0,p,[],[]⟩).pat
theorem a0O(p:aG)(h:p.wt<=1048576):pL p=some (F8 p):=by
 have hl:=aG.eo h;unfold pL;have key:∀(k:aP->Option aG) (r:aF) (i:Nat) (w:aP),(∀x∈r,x.length<=1048576)->w.length+r.length<=1099511627700->kE p k r i w=k (r.foldl kJ w):=by
  intro k r
  induction r with
  |nil=>intro i w _ _;rfl
  |cons x r ih=>
   intro i w hx hw;simp only[aT]at hw;have:=ze w x;rw[kE,MG w x (by omega) (hx x (by simp)),aA,ih _ _ (fun y hy=>hx y (by simp[hy])) (by omega)];rfl
 rw[key _ _ _ _ (fun x hx=>aG.qp h hx) (by simp;omega),a0J _ _ (by simp;omega)];rfl
theorem Zb(p:aG)(h:p.wt<=1048576):p0 p=some (F8 p):=by
 have hl:=aG.eo h;unfold p0;rw[QK _ (by omega) (fun x hx=>aG.qp h hx),aA,a27 _ _ (by simp;omega)];rfl
def vu(l:af):aF:=l.flatMap fun c=>c.pat.args++[c.left,c.right]
theorem PN(l:af):(vu l).length<=3*sM aH.wt l:=by
 unfold vu
 induction l with
 |nil=>simp
 |cons x l ih=>
  rw[ei,av,mo];have:=aG.eo (aH.fE (c:=x) (bL _));simp only[av,aT,bW];omega
def nZ(r:aJ):aP:=(vu r.conds).foldl kJ []
def gS(r:aJ):af:=r.conds.map (Jn (nZ r))
theorem Ua(a:aJ)(i:Nat)(c:aH)(k:aP->Option aP):∀(r:aF) (j:Nat) (w:aP),(∀x∈r,x.length<=1048576)->w.length+r.length<=1099511627700->gm a i c k r j w=k (r.foldl kJ w):=by
 intro r
 induction r with
 |nil=>intro i w _ _;rfl
 |cons x r ih=>
  intro i w hx hw;simp only[aT]at hw;have:=ze w x;rw[gm,MG w x (by omega) (hx x (by simp)),aA,ih _ _ (fun y hy=>hx y (by simp[hy])) (by omega)];rfl
theorem a0E(r:aJ)(h:r.wt<=1048576):oJ r=some (nZ r):=by
 unfold oJ;have key:∀(l:af) (i:Nat) (w:aP),(∀c∈l,c.wt<=1048576)->w.length+3*sM aH.wt l<=1099511627700->gl r (fun q=>some q) l i w=some ((vu l).foldl kJ w):=by
  intro l
  induction l with
  |nil=>intro i w _ _;rfl
  |cons c l ih=>
   intro i w hc hw;rw[mo]at hw;have OV:=hc c (by simp);have ha:=aG.eo (aH.fE (c:=c) (bL _));have h1:=vn c.pat.args w;have h2:=ze (c.pat.args.foldl kJ w) c.left;have h3:=ze (kJ (c.pat.args.foldl kJ w) c.left) c.right;rw[gl,sD (by omega),aI,Ua _ _ _ _ _ _ _ (fun x hx=>aG.qp (aH.fE OV) hx) (by omega),MG _ _ (by omega) (aH.yS OV),aA,MG _ _ (by omega) (aH.vV OV),aA,
    ih _ _ (fun y hy=>hc y (by simp[hy])) (by omega)]
   simp[vu]
 have:=aJ.qG h;exact key r.conds 0 [] (fun c hc=>aJ.og h hc) (by simp;omega)
theorem ZW(r:aJ)(h:r.wt<=1048576):oD r=some (nZ r):=by
 unfold oD;have hw:=aJ.qG h;have key:∀(k:aF->Option aP) (l:af) (i:Nat) (w:aF),(∀c∈l,c.wt<=1048576)->w.length+3*sM aH.wt l<=1099511627700->ff r k l i w=k (w++vu l):=by
  intro k l
  induction l with
  |nil=>intro i w _ _;simp[ff,vu]
  |cons c l ih=>
   intro i w hc hw;rw[mo]at hw;have OV:=hc c (by simp);have ha:=aG.eo (aH.fE (c:=c) (bL _));rw[ff,Te c OV,aA,UN (by simp;omega) (by decide),aI,ih _ _ (fun y hy=>hc y (by simp[hy])) (by simp;omega)];simp[vu]
 have hl:=PN r.conds;rw[key _ _ _ _ (fun c hc=>aJ.og h hc) (by simp;omega),dM,QK _ (by omega) ?_]
 ·rfl
 ·intro x hx;unfold vu at hx;obtain⟨c,hc,hx⟩:=bq.1 hx;have OV:=aJ.og h hc;rcases aZ.1 hx with hx|hx
  ·exact aG.qp (aH.fE OV) hx
  ·simp only[bH,List.not_mem_nil,or_false]at hx;rcases hx with rfl|rfl
   ·exact aH.yS OV
   ·exact aH.vV OV
theorem a04(r:aJ)(h:r.wt<=1048576):oI r=some (gS r):=by
 unfold oI;have hw:=aJ.qG h;have hl:=rz aH.wt r.conds;rw[a0E r h,aA];rw[IQ (c:=aH.c) (b:=80) (f:=fun a=>ic a (nZ r)) (g:=Jn (nZ r)) (L:=jc r (nZ r) _) (k:=_) (by decide) (fun _ _=>rfl) (fun _ _ _ _=>rfl) _ _ _ (fun c hc=>a0J c _ (by have:=aG.eo (aH.fE (aJ.og h hc));omega)) (by simp;omega)];simp[gS]
theorem ZQ(r:aJ)(h:r.wt<=1048576):oC r=some (gS r):=by
 unfold oC;have hw:=aJ.qG h;have hl:=rz aH.wt r.conds;rw[ZW r h,aA];rw[IQ (c:=aH.c) (b:=80) (f:=fun a=>jz a (nZ r)) (g:=Jn (nZ r)) (L:=jW r (nZ r) _) (k:=_) (by decide) (fun _ _=>rfl) (fun _ _ _ _=>rfl) _ _ _ (fun c hc=>a27 c _ (by have:=aG.eo (aH.fE (aJ.og h hc));omega)) (by simp;omega)];simp[gS]
end Go.Cx
namespace Go.Cx
open Go.RowKit Go.Proofs Tryz
def XW(n:aN):Prop:=n.nodes.length<=1048576/\∀x∈n.nodes,x.cond.wt<=1048576
theorem Wx(s:Bytes):Cy [] s=s:=rfl
theorem UG(x:aH):Jn [] x=x:=by
 have:x.pat.args.map (Cy [])=x.pat.args:=by
  rw[show(Cy [])=id from funext Wx];simp
 unfold Jn;rw[this];rfl
def dA(i:Nat):Int:=(i:Int)
def KP(ns:bR):Nat->Nat->aS
 |0,_=>[]
 |k+1,v=>v::(match ns[v]? with
  |some x=>if 1<=x.parent/\x.parent<(v:Int)then KP ns k x.parent.toNat else []
  |none=>[])
def yZ(ns:bR)(i:Nat):Option aH:=(ns[i]?).map Node.cond
def E7(ns:bR)(k v:Nat):af:=(KP ns k v).reverse.filterMap (yZ ns)
def eZ(ns:bR)(v:Int):af:=if 1<=v/\v<(ns.length:Int)then E7 ns v.toNat v.toNat else []
theorem Nr{ns:bR}{k v:Nat}{x:Node}(hx:ns[v]?=some x):KP ns (k+1) v=v::(if 1<=x.parent/\x.parent<(v:Int)then KP ns k x.parent.toNat else []):=by simp only[KP,hx]
theorem V2(ns:bR):∀(k v:Nat),v<ns.length->∀i∈KP ns k v,i<ns.length
 |0,v,_,i,hi=>by cases hi
 |k+1,v,hv,i,hi=>by
  rw[KP]at hi;rcases bH.1 hi with rfl|hi
  ·exact hv
  ·split at hi
   ·split at hi
    ·rename_i x hx hp;exact V2 ns k _ (by omega) i hi
    ·cases hi
   ·cases hi
theorem Qk(ns:bR):∀(k v:Nat),(KP ns k v).length<=k
 |0,v=>by simp[KP]
 |k+1,v=>by
  rw[KP,aT];split
  ·split
   ·have:=Qk ns k (by assumption:Node).parent.toNat;omega
   ·simp
  ·simp
theorem Jg{ns:bR}{k v:Nat}{x:Node}(hx:ns[v]?=some x):E7 ns (k+1) v=(if 1<=x.parent/\x.parent<(v:Int)then E7 ns k x.parent.toNat else [])++[x.cond]:=by
 have hc:yZ ns v=some x.cond:=by unfold yZ;rw[hx];rfl
 unfold E7;rw[Nr hx];by_cases hp:1<=x.parent/\x.parent<(v:Int)
 ·rw[bN hp,bN hp];simp[hc]
 ·rw[b9 hp,b9 hp];simp[hc]
theorem PE(x:aH)(h:x.pat.args.length<=1099511627770):nE x=some x:=by
 unfold nE;rw[a0J x [] h,aA,UG]
theorem Oj(x:aH)(h:x.pat.args.length<=1099511627770):gy x=some x:=by
 unfold gy fq;rw[Lt x.pat.args (by omega)];rfl
theorem a0H(n:aN)(h:XW n)(K:af->Option af):∀(k v fu:Nat) (w:af),v<=k->1<=v->v<n.nodes.length->k<fu->w.length+k<=4194304->iG n K fu (v:Int) w=K (E7 n.nodes k v++w):=by
 have hl:=h.1;intro k
 induction k with
 |zero=>intro v fu w h1 h2;omega
 |succ k ih=>
  intro v fu w h1 h2 h3 h4 h5;obtain⟨fu,rfl⟩:∃m,fu=m+1:=⟨fu-1,by omega⟩
  have hx:n.nodes[v]?=some n.nodes[v]:=aV h3;have hw:=h.2 _ (lD h3);generalize hxe:n.nodes[v]=x at*;have e1:IntKind.i64.wrap (((n.nodes.map Node.c).length:Int)-1)=(n.nodes.length:Int)-1:=by rw[ar];exact dZ (nS.i64.2 (by omega))
  have e2:(decide ((v:Int)>=1)&&decide ((v:Int)<=(n.nodes.length:Int)-1))=true:=by simp;omega
  have e3:iM n.nodes (v:Int)=some x:=by unfold iM;rw[bB (by omega),aI];exact hx
  have e4:=PE x.cond (by have:=aG.eo (aH.fE hw);omega);rw[iG,e1,GM,aA,e2,aI,e3,aA,e4,aA,I6 (by simp;omega) (by decide),aI,Jg hx];by_cases h6:x.parent>=(v:Int)
  ·rw[bB h6,aI,b9 (by omega)];rfl
  ·rw[bG h6,aW];by_cases h7:1<=x.parent
   ·rw[bN ⟨h7,by omega⟩];obtain⟨m,hm⟩:=mG (by omega:0<=x.parent);rw[hm];rw[ih m fu ([x.cond]++w) (by omega) (by omega) (by omega) (by omega) (by simp;omega)];simp
   ·rw[b9 (by omega)];obtain⟨fu,rfl⟩:∃m,fu=m+1:=⟨fu-1,by omega⟩
    have e5:(decide (x.parent>=1)&&decide (x.parent<=(n.nodes.length:Int)-1))=false:=by
     rw[bG (by omega)];rfl
    rw[iG,e1,GM,aA,e5,aW];rfl
theorem a0I(n:aN)(v:Int)(h:XW n):sV n v=some (eZ n.nodes v):=by
 have hl:=h.1;unfold sV eZ;by_cases hv:1<=v/\v<(n.nodes.length:Int)
 ·rw[bN hv];obtain⟨m,rfl⟩:=mG (by omega:0<=v);rw[a0H n h _ m m fuel [] (bL _) (by omega) (by omega) (by unfold fuel;omega) (by simp;omega)];simp
 ·rw[b9 hv];have e1:IntKind.i64.wrap (((n.nodes.map Node.c).length:Int)-1)=(n.nodes.length:Int)-1:=by rw[ar];exact dZ (nS.i64.2 (by omega))
  have e2:(decide (v>=1)&&decide (v<=(n.nodes.length:Int)-1))=false:=by
   by_cases h1:1<=v
   ·have h2:¬v<=(n.nodes.length:Int)-1:=by omega
    rw[bG h2,wo]
   ·rw[bG h1];rfl
  rw[show fuel=4194303+1 from rfl,iG,e1,GM,aA,e2,aW]
theorem WT(n:aN)(h:XW n)(K:bJ->Option af):∀(k v fu:Nat) (w:bJ),v<=k->1<=v->v<n.nodes.length->k<fu->w.length+k<=4194304->lI n K fu (v:Int) w=K (w++(KP n.nodes k v).map dA):=by
 have hl:=h.1;intro k
 induction k with
 |zero=>intro v fu w h1 h2;omega
 |succ k ih=>
  intro v fu w h1 h2 h3 h4 h5;obtain⟨fu,rfl⟩:∃m,fu=m+1:=⟨fu-1,by omega⟩
  have hx:n.nodes[v]?=some n.nodes[v]:=aV h3;generalize hxe:n.nodes[v]=x at*;have e3:iM n.nodes (v:Int)=some x:=by unfold iM;rw[bB (by omega),aI];exact hx
  rw[lI,jk (by omega) (by decide),aI,e3,aA,Nr hx];by_cases h7:x.parent<1
  ·rw[bB h7,aI,b9 (by omega)];rfl
  ·rw[bG h7,aW];by_cases h6:x.parent>=(v:Int)
   ·rw[bB h6,aI,b9 (by omega)];rfl
   ·rw[bG h6,aW,bN ⟨by omega,by omega⟩];obtain⟨m,hm⟩:=mG (by omega:0<=x.parent);rw[hm,ih m fu (w++[(v:Int)]) (by omega) (by omega) (by omega) (by omega) (by simp;omega)];simp[dA]
theorem WU(n:aN)(h:XW n)(us:aS)(qy:∀i∈us,i<n.nodes.length)(hul:us.length<=1048576)(K:af->Option af):∀(j fu:Nat) (w:af),j<=us.length->j<fu->w.length+j<=4194304->jV n (us.map dA) K fu ((j:Int)-1) w=K (w++((us.take j).reverse.filterMap (yZ n.nodes))):=by
 intro j
 induction j with
 |zero=>
  intro fu w _ hf _;obtain⟨fu,rfl⟩:∃m,fu=m+1:=⟨fu-1,by omega⟩
  rw[jV,bG (by omega),aW];simp
 |succ j ih=>
  intro fu w hj hf hw;obtain⟨fu,rfl⟩:∃m,fu=m+1:=⟨fu-1,by omega⟩
  have hlt:j<us.length:=by omega
  have h3:=qy us[j] (lD hlt);have hx:n.nodes[us[j]]?=some n.nodes[us[j]]:=aV h3;have hww:=h.2 _ (lD h3);generalize hxe:n.nodes[us[j]]=x at*;have e0:((j+1:Nat):Int)-1=(j:Int):=by omega
  have e1:iM (us.map dA) (j:Int)=some ((us[j]:Nat):Int):=by
   unfold iM;rw[bB (by omega),aI];show(us.map dA)[(j:Int).toNat]?=_;rw[mH,bU,aV hlt];rfl
  have e3:iM n.nodes ((us[j]:Nat):Int)=some x:=by unfold iM;rw[bB (by omega),aI];exact hx
  have e4:=Oj x.cond (by have:=aG.eo (aH.fE hww);omega);have e5:IntKind.i64.wrap ((j:Int)-1)=(j:Int)-1:=dZ (nS.i64.2 (by omega));rw[e0,jV,bB (by omega),aI,e1,aA,e3,aA,e4,aA,jk (by omega) (by decide),aI,e5,ih fu _ (by omega) (by omega) (by simp;omega)];have hc:yZ n.nodes us[j]=some x.cond:=by unfold yZ;rw[hx];rfl
  have ht:us.take (j+1)=us.take j++[us[j]]:=by rw[List.take_add_one,aV hlt];rfl
  rw[ht,List.reverse_append,List.filterMap_append];simp[hc]
theorem TZ(n:aN)(v:Int)(h:XW n):qg n v=some (eZ n.nodes v):=by
 have hl:=h.1;unfold qg eZ;rw[ar];by_cases h1:v<1
 ·rw[bB h1,aI,b9 (by omega)]
 ·rw[bG h1,aW];by_cases h2:v>=(n.nodes.length:Int)
  ·rw[bB h2,aI,b9 (by omega)]
  ·rw[bG h2,aW,bN ⟨by omega,by omega⟩];obtain⟨m,rfl⟩:=mG (by omega:0<=v);rw[WT n h _ m m fuel [] (bL _) (by omega) (by omega) (by unfold fuel;omega) (by simp;omega)];have hul:=Qk n.nodes m m;have e5:IntKind.i64.wrap ((((([]:bJ)++(KP n.nodes m m).map dA).map mR).length:Int)-1)=(((KP n.nodes m m).length:Nat):Int)-1:=by
    rw[dM,ar,ar];exact dZ (nS.i64.2 (by omega))
   rw[e5,dM,WU n h (KP n.nodes m m) (V2 n.nodes m m (by omega)) (by omega) _ (KP n.nodes m m).length fuel [] (bL _) (by unfold fuel;omega) (by simp;omega),List.take_length];rfl
end Go.Cx
namespace Go.Cx
open Go.RowKit Go.Proofs Tryz
def nmB(k:Nat):Bytes:=[63]++Lib.itoa ((k:Int)+1)
theorem decDigits_one{u:Nat}(h:u<10):Lib.decDigits u=[UInt8.ofNat (48+u)]:=by
 rw[Lib.decDigits,dif_pos h]
theorem Ws:∀i,i<6->nmB i=[63,UInt8.ofNat (49+i)]
 |0,_|1,_|2,_|3,_|4,_|5,_=>by
  unfold nmB Lib.itoa;rw[b9 (by decide),decDigits_one (by decide)];decide
 |n+6,h=>by omega
def VF(N:aP):Prop:=∀(i:Nat) p,N[i]?=some p->p.value=nmB i/\mF p.var=true
theorem NC(N:aP)(t:Bytes):CO N t=true↔∃p∈N,p.var=t:=by simp[CO]
theorem RZ(N:aP)(t:Bytes){p:aQ}(h:p∈N):p∈kJ N t:=by
 unfold kJ;cases mF t&& !CO N t<;>simp[h]
theorem NA:∀(ts:aF) (N:aP) {p:aQ},p∈N->p∈ts.foldl kJ N
 | [],_,_,h=>h
 |t::ts,N,p,h=>NA ts (kJ N t) (RZ N t h)
theorem V9{N:aP}(h:VF N)(t:Bytes):VF (kJ N t):=by
 unfold kJ;cases hv:mF t&& !CO N t with
 |false=>exact h
 |true=>
  simp only[aY]at hv;intro i p hp;rw[aI]at hp;rcases dX i N.length with hlt|hge
  ·rw[aq hlt]at hp;exact h i p hp
  ·rw[ax hge]at hp;cases hi:i-N.length with
   |zero=>
    rw[hi]at hp;simp at hp;subst hp;have:i=N.length:=by omega
    subst this;exact⟨rfl,hv.1⟩
   |succ m=>rw[hi]at hp;simp at hp
theorem Ik:∀(ts:aF) {N:aP},VF N->VF (ts.foldl kJ N)
 | [],_,h=>h
 |t::ts,_,h=>Ik ts (V9 h t)
def Pf(N:aP):Prop:=(N.map aQ.var).Nodup
theorem Rb{N:aP}(h:Pf N)(t:Bytes):Pf (kJ N t):=by
 unfold kJ;cases hv:mF t&& !CO N t with
 |false=>exact h
 |true=>
  simp only[aY,o5]at hv;rw[aI];unfold Pf;rw[b8,bD];refine⟨h,by simp,?_⟩;intro a ha b hb e;simp at hb;subst hb;subst e;obtain⟨p,hp,he⟩:=cJ.1 ha;have:=(NC N a).2 ⟨p,hp,he⟩;rw[hv.2]at this;cases this
theorem GU:∀(ts:aF) {N:aP},Pf N->Pf (ts.foldl kJ N)
 | [],_,h=>h
 |t::ts,_,h=>GU ts (Rb h t)
theorem N8:∀(ts:aF) (N:aP) {t:Bytes},t∈ts->mF t=true->∃p∈ts.foldl kJ N,p.var=t
 |x::ts,N,t,h,hv=>by
  rcases bH.1 h with rfl|h
  ·have:∃p∈kJ N t,p.var=t:=by
    unfold kJ;cases hh:CO N t with
    |true=>rw[hv];exact(NC N t).1 hh
    |false=>rw[hv];exact⟨⟨t,[63]++Lib.itoa ((N.length:Int)+1)⟩,by simp,rfl⟩
   obtain⟨p,hp,he⟩:=this;exact⟨p,NA ts _ hp,he⟩
  ·exact N8 ts _ h hv
theorem MD:∀ {N:aP} {p:aQ},Pf N->p∈N->Cy N p.var=p.value
 |q::N,p,hn,hp=>by
  unfold Pf at hn;rw[bC,ed]at hn;rcases bH.1 hp with rfl|hp
  ·simp[Cy]
  ·have hne:(q.var==p.var)=false:=by
    rw[cT];intro e;exact hn.1 (by rw[e];exact cJ.2 ⟨p,hp,rfl⟩)
   rw[Cy,hne,aW];exact MD (show Pf N from hn.2) hp
theorem Hg:∀ {N:aP} {t:Bytes},(∀p∈N,p.var≠t)->Cy N t=t
 | [],t,_=>rfl
 |q::N,t,h=>by
  have hne:(q.var==t)=false:=by rw[cT];exact h q (by simp)
  rw[Cy,hne,aW];exact Hg fun p hp=>h p (by simp[hp])
theorem VF.nil:VF []:=fun i p h=>by simp at h
theorem Pf.nil:Pf []:=by simp[Pf]
theorem N9(ts:aF):(ts.foldl kJ []).length<=ts.length:=by simpa using vn ts []
theorem PV{N:aP}(h:VF N){p:aQ}(hp:p∈N):∃i,i<N.length/\N[i]?=some p/\p.value=nmB i/\mF p.var=true:=by
 obtain⟨i,hi⟩:=di hp;exact⟨i,(aE.1 hi).1,hi,h i p hi⟩
theorem U4{ts:aF}{t:Bytes}(ht:mF t=false):Cy (ts.foldl kJ []) t=t:=
 Hg fun p hp e=>by
  obtain⟨i,_,_,_,hv⟩:=PV (Ik ts VF.nil) hp;rw[e,ht]at hv;cases hv
theorem QU:∀i,i<6->(nmB i).length<=16:=by
 intro i hi;rw[Ws i hi];simp
theorem Zy{ts:aF}(hl:ts.length<=5){t:Bytes}(ht:t.length<=16):(Cy (ts.foldl kJ []) t).length<=16:=by
 by_cases h:∃p∈ts.foldl kJ [],p.var=t
 ·obtain⟨p,hp,he⟩:=h;rw[<-he,MD (GU ts Pf.nil) hp];obtain⟨i,hi,_,hpv,_⟩:=PV (Ik ts VF.nil) hp;have:=N9 ts;rw[hpv];exact QU i (by omega)
 ·rw[Hg (fun p hp e=>h ⟨p,hp,e⟩)];exact ht
end Go.Cx
namespace Go.Cx
open Go.RowKit Go.Proofs Tryz
def ID(c:aH):aF:=bif decide (c.kind=1)then iL c.pat.args else []
theorem Sc{c:aH}:(ID c).length<=c.wt:=by
 unfold ID;have h2:=td c.pat.args;have h3:=aG.eo (aH.fE (bL c.wt));cases decide (c.kind=1)<;>simp;omega
def xD(r:aJ)(n:Int):aF:=(r.conds.take n.toNat).flatMap ID
theorem L6{α:Type}(x:α)(xs:List α)(n:Int)(i:Nat):(x::xs).take (n-(i:Int)).toNat=if(i:Int)<n then x::xs.take (n-((i+1:Nat):Int)).toNat else []:=by
 by_cases h:(i:Int)<n
 ·rw[bN h];obtain⟨m,hm⟩:∃m,(n-(i:Int)).toNat=m+1:=⟨(n-(i:Int)).toNat -1,by omega⟩
  have:(n-((i+1:Nat):Int)).toNat=m:=by omega
  rw[hm,this];rfl
 ·rw[b9 h,show(n-(i:Int)).toNat=0 from by omega];rfl
theorem CJ{α β:Type}{f:α->List β}{w:α->Nat}(l:List α)(h:∀x∈l,(f x).length<=w x+2):(l.flatMap f).length<=3*sM w l:=by
 induction l with
 |nil=>simp[sM]
 |cons x l ih=>
  rw[ei,av,mo];have h1:=h x (by simp);have h2:=ih (fun y hy=>h y (by simp[hy]));omega
theorem Sd{r:aJ}{n:Nat}(h:r.wt<=n)(m:Int):(xD r m).length<=3*n:=by
 unfold xD;have h1:=CJ (w:=aH.wt) (f:=ID) (r.conds.take m.toNat) (fun c _=>by have:= @Sc c;omega);have h2:sM aH.wt (r.conds.take m.toNat)<=sM aH.wt r.conds:=by
  conv=>rhs;rw[<-bz m.toNat r.conds]
  rw[PW];omega
 have h3:=aJ.qG h;omega
theorem UQ(a:aJ)(n:Int)(i:Nat)(y:aF)(k:aF->Option aF):∀(l:aF) (j:Nat) (w:aF),w.length+l.length<=1099511627770->iT a n i y k l j w=k (l.foldl vq w):=by
 intro l
 induction l with
 |nil=>intro j w _;rfl
 |cons x l ih=>
  intro j w hw;simp only[aT]at hw;have:=xh w x;rw[iT,PI w x (by omega),aA,ih _ _ (by omega)];rfl
theorem X0(a:aJ)(n:Int)(k:aF->Option aF):∀(l:af) (i:Nat) (acc:aF),(∀c∈l,c.wt<=1048576)->acc.length+sM aH.wt l<=2097152->
 fK a n k l i (eb acc)=k (eb (acc++(l.take (n-(i:Int)).toNat).flatMap ID)):=by
 intro l
 induction l with
 |nil=>intro i acc _ _;simp[fK]
 |cons c l ih=>
  intro i acc hc hb;rw[mo]at hb;have TP:=hc c (by simp);have hv:=td c.pat.args;have ha:=aG.eo (aH.fE (bL c.wt));have hu:=o4 (iL c.pat.args);have VN:=o4 acc;rw[fK,L6];by_cases hi:(i:Int)<n
  ·have e1:decide (((i:Int):Int)<n)=true:=by simp[hi]
   rw[e1,aI,bN hi];by_cases hk:c.kind=1
   ·have e2:((c.kind:Int)==1)=true:=by simp[hk]
    rw[e2,aI,Gd _ (aH.fE TP),aA,sD (by omega),aI,UQ _ _ _ _ _ _ _ _ (by omega),Cg,ih _ _ (fun x hx=>hc x (by simp[hx])) (by simp;omega)];simp[ID,hk]
   ·have e2:((c.kind:Int)==1)=false:=by simp[hk]
    rw[e2,aW,ih _ _ (fun x hx=>hc x (by simp[hx])) (by omega)];simp[ID,hk]
  ·have e1:decide (((i:Int):Int)<n)=false:=by simp[hi]
   rw[e1,aW,b9 hi];simp
theorem PC(r:aJ)(n:Int)(h:r.wt<=1048576):jY r n=some (eb (xD r n)):=by
 unfold jY;have:=X0 r n (fun q=>some q) r.conds 0 [] (fun c hc=>aJ.og h hc) (by have:=aJ.qG h;simp;omega);rw[show eb []=[]from rfl]at this;rw[this];simp[xD]
theorem WQ(a:aJ)(n:Int)(k:aF->Option aF):∀(l:af) (i:Nat) (w:aF),(∀c∈l,c.wt<=1048576)->w.length+sM aH.wt l<=2097152->
 eU a n k l i w=k (w++(l.take (n-(i:Int)).toNat).flatMap ID):=by
 intro l
 induction l with
 |nil=>intro i w _ _;simp[eU]
 |cons c l ih=>
  intro i w hc hb;rw[mo]at hb;have TP:=hc c (by simp);have hv:=td c.pat.args;have ha:=aG.eo (aH.fE (bL c.wt));rw[eU,L6];by_cases hi:(i:Int)<n
  ·have e1:decide (((i:Int):Int)<n)=true:=by simp[hi]
   rw[e1,aI,bN hi];by_cases hk:c.kind=1
   ·have e2:((c.kind:Int)==1)=true:=by simp[hk]
    rw[e2,aI,Tf _ (by omega) (fun x hx=>aG.qp (aH.fE TP) hx),aA,UN (by omega) (by decide),aI,ih _ _ (fun x hx=>hc x (by simp[hx])) (by simp;omega)];simp[ID,hk]
   ·have e2:((c.kind:Int)==1)=false:=by simp[hk]
    rw[e2,aW,ih _ _ (fun x hx=>hc x (by simp[hx])) (by omega)];simp[ID,hk]
  ·have e1:decide (((i:Int):Int)<n)=false:=by simp[hi]
   rw[e1,aW,b9 hi,ih _ _ (fun x hx=>hc x (by simp[hx])) (by omega),show(n-((i+1:Nat):Int)).toNat=0 from by omega];simp
theorem TT(r:aJ)(n:Int)(h:r.wt<=1048576):nI r n=some (eb (xD r n)):=by
 unfold nI;have hl:=Sd h n;rw[WQ r n _ r.conds 0 [] (fun c hc=>aJ.og h hc) (by have:=aJ.qG h;simp;omega)];have e:([]:aF)++(r.conds.take (n-((0:Nat):Int)).toNat).flatMap ID=xD r n:=by simp[xD]
 rw[e,Ls _ (by omega)];rfl
def Ay(l:af):aF:=l.flatMap o9
def Vf(l:dN):aF:=l.flatMap fun a=>iL a.pat.args
def a01(r:aJ):aF:=Ay r.conds++Vf r.cO
theorem Sg(l:af):(Ay l).length<=3*sM aH.wt l:=CJ l (fun c _=>uk (bL _))
theorem Ud(a:aJ)(i:Nat)(y:aF)(k:aF->Option aF):∀(l:aF) (j:Nat) (w:aF),w.length+l.length<=1099511627770->jJ a i y k l j w=k (l.foldl vq w):=by
 intro l
 induction l with
 |nil=>intro j w _;rfl
 |cons x l ih=>
  intro j w hw;simp only[aT]at hw;have:=xh w x;rw[jJ,PI w x (by omega),aA,ih _ _ (by omega)];rfl
theorem Uf(a:aJ)(i:Nat)(y:aF)(k:aF->Option aF):∀(l:aF) (j:Nat) (w:aF),w.length+l.length<=1099511627770->jK a i y k l j w=k (l.foldl vq w):=by
 intro l
 induction l with
 |nil=>intro j w _;rfl
 |cons x l ih=>
  intro j w hw;simp only[aT]at hw;have:=xh w x;rw[jK,PI w x (by omega),aA,ih _ _ (by omega)];rfl
theorem Uc(a:aJ)(k:aF->Option aF):∀(l:af) (i:Nat) (acc:aF),(∀c∈l,c.wt<=1048576)->acc.length+3*sM aH.wt l<=16777216->
 gq a k l i (eb acc)=k (eb (acc++Ay l)):=by
 intro l
 induction l with
 |nil=>intro i acc _ _;simp[gq,Ay]
 |cons c l ih=>
  intro i acc hc hb;rw[mo]at hb;have TP:=hc c (by simp);have h1:=uk (bL c.wt);have hu:=o4 (o9 c);have VN:=o4 acc;rw[gq,PD c TP,aA,sD (by omega),aI,Ud _ _ _ _ _ _ _ (by omega),Cg,ih _ _ (fun x hx=>hc x (by simp[hx])) (by simp;omega)];simp[Ay]
theorem Ue(a:aJ)(k:aF->Option aF):∀(l:dN) (i:Nat) (acc:aF),(∀c∈l,c.wt<=1048576)->acc.length+3*sM Action.wt l<=16777216->
 gC a k l i (eb acc)=k (eb (acc++Vf l)):=by
 intro l
 induction l with
 |nil=>intro i acc _ _;simp[gC,Vf]
 |cons c l ih=>
  intro i acc hc hb;rw[mo]at hb;have TP:=hc c (by simp);have h1:=td c.pat.args;have h2:=aG.eo (Action.fE (bL c.wt));have hu:=o4 (iL c.pat.args);have VN:=o4 acc;rw[gC,Gd _ (Action.fE TP),aA,sD (by omega),aI,Uf _ _ _ _ _ _ _ (by omega),Cg,ih _ _ (fun x hx=>hc x (by simp[hx])) (by simp;omega)];simp[Vf]
theorem a0K(r:aJ)(h:r.wt<=1048576):qT r=some (eb (a01 r)):=by
 unfold qT;have h3:=aJ.qG h;have h4:=aJ.FN h;have hl:=Sg r.conds;have:=Uc r (fun q=>gC r (fun q=>some q) r.cO 0 q) r.conds 0 [] (fun c hc=>aJ.og h hc) (by simp;omega);rw[show eb []=[]from rfl]at this;rw[this];simp only[dM];rw[Ue r _ r.cO 0 _ (fun c hc=>aJ.LS h hc) (by omega)];rfl
theorem a1t(l:af)(hc:∀c∈l,c.wt<=1048576)(hb:sM aH.wt l<=1048576):oF l=some (l.flatMap fun c=>eb (o9 c)):=by
 unfold oF;have:∀(r:af) (i:Nat) (w:aF),(∀c∈r,c.wt<=1048576)->w.length+3*sM aH.wt r<=16777216->fk l (fun q=>some q) r i w=some (w++r.flatMap fun c=>eb (o9 c)):=by
  intro r
  induction r with
  |nil=>intro i w _ _;simp[fk]
  |cons c r ih=>
   intro i w hc hb;rw[mo]at hb;have h1:=uk (bL c.wt);have hu:=o4 (o9 c);rw[fk,Oi c (hc c (by simp)),aA,UN (by omega) (by decide),aI,ih _ _ (fun x hx=>hc x (by simp[hx])) (by simp;omega)];simp
 exact this l 0 [] hc (by simp;omega)
theorem Sf(l:af):(l.flatMap fun c=>eb (o9 c)).length<=3*sM aH.wt l:=CJ l (fun c _=>by
 have h1:=uk (bL c.wt);have hu:=o4 (o9 c);omega)
theorem a3s(l:af)(b:aF):eb ((l.flatMap fun c=>eb (o9 c))++b)=eb (Ay l++b):=Cf (fun x=>by simp[Ay,rj])
def R6(v:Bytes)(k:Int):af->Nat->Bool
 | [],_=>false
 |c::cs,i=>(decide (((i:Nat):Int)≠k)&&(o9 c).contains v)||R6 v k cs (i+1)
def Mw(r:aJ)(k:Int)(v:Bytes):Bool:=R6 v k r.conds 0||r.cO.any fun a=>(iL a.pat.args).contains v
theorem KB{l:aF}{v:Bytes}(h:mF v=true):l.contains v=(iL l).contains v:=by
 rw[bg];simp[iL,h]
theorem a2d(r:aJ)(k:Int)(v:Bytes)(h:r.wt<=1048576):lX r k v=some (Mw r k v):=by
 unfold lX Mw;have k2:∀(l:dN) (i:Nat),(∀c∈l,c.wt<=1048576)->gP r v (some false) l i=some (l.any fun a=>(iL a.pat.args).contains v):=by
  intro l
  induction l with
  |nil=>intro i _;rfl
  |cons a l ih=>
   intro i hc;rw[gP,Gd _ (Action.fE (hc a (by simp))),aA,Rp,aA,lz,ih _ (fun x hx=>hc x (by simp[hx])),v7];cases(iL a.pat.args).contains v<;>rfl
 have k1:∀(l:af) (i:Nat),(∀c∈l,c.wt<=1048576)->fG r k v (some (r.cO.any fun a=>(iL a.pat.args).contains v)) l i=some (R6 v k l i||r.cO.any fun a=>(iL a.pat.args).contains v):=by
  intro l
  induction l with
  |nil=>intro i _;rfl
  |cons c l ih=>
   intro i hc;rw[fG,PD _ (hc c (by simp)),aA,Rp,aA,lz,ih _ (fun x hx=>hc x (by simp[hx]))];simp only[R6,bne,jw];by_cases hi:((i:Nat):Int)=k
   ·simp[hi]
   ·cases(o9 c).contains v<;>simp[hi]
 rw[k2 _ _ (fun c hc=>aJ.LS h hc),k1 _ _ (fun c hc=>aJ.og h hc)]
theorem a5C(r:aJ)(k:Int)(v:Bytes)(hv:mF v=true)(h:r.wt<=1048576):kA r k v=some (Mw r k v):=by
 unfold kA Mw;have k2:∀(l:dN) (i:Nat),eY r v (some false) l i=some (l.any fun a=>(iL a.pat.args).contains v):=by
  intro l
  induction l with
  |nil=>intro i;rfl
  |cons a l ih=>
   intro i;rw[eY,WR,aA,KB hv,ih,v7];cases(iL a.pat.args).contains v<;>rfl
 have k1:∀(l:af) (i:Nat),(∀c∈l,c.wt<=1048576)->dP r k v (some (r.cO.any fun a=>(iL a.pat.args).contains v)) l i=some (R6 v k l i||r.cO.any fun a=>(iL a.pat.args).contains v):=by
  intro l
  induction l with
  |nil=>intro i _;rfl
  |cons c l ih=>
   intro i hc;rw[dP,Oi _ (hc c (by simp)),aA,WR,aA,lz,ih _ (fun x hx=>hc x (by simp[hx]))];simp only[R6,bne,jw];by_cases hi:((i:Nat):Int)=k
   ·simp[hi]
   ·cases(o9 c).contains v<;>simp[hi]
 rw[k2,k1 _ _ (fun c hc=>aJ.og h hc)]
def IL(r:aJ)(i:Nat)(c:aH)(v:Bytes):Bool:=decide (c.kind=1)||(xD r i).contains v||(decide (c.kind=2)&& !Mw r i v)
def pX(r:aJ):af->Nat->Bool
 | [],_=>true
 |c::cs,i=>(n9 c&&(!decide (i=0)||decide (c.kind=1))&&(eb (o9 c)).all (IL r i c))&&pX r cs (i+1)
def Iu(r:aJ):Bool:=r.cO.all fun a=>It a&&(iL a.pat.args).all fun v=>(xD r r.conds.length).contains v
def iA(r:aJ):Bool:=uL r.name&&(decide (0<=r.prio)&&decide (r.prio<=9))&&(decide (1<=(r.conds.length:Int))&&decide ((r.conds.length:Int)<=4))&&(decide (1<=(r.cO.length:Int))&&decide ((r.cO.length:Int)<=2))&&
 (pX r r.conds 0&&(Iu r&&decide (((eb (Ay r.conds)).length:Int)<=6)))
theorem KX(l:aF)(p:Bytes->Bool):(eb l).all p=l.all p:=by
 rw[bg];simp[aj,rj]
theorem Vk(r:aJ)(n:Int){v:Bytes}(h:v∈xD r n):v∈Ay r.conds:=by
 unfold xD at h;obtain⟨c,hc,hv⟩:=bq.1 h;refine bq.2 ⟨c,cD hc,?_⟩;unfold ID at hv;cases hk:decide (c.kind=1)with
 |false=>rw[hk]at hv;cases hv
 |true=>
  rw[hk]at hv;simp only[aI]at hv;unfold o9;rw[LA];exact aZ.2 (.inl hv)
theorem OD{r:aJ}(h:Iu r=true):eb (a01 r)=eb (Ay r.conds):=by
 refine Cf (fun x=>?_);unfold a01;simp only[aZ];constructor
 ·rintro(hx|hx)
  ·exact hx
  ·obtain⟨a,ha,hv⟩:=bq.1 hx;unfold Iu at h;have:=aj.1 h a ha;simp only[aY,aj]at this;have:=this.2 x hv;exact Vk r _ (by simpa using this)
 ·exact .inl
theorem X9(r:aJ)(y:aF)(i:Nat)(c:aH)(l:aF)(k:Option Bool)(hc:c.wt<=1048576)(hr:r.wt<=1048576)(hcb:n9 c=true):∀(rest:aF) (j:Nat),fR r y i c (eb (xD r i)) l k rest j=bif rest.all (IL r i c)then k else some false:=by
 have hk:=A5 hcb;intro rest
 induction rest with
 |nil=>intro j;rfl
 |cons v rest ih=>
  intro j;rw[fR,Rp,aA,lz,Uj c hc,aA,a2d r _ v hr,aA,ih,dh];unfold Gg IL;rw[hcb];by_cases h1:c.kind=1
  ·simp[h1]
  by_cases h2:c.kind=2
  ·cases(xD r i).contains v<;>cases Mw r i v<;>simp[h2]
  have h3:c.kind>=3:=by omega
  cases(xD r i).contains v<;>simp[h1,h2,h3]
theorem XA(r:aJ)(y:aF)(i:Nat)(c:aH)(l:aF)(k:Option Bool)(hc:c.wt<=1048576)(hr:r.wt<=1048576)(hcb:n9 c=true):∀(rest:aF) (j:Nat),fS r y i c (eb (xD r i)) l k rest j=bif rest.all (IL r i c)then k else some false:=by
 have hk:=A5 hcb;intro rest
 induction rest with
 |nil=>intro j;rfl
 |cons v rest ih=>
  intro j;rw[fS,Rp,aA,lz,Uj c hc,aA,a2d r _ v hr,aA,ih,dh];unfold Gg IL;rw[hcb];by_cases h1:c.kind=1
  ·simp[h1]
  by_cases h2:c.kind=2
  ·cases(xD r i).contains v<;>cases Mw r i v<;>simp[h2]
  have h3:c.kind>=3:=by omega
  cases(xD r i).contains v<;>simp[h1,h2,h3]
theorem X8(r:aJ)(y:aF)(k:Option Bool)(hr:r.wt<=1048576):∀(rest:af) (i:Nat),(∀c∈rest,c.wt<=1048576)->ja r y k rest i=bif pX r rest i then k else some false:=by
 intro rest
 induction rest with
 |nil=>intro i _;rfl
 |cons c rest ih=>
  intro i h;have hc:=h c (by simp);have hl:=uk hc;have hu:=o4 (o9 c);rw[ja,US c hc,aA,pX];cases hcb:n9 c with
  |false=>rfl
  |true=>
   rw[PC r _ hr,PD c hc,ih _ (fun x hx=>h x (by simp[hx]))];simp only[aA,sD (show(eb (o9 c)).length<=1099511627776 by omega),aI];rw[X9 r y i c _ _ hc hr hcb,XA r y i c _ _ hc hr hcb];simp only[bne,jw];have e0:decide (((i:Int):Int)=0)=decide (i=0):=by rw[bg];simp
   rw[e0];cases decide (i=0)<;>cases decide (c.kind=1)<;>cases(eb (o9 c)).all (IL r i c)<;>simp
theorem XC(r:aJ)(y:aF)(i:Nat)(l:aF)(k:Option Bool):∀(rest:aF) (j:Nat),lS r y i l k rest j=bif rest.all (fun v=>y.contains v)then k else some false:=
 fun rest j=>Qy (f:=fun v=>fU y v) (L:=lS r y i l k) (fun _=>rfl) (fun _ _ _=>rfl) rest j (fun v _=>Rp y v)
theorem XB(r:aJ)(b:aF)(k:Option Bool):∀(rest:dN) (i:Nat),(∀a∈rest,a.wt<=1048576)->lR r (eb b) k rest i=bif rest.all (fun a=>It a&&(iL a.pat.args).all fun v=>b.contains v)then k else some false:=by
 intro rest
 induction rest with
 |nil=>intro i _;rfl
 |cons a rest ih=>
  intro i h;have ha:=h a (by simp);have h1:=td a.pat.args;have h2:=aG.eo (Action.fE ha);have hu:=o4 (iL a.pat.args);rw[lR,a5T a ha,aA,Gd _ (Action.fE ha),aA,sD (by omega),ih _ (fun x hx=>h x (by simp[hx])),XC,dh,KX];have e:((iL a.pat.args).all fun v=>(eb b).contains v)=(iL a.pat.args).all fun v=>b.contains v:=by
   congr 1;funext v;exact lz b v
  rw[e];cases It a<;>cases(iL a.pat.args).all (fun v=>b.contains v)<;>simp
theorem YY(r:aJ)(h:r.wt<=1048576):lf r=some (iA r):=by
 unfold lf;simp only[UZ _ (aJ.QT h),aA,GM,ar];rw[PC r _ h];simp only[aA];rw[X8 r _ _ h _ _ (fun c hc=>aJ.og h hc),XB r _ _ _ _ (fun a ha=>aJ.LS h ha),a0K r h];simp only[aA,ar];have hab:(r.cO.all fun a=>It a&&(iL a.pat.args).all fun v=>(xD r r.conds.length).contains v)=Iu r:=rfl;rw[hab];unfold iA;have g1:decide (r.prio>=0)=decide (0<=r.prio):=rfl;have g2:decide ((r.conds.length:Int)>=1)=decide (1<=(r.conds.length:Int)):=rfl;have g3:decide ((r.cO.length:Int)>=1)=decide (1<=(r.cO.length:Int)):=rfl;rw[g1,g2,g3];cases ha:Iu r with
 |false=>cases uL r.name<;>cases(decide (0<=r.prio)&&decide (r.prio<=9))<;>cases(decide (1<=(r.conds.length:Int))&&decide ((r.conds.length:Int)<=4))<;>cases(decide (1<=(r.cO.length:Int))&&decide ((r.cO.length:Int)<=2))<;>cases pX r r.conds 0<;>rfl
 |true=>
  rw[OD ha];cases uL r.name<;>cases(decide (0<=r.prio)&&decide (r.prio<=9))<;>cases(decide (1<=(r.conds.length:Int))&&decide ((r.conds.length:Int)<=4))<;>cases(decide (1<=(r.cO.length:Int))&&decide ((r.cO.length:Int)<=2))<;>cases pX r r.conds 0<;>simp
theorem ZT(r:aJ)(i:Nat)(c:aH)(l:aF)(k:Option Bool)(hr:r.wt<=1048576)(hcb:n9 c=true):∀(rest:aF) (j:Nat),(∀v∈rest,mF v=true)->fp r (i:Int) c (eb (xD r i)) l k rest j=bif rest.all (IL r i c)then k else some false:=by
 have hk:=A5 hcb;intro rest
 induction rest with
 |nil=>intro j _;rfl
 |cons v rest ih=>
  intro j hv;rw[fp,WR,aA,lz,a5C r _ v (hv v (by simp)) hr,aA,ih _ (fun x hx=>hv x (by simp[hx])),dh];unfold IL;simp only[bne,jw];by_cases h1:c.kind=1
  ·simp[h1]
  by_cases h2:c.kind=2
  ·cases(xD r i).contains v<;>cases Mw r i v<;>simp[h2]
  cases(xD r i).contains v<;>simp[h1,h2]
theorem a1x(r:aJ)(i:Nat)(c:aH)(hr:r.wt<=1048576)(hi:r.conds[i]?=some c)(hcb:n9 c=true):nq r (i:Int)=some ((eb (o9 c)).all (IL r i c)):=by
 unfold nq;have hc:=aJ.og hr (aD hi);have hl:=uk hc;have hu:=o4 (o9 c);have e:iM r.conds (i:Int)=some c:=by unfold iM;simp[hi]
 rw[e,aA,TT r _ hr,aA,Oi c hc,aA,sD (by omega),aI,ZT r i c _ _ hr hcb _ _ (fun v hv=>by
  rw[rj]at hv;unfold o9 iL at hv;exact(gF.1 hv).2)]
 cases(eb (o9 c)).all (IL r i c)<;>rfl
theorem WV(r:aJ)(k:Option Bool)(hr:r.wt<=1048576):∀(rest pre:af),r.conds=pre++rest->iC r k rest pre.length=bif pX r rest pre.length then k else some false:=by
 intro rest
 induction rest with
 |nil=>intro pre _;rfl
 |cons c rest ih=>
  intro pre h;have hm:c∈r.conds:=by rw[h];simp
  have hc:=aJ.og hr hm;have hi:r.conds[pre.length]?=some c:=by rw[h];simp
  have t:=ih (pre++[c]) (by rw[h];simp);simp only[av,aT,bW]at t;rw[iC,QJ c hc,aA,pX];cases hcb:n9 c with
  |false=>rfl
  |true=>
   rw[a1x r _ c hr hi hcb,aA,t];simp only[bne,jw];have e0:decide ((((pre.length:Nat):Int):Int)=0)=decide (pre.length=0):=by rw[bg];simp
   rw[e0];cases decide (pre.length=0)<;>cases decide (c.kind=1)<;>cases(eb (o9 c)).all (IL r pre.length c)<;>simp
theorem WX(r:aJ)(y:aF)(i:Nat)(l:aF)(k:Option Bool):∀(rest:aF) (j:Nat),lH r y i l k rest j=bif rest.all (fun v=>y.contains v)then k else some false:=
 fun rest j=>Qy (f:=fun v=>k8 y v) (L:=lH r y i l k) (fun _=>rfl) (fun _ _ _=>rfl) rest j (fun v _=>WR y v)
theorem WW(r:aJ)(b:aF)(k:Option Bool):∀(rest:dN) (i:Nat),(∀a∈rest,a.wt<=1048576)->lG r (eb b) k rest i=bif rest.all (fun a=>It a&&(iL a.pat.args).all fun v=>b.contains v)then k else some false:=by
 intro rest
 induction rest with
 |nil=>intro i _;rfl
 |cons a rest ih=>
  intro i h;have ha:=h a (by simp);have h1:=td a.pat.args;have h2:=aG.eo (Action.fE ha);rw[lG,a57 a ha,aA,Tf _ (by omega) (fun x hx=>aG.qp (Action.fE ha) hx),aA,sD (by omega),ih _ (fun x hx=>h x (by simp[hx])),WX,dh];have e:((iL a.pat.args).all fun v=>(eb b).contains v)=(iL a.pat.args).all fun v=>b.contains v:=by
   congr 1;funext v;exact lz b v
  rw[e];cases It a<;>cases(iL a.pat.args).all (fun v=>b.contains v)<;>simp
theorem a29(r:aJ)(h:r.wt<=1048576):sQ r=some (iA r):=by
 unfold sQ;have hcu:=Sf r.conds;have hcl:=aJ.qG h;rw[show iC r _ r.conds 0=_ from WV r _ h r.conds [] rfl,TT r _ h,aA,WW r _ _ _ _ (fun a ha=>aJ.LS h ha),a1t _ (fun c hc=>aJ.og h hc) hcl,aA,Ls _ (by omega),TY _ (aJ.QT h)];have e:=a3s r.conds [];simp only[eA]at e;rw[e];simp only[aA,ar,bW];have hab:(r.cO.all fun a=>It a&&(iL a.pat.args).all fun v=>(xD r r.conds.length).contains v)=Iu r:=rfl;rw[hab];unfold iA;have g1:decide (0<=r.prio)= !decide (r.prio<0):=by rw[bg];simp
 have g2:decide (r.prio<=9)= !decide (r.prio>9):=by rw[bg];simp
 have g3:decide (1<=(r.conds.length:Int))= !decide ((r.conds.length:Int)<1):=by rw[bg];simp
 have g4:decide ((r.conds.length:Int)<=4)= !decide ((r.conds.length:Int)>4):=by rw[bg];simp
 have g5:decide (1<=(r.cO.length:Int))= !decide ((r.cO.length:Int)<1):=by rw[bg];simp
 have g6:decide ((r.cO.length:Int)<=2)= !decide ((r.cO.length:Int)>2):=by rw[bg];simp
 rw[g1,g2,g3,g4,g5,g6];cases uL r.name
 ·rfl
 cases decide (r.prio<0)
 case true=>rfl
 cases decide (r.prio>9)
 case true=>rfl
 cases decide ((r.conds.length:Int)<1)
 case true=>rfl
 cases decide ((r.conds.length:Int)>4)
 case true=>rfl
 cases decide ((r.cO.length:Int)<1)
 case true=>rfl
 cases decide ((r.cO.length:Int)>2)
 case true=>rfl
 cases pX r r.conds 0
 ·rfl
 cases Iu r
 ·rfl
 simp
def zY(name:Bytes):au->Nat->Int
 | [],_=> -1
 |r::rs,i=>bif r.name==name then(i:Int)else zY name rs (i+1)
def IC(all:au):au->Nat->Bool
 | [],_=>true
 |r::rs,i=>(iA r&&decide (zY r.name all 0=(i:Int)))&&IC all rs (i+1)
def tD(l:au):Bool:=IC l l 0&&decide ((l.length:Int)<=6)
theorem a2e(l:au)(n:Bytes):qQ l n=some (zY n l 0):=by
 unfold qQ;have:∀(r:au) (i:Nat),jH l n (some (-1)) r i=some (zY n r i):=by
  intro r
  induction r with
  |nil=>intro i;rfl
  |cons x r ih=>intro i;rw[jH,ih,zY];cases x.name==n<;>rfl
 exact this l 0
theorem a1v(l:au)(n:Bytes):qK l n=some (zY n l 0):=by
 unfold qK;have:∀(r:au) (i:Nat),j8 l n (some (-1)) r i=some (zY n r i):=by
  intro r
  induction r with
  |nil=>intro i;rfl
  |cons x r ih=>intro i;rw[j8,ih,zY];cases x.name==n<;>rfl
 exact this l 0
theorem a5V(l:au)(h:sM aJ.wt l<=1048576):qP l=some (tD l):=by
 unfold qP;have:∀(r:au) (i:Nat) (k:Option Bool),(∀x∈r,x.wt<=1048576)->jG l k r i=bif IC l r i then k else some false:=by
  intro r
  induction r with
  |nil=>intro i k _;rfl
  |cons x r ih=>
   intro i k hx;rw[jG,YY x (hx x (by simp)),aA,a2e,aA,ih _ _ (fun y hy=>hx y (by simp[hy])),IC];simp only[bne,jw];cases iA x<;>cases decide (zY x.name l 0=(i:Int))<;>simp
 rw[this _ _ _ (fun x hx=>by have:=s4 (w:=aJ.wt) hx;omega),ar,tD];cases IC l l 0<;>rfl
theorem a5A(l:au)(h:sM aJ.wt l<=1048576):qJ l=some (tD l):=by
 unfold qJ;have:∀(r:au) (i:Nat) (k:Option Bool),(∀x∈r,x.wt<=1048576)->j7 l k r i=bif IC l r i then k else some false:=by
  intro r
  induction r with
  |nil=>intro i k _;rfl
  |cons x r ih=>
   intro i k hx;rw[j7,a29 x (hx x (by simp)),aA,a1v,aA,ih _ _ (fun y hy=>hx y (by simp[hy])),IC];simp only[bne,jw];cases iA x<;>cases decide (zY x.name l 0=(i:Int))<;>simp
 rw[this _ _ _ (fun x hx=>by have:=s4 (w:=aJ.wt) hx;omega),ar,tD];have g:decide ((l.length:Int)<=6)= !decide ((l.length:Int)>6):=by rw[bg];simp
 rw[g];cases IC l l 0<;>cases decide ((l.length:Int)>6)<;>rfl
end Go.Cx
namespace Go.Cx
open Go.RowKit Go.Proofs Tryz
theorem QW{α β:Type}[DecidableEq β]{f:α->α->Option Bool}{g:α->β}{a b:List α}{k:Option Bool}{L:List α->Nat->Option Bool}(hl:a.length=b.length)(qZ:∀i,L [] i=k)
 (pS:∀x xs i,L (x::xs) i=(iM b (i:Int)).bind fun y=>(f x y).bind fun r=>bif !r then some false else L xs (i+1)) (hf:∀x y,f x y=some (decide (g x=g y))):
 L a 0=bif decide (a.map g=b.map g)then k else some false:=by
 have key:∀(ra rb pa pb:List α),a=pa++ra->b=pb++rb->pa.length=pb.length->L ra pa.length=bif decide (ra.map g=rb.map g)then k else some false:=by
  intro ra
  induction ra with
  |nil=>
   intro rb pa pb h1 h2 h3;rw[qZ];have:rb=[]:=by
    have:=congrArg List.length h1;have:=congrArg List.length h2;simp at*;apply cM;omega
   subst this;simp
  |cons x xs ih=>
   intro rb pa pb h1 h2 h3;cases rb with
   |nil=>
    exfalso;have:=congrArg List.length h1;have:=congrArg List.length h2;simp at*;omega
   |cons y ys=>
    have e1:iM b (pa.length:Int)=some y:=by rw[h3];exact sv h2
    rw[pS,e1,aA,hf,aA];have:=ih ys (pa++[x]) (pb++[y]) (by rw[h1];simp) (by rw[h2];simp) (by simp[h3]);simp only[av,aT,bW]at this;rw[this];by_cases hxy:g x=g y
    ·simp[hxy]
    ·simp[hxy]
 exact key a b [] [] rfl rfl rfl
theorem Lw{α:Type}{c:α->aL}(a b:List α):((((a.map c).length:Int):Int) != ((b.map c).length:Int))= !decide (a.length=b.length):=by
 rw[bg];simp;omega
theorem map_id'{α:Type}(l:List α):l.map (fun x=>x)=l:=by simp
theorem Za(a b:aJ):nk a b=some (decide (a=b)):=by
 have k2:∀(k:Option Bool),a.cO.length=b.cO.length->gX a b k a.cO 0=bif decide (a.cO=b.cO)then k else some false:=fun k hl=>by
  have:=QW (g:=fun x:Action=>x) (f:=fun x y:Action=>bif x.kind != y.kind then some false else fA x.pat y.pat) (k:=k) (L:=gX a b k) hl (fun _=>rfl) (fun x xs i=>by
   rw[gX];congr 1;funext y;cases(x.kind != y.kind)<;>rfl) (fun x y=>by
   obtain⟨x0,x1⟩:=x;obtain⟨y0,y1⟩:=y;simp only[JL,bne,jw];by_cases h0:x0=y0<;>by_cases h1:x1=y1<;>simp[h0,h1])
  rw[map_id',map_id']at this;exact this
 have k1:∀(k:Option Bool),a.conds.length=b.conds.length->jB a b k a.conds 0=bif decide (a.conds=b.conds)then k else some false:=fun k hl=>by
  have:=QW (g:=fun x:aH=>x) (f:=j4) (k:=k) (L:=jB a b k) hl (fun _=>rfl) (fun _ _ _=>rfl) Lr;rw[map_id',map_id']at this;exact this
 unfold nk;rw[Lw,Lw];obtain⟨a0,a1,a2,a3⟩:=a;obtain⟨b0,b1,b2,b3⟩:=b;simp only at k1 k2⊢;simp only[bne,jw,Bool.not_not];by_cases h0:a0=b0;rotate_left
 ·simp[h0]
 by_cases h1:a1=b1;rotate_left
 ·simp[h1]
 by_cases h2:a2.length=b2.length;rotate_left
 ·have:a2≠b2:=fun e=>h2 (by rw[e])
  simp[h2,this]
 by_cases h3:a3.length=b3.length;rotate_left
 ·have:a3≠b3:=fun e=>h3 (by rw[e])
  simp[h3,this]
 rw[k1 _ h2,k2 _ h3];by_cases h4:a2=b2<;>by_cases h5:a3=b3<;>simp[h0,h1,h2,h3,h4,h5]
theorem WY(a b:au):pF a b=some (decide (a=b)):=by
 unfold pF;exact Yu (c:=aJ.c) (f:=nk) (fun k=>kV a b k) (fun _ _=>rfl) (fun _ _ _ _=>rfl) Za
theorem UA(x y:aQ):((x.var:Bytes)==y.var&&(x.value:Bytes)==y.value)=decide (x=y):=by
 obtain⟨x0,x1⟩:=x;obtain⟨y0,y1⟩:=y;simp only[jw];by_cases h0:x0=y0<;>by_cases h1:x1=y1<;>simp[h0,h1]
theorem ZX(a b:aP):nL a b=some (decide (a=b)):=by
 unfold nL;exact Yu (c:=aQ.c) (f:=fun x y=>some (decide (x=y))) (fun k=>iP a b k) (fun _ _=>rfl) (fun k x xs i=>by rw[iP];congr 1;funext y;rw[UA];rfl) (fun _ _=>rfl)
theorem WZ(a b:bE):mO a b=some (decide (a=b)):=by
 unfold mO;exact Yu (c:=aX.c) (f:=fun x y=>(iD x.facts y.facts).bind fun r=>bif !r then some false else nL x.bind y.bind) (fun k=>ga a b k) (fun _ _=>rfl) (fun k x xs i=>by
  rw[ga];congr 1;funext y;rw[Ib,aA,aA];cases decide (x.facts=y.facts)<;>rfl) (fun x y=>by
  obtain⟨x0,x1⟩:=x;obtain⟨y0,y1⟩:=y;simp only[Ib,ZX,aA];by_cases h0:x0=y0<;>by_cases h1:x1=y1<;>simp[h0,h1])
def RW(a b:aN):Bool:=decide (a.rules=b.rules)&&(decide (a.ends=b.ends)&&(decide (a.facts=b.facts)&&(decide (a.bM=b.bM)&&decide (a.nodes=b.nodes))))
theorem a5E(a b:aN):mh a b=some (RW a b):=by
 unfold mh;simp only[WY,ZZ,Ib,aA,Lw];by_cases h1:a.bM.length=b.bM.length;rotate_left
 ·have:a.bM≠b.bM:=fun e=>h1 (by rw[e])
  simp only[h1,RW,this,decide_false,dF,aI,Bool.false_and];cases decide (a.rules=b.rules)<;>cases decide (a.ends=b.ends)<;>cases decide (a.facts=b.facts)<;>rfl
 by_cases h2:a.nodes.length=b.nodes.length;rotate_left
 ·have:a.nodes≠b.nodes:=fun e=>h2 (by rw[e])
  simp only[h1,h2,RW,this,decide_true,decide_false,dF,bn,aI,aW,wo];cases decide (a.rules=b.rules)<;>cases decide (a.ends=b.ends)<;>cases decide (a.facts=b.facts)<;>rfl
 have k1:=fun k=>QW (g:=fun x:ai=>x) (f:=fun x y:ai=>(fA x.shape y.shape).bind fun r=>bif !r then some false else iD x.facts y.facts) (k:=k) (L:=fm a b k) h1 (fun _=>rfl) (fun x xs i=>by
  rw[fm];congr 1;funext y;rw[JL,aA,aA];cases decide (x.shape=y.shape)<;>rfl) (fun x y=>by
  obtain⟨x0,x1⟩:=x;obtain⟨y0,y1⟩:=y;simp only[JL,Ib,aA];by_cases q0:x0=y0<;>by_cases q1:x1=y1<;>simp[q0,q1])
 have k2:=fun k=>QW (g:=fun x:Node=>x) (f:=fun x y:Node=>bif x.parent != y.parent then some false else bif x.ot != y.ot then some false else(j4 x.cond y.cond).bind fun r=>bif !r then some false else mO x.tokens y.tokens) (k:=k) (L:=fo a b k) h2 (fun _=>rfl) (fun x xs i=>by
  rw[fo];congr 1;funext y;rw[Lr,aA,aA];cases(x.parent != y.parent)<;>cases(x.ot != y.ot)<;>cases decide (x.cond=y.cond)<;>rfl) (fun x y=>by
  obtain⟨x0,x1,x2,x3⟩:=x;obtain⟨y0,y1,y2,y3⟩:=y;simp only[Lr,WZ,aA,bne,jw];by_cases q0:x0=y0<;>by_cases q1:x1=y1<;>by_cases q2:x2=y2<;>by_cases q3:x3=y3<;>simp[q0,q1,q2,q3])
 rw[k1,k2,map_id',map_id',map_id',map_id',RW];simp only[h1,h2,decide_true,bn,aW];cases decide (a.rules=b.rules)<;>cases decide (a.ends=b.ends)<;>cases decide (a.facts=b.facts)<;>cases decide (a.bM=b.bM)<;>cases decide (a.nodes=b.nodes)<;>rfl
end Go.Cx
namespace Go.Cx
open Go.RowKit Go.Proofs Tryz
def vS(s:Bytes):Option Nat:=if 1<=s.length/\s.length<=4 then(match Lib.decFrom 0 s with|some n=>if Lib.decDigits n=s then some n else none|none=>none)else none
def pI(s:Bytes):Int×Bool:=match vS s with|some n=>((n:Int),true)|none=>(0,false)
theorem Sj:∀(u:Nat),∀b∈Lib.decDigits u,48<=b.toNat/\b.toNat<=57:=by
 intro u
 induction u using Nat.strongRecOn with
 |_ u ih=>
  have hb:∀v:Nat,v<10->48<=(UInt8.ofNat (48+v)).toNat/\(UInt8.ofNat (48+v)).toNat<=57:=by
   intro v hv;have:(UInt8.ofNat (48+v)).toNat=48+v:=by simp;omega
   omega
  intro b hm;rw[Lib.decDigits]at hm;split at hm
  ·rename_i h10;simp only[cZ]at hm;subst hm;exact hb u h10
  ·rename_i h10;rcases aZ.1 hm with hm|hm
   ·exact ih (u/10) (by omega) b hm
   ·simp only[cZ]at hm;subst hm;exact hb (u%10) (by omega)
theorem X5(a:Bytes)(k:Int->Option (Int×Bool))(ha:a.length<=4):∀(rest pre:Bytes) (acc:Nat),a=pre++rest->acc<10^pre.length->∀n,rest.length<n->
 gj a k n (acc:Int) (pre.length:Int)=(match Lib.decFrom acc rest with|some m=>k (m:Int)|none=>some (0,false)):=by
 intro rest
 induction rest with
 |nil=>
  intro pre acc h _ n hn;obtain⟨m,rfl⟩:∃m,n=m+1:=⟨n-1,by simp at hn;omega⟩
  have e1:decide ((pre.length:Int)<(a.length:Int))=false:=by simp[h]
  rw[gj,e1];rfl
 |cons x xs ih=>
  intro pre acc h hacc n hn;obtain⟨m,rfl⟩:∃m,n=m+1:=⟨n-1,by simp at hn;omega⟩
  have hl:a.length=pre.length+(xs.length+1):=by rw[h];simp
  have e1:decide ((pre.length:Int)<(a.length:Int))=true:=by rw[hl];simp;omega
  have e4:IntKind.i64.wrap ((pre.length:Int)+1)=((pre++[x]).length:Int):=by rw[Jy (by omega)];simp
  have h10:acc<10000:=cz hacc (rG (by omega) (show pre.length<=4 by omega));have hx:=x.toNat_lt;rw[gj,e1,aI,sv h,aA,e4];by_cases c1:(x.toNat:Int)<48
  ·have:Lib.digitVal x=none:=by unfold Lib.digitVal;rw[b9 (by omega)]
   simp only[Lib.decFrom,this];rw[bB c1,aI]
  ·by_cases c2:(x.toNat:Int)>57
   ·have:Lib.digitVal x=none:=by unfold Lib.digitVal;rw[b9 (by omega)]
    simp only[Lib.decFrom,this];rw[bG c1,aW,bB c2,aI]
   ·have hd:Lib.digitVal x=some (x.toNat-48):=by unfold Lib.digitVal;rw[bN (by omega)]
    have e5:IntKind.i64.wrap ((IntKind.i64.wrap (10*(acc:Int)))+(IntKind.i64.wrap (IntKind.u8.wrap ((x.toNat:Int)-48))))=((acc*10+(x.toNat-48):Nat):Int):=by
     rw[dZ (k:=.u8) (nS.u8.2 (by omega)),dZ (n:=(10:Int)*(acc:Int)) (nS.i64.2 (by omega)),dZ (n:=(x.toNat:Int)-48) (nS.i64.2 (by omega)),dZ (nS.i64.2 (by omega))];omega
    simp only[Lib.decFrom,hd];rw[bG c1,aW,bG c2,aW,e5];refine ih (pre++[x]) _ (by simp[h]) ?_ m (by simp at hn;omega);rw[av,cy,tu];omega
theorem MH(s:Bytes):kn s=some (pI s):=by
 unfold kn;rw[GM,aA];by_cases hl:1<=s.length/\s.length<=4
 ·have e1:(decide ((s.length:Int)>=1)&&decide ((s.length:Int)<=4))=true:=by simp;omega
  have t:=X5 s (fun z=>((lP z).bind fun Cn=>(bif !((Cn:Bytes)==s)then(some (0,false))else(some (z,true))))) hl.2 s [] 0 rfl (by simp) fuel (by unfold fuel;omega);rw[e1,bn,aW];refine t.trans ?_;unfold pI vS;rw[bN hl];cases hd:Lib.decFrom 0 s with
  |none=>rfl
  |some m=>
   have hm:=Lib.decFrom_lt s 0 m hd;have h10:m<10000:=by
    have:=rG (n:=10) (by omega) hl.2;omega
   simp only;rw[a0D _ (nS.i64.2 (by omega)),aA];have e2:Lib.itoa (m:Int)=Lib.decDigits m:=by unfold Lib.itoa;rw[b9 (by omega)];simp
   rw[e2];by_cases he:Lib.decDigits m=s
   ·rw[bN he,he];simp
   ·rw[b9 he];have:(Lib.decDigits m==s)=false:=by simpa using he
    rw[this];rfl
 ·have e1:(decide ((s.length:Int)>=1)&&decide ((s.length:Int)<=4))=false:=by
   rw[Ap,oq,oq];omega
  rw[e1];unfold pI vS;rw[b9 hl];rfl
theorem Lp(s:Bytes):kf s=some (pI s):=by
 unfold kf pI vS;by_cases hl:1<=s.length/\s.length<=4
 ·have e1:decide ((s.length:Int)<1)=false:=by simp;omega
  have e2:decide ((s.length:Int)>4)=false:=by simp;omega
  rw[bN hl,e1,aW,e2,aW];unfold xY Lu;rw[bN (by omega)];cases s with
  |nil=>simp at hl
  |cons b t=>
   have fin:∀(m:Nat),Lib.decFrom 0 (b::t)=some m->(bif decide ((m:Int)<0)then some ((0:Int),false)else bif decide ((m:Int)>9999)then some (0,false)else(fO (m:Int)).bind fun y8=>bif !((y8:Bytes)==(b::t))then some (0,false)else some ((m:Int),true))=
    some (match(if Lib.decDigits m=b::t then some m else none)with|some n=>((n:Int),true)|none=>(0,false)):=by
    intro m hd;have hm:=Lib.decFrom_lt (b::t) 0 m hd;have h10:m<10000:=by
     have:=rG (n:=10) (by omega) hl.2;omega
    have e3:decide ((m:Int)<0)=false:=by simp
    have e4:decide ((m:Int)>9999)=false:=by simp;omega
    have e5:Lib.itoa (m:Int)=Lib.decDigits m:=by unfold Lib.itoa;rw[b9 (by omega)];simp
    rw[e3,aW,e4,aW,RI,aA,e5];by_cases he:Lib.decDigits m=b::t
    ·rw[bN he,he];simp
    ·rw[b9 he];have:(Lib.decDigits m==(b::t))=false:=by simpa using he
     rw[this];rfl
   have sign:∀(n:Int),b.toNat<48->(bif decide (n<0)then some ((0:Int),false)else bif decide (n>9999)then some (0,false)else(fO n).bind fun y8=>bif !((y8:Bytes)==(b::t))then some (0,false)else some (n,true))=some (0,false):=by
    intro n hb;by_cases hn:n<0
    ·rw[bB hn];rfl
    rw[bG hn,aW,RI,aA];cases decide (n>9999)with
    |true=>rfl
    |false=>
     have e5:Lib.itoa n=Lib.decDigits n.toNat:=by unfold Lib.itoa;rw[b9 hn]
     have:(Lib.itoa n==(b::t))=false:=by
      rw[e5,cT];intro h;have:=Sj n.toNat b (by rw[h];simp);omega
     rw[this];rfl
   simp only[Lib.atoi];by_cases hb:b=45
   ·subst hb;have hd:Lib.decFrom 0 ((45:UInt8)::t)=none:=by simp[Lib.decFrom,Lib.digitVal]
    rw[bN (by decide),hd];cases Lib.decNat t with
    |none=>rfl
    |some m=>exact sign _ (by decide)
   ·rw[b9 (by simpa using hb)];by_cases O5:b=43
    ·subst O5;have hd:Lib.decFrom 0 ((43:UInt8)::t)=none:=by simp[Lib.decFrom,Lib.digitVal]
     rw[bN (by decide),hd];cases Lib.decNat t with
     |none=>rfl
     |some m=>exact sign (m:Int) (by decide)
    ·rw[b9 (by simpa using O5)];have hdn:Lib.decNat (b::t)=Lib.decFrom 0 (b::t):=by simp[Lib.decNat]
     rw[hdn];cases hd:Lib.decFrom 0 (b::t)with
     |none=>rfl
     |some m=>exact fin m hd
 ·rw[b9 hl];by_cases h1:(s.length:Int)<1
  ·rw[bB h1];rfl
  ·have h2:(s.length:Int)>4:=by omega
   rw[bG h1,aW,bB h2];rfl
def tf(a b:Bytes):Int:=if Op.bytesLess a b=true then-1 else if a=b then 0 else 1
def EE(x y:Int):Int:=if x<y then-1 else if x>y then 1 else 0
def zE(a b:Bytes):Int:=match vS a,vS b with
 |some x,some y=>EE x y
 |some _,none=> -1
 |none,some _=>1
 |none,none=>tf a b
def rQ{α:Type}(g:α->α->Int):List α->List α->Option Int
 |x::xs,y::ys=>if g x y≠0 then some (g x y)else rQ g xs ys
 |_,_=>none
def cmpL{α:Type}(g:α->α->Int)(a b:List α):Int:=match rQ g a b with|some z=>z|none=>EE a.length b.length
def pQ(a b:aG):Int:=if a.rel≠b.rel then tf a.rel b.rel else cmpL zE a.args b.args
theorem Px{a b:Bytes}(h:a≠b):tf a b≠0:=by
 unfold tf;split
 ·omega
 ·first|omega| (rw[b9 h];omega)
theorem Ki(a:Bytes):tf a a=0:=by
 unfold tf;rw[tR];simp
theorem Pt:∀(a b:Bytes),Lib.compareBytes a b=tf a b
 | [],[]=>by simp[Lib.compareBytes,tf,Op.bytesLess]
 | [],_::_=>by simp[Lib.compareBytes,tf,Op.bytesLess]
 |_::_,[]=>by simp[Lib.compareBytes,tf,Op.bytesLess]
 |a::xs,b::ys=>by
  have ih:=Pt xs ys;simp only[Lib.compareBytes,tf,Op.bytesLess];by_cases h1:a<b
  ·simp[h1]
  ·by_cases h2:b<a
   ·have hne:a≠b:=fun e=>by subst e;exact h1 h2
    simp[h1,h2,hne]
   ·have e:a=b:=by
     rw[Aw]at h1 h2;exact UInt8.toNat_inj.1 (by omega)
    subst e;rw[b9 h1,b9 h1,ih];simp[tf,h1]
theorem LX{α:Type}{f:α->α->Option Int}{g:α->α->Int}{c:α->aL}{L:List α->Nat->Option Int}{k:Option Int}{b:List α}(qZ:∀i,L [] i=k)
 (pS:∀x xs i,L (x::xs) i=bif decide (((i:Int):Int)<((b.map c).length:Int))then((iM b (i:Int)).bind fun y=>((f x y).bind fun z=>(bif (z:Int) != 0 then(some z)else(L xs (i+1)))))else k):
 ∀(l pre rest:List α),b=pre++rest->(∀x∈l,∀y∈rest,f x y=some (g x y))->L l pre.length=(match rQ g l rest with|some z=>some z|none=>k):=by
 intro l
 induction l with
 |nil=>intro pre rest h _;rw[qZ];cases rest<;>rfl
 |cons x xs ih=>
  intro pre rest h hf;rw[pS];cases rest with
  |nil=>
   have e1:decide ((pre.length:Int)<((b.map c).length:Int))=false:=by simp[h]
   rw[e1];rfl
  |cons y ys=>
   have e1:decide ((pre.length:Int)<((b.map c).length:Int))=true:=by simp[h];omega
   rw[e1,aI,sv h,aA,hf x (by simp) y (by simp),aA];simp only[rQ];have t:=ih (pre++[y]) ys (by simp[h]) (fun x' hx y' hy=>hf x' (by simp[hx]) y' (by simp[hy]));rw[av,cy]at t;by_cases hz:g x y=0
   ·have e2:(g x y != 0)=false:=by simp[hz]
    rw[e2,aW,t,b9 (by simp[hz])]
   ·have e2:(g x y != 0)=true:=by simp[hz]
    rw[e2,aI,bN hz]
theorem LY(x y:Int):(bif decide (x<y)then some (-1:Int)else bif decide (x>y)then some 1 else some 0)=some (EE x y):=by
 unfold EE;by_cases h1:x<y
 ·simp[h1]
 ·by_cases h2:x>y
  ·simp[h1,h2]
  ·simp[h1,h2]
theorem YR(a b:Bytes):py a b=some (tf a b):=by
 unfold py tf;cases h:Op.bytesLess a b with
 |true=>rfl
 |false=>
  by_cases e:a=b
  ·simp[e]
  ·have e':(a==b)=false:=by simpa using e
   simp[e,e']
theorem YQ(a b:Bytes):iU a b=some (zE a b):=by
 unfold iU zE;rw[MH,MH,aA,aA,YR];unfold pI;cases vS a with
 |none=>cases vS b<;>rfl
 |some x=>
  cases vS b with
  |none=>rfl
  |some y=>
   simp only[aI,bn,aW];exact LY _ _
theorem TU(x y:Int):gY x y=some (EE x y):=by
 unfold gY;exact LY x y
theorem Xm(a b:Bytes):oN a b=some (tf a b):=by
 unfold oN;show some (Lib.compareBytes a b)=_;rw[Pt]
theorem a1r(a b:Bytes):kO a b=some (zE a b):=by
 unfold kO zE;rw[Lp,Lp,aA,aA,Xm];unfold pI;cases vS a with
 |none=>cases vS b<;>rfl
 |some x=>
  cases vS b with
  |none=>rfl
  |some y=>
   simp only[aI,TU,aA]
theorem UR(a b:aG):gM a b=some (pQ a b):=by
 unfold gM pQ;by_cases h:a.rel=b.rel
 ·have e:(a.rel==b.rel)=true:=by simpa using h
  rw[e,bn,aW,b9 (by simpa using h)];have t:=fun k=>LX (f:=iU) (g:=zE) (c:=tx) (L:=iE a b k) (b:=b.args) (k:=k) (fun _=>rfl) (fun _ _ _=>rfl) a.args [] b.args rfl (fun x _ y _=>YQ x y)
  refine(t _).trans ?_;unfold cmpL;cases rQ zE a.args b.args with
  |some z=>rfl
  |none=>simp only[ar];exact LY _ _
 ·have e:(a.rel==b.rel)=false:=by simpa using h
  rw[e,dF,aI,bN h,YR];rfl
theorem Xn(a b:aG):gK a b=some (pQ a b):=by
 unfold gK pQ;rw[Xm,aA];by_cases h:a.rel=b.rel
 ·have e:(tf a.rel b.rel != 0)=false:=by rw[h,Ki];rfl
  rw[e,aW,b9 (by simpa using h)];have t:=fun k=>LX (f:=kO) (g:=zE) (c:=tx) (L:=iB a b k) (b:=b.args) (k:=k) (fun _=>rfl) (fun _ _ _=>rfl) a.args [] b.args rfl (fun x _ y _=>a1r x y)
  refine(t _).trans ?_;unfold cmpL;cases rQ zE a.args b.args with
  |some z=>rfl
  |none=>simp only[ar,TU,aA]
 ·have e:(tf a.rel b.rel != 0)=true:=by simpa using Px h
  rw[e,aI,bN h]
theorem a1s(a b:aX):fe a b=some (cmpL pQ a.facts b.facts):=by
 unfold fe mM;have t:=LX (f:=gK) (g:=pQ) (c:=aG.c) (L:=eN a.facts b.facts ((gY ((a.facts.map aG.c).length:Int) ((b.facts.map aG.c).length:Int)).bind fun D5=>(some D5))) (b:=b.facts) (k:=_) (fun _=>rfl) (fun _ _ _=>rfl) a.facts [] b.facts rfl (fun x _ y _=>Xn x y);rw[show eN a.facts b.facts _ a.facts 0=_ from t];unfold cmpL;cases rQ pQ a.facts b.facts with
 |some z=>rfl
 |none=>simp only[ar,TU,aA]
def chainB:Option aG->aO->Bool
 |_,[]=>true
 |p,x::xs=>sC x&&(match p with|some q=>decide (pQ q x<0)|none=>true)&&chainB (some x) xs
def o7(l:aO):Bool:=chainB none l&&decide (l.length<=24)
theorem Ka{isF:aG->Option Bool}{cmp:aG->aG->Option Int}{a:aO}{L:aO->Nat->Option Bool}{k:Option Bool}(ha:a.length<=1099511627770)(hc:∀x y,cmp x y=some (pQ x y))(qZ:∀i,L [] i=k)
 (pS:∀x xs i,L (x::xs) i=((isF x).bind fun y=>(bif !(y)then(some false)else(bif decide (((i:Int):Int)>0)then((iM a (IntKind.i64.wrap ((i:Int)-1))).bind fun q=>((cmp q x).bind fun z=>(bif decide ((z:Int)>=0)then(some false)else(L xs (i+1)))))else(L xs (i+1)))))):
 ∀(l pre:aO),a=pre++l->(∀x∈l,isF x=some (sC x))->L l pre.length=bif chainB pre.getLast? l then k else some false:=by
 intro l
 induction l with
 |nil=>intro pre _ _;rw[qZ];rfl
 |cons x xs ih=>
  intro pre h hf;have hl:a.length=pre.length+(xs.length+1):=by rw[h];simp
  have t:=ih (pre++[x]) (by simp[h]) (fun y hy=>hf y (by simp[hy]));rw[av,cy,lm]at t;rw[pS,hf x (by simp),aA,t];simp only[chainB];cases sC x with
  |false=>rfl
  |true=>
   rw[bn,aW,iw];rcases uU pre with rfl|⟨p,z,VM⟩
   ·simp
   ·rw[uT]at VM;subst VM;have e0:decide (((p++[z]).length:Int)>0)=true:=by simp<;>omega
    have e1:IntKind.i64.wrap (((p++[z]).length:Int)-1)=(p.length:Int):=by
     rw[dZ (nS.i64.2 (by simp at hl⊢;omega))];simp
    have e2:iM a (p.length:Int)=some z:=sv (xs:=x::xs) (by rw[h];simp);rw[e0,aI,e1,e2,aA,hc,aA,lm];by_cases hz:pQ z x<0
    ·have e3:decide (pQ z x>=0)=false:=by simp;omega
     rw[e3,aW];show _=bif (decide (pQ z x<0)&&chainB (some x) xs)then k else some false
     rw[bB hz,iw]
    ·have e3:decide (pQ z x>=0)=true:=by simp;omega
     rw[e3,aI];show _=bif (decide (pQ z x<0)&&chainB (some x) xs)then k else some false
     rw[bG hz];rfl
theorem a68(l:aO)(h:sM aG.wt l<=1048576):Ah l=some (o7 l):=by
 unfold Ah o7;have hl:=rz aG.wt l;have t:=Ka (isF:=oT) (cmp:=gM) (a:=l) (L:=pZ l (some (decide ((((l.map aG.c).length:Int):Int)<=24)))) (k:=_) (by omega) UR (fun _=>rfl) (fun _ _ _=>rfl) l [] rfl (fun x hx=>YS x (by have:=s4 (w:=aG.wt) hx;omega));refine t.trans ?_;have e:decide (((l.map aG.c).length:Int)<=24)=decide (l.length<=24):=by rw[ar];congr 1;rw[uj];omega
 rw[e];show(bif chainB none l then _ else _)=_;cases chainB none l<;>rfl
theorem a1q(l:aO)(h:sM aG.wt l<=1048576):qI l=some (o7 l):=by
 unfold qI o7;have hl:=rz aG.wt l;have t:=Ka (isF:=oR) (cmp:=gK) (a:=l) (L:=gV l (some true)) (k:=_) (by omega) Xn (fun _=>rfl) (fun _ _ _=>rfl) l [] rfl (fun x hx=>Xo x (by have:=s4 (w:=aG.wt) hx;omega));rw[show gV l (some true) l 0=_ from t];by_cases h24:l.length<=24
 ·have e:decide (((l.map aG.c).length:Int)>24)=false:=by rw[ar];simp;omega
  rw[e,aW,bB h24,yW];show(bif chainB none l then _ else _)=_;cases chainB none l<;>rfl
 ·have e:decide (((l.map aG.c).length:Int)>24)=true:=by rw[ar];simp;omega
  rw[e,aI,bG h24,wo]
end Go.Cx
namespace Go.Cx
open Go.RowKit Go.Proofs Tryz
def PB(b:aP):Prop:=b.length<=1048576/\∀x∈b,x.var.length<=1048576/\x.value.length<=1048576
theorem PB.nil:PB []:=⟨by simp,by simp⟩
def zz:Option aQ->aP->Bool
 |_,[]=>true
 |p,x::xs=>mF x.var&&(ke x.value&&((match p with|some q=>Op.bytesLess q.var x.var|none=>true)&&zz (some x) xs))
def rK(b:aP):Bool:=zz none b&&decide (b.length<=6)
theorem KY{b:aP}(h:rK b=true):b.length<=6:=by
 unfold rK at h;simp only[aY,bK]at h;exact h.2
theorem Mo{isV We:Bytes->Option Bool}{a:aP}{L:aP->Nat->Option Bool}{k:Option Bool}(ha:a.length<=1099511627770)(hV:∀x:Bytes,x.length<=1048576->isV x=some (mF x))(hA:∀x:Bytes,x.length<=1048576->We x=some (ke x))(qZ:∀i,L [] i=k)
 (pS:∀x xs i,L (x::xs) i=((isV x.var).bind fun y=>(bif !(y)then(some false)else((We x.value).bind fun z=>(bif !(z)then(some false)else(bif decide (((i:Int):Int)>0)then((iM a (IntKind.i64.wrap ((i:Int)-1))).bind fun q=>(bif !(Op.bytesLess q.var x.var)then(some false)else(L xs (i+1))))else(L xs (i+1)))))))):
 ∀(l pre:aP),a=pre++l->(∀x∈l,x.var.length<=1048576/\x.value.length<=1048576)->L l pre.length=bif zz pre.getLast? l then k else some false:=by
 intro l
 induction l with
 |nil=>intro pre _ _;rw[qZ];rfl
 |cons x xs ih=>
  intro pre h hf;have hl:a.length=pre.length+(xs.length+1):=by rw[h];simp
  have t:=ih (pre++[x]) (by simp[h]) (fun y hy=>hf y (by simp[hy]));rw[av,cy,lm]at t;rw[pS,hV _ (hf x (by simp)).1,aA,hA _ (hf x (by simp)).2,aA,t];simp only[zz];cases mF x.var with
  |false=>rfl
  |true=>
   cases ke x.value with
   |false=>rfl
   |true=>
    simp only[bn,aW,iw];rcases uU pre with rfl|⟨p,z,VM⟩
    ·simp
    ·rw[uT]at VM;subst VM;have e0:decide (((p++[z]).length:Int)>0)=true:=by simp<;>omega
     have e1:IntKind.i64.wrap (((p++[z]).length:Int)-1)=(p.length:Int):=by
      rw[dZ (nS.i64.2 (by simp at hl⊢;omega))];simp
     have e2:iM a (p.length:Int)=some z:=sv (xs:=x::xs) (by rw[h];simp);rw[e0,aI,e1,e2,aA,lm];show _=bif (Op.bytesLess z.var x.var&&zz (some x) xs)then k else some false
     cases Op.bytesLess z.var x.var<;>rfl
theorem Qa(b:aP)(h:PB b):jZ b=some (rK b):=by
 unfold jZ rK;have t:=fun k=>Mo (isV:=gB) (We:=fC) (a:=b) (L:=iV b k) (k:=k) (by have:=h.1;omega) MI I8 (fun _=>rfl) (fun _ _ _=>rfl) b [] rfl h.2
 refine(t _).trans ?_;have e:decide (((b.map aQ.c).length:Int)<=6)=decide (b.length<=6):=by rw[ar];congr 1;rw[uj];omega
 rw[e];show(bif zz none b then _ else _)=_;cases zz none b<;>rfl
theorem QI(b:aP)(h:PB b):jT b=some (rK b):=by
 unfold jT rK;have t:=fun k=>Mo (isV:=jy) (We:=ez) (a:=b) (L:=gL b k) (k:=k) (by have:=h.1;omega) RJ Hx (fun _=>rfl) (fun _ _ _=>rfl) b [] rfl h.2
 rw[show gL b (some true) b 0=_ from t _];by_cases h6:b.length<=6
 ·have e:decide (((b.map aQ.c).length:Int)>6)=false:=by rw[ar];simp;omega
  rw[e,aW,bB h6,yW];show(bif zz none b then _ else _)=_;cases zz none b<;>rfl
 ·have e:decide (((b.map aQ.c).length:Int)>6)=true:=by rw[ar];simp;omega
  rw[e,aI,bG h6,wo]
def yO(t:Bytes):aP->Option Bytes
 | []=>none
 |x::xs=>bif x.var==t then some x.value else yO t xs
def wY(b:aP)(t:Bytes):Bytes×Bool:=bif ke t then(t,true)else bif mF t then(match yO t b with|some v=>(v,true)|none=>([],false))else([],false)
theorem a0S(b:aP)(t:Bytes)(ht:t.length<=1048576):nU b t=some (wY b t):=by
 unfold nU wY;have key:∀(l:aP) (i:Nat),gR b t (some ([],false)) l i=some (bif mF t then(match yO t l with|some v=>(v,true)|none=>([],false))else([],false)):=by
  intro l
  induction l with
  |nil=>intro i;rw[gR];cases mF t<;>rfl
  |cons x xs ih=>
   intro i;rw[gR,MI t ht,aA,ih];simp only[yO];cases x.var==t<;>cases mF t<;>rfl
 rw[I8 t ht,aA,key];cases ke t<;>rfl
theorem Zd(b:aP)(t:Bytes)(ht:t.length<=1048576):nT b t=some (wY b t):=by
 unfold nT wY;have key:∀(l:aP) (i:Nat),k7 b t (some ([],false)) l i=some (match yO t l with|some v=>(v,true)|none=>([],false)):=by
  intro l
  induction l with
  |nil=>intro i;rfl
  |cons x xs ih=>
   intro i;rw[k7,ih];simp only[yO];cases x.var==t<;>rfl
 rw[Hx t ht,aA,RJ t ht,aA,key];cases ke t<;>cases mF t<;>rfl
theorem PF(b:aP)(h:b.length<=1099511627776):oX b=some b:=by
 unfold oX;rw[Ni h (by decide)];simp
theorem TX(b:aP)(h:b.length<=1099511627776):nK b=some b:=by
 unfold nK;rw[Ni h (by decide)];simp
def KN(v val:Bytes):aP->aP
 | []=>[⟨v,val⟩]
 |x::xs=>bif !(Op.bytesLess x.var v||x.var==v)then⟨v,val⟩::x::xs else x::KN v val xs
theorem Ul(v val:Bytes)(b:aP):(KN v val b).length=b.length+1:=by
 induction b with
 |nil=>rfl
 |cons x xs ih=>simp only[KN];cases !(Op.bytesLess x.var v||x.var==v)<;>simp[ih]
theorem Um(v val:Bytes)(b:aP){x:aQ}(h:x∈KN v val b):x=⟨v,val⟩\/x∈b:=by
 induction b with
 |nil=>simp[KN]at h;exact .inl h
 |cons y ys ih=>
  simp only[KN]at h;cases hc: !(Op.bytesLess y.var v||y.var==v)with
  |true=>
   rw[hc,aI]at h;rcases bH.1 h with h|h
   ·exact .inl h
   ·exact .inr h
  |false=>
   rw[hc,aW]at h;rcases bH.1 h with h|h
   ·exact .inr (by simp[h])
   ·rcases ih h with h|h
    ·exact .inl h
    ·exact .inr (by simp[h])
theorem Qb{γ:Type}{v val:Bytes}{L:aP->Nat->Bool->aP->Option γ}{k:Bool->aP->Option γ}{K:aP->Option γ}(hk1:∀w,k true w=K w)(hk2:∀w:aP,w.length<1099511627770->k false w=K (w++[⟨v,val⟩]))(qZ:∀i d w,L [] i d w=k d w)
 (pS:∀x xs i d w,L (x::xs) i d w=(bif !(d)then(bif !(Op.bytesLess x.var v||(x.var:Bytes)==v)then(bif room ((w.map aQ.c).length+([[D.str v,D.str val]]).length) 32 then(bif room (((w.map aQ.c)++([[D.str v,D.str val]])).length+([[D.str x.var,D.str x.value]]).length) 32 then(L xs (i+1) true ((w++([(⟨v,val⟩:aQ)]))++([x])))else none)else none)else(bif room ((w.map aQ.c).length+([[D.str x.var,D.str x.value]]).length) 32 then(L xs (i+1) d (w++([x])))else none))else(bif room ((w.map aQ.c).length+([[D.str x.var,D.str x.value]]).length) 32 then(L xs (i+1) d (w++([x])))else none))):
 ∀(l:aP) (i:Nat) (w:aP),w.length+l.length<1099511627760->L l i false w=K (w++KN v val l):=by
 have c1:∀(l:aP) (i:Nat) (w:aP),w.length+l.length<1099511627765->L l i true w=K (w++l):=by
  intro l
  induction l with
  |nil=>intro i w _;rw[qZ,hk1,eA]
  |cons x xs ih=>
   intro i w hw;simp only[aT]at hw;rw[pS,bn,aW,jk (by omega) (by decide),aI,ih (i+1) (w++[x]) (by simp;omega)];simp
 intro l
 induction l with
 |nil=>intro i w hw;simp only[bW]at hw;rw[qZ,hk2 _ (by omega)];rfl
 |cons x xs ih=>
  intro i w hw;simp only[aT]at hw;have r1:∀y:aL,room ((w.map aQ.c).length+([y]).length) 32=true:=fun y=>jk (by omega) (by decide)
  have r2:room (((w.map aQ.c)++([[D.str v,D.str val]])).length+([[D.str x.var,D.str x.value]]).length) 32=true:=I6 (by simp;omega) (by decide);have t1:=ih (i+1) (w++[x]) (by simp;omega);have t2:=c1 xs (i+1) ((w++[⟨v,val⟩])++[x]) (by simp;omega);rw[pS,dF,aI,r1,r1,r2];simp only[aI,KN];cases !(Op.bytesLess x.var v||x.var==v)with
  |true=>rw[aI,aI,t2];simp
  |false=>rw[aW,aW,t1];simp
theorem a2u(b:aP)(v val:Bytes)(h:b.length<1099511627700):uH b v val=some (KN v val b):=by
 unfold uH;exact Qb (v:=v) (val:=val) (K:=fun w=>some w) (L:=kq b v val (fun(z:Bool) (q:aP)=>(bif !(z)then(bif room ((q.map aQ.c).length+([[D.str v,D.str val]]).length) 32 then(some (q++([(⟨v,val⟩:aQ)])))else none)else(some q)))) (fun w=>rfl) (fun w hw=>by show(bif !false then _ else _)=_;rw[jk (by omega) (by decide)];rfl) (fun _ _ _=>rfl) (fun _ _ _ _ _=>rfl) b 0 [] (by simp;omega)
def IJ(b:aP)(v val:Bytes):aP×Bool:=bif rK b&&(mF v&&ke val)then(match yO v b with|some o=>bif o==val then(b,true)else([],false)|none=>bif decide (b.length=6)then([],false)else(KN v val b,true))else([],false)
theorem Pz{b:aP}{v val:Bytes}(h:PB b)(hv:v.length<=1048576)(hl:val.length<=1048576):PB (IJ b v val).1:=by
 unfold IJ;cases hb:rK b&&(mF v&&ke val)with
 |false=>exact PB.nil
 |true=>
  rw[aI];have h6:b.length<=6:=KY (by simp only[aY]at hb;exact hb.1);cases yO v b with
  |some o=>simp only;cases o==val<;>first|exact h|exact PB.nil
  |none=>
   simp only;cases decide (b.length=6)with
   |true=>exact PB.nil
   |false=>
    refine⟨by simp only[aW,Ul];omega,fun x hx=>?_⟩;rcases Um _ _ _ hx with rfl|hx
    ·exact⟨hv,hl⟩
    ·exact h.2 x hx
theorem a5X(b:aP)(v val:Bytes)(h:PB b)(hv:v.length<=1048576)(hl:val.length<=1048576):qh b v val=some (IJ b v val):=by
 unfold qh IJ;have hlen:=h.1;rw[Qa b h,aA,MI v hv,aA,I8 val hl,aA,a0S b v hv,aA,PF b (by omega),aA,a2u b v val (by omega),aA];have e6:((((b.map aQ.c).length:Int):Int)==6)=decide (b.length=6):=by
  rw[ar,bg];simp;omega
 rw[e6];cases hb:rK b with
 |false=>rfl
 |true=>
  cases ZJ:mF v with
  |false=>rfl
  |true=>
   cases ke val with
   |false=>rfl
   |true=>
    have K3:wY b v=(match yO v b with|some o=>(o,true)|none=>([],false)):=by unfold wY;rw[Gi ZJ,ZJ];rfl
    rw[K3];simp only[bn,aW,iw,yW,aI];cases yO v b with
    |some o=>simp only[aI];cases o==val<;>rfl
    |none=>simp only[aW];cases decide (b.length=6)<;>rfl
theorem a5D(b:aP)(v val:Bytes)(h:PB b)(hv:v.length<=1048576)(hl:val.length<=1048576):qf b v val=some (IJ b v val):=by
 unfold qf IJ;have hlen:=h.1;have t:=(Qb (v:=v) (val:=val) (K:=fun w=>some ((w,true):aP×Bool)) (L:=jR b v val (fun(z:Bool) (q:aP)=>(bif !(z)then(bif room ((q.map aQ.c).length+([[D.str v,D.str val]]).length) 32 then(some (q++([(⟨v,val⟩:aQ)]),true))else none)else(some (q,true))))) (fun w=>rfl) (fun w hw=>by show(bif !false then _ else _)=_;rw[jk (by omega) (by decide)];rfl) (fun _ _ _=>rfl) (fun _ _ _ _ _=>rfl) b 0 [] (by simp;omega))
 rw[QI b h,aA,RJ v hv,aA,Hx val hl,aA,Zd b v hv,aA,TX b (by omega),aA,t];cases hb:rK b with
 |false=>rfl
 |true=>
  have h6:=KY hb;have e6:decide ((((b.map aQ.c).length:Int):Int)>=6)=decide (b.length=6):=by
   rw[ar];congr 1;rw[uj];omega
  rw[e6];cases ZJ:mF v with
  |false=>rfl
  |true=>
   cases ke val with
   |false=>rfl
   |true=>
    have K3:wY b v=(match yO v b with|some o=>(o,true)|none=>([],false)):=by unfold wY;rw[Gi ZJ,ZJ];rfl
    rw[K3];simp only[bn,aW,iw,yW,aI];cases yO v b with
    |some o=>simp only[aI];cases o==val<;>rfl
    |none=>simp only[aW];cases decide (b.length=6)<;>rfl
def NV:aF->aF->aP->aP×Bool
 | [],_,w=>(w,true)
 |_::_,[],_=>([],false)
 |x::xs,y::ys,w=>bif ke x then(bif x==y then NV xs ys w else([],false))else(bif (IJ w x y).2 then NV xs ys (IJ w x y).1 else([],false))
def yD(p f:aG)(b:aP):aP×Bool:=bif xk p&&(sC f&&(rK b&&(p.rel==f.rel&&decide (p.args.length=f.args.length))))then NV p.args f.args b else([],false)
theorem M0:∀(l r:aF) (w:aP),PB w->(∀x∈l,x.length<=1048576)->(∀x∈r,x.length<=1048576)->PB (NV l r w).1
 | [],_,w,h,_,_=>h
 |_::_,[],_,_,_,_=>PB.nil
 |x::xs,y::ys,w,h,hl,hr=>by
  simp only[NV];have i1:=M0 xs ys w h (fun z hz=>hl z (by simp[hz])) (fun z hz=>hr z (by simp[hz]));have i2:=M0 xs ys (IJ w x y).1 (Pz h (hl x (by simp)) (hr y (by simp))) (fun z hz=>hl z (by simp[hz])) (fun z hz=>hr z (by simp[hz]));cases ke x with
  |true=>cases x==y<;>first|exact i1|exact PB.nil
  |false=>cases(IJ w x y).2<;>first|exact i2|exact PB.nil
theorem Wp{p f:aG}{b:aP}(hb:PB b)(hp:p.wt<=1048576)(hf:f.wt<=1048576):PB (yD p f b).1:=by
 unfold yD;cases xk p&&(sC f&&(rK b&&(p.rel==f.rel&&decide (p.args.length=f.args.length))))with
 |false=>exact PB.nil
 |true=>exact M0 _ _ _ hb (fun x hx=>aG.qp hp hx) (fun x hx=>aG.qp hf hx)
theorem QS{We:Bytes->Option Bool}{ext:aP->Bytes->Bytes->Option (aP×Bool)}{fa:aF}{L:aF->Nat->aP->Option (aP×Bool)}(hA:∀x:Bytes,x.length<=1048576->We x=some (ke x))(hE:∀w x y,PB w->x.length<=1048576->y.length<=1048576->ext w x y=some (IJ w x y))(qZ:∀i w,L [] i w=some (w,true))
 (pS:∀x xs i w,L (x::xs) i w=((We x).bind fun y=>(bif y then((iM fa (i:Int)).bind fun z=>(bif !((x:Bytes)==z)then(some ([],false))else(L xs (i+1) w)))else((iM fa (i:Int)).bind fun z=>((ext w x z).bind fun q=>(bif !(q.2)then(some ([],false))else(L xs (i+1) q.1))))))):
 ∀(l pre rest:aF) (w:aP),fa=pre++rest->l.length=rest.length->(∀x∈l,x.length<=1048576)->(∀x∈rest,x.length<=1048576)->PB w->L l pre.length w=some (NV l rest w):=by
 intro l
 induction l with
 |nil=>intro pre rest w _ _ _ _ _;rw[qZ];simp[NV]
 |cons x xs ih=>
  intro pre rest w h hl hx hr hw;cases rest with
  |nil=>simp at hl
  |cons y ys=>
   have t:=fun w' hw'=>ih (pre++[y]) ys w' (by simp[h]) (by simpa using hl) (fun z hz=>hx z (by simp[hz])) (fun z hz=>hr z (by simp[hz])) hw'
   simp only[av,cy]at t;rw[pS,hA x (hx x (by simp)),aA,sv h,aA,aA,hE w x y hw (hx x (by simp)) (hr y (by simp)),aA];simp only[NV];cases ke x with
   |true=>
    simp only[aI];cases x==y with
    |true=>simp only[bn,aW,aI];exact t w hw
    |false=>rfl
   |false=>
    simp only[aW];cases hq:(IJ w x y).2 with
    |true=>simp only[bn,aW,aI];exact t _ (Pz hw (hx x (by simp)) (hr y (by simp)))
    |false=>rfl
theorem Tr(a b:aF):((((a.map tx).length:Int):Int) != ((b.map tx).length:Int))= !decide (a.length=b.length):=by
 rw[ar,ar];by_cases h:a.length=b.length
 ·simp[h]
 ·rw[bG h];simp;omega
theorem a2l(p f:aG)(b:aP)(hp:p.wt<=1048576)(hf:f.wt<=1048576)(hb:PB b):jb p f b=some (yD p f b):=by
 unfold jb yD;have hlen:=hb.1;rw[a0G p hp,aA,YS f hf,aA,Qa b hb,aA,PF b (by omega),aA,Tr];cases xk p with
 |false=>rfl
 |true=>
  cases sC f with
  |false=>rfl
  |true=>
   cases rK b with
   |false=>rfl
   |true=>
    cases p.rel==f.rel with
    |false=>rfl
    |true=>
     by_cases h:p.args.length=f.args.length
     ·rw[bB h];have t:=QS (We:=fC) (ext:=qh) (fa:=f.args) (L:=iW p f (fun(q:aP)=>(some (q,true)))) I8 (fun w x y hw hx hy=>a5X w x y hw hx hy) (fun _ _=>rfl) (fun _ _ _ _=>rfl) p.args [] f.args b rfl h (fun x hx=>aG.qp hp hx) (fun x hx=>aG.qp hf hx) hb;exact t
     ·rw[bG h];rfl
theorem a26(p f:aG)(b:aP)(hp:p.wt<=1048576)(hf:f.wt<=1048576)(hb:PB b):jU p f b=some (yD p f b):=by
 unfold jU yD;have hlen:=hb.1;rw[WS p hp,aA,Xo f hf,aA,QI b hb,aA,TX b (by omega),aA,Tr];cases xk p with
 |false=>rfl
 |true=>
  cases sC f with
  |false=>rfl
  |true=>
   cases rK b with
   |false=>rfl
   |true=>
    cases p.rel==f.rel with
    |false=>rfl
    |true=>
     by_cases h:p.args.length=f.args.length
     ·rw[bB h];have t:=QS (We:=ez) (ext:=qf) (fa:=f.args) (L:=iO p f (fun(q:aP)=>(some (q,true)))) Hx (fun w x y hw hx hy=>a5D w x y hw hx hy) (fun _ _=>rfl) (fun _ _ _ _=>rfl) p.args [] f.args b rfl h (fun x hx=>aG.qp hp hx) (fun x hx=>aG.qp hf hx) hb;exact t
     ·rw[bG h];rfl
def ltB(l r:Bytes):Bool:=match vS l,vS r with|some x,some y=>decide (x<y)|_,_=>false
def T6(c:aH)(b:aP):Bool:=Gg c&&(rK b&&((wY b c.left).2&&((wY b c.right).2&&(bif decide (c.kind=3)then(wY b c.left).1==(wY b c.right).1 else bif decide (c.kind=4)then !((wY b c.left).1==(wY b c.right).1)else ltB (wY b c.left).1 (wY b c.right).1))))
theorem vA(a b:Int):(a==b)=decide (a=b):=by rw[bg];simp
theorem a2i(c:aH)(b:aP)(hc:c.wt<=1048576)(hb:PB b):pK c b=some (T6 c b):=by
 unfold pK T6;rw[Uj c hc,aA,Qa b hb,aA,a0S b c.left (aH.yS hc),aA,a0S b c.right (aH.vV hc),aA,vA,vA];cases Gg c with
 |false=>rfl
 |true=>
  cases rK b with
  |false=>rfl
  |true=>
   cases(wY b c.left).2 with
   |false=>rfl
   |true=>
    cases(wY b c.right).2 with
    |false=>rfl
    |true=>
     cases decide (c.kind=3)with
     |true=>rfl
     |false=>
      cases decide (c.kind=4)with
      |true=>rfl
      |false=>
       simp only[bn,aW,iw];unfold qS ltB;rw[MH,aA,aA,MH,aA,aA,YQ,aA];unfold pI zE;cases vS (wY b c.left).1 with
       |none=>rfl
       |some x=>
        cases vS (wY b c.right).1 with
        |none=>rfl
        |some y=>
         simp only[aI]
         congr 1
         unfold EE;by_cases h:x<y
         ·have h1:(x:Int)<y:=by omega
          simp[h1,h]
         ·have h1:¬(x:Int)<y:=by omega
          by_cases h2:(x:Int)>y
          ·simp[h1,h,h2]
          ·simp[h1,h,h2]
theorem a23(c:aH)(b:aP)(hc:c.wt<=1048576)(hb:PB b):oy c b=some (T6 c b):=by
 unfold oy T6;rw[a2C c hc,aA,QI b hb,aA,Zd b c.left (aH.yS hc),aA,Zd b c.right (aH.vV hc),aA,vA,vA];cases Gg c with
 |false=>rfl
 |true=>
  cases rK b with
  |false=>rfl
  |true=>
   cases(wY b c.left).2 with
   |false=>rfl
   |true=>
    cases(wY b c.right).2 with
    |false=>rfl
    |true=>
     cases decide (c.kind=3)with
     |true=>rfl
     |false=>
      cases decide (c.kind=4)with
      |true=>rfl
      |false=>
       simp only[bn,aW,iw];unfold ltB;rw[Lp,aA,Lp,aA];unfold pI;cases vS (wY b c.left).1 with
       |none=>rfl
       |some x=>
        cases vS (wY b c.right).1 with
        |none=>rfl
        |some y=>
         simp only[aI]
         congr 1
         by_cases h:x<y
         ·simp[h]
         ·simp[h]
def zZ(p:aG)(b:aP)(fs:aO):aO:=fs.filter fun f=>(yD p f b).2
def FS(fs:aO):Prop:=fs.length<=1048576/\∀f∈fs,f.wt<=1048576
theorem Q6{γ:Type}{mf:aG->Option (aP×Bool)}{cp:aG->Option aG}{p:aG}{b:aP}{L:aO->Nat->aO->Option γ}{k:aO->Option γ}(hm:∀f:aG,f.wt<=1048576->mf f=some (yD p f b))(hc:∀f:aG,f.wt<=1048576->cp f=some f)(qZ:∀i w,L [] i w=k w)
 (pS:∀x xs i w,L (x::xs) i w=((mf x).bind fun y=>(bif y.2 then((cp x).bind fun z=>(bif room ((w.map aG.c).length+([[D.str z.rel,D.sl (z.args.map tx)]]).length) 40 then(L xs (i+1) (w++([z])))else none))else(L xs (i+1) w)))):
 ∀(l:aO) (i:Nat) (w:aO),(∀f∈l,f.wt<=1048576)->w.length+l.length<1099511627700->L l i w=k (w++zZ p b l):=by
 intro l
 induction l with
 |nil=>intro i w _ _;rw[qZ];simp[zZ]
 |cons x xs ih=>
  intro i w hl hw;simp only[aT]at hw;have hx:=hl x (by simp);rw[pS,hm x hx,aA,hc x hx,aA,jk (by omega) (by decide),aI];have e:zZ p b (x::xs)=bif (yD p x b).2 then x::zZ p b xs else zZ p b xs:=by
   unfold zZ;rw[List.filter_cons];cases(yD p x b).2<;>rfl
  rw[e];cases(yD p x b).2 with
  |true=>rw[aI,aI,ih _ _ (fun f hf=>hl f (by simp[hf])) (by simp;omega)];simp
  |false=>rw[aW,aW,ih _ _ (fun f hf=>hl f (by simp[hf])) (by omega)]
theorem a2f(p:aG)(b:aP)(fs:aO)(hp:p.wt<=1048576)(hb:PB b)(hf:FS fs):gi p b fs=some (zZ p b fs):=by
 unfold gi;have h1:=hf.1;refine(Q6 (mf:=fun f=>jb p f b) (cp:=eV) (p:=p) (b:=b) (L:=fT p b fs _) (k:=fun q=>some q) (fun f h=>a2l p f b hp h hb) (fun f h=>Ce f (by have:=aG.eo h;omega)) (fun _ _=>rfl) (fun _ _ _ _=>rfl) fs 0 [] hf.2 (by simp;omega)).trans ?_;simp
theorem a1w(p:aG)(b:aP)(fs:aO)(hp:p.wt<=1048576)(hb:PB b)(hf:FS fs):gW p b fs=some (zZ p b fs):=by
 unfold gW;have h1:=hf.1;refine(Q6 (mf:=fun f=>jU p f b) (cp:=gz) (p:=p) (b:=b) (L:=fQ p b fs _) (k:=fun q=>some q) (fun f h=>a26 p f b hp h hb) (fun f h=>Ol f (by have:=aG.eo h;omega)) (fun _ _=>rfl) (fun _ _ _ _=>rfl) fs 0 [] hf.2 (by simp;omega)).trans ?_;simp
def JF(c:aH)(b:aP)(fs:aO):Bool:=n9 c&&(rK b&&(bif decide (c.kind=1)then decide (0<(zZ c.pat b fs).length)else bif decide (c.kind=2)then decide ((zZ c.pat b fs).length=0)else T6 c b))
theorem Tq(l:aO):decide ((((l.map aG.c).length:Int):Int)>0)=decide (0<l.length):=by rw[ar];congr 1;rw[uj];omega
theorem len_eq(l:aO):((((l.map aG.c).length:Int):Int)==0)=decide (l.length=0):=by rw[ar,vA];congr 1;rw[uj];omega
theorem a2h(c:aH)(b:aP)(fs:aO)(hc:c.wt<=1048576)(hb:PB b)(hf:FS fs):pJ c b fs=some (JF c b fs):=by
 unfold pJ JF;rw[US c hc,aA,Qa b hb,aA,a2f c.pat b fs (aH.fE hc) hb hf,aA,aA,a2i c b hc hb,aA,vA,vA,Tq,len_eq];cases n9 c with
 |false=>rfl
 |true=>
  cases rK b with
  |false=>rfl
  |true=>cases decide (c.kind=1)<;>cases decide (c.kind=2)<;>rfl
theorem a22(c:aH)(b:aP)(fs:aO)(hc:c.wt<=1048576)(hb:PB b)(hf:FS fs):ou c b fs=some (JF c b fs):=by
 unfold ou JF;rw[QJ c hc,aA,QI b hb,aA,a1w c.pat b fs (aH.fE hc) hb hf,aA,aA,a23 c b hc hb,aA,vA,vA,Tq,len_eq];cases n9 c with
 |false=>rfl
 |true=>
  cases rK b with
  |false=>rfl
  |true=>cases decide (c.kind=1)<;>cases decide (c.kind=2)<;>rfl
end Go.Cx
namespace Go.Cx
open Go.RowKit Go.Proofs Tryz
theorem XH{p:aG}(h:xk p=true):∀t∈p.args,rD t=true:=by
 unfold xk at h;rw[aY]at h;exact fun t ht=>aj.1 h.1 t ht
end Go.Cx
namespace Go.Cx
open Go.RowKit Go.Proofs Tryz
theorem Jp(l:aO)(h:l.length<=1048576)(hf:∀f∈l,f.args.length<=1048576):ko l=some l:=by
 unfold ko;refine(IQ (c:=aG.c) (b:=40) (f:=eV) (g:=fun x=>x) (L:=lU l _) (k:=fun q=>some q) (by decide) (fun _ _=>rfl) (fun _ _ _ _=>rfl) l 0 [] (fun f h=>Ce f (by have:=hf f h;omega)) (by simp;omega)).trans ?_;simp
theorem NJ(l:aO)(h:l.length<=1048576)(hf:∀f∈l,f.args.length<=1048576):lJ l=some l:=by
 unfold lJ;refine(IQ (c:=aG.c) (b:=40) (f:=gz) (g:=fun x=>x) (L:=kT l _) (k:=fun q=>some q) (by decide) (fun _ _=>rfl) (fun _ _ _ _=>rfl) l 0 [] (fun f h=>Ol f (by have:=hf f h;omega)) (by simp;omega)).trans ?_;simp
def TK(n:Nat)(t:aX):Prop:=t.facts.length<=n/\(∀f∈t.facts,f.wt<=1048576)/\PB t.bind
theorem TK.le{n m:Nat}{t:aX}(h:TK n t)(hm:n<=m):TK m t:=⟨by have:=h.1;omega,h.2⟩
theorem a05(t:aX)(h:TK 1048576 t):sX t=some t:=by
 unfold sX;rw[Jp t.facts h.1 (fun f hf=>by have:=aG.eo (h.2.1 f hf);omega),aA,PF t.bind (by have:=h.2.2.1;omega),aA]
def ext1(c:aH)(t:aX)(f:aG):bE:=bif (yD c.pat f t.bind).2 then [⟨t.facts++[f],(yD c.pat f t.bind).1⟩]else []
def HX(c:aH)(fs:aO)(t:aX):bE:=bif decide (c.kind=1)then fs.flatMap (ext1 c t)else bif JF c t.bind fs then [t]else []
def tg(fs:aO)(l:bE)(c:aH):bE:=l.flatMap (HX c fs)
def AZ(cs:af)(fs:aO):bE:=cs.foldl (tg fs) [⟨[],[]⟩]
theorem Sp(c:aH)(t:aX)(f:aG):(ext1 c t f).length<=1:=by unfold ext1;cases(yD c.pat f t.bind).2<;>simp
theorem J6(c:aH)(t:aX)(fs:aO):(fs.flatMap (ext1 c t)).length<=fs.length:=by
 induction fs with
 |nil=>simp
 |cons f fs ih=>rw[ei,av];have:=Sp c t f;simp only[aT];omega
theorem Ja(c:aH)(fs:aO)(t:aX):(HX c fs t).length<=fs.length+1:=by
 unfold HX;cases decide (c.kind=1)with
 |true=>have:=J6 c t fs;rw[aI];omega
 |false=>cases JF c t.bind fs<;>simp
theorem Jb(fs:aO)(l:bE)(c:aH):(tg fs l c).length<=l.length*(fs.length+1):=by
 unfold tg
 induction l with
 |nil=>simp
 |cons t l ih=>rw[ei,av,aT,FI];have:=Ja c fs t;omega
theorem Wt{c:aH}{fs:aO}{t:aX}{n:Nat}(h:TK n t)(hc:c.wt<=1048576)(hf:FS fs):∀u∈HX c fs t,TK (n+1) u:=by
 intro u hu;unfold HX at hu;cases hk:decide (c.kind=1)with
 |false=>
  rw[hk,aW]at hu;cases hh:JF c t.bind fs with
  |false=>rw[hh]at hu;cases hu
  |true=>
   rw[hh,aI,cZ]at hu;subst hu;exact h.le (by omega)
 |true=>
  rw[hk,aI]at hu;obtain⟨f,hf1,hu⟩:=bq.1 hu;unfold ext1 at hu;cases hm:(yD c.pat f t.bind).2 with
  |false=>rw[hm]at hu;cases hu
  |true=>
   rw[hm,aI,cZ]at hu;subst hu;refine⟨by have:=h.1;simp;omega,?_,Wp h.2.2 (aH.fE hc) (hf.2 f hf1)⟩;intro g hg;rcases aZ.1 hg with hg|hg
   ·exact h.2.1 g hg
   ·rw[cZ]at hg;rw[hg];exact hf.2 f hf1
theorem M4{c:aH}{fs:aO}{l:bE}{n:Nat}(h:∀t∈l,TK n t)(hc:c.wt<=1048576)(hf:FS fs):∀u∈tg fs l c,TK (n+1) u:=by
 intro u hu;obtain⟨t,ht,hu⟩:=bq.1 hu;exact Wt (h t ht) hc hf u hu
theorem Q0{γ:Type}{mf:aG->Option (aP×Bool)}{cps:Option aO}{cp:aG->Option aG}{c:aH}{t:aX}{L:aO->Nat->bE->Option γ}{k:bE->Option γ}(hm:∀f:aG,f.wt<=1048576->mf f=some (yD c.pat f t.bind))(hcs:cps=some t.facts)(hc:∀f:aG,f.wt<=1048576->cp f=some f)(ht:t.facts.length<=1048576)(qZ:∀i w,L [] i w=k w)
 (pS:∀x xs i w,L (x::xs) i w=((mf x).bind fun y=>(bif y.2 then(cps.bind fun q=>((cp x).bind fun z=>(bif room ((q.map aG.c).length+([[D.str z.rel,D.sl (z.args.map tx)]]).length) 40 then(bif room ((w.map aX.c).length+([[D.sl ((q.map aG.c)++([[D.str z.rel,D.sl (z.args.map tx)]])),D.sl (y.1.map aQ.c)]]).length) 48 then(L xs (i+1) (w++([(⟨q++([z]),y.1⟩:aX)])))else none)else none)))else(L xs (i+1) w)))):
 ∀(l:aO) (i:Nat) (w:bE),(∀f∈l,f.wt<=1048576)->w.length+l.length<1099511627770->L l i w=k (w++l.flatMap (ext1 c t)):=by
 intro l
 induction l with
 |nil=>intro i w _ _;rw[qZ];simp
 |cons x xs ih=>
  intro i w hl hw;simp only[aT]at hw;have hx:=hl x (by simp);rw[pS,hm x hx,aA,hcs,aA,hc x hx,aA,jk (by omega) (by decide),aI,jk (by omega) (by decide),aI,ei];rw[show ext1 c t x=bif (yD c.pat x t.bind).2 then [⟨t.facts++[x],(yD c.pat x t.bind).1⟩]else []from rfl];cases(yD c.pat x t.bind).2 with
  |true=>rw[aI,aI,ih _ _ (fun f hf=>hl f (by simp[hf])) (by simp;omega)];simp
  |false=>rw[aW,aW,ih _ _ (fun f hf=>hl f (by simp[hf])) (by omega)];simp
theorem QM(c:aH):((c.kind:Int) != 1)= !decide (c.kind=1):=by
 show(!((c.kind:Int)==1))=_;rw[vA]
theorem a0F(l0:bE)(c:aH)(fs:aO)(k:bE->Option bE)(hc:c.wt<=1048576)(hf:FS fs):∀(l:bE) (i:Nat) (w:bE),(∀t∈l,TK 1048576 t)->w.length+l.length*(fs.length+1)<1099511627700->gJ l0 c fs k l i w=k (w++tg fs l c):=by
 intro l;have h1:=hf.1
 induction l with
 |nil=>intro i w _ _;rw[gJ];simp[tg]
 |cons t l ih=>
  intro i w hl hw;rw[aT,FI]at hw;have ht:=hl t (by simp);have e:tg fs (t::l) c=HX c fs t++tg fs l c:=by simp[tg]
  have hn:=Ja c fs t;have he:=J6 c t fs;rw[gJ,QM,a2h c t.bind fs hc ht.2.2 hf,aA,a05 t ht,aA,jk (by omega) (by decide),aI,sD (by omega),aI,e];rw[Q0 (mf:=fun f=>jb c.pat f t.bind) (cps:=ko t.facts) (cp:=eV) (c:=c) (t:=t) (L:=lY l0 c fs i t _) (k:=_) (fun f h=>a2l c.pat f t.bind (aH.fE hc) h ht.2.2) (Jp t.facts ht.1 (fun f hf=>by have:=aG.eo (ht.2.1 f hf);omega)) (fun f h=>Ce f (by have:=aG.eo h;omega)) ht.1 (fun _ _=>rfl) (fun _ _ _ _=>rfl) fs 0 w hf.2 (by omega)];unfold HX;cases decide (c.kind=1)with
  |true=>simp only[bn,aW,aI];rw[ih _ _ (fun u hu=>hl u (by simp[hu])) (by rw[av];omega)];simp
  |false=>
   simp only[dF,aI,aW];cases JF c t.bind fs with
   |true=>simp only[aI];rw[ih _ _ (fun u hu=>hl u (by simp[hu])) (by rw[av];simp;omega)];simp
   |false=>simp only[aW];rw[ih _ _ (fun u hu=>hl u (by simp[hu])) (by omega)];simp
theorem a2n(l:bE)(c:aH)(fs:aO)(hc:c.wt<=1048576)(hf:FS fs)(hl:∀t∈l,TK 1048576 t)(hn:l.length*(fs.length+1)<1099511627700):sY l c fs=some (tg fs l c):=by
 unfold sY;rw[a0F l c fs _ hc hf l 0 [] hl (by simpa using hn)];simp
theorem Oz:∀t∈[(⟨[],[]⟩:aX)],TK 0 t:=by
 intro t ht;rw[cZ]at ht;subst ht;exact⟨by simp,by simp,PB.nil⟩
theorem UC{n:Nat}(h:n<=4):[(⟨[],[]⟩:aX)].length*25^n<=390625:=by
 have:=rG (n:=25) (by decide) h;simp only[cy,lq];exact this
theorem a0R(c0:af)(fs:aO)(k:bE->Option bE)(hf:FS fs)(h24:fs.length<=24):∀(cs:af) (i:Nat) (w:bE) (n:Nat),(∀c∈cs,c.wt<=1048576)->(∀t∈w,TK n t)->n+cs.length<=1048576->w.length*25^cs.length<=390625->jL c0 fs k cs i w=k (cs.foldl (tg fs) w):=by
 intro cs
 induction cs with
 |nil=>intro i w n _ _ _ _;rfl
 |cons c cs ih=>
  intro i w n hc hw hn hl;simp only[aT]at hn;rw[aT,tu,zq (25^cs.length) 25,<-Dy]at hl;have hp:1<=25^cs.length:=Nat.one_le_pow _ _ (by decide);have AS:w.length*25<=390625:=dK (z8 _ hp) hl;have h25:w.length*(fs.length+1)<=w.length*25:=dS _ (by omega);rw[jL,a2n w c fs (hc c (by simp)) hf (fun t ht=>(hw t ht).le (by omega)) (by omega),aA];refine ih _ _ (n+1) (fun x hx=>hc x (by simp[hx])) (M4 hw (hc c (by simp)) hf) (by omega) ?_;exact dK (dG _ (dK (Jb fs w c) h25)) hl
theorem a2y(cs:af)(fs:aO)(hc:∀c∈cs,c.wt<=1048576)(h4:cs.length<=4)(hf:FS fs)(h24:fs.length<=24):ny cs fs=some (AZ cs fs):=by
 unfold ny;exact a0R cs fs _ hf h24 cs 0 _ 0 hc Oz (by omega) (UC h4)
theorem Wa(c0:af)(fs:aO)(w0:bE)(i1:Nat)(c:aH)(k:bE->Option bE)(hc:c.wt<=1048576)(hf:FS fs):∀(l:bE) (i:Nat) (w:bE),(∀t∈l,TK 1048576 t)->w.length+l.length*(fs.length+1)<1099511627700->fB c0 fs w0 i1 c k l i w=k (w++tg fs l c):=by
 intro l;have h1:=hf.1
 induction l with
 |nil=>intro i w _ _;rw[fB];simp[tg]
 |cons t l ih=>
  intro i w hl hw;rw[aT,FI]at hw;have ht:=hl t (by simp);have e:tg fs (t::l) c=HX c fs t++tg fs l c:=by simp[tg]
  have hn:=Ja c fs t;have he:=J6 c t fs;rw[fB,QM,a22 c t.bind fs hc ht.2.2 hf,aA,jk (by omega) (by decide),aI,sD (by omega),aI,e];rw[Q0 (mf:=fun f=>jU c.pat f t.bind) (cps:=lJ t.facts) (cp:=gz) (c:=c) (t:=t) (L:=jF c0 fs i w0 t i1 c _) (k:=_) (fun f h=>a26 c.pat f t.bind (aH.fE hc) h ht.2.2) (NJ t.facts ht.1 (fun f hf=>by have:=aG.eo (ht.2.1 f hf);omega)) (fun f h=>Ol f (by have:=aG.eo h;omega)) ht.1 (fun _ _=>rfl) (fun _ _ _ _=>rfl) fs 0 w hf.2 (by omega)];unfold HX;cases decide (c.kind=1)with
  |true=>simp only[bn,aW,aI];rw[ih _ _ (fun u hu=>hl u (by simp[hu])) (by rw[av];omega)];simp
  |false=>
   simp only[dF,aI,aW];cases JF c t.bind fs with
   |true=>simp only[aI];rw[ih _ _ (fun u hu=>hl u (by simp[hu])) (by rw[av];simp;omega)];simp
   |false=>simp only[aW];rw[ih _ _ (fun u hu=>hl u (by simp[hu])) (by omega)];simp
theorem Zc(c0:af)(fs:aO)(k:bE->Option bE)(hf:FS fs)(h24:fs.length<=24):∀(cs:af) (i:Nat) (w:bE) (n:Nat),(∀c∈cs,c.wt<=1048576)->(∀t∈w,TK n t)->n+cs.length<=1048576->w.length*25^cs.length<=390625->jE c0 fs k cs i w=k (cs.foldl (tg fs) w):=by
 intro cs
 induction cs with
 |nil=>intro i w n _ _ _ _;rfl
 |cons c cs ih=>
  intro i w n hc hw hn hl;simp only[aT]at hn;rw[aT,tu,zq (25^cs.length) 25,<-Dy]at hl;have hp:1<=25^cs.length:=Nat.one_le_pow _ _ (by decide);have AS:w.length*25<=390625:=dK (z8 _ hp) hl;have h25:w.length*(fs.length+1)<=w.length*25:=dS _ (by omega);rw[jE,sD (by omega),aI,Wa c0 fs w i c _ (hc c (by simp)) hf w 0 [] (fun t ht=>(hw t ht).le (by omega)) (by simp only[bW];omega),dM];refine ih _ _ (n+1) (fun x hx=>hc x (by simp[hx])) (M4 hw (hc c (by simp)) hf) (by omega) ?_;exact dK (dG _ (dK (Jb fs w c) h25)) hl
theorem a2D(cs:af)(fs:aO)(hc:∀c∈cs,c.wt<=1048576)(h4:cs.length<=4)(hf:FS fs)(h24:fs.length<=24):qO cs fs=some (AZ cs fs):=by
 unfold qO;exact Zc cs fs _ hf h24 cs 0 _ 0 hc Oz (by omega) (UC h4)
theorem Rm{r:aJ}(h:iA r=true):r.conds.length<=4:=by
 unfold iA at h;simp only[aY,bK]at h;omega
theorem J1{r:aJ}:∀ {l:af} {i:Nat},pX r l i=true->∀c∈l,n9 c=true
 | [],_,_,c,hc=>by cases hc
 |x::xs,i,h,c,hc=>by
  simp only[pX,aY]at h;rcases bH.1 hc with rfl|hc
  ·exact h.1.1.1
  ·exact J1 h.2 c hc
theorem I7{r:aJ}(h:iA r=true):∀c∈r.conds,n9 c=true:=by
 unfold iA at h;simp only[aY]at h;exact J1 h.2.1
theorem zA{l:aO}(h:o7 l=true):l.length<=24:=by
 unfold o7 at h;simp only[aY,bK]at h;exact h.2
theorem a2Y{n:Nat}{a:Int}(h0:0<=a)(h1:a.toNat<=n):yE n none (some (D.int .i64 a))=some (0,a.toNat):=by
 unfold yE;simp only[bN (show 0<=a/\a.toNat<=n from⟨h0,h1⟩)]
theorem Uz{cs:af}{fs:aO}(h4:cs.length<=4)(h24:fs.length<=24):(AZ cs fs).length<=390625:=by
 have key:∀(cs:af) (w:bE),w.length*25^cs.length<=390625->(cs.foldl (tg fs) w).length<=390625:=by
  intro cs
  induction cs with
  |nil=>intro w h;simpa using h
  |cons c cs ih=>
   intro w h;rw[aT,tu,zq (25^cs.length) 25,<-Dy]at h;refine ih _ ?_;have h25:w.length*(fs.length+1)<=w.length*25:=dS _ (by omega);exact dK (dG _ (dK (Jb fs w c) h25)) h
 exact key cs _ (UC h4)
theorem Mk{all:au}:∀ {l:au} {i:Nat},IC all l i=true->∀r∈l,iA r=true
 | [],_,_,r,hr=>by cases hr
 |x::xs,i,h,r,hr=>by
  simp only[IC,aY]at h;rcases bH.1 hr with rfl|hr
  ·exact h.1.1
  ·exact Mk h.2 r hr
theorem rJ{l:au}(h:tD l=true):∀r∈l,iA r=true:=by
 unfold tD at h;simp only[aY]at h;exact Mk h.1
end Go.Cx
namespace Go.Cx
open Go.RowKit Go.Proofs Tryz
theorem Kv:∀(a b:aF),a.Nodup->(∀x∈a,x∈b)->a.length<=b.length
 | [],b,_,_=>BW _
 |x::xs,b,hn,hs=>by
  rw[ed]at hn;have h1:=Kv xs (b.erase x) hn.2 fun y hy=>(List.mem_erase_of_ne (fun e=>hn.1 (by rw[<-e];exact hy))).2 (hs y (by simp[hy]))
  have h2:=oQ (hs x (by simp));have h3:0<b.length:=zo (hs x (by simp));simp only[aT];omega
theorem Rn{r:aJ}(h:iA r=true):(eb (Ay r.conds)).length<=6:=by
 unfold iA at h;simp only[aY,bK]at h;omega
theorem R2{c:aH}(hc:n9 c=true)(hk:c.kind=1\/c.kind=2):xk c.pat=true/\c.left=[]/\c.right=[]:=by
 unfold n9 at hc;have:(decide (c.kind=1)||decide (c.kind=2))=true:=by simpa using hk
 rw[this,aI]at hc;simp only[aY,cQ]at hc;exact⟨hc.1,hc.2.1,hc.2.2⟩
theorem OL{c:aH}(hc:n9 c=true)(h1:c.kind≠1)(h2:c.kind≠2):(decide (c.kind=3)||decide (c.kind=4)||decide (c.kind=5))=true/\Cr c.pat=true/\rD c.left=true/\rD c.right=true:=by
 unfold n9 at hc;rw[bG h1,bG h2,qe,aW]at hc;cases h:(decide (c.kind=3)||decide (c.kind=4)||decide (c.kind=5))with
 |false=>rw[h]at hc;cases hc
 |true=>
  rw[h,aI]at hc;simp only[aY]at hc;exact⟨rfl,hc.1,hc.2.1,hc.2.2⟩
structure WB(U:List Bytes)(b:List aQ):Prop where
 ok:rK b=true
 sub:∀p∈b,p.var∈U
theorem J0{r:aJ}:∀ {pre rest:af} {c:aH} {i:Nat},pX r (pre++c::rest) i=true->n9 c=true/\(i+pre.length=0->c.kind=1)/\∀v∈o9 c,IL r (i+pre.length) c v=true
 | [],rest,c,i,h=>by
  rw[dM]at h;unfold pX at h;rw[KX]at h;simp only[aY,mV,o5,oq,bK]at h;refine⟨h.1.1.1,fun e=>?_,fun v hv=>aj.1 h.1.2 v hv⟩;rcases h.1.1.2 with q|q
  ·exact absurd (by simpa using e) q
  ·exact q
 |x::pre,rest,c,i,h=>by
  rw[oo]at h;unfold pX at h;rw[aY]at h;have:=J0 h.2;rw[aT,show i+(pre.length+1)=i+1+pre.length by omega];exact this
theorem ME{r:aJ}(h:iA r=true):pX r r.conds 0=true:=by
 unfold iA at h;simp only[aY]at h;exact h.2.1
end Go.Cx

/- What functions of the program compute, and the walks that show it. No condition. -/
import Derived.Test.YtfankinmlfnncaaGreatDoorPFnChangesG4
import Derived.Test.YtfankinmlfnncaaGreatDoorPFnChangesG3
import Derived.Sort.Walk0
import Derived.Lib.ItoaNum
import Derived.Lib.ItoaLen
import Derived.Lib.Atoi
set_option linter.unusedVariables false
set_option linter.unusedSimpArgs false
namespace Go.Cx
open Go.RowKit Go.Proofs Tryz
set_option maxRecDepth 100000
variable{Z:wV}{N:Nat->St->Prop}
def xb(aC:ck):Option (ck×(aH×aD)):=((vV aC).bind fun y1=>((eZ y1.1 10).bind fun y3=>(bif y3.2 then((zE y3.1).bind fun y6=>(bif decide ((((y6.2.facts.map aD.c).length:Int):Int)>0)then((eZ y6.1 2).bind fun y9=>(bif y9.2 then((cg y9.1 ((y6.2.facts.map aD.c).length:Int)).bind fun P0=>((fy y6.2.facts P0.2).bind fun x20=>((eE x20).bind fun rU=>(some (P0.1,(y6.2,rU))))))else((eZ y9.1 8).bind fun EY=>(bif EY.2 then((lU EY.1).bind fun Dm=>(some (Dm.1,(y6.2,Dm.2))))else((fO EY.1).bind fun ue=>(some (ue.1,(y6.2,ue.2))))))))else((eZ y6.1 8).bind fun Fj=>(bif Fj.2 then((lU Fj.1).bind fun XB=>(some (XB.1,(y6.2,XB.2))))else((fO Fj.1).bind fun y44=>(some (y44.1,(y6.2,y44.2))))))))else(bif decide ((((y1.2.facts.map aD.c).length:Int):Int)>0)then((eZ y3.1 2).bind fun y47=>(bif y47.2 then((cg y47.1 ((y1.2.facts.map aD.c).length:Int)).bind fun y56=>((fy y1.2.facts y56.2).bind fun x58=>((eE x58).bind fun P4=>(some (y56.1,(y1.2,P4))))))else((eZ y47.1 8).bind fun y62=>(bif y62.2 then((lU y62.1).bind fun Va=>(some (Va.1,(y1.2,Va.2))))else((fO y62.1).bind fun y71=>(some (y71.1,(y1.2,y71.2))))))))else((eZ y3.1 8).bind fun Ci=>(bif Ci.2 then((lU Ci.1).bind fun y78=>(some (y78.1,(y1.2,y78.2))))else((fO Ci.1).bind fun y82=>(some (y82.1,(y1.2,y82.2))))))))))
theorem Kg{aC:ck}{r:ck×(aH×aD)}(h:xb aC=some r):iz prog 60 (ck.c aC) (ck.c r.1) [] (D.iw [bw [bX (r.2.1.rules.map aO.c),cV 3 1 (r.2.1.ends.map jM),cV 83 3 (r.2.1.bG.map ai.c),cV 74 8 (r.2.1.nodes.map Node.c),cV 43 2 (r.2.1.facts.map aD.c),aB r.2.1.cP],bw [aZ r.2.2.rel,cV 9 1 (r.2.2.args.map tx)]]):=by
 refine L4 func60 [[none,none,none],[none,some (3,1),some (83,3),some (74,8),some (43,2),none],[none,some (9,1)]] 38 [bX (aC.b.map yx),aB aC.i,aB aC.h] [] [] fun hr jB Z hZ=>?_
 rw[xb]at h;obtain⟨y1,h2,y3,h4,h⟩:=bR h;have lB:=((aY.hp jK (CL h2)).hp iy (eS h4))
 obtain⟨h5,h⟩|⟨h5,h⟩:=aK h
 ·obtain⟨y6,h7,h⟩:=aG h;have fF:=((lB.b h5).hp jK (M5 h7))
  obtain⟨h8,h⟩|⟨h8,h⟩:=aK h
  ·obtain⟨y9,h10,h⟩:=aG h;have jQ:=(((fF.r 2 h8).hp iy (eS h10)).b h8)
   obtain⟨h11,h⟩|⟨h11,h⟩:=aK h
   ·obtain⟨P0,h19,x20,h21,rU,h23,h⟩:=gW h;cases h;exact((((((jQ.b h11).a [.n2 [0,1,2,3,4,5,6,7,8,9,10,11,12] [0,1,2,3,4,5,6,7,8,9,10,11,12] 7 11 [0,1,2] [0]]).hp iy (cQ h19)).i (fH aD.c 2 h21)).o 2 2 .uq (cL aD.c (dl h21))).g (ez h23)).ret hZ
   ·obtain⟨EY,h25,h⟩:=aG h;have jz:=((jQ.b h11).hp iy (eS h25))
    obtain⟨h26,h⟩|⟨h26,h⟩:=aK h
    ·obtain⟨Dm,h30,h⟩:=aG h;cases h;exact(((jz.b h26).a [.n2 [0,1,2,3,4] [0,1,2,3,4] 2 3 [0] [0]]).hp jK (sw h30)).ret hZ
    ·obtain⟨ue,h34,h⟩:=aG h;cases h;exact(((jz.b h26).a [.n2 [0,1,2,3,4] [0,1,2,3,4] 2 3 [0] [0]]).hp jK (ou h34)).ret hZ
  ·obtain⟨Fj,h36,h⟩:=aG h;have uc:=(((fF.r 3 h8).F 1).hp iy (eS h36))
   obtain⟨h37,h⟩|⟨h37,h⟩:=aK h
   ·obtain⟨XB,h41,h⟩:=aG h;cases h;exact(((uc.b h37).a [.n2 [0,1,2,3,4] [0,1,2,3,4] 2 3 [0] [0]]).hp jK (sw h41)).ret hZ
   ·obtain⟨y44,h45,h⟩:=aG h;cases h;exact(((uc.b h37).a [.n2 [0,1,2,3,4] [0,1,2,3,4] 2 3 [0] [0]]).hp jK (ou h45)).ret hZ
 ·obtain⟨h46,h⟩|⟨h46,h⟩:=aK h
  ·obtain⟨y47,h48,h⟩:=aG h;have xf:=((((lB.b h5).r 2 h46).hp iy (eS h48)).b h46)
   obtain⟨h49,h⟩|⟨h49,h⟩:=aK h
   ·obtain⟨y56,h57,x58,h59,P4,h61,h⟩:=gW h;cases h;exact(((((((xf.b h49).a [.n2 [0,1,2,3,4,5,6,7,8,9,10,11,12] [0,1,2,3,4,5,6,7,8,9,10,11,12] 7 11 [0,1,2] [0]]).hp iy (cQ h57)).i (fH aD.c 2 h59)).o 2 2 .uq (cL aD.c (dl h59))).g (ez h61)).a [.sk 3]).ret hZ
   ·obtain⟨y62,h63,h⟩:=aG h;have Ak:=((xf.b h49).hp iy (eS h63))
    obtain⟨h64,h⟩|⟨h64,h⟩:=aK h
    ·obtain⟨Va,h68,h⟩:=aG h;cases h;exact((((Ak.b h64).a [.n2 [0,1,2,3,4] [0,1,2,3,4] 2 3 [0] [0]]).hp jK (sw h68)).a [.sk 3]).ret hZ
    ·obtain⟨y71,h72,h⟩:=aG h;cases h;exact((((Ak.b h64).a [.n2 [0,1,2,3,4] [0,1,2,3,4] 2 3 [0] [0]]).hp jK (ou h72)).a [.sk 3]).ret hZ
  ·obtain⟨Ci,h74,h⟩:=aG h;have Fb:=((((lB.b h5).r 3 h46).F 1).hp iy (eS h74))
   obtain⟨h75,h⟩|⟨h75,h⟩:=aK h
   ·obtain⟨y78,h79,h⟩:=aG h;cases h;exact((((Fb.b h75).a [.n2 [0,1,2,3,4] [0,1,2,3,4] 2 3 [0] [0]]).hp jK (sw h79)).a [.sk 3]).ret hZ
   ·obtain⟨y82,h83,h⟩:=aG h;cases h;exact((((Fb.b h75).a [.n2 [0,1,2,3,4] [0,1,2,3,4] 2 3 [0] [0]]).hp jK (ou h83)).a [.sk 3]).ret hZ
def mF(aC:aJ)(aa:aD)(k1:Option Int):aJ->Nat->Option Int
 | [],i1=>(k1)
 |bg::cj,i1=>((rF bg aa).bind fun L7=>(bif L7 then(some (i1:Int))else(mF aC aa k1 cj (i1+1))))
def qc(aC:aJ)(aa:aD):Option Int:=(mF aC aa (some (-1)) aC 0)
def KK(aC:aJ)(aa:aD)(dL:Int):St:=⟨[(0,bX (aC.map aD.c)),(3,bp 0 0),(5,aB dL)],[bu (aD.c aa)]⟩
theorem JA(hZ:Z.nt=19){aC:aJ}{aa:aD}{r:Int}{k1:Option Int}(eA:k1=some r->Ax Z N f66 (.q bZ (aB r)) [1,1] ⟨[],[]⟩)(hm1:aC.length<=maxLen):∀(rest:aJ) (i1:Nat),aC.drop i1=rest->mF aC aa k1 rest i1=some r->Ar Z N f66 (.q bZ (aB r)) [1,0,1,0] (rest.length+1) (KK aC aa (i1:Int)):=by
 intro rest
 induction rest with
 |nil=>
  intro i1 bD h;rw[mF]at h;refine aT fun N1 cq cS=>?_
  exact((aY.ge aD.c bD).a [.hl 0 [] []]).ex hZ cq (eA h)
 |cons bg cj ih1=>
  intro i1 bD h;rw[mF]at h;refine aT fun N1 cq cS=>?_
  obtain⟨L7,h22,h⟩:=aG h;have fF:=((((aY.lt aD.c bD).a [.n 5]).l (bK aD.c 2 (dc bD) rfl)).g (yA h22))
  obtain⟨h23,h⟩|⟨h23,h⟩:=aK h
  ·cases h;exact(fF.b h23).ret hZ
  ·exact((fF.b h23).a [.cn [0,3,5] [0]]).ct hZ cS (iS bD hm1) (ih1 (i1+1) (dn bD) h)
theorem wK{aC:aJ}{aa:aD}{r:Int}(h:qc aC aa=some r):Good prog 66 [bX (aC.map aD.c),bw (aD.c aa)] (aB r):=by
 refine gd func66 bZ 19 fun hr Z hZ=>?_
 rw[qc]at h;refine(aY.a [.cn [0,3,5] [0]]).lp hZ (JA hZ (fun h=>?_) (by have:=(gX.sl (hr _ (aE (i:=0) rfl))).1;simpa using this) aC 0 rfl h);cases h;exact aY.ret hZ
def wJ(aC:aJ)(aa:aD):Option (aJ×Bool):=((qZ aC).bind fun y1=>(bif !(y1)then((dO aC).bind fun y4=>(some (y4,false)))else((rD aa).bind fun y6=>(bif !(y6)then((dO aC).bind fun y9=>(some (y9,false)))else((qc aC aa).bind fun yb=>(bif decide ((yb:Int)>=0)then((dO aC).bind fun Ai=>(some (Ai,false)))else(bif (((aC.map aD.c).length:Int):Int)==24 then((dO aC).bind fun Ce=>(some (Ce,false)))else((lV aC aa).bind fun AE=>(some (AE,true))))))))))
theorem J5{aC:aJ}{aa:aD}{r:aJ×Bool}(h:wJ aC aa=some r):Good prog 23 [bX (aC.map aD.c),bw (aD.c aa)] (D.iw [cV 43 2 (r.1.map aD.c),bO r.2]):=by
 refine gd func23 [[some (43,2)],[none]] 30 fun hr Z hZ=>?_
 rw[wJ]at h;obtain⟨y1,h2,h⟩:=aG h;obtain⟨h3,h⟩|⟨h3,h⟩:=aK h
 ·obtain⟨y4,h5,h⟩:=aG h;cases h;exact((((aY.g (pV h2)).r 4 h3).T 10).g (di h5)).ret hZ
 ·obtain⟨y6,h7,h⟩:=aG h;have lB:=((((aY.g (pV h2)).r 2 h3).g (xy h7)).r 2 h3)
  obtain⟨h8,h⟩|⟨h8,h⟩:=aK h
  ·obtain⟨y9,h10,h⟩:=aG h;cases h;exact(((lB.r 5 h8).T 5).g (di h10)).ret hZ
  ·obtain⟨yb,h12,h⟩:=aG h;have fF:=(((lB.r 3 h8).g (wK h12)).r 2 h8)
   obtain⟨h13,h⟩|⟨h13,h⟩:=aK h
   ·obtain⟨Ai,h15,h⟩:=aG h;cases h;exact(((fF.r 4 h13).T 1).g (di h15)).ret hZ
   ·have jQ:=(fF.r 4 h13)
    obtain⟨h16,h⟩|⟨h16,h⟩:=aK h
    ·obtain⟨Ce,h18,h⟩:=aG h;cases h;exact((jQ.b h16).g (di h18)).ret hZ
    ·obtain⟨AE,h20,h⟩:=aG h;cases h;exact((jQ.b h16).g (sx h20)).ret hZ
def xX(aC:bM):Option bM:=(bif room (([]:List aR).length+(aC.map jM).length) 8 then(some (([]:bM)++aC))else none)
theorem KU{aC:bM}{r:bM}(h:xX aC=some r):Good prog 121 [bX (aC.map jM)] (cV 3 1 (r.map jM)):=by
 refine gd func121 [[some (3,1)]] 6 fun hr Z hZ=>?_
 rw[xX]at h;obtain⟨h1,h⟩:=bf h;cases h;exact(((aY.w (cA h1)).w (show(∀r∈(aC.map jM),r.length=1)/\(true=true->D.jq (aC.map jM)=true)from⟨by first|simp| (intro r hr;obtain⟨x,_,rfl⟩:=cJ.1 (cO (fM hr));rfl),by simp[D.jq,D.flat]⟩)).a [.L5 2,.fl true]).rts hZ (cV 3 1 (([]:List aR)++(aC.map jM))) (by first|rfl| (simp only[mA]<;>rfl)| (simp only[cN,mA]<;>rfl))
def kK(aC:ar)(k1:ar->Option ar):ar->Nat->ar->Option ar
 | [],i1,bY=>(k1 bY)
 |bg::cj,i1,bY=>((tV bg).bind fun qA=>(bif room ((bY.map aV.c).length+([[bX (qA.facts.map aD.c),bX (qA.bind.map aX.c)]]).length) 48 then(kK aC k1 cj (i1+1) (bY++([qA])))else none))
def kr(aC:ar):Option ar:=(kK aC (fun(cM:ar)=>(some cM)) aC 0 ([]:ar))
def zF(aC:ar)(W0:List aR)(dL:Int):St:=⟨[(0,bX (aC.map aV.c)),(3,b9 0),(4,aB dL)],[af 77 2 W0]⟩
theorem ED(hZ:Z.nt=21){aC:ar}{r:ar}{k1:ar->Option ar}(eA:∀(cM:ar),k1 cM=some r->Ax Z N f123 (B9 r) [1,1,1] ⟨[(3,b9 0)],[af 77 2 (cM.map aV.c)]⟩)(hm1:aC.length<=maxLen):∀(rest:ar) (i1:Nat) (bY:ar),aC.drop i1=rest->kK aC k1 rest i1 bY=some r->Ar Z N f123 (B9 r) [1,1,0,1,0] (rest.length+1) (zF aC (bY.map aV.c) (i1:Int)):=by
 intro rest
 induction rest with
 |nil=>
  intro i1 bY bD h;rw[kK]at h;refine aT fun N1 cq cS=>?_
  exact((aY.ge aV.c bD).a [.hl 0 [3] [0]]).ex hZ cq (eA bY h)
 |cons bg cj ih1=>
  intro i1 bY bD h;rw[kK]at h;refine aT fun N1 cq cS=>?_
  obtain⟨qA,h28,h⟩:=aG h;obtain⟨h29,h⟩:=bf h;exact(((((aY.lt aV.c bD).l (bK aV.c 2 (dc bD) rfl)).g (CJ h28)).w (cA h29)).a [.cn [0,3,4] [4]]).cs hZ cS (zF aC ((bY.map aV.c)++([[bX (qA.facts.map aD.c),bX (qA.bind.map aX.c)]])) (IntKind.i64.wrap ((i1:Int)+1))) (by simp only[iS bD hm1,mA]<;>rfl) (ih1 (i1+1) (bY++([qA])) (dn bD) h)
theorem DX{aC:ar}{r:ar}(h:kr aC=some r):Good prog 123 [bX (aC.map aV.c)] (cV 77 2 (r.map aV.c)):=by
 refine gd func123 [[some (77,2)]] 21 fun hr Z hZ=>?_
 rw[kr]at h;refine(aY.a [.cn [0,3,4] [0]]).lp hZ (ED hZ (fun cM h=>?_) (by have:=(gX.sl (hr _ (aE (i:=0) rfl))).1;simpa using this) aC 0 ([]:ar) rfl h);obtain rfl:=aM h;exact aY.ret hZ
def pF(aC:aH)(y1:az)(y3:bM)(y5:aJ)(k1:bQ->Option aH):bQ->Nat->bQ->Option aH
 | [],i1,nF=>(k1 nF)
 |bg::cj,i1,nF=>((fP bg.shape).bind fun Ci=>((dO bg.facts).bind fun y75=>(bif room ((nF.map ai.c).length+([[aZ Ci.rel,bX (Ci.args.map tx),bX (y75.map aD.c)]]).length) 64 then(pF aC y1 y3 y5 k1 cj (i1+1) (nF++([(⟨Ci,y75⟩:ai)])))else none)))
def pG(aC:aH)(y1:az)(y3:bM)(y5:aJ)(lW:bQ)(k2:bN->Option aH):bN->Nat->bN->Option aH
 | [],i2,kQ=>(k2 kQ)
 |jL::tK,i2,kQ=>((lN jL.cond).bind fun Dh=>((kr jL.tokens).bind fun a3f=>(bif room ((kQ.map Node.c).length+([[aB jL.parent,aB Dh.kind,aZ Dh.pat.rel,bX (Dh.pat.args.map tx),aZ Dh.left,aZ Dh.right,aB jL.cX,bX (a3f.map aV.c)]]).length) 120 then(pG aC y1 y3 y5 lW k2 tK (i2+1) (kQ++([(⟨jL.parent,Dh,jL.cX,a3f⟩:Node)])))else none)))
def pP(aC:aH):Option aH:=((sO aC.rules).bind fun y1=>((xX aC.ends).bind fun y3=>((dO aC.facts).bind fun y5=>(pF aC y1 y3 y5 (fun(lW:bQ)=>(pG aC y1 y3 y5 lW (fun(nA:bN)=>(some (⟨y1,y3,lW,nA,y5,aC.cP⟩:aH))) aC.nodes 0 ([]:bN))) aC.bG 0 ([]:bQ)))))
def EE(aC:aH)(y1:az)(y3:bM)(y5:aJ)(W0:List aR)(dL:Int):St:=⟨[(1,bp 0 0),(2,bp 1 0),(3,bp 2 0),(4,aB dL)],[bu (aH.c aC),bu [D.nil,D.nil,D.nil,D.nil,D.nil,aB 0],bu [b9 3,b9 4,b9 5,D.nil,b9 6,aB aC.cP],af 63 4 (y1.map aO.c),af 3 1 (y3.map jM),af 83 3 W0,af 43 2 (y5.map aD.c)]⟩
theorem M8(hZ:Z.nt=75){aC:aH}{y1:az}{y3:bM}{y5:aJ}{r:aH}{k1:bQ->Option aH}(eA:∀(lW:bQ),k1 lW=some r->Ax Z N f63 (vp r) [1,1,1] ⟨[(1,bp 0 0),(2,bp 1 0),(3,bp 2 0)],[bu (aH.c aC),bu [D.nil,D.nil,D.nil,D.nil,D.nil,aB 0],bu [b9 3,b9 4,b9 5,D.nil,b9 6,aB aC.cP],af 63 4 (y1.map aO.c),af 3 1 (y3.map jM),af 83 3 (lW.map ai.c),af 43 2 (y5.map aD.c)]⟩)(hm1:aC.bG.length<=maxLen):∀(rest:bQ) (i1:Nat) (nF:bQ),aC.bG.drop i1=rest->pF aC y1 y3 y5 k1 rest i1 nF=some r->Ar Z N f63 (vp r) [1,1,0,1,0] (rest.length+1) (EE aC y1 y3 y5 (nF.map ai.c) (i1:Int)):=by
 intro rest
 induction rest with
 |nil=>
  intro i1 nF bD h;rw[pF]at h;refine aT fun N1 cq cS=>?_
  exact((aY.ge ai.c bD).a [.hl 0 [1,2,3] [0,1,2,3,4,5,6]]).ex hZ cq (eA nF h)
 |cons bg cj ih1=>
  intro i1 nF bD h;rw[pF]at h;refine aT fun N1 cq cS=>?_
  obtain⟨Ci,h74,y75,h76,h⟩:=bR h;obtain⟨h77,h⟩:=bf h;exact((((((((aY.lt ai.c bD).a [.n2 [0,1,2,3,4,5,6,7,8,9,10,11,12,13,14,15,16,17,18,19,20] [0,1,2,3,4,5,6,7,8,9,10,11,12,13,14,15,16,17,18,19,20] 17 18 [0,1] [7,8]]).l (bK ai.c 3 (dc bD) rfl)).g (xB h74)).l (bK ai.c 3 (dc bD) rfl)).g (di h76)).w (cA h77)).a [.cn [1,2,3,4] [0,1,2,3,4,10,6]]).cs hZ cS (EE aC y1 y3 y5 ((nF.map ai.c)++([[aZ Ci.rel,bX (Ci.args.map tx),bX (y75.map aD.c)]])) (IntKind.i64.wrap ((i1:Int)+1))) (by simp only[iS bD hm1,mA]<;>rfl) (ih1 (i1+1) (nF++([(⟨Ci,y75⟩:ai)])) (dn bD) h)
def EF(aC:aH)(y1:az)(y3:bM)(y5:aJ)(lW:bQ)(W0:List aR)(dL:Int):St:=⟨[(1,bp 0 0),(2,bp 1 0),(3,bp 2 0),(5,aB dL)],[bu (aH.c aC),bu [D.nil,D.nil,D.nil,D.nil,D.nil,aB 0],bu [b9 3,b9 4,b9 5,b9 6,b9 7,aB aC.cP],af 63 4 (y1.map aO.c),af 3 1 (y3.map jM),af 83 3 (lW.map ai.c),af 74 8 W0,af 43 2 (y5.map aD.c)]⟩
theorem M9(hZ:Z.nt=75){aC:aH}{y1:az}{y3:bM}{y5:aJ}{lW:bQ}{r:aH}{k2:bN->Option aH}(zc:∀(nA:bN),k2 nA=some r->Ax Z N f63 (vp r) [1,1,1,1] ⟨[(2,bp 0 0),(3,bp 1 0)],[bu [D.nil,D.nil,D.nil,D.nil,D.nil,aB 0],bu [b9 2,b9 3,b9 4,b9 5,b9 6,aB aC.cP],af 63 4 (y1.map aO.c),af 3 1 (y3.map jM),af 83 3 (lW.map ai.c),af 74 8 (nA.map Node.c),af 43 2 (y5.map aD.c)]⟩)(hm2:aC.nodes.length<=maxLen):∀(rest:bN) (i2:Nat) (kQ:bN),aC.nodes.drop i2=rest->pG aC y1 y3 y5 lW k2 rest i2 kQ=some r->Ar Z N f63 (vp r) [1,1,1,0,1,0] (rest.length+1) (EF aC y1 y3 y5 lW (kQ.map Node.c) (i2:Int)):=by
 intro rest
 induction rest with
 |nil=>
  intro i2 kQ hd2 h;rw[pG]at h;refine aT fun N2 uX qp=>?_
  exact((aY.ge Node.c hd2).a [.hl 0 [2,3] [1,2,3,4,5,6,7]]).ex hZ uX (zc kQ h)
 |cons jL tK ih2=>
  intro i2 kQ hd2 h;rw[pG]at h;refine aT fun N2 uX qp=>?_
  obtain⟨Dh,h139,a3f,h141,h⟩:=bR h;obtain⟨h142,h⟩:=bf h;exact(((((((aY.lt Node.c hd2).l (bK Node.c 8 (dc hd2) rfl)).a [.n2 [0,1,2,3,4,5,6,7,8,9,10,11,12,13,14,15,16] [0,1,2,3,4,5,6,7,8,9,10,11,12,13,14,15,16] 13 14 [0,1] [9,10]]).g (rY h139)).g (DX h141)).w (cA h142)).a [.cn [1,2,3,5] [0,1,2,3,4,5,12,7]]).cs hZ qp (EF aC y1 y3 y5 lW ((kQ.map Node.c)++([[aB jL.parent,aB Dh.kind,aZ Dh.pat.rel,bX (Dh.pat.args.map tx),aZ Dh.left,aZ Dh.right,aB jL.cX,bX (a3f.map aV.c)]])) (IntKind.i64.wrap ((i2:Int)+1))) (by simp only[iS hd2 hm2,mA]<;>rfl) (ih2 (i2+1) (kQ++([(⟨jL.parent,Dh,jL.cX,a3f⟩:Node)])) (dn hd2) h)
theorem rZ{aC:aH}{r:aH}(h:pP aC=some r):Good prog 63 [bw (aH.c aC)] (bw [cV 63 4 (r.rules.map aO.c),cV 3 1 (r.ends.map jM),cV 83 3 (r.bG.map ai.c),cV 74 8 (r.nodes.map Node.c),cV 43 2 (r.facts.map aD.c),aB r.cP]):=by
 refine gd func63 zo 75 fun hr Z hZ=>?_
 rw[pP]at h;obtain⟨y1,h2,y3,h4,y5,h6,h⟩:=gW h;refine(((((aY.a [.n 13]).g (AY h2)).g (KU h4)).g (di h6)).a [.pb 5 2 83 3,.cn [1,2,3,4] [0,1,5,2,3,6,4]]).lp hZ (M8 hZ (fun lW h=>?_) (by have:=(gX.sl (gX.agg (hr _ (aE (i:=0) rfl)) (.sl (aC.bG.map ai.c)) (by simp))).1;simpa using this) aC.bG 0 ([]:bQ) rfl h);refine(aY.a [.pb 2 3 74 8,.cn [1,2,3,5] [0,1,2,3,4,5,7,6]]).lp hZ (M9 hZ (fun nA h=>?_) (by have:=(gX.sl (gX.agg (hr _ (aE (i:=0) rfl)) (.sl (aC.nodes.map Node.c)) (by simp))).1;simpa using this) aC.nodes 0 ([]:bN) rfl h);cases h;exact aY.ret hZ
def jP(aC:aV)(aa:aV)(k1:Option Int):aJ->Nat->Option Int
 | [],i1=>(k1)
 |bg::cj,i1=>(bif decide (((i1:Int):Int)<((aa.facts.map aD.c).length:Int))then((fy aa.facts (i1:Int)).bind fun x34=>((fw bg x34).bind fun Oa=>(bif (Oa:Int) != 0 then(some Oa)else(jP aC aa k1 cj (i1+1)))))else(k1))
def pW(aC:aV)(aa:aV):Option Int:=(jP aC aa (bif decide ((((aC.facts.map aD.c).length:Int):Int)<((aa.facts.map aD.c).length:Int))then(some (-1))else(bif decide ((((aC.facts.map aD.c).length:Int):Int)>((aa.facts.map aD.c).length:Int))then(some 1)else(some 0))) aC.facts 0)
def E1(aC:aV)(aa:aV)(dL:Int):St:=⟨[(2,bp 0 0),(3,bp 1 0),(5,aB dL)],[bu (aV.c aC),bu (aV.c aa)]⟩
theorem DS(hZ:Z.nt=51){aC:aV}{aa:aV}{r:Int}{k1:Option Int}(eA:k1=some r->Ax Z N f187 (.q bZ (aB r)) [1,1] ⟨[(2,bp 0 0),(3,bp 1 0)],[bu (aV.c aC),bu (aV.c aa)]⟩)(hm1:aC.facts.length<=maxLen):∀(rest:aJ) (i1:Nat),aC.facts.drop i1=rest->jP aC aa k1 rest i1=some r->Ar Z N f187 (.q bZ (aB r)) [1,0,1,0] (rest.length+1) (E1 aC aa (i1:Int)):=by
 intro rest
 induction rest with
 |nil=>
  intro i1 bD h;rw[jP]at h;refine aT fun N1 cq cS=>?_
  exact((((((((aY.ge aD.c bD).ge aD.c bD).ge aD.c bD).ge aD.c bD).ge aD.c bD).ge aD.c bD).F 1).a [.hl 0 [2,3] [0,1]]).ex hZ cq (eA h)
 |cons bg cj ih1=>
  intro i1 bD h;rw[jP]at h;refine aT fun N1 cq cS=>?_
  have jQ:=((((((aY.lt aD.c bD).lt aD.c bD).lt aD.c bD).lt aD.c bD).lt aD.c bD).lt aD.c bD)
  obtain⟨h33,h⟩|⟨h33,h⟩:=aK h
  ·obtain⟨x34,h35,Oa,h37,h⟩:=bR h;have jz:=(((((jQ.b h33).a [.n 10]).l (bK aD.c 2 (dc bD) rfl)).l (dW aD.c 2 h35 rfl)).g (pL h37))
   obtain⟨h38,h⟩|⟨h38,h⟩:=aK h
   ·obtain rfl:=aM h;exact(jz.b h38).ret hZ
   ·exact((jz.b h38).a [.cn [2,3,5] [0,1]]).ct hZ cS (iS bD hm1) (ih1 (i1+1) (dn bD) h)
  ·exact((jQ.b h33).a [.hl 0 [2,3] [0,1]]).ex hZ cq (eA h)
theorem Ct{aC:aV}{aa:aV}{r:Int}(h:pW aC aa=some r):Good prog 187 [bw (aV.c aC),bw (aV.c aa)] (aB r):=by
 refine gd func187 bZ 51 fun hr Z hZ=>?_
 rw[pW]at h;refine(aY.a [.cn [2,3,5] [0,1]]).lp hZ (DS hZ (fun h=>?_) (by have:=(gX.sl (gX.agg (hr _ (aE (i:=0) rfl)) (.sl (aC.facts.map aD.c)) (by simp))).1;simpa using this) aC.facts 0 rfl h);obtain⟨h39,h⟩|⟨h39,h⟩:=aK h
 ·cases h;exact(aY.b h39).ret hZ
 ·obtain⟨h40,h⟩|⟨h40,h⟩:=aK h
  ·obtain rfl:=aM h;exact((aY.b h39).b h40).ret hZ
  ·obtain rfl:=aM h;exact((aY.b h39).b h40).ret hZ
def n9(aC:ar)(aa:ar)(i1:Nat)(bg:aV)(k2:Int->Option (Int×Int)):ar->Nat->Int->Option (Int×Int)
 | [],i2,nh=>(k2 nh)
 |jL::tK,i2,nh=>((pW bg jL).bind fun aDO=>(bif (aDO:Int)==0 then(n9 aC aa i1 bg k2 tK (i2+1) (IntKind.i64.wrap (nh+1)))else(n9 aC aa i1 bg k2 tK (i2+1) nh)))
def pJ(aC:ar)(aa:ar)(k1:Int->Option (Int×Int)):ar->Nat->Int->Option (Int×Int)
 | [],i1,dX=>(k1 dX)
 |bg::cj,i1,dX=>(bif decide (aa.length<=maxLen)then(n9 aC aa i1 bg (fun(Be:Int)=>(pJ aC aa k1 cj (i1+1) Be)) aa 0 dX)else none)
def xd(aC:ar)(aa:ar):Option (Int×Int):=(pJ aC aa (fun(wU:Int)=>(some (wU,IntKind.i64.wrap (((aC.map aV.c).length:Int)-wU)))) aC 0 0)
def NY(aC:ar)(aa:ar)(dX:Int)(dL:Int):St:=⟨[(0,bX (aC.map aV.c)),(1,bX (aa.map aV.c)),(6,aB dX),(7,aB dL)],[]⟩
def NZ(aC:ar)(aa:ar)(i1:Nat)(nh:Int)(dL:Int):St:=⟨[(0,bX (aC.map aV.c)),(1,bX (aa.map aV.c)),(6,aB nh),(7,aB (i1:Int)),(8,aB dL)],[]⟩
def XH(r:Int×Int):Kd:=.q ON (D.iw [aB r.1,aB r.2])
theorem ME(hZ:Z.nt=38){aC:ar}{aa:ar}{i1:Nat}{bg:aV}{r:Int×Int}{k2:Int->Option (Int×Int)}(zc:∀(Be:Int),k2 Be=some r->Ax Z N f124 (XH r) [1,1,0,1,0,0,1,1] ⟨[(0,bX (aC.map aV.c)),(1,bX (aa.map aV.c)),(6,aB Be),(7,aB (i1:Int))],[]⟩)(hx1:(aC)[i1]?=some bg)(hm2:aa.length<=maxLen):∀(rest:ar) (i2:Nat) (nh:Int),aa.drop i2=rest->n9 aC aa i1 bg k2 rest i2 nh=some r->Ar Z N f124 (XH r) [1,1,0,1,0,0,1,0,0,1,0] (rest.length+1) (NZ aC aa i1 nh (i2:Int)):=by
 intro rest
 induction rest with
 |nil=>
  intro i2 nh hd2 h;rw[n9]at h;refine aT fun N2 uX qp=>?_
  exact((aY.ge aV.c hd2).a [.hl 3 [0,1,6,7] []]).ex hZ uX (zc nh h)
 |cons jL tK ih2=>
  intro i2 nh hd2 h;rw[n9]at h;refine aT fun N2 uX qp=>?_
  obtain⟨aDO,h177,h⟩:=aG h;have Dc:=(((((aY.lt aV.c hd2).a [.n 8]).l (bK aV.c 2 hx1 rfl)).l (bK aV.c 2 (dc hd2) rfl)).g (Ct h177))
  obtain⟨h178,h⟩|⟨h178,h⟩:=aK h
  ·exact((Dc.b h178).a [.cn [0,1,6,7,8] []]).ct hZ qp (iS hd2 hm2) (ih2 (i2+1) (IntKind.i64.wrap (nh+1)) (dn hd2) h)
  ·exact((Dc.b h178).a [.cn [0,1,6,7,8] []]).ct hZ qp (iS hd2 hm2) (ih2 (i2+1) nh (dn hd2) h)
theorem MD(hZ:Z.nt=38){aC:ar}{aa:ar}{r:Int×Int}{k1:Int->Option (Int×Int)}(eA:∀(wU:Int),k1 wU=some r->Ax Z N f124 (XH r) [1,1,1] ⟨[(0,bX (aC.map aV.c)),(6,aB wU)],[]⟩)(hm1:aC.length<=maxLen):∀(rest:ar) (i1:Nat) (dX:Int),aC.drop i1=rest->pJ aC aa k1 rest i1 dX=some r->Ar Z N f124 (XH r) [1,1,0,1,0] (rest.length+1) (NY aC aa dX (i1:Int)):=by
 intro rest
 induction rest with
 |nil=>
  intro i1 dX bD h;rw[pJ]at h;refine aT fun N1 cq cS=>?_
  exact((aY.ge aV.c bD).a [.hl 0 [0,6] []]).ex hZ cq (eA dX h)
 |cons bg cj ih1=>
  intro i1 dX bD h;rw[pJ]at h;refine aT fun N1 cq cS=>?_
  obtain⟨h179,h⟩:=bf h;refine((aY.lt aV.c bD).a [.cn [0,1,6,7,8] []]).lp hZ (ME hZ (fun Be h=>?_) ((drop_cons bD).1) (bh h179) aa 0 dX rfl h);exact(aY.a [.cn [0,1,6,7] []]).ct hZ cS (iS bD hm1) (ih1 (i1+1) Be (dn bD) h)
theorem Kh{aC:ar}{aa:ar}{r:Int×Int}(h:xd aC aa=some r):Good prog 124 [bX (aC.map aV.c),bX (aa.map aV.c)] (D.iw [aB r.1,aB r.2]):=by
 refine gd func124 ON 38 fun hr Z hZ=>?_
 rw[xd]at h;refine(aY.a [.cn [0,1,6,7] []]).lp hZ (MD hZ (fun wU h=>?_) (by have:=(gX.sl (hr _ (aE (i:=0) rfl))).1;simpa using this) aC 0 0 rfl h);cases h;exact aY.ret hZ
def jo(aC:aH)(aa:aJ)(cv:aD)(y1:aH)(y3:aJ)(k1:List Bool->bQ->Option aH):Nat->Int->List Bool->bQ->Option aH
 |0,_,_,_=>none
 |n1+1,Ja,xM,O2=>(bif decide ((Ja:Int)<((O2.map ai.c).length:Int))then((fy O2 Ja).bind fun x41=>((kH x41.shape cv ([])).bind fun Jt=>(bif room ((xM.map bx).length+([[bO Jt.2]]).length) 1 then((gM x41.shape ([]) aa).bind fun y46=>(jo aC aa cv y1 y3 k1 n1 (IntKind.i64.wrap (Ja+1)) (xM++([Jt.2])) (O2.set Ja.toNat (⟨x41.shape,y46⟩:ai))))else none)))else(k1 xM O2))
def ff(aC:aH)(y1:aH)(y3:aJ)(eN:List Bool)(wR:bQ)(k2:Int->bN->Option aH):Nat->Int->Int->bN->Option aH
 |0,_,_,_=>none
 |n2+1,tI,vn,tY=>(bif decide ((tI:Int)<((tY.map Node.c).length:Int))then((fy tY tI).bind fun x106=>((fy tY x106.parent).bind fun x108=>((fy aC.nodes x106.parent).bind fun x110=>((xd x108.tokens x110.tokens).bind fun Dg=>(bif decide ((x106.cX:Int)<0)then((tW x108.tokens x106.cond ([])).bind fun O4=>(ff aC y1 y3 eN wR k2 n2 (IntKind.i64.wrap (tI+1)) (IntKind.i64.wrap (vn+Dg.2)) (tY.set tI.toNat (⟨x106.parent,x106.cond,x106.cX,O4⟩:Node))))else((fy wR x106.cX).bind fun x117=>((tW x108.tokens x106.cond x117.facts).bind fun X8=>((fy eN x106.cX).bind fun x121=>(bif x121 then(ff aC y1 y3 eN wR k2 n2 (IntKind.i64.wrap (tI+1)) (IntKind.i64.wrap ((IntKind.i64.wrap (vn+(IntKind.i64.wrap (Dg.2*((x117.facts.map aD.c).length:Int)))))+Dg.1)) (tY.set tI.toNat (⟨x106.parent,x106.cond,x106.cX,X8⟩:Node)))else(ff aC y1 y3 eN wR k2 n2 (IntKind.i64.wrap (tI+1)) (IntKind.i64.wrap (vn+(IntKind.i64.wrap (Dg.2*((x117.facts.map aD.c).length:Int))))) (tY.set tI.toNat (⟨x106.parent,x106.cond,x106.cX,X8⟩:Node))))))))))))else(k2 vn tY))
def sP(aC:aH)(aa:aJ)(cv:aD):Option aH:=((pP aC).bind fun y1=>((dO aa).bind fun y3=>(jo aC aa cv y1 y3 (fun(eN:List Bool) (wR:bQ)=>(ff aC y1 y3 eN wR (fun(qg:Int) (nA:bN)=>(some (⟨y1.rules,y1.ends,wR,nA,y3,qg⟩:aH))) fuel 1 y1.cP y1.nodes)) fuel 0 ([]:List Bool) y1.bG)))
def CM(aC:aH)(aa:aJ)(cv:aD)(y1:aH)(y3:aJ)(Ja:Int)(W1:List aR)(W2:List aR):St:=⟨[(1,bX (aa.map aD.c)),(3,bp 0 0),(5,bp 1 0),(6,bp 2 0),(7,bp 3 0),(8,b9 4),(9,aB Ja)],[bu (aH.c aC),bu (aD.c cv),bu [D.nil,D.nil,D.nil,D.nil,D.nil,aB 0],bu [b9 5,b9 6,b9 7,b9 8,b9 9,aB y1.cP],af 4 1 W1,af 63 4 (y1.rules.map aO.c),af 3 1 (y1.ends.map jM),af 83 3 W2,af 74 8 (y1.nodes.map Node.c),af 43 2 (y3.map aD.c)]⟩
theorem JW(hZ:Z.nt=143){aC:aH}{aa:aJ}{cv:aD}{y1:aH}{y3:aJ}{r:aH}{k1:List Bool->bQ->Option aH}(eA:∀(eN:List Bool) (wR:bQ),k1 eN wR=some r->Ax Z N f64 (vp r) [1,1,1,1,1] ⟨[(3,bp 0 0),(6,bp 1 0),(7,bp 2 0),(8,b9 3)],[bu (aH.c aC),bu [D.nil,D.nil,D.nil,D.nil,D.nil,aB 0],bu [b9 4,b9 5,b9 6,b9 7,b9 8,aB y1.cP],af 4 1 (eN.map bx),af 63 4 (y1.rules.map aO.c),af 3 1 (y1.ends.map jM),af 83 3 (wR.map ai.c),af 74 8 (y1.nodes.map Node.c),af 43 2 (y3.map aD.c)]⟩):∀(n1:Nat) (Ja:Int) (xM:List Bool) (O2:bQ),jo aC aa cv y1 y3 k1 n1 Ja xM O2=some r->Ar Z N f64 (vp r) [1,1,1,1,0,1,0] n1 (CM aC aa cv y1 y3 Ja (xM.map bx) (O2.map ai.c)):=by
 intro n
 induction n with
 |zero=>intro Ja xM O2 h;simp[jo]at h
 |succ n1 ih1=>
  intro Ja xM O2 h;rw[jo]at h;refine aT fun N1 cq cS=>?_
  obtain⟨h40,h⟩|⟨h40,h⟩:=aK h
  ·obtain⟨x41,h42,Jt,h44,h⟩:=bR h;obtain⟨h45,h⟩:=bf h;obtain⟨y46,h47,h⟩:=aG h;exact(((((((((((((((aY.b h40).a [.n 12]).i (fH ai.c 3 h42)).o 3 2 .uq (cL ai.c (dl h42))).a [.d (D.iw [cV 113 2 (Jt.1.map aX.c),bO Jt.2])]).w (show Good prog 96 [bw (aD.c x41.shape),bw (aD.c cv),bX ([])] (D.iw [cV 113 2 (Jt.1.map aX.c),bO Jt.2])from by first| (simpa only[bI,bA,cF,cD,cI]using s9 h44)|exact s9 h44)).w (cA h45)).a [.n 11]).i (fH ai.c 3 h42)).o 3 2 .uq (cL ai.c (dl h42))).a [.d (cV 43 2 (y46.map aD.c))]).w (show Good prog 44 [bw (aD.c x41.shape),bX ([]),bX (aa.map aD.c)] (cV 43 2 (y46.map aD.c))from by first| (simpa only[bI,bA,cF,cD,cI]using fD h47)|exact fD h47)).i (fH ai.c 3 h42)).w (show(O2.map ai.c)[Ja.toNat]?=some [aZ x41.shape.rel,bX (x41.shape.args.map tx),bX (x41.facts.map aD.c)]from cL ai.c (dl h42))).a [.row [aZ x41.shape.rel,bX (x41.shape.args.map tx),bX (x41.facts.map aD.c)],.cn [1,3,5,6,7,8,9] [0,1,2,3,12,5,6,7,8,9]]).cs hZ cS (CM aC aa cv y1 y3 (IntKind.i64.wrap (Ja+1)) ((xM.map bx)++([[bO Jt.2]])) ((O2.map ai.c).set Ja.toNat [aZ x41.shape.rel,bX (x41.shape.args.map tx),bX (y46.map aD.c)])) (by simp only[mA]<;>rfl) (ih1 (IntKind.i64.wrap (Ja+1)) (xM++([Jt.2])) (O2.set Ja.toNat (⟨x41.shape,y46⟩:ai)) h)
  ·exact((aY.b h40).a [.hl 0 [3,6,7,8] [0,2,3,4,5,6,7,8,9]]).ex hZ cq (eA xM O2 h)
def uw(aC:aH)(y1:aH)(y3:aJ)(eN:List Bool)(wR:bQ)(tI:Int)(vn:Int)(W2:List aR):St:=⟨[(3,bp 0 0),(6,bp 1 0),(7,bp 2 0),(8,b9 3),(12,aB tI)],[bu (aH.c aC),bu [D.nil,D.nil,D.nil,D.nil,D.nil,aB 0],bu [b9 4,b9 5,b9 6,b9 7,b9 8,aB vn],af 4 1 (eN.map bx),af 63 4 (y1.rules.map aO.c),af 3 1 (y1.ends.map jM),af 83 3 (wR.map ai.c),af 74 8 W2,af 43 2 (y3.map aD.c)]⟩
theorem JX(hZ:Z.nt=143){aC:aH}{y1:aH}{y3:aJ}{eN:List Bool}{wR:bQ}{r:aH}{k2:Int->bN->Option aH}(zc:∀(qg:Int) (nA:bN),k2 qg nA=some r->Ax Z N f64 (vp r) [1,1,1,1,1,1] ⟨[(6,bp 0 0),(7,bp 1 0)],[bu [D.nil,D.nil,D.nil,D.nil,D.nil,aB 0],bu [b9 2,b9 3,b9 4,b9 5,b9 6,aB qg],af 63 4 (y1.rules.map aO.c),af 3 1 (y1.ends.map jM),af 83 3 (wR.map ai.c),af 74 8 (nA.map Node.c),af 43 2 (y3.map aD.c)]⟩):∀(n2:Nat) (tI:Int) (vn:Int) (tY:bN),ff aC y1 y3 eN wR k2 n2 tI vn tY=some r->Ar Z N f64 (vp r) [1,1,1,1,1,0,1,0] n2 (uw aC y1 y3 eN wR tI vn (tY.map Node.c)):=by
 intro n
 induction n with
 |zero=>intro tI vn tY h;simp[ff]at h
 |succ n2 ih2=>
  intro tI vn tY h;rw[ff]at h;refine aT fun N2 uX qp=>?_
  obtain⟨h105,h⟩|⟨h105,h⟩:=aK h
  ·obtain⟨x106,h107,x108,h109,x110,h111,Dg,h113,h⟩:=Bj h;have jQ:=(((((((aY.b h105).i (fH Node.c 8 h107)).o 8 8 .uq (cL Node.c (dl h107))).i (fH Node.c 8 h109)).o 8 8 .uq (cL Node.c (dl h109))).l (dW Node.c 8 h111 rfl)).g (Kh h113))
   obtain⟨h114,h⟩|⟨h114,h⟩:=aK h
   ·obtain⟨O4,h116,h⟩:=aG h;exact((((((jQ.b h114).a [.n 7,.d (cV 77 2 (O4.map aV.c))]).w (show Good prog 98 [bX (x108.tokens.map aV.c),bw (aU.c x106.cond),bX ([])] (cV 77 2 (O4.map aV.c))from by first| (simpa only[bI,bA,cF,cD,cI]using uo h116)|exact uo h116)).i (fH Node.c 8 h107)).w (show(tY.map Node.c)[tI.toNat]?=some [aB x106.parent,aB x106.cond.kind,aZ x106.cond.pat.rel,bX (x106.cond.pat.args.map tx),aZ x106.cond.left,aZ x106.cond.right,aB x106.cX,bX (x106.tokens.map aV.c)]from cL Node.c (dl h107))).a [.row [aB x106.parent,aB x106.cond.kind,aZ x106.cond.pat.rel,bX (x106.cond.pat.args.map tx),aZ x106.cond.left,aZ x106.cond.right,aB x106.cX,bX (x106.tokens.map aV.c)],.cn [3,6,7,8,12] [0,1,2,3,4,5,6,7,8]]).cs hZ qp (uw aC y1 y3 eN wR (IntKind.i64.wrap (tI+1)) (IntKind.i64.wrap (vn+Dg.2)) ((tY.map Node.c).set tI.toNat [aB x106.parent,aB x106.cond.kind,aZ x106.cond.pat.rel,bX (x106.cond.pat.args.map tx),aZ x106.cond.left,aZ x106.cond.right,aB x106.cX,bX (O4.map aV.c)])) (by simp only[mA]<;>rfl) (ih2 (IntKind.i64.wrap (tI+1)) (IntKind.i64.wrap (vn+Dg.2)) (tY.set tI.toNat (⟨x106.parent,x106.cond,x106.cX,O4⟩:Node)) h)
   ·obtain⟨x117,h118,X8,h120,x121,h122,h⟩:=gW h;have jz:=((((((((((jQ.b h114).i (fH ai.c 3 h118)).o 3 3 .uq (cL ai.c (dl h118))).a [.n 8]).g (uo h120)).i (fH Node.c 8 h107)).w (show(tY.map Node.c)[tI.toNat]?=some [aB x106.parent,aB x106.cond.kind,aZ x106.cond.pat.rel,bX (x106.cond.pat.args.map tx),aZ x106.cond.left,aZ x106.cond.right,aB x106.cX,bX (x106.tokens.map aV.c)]from cL Node.c (dl h107))).a [.row [aB x106.parent,aB x106.cond.kind,aZ x106.cond.pat.rel,bX (x106.cond.pat.args.map tx),aZ x106.cond.left,aZ x106.cond.right,aB x106.cX,bX (x106.tokens.map aV.c)]]).i (fH bx 1 h122)).o 1 1 .uq (cL bx (dl h122)))
    obtain⟨h123,h⟩|⟨h123,h⟩:=aK h
    ·exact((jz.b h123).a [.cn [3,6,7,8,12] [0,1,2,3,4,5,6,7,8]]).cs hZ qp (uw aC y1 y3 eN wR (IntKind.i64.wrap (tI+1)) (IntKind.i64.wrap ((IntKind.i64.wrap (vn+(IntKind.i64.wrap (Dg.2*((x117.facts.map aD.c).length:Int)))))+Dg.1)) ((tY.map Node.c).set tI.toNat [aB x106.parent,aB x106.cond.kind,aZ x106.cond.pat.rel,bX (x106.cond.pat.args.map tx),aZ x106.cond.left,aZ x106.cond.right,aB x106.cX,bX (X8.map aV.c)])) (by simp only[mA]<;>rfl) (ih2 (IntKind.i64.wrap (tI+1)) (IntKind.i64.wrap ((IntKind.i64.wrap (vn+(IntKind.i64.wrap (Dg.2*((x117.facts.map aD.c).length:Int)))))+Dg.1)) (tY.set tI.toNat (⟨x106.parent,x106.cond,x106.cX,X8⟩:Node)) h)
    ·exact((jz.b h123).a [.cn [3,6,7,8,12] [0,1,2,3,4,5,6,7,8]]).cs hZ qp (uw aC y1 y3 eN wR (IntKind.i64.wrap (tI+1)) (IntKind.i64.wrap (vn+(IntKind.i64.wrap (Dg.2*((x117.facts.map aD.c).length:Int))))) ((tY.map Node.c).set tI.toNat [aB x106.parent,aB x106.cond.kind,aZ x106.cond.pat.rel,bX (x106.cond.pat.args.map tx),aZ x106.cond.left,aZ x106.cond.right,aB x106.cX,bX (X8.map aV.c)])) (by simp only[mA]<;>rfl) (ih2 (IntKind.i64.wrap (tI+1)) (IntKind.i64.wrap (vn+(IntKind.i64.wrap (Dg.2*((x117.facts.map aD.c).length:Int))))) (tY.set tI.toNat (⟨x106.parent,x106.cond,x106.cX,X8⟩:Node)) h)
  ·exact((aY.b h105).a [.hl 0 [6,7] [1,2,4,5,6,7,8]]).ex hZ uX (zc vn tY h)
theorem Aa{aC:aH}{aa:aJ}{cv:aD}{r:aH}(h:sP aC aa cv=some r):Good prog 64 [bw (aH.c aC),bX (aa.map aD.c),bw (aD.c cv)] (bw [cV 63 4 (r.rules.map aO.c),cV 3 1 (r.ends.map jM),cV 83 3 (r.bG.map ai.c),cV 74 8 (r.nodes.map Node.c),cV 43 2 (r.facts.map aD.c),aB r.cP]):=by
 refine gd func64 zo 143 fun hr Z hZ=>?_
 rw[sP]at h;obtain⟨y1,h2,y3,h4,h⟩:=bR h;refine(((aY.g (rZ h2)).g (di h4)).a [.cn [1,3,5,6,7,8,9] [0,1,2,8,10,3,4,5,6,9]]).lp hZ (JW hZ (fun eN wR h=>?_) fuel 0 ([]:List Bool) y1.bG h);refine(aY.a [.cn [3,6,7,8,12] [0,1,2,3,4,5,6,7,8]]).lp hZ (JX hZ (fun qg nA h=>?_) fuel 1 y1.cP y1.nodes h);cases h;exact aY.ret hZ
def qm(aC:aH)(aa:aD):Option (aH×Bool):=((wJ aC.facts aa).bind fun y1=>((mZ aC).bind fun y3=>(bif !(y3)then((pP aC).bind fun y6=>(some (y6,false)))else(bif !(y1.2)then((pP aC).bind fun y9=>(some (y9,false)))else((sP aC y1.1 aa).bind fun yb=>(some (yb,true)))))))
theorem DU{aC:aH}{aa:aD}{r:aH×Bool}(h:qm aC aa=some r):Good prog 22 [bw (aH.c aC),bw (aD.c aa)] (D.iw [bw [cV 63 4 (r.1.rules.map aO.c),cV 3 1 (r.1.ends.map jM),cV 83 3 (r.1.bG.map ai.c),cV 74 8 (r.1.nodes.map Node.c),cV 43 2 (r.1.facts.map aD.c),aB r.1.cP],bO r.2]):=by
 refine gd func22 sI 28 fun hr Z hZ=>?_
 rw[qm]at h;obtain⟨y1,h2,y3,h4,h⟩:=bR h;have lB:=((aY.g (J5 h2)).g (vh h4))
 obtain⟨h5,h⟩|⟨h5,h⟩:=aK h
 ·obtain⟨y6,h7,h⟩:=aG h;cases h;exact(((lB.r 3 h5).T 1).g (rZ h7)).ret hZ
 ·have fF:=(lB.r 3 h5)
  obtain⟨h8,h⟩|⟨h8,h⟩:=aK h
  ·obtain⟨y9,h10,h⟩:=aG h;cases h;exact((fF.b h8).g (rZ h10)).ret hZ
  ·obtain⟨yb,h12,h⟩:=aG h;cases h;exact((fF.b h8).g (Aa h12)).ret hZ
def sZ(aC:aJ)(aa:aD):Option (aJ×Bool):=((qX aC aa).bind fun y1=>((qV aC).bind fun y3=>(bif !(y3)then((cm aC).bind fun y6=>(some (y6,false)))else(bif decide ((y1:Int)<0)then((cm aC).bind fun y9=>(some (y9,false)))else((yF (aC.map aD.c).length none (some (aB y1))).bind fun p=>(fun l11 u12=>((cm ((aC.take u12).drop l11)).bind fun Ai=>((yF (aC.map aD.c).length (some (aB (IntKind.i64.wrap (y1+1)))) none).bind fun p=>(fun l16 u17=>((cm ((aC.take u17).drop l16)).bind fun AE=>(bif room ((Ai.map aD.c).length+(AE.map aD.c).length) 40 then(some (Ai++AE,true))else none))) p.1 p.2))) p.1 p.2)))))
theorem yw{aC:aJ}{aa:aD}{r:aJ×Bool}(h:sZ aC aa=some r):Good prog 127 [bX (aC.map aD.c),bw (aD.c aa)] (D.iw [cV 43 2 (r.1.map aD.c),bO r.2]):=by
 refine gd func127 [[some (43,2)],[none]] 29 fun hr Z hZ=>?_
 rw[sZ]at h;obtain⟨y1,h2,y3,h4,h⟩:=bR h;have lB:=(((aY.a [.L5 4]).g (wG h2)).g (sW h4))
 obtain⟨h5,h⟩|⟨h5,h⟩:=aK h
 ·obtain⟨y6,h7,h⟩:=aG h;cases h;exact(((lB.r 3 h5).T 1).g (cu h7)).ret hZ
 ·have fF:=(lB.r 3 h5)
  obtain⟨h8,h⟩|⟨h8,h⟩:=aK h
  ·obtain⟨y9,h10,h⟩:=aG h;cases h;exact((fF.b h8).g (cu h10)).ret hZ
  ·obtain⟨⟨l11,u12⟩,h13,h⟩:=aG h;obtain⟨Ai,h15,⟨l16,u17⟩,h18,h⟩:=bR h;obtain⟨AE,h20,h⟩:=aG h;obtain⟨h21,h⟩:=bf h;cases h;exact((((((((fF.b h8).w (show yF (aC.map aD.c).length none (some (aB y1))=some (l11,u12)/\((aC.map aD.c).all fun r=>r.length==2)=true from⟨h13,by simp[b8]⟩)).a [.n 8,.cut l11 u12,.d (cV 43 2 (Ai.map aD.c))]).w (show Good prog 82 [bX (((aC.map aD.c).take u12).drop l11)] (cV 43 2 (Ai.map aD.c))from by first| (simpa only[bI,bA,cF,cD,cI]using cu h15)|exact cu h15)).w (show yF (aC.map aD.c).length (some (aB (IntKind.i64.wrap (y1+1)))) none=some (l16,u17)/\((aC.map aD.c).all fun r=>r.length==2)=true from⟨h18,by simp[b8]⟩)).a [.cut l16 u17,.d (cV 43 2 (AE.map aD.c))]).w (show Good prog 82 [bX (((aC.map aD.c).take u17).drop l16)] (cV 43 2 (AE.map aD.c))from by first| (simpa only[bI,bA,cF,cD,cI]using cu h20)|exact cu h20)).w (cA h21)).rts hZ (D.iw [cV 43 2 ((Ai.map aD.c)++(AE.map aD.c)),bO true]) (by first|rfl| (simp only[mA]<;>rfl)| (simp only[cN,mA]<;>rfl))
def D3(aC:aH)(aa:aD):Option (aH×Bool):=((sZ aC.facts aa).bind fun y1=>(bif !(y1.2)then((iZ aC).bind fun y4=>(some (y4,false)))else((uE aC y1.1 aa).bind fun y6=>(some (y6,true)))))
theorem NF{aC:aH}{aa:aD}{r:aH×Bool}(h:D3 aC aa=some r):Good prog 68 [bw (aH.c aC),bw (aD.c aa)] (D.iw [bw [cV 63 4 (r.1.rules.map aO.c),cV 3 1 (r.1.ends.map jM),cV 83 3 (r.1.bG.map ai.c),cV 74 8 (r.1.nodes.map Node.c),cV 43 2 (r.1.facts.map aD.c),aB r.1.cP],bO r.2]):=by
 refine gd func68 sI 23 fun hr Z hZ=>?_
 rw[D3]at h;obtain⟨y1,h2,h⟩:=aG h;obtain⟨h3,h⟩|⟨h3,h⟩:=aK h
 ·obtain⟨y4,h5,h⟩:=aG h;cases h;exact(((aY.g (yw h2)).b h3).g (mW h5)).ret hZ
 ·obtain⟨y6,h7,h⟩:=aG h;cases h;exact(((aY.g (yw h2)).b h3).g (BF h7)).ret hZ
def nP(aC:aH)(aa:aD):Option (aH×Bool):=((oV aC).bind fun y1=>(bif !(y1)then((iZ aC).bind fun y4=>(some (y4,false)))else((D3 aC aa).bind fun y6=>(some (y6.1,y6.2)))))
theorem vu{aC:aH}{aa:aD}{r:aH×Bool}(h:nP aC aa=some r):Good prog 24 [bw (aH.c aC),bw (aD.c aa)] (D.iw [bw [cV 63 4 (r.1.rules.map aO.c),cV 3 1 (r.1.ends.map jM),cV 83 3 (r.1.bG.map ai.c),cV 74 8 (r.1.nodes.map Node.c),cV 43 2 (r.1.facts.map aD.c),aB r.1.cP],bO r.2]):=by
 refine gd func24 sI 16 fun hr Z hZ=>?_
 rw[nP]at h;obtain⟨y1,h2,h⟩:=aG h;obtain⟨h3,h⟩|⟨h3,h⟩:=aK h
 ·obtain⟨y4,h5,h⟩:=aG h;cases h;exact(((aY.g (ru h2)).b h3).g (mW h5)).ret hZ
 ·obtain⟨y6,h7,h⟩:=aG h;cases h;exact(((aY.g (ru h2)).b h3).g (NF h7)).ret hZ
def gr(aC:aJ)(aa:aD)(k1:aJ->Option aJ):aJ->Nat->aJ->Option aJ
 | [],i1,bn=>(k1 bn)
 |bg::cj,i1,bn=>((rF bg aa).bind fun VY=>(bif !(VY)then((eE bg).bind fun BQ=>(bif room ((bn.map aD.c).length+([[aZ BQ.rel,bX (BQ.args.map tx)]]).length) 40 then(gr aC aa k1 cj (i1+1) (bn++([BQ])))else none))else(gr aC aa k1 cj (i1+1) bn)))
def wh(aC:aJ)(aa:aD):Option aJ:=(gr aC aa (fun(cM:aJ)=>(some cM)) aC 0 ([]:aJ))
def BO(aC:aJ)(aa:aD)(W0:List aR)(dL:Int):St:=⟨[(0,bX (aC.map aD.c)),(3,bp 0 0),(5,b9 1),(6,aB dL)],[bu (aD.c aa),af 43 2 W0]⟩
theorem Hi(hZ:Z.nt=30){aC:aJ}{aa:aD}{r:aJ}{k1:aJ->Option aJ}(eA:∀(cM:aJ),k1 cM=some r->Ax Z N f71 (Jg r) [1,1,1] ⟨[(5,b9 0)],[af 43 2 (cM.map aD.c)]⟩)(hm1:aC.length<=maxLen):∀(rest:aJ) (i1:Nat) (bn:aJ),aC.drop i1=rest->gr aC aa k1 rest i1 bn=some r->Ar Z N f71 (Jg r) [1,1,0,1,0] (rest.length+1) (BO aC aa (bn.map aD.c) (i1:Int)):=by
 intro rest
 induction rest with
 |nil=>
  intro i1 bn bD h;rw[gr]at h;refine aT fun N1 cq cS=>?_
  exact((aY.ge aD.c bD).a [.hl 0 [5] [1]]).ex hZ cq (eA bn h)
 |cons bg cj ih1=>
  intro i1 bn bD h;rw[gr]at h;refine aT fun N1 cq cS=>?_
  obtain⟨VY,h43,h⟩:=aG h;have fF:=((((aY.lt aD.c bD).a [.n 5]).l (bK aD.c 2 (dc bD) rfl)).g (yA h43))
  obtain⟨h44,h⟩|⟨h44,h⟩:=aK h
  ·obtain⟨BQ,h46,h⟩:=aG h;obtain⟨h47,h⟩:=bf h;exact(((((fF.b h44).l (bK aD.c 2 (dc bD) rfl)).g (ez h46)).w (cA h47)).a [.cn [0,3,5,6] [0,4]]).cs hZ cS (BO aC aa ((bn.map aD.c)++([[aZ BQ.rel,bX (BQ.args.map tx)]])) (IntKind.i64.wrap ((i1:Int)+1))) (by simp only[iS bD hm1,mA]<;>rfl) (ih1 (i1+1) (bn++([BQ])) (dn bD) h)
  ·exact((fF.b h44).a [.cn [0,3,5,6] [0,1]]).ct hZ cS (iS bD hm1) (ih1 (i1+1) bn (dn bD) h)
theorem GO{aC:aJ}{aa:aD}{r:aJ}(h:wh aC aa=some r):Good prog 71 [bX (aC.map aD.c),bw (aD.c aa)] (cV 43 2 (r.map aD.c)):=by
 refine gd func71 B2 30 fun hr Z hZ=>?_
 rw[wh]at h;refine(aY.a [.cn [0,3,5,6] [0,1]]).lp hZ (Hi hZ (fun cM h=>?_) (by have:=(gX.sl (hr _ (aE (i:=0) rfl))).1;simpa using this) aC 0 ([]:aJ) rfl h);obtain rfl:=aM h;exact aY.ret hZ
def su(aC:aJ)(aa:aD):Option (aJ×Bool):=((qZ aC).bind fun y1=>(bif !(y1)then((dO aC).bind fun y4=>(some (y4,false)))else((qc aC aa).bind fun y6=>(bif decide ((y6:Int)<0)then((dO aC).bind fun y9=>(some (y9,false)))else((wh aC aa).bind fun yb=>(some (yb,true)))))))
theorem FA{aC:aJ}{aa:aD}{r:aJ×Bool}(h:su aC aa=some r):Good prog 26 [bX (aC.map aD.c),bw (aD.c aa)] (D.iw [cV 43 2 (r.1.map aD.c),bO r.2]):=by
 refine gd func26 [[some (43,2)],[none]] 20 fun hr Z hZ=>?_
 rw[su]at h;obtain⟨y1,h2,h⟩:=aG h;obtain⟨h3,h⟩|⟨h3,h⟩:=aK h
 ·obtain⟨y4,h5,h⟩:=aG h;cases h;exact((((aY.g (pV h2)).r 5 h3).T 1).g (di h5)).ret hZ
 ·obtain⟨y6,h7,h⟩:=aG h;have lB:=((((aY.g (pV h2)).r 3 h3).g (wK h7)).r 2 h3)
  obtain⟨h8,h⟩|⟨h8,h⟩:=aK h
  ·obtain⟨y9,h10,h⟩:=aG h;cases h;exact((lB.b h8).g (di h10)).ret hZ
  ·obtain⟨yb,h12,h⟩:=aG h;cases h;exact((lB.b h8).g (GO h12)).ret hZ
def pX(aC:bM):Option (aH×aD×Bool):=((z8 aC).bind fun y1=>((xb y1).bind fun y3=>((qc y3.2.1.facts y3.2.2).bind fun y9=>((eZ y3.1 8).bind fun yb=>(some (y3.2.1,y3.2.2,(decide ((y9:Int)<0):Bool) != yb.2))))))
theorem Cu{aC:bM}{r:aH×aD×Bool}(h:pX aC=some r):Good prog 27 [bX (aC.map yx)] (D.iw [bw [bX (r.1.rules.map aO.c),cV 3 1 (r.1.ends.map jM),cV 83 3 (r.1.bG.map ai.c),cV 74 8 (r.1.nodes.map Node.c),cV 43 2 (r.1.facts.map aD.c),aB r.1.cP],bw [aZ r.2.1.rel,cV 9 1 (r.2.1.args.map tx)],bO r.2.2]):=by
 refine gd func27 [[none,some (3,1),some (83,3),some (74,8),some (43,2),none],[none,some (9,1)],[none]] 25 fun hr Z hZ=>?_
 rw[pX]at h;obtain⟨y1,h2,y3,h4,h⟩:=bR h;refine(((aY.hn (Ls h2)).hp jK (Kg h4)).a [.hl 0 [2,3,5,6,7] [0,1,2,8,9,3,4,5,6,7]]).ex (c':=(lc f27 [1,1,1])) (K':=(lk' f27 [1,1,1])) (K0:=(lk' f27 [1,1,1])) hZ (fun _ _=>rfl) (a7t (st:=⟨[(2,bp 0 0),(3,bp 1 0),(5,bp 2 0),(6,bp 3 0),(7,bp 4 0)],[bu [D.nil,D.nil,D.nil,D.nil,D.nil,aB 0],bu [aZ ([]),D.nil],bu (ck.c y3.1),bu [bX (y3.2.1.rules.map aO.c),b9 5,b9 6,b9 7,b9 8,aB y3.2.1.cP],bu [aZ y3.2.2.rel,b9 9],af 3 1 (y3.2.1.ends.map jM),af 83 3 (y3.2.1.bG.map ai.c),af 74 8 (y3.2.1.nodes.map Node.c),af 43 2 (y3.2.1.facts.map aD.c),af 9 1 (y3.2.2.args.map tx)]⟩) mix (Kd.a6t _ _) 6 8 (by kernel_rfl) (by kernel_rfl) ?_)
 ·refine D0.early (p:=9) (y:=10) (PU (Kd.a6t _ _) _) (by kernel_rfl) ?_
  ·obtain⟨y9,h10,yb,h12,h⟩:=bR h;cases h;exact(((aY.a [.n2 [0,1,2,3,4,5,6,7,8,9,10,11,12] [0,1,2,3,4,5,6,7,8,9,10,11,12] 8 11 [0,1] [0,2]]).g (wK h10)).hp iy (eS h12)).aG4 hZ
def uB(aC:aq)(aa:aq):Option Bool:=(bif (aC.rule:Bytes)==aa.rule then((j6 aC.facts aa.facts).bind fun y2=>(bif y2 then((oc aC.bind aa.bind).bind fun y5=>(some y5))else(some false)))else(some false))
theorem Fy{aC:aq}{aa:aq}{r:Bool}(h:uB aC aa=some r):Good prog 197 [bw (aq.c aC),bw (aq.c aa)] (bO r):=by
 refine gd func197 bZ 24 fun hr Z hZ=>?_
 rw[uB]at h;obtain⟨h1,h⟩|⟨h1,h⟩:=aK h
 ·obtain⟨y2,h3,h⟩:=aG h;have lB:=(((aY.r 5 h1).g (s7 h3)).b h1)
  obtain⟨h4,h⟩|⟨h4,h⟩:=aK h
  ·obtain⟨y5,h6,h⟩:=aG h;obtain rfl:=aM h;exact(((lB.r 5 h4).g (zY h6)).b h4).ret hZ
  ·obtain rfl:=aM h;exact(lB.r 6 h4).ret hZ
 ·obtain rfl:=aM h;exact((aY.r 6 h1).F 6).ret hZ
def jY(aC:bL)(aa:aq)(k1:Option Bool):bL->Nat->Option Bool
 | [],i1=>(k1)
 |bg::cj,i1=>((uB bg aa).bind fun L7=>(bif L7 then(some true)else(jY aC aa k1 cj (i1+1))))
def vF(aC:bL)(aa:aq):Option Bool:=(jY aC aa (some false) aC 0)
def KA(aC:bL)(aa:aq)(dL:Int):St:=⟨[(3,bp 0 0),(7,bX (aC.map aq.c)),(8,aB ((aC.map aq.c).length:Int)),(9,aB dL)],[bu (aq.c aa)]⟩
theorem Io(hZ:Z.nt=17){aC:bL}{aa:aq}{r:Bool}{k1:Option Bool}(eA:k1=some r->Ax Z N f130 (.q bZ (bO r)) [1,1] ⟨[],[]⟩)(hm1:aC.length<=maxLen):∀(rest:bL) (i1:Nat),aC.drop i1=rest->jY aC aa k1 rest i1=some r->Ar Z N f130 (.q bZ (bO r)) [1,0,1,0] (rest.length+1) (KA aC aa (i1:Int)):=by
 intro rest
 induction rest with
 |nil=>
  intro i1 bD h;rw[jY]at h;refine aT fun N1 cq cS=>?_
  exact((aY.ge aq.c bD).a [.hl 0 [] []]).ex hZ cq (eA h)
 |cons bg cj ih1=>
  intro i1 bD h;rw[jY]at h;refine aT fun N1 cq cS=>?_
  obtain⟨L7,h22,h⟩:=aG h;have fF:=(((aY.lt aq.c bD).l (bK aq.c 3 (dc bD) rfl)).g (Fy h22))
  obtain⟨h23,h⟩|⟨h23,h⟩:=aK h
  ·obtain rfl:=aM h;exact(fF.b h23).ret hZ
  ·exact((fF.b h23).a [.cn [3,7,8,9] [0]]).ct hZ cS (iS bD hm1) (ih1 (i1+1) (dn bD) h)
theorem HB{aC:bL}{aa:aq}{r:Bool}(h:vF aC aa=some r):Good prog 130 [bX (aC.map aq.c),bw (aq.c aa)] (bO r):=by
 refine gd func130 bZ 17 fun hr Z hZ=>?_
 rw[vF]at h;refine(aY.a [.cn [3,7,8,9] [0]]).lp hZ (Io hZ (fun h=>?_) (by have:=(gX.sl (hr _ (aE (i:=0) rfl))).1;simpa using this) aC 0 rfl h);obtain rfl:=aM h;exact aY.ret hZ
def uH(aC:aq):Option aq:=((cm aC.facts).bind fun y1=>((j7 aC.bind).bind fun y3=>(some (⟨aC.rule,y1,y3⟩:aq))))
theorem G3{aC:aq}{r:aq}(h:uH aC=some r):Good prog 131 [bw (aq.c aC)] (bw [aZ r.rule,cV 43 2 (r.facts.map aD.c),cV 113 2 (r.bind.map aX.c)]):=by
 refine gd func131 [[none,some (43,2),some (113,2)]] 12 fun hr Z hZ=>?_
 rw[uH]at h;obtain⟨y1,h2,y3,h4,h⟩:=bR h;cases h;exact(((aY.a [.n 8]).g (cu h2)).g (s8 h4)).ret hZ
def gJ(aC:bL)(aa:bL)(k1:bL->Option bL):bL->Nat->bL->Option bL
 | [],i1,bY=>(k1 bY)
 |bg::cj,i1,bY=>((vF aa bg).bind fun VY=>(bif !(VY)then((uH bg).bind fun BQ=>(bif room ((bY.map aq.c).length+([[aZ BQ.rule,bX (BQ.facts.map aD.c),bX (BQ.bind.map aX.c)]]).length) 64 then(gJ aC aa k1 cj (i1+1) (bY++([BQ])))else none))else(gJ aC aa k1 cj (i1+1) bY)))
def l7(aC:bL)(aa:bL):Option bL:=(gJ aC aa (fun(cM:bL)=>(some cM)) aC 0 ([]:bL))
def AP(aC:bL)(aa:bL)(W0:List aR)(dL:Int):St:=⟨[(1,bX (aa.map aq.c)),(5,b9 0),(8,bX (aC.map aq.c)),(9,aB ((aC.map aq.c).length:Int)),(10,aB dL)],[af 57 3 W0]⟩
theorem G5(hZ:Z.nt=25){aC:bL}{aa:bL}{r:bL}{k1:bL->Option bL}(eA:∀(cM:bL),k1 cM=some r->Ax Z N f73 (FT r) [1,1,1] ⟨[(5,b9 0)],[af 57 3 (cM.map aq.c)]⟩)(hm1:aC.length<=maxLen):∀(rest:bL) (i1:Nat) (bY:bL),aC.drop i1=rest->gJ aC aa k1 rest i1 bY=some r->Ar Z N f73 (FT r) [1,1,0,1,0] (rest.length+1) (AP aC aa (bY.map aq.c) (i1:Int)):=by
 intro rest
 induction rest with
 |nil=>
  intro i1 bY bD h;rw[gJ]at h;refine aT fun N1 cq cS=>?_
  exact((aY.ge aq.c bD).a [.hl 0 [5] [0]]).ex hZ cq (eA bY h)
 |cons bg cj ih1=>
  intro i1 bY bD h;rw[gJ]at h;refine aT fun N1 cq cS=>?_
  obtain⟨VY,h43,h⟩:=aG h;have fF:=(((aY.lt aq.c bD).l (bK aq.c 3 (dc bD) rfl)).g (HB h43))
  obtain⟨h44,h⟩|⟨h44,h⟩:=aK h
  ·obtain⟨BQ,h46,h⟩:=aG h;obtain⟨h47,h⟩:=bf h;exact((((fF.b h44).g (G3 h46)).w (cA h47)).a [.cn [1,5,8,9,10] [5]]).cs hZ cS (AP aC aa ((bY.map aq.c)++([[aZ BQ.rule,bX (BQ.facts.map aD.c),bX (BQ.bind.map aX.c)]])) (IntKind.i64.wrap ((i1:Int)+1))) (by simp only[iS bD hm1,mA]<;>rfl) (ih1 (i1+1) (bY++([BQ])) (dn bD) h)
  ·exact((fF.b h44).a [.cn [1,5,8,9,10] [0]]).ct hZ cS (iS bD hm1) (ih1 (i1+1) bY (dn bD) h)
theorem qw{aC:bL}{aa:bL}{r:bL}(h:l7 aC aa=some r):Good prog 73 [bX (aC.map aq.c),bX (aa.map aq.c)] (cV 57 3 (r.map aq.c)):=by
 refine gd func73 [[some (57,3)]] 25 fun hr Z hZ=>?_
 rw[l7]at h;refine(aY.a [.L5 5,.cn [1,5,8,9,10] [0]]).lp hZ (G5 hZ (fun cM h=>?_) (by have:=(gX.sl (hr _ (aE (i:=0) rfl))).1;simpa using this) aC 0 ([]:bL) rfl h);obtain rfl:=aM h;exact aY.ret hZ
def wZ(aC:aH)(aa:aD)(cv:Bool):Option (bL×bL):=((nP aC aa).bind fun y1=>(bif cv then((qk aC aa).bind fun y4=>(bif !(y4.2)then(some ([],[]))else((fZ aC).bind fun y7=>((fZ y4.1).bind fun y9=>((l7 y9 y7).bind fun yb=>((l7 y7 y9).bind fun xN=>(some (yb,xN))))))))else(bif !(y1.2)then(some ([],[]))else((fZ aC).bind fun PO=>((fZ y1.1).bind fun P0=>((l7 P0 PO).bind fun y20=>((l7 PO P0).bind fun rU=>(some (y20,rU)))))))))
theorem Fq{aC:aH}{aa:aD}{cv:Bool}{r:bL×bL}(h:wZ aC aa cv=some r):Good prog 28 [bw (aH.c aC),bw (aD.c aa),bO cv] (D.iw [cV 57 3 (r.1.map aq.c),cV 57 3 (r.2.map aq.c)]):=by
 refine gd func28 [[some (57,3)],[some (57,3)]] 37 fun hr Z hZ=>?_
 rw[wZ]at h;obtain⟨y1,h2,h⟩:=aG h;obtain⟨h3,h⟩|⟨h3,h⟩:=aK h
 ·obtain⟨y4,h5,h⟩:=aG h;have lB:=(((aY.g (vu h2)).b h3).g (DQ h5))
  obtain⟨h6,h⟩|⟨h6,h⟩:=aK h
  ·cases h;exact(lB.b h6).ret hZ
  ·obtain⟨y7,h8,y9,h10,yb,h12,xN,h14,h⟩:=Bj h;cases h;exact((((((lB.b h6).a [.n 3]).g (qK h8)).g (qK h10)).g (qw h12)).g (qw h14)).ret hZ
 ·have fF:=((aY.g (vu h2)).b h3)
  obtain⟨h15,h⟩|⟨h15,h⟩:=aK h
  ·cases h;exact(fF.b h15).ret hZ
  ·obtain⟨PO,h17,P0,h19,y20,h21,rU,h23,h⟩:=Bj h;cases h;exact((((((fF.b h15).a [.n 3]).g (qK h17)).g (qK h19)).g (qw h21)).g (qw h23)).ret hZ
def nX(aC:aH)(aa:aD):Option (aH×Bool):=((su aC.facts aa).bind fun y1=>((mZ aC).bind fun y3=>(bif !(y3)then((pP aC).bind fun y6=>(some (y6,false)))else(bif !(y1.2)then((pP aC).bind fun y9=>(some (y9,false)))else((sP aC y1.1 aa).bind fun yb=>(some (yb,true)))))))
theorem BW{aC:aH}{aa:aD}{r:aH×Bool}(h:nX aC aa=some r):Good prog 29 [bw (aH.c aC),bw (aD.c aa)] (D.iw [bw [cV 63 4 (r.1.rules.map aO.c),cV 3 1 (r.1.ends.map jM),cV 83 3 (r.1.bG.map ai.c),cV 74 8 (r.1.nodes.map Node.c),cV 43 2 (r.1.facts.map aD.c),aB r.1.cP],bO r.2]):=by
 refine gd func29 sI 28 fun hr Z hZ=>?_
 rw[nX]at h;obtain⟨y1,h2,y3,h4,h⟩:=bR h;have lB:=((aY.g (FA h2)).g (vh h4))
 obtain⟨h5,h⟩|⟨h5,h⟩:=aK h
 ·obtain⟨y6,h7,h⟩:=aG h;cases h;exact(((lB.r 3 h5).T 1).g (rZ h7)).ret hZ
 ·have fF:=(lB.r 3 h5)
  obtain⟨h8,h⟩|⟨h8,h⟩:=aK h
  ·obtain⟨y9,h10,h⟩:=aG h;cases h;exact((fF.b h8).g (rZ h10)).ret hZ
  ·obtain⟨yb,h12,h⟩:=aG h;cases h;exact((fF.b h8).g (Aa h12)).ret hZ
def jv(aC:aq)(aa:aD):Option Bool:=((qX aC.facts aa).bind fun y1=>(some (decide ((y1:Int)>=0))))
theorem mU{aC:aq}{aa:aD}{r:Bool}(h:jv aC aa=some r):Good prog 33 [bw (aq.c aC),bw (aD.c aa)] (bO r):=by
 refine gd func33 bZ 10 fun hr Z hZ=>?_
 rw[jv]at h;obtain⟨y1,h2,h⟩:=aG h;cases h;exact(aY.g (wG h2)).ret hZ
theorem xj{G:Type}{a pre xs:List G}{x:G}(h:a=pre++x::xs):fy a (pre.length:Int)=some x:=by
 unfold fy;have:a[pre.length]?=some x:=by rw[h];simp
 simp[this]
theorem Ff{n b:Nat}(hn:n<=1099511627776)(hb:b<=128):room n b=true:=by
 unfold room maxLen;have:n*b<=1099511627776*128:=Gg hn hb;simp;omega
theorem gF{G:Type}{w:List G}{c:G->aR}{y:aR}{b:Nat}(h:w.length<1099511627776)(hb:b<=128):room ((w.map c).length+([y]).length) b=true:=Ff (by simp;omega) hb
theorem a2e{G E:Type}{w:List G}{v:List E}{c:G->aR}{d:E->aR}{b:Nat}(h:w.length+v.length<=1099511627776)(hb:b<=128):room ((w.map c).length+(v.map d).length) b=true:=Ff (by simp;omega) hb
theorem VG{E:Type}{v:List E}{d:E->aR}{b:Nat}(h:v.length<=1099511627776)(hb:b<=128):room (([]:List aR).length+(v.map d).length) b=true:=Ff (by simp;omega) hb
theorem sE{G:Type}{l:List G}(h:l.length<=1099511627776):decide (l.length<=maxLen)=true:=by unfold maxLen;simp;omega
theorem GW{G E I:Type}{c:E->aR}{b:Nat}{f:G->Option E}{g:G->E}{L:List G->Nat->List E->Option I}{k:List E->Option I}(hb:b<=128)(wm:∀i w,L [] i w=k w)
 (wN:∀x xs i w,L (x::xs) i w=(f x).bind fun y=>bif room ((w.map c).length+([c y]).length) b then L xs (i+1) (w++[y])else none):
 ∀(l:List G) (i:Nat) (w:List E),(∀x∈l,f x=some (g x))->w.length+l.length<=1099511627776->L l i w=k (w++l.map g):=by
 intro l
 induction l with
 |nil=>intro i w _ _;simp[wm]
 |cons x xs ih=>
  intro i w hf hl;simp only[aQ]at hl;rw[wN,hf x (by simp),aA,gF (by omega) hb,aF,ih _ _ (fun y hy=>hf y (by simp[hy])) (by simp;omega)];simp
theorem Yn{G:Type}{f:G->Option Bool}{p:G->Bool}{L:List G->Nat->Option Bool}{k:Option Bool}(wm:∀i,L [] i=k)
 (wN:∀x xs i,L (x::xs) i=(f x).bind fun y=>bif !y then some false else L xs (i+1)):∀(l:List G) (i:Nat),(∀x∈l,f x=some (p x))->L l i=bif l.all p then k else some false:=by
 intro l
 induction l with
 |nil=>intro i _;simp[wm]
 |cons x xs ih=>
  intro i hf;rw[wN,hf x (by simp),aA,ih _ (fun y hy=>hf y (by simp[hy])),eD];cases p x<;>simp
theorem sJ:∀(a:Bytes),Op.bytesLess a a=false
 | []=>rfl
 |x::a=>by simp[Op.bytesLess,sJ a]
theorem AH:∀ {a b c:Bytes},Op.bytesLess a b=true->Op.bytesLess b c=true->Op.bytesLess a c=true
 | [],b,[],_,h2=>by cases b<;>simp[Op.bytesLess]at h2
 | [],b,_::_,_,_=>by simp[Op.bytesLess]
 |_::_,[],_,h1,_=>by simp[Op.bytesLess]at h1
 |_::_,_::_,[],_,h2=>by simp[Op.bytesLess]at h2
 |x::a,y::b,z::c,h1,h2=>by
  simp only[Op.bytesLess,qS,bH,aS,cr]at h1 h2⊢;rcases h1 with h1|⟨rfl,h1⟩
  ·rcases h2 with h2|⟨rfl,h2⟩
   ·exact .inl (UInt8.lt_trans h1 h2)
   ·exact .inl h1
  ·rcases h2 with h2|⟨rfl,h2⟩
   ·exact .inl h2
   ·exact .inr ⟨rfl,AH h1 h2⟩
theorem Gn:∀ {a b:Bytes},Op.bytesLess a b=false->Op.bytesLess b a=false->a=b
 | [],[],_,_=>rfl
 | [],_::_,h,_=>by simp[Op.bytesLess]at h
 |_::_,[],_,h=>by simp[Op.bytesLess]at h
 |x::a,y::b,h1,h2=>by
  simp only[Op.bytesLess,Bool.or_eq_false_iff,qE,Fk,dA,ne_eq]at h1 h2;have e:x=y:=by
   have h3:=h1.1;have h4:=h2.1;rw[Fo]at h3 h4;exact UInt8.toNat_inj.1 (by omega)
  subst e;rw[Gn (h1.2.resolve_left (by simp)) (h2.2.resolve_left (by simp))]
theorem LM{a b:Bytes}(h:Op.bytesLess a b=true):Op.bytesLess b a=false:=by
 cases hb:Op.bytesLess b a with
 |false=>rfl
 |true=>have:=AH h hb;rw[sJ]at this;cases this
def SS(l:aI):Prop:=l.Pairwise fun a b=>Op.bytesLess a b=true
theorem Mz:∀ {a b:aI},SS a->SS b->(∀x,x∈a↔x∈b)->a=b
 | [],[],_,_,_=>rfl
 | [],y::b,_,_,h=>by have:=(h y).2 (by simp);cases this
 |x::a,[],_,_,h=>by have:=(h x).1 (by simp);cases this
 |x::a,y::b,h1,h2,h=>by
  obtain⟨p1,p2⟩:=lY.1 h1;obtain⟨q1,q2⟩:=lY.1 h2;have e:x=y:=by
   refine Gn ?_ ?_
   ·cases hb:Op.bytesLess x y with
    |false=>rfl
    |true=>
     rcases bV.1 ((h x).1 (by simp))with rfl|hx
     ·exact(sJ x▸hb).symm
     ·have:=LM (q1 x hx);rw[hb]at this;exact this
   ·cases hb:Op.bytesLess y x with
    |false=>rfl
    |true=>
     rcases bV.1 ((h y).2 (by simp))with rfl|hx
     ·exact(sJ y▸hb).symm
     ·have:=LM (p1 y hx);rw[hb]at this;exact this
  subst e;rw[Mz p2 q2 (fun z=>?_)];constructor
  ·intro hz;rcases bV.1 ((h z).1 (by simp[hz]))with rfl|RN
   ·have:=p1 z hz;rw[sJ]at this;cases this
   ·exact RN
  ·intro hz;rcases bV.1 ((h z).2 (by simp[hz]))with rfl|RN
   ·have:=q1 z hz;rw[sJ]at this;cases this
   ·exact RN
def B4:aI->Bytes->aI
 | [],s=>[s]
 |x::xs,s=>bif Op.bytesLess x s then x::B4 xs s else bif x==s then x::xs else s::x::xs
theorem QT:∀ {l:aI} {s y:Bytes},y∈B4 l s↔y=s\/y∈l
 | [],s,y=>by simp[B4]
 |x::xs,s,y=>by
  simp only[B4];cases Op.bytesLess x s with
  |true=>simp only[aF,bV,QT (l:=xs)];constructor<;>(rintro(h|h|h)<;>simp[h])
  |false=>
   simp only[aL];cases hx:x==s with
   |true=>
    simp only[cr]at hx;subst hx;simp
   |false=>simp
theorem YO:∀ {l:aI} {s:Bytes},SS l->SS (B4 l s)
 | [],s,_=>by simp[B4,SS]
 |x::xs,s,h=>by
  obtain⟨p1,p2⟩:=lY.1 h;simp only[B4];cases hb:Op.bytesLess x s with
  |true=>
   simp only[aF];refine lY.2 ⟨fun y hy=>?_,YO p2⟩;rcases QT.1 hy with rfl|hy
   ·exact hb
   ·exact p1 y hy
  |false=>
   simp only[aL];cases hx:x==s with
   |true=>exact h
   |false=>
    have hs:Op.bytesLess s x=true:=by
     cases hc:Op.bytesLess s x with
     |true=>rfl
     |false=>have:=Gn hb hc;subst this;simp at hx
    refine lY.2 ⟨fun y hy=>?_,h⟩;rcases bV.1 hy with rfl|hy
    ·exact hs
    ·exact AH hs (p1 y hy)
theorem CS:∀(l:aI) (s:Bytes),(B4 l s).length<=l.length+1
 | [],s=>by simp[B4]
 |x::xs,s=>by
  have:=CS xs s;simp only[B4];cases Op.bytesLess x s<;>simp only[aF,aL,aQ]
  ·cases x==s<;>simp
  ·omega
def fT(l:aI):aI:=l.foldl B4 []
theorem Hv:∀(l a:aI) (y:Bytes),y∈l.foldl B4 a↔y∈a\/y∈l
 | [],a,y=>by simp
 |x::l,a,y=>by
  rw[cy,Hv l,QT];simp only[bV];constructor
  ·rintro((h|h)|h)<;>simp[h]
  ·rintro(h|h|h)<;>simp[h]
theorem Jj:∀(l:aI) {a:aI},SS a->SS (l.foldl B4 a)
 | [],a,h=>h
 |x::l,a,h=>Jj l (YO h)
theorem Hu:∀(l a:aI),(l.foldl B4 a).length<=a.length+l.length
 | [],a=>by simp
 |x::l,a=>by
  have h1:=Hu l (B4 a x);have h2:=CS a x;rw[cy,aQ];omega
theorem rR{l:aI}{y:Bytes}:y∈fT l↔y∈l:=by unfold fT;rw[Hv];simp
theorem Qo(l:aI):SS (fT l):=Jj l (by simp[SS])
theorem sQ(l:aI):(fT l).length<=l.length:=by have:=Hu l [];simpa[fT]using this
theorem IC{a b:aI}(h:∀x,x∈a↔x∈b):fT a=fT b:=Mz (Qo a) (Qo b) (fun x=>by rw[rR,rR,h])
theorem X3(a:aI)(x:Bytes):B4 (fT a) x=fT (a++[x]):=by simp[fT]
theorem X2(a b:aI):b.foldl B4 (fT a)=fT (a++b):=by simp[fT]
theorem ID(a b:aI):(fT b).foldl B4 (fT a)=fT (a++b):=by
 rw[X2];exact IC (fun x=>by simp[rR])
theorem pS(l:aI)(v:Bytes):(fT l).contains v=l.contains v:=by
 rw[cK];simp[rR]
def in1(x:UInt8):Bool:=decide ((x.toNat:Int)>=97)&&decide ((x.toNat:Int)<=122)
def in2(x:UInt8):Bool:=decide ((x.toNat:Int)>=48)&&decide ((x.toNat:Int)<=57)
def ab(x:UInt8):Bool:=in1 x||in2 x
def ZK(s:Bytes):Bool:=decide ((s.length:Int)>=1)&&decide ((s.length:Int)<=8)
def fV(s:Bytes):Bool:=s.all ab&&ZK s
def a6V:Bytes->Bool
 | []=>false
 |x::_=>decide ((x.toNat:Int)>=97)
def zG(s:Bytes):Bool:=fV s&&a6V s
def fo:Bytes->Bool
 | []=>false
 |x::t=>decide ((x.toNat:Int)=63)&&fV t
def nB(s:Bytes):Bool:=fV s||fo s
theorem Bg{s:Bytes}(h:fV s=true):1<=s.length/\s.length<=8:=by
 simp only[fV,ZK,aS,bH]at h;omega
theorem S4{s:Bytes}(h:zG s=true):1<=s.length/\s.length<=8:=by
 simp only[zG,aS]at h;exact Bg h.1
theorem IG{s:Bytes}(h:fo s=true):1<=s.length/\s.length<=9:=by
 cases s with
 |nil=>cases h
 |cons x t=>simp only[fo,aS]at h;have:=Bg h.2;simp;omega
theorem Zp{s:Bytes}(h:nB s=true):1<=s.length/\s.length<=9:=by
 simp only[nB,qS]at h;rcases h with h|h
 ·have:=Bg h;omega
 ·exact IG h
theorem ni{s:Bytes}(h:fo s=true):fV s=false:=by
 cases s with
 |nil=>cases h
 |cons x t=>
  simp only[fo,aS,bH]at h;simp only[fV,eD,ab,in1,in2];have:(x.toNat:Int)=63:=h.1;simp[this]
theorem a7j(x:UInt8):IntKind.i64.wrap ((x.toNat:Nat):Int)=(x.toNat:Int):=eC (qu.i64.2 (by have:=x.toNat_lt;omega))
theorem Fi{n:Nat}(h:n<=1099511627776):IntKind.i64.wrap ((n:Int)+1)=((n+1:Nat):Int):=by rw[eC (qu.i64.2 (by omega))];omega
theorem YE{n:Nat}(h:1<=n):yF n (some (D.int .i64 1)) none=some (1,n):=by
 unfold yF;have:(0:Int)<=1/\(1:Int).toNat<=n:=⟨by decide,h⟩
 simp only[bP this];rfl
theorem ML(a b c:Int):mm a b c=some (decide (a>=b)&&decide (a<=c)):=by
 unfold mm;cases decide (a>=b)<;>rfl
theorem a9K(a:Bytes)(k:Option Bool)(ha:a.length<=1048576):∀(rest pre:Bytes),a=pre++rest->∀n,rest.length<n->kG a k n (pre.length:Int)=bif rest.all ab then k else some false:=by
 intro rest
 induction rest with
 |nil=>
  intro pre h n hn;obtain⟨m,rfl⟩:∃m,n=m+1:=⟨n-1,by simp at hn;omega⟩
  have e1:decide ((pre.length:Int)<(a.length:Int))=false:=by simp[h]
  rw[kG,e1];rfl
 |cons x xs ih=>
  intro pre h n hn;obtain⟨m,rfl⟩:∃m,n=m+1:=⟨n-1,by simp at hn;omega⟩
  have hl:a.length=pre.length+(xs.length+1):=by rw[h];simp
  have e1:decide ((pre.length:Int)<(a.length:Int))=true:=by rw[hl];simp;omega
  have e4:IntKind.i64.wrap ((pre.length:Int)+1)=((pre++[x]).length:Int):=by rw[Fi (by omega)];simp
  have t:=ih (pre++[x]) (by simp[h]) m (by simp at hn;omega);rw[kG,e1,aF,xj h,aA,a7j,ML,ML,aA,aA,e4,t,eD];show(bif !in1 x then(bif !in2 x then _ else _)else _)=bif (in1 x||in2 x)&&xs.all ab then k else some false
  cases in1 x<;>cases in2 x<;>simp
theorem OV(a:Bytes)(ha:a.length<=1048576):gT a=some (fV a):=by
 unfold gT;refine(a9K a _ ha a [] rfl fuel (by unfold fuel;omega)).trans ?_;rw[ML,aA];show _=some (a.all ab&&ZK a);cases a.all ab<;>rfl
theorem a8f(a:Bytes)(k:Option Bool)(ha:a.length<=1048576):∀(rest pre:Bytes),a=pre++rest->∀n,rest.length<n->hY a k n (pre.length:Int)=bif rest.all ab then k else some false:=by
 intro rest
 induction rest with
 |nil=>
  intro pre h n hn;obtain⟨m,rfl⟩:∃m,n=m+1:=⟨n-1,by simp at hn;omega⟩
  have e1:decide ((pre.length:Int)<(a.length:Int))=false:=by simp[h]
  rw[hY,e1];rfl
 |cons x xs ih=>
  intro pre h n hn;obtain⟨m,rfl⟩:∃m,n=m+1:=⟨n-1,by simp at hn;omega⟩
  have hl:a.length=pre.length+(xs.length+1):=by rw[h];simp
  have e1:decide ((pre.length:Int)<(a.length:Int))=true:=by rw[hl];simp;omega
  have e4:IntKind.i64.wrap ((pre.length:Int)+1)=((pre++[x]).length:Int):=by rw[Fi (by omega)];simp
  have t:=ih (pre++[x]) (by simp[h]) m (by simp at hn;omega);rw[hY,e1,aF,xj h,aA,e4,t,eD];have c1:decide ((x.toNat:Int)>=97)= !decide ((x.toNat:Int)<97):=by rw[cK];simp
  have c2:decide ((x.toNat:Int)<=122)= !decide ((x.toNat:Int)>122):=by rw[cK];simp
  have c3:decide ((x.toNat:Int)>=48)= !decide ((x.toNat:Int)<48):=by rw[cK];simp
  have c4:decide ((x.toNat:Int)<=57)= !decide ((x.toNat:Int)>57):=by rw[cK];simp
  rw[ab,in1,in2,c1,c2,c3,c4];cases decide ((x.toNat:Int)<97)<;>cases decide ((x.toNat:Int)>122)<;>cases decide ((x.toNat:Int)<48)<;>cases decide ((x.toNat:Int)>57)<;>simp
theorem OG(a:Bytes)(ha:a.length<=1048576):gQ a=some (fV a):=by
 unfold gQ;rw[show hY a (some true) fuel 0=_ from a8f a _ ha a [] rfl fuel (by unfold fuel;omega)];have c1:decide ((a.length:Int)>=1)= !decide ((a.length:Int)<1):=by rw[cK];simp
 have c2:decide ((a.length:Int)<=8)= !decide ((a.length:Int)>8):=by rw[cK];simp
 rw[fV,ZK,c1,c2];cases decide ((a.length:Int)<1)<;>cases decide ((a.length:Int)>8)<;>cases a.all ab<;>rfl
theorem a2w(a:Bytes)(ha:a.length<=1048576):tR a=some (zG a):=by
 unfold tR;rw[OV a ha,aA,zG];cases h:fV a with
 |false=>rfl
 |true=>
  cases a with
  |nil=>simp[fV,ZK]at h
  |cons x xs=>
   rw[show fy (x::xs) 0=some x from rfl];simp only[aF,aA,a7j,ML,fL,bC,a6V];simp only[fV,eD,ab,in1,in2,aS,qS,bH]at h;rw[cK];simp only[aS,bH];omega
theorem a1b(a:Bytes)(ha:a.length<=1048576):tP a=some (zG a):=by
 unfold tP;rw[OG a ha,aA,zG];cases h:fV a with
 |false=>rfl
 |true=>
  cases a with
  |nil=>simp[fV,ZK]at h
  |cons x xs=>rfl
theorem Tf(a:Bytes)(ha:a.length<=1048576):ij a=some (fo a):=by
 unfold ij;cases a with
 |nil=>rfl
 |cons x t=>
  simp only[aQ]at ha;rw[show fy (x::t) 0=some x from rfl,aA,YE (by simp),aA];have e:(((x::t).take ((x::t).length)).drop 1)=t:=by simp
  simp only[e,OV t (by omega),aA,fo,lR];cases t with
  |nil=>cases decide ((x.toNat:Int)=63)<;>rfl
  |cons y t=>
   have e2:decide ((((x::y::t).length:Int):Int)>1)=true:=by simp;omega
   rw[e2];cases decide ((x.toNat:Int)=63)<;>simp
theorem ZF(a:Bytes)(ha:a.length<=1048576):nN a=some (fo a):=by
 unfold nN;cases a with
 |nil=>rfl
 |cons x t=>
  simp only[aQ]at ha;rw[show fy (x::t) 0=some x from rfl,aA,YE (by simp),aA];have e:(((x::t).take ((x::t).length)).drop 1)=t:=by simp
  simp only[e,OG t (by omega),aA,fo,lR];cases t with
  |nil=>cases decide ((x.toNat:Int)=63)<;>rfl
  |cons y t=>
   have e2:decide ((((x::y::t).length:Int):Int)>1)=true:=by simp;omega
   rw[e2];cases decide ((x.toNat:Int)=63)<;>simp
theorem a3A(a:Bytes)(ha:a.length<=1048576):jw a=some (nB a):=by
 unfold jw nB;rw[OV a ha,Tf a ha];cases fV a<;>simp
theorem a1h(a:Bytes)(ha:a.length<=1048576):ju a=some (nB a):=by
 unfold ju nB;rw[OG a ha,ZF a ha];cases fV a<;>simp
theorem a3C(l:aI)(h:l.length<=1099511627776):uS l=some l:=by
 unfold uS;rw[VG h (by decide)];rfl
theorem TD(l:aI)(h:l.length<=1099511627776):oZ l=some l:=by
 unfold oZ;rw[VG h (by decide)];rfl
theorem a39(a b:aI):oo a b=some (decide (a=b)):=by
 unfold oo;exact eqL (c:=tx) (f:=fun x y=>some (x==y)) (fun k=>lJ a b k) (fun _ _=>rfl) (fun _ _ _ _=>rfl) (fun x y=>by rw[bC,cK];simp)
theorem a1f(a b:aI):rN a b=some (decide (a=b)):=by
 unfold rN;exact eqL (c:=tx) (f:=fun x y=>some (x==y)) (fun k=>o6 a b k) (fun _ _=>rfl) (fun _ _ _ _=>rfl) (fun x y=>by rw[bC,cK];simp)
theorem a8p(a b:bM):vH a b=some (decide (a=b)):=by
 unfold vH;exact eqL (c:=jM) (f:=fun x y=>some (x==y)) (fun k=>oa a b k) (fun _ _=>rfl) (fun _ _ _ _=>rfl) (fun x y=>by rw[bC,cK];simp)
theorem Zk(l:aI)(v:Bytes):iE l v=some (l.contains v):=by
 unfold iE;have:∀(r:aI) (i:Nat),kp l v (some false) r i=some (r.contains v):=by
  intro r
  induction r with
  |nil=>intro i;rfl
  |cons x r ih=>
   intro i;rw[kp,ih,List.contains_cons];have:(x==v)=(v==x):=by rw[cK,cr,cr];exact eq_comm
   rw[this];cases v==x<;>rfl
 exact this l 0
theorem a52(l:aI)(v:Bytes):nS l v=some (l.contains v):=by
 unfold nS;have:∀(r:aI) (i:Nat),nT l v (some false) r i=some (r.contains v):=by
  intro r
  induction r with
  |nil=>intro i;rfl
  |cons x r ih=>
   intro i;rw[nT,ih,List.contains_cons];have:(x==v)=(v==x):=by rw[cK,cr,cr];exact eq_comm
   rw[this];cases v==x<;>rfl
 exact this l 0
theorem a7c(a:aI)(s:Bytes)(k:Bool->aI->Option aI):∀(l:aI) (i:Nat) (w:aI),w.length+l.length<1099511627776->
 fS a s k l i true w=k true (w++l):=by
 intro l
 induction l with
 |nil=>intro i w _;simp[fS]
 |cons x xs ih=>
  intro i w h;simp only[aQ]at h;rw[fS,bU,aL,gF (by omega) (by decide),aF,ih _ _ (by simp;omega)];simp
theorem aCu(a:aI)(s:Bytes)(k:Bool->aI->Option aI)(hk:∀w,w.length<1099511627776->k false w=some (w++[s]))(hk2:∀w,k true w=some w):∀(l:aI) (i:Nat) (w:aI),w.length+l.length+1<1099511627776->
 fS a s k l i false w=some (w++B4 l s):=by
 intro l
 induction l with
 |nil=>intro i w h;rw[fS,hk w (by omega)];rfl
 |cons x xs ih=>
  intro i w h;simp only[aQ]at h;rw[fS,bt,aF,B4];cases Op.bytesLess x s with
  |true=>
   simp only[bU,aL,aF];rw[gF (by omega) (by decide),aF,ih _ _ (by simp;omega)];simp
  |false=>
   simp only[bt,aF,aL];cases x==s with
   |true=>
    simp only[bU,aL,aF];rw[gF (by omega) (by decide),aF,a7c _ _ _ _ _ _ (by simp;omega),hk2];simp
   |false=>
    simp only[bt,aF,aL];rw[gF (by omega) (by decide),aF];have e:room (((w.map tx)++[[D.str s]]).length+([[D.str x]]).length) 16=true:=Ff (by simp;omega) (by decide);rw[e,aF,a7c _ _ _ _ _ _ (by simp;omega),hk2];simp
theorem Wt(l:aI)(s:Bytes)(h:l.length+1<1099511627776):nY l s=some (B4 l s):=by
 unfold nY;rw[aCu l s _ (fun w hw=>by simp only[bt,aF];rw[gF hw (by decide)];rfl) (fun w=>by simp) l 0 [] (by simpa using h)];rfl
def dd:Option Bytes->aI->aI
 |_,[]=>[]
 |p,x::xs=>if p=some x then dd (some x) xs else x::dd (some x) xs
theorem Vs:∀ {l:aI} {p:Option Bytes} {y:Bytes},y∈dd p l->y∈l
 | [],p,y,h=>by cases h
 |x::xs,p,y,h=>by
  simp only[dd]at h;split at h
  ·exact bV.2 (.inr (Vs h))
  ·rcases bV.1 h with rfl|h
   ·simp
   ·exact bV.2 (.inr (Vs h))
theorem a25:∀ {l:aI} {p:Option Bytes} {y:Bytes},y∈l->p=some y\/y∈dd p l
 |x::xs,p,y,h=>by
  simp only[dd];rcases bV.1 h with rfl|h
  ·by_cases hp:p=some y
   ·exact .inl hp
   ·rw[bE hp];exact .inr (by simp)
  ·have:=a25 (p:=some x) h;split
   ·rename_i hp;rcases this with e|e
    ·exact .inl (hp.trans e)
    ·exact .inr e
   ·rcases this with e|e
    ·cases e;exact .inr (by simp)
    ·exact .inr (by simp[e])
theorem a6N:∀ {l:aI} {p:Option Bytes},l.Pairwise (fun a b=>Op.bytesLess b a=false)->(∀q,p=some q->∀y∈l,Op.bytesLess y q=false)->SS (dd p l)/\∀q,p=some q->∀y∈dd p l,Op.bytesLess q y=true
 | [],p,_,_=>⟨by simp[dd,SS],by simp[dd]⟩
 |x::xs,p,h,hp=>by
  obtain⟨p1,p2⟩:=lY.1 h;obtain⟨i1,i2⟩:=a6N (l:=xs) (p:=some x) p2 (fun q hq y hy=>by cases hq;exact p1 y hy);simp only[dd];split
  ·rename_i he;exact⟨i1,fun q hq y hy=>by rw[he]at hq;cases hq;exact i2 x rfl y hy⟩
  ·rename_i he;refine⟨lY.2 ⟨fun y hy=>i2 x rfl y hy,i1⟩,fun q hq y hy=>?_⟩;have hqx:Op.bytesLess q x=true:=by
    cases hc:Op.bytesLess q x with
    |true=>rfl
    |false=>exact absurd (by rw[hq,Gn hc (hp q hq x (by simp))]) he
   rcases bV.1 hy with rfl|hy
   ·exact hqx
   ·exact AH hqx (i2 x rfl y hy)
theorem a3F(l:aI):qQ l=l.mergeSort (fun x y=> !Op.bytesLess y x):=by
 unfold qQ
 congr 1
 funext x y
 rw[Go.Proofs.bytesLess_eq];rw[cK];simp[List.not_lt]
theorem Tj(l:aI):(qQ l).Pairwise (fun a b=>Op.bytesLess b a=false):=by
 rw[a3F];have:=List.pairwise_mergeSort (le:=fun x y=> !Op.bytesLess y x) (fun a b c h1 h2=>by
  simp only[kw]at h1 h2⊢;cases hc:Op.bytesLess c a with
  |false=>rfl
  |true=>
   cases hb:Op.bytesLess b a with
   |true=>rw[h1]at hb;cases hb
   |false=>
    cases Om:Op.bytesLess a b with
    |true=>have:=AH hc Om;rw[h2]at this;cases this
    |false=>have:=Gn hb Om;subst this;rw[h2]at hc;cases hc) (fun a b=>by
  cases hc:Op.bytesLess b a with
  |false=>simp
  |true=>simp[LM hc]) l
 exact this.imp (fun h=>by simpa using h)
theorem a4g(l:aI):dd none (qQ l)=fT l:=by
 refine Mz (a6N (Tj l) (by simp)).1 (Qo l) (fun x=>?_);rw[rR];have hm:x∈qQ l↔x∈l:=(Ca l).mem_iff;constructor
 ·intro h;exact hm.1 (Vs h)
 ·intro h;rcases a25 (p:=none) (hm.2 h)with h|h
  ·cases h
  ·exact h
theorem a1g(a:aI)(k:aI->Option aI)(ha:a.length<=1099511627775):∀(rest pre:aI) (w:aI),qQ ([]++a)=pre++rest->w.length+rest.length<=1099511627775->
 ei a k rest pre.length w=k (w++dd pre.getLast? rest):=by
 have hlen:(qQ ([]++a)).length=a.length:=(Ca _).length_eq;intro rest
 induction rest with
 |nil=>intro pre w _ _;simp[ei,dd]
 |cons x xs ih=>
  intro pre w h hw;simp only[aQ]at hw;have hl:pre.length+(xs.length+1)=a.length:=by rw[<-hlen,h];simp
  have t:=fun w'=>ih (pre++[x]) w' (by rw[h];simp)
  simp only[bB,aQ,cE,pQ]at t;rw[ei];rcases zP pre with rfl|⟨p,z,hpz⟩
  ·have e0:(((([]:aI).length:Int):Int)==0)=true:=rfl;rw[e0,aF,gF (by omega) (by decide),aF,t _ (by simp;omega)];simp[dd]
  ·rw[zO]at hpz;subst hpz;have e0:((((p++[z]).length:Int):Int)==0)=false:=by simp;omega
   have e1:IntKind.i64.wrap (((p++[z]).length:Int)-1)=(p.length:Int):=by
    rw[eC (qu.i64.2 (by simp at hl⊢;omega))];simp
   have e2:fy (qQ ([]++a)) (p.length:Int)=some z:=xj (xs:=x::xs) (by rw[h];simp);rw[e0,aL,e1,e2,aA];simp only[dd,pQ];by_cases hz:z=x
   ·subst hz;have e3:((z:Bytes)==z)=true:=by simp
    rw[e3,bU,aL,t _ (by omega),bP rfl]
   ·have e3:((z:Bytes)==x)=false:=by simpa using hz
    rw[e3,bt,aF,gF (by omega) (by decide),aF,t _ (by simp;omega),bE (by simpa using hz)];simp
theorem TC(l:aI)(h:l.length<1099511627775):lq l=some (fT l):=by
 have hlen:(qQ ([]++l)).length=l.length:=(Ca _).length_eq;unfold lq;have e1:decide ((([]:aI)++l).length<4611686018427387904)=true:=by simp;omega
 rw[VG (by omega) (by decide),aF,e1,aF,sE (by rw[hlen];omega),aF];have:=a1g l (fun q=>some q) (by omega) (qQ ([]++l)) [] [] rfl (by rw[hlen];simp;omega);rw[show([]:aI).length=0 from rfl]at this;rw[this,<-a4g];simp
theorem aD.TV{p:aD}{n:Nat}(h:p.wt<=n):p.rel.length<=n:=by unfold aD.wt tw at h;omega
theorem aD.dZ{p:aD}{n:Nat}(h:p.wt<=n):p.args.length<=n:=by unfold aD.wt at h;have:=tJ tw p.args;omega
theorem aD.vc{p:aD}{n:Nat}(h:p.wt<=n){x:Bytes}(hx:x∈p.args):x.length<=n:=by unfold aD.wt at h;have:=qR (w:=tw) hx;have e:tw x=x.length:=rfl;omega
theorem aU.gV{c:aU}{n:Nat}(h:c.wt<=n):c.pat.wt<=n:=by simp only[aU.wt,aD.wt]at h⊢;omega
theorem aU.DC{c:aU}{n:Nat}(h:c.wt<=n):c.left.length<=n:=by simp only[aU.wt,tw]at h;omega
theorem aU.Ae{c:aU}{n:Nat}(h:c.wt<=n):c.right.length<=n:=by simp only[aU.wt,tw]at h;omega
theorem Action.gV{c:Action}{n:Nat}(h:c.wt<=n):c.pat.wt<=n:=by simp only[Action.wt,aD.wt]at h⊢;omega
theorem aO.Y9{r:aO}{n:Nat}(h:r.wt<=n):r.name.length<=n:=by simp only[aO.wt,tw]at h;omega
theorem aO.v8{r:aO}{n:Nat}(h:r.wt<=n):sC aU.wt r.conds<=n:=by simp only[aO.wt]at h;omega
theorem aO.LH{r:aO}{n:Nat}(h:r.wt<=n):sC Action.wt r.dD<=n:=by simp only[aO.wt]at h;omega
theorem aO.tg{r:aO}{n:Nat}(h:r.wt<=n){c:aU}(hc:c∈r.conds):c.wt<=n:=by have:=aO.v8 h;have:=qR (w:=aU.wt) hc;omega
theorem aO.Sa{r:aO}{n:Nat}(h:r.wt<=n){c:Action}(hc:c∈r.dD):c.wt<=n:=by have:=aO.LH h;have:=qR (w:=Action.wt) hc;omega
theorem zv(f:aD)(h:f.args.length<=1099511627776):eE f=some f:=by
 unfold eE;rw[a3C _ h];rfl
theorem Nd(f:aD)(h:f.args.length<=1099511627776):er f=some f:=by
 unfold er;rw[TD _ h];rfl
theorem Wu(a b:aD):rF a b=some (decide (a=b)):=by
 obtain⟨a0,a1⟩:=a;obtain⟨b0,b1⟩:=b;unfold rF;simp only[a39,aA,lR];by_cases h0:a0=b0<;>by_cases h1:a1=b1<;>simp[h0,h1]
theorem a1e(a b:aD):qY a b=some (decide (a=b)):=by
 obtain⟨a0,a1⟩:=a;obtain⟨b0,b1⟩:=b;unfold qY;simp only[a1f,aA,lR];by_cases h0:a0=b0<;>by_cases h1:a1=b1<;>simp[h0,h1]
theorem Wv(a b:aD):ji a b=some (decide (a=b)):=by
 obtain⟨a0,a1⟩:=a;obtain⟨b0,b1⟩:=b;unfold ji;simp only[a39,aA,lR];by_cases h0:a0=b0<;>by_cases h1:a1=b1<;>simp[h0,h1]
theorem QC(a b:aD):gR a b=some (decide (a=b)):=by
 obtain⟨a0,a1⟩:=a;obtain⟨b0,b1⟩:=b;unfold gR;simp only[a1f,aA,lR];by_cases h0:a0=b0<;>by_cases h1:a1=b1<;>simp[h0,h1]
theorem PI(a b:aJ):mi a b=some (decide (a=b)):=by
 unfold mi;exact eqL (c:=aD.c) (f:=rF) (fun k=>o9 a b k) (fun _ _=>rfl) (fun _ _ _ _=>rfl) Wu
theorem MK(a b:aJ):j6 a b=some (decide (a=b)):=by
 unfold j6;exact eqL (c:=aD.c) (f:=qY) (fun k=>nv a b k) (fun _ _=>rfl) (fun _ _ _ _=>rfl) a1e
def w8(p:aD):Bool:=p.args.all nB&&(zG p.rel&&decide ((p.args.length:Int)<=3))
def pK(f:aD):Bool:=f.args.all fV&&(zG f.rel&&decide ((f.args.length:Int)<=3))
theorem a2s(f:aD)(h:f.wt<=1048576):rD f=some (pK f):=by
 unfold rD;rw[Yn (f:=gT) (L:=rO f _) (fun _=>rfl) (fun _ _ _=>rfl) f.args 0 (fun x hx=>OV x (aD.vc h hx)),a2w _ (aD.TV h),aA,aj,pK];cases f.args.all fV<;>cases zG f.rel<;>rfl
theorem a1a(f:aD)(h:f.wt<=1048576):rB f=some (pK f):=by
 unfold rB;rw[Yn (f:=gQ) (L:=rL f _) (fun _=>rfl) (fun _ _ _=>rfl) f.args 0 (fun x hx=>OG x (aD.vc h hx)),a1b _ (aD.TV h),aA,aj,pK];have c:decide ((f.args.length:Int)<=3)= !decide ((f.args.length:Int)>3):=by rw[cK];simp
 rw[c];cases f.args.all fV<;>cases zG f.rel<;>cases decide ((f.args.length:Int)>3)<;>rfl
theorem a9U(f:aD)(h:f.wt<=1048576):j8 f=some (w8 f):=by
 unfold j8;rw[Yn (f:=jw) (L:=o7 f _) (fun _=>rfl) (fun _ _ _=>rfl) f.args 0 (fun x hx=>a3A x (aD.vc h hx)),a2w _ (aD.TV h),aA,aj,w8];cases f.args.all nB<;>cases zG f.rel<;>rfl
theorem a8n(f:aD)(h:f.wt<=1048576):kB f=some (w8 f):=by
 unfold kB;rw[Yn (f:=ju) (L:=nu f _) (fun _=>rfl) (fun _ _ _=>rfl) f.args 0 (fun x hx=>a1h x (aD.vc h hx)),a1b _ (aD.TV h),aA,aj,w8];have c:decide ((f.args.length:Int)<=3)= !decide ((f.args.length:Int)>3):=by rw[cK];simp
 rw[c];cases f.args.all nB<;>cases zG f.rel<;>cases decide ((f.args.length:Int)>3)<;>rfl
def kP(l:aI):aI:=l.filter fo
theorem yY(l:aI):(kP l).length<=l.length:=lE _ _
theorem SH(a b:aI):kP (a++b)=kP a++kP b:=Br _ _
theorem Mj(p:aD)(h:p.wt<=1048576):pN p=some (fT (kP p.args)):=by
 unfold pN;have:∀(r:aI) (i:Nat) (w:aI),(∀x∈r,x.length<=1048576)->w.length+r.length<=2097152->mj p (fun q=>some q) r i w=some ((kP r).foldl B4 w):=by
  intro r
  induction r with
  |nil=>intro i w _ _;rfl
  |cons x r ih=>
   intro i w hr hw;simp only[aQ]at hw;have hl:=CS w x;rw[mj,Tf x (hr x (by simp)),aA,Wt w x (by omega),aA,ih _ _ (fun y hy=>hr y (by simp[hy])) (by omega),ih _ _ (fun y hy=>hr y (by simp[hy])) (by omega)];cases hv:fo x<;>simp[kP,hv]
 exact this p.args 0 [] (fun x hx=>aD.vc h hx) (by have:=aD.dZ h;simp;omega)
theorem a1j(l:aI)(hl:l.length<=2097152)(h:∀x∈l,x.length<=1048576):og l=some (kP l):=by
 unfold og;have:∀(r:aI) (i:Nat) (w:aI),(∀x∈r,x.length<=1048576)->w.length+r.length<=2097152->gm l (fun q=>some q) r i w=some (w++kP r):=by
  intro r
  induction r with
  |nil=>intro i w _ _;simp[gm,kP]
  |cons x r ih=>
   intro i w hr hw;simp only[aQ]at hw;rw[gm,ZF x (hr x (by simp)),aA,gF (by omega) (by decide),ih _ _ (fun y hy=>hr y (by simp[hy])) (by simp;omega),ih _ _ (fun y hy=>hr y (by simp[hy])) (by omega)];cases hv:fo x<;>simp[kP,hv]
 exact this l 0 [] h (by simpa using hl)
def sV(c:aU):aI:=kP (c.pat.args++[c.left,c.right])
theorem zh{c:aU}{n:Nat}(h:c.wt<=n):(sV c).length<=n+2:=by
 have h1:=yY (c.pat.args++[c.left,c.right]);have h2:=aD.dZ (aU.gV h);simp only[bB,aQ,cE]at h1;unfold sV;omega
theorem Wn(c:aU)(h:c.wt<=1048576):oC c=some (fT (sV c)):=by
 unfold oC;have h1:=aD.dZ (aU.gV h);have h2:=sQ (kP c.pat.args);have h3:=yY c.pat.args;have h4:=CS (fT (kP c.pat.args)) c.left;rw[Mj _ (aU.gV h),aA,Tf _ (aU.DC h),aA,Tf _ (aU.Ae h)];simp only[aA];rw[Wt _ _ (by omega),Wt _ _ (by omega),aA,Wt _ _ (by omega)];simp only[aA,sV,SH,X3];cases hl:fo c.left<;>cases hr:fo c.right<;>simp[kP,hl,hr]
theorem a1i(c:aU)(h:c.wt<=1048576):uM c=some (c.pat.args++[c.left,c.right]):=by
 unfold uM;have h1:=aD.dZ (aU.gV h);rw[TD _ (by omega),aA];rw[Ff (by simp;omega) (by decide)];rfl
theorem WO(c:aU)(h:c.wt<=1048576):qW c=some (fT (sV c)):=by
 unfold qW;have h1:=aD.dZ (aU.gV h);have h5:=zh h;rw[a1i c h,aA,a1j _ (by simp;omega) (fun x hx=>by
  simp only[aW,bV,List.not_mem_nil,or_false]at hx;rcases hx with hx|rfl|rfl
  ·exact aD.vc (aU.gV h) hx
  ·exact aU.DC h
  ·exact aU.Ae h),aA]
 rw[show kP (c.pat.args++[c.left,c.right])=sV c from rfl,TC _ (by omega)];rfl
def EZ(p:aD):Bool:=p.rel==[]&&decide ((p.args.length:Int)=0)
def pR(c:aU):Bool:=bif decide (c.kind=1)||decide (c.kind=2)then w8 c.pat&&(c.left==[]&&c.right==[])else bif decide (c.kind=3)||decide (c.kind=4)||decide (c.kind=5)then EZ c.pat&&(nB c.left&&nB c.right)else false
def Jr(c:aU):Bool:=pR c&&decide (c.kind>=3)
theorem Jw{c:aU}(h:pR c=true):1<=c.kind/\c.kind<=5:=by
 unfold pR at h;by_cases h1:c.kind=1
 ·omega
 by_cases h2:c.kind=2
 ·omega
 by_cases h3:c.kind=3
 ·omega
 by_cases h4:c.kind=4
 ·omega
 by_cases h5:c.kind=5
 ·omega
 simp[h1,h2,h3,h4,h5]at h
theorem a2j(c:aU)(h:c.wt<=1048576):rC c=some (pR c):=by
 unfold rC pR EZ;simp only[a9U _ (aU.gV h),a3A _ (aU.DC h),a3A _ (aU.Ae h),aA,aj,lR];by_cases h1:c.kind=1
 ·simp only[h1];cases w8 c.pat<;>cases decide (c.left=[])<;>simp
 by_cases h2:c.kind=2
 ·simp only[h2];cases w8 c.pat<;>cases decide (c.left=[])<;>simp
 by_cases h3:c.kind=3
 ·simp only[h3];cases decide (c.pat.rel=[])<;>cases decide ((c.pat.args.length:Int)=0)<;>cases nB c.left<;>simp
 by_cases h4:c.kind=4
 ·simp only[h4];cases decide (c.pat.rel=[])<;>cases decide ((c.pat.args.length:Int)=0)<;>cases nB c.left<;>simp
 by_cases h5:c.kind=5
 ·simp only[h5];cases decide (c.pat.rel=[])<;>cases decide ((c.pat.args.length:Int)=0)<;>cases nB c.left<;>simp
 simp[h1,h2,h3,h4,h5]
theorem a6j(p:aD):jb p=some (EZ p):=by
 unfold jb EZ;simp only[aj,lR];cases decide (p.rel=[])<;>rfl
theorem a1X(c:aU)(h:c.wt<=1048576):tO c=some (pR c):=by
 unfold tO pR;simp only[a8n _ (aU.gV h),a1h _ (aU.DC h),a1h _ (aU.Ae h),a6j,aA,lR];by_cases h1:c.kind=1
 ·simp only[h1];cases w8 c.pat<;>cases decide (c.left=[])<;>simp
 by_cases h2:c.kind=2
 ·simp only[h2];cases w8 c.pat<;>cases decide (c.left=[])<;>simp
 by_cases h3:c.kind=3
 ·simp only[h3];cases EZ c.pat<;>cases nB c.left<;>cases nB c.right<;>simp
 by_cases h4:c.kind=4
 ·simp only[h4];cases EZ c.pat<;>cases nB c.left<;>cases nB c.right<;>simp
 by_cases h5:c.kind=5
 ·simp only[h5];cases EZ c.pat<;>cases nB c.left<;>cases nB c.right<;>simp
 simp[h1,h2,h3,h4,h5]
theorem a3B(c:aU)(h:c.wt<=1048576):tS c=some (Jr c):=by
 unfold tS Jr;rw[a2j c h];cases pR c<;>rfl
theorem aBS(c:aU)(h:c.wt<=1048576):xU c=some (Jr c):=by
 unfold xU Jr;rw[a1X c h];cases pR c<;>rfl
theorem a38(a b:aU):qd a b=some (decide (a=b)):=by
 obtain⟨a0,a1,a2,a3⟩:=a;obtain⟨b0,b1,b2,b3⟩:=b;unfold qd;simp only[Wv,aA,lR];by_cases h0:a0=b0<;>by_cases h1:a1=b1<;>by_cases h2:a2=b2<;>by_cases h3:a3=b3<;>simp[h0,h1,h2,h3]
theorem TB(a b:aU):lS a b=some (decide (a=b)):=by
 obtain⟨a0,a1,a2,a3⟩:=a;obtain⟨b0,b1,b2,b3⟩:=b;unfold lS;simp only[QC,aA,lR];by_cases h0:a0=b0<;>by_cases h1:a1=b1<;>by_cases h2:a2=b2<;>by_cases h3:a3=b3<;>simp[h0,h1,h2,h3]
def PY(a:Action):Bool:=bif decide (a.kind=1)||decide (a.kind=2)then w8 a.pat else bif decide (a.kind=3)then EZ a.pat else false
theorem aG6(a:Action)(h:a.wt<=1048576):vK a=some (PY a):=by
 unfold vK PY EZ;simp only[a9U _ (Action.gV h),aA,aj,lR];by_cases h1:a.kind=1
 ·simp[h1]
 by_cases h2:a.kind=2
 ·simp[h2]
 by_cases h3:a.kind=3
 ·simp only[h3];cases decide (a.pat.rel=[])<;>simp
 simp[h1,h2,h3]
theorem aFk(a:Action)(h:a.wt<=1048576):vD a=some (PY a):=by
 unfold vD PY;simp only[a8n _ (Action.gV h),a6j,aA,lR];by_cases h1:a.kind=1
 ·simp[h1]
 by_cases h2:a.kind=2
 ·simp[h2]
 by_cases h3:a.kind=3
 ·simp[h3]
 simp[h1,h2,h3]
theorem a5R:∀(k v:Nat),v<10^k->1<=k->Lib.nDigits v<=k:=by
 intro k
 induction k with
 |zero=>intro v _ h;omega
 |succ k ih=>
  intro v hv _;by_cases h10:v<10
  ·rw[Lib.nDigits_small h10];omega
  ·rw[Lib.nDigits_big h10];have h3:v/10<10^k:=by rw[yf]at hv;omega
   have hk1:1<=k:=by
    cases k with
    |zero=>simp at hv;omega
    |succ k=>omega
   have:=ih (v/10) h3 hk1;omega
theorem WX{u:Nat}(h:u<=9223372036854775808):Lib.nDigits u<=19:=a5R 19 u (by omega) (by omega)
theorem aEX(u:Nat):UInt8.ofNat (IntKind.u8.wrap (IntKind.i64.wrap (48+((u:Int)%10)))).toNat=UInt8.ofNat (48+u%10):=by
 rw[eC (k:=.i64) (qu.i64.2 (by omega)),eC (qu.u8.2 (by omega))]
 congr 1
theorem a7V(k:Option Bytes):∀(n u:Nat) (acc:Bytes),Lib.nDigits u<=n->acc.length+Lib.nDigits u<=1000->jG k n (u:Int) acc=some (Lib.decDigits u++acc):=by
 intro n
 induction n with
 |zero=>intro u acc h _;have:=Lib.nDigits_pos u;omega
 |succ n ih=>
  intro u acc hn hl;have hp:=Lib.nDigits_pos u;have e0:(decide (0<=(u:Int))&&decide (0<(10:Int)))=true:=by simp
  have e1:decide (([UInt8.ofNat (48+u%10)]:Bytes).length+(acc:Bytes).length<=maxLen)=true:=by unfold maxLen;simp;omega
  rw[jG];simp only[aEX,e0,e1,aF];by_cases h10:u<10
  ·have e2:(((u:Int)/10:Int)==0)=true:=by rw[cr];omega
   rw[e2,aF,Lib.decDigits,dif_pos h10,Nat.mod_eq_of_lt h10]
  ·have e2:(((u:Int)/10:Int)==0)=false:=by rw[dA];omega
   have e3:((u:Int)/10)=((u/10:Nat):Int):=by omega
   have hd:=Lib.nDigits_big h10;rw[e2,aL,e3,ih (u/10) _ (by omega) (by simp;omega)]
   conv=>rhs;rw[Lib.decDigits,dif_neg h10]
   simp
theorem aCm(m u:Nat)(h:u<=9223372036854775807):ig (m+1) (u:Int)=some (Lib.decDigits u):=by
 rw[ig];have e1:((u:Int)==(-9223372036854775808))=false:=by rw[dA];omega
 have e2:decide ((u:Int)<0)=false:=by simp
 have:=WX (u:=u) (by omega);rw[e1,aL,e2,aL,a7V _ _ _ _ (by unfold fuel;omega) (by simp;omega)];simp
theorem a1l:Lib.itoa (-9223372036854775808)=[45,57,50,50,51,51,55,50,48,51,54,56,53,52,55,55,53,56,48,56]:=by
 unfold Lib.itoa;simp[Lib.decDigits]
theorem a5j(n:Int)(h:qu .i64 n):kF n=some (Lib.itoa n):=by
 have h:=qu.i64.1 h;unfold kF;rw[show fuel=4194303+1 from rfl,ig];by_cases hm:n= -9223372036854775808
 ·subst hm;rw[a1l];rfl
 have e1:((n:Int)==(-9223372036854775808))=false:=by rw[dA];exact hm
 rw[e1,aL];by_cases hn:n<0
 ·have e2:decide (n<0)=true:=by simpa using hn
  have e3:IntKind.i64.wrap (0-n)=((n.natAbs:Nat):Int):=by rw[eC (qu.i64.2 (by omega))];omega
  have hd:=WX (u:=n.natAbs) (by omega);rw[e2,aF,e3,show(4194303:Nat)=4194302+1 from rfl,aCm _ _ (by omega),aA];have e4:decide (([45]:Bytes).length+(Lib.decDigits n.natAbs:Bytes).length<=maxLen)=true:=by unfold maxLen;rw[Lib.decDigits_length];simp;omega
  rw[e4,aF];unfold Lib.itoa;rw[bP hn];rfl
 ·have e2:decide (n<0)=false:=by simpa using hn
  have e3:n=((n.toNat:Nat):Int):=by omega
  have:=WX (u:=n.toNat) (by omega);rw[e2,aL]
  conv=>lhs;rw[e3]
  rw[a7V _ _ _ _ (by unfold fuel;omega) (by simp;omega)];unfold Lib.itoa;rw[bE hn];simp
theorem a8l(n:Int):mP n=some (Lib.itoa n):=by
 unfold mP CO;rfl
theorem QF(n:Int)(h:qu .i64 n):(Lib.itoa n).length<=21:=by
 have:=qu.i64.1 h;exact Lib.itoa_length_le n this.1 this.2
def Dl(to:aP)(s:Bytes):Bytes:=match to with
 | []=>s
 |p::r=>bif p.var==s then p.value else Dl r s
def Qh(to:aP)(x:aU):aU:=⟨x.kind,⟨x.pat.rel,x.pat.args.map (Dl to)⟩,Dl to x.left,Dl to x.right⟩
theorem sRn(to:aP)(s:Bytes):mr s to=some (Dl to s):=by
 unfold mr;have:∀(r:aP) (i:Nat),kq s to (some s) r i=some (Dl r s):=by
  intro r
  induction r with
  |nil=>intro i;rfl
  |cons x r ih=>
   intro i;rw[kq,ih,Dl];cases x.var==s<;>rfl
 exact this to 0
theorem iRn(to:aP)(s:Bytes):jZ s to=some (Dl to s):=by
 unfold jZ;have:∀(r:aP) (i:Nat),jF s to (some s) r i=some (Dl r s):=by
  intro r
  induction r with
  |nil=>intro i;rfl
  |cons x r ih=>
   intro i;rw[jF,ih,Dl];cases x.var==s<;>rfl
 exact this to 0
theorem a9X(x:aU)(to:aP)(h:x.pat.args.length<=1099511627770):l8 x to=some (Qh to x):=by
 unfold l8;rw[sRn,aA,sRn,aA];rw[GW (c:=tx) (b:=16) (f:=fun a=>mr a to) (g:=Dl to) (L:=mh x to (Dl to x.left) (Dl to x.right) _) (k:=_) (by decide) (fun _ _=>rfl) (fun _ _ _ _=>rfl) _ _ _ (fun a _=>sRn to a) (by simp;omega)];rfl
theorem aBN(x:aU)(to:aP)(h:x.pat.args.length<=1099511627770):nO x to=some (Qh to x):=by
 unfold nO;rw[iRn,aA,iRn,aA];rw[GW (c:=tx) (b:=16) (f:=fun a=>jZ a to) (g:=Dl to) (L:=mT x to (Dl to x.left) (Dl to x.right) _) (k:=_) (by decide) (fun _ _=>rfl) (fun _ _ _ _=>rfl) _ _ _ (fun a _=>iRn to a) (by simp;omega)];rfl
def Hw(l:aP)(t:Bytes):Bool:=l.any fun p=>p.var==t
def kN(l:aP)(t:Bytes):aP:=bif fo t&& !Hw l t then l++[⟨t,[63]++Lib.itoa ((l.length:Int)+1)⟩]else l
theorem EN(l:aP)(t:Bytes):(kN l t).length<=l.length+1:=by
 unfold kN;cases fo t&& !Hw l t<;>simp
theorem Az:∀(ts:aI) (l:aP),(ts.foldl kN l).length<=l.length+ts.length
 | [],l=>by simp
 |t::ts,l=>by
  have h1:=Az ts (kN l t);have h2:=EN l t;rw[cy,aQ];omega
theorem Td(l:aP)(t:Bytes)(hl:l.length<=1099511627770)(ht:t.length<=1048576):rH l t=some (kN l t):=by
 unfold rH;rw[Tf t ht,aA,kN];cases hv:fo t with
 |false=>rfl
 |true=>
  rw[bU,aL,fL];have key:∀(k:Option aP) (r:aP) (i:Nat),pH l t k r i=bif Hw r t then some l else k:=by
   intro k r
   induction r with
   |nil=>intro i;rfl
   |cons x r ih=>
    intro i;rw[pH,ih];simp only[Hw,tL];cases x.var==t<;>simp
  rw[key];cases Hw l t with
  |true=>rfl
  |false=>
   have e1:IntKind.i64.wrap (((l.map aX.c).length:Int)+1)=(l.length:Int)+1:=by rw[eC (qu.i64.2 (by simp;omega))];simp
   have hr:qu .i64 ((l.length:Int)+1):=qu.i64.2 (by omega);have hi:=QF _ hr;have e2:decide (([63]:Bytes).length+(Lib.itoa ((l.length:Int)+1):Bytes).length<=maxLen)=true:=by unfold maxLen;simp;omega
   simp only[aL,bt,aF];rw[e1,a5j _ hr,aA,e2,aF,gF (by omega) (by decide)];rfl
theorem Uv(x y:Bytes):∀(m:List (Bytes×Bool)),MQ false y (QN x true m)=(y==x||MQ false y m)
 | []=>by simp only[QN,MQ];cases y==x<;>rfl
 |p::m=>by
  simp only[QN];cases h:x==p.1 with
  |true=>
   have h':x=p.1:=by simpa using h
   subst h';simp only[aF,MQ];cases y==p.1<;>simp
  |false=>
   simp only[aL,MQ,Uv x y m];cases hy:y==p.1 with
   |true=>
    have h1:y=p.1:=by simpa using hy
    have h2:(y==x)=false:=by
     rw[dA]at h⊢;intro e;exact h (e.symm.trans h1)
    simp[h2]
   |false=>simp
theorem Z5(l:aP)(x y v:Bytes):Hw (l++[⟨x,v⟩]) y=(y==x||Hw l y):=by
 have:(x==y)=(y==x):=by rw[cK,cr,cr];exact eq_comm
 simp only[Hw,List.any_append,tL,L8,A6,this];cases y==x<;>simp
theorem Xz(ts:aI)(hl:ts.length<=1099511627700)(h:∀x∈ts,x.length<=1048576):qL ts=some (ts.foldl kN []):=by
 unfold qL;have key:∀(r:aI) (i:Nat) (w:aP) (m:List (Bytes×Bool)),(∀x∈r,x.length<=1048576)->w.length+r.length<=1099511627700->(∀y,MQ false y m=Hw w y)->
  gK ts (fun q=>some q) r i w m=some (r.foldl kN w):=by
  intro r
  induction r with
  |nil=>intro i w m _ _ _;rfl
  |cons x r ih=>
   intro i w m hx hw hm;simp only[aQ]at hw;have hr:qu .i64 ((w.length:Int)+1):=qu.i64.2 (by omega);have hi:=QF _ hr;have e1:IntKind.i64.wrap (((w.map aX.c).length:Int)+1)=(w.length:Int)+1:=by rw[eC (qu.i64.2 (by simp;omega))];simp
   have e2:decide (([63]:Bytes).length+(Lib.itoa ((w.length:Int)+1):Bytes).length<=maxLen)=true:=by unfold maxLen;simp;omega
   rw[gK,ZF x (hx x (by simp)),aA,cy,kN,hm x];cases hv:fo x with
   |false=>simp only[aL,Bool.false_and];exact ih _ _ _ (fun y hy=>hx y (by simp[hy])) (by omega) hm
   |true=>
    cases hh:Hw w x with
    |true=>simp only[aF,bU,aL,fL];exact ih _ _ _ (fun y hy=>hx y (by simp[hy])) (by omega) hm
    |false=>
     simp only[aF,bt,fL];rw[e1,a8l,aA,e2,aF,gF (by omega) (by decide),aF];exact ih _ _ _ (fun y hy=>hx y (by simp[hy])) (by simp;omega) (fun y=>by rw[Uv,Z5,hm])
 exact key ts 0 [] [] h (by simpa using hl) (fun y=>rfl)
def vm(p:aD):aD:=(Qh (p.args.foldl kN []) ⟨0,p,[],[]⟩).pat
theorem a9c(p:aD)(h:p.wt<=1048576):uR p=some (vm p):=by
 have hl:=aD.dZ h;unfold uR;have key:∀(k:aP->Option aD) (r:aI) (i:Nat) (w:aP),(∀x∈r,x.length<=1048576)->w.length+r.length<=1099511627700->nV p k r i w=k (r.foldl kN w):=by
  intro k r
  induction r with
  |nil=>intro i w _ _;rfl
  |cons x r ih=>
   intro i w hx hw;simp only[aQ]at hw;have:=EN w x;rw[nV,Td w x (by omega) (hx x (by simp)),aA,ih _ _ (fun y hy=>hx y (by simp[hy])) (by omega)];rfl
 rw[key _ _ _ _ (fun x hx=>aD.vc h hx) (by simp;omega),a9X _ _ (by simp;omega)];rfl
theorem a8s(p:aD)(h:p.wt<=1048576):uC p=some (vm p):=by
 have hl:=aD.dZ h;unfold uC;rw[Xz _ (by omega) (fun x hx=>aD.vc h hx),aA,aBN _ _ (by simp;omega)];rfl
def yH(l:ay):aI:=l.flatMap fun c=>c.pat.args++[c.left,c.right]
theorem Wy(l:ay):(yH l).length<=3*sC aU.wt l:=by
 unfold yH
 induction l with
 |nil=>simp
 |cons x l ih=>
  rw[cw,bB,py];have:=aD.dZ (aU.gV (c:=x) (br _));simp only[bB,aQ,cE];omega
def iI(r:aO):aP:=(yH r.conds).foldl kN []
def gE(r:aO):ay:=r.conds.map (Qh (iI r))
theorem a2y(a:aO)(i:Nat)(c:aU)(k:aP->Option aP):∀(r:aI) (j:Nat) (w:aP),(∀x∈r,x.length<=1048576)->w.length+r.length<=1099511627700->jg a i c k r j w=k (r.foldl kN w):=by
 intro r
 induction r with
 |nil=>intro i w _ _;rfl
 |cons x r ih=>
  intro i w hx hw;simp only[aQ]at hw;have:=EN w x;rw[jg,Td w x (by omega) (hx x (by simp)),aA,ih _ _ (fun y hy=>hx y (by simp[hy])) (by omega)];rfl
theorem a2x(r:aO)(h:r.wt<=1048576):qP r=some (iI r):=by
 unfold qP;have key:∀(l:ay) (i:Nat) (w:aP),(∀c∈l,c.wt<=1048576)->w.length+3*sC aU.wt l<=1099511627700->jf r (fun q=>some q) l i w=some ((yH l).foldl kN w):=by
  intro l
  induction l with
  |nil=>intro i w _ _;rfl
  |cons c l ih=>
   intro i w hc hw;rw[py]at hw;have Ub:=hc c (by simp);have ha:=aD.dZ (aU.gV (c:=c) (br _));have h1:=Az c.pat.args w;have h2:=EN (c.pat.args.foldl kN w) c.left;have h3:=EN (kN (c.pat.args.foldl kN w) c.left) c.right;rw[jf,sE (by omega),aF,a2y _ _ _ _ _ _ _ (fun x hx=>aD.vc (aU.gV Ub) hx) (by omega),Td _ _ (by omega) (aU.DC Ub),aA,Td _ _ (by omega) (aU.Ae Ub),aA,
    ih _ _ (fun y hy=>hc y (by simp[hy])) (by omega)]
   simp[yH]
 have:=aO.v8 h;exact key r.conds 0 [] (fun c hc=>aO.tg h hc) (by simp;omega)
theorem a1c(r:aO)(h:r.wt<=1048576):qH r=some (iI r):=by
 unfold qH;have hw:=aO.v8 h;have key:∀(k:aI->Option aP) (l:ay) (i:Nat) (w:aI),(∀c∈l,c.wt<=1048576)->w.length+3*sC aU.wt l<=1099511627700->iP r k l i w=k (w++yH l):=by
  intro k l
  induction l with
  |nil=>intro i w _ _;simp[iP,yH]
  |cons c l ih=>
   intro i w hc hw;rw[py]at hw;have Ub:=hc c (by simp);have ha:=aD.dZ (aU.gV (c:=c) (br _));rw[iP,a1i c Ub,aA,a2e (by simp;omega) (by decide),aF,ih _ _ (fun y hy=>hc y (by simp[hy])) (by simp;omega)];simp[yH]
 have hl:=Wy r.conds;rw[key _ _ _ _ (fun c hc=>aO.tg h hc) (by simp;omega),eM,Xz _ (by omega) ?_]
 ·rfl
 ·intro x hx;unfold yH at hx;obtain⟨c,hc,hx⟩:=cB.1 hx;have Ub:=aO.tg h hc;rcases aW.1 hx with hx|hx
  ·exact aD.vc (aU.gV Ub) hx
  ·simp only[bV,List.not_mem_nil,or_false]at hx;rcases hx with rfl|rfl
   ·exact aU.DC Ub
   ·exact aU.Ae Ub
theorem a9M(r:aO)(h:r.wt<=1048576):sr r=some (gE r):=by
 unfold sr;have hw:=aO.v8 h;have hl:=tJ aU.wt r.conds;rw[a2x r h,aA];rw[GW (c:=aU.c) (b:=80) (f:=fun a=>l8 a (iI r)) (g:=Qh (iI r)) (L:=me r (iI r) _) (k:=_) (by decide) (fun _ _=>rfl) (fun _ _ _ _=>rfl) _ _ _ (fun c hc=>a9X c _ (by have:=aD.dZ (aU.gV (aO.tg h hc));omega)) (by simp;omega)];simp[gE]
theorem a8h(r:aO)(h:r.wt<=1048576):sY r=some (gE r):=by
 unfold sY;have hw:=aO.v8 h;have hl:=tJ aU.wt r.conds;rw[a1c r h,aA];rw[GW (c:=aU.c) (b:=80) (f:=fun a=>nO a (iI r)) (g:=Qh (iI r)) (L:=mS r (iI r) _) (k:=_) (by decide) (fun _ _=>rfl) (fun _ _ _ _=>rfl) _ _ _ (fun c hc=>aBN c _ (by have:=aD.dZ (aU.gV (aO.tg h hc));omega)) (by simp;omega)];simp[gE]
def NOk(n:aH):Prop:=n.nodes.length<=1048576/\∀x∈n.nodes,x.cond.wt<=1048576
theorem a5Z(s:Bytes):Dl [] s=s:=rfl
theorem a2W(x:aU):Qh [] x=x:=by
 have:x.pat.args.map (Dl [])=x.pat.args:=by
  rw[show(Dl [])=id from funext a5Z];simp
 unfold Qh;rw[this];rfl
def dS(i:Nat):Int:=(i:Int)
def RU(ns:bN):Nat->Nat->ah
 |0,_=>[]
 |k+1,v=>v::(match ns[v]? with
  |some x=>if 1<=x.parent/\x.parent<(v:Int)then RU ns k x.parent.toNat else []
  |none=>[])
def DN(ns:bN)(i:Nat):Option aU:=(ns[i]?).map Node.cond
def Jl(ns:bN)(k v:Nat):ay:=(RU ns k v).reverse.filterMap (DN ns)
def eb(ns:bN)(v:Int):ay:=if 1<=v/\v<(ns.length:Int)then Jl ns v.toNat v.toNat else []
theorem VT{ns:bN}{k v:Nat}{x:Node}(hx:ns[v]?=some x):RU ns (k+1) v=v::(if 1<=x.parent/\x.parent<(v:Int)then RU ns k x.parent.toNat else []):=by simp only[RU,hx]
theorem a3X(ns:bN):∀(k v:Nat),v<ns.length->∀i∈RU ns k v,i<ns.length
 |0,v,_,i,hi=>by cases hi
 |k+1,v,hv,i,hi=>by
  rw[RU]at hi;rcases bV.1 hi with rfl|hi
  ·exact hv
  ·split at hi
   ·split at hi
    ·rename_i x hx hp;exact a3X ns k _ (by omega) i hi
    ·cases hi
   ·cases hi
theorem YY(ns:bN):∀(k v:Nat),(RU ns k v).length<=k
 |0,v=>by simp[RU]
 |k+1,v=>by
  rw[RU,aQ];split
  ·split
   ·have:=YY ns k (by assumption:Node).parent.toNat;omega
   ·simp
  ·simp
theorem Qd{ns:bN}{k v:Nat}{x:Node}(hx:ns[v]?=some x):Jl ns (k+1) v=(if 1<=x.parent/\x.parent<(v:Int)then Jl ns k x.parent.toNat else [])++[x.cond]:=by
 have hc:DN ns v=some x.cond:=by unfold DN;rw[hx];rfl
 unfold Jl;rw[VT hx];by_cases hp:1<=x.parent/\x.parent<(v:Int)
 ·rw[bP hp,bP hp];simp[hc]
 ·rw[bE hp,bE hp];simp[hc]
theorem TZ(x:aU)(h:x.pat.args.length<=1099511627770):lN x=some x:=by
 unfold lN;rw[a9X x [] h,aA,a2W]
theorem T6(x:aU)(h:x.pat.args.length<=1099511627770):gG x=some x:=by
 unfold gG ew;rw[TD x.pat.args (by omega)];rfl
theorem a9V(n:aH)(h:NOk n)(K:ay->Option ay):∀(k v fu:Nat) (w:ay),v<=k->1<=v->v<n.nodes.length->k<fu->w.length+k<=4194304->kI n K fu (v:Int) w=K (Jl n.nodes k v++w):=by
 have hl:=h.1;intro k
 induction k with
 |zero=>intro v fu w h1 h2;omega
 |succ k ih=>
  intro v fu w h1 h2 h3 h4 h5;obtain⟨fu,rfl⟩:∃m,fu=m+1:=⟨fu-1,by omega⟩
  have hx:n.nodes[v]?=some n.nodes[v]:=av h3;have hw:=h.2 _ (j5 h3);generalize hxe:n.nodes[v]=x at*;have e1:IntKind.i64.wrap (((n.nodes.map Node.c).length:Int)-1)=(n.nodes.length:Int)-1:=by rw[aj];exact eC (qu.i64.2 (by omega))
  have e2:(decide ((v:Int)>=1)&&decide ((v:Int)<=(n.nodes.length:Int)-1))=true:=by simp;omega
  have e3:fy n.nodes (v:Int)=some x:=by unfold fy;rw[au (by omega),aF];exact hx
  have e4:=TZ x.cond (by have:=aD.dZ (aU.gV hw);omega);rw[kI,e1,ML,aA,e2,aF,e3,aA,e4,aA,Ff (by simp;omega) (by decide),aF,Qd hx];by_cases h6:x.parent>=(v:Int)
  ·rw[au h6,aF,bE (by omega)];rfl
  ·rw[ax h6,aL];by_cases h7:1<=x.parent
   ·rw[bP ⟨h7,by omega⟩];obtain⟨m,hm⟩:=qB (by omega:0<=x.parent);rw[hm];rw[ih m fu ([x.cond]++w) (by omega) (by omega) (by omega) (by omega) (by simp;omega)];simp
   ·rw[bE (by omega)];obtain⟨fu,rfl⟩:∃m,fu=m+1:=⟨fu-1,by omega⟩
    have e5:(decide (x.parent>=1)&&decide (x.parent<=(n.nodes.length:Int)-1))=false:=by
     rw[ax (by omega)];rfl
    rw[kI,e1,ML,aA,e5,aL];rfl
theorem a30(n:aH)(v:Int)(h:NOk n):vT n v=some (eb n.nodes v):=by
 have hl:=h.1;unfold vT eb;by_cases hv:1<=v/\v<(n.nodes.length:Int)
 ·rw[bP hv];obtain⟨m,rfl⟩:=qB (by omega:0<=v);rw[a9V n h _ m m fuel [] (br _) (by omega) (by omega) (by unfold fuel;omega) (by simp;omega)];simp
 ·rw[bE hv];have e1:IntKind.i64.wrap (((n.nodes.map Node.c).length:Int)-1)=(n.nodes.length:Int)-1:=by rw[aj];exact eC (qu.i64.2 (by omega))
  have e2:(decide (v>=1)&&decide (v<=(n.nodes.length:Int)-1))=false:=by
   by_cases h1:1<=v
   ·have h2:¬v<=(n.nodes.length:Int)-1:=by omega
    rw[ax h2,w9]
   ·rw[ax h1];rfl
  rw[show fuel=4194303+1 from rfl,kI,e1,ML,aA,e2,aL]
theorem a54(n:aH)(h:NOk n)(K:bM->Option ay):∀(k v fu:Nat) (w:bM),v<=k->1<=v->v<n.nodes.length->k<fu->w.length+k<=4194304->oY n K fu (v:Int) w=K (w++(RU n.nodes k v).map dS):=by
 have hl:=h.1;intro k
 induction k with
 |zero=>intro v fu w h1 h2;omega
 |succ k ih=>
  intro v fu w h1 h2 h3 h4 h5;obtain⟨fu,rfl⟩:∃m,fu=m+1:=⟨fu-1,by omega⟩
  have hx:n.nodes[v]?=some n.nodes[v]:=av h3;generalize hxe:n.nodes[v]=x at*;have e3:fy n.nodes (v:Int)=some x:=by unfold fy;rw[au (by omega),aF];exact hx
  rw[oY,gF (by omega) (by decide),aF,e3,aA,VT hx];by_cases h7:x.parent<1
  ·rw[au h7,aF,bE (by omega)];rfl
  ·rw[ax h7,aL];by_cases h6:x.parent>=(v:Int)
   ·rw[au h6,aF,bE (by omega)];rfl
   ·rw[ax h6,aL,bP ⟨by omega,by omega⟩];obtain⟨m,hm⟩:=qB (by omega:0<=x.parent);rw[hm,ih m fu (w++[(v:Int)]) (by omega) (by omega) (by omega) (by omega) (by simp;omega)];simp[dS]
theorem a55(n:aH)(h:NOk n)(us:ah)(wo:∀i∈us,i<n.nodes.length)(hul:us.length<=1048576)(K:ay->Option ay):∀(j fu:Nat) (w:ay),j<=us.length->j<fu->w.length+j<=4194304->mR n (us.map dS) K fu ((j:Int)-1) w=K (w++((us.take j).reverse.filterMap (DN n.nodes))):=by
 intro j
 induction j with
 |zero=>
  intro fu w _ hf _;obtain⟨fu,rfl⟩:∃m,fu=m+1:=⟨fu-1,by omega⟩
  rw[mR,ax (by omega),aL];simp
 |succ j ih=>
  intro fu w hj hf hw;obtain⟨fu,rfl⟩:∃m,fu=m+1:=⟨fu-1,by omega⟩
  have hlt:j<us.length:=by omega
  have h3:=wo us[j] (j5 hlt);have hx:n.nodes[us[j]]?=some n.nodes[us[j]]:=av h3;have hww:=h.2 _ (j5 h3);generalize hxe:n.nodes[us[j]]=x at*;have e0:((j+1:Nat):Int)-1=(j:Int):=by omega
  have e1:fy (us.map dS) (j:Int)=some ((us[j]:Nat):Int):=by
   unfold fy;rw[au (by omega),aF];show(us.map dS)[(j:Int).toNat]?=_;rw[kx,cR,av hlt];rfl
  have e3:fy n.nodes ((us[j]:Nat):Int)=some x:=by unfold fy;rw[au (by omega),aF];exact hx
  have e4:=T6 x.cond (by have:=aD.dZ (aU.gV hww);omega);have e5:IntKind.i64.wrap ((j:Int)-1)=(j:Int)-1:=eC (qu.i64.2 (by omega));rw[e0,mR,au (by omega),aF,e1,aA,e3,aA,e4,aA,gF (by omega) (by decide),aF,e5,ih fu _ (by omega) (by omega) (by simp;omega)];have hc:DN n.nodes us[j]=some x.cond:=by unfold DN;rw[hx];rfl
  have ht:us.take (j+1)=us.take j++[us[j]]:=by rw[List.take_add_one,av hlt];rfl
  rw[ht,List.reverse_append,List.filterMap_append];simp[hc]
theorem a8o(n:aH)(v:Int)(h:NOk n):xV n v=some (eb n.nodes v):=by
 have hl:=h.1;unfold xV eb;rw[aj];by_cases h1:v<1
 ·rw[au h1,aF,bE (by omega)]
 ·rw[ax h1,aL];by_cases h2:v>=(n.nodes.length:Int)
  ·rw[au h2,aF,bE (by omega)]
  ·rw[ax h2,aL,bP ⟨by omega,by omega⟩];obtain⟨m,rfl⟩:=qB (by omega:0<=v);rw[a54 n h _ m m fuel [] (br _) (by omega) (by omega) (by unfold fuel;omega) (by simp;omega)];have hul:=YY n.nodes m m;have e5:IntKind.i64.wrap ((((([]:bM)++(RU n.nodes m m).map dS).map jM).length:Int)-1)=(((RU n.nodes m m).length:Nat):Int)-1:=by
    rw[eM,aj,aj];exact eC (qu.i64.2 (by omega))
   rw[e5,eM,a55 n h (RU n.nodes m m) (a3X n.nodes m m (by omega)) (by omega) _ (RU n.nodes m m).length fuel [] (br _) (by unfold fuel;omega) (by simp;omega),zg];rfl
def nmB(k:Nat):Bytes:=[63]++Lib.itoa ((k:Int)+1)
theorem decDigits_one{u:Nat}(h:u<10):Lib.decDigits u=[UInt8.ofNat (48+u)]:=by
 rw[Lib.decDigits,dif_pos h]
theorem PG:∀i,i<6->nmB i=[63,UInt8.ofNat (49+i)]
 |0,_|1,_|2,_|3,_|4,_|5,_=>by
  unfold nmB Lib.itoa;rw[bE (by decide),decDigits_one (by decide)];decide
 |n+6,h=>by omega
theorem YA:∀i,i<6->∀j,j<6->nmB i=nmB j->i=j:=by
 intro i hi j hj e;rw[PG i hi,PG j hj]at e
 revert i j
 decide
theorem MW:∀i,i<6->fo (nmB i)=true:=by
 intro i hi;rw[PG i hi]
 revert i
 decide
def Vh(N:aP):Prop:=∀(i:Nat) p,N[i]?=some p->p.value=nmB i/\fo p.var=true
theorem Ua(N:aP)(t:Bytes):Hw N t=true↔∃p∈N,p.var=t:=by simp[Hw]
theorem ZR(N:aP)(t:Bytes){p:aX}(h:p∈N):p∈kN N t:=by
 unfold kN;cases fo t&& !Hw N t<;>simp[h]
theorem UY:∀(ts:aI) (N:aP) {p:aX},p∈N->p∈ts.foldl kN N
 | [],_,_,h=>h
 |t::ts,N,p,h=>UY ts (kN N t) (ZR N t h)
theorem a3c{N:aP}(h:Vh N)(t:Bytes):Vh (kN N t):=by
 unfold kN;cases hv:fo t&& !Hw N t with
 |false=>exact h
 |true=>
  simp only[aS]at hv;intro i p hp;rw[aF]at hp;rcases gj i N.length with hlt|hge
  ·rw[bJ hlt]at hp;exact h i p hp
  ·rw[bW hge]at hp;cases hi:i-N.length with
   |zero=>
    rw[hi]at hp;simp at hp;subst hp;have:i=N.length:=by omega
    subst this;exact⟨rfl,hv.1⟩
   |succ m=>rw[hi]at hp;simp at hp
theorem DI:∀(ts:aI) {N:aP},Vh N->Vh (ts.foldl kN N)
 | [],_,h=>h
 |t::ts,_,h=>DI ts (a3c h t)
def Tt(N:aP):Prop:=(N.map aX.var).Nodup
theorem ZT{N:aP}(h:Tt N)(t:Bytes):Tt (kN N t):=by
 unfold kN;cases hv:fo t&& !Hw N t with
 |false=>exact h
 |true=>
  simp only[aS,kw]at hv;rw[aF];unfold Tt;rw[bI,cC];refine⟨h,by simp,?_⟩;intro a ha b hb e;simp at hb;subst hb;subst e;obtain⟨p,hp,he⟩:=cJ.1 ha;have:=(Ua N a).2 ⟨p,hp,he⟩;rw[hv.2]at this;cases this
theorem Ac:∀(ts:aI) {N:aP},Tt N->Tt (ts.foldl kN N)
 | [],_,h=>h
 |t::ts,_,h=>Ac ts (ZT h t)
theorem MI:∀(ts:aI) (N:aP) {t:Bytes},t∈ts->fo t=true->∃p∈ts.foldl kN N,p.var=t
 |x::ts,N,t,h,hv=>by
  rcases bV.1 h with rfl|h
  ·have:∃p∈kN N t,p.var=t:=by
    unfold kN;cases hh:Hw N t with
    |true=>rw[hv];exact(Ua N t).1 hh
    |false=>rw[hv];exact⟨⟨t,[63]++Lib.itoa ((N.length:Int)+1)⟩,by simp,rfl⟩
   obtain⟨p,hp,he⟩:=this;exact⟨p,UY ts _ hp,he⟩
  ·exact MI ts _ h hv
theorem IQ:∀ {N:aP} {p:aX},Tt N->p∈N->Dl N p.var=p.value
 |q::N,p,hn,hp=>by
  unfold Tt at hn;rw[bA,gw]at hn;rcases bV.1 hp with rfl|hp
  ·simp[Dl]
  ·have hne:(q.var==p.var)=false:=by
    rw[dA];intro e;exact hn.1 (by rw[e];exact cJ.2 ⟨p,hp,rfl⟩)
   rw[Dl,hne,aL];exact IQ (show Tt N from hn.2) hp
theorem Nt:∀ {N:aP} {t:Bytes},(∀p∈N,p.var≠t)->Dl N t=t
 | [],t,_=>rfl
 |q::N,t,h=>by
  have hne:(q.var==t)=false:=by rw[dA];exact h q (by simp)
  rw[Dl,hne,aL];exact Nt fun p hp=>h p (by simp[hp])
theorem Vh.nil:Vh []:=fun i p h=>by simp at h
theorem Tt.nil:Tt []:=by simp[Tt]
theorem DB(ts:aI):(ts.foldl kN []).length<=ts.length:=by simpa using Az ts []
theorem Ky{N:aP}(h:Vh N){p:aX}(hp:p∈N):∃i,i<N.length/\N[i]?=some p/\p.value=nmB i/\fo p.var=true:=by
 obtain⟨i,hi⟩:=iN hp;exact⟨i,(aN.1 hi).1,hi,h i p hi⟩
theorem MX{ts:aI}{t:Bytes}(ht:fo t=false):Dl (ts.foldl kN []) t=t:=
 Nt fun p hp e=>by
  obtain⟨i,_,_,_,hv⟩:=Ky (DI ts Vh.nil) hp;rw[e,ht]at hv;cases hv
theorem Kw(p:aD):(vm p).args=p.args.map (Dl (p.args.foldl kN [])):=rfl
theorem YB:∀i,i<6->(nmB i).length<=16:=by
 intro i hi;rw[PG i hi];simp
theorem a9G{ts:aI}(hl:ts.length<=5){t:Bytes}(ht:t.length<=16):(Dl (ts.foldl kN []) t).length<=16:=by
 by_cases h:∃p∈ts.foldl kN [],p.var=t
 ·obtain⟨p,hp,he⟩:=h;rw[<-he,IQ (Ac ts Tt.nil) hp];obtain⟨i,hi,_,hpv,_⟩:=Ky (DI ts Vh.nil) hp;have:=DB ts;rw[hpv];exact YB i (by omega)
 ·rw[Nt (fun p hp e=>h ⟨p,hp,e⟩)];exact ht
def unB(N:aP)(x:Bytes):Bytes:=match N with
 | []=>x
 |p::r=>bif p.value==x then p.var else unB r x
theorem YX:∀ {N:aP} {p:aX},(N.map aX.value).Nodup->p∈N->unB N p.value=p.var
 |q::N,p,hn,hp=>by
  rw[bA,gw]at hn;rcases bV.1 hp with rfl|hp
  ·simp[unB]
  ·have hne:(q.value==p.value)=false:=by
    rw[dA];intro e;exact hn.1 (by rw[e];exact cJ.2 ⟨p,hp,rfl⟩)
   rw[unB,hne,aL];exact YX hn.2 hp
theorem O1:∀ {N:aP} {t:Bytes},(∀p∈N,p.value≠t)->unB N t=t
 | [],t,_=>rfl
 |q::N,t,h=>by
  have hne:(q.value==t)=false:=by rw[dA];exact h q (by simp)
  rw[unB,hne,aL];exact O1 fun p hp=>h p (by simp[hp])
theorem X4{N:aP}(h:Vh N)(hl:N.length<=5):(N.map aX.value).Nodup:=by
 unfold List.Nodup;rw[Cl];intro i j hi0 hj hij e;rw[aj]at hj;rw[List.getElem_map,List.getElem_map]at e;have h1:=(h i _ (av (by omega))).1;have h2:=(h j _ (av hj)).1;rw[h1,h2]at e;have:=YA i (by omega) j (by omega) e;omega
theorem aDD{ts:aI}(hl:ts.length<=5){t:Bytes}(ht:t∈ts)(hT:nB t=true):unB (ts.foldl kN []) (Dl (ts.foldl kN []) t)=t:=by
 have hw:=DI ts Vh.nil;have hlen:=DB ts;cases hv:fo t with
 |true=>
  obtain⟨p,hp,he⟩:=MI ts [] ht hv;rw[<-he,IQ (Ac ts Tt.nil) hp,YX (X4 hw (by omega)) hp]
 |false=>
  rw[MX hv];refine O1 fun p hp e=>?_
  obtain⟨i,hi,_,hpv,_⟩:=Ky hw hp;have:=MW i (by omega);rw[<-hpv,e,hv]at this;cases this
theorem Zn{p:aD}(h:w8 p=true)(hl:p.args.length<=5):w8 (vm p)=true:=by
 unfold w8 at h⊢;rw[aS]at h⊢;refine⟨?_,?_⟩
 ·rw[Kw,Ec,b8];intro t ht;have hT:=b8.1 h.1 t ht;show nB (Dl _ t)=true;cases hv:fo t with
  |false=>rw[MX hv];exact hT
  |true=>
   obtain⟨q,hq,he⟩:=MI p.args [] ht hv;obtain⟨i,hi,_,hpv,_⟩:=Ky (DI p.args Vh.nil) hq;have:=DB p.args;rw[<-he,IQ (Ac p.args Tt.nil) hq,hpv];unfold nB;rw[MW i (by omega)];simp
 ·have:=h.2;rw[aS]at this⊢;refine⟨this.1,?_⟩;rw[Kw,aj];exact this.2
def Oe(c:aU):aI:=bif decide (c.kind=1)then kP c.pat.args else []
theorem a0j{c:aU}:(Oe c).length<=c.wt:=by
 unfold Oe;have h2:=yY c.pat.args;have h3:=aD.dZ (aU.gV (br c.wt));cases decide (c.kind=1)<;>simp;omega
def Bx(r:aO)(n:Int):aI:=(r.conds.take n.toNat).flatMap Oe
theorem SC{G:Type}(x:G)(xs:List G)(n:Int)(i:Nat):(x::xs).take (n-(i:Int)).toNat=if(i:Int)<n then x::xs.take (n-((i+1:Nat):Int)).toNat else []:=by
 by_cases h:(i:Int)<n
 ·rw[bP h];obtain⟨m,hm⟩:∃m,(n-(i:Int)).toNat=m+1:=⟨(n-(i:Int)).toNat -1,by omega⟩
  have:(n-((i+1:Nat):Int)).toNat=m:=by omega
  rw[hm,this];rfl
 ·rw[bE h,show(n-(i:Int)).toNat=0 from by omega];rfl
theorem Hs{G E:Type}{f:G->List E}{w:G->Nat}(l:List G)(h:∀x∈l,(f x).length<=w x+2):(l.flatMap f).length<=3*sC w l:=by
 induction l with
 |nil=>simp[sC]
 |cons x l ih=>
  rw[cw,bB,py];have h1:=h x (by simp);have h2:=ih (fun y hy=>h y (by simp[hy]));omega
theorem a0k{r:aO}{n:Nat}(h:r.wt<=n)(m:Int):(Bx r m).length<=3*n:=by
 unfold Bx;have h1:=Hs (w:=aU.wt) (f:=Oe) (r.conds.take m.toNat) (fun c _=>by have:= @a0j c;omega);have h2:sC aU.wt (r.conds.take m.toNat)<=sC aU.wt r.conds:=by
  conv=>rhs;rw[<-cc m.toNat r.conds]
  rw[R2];omega
 have h3:=aO.v8 h;omega
theorem a2i(a:aO)(n:Int)(i:Nat)(y:aI)(k:aI->Option aI):∀(l:aI) (j:Nat) (w:aI),w.length+l.length<=1099511627770->kX a n i y k l j w=k (l.foldl B4 w):=by
 intro l
 induction l with
 |nil=>intro j w _;rfl
 |cons x l ih=>
  intro j w hw;simp only[aQ]at hw;have:=CS w x;rw[kX,Wt w x (by omega),aA,ih _ _ (by omega)];rfl
theorem a5c(a:aO)(n:Int)(k:aI->Option aI):∀(l:ay) (i:Nat) (acc:aI),(∀c∈l,c.wt<=1048576)->acc.length+sC aU.wt l<=2097152->
 gq a n k l i (fT acc)=k (fT (acc++(l.take (n-(i:Int)).toNat).flatMap Oe)):=by
 intro l
 induction l with
 |nil=>intro i acc _ _;simp[gq]
 |cons c l ih=>
  intro i acc hc hb;rw[py]at hb;have Xv:=hc c (by simp);have hv:=yY c.pat.args;have ha:=aD.dZ (aU.gV (br c.wt));have hu:=sQ (kP c.pat.args);have hu2:=sQ acc;rw[gq,SC];by_cases hi:(i:Int)<n
  ·have e1:decide (((i:Int):Int)<n)=true:=by simp[hi]
   rw[e1,aF,bP hi];by_cases hk:c.kind=1
   ·have e2:((c.kind:Int)==1)=true:=by simp[hk]
    rw[e2,aF,Mj _ (aU.gV Xv),aA,sE (by omega),aF,a2i _ _ _ _ _ _ _ _ (by omega),ID,ih _ _ (fun x hx=>hc x (by simp[hx])) (by simp;omega)];simp[Oe,hk]
   ·have e2:((c.kind:Int)==1)=false:=by simp[hk]
    rw[e2,aL,ih _ _ (fun x hx=>hc x (by simp[hx])) (by omega)];simp[Oe,hk]
  ·have e1:decide (((i:Int):Int)<n)=false:=by simp[hi]
   rw[e1,aL,bE hi];simp
theorem Wm(r:aO)(n:Int)(h:r.wt<=1048576):mX r n=some (fT (Bx r n)):=by
 unfold mX;have:=a5c r n (fun q=>some q) r.conds 0 [] (fun c hc=>aO.tg h hc) (by have:=aO.v8 h;simp;omega);rw[show fT []=[]from rfl]at this;rw[this];simp[Bx]
theorem a4y(a:aO)(n:Int)(k:aI->Option aI):∀(l:ay) (i:Nat) (w:aI),(∀c∈l,c.wt<=1048576)->w.length+sC aU.wt l<=2097152->
 fq a n k l i w=k (w++(l.take (n-(i:Int)).toNat).flatMap Oe):=by
 intro l
 induction l with
 |nil=>intro i w _ _;simp[fq]
 |cons c l ih=>
  intro i w hc hb;rw[py]at hb;have Xv:=hc c (by simp);have hv:=yY c.pat.args;have ha:=aD.dZ (aU.gV (br c.wt));rw[fq,SC];by_cases hi:(i:Int)<n
  ·have e1:decide (((i:Int):Int)<n)=true:=by simp[hi]
   rw[e1,aF,bP hi];by_cases hk:c.kind=1
   ·have e2:((c.kind:Int)==1)=true:=by simp[hk]
    rw[e2,aF,a1j _ (by omega) (fun x hx=>aD.vc (aU.gV Xv) hx),aA,a2e (by omega) (by decide),aF,ih _ _ (fun x hx=>hc x (by simp[hx])) (by simp;omega)];simp[Oe,hk]
   ·have e2:((c.kind:Int)==1)=false:=by simp[hk]
    rw[e2,aL,ih _ _ (fun x hx=>hc x (by simp[hx])) (by omega)];simp[Oe,hk]
  ·have e1:decide (((i:Int):Int)<n)=false:=by simp[hi]
   rw[e1,aL,bE hi,ih _ _ (fun x hx=>hc x (by simp[hx])) (by omega),show(n-((i+1:Nat):Int)).toNat=0 from by omega];simp
theorem a1S(r:aO)(n:Int)(h:r.wt<=1048576):rK r n=some (fT (Bx r n)):=by
 unfold rK;have hl:=a0k h n;rw[a4y r n _ r.conds 0 [] (fun c hc=>aO.tg h hc) (by have:=aO.v8 h;simp;omega)];have e:([]:aI)++(r.conds.take (n-((0:Nat):Int)).toNat).flatMap Oe=Bx r n:=by simp[Bx]
 rw[e,TC _ (by omega)];rfl
def Au(l:ay):aI:=l.flatMap sV
def a4M(l:fA):aI:=l.flatMap fun a=>kP a.pat.args
def a9J(r:aO):aI:=Au r.conds++a4M r.dD
theorem a0p(l:ay):(Au l).length<=3*sC aU.wt l:=Hs l (fun c _=>zh (br _))
theorem a33(a:aO)(i:Nat)(y:aI)(k:aI->Option aI):∀(l:aI) (j:Nat) (w:aI),w.length+l.length<=1099511627770->mI a i y k l j w=k (l.foldl B4 w):=by
 intro l
 induction l with
 |nil=>intro j w _;rfl
 |cons x l ih=>
  intro j w hw;simp only[aQ]at hw;have:=CS w x;rw[mI,Wt w x (by omega),aA,ih _ _ (by omega)];rfl
theorem a35(a:aO)(i:Nat)(y:aI)(k:aI->Option aI):∀(l:aI) (j:Nat) (w:aI),w.length+l.length<=1099511627770->mJ a i y k l j w=k (l.foldl B4 w):=by
 intro l
 induction l with
 |nil=>intro j w _;rfl
 |cons x l ih=>
  intro j w hw;simp only[aQ]at hw;have:=CS w x;rw[mJ,Wt w x (by omega),aA,ih _ _ (by omega)];rfl
theorem a32(a:aO)(k:aI->Option aI):∀(l:ay) (i:Nat) (acc:aI),(∀c∈l,c.wt<=1048576)->acc.length+3*sC aU.wt l<=16777216->
 jh a k l i (fT acc)=k (fT (acc++Au l)):=by
 intro l
 induction l with
 |nil=>intro i acc _ _;simp[jh,Au]
 |cons c l ih=>
  intro i acc hc hb;rw[py]at hb;have Xv:=hc c (by simp);have h1:=zh (br c.wt);have hu:=sQ (sV c);have hu2:=sQ acc;rw[jh,Wn c Xv,aA,sE (by omega),aF,a33 _ _ _ _ _ _ _ (by omega),ID,ih _ _ (fun x hx=>hc x (by simp[hx])) (by simp;omega)];simp[Au]
theorem a34(a:aO)(k:aI->Option aI):∀(l:fA) (i:Nat) (acc:aI),(∀c∈l,c.wt<=1048576)->acc.length+3*sC Action.wt l<=16777216->
 iq a k l i (fT acc)=k (fT (acc++a4M l)):=by
 intro l
 induction l with
 |nil=>intro i acc _ _;simp[iq,a4M]
 |cons c l ih=>
  intro i acc hc hb;rw[py]at hb;have Xv:=hc c (by simp);have h1:=yY c.pat.args;have h2:=aD.dZ (Action.gV (br c.wt));have hu:=sQ (kP c.pat.args);have hu2:=sQ acc;rw[iq,Mj _ (Action.gV Xv),aA,sE (by omega),aF,a35 _ _ _ _ _ _ _ (by omega),ID,ih _ _ (fun x hx=>hc x (by simp[hx])) (by simp;omega)];simp[a4M]
theorem a9Y(r:aO)(h:r.wt<=1048576):vM r=some (fT (a9J r)):=by
 unfold vM;have h3:=aO.v8 h;have h4:=aO.LH h;have hl:=a0p r.conds;have:=a32 r (fun q=>iq r (fun q=>some q) r.dD 0 q) r.conds 0 [] (fun c hc=>aO.tg h hc) (by simp;omega);rw[show fT []=[]from rfl]at this;rw[this];simp only[eM];rw[a34 r _ r.dD 0 _ (fun c hc=>aO.Sa h hc) (by omega)];rfl
theorem aB8(l:ay)(hc:∀c∈l,c.wt<=1048576)(hb:sC aU.wt l<=1048576):si l=some (l.flatMap fun c=>fT (sV c)):=by
 unfold si;have:∀(r:ay) (i:Nat) (w:aI),(∀c∈r,c.wt<=1048576)->w.length+3*sC aU.wt r<=16777216->iQ l (fun q=>some q) r i w=some (w++r.flatMap fun c=>fT (sV c)):=by
  intro r
  induction r with
  |nil=>intro i w _ _;simp[iQ]
  |cons c r ih=>
   intro i w hc hb;rw[py]at hb;have h1:=zh (br c.wt);have hu:=sQ (sV c);rw[iQ,WO c (hc c (by simp)),aA,a2e (by omega) (by decide),aF,ih _ _ (fun x hx=>hc x (by simp[hx])) (by simp;omega)];simp
 exact this l 0 [] hc (by simp;omega)
theorem a0o(l:ay):(l.flatMap fun c=>fT (sV c)).length<=3*sC aU.wt l:=Hs l (fun c _=>by
 have h1:=zh (br c.wt);have hu:=sQ (sV c);omega)
theorem aEU(l:ay)(b:aI):fT ((l.flatMap fun c=>fT (sV c))++b)=fT (Au l++b):=IC (fun x=>by simp[Au,rR])
def Yu(v:Bytes)(k:Int):ay->Nat->Bool
 | [],_=>false
 |c::cs,i=>(decide (((i:Nat):Int)≠k)&&(sV c).contains v)||Yu v k cs (i+1)
def US(r:aO)(k:Int)(v:Bytes):Bool:=Yu v k r.conds 0||r.dD.any fun a=>(kP a.pat.args).contains v
theorem RE{l:aI}{v:Bytes}(h:fo v=true):l.contains v=(kP l).contains v:=by
 rw[cK];simp[kP,h]
theorem aCl(r:aO)(k:Int)(v:Bytes)(h:r.wt<=1048576):p9 r k v=some (US r k v):=by
 unfold p9 US;have k2:∀(l:fA) (i:Nat),(∀c∈l,c.wt<=1048576)->jH r v (some false) l i=some (l.any fun a=>(kP a.pat.args).contains v):=by
  intro l
  induction l with
  |nil=>intro i _;rfl
  |cons a l ih=>
   intro i hc;rw[jH,Mj _ (Action.gV (hc a (by simp))),aA,Zk,aA,pS,ih _ (fun x hx=>hc x (by simp[hx])),tL];cases(kP a.pat.args).contains v<;>rfl
 have k1:∀(l:ay) (i:Nat),(∀c∈l,c.wt<=1048576)->gi r k v (some (r.dD.any fun a=>(kP a.pat.args).contains v)) l i=some (Yu v k l i||r.dD.any fun a=>(kP a.pat.args).contains v):=by
  intro l
  induction l with
  |nil=>intro i _;rfl
  |cons c l ih=>
   intro i hc;rw[gi,Wn _ (hc c (by simp)),aA,Zk,aA,pS,ih _ (fun x hx=>hc x (by simp[hx]))];simp only[Yu,bne,lR];by_cases hi:((i:Nat):Int)=k
   ·simp[hi]
   ·cases(sV c).contains v<;>simp[hi]
 rw[k2 _ _ (fun c hc=>aO.Sa h hc),k1 _ _ (fun c hc=>aO.tg h hc)]
theorem aFo(r:aO)(k:Int)(v:Bytes)(hv:fo v=true)(h:r.wt<=1048576):nU r k v=some (US r k v):=by
 unfold nU US;have k2:∀(l:fA) (i:Nat),gC r v (some false) l i=some (l.any fun a=>(kP a.pat.args).contains v):=by
  intro l
  induction l with
  |nil=>intro i;rfl
  |cons a l ih=>
   intro i;rw[gC,a52,aA,RE hv,ih,tL];cases(kP a.pat.args).contains v<;>rfl
 have k1:∀(l:ay) (i:Nat),(∀c∈l,c.wt<=1048576)->fC r k v (some (r.dD.any fun a=>(kP a.pat.args).contains v)) l i=some (Yu v k l i||r.dD.any fun a=>(kP a.pat.args).contains v):=by
  intro l
  induction l with
  |nil=>intro i _;rfl
  |cons c l ih=>
   intro i hc;rw[fC,WO _ (hc c (by simp)),aA,a52,aA,pS,ih _ (fun x hx=>hc x (by simp[hx]))];simp only[Yu,bne,lR];by_cases hi:((i:Nat):Int)=k
   ·simp[hi]
   ·cases(sV c).contains v<;>simp[hi]
 rw[k2,k1 _ _ (fun c hc=>aO.tg h hc)]
def Ol(r:aO)(i:Nat)(c:aU)(v:Bytes):Bool:=decide (c.kind=1)||(Bx r i).contains v||(decide (c.kind=2)&& !US r i v)
def ug(r:aO):ay->Nat->Bool
 | [],_=>true
 |c::cs,i=>(pR c&&(!decide (i=0)||decide (c.kind=1))&&(fT (sV c)).all (Ol r i c))&&ug r cs (i+1)
def PZ(r:aO):Bool:=r.dD.all fun a=>PY a&&(kP a.pat.args).all fun v=>(Bx r r.conds.length).contains v
def fR(r:aO):Bool:=zG r.name&&(decide (0<=r.prio)&&decide (r.prio<=9))&&(decide (1<=(r.conds.length:Int))&&decide ((r.conds.length:Int)<=4))&&(decide (1<=(r.dD.length:Int))&&decide ((r.dD.length:Int)<=2))&&
 (ug r r.conds 0&&(PZ r&&decide (((fT (Au r.conds)).length:Int)<=6)))
theorem RZ(l:aI)(p:Bytes->Bool):(fT l).all p=l.all p:=by
 rw[cK];simp[b8,rR]
theorem a4U(r:aO)(n:Int){v:Bytes}(h:v∈Bx r n):v∈Au r.conds:=by
 unfold Bx at h;obtain⟨c,hc,hv⟩:=cB.1 h;refine cB.2 ⟨c,cO hc,?_⟩;unfold Oe at hv;cases hk:decide (c.kind=1)with
 |false=>rw[hk]at hv;cases hv
 |true=>
  rw[hk]at hv;simp only[aF]at hv;unfold sV;rw[SH];exact aW.2 (.inl hv)
theorem Vj{r:aO}(h:PZ r=true):fT (a9J r)=fT (Au r.conds):=by
 refine IC (fun x=>?_);unfold a9J;simp only[aW];constructor
 ·rintro(hx|hx)
  ·exact hx
  ·obtain⟨a,ha,hv⟩:=cB.1 hx;unfold PZ at h;have:=b8.1 h a ha;simp only[aS,b8]at this;have:=this.2 x hv;exact a4U r _ (by simpa using this)
 ·exact .inl
theorem a5p(r:aO)(y:aI)(i:Nat)(c:aU)(l:aI)(k:Option Bool)(hc:c.wt<=1048576)(hr:r.wt<=1048576)(hcb:pR c=true):∀(rest:aI) (j:Nat),iB r y i c (fT (Bx r i)) l k rest j=bif rest.all (Ol r i c)then k else some false:=by
 have hk:=Jw hcb;intro rest
 induction rest with
 |nil=>intro j;rfl
 |cons v rest ih=>
  intro j;rw[iB,Zk,aA,pS,a3B c hc,aA,aCl r _ v hr,aA,ih,eD];unfold Jr Ol;rw[hcb];by_cases h1:c.kind=1
  ·simp[h1]
  by_cases h2:c.kind=2
  ·cases(Bx r i).contains v<;>cases US r i v<;>simp[h2]
  have h3:c.kind>=3:=by omega
  cases(Bx r i).contains v<;>simp[h1,h2,h3]
theorem a5q(r:aO)(y:aI)(i:Nat)(c:aU)(l:aI)(k:Option Bool)(hc:c.wt<=1048576)(hr:r.wt<=1048576)(hcb:pR c=true):∀(rest:aI) (j:Nat),iC r y i c (fT (Bx r i)) l k rest j=bif rest.all (Ol r i c)then k else some false:=by
 have hk:=Jw hcb;intro rest
 induction rest with
 |nil=>intro j;rfl
 |cons v rest ih=>
  intro j;rw[iC,Zk,aA,pS,a3B c hc,aA,aCl r _ v hr,aA,ih,eD];unfold Jr Ol;rw[hcb];by_cases h1:c.kind=1
  ·simp[h1]
  by_cases h2:c.kind=2
  ·cases(Bx r i).contains v<;>cases US r i v<;>simp[h2]
  have h3:c.kind>=3:=by omega
  cases(Bx r i).contains v<;>simp[h1,h2,h3]
theorem a5o(r:aO)(y:aI)(k:Option Bool)(hr:r.wt<=1048576):∀(rest:ay) (i:Nat),(∀c∈rest,c.wt<=1048576)->mc r y k rest i=bif ug r rest i then k else some false:=by
 intro rest
 induction rest with
 |nil=>intro i _;rfl
 |cons c rest ih=>
  intro i h;have hc:=h c (by simp);have hl:=zh hc;have hu:=sQ (sV c);rw[mc,a2j c hc,aA,ug];cases hcb:pR c with
  |false=>rfl
  |true=>
   rw[Wm r _ hr,Wn c hc,ih _ (fun x hx=>h x (by simp[hx]))];simp only[aA,sE (show(fT (sV c)).length<=1099511627776 by omega),aF];rw[a5p r y i c _ _ hc hr hcb,a5q r y i c _ _ hc hr hcb];simp only[bne,lR];have e0:decide (((i:Int):Int)=0)=decide (i=0):=by rw[cK];simp
   rw[e0];cases decide (i=0)<;>cases decide (c.kind=1)<;>cases(fT (sV c)).all (Ol r i c)<;>simp
theorem a5s(r:aO)(y:aI)(i:Nat)(l:aI)(k:Option Bool):∀(rest:aI) (j:Nat),om r y i l k rest j=bif rest.all (fun v=>y.contains v)then k else some false:=
 fun rest j=>Yn (f:=fun v=>iE y v) (L:=om r y i l k) (fun _=>rfl) (fun _ _ _=>rfl) rest j (fun v _=>Zk y v)
theorem a5r(r:aO)(b:aI)(k:Option Bool):∀(rest:fA) (i:Nat),(∀a∈rest,a.wt<=1048576)->ol r (fT b) k rest i=bif rest.all (fun a=>PY a&&(kP a.pat.args).all fun v=>b.contains v)then k else some false:=by
 intro rest
 induction rest with
 |nil=>intro i _;rfl
 |cons a rest ih=>
  intro i h;have ha:=h a (by simp);have h1:=yY a.pat.args;have h2:=aD.dZ (Action.gV ha);have hu:=sQ (kP a.pat.args);rw[ol,aG6 a ha,aA,Mj _ (Action.gV ha),aA,sE (by omega),ih _ (fun x hx=>h x (by simp[hx])),a5s,eD,RZ];have e:((kP a.pat.args).all fun v=>(fT b).contains v)=(kP a.pat.args).all fun v=>b.contains v:=by
   congr 1;funext v;exact pS b v
  rw[e];cases PY a<;>cases(kP a.pat.args).all (fun v=>b.contains v)<;>simp
theorem a7e(r:aO)(h:r.wt<=1048576):pM r=some (fR r):=by
 unfold pM;simp only[a2w _ (aO.Y9 h),aA,ML,aj];rw[Wm r _ h];simp only[aA];rw[a5o r _ _ h _ _ (fun c hc=>aO.tg h hc),a5r r _ _ _ _ (fun a ha=>aO.Sa h ha),a9Y r h];simp only[aA,aj];have hab:(r.dD.all fun a=>PY a&&(kP a.pat.args).all fun v=>(Bx r r.conds.length).contains v)=PZ r:=rfl;rw[hab];unfold fR;have g1:decide (r.prio>=0)=decide (0<=r.prio):=rfl;have g2:decide ((r.conds.length:Int)>=1)=decide (1<=(r.conds.length:Int)):=rfl;have g3:decide ((r.dD.length:Int)>=1)=decide (1<=(r.dD.length:Int)):=rfl;rw[g1,g2,g3];cases ha:PZ r with
 |false=>cases zG r.name<;>cases(decide (0<=r.prio)&&decide (r.prio<=9))<;>cases(decide (1<=(r.conds.length:Int))&&decide ((r.conds.length:Int)<=4))<;>cases(decide (1<=(r.dD.length:Int))&&decide ((r.dD.length:Int)<=2))<;>cases ug r r.conds 0<;>rfl
 |true=>
  rw[Vj ha];cases zG r.name<;>cases(decide (0<=r.prio)&&decide (r.prio<=9))<;>cases(decide (1<=(r.conds.length:Int))&&decide ((r.conds.length:Int)<=4))<;>cases(decide (1<=(r.dD.length:Int))&&decide ((r.dD.length:Int)<=2))<;>cases ug r r.conds 0<;>simp
theorem a8k(r:aO)(i:Nat)(c:aU)(l:aI)(k:Option Bool)(hr:r.wt<=1048576)(hcb:pR c=true):∀(rest:aI) (j:Nat),(∀v∈rest,fo v=true)->iY r (i:Int) c (fT (Bx r i)) l k rest j=bif rest.all (Ol r i c)then k else some false:=by
 have hk:=Jw hcb;intro rest
 induction rest with
 |nil=>intro j _;rfl
 |cons v rest ih=>
  intro j hv;rw[iY,a52,aA,pS,aFo r _ v (hv v (by simp)) hr,aA,ih _ (fun x hx=>hv x (by simp[hx])),eD];unfold Ol;simp only[bne,lR];by_cases h1:c.kind=1
  ·simp[h1]
  by_cases h2:c.kind=2
  ·cases(Bx r i).contains v<;>cases US r i v<;>simp[h2]
  cases(Bx r i).contains v<;>simp[h1,h2]
theorem aBD(r:aO)(i:Nat)(c:aU)(hr:r.wt<=1048576)(hi:r.conds[i]?=some c)(hcb:pR c=true):sL r (i:Int)=some ((fT (sV c)).all (Ol r i c)):=by
 unfold sL;have hc:=aO.tg hr (aE hi);have hl:=zh hc;have hu:=sQ (sV c);have e:fy r.conds (i:Int)=some c:=by unfold fy;simp[hi]
 rw[e,aA,a1S r _ hr,aA,WO c hc,aA,sE (by omega),aF,a8k r i c _ _ hr hcb _ _ (fun v hv=>by
  rw[rR]at hv;unfold sV kP at hv;exact(gu.1 hv).2)]
 cases(fT (sV c)).all (Ol r i c)<;>rfl
theorem a56(r:aO)(k:Option Bool)(hr:r.wt<=1048576):∀(rest pre:ay),r.conds=pre++rest->kC r k rest pre.length=bif ug r rest pre.length then k else some false:=by
 intro rest
 induction rest with
 |nil=>intro pre _;rfl
 |cons c rest ih=>
  intro pre h;have hm:c∈r.conds:=by rw[h];simp
  have hc:=aO.tg hr hm;have hi:r.conds[pre.length]?=some c:=by rw[h];simp
  have t:=ih (pre++[c]) (by rw[h];simp);simp only[bB,aQ,cE]at t;rw[kC,a1X c hc,aA,ug];cases hcb:pR c with
  |false=>rfl
  |true=>
   rw[aBD r _ c hr hi hcb,aA,t];simp only[bne,lR];have e0:decide ((((pre.length:Nat):Int):Int)=0)=decide (pre.length=0):=by rw[cK];simp
   rw[e0];cases decide (pre.length=0)<;>cases decide (c.kind=1)<;>cases(fT (sV c)).all (Ol r pre.length c)<;>simp
theorem a58(r:aO)(y:aI)(i:Nat)(l:aI)(k:Option Bool):∀(rest:aI) (j:Nat),oX r y i l k rest j=bif rest.all (fun v=>y.contains v)then k else some false:=
 fun rest j=>Yn (f:=fun v=>nS y v) (L:=oX r y i l k) (fun _=>rfl) (fun _ _ _=>rfl) rest j (fun v _=>a52 y v)
theorem a57(r:aO)(b:aI)(k:Option Bool):∀(rest:fA) (i:Nat),(∀a∈rest,a.wt<=1048576)->oW r (fT b) k rest i=bif rest.all (fun a=>PY a&&(kP a.pat.args).all fun v=>b.contains v)then k else some false:=by
 intro rest
 induction rest with
 |nil=>intro i _;rfl
 |cons a rest ih=>
  intro i h;have ha:=h a (by simp);have h1:=yY a.pat.args;have h2:=aD.dZ (Action.gV ha);rw[oW,aFk a ha,aA,a1j _ (by omega) (fun x hx=>aD.vc (Action.gV ha) hx),aA,sE (by omega),ih _ (fun x hx=>h x (by simp[hx])),a58,eD];have e:((kP a.pat.args).all fun v=>(fT b).contains v)=(kP a.pat.args).all fun v=>b.contains v:=by
   congr 1;funext v;exact pS b v
  rw[e];cases PY a<;>cases(kP a.pat.args).all (fun v=>b.contains v)<;>simp
theorem aBO(r:aO)(h:r.wt<=1048576):xT r=some (fR r):=by
 unfold xT;have hcu:=a0o r.conds;have hcl:=aO.v8 h;rw[show kC r _ r.conds 0=_ from a56 r _ h r.conds [] rfl,a1S r _ h,aA,a57 r _ _ _ _ (fun a ha=>aO.Sa h ha),aB8 _ (fun c hc=>aO.tg h hc) hcl,aA,TC _ (by omega),a1b _ (aO.Y9 h)];have e:=aEU r.conds [];simp only[dV]at e;rw[e];simp only[aA,aj,cE];have hab:(r.dD.all fun a=>PY a&&(kP a.pat.args).all fun v=>(Bx r r.conds.length).contains v)=PZ r:=rfl;rw[hab];unfold fR;have g1:decide (0<=r.prio)= !decide (r.prio<0):=by rw[cK];simp
 have g2:decide (r.prio<=9)= !decide (r.prio>9):=by rw[cK];simp
 have g3:decide (1<=(r.conds.length:Int))= !decide ((r.conds.length:Int)<1):=by rw[cK];simp
 have g4:decide ((r.conds.length:Int)<=4)= !decide ((r.conds.length:Int)>4):=by rw[cK];simp
 have g5:decide (1<=(r.dD.length:Int))= !decide ((r.dD.length:Int)<1):=by rw[cK];simp
 have g6:decide ((r.dD.length:Int)<=2)= !decide ((r.dD.length:Int)>2):=by rw[cK];simp
 rw[g1,g2,g3,g4,g5,g6];cases zG r.name
 ·rfl
 cases decide (r.prio<0)
 case true=>rfl
 cases decide (r.prio>9)
 case true=>rfl
 cases decide ((r.conds.length:Int)<1)
 case true=>rfl
 cases decide ((r.conds.length:Int)>4)
 case true=>rfl
 cases decide ((r.dD.length:Int)<1)
 case true=>rfl
 cases decide ((r.dD.length:Int)>2)
 case true=>rfl
 cases ug r r.conds 0
 ·rfl
 cases PZ r
 ·rfl
 simp
def Ab(name:Bytes):az->Nat->Int
 | [],_=> -1
 |r::rs,i=>bif r.name==name then(i:Int)else Ab name rs (i+1)
def LK(all:az):az->Nat->Bool
 | [],_=>true
 |r::rs,i=>(fR r&&decide (Ab r.name all 0=(i:Int)))&&LK all rs (i+1)
def qT(l:az):Bool:=LK l l 0&&decide ((l.length:Int)<=6)
theorem VJ(l:az)(n:Bytes):lT l n=some (Ab n l 0):=by
 unfold lT;have:∀(r:az) (i:Nat),mG l n (some (-1)) r i=some (Ab n r i):=by
  intro r
  induction r with
  |nil=>intro i;rfl
  |cons x r ih=>intro i;rw[mG,ih,Ab];cases x.name==n<;>rfl
 exact this l 0
theorem aBB(l:az)(n:Bytes):vC l n=some (Ab n l 0):=by
 unfold vC;have:∀(r:az) (i:Nat),lf l n (some (-1)) r i=some (Ab n r i):=by
  intro r
  induction r with
  |nil=>intro i;rfl
  |cons x r ih=>intro i;rw[lf,ih,Ab];cases x.name==n<;>rfl
 exact this l 0
theorem aG8(l:az)(h:sC aO.wt l<=1048576):vJ l=some (qT l):=by
 unfold vJ;have:∀(r:az) (i:Nat) (k:Option Bool),(∀x∈r,x.wt<=1048576)->mE l k r i=bif LK l r i then k else some false:=by
  intro r
  induction r with
  |nil=>intro i k _;rfl
  |cons x r ih=>
   intro i k hx;rw[mE,a7e x (hx x (by simp)),aA,VJ,aA,ih _ _ (fun y hy=>hx y (by simp[hy])),LK];simp only[bne,lR];cases fR x<;>cases decide (Ab x.name l 0=(i:Int))<;>simp
 rw[this _ _ _ (fun x hx=>by have:=qR (w:=aO.wt) hx;omega),aj,qT];cases LK l l 0<;>rfl
theorem aFm(l:az)(h:sC aO.wt l<=1048576):vB l=some (qT l):=by
 unfold vB;have:∀(r:az) (i:Nat) (k:Option Bool),(∀x∈r,x.wt<=1048576)->lZ l k r i=bif LK l r i then k else some false:=by
  intro r
  induction r with
  |nil=>intro i k _;rfl
  |cons x r ih=>
   intro i k hx;rw[lZ,aBO x (hx x (by simp)),aA,aBB,aA,ih _ _ (fun y hy=>hx y (by simp[hy])),LK];simp only[bne,lR];cases fR x<;>cases decide (Ab x.name l 0=(i:Int))<;>simp
 rw[this _ _ _ (fun x hx=>by have:=qR (w:=aO.wt) hx;omega),aj,qT];have g:decide ((l.length:Int)<=6)= !decide ((l.length:Int)>6):=by rw[cK];simp
 rw[g];cases LK l l 0<;>cases decide ((l.length:Int)>6)<;>rfl
theorem Qc{G E:Type}[DecidableEq E]{f:G->G->Option Bool}{g:G->E}{a b:List G}{k:Option Bool}{L:List G->Nat->Option Bool}(hl:a.length=b.length)(wm:∀i,L [] i=k)
 (wN:∀x xs i,L (x::xs) i=(fy b (i:Int)).bind fun y=>(f x y).bind fun r=>bif !r then some false else L xs (i+1)) (hf:∀x y,f x y=some (decide (g x=g y))):
 L a 0=bif decide (a.map g=b.map g)then k else some false:=by
 have key:∀(ra rb pa pb:List G),a=pa++ra->b=pb++rb->pa.length=pb.length->L ra pa.length=bif decide (ra.map g=rb.map g)then k else some false:=by
  intro ra
  induction ra with
  |nil=>
   intro rb pa pb h1 h2 h3;rw[wm];have:rb=[]:=by
    have:=congrArg List.length h1;have:=congrArg List.length h2;simp at*;apply dJ;omega
   subst this;simp
  |cons x xs ih=>
   intro rb pa pb h1 h2 h3;cases rb with
   |nil=>
    exfalso;have:=congrArg List.length h1;have:=congrArg List.length h2;simp at*;omega
   |cons y ys=>
    have e1:fy b (pa.length:Int)=some y:=by rw[h3];exact xj h2
    rw[wN,e1,aA,hf,aA];have:=ih ys (pa++[x]) (pb++[y]) (by rw[h1];simp) (by rw[h2];simp) (by simp[h3]);simp only[bB,aQ,cE]at this;rw[this];by_cases hxy:g x=g y
    ·simp[hxy]
    ·simp[hxy]
 exact key a b [] [] rfl rfl rfl
theorem QR{G E:Type}{g:G->E}{a b:List G}(h:a.length≠b.length):a.map g≠b.map g:=fun e=>h (by have:=congrArg List.length e;simpa using this)
theorem IN{G:Type}{c:G->aR}(a b:List G):((((a.map c).length:Int):Int) != ((b.map c).length:Int))= !decide (a.length=b.length):=by
 rw[cK];simp;omega
theorem map_id'{G:Type}(l:List G):l.map (fun x=>x)=l:=by simp
theorem a8r(a b:aO):sK a b=some (decide (a=b)):=by
 have k2:∀(k:Option Bool),a.dD.length=b.dD.length->jV a b k a.dD 0=bif decide (a.dD=b.dD)then k else some false:=fun k hl=>by
  have:=Qc (g:=fun x:Action=>x) (f:=fun x y:Action=>bif x.kind != y.kind then some false else gR x.pat y.pat) (k:=k) (L:=jV a b k) hl (fun _=>rfl) (fun x xs i=>by
   rw[jV];congr 1;funext y;cases(x.kind != y.kind)<;>rfl) (fun x y=>by
   obtain⟨x0,x1⟩:=x;obtain⟨y0,y1⟩:=y;simp only[QC,bne,lR];by_cases h0:x0=y0<;>by_cases h1:x1=y1<;>simp[h0,h1])
  rw[map_id',map_id']at this;exact this
 have k1:∀(k:Option Bool),a.conds.length=b.conds.length->lm a b k a.conds 0=bif decide (a.conds=b.conds)then k else some false:=fun k hl=>by
  have:=Qc (g:=fun x:aU=>x) (f:=lS) (k:=k) (L:=lm a b k) hl (fun _=>rfl) (fun _ _ _=>rfl) TB;rw[map_id',map_id']at this;exact this
 unfold sK;rw[IN,IN];obtain⟨a0,a1,a2,a3⟩:=a;obtain⟨b0,b1,b2,b3⟩:=b;simp only at k1 k2⊢;simp only[bne,lR,Bool.not_not];by_cases h0:a0=b0;rotate_left
 ·simp[h0]
 by_cases h1:a1=b1;rotate_left
 ·simp[h1]
 by_cases h2:a2.length=b2.length;rotate_left
 ·have:a2≠b2:=fun e=>h2 (by rw[e])
  simp[h2,this]
 by_cases h3:a3.length=b3.length;rotate_left
 ·have:a3≠b3:=fun e=>h3 (by rw[e])
  simp[h3,this]
 rw[k1 _ h2,k2 _ h3];by_cases h4:a2=b2<;>by_cases h5:a3=b3<;>simp[h0,h1,h2,h3,h4,h5]
theorem a5A(a b:az):uK a b=some (decide (a=b)):=by
 unfold uK;exact eqL (c:=aO.c) (f:=sK) (fun k=>o5 a b k) (fun _ _=>rfl) (fun _ _ _ _=>rfl) a8r
theorem V9(x y:aX):((x.var:Bytes)==y.var&&(x.value:Bytes)==y.value)=decide (x=y):=by
 obtain⟨x0,x1⟩:=x;obtain⟨y0,y1⟩:=y;simp only[lR];by_cases h0:x0=y0<;>by_cases h1:x1=y1<;>simp[h0,h1]
theorem a36(a b:aP):jk a b=some (decide (a=b)):=by
 unfold jk;exact eqL (c:=aX.c) (f:=fun x y=>some (decide (x=y))) (fun k=>iH a b k) (fun _ _=>rfl) (fun k x xs i=>by rw[iH];congr 1;funext y;rw[V9];rfl) (fun _ _=>rfl)
theorem a1d(a b:aP):oc a b=some (decide (a=b)):=by
 unfold oc;exact eqL (c:=aX.c) (f:=fun x y=>some (decide (x=y))) (fun k=>kU a b k) (fun _ _=>rfl) (fun k x xs i=>by rw[kU];congr 1;funext y;rw[V9];rfl) (fun _ _=>rfl)
theorem a5t(a b:ar):qn a b=some (decide (a=b)):=by
 unfold qn;exact eqL (c:=aV.c) (f:=fun x y=>(mi x.facts y.facts).bind fun r=>bif !r then some false else jk x.bind y.bind) (fun k=>iv a b k) (fun _ _=>rfl) (fun k x xs i=>by
  rw[iv];congr 1;funext y;rw[PI,aA,aA];cases decide (x.facts=y.facts)<;>rfl) (fun x y=>by
  obtain⟨x0,x1⟩:=x;obtain⟨y0,y1⟩:=y;simp only[PI,a36,aA];by_cases h0:x0=y0<;>by_cases h1:x1=y1<;>simp[h0,h1])
theorem a5B(a b:ar):qM a b=some (decide (a=b)):=by
 unfold qM;exact eqL (c:=aV.c) (f:=fun x y=>(j6 x.facts y.facts).bind fun r=>bif !r then some false else oc x.bind y.bind) (fun k=>ja a b k) (fun _ _=>rfl) (fun k x xs i=>by
  rw[ja];congr 1;funext y;rw[MK,aA,aA];cases decide (x.facts=y.facts)<;>rfl) (fun x y=>by
  obtain⟨x0,x1⟩:=x;obtain⟨y0,y1⟩:=y;simp only[MK,a1d,aA];by_cases h0:x0=y0<;>by_cases h1:x1=y1<;>simp[h0,h1])
def Px(a b:aH):Bool:=decide (a.bG.map ai.shape=b.bG.map ai.shape)&&(decide (a.nodes.map (fun x=>(x.parent,x.cX,x.cond))=b.nodes.map (fun x=>(x.parent,x.cX,x.cond)))&&decide (a.ends=b.ends))
def Ou(a b:aH):Bool:=decide (a.rules=b.rules)&&(decide (a.ends=b.ends)&&(decide (a.facts=b.facts)&&(decide (a.bG=b.bG)&&decide (a.nodes=b.nodes))))
theorem aCn(a b:aH):tB a b=some (Px a b):=by
 unfold tB Px;rw[IN,IN,IN];by_cases h1:a.bG.length=b.bG.length;rotate_left
 ·simp[h1,QR h1]
 by_cases h2:a.nodes.length=b.nodes.length;rotate_left
 ·simp[h2,QR h2]
 by_cases h3:a.ends.length=b.ends.length;rotate_left
 ·have:a.ends≠b.ends:=fun e=>h3 (by rw[e])
  simp[h3,this]
 have k1:=fun k=>Qc (g:=ai.shape) (f:=fun x y:ai=>ji x.shape y.shape) (k:=k) (L:=n8 a b k) h1 (fun _=>rfl) (fun _ _ _=>rfl) (fun x y=>Wv _ _)
 have k2:=fun k=>Qc (g:=fun x:Node=>(x.parent,x.cX,x.cond)) (f:=fun x y:Node=>bif x.parent != y.parent then some false else bif x.cX != y.cX then some false else qd x.cond y.cond) (k:=k) (L:=jl a b k) h2 (fun _=>rfl) (fun x xs i=>by
  rw[jl];congr 1;funext y;cases(x.parent != y.parent)<;>cases(x.cX != y.cX)<;>rfl) (fun x y=>by
  simp only[a38,bne,lR];by_cases q0:x.parent=y.parent<;>by_cases q1:x.cX=y.cX<;>by_cases q2:x.cond=y.cond<;>simp[q0,q1,q2])
 have k3:=fun k=>Qc (g:=fun x:Int=>x) (f:=fun x y:Int=>some (decide (x=y))) (k:=k) (L:=jm a b k) h3 (fun _=>rfl) (fun x xs i=>by
  rw[jm];congr 1) (fun x y=>rfl)
 rw[k1,k2,k3,map_id',map_id'];simp only[h1,h2,h3,Cz,bU,aL];cases decide (a.bG.map ai.shape=b.bG.map ai.shape)<;>cases decide (a.nodes.map (fun x=>(x.parent,x.cX,x.cond))=b.nodes.map (fun x=>(x.parent,x.cX,x.cond)))<;>cases decide (a.ends=b.ends)<;>rfl
theorem aFp(a b:aH):ql a b=some (Ou a b):=by
 unfold ql;simp only[a5A,a8p,MK,aA,IN];by_cases h1:a.bG.length=b.bG.length;rotate_left
 ·have:a.bG≠b.bG:=fun e=>h1 (by rw[e])
  simp only[h1,Ou,this,LB,bt,aF,Bool.false_and];cases decide (a.rules=b.rules)<;>cases decide (a.ends=b.ends)<;>cases decide (a.facts=b.facts)<;>rfl
 by_cases h2:a.nodes.length=b.nodes.length;rotate_left
 ·have:a.nodes≠b.nodes:=fun e=>h2 (by rw[e])
  simp only[h1,h2,Ou,this,Cz,LB,bt,bU,aF,aL,w9];cases decide (a.rules=b.rules)<;>cases decide (a.ends=b.ends)<;>cases decide (a.facts=b.facts)<;>rfl
 have k1:=fun k=>Qc (g:=fun x:ai=>x) (f:=fun x y:ai=>(gR x.shape y.shape).bind fun r=>bif !r then some false else j6 x.facts y.facts) (k:=k) (L:=iW a b k) h1 (fun _=>rfl) (fun x xs i=>by
  rw[iW];congr 1;funext y;rw[QC,aA,aA];cases decide (x.shape=y.shape)<;>rfl) (fun x y=>by
  obtain⟨x0,x1⟩:=x;obtain⟨y0,y1⟩:=y;simp only[QC,MK,aA];by_cases q0:x0=y0<;>by_cases q1:x1=y1<;>simp[q0,q1])
 have k2:=fun k=>Qc (g:=fun x:Node=>x) (f:=fun x y:Node=>bif x.parent != y.parent then some false else bif x.cX != y.cX then some false else(lS x.cond y.cond).bind fun r=>bif !r then some false else qM x.tokens y.tokens) (k:=k) (L:=iX a b k) h2 (fun _=>rfl) (fun x xs i=>by
  rw[iX];congr 1;funext y;rw[TB,aA,aA];cases(x.parent != y.parent)<;>cases(x.cX != y.cX)<;>cases decide (x.cond=y.cond)<;>rfl) (fun x y=>by
  obtain⟨x0,x1,x2,x3⟩:=x;obtain⟨y0,y1,y2,y3⟩:=y;simp only[TB,a5B,aA,bne,lR];by_cases q0:x0=y0<;>by_cases q1:x1=y1<;>by_cases q2:x2=y2<;>by_cases q3:x3=y3<;>simp[q0,q1,q2,q3])
 rw[k1,k2,map_id',map_id',map_id',map_id',Ou];simp only[h1,h2,Cz,bU,aL];cases decide (a.rules=b.rules)<;>cases decide (a.ends=b.ends)<;>cases decide (a.facts=b.facts)<;>cases decide (a.bG=b.bG)<;>cases decide (a.nodes=b.nodes)<;>rfl
def zL(s:Bytes):Option Nat:=if 1<=s.length/\s.length<=4 then(match Lib.decFrom 0 s with|some n=>if Lib.decDigits n=s then some n else none|none=>none)else none
def pI(s:Bytes):Int×Bool:=match zL s with|some n=>((n:Int),true)|none=>(0,false)
theorem a0s:∀(u:Nat),∀b∈Lib.decDigits u,48<=b.toNat/\b.toNat<=57:=by
 intro u
 induction u using Nat.strongRecOn with
 |_ u ih=>
  have hb:∀v:Nat,v<10->48<=(UInt8.ofNat (48+v)).toNat/\(UInt8.ofNat (48+v)).toNat<=57:=by
   intro v hv;have:(UInt8.ofNat (48+v)).toNat=48+v:=by simp;omega
   omega
  intro b hm;rw[Lib.decDigits]at hm;split at hm
  ·rename_i h10;simp only[cH]at hm;subst hm;exact hb u h10
  ·rename_i h10;rcases aW.1 hm with hm|hm
   ·exact ih (u/10) (by omega) b hm
   ·simp only[cH]at hm;subst hm;exact hb (u%10) (by omega)
theorem a5l(a:Bytes)(k:Int->Option (Int×Bool))(ha:a.length<=4):∀(rest pre:Bytes) (acc:Nat),a=pre++rest->acc<10^pre.length->∀n,rest.length<n->
 je a k n (acc:Int) (pre.length:Int)=(match Lib.decFrom acc rest with|some m=>k (m:Int)|none=>some (0,false)):=by
 intro rest
 induction rest with
 |nil=>
  intro pre acc h _ n hn;obtain⟨m,rfl⟩:∃m,n=m+1:=⟨n-1,by simp at hn;omega⟩
  have e1:decide ((pre.length:Int)<(a.length:Int))=false:=by simp[h]
  rw[je,e1];rfl
 |cons x xs ih=>
  intro pre acc h hacc n hn;obtain⟨m,rfl⟩:∃m,n=m+1:=⟨n-1,by simp at hn;omega⟩
  have hl:a.length=pre.length+(xs.length+1):=by rw[h];simp
  have e1:decide ((pre.length:Int)<(a.length:Int))=true:=by rw[hl];simp;omega
  have e4:IntKind.i64.wrap ((pre.length:Int)+1)=((pre++[x]).length:Int):=by rw[Fi (by omega)];simp
  have h10:acc<10000:=eR hacc (wA (by omega) (show pre.length<=4 by omega));have hx:=x.toNat_lt;rw[je,e1,aF,xj h,aA,e4];by_cases c1:(x.toNat:Int)<48
  ·have:Lib.digitVal x=none:=by unfold Lib.digitVal;rw[bE (by omega)]
   simp only[Lib.decFrom,this];rw[au c1,aF]
  ·by_cases c2:(x.toNat:Int)>57
   ·have:Lib.digitVal x=none:=by unfold Lib.digitVal;rw[bE (by omega)]
    simp only[Lib.decFrom,this];rw[ax c1,aL,au c2,aF]
   ·have hd:Lib.digitVal x=some (x.toNat-48):=by unfold Lib.digitVal;rw[bP (by omega)]
    have e5:IntKind.i64.wrap ((IntKind.i64.wrap (10*(acc:Int)))+(IntKind.i64.wrap (IntKind.u8.wrap ((x.toNat:Int)-48))))=((acc*10+(x.toNat-48):Nat):Int):=by
     rw[eC (k:=.u8) (qu.u8.2 (by omega)),eC (n:=(10:Int)*(acc:Int)) (qu.i64.2 (by omega)),eC (n:=(x.toNat:Int)-48) (qu.i64.2 (by omega)),eC (qu.i64.2 (by omega))];omega
    simp only[Lib.decFrom,hd];rw[ax c1,aL,ax c2,aL,e5];refine ih (pre++[x]) _ (by simp[h]) ?_ m (by simp at hn;omega);rw[bB,dw,yf];omega
theorem Te(s:Bytes):oD s=some (pI s):=by
 unfold oD;rw[ML,aA];by_cases hl:1<=s.length/\s.length<=4
 ·have e1:(decide ((s.length:Int)>=1)&&decide ((s.length:Int)<=4))=true:=by simp;omega
  have t:=a5l s (fun z=>((kF z).bind fun Dm=>(bif !((Dm:Bytes)==s)then(some (0,false))else(some (z,true))))) hl.2 s [] 0 rfl (by simp) fuel (by unfold fuel;omega);rw[e1,bU,aL];refine t.trans ?_;unfold pI zL;rw[bP hl];cases hd:Lib.decFrom 0 s with
  |none=>rfl
  |some m=>
   have hm:=Lib.decFrom_lt s 0 m hd;have h10:m<10000:=by
    have:=wA (n:=10) (by omega) hl.2;omega
   simp only;rw[a5j _ (qu.i64.2 (by omega)),aA];have e2:Lib.itoa (m:Int)=Lib.decDigits m:=by unfold Lib.itoa;rw[bE (by omega)];simp
   rw[e2];by_cases he:Lib.decDigits m=s
   ·rw[bP he,he];simp
   ·rw[bE he];have:(Lib.decDigits m==s)=false:=by simpa using he
    rw[this];rfl
 ·have e1:(decide ((s.length:Int)>=1)&&decide ((s.length:Int)<=4))=false:=by
   rw[Fk,qE,qE];omega
  rw[e1];unfold pI zL;rw[bE hl];rfl
theorem TA(s:Bytes):oB s=some (pI s):=by
 unfold oB pI zL;by_cases hl:1<=s.length/\s.length<=4
 ·have e1:decide ((s.length:Int)<1)=false:=by simp;omega
  have e2:decide ((s.length:Int)>4)=false:=by simp;omega
  rw[bP hl,e1,aL,e2,aL];unfold CN TE;rw[bP (by omega)];cases s with
  |nil=>simp at hl
  |cons b t=>
   have fin:∀(m:Nat),Lib.decFrom 0 (b::t)=some m->(bif decide ((m:Int)<0)then some ((0:Int),false)else bif decide ((m:Int)>9999)then some (0,false)else(mP (m:Int)).bind fun y8=>bif !((y8:Bytes)==(b::t))then some (0,false)else some ((m:Int),true))=
    some (match(if Lib.decDigits m=b::t then some m else none)with|some n=>((n:Int),true)|none=>(0,false)):=by
    intro m hd;have hm:=Lib.decFrom_lt (b::t) 0 m hd;have h10:m<10000:=by
     have:=wA (n:=10) (by omega) hl.2;omega
    have e3:decide ((m:Int)<0)=false:=by simp
    have e4:decide ((m:Int)>9999)=false:=by simp;omega
    have e5:Lib.itoa (m:Int)=Lib.decDigits m:=by unfold Lib.itoa;rw[bE (by omega)];simp
    rw[e3,aL,e4,aL,a8l,aA,e5];by_cases he:Lib.decDigits m=b::t
    ·rw[bP he,he];simp
    ·rw[bE he];have:(Lib.decDigits m==(b::t))=false:=by simpa using he
     rw[this];rfl
   have sign:∀(n:Int),b.toNat<48->(bif decide (n<0)then some ((0:Int),false)else bif decide (n>9999)then some (0,false)else(mP n).bind fun y8=>bif !((y8:Bytes)==(b::t))then some (0,false)else some (n,true))=some (0,false):=by
    intro n hb;by_cases hn:n<0
    ·rw[au hn];rfl
    rw[ax hn,aL,a8l,aA];cases decide (n>9999)with
    |true=>rfl
    |false=>
     have e5:Lib.itoa n=Lib.decDigits n.toNat:=by unfold Lib.itoa;rw[bE hn]
     have:(Lib.itoa n==(b::t))=false:=by
      rw[e5,dA];intro h;have:=a0s n.toNat b (by rw[h];simp);omega
     rw[this];rfl
   simp only[Lib.atoi];by_cases hb:b=45
   ·subst hb;have hd:Lib.decFrom 0 ((45:UInt8)::t)=none:=by simp[Lib.decFrom,Lib.digitVal]
    rw[bP (by decide),hd];cases Lib.decNat t with
    |none=>rfl
    |some m=>exact sign _ (by decide)
   ·rw[bE (by simpa using hb)];by_cases Om:b=43
    ·subst Om;have hd:Lib.decFrom 0 ((43:UInt8)::t)=none:=by simp[Lib.decFrom,Lib.digitVal]
     rw[bP (by decide),hd];cases Lib.decNat t with
     |none=>rfl
     |some m=>exact sign (m:Int) (by decide)
    ·rw[bE (by simpa using Om)];have hdn:Lib.decNat (b::t)=Lib.decFrom 0 (b::t):=by simp[Lib.decNat]
     rw[hdn];cases hd:Lib.decFrom 0 (b::t)with
     |none=>rfl
     |some m=>exact fin m hd
 ·rw[bE hl];by_cases h1:(s.length:Int)<1
  ·rw[au h1];rfl
  ·have h2:(s.length:Int)>4:=by omega
   rw[ax h1,aL,au h2];rfl
def yZ(a b:Bytes):Int:=if Op.bytesLess a b=true then-1 else if a=b then 0 else 1
def IY(x y:Int):Int:=if x<y then-1 else if x>y then 1 else 0
def Co(a b:Bytes):Int:=match zL a,zL b with
 |some x,some y=>IY x y
 |some _,none=> -1
 |none,some _=>1
 |none,none=>yZ a b
def vQ{G:Type}(g:G->G->Int):List G->List G->Option Int
 |x::xs,y::ys=>if g x y≠0 then some (g x y)else vQ g xs ys
 |_,_=>none
def cmpL{G:Type}(g:G->G->Int)(a b:List G):Int:=match vQ g a b with|some z=>z|none=>IY a.length b.length
def oI(a b:aD):Int:=if a.rel≠b.rel then yZ a.rel b.rel else cmpL Co a.args b.args
theorem Sj{a b:Bytes}(h:a≠b):yZ a b≠0:=by
 unfold yZ;split
 ·omega
 ·first|omega| (rw[bE h];omega)
theorem Rl(a:Bytes):yZ a a=0:=by
 unfold yZ;rw[sJ];simp
theorem Xa:∀(a b:Bytes),Lib.compareBytes a b=yZ a b
 | [],[]=>by simp[Lib.compareBytes,yZ,Op.bytesLess]
 | [],_::_=>by simp[Lib.compareBytes,yZ,Op.bytesLess]
 |_::_,[]=>by simp[Lib.compareBytes,yZ,Op.bytesLess]
 |a::xs,b::ys=>by
  have ih:=Xa xs ys;simp only[Lib.compareBytes,yZ,Op.bytesLess];by_cases h1:a<b
  ·simp[h1]
  ·by_cases h2:b<a
   ·have hne:a≠b:=fun e=>by subst e;exact h1 h2
    simp[h1,h2,hne]
   ·have e:a=b:=by
     rw[Fo]at h1 h2;exact UInt8.toNat_inj.1 (by omega)
    subst e;rw[bE h1,bE h1,ih];simp[yZ,h1]
theorem P5{G:Type}{f:G->G->Option Int}{g:G->G->Int}{c:G->aR}{L:List G->Nat->Option Int}{k:Option Int}{b:List G}(wm:∀i,L [] i=k)
 (wN:∀x xs i,L (x::xs) i=bif decide (((i:Int):Int)<((b.map c).length:Int))then((fy b (i:Int)).bind fun y=>((f x y).bind fun z=>(bif (z:Int) != 0 then(some z)else(L xs (i+1)))))else k):
 ∀(l pre rest:List G),b=pre++rest->(∀x∈l,∀y∈rest,f x y=some (g x y))->L l pre.length=(match vQ g l rest with|some z=>some z|none=>k):=by
 intro l
 induction l with
 |nil=>intro pre rest h _;rw[wm];cases rest<;>rfl
 |cons x xs ih=>
  intro pre rest h hf;rw[wN];cases rest with
  |nil=>
   have e1:decide ((pre.length:Int)<((b.map c).length:Int))=false:=by simp[h]
   rw[e1];rfl
  |cons y ys=>
   have e1:decide ((pre.length:Int)<((b.map c).length:Int))=true:=by simp[h];omega
   rw[e1,aF,xj h,aA,hf x (by simp) y (by simp),aA];simp only[vQ];have t:=ih (pre++[y]) ys (by simp[h]) (fun x' hx y' hy=>hf x' (by simp[hx]) y' (by simp[hy]));rw[bB,dw]at t;by_cases hz:g x y=0
   ·have e2:(g x y != 0)=false:=by simp[hz]
    rw[e2,aL,t,bE (by simp[hz])]
   ·have e2:(g x y != 0)=true:=by simp[hz]
    rw[e2,aF,bP hz]
theorem P6(x y:Int):(bif decide (x<y)then some (-1:Int)else bif decide (x>y)then some 1 else some 0)=some (IY x y):=by
 unfold IY;by_cases h1:x<y
 ·simp[h1]
 ·by_cases h2:x>y
  ·simp[h1,h2]
  ·simp[h1,h2]
theorem a7T(a b:Bytes):um a b=some (yZ a b):=by
 unfold um yZ;cases h:Op.bytesLess a b with
 |true=>rfl
 |false=>
  by_cases e:a=b
  ·simp[e]
  ·have e':(a==b)=false:=by simpa using e
   simp[e,e']
theorem a7S(a b:Bytes):kY a b=some (Co a b):=by
 unfold kY Co;rw[Te,Te,aA,aA,a7T];unfold pI;cases zL a with
 |none=>cases zL b<;>rfl
 |some x=>
  cases zL b with
  |none=>rfl
  |some y=>
   simp only[aF,bU,aL];exact P6 _ _
theorem a1W(x y:Int):jW x y=some (IY x y):=by
 unfold jW;exact P6 x y
theorem a6g(a b:Bytes):tC a b=some (yZ a b):=by
 unfold tC;show some (Lib.compareBytes a b)=_;rw[Xa]
theorem aB6(a b:Bytes):nr a b=some (Co a b):=by
 unfold nr Co;rw[TA,TA,aA,aA,a6g];unfold pI;cases zL a with
 |none=>cases zL b<;>rfl
 |some x=>
  cases zL b with
  |none=>rfl
  |some y=>
   simp only[aF,a1W,aA]
theorem VH(a b:aD):fw a b=some (oI a b):=by
 unfold fw oI;by_cases h:a.rel=b.rel
 ·have e:(a.rel==b.rel)=true:=by simpa using h
  rw[e,bU,aL,bE (by simpa using h)];have t:=fun k=>P5 (f:=kY) (g:=Co) (c:=tx) (L:=kE a b k) (b:=b.args) (k:=k) (fun _=>rfl) (fun _ _ _=>rfl) a.args [] b.args rfl (fun x _ y _=>a7S x y)
  refine(t _).trans ?_;unfold cmpL;cases vQ Co a.args b.args with
  |some z=>rfl
  |none=>simp only[aj];exact P6 _ _
 ·have e:(a.rel==b.rel)=false:=by simpa using h
  rw[e,bt,aF,bP h,a7T];rfl
theorem a1V(a b:aD):gl a b=some (oI a b):=by
 unfold gl oI;rw[a6g,aA];by_cases h:a.rel=b.rel
 ·have e:(yZ a.rel b.rel != 0)=false:=by rw[h,Rl];rfl
  rw[e,aL,bE (by simpa using h)];have t:=fun k=>P5 (f:=nr) (g:=Co) (c:=tx) (L:=kA a b k) (b:=b.args) (k:=k) (fun _=>rfl) (fun _ _ _=>rfl) a.args [] b.args rfl (fun x _ y _=>aB6 x y)
  refine(t _).trans ?_;unfold cmpL;cases vQ Co a.args b.args with
  |some z=>rfl
  |none=>simp only[aj,a1W,aA]
 ·have e:(yZ a.rel b.rel != 0)=true:=by simpa using Sj h
  rw[e,aF,bP h]
theorem aCj(a b:aV):pW a b=some (cmpL oI a.facts b.facts):=by
 unfold pW;have t:=fun k=>P5 (f:=fw) (g:=oI) (c:=aD.c) (L:=jP a b k) (b:=b.facts) (k:=k) (fun _=>rfl) (fun _ _ _=>rfl) a.facts [] b.facts rfl (fun x _ y _=>VH x y)
 refine(t _).trans ?_;unfold cmpL;cases vQ oI a.facts b.facts with
 |some z=>rfl
 |none=>simp only[aj];exact P6 _ _
theorem aB7(a b:aV):pT a b=some (cmpL oI a.facts b.facts):=by
 unfold pT qJ;have t:=P5 (f:=gl) (g:=oI) (c:=aD.c) (L:=fY a.facts b.facts ((jW ((a.facts.map aD.c).length:Int) ((b.facts.map aD.c).length:Int)).bind fun FP=>(some FP))) (b:=b.facts) (k:=_) (fun _=>rfl) (fun _ _ _=>rfl) a.facts [] b.facts rfl (fun x _ y _=>a1V x y);rw[show fY a.facts b.facts _ a.facts 0=_ from t];unfold cmpL;cases vQ oI a.facts b.facts with
 |some z=>rfl
 |none=>simp only[aj,a1W,aA]
def chainB:Option aD->aJ->Bool
 |_,[]=>true
 |p,x::xs=>pK x&&(match p with|some q=>decide (oI q x<0)|none=>true)&&chainB (some x) xs
def fJ(l:aJ):Bool:=chainB none l&&decide (l.length<=24)
theorem Rb{isF:aD->Option Bool}{cmp:aD->aD->Option Int}{a:aJ}{L:aJ->Nat->Option Bool}{k:Option Bool}(ha:a.length<=1099511627770)(hc:∀x y,cmp x y=some (oI x y))(wm:∀i,L [] i=k)
 (wN:∀x xs i,L (x::xs) i=((isF x).bind fun y=>(bif !(y)then(some false)else(bif decide (((i:Int):Int)>0)then((fy a (IntKind.i64.wrap ((i:Int)-1))).bind fun q=>((cmp q x).bind fun z=>(bif decide ((z:Int)>=0)then(some false)else(L xs (i+1)))))else(L xs (i+1)))))):
 ∀(l pre:aJ),a=pre++l->(∀x∈l,isF x=some (pK x))->L l pre.length=bif chainB pre.getLast? l then k else some false:=by
 intro l
 induction l with
 |nil=>intro pre _ _;rw[wm];rfl
 |cons x xs ih=>
  intro pre h hf;have hl:a.length=pre.length+(xs.length+1):=by rw[h];simp
  have t:=ih (pre++[x]) (by simp[h]) (fun y hy=>hf y (by simp[hy]));rw[bB,dw,pQ]at t;rw[wN,hf x (by simp),aA,t];simp only[chainB];cases pK x with
  |false=>rfl
  |true=>
   rw[bU,aL,fL];rcases zP pre with rfl|⟨p,z,hpz⟩
   ·simp
   ·rw[zO]at hpz;subst hpz;have e0:decide (((p++[z]).length:Int)>0)=true:=by simp<;>omega
    have e1:IntKind.i64.wrap (((p++[z]).length:Int)-1)=(p.length:Int):=by
     rw[eC (qu.i64.2 (by simp at hl⊢;omega))];simp
    have e2:fy a (p.length:Int)=some z:=xj (xs:=x::xs) (by rw[h];simp);rw[e0,aF,e1,e2,aA,hc,aA,pQ];by_cases hz:oI z x<0
    ·have e3:decide (oI z x>=0)=false:=by simp;omega
     rw[e3,aL];show _=bif (decide (oI z x<0)&&chainB (some x) xs)then k else some false
     rw[au hz,fL]
    ·have e3:decide (oI z x>=0)=true:=by simp;omega
     rw[e3,aF];show _=bif (decide (oI z x<0)&&chainB (some x) xs)then k else some false
     rw[ax hz];rfl
theorem a2g(l:aJ)(h:sC aD.wt l<=1048576):qZ l=some (fJ l):=by
 unfold qZ fJ;have hl:=tJ aD.wt l;have t:=Rb (isF:=rD) (cmp:=fw) (a:=l) (L:=mD l (some (decide ((((l.map aD.c).length:Int):Int)<=24)))) (k:=_) (by omega) VH (fun _=>rfl) (fun _ _ _=>rfl) l [] rfl (fun x hx=>a2s x (by have:=qR (w:=aD.wt) hx;omega));refine t.trans ?_;have e:decide (((l.map aD.c).length:Int)<=24)=decide (l.length<=24):=by rw[aj];congr 1;rw[wB];omega
 rw[e];show(bif chainB none l then _ else _)=_;cases chainB none l<;>rfl
theorem a1Q(l:aJ)(h:sC aD.wt l<=1048576):qV l=some (fJ l):=by
 unfold qV fJ;have hl:=tJ aD.wt l;have t:=Rb (isF:=rB) (cmp:=gl) (a:=l) (L:=jT l (some true)) (k:=_) (by omega) a1V (fun _=>rfl) (fun _ _ _=>rfl) l [] rfl (fun x hx=>a1a x (by have:=qR (w:=aD.wt) hx;omega));rw[show jT l (some true) l 0=_ from t];by_cases h24:l.length<=24
 ·have e:decide (((l.map aD.c).length:Int)>24)=false:=by rw[aj];simp;omega
  rw[e,aL,au h24,xP];show(bif chainB none l then _ else _)=_;cases chainB none l<;>rfl
 ·have e:decide (((l.map aD.c).length:Int)>24)=true:=by rw[aj];simp;omega
  rw[e,aF,ax h24,w9]
def PB(b:aP):Prop:=b.length<=1048576/\∀x∈b,x.var.length<=1048576/\x.value.length<=1048576
theorem PB.nil:PB []:=⟨by simp,by simp⟩
def qU:Option aX->aP->Bool
 |_,[]=>true
 |p,x::xs=>fo x.var&&(fV x.value&&((match p with|some q=>Op.bytesLess q.var x.var|none=>true)&&qU (some x) xs))
def iO(b:aP):Bool:=qU none b&&decide (b.length<=6)
theorem Dr{b:aP}(h:iO b=true):b.length<=6:=by
 unfold iO at h;simp only[aS,bH]at h;exact h.2
theorem UG{isV isA:Bytes->Option Bool}{a:aP}{L:aP->Nat->Option Bool}{k:Option Bool}(ha:a.length<=1099511627770)(hV:∀x:Bytes,x.length<=1048576->isV x=some (fo x))(hA:∀x:Bytes,x.length<=1048576->isA x=some (fV x))(wm:∀i,L [] i=k)
 (wN:∀x xs i,L (x::xs) i=((isV x.var).bind fun y=>(bif !(y)then(some false)else((isA x.value).bind fun z=>(bif !(z)then(some false)else(bif decide (((i:Int):Int)>0)then((fy a (IntKind.i64.wrap ((i:Int)-1))).bind fun q=>(bif !(Op.bytesLess q.var x.var)then(some false)else(L xs (i+1))))else(L xs (i+1)))))))):
 ∀(l pre:aP),a=pre++l->(∀x∈l,x.var.length<=1048576/\x.value.length<=1048576)->L l pre.length=bif qU pre.getLast? l then k else some false:=by
 intro l
 induction l with
 |nil=>intro pre _ _;rw[wm];rfl
 |cons x xs ih=>
  intro pre h hf;have hl:a.length=pre.length+(xs.length+1):=by rw[h];simp
  have t:=ih (pre++[x]) (by simp[h]) (fun y hy=>hf y (by simp[hy]));rw[bB,dw,pQ]at t;rw[wN,hV _ (hf x (by simp)).1,aA,hA _ (hf x (by simp)).2,aA,t];simp only[qU];cases fo x.var with
  |false=>rfl
  |true=>
   cases fV x.value with
   |false=>rfl
   |true=>
    simp only[bU,aL,fL];rcases zP pre with rfl|⟨p,z,hpz⟩
    ·simp
    ·rw[zO]at hpz;subst hpz;have e0:decide (((p++[z]).length:Int)>0)=true:=by simp<;>omega
     have e1:IntKind.i64.wrap (((p++[z]).length:Int)-1)=(p.length:Int):=by
      rw[eC (qu.i64.2 (by simp at hl⊢;omega))];simp
     have e2:fy a (p.length:Int)=some z:=xj (xs:=x::xs) (by rw[h];simp);rw[e0,aF,e1,e2,aA,pQ];show _=bif (Op.bytesLess z.var x.var&&qU (some x) xs)then k else some false
     cases Op.bytesLess z.var x.var<;>rfl
theorem YJ(b:aP)(h:PB b):mY b=some (iO b):=by
 unfold mY iO;have t:=fun k=>UG (isV:=ij) (isA:=gT) (a:=b) (L:=ke b k) (k:=k) (by have:=h.1;omega) Tf OV (fun _=>rfl) (fun _ _ _=>rfl) b [] rfl h.2
 refine(t _).trans ?_;have e:decide (((b.map aX.c).length:Int)<=6)=decide (b.length<=6):=by rw[aj];congr 1;rw[wB];omega
 rw[e];show(bif qU none b then _ else _)=_;cases qU none b<;>rfl
theorem Xx(b:aP)(h:PB b):mQ b=some (iO b):=by
 unfold mQ iO;have t:=fun k=>UG (isV:=nN) (isA:=gQ) (a:=b) (L:=jC b k) (k:=k) (by have:=h.1;omega) ZF OG (fun _=>rfl) (fun _ _ _=>rfl) b [] rfl h.2
 rw[show jC b (some true) b 0=_ from t _];by_cases h6:b.length<=6
 ·have e:decide (((b.map aX.c).length:Int)>6)=false:=by rw[aj];simp;omega
  rw[e,aL,au h6,xP];show(bif qU none b then _ else _)=_;cases qU none b<;>rfl
 ·have e:decide (((b.map aX.c).length:Int)>6)=true:=by rw[aj];simp;omega
  rw[e,aF,ax h6,w9]
def dR(t:Bytes):aP->Option Bytes
 | []=>none
 |x::xs=>bif x.var==t then some x.value else dR t xs
def rT(b:aP)(t:Bytes):Bytes×Bool:=bif fV t then(t,true)else bif fo t then(match dR t b with|some v=>(v,true)|none=>([],false))else([],false)
theorem a5u(b:aP)(t:Bytes)(ht:t.length<=1048576):pZ b t=some (rT b t):=by
 unfold pZ rT;have key:∀(l:aP) (i:Nat),jJ b t (some ([],false)) l i=some (bif fo t then(match dR t l with|some v=>(v,true)|none=>([],false))else([],false)):=by
  intro l
  induction l with
  |nil=>intro i;rw[jJ];cases fo t<;>rfl
  |cons x xs ih=>
   intro i;rw[jJ,Tf t ht,aA,ih];simp only[dR];cases x.var==t<;>cases fo t<;>rfl
 rw[OV t ht,aA,key];cases fV t<;>rfl
theorem a5D(b:aP)(t:Bytes)(ht:t.length<=1048576):pU b t=some (rT b t):=by
 unfold pU rT;have key:∀(l:aP) (i:Nat),nQ b t (some ([],false)) l i=some (match dR t l with|some v=>(v,true)|none=>([],false)):=by
  intro l
  induction l with
  |nil=>intro i;rfl
  |cons x xs ih=>
   intro i;rw[nQ,ih];simp only[dR];cases x.var==t<;>rfl
 rw[OG t ht,aA,ZF t ht,aA,key];cases fV t<;>cases fo t<;>rfl
theorem Wo(b:aP)(h:b.length<=1099511627776):tT b=some b:=by
 unfold tT;rw[VG h (by decide)];simp
theorem T7(b:aP)(h:b.length<=1099511627776):j7 b=some b:=by
 unfold j7;rw[VG h (by decide)];simp
def xL(v val:Bytes):aP->aP
 | []=>[⟨v,val⟩]
 |x::xs=>bif !(Op.bytesLess x.var v||x.var==v)then⟨v,val⟩::x::xs else x::xL v val xs
theorem CZ(v val:Bytes)(b:aP):(xL v val b).length=b.length+1:=by
 induction b with
 |nil=>rfl
 |cons x xs ih=>simp only[xL];cases !(Op.bytesLess x.var v||x.var==v)<;>simp[ih]
theorem Qn(v val:Bytes)(b:aP){x:aX}(h:x∈xL v val b):x=⟨v,val⟩\/x∈b:=by
 induction b with
 |nil=>simp[xL]at h;exact .inl h
 |cons y ys ih=>
  simp only[xL]at h;cases hc: !(Op.bytesLess y.var v||y.var==v)with
  |true=>
   rw[hc,aF]at h;rcases bV.1 h with h|h
   ·exact .inl h
   ·exact .inr h
  |false=>
   rw[hc,aL]at h;rcases bV.1 h with h|h
   ·exact .inr (by simp[h])
   ·rcases ih h with h|h
    ·exact .inl h
    ·exact .inr (by simp[h])
theorem YN{I:Type}{v val:Bytes}{L:aP->Nat->Bool->aP->Option I}{k:Bool->aP->Option I}{K:aP->Option I}(hk1:∀w,k true w=K w)(hk2:∀w:aP,w.length<1099511627770->k false w=K (w++[⟨v,val⟩]))(wm:∀i d w,L [] i d w=k d w)
 (wN:∀x xs i d w,L (x::xs) i d w=(bif !(d)then(bif !(Op.bytesLess x.var v||(x.var:Bytes)==v)then(bif room ((w.map aX.c).length+([[D.str v,D.str val]]).length) 32 then(bif room (((w.map aX.c)++([[D.str v,D.str val]])).length+([[D.str x.var,D.str x.value]]).length) 32 then(L xs (i+1) true ((w++([(⟨v,val⟩:aX)]))++([x])))else none)else none)else(bif room ((w.map aX.c).length+([[D.str x.var,D.str x.value]]).length) 32 then(L xs (i+1) d (w++([x])))else none))else(bif room ((w.map aX.c).length+([[D.str x.var,D.str x.value]]).length) 32 then(L xs (i+1) d (w++([x])))else none))):
 ∀(l:aP) (i:Nat) (w:aP),w.length+l.length<1099511627760->L l i false w=K (w++xL v val l):=by
 have c1:∀(l:aP) (i:Nat) (w:aP),w.length+l.length<1099511627765->L l i true w=K (w++l):=by
  intro l
  induction l with
  |nil=>intro i w _;rw[wm,hk1,dV]
  |cons x xs ih=>
   intro i w hw;simp only[aQ]at hw;rw[wN,bU,aL,gF (by omega) (by decide),aF,ih (i+1) (w++[x]) (by simp;omega)];simp
 intro l
 induction l with
 |nil=>intro i w hw;simp only[cE]at hw;rw[wm,hk2 _ (by omega)];rfl
 |cons x xs ih=>
  intro i w hw;simp only[aQ]at hw;have r1:∀y:aR,room ((w.map aX.c).length+([y]).length) 32=true:=fun y=>gF (by omega) (by decide)
  have r2:room (((w.map aX.c)++([[D.str v,D.str val]])).length+([[D.str x.var,D.str x.value]]).length) 32=true:=Ff (by simp;omega) (by decide);have t1:=ih (i+1) (w++[x]) (by simp;omega);have t2:=c1 xs (i+1) ((w++[⟨v,val⟩])++[x]) (by simp;omega);rw[wN,bt,aF,r1,r1,r2];simp only[aF,xL];cases !(Op.bytesLess x.var v||x.var==v)with
  |true=>rw[aF,aF,t2];simp
  |false=>rw[aL,aL,t1];simp
theorem a7g(b:aP)(v val:Bytes)(h:b.length<1099511627700):wj b v val=some (xL v val b):=by
 unfold wj;exact YN (v:=v) (val:=val) (K:=fun w=>some w) (L:=oF b v val (fun(z:Bool) (q:aP)=>(bif !(z)then(bif room ((q.map aX.c).length+([[D.str v,D.str val]]).length) 32 then(some (q++([(⟨v,val⟩:aX)])))else none)else(some q)))) (fun w=>rfl) (fun w hw=>by show(bif !false then _ else _)=_;rw[gF (by omega) (by decide)];rfl) (fun _ _ _=>rfl) (fun _ _ _ _ _=>rfl) b 0 [] (by simp;omega)
def xe(b:aP)(v val:Bytes):aP×Bool:=bif iO b&&(fo v&&fV val)then(match dR v b with|some o=>bif o==val then(b,true)else([],false)|none=>bif decide (b.length=6)then([],false)else(xL v val b,true))else([],false)
theorem Xg{b:aP}{v val:Bytes}(h:PB b)(hv:v.length<=1048576)(hl:val.length<=1048576):PB (xe b v val).1:=by
 unfold xe;cases hb:iO b&&(fo v&&fV val)with
 |false=>exact PB.nil
 |true=>
  rw[aF];have h6:b.length<=6:=Dr (by simp only[aS]at hb;exact hb.1);cases dR v b with
  |some o=>simp only;cases o==val<;>first|exact h|exact PB.nil
  |none=>
   simp only;cases decide (b.length=6)with
   |true=>exact PB.nil
   |false=>
    refine⟨by simp only[aL,CZ];omega,fun x hx=>?_⟩;rcases Qn _ _ _ hx with rfl|hx
    ·exact⟨hv,hl⟩
    ·exact h.2 x hx
theorem aGA(b:aP)(v val:Bytes)(h:PB b)(hv:v.length<=1048576)(hl:val.length<=1048576):vS b v val=some (xe b v val):=by
 unfold vS xe;have hlen:=h.1;rw[YJ b h,aA,Tf v hv,aA,OV val hl,aA,a5u b v hv,aA,Wo b (by omega),aA,a7g b v val (by omega),aA];have e6:((((b.map aX.c).length:Int):Int)==6)=decide (b.length=6):=by
  rw[aj,cK];simp;omega
 rw[e6];cases hb:iO b with
 |false=>rfl
 |true=>
  cases hvv:fo v with
  |false=>rfl
  |true=>
   cases fV val with
   |false=>rfl
   |true=>
    have Gc:rT b v=(match dR v b with|some o=>(o,true)|none=>([],false)):=by unfold rT;rw[ni hvv,hvv];rfl
    rw[Gc];simp only[bU,aL,fL,xP,aF];cases dR v b with
    |some o=>simp only[aF];cases o==val<;>rfl
    |none=>simp only[aL];cases decide (b.length=6)<;>rfl
theorem aBA(b:aP)(v val:Bytes)(h:PB b)(hv:v.length<=1048576)(hl:val.length<=1048576):tN b v val=some (xe b v val):=by
 unfold tN xe;have hlen:=h.1;have t:=(YN (v:=v) (val:=val) (K:=fun w=>some ((w,true):aP×Bool)) (L:=mO b v val (fun(z:Bool) (q:aP)=>(bif !(z)then(bif room ((q.map aX.c).length+([[D.str v,D.str val]]).length) 32 then(some (q++([(⟨v,val⟩:aX)]),true))else none)else(some (q,true))))) (fun w=>rfl) (fun w hw=>by show(bif !false then _ else _)=_;rw[gF (by omega) (by decide)];rfl) (fun _ _ _=>rfl) (fun _ _ _ _ _=>rfl) b 0 [] (by simp;omega))
 rw[Xx b h,aA,ZF v hv,aA,OG val hl,aA,a5D b v hv,aA,T7 b (by omega),aA,t];cases hb:iO b with
 |false=>rfl
 |true=>
  have h6:=Dr hb;have e6:decide ((((b.map aX.c).length:Int):Int)>=6)=decide (b.length=6):=by
   rw[aj];congr 1;rw[wB];omega
  rw[e6];cases hvv:fo v with
  |false=>rfl
  |true=>
   cases fV val with
   |false=>rfl
   |true=>
    have Gc:rT b v=(match dR v b with|some o=>(o,true)|none=>([],false)):=by unfold rT;rw[ni hvv,hvv];rfl
    rw[Gc];simp only[bU,aL,fL,xP,aF];cases dR v b with
    |some o=>simp only[aF];cases o==val<;>rfl
    |none=>simp only[aL];cases decide (b.length=6)<;>rfl
def tZ:aI->aI->aP->aP×Bool
 | [],_,w=>(w,true)
 |_::_,[],_=>([],false)
 |x::xs,y::ys,w=>bif fV x then(bif x==y then tZ xs ys w else([],false))else(bif (xe w x y).2 then tZ xs ys (xe w x y).1 else([],false))
def kM(p f:aD)(b:aP):aP×Bool:=bif w8 p&&(pK f&&(iO b&&(p.rel==f.rel&&decide (p.args.length=f.args.length))))then tZ p.args f.args b else([],false)
theorem TI:∀(l r:aI) (w:aP),PB w->(∀x∈l,x.length<=1048576)->(∀x∈r,x.length<=1048576)->PB (tZ l r w).1
 | [],_,w,h,_,_=>h
 |_::_,[],_,_,_,_=>PB.nil
 |x::xs,y::ys,w,h,hl,hr=>by
  simp only[tZ];have i1:=TI xs ys w h (fun z hz=>hl z (by simp[hz])) (fun z hz=>hr z (by simp[hz]));have i2:=TI xs ys (xe w x y).1 (Xg h (hl x (by simp)) (hr y (by simp))) (fun z hz=>hl z (by simp[hz])) (fun z hz=>hr z (by simp[hz]));cases fV x with
  |true=>cases x==y<;>first|exact i1|exact PB.nil
  |false=>cases(xe w x y).2<;>first|exact i2|exact PB.nil
theorem a5P{p f:aD}{b:aP}(hb:PB b)(hp:p.wt<=1048576)(hf:f.wt<=1048576):PB (kM p f b).1:=by
 unfold kM;cases w8 p&&(pK f&&(iO b&&(p.rel==f.rel&&decide (p.args.length=f.args.length))))with
 |false=>exact PB.nil
 |true=>exact TI _ _ _ hb (fun x hx=>aD.vc hp hx) (fun x hx=>aD.vc hf hx)
theorem Y6{isA:Bytes->Option Bool}{ext:aP->Bytes->Bytes->Option (aP×Bool)}{fa:aI}{L:aI->Nat->aP->Option (aP×Bool)}(hA:∀x:Bytes,x.length<=1048576->isA x=some (fV x))(hE:∀w x y,PB w->x.length<=1048576->y.length<=1048576->ext w x y=some (xe w x y))(wm:∀i w,L [] i w=some (w,true))
 (wN:∀x xs i w,L (x::xs) i w=((isA x).bind fun y=>(bif y then((fy fa (i:Int)).bind fun z=>(bif !((x:Bytes)==z)then(some ([],false))else(L xs (i+1) w)))else((fy fa (i:Int)).bind fun z=>((ext w x z).bind fun q=>(bif !(q.2)then(some ([],false))else(L xs (i+1) q.1))))))):
 ∀(l pre rest:aI) (w:aP),fa=pre++rest->l.length=rest.length->(∀x∈l,x.length<=1048576)->(∀x∈rest,x.length<=1048576)->PB w->L l pre.length w=some (tZ l rest w):=by
 intro l
 induction l with
 |nil=>intro pre rest w _ _ _ _ _;rw[wm];simp[tZ]
 |cons x xs ih=>
  intro pre rest w h hl hx hr hw;cases rest with
  |nil=>simp at hl
  |cons y ys=>
   have t:=fun w' hw'=>ih (pre++[y]) ys w' (by simp[h]) (by simpa using hl) (fun z hz=>hx z (by simp[hz])) (fun z hz=>hr z (by simp[hz])) hw'
   simp only[bB,dw]at t;rw[wN,hA x (hx x (by simp)),aA,xj h,aA,aA,hE w x y hw (hx x (by simp)) (hr y (by simp)),aA];simp only[tZ];cases fV x with
   |true=>
    simp only[aF];cases x==y with
    |true=>simp only[bU,aL,aF];exact t w hw
    |false=>rfl
   |false=>
    simp only[aL];cases hq:(xe w x y).2 with
    |true=>simp only[bU,aL,aF];exact t _ (Xg hw (hx x (by simp)) (hr y (by simp)))
    |false=>rfl
theorem a1u(a b:aI):((((a.map tx).length:Int):Int) != ((b.map tx).length:Int))= !decide (a.length=b.length):=by
 rw[aj,aj];by_cases h:a.length=b.length
 ·simp[h]
 ·rw[ax h];simp;omega
theorem a9S(p f:aD)(b:aP)(hp:p.wt<=1048576)(hf:f.wt<=1048576)(hb:PB b):kH p f b=some (kM p f b):=by
 unfold kH kM;have hlen:=hb.1;rw[a9U p hp,aA,a2s f hf,aA,YJ b hb,aA,Wo b (by omega),aA,a1u];cases w8 p with
 |false=>rfl
 |true=>
  cases pK f with
  |false=>rfl
  |true=>
   cases iO b with
   |false=>rfl
   |true=>
    cases p.rel==f.rel with
    |false=>rfl
    |true=>
     by_cases h:p.args.length=f.args.length
     ·rw[au h];have t:=Y6 (isA:=gT) (ext:=vS) (fa:=f.args) (L:=kn p f (fun(q:aP)=>(some (q,true)))) OV (fun w x y hw hx hy=>aGA w x y hw hx hy) (fun _ _=>rfl) (fun _ _ _ _=>rfl) p.args [] f.args b rfl h (fun x hx=>aD.vc hp hx) (fun x hx=>aD.vc hf hx) hb;exact t
     ·rw[ax h];rfl
theorem a8m(p f:aD)(b:aP)(hp:p.wt<=1048576)(hf:f.wt<=1048576)(hb:PB b):kD p f b=some (kM p f b):=by
 unfold kD kM;have hlen:=hb.1;rw[a8n p hp,aA,a1a f hf,aA,Xx b hb,aA,T7 b (by omega),aA,a1u];cases w8 p with
 |false=>rfl
 |true=>
  cases pK f with
  |false=>rfl
  |true=>
   cases iO b with
   |false=>rfl
   |true=>
    cases p.rel==f.rel with
    |false=>rfl
    |true=>
     by_cases h:p.args.length=f.args.length
     ·rw[au h];have t:=Y6 (isA:=gQ) (ext:=tN) (fa:=f.args) (L:=kT p f (fun(q:aP)=>(some (q,true)))) OG (fun w x y hw hx hy=>aBA w x y hw hx hy) (fun _ _=>rfl) (fun _ _ _ _=>rfl) p.args [] f.args b rfl h (fun x hx=>aD.vc hp hx) (fun x hx=>aD.vc hf hx) hb;exact t
     ·rw[ax h];rfl
def ltB(l r:Bytes):Bool:=match zL l,zL r with|some x,some y=>decide (x<y)|_,_=>false
def WC(c:aU)(b:aP):Bool:=Jr c&&(iO b&&((rT b c.left).2&&((rT b c.right).2&&(bif decide (c.kind=3)then(rT b c.left).1==(rT b c.right).1 else bif decide (c.kind=4)then !((rT b c.left).1==(rT b c.right).1)else ltB (rT b c.left).1 (rT b c.right).1))))
theorem AA(a b:Int):(a==b)=decide (a=b):=by rw[cK];simp
theorem aCp(c:aU)(b:aP)(hc:c.wt<=1048576)(hb:PB b):uO c b=some (WC c b):=by
 unfold uO WC;rw[a3B c hc,aA,YJ b hb,aA,a5u b c.left (aU.DC hc),aA,a5u b c.right (aU.Ae hc),aA,AA,AA];cases Jr c with
 |false=>rfl
 |true=>
  cases iO b with
  |false=>rfl
  |true=>
   cases(rT b c.left).2 with
   |false=>rfl
   |true=>
    cases(rT b c.right).2 with
    |false=>rfl
    |true=>
     cases decide (c.kind=3)with
     |true=>rfl
     |false=>
      cases decide (c.kind=4)with
      |true=>rfl
      |false=>
       simp only[bU,aL,fL];unfold vL ltB;rw[Te,aA,aA,Te,aA,aA,a7S,aA];unfold pI Co;cases zL (rT b c.left).1 with
       |none=>rfl
       |some x=>
        cases zL (rT b c.right).1 with
        |none=>rfl
        |some y=>
         simp only[aF]
         congr 1
         unfold IY;by_cases h:x<y
         ·have h1:(x:Int)<y:=by omega
          simp[h1,h]
         ·have h1:¬(x:Int)<y:=by omega
          by_cases h2:(x:Int)>y
          ·simp[h1,h,h2]
          ·simp[h1,h,h2]
theorem aBH(c:aU)(b:aP)(hc:c.wt<=1048576)(hb:PB b):uA c b=some (WC c b):=by
 unfold uA WC;rw[aBS c hc,aA,Xx b hb,aA,a5D b c.left (aU.DC hc),aA,a5D b c.right (aU.Ae hc),aA,AA,AA];cases Jr c with
 |false=>rfl
 |true=>
  cases iO b with
  |false=>rfl
  |true=>
   cases(rT b c.left).2 with
   |false=>rfl
   |true=>
    cases(rT b c.right).2 with
    |false=>rfl
    |true=>
     cases decide (c.kind=3)with
     |true=>rfl
     |false=>
      cases decide (c.kind=4)with
      |true=>rfl
      |false=>
       simp only[bU,aL,fL];unfold ltB;rw[TA,aA,TA,aA];unfold pI;cases zL (rT b c.left).1 with
       |none=>rfl
       |some x=>
        cases zL (rT b c.right).1 with
        |none=>rfl
        |some y=>
         simp only[aF]
         congr 1
         by_cases h:x<y
         ·simp[h]
         ·simp[h]
def sB(p:aD)(b:aP)(fs:aJ):aJ:=fs.filter fun f=>(kM p f b).2
def FS(fs:aJ):Prop:=fs.length<=1048576/\∀f∈fs,f.wt<=1048576
theorem Xk{I:Type}{mf:aD->Option (aP×Bool)}{cp:aD->Option aD}{p:aD}{b:aP}{L:aJ->Nat->aJ->Option I}{k:aJ->Option I}(hm:∀f:aD,f.wt<=1048576->mf f=some (kM p f b))(hc:∀f:aD,f.wt<=1048576->cp f=some f)(wm:∀i w,L [] i w=k w)
 (wN:∀x xs i w,L (x::xs) i w=((mf x).bind fun y=>(bif y.2 then((cp x).bind fun z=>(bif room ((w.map aD.c).length+([[D.str z.rel,D.sl (z.args.map tx)]]).length) 40 then(L xs (i+1) (w++([z])))else none))else(L xs (i+1) w)))):
 ∀(l:aJ) (i:Nat) (w:aJ),(∀f∈l,f.wt<=1048576)->w.length+l.length<1099511627700->L l i w=k (w++sB p b l):=by
 intro l
 induction l with
 |nil=>intro i w _ _;rw[wm];simp[sB]
 |cons x xs ih=>
  intro i w hl hw;simp only[aQ]at hw;have hx:=hl x (by simp);rw[wN,hm x hx,aA,hc x hx,aA,gF (by omega) (by decide),aF];have e:sB p b (x::xs)=bif (kM p x b).2 then x::sB p b xs else sB p b xs:=by
   unfold sB;rw[Dn];cases(kM p x b).2<;>rfl
  rw[e];cases(kM p x b).2 with
  |true=>rw[aF,aF,ih _ _ (fun f hf=>hl f (by simp[hf])) (by simp;omega)];simp
  |false=>rw[aL,aL,ih _ _ (fun f hf=>hl f (by simp[hf])) (by omega)]
theorem a5i(p:aD)(b:aP)(fs:aJ)(hp:p.wt<=1048576)(hb:PB b)(hf:FS fs):gM p b fs=some (sB p b fs):=by
 unfold gM;have h1:=hf.1;refine(Xk (mf:=fun f=>kH p f b) (cp:=eE) (p:=p) (b:=b) (L:=iD p b fs _) (k:=fun q=>some q) (fun f h=>a9S p f b hp h hb) (fun f h=>zv f (by have:=aD.dZ h;omega)) (fun _ _=>rfl) (fun _ _ _ _=>rfl) fs 0 [] hf.2 (by simp;omega)).trans ?_;simp
theorem aBC(p:aD)(b:aP)(fs:aJ)(hp:p.wt<=1048576)(hb:PB b)(hf:FS fs):jU p b fs=some (sB p b fs):=by
 unfold jU;have h1:=hf.1;refine(Xk (mf:=fun f=>kD p f b) (cp:=er) (p:=p) (b:=b) (L:=iA p b fs _) (k:=fun q=>some q) (fun f h=>a8m p f b hp h hb) (fun f h=>Nd f (by have:=aD.dZ h;omega)) (fun _ _=>rfl) (fun _ _ _ _=>rfl) fs 0 [] hf.2 (by simp;omega)).trans ?_;simp
def zm(c:aU)(b:aP)(fs:aJ):Bool:=pR c&&(iO b&&(bif decide (c.kind=1)then decide (0<(sB c.pat b fs).length)else bif decide (c.kind=2)then decide ((sB c.pat b fs).length=0)else WC c b))
theorem a1t(l:aJ):decide ((((l.map aD.c).length:Int):Int)>0)=decide (0<l.length):=by rw[aj];congr 1;rw[wB];omega
theorem len_eq(l:aJ):((((l.map aD.c).length:Int):Int)==0)=decide (l.length=0):=by rw[aj,AA];congr 1;rw[wB];omega
theorem aCo(c:aU)(b:aP)(fs:aJ)(hc:c.wt<=1048576)(hb:PB b)(hf:FS fs):uN c b fs=some (zm c b fs):=by
 unfold uN zm;rw[a2j c hc,aA,YJ b hb,aA,a5i c.pat b fs (aU.gV hc) hb hf,aA,aA,aCp c b hc hb,aA,AA,AA,a1t,len_eq];cases pR c with
 |false=>rfl
 |true=>
  cases iO b with
  |false=>rfl
  |true=>cases decide (c.kind=1)<;>cases decide (c.kind=2)<;>rfl
theorem aBG(c:aU)(b:aP)(fs:aJ)(hc:c.wt<=1048576)(hb:PB b)(hf:FS fs):u9 c b fs=some (zm c b fs):=by
 unfold u9 zm;rw[a1X c hc,aA,Xx b hb,aA,aBC c.pat b fs (aU.gV hc) hb hf,aA,aA,aBH c b hc hb,aA,AA,AA,a1t,len_eq];cases pR c with
 |false=>rfl
 |true=>
  cases iO b with
  |false=>rfl
  |true=>cases decide (c.kind=1)<;>cases decide (c.kind=2)<;>rfl
def Fix(h:Bytes->Bytes):Prop:=∀y,fV y=true->h y=y
def Cov(a b:aD):Prop:=w8 a=true/\w8 b=true/\a.rel=b.rel/\∃h,b.args=a.args.map h/\Fix h
theorem tD{t v val:Bytes}(h:v≠t):∀(w:aP),dR t (xL v val w)=dR t w
 | []=>by
  have:(v==t)=false:=by simpa using h
  simp only[xL,dR,this,aL]
 |x::xs=>by
  have hv:(v==t)=false:=by simpa using h
  rw[xL];cases !(Op.bytesLess x.var v||x.var==v)with
  |true=>rw[aF,dR];simp only[hv,aL]
  |false=>rw[aL,dR,dR,tD h xs]
theorem zl{v val:Bytes}:∀(w:aP),dR v w=none->dR v (xL v val w)=some val
 | [],_=>by simp[xL,dR]
 |x::xs,h=>by
  rw[dR]at h;rw[xL];cases hx:x.var==v with
  |true=>rw[hx]at h;cases h
  |false=>
   rw[hx,aL]at h;cases !(Op.bytesLess x.var v||false)with
   |true=>rw[aF,dR];simp
   |false=>rw[aL,dR,hx,aL];exact zl xs h
theorem yV{t o:Bytes}:∀ {w:aP},dR t w=some o->∃p∈w,p.var=t/\p.value=o
 |x::xs,h=>by
  rw[dR]at h;cases hx:x.var==t with
  |true=>rw[hx,aF]at h;cases h;exact⟨x,by simp,by simpa using hx,rfl⟩
  |false=>
   rw[hx,aL]at h;obtain⟨p,hp,h1⟩:=yV h;exact⟨p,by simp[hp],h1⟩
theorem Pv{t:Bytes}:∀ {w:aP},dR t w=none->∀p∈w,p.var≠t
 |x::xs,h,p,hp=>by
  rw[dR]at h;cases hx:x.var==t with
  |true=>rw[hx]at h;cases h
  |false=>
   rw[hx,aL]at h;rcases bV.1 hp with rfl|hp
   ·simpa using hx
   ·exact Pv h p hp
theorem sU(p:Option aX)(x:aX)(xs:aP):qU p (x::xs)=(fo x.var&&(fV x.value&&((match p with|some q=>Op.bytesLess q.var x.var|none=>true)&&qU (some x) xs))):=by
 cases p<;>rfl
theorem Rf{v val:Bytes}(hv:fo v=true)(ha:fV val=true):∀(w:aP) (p:Option aX),qU p w=true->dR v w=none->(∀q,p=some q->Op.bytesLess q.var v=true)->qU p (xL v val w)=true
 | [],p,_,_,hp=>by
  simp only[xL,qU,hv,ha,fL,xP];cases p with
  |none=>rfl
  |some q=>exact hp q rfl
 |x::xs,p,hc,hf,hp=>by
  rw[sU]at hc;simp only[aS]at hc;obtain⟨c1,c2,c3,c4⟩:=hc;rw[dR]at hf;cases hx:x.var==v with
  |true=>rw[hx]at hf;cases hf
  |false=>
   rw[hx,aL]at hf;rw[xL,hx,A6];cases hl:Op.bytesLess x.var v with
   |true=>
    rw[bU,aL,sU];simp only[aS];exact⟨c1,c2,c3,Rf hv ha xs (some x) c4 hf (fun q hq=>by cases hq;exact hl)⟩
   |false=>
    have h2:Op.bytesLess v x.var=true:=by
     cases h3:Op.bytesLess v x.var with
     |true=>rfl
     |false=>
      have:=Gn hl h3;rw[this]at hx;simp at hx
    rw[bt,aF,sU];simp only[aS];refine⟨hv,ha,?_,?_⟩
    ·cases p with
     |none=>rfl
     |some q=>exact hp q rfl
    ·rw[sU];simp only[aS];exact⟨c1,c2,h2,c4⟩
theorem Ds{v val:Bytes}{w:aP}(hv:fo v=true)(ha:fV val=true)(hb:iO w=true)(hf:dR v w=none)(hl:w.length≠6):iO (xL v val w)=true:=by
 have h6:=Dr hb;unfold iO at hb⊢;rw[aS]at hb⊢;exact⟨Rf hv ha w none hb.1 hf (fun q h=>by cases h),by rw[CZ];simp;omega⟩
theorem CT:∀(l r:aI) (w:aP),l.length=r.length->(∀p∈w,fo p.var=true)->(tZ l r w).2=true->∃h,(∀v o,dR v w=some o->h v=o)/\r=l.map h/\Fix h
 | [],[],w,_,hk,_=>by
  refine⟨fun y=>match dR y w with|some o=>o|none=>y,fun v o ho=>by simp only[ho],rfl,fun y hy=>?_⟩;cases hf:dR y w with
  |none=>simp only[hf]
  |some o=>
   obtain⟨p,hp,h1,_⟩:=yV hf;have:=hk p hp;rw[h1]at this;rw[ni this]at hy;cases hy
 |x::xs,y::ys,w,hl,hk,hm=>by
  simp only[tZ]at hm;cases hx:fV x with
  |true=>
   rw[hx,aF]at hm;cases hxy:x==y with
   |false=>rw[hxy]at hm;cases hm
   |true=>
    rw[hxy,aF]at hm;obtain⟨h,h1,h2,h3⟩:=CT xs ys w (by simpa using hl) hk hm;have:x=y:=by simpa using hxy
    exact⟨h,h1,by rw[bA,h3 x hx,<-this,<-h2],h3⟩
  |false=>
   rw[hx,aL]at hm;cases he:(xe w x y).2 with
   |false=>rw[he]at hm;cases hm
   |true=>
    rw[he,aF]at hm;have key:fo x=true/\((dR x w=some y/\(xe w x y).1=w)\/(dR x w=none/\(xe w x y).1=xL x y w)):=by
     unfold xe at he⊢;cases hc:iO w&&(fo x&&fV y)with
     |false=>rw[hc]at he;cases he
     |true=>
      rw[hc,aF]at he;simp only[aS]at hc;refine⟨hc.2.1,?_⟩;rw[aF];cases hf:dR x w with
      |some o=>
       rw[hf]at he;simp only at he⊢;cases ho:o==y with
       |false=>rw[ho]at he;cases he
       |true=>exact .inl ⟨by rw[show o=y from by simpa using ho],rfl⟩
      |none=>
       rw[hf]at he;simp only at he⊢;cases hd:decide (w.length=6)with
       |true=>rw[hd]at he;cases he
       |false=>exact .inr ⟨by first|trivial|rfl,by first|rfl|trivial⟩
    obtain⟨hv,aAX⟩:=key;rcases aAX with⟨hf,h1⟩|⟨hf,h1⟩
    ·rw[h1]at hm;obtain⟨h,k1,k2,k3⟩:=CT xs ys w (by simpa using hl) hk hm;exact⟨h,k1,by rw[bA,k1 x y hf,<-k2],k3⟩
    ·rw[h1]at hm;obtain⟨h,k1,k2,k3⟩:=CT xs ys (xL x y w) (by simpa using hl) (fun p hp=>by
      rcases Qn x y w hp with h|h
      ·rw[h];exact hv
      ·exact hk p h) hm
     refine⟨h,fun v o ho=>?_,by rw[bA,k1 x y (zl w hf),<-k2],k3⟩;refine k1 v o ?_;rw[tD (fun e=>?_),ho];rw[e,ho]at hf;cases hf
 | [],_::_,_,hl,_,_=>by simp at hl
 |_::_,[],_,hl,_,_=>by simp at hl
theorem MR(h:Bytes->Bytes)(a4s:Fix h):∀(l:aI) (w:aP),(∀x∈l,nB x=true)->(∀x∈l,fV (h x)=true)->iO w=true->w.length+l.length<=6->(∀v o,dR v w=some o->h v=o)->(tZ l (l.map h) w).2=true
 | [],_,_,_,_,_,_=>rfl
 |x::xs,w,ht,ha,hb,hl,hw=>by
  simp only[aQ]at hl;rw[bA];simp only[tZ];have ht':∀y∈xs,nB y=true:=fun y hy=>ht y (by simp[hy])
  have ha':∀y∈xs,fV (h y)=true:=fun y hy=>ha y (by simp[hy])
  cases hx:fV x with
  |true=>
   rw[aF,a4s x hx,oT,aF];exact MR h a4s xs w ht' ha' hb (by omega) hw
  |false=>
   have hv:fo x=true:=by
    have:=ht x (by simp);unfold nB at this;rw[hx,r9]at this;exact this
   have hax:=ha x (by simp);rw[aL];unfold xe;rw[hb,hv,hax];simp only[fL,aF];cases hf:dR x w with
   |some o=>
    have:=hw x o hf;simp only[this,oT,aF];exact MR h a4s xs w ht' ha' hb (by omega) hw
   |none=>
    have h6:w.length≠6:=by omega
    simp only[ax h6,aL,aF];refine MR h a4s xs (xL x (h x) w) ht' ha' (Ds hv hax hb hf h6) (by rw[CZ];omega) (fun v o ho=>?_);by_cases e:x=v
    ·subst e;rw[zl w hf]at ho;cases ho;rfl
    ·rw[tD e]at ho;exact hw v o ho
theorem QS{p f:aD}:(kM p f []).2=true↔w8 p=true/\pK f=true/\p.rel=f.rel/\∃h,f.args=p.args.map h/\Fix h:=by
 unfold kM;constructor
 ·intro hm;cases hc:w8 p&&(pK f&&(iO []&&(p.rel==f.rel&&decide (p.args.length=f.args.length))))with
  |false=>rw[hc]at hm;cases hm
  |true=>
   rw[hc,aF]at hm;simp only[aS,cr,bH]at hc;obtain⟨c1,c2,_,c4,c5⟩:=hc;obtain⟨h,_,h2,h3⟩:=CT p.args f.args [] c5 (by simp) hm;exact⟨c1,c2,c4,h,h2,h3⟩
 ·rintro⟨c1,c2,c4,h,h2,h3⟩;have c5:p.args.length=f.args.length:=by rw[h2];simp
  rw[c1,c2,show iO []=true from rfl,c4,oT,au c5];simp only[xP,aF];have c1':=c1;unfold w8 at c1';simp only[aS,bH]at c1';unfold pK at c2;simp only[aS]at c2;rw[h2];refine MR h h3 p.args [] (fun x hx=>b8.1 c1'.1 x hx) (fun x hx=>?_) rfl (by simp;omega) (fun v o ho=>by simp[dR]at ho);exact b8.1 c2.1 _ (by rw[h2];exact cJ.2 ⟨x,hx,rfl⟩)
theorem a4f{p q f:aD}(hc:Cov p q)(hm:(kM q f []).2=true):(kM p f []).2=true:=by
 obtain⟨c1,c2,c3,h,h2,h3⟩:=hc;obtain⟨m1,m2,m3,k,k2,k3⟩:=QS.1 hm;refine QS.2 ⟨c1,m2,c3.trans m3,fun x=>k (h x),?_,fun y hy=>by show k (h y)=y;rw[h3 y hy,k3 y hy]⟩;rw[k2,h2,sS];rfl
theorem PL{p:aD}(h:w8 p=true):∀t∈p.args,nB t=true:=by
 unfold w8 at h;rw[aS]at h;exact fun t ht=>b8.1 h.1 t ht
theorem zJ(l:aJ)(h:l.length<=1048576)(hf:∀f∈l,f.args.length<=1048576):dO l=some l:=by
 unfold dO;refine(GW (c:=aD.c) (b:=40) (f:=eE) (g:=fun x=>x) (L:=ot l _) (k:=fun q=>some q) (by decide) (fun _ _=>rfl) (fun _ _ _ _=>rfl) l 0 [] (fun f h=>zv f (by have:=hf f h;omega)) (by simp;omega)).trans ?_;simp
theorem wO(l:aJ)(h:l.length<=1048576)(hf:∀f∈l,f.args.length<=1048576):cm l=some l:=by
 unfold cm;refine(GW (c:=aD.c) (b:=40) (f:=er) (g:=fun x=>x) (L:=ny l _) (k:=fun q=>some q) (by decide) (fun _ _=>rfl) (fun _ _ _ _=>rfl) l 0 [] (fun f h=>Nd f (by have:=hf f h;omega)) (by simp;omega)).trans ?_;simp
def TK(n:Nat)(t:aV):Prop:=t.facts.length<=n/\(∀f∈t.facts,f.wt<=1048576)/\PB t.bind
theorem TK.le{n m:Nat}{t:aV}(h:TK n t)(hm:n<=m):TK m t:=⟨by have:=h.1;omega,h.2⟩
theorem a2k(t:aV)(h:TK 1048576 t):tV t=some t:=by
 unfold tV;rw[zJ t.facts h.1 (fun f hf=>by have:=aD.dZ (h.2.1 f hf);omega),aA,Wo t.bind (by have:=h.2.2.1;omega),aA]
def ext1(c:aU)(t:aV)(f:aD):ar:=bif (kM c.pat f t.bind).2 then [⟨t.facts++[f],(kM c.pat f t.bind).1⟩]else []
def BZ(c:aU)(fs:aJ)(t:aV):ar:=bif decide (c.kind=1)then fs.flatMap (ext1 c t)else bif zm c t.bind fs then [t]else []
def sH(fs:aJ)(l:ar)(c:aU):ar:=l.flatMap (BZ c fs)
def rS(cs:ay)(fs:aJ):ar:=cs.foldl (sH fs) [⟨[],[]⟩]
theorem a0x(c:aU)(t:aV)(f:aD):(ext1 c t f).length<=1:=by unfold ext1;cases(kM c.pat f t.bind).2<;>simp
theorem Pq(c:aU)(t:aV)(fs:aJ):(fs.flatMap (ext1 c t)).length<=fs.length:=by
 induction fs with
 |nil=>simp
 |cons f fs ih=>rw[cw,bB];have:=a0x c t f;simp only[aQ];omega
theorem QY(c:aU)(fs:aJ)(t:aV):(BZ c fs t).length<=fs.length+1:=by
 unfold BZ;cases decide (c.kind=1)with
 |true=>have:=Pq c t fs;rw[aF];omega
 |false=>cases zm c t.bind fs<;>simp
theorem QZ(fs:aJ)(l:ar)(c:aU):(sH fs l c).length<=l.length*(fs.length+1):=by
 unfold sH
 induction l with
 |nil=>simp
 |cons t l ih=>rw[cw,bB,aQ,L9];have:=QY c fs t;omega
theorem a5V{c:aU}{fs:aJ}{t:aV}{n:Nat}(h:TK n t)(hc:c.wt<=1048576)(hf:FS fs):∀u∈BZ c fs t,TK (n+1) u:=by
 intro u hu;unfold BZ at hu;cases hk:decide (c.kind=1)with
 |false=>
  rw[hk,aL]at hu;cases hh:zm c t.bind fs with
  |false=>rw[hh]at hu;cases hu
  |true=>
   rw[hh,aF,cH]at hu;subst hu;exact h.le (by omega)
 |true=>
  rw[hk,aF]at hu;obtain⟨f,hf1,hu⟩:=cB.1 hu;unfold ext1 at hu;cases hm:(kM c.pat f t.bind).2 with
  |false=>rw[hm]at hu;cases hu
  |true=>
   rw[hm,aF,cH]at hu;subst hu;refine⟨by have:=h.1;simp;omega,?_,a5P h.2.2 (aU.gV hc) (hf.2 f hf1)⟩;intro g hg;rcases aW.1 hg with hg|hg
   ·exact h.2.1 g hg
   ·rw[cH]at hg;rw[hg];exact hf.2 f hf1
theorem TM{c:aU}{fs:aJ}{l:ar}{n:Nat}(h:∀t∈l,TK n t)(hc:c.wt<=1048576)(hf:FS fs):∀u∈sH fs l c,TK (n+1) u:=by
 intro u hu;obtain⟨t,ht,hu⟩:=cB.1 hu;exact a5V (h t ht) hc hf u hu
theorem Xh{I:Type}{mf:aD->Option (aP×Bool)}{cps:Option aJ}{cp:aD->Option aD}{c:aU}{t:aV}{L:aJ->Nat->ar->Option I}{k:ar->Option I}(hm:∀f:aD,f.wt<=1048576->mf f=some (kM c.pat f t.bind))(hcs:cps=some t.facts)(hc:∀f:aD,f.wt<=1048576->cp f=some f)(ht:t.facts.length<=1048576)(wm:∀i w,L [] i w=k w)
 (wN:∀x xs i w,L (x::xs) i w=((mf x).bind fun y=>(bif y.2 then(cps.bind fun q=>((cp x).bind fun z=>(bif room ((q.map aD.c).length+([[D.str z.rel,D.sl (z.args.map tx)]]).length) 40 then(bif room ((w.map aV.c).length+([[D.sl ((q.map aD.c)++([[D.str z.rel,D.sl (z.args.map tx)]])),D.sl (y.1.map aX.c)]]).length) 48 then(L xs (i+1) (w++([(⟨q++([z]),y.1⟩:aV)])))else none)else none)))else(L xs (i+1) w)))):
 ∀(l:aJ) (i:Nat) (w:ar),(∀f∈l,f.wt<=1048576)->w.length+l.length<1099511627770->L l i w=k (w++l.flatMap (ext1 c t)):=by
 intro l
 induction l with
 |nil=>intro i w _ _;rw[wm];simp
 |cons x xs ih=>
  intro i w hl hw;simp only[aQ]at hw;have hx:=hl x (by simp);rw[wN,hm x hx,aA,hcs,aA,hc x hx,aA,gF (by omega) (by decide),aF,gF (by omega) (by decide),aF,cw];rw[show ext1 c t x=bif (kM c.pat x t.bind).2 then [⟨t.facts++[x],(kM c.pat x t.bind).1⟩]else []from rfl];cases(kM c.pat x t.bind).2 with
  |true=>rw[aF,aF,ih _ _ (fun f hf=>hl f (by simp[hf])) (by simp;omega)];simp
  |false=>rw[aL,aL,ih _ _ (fun f hf=>hl f (by simp[hf])) (by omega)];simp
theorem Y3(c:aU):((c.kind:Int) != 1)= !decide (c.kind=1):=by
 show(!((c.kind:Int)==1))=_;rw[AA]
theorem a9T(l0:ar)(c:aU)(fs:aJ)(k:ar->Option ar)(hc:c.wt<=1048576)(hf:FS fs):∀(l:ar) (i:Nat) (w:ar),(∀t∈l,TK 1048576 t)->w.length+l.length*(fs.length+1)<1099511627700->jA l0 c fs k l i w=k (w++sH fs l c):=by
 intro l;have h1:=hf.1
 induction l with
 |nil=>intro i w _ _;rw[jA];simp[sH]
 |cons t l ih=>
  intro i w hl hw;rw[aQ,L9]at hw;have ht:=hl t (by simp);have e:sH fs (t::l) c=BZ c fs t++sH fs l c:=by simp[sH]
  have hn:=QY c fs t;have he:=Pq c t fs;rw[jA,Y3,aCo c t.bind fs hc ht.2.2 hf,aA,a2k t ht,aA,gF (by omega) (by decide),aF,sE (by omega),aF,e];rw[Xh (mf:=fun f=>kH c.pat f t.bind) (cps:=dO t.facts) (cp:=eE) (c:=c) (t:=t) (L:=pE l0 c fs i t _) (k:=_) (fun f h=>a9S c.pat f t.bind (aU.gV hc) h ht.2.2) (zJ t.facts ht.1 (fun f hf=>by have:=aD.dZ (ht.2.1 f hf);omega)) (fun f h=>zv f (by have:=aD.dZ h;omega)) ht.1 (fun _ _=>rfl) (fun _ _ _ _=>rfl) fs 0 w hf.2 (by omega)];unfold BZ;cases decide (c.kind=1)with
  |true=>simp only[bU,aL,aF];rw[ih _ _ (fun u hu=>hl u (by simp[hu])) (by rw[bB];omega)];simp
  |false=>
   simp only[bt,aF,aL];cases zm c t.bind fs with
   |true=>simp only[aF];rw[ih _ _ (fun u hu=>hl u (by simp[hu])) (by rw[bB];simp;omega)];simp
   |false=>simp only[aL];rw[ih _ _ (fun u hu=>hl u (by simp[hu])) (by omega)];simp
theorem a2z(l:ar)(c:aU)(fs:aJ)(hc:c.wt<=1048576)(hf:FS fs)(hl:∀t∈l,TK 1048576 t)(hn:l.length*(fs.length+1)<1099511627700):tW l c fs=some (sH fs l c):=by
 unfold tW;rw[a9T l c fs _ hc hf l 0 [] hl (by simpa using hn)];simp
theorem TP:∀t∈[(⟨[],[]⟩:aV)],TK 0 t:=by
 intro t ht;rw[cH]at ht;subst ht;exact⟨by simp,by simp,PB.nil⟩
theorem a2R{n:Nat}(h:n<=4):[(⟨[],[]⟩:aV)].length*25^n<=390625:=by
 have:=wA (n:=25) (by decide) h;simp only[dw,rA];exact this
theorem a9e(c0:ay)(fs:aJ)(k:ar->Option ar)(hf:FS fs)(h24:fs.length<=24):∀(cs:ay) (i:Nat) (w:ar) (n:Nat),(∀c∈cs,c.wt<=1048576)->(∀t∈w,TK n t)->n+cs.length<=1048576->w.length*25^cs.length<=390625->mK c0 fs k cs i w=k (cs.foldl (sH fs) w):=by
 intro cs
 induction cs with
 |nil=>intro i w n _ _ _ _;rfl
 |cons c cs ih=>
  intro i w n hc hw hn hl;simp only[aQ]at hn;rw[aQ,yf,Eg (25^cs.length) 25,<-Jd]at hl;have hp:1<=25^cs.length:=Nat.one_le_pow _ _ (by decide);have PE:w.length*25<=390625:=eY (Dq _ hp) hl;have h25:w.length*(fs.length+1)<=w.length*25:=dY _ (by omega);rw[mK,a2z w c fs (hc c (by simp)) hf (fun t ht=>(hw t ht).le (by omega)) (by omega),aA];refine ih _ _ (n+1) (fun x hx=>hc x (by simp[hx])) (TM hw (hc c (by simp)) hf) (by omega) ?_;exact eY (fN _ (eY (QZ fs w c) h25)) hl
theorem a7h(cs:ay)(fs:aJ)(hc:∀c∈cs,c.wt<=1048576)(h4:cs.length<=4)(hf:FS fs)(h24:fs.length<=24):qf cs fs=some (rS cs fs):=by
 unfold qf;exact a9e cs fs _ hf h24 cs 0 _ 0 hc TP (by omega) (a2R h4)
theorem a5C(c0:ay)(fs:aJ)(w0:ar)(i1:Nat)(c:aU)(k:ar->Option ar)(hc:c.wt<=1048576)(hf:FS fs):∀(l:ar) (i:Nat) (w:ar),(∀t∈l,TK 1048576 t)->w.length+l.length*(fs.length+1)<1099511627700->gS c0 fs w0 i1 c k l i w=k (w++sH fs l c):=by
 intro l;have h1:=hf.1
 induction l with
 |nil=>intro i w _ _;rw[gS];simp[sH]
 |cons t l ih=>
  intro i w hl hw;rw[aQ,L9]at hw;have ht:=hl t (by simp);have e:sH fs (t::l) c=BZ c fs t++sH fs l c:=by simp[sH]
  have hn:=QY c fs t;have he:=Pq c t fs;rw[gS,Y3,aBG c t.bind fs hc ht.2.2 hf,aA,gF (by omega) (by decide),aF,sE (by omega),aF,e];rw[Xh (mf:=fun f=>kD c.pat f t.bind) (cps:=cm t.facts) (cp:=er) (c:=c) (t:=t) (L:=mC c0 fs i w0 t i1 c _) (k:=_) (fun f h=>a8m c.pat f t.bind (aU.gV hc) h ht.2.2) (wO t.facts ht.1 (fun f hf=>by have:=aD.dZ (ht.2.1 f hf);omega)) (fun f h=>Nd f (by have:=aD.dZ h;omega)) ht.1 (fun _ _=>rfl) (fun _ _ _ _=>rfl) fs 0 w hf.2 (by omega)];unfold BZ;cases decide (c.kind=1)with
  |true=>simp only[bU,aL,aF];rw[ih _ _ (fun u hu=>hl u (by simp[hu])) (by rw[bB];omega)];simp
  |false=>
   simp only[bt,aF,aL];cases zm c t.bind fs with
   |true=>simp only[aF];rw[ih _ _ (fun u hu=>hl u (by simp[hu])) (by rw[bB];simp;omega)];simp
   |false=>simp only[aL];rw[ih _ _ (fun u hu=>hl u (by simp[hu])) (by omega)];simp
theorem a8t(c0:ay)(fs:aJ)(k:ar->Option ar)(hf:FS fs)(h24:fs.length<=24):∀(cs:ay) (i:Nat) (w:ar) (n:Nat),(∀c∈cs,c.wt<=1048576)->(∀t∈w,TK n t)->n+cs.length<=1048576->w.length*25^cs.length<=390625->mB c0 fs k cs i w=k (cs.foldl (sH fs) w):=by
 intro cs
 induction cs with
 |nil=>intro i w n _ _ _ _;rfl
 |cons c cs ih=>
  intro i w n hc hw hn hl;simp only[aQ]at hn;rw[aQ,yf,Eg (25^cs.length) 25,<-Jd]at hl;have hp:1<=25^cs.length:=Nat.one_le_pow _ _ (by decide);have PE:w.length*25<=390625:=eY (Dq _ hp) hl;have h25:w.length*(fs.length+1)<=w.length*25:=dY _ (by omega);rw[mB,sE (by omega),aF,a5C c0 fs w i c _ (hc c (by simp)) hf w 0 [] (fun t ht=>(hw t ht).le (by omega)) (by simp only[cE];omega),eM];refine ih _ _ (n+1) (fun x hx=>hc x (by simp[hx])) (TM hw (hc c (by simp)) hf) (by omega) ?_;exact eY (fN _ (eY (QZ fs w c) h25)) hl
theorem aBT(cs:ay)(fs:aJ)(hc:∀c∈cs,c.wt<=1048576)(h4:cs.length<=4)(hf:FS fs)(h24:fs.length<=24):vI cs fs=some (rS cs fs):=by
 unfold vI;exact a8t cs fs _ hf h24 cs 0 _ 0 hc TP (by omega) (a2R h4)
theorem Nv{r:aO}(h:fR r=true):r.conds.length<=4:=by
 unfold fR at h;simp only[aS,bH]at h;omega
theorem Pk{r:aO}:∀ {l:ay} {i:Nat},ug r l i=true->∀c∈l,pR c=true
 | [],_,_,c,hc=>by cases hc
 |x::xs,i,h,c,hc=>by
  simp only[ug,aS]at h;rcases bV.1 hc with rfl|hc
  ·exact h.1.1.1
  ·exact Pk h.2 c hc
theorem DE{r:aO}(h:fR r=true):∀c∈r.conds,pR c=true:=by
 unfold fR at h;simp only[aS]at h;exact Pk h.2.1
theorem qF{l:aJ}(h:fJ l=true):l.length<=24:=by
 unfold fJ at h;simp only[aS,bH]at h;exact h.2
theorem aCX{n:Nat}{a:Int}(h0:0<=a)(h1:a.toNat<=n):yF n none (some (D.int .i64 a))=some (0,a.toNat):=by
 unfold yF;simp only[bP (show 0<=a/\a.toNat<=n from⟨h0,h1⟩)]
def tkO(r:aO)(n:Int)(fs:aJ):ar:=bif fR r&&(fJ fs&&(decide (n>=0)&&decide (n<=(r.conds.length:Int))))then rS (r.conds.take n.toNat) fs else []
def cnt(r:aO)(fs:aJ)(n:Nat):Int:=((rS (r.conds.take n) fs).length:Int)
theorem a9j{r:aO}{fs:aJ}(h1:fR r=true)(h2:fJ fs=true){j:Nat}(hj:j<=r.conds.length):tkO r (j:Int) fs=rS (r.conds.take j) fs:=by
 unfold tkO;rw[h1,h2];have e1:decide ((j:Int)>=0)=true:=by simp
 have e2:decide ((j:Int)<=(r.conds.length:Int))=true:=by simp;omega
 rw[e1,e2];simp
def mtB(r:aO)(fs:aJ):bL:=(tkO r (r.conds.length:Int) fs).map fun t=>⟨r.name,t.facts,t.bind⟩
theorem Qv{cs:ay}{fs:aJ}(h4:cs.length<=4)(h24:fs.length<=24):(rS cs fs).length<=390625:=by
 have key:∀(cs:ay) (w:ar),w.length*25^cs.length<=390625->(cs.foldl (sH fs) w).length<=390625:=by
  intro cs
  induction cs with
  |nil=>intro w h;simpa using h
  |cons c cs ih=>
   intro w h;rw[aQ,yf,Eg (25^cs.length) 25,<-Jd]at h;refine ih _ ?_;have h25:w.length*(fs.length+1)<=w.length*25:=dY _ (by omega);exact eY (fN _ (eY (QZ fs w c) h25)) h
 exact key cs _ (a2R h4)
theorem a63(r:aO)(n:Int)(fs:aJ):(tkO r n fs).length<=390625:=by
 unfold tkO;cases h1:fR r with
 |false=>simp
 |true=>
  cases h2:fJ fs with
  |false=>simp
  |true=>
   have h4:=Nv h1;cases(decide (n>=0)&&decide (n<=(r.conds.length:Int)))with
   |false=>simp
   |true=>exact Qv (by rw[cU];omega) (qF h2)
theorem S3(a b:aq):((a.rule==b.rule)&&(decide (a.facts=b.facts)&&decide (a.bind=b.bind)))=decide (a=b):=by
 cases a;cases b;rw[cK];simp
theorem a9Z(a b:aq):uP a b=some (decide (a=b)):=by
 unfold uP;rw[PI,aA,a36,aA,<-S3];cases a.rule==b.rule<;>cases decide (a.facts=b.facts)<;>rfl
theorem a8q(a b:aq):uB a b=some (decide (a=b)):=by
 unfold uB;rw[MK,aA,a1d,aA,<-S3];cases a.rule==b.rule<;>cases decide (a.facts=b.facts)<;>rfl
theorem UC{all:az}:∀ {l:az} {i:Nat},LK all l i=true->∀r∈l,fR r=true
 | [],_,_,r,hr=>by cases hr
 |x::xs,i,h,r,hr=>by
  simp only[LK,aS]at h;rcases bV.1 hr with rfl|hr
  ·exact h.1.1
  ·exact UC h.2 r hr
theorem oP{l:az}(h:qT l=true):∀r∈l,fR r=true:=by
 unfold qT at h;simp only[aS]at h;exact UC h.1
theorem Nk:∀(a b:aI),a.Nodup->(∀x∈a,x∈b)->a.length<=b.length
 | [],b,_,_=>Gh _
 |x::xs,b,hn,hs=>by
  rw[gw]at hn;have h1:=Nk xs (b.erase x) hn.2 fun y hy=>(List.mem_erase_of_ne (fun e=>hn.1 (by rw[<-e];exact hy))).2 (hs y (by simp[hy]))
  have h2:=xR (hs x (by simp));have h3:0<b.length:=Ef (hs x (by simp));simp only[aQ];omega
theorem LL{x:Bytes}(h:fV x=true):fo x=false:=by
 cases hv:fo x with
 |false=>rfl
 |true=>rw[ni hv]at h;cases h
theorem Nw{r:aO}(h:fR r=true):(fT (Au r.conds)).length<=6:=by
 unfold fR at h;simp only[aS,bH]at h;omega
theorem Du{c:aU}(hc:pR c=true)(hk:c.kind=1\/c.kind=2):w8 c.pat=true/\c.left=[]/\c.right=[]:=by
 unfold pR at hc;have:(decide (c.kind=1)||decide (c.kind=2))=true:=by simpa using hk
 rw[this,aF]at hc;simp only[aS,cr]at hc;exact⟨hc.1,hc.2.1,hc.2.2⟩
theorem Pg{c:aU}(hc:pR c=true)(h1:c.kind≠1)(h2:c.kind≠2):(decide (c.kind=3)||decide (c.kind=4)||decide (c.kind=5))=true/\EZ c.pat=true/\nB c.left=true/\nB c.right=true:=by
 unfold pR at hc;rw[ax h1,ax h2,A6,aL]at hc;cases h:(decide (c.kind=3)||decide (c.kind=4)||decide (c.kind=5))with
 |false=>rw[h]at hc;cases hc
 |true=>
  rw[h,aF]at hc;simp only[aS]at hc;exact⟨rfl,hc.1,hc.2.1,hc.2.2⟩
theorem O8{p:Option aX}{b:aP}(h:qU p b=true):qU none b=true:=by
 cases b with
 |nil=>rfl
 |cons x xs=>
  rw[sU]at h⊢;simp only[aS]at h⊢
  first|exact⟨h.1,h.2.1,rfl,h.2.2.2⟩|exact⟨h.1,h.2.1,h.2.2.2⟩|exact⟨h.1,h.2.1,trivial,h.2.2.2⟩
theorem LO:∀ {b:aP} {p:aX},qU (some p) b=true->∀x∈b,Op.bytesLess p.var x.var=true
 |y::ys,p,h,x,hx=>by
  rw[sU]at h;simp only[aS]at h;rcases bV.1 hx with rfl|hx
  ·exact h.2.2.1
  ·exact AH h.2.2.1 (LO h.2.2.2 x hx)
theorem O9:∀ {b:aP} {p:Option aX},qU p b=true->(b.map aX.var).Nodup
 | [],_,_=>by simp
 |x::xs,p,h=>by
  rw[sU]at h;simp only[aS]at h;rw[bA,gw];refine⟨fun hm=>?_,O9 h.2.2.2⟩;obtain⟨q,hq,e⟩:=cJ.1 hm;have:=LO h.2.2.2 q hq;rw[e,sJ]at this;cases this
theorem uZ{b:aP}(h:iO b=true):qU none b=true:=by
 unfold iO at h;rw[aS]at h;exact h.1
theorem Bh:∀ {b:aP} {p:Option aX},qU p b=true->∀x∈b,fo x.var=true/\fV x.value=true
 |y::ys,p,h,x,hx=>by
  rw[sU]at h;simp only[aS]at h;rcases bV.1 hx with rfl|hx
  ·exact⟨h.1,h.2.1⟩
  ·exact Bh h.2.2.2 x hx
theorem Rc:∀ {a b:aP},qU none a=true->qU none b=true->(∀v,dR v a=dR v b)->a=b
 | [],[],_,_,_=>rfl
 | [],y::ys,_,_,h=>by have:=h y.var;simp[dR]at this
 |x::xs,[],_,_,h=>by have:=h x.var;simp[dR]at this
 |x::xs,y::ys,ha,hb,h=>by
  have ha0:=ha;have hb0:=hb;rw[sU]at ha hb;simp only[aS]at ha hb;have key:∀ {u v:aX} {us vs:aP},qU (some u) us=true->qU (some v) vs=true->(∀t,dR t (u::us)=dR t (v::vs))->Op.bytesLess u.var v.var=false:=by
   intro u v us vs hu hv ht;cases hl:Op.bytesLess u.var v.var with
   |false=>rfl
   |true=>
    have h1:=ht u.var;rw[show dR u.var (u::us)=some u.value by simp[dR]]at h1;obtain⟨q,hq,e,_⟩:=yV h1.symm;rcases bV.1 hq with rfl|hq
    ·rw[e,sJ]at hl;cases hl
    ·have:=AH hl (LO hv q hq);rw[e,sJ]at this;cases this
  have e1:=key ha.2.2.2 hb.2.2.2 h;have e2:=key hb.2.2.2 ha.2.2.2 (fun t=>(h t).symm);have ev:x.var=y.var:=Gn e1 e2;have e3:x.value=y.value:=by
   have:=h x.var;rw[show dR x.var (x::xs)=some x.value by simp[dR],show dR x.var (y::ys)=some y.value by simp[dR,ev]]at this;exact lQ this
  have e4:x=y:=by cases x;cases y;cases ev;cases e3;rfl
  subst e4
  congr 1
  refine Rc (O8 ha.2.2.2) (O8 hb.2.2.2) fun v=>?_
  by_cases hv:x.var=v
  ·have n1:∀ {l:aP},qU (some x) l=true->dR v l=none:=by
    intro l hl;cases hf:dR v l with
    |none=>rfl
    |some o=>
     obtain⟨q,hq,e,_⟩:=yV hf;have:=LO hl q hq;rw[hv,e,sJ]at this;cases this
   rw[n1 ha.2.2.2,n1 hb.2.2.2]
  ·have:=h v;have hne:(x.var==v)=false:=by rw[dA];exact hv
   rw[dR,dR,hne,aL,aL]at this;exact this
structure WB(U:List Bytes)(b:List aX):Prop where
 ok:iO b=true
 sub:∀p∈b,p.var∈U
theorem WB.nil(U:aI):WB U []:=⟨rfl,fun p h=>by cases h⟩
theorem WB.room{U:aI}(hU:U.length<=6){b:aP}(h:WB U b){x:Bytes}(hx:x∈U)(hf:dR x b=none):b.length≠6:=by
 have h1:(x::b.map aX.var).length<=U.length:=Nk _ _ (by
  rw[gw];refine⟨fun hm=>?_,O9 (uZ h.ok)⟩;obtain⟨p,hp,e⟩:=cJ.1 hm;exact Pv hf p hp e) (fun y hy=>by
  rcases bV.1 hy with rfl|hy
  ·exact hx
  ·obtain⟨p,hp,rfl⟩:=cJ.1 hy;exact h.sub p hp)
 simp only[aQ,aj]at h1;omega
theorem WB.set{U:aI}(hU:U.length<=6){b:aP}(h:WB U b){x y:Bytes}(hx:x∈U)(hv:fo x=true)(ha:fV y=true)(hf:dR x b=none):WB U (xL x y b):=
 ⟨Ds hv ha h.ok hf (h.room hU hx hf),fun p hp=>by
  rcases Qn x y b hp with e|e
  ·rw[e];exact hx
  ·exact h.sub p e⟩
theorem WB.ext{U:aI}{a b:aP}(ha:WB U a)(hb:WB U b)(h:∀v,dR v a=dR v b):a=b:=Rc (uZ ha.ok) (uZ hb.ok) h
theorem a4j{U:aI}(hU:U.length<=6){b:aP}(h:WB U b){x y:Bytes}(hx:x∈U)(hv:fo x=true):xe b x y=if fV y=true then(match dR x b with|some o=>bif o==y then(b,true)else([],false)|none=>(xL x y b,true))else([],false):=by
 unfold xe;rw[h.ok,hv];simp only[fL];cases ha:fV y with
 |false=>rfl
 |true=>
  rw[aF,bP rfl];cases hf:dR x b with
  |some o=>rfl
  |none=>dsimp only;rw[ax (h.room hU hx hf),aL]
def Says(h:Bytes->Bytes)(b:aP):Prop:=∀v o,dR v b=some o->h v=o
theorem wk{x y v:Bytes}{b:aP}(hf:dR x b=none):dR v (xL x y b)=if v=x then some y else dR v b:=by
 by_cases e:v=x
 ·subst e;rw[bP rfl,zl _ hf]
 ·rw[bE e,tD (fun e2=>e e2.symm)]
theorem a22{U:aI}(hU:U.length<=6):∀(l r:aI) (b:aP),WB U b->(∀x∈l,nB x=true)->(∀x∈l,fo x=true->x∈U)->(∀y∈r,fV y=true)->l.length=r.length->
 ((tZ l r b).2=true↔∃h,Says h b/\Fix h/\r=l.map h)/\((tZ l r b).2=true->WB U (tZ l r b).1/\∀v o,(dR v (tZ l r b).1=some o↔dR v b=some o\/(v∈l/\fo v=true/\∀h,Says h b->Fix h->r=l.map h->h v=o))):=by
 intro l
 induction l with
 |nil=>
  intro r b hb _ _ _ hl;have hr:r=[]:=by cases r with|nil=>rfl|cons _ _=>simp at hl
  subst hr;refine⟨⟨fun _=>?_,fun _=>rfl⟩,fun _=>⟨hb,fun v o=>⟨fun h=>.inl h,fun h=>?_⟩⟩⟩
  ·refine⟨fun y=>(dR y b).getD y,fun v o ho=>by simp[ho],fun y hy=>?_,rfl⟩;cases hf:dR y b with
   |none=>simp[hf]
   |some o=>
    obtain⟨p,hp,h1,_⟩:=yV hf;have:=(Bh (uZ hb.ok) p hp).1;rw[h1]at this;rw[ni this]at hy;cases hy
  ·rcases h with h|⟨h,_⟩
   ·exact h
   ·cases h
 |cons x xs ih=>
  intro r b hb ht hv PC hl;cases r with
  |nil=>simp at hl
  |cons y ys=>
   have ht':∀z∈xs,nB z=true:=fun z hz=>ht z (by simp[hz])
   have hv':∀z∈xs,fo z=true->z∈U:=fun z hz=>hv z (by simp[hz])
   have ha':∀z∈ys,fV z=true:=fun z hz=>PC z (by simp[hz])
   have hl':xs.length=ys.length:=by simpa using hl
   have hay:=PC y (by simp);cases hx:fV x with
   |true=>
    have Xw:=LL hx;cases hxy:x==y with
    |false=>
     have e:tZ (x::xs) (y::ys) b=([],false):=by simp only[tZ,hx,hxy,aF,aL]
     rw[e];refine⟨⟨fun h=>(by cases h),?_⟩,fun h=>(by cases h)⟩;rintro⟨h,_,h2,h3⟩;rw[bA,h2 x hx]at h3;have:x=y:=(nG h3).1.symm;rw[this]at hxy;simp at hxy
    |true=>
     have exy:x=y:=by simpa using hxy
     have e:tZ (x::xs) (y::ys) b=tZ xs ys b:=by simp only[tZ,hx,hxy,aF]
     rw[e];obtain⟨i1,i2⟩:=ih ys b hb ht' hv' ha' hl';have hh:∀h:Bytes->Bytes,Fix h->(y::ys=(x::xs).map h↔ys=xs.map h):=by
      intro h hf;rw[bA,hf x hx,exy];exact⟨fun q=>(nG q).2,fun q=>by rw[<-q]⟩
     refine⟨⟨fun h=>?_,?_⟩,fun h=>?_⟩
     ·obtain⟨g,g1,g2,g3⟩:=i1.1 h;exact⟨g,g1,g2,(hh g g2).2 g3⟩
     ·rintro⟨g,g1,g2,g3⟩;exact i1.2 ⟨g,g1,g2,(hh g g2).1 g3⟩
     ·obtain⟨k1,k2⟩:=i2 h;refine⟨k1,fun v o=>(k2 v o).trans ⟨?_,?_⟩⟩
      ·rintro(q|⟨q1,q2,q3⟩)
       ·exact .inl q
       ·exact .inr ⟨by simp[q1],q2,fun g g1 g2 g3=>q3 g g1 g2 ((hh g g2).1 g3)⟩
      ·rintro(q|⟨q1,q2,q3⟩)
       ·exact .inl q
       ·rcases bV.1 q1 with rfl|q1
        ·rw[Xw]at q2;cases q2
        ·exact .inr ⟨q1,q2,fun g g1 g2 g3=>q3 g g1 g2 ((hh g g2).2 g3)⟩
   |false=>
    have Xw:fo x=true:=by have:=ht x (by simp);unfold nB at this;rw[hx]at this;simpa using this
    have hxU:=hv x (by simp) Xw;have ee:=a4j hU hb (y:=y) hxU Xw;rw[bP hay]at ee;cases hf:dR x b with
    |some o=>
     rw[hf]at ee;dsimp only at ee;cases ho:o==y with
     |false=>
      rw[ho,aL]at ee;have e:tZ (x::xs) (y::ys) b=([],false):=by simp only[tZ,hx,aL,ee]
      rw[e];refine⟨⟨fun h=>(by cases h),?_⟩,fun h=>(by cases h)⟩;rintro⟨h,h1,h2,h3⟩;rw[bA,h1 x o hf]at h3;have:o=y:=(nG h3).1.symm;rw[this]at ho;simp at ho
     |true=>
      have eo:o=y:=by simpa using ho
      rw[ho,aF]at ee;have e:tZ (x::xs) (y::ys) b=tZ xs ys b:=by simp only[tZ,hx,aL,ee,aF]
      rw[e];obtain⟨i1,i2⟩:=ih ys b hb ht' hv' ha' hl';have hh:∀h:Bytes->Bytes,Says h b->(y::ys=(x::xs).map h↔ys=xs.map h):=by
       intro h h1;rw[bA,h1 x o hf,eo];exact⟨fun q=>(nG q).2,fun q=>by rw[<-q]⟩
      refine⟨⟨fun h=>?_,?_⟩,fun h=>?_⟩
      ·obtain⟨g,g1,g2,g3⟩:=i1.1 h;exact⟨g,g1,g2,(hh g g1).2 g3⟩
      ·rintro⟨g,g1,g2,g3⟩;exact i1.2 ⟨g,g1,g2,(hh g g1).1 g3⟩
      ·obtain⟨k1,k2⟩:=i2 h;refine⟨k1,fun v q=>(k2 v q).trans ⟨?_,?_⟩⟩
       ·rintro(q1|⟨q1,q2,q3⟩)
        ·exact .inl q1
        ·exact .inr ⟨by simp[q1],q2,fun g g1 g2 g3=>q3 g g1 g2 ((hh g g1).1 g3)⟩
       ·rintro(q1|⟨q1,q2,q3⟩)
        ·exact .inl q1
        ·rcases bV.1 q1 with rfl|q1
         ·obtain⟨g,g1,g2,g3⟩:=i1.1 h;have:=q3 g g1 g2 ((hh g g1).2 g3);rw[g1 v o hf]at this;subst this;exact .inl hf
         ·exact .inr ⟨q1,q2,fun g g1 g2 g3=>q3 g g1 g2 ((hh g g1).2 g3)⟩
    |none=>
     rw[hf]at ee;dsimp only at ee;have e:tZ (x::xs) (y::ys) b=tZ xs ys (xL x y b):=by simp only[tZ,hx,aL,ee,aF]
     rw[e];obtain⟨i1,i2⟩:=ih ys (xL x y b) (hb.set hU hxU Xw hay hf) ht' hv' ha' hl';have hs:∀h:Bytes->Bytes,Says h (xL x y b)↔Says h b/\h x=y:=by
      intro h;constructor
      ·intro q;refine⟨fun v o ho=>q v o ?_,q x y (zl _ hf)⟩;rw[wk hf,bE (fun e=>by rw[e,hf]at ho;cases ho)];exact ho
      ·rintro⟨q1,q2⟩ v o ho;rw[wk hf]at ho;by_cases e:v=x
       ·rw[bP e]at ho;cases ho;rw[e];exact q2
       ·rw[bE e]at ho;exact q1 v o ho
     have hh:∀h:Bytes->Bytes,(y::ys=(x::xs).map h↔h x=y/\ys=xs.map h):=by
      intro h;rw[bA];exact⟨fun q=>⟨(nG q).1.symm,(nG q).2⟩,fun q=>by rw[q.1,<-q.2]⟩
     refine⟨⟨fun h=>?_,?_⟩,fun h=>?_⟩
     ·obtain⟨g,g1,g2,g3⟩:=i1.1 h;obtain⟨g1,g4⟩:=(hs g).1 g1;exact⟨g,g1,g2,(hh g).2 ⟨g4,g3⟩⟩
     ·rintro⟨g,g1,g2,g3⟩;obtain⟨g4,g3⟩:=(hh g).1 g3;exact i1.2 ⟨g,(hs g).2 ⟨g1,g4⟩,g2,g3⟩
     ·obtain⟨k1,k2⟩:=i2 h;refine⟨k1,fun v q=>(k2 v q).trans ⟨?_,?_⟩⟩
      ·rintro(q1|⟨q1,q2,q3⟩)
       ·rw[wk hf]at q1;by_cases ev:v=x
        ·rw[bP ev]at q1;cases q1;refine .inr ⟨by simp[ev],by rw[ev];exact Xw,fun g g1 g2 g3=>by rw[ev];exact((hh g).1 g3).1⟩
        ·rw[bE ev]at q1;exact .inl q1
       ·refine .inr ⟨by simp[q1],q2,fun g g1 g2 g3=>?_⟩;obtain⟨g4,g3⟩:=(hh g).1 g3;exact q3 g ((hs g).2 ⟨g1,g4⟩) g2 g3
      ·rintro(q1|⟨q1,q2,q3⟩)
       ·left
        rw[wk hf,bE (fun e=>by rw[e,hf]at q1;cases q1)];exact q1
       ·by_cases ev:v=x
        ·left
         obtain⟨g,g1,g2,g3⟩:=i1.1 h;obtain⟨g1,g4⟩:=(hs g).1 g1;have:=q3 g g1 g2 ((hh g).2 ⟨g4,g3⟩);rw[ev,g4]at this;rw[wk hf,bP ev,this]
        ·rcases bV.1 q1 with q1|q1
         ·exact absurd q1 ev
         ·refine .inr ⟨q1,q2,fun g g1 g2 g3=>?_⟩;obtain⟨g1,g4⟩:=(hs g).1 g1;exact q3 g g1 g2 ((hh g).2 ⟨g4,g3⟩)
def Fits(p f:aD)(h:Bytes->Bytes):Prop:=pK f=true/\p.rel=f.rel/\f.args=p.args.map h
theorem a23{U:aI}(hU:U.length<=6){p f:aD}{b:aP}(hb:WB U b)(hp:w8 p=true)(hv:∀x∈p.args,fo x=true->x∈U):
 ((kM p f b).2=true↔∃h,Says h b/\Fix h/\Fits p f h)/\((kM p f b).2=true->WB U (kM p f b).1/\∀v o,(dR v (kM p f b).1=some o↔dR v b=some o\/(v∈p.args/\fo v=true/\∀h,Says h b->Fix h->Fits p f h->h v=o))):=by
 cases hc:w8 p&&(pK f&&(iO b&&(p.rel==f.rel&&decide (p.args.length=f.args.length))))with
 |false=>
  have e:kM p f b=([],false):=by unfold kM;rw[hc];rfl
  rw[e];refine⟨⟨fun h=>(by cases h),?_⟩,fun h=>(by cases h)⟩;rintro⟨h,_,_,h1,h2,h3⟩;rw[hp,h1,hb.ok,h2,oT,au (by rw[h3];simp)]at hc;cases hc
 |true=>
  have e:kM p f b=tZ p.args f.args b:=by unfold kM;rw[hc];rfl
  simp only[aS,cr,bH]at hc;obtain⟨_,c2,_,c4,c5⟩:=hc;have PC:∀y∈f.args,fV y=true:=by
   unfold pK at c2;rw[aS]at c2;exact b8.1 c2.1
  obtain⟨i1,i2⟩:=a22 hU p.args f.args b hb (PL hp) hv PC c5;rw[e];have hf:∀h,Fits p f h↔f.args=p.args.map h:=fun h=>⟨fun q=>q.2.2,fun q=>⟨c2,c4,q⟩⟩
  refine⟨⟨fun h=>?_,?_⟩,fun h=>?_⟩
  ·obtain⟨g,g1,g2,g3⟩:=i1.1 h;exact⟨g,g1,g2,(hf g).2 g3⟩
  ·rintro⟨g,g1,g2,g3⟩;exact i1.2 ⟨g,g1,g2,(hf g).1 g3⟩
  ·obtain⟨k1,k2⟩:=i2 h;refine⟨k1,fun v o=>(k2 v o).trans ⟨?_,?_⟩⟩
   ·rintro(q|⟨q1,q2,q3⟩)
    ·exact .inl q
    ·exact .inr ⟨q1,q2,fun g g1 g2 g3=>q3 g g1 g2 ((hf g).1 g3)⟩
   ·rintro(q|⟨q1,q2,q3⟩)
    ·exact .inl q
    ·exact .inr ⟨q1,q2,fun g g1 g2 g3=>q3 g g1 g2 ((hf g).2 g3)⟩
theorem Pj{r:aO}:∀ {pre rest:ay} {c:aU} {i:Nat},ug r (pre++c::rest) i=true->pR c=true/\(i+pre.length=0->c.kind=1)/\∀v∈sV c,Ol r (i+pre.length) c v=true
 | [],rest,c,i,h=>by
  rw[eM]at h;unfold ug at h;rw[RZ]at h;simp only[aS,qS,kw,qE,bH]at h;refine⟨h.1.1.1,fun e=>?_,fun v hv=>b8.1 h.1.2 v hv⟩;rcases h.1.1.2 with q|q
  ·exact absurd (by simpa using e) q
  ·exact q
 |x::pre,rest,c,i,h=>by
  rw[tv]at h;unfold ug at h;rw[aS]at h;have:=Pj h.2;rw[aQ,show i+(pre.length+1)=i+1+pre.length by omega];exact this
theorem TW{r:aO}(h:fR r=true):ug r r.conds 0=true:=by
 unfold fR at h;simp only[aS]at h;exact h.2.1
def Ym(sh:aD):bQ->Nat->Option Nat
 | [],_=>none
 |x::xs,i=>if x.shape=sh then some i else Ym sh xs (i+1)
def XO(al:bQ)(sh:aD):bQ×Int:=match Ym sh al 0 with
 |some i=>(al,dS i)
 |none=>(al++[⟨sh,[]⟩],dS al.length)
theorem OY{n:Nat}(h:n<=1099511627776):IntKind.i64.wrap (((n+1:Nat):Int)-1)=dS n:=by
 unfold dS;rw[eC (qu.i64.2 (by omega))];omega
theorem aG7(n:aH)(sh:aD)(k:Option (aH×Int)):∀(l:bQ) (i:Nat),nc n sh k l i=match Ym sh l i with|some j=>some (n,dS j)|none=>k:=by
 intro l
 induction l with
 |nil=>intro i;rfl
 |cons x l ih=>
  intro i;rw[nc,Wv,aA,ih,Ym];by_cases h:x.shape=sh
  ·rw[au h,aF,bP h];rfl
  ·rw[ax h,aL,bE h]
theorem sAl(n:aH)(sh:aD)(h:n.bG.length<=1048576):uT n sh=some (⟨n.rules,n.ends,(XO n.bG sh).1,n.nodes,n.facts,n.cP⟩,(XO n.bG sh).2):=by
 unfold uT;rw[sE (by omega),aF,aG7,gF (by omega) (by decide),aF];unfold XO;cases Ym sh n.bG 0 with
 |some j=>rfl
 |none=>
  dsimp only;rw[show((n.bG.map ai.c)++[[D.str sh.rel,D.sl (sh.args.map tx),D.sl []]]).length=n.bG.length+1 by simp,OY (by omega)]
theorem aFl(n:aH)(sh:aD)(k:Option (aH×Int)):∀(l:bQ) (i:Nat),fW n sh k l i=match Ym sh l i with|some j=>some (n,dS j)|none=>k:=by
 intro l
 induction l with
 |nil=>intro i;rfl
 |cons x l ih=>
  intro i;rw[fW,QC,aA,ih,Ym];by_cases h:x.shape=sh
  ·rw[au h,aF,bP h];rfl
  ·rw[ax h,aL,bE h]
theorem iAl(n:aH)(sh:aD)(h:n.bG.length<=1048576):jO n sh=some (⟨n.rules,n.ends,(XO n.bG sh).1,n.nodes,n.facts,n.cP⟩,(XO n.bG sh).2):=by
 unfold jO;rw[sE (by omega),aF,aFl,gF (by omega) (by decide),aF];unfold XO;cases Ym sh n.bG 0 with
 |some j=>rfl
 |none=>
  dsimp only;rw[show((n.bG.map ai.c)++[[D.str sh.rel,D.sl (sh.args.map tx),D.sl []]]).length=n.bG.length+1 by simp,OY (by omega)]
def RD(p:Int)(c:aU):bN->Nat->Option Nat
 | [],_=>none
 |x::xs,i=>if 0<i/\x.parent=p/\x.cond=c then some i else RD p c xs (i+1)
def Ra(al:bQ)(c:aU):bQ×Int:=if c.kind=1\/c.kind=2 then XO al (vm c.pat)else(al, -1)
def Mw(al:bQ)(ns:bN)(p:Int)(c:aU):(bQ×bN)×Int:=match RD p c ns 0 with
 |some i=>((al,ns),dS i)
 |none=>(((Ra al c).1,ns++[⟨p,c,(Ra al c).2,[]⟩]),dS ns.length)
theorem UL(p:Int)(c:aU)(ns:bN):RD p c ns 0=RD p c (ns.drop 1) 1:=by
 cases ns with
 |nil=>rfl
 |cons x ns=>rw[RD,bE (fun h=>by omega)];rfl
def ZU(n:aH)(z:(bQ×bN)×Int):aH×Int:=(⟨n.rules,n.ends,z.1.1,z.1.2,n.facts,n.cP⟩,z.2)
theorem aG9(n:aH)(p:Int)(c:aU)(k:Option (aH×Int))(hn:n.nodes.length<=1048576):∀(d v fu:Nat),v+d=n.nodes.length+1->1<=v->d<fu->iM n p c k fu (v:Int)=match RD p c (n.nodes.drop v) v with|some j=>some (n,dS j)|none=>k:=by
 intro d
 induction d with
 |zero=>
  intro v fu hv h1 hf;obtain⟨fu,rfl⟩:∃m,fu=m+1:=⟨fu-1,by omega⟩
  rw[iM,aj,ax (by omega),aL,nK (by omega)];rfl
 |succ d ih=>
  intro v fu hv h1 hf;obtain⟨fu,rfl⟩:∃m,fu=m+1:=⟨fu-1,by omega⟩
  by_cases hl:v<n.nodes.length
  ·have hx:n.nodes[v]?=some n.nodes[v]:=av hl;have e3:fy n.nodes (v:Int)=some n.nodes[v]:=by unfold fy;rw[au (by omega),aF];exact hx
   rw[oM hl,RD,iM,aj,au (by omega),aF,e3,aA,Fi (by omega),ih (v+1) fu (by omega) (by omega) (by omega),a38,aA];generalize n.nodes[v]=x;by_cases hp:x.parent=p
   ·rw[show((x.parent:Int)==p)=true by simp[hp],aF];by_cases hc:x.cond=c
    ·rw[au hc,aF,bP ⟨by omega,hp,hc⟩];rfl
    ·rw[ax hc,aL,bE (fun h=>hc h.2.2)]
   ·rw[show((x.parent:Int)==p)=false by simp[hp],aL,bE (fun h=>hp h.2.1)]
  ·rw[iM,aj,ax (by omega),aL,nK (by omega)];rfl
theorem sCh(n:aH)(p:Int)(c:aU)(hn:n.nodes.length<=1048576)(ha:n.bG.length<=1048576)(hc:c.wt<=1048576):wL n p c=some (ZU n (Mw n.bG n.nodes p c)):=by
 have hp:=aU.gV hc;have hargs:=aD.dZ hp;unfold wL;have e:=aG9 n p c;rw[show(1:Int)=((1:Nat):Int)from rfl,e _ hn n.nodes.length 1 fuel (by omega) (br _) (by unfold fuel;omega),<-UL,TZ c (by omega),aA,a9c c.pat hp,aA,sAl n _ ha,aA];unfold Mw Ra ZU;cases RD p c n.nodes 0 with
 |some j=>rfl
 |none=>
  dsimp only;rw[gF (by omega) (by decide),aF];by_cases h1:c.kind=1
  ·rw[show((c.kind:Int)==((1:Nat):Int))=true by simp[h1],aF,bP (.inl h1)];simp[OY,hn,show n.nodes.length<=1099511627776 by omega]
   first|done| (unfold dS;rw[eC (qu.i64.2 (by omega))])
  ·rw[show((c.kind:Int)==((1:Nat):Int))=false by simp[h1],aL];by_cases h2:c.kind=2
   ·rw[show((c.kind:Int)==(2:Int))=true by simp[h2],aF,bP (.inr h2)];simp[OY,hn,show n.nodes.length<=1099511627776 by omega]
    first|done| (unfold dS;rw[eC (qu.i64.2 (by omega))])
   ·rw[show((c.kind:Int)==(2:Int))=false by simp[h2],aL,bE (by omega)]
    first|rw[gF (by omega) (by decide),aF]|rw[aA,gF (by omega) (by decide),aF]|skip
    simp[OY,hn,show n.nodes.length<=1099511627776 by omega]
    first|done| (unfold dS;rw[eC (qu.i64.2 (by omega))])
theorem aFn(n:aH)(p:Int)(c:aU)(k:Option (aH×Int)):∀(l:bN) (i:Nat),eF n p c k l i=match RD p c l i with|some j=>some (n,dS j)|none=>k:=by
 intro l
 induction l with
 |nil=>intro i;rfl
 |cons x l ih=>
  intro i;rw[eF,RD,ih,TB,aA];by_cases hi:0<i
  ·rw[au (by omega),aF];by_cases hp:x.parent=p
   ·rw[show((x.parent:Int)==p)=true by simp[hp],aF];by_cases hc:x.cond=c
    ·rw[au hc,aF,bP ⟨hi,hp,hc⟩];rfl
    ·rw[ax hc,aL,bE (fun h=>hc h.2.2)]
   ·rw[show((x.parent:Int)==p)=false by simp[hp],aL,bE (fun h=>hp h.2.1)]
  ·rw[ax (by omega),aL,bE (fun h=>hi h.1)]
theorem iCh(n:aH)(p:Int)(c:aU)(hn:n.nodes.length<=1048576)(ha:n.bG.length<=1048576)(hc:c.wt<=1048576):mN n p c=some (ZU n (Mw n.bG n.nodes p c)):=by
 have hp:=aU.gV hc;have hargs:=aD.dZ hp;unfold mN;rw[sE (by omega),aF,aFn,T6 c (by omega),a8s c.pat hp,aA,iAl n _ ha,aA,aA];unfold Mw Ra ZU;cases RD p c n.nodes 0 with
 |some j=>rfl
 |none=>
  dsimp only;rw[gF (by omega) (by decide),aF];by_cases h1:c.kind=1
  ·rw[show((c.kind:Int)==(1:Int))=true by simp[h1],aF,bP (.inl h1)];simp[OY,hn,show n.nodes.length<=1099511627776 by omega]
   first|done| (unfold dS;rw[eC (qu.i64.2 (by omega))])
  ·rw[show((c.kind:Int)==(1:Int))=false by simp[h1],aL];by_cases h2:c.kind=2
   ·rw[show((c.kind:Int)==(2:Int))=true by simp[h2],aF,bP (.inr h2)];simp[OY,hn,show n.nodes.length<=1099511627776 by omega]
    first|done| (unfold dS;rw[eC (qu.i64.2 (by omega))])
   ·rw[show((c.kind:Int)==(2:Int))=false by simp[h2],aL,bE (by omega)]
    first|rw[gF (by omega) (by decide),aF]|rw[aA,gF (by omega) (by decide),aF]|skip
    simp[OY,hn,show n.nodes.length<=1099511627776 by omega]
    first|done| (unfold dS;rw[eC (qu.i64.2 (by omega))])
def IT(s:(bQ×bN)×Int)(c:aU):(bQ×bN)×Int:=Mw s.1.1 s.1.2 s.2 c
def Jp(z:(bQ×bN)×bM)(r:aO):(bQ×bN)×bM:=(((gE r).foldl IT (z.1,0)).1,z.2++[((gE r).foldl IT (z.1,0)).2])
def root(tk:ar):Node:=⟨-1,⟨0,⟨[],[]⟩,[],[]⟩, -1,tk⟩
def cZ(tk:ar)(rs:az):(bQ×bN)×bM:=rs.foldl Jp (([],[root tk]),[])
theorem a4N(al:bQ)(sh:aD):(XO al sh).1.length<=al.length+1:=by
 unfold XO;cases Ym sh al 0<;>simp
theorem a4X(al:bQ)(c:aU):(Ra al c).1.length<=al.length+1:=by
 unfold Ra;by_cases h:c.kind=1\/c.kind=2
 ·rw[bP h];exact a4N _ _
 ·rw[bE h];exact Nat.le_succ _
theorem Si(al:bQ)(ns:bN)(p:Int)(c:aU):(Mw al ns p c).1.1.length<=al.length+1/\(Mw al ns p c).1.2.length<=ns.length+1:=by
 unfold Mw;cases RD p c ns 0 with
 |some i=>exact⟨Nat.le_succ _,Nat.le_succ _⟩
 |none=>exact⟨a4X _ _,by simp⟩
theorem IU:∀(cs:ay) (s:(bQ×bN)×Int),(cs.foldl IT s).1.1.length<=s.1.1.length+cs.length/\(cs.foldl IT s).1.2.length<=s.1.2.length+cs.length
 | [],s=>⟨br _,br _⟩
 |c::cs,s=>by
  have h1:=Si s.1.1 s.1.2 s.2 c;have h2:=IU cs (IT s c);have h3:(IT s c).1.1.length<=s.1.1.length+1/\(IT s c).1.2.length<=s.1.2.length+1:=h1;rw[cy,aQ];omega
theorem aD5(a:az)(i:Nat)(y:ay)(k:Int->Int->az->bM->bQ->bN->aJ->Option (aH×Bool)):∀(cs:ay) (j:Nat) (v u:Int) (w3:az) (w4:bM) (al:bQ) (ns:bN) (w7:aJ),(∀c∈cs,c.wt<=1048576)->al.length+cs.length<=1048576->ns.length+cs.length<=1048576->
 ic a i y k cs j v u w3 w4 al ns w7=k (cs.foldl IT ((al,ns),v)).2 u w3 w4 (cs.foldl IT ((al,ns),v)).1.1 (cs.foldl IT ((al,ns),v)).1.2 w7:=by
 intro cs
 induction cs with
 |nil=>intros;rfl
 |cons c cs ih=>
  intro j v u w3 w4 al ns w7 hc ha hn;simp only[aQ]at ha hn;have h1:=Si al ns v c;rw[ic,sCh _ v c (show ns.length<=1048576 by omega) (show al.length<=1048576 by omega) (hc c (by simp)),aA];unfold ZU;dsimp only;rw[ih _ _ _ _ _ _ _ _ (fun x hx=>hc x (by simp[hx])) (by omega) (by omega)];rfl
theorem aBQ(a:az)(i:Nat)(y:ay)(k:Int->Int->az->bM->bQ->bN->aJ->Option aH):∀(cs:ay) (j:Nat) (v u:Int) (w3:az) (w4:bM) (al:bQ) (ns:bN) (w7:aJ),(∀c∈cs,c.wt<=1048576)->al.length+cs.length<=1048576->ns.length+cs.length<=1048576->
 kW a i y k cs j v u w3 w4 al ns w7=k (cs.foldl IT ((al,ns),v)).2 u w3 w4 (cs.foldl IT ((al,ns),v)).1.1 (cs.foldl IT ((al,ns),v)).1.2 w7:=by
 intro cs
 induction cs with
 |nil=>intros;rfl
 |cons c cs ih=>
  intro j v u w3 w4 al ns w7 hc ha hn;simp only[aQ]at ha hn;have h1:=Si al ns v c;rw[kW,iCh _ v c (show ns.length<=1048576 by omega) (show al.length<=1048576 by omega) (hc c (by simp)),aA];unfold ZU;dsimp only;rw[ih _ _ _ _ _ _ _ _ (fun x hx=>hc x (by simp[hx])) (by omega) (by omega)];rfl
theorem Nb:∀(ts:aI) (N:aP) {p:aX},p∈ts.foldl kN N->p∈N\/(p.var∈ts/\fo p.var=true)
 | [],_,_,h=>.inl h
 |t::ts,N,p,h=>by
  rcases Nb ts (kN N t) h with h1|h1
  ·unfold kN at h1;cases hv:fo t&& !Hw N t with
   |false=>rw[hv]at h1;exact .inl h1
   |true=>
    rw[hv,aF]at h1;simp only[aS]at hv;rcases aW.1 h1 with h2|h2
    ·exact .inl h2
    ·rw[cH.1 h2];exact .inr ⟨by simp,hv.1⟩
  ·exact .inr ⟨by simp[h1.1],h1.2⟩
theorem CU{l:ay}{v:Bytes}:v∈Au l↔v∈yH l/\fo v=true:=by
 unfold Au yH sV kP;simp only[cB,gu];constructor
 ·rintro⟨c,hc,hm,hv⟩;exact⟨⟨c,hc,hm⟩,hv⟩
 ·rintro⟨⟨c,hc,hm⟩,hv⟩;exact⟨c,hc,hm,hv⟩
theorem Nj{r:aO}(h:fR r=true):(iI r).length<=6:=by
 have h1:((iI r).map aX.var).length<=(fT (Au r.conds)).length:=by
  refine Nk _ _ (Ac _ Tt.nil) fun x hx=>?_
  obtain⟨p,hp,rfl⟩:=cJ.1 hx;rcases Nb _ _ hp with h1|h1
  ·cases h1
  ·exact rR.2 (CU.2 h1)
 rw[aj]at h1;exact eY h1 (Nw h)
theorem I7{r:aO}(h:fR r=true){v:Bytes}(hv:v∈Au r.conds):∃i p,i<6/\(iI r)[i]?=some p/\p.var=v/\Dl (iI r) v=nmB i:=by
 obtain⟨ht,Gc⟩:=CU.1 hv;obtain⟨p,hp,he⟩:=MI _ [] ht Gc;have hp':p∈iI r:=hp;obtain⟨i,hi,Q3,hval,_⟩:=Ky (DI _ Vh.nil) hp';refine⟨i,p,by have:=Nj h;unfold iI at this;omega,Q3,he,?_⟩;rw[<-he];exact(IQ (N:=iI r) (Ac (yH r.conds) Tt.nil) hp').trans hval
theorem Mg{r:aO}(h:fR r=true){x:Bytes}(hx:x.length<=16)(hV:fo x=true->x∈Au r.conds):(Dl (iI r) x).length<=16:=by
 cases hv:fo x with
 |false=>rw[show Dl (iI r) x=x from MX hv];exact hx
 |true=>
  obtain⟨i,p,hi,_,_,e⟩:=I7 h (hV hv);rw[e];exact YB i hi
theorem PN:∀(l:aI),(∀x∈l,x.length<=16)->sC tw l<=17*l.length
 | [],_=>by simp[sC]
 |x::l,h=>by
  have h1:=PN l fun y hy=>h y (by simp[hy])
  have h2:=h x (by simp);rw[py,aQ];unfold tw at*;omega
theorem Qs{t:Bytes}(h:nB t=true):t.length<=16:=by have:=Zp h;omega
theorem Ph{c:aU}(h:pR c=true):c.pat.rel.length<=8/\c.pat.args.length<=3/\(∀x∈c.pat.args,x.length<=16)/\c.left.length<=16/\c.right.length<=16:=by
 by_cases hk:c.kind=1\/c.kind=2
 ·obtain⟨hp,hl,hr⟩:=Du h hk;have ht:=PL hp;unfold w8 at hp;simp only[aS,bH]at hp;have:=S4 hp.2.1;rw[hl,hr];exact⟨by omega,by omega,fun x hx=>Qs (ht x hx),by simp,by simp⟩
 ·obtain⟨_,hz,hl,hr⟩:=Pg h (fun e=>hk (.inl e)) (fun e=>hk (.inr e));unfold EZ at hz;simp only[aS,cr,bH]at hz;have h0:c.pat.args=[]:=dJ (by omega);rw[hz.1,h0];exact⟨by simp,by simp,fun x hx=>(by cases hx),Qs hl,Qs hr⟩
theorem I9{r:aO}(h:fR r=true):∀c∈gE r,c.wt<=1048576:=by
 intro c' hc';obtain⟨c,hc,rfl⟩:=cJ.1 hc';obtain⟨h1,h2,h3,h4,h5⟩:=Ph (DE h c hc);have hV:∀x∈c.pat.args++[c.left,c.right],fo x=true->x∈Au r.conds:=fun x hx hv=>CU.2 ⟨cB.2 ⟨c,hc,hx⟩,hv⟩
 have a1:(Dl (iI r) c.left).length<=16:=Mg h h4 (hV _ (by simp));have a2:(Dl (iI r) c.right).length<=16:=Mg h h5 (hV _ (by simp));have a3:=PN (c.pat.args.map (Dl (iI r))) (fun x hx=>by
  obtain⟨y,hy,rfl⟩:=cJ.1 hx;exact Mg h (h3 y hy) (hV y (by simp[hy])))
 rw[aj]at a3;unfold Qh aU.wt;dsimp only;unfold tw at*;omega
theorem zq{r:aO}(h:fR r=true):(gE r).length<=4:=by unfold gE;rw[aj];exact Nv h
theorem XM{r:aO}{n:Nat}(h:r.wt<=n){a:Action}(ha:a∈r.dD):a.pat.args.length<=n:=by
 have h1:=aO.LH h;have h2:=qR (w:=Action.wt) ha;have h3:=tJ tw a.pat.args;simp only[Action.wt]at h2;omega
theorem a2l(p:aD)(h:p.args.length<=1099511627770):fP p=some p:=by
 unfold fP;rw[a3C p.args (by omega)];rfl
theorem a1Z(p:aD)(h:p.args.length<=1099511627770):ew p=some p:=by
 unfold ew;rw[TD p.args (by omega)];rfl
theorem a9N(r:aO)(h:r.wt<=1048576):vU r=some r:=by
 have h1:=aO.v8 h;have h2:=aO.LH h;have h3:=tJ aU.wt r.conds;have h4:=tJ Action.wt r.dD;unfold vU;rw[GW (c:=aU.c) (b:=80) (f:=lN) (g:=fun x=>x) (L:=rQ r _) (k:=_) (by decide) (fun _ _=>rfl) (fun _ _ _ _=>rfl) _ _ _ (fun c hc=>TZ c (by have:=aD.dZ (aU.gV (aO.tg h hc));omega)) (by simp;omega)];rw[GW (c:=Action.c) (b:=48) (f:=fun a:Action=>(fP a.pat).bind fun y=>some (⟨a.kind,y⟩:Action)) (g:=fun x=>x) (L:=p8 r _ _) (k:=_) (by decide) (fun _ _=>rfl) (fun x xs i w=>by rw[p8];cases fP x.pat<;>rfl) _ _ _ (fun a ha=>by rw[a2l a.pat (by have:=XM h ha;omega)];rfl) (by simp;omega)];simp
theorem VI(l:az)(h:sC aO.wt l<=1048576):sO l=some l:=by
 have h3:=tJ aO.wt l;unfold sO;rw[GW (c:=aO.c) (b:=72) (f:=vU) (g:=fun x=>x) (L:=oz l _) (k:=_) (by decide) (fun _ _=>rfl) (fun _ _ _ _=>rfl) _ _ _ (fun r hr=>a9N r (by have:=qR (w:=aO.wt) hr;omega)) (by simp;omega)];simp
theorem a1Y(l:ay)(h:l.length<=1048576)(hw:∀c∈l,c.wt<=1048576):uG l=some l:=by
 unfold uG;rw[GW (c:=aU.c) (b:=80) (f:=gG) (g:=fun x=>x) (L:=nw l _) (k:=_) (by decide) (fun _ _=>rfl) (fun _ _ _ _=>rfl) _ _ _ (fun c hc=>T6 c (by have:=aD.dZ (aU.gV (hw c hc));omega)) (by simp;omega)];simp
theorem a8j(r:aO)(h:r.wt<=1048576):sM r=some r:=by
 have h1:=aO.v8 h;have h2:=aO.LH h;have h3:=tJ aU.wt r.conds;have h4:=tJ Action.wt r.dD;unfold sM;rw[a1Y r.conds (by omega) (fun c hc=>aO.tg h hc),aA];rw[GW (c:=Action.c) (b:=48) (f:=fun a:Action=>(ew a.pat).bind fun y=>some (⟨a.kind,y⟩:Action)) (g:=fun x=>x) (L:=lu r _ _) (k:=_) (by decide) (fun _ _=>rfl) (fun x xs i w=>by rw[lu];cases ew x.pat<;>rfl) _ _ _ (fun a ha=>by rw[a1Z a.pat (by have:=XM h ha;omega)];rfl) (by simp;omega)];simp
theorem Um(l:az)(h:sC aO.wt l<=1048576):rM l=some l:=by
 have h3:=tJ aO.wt l;unfold rM;rw[GW (c:=aO.c) (b:=72) (f:=sM) (g:=fun x=>x) (L:=o4 l _) (k:=_) (by decide) (fun _ _=>rfl) (fun _ _ _ _=>rfl) _ _ _ (fun r hr=>a8j r (by have:=qR (w:=aO.wt) hr;omega)) (by simp;omega)];simp
theorem aD4(a:az)(k:Int->az->bM->bQ->bN->aJ->Option (aH×Bool)):∀(l:az) (i:Nat) (u:Int) (w2:az) (es:bM) (al:bQ) (ns:bN) (w6:aJ),(∀r∈l,r.wt<=1048576/\fR r=true)->es.length+l.length<=1000->al.length+4*l.length<=1000->ns.length+4*l.length<=1000->
 ia a k l i u w2 es al ns w6=k u w2 (l.foldl Jp ((al,ns),es)).2 (l.foldl Jp ((al,ns),es)).1.1 (l.foldl Jp ((al,ns),es)).1.2 w6:=by
 intro l
 induction l with
 |nil=>intros;rfl
 |cons r l ih=>
  intro i u w2 es al ns w6 hr he ha hn;simp only[aQ]at he ha hn;obtain⟨hw,hb⟩:=hr r (by simp);have h4:=zq hb;have hl:=IU (gE r) ((al,ns),0);dsimp only at hl;rw[ia,a9M r hw,aA,sE (by omega),aF,aD5 _ _ _ _ _ _ _ _ _ _ _ _ _ (I9 hb) (by omega) (by omega),gF (by omega) (by decide),aF,ih _ _ _ _ _ _ _ (fun x hx=>hr x (by simp[hx])) (by simp;omega) (by omega) (by omega)];rfl
theorem a2r(rs:az)(h:sC aO.wt rs<=1048576):kZ rs=some (bif qT rs then(⟨rs,(cZ [⟨[],[]⟩] rs).2,(cZ [⟨[],[]⟩] rs).1.1,(cZ [⟨[],[]⟩] rs).1.2,[],0⟩,true)else(⟨[],[],[],[],[],0⟩,false)):=by
 unfold kZ;rw[aG8 rs h,aA];cases hb:qT rs with
 |false=>rfl
 |true=>
  have h6:rs.length<=6:=by unfold qT at hb;simp only[aS,bH]at hb;omega
  rw[bU,aL,aF,VI rs h,aA,aD4 _ _ _ _ _ _ _ _ _ _ (fun r hr=>⟨by have:=qR (w:=aO.wt) hr;omega,oP hb r hr⟩) (by simp;omega) (by simp;omega) (by simp;omega)];rfl
theorem aBP(a:az)(k:Int->az->bM->bQ->bN->aJ->Option aH):∀(l:az) (i:Nat) (u:Int) (w2:az) (es:bM) (al:bQ) (ns:bN) (w6:aJ),(∀r∈l,r.wt<=1048576/\fR r=true)->es.length+l.length<=1000->al.length+4*l.length<=1000->ns.length+4*l.length<=1000->
 kV a k l i u w2 es al ns w6=k u w2 (l.foldl Jp ((al,ns),es)).2 (l.foldl Jp ((al,ns),es)).1.1 (l.foldl Jp ((al,ns),es)).1.2 w6:=by
 intro l
 induction l with
 |nil=>intros;rfl
 |cons r l ih=>
  intro i u w2 es al ns w6 hr he ha hn;simp only[aQ]at he ha hn;obtain⟨hw,hb⟩:=hr r (by simp);have h4:=zq hb;have hl:=IU (gE r) ((al,ns),0);dsimp only at hl;rw[kV,a8h r hw,aA,sE (by omega),aF,aBQ _ _ _ _ _ _ _ _ _ _ _ _ _ (I9 hb) (by omega) (by omega),gF (by omega) (by decide),aF,ih _ _ _ _ _ _ _ (fun x hx=>hr x (by simp[hx])) (by simp;omega) (by omega) (by omega)];rfl
theorem aFr(rs:az)(h:sC aO.wt rs<=1048576)(hb:qT rs=true):uL rs=some ⟨rs,(cZ [] rs).2,(cZ [] rs).1.1,(cZ [] rs).1.2,[],0⟩:=by
 unfold uL;have h6:rs.length<=6:=by unfold qT at hb;simp only[aS,bH]at hb;omega
 rw[Um rs h,aA,aBP _ _ _ _ _ _ _ _ _ _ (fun r hr=>⟨by have:=qR (w:=aO.wt) hr;omega,oP hb r hr⟩) (by simp;omega) (by simp;omega) (by simp;omega)];rfl
def chR(al:bQ)(ns:bN)(p:Int)(c:aU):(bQ×bN)×Int:=match RD p c ns 1 with
 |some i=>((al,ns),dS i)
 |none=>(((Ra al c).1,ns++[⟨p,c,(Ra al c).2,[]⟩]),dS (ns.length+1))
theorem a0m(tk:ar)(al:bQ)(ns:bN)(p:Int)(c:aU):Mw al (root tk::ns) p c=(((chR al ns p c).1.1,root tk::(chR al ns p c).1.2),(chR al ns p c).2):=by
 unfold Mw chR;rw[UL,List.drop_succ_cons,Bq];cases RD p c ns 1<;>rfl
def rtC(s:(bQ×bN)×Int)(c:aU):(bQ×bN)×Int:=chR s.1.1 s.1.2 s.2 c
def rtR(z:(bQ×bN)×bM)(r:aO):(bQ×bN)×bM:=(((gE r).foldl rtC (z.1,0)).1,z.2++[((gE r).foldl rtC (z.1,0)).2])
def rtB(rs:az):(bQ×bN)×bM:=rs.foldl rtR (([],[]),[])
theorem VN(tk:ar):∀(cs:ay) (al:bQ) (ns:bN) (v:Int),cs.foldl IT ((al,root tk::ns),v)=(((cs.foldl rtC ((al,ns),v)).1.1,root tk::(cs.foldl rtC ((al,ns),v)).1.2),(cs.foldl rtC ((al,ns),v)).2)
 | [],_,_,_=>rfl
 |c::cs,al,ns,v=>by
  rw[cy,cy];show cs.foldl IT (Mw al (root tk::ns) v c)=_;rw[a0m,VN tk cs];rfl
theorem VP(tk:ar):∀(rs:az) (al:bQ) (ns:bN) (es:bM),rs.foldl Jp ((al,root tk::ns),es)=(((rs.foldl rtR ((al,ns),es)).1.1,root tk::(rs.foldl rtR ((al,ns),es)).1.2),(rs.foldl rtR ((al,ns),es)).2)
 | [],_,_,_=>rfl
 |r::rs,al,ns,es=>by
  rw[cy,cy];have e:Jp ((al,root tk::ns),es) r=(((rtR ((al,ns),es) r).1.1,root tk::(rtR ((al,ns),es) r).1.2),(rtR ((al,ns),es) r).2):=by
   unfold Jp rtR;dsimp only;rw[VN]
  rw[e,VP tk rs]
theorem iV(tk:ar)(rs:az):cZ tk rs=(((rtB rs).1.1,root tk::(rtB rs).1.2),(rtB rs).2):=VP tk rs [] [] []
theorem Cb(tk:ar){rs:az}(h:∀r∈rs,fR r=true)(h6:rs.length<=6):(cZ tk rs).1.2.length<=25:=by
 have main:∀(l:az) (z:(bQ×bN)×bM),(∀r∈l,fR r=true)->(l.foldl Jp z).1.2.length<=z.1.2.length+4*l.length:=by
  intro l
  induction l with
  |nil=>intro z _;exact br _
  |cons r l ih=>
   intro z hl;have h1:=ih (Jp z r) (fun x hx=>hl x (by simp[hx]));have h2:=(IU (gE r) (z.1,0)).2;have h3:=zq (hl r (by simp));have h4:(Jp z r).1.2.length=((gE r).foldl IT (z.1,0)).1.2.length:=rfl;rw[cy,aQ];dsimp only at h2;omega
 have:=main rs (([],[root tk]),[]) h;unfold cZ;simp only[aQ,cE]at this;omega
def sF(x:Node):Int×aU:=(x.parent,x.cond)
theorem SG{a b:bN}(h:a.map sF=b.map sF):∀(k v:Nat),RU a k v=RU b k v
 |0,_=>rfl
 |k+1,v=>by
  have e:(a[v]?).map sF=(b[v]?).map sF:=by rw[<-cR,<-cR,h]
  unfold RU;cases ha:a[v]? with
  |none=>
   cases hb:b[v]? with
   |none=>rfl
   |some y=>rw[ha,hb]at e;cases e
  |some x=>
   cases hb:b[v]? with
   |none=>rw[ha,hb]at e;cases e
   |some y=>
    rw[ha,hb]at e;have e1:x.parent=y.parent:=(kz (lQ e)).1;dsimp only;rw[e1,SG h k]
theorem Sk{a b:bN}(h:a.map sF=b.map sF):DN a=DN b:=by
 funext i
 have e:(a[i]?).map sF=(b[i]?).map sF:=by rw[<-cR,<-cR,h]
 unfold DN;cases ha:a[i]? with
 |none=>
  cases hb:b[i]? with
  |none=>rfl
  |some y=>rw[ha,hb]at e;cases e
 |some x=>
  cases hb:b[i]? with
  |none=>rw[ha,hb]at e;cases e
  |some y=>
   rw[ha,hb]at e;have e2:x.cond=y.cond:=(kz (lQ e)).2;show some x.cond=some y.cond;rw[e2]
theorem wQ{a b:bN}(h:a.map sF=b.map sF)(v:Int):eb a v=eb b v:=by
 have hl:a.length=b.length:=by have:=congrArg List.length h;simpa using this
 unfold eb Jl;rw[hl,SG h,Sk h]
def gN(al:bQ)(fs:aJ):bQ:=al.map fun a=>⟨a.shape,sB a.shape [] fs⟩
def pq(ns:bN)(fs:aJ):bN->Nat->bN
 | [],_=>[]
 |x::xs,i=>⟨x.parent,x.cond,x.cX,rS (eb ns (dS i)) fs⟩::pq ns fs xs (i+1)
def fQ(ns:bN)(fs:aJ):bN:=pq ns fs ns 0
theorem Kl(ns:bN)(fs:aJ):∀(l:bN) (i:Nat),(pq ns fs l i).map sF=l.map sF
 | [],_=>rfl
 |x::l,i=>by rw[pq,bA,Kl ns fs l];rfl
theorem Z0(ns:bN)(fs:aJ)(l:bN)(i:Nat):(pq ns fs l i).length=l.length:=by
 have:=congrArg List.length (Kl ns fs l i);simpa using this
theorem setAt{G:Type}(pre l:List G)(x y:G):(pre++x::l).set pre.length y=pre++y::l:=by
 rw[oO _ _ (br _),qt];rfl
structure D1(ns:List Node):Prop where
 len:ns.length<=1048576
 wt:∀x∈ns,x.cond.wt<=1048576
 path:∀i:Nat,(eb ns (dS i)).length<=4
theorem Me{ns:bN}{v:Int}{c:aU}(h:c∈eb ns v):∃x∈ns,x.cond=c:=by
 unfold eb at h;split at h
 ·unfold Jl at h;obtain⟨i,_,hc⟩:=dQ.1 h;unfold DN at hc;cases hx:ns[i]? with
  |none=>rw[hx]at hc;cases hc
  |some x=>rw[hx]at hc;exact⟨x,aE hx,lQ hc⟩
 ·cases h
theorem a0y(n:aH)(fs y:aJ)(k:bQ->Option (aH×Unit))(hf:FS fs):∀(l pre:bQ),(∀x∈l,x.shape.wt<=1048576)->gB n fs y k l pre.length (pre++l)=k (pre++gN l fs):=by
 intro l
 induction l with
 |nil=>intro pre _;rfl
 |cons x l ih=>
  intro pre hw;have hx:(pre++x::l)[pre.length]?=some x:=by simp
  have hlt:decide (pre.length<((pre++x::l).map ai.c).length)=true:=by simp
  rw[gB,hlt,aF,hx,aA,aBC x.shape [] fs (hw x (by simp)) PB.nil hf,aA,aF,setAt];have:=ih (pre++[⟨x.shape,sB x.shape [] fs⟩]) (fun z hz=>hw z (by simp[hz]));rw[bB,dw,dH]at this;rw[show pre++(⟨x.shape,sB x.shape [] fs⟩:ai)::l=pre++([⟨x.shape,sB x.shape [] fs⟩]++l)from rfl,this];simp[gN]
theorem a8B(n:aH)(fs y:aJ)(q:bQ)(k:Option (aH×Unit))(hf:FS fs)(h24:fs.length<=24)(ns:bN)(hp:D1 ns):∀(l pre:bN),(pre++l).map sF=ns.map sF->
 fB n fs y q k l pre.length (pre++l)=some (⟨n.rules,n.ends,q,pre++pq ns fs l pre.length,y,n.cP⟩,()):=by
 intro l
 induction l with
 |nil=>intro pre _;rfl
 |cons x l ih=>
  intro pre he;have hx:(pre++x::l)[pre.length]?=some x:=by simp
  have hlt:decide (pre.length<((pre++x::l).map Node.c).length)=true:=by simp
  have hlen:(pre++x::l).length=ns.length:=by have:=congrArg List.length he;simpa using this
  have hok:NOk ⟨n.rules,n.ends,q,pre++x::l,y,n.cP⟩:=by
   refine⟨by show(pre++x::l).length<=1048576;rw[hlen];exact hp.len,fun z hz=>?_⟩;have hm:sF z∈ns.map sF:=by rw[<-he];exact cJ.2 ⟨z,hz,rfl⟩
   obtain⟨w,hw,e⟩:=cJ.1 hm;have:w.cond=z.cond:=(kz e).2;rw[<-this];exact hp.wt w hw
  have a1I:eb (pre++x::l) ((pre.length:Nat):Int)=eb ns (dS pre.length):=wQ he _;have Ub:∀c∈eb ns (dS pre.length),c.wt<=1048576:=by
   intro c hc;obtain⟨z,hz,e⟩:=Me hc;rw[<-e];exact hp.wt z hz
  rw[fB,a8o _ _ hok,aA,a1I,aBT _ fs Ub (hp.path _) hf h24,aA,hlt,aF,hx,aA,setAt];have:=ih (pre++[⟨x.parent,x.cond,x.cX,rS (eb ns (dS pre.length)) fs⟩]) (by
   rw[<-he];simp[sF])
  rw[bB,dw,dH]at this;rw[show pre++(⟨x.parent,x.cond,x.cX,rS (eb ns (dS pre.length)) fs⟩:Node)::l=pre++([⟨x.parent,x.cond,x.cX,rS (eb ns (dS pre.length)) fs⟩]++l)from rfl,this,pq];simp
theorem a6h(n:aH)(fs:aJ)(hf:FS fs)(h24:fs.length<=24)(ha:n.bG.length<=1048576)(hs:∀x∈n.bG,x.shape.wt<=1048576)(hp:D1 n.nodes):k9 n fs=some (⟨n.rules,n.ends,gN n.bG fs,fQ n.nodes fs,fs,n.cP⟩,()):=by
 unfold k9;have h1:=a0y n fs fs;have hl:=hp.len;rw[wO fs hf.1 (fun f hf2=>by have:=aD.dZ (hf.2 f hf2);omega),aA,sE (by omega),aF];have e1:=a0y n fs fs (fun(eN:bQ)=>(bif decide (n.nodes.length<=maxLen)then(fB n fs fs eN none n.nodes 0 n.nodes)else none)) hf n.bG [] hs;refine e1.trans ?_;rw[eM,sE (by omega),aF];exact a8B n fs fs _ none hf h24 n.nodes hp n.nodes [] rfl
theorem VS(ns:bN):∀(k k' v:Nat),1<=v->v<=k->v<=k'->RU ns k v=RU ns k' v
 |0,_,v,h1,h2,_=>by omega
 |k+1,0,v,h1,_,h3=>by omega
 |k+1,k'+1,v,h1,h2,h3=>by
  unfold RU;cases hx:ns[v]? with
  |none=>rfl
  |some x=>
   dsimp only;by_cases hp:1<=x.parent/\x.parent<(v:Int)
   ·rw[bP hp,bP hp,VS ns k k' x.parent.toNat (by omega) (by omega) (by omega)]
   ·rw[bE hp,bE hp]
theorem uy(ns:bN):eb ns (dS 0)=[]:=by unfold eb dS;rw[bE (by omega)]
theorem yE{ns:bN}{i:Nat}{x:Node}(hx:ns[i]?=some x)(h1:1<=i){p:Nat}(hp:x.parent=dS p)(hpi:p<i):eb ns (dS i)=eb ns (dS p)++[x.cond]:=by
 have hl:=(aN.1 hx).1;unfold dS at hp;have e1:eb ns (dS i)=Jl ns i i:=by unfold eb dS;rw[bP (by omega)];rfl
 obtain⟨k,rfl⟩:∃k,i=k+1:=⟨i-1,by omega⟩
 rw[e1,Qd hx];by_cases h0:1<=p
 ·rw[bP (by omega)];have e2:eb ns (dS p)=Jl ns p p:=by unfold eb dS;rw[bP (by omega)];rfl
  rw[e2,hp,kx];unfold Jl;rw[VS ns k p p h0 (by omega) (br _)]
 ·rw[bE (by omega),show p=0 by omega,uy]
def Vf(ns:bN):Prop:=∀(i:Nat) x,1<=i->ns[i]?=some x->∃p:Nat,x.parent=dS p/\p<i
theorem No{ns:bN}(hb:Vf ns)(m:bN):∀(n i:Nat),i<=n->i<ns.length->eb (ns++m) (dS i)=eb ns (dS i):=by
 intro n
 induction n with
 |zero=>
  intro i h1 _;rw[show i=0 by omega,uy,uy]
 |succ n ih=>
  intro i h1 h2;by_cases h0:i=0
  ·rw[h0,uy,uy]
  ·have hx:ns[i]?=some ns[i]:=av h2;have hx':(ns++m)[i]?=some ns[i]:=by rw[bJ h2];exact hx
   obtain⟨p,hp,hpi⟩:=hb i _ (by omega) hx;rw[yE hx (by omega) hp hpi,yE hx' (by omega) hp hpi,ih p (by omega) (by omega)]
structure FU(R:List aU->Prop)(ns:List Node):Prop where
 pos:1<=ns.length
 below:Vf ns
 path:∀i:Nat,1<=i->i<ns.length->R (eb ns (dS i))
theorem UM{p:Int}{c:aU}:∀ {l:bN} {i j:Nat},RD p c l i=some j->∃x,l[j-i]?=some x/\i<=j/\0<j/\x.parent=p/\x.cond=c
 |x::l,i,j,h=>by
  unfold RD at h;split at h
  ·rename_i hc;cases h;exact⟨x,by simp,br _,hc.1,hc.2.1,hc.2.2⟩
  ·obtain⟨y,h1,h2,h3,h4,h5⟩:=UM h;refine⟨y,?_,by omega,h3,h4,h5⟩;rw[show j-i=(j-(i+1))+1 by omega];exact h1
theorem FU.step{R:ay->Prop}{al:bQ}{ns:bN}(h:FU R ns){a:Nat}(ha:a<ns.length){c:aU}(hR:R (eb ns (dS a)++[c])):
 FU R (Mw al ns (dS a) c).1.2/\∃b:Nat,(Mw al ns (dS a) c).2=dS b/\b<(Mw al ns (dS a) c).1.2.length/\eb (Mw al ns (dS a) c).1.2 (dS b)=eb ns (dS a)++[c]:=by
 unfold Mw;cases hc:RD (dS a) c ns 0 with
 |some j=>
  obtain⟨x,h1,h2,h3,h4,h5⟩:=UM hc;rw[yg]at h1;have hj:=(aN.1 h1).1;obtain⟨p,hp,hpj⟩:=h.below j x (by omega) h1;have:p=a:=by rw[hp]at h4;unfold dS at h4;omega
  subst this;exact⟨h,j,rfl,hj,by rw[yE h1 (by omega) hp hpj,h5]⟩
 |none=>
  dsimp only;have hbel:Vf (ns++[⟨dS a,c,(Ra al c).2,[]⟩]):=by
   intro i x h1 hx;by_cases hi:i<ns.length
   ·rw[bJ hi]at hx;exact h.below i x h1 hx
   ·rw[bW (by omega)]at hx;have hi2:i=ns.length:=by
     have:=(aN.1 hx).1;simp at this;omega
    rw[hi2,qt]at hx;cases hx;exact⟨a,rfl,by omega⟩
  have hnew:eb (ns++[⟨dS a,c,(Ra al c).2,[]⟩]) (dS ns.length)=eb ns (dS a)++[c]:=by
   have hx:(ns++[(⟨dS a,c,(Ra al c).2,[]⟩:Node)])[ns.length]?=some ⟨dS a,c,(Ra al c).2,[]⟩:=by simp
   have h1:=h.pos;rw[yE hx (by omega) (p:=a) rfl ha,No h.below _ a a (br _) ha]
  refine⟨⟨by simp,hbel,fun i h1 h2=>?_⟩,ns.length,rfl,by simp,hnew⟩;by_cases hi:i<ns.length
  ·rw[No h.below _ i i (br _) hi];exact h.path i h1 hi
  ·have:i=ns.length:=by simp at h2;omega
   rw[this,hnew];exact hR
theorem FU.rule{R:ay->Prop}:∀(cs:ay) {al:bQ} {ns:bN} {a:Nat},FU R ns->a<ns.length->(∀j:Nat,1<=j->j<=cs.length->R (eb ns (dS a)++cs.take j))->
 FU R (cs.foldl IT ((al,ns),dS a)).1.2/\∃b:Nat,(cs.foldl IT ((al,ns),dS a)).2=dS b/\b<(cs.foldl IT ((al,ns),dS a)).1.2.length/\eb (cs.foldl IT ((al,ns),dS a)).1.2 (dS b)=eb ns (dS a)++cs
 | [],al,ns,a,h,ha,_=>⟨h,a,rfl,ha,by simp⟩
 |c::cs,al,ns,a,h,ha,hR=>by
  obtain⟨h1,b,h2,h3,h4⟩:=h.step (al:=al) ha (c:=c) (by have:=hR 1 (br _) (by simp);simpa using this);have e:IT ((al,ns),dS a) c=(((Mw al ns (dS a) c).1.1,(Mw al ns (dS a) c).1.2),dS b):=by
   show Mw al ns (dS a) c=_;rw[<-h2]
  rw[cy,e];obtain⟨k1,d,k2,k3,k4⟩:=FU.rule cs (al:=(Mw al ns (dS a) c).1.1) h1 h3 (fun j Q5 hj2=>by
   rw[h4,dH];have:=hR (j+1) (by omega) (by simp;omega);simpa using this)
  exact⟨k1,d,k2,k3,by rw[k4,h4];simp⟩
theorem a4Y(al:bQ)(ns:bN)(p:Int)(c:aU):∃m,(Mw al ns p c).1.2=ns++m:=by
 unfold Mw;cases RD p c ns 0 with
 |some i=>exact⟨[],by simp⟩
 |none=>exact⟨[⟨p,c,(Ra al c).2,[]⟩],rfl⟩
theorem YP:∀(cs:ay) (s:(bQ×bN)×Int),∃m,(cs.foldl IT s).1.2=s.1.2++m
 | [],s=>⟨[],by simp⟩
 |c::cs,s=>by
  obtain⟨m,h⟩:=a4Y s.1.1 s.1.2 s.2 c;obtain⟨m2,h2⟩:=YP cs (IT s c);refine⟨m++m2,?_⟩;rw[cy,h2];show(Mw s.1.1 s.1.2 s.2 c).1.2++m2=_;rw[h,dH]
def XK(rs:az)(p:ay):Prop:=∃r∈rs,∃j:Nat,1<=j/\j<=(gE r).length/\p=(gE r).take j
theorem VO(all:az):∀(l:az) (al:bQ) (ns:bN) (es:bM),(∀r∈l,r∈all)->FU (XK all) ns->
 FU (XK all) (l.foldl Jp ((al,ns),es)).1.2/\(∃m,(l.foldl Jp ((al,ns),es)).1.2=ns++m)/\∃fs,(l.foldl Jp ((al,ns),es)).2=es++fs/\fs.length=l.length/\
  ∀(i:Nat) r,l[i]?=some r->∃b:Nat,fs[i]?=some (dS b)/\b<(l.foldl Jp ((al,ns),es)).1.2.length/\eb (l.foldl Jp ((al,ns),es)).1.2 (dS b)=gE r
 | [],al,ns,es,_,h=>⟨h,⟨[],by simp⟩,[],by simp,rfl,fun i r hr=>by simp at hr⟩
 |r::l,al,ns,es,hm,h=>by
  obtain⟨h1,b,h2,h3,h4⟩:=FU.rule (gE r) (al:=al) h (a:=0) (by have:=h.pos;omega) (fun j Q5 hj2=>by
   rw[uy,eM];exact⟨r,hm r (by simp),j,Q5,hj2,rfl⟩)
  obtain⟨m1,hm1⟩:=YP (gE r) ((al,ns),dS 0);obtain⟨k1,⟨m2,hm2⟩,fs,k2,k3,k4⟩:=VO all l ((gE r).foldl IT ((al,ns),dS 0)).1.1 ((gE r).foldl IT ((al,ns),dS 0)).1.2 (es++[dS b]) (fun x hx=>hm x (by simp[hx])) h1;have e:Jp ((al,ns),es) r=((((gE r).foldl IT ((al,ns),dS 0)).1.1,((gE r).foldl IT ((al,ns),dS 0)).1.2),es++[dS b]):=by
   rw[<-h2];rfl
  rw[cy,e];refine⟨k1,⟨m1++m2,by rw[hm2,hm1,dH]⟩,dS b::fs,by rw[k2];simp,by simp[k3],?_⟩;intro i x hx;cases i with
  |zero=>
   have:r=x:=by simpa using hx
   subst this;refine⟨b,rfl,by rw[hm2];simp;omega,?_⟩;rw[hm2,No h1.below _ b b (br _) h3,h4,uy];rfl
  |succ i=>exact k4 i x (by simpa using hx)
theorem Zj(R:ay->Prop)(tk:ar):FU R [root tk]:=
 ⟨br _,fun i x h1 hx=>by
  have:=(aN.1 hx).1;simp at this;omega,fun i h1 h2=>by simp at h2;omega⟩
theorem vZ(tk:ar)(rs:az):FU (XK rs) (cZ tk rs).1.2/\(cZ tk rs).2.length=rs.length/\∀(i:Nat) r,rs[i]?=some r->∃b:Nat,(cZ tk rs).2[i]?=some (dS b)/\b<(cZ tk rs).1.2.length/\eb (cZ tk rs).1.2 (dS b)=gE r:=by
 obtain⟨h1,_,fs,h2,h3,h4⟩:=VO rs rs [] [root tk] [] (fun r hr=>hr) (Zj _ tk);rw[eM]at h2;refine⟨h1,?_,?_⟩
 ·show(rs.foldl Jp (([],[root tk]),[])).2.length=_;rw[h2,h3]
 ·intro i r hr;obtain⟨b,k1,k2,k3⟩:=h4 i r hr;refine⟨b,?_,k2,k3⟩;show(rs.foldl Jp (([],[root tk]),[])).2[i]?=_;rw[h2];exact k1
theorem VB{r:aO}(h:fR r=true):∃c cs,gE r=c::cs/\c.kind=1:=by
 have hb:=TW h;cases hc:r.conds with
 |nil=>
  unfold fR at h;rw[hc]at h;simp at h
 |cons c cs=>
  refine⟨Qh (iI r) c,cs.map (Qh (iI r)),by unfold gE;rw[hc];rfl,?_⟩;exact(Pj (pre:=[]) (i:=0) (c:=c) (rest:=cs) (by rw[eM,<-hc];exact hb)).2.1 rfl
theorem S7{rs:az}(h:∀r∈rs,fR r=true){p:ay}(hp:XK rs p):p.length<=4/\∃c cs,p=c::cs/\c.kind=1:=by
 obtain⟨r,hr,j,h1,h2,rfl⟩:=hp;have:=zq (h r hr);refine⟨by rw[cU];omega,?_⟩;obtain⟨c,cs,e,hk⟩:=VB (h r hr);obtain⟨j,rfl⟩:∃k,j=k+1:=⟨j-1,by omega⟩
 exact⟨c,cs.take j,by rw[e];rfl,hk⟩
theorem Zu{c:aU}{cs:ay}(hk:c.kind=1):rS (c::cs) []=[]:=by
 have h0:∀(l:ay),l.foldl (sH []) []=[]:=by
  intro l
  induction l with
  |nil=>rfl
  |cons x l ih=>rw[cy];exact ih
 unfold rS;rw[cy];have:sH [] [⟨[],[]⟩] c=[]:=by
  unfold sH BZ;rw[au hk];rfl
 rw[this,h0]
theorem OQ{r:aO}(h:fR r=true):∀c∈gE r,c.pat.rel.length<=8/\c.pat.args.length<=3/\∀x∈c.pat.args,x.length<=16:=by
 intro c' hc';obtain⟨c,hc,rfl⟩:=cJ.1 hc';obtain⟨h1,h2,h3,h4,h5⟩:=Ph (DE h c hc);have hV:∀x∈c.pat.args++[c.left,c.right],fo x=true->x∈Au r.conds:=fun x hx hv=>CU.2 ⟨cB.2 ⟨c,hc,hx⟩,hv⟩
 refine⟨h1,by show(c.pat.args.map _).length<=3;rw[aj];exact h2,fun x hx=>?_⟩;obtain⟨y,hy,rfl⟩:=cJ.1 hx;exact Mg h (h3 y hy) (hV y (by simp[hy]))
theorem a3D{p:aD}(h1:p.rel.length<=8)(h2:p.args.length<=3)(h3:∀x∈p.args,x.length<=16):(vm p).wt<=1048576:=by
 have a3:=PN (p.args.map (Dl (p.args.foldl kN []))) (fun x hx=>by
  obtain⟨y,hy,rfl⟩:=cJ.1 hx;exact a9G (by omega) (h3 y hy))
 rw[aj]at a3;show aD.wt ⟨p.rel,p.args.map (Dl (p.args.foldl kN []))⟩<=1048576;unfold aD.wt;dsimp only;unfold tw at*;omega
def ym(al:bQ):Prop:=∀x∈al,x.shape.wt<=1048576/\x.facts=[]
theorem Vn{al:bQ}{ns:bN}{p:Int}{c:aU}(h:ym al)(hc:(vm c.pat).wt<=1048576):ym (Mw al ns p c).1.1:=by
 unfold Mw;cases RD p c ns 0 with
 |some i=>exact h
 |none=>
  show ym (Ra al c).1;unfold Ra;by_cases hk:c.kind=1\/c.kind=2
  ·rw[bP hk];unfold XO;cases Ym (vm c.pat) al 0 with
   |some i=>exact h
   |none=>
    intro x hx;rcases aW.1 hx with hx|hx
    ·exact h x hx
    ·rw[cH.1 hx];exact⟨hc,rfl⟩
  ·rw[bE hk];exact h
theorem Qp:∀(cs:ay) (s:(bQ×bN)×Int),ym s.1.1->(∀c∈cs,(vm c.pat).wt<=1048576)->ym (cs.foldl IT s).1.1
 | [],_,h,_=>h
 |c::cs,s,h,hc=>Qp cs (IT s c) (Vn h (hc c (by simp))) (fun x hx=>hc x (by simp[hx]))
theorem yX(tk:ar){rs:az}(h:∀r∈rs,fR r=true):ym (cZ tk rs).1.1:=by
 have main:∀(l:az) (z:(bQ×bN)×bM),(∀r∈l,fR r=true)->ym z.1.1->ym (l.foldl Jp z).1.1:=by
  intro l
  induction l with
  |nil=>intro z _ hz;exact hz
  |cons r l ih=>
   intro z hl hz;refine ih (Jp z r) (fun x hx=>hl x (by simp[hx])) ?_;exact Qp (gE r) (z.1,0) hz (fun c hc=>by
    obtain⟨p1,p2,p3⟩:=OQ (hl r (by simp)) c hc;exact a3D p1 p2 p3)
 exact main rs _ h (fun x hx=>by cases hx)
theorem Ml(tk:ar){rs:az}(h:∀r∈rs,fR r=true)(h6:rs.length<=6):D1 (cZ tk rs).1.2:=by
 have hp:=(vZ tk rs).1;have hl:=Cb tk h h6;refine⟨by omega,?_,?_⟩
 ·intro x hx;obtain⟨i,hi⟩:=iN hx;have hil:=(aN.1 hi).1;by_cases h0:i=0
  ·subst h0;rw[iV]at hi;cases hi;unfold root aU.wt;simp[sC,tw]
  ·obtain⟨p,hpp,hpi⟩:=hp.below i x (by omega) hi;obtain⟨r,hr,j,j1,j2,e⟩:=hp.path i (by omega) hil;rw[yE hi (by omega) hpp hpi]at e;have hm:x.cond∈gE r:=cO (by rw[<-e];simp:x.cond∈(gE r).take j);exact I9 (h r hr) _ hm
 ·intro i;by_cases hi:1<=i/\i<(cZ tk rs).1.2.length
  ·exact(S7 h (hp.path i hi.1 hi.2)).1
  ·unfold eb dS;rw[bE (by omega)];simp
theorem a8g(rs:az)(fs:aJ)(t:Int)(hr:sC aO.wt rs<=1048576)(hb:qT rs=true)(hf:FS fs)(h24:fs.length<=24):yy rs fs t=some ⟨rs,(cZ [] rs).2,gN (cZ [] rs).1.1 fs,fQ (cZ [] rs).1.2 fs,fs,t⟩:=by
 have h6:rs.length<=6:=by unfold qT at hb;simp only[aS,bH]at hb;omega
 have hv:=oP hb;have hsh:=yX [] hv;have hal:(cZ [] rs).1.1.length<=1048576:=by
  have main:∀(l:az) (z:(bQ×bN)×bM),(∀r∈l,fR r=true)->(l.foldl Jp z).1.1.length<=z.1.1.length+4*l.length:=by
   intro l
   induction l with
   |nil=>intro z _;exact br _
   |cons r l ih=>
    intro z hl;have h1:=ih (Jp z r) (fun x hx=>hl x (by simp[hx]));have h2:=(IU (gE r) (z.1,0)).1;have h3:=zq (hl r (by simp));have h4:(Jp z r).1.1.length=((gE r).foldl IT (z.1,0)).1.1.length:=rfl;rw[cy,aQ];dsimp only at h2;omega
  have:=main rs (([],[root []]),[]) hv;unfold cZ;simp only[cE]at this;omega
 unfold yy;rw[aFr rs hr hb,aA,a6h _ fs hf h24 hal (fun x hx=>(hsh x hx).1) (Ml [] hv h6)];rfl
theorem Yw{al:bQ}(h:ym al):gN al []=al:=by
 unfold gN;have:∀l:bQ,(∀x∈l,x.facts=[])->l.map (fun a=>(⟨a.shape,sB a.shape [] []⟩:ai))=l:=by
  intro l
  induction l with
  |nil=>intro _;rfl
  |cons x l ih=>
   intro hl;rw[bA,ih (fun y hy=>hl y (by simp[hy]))];have:=hl x (by simp);cases x;simp only at this;subst this;rfl
 exact this al fun x hx=>(h x hx).2
theorem a4Z{al:bQ}{ns:bN}{p:Int}{c:aU}(h:∀x∈ns,x.tokens=[]):∀x∈(chR al ns p c).1.2,x.tokens=[]:=by
 unfold chR;cases RD p c ns 1 with
 |some i=>exact h
 |none=>
  intro x hx;rcases aW.1 hx with hx|hx
  ·exact h x hx
  ·rw[cH.1 hx]
theorem YI:∀(cs:ay) (s:(bQ×bN)×Int),(∀x∈s.1.2,x.tokens=[])->∀x∈(cs.foldl rtC s).1.2,x.tokens=[]
 | [],_,h=>h
 |c::cs,s,h=>YI cs (rtC s c) (a4Z h)
theorem a5b(rs:az):∀x∈(rtB rs).1.2,x.tokens=[]:=by
 have main:∀(l:az) (z:(bQ×bN)×bM),(∀x∈z.1.2,x.tokens=[])->∀x∈(l.foldl rtR z).1.2,x.tokens=[]:=by
  intro l
  induction l with
  |nil=>intro z hz;exact hz
  |cons r l ih=>intro z hz;exact ih (rtR z r) (YI (gE r) (z.1,0) hz)
 exact main rs _ (fun x hx=>by cases hx)
theorem Pu(ns:bN):∀(l:bN) (i:Nat),(∀x∈l,x.tokens=[])->(∀j:Nat,i<=j->j<i+l.length->rS (eb ns (dS j)) []=[])->pq ns [] l i=l
 | [],_,_,_=>rfl
 |x::l,i,ht,hp=>by
  rw[pq,hp i (br _) (by simp),Pu ns l (i+1) (fun y hy=>ht y (by simp[hy])) (fun j h1 h2=>hp j (by omega) (by simp only[aQ];omega))];have:=ht x (by simp);cases x;simp only at this;subst this;rfl
theorem Yy{rs:az}(h:∀r∈rs,fR r=true):fQ (cZ [] rs).1.2 []=(cZ [⟨[],[]⟩] rs).1.2:=by
 have hp:=(vZ [] rs).1;have e:(cZ [] rs).1.2=root []::(rtB rs).1.2:=by rw[iV]
 have e2:(cZ [⟨[],[]⟩] rs).1.2=root [⟨[],[]⟩]::(rtB rs).1.2:=by rw[iV]
 have hlen:(cZ [] rs).1.2.length=(rtB rs).1.2.length+1:=by rw[e];rfl
 unfold fQ;rw[e2];have h1:=Pu (cZ [] rs).1.2 (rtB rs).1.2 1 (a5b rs) (fun j j1 j2=>by
  obtain⟨_,c,cs,ec,hk⟩:=S7 h (hp.path j j1 (by rw[hlen];omega));rw[ec];exact Zu hk)
 have h2:pq (cZ [] rs).1.2 [] (cZ [] rs).1.2 0=pq (cZ [] rs).1.2 [] (root []::(rtB rs).1.2) 0:=by rw[<-e]
 rw[h2,pq,h1,uy];rfl
def tG(rs:az)(fs:aJ)(t:Int):aH:=⟨rs,(cZ [] rs).2,gN (cZ [] rs).1.1 fs,fQ (cZ [] rs).1.2 fs,fs,t⟩
def Gd(n:aH):Bool:=qT n.rules&&(fJ n.facts&&(decide (0<=n.cP)&&Ou n (tG n.rules n.facts 0)))
theorem FS.Fe{fs:aJ}(h:sC aD.wt fs<=1048576):FS fs:=⟨by have:=tJ aD.wt fs;omega,fun f hf=>by have:=qR (w:=aD.wt) hf;omega⟩
theorem T8(n:aH)(hr:sC aO.wt n.rules<=1048576)(hf:sC aD.wt n.facts<=1048576):oV n=some (Gd n):=by
 unfold oV Gd;rw[aFm _ hr,a1Q _ hf,aA,aA];cases h1:qT n.rules with
 |false=>rfl
 |true=>
  cases h2:fJ n.facts with
  |false=>rfl
  |true=>
   rw[a8g _ _ _ hr h1 (FS.Fe hf) (qF h2),aA,aFp,aA];simp only[aF,fL];by_cases h3:0<=n.cP
   ·rw[au h3];rfl
   ·rw[ax h3];rfl
def xK(x:Node):Int×Int×aU:=(x.parent,x.cX,x.cond)
theorem a2F{a b:bN}(h:a.map xK=b.map xK):a.map sF=b.map sF:=by
 have:=congrArg (List.map fun t:Int×Int×aU=>(t.1,t.2.2)) h;rw[sS,sS]at this;exact this
def Zv(ns:bN)(fs:aJ):bN->Nat->Bool
 | [],_=>true
 |x::xs,i=>decide (x.tokens=rS (eb ns (dS i)) fs)&&Zv ns fs xs (i+1)
theorem Rp(fs:aJ):∀(a b:bQ),a.map ai.shape=b.map ai.shape->((a.all fun x=>decide (x.facts=sB x.shape [] fs))=true↔a=gN b fs)
 | [],[],_=>⟨fun _=>rfl,fun _=>rfl⟩
 | [],_::_,h=>by simp at h
 |_::_,[],h=>by simp at h
 |x::a,y::b,h=>by
  rw[bA,bA]at h;obtain⟨h1,h2⟩:=nG h;have ih:=Rp fs a b h2;rw[eD,aS,bH,ih];show _↔x::a=⟨y.shape,sB y.shape [] fs⟩::gN b fs;constructor
  ·rintro⟨q1,q2⟩;rw[<-h1,<-q1,<-q2]
  ·intro q;obtain⟨q1,q2⟩:=nG q;exact⟨by rw[q1],q2⟩
theorem Rq(ns:bN)(fs:aJ):∀(a b:bN) (i:Nat),a.map xK=b.map xK->(Zv ns fs a i=true↔a=pq ns fs b i)
 | [],[],_,_=>⟨fun _=>rfl,fun _=>rfl⟩
 | [],_::_,_,h=>by simp at h
 |_::_,[],_,h=>by simp at h
 |x::a,y::b,i,h=>by
  rw[bA,bA]at h;obtain⟨h1,h2⟩:=nG h;have ih:=Rq ns fs a b (i+1) h2;have e1:x.parent=y.parent:=(kz h1).1;have e2:x.cX=y.cX:=(kz (kz h1).2).1;have e3:x.cond=y.cond:=(kz (kz h1).2).2;unfold Zv pq;rw[aS,bH,ih];constructor
  ·rintro⟨q1,q2⟩;rw[<-e1,<-e2,<-e3,<-q1,<-q2]
  ·intro q;obtain⟨q1,q2⟩:=nG q;exact⟨by rw[q1],q2⟩
theorem a7Z(n:aH)(k:Option Bool)(hf:FS n.facts):∀(l:bQ) (i:Nat),(∀x∈l,x.shape.wt<=1048576)->kf n k l i=bif l.all (fun x=>decide (x.facts=sB x.shape [] n.facts))then k else some false
 | [],_,_=>rfl
 |x::l,i,h=>by
  rw[kf,a5i x.shape [] n.facts (h x (by simp)) PB.nil hf,aA,PI,aA,a7Z n k hf l _ (fun y hy=>h y (by simp[hy])),eD];cases decide (x.facts=sB x.shape [] n.facts)<;>rfl
theorem a7a(n:aH)(k:Option Bool)(hf:FS n.facts)(h24:n.facts.length<=24)(hp:D1 n.nodes):∀(l:bN) (i:Nat),kj n k l i=bif Zv n.nodes n.facts l i then k else some false
 | [],_=>rfl
 |x::l,i=>by
  have Ub:∀c∈eb n.nodes ((i:Nat):Int),c.wt<=1048576:=by
   intro c hc;obtain⟨z,hz,e⟩:=Me hc;rw[<-e];exact hp.wt z hz
  rw[kj,a30 n _ ⟨hp.len,hp.wt⟩,aA,a7h _ n.facts Ub (hp.path i) hf h24,aA,a5t,aA,a7a n k hf h24 hp l,Zv];show(bif !decide (x.tokens=rS (eb n.nodes (dS i)) n.facts)then some false else _)=_;cases decide (x.tokens=rS (eb n.nodes (dS i)) n.facts)<;>rfl
theorem Ws(n:aH)(hr:sC aO.wt n.rules<=1048576)(hf:sC aD.wt n.facts<=1048576):mZ n=some (Gd n):=by
 unfold mZ Gd;rw[a2r _ hr,a2g _ hf,aA,aA];cases h1:qT n.rules with
 |false=>rfl
 |true=>
  cases h2:fJ n.facts with
  |false=>rfl
  |true=>
   have h6:n.rules.length<=6:=by unfold qT at h1;simp only[aS,bH]at h1;omega
   have hv:=oP h1;simp only[aF,bU,aL,fL];rw[aCn,aA];have hroot:(cZ [⟨[],[]⟩] n.rules).1.2.map xK=(cZ [] n.rules).1.2.map xK:=by rw[iV,iV];rfl
   have hA:(cZ [⟨[],[]⟩] n.rules).1.1=(cZ [] n.rules).1.1:=by rw[iV,iV]
   have hE:(cZ [⟨[],[]⟩] n.rules).2=(cZ [] n.rules).2:=by rw[iV,iV]
   have hmem:Ou n (tG n.rules n.facts 0)=(decide (n.ends=(cZ [] n.rules).2)&&(decide (n.bG=gN (cZ [] n.rules).1.1 n.facts)&&decide (n.nodes=fQ (cZ [] n.rules).1.2 n.facts))):=by
    unfold Ou tG;simp
   by_cases hform:Px n ⟨n.rules,(cZ [⟨[],[]⟩] n.rules).2,(cZ [⟨[],[]⟩] n.rules).1.1,(cZ [⟨[],[]⟩] n.rules).1.2,[],0⟩=true
   ·rw[hform];unfold Px at hform;simp only[aS,bH]at hform;obtain⟨f1,f2,f3⟩:=hform;have f2':n.nodes.map xK=(cZ [] n.rules).1.2.map xK:=by rw[<-hroot];exact f2
    have f1':n.bG.map ai.shape=(cZ [] n.rules).1.1.map ai.shape:=by rw[<-hA];exact f1
    have f3':n.ends=(cZ [] n.rules).2:=by rw[<-hE];exact f3
    have a8S:=Ml [] hv h6;have hfn:=a2F f2';have hok:D1 n.nodes:=by
     refine⟨by have:=congrArg List.length f2';rw[aj,aj]at this;rw[this];exact a8S.len,fun x hx=>?_,fun i=>by rw[wQ hfn];exact a8S.path i⟩;have hm:sF x∈(cZ [] n.rules).1.2.map sF:=by rw[<-hfn];exact cJ.2 ⟨x,hx,rfl⟩
     obtain⟨w,hw,e⟩:=cJ.1 hm;have:w.cond=x.cond:=(kz e).2;rw[<-this];exact a8S.wt w hw
    have hsh:∀x∈n.bG,x.shape.wt<=1048576:=by
     intro x hx;have hm:x.shape∈(cZ [] n.rules).1.1.map ai.shape:=by rw[<-f1'];exact cJ.2 ⟨x,hx,rfl⟩
     obtain⟨w,hw,e⟩:=cJ.1 hm;rw[<-e];exact(yX [] hv w hw).1
    have g1:=Rp n.facts n.bG _ f1';have g2:=Rq n.nodes n.facts n.nodes _ 0 f2';have g3:pq n.nodes n.facts (cZ [] n.rules).1.2 0=fQ (cZ [] n.rules).1.2 n.facts:=by
     unfold fQ;have:∀(l:bN) (i:Nat),pq n.nodes n.facts l i=pq (cZ [] n.rules).1.2 n.facts l i:=by
      intro l
      induction l with
      |nil=>intro i;rfl
      |cons x l ih=>intro i;rw[pq,pq,ih,wQ hfn]
     exact this _ _
    rw[g3]at g2;rw[hmem,au f3',fL,a7Z n _ (FS.Fe hf) _ _ hsh,a7a n _ (FS.Fe hf) (qF h2) hok];have k1:(n.bG.all fun x=>decide (x.facts=sB x.shape [] n.facts))=decide (n.bG=gN (cZ [] n.rules).1.1 n.facts):=by rw[cK,g1,bH]
    have k2:Zv n.nodes n.facts n.nodes 0=decide (n.nodes=fQ (cZ [] n.rules).1.2 n.facts):=by rw[cK,g2,bH]
    rw[k1,k2];by_cases h3:0<=n.cP
    ·rw[au h3,ax (by omega)];cases decide (n.bG=gN (cZ [] n.rules).1.1 n.facts)<;>cases decide (n.nodes=fQ (cZ [] n.rules).1.2 n.facts)<;>rfl
    ·rw[ax h3,au (by omega)];rfl
   ·have hfalse:Px n ⟨n.rules,(cZ [⟨[],[]⟩] n.rules).2,(cZ [⟨[],[]⟩] n.rules).1.1,(cZ [⟨[],[]⟩] n.rules).1.2,[],0⟩=false:=by
     cases hq:Px n ⟨n.rules,(cZ [⟨[],[]⟩] n.rules).2,(cZ [⟨[],[]⟩] n.rules).1.1,(cZ [⟨[],[]⟩] n.rules).1.2,[],0⟩with
     |true=>exact absurd hq hform
     |false=>rfl
    rw[hfalse];have hm:Ou n (tG n.rules n.facts 0)=false:=by
     cases hq:Ou n (tG n.rules n.facts 0)with
     |false=>rfl
     |true=>
      exfalso;rw[hmem]at hq;simp only[aS,bH]at hq;obtain⟨q1,q2,q3⟩:=hq;apply hform;unfold Px;simp only[aS,bH];have r1:n.bG.map ai.shape=(cZ [⟨[],[]⟩] n.rules).1.1.map ai.shape:=by rw[hA,q2];unfold gN;rw[sS];rfl
      have r2:n.nodes.map xK=(cZ [⟨[],[]⟩] n.rules).1.2.map xK:=by
       rw[hroot,q3];have:∀(ns l:bN) (i:Nat),(pq ns n.facts l i).map xK=l.map xK:=by
        intro ns l
        induction l with
        |nil=>intro i;rfl
        |cons x l ih=>intro i;rw[pq,bA,ih];rfl
       exact this _ _ _
      exact⟨r1,r2,by rw[hE];exact q1⟩
    rw[hm,w9];rfl
theorem Tl{fs:aJ}(hf:FS fs):∀(cs:ay) (l:ar) (n:Nat),(∀c∈cs,c.wt<=1048576)->(∀t∈l,TK n t)->∀t∈cs.foldl (sH fs) l,TK (n+cs.length) t
 | [],l,n,_,hl=>hl
 |c::cs,l,n,hc,hl=>by
  have:=Tl hf cs (sH fs l c) (n+1) (fun x hx=>hc x (by simp[hx])) (TM hl (hc c (by simp)) hf);rw[aQ,show n+(cs.length+1)=n+1+cs.length from by omega];exact this
def zK(rs:az)(fs:aJ):bL:=bif qT rs then rs.flatMap fun r=>mtB r fs else []
theorem Yv{b:aP}{x y:Bytes}(h:(xe b x y).2=true):iO (xe b x y).1=true:=by
 unfold xe at h⊢;cases hc:iO b&&(fo x&&fV y)with
 |false=>rw[hc]at h;cases h
 |true=>
  rw[hc,aF]at h;rw[aF];simp only[aS]at hc;cases hf:dR x b with
  |some o=>
   rw[hf]at h;dsimp only at h⊢;cases ho:o==y with
   |false=>rw[ho]at h;cases h
   |true=>exact hc.1
  |none=>
   rw[hf]at h;dsimp only at h⊢;cases hd:decide (b.length=6)with
   |true=>rw[hd]at h;cases h
   |false=>exact Ds hc.2.1 hc.2.2 hc.1 hf (of_decide_eq_false hd)
theorem Nh:∀(l r:aI) (b:aP),iO b=true->(tZ l r b).2=true->iO (tZ l r b).1=true
 | [],_,b,hb,_=>hb
 |_::_,[],_,_,h=>by cases h
 |x::xs,y::ys,b,hb,h=>by
  simp only[tZ]at h⊢;cases hx:fV x with
  |true=>
   rw[hx,aF]at h;rw[aF];cases hxy:x==y with
   |false=>rw[hxy]at h;cases h
   |true=>rw[hxy,aF]at h;rw[aF];exact Nh xs ys b hb h
  |false=>
   rw[hx,aL]at h;rw[aL];cases he:(xe b x y).2 with
   |false=>rw[he]at h;cases h
   |true=>rw[he,aF]at h;rw[aF];exact Nh xs ys _ (Yv he) h
theorem ZN{p f:aD}{b:aP}(hb:iO b=true)(h:(kM p f b).2=true):iO (kM p f b).1=true:=by
 unfold kM at h⊢;cases hc:w8 p&&(pK f&&(iO b&&(p.rel==f.rel&&decide (p.args.length=f.args.length))))with
 |false=>rw[hc]at h;cases h
 |true=>rw[hc,aF]at h;rw[aF];exact Nh _ _ _ hb h
theorem ZX{c:aU}{fs:aJ}{t u:aV}(hb:iO t.bind=true)(hu:u∈BZ c fs t):iO u.bind=true:=by
 unfold BZ at hu;cases hk:decide (c.kind=1)with
 |true=>
  rw[hk,aF]at hu;obtain⟨f,hf,hu⟩:=cB.1 hu;unfold ext1 at hu;cases hm:(kM c.pat f t.bind).2 with
  |false=>rw[hm]at hu;cases hu
  |true=>
   rw[hm,aF]at hu;rw[cH.1 hu];exact ZN hb hm
 |false=>
  rw[hk,aL]at hu;cases hh:zm c t.bind fs with
  |false=>rw[hh]at hu;cases hu
  |true=>rw[hh,aF]at hu;rw[cH.1 hu];exact hb
theorem Qw(fs:aJ):∀(cs:ay) (A:ar),(∀t∈A,iO t.bind=true)->∀u∈cs.foldl (sH fs) A,iO u.bind=true
 | [],_,h=>h
 |c::cs,A,h=>Qw fs cs (sH fs A c) (fun u hu=>by
  obtain⟨t,ht,hu⟩:=cB.1 hu;exact ZX (h t ht) hu)
theorem Zt{cs:ay}{fs:aJ}:∀u∈rS cs fs,iO u.bind=true:=Qw fs cs [⟨[],[]⟩] (fun t ht=>by rw[cH.1 ht];rfl)
def bkS(b:aP)(w:aP)(x:aX):aP:=bif (rT b x.value).2 then xL x.var (rT b x.value).1 w else w
def bkB(b to:aP):aP:=to.foldl (bkS b) []
theorem a0h{b:aP}(h:iO b=true):PB b:=by
 have h6:=Dr h;refine⟨by omega,fun p hp=>?_⟩;obtain⟨h1,h2⟩:=Bh (uZ h) p hp;have:=IG h1;have:=Bg h2;omega
theorem a2h(b to:aP)(k:aP->Option aP):∀(l:aP) (i:Nat) (w:aP),(∀x∈l,x.value.length<=1048576)->w.length+l.length<=1000000->mw b to k l i w=k (l.foldl (bkS b) w)
 | [],_,_,_,_=>rfl
 |x::l,i,w,h,hl=>by
  simp only[aQ]at hl;have ih:=a2h b to k l (i+1);rw[mw,a5u b x.value (h x (by simp)),aA,cy,a7g w x.var _ (by omega),aA];unfold bkS;cases(rT b x.value).2 with
  |true=>rw[aF,aF];exact ih _ (fun y hy=>h y (by simp[hy])) (by rw[CZ];omega)
  |false=>rw[aL,aL];exact ih _ (fun y hy=>h y (by simp[hy])) (by omega)
theorem aCf(b to:aP)(h:∀x∈to,x.value.length<=1048576)(hl:to.length<=1000):xa b to=some (bkB b to):=by
 unfold xa;rw[a2h b to _ to 0 [] h (by simp;omega)];rfl
theorem a1R(a:aH)(w2:bL)(i2:Nat)(t:aV)(i1:Nat)(r:aO)(y:aP)(nd:Node)(fs:aJ)(k:aP->Option bL)(hb:iO t.bind=true):∀(l:aP) (i:Nat) (w:aP),(∀x∈l,fo x.var=true/\fo x.value=true/\dR x.var w=none)->(l.map aX.var).Nodup->iO w=true->w.length+l.length<=6->ga a w2 i2 t i1 r y nd fs k l i w=k (l.foldl (bkS t.bind) w)
 | [],_,_,_,_,_,_=>rfl
 |x::l,i,w,h,hn,hw,hl=>by
  simp only[aQ]at hl;rw[bA,gw]at hn;obtain⟨h1,h2,h3⟩:=h x (by simp);have ih:=a1R a w2 i2 t i1 r y nd fs k hb l (i+1);have hx:=IG h1;have hv:=IG h2;rw[ga,a5D t.bind x.value (by omega),aA,cy];unfold bkS;cases hval:(rT t.bind x.value).2 with
  |false=>rw[aL,aL];exact ih w (fun z hz=>h z (by simp[hz])) hn.2 hw (by omega)
  |true=>
   have PC:fV (rT t.bind x.value).1=true:=by
    unfold rT at hval⊢;rw[ni h2,h2,aL,aF]at hval⊢;cases hf:dR x.value t.bind with
    |none=>rw[hf]at hval;cases hval
    |some o=>
     obtain⟨p,hp,_,e⟩:=yV hf;dsimp only;rw[<-e];exact(Bh (uZ hb) p hp).2
   have hal:=Bg PC;have hne:w.length≠6:=by omega
   have he:xe w x.var (rT t.bind x.value).1=(xL x.var (rT t.bind x.value).1 w,true):=by
    unfold xe;rw[hw,h1,PC,h3,ax hne];rfl
   rw[aF,aF,aBA w x.var _ (a0h hw) (by omega) (by omega),aA,he];refine ih _ (fun z hz=>?_) hn.2 (Ds h1 PC hw h3 hne) (by rw[CZ];omega);obtain⟨z1,z2,z3⟩:=h z (by simp[hz]);refine⟨z1,z2,?_⟩;rw[tD (fun e=>hn.1 (by rw[e];exact cJ.2 ⟨z,hz,rfl⟩))];exact z3
def cfT(r:aO)(t:aV):aq:=⟨r.name,t.facts,bkB t.bind (iI r)⟩
def TF(t:aV):Prop:=t.facts.length<=1048576/\∀f∈t.facts,f.args.length<=1048576
theorem QW{r:aO}(h:fR r=true):(∀x∈iI r,fo x.var=true/\fo x.value=true)/\((iI r).map aX.var).Nodup/\(iI r).length<=6:=by
 refine⟨fun x hx=>?_,Ac (yH r.conds) Tt.nil,Nj h⟩;obtain⟨i,hi,_,hval,hv⟩:=Ky (DI (yH r.conds) Vh.nil) hx;have:=Nj h;unfold iI at this;exact⟨hv,by rw[hval];exact MW i (by omega)⟩
theorem a7Q(a:aH)(i1:Nat)(r:aO)(nd:Node)(k:bL->Option bL)(hr:fR r=true):∀(l:ar) (i:Nat) (w:bL),(∀t∈l,TF t)->w.length+l.length<=1099511627000->gh a i1 r (iI r) nd k l i w=k (w++l.map (cfT r))
 | [],_,_,_,_=>by rw[gh];simp
 |t::l,i,w,h,hl=>by
  simp only[aQ]at hl;obtain⟨n1,n2,n3⟩:=QW hr;obtain⟨h1,h2⟩:=h t (by simp);rw[gh,zJ t.facts h1 h2,aA,aCf t.bind (iI r) (fun x hx=>by have:=IG (n1 x hx).2;omega) (by omega),aA,gF (by omega) (by decide),aF,a7Q a i1 r nd k hr l _ _ (fun u hu=>h u (by simp[hu])) (by simp;omega)];simp[cfT]
theorem a6f(a:aH)(i1:Nat)(r:aO)(nd:Node)(k:bL->Option bL)(hr:fR r=true):∀(l:ar) (i:Nat) (w:bL),(∀t∈l,TF t/\iO t.bind=true)->w.length+l.length<=1099511627000->gZ a i1 r (iI r) nd k l i w=k (w++l.map (cfT r))
 | [],_,_,_,_=>by rw[gZ];simp
 |t::l,i,w,h,hl=>by
  simp only[aQ]at hl;obtain⟨n1,n2,n3⟩:=QW hr;obtain⟨⟨h1,h2⟩,h3⟩:=h t (by simp);rw[gZ,wO t.facts h1 h2,aA,sE (by omega),aF,a1R _ _ _ _ _ _ _ _ _ _ h3 (iI r) 0 [] (fun x hx=>⟨(n1 x hx).1,(n1 x hx).2,rfl⟩) n2 rfl (by simp;omega),gF (by omega) (by decide),aF,a6f a i1 r nd k hr l _ _ (fun u hu=>h u (by simp[hu])) (by simp;omega)];simp[cfT,bkB]
theorem IL(ns:bN)(fs:aJ):∀(l:bN) (i j:Nat),(pq ns fs l i)[j]?=(l[j]?).map fun x=>⟨x.parent,x.cond,x.cX,rS (eb ns (dS (i+j))) fs⟩
 | [],_,_=>by simp[pq]
 |x::l,i,0=>by simp[pq]
 |x::l,i,j+1=>by
  rw[pq,hG,hG,IL ns fs l (i+1) j,show i+1+j=i+(j+1)by omega]
def Tz(n:aH)(i:Nat)(r:aO):Prop:=fR r=true/\r.wt<=1048576/\∃(b:Nat) (nd:Node),n.ends[i]?=some (dS b)/\n.nodes[b]?=some nd/\nd.tokens.length<=390625/\∀t∈nd.tokens,TF t/\iO t.bind=true
def a0w(n:aH)(i:Nat):ar:=match n.ends[i]? with
 |some e=>(match fy n.nodes e with|some nd=>nd.tokens|none=>[])
 |none=>[]
def Yp(n:aH):az->Nat->bL
 | [],_=>[]
 |r::rs,i=>(a0w n i).map (cfT r)++Yp n rs (i+1)
theorem Tz.get{n:aH}{i:Nat}{r:aO}(h:Tz n i r):∃e nd,fy n.ends (i:Int)=some e/\fy n.nodes e=some nd/\a0w n i=nd.tokens/\nd.tokens.length<=390625/\∀t∈nd.tokens,TF t/\iO t.bind=true:=by
 obtain⟨_,_,b,nd,h1,h2,h3,h4⟩:=h;have e1:fy n.ends (i:Int)=some (dS b):=by unfold fy;rw[au (by omega),aF];exact h1
 have e2:fy n.nodes (dS b)=some nd:=by unfold fy dS;rw[au (by omega),aF];exact h2
 exact⟨dS b,nd,e1,e2,by unfold a0w;rw[h1];dsimp only;rw[e2],h3,h4⟩
theorem a7P(n:aH)(k:bL->Option bL)(hn:mZ n=some true):∀(l:az) (i:Nat) (w:bL),(∀(j:Nat) r,l[j]?=some r->Tz n (i+j) r)->w.length+390625*l.length<=100000000->fk n k l i w=k (w++Yp n l i)
 | [],_,_,_,_=>by rw[fk];simp[Yp]
 |r::l,i,w,h,hl=>by
  simp only[aQ]at hl;have h0:=h 0 r rfl;rw[wW]at h0;obtain⟨e,nd,g1,g2,g3,g4,g5⟩:=h0.get;rw[fk,hn,aA,aF,a2x r h0.2.1,aA,g1,aA,g2,aA,sE (by omega),aF,a7Q n i r nd _ h0.1 nd.tokens 0 w (fun t ht=>(g5 t ht).1) (by omega),a7P n k hn l (i+1) _ (fun j x hx=>by rw[show i+1+j=i+(j+1)by omega];exact h (j+1) x (by simpa using hx)) (by simp;omega),Yp,g3,dH]
theorem a6e(n:aH)(k:bL->Option bL):∀(l:az) (i:Nat) (w:bL),(∀(j:Nat) r,l[j]?=some r->Tz n (i+j) r)->w.length+390625*l.length<=100000000->gY n k l i w=k (w++Yp n l i)
 | [],_,_,_,_=>by rw[gY];simp[Yp]
 |r::l,i,w,h,hl=>by
  simp only[aQ]at hl;have h0:=h 0 r rfl;rw[wW]at h0;obtain⟨e,nd,g1,g2,g3,g4,g5⟩:=h0.get;rw[gY,a1c r h0.2.1,aA,g1,aA,g2,aA,sE (by omega),aF,a6f n i r nd _ h0.1 nd.tokens 0 w g5 (by omega),a6e n k l (i+1) _ (fun j x hx=>by rw[show i+1+j=i+(j+1)by omega];exact h (j+1) x (by simpa using hx)) (by simp;omega),Yp,g3,dH]
theorem UT{n:aH}(hb:Gd n=true)(hr:sC aO.wt n.rules<=1048576)(hf:sC aD.wt n.facts<=1048576):∀(i:Nat) r,n.rules[i]?=some r->Tz n i r:=by
 intro i r hri;unfold Gd Ou tG at hb;simp only[aS,bH]at hb;obtain⟨b1,b2,_,_,b3,_,_,b4⟩:=hb;have hm:=aE hri;have hv:=oP b1 r hm;have hrw:r.wt<=1048576:=by have:=qR (w:=aO.wt) hm;omega
 obtain⟨b,e1,e2,e3⟩:=(vZ [] n.rules).2.2 i r hri;have hx:=av e2;have h4:=zq hv;have h24:=qF b2;have Sp:=FS.Fe hf;refine⟨hv,hrw,b,⟨((cZ [] n.rules).1.2[b]).parent,((cZ [] n.rules).1.2[b]).cond,((cZ [] n.rules).1.2[b]).cX,rS (gE r) n.facts⟩,by rw[b3];exact e1,?_,Qv h4 h24,?_⟩
 ·rw[b4];unfold fQ;rw[IL,hx,cY,e3];rfl
 ·intro t ht;have ht':t∈(gE r).foldl (sH n.facts) [⟨[],[]⟩]:=ht;have hk:=Tl Sp (gE r) [⟨[],[]⟩] 0 (I9 hv) TP t ht';exact⟨⟨by have:=hk.1;omega,fun f hff=>aD.dZ (hk.2.1 f hff)⟩,Zt t ht⟩
theorem aCk(n:aH)(hr:sC aO.wt n.rules<=1048576)(hf:sC aD.wt n.facts<=1048576):fc n=some (bif Gd n then Yp n n.rules 0 else []):=by
 unfold fc;have hi:=Ws n hr hf;cases hb:Gd n with
 |true=>
  rw[hb]at hi;have h6:n.rules.length<=6:=by
   have Om:=hb;unfold Gd qT at Om;simp only[aS,bH]at Om;omega
  rw[a7P n _ hi n.rules 0 [] (fun j r hj=>by rw[cY];exact UT hb hr hf j r hj) (by simp;omega)];rfl
 |false=>
  rw[hb]at hi;cases uz:n.rules with
  |nil=>rfl
  |cons r rs=>rw[fk,hi];rfl
theorem aB9(n:aH)(hr:sC aO.wt n.rules<=1048576)(hf:sC aD.wt n.facts<=1048576):xq n=some (bif Gd n then Yp n n.rules 0 else []):=by
 unfold xq fZ;rw[T8 n hr hf,aA];cases hb:Gd n with
 |true=>
  have h6:n.rules.length<=6:=by
   have Om:=hb;unfold Gd qT at Om;simp only[aS,bH]at Om;omega
  rw[a6e n _ n.rules 0 [] (fun j r hj=>by rw[cY];exact UT hb hr hf j r hj) (by simp;omega)];rfl
 |false=>rfl
def findF(f:aD):aJ->Nat->Int
 | [],_=> -1
 |x::xs,i=>if x=f then(i:Int)else findF f xs (i+1)
theorem Bk(f:aD):∀(l:aJ) (i:Nat),decide (findF f l i>=0)=decide (f∈l)
 | [],i=>by simp[findF]
 |x::xs,i=>by
  rw[findF];by_cases h:x=f
  ·rw[bP h];subst h;simp
  ·rw[bE h,Bk f xs (i+1)];have:f≠x:=fun e=>h e.symm
   simp[this]
theorem Wq(l:aJ)(f:aD):qc l f=some (findF f l 0):=by
 unfold qc;have:∀(r:aJ) (i:Nat),mF l f (some (-1)) r i=some (findF f r i):=by
  intro r
  induction r with
  |nil=>intro i;rfl
  |cons x xs ih=>
   intro i;rw[mF,Wu,aA,ih,findF];by_cases h:x=f
   ·rw[au h,bP h,aF]
   ·rw[ax h,bE h,aL]
 exact this l 0
theorem WQ(l:aJ)(f:aD):qX l f=some (findF f l 0):=by
 unfold qX;have:∀(r:aJ) (i:Nat),ld l f (some (-1)) r i=some (findF f r i):=by
  intro r
  induction r with
  |nil=>intro i;rfl
  |cons x xs ih=>
   intro i;rw[ld,a1e,aA,ih,findF];by_cases h:x=f
   ·rw[au h,bP h,aF]
   ·rw[ax h,bE h,aL]
 exact this l 0
theorem a6i(m:aq)(f:aD):jv m f=some (decide (f∈m.facts)):=by
 unfold jv;rw[WQ,aA,Bk]
theorem Rk{a b:Bytes}(h:yZ a b>0):yZ b a<0:=by
 unfold yZ at h⊢;by_cases h1:Op.bytesLess a b=true
 ·rw[bP h1]at h;omega
 ·rw[bE h1]at h;by_cases h2:a=b
  ·rw[bP h2]at h;omega
  ·have h3:Op.bytesLess b a=true:=by
    cases hb:Op.bytesLess b a with
    |true=>rfl
    |false=>exact absurd (Gn (by simpa using h1) hb) h2
   rw[bP h3];omega
theorem Rm{a b:Bytes}(h:yZ a b=0):a=b:=dK fun hne=>Sj hne h
theorem Pe{a b:Bytes}(h:yZ a b<0):yZ b a>0:=by
 unfold yZ at h⊢;by_cases h1:Op.bytesLess a b=true
 ·have h3:=LM h1;have h4:¬(Op.bytesLess b a=true):=by rw[h3];simp
  have h5:¬b=a:=fun e=>by subst e;rw[sJ]at h1;cases h1
  rw[bE h4,bE h5];omega
 ·rw[bE h1]at h;by_cases h2:a=b
  ·rw[bP h2]at h;omega
  ·rw[bE h2]at h;omega
theorem Rg(a b:Bytes):(Co a b>0->Co b a<0)/\(Co a b=0->a=b)/\(Co a b<0->Co b a>0):=by
 have num:∀ {s:Bytes} {n:Nat},zL s=some n->Lib.decDigits n=s:=by
  intro s n h;unfold zL at h;split at h
  ·split at h
   ·split at h
    ·rename_i h2;cases h;exact h2
    ·cases h
   ·cases h
  ·cases h
 unfold Co;cases ha:zL a with
 |none=>
  cases hb:zL b with
  |none=>exact⟨Rk,Rm,Pe⟩
  |some y=>simp
 |some x=>
  cases hb:zL b with
  |none=>simp
  |some y=>
   simp only[IY];refine⟨fun h=>?_,fun h=>?_,fun h=>?_⟩
   ·split at h
    ·omega
    ·split at h
     ·rw[bP (by omega)];omega
     ·omega
   ·split at h
    ·omega
    ·split at h
     ·omega
     ·have:x=y:=by omega
      rw[<-num ha,<-num hb,this]
   ·split at h
    ·rw[bE (by omega),bP (by omega)];omega
    ·split at h<;>omega
theorem Pn{G:Type}{g:G->G->Int}(hg:∀a b,(g a b>0->g b a<0)/\(g a b=0->a=b)/\(g a b<0->g b a>0)):∀(a b:List G),
 (∀z,vQ g a b=some z->z≠0/\∃y,vQ g b a=some y/\(z>0->y<0)/\(z<0->y>0))/\(vQ g a b=none->vQ g b a=none/\(a.length=b.length->a=b))
 | [],[]=>⟨fun z h=>(by simp[vQ]at h),fun _=>⟨rfl,fun _=>rfl⟩⟩
 | [],y::ys=>⟨fun z h=>(by simp[vQ]at h),fun _=>⟨by simp[vQ],fun h=>by simp at h⟩⟩
 |x::xs,[]=>⟨fun z h=>(by simp[vQ]at h),fun _=>⟨by simp[vQ],fun h=>by simp at h⟩⟩
 |x::xs,y::ys=>by
  obtain⟨i1,i2⟩:=Pn hg xs ys;obtain⟨g1,g2,g3⟩:=hg x y;by_cases h0:g x y=0
  ·have e:=g2 h0;subst e;simp only[vQ,h0,ne_eq,not_true_eq_false,AF];exact⟨i1,fun h=>⟨(i2 h).1,fun hl=>by rw[(i2 h).2 (by simpa using hl)]⟩⟩
  ·have h1:g y x≠0:=by
    intro e;by_cases hp:g x y>0
    ·have:=g1 hp;omega
    ·have:=g3 (by omega);omega
   simp only[vQ,ne_eq,h0,h1,not_false_eq_true,nM];refine⟨fun z h=>?_,fun h=>by cases h⟩;cases h;exact⟨h0,_,rfl,g1,g3⟩
theorem Rj{G:Type}{g:G->G->Int}(hg:∀a b,(g a b>0->g b a<0)/\(g a b=0->a=b)/\(g a b<0->g b a>0))(a b:List G):(cmpL g a b>0->cmpL g b a<0)/\(cmpL g a b=0->a=b)/\(cmpL g a b<0->cmpL g b a>0):=by
 obtain⟨h1,h2⟩:=Pn hg a b;unfold cmpL;cases hd:vQ g a b with
 |some z=>
  obtain⟨hz,y,hy,p,q⟩:=h1 z hd;rw[hy];exact⟨p,fun e=>absurd e hz,q⟩
 |none=>
  obtain⟨h3,h4⟩:=h2 hd;rw[h3];simp only[IY];refine⟨fun h=>?_,fun h=>?_,fun h=>?_⟩
  ·split at h
   ·omega
   ·split at h
    ·rw[bP (by omega)];omega
    ·omega
  ·split at h
   ·omega
   ·split at h
    ·omega
    ·exact h4 (by omega)
  ·split at h
   ·rw[bE (by omega),bP (by omega)];omega
   ·split at h<;>omega
theorem Bi(a b:aD):(oI a b>0->oI b a<0)/\(oI a b=0->a=b)/\(oI a b<0->oI b a>0):=by
 obtain⟨h1,h2,h3⟩:=Rj Rg a.args b.args;unfold oI;by_cases hr:a.rel=b.rel
 ·rw[bE (by simpa using hr),bE (by simpa using hr.symm)];refine⟨h1,fun h=>?_,h3⟩;cases a;cases b;simp only at hr h2 h;rw[hr,h2 h]
 ·have hr2:b.rel≠a.rel:=fun e=>hr e.symm
  rw[bP hr,bP hr2];exact⟨Rk,fun h=>absurd (Rm h) hr,Pe⟩
def xJ(f:aD):aJ->aJ
 | []=>[f]
 |x::xs=>if oI x f>0 then f::x::xs else x::xJ f xs
theorem MM(f:aD):∀(l:aJ) (x:aD),x∈xJ f l↔x=f\/x∈l
 | [],x=>by simp[xJ]
 |y::ys,x=>by
  rw[xJ];split
  ·simp
  ·simp only[bV,MM f ys x];constructor
   ·rintro(h|h|h)<;>simp[h]
   ·rintro(h|h|h)<;>simp[h]
theorem QD(f:aD):∀(l:aJ),(xJ f l).length=l.length+1
 | []=>rfl
 |y::ys=>by rw[xJ];split<;>simp[QD f ys]
theorem Re{f:aD}(hf:pK f=true):∀(l:aJ) (p:Option aD),chainB p l=true->f∉l->(∀q,p=some q->oI q f<0)->chainB p (xJ f l)=true
 | [],p,_,_,hp=>by
  cases p with
  |none=>simp[xJ,chainB,hf]
  |some q=>simp[xJ,chainB,hf,hp q rfl]
 |x::xs,p,h,hn,hp=>by
  simp only[bV,Gi]at hn;have hx:chainB (some x) xs=true/\pK x=true/\(∀q,p=some q->oI q x<0):=by
   cases p with
   |none=>simp[chainB]at h;exact⟨h.2,h.1,by simp⟩
   |some q=>
    simp only[chainB,aS,bH]at h;exact⟨by first|exact h.2.2|exact h.2,by first|exact h.1.1|exact h.1,fun q' e=>by cases e;first|exact h.1.2|exact h.2.1⟩
  rw[xJ];split
  ·rename_i hgt;have h1:=(Bi x f).1 hgt;cases p with
   |none=>simp[chainB,hf,hx.2.1,h1,hx.1]
   |some q=>simp[chainB,hf,hx.2.1,h1,hx.1,hp q rfl]
  ·rename_i hle;have hlt:oI x f<0:=by
    have:oI x f≠0:=fun e=>hn.1 ((Bi x f).2.1 e).symm
    omega
   have ih:=Re hf xs (some x) hx.1 hn.2 (fun q e=>by cases e;exact hlt);cases p with
   |none=>simp[chainB,hx.2.1,ih]
   |some q=>simp[chainB,hx.2.1,ih,hx.2.2 q rfl]
theorem Sc{f:aD}{l:aJ}(hf:pK f=true)(hl:fJ l=true)(hn:f∉l)(h24:l.length≠24):fJ (xJ f l)=true:=by
 unfold fJ at hl⊢;simp only[aS,bH]at hl⊢;exact⟨Re hf l none hl.1 hn (by simp),by rw[QD];omega⟩
theorem aCq(a:aJ)(f:aD)(K:Bool->aJ->Option aJ)(hf:f.args.length<=1099511627776):∀(rest:aJ) (i:Nat) (v:Bool) (w:aJ),(∀x∈rest,x.args.length<=1099511627776)->w.length+2*rest.length<=1048576->f∉rest->
 (v=true->dF a f K rest i v w=K true (w++rest))/\
 (v=false->(dF a f K rest i v w=K true (w++xJ f rest))\/(dF a f K rest i v w=K false (w++rest)/\xJ f rest=rest++[f])):=by
 intro rest
 induction rest with
 |nil=>intro i v w _ _ _;exact⟨fun h=>by subst h;simp[dF],fun h=>by subst h;exact .inr ⟨by simp[dF],rfl⟩⟩
 |cons x xs ih=>
  intro i v w hs hl hn;simp only[aQ]at hl;simp only[bV,Gi]at hn;have hx:=hs x (by simp);have hs':∀y∈xs,y.args.length<=1099511627776:=fun y hy=>hs y (by simp[hy])
  have cx:=zv x hx;have cf:=zv f hf;have nx:=fun w':aJ=>fun h:w'.length<1099511627776=>gF (w:=w') (c:=aD.c) (y:=[D.str x.rel,D.sl (x.args.map tx)]) (b:=40) h (by decide)
  have nf:=fun w':aJ=>fun h:w'.length<1099511627776=>gF (w:=w') (c:=aD.c) (y:=[D.str f.rel,D.sl (f.args.map tx)]) (b:=40) h (by decide)
  constructor
  ·intro h;subst h;rw[dF,bU,aL,cx,aA,nx w (by omega),aF,(ih (i+1) true (w++[x]) hs' (by simp;omega) hn.2).1 rfl];simp
  ·intro h;subst h;rw[dF,bt,aF,VH,aA];by_cases hgt:oI x f>0
   ·left
    have e2:room (((w.map aD.c)++[[D.str f.rel,D.sl (f.args.map tx)]]).length+[[D.str x.rel,D.sl (x.args.map tx)]].length) 40=true:=by
     have:=nx (w++[f]) (by simp;omega);rw[bI]at this;exact this
    rw[au (by omega:oI x f>=0),aF,aA,au hgt,aF,cf,aA,nf w (by omega),aF,cx,aA,e2,aF];rw[(ih (i+1) true (w++[f]++[x]) hs' (by simp;omega) hn.2).1 rfl,xJ,bP hgt];simp
   ·have hlt:¬oI x f>=0:=by
     have:oI x f≠0:=fun e=>hn.1 ((Bi x f).2.1 e).symm
     omega
    rw[ax hlt,aL,cx,aA,nx w (by omega),aF];rw[xJ,bE hgt];rcases(ih (i+1) false (w++[x]) hs' (by simp;omega) hn.2).2 rfl with q|⟨q1,q2⟩
    ·left;rw[q];simp
    ·right;rw[q1,q2];simp
theorem a7W(l:aJ)(f:aD)(hf:f.args.length<=1099511627776)(hl:∀x∈l,x.args.length<=1099511627776)(hn:l.length<=1000)(hm:f∉l):lV l f=some (xJ f l):=by
 unfold lV;rcases(aCq l f _ hf l 0 false [] hl (by simp;omega) hm).2 rfl with q|⟨q1,q2⟩
 ·rw[q];rfl
 ·rw[q1,q2];show(bif !false then _ else _)=_;rw[bt,aF,zv f hf,aA,eM,gF (w:=l) (c:=aD.c) (y:=[D.str f.rel,D.sl (f.args.map tx)]) (by omega) (by decide),aF]
def IX(l:aJ)(f:aD):aJ×Bool:=if fJ l=true/\pK f=true/\f∉l/\l.length≠24 then(xJ f l,true)else(l,false)
theorem aCb(l:aJ)(f:aD)(hl:sC aD.wt l<=1048576)(hf:f.wt<=1048576):wJ l f=some (IX l f):=by
 have hm:∀x∈l,x.args.length<=1048576:=fun x hx=>by have:=aD.dZ (n:=1048576) (p:=x) (by have:=qR (w:=aD.wt) hx;omega);omega
 have hlen:=tJ aD.wt l;have cp:=zJ l (by omega) hm;unfold wJ IX;rw[a2g l hl,aA];cases h1:fJ l with
 |false=>rw[bt,aF,cp,aA,bE (by simp)]
 |true=>
  rw[bU,aL,a2s f hf,aA];cases h2:pK f with
  |false=>rw[bt,aF,cp,aA,bE (by simp)]
  |true=>
   rw[bU,aL,Wq,aA,Bk];by_cases h3:f∈l
   ·rw[au h3,aF,cp,aA,bE (by simp[h3])]
   ·rw[ax h3,aL,aj];by_cases h4:l.length=24
    ·have e:(((l.length:Nat):Int)==(24:Int))=true:=by simp[h4]
     rw[e,aF,cp,aA,bE (by simp[h4])]
    ·have e:(((l.length:Nat):Int)==(24:Int))=false:=by simp;omega
     rw[e,aL,a7W l f (by have:=aD.dZ hf;omega) (fun x hx=>by have:=hm x hx;omega) (by have:=qF h1;omega) h3,aA,bP ⟨rfl,rfl,h3,h4⟩]
theorem Pf{a b c:Bytes}(h1:yZ a b<0)(h2:yZ b c<0):yZ a c<0:=by
 have lt:∀ {x y:Bytes},yZ x y<0->Op.bytesLess x y=true:=by
  intro x y h;unfold yZ at h;split at h
  ·assumption
  ·split at h<;>omega
 have:=AH (lt h1) (lt h2);unfold yZ;rw[bP this];omega
theorem a4c{x y:Int}:IY x y<0↔x<y:=by
 unfold IY;split
 ·omega
 ·split<;>omega
theorem Vp{a b c:Bytes}(h1:Co a b<0)(h2:Co b c<0):Co a c<0:=by
 unfold Co at*;cases ha:zL a<;>cases hb:zL b<;>cases hc:zL c<;>simp only[ha,hb,hc]at h1 h2⊢ <;>first|omega|exact Pf h1 h2| (rw[a4c]at*;omega)
theorem a4b{G:Type}(g:G->G->Int):cmpL g [] []=0:=rfl
theorem a4a{G:Type}(g:G->G->Int)(y:G)(ys:List G):cmpL g [] (y::ys)= -1:=by
 unfold cmpL vQ IY;simp<;>omega
theorem Xd{G:Type}(g:G->G->Int)(x:G)(xs:List G):cmpL g (x::xs) []=1:=by
 unfold cmpL vQ IY;simp<;>omega
theorem Xc{G:Type}(g:G->G->Int)(x y:G)(xs ys:List G):cmpL g (x::xs) (y::ys)=if g x y≠0 then g x y else cmpL g xs ys:=by
 unfold cmpL;rw[vQ];by_cases h:g x y≠0
 ·rw[bP h,bP h]
 ·rw[bE h,bE h,aQ,aQ];cases vQ g xs ys with
  |some z=>rfl
  |none=>
   show IY _ _=IY _ _;unfold IY
   congr 1
   ·rw[wB];omega
   ·congr 1
    rw[wB];omega
theorem Pd{G:Type}{g:G->G->Int}(h0:∀a b,g a b=0->a=b)(ht:∀a b c,g a b<0->g b c<0->g a c<0):∀(a b c:List G),cmpL g a b<0->cmpL g b c<0->cmpL g a c<0
 | [],[],c,h1,_=>by rw[a4b]at h1;omega
 |_::_,[],c,h1,_=>by rw[Xd]at h1;omega
 |_,y::ys,[],_,h2=>by rw[Xd]at h2;omega
 | [],y::ys,z::zs,_,_=>by rw[a4a];omega
 |x::xs,y::ys,z::zs,h1,h2=>by
  rw[Xc]at*;by_cases e1:g x y=0
  ·have:=h0 _ _ e1;subst this;rw[bE (by omega)]at h1;by_cases e2:g x z=0
   ·rw[bE (by omega)]at h2⊢;exact Pd h0 ht xs ys zs h1 h2
   ·rw[bP e2]at h2⊢;exact h2
  ·rw[bP e1]at h1;by_cases e2:g y z=0
   ·have:=h0 _ _ e2;subst this;rw[bP e1];exact h1
   ·rw[bP e2]at h2;have:=ht x y z h1 h2;rw[bP (by omega)];exact this
theorem Pc{a b c:aD}(h1:oI a b<0)(h2:oI b c<0):oI a c<0:=by
 unfold oI at*;by_cases e1:a.rel=b.rel
 ·by_cases e2:b.rel=c.rel
  ·rw[bE (by simpa using e1)]at h1;rw[bE (by simpa using e2)]at h2;rw[bE (by simpa using e1.trans e2)];exact Pd (fun a b=>(Rg a b).2.1) (fun _ _ _=>Vp) _ _ _ h1 h2
  ·rw[bP e2]at h2;rw[e1,bP e2];exact h2
 ·rw[bP e1]at h1;by_cases e2:b.rel=c.rel
  ·rw[<-e2,bP e1];exact h1
  ·rw[bP e2]at h2;have:=Pf h1 h2;have hne:a.rel≠c.rel:=fun e=>by rw[e,Rl]at this;omega
   rw[bP hne];exact this
theorem Ri(a:aD):¬oI a a<0:=by
 intro h;have:=(Bi a a).2.2 h;omega
theorem Rh(a:aD):oI a a=0:=by
 have h1:=Ri a;have h2:=(Bi a a).1;omega
theorem IK{a b:aJ}:cmpL oI a b=0↔a=b:=by
 constructor
 ·exact(Rj Bi a b).2.1
 ·rintro rfl
  induction a with
  |nil=>rfl
  |cons x xs ih=>rw[Xc,bE (by simp[Rh]),ih]
theorem yO{p:Option aD}{x:aD}{xs:aJ}(h:chainB p (x::xs)=true):pK x=true/\(∀q,p=some q->oI q x<0)/\chainB (some x) xs=true:=by
 cases p with
 |none=>simp[chainB]at h;exact⟨h.1,by simp,h.2⟩
 |some q=>
  simp only[chainB,aS,bH]at h;exact⟨h.1.1,fun q' e=>by cases e;exact h.1.2,h.2⟩
theorem N9:∀ {l:aJ} {p:aD},chainB (some p) l=true->∀x∈l,oI p x<0
 | [],_,_,_,h=>by cases h
 |y::ys,p,h,x,hx=>by
  obtain⟨_,h2,h3⟩:=yO h;have hp:=h2 p rfl;rcases bV.1 hx with rfl|hx
  ·exact hp
  ·exact Pc hp (N9 h3 x hx)
theorem LN:∀ {l:aJ} {p:Option aD},chainB p l=true->l.Nodup
 | [],_,_=>List.nodup_nil
 |x::xs,p,h=>by
  obtain⟨_,_,h3⟩:=yO h;rw[gw];exact⟨fun hx=>Ri x (N9 h3 x hx),LN h3⟩
theorem Gl{l:aJ}(h:fJ l=true):l.Nodup:=by
 unfold fJ at h;simp only[aS]at h;exact LN h.1
theorem O7:∀ {l:aJ} {p:Option aD},chainB p l=true->∀x∈l,pK x=true
 | [],_,_,_,h=>by cases h
 |y::ys,p,h,x,hx=>by
  obtain⟨h1,_,h3⟩:=yO h;rcases bV.1 hx with rfl|hx
  ·exact h1
  ·exact O7 h3 x hx
def BX(f:aD)(l:aJ):aJ:=l.filter fun x=> !decide (x=f)
theorem UN{p:Option aD}{x:aD}{xs:aJ}(h:chainB (some x) xs=true)(hp:∀q,p=some q->oI q x<0):chainB p xs=true:=by
 cases xs with
 |nil=>cases p<;>rfl
 |cons y ys=>
  obtain⟨h1,h2,h3⟩:=yO h;cases p with
  |none=>simp[chainB,h1,h3]
  |some q=>simp[chainB,h1,h3,Pc (hp q rfl) (h2 x rfl)]
theorem Pb(f:aD):∀(l:aJ) (p:Option aD),chainB p l=true->chainB p (BX f l)=true
 | [],_,h=>h
 |x::xs,p,h=>by
  obtain⟨h1,h2,h3⟩:=yO h;have ih:=Pb f xs;unfold BX at*;by_cases e:x=f
  ·rw[gy (by simp[e])];exact ih p (UN h3 h2)
  ·rw[gz (by simp[e])];have:=ih (some x) h3;cases p with
   |none=>simp[chainB,h1,this]
   |some q=>simp[chainB,h1,this,h2 q rfl]
theorem XS{l:aJ}(f:aD)(h:fJ l=true):fJ (BX f l)=true:=by
 unfold fJ at h⊢;simp only[aS,bH]at h⊢;exact⟨Pb f l none h.1,eY (lE _ _) h.2⟩
theorem XR{l:aJ}{f:aD}(h:(IX l f).2=true):fJ (IX l f).1=true:=by
 unfold IX at h⊢;split at h
 ·rename_i hc;rw[bP hc];exact Sc hc.2.1 hc.1 hc.2.2.1 hc.2.2.2
 ·cases h
def Kv(l:aJ)(f:aD):aJ×Bool:=if fJ l=true/\f∈l then(BX f l,true)else(l,false)
theorem Zm{p:aD}(h:w8 p=true)(hl:p.args.length<=5):Cov (vm p) p:=by
 have hT:∀t∈p.args,nB t=true:=PL h;refine⟨Zn h hl,h,rfl,unB (p.args.foldl kN []),?_,fun y hy=>?_⟩
 ·rw[Kw,sS];have:p.args.map (unB (p.args.foldl kN [])∘Dl (p.args.foldl kN []))=p.args.map id:=by
   apply nq;intro t ht;exact aDD hl ht (hT t ht)
  rw[this,List.map_id]
 ·refine O1 fun q hq e=>?_
  obtain⟨i,hi,_,hpv,_⟩:=Ky (DI p.args Vh.nil) hq;have h5:=DB p.args;have:=ni (MW i (by omega));rw[<-hpv,e,hy]at this;cases this
theorem S2{p f:aD}{b:aP}(hl:p.args.length<=5)(hm:(kM p f b).2=true):(kM (vm p) f []).2=true:=by
 unfold kM at hm;cases hc:(w8 p&&(pK f&&(iO b&&(p.rel==f.rel&&decide (p.args.length=f.args.length)))))with
 |false=>rw[hc]at hm;cases hm
 |true=>
  rw[hc,aF]at hm;simp only[aS,bH,cr]at hc;obtain⟨c1,c2,c3,c4,c5⟩:=hc;obtain⟨h,_,h2,h3⟩:=CT p.args f.args b c5 (fun x hx=>(Bh (uZ c3) x hx).1) hm;exact a4f (Zm c1 hl) (QS.2 ⟨c1,c2,c4,h,h2,h3⟩)
theorem Pr{c:aU}(hl:c.pat.args.length<=5)(t:aV):∀fs:aJ,(sB (vm c.pat) [] fs).flatMap (ext1 c t)=fs.flatMap (ext1 c t)
 | []=>rfl
 |f::fs=>by
  have ih:=Pr hl t fs;unfold sB at*;cases hm:(kM (vm c.pat) f []).2 with
  |true=>rw[gz (by rw[hm]),cw,cw,ih]
  |false=>
   have h0:ext1 c t f=[]:=by
    unfold ext1;cases h2:(kM c.pat f t.bind).2 with
    |false=>rfl
    |true=>rw[S2 hl h2]at hm;cases hm
   rw[gy (by simp[hm]),cw,h0,ih];rfl
theorem Z1{p:aD}{b:aP}(hl:p.args.length<=5)(fs:aJ):sB p b (sB (vm p) [] fs)=sB p b fs:=by
 unfold sB;rw[Bs];apply Cw;intro f _;cases h:(kM p f b).2 with
 |false=>rfl
 |true=>rw[S2 hl h];rfl
theorem ZY{c:aU}(hl:c.pat.args.length<=5)(fs:aJ)(A:ar):sH (sB (vm c.pat) [] fs) A c=sH fs A c:=by
 unfold sH
 congr 1
 funext t
 unfold BZ zm;rw[Pr hl,Z1 hl]
theorem a2H{c:aU}(h1:c.kind≠1)(h2:c.kind≠2)(fs:aJ)(A:ar):sH [] A c=sH fs A c:=by
 unfold sH
 congr 1
 funext t
 unfold BZ zm;rw[ax h1,ax h2];rfl
def KD(A:ar):Prop:=A.Pairwise fun t u=>t.facts≠u.facts
theorem Kk{c:aU}{t u:aV}{f:aD}(h:u∈ext1 c t f):u.facts=t.facts++[f]:=by
 unfold ext1 at h;cases hm:(kM c.pat f t.bind).2 with
 |false=>rw[hm]at h;cases h
 |true=>rw[hm,aF]at h;rw[cH.1 h]
theorem QX{c:aU}{fs:aJ}{t u:aV}(h:u∈BZ c fs t):(c.kind=1/\∃f∈fs,u.facts=t.facts++[f])\/(c.kind≠1/\u=t):=by
 unfold BZ at h;by_cases hk:c.kind=1
 ·rw[au hk,aF]at h;obtain⟨f,hf,hu⟩:=cB.1 h;exact .inl ⟨hk,f,hf,Kk hu⟩
 ·rw[ax hk,aL]at h;cases hh:zm c t.bind fs with
  |false=>rw[hh]at h;cases h
  |true=>rw[hh,aF]at h;exact .inr ⟨hk,cH.1 h⟩
theorem a5W{c:aU}{fs:aJ}{A:ar}(hf:fs.Nodup)(hA:KD A):KD (sH fs A c):=by
 unfold KD sH;rw[zQ];refine⟨fun t _=>?_,?_⟩
 ·unfold BZ;cases decide (c.kind=1)with
  |true=>
   rw[aF,zQ];refine⟨fun f _=>?_,?_⟩
   ·unfold ext1;cases(kM c.pat f t.bind).2<;>simp
   ·exact List.Pairwise.imp (fun {f g} hne x hx y hy e=>by
     rw[Kk hx,Kk hy]at e;exact hne (by simpa using e)) hf
  |false=>cases zm c t.bind fs<;>simp
 ·exact List.Pairwise.imp (fun {t u} hne x hx y hy e=>by
   rcases QX hx with⟨k,f,_,e1⟩|⟨k,e1⟩<;>rcases QX hy with⟨k',g,_,e2⟩|⟨k',e2⟩
   ·rw[e1,e2]at e;exact hne (List.append_inj' e rfl).1
   ·exact k' k
   ·exact k k'
   ·rw[e1,e2]at e;exact hne e) hA
theorem KD.one(t:aV):KD [t]:=List.pairwise_singleton _ _
theorem Xm{fs:aJ}(hf:fs.Nodup):∀(cs:ay) {A:ar},KD A->KD (cs.foldl (sH fs) A)
 | [],_,h=>h
 |c::cs,_,h=>Xm hf cs (a5W hf h)
theorem YS{cs:ay}{fs:aJ}(hf:fs.Nodup):KD (rS cs fs):=Xm hf cs (KD.one _)
def YM(t:aV)(l:ar):ar:=l.filter fun u=>decide (t.facts=u.facts)
def RH(l:ar)(t:aV):Bool:=l.any fun u=>decide (u.facts=t.facts)
def MN(now old:ar):Nat:=(now.filter fun t=>RH old t).length
theorem S8{t:aV}:∀ {l:ar},KD l->(YM t l).length=(bif RH l t then 1 else 0)
 | [],_=>rfl
 |u::l,h=>by
  unfold KD at h;rw[lY]at h;have ih:=S8 (t:=t) (l:=l) h.2;unfold YM RH at*;by_cases e:t.facts=u.facts
  ·rw[gz (by simp[e]),tL,au e.symm,Bool.true_or,aF,aQ,ih];have:(l.any fun u=>decide (u.facts=t.facts))=false:=by
    rw[yc];intro w hw;have:=h.1 w hw;rw[<-e]at this;simp only[bH];exact fun e2=>this e2.symm
   rw[this];rfl
  ·rw[gy (by simp[e]),tL,ax (fun h=>e h.symm),r9,ih]
def Oc(al:bQ)(x:Node):Prop:=(x.cond.kind=1\/x.cond.kind=2->∃a:Nat,x.cX=dS a/\∃y,al[a]?=some y/\y.shape=vm x.cond.pat)/\(¬(x.cond.kind=1\/x.cond.kind=2)->x.cX= -1)
theorem Oc.mono{al:bQ}{x:Node}(h:Oc al x)(m:bQ):Oc (al++m) x:=⟨fun hk=>by
 obtain⟨a,h1,y,h2,h3⟩:=h.1 hk;exact⟨a,h1,y,by rw[bJ (aN.1 h2).1];exact h2,h3⟩,h.2⟩
theorem UA{sh:aD}:∀ {l:bQ} {i j:Nat},Ym sh l i=some j->∃x,l[j-i]?=some x/\i<=j/\x.shape=sh
 |x::l,i,j,h=>by
  unfold Ym at h;split at h
  ·rename_i hc;cases h;exact⟨x,by simp,br _,hc⟩
  ·obtain⟨y,h1,h2,h3⟩:=UA h;refine⟨y,?_,by omega,h3⟩;rw[show j-i=(j-(i+1))+1 by omega];exact h1
theorem a7z(al:bQ)(sh:aD):(∃m,(XO al sh).1=al++m)/\∃a:Nat,(XO al sh).2=dS a/\∃y,(XO al sh).1[a]?=some y/\y.shape=sh:=by
 unfold XO;cases h:Ym sh al 0 with
 |some i=>
  obtain⟨x,h1,_,h3⟩:=UA h;exact⟨⟨[],by simp⟩,i,rfl,x,by simpa using h1,h3⟩
 |none=>exact⟨⟨_,rfl⟩,al.length,rfl,⟨sh,[]⟩,by simp,rfl⟩
theorem a84(al:bQ)(c:aU)(p:Int)(tk:ar):(∃m,(Ra al c).1=al++m)/\Oc (Ra al c).1 ⟨p,c,(Ra al c).2,tk⟩:=by
 unfold Ra;by_cases hk:c.kind=1\/c.kind=2
 ·rw[bP hk];obtain⟨h1,h2⟩:=a7z al (vm c.pat);exact⟨h1,fun _=>h2,fun h=>absurd hk h⟩
 ·rw[bE hk];exact⟨⟨[],by simp⟩,fun h=>absurd h hk,fun _=>rfl⟩
theorem a86{al:bQ}{ns:bN}{p:Int}{c:aU}(h:∀x∈ns,Oc al x):∀x∈(Mw al ns p c).1.2,Oc (Mw al ns p c).1.1 x:=by
 unfold Mw;cases RD p c ns 0 with
 |some i=>exact h
 |none=>
  obtain⟨⟨m,hm⟩,h2⟩:=a84 al c p [];intro x hx;rcases aW.1 hx with hx|hx
  ·show Oc (Ra al c).1 x;rw[hm];exact(h x hx).mono m
  ·rw[cH.1 hx];exact h2
theorem a3G:∀(cs:ay) (s:(bQ×bN)×Int),(∀x∈s.1.2,Oc s.1.1 x)->∀x∈(cs.foldl IT s).1.2,Oc (cs.foldl IT s).1.1 x
 | [],_,h=>h
 |c::cs,s,h=>a3G cs (IT s c) (a86 h)
theorem a3H:∀(l:az) (z:(bQ×bN)×bM),(∀x∈z.1.2,Oc z.1.1 x)->∀x∈(l.foldl Jp z).1.2,Oc (l.foldl Jp z).1.1 x
 | [],_,h=>h
 |r::l,z,h=>a3H l (Jp z r) (a3G (gE r) (z.1,0) h)
theorem a5y(tk:ar)(rs:az):∀x∈(cZ tk rs).1.2,Oc (cZ tk rs).1.1 x:=
 a3H rs (([],[root tk]),[]) (fun x hx=>by
  rw[cH.1 hx];exact⟨fun h=>by simp[root]at h,fun _=>rfl⟩)
theorem a3N{tk:ar}{rs:az}{i:Nat}{x:Node}(h1:1<=i)(hx:(cZ tk rs).1.2[i]?=some x):∃r∈rs,x.cond∈gE r:=by
 have hp:=(vZ tk rs).1;obtain⟨p,hpp,hpi⟩:=hp.below i x h1 hx;obtain⟨r,hr,j,j1,j2,e⟩:=hp.path i h1 (aN.1 hx).1;rw[yE hx h1 hpp hpi]at e;exact⟨r,hr,cO (by rw[<-e];simp:x.cond∈(gE r).take j)⟩
theorem a3U{ns:bN}{i p:Nat}{x:Node}(h1:1<=i)(hx:ns[i]?=some x)(hp:x.parent=dS p)(hpi:p<i)(fs:aJ):rS (eb ns (dS i)) fs=sH fs (rS (eb ns (dS p)) fs) x.cond:=by
 rw[yE hx h1 hp hpi];unfold rS;rw[List.foldl_append];rfl
end Go.Cx

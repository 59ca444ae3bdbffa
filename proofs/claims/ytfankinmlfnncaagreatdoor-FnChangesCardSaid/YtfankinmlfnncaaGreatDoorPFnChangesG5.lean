/- What functions of the program compute, and the walks that show it. No condition. -/
import Derived.Test.YtfankinmlfnncaaGreatDoorPFnChangesG4
import Derived.Test.YtfankinmlfnncaaGreatDoorPFnChangesG3
import Derived.Sort.Walk0
import Derived.Lib.ItoaNum
import Derived.Lib.ItoaLen
set_option linter.unusedVariables false
set_option linter.unusedSimpArgs false
namespace Go.Cx
open Go.RowKit Go.Proofs Tryz
set_option maxRecDepth 100000
variable{Z:wW}{N:Nat->St->Prop}
def fX(aD:aF)(aa:aC)(k1:Option (aF×Int)):bP->Nat->Option (aF×Int)
 | [],i1=>(k1)
 |bg::cj,i1=>((gS bg.shape aa).bind fun rV=>(bif rV then(some (aD,(i1:Int)))else(fX aD aa k1 cj (i1+1))))
def jP(aD:aF)(aa:aC):Option (aF×Int):=(bif decide (aD.bG.length<=maxLen)then(fX aD aa (bif room ((aD.bG.map ah.c).length+([[aZ aa.rel,bX (aa.args.map tx),bX ([])]]).length) 64 then(some ((⟨aD.rules,aD.ends,aD.bG++([(⟨aa,[]⟩:ah)]),aD.nodes,aD.facts,aD.cP⟩:aF),IntKind.i64.wrap ((((aD.bG.map ah.c)++([[aZ aa.rel,bX (aa.args.map tx),bX ([])]])).length:Int)-1)))else none) aD.bG 0)else none)
def By(jC:Value)(aD:aF)(aa:aC)(dL:Int):St:=⟨[(0,bp 0 0),(3,bp 1 0),(10,b9 2),(11,aB ((aD.bG.map ah.c).length:Int)),(12,aB dL)],[Ob.CW [b9 3,b9 4,b9 2,b9 5,b9 6,aB aD.cP] jC,bu [aZ aa.rel,b9 7],af 83 3 (aD.bG.map ah.c),af 63 4 (aD.rules.map aN.c),af 3 1 (aD.ends.map jN),af 74 8 (aD.nodes.map Node.c),af 43 2 (aD.facts.map aC.c),af 9 1 (aa.args.map tx)]⟩
theorem BR(hZ:Z.nt=40){jC:Value}{aD:aF}{aa:aC}{r:aF×Int}{k1:Option (aF×Int)}(eC:k1=some r->Ax Z N f217 (.p sJ jC (cN r.1) (aB r.2)) [1,1] ⟨[(0,bp 0 0),(3,bp 1 0)],[Ob.CW [b9 2,b9 3,b9 4,b9 5,b9 6,aB aD.cP] jC,bu [aZ aa.rel,b9 7],af 63 4 (aD.rules.map aN.c),af 3 1 (aD.ends.map jN),af 83 3 (aD.bG.map ah.c),af 74 8 (aD.nodes.map Node.c),af 43 2 (aD.facts.map aC.c),af 9 1 (aa.args.map tx)]⟩)(hm1:aD.bG.length<=maxLen):∀(rest:bP) (i1:Nat),aD.bG.drop i1=rest->fX aD aa k1 rest i1=some r->Ar Z N f217 (.p sJ jC (cN r.1) (aB r.2)) [1,0,1,0] (rest.length+1) (By jC aD aa (i1:Int)):=by
 intro rest
 induction rest with
 |nil=>
  intro i1 bB h;rw[fX]at h;refine aV fun N1 cq cS=>?_
  exact((aY.ge ah.c bB).a [.hl 0 [0,3] [0,1,3,4,2,5,6,7]]).ex hZ cq (eC h)
 |cons bg cj ih1=>
  intro i1 bB h;rw[fX]at h;refine aV fun N1 cq cS=>?_
  obtain⟨rV,h23,h⟩:=aH h;have fG:=((((aY.lt ah.c bB).i (fH ah.c 3 (dc bB))).o 3 3 .uq (cL ah.c (dc bB))).g (qJ h23))
  obtain⟨h24,h⟩|⟨h24,h⟩:=aK h
  ·cases h;exact(fG.b h24).ret hZ
  ·exact((fG.b h24).a [.cn [0,3,10,11,12] [0,1,2,3,4,5,6,7]]).ct hZ cS (iS bB hm1) (ih1 (i1+1) (dn bB) h)
theorem vB{aD:aF}{aa:aC}{r:aF×Int}(h:jP aD aa=some r):j0 prog 217 (cN aD) (cN r.1) [bw [aZ aa.rel,cW 9 1 (aa.args.map tx)]] (aB r.2):=by
 refine L4 func217 sJ 40 [b9 1,b9 2,b9 3,b9 4,b9 5,aB aD.cP] [bw [aZ aa.rel,b9 6]] [af 63 4 (aD.rules.map aN.c),af 3 1 (aD.ends.map jN),af 83 3 (aD.bG.map ah.c),af 74 8 (aD.nodes.map Node.c),af 43 2 (aD.facts.map aC.c),af 9 1 (aa.args.map tx)] fun hr jC Z hZ=>?_
 rw[jP]at h;obtain⟨h27,h⟩:=bf h;refine(aY.a [.cn [0,3,10,11,12] [0,7,3,1,2,4,5,6]]).lp hZ (BR hZ (fun h=>?_) (bh h27) aD.bG 0 rfl h);obtain⟨h26,h⟩:=bf h;cases h;exact((aY.w (cA h26)).a [.n2 [0,1,2,3,4,5,6,7,8,9,10,11] [0,1,2,3,4,5,6,7,8,9,10,11] 7 9 [0,1,2,3,4] [4,7,8]]).rts hZ (D.iz [aB (IntKind.i64.wrap ((((aD.bG.map ah.c)++([[aZ aa.rel,bX (aa.args.map tx),bX ([])]])).length:Int)-1)),bw [cW 63 4 (aD.rules.map aN.c),cW 3 1 (aD.ends.map jN),cW 83 3 ((aD.bG.map ah.c)++([[aZ aa.rel,bX (aa.args.map tx),bX ([])]])),cW 74 8 (aD.nodes.map Node.c),cW 43 2 (aD.facts.map aC.c),aB aD.cP],D.val jC]) (by first|rfl| (simp only[mA]<;>rfl)| (simp only[cN,mA]<;>rfl))
def eG(aD:aF)(aa:Int)(cv:aS)(k1:Option (aF×Int)):bN->Nat->Option (aF×Int)
 | [],i1=>(k1)
 |bg::cj,i1=>(bif decide (((i1:Int):Int)>0)then(bif (bg.parent:Int)==aa then((lT bg.cond cv).bind fun Jt=>(bif Jt then(some (aD,(i1:Int)))else(eG aD aa cv k1 cj (i1+1))))else(eG aD aa cv k1 cj (i1+1)))else(eG aD aa cv k1 cj (i1+1)))
def mO(aD:aF)(aa:Int)(cv:aS):Option (aF×Int):=(bif decide (aD.nodes.length<=maxLen)then(eG aD aa cv (bif (cv.kind:Int)==1 then((uD cv.pat).bind fun Oc=>((jP aD Oc).bind fun P4=>((gH cv).bind fun Ju=>(bif room ((P4.1.nodes.map Node.c).length+([[aB aa,aB Ju.kind,aZ Ju.pat.rel,bX (Ju.pat.args.map tx),aZ Ju.left,aZ Ju.right,aB P4.2,bX ([])]]).length) 120 then(some ((⟨P4.1.rules,P4.1.ends,P4.1.bG,P4.1.nodes++([(⟨aa,Ju,P4.2,[]⟩:Node)]),P4.1.facts,P4.1.cP⟩:aF),IntKind.i64.wrap ((((P4.1.nodes.map Node.c)++([[aB aa,aB Ju.kind,aZ Ju.pat.rel,bX (Ju.pat.args.map tx),aZ Ju.left,aZ Ju.right,aB P4.2,bX ([])]])).length:Int)-1)))else none))))else(bif (cv.kind:Int)==2 then((uD cv.pat).bind fun y47=>((jP aD y47).bind fun O6=>((gH cv).bind fun Mt=>(bif room ((O6.1.nodes.map Node.c).length+([[aB aa,aB Mt.kind,aZ Mt.pat.rel,bX (Mt.pat.args.map tx),aZ Mt.left,aZ Mt.right,aB O6.2,bX ([])]]).length) 120 then(some ((⟨O6.1.rules,O6.1.ends,O6.1.bG,O6.1.nodes++([(⟨aa,Mt,O6.2,[]⟩:Node)]),O6.1.facts,O6.1.cP⟩:aF),IntKind.i64.wrap ((((O6.1.nodes.map Node.c)++([[aB aa,aB Mt.kind,aZ Mt.pat.rel,bX (Mt.pat.args.map tx),aZ Mt.left,aZ Mt.right,aB O6.2,bX ([])]])).length:Int)-1)))else none))))else((gH cv).bind fun P5=>(bif room ((aD.nodes.map Node.c).length+([[aB aa,aB P5.kind,aZ P5.pat.rel,bX (P5.pat.args.map tx),aZ P5.left,aZ P5.right,aB (-1),bX ([])]]).length) 120 then(some ((⟨aD.rules,aD.ends,aD.bG,aD.nodes++([(⟨aa,P5, -1,[]⟩:Node)]),aD.facts,aD.cP⟩:aF),IntKind.i64.wrap ((((aD.nodes.map Node.c)++([[aB aa,aB P5.kind,aZ P5.pat.rel,bX (P5.pat.args.map tx),aZ P5.left,aZ P5.right,aB (-1),bX ([])]])).length:Int)-1)))else none)))) aD.nodes 0)else none)
def Bz(jC:Value)(aD:aF)(aa:Int)(cv:aS)(dL:Int):St:=⟨[(0,bp 0 0),(1,aB aa),(5,bp 1 0),(13,b9 2),(14,aB ((aD.nodes.map Node.c).length:Int)),(15,aB dL)],[Ob.CW [b9 3,b9 4,b9 5,b9 2,b9 6,aB aD.cP] jC,bu (aS.c cv),af 74 8 (aD.nodes.map Node.c),af 63 4 (aD.rules.map aN.c),af 3 1 (aD.ends.map jN),af 83 3 (aD.bG.map ah.c),af 43 2 (aD.facts.map aC.c)]⟩
theorem BS(hZ:Z.nt=69){jC:Value}{aD:aF}{aa:Int}{cv:aS}{r:aF×Int}{k1:Option (aF×Int)}(eC:k1=some r->Ax Z N f177 (.p sJ jC (cN r.1) (aB r.2)) [1,1] ⟨[(0,bp 0 0),(1,aB aa),(5,bp 1 0)],[Ob.CW [b9 2,b9 3,b9 4,b9 5,b9 6,aB aD.cP] jC,bu (aS.c cv),af 63 4 (aD.rules.map aN.c),af 3 1 (aD.ends.map jN),af 83 3 (aD.bG.map ah.c),af 74 8 (aD.nodes.map Node.c),af 43 2 (aD.facts.map aC.c)]⟩)(hm1:aD.nodes.length<=maxLen):∀(rest:bN) (i1:Nat),aD.nodes.drop i1=rest->eG aD aa cv k1 rest i1=some r->Ar Z N f177 (.p sJ jC (cN r.1) (aB r.2)) [1,0,1,0] (rest.length+1) (Bz jC aD aa cv (i1:Int)):=by
 intro rest
 induction rest with
 |nil=>
  intro i1 bB h;rw[eG]at h;refine aV fun N1 cq cS=>?_
  exact((aY.ge Node.c bB).a [.hl 0 [0,1,5] [0,1,3,4,5,2,6]]).ex hZ cq (eC h)
 |cons bg cj ih1=>
  intro i1 bB h;rw[eG]at h;refine aV fun N1 cq cS=>?_
  have k6:=(((aY.lt Node.c bB).i (fH Node.c 8 (dc bB))).o 8 8 .uq (cL Node.c (dc bB)))
  obtain⟨h30,h⟩|⟨h30,h⟩:=aK h
  ·have ud:=(k6.r 5 h30)
   obtain⟨h31,h⟩|⟨h31,h⟩:=aK h
   ·obtain⟨Jt,h33,h⟩:=aH h;have xg:=(((ud.r 4 h31).g (wI h33)).b h31)
    obtain⟨h34,h⟩|⟨h34,h⟩:=aK h
    ·cases h;exact(xg.b h34).ret hZ
    ·exact((xg.b h34).a [.cn [0,1,5,13,14,15] [0,1,2,3,4,5,6]]).ct hZ cS (iS bB hm1) (ih1 (i1+1) (dn bB) h)
   ·exact(((ud.r 5 h31).F 1).a [.cn [0,1,5,13,14,15] [0,1,2,3,4,5,6]]).ct hZ cS (iS bB hm1) (ih1 (i1+1) (dn bB) h)
  ·exact(((k6.r 5 h30).F 6).a [.cn [0,1,5,13,14,15] [0,1,2,3,4,5,6]]).ct hZ cS (iS bB hm1) (ih1 (i1+1) (dn bB) h)
theorem Av{aD:aF}{aa:Int}{cv:aS}{r:aF×Int}(h:mO aD aa cv=some r):j0 prog 177 (cN aD) (cN r.1) [aB aa,bw (aS.c cv)] (aB r.2):=by
 refine L4 func177 sJ 69 [b9 1,b9 2,b9 3,b9 4,b9 5,aB aD.cP] [aB aa,bw [aB cv.kind,aZ cv.pat.rel,bX (cv.pat.args.map tx),aZ cv.left,aZ cv.right]] [af 63 4 (aD.rules.map aN.c),af 3 1 (aD.ends.map jN),af 83 3 (aD.bG.map ah.c),af 74 8 (aD.nodes.map Node.c),af 43 2 (aD.facts.map aC.c)] fun hr jC Z hZ=>?_
 rw[mO]at h;obtain⟨h63,h⟩:=bf h;refine(aY.a [.cn [0,1,5,13,14,15] [0,6,4,1,2,3,5]]).lp hZ (BS hZ (fun h=>?_) (bh h63) aD.nodes 0 rfl h);obtain⟨h35,h⟩|⟨h35,h⟩:=aK h
 ·obtain⟨Oc,h37,P4,h39,Ju,h44,h⟩:=gX h;obtain⟨h45,h⟩:=bf h;cases h;exact(((((((aY.r 4 h35).T 1).g (BD h37)).hp TP (vB h39)).a [.n2 [0,1,2,3,4,5,6,7,8,9,10,11,12,13,14] [0,1,2,3,4,5,6,7,8,9,10,11,12,13,14] 10 12 [0,1,2,3,4] [11,13,14]]).g (mW h44)).w (cA h45)).rts hZ (D.iz [aB (IntKind.i64.wrap ((((P4.1.nodes.map Node.c)++([[aB aa,aB Ju.kind,aZ Ju.pat.rel,bX (Ju.pat.args.map tx),aZ Ju.left,aZ Ju.right,aB P4.2,bX ([])]])).length:Int)-1)),bw [cW 63 4 (P4.1.rules.map aN.c),cW 3 1 (P4.1.ends.map jN),cW 83 3 (P4.1.bG.map ah.c),cW 74 8 ((P4.1.nodes.map Node.c)++([[aB aa,aB Ju.kind,aZ Ju.pat.rel,bX (Ju.pat.args.map tx),aZ Ju.left,aZ Ju.right,aB P4.2,bX ([])]])),cW 43 2 (P4.1.facts.map aC.c),aB P4.1.cP],D.val jC]) (by first|rfl| (simp only[mA]<;>rfl)| (simp only[cN,mA]<;>rfl))
 ·have Ak:=(aY.r 4 h35)
  obtain⟨h46,h⟩|⟨h46,h⟩:=aK h
  ·obtain⟨y47,h48,O6,h50,Mt,h55,h⟩:=gX h;obtain⟨h56,h⟩:=bf h;cases h;exact((((((Ak.b h46).g (BD h48)).hp TP (vB h50)).a [.n2 [0,1,2,3,4,5,6,7,8,9,10,11,12,13,14] [0,1,2,3,4,5,6,7,8,9,10,11,12,13,14] 10 12 [0,1,2,3,4] [11,13,14]]).g (mW h55)).w (cA h56)).rts hZ (D.iz [aB (IntKind.i64.wrap ((((O6.1.nodes.map Node.c)++([[aB aa,aB Mt.kind,aZ Mt.pat.rel,bX (Mt.pat.args.map tx),aZ Mt.left,aZ Mt.right,aB O6.2,bX ([])]])).length:Int)-1)),bw [cW 63 4 (O6.1.rules.map aN.c),cW 3 1 (O6.1.ends.map jN),cW 83 3 (O6.1.bG.map ah.c),cW 74 8 ((O6.1.nodes.map Node.c)++([[aB aa,aB Mt.kind,aZ Mt.pat.rel,bX (Mt.pat.args.map tx),aZ Mt.left,aZ Mt.right,aB O6.2,bX ([])]])),cW 43 2 (O6.1.facts.map aC.c),aB O6.1.cP],D.val jC]) (by first|rfl| (simp only[mA]<;>rfl)| (simp only[cN,mA]<;>rfl))
  ·obtain⟨P5,h61,h⟩:=aH h;obtain⟨h62,h⟩:=bf h;cases h;exact((((Ak.b h46).a [.n2 [0,1,2,3,4,5,6,7,8,9,10,11,12,13,14] [0,1,2,3,4,5,6,7,8,9,10,11,12,13,14] 10 12 [0,1,2,3,4] [5,7,8]]).g (mW h61)).w (cA h62)).rts hZ (D.iz [aB (IntKind.i64.wrap ((((aD.nodes.map Node.c)++([[aB aa,aB P5.kind,aZ P5.pat.rel,bX (P5.pat.args.map tx),aZ P5.left,aZ P5.right,aB (-1),bX ([])]])).length:Int)-1)),bw [cW 63 4 (aD.rules.map aN.c),cW 3 1 (aD.ends.map jN),cW 83 3 (aD.bG.map ah.c),cW 74 8 ((aD.nodes.map Node.c)++([[aB aa,aB P5.kind,aZ P5.pat.rel,bX (P5.pat.args.map tx),aZ P5.left,aZ P5.right,aB (-1),bX ([])]])),cW 43 2 (aD.facts.map aC.c),aB aD.cP],D.val jC]) (by first|rfl| (simp only[mA]<;>rfl)| (simp only[cN,mA]<;>rfl))
def kX(aD:az)(i1:Nat)(Ga:ay)(k2:Int->Int->az->bM->bP->bN->aJ->Option aF):ay->Nat->Int->Int->az->bM->bP->bN->aJ->Option aF
 | [],i2,ni,qk,Df,lY,x6,kR,tZ=>(k2 ni qk Df lY x6 kR tZ)
 |jM::tL,i2,ni,qk,Df,lY,x6,kR,tZ=>((mO (⟨Df,lY,x6,kR,tZ,qk⟩:aF) ni jM).bind fun zy=>(kX aD i1 Ga k2 tL (i2+1) zy.2 zy.1.cP zy.1.rules zy.1.ends zy.1.bG zy.1.nodes zy.1.facts))
def kW(aD:az)(k1:Int->az->bM->bP->bN->aJ->Option aF):az->Nat->Int->az->bM->bP->bN->aJ->Option aF
 | [],i1,qj,nk,dh,xN,nG,De=>(k1 qj nk dh xN nG De)
 |bg::cj,i1,qj,nk,dh,xN,nG,De=>((sZ bg).bind fun Ga=>(bif decide (Ga.length<=maxLen)then(kX aD i1 Ga (fun(Bd:Int) (qh:Int) (Ks:az) (yH:bM) (Kt:bP) (nB:bN) (Ku:aJ)=>(bif room ((yH.map jN).length+([[aB Bd]]).length) 8 then(kW aD k1 cj (i1+1) qh Ks (yH++([Bd])) Kt nB Ku)else none)) Ga 0 0 qj nk dh xN nG De)else none))
def uM(aD:az):Option aF:=((rN aD).bind fun y1=>(kW aD (fun(wT:Int) (r9:az) (eO:bM) (Qh:bP) (lX:bN) (wS:aJ)=>(some (⟨r9,eO,Qh,lX,wS,wT⟩:aF))) aD 0 0 y1 ([]:bM) ([]:bP) ([(⟨-1,(⟨0,(⟨[],[]⟩:aC),[],[]⟩:aS), -1,[]⟩:Node)]) ([]:aJ)))
def xF(aD:az)(qj:Int)(W1:List aT)(W2:List aT)(W3:List aT)(W4:List aT)(W5:List aT)(dL:Int):St:=⟨[(2,bp 0 0),(3,bp 1 0),(14,bX (aD.map aN.c)),(15,aB ((aD.map aN.c).length:Int)),(16,aB dL)],[bu [D.nil,D.nil,D.nil,D.nil,D.nil,aB 0],bu [b9 2,b9 3,b9 4,b9 5,b9 6,aB qj],af 63 4 W1,af 3 1 W2,af 83 3 W3,af 74 8 W4,af 43 2 W5]⟩
def Ix(aD:az)(i1:Nat)(Ga:ay)(ni:Int)(qk:Int)(W2:List aT)(W3:List aT)(W4:List aT)(W5:List aT)(W6:List aT)(dL:Int):St:=⟨[(2,bp 0 0),(3,bp 1 0),(6,aB ni),(14,bX (aD.map aN.c)),(15,aB ((aD.map aN.c).length:Int)),(16,aB (i1:Int)),(21,b9 2),(22,aB ((Ga.map aS.c).length:Int)),(23,aB dL)],[bu [D.nil,D.nil,D.nil,D.nil,D.nil,aB 0],bu [b9 3,b9 4,b9 5,b9 6,b9 7,aB qk],af 71 5 (Ga.map aS.c),af 63 4 W2,af 3 1 W3,af 83 3 W4,af 74 8 W5,af 43 2 W6]⟩
theorem HK(hZ:Z.nt=39){aD:az}{i1:Nat}{Ga:ay}{r:aF}{k2:Int->Int->az->bM->bP->bN->aJ->Option aF}(zc:∀(Bd:Int) (qh:Int) (Ks:az) (yH:bM) (Kt:bP) (nB:bN) (Ku:aJ),k2 Bd qh Ks yH Kt nB Ku=some r->Ax Z N f106 (vq r) [1,1,0,1,0,0,1,1,0,0,1,1,1] ⟨[(2,bp 0 0),(3,bp 1 0),(6,aB Bd),(14,bX (aD.map aN.c)),(15,aB ((aD.map aN.c).length:Int)),(16,aB (i1:Int))],[bu [D.nil,D.nil,D.nil,D.nil,D.nil,aB 0],bu [b9 2,b9 3,b9 4,b9 5,b9 6,aB qh],af 63 4 (Ks.map aN.c),af 3 1 (yH.map jN),af 83 3 (Kt.map ah.c),af 74 8 (nB.map Node.c),af 43 2 (Ku.map aC.c)]⟩)(hm2:Ga.length<=maxLen):∀(rest:ay) (i2:Nat) (ni:Int) (qk:Int) (Df:az) (lY:bM) (x6:bP) (kR:bN) (tZ:aJ),Ga.drop i2=rest->kX aD i1 Ga k2 rest i2 ni qk Df lY x6 kR tZ=some r->Ar Z N f106 (vq r) [1,1,0,1,0,0,1,1,0,0,1,1,0,1,0] (rest.length+1) (Ix aD i1 Ga ni qk (Df.map aN.c) (lY.map jN) (x6.map ah.c) (kR.map Node.c) (tZ.map aC.c) (i2:Int)):=by
 intro rest
 induction rest with
 |nil=>
  intro i2 ni qk Df lY x6 kR tZ hd2 h;rw[kX]at h;refine aV fun N2 uY qt=>?_
  exact((aY.ge aS.c hd2).a [.hl 5 [2,3,6,14,15,16] [0,1,3,4,5,6,7]]).ex hZ uY (zc ni qk Df lY x6 kR tZ h)
 |cons jM tL ih2=>
  intro i2 ni qk Df lY x6 kR tZ hd2 h;rw[kX]at h;refine aV fun N2 uY qt=>?_
  obtain⟨zy,h209,h⟩:=aH h;exact((((((aY.lt aS.c hd2).i (fH aS.c 5 (dc hd2))).o 5 5 .uq (cL aS.c (dc hd2))).a [.gp a2I (cN zy.1) (aB zy.2)]).w (show j0 prog 177 (cN (⟨Df,lY,x6,kR,tZ,qk⟩:aF)) (cN zy.1) [aB ni,bw (aS.c jM)] (aB zy.2)from by simpa only[bI,bA,cF,cD,cI]using Av h209)).a [.cn [2,3,6,14,15,16,21,22,23] [0,1,2,9,10,11,12,13]]).ct hZ qt (iS hd2 hm2) (ih2 (i2+1) zy.2 zy.1.cP zy.1.rules zy.1.ends zy.1.bG zy.1.nodes zy.1.facts (dn hd2) h)
theorem HJ(hZ:Z.nt=39){aD:az}{r:aF}{k1:Int->az->bM->bP->bN->aJ->Option aF}(eC:∀(wT:Int) (r9:az) (eO:bM) (Qh:bP) (lX:bN) (wS:aJ),k1 wT r9 eO Qh lX wS=some r->Ax Z N f106 (vq r) [1,1,1] ⟨[(2,bp 0 0),(3,bp 1 0)],[bu [D.nil,D.nil,D.nil,D.nil,D.nil,aB 0],bu [b9 2,b9 3,b9 4,b9 5,b9 6,aB wT],af 63 4 (r9.map aN.c),af 3 1 (eO.map jN),af 83 3 (Qh.map ah.c),af 74 8 (lX.map Node.c),af 43 2 (wS.map aC.c)]⟩)(hm1:aD.length<=maxLen):∀(rest:az) (i1:Nat) (qj:Int) (nk:az) (dh:bM) (xN:bP) (nG:bN) (De:aJ),aD.drop i1=rest->kW aD k1 rest i1 qj nk dh xN nG De=some r->Ar Z N f106 (vq r) [1,1,0,1,0] (rest.length+1) (xF aD qj (nk.map aN.c) (dh.map jN) (xN.map ah.c) (nG.map Node.c) (De.map aC.c) (i1:Int)):=by
 intro rest
 induction rest with
 |nil=>
  intro i1 qj nk dh xN nG De bB h;rw[kW]at h;refine aV fun N1 cq cS=>?_
  exact((aY.ge aN.c bB).a [.hl 0 [2,3] [0,1,2,3,4,5,6]]).ex hZ cq (eC qj nk dh xN nG De h)
 |cons bg cj ih1=>
  intro i1 qj nk dh xN nG De bB h;rw[kW]at h;refine aV fun N1 cq cS=>?_
  obtain⟨Ga,h180,h⟩:=aH h;obtain⟨h211,h⟩:=bf h;refine((((aY.lt aN.c bB).l (bK aN.c 4 (dc bB) rfl)).g (Eo h180)).a [.cn [2,3,6,14,15,16,21,22,23] [0,1,8,2,3,4,5,6]]).lp hZ (HK hZ (fun Bd qh Ks yH Kt nB Ku h=>?_) (bh h211) Ga 0 0 qj nk dh xN nG De rfl h);obtain⟨h210,h⟩:=bf h;exact((aY.w (cA h210)).a [.cn [2,3,14,15,16] [0,1,2,8,4,5,6]]).cs hZ cS (xF aD qh (Ks.map aN.c) ((yH.map jN)++([[aB Bd]])) (Kt.map ah.c) (nB.map Node.c) (Ku.map aC.c) (IntKind.i64.wrap ((i1:Int)+1))) (by first| (simp only[iS bB hm1,mA]<;>rfl)| (simp only[iS bB hm1,mA,aC.c,aW.c,aS.c,Action.c,aN.c,aQ.c,ai.c,ah.c,Node.c,aF.c,di.c]<;>rfl)) (ih1 (i1+1) qh Ks (yH++([Bd])) Kt nB Ku (dn bB) h)
theorem GA{aD:az}{r:aF}(h:uM aD=some r):Good prog 106 [bX (aD.map aN.c)] (bw [cW 63 4 (r.rules.map aN.c),cW 3 1 (r.ends.map jN),cW 83 3 (r.bG.map ah.c),cW 74 8 (r.nodes.map Node.c),cW 43 2 (r.facts.map aC.c),aB r.cP]):=by
 refine gd func106 zn 39 fun hr Z hZ=>?_
 rw[uM]at h;obtain⟨y1,h2,h⟩:=aH h;refine((aY.g (zX h2)).a [.pb 3 1 3 1,.pb 3 2 83 3,.pb 3 4 43 2,.cn [2,3,14,15,16] [0,3,1,4,5,2,6]]).lps hZ (xF aD 0 (y1.map aN.c) ([]:List aT) ([]:List aT) ([[aB (-1),aB 0,aZ ([]),bX ([]),aZ ([]),aZ ([]),aB (-1),bX ([])]]) ([]:List aT) 0) (by first| (simp only[mA]<;>rfl)| (simp only[mA,aC.c,aW.c,aS.c,Action.c,aN.c,aQ.c,ai.c,ah.c,Node.c,aF.c,di.c]<;>rfl)) (HJ hZ (fun wT r9 eO Qh lX wS h=>?_) (by have:=(gY.sl (hr _ (aE (i:=0) rfl))).1;simpa using this) aD 0 0 y1 ([]:bM) ([]:bP) ([(⟨-1,(⟨0,(⟨[],[]⟩:aC),[],[]⟩:aS), -1,[]⟩:Node)]) ([]:aJ) rfl h);cases h;exact aY.ret hZ
def ew(aD:aC):Option aC:=((oa aD.args).bind fun y1=>(some (⟨aD.rel,y1⟩:aC)))
theorem iT{aD:aC}{r:aC}(h:ew aD=some r):Good prog 143 [bw (aC.c aD)] (bw [aZ r.rel,cW 9 1 (r.args.map tx)]):=by
 refine gd func143 Kr 9 fun hr Z hZ=>?_
 rw[ew]at h;obtain⟨y1,h2,h⟩:=aH h;cases h;exact((aY.a [.n 5]).g (vg h2)).ret hZ
def o4(aD:aJ)(k1:aJ->Option aJ):aJ->Nat->aJ->Option aJ
 | [],i1,bY=>(k1 bY)
 |bg::cj,i1,bY=>((ew bg).bind fun qB=>(bif room ((bY.map aC.c).length+([[aZ qB.rel,bX (qB.args.map tx)]]).length) 40 then(o4 aD k1 cj (i1+1) (bY++([qB])))else none))
def cm(aD:aJ):Option aJ:=(o4 aD (fun(cM:aJ)=>(some cM)) aD 0 ([]:aJ))
def BG(aD:aJ)(W0:List aT)(dL:Int):St:=⟨[(3,b9 0),(6,bX (aD.map aC.c)),(7,aB ((aD.map aC.c).length:Int)),(8,aB dL)],[af 43 2 W0]⟩
theorem H8(hZ:Z.nt=19){aD:aJ}{r:aJ}{k1:aJ->Option aJ}(eC:∀(cM:aJ),k1 cM=some r->Ax Z N f82 (D0 r) [1,1,1] ⟨[(3,b9 0)],[af 43 2 (cM.map aC.c)]⟩)(hm1:aD.length<=maxLen):∀(rest:aJ) (i1:Nat) (bY:aJ),aD.drop i1=rest->o4 aD k1 rest i1 bY=some r->Ar Z N f82 (D0 r) [1,1,0,1,0] (rest.length+1) (BG aD (bY.map aC.c) (i1:Int)):=by
 intro rest
 induction rest with
 |nil=>
  intro i1 bY bB h;rw[o4]at h;refine aV fun N1 cq cS=>?_
  exact((aY.ge aC.c bB).a [.hl 0 [3] [0]]).ex hZ cq (eC bY h)
 |cons bg cj ih1=>
  intro i1 bY bB h;rw[o4]at h;refine aV fun N1 cq cS=>?_
  obtain⟨qB,h28,h⟩:=aH h;obtain⟨h29,h⟩:=bf h;exact(((((aY.lt aC.c bB).l (bK aC.c 2 (dc bB) rfl)).g (iT h28)).w (cA h29)).a [.cn [3,6,7,8] [4]]).cs hZ cS (BG aD ((bY.map aC.c)++([[aZ qB.rel,bX (qB.args.map tx)]])) (IntKind.i64.wrap ((i1:Int)+1))) (by first| (simp only[iS bB hm1,mA]<;>rfl)| (simp only[iS bB hm1,mA,aC.c,aW.c,aS.c,Action.c,aN.c,aQ.c,ai.c,ah.c,Node.c,aF.c,di.c]<;>rfl)) (ih1 (i1+1) (bY++([qB])) (dn bB) h)
theorem cu{aD:aJ}{r:aJ}(h:cm aD=some r):Good prog 82 [bX (aD.map aC.c)] (cW 43 2 (r.map aC.c)):=by
 refine gd func82 I9 19 fun hr Z hZ=>?_
 rw[cm]at h;refine(aY.a [.L5 3,.cn [3,6,7,8] [0]]).lp hZ (H8 hZ (fun cM h=>?_) (by have:=(gY.sl (hr _ (aE (i:=0) rfl))).1;simpa using this) aD 0 ([]:aJ) rfl h);cases aM h;exact aY.ret hZ
def jD(aD:aP)(k1:Option Bool):aP->Nat->Option Bool
 | [],i1=>(k1)
 |bg::cj,i1=>((nO bg.var).bind fun y50=>(bif !(y50)then(some false)else((gR bg.value).bind fun y53=>(bif !(y53)then(some false)else(bif decide (((i1:Int):Int)>0)then((gA aD (IntKind.i64.wrap ((i1:Int)-1))).bind fun x57=>(bif !(Op.bytesLess x57.var bg.var)then(some false)else(jD aD k1 cj (i1+1))))else(jD aD k1 cj (i1+1)))))))
def mR(aD:aP):Option Bool:=(bif decide ((((aD.map aW.c).length:Int):Int)>6)then(some false)else(jD aD (some true) aD 0))
def Ih(aD:aP)(dL:Int):St:=⟨[(0,bX (aD.map aW.c)),(8,bX (aD.map aW.c)),(9,aB ((aD.map aW.c).length:Int)),(10,aB dL)],[]⟩
theorem Gw(hZ:Z.nt=41){aD:aP}{r:Bool}{k1:Option Bool}(eC:k1=some r->Ax Z N f146 (.q bZ (bQ r)) [1,1,1] ⟨[],[]⟩)(hm1:aD.length<=maxLen):∀(rest:aP) (i1:Nat),aD.drop i1=rest->jD aD k1 rest i1=some r->Ar Z N f146 (.q bZ (bQ r)) [1,1,0,1,0] (rest.length+1) (Ih aD (i1:Int)):=by
 intro rest
 induction rest with
 |nil=>
  intro i1 bB h;rw[jD]at h;refine aV fun N1 cq cS=>?_
  exact((aY.ge aW.c bB).a [.hl 0 [] []]).ex hZ cq (eC h)
 |cons bg cj ih1=>
  intro i1 bB h;rw[jD]at h;refine aV fun N1 cq cS=>?_
  obtain⟨y50,h51,h⟩:=aH h;have ud:=((((aY.lt aW.c bB).l (bK aW.c 2 (dc bB) rfl)).a [.n 22]).g (qH h51))
  obtain⟨h52,h⟩|⟨h52,h⟩:=aK h
  ·cases aM h;exact((((ud.r 5 h52).T 3).a [bF,bF,bF,bF,bF,bF,bF,bF,bF]).T 3).ret hZ
  ·obtain⟨y53,h54,h⟩:=aH h;have xg:=(((ud.r 3 h52).g (fY h54)).r 2 h52)
   obtain⟨h55,h⟩|⟨h55,h⟩:=aK h
   ·cases aM h;exact((((xg.r 3 h55).a [bF,bF,bF,bF,bF,bF,bF,bF,bF]).r 2 h55).T 1).ret hZ
   ·have Ak:=(xg.r 3 h55)
    obtain⟨h56,h⟩|⟨h56,h⟩:=aK h
    ·obtain⟨x57,h58,h⟩:=aH h;have Fc:=((((((Ak.r 4 h56).l (dW aW.c 2 h58 rfl)).r 5 h56).b h55).b h56).b h55)
     obtain⟨h59,h⟩|⟨h59,h⟩:=aK h
     ·cases aM h;exact(Fc.b h59).ret hZ
     ·exact((Fc.b h59).a [.cn [0,8,9,10] []]).ct hZ cS (iS bB hm1) (ih1 (i1+1) (dn bB) h)
    ·exact((((((Ak.r 9 h56).b h55).b h56).b h55).F 1).a [.cn [0,8,9,10] []]).ct hZ cS (iS bB hm1) (ih1 (i1+1) (dn bB) h)
theorem oR{aD:aP}{r:Bool}(h:mR aD=some r):Good prog 146 [bX (aD.map aW.c)] (bQ r):=by
 refine gd func146 bZ 41 fun hr Z hZ=>?_
 rw[mR]at h;obtain⟨h1,h⟩|⟨h1,h⟩:=aK h
 ·cases aM h;exact(aY.b h1).ret hZ
 ·refine((aY.b h1).a [.cn [0,8,9,10] []]).lp hZ (Gw hZ (fun h=>?_) (by have:=(gY.sl (hr _ (aE (i:=0) rfl))).1;simpa using this) aD 0 rfl h);cases aM h;exact aY.ret hZ
def j8(aD:aP):Option aP:=(bif room (([]:List aT).length+(aD.map aW.c).length) 32 then(some (([]:aP)++aD))else none)
theorem s9{aD:aP}{r:aP}(h:j8 aD=some r):Good prog 147 [bX (aD.map aW.c)] (cW 113 2 (r.map aW.c)):=by
 refine gd func147 FL 5 fun hr Z hZ=>?_
 rw[j8]at h;obtain⟨h1,h⟩:=bf h;cases h;exact(((aY.w (cA h1)).w (show(∀r∈(aD.map aW.c),r.length=2)/\(true=true->D.jr (aD.map aW.c)=true)from⟨by first|simp| (intro r hr;obtain⟨x,_,rfl⟩:=cJ.1 (cO (fN hr));rfl),by simp[D.jr,D.flat]⟩)).a [.L5 2,.fl true]).rts hZ (cW 113 2 (([]:List aT)++(aD.map aW.c))) (by first|rfl| (simp only[mA]<;>rfl)| (simp only[cN,mA]<;>rfl))
def nR(aD:aP)(aa:Bytes)(k1:Option (Bytes×Bool)):aP->Nat->Option (Bytes×Bool)
 | [],i1=>(k1)
 |bg::cj,i1=>(bif (bg.var:Bytes)==aa then(some (bg.value,true))else(nR aD aa k1 cj (i1+1)))
def pV(aD:aP)(aa:Bytes):Option (Bytes×Bool):=((gR aa).bind fun y1=>(bif y1 then(some (aa,true))else((nO aa).bind fun y4=>(bif !(y4)then(some ([],false))else(nR aD aa (some ([],false)) aD 0)))))
def LZ(aD:aP)(aa:Bytes)(dL:Int):St:=⟨[(1,aZ aa),(14,bX (aD.map aW.c)),(15,aB ((aD.map aW.c).length:Int)),(16,aB dL)],[]⟩
theorem K7(hZ:Z.nt=27){aD:aP}{aa:Bytes}{r:Bytes×Bool}{k1:Option (Bytes×Bool)}(eC:k1=some r->Ax Z N f83 (XH r) [1,1,1,1] ⟨[],[]⟩)(hm1:aD.length<=maxLen):∀(rest:aP) (i1:Nat),aD.drop i1=rest->nR aD aa k1 rest i1=some r->Ar Z N f83 (XH r) [1,1,1,0,1,0] (rest.length+1) (LZ aD aa (i1:Int)):=by
 intro rest
 induction rest with
 |nil=>
  intro i1 bB h;rw[nR]at h;refine aV fun N1 cq cS=>?_
  exact((aY.ge aW.c bB).a [.hl 0 [] []]).ex hZ cq (eC h)
 |cons bg cj ih1=>
  intro i1 bB h;rw[nR]at h;refine aV fun N1 cq cS=>?_
  have fG:=((aY.lt aW.c bB).l (bK aW.c 2 (dc bB) rfl))
  obtain⟨h19,h⟩|⟨h19,h⟩:=aK h
  ·cases h;exact(fG.b h19).ret hZ
  ·exact((fG.b h19).a [.cn [1,14,15,16] []]).ct hZ cS (iS bB hm1) (ih1 (i1+1) (dn bB) h)
theorem tj{aD:aP}{aa:Bytes}{r:Bytes×Bool}(h:pV aD aa=some r):Good prog 83 [bX (aD.map aW.c),aZ aa] (D.iz [aZ r.1,bQ r.2]):=by
 refine gd func83 OO 27 fun hr Z hZ=>?_
 rw[pV]at h;obtain⟨y1,h2,h⟩:=aH h;obtain⟨h3,h⟩|⟨h3,h⟩:=aK h
 ·cases h;exact((aY.g (fY h2)).b h3).ret hZ
 ·obtain⟨y4,h5,h⟩:=aH h;have jR:=(((aY.g (fY h2)).b h3).g (qH h5))
  obtain⟨h6,h⟩|⟨h6,h⟩:=aK h
  ·cases h;exact(jR.b h6).ret hZ
  ·refine((jR.b h6).a [.cn [1,14,15,16] []]).lp hZ (K7 hZ (fun h=>?_) (by have:=(gY.sl (hr _ (aE (i:=0) rfl))).1;simpa using this) aD 0 rfl h);cases h;exact aY.ret hZ
def mP(aD:aP)(aa:Bytes)(cv:Bytes)(k1:Bool->aP->Option (aP×Bool)):aP->Nat->Bool->aP->Option (aP×Bool)
 | [],i1,Ag,bY=>(k1 Ag bY)
 |bg::cj,i1,Ag,bY=>(bif !(Ag)then(bif !(Op.bytesLess bg.var aa||(bg.var:Bytes)==aa)then(bif room ((bY.map aW.c).length+([[aZ aa,aZ cv]]).length) 32 then(bif room (((bY.map aW.c)++([[aZ aa,aZ cv]])).length+([[aZ bg.var,aZ bg.value]]).length) 32 then(mP aD aa cv k1 cj (i1+1) true ((bY++([(⟨aa,cv⟩:aW)]))++([bg])))else none)else none)else(bif room ((bY.map aW.c).length+([[aZ bg.var,aZ bg.value]]).length) 32 then(mP aD aa cv k1 cj (i1+1) Ag (bY++([bg])))else none))else(bif room ((bY.map aW.c).length+([[aZ bg.var,aZ bg.value]]).length) 32 then(mP aD aa cv k1 cj (i1+1) Ag (bY++([bg])))else none))
def tO(aD:aP)(aa:Bytes)(cv:Bytes):Option (aP×Bool):=((mR aD).bind fun y1=>(bif !(y1)then(some ([],false))else((nO aa).bind fun y4=>(bif !(y4)then(some ([],false))else((gR cv).bind fun y7=>(bif !(y7)then(some ([],false))else((pV aD aa).bind fun GZ=>(bif GZ.2 then(bif !((GZ.1:Bytes)==cv)then(some ([],false))else((j8 aD).bind fun Ai=>(some (Ai,true))))else(bif decide ((((aD.map aW.c).length:Int):Int)>=6)then(some ([],false))else(mP aD aa cv (fun(Vd:Bool) (cM:aP)=>(bif !(Vd)then(bif room ((cM.map aW.c).length+([[aZ aa,aZ cv]]).length) 32 then(some (cM++([(⟨aa,cv⟩:aW)]),true))else none)else(some (cM,true)))) aD 0 false ([]:aP)))))))))))
def wg(aD:aP)(aa:Bytes)(cv:Bytes)(Ag:Bool)(W1:List aT)(dL:Int):St:=⟨[(1,aZ aa),(2,aZ cv),(10,b9 0),(11,bQ Ag),(42,bX (aD.map aW.c)),(43,aB ((aD.map aW.c).length:Int)),(44,aB dL)],[af 113 2 W1]⟩
theorem LQ(hZ:Z.nt=76){aD:aP}{aa:Bytes}{cv:Bytes}{r:aP×Bool}{k1:Bool->aP->Option (aP×Bool)}(eC:∀(Vd:Bool) (cM:aP),k1 Vd cM=some r->Ax Z N f84 (RZ r) [1,1,1,1,1,1,1] ⟨[(1,aZ aa),(2,aZ cv),(10,b9 0),(11,bQ Vd)],[af 113 2 (cM.map aW.c)]⟩)(hm1:aD.length<=maxLen):∀(rest:aP) (i1:Nat) (Ag:Bool) (bY:aP),aD.drop i1=rest->mP aD aa cv k1 rest i1 Ag bY=some r->Ar Z N f84 (RZ r) [1,1,1,1,1,1,0,1,0] (rest.length+1) (wg aD aa cv Ag (bY.map aW.c) (i1:Int)):=by
 intro rest
 induction rest with
 |nil=>
  intro i1 Ag bY bB h;rw[mP]at h;refine aV fun N1 cq cS=>?_
  exact((aY.ge aW.c bB).a [.hl 0 [1,2,10,11] [0]]).ex hZ cq (eC Ag bY h)
 |cons bg cj ih1=>
  intro i1 Ag bY bB h;rw[mP]at h;refine aV fun N1 cq cS=>?_
  have jR:=((aY.lt aW.c bB).l (bK aW.c 2 (dc bB) rfl))
  obtain⟨h58,h⟩|⟨h58,h⟩:=aK h
  ·have k6:=(jR.r 5 h58)
   obtain⟨h59,h⟩|⟨h59,h⟩:=aK h
   ·obtain⟨h60,h⟩:=bf h;obtain⟨h61,h⟩:=bf h;exact((((k6.b h59).w (cA h60)).w (cA h61)).a [.cn [1,2,10,11,42,43,44] [5]]).cs hZ cS (wg aD aa cv true (((bY.map aW.c)++([[aZ aa,aZ cv]]))++([[aZ bg.var,aZ bg.value]])) (IntKind.i64.wrap ((i1:Int)+1))) (by first| (simp only[iS bB hm1,mA]<;>rfl)| (simp only[iS bB hm1,mA,aC.c,aW.c,aS.c,Action.c,aN.c,aQ.c,ai.c,ah.c,Node.c,aF.c,di.c]<;>rfl)) (ih1 (i1+1) true ((bY++([(⟨aa,cv⟩:aW)]))++([bg])) (dn bB) h)
   ·obtain⟨h62,h⟩:=bf h;exact(((k6.b h59).w (cA h62)).a [.cn [1,2,10,11,42,43,44] [3]]).cs hZ cS (wg aD aa cv Ag ((bY.map aW.c)++([[aZ bg.var,aZ bg.value]])) (IntKind.i64.wrap ((i1:Int)+1))) (by first| (simp only[iS bB hm1,mA]<;>rfl)| (simp only[iS bB hm1,mA,aC.c,aW.c,aS.c,Action.c,aN.c,aQ.c,ai.c,ah.c,Node.c,aF.c,di.c]<;>rfl)) (ih1 (i1+1) Ag (bY++([bg])) (dn bB) h)
  ·obtain⟨h63,h⟩:=bf h;exact((((jR.r 5 h58).F 1).w (cA h63)).a [.cn [1,2,10,11,42,43,44] [3]]).cs hZ cS (wg aD aa cv Ag ((bY.map aW.c)++([[aZ bg.var,aZ bg.value]])) (IntKind.i64.wrap ((i1:Int)+1))) (by first| (simp only[iS bB hm1,mA]<;>rfl)| (simp only[iS bB hm1,mA,aC.c,aW.c,aS.c,Action.c,aN.c,aQ.c,ai.c,ah.c,Node.c,aF.c,di.c]<;>rfl)) (ih1 (i1+1) Ag (bY++([bg])) (dn bB) h)
theorem C2{aD:aP}{aa:Bytes}{cv:Bytes}{r:aP×Bool}(h:tO aD aa cv=some r):Good prog 84 [bX (aD.map aW.c),aZ aa,aZ cv] (D.iz [cW 113 2 (r.1.map aW.c),bQ r.2]):=by
 refine gd func84 Qc 76 fun hr Z hZ=>?_
 rw[tO]at h;obtain⟨y1,h2,h⟩:=aH h;obtain⟨h3,h⟩|⟨h3,h⟩:=aK h
 ·cases h;exact(((aY.g (oR h2)).r 4 h3).T 5).ret hZ
 ·obtain⟨y4,h5,h⟩:=aH h;have ud:=((((aY.g (oR h2)).r 2 h3).g (qH h5)).r 2 h3)
  obtain⟨h6,h⟩|⟨h6,h⟩:=aK h
  ·cases h;exact((ud.r 4 h6).T 1).ret hZ
  ·obtain⟨y7,h8,h⟩:=aH h;have xg:=(((ud.r 2 h6).g (fY h8)).r 2 h6)
   obtain⟨h9,h⟩|⟨h9,h⟩:=aK h
   ·cases h;exact(xg.b h9).ret hZ
   ·obtain⟨GZ,h11,h⟩:=aH h;have Ak:=((xg.b h9).g (tj h11))
    obtain⟨h12,h⟩|⟨h12,h⟩:=aK h
    ·obtain⟨h13,h⟩|⟨h13,h⟩:=aK h
     ·cases h;exact((Ak.b h12).b h13).ret hZ
     ·obtain⟨Ai,h15,h⟩:=aH h;cases h;exact(((Ak.b h12).b h13).g (s9 h15)).ret hZ
    ·obtain⟨h16,h⟩|⟨h16,h⟩:=aK h
     ·cases h;exact((Ak.b h12).b h16).ret hZ
     ·refine(((Ak.b h12).b h16).a [.L5 10,.cn [1,2,10,11,42,43,44] [0]]).lp hZ (LQ hZ (fun Vd cM h=>?_) (by have:=(gY.sl (hr _ (aE (i:=0) rfl))).1;simpa using this) aD 0 false ([]:aP) rfl h);obtain⟨h64,h⟩|⟨h64,h⟩:=aK h
      ·obtain⟨h65,h⟩:=bf h;cases h;exact((aY.b h64).w (cA h65)).rts hZ (D.iz [cW 113 2 ((cM.map aW.c)++([[aZ aa,aZ cv]])),bQ true]) (by first|rfl| (simp only[mA]<;>rfl)| (simp only[cN,mA]<;>rfl))
      ·cases h;exact(aY.b h64).ret hZ
def kU(aD:aC)(aa:aC)(k1:aP->Option (aP×Bool)):aI->Nat->aP->Option (aP×Bool)
 | [],i1,bn=>(k1 bn)
 |bg::cj,i1,bn=>((gR bg).bind fun y80=>(bif y80 then((gA aa.args (i1:Int)).bind fun x83=>(bif !((bg:Bytes)==x83)then(some ([],false))else(kU aD aa k1 cj (i1+1) bn)))else((gA aa.args (i1:Int)).bind fun x86=>((tO bn bg x86).bind fun y88=>(bif !(y88.2)then(some ([],false))else(kU aD aa k1 cj (i1+1) y88.1))))))
def kE(aD:aC)(aa:aC)(cv:aP):Option (aP×Bool):=((kC aD).bind fun y1=>(bif !(y1)then(some ([],false))else((rC aa).bind fun y4=>(bif !(y4)then(some ([],false))else((mR cv).bind fun y7=>(bif !(y7)then(some ([],false))else(bif !((aD.rel:Bytes)==aa.rel)then(some ([],false))else(bif (((aD.args.map tx).length:Int):Int) != ((aa.args.map tx).length:Int)then(some ([],false))else((j8 cv).bind fun Ty=>(kU aD aa (fun(cM:aP)=>(some (cM,true))) aD.args 0 Ty))))))))))
def Ij(aD:aC)(aa:aC)(W0:List aT)(dL:Int):St:=⟨[(4,bp 0 0),(8,b9 1),(45,bX (aD.args.map tx)),(46,aB ((aD.args.map tx).length:Int)),(47,aB dL)],[bu (aC.c aa),af 113 2 W0]⟩
theorem Gy(hZ:Z.nt=77){aD:aC}{aa:aC}{r:aP×Bool}{k1:aP->Option (aP×Bool)}(eC:∀(cM:aP),k1 cM=some r->Ax Z N f186 (RZ r) [1,1,1,1] ⟨[(8,b9 0)],[af 113 2 (cM.map aW.c)]⟩)(hm1:aD.args.length<=maxLen):∀(rest:aI) (i1:Nat) (bn:aP),aD.args.drop i1=rest->kU aD aa k1 rest i1 bn=some r->Ar Z N f186 (RZ r) [1,1,1,0,1,0] (rest.length+1) (Ij aD aa (bn.map aW.c) (i1:Int)):=by
 intro rest
 induction rest with
 |nil=>
  intro i1 bn bB h;rw[kU]at h;refine aV fun N1 cq cS=>?_
  exact((aY.ge tx bB).a [.hl 0 [8] [1]]).ex hZ cq (eC bn h)
 |cons bg cj ih1=>
  intro i1 bn bB h;rw[kU]at h;refine aV fun N1 cq cS=>?_
  obtain⟨y80,h81,h⟩:=aH h;have k6:=(((aY.lt tx bB).l (bK tx 1 (dc bB) rfl)).g (fY h81))
  obtain⟨h82,h⟩|⟨h82,h⟩:=aK h
  ·obtain⟨x83,h84,h⟩:=aH h;have ud:=((k6.b h82).l (dW tx 1 h84 rfl))
   obtain⟨h85,h⟩|⟨h85,h⟩:=aK h
   ·cases h;exact(ud.b h85).ret hZ
   ·exact((ud.b h85).a [.cn [4,8,45,46,47] [0,1]]).ct hZ cS (iS bB hm1) (ih1 (i1+1) bn (dn bB) h)
  ·obtain⟨x86,h87,y88,h89,h⟩:=bR h;have xg:=(((k6.b h82).l (dW tx 1 h87 rfl)).g (C2 h89))
   obtain⟨h90,h⟩|⟨h90,h⟩:=aK h
   ·cases h;exact(xg.b h90).ret hZ
   ·exact((xg.b h90).a [.cn [4,8,45,46,47] [0,2]]).ct hZ cS (iS bB hm1) (ih1 (i1+1) y88.1 (dn bB) h)
theorem s7{aD:aC}{aa:aC}{cv:aP}{r:aP×Bool}(h:kE aD aa cv=some r):Good prog 186 [bw (aC.c aD),bw (aC.c aa),bX (cv.map aW.c)] (D.iz [cW 113 2 (r.1.map aW.c),bQ r.2]):=by
 refine gd func186 Qc 77 fun hr Z hZ=>?_
 rw[kE]at h;obtain⟨y1,h2,h⟩:=aH h;obtain⟨h3,h⟩|⟨h3,h⟩:=aK h
 ·cases h;exact(((aY.g (lH h2)).r 4 h3).T 19).ret hZ
 ·obtain⟨y4,h5,h⟩:=aH h;have Ak:=((((aY.g (lH h2)).r 2 h3).g (xw h5)).r 2 h3)
  obtain⟨h6,h⟩|⟨h6,h⟩:=aK h
  ·cases h;exact((Ak.r 4 h6).T 15).ret hZ
  ·obtain⟨y7,h8,h⟩:=aH h;have Fc:=(((Ak.r 2 h6).g (oR h8)).r 2 h6)
   obtain⟨h9,h⟩|⟨h9,h⟩:=aK h
   ·cases h;exact((Fc.r 6 h9).T 9).ret hZ
   ·have OP:=(Fc.r 6 h9)
    obtain⟨h10,h⟩|⟨h10,h⟩:=aK h
    ·cases h;exact((OP.r 8 h10).T 1).ret hZ
    ·have EP:=(OP.r 8 h10)
     obtain⟨h11,h⟩|⟨h11,h⟩:=aK h
     ·cases h;exact(EP.b h11).ret hZ
     ·obtain⟨Ty,h13,h⟩:=aH h;refine(((EP.b h11).g (s9 h13)).a [.cn [4,8,45,46,47] [1,2]]).lp hZ (Gy hZ (fun cM h=>?_) (by have:=(gY.sl (gY.agg (hr _ (aE (i:=0) rfl)) (.sl (aD.args.map tx)) (by simp))).1;simpa using this) aD.args 0 Ty rfl h);cases h;exact aY.ret hZ
def iB(aD:aC)(aa:aP)(cv:aJ)(k1:aJ->Option aJ):aJ->Nat->aJ->Option aJ
 | [],i1,bn=>(k1 bn)
 |bg::cj,i1,bn=>((kE aD bg aa).bind fun Va=>(bif Va.2 then((ew bg).bind fun BP=>(bif room ((bn.map aC.c).length+([[aZ BP.rel,bX (BP.args.map tx)]]).length) 40 then(iB aD aa cv k1 cj (i1+1) (bn++([BP])))else none))else(iB aD aa cv k1 cj (i1+1) bn)))
def jV(aD:aC)(aa:aP)(cv:aJ):Option aJ:=(iB aD aa cv (fun(cM:aJ)=>(some cM)) cv 0 ([]:aJ))
def yQ(aD:aC)(aa:aP)(cv:aJ)(W0:List aT)(dL:Int):St:=⟨[(1,bX (aa.map aW.c)),(3,bp 0 0),(7,b9 1),(12,bX (cv.map aC.c)),(13,aB ((cv.map aC.c).length:Int)),(14,aB dL)],[bu (aC.c aD),af 43 2 W0]⟩
theorem DP(hZ:Z.nt=33){aD:aC}{aa:aP}{cv:aJ}{r:aJ}{k1:aJ->Option aJ}(eC:∀(cM:aJ),k1 cM=some r->Ax Z N f178 (D0 r) [1,1,1] ⟨[(7,b9 0)],[af 43 2 (cM.map aC.c)]⟩)(hm1:cv.length<=maxLen):∀(rest:aJ) (i1:Nat) (bn:aJ),cv.drop i1=rest->iB aD aa cv k1 rest i1 bn=some r->Ar Z N f178 (D0 r) [1,1,0,1,0] (rest.length+1) (yQ aD aa cv (bn.map aC.c) (i1:Int)):=by
 intro rest
 induction rest with
 |nil=>
  intro i1 bn bB h;rw[iB]at h;refine aV fun N1 cq cS=>?_
  exact((aY.ge aC.c bB).a [.hl 0 [7] [1]]).ex hZ cq (eC bn h)
 |cons bg cj ih1=>
  intro i1 bn bB h;rw[iB]at h;refine aV fun N1 cq cS=>?_
  obtain⟨Va,h43,h⟩:=aH h;have fG:=(((aY.lt aC.c bB).l (bK aC.c 2 (dc bB) rfl)).g (s7 h43))
  obtain⟨h44,h⟩|⟨h44,h⟩:=aK h
  ·obtain⟨BP,h46,h⟩:=aH h;obtain⟨h47,h⟩:=bf h;exact((((fG.b h44).g (iT h46)).w (cA h47)).a [.cn [1,3,7,12,13,14] [0,6]]).cs hZ cS (yQ aD aa cv ((bn.map aC.c)++([[aZ BP.rel,bX (BP.args.map tx)]])) (IntKind.i64.wrap ((i1:Int)+1))) (by first| (simp only[iS bB hm1,mA]<;>rfl)| (simp only[iS bB hm1,mA,aC.c,aW.c,aS.c,Action.c,aN.c,aQ.c,ai.c,ah.c,Node.c,aF.c,di.c]<;>rfl)) (ih1 (i1+1) (bn++([BP])) (dn bB) h)
  ·exact((fG.b h44).a [.cn [1,3,7,12,13,14] [0,1]]).ct hZ cS (iS bB hm1) (ih1 (i1+1) bn (dn bB) h)
theorem oO{aD:aC}{aa:aP}{cv:aJ}{r:aJ}(h:jV aD aa cv=some r):Good prog 178 [bw (aC.c aD),bX (aa.map aW.c),bX (cv.map aC.c)] (cW 43 2 (r.map aC.c)):=by
 refine gd func178 I9 33 fun hr Z hZ=>?_
 rw[jV]at h;refine(aY.a [.L5 7,.cn [1,3,7,12,13,14] [0,1]]).lp hZ (DP hZ (fun cM h=>?_) (by have:=(gY.sl (hr _ (aE (i:=2) rfl))).1;simpa using this) cv 0 ([]:aJ) rfl h);cases aM h;exact aY.ret hZ
def oZ(aD:aF)(k1:bM->Option ay):Nat->Int->bM->Option ay
 |0,_,_=>none
 |n1+1,yb,bn=>(bif room ((bn.map jN).length+([[aB yb]]).length) 8 then((gA aD.nodes yb).bind fun x19=>(bif decide ((x19.parent:Int)<1)then(k1 (bn++([yb])))else(bif decide ((x19.parent:Int)>=yb)then(k1 (bn++([yb])))else(oZ aD k1 n1 x19.parent (bn++([yb]))))))else none)
def mS(aD:aF)(kP:bM)(k2:ay->Option ay):Nat->Int->ay->Option ay
 |0,_,_=>none
 |n2+1,Oz,R2=>(bif decide ((Oz:Int)>=0)then((gA kP Oz).bind fun x72=>((gA aD.nodes x72).bind fun x74=>((gH x74.cond).bind fun y76=>(bif room ((R2.map aS.c).length+([[aB y76.kind,aZ y76.pat.rel,bX (y76.pat.args.map tx),aZ y76.left,aZ y76.right]]).length) 80 then(mS aD kP k2 n2 (IntKind.i64.wrap (Oz-1)) (R2++([y76])))else none))))else(k2 R2))
def xW(aD:aF)(aa:Int):Option ay:=(bif decide ((aa:Int)<1)then(some ([]))else(bif decide ((aa:Int)>=((aD.nodes.map Node.c).length:Int))then(some ([]))else(oZ aD (fun(kP:bM)=>(mS aD kP (fun(Ow:ay)=>(some Ow)) fuel (IntKind.i64.wrap (((kP.map jN).length:Int)-1)) ([]:ay))) fuel aa ([]:bM))))
def Dw(aD:aF)(yb:Int)(W1:List aT):St:=⟨[(1,aB yb),(2,bp 0 0),(5,b9 1)],[bu (aF.c aD),af 3 1 W1]⟩
theorem LX(hZ:Z.nt=57){aD:aF}{r:ay}{k1:bM->Option ay}(eC:∀(kP:bM),k1 kP=some r->Ax Z N f179 (Oe r) [1,1,1,1] ⟨[(2,bp 0 0),(5,b9 1)],[bu (aF.c aD),af 3 1 (kP.map jN)]⟩):∀(n1:Nat) (yb:Int) (bn:bM),oZ aD k1 n1 yb bn=some r->Ar Z N f179 (Oe r) [1,1,1,0,0] n1 (Dw aD yb (bn.map jN)):=by
 intro n
 induction n with
 |zero=>intro yb bn h;simp[oZ]at h
 |succ n1 ih1=>
  intro yb bn h;rw[oZ]at h;refine aV fun N1 cq cS=>?_
  obtain⟨h18,h⟩:=bf h;obtain⟨x19,h20,h⟩:=aH h;have jR:=((aY.w (cA h18)).l (dW Node.c 8 h20 rfl))
  obtain⟨h21,h⟩|⟨h21,h⟩:=aK h
  ·exact(((jR.r 4 h21).T 1).a [.hl 0 [2,5] [0,3]]).exs hZ cq ⟨[(2,bp 0 0),(5,b9 1)],[bu (aF.c aD),af 3 1 ((bn.map jN)++([[aB yb]]))]⟩ (by first| (simp only[mA]<;>rfl)| (simp only[mA,aC.c,aW.c,aS.c,Action.c,aN.c,aQ.c,ai.c,ah.c,Node.c,aF.c,di.c]<;>rfl)) (eC (bn++([yb])) h)
  ·have k6:=(jR.r 4 h21)
   obtain⟨h22,h⟩|⟨h22,h⟩:=aK h
   ·exact((k6.b h22).a [.hl 0 [2,5] [0,3]]).exs hZ cq ⟨[(2,bp 0 0),(5,b9 1)],[bu (aF.c aD),af 3 1 ((bn.map jN)++([[aB yb]]))]⟩ (by first| (simp only[mA]<;>rfl)| (simp only[mA,aC.c,aW.c,aS.c,Action.c,aN.c,aQ.c,ai.c,ah.c,Node.c,aF.c,di.c]<;>rfl)) (eC (bn++([yb])) h)
   ·exact((k6.b h22).a [.cn [1,2,5] [0,3]]).cs hZ cS (Dw aD x19.parent ((bn.map jN)++([[aB yb]]))) (by first| (simp only[mA]<;>rfl)| (simp only[mA,aC.c,aW.c,aS.c,Action.c,aN.c,aQ.c,ai.c,ah.c,Node.c,aF.c,di.c]<;>rfl)) (ih1 x19.parent (bn++([yb])) h)
def Dx(aD:aF)(kP:bM)(Oz:Int)(W1:List aT):St:=⟨[(2,bp 0 0),(5,b9 1),(7,b9 2),(8,aB Oz)],[bu (aF.c aD),af 3 1 (kP.map jN),af 71 5 W1]⟩
theorem LY(hZ:Z.nt=57){aD:aF}{kP:bM}{r:ay}{k2:ay->Option ay}(zc:∀(Ow:ay),k2 Ow=some r->Ax Z N f179 (Oe r) [1,1,1,1,1,1] ⟨[(7,b9 0)],[af 71 5 (Ow.map aS.c)]⟩):∀(n2:Nat) (Oz:Int) (R2:ay),mS aD kP k2 n2 Oz R2=some r->Ar Z N f179 (Oe r) [1,1,1,1,1,0,1,0] n2 (Dx aD kP Oz (R2.map aS.c)):=by
 intro n
 induction n with
 |zero=>intro Oz R2 h;simp[mS]at h
 |succ n2 ih2=>
  intro Oz R2 h;rw[mS]at h;refine aV fun N2 uY qt=>?_
  obtain⟨h65,h⟩|⟨h65,h⟩:=aK h
  ·obtain⟨x72,h73,x74,h75,y76,h77,h⟩:=gX h;obtain⟨h78,h⟩:=bf h;exact((((((((aY.b h65).a [.n2 [0,1,2,3,4,5,6,7,8,9,10,11,12,13] [0,1,2,3,4,5,6,7,8,9,10,11,12,13] 11 12 [0] [3]]).i (fI jN 1 h73)).o 1 1 .uq (cL jN (dw h73))).l (dW Node.c 8 h75 rfl)).g (mW h77)).w (cA h78)).a [.cn [2,5,7,8] [0,1,5]]).cs hZ qt (Dx aD kP (IntKind.i64.wrap (Oz-1)) ((R2.map aS.c)++([[aB y76.kind,aZ y76.pat.rel,bX (y76.pat.args.map tx),aZ y76.left,aZ y76.right]]))) (by first| (simp only[mA]<;>rfl)| (simp only[mA,aC.c,aW.c,aS.c,Action.c,aN.c,aQ.c,ai.c,ah.c,Node.c,aF.c,di.c]<;>rfl)) (ih2 (IntKind.i64.wrap (Oz-1)) (R2++([y76])) h)
  ·exact((aY.b h65).a [.hl 0 [7] [2]]).ex hZ uY (zc R2 h)
theorem xy{aD:aF}{aa:Int}{r:ay}(h:xW aD aa=some r):Good prog 179 [bw (aF.c aD),aB aa] (cW 71 5 (r.map aS.c)):=by
 refine gd func179 [[some (71,5)]] 57 fun hr Z hZ=>?_
 rw[xW]at h;obtain⟨h1,h⟩|⟨h1,h⟩:=aK h
 ·cases h;exact((aY.r 6 h1).T 1).ret hZ
 ·have ud:=(aY.r 6 h1)
  obtain⟨h2,h⟩|⟨h2,h⟩:=aK h
  ·cases h;exact(ud.b h2).ret hZ
  ·refine((ud.b h2).a [.L5 5,.cn [1,2,5] [0,1]]).lp hZ (LX hZ (fun kP h=>?_) fuel aa ([]:bM) h);refine(aY.a [.L5 7,.cn [2,5,7,8] [0,1,2]]).lp hZ (LY hZ (fun Ow h=>?_) fuel (IntKind.i64.wrap (((kP.map jN).length:Int)-1)) ([]:ay) h);cases aM h;exact aY.ret hZ
def xV(aD:aS):Option Bool:=((tP aD).bind fun y1=>(bif y1 then(some (decide ((aD.kind:Int)>=3)))else(some false)))
theorem C3{aD:aS}{r:Bool}(h:xV aD=some r):Good prog 240 [bw (aS.c aD)] (bQ r):=by
 refine gd func240 bZ 10 fun hr Z hZ=>?_
 rw[xV]at h;obtain⟨y1,h2,h⟩:=aH h;obtain⟨h3,h⟩|⟨h3,h⟩:=aK h
 ·cases h;exact((aY.g (rW h2)).r 4 h3).ret hZ
 ·cases aM h;exact((aY.g (rW h2)).r 4 h3).ret hZ
def uB(aD:aS)(aa:aP):Option Bool:=((xV aD).bind fun y1=>(bif !(y1)then(some false)else((mR aa).bind fun y4=>(bif !(y4)then(some false)else((pV aa aD.left).bind fun y7=>((pV aa aD.right).bind fun y9=>(bif !(y7.2)then(some false)else(bif !(y9.2)then(some false)else(bif (aD.kind:Int)==3 then(some ((y7.1:Bytes)==y9.1))else(bif (aD.kind:Int)==4 then(some (!((y7.1:Bytes)==y9.1)))else((oC y7.1).bind fun yM=>((oC y9.1).bind fun Ce=>(bif yM.2 then(bif Ce.2 then(some (decide ((yM.1:Int)<Ce.1)))else(some false))else(some false))))))))))))))
theorem Fv{aD:aS}{aa:aP}{r:Bool}(h:uB aD aa=some r):Good prog 230 [bw (aS.c aD),bX (aa.map aW.c)] (bQ r):=by
 refine gd func230 bZ 70 fun hr Z hZ=>?_
 rw[uB]at h;obtain⟨y1,h2,h⟩:=aH h;obtain⟨h3,h⟩|⟨h3,h⟩:=aK h
 ·cases aM h;exact(((aY.g (C3 h2)).r 4 h3).T 1).ret hZ
 ·obtain⟨y4,h5,h⟩:=aH h;have lC:=((((aY.g (C3 h2)).r 2 h3).g (oR h5)).r 2 h3)
  obtain⟨h6,h⟩|⟨h6,h⟩:=aK h
  ·cases aM h;exact(lC.b h6).ret hZ
  ·obtain⟨y7,h8,y9,h10,h⟩:=bR h;have fG:=(((lC.b h6).g (tj h8)).g (tj h10))
   obtain⟨h11,h⟩|⟨h11,h⟩:=aK h
   ·cases aM h;exact((fG.r 3 h11).T 1).ret hZ
   ·have jR:=(fG.r 3 h11)
    obtain⟨h12,h⟩|⟨h12,h⟩:=aK h
    ·cases aM h;exact(jR.b h12).ret hZ
    ·obtain⟨h13,h⟩|⟨h13,h⟩:=aK h
     ·cases h;exact((jR.b h12).b h13).ret hZ
     ·have k6:=((jR.b h12).b h13)
      obtain⟨h14,h⟩|⟨h14,h⟩:=aK h
      ·cases h;exact(k6.b h14).ret hZ
      ·obtain⟨yM,h16,Ce,h18,h⟩:=bR h;have ud:=(((k6.b h14).g (sY h16)).g (sY h18))
       obtain⟨h19,h⟩|⟨h19,h⟩:=aK h
       ·have xg:=(ud.r 2 h19)
        obtain⟨h20,h⟩|⟨h20,h⟩:=aK h
        ·cases h;exact(xg.r 4 h20).ret hZ
        ·cases aM h;exact(xg.r 4 h20).ret hZ
       ·cases aM h;exact((ud.r 2 h19).F 4).ret hZ
def uA(aD:aS)(aa:aP)(cv:aJ):Option Bool:=((tP aD).bind fun y1=>(bif !(y1)then(some false)else((mR aa).bind fun y4=>(bif !(y4)then(some false)else(bif (aD.kind:Int)==1 then((jV aD.pat aa cv).bind fun y8=>(some (decide ((((y8.map aC.c).length:Int):Int)>0))))else(bif (aD.kind:Int)==2 then((jV aD.pat aa cv).bind fun yc=>(some ((((yc.map aC.c).length:Int):Int)==0)))else((uB aD aa).bind fun xO=>(some xO))))))))
theorem Fu{aD:aS}{aa:aP}{cv:aJ}{r:Bool}(h:uA aD aa cv=some r):Good prog 215 [bw (aS.c aD),bX (aa.map aW.c),bX (cv.map aC.c)] (bQ r):=by
 refine gd func215 bZ 38 fun hr Z hZ=>?_
 rw[uA]at h;obtain⟨y1,h2,h⟩:=aH h;obtain⟨h3,h⟩|⟨h3,h⟩:=aK h
 ·cases aM h;exact(((aY.g (rW h2)).r 4 h3).T 1).ret hZ
 ·obtain⟨y4,h5,h⟩:=aH h;have lC:=((((aY.g (rW h2)).r 2 h3).g (oR h5)).r 2 h3)
  obtain⟨h6,h⟩|⟨h6,h⟩:=aK h
  ·cases aM h;exact(lC.b h6).ret hZ
  ·obtain⟨h7,h⟩|⟨h7,h⟩:=aK h
   ·obtain⟨y8,h9,h⟩:=aH h;cases h;exact(((lC.b h6).b h7).g (oO h9)).ret hZ
   ·have fG:=((lC.b h6).b h7)
    obtain⟨h10,h⟩|⟨h10,h⟩:=aK h
    ·obtain⟨yc,h12,h⟩:=aH h;cases h;exact((fG.b h10).g (oO h12)).ret hZ
    ·obtain⟨xO,h14,h⟩:=aH h;cases aM h;exact((fG.b h10).g (Fv h14)).ret hZ
def mD(aD:ay)(aa:aJ)(i2:Nat)(bY:ar)(jM:aQ)(i1:Nat)(bg:aS)(k3:ar->Option ar):aJ->Nat->ar->Option ar
 | [],i3,B4=>(k3 B4)
 |Oa::Kz,i3,B4=>((kE bg.pat Oa jM.bind).bind fun SN=>(bif SN.2 then((cm jM.facts).bind fun SO=>((ew Oa).bind fun Ms=>(bif room ((SO.map aC.c).length+([[aZ Ms.rel,bX (Ms.args.map tx)]]).length) 40 then(bif room ((B4.map aQ.c).length+([[bX ((SO.map aC.c)++([[aZ Ms.rel,bX (Ms.args.map tx)]])),bX (SN.1.map aW.c)]]).length) 48 then(mD aD aa i2 bY jM i1 bg k3 Kz (i3+1) (B4++([(⟨SO++([Ms]),SN.1⟩:aQ)])))else none)else none)))else(mD aD aa i2 bY jM i1 bg k3 Kz (i3+1) B4)))
def gT(aD:ay)(aa:aJ)(bY:ar)(i1:Nat)(bg:aS)(k2:ar->Option ar):ar->Nat->ar->Option ar
 | [],i2,fJ=>(k2 fJ)
 |jM::tL,i2,fJ=>(bif (bg.kind:Int) != 1 then((uA bg jM.bind aa).bind fun a7l=>(bif a7l then(bif room ((fJ.map aQ.c).length+([[bX (jM.facts.map aC.c),bX (jM.bind.map aW.c)]]).length) 48 then(gT aD aa bY i1 bg k2 tL (i2+1) (fJ++([jM])))else none)else(gT aD aa bY i1 bg k2 tL (i2+1) fJ)))else(bif decide (aa.length<=maxLen)then(mD aD aa i2 bY jM i1 bg (fun(Zf:ar)=>(gT aD aa bY i1 bg k2 tL (i2+1) Zf)) aa 0 fJ)else none))
def mC(aD:ay)(aa:aJ)(k1:ar->Option ar):ay->Nat->ar->Option ar
 | [],i1,bY=>(k1 bY)
 |bg::cj,i1,bY=>(bif decide (bY.length<=maxLen)then(gT aD aa bY i1 bg (fun(Ow:ar)=>(mC aD aa k1 cj (i1+1) Ow)) bY 0 ([]:ar))else none)
def vJ(aD:ay)(aa:aJ):Option ar:=(mC aD aa (fun(cM:ar)=>(some cM)) aD 0 ([(⟨[],[]⟩:aQ)]))
def C8(aD:ay)(aa:aJ)(W0:List aT)(dL:Int):St:=⟨[(1,bX (aa.map aC.c)),(5,b9 0),(17,bX (aD.map aS.c)),(18,aB ((aD.map aS.c).length:Int)),(19,aB dL)],[af 77 2 W0]⟩
def C9(aD:ay)(aa:aJ)(bY:ar)(i1:Nat)(bg:aS)(W0:List aT)(aFx:Nat)(dL:Int):St:=⟨[(1,bX (aa.map aC.c)),(7,bp 0 0),(8,b9 1),(17,bX (aD.map aS.c)),(18,aB ((aD.map aS.c).length:Int)),(19,aB (i1:Int)),(23,b9 2),(24,aB ((bY.map aQ.c).length:Int)),(25,aB dL)],[bu [aB bg.kind,aZ bg.pat.rel,bX (bg.pat.args.map tx),aZ bg.left,aZ bg.right],af 77 2 W0,Ob.row (.mv aFx) 77 2 (bY.map aQ.c)]⟩
def CA(aD:ay)(aa:aJ)(i2:Nat)(bY:ar)(jM:aQ)(i1:Nat)(bg:aS)(W0:List aT)(dL:Int):St:=⟨[(1,bX (aa.map aC.c)),(7,bp 0 0),(8,b9 1),(10,bp 2 0),(17,bX (aD.map aS.c)),(18,aB ((aD.map aS.c).length:Int)),(19,aB (i1:Int)),(23,b9 3),(24,aB ((bY.map aQ.c).length:Int)),(25,aB (i2:Int)),(41,bX (aa.map aC.c)),(42,aB ((aa.map aC.c).length:Int)),(43,aB dL)],[bu [aB bg.kind,aZ bg.pat.rel,bX (bg.pat.args.map tx),aZ bg.left,aZ bg.right],af 77 2 W0,bu [b9 4,b9 5],Ob.row (.mv (i2+1)) 77 2 (bY.map aQ.c),Ob.tk (jM.facts.map aC.c),Ob.tk (jM.bind.map aW.c)]⟩
theorem J0(hZ:Z.nt=74){aD:ay}{aa:aJ}{i2:Nat}{bY:ar}{jM:aQ}{i1:Nat}{bg:aS}{r:ar}{k3:ar->Option ar}(Z3:∀(Zf:ar),k3 Zf=some r->Ax Z N f175 (B8 r) [1,1,0,1,0,0,1,1,0,0,1,1,0,1,0,0,1,1,1] ⟨[(1,bX (aa.map aC.c)),(7,bp 0 0),(8,b9 1),(17,bX (aD.map aS.c)),(18,aB ((aD.map aS.c).length:Int)),(19,aB (i1:Int)),(23,b9 2),(24,aB ((bY.map aQ.c).length:Int)),(25,aB (i2:Int))],[bu [aB bg.kind,aZ bg.pat.rel,bX (bg.pat.args.map tx),aZ bg.left,aZ bg.right],af 77 2 (Zf.map aQ.c),Ob.row (.mv (i2+1)) 77 2 (bY.map aQ.c)]⟩)(Oo:aa.length<=maxLen):∀(rest:aJ) (i3:Nat) (B4:ar),aa.drop i3=rest->mD aD aa i2 bY jM i1 bg k3 rest i3 B4=some r->Ar Z N f175 (B8 r) [1,1,0,1,0,0,1,1,0,0,1,1,0,1,0,0,1,1,0,0,1,1,1,0] (rest.length+1) (CA aD aa i2 bY jM i1 bg (B4.map aQ.c) (i3:Int)):=by
 intro rest
 induction rest with
 |nil=>
  intro i3 B4 uV h;rw[mD]at h;refine aV fun N3 Rt Ko=>?_
  exact((aY.ge aC.c uV).a [.hl 8 [1,7,8,17,18,19,23,24,25] [0,1,3]]).ex hZ Rt (Z3 B4 h)
 |cons Oa Kz ih3=>
  intro i3 B4 uV h;rw[mD]at h;refine aV fun N3 Rt Ko=>?_
  obtain⟨SN,h3513,h⟩:=aH h;have a2M:=(((aY.lt aC.c uV).l (bK aC.c 2 (dc uV) rfl)).g (s7 h3513))
  obtain⟨h3514,h⟩|⟨h3514,h⟩:=aK h
  ·obtain⟨SO,h3521,Ms,h3523,h⟩:=bR h;obtain⟨h3524,h⟩:=bf h;obtain⟨h3525,h⟩:=bf h;exact(((((((a2M.b h3514).a [.n2 [0,1,2,3,4,5,8,6,7,9,10,11,12] [0,1,2,3,4,5,7,8,6,9,10,11,12] 7 11 [0,6] [7,8,9,10,11]]).g (cu h3521)).g (iT h3523)).w (cA h3524)).w (cA h3525)).a [.cn [1,7,8,10,17,18,19,23,24,25,41,42,43] [0,13,2,3,4,5]]).cs hZ Ko (CA aD aa i2 bY jM i1 bg ((B4.map aQ.c)++([[bX ((SO.map aC.c)++([[aZ Ms.rel,bX (Ms.args.map tx)]])),bX (SN.1.map aW.c)]])) (IntKind.i64.wrap ((i3:Int)+1))) (by first| (simp only[iS uV Oo,mA]<;>rfl)| (simp only[iS uV Oo,mA,aC.c,aW.c,aS.c,Action.c,aN.c,aQ.c,ai.c,ah.c,Node.c,aF.c,di.c]<;>rfl)) (ih3 (i3+1) (B4++([(⟨SO++([Ms]),SN.1⟩:aQ)])) (dn uV) h)
  ·exact((a2M.b h3514).a [.cn [1,7,8,10,17,18,19,23,24,25,41,42,43] [0,1,2,3,4,5]]).ct hZ Ko (iS uV Oo) (ih3 (i3+1) B4 (dn uV) h)
theorem Iz(hZ:Z.nt=74){aD:ay}{aa:aJ}{bY:ar}{i1:Nat}{bg:aS}{r:ar}{k2:ar->Option ar}(zc:∀(Ow:ar),k2 Ow=some r->Ax Z N f175 (B8 r) [1,1,0,1,0,0,1,1,0,0,1,1,1] ⟨[(1,bX (aa.map aC.c)),(8,b9 0),(17,bX (aD.map aS.c)),(18,aB ((aD.map aS.c).length:Int)),(19,aB (i1:Int))],[af 77 2 (Ow.map aQ.c)]⟩)(hm2:bY.length<=maxLen):∀(rest:ar) (i2:Nat) (fJ:ar),bY.drop i2=rest->gT aD aa bY i1 bg k2 rest i2 fJ=some r->Ar Z N f175 (B8 r) [1,1,0,1,0,0,1,1,0,0,1,1,0,1,0] (rest.length+1) (C9 aD aa bY i1 bg (fJ.map aQ.c) i2 (i2:Int)):=by
 intro rest
 induction rest with
 |nil=>
  intro i2 fJ hd2 h;rw[gT]at h;refine aV fun N2 uY qt=>?_
  exact((aY.ge aQ.c hd2).a [.hl 5 [1,8,17,18,19] [1]]).ex hZ uY (zc fJ h)
 |cons jM tL ih2=>
  intro i2 fJ hd2 h;rw[gT]at h;refine aV fun N2 uY qt=>?_
  have a2N:=((((aY.lt aQ.c hd2).i (fH aQ.c 2 (dc hd2))).w (show i2=i2/\(bY.map aQ.c)[i2]?=some [bX (jM.facts.map aC.c),bX (jM.bind.map aW.c)]/\Tm [bX (jM.facts.map aC.c),bX (jM.bind.map aW.c)]=true from⟨rfl,cL aQ.c (dc hd2),rfl⟩)).a [.tk [bX (jM.facts.map aC.c),bX (jM.bind.map aW.c)]])
  obtain⟨h3426,h⟩|⟨h3426,h⟩:=aK h
  ·obtain⟨a7l,h3428,h⟩:=aH h;have a2O:=((a2N.b h3426).g (Fu h3428))
   obtain⟨h3429,h⟩|⟨h3429,h⟩:=aK h
   ·obtain⟨h3430,h⟩:=bf h;exact(((a2O.b h3429).w (cA h3430)).a [.cn [1,7,8,17,18,19,23,24,25] [0,7,2]]).cs hZ qt (C9 aD aa bY i1 bg ((fJ.map aQ.c)++([[bX (jM.facts.map aC.c),bX (jM.bind.map aW.c)]])) (i2+1) (IntKind.i64.wrap ((i2:Int)+1))) (by first| (simp only[iS hd2 hm2,mA]<;>rfl)| (simp only[iS hd2 hm2,mA,aC.c,aW.c,aS.c,Action.c,aN.c,aQ.c,ai.c,ah.c,Node.c,aF.c,di.c]<;>rfl)) (ih2 (i2+1) (fJ++([jM])) (dn hd2) h)
   ·exact((a2O.b h3429).a [.cn [1,7,8,17,18,19,23,24,25] [0,1,2]]).ct hZ qt (iS hd2 hm2) (ih2 (i2+1) fJ (dn hd2) h)
  ·obtain⟨h3526,h⟩:=bf h;refine((a2N.b h3426).a [.cn [1,7,8,10,17,18,19,23,24,25,41,42,43] [0,1,5,2,3,4]]).lp hZ (J0 hZ (fun Zf h=>?_) (bh h3526) aa 0 fJ rfl h);exact(aY.a [.cn [1,7,8,17,18,19,23,24,25] [0,1,2]]).ct hZ qt (iS hd2 hm2) (ih2 (i2+1) Zf (dn hd2) h)
theorem Iy(hZ:Z.nt=74){aD:ay}{aa:aJ}{r:ar}{k1:ar->Option ar}(eC:∀(cM:ar),k1 cM=some r->Ax Z N f175 (B8 r) [1,1,1] ⟨[(5,b9 0)],[af 77 2 (cM.map aQ.c)]⟩)(hm1:aD.length<=maxLen):∀(rest:ay) (i1:Nat) (bY:ar),aD.drop i1=rest->mC aD aa k1 rest i1 bY=some r->Ar Z N f175 (B8 r) [1,1,0,1,0] (rest.length+1) (C8 aD aa (bY.map aQ.c) (i1:Int)):=by
 intro rest
 induction rest with
 |nil=>
  intro i1 bY bB h;rw[mC]at h;refine aV fun N1 cq cS=>?_
  exact((aY.ge aS.c bB).a [.hl 0 [5] [0]]).ex hZ cq (eC bY h)
 |cons bg cj ih1=>
  intro i1 bY bB h;rw[mC]at h;refine aV fun N1 cq cS=>?_
  obtain⟨h3527,h⟩:=bf h;refine(((aY.lt aS.c bB).l (bK aS.c 5 (dc bB) rfl)).a [.L5 8,.mz 0,.cn [1,7,8,17,18,19,23,24,25] [1,2,0]]).lp hZ (Iz hZ (fun Ow h=>?_) (bh h3527) bY 0 ([]:ar) rfl h);exact(aY.a [.cn [1,5,17,18,19] [0]]).ct hZ cS (iS bB hm1) (ih1 (i1+1) Ow (dn bB) h)
theorem HL{aD:ay}{aa:aJ}{r:ar}(h:vJ aD aa=some r):Good prog 175 [bX (aD.map aS.c),bX (aa.map aC.c)] (cW 77 2 (r.map aQ.c)):=by
 refine gd func175 [[some (77,2)]] 74 fun hr Z hZ=>?_
 rw[vJ]at h;refine(aY.a [.cn [1,5,17,18,19] [0]]).lps hZ (C8 aD aa ([[bX ([]),bX ([])]]) 0) (by first| (simp only[mA]<;>rfl)| (simp only[mA,aC.c,aW.c,aS.c,Action.c,aN.c,aQ.c,ai.c,ah.c,Node.c,aF.c,di.c]<;>rfl)) (Iy hZ (fun cM h=>?_) (by have:=(gY.sl (hr _ (aE (i:=0) rfl))).1;simpa using this) aD 0 ([(⟨[],[]⟩:aQ)]) rfl h);cases aM h;exact aY.ret hZ
def gC(aD:aF)(aa:aJ)(y1:aJ)(k1:bP->Option (aF×Unit)):bP->Nat->bP->Option (aF×Unit)
 | [],i1,dh=>(k1 dh)
 |bg::cj,i1,dh=>(bif decide (i1<(dh.map ah.c).length)then(((dh)[i1]?).bind fun x35=>((jV x35.shape ([]) aa).bind fun PS=>(bif decide (i1<(dh.map ah.c).length)then(gC aD aa y1 k1 cj (i1+1) (dh.set i1 (⟨x35.shape,PS⟩:ah)))else none)))else none)
def fC(aD:aF)(aa:aJ)(y1:aJ)(eO:bP)(k2:Option (aF×Unit)):bN->Nat->bN->Option (aF×Unit)
 | [],i2,lY=>(some ((⟨aD.rules,aD.ends,eO,lY,y1,aD.cP⟩:aF),()))
 |jM::tL,i2,lY=>((xW (⟨aD.rules,aD.ends,eO,lY,y1,aD.cP⟩:aF) (i2:Int)).bind fun P0=>((vJ P0 aa).bind fun X9=>(bif decide (i2<(lY.map Node.c).length)then(((lY)[i2]?).bind fun x107=>(fC aD aa y1 eO k2 tL (i2+1) (lY.set i2 (⟨x107.parent,x107.cond,x107.cX,X9⟩:Node))))else none)))
def kA(aD:aF)(aa:aJ):Option (aF×Unit):=((cm aa).bind fun y1=>(bif decide (aD.bG.length<=maxLen)then(gC aD aa y1 (fun(eO:bP)=>(bif decide (aD.nodes.length<=maxLen)then(fC aD aa y1 eO none aD.nodes 0 aD.nodes)else none)) aD.bG 0 aD.bG)else none))
def xA(jC:Value)(aD:aF)(aa:aJ)(y1:aJ)(W0:List aT)(dL:Int):St:=⟨[(0,bp 0 0),(1,bX (aa.map aC.c)),(15,aB ((aD.bG.map ah.c).length:Int)),(16,aB dL)],[Ob.CW [b9 1,b9 2,b9 3,b9 4,b9 5,aB aD.cP] jC,af 63 4 (aD.rules.map aN.c),af 3 1 (aD.ends.map jN),af 83 3 W0,af 74 8 (aD.nodes.map Node.c),af 43 2 (y1.map aC.c)]⟩
theorem C0(hZ:Z.nt=60){jC:Value}{aD:aF}{aa:aJ}{y1:aJ}{r:aF×Unit}{k1:bP->Option (aF×Unit)}(eC:∀(eO:bP),k1 eO=some r->Ax Z N f107 (.p zn jC (cN r.1) (D.iz [])) [1,1] ⟨[(0,bp 0 0),(1,bX (aa.map aC.c))],[Ob.CW [b9 1,b9 2,b9 3,b9 4,b9 5,aB aD.cP] jC,af 63 4 (aD.rules.map aN.c),af 3 1 (aD.ends.map jN),af 83 3 (eO.map ah.c),af 74 8 (aD.nodes.map Node.c),af 43 2 (y1.map aC.c)]⟩)(hm1:aD.bG.length<=maxLen):∀(rest:bP) (i1:Nat) (dh:bP),aD.bG.drop i1=rest->gC aD aa y1 k1 rest i1 dh=some r->Ar Z N f107 (.p zn jC (cN r.1) (D.iz [])) [1,0,1,0] (rest.length+1) (xA jC aD aa y1 (dh.map ah.c) (i1:Int)):=by
 intro rest
 induction rest with
 |nil=>
  intro i1 dh bB h;rw[gC]at h;refine aV fun N1 cq cS=>?_
  exact((aY.ge ah.c bB).a [.hl 0 [0,1] [0,1,2,3,4,5]]).ex hZ cq (eC dh h)
 |cons bg cj ih1=>
  intro i1 dh bB h;rw[gC]at h;refine aV fun N1 cq cS=>?_
  obtain⟨h34,h⟩:=bf h;obtain⟨x35,h36,PS,h38,h⟩:=bR h;obtain⟨h39,h⟩:=bf h;exact(((((((((aY.lt ah.c bB).a [.n 15]).i (Wf 3 h34)).o 3 2 .uq (cL ah.c h36)).a [.d (cW 43 2 (PS.map aC.c))]).w (show Good prog 178 [bw (aC.c x35.shape),bX ([]),bX (aa.map aC.c)] (cW 43 2 (PS.map aC.c))from by first| (simpa only[bI,bA,cF,cD,cI]using oO h38)|exact oO h38)).i (Wf 3 h39)).w (show(dh.map ah.c)[i1]?=some [aZ x35.shape.rel,bX (x35.shape.args.map tx),bX (x35.facts.map aC.c)]from cL ah.c h36)).a [.row [aZ x35.shape.rel,bX (x35.shape.args.map tx),bX (x35.facts.map aC.c)],.cn [0,1,15,16] [0,1,2,3,4,5]]).cs hZ cS (xA jC aD aa y1 ((dh.map ah.c).set i1 [aZ x35.shape.rel,bX (x35.shape.args.map tx),bX (PS.map aC.c)]) (IntKind.i64.wrap ((i1:Int)+1))) (by first| (simp only[iS bB hm1,mA]<;>rfl)| (simp only[iS bB hm1,mA,aC.c,aW.c,aS.c,Action.c,aN.c,aQ.c,ai.c,ah.c,Node.c,aF.c,di.c]<;>rfl)) (ih1 (i1+1) (dh.set i1 (⟨x35.shape,PS⟩:ah)) (dn bB) h)
def xB(jC:Value)(aD:aF)(aa:aJ)(y1:aJ)(eO:bP)(W0:List aT)(dL:Int):St:=⟨[(0,bp 0 0),(1,bX (aa.map aC.c)),(41,aB ((aD.nodes.map Node.c).length:Int)),(42,aB dL)],[Ob.CW [b9 1,b9 2,b9 3,b9 4,b9 5,aB aD.cP] jC,af 63 4 (aD.rules.map aN.c),af 3 1 (aD.ends.map jN),af 83 3 (eO.map ah.c),af 74 8 W0,af 43 2 (y1.map aC.c)]⟩
theorem C1(hZ:Z.nt=60){jC:Value}{aD:aF}{aa:aJ}{y1:aJ}{eO:bP}{r:aF×Unit}{k2:Option (aF×Unit)}(zc:k2=some r->Ax Z N f107 (.p zn jC (cN r.1) (D.iz [])) [1,1,1,0,0] ⟨[],[]⟩)(hm2:aD.nodes.length<=maxLen):∀(rest:bN) (i2:Nat) (lY:bN),aD.nodes.drop i2=rest->fC aD aa y1 eO k2 rest i2 lY=some r->Ar Z N f107 (.p zn jC (cN r.1) (D.iz [])) [1,1,1,0] (rest.length+1) (xB jC aD aa y1 eO (lY.map Node.c) (i2:Int)):=by
 intro rest
 induction rest with
 |nil=>
  intro i2 lY hd2 h;rw[fC]at h;refine aV fun N2 uY qt=>?_
  cases h;exact(aY.ge Node.c hd2).ret hZ
 |cons jM tL ih2=>
  intro i2 lY hd2 h;rw[fC]at h;refine aV fun N2 uY qt=>?_
  obtain⟨P0,h103,X9,h105,h⟩:=bR h;obtain⟨h106,h⟩:=bf h;obtain⟨x107,h108,h⟩:=aH h;exact(((((((aY.lt Node.c hd2).a [.n2 [0,1,2,3,4,5,6,7,8,9,10,11,12,13,14] [0,1,2,3,4,5,6,7,8,9,10,11,12,13,14] 11 12 [0,1,2,3,4] [],.d (cW 71 5 (P0.map aS.c))]).w (show Good prog 179 [bw [bX (aD.rules.map aN.c),bX (aD.ends.map jN),bX (eO.map ah.c),bX (lY.map Node.c),bX (y1.map aC.c),aB aD.cP],aB (i2:Int)] (cW 71 5 (P0.map aS.c))from by first| (simpa only[bI,bA,cF,cD,cI]using xy h103)|exact xy h103| (have t:=xy h103;simp only[bI,cD,cI,aF.c]at t;exact t))).g (HL h105)).i (Wf 8 h106)).w (show(lY.map Node.c)[i2]?=some [aB x107.parent,aB x107.cond.kind,aZ x107.cond.pat.rel,bX (x107.cond.pat.args.map tx),aZ x107.cond.left,aZ x107.cond.right,aB x107.cX,bX (x107.tokens.map aQ.c)]from cL Node.c h108)).a [.row [aB x107.parent,aB x107.cond.kind,aZ x107.cond.pat.rel,bX (x107.cond.pat.args.map tx),aZ x107.cond.left,aZ x107.cond.right,aB x107.cX,bX (x107.tokens.map aQ.c)],.cn [0,1,41,42] [0,1,2,3,4,5]]).cs hZ qt (xB jC aD aa y1 eO ((lY.map Node.c).set i2 [aB x107.parent,aB x107.cond.kind,aZ x107.cond.pat.rel,bX (x107.cond.pat.args.map tx),aZ x107.cond.left,aZ x107.cond.right,aB x107.cX,bX (X9.map aQ.c)]) (IntKind.i64.wrap ((i2:Int)+1))) (by first| (simp only[iS hd2 hm2,mA]<;>rfl)| (simp only[iS hd2 hm2,mA,aC.c,aW.c,aS.c,Action.c,aN.c,aQ.c,ai.c,ah.c,Node.c,aF.c,di.c]<;>rfl)) (ih2 (i2+1) (lY.set i2 (⟨x107.parent,x107.cond,x107.cX,X9⟩:Node)) (dn hd2) h)
theorem vu{aD:aF}{aa:aJ}{r:aF×Unit}(h:kA aD aa=some r):j0 prog 107 (cN aD) (cN r.1) [bX (aa.map aC.c)] (D.iz []):=by
 refine L4 func107 zn 60 [b9 1,b9 2,b9 3,b9 4,b9 5,aB aD.cP] [bX (aa.map aC.c)] [af 63 4 (aD.rules.map aN.c),af 3 1 (aD.ends.map jN),af 83 3 (aD.bG.map ah.c),af 74 8 (aD.nodes.map Node.c),af 43 2 (aD.facts.map aC.c)] fun hr jC Z hZ=>?_
 rw[kA]at h;obtain⟨y1,h2,h⟩:=aH h;obtain⟨h110,h⟩:=bf h;refine((aY.g (cu h2)).a [.cn [0,1,15,16] [0,1,2,3,4,6]]).lp hZ (C0 hZ (fun eO h=>?_) (bh h110) aD.bG 0 aD.bG rfl h);obtain⟨h109,h⟩:=bf h;refine(aY.a [.cn [0,1,41,42] [0,1,2,3,4,5]]).lp hZ (C1 hZ (fun h=>?_) (bh h109) aD.nodes 0 aD.nodes rfl h);cases h
def yz(aD:az)(aa:aJ)(cv:Int):Option aF:=((uM aD).bind fun y1=>((kA y1 aa).bind fun y3=>(some (⟨y3.1.rules,y3.1.ends,y3.1.bG,y3.1.nodes,y3.1.facts,cv⟩:aF))))
theorem La{aD:az}{aa:aJ}{cv:Int}{r:aF}(h:yz aD aa cv=some r):Good prog 53 [bX (aD.map aN.c),bX (aa.map aC.c),aB cv] (bw [cW 63 4 (r.rules.map aN.c),cW 3 1 (r.ends.map jN),cW 83 3 (r.bG.map ah.c),cW 74 8 (r.nodes.map Node.c),cW 43 2 (r.facts.map aC.c),aB r.cP]):=by
 refine gd func53 zn 15 fun hr Z hZ=>?_
 rw[yz]at h;obtain⟨y1,h2,y3,h4,h⟩:=bR h;cases h;exact((aY.g (GA h2)).hp sJ (vu h4)).ret hZ
def lq(aD:aN)(aa:aN)(k1:Option Bool):ay->Nat->Option Bool
 | [],i1=>(k1)
 |bg::cj,i1=>((gA aa.conds (i1:Int)).bind fun x33=>((lT bg x33).bind fun Fk=>(bif !(Fk)then(some false)else(lq aD aa k1 cj (i1+1)))))
def jW(aD:aN)(aa:aN)(k2:Option Bool):fB->Nat->Option Bool
 | [],i2=>(k2)
 |jM::tL,i2=>((gA aa.dD (i2:Int)).bind fun x70=>(bif (jM.kind:Int) != x70.kind then(some false)else((gS jM.pat x70.pat).bind fun Ci=>(bif !(Ci)then(some false)else(jW aD aa k2 tL (i2+1))))))
def sL(aD:aN)(aa:aN):Option Bool:=(bif !((aD.name:Bytes)==aa.name)then(some false)else(bif (aD.prio:Int) != aa.prio then(some false)else(bif (((aD.conds.map aS.c).length:Int):Int) != ((aa.conds.map aS.c).length:Int)then(some false)else(bif (((aD.dD.map Action.c).length:Int):Int) != ((aa.dD.map Action.c).length:Int)then(some false)else(lq aD aa (jW aD aa (some true) aD.dD 0) aD.conds 0)))))
def K5(aD:aN)(aa:aN)(dL:Int):St:=⟨[(2,bp 0 0),(3,bp 1 0),(39,aB ((aD.conds.map aS.c).length:Int)),(40,aB dL)],[bu (aN.c aD),bu (aN.c aa)]⟩
theorem Il(hZ:Z.nt=92){aD:aN}{aa:aN}{r:Bool}{k1:Option Bool}(eC:k1=some r->Ax Z N f108 (.q bZ (bQ r)) [1,1,1] ⟨[(2,bp 0 0),(3,bp 1 0)],[bu (aN.c aD),bu (aN.c aa)]⟩)(hm1:aD.conds.length<=maxLen):∀(rest:ay) (i1:Nat),aD.conds.drop i1=rest->lq aD aa k1 rest i1=some r->Ar Z N f108 (.q bZ (bQ r)) [1,1,0,1,0] (rest.length+1) (K5 aD aa (i1:Int)):=by
 intro rest
 induction rest with
 |nil=>
  intro i1 bB h;rw[lq]at h;refine aV fun N1 cq cS=>?_
  exact((aY.ge aS.c bB).a [.hl 0 [2,3] [0,1]]).ex hZ cq (eC h)
 |cons bg cj ih1=>
  intro i1 bB h;rw[lq]at h;refine aV fun N1 cq cS=>?_
  obtain⟨x33,h34,Fk,h36,h⟩:=bR h;have k6:=(((((aY.lt aS.c bB).a [.n 10]).l (bK aS.c 5 (dc bB) rfl)).l (dW aS.c 5 h34 rfl)).g (wI h36))
  obtain⟨h37,h⟩|⟨h37,h⟩:=aK h
  ·cases aM h;exact(k6.b h37).ret hZ
  ·exact((k6.b h37).a [.cn [2,3,39,40] [0,1]]).ct hZ cS (iS bB hm1) (ih1 (i1+1) (dn bB) h)
def K6(aD:aN)(aa:aN)(dL:Int):St:=⟨[(2,bp 0 0),(3,bp 1 0),(58,aB ((aD.dD.map Action.c).length:Int)),(59,aB dL)],[bu (aN.c aD),bu (aN.c aa)]⟩
theorem Im(hZ:Z.nt=92){aD:aN}{aa:aN}{r:Bool}{k2:Option Bool}(zc:k2=some r->Ax Z N f108 (.q bZ (bQ r)) [1,1,1,1] ⟨[],[]⟩)(hm2:aD.dD.length<=maxLen):∀(rest:fB) (i2:Nat),aD.dD.drop i2=rest->jW aD aa k2 rest i2=some r->Ar Z N f108 (.q bZ (bQ r)) [1,1,1,0,1,0] (rest.length+1) (K6 aD aa (i2:Int)):=by
 intro rest
 induction rest with
 |nil=>
  intro i2 hd2 h;rw[jW]at h;refine aV fun N2 uY qt=>?_
  exact((aY.ge Action.c hd2).a [.hl 0 [] []]).ex hZ uY (zc h)
 |cons jM tL ih2=>
  intro i2 hd2 h;rw[jW]at h;refine aV fun N2 uY qt=>?_
  obtain⟨x70,h71,h⟩:=aH h;have ud:=((((aY.lt Action.c hd2).a [.n 26]).l (bK Action.c 3 (dc hd2) rfl)).l (dW Action.c 3 h71 rfl))
  obtain⟨h72,h⟩|⟨h72,h⟩:=aK h
  ·cases aM h;exact((ud.r 15 h72).T 1).ret hZ
  ·obtain⟨Ci,h74,h⟩:=aH h;have xg:=(((((((ud.r 4 h72).l (bK Action.c 3 (dc hd2) rfl)).r 6 h72).l (dW Action.c 3 h71 rfl)).r 3 h72).g (qJ h74)).r 2 h72)
   obtain⟨h75,h⟩|⟨h75,h⟩:=aK h
   ·cases aM h;exact(xg.b h75).ret hZ
   ·exact((xg.b h75).a [.cn [2,3,58,59] [0,1]]).ct hZ qt (iS hd2 hm2) (ih2 (i2+1) (dn hd2) h)
theorem H6{aD:aN}{aa:aN}{r:Bool}(h:sL aD aa=some r):Good prog 108 [bw (aN.c aD),bw (aN.c aa)] (bQ r):=by
 refine gd func108 bZ 92 fun hr Z hZ=>?_
 rw[sL]at h;obtain⟨h1,h⟩|⟨h1,h⟩:=aK h
 ·cases aM h;exact((aY.r 6 h1).T 17).ret hZ
 ·have Ak:=(aY.r 6 h1)
  obtain⟨h2,h⟩|⟨h2,h⟩:=aK h
  ·cases aM h;exact((Ak.r 8 h2).T 9).ret hZ
  ·have Fc:=(Ak.r 8 h2)
   obtain⟨h3,h⟩|⟨h3,h⟩:=aK h
   ·cases aM h;exact((Fc.r 8 h3).T 1).ret hZ
   ·have OP:=(Fc.r 8 h3)
    obtain⟨h4,h⟩|⟨h4,h⟩:=aK h
    ·cases aM h;exact(OP.b h4).ret hZ
    ·refine((OP.b h4).a [.cn [2,3,39,40] [0,1]]).lp hZ (Il hZ (fun h=>?_) (by have:=(gY.sl (gY.agg (hr _ (aE (i:=0) rfl)) (.sl (aD.conds.map aS.c)) (by simp))).1;simpa using this) aD.conds 0 rfl h);refine(aY.a [.cn [2,3,58,59] [0,1]]).lp hZ (Im hZ (fun h=>?_) (by have:=(gY.sl (gY.agg (hr _ (aE (i:=0) rfl)) (.sl (aD.dD.map Action.c)) (by simp))).1;simpa using this) aD.dD 0 rfl h);cases aM h;exact aY.ret hZ
def o6(aD:az)(aa:az)(k1:Option Bool):az->Nat->Option Bool
 | [],i1=>(k1)
 |bg::cj,i1=>((gA aa (i1:Int)).bind fun x30=>((sL bg x30).bind fun Jt=>(bif !(Jt)then(some false)else(o6 aD aa k1 cj (i1+1)))))
def uL(aD:az)(aa:az):Option Bool:=(bif (((aD.map aN.c).length:Int):Int) != ((aa.map aN.c).length:Int)then(some false)else(o6 aD aa (some true) aD 0))
def Iv(aD:az)(aa:az)(dL:Int):St:=⟨[(0,bX (aD.map aN.c)),(1,bX (aa.map aN.c)),(12,aB ((aD.map aN.c).length:Int)),(13,aB dL)],[]⟩
theorem HG(hZ:Z.nt=27){aD:az}{aa:az}{r:Bool}{k1:Option Bool}(eC:k1=some r->Ax Z N f54 (.q bZ (bQ r)) [1,1,1] ⟨[],[]⟩)(hm1:aD.length<=maxLen):∀(rest:az) (i1:Nat),aD.drop i1=rest->o6 aD aa k1 rest i1=some r->Ar Z N f54 (.q bZ (bQ r)) [1,1,0,1,0] (rest.length+1) (Iv aD aa (i1:Int)):=by
 intro rest
 induction rest with
 |nil=>
  intro i1 bB h;rw[o6]at h;refine aV fun N1 cq cS=>?_
  exact((aY.ge aN.c bB).a [.hl 0 [] []]).ex hZ cq (eC h)
 |cons bg cj ih1=>
  intro i1 bB h;rw[o6]at h;refine aV fun N1 cq cS=>?_
  obtain⟨x30,h31,Jt,h33,h⟩:=bR h;have fG:=(((((aY.lt aN.c bB).a [.n 8]).l (bK aN.c 4 (dc bB) rfl)).l (dW aN.c 4 h31 rfl)).g (H6 h33))
  obtain⟨h34,h⟩|⟨h34,h⟩:=aK h
  ·cases aM h;exact(fG.b h34).ret hZ
  ·exact((fG.b h34).a [.cn [0,1,12,13] []]).ct hZ cS (iS bB hm1) (ih1 (i1+1) (dn bB) h)
theorem zZ{aD:az}{aa:az}{r:Bool}(h:uL aD aa=some r):Good prog 54 [bX (aD.map aN.c),bX (aa.map aN.c)] (bQ r):=by
 refine gd func54 bZ 27 fun hr Z hZ=>?_
 rw[uL]at h;obtain⟨h1,h⟩|⟨h1,h⟩:=aK h
 ·cases aM h;exact(aY.b h1).ret hZ
 ·refine((aY.b h1).a [.cn [0,1,12,13] []]).lp hZ (HG hZ (fun h=>?_) (by have:=(gY.sl (hr _ (aE (i:=0) rfl))).1;simpa using this) aD 0 rfl h);cases aM h;exact aY.ret hZ
def oc(aD:bM)(aa:bM)(k1:Option Bool):bM->Nat->Option Bool
 | [],i1=>(k1)
 |bg::cj,i1=>((gA aa (i1:Int)).bind fun x22=>(bif (bg:Int) != x22 then(some false)else(oc aD aa k1 cj (i1+1))))
def vI(aD:bM)(aa:bM):Option Bool:=(bif (((aD.map jN).length:Int):Int) != ((aa.map jN).length:Int)then(some false)else(oc aD aa (some true) aD 0))
def KG(aD:bM)(aa:bM)(dL:Int):St:=⟨[(0,bX (aD.map jN)),(1,bX (aa.map jN)),(12,aB ((aD.map jN).length:Int)),(13,aB dL)],[]⟩
theorem It(hZ:Z.nt=26){aD:bM}{aa:bM}{r:Bool}{k1:Option Bool}(eC:k1=some r->Ax Z N f55 (.q bZ (bQ r)) [1,1,1] ⟨[],[]⟩)(hm1:aD.length<=maxLen):∀(rest:bM) (i1:Nat),aD.drop i1=rest->oc aD aa k1 rest i1=some r->Ar Z N f55 (.q bZ (bQ r)) [1,1,0,1,0] (rest.length+1) (KG aD aa (i1:Int)):=by
 intro rest
 induction rest with
 |nil=>
  intro i1 bB h;rw[oc]at h;refine aV fun N1 cq cS=>?_
  exact((aY.ge jN bB).a [.hl 0 [] []]).ex hZ cq (eC h)
 |cons bg cj ih1=>
  intro i1 bB h;rw[oc]at h;refine aV fun N1 cq cS=>?_
  obtain⟨x22,h23,h⟩:=aH h;have fG:=((((aY.lt jN bB).a [.n 8]).l (bK jN 1 (dc bB) rfl)).l (dW jN 1 h23 rfl))
  obtain⟨h24,h⟩|⟨h24,h⟩:=aK h
  ·cases aM h;exact(fG.b h24).ret hZ
  ·exact((fG.b h24).a [.cn [0,1,12,13] []]).ct hZ cS (iS bB hm1) (ih1 (i1+1) (dn bB) h)
theorem HE{aD:bM}{aa:bM}{r:Bool}(h:vI aD aa=some r):Good prog 55 [bX (aD.map jN),bX (aa.map jN)] (bQ r):=by
 refine gd func55 bZ 26 fun hr Z hZ=>?_
 rw[vI]at h;obtain⟨h1,h⟩|⟨h1,h⟩:=aK h
 ·cases aM h;exact(aY.b h1).ret hZ
 ·refine((aY.b h1).a [.cn [0,1,12,13] []]).lp hZ (It hZ (fun h=>?_) (by have:=(gY.sl (hr _ (aE (i:=0) rfl))).1;simpa using this) aD 0 rfl h);cases aM h;exact aY.ret hZ
def qZ(aD:aC)(aa:aC):Option Bool:=(bif (aD.rel:Bytes)==aa.rel then((rO aD.args aa.args).bind fun y2=>(some y2))else(some false))
theorem AR{aD:aC}{aa:aC}{r:Bool}(h:qZ aD aa=some r):Good prog 109 [bw (aC.c aD),bw (aC.c aa)] (bQ r):=by
 refine gd func109 bZ 17 fun hr Z hZ=>?_
 rw[qZ]at h;obtain⟨h1,h⟩|⟨h1,h⟩:=aK h
 ·obtain⟨y2,h3,h⟩:=aH h;cases aM h;exact(((aY.r 5 h1).g (za h3)).b h1).ret hZ
 ·cases aM h;exact(aY.r 6 h1).ret hZ
def nw(aD:aJ)(aa:aJ)(k1:Option Bool):aJ->Nat->Option Bool
 | [],i1=>(k1)
 |bg::cj,i1=>((gA aa (i1:Int)).bind fun x30=>((qZ bg x30).bind fun Jt=>(bif !(Jt)then(some false)else(nw aD aa k1 cj (i1+1)))))
def j7(aD:aJ)(aa:aJ):Option Bool:=(bif (((aD.map aC.c).length:Int):Int) != ((aa.map aC.c).length:Int)then(some false)else(nw aD aa (some true) aD 0))
def Ik(aD:aJ)(aa:aJ)(dL:Int):St:=⟨[(0,bX (aD.map aC.c)),(1,bX (aa.map aC.c)),(12,aB ((aD.map aC.c).length:Int)),(13,aB dL)],[]⟩
theorem Gz(hZ:Z.nt=27){aD:aJ}{aa:aJ}{r:Bool}{k1:Option Bool}(eC:k1=some r->Ax Z N f56 (.q bZ (bQ r)) [1,1,1] ⟨[],[]⟩)(hm1:aD.length<=maxLen):∀(rest:aJ) (i1:Nat),aD.drop i1=rest->nw aD aa k1 rest i1=some r->Ar Z N f56 (.q bZ (bQ r)) [1,1,0,1,0] (rest.length+1) (Ik aD aa (i1:Int)):=by
 intro rest
 induction rest with
 |nil=>
  intro i1 bB h;rw[nw]at h;refine aV fun N1 cq cS=>?_
  exact((aY.ge aC.c bB).a [.hl 0 [] []]).ex hZ cq (eC h)
 |cons bg cj ih1=>
  intro i1 bB h;rw[nw]at h;refine aV fun N1 cq cS=>?_
  obtain⟨x30,h31,Jt,h33,h⟩:=bR h;have fG:=(((((aY.lt aC.c bB).a [.n 8]).l (bK aC.c 2 (dc bB) rfl)).l (dW aC.c 2 h31 rfl)).g (AR h33))
  obtain⟨h34,h⟩|⟨h34,h⟩:=aK h
  ·cases aM h;exact(fG.b h34).ret hZ
  ·exact((fG.b h34).a [.cn [0,1,12,13] []]).ct hZ cS (iS bB hm1) (ih1 (i1+1) (dn bB) h)
theorem s8{aD:aJ}{aa:aJ}{r:Bool}(h:j7 aD aa=some r):Good prog 56 [bX (aD.map aC.c),bX (aa.map aC.c)] (bQ r):=by
 refine gd func56 bZ 27 fun hr Z hZ=>?_
 rw[j7]at h;obtain⟨h1,h⟩|⟨h1,h⟩:=aK h
 ·cases aM h;exact(aY.b h1).ret hZ
 ·refine((aY.b h1).a [.cn [0,1,12,13] []]).lp hZ (Gz hZ (fun h=>?_) (by have:=(gY.sl (hr _ (aE (i:=0) rfl))).1;simpa using this) aD 0 rfl h);cases aM h;exact aY.ret hZ
def kV(aD:aP)(aa:aP)(k1:Option Bool):aP->Nat->Option Bool
 | [],i1=>(k1)
 |bg::cj,i1=>((gA aa (i1:Int)).bind fun x22=>(bif !((bg.var:Bytes)==x22.var&&(bg.value:Bytes)==x22.value)then(some false)else(kV aD aa k1 cj (i1+1))))
def og(aD:aP)(aa:aP):Option Bool:=(bif (((aD.map aW.c).length:Int):Int) != ((aa.map aW.c).length:Int)then(some false)else(kV aD aa (some true) aD 0))
def Iu(aD:aP)(aa:aP)(dL:Int):St:=⟨[(0,bX (aD.map aW.c)),(1,bX (aa.map aW.c)),(12,aB ((aD.map aW.c).length:Int)),(13,aB dL)],[]⟩
theorem HF(hZ:Z.nt=26){aD:aP}{aa:aP}{r:Bool}{k1:Option Bool}(eC:k1=some r->Ax Z N f111 (.q bZ (bQ r)) [1,1,1] ⟨[],[]⟩)(hm1:aD.length<=maxLen):∀(rest:aP) (i1:Nat),aD.drop i1=rest->kV aD aa k1 rest i1=some r->Ar Z N f111 (.q bZ (bQ r)) [1,1,0,1,0] (rest.length+1) (Iu aD aa (i1:Int)):=by
 intro rest
 induction rest with
 |nil=>
  intro i1 bB h;rw[kV]at h;refine aV fun N1 cq cS=>?_
  exact((aY.ge aW.c bB).a [.hl 0 [] []]).ex hZ cq (eC h)
 |cons bg cj ih1=>
  intro i1 bB h;rw[kV]at h;refine aV fun N1 cq cS=>?_
  obtain⟨x22,h23,h⟩:=aH h;have fG:=((((aY.lt aW.c bB).a [.n 8]).l (bK aW.c 2 (dc bB) rfl)).l (dW aW.c 2 h23 rfl))
  obtain⟨h24,h⟩|⟨h24,h⟩:=aK h
  ·cases aM h;exact(fG.b h24).ret hZ
  ·exact((fG.b h24).a [.cn [0,1,12,13] []]).ct hZ cS (iS bB hm1) (ih1 (i1+1) (dn bB) h)
theorem zY{aD:aP}{aa:aP}{r:Bool}(h:og aD aa=some r):Good prog 111 [bX (aD.map aW.c),bX (aa.map aW.c)] (bQ r):=by
 refine gd func111 bZ 26 fun hr Z hZ=>?_
 rw[og]at h;obtain⟨h1,h⟩|⟨h1,h⟩:=aK h
 ·cases aM h;exact(aY.b h1).ret hZ
 ·refine((aY.b h1).a [.cn [0,1,12,13] []]).lp hZ (HF hZ (fun h=>?_) (by have:=(gY.sl (hr _ (aE (i:=0) rfl))).1;simpa using this) aD 0 rfl h);cases aM h;exact aY.ret hZ
def jb(aD:ar)(aa:ar)(k1:Option Bool):ar->Nat->Option Bool
 | [],i1=>(k1)
 |bg::cj,i1=>((gA aa (i1:Int)).bind fun x42=>((j7 bg.facts x42.facts).bind fun y44=>(bif !(y44)then(some false)else((og bg.bind x42.bind).bind fun y47=>(bif !(y47)then(some false)else(jb aD aa k1 cj (i1+1)))))))
def qN(aD:ar)(aa:ar):Option Bool:=(bif (((aD.map aQ.c).length:Int):Int) != ((aa.map aQ.c).length:Int)then(some false)else(jb aD aa (some true) aD 0))
def HI(aD:ar)(aa:ar)(dL:Int):St:=⟨[(0,bX (aD.map aQ.c)),(1,bX (aa.map aQ.c)),(12,aB ((aD.map aQ.c).length:Int)),(13,aB dL)],[]⟩
theorem G9(hZ:Z.nt=43){aD:ar}{aa:ar}{r:Bool}{k1:Option Bool}(eC:k1=some r->Ax Z N f59 (.q bZ (bQ r)) [1,1,1] ⟨[],[]⟩)(hm1:aD.length<=maxLen):∀(rest:ar) (i1:Nat),aD.drop i1=rest->jb aD aa k1 rest i1=some r->Ar Z N f59 (.q bZ (bQ r)) [1,1,0,1,0] (rest.length+1) (HI aD aa (i1:Int)):=by
 intro rest
 induction rest with
 |nil=>
  intro i1 bB h;rw[jb]at h;refine aV fun N1 cq cS=>?_
  exact((aY.ge aQ.c bB).a [.hl 0 [] []]).ex hZ cq (eC h)
 |cons bg cj ih1=>
  intro i1 bB h;rw[jb]at h;refine aV fun N1 cq cS=>?_
  obtain⟨x42,h43,y44,h45,h⟩:=bR h;have jR:=(((((aY.lt aQ.c bB).a [.n 23]).l (bK aQ.c 2 (dc bB) rfl)).l (dW aQ.c 2 h43 rfl)).g (s8 h45))
  obtain⟨h46,h⟩|⟨h46,h⟩:=aK h
  ·cases aM h;exact((jR.r 13 h46).T 1).ret hZ
  ·obtain⟨y47,h48,h⟩:=aH h;have k6:=(((((((jR.r 3 h46).l (bK aQ.c 2 (dc bB) rfl)).r 5 h46).l (dW aQ.c 2 h43 rfl)).r 3 h46).g (zY h48)).r 2 h46)
   obtain⟨h49,h⟩|⟨h49,h⟩:=aK h
   ·cases aM h;exact(k6.b h49).ret hZ
   ·exact((k6.b h49).a [.cn [0,1,12,13] []]).ct hZ cS (iS bB hm1) (ih1 (i1+1) (dn bB) h)
theorem F2{aD:ar}{aa:ar}{r:Bool}(h:qN aD aa=some r):Good prog 59 [bX (aD.map aQ.c),bX (aa.map aQ.c)] (bQ r):=by
 refine gd func59 bZ 43 fun hr Z hZ=>?_
 rw[qN]at h;obtain⟨h1,h⟩|⟨h1,h⟩:=aK h
 ·cases aM h;exact(aY.b h1).ret hZ
 ·refine((aY.b h1).a [.cn [0,1,12,13] []]).lp hZ (G9 hZ (fun h=>?_) (by have:=(gY.sl (hr _ (aE (i:=0) rfl))).1;simpa using this) aD 0 rfl h);cases aM h;exact aY.ret hZ
def iX(aD:aF)(aa:aF)(k1:Option Bool):bP->Nat->Option Bool
 | [],i1=>(k1)
 |bg::cj,i1=>((gA aa.bG (i1:Int)).bind fun x52=>((gS bg.shape x52.shape).bind fun Mt=>(bif !(Mt)then(some false)else((j7 bg.facts x52.facts).bind fun y57=>(bif !(y57)then(some false)else(iX aD aa k1 cj (i1+1)))))))
def iY(aD:aF)(aa:aF)(k2:Option Bool):bN->Nat->Option Bool
 | [],i2=>(k2)
 |jM::tL,i2=>((gA aa.nodes (i2:Int)).bind fun x108=>(bif (jM.parent:Int) != x108.parent then(some false)else(bif (jM.cX:Int) != x108.cX then(some false)else((lT jM.cond x108.cond).bind fun Dg=>(bif !(Dg)then(some false)else((qN jM.tokens x108.tokens).bind fun O5=>(bif !(O5)then(some false)else(iY aD aa k2 tL (i2+1)))))))))
def qm(aD:aF)(aa:aF):Option Bool:=((uL aD.rules aa.rules).bind fun y1=>(bif !(y1)then(some false)else((vI aD.ends aa.ends).bind fun y4=>(bif !(y4)then(some false)else((j7 aD.facts aa.facts).bind fun y7=>(bif !(y7)then(some false)else(bif (((aD.bG.map ah.c).length:Int):Int) != ((aa.bG.map ah.c).length:Int)then(some false)else(bif (((aD.nodes.map Node.c).length:Int):Int) != ((aa.nodes.map Node.c).length:Int)then(some false)else(iX aD aa (iY aD aa (some true) aD.nodes 0) aD.bG 0)))))))))
def Ep(aD:aF)(aa:aF)(dL:Int):St:=⟨[(2,bp 0 0),(3,bp 1 0),(51,aB ((aD.bG.map ah.c).length:Int)),(52,aB dL)],[bu (aF.c aD),bu (aF.c aa)]⟩
theorem Dy(hZ:Z.nt=131){aD:aF}{aa:aF}{r:Bool}{k1:Option Bool}(eC:k1=some r->Ax Z N f16 (.q bZ (bQ r)) [1,1,1] ⟨[(2,bp 0 0),(3,bp 1 0)],[bu (aF.c aD),bu (aF.c aa)]⟩)(hm1:aD.bG.length<=maxLen):∀(rest:bP) (i1:Nat),aD.bG.drop i1=rest->iX aD aa k1 rest i1=some r->Ar Z N f16 (.q bZ (bQ r)) [1,1,0,1,0] (rest.length+1) (Ep aD aa (i1:Int)):=by
 intro rest
 induction rest with
 |nil=>
  intro i1 bB h;rw[iX]at h;refine aV fun N1 cq cS=>?_
  exact((aY.ge ah.c bB).a [.hl 0 [2,3] [0,1]]).ex hZ cq (eC h)
 |cons bg cj ih1=>
  intro i1 bB h;rw[iX]at h;refine aV fun N1 cq cS=>?_
  obtain⟨x52,h53,Mt,h55,h⟩:=bR h;have Ak:=(((((aY.lt ah.c bB).a [.n 27]).l (bK ah.c 3 (dc bB) rfl)).l (dW ah.c 3 h53 rfl)).g (qJ h55))
  obtain⟨h56,h⟩|⟨h56,h⟩:=aK h
  ·cases aM h;exact((Ak.r 15 h56).T 1).ret hZ
  ·obtain⟨y57,h58,h⟩:=aH h;have Fc:=(((((((Ak.r 4 h56).l (bK ah.c 3 (dc bB) rfl)).r 6 h56).l (dW ah.c 3 h53 rfl)).r 3 h56).g (s8 h58)).r 2 h56)
   obtain⟨h59,h⟩|⟨h59,h⟩:=aK h
   ·cases aM h;exact(Fc.b h59).ret hZ
   ·exact((Fc.b h59).a [.cn [2,3,51,52] [0,1]]).ct hZ cS (iS bB hm1) (ih1 (i1+1) (dn bB) h)
def Er(aD:aF)(aa:aF)(dL:Int):St:=⟨[(2,bp 0 0),(3,bp 1 0),(88,aB ((aD.nodes.map Node.c).length:Int)),(89,aB dL)],[bu (aF.c aD),bu (aF.c aa)]⟩
theorem Dz(hZ:Z.nt=131){aD:aF}{aa:aF}{r:Bool}{k2:Option Bool}(zc:k2=some r->Ax Z N f16 (.q bZ (bQ r)) [1,1,1,1] ⟨[],[]⟩)(hm2:aD.nodes.length<=maxLen):∀(rest:bN) (i2:Nat),aD.nodes.drop i2=rest->iY aD aa k2 rest i2=some r->Ar Z N f16 (.q bZ (bQ r)) [1,1,1,0,1,0] (rest.length+1) (Er aD aa (i2:Int)):=by
 intro rest
 induction rest with
 |nil=>
  intro i2 hd2 h;rw[iY]at h;refine aV fun N2 uY qt=>?_
  exact((aY.ge Node.c hd2).a [.hl 0 [] []]).ex hZ uY (zc h)
 |cons jM tL ih2=>
  intro i2 hd2 h;rw[iY]at h;refine aV fun N2 uY qt=>?_
  obtain⟨x108,h109,h⟩:=aH h;have OP:=((((aY.lt Node.c hd2).a [.n 13]).l (bK Node.c 8 (dc hd2) rfl)).l (dW Node.c 8 h109 rfl))
  obtain⟨h110,h⟩|⟨h110,h⟩:=aK h
  ·cases aM h;exact((OP.r 6 h110).T 15).ret hZ
  ·have EP:=(OP.r 6 h110)
   obtain⟨h111,h⟩|⟨h111,h⟩:=aK h
   ·cases aM h;exact((EP.r 7 h111).T 8).ret hZ
   ·obtain⟨Dg,h113,h⟩:=aH h;have Ma:=(((EP.r 5 h111).g (wI h113)).r 2 h111)
    obtain⟨h114,h⟩|⟨h114,h⟩:=aK h
    ·cases aM h;exact((Ma.r 7 h114).T 1).ret hZ
    ·obtain⟨O5,h116,h⟩:=aH h;have Dc:=(((Ma.r 5 h114).g (F2 h116)).r 2 h114)
     obtain⟨h117,h⟩|⟨h117,h⟩:=aK h
     ·cases aM h;exact(Dc.b h117).ret hZ
     ·exact((Dc.b h117).a [.cn [2,3,88,89] [0,1]]).ct hZ qt (iS hd2 hm2) (ih2 (i2+1) (dn hd2) h)
theorem DR{aD:aF}{aa:aF}{r:Bool}(h:qm aD aa=some r):Good prog 16 [bw (aF.c aD),bw (aF.c aa)] (bQ r):=by
 refine gd func16 bZ 131 fun hr Z hZ=>?_
 rw[qm]at h;obtain⟨y1,h2,h⟩:=aH h;obtain⟨h3,h⟩|⟨h3,h⟩:=aK h
 ·cases aM h;exact(((aY.g (zZ h2)).r 7 h3).T 24).ret hZ
 ·obtain⟨y4,h5,h⟩:=aH h;have Mb:=((((aY.g (zZ h2)).r 5 h3).g (HE h5)).r 2 h3)
  obtain⟨h6,h⟩|⟨h6,h⟩:=aK h
  ·cases aM h;exact((Mb.r 7 h6).T 17).ret hZ
  ·obtain⟨y7,h8,h⟩:=aH h;have Mc:=(((Mb.r 5 h6).g (s8 h8)).r 2 h6)
   obtain⟨h9,h⟩|⟨h9,h⟩:=aK h
   ·cases aM h;exact((Mc.r 8 h9).T 9).ret hZ
   ·have V7:=(Mc.r 8 h9)
    obtain⟨h10,h⟩|⟨h10,h⟩:=aK h
    ·cases aM h;exact((V7.r 8 h10).T 1).ret hZ
    ·have V8:=(V7.r 8 h10)
     obtain⟨h11,h⟩|⟨h11,h⟩:=aK h
     ·cases aM h;exact(V8.b h11).ret hZ
     ·refine((V8.b h11).a [.cn [2,3,51,52] [0,1]]).lp hZ (Dy hZ (fun h=>?_) (by have:=(gY.sl (gY.agg (hr _ (aE (i:=0) rfl)) (.sl (aD.bG.map ah.c)) (by simp))).1;simpa using this) aD.bG 0 rfl h);refine(aY.a [.cn [2,3,88,89] [0,1]]).lp hZ (Dz hZ (fun h=>?_) (by have:=(gY.sl (gY.agg (hr _ (aE (i:=0) rfl)) (.sl (aD.nodes.map Node.c)) (by simp))).1;simpa using this) aD.nodes 0 rfl h);cases aM h;exact aY.ret hZ
def oW(aD:aF):Option Bool:=((vC aD.rules).bind fun y1=>(bif y1 then((qW aD.facts).bind fun y4=>(bif y4 then(bif decide ((aD.cP:Int)>=0)then((yz aD.rules aD.facts 0).bind fun y8=>((qm aD y8).bind fun GZ=>(some GZ)))else(some false))else(some false)))else(some false)))
theorem rz{aD:aF}{r:Bool}(h:oW aD=some r):Good prog 17 [bw (aF.c aD)] (bQ r):=by
 refine gd func17 bZ 25 fun hr Z hZ=>?_
 rw[oW]at h;obtain⟨y1,h2,h⟩:=aH h;have lC:=((aY.a [.n 20]).g (Gs h2))
 obtain⟨h3,h⟩|⟨h3,h⟩:=aK h
 ·obtain⟨y4,h5,h⟩:=aH h;have fG:=(((lC.r 3 h3).g (sX h5)).b h3)
  obtain⟨h6,h⟩|⟨h6,h⟩:=aK h
  ·have jR:=(fG.r 4 h6)
   obtain⟨h7,h⟩|⟨h7,h⟩:=aK h
   ·obtain⟨y8,h9,GZ,h11,h⟩:=bR h;cases aM h;exact(((((jR.r 6 h7).g (La h9)).b h7).g (DR h11)).b h7).ret hZ
   ·cases aM h;exact(jR.r 8 h7).ret hZ
  ·cases aM h;exact((fG.r 4 h6).F 8).ret hZ
 ·cases aM h;exact((lC.r 4 h3).F 12).ret hZ
def gb(aD:aF)(fJ:bL)(i2:Nat)(jM:aQ)(i1:Nat)(bg:aN)(ue:aP)(x1486:Node)(Cf:aJ)(k3:aP->Option bL):aP->Nat->aP->Option bL
 | [],i3,R3=>(k3 R3)
 |Oa::Kz,i3,R3=>((pV jM.bind Oa.value).bind fun a3g=>(bif a3g.2 then((tO R3 Oa.var a3g.1).bind fun a3h=>(gb aD fJ i2 jM i1 bg ue x1486 Cf k3 Kz (i3+1) a3h.1))else(gb aD fJ i2 jM i1 bg ue x1486 Cf k3 Kz (i3+1) R3)))
def ga(aD:aF)(i1:Nat)(bg:aN)(ue:aP)(x1486:Node)(k2:bL->Option bL):ar->Nat->bL->Option bL
 | [],i2,fJ=>(k2 fJ)
 |jM::tL,i2,fJ=>((cm jM.facts).bind fun Cf=>(bif decide (ue.length<=maxLen)then(gb aD fJ i2 jM i1 bg ue x1486 Cf (fun(VE:aP)=>(bif room ((fJ.map ai.c).length+([[aZ bg.name,bX (Cf.map aC.c),bX (VE.map aW.c)]]).length) 64 then(ga aD i1 bg ue x1486 k2 tL (i2+1) (fJ++([(⟨bg.name,Cf,VE⟩:ai)])))else none)) ue 0 ([]:aP))else none))
def gZ(aD:aF)(k1:bL->Option bL):az->Nat->bL->Option bL
 | [],i1,bn=>(k1 bn)
 |bg::cj,i1,bn=>((qI bg).bind fun ue=>((gA aD.ends (i1:Int)).bind fun x1484=>((gA aD.nodes x1484).bind fun x1486=>(bif decide (x1486.tokens.length<=maxLen)then(ga aD i1 bg ue x1486 (fun(tY:bL)=>(gZ aD k1 cj (i1+1) tY)) x1486.tokens 0 bn)else none))))
def fc(aD:aF):Option bL:=(gZ aD (fun(cM:bL)=>(some cM)) aD.rules 0 ([]:bL))
def G1(aD:aF)(W0:List aT)(dL:Int):St:=⟨[(1,bp 0 0),(3,b9 1),(15,bX (aD.rules.map aN.c)),(16,aB ((aD.rules.map aN.c).length:Int)),(17,aB dL)],[bu (aF.c aD),af 57 3 W0]⟩
def zU(aD:aF)(i1:Nat)(bg:aN)(ue:aP)(x1486:Node)(W0:List aT)(dL:Int):St:=⟨[(1,bp 0 0),(3,b9 1),(5,bp 2 0),(6,b9 3),(15,bX (aD.rules.map aN.c)),(16,aB ((aD.rules.map aN.c).length:Int)),(17,aB (i1:Int)),(33,bX (x1486.tokens.map aQ.c)),(34,aB ((x1486.tokens.map aQ.c).length:Int)),(35,aB dL)],[bu (aF.c aD),af 57 3 W0,bu [aZ bg.name,aB bg.prio,bX (bg.conds.map aS.c),bX (bg.dD.map Action.c)],af 113 2 (ue.map aW.c)]⟩
def G2(aD:aF)(fJ:bL)(i2:Nat)(jM:aQ)(i1:Nat)(bg:aN)(ue:aP)(x1486:Node)(Cf:aJ)(W0:List aT)(dL:Int):St:=⟨[(1,bp 0 0),(3,b9 1),(5,bp 2 0),(6,b9 3),(8,bp 4 0),(9,bp 5 0),(15,bX (aD.rules.map aN.c)),(16,aB ((aD.rules.map aN.c).length:Int)),(17,aB (i1:Int)),(33,bX (x1486.tokens.map aQ.c)),(34,aB ((x1486.tokens.map aQ.c).length:Int)),(35,aB (i2:Int)),(45,b9 3),(46,aB ((ue.map aW.c).length:Int)),(47,aB dL)],[bu (aF.c aD),af 57 3 (fJ.map ai.c),bu [aZ bg.name,aB bg.prio,bX (bg.conds.map aS.c),bX (bg.dD.map Action.c)],af 113 2 (ue.map aW.c),bu [bX (jM.facts.map aC.c),bX (jM.bind.map aW.c)],bu [aZ bg.name,b9 6,b9 7],af 43 2 (Cf.map aC.c),af 113 2 W0]⟩
def FU(r:bL):Kd:=.q [[some (57,3)]] (cW 57 3 (r.map ai.c))
theorem Ew(hZ:Z.nt=78){aD:aF}{fJ:bL}{i2:Nat}{jM:aQ}{i1:Nat}{bg:aN}{ue:aP}{x1486:Node}{Cf:aJ}{r:bL}{k3:aP->Option bL}(Z3:∀(VE:aP),k3 VE=some r->Ax Z N f36 (FU r) [1,1,0,1,0,0,1,1,0,0,1,1,1,0,0,1,1,0,0,1,1,1] ⟨[(1,bp 0 0),(3,b9 1),(5,bp 2 0),(6,b9 3),(9,bp 4 0),(15,bX (aD.rules.map aN.c)),(16,aB ((aD.rules.map aN.c).length:Int)),(17,aB (i1:Int)),(33,bX (x1486.tokens.map aQ.c)),(34,aB ((x1486.tokens.map aQ.c).length:Int)),(35,aB (i2:Int))],[bu (aF.c aD),af 57 3 (fJ.map ai.c),bu [aZ bg.name,aB bg.prio,bX (bg.conds.map aS.c),bX (bg.dD.map Action.c)],af 113 2 (ue.map aW.c),bu [aZ bg.name,b9 5,b9 6],af 43 2 (Cf.map aC.c),af 113 2 (VE.map aW.c)]⟩)(Oo:ue.length<=maxLen):∀(rest:aP) (i3:Nat) (R3:aP),ue.drop i3=rest->gb aD fJ i2 jM i1 bg ue x1486 Cf k3 rest i3 R3=some r->Ar Z N f36 (FU r) [1,1,0,1,0,0,1,1,0,0,1,1,1,0,0,1,1,0,0,1,1,0,1,0] (rest.length+1) (G2 aD fJ i2 jM i1 bg ue x1486 Cf (R3.map aW.c) (i3:Int)):=by
 intro rest
 induction rest with
 |nil=>
  intro i3 R3 uV h;rw[gb]at h;refine aV fun N3 Rt Ko=>?_
  exact((aY.ge aW.c uV).a [.hl 9 [1,3,5,6,9,15,16,17,33,34,35] [0,1,2,3,5,6,7]]).ex hZ Rt (Z3 R3 h)
 |cons Oa Kz ih3=>
  intro i3 R3 uV h;rw[gb]at h;refine aV fun N3 Rt Ko=>?_
  obtain⟨a3g,h1769,h⟩:=aH h;have a2L:=((((aY.lt aW.c uV).i (fH aW.c 2 (dc uV))).o 2 2 .uq (cL aW.c (dc uV))).g (tj h1769))
  obtain⟨h1770,h⟩|⟨h1770,h⟩:=aK h
  ·obtain⟨a3h,h1772,h⟩:=aH h;exact(((a2L.b h1770).g (C2 h1772)).a [.cn [1,3,5,6,8,9,15,16,17,33,34,35,45,46,47] [0,1,2,3,4,5,6,9]]).ct hZ Ko (iS uV Oo) (ih3 (i3+1) a3h.1 (dn uV) h)
  ·exact((a2L.b h1770).a [.cn [1,3,5,6,8,9,15,16,17,33,34,35,45,46,47] [0,1,2,3,4,5,6,7]]).ct hZ Ko (iS uV Oo) (ih3 (i3+1) R3 (dn uV) h)
theorem Ev(hZ:Z.nt=78){aD:aF}{i1:Nat}{bg:aN}{ue:aP}{x1486:Node}{r:bL}{k2:bL->Option bL}(zc:∀(tY:bL),k2 tY=some r->Ax Z N f36 (FU r) [1,1,0,1,0,0,1,1,1] ⟨[(1,bp 0 0),(3,b9 1),(15,bX (aD.rules.map aN.c)),(16,aB ((aD.rules.map aN.c).length:Int)),(17,aB (i1:Int))],[bu (aF.c aD),af 57 3 (tY.map ai.c)]⟩)(hm2:x1486.tokens.length<=maxLen):∀(rest:ar) (i2:Nat) (fJ:bL),x1486.tokens.drop i2=rest->ga aD i1 bg ue x1486 k2 rest i2 fJ=some r->Ar Z N f36 (FU r) [1,1,0,1,0,0,1,1,0,0,1,1,1,0] (rest.length+1) (zU aD i1 bg ue x1486 (fJ.map ai.c) (i2:Int)):=by
 intro rest
 induction rest with
 |nil=>
  intro i2 fJ hd2 h;rw[ga]at h;refine aV fun N2 uY qt=>?_
  exact((aY.ge aQ.c hd2).a [.hl 3 [1,3,15,16,17] [0,1]]).ex hZ uY (zc fJ h)
 |cons jM tL ih2=>
  intro i2 fJ hd2 h;rw[ga]at h;refine aV fun N2 uY qt=>?_
  obtain⟨Cf,h1730,h⟩:=aH h;obtain⟨h1774,h⟩:=bf h;refine(((((aY.lt aQ.c hd2).l (bK aQ.c 2 (dc hd2) rfl)).a [.n 7]).g (cu h1730)).a [.pb 6 2 113 2,.cn [1,3,5,6,8,9,15,16,17,33,34,35,45,46,47] [0,1,2,3,4,6,5,7]]).lp hZ (Ew hZ (fun VE h=>?_) (bh h1774) ue 0 ([]:aP) rfl h);obtain⟨h1773,h⟩:=bf h;exact((aY.w (cA h1773)).a [.cn [1,3,5,6,15,16,17,33,34,35] [0,8,2,3]]).cs hZ qt (zU aD i1 bg ue x1486 ((fJ.map ai.c)++([[aZ bg.name,bX (Cf.map aC.c),bX (VE.map aW.c)]])) (IntKind.i64.wrap ((i2:Int)+1))) (by first| (simp only[iS hd2 hm2,mA]<;>rfl)| (simp only[iS hd2 hm2,mA,aC.c,aW.c,aS.c,Action.c,aN.c,aQ.c,ai.c,ah.c,Node.c,aF.c,di.c]<;>rfl)) (ih2 (i2+1) (fJ++([(⟨bg.name,Cf,VE⟩:ai)])) (dn hd2) h)
theorem Eu(hZ:Z.nt=78){aD:aF}{r:bL}{k1:bL->Option bL}(eC:∀(cM:bL),k1 cM=some r->Ax Z N f36 (FU r) [1,1,1] ⟨[(3,b9 0)],[af 57 3 (cM.map ai.c)]⟩)(hm1:aD.rules.length<=maxLen):∀(rest:az) (i1:Nat) (bn:bL),aD.rules.drop i1=rest->gZ aD k1 rest i1 bn=some r->Ar Z N f36 (FU r) [1,1,0,1,0] (rest.length+1) (G1 aD (bn.map ai.c) (i1:Int)):=by
 intro rest
 induction rest with
 |nil=>
  intro i1 bn bB h;rw[gZ]at h;refine aV fun N1 cq cS=>?_
  exact((aY.ge aN.c bB).a [.hl 0 [3] [1]]).ex hZ cq (eC bn h)
 |cons bg cj ih1=>
  intro i1 bn bB h;rw[gZ]at h;refine aV fun N1 cq cS=>?_
  obtain⟨ue,h1483,x1484,h1485,x1486,h1487,h⟩:=gX h;obtain⟨h1775,h⟩:=bf h;refine(((((((aY.lt aN.c bB).l (bK aN.c 4 (dc bB) rfl)).g (yw h1483)).a [.n 12]).l (dW jN 1 h1485 rfl)).l (dW Node.c 8 h1487 rfl)).a [.cn [1,3,5,6,15,16,17,33,34,35] [0,1,2,3]]).lp hZ (Ev hZ (fun tY h=>?_) (bh h1775) x1486.tokens 0 bn rfl h);exact(aY.a [.cn [1,3,15,16,17] [0,1]]).ct hZ cS (iS bB hm1) (ih1 (i1+1) tY (dn bB) h)
theorem qL{aD:aF}{r:bL}(h:fc aD=some r):Good prog 36 [bw (aF.c aD)] (cW 57 3 (r.map ai.c)):=by
 refine gd func36 [[some (57,3)]] 78 fun hr Z hZ=>?_
 rw[fc]at h;refine(aY.a [.L5 3,.cn [1,3,15,16,17] [0,1]]).lp hZ (Eu hZ (fun cM h=>?_) (by have:=(gY.sl (gY.agg (hr _ (aE (i:=0) rfl)) (.sl (aD.rules.map aN.c)) (by simp))).1;simpa using this) aD.rules 0 ([]:bL) rfl h);cases aM h;exact aY.ret hZ
def xu(aD:aF):Option bL:=((oW aD).bind fun y1=>(bif !(y1)then(some ([]))else((fc aD).bind fun y4=>(some y4))))
def mE(aD:aJ)(k1:Option Bool):aJ->Nat->Option Bool
 | [],i1=>(k1)
 |bg::cj,i1=>((rE bg).bind fun BP=>(bif !(BP)then(some false)else(bif decide (((i1:Int):Int)>0)then((gA aD (IntKind.i64.wrap ((i1:Int)-1))).bind fun x49=>((fy x49 bg).bind fun y51=>(bif decide ((y51:Int)>=0)then(some false)else(mE aD k1 cj (i1+1)))))else(mE aD k1 cj (i1+1)))))
def qc(aD:aJ):Option Bool:=(mE aD (some (decide ((((aD.map aC.c).length:Int):Int)<=24))) aD 0)
def KI(aD:aJ)(dL:Int):St:=⟨[(0,bX (aD.map aC.c)),(3,aB dL)],[]⟩
theorem J8(hZ:Z.nt=36){aD:aJ}{r:Bool}{k1:Option Bool}(eC:k1=some r->Ax Z N f41 (.q bZ (bQ r)) [1,1] ⟨[(0,bX (aD.map aC.c))],[]⟩)(hm1:aD.length<=maxLen):∀(rest:aJ) (i1:Nat),aD.drop i1=rest->mE aD k1 rest i1=some r->Ar Z N f41 (.q bZ (bQ r)) [1,0,1,0] (rest.length+1) (KI aD (i1:Int)):=by
 intro rest
 induction rest with
 |nil=>
  intro i1 bB h;rw[mE]at h;refine aV fun N1 cq cS=>?_
  exact((aY.ge aC.c bB).a [.hl 0 [0] []]).ex hZ cq (eC h)
 |cons bg cj ih1=>
  intro i1 bB h;rw[mE]at h;refine aV fun N1 cq cS=>?_
  obtain⟨BP,h46,h⟩:=aH h;have k6:=((((aY.lt aC.c bB).a [.n 19]).l (bK aC.c 2 (dc bB) rfl)).g (xz h46))
  obtain⟨h47,h⟩|⟨h47,h⟩:=aK h
  ·cases aM h;exact((((k6.r 3 h47).a [bF,bF,bF,bF,bF,bF,bF,bF,bF,bF,bF]).r 2 h47).T 1).ret hZ
  ·have ud:=(k6.r 3 h47)
   obtain⟨h48,h⟩|⟨h48,h⟩:=aK h
   ·obtain⟨x49,h50,y51,h52,h⟩:=bR h;have xg:=((((((((((ud.r 4 h48).l (dW aC.c 2 h50 rfl)).r 4 h48).l (bK aC.c 2 (dc bB) rfl)).r 2 h48).g (pM h52)).b h48).b h47).b h48).b h47)
    obtain⟨h53,h⟩|⟨h53,h⟩:=aK h
    ·cases aM h;exact(xg.b h53).ret hZ
    ·exact((xg.b h53).a [.cn [0,3] []]).ct hZ cS (iS bB hm1) (ih1 (i1+1) (dn bB) h)
   ·exact((((((ud.r 11 h48).b h47).b h48).b h47).F 1).a [.cn [0,3] []]).ct hZ cS (iS bB hm1) (ih1 (i1+1) (dn bB) h)
theorem pW{aD:aJ}{r:Bool}(h:qc aD=some r):Good prog 41 [bX (aD.map aC.c)] (bQ r):=by
 refine gd func41 bZ 36 fun hr Z hZ=>?_
 rw[qc]at h;refine(aY.a [.cn [0,3] []]).lp hZ (J8 hZ (fun h=>?_) (by have:=(gY.sl (hr _ (aE (i:=0) rfl))).1;simpa using this) aD 0 rfl h);cases h;exact aY.ret hZ
def n9(aD:aF)(aa:aF)(k1:Option Bool):bP->Nat->Option Bool
 | [],i1=>(k1)
 |bg::cj,i1=>((gA aa.bG (i1:Int)).bind fun x32=>((jj bg.shape x32.shape).bind fun Gf=>(bif !(Gf)then(some false)else(n9 aD aa k1 cj (i1+1)))))
def jm(aD:aF)(aa:aF)(k2:Option Bool):bN->Nat->Option Bool
 | [],i2=>(k2)
 |jM::tL,i2=>((gA aa.nodes (i2:Int)).bind fun x73=>(bif (jM.parent:Int) != x73.parent then(some false)else(bif (jM.cX:Int) != x73.cX then(some false)else((qe jM.cond x73.cond).bind fun y77=>(bif !(y77)then(some false)else(jm aD aa k2 tL (i2+1)))))))
def jo(aD:aF)(aa:aF)(k3:Option Bool):bM->Nat->Option Bool
 | [],i3=>(k3)
 |Oa::Kz,i3=>((gA aa.ends (i3:Int)).bind fun x100=>(bif (Oa:Int) != x100 then(some false)else(jo aD aa k3 Kz (i3+1))))
def tC(aD:aF)(aa:aF):Option Bool:=(bif (((aD.bG.map ah.c).length:Int):Int) != ((aa.bG.map ah.c).length:Int)then(some false)else(bif (((aD.nodes.map Node.c).length:Int):Int) != ((aa.nodes.map Node.c).length:Int)then(some false)else(bif (((aD.ends.map jN).length:Int):Int) != ((aa.ends.map jN).length:Int)then(some false)else(n9 aD aa (jm aD aa (jo aD aa (some true) aD.ends 0) aD.nodes 0) aD.bG 0))))
def Hq(aD:aF)(aa:aF)(dL:Int):St:=⟨[(2,bp 0 0),(3,bp 1 0),(5,aB dL)],[bu (aF.c aD),bu (aF.c aa)]⟩
theorem GS(hZ:Z.nt=123){aD:aF}{aa:aF}{r:Bool}{k1:Option Bool}(eC:k1=some r->Ax Z N f42 (.q bZ (bQ r)) [1,1,1] ⟨[(2,bp 0 0),(3,bp 1 0)],[bu (aF.c aD),bu (aF.c aa)]⟩)(hm1:aD.bG.length<=maxLen):∀(rest:bP) (i1:Nat),aD.bG.drop i1=rest->n9 aD aa k1 rest i1=some r->Ar Z N f42 (.q bZ (bQ r)) [1,1,0,1,0] (rest.length+1) (Hq aD aa (i1:Int)):=by
 intro rest
 induction rest with
 |nil=>
  intro i1 bB h;rw[n9]at h;refine aV fun N1 cq cS=>?_
  exact((aY.ge ah.c bB).a [.hl 0 [2,3] [0,1]]).ex hZ cq (eC h)
 |cons bg cj ih1=>
  intro i1 bB h;rw[n9]at h;refine aV fun N1 cq cS=>?_
  obtain⟨x32,h33,Gf,h35,h⟩:=bR h;have xg:=(((((aY.lt ah.c bB).a [.n 12]).l (bK ah.c 3 (dc bB) rfl)).l (dW ah.c 3 h33 rfl)).g (uR h35))
  obtain⟨h36,h⟩|⟨h36,h⟩:=aK h
  ·cases aM h;exact(xg.b h36).ret hZ
  ·exact((xg.b h36).a [.cn [2,3,5] [0,1]]).ct hZ cS (iS bB hm1) (ih1 (i1+1) (dn bB) h)
def Hr(aD:aF)(aa:aF)(dL:Int):St:=⟨[(2,bp 0 0),(3,bp 1 0),(6,aB dL)],[bu (aF.c aD),bu (aF.c aa)]⟩
theorem GU(hZ:Z.nt=123){aD:aF}{aa:aF}{r:Bool}{k2:Option Bool}(zc:k2=some r->Ax Z N f42 (.q bZ (bQ r)) [1,1,1,1] ⟨[(2,bp 0 0),(3,bp 1 0)],[bu (aF.c aD),bu (aF.c aa)]⟩)(hm2:aD.nodes.length<=maxLen):∀(rest:bN) (i2:Nat),aD.nodes.drop i2=rest->jm aD aa k2 rest i2=some r->Ar Z N f42 (.q bZ (bQ r)) [1,1,1,0,1,0] (rest.length+1) (Hr aD aa (i2:Int)):=by
 intro rest
 induction rest with
 |nil=>
  intro i2 hd2 h;rw[jm]at h;refine aV fun N2 uY qt=>?_
  exact((aY.ge Node.c hd2).a [.hl 0 [2,3] [0,1]]).ex hZ uY (zc h)
 |cons jM tL ih2=>
  intro i2 hd2 h;rw[jm]at h;refine aV fun N2 uY qt=>?_
  obtain⟨x73,h74,h⟩:=aH h;have Ak:=((((aY.lt Node.c hd2).a [.n 41]).l (bK Node.c 8 (dc hd2) rfl)).l (dW Node.c 8 h74 rfl))
  obtain⟨h75,h⟩|⟨h75,h⟩:=aK h
  ·cases aM h;exact((Ak.r 14 h75).T 16).ret hZ
  ·have Fc:=(((((Ak.r 4 h75).l (bK Node.c 8 (dc hd2) rfl)).r 6 h75).l (dW Node.c 8 h74 rfl)).r 4 h75)
   obtain⟨h76,h⟩|⟨h76,h⟩:=aK h
   ·cases aM h;exact((Fc.r 15 h76).T 1).ret hZ
   ·obtain⟨y77,h78,h⟩:=aH h;have OP:=(((((((Fc.r 4 h76).l (bK Node.c 8 (dc hd2) rfl)).r 6 h76).l (dW Node.c 8 h74 rfl)).r 3 h76).g (AX h78)).r 2 h76)
    obtain⟨h79,h⟩|⟨h79,h⟩:=aK h
    ·cases aM h;exact(OP.b h79).ret hZ
    ·exact((OP.b h79).a [.cn [2,3,6] [0,1]]).ct hZ qt (iS hd2 hm2) (ih2 (i2+1) (dn hd2) h)
def Hs(aD:aF)(aa:aF)(dL:Int):St:=⟨[(2,bp 0 0),(3,bp 1 0),(7,aB dL)],[bu (aF.c aD),bu (aF.c aa)]⟩
theorem GV(hZ:Z.nt=123){aD:aF}{aa:aF}{r:Bool}{k3:Option Bool}(Z3:k3=some r->Ax Z N f42 (.q bZ (bQ r)) [1,1,1,1,1] ⟨[],[]⟩)(Oo:aD.ends.length<=maxLen):∀(rest:bM) (i3:Nat),aD.ends.drop i3=rest->jo aD aa k3 rest i3=some r->Ar Z N f42 (.q bZ (bQ r)) [1,1,1,1,0,1,0] (rest.length+1) (Hs aD aa (i3:Int)):=by
 intro rest
 induction rest with
 |nil=>
  intro i3 uV h;rw[jo]at h;refine aV fun N3 Rt Ko=>?_
  exact((aY.ge jN uV).a [.hl 0 [] []]).ex hZ Rt (Z3 h)
 |cons Oa Kz ih3=>
  intro i3 uV h;rw[jo]at h;refine aV fun N3 Rt Ko=>?_
  obtain⟨x100,h101,h⟩:=aH h;have EP:=((((aY.lt jN uV).a [.n 10]).l (bK jN 1 (dc uV) rfl)).l (dW jN 1 h101 rfl))
  obtain⟨h102,h⟩|⟨h102,h⟩:=aK h
  ·cases aM h;exact(EP.b h102).ret hZ
  ·exact((EP.b h102).a [.cn [2,3,7] [0,1]]).ct hZ Ko (iS uV Oo) (ih3 (i3+1) (dn uV) h)
theorem FE{aD:aF}{aa:aF}{r:Bool}(h:tC aD aa=some r):Good prog 42 [bw (aF.c aD),bw (aF.c aa)] (bQ r):=by
 refine gd func42 bZ 123 fun hr Z hZ=>?_
 rw[tC]at h;obtain⟨h1,h⟩|⟨h1,h⟩:=aK h
 ·cases aM h;exact((aY.r 8 h1).T 9).ret hZ
 ·have Ma:=(aY.r 8 h1)
  obtain⟨h2,h⟩|⟨h2,h⟩:=aK h
  ·cases aM h;exact((Ma.r 8 h2).T 1).ret hZ
  ·have Dc:=(Ma.r 8 h2)
   obtain⟨h3,h⟩|⟨h3,h⟩:=aK h
   ·cases aM h;exact(Dc.b h3).ret hZ
   ·refine((Dc.b h3).a [.cn [2,3,5] [0,1]]).lp hZ (GS hZ (fun h=>?_) (by have:=(gY.sl (gY.agg (hr _ (aE (i:=0) rfl)) (.sl (aD.bG.map ah.c)) (by simp))).1;simpa using this) aD.bG 0 rfl h);refine(aY.a [.cn [2,3,6] [0,1]]).lp hZ (GU hZ (fun h=>?_) (by have:=(gY.sl (gY.agg (hr _ (aE (i:=0) rfl)) (.sl (aD.nodes.map Node.c)) (by simp))).1;simpa using this) aD.nodes 0 rfl h);refine(aY.a [.cn [2,3,7] [0,1]]).lp hZ (GV hZ (fun h=>?_) (by have:=(gY.sl (gY.agg (hr _ (aE (i:=0) rfl)) (.sl (aD.ends.map jN)) (by simp))).1;simpa using this) aD.ends 0 rfl h);cases aM h;exact aY.ret hZ
def rG(aD:aC)(aa:aC):Option Bool:=(bif (aD.rel:Bytes)==aa.rel then((oq aD.args aa.args).bind fun y2=>(some y2))else(some false))
theorem yB{aD:aC}{aa:aC}{r:Bool}(h:rG aD aa=some r):Good prog 95 [bw (aC.c aD),bw (aC.c aa)] (bQ r):=by
 refine gd func95 bZ 17 fun hr Z hZ=>?_
 rw[rG]at h;obtain⟨h1,h⟩|⟨h1,h⟩:=aK h
 ·obtain⟨y2,h3,h⟩:=aH h;cases aM h;exact(((aY.r 5 h1).g (yT h3)).b h1).ret hZ
 ·cases aM h;exact(aY.r 6 h1).ret hZ
def oA(aD:aJ)(aa:aJ)(k1:Option Bool):aJ->Nat->Option Bool
 | [],i1=>(k1)
 |bg::cj,i1=>((gA aa (i1:Int)).bind fun x30=>((rG bg x30).bind fun Jt=>(bif !(Jt)then(some false)else(oA aD aa k1 cj (i1+1)))))
def mj(aD:aJ)(aa:aJ):Option Bool:=(bif (((aD.map aC.c).length:Int):Int) != ((aa.map aC.c).length:Int)then(some false)else(oA aD aa (some true) aD 0))
def JP(aD:aJ)(aa:aJ)(dL:Int):St:=⟨[(0,bX (aD.map aC.c)),(1,bX (aa.map aC.c)),(5,aB dL)],[]⟩
theorem Hh(hZ:Z.nt=27){aD:aJ}{aa:aJ}{r:Bool}{k1:Option Bool}(eC:k1=some r->Ax Z N f43 (.q bZ (bQ r)) [1,1,1] ⟨[],[]⟩)(hm1:aD.length<=maxLen):∀(rest:aJ) (i1:Nat),aD.drop i1=rest->oA aD aa k1 rest i1=some r->Ar Z N f43 (.q bZ (bQ r)) [1,1,0,1,0] (rest.length+1) (JP aD aa (i1:Int)):=by
 intro rest
 induction rest with
 |nil=>
  intro i1 bB h;rw[oA]at h;refine aV fun N1 cq cS=>?_
  exact((aY.ge aC.c bB).a [.hl 0 [] []]).ex hZ cq (eC h)
 |cons bg cj ih1=>
  intro i1 bB h;rw[oA]at h;refine aV fun N1 cq cS=>?_
  obtain⟨x30,h31,Jt,h33,h⟩:=bR h;have fG:=(((((aY.lt aC.c bB).a [.n 8]).l (bK aC.c 2 (dc bB) rfl)).l (dW aC.c 2 h31 rfl)).g (yB h33))
  obtain⟨h34,h⟩|⟨h34,h⟩:=aK h
  ·cases aM h;exact(fG.b h34).ret hZ
  ·exact((fG.b h34).a [.cn [0,1,5] []]).ct hZ cS (iS bB hm1) (ih1 (i1+1) (dn bB) h)
theorem vl{aD:aJ}{aa:aJ}{r:Bool}(h:mj aD aa=some r):Good prog 43 [bX (aD.map aC.c),bX (aa.map aC.c)] (bQ r):=by
 refine gd func43 bZ 27 fun hr Z hZ=>?_
 rw[mj]at h;obtain⟨h1,h⟩|⟨h1,h⟩:=aK h
 ·cases aM h;exact(aY.b h1).ret hZ
 ·refine((aY.b h1).a [.cn [0,1,5] []]).lp hZ (Hh hZ (fun h=>?_) (by have:=(gY.sl (hr _ (aE (i:=0) rfl))).1;simpa using this) aD 0 rfl h);cases aM h;exact aY.ret hZ
def iI(aD:aP)(aa:aP)(k1:Option Bool):aP->Nat->Option Bool
 | [],i1=>(k1)
 |bg::cj,i1=>((gA aa (i1:Int)).bind fun x22=>(bif !((bg.var:Bytes)==x22.var&&(bg.value:Bytes)==x22.value)then(some false)else(iI aD aa k1 cj (i1+1))))
def jl(aD:aP)(aa:aP):Option Bool:=(bif (((aD.map aW.c).length:Int):Int) != ((aa.map aW.c).length:Int)then(some false)else(iI aD aa (some true) aD 0))
def EC(aD:aP)(aa:aP)(dL:Int):St:=⟨[(0,bX (aD.map aW.c)),(1,bX (aa.map aW.c)),(5,aB dL)],[]⟩
theorem DW(hZ:Z.nt=26){aD:aP}{aa:aP}{r:Bool}{k1:Option Bool}(eC:k1=some r->Ax Z N f97 (.q bZ (bQ r)) [1,1,1] ⟨[],[]⟩)(hm1:aD.length<=maxLen):∀(rest:aP) (i1:Nat),aD.drop i1=rest->iI aD aa k1 rest i1=some r->Ar Z N f97 (.q bZ (bQ r)) [1,1,0,1,0] (rest.length+1) (EC aD aa (i1:Int)):=by
 intro rest
 induction rest with
 |nil=>
  intro i1 bB h;rw[iI]at h;refine aV fun N1 cq cS=>?_
  exact((aY.ge aW.c bB).a [.hl 0 [] []]).ex hZ cq (eC h)
 |cons bg cj ih1=>
  intro i1 bB h;rw[iI]at h;refine aV fun N1 cq cS=>?_
  obtain⟨x22,h23,h⟩:=aH h;have fG:=((((aY.lt aW.c bB).a [.n 8]).l (bK aW.c 2 (dc bB) rfl)).l (dW aW.c 2 h23 rfl))
  obtain⟨h24,h⟩|⟨h24,h⟩:=aK h
  ·cases aM h;exact(fG.b h24).ret hZ
  ·exact((fG.b h24).a [.cn [0,1,5] []]).ct hZ cS (iS bB hm1) (ih1 (i1+1) (dn bB) h)
theorem xD{aD:aP}{aa:aP}{r:Bool}(h:jl aD aa=some r):Good prog 97 [bX (aD.map aW.c),bX (aa.map aW.c)] (bQ r):=by
 refine gd func97 bZ 26 fun hr Z hZ=>?_
 rw[jl]at h;obtain⟨h1,h⟩|⟨h1,h⟩:=aK h
 ·cases aM h;exact(aY.b h1).ret hZ
 ·refine((aY.b h1).a [.cn [0,1,5] []]).lp hZ (DW hZ (fun h=>?_) (by have:=(gY.sl (hr _ (aE (i:=0) rfl))).1;simpa using this) aD 0 rfl h);cases aM h;exact aY.ret hZ
def iw(aD:ar)(aa:ar)(k1:Option Bool):ar->Nat->Option Bool
 | [],i1=>(k1)
 |bg::cj,i1=>((gA aa (i1:Int)).bind fun x42=>((mj bg.facts x42.facts).bind fun y44=>(bif !(y44)then(some false)else((jl bg.bind x42.bind).bind fun y47=>(bif !(y47)then(some false)else(iw aD aa k1 cj (i1+1)))))))
def qo(aD:ar)(aa:ar):Option Bool:=(bif (((aD.map aQ.c).length:Int):Int) != ((aa.map aQ.c).length:Int)then(some false)else(iw aD aa (some true) aD 0))
def FF(aD:ar)(aa:ar)(dL:Int):St:=⟨[(0,bX (aD.map aQ.c)),(1,bX (aa.map aQ.c)),(5,aB dL)],[]⟩
theorem EI(hZ:Z.nt=43){aD:ar}{aa:ar}{r:Bool}{k1:Option Bool}(eC:k1=some r->Ax Z N f45 (.q bZ (bQ r)) [1,1,1] ⟨[],[]⟩)(hm1:aD.length<=maxLen):∀(rest:ar) (i1:Nat),aD.drop i1=rest->iw aD aa k1 rest i1=some r->Ar Z N f45 (.q bZ (bQ r)) [1,1,0,1,0] (rest.length+1) (FF aD aa (i1:Int)):=by
 intro rest
 induction rest with
 |nil=>
  intro i1 bB h;rw[iw]at h;refine aV fun N1 cq cS=>?_
  exact((aY.ge aQ.c bB).a [.hl 0 [] []]).ex hZ cq (eC h)
 |cons bg cj ih1=>
  intro i1 bB h;rw[iw]at h;refine aV fun N1 cq cS=>?_
  obtain⟨x42,h43,y44,h45,h⟩:=bR h;have jR:=(((((aY.lt aQ.c bB).a [.n 23]).l (bK aQ.c 2 (dc bB) rfl)).l (dW aQ.c 2 h43 rfl)).g (vl h45))
  obtain⟨h46,h⟩|⟨h46,h⟩:=aK h
  ·cases aM h;exact((jR.r 13 h46).T 1).ret hZ
  ·obtain⟨y47,h48,h⟩:=aH h;have k6:=(((((((jR.r 3 h46).l (bK aQ.c 2 (dc bB) rfl)).r 5 h46).l (dW aQ.c 2 h43 rfl)).r 3 h46).g (xD h48)).r 2 h46)
   obtain⟨h49,h⟩|⟨h49,h⟩:=aK h
   ·cases aM h;exact(k6.b h49).ret hZ
   ·exact((k6.b h49).a [.cn [0,1,5] []]).ct hZ cS (iS bB hm1) (ih1 (i1+1) (dn bB) h)
theorem DY{aD:ar}{aa:ar}{r:Bool}(h:qo aD aa=some r):Good prog 45 [bX (aD.map aQ.c),bX (aa.map aQ.c)] (bQ r):=by
 refine gd func45 bZ 43 fun hr Z hZ=>?_
 rw[qo]at h;obtain⟨h1,h⟩|⟨h1,h⟩:=aK h
 ·cases aM h;exact(aY.b h1).ret hZ
 ·refine((aY.b h1).a [.cn [0,1,5] []]).lp hZ (EI hZ (fun h=>?_) (by have:=(gY.sl (hr _ (aE (i:=0) rfl))).1;simpa using this) aD 0 rfl h);cases aM h;exact aY.ret hZ
def kj(aD:aF)(k1:Option Bool):bP->Nat->Option Bool
 | [],i1=>(k1)
 |bg::cj,i1=>((gN bg.shape ([]) aD.facts).bind fun FQ=>((mj bg.facts FQ).bind fun y41=>(bif !(y41)then(some false)else(kj aD k1 cj (i1+1)))))
def kn(aD:aF)(k2:Option Bool):bN->Nat->Option Bool
 | [],i2=>(k2)
 |jM::tL,i2=>((vU aD (i2:Int)).bind fun X9=>((qg X9 aD.facts).bind fun aDI=>((qo jM.tokens aDI).bind fun L3=>(bif !(L3)then(some false)else(kn aD k2 tL (i2+1))))))
def mc(aD:aF):Option Bool:=((ke aD.rules).bind fun y1=>(bif !(y1.2)then(some false)else((qc aD.facts).bind fun y4=>(bif !(y4)then(some false)else((tC aD y1.1).bind fun y7=>(bif !(y7)then(some false)else(bif decide ((aD.cP:Int)<0)then(some false)else(kj aD (kn aD (some true) aD.nodes 0) aD.bG 0))))))))
def JF(aD:aF)(dL:Int):St:=⟨[(1,bp 0 0),(5,aB dL)],[bu (aF.c aD)]⟩
theorem HV(hZ:Z.nt=77){aD:aF}{r:Bool}{k1:Option Bool}(eC:k1=some r->Ax Z N f11 (.q bZ (bQ r)) [1,1,1,1] ⟨[(1,bp 0 0)],[bu (aF.c aD)]⟩)(hm1:aD.bG.length<=maxLen):∀(rest:bP) (i1:Nat),aD.bG.drop i1=rest->kj aD k1 rest i1=some r->Ar Z N f11 (.q bZ (bQ r)) [1,1,1,0,1,0] (rest.length+1) (JF aD (i1:Int)):=by
 intro rest
 induction rest with
 |nil=>
  intro i1 bB h;rw[kj]at h;refine aV fun N1 cq cS=>?_
  exact((aY.ge ah.c bB).a [.hl 0 [1] [0]]).ex hZ cq (eC h)
 |cons bg cj ih1=>
  intro i1 bB h;rw[kj]at h;refine aV fun N1 cq cS=>?_
  obtain⟨FQ,h40,y41,h42,h⟩:=bR h;have jR:=(((((((aY.lt ah.c bB).a [.n 15]).l (bK ah.c 3 (dc bB) rfl)).l (bK ah.c 3 (dc bB) rfl)).a [.d (cW 43 2 (FQ.map aC.c))]).w (show Good prog 44 [bw (aC.c bg.shape),bX ([]),bX (aD.facts.map aC.c)] (cW 43 2 (FQ.map aC.c))from by first| (simpa only[bI,bA,cF,cD,cI]using fE h40)|exact fE h40)).g (vl h42))
  obtain⟨h43,h⟩|⟨h43,h⟩:=aK h
  ·cases aM h;exact(jR.b h43).ret hZ
  ·exact((jR.b h43).a [.cn [1,5] [0]]).ct hZ cS (iS bB hm1) (ih1 (i1+1) (dn bB) h)
def JG(aD:aF)(dL:Int):St:=⟨[(1,bp 0 0),(6,aB dL)],[bu (aF.c aD)]⟩
theorem HW(hZ:Z.nt=77){aD:aF}{r:Bool}{k2:Option Bool}(zc:k2=some r->Ax Z N f11 (.q bZ (bQ r)) [1,1,1,1,1] ⟨[],[]⟩)(hm2:aD.nodes.length<=maxLen):∀(rest:bN) (i2:Nat),aD.nodes.drop i2=rest->kn aD k2 rest i2=some r->Ar Z N f11 (.q bZ (bQ r)) [1,1,1,1,0,1,0] (rest.length+1) (JG aD (i2:Int)):=by
 intro rest
 induction rest with
 |nil=>
  intro i2 hd2 h;rw[kn]at h;refine aV fun N2 uY qt=>?_
  exact((aY.ge Node.c hd2).a [.hl 0 [] []]).ex hZ uY (zc h)
 |cons jM tL ih2=>
  intro i2 hd2 h;rw[kn]at h;refine aV fun N2 uY qt=>?_
  obtain⟨X9,h105,aDI,h107,L3,h109,h⟩:=gX h;have k6:=((((((aY.lt Node.c hd2).a [.n2 [0,1,2,3,4,5,6,7,8,9,10,11,12,13] [0,1,2,3,4,5,6,7,8,9,10,11,12,13] 11 12 [0,1,2,3,4,5] []]).l (bK Node.c 8 (dc hd2) rfl)).g (ul h105)).g (AZ h107)).g (DY h109))
  obtain⟨h110,h⟩|⟨h110,h⟩:=aK h
  ·cases aM h;exact(k6.b h110).ret hZ
  ·exact((k6.b h110).a [.cn [1,6] [0]]).ct hZ qt (iS hd2 hm2) (ih2 (i2+1) (dn hd2) h)
theorem vi{aD:aF}{r:Bool}(h:mc aD=some r):Good prog 11 [bw (aF.c aD)] (bQ r):=by
 refine gd func11 bZ 77 fun hr Z hZ=>?_
 rw[mc]at h;obtain⟨y1,h2,h⟩:=aH h;obtain⟨h3,h⟩|⟨h3,h⟩:=aK h
 ·cases aM h;exact(((aY.g (tR h2)).r 5 h3).T 10).ret hZ
 ·obtain⟨y4,h5,h⟩:=aH h;have ud:=((((aY.g (tR h2)).r 3 h3).g (pW h5)).r 2 h3)
  obtain⟨h6,h⟩|⟨h6,h⟩:=aK h
  ·cases aM h;exact((ud.r 5 h6).T 5).ret hZ
  ·obtain⟨y7,h8,h⟩:=aH h;have xg:=(((ud.r 3 h6).g (FE h8)).r 2 h6)
   obtain⟨h9,h⟩|⟨h9,h⟩:=aK h
   ·cases aM h;exact((xg.r 4 h9).T 1).ret hZ
   ·have Ak:=(xg.r 4 h9)
    obtain⟨h10,h⟩|⟨h10,h⟩:=aK h
    ·cases aM h;exact(Ak.b h10).ret hZ
    ·refine((Ak.b h10).a [.cn [1,5] [0]]).lp hZ (HV hZ (fun h=>?_) (by have:=(gY.sl (gY.agg (hr _ (aE (i:=0) rfl)) (.sl (aD.bG.map ah.c)) (by simp))).1;simpa using this) aD.bG 0 rfl h);refine(aY.a [.cn [1,6] [0]]).lp hZ (HW hZ (fun h=>?_) (by have:=(gY.sl (gY.agg (hr _ (aE (i:=0) rfl)) (.sl (aD.nodes.map Node.c)) (by simp))).1;simpa using this) aD.nodes 0 rfl h);cases aM h;exact aY.ret hZ
def n7(aD:aP)(aa:aP)(k1:aP->Option aP):aP->Nat->aP->Option aP
 | [],i1,bY=>(k1 bY)
 |bg::cj,i1,bY=>((pg aD bg.value).bind fun PS=>(bif PS.2 then((wk bY bg.var PS.1).bind fun XD=>(n7 aD aa k1 cj (i1+1) XD))else(n7 aD aa k1 cj (i1+1) bY)))
def xb(aD:aP)(aa:aP):Option aP:=(n7 aD aa (fun(cM:aP)=>(some cM)) aa 0 ([]:aP))
def NX(aD:aP)(aa:aP)(W0:List aT)(dL:Int):St:=⟨[(0,bX (aD.map aW.c)),(1,bX (aa.map aW.c)),(5,b9 0),(6,aB dL)],[af 113 2 W0]⟩
theorem M7(hZ:Z.nt=36){aD:aP}{aa:aP}{r:aP}{k1:aP->Option aP}(eC:∀(cM:aP),k1 cM=some r->Ax Z N f39 (LG r) [1,1,1] ⟨[(5,b9 0)],[af 113 2 (cM.map aW.c)]⟩)(hm1:aa.length<=maxLen):∀(rest:aP) (i1:Nat) (bY:aP),aa.drop i1=rest->n7 aD aa k1 rest i1 bY=some r->Ar Z N f39 (LG r) [1,1,0,1,0] (rest.length+1) (NX aD aa (bY.map aW.c) (i1:Int)):=by
 intro rest
 induction rest with
 |nil=>
  intro i1 bY bB h;rw[n7]at h;refine aV fun N1 cq cS=>?_
  exact((aY.ge aW.c bB).a [.hl 0 [5] [0]]).ex hZ cq (eC bY h)
 |cons bg cj ih1=>
  intro i1 bY bB h;rw[n7]at h;refine aV fun N1 cq cS=>?_
  obtain⟨PS,h38,h⟩:=aH h;have fG:=(((aY.lt aW.c bB).l (bK aW.c 2 (dc bB) rfl)).g (tr h38))
  obtain⟨h39,h⟩|⟨h39,h⟩:=aK h
  ·obtain⟨XD,h41,h⟩:=aH h;exact((((fG.b h39).l (bK aW.c 2 (dc bB) rfl)).g (D6 h41)).a [.cn [0,1,5,6] [1]]).ct hZ cS (iS bB hm1) (ih1 (i1+1) XD (dn bB) h)
  ·exact((fG.b h39).a [.cn [0,1,5,6] [0]]).ct hZ cS (iS bB hm1) (ih1 (i1+1) bY (dn bB) h)
theorem Ke{aD:aP}{aa:aP}{r:aP}(h:xb aD aa=some r):Good prog 39 [bX (aD.map aW.c),bX (aa.map aW.c)] (cW 113 2 (r.map aW.c)):=by
 refine gd func39 FL 36 fun hr Z hZ=>?_
 rw[xb]at h;refine(aY.a [.cn [0,1,5,6] [0]]).lp hZ (M7 hZ (fun cM h=>?_) (by have:=(gY.sl (hr _ (aE (i:=1) rfl))).1;simpa using this) aa 0 ([]:aP) rfl h);cases aM h;exact aY.ret hZ
def gi(aD:aF)(i1:Nat)(bg:aN)(R5:aP)(x496:Node)(k2:bL->Option bL):ar->Nat->bL->Option bL
 | [],i2,fJ=>(k2 fJ)
 |jM::tL,i2,fJ=>((dO jM.facts).bind fun Vb=>((xb jM.bind R5).bind fun a3j=>(bif room ((fJ.map ai.c).length+([[aZ bg.name,bX (Vb.map aC.c),bX (a3j.map aW.c)]]).length) 64 then(gi aD i1 bg R5 x496 k2 tL (i2+1) (fJ++([(⟨bg.name,Vb,a3j⟩:ai)])))else none)))
def fm(aD:aF)(k1:bL->Option bL):az->Nat->bL->Option bL
 | [],i1,bn=>(k1 bn)
 |bg::cj,i1,bn=>((mc aD).bind fun aDc=>(bif aDc then((qQ bg).bind fun R5=>((gA aD.ends (i1:Int)).bind fun x494=>((gA aD.nodes x494).bind fun x496=>(bif decide (x496.tokens.length<=maxLen)then(gi aD i1 bg R5 x496 (fun(tY:bL)=>(fm aD k1 cj (i1+1) tY)) x496.tokens 0 bn)else none))))else(k1 bn)))
def fe(aD:aF):Option bL:=(fm aD (fun(cM:bL)=>(some cM)) aD.rules 0 ([]:bL))
def GC(aD:aF)(W0:List aT)(dL:Int):St:=⟨[(1,bp 0 0),(3,b9 1),(4,aB dL)],[bu (aF.c aD),af 57 3 W0]⟩
def zb(aD:aF)(i1:Nat)(R5:aP)(x496:Node)(W0:List aT)(dL:Int):St:=⟨[(1,bp 0 0),(3,b9 1),(4,aB (i1:Int)),(5,b9 2),(6,bX (x496.tokens.map aQ.c)),(7,aB dL)],[bu (aF.c aD),af 57 3 W0,af 113 2 (R5.map aW.c)]⟩
theorem F6(hZ:Z.nt=66){aD:aF}{i1:Nat}{bg:aN}{R5:aP}{x496:Node}{r:bL}{k2:bL->Option bL}(zc:∀(tY:bL),k2 tY=some r->Ax Z N f10 (FU r) [1,1,0,1,0,0,1,1] ⟨[(1,bp 0 0),(3,b9 1),(4,aB (i1:Int))],[bu (aF.c aD),af 57 3 (tY.map ai.c)]⟩)(hx1:(aD.rules)[i1]?=some bg)(hm2:x496.tokens.length<=maxLen):∀(rest:ar) (i2:Nat) (fJ:bL),x496.tokens.drop i2=rest->gi aD i1 bg R5 x496 k2 rest i2 fJ=some r->Ar Z N f10 (FU r) [1,1,0,1,0,0,1,0,0,1,1,1,0] (rest.length+1) (zb aD i1 R5 x496 (fJ.map ai.c) (i2:Int)):=by
 intro rest
 induction rest with
 |nil=>
  intro i2 fJ hd2 h;rw[gi]at h;refine aV fun N2 uY qt=>?_
  exact((aY.ge aQ.c hd2).a [.hl 3 [1,3,4] [0,1]]).ex hZ uY (zc fJ h)
 |cons jM tL ih2=>
  intro i2 fJ hd2 h;rw[gi]at h;refine aV fun N2 uY qt=>?_
  obtain⟨Vb,h565,a3j,h567,h⟩:=bR h;obtain⟨h568,h⟩:=bf h;exact(((((((((aY.lt aQ.c hd2).a [.n2 [0,1,2,3,4,5,6,7,8,9,10,11,12,13,14,15,16,17,18,19,20,21,22,23] [0,1,2,3,4,5,6,7,8,9,10,11,12,13,14,15,16,17,18,19,20,21,22,23] 21 22 [0] [3,4]]).l (bK aN.c 4 hx1 rfl)).l (bK aQ.c 2 (dc hd2) rfl)).g (dl h565)).l (bK aQ.c 2 (dc hd2) rfl)).g (Ke h567)).w (cA h568)).a [.cn [1,3,4,5,6,7] [0,6,2]]).cs hZ qt (zb aD i1 R5 x496 ((fJ.map ai.c)++([[aZ bg.name,bX (Vb.map aC.c),bX (a3j.map aW.c)]])) (IntKind.i64.wrap ((i2:Int)+1))) (by first| (simp only[iS hd2 hm2,mA]<;>rfl)| (simp only[iS hd2 hm2,mA,aC.c,aW.c,aS.c,Action.c,aN.c,aQ.c,ai.c,ah.c,Node.c,aF.c,di.c]<;>rfl)) (ih2 (i2+1) (fJ++([(⟨bg.name,Vb,a3j⟩:ai)])) (dn hd2) h)
theorem F5(hZ:Z.nt=66){aD:aF}{r:bL}{k1:bL->Option bL}(eC:∀(cM:bL),k1 cM=some r->Ax Z N f10 (FU r) [1,1,1] ⟨[(3,b9 0)],[af 57 3 (cM.map ai.c)]⟩)(hm1:aD.rules.length<=maxLen):∀(rest:az) (i1:Nat) (bn:bL),aD.rules.drop i1=rest->fm aD k1 rest i1 bn=some r->Ar Z N f10 (FU r) [1,1,0,1,0] (rest.length+1) (GC aD (bn.map ai.c) (i1:Int)):=by
 intro rest
 induction rest with
 |nil=>
  intro i1 bn bB h;rw[fm]at h;refine aV fun N1 cq cS=>?_
  exact(((((aY.ge aN.c bB).ge aN.c bB).ge aN.c bB).F 1).a [.hl 0 [3] [1]]).ex hZ cq (eC bn h)
 |cons bg cj ih1=>
  intro i1 bn bB h;rw[fm]at h;refine aV fun N1 cq cS=>?_
  obtain⟨aDc,h490,h⟩:=aH h;have fG:=((((aY.lt aN.c bB).lt aN.c bB).g (vi h490)).lt aN.c bB)
  obtain⟨h491,h⟩|⟨h491,h⟩:=aK h
  ·obtain⟨R5,h493,x494,h495,x496,h497,h⟩:=gX h;obtain⟨h569,h⟩:=bf h;refine(((((((fG.b h491).l (bK aN.c 4 (dc bB) rfl)).g (z7 h493)).a [.n 7]).l (dW jN 1 h495 rfl)).l (dW Node.c 8 h497 rfl)).a [.cn [1,3,4,5,6,7] [0,1,2]]).lp hZ (F6 hZ (fun tY h=>?_) ((drop_cons bB).1) (bh h569) x496.tokens 0 bn rfl h);exact(aY.a [.cn [1,3,4] [0,1]]).ct hZ cS (iS bB hm1) (ih1 (i1+1) tY (dn bB) h)
  ·exact((fG.b h491).a [.hl 0 [3] [1]]).ex hZ cq (eC bn h)
theorem qP{aD:aF}{r:bL}(h:fe aD=some r):Good prog 10 [bw (aF.c aD)] (cW 57 3 (r.map ai.c)):=by
 refine gd func10 [[some (57,3)]] 66 fun hr Z hZ=>?_
 rw[fe]at h;refine(aY.a [.cn [1,3,4] [0,1]]).lp hZ (F5 hZ (fun cM h=>?_) (by have:=(gY.sl (gY.agg (hr _ (aE (i:=0) rfl)) (.sl (aD.rules.map aN.c)) (by simp))).1;simpa using this) aD.rules 0 ([]:bL) rfl h);cases aM h;exact aY.ret hZ
def uQ(aD:ai)(aa:ai):Option Bool:=(bif (aD.rule:Bytes)==aa.rule then((mj aD.facts aa.facts).bind fun y2=>(bif y2 then((jl aD.bind aa.bind).bind fun y5=>(some y5))else(some false)))else(some false))
theorem GN{aD:ai}{aa:ai}{r:Bool}(h:uQ aD aa=some r):Good prog 48 [bw (ai.c aD),bw (ai.c aa)] (bQ r):=by
 refine gd func48 bZ 24 fun hr Z hZ=>?_
 rw[uQ]at h;obtain⟨h1,h⟩|⟨h1,h⟩:=aK h
 ·obtain⟨y2,h3,h⟩:=aH h;have lC:=(((aY.r 5 h1).g (vl h3)).b h1)
  obtain⟨h4,h⟩|⟨h4,h⟩:=aK h
  ·obtain⟨y5,h6,h⟩:=aH h;cases aM h;exact(((lC.r 5 h4).g (xD h6)).b h4).ret hZ
  ·cases aM h;exact(lC.r 6 h4).ret hZ
 ·cases aM h;exact((aY.r 6 h1).F 6).ret hZ
def vF(aD:bM):Option bM:=(bif room (([]:List aT).length+(aD.map jN).length) 8 then(some (([]:bM)++aD))else none)
theorem H9{aD:bM}{r:bM}(h:vF aD=some r):Good prog 115 [bX (aD.map jN)] (cW 3 1 (r.map jN)):=by
 refine gd func115 [[some (3,1)]] 5 fun hr Z hZ=>?_
 rw[vF]at h;obtain⟨h1,h⟩:=bf h;cases h;exact(((aY.w (cA h1)).w (show(∀r∈(aD.map jN),r.length=1)/\(true=true->D.jr (aD.map jN)=true)from⟨by first|simp| (intro r hr;obtain⟨x,_,rfl⟩:=cJ.1 (cO (fN hr));rfl),by simp[D.jr,D.flat]⟩)).a [.L5 2,.fl true]).rts hZ (cW 3 1 (([]:List aT)++(aD.map jN))) (by first|rfl| (simp only[mA]<;>rfl)| (simp only[cN,mA]<;>rfl))
def jY(aD:ar)(k1:ar->Option ar):ar->Nat->ar->Option ar
 | [],i1,bY=>(k1 bY)
 |bg::cj,i1,bY=>((cm bg.facts).bind fun y61=>((j8 bg.bind).bind fun y63=>(bif room ((bY.map aQ.c).length+([[bX (y61.map aC.c),bX (y63.map aW.c)]]).length) 48 then(jY aD k1 cj (i1+1) (bY++([(⟨y61,y63⟩:aQ)])))else none)))
def nS(aD:ar):Option ar:=(jY aD (fun(cM:ar)=>(some cM)) aD 0 ([]:ar))
def AN(aD:ar)(W0:List aT)(dL:Int):St:=⟨[(3,b9 0),(6,bX (aD.map aQ.c)),(7,aB ((aD.map aQ.c).length:Int)),(8,aB dL)],[af 77 2 W0]⟩
theorem G5(hZ:Z.nt=24){aD:ar}{r:ar}{k1:ar->Option ar}(eC:∀(cM:ar),k1 cM=some r->Ax Z N f118 (B8 r) [1,1,1] ⟨[(3,b9 0)],[af 77 2 (cM.map aQ.c)]⟩)(hm1:aD.length<=maxLen):∀(rest:ar) (i1:Nat) (bY:ar),aD.drop i1=rest->jY aD k1 rest i1 bY=some r->Ar Z N f118 (B8 r) [1,1,0,1,0] (rest.length+1) (AN aD (bY.map aQ.c) (i1:Int)):=by
 intro rest
 induction rest with
 |nil=>
  intro i1 bY bB h;rw[jY]at h;refine aV fun N1 cq cS=>?_
  exact((aY.ge aQ.c bB).a [.hl 0 [3] [0]]).ex hZ cq (eC bY h)
 |cons bg cj ih1=>
  intro i1 bY bB h;rw[jY]at h;refine aV fun N1 cq cS=>?_
  obtain⟨y61,h62,y63,h64,h⟩:=bR h;obtain⟨h65,h⟩:=bf h;exact(((((((aY.lt aQ.c bB).l (bK aQ.c 2 (dc bB) rfl)).a [.n2 [0,1,2,3,4,5,6,7,8,9,10] [0,1,2,3,4,5,6,7,8,9,10] 8 9 [0] [2,3]]).g (cu h62)).g (s9 h64)).w (cA h65)).a [.cn [3,6,7,8] [5]]).cs hZ cS (AN aD ((bY.map aQ.c)++([[bX (y61.map aC.c),bX (y63.map aW.c)]])) (IntKind.i64.wrap ((i1:Int)+1))) (by first| (simp only[iS bB hm1,mA]<;>rfl)| (simp only[iS bB hm1,mA,aC.c,aW.c,aS.c,Action.c,aN.c,aQ.c,ai.c,ah.c,Node.c,aF.c,di.c]<;>rfl)) (ih1 (i1+1) (bY++([(⟨y61,y63⟩:aQ)])) (dn bB) h)
theorem Ez{aD:ar}{r:ar}(h:nS aD=some r):Good prog 118 [bX (aD.map aQ.c)] (cW 77 2 (r.map aQ.c)):=by
 refine gd func118 [[some (77,2)]] 24 fun hr Z hZ=>?_
 rw[nS]at h;refine(aY.a [.L5 3,.cn [3,6,7,8] [0]]).lp hZ (G5 hZ (fun cM h=>?_) (by have:=(gY.sl (hr _ (aE (i:=0) rfl))).1;simpa using this) aD 0 ([]:ar) rfl h);cases aM h;exact aY.ret hZ
def jE(aD:aF)(y1:az)(y3:bM)(y5:aJ)(k1:bP->Option aF):bP->Nat->bP->Option aF
 | [],i1,nG=>(k1 nG)
 |bg::cj,i1,nG=>((ez bg.shape).bind fun Vc=>((cm bg.facts).bind fun y69=>(bif room ((nG.map ah.c).length+([[aZ Vc.rel,bX (Vc.args.map tx),bX (y69.map aC.c)]]).length) 64 then(jE aD y1 y3 y5 k1 cj (i1+1) (nG++([(⟨Vc,y69⟩:ah)])))else none)))
def jF(aD:aF)(y1:az)(y3:bM)(y5:aJ)(lX:bP)(k2:bN->Option aF):bN->Nat->bN->Option aF
 | [],i2,x6=>(k2 x6)
 |jM::tL,i2,x6=>((gH jM.cond).bind fun Je=>((nS jM.tokens).bind fun a3e=>(bif room ((x6.map Node.c).length+([[aB jM.parent,aB Je.kind,aZ Je.pat.rel,bX (Je.pat.args.map tx),aZ Je.left,aZ Je.right,aB jM.cX,bX (a3e.map aQ.c)]]).length) 120 then(jF aD y1 y3 y5 lX k2 tL (i2+1) (x6++([(⟨jM.parent,Je,jM.cX,a3e⟩:Node)])))else none)))
def ia(aD:aF):Option aF:=((rN aD.rules).bind fun y1=>((vF aD.ends).bind fun y3=>((cm aD.facts).bind fun y5=>(jE aD y1 y3 y5 (fun(lX:bP)=>(jF aD y1 y3 y5 lX (fun(nB:bN)=>(some (⟨y1,y3,lX,nB,y5,aD.cP⟩:aF))) aD.nodes 0 ([]:bN))) aD.bG 0 ([]:bP)))))
def zV(aD:aF)(y1:az)(y3:bM)(y5:aJ)(W0:List aT)(dL:Int):St:=⟨[(1,bp 0 0),(2,bp 1 0),(3,bp 2 0),(21,bX (aD.bG.map ah.c)),(22,aB ((aD.bG.map ah.c).length:Int)),(23,aB dL)],[bu (aF.c aD),bu [D.nil,D.nil,D.nil,D.nil,D.nil,aB 0],bu [b9 3,b9 4,b9 5,D.nil,b9 6,aB aD.cP],af 63 4 (y1.map aN.c),af 3 1 (y3.map jN),af 83 3 W0,af 43 2 (y5.map aC.c)]⟩
theorem Ex(hZ:Z.nt=65){aD:aF}{y1:az}{y3:bM}{y5:aJ}{r:aF}{k1:bP->Option aF}(eC:∀(lX:bP),k1 lX=some r->Ax Z N f61 (vq r) [1,1,1] ⟨[(1,bp 0 0),(2,bp 1 0),(3,bp 2 0)],[bu (aF.c aD),bu [D.nil,D.nil,D.nil,D.nil,D.nil,aB 0],bu [b9 3,b9 4,b9 5,D.nil,b9 6,aB aD.cP],af 63 4 (y1.map aN.c),af 3 1 (y3.map jN),af 83 3 (lX.map ah.c),af 43 2 (y5.map aC.c)]⟩)(hm1:aD.bG.length<=maxLen):∀(rest:bP) (i1:Nat) (nG:bP),aD.bG.drop i1=rest->jE aD y1 y3 y5 k1 rest i1 nG=some r->Ar Z N f61 (vq r) [1,1,0,1,0] (rest.length+1) (zV aD y1 y3 y5 (nG.map ah.c) (i1:Int)):=by
 intro rest
 induction rest with
 |nil=>
  intro i1 nG bB h;rw[jE]at h;refine aV fun N1 cq cS=>?_
  exact((aY.ge ah.c bB).a [.hl 0 [1,2,3] [0,1,2,3,4,5,6]]).ex hZ cq (eC nG h)
 |cons bg cj ih1=>
  intro i1 nG bB h;rw[jE]at h;refine aV fun N1 cq cS=>?_
  obtain⟨Vc,h68,y69,h70,h⟩:=bR h;obtain⟨h71,h⟩:=bf h;exact(((((((aY.lt ah.c bB).l (bK ah.c 3 (dc bB) rfl)).a [.n2 [0,1,2,3,4,5,6,7,8,9,10,11,12] [0,1,2,3,4,5,6,7,8,9,10,11,12] 9 10 [0,1] [8,9]]).g (uJ h68)).g (cu h70)).w (cA h71)).a [.cn [1,2,3,21,22,23] [0,1,2,3,4,11,6]]).cs hZ cS (zV aD y1 y3 y5 ((nG.map ah.c)++([[aZ Vc.rel,bX (Vc.args.map tx),bX (y69.map aC.c)]])) (IntKind.i64.wrap ((i1:Int)+1))) (by first| (simp only[iS bB hm1,mA]<;>rfl)| (simp only[iS bB hm1,mA,aC.c,aW.c,aS.c,Action.c,aN.c,aQ.c,ai.c,ah.c,Node.c,aF.c,di.c]<;>rfl)) (ih1 (i1+1) (nG++([(⟨Vc,y69⟩:ah)])) (dn bB) h)
def zW(aD:aF)(y1:az)(y3:bM)(y5:aJ)(lX:bP)(W0:List aT)(dL:Int):St:=⟨[(2,bp 0 0),(3,bp 1 0),(41,bX (aD.nodes.map Node.c)),(42,aB ((aD.nodes.map Node.c).length:Int)),(43,aB dL)],[bu [D.nil,D.nil,D.nil,D.nil,D.nil,aB 0],bu [b9 2,b9 3,b9 4,b9 5,b9 6,aB aD.cP],af 63 4 (y1.map aN.c),af 3 1 (y3.map jN),af 83 3 (lX.map ah.c),af 74 8 W0,af 43 2 (y5.map aC.c)]⟩
theorem Ey(hZ:Z.nt=65){aD:aF}{y1:az}{y3:bM}{y5:aJ}{lX:bP}{r:aF}{k2:bN->Option aF}(zc:∀(nB:bN),k2 nB=some r->Ax Z N f61 (vq r) [1,1,1,1] ⟨[(2,bp 0 0),(3,bp 1 0)],[bu [D.nil,D.nil,D.nil,D.nil,D.nil,aB 0],bu [b9 2,b9 3,b9 4,b9 5,b9 6,aB aD.cP],af 63 4 (y1.map aN.c),af 3 1 (y3.map jN),af 83 3 (lX.map ah.c),af 74 8 (nB.map Node.c),af 43 2 (y5.map aC.c)]⟩)(hm2:aD.nodes.length<=maxLen):∀(rest:bN) (i2:Nat) (x6:bN),aD.nodes.drop i2=rest->jF aD y1 y3 y5 lX k2 rest i2 x6=some r->Ar Z N f61 (vq r) [1,1,1,0,1,0] (rest.length+1) (zW aD y1 y3 y5 lX (x6.map Node.c) (i2:Int)):=by
 intro rest
 induction rest with
 |nil=>
  intro i2 x6 hd2 h;rw[jF]at h;refine aV fun N2 uY qt=>?_
  exact((aY.ge Node.c hd2).a [.hl 0 [2,3] [0,1,2,3,4,5,6]]).ex hZ uY (zc x6 h)
 |cons jM tL ih2=>
  intro i2 x6 hd2 h;rw[jF]at h;refine aV fun N2 uY qt=>?_
  obtain⟨Je,h133,a3e,h135,h⟩:=bR h;obtain⟨h136,h⟩:=bf h;exact(((((((aY.lt Node.c hd2).l (bK Node.c 8 (dc hd2) rfl)).a [.n2 [0,1,2,3,4,5,6,7,8,9,10,11,12,13,14,15,16] [0,1,2,3,4,5,6,7,8,9,10,11,12,13,14,15,16] 13 14 [0,1] [8,9]]).g (mW h133)).g (Ez h135)).w (cA h136)).a [.cn [2,3,41,42,43] [0,1,2,3,4,11,6]]).cs hZ qt (zW aD y1 y3 y5 lX ((x6.map Node.c)++([[aB jM.parent,aB Je.kind,aZ Je.pat.rel,bX (Je.pat.args.map tx),aZ Je.left,aZ Je.right,aB jM.cX,bX (a3e.map aQ.c)]])) (IntKind.i64.wrap ((i2:Int)+1))) (by first| (simp only[iS hd2 hm2,mA]<;>rfl)| (simp only[iS hd2 hm2,mA,aC.c,aW.c,aS.c,Action.c,aN.c,aQ.c,ai.c,ah.c,Node.c,aF.c,di.c]<;>rfl)) (ih2 (i2+1) (x6++([(⟨jM.parent,Je,jM.cX,a3e⟩:Node)])) (dn hd2) h)
theorem mX{aD:aF}{r:aF}(h:ia aD=some r):Good prog 61 [bw (aF.c aD)] (bw [cW 63 4 (r.rules.map aN.c),cW 3 1 (r.ends.map jN),cW 83 3 (r.bG.map ah.c),cW 74 8 (r.nodes.map Node.c),cW 43 2 (r.facts.map aC.c),aB r.cP]):=by
 refine gd func61 zn 65 fun hr Z hZ=>?_
 rw[ia]at h;obtain⟨y1,h2,y3,h4,y5,h6,h⟩:=gX h;refine(((((aY.a [.n 13]).g (zX h2)).g (H9 h4)).g (cu h6)).a [.pb 5 2 83 3,.cn [1,2,3,21,22,23] [0,1,5,2,3,6,4]]).lp hZ (Ex hZ (fun lX h=>?_) (by have:=(gY.sl (gY.agg (hr _ (aE (i:=0) rfl)) (.sl (aD.bG.map ah.c)) (by simp))).1;simpa using this) aD.bG 0 ([]:bP) rfl h);refine(aY.a [.pb 2 3 74 8,.cn [2,3,41,42,43] [1,2,3,4,5,7,6]]).lp hZ (Ey hZ (fun nB h=>?_) (by have:=(gY.sl (gY.agg (hr _ (aE (i:=0) rfl)) (.sl (aD.nodes.map Node.c)) (by simp))).1;simpa using this) aD.nodes 0 ([]:bN) rfl h);cases h;exact aY.ret hZ
def lf(aD:aJ)(aa:aC)(k1:Option Int):aJ->Nat->Option Int
 | [],i1=>(k1)
 |bg::cj,i1=>((qZ bg aa).bind fun L7=>(bif L7 then(some (i1:Int))else(lf aD aa k1 cj (i1+1))))
def qY(aD:aJ)(aa:aC):Option Int:=(lf aD aa (some (-1)) aD 0)
def K1(aD:aJ)(aa:aC)(dL:Int):St:=⟨[(3,bp 0 0),(7,bX (aD.map aC.c)),(8,aB ((aD.map aC.c).length:Int)),(9,aB dL)],[bu (aC.c aa)]⟩
theorem Ie(hZ:Z.nt=19){aD:aJ}{aa:aC}{r:Int}{k1:Option Int}(eC:k1=some r->Ax Z N f74 (.q bZ (aB r)) [1,1] ⟨[],[]⟩)(hm1:aD.length<=maxLen):∀(rest:aJ) (i1:Nat),aD.drop i1=rest->lf aD aa k1 rest i1=some r->Ar Z N f74 (.q bZ (aB r)) [1,0,1,0] (rest.length+1) (K1 aD aa (i1:Int)):=by
 intro rest
 induction rest with
 |nil=>
  intro i1 bB h;rw[lf]at h;refine aV fun N1 cq cS=>?_
  exact((aY.ge aC.c bB).a [.hl 0 [] []]).ex hZ cq (eC h)
 |cons bg cj ih1=>
  intro i1 bB h;rw[lf]at h;refine aV fun N1 cq cS=>?_
  obtain⟨L7,h22,h⟩:=aH h;have fG:=(((aY.lt aC.c bB).l (bK aC.c 2 (dc bB) rfl)).g (AR h22))
  obtain⟨h23,h⟩|⟨h23,h⟩:=aK h
  ·cases h;exact(fG.b h23).ret hZ
  ·exact((fG.b h23).a [.cn [3,7,8,9] [0]]).ct hZ cS (iS bB hm1) (ih1 (i1+1) (dn bB) h)
theorem wH{aD:aJ}{aa:aC}{r:Int}(h:qY aD aa=some r):Good prog 74 [bX (aD.map aC.c),bw (aC.c aa)] (aB r):=by
 refine gd func74 bZ 19 fun hr Z hZ=>?_
 rw[qY]at h;refine(aY.a [.cn [3,7,8,9] [0]]).lp hZ (Ie hZ (fun h=>?_) (by have:=(gY.sl (hr _ (aE (i:=0) rfl))).1;simpa using this) aD 0 rfl h);cases h;exact aY.ret hZ
def eR(aD:aJ)(aa:aC)(k1:Bool->aJ->Option aJ):aJ->Nat->Bool->aJ->Option aJ
 | [],i1,dX,bn=>(k1 dX bn)
 |bg::cj,i1,dX,bn=>(bif !(dX)then((gm bg aa).bind fun y93=>(bif decide ((y93:Int)>0)then((ew aa).bind fun y96=>(bif room ((bn.map aC.c).length+([[aZ y96.rel,bX (y96.args.map tx)]]).length) 40 then((ew bg).bind fun y99=>(bif room (((bn.map aC.c)++([[aZ y96.rel,bX (y96.args.map tx)]])).length+([[aZ y99.rel,bX (y99.args.map tx)]]).length) 40 then(eR aD aa k1 cj (i1+1) true ((bn++([y96]))++([y99])))else none))else none))else((ew bg).bind fun P0=>(bif room ((bn.map aC.c).length+([[aZ P0.rel,bX (P0.args.map tx)]]).length) 40 then(eR aD aa k1 cj (i1+1) dX (bn++([P0])))else none))))else((ew bg).bind fun Bc=>(bif room ((bn.map aC.c).length+([[aZ Bc.rel,bX (Bc.args.map tx)]]).length) 40 then(eR aD aa k1 cj (i1+1) dX (bn++([Bc])))else none)))
def wJ(aD:aJ)(aa:aC):Option aJ:=(eR aD aa (fun(wV:Bool) (kP:aJ)=>(bif !(wV)then((ew aa).bind fun a04=>(bif room ((kP.map aC.c).length+([[aZ a04.rel,bX (a04.args.map tx)]]).length) 40 then(some (kP++([a04])))else none))else(some kP))) aD 0 false ([]:aJ))
def vz(aD:aJ)(aa:aC)(dX:Bool)(W1:List aT)(dL:Int):St:=⟨[(3,bp 0 0),(5,b9 1),(6,bQ dX),(9,bX (aD.map aC.c)),(10,aB ((aD.map aC.c).length:Int)),(11,aB dL)],[bu (aC.c aa),af 43 2 W1]⟩
theorem KF(hZ:Z.nt=42){aD:aJ}{aa:aC}{r:aJ}{k1:Bool->aJ->Option aJ}(eC:∀(wV:Bool) (kP:aJ),k1 wV kP=some r->Ax Z N f184 (D0 r) [1,1,1,1] ⟨[(3,bp 0 0),(5,b9 1),(6,bQ wV)],[bu (aC.c aa),af 43 2 (kP.map aC.c)]⟩)(hm1:aD.length<=maxLen):∀(rest:aJ) (i1:Nat) (dX:Bool) (bn:aJ),aD.drop i1=rest->eR aD aa k1 rest i1 dX bn=some r->Ar Z N f184 (D0 r) [1,1,1,0,1,0] (rest.length+1) (vz aD aa dX (bn.map aC.c) (i1:Int)):=by
 intro rest
 induction rest with
 |nil=>
  intro i1 dX bn bB h;rw[eR]at h;refine aV fun N1 cq cS=>?_
  exact((aY.ge aC.c bB).a [.hl 0 [3,5,6] [0,1]]).ex hZ cq (eC dX bn h)
 |cons bg cj ih1=>
  intro i1 dX bn bB h;rw[eR]at h;refine aV fun N1 cq cS=>?_
  have jR:=((aY.lt aC.c bB).l (bK aC.c 2 (dc bB) rfl))
  obtain⟨h92,h⟩|⟨h92,h⟩:=aK h
  ·obtain⟨y93,h94,h⟩:=aH h;have k6:=(((jR.r 3 h92).g (tN h94)).r 2 h92)
   obtain⟨h95,h⟩|⟨h95,h⟩:=aK h
   ·obtain⟨y96,h97,h⟩:=aH h;obtain⟨h98,h⟩:=bf h;obtain⟨y99,h100,h⟩:=aH h;obtain⟨h101,h⟩:=bf h;exact((((((k6.b h95).g (iT h97)).w (cA h98)).g (iT h100)).w (cA h101)).a [.cn [3,5,6,9,10,11] [0,8]]).cs hZ cS (vz aD aa true (((bn.map aC.c)++([[aZ y96.rel,bX (y96.args.map tx)]]))++([[aZ y99.rel,bX (y99.args.map tx)]])) (IntKind.i64.wrap ((i1:Int)+1))) (by first| (simp only[iS bB hm1,mA]<;>rfl)| (simp only[iS bB hm1,mA,aC.c,aW.c,aS.c,Action.c,aN.c,aQ.c,ai.c,ah.c,Node.c,aF.c,di.c]<;>rfl)) (ih1 (i1+1) true ((bn++([y96]))++([y99])) (dn bB) h)
   ·obtain⟨P0,h103,h⟩:=aH h;obtain⟨h104,h⟩:=bf h;exact((((k6.b h95).g (iT h103)).w (cA h104)).a [.cn [3,5,6,9,10,11] [0,5]]).cs hZ cS (vz aD aa dX ((bn.map aC.c)++([[aZ P0.rel,bX (P0.args.map tx)]])) (IntKind.i64.wrap ((i1:Int)+1))) (by first| (simp only[iS bB hm1,mA]<;>rfl)| (simp only[iS bB hm1,mA,aC.c,aW.c,aS.c,Action.c,aN.c,aQ.c,ai.c,ah.c,Node.c,aF.c,di.c]<;>rfl)) (ih1 (i1+1) dX (bn++([P0])) (dn bB) h)
  ·obtain⟨Bc,h106,h⟩:=aH h;obtain⟨h107,h⟩:=bf h;exact(((((jR.r 5 h92).F 1).g (iT h106)).w (cA h107)).a [.cn [3,5,6,9,10,11] [0,5]]).cs hZ cS (vz aD aa dX ((bn.map aC.c)++([[aZ Bc.rel,bX (Bc.args.map tx)]])) (IntKind.i64.wrap ((i1:Int)+1))) (by first| (simp only[iS bB hm1,mA]<;>rfl)| (simp only[iS bB hm1,mA,aC.c,aW.c,aS.c,Action.c,aN.c,aQ.c,ai.c,ah.c,Node.c,aF.c,di.c]<;>rfl)) (ih1 (i1+1) dX (bn++([Bc])) (dn bB) h)
theorem Is{aD:aJ}{aa:aC}{r:aJ}(h:wJ aD aa=some r):Good prog 184 [bX (aD.map aC.c),bw (aC.c aa)] (cW 43 2 (r.map aC.c)):=by
 refine gd func184 I9 42 fun hr Z hZ=>?_
 rw[wJ]at h;refine(aY.a [.L5 5,.cn [3,5,6,9,10,11] [0,1]]).lp hZ (KF hZ (fun wV kP h=>?_) (by have:=(gY.sl (hr _ (aE (i:=0) rfl))).1;simpa using this) aD 0 false ([]:aJ) rfl h);obtain⟨h108,h⟩|⟨h108,h⟩:=aK h
 ·obtain⟨a04,h110,h⟩:=aH h;obtain⟨h111,h⟩:=bf h;cases h;exact(((aY.b h108).g (iT h110)).w (cA h111)).rts hZ (cW 43 2 ((kP.map aC.c)++([[aZ a04.rel,bX (a04.args.map tx)]]))) (by first|rfl| (simp only[mA]<;>rfl)| (simp only[cN,mA]<;>rfl))
 ·cases aM h;exact(aY.b h108).ret hZ
def wF(aD:aJ)(aa:aC):Option (aJ×Bool):=((qW aD).bind fun y1=>(bif !(y1)then((cm aD).bind fun y4=>(some (y4,false)))else((rC aa).bind fun y6=>(bif !(y6)then((cm aD).bind fun y9=>(some (y9,false)))else((qY aD aa).bind fun yc=>(bif decide ((yc:Int)>=0)then((cm aD).bind fun Ai=>(some (Ai,false)))else(bif decide ((((aD.map aC.c).length:Int):Int)>=24)then((cm aD).bind fun Ce=>(some (Ce,false)))else((wJ aD aa).bind fun AD=>(some (AD,true))))))))))
theorem BB{aD:aJ}{aa:aC}{r:aJ×Bool}(h:wF aD aa=some r):Good prog 119 [bX (aD.map aC.c),bw (aC.c aa)] (D.iz [cW 43 2 (r.1.map aC.c),bQ r.2]):=by
 refine gd func119 [[some (43,2)],[none]] 30 fun hr Z hZ=>?_
 rw[wF]at h;obtain⟨y1,h2,h⟩:=aH h;obtain⟨h3,h⟩|⟨h3,h⟩:=aK h
 ·obtain⟨y4,h5,h⟩:=aH h;cases h;exact((((aY.g (sX h2)).r 4 h3).T 10).g (cu h5)).ret hZ
 ·obtain⟨y6,h7,h⟩:=aH h;have lC:=((((aY.g (sX h2)).r 2 h3).g (xw h7)).r 2 h3)
  obtain⟨h8,h⟩|⟨h8,h⟩:=aK h
  ·obtain⟨y9,h10,h⟩:=aH h;cases h;exact(((lC.r 5 h8).T 5).g (cu h10)).ret hZ
  ·obtain⟨yc,h12,h⟩:=aH h;have fG:=(((lC.r 3 h8).g (wH h12)).r 2 h8)
   obtain⟨h13,h⟩|⟨h13,h⟩:=aK h
   ·obtain⟨Ai,h15,h⟩:=aH h;cases h;exact(((fG.r 4 h13).T 1).g (cu h15)).ret hZ
   ·have jR:=(fG.r 4 h13)
    obtain⟨h16,h⟩|⟨h16,h⟩:=aK h
    ·obtain⟨Ce,h18,h⟩:=aH h;cases h;exact((jR.b h16).g (cu h18)).ret hZ
    ·obtain⟨AD,h20,h⟩:=aH h;cases h;exact((jR.b h16).g (Is h20)).ret hZ
def fZ(aD:aJ)(aa:aJ)(k1:Option Int):aJ->Nat->Option Int
 | [],i1=>(k1)
 |bg::cj,i1=>(bif decide (((i1:Int):Int)<((aa.map aC.c).length:Int))then((gA aa (i1:Int)).bind fun x34=>((gm bg x34).bind fun Oc=>(bif (Oc:Int) != 0 then(some Oc)else(fZ aD aa k1 cj (i1+1)))))else(k1))
def qK(aD:aJ)(aa:aJ):Option Int:=(fZ aD aa ((jX ((aD.map aC.c).length:Int) ((aa.map aC.c).length:Int)).bind fun FQ=>(some FQ)) aD 0)
def C4(aD:aJ)(aa:aJ)(dL:Int):St:=⟨[(0,bX (aD.map aC.c)),(1,bX (aa.map aC.c)),(5,aB dL)],[]⟩
theorem BT(hZ:Z.nt=36){aD:aJ}{aa:aJ}{r:Int}{k1:Option Int}(eC:k1=some r->Ax Z N f232 (.q bZ (aB r)) [1,1] ⟨[(0,bX (aD.map aC.c)),(1,bX (aa.map aC.c))],[]⟩)(hm1:aD.length<=maxLen):∀(rest:aJ) (i1:Nat),aD.drop i1=rest->fZ aD aa k1 rest i1=some r->Ar Z N f232 (.q bZ (aB r)) [1,0,1,0] (rest.length+1) (C4 aD aa (i1:Int)):=by
 intro rest
 induction rest with
 |nil=>
  intro i1 bB h;rw[fZ]at h;refine aV fun N1 cq cS=>?_
  exact(((((((aY.ge aC.c bB).ge aC.c bB).ge aC.c bB).ge aC.c bB).ge aC.c bB).F 1).a [.hl 0 [0,1] []]).ex hZ cq (eC h)
 |cons bg cj ih1=>
  intro i1 bB h;rw[fZ]at h;refine aV fun N1 cq cS=>?_
  have jR:=(((((aY.lt aC.c bB).lt aC.c bB).lt aC.c bB).lt aC.c bB).lt aC.c bB)
  obtain⟨h33,h⟩|⟨h33,h⟩:=aK h
  ·obtain⟨x34,h35,Oc,h37,h⟩:=bR h;have k6:=(((((jR.b h33).a [.n 8]).l (bK aC.c 2 (dc bB) rfl)).l (dW aC.c 2 h35 rfl)).g (tN h37))
   obtain⟨h38,h⟩|⟨h38,h⟩:=aK h
   ·cases aM h;exact(k6.b h38).ret hZ
   ·exact((k6.b h38).a [.cn [0,1,5] []]).ct hZ cS (iS bB hm1) (ih1 (i1+1) (dn bB) h)
  ·exact((jR.b h33).a [.hl 0 [0,1] []]).ex hZ cq (eC h)
theorem Aw{aD:aJ}{aa:aJ}{r:Int}(h:qK aD aa=some r):Good prog 232 [bX (aD.map aC.c),bX (aa.map aC.c)] (aB r):=by
 refine gd func232 bZ 36 fun hr Z hZ=>?_
 rw[qK]at h;refine(aY.a [.cn [0,1,5] []]).lp hZ (BT hZ (fun h=>?_) (by have:=(gY.sl (hr _ (aE (i:=0) rfl))).1;simpa using this) aD 0 rfl h);obtain⟨FQ,h40,h⟩:=aH h;cases aM h;exact(aY.g (uG h40)).ret hZ
def pU(aD:aQ)(aa:aQ):Option Int:=((qK aD.facts aa.facts).bind fun y1=>(some y1))
theorem Co{aD:aQ}{aa:aQ}{r:Int}(h:pU aD aa=some r):Good prog 220 [bw (aQ.c aD),bw (aQ.c aa)] (aB r):=by
 refine gd func220 bZ 10 fun hr Z hZ=>?_
 rw[pU]at h;obtain⟨y1,h2,h⟩:=aH h;cases aM h;exact(aY.g (Aw h2)).ret hZ
def mB(aD:ar)(aa:aQ)(k1:Option Bool):ar->Nat->Option Bool
 | [],i1=>(k1)
 |bg::cj,i1=>((pU bg aa).bind fun L7=>(bif (L7:Int)==0 then(some true)else(mB aD aa k1 cj (i1+1))))
def vH(aD:ar)(aa:aQ):Option Bool:=(mB aD aa (some false) aD 0)
def KE(aD:ar)(aa:aQ)(dL:Int):St:=⟨[(3,bp 0 0),(7,bX (aD.map aQ.c)),(8,aB ((aD.map aQ.c).length:Int)),(9,aB dL)],[bu (aQ.c aa)]⟩
theorem Ir(hZ:Z.nt=18){aD:ar}{aa:aQ}{r:Bool}{k1:Option Bool}(eC:k1=some r->Ax Z N f185 (.q bZ (bQ r)) [1,1] ⟨[],[]⟩)(hm1:aD.length<=maxLen):∀(rest:ar) (i1:Nat),aD.drop i1=rest->mB aD aa k1 rest i1=some r->Ar Z N f185 (.q bZ (bQ r)) [1,0,1,0] (rest.length+1) (KE aD aa (i1:Int)):=by
 intro rest
 induction rest with
 |nil=>
  intro i1 bB h;rw[mB]at h;refine aV fun N1 cq cS=>?_
  exact((aY.ge aQ.c bB).a [.hl 0 [] []]).ex hZ cq (eC h)
 |cons bg cj ih1=>
  intro i1 bB h;rw[mB]at h;refine aV fun N1 cq cS=>?_
  obtain⟨L7,h22,h⟩:=aH h;have fG:=(((aY.lt aQ.c bB).l (bK aQ.c 2 (dc bB) rfl)).g (Co h22))
  obtain⟨h23,h⟩|⟨h23,h⟩:=aK h
  ·cases aM h;exact(fG.b h23).ret hZ
  ·exact((fG.b h23).a [.cn [3,7,8,9] [0]]).ct hZ cS (iS bB hm1) (ih1 (i1+1) (dn bB) h)
theorem HD{aD:ar}{aa:aQ}{r:Bool}(h:vH aD aa=some r):Good prog 185 [bX (aD.map aQ.c),bw (aQ.c aa)] (bQ r):=by
 refine gd func185 bZ 18 fun hr Z hZ=>?_
 rw[vH]at h;refine(aY.a [.cn [3,7,8,9] [0]]).lp hZ (Ir hZ (fun h=>?_) (by have:=(gY.sl (hr _ (aE (i:=0) rfl))).1;simpa using this) aD 0 rfl h);cases aM h;exact aY.ret hZ
def l7(aD:aF)(cv:aC)(y3:aF×Unit)(oK:Int)(i1:Nat)(bg:Node)(x313:Node)(k2:Int->Int->Option aF):ar->Nat->Int->Int->Option aF
 | [],i2,DG,DH=>(k2 DG DH)
 |jM::tL,i2,DG,DH=>((gA aD.nodes bg.parent).bind fun x359=>((vH x359.tokens jM).bind fun aDb=>(bif aDb then(l7 aD cv y3 oK i1 bg x313 k2 tL (i2+1) (IntKind.i64.wrap (DG+1)) DH)else(l7 aD cv y3 oK i1 bg x313 k2 tL (i2+1) DG (IntKind.i64.wrap (DH+1))))))
def gJ(aD:aF)(cv:aC)(y3:aF×Unit)(k1:Int->Option aF):bN->Nat->Int->Option aF
 | [],i1,oK=>(k1 oK)
 |bg::cj,i1,oK=>(bif ((i1:Int):Int)==0 then(gJ aD cv y3 k1 cj (i1+1) oK)else((gA y3.1.nodes bg.parent).bind fun x313=>(bif decide (x313.tokens.length<=maxLen)then(l7 aD cv y3 oK i1 bg x313 (fun(SP:Int) (Jv:Int)=>(bif decide ((bg.cX:Int)<0)then(gJ aD cv y3 k1 cj (i1+1) (IntKind.i64.wrap (oK+Jv)))else((gA y3.1.bG bg.cX).bind fun x365=>((kE x365.shape cv ([])).bind fun a06=>(bif a06.2 then(gJ aD cv y3 k1 cj (i1+1) (IntKind.i64.wrap ((IntKind.i64.wrap (oK+(IntKind.i64.wrap (Jv*((x365.facts.map aC.c).length:Int)))))+SP)))else(gJ aD cv y3 k1 cj (i1+1) (IntKind.i64.wrap (oK+(IntKind.i64.wrap (Jv*((x365.facts.map aC.c).length:Int))))))))))) x313.tokens 0 0 0)else none)))
def uF(aD:aF)(aa:aJ)(cv:aC):Option aF:=((ia aD).bind fun y1=>((kA y1 aa).bind fun y3=>(bif decide (y3.1.nodes.length<=maxLen)then(gJ aD cv y3 (fun(wT:Int)=>(some (⟨y3.1.rules,y3.1.ends,y3.1.bG,y3.1.nodes,y3.1.facts,wT⟩:aF))) y3.1.nodes 0 y3.1.cP)else none)))
def Lc(aD:aF)(cv:aC)(y3:aF×Unit)(oK:Int)(dL:Int):St:=⟨[(3,bp 0 0),(5,bp 1 0),(6,bp 2 0),(7,bp 3 0),(22,b9 4),(23,aB ((y3.1.nodes.map Node.c).length:Int)),(24,aB dL)],[bu (aF.c aD),bu (aC.c cv),bu [D.nil,D.nil,D.nil,D.nil,D.nil,aB 0],bu [b9 5,b9 6,b9 7,b9 4,b9 8,aB oK],af 74 8 (y3.1.nodes.map Node.c),af 63 4 (y3.1.rules.map aN.c),af 3 1 (y3.1.ends.map jN),af 83 3 (y3.1.bG.map ah.c),af 43 2 (y3.1.facts.map aC.c)]⟩
def Le(aD:aF)(cv:aC)(y3:aF×Unit)(oK:Int)(i1:Nat)(bg:Node)(x313:Node)(DG:Int)(DH:Int)(dL:Int):St:=⟨[(3,bp 0 0),(5,bp 1 0),(6,bp 2 0),(7,bp 3 0),(9,bp 4 0),(10,aB DG),(11,aB DH),(22,b9 5),(23,aB ((y3.1.nodes.map Node.c).length:Int)),(24,aB (i1:Int)),(37,bX (x313.tokens.map aQ.c)),(38,aB ((x313.tokens.map aQ.c).length:Int)),(39,aB dL)],[bu (aF.c aD),bu (aC.c cv),bu [D.nil,D.nil,D.nil,D.nil,D.nil,aB 0],bu [b9 6,b9 7,b9 8,b9 5,b9 9,aB oK],bu [aB bg.parent,aB bg.cond.kind,aZ bg.cond.pat.rel,bX (bg.cond.pat.args.map tx),aZ bg.cond.left,aZ bg.cond.right,aB bg.cX,bX (bg.tokens.map aQ.c)],af 74 8 (y3.1.nodes.map Node.c),af 63 4 (y3.1.rules.map aN.c),af 3 1 (y3.1.ends.map jN),af 83 3 (y3.1.bG.map ah.c),af 43 2 (y3.1.facts.map aC.c)]⟩
theorem K9(hZ:Z.nt=95){aD:aF}{cv:aC}{y3:aF×Unit}{oK:Int}{i1:Nat}{bg:Node}{x313:Node}{r:aF}{k2:Int->Int->Option aF}(zc:∀(SP:Int) (Jv:Int),k2 SP Jv=some r->Ax Z N f120 (vq r) [1,1,1,0,1,0,0,1,1,0,0,1,1,1,1] ⟨[(3,bp 0 0),(5,bp 1 0),(6,bp 2 0),(7,bp 3 0),(9,bp 4 0),(10,aB SP),(11,aB Jv),(22,b9 5),(23,aB ((y3.1.nodes.map Node.c).length:Int)),(24,aB (i1:Int))],[bu (aF.c aD),bu (aC.c cv),bu [D.nil,D.nil,D.nil,D.nil,D.nil,aB 0],bu [b9 6,b9 7,b9 8,b9 5,b9 9,aB oK],bu [aB bg.parent,aB bg.cond.kind,aZ bg.cond.pat.rel,bX (bg.cond.pat.args.map tx),aZ bg.cond.left,aZ bg.cond.right,aB bg.cX,bX (bg.tokens.map aQ.c)],af 74 8 (y3.1.nodes.map Node.c),af 63 4 (y3.1.rules.map aN.c),af 3 1 (y3.1.ends.map jN),af 83 3 (y3.1.bG.map ah.c),af 43 2 (y3.1.facts.map aC.c)]⟩)(hm2:x313.tokens.length<=maxLen):∀(rest:ar) (i2:Nat) (DG:Int) (DH:Int),x313.tokens.drop i2=rest->l7 aD cv y3 oK i1 bg x313 k2 rest i2 DG DH=some r->Ar Z N f120 (vq r) [1,1,1,0,1,0,0,1,1,0,0,1,1,1,0,1,0] (rest.length+1) (Le aD cv y3 oK i1 bg x313 DG DH (i2:Int)):=by
 intro rest
 induction rest with
 |nil=>
  intro i2 DG DH hd2 h;rw[l7]at h;refine aV fun N2 uY qt=>?_
  exact((aY.ge aQ.c hd2).a [.hl 5 [3,5,6,7,9,10,11,22,23,24] [0,1,2,3,4,5,6,7,8,9]]).ex hZ uY (zc DG DH h)
 |cons jM tL ih2=>
  intro i2 DG DH hd2 h;rw[l7]at h;refine aV fun N2 uY qt=>?_
  obtain⟨x359,h360,aDb,h362,h⟩:=bR h;have Mc:=(((((aY.lt aQ.c hd2).l (bK aQ.c 2 (dc hd2) rfl)).a [.n 8]).l (dW Node.c 8 h360 rfl)).g (HD h362))
  obtain⟨h363,h⟩|⟨h363,h⟩:=aK h
  ·exact((Mc.b h363).a [.cn [3,5,6,7,9,10,11,22,23,24,37,38,39] [0,1,2,3,4,5,6,7,8,9]]).ct hZ qt (iS hd2 hm2) (ih2 (i2+1) (IntKind.i64.wrap (DG+1)) DH (dn hd2) h)
  ·exact((Mc.b h363).a [.cn [3,5,6,7,9,10,11,22,23,24,37,38,39] [0,1,2,3,4,5,6,7,8,9]]).ct hZ qt (iS hd2 hm2) (ih2 (i2+1) DG (IntKind.i64.wrap (DH+1)) (dn hd2) h)
theorem K8(hZ:Z.nt=95){aD:aF}{cv:aC}{y3:aF×Unit}{r:aF}{k1:Int->Option aF}(eC:∀(wT:Int),k1 wT=some r->Ax Z N f120 (vq r) [1,1,1,1] ⟨[(6,bp 0 0),(7,bp 1 0)],[bu [D.nil,D.nil,D.nil,D.nil,D.nil,aB 0],bu [b9 2,b9 3,b9 4,b9 5,b9 6,aB wT],af 63 4 (y3.1.rules.map aN.c),af 3 1 (y3.1.ends.map jN),af 83 3 (y3.1.bG.map ah.c),af 74 8 (y3.1.nodes.map Node.c),af 43 2 (y3.1.facts.map aC.c)]⟩)(hm1:y3.1.nodes.length<=maxLen):∀(rest:bN) (i1:Nat) (oK:Int),y3.1.nodes.drop i1=rest->gJ aD cv y3 k1 rest i1 oK=some r->Ar Z N f120 (vq r) [1,1,1,0,1,0] (rest.length+1) (Lc aD cv y3 oK (i1:Int)):=by
 intro rest
 induction rest with
 |nil=>
  intro i1 oK bB h;rw[gJ]at h;refine aV fun N1 cq cS=>?_
  exact((aY.ge Node.c bB).a [.hl 0 [6,7] [2,3,5,6,7,4,8]]).ex hZ cq (eC oK h)
 |cons bg cj ih1=>
  intro i1 oK bB h;rw[gJ]at h;refine aV fun N1 cq cS=>?_
  have V7:=(((aY.lt Node.c bB).i (fH Node.c 8 (dc bB))).o 8 8 .uq (cL Node.c (dc bB)))
  obtain⟨h312,h⟩|⟨h312,h⟩:=aK h
  ·exact((V7.b h312).a [.cn [3,5,6,7,22,23,24] [0,1,2,3,4,5,6,7,8]]).ct hZ cS (iS bB hm1) (ih1 (i1+1) oK (dn bB) h)
  ·obtain⟨x313,h314,h⟩:=aH h;obtain⟨h370,h⟩:=bf h;refine((((V7.b h312).i (fI Node.c 8 h314)).o 8 8 .uq (cL Node.c (dw h314))).a [.cn [3,5,6,7,9,10,11,22,23,24,37,38,39] [0,1,2,3,9,4,5,6,7,8]]).lp hZ (K9 hZ (fun SP Jv h=>?_) (bh h370) x313.tokens 0 0 0 rfl h);obtain⟨h364,h⟩|⟨h364,h⟩:=aK h
   ·exact((aY.b h364).a [.cn [3,5,6,7,22,23,24] [0,1,2,3,5,6,7,8,9]]).ct hZ cS (iS bB hm1) (ih1 (i1+1) (IntKind.i64.wrap (oK+Jv)) (dn bB) h)
   ·obtain⟨x365,h366,a06,h368,h⟩:=bR h;have V8:=(((((aY.b h364).i (fI ah.c 3 h366)).o 3 3 .uq (cL ah.c (dw h366))).a [.d (D.iz [cW 113 2 (a06.1.map aW.c),bQ a06.2])]).w (show Good prog 186 [bw (aC.c x365.shape),bw (aC.c cv),bX ([])] (D.iz [cW 113 2 (a06.1.map aW.c),bQ a06.2])from by first| (simpa only[bI,bA,cF,cD,cI]using s7 h368)|exact s7 h368))
    obtain⟨h369,h⟩|⟨h369,h⟩:=aK h
    ·exact((V8.b h369).a [.cn [3,5,6,7,22,23,24] [0,1,2,3,5,6,7,8,9]]).ct hZ cS (iS bB hm1) (ih1 (i1+1) (IntKind.i64.wrap ((IntKind.i64.wrap (oK+(IntKind.i64.wrap (Jv*((x365.facts.map aC.c).length:Int)))))+SP)) (dn bB) h)
    ·exact((V8.b h369).a [.cn [3,5,6,7,22,23,24] [0,1,2,3,5,6,7,8,9]]).ct hZ cS (iS bB hm1) (ih1 (i1+1) (IntKind.i64.wrap (oK+(IntKind.i64.wrap (Jv*((x365.facts.map aC.c).length:Int))))) (dn bB) h)
theorem BE{aD:aF}{aa:aJ}{cv:aC}{r:aF}(h:uF aD aa cv=some r):Good prog 120 [bw (aF.c aD),bX (aa.map aC.c),bw (aC.c cv)] (bw [cW 63 4 (r.rules.map aN.c),cW 3 1 (r.ends.map jN),cW 83 3 (r.bG.map ah.c),cW 74 8 (r.nodes.map Node.c),cW 43 2 (r.facts.map aC.c),aB r.cP]):=by
 refine gd func120 zn 95 fun hr Z hZ=>?_
 rw[uF]at h;obtain⟨y1,h2,y3,h4,h⟩:=bR h;obtain⟨h371,h⟩:=bf h;refine(((aY.g (mX h2)).hp sJ (vu h4)).a [.cn [3,5,6,7,22,23,24] [0,1,2,8,12,9,10,11,13]]).lp hZ (K8 hZ (fun wT h=>?_) (bh h371) y3.1.nodes 0 y3.1.cP rfl h);cases h;exact aY.ret hZ
def F0(aD:aF)(aa:aC):Option (aF×Bool):=((wF aD.facts aa).bind fun y1=>(bif !(y1.2)then((ia aD).bind fun y4=>(some (y4,false)))else((uF aD y1.1 aa).bind fun y6=>(some (y6,true)))))
theorem Og{aD:aF}{aa:aC}{r:aF×Bool}(h:F0 aD aa=some r):Good prog 62 [bw (aF.c aD),bw (aC.c aa)] (D.iz [bw [cW 63 4 (r.1.rules.map aN.c),cW 3 1 (r.1.ends.map jN),cW 83 3 (r.1.bG.map ah.c),cW 74 8 (r.1.nodes.map Node.c),cW 43 2 (r.1.facts.map aC.c),aB r.1.cP],bQ r.2]):=by
 refine gd func62 sJ 23 fun hr Z hZ=>?_
 rw[F0]at h;obtain⟨y1,h2,h⟩:=aH h;obtain⟨h3,h⟩|⟨h3,h⟩:=aK h
 ·obtain⟨y4,h5,h⟩:=aH h;cases h;exact(((aY.g (BB h2)).b h3).g (mX h5)).ret hZ
 ·obtain⟨y6,h7,h⟩:=aH h;cases h;exact(((aY.g (BB h2)).b h3).g (BE h7)).ret hZ
def ql(aD:aF)(aa:aC):Option (aF×Bool):=((oW aD).bind fun y1=>(bif !(y1)then((ia aD).bind fun y4=>(some (y4,false)))else((F0 aD aa).bind fun y6=>(some (y6.1,y6.2)))))
theorem DQ{aD:aF}{aa:aC}{r:aF×Bool}(h:ql aD aa=some r):Good prog 21 [bw (aF.c aD),bw (aC.c aa)] (D.iz [bw [cW 63 4 (r.1.rules.map aN.c),cW 3 1 (r.1.ends.map jN),cW 83 3 (r.1.bG.map ah.c),cW 74 8 (r.1.nodes.map Node.c),cW 43 2 (r.1.facts.map aC.c),aB r.1.cP],bQ r.2]):=by
 refine gd func21 sJ 16 fun hr Z hZ=>?_
 rw[ql]at h;obtain⟨y1,h2,h⟩:=aH h;obtain⟨h3,h⟩|⟨h3,h⟩:=aK h
 ·obtain⟨y4,h5,h⟩:=aH h;cases h;exact(((aY.g (rz h2)).b h3).g (mX h5)).ret hZ
 ·obtain⟨y6,h7,h⟩:=aH h;cases h;exact(((aY.g (rz h2)).b h3).g (Og h7)).ret hZ
variable{Z:wW}{N:Nat->St->Prop}
def xd(aD:ck):Option (ck×(aF×aC)):=((vW aD).bind fun y1=>((eb y1.1 10).bind fun y3=>(bif y3.2 then((zF y3.1).bind fun y6=>(bif decide ((((y6.2.facts.map aC.c).length:Int):Int)>0)then((eb y6.1 2).bind fun y9=>(bif y9.2 then((cg y9.1 ((y6.2.facts.map aC.c).length:Int)).bind fun P3=>((gA y6.2.facts P3.2).bind fun x20=>((eF x20).bind fun rV=>(some (P3.1,(y6.2,rV))))))else((eb y9.1 8).bind fun EY=>(bif EY.2 then((lV EY.1).bind fun Dm=>(some (Dm.1,(y6.2,Dm.2))))else((fP EY.1).bind fun uf=>(some (uf.1,(y6.2,uf.2))))))))else((eb y6.1 8).bind fun Fk=>(bif Fk.2 then((lV Fk.1).bind fun XD=>(some (XD.1,(y6.2,XD.2))))else((fP Fk.1).bind fun y44=>(some (y44.1,(y6.2,y44.2))))))))else(bif decide ((((y1.2.facts.map aC.c).length:Int):Int)>0)then((eb y3.1 2).bind fun y47=>(bif y47.2 then((cg y47.1 ((y1.2.facts.map aC.c).length:Int)).bind fun y56=>((gA y1.2.facts y56.2).bind fun x58=>((eF x58).bind fun P5=>(some (y56.1,(y1.2,P5))))))else((eb y47.1 8).bind fun y62=>(bif y62.2 then((lV y62.1).bind fun Vc=>(some (Vc.1,(y1.2,Vc.2))))else((fP y62.1).bind fun y71=>(some (y71.1,(y1.2,y71.2))))))))else((eb y3.1 8).bind fun Ci=>(bif Ci.2 then((lV Ci.1).bind fun y78=>(some (y78.1,(y1.2,y78.2))))else((fP Ci.1).bind fun y82=>(some (y82.1,(y1.2,y82.2))))))))))
theorem Kh{aD:ck}{r:ck×(aF×aC)}(h:xd aD=some r):j0 prog 60 (ck.c aD) (ck.c r.1) [] (D.iz [bw [bX (r.2.1.rules.map aN.c),cW 3 1 (r.2.1.ends.map jN),cW 83 3 (r.2.1.bG.map ah.c),cW 74 8 (r.2.1.nodes.map Node.c),cW 43 2 (r.2.1.facts.map aC.c),aB r.2.1.cP],bw [aZ r.2.2.rel,cW 9 1 (r.2.2.args.map tx)]]):=by
 refine L4 func60 [[none,none,none],[none,some (3,1),some (83,3),some (74,8),some (43,2),none],[none,some (9,1)]] 38 [bX (aD.b.map yx),aB aD.i,aB aD.h] [] [] fun hr jC Z hZ=>?_
 rw[xd]at h;obtain⟨y1,h2,y3,h4,h⟩:=bR h;have lC:=((aY.hp jL (CK h2)).hp iy (eT h4))
 obtain⟨h5,h⟩|⟨h5,h⟩:=aK h
 ·obtain⟨y6,h7,h⟩:=aH h;have fG:=((lC.b h5).hp jL (M6 h7))
  obtain⟨h8,h⟩|⟨h8,h⟩:=aK h
  ·obtain⟨y9,h10,h⟩:=aH h;have jR:=(((fG.r 2 h8).hp iy (eT h10)).b h8)
   obtain⟨h11,h⟩|⟨h11,h⟩:=aK h
   ·obtain⟨P3,h19,x20,h21,rV,h23,h⟩:=gX h;cases h;exact((((((jR.b h11).a [.n2 [0,1,2,3,4,5,6,7,8,9,10,11,12] [0,1,2,3,4,5,6,7,8,9,10,11,12] 7 11 [0,1,2] [0]]).hp iy (cQ h19)).i (fI aC.c 2 h21)).o 2 2 .uq (cL aC.c (dw h21))).g (fA h23)).ret hZ
   ·obtain⟨EY,h25,h⟩:=aH h;have k6:=((jR.b h11).hp iy (eT h25))
    obtain⟨h26,h⟩|⟨h26,h⟩:=aK h
    ·obtain⟨Dm,h30,h⟩:=aH h;cases h;exact(((k6.b h26).a [.n2 [0,1,2,3,4] [0,1,2,3,4] 2 3 [0] [0]]).hp jL (sx h30)).ret hZ
    ·obtain⟨uf,h34,h⟩:=aH h;cases h;exact(((k6.b h26).a [.n2 [0,1,2,3,4] [0,1,2,3,4] 2 3 [0] [0]]).hp jL (oy h34)).ret hZ
  ·obtain⟨Fk,h36,h⟩:=aH h;have ud:=(((fG.r 3 h8).F 1).hp iy (eT h36))
   obtain⟨h37,h⟩|⟨h37,h⟩:=aK h
   ·obtain⟨XD,h41,h⟩:=aH h;cases h;exact(((ud.b h37).a [.n2 [0,1,2,3,4] [0,1,2,3,4] 2 3 [0] [0]]).hp jL (sx h41)).ret hZ
   ·obtain⟨y44,h45,h⟩:=aH h;cases h;exact(((ud.b h37).a [.n2 [0,1,2,3,4] [0,1,2,3,4] 2 3 [0] [0]]).hp jL (oy h45)).ret hZ
 ·obtain⟨h46,h⟩|⟨h46,h⟩:=aK h
  ·obtain⟨y47,h48,h⟩:=aH h;have xg:=((((lC.b h5).r 2 h46).hp iy (eT h48)).b h46)
   obtain⟨h49,h⟩|⟨h49,h⟩:=aK h
   ·obtain⟨y56,h57,x58,h59,P5,h61,h⟩:=gX h;cases h;exact(((((((xg.b h49).a [.n2 [0,1,2,3,4,5,6,7,8,9,10,11,12] [0,1,2,3,4,5,6,7,8,9,10,11,12] 7 11 [0,1,2] [0]]).hp iy (cQ h57)).i (fI aC.c 2 h59)).o 2 2 .uq (cL aC.c (dw h59))).g (fA h61)).a [.sk 3]).ret hZ
   ·obtain⟨y62,h63,h⟩:=aH h;have Ak:=((xg.b h49).hp iy (eT h63))
    obtain⟨h64,h⟩|⟨h64,h⟩:=aK h
    ·obtain⟨Vc,h68,h⟩:=aH h;cases h;exact((((Ak.b h64).a [.n2 [0,1,2,3,4] [0,1,2,3,4] 2 3 [0] [0]]).hp jL (sx h68)).a [.sk 3]).ret hZ
    ·obtain⟨y71,h72,h⟩:=aH h;cases h;exact((((Ak.b h64).a [.n2 [0,1,2,3,4] [0,1,2,3,4] 2 3 [0] [0]]).hp jL (oy h72)).a [.sk 3]).ret hZ
  ·obtain⟨Ci,h74,h⟩:=aH h;have Fc:=((((lC.b h5).r 3 h46).F 1).hp iy (eT h74))
   obtain⟨h75,h⟩|⟨h75,h⟩:=aK h
   ·obtain⟨y78,h79,h⟩:=aH h;cases h;exact((((Fc.b h75).a [.n2 [0,1,2,3,4] [0,1,2,3,4] 2 3 [0] [0]]).hp jL (sx h79)).a [.sk 3]).ret hZ
   ·obtain⟨y82,h83,h⟩:=aH h;cases h;exact((((Fc.b h75).a [.n2 [0,1,2,3,4] [0,1,2,3,4] 2 3 [0] [0]]).hp jL (oy h83)).a [.sk 3]).ret hZ
def mG(aD:aJ)(aa:aC)(k1:Option Int):aJ->Nat->Option Int
 | [],i1=>(k1)
 |bg::cj,i1=>((rG bg aa).bind fun L7=>(bif L7 then(some (i1:Int))else(mG aD aa k1 cj (i1+1))))
def qd(aD:aJ)(aa:aC):Option Int:=(mG aD aa (some (-1)) aD 0)
def KL(aD:aJ)(aa:aC)(dL:Int):St:=⟨[(0,bX (aD.map aC.c)),(3,bp 0 0),(5,aB dL)],[bu (aC.c aa)]⟩
theorem JC(hZ:Z.nt=19){aD:aJ}{aa:aC}{r:Int}{k1:Option Int}(eC:k1=some r->Ax Z N f66 (.q bZ (aB r)) [1,1] ⟨[],[]⟩)(hm1:aD.length<=maxLen):∀(rest:aJ) (i1:Nat),aD.drop i1=rest->mG aD aa k1 rest i1=some r->Ar Z N f66 (.q bZ (aB r)) [1,0,1,0] (rest.length+1) (KL aD aa (i1:Int)):=by
 intro rest
 induction rest with
 |nil=>
  intro i1 bB h;rw[mG]at h;refine aV fun N1 cq cS=>?_
  exact((aY.ge aC.c bB).a [.hl 0 [] []]).ex hZ cq (eC h)
 |cons bg cj ih1=>
  intro i1 bB h;rw[mG]at h;refine aV fun N1 cq cS=>?_
  obtain⟨L7,h22,h⟩:=aH h;have fG:=((((aY.lt aC.c bB).a [.n 5]).l (bK aC.c 2 (dc bB) rfl)).g (yB h22))
  obtain⟨h23,h⟩|⟨h23,h⟩:=aK h
  ·cases h;exact(fG.b h23).ret hZ
  ·exact((fG.b h23).a [.cn [0,3,5] [0]]).ct hZ cS (iS bB hm1) (ih1 (i1+1) (dn bB) h)
theorem wL{aD:aJ}{aa:aC}{r:Int}(h:qd aD aa=some r):Good prog 66 [bX (aD.map aC.c),bw (aC.c aa)] (aB r):=by
 refine gd func66 bZ 19 fun hr Z hZ=>?_
 rw[qd]at h;refine(aY.a [.cn [0,3,5] [0]]).lp hZ (JC hZ (fun h=>?_) (by have:=(gY.sl (hr _ (aE (i:=0) rfl))).1;simpa using this) aD 0 rfl h);cases h;exact aY.ret hZ
def wK(aD:aJ)(aa:aC):Option (aJ×Bool):=((qc aD).bind fun y1=>(bif !(y1)then((dO aD).bind fun y4=>(some (y4,false)))else((rE aa).bind fun y6=>(bif !(y6)then((dO aD).bind fun y9=>(some (y9,false)))else((qd aD aa).bind fun yc=>(bif decide ((yc:Int)>=0)then((dO aD).bind fun Ai=>(some (Ai,false)))else(bif (((aD.map aC.c).length:Int):Int)==24 then((dO aD).bind fun Ce=>(some (Ce,false)))else((lW aD aa).bind fun AD=>(some (AD,true))))))))))
theorem J7{aD:aJ}{aa:aC}{r:aJ×Bool}(h:wK aD aa=some r):Good prog 23 [bX (aD.map aC.c),bw (aC.c aa)] (D.iz [cW 43 2 (r.1.map aC.c),bQ r.2]):=by
 refine gd func23 [[some (43,2)],[none]] 30 fun hr Z hZ=>?_
 rw[wK]at h;obtain⟨y1,h2,h⟩:=aH h;obtain⟨h3,h⟩|⟨h3,h⟩:=aK h
 ·obtain⟨y4,h5,h⟩:=aH h;cases h;exact((((aY.g (pW h2)).r 4 h3).T 10).g (dl h5)).ret hZ
 ·obtain⟨y6,h7,h⟩:=aH h;have lC:=((((aY.g (pW h2)).r 2 h3).g (xz h7)).r 2 h3)
  obtain⟨h8,h⟩|⟨h8,h⟩:=aK h
  ·obtain⟨y9,h10,h⟩:=aH h;cases h;exact(((lC.r 5 h8).T 5).g (dl h10)).ret hZ
  ·obtain⟨yc,h12,h⟩:=aH h;have fG:=(((lC.r 3 h8).g (wL h12)).r 2 h8)
   obtain⟨h13,h⟩|⟨h13,h⟩:=aK h
   ·obtain⟨Ai,h15,h⟩:=aH h;cases h;exact(((fG.r 4 h13).T 1).g (dl h15)).ret hZ
   ·have jR:=(fG.r 4 h13)
    obtain⟨h16,h⟩|⟨h16,h⟩:=aK h
    ·obtain⟨Ce,h18,h⟩:=aH h;cases h;exact((jR.b h16).g (dl h18)).ret hZ
    ·obtain⟨AD,h20,h⟩:=aH h;cases h;exact((jR.b h16).g (sy h20)).ret hZ
def xY(aD:bM):Option bM:=(bif room (([]:List aT).length+(aD.map jN).length) 8 then(some (([]:bM)++aD))else none)
theorem KV{aD:bM}{r:bM}(h:xY aD=some r):Good prog 121 [bX (aD.map jN)] (cW 3 1 (r.map jN)):=by
 refine gd func121 [[some (3,1)]] 6 fun hr Z hZ=>?_
 rw[xY]at h;obtain⟨h1,h⟩:=bf h;cases h;exact(((aY.w (cA h1)).w (show(∀r∈(aD.map jN),r.length=1)/\(true=true->D.jr (aD.map jN)=true)from⟨by first|simp| (intro r hr;obtain⟨x,_,rfl⟩:=cJ.1 (cO (fN hr));rfl),by simp[D.jr,D.flat]⟩)).a [.L5 2,.fl true]).rts hZ (cW 3 1 (([]:List aT)++(aD.map jN))) (by first|rfl| (simp only[mA]<;>rfl)| (simp only[cN,mA]<;>rfl))
def kL(aD:ar)(k1:ar->Option ar):ar->Nat->ar->Option ar
 | [],i1,bY=>(k1 bY)
 |bg::cj,i1,bY=>((tW bg).bind fun qB=>(bif room ((bY.map aQ.c).length+([[bX (qB.facts.map aC.c),bX (qB.bind.map aW.c)]]).length) 48 then(kL aD k1 cj (i1+1) (bY++([qB])))else none))
def kw(aD:ar):Option ar:=(kL aD (fun(cM:ar)=>(some cM)) aD 0 ([]:ar))
def zG(aD:ar)(W0:List aT)(dL:Int):St:=⟨[(0,bX (aD.map aQ.c)),(3,b9 0),(4,aB dL)],[af 77 2 W0]⟩
theorem ED(hZ:Z.nt=21){aD:ar}{r:ar}{k1:ar->Option ar}(eC:∀(cM:ar),k1 cM=some r->Ax Z N f123 (B8 r) [1,1,1] ⟨[(3,b9 0)],[af 77 2 (cM.map aQ.c)]⟩)(hm1:aD.length<=maxLen):∀(rest:ar) (i1:Nat) (bY:ar),aD.drop i1=rest->kL aD k1 rest i1 bY=some r->Ar Z N f123 (B8 r) [1,1,0,1,0] (rest.length+1) (zG aD (bY.map aQ.c) (i1:Int)):=by
 intro rest
 induction rest with
 |nil=>
  intro i1 bY bB h;rw[kL]at h;refine aV fun N1 cq cS=>?_
  exact((aY.ge aQ.c bB).a [.hl 0 [3] [0]]).ex hZ cq (eC bY h)
 |cons bg cj ih1=>
  intro i1 bY bB h;rw[kL]at h;refine aV fun N1 cq cS=>?_
  obtain⟨qB,h28,h⟩:=aH h;obtain⟨h29,h⟩:=bf h;exact(((((aY.lt aQ.c bB).l (bK aQ.c 2 (dc bB) rfl)).g (CI h28)).w (cA h29)).a [.cn [0,3,4] [4]]).cs hZ cS (zG aD ((bY.map aQ.c)++([[bX (qB.facts.map aC.c),bX (qB.bind.map aW.c)]])) (IntKind.i64.wrap ((i1:Int)+1))) (by first| (simp only[iS bB hm1,mA]<;>rfl)| (simp only[iS bB hm1,mA,aC.c,aW.c,aS.c,Action.c,aN.c,aQ.c,ai.c,ah.c,Node.c,aF.c,di.c]<;>rfl)) (ih1 (i1+1) (bY++([qB])) (dn bB) h)
theorem DX{aD:ar}{r:ar}(h:kw aD=some r):Good prog 123 [bX (aD.map aQ.c)] (cW 77 2 (r.map aQ.c)):=by
 refine gd func123 [[some (77,2)]] 21 fun hr Z hZ=>?_
 rw[kw]at h;refine(aY.a [.cn [0,3,4] [0]]).lp hZ (ED hZ (fun cM h=>?_) (by have:=(gY.sl (hr _ (aE (i:=0) rfl))).1;simpa using this) aD 0 ([]:ar) rfl h);cases aM h;exact aY.ret hZ
def pG(aD:aF)(y1:az)(y3:bM)(y5:aJ)(k1:bP->Option aF):bP->Nat->bP->Option aF
 | [],i1,nG=>(k1 nG)
 |bg::cj,i1,nG=>((fQ bg.shape).bind fun Ci=>((dO bg.facts).bind fun y75=>(bif room ((nG.map ah.c).length+([[aZ Ci.rel,bX (Ci.args.map tx),bX (y75.map aC.c)]]).length) 64 then(pG aD y1 y3 y5 k1 cj (i1+1) (nG++([(⟨Ci,y75⟩:ah)])))else none)))
def pH(aD:aF)(y1:az)(y3:bM)(y5:aJ)(lX:bP)(k2:bN->Option aF):bN->Nat->bN->Option aF
 | [],i2,kR=>(k2 kR)
 |jM::tL,i2,kR=>((lP jM.cond).bind fun Dh=>((kw jM.tokens).bind fun a3f=>(bif room ((kR.map Node.c).length+([[aB jM.parent,aB Dh.kind,aZ Dh.pat.rel,bX (Dh.pat.args.map tx),aZ Dh.left,aZ Dh.right,aB jM.cX,bX (a3f.map aQ.c)]]).length) 120 then(pH aD y1 y3 y5 lX k2 tL (i2+1) (kR++([(⟨jM.parent,Dh,jM.cX,a3f⟩:Node)])))else none)))
def pQ(aD:aF):Option aF:=((sP aD.rules).bind fun y1=>((xY aD.ends).bind fun y3=>((dO aD.facts).bind fun y5=>(pG aD y1 y3 y5 (fun(lX:bP)=>(pH aD y1 y3 y5 lX (fun(nB:bN)=>(some (⟨y1,y3,lX,nB,y5,aD.cP⟩:aF))) aD.nodes 0 ([]:bN))) aD.bG 0 ([]:bP)))))
def EE(aD:aF)(y1:az)(y3:bM)(y5:aJ)(W0:List aT)(dL:Int):St:=⟨[(1,bp 0 0),(2,bp 1 0),(3,bp 2 0),(4,aB dL)],[bu (aF.c aD),bu [D.nil,D.nil,D.nil,D.nil,D.nil,aB 0],bu [b9 3,b9 4,b9 5,D.nil,b9 6,aB aD.cP],af 63 4 (y1.map aN.c),af 3 1 (y3.map jN),af 83 3 W0,af 43 2 (y5.map aC.c)]⟩
theorem M9(hZ:Z.nt=75){aD:aF}{y1:az}{y3:bM}{y5:aJ}{r:aF}{k1:bP->Option aF}(eC:∀(lX:bP),k1 lX=some r->Ax Z N f63 (vq r) [1,1,1] ⟨[(1,bp 0 0),(2,bp 1 0),(3,bp 2 0)],[bu (aF.c aD),bu [D.nil,D.nil,D.nil,D.nil,D.nil,aB 0],bu [b9 3,b9 4,b9 5,D.nil,b9 6,aB aD.cP],af 63 4 (y1.map aN.c),af 3 1 (y3.map jN),af 83 3 (lX.map ah.c),af 43 2 (y5.map aC.c)]⟩)(hm1:aD.bG.length<=maxLen):∀(rest:bP) (i1:Nat) (nG:bP),aD.bG.drop i1=rest->pG aD y1 y3 y5 k1 rest i1 nG=some r->Ar Z N f63 (vq r) [1,1,0,1,0] (rest.length+1) (EE aD y1 y3 y5 (nG.map ah.c) (i1:Int)):=by
 intro rest
 induction rest with
 |nil=>
  intro i1 nG bB h;rw[pG]at h;refine aV fun N1 cq cS=>?_
  exact((aY.ge ah.c bB).a [.hl 0 [1,2,3] [0,1,2,3,4,5,6]]).ex hZ cq (eC nG h)
 |cons bg cj ih1=>
  intro i1 nG bB h;rw[pG]at h;refine aV fun N1 cq cS=>?_
  obtain⟨Ci,h74,y75,h76,h⟩:=bR h;obtain⟨h77,h⟩:=bf h;exact((((((((aY.lt ah.c bB).a [.n2 [0,1,2,3,4,5,6,7,8,9,10,11,12,13,14,15,16,17,18,19,20] [0,1,2,3,4,5,6,7,8,9,10,11,12,13,14,15,16,17,18,19,20] 17 18 [0,1] [7,8]]).l (bK ah.c 3 (dc bB) rfl)).g (xC h74)).l (bK ah.c 3 (dc bB) rfl)).g (dl h76)).w (cA h77)).a [.cn [1,2,3,4] [0,1,2,3,4,10,6]]).cs hZ cS (EE aD y1 y3 y5 ((nG.map ah.c)++([[aZ Ci.rel,bX (Ci.args.map tx),bX (y75.map aC.c)]])) (IntKind.i64.wrap ((i1:Int)+1))) (by first| (simp only[iS bB hm1,mA]<;>rfl)| (simp only[iS bB hm1,mA,aC.c,aW.c,aS.c,Action.c,aN.c,aQ.c,ai.c,ah.c,Node.c,aF.c,di.c]<;>rfl)) (ih1 (i1+1) (nG++([(⟨Ci,y75⟩:ah)])) (dn bB) h)
def EF(aD:aF)(y1:az)(y3:bM)(y5:aJ)(lX:bP)(W0:List aT)(dL:Int):St:=⟨[(1,bp 0 0),(2,bp 1 0),(3,bp 2 0),(5,aB dL)],[bu (aF.c aD),bu [D.nil,D.nil,D.nil,D.nil,D.nil,aB 0],bu [b9 3,b9 4,b9 5,b9 6,b9 7,aB aD.cP],af 63 4 (y1.map aN.c),af 3 1 (y3.map jN),af 83 3 (lX.map ah.c),af 74 8 W0,af 43 2 (y5.map aC.c)]⟩
theorem MA(hZ:Z.nt=75){aD:aF}{y1:az}{y3:bM}{y5:aJ}{lX:bP}{r:aF}{k2:bN->Option aF}(zc:∀(nB:bN),k2 nB=some r->Ax Z N f63 (vq r) [1,1,1,1] ⟨[(2,bp 0 0),(3,bp 1 0)],[bu [D.nil,D.nil,D.nil,D.nil,D.nil,aB 0],bu [b9 2,b9 3,b9 4,b9 5,b9 6,aB aD.cP],af 63 4 (y1.map aN.c),af 3 1 (y3.map jN),af 83 3 (lX.map ah.c),af 74 8 (nB.map Node.c),af 43 2 (y5.map aC.c)]⟩)(hm2:aD.nodes.length<=maxLen):∀(rest:bN) (i2:Nat) (kR:bN),aD.nodes.drop i2=rest->pH aD y1 y3 y5 lX k2 rest i2 kR=some r->Ar Z N f63 (vq r) [1,1,1,0,1,0] (rest.length+1) (EF aD y1 y3 y5 lX (kR.map Node.c) (i2:Int)):=by
 intro rest
 induction rest with
 |nil=>
  intro i2 kR hd2 h;rw[pH]at h;refine aV fun N2 uY qt=>?_
  exact((aY.ge Node.c hd2).a [.hl 0 [2,3] [1,2,3,4,5,6,7]]).ex hZ uY (zc kR h)
 |cons jM tL ih2=>
  intro i2 kR hd2 h;rw[pH]at h;refine aV fun N2 uY qt=>?_
  obtain⟨Dh,h139,a3f,h141,h⟩:=bR h;obtain⟨h142,h⟩:=bf h;exact(((((((aY.lt Node.c hd2).l (bK Node.c 8 (dc hd2) rfl)).a [.n2 [0,1,2,3,4,5,6,7,8,9,10,11,12,13,14,15,16] [0,1,2,3,4,5,6,7,8,9,10,11,12,13,14,15,16] 13 14 [0,1] [9,10]]).g (rZ h139)).g (DX h141)).w (cA h142)).a [.cn [1,2,3,5] [0,1,2,3,4,5,12,7]]).cs hZ qt (EF aD y1 y3 y5 lX ((kR.map Node.c)++([[aB jM.parent,aB Dh.kind,aZ Dh.pat.rel,bX (Dh.pat.args.map tx),aZ Dh.left,aZ Dh.right,aB jM.cX,bX (a3f.map aQ.c)]])) (IntKind.i64.wrap ((i2:Int)+1))) (by first| (simp only[iS hd2 hm2,mA]<;>rfl)| (simp only[iS hd2 hm2,mA,aC.c,aW.c,aS.c,Action.c,aN.c,aQ.c,ai.c,ah.c,Node.c,aF.c,di.c]<;>rfl)) (ih2 (i2+1) (kR++([(⟨jM.parent,Dh,jM.cX,a3f⟩:Node)])) (dn hd2) h)
theorem rj{aD:aF}{r:aF}(h:pQ aD=some r):Good prog 63 [bw (aF.c aD)] (bw [cW 63 4 (r.rules.map aN.c),cW 3 1 (r.ends.map jN),cW 83 3 (r.bG.map ah.c),cW 74 8 (r.nodes.map Node.c),cW 43 2 (r.facts.map aC.c),aB r.cP]):=by
 refine gd func63 zn 75 fun hr Z hZ=>?_
 rw[pQ]at h;obtain⟨y1,h2,y3,h4,y5,h6,h⟩:=gX h;refine(((((aY.a [.n 13]).g (AY h2)).g (KV h4)).g (dl h6)).a [.pb 5 2 83 3,.cn [1,2,3,4] [0,1,5,2,3,6,4]]).lp hZ (M9 hZ (fun lX h=>?_) (by have:=(gY.sl (gY.agg (hr _ (aE (i:=0) rfl)) (.sl (aD.bG.map ah.c)) (by simp))).1;simpa using this) aD.bG 0 ([]:bP) rfl h);refine(aY.a [.pb 2 3 74 8,.cn [1,2,3,5] [0,1,2,3,4,5,7,6]]).lp hZ (MA hZ (fun nB h=>?_) (by have:=(gY.sl (gY.agg (hr _ (aE (i:=0) rfl)) (.sl (aD.nodes.map Node.c)) (by simp))).1;simpa using this) aD.nodes 0 ([]:bN) rfl h);cases h;exact aY.ret hZ
def jQ(aD:aQ)(aa:aQ)(k1:Option Int):aJ->Nat->Option Int
 | [],i1=>(k1)
 |bg::cj,i1=>(bif decide (((i1:Int):Int)<((aa.facts.map aC.c).length:Int))then((gA aa.facts (i1:Int)).bind fun x34=>((fy bg x34).bind fun Oc=>(bif (Oc:Int) != 0 then(some Oc)else(jQ aD aa k1 cj (i1+1)))))else(k1))
def pX(aD:aQ)(aa:aQ):Option Int:=(jQ aD aa (bif decide ((((aD.facts.map aC.c).length:Int):Int)<((aa.facts.map aC.c).length:Int))then(some (-1))else(bif decide ((((aD.facts.map aC.c).length:Int):Int)>((aa.facts.map aC.c).length:Int))then(some 1)else(some 0))) aD.facts 0)
def E1(aD:aQ)(aa:aQ)(dL:Int):St:=⟨[(2,bp 0 0),(3,bp 1 0),(5,aB dL)],[bu (aQ.c aD),bu (aQ.c aa)]⟩
theorem DS(hZ:Z.nt=51){aD:aQ}{aa:aQ}{r:Int}{k1:Option Int}(eC:k1=some r->Ax Z N f187 (.q bZ (aB r)) [1,1] ⟨[(2,bp 0 0),(3,bp 1 0)],[bu (aQ.c aD),bu (aQ.c aa)]⟩)(hm1:aD.facts.length<=maxLen):∀(rest:aJ) (i1:Nat),aD.facts.drop i1=rest->jQ aD aa k1 rest i1=some r->Ar Z N f187 (.q bZ (aB r)) [1,0,1,0] (rest.length+1) (E1 aD aa (i1:Int)):=by
 intro rest
 induction rest with
 |nil=>
  intro i1 bB h;rw[jQ]at h;refine aV fun N1 cq cS=>?_
  exact((((((((aY.ge aC.c bB).ge aC.c bB).ge aC.c bB).ge aC.c bB).ge aC.c bB).ge aC.c bB).F 1).a [.hl 0 [2,3] [0,1]]).ex hZ cq (eC h)
 |cons bg cj ih1=>
  intro i1 bB h;rw[jQ]at h;refine aV fun N1 cq cS=>?_
  have jR:=((((((aY.lt aC.c bB).lt aC.c bB).lt aC.c bB).lt aC.c bB).lt aC.c bB).lt aC.c bB)
  obtain⟨h33,h⟩|⟨h33,h⟩:=aK h
  ·obtain⟨x34,h35,Oc,h37,h⟩:=bR h;have k6:=(((((jR.b h33).a [.n 10]).l (bK aC.c 2 (dc bB) rfl)).l (dW aC.c 2 h35 rfl)).g (pM h37))
   obtain⟨h38,h⟩|⟨h38,h⟩:=aK h
   ·cases aM h;exact(k6.b h38).ret hZ
   ·exact((k6.b h38).a [.cn [2,3,5] [0,1]]).ct hZ cS (iS bB hm1) (ih1 (i1+1) (dn bB) h)
  ·exact((jR.b h33).a [.hl 0 [2,3] [0,1]]).ex hZ cq (eC h)
theorem Cs{aD:aQ}{aa:aQ}{r:Int}(h:pX aD aa=some r):Good prog 187 [bw (aQ.c aD),bw (aQ.c aa)] (aB r):=by
 refine gd func187 bZ 51 fun hr Z hZ=>?_
 rw[pX]at h;refine(aY.a [.cn [2,3,5] [0,1]]).lp hZ (DS hZ (fun h=>?_) (by have:=(gY.sl (gY.agg (hr _ (aE (i:=0) rfl)) (.sl (aD.facts.map aC.c)) (by simp))).1;simpa using this) aD.facts 0 rfl h);obtain⟨h39,h⟩|⟨h39,h⟩:=aK h
 ·cases h;exact(aY.b h39).ret hZ
 ·obtain⟨h40,h⟩|⟨h40,h⟩:=aK h
  ·cases aM h;exact((aY.b h39).b h40).ret hZ
  ·cases aM h;exact((aY.b h39).b h40).ret hZ
def nA(aD:ar)(aa:ar)(i1:Nat)(bg:aQ)(k2:Int->Option (Int×Int)):ar->Nat->Int->Option (Int×Int)
 | [],i2,ni=>(k2 ni)
 |jM::tL,i2,ni=>((pX bg jM).bind fun aDO=>(bif (aDO:Int)==0 then(nA aD aa i1 bg k2 tL (i2+1) (IntKind.i64.wrap (ni+1)))else(nA aD aa i1 bg k2 tL (i2+1) ni)))
def pK(aD:ar)(aa:ar)(k1:Int->Option (Int×Int)):ar->Nat->Int->Option (Int×Int)
 | [],i1,dX=>(k1 dX)
 |bg::cj,i1,dX=>(bif decide (aa.length<=maxLen)then(nA aD aa i1 bg (fun(Bd:Int)=>(pK aD aa k1 cj (i1+1) Bd)) aa 0 dX)else none)
def xe(aD:ar)(aa:ar):Option (Int×Int):=(pK aD aa (fun(wV:Int)=>(some (wV,IntKind.i64.wrap (((aD.map aQ.c).length:Int)-wV)))) aD 0 0)
def NZ(aD:ar)(aa:ar)(dX:Int)(dL:Int):St:=⟨[(0,bX (aD.map aQ.c)),(1,bX (aa.map aQ.c)),(6,aB dX),(7,aB dL)],[]⟩
def Na(aD:ar)(aa:ar)(i1:Nat)(ni:Int)(dL:Int):St:=⟨[(0,bX (aD.map aQ.c)),(1,bX (aa.map aQ.c)),(6,aB ni),(7,aB (i1:Int)),(8,aB dL)],[]⟩
def XI(r:Int×Int):Kd:=.q OO (D.iz [aB r.1,aB r.2])
theorem MF(hZ:Z.nt=38){aD:ar}{aa:ar}{i1:Nat}{bg:aQ}{r:Int×Int}{k2:Int->Option (Int×Int)}(zc:∀(Bd:Int),k2 Bd=some r->Ax Z N f124 (XI r) [1,1,0,1,0,0,1,1] ⟨[(0,bX (aD.map aQ.c)),(1,bX (aa.map aQ.c)),(6,aB Bd),(7,aB (i1:Int))],[]⟩)(hx1:(aD)[i1]?=some bg)(hm2:aa.length<=maxLen):∀(rest:ar) (i2:Nat) (ni:Int),aa.drop i2=rest->nA aD aa i1 bg k2 rest i2 ni=some r->Ar Z N f124 (XI r) [1,1,0,1,0,0,1,0,0,1,0] (rest.length+1) (Na aD aa i1 ni (i2:Int)):=by
 intro rest
 induction rest with
 |nil=>
  intro i2 ni hd2 h;rw[nA]at h;refine aV fun N2 uY qt=>?_
  exact((aY.ge aQ.c hd2).a [.hl 3 [0,1,6,7] []]).ex hZ uY (zc ni h)
 |cons jM tL ih2=>
  intro i2 ni hd2 h;rw[nA]at h;refine aV fun N2 uY qt=>?_
  obtain⟨aDO,h177,h⟩:=aH h;have Dc:=(((((aY.lt aQ.c hd2).a [.n 8]).l (bK aQ.c 2 hx1 rfl)).l (bK aQ.c 2 (dc hd2) rfl)).g (Cs h177))
  obtain⟨h178,h⟩|⟨h178,h⟩:=aK h
  ·exact((Dc.b h178).a [.cn [0,1,6,7,8] []]).ct hZ qt (iS hd2 hm2) (ih2 (i2+1) (IntKind.i64.wrap (ni+1)) (dn hd2) h)
  ·exact((Dc.b h178).a [.cn [0,1,6,7,8] []]).ct hZ qt (iS hd2 hm2) (ih2 (i2+1) ni (dn hd2) h)
theorem ME(hZ:Z.nt=38){aD:ar}{aa:ar}{r:Int×Int}{k1:Int->Option (Int×Int)}(eC:∀(wV:Int),k1 wV=some r->Ax Z N f124 (XI r) [1,1,1] ⟨[(0,bX (aD.map aQ.c)),(6,aB wV)],[]⟩)(hm1:aD.length<=maxLen):∀(rest:ar) (i1:Nat) (dX:Int),aD.drop i1=rest->pK aD aa k1 rest i1 dX=some r->Ar Z N f124 (XI r) [1,1,0,1,0] (rest.length+1) (NZ aD aa dX (i1:Int)):=by
 intro rest
 induction rest with
 |nil=>
  intro i1 dX bB h;rw[pK]at h;refine aV fun N1 cq cS=>?_
  exact((aY.ge aQ.c bB).a [.hl 0 [0,6] []]).ex hZ cq (eC dX h)
 |cons bg cj ih1=>
  intro i1 dX bB h;rw[pK]at h;refine aV fun N1 cq cS=>?_
  obtain⟨h179,h⟩:=bf h;refine((aY.lt aQ.c bB).a [.cn [0,1,6,7,8] []]).lp hZ (MF hZ (fun Bd h=>?_) ((drop_cons bB).1) (bh h179) aa 0 dX rfl h);exact(aY.a [.cn [0,1,6,7] []]).ct hZ cS (iS bB hm1) (ih1 (i1+1) Bd (dn bB) h)
theorem Ki{aD:ar}{aa:ar}{r:Int×Int}(h:xe aD aa=some r):Good prog 124 [bX (aD.map aQ.c),bX (aa.map aQ.c)] (D.iz [aB r.1,aB r.2]):=by
 refine gd func124 OO 38 fun hr Z hZ=>?_
 rw[xe]at h;refine(aY.a [.cn [0,1,6,7] []]).lp hZ (ME hZ (fun wV h=>?_) (by have:=(gY.sl (hr _ (aE (i:=0) rfl))).1;simpa using this) aD 0 0 rfl h);cases h;exact aY.ret hZ
def jq(aD:aF)(aa:aJ)(cv:aC)(y1:aF)(y3:aJ)(k1:List Bool->bP->Option aF):Nat->Int->List Bool->bP->Option aF
 |0,_,_,_=>none
 |n1+1,Jc,xN,O3=>(bif decide ((Jc:Int)<((O3.map ah.c).length:Int))then((gA O3 Jc).bind fun x41=>((kI x41.shape cv ([])).bind fun Ju=>(bif room ((xN.map bx).length+([[bQ Ju.2]]).length) 1 then((gN x41.shape ([]) aa).bind fun y46=>(jq aD aa cv y1 y3 k1 n1 (IntKind.i64.wrap (Jc+1)) (xN++([Ju.2])) (O3.set Jc.toNat (⟨x41.shape,y46⟩:ah))))else none)))else(k1 xN O3))
def fk(aD:aF)(y1:aF)(y3:aJ)(eO:List Bool)(wS:bP)(k2:Int->bN->Option aF):Nat->Int->Int->bN->Option aF
 |0,_,_,_=>none
 |n2+1,tJ,vo,tZ=>(bif decide ((tJ:Int)<((tZ.map Node.c).length:Int))then((gA tZ tJ).bind fun x106=>((gA tZ x106.parent).bind fun x108=>((gA aD.nodes x106.parent).bind fun x110=>((xe x108.tokens x110.tokens).bind fun Dg=>(bif decide ((x106.cX:Int)<0)then((tX x108.tokens x106.cond ([])).bind fun O5=>(fk aD y1 y3 eO wS k2 n2 (IntKind.i64.wrap (tJ+1)) (IntKind.i64.wrap (vo+Dg.2)) (tZ.set tJ.toNat (⟨x106.parent,x106.cond,x106.cX,O5⟩:Node))))else((gA wS x106.cX).bind fun x117=>((tX x108.tokens x106.cond x117.facts).bind fun XA=>((gA eO x106.cX).bind fun x121=>(bif x121 then(fk aD y1 y3 eO wS k2 n2 (IntKind.i64.wrap (tJ+1)) (IntKind.i64.wrap ((IntKind.i64.wrap (vo+(IntKind.i64.wrap (Dg.2*((x117.facts.map aC.c).length:Int)))))+Dg.1)) (tZ.set tJ.toNat (⟨x106.parent,x106.cond,x106.cX,XA⟩:Node)))else(fk aD y1 y3 eO wS k2 n2 (IntKind.i64.wrap (tJ+1)) (IntKind.i64.wrap (vo+(IntKind.i64.wrap (Dg.2*((x117.facts.map aC.c).length:Int))))) (tZ.set tJ.toNat (⟨x106.parent,x106.cond,x106.cX,XA⟩:Node))))))))))))else(k2 vo tZ))
def sQ(aD:aF)(aa:aJ)(cv:aC):Option aF:=((pQ aD).bind fun y1=>((dO aa).bind fun y3=>(jq aD aa cv y1 y3 (fun(eO:List Bool) (wS:bP)=>(fk aD y1 y3 eO wS (fun(qh:Int) (nB:bN)=>(some (⟨y1.rules,y1.ends,wS,nB,y3,qh⟩:aF))) fuel 1 y1.cP y1.nodes)) fuel 0 ([]:List Bool) y1.bG)))
def CL(aD:aF)(aa:aJ)(cv:aC)(y1:aF)(y3:aJ)(Jc:Int)(W1:List aT)(W2:List aT):St:=⟨[(1,bX (aa.map aC.c)),(3,bp 0 0),(5,bp 1 0),(6,bp 2 0),(7,bp 3 0),(8,b9 4),(9,aB Jc)],[bu (aF.c aD),bu (aC.c cv),bu [D.nil,D.nil,D.nil,D.nil,D.nil,aB 0],bu [b9 5,b9 6,b9 7,b9 8,b9 9,aB y1.cP],af 4 1 W1,af 63 4 (y1.rules.map aN.c),af 3 1 (y1.ends.map jN),af 83 3 W2,af 74 8 (y1.nodes.map Node.c),af 43 2 (y3.map aC.c)]⟩
theorem JY(hZ:Z.nt=143){aD:aF}{aa:aJ}{cv:aC}{y1:aF}{y3:aJ}{r:aF}{k1:List Bool->bP->Option aF}(eC:∀(eO:List Bool) (wS:bP),k1 eO wS=some r->Ax Z N f64 (vq r) [1,1,1,1,1] ⟨[(3,bp 0 0),(6,bp 1 0),(7,bp 2 0),(8,b9 3)],[bu (aF.c aD),bu [D.nil,D.nil,D.nil,D.nil,D.nil,aB 0],bu [b9 4,b9 5,b9 6,b9 7,b9 8,aB y1.cP],af 4 1 (eO.map bx),af 63 4 (y1.rules.map aN.c),af 3 1 (y1.ends.map jN),af 83 3 (wS.map ah.c),af 74 8 (y1.nodes.map Node.c),af 43 2 (y3.map aC.c)]⟩):∀(n1:Nat) (Jc:Int) (xN:List Bool) (O3:bP),jq aD aa cv y1 y3 k1 n1 Jc xN O3=some r->Ar Z N f64 (vq r) [1,1,1,1,0,1,0] n1 (CL aD aa cv y1 y3 Jc (xN.map bx) (O3.map ah.c)):=by
 intro n
 induction n with
 |zero=>intro Jc xN O3 h;simp[jq]at h
 |succ n1 ih1=>
  intro Jc xN O3 h;rw[jq]at h;refine aV fun N1 cq cS=>?_
  obtain⟨h40,h⟩|⟨h40,h⟩:=aK h
  ·obtain⟨x41,h42,Ju,h44,h⟩:=bR h;obtain⟨h45,h⟩:=bf h;obtain⟨y46,h47,h⟩:=aH h;exact(((((((((((((((aY.b h40).a [.n 12]).i (fI ah.c 3 h42)).o 3 2 .uq (cL ah.c (dw h42))).a [.d (D.iz [cW 113 2 (Ju.1.map aW.c),bQ Ju.2])]).w (show Good prog 96 [bw (aC.c x41.shape),bw (aC.c cv),bX ([])] (D.iz [cW 113 2 (Ju.1.map aW.c),bQ Ju.2])from by first| (simpa only[bI,bA,cF,cD,cI]using sA h44)|exact sA h44)).w (cA h45)).a [.n 11]).i (fI ah.c 3 h42)).o 3 2 .uq (cL ah.c (dw h42))).a [.d (cW 43 2 (y46.map aC.c))]).w (show Good prog 44 [bw (aC.c x41.shape),bX ([]),bX (aa.map aC.c)] (cW 43 2 (y46.map aC.c))from by first| (simpa only[bI,bA,cF,cD,cI]using fE h47)|exact fE h47)).i (fI ah.c 3 h42)).w (show(O3.map ah.c)[Jc.toNat]?=some [aZ x41.shape.rel,bX (x41.shape.args.map tx),bX (x41.facts.map aC.c)]from cL ah.c (dw h42))).a [.row [aZ x41.shape.rel,bX (x41.shape.args.map tx),bX (x41.facts.map aC.c)],.cn [1,3,5,6,7,8,9] [0,1,2,3,12,5,6,7,8,9]]).cs hZ cS (CL aD aa cv y1 y3 (IntKind.i64.wrap (Jc+1)) ((xN.map bx)++([[bQ Ju.2]])) ((O3.map ah.c).set Jc.toNat [aZ x41.shape.rel,bX (x41.shape.args.map tx),bX (y46.map aC.c)])) (by first| (simp only[mA]<;>rfl)| (simp only[mA,aC.c,aW.c,aS.c,Action.c,aN.c,aQ.c,ai.c,ah.c,Node.c,aF.c,di.c]<;>rfl)) (ih1 (IntKind.i64.wrap (Jc+1)) (xN++([Ju.2])) (O3.set Jc.toNat (⟨x41.shape,y46⟩:ah)) h)
  ·exact((aY.b h40).a [.hl 0 [3,6,7,8] [0,2,3,4,5,6,7,8,9]]).ex hZ cq (eC xN O3 h)
def ux(aD:aF)(y1:aF)(y3:aJ)(eO:List Bool)(wS:bP)(tJ:Int)(vo:Int)(W2:List aT):St:=⟨[(3,bp 0 0),(6,bp 1 0),(7,bp 2 0),(8,b9 3),(12,aB tJ)],[bu (aF.c aD),bu [D.nil,D.nil,D.nil,D.nil,D.nil,aB 0],bu [b9 4,b9 5,b9 6,b9 7,b9 8,aB vo],af 4 1 (eO.map bx),af 63 4 (y1.rules.map aN.c),af 3 1 (y1.ends.map jN),af 83 3 (wS.map ah.c),af 74 8 W2,af 43 2 (y3.map aC.c)]⟩
theorem JZ(hZ:Z.nt=143){aD:aF}{y1:aF}{y3:aJ}{eO:List Bool}{wS:bP}{r:aF}{k2:Int->bN->Option aF}(zc:∀(qh:Int) (nB:bN),k2 qh nB=some r->Ax Z N f64 (vq r) [1,1,1,1,1,1] ⟨[(6,bp 0 0),(7,bp 1 0)],[bu [D.nil,D.nil,D.nil,D.nil,D.nil,aB 0],bu [b9 2,b9 3,b9 4,b9 5,b9 6,aB qh],af 63 4 (y1.rules.map aN.c),af 3 1 (y1.ends.map jN),af 83 3 (wS.map ah.c),af 74 8 (nB.map Node.c),af 43 2 (y3.map aC.c)]⟩):∀(n2:Nat) (tJ:Int) (vo:Int) (tZ:bN),fk aD y1 y3 eO wS k2 n2 tJ vo tZ=some r->Ar Z N f64 (vq r) [1,1,1,1,1,0,1,0] n2 (ux aD y1 y3 eO wS tJ vo (tZ.map Node.c)):=by
 intro n
 induction n with
 |zero=>intro tJ vo tZ h;simp[fk]at h
 |succ n2 ih2=>
  intro tJ vo tZ h;rw[fk]at h;refine aV fun N2 uY qt=>?_
  obtain⟨h105,h⟩|⟨h105,h⟩:=aK h
  ·obtain⟨x106,h107,x108,h109,x110,h111,Dg,h113,h⟩:=Bi h;have jR:=(((((((aY.b h105).i (fI Node.c 8 h107)).o 8 8 .uq (cL Node.c (dw h107))).i (fI Node.c 8 h109)).o 8 8 .uq (cL Node.c (dw h109))).l (dW Node.c 8 h111 rfl)).g (Ki h113))
   obtain⟨h114,h⟩|⟨h114,h⟩:=aK h
   ·obtain⟨O5,h116,h⟩:=aH h;exact((((((jR.b h114).a [.n 7,.d (cW 77 2 (O5.map aQ.c))]).w (show Good prog 98 [bX (x108.tokens.map aQ.c),bw (aS.c x106.cond),bX ([])] (cW 77 2 (O5.map aQ.c))from by first| (simpa only[bI,bA,cF,cD,cI]using ur h116)|exact ur h116)).i (fI Node.c 8 h107)).w (show(tZ.map Node.c)[tJ.toNat]?=some [aB x106.parent,aB x106.cond.kind,aZ x106.cond.pat.rel,bX (x106.cond.pat.args.map tx),aZ x106.cond.left,aZ x106.cond.right,aB x106.cX,bX (x106.tokens.map aQ.c)]from cL Node.c (dw h107))).a [.row [aB x106.parent,aB x106.cond.kind,aZ x106.cond.pat.rel,bX (x106.cond.pat.args.map tx),aZ x106.cond.left,aZ x106.cond.right,aB x106.cX,bX (x106.tokens.map aQ.c)],.cn [3,6,7,8,12] [0,1,2,3,4,5,6,7,8]]).cs hZ qt (ux aD y1 y3 eO wS (IntKind.i64.wrap (tJ+1)) (IntKind.i64.wrap (vo+Dg.2)) ((tZ.map Node.c).set tJ.toNat [aB x106.parent,aB x106.cond.kind,aZ x106.cond.pat.rel,bX (x106.cond.pat.args.map tx),aZ x106.cond.left,aZ x106.cond.right,aB x106.cX,bX (O5.map aQ.c)])) (by first| (simp only[mA]<;>rfl)| (simp only[mA,aC.c,aW.c,aS.c,Action.c,aN.c,aQ.c,ai.c,ah.c,Node.c,aF.c,di.c]<;>rfl)) (ih2 (IntKind.i64.wrap (tJ+1)) (IntKind.i64.wrap (vo+Dg.2)) (tZ.set tJ.toNat (⟨x106.parent,x106.cond,x106.cX,O5⟩:Node)) h)
   ·obtain⟨x117,h118,XA,h120,x121,h122,h⟩:=gX h;have k6:=((((((((((jR.b h114).i (fI ah.c 3 h118)).o 3 3 .uq (cL ah.c (dw h118))).a [.n 8]).g (ur h120)).i (fI Node.c 8 h107)).w (show(tZ.map Node.c)[tJ.toNat]?=some [aB x106.parent,aB x106.cond.kind,aZ x106.cond.pat.rel,bX (x106.cond.pat.args.map tx),aZ x106.cond.left,aZ x106.cond.right,aB x106.cX,bX (x106.tokens.map aQ.c)]from cL Node.c (dw h107))).a [.row [aB x106.parent,aB x106.cond.kind,aZ x106.cond.pat.rel,bX (x106.cond.pat.args.map tx),aZ x106.cond.left,aZ x106.cond.right,aB x106.cX,bX (x106.tokens.map aQ.c)]]).i (fI bx 1 h122)).o 1 1 .uq (cL bx (dw h122)))
    obtain⟨h123,h⟩|⟨h123,h⟩:=aK h
    ·exact((k6.b h123).a [.cn [3,6,7,8,12] [0,1,2,3,4,5,6,7,8]]).cs hZ qt (ux aD y1 y3 eO wS (IntKind.i64.wrap (tJ+1)) (IntKind.i64.wrap ((IntKind.i64.wrap (vo+(IntKind.i64.wrap (Dg.2*((x117.facts.map aC.c).length:Int)))))+Dg.1)) ((tZ.map Node.c).set tJ.toNat [aB x106.parent,aB x106.cond.kind,aZ x106.cond.pat.rel,bX (x106.cond.pat.args.map tx),aZ x106.cond.left,aZ x106.cond.right,aB x106.cX,bX (XA.map aQ.c)])) (by first| (simp only[mA]<;>rfl)| (simp only[mA,aC.c,aW.c,aS.c,Action.c,aN.c,aQ.c,ai.c,ah.c,Node.c,aF.c,di.c]<;>rfl)) (ih2 (IntKind.i64.wrap (tJ+1)) (IntKind.i64.wrap ((IntKind.i64.wrap (vo+(IntKind.i64.wrap (Dg.2*((x117.facts.map aC.c).length:Int)))))+Dg.1)) (tZ.set tJ.toNat (⟨x106.parent,x106.cond,x106.cX,XA⟩:Node)) h)
    ·exact((k6.b h123).a [.cn [3,6,7,8,12] [0,1,2,3,4,5,6,7,8]]).cs hZ qt (ux aD y1 y3 eO wS (IntKind.i64.wrap (tJ+1)) (IntKind.i64.wrap (vo+(IntKind.i64.wrap (Dg.2*((x117.facts.map aC.c).length:Int))))) ((tZ.map Node.c).set tJ.toNat [aB x106.parent,aB x106.cond.kind,aZ x106.cond.pat.rel,bX (x106.cond.pat.args.map tx),aZ x106.cond.left,aZ x106.cond.right,aB x106.cX,bX (XA.map aQ.c)])) (by first| (simp only[mA]<;>rfl)| (simp only[mA,aC.c,aW.c,aS.c,Action.c,aN.c,aQ.c,ai.c,ah.c,Node.c,aF.c,di.c]<;>rfl)) (ih2 (IntKind.i64.wrap (tJ+1)) (IntKind.i64.wrap (vo+(IntKind.i64.wrap (Dg.2*((x117.facts.map aC.c).length:Int))))) (tZ.set tJ.toNat (⟨x106.parent,x106.cond,x106.cX,XA⟩:Node)) h)
  ·exact((aY.b h105).a [.hl 0 [6,7] [1,2,4,5,6,7,8]]).ex hZ uY (zc vo tZ h)
theorem Aa{aD:aF}{aa:aJ}{cv:aC}{r:aF}(h:sQ aD aa cv=some r):Good prog 64 [bw (aF.c aD),bX (aa.map aC.c),bw (aC.c cv)] (bw [cW 63 4 (r.rules.map aN.c),cW 3 1 (r.ends.map jN),cW 83 3 (r.bG.map ah.c),cW 74 8 (r.nodes.map Node.c),cW 43 2 (r.facts.map aC.c),aB r.cP]):=by
 refine gd func64 zn 143 fun hr Z hZ=>?_
 rw[sQ]at h;obtain⟨y1,h2,y3,h4,h⟩:=bR h;refine(((aY.g (rj h2)).g (dl h4)).a [.cn [1,3,5,6,7,8,9] [0,1,2,8,10,3,4,5,6,9]]).lp hZ (JY hZ (fun eO wS h=>?_) fuel 0 ([]:List Bool) y1.bG h);refine(aY.a [.cn [3,6,7,8,12] [0,1,2,3,4,5,6,7,8]]).lp hZ (JZ hZ (fun qh nB h=>?_) fuel 1 y1.cP y1.nodes h);cases h;exact aY.ret hZ
def qn(aD:aF)(aa:aC):Option (aF×Bool):=((wK aD.facts aa).bind fun y1=>((mc aD).bind fun y3=>(bif !(y3)then((pQ aD).bind fun y6=>(some (y6,false)))else(bif !(y1.2)then((pQ aD).bind fun y9=>(some (y9,false)))else((sQ aD y1.1 aa).bind fun yc=>(some (yc,true)))))))
theorem DU{aD:aF}{aa:aC}{r:aF×Bool}(h:qn aD aa=some r):Good prog 22 [bw (aF.c aD),bw (aC.c aa)] (D.iz [bw [cW 63 4 (r.1.rules.map aN.c),cW 3 1 (r.1.ends.map jN),cW 83 3 (r.1.bG.map ah.c),cW 74 8 (r.1.nodes.map Node.c),cW 43 2 (r.1.facts.map aC.c),aB r.1.cP],bQ r.2]):=by
 refine gd func22 sJ 28 fun hr Z hZ=>?_
 rw[qn]at h;obtain⟨y1,h2,y3,h4,h⟩:=bR h;have lC:=((aY.g (J7 h2)).g (vi h4))
 obtain⟨h5,h⟩|⟨h5,h⟩:=aK h
 ·obtain⟨y6,h7,h⟩:=aH h;cases h;exact(((lC.r 3 h5).T 1).g (rj h7)).ret hZ
 ·have fG:=(lC.r 3 h5)
  obtain⟨h8,h⟩|⟨h8,h⟩:=aK h
  ·obtain⟨y9,h10,h⟩:=aH h;cases h;exact((fG.b h8).g (rj h10)).ret hZ
  ·obtain⟨yc,h12,h⟩:=aH h;cases h;exact((fG.b h8).g (Aa h12)).ret hZ
def si(aD:aJ)(aa:aC):Option (aJ×Bool):=((qY aD aa).bind fun y1=>((qW aD).bind fun y3=>(bif !(y3)then((cm aD).bind fun y6=>(some (y6,false)))else(bif decide ((y1:Int)<0)then((cm aD).bind fun y9=>(some (y9,false)))else((yG (aD.map aC.c).length none (some (aB y1))).bind fun p=>(fun l11 u12=>((cm ((aD.take u12).drop l11)).bind fun Ai=>((yG (aD.map aC.c).length (some (aB (IntKind.i64.wrap (y1+1)))) none).bind fun p=>(fun l16 u17=>((cm ((aD.take u17).drop l16)).bind fun AD=>(bif room ((Ai.map aC.c).length+(AD.map aC.c).length) 40 then(some (Ai++AD,true))else none))) p.1 p.2))) p.1 p.2)))))
theorem yy{aD:aJ}{aa:aC}{r:aJ×Bool}(h:si aD aa=some r):Good prog 127 [bX (aD.map aC.c),bw (aC.c aa)] (D.iz [cW 43 2 (r.1.map aC.c),bQ r.2]):=by
 refine gd func127 [[some (43,2)],[none]] 29 fun hr Z hZ=>?_
 rw[si]at h;obtain⟨y1,h2,y3,h4,h⟩:=bR h;have lC:=(((aY.a [.L5 4]).g (wH h2)).g (sX h4))
 obtain⟨h5,h⟩|⟨h5,h⟩:=aK h
 ·obtain⟨y6,h7,h⟩:=aH h;cases h;exact(((lC.r 3 h5).T 1).g (cu h7)).ret hZ
 ·have fG:=(lC.r 3 h5)
  obtain⟨h8,h⟩|⟨h8,h⟩:=aK h
  ·obtain⟨y9,h10,h⟩:=aH h;cases h;exact((fG.b h8).g (cu h10)).ret hZ
  ·obtain⟨⟨l11,u12⟩,h13,h⟩:=aH h;obtain⟨Ai,h15,⟨l16,u17⟩,h18,h⟩:=bR h;obtain⟨AD,h20,h⟩:=aH h;obtain⟨h21,h⟩:=bf h;cases h;exact((((((((fG.b h8).w (show yG (aD.map aC.c).length none (some (aB y1))=some (l11,u12)/\((aD.map aC.c).all fun r=>r.length==2)=true from⟨h13,by simp[b8]⟩)).a [.n 8,.cut l11 u12,.d (cW 43 2 (Ai.map aC.c))]).w (show Good prog 82 [bX (((aD.map aC.c).take u12).drop l11)] (cW 43 2 (Ai.map aC.c))from by first| (simpa only[bI,bA,cF,cD,cI]using cu h15)|exact cu h15)).w (show yG (aD.map aC.c).length (some (aB (IntKind.i64.wrap (y1+1)))) none=some (l16,u17)/\((aD.map aC.c).all fun r=>r.length==2)=true from⟨h18,by simp[b8]⟩)).a [.cut l16 u17,.d (cW 43 2 (AD.map aC.c))]).w (show Good prog 82 [bX (((aD.map aC.c).take u17).drop l16)] (cW 43 2 (AD.map aC.c))from by first| (simpa only[bI,bA,cF,cD,cI]using cu h20)|exact cu h20)).w (cA h21)).rts hZ (D.iz [cW 43 2 ((Ai.map aC.c)++(AD.map aC.c)),bQ true]) (by first|rfl| (simp only[mA]<;>rfl)| (simp only[cN,mA]<;>rfl))
def D3(aD:aF)(aa:aC):Option (aF×Bool):=((si aD.facts aa).bind fun y1=>(bif !(y1.2)then((ia aD).bind fun y4=>(some (y4,false)))else((uF aD y1.1 aa).bind fun y6=>(some (y6,true)))))
theorem NG{aD:aF}{aa:aC}{r:aF×Bool}(h:D3 aD aa=some r):Good prog 68 [bw (aF.c aD),bw (aC.c aa)] (D.iz [bw [cW 63 4 (r.1.rules.map aN.c),cW 3 1 (r.1.ends.map jN),cW 83 3 (r.1.bG.map ah.c),cW 74 8 (r.1.nodes.map Node.c),cW 43 2 (r.1.facts.map aC.c),aB r.1.cP],bQ r.2]):=by
 refine gd func68 sJ 23 fun hr Z hZ=>?_
 rw[D3]at h;obtain⟨y1,h2,h⟩:=aH h;obtain⟨h3,h⟩|⟨h3,h⟩:=aK h
 ·obtain⟨y4,h5,h⟩:=aH h;cases h;exact(((aY.g (yy h2)).b h3).g (mX h5)).ret hZ
 ·obtain⟨y6,h7,h⟩:=aH h;cases h;exact(((aY.g (yy h2)).b h3).g (BE h7)).ret hZ
def nQ(aD:aF)(aa:aC):Option (aF×Bool):=((oW aD).bind fun y1=>(bif !(y1)then((ia aD).bind fun y4=>(some (y4,false)))else((D3 aD aa).bind fun y6=>(some (y6.1,y6.2)))))
theorem vv{aD:aF}{aa:aC}{r:aF×Bool}(h:nQ aD aa=some r):Good prog 24 [bw (aF.c aD),bw (aC.c aa)] (D.iz [bw [cW 63 4 (r.1.rules.map aN.c),cW 3 1 (r.1.ends.map jN),cW 83 3 (r.1.bG.map ah.c),cW 74 8 (r.1.nodes.map Node.c),cW 43 2 (r.1.facts.map aC.c),aB r.1.cP],bQ r.2]):=by
 refine gd func24 sJ 16 fun hr Z hZ=>?_
 rw[nQ]at h;obtain⟨y1,h2,h⟩:=aH h;obtain⟨h3,h⟩|⟨h3,h⟩:=aK h
 ·obtain⟨y4,h5,h⟩:=aH h;cases h;exact(((aY.g (rz h2)).b h3).g (mX h5)).ret hZ
 ·obtain⟨y6,h7,h⟩:=aH h;cases h;exact(((aY.g (rz h2)).b h3).g (NG h7)).ret hZ
def gu(aD:aJ)(aa:aC)(k1:aJ->Option aJ):aJ->Nat->aJ->Option aJ
 | [],i1,bn=>(k1 bn)
 |bg::cj,i1,bn=>((rG bg aa).bind fun Va=>(bif !(Va)then((eF bg).bind fun BP=>(bif room ((bn.map aC.c).length+([[aZ BP.rel,bX (BP.args.map tx)]]).length) 40 then(gu aD aa k1 cj (i1+1) (bn++([BP])))else none))else(gu aD aa k1 cj (i1+1) bn)))
def wi(aD:aJ)(aa:aC):Option aJ:=(gu aD aa (fun(cM:aJ)=>(some cM)) aD 0 ([]:aJ))
def BN(aD:aJ)(aa:aC)(W0:List aT)(dL:Int):St:=⟨[(0,bX (aD.map aC.c)),(3,bp 0 0),(5,b9 1),(6,aB dL)],[bu (aC.c aa),af 43 2 W0]⟩
theorem Hj(hZ:Z.nt=30){aD:aJ}{aa:aC}{r:aJ}{k1:aJ->Option aJ}(eC:∀(cM:aJ),k1 cM=some r->Ax Z N f71 (D0 r) [1,1,1] ⟨[(5,b9 0)],[af 43 2 (cM.map aC.c)]⟩)(hm1:aD.length<=maxLen):∀(rest:aJ) (i1:Nat) (bn:aJ),aD.drop i1=rest->gu aD aa k1 rest i1 bn=some r->Ar Z N f71 (D0 r) [1,1,0,1,0] (rest.length+1) (BN aD aa (bn.map aC.c) (i1:Int)):=by
 intro rest
 induction rest with
 |nil=>
  intro i1 bn bB h;rw[gu]at h;refine aV fun N1 cq cS=>?_
  exact((aY.ge aC.c bB).a [.hl 0 [5] [1]]).ex hZ cq (eC bn h)
 |cons bg cj ih1=>
  intro i1 bn bB h;rw[gu]at h;refine aV fun N1 cq cS=>?_
  obtain⟨Va,h43,h⟩:=aH h;have fG:=((((aY.lt aC.c bB).a [.n 5]).l (bK aC.c 2 (dc bB) rfl)).g (yB h43))
  obtain⟨h44,h⟩|⟨h44,h⟩:=aK h
  ·obtain⟨BP,h46,h⟩:=aH h;obtain⟨h47,h⟩:=bf h;exact(((((fG.b h44).l (bK aC.c 2 (dc bB) rfl)).g (fA h46)).w (cA h47)).a [.cn [0,3,5,6] [0,4]]).cs hZ cS (BN aD aa ((bn.map aC.c)++([[aZ BP.rel,bX (BP.args.map tx)]])) (IntKind.i64.wrap ((i1:Int)+1))) (by first| (simp only[iS bB hm1,mA]<;>rfl)| (simp only[iS bB hm1,mA,aC.c,aW.c,aS.c,Action.c,aN.c,aQ.c,ai.c,ah.c,Node.c,aF.c,di.c]<;>rfl)) (ih1 (i1+1) (bn++([BP])) (dn bB) h)
  ·exact((fG.b h44).a [.cn [0,3,5,6] [0,1]]).ct hZ cS (iS bB hm1) (ih1 (i1+1) bn (dn bB) h)
theorem GP{aD:aJ}{aa:aC}{r:aJ}(h:wi aD aa=some r):Good prog 71 [bX (aD.map aC.c),bw (aC.c aa)] (cW 43 2 (r.map aC.c)):=by
 refine gd func71 I9 30 fun hr Z hZ=>?_
 rw[wi]at h;refine(aY.a [.cn [0,3,5,6] [0,1]]).lp hZ (Hj hZ (fun cM h=>?_) (by have:=(gY.sl (hr _ (aE (i:=0) rfl))).1;simpa using this) aD 0 ([]:aJ) rfl h);cases aM h;exact aY.ret hZ
def sv(aD:aJ)(aa:aC):Option (aJ×Bool):=((qc aD).bind fun y1=>(bif !(y1)then((dO aD).bind fun y4=>(some (y4,false)))else((qd aD aa).bind fun y6=>(bif decide ((y6:Int)<0)then((dO aD).bind fun y9=>(some (y9,false)))else((wi aD aa).bind fun yc=>(some (yc,true)))))))
theorem FA{aD:aJ}{aa:aC}{r:aJ×Bool}(h:sv aD aa=some r):Good prog 26 [bX (aD.map aC.c),bw (aC.c aa)] (D.iz [cW 43 2 (r.1.map aC.c),bQ r.2]):=by
 refine gd func26 [[some (43,2)],[none]] 20 fun hr Z hZ=>?_
 rw[sv]at h;obtain⟨y1,h2,h⟩:=aH h;obtain⟨h3,h⟩|⟨h3,h⟩:=aK h
 ·obtain⟨y4,h5,h⟩:=aH h;cases h;exact((((aY.g (pW h2)).r 5 h3).T 1).g (dl h5)).ret hZ
 ·obtain⟨y6,h7,h⟩:=aH h;have lC:=((((aY.g (pW h2)).r 3 h3).g (wL h7)).r 2 h3)
  obtain⟨h8,h⟩|⟨h8,h⟩:=aK h
  ·obtain⟨y9,h10,h⟩:=aH h;cases h;exact((lC.b h8).g (dl h10)).ret hZ
  ·obtain⟨yc,h12,h⟩:=aH h;cases h;exact((lC.b h8).g (GP h12)).ret hZ
def pY(aD:bM):Option (aF×aC×Bool):=((zA aD).bind fun y1=>((xd y1).bind fun y3=>((qd y3.2.1.facts y3.2.2).bind fun y9=>((eb y3.1 8).bind fun yc=>(some (y3.2.1,y3.2.2,(decide ((y9:Int)<0):Bool) != yc.2))))))
theorem Ct{aD:bM}{r:aF×aC×Bool}(h:pY aD=some r):Good prog 27 [bX (aD.map yx)] (D.iz [bw [bX (r.1.rules.map aN.c),cW 3 1 (r.1.ends.map jN),cW 83 3 (r.1.bG.map ah.c),cW 74 8 (r.1.nodes.map Node.c),cW 43 2 (r.1.facts.map aC.c),aB r.1.cP],bw [aZ r.2.1.rel,cW 9 1 (r.2.1.args.map tx)],bQ r.2.2]):=by
 refine gd func27 [[none,some (3,1),some (83,3),some (74,8),some (43,2),none],[none,some (9,1)],[none]] 25 fun hr Z hZ=>?_
 rw[pY]at h;obtain⟨y1,h2,y3,h4,h⟩:=bR h;refine(((aY.hn (Lt h2)).hp jL (Kh h4)).a [.hl 0 [2,3,5,6,7] [0,1,2,8,9,3,4,5,6,7]]).ex (c':=(lc f27 [1,1,1])) (K':=(lk' f27 [1,1,1])) (K0:=(lk' f27 [1,1,1])) hZ (fun _ _=>rfl) (a7t (st:=⟨[(2,bp 0 0),(3,bp 1 0),(5,bp 2 0),(6,bp 3 0),(7,bp 4 0)],[bu [D.nil,D.nil,D.nil,D.nil,D.nil,aB 0],bu [aZ ([]),D.nil],bu (ck.c y3.1),bu [bX (y3.2.1.rules.map aN.c),b9 5,b9 6,b9 7,b9 8,aB y3.2.1.cP],bu [aZ y3.2.2.rel,b9 9],af 3 1 (y3.2.1.ends.map jN),af 83 3 (y3.2.1.bG.map ah.c),af 74 8 (y3.2.1.nodes.map Node.c),af 43 2 (y3.2.1.facts.map aC.c),af 9 1 (y3.2.2.args.map tx)]⟩) mix (Kd.a6t _ _) 6 8 (by kernel_rfl) (by kernel_rfl) ?_)
 ·refine Cz.early (p:=9) (y:=10) (PV (Kd.a6t _ _) _) (by kernel_rfl) ?_
  ·obtain⟨y9,h10,yc,h12,h⟩:=bR h;cases h;exact(((aY.a [.n2 [0,1,2,3,4,5,6,7,8,9,10,11,12] [0,1,2,3,4,5,6,7,8,9,10,11,12] 8 11 [0,1] [0,2]]).g (wL h10)).hp iy (eT h12)).aG4 hZ
def uC(aD:ai)(aa:ai):Option Bool:=(bif (aD.rule:Bytes)==aa.rule then((j7 aD.facts aa.facts).bind fun y2=>(bif y2 then((og aD.bind aa.bind).bind fun y5=>(some y5))else(some false)))else(some false))
theorem Fz{aD:ai}{aa:ai}{r:Bool}(h:uC aD aa=some r):Good prog 197 [bw (ai.c aD),bw (ai.c aa)] (bQ r):=by
 refine gd func197 bZ 24 fun hr Z hZ=>?_
 rw[uC]at h;obtain⟨h1,h⟩|⟨h1,h⟩:=aK h
 ·obtain⟨y2,h3,h⟩:=aH h;have lC:=(((aY.r 5 h1).g (s8 h3)).b h1)
  obtain⟨h4,h⟩|⟨h4,h⟩:=aK h
  ·obtain⟨y5,h6,h⟩:=aH h;cases aM h;exact(((lC.r 5 h4).g (zY h6)).b h4).ret hZ
  ·cases aM h;exact(lC.r 6 h4).ret hZ
 ·cases aM h;exact((aY.r 6 h1).F 6).ret hZ
def jZ(aD:bL)(aa:ai)(k1:Option Bool):bL->Nat->Option Bool
 | [],i1=>(k1)
 |bg::cj,i1=>((uC bg aa).bind fun L7=>(bif L7 then(some true)else(jZ aD aa k1 cj (i1+1))))
def vG(aD:bL)(aa:ai):Option Bool:=(jZ aD aa (some false) aD 0)
def KB(aD:bL)(aa:ai)(dL:Int):St:=⟨[(3,bp 0 0),(7,bX (aD.map ai.c)),(8,aB ((aD.map ai.c).length:Int)),(9,aB dL)],[bu (ai.c aa)]⟩
theorem Iq(hZ:Z.nt=17){aD:bL}{aa:ai}{r:Bool}{k1:Option Bool}(eC:k1=some r->Ax Z N f130 (.q bZ (bQ r)) [1,1] ⟨[],[]⟩)(hm1:aD.length<=maxLen):∀(rest:bL) (i1:Nat),aD.drop i1=rest->jZ aD aa k1 rest i1=some r->Ar Z N f130 (.q bZ (bQ r)) [1,0,1,0] (rest.length+1) (KB aD aa (i1:Int)):=by
 intro rest
 induction rest with
 |nil=>
  intro i1 bB h;rw[jZ]at h;refine aV fun N1 cq cS=>?_
  exact((aY.ge ai.c bB).a [.hl 0 [] []]).ex hZ cq (eC h)
 |cons bg cj ih1=>
  intro i1 bB h;rw[jZ]at h;refine aV fun N1 cq cS=>?_
  obtain⟨L7,h22,h⟩:=aH h;have fG:=(((aY.lt ai.c bB).l (bK ai.c 3 (dc bB) rfl)).g (Fz h22))
  obtain⟨h23,h⟩|⟨h23,h⟩:=aK h
  ·cases aM h;exact(fG.b h23).ret hZ
  ·exact((fG.b h23).a [.cn [3,7,8,9] [0]]).ct hZ cS (iS bB hm1) (ih1 (i1+1) (dn bB) h)
theorem HC{aD:bL}{aa:ai}{r:Bool}(h:vG aD aa=some r):Good prog 130 [bX (aD.map ai.c),bw (ai.c aa)] (bQ r):=by
 refine gd func130 bZ 17 fun hr Z hZ=>?_
 rw[vG]at h;refine(aY.a [.cn [3,7,8,9] [0]]).lp hZ (Iq hZ (fun h=>?_) (by have:=(gY.sl (hr _ (aE (i:=0) rfl))).1;simpa using this) aD 0 rfl h);cases aM h;exact aY.ret hZ
def uI(aD:ai):Option ai:=((cm aD.facts).bind fun y1=>((j8 aD.bind).bind fun y3=>(some (⟨aD.rule,y1,y3⟩:ai))))
theorem G4{aD:ai}{r:ai}(h:uI aD=some r):Good prog 131 [bw (ai.c aD)] (bw [aZ r.rule,cW 43 2 (r.facts.map aC.c),cW 113 2 (r.bind.map aW.c)]):=by
 refine gd func131 [[none,some (43,2),some (113,2)]] 12 fun hr Z hZ=>?_
 rw[uI]at h;obtain⟨y1,h2,y3,h4,h⟩:=bR h;cases h;exact(((aY.a [.n 8]).g (cu h2)).g (s9 h4)).ret hZ
def gK(aD:bL)(aa:bL)(k1:bL->Option bL):bL->Nat->bL->Option bL
 | [],i1,bY=>(k1 bY)
 |bg::cj,i1,bY=>((vG aa bg).bind fun Va=>(bif !(Va)then((uI bg).bind fun BP=>(bif room ((bY.map ai.c).length+([[aZ BP.rule,bX (BP.facts.map aC.c),bX (BP.bind.map aW.c)]]).length) 64 then(gK aD aa k1 cj (i1+1) (bY++([BP])))else none))else(gK aD aa k1 cj (i1+1) bY)))
def l8(aD:bL)(aa:bL):Option bL:=(gK aD aa (fun(cM:bL)=>(some cM)) aD 0 ([]:bL))
def AP(aD:bL)(aa:bL)(W0:List aT)(dL:Int):St:=⟨[(1,bX (aa.map ai.c)),(5,b9 0),(8,bX (aD.map ai.c)),(9,aB ((aD.map ai.c).length:Int)),(10,aB dL)],[af 57 3 W0]⟩
theorem G6(hZ:Z.nt=25){aD:bL}{aa:bL}{r:bL}{k1:bL->Option bL}(eC:∀(cM:bL),k1 cM=some r->Ax Z N f73 (FU r) [1,1,1] ⟨[(5,b9 0)],[af 57 3 (cM.map ai.c)]⟩)(hm1:aD.length<=maxLen):∀(rest:bL) (i1:Nat) (bY:bL),aD.drop i1=rest->gK aD aa k1 rest i1 bY=some r->Ar Z N f73 (FU r) [1,1,0,1,0] (rest.length+1) (AP aD aa (bY.map ai.c) (i1:Int)):=by
 intro rest
 induction rest with
 |nil=>
  intro i1 bY bB h;rw[gK]at h;refine aV fun N1 cq cS=>?_
  exact((aY.ge ai.c bB).a [.hl 0 [5] [0]]).ex hZ cq (eC bY h)
 |cons bg cj ih1=>
  intro i1 bY bB h;rw[gK]at h;refine aV fun N1 cq cS=>?_
  obtain⟨Va,h43,h⟩:=aH h;have fG:=(((aY.lt ai.c bB).l (bK ai.c 3 (dc bB) rfl)).g (HC h43))
  obtain⟨h44,h⟩|⟨h44,h⟩:=aK h
  ·obtain⟨BP,h46,h⟩:=aH h;obtain⟨h47,h⟩:=bf h;exact((((fG.b h44).g (G4 h46)).w (cA h47)).a [.cn [1,5,8,9,10] [5]]).cs hZ cS (AP aD aa ((bY.map ai.c)++([[aZ BP.rule,bX (BP.facts.map aC.c),bX (BP.bind.map aW.c)]])) (IntKind.i64.wrap ((i1:Int)+1))) (by first| (simp only[iS bB hm1,mA]<;>rfl)| (simp only[iS bB hm1,mA,aC.c,aW.c,aS.c,Action.c,aN.c,aQ.c,ai.c,ah.c,Node.c,aF.c,di.c]<;>rfl)) (ih1 (i1+1) (bY++([BP])) (dn bB) h)
  ·exact((fG.b h44).a [.cn [1,5,8,9,10] [0]]).ct hZ cS (iS bB hm1) (ih1 (i1+1) bY (dn bB) h)
theorem qx{aD:bL}{aa:bL}{r:bL}(h:l8 aD aa=some r):Good prog 73 [bX (aD.map ai.c),bX (aa.map ai.c)] (cW 57 3 (r.map ai.c)):=by
 refine gd func73 [[some (57,3)]] 25 fun hr Z hZ=>?_
 rw[l8]at h;refine(aY.a [.L5 5,.cn [1,5,8,9,10] [0]]).lp hZ (G6 hZ (fun cM h=>?_) (by have:=(gY.sl (hr _ (aE (i:=0) rfl))).1;simpa using this) aD 0 ([]:bL) rfl h);cases aM h;exact aY.ret hZ
def we(aD:aF)(aa:aC)(cv:Bool):Option (bL×bL):=((nQ aD aa).bind fun y1=>(bif cv then((ql aD aa).bind fun y4=>(bif !(y4.2)then(some ([],[]))else((fc aD).bind fun y7=>((fc y4.1).bind fun y9=>((l8 y9 y7).bind fun yc=>((l8 y7 y9).bind fun xO=>(some (yc,xO))))))))else(bif !(y1.2)then(some ([],[]))else((fc aD).bind fun PR=>((fc y1.1).bind fun P3=>((l8 P3 PR).bind fun y20=>((l8 PR P3).bind fun rV=>(some (y20,rV)))))))))
theorem Ft{aD:aF}{aa:aC}{cv:Bool}{r:bL×bL}(h:we aD aa cv=some r):Good prog 28 [bw (aF.c aD),bw (aC.c aa),bQ cv] (D.iz [cW 57 3 (r.1.map ai.c),cW 57 3 (r.2.map ai.c)]):=by
 refine gd func28 [[some (57,3)],[some (57,3)]] 37 fun hr Z hZ=>?_
 rw[we]at h;obtain⟨y1,h2,h⟩:=aH h;obtain⟨h3,h⟩|⟨h3,h⟩:=aK h
 ·obtain⟨y4,h5,h⟩:=aH h;have lC:=(((aY.g (vv h2)).b h3).g (DQ h5))
  obtain⟨h6,h⟩|⟨h6,h⟩:=aK h
  ·cases h;exact(lC.b h6).ret hZ
  ·obtain⟨y7,h8,y9,h10,yc,h12,xO,h14,h⟩:=Bi h;cases h;exact((((((lC.b h6).a [.n 3]).g (qL h8)).g (qL h10)).g (qx h12)).g (qx h14)).ret hZ
 ·have fG:=((aY.g (vv h2)).b h3)
  obtain⟨h15,h⟩|⟨h15,h⟩:=aK h
  ·cases h;exact(fG.b h15).ret hZ
  ·obtain⟨PR,h17,P3,h19,y20,h21,rV,h23,h⟩:=Bi h;cases h;exact((((((fG.b h15).a [.n 3]).g (qL h17)).g (qL h19)).g (qx h21)).g (qx h23)).ret hZ
def nY(aD:aF)(aa:aC):Option (aF×Bool):=((sv aD.facts aa).bind fun y1=>((mc aD).bind fun y3=>(bif !(y3)then((pQ aD).bind fun y6=>(some (y6,false)))else(bif !(y1.2)then((pQ aD).bind fun y9=>(some (y9,false)))else((sQ aD y1.1 aa).bind fun yc=>(some (yc,true)))))))
theorem BV{aD:aF}{aa:aC}{r:aF×Bool}(h:nY aD aa=some r):Good prog 29 [bw (aF.c aD),bw (aC.c aa)] (D.iz [bw [cW 63 4 (r.1.rules.map aN.c),cW 3 1 (r.1.ends.map jN),cW 83 3 (r.1.bG.map ah.c),cW 74 8 (r.1.nodes.map Node.c),cW 43 2 (r.1.facts.map aC.c),aB r.1.cP],bQ r.2]):=by
 refine gd func29 sJ 28 fun hr Z hZ=>?_
 rw[nY]at h;obtain⟨y1,h2,y3,h4,h⟩:=bR h;have lC:=((aY.g (FA h2)).g (vi h4))
 obtain⟨h5,h⟩|⟨h5,h⟩:=aK h
 ·obtain⟨y6,h7,h⟩:=aH h;cases h;exact(((lC.r 3 h5).T 1).g (rj h7)).ret hZ
 ·have fG:=(lC.r 3 h5)
  obtain⟨h8,h⟩|⟨h8,h⟩:=aK h
  ·obtain⟨y9,h10,h⟩:=aH h;cases h;exact((fG.b h8).g (rj h10)).ret hZ
  ·obtain⟨yc,h12,h⟩:=aH h;cases h;exact((fG.b h8).g (Aa h12)).ret hZ
def jw(aD:ai)(aa:aC):Option Bool:=((qY aD.facts aa).bind fun y1=>(some (decide ((y1:Int)>=0))))
theorem mV{aD:ai}{aa:aC}{r:Bool}(h:jw aD aa=some r):Good prog 33 [bw (ai.c aD),bw (aC.c aa)] (bQ r):=by
 refine gd func33 bZ 10 fun hr Z hZ=>?_
 rw[jw]at h;obtain⟨y1,h2,h⟩:=aH h;cases h;exact(aY.g (wH h2)).ret hZ
theorem xk{G:Type}{a pre xs:List G}{x:G}(h:a=pre++x::xs):gA a (pre.length:Int)=some x:=by
 unfold gA;have:a[pre.length]?=some x:=by rw[h];simp
 simp[this]
theorem Fg{n b:Nat}(hn:n<=1099511627776)(hb:b<=128):room n b=true:=by
 unfold room maxLen;have:n*b<=1099511627776*128:=Gh hn hb;simp;omega
theorem gG{G:Type}{w:List G}{c:G->aT}{y:aT}{b:Nat}(h:w.length<1099511627776)(hb:b<=128):room ((w.map c).length+([y]).length) b=true:=Fg (by simp;omega) hb
theorem a2e{G E:Type}{w:List G}{v:List E}{c:G->aT}{d:E->aT}{b:Nat}(h:w.length+v.length<=1099511627776)(hb:b<=128):room ((w.map c).length+(v.map d).length) b=true:=Fg (by simp;omega) hb
theorem VI{E:Type}{v:List E}{d:E->aT}{b:Nat}(h:v.length<=1099511627776)(hb:b<=128):room (([]:List aT).length+(v.map d).length) b=true:=Fg (by simp;omega) hb
theorem sF{G:Type}{l:List G}(h:l.length<=1099511627776):decide (l.length<=maxLen)=true:=by unfold maxLen;simp;omega
theorem GX{G E I:Type}{c:E->aT}{b:Nat}{f:G->Option E}{g:G->E}{L:List G->Nat->List E->Option I}{k:List E->Option I}(hb:b<=128)(wo:∀i w,L [] i w=k w)
 (wO:∀x xs i w,L (x::xs) i w=(f x).bind fun y=>bif room ((w.map c).length+([c y]).length) b then L xs (i+1) (w++[y])else none):
 ∀(l:List G) (i:Nat) (w:List E),(∀x∈l,f x=some (g x))->w.length+l.length<=1099511627776->L l i w=k (w++l.map g):=by
 intro l
 induction l with
 |nil=>intro i w _ _;simp[wo]
 |cons x xs ih=>
  intro i w hf hl;simp only[aR]at hl;rw[wO,hf x (by simp),aA,gG (by omega) hb,aG,ih _ _ (fun y hy=>hf y (by simp[hy])) (by simp;omega)];simp
theorem Yn{G:Type}{f:G->Option Bool}{p:G->Bool}{L:List G->Nat->Option Bool}{k:Option Bool}(wo:∀i,L [] i=k)
 (wO:∀x xs i,L (x::xs) i=(f x).bind fun y=>bif !y then some false else L xs (i+1)):∀(l:List G) (i:Nat),(∀x∈l,f x=some (p x))->L l i=bif l.all p then k else some false:=by
 intro l
 induction l with
 |nil=>intro i _;simp[wo]
 |cons x xs ih=>
  intro i hf;rw[wO,hf x (by simp),aA,ih _ (fun y hy=>hf y (by simp[hy])),eE];cases p x<;>simp
theorem sK:∀(a:Bytes),Op.bytesLess a a=false
 | []=>rfl
 |x::a=>by simp[Op.bytesLess,sK a]
theorem AH:∀ {a b c:Bytes},Op.bytesLess a b=true->Op.bytesLess b c=true->Op.bytesLess a c=true
 | [],b,[],_,h2=>by cases b<;>simp[Op.bytesLess]at h2
 | [],b,_::_,_,_=>by simp[Op.bytesLess]
 |_::_,[],_,h1,_=>by simp[Op.bytesLess]at h1
 |_::_,_::_,[],_,h2=>by simp[Op.bytesLess]at h2
 |x::a,y::b,z::c,h1,h2=>by
  simp only[Op.bytesLess,qT,bH,aU,cr]at h1 h2⊢;rcases h1 with h1|⟨rfl,h1⟩
  ·rcases h2 with h2|⟨rfl,h2⟩
   ·exact .inl (UInt8.lt_trans h1 h2)
   ·exact .inl h1
  ·rcases h2 with h2|⟨rfl,h2⟩
   ·exact .inl h2
   ·exact .inr ⟨rfl,AH h1 h2⟩
theorem Gp:∀ {a b:Bytes},Op.bytesLess a b=false->Op.bytesLess b a=false->a=b
 | [],[],_,_=>rfl
 | [],_::_,h,_=>by simp[Op.bytesLess]at h
 |_::_,[],_,h=>by simp[Op.bytesLess]at h
 |x::a,y::b,h1,h2=>by
  simp only[Op.bytesLess,Bool.or_eq_false_iff,qF,Fl,dA,ne_eq]at h1 h2;have e:x=y:=by
   have h3:=h1.1;have h4:=h2.1;rw[Fp]at h3 h4;exact UInt8.toNat_inj.1 (by omega)
  subst e;rw[Gp (h1.2.resolve_left (by simp)) (h2.2.resolve_left (by simp))]
theorem LN{a b:Bytes}(h:Op.bytesLess a b=true):Op.bytesLess b a=false:=by
 cases hb:Op.bytesLess b a with
 |false=>rfl
 |true=>have:=AH h hb;rw[sK]at this;cases this
def SS(l:aI):Prop:=l.Pairwise fun a b=>Op.bytesLess a b=true
theorem N6:∀ {a b:aI},SS a->SS b->(∀x,x∈a↔x∈b)->a=b
 | [],[],_,_,_=>rfl
 | [],y::b,_,_,h=>by have:=(h y).2 (by simp);cases this
 |x::a,[],_,_,h=>by have:=(h x).1 (by simp);cases this
 |x::a,y::b,h1,h2,h=>by
  obtain⟨p1,p2⟩:=lZ.1 h1;obtain⟨q1,q2⟩:=lZ.1 h2;have e:x=y:=by
   refine Gp ?_ ?_
   ·cases hb:Op.bytesLess x y with
    |false=>rfl
    |true=>
     rcases bV.1 ((h x).1 (by simp))with rfl|hx
     ·exact(sK x▸hb).symm
     ·have:=LN (q1 x hx);rw[hb]at this;exact this
   ·cases hb:Op.bytesLess y x with
    |false=>rfl
    |true=>
     rcases bV.1 ((h y).2 (by simp))with rfl|hx
     ·exact(sK y▸hb).symm
     ·have:=LN (p1 y hx);rw[hb]at this;exact this
  subst e;rw[N6 p2 q2 (fun z=>?_)];constructor
  ·intro hz;rcases bV.1 ((h z).1 (by simp[hz]))with rfl|RO
   ·have:=p1 z hz;rw[sK]at this;cases this
   ·exact RO
  ·intro hz;rcases bV.1 ((h z).2 (by simp[hz]))with rfl|RO
   ·have:=q1 z hz;rw[sK]at this;cases this
   ·exact RO
def B3:aI->Bytes->aI
 | [],s=>[s]
 |x::xs,s=>bif Op.bytesLess x s then x::B3 xs s else bif x==s then x::xs else s::x::xs
theorem QU:∀ {l:aI} {s y:Bytes},y∈B3 l s↔y=s\/y∈l
 | [],s,y=>by simp[B3]
 |x::xs,s,y=>by
  simp only[B3];cases Op.bytesLess x s with
  |true=>simp only[aG,bV,QU (l:=xs)];constructor<;>(rintro(h|h|h)<;>simp[h])
  |false=>
   simp only[aL];cases hx:x==s with
   |true=>
    simp only[cr]at hx;subst hx;simp
   |false=>simp
theorem YO:∀ {l:aI} {s:Bytes},SS l->SS (B3 l s)
 | [],s,_=>by simp[B3,SS]
 |x::xs,s,h=>by
  obtain⟨p1,p2⟩:=lZ.1 h;simp only[B3];cases hb:Op.bytesLess x s with
  |true=>
   simp only[aG];refine lZ.2 ⟨fun y hy=>?_,YO p2⟩;rcases QU.1 hy with rfl|hy
   ·exact hb
   ·exact p1 y hy
  |false=>
   simp only[aL];cases hx:x==s with
   |true=>exact h
   |false=>
    have hs:Op.bytesLess s x=true:=by
     cases hc:Op.bytesLess s x with
     |true=>rfl
     |false=>have:=Gp hb hc;subst this;simp at hx
    refine lZ.2 ⟨fun y hy=>?_,h⟩;rcases bV.1 hy with rfl|hy
    ·exact hs
    ·exact AH hs (p1 y hy)
theorem CR:∀(l:aI) (s:Bytes),(B3 l s).length<=l.length+1
 | [],s=>by simp[B3]
 |x::xs,s=>by
  have:=CR xs s;simp only[B3];cases Op.bytesLess x s<;>simp only[aG,aL,aR]
  ·cases x==s<;>simp
  ·omega
def fU(l:aI):aI:=l.foldl B3 []
theorem Hw:∀(l a:aI) (y:Bytes),y∈l.foldl B3 a↔y∈a\/y∈l
 | [],a,y=>by simp
 |x::l,a,y=>by
  rw[cy,Hw l,QU];simp only[bV];constructor
  ·rintro((h|h)|h)<;>simp[h]
  ·rintro(h|h|h)<;>simp[h]
theorem Jk:∀(l:aI) {a:aI},SS a->SS (l.foldl B3 a)
 | [],a,h=>h
 |x::l,a,h=>Jk l (YO h)
theorem Hv:∀(l a:aI),(l.foldl B3 a).length<=a.length+l.length
 | [],a=>by simp
 |x::l,a=>by
  have h1:=Hv l (B3 a x);have h2:=CR a x;rw[cy,aR];omega
theorem rS{l:aI}{y:Bytes}:y∈fU l↔y∈l:=by unfold fU;rw[Hw];simp
theorem Qq(l:aI):SS (fU l):=Jk l (by simp[SS])
theorem sR(l:aI):(fU l).length<=l.length:=by have:=Hv l [];simpa[fU]using this
theorem IE{a b:aI}(h:∀x,x∈a↔x∈b):fU a=fU b:=N6 (Qq a) (Qq b) (fun x=>by rw[rS,rS,h])
theorem X5(a:aI)(x:Bytes):B3 (fU a) x=fU (a++[x]):=by simp[fU]
theorem X4(a b:aI):b.foldl B3 (fU a)=fU (a++b):=by simp[fU]
theorem IF(a b:aI):(fU b).foldl B3 (fU a)=fU (a++b):=by
 rw[X4];exact IE (fun x=>by simp[rS])
theorem pT(l:aI)(v:Bytes):(fU l).contains v=l.contains v:=by
 rw[cK];simp[rS]
def in1(x:UInt8):Bool:=decide ((x.toNat:Int)>=97)&&decide ((x.toNat:Int)<=122)
def in2(x:UInt8):Bool:=decide ((x.toNat:Int)>=48)&&decide ((x.toNat:Int)<=57)
def ab(x:UInt8):Bool:=in1 x||in2 x
def ZK(s:Bytes):Bool:=decide ((s.length:Int)>=1)&&decide ((s.length:Int)<=8)
def fW(s:Bytes):Bool:=s.all ab&&ZK s
def a6V:Bytes->Bool
 | []=>false
 |x::_=>decide ((x.toNat:Int)>=97)
def zH(s:Bytes):Bool:=fW s&&a6V s
def fp:Bytes->Bool
 | []=>false
 |x::t=>decide ((x.toNat:Int)=63)&&fW t
def nC(s:Bytes):Bool:=fW s||fp s
theorem Bf{s:Bytes}(h:fW s=true):1<=s.length/\s.length<=8:=by
 simp only[fW,ZK,aU,bH]at h;omega
theorem S6{s:Bytes}(h:zH s=true):1<=s.length/\s.length<=8:=by
 simp only[zH,aU]at h;exact Bf h.1
theorem IJ{s:Bytes}(h:fp s=true):1<=s.length/\s.length<=9:=by
 cases s with
 |nil=>cases h
 |cons x t=>simp only[fp,aU]at h;have:=Bf h.2;simp;omega
theorem Zp{s:Bytes}(h:nC s=true):1<=s.length/\s.length<=9:=by
 simp only[nC,qT]at h;rcases h with h|h
 ·have:=Bf h;omega
 ·exact IJ h
theorem nj{s:Bytes}(h:fp s=true):fW s=false:=by
 cases s with
 |nil=>cases h
 |cons x t=>
  simp only[fp,aU,bH]at h;simp only[fW,eE,ab,in1,in2];have:(x.toNat:Int)=63:=h.1;simp[this]
theorem a7j(x:UInt8):IntKind.i64.wrap ((x.toNat:Nat):Int)=(x.toNat:Int):=eD (qv.i64.2 (by have:=x.toNat_lt;omega))
theorem Fj{n:Nat}(h:n<=1099511627776):IntKind.i64.wrap ((n:Int)+1)=((n+1:Nat):Int):=by rw[eD (qv.i64.2 (by omega))];omega
theorem YE{n:Nat}(h:1<=n):yG n (some (D.int .i64 1)) none=some (1,n):=by
 unfold yG;have:(0:Int)<=1/\(1:Int).toNat<=n:=⟨by decide,h⟩
 simp only[bO this];rfl
theorem MM(a b c:Int):mo a b c=some (decide (a>=b)&&decide (a<=c)):=by
 unfold mo;cases decide (a>=b)<;>rfl
theorem a9K(a:Bytes)(k:Option Bool)(ha:a.length<=1048576):∀(rest pre:Bytes),a=pre++rest->∀n,rest.length<n->kH a k n (pre.length:Int)=bif rest.all ab then k else some false:=by
 intro rest
 induction rest with
 |nil=>
  intro pre h n hn;obtain⟨m,rfl⟩:∃m,n=m+1:=⟨n-1,by simp at hn;omega⟩
  have e1:decide ((pre.length:Int)<(a.length:Int))=false:=by simp[h]
  rw[kH,e1];rfl
 |cons x xs ih=>
  intro pre h n hn;obtain⟨m,rfl⟩:∃m,n=m+1:=⟨n-1,by simp at hn;omega⟩
  have hl:a.length=pre.length+(xs.length+1):=by rw[h];simp
  have e1:decide ((pre.length:Int)<(a.length:Int))=true:=by rw[hl];simp;omega
  have e4:IntKind.i64.wrap ((pre.length:Int)+1)=((pre++[x]).length:Int):=by rw[Fj (by omega)];simp
  have t:=ih (pre++[x]) (by simp[h]) m (by simp at hn;omega);rw[kH,e1,aG,xk h,aA,a7j,MM,MM,aA,aA,e4,t,eE];show(bif !in1 x then(bif !in2 x then _ else _)else _)=bif (in1 x||in2 x)&&xs.all ab then k else some false
  cases in1 x<;>cases in2 x<;>simp
theorem OW(a:Bytes)(ha:a.length<=1048576):gU a=some (fW a):=by
 unfold gU;refine(a9K a _ ha a [] rfl fuel (by unfold fuel;omega)).trans ?_;rw[MM,aA];show _=some (a.all ab&&ZK a);cases a.all ab<;>rfl
theorem a8f(a:Bytes)(k:Option Bool)(ha:a.length<=1048576):∀(rest pre:Bytes),a=pre++rest->∀n,rest.length<n->iA a k n (pre.length:Int)=bif rest.all ab then k else some false:=by
 intro rest
 induction rest with
 |nil=>
  intro pre h n hn;obtain⟨m,rfl⟩:∃m,n=m+1:=⟨n-1,by simp at hn;omega⟩
  have e1:decide ((pre.length:Int)<(a.length:Int))=false:=by simp[h]
  rw[iA,e1];rfl
 |cons x xs ih=>
  intro pre h n hn;obtain⟨m,rfl⟩:∃m,n=m+1:=⟨n-1,by simp at hn;omega⟩
  have hl:a.length=pre.length+(xs.length+1):=by rw[h];simp
  have e1:decide ((pre.length:Int)<(a.length:Int))=true:=by rw[hl];simp;omega
  have e4:IntKind.i64.wrap ((pre.length:Int)+1)=((pre++[x]).length:Int):=by rw[Fj (by omega)];simp
  have t:=ih (pre++[x]) (by simp[h]) m (by simp at hn;omega);rw[iA,e1,aG,xk h,aA,e4,t,eE];have c1:decide ((x.toNat:Int)>=97)= !decide ((x.toNat:Int)<97):=by rw[cK];simp
  have c2:decide ((x.toNat:Int)<=122)= !decide ((x.toNat:Int)>122):=by rw[cK];simp
  have c3:decide ((x.toNat:Int)>=48)= !decide ((x.toNat:Int)<48):=by rw[cK];simp
  have c4:decide ((x.toNat:Int)<=57)= !decide ((x.toNat:Int)>57):=by rw[cK];simp
  rw[ab,in1,in2,c1,c2,c3,c4];cases decide ((x.toNat:Int)<97)<;>cases decide ((x.toNat:Int)>122)<;>cases decide ((x.toNat:Int)<48)<;>cases decide ((x.toNat:Int)>57)<;>simp
theorem OH(a:Bytes)(ha:a.length<=1048576):gR a=some (fW a):=by
 unfold gR;rw[show iA a (some true) fuel 0=_ from a8f a _ ha a [] rfl fuel (by unfold fuel;omega)];have c1:decide ((a.length:Int)>=1)= !decide ((a.length:Int)<1):=by rw[cK];simp
 have c2:decide ((a.length:Int)<=8)= !decide ((a.length:Int)>8):=by rw[cK];simp
 rw[fW,ZK,c1,c2];cases decide ((a.length:Int)<1)<;>cases decide ((a.length:Int)>8)<;>cases a.all ab<;>rfl
theorem a2w(a:Bytes)(ha:a.length<=1048576):tS a=some (zH a):=by
 unfold tS;rw[OW a ha,aA,zH];cases h:fW a with
 |false=>rfl
 |true=>
  cases a with
  |nil=>simp[fW,ZK]at h
  |cons x xs=>
   rw[show gA (x::xs) 0=some x from rfl];simp only[aG,aA,a7j,MM,fM,bD,a6V];simp only[fW,eE,ab,in1,in2,aU,qT,bH]at h;rw[cK];simp only[aU,bH];omega
theorem a1b(a:Bytes)(ha:a.length<=1048576):tQ a=some (zH a):=by
 unfold tQ;rw[OH a ha,aA,zH];cases h:fW a with
 |false=>rfl
 |true=>
  cases a with
  |nil=>simp[fW,ZK]at h
  |cons x xs=>rfl
theorem Th(a:Bytes)(ha:a.length<=1048576):iq a=some (fp a):=by
 unfold iq;cases a with
 |nil=>rfl
 |cons x t=>
  simp only[aR]at ha;rw[show gA (x::t) 0=some x from rfl,aA,YE (by simp),aA];have e:(((x::t).take ((x::t).length)).drop 1)=t:=by simp
  simp only[e,OW t (by omega),aA,fp,lS];cases t with
  |nil=>cases decide ((x.toNat:Int)=63)<;>rfl
  |cons y t=>
   have e2:decide ((((x::y::t).length:Int):Int)>1)=true:=by simp;omega
   rw[e2];cases decide ((x.toNat:Int)=63)<;>simp
theorem ZF(a:Bytes)(ha:a.length<=1048576):nO a=some (fp a):=by
 unfold nO;cases a with
 |nil=>rfl
 |cons x t=>
  simp only[aR]at ha;rw[show gA (x::t) 0=some x from rfl,aA,YE (by simp),aA];have e:(((x::t).take ((x::t).length)).drop 1)=t:=by simp
  simp only[e,OH t (by omega),aA,fp,lS];cases t with
  |nil=>cases decide ((x.toNat:Int)=63)<;>rfl
  |cons y t=>
   have e2:decide ((((x::y::t).length:Int):Int)>1)=true:=by simp;omega
   rw[e2];cases decide ((x.toNat:Int)=63)<;>simp
theorem a3A(a:Bytes)(ha:a.length<=1048576):jx a=some (nC a):=by
 unfold jx nC;rw[OW a ha,Th a ha];cases fW a<;>simp
theorem a1h(a:Bytes)(ha:a.length<=1048576):jv a=some (nC a):=by
 unfold jv nC;rw[OH a ha,ZF a ha];cases fW a<;>simp
theorem a3C(l:aI)(h:l.length<=1099511627776):uT l=some l:=by
 unfold uT;rw[VI h (by decide)];rfl
theorem TG(l:aI)(h:l.length<=1099511627776):oa l=some l:=by
 unfold oa;rw[VI h (by decide)];rfl
theorem a39(a b:aI):oq a b=some (decide (a=b)):=by
 unfold oq;exact eqL (c:=tx) (f:=fun x y=>some (x==y)) (fun k=>lK a b k) (fun _ _=>rfl) (fun _ _ _ _=>rfl) (fun x y=>by rw[bD,cK];simp)
theorem a1f(a b:aI):rO a b=some (decide (a=b)):=by
 unfold rO;exact eqL (c:=tx) (f:=fun x y=>some (x==y)) (fun k=>o7 a b k) (fun _ _=>rfl) (fun _ _ _ _=>rfl) (fun x y=>by rw[bD,cK];simp)
theorem a8p(a b:bM):vI a b=some (decide (a=b)):=by
 unfold vI;exact eqL (c:=jN) (f:=fun x y=>some (x==y)) (fun k=>oc a b k) (fun _ _=>rfl) (fun _ _ _ _=>rfl) (fun x y=>by rw[bD,cK];simp)
theorem Zk(l:aI)(v:Bytes):iF l v=some (l.contains v):=by
 unfold iF;have:∀(r:aI) (i:Nat),kq l v (some false) r i=some (r.contains v):=by
  intro r
  induction r with
  |nil=>intro i;rfl
  |cons x r ih=>
   intro i;rw[kq,ih,List.contains_cons];have:(x==v)=(v==x):=by rw[cK,cr,cr];exact eq_comm
   rw[this];cases v==x<;>rfl
 exact this l 0
theorem a52(l:aI)(v:Bytes):nT l v=some (l.contains v):=by
 unfold nT;have:∀(r:aI) (i:Nat),nU l v (some false) r i=some (r.contains v):=by
  intro r
  induction r with
  |nil=>intro i;rfl
  |cons x r ih=>
   intro i;rw[nU,ih,List.contains_cons];have:(x==v)=(v==x):=by rw[cK,cr,cr];exact eq_comm
   rw[this];cases v==x<;>rfl
 exact this l 0
theorem a7c(a:aI)(s:Bytes)(k:Bool->aI->Option aI):∀(l:aI) (i:Nat) (w:aI),w.length+l.length<1099511627776->
 fT a s k l i true w=k true (w++l):=by
 intro l
 induction l with
 |nil=>intro i w _;simp[fT]
 |cons x xs ih=>
  intro i w h;simp only[aR]at h;rw[fT,bU,aL,gG (by omega) (by decide),aG,ih _ _ (by simp;omega)];simp
theorem aCu(a:aI)(s:Bytes)(k:Bool->aI->Option aI)(hk:∀w,w.length<1099511627776->k false w=some (w++[s]))(hk2:∀w,k true w=some w):∀(l:aI) (i:Nat) (w:aI),w.length+l.length+1<1099511627776->
 fT a s k l i false w=some (w++B3 l s):=by
 intro l
 induction l with
 |nil=>intro i w h;rw[fT,hk w (by omega)];rfl
 |cons x xs ih=>
  intro i w h;simp only[aR]at h;rw[fT,bt,aG,B3];cases Op.bytesLess x s with
  |true=>
   simp only[bU,aL,aG];rw[gG (by omega) (by decide),aG,ih _ _ (by simp;omega)];simp
  |false=>
   simp only[bt,aG,aL];cases x==s with
   |true=>
    simp only[bU,aL,aG];rw[gG (by omega) (by decide),aG,a7c _ _ _ _ _ _ (by simp;omega),hk2];simp
   |false=>
    simp only[bt,aG,aL];rw[gG (by omega) (by decide),aG];have e:room (((w.map tx)++[[D.str s]]).length+([[D.str x]]).length) 16=true:=Fg (by simp;omega) (by decide);rw[e,aG,a7c _ _ _ _ _ _ (by simp;omega),hk2];simp
theorem Wv(l:aI)(s:Bytes)(h:l.length+1<1099511627776):nZ l s=some (B3 l s):=by
 unfold nZ;rw[aCu l s _ (fun w hw=>by simp only[bt,aG];rw[gG hw (by decide)];rfl) (fun w=>by simp) l 0 [] (by simpa using h)];rfl
def dd:Option Bytes->aI->aI
 |_,[]=>[]
 |p,x::xs=>if p=some x then dd (some x) xs else x::dd (some x) xs
theorem Vu:∀ {l:aI} {p:Option Bytes} {y:Bytes},y∈dd p l->y∈l
 | [],p,y,h=>by cases h
 |x::xs,p,y,h=>by
  simp only[dd]at h;split at h
  ·exact bV.2 (.inr (Vu h))
  ·rcases bV.1 h with rfl|h
   ·simp
   ·exact bV.2 (.inr (Vu h))
theorem a25:∀ {l:aI} {p:Option Bytes} {y:Bytes},y∈l->p=some y\/y∈dd p l
 |x::xs,p,y,h=>by
  simp only[dd];rcases bV.1 h with rfl|h
  ·by_cases hp:p=some y
   ·exact .inl hp
   ·rw[bE hp];exact .inr (by simp)
  ·have:=a25 (p:=some x) h;split
   ·rename_i hp;rcases this with e|e
    ·exact .inl (hp.trans e)
    ·exact .inr e
   ·rcases this with e|e
    ·cases e;exact .inr (by simp)
    ·exact .inr (by simp[e])
theorem a6N:∀ {l:aI} {p:Option Bytes},l.Pairwise (fun a b=>Op.bytesLess b a=false)->(∀q,p=some q->∀y∈l,Op.bytesLess y q=false)->SS (dd p l)/\∀q,p=some q->∀y∈dd p l,Op.bytesLess q y=true
 | [],p,_,_=>⟨by simp[dd,SS],by simp[dd]⟩
 |x::xs,p,h,hp=>by
  obtain⟨p1,p2⟩:=lZ.1 h;obtain⟨i1,i2⟩:=a6N (l:=xs) (p:=some x) p2 (fun q hq y hy=>by cases hq;exact p1 y hy);simp only[dd];split
  ·rename_i he;exact⟨i1,fun q hq y hy=>by rw[he]at hq;cases hq;exact i2 x rfl y hy⟩
  ·rename_i he;refine⟨lZ.2 ⟨fun y hy=>i2 x rfl y hy,i1⟩,fun q hq y hy=>?_⟩;have hqx:Op.bytesLess q x=true:=by
    cases hc:Op.bytesLess q x with
    |true=>rfl
    |false=>exact absurd (by rw[hq,Gp hc (hp q hq x (by simp))]) he
   rcases bV.1 hy with rfl|hy
   ·exact hqx
   ·exact AH hqx (i2 x rfl y hy)
theorem a3F(l:aI):qR l=l.mergeSort (fun x y=> !Op.bytesLess y x):=by
 unfold qR
 congr 1
 funext x y
 rw[Go.Proofs.bytesLess_eq];rw[cK];simp[List.not_lt]
theorem Tl(l:aI):(qR l).Pairwise (fun a b=>Op.bytesLess b a=false):=by
 rw[a3F];have:=List.pairwise_mergeSort (le:=fun x y=> !Op.bytesLess y x) (fun a b c h1 h2=>by
  simp only[kx]at h1 h2⊢;cases hc:Op.bytesLess c a with
  |false=>rfl
  |true=>
   cases hb:Op.bytesLess b a with
   |true=>rw[h1]at hb;cases hb
   |false=>
    cases On:Op.bytesLess a b with
    |true=>have:=AH hc On;rw[h2]at this;cases this
    |false=>have:=Gp hb On;subst this;rw[h2]at hc;cases hc) (fun a b=>by
  cases hc:Op.bytesLess b a with
  |false=>simp
  |true=>simp[LN hc]) l
 exact this.imp (fun h=>by simpa using h)
theorem a4g(l:aI):dd none (qR l)=fU l:=by
 refine N6 (a6N (Tl l) (by simp)).1 (Qq l) (fun x=>?_);rw[rS];have hm:x∈qR l↔x∈l:=(Ca l).mem_iff;constructor
 ·intro h;exact hm.1 (Vu h)
 ·intro h;rcases a25 (p:=none) (hm.2 h)with h|h
  ·cases h
  ·exact h
theorem a1g(a:aI)(k:aI->Option aI)(ha:a.length<=1099511627775):∀(rest pre:aI) (w:aI),qR ([]++a)=pre++rest->w.length+rest.length<=1099511627775->
 er a k rest pre.length w=k (w++dd pre.getLast? rest):=by
 have hlen:(qR ([]++a)).length=a.length:=(Ca _).length_eq;intro rest
 induction rest with
 |nil=>intro pre w _ _;simp[er,dd]
 |cons x xs ih=>
  intro pre w h hw;simp only[aR]at hw;have hl:pre.length+(xs.length+1)=a.length:=by rw[<-hlen,h];simp
  have t:=fun w'=>ih (pre++[x]) w' (by rw[h];simp)
  simp only[bC,aR,cE,pR]at t;rw[er];rcases zP pre with rfl|⟨p,z,hpz⟩
  ·have e0:(((([]:aI).length:Int):Int)==0)=true:=rfl;rw[e0,aG,gG (by omega) (by decide),aG,t _ (by simp;omega)];simp[dd]
  ·rw[zO]at hpz;subst hpz;have e0:((((p++[z]).length:Int):Int)==0)=false:=by simp;omega
   have e1:IntKind.i64.wrap (((p++[z]).length:Int)-1)=(p.length:Int):=by
    rw[eD (qv.i64.2 (by simp at hl⊢;omega))];simp
   have e2:gA (qR ([]++a)) (p.length:Int)=some z:=xk (xs:=x::xs) (by rw[h];simp);rw[e0,aL,e1,e2,aA];simp only[dd,pR];by_cases hz:z=x
   ·subst hz;have e3:((z:Bytes)==z)=true:=by simp
    rw[e3,bU,aL,t _ (by omega),bO rfl]
   ·have e3:((z:Bytes)==x)=false:=by simpa using hz
    rw[e3,bt,aG,gG (by omega) (by decide),aG,t _ (by simp;omega),bE (by simpa using hz)];simp
theorem TE(l:aI)(h:l.length<1099511627775):lu l=some (fU l):=by
 have hlen:(qR ([]++l)).length=l.length:=(Ca _).length_eq;unfold lu;have e1:decide ((([]:aI)++l).length<4611686018427387904)=true:=by simp;omega
 rw[VI (by omega) (by decide),aG,e1,aG,sF (by rw[hlen];omega),aG];have:=a1g l (fun q=>some q) (by omega) (qR ([]++l)) [] [] rfl (by rw[hlen];simp;omega);rw[show([]:aI).length=0 from rfl]at this;rw[this,<-a4g];simp
theorem aC.TX{p:aC}{n:Nat}(h:p.wt<=n):p.rel.length<=n:=by unfold aC.wt tw at h;omega
theorem aC.dZ{p:aC}{n:Nat}(h:p.wt<=n):p.args.length<=n:=by unfold aC.wt at h;have:=tK tw p.args;omega
theorem aC.ve{p:aC}{n:Nat}(h:p.wt<=n){x:Bytes}(hx:x∈p.args):x.length<=n:=by unfold aC.wt at h;have:=qS (w:=tw) hx;have e:tw x=x.length:=rfl;omega
theorem aS.gW{c:aS}{n:Nat}(h:c.wt<=n):c.pat.wt<=n:=by simp only[aS.wt,aC.wt]at h⊢;omega
theorem aS.DC{c:aS}{n:Nat}(h:c.wt<=n):c.left.length<=n:=by simp only[aS.wt,tw]at h;omega
theorem aS.Ae{c:aS}{n:Nat}(h:c.wt<=n):c.right.length<=n:=by simp only[aS.wt,tw]at h;omega
theorem Action.gW{c:Action}{n:Nat}(h:c.wt<=n):c.pat.wt<=n:=by simp only[Action.wt,aC.wt]at h⊢;omega
theorem aN.Y9{r:aN}{n:Nat}(h:r.wt<=n):r.name.length<=n:=by simp only[aN.wt,tw]at h;omega
theorem aN.vA{r:aN}{n:Nat}(h:r.wt<=n):sD aS.wt r.conds<=n:=by simp only[aN.wt]at h;omega
theorem aN.LI{r:aN}{n:Nat}(h:r.wt<=n):sD Action.wt r.dD<=n:=by simp only[aN.wt]at h;omega
theorem aN.th{r:aN}{n:Nat}(h:r.wt<=n){c:aS}(hc:c∈r.conds):c.wt<=n:=by have:=aN.vA h;have:=qS (w:=aS.wt) hc;omega
theorem aN.Sc{r:aN}{n:Nat}(h:r.wt<=n){c:Action}(hc:c∈r.dD):c.wt<=n:=by have:=aN.LI h;have:=qS (w:=Action.wt) hc;omega
theorem zu(f:aC)(h:f.args.length<=1099511627776):eF f=some f:=by
 unfold eF;rw[a3C _ h];rfl
theorem Nf(f:aC)(h:f.args.length<=1099511627776):ew f=some f:=by
 unfold ew;rw[TG _ h];rfl
theorem Ww(a b:aC):rG a b=some (decide (a=b)):=by
 obtain⟨a0,a1⟩:=a;obtain⟨b0,b1⟩:=b;unfold rG;simp only[a39,aA,lS];by_cases h0:a0=b0<;>by_cases h1:a1=b1<;>simp[h0,h1]
theorem a1e(a b:aC):qZ a b=some (decide (a=b)):=by
 obtain⟨a0,a1⟩:=a;obtain⟨b0,b1⟩:=b;unfold qZ;simp only[a1f,aA,lS];by_cases h0:a0=b0<;>by_cases h1:a1=b1<;>simp[h0,h1]
theorem Wx(a b:aC):jj a b=some (decide (a=b)):=by
 obtain⟨a0,a1⟩:=a;obtain⟨b0,b1⟩:=b;unfold jj;simp only[a39,aA,lS];by_cases h0:a0=b0<;>by_cases h1:a1=b1<;>simp[h0,h1]
theorem QD(a b:aC):gS a b=some (decide (a=b)):=by
 obtain⟨a0,a1⟩:=a;obtain⟨b0,b1⟩:=b;unfold gS;simp only[a1f,aA,lS];by_cases h0:a0=b0<;>by_cases h1:a1=b1<;>simp[h0,h1]
theorem PJ(a b:aJ):mj a b=some (decide (a=b)):=by
 unfold mj;exact eqL (c:=aC.c) (f:=rG) (fun k=>oA a b k) (fun _ _=>rfl) (fun _ _ _ _=>rfl) Ww
theorem ML(a b:aJ):j7 a b=some (decide (a=b)):=by
 unfold j7;exact eqL (c:=aC.c) (f:=qZ) (fun k=>nw a b k) (fun _ _=>rfl) (fun _ _ _ _=>rfl) a1e
def w9(p:aC):Bool:=p.args.all nC&&(zH p.rel&&decide ((p.args.length:Int)<=3))
def pL(f:aC):Bool:=f.args.all fW&&(zH f.rel&&decide ((f.args.length:Int)<=3))
theorem a2s(f:aC)(h:f.wt<=1048576):rE f=some (pL f):=by
 unfold rE;rw[Yn (f:=gU) (L:=rP f _) (fun _=>rfl) (fun _ _ _=>rfl) f.args 0 (fun x hx=>OW x (aC.ve h hx)),a2w _ (aC.TX h),aA,aq,pL];cases f.args.all fW<;>cases zH f.rel<;>rfl
theorem a1a(f:aC)(h:f.wt<=1048576):rC f=some (pL f):=by
 unfold rC;rw[Yn (f:=gR) (L:=rM f _) (fun _=>rfl) (fun _ _ _=>rfl) f.args 0 (fun x hx=>OH x (aC.ve h hx)),a1b _ (aC.TX h),aA,aq,pL];have c:decide ((f.args.length:Int)<=3)= !decide ((f.args.length:Int)>3):=by rw[cK];simp
 rw[c];cases f.args.all fW<;>cases zH f.rel<;>cases decide ((f.args.length:Int)>3)<;>rfl
theorem a9U(f:aC)(h:f.wt<=1048576):j9 f=some (w9 f):=by
 unfold j9;rw[Yn (f:=jx) (L:=o8 f _) (fun _=>rfl) (fun _ _ _=>rfl) f.args 0 (fun x hx=>a3A x (aC.ve h hx)),a2w _ (aC.TX h),aA,aq,w9];cases f.args.all nC<;>cases zH f.rel<;>rfl
theorem a8n(f:aC)(h:f.wt<=1048576):kC f=some (w9 f):=by
 unfold kC;rw[Yn (f:=jv) (L:=nv f _) (fun _=>rfl) (fun _ _ _=>rfl) f.args 0 (fun x hx=>a1h x (aC.ve h hx)),a1b _ (aC.TX h),aA,aq,w9];have c:decide ((f.args.length:Int)<=3)= !decide ((f.args.length:Int)>3):=by rw[cK];simp
 rw[c];cases f.args.all nC<;>cases zH f.rel<;>cases decide ((f.args.length:Int)>3)<;>rfl
def kQ(l:aI):aI:=l.filter fp
theorem yZ(l:aI):(kQ l).length<=l.length:=lF _ _
theorem SJ(a b:aI):kQ (a++b)=kQ a++kQ b:=Bq _ _
theorem Mk(p:aC)(h:p.wt<=1048576):pO p=some (fU (kQ p.args)):=by
 unfold pO;have:∀(r:aI) (i:Nat) (w:aI),(∀x∈r,x.length<=1048576)->w.length+r.length<=2097152->mm p (fun q=>some q) r i w=some ((kQ r).foldl B3 w):=by
  intro r
  induction r with
  |nil=>intro i w _ _;rfl
  |cons x r ih=>
   intro i w hr hw;simp only[aR]at hw;have hl:=CR w x;rw[mm,Th x (hr x (by simp)),aA,Wv w x (by omega),aA,ih _ _ (fun y hy=>hr y (by simp[hy])) (by omega),ih _ _ (fun y hy=>hr y (by simp[hy])) (by omega)];cases hv:fp x<;>simp[kQ,hv]
 exact this p.args 0 [] (fun x hx=>aC.ve h hx) (by have:=aC.dZ h;simp;omega)
theorem a1j(l:aI)(hl:l.length<=2097152)(h:∀x∈l,x.length<=1048576):oh l=some (kQ l):=by
 unfold oh;have:∀(r:aI) (i:Nat) (w:aI),(∀x∈r,x.length<=1048576)->w.length+r.length<=2097152->gq l (fun q=>some q) r i w=some (w++kQ r):=by
  intro r
  induction r with
  |nil=>intro i w _ _;simp[gq,kQ]
  |cons x r ih=>
   intro i w hr hw;simp only[aR]at hw;rw[gq,ZF x (hr x (by simp)),aA,gG (by omega) (by decide),ih _ _ (fun y hy=>hr y (by simp[hy])) (by simp;omega),ih _ _ (fun y hy=>hr y (by simp[hy])) (by omega)];cases hv:fp x<;>simp[kQ,hv]
 exact this l 0 [] h (by simpa using hl)
def sW(c:aS):aI:=kQ (c.pat.args++[c.left,c.right])
theorem zh{c:aS}{n:Nat}(h:c.wt<=n):(sW c).length<=n+2:=by
 have h1:=yZ (c.pat.args++[c.left,c.right]);have h2:=aC.dZ (aS.gW h);simp only[bC,aR,cE]at h1;unfold sW;omega
theorem Wp(c:aS)(h:c.wt<=1048576):oD c=some (fU (sW c)):=by
 unfold oD;have h1:=aC.dZ (aS.gW h);have h2:=sR (kQ c.pat.args);have h3:=yZ c.pat.args;have h4:=CR (fU (kQ c.pat.args)) c.left;rw[Mk _ (aS.gW h),aA,Th _ (aS.DC h),aA,Th _ (aS.Ae h)];simp only[aA];rw[Wv _ _ (by omega),Wv _ _ (by omega),aA,Wv _ _ (by omega)];simp only[aA,sW,SJ,X5];cases hl:fp c.left<;>cases hr:fp c.right<;>simp[kQ,hl,hr]
theorem a1i(c:aS)(h:c.wt<=1048576):uN c=some (c.pat.args++[c.left,c.right]):=by
 unfold uN;have h1:=aC.dZ (aS.gW h);rw[TG _ (by omega),aA];rw[Fg (by simp;omega) (by decide)];rfl
theorem WR(c:aS)(h:c.wt<=1048576):qX c=some (fU (sW c)):=by
 unfold qX;have h1:=aC.dZ (aS.gW h);have h5:=zh h;rw[a1i c h,aA,a1j _ (by simp;omega) (fun x hx=>by
  simp only[aX,bV,List.not_mem_nil,or_false]at hx;rcases hx with hx|rfl|rfl
  ·exact aC.ve (aS.gW h) hx
  ·exact aS.DC h
  ·exact aS.Ae h),aA]
 rw[show kQ (c.pat.args++[c.left,c.right])=sW c from rfl,TE _ (by omega)];rfl
def EZ(p:aC):Bool:=p.rel==[]&&decide ((p.args.length:Int)=0)
def pS(c:aS):Bool:=bif decide (c.kind=1)||decide (c.kind=2)then w9 c.pat&&(c.left==[]&&c.right==[])else bif decide (c.kind=3)||decide (c.kind=4)||decide (c.kind=5)then EZ c.pat&&(nC c.left&&nC c.right)else false
def Js(c:aS):Bool:=pS c&&decide (c.kind>=3)
theorem Jx{c:aS}(h:pS c=true):1<=c.kind/\c.kind<=5:=by
 unfold pS at h;by_cases h1:c.kind=1
 ·omega
 by_cases h2:c.kind=2
 ·omega
 by_cases h3:c.kind=3
 ·omega
 by_cases h4:c.kind=4
 ·omega
 by_cases h5:c.kind=5
 ·omega
 simp[h1,h2,h3,h4,h5]at h
theorem a2j(c:aS)(h:c.wt<=1048576):rD c=some (pS c):=by
 unfold rD pS EZ;simp only[a9U _ (aS.gW h),a3A _ (aS.DC h),a3A _ (aS.Ae h),aA,aq,lS];by_cases h1:c.kind=1
 ·simp only[h1];cases w9 c.pat<;>cases decide (c.left=[])<;>simp
 by_cases h2:c.kind=2
 ·simp only[h2];cases w9 c.pat<;>cases decide (c.left=[])<;>simp
 by_cases h3:c.kind=3
 ·simp only[h3];cases decide (c.pat.rel=[])<;>cases decide ((c.pat.args.length:Int)=0)<;>cases nC c.left<;>simp
 by_cases h4:c.kind=4
 ·simp only[h4];cases decide (c.pat.rel=[])<;>cases decide ((c.pat.args.length:Int)=0)<;>cases nC c.left<;>simp
 by_cases h5:c.kind=5
 ·simp only[h5];cases decide (c.pat.rel=[])<;>cases decide ((c.pat.args.length:Int)=0)<;>cases nC c.left<;>simp
 simp[h1,h2,h3,h4,h5]
theorem a6j(p:aC):jc p=some (EZ p):=by
 unfold jc EZ;simp only[aq,lS];cases decide (p.rel=[])<;>rfl
theorem a1X(c:aS)(h:c.wt<=1048576):tP c=some (pS c):=by
 unfold tP pS;simp only[a8n _ (aS.gW h),a1h _ (aS.DC h),a1h _ (aS.Ae h),a6j,aA,lS];by_cases h1:c.kind=1
 ·simp only[h1];cases w9 c.pat<;>cases decide (c.left=[])<;>simp
 by_cases h2:c.kind=2
 ·simp only[h2];cases w9 c.pat<;>cases decide (c.left=[])<;>simp
 by_cases h3:c.kind=3
 ·simp only[h3];cases EZ c.pat<;>cases nC c.left<;>cases nC c.right<;>simp
 by_cases h4:c.kind=4
 ·simp only[h4];cases EZ c.pat<;>cases nC c.left<;>cases nC c.right<;>simp
 by_cases h5:c.kind=5
 ·simp only[h5];cases EZ c.pat<;>cases nC c.left<;>cases nC c.right<;>simp
 simp[h1,h2,h3,h4,h5]
theorem a3B(c:aS)(h:c.wt<=1048576):tT c=some (Js c):=by
 unfold tT Js;rw[a2j c h];cases pS c<;>rfl
theorem aBS(c:aS)(h:c.wt<=1048576):xV c=some (Js c):=by
 unfold xV Js;rw[a1X c h];cases pS c<;>rfl
theorem a38(a b:aS):qe a b=some (decide (a=b)):=by
 obtain⟨a0,a1,a2,a3⟩:=a;obtain⟨b0,b1,b2,b3⟩:=b;unfold qe;simp only[Wx,aA,lS];by_cases h0:a0=b0<;>by_cases h1:a1=b1<;>by_cases h2:a2=b2<;>by_cases h3:a3=b3<;>simp[h0,h1,h2,h3]
theorem TD(a b:aS):lT a b=some (decide (a=b)):=by
 obtain⟨a0,a1,a2,a3⟩:=a;obtain⟨b0,b1,b2,b3⟩:=b;unfold lT;simp only[QD,aA,lS];by_cases h0:a0=b0<;>by_cases h1:a1=b1<;>by_cases h2:a2=b2<;>by_cases h3:a3=b3<;>simp[h0,h1,h2,h3]
def PZ(a:Action):Bool:=bif decide (a.kind=1)||decide (a.kind=2)then w9 a.pat else bif decide (a.kind=3)then EZ a.pat else false
theorem aG6(a:Action)(h:a.wt<=1048576):vL a=some (PZ a):=by
 unfold vL PZ EZ;simp only[a9U _ (Action.gW h),aA,aq,lS];by_cases h1:a.kind=1
 ·simp[h1]
 by_cases h2:a.kind=2
 ·simp[h2]
 by_cases h3:a.kind=3
 ·simp only[h3];cases decide (a.pat.rel=[])<;>simp
 simp[h1,h2,h3]
theorem aFk(a:Action)(h:a.wt<=1048576):vE a=some (PZ a):=by
 unfold vE PZ;simp only[a8n _ (Action.gW h),a6j,aA,lS];by_cases h1:a.kind=1
 ·simp[h1]
 by_cases h2:a.kind=2
 ·simp[h2]
 by_cases h3:a.kind=3
 ·simp[h3]
 simp[h1,h2,h3]
theorem a5R:∀(k v:Nat),v<10^k->1<=k->Lib.nDigits v<=k:=by
 intro k
 induction k with
 |zero=>intro v _ h;omega
 |succ k ih=>
  intro v hv _;by_cases h10:v<10
  ·rw[Lib.nDigits_small h10];omega
  ·rw[Lib.nDigits_big h10];have h3:v/10<10^k:=by rw[yg]at hv;omega
   have hk1:1<=k:=by
    cases k with
    |zero=>simp at hv;omega
    |succ k=>omega
   have:=ih (v/10) h3 hk1;omega
theorem WZ{u:Nat}(h:u<=9223372036854775808):Lib.nDigits u<=19:=a5R 19 u (by omega) (by omega)
theorem aEX(u:Nat):UInt8.ofNat (IntKind.u8.wrap (IntKind.i64.wrap (48+((u:Int)%10)))).toNat=UInt8.ofNat (48+u%10):=by
 rw[eD (k:=.i64) (qv.i64.2 (by omega)),eD (qv.u8.2 (by omega))]
 congr 1
theorem a7V(k:Option Bytes):∀(n u:Nat) (acc:Bytes),Lib.nDigits u<=n->acc.length+Lib.nDigits u<=1000->jH k n (u:Int) acc=some (Lib.decDigits u++acc):=by
 intro n
 induction n with
 |zero=>intro u acc h _;have:=Lib.nDigits_pos u;omega
 |succ n ih=>
  intro u acc hn hl;have hp:=Lib.nDigits_pos u;have e0:(decide (0<=(u:Int))&&decide (0<(10:Int)))=true:=by simp
  have e1:decide (([UInt8.ofNat (48+u%10)]:Bytes).length+(acc:Bytes).length<=maxLen)=true:=by unfold maxLen;simp;omega
  rw[jH];simp only[aEX,e0,e1,aG];by_cases h10:u<10
  ·have e2:(((u:Int)/10:Int)==0)=true:=by rw[cr];omega
   rw[e2,aG,Lib.decDigits,dif_pos h10,Nat.mod_eq_of_lt h10]
  ·have e2:(((u:Int)/10:Int)==0)=false:=by rw[dA];omega
   have e3:((u:Int)/10)=((u/10:Nat):Int):=by omega
   have hd:=Lib.nDigits_big h10;rw[e2,aL,e3,ih (u/10) _ (by omega) (by simp;omega)]
   conv=>rhs;rw[Lib.decDigits,dif_neg h10]
   simp
theorem aCm(m u:Nat)(h:u<=9223372036854775807):ij (m+1) (u:Int)=some (Lib.decDigits u):=by
 rw[ij];have e1:((u:Int)==(-9223372036854775808))=false:=by rw[dA];omega
 have e2:decide ((u:Int)<0)=false:=by simp
 have:=WZ (u:=u) (by omega);rw[e1,aL,e2,aL,a7V _ _ _ _ (by unfold fuel;omega) (by simp;omega)];simp
theorem a1l:Lib.itoa (-9223372036854775808)=[45,57,50,50,51,51,55,50,48,51,54,56,53,52,55,55,53,56,48,56]:=by
 unfold Lib.itoa;simp[Lib.decDigits]
theorem a5j(n:Int)(h:qv .i64 n):kG n=some (Lib.itoa n):=by
 have h:=qv.i64.1 h;unfold kG;rw[show fuel=4194303+1 from rfl,ij];by_cases hm:n= -9223372036854775808
 ·subst hm;rw[a1l];rfl
 have e1:((n:Int)==(-9223372036854775808))=false:=by rw[dA];exact hm
 rw[e1,aL];by_cases hn:n<0
 ·have e2:decide (n<0)=true:=by simpa using hn
  have e3:IntKind.i64.wrap (0-n)=((n.natAbs:Nat):Int):=by rw[eD (qv.i64.2 (by omega))];omega
  have hd:=WZ (u:=n.natAbs) (by omega);rw[e2,aG,e3,show(4194303:Nat)=4194302+1 from rfl,aCm _ _ (by omega),aA];have e4:decide (([45]:Bytes).length+(Lib.decDigits n.natAbs:Bytes).length<=maxLen)=true:=by unfold maxLen;rw[Lib.decDigits_length];simp;omega
  rw[e4,aG];unfold Lib.itoa;rw[bO hn];rfl
 ·have e2:decide (n<0)=false:=by simpa using hn
  have e3:n=((n.toNat:Nat):Int):=by omega
  have:=WZ (u:=n.toNat) (by omega);rw[e2,aL]
  conv=>lhs;rw[e3]
  rw[a7V _ _ _ _ (by unfold fuel;omega) (by simp;omega)];unfold Lib.itoa;rw[bE hn];simp
theorem a8l(n:Int):mQ n=some (Lib.itoa n):=by
 unfold mQ CN;rfl
theorem QG(n:Int)(h:qv .i64 n):(Lib.itoa n).length<=21:=by
 have:=qv.i64.1 h;exact Lib.itoa_length_le n this.1 this.2
def Dl(to:aP)(s:Bytes):Bytes:=match to with
 | []=>s
 |p::r=>bif p.var==s then p.value else Dl r s
def Qj(to:aP)(x:aS):aS:=⟨x.kind,⟨x.pat.rel,x.pat.args.map (Dl to)⟩,Dl to x.left,Dl to x.right⟩
theorem sRn(to:aP)(s:Bytes):mw s to=some (Dl to s):=by
 unfold mw;have:∀(r:aP) (i:Nat),kr s to (some s) r i=some (Dl r s):=by
  intro r
  induction r with
  |nil=>intro i;rfl
  |cons x r ih=>
   intro i;rw[kr,ih,Dl];cases x.var==s<;>rfl
 exact this to 0
theorem iRn(to:aP)(s:Bytes):ja s to=some (Dl to s):=by
 unfold ja;have:∀(r:aP) (i:Nat),jG s to (some s) r i=some (Dl r s):=by
  intro r
  induction r with
  |nil=>intro i;rfl
  |cons x r ih=>
   intro i;rw[jG,ih,Dl];cases x.var==s<;>rfl
 exact this to 0
theorem a9X(x:aS)(to:aP)(h:x.pat.args.length<=1099511627770):l9 x to=some (Qj to x):=by
 unfold l9;rw[sRn,aA,sRn,aA];rw[GX (c:=tx) (b:=16) (f:=fun a=>mw a to) (g:=Dl to) (L:=mi x to (Dl to x.left) (Dl to x.right) _) (k:=_) (by decide) (fun _ _=>rfl) (fun _ _ _ _=>rfl) _ _ _ (fun a _=>sRn to a) (by simp;omega)];rfl
theorem aBN(x:aS)(to:aP)(h:x.pat.args.length<=1099511627770):nP x to=some (Qj to x):=by
 unfold nP;rw[iRn,aA,iRn,aA];rw[GX (c:=tx) (b:=16) (f:=fun a=>ja a to) (g:=Dl to) (L:=mU x to (Dl to x.left) (Dl to x.right) _) (k:=_) (by decide) (fun _ _=>rfl) (fun _ _ _ _=>rfl) _ _ _ (fun a _=>iRn to a) (by simp;omega)];rfl
def Hx(l:aP)(t:Bytes):Bool:=l.any fun p=>p.var==t
def kO(l:aP)(t:Bytes):aP:=bif fp t&& !Hx l t then l++[⟨t,[63]++Lib.itoa ((l.length:Int)+1)⟩]else l
theorem EN(l:aP)(t:Bytes):(kO l t).length<=l.length+1:=by
 unfold kO;cases fp t&& !Hx l t<;>simp
theorem Az:∀(ts:aI) (l:aP),(ts.foldl kO l).length<=l.length+ts.length
 | [],l=>by simp
 |t::ts,l=>by
  have h1:=Az ts (kO l t);have h2:=EN l t;rw[cy,aR];omega
theorem Tf(l:aP)(t:Bytes)(hl:l.length<=1099511627770)(ht:t.length<=1048576):rI l t=some (kO l t):=by
 unfold rI;rw[Th t ht,aA,kO];cases hv:fp t with
 |false=>rfl
 |true=>
  rw[bU,aL,fM];have key:∀(k:Option aP) (r:aP) (i:Nat),pJ l t k r i=bif Hx r t then some l else k:=by
   intro k r
   induction r with
   |nil=>intro i;rfl
   |cons x r ih=>
    intro i;rw[pJ,ih];simp only[Hx,tM];cases x.var==t<;>simp
  rw[key];cases Hx l t with
  |true=>rfl
  |false=>
   have e1:IntKind.i64.wrap (((l.map aW.c).length:Int)+1)=(l.length:Int)+1:=by rw[eD (qv.i64.2 (by simp;omega))];simp
   have hr:qv .i64 ((l.length:Int)+1):=qv.i64.2 (by omega);have hi:=QG _ hr;have e2:decide (([63]:Bytes).length+(Lib.itoa ((l.length:Int)+1):Bytes).length<=maxLen)=true:=by unfold maxLen;simp;omega
   simp only[aL,bt,aG];rw[e1,a5j _ hr,aA,e2,aG,gG (by omega) (by decide)];rfl
theorem Ux(x y:Bytes):∀(m:List (Bytes×Bool)),MR false y (QO x true m)=(y==x||MR false y m)
 | []=>by simp only[QO,MR];cases y==x<;>rfl
 |p::m=>by
  simp only[QO];cases h:x==p.1 with
  |true=>
   have h':x=p.1:=by simpa using h
   subst h';simp only[aG,MR];cases y==p.1<;>simp
  |false=>
   simp only[aL,MR,Ux x y m];cases hy:y==p.1 with
   |true=>
    have h1:y=p.1:=by simpa using hy
    have h2:(y==x)=false:=by
     rw[dA]at h⊢;intro e;exact h (e.symm.trans h1)
    simp[h2]
   |false=>simp
theorem Z5(l:aP)(x y v:Bytes):Hx (l++[⟨x,v⟩]) y=(y==x||Hx l y):=by
 have:(x==y)=(y==x):=by rw[cK,cr,cr];exact eq_comm
 simp only[Hx,List.any_append,tM,L8,A5,this];cases y==x<;>simp
theorem Xz(ts:aI)(hl:ts.length<=1099511627700)(h:∀x∈ts,x.length<=1048576):qM ts=some (ts.foldl kO []):=by
 unfold qM;have key:∀(r:aI) (i:Nat) (w:aP) (m:List (Bytes×Bool)),(∀x∈r,x.length<=1048576)->w.length+r.length<=1099511627700->(∀y,MR false y m=Hx w y)->
  gL ts (fun q=>some q) r i w m=some (r.foldl kO w):=by
  intro r
  induction r with
  |nil=>intro i w m _ _ _;rfl
  |cons x r ih=>
   intro i w m hx hw hm;simp only[aR]at hw;have hr:qv .i64 ((w.length:Int)+1):=qv.i64.2 (by omega);have hi:=QG _ hr;have e1:IntKind.i64.wrap (((w.map aW.c).length:Int)+1)=(w.length:Int)+1:=by rw[eD (qv.i64.2 (by simp;omega))];simp
   have e2:decide (([63]:Bytes).length+(Lib.itoa ((w.length:Int)+1):Bytes).length<=maxLen)=true:=by unfold maxLen;simp;omega
   rw[gL,ZF x (hx x (by simp)),aA,cy,kO,hm x];cases hv:fp x with
   |false=>simp only[aL,Bool.false_and];exact ih _ _ _ (fun y hy=>hx y (by simp[hy])) (by omega) hm
   |true=>
    cases hh:Hx w x with
    |true=>simp only[aG,bU,aL,fM];exact ih _ _ _ (fun y hy=>hx y (by simp[hy])) (by omega) hm
    |false=>
     simp only[aG,bt,fM];rw[e1,a8l,aA,e2,aG,gG (by omega) (by decide),aG];exact ih _ _ _ (fun y hy=>hx y (by simp[hy])) (by simp;omega) (fun y=>by rw[Ux,Z5,hm])
 exact key ts 0 [] [] h (by simpa using hl) (fun y=>rfl)
def vn(p:aC):aC:=(Qj (p.args.foldl kO []) ⟨0,p,[],[]⟩).pat
theorem a9c(p:aC)(h:p.wt<=1048576):uS p=some (vn p):=by
 have hl:=aC.dZ h;unfold uS;have key:∀(k:aP->Option aC) (r:aI) (i:Nat) (w:aP),(∀x∈r,x.length<=1048576)->w.length+r.length<=1099511627700->nW p k r i w=k (r.foldl kO w):=by
  intro k r
  induction r with
  |nil=>intro i w _ _;rfl
  |cons x r ih=>
   intro i w hx hw;simp only[aR]at hw;have:=EN w x;rw[nW,Tf w x (by omega) (hx x (by simp)),aA,ih _ _ (fun y hy=>hx y (by simp[hy])) (by omega)];rfl
 rw[key _ _ _ _ (fun x hx=>aC.ve h hx) (by simp;omega),a9X _ _ (by simp;omega)];rfl
theorem a8s(p:aC)(h:p.wt<=1048576):uD p=some (vn p):=by
 have hl:=aC.dZ h;unfold uD;rw[Xz _ (by omega) (fun x hx=>aC.ve h hx),aA,aBN _ _ (by simp;omega)];rfl
def yI(l:ay):aI:=l.flatMap fun c=>c.pat.args++[c.left,c.right]
theorem X0(l:ay):(yI l).length<=3*sD aS.wt l:=by
 unfold yI
 induction l with
 |nil=>simp
 |cons x l ih=>
  rw[cw,bC,pz];have:=aC.dZ (aS.gW (c:=x) (br _));simp only[bC,aR,cE];omega
def iJ(r:aN):aP:=(yI r.conds).foldl kO []
def gF(r:aN):ay:=r.conds.map (Qj (iJ r))
theorem a2y(a:aN)(i:Nat)(c:aS)(k:aP->Option aP):∀(r:aI) (j:Nat) (w:aP),(∀x∈r,x.length<=1048576)->w.length+r.length<=1099511627700->jh a i c k r j w=k (r.foldl kO w):=by
 intro r
 induction r with
 |nil=>intro i w _ _;rfl
 |cons x r ih=>
  intro i w hx hw;simp only[aR]at hw;have:=EN w x;rw[jh,Tf w x (by omega) (hx x (by simp)),aA,ih _ _ (fun y hy=>hx y (by simp[hy])) (by omega)];rfl
theorem a2x(r:aN)(h:r.wt<=1048576):qQ r=some (iJ r):=by
 unfold qQ;have key:∀(l:ay) (i:Nat) (w:aP),(∀c∈l,c.wt<=1048576)->w.length+3*sD aS.wt l<=1099511627700->jg r (fun q=>some q) l i w=some ((yI l).foldl kO w):=by
  intro l
  induction l with
  |nil=>intro i w _ _;rfl
  |cons c l ih=>
   intro i w hc hw;rw[pz]at hw;have Ud:=hc c (by simp);have ha:=aC.dZ (aS.gW (c:=c) (br _));have h1:=Az c.pat.args w;have h2:=EN (c.pat.args.foldl kO w) c.left;have h3:=EN (kO (c.pat.args.foldl kO w) c.left) c.right;rw[jg,sF (by omega),aG,a2y _ _ _ _ _ _ _ (fun x hx=>aC.ve (aS.gW Ud) hx) (by omega),Tf _ _ (by omega) (aS.DC Ud),aA,Tf _ _ (by omega) (aS.Ae Ud),aA,
    ih _ _ (fun y hy=>hc y (by simp[hy])) (by omega)]
   simp[yI]
 have:=aN.vA h;exact key r.conds 0 [] (fun c hc=>aN.th h hc) (by simp;omega)
theorem a1c(r:aN)(h:r.wt<=1048576):qI r=some (iJ r):=by
 unfold qI;have hw:=aN.vA h;have key:∀(k:aI->Option aP) (l:ay) (i:Nat) (w:aI),(∀c∈l,c.wt<=1048576)->w.length+3*sD aS.wt l<=1099511627700->iQ r k l i w=k (w++yI l):=by
  intro k l
  induction l with
  |nil=>intro i w _ _;simp[iQ,yI]
  |cons c l ih=>
   intro i w hc hw;rw[pz]at hw;have Ud:=hc c (by simp);have ha:=aC.dZ (aS.gW (c:=c) (br _));rw[iQ,a1i c Ud,aA,a2e (by simp;omega) (by decide),aG,ih _ _ (fun y hy=>hc y (by simp[hy])) (by simp;omega)];simp[yI]
 have hl:=X0 r.conds;rw[key _ _ _ _ (fun c hc=>aN.th h hc) (by simp;omega),eN,Xz _ (by omega) ?_]
 ·rfl
 ·intro x hx;unfold yI at hx;obtain⟨c,hc,hx⟩:=cB.1 hx;have Ud:=aN.th h hc;rcases aX.1 hx with hx|hx
  ·exact aC.ve (aS.gW Ud) hx
  ·simp only[bV,List.not_mem_nil,or_false]at hx;rcases hx with rfl|rfl
   ·exact aS.DC Ud
   ·exact aS.Ae Ud
theorem a9M(r:aN)(h:r.wt<=1048576):su r=some (gF r):=by
 unfold su;have hw:=aN.vA h;have hl:=tK aS.wt r.conds;rw[a2x r h,aA];rw[GX (c:=aS.c) (b:=80) (f:=fun a=>l9 a (iJ r)) (g:=Qj (iJ r)) (L:=mh r (iJ r) _) (k:=_) (by decide) (fun _ _=>rfl) (fun _ _ _ _=>rfl) _ _ _ (fun c hc=>a9X c _ (by have:=aC.dZ (aS.gW (aN.th h hc));omega)) (by simp;omega)];simp[gF]
theorem a8h(r:aN)(h:r.wt<=1048576):sZ r=some (gF r):=by
 unfold sZ;have hw:=aN.vA h;have hl:=tK aS.wt r.conds;rw[a1c r h,aA];rw[GX (c:=aS.c) (b:=80) (f:=fun a=>nP a (iJ r)) (g:=Qj (iJ r)) (L:=mT r (iJ r) _) (k:=_) (by decide) (fun _ _=>rfl) (fun _ _ _ _=>rfl) _ _ _ (fun c hc=>aBN c _ (by have:=aC.dZ (aS.gW (aN.th h hc));omega)) (by simp;omega)];simp[gF]
def NOk(n:aF):Prop:=n.nodes.length<=1048576/\∀x∈n.nodes,x.cond.wt<=1048576
theorem a5Z(s:Bytes):Dl [] s=s:=rfl
theorem a2W(x:aS):Qj [] x=x:=by
 have:x.pat.args.map (Dl [])=x.pat.args:=by
  rw[show(Dl [])=id from funext a5Z];simp
 unfold Qj;rw[this];rfl
def dS(i:Nat):Int:=(i:Int)
def RV(ns:bN):Nat->Nat->aj
 |0,_=>[]
 |k+1,v=>v::(match ns[v]? with
  |some x=>if 1<=x.parent/\x.parent<(v:Int)then RV ns k x.parent.toNat else []
  |none=>[])
def DN(ns:bN)(i:Nat):Option aS:=(ns[i]?).map Node.cond
def Jm(ns:bN)(k v:Nat):ay:=(RV ns k v).reverse.filterMap (DN ns)
def ed(ns:bN)(v:Int):ay:=if 1<=v/\v<(ns.length:Int)then Jm ns v.toNat v.toNat else []
theorem VV{ns:bN}{k v:Nat}{x:Node}(hx:ns[v]?=some x):RV ns (k+1) v=v::(if 1<=x.parent/\x.parent<(v:Int)then RV ns k x.parent.toNat else []):=by simp only[RV,hx]
theorem a3X(ns:bN):∀(k v:Nat),v<ns.length->∀i∈RV ns k v,i<ns.length
 |0,v,_,i,hi=>by cases hi
 |k+1,v,hv,i,hi=>by
  rw[RV]at hi;rcases bV.1 hi with rfl|hi
  ·exact hv
  ·split at hi
   ·split at hi
    ·rename_i x hx hp;exact a3X ns k _ (by omega) i hi
    ·cases hi
   ·cases hi
theorem YY(ns:bN):∀(k v:Nat),(RV ns k v).length<=k
 |0,v=>by simp[RV]
 |k+1,v=>by
  rw[RV,aR];split
  ·split
   ·have:=YY ns k (by assumption:Node).parent.toNat;omega
   ·simp
  ·simp
theorem Qf{ns:bN}{k v:Nat}{x:Node}(hx:ns[v]?=some x):Jm ns (k+1) v=(if 1<=x.parent/\x.parent<(v:Int)then Jm ns k x.parent.toNat else [])++[x.cond]:=by
 have hc:DN ns v=some x.cond:=by unfold DN;rw[hx];rfl
 unfold Jm;rw[VV hx];by_cases hp:1<=x.parent/\x.parent<(v:Int)
 ·rw[bO hp,bO hp];simp[hc]
 ·rw[bE hp,bE hp];simp[hc]
theorem Tc(x:aS)(h:x.pat.args.length<=1099511627770):lP x=some x:=by
 unfold lP;rw[a9X x [] h,aA,a2W]
theorem T8(x:aS)(h:x.pat.args.length<=1099511627770):gH x=some x:=by
 unfold gH ez;rw[TG x.pat.args (by omega)];rfl
theorem a9V(n:aF)(h:NOk n)(K:ay->Option ay):∀(k v fu:Nat) (w:ay),v<=k->1<=v->v<n.nodes.length->k<fu->w.length+k<=4194304->kJ n K fu (v:Int) w=K (Jm n.nodes k v++w):=by
 have hl:=h.1;intro k
 induction k with
 |zero=>intro v fu w h1 h2;omega
 |succ k ih=>
  intro v fu w h1 h2 h3 h4 h5;obtain⟨fu,rfl⟩:∃m,fu=m+1:=⟨fu-1,by omega⟩
  have hx:n.nodes[v]?=some n.nodes[v]:=av h3;have hw:=h.2 _ (j6 h3);generalize hxe:n.nodes[v]=x at*;have e1:IntKind.i64.wrap (((n.nodes.map Node.c).length:Int)-1)=(n.nodes.length:Int)-1:=by rw[aq];exact eD (qv.i64.2 (by omega))
  have e2:(decide ((v:Int)>=1)&&decide ((v:Int)<=(n.nodes.length:Int)-1))=true:=by simp;omega
  have e3:gA n.nodes (v:Int)=some x:=by unfold gA;rw[au (by omega),aG];exact hx
  have e4:=Tc x.cond (by have:=aC.dZ (aS.gW hw);omega);rw[kJ,e1,MM,aA,e2,aG,e3,aA,e4,aA,Fg (by simp;omega) (by decide),aG,Qf hx];by_cases h6:x.parent>=(v:Int)
  ·rw[au h6,aG,bE (by omega)];rfl
  ·rw[ax h6,aL];by_cases h7:1<=x.parent
   ·rw[bO ⟨h7,by omega⟩];obtain⟨m,hm⟩:=qC (by omega:0<=x.parent);rw[hm];rw[ih m fu ([x.cond]++w) (by omega) (by omega) (by omega) (by omega) (by simp;omega)];simp
   ·rw[bE (by omega)];obtain⟨fu,rfl⟩:∃m,fu=m+1:=⟨fu-1,by omega⟩
    have e5:(decide (x.parent>=1)&&decide (x.parent<=(n.nodes.length:Int)-1))=false:=by
     rw[ax (by omega)];rfl
    rw[kJ,e1,MM,aA,e5,aL];rfl
theorem a30(n:aF)(v:Int)(h:NOk n):vU n v=some (ed n.nodes v):=by
 have hl:=h.1;unfold vU ed;by_cases hv:1<=v/\v<(n.nodes.length:Int)
 ·rw[bO hv];obtain⟨m,rfl⟩:=qC (by omega:0<=v);rw[a9V n h _ m m fuel [] (br _) (by omega) (by omega) (by unfold fuel;omega) (by simp;omega)];simp
 ·rw[bE hv];have e1:IntKind.i64.wrap (((n.nodes.map Node.c).length:Int)-1)=(n.nodes.length:Int)-1:=by rw[aq];exact eD (qv.i64.2 (by omega))
  have e2:(decide (v>=1)&&decide (v<=(n.nodes.length:Int)-1))=false:=by
   by_cases h1:1<=v
   ·have h2:¬v<=(n.nodes.length:Int)-1:=by omega
    rw[ax h2,wA]
   ·rw[ax h1];rfl
  rw[show fuel=4194303+1 from rfl,kJ,e1,MM,aA,e2,aL]
theorem a54(n:aF)(h:NOk n)(K:bM->Option ay):∀(k v fu:Nat) (w:bM),v<=k->1<=v->v<n.nodes.length->k<fu->w.length+k<=4194304->oZ n K fu (v:Int) w=K (w++(RV n.nodes k v).map dS):=by
 have hl:=h.1;intro k
 induction k with
 |zero=>intro v fu w h1 h2;omega
 |succ k ih=>
  intro v fu w h1 h2 h3 h4 h5;obtain⟨fu,rfl⟩:∃m,fu=m+1:=⟨fu-1,by omega⟩
  have hx:n.nodes[v]?=some n.nodes[v]:=av h3;generalize hxe:n.nodes[v]=x at*;have e3:gA n.nodes (v:Int)=some x:=by unfold gA;rw[au (by omega),aG];exact hx
  rw[oZ,gG (by omega) (by decide),aG,e3,aA,VV hx];by_cases h7:x.parent<1
  ·rw[au h7,aG,bE (by omega)];rfl
  ·rw[ax h7,aL];by_cases h6:x.parent>=(v:Int)
   ·rw[au h6,aG,bE (by omega)];rfl
   ·rw[ax h6,aL,bO ⟨by omega,by omega⟩];obtain⟨m,hm⟩:=qC (by omega:0<=x.parent);rw[hm,ih m fu (w++[(v:Int)]) (by omega) (by omega) (by omega) (by omega) (by simp;omega)];simp[dS]
theorem a55(n:aF)(h:NOk n)(us:aj)(wq:∀i∈us,i<n.nodes.length)(hul:us.length<=1048576)(K:ay->Option ay):∀(j fu:Nat) (w:ay),j<=us.length->j<fu->w.length+j<=4194304->mS n (us.map dS) K fu ((j:Int)-1) w=K (w++((us.take j).reverse.filterMap (DN n.nodes))):=by
 intro j
 induction j with
 |zero=>
  intro fu w _ hf _;obtain⟨fu,rfl⟩:∃m,fu=m+1:=⟨fu-1,by omega⟩
  rw[mS,ax (by omega),aL];simp
 |succ j ih=>
  intro fu w hj hf hw;obtain⟨fu,rfl⟩:∃m,fu=m+1:=⟨fu-1,by omega⟩
  have hlt:j<us.length:=by omega
  have h3:=wq us[j] (j6 hlt);have hx:n.nodes[us[j]]?=some n.nodes[us[j]]:=av h3;have hww:=h.2 _ (j6 h3);generalize hxe:n.nodes[us[j]]=x at*;have e0:((j+1:Nat):Int)-1=(j:Int):=by omega
  have e1:gA (us.map dS) (j:Int)=some ((us[j]:Nat):Int):=by
   unfold gA;rw[au (by omega),aG];show(us.map dS)[(j:Int).toNat]?=_;rw[kz,cR,av hlt];rfl
  have e3:gA n.nodes ((us[j]:Nat):Int)=some x:=by unfold gA;rw[au (by omega),aG];exact hx
  have e4:=T8 x.cond (by have:=aC.dZ (aS.gW hww);omega);have e5:IntKind.i64.wrap ((j:Int)-1)=(j:Int)-1:=eD (qv.i64.2 (by omega));rw[e0,mS,au (by omega),aG,e1,aA,e3,aA,e4,aA,gG (by omega) (by decide),aG,e5,ih fu _ (by omega) (by omega) (by simp;omega)];have hc:DN n.nodes us[j]=some x.cond:=by unfold DN;rw[hx];rfl
  have ht:us.take (j+1)=us.take j++[us[j]]:=by rw[List.take_add_one,av hlt];rfl
  rw[ht,List.reverse_append,List.filterMap_append];simp[hc]
theorem a8o(n:aF)(v:Int)(h:NOk n):xW n v=some (ed n.nodes v):=by
 have hl:=h.1;unfold xW ed;rw[aq];by_cases h1:v<1
 ·rw[au h1,aG,bE (by omega)]
 ·rw[ax h1,aL];by_cases h2:v>=(n.nodes.length:Int)
  ·rw[au h2,aG,bE (by omega)]
  ·rw[ax h2,aL,bO ⟨by omega,by omega⟩];obtain⟨m,rfl⟩:=qC (by omega:0<=v);rw[a54 n h _ m m fuel [] (br _) (by omega) (by omega) (by unfold fuel;omega) (by simp;omega)];have hul:=YY n.nodes m m;have e5:IntKind.i64.wrap ((((([]:bM)++(RV n.nodes m m).map dS).map jN).length:Int)-1)=(((RV n.nodes m m).length:Nat):Int)-1:=by
    rw[eN,aq,aq];exact eD (qv.i64.2 (by omega))
   rw[e5,eN,a55 n h (RV n.nodes m m) (a3X n.nodes m m (by omega)) (by omega) _ (RV n.nodes m m).length fuel [] (br _) (by unfold fuel;omega) (by simp;omega),zg];rfl
def nmB(k:Nat):Bytes:=[63]++Lib.itoa ((k:Int)+1)
theorem decDigits_one{u:Nat}(h:u<10):Lib.decDigits u=[UInt8.ofNat (48+u)]:=by
 rw[Lib.decDigits,dif_pos h]
theorem PI:∀i,i<6->nmB i=[63,UInt8.ofNat (49+i)]
 |0,_|1,_|2,_|3,_|4,_|5,_=>by
  unfold nmB Lib.itoa;rw[bE (by decide),decDigits_one (by decide)];decide
 |n+6,h=>by omega
theorem YA:∀i,i<6->∀j,j<6->nmB i=nmB j->i=j:=by
 intro i hi j hj e;rw[PI i hi,PI j hj]at e
 revert i j
 decide
theorem MX:∀i,i<6->fp (nmB i)=true:=by
 intro i hi;rw[PI i hi]
 revert i
 decide
def Vj(N:aP):Prop:=∀(i:Nat) p,N[i]?=some p->p.value=nmB i/\fp p.var=true
theorem Uc(N:aP)(t:Bytes):Hx N t=true↔∃p∈N,p.var=t:=by simp[Hx]
theorem ZR(N:aP)(t:Bytes){p:aW}(h:p∈N):p∈kO N t:=by
 unfold kO;cases fp t&& !Hx N t<;>simp[h]
theorem Ua:∀(ts:aI) (N:aP) {p:aW},p∈N->p∈ts.foldl kO N
 | [],_,_,h=>h
 |t::ts,N,p,h=>Ua ts (kO N t) (ZR N t h)
theorem a3c{N:aP}(h:Vj N)(t:Bytes):Vj (kO N t):=by
 unfold kO;cases hv:fp t&& !Hx N t with
 |false=>exact h
 |true=>
  simp only[aU]at hv;intro i p hp;rw[aG]at hp;rcases gl i N.length with hlt|hge
  ·rw[bJ hlt]at hp;exact h i p hp
  ·rw[bW hge]at hp;cases hi:i-N.length with
   |zero=>
    rw[hi]at hp;simp at hp;subst hp;have:i=N.length:=by omega
    subst this;exact⟨rfl,hv.1⟩
   |succ m=>rw[hi]at hp;simp at hp
theorem DI:∀(ts:aI) {N:aP},Vj N->Vj (ts.foldl kO N)
 | [],_,h=>h
 |t::ts,_,h=>DI ts (a3c h t)
def Tv(N:aP):Prop:=(N.map aW.var).Nodup
theorem ZT{N:aP}(h:Tv N)(t:Bytes):Tv (kO N t):=by
 unfold kO;cases hv:fp t&& !Hx N t with
 |false=>exact h
 |true=>
  simp only[aU,kx]at hv;rw[aG];unfold Tv;rw[bI,cC];refine⟨h,by simp,?_⟩;intro a ha b hb e;simp at hb;subst hb;subst e;obtain⟨p,hp,he⟩:=cJ.1 ha;have:=(Uc N a).2 ⟨p,hp,he⟩;rw[hv.2]at this;cases this
theorem Ac:∀(ts:aI) {N:aP},Tv N->Tv (ts.foldl kO N)
 | [],_,h=>h
 |t::ts,_,h=>Ac ts (ZT h t)
theorem MJ:∀(ts:aI) (N:aP) {t:Bytes},t∈ts->fp t=true->∃p∈ts.foldl kO N,p.var=t
 |x::ts,N,t,h,hv=>by
  rcases bV.1 h with rfl|h
  ·have:∃p∈kO N t,p.var=t:=by
    unfold kO;cases hh:Hx N t with
    |true=>rw[hv];exact(Uc N t).1 hh
    |false=>rw[hv];exact⟨⟨t,[63]++Lib.itoa ((N.length:Int)+1)⟩,by simp,rfl⟩
   obtain⟨p,hp,he⟩:=this;exact⟨p,Ua ts _ hp,he⟩
  ·exact MJ ts _ h hv
theorem IS:∀ {N:aP} {p:aW},Tv N->p∈N->Dl N p.var=p.value
 |q::N,p,hn,hp=>by
  unfold Tv at hn;rw[bA,gx]at hn;rcases bV.1 hp with rfl|hp
  ·simp[Dl]
  ·have hne:(q.var==p.var)=false:=by
    rw[dA];intro e;exact hn.1 (by rw[e];exact cJ.2 ⟨p,hp,rfl⟩)
   rw[Dl,hne,aL];exact IS (show Tv N from hn.2) hp
theorem Nu:∀ {N:aP} {t:Bytes},(∀p∈N,p.var≠t)->Dl N t=t
 | [],t,_=>rfl
 |q::N,t,h=>by
  have hne:(q.var==t)=false:=by rw[dA];exact h q (by simp)
  rw[Dl,hne,aL];exact Nu fun p hp=>h p (by simp[hp])
theorem Vj.nil:Vj []:=fun i p h=>by simp at h
theorem Tv.nil:Tv []:=by simp[Tv]
theorem DB(ts:aI):(ts.foldl kO []).length<=ts.length:=by simpa using Az ts []
theorem Ky{N:aP}(h:Vj N){p:aW}(hp:p∈N):∃i,i<N.length/\N[i]?=some p/\p.value=nmB i/\fp p.var=true:=by
 obtain⟨i,hi⟩:=iO hp;exact⟨i,(aO.1 hi).1,hi,h i p hi⟩
theorem MY{ts:aI}{t:Bytes}(ht:fp t=false):Dl (ts.foldl kO []) t=t:=
 Nu fun p hp e=>by
  obtain⟨i,_,_,_,hv⟩:=Ky (DI ts Vj.nil) hp;rw[e,ht]at hv;cases hv
theorem Kw(p:aC):(vn p).args=p.args.map (Dl (p.args.foldl kO [])):=rfl
theorem YB:∀i,i<6->(nmB i).length<=16:=by
 intro i hi;rw[PI i hi];simp
theorem a9G{ts:aI}(hl:ts.length<=5){t:Bytes}(ht:t.length<=16):(Dl (ts.foldl kO []) t).length<=16:=by
 by_cases h:∃p∈ts.foldl kO [],p.var=t
 ·obtain⟨p,hp,he⟩:=h;rw[<-he,IS (Ac ts Tv.nil) hp];obtain⟨i,hi,_,hpv,_⟩:=Ky (DI ts Vj.nil) hp;have:=DB ts;rw[hpv];exact YB i (by omega)
 ·rw[Nu (fun p hp e=>h ⟨p,hp,e⟩)];exact ht
def unB(N:aP)(x:Bytes):Bytes:=match N with
 | []=>x
 |p::r=>bif p.value==x then p.var else unB r x
theorem YX:∀ {N:aP} {p:aW},(N.map aW.value).Nodup->p∈N->unB N p.value=p.var
 |q::N,p,hn,hp=>by
  rw[bA,gx]at hn;rcases bV.1 hp with rfl|hp
  ·simp[unB]
  ·have hne:(q.value==p.value)=false:=by
    rw[dA];intro e;exact hn.1 (by rw[e];exact cJ.2 ⟨p,hp,rfl⟩)
   rw[unB,hne,aL];exact YX hn.2 hp
theorem O2:∀ {N:aP} {t:Bytes},(∀p∈N,p.value≠t)->unB N t=t
 | [],t,_=>rfl
 |q::N,t,h=>by
  have hne:(q.value==t)=false:=by rw[dA];exact h q (by simp)
  rw[unB,hne,aL];exact O2 fun p hp=>h p (by simp[hp])
theorem X6{N:aP}(h:Vj N)(hl:N.length<=5):(N.map aW.value).Nodup:=by
 unfold List.Nodup;rw[Cl];intro i j hi0 hj hij e;rw[aq]at hj;rw[List.getElem_map,List.getElem_map]at e;have h1:=(h i _ (av (by omega))).1;have h2:=(h j _ (av hj)).1;rw[h1,h2]at e;have:=YA i (by omega) j (by omega) e;omega
theorem aDD{ts:aI}(hl:ts.length<=5){t:Bytes}(ht:t∈ts)(hT:nC t=true):unB (ts.foldl kO []) (Dl (ts.foldl kO []) t)=t:=by
 have hw:=DI ts Vj.nil;have hlen:=DB ts;cases hv:fp t with
 |true=>
  obtain⟨p,hp,he⟩:=MJ ts [] ht hv;rw[<-he,IS (Ac ts Tv.nil) hp,YX (X6 hw (by omega)) hp]
 |false=>
  rw[MY hv];refine O2 fun p hp e=>?_
  obtain⟨i,hi,_,hpv,_⟩:=Ky hw hp;have:=MX i (by omega);rw[<-hpv,e,hv]at this;cases this
theorem Zn{p:aC}(h:w9 p=true)(hl:p.args.length<=5):w9 (vn p)=true:=by
 unfold w9 at h⊢;rw[aU]at h⊢;refine⟨?_,?_⟩
 ·rw[Kw,Ec,b8];intro t ht;have hT:=b8.1 h.1 t ht;show nC (Dl _ t)=true;cases hv:fp t with
  |false=>rw[MY hv];exact hT
  |true=>
   obtain⟨q,hq,he⟩:=MJ p.args [] ht hv;obtain⟨i,hi,_,hpv,_⟩:=Ky (DI p.args Vj.nil) hq;have:=DB p.args;rw[<-he,IS (Ac p.args Tv.nil) hq,hpv];unfold nC;rw[MX i (by omega)];simp
 ·have:=h.2;rw[aU]at this⊢;refine⟨this.1,?_⟩;rw[Kw,aq];exact this.2
def Of(c:aS):aI:=bif decide (c.kind=1)then kQ c.pat.args else []
theorem a0j{c:aS}:(Of c).length<=c.wt:=by
 unfold Of;have h2:=yZ c.pat.args;have h3:=aC.dZ (aS.gW (br c.wt));cases decide (c.kind=1)<;>simp;omega
def Bw(r:aN)(n:Int):aI:=(r.conds.take n.toNat).flatMap Of
theorem SE{G:Type}(x:G)(xs:List G)(n:Int)(i:Nat):(x::xs).take (n-(i:Int)).toNat=if(i:Int)<n then x::xs.take (n-((i+1:Nat):Int)).toNat else []:=by
 by_cases h:(i:Int)<n
 ·rw[bO h];obtain⟨m,hm⟩:∃m,(n-(i:Int)).toNat=m+1:=⟨(n-(i:Int)).toNat -1,by omega⟩
  have:(n-((i+1:Nat):Int)).toNat=m:=by omega
  rw[hm,this];rfl
 ·rw[bE h,show(n-(i:Int)).toNat=0 from by omega];rfl
theorem Ht{G E:Type}{f:G->List E}{w:G->Nat}(l:List G)(h:∀x∈l,(f x).length<=w x+2):(l.flatMap f).length<=3*sD w l:=by
 induction l with
 |nil=>simp[sD]
 |cons x l ih=>
  rw[cw,bC,pz];have h1:=h x (by simp);have h2:=ih (fun y hy=>h y (by simp[hy]));omega
theorem a0k{r:aN}{n:Nat}(h:r.wt<=n)(m:Int):(Bw r m).length<=3*n:=by
 unfold Bw;have h1:=Ht (w:=aS.wt) (f:=Of) (r.conds.take m.toNat) (fun c _=>by have:= @a0j c;omega);have h2:sD aS.wt (r.conds.take m.toNat)<=sD aS.wt r.conds:=by
  conv=>rhs;rw[<-cc m.toNat r.conds]
  rw[R4];omega
 have h3:=aN.vA h;omega
theorem a2i(a:aN)(n:Int)(i:Nat)(y:aI)(k:aI->Option aI):∀(l:aI) (j:Nat) (w:aI),w.length+l.length<=1099511627770->kY a n i y k l j w=k (l.foldl B3 w):=by
 intro l
 induction l with
 |nil=>intro j w _;rfl
 |cons x l ih=>
  intro j w hw;simp only[aR]at hw;have:=CR w x;rw[kY,Wv w x (by omega),aA,ih _ _ (by omega)];rfl
theorem a5c(a:aN)(n:Int)(k:aI->Option aI):∀(l:ay) (i:Nat) (acc:aI),(∀c∈l,c.wt<=1048576)->acc.length+sD aS.wt l<=2097152->
 gr a n k l i (fU acc)=k (fU (acc++(l.take (n-(i:Int)).toNat).flatMap Of)):=by
 intro l
 induction l with
 |nil=>intro i acc _ _;simp[gr]
 |cons c l ih=>
  intro i acc hc hb;rw[pz]at hb;have Xv:=hc c (by simp);have hv:=yZ c.pat.args;have ha:=aC.dZ (aS.gW (br c.wt));have hu:=sR (kQ c.pat.args);have hu2:=sR acc;rw[gr,SE];by_cases hi:(i:Int)<n
  ·have e1:decide (((i:Int):Int)<n)=true:=by simp[hi]
   rw[e1,aG,bO hi];by_cases hk:c.kind=1
   ·have e2:((c.kind:Int)==1)=true:=by simp[hk]
    rw[e2,aG,Mk _ (aS.gW Xv),aA,sF (by omega),aG,a2i _ _ _ _ _ _ _ _ (by omega),IF,ih _ _ (fun x hx=>hc x (by simp[hx])) (by simp;omega)];simp[Of,hk]
   ·have e2:((c.kind:Int)==1)=false:=by simp[hk]
    rw[e2,aL,ih _ _ (fun x hx=>hc x (by simp[hx])) (by omega)];simp[Of,hk]
  ·have e1:decide (((i:Int):Int)<n)=false:=by simp[hi]
   rw[e1,aL,bE hi];simp
theorem Wo(r:aN)(n:Int)(h:r.wt<=1048576):mY r n=some (fU (Bw r n)):=by
 unfold mY;have:=a5c r n (fun q=>some q) r.conds 0 [] (fun c hc=>aN.th h hc) (by have:=aN.vA h;simp;omega);rw[show fU []=[]from rfl]at this;rw[this];simp[Bw]
theorem a4y(a:aN)(n:Int)(k:aI->Option aI):∀(l:ay) (i:Nat) (w:aI),(∀c∈l,c.wt<=1048576)->w.length+sD aS.wt l<=2097152->
 fw a n k l i w=k (w++(l.take (n-(i:Int)).toNat).flatMap Of):=by
 intro l
 induction l with
 |nil=>intro i w _ _;simp[fw]
 |cons c l ih=>
  intro i w hc hb;rw[pz]at hb;have Xv:=hc c (by simp);have hv:=yZ c.pat.args;have ha:=aC.dZ (aS.gW (br c.wt));rw[fw,SE];by_cases hi:(i:Int)<n
  ·have e1:decide (((i:Int):Int)<n)=true:=by simp[hi]
   rw[e1,aG,bO hi];by_cases hk:c.kind=1
   ·have e2:((c.kind:Int)==1)=true:=by simp[hk]
    rw[e2,aG,a1j _ (by omega) (fun x hx=>aC.ve (aS.gW Xv) hx),aA,a2e (by omega) (by decide),aG,ih _ _ (fun x hx=>hc x (by simp[hx])) (by simp;omega)];simp[Of,hk]
   ·have e2:((c.kind:Int)==1)=false:=by simp[hk]
    rw[e2,aL,ih _ _ (fun x hx=>hc x (by simp[hx])) (by omega)];simp[Of,hk]
  ·have e1:decide (((i:Int):Int)<n)=false:=by simp[hi]
   rw[e1,aL,bE hi,ih _ _ (fun x hx=>hc x (by simp[hx])) (by omega),show(n-((i+1:Nat):Int)).toNat=0 from by omega];simp
theorem a1S(r:aN)(n:Int)(h:r.wt<=1048576):rL r n=some (fU (Bw r n)):=by
 unfold rL;have hl:=a0k h n;rw[a4y r n _ r.conds 0 [] (fun c hc=>aN.th h hc) (by have:=aN.vA h;simp;omega)];have e:([]:aI)++(r.conds.take (n-((0:Nat):Int)).toNat).flatMap Of=Bw r n:=by simp[Bw]
 rw[e,TE _ (by omega)];rfl
def Au(l:ay):aI:=l.flatMap sW
def a4M(l:fB):aI:=l.flatMap fun a=>kQ a.pat.args
def a9J(r:aN):aI:=Au r.conds++a4M r.dD
theorem a0p(l:ay):(Au l).length<=3*sD aS.wt l:=Ht l (fun c _=>zh (br _))
theorem a33(a:aN)(i:Nat)(y:aI)(k:aI->Option aI):∀(l:aI) (j:Nat) (w:aI),w.length+l.length<=1099511627770->mJ a i y k l j w=k (l.foldl B3 w):=by
 intro l
 induction l with
 |nil=>intro j w _;rfl
 |cons x l ih=>
  intro j w hw;simp only[aR]at hw;have:=CR w x;rw[mJ,Wv w x (by omega),aA,ih _ _ (by omega)];rfl
theorem a35(a:aN)(i:Nat)(y:aI)(k:aI->Option aI):∀(l:aI) (j:Nat) (w:aI),w.length+l.length<=1099511627770->mK a i y k l j w=k (l.foldl B3 w):=by
 intro l
 induction l with
 |nil=>intro j w _;rfl
 |cons x l ih=>
  intro j w hw;simp only[aR]at hw;have:=CR w x;rw[mK,Wv w x (by omega),aA,ih _ _ (by omega)];rfl
theorem a32(a:aN)(k:aI->Option aI):∀(l:ay) (i:Nat) (acc:aI),(∀c∈l,c.wt<=1048576)->acc.length+3*sD aS.wt l<=16777216->
 ji a k l i (fU acc)=k (fU (acc++Au l)):=by
 intro l
 induction l with
 |nil=>intro i acc _ _;simp[ji,Au]
 |cons c l ih=>
  intro i acc hc hb;rw[pz]at hb;have Xv:=hc c (by simp);have h1:=zh (br c.wt);have hu:=sR (sW c);have hu2:=sR acc;rw[ji,Wp c Xv,aA,sF (by omega),aG,a33 _ _ _ _ _ _ _ (by omega),IF,ih _ _ (fun x hx=>hc x (by simp[hx])) (by simp;omega)];simp[Au]
theorem a34(a:aN)(k:aI->Option aI):∀(l:fB) (i:Nat) (acc:aI),(∀c∈l,c.wt<=1048576)->acc.length+3*sD Action.wt l<=16777216->
 ir a k l i (fU acc)=k (fU (acc++a4M l)):=by
 intro l
 induction l with
 |nil=>intro i acc _ _;simp[ir,a4M]
 |cons c l ih=>
  intro i acc hc hb;rw[pz]at hb;have Xv:=hc c (by simp);have h1:=yZ c.pat.args;have h2:=aC.dZ (Action.gW (br c.wt));have hu:=sR (kQ c.pat.args);have hu2:=sR acc;rw[ir,Mk _ (Action.gW Xv),aA,sF (by omega),aG,a35 _ _ _ _ _ _ _ (by omega),IF,ih _ _ (fun x hx=>hc x (by simp[hx])) (by simp;omega)];simp[a4M]
theorem a9Y(r:aN)(h:r.wt<=1048576):vN r=some (fU (a9J r)):=by
 unfold vN;have h3:=aN.vA h;have h4:=aN.LI h;have hl:=a0p r.conds;have:=a32 r (fun q=>ir r (fun q=>some q) r.dD 0 q) r.conds 0 [] (fun c hc=>aN.th h hc) (by simp;omega);rw[show fU []=[]from rfl]at this;rw[this];simp only[eN];rw[a34 r _ r.dD 0 _ (fun c hc=>aN.Sc h hc) (by omega)];rfl
theorem aB8(l:ay)(hc:∀c∈l,c.wt<=1048576)(hb:sD aS.wt l<=1048576):sj l=some (l.flatMap fun c=>fU (sW c)):=by
 unfold sj;have:∀(r:ay) (i:Nat) (w:aI),(∀c∈r,c.wt<=1048576)->w.length+3*sD aS.wt r<=16777216->iR l (fun q=>some q) r i w=some (w++r.flatMap fun c=>fU (sW c)):=by
  intro r
  induction r with
  |nil=>intro i w _ _;simp[iR]
  |cons c r ih=>
   intro i w hc hb;rw[pz]at hb;have h1:=zh (br c.wt);have hu:=sR (sW c);rw[iR,WR c (hc c (by simp)),aA,a2e (by omega) (by decide),aG,ih _ _ (fun x hx=>hc x (by simp[hx])) (by simp;omega)];simp
 exact this l 0 [] hc (by simp;omega)
theorem a0o(l:ay):(l.flatMap fun c=>fU (sW c)).length<=3*sD aS.wt l:=Ht l (fun c _=>by
 have h1:=zh (br c.wt);have hu:=sR (sW c);omega)
theorem aEU(l:ay)(b:aI):fU ((l.flatMap fun c=>fU (sW c))++b)=fU (Au l++b):=IE (fun x=>by simp[Au,rS])
def Yu(v:Bytes)(k:Int):ay->Nat->Bool
 | [],_=>false
 |c::cs,i=>(decide (((i:Nat):Int)≠k)&&(sW c).contains v)||Yu v k cs (i+1)
def UU(r:aN)(k:Int)(v:Bytes):Bool:=Yu v k r.conds 0||r.dD.any fun a=>(kQ a.pat.args).contains v
theorem RF{l:aI}{v:Bytes}(h:fp v=true):l.contains v=(kQ l).contains v:=by
 rw[cK];simp[kQ,h]
theorem aCl(r:aN)(k:Int)(v:Bytes)(h:r.wt<=1048576):pE r k v=some (UU r k v):=by
 unfold pE UU;have k2:∀(l:fB) (i:Nat),(∀c∈l,c.wt<=1048576)->jI r v (some false) l i=some (l.any fun a=>(kQ a.pat.args).contains v):=by
  intro l
  induction l with
  |nil=>intro i _;rfl
  |cons a l ih=>
   intro i hc;rw[jI,Mk _ (Action.gW (hc a (by simp))),aA,Zk,aA,pT,ih _ (fun x hx=>hc x (by simp[hx])),tM];cases(kQ a.pat.args).contains v<;>rfl
 have k1:∀(l:ay) (i:Nat),(∀c∈l,c.wt<=1048576)->gj r k v (some (r.dD.any fun a=>(kQ a.pat.args).contains v)) l i=some (Yu v k l i||r.dD.any fun a=>(kQ a.pat.args).contains v):=by
  intro l
  induction l with
  |nil=>intro i _;rfl
  |cons c l ih=>
   intro i hc;rw[gj,Wp _ (hc c (by simp)),aA,Zk,aA,pT,ih _ (fun x hx=>hc x (by simp[hx]))];simp only[Yu,bne,lS];by_cases hi:((i:Nat):Int)=k
   ·simp[hi]
   ·cases(sW c).contains v<;>simp[hi]
 rw[k2 _ _ (fun c hc=>aN.Sc h hc),k1 _ _ (fun c hc=>aN.th h hc)]
theorem aFo(r:aN)(k:Int)(v:Bytes)(hv:fp v=true)(h:r.wt<=1048576):nV r k v=some (UU r k v):=by
 unfold nV UU;have k2:∀(l:fB) (i:Nat),gD r v (some false) l i=some (l.any fun a=>(kQ a.pat.args).contains v):=by
  intro l
  induction l with
  |nil=>intro i;rfl
  |cons a l ih=>
   intro i;rw[gD,a52,aA,RF hv,ih,tM];cases(kQ a.pat.args).contains v<;>rfl
 have k1:∀(l:ay) (i:Nat),(∀c∈l,c.wt<=1048576)->fD r k v (some (r.dD.any fun a=>(kQ a.pat.args).contains v)) l i=some (Yu v k l i||r.dD.any fun a=>(kQ a.pat.args).contains v):=by
  intro l
  induction l with
  |nil=>intro i _;rfl
  |cons c l ih=>
   intro i hc;rw[fD,WR _ (hc c (by simp)),aA,a52,aA,pT,ih _ (fun x hx=>hc x (by simp[hx]))];simp only[Yu,bne,lS];by_cases hi:((i:Nat):Int)=k
   ·simp[hi]
   ·cases(sW c).contains v<;>simp[hi]
 rw[k2,k1 _ _ (fun c hc=>aN.th h hc)]
def Om(r:aN)(i:Nat)(c:aS)(v:Bytes):Bool:=decide (c.kind=1)||(Bw r i).contains v||(decide (c.kind=2)&& !UU r i v)
def uh(r:aN):ay->Nat->Bool
 | [],_=>true
 |c::cs,i=>(pS c&&(!decide (i=0)||decide (c.kind=1))&&(fU (sW c)).all (Om r i c))&&uh r cs (i+1)
def Pa(r:aN):Bool:=r.dD.all fun a=>PZ a&&(kQ a.pat.args).all fun v=>(Bw r r.conds.length).contains v
def fS(r:aN):Bool:=zH r.name&&(decide (0<=r.prio)&&decide (r.prio<=9))&&(decide (1<=(r.conds.length:Int))&&decide ((r.conds.length:Int)<=4))&&(decide (1<=(r.dD.length:Int))&&decide ((r.dD.length:Int)<=2))&&
 (uh r r.conds 0&&(Pa r&&decide (((fU (Au r.conds)).length:Int)<=6)))
theorem Rb(l:aI)(p:Bytes->Bool):(fU l).all p=l.all p:=by
 rw[cK];simp[b8,rS]
theorem a4U(r:aN)(n:Int){v:Bytes}(h:v∈Bw r n):v∈Au r.conds:=by
 unfold Bw at h;obtain⟨c,hc,hv⟩:=cB.1 h;refine cB.2 ⟨c,cO hc,?_⟩;unfold Of at hv;cases hk:decide (c.kind=1)with
 |false=>rw[hk]at hv;cases hv
 |true=>
  rw[hk]at hv;simp only[aG]at hv;unfold sW;rw[SJ];exact aX.2 (.inl hv)
theorem Vl{r:aN}(h:Pa r=true):fU (a9J r)=fU (Au r.conds):=by
 refine IE (fun x=>?_);unfold a9J;simp only[aX];constructor
 ·rintro(hx|hx)
  ·exact hx
  ·obtain⟨a,ha,hv⟩:=cB.1 hx;unfold Pa at h;have:=b8.1 h a ha;simp only[aU,b8]at this;have:=this.2 x hv;exact a4U r _ (by simpa using this)
 ·exact .inl
theorem a5p(r:aN)(y:aI)(i:Nat)(c:aS)(l:aI)(k:Option Bool)(hc:c.wt<=1048576)(hr:r.wt<=1048576)(hcb:pS c=true):∀(rest:aI) (j:Nat),iC r y i c (fU (Bw r i)) l k rest j=bif rest.all (Om r i c)then k else some false:=by
 have hk:=Jx hcb;intro rest
 induction rest with
 |nil=>intro j;rfl
 |cons v rest ih=>
  intro j;rw[iC,Zk,aA,pT,a3B c hc,aA,aCl r _ v hr,aA,ih,eE];unfold Js Om;rw[hcb];by_cases h1:c.kind=1
  ·simp[h1]
  by_cases h2:c.kind=2
  ·cases(Bw r i).contains v<;>cases UU r i v<;>simp[h2]
  have h3:c.kind>=3:=by omega
  cases(Bw r i).contains v<;>simp[h1,h2,h3]
theorem a5q(r:aN)(y:aI)(i:Nat)(c:aS)(l:aI)(k:Option Bool)(hc:c.wt<=1048576)(hr:r.wt<=1048576)(hcb:pS c=true):∀(rest:aI) (j:Nat),iD r y i c (fU (Bw r i)) l k rest j=bif rest.all (Om r i c)then k else some false:=by
 have hk:=Jx hcb;intro rest
 induction rest with
 |nil=>intro j;rfl
 |cons v rest ih=>
  intro j;rw[iD,Zk,aA,pT,a3B c hc,aA,aCl r _ v hr,aA,ih,eE];unfold Js Om;rw[hcb];by_cases h1:c.kind=1
  ·simp[h1]
  by_cases h2:c.kind=2
  ·cases(Bw r i).contains v<;>cases UU r i v<;>simp[h2]
  have h3:c.kind>=3:=by omega
  cases(Bw r i).contains v<;>simp[h1,h2,h3]
theorem a5o(r:aN)(y:aI)(k:Option Bool)(hr:r.wt<=1048576):∀(rest:ay) (i:Nat),(∀c∈rest,c.wt<=1048576)->me r y k rest i=bif uh r rest i then k else some false:=by
 intro rest
 induction rest with
 |nil=>intro i _;rfl
 |cons c rest ih=>
  intro i h;have hc:=h c (by simp);have hl:=zh hc;have hu:=sR (sW c);rw[me,a2j c hc,aA,uh];cases hcb:pS c with
  |false=>rfl
  |true=>
   rw[Wo r _ hr,Wp c hc,ih _ (fun x hx=>h x (by simp[hx]))];simp only[aA,sF (show(fU (sW c)).length<=1099511627776 by omega),aG];rw[a5p r y i c _ _ hc hr hcb,a5q r y i c _ _ hc hr hcb];simp only[bne,lS];have e0:decide (((i:Int):Int)=0)=decide (i=0):=by rw[cK];simp
   rw[e0];cases decide (i=0)<;>cases decide (c.kind=1)<;>cases(fU (sW c)).all (Om r i c)<;>simp
theorem a5s(r:aN)(y:aI)(i:Nat)(l:aI)(k:Option Bool):∀(rest:aI) (j:Nat),oo r y i l k rest j=bif rest.all (fun v=>y.contains v)then k else some false:=
 fun rest j=>Yn (f:=fun v=>iF y v) (L:=oo r y i l k) (fun _=>rfl) (fun _ _ _=>rfl) rest j (fun v _=>Zk y v)
theorem a5r(r:aN)(b:aI)(k:Option Bool):∀(rest:fB) (i:Nat),(∀a∈rest,a.wt<=1048576)->om r (fU b) k rest i=bif rest.all (fun a=>PZ a&&(kQ a.pat.args).all fun v=>b.contains v)then k else some false:=by
 intro rest
 induction rest with
 |nil=>intro i _;rfl
 |cons a rest ih=>
  intro i h;have ha:=h a (by simp);have h1:=yZ a.pat.args;have h2:=aC.dZ (Action.gW ha);have hu:=sR (kQ a.pat.args);rw[om,aG6 a ha,aA,Mk _ (Action.gW ha),aA,sF (by omega),ih _ (fun x hx=>h x (by simp[hx])),a5s,eE,Rb];have e:((kQ a.pat.args).all fun v=>(fU b).contains v)=(kQ a.pat.args).all fun v=>b.contains v:=by
   congr 1;funext v;exact pT b v
  rw[e];cases PZ a<;>cases(kQ a.pat.args).all (fun v=>b.contains v)<;>simp
theorem a7e(r:aN)(h:r.wt<=1048576):pN r=some (fS r):=by
 unfold pN;simp only[a2w _ (aN.Y9 h),aA,MM,aq];rw[Wo r _ h];simp only[aA];rw[a5o r _ _ h _ _ (fun c hc=>aN.th h hc),a5r r _ _ _ _ (fun a ha=>aN.Sc h ha),a9Y r h];simp only[aA,aq];have hab:(r.dD.all fun a=>PZ a&&(kQ a.pat.args).all fun v=>(Bw r r.conds.length).contains v)=Pa r:=rfl;rw[hab];unfold fS;have g1:decide (r.prio>=0)=decide (0<=r.prio):=rfl;have g2:decide ((r.conds.length:Int)>=1)=decide (1<=(r.conds.length:Int)):=rfl;have g3:decide ((r.dD.length:Int)>=1)=decide (1<=(r.dD.length:Int)):=rfl;rw[g1,g2,g3];cases ha:Pa r with
 |false=>cases zH r.name<;>cases(decide (0<=r.prio)&&decide (r.prio<=9))<;>cases(decide (1<=(r.conds.length:Int))&&decide ((r.conds.length:Int)<=4))<;>cases(decide (1<=(r.dD.length:Int))&&decide ((r.dD.length:Int)<=2))<;>cases uh r r.conds 0<;>rfl
 |true=>
  rw[Vl ha];cases zH r.name<;>cases(decide (0<=r.prio)&&decide (r.prio<=9))<;>cases(decide (1<=(r.conds.length:Int))&&decide ((r.conds.length:Int)<=4))<;>cases(decide (1<=(r.dD.length:Int))&&decide ((r.dD.length:Int)<=2))<;>cases uh r r.conds 0<;>simp
theorem a8k(r:aN)(i:Nat)(c:aS)(l:aI)(k:Option Bool)(hr:r.wt<=1048576)(hcb:pS c=true):∀(rest:aI) (j:Nat),(∀v∈rest,fp v=true)->iZ r (i:Int) c (fU (Bw r i)) l k rest j=bif rest.all (Om r i c)then k else some false:=by
 have hk:=Jx hcb;intro rest
 induction rest with
 |nil=>intro j _;rfl
 |cons v rest ih=>
  intro j hv;rw[iZ,a52,aA,pT,aFo r _ v (hv v (by simp)) hr,aA,ih _ (fun x hx=>hv x (by simp[hx])),eE];unfold Om;simp only[bne,lS];by_cases h1:c.kind=1
  ·simp[h1]
  by_cases h2:c.kind=2
  ·cases(Bw r i).contains v<;>cases UU r i v<;>simp[h2]
  cases(Bw r i).contains v<;>simp[h1,h2]
theorem aBD(r:aN)(i:Nat)(c:aS)(hr:r.wt<=1048576)(hi:r.conds[i]?=some c)(hcb:pS c=true):sM r (i:Int)=some ((fU (sW c)).all (Om r i c)):=by
 unfold sM;have hc:=aN.th hr (aE hi);have hl:=zh hc;have hu:=sR (sW c);have e:gA r.conds (i:Int)=some c:=by unfold gA;simp[hi]
 rw[e,aA,a1S r _ hr,aA,WR c hc,aA,sF (by omega),aG,a8k r i c _ _ hr hcb _ _ (fun v hv=>by
  rw[rS]at hv;unfold sW kQ at hv;exact(gw.1 hv).2)]
 cases(fU (sW c)).all (Om r i c)<;>rfl
theorem a56(r:aN)(k:Option Bool)(hr:r.wt<=1048576):∀(rest pre:ay),r.conds=pre++rest->kD r k rest pre.length=bif uh r rest pre.length then k else some false:=by
 intro rest
 induction rest with
 |nil=>intro pre _;rfl
 |cons c rest ih=>
  intro pre h;have hm:c∈r.conds:=by rw[h];simp
  have hc:=aN.th hr hm;have hi:r.conds[pre.length]?=some c:=by rw[h];simp
  have t:=ih (pre++[c]) (by rw[h];simp);simp only[bC,aR,cE]at t;rw[kD,a1X c hc,aA,uh];cases hcb:pS c with
  |false=>rfl
  |true=>
   rw[aBD r _ c hr hi hcb,aA,t];simp only[bne,lS];have e0:decide ((((pre.length:Nat):Int):Int)=0)=decide (pre.length=0):=by rw[cK];simp
   rw[e0];cases decide (pre.length=0)<;>cases decide (c.kind=1)<;>cases(fU (sW c)).all (Om r pre.length c)<;>simp
theorem a58(r:aN)(y:aI)(i:Nat)(l:aI)(k:Option Bool):∀(rest:aI) (j:Nat),oY r y i l k rest j=bif rest.all (fun v=>y.contains v)then k else some false:=
 fun rest j=>Yn (f:=fun v=>nT y v) (L:=oY r y i l k) (fun _=>rfl) (fun _ _ _=>rfl) rest j (fun v _=>a52 y v)
theorem a57(r:aN)(b:aI)(k:Option Bool):∀(rest:fB) (i:Nat),(∀a∈rest,a.wt<=1048576)->oX r (fU b) k rest i=bif rest.all (fun a=>PZ a&&(kQ a.pat.args).all fun v=>b.contains v)then k else some false:=by
 intro rest
 induction rest with
 |nil=>intro i _;rfl
 |cons a rest ih=>
  intro i h;have ha:=h a (by simp);have h1:=yZ a.pat.args;have h2:=aC.dZ (Action.gW ha);rw[oX,aFk a ha,aA,a1j _ (by omega) (fun x hx=>aC.ve (Action.gW ha) hx),aA,sF (by omega),ih _ (fun x hx=>h x (by simp[hx])),a58,eE];have e:((kQ a.pat.args).all fun v=>(fU b).contains v)=(kQ a.pat.args).all fun v=>b.contains v:=by
   congr 1;funext v;exact pT b v
  rw[e];cases PZ a<;>cases(kQ a.pat.args).all (fun v=>b.contains v)<;>simp
theorem aBO(r:aN)(h:r.wt<=1048576):xU r=some (fS r):=by
 unfold xU;have hcu:=a0o r.conds;have hcl:=aN.vA h;rw[show kD r _ r.conds 0=_ from a56 r _ h r.conds [] rfl,a1S r _ h,aA,a57 r _ _ _ _ (fun a ha=>aN.Sc h ha),aB8 _ (fun c hc=>aN.th h hc) hcl,aA,TE _ (by omega),a1b _ (aN.Y9 h)];have e:=aEU r.conds [];simp only[dV]at e;rw[e];simp only[aA,aq,cE];have hab:(r.dD.all fun a=>PZ a&&(kQ a.pat.args).all fun v=>(Bw r r.conds.length).contains v)=Pa r:=rfl;rw[hab];unfold fS;have g1:decide (0<=r.prio)= !decide (r.prio<0):=by rw[cK];simp
 have g2:decide (r.prio<=9)= !decide (r.prio>9):=by rw[cK];simp
 have g3:decide (1<=(r.conds.length:Int))= !decide ((r.conds.length:Int)<1):=by rw[cK];simp
 have g4:decide ((r.conds.length:Int)<=4)= !decide ((r.conds.length:Int)>4):=by rw[cK];simp
 have g5:decide (1<=(r.dD.length:Int))= !decide ((r.dD.length:Int)<1):=by rw[cK];simp
 have g6:decide ((r.dD.length:Int)<=2)= !decide ((r.dD.length:Int)>2):=by rw[cK];simp
 rw[g1,g2,g3,g4,g5,g6];cases zH r.name
 ·rfl
 cases decide (r.prio<0)
 case true=>rfl
 cases decide (r.prio>9)
 case true=>rfl
 cases decide ((r.conds.length:Int)<1)
 case true=>rfl
 cases decide ((r.conds.length:Int)>4)
 case true=>rfl
 cases decide ((r.dD.length:Int)<1)
 case true=>rfl
 cases decide ((r.dD.length:Int)>2)
 case true=>rfl
 cases uh r r.conds 0
 ·rfl
 cases Pa r
 ·rfl
 simp
def Ab(name:Bytes):az->Nat->Int
 | [],_=> -1
 |r::rs,i=>bif r.name==name then(i:Int)else Ab name rs (i+1)
def LL(all:az):az->Nat->Bool
 | [],_=>true
 |r::rs,i=>(fS r&&decide (Ab r.name all 0=(i:Int)))&&LL all rs (i+1)
def qU(l:az):Bool:=LL l l 0&&decide ((l.length:Int)<=6)
theorem VL(l:az)(n:Bytes):lU l n=some (Ab n l 0):=by
 unfold lU;have:∀(r:az) (i:Nat),mH l n (some (-1)) r i=some (Ab n r i):=by
  intro r
  induction r with
  |nil=>intro i;rfl
  |cons x r ih=>intro i;rw[mH,ih,Ab];cases x.name==n<;>rfl
 exact this l 0
theorem aBB(l:az)(n:Bytes):vD l n=some (Ab n l 0):=by
 unfold vD;have:∀(r:az) (i:Nat),lg l n (some (-1)) r i=some (Ab n r i):=by
  intro r
  induction r with
  |nil=>intro i;rfl
  |cons x r ih=>intro i;rw[lg,ih,Ab];cases x.name==n<;>rfl
 exact this l 0
theorem aG8(l:az)(h:sD aN.wt l<=1048576):vK l=some (qU l):=by
 unfold vK;have:∀(r:az) (i:Nat) (k:Option Bool),(∀x∈r,x.wt<=1048576)->mF l k r i=bif LL l r i then k else some false:=by
  intro r
  induction r with
  |nil=>intro i k _;rfl
  |cons x r ih=>
   intro i k hx;rw[mF,a7e x (hx x (by simp)),aA,VL,aA,ih _ _ (fun y hy=>hx y (by simp[hy])),LL];simp only[bne,lS];cases fS x<;>cases decide (Ab x.name l 0=(i:Int))<;>simp
 rw[this _ _ _ (fun x hx=>by have:=qS (w:=aN.wt) hx;omega),aq,qU];cases LL l l 0<;>rfl
theorem aFm(l:az)(h:sD aN.wt l<=1048576):vC l=some (qU l):=by
 unfold vC;have:∀(r:az) (i:Nat) (k:Option Bool),(∀x∈r,x.wt<=1048576)->ld l k r i=bif LL l r i then k else some false:=by
  intro r
  induction r with
  |nil=>intro i k _;rfl
  |cons x r ih=>
   intro i k hx;rw[ld,aBO x (hx x (by simp)),aA,aBB,aA,ih _ _ (fun y hy=>hx y (by simp[hy])),LL];simp only[bne,lS];cases fS x<;>cases decide (Ab x.name l 0=(i:Int))<;>simp
 rw[this _ _ _ (fun x hx=>by have:=qS (w:=aN.wt) hx;omega),aq,qU];have g:decide ((l.length:Int)<=6)= !decide ((l.length:Int)>6):=by rw[cK];simp
 rw[g];cases LL l l 0<;>cases decide ((l.length:Int)>6)<;>rfl
theorem Qe{G E:Type}[DecidableEq E]{f:G->G->Option Bool}{g:G->E}{a b:List G}{k:Option Bool}{L:List G->Nat->Option Bool}(hl:a.length=b.length)(wo:∀i,L [] i=k)
 (wO:∀x xs i,L (x::xs) i=(gA b (i:Int)).bind fun y=>(f x y).bind fun r=>bif !r then some false else L xs (i+1)) (hf:∀x y,f x y=some (decide (g x=g y))):
 L a 0=bif decide (a.map g=b.map g)then k else some false:=by
 have key:∀(ra rb pa pb:List G),a=pa++ra->b=pb++rb->pa.length=pb.length->L ra pa.length=bif decide (ra.map g=rb.map g)then k else some false:=by
  intro ra
  induction ra with
  |nil=>
   intro rb pa pb h1 h2 h3;rw[wo];have:rb=[]:=by
    have:=congrArg List.length h1;have:=congrArg List.length h2;simp at*;apply dJ;omega
   subst this;simp
  |cons x xs ih=>
   intro rb pa pb h1 h2 h3;cases rb with
   |nil=>
    exfalso;have:=congrArg List.length h1;have:=congrArg List.length h2;simp at*;omega
   |cons y ys=>
    have e1:gA b (pa.length:Int)=some y:=by rw[h3];exact xk h2
    rw[wO,e1,aA,hf,aA];have:=ih ys (pa++[x]) (pb++[y]) (by rw[h1];simp) (by rw[h2];simp) (by simp[h3]);simp only[bC,aR,cE]at this;rw[this];by_cases hxy:g x=g y
    ·simp[hxy]
    ·simp[hxy]
 exact key a b [] [] rfl rfl rfl
theorem QS{G E:Type}{g:G->E}{a b:List G}(h:a.length≠b.length):a.map g≠b.map g:=fun e=>h (by have:=congrArg List.length e;simpa using this)
theorem IQ{G:Type}{c:G->aT}(a b:List G):((((a.map c).length:Int):Int) != ((b.map c).length:Int))= !decide (a.length=b.length):=by
 rw[cK];simp;omega
theorem map_id'{G:Type}(l:List G):l.map (fun x=>x)=l:=by simp
theorem a8r(a b:aN):sL a b=some (decide (a=b)):=by
 have k2:∀(k:Option Bool),a.dD.length=b.dD.length->jW a b k a.dD 0=bif decide (a.dD=b.dD)then k else some false:=fun k hl=>by
  have:=Qe (g:=fun x:Action=>x) (f:=fun x y:Action=>bif x.kind != y.kind then some false else gS x.pat y.pat) (k:=k) (L:=jW a b k) hl (fun _=>rfl) (fun x xs i=>by
   rw[jW];congr 1;funext y;cases(x.kind != y.kind)<;>rfl) (fun x y=>by
   obtain⟨x0,x1⟩:=x;obtain⟨y0,y1⟩:=y;simp only[QD,bne,lS];by_cases h0:x0=y0<;>by_cases h1:x1=y1<;>simp[h0,h1])
  rw[map_id',map_id']at this;exact this
 have k1:∀(k:Option Bool),a.conds.length=b.conds.length->lq a b k a.conds 0=bif decide (a.conds=b.conds)then k else some false:=fun k hl=>by
  have:=Qe (g:=fun x:aS=>x) (f:=lT) (k:=k) (L:=lq a b k) hl (fun _=>rfl) (fun _ _ _=>rfl) TD;rw[map_id',map_id']at this;exact this
 unfold sL;rw[IQ,IQ];obtain⟨a0,a1,a2,a3⟩:=a;obtain⟨b0,b1,b2,b3⟩:=b;simp only at k1 k2⊢;simp only[bne,lS,Bool.not_not];by_cases h0:a0=b0;rotate_left
 ·simp[h0]
 by_cases h1:a1=b1;rotate_left
 ·simp[h1]
 by_cases h2:a2.length=b2.length;rotate_left
 ·have:a2≠b2:=fun e=>h2 (by rw[e])
  simp[h2,this]
 by_cases h3:a3.length=b3.length;rotate_left
 ·have:a3≠b3:=fun e=>h3 (by rw[e])
  simp[h3,this]
 rw[k1 _ h2,k2 _ h3];by_cases h4:a2=b2<;>by_cases h5:a3=b3<;>simp[h0,h1,h2,h3,h4,h5]
theorem a5A(a b:az):uL a b=some (decide (a=b)):=by
 unfold uL;exact eqL (c:=aN.c) (f:=sL) (fun k=>o6 a b k) (fun _ _=>rfl) (fun _ _ _ _=>rfl) a8r
theorem VB(x y:aW):((x.var:Bytes)==y.var&&(x.value:Bytes)==y.value)=decide (x=y):=by
 obtain⟨x0,x1⟩:=x;obtain⟨y0,y1⟩:=y;simp only[lS];by_cases h0:x0=y0<;>by_cases h1:x1=y1<;>simp[h0,h1]
theorem a36(a b:aP):jl a b=some (decide (a=b)):=by
 unfold jl;exact eqL (c:=aW.c) (f:=fun x y=>some (decide (x=y))) (fun k=>iI a b k) (fun _ _=>rfl) (fun k x xs i=>by rw[iI];congr 1;funext y;rw[VB];rfl) (fun _ _=>rfl)
theorem a1d(a b:aP):og a b=some (decide (a=b)):=by
 unfold og;exact eqL (c:=aW.c) (f:=fun x y=>some (decide (x=y))) (fun k=>kV a b k) (fun _ _=>rfl) (fun k x xs i=>by rw[kV];congr 1;funext y;rw[VB];rfl) (fun _ _=>rfl)
theorem a5t(a b:ar):qo a b=some (decide (a=b)):=by
 unfold qo;exact eqL (c:=aQ.c) (f:=fun x y=>(mj x.facts y.facts).bind fun r=>bif !r then some false else jl x.bind y.bind) (fun k=>iw a b k) (fun _ _=>rfl) (fun k x xs i=>by
  rw[iw];congr 1;funext y;rw[PJ,aA,aA];cases decide (x.facts=y.facts)<;>rfl) (fun x y=>by
  obtain⟨x0,x1⟩:=x;obtain⟨y0,y1⟩:=y;simp only[PJ,a36,aA];by_cases h0:x0=y0<;>by_cases h1:x1=y1<;>simp[h0,h1])
theorem a5B(a b:ar):qN a b=some (decide (a=b)):=by
 unfold qN;exact eqL (c:=aQ.c) (f:=fun x y=>(j7 x.facts y.facts).bind fun r=>bif !r then some false else og x.bind y.bind) (fun k=>jb a b k) (fun _ _=>rfl) (fun k x xs i=>by
  rw[jb];congr 1;funext y;rw[ML,aA,aA];cases decide (x.facts=y.facts)<;>rfl) (fun x y=>by
  obtain⟨x0,x1⟩:=x;obtain⟨y0,y1⟩:=y;simp only[ML,a1d,aA];by_cases h0:x0=y0<;>by_cases h1:x1=y1<;>simp[h0,h1])
def Py(a b:aF):Bool:=decide (a.bG.map ah.shape=b.bG.map ah.shape)&&(decide (a.nodes.map (fun x=>(x.parent,x.cX,x.cond))=b.nodes.map (fun x=>(x.parent,x.cX,x.cond)))&&decide (a.ends=b.ends))
def Ov(a b:aF):Bool:=decide (a.rules=b.rules)&&(decide (a.ends=b.ends)&&(decide (a.facts=b.facts)&&(decide (a.bG=b.bG)&&decide (a.nodes=b.nodes))))
theorem aCn(a b:aF):tC a b=some (Py a b):=by
 unfold tC Py;rw[IQ,IQ,IQ];by_cases h1:a.bG.length=b.bG.length;rotate_left
 ·simp[h1,QS h1]
 by_cases h2:a.nodes.length=b.nodes.length;rotate_left
 ·simp[h2,QS h2]
 by_cases h3:a.ends.length=b.ends.length;rotate_left
 ·have:a.ends≠b.ends:=fun e=>h3 (by rw[e])
  simp[h3,this]
 have k1:=fun k=>Qe (g:=ah.shape) (f:=fun x y:ah=>jj x.shape y.shape) (k:=k) (L:=n9 a b k) h1 (fun _=>rfl) (fun _ _ _=>rfl) (fun x y=>Wx _ _)
 have k2:=fun k=>Qe (g:=fun x:Node=>(x.parent,x.cX,x.cond)) (f:=fun x y:Node=>bif x.parent != y.parent then some false else bif x.cX != y.cX then some false else qe x.cond y.cond) (k:=k) (L:=jm a b k) h2 (fun _=>rfl) (fun x xs i=>by
  rw[jm];congr 1;funext y;cases(x.parent != y.parent)<;>cases(x.cX != y.cX)<;>rfl) (fun x y=>by
  simp only[a38,bne,lS];by_cases q0:x.parent=y.parent<;>by_cases q1:x.cX=y.cX<;>by_cases q2:x.cond=y.cond<;>simp[q0,q1,q2])
 have k3:=fun k=>Qe (g:=fun x:Int=>x) (f:=fun x y:Int=>some (decide (x=y))) (k:=k) (L:=jo a b k) h3 (fun _=>rfl) (fun x xs i=>by
  rw[jo];congr 1) (fun x y=>rfl)
 rw[k1,k2,k3,map_id',map_id'];simp only[h1,h2,h3,Cy,bU,aL];cases decide (a.bG.map ah.shape=b.bG.map ah.shape)<;>cases decide (a.nodes.map (fun x=>(x.parent,x.cX,x.cond))=b.nodes.map (fun x=>(x.parent,x.cX,x.cond)))<;>cases decide (a.ends=b.ends)<;>rfl
theorem aFp(a b:aF):qm a b=some (Ov a b):=by
 unfold qm;simp only[a5A,a8p,ML,aA,IQ];by_cases h1:a.bG.length=b.bG.length;rotate_left
 ·have:a.bG≠b.bG:=fun e=>h1 (by rw[e])
  simp only[h1,Ov,this,LB,bt,aG,Bool.false_and];cases decide (a.rules=b.rules)<;>cases decide (a.ends=b.ends)<;>cases decide (a.facts=b.facts)<;>rfl
 by_cases h2:a.nodes.length=b.nodes.length;rotate_left
 ·have:a.nodes≠b.nodes:=fun e=>h2 (by rw[e])
  simp only[h1,h2,Ov,this,Cy,LB,bt,bU,aG,aL,wA];cases decide (a.rules=b.rules)<;>cases decide (a.ends=b.ends)<;>cases decide (a.facts=b.facts)<;>rfl
 have k1:=fun k=>Qe (g:=fun x:ah=>x) (f:=fun x y:ah=>(gS x.shape y.shape).bind fun r=>bif !r then some false else j7 x.facts y.facts) (k:=k) (L:=iX a b k) h1 (fun _=>rfl) (fun x xs i=>by
  rw[iX];congr 1;funext y;rw[QD,aA,aA];cases decide (x.shape=y.shape)<;>rfl) (fun x y=>by
  obtain⟨x0,x1⟩:=x;obtain⟨y0,y1⟩:=y;simp only[QD,ML,aA];by_cases q0:x0=y0<;>by_cases q1:x1=y1<;>simp[q0,q1])
 have k2:=fun k=>Qe (g:=fun x:Node=>x) (f:=fun x y:Node=>bif x.parent != y.parent then some false else bif x.cX != y.cX then some false else(lT x.cond y.cond).bind fun r=>bif !r then some false else qN x.tokens y.tokens) (k:=k) (L:=iY a b k) h2 (fun _=>rfl) (fun x xs i=>by
  rw[iY];congr 1;funext y;rw[TD,aA,aA];cases(x.parent != y.parent)<;>cases(x.cX != y.cX)<;>cases decide (x.cond=y.cond)<;>rfl) (fun x y=>by
  obtain⟨x0,x1,x2,x3⟩:=x;obtain⟨y0,y1,y2,y3⟩:=y;simp only[TD,a5B,aA,bne,lS];by_cases q0:x0=y0<;>by_cases q1:x1=y1<;>by_cases q2:x2=y2<;>by_cases q3:x3=y3<;>simp[q0,q1,q2,q3])
 rw[k1,k2,map_id',map_id',map_id',map_id',Ov];simp only[h1,h2,Cy,bU,aL];cases decide (a.rules=b.rules)<;>cases decide (a.ends=b.ends)<;>cases decide (a.facts=b.facts)<;>cases decide (a.bG=b.bG)<;>cases decide (a.nodes=b.nodes)<;>rfl
end Go.Cx

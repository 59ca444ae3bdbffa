/- What functions of the program compute, and the walks that show it. No condition. -/
import Derived.Test.YtfankinmlfnncaaGreatDoorPFnChangesG6
import Derived.Test.YtfankinmlfnncaaGreatDoorPFnChangesG2
import Derived.Test.YtfankinmlfnncaaGreatDoorPFnChangesG3
import Derived.ProofKit
set_option linter.unusedVariables false
set_option linter.unusedSimpArgs false
namespace Go.Cx
open Go.RowKit Go.Proofs Tryz
set_option maxRecDepth 100000
variable{Z:wW}{N:Nat->St->Prop}
def eU(y4:aF×aC×Bool)(y6:bL×bL)(yM:bL)(Ce:bL)(k1:Option Bool):bL->Nat->Option Bool
 | [],i1=>(k1)
 |bg::cj,i1=>((lU y4.1.rules bg.rule).bind fun a6A=>((gy Ce bg).bind fun aDK=>(bif !(aDK)then(some false)else((gy yM bg).bind fun aDL=>(bif aDL then(some false)else(bif decide ((a6A:Int)<0)then(some false)else(bif y4.2.2 then((gA y4.1.rules a6A).bind fun x170=>((gh x170).bind fun aDM=>(bif !(aDM)then((jw bg y4.2.1).bind fun aDN=>(bif !(aDN)then(some false)else(bif !(y4.2.2)then((gh x170).bind fun Ga=>(bif !(Ga)then(some false)else(eU y4 y6 yM Ce k1 cj (i1+1))))else(eU y4 y6 yM Ce k1 cj (i1+1)))))else(bif !(y4.2.2)then((gh x170).bind fun a05=>(bif !(a05)then(some false)else(eU y4 y6 yM Ce k1 cj (i1+1))))else(eU y4 y6 yM Ce k1 cj (i1+1))))))else(bif !(y4.2.2)then((gA y4.1.rules a6A).bind fun x187=>((gh x187).bind fun aDP=>(bif !(aDP)then(some false)else(eU y4 y6 yM Ce k1 cj (i1+1)))))else(eU y4 y6 yM Ce k1 cj (i1+1))))))))))
def eV(y4:aF×aC×Bool)(y6:bL×bL)(yM:bL)(Ce:bL)(k2:Option Bool):bL->Nat->Option Bool
 | [],i2=>(k2)
 |jM::tL,i2=>((lU y4.1.rules jM.rule).bind fun a6B=>((gy Ce jM).bind fun aDU=>(bif aDU then(some false)else((gy yM jM).bind fun aDV=>(bif !(aDV)then(some false)else(bif decide ((a6B:Int)<0)then(some false)else(bif y4.2.2 then((gA y4.1.rules a6B).bind fun x339=>((gh x339).bind fun aDW=>(bif !(aDW)then(some false)else(bif !(y4.2.2)then((gh x339).bind fun aDX=>(bif !(aDX)then((jw jM y4.2.1).bind fun aDY=>(bif !(aDY)then(some false)else(eV y4 y6 yM Ce k2 tL (i2+1))))else(eV y4 y6 yM Ce k2 tL (i2+1))))else(eV y4 y6 yM Ce k2 tL (i2+1))))))else(bif !(y4.2.2)then((gA y4.1.rules a6B).bind fun x352=>((gh x352).bind fun aDZ=>(bif !(aDZ)then((jw jM y4.2.1).bind fun aDa=>(bif !(aDa)then(some false)else(eV y4 y6 yM Ce k2 tL (i2+1))))else(eV y4 y6 yM Ce k2 tL (i2+1)))))else(eV y4 y6 yM Ce k2 tL (i2+1))))))))))
def eW(y4:aF×aC×Bool)(y6:bL×bL)(yN:bL)(yO:bL)(k3:Option Bool):bL->Nat->Option Bool
 | [],i3=>(k3)
 |Oa::Kz,i3=>((lU y4.1.rules Oa.rule).bind fun a6E=>((gy yO Oa).bind fun aDd=>(bif !(aDd)then(some false)else((gy yN Oa).bind fun aDe=>(bif aDe then(some false)else(bif decide ((a6E:Int)<0)then(some false)else(bif y4.2.2 then((gA y4.1.rules a6E).bind fun x519=>((gh x519).bind fun aDf=>(bif !(aDf)then((jw Oa y4.2.1).bind fun aDg=>(bif !(aDg)then(some false)else(bif !(y4.2.2)then((gh x519).bind fun aDh=>(bif !(aDh)then(some false)else(eW y4 y6 yN yO k3 Kz (i3+1))))else(eW y4 y6 yN yO k3 Kz (i3+1)))))else(bif !(y4.2.2)then((gh x519).bind fun aDj=>(bif !(aDj)then(some false)else(eW y4 y6 yN yO k3 Kz (i3+1))))else(eW y4 y6 yN yO k3 Kz (i3+1))))))else(bif !(y4.2.2)then((gA y4.1.rules a6E).bind fun x536=>((gh x536).bind fun aDk=>(bif !(aDk)then(some false)else(eW y4 y6 yN yO k3 Kz (i3+1)))))else(eW y4 y6 yN yO k3 Kz (i3+1))))))))))
def eX(y4:aF×aC×Bool)(y6:bL×bL)(yN:bL)(yO:bL)(k4:Option Bool):bL->Nat->Option Bool
 | [],i4=>(k4)
 |x4_::xs4,i4=>((lU y4.1.rules x4_.rule).bind fun a6F=>((gy yO x4_).bind fun aDo=>(bif aDo then(some false)else((gy yN x4_).bind fun aDp=>(bif !(aDp)then(some false)else(bif decide ((a6F:Int)<0)then(some false)else(bif y4.2.2 then((gA y4.1.rules a6F).bind fun x688=>((gh x688).bind fun aDq=>(bif !(aDq)then(some false)else(bif !(y4.2.2)then((gh x688).bind fun aDr=>(bif !(aDr)then((jw x4_ y4.2.1).bind fun aDs=>(bif !(aDs)then(some false)else(eX y4 y6 yN yO k4 xs4 (i4+1))))else(eX y4 y6 yN yO k4 xs4 (i4+1))))else(eX y4 y6 yN yO k4 xs4 (i4+1))))))else(bif !(y4.2.2)then((gA y4.1.rules a6F).bind fun x701=>((gh x701).bind fun aDt=>(bif !(aDt)then((jw x4_ y4.2.1).bind fun aDu=>(bif !(aDu)then(some false)else(eX y4 y6 yN yO k4 xs4 (i4+1))))else(eX y4 y6 yN yO k4 xs4 (i4+1)))))else(eX y4 y6 yN yO k4 xs4 (i4+1))))))))))
def wh(aD:bM):Option Bool:=((F3 aD).bind fun y1=>(bif y1 then(some true)else((pY aD).bind fun y4=>((we y4.1 y4.2.1 y4.2.2).bind fun y6=>((nY y4.1 y4.2.1).bind fun y8=>(bif y4.2.2 then((qn y4.1 y4.2.1).bind fun yc=>(bif !(yc.2)then(bif (((y6.1.map ai.c).length:Int):Int)==0 then(some ((((y6.2.map ai.c).length:Int):Int)==0))else(some false))else((fe y4.1).bind fun yM=>((fe yc.1).bind fun Ce=>(bif (((Ce.map ai.c).length:Int):Int) != (IntKind.i64.wrap ((IntKind.i64.wrap (((yM.map ai.c).length:Int)+((y6.1.map ai.c).length:Int)))-((y6.2.map ai.c).length:Int)))then(some false)else(bif decide (y6.1.length<=maxLen)then(eU y4 y6 yM Ce (bif decide (y6.2.length<=maxLen)then(eV y4 y6 yM Ce (some true) y6.2 0)else none) y6.1 0)else none))))))else(bif !(y8.2)then(bif (((y6.1.map ai.c).length:Int):Int)==0 then(some ((((y6.2.map ai.c).length:Int):Int)==0))else(some false))else((fe y4.1).bind fun yN=>((fe y8.1).bind fun yO=>(bif (((yO.map ai.c).length:Int):Int) != (IntKind.i64.wrap ((IntKind.i64.wrap (((yN.map ai.c).length:Int)+((y6.1.map ai.c).length:Int)))-((y6.2.map ai.c).length:Int)))then(some false)else(bif decide (y6.1.length<=maxLen)then(eW y4 y6 yN yO (bif decide (y6.2.length<=maxLen)then(eX y4 y6 yN yO (some true) y6.2 0)else none) y6.1 0)else none)))))))))))
def J1(y4:aF×aC×Bool)(y6:bL×bL)(yM:bL)(Ce:bL)(dL:Int):St:=⟨[(3,bp 0 0),(4,bp 1 0),(5,bQ y4.2.2),(6,b9 2),(7,b9 3),(10,b9 4),(11,b9 5),(12,aB dL)],[bu [bX (y4.1.rules.map aN.c),b9 6,b9 7,b9 8,b9 9,aB y4.1.cP],bu [aZ y4.2.1.rel,b9 10],af 57 3 (y6.1.map ai.c),af 57 3 (y6.2.map ai.c),af 57 3 (yM.map ai.c),af 57 3 (Ce.map ai.c),af 3 1 (y4.1.ends.map jN),af 83 3 (y4.1.bG.map ah.c),af 74 8 (y4.1.nodes.map Node.c),af 43 2 (y4.1.facts.map aC.c),af 9 1 (y4.2.1.args.map tx)]⟩
theorem HN(hZ:Z.nt=203){y4:aF×aC×Bool}{y6:bL×bL}{yM:bL}{Ce:bL}{r:Bool}{k1:Option Bool}(eC:k1=some r->Ax Z N f6 (.q bZ (bQ r)) [1,1,1,1,1,1,1,1,1,1,1] ⟨[(3,bp 0 0),(4,bp 1 0),(5,bQ y4.2.2),(7,b9 2),(10,b9 3),(11,b9 4)],[bu [bX (y4.1.rules.map aN.c),b9 5,b9 6,b9 7,b9 8,aB y4.1.cP],bu [aZ y4.2.1.rel,b9 9],af 57 3 (y6.2.map ai.c),af 57 3 (yM.map ai.c),af 57 3 (Ce.map ai.c),af 3 1 (y4.1.ends.map jN),af 83 3 (y4.1.bG.map ah.c),af 74 8 (y4.1.nodes.map Node.c),af 43 2 (y4.1.facts.map aC.c),af 9 1 (y4.2.1.args.map tx)]⟩)(hm1:y6.1.length<=maxLen):∀(rest:bL) (i1:Nat),y6.1.drop i1=rest->eU y4 y6 yM Ce k1 rest i1=some r->Ar Z N f6 (.q bZ (bQ r)) [1,1,1,1,1,1,1,1,1,1,0,1,0] (rest.length+1) (J1 y4 y6 yM Ce (i1:Int)):=by
 intro rest
 induction rest with
 |nil=>
  intro i1 bB h;rw[eU]at h;refine aV fun N1 cq cS=>?_
  exact((aY.ge ai.c bB).a [.hl 0 [3,4,5,7,10,11] [0,1,3,4,5,6,7,8,9,10]]).ex hZ cq (eC h)
 |cons bg cj ih1=>
  intro i1 bB h;rw[eU]at h;refine aV fun N1 cq cS=>?_
  obtain⟨a6A,h161,aDK,h163,h⟩:=bR h;have aBn:=(((((((((aY.lt ai.c bB).a [.n 7]).i (fH ai.c 3 (dc bB))).o 3 1 .uq (cL ai.c (dc bB))).g (pZ h161)).a [.n 47]).i (fH ai.c 3 (dc bB))).o 3 3 .uq (cL ai.c (dc bB))).g (iU h163))
  obtain⟨h164,h⟩|⟨h164,h⟩:=aK h
  ·cases aM h;exact((((((((aBn.r 7 h164).T 5).a [bF,bF,bF,bF,bF,bF,bF]).T 2).a [bF,bF,bF,bF,bF,bF,bF]).T 5).a [bF,bF,bF,bF,bF,bF,bF]).T 3).ret hZ
  ·obtain⟨aDL,h166,h⟩:=aH h;have aBo:=(((((((aBn.r 4 h164).i (fH ai.c 3 (dc bB))).b h164).o 3 3 .uq (cL ai.c (dc bB))).b h164).g (iU h166)).b h164)
   obtain⟨h167,h⟩|⟨h167,h⟩:=aK h
   ·cases aM h;exact((((((((aBo.r 3 h167).T 2).a [bF,bF,bF,bF,bF,bF,bF]).T 2).a [bF,bF,bF,bF,bF,bF,bF]).T 5).a [bF,bF,bF,bF,bF,bF,bF]).T 3).ret hZ
   ·have aBp:=(aBo.r 3 h167)
    obtain⟨h168,h⟩|⟨h168,h⟩:=aK h
    ·cases aM h;exact((((((((aBp.r 2 h168).a [bF,bF,bF,bF,bF,bF,bF]).r 2 h168).a [bF,bF,bF,bF,bF,bF,bF]).r 2 h168).T 3).a [bF,bF,bF,bF,bF,bF,bF]).T 3).ret hZ
    ·have aBq:=(aBp.r 2 h168)
     obtain⟨h169,h⟩|⟨h169,h⟩:=aK h
     ·obtain⟨x170,h171,aDM,h173,h⟩:=bR h;have aBr:=((((((((aBq.r 4 h169).l (dW aN.c 4 h171 rfl)).r 2 h169).g (ei h173)).b h169).b h168).b h169).b h168)
      obtain⟨h174,h⟩|⟨h174,h⟩:=aK h
      ·obtain⟨aDN,h176,h⟩:=aH h;have aBs:=((((((((((aBr.r 3 h174).i (fH ai.c 3 (dc bB))).b h174).o 3 3 .uq (cL ai.c (dc bB))).r 2 h174).g (mV h176)).b h174).b h168).b h174).b h168)
       obtain⟨h177,h⟩|⟨h177,h⟩:=aK h
       ·cases aM h;exact((((aBs.r 3 h177).a [bF,bF,bF,bF,bF,bF,bF]).r 2 h177).T 1).ret hZ
       ·have aBt:=(aBs.r 3 h177)
        obtain⟨h178,h⟩|⟨h178,h⟩:=aK h
        ·obtain⟨Ga,h180,h⟩:=aH h;have aBu:=((((((((aBt.r 4 h178).l (dW aN.c 4 h171 rfl)).r 2 h178).g (ei h180)).b h178).b h177).b h178).b h177)
         obtain⟨h181,h⟩|⟨h181,h⟩:=aK h
         ·cases aM h;exact(aBu.b h181).ret hZ
         ·exact((aBu.b h181).a [.cn [3,4,5,6,7,10,11,12] [0,1,2,3,4,5,6,7,8,9,10]]).ct hZ cS (iS bB hm1) (ih1 (i1+1) (dn bB) h)
        ·exact((((((aBt.r 7 h178).b h177).b h178).b h177).F 1).a [.cn [3,4,5,6,7,10,11,12] [0,1,2,3,4,5,6,7,8,9,10]]).ct hZ cS (iS bB hm1) (ih1 (i1+1) (dn bB) h)
      ·have aBv:=(((((aBr.r 7 h174).b h168).b h174).b h168).F 3)
       obtain⟨h182,h⟩|⟨h182,h⟩:=aK h
       ·obtain⟨a05,h184,h⟩:=aH h;have aBw:=((((((((aBv.r 4 h182).l (dW aN.c 4 h171 rfl)).r 2 h182).g (ei h184)).b h182).F 1).b h182).F 1)
        obtain⟨h185,h⟩|⟨h185,h⟩:=aK h
        ·cases aM h;exact(aBw.b h185).ret hZ
        ·exact((aBw.b h185).a [.cn [3,4,5,6,7,10,11,12] [0,1,2,3,4,5,6,7,8,9,10]]).ct hZ cS (iS bB hm1) (ih1 (i1+1) (dn bB) h)
       ·exact(((((aBv.r 7 h182).F 1).b h182).F 2).a [.cn [3,4,5,6,7,10,11,12] [0,1,2,3,4,5,6,7,8,9,10]]).ct hZ cS (iS bB hm1) (ih1 (i1+1) (dn bB) h)
     ·have aBx:=(((((((((aBq.r 7 h169).b h168).b h169).b h168).F 7).b h168).F 1).b h168).F 3)
      obtain⟨h186,h⟩|⟨h186,h⟩:=aK h
      ·obtain⟨x187,h188,aDP,h190,h⟩:=bR h;have aBy:=((((((((aBx.r 4 h186).l (dW aN.c 4 h188 rfl)).r 2 h186).g (ei h190)).b h186).F 1).b h186).F 1)
       obtain⟨h191,h⟩|⟨h191,h⟩:=aK h
       ·cases aM h;exact(aBy.b h191).ret hZ
       ·exact((aBy.b h191).a [.cn [3,4,5,6,7,10,11,12] [0,1,2,3,4,5,6,7,8,9,10]]).ct hZ cS (iS bB hm1) (ih1 (i1+1) (dn bB) h)
      ·exact(((((aBx.r 7 h186).F 1).b h186).F 2).a [.cn [3,4,5,6,7,10,11,12] [0,1,2,3,4,5,6,7,8,9,10]]).ct hZ cS (iS bB hm1) (ih1 (i1+1) (dn bB) h)
def J2(y4:aF×aC×Bool)(y6:bL×bL)(yM:bL)(Ce:bL)(dL:Int):St:=⟨[(3,bp 0 0),(4,bp 1 0),(5,bQ y4.2.2),(7,b9 2),(10,b9 3),(11,b9 4),(14,aB dL)],[bu [bX (y4.1.rules.map aN.c),b9 5,b9 6,b9 7,b9 8,aB y4.1.cP],bu [aZ y4.2.1.rel,b9 9],af 57 3 (y6.2.map ai.c),af 57 3 (yM.map ai.c),af 57 3 (Ce.map ai.c),af 3 1 (y4.1.ends.map jN),af 83 3 (y4.1.bG.map ah.c),af 74 8 (y4.1.nodes.map Node.c),af 43 2 (y4.1.facts.map aC.c),af 9 1 (y4.2.1.args.map tx)]⟩
theorem HO(hZ:Z.nt=203){y4:aF×aC×Bool}{y6:bL×bL}{yM:bL}{Ce:bL}{r:Bool}{k2:Option Bool}(zc:k2=some r->Ax Z N f6 (.q bZ (bQ r)) [1,1,1,1,1,1,1,1,1,1,1,1] ⟨[],[]⟩)(hm2:y6.2.length<=maxLen):∀(rest:bL) (i2:Nat),y6.2.drop i2=rest->eV y4 y6 yM Ce k2 rest i2=some r->Ar Z N f6 (.q bZ (bQ r)) [1,1,1,1,1,1,1,1,1,1,1,0,1,0] (rest.length+1) (J2 y4 y6 yM Ce (i2:Int)):=by
 intro rest
 induction rest with
 |nil=>
  intro i2 hd2 h;rw[eV]at h;refine aV fun N2 uY qt=>?_
  exact((aY.ge ai.c hd2).a [.hl 0 [] []]).ex hZ uY (zc h)
 |cons jM tL ih2=>
  intro i2 hd2 h;rw[eV]at h;refine aV fun N2 uY qt=>?_
  obtain⟨a6B,h330,aDU,h332,h⟩:=bR h;have aBz:=(((((((((aY.lt ai.c hd2).a [.n 7]).i (fH ai.c 3 (dc hd2))).o 3 1 .uq (cL ai.c (dc hd2))).g (pZ h330)).a [.n 49]).i (fH ai.c 3 (dc hd2))).o 3 3 .uq (cL ai.c (dc hd2))).g (iU h332))
  obtain⟨h333,h⟩|⟨h333,h⟩:=aK h
  ·cases aM h;exact((((((((aBz.r 8 h333).T 5).a [bF,bF,bF,bF,bF,bF,bF]).T 5).a [bF,bF,bF,bF,bF,bF,bF]).T 2).a [bF,bF,bF,bF,bF,bF,bF]).T 3).ret hZ
  ·obtain⟨aDV,h335,h⟩:=aH h;have aC0:=(((((((aBz.r 4 h333).i (fH ai.c 3 (dc hd2))).b h333).o 3 3 .uq (cL ai.c (dc hd2))).b h333).g (iU h335)).r 2 h333)
   obtain⟨h336,h⟩|⟨h336,h⟩:=aK h
   ·cases aM h;exact((((((((aC0.r 3 h336).T 2).a [bF,bF,bF,bF,bF,bF,bF]).T 5).a [bF,bF,bF,bF,bF,bF,bF]).T 2).a [bF,bF,bF,bF,bF,bF,bF]).T 3).ret hZ
   ·have aC1:=(aC0.r 3 h336)
    obtain⟨h337,h⟩|⟨h337,h⟩:=aK h
    ·cases aM h;exact((((((((aC1.r 2 h337).a [bF,bF,bF,bF,bF,bF,bF]).r 2 h337).T 3).a [bF,bF,bF,bF,bF,bF,bF]).T 2).a [bF,bF,bF,bF,bF,bF,bF]).T 3).ret hZ
    ·have aC2:=(aC1.r 2 h337)
     obtain⟨h338,h⟩|⟨h338,h⟩:=aK h
     ·obtain⟨x339,h340,aDW,h342,h⟩:=bR h;have aC3:=((((((((aC2.r 4 h338).l (dW aN.c 4 h340 rfl)).r 2 h338).g (ei h342)).b h338).b h337).b h338).b h337)
      obtain⟨h343,h⟩|⟨h343,h⟩:=aK h
      ·cases aM h;exact((((((aC3.r 3 h343).a [bF,bF,bF,bF,bF,bF,bF]).r 2 h343).a [bF,bF,bF,bF,bF,bF,bF]).r 2 h343).T 1).ret hZ
      ·have aC4:=(aC3.r 3 h343)
       obtain⟨h344,h⟩|⟨h344,h⟩:=aK h
       ·obtain⟨aDX,h346,h⟩:=aH h;have aC5:=((((((((aC4.r 4 h344).l (dW aN.c 4 h340 rfl)).r 2 h344).g (ei h346)).b h344).b h343).b h344).b h343)
        obtain⟨h347,h⟩|⟨h347,h⟩:=aK h
        ·obtain⟨aDY,h349,h⟩:=aH h;have aC6:=((((((((((aC5.r 3 h347).i (fH ai.c 3 (dc hd2))).b h347).o 3 3 .uq (cL ai.c (dc hd2))).r 2 h347).g (mV h349)).b h347).b h343).b h347).b h343)
         obtain⟨h350,h⟩|⟨h350,h⟩:=aK h
         ·cases aM h;exact(aC6.b h350).ret hZ
         ·exact((aC6.b h350).a [.cn [3,4,5,7,10,11,14] [0,1,2,3,4,5,6,7,8,9]]).ct hZ qt (iS hd2 hm2) (ih2 (i2+1) (dn hd2) h)
        ·exact((((((aC5.r 7 h347).b h343).b h347).b h343).F 1).a [.cn [3,4,5,7,10,11,14] [0,1,2,3,4,5,6,7,8,9]]).ct hZ qt (iS hd2 hm2) (ih2 (i2+1) (dn hd2) h)
       ·exact((((((((((aC4.r 7 h344).b h343).b h344).b h343).F 7).b h343).F 1).b h343).F 1).a [.cn [3,4,5,7,10,11,14] [0,1,2,3,4,5,6,7,8,9]]).ct hZ qt (iS hd2 hm2) (ih2 (i2+1) (dn hd2) h)
     ·have aC7:=(((((aC2.r 7 h338).b h337).b h338).b h337).F 3)
      obtain⟨h351,h⟩|⟨h351,h⟩:=aK h
      ·obtain⟨x352,h353,aDZ,h355,h⟩:=bR h;have aC8:=((((((((aC7.r 4 h351).l (dW aN.c 4 h353 rfl)).r 2 h351).g (ei h355)).b h351).F 1).b h351).F 1)
       obtain⟨h356,h⟩|⟨h356,h⟩:=aK h
       ·obtain⟨aDa,h358,h⟩:=aH h;have aC9:=((((((((((aC8.r 3 h356).i (fH ai.c 3 (dc hd2))).b h356).o 3 3 .uq (cL ai.c (dc hd2))).r 2 h356).g (mV h358)).b h356).F 1).b h356).F 1)
        obtain⟨h359,h⟩|⟨h359,h⟩:=aK h
        ·cases aM h;exact(aC9.b h359).ret hZ
        ·exact((aC9.b h359).a [.cn [3,4,5,7,10,11,14] [0,1,2,3,4,5,6,7,8,9]]).ct hZ qt (iS hd2 hm2) (ih2 (i2+1) (dn hd2) h)
       ·exact(((((aC8.r 7 h356).F 1).b h356).F 2).a [.cn [3,4,5,7,10,11,14] [0,1,2,3,4,5,6,7,8,9]]).ct hZ qt (iS hd2 hm2) (ih2 (i2+1) (dn hd2) h)
      ·exact(((((aC7.r 7 h351).F 1).b h351).F 12).a [.cn [3,4,5,7,10,11,14] [0,1,2,3,4,5,6,7,8,9]]).ct hZ qt (iS hd2 hm2) (ih2 (i2+1) (dn hd2) h)
def J3(y4:aF×aC×Bool)(y6:bL×bL)(yN:bL)(yO:bL)(dL:Int):St:=⟨[(3,bp 0 0),(4,bp 1 0),(5,bQ y4.2.2),(6,b9 2),(7,b9 3),(10,b9 4),(11,b9 5),(12,aB dL)],[bu [bX (y4.1.rules.map aN.c),b9 6,b9 7,b9 8,b9 9,aB y4.1.cP],bu [aZ y4.2.1.rel,b9 10],af 57 3 (y6.1.map ai.c),af 57 3 (y6.2.map ai.c),af 57 3 (yN.map ai.c),af 57 3 (yO.map ai.c),af 3 1 (y4.1.ends.map jN),af 83 3 (y4.1.bG.map ah.c),af 74 8 (y4.1.nodes.map Node.c),af 43 2 (y4.1.facts.map aC.c),af 9 1 (y4.2.1.args.map tx)]⟩
theorem HP(hZ:Z.nt=203){y4:aF×aC×Bool}{y6:bL×bL}{yN:bL}{yO:bL}{r:Bool}{k3:Option Bool}(Z3:k3=some r->Ax Z N f6 (.q bZ (bQ r)) [1,1,1,1,1,1,1,1,1,1,1] ⟨[(3,bp 0 0),(4,bp 1 0),(5,bQ y4.2.2),(7,b9 2),(10,b9 3),(11,b9 4)],[bu [bX (y4.1.rules.map aN.c),b9 5,b9 6,b9 7,b9 8,aB y4.1.cP],bu [aZ y4.2.1.rel,b9 9],af 57 3 (y6.2.map ai.c),af 57 3 (yN.map ai.c),af 57 3 (yO.map ai.c),af 3 1 (y4.1.ends.map jN),af 83 3 (y4.1.bG.map ah.c),af 74 8 (y4.1.nodes.map Node.c),af 43 2 (y4.1.facts.map aC.c),af 9 1 (y4.2.1.args.map tx)]⟩)(Oo:y6.1.length<=maxLen):∀(rest:bL) (i3:Nat),y6.1.drop i3=rest->eW y4 y6 yN yO k3 rest i3=some r->Ar Z N f6 (.q bZ (bQ r)) [1,1,1,1,1,1,1,1,1,1,0,1,0] (rest.length+1) (J3 y4 y6 yN yO (i3:Int)):=by
 intro rest
 induction rest with
 |nil=>
  intro i3 uV h;rw[eW]at h;refine aV fun N3 Rt Ko=>?_
  exact((aY.ge ai.c uV).a [.hl 0 [3,4,5,7,10,11] [0,1,3,4,5,6,7,8,9,10]]).ex hZ Rt (Z3 h)
 |cons Oa Kz ih3=>
  intro i3 uV h;rw[eW]at h;refine aV fun N3 Rt Ko=>?_
  obtain⟨a6E,h510,aDd,h512,h⟩:=bR h;have aCA:=(((((((((aY.lt ai.c uV).a [.n 7]).i (fH ai.c 3 (dc uV))).o 3 1 .uq (cL ai.c (dc uV))).g (pZ h510)).a [.n 47]).i (fH ai.c 3 (dc uV))).o 3 3 .uq (cL ai.c (dc uV))).g (iU h512))
  obtain⟨h513,h⟩|⟨h513,h⟩:=aK h
  ·cases aM h;exact((((((((aCA.r 7 h513).T 5).a [bF,bF,bF,bF,bF,bF,bF]).T 2).a [bF,bF,bF,bF,bF,bF,bF]).T 5).a [bF,bF,bF,bF,bF,bF,bF]).T 3).ret hZ
  ·obtain⟨aDe,h515,h⟩:=aH h;have aCB:=(((((((aCA.r 4 h513).i (fH ai.c 3 (dc uV))).b h513).o 3 3 .uq (cL ai.c (dc uV))).b h513).g (iU h515)).b h513)
   obtain⟨h516,h⟩|⟨h516,h⟩:=aK h
   ·cases aM h;exact((((((((aCB.r 3 h516).T 2).a [bF,bF,bF,bF,bF,bF,bF]).T 2).a [bF,bF,bF,bF,bF,bF,bF]).T 5).a [bF,bF,bF,bF,bF,bF,bF]).T 3).ret hZ
   ·have a2L:=(aCB.r 3 h516)
    obtain⟨h517,h⟩|⟨h517,h⟩:=aK h
    ·cases aM h;exact((((((((a2L.r 2 h517).a [bF,bF,bF,bF,bF,bF,bF]).r 2 h517).a [bF,bF,bF,bF,bF,bF,bF]).r 2 h517).T 3).a [bF,bF,bF,bF,bF,bF,bF]).T 3).ret hZ
    ·have aCC:=(a2L.r 2 h517)
     obtain⟨h518,h⟩|⟨h518,h⟩:=aK h
     ·obtain⟨x519,h520,aDf,h522,h⟩:=bR h;have aCD:=((((((((aCC.r 4 h518).l (dW aN.c 4 h520 rfl)).r 2 h518).g (ei h522)).b h518).b h517).b h518).b h517)
      obtain⟨h523,h⟩|⟨h523,h⟩:=aK h
      ·obtain⟨aDg,h525,h⟩:=aH h;have aCE:=((((((((((aCD.r 3 h523).i (fH ai.c 3 (dc uV))).b h523).o 3 3 .uq (cL ai.c (dc uV))).r 2 h523).g (mV h525)).b h523).b h517).b h523).b h517)
       obtain⟨h526,h⟩|⟨h526,h⟩:=aK h
       ·cases aM h;exact((((aCE.r 3 h526).a [bF,bF,bF,bF,bF,bF,bF]).r 2 h526).T 1).ret hZ
       ·have aCF:=(aCE.r 3 h526)
        obtain⟨h527,h⟩|⟨h527,h⟩:=aK h
        ·obtain⟨aDh,h529,h⟩:=aH h;have aCG:=((((((((aCF.r 4 h527).l (dW aN.c 4 h520 rfl)).r 2 h527).g (ei h529)).b h527).b h526).b h527).b h526)
         obtain⟨h530,h⟩|⟨h530,h⟩:=aK h
         ·cases aM h;exact(aCG.b h530).ret hZ
         ·exact((aCG.b h530).a [.cn [3,4,5,6,7,10,11,12] [0,1,2,3,4,5,6,7,8,9,10]]).ct hZ Ko (iS uV Oo) (ih3 (i3+1) (dn uV) h)
        ·exact((((((aCF.r 7 h527).b h526).b h527).b h526).F 1).a [.cn [3,4,5,6,7,10,11,12] [0,1,2,3,4,5,6,7,8,9,10]]).ct hZ Ko (iS uV Oo) (ih3 (i3+1) (dn uV) h)
      ·have aCH:=(((((aCD.r 7 h523).b h517).b h523).b h517).F 3)
       obtain⟨h531,h⟩|⟨h531,h⟩:=aK h
       ·obtain⟨aDj,h533,h⟩:=aH h;have aCI:=((((((((aCH.r 4 h531).l (dW aN.c 4 h520 rfl)).r 2 h531).g (ei h533)).b h531).F 1).b h531).F 1)
        obtain⟨h534,h⟩|⟨h534,h⟩:=aK h
        ·cases aM h;exact(aCI.b h534).ret hZ
        ·exact((aCI.b h534).a [.cn [3,4,5,6,7,10,11,12] [0,1,2,3,4,5,6,7,8,9,10]]).ct hZ Ko (iS uV Oo) (ih3 (i3+1) (dn uV) h)
       ·exact(((((aCH.r 7 h531).F 1).b h531).F 2).a [.cn [3,4,5,6,7,10,11,12] [0,1,2,3,4,5,6,7,8,9,10]]).ct hZ Ko (iS uV Oo) (ih3 (i3+1) (dn uV) h)
     ·have aCJ:=(((((((((aCC.r 7 h518).b h517).b h518).b h517).F 7).b h517).F 1).b h517).F 3)
      obtain⟨h535,h⟩|⟨h535,h⟩:=aK h
      ·obtain⟨x536,h537,aDk,h539,h⟩:=bR h;have aCK:=((((((((aCJ.r 4 h535).l (dW aN.c 4 h537 rfl)).r 2 h535).g (ei h539)).b h535).F 1).b h535).F 1)
       obtain⟨h540,h⟩|⟨h540,h⟩:=aK h
       ·cases aM h;exact(aCK.b h540).ret hZ
       ·exact((aCK.b h540).a [.cn [3,4,5,6,7,10,11,12] [0,1,2,3,4,5,6,7,8,9,10]]).ct hZ Ko (iS uV Oo) (ih3 (i3+1) (dn uV) h)
      ·exact(((((aCJ.r 7 h535).F 1).b h535).F 2).a [.cn [3,4,5,6,7,10,11,12] [0,1,2,3,4,5,6,7,8,9,10]]).ct hZ Ko (iS uV Oo) (ih3 (i3+1) (dn uV) h)
def J4(y4:aF×aC×Bool)(y6:bL×bL)(yN:bL)(yO:bL)(dL:Int):St:=⟨[(3,bp 0 0),(4,bp 1 0),(5,bQ y4.2.2),(7,b9 2),(10,b9 3),(11,b9 4),(14,aB dL)],[bu [bX (y4.1.rules.map aN.c),b9 5,b9 6,b9 7,b9 8,aB y4.1.cP],bu [aZ y4.2.1.rel,b9 9],af 57 3 (y6.2.map ai.c),af 57 3 (yN.map ai.c),af 57 3 (yO.map ai.c),af 3 1 (y4.1.ends.map jN),af 83 3 (y4.1.bG.map ah.c),af 74 8 (y4.1.nodes.map Node.c),af 43 2 (y4.1.facts.map aC.c),af 9 1 (y4.2.1.args.map tx)]⟩
theorem HQ(hZ:Z.nt=203){y4:aF×aC×Bool}{y6:bL×bL}{yN:bL}{yO:bL}{r:Bool}{k4:Option Bool}(hE4:k4=some r->Ax Z N f6 (.q bZ (bQ r)) [1,1,1,1,1,1,1,1,1,1,1,1] ⟨[],[]⟩)(hm4:y6.2.length<=maxLen):∀(rest:bL) (i4:Nat),y6.2.drop i4=rest->eX y4 y6 yN yO k4 rest i4=some r->Ar Z N f6 (.q bZ (bQ r)) [1,1,1,1,1,1,1,1,1,1,1,0,1,0] (rest.length+1) (J4 y4 y6 yN yO (i4:Int)):=by
 intro rest
 induction rest with
 |nil=>
  intro i4 EK h;rw[eX]at h;refine aV fun N4 hN4 Z4=>?_
  exact((aY.ge ai.c EK).a [.hl 0 [] []]).ex hZ hN4 (hE4 h)
 |cons x4_ xs4 ih4=>
  intro i4 EK h;rw[eX]at h;refine aV fun N4 hN4 Z4=>?_
  obtain⟨a6F,h679,aDo,h681,h⟩:=bR h;have aCL:=(((((((((aY.lt ai.c EK).a [.n 7]).i (fH ai.c 3 (dc EK))).o 3 1 .uq (cL ai.c (dc EK))).g (pZ h679)).a [.n 49]).i (fH ai.c 3 (dc EK))).o 3 3 .uq (cL ai.c (dc EK))).g (iU h681))
  obtain⟨h682,h⟩|⟨h682,h⟩:=aK h
  ·cases aM h;exact((((((((aCL.r 8 h682).T 5).a [bF,bF,bF,bF,bF,bF,bF]).T 5).a [bF,bF,bF,bF,bF,bF,bF]).T 2).a [bF,bF,bF,bF,bF,bF,bF]).T 3).ret hZ
  ·obtain⟨aDp,h684,h⟩:=aH h;have aCM:=(((((((aCL.r 4 h682).i (fH ai.c 3 (dc EK))).b h682).o 3 3 .uq (cL ai.c (dc EK))).b h682).g (iU h684)).r 2 h682)
   obtain⟨h685,h⟩|⟨h685,h⟩:=aK h
   ·cases aM h;exact((((((((aCM.r 3 h685).T 2).a [bF,bF,bF,bF,bF,bF,bF]).T 5).a [bF,bF,bF,bF,bF,bF,bF]).T 2).a [bF,bF,bF,bF,bF,bF,bF]).T 3).ret hZ
   ·have aCN:=(aCM.r 3 h685)
    obtain⟨h686,h⟩|⟨h686,h⟩:=aK h
    ·cases aM h;exact((((((((aCN.r 2 h686).a [bF,bF,bF,bF,bF,bF,bF]).r 2 h686).T 3).a [bF,bF,bF,bF,bF,bF,bF]).T 2).a [bF,bF,bF,bF,bF,bF,bF]).T 3).ret hZ
    ·have aCO:=(aCN.r 2 h686)
     obtain⟨h687,h⟩|⟨h687,h⟩:=aK h
     ·obtain⟨x688,h689,aDq,h691,h⟩:=bR h;have aCP:=((((((((aCO.r 4 h687).l (dW aN.c 4 h689 rfl)).r 2 h687).g (ei h691)).b h687).b h686).b h687).b h686)
      obtain⟨h692,h⟩|⟨h692,h⟩:=aK h
      ·cases aM h;exact((((((aCP.r 3 h692).a [bF,bF,bF,bF,bF,bF,bF]).r 2 h692).a [bF,bF,bF,bF,bF,bF,bF]).r 2 h692).T 1).ret hZ
      ·have aCQ:=(aCP.r 3 h692)
       obtain⟨h693,h⟩|⟨h693,h⟩:=aK h
       ·obtain⟨aDr,h695,h⟩:=aH h;have aCR:=((((((((aCQ.r 4 h693).l (dW aN.c 4 h689 rfl)).r 2 h693).g (ei h695)).b h693).b h692).b h693).b h692)
        obtain⟨h696,h⟩|⟨h696,h⟩:=aK h
        ·obtain⟨aDs,h698,h⟩:=aH h;have aCS:=((((((((((aCR.r 3 h696).i (fH ai.c 3 (dc EK))).b h696).o 3 3 .uq (cL ai.c (dc EK))).r 2 h696).g (mV h698)).b h696).b h692).b h696).b h692)
         obtain⟨h699,h⟩|⟨h699,h⟩:=aK h
         ·cases aM h;exact(aCS.b h699).ret hZ
         ·exact((aCS.b h699).a [.cn [3,4,5,7,10,11,14] [0,1,2,3,4,5,6,7,8,9]]).ct hZ Z4 (iS EK hm4) (ih4 (i4+1) (dn EK) h)
        ·exact((((((aCR.r 7 h696).b h692).b h696).b h692).F 1).a [.cn [3,4,5,7,10,11,14] [0,1,2,3,4,5,6,7,8,9]]).ct hZ Z4 (iS EK hm4) (ih4 (i4+1) (dn EK) h)
       ·exact((((((((((aCQ.r 7 h693).b h692).b h693).b h692).F 7).b h692).F 1).b h692).F 1).a [.cn [3,4,5,7,10,11,14] [0,1,2,3,4,5,6,7,8,9]]).ct hZ Z4 (iS EK hm4) (ih4 (i4+1) (dn EK) h)
     ·have a2M:=(((((aCO.r 7 h687).b h686).b h687).b h686).F 3)
      obtain⟨h700,h⟩|⟨h700,h⟩:=aK h
      ·obtain⟨x701,h702,aDt,h704,h⟩:=bR h;have a2N:=((((((((a2M.r 4 h700).l (dW aN.c 4 h702 rfl)).r 2 h700).g (ei h704)).b h700).F 1).b h700).F 1)
       obtain⟨h705,h⟩|⟨h705,h⟩:=aK h
       ·obtain⟨aDu,h707,h⟩:=aH h;have a2O:=((((((((((a2N.r 3 h705).i (fH ai.c 3 (dc EK))).b h705).o 3 3 .uq (cL ai.c (dc EK))).r 2 h705).g (mV h707)).b h705).F 1).b h705).F 1)
        obtain⟨h708,h⟩|⟨h708,h⟩:=aK h
        ·cases aM h;exact(a2O.b h708).ret hZ
        ·exact((a2O.b h708).a [.cn [3,4,5,7,10,11,14] [0,1,2,3,4,5,6,7,8,9]]).ct hZ Z4 (iS EK hm4) (ih4 (i4+1) (dn EK) h)
       ·exact(((((a2N.r 7 h705).F 1).b h705).F 2).a [.cn [3,4,5,7,10,11,14] [0,1,2,3,4,5,6,7,8,9]]).ct hZ Z4 (iS EK hm4) (ih4 (i4+1) (dn EK) h)
      ·exact(((((a2M.r 7 h700).F 1).b h700).F 12).a [.cn [3,4,5,7,10,11,14] [0,1,2,3,4,5,6,7,8,9]]).ct hZ Z4 (iS EK hm4) (ih4 (i4+1) (dn EK) h)
theorem GB{aD:bM}{r:Bool}(h:wh aD=some r):Good prog 6 [bX (aD.map yx)] (bQ r):=by
 refine gd func6 bZ 203 fun hr Z hZ=>?_
 rw[wh]at h;obtain⟨y1,h2,h⟩:=aH h;obtain⟨h3,h⟩|⟨h3,h⟩:=aK h
 ·cases aM h;exact((aY.g (FX h2)).b h3).ret hZ
 ·obtain⟨y4,h5,y6,h7,y8,h9,h⟩:=gX h;have a97:=(((((aY.g (FX h2)).b h3).g (Ct h5)).g (Ft h7)).g (BV h9))
  obtain⟨h10,h⟩|⟨h10,h⟩:=aK h
  ·obtain⟨yc,h12,h⟩:=aH h;have a98:=((a97.b h10).g (DU h12))
   obtain⟨h13,h⟩|⟨h13,h⟩:=aK h
   ·obtain⟨h14,h⟩|⟨h14,h⟩:=aK h
    ·cases h;exact((a98.b h13).r 4 h14).ret hZ
    ·cases aM h;exact((a98.b h13).r 4 h14).ret hZ
   ·obtain⟨yM,h16,Ce,h18,h⟩:=bR h;have aCT:=(((a98.b h13).g (qP h16)).g (qP h18))
    obtain⟨h19,h⟩|⟨h19,h⟩:=aK h
    ·cases aM h;exact(aCT.b h19).ret hZ
    ·obtain⟨h361,h⟩:=bf h;refine((aCT.b h19).a [.cn [3,4,5,6,7,10,11,12] [5,6,7,8,20,21,0,1,2,3,4]]).lp hZ (HN hZ (fun h=>?_) (bh h361) y6.1 0 rfl h);obtain⟨h360,h⟩:=bf h;refine(aY.a [.cn [3,4,5,7,10,11,14] [0,1,2,3,4,5,6,7,8,9]]).lp hZ (HO hZ (fun h=>?_) (bh h360) y6.2 0 rfl h);cases aM h;exact aY.ret hZ
  ·obtain⟨h362,h⟩|⟨h362,h⟩:=aK h
   ·have aCU:=((a97.b h10).b h362)
    obtain⟨h363,h⟩|⟨h363,h⟩:=aK h
    ·cases h;exact(aCU.r 4 h363).ret hZ
    ·cases aM h;exact(aCU.r 4 h363).ret hZ
   ·obtain⟨yN,h365,yO,h367,h⟩:=bR h;have aCV:=((((a97.b h10).b h362).g (qP h365)).g (qP h367))
    obtain⟨h368,h⟩|⟨h368,h⟩:=aK h
    ·cases aM h;exact(aCV.b h368).ret hZ
    ·obtain⟨h710,h⟩:=bf h;refine((aCV.b h368).a [.cn [3,4,5,6,7,10,11,12] [5,6,7,8,15,16,0,1,2,3,4]]).lp hZ (HP hZ (fun h=>?_) (bh h710) y6.1 0 rfl h);obtain⟨h709,h⟩:=bf h;refine(aY.a [.cn [3,4,5,7,10,11,14] [0,1,2,3,4,5,6,7,8,9]]).lp hZ (HQ hZ (fun h=>?_) (bh h709) y6.2 0 rfl h);cases aM h;exact aY.ret hZ
namespace LawFnChanges
theorem OJ(l:bL)(m:ai):gy l m=some (decide (m∈l)):=by
 unfold gy;have main:∀(r:bL) (i:Nat),jd l m (some false) r i=some (decide (m∈r)):=by
  intro r
  induction r with
  |nil=>intro i;simp[jd]
  |cons x r ih=>
   intro i;rw[jd,a9Z,aA];by_cases e:x=m
   ·rw[au e,aG];simp[e]
   ·rw[ax e,aL,ih];simp[ru e]
 exact main l 0
def nt(r:aN):Bool:=r.conds.any fun c=>c.kind==2
theorem Y5(r:aN):gh r=some (nt r):=by
 unfold gh nt;have main:∀(l:ay) (i:Nat),rX r (some false) l i=some (l.any fun c=>c.kind==2):=by
  intro l
  induction l with
  |nil=>intro i;rfl
  |cons c l ih=>
   intro i;rw[rX,ih,tM];cases(c.kind==2)<;>rfl
 exact main r.conds 0
def a0W(rs:az)(old now:bL)(p:aN->ai->Prop)(m:ai):Prop:=∃(j:Nat) (r:aN),rs[j]?=some r/\Ab m.rule rs 0=(j:Int)/\m∈now/\m∉old/\p r m
theorem Sf{G:Type}{l:List G}{j:Nat}{x:G}(h:l[j]?=some x):gA l (j:Int)=some x:=by unfold gA;rw[au (by omega),aG];exact h
theorem a6n(y:aF×aC×Bool)(z:bL×bL)(old now:bL)(k:Option Bool)(hp:y.2.2=true):∀(l:bL) (i:Nat),(∀m∈l,a0W y.1.rules old now (fun r m=>nt r=true\/y.2.1∈m.facts) m)->eU y z old now k l i=k
 | [],_,_=>rfl
 |m::l,i,h=>by
  obtain⟨j,r,e1,e2,e3,e4,e5⟩:=h m (by simp);rw[eU,VL,aA,OJ,aA,au e3,bU,aL,OJ,aA,ax e4,aL,e2,ax (by omega),aL,hp,aG,Sf e1,aA,Y5,aA];have ih:=a6n y z old now k hp l (i+1) fun x hx=>h x (by simp[hx])
  cases hn:nt r with
  |true=>simpa using ih
  |false=>
   have e6:y.2.1∈m.facts:=by
    rcases e5 with e5|e5
    ·rw[hn]at e5;cases e5
    ·exact e5
   rw[a6i,aA,au e6];simpa using ih
theorem a6o(y:aF×aC×Bool)(z:bL×bL)(old now:bL)(k:Option Bool)(hp:y.2.2=true):∀(l:bL) (i:Nat),(∀m∈l,a0W y.1.rules now old (fun r m=>nt r=true) m)->eV y z old now k l i=k
 | [],_,_=>rfl
 |m::l,i,h=>by
  obtain⟨j,r,e1,e2,e3,e4,e5⟩:=h m (by simp);rw[eV,VL,aA,OJ,aA,ax e4,aL,OJ,aA,au e3,bU,aL,e2,ax (by omega),aL,hp,aG,Sf e1,aA,Y5,aA,e5];have ih:=a6o y z old now k hp l (i+1) fun x hx=>h x (by simp[hx])
  simpa using ih
theorem a6p(y:aF×aC×Bool)(z:bL×bL)(old now:bL)(k:Option Bool)(hp:y.2.2=false):∀(l:bL) (i:Nat),(∀m∈l,a0W y.1.rules old now (fun r m=>nt r=true) m)->eW y z old now k l i=k
 | [],_,_=>rfl
 |m::l,i,h=>by
  obtain⟨j,r,e1,e2,e3,e4,e5⟩:=h m (by simp);rw[eW,VL,aA,OJ,aA,au e3,bU,aL,OJ,aA,ax e4,aL,e2,ax (by omega),aL,hp,aL,bt,aG,Sf e1,aA,Y5,aA,e5];have ih:=a6p y z old now k hp l (i+1) fun x hx=>h x (by simp[hx])
  simpa using ih
theorem a6q(y:aF×aC×Bool)(z:bL×bL)(old now:bL)(k:Option Bool)(hp:y.2.2=false):∀(l:bL) (i:Nat),(∀m∈l,a0W y.1.rules now old (fun r m=>nt r=true\/y.2.1∈m.facts) m)->eX y z old now k l i=k
 | [],_,_=>rfl
 |m::l,i,h=>by
  obtain⟨j,r,e1,e2,e3,e4,e5⟩:=h m (by simp);rw[eX,VL,aA,OJ,aA,ax e4,aL,OJ,aA,au e3,bU,aL,e2,ax (by omega),aL,hp,aL,bt,aG,Sf e1,aA,Y5,aA];have ih:=a6q y z old now k hp l (i+1) fun x hx=>h x (by simp[hx])
  cases hn:nt r with
  |true=>simpa using ih
  |false=>
   have e6:y.2.1∈m.facts:=by
    rcases e5 with e5|e5
    ·rw[hn]at e5;cases e5
    ·exact e5
   rw[a6i,aA,au e6];simpa using ih
theorem P8{rs:az}{fs gs:aJ}(h1:qU rs=true)(hf:fK fs=true)(hg:fK gs=true){p:aN->ai->Prop}(hp:∀r m,(∀f∈m.facts,f∈gs)->(nt r=false->¬ ∀f∈m.facts,f∈gs->f∈fs)->p r m):∀m∈(zK rs gs).filter (fun m=> !decide (m∈zK rs fs)),a0W rs (zK rs fs) (zK rs gs) p m:=by
 intro m hm;obtain⟨q1,q2⟩:=gw.1 hm;have q3:m∉zK rs fs:=by simpa using q2
 obtain⟨j,r,e1,e2,_,e3,e4⟩:=a0b h1 hg q1;exact⟨j,r,e1,e3,q1,q3,hp r m (IT _ _ _ _ e4) fun hn hs=>q3 (a0c h1 hf e1 e2 e4 hn hs)⟩
theorem sCf{n:aF}(hb:Ge n=true)(hr:sD aN.wt n.rules<=1048576)(hf:sD aC.wt n.facts<=1048576):fe n=some (zK n.rules n.facts):=by
 rw[aCk n hr hf,hb,aG,a0l hb]
theorem a61{n:aF}{f:aC}(h:f∉n.facts):Oy n f=(n,false):=by
 have ha:(Kv n.facts f).2=false:=by unfold Kv;rw[bE (fun q=>h q.2)]
 unfold Oy;rw[ha,wA];rfl
theorem cnt{a b c d:Nat}(h:a+c=b+d)(ha:a<=100000000)(hb:b<=100000000)(hd:d<=100000000):((b:Int) != IntKind.i64.wrap (IntKind.i64.wrap ((a:Int)+(c:Int))-(d:Int)))=false:=by
 have e1:IntKind.i64.wrap ((a:Int)+(c:Int))=(a:Int)+(c:Int):=eD (qv.i64.2 (by omega));have e2:IntKind.i64.wrap ((a:Int)+(c:Int)-(d:Int))=(a:Int)+(c:Int)-(d:Int):=eD (qv.i64.2 (by omega));rw[e1,e2];simp;omega
theorem a4l{rs:az}{fs gs:aJ}(h1:qU rs=true):((zK rs gs).filter fun m=> !decide (m∈zK rs fs)).length<=3000000/\(zK rs gs).length<=3000000:=by
 have q:=lF (fun m=> !decide (m∈zK rs fs)) (zK rs gs);have q2:=a4O (fs:=gs) h1;have q3:rs.length<=6:=by
  have On:=h1;unfold qU at On;simp only[aU,bH]at On;omega
 omega
theorem a8z(code:bM):wh code=some true:=by
 unfold wh F3;rw[aA,aq];by_cases hc:code.length<=4096
 ·rw[ax (by omega),aL];obtain⟨n,f,b,e1,hn,ht,hf⟩:=a2p code hc;have hr:=hn.rules;have hfs:=hn.facts;rw[e1,aA];dsimp only;unfold we;rw[aBR n f hn hf,aA];cases b with
  |true=>
   rw[aG,aBL n f hn hf,aA];cases hk:(RS n f).2 with
   |false=>
    rw[bt,aG,aA,YL n f hn hf,aA,aG,a7d n f hn hf,aA,hk,bt,aG];rfl
   |true=>
    have hk2:Ge n=true/\(IZ n.facts f).2=true:=by
     unfold RS at hk;cases h:Ge n with
     |false=>rw[h]at hk;cases hk
     |true=>
      cases h':(IZ n.facts f).2 with
      |true=>exact⟨rfl,rfl⟩
      |false=>rw[h,h']at hk;cases hk
    obtain⟨hb,ha⟩:=hk2;obtain⟨h1,h2,h0,_⟩:=I2 hb;have a8E:pL f=true/\f∉n.facts/\n.facts.length≠24:=by
     unfold IZ at ha;split at ha
     ·rename_i h;exact⟨h.2.1,h.2.2.1,h.2.2.2⟩
     ·cases ha
    have h24:=qG h2;obtain⟨t,q1,q2,q3,q4⟩:=a2T hb a8E.1 a8E.2.1 (by omega) (by omega);have hbz:Ge (tH n.rules (xK f n.facts) t)=true:=by rw[Y1 h1 q2];exact au (by omega)
    have hw:=yp q2;have hw2:sD aC.wt (tH n.rules (xK f n.facts) t).facts<=1048576:=by show sD aC.wt (xK f n.facts)<=1048576;omega
    have l1:=a4l (fs:=n.facts) (gs:=xK f n.facts) h1;have l2:=a4l (fs:=xK f n.facts) (gs:=n.facts) h1;have hd:=UR (IL h1 h2) (IL h1 q2);have e3:fc (RS n f).1=some (zK n.rules (xK f n.facts)):=by rw[q1];exact a4z hbz hr hw2
    have e4:fe (RS n f).1=some (zK n.rules (xK f n.facts)):=by rw[q1];exact sCf hbz hr hw2
    rw[bU,aL,a4z hb hr hfs,aA,e3,aA,Xy _ _ (fun m hm=>Sd h1 q2 hm) (by omega),aA,Xy _ _ (fun m hm=>Sd h1 h2 hm) (by omega),aA,aA,YL n f hn hf,aA,aG,a7d n f hn hf,aA,hk,bU,aL,sCf hb hr hfs,aA,e4,aA];dsimp only;simp only[aq];rw[cnt (by omega) (by omega) (by omega) (by omega),aL,sF (by omega),aG,sF (by omega),aG];rw[a6n (n,f,true) _ _ _ _ rfl _ _ (P8 h1 h2 q2 fun r m hm hs=>?_),a6o (n,f,true) _ _ _ _ rfl _ _ (P8 h1 q2 h2 fun r m hm hs=>?_)]
    ·cases hnt:nt r with
     |true=>rfl
     |false=>exact absurd (fun g hg Sx=>(MN f n.facts g).2 (.inr Sx)) (hs hnt)
    ·cases hnt:nt r with
     |true=>exact .inl rfl
     |false=>
      refine .inr (dK fun hnf=>hs hnt fun g hg Sx=>?_);rcases(MN f n.facts g).1 Sx with e|e
      ·subst e;exact absurd hg hnf
      ·exact e
  |false=>
   rw[aL];cases hk:(Oy n f).2 with
   |false=>
    rw[bt,aG,aA,YL n f hn hf,aA,aL,hk,bt,aG];rfl
   |true=>
    have hb:Ge n=true:=by
     unfold Oy at hk;cases h:Ge n with
     |true=>rfl
     |false=>rw[h]at hk;cases hk
    have hin:f∈n.facts:=by
     by_cases h:f∈n.facts
     ·exact h
     ·rw[a61 h]at hk;cases hk
    obtain⟨h1,h2,h0,_⟩:=I2 hb;obtain⟨t,q1,q2,q3,q4⟩:=a3P hb hin (by omega);have hbz:Ge (tH n.rules (BW f n.facts) t)=true:=by rw[Y1 h1 q2];exact au (by omega)
    have hw:=yp q2;have hw2:sD aC.wt (tH n.rules (BW f n.facts) t).facts<=1048576:=by show sD aC.wt (BW f n.facts)<=1048576;omega
    have l1:=a4l (fs:=n.facts) (gs:=BW f n.facts) h1;have l2:=a4l (fs:=BW f n.facts) (gs:=n.facts) h1;have hd:=UR (IL h1 h2) (IL h1 q2);have e3:fc (Oy n f).1=some (zK n.rules (BW f n.facts)):=by rw[q1];exact a4z hbz hr hw2
    have e4:fe (Oy n f).1=some (zK n.rules (BW f n.facts)):=by rw[q1];exact sCf hbz hr hw2
    rw[bU,aL,a4z hb hr hfs,aA,e3,aA,Xy _ _ (fun m hm=>Sd h1 q2 hm) (by omega),aA,Xy _ _ (fun m hm=>Sd h1 h2 hm) (by omega),aA,aA,YL n f hn hf,aA,aL,hk,bU,aL,sCf hb hr hfs,aA,e4,aA];dsimp only;simp only[aq];rw[cnt (by omega) (by omega) (by omega) (by omega),aL,sF (by omega),aG,sF (by omega),aG];rw[a6p (n,f,false) _ _ _ _ rfl _ _ (P8 h1 h2 q2 fun r m hm hs=>?_),a6q (n,f,false) _ _ _ _ rfl _ _ (P8 h1 q2 h2 fun r m hm hs=>?_)]
    ·cases hnt:nt r with
     |true=>exact .inl rfl
     |false=>
      refine .inr (dK fun hnf=>hs hnt fun g hg Sx=>?_);exact UQ.2 ⟨Sx,fun e=>hnf (e▸hg)⟩
    ·cases hnt:nt r with
     |true=>rfl
     |false=>exact absurd (fun g hg Sx=>(UQ.1 Sx).1) (hs hnt)
 ·rw[au (by omega),aG]
theorem a1p(code:bM):Good prog 6 [D.sl (code.map yx)] (.bool true):=GB (a8z code)
end LawFnChanges
open Go.RowKit
inductive Sh where
 |int (k:IntKind)
 |str
 |bool
 |sl (row:List Sh)
mutual
inductive R8:Sh->D->Prop
 |int (k:IntKind) (n:Int):R8 (.int k) (.int k n)
 |str (s:Bytes):R8 .str (.str s)
 |bool (b:Bool):R8 .bool (.bool b)
 |sl (row:List Sh) (rows:List aT):(∀r∈rows,x7 row r)->R8 (.sl row) (.sl rows)
inductive x7:List Sh->List D->Prop
 |nil:x7 [] []
 |cons (s:Sh) (ss:List Sh) (d:D) (ds:aT):R8 s d->x7 ss ds->x7 (s::ss) (d::ds)
end
theorem x7.app{s1 s2:List Sh}{d1 d2:aT}(h1:x7 s1 d1)(h2:x7 s2 d2):x7 (s1++s2) (d1++d2):=by
 induction s1 generalizing d1 with
 |nil=>cases h1;exact h2
 |cons s s1 ih=>cases h1 with|cons _ _ d ds h h'=>exact .cons _ _ _ _ h (ih h')
theorem x7.length{s:List Sh}{d:aT}(h:x7 s d):d.length=s.length:=by
 induction s generalizing d with
 |nil=>cases h;rfl
 |cons s ss ih=>cases h with|cons _ _ d ds h h'=>simp[ih h']
def TQ(P:Program):Nat->List Field->List (List Sh)->Bool
 |_,[],[]=>true
 |off,f::fs,r::rs=>(f.offset==off)&&(r.length==P.cellsOf f.type)&&TQ P (off+r.length) fs rs
 |_,_,_=>false
def DA(P:Program):Nat->TypeId->Option (List Sh)
 |0,_=>none
 |n+1,t=>match P.underlying t with
  |some .bool=>some [.bool]
  |some (.int k)=>some [.int k]
  |some .string=>some [.str]
  |some (.slice e)=>(DA P n e).bind fun r=>if r.length=P.cellsOf e/\0<r.length then some [.sl r]else none
  |some (.struct fs)=>(fs.toList.mapM fun f=>DA P n f.type).bind fun rs=>if TQ P 0 fs.toList rs=true/\rs.flatten.length=P.cellsOf t then some rs.flatten else none
  |_=>none
theorem Uy{G E:Type}{f:G->Option E}:∀ {l:List G} {ys:List E},l.mapM f=some ys->ys.length=l.length/\∀(i:Nat) x,l[i]?=some x->∃y,ys[i]?=some y/\f x=some y:=by
 intro l
 induction l with
 |nil=>intro ys h;simp at h;subst h;simp
 |cons a l ih=>
  intro ys h;simp only[Gg,Option.bind_eq_bind,Option.pure_def]at h;cases ha:f a with
  |none=>simp[ha]at h
  |some b=>
   cases hl:l.mapM f with
   |none=>simp[ha,hl]at h
   |some bs=>
    simp[ha,hl]at h;subst h;obtain⟨h1,h2⟩:=ih hl;refine⟨by simp[h1],fun i x hx=>?_⟩;cases i with
    |zero=>simp at hx;subst hx;exact⟨b,by simp,ha⟩
    |succ i=>simp at hx;obtain⟨y,k1,k2⟩:=h2 i x hx;exact⟨y,by simpa using k1,k2⟩
section
variable{P:Program}{w:World}{H:Type}{enc:TypeId×Value->H}{base:Nat}{sp:Nat->Bool}{held:Bool}
theorem Pb{a:Addr}{n:Nat}{cs:cG}(h:w.cells? base a n=some cs):cs.length=n/\∀(j:Nat) c,cs[j]?=some c->w.cell? (a.add j)=some c:=by
 unfold World.cells? at h;split at h
 ·obtain⟨h1,h2⟩:=Uy h;refine⟨by simpa using h1,fun j c hj=>?_⟩;have hlt:j<n:=by have:=(aO.1 hj).1;rw[h1]at this;simpa using this
  obtain⟨y,k1,k2⟩:=h2 j j (by simp[hlt]);rw[hj]at k1;cases k1;exact k2
 ·cases h
theorem a90{k:IntKind}{n:Int}(h:(Lit.int k n).wf=true):qv k n:=by
 simpa[Lit.wf,qv]using h
theorem YV:∀(fuel:Nat) {t:TypeId} {cs:cG} {d:DataW H} {ps:List MemPlace} {n:Nat} {shs:List Sh},
 DataW.trod enc P w base sp held fuel t cs=some (d,ps)->DA P n t=some shs->∃ds bs,oI w cs ds bs/\x7 shs ds:=by
 intro fuel
 induction fuel with
 |zero=>intro t cs d ps n shs h;simp[DataW.trod]at h
 |succ fuel ih=>
  intro t cs d ps n shs h hf;cases n with
  |zero=>simp[DA]at hf
  |succ n=>
   simp only[DA]at hf;simp only[DataW.trod]at h;split at hf
   ·rename_i hu;cases hf;simp only[hu]at h;split at h<;>rename_i h1<;>try(simp at h1;done)
    all_goals try(cases h;done)
    all_goals simp at h1
    exact⟨[.bool _],[],.cons _ _ _ _ [] [] rfl (.bool _) .nil,.cons _ _ _ _ (.bool _) .nil⟩
   ·rename_i k hu;cases hf;simp only[hu]at h;split at h<;>rename_i h1<;>try(simp at h1;done)
    all_goals try(cases h;done)
    all_goals simp at h1
    rename_i k1 k2 m _;subst h1;split at h
    ·rename_i hc;obtain⟨rfl,hwf⟩:=hc;exact⟨[.int _ _],[],.cons _ _ _ _ [] [] rfl (.int _ _ (a90 hwf)) .nil,.cons _ _ _ _ (.int _ _) .nil⟩
    ·cases h
   ·rename_i hu;cases hf;simp only[hu]at h;split at h<;>rename_i h1<;>try(simp at h1;done)
    all_goals try(cases h;done)
    all_goals simp at h1
    split at h
    ·rename_i hc;exact⟨[.str _],[],.cons _ _ _ _ [] [] rfl (.str _ hc) .nil,.cons _ _ _ _ (.str _) .nil⟩
    ·cases h
   ·rename_i e hu;cases hr:DA P n e with
    |none=>simp[hr]at hf
    |some r=>
     simp only[hr,aA]at hf;split at hf
     ·rename_i hsz;cases hf;simp only[hu]at h;split at h<;>rename_i h1<;>try(simp at h1;done)
      all_goals try(cases h;done)
      all_goals simp at h1
      ·exact⟨[.sl []],[],.cons _ _ _ _ [] [] rfl .Af .nil,.cons _ _ _ _ (.sl _ _ (by simp)) .nil⟩
      ·rename_i a len cap
       try subst h1
       split at h
       ·rename_i hc;cases hm:(List.range len).mapM (fun i=>(w.cells? base (a.add (i*P.cellsOf e)) (P.cellsOf e)).bind (DataW.trod enc P w base sp held fuel e))with
        |none=>simp[hm]at h
        |some elems=>
         obtain⟨_,hall⟩:=Uy hm;have hel:∀i,i<len->∃cs ds bs,w.cells? base (a.add (i*P.cellsOf e)) (P.cellsOf e)=some cs/\oI w cs ds bs/\x7 r ds:=by
          intro i hi;obtain⟨y,_,hy⟩:=hall i i (by simp[hi]);obtain⟨cs,hcs,hy⟩:=qE.1 hy;obtain⟨ds,bs,k1,k2⟩:=ih (d:=y.1) (ps:=y.2) hy hr;exact⟨cs,ds,bs,hcs,k1,k2⟩
         by_cases hl0:len=0
         ·subst hl0;exact⟨[.sl []],[],.cons _ _ _ _ [] [] rfl (.sB a cap hc.2.2) .nil,.cons _ _ _ _ (.sl _ _ (by simp)) .nil⟩
         ·
          obtain⟨cs0,ds0,XX,a8M,hr0,aHr⟩:=hel 0 (by omega);obtain⟨hl1,PD⟩:=Pb a8M;have hpos:0<cs0.length:=by rw[hl1];omega
          have hc0:=PD 0 cs0[0] (av hpos);have ha0:(a.add (0*P.cellsOf e)).add 0=a:=by simp[Addr.add]
          rw[ha0]at hc0;obtain⟨b,off,spot⟩:=a;have aAu:spot=none:=by
           cases spot with
           |none=>rfl
           |some x=>
            unfold World.cell? at hc0;split at hc0
            ·simp at hc0
            ·cases hc0
          subst aAu;have hb:b<w.heap.size:=World.block_lt_of_cell? w _ hc0;have build:∀m,m<=len->∃(rows:List aT) (cs:cG) (bs:aj),rows.length=m/\cs.length=m*P.cellsOf e/\(∀(j:Nat) c,cs[j]?=some c->w.cell? ⟨b,off+j,none⟩=some c)/\
           oI w cs rows.flatten bs/\∀x∈rows,x7 r x:=by
           intro m
           induction m with
           |zero=>intro _;exact⟨[],[],[],rfl,by simp,by simp,.nil,by simp⟩
           |succ m ihm=>
            intro hm1;obtain⟨rows,cs,bs,q1,q2,q3,q4,q5⟩:=ihm (by omega);obtain⟨cs',ds',bs',g1,g2,g3⟩:=hel m (by omega);obtain⟨g4,g5⟩:=Pb g1;refine⟨rows++[ds'],cs++cs',bs++bs',by simp[q1],by simp[q2,g4,oB],?_,?_,?_⟩
            ·intro j c hj;by_cases hlt:j<cs.length
             ·rw[bJ hlt]at hj;exact q3 j c hj
             ·rw[bW (by omega)]at hj;have:=g5 _ c hj;rw[Addr.add_lit,Addr.add_lit,q2]at this;have e1:off+m*P.cellsOf e+(j-m*P.cellsOf e)=off+j:=by omega
              rw[e1]at this;exact this
            ·rw[kT];have:=q4.app g2;simpa using this
            ·intro x hx;rcases aX.1 hx with hx|hx
             ·exact q5 x hx
             ·simp at hx;subst hx;exact g3
          obtain⟨rows,cs,bs,q1,q2,q3,q4,q5⟩:=build len (br _);subst q1;refine⟨[.sl rows],b::bs,?_,.cons _ _ _ _ (.sl _ _ q5) .nil⟩;have:=oI.cons (w:=w) _ [] _ [] _ [] rfl (Rd.sl b off cap r.length rows cs bs hb hc.2.1 hc.2.2 (fun x hx=>(q5 x hx).length) q3 q4) .nil;simpa using this
       ·cases h
     ·cases hf
   ·rename_i fs hu;cases hr:fs.toList.mapM (fun f=>DA P n f.type)with
    |none=>simp[hr]at hf
    |some rs=>
     simp only[hr,aA]at hf;split at hf
     ·rename_i hok;cases hf;simp only[hu]at h;split at h
      ·rename_i hlen;cases hm:fs.toList.mapM (fun f=>DataW.trod enc P w base sp held fuel f.type ((cs.drop f.offset).take (P.cellsOf f.type)))with
       |none=>simp[hm]at h
       |some xs=>
        have go:∀(fl:List Field) (rl:List (List Sh)) (xl:List (DataW H×List MemPlace)) (off:Nat),fl.mapM (fun f=>DA P n f.type)=some rl->
         fl.mapM (fun f=>DataW.trod enc P w base sp held fuel f.type ((cs.drop f.offset).take (P.cellsOf f.type)))=some xl->TQ P off fl rl=true->
         ∃ds bs,oI w ((cs.drop off).take rl.flatten.length) ds bs/\x7 rl.flatten ds:=by
         intro fl
         induction fl with
         |nil=>
          intro rl xl off h1 _ _;simp at h1;subst h1;exact⟨[],[],by simpa using oI.nil,.nil⟩
         |cons f fl ihf=>
          intro rl xl off h1 h2 h3;simp only[Gg,Option.bind_eq_bind,Option.pure_def]at h1 h2;cases a1:DA P n f.type with
          |none=>simp[a1]at h1
          |some r1=>
           cases a2:fl.mapM (fun f=>DA P n f.type)with
           |none=>simp[a1,a2]at h1
           |some rl'=>
            simp[a1,a2]at h1;subst h1;cases b1:DataW.trod enc P w base sp held fuel f.type ((cs.drop f.offset).take (P.cellsOf f.type))with
            |none=>simp[b1]at h2
            |some x1=>
             cases b2:fl.mapM (fun f=>DataW.trod enc P w base sp held fuel f.type ((cs.drop f.offset).take (P.cellsOf f.type)))with
             |none=>simp[b1,b2]at h2
             |some xl'=>
              simp only[TQ,aU,cr]at h3;obtain⟨⟨o1,o2⟩,o3⟩:=h3;obtain⟨OC,bs1,k1,k2⟩:=ih (d:=x1.1) (ps:=x1.2) b1 a1;obtain⟨ds2,bs2,k3,k4⟩:=ihf rl' xl' (off+r1.length) a2 b2 o3;refine⟨OC++ds2,bs1++bs2,?_,by simpa using k2.app k4⟩;have e1:(cs.drop off).take (r1::rl').flatten.length=(cs.drop f.offset).take (P.cellsOf f.type)++(cs.drop (off+r1.length)).take rl'.flatten.length:=by
               rw[o1,<-o2,iK,bC,<-jS,List.take_add]
              rw[e1];exact k1.app k3
        obtain⟨ds,bs,k1,k2⟩:=go fs.toList rs xs 0 hr hm hok.1;rw[Bp,hok.2,<-hlen,zg]at k1;exact⟨ds,bs,k1,k2⟩
      ·cases h
     ·cases hf
   ·cases hf
def a0V(P:Program)(n:Nat)(t:TypeId)(d:D):Prop:=
 (Dd P t=some true/\∃shs cells,DA P n t=some shs/\d=.agg cells/\x7 shs cells)\/(Dd P t=some false/\∃sh,DA P n t=some [sh]/\R8 sh d)
inductive RY(P:Program)(n:Nat):List TypeId->List D->Prop
 |nil:RY P n [] []
 |cons (t:TypeId) (ts:List TypeId) (d:D) (ds:aT):a0V P n t d->RY P n ts ds->RY P n (t::ts) (d::ds)
def UF(P:Program)(n:Nat)(t:TypeId):Bool:=
 match Dd P t,DA P n t with
 |some true,some _=>(match P.underlying t with|some (.struct _)=>true|_=>false)
 |some false,some [_]=>true
 |_,_=>false
theorem a2P{n:Nat}{t:TypeId}{v:Value}{d:DataW H}{ps:List MemPlace}(hok:UF P n t=true)(hval:Value.okWide P w .any base t v)(h:DataW.Trod enc P w 0 sp held t v d ps):
 ∃x bs,Rd w v x bs/\a0V P n t x:=by
 obtain⟨fuel,h⟩:=h;unfold UF at hok;split at hok
 ·rename_i shs ht hf;split at hok
  ·rename_i fs hu;unfold Value.okWide at hval;simp only[hu]at hval;obtain⟨cs,rfl,_⟩:=hval;obtain⟨ds,bs,k1,k2⟩:=YV fuel h hf;refine⟨.agg ds,bs,?_,.inl ⟨ht,shs,ds,hf,rfl,k2⟩⟩;have:=Rd.agg (w:=w) cs.toList ds bs k1;simpa using this
  ·cases hok
 ·rename_i sh ht hf;have hone:v.oneCell'=true:=by
   unfold Dd at ht;split at ht<;>first
    | (cases ht;done)
    |skip
   rename_i dsc h1 h2 hu;unfold Value.okWide at hval;rw[hu]at hval;cases v with
   |agg cs=>
    cases dsc<;>first
     | (exfalso;exact h1 _ rfl)
     | (exfalso;exact h2 _ _ rfl)
     | (simp[Cell.okWide,Cell.ok,hu]at hval)
   |tuple vs=>
    cases dsc<;>first
     | (exfalso;exact h1 _ rfl)
     | (exfalso;exact h2 _ _ rfl)
     | (simp[Cell.okWide,Cell.ok,hu]at hval)
   |_=>rfl
  rw[S7 hone]at h;obtain⟨ds,bs,k1,k2⟩:=YV fuel h hf;cases k2 with
  |cons _ _ x ds' hx hn=>
   cases hn;cases k1 with
   |cons _ _ _ _ b1 b2 _ hrd hn=>exact⟨x,b1,hrd,.inr ⟨ht,sh,hf,hx⟩⟩
 ·cases hok
theorem ZZ{n:Nat}:∀ {ts:List TypeId} {vs:cG} {ds:List (DataW H)} {ps:List MemPlace},(∀t∈ts,UF P n t=true)->
 (∀(j:Nat) t v,ts[j]?=some t->vs[j]?=some v->Value.okWide P w .any base t v)->DataW.TrodAll enc P w 0 sp held ts vs ds ps->
 ∃xs bs,XK w vs xs bs/\RY P n ts xs/\ds.length=ts.length:=by
 intro ts
 induction ts with
 |nil=>
  intro vs ds ps _ _ h;cases vs with
  |nil=>cases ds with
   |nil=>exact⟨[],[],.nil,.nil,rfl⟩
   |cons=>cases h
  |cons=>cases ds<;>cases h
 |cons t ts ih=>
  intro vs ds ps hok hval h;cases vs with
  |nil=>cases h
  |cons v vs=>
   cases ds with
   |nil=>cases h
   |cons d ds=>
    obtain⟨p,q,h1,h2,rfl⟩:=h;obtain⟨x,b1,k1,k2⟩:=a2P (hok t (by simp)) (hval 0 t v rfl rfl) h1;obtain⟨xs,b2,k3,k4,k5⟩:=ih (fun u hu=>hok u (by simp[hu])) (fun j u y hj hv=>hval (j+1) u y (by simpa using hj) (by simpa using hv)) h2;exact⟨x::xs,b1++b2,.cons _ _ _ _ _ _ k1 k3,.cons _ _ _ _ k2 k4,by simp[k5]⟩
theorem RU{W W':World}(hl:laidOutB P=true)(hb:Below W.heap.size W W')(spn:Nat->Bool):∀ {ts:List TypeId} {vs:cG} {ds:List (DataW H)} {ps:List MemPlace},
 (∀t∈ts,P.readableRec t=true/\t<P.types.size)->DataW.TrodAll enc P W 0 (fun _=>true) true ts vs ds ps->(∀x∈ps,x.block<W.heap.size)->(∀x∈ps,spn x.block=true)->
 DataW.TrodAll enc P W' 0 spn true ts vs ds ps:=by
 intro ts
 induction ts with
 |nil=>intro vs ds ps _ h _ _;cases vs<;>cases ds<;>first|exact h|cases h
 |cons t ts ih=>
  intro vs ds ps ht h hlt hsp;cases vs with
  |nil=>cases h
  |cons v vs=>
   cases ds with
   |nil=>cases h
   |cons d ds=>
    obtain⟨p,q,h1,h2,rfl⟩:=h;refine⟨p,q,?_,ih (fun u hu=>ht u (by simp[hu])) h2 (fun x hx=>hlt x (by simp[hx])) (fun x hx=>hsp x (by simp[hx])),rfl⟩;exact WideElems.Trod_stays hl (ht t (by simp)).1 (ht t (by simp)).2 h1 (fun x hx=>hb.same (hlt x (by simp[hx]))) (fun x hx=>hsp x (by simp[hx]))
theorem Bu.yu{w:World}{v:Value}{b:Bool}{bs ts us:aj}(h:Bu w v (.bool b) bs ts us):v=.bool b:=by
 cases h with|v h=>cases h with|cell h=>cases h with|pure h=>cases h;rfl
theorem TI{f:FuncId}{fn:Func}{s:ChangeSpec}{n rt:Nat}{W:World}{args:Array Value}{ds gs:List (DataW H)}{before:List MemPlace}
 (hl:laidOutB P=true) (Xs:∀t∈fn.params.toList,UF P n t=true/\P.readableRec t=true/\t<P.types.size) (hres:fn.resultTypes= #[rt]) (hrt:P.underlying rt=some .bool)
 (hv:s.vars=[]) (hfn:∀ds:List (DataW H),ds.length=fn.params.toList.length->s.fn H ds= {results:=[.lit (.bool true)],args:=ds})
 (hvs:Sb W fun _=>False) (sE:∀xs,RY P n fn.params.toList xs->Good P f xs (.bool true))
 (hval:∀(j:Nat) t v,fn.params[j]?=some t->args[j]?=some v->Value.okWide P W .any base t v)
 (hW:DataW.Whole enc P fn.params.toList s.vars false W args.toList ds gs before):
 Calls P f args W fun e W'=>∃v,e=.returned v/\s.post enc P fn false true false false W args v W':=by
 have hW':=hW;obtain⟨p,q,hA,hV,hpq,hz,_⟩:=hW;have hgs:gs=[]/\q=[]:=by
  rw[hv]at hV;cases gs with
  |nil=>exact⟨rfl,hV⟩
  |cons=>cases hV
 obtain⟨rfl,rfl⟩:=hgs;rw[dV]at hpq;subst hpq;obtain⟨xs,bs,k1,k2,k3⟩:=ZZ (fun t ht=>(Xs t ht).1) (fun j t v hj hv=>hval j t v (by simpa using hj) (by simpa using hv)) hA;have hc:=(sE xs k2).2 W (fun _=>0) args.toList bs hvs k1 (fun _ _=>rfl) (fun b hb=>absurd rfl hb) (fun _=>Gi _);rw[sS]at hc;refine hc.mono ?_;rintro e W' ⟨v,bs',ts,us,rfl,hb,hr,_⟩;refine⟨v,rfl,?_⟩;obtain rfl:=hr.yu;have hlt:=hW'.lt;have hfd:=hfn ds k3;have a1L:∀(b:Nat) (sp:Nat->Bool) (hd:Bool),DataW.TrodAll enc P W' b sp hd fn.resultTypes.toList ((Value.bool true).resultList fn.resultTypes.size) [.lit (.bool true)] []:=by
  intro b sp hd;rw[hres];exact⟨[],[],⟨1,by simp[DataW.trod,hrt,Value.cells]⟩,rfl,rfl⟩
 have hargs:∀spn:Nat->Bool,(∀x∈before,spn x.block=true)->DataW.TrodAll enc P W' 0 spn true fn.params.toList args.toList ds before:=
  fun spn hsp=>RU hl hb spn (fun t ht=>(Xs t ht).2) hA hlt hsp
 have hvars:∀spn:Nat->Bool,DataW.TrodVars enc P W' spn s.vars [] []:=fun spn=>by rw[hv];rfl
 unfold ChangeSpec.post;refine⟨ds,[],before,[],before,[],hW',?_,?_,?_,hb.frame _,fun h=>by cases h⟩
 ·rw[dV,hfd];exact a1L _ _ _
 ·rw[dV,hfd];exact hargs _ (fun x hx=>by simpa using hlt x hx)
 ·rw[dV,hfd];exact hvars _
end
abbrev B6:=List Sh
theorem Yq{G:Type}{c:G->aT}{row:B6}(hc:∀r,x7 row r->∃x,r=c x):∀ {rows:List aT},(∀r∈rows,x7 row r)->∃l:List G,rows=l.map c:=by
 intro rows
 induction rows with
 |nil=>intro _;exact⟨[],rfl⟩
 |cons r rows ih=>
  intro h;obtain⟨x,rfl⟩:=hc r (h r (by simp));obtain⟨l,rfl⟩:=ih (fun s hs=>h s (by simp[hs]));exact⟨x::l,rfl⟩
theorem a4d{G:Type}{c:G->aT}{row:B6}(hc:∀r,x7 row r->∃x,r=c x){d:D}(h:R8 (.sl row) d):∃l:List G,d=.sl (l.map c):=by
 cases h with
 |sl _ rows hr=>
  obtain⟨l,rfl⟩:=Yq hc hr;exact⟨l,rfl⟩
theorem a0q{k:IntKind}{d:D}(h:R8 (.int k) d):∃n,d=.int k n:=by cases h;exact⟨_,rfl⟩
theorem Vs{s:Sh}{ss:B6}{ds:aT}(h:x7 (s::ss) ds):∃d r,ds=d::r/\R8 s d/\x7 ss r:=by
 cases h with|cons _ _ d r h1 h2=>exact⟨d,r,rfl,h1,h2⟩
theorem Yr{ds:aT}(h:x7 [] ds):ds=[]:=by cases h;rfl
theorem a4e(r:aT)(h:x7 [.int .u8] r):∃s,r=yx s:=by
 obtain⟨_,_,rfl,h1,h⟩:=Vs h;cases Yr h;obtain⟨s,rfl⟩:=a0q h1;exact⟨s,rfl⟩
section
variable{P:Program}{n:Nat}{t:TypeId}{d:D}
theorem a0V.cell{sh:Sh}(ha:Dd P t=some false)(hf:DA P n t=some [sh])(h:a0V P n t d):R8 sh d:=by
 rcases h with⟨h1,_⟩|⟨_,sh',h1,h2⟩
 ·rw[ha]at h1;cases h1
 ·rw[hf]at h1;cases h1;exact h2
end
open Go.ChangeShapes Go.WideShapes Go.ChangeAt Go.RowKit
def jp0(P:Program)(f:FuncId)(fn:Func)(s:ChangeSpec)(c:OpenClaim):Bool:=(c.wf (OpenSpec.ofChange s)&&laidOutB P&&mapsRowed P)
def jp1(P:Program)(f:FuncId)(fn:Func)(s:ChangeSpec)(c:OpenClaim):Bool:=(fn.params.all (P.readableRec ·)&&namedTie P c.named s.vars)&&((c.stops==[])&&(P.stops==[])&&(c.knobs==[])&&(P.stopKnobs==[]))&&((c.maps==(fn.params.toList++s.plain.varTypes P).any (P.mapsRec ·))&&(c.ifaces==(fn.params.toList++s.plain.varTypes P).any (P.ifacesRec ·))&&(c.mapsOut==P.mapsAmong fn.resultTypes.toList))&&((c.loops==(fn.params.toList++s.plain.varTypes P).any (P.loopsFrom ·))&&(c.wideKeys==(fn.params.toList++s.plain.varTypes P++fn.resultTypes.toList).any (P.wideKeysFrom ·)))&&(s.vars.all (P.varReadable ·)&&fn.resultTypes.all (fun t=>P.readableRec t&&decide (t<P.types.size))&&(c.ifacesOut==fn.resultTypes.toList.any (P.ifacesRec ·))&&(c.loopsOut==fn.resultTypes.toList.any (P.loopsFrom ·)))&&((c.kinds==(if c.domain.isEmpty then []else fn.params.toList.map fun t=>match P.underlying t with|some (.int k)=>some k|_=>none))&&(c.pinned==c.pinnedBy))&&((c.veiled==(fn.params.toList++s.plain.varTypes P++fn.resultTypes.toList).any (P.veiledRec ·))&&c.veiledFits P fn.params.toList (fn.params.toList++s.plain.varTypes P++fn.resultTypes.toList))
def jp2(P:Program)(f:FuncId)(fn:Func)(s:ChangeSpec)(c:OpenClaim):Bool:=(c.inPlace==P.inPlace f)&&(c.unfollowed==P.unfollowed f)&&(c.recurses==P.recurses f)&&(c.named==P.varsNamed f)
def jp3(P:Program)(f:FuncId)(fn:Func)(s:ChangeSpec)(c:OpenClaim):Bool:=(c.plainKeys==P.plainKeys)&&(c.shortTexts.isNone&&P.stopsHeard)&&P.mayEnter&&(c.lifted==P.liftsFinal)&&(P.make==some c.make)
theorem ZI{P:Program}{f:FuncId}{fn:Func}{s:ChangeSpec}{c:OpenClaim}(h0:jp0 P f fn s c=true)(h1:jp1 P f fn s c=true)(h2:jp2 P f fn s c=true)(h3:jp3 P f fn s c=true):joinedFacts P f fn s c=true:=by
 unfold jp0 at h0;unfold jp1 at h1;unfold jp2 at h2;unfold jp3 at h3;unfold joinedFacts;simp only[aU]at h0 h1 h2 h3⊢;obtain⟨⟨aIg,aIh⟩,aIi⟩:=h0;obtain⟨⟨⟨⟨⟨⟨⟨aIj,aIk⟩,⟨⟨⟨aIl,aIm⟩,aIn⟩,aIo⟩⟩,⟨⟨aIt,aIu⟩,aIv⟩⟩,⟨aIw,aIx⟩⟩,⟨⟨⟨aIy,aIz⟩,aJ0⟩,aJ1⟩⟩,⟨aH9,aHA⟩⟩,⟨aHB,aHC⟩⟩:=h1;obtain⟨⟨⟨aIp,aIq⟩,aIr⟩,aIs⟩:=h2;obtain⟨⟨⟨⟨aH3,⟨aH4,aH5⟩⟩,aH6⟩,aH7⟩,aH8⟩:=h3
 and_intros<;>assumption
end Go.Cx

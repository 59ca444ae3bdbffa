/- What functions of the program compute, and the walks that show it. No condition. -/
import Derived.Test.YtfankinmlfnncaaGreatDoorPFnChangesG3
set_option linter.unusedVariables false
set_option linter.unusedSimpArgs false
namespace Go.Cx
open Go.RowKit Go.Proofs Tryz
set_option maxRecDepth 100000
variable{Z:wW}{N:Nat->St->Prop}
def iH(y1:ck×(Bytes×Int))(k1:bM->Int->Int->aI->Option (ck×aC)):Nat->Int->bM->Int->Int->aI->Option (ck×aC)
 |0,_,_,_,_,_=>none
 |n1+1,dX,fL,eL,eM,dh=>(bif decide ((dX:Int)<y1.2.2)then((jA (⟨fL,eL,eM⟩:ck)).bind fun B5=>(bif room ((dh.map tx).length+([[aZ B5.2]]).length) 16 then(iH y1 k1 n1 (IntKind.i64.wrap (dX+1)) B5.1.b B5.1.i B5.1.h (dh++([B5.2])))else none))else(k1 fL eL eM dh))
def fP(aD:ck):Option (ck×aC):=((pP aD).bind fun y1=>(iH y1 (fun(nD:bM) (nE:Int) (nF:Int) (eO:aI)=>(some ((⟨nD,nE,nF⟩:ck),(⟨y1.2.1,eO⟩:aC)))) fuel 0 y1.1.b y1.1.i y1.1.h ([]:aI)))
def E6(jC:Value)(y1:ck×(Bytes×Int))(dX:Int)(eL:Int)(eM:Int)(W1:List aT)(W4:List aT):St:=⟨[(0,bp 0 0),(2,bp 1 0),(4,aB y1.2.2),(5,bp 2 0),(6,aB dX)],[Ob.CW [bX W1,aB eL,aB eM] jC,bu [aZ ([]),D.nil],bu [aZ y1.2.1,b9 3],af 9 1 W4]⟩
theorem Lu(hZ:Z.nt=27){jC:Value}{y1:ck×(Bytes×Int)}{r:ck×aC}{k1:bM->Int->Int->aI->Option (ck×aC)}(eC:∀(nD:bM) (nE:Int) (nF:Int) (eO:aI),k1 nD nE nF eO=some r->Ax Z N f113 (.p OM jC (ck.c r.1) (bw [aZ r.2.rel,cW 9 1 (r.2.args.map tx)])) [1,1,1,1] ⟨[(2,bp 1 0),(5,bp 2 0)],[Ob.CW [bX (nD.map yx),aB nE,aB nF] jC,bu [aZ ([]),D.nil],bu [aZ y1.2.1,b9 3],af 9 1 (eO.map tx)]⟩):∀(n1:Nat) (dX:Int) (fL:bM) (eL:Int) (eM:Int) (dh:aI),iH y1 k1 n1 dX fL eL eM dh=some r->Ar Z N f113 (.p OM jC (ck.c r.1) (bw [aZ r.2.rel,cW 9 1 (r.2.args.map tx)])) [1,1,1,0,1,0] n1 (E6 jC y1 dX eL eM (fL.map yx) (dh.map tx)):=by
 intro n
 induction n with
 |zero=>intro dX fL eL eM dh h;simp[iH]at h
 |succ n1 ih1=>
  intro dX fL eL eM dh h;rw[iH]at h;refine aV fun N1 cq cS=>?_
  obtain⟨h27,h⟩|⟨h27,h⟩:=aK h
  ·obtain⟨B5,h31,h⟩:=aH h;obtain⟨h32,h⟩:=bf h;exact(((((aY.b h27).a [.n2 [0,1,2,3,4,5,6,7] [0,1,2,3,4,5,6,7] 3 5 [0,1] [0],.gp jL (ck.c B5.1) (aZ B5.2)]).w (show j0 prog 181 (ck.c (⟨fL,eL,eM⟩:ck)) (ck.c B5.1) [] (aZ B5.2)from by simpa only[bI,bA,cF,cD,cI]using yA h31)).w (cA h32)).a [.cn [0,2,4,5,6] [0,1,2,5]]).cs hZ cS (E6 jC y1 (IntKind.i64.wrap (dX+1)) B5.1.i B5.1.h (B5.1.b.map yx) ((dh.map tx)++([[aZ B5.2]]))) (by first| (simp only[mA]<;>rfl)| (simp only[mA,aC.c,aW.c,aS.c,Action.c,aN.c,aQ.c,ai.c,ah.c,Node.c,aF.c,di.c]<;>rfl)) (ih1 (IntKind.i64.wrap (dX+1)) B5.1.b B5.1.i B5.1.h (dh++([B5.2])) h)
  ·exact((aY.b h27).a [.hl 0 [2,5] [0,1,2,3]]).ex hZ cq (eC fL eL eM dh h)
theorem oy{aD:ck}{r:ck×aC}(h:fP aD=some r):j0 prog 113 (ck.c aD) (ck.c r.1) [] (bw [aZ r.2.rel,cW 9 1 (r.2.args.map tx)]):=by
 refine L4 func113 OM 27 [bX (aD.b.map yx),aB aD.i,aB aD.h] [] [] fun hr jC Z hZ=>?_
 rw[fP]at h;obtain⟨y1,h2,h⟩:=aH h;refine((aY.hp jL (D4 h2)).a [.pb 2 1 9 1,.cn [0,2,4,5,6] [0,1,2,3]]).lp hZ (Lu hZ (fun nD nE nF eO h=>?_) fuel 0 y1.1.b y1.1.i y1.1.h ([]:aI) h);cases h;exact aY.ret hZ
def uo(aD:Bytes)(aa:Bytes):Option Int:=(bif Op.bytesLess aD aa then(some (-1))else(bif !(Op.bytesLess aD aa||(aD:Bytes)==aa)then(some 1)else(some 0)))
theorem z8{aD:Bytes}{aa:Bytes}{r:Int}(h:uo aD aa=some r):Good prog 154 [aZ aD,aZ aa] (aB r):=by
 refine gd func154 bZ 13 fun hr Z hZ=>?_
 rw[uo]at h;obtain⟨h1,h⟩|⟨h1,h⟩:=aK h
 ·cases h;exact(aY.b h1).ret hZ
 ·obtain⟨h2,h⟩|⟨h2,h⟩:=aK h
  ·cases aM h;exact((aY.b h1).b h2).ret hZ
  ·cases aM h;exact((aY.b h1).b h2).ret hZ
def kZ(aD:Bytes)(aa:Bytes):Option Int:=((oF aD).bind fun y1=>((oF aa).bind fun y3=>(bif y1.2 then(bif y3.2 then(bif decide ((y1.1:Int)<y3.1)then(some (-1))else(bif !(y3.2)then(some (-1))else(bif decide ((y1.1:Int)>y3.1)then(some 1)else(bif !(y1.2)then(some 1)else(some 0)))))else(bif !(y3.2)then(some (-1))else(some 0)))else(bif y3.2 then(bif !(y1.2)then(some 1)else((uo aD aa).bind fun Ai=>(some Ai)))else((uo aD aa).bind fun PR=>(some PR))))))
theorem xX{aD:Bytes}{aa:Bytes}{r:Int}(h:kZ aD aa=some r):Good prog 155 [aZ aD,aZ aa] (aB r):=by
 refine gd func155 bZ 54 fun hr Z hZ=>?_
 rw[kZ]at h;obtain⟨y1,h2,y3,h4,h⟩:=bR h;have lC:=((aY.g (sr h2)).g (sr h4))
 obtain⟨h5,h⟩|⟨h5,h⟩:=aK h
 ·have fG:=(lC.r 2 h5)
  obtain⟨h6,h⟩|⟨h6,h⟩:=aK h
  ·have jR:=(fG.r 4 h6)
   obtain⟨h7,h⟩|⟨h7,h⟩:=aK h
   ·cases h;exact(jR.r 2 h7).ret hZ
   ·have k6:=((jR.b h7).r 3 h5)
    obtain⟨h8,h⟩|⟨h8,h⟩:=aK h
    ·cases h;exact(k6.b h8).ret hZ
    ·have ud:=(((k6.b h8).r 2 h5).r 4 h6)
     obtain⟨h9,h⟩|⟨h9,h⟩:=aK h
     ·cases aM h;exact(ud.r 2 h9).ret hZ
     ·have xg:=((ud.b h9).r 3 h6)
      obtain⟨h10,h⟩|⟨h10,h⟩:=aK h
      ·cases aM h;exact(xg.b h10).ret hZ
      ·cases aM h;exact((xg.b h10).b h5).ret hZ
  ·have Ak:=(((fG.r 4 h6).F 1).r 3 h5)
   obtain⟨h11,h⟩|⟨h11,h⟩:=aK h
   ·cases h;exact(Ak.b h11).ret hZ
   ·cases aM h;exact(((((((Ak.b h11).r 2 h5).r 4 h6).F 1).r 3 h6).F 1).b h5).ret hZ
 ·have Fc:=((((((lC.r 2 h5).F 5).r 3 h5).F 1).r 2 h5).F 5)
  obtain⟨h12,h⟩|⟨h12,h⟩:=aK h
  ·have OP:=(Fc.r 3 h12)
   obtain⟨h13,h⟩|⟨h13,h⟩:=aK h
   ·cases aM h;exact(OP.b h13).ret hZ
   ·obtain⟨Ai,h15,h⟩:=aH h;cases aM h;exact(((OP.b h13).b h5).g (z8 h15)).ret hZ
  ·obtain⟨PR,h17,h⟩:=aH h;cases aM h;exact((((Fc.r 3 h12).F 1).b h5).g (z8 h17)).ret hZ
def kF(aD:aC)(aa:aC)(k1:Option Int):aI->Nat->Option Int
 | [],i1=>(k1)
 |bg::cj,i1=>(bif decide (((i1:Int):Int)<((aa.args.map tx).length:Int))then((gA aa.args (i1:Int)).bind fun x37=>((kZ bg x37).bind fun FQ=>(bif (FQ:Int) != 0 then(some FQ)else(kF aD aa k1 cj (i1+1)))))else(k1))
def fy(aD:aC)(aa:aC):Option Int:=(bif !((aD.rel:Bytes)==aa.rel)then((uo aD.rel aa.rel).bind fun y2=>(some y2))else(kF aD aa (bif decide ((((aD.args.map tx).length:Int):Int)<((aa.args.map tx).length:Int))then(some (-1))else(bif decide ((((aD.args.map tx).length:Int):Int)>((aa.args.map tx).length:Int))then(some 1)else(some 0))) aD.args 0))
def F4(aD:aC)(aa:aC)(dL:Int):St:=⟨[(2,bp 0 0),(3,bp 1 0),(5,aB dL)],[bu (aC.c aD),bu (aC.c aa)]⟩
theorem E0(hZ:Z.nt=61){aD:aC}{aa:aC}{r:Int}{k1:Option Int}(eC:k1=some r->Ax Z N f92 (.q bZ (aB r)) [1,1,1] ⟨[(2,bp 0 0),(3,bp 1 0)],[bu (aC.c aD),bu (aC.c aa)]⟩)(hm1:aD.args.length<=maxLen):∀(rest:aI) (i1:Nat),aD.args.drop i1=rest->kF aD aa k1 rest i1=some r->Ar Z N f92 (.q bZ (aB r)) [1,1,0,1,0] (rest.length+1) (F4 aD aa (i1:Int)):=by
 intro rest
 induction rest with
 |nil=>
  intro i1 bB h;rw[kF]at h;refine aV fun N1 cq cS=>?_
  exact((((((((aY.ge tx bB).ge tx bB).ge tx bB).ge tx bB).ge tx bB).ge tx bB).F 1).a [.hl 0 [2,3] [0,1]]).ex hZ cq (eC h)
 |cons bg cj ih1=>
  intro i1 bB h;rw[kF]at h;refine aV fun N1 cq cS=>?_
  have jR:=((((((aY.lt tx bB).lt tx bB).lt tx bB).lt tx bB).lt tx bB).lt tx bB)
  obtain⟨h36,h⟩|⟨h36,h⟩:=aK h
  ·obtain⟨x37,h38,FQ,h40,h⟩:=bR h;have k6:=(((((jR.b h36).a [.n 10]).l (bK tx 1 (dc bB) rfl)).l (dW tx 1 h38 rfl)).g (xX h40))
   obtain⟨h41,h⟩|⟨h41,h⟩:=aK h
   ·cases aM h;exact(k6.b h41).ret hZ
   ·exact((k6.b h41).a [.cn [2,3,5] [0,1]]).ct hZ cS (iS bB hm1) (ih1 (i1+1) (dn bB) h)
  ·exact((jR.b h36).a [.hl 0 [2,3] [0,1]]).ex hZ cq (eC h)
theorem pM{aD:aC}{aa:aC}{r:Int}(h:fy aD aa=some r):Good prog 92 [bw (aC.c aD),bw (aC.c aa)] (aB r):=by
 refine gd func92 bZ 61 fun hr Z hZ=>?_
 rw[fy]at h;obtain⟨h1,h⟩|⟨h1,h⟩:=aK h
 ·obtain⟨y2,h3,h⟩:=aH h;cases aM h;exact((aY.b h1).g (z8 h3)).ret hZ
 ·refine((aY.b h1).a [.cn [2,3,5] [0,1]]).lp hZ (E0 hZ (fun h=>?_) (by have:=(gY.sl (gY.agg (hr _ (aE (i:=0) rfl)) (.sl (aD.args.map tx)) (by simp))).1;simpa using this) aD.args 0 rfl h);obtain⟨h42,h⟩|⟨h42,h⟩:=aK h
  ·cases h;exact(aY.b h42).ret hZ
  ·obtain⟨h43,h⟩|⟨h43,h⟩:=aK h
   ·cases aM h;exact((aY.b h42).b h43).ret hZ
   ·cases aM h;exact((aY.b h42).b h43).ret hZ
def eF(aD:aC):Option aC:=((uT aD.args).bind fun y1=>(some (⟨aD.rel,y1⟩:aC)))
theorem fA{aD:aC}{r:aC}(h:eF aD=some r):Good prog 86 [bw (aC.c aD)] (bw [aZ r.rel,cW 9 1 (r.args.map tx)]):=by
 refine gd func86 Kr 9 fun hr Z hZ=>?_
 rw[eF]at h;obtain⟨y1,h2,h⟩:=aH h;cases h;exact((aY.a [.n 5]).g (BL h2)).ret hZ
def dF(aD:aJ)(aa:aC)(k1:Bool->aJ->Option aJ):aJ->Nat->Bool->aJ->Option aJ
 | [],i1,dX,bn=>(k1 dX bn)
 |bg::cj,i1,dX,bn=>(bif !(dX)then((fy bg aa).bind fun aDJ=>(bif decide ((aDJ:Int)>=0)then((fy bg aa).bind fun Je=>(bif decide ((Je:Int)>0)then((eF aa).bind fun Ts=>(bif room ((bn.map aC.c).length+([[aZ Ts.rel,bX (Ts.args.map tx)]]).length) 40 then((eF bg).bind fun Dh=>(bif room (((bn.map aC.c)++([[aZ Ts.rel,bX (Ts.args.map tx)]])).length+([[aZ Dh.rel,bX (Dh.args.map tx)]]).length) 40 then(dF aD aa k1 cj (i1+1) true ((bn++([Ts]))++([Dh])))else none))else none))else((eF bg).bind fun XB=>(bif room ((bn.map aC.c).length+([[aZ XB.rel,bX (XB.args.map tx)]]).length) 40 then(dF aD aa k1 cj (i1+1) true (bn++([XB])))else none))))else((eF bg).bind fun XC=>(bif room ((bn.map aC.c).length+([[aZ XC.rel,bX (XC.args.map tx)]]).length) 40 then(dF aD aa k1 cj (i1+1) dX (bn++([XC])))else none))))else((eF bg).bind fun Cu=>(bif room ((bn.map aC.c).length+([[aZ Cu.rel,bX (Cu.args.map tx)]]).length) 40 then(dF aD aa k1 cj (i1+1) dX (bn++([Cu])))else none)))
def lW(aD:aJ)(aa:aC):Option aJ:=(dF aD aa (fun(wV:Bool) (kP:aJ)=>(bif !(wV)then((eF aa).bind fun RW=>(bif room ((kP.map aC.c).length+([[aZ RW.rel,bX (RW.args.map tx)]]).length) 40 then(some (kP++([RW])))else none))else(some kP))) aD 0 false ([]:aJ))
def vP(aD:aJ)(aa:aC)(dX:Bool)(W1:List aT)(dL:Int):St:=⟨[(0,bX (aD.map aC.c)),(3,bp 0 0),(5,b9 1),(6,bQ dX),(7,aB dL)],[bu (aC.c aa),af 43 2 W1]⟩
def D0(r:aJ):Kd:=.q I9 (cW 43 2 (r.map aC.c))
theorem NT(hZ:Z.nt=54){aD:aJ}{aa:aC}{r:aJ}{k1:Bool->aJ->Option aJ}(eC:∀(wV:Bool) (kP:aJ),k1 wV kP=some r->Ax Z N f67 (D0 r) [1,1,1,1] ⟨[(3,bp 0 0),(5,b9 1),(6,bQ wV)],[bu (aC.c aa),af 43 2 (kP.map aC.c)]⟩)(hm1:aD.length<=maxLen):∀(rest:aJ) (i1:Nat) (dX:Bool) (bn:aJ),aD.drop i1=rest->dF aD aa k1 rest i1 dX bn=some r->Ar Z N f67 (D0 r) [1,1,1,0,1,0] (rest.length+1) (vP aD aa dX (bn.map aC.c) (i1:Int)):=by
 intro rest
 induction rest with
 |nil=>
  intro i1 dX bn bB h;rw[dF]at h;refine aV fun N1 cq cS=>?_
  exact((aY.ge aC.c bB).a [.hl 0 [3,5,6] [0,1]]).ex hZ cq (eC dX bn h)
 |cons bg cj ih1=>
  intro i1 dX bn bB h;rw[dF]at h;refine aV fun N1 cq cS=>?_
  have k6:=((aY.lt aC.c bB).a [.n 8])
  obtain⟨h128,h⟩|⟨h128,h⟩:=aK h
  ·obtain⟨aDJ,h130,h⟩:=aH h;have ud:=(((((k6.r 3 h128).l (bK aC.c 2 (dc bB) rfl)).r 3 h128).g (pM h130)).r 2 h128)
   obtain⟨h131,h⟩|⟨h131,h⟩:=aK h
   ·obtain⟨Je,h133,h⟩:=aH h;have xg:=((((ud.b h131).a [.n 5]).l (bK aC.c 2 (dc bB) rfl)).g (pM h133))
    obtain⟨h134,h⟩|⟨h134,h⟩:=aK h
    ·obtain⟨Ts,h136,h⟩:=aH h;obtain⟨h137,h⟩:=bf h;obtain⟨Dh,h139,h⟩:=aH h;obtain⟨h140,h⟩:=bf h;exact(((((((xg.b h134).g (fA h136)).w (cA h137)).l (bK aC.c 2 (dc bB) rfl)).g (fA h139)).w (cA h140)).a [.cn [0,3,5,6,7] [0,7]]).cs hZ cS (vP aD aa true (((bn.map aC.c)++([[aZ Ts.rel,bX (Ts.args.map tx)]]))++([[aZ Dh.rel,bX (Dh.args.map tx)]])) (IntKind.i64.wrap ((i1:Int)+1))) (by first| (simp only[iS bB hm1,mA]<;>rfl)| (simp only[iS bB hm1,mA,aC.c,aW.c,aS.c,Action.c,aN.c,aQ.c,ai.c,ah.c,Node.c,aF.c,di.c]<;>rfl)) (ih1 (i1+1) true ((bn++([Ts]))++([Dh])) (dn bB) h)
    ·obtain⟨XB,h142,h⟩:=aH h;obtain⟨h143,h⟩:=bf h;exact(((((xg.b h134).l (bK aC.c 2 (dc bB) rfl)).g (fA h142)).w (cA h143)).a [.cn [0,3,5,6,7] [0,4]]).cs hZ cS (vP aD aa true ((bn.map aC.c)++([[aZ XB.rel,bX (XB.args.map tx)]])) (IntKind.i64.wrap ((i1:Int)+1))) (by first| (simp only[iS bB hm1,mA]<;>rfl)| (simp only[iS bB hm1,mA,aC.c,aW.c,aS.c,Action.c,aN.c,aQ.c,ai.c,ah.c,Node.c,aF.c,di.c]<;>rfl)) (ih1 (i1+1) true (bn++([XB])) (dn bB) h)
   ·obtain⟨XC,h145,h⟩:=aH h;obtain⟨h146,h⟩:=bf h;exact(((((ud.b h131).l (bK aC.c 2 (dc bB) rfl)).g (fA h145)).w (cA h146)).a [.cn [0,3,5,6,7] [0,4]]).cs hZ cS (vP aD aa dX ((bn.map aC.c)++([[aZ XC.rel,bX (XC.args.map tx)]])) (IntKind.i64.wrap ((i1:Int)+1))) (by first| (simp only[iS bB hm1,mA]<;>rfl)| (simp only[iS bB hm1,mA,aC.c,aW.c,aS.c,Action.c,aN.c,aQ.c,ai.c,ah.c,Node.c,aF.c,di.c]<;>rfl)) (ih1 (i1+1) dX (bn++([XC])) (dn bB) h)
  ·obtain⟨Cu,h148,h⟩:=aH h;obtain⟨h149,h⟩:=bf h;exact((((((k6.r 8 h128).F 1).l (bK aC.c 2 (dc bB) rfl)).g (fA h148)).w (cA h149)).a [.cn [0,3,5,6,7] [0,4]]).cs hZ cS (vP aD aa dX ((bn.map aC.c)++([[aZ Cu.rel,bX (Cu.args.map tx)]])) (IntKind.i64.wrap ((i1:Int)+1))) (by first| (simp only[iS bB hm1,mA]<;>rfl)| (simp only[iS bB hm1,mA,aC.c,aW.c,aS.c,Action.c,aN.c,aQ.c,ai.c,ah.c,Node.c,aF.c,di.c]<;>rfl)) (ih1 (i1+1) dX (bn++([Cu])) (dn bB) h)
theorem sy{aD:aJ}{aa:aC}{r:aJ}(h:lW aD aa=some r):Good prog 67 [bX (aD.map aC.c),bw (aC.c aa)] (cW 43 2 (r.map aC.c)):=by
 refine gd func67 I9 54 fun hr Z hZ=>?_
 rw[lW]at h;refine(aY.a [.cn [0,3,5,6,7] [0,1]]).lp hZ (NT hZ (fun wV kP h=>?_) (by have:=(gY.sl (hr _ (aE (i:=0) rfl))).1;simpa using this) aD 0 false ([]:aJ) rfl h);obtain⟨h150,h⟩|⟨h150,h⟩:=aK h
 ·obtain⟨RW,h152,h⟩:=aH h;obtain⟨h153,h⟩:=bf h;cases h;exact(((aY.b h150).g (fA h152)).w (cA h153)).rts hZ (cW 43 2 ((kP.map aC.c)++([[aZ RW.rel,bX (RW.args.map tx)]]))) (by first|rfl| (simp only[mA]<;>rfl)| (simp only[cN,mA]<;>rfl))
 ·cases aM h;exact(aY.b h150).ret hZ
def j5(k1:bM->Int->Int->aJ->Option (ck×aJ)):Nat->Int->bM->Int->Int->aJ->Option (ck×aJ)
 |0,_,_,_,_,_=>none
 |n1+1,dX,fL,eL,eM,bn=>(bif decide ((dX:Int)>0)then((fP (⟨fL,eL,eM⟩:ck)).bind fun AD=>((lW bn AD.2).bind fun L7=>(j5 k1 n1 (IntKind.i64.wrap (dX-1)) AD.1.b AD.1.i AD.1.h L7)))else(k1 fL eL eM bn))
def qz(aD:ck)(aa:Int):Option (ck×aJ):=((cg aD (IntKind.i64.wrap (aa+1))).bind fun y1=>(j5 (fun(nD:bM) (nE:Int) (nF:Int) (kP:aJ)=>(some ((⟨nD,nE,nF⟩:ck),kP))) fuel y1.2 y1.1.b y1.1.i y1.1.h ([]:aJ)))
def Oj(jC:Value)(dX:Int)(eL:Int)(eM:Int)(W1:List aT)(W4:List aT):St:=⟨[(0,bp 0 0),(5,b9 1),(6,aB dX)],[Ob.CW [bX W1,aB eL,aB eM] jC,af 43 2 W4]⟩
theorem NU(hZ:Z.nt=21){jC:Value}{r:ck×aJ}{k1:bM->Int->Int->aJ->Option (ck×aJ)}(eC:∀(nD:bM) (nE:Int) (nF:Int) (kP:aJ),k1 nD nE nF kP=some r->Ax Z N f79 (.p Nn jC (ck.c r.1) (cW 43 2 (r.2.map aC.c))) [1,1,1] ⟨[(5,b9 1)],[Ob.CW [bX (nD.map yx),aB nE,aB nF] jC,af 43 2 (kP.map aC.c)]⟩):∀(n1:Nat) (dX:Int) (fL:bM) (eL:Int) (eM:Int) (bn:aJ),j5 k1 n1 dX fL eL eM bn=some r->Ar Z N f79 (.p Nn jC (ck.c r.1) (cW 43 2 (r.2.map aC.c))) [1,1,0,1,0] n1 (Oj jC dX eL eM (fL.map yx) (bn.map aC.c)):=by
 intro n
 induction n with
 |zero=>intro dX fL eL eM bn h;simp[j5]at h
 |succ n1 ih1=>
  intro dX fL eL eM bn h;rw[j5]at h;refine aV fun N1 cq cS=>?_
  obtain⟨h18,h⟩|⟨h18,h⟩:=aK h
  ·obtain⟨AD,h20,L7,h22,h⟩:=bR h;exact(((((aY.b h18).a [.gp jL (ck.c AD.1) (bw [aZ AD.2.rel,cW 9 1 (AD.2.args.map tx)])]).w (show j0 prog 113 (ck.c (⟨fL,eL,eM⟩:ck)) (ck.c AD.1) [] (bw [aZ AD.2.rel,cW 9 1 (AD.2.args.map tx)])from by simpa only[bI,bA,cF,cD,cI]using oy h20)).g (sy h22)).a [.cn [0,5,6] [0,3]]).cf hZ cS (ih1 (IntKind.i64.wrap (dX-1)) AD.1.b AD.1.i AD.1.h L7 h)
  ·exact((aY.b h18).a [.hl 0 [5] [0,1]]).ex hZ cq (eC fL eL eM bn h)
theorem zB{aD:ck}{aa:Int}{r:ck×aJ}(h:qz aD aa=some r):j0 prog 79 (ck.c aD) (ck.c r.1) [aB aa] (cW 43 2 (r.2.map aC.c)):=by
 refine L4 func79 Nn 21 [bX (aD.b.map yx),aB aD.i,aB aD.h] [aB aa] [] fun hr jC Z hZ=>?_
 rw[qz]at h;obtain⟨y1,h2,h⟩:=aH h;refine((aY.hp iy (cQ h2)).a [.cn [0,5,6] [0,1]]).lp hZ (NU hZ (fun nD nE nF kP h=>?_) fuel y1.2 y1.1.b y1.1.i y1.1.h ([]:aJ) h);cases h;exact aY.ret hZ
def ou(aD:aJ)(k1:aJ->Option aJ):aJ->Nat->aJ->Option aJ
 | [],i1,bY=>(k1 bY)
 |bg::cj,i1,bY=>((eF bg).bind fun qB=>(bif room ((bY.map aC.c).length+([[aZ qB.rel,bX (qB.args.map tx)]]).length) 40 then(ou aD k1 cj (i1+1) (bY++([qB])))else none))
def dO(aD:aJ):Option aJ:=(ou aD (fun(cM:aJ)=>(some cM)) aD 0 ([]:aJ))
def CB(aD:aJ)(W0:List aT)(dL:Int):St:=⟨[(0,bX (aD.map aC.c)),(3,b9 0),(4,aB dL)],[af 43 2 W0]⟩
theorem JR(hZ:Z.nt=21){aD:aJ}{r:aJ}{k1:aJ->Option aJ}(eC:∀(cM:aJ),k1 cM=some r->Ax Z N f38 (D0 r) [1,1,1] ⟨[(3,b9 0)],[af 43 2 (cM.map aC.c)]⟩)(hm1:aD.length<=maxLen):∀(rest:aJ) (i1:Nat) (bY:aJ),aD.drop i1=rest->ou aD k1 rest i1 bY=some r->Ar Z N f38 (D0 r) [1,1,0,1,0] (rest.length+1) (CB aD (bY.map aC.c) (i1:Int)):=by
 intro rest
 induction rest with
 |nil=>
  intro i1 bY bB h;rw[ou]at h;refine aV fun N1 cq cS=>?_
  exact((aY.ge aC.c bB).a [.hl 0 [3] [0]]).ex hZ cq (eC bY h)
 |cons bg cj ih1=>
  intro i1 bY bB h;rw[ou]at h;refine aV fun N1 cq cS=>?_
  obtain⟨qB,h28,h⟩:=aH h;obtain⟨h29,h⟩:=bf h;exact(((((aY.lt aC.c bB).l (bK aC.c 2 (dc bB) rfl)).g (fA h28)).w (cA h29)).a [.cn [0,3,4] [3]]).cs hZ cS (CB aD ((bY.map aC.c)++([[aZ qB.rel,bX (qB.args.map tx)]])) (IntKind.i64.wrap ((i1:Int)+1))) (by first| (simp only[iS bB hm1,mA]<;>rfl)| (simp only[iS bB hm1,mA,aC.c,aW.c,aS.c,Action.c,aN.c,aQ.c,ai.c,ah.c,Node.c,aF.c,di.c]<;>rfl)) (ih1 (i1+1) (bY++([qB])) (dn bB) h)
theorem dl{aD:aJ}{r:aJ}(h:dO aD=some r):Good prog 38 [bX (aD.map aC.c)] (cW 43 2 (r.map aC.c)):=by
 refine gd func38 I9 21 fun hr Z hZ=>?_
 rw[dO]at h;refine(aY.a [.cn [0,3,4] [0]]).lp hZ (JR hZ (fun cM h=>?_) (by have:=(gY.sl (hr _ (aE (i:=0) rfl))).1;simpa using this) aD 0 ([]:aJ) rfl h);cases aM h;exact aY.ret hZ
def rP(aD:aC)(k1:Option Bool):aI->Nat->Option Bool
 | [],i1=>(k1)
 |bg::cj,i1=>((gU bg).bind fun L7=>(bif !(L7)then(some false)else(rP aD k1 cj (i1+1))))
def rE(aD:aC):Option Bool:=(rP aD ((tS aD.rel).bind fun EY=>(bif EY then(some (decide ((((aD.args.map tx).length:Int):Int)<=3)))else(some false))) aD.args 0)
def NI(aD:aC)(dL:Int):St:=⟨[(1,bp 0 0),(3,aB dL)],[bu (aC.c aD)]⟩
theorem Lh(hZ:Z.nt=27){aD:aC}{r:Bool}{k1:Option Bool}(eC:k1=some r->Ax Z N f65 (.q bZ (bQ r)) [1,1] ⟨[(1,bp 0 0)],[bu (aC.c aD)]⟩)(hm1:aD.args.length<=maxLen):∀(rest:aI) (i1:Nat),aD.args.drop i1=rest->rP aD k1 rest i1=some r->Ar Z N f65 (.q bZ (bQ r)) [1,0,1,0] (rest.length+1) (NI aD (i1:Int)):=by
 intro rest
 induction rest with
 |nil=>
  intro i1 bB h;rw[rP]at h;refine aV fun N1 cq cS=>?_
  exact((aY.ge tx bB).a [.hl 0 [1] [0]]).ex hZ cq (eC h)
 |cons bg cj ih1=>
  intro i1 bB h;rw[rP]at h;refine aV fun N1 cq cS=>?_
  obtain⟨L7,h22,h⟩:=aH h;have fG:=(((aY.lt tx bB).l (bK tx 1 (dc bB) rfl)).g (ff h22))
  obtain⟨h23,h⟩|⟨h23,h⟩:=aK h
  ·cases aM h;exact(fG.b h23).ret hZ
  ·exact((fG.b h23).a [.cn [1,3] [0]]).ct hZ cS (iS bB hm1) (ih1 (i1+1) (dn bB) h)
theorem xz{aD:aC}{r:Bool}(h:rE aD=some r):Good prog 65 [bw (aC.c aD)] (bQ r):=by
 refine gd func65 bZ 27 fun hr Z hZ=>?_
 rw[rE]at h;refine(aY.a [.cn [1,3] [0]]).lp hZ (Lh hZ (fun h=>?_) (by have:=(gY.sl (gY.agg (hr _ (aE (i:=0) rfl)) (.sl (aD.args.map tx)) (by simp))).1;simpa using this) aD.args 0 rfl h);obtain⟨EY,h25,h⟩:=aH h;obtain⟨h26,h⟩|⟨h26,h⟩:=aK h
 ·cases h;exact((aY.g (ol h25)).r 5 h26).ret hZ
 ·cases aM h;exact((aY.g (ol h25)).r 5 h26).ret hZ
def kf(aD:aP)(k1:Option Bool):aP->Nat->Option Bool
 | [],i1=>(k1)
 |bg::cj,i1=>((iq bg.var).bind fun O6=>(bif !(O6)then(some false)else((gU bg.value).bind fun y52=>(bif !(y52)then(some false)else(bif decide (((i1:Int):Int)>0)then((gA aD (IntKind.i64.wrap ((i1:Int)-1))).bind fun x56=>(bif !(Op.bytesLess x56.var bg.var)then(some false)else(kf aD k1 cj (i1+1))))else(kf aD k1 cj (i1+1)))))))
def mZ(aD:aP):Option Bool:=(kf aD (some (decide ((((aD.map aW.c).length:Int):Int)<=6))) aD 0)
def JE(aD:aP)(dL:Int):St:=⟨[(0,bX (aD.map aW.c)),(3,aB dL)],[]⟩
theorem HU(hZ:Z.nt=47){aD:aP}{r:Bool}{k1:Option Bool}(eC:k1=some r->Ax Z N f158 (.q bZ (bQ r)) [1,1] ⟨[(0,bX (aD.map aW.c))],[]⟩)(hm1:aD.length<=maxLen):∀(rest:aP) (i1:Nat),aD.drop i1=rest->kf aD k1 rest i1=some r->Ar Z N f158 (.q bZ (bQ r)) [1,0,1,0] (rest.length+1) (JE aD (i1:Int)):=by
 intro rest
 induction rest with
 |nil=>
  intro i1 bB h;rw[kf]at h;refine aV fun N1 cq cS=>?_
  exact((aY.ge aW.c bB).a [.hl 0 [0] []]).ex hZ cq (eC h)
 |cons bg cj ih1=>
  intro i1 bB h;rw[kf]at h;refine aV fun N1 cq cS=>?_
  obtain⟨O6,h50,h⟩:=aH h;have ud:=((((aY.lt aW.c bB).a [.n 31]).l (bK aW.c 2 (dc bB) rfl)).g (gM h50))
  obtain⟨h51,h⟩|⟨h51,h⟩:=aK h
  ·cases aM h;exact((((ud.r 8 h51).T 3).a [bF,bF,bF,bF,bF,bF,bF,bF,bF,bF,bF,bF]).T 3).ret hZ
  ·obtain⟨y52,h53,h⟩:=aH h;have xg:=(((((ud.r 3 h51).l (bK aW.c 2 (dc bB) rfl)).r 3 h51).g (ff h53)).r 2 h51)
   obtain⟨h54,h⟩|⟨h54,h⟩:=aK h
   ·cases aM h;exact((((xg.r 3 h54).a [bF,bF,bF,bF,bF,bF,bF,bF,bF,bF,bF,bF]).r 2 h54).T 1).ret hZ
   ·have Ak:=(xg.r 3 h54)
    obtain⟨h55,h⟩|⟨h55,h⟩:=aK h
    ·obtain⟨x56,h57,h⟩:=aH h;have Fc:=((((((((Ak.r 4 h55).l (dW aW.c 2 h57 rfl)).r 5 h55).l (bK aW.c 2 (dc bB) rfl)).r 3 h55).b h54).b h55).b h54)
     obtain⟨h58,h⟩|⟨h58,h⟩:=aK h
     ·cases aM h;exact(Fc.b h58).ret hZ
     ·exact((Fc.b h58).a [.cn [0,3] []]).ct hZ cS (iS bB hm1) (ih1 (i1+1) (dn bB) h)
    ·exact((((((Ak.r 12 h55).b h54).b h55).b h54).F 1).a [.cn [0,3] []]).ct hZ cS (iS bB hm1) (ih1 (i1+1) (dn bB) h)
theorem oT{aD:aP}{r:Bool}(h:mZ aD=some r):Good prog 158 [bX (aD.map aW.c)] (bQ r):=by
 refine gd func158 bZ 47 fun hr Z hZ=>?_
 rw[mZ]at h;refine(aY.a [.cn [0,3] []]).lp hZ (HU hZ (fun h=>?_) (by have:=(gY.sl (hr _ (aE (i:=0) rfl))).1;simpa using this) aD 0 rfl h);cases h;exact aY.ret hZ
def tU(aD:aP):Option aP:=(bif room (([]:List aT).length+(aD.map aW.c).length) 32 then(some (([]:aP)++aD))else none)
theorem yC{aD:aP}{r:aP}(h:tU aD=some r):Good prog 159 [bX (aD.map aW.c)] (cW 113 2 (r.map aW.c)):=by
 refine gd func159 FL 6 fun hr Z hZ=>?_
 rw[tU]at h;obtain⟨h1,h⟩:=bf h;cases h;exact(((aY.w (cA h1)).w (show(∀r∈(aD.map aW.c),r.length=2)/\(true=true->D.jr (aD.map aW.c)=true)from⟨by first|simp| (intro r hr;obtain⟨x,_,rfl⟩:=cJ.1 (cO (fN hr));rfl),by simp[D.jr,D.flat]⟩)).a [.L5 2,.fl true]).rts hZ (cW 113 2 (([]:List aT)++(aD.map aW.c))) (by first|rfl| (simp only[mA]<;>rfl)| (simp only[cN,mA]<;>rfl))
def jK(aD:aP)(aa:Bytes)(k1:Option (Bytes×Bool)):aP->Nat->Option (Bytes×Bool)
 | [],i1=>(k1)
 |bg::cj,i1=>(bif (bg.var:Bytes)==aa then((iq aa).bind fun Dm=>(bif Dm then(some (bg.value,true))else(jK aD aa k1 cj (i1+1))))else(jK aD aa k1 cj (i1+1)))
def pg(aD:aP)(aa:Bytes):Option (Bytes×Bool):=((gU aa).bind fun y1=>(bif y1 then(some (aa,true))else(jK aD aa (some ([],false)) aD 0)))
def Lr(aD:aP)(aa:Bytes)(dL:Int):St:=⟨[(0,bX (aD.map aW.c)),(1,aZ aa),(6,aB dL)],[]⟩
def XH(r:Bytes×Bool):Kd:=.q OO (D.iz [aZ r.1,bQ r.2])
theorem KU(hZ:Z.nt=32){aD:aP}{aa:Bytes}{r:Bytes×Bool}{k1:Option (Bytes×Bool)}(eC:k1=some r->Ax Z N f87 (XH r) [1,1,1] ⟨[],[]⟩)(hm1:aD.length<=maxLen):∀(rest:aP) (i1:Nat),aD.drop i1=rest->jK aD aa k1 rest i1=some r->Ar Z N f87 (XH r) [1,1,0,1,0] (rest.length+1) (Lr aD aa (i1:Int)):=by
 intro rest
 induction rest with
 |nil=>
  intro i1 bB h;rw[jK]at h;refine aV fun N1 cq cS=>?_
  exact((aY.ge aW.c bB).a [.hl 0 [] []]).ex hZ cq (eC h)
 |cons bg cj ih1=>
  intro i1 bB h;rw[jK]at h;refine aV fun N1 cq cS=>?_
  have jR:=((aY.lt aW.c bB).l (bK aW.c 2 (dc bB) rfl))
  obtain⟨h28,h⟩|⟨h28,h⟩:=aK h
  ·obtain⟨Dm,h30,h⟩:=aH h;have k6:=(((jR.r 2 h28).g (gM h30)).b h28)
   obtain⟨h31,h⟩|⟨h31,h⟩:=aK h
   ·cases h;exact((k6.b h31).l (bK aW.c 2 (dc bB) rfl)).ret hZ
   ·exact((k6.b h31).a [.cn [0,1,6] []]).ct hZ cS (iS bB hm1) (ih1 (i1+1) (dn bB) h)
  ·exact(((jR.r 3 h28).F 1).a [.cn [0,1,6] []]).ct hZ cS (iS bB hm1) (ih1 (i1+1) (dn bB) h)
theorem tr{aD:aP}{aa:Bytes}{r:Bytes×Bool}(h:pg aD aa=some r):Good prog 87 [bX (aD.map aW.c),aZ aa] (D.iz [aZ r.1,bQ r.2]):=by
 refine gd func87 OO 32 fun hr Z hZ=>?_
 rw[pg]at h;obtain⟨y1,h2,h⟩:=aH h;obtain⟨h3,h⟩|⟨h3,h⟩:=aK h
 ·cases h;exact((aY.g (ff h2)).b h3).ret hZ
 ·refine(((aY.g (ff h2)).b h3).a [.cn [0,1,6] []]).lp hZ (KU hZ (fun h=>?_) (by have:=(gY.sl (hr _ (aE (i:=0) rfl))).1;simpa using this) aD 0 rfl h);cases h;exact aY.ret hZ
def oG(aD:aP)(aa:Bytes)(cv:Bytes)(k1:Bool->aP->Option aP):aP->Nat->Bool->aP->Option aP
 | [],i1,II,bY=>(k1 II bY)
 |bg::cj,i1,II,bY=>(bif !(II)then(bif !(Op.bytesLess bg.var aa||(bg.var:Bytes)==aa)then(bif room ((bY.map aW.c).length+([[aZ aa,aZ cv]]).length) 32 then(bif room (((bY.map aW.c)++([[aZ aa,aZ cv]])).length+([[aZ bg.var,aZ bg.value]]).length) 32 then(oG aD aa cv k1 cj (i1+1) true ((bY++([(⟨aa,cv⟩:aW)]))++([bg])))else none)else none)else(bif room ((bY.map aW.c).length+([[aZ bg.var,aZ bg.value]]).length) 32 then(oG aD aa cv k1 cj (i1+1) II (bY++([bg])))else none))else(bif room ((bY.map aW.c).length+([[aZ bg.var,aZ bg.value]]).length) 32 then(oG aD aa cv k1 cj (i1+1) II (bY++([bg])))else none))
def wk(aD:aP)(aa:Bytes)(cv:Bytes):Option aP:=(oG aD aa cv (fun(a3l:Bool) (cM:aP)=>(bif !(a3l)then(bif room ((cM.map aW.c).length+([[aZ aa,aZ cv]]).length) 32 then(some (cM++([(⟨aa,cv⟩:aW)])))else none)else(some cM))) aD 0 false ([]:aP))
def xm(aD:aP)(aa:Bytes)(cv:Bytes)(II:Bool)(W1:List aT)(dL:Int):St:=⟨[(0,bX (aD.map aW.c)),(1,aZ aa),(2,aZ cv),(7,b9 0),(8,bQ II),(9,aB dL)],[af 113 2 W1]⟩
theorem NV(hZ:Z.nt=50){aD:aP}{aa:Bytes}{cv:Bytes}{r:aP}{k1:Bool->aP->Option aP}(eC:∀(a3l:Bool) (cM:aP),k1 a3l cM=some r->Ax Z N f88 (LG r) [1,1,1,1] ⟨[(1,aZ aa),(2,aZ cv),(7,b9 0),(8,bQ a3l)],[af 113 2 (cM.map aW.c)]⟩)(hm1:aD.length<=maxLen):∀(rest:aP) (i1:Nat) (II:Bool) (bY:aP),aD.drop i1=rest->oG aD aa cv k1 rest i1 II bY=some r->Ar Z N f88 (LG r) [1,1,1,0,1,0] (rest.length+1) (xm aD aa cv II (bY.map aW.c) (i1:Int)):=by
 intro rest
 induction rest with
 |nil=>
  intro i1 II bY bB h;rw[oG]at h;refine aV fun N1 cq cS=>?_
  exact((aY.ge aW.c bB).a [.hl 0 [1,2,7,8] [0]]).ex hZ cq (eC II bY h)
 |cons bg cj ih1=>
  intro i1 II bY bB h;rw[oG]at h;refine aV fun N1 cq cS=>?_
  obtain⟨h48,h⟩|⟨h48,h⟩:=aK h
  ·have fG:=((((aY.lt aW.c bB).r 3 h48).l (bK aW.c 2 (dc bB) rfl)).r 5 h48)
   obtain⟨h49,h⟩|⟨h49,h⟩:=aK h
   ·obtain⟨h50,h⟩:=bf h;obtain⟨h51,h⟩:=bf h;exact(((((fG.b h49).w (cA h50)).l (bK aW.c 2 (dc bB) rfl)).w (cA h51)).a [.cn [0,1,2,7,8,9] [4]]).cs hZ cS (xm aD aa cv true (((bY.map aW.c)++([[aZ aa,aZ cv]]))++([[aZ bg.var,aZ bg.value]])) (IntKind.i64.wrap ((i1:Int)+1))) (by first| (simp only[iS bB hm1,mA]<;>rfl)| (simp only[iS bB hm1,mA,aC.c,aW.c,aS.c,Action.c,aN.c,aQ.c,ai.c,ah.c,Node.c,aF.c,di.c]<;>rfl)) (ih1 (i1+1) true ((bY++([(⟨aa,cv⟩:aW)]))++([bg])) (dn bB) h)
   ·obtain⟨h52,h⟩:=bf h;exact((((fG.b h49).l (bK aW.c 2 (dc bB) rfl)).w (cA h52)).a [.cn [0,1,2,7,8,9] [2]]).cs hZ cS (xm aD aa cv II ((bY.map aW.c)++([[aZ bg.var,aZ bg.value]])) (IntKind.i64.wrap ((i1:Int)+1))) (by first| (simp only[iS bB hm1,mA]<;>rfl)| (simp only[iS bB hm1,mA,aC.c,aW.c,aS.c,Action.c,aN.c,aQ.c,ai.c,ah.c,Node.c,aF.c,di.c]<;>rfl)) (ih1 (i1+1) II (bY++([bg])) (dn bB) h)
  ·obtain⟨h53,h⟩:=bf h;exact((((((aY.lt aW.c bB).r 8 h48).F 1).l (bK aW.c 2 (dc bB) rfl)).w (cA h53)).a [.cn [0,1,2,7,8,9] [2]]).cs hZ cS (xm aD aa cv II ((bY.map aW.c)++([[aZ bg.var,aZ bg.value]])) (IntKind.i64.wrap ((i1:Int)+1))) (by first| (simp only[iS bB hm1,mA]<;>rfl)| (simp only[iS bB hm1,mA,aC.c,aW.c,aS.c,Action.c,aN.c,aQ.c,ai.c,ah.c,Node.c,aF.c,di.c]<;>rfl)) (ih1 (i1+1) II (bY++([bg])) (dn bB) h)
theorem D6{aD:aP}{aa:Bytes}{cv:Bytes}{r:aP}(h:wk aD aa cv=some r):Good prog 88 [bX (aD.map aW.c),aZ aa,aZ cv] (cW 113 2 (r.map aW.c)):=by
 refine gd func88 FL 50 fun hr Z hZ=>?_
 rw[wk]at h;refine(aY.a [.cn [0,1,2,7,8,9] [0]]).lp hZ (NV hZ (fun a3l cM h=>?_) (by have:=(gY.sl (hr _ (aE (i:=0) rfl))).1;simpa using this) aD 0 false ([]:aP) rfl h);obtain⟨h54,h⟩|⟨h54,h⟩:=aK h
 ·obtain⟨h55,h⟩:=bf h;cases h;exact((aY.b h54).w (cA h55)).rts hZ (cW 113 2 ((cM.map aW.c)++([[aZ aa,aZ cv]]))) (by first|rfl| (simp only[mA]<;>rfl)| (simp only[cN,mA]<;>rfl))
 ·cases aM h;exact(aY.b h54).ret hZ
def vT(aD:aP)(aa:Bytes)(cv:Bytes):Option (aP×Bool):=((mZ aD).bind fun y1=>(bif !(y1)then(some (([]:aP),false))else((iq aa).bind fun y4=>(bif !(y4)then(some (([]:aP),false))else((gU cv).bind fun y7=>(bif !(y7)then(some (([]:aP),false))else((pg aD aa).bind fun GZ=>(bif GZ.2 then(bif (GZ.1:Bytes)==cv then((tU aD).bind fun Ai=>(some (Ai,true)))else(some (([]:aP),false)))else(bif (((aD.map aW.c).length:Int):Int)==6 then(some (([]:aP),false))else((wk aD aa cv).bind fun Ce=>(some (Ce,true))))))))))))
theorem KK{aD:aP}{aa:Bytes}{cv:Bytes}{r:aP×Bool}(h:vT aD aa cv=some r):Good prog 160 [bX (aD.map aW.c),aZ aa,aZ cv] (D.iz [cW 113 2 (r.1.map aW.c),bQ r.2]):=by
 refine gd func160 Qc 49 fun hr Z hZ=>?_
 rw[vT]at h;obtain⟨y1,h2,h⟩:=aH h;obtain⟨h3,h⟩|⟨h3,h⟩:=aK h
 ·cases h;exact(((aY.g (oT h2)).r 4 h3).T 5).ret hZ
 ·obtain⟨y4,h5,h⟩:=aH h;have lC:=((((aY.g (oT h2)).r 2 h3).g (gM h5)).r 2 h3)
  obtain⟨h6,h⟩|⟨h6,h⟩:=aK h
  ·cases h;exact((lC.r 4 h6).T 1).ret hZ
  ·obtain⟨y7,h8,h⟩:=aH h;have fG:=(((lC.r 2 h6).g (ff h8)).r 2 h6)
   obtain⟨h9,h⟩|⟨h9,h⟩:=aK h
   ·cases h;exact(fG.b h9).ret hZ
   ·obtain⟨GZ,h11,h⟩:=aH h;have jR:=((fG.b h9).g (tr h11))
    obtain⟨h12,h⟩|⟨h12,h⟩:=aK h
    ·have k6:=(jR.r 4 h12)
     obtain⟨h13,h⟩|⟨h13,h⟩:=aK h
     ·obtain⟨Ai,h15,h⟩:=aH h;cases h;exact((k6.b h13).g (yC h15)).ret hZ
     ·cases h;exact(((k6.b h13).r 4 h12).T 1).ret hZ
    ·have ud:=(((jR.r 4 h12).F 1).r 4 h12)
     obtain⟨h16,h⟩|⟨h16,h⟩:=aK h
     ·cases h;exact(ud.b h16).ret hZ
     ·obtain⟨Ce,h18,h⟩:=aH h;cases h;exact((ud.b h16).g (D6 h18)).ret hZ
def ko(aD:aC)(aa:aC)(k1:aP->Option (aP×Bool)):aI->Nat->aP->Option (aP×Bool)
 | [],i1,nk=>(k1 nk)
 |bg::cj,i1,nk=>((gU bg).bind fun y80=>(bif y80 then((gA aa.args (i1:Int)).bind fun x83=>(bif !((bg:Bytes)==x83)then(some (([]:aP),false))else(ko aD aa k1 cj (i1+1) nk)))else((gA aa.args (i1:Int)).bind fun x86=>((vT nk bg x86).bind fun y88=>(bif !(y88.2)then(some (([]:aP),false))else(ko aD aa k1 cj (i1+1) y88.1))))))
def kI(aD:aC)(aa:aC)(cv:aP):Option (aP×Bool):=((j9 aD).bind fun y1=>(bif !(y1)then(some (([]:aP),false))else((rE aa).bind fun y4=>(bif !(y4)then(some (([]:aP),false))else((mZ cv).bind fun y7=>(bif !(y7)then(some (([]:aP),false))else(bif !((aD.rel:Bytes)==aa.rel)then(some (([]:aP),false))else(bif (((aD.args.map tx).length:Int):Int) != ((aa.args.map tx).length:Int)then(some (([]:aP),false))else((tU cv).bind fun Ty=>(ko aD aa (fun(cM:aP)=>(some (cM,true))) aD.args 0 Ty))))))))))
def JI(aD:aC)(aa:aC)(W0:List aT)(dL:Int):St:=⟨[(3,bp 0 0),(4,bp 1 0),(8,b9 2),(9,aB dL)],[bu (aC.c aD),bu (aC.c aa),af 113 2 W0]⟩
def RZ(r:aP×Bool):Kd:=.q Qc (D.iz [cW 113 2 (r.1.map aW.c),bQ r.2])
theorem HY(hZ:Z.nt=89){aD:aC}{aa:aC}{r:aP×Bool}{k1:aP->Option (aP×Bool)}(eC:∀(cM:aP),k1 cM=some r->Ax Z N f96 (RZ r) [1,1,1,1] ⟨[(8,b9 0)],[af 113 2 (cM.map aW.c)]⟩)(hm1:aD.args.length<=maxLen):∀(rest:aI) (i1:Nat) (nk:aP),aD.args.drop i1=rest->ko aD aa k1 rest i1 nk=some r->Ar Z N f96 (RZ r) [1,1,1,0,1,0] (rest.length+1) (JI aD aa (nk.map aW.c) (i1:Int)):=by
 intro rest
 induction rest with
 |nil=>
  intro i1 nk bB h;rw[ko]at h;refine aV fun N1 cq cS=>?_
  exact((aY.ge tx bB).a [.hl 0 [8] [2]]).ex hZ cq (eC nk h)
 |cons bg cj ih1=>
  intro i1 nk bB h;rw[ko]at h;refine aV fun N1 cq cS=>?_
  obtain⟨y80,h81,h⟩:=aH h;have k6:=(((aY.lt tx bB).l (bK tx 1 (dc bB) rfl)).g (ff h81))
  obtain⟨h82,h⟩|⟨h82,h⟩:=aK h
  ·obtain⟨x83,h84,h⟩:=aH h;have ud:=((((k6.b h82).a [.n 10]).l (bK tx 1 (dc bB) rfl)).l (dW tx 1 h84 rfl))
   obtain⟨h85,h⟩|⟨h85,h⟩:=aK h
   ·cases h;exact(ud.b h85).ret hZ
   ·exact((ud.b h85).a [.cn [3,4,8,9] [0,1,2]]).ct hZ cS (iS bB hm1) (ih1 (i1+1) nk (dn bB) h)
  ·obtain⟨x86,h87,y88,h89,h⟩:=bR h;have xg:=(((((k6.b h82).a [.n 16]).l (bK tx 1 (dc bB) rfl)).l (dW tx 1 h87 rfl)).g (KK h89))
   obtain⟨h90,h⟩|⟨h90,h⟩:=aK h
   ·cases h;exact(xg.b h90).ret hZ
   ·exact((xg.b h90).a [.cn [3,4,8,9] [0,1,3]]).ct hZ cS (iS bB hm1) (ih1 (i1+1) y88.1 (dn bB) h)
theorem sA{aD:aC}{aa:aC}{cv:aP}{r:aP×Bool}(h:kI aD aa cv=some r):Good prog 96 [bw (aC.c aD),bw (aC.c aa),bX (cv.map aW.c)] (D.iz [cW 113 2 (r.1.map aW.c),bQ r.2]):=by
 refine gd func96 Qc 89 fun hr Z hZ=>?_
 rw[kI]at h;obtain⟨y1,h2,h⟩:=aH h;obtain⟨h3,h⟩|⟨h3,h⟩:=aK h
 ·cases h;exact(((aY.g (fo h2)).r 4 h3).T 19).ret hZ
 ·obtain⟨y4,h5,h⟩:=aH h;have Ak:=((((aY.g (fo h2)).r 2 h3).g (xz h5)).r 2 h3)
  obtain⟨h6,h⟩|⟨h6,h⟩:=aK h
  ·cases h;exact((Ak.r 4 h6).T 15).ret hZ
  ·obtain⟨y7,h8,h⟩:=aH h;have Fc:=(((Ak.r 2 h6).g (oT h8)).r 2 h6)
   obtain⟨h9,h⟩|⟨h9,h⟩:=aK h
   ·cases h;exact((Fc.r 6 h9).T 9).ret hZ
   ·have OP:=(Fc.r 6 h9)
    obtain⟨h10,h⟩|⟨h10,h⟩:=aK h
    ·cases h;exact((OP.r 8 h10).T 1).ret hZ
    ·have EP:=(OP.r 8 h10)
     obtain⟨h11,h⟩|⟨h11,h⟩:=aK h
     ·cases h;exact(EP.b h11).ret hZ
     ·obtain⟨Ty,h13,h⟩:=aH h;refine(((EP.b h11).g (yC h13)).a [.cn [3,4,8,9] [0,1,2]]).lp hZ (HY hZ (fun cM h=>?_) (by have:=(gY.sl (gY.agg (hr _ (aE (i:=0) rfl)) (.sl (aD.args.map tx)) (by simp))).1;simpa using this) aD.args 0 Ty rfl h);cases h;exact aY.ret hZ
def iE(aD:aC)(aa:aP)(cv:aJ)(k1:aJ->Option aJ):aJ->Nat->aJ->Option aJ
 | [],i1,bn=>(k1 bn)
 |bg::cj,i1,bn=>((kI aD bg aa).bind fun Va=>(bif Va.2 then((eF bg).bind fun BP=>(bif room ((bn.map aC.c).length+([[aZ BP.rel,bX (BP.args.map tx)]]).length) 40 then(iE aD aa cv k1 cj (i1+1) (bn++([BP])))else none))else(iE aD aa cv k1 cj (i1+1) bn)))
def gN(aD:aC)(aa:aP)(cv:aJ):Option aJ:=(iE aD aa cv (fun(cM:aJ)=>(some cM)) cv 0 ([]:aJ))
def yS(aD:aC)(aa:aP)(cv:aJ)(W0:List aT)(dL:Int):St:=⟨[(1,bX (aa.map aW.c)),(2,bX (cv.map aC.c)),(3,bp 0 0),(7,b9 1),(8,aB dL)],[bu (aC.c aD),af 43 2 W0]⟩
theorem DT(hZ:Z.nt=38){aD:aC}{aa:aP}{cv:aJ}{r:aJ}{k1:aJ->Option aJ}(eC:∀(cM:aJ),k1 cM=some r->Ax Z N f44 (D0 r) [1,1,1] ⟨[(7,b9 0)],[af 43 2 (cM.map aC.c)]⟩)(hm1:cv.length<=maxLen):∀(rest:aJ) (i1:Nat) (bn:aJ),cv.drop i1=rest->iE aD aa cv k1 rest i1 bn=some r->Ar Z N f44 (D0 r) [1,1,0,1,0] (rest.length+1) (yS aD aa cv (bn.map aC.c) (i1:Int)):=by
 intro rest
 induction rest with
 |nil=>
  intro i1 bn bB h;rw[iE]at h;refine aV fun N1 cq cS=>?_
  exact((aY.ge aC.c bB).a [.hl 0 [7] [1]]).ex hZ cq (eC bn h)
 |cons bg cj ih1=>
  intro i1 bn bB h;rw[iE]at h;refine aV fun N1 cq cS=>?_
  obtain⟨Va,h43,h⟩:=aH h;have fG:=((((aY.lt aC.c bB).a [.n 11]).l (bK aC.c 2 (dc bB) rfl)).g (sA h43))
  obtain⟨h44,h⟩|⟨h44,h⟩:=aK h
  ·obtain⟨BP,h46,h⟩:=aH h;obtain⟨h47,h⟩:=bf h;exact(((((fG.b h44).l (bK aC.c 2 (dc bB) rfl)).g (fA h46)).w (cA h47)).a [.cn [1,2,3,7,8] [0,5]]).cs hZ cS (yS aD aa cv ((bn.map aC.c)++([[aZ BP.rel,bX (BP.args.map tx)]])) (IntKind.i64.wrap ((i1:Int)+1))) (by first| (simp only[iS bB hm1,mA]<;>rfl)| (simp only[iS bB hm1,mA,aC.c,aW.c,aS.c,Action.c,aN.c,aQ.c,ai.c,ah.c,Node.c,aF.c,di.c]<;>rfl)) (ih1 (i1+1) (bn++([BP])) (dn bB) h)
  ·exact((fG.b h44).a [.cn [1,2,3,7,8] [0,1]]).ct hZ cS (iS bB hm1) (ih1 (i1+1) bn (dn bB) h)
theorem fE{aD:aC}{aa:aP}{cv:aJ}{r:aJ}(h:gN aD aa cv=some r):Good prog 44 [bw (aC.c aD),bX (aa.map aW.c),bX (cv.map aC.c)] (cW 43 2 (r.map aC.c)):=by
 refine gd func44 I9 38 fun hr Z hZ=>?_
 rw[gN]at h;refine(aY.a [.cn [1,2,3,7,8] [0,1]]).lp hZ (DT hZ (fun cM h=>?_) (by have:=(gY.sl (hr _ (aE (i:=2) rfl))).1;simpa using this) cv 0 ([]:aJ) rfl h);cases aM h;exact aY.ret hZ
def kJ(aD:aF)(k1:ay->Option ay):Nat->Int->ay->Option ay
 |0,_,_=>none
 |n1+1,yb,bn=>((mo yb 1 (IntKind.i64.wrap (((aD.nodes.map Node.c).length:Int)-1))).bind fun Cg=>(bif Cg then((gA aD.nodes yb).bind fun x31=>((lP x31.cond).bind fun uf=>(bif room (([[aB uf.kind,aZ uf.pat.rel,bX (uf.pat.args.map tx),aZ uf.left,aZ uf.right]]).length+(bn.map aS.c).length) 80 then(bif decide ((x31.parent:Int)>=yb)then(k1 (([uf])++bn))else(kJ aD k1 n1 x31.parent (([uf])++bn)))else none)))else(k1 bn)))
def vU(aD:aF)(aa:Int):Option ay:=(kJ aD (fun(cM:ay)=>(some cM)) fuel aa ([]:ay))
def E5(aD:aF)(yb:Int)(W1:List aT):St:=⟨[(1,aB yb),(2,bp 0 0),(5,b9 1)],[bu (aF.c aD),af 71 5 W1]⟩
theorem Lo(hZ:Z.nt=35){aD:aF}{r:ay}{k1:ay->Option ay}(eC:∀(cM:ay),k1 cM=some r->Ax Z N f47 (Oe r) [1,1,1] ⟨[(5,b9 0)],[af 71 5 (cM.map aS.c)]⟩):∀(n1:Nat) (yb:Int) (bn:ay),kJ aD k1 n1 yb bn=some r->Ar Z N f47 (Oe r) [1,1,0,0] n1 (E5 aD yb (bn.map aS.c)):=by
 intro n
 induction n with
 |zero=>intro yb bn h;simp[kJ]at h
 |succ n1 ih1=>
  intro yb bn h;rw[kJ]at h;refine aV fun N1 cq cS=>?_
  obtain⟨Cg,h29,h⟩:=aH h;obtain⟨h30,h⟩|⟨h30,h⟩:=aK h
  ·obtain⟨x31,h32,uf,h34,h⟩:=bR h;obtain⟨h35,h⟩:=bf h;have fG:=((((((aY.g (iG h29)).b h30).l (dW Node.c 8 h32 rfl)).g (rZ h34)).w (cA h35)).l (dW Node.c 8 h32 rfl))
   obtain⟨h36,h⟩|⟨h36,h⟩:=aK h
   ·exact((fG.b h36).a [.hl 0 [5] [4]]).exs hZ cq ⟨[(5,b9 0)],[af 71 5 (([[aB uf.kind,aZ uf.pat.rel,bX (uf.pat.args.map tx),aZ uf.left,aZ uf.right]])++(bn.map aS.c))]⟩ (by first| (simp only[mA]<;>rfl)| (simp only[mA,aC.c,aW.c,aS.c,Action.c,aN.c,aQ.c,ai.c,ah.c,Node.c,aF.c,di.c]<;>rfl)) (eC (([uf])++bn) h)
   ·exact((fG.b h36).a [.cn [1,2,5] [0,4]]).cs hZ cS (E5 aD x31.parent (([[aB uf.kind,aZ uf.pat.rel,bX (uf.pat.args.map tx),aZ uf.left,aZ uf.right]])++(bn.map aS.c))) (by first| (simp only[mA]<;>rfl)| (simp only[mA,aC.c,aW.c,aS.c,Action.c,aN.c,aQ.c,ai.c,ah.c,Node.c,aF.c,di.c]<;>rfl)) (ih1 x31.parent (([uf])++bn) h)
  ·exact(((aY.g (iG h29)).b h30).a [.hl 0 [5] [1]]).ex hZ cq (eC bn h)
theorem ul{aD:aF}{aa:Int}{r:ay}(h:vU aD aa=some r):Good prog 47 [bw (aF.c aD),aB aa] (cW 71 5 (r.map aS.c)):=by
 refine gd func47 [[some (71,5)]] 35 fun hr Z hZ=>?_
 rw[vU]at h;refine(aY.a [.cn [1,2,5] [0,1]]).lp hZ (Lo hZ (fun cM h=>?_) fuel aa ([]:ay) h);cases aM h;exact aY.ret hZ
def vM(aD:Bytes):Option Bool:=((oF aD).bind fun y1=>(some y1.2))
theorem AT{aD:Bytes}{r:Bool}(h:vM aD=some r):Good prog 226 [aZ aD] (bQ r):=by
 refine gd func226 bZ 11 fun hr Z hZ=>?_
 rw[vM]at h;obtain⟨y1,h2,h⟩:=aH h;cases h;exact(aY.g (sr h2)).ret hZ
def uP(aD:aS)(aa:aP):Option Bool:=((tT aD).bind fun y1=>(bif !(y1)then(some false)else((mZ aa).bind fun y4=>(bif !(y4)then(some false)else((pg aa aD.left).bind fun y7=>((pg aa aD.right).bind fun y9=>(bif !(y7.2)then(some false)else(bif !(y9.2)then(some false)else(bif (aD.kind:Int)==3 then(some ((y7.1:Bytes)==y9.1))else(bif (aD.kind:Int)==4 then(some (!((y7.1:Bytes)==y9.1)))else((vM y7.1).bind fun yM=>(bif yM then((vM y9.1).bind fun P3=>(bif P3 then((kZ y7.1 y9.1).bind fun L7=>(some (decide ((L7:Int)<0))))else(some false)))else(some false)))))))))))))
theorem GG{aD:aS}{aa:aP}{r:Bool}(h:uP aD aa=some r):Good prog 206 [bw (aS.c aD),bX (aa.map aW.c)] (bQ r):=by
 refine gd func206 bZ 61 fun hr Z hZ=>?_
 rw[uP]at h;obtain⟨y1,h2,h⟩:=aH h;obtain⟨h3,h⟩|⟨h3,h⟩:=aK h
 ·cases aM h;exact(((aY.g (uk h2)).r 4 h3).T 1).ret hZ
 ·obtain⟨y4,h5,h⟩:=aH h;have lC:=((((aY.g (uk h2)).r 2 h3).g (oT h5)).r 2 h3)
  obtain⟨h6,h⟩|⟨h6,h⟩:=aK h
  ·cases aM h;exact(lC.b h6).ret hZ
  ·obtain⟨y7,h8,y9,h10,h⟩:=bR h;have fG:=(((lC.b h6).g (tr h8)).g (tr h10))
   obtain⟨h11,h⟩|⟨h11,h⟩:=aK h
   ·cases aM h;exact((fG.r 3 h11).T 1).ret hZ
   ·have jR:=(fG.r 3 h11)
    obtain⟨h12,h⟩|⟨h12,h⟩:=aK h
    ·cases aM h;exact(jR.b h12).ret hZ
    ·obtain⟨h13,h⟩|⟨h13,h⟩:=aK h
     ·cases h;exact((jR.b h12).b h13).ret hZ
     ·have k6:=((jR.b h12).b h13)
      obtain⟨h14,h⟩|⟨h14,h⟩:=aK h
      ·cases h;exact(k6.b h14).ret hZ
      ·obtain⟨yM,h16,h⟩:=aH h;have ud:=((k6.b h14).g (AT h16))
       obtain⟨h17,h⟩|⟨h17,h⟩:=aK h
       ·obtain⟨P3,h19,h⟩:=aH h;have xg:=(((ud.r 2 h17).g (AT h19)).b h17)
        obtain⟨h20,h⟩|⟨h20,h⟩:=aK h
        ·obtain⟨L7,h22,h⟩:=aH h;cases h;exact(((xg.r 3 h20).g (xX h22)).r 2 h20).ret hZ
        ·cases aM h;exact(xg.r 5 h20).ret hZ
       ·cases aM h;exact((ud.r 3 h17).F 5).ret hZ
def uO(aD:aS)(aa:aP)(cv:aJ):Option Bool:=((rD aD).bind fun y1=>(bif !(y1)then(some false)else((mZ aa).bind fun y4=>(bif !(y4)then(some false)else(bif (aD.kind:Int)==1 then((gN aD.pat aa cv).bind fun y8=>(some (decide ((((y8.map aC.c).length:Int):Int)>0))))else(bif (aD.kind:Int)==2 then((gN aD.pat aa cv).bind fun yc=>(some ((((yc.map aC.c).length:Int):Int)==0)))else((uP aD aa).bind fun xO=>(some xO))))))))
theorem GF{aD:aS}{aa:aP}{cv:aJ}{r:Bool}(h:uO aD aa cv=some r):Good prog 161 [bw (aS.c aD),bX (aa.map aW.c),bX (cv.map aC.c)] (bQ r):=by
 refine gd func161 bZ 38 fun hr Z hZ=>?_
 rw[uO]at h;obtain⟨y1,h2,h⟩:=aH h;obtain⟨h3,h⟩|⟨h3,h⟩:=aK h
 ·cases aM h;exact(((aY.g (je h2)).r 4 h3).T 1).ret hZ
 ·obtain⟨y4,h5,h⟩:=aH h;have lC:=((((aY.g (je h2)).r 2 h3).g (oT h5)).r 2 h3)
  obtain⟨h6,h⟩|⟨h6,h⟩:=aK h
  ·cases aM h;exact(lC.b h6).ret hZ
  ·obtain⟨h7,h⟩|⟨h7,h⟩:=aK h
   ·obtain⟨y8,h9,h⟩:=aH h;cases h;exact(((lC.b h6).b h7).g (fE h9)).ret hZ
   ·have fG:=((lC.b h6).b h7)
    obtain⟨h10,h⟩|⟨h10,h⟩:=aK h
    ·obtain⟨yc,h12,h⟩:=aH h;cases h;exact((fG.b h10).g (fE h12)).ret hZ
    ·obtain⟨xO,h14,h⟩:=aH h;cases aM h;exact((fG.b h10).g (GG h14)).ret hZ
def tW(aD:aQ):Option aQ:=((dO aD.facts).bind fun y1=>((tU aD.bind).bind fun y3=>(some (⟨y1,y3⟩:aQ))))
theorem CI{aD:aQ}{r:aQ}(h:tW aD=some r):Good prog 162 [bw (aQ.c aD)] (bw [cW 43 2 (r.facts.map aC.c),cW 113 2 (r.bind.map aW.c)]):=by
 refine gd func162 [[some (43,2),some (113,2)]] 10 fun hr Z hZ=>?_
 rw[tW]at h;obtain⟨y1,h2,y3,h4,h⟩:=bR h;cases h;exact(((aY.a [.n 5]).g (dl h2)).g (yC h4)).ret hZ
def pF(aD:ar)(aa:aS)(cv:aJ)(i1:Nat)(bg:aQ)(k2:ar->Option ar):aJ->Nat->ar->Option ar
 | [],i2,fJ=>(k2 fJ)
 |jM::tL,i2,fJ=>((kI aa.pat jM bg.bind).bind fun a08=>(bif a08.2 then((dO bg.facts).bind fun a09=>((eF jM).bind fun Tt=>(bif room ((a09.map aC.c).length+([[aZ Tt.rel,bX (Tt.args.map tx)]]).length) 40 then(bif room ((fJ.map aQ.c).length+([[bX ((a09.map aC.c)++([[aZ Tt.rel,bX (Tt.args.map tx)]])),bX (a08.1.map aW.c)]]).length) 48 then(pF aD aa cv i1 bg k2 tL (i2+1) (fJ++([(⟨a09++([Tt]),a08.1⟩:aQ)])))else none)else none)))else(pF aD aa cv i1 bg k2 tL (i2+1) fJ)))
def jB(aD:ar)(aa:aS)(cv:aJ)(k1:ar->Option ar):ar->Nat->ar->Option ar
 | [],i1,bn=>(k1 bn)
 |bg::cj,i1,bn=>(bif (aa.kind:Int) != 1 then((uO aa bg.bind cv).bind fun Vb=>(bif Vb then((tW bg).bind fun XE=>(bif room ((bn.map aQ.c).length+([[bX (XE.facts.map aC.c),bX (XE.bind.map aW.c)]]).length) 48 then(jB aD aa cv k1 cj (i1+1) (bn++([XE])))else none))else(jB aD aa cv k1 cj (i1+1) bn)))else(bif decide (cv.length<=maxLen)then(pF aD aa cv i1 bg (fun(tY:ar)=>(jB aD aa cv k1 cj (i1+1) tY)) cv 0 bn)else none))
def tX(aD:ar)(aa:aS)(cv:aJ):Option ar:=(jB aD aa cv (fun(cM:ar)=>(some cM)) aD 0 ([]:ar))
def EA(aD:ar)(aa:aS)(cv:aJ)(W0:List aT)(dL:Int):St:=⟨[(0,bX (aD.map aQ.c)),(2,bX (cv.map aC.c)),(4,bp 0 0),(7,b9 1),(8,aB dL)],[bu (aS.c aa),af 77 2 W0]⟩
def EB(aD:ar)(aa:aS)(cv:aJ)(i1:Nat)(W0:List aT)(dL:Int):St:=⟨[(0,bX (aD.map aQ.c)),(2,bX (cv.map aC.c)),(4,bp 0 0),(7,b9 1),(8,aB (i1:Int)),(9,aB dL)],[bu (aS.c aa),af 77 2 W0]⟩
def B8(r:ar):Kd:=.q [[some (77,2)]] (cW 77 2 (r.map aQ.c))
theorem M4(hZ:Z.nt=79){aD:ar}{aa:aS}{cv:aJ}{i1:Nat}{bg:aQ}{r:ar}{k2:ar->Option ar}(zc:∀(tY:ar),k2 tY=some r->Ax Z N f98 (B8 r) [1,1,0,1,0,0,1,1] ⟨[(0,bX (aD.map aQ.c)),(2,bX (cv.map aC.c)),(4,bp 0 0),(7,b9 1),(8,aB (i1:Int))],[bu (aS.c aa),af 77 2 (tY.map aQ.c)]⟩)(hx1:(aD)[i1]?=some bg)(hm2:cv.length<=maxLen):∀(rest:aJ) (i2:Nat) (fJ:ar),cv.drop i2=rest->pF aD aa cv i1 bg k2 rest i2 fJ=some r->Ar Z N f98 (B8 r) [1,1,0,1,0,0,1,0,0,1,1,0] (rest.length+1) (EB aD aa cv i1 (fJ.map aQ.c) (i2:Int)):=by
 intro rest
 induction rest with
 |nil=>
  intro i2 fJ hd2 h;rw[pF]at h;refine aV fun N2 uY qt=>?_
  exact((aY.ge aC.c hd2).a [.hl 3 [0,2,4,7,8] [0,1]]).ex hZ uY (zc fJ h)
 |cons jM tL ih2=>
  intro i2 fJ hd2 h;rw[pF]at h;refine aV fun N2 uY qt=>?_
  obtain⟨a08,h652,h⟩:=aH h;have Mb:=(((((aY.lt aC.c hd2).a [.n 16]).l (bK aC.c 2 (dc hd2) rfl)).l (bK aQ.c 2 hx1 rfl)).g (sA h652))
  obtain⟨h653,h⟩|⟨h653,h⟩:=aK h
  ·obtain⟨a09,h660,Tt,h662,h⟩:=bR h;obtain⟨h663,h⟩:=bf h;obtain⟨h664,h⟩:=bf h;exact(((((((((Mb.b h653).a [.n2 [0,1,2,3,4,5,6,7,8,9,10,11,14,12,13,15,16,17,18] [0,1,2,3,4,5,6,7,8,9,10,11,13,14,12,15,16,17,18] 13 17 [0,12] [2,3,4,5,6]]).l (bK aQ.c 2 hx1 rfl)).g (dl h660)).l (bK aC.c 2 (dc hd2) rfl)).g (fA h662)).w (cA h663)).w (cA h664)).a [.cn [0,2,4,7,8,9] [0,8]]).cs hZ qt (EB aD aa cv i1 ((fJ.map aQ.c)++([[bX ((a09.map aC.c)++([[aZ Tt.rel,bX (Tt.args.map tx)]])),bX (a08.1.map aW.c)]])) (IntKind.i64.wrap ((i2:Int)+1))) (by first| (simp only[iS hd2 hm2,mA]<;>rfl)| (simp only[iS hd2 hm2,mA,aC.c,aW.c,aS.c,Action.c,aN.c,aQ.c,ai.c,ah.c,Node.c,aF.c,di.c]<;>rfl)) (ih2 (i2+1) (fJ++([(⟨a09++([Tt]),a08.1⟩:aQ)])) (dn hd2) h)
  ·exact((Mb.b h653).a [.cn [0,2,4,7,8,9] [0,1]]).ct hZ qt (iS hd2 hm2) (ih2 (i2+1) fJ (dn hd2) h)
theorem M3(hZ:Z.nt=79){aD:ar}{aa:aS}{cv:aJ}{r:ar}{k1:ar->Option ar}(eC:∀(cM:ar),k1 cM=some r->Ax Z N f98 (B8 r) [1,1,1] ⟨[(7,b9 0)],[af 77 2 (cM.map aQ.c)]⟩)(hm1:aD.length<=maxLen):∀(rest:ar) (i1:Nat) (bn:ar),aD.drop i1=rest->jB aD aa cv k1 rest i1 bn=some r->Ar Z N f98 (B8 r) [1,1,0,1,0] (rest.length+1) (EA aD aa cv (bn.map aQ.c) (i1:Int)):=by
 intro rest
 induction rest with
 |nil=>
  intro i1 bn bB h;rw[jB]at h;refine aV fun N1 cq cS=>?_
  exact((aY.ge aQ.c bB).a [.hl 0 [7] [1]]).ex hZ cq (eC bn h)
 |cons bg cj ih1=>
  intro i1 bn bB h;rw[jB]at h;refine aV fun N1 cq cS=>?_
  obtain⟨h563,h⟩|⟨h563,h⟩:=aK h
  ·obtain⟨Vb,h565,h⟩:=aH h;have Mc:=(((((aY.lt aQ.c bB).b h563).a [.n 7]).l (bK aQ.c 2 (dc bB) rfl)).g (GF h565))
   obtain⟨h566,h⟩|⟨h566,h⟩:=aK h
   ·obtain⟨XE,h568,h⟩:=aH h;obtain⟨h569,h⟩:=bf h;exact(((((Mc.b h566).l (bK aQ.c 2 (dc bB) rfl)).g (CI h568)).w (cA h569)).a [.cn [0,2,4,7,8] [0,5]]).cs hZ cS (EA aD aa cv ((bn.map aQ.c)++([[bX (XE.facts.map aC.c),bX (XE.bind.map aW.c)]])) (IntKind.i64.wrap ((i1:Int)+1))) (by first| (simp only[iS bB hm1,mA]<;>rfl)| (simp only[iS bB hm1,mA,aC.c,aW.c,aS.c,Action.c,aN.c,aQ.c,ai.c,ah.c,Node.c,aF.c,di.c]<;>rfl)) (ih1 (i1+1) (bn++([XE])) (dn bB) h)
   ·exact((Mc.b h566).a [.cn [0,2,4,7,8] [0,1]]).ct hZ cS (iS bB hm1) (ih1 (i1+1) bn (dn bB) h)
  ·obtain⟨h665,h⟩:=bf h;refine(((aY.lt aQ.c bB).b h563).a [.cn [0,2,4,7,8,9] [0,1]]).lp hZ (M4 hZ (fun tY h=>?_) ((drop_cons bB).1) (bh h665) cv 0 bn rfl h);exact(aY.a [.cn [0,2,4,7,8] [0,1]]).ct hZ cS (iS bB hm1) (ih1 (i1+1) tY (dn bB) h)
theorem ur{aD:ar}{aa:aS}{cv:aJ}{r:ar}(h:tX aD aa cv=some r):Good prog 98 [bX (aD.map aQ.c),bw (aS.c aa),bX (cv.map aC.c)] (cW 77 2 (r.map aQ.c)):=by
 refine gd func98 [[some (77,2)]] 79 fun hr Z hZ=>?_
 rw[tX]at h;refine(aY.a [.cn [0,2,4,7,8] [0,1]]).lp hZ (M3 hZ (fun cM h=>?_) (by have:=(gY.sl (hr _ (aE (i:=0) rfl))).1;simpa using this) aD 0 ([]:ar) rfl h);cases aM h;exact aY.ret hZ
def mL(aD:ay)(aa:aJ)(k1:ar->Option ar):ay->Nat->ar->Option ar
 | [],i1,bY=>(k1 bY)
 |bg::cj,i1,bY=>((tX bY bg aa).bind fun rV=>(mL aD aa k1 cj (i1+1) rV))
def qg(aD:ay)(aa:aJ):Option ar:=(mL aD aa (fun(cM:ar)=>(some cM)) aD 0 ([(⟨[],[]⟩:aQ)]))
def CJ(aD:ay)(aa:aJ)(W0:List aT)(dL:Int):St:=⟨[(0,bX (aD.map aS.c)),(1,bX (aa.map aC.c)),(5,b9 0),(6,aB dL)],[af 77 2 W0]⟩
theorem JW(hZ:Z.nt=23){aD:ay}{aa:aJ}{r:ar}{k1:ar->Option ar}(eC:∀(cM:ar),k1 cM=some r->Ax Z N f46 (B8 r) [1,1,1] ⟨[(5,b9 0)],[af 77 2 (cM.map aQ.c)]⟩)(hm1:aD.length<=maxLen):∀(rest:ay) (i1:Nat) (bY:ar),aD.drop i1=rest->mL aD aa k1 rest i1 bY=some r->Ar Z N f46 (B8 r) [1,1,0,1,0] (rest.length+1) (CJ aD aa (bY.map aQ.c) (i1:Int)):=by
 intro rest
 induction rest with
 |nil=>
  intro i1 bY bB h;rw[mL]at h;refine aV fun N1 cq cS=>?_
  exact((aY.ge aS.c bB).a [.hl 0 [5] [0]]).ex hZ cq (eC bY h)
 |cons bg cj ih1=>
  intro i1 bY bB h;rw[mL]at h;refine aV fun N1 cq cS=>?_
  obtain⟨rV,h23,h⟩:=aH h;exact((((aY.lt aS.c bB).l (bK aS.c 5 (dc bB) rfl)).g (ur h23)).a [.cn [0,1,5,6] [1]]).ct hZ cS (iS bB hm1) (ih1 (i1+1) rV (dn bB) h)
theorem AZ{aD:ay}{aa:aJ}{r:ar}(h:qg aD aa=some r):Good prog 46 [bX (aD.map aS.c),bX (aa.map aC.c)] (cW 77 2 (r.map aQ.c)):=by
 refine gd func46 [[some (77,2)]] 23 fun hr Z hZ=>?_
 rw[qg]at h;refine(aY.a [.cn [0,1,5,6] [0]]).lps hZ (CJ aD aa ([[bX ([]),bX ([])]]) 0) (by first| (simp only[mA]<;>rfl)| (simp only[mA,aC.c,aW.c,aS.c,Action.c,aN.c,aQ.c,ai.c,ah.c,Node.c,aF.c,di.c]<;>rfl)) (JW hZ (fun cM h=>?_) (by have:=(gY.sl (hr _ (aE (i:=0) rfl))).1;simpa using this) aD 0 ([(⟨[],[]⟩:aQ)]) rfl h);cases aM h;exact aY.ret hZ
def n8(aD:aF)(aa:aJ)(y1:aJ)(k1:bP->Option aF):Nat->Int->bP->Option aF
 |0,_,_=>none
 |n1+1,zM,nG=>(bif decide ((zM:Int)<((nG.map ah.c).length:Int))then((gA nG zM).bind fun x26=>((gN x26.shape ([]) aa).bind fun Cg=>(n8 aD aa y1 k1 n1 (IntKind.i64.wrap (zM+1)) (nG.set zM.toNat (⟨x26.shape,Cg⟩:ah)))))else(k1 nG))
def kM(aD:aF)(aa:aJ)(y1:aJ)(lX:bP)(k2:bN->Option aF):Nat->Int->bN->Option aF
 |0,_,_=>none
 |n2+1,ni,kR=>(bif decide ((ni:Int)<((kR.map Node.c).length:Int))then((vU (⟨aD.rules,aD.ends,lX,kR,y1,aD.cP⟩:aF) ni).bind fun y80=>((qg y80 aa).bind fun y82=>((gA kR ni).bind fun x84=>(kM aD aa y1 lX k2 n2 (IntKind.i64.wrap (ni+1)) (kR.set ni.toNat (⟨x84.parent,x84.cond,x84.cX,y82⟩:Node))))))else(k2 kR))
def vX(aD:aF)(aa:aJ):Option aF:=((dO aa).bind fun y1=>(n8 aD aa y1 (fun(lX:bP)=>(kM aD aa y1 lX (fun(nB:bN)=>(some (⟨aD.rules,aD.ends,lX,nB,y1,aD.cP⟩:aF))) fuel 0 aD.nodes)) fuel 0 aD.bG))
def EG(aD:aF)(aa:aJ)(y1:aJ)(zM:Int)(W1:List aT):St:=⟨[(1,b9 0),(2,bp 1 0),(4,bp 2 0),(5,aB zM)],[af 43 2 (aa.map aC.c),bu [b9 3,b9 4,b9 5,b9 6,b9 7,aB aD.cP],bu [D.nil,D.nil,D.nil,D.nil,D.nil,aB 0],af 63 4 (aD.rules.map aN.c),af 3 1 (aD.ends.map jN),af 83 3 W1,af 74 8 (aD.nodes.map Node.c),af 43 2 (y1.map aC.c)]⟩
def vq(r:aF):Kd:=.q zn (bw [cW 63 4 (r.rules.map aN.c),cW 3 1 (r.ends.map jN),cW 83 3 (r.bG.map ah.c),cW 74 8 (r.nodes.map Node.c),cW 43 2 (r.facts.map aC.c),aB r.cP])
theorem MB(hZ:Z.nt=48){aD:aF}{aa:aJ}{y1:aJ}{r:aF}{k1:bP->Option aF}(eC:∀(lX:bP),k1 lX=some r->Ax Z N f133 (vq r) [1,1,1] ⟨[(1,b9 0),(2,bp 1 0),(4,bp 2 0)],[af 43 2 (aa.map aC.c),bu [b9 3,b9 4,b9 5,b9 6,b9 7,aB aD.cP],bu [D.nil,D.nil,D.nil,D.nil,D.nil,aB 0],af 63 4 (aD.rules.map aN.c),af 3 1 (aD.ends.map jN),af 83 3 (lX.map ah.c),af 74 8 (aD.nodes.map Node.c),af 43 2 (y1.map aC.c)]⟩):∀(n1:Nat) (zM:Int) (nG:bP),n8 aD aa y1 k1 n1 zM nG=some r->Ar Z N f133 (vq r) [1,1,0,1,0] n1 (EG aD aa y1 zM (nG.map ah.c)):=by
 intro n
 induction n with
 |zero=>intro zM nG h;simp[n8]at h
 |succ n1 ih1=>
  intro zM nG h;rw[n8]at h;refine aV fun N1 cq cS=>?_
  obtain⟨h25,h⟩|⟨h25,h⟩:=aK h
  ·obtain⟨x26,h27,Cg,h29,h⟩:=bR h;exact(((((((((aY.b h25).a [.n 11]).i (fI ah.c 3 h27)).o 3 2 .uq (cL ah.c (dw h27))).a [.d (cW 43 2 (Cg.map aC.c))]).w (show Good prog 44 [bw (aC.c x26.shape),bX ([]),bX (aa.map aC.c)] (cW 43 2 (Cg.map aC.c))from by first| (simpa only[bI,bA,cF,cD,cI]using fE h29)|exact fE h29)).i (fI ah.c 3 h27)).w (show(nG.map ah.c)[zM.toNat]?=some [aZ x26.shape.rel,bX (x26.shape.args.map tx),bX (x26.facts.map aC.c)]from cL ah.c (dw h27))).a [.row [aZ x26.shape.rel,bX (x26.shape.args.map tx),bX (x26.facts.map aC.c)],.cn [1,2,4,5] [0,1,2,3,4,5,6,7]]).cs hZ cS (EG aD aa y1 (IntKind.i64.wrap (zM+1)) ((nG.map ah.c).set zM.toNat [aZ x26.shape.rel,bX (x26.shape.args.map tx),bX (Cg.map aC.c)])) (by first| (simp only[mA]<;>rfl)| (simp only[mA,aC.c,aW.c,aS.c,Action.c,aN.c,aQ.c,ai.c,ah.c,Node.c,aF.c,di.c]<;>rfl)) (ih1 (IntKind.i64.wrap (zM+1)) (nG.set zM.toNat (⟨x26.shape,Cg⟩:ah)) h)
  ·exact((aY.b h25).a [.hl 0 [1,2,4] [0,1,2,3,4,5,6,7]]).ex hZ cq (eC nG h)
def EH(aD:aF)(aa:aJ)(y1:aJ)(lX:bP)(ni:Int)(W1:List aT):St:=⟨[(1,b9 0),(2,bp 1 0),(4,bp 2 0),(6,aB ni)],[af 43 2 (aa.map aC.c),bu [b9 3,b9 4,b9 5,b9 6,b9 7,aB aD.cP],bu [D.nil,D.nil,D.nil,D.nil,D.nil,aB 0],af 63 4 (aD.rules.map aN.c),af 3 1 (aD.ends.map jN),af 83 3 (lX.map ah.c),af 74 8 W1,af 43 2 (y1.map aC.c)]⟩
theorem MC(hZ:Z.nt=48){aD:aF}{aa:aJ}{y1:aJ}{lX:bP}{r:aF}{k2:bN->Option aF}(zc:∀(nB:bN),k2 nB=some r->Ax Z N f133 (vq r) [1,1,1,1] ⟨[(2,bp 0 0),(4,bp 1 0)],[bu [b9 2,b9 3,b9 4,b9 5,b9 6,aB aD.cP],bu [D.nil,D.nil,D.nil,D.nil,D.nil,aB 0],af 63 4 (aD.rules.map aN.c),af 3 1 (aD.ends.map jN),af 83 3 (lX.map ah.c),af 74 8 (nB.map Node.c),af 43 2 (y1.map aC.c)]⟩):∀(n2:Nat) (ni:Int) (kR:bN),kM aD aa y1 lX k2 n2 ni kR=some r->Ar Z N f133 (vq r) [1,1,1,0,1,0] n2 (EH aD aa y1 lX ni (kR.map Node.c)):=by
 intro n
 induction n with
 |zero=>intro ni kR h;simp[kM]at h
 |succ n2 ih2=>
  intro ni kR h;rw[kM]at h;refine aV fun N2 uY qt=>?_
  obtain⟨h75,h⟩|⟨h75,h⟩:=aK h
  ·obtain⟨y80,h81,y82,h83,x84,h85,h⟩:=gX h;exact(((((((aY.b h75).a [.n2 [0,1,2,3,4,5,6,7,8,9,10] [0,1,2,3,4,5,6,7,8,9,10] 7 8 [0,1,2] [],.d (cW 71 5 (y80.map aS.c))]).w (show Good prog 47 [bw [bX (aD.rules.map aN.c),bX (aD.ends.map jN),bX (lX.map ah.c),bX (kR.map Node.c),bX (y1.map aC.c),aB aD.cP],aB ni] (cW 71 5 (y80.map aS.c))from by first| (simpa only[bI,bA,cF,cD,cI]using ul h81)|exact ul h81| (have t:=ul h81;simp only[bI,cD,cI,aF.c]at t;exact t))).g (AZ h83)).i (fI Node.c 8 h85)).w (show(kR.map Node.c)[ni.toNat]?=some [aB x84.parent,aB x84.cond.kind,aZ x84.cond.pat.rel,bX (x84.cond.pat.args.map tx),aZ x84.cond.left,aZ x84.cond.right,aB x84.cX,bX (x84.tokens.map aQ.c)]from cL Node.c (dw h85))).a [.row [aB x84.parent,aB x84.cond.kind,aZ x84.cond.pat.rel,bX (x84.cond.pat.args.map tx),aZ x84.cond.left,aZ x84.cond.right,aB x84.cX,bX (x84.tokens.map aQ.c)],.cn [1,2,4,6] [0,1,2,3,4,5,6,7]]).cs hZ qt (EH aD aa y1 lX (IntKind.i64.wrap (ni+1)) ((kR.map Node.c).set ni.toNat [aB x84.parent,aB x84.cond.kind,aZ x84.cond.pat.rel,bX (x84.cond.pat.args.map tx),aZ x84.cond.left,aZ x84.cond.right,aB x84.cX,bX (y82.map aQ.c)])) (by first| (simp only[mA]<;>rfl)| (simp only[mA,aC.c,aW.c,aS.c,Action.c,aN.c,aQ.c,ai.c,ah.c,Node.c,aF.c,di.c]<;>rfl)) (ih2 (IntKind.i64.wrap (ni+1)) (kR.set ni.toNat (⟨x84.parent,x84.cond,x84.cX,y82⟩:Node)) h)
  ·exact((aY.b h75).a [.hl 0 [2,4] [1,2,3,4,5,6,7]]).ex hZ uY (zc kR h)
theorem Kg{aD:aF}{aa:aJ}{r:aF}(h:vX aD aa=some r):LD prog 133 [bw [cW 63 4 (aD.rules.map aN.c),cW 3 1 (aD.ends.map jN),cW 83 3 (aD.bG.map ah.c),cW 74 8 (aD.nodes.map Node.c),cW 43 2 (aD.facts.map aC.c),aB aD.cP],cW 43 2 (aa.map aC.c)] (bw [cW 63 4 (r.rules.map aN.c),cW 3 1 (r.ends.map jN),cW 83 3 (r.bG.map ah.c),cW 74 8 (r.nodes.map Node.c),cW 43 2 (r.facts.map aC.c),aB r.cP]):=by
 refine gdF func133 zn 48 [bw [b9 0,b9 1,b9 2,b9 3,b9 4,aB aD.cP],b9 5] [af 63 4 (aD.rules.map aN.c),af 3 1 (aD.ends.map jN),af 83 3 (aD.bG.map ah.c),af 74 8 (aD.nodes.map Node.c),af 43 2 (aD.facts.map aC.c),af 43 2 (aa.map aC.c)] fun hr Z hZ=>?_
 rw[vX]at h;obtain⟨y1,h2,h⟩:=aH h;refine((aY.g (dl h2)).a [.cn [1,2,4,5] [5,6,7,0,1,2,3,8]]).lp hZ (MB hZ (fun lX h=>?_) fuel 0 aD.bG h);refine(aY.a [.cn [1,2,4,6] [0,1,2,3,4,5,6,7]]).lp hZ (MC hZ (fun nB h=>?_) fuel 0 aD.nodes h);cases h;exact aY.ret hZ
def vW(aD:ck):Option (ck×aF):=((zE aD 4).bind fun y1=>((ke y1.2).bind fun y3=>((qz y1.1 8).bind fun y7=>((vX y3.1 y7.2).bind fun y9=>((cg y7.1 50).bind fun yc=>(some (yc.1,(⟨y9.rules,y9.ends,y9.bG,y9.nodes,y9.facts,yc.2⟩:aF))))))))
theorem CK{aD:ck}{r:ck×aF}(h:vW aD=some r):j0 prog 75 (ck.c aD) (ck.c r.1) [] (bw [cW 63 4 (r.2.rules.map aN.c),cW 3 1 (r.2.ends.map jN),cW 83 3 (r.2.bG.map ah.c),cW 74 8 (r.2.nodes.map Node.c),cW 43 2 (r.2.facts.map aC.c),aB r.2.cP]):=by
 refine L4 func75 [[none,none,none],[some (63,4),some (3,1),some (83,3),some (74,8),some (43,2),none]] 19 [bX (aD.b.map yx),aB aD.i,aB aD.h] [] [] fun hr jC Z hZ=>?_
 rw[vW]at h;obtain⟨y1,h2,y3,h4,y7,h8,y9,h10,yc,h12,h⟩:=Ys h;cases h;exact((((((aY.hp iy (M2 h2)).g (tR h4)).a [.n2 [0,1,2,3,4] [0,1,2,3,4] 2 3 [0] [0]]).hp iy (zB h8)).hf [[some (63,4),some (3,1),some (83,3),some (74,8),some (43,2),none],[some (43,2)]] (Kg h10)).hp iy (cQ h12)).ret hZ
def nJ(aD:ck):Option (ck×Bytes):=((qy aD ([[97],[98],[111,110],[55],[49,48],[57,57,57,57],[49,48,48,48,48],[48,48,55],[48],[],[65],[63,120],[63,63],[63],[97,98,99,100,101,102,103,104],[97,98,99,100,101,102,103,104,105],[63,97,98,99,100,101,102,103,104],[97,45,98],[120,49],[49,120],[45,51]]:aI)).bind fun y1=>(some (y1.1,y1.2)))
theorem ot{aD:ck}{r:ck×Bytes}(h:nJ aD=some r):j0 prog 137 (ck.c aD) (ck.c r.1) [] (aZ r.2):=by
 refine L4 func137 iy 6 [bX (aD.b.map yx),aB aD.i,aB aD.h] [] [] fun hr jC Z hZ=>?_
 rw[nJ]at h;obtain⟨y1,h2,h⟩:=aH h;cases h;exact(aY.hp V6 (sw h2)).ret hZ
def lV(aD:ck):Option (ck×aC):=((fP aD).bind fun y1=>((cg y1.1 10).bind fun y3=>(bif (y3.2:Int)==0 then((nJ y3.1).bind fun y6=>(some (y6.1,(⟨y6.2,y1.2.args⟩:aC))))else(bif (y3.2:Int)==1 then((nJ y3.1).bind fun yc=>(bif room ((y1.2.args.map tx).length+([[aZ yc.2]]).length) 16 then(some (yc.1,(⟨y1.2.rel,y1.2.args++([yc.2])⟩:aC)))else none))else(bif (y3.2:Int)==2 then((cg y3.1 5).bind fun yM=>(bif decide (0<=(yM.2:Int))&&decide (yM.2.toNat<=(([[97],[98],[99],[97]]:aI).map tx).length)then(some (yM.1,(⟨y1.2.rel,([[97],[98],[99],[97]]:aI).take yM.2.toNat⟩:aC)))else none))else(some (y3.1,y1.2)))))))
theorem sx{aD:ck}{r:ck×aC}(h:lV aD=some r):j0 prog 112 (ck.c aD) (ck.c r.1) [] (bw [aZ r.2.rel,cW 9 1 (r.2.args.map tx)]):=by
 refine L4 func112 OM 30 [bX (aD.b.map yx),aB aD.i,aB aD.h] [] [] fun hr jC Z hZ=>?_
 rw[lV]at h;obtain⟨y1,h2,y3,h4,h⟩:=bR h;have lC:=((aY.hp jL (oy h2)).hp iy (cQ h4))
 obtain⟨h5,h⟩|⟨h5,h⟩:=aK h
 ·obtain⟨y6,h7,h⟩:=aH h;cases h;exact((lC.b h5).hp jL (ot h7)).ret hZ
 ·obtain⟨h8,h⟩|⟨h8,h⟩:=aK h
  ·obtain⟨yc,h12,h⟩:=aH h;obtain⟨h13,h⟩:=bf h;cases h;exact(((((lC.b h5).b h8).a [.n2 [0,1,2,3,4,5,6,7] [0,1,2,3,4,5,6,7] 3 5 [0,1] [0]]).hp jL (ot h12)).w (cA h13)).rts hZ (D.iz [bw [aZ y1.2.rel,cW 9 1 ((y1.2.args.map tx)++([[aZ yc.2]]))],bw [bX (yc.1.b.map yx),aB yc.1.i,aB yc.1.h],D.val jC]) (by first|rfl| (simp only[mA]<;>rfl)| (simp only[cN,mA]<;>rfl))
  ·have fG:=((lC.b h5).b h8)
   obtain⟨h14,h⟩|⟨h14,h⟩:=aK h
   ·obtain⟨yM,h16,h⟩:=aH h;obtain⟨h17,h⟩:=bf h;cases h;exact((((fG.b h14).hp iy (cQ h16)).w (Vt h17)).a [.cut 0 yM.2.toNat]).rts hZ (D.iz [bw [aZ y1.2.rel,cW 9 1 ((([[97],[98],[99],[97]]:aI).map tx).take yM.2.toNat)],bw [bX (yM.1.b.map yx),aB yM.1.i,aB yM.1.h],D.val jC]) (by first|rfl| (simp only[mA]<;>rfl)| (simp only[cN,mA]<;>rfl))
   ·cases h;exact(fG.b h14).ret hZ
def mq(y3:ck×Int)(k1:aJ->Option (ck×aJ)):Nat->Int->aJ->Option (ck×aJ)
 |0,_,_=>none
 |n1+1,qA,bn=>(bif decide ((qA:Int)<25)then((kG qA).bind fun IX=>((lW bn (⟨[110],[IX]⟩:aC)).bind fun uf=>(mq y3 k1 n1 (IntKind.i64.wrap (qA+1)) uf)))else(k1 bn))
def xZ(aD:ck):Option (ck×aJ):=((qz aD 6).bind fun y1=>((cg y1.1 8).bind fun y3=>(bif (y3.2:Int)==0 then((lV y3.1).bind fun y6=>(bif room ((y1.2.map aC.c).length+([[aZ y6.2.rel,bX (y6.2.args.map tx)]]).length) 40 then(some (y6.1,y1.2++([y6.2])))else none))else(bif (y3.2:Int)==1 then(mq y3 (fun(kP:aJ)=>((iv y3.1 ([23,24,25]:bM)).bind fun Fk=>(bif decide (0<=(Fk.2:Int))&&decide (Fk.2.toNat<=(kP.map aC.c).length)then(some (Fk.1,kP.take Fk.2.toNat))else none))) fuel 0 y1.2)else(some (y3.1,y1.2))))))
def NS(jC:Value)(y3:ck×Int)(qA:Int)(W1:List aT):St:=⟨[(0,bp 0 0),(3,b9 1),(4,aB qA)],[Ob.CW (ck.c y3.1) jC,af 43 2 W1]⟩
theorem Lv(hZ:Z.nt=34){jC:Value}{y3:ck×Int}{r:ck×aJ}{k1:aJ->Option (ck×aJ)}(eC:∀(kP:aJ),k1 kP=some r->Ax Z N f77 (.p Nn jC (ck.c r.1) (cW 43 2 (r.2.map aC.c))) [1,1,0,1,0,1,1,1,0,1] ⟨[(0,bp 0 0),(3,b9 1)],[Ob.CW (ck.c y3.1) jC,af 43 2 (kP.map aC.c)]⟩):∀(n1:Nat) (qA:Int) (bn:aJ),mq y3 k1 n1 qA bn=some r->Ar Z N f77 (.p Nn jC (ck.c r.1) (cW 43 2 (r.2.map aC.c))) [1,1,0,1,0,1,1,1,0,0,1,0] n1 (NS jC y3 qA (bn.map aC.c)):=by
 intro n
 induction n with
 |zero=>intro qA bn h;simp[mq]at h
 |succ n1 ih1=>
  intro qA bn h;rw[mq]at h;refine aV fun N1 cq cS=>?_
  obtain⟨h30,h⟩|⟨h30,h⟩:=aK h
  ·obtain⟨IX,h32,uf,h34,h⟩:=bR h;exact(((((aY.b h30).g (oS h32)).a [.d (cW 43 2 (uf.map aC.c))]).w (show Good prog 67 [bX (bn.map aC.c),bw [aZ ([110]),bX ([[aZ IX]])]] (cW 43 2 (uf.map aC.c))from by first| (simpa only[bI,bA,cF,cD,cI]using sy h34)|exact sy h34| (have t:=sy h34;simp only[bI,cD,cI,aC.c]at t;exact t))).a [.cn [0,3,4] [0,3]]).cf hZ cS (ih1 (IntKind.i64.wrap (qA+1)) uf h)
  ·exact((aY.b h30).a [.hl 2 [0,3] [0,1]]).ex hZ cq (eC bn h)
theorem KW{aD:ck}{r:ck×aJ}(h:xZ aD=some r):j0 prog 77 (ck.c aD) (ck.c r.1) [] (cW 43 2 (r.2.map aC.c)):=by
 refine L4 func77 Nn 34 [bX (aD.b.map yx),aB aD.i,aB aD.h] [] [] fun hr jC Z hZ=>?_
 rw[xZ]at h;obtain⟨y1,h2,y3,h4,h⟩:=bR h;have lC:=((aY.hp iy (zB h2)).hp iy (cQ h4))
 obtain⟨h5,h⟩|⟨h5,h⟩:=aK h
 ·obtain⟨y6,h7,h⟩:=aH h;obtain⟨h8,h⟩:=bf h;cases h;exact(((lC.b h5).hp jL (sx h7)).w (cA h8)).rts hZ (D.iz [cW 43 2 ((y1.2.map aC.c)++([[aZ y6.2.rel,bX (y6.2.args.map tx)]])),bw [bX (y6.1.b.map yx),aB y6.1.i,aB y6.1.h],D.val jC]) (by first|rfl| (simp only[mA]<;>rfl)| (simp only[cN,mA]<;>rfl))
 ·obtain⟨h9,h⟩|⟨h9,h⟩:=aK h
  ·refine(((lC.b h5).b h9).a [.cn [0,3,4] [0,1]]).lp hZ (Lv hZ (fun kP h=>?_) fuel 0 y1.2 h);obtain⟨Fk,h36,h⟩:=aH h;obtain⟨h37,h⟩:=bf h;cases h;exact(((aY.hp ON (lB h36)).w (Vt h37)).a [.cut 0 Fk.2.toNat]).rts hZ (D.iz [cW 43 2 ((kP.map aC.c).take Fk.2.toNat),bw [bX (Fk.1.b.map yx),aB Fk.1.i,aB Fk.1.h],D.val jC]) (by first|rfl| (simp only[mA]<;>rfl)| (simp only[cN,mA]<;>rfl))
  ·cases h;exact((lC.b h5).b h9).ret hZ
def wj(aD:ck):Option (ck×aC):=((jy aD).bind fun y1=>((cg y1.1 10).bind fun y3=>(bif (y3.2:Int)==0 then((nJ y3.1).bind fun y6=>(some (y6.1,(⟨y6.2,y1.2.args⟩:aC))))else(bif (y3.2:Int)==1 then((nJ y3.1).bind fun yc=>(bif room ((y1.2.args.map tx).length+([[aZ yc.2]]).length) 16 then(some (yc.1,(⟨y1.2.rel,y1.2.args++([yc.2])⟩:aC)))else none))else(bif (y3.2:Int)==2 then((cg y3.1 5).bind fun yM=>(bif decide (0<=(yM.2:Int))&&decide (yM.2.toNat<=(([[63,120],[63,120],[63,121],[63,120]]:aI).map tx).length)then(some (yM.1,(⟨y1.2.rel,([[63,120],[63,120],[63,121],[63,120]]:aI).take yM.2.toNat⟩:aC)))else none))else(some (y3.1,y1.2)))))))
theorem D5{aD:ck}{r:ck×aC}(h:wj aD=some r):j0 prog 139 (ck.c aD) (ck.c r.1) [] (bw [aZ r.2.rel,cW 9 1 (r.2.args.map tx)]):=by
 refine L4 func139 OM 30 [bX (aD.b.map yx),aB aD.i,aB aD.h] [] [] fun hr jC Z hZ=>?_
 rw[wj]at h;obtain⟨y1,h2,y3,h4,h⟩:=bR h;have lC:=((aY.hp jL (oz h2)).hp iy (cQ h4))
 obtain⟨h5,h⟩|⟨h5,h⟩:=aK h
 ·obtain⟨y6,h7,h⟩:=aH h;cases h;exact((lC.b h5).hp jL (ot h7)).ret hZ
 ·obtain⟨h8,h⟩|⟨h8,h⟩:=aK h
  ·obtain⟨yc,h12,h⟩:=aH h;obtain⟨h13,h⟩:=bf h;cases h;exact(((((lC.b h5).b h8).a [.n2 [0,1,2,3,4,5,6,7] [0,1,2,3,4,5,6,7] 3 5 [0,1] [0]]).hp jL (ot h12)).w (cA h13)).rts hZ (D.iz [bw [aZ y1.2.rel,cW 9 1 ((y1.2.args.map tx)++([[aZ yc.2]]))],bw [bX (yc.1.b.map yx),aB yc.1.i,aB yc.1.h],D.val jC]) (by first|rfl| (simp only[mA]<;>rfl)| (simp only[cN,mA]<;>rfl))
  ·have fG:=((lC.b h5).b h8)
   obtain⟨h14,h⟩|⟨h14,h⟩:=aK h
   ·obtain⟨yM,h16,h⟩:=aH h;obtain⟨h17,h⟩:=bf h;cases h;exact((((fG.b h14).hp iy (cQ h16)).w (Vt h17)).a [.cut 0 yM.2.toNat]).rts hZ (D.iz [bw [aZ y1.2.rel,cW 9 1 ((([[63,120],[63,120],[63,121],[63,120]]:aI).map tx).take yM.2.toNat)],bw [bX (yM.1.b.map yx),aB yM.1.i,aB yM.1.h],D.val jC]) (by first|rfl| (simp only[mA]<;>rfl)| (simp only[cN,mA]<;>rfl))
   ·cases h;exact(fG.b h14).ret hZ
def zC(aD:ck):Option (ck×aS):=((tV aD).bind fun y1=>((cg y1.1 12).bind fun y3=>(bif (y3.2:Int)==0 then((iv y3.1 ([0,1,3,5,6, -1]:bM)).bind fun y6=>(some (y6.1,(⟨y6.2,y1.2.pat,y1.2.left,y1.2.right⟩:aS))))else(bif (y3.2:Int)==1 then((nJ y3.1).bind fun y9=>(some (y9.1,(⟨y1.2.kind,y1.2.pat,y9.2,y1.2.right⟩:aS))))else(bif (y3.2:Int)==2 then((wj y3.1).bind fun Ty=>(some (Ty.1,(⟨y1.2.kind,Ty.2,y1.2.left,y1.2.right⟩:aS))))else(some (y3.1,y1.2)))))))
theorem Lx{aD:ck}{r:ck×aS}(h:zC aD=some r):j0 prog 138 (ck.c aD) (ck.c r.1) [] (bw [aB r.2.kind,aZ r.2.pat.rel,cW 9 1 (r.2.pat.args.map tx),aZ r.2.left,aZ r.2.right]):=by
 refine L4 func138 a2J 25 [bX (aD.b.map yx),aB aD.i,aB aD.h] [] [] fun hr jC Z hZ=>?_
 rw[zC]at h;obtain⟨y1,h2,y3,h4,h⟩:=bR h;have lC:=((aY.hp jL (CD h2)).hp iy (cQ h4))
 obtain⟨h5,h⟩|⟨h5,h⟩:=aK h
 ·obtain⟨y6,h7,h⟩:=aH h;cases h;exact((lC.b h5).hp ON (lB h7)).ret hZ
 ·obtain⟨h8,h⟩|⟨h8,h⟩:=aK h
  ·obtain⟨y9,h10,h⟩:=aH h;cases h;exact(((lC.b h5).b h8).hp jL (ot h10)).ret hZ
  ·have fG:=((lC.b h5).b h8)
   obtain⟨h11,h⟩|⟨h11,h⟩:=aK h
   ·obtain⟨Ty,h13,h⟩:=aH h;cases h;exact((fG.b h11).hp jL (D5 h13)).ret hZ
   ·cases h;exact(fG.b h11).ret hZ
def zD(aD:ck):Option (ck×aN):=((nK aD).bind fun y1=>((cg y1.1 14).bind fun y3=>(bif (y3.2:Int)==0 then((nJ y3.1).bind fun y6=>(some (y6.1,(⟨y6.2,y1.2.prio,y1.2.conds,y1.2.dD⟩:aN))))else(bif (y3.2:Int)==1 then((iv y3.1 ([-1,0,9,10]:bM)).bind fun y9=>(some (y9.1,(⟨y1.2.name,y9.2,y1.2.conds,y1.2.dD⟩:aN))))else(bif (y3.2:Int)==2 then((zC y3.1).bind fun Ai=>(bif room ((y1.2.conds.map aS.c).length+([[aB Ai.2.kind,aZ Ai.2.pat.rel,bX (Ai.2.pat.args.map tx),aZ Ai.2.left,aZ Ai.2.right]]).length) 80 then(some (Ai.1,(⟨y1.2.name,y1.2.prio,y1.2.conds++([Ai.2]),y1.2.dD⟩:aN)))else none))else(bif (y3.2:Int)==3 then((iv y3.1 ([0,1,2,3,4]:bM)).bind fun rV=>((wj rV.1).bind fun EY=>(bif room ((y1.2.dD.map Action.c).length+([[aB rV.2,aZ EY.2.rel,bX (EY.2.args.map tx)]]).length) 48 then(some (EY.1,(⟨y1.2.name,y1.2.prio,y1.2.conds,y1.2.dD++([(⟨rV.2,EY.2⟩:Action)])⟩:aN)))else none)))else(bif (y3.2:Int)==4 then((yG (y1.2.conds.map aS.c).length (some (aB 1)) none).bind fun p=>(fun l28 u29=>(some (y3.1,(⟨y1.2.name,y1.2.prio,(y1.2.conds.take u29).drop l28,y1.2.dD⟩:aN)))) p.1 p.2)else(bif (y3.2:Int)==5 then((yG (y1.2.dD.map Action.c).length (some (aB 1)) none).bind fun p=>(fun l32 u33=>(some (y3.1,(⟨y1.2.name,y1.2.prio,y1.2.conds,(y1.2.dD.take u33).drop l32⟩:aN)))) p.1 p.2)else(bif (y3.2:Int)==6 then((qy y3.1 ([[63,102],[63,97],[63,103]]:aI)).bind fun Oc=>((iv Oc.1 ([1,2]:bM)).bind fun P4=>((qy P4.1 ([[63,102],[63,120]]:aI)).bind fun XD=>(some (XD.1,(⟨y1.2.name,y1.2.prio,[(⟨1,(⟨[116],([[63,97],[63,98],[63,99]]:aI)⟩:aC),[],[]⟩:aS),(⟨1,(⟨[116],([[63,100],[63,101],Oc.2]:aI)⟩:aC),[],[]⟩:aS),(⟨P4.2,(⟨[117],[XD.2]⟩:aC),[],[]⟩:aS)],[(⟨3,(⟨[],[]⟩:aC)⟩:Action)]⟩:aN))))))else(some (y3.1,y1.2)))))))))))
theorem Lz{aD:ck}{r:ck×aN}(h:zD aD=some r):j0 prog 80 (ck.c aD) (ck.c r.1) [] (bw [aZ r.2.name,aB r.2.prio,bX (r.2.conds.map aS.c),bX (r.2.dD.map Action.c)]):=by
 refine L4 func80 [[none,none,none],[none,none,none,none]] 79 [bX (aD.b.map yx),aB aD.i,aB aD.h] [] [] fun hr jC Z hZ=>?_
 rw[zD]at h;obtain⟨y1,h2,y3,h4,h⟩:=bR h;have lC:=((aY.hp jL (CF h2)).hp iy (cQ h4))
 obtain⟨h5,h⟩|⟨h5,h⟩:=aK h
 ·obtain⟨y6,h7,h⟩:=aH h;cases h;exact(((lC.b h5).hp jL (ot h7)).a [.sk 2,.sk 3]).ret hZ
 ·obtain⟨h8,h⟩|⟨h8,h⟩:=aK h
  ·obtain⟨y9,h10,h⟩:=aH h;cases h;exact((((lC.b h5).b h8).hp ON (lB h10)).a [.sk 2,.sk 3]).ret hZ
  ·have fG:=((lC.b h5).b h8)
   obtain⟨h11,h⟩|⟨h11,h⟩:=aK h
   ·obtain⟨Ai,h15,h⟩:=aH h;obtain⟨h16,h⟩:=bf h;cases h;exact(((((fG.b h11).a [.n2 [0,1,2,3,4,5,6,7] [0,1,2,3,4,5,6,7] 3 5 [0,1] [0,5]]).hp jL (Lx h15)).w (cA h16)).a [.sk 7,.sk 3]).rts hZ (D.iz [bw [aZ y1.2.name,aB y1.2.prio,bX ((y1.2.conds.map aS.c)++([[aB Ai.2.kind,aZ Ai.2.pat.rel,bX (Ai.2.pat.args.map tx),aZ Ai.2.left,aZ Ai.2.right]])),bX (y1.2.dD.map Action.c)],bw [bX (Ai.1.b.map yx),aB Ai.1.i,aB Ai.1.h],D.val jC]) (by first|rfl| (simp only[mA]<;>rfl)| (simp only[cN,mA]<;>rfl))
   ·obtain⟨h17,h⟩|⟨h17,h⟩:=aK h
    ·obtain⟨rV,h23,EY,h25,h⟩:=bR h;obtain⟨h26,h⟩:=bf h;cases h;exact(((((((fG.b h11).b h17).a [.n2 [0,1,2,3,5,4,6,7,8,9,10,11] [0,1,2,3,5,4,6,7,8,9,10,11] 5 9 [0,1,4] [0,5,6]]).hp ON (lB h23)).hp jL (D5 h25)).w (cA h26)).a [.sk 2,.sk 8]).rts hZ (D.iz [bw [aZ y1.2.name,aB y1.2.prio,bX (y1.2.conds.map aS.c),bX ((y1.2.dD.map Action.c)++([[aB rV.2,aZ EY.2.rel,bX (EY.2.args.map tx)]]))],bw [bX (EY.1.b.map yx),aB EY.1.i,aB EY.1.h],D.val jC]) (by first|rfl| (simp only[mA]<;>rfl)| (simp only[cN,mA]<;>rfl))
    ·have jR:=((fG.b h11).b h17)
     obtain⟨h27,h⟩|⟨h27,h⟩:=aK h
     ·obtain⟨⟨l28,u29⟩,h30,h⟩:=aH h;cases h;exact(((jR.b h27).w (show yG (y1.2.conds.map aS.c).length (some (aB 1)) none=some (l28,u29)/\((y1.2.conds.map aS.c).all fun r=>r.length==5)=true from⟨h30,by simp[b8]⟩)).a [.fz,.cut l28 u29,.sk 3]).rts hZ (D.iz [bw [aZ y1.2.name,aB y1.2.prio,bX (((y1.2.conds.map aS.c).take u29).drop l28),bX (y1.2.dD.map Action.c)],bw [bX (y3.1.b.map yx),aB y3.1.i,aB y3.1.h],D.val jC]) (by first|rfl| (simp only[mA]<;>rfl)| (simp only[mA,cD]<;>rfl)| (simp only[cN,mA]<;>rfl))
     ·obtain⟨h31,h⟩|⟨h31,h⟩:=aK h
      ·obtain⟨⟨l32,u33⟩,h34,h⟩:=aH h;cases h;exact((((jR.b h27).b h31).w (show yG (y1.2.dD.map Action.c).length (some (aB 1)) none=some (l32,u33)/\((y1.2.dD.map Action.c).all fun r=>r.length==3)=true from⟨h34,by simp[b8]⟩)).a [.fz,.cut l32 u33,.sk 2]).rts hZ (D.iz [bw [aZ y1.2.name,aB y1.2.prio,bX (y1.2.conds.map aS.c),bX (((y1.2.dD.map Action.c).take u33).drop l32)],bw [bX (y3.1.b.map yx),aB y3.1.i,aB y3.1.h],D.val jC]) (by first|rfl| (simp only[mA]<;>rfl)| (simp only[mA,cD]<;>rfl)| (simp only[cN,mA]<;>rfl))
      ·have k6:=((jR.b h27).b h31)
       obtain⟨h35,h⟩|⟨h35,h⟩:=aK h
       ·obtain⟨Oc,h37,P4,h39,XD,h41,h⟩:=gX h;cases h;exact(((((k6.b h35).hp V6 (sw h37)).hp ON (lB h39)).hp V6 (sw h41)).a [.sk 11,.sk 12]).ret hZ
       ·cases h;exact((k6.b h35).a [.sk 2,.sk 3]).ret hZ
def zF(aD:ck):Option (ck×aF):=((vW aD).bind fun y1=>((cg y1.1 12).bind fun y3=>(bif (y3.2:Int)==0 then(some (y3.1,(⟨y1.2.rules,y1.2.ends,y1.2.bG,y1.2.nodes,y1.2.facts, -1⟩:aF)))else(bif (y3.2:Int)==1 then((xZ y3.1).bind fun y7=>(some (y7.1,(⟨y1.2.rules,y1.2.ends,y1.2.bG,y1.2.nodes,y7.2,y1.2.cP⟩:aF))))else(bif (y3.2:Int)==2 then((cg y3.1 ((y1.2.nodes.map Node.c).length:Int)).bind fun GZ=>((iv GZ.1 ([-1,0,1,2,99]:bM)).bind fun Ai=>((gA y1.2.nodes GZ.2).bind fun x16=>(some (Ai.1,(⟨y1.2.rules,y1.2.ends,y1.2.bG,y1.2.nodes.set GZ.2.toNat (⟨Ai.2,x16.cond,x16.cX,x16.tokens⟩:Node),y1.2.facts,y1.2.cP⟩:aF))))))else(bif (y3.2:Int)==3 then((cg y3.1 ((y1.2.nodes.map Node.c).length:Int)).bind fun AD=>((gA y1.2.nodes AD.2).bind fun x21=>((qz AD.1 1).bind fun y26=>(bif room ((x21.tokens.map aQ.c).length+([[bX (y26.2.map aC.c),bX ([])]]).length) 48 then(some (y26.1,(⟨y1.2.rules,y1.2.ends,y1.2.bG,y1.2.nodes.set AD.2.toNat (⟨x21.parent,x21.cond,x21.cX,x21.tokens++([(⟨y26.2,[]⟩:aQ)])⟩:Node),y1.2.facts,y1.2.cP⟩:aF)))else none))))else(bif (y3.2:Int)==4 then((zD y3.1).bind fun Jt=>(bif room ((y1.2.rules.map aN.c).length+([[aZ Jt.2.name,aB Jt.2.prio,bX (Jt.2.conds.map aS.c),bX (Jt.2.dD.map Action.c)]]).length) 72 then(some (Jt.1,(⟨y1.2.rules++([Jt.2]),y1.2.ends,y1.2.bG,y1.2.nodes,y1.2.facts,y1.2.cP⟩:aF)))else none))else(bif (y3.2:Int)==5 then(bif room ((y1.2.ends.map jN).length+([[aB 0]]).length) 8 then(some (y3.1,(⟨y1.2.rules,y1.2.ends++([0]),y1.2.bG,y1.2.nodes,y1.2.facts,y1.2.cP⟩:aF)))else none)else(some (y3.1,y1.2))))))))))
theorem M6{aD:ck}{r:ck×aF}(h:zF aD=some r):j0 prog 34 (ck.c aD) (ck.c r.1) [] (bw [bX (r.2.rules.map aN.c),cW 3 1 (r.2.ends.map jN),cW 83 3 (r.2.bG.map ah.c),cW 74 8 (r.2.nodes.map Node.c),cW 43 2 (r.2.facts.map aC.c),aB r.2.cP]):=by
 refine aEc func34 [[none,none,none],[none,some (3,1),some (83,3),some (74,8),some (43,2),none]] 73 [] fun hr jC Z hZ hO=>?_
 rw[zF]at h;obtain⟨y1,h2,y3,h4,h⟩:=bR h;have lC:=((aY.hp jL (CK h2)).hp iy (cQ h4))
 obtain⟨h5,h⟩|⟨h5,h⟩:=aK h
 ·cases h;exact((lC.b h5).a [.sk 2]).ret hZ
 ·obtain⟨h6,h⟩|⟨h6,h⟩:=aK h
  ·obtain⟨y7,h8,h⟩:=aH h;cases h;exact((((lC.b h5).b h6).hp jL (KW h8)).a [.sk 2]).ret hZ
  ·have fG:=((lC.b h5).b h6)
   obtain⟨h9,h⟩|⟨h9,h⟩:=aK h
   ·obtain⟨GZ,h11,Ai,h15,x16,h17,h⟩:=gX h;cases h;exact(((((((fG.b h9).hp iy (cQ h11)).a [.n2 [0,1,2,3,4,5,6,7,8] [0,1,2,3,4,5,6,7,8] 5 6 [0,1,2] [0,8]]).hp ON (lB h15)).i (fI Node.c 8 h17)).w (show(y1.2.nodes.map Node.c)[GZ.2.toNat]?=some [aB x16.parent,aB x16.cond.kind,aZ x16.cond.pat.rel,bX (x16.cond.pat.args.map tx),aZ x16.cond.left,aZ x16.cond.right,aB x16.cX,bX (x16.tokens.map aQ.c)]from cL Node.c (dw h17))).a [.row [aB x16.parent,aB x16.cond.kind,aZ x16.cond.pat.rel,bX (x16.cond.pat.args.map tx),aZ x16.cond.left,aZ x16.cond.right,aB x16.cX,bX (x16.tokens.map aQ.c)],.sk 2]).rts hZ (D.iz [bw [bX (y1.2.rules.map aN.c),cW 3 1 (y1.2.ends.map jN),cW 83 3 (y1.2.bG.map ah.c),cW 74 8 ((y1.2.nodes.map Node.c).set GZ.2.toNat [aB Ai.2,aB x16.cond.kind,aZ x16.cond.pat.rel,bX (x16.cond.pat.args.map tx),aZ x16.cond.left,aZ x16.cond.right,aB x16.cX,bX (x16.tokens.map aQ.c)]),cW 43 2 (y1.2.facts.map aC.c),aB y1.2.cP],bw [bX (Ai.1.b.map yx),aB Ai.1.i,aB Ai.1.h],D.val jC]) (by first|rfl| (simp only[mA]<;>rfl)| (simp only[cN,mA]<;>rfl))
   ·obtain⟨h18,h⟩|⟨h18,h⟩:=aK h
    ·obtain⟨AD,h20,x21,h22,h⟩:=bR h;refine((((fG.b h9).b h18).hp iy (cQ h20)).a [.hl 2 [0,2,3,5] [0,1,7,2,3,4,5,6]]).ex (N:=fun _ _=>False) (c':=(lc f34 [1,1,0,1,0,1,1,1,1,1,1,1,0,1])) (K':=(lk' f34 [1,1,0,1,0,1,1,1,1,1,1,1,0,1])) (K0:=(lk' f34 [1,1,0,1,0,1,1,1,1,1,1,1,0,1])) hZ (fun _ _=>rfl) (a4G (st:=⟨[(0,bp 0 0),(2,bp 1 0),(3,bp 2 0),(5,aB AD.2)],[Ob.CW (ck.c AD.1) jC,bu [D.nil,D.nil,D.nil,D.nil,D.nil,aB 0],bu [b9 3,b9 4,b9 5,b9 6,b9 7,aB y1.2.cP],af 63 4 (y1.2.rules.map aN.c),af 3 1 (y1.2.ends.map jN),af 83 3 (y1.2.bG.map ah.c),af 74 8 (y1.2.nodes.map Node.c),af 43 2 (y1.2.facts.map aC.c)]⟩) (m:=6) (e:=74) (sz:=8) (i:=AD.2.toNat) (off:=7) (e':=77) (sz':=2) (r:=Node.c x21) hO (a4k _) (cL Node.c (dw h22)) rfl rfl rfl rfl rfl rfl rfl rfl rfl ?_);obtain⟨y26,h27,h⟩:=aH h;obtain⟨h28,h⟩:=bf h;cases h;exact((((((((aY.w (show 8=8/\AD.2=((AD.2.toNat:Nat):Int)/\AD.2.toNat<((y1.2.nodes.map Node.c).set AD.2.toNat [aB x21.parent,aB x21.cond.kind,aZ x21.cond.pat.rel,bX (x21.cond.pat.args.map tx),aZ x21.cond.left,aZ x21.cond.right,aB x21.cX,D.any]).length from a6b Node.c 8 h22)).w (show 8=8/\(AD.2.toNat)*8+7=AD.2.toNat*8+7 from⟨rfl,rfl⟩)).a [.n2 [0,1,2,3,4,5,6,7,8,9,10,11,12,13,14,15,16] [0,1,2,3,4,5,6,7,8,9,10,11,12,13,14,15,16] 10 14 [0,1,2,3,4,5,6,7,8] [0,8,9,10],.ix AD.2.toNat,.hd]).hp iy (zB h27)).w (cA h28)).w (show 8=8/\AD.2=((AD.2.toNat:Nat):Int)/\AD.2.toNat<((y1.2.nodes.map Node.c).set AD.2.toNat [aB x21.parent,aB x21.cond.kind,aZ x21.cond.pat.rel,bX (x21.cond.pat.args.map tx),aZ x21.cond.left,aZ x21.cond.right,aB x21.cX,D.any]).length from a6b Node.c 8 h22)).w (show((y1.2.nodes.map Node.c).set AD.2.toNat [aB x21.parent,aB x21.cond.kind,aZ x21.cond.pat.rel,bX (x21.cond.pat.args.map tx),aZ x21.cond.left,aZ x21.cond.right,aB x21.cX,D.any])[AD.2.toNat]?=some [aB x21.parent,aB x21.cond.kind,aZ x21.cond.pat.rel,bX (x21.cond.pat.args.map tx),aZ x21.cond.left,aZ x21.cond.right,aB x21.cX,D.any]from aAj Node.c [aB x21.parent,aB x21.cond.kind,aZ x21.cond.pat.rel,bX (x21.cond.pat.args.map tx),aZ x21.cond.left,aZ x21.cond.right,aB x21.cX,D.any] h22)).a [.ix AD.2.toNat,.row [aB x21.parent,aB x21.cond.kind,aZ x21.cond.pat.rel,bX (x21.cond.pat.args.map tx),aZ x21.cond.left,aZ x21.cond.right,aB x21.cX,D.any],.sk 3]).rts hZ (D.iz [bw [bX (y1.2.rules.map aN.c),cW 3 1 (y1.2.ends.map jN),cW 83 3 (y1.2.bG.map ah.c),cW 74 8 (((y1.2.nodes.map Node.c).set AD.2.toNat [aB x21.parent,aB x21.cond.kind,aZ x21.cond.pat.rel,bX (x21.cond.pat.args.map tx),aZ x21.cond.left,aZ x21.cond.right,aB x21.cX,D.any]).set AD.2.toNat [aB x21.parent,aB x21.cond.kind,aZ x21.cond.pat.rel,bX (x21.cond.pat.args.map tx),aZ x21.cond.left,aZ x21.cond.right,aB x21.cX,bX ((x21.tokens.map aQ.c)++([[bX (y26.2.map aC.c),bX ([])]]))]),cW 43 2 (y1.2.facts.map aC.c),aB y1.2.cP],bw [bX (y26.1.b.map yx),aB y26.1.i,aB y26.1.h],D.val jC]) (by first|rfl| (simp only[mA]<;>rfl)| (simp only[mA,List.set_set,Node.c]<;>rfl)| (simp only[cN,mA]<;>rfl))
    ·have jR:=((fG.b h9).b h18)
     obtain⟨h29,h⟩|⟨h29,h⟩:=aK h
     ·obtain⟨Jt,h33,h⟩:=aH h;obtain⟨h34,h⟩:=bf h;cases h;exact((((jR.b h29).a [.n2 [0,1,2,3,4,5,6,7] [0,1,2,3,4,5,6,7] 3 5 [0,1] [0]]).hp jL (Lz h33)).w (cA h34)).rts hZ (D.iz [bw [bX ((y1.2.rules.map aN.c)++([[aZ Jt.2.name,aB Jt.2.prio,bX (Jt.2.conds.map aS.c),bX (Jt.2.dD.map Action.c)]])),cW 3 1 (y1.2.ends.map jN),cW 83 3 (y1.2.bG.map ah.c),cW 74 8 (y1.2.nodes.map Node.c),cW 43 2 (y1.2.facts.map aC.c),aB y1.2.cP],bw [bX (Jt.1.b.map yx),aB Jt.1.i,aB Jt.1.h],D.val jC]) (by first|rfl| (simp only[mA]<;>rfl)| (simp only[cN,mA]<;>rfl))
     ·obtain⟨h35,h⟩|⟨h35,h⟩:=aK h
      ·obtain⟨h36,h⟩:=bf h;cases h;exact((((jR.b h29).b h35).w (cA h36)).a [.sk 2]).rts hZ (D.iz [bw [bX (y1.2.rules.map aN.c),cW 3 1 ((y1.2.ends.map jN)++([[aB 0]])),cW 83 3 (y1.2.bG.map ah.c),cW 74 8 (y1.2.nodes.map Node.c),cW 43 2 (y1.2.facts.map aC.c),aB y1.2.cP],bw [bX (y3.1.b.map yx),aB y3.1.i,aB y3.1.h],D.val jC]) (by first|rfl| (simp only[mA]<;>rfl)| (simp only[cN,mA]<;>rfl))
      ·cases h;exact(((jR.b h29).b h35).a [.sk 2]).ret hZ
def iA(aD:Bytes)(k1:Option Bool):Nat->Int->Option Bool
 |0,_=>none
 |n1+1,oL=>(bif decide ((oL:Int)<(aD.length:Int))then((gA aD oL).bind fun b31=>(bif decide ((b31.toNat:Int)<97)then(bif decide ((b31.toNat:Int)<48)then(some false)else(bif decide ((b31.toNat:Int)>57)then(some false)else(iA aD k1 n1 (IntKind.i64.wrap (oL+1)))))else(bif decide ((b31.toNat:Int)>122)then(bif decide ((b31.toNat:Int)<48)then(some false)else(bif decide ((b31.toNat:Int)>57)then(some false)else(iA aD k1 n1 (IntKind.i64.wrap (oL+1)))))else(iA aD k1 n1 (IntKind.i64.wrap (oL+1))))))else(k1))
def gR(aD:Bytes):Option Bool:=(bif decide (((aD.length:Int):Int)<1)then(some false)else(bif decide (((aD.length:Int):Int)>8)then(some false)else(iA aD (some true) fuel 0)))
def NB(aD:Bytes)(oL:Int):St:=⟨[(0,aZ aD),(3,aB oL)],[]⟩
theorem LR(hZ:Z.nt=40){aD:Bytes}{r:Bool}{k1:Option Bool}(eC:k1=some r->Ax Z N f144 (.q bZ (bQ r)) [1,1,1] ⟨[],[]⟩):∀(n1:Nat) (oL:Int),iA aD k1 n1 oL=some r->Ar Z N f144 (.q bZ (bQ r)) [1,1,0,1,0] n1 (NB aD oL):=by
 intro n
 induction n with
 |zero=>intro oL h;simp[iA]at h
 |succ n1 ih1=>
  intro oL h;rw[iA]at h;refine aV fun N1 cq cS=>?_
  obtain⟨h30,h⟩|⟨h30,h⟩:=aK h
  ·obtain⟨b31,h32,h⟩:=aH h;have Ak:=((aY.b h30).c h32)
   obtain⟨h33,h⟩|⟨h33,h⟩:=aK h
   ·have Fc:=((((Ak.r 5 h33).T 3).c h32).T 2)
    obtain⟨h34,h⟩|⟨h34,h⟩:=aK h
    ·cases aM h;exact((((Fc.r 4 h34).T 1).b h34).T 2).ret hZ
    ·have OP:=((((((Fc.r 3 h34).c h32).b h34).T 1).b h34).T 1)
     obtain⟨h35,h⟩|⟨h35,h⟩:=aK h
     ·cases aM h;exact(OP.b h35).ret hZ
     ·exact((OP.b h35).a [.cn [0,3] []]).cf hZ cS (ih1 (IntKind.i64.wrap (oL+1)) h)
   ·have EP:=(((Ak.r 3 h33).c h32).r 2 h33)
    obtain⟨h36,h⟩|⟨h36,h⟩:=aK h
    ·have Ma:=(((EP.r 3 h36).c h32).r 2 h36)
     obtain⟨h37,h⟩|⟨h37,h⟩:=aK h
     ·cases aM h;exact(((((Ma.r 4 h37).b h36).b h37).b h36).T 1).ret hZ
     ·have Dc:=((((((Ma.r 3 h37).c h32).b h37).b h36).b h37).b h36)
      obtain⟨h38,h⟩|⟨h38,h⟩:=aK h
      ·cases aM h;exact(Dc.b h38).ret hZ
      ·exact((Dc.b h38).a [.cn [0,3] []]).cf hZ cS (ih1 (IntKind.i64.wrap (oL+1)) h)
    ·exact(((EP.r 7 h36).F 1).a [bF,bF,bF,bF,.cn [0,3] []]).cf hZ cS (ih1 (IntKind.i64.wrap (oL+1)) h)
  ·exact((aY.b h30).a [.hl 0 [] []]).ex hZ cq (eC h)
theorem fY{aD:Bytes}{r:Bool}(h:gR aD=some r):Good prog 144 [aZ aD] (bQ r):=by
 refine gd func144 bZ 40 fun hr Z hZ=>?_
 rw[gR]at h;obtain⟨h1,h⟩|⟨h1,h⟩:=aK h
 ·cases aM h;exact((aY.r 4 h1).T 1).ret hZ
 ·have Mb:=(aY.r 4 h1)
  obtain⟨h2,h⟩|⟨h2,h⟩:=aK h
  ·cases aM h;exact(Mb.b h2).ret hZ
  ·refine((Mb.b h2).a [.cn [0,3] []]).lp hZ (LR hZ (fun h=>?_) fuel 0 h);cases aM h;exact aY.ret hZ
def tQ(aD:Bytes):Option Bool:=((gR aD).bind fun y1=>(bif y1 then((gA aD 0).bind fun b4=>(some (decide ((b4.toNat:Int)>=97))))else(some false)))
theorem oV{aD:Bytes}{r:Bool}(h:tQ aD=some r):Good prog 163 [aZ aD] (bQ r):=by
 refine gd func163 bZ 10 fun hr Z hZ=>?_
 rw[tQ]at h;obtain⟨y1,h2,h⟩:=aH h;obtain⟨h3,h⟩|⟨h3,h⟩:=aK h
 ·obtain⟨b4,h5,h⟩:=aH h;cases h;exact((((aY.g (fY h2)).r 2 h3).c h5).r 2 h3).ret hZ
 ·cases aM h;exact((aY.g (fY h2)).r 4 h3).ret hZ
def nO(aD:Bytes):Option Bool:=(bif decide (((aD.length:Int):Int)>1)then((gA aD 0).bind fun b2=>(bif (b2.toNat:Int)==63 then((yG aD.length (some (aB 1)) none).bind fun p=>(fun l5 u6=>((gR ((aD.take u6).drop l5)).bind fun y8=>(some y8))) p.1 p.2)else(some false)))else(some false))
theorem qH{aD:Bytes}{r:Bool}(h:nO aD=some r):Good prog 145 [aZ aD] (bQ r):=by
 refine gd func145 bZ 16 fun hr Z hZ=>?_
 rw[nO]at h;obtain⟨h1,h⟩|⟨h1,h⟩:=aK h
 ·obtain⟨b2,h3,h⟩:=aH h;have lC:=(((aY.r 2 h1).c h3).r 2 h1)
  obtain⟨h4,h⟩|⟨h4,h⟩:=aK h
  ·obtain⟨⟨l5,u6⟩,h7,h⟩:=aH h;obtain⟨y8,h9,h⟩:=aH h;cases aM h;exact((((((lC.r 2 h4).w h7).a [.cut l5 u6]).b h4).g (fY h9)).b h4).ret hZ
  ·cases aM h;exact(lC.r 4 h4).ret hZ
 ·cases aM h;exact((aY.r 4 h1).F 4).ret hZ
def jv(aD:Bytes):Option Bool:=((gR aD).bind fun y1=>(bif y1 then(some true)else((nO aD).bind fun y4=>(some y4))))
theorem lm{aD:Bytes}{r:Bool}(h:jv aD=some r):Good prog 208 [aZ aD] (bQ r):=by
 refine gd func208 bZ 9 fun hr Z hZ=>?_
 rw[jv]at h;obtain⟨y1,h2,h⟩:=aH h;obtain⟨h3,h⟩|⟨h3,h⟩:=aK h
 ·cases aM h;exact((aY.g (fY h2)).r 3 h3).ret hZ
 ·obtain⟨y4,h5,h⟩:=aH h;cases aM h;exact((((aY.g (fY h2)).r 2 h3).g (qH h5)).b h3).ret hZ
def nv(aD:aC)(k1:Option Bool):aI->Nat->Option Bool
 | [],i1=>(k1)
 |bg::cj,i1=>((jv bg).bind fun xo=>(bif !(xo)then(some false)else(nv aD k1 cj (i1+1))))
def kC(aD:aC):Option Bool:=((tQ aD.rel).bind fun y1=>(bif !(y1)then(some false)else(bif decide ((((aD.args.map tx).length:Int):Int)>3)then(some false)else(nv aD (some true) aD.args 0))))
def Ii(aD:aC)(dL:Int):St:=⟨[(16,bX (aD.args.map tx)),(17,aB ((aD.args.map tx).length:Int)),(18,aB dL)],[]⟩
theorem Gx(hZ:Z.nt=26){aD:aC}{r:Bool}{k1:Option Bool}(eC:k1=some r->Ax Z N f207 (.q bZ (bQ r)) [1,1,1] ⟨[],[]⟩)(hm1:aD.args.length<=maxLen):∀(rest:aI) (i1:Nat),aD.args.drop i1=rest->nv aD k1 rest i1=some r->Ar Z N f207 (.q bZ (bQ r)) [1,1,0,1,0] (rest.length+1) (Ii aD (i1:Int)):=by
 intro rest
 induction rest with
 |nil=>
  intro i1 bB h;rw[nv]at h;refine aV fun N1 cq cS=>?_
  exact((aY.ge tx bB).a [.hl 0 [] []]).ex hZ cq (eC h)
 |cons bg cj ih1=>
  intro i1 bB h;rw[nv]at h;refine aV fun N1 cq cS=>?_
  obtain⟨xo,h26,h⟩:=aH h;have fG:=(((aY.lt tx bB).l (bK tx 1 (dc bB) rfl)).g (lm h26))
  obtain⟨h27,h⟩|⟨h27,h⟩:=aK h
  ·cases aM h;exact(fG.b h27).ret hZ
  ·exact((fG.b h27).a [.cn [16,17,18] []]).ct hZ cS (iS bB hm1) (ih1 (i1+1) (dn bB) h)
theorem lH{aD:aC}{r:Bool}(h:kC aD=some r):Good prog 207 [bw (aC.c aD)] (bQ r):=by
 refine gd func207 bZ 26 fun hr Z hZ=>?_
 rw[kC]at h;obtain⟨y1,h2,h⟩:=aH h;obtain⟨h3,h⟩|⟨h3,h⟩:=aK h
 ·cases aM h;exact(((aY.g (oV h2)).r 5 h3).T 1).ret hZ
 ·have jR:=((aY.g (oV h2)).r 5 h3)
  obtain⟨h4,h⟩|⟨h4,h⟩:=aK h
  ·cases aM h;exact(jR.b h4).ret hZ
  ·refine((jR.b h4).a [.cn [16,17,18] []]).lp hZ (Gx hZ (fun h=>?_) (by have:=(gY.sl (gY.agg (hr _ (aE (i:=0) rfl)) (.sl (aD.args.map tx)) (by simp))).1;simpa using this) aD.args 0 rfl h);cases aM h;exact aY.ret hZ
def jc(aD:aC):Option Bool:=(bif (aD.rel:Bytes)==([])then(some ((((aD.args.map tx).length:Int):Int)==0))else(some false))
theorem qO{aD:aC}{r:Bool}(h:jc aD=some r):Good prog 209 [bw (aC.c aD)] (bQ r):=by
 refine gd func209 bZ 12 fun hr Z hZ=>?_
 rw[jc]at h;obtain⟨h1,h⟩|⟨h1,h⟩:=aK h
 ·cases h;exact(aY.r 5 h1).ret hZ
 ·cases aM h;exact(aY.r 5 h1).ret hZ
def tP(aD:aS):Option Bool:=(bif (aD.kind:Int)==1 then((kC aD.pat).bind fun y2=>(bif y2 then(bif (aD.left:Bytes)==([])then(some ((aD.right:Bytes)==([])))else(some false))else(some false)))else(bif (aD.kind:Int)==2 then((kC aD.pat).bind fun y7=>(bif y7 then(bif (aD.left:Bytes)==([])then(some ((aD.right:Bytes)==([])))else(some false))else(some false)))else(bif (aD.kind:Int)==3 then((jv aD.left).bind fun Ty=>(bif Ty then((jv aD.right).bind fun yM=>(bif yM then((jc aD.pat).bind fun P3=>(some P3))else(some false)))else(some false)))else(bif (aD.kind:Int)==4 then((jv aD.left).bind fun L7=>(bif L7 then((jv aD.right).bind fun EY=>(bif EY then((jc aD.pat).bind fun qB=>(some qB))else(some false)))else(some false)))else(bif (aD.kind:Int)==5 then((jv aD.left).bind fun B5=>(bif B5 then((jv aD.right).bind fun uf=>(bif uf then((jc aD.pat).bind fun Oc=>(some Oc))else(some false)))else(some false)))else(some false))))))
theorem rW{aD:aS}{r:Bool}(h:tP aD=some r):Good prog 164 [bw (aS.c aD)] (bQ r):=by
 refine gd func164 bZ 38 fun hr Z hZ=>?_
 rw[tP]at h;obtain⟨h1,h⟩|⟨h1,h⟩:=aK h
 ·obtain⟨y2,h3,h⟩:=aH h;have lC:=((aY.r 2 h1).g (lH h3))
  obtain⟨h4,h⟩|⟨h4,h⟩:=aK h
  ·have fG:=(lC.r 4 h4)
   obtain⟨h5,h⟩|⟨h5,h⟩:=aK h
   ·cases h;exact(fG.r 4 h5).ret hZ
   ·cases aM h;exact(fG.r 4 h5).ret hZ
  ·cases aM h;exact((lC.r 4 h4).F 4).ret hZ
 ·obtain⟨h6,h⟩|⟨h6,h⟩:=aK h
  ·obtain⟨y7,h8,h⟩:=aH h;have jR:=(((aY.b h1).b h6).g (lH h8))
   obtain⟨h9,h⟩|⟨h9,h⟩:=aK h
   ·have k6:=(jR.r 4 h9)
    obtain⟨h10,h⟩|⟨h10,h⟩:=aK h
    ·cases h;exact(k6.r 4 h10).ret hZ
    ·cases aM h;exact(k6.r 4 h10).ret hZ
   ·cases aM h;exact((jR.r 4 h9).F 4).ret hZ
  ·have ud:=((aY.b h1).b h6)
   obtain⟨h11,h⟩|⟨h11,h⟩:=aK h
   ·obtain⟨Ty,h13,h⟩:=aH h;have xg:=((ud.r 2 h11).g (lm h13))
    obtain⟨h14,h⟩|⟨h14,h⟩:=aK h
    ·obtain⟨yM,h16,h⟩:=aH h;have Ak:=(((xg.r 3 h14).g (lm h16)).b h14)
     obtain⟨h17,h⟩|⟨h17,h⟩:=aK h
     ·obtain⟨P3,h19,h⟩:=aH h;cases aM h;exact(((Ak.r 3 h17).g (qO h19)).b h17).ret hZ
     ·cases aM h;exact(Ak.r 4 h17).ret hZ
    ·cases aM h;exact((xg.r 4 h14).F 4).ret hZ
   ·obtain⟨h20,h⟩|⟨h20,h⟩:=aK h
    ·obtain⟨L7,h22,h⟩:=aH h;have Fc:=(((ud.b h11).r 2 h20).g (lm h22))
     obtain⟨h23,h⟩|⟨h23,h⟩:=aK h
     ·obtain⟨EY,h25,h⟩:=aH h;have OP:=(((Fc.r 3 h23).g (lm h25)).b h23)
      obtain⟨h26,h⟩|⟨h26,h⟩:=aK h
      ·obtain⟨qB,h28,h⟩:=aH h;cases aM h;exact(((OP.r 3 h26).g (qO h28)).b h26).ret hZ
      ·cases aM h;exact(OP.r 4 h26).ret hZ
     ·cases aM h;exact((Fc.r 4 h23).F 4).ret hZ
    ·have EP:=((ud.b h11).b h20)
     obtain⟨h29,h⟩|⟨h29,h⟩:=aK h
     ·obtain⟨B5,h31,h⟩:=aH h;have Ma:=((EP.b h29).g (lm h31))
      obtain⟨h32,h⟩|⟨h32,h⟩:=aK h
      ·obtain⟨uf,h34,h⟩:=aH h;have Dc:=(((Ma.r 3 h32).g (lm h34)).b h32)
       obtain⟨h35,h⟩|⟨h35,h⟩:=aK h
       ·obtain⟨Oc,h37,h⟩:=aH h;cases aM h;exact(((Dc.r 3 h35).g (qO h37)).b h35).ret hZ
       ·cases aM h;exact(Dc.r 4 h35).ret hZ
      ·cases aM h;exact((Ma.r 4 h32).F 4).ret hZ
     ·cases aM h;exact(EP.b h29).ret hZ
def gq(aD:aI)(k1:aI->Option aI):aI->Nat->aI->Option aI
 | [],i1,bY=>(k1 bY)
 |bg::cj,i1,bY=>((nO bg).bind fun Jt=>(bif Jt then(bif room ((bY.map tx).length+([[aZ bg]]).length) 16 then(gq aD k1 cj (i1+1) (bY++([bg])))else none)else(gq aD k1 cj (i1+1) bY)))
def oh(aD:aI):Option aI:=(gq aD (fun(cM:aI)=>(some cM)) aD 0 ([]:aI))
def BJ(aD:aI)(W0:List aT)(dL:Int):St:=⟨[(3,b9 0),(6,bX (aD.map tx)),(7,aB ((aD.map tx).length:Int)),(8,aB dL)],[af 9 1 W0]⟩
theorem HM(hZ:Z.nt=20){aD:aI}{r:aI}{k1:aI->Option aI}(eC:∀(cM:aI),k1 cM=some r->Ax Z N f168 (AG r) [1,1,1] ⟨[(3,b9 0)],[af 9 1 (cM.map tx)]⟩)(hm1:aD.length<=maxLen):∀(rest:aI) (i1:Nat) (bY:aI),aD.drop i1=rest->gq aD k1 rest i1 bY=some r->Ar Z N f168 (AG r) [1,1,0,1,0] (rest.length+1) (BJ aD (bY.map tx) (i1:Int)):=by
 intro rest
 induction rest with
 |nil=>
  intro i1 bY bB h;rw[gq]at h;refine aV fun N1 cq cS=>?_
  exact((aY.ge tx bB).a [.hl 0 [3] [0]]).ex hZ cq (eC bY h)
 |cons bg cj ih1=>
  intro i1 bY bB h;rw[gq]at h;refine aV fun N1 cq cS=>?_
  obtain⟨Jt,h33,h⟩:=aH h;have fG:=(((aY.lt tx bB).l (bK tx 1 (dc bB) rfl)).g (qH h33))
  obtain⟨h34,h⟩|⟨h34,h⟩:=aK h
  ·obtain⟨h35,h⟩:=bf h;exact(((fG.b h34).w (cA h35)).a [.cn [3,6,7,8] [2]]).cs hZ cS (BJ aD ((bY.map tx)++([[aZ bg]])) (IntKind.i64.wrap ((i1:Int)+1))) (by first| (simp only[iS bB hm1,mA]<;>rfl)| (simp only[iS bB hm1,mA,aC.c,aW.c,aS.c,Action.c,aN.c,aQ.c,ai.c,ah.c,Node.c,aF.c,di.c]<;>rfl)) (ih1 (i1+1) (bY++([bg])) (dn bB) h)
  ·exact((fG.b h34).a [.cn [3,6,7,8] [0]]).ct hZ cS (iS bB hm1) (ih1 (i1+1) bY (dn bB) h)
theorem vh{aD:aI}{r:aI}(h:oh aD=some r):Good prog 168 [bX (aD.map tx)] (cW 9 1 (r.map tx)):=by
 refine gd func168 CU 20 fun hr Z hZ=>?_
 rw[oh]at h;refine(aY.a [.L5 3,.cn [3,6,7,8] [0]]).lp hZ (HM hZ (fun cM h=>?_) (by have:=(gY.sl (hr _ (aE (i:=0) rfl))).1;simpa using this) aD 0 ([]:aI) rfl h);cases aM h;exact aY.ret hZ
def er(aD:aI)(k1:aI->Option aI):aI->Nat->aI->Option aI
 | [],i1,bn=>(k1 bn)
 |bg::cj,i1,bn=>(bif ((i1:Int):Int)==0 then(bif room ((bn.map tx).length+([[aZ bg]]).length) 16 then(er aD k1 cj (i1+1) (bn++([bg])))else none)else((gA (qR (([]:aI)++aD)) (IntKind.i64.wrap ((i1:Int)-1))).bind fun x47=>(bif !((x47:Bytes)==bg)then(bif room ((bn.map tx).length+([[aZ bg]]).length) 16 then(er aD k1 cj (i1+1) (bn++([bg])))else none)else(er aD k1 cj (i1+1) bn))))
def lu(aD:aI):Option aI:=(bif room (([]:List aT).length+(aD.map tx).length) 16 then(bif decide ((([]:aI)++aD).length<4611686018427387904)then(bif decide ((qR (([]:aI)++aD)).length<=maxLen)then(er aD (fun(cM:aI)=>(some cM)) (qR (([]:aI)++aD)) 0 ([]:aI))else none)else none)else none)
def vf(aD:aI)(W0:List aT)(dL:Int):St:=⟨[(3,b9 0),(4,b9 1),(11,b9 0),(12,aB (((qR (([]:aI)++aD)).map tx).length:Int)),(13,aB dL)],[af 9 1 ((qR (([]:aI)++aD)).map tx),af 9 1 W0]⟩
theorem Es(hZ:Z.nt=35){aD:aI}{r:aI}{k1:aI->Option aI}(eC:∀(cM:aI),k1 cM=some r->Ax Z N f170 (AG r) [1,1,1,1,1] ⟨[(4,b9 0)],[af 9 1 (cM.map tx)]⟩)(hm1:(qR (([]:aI)++aD)).length<=maxLen):∀(rest:aI) (i1:Nat) (bn:aI),(qR (([]:aI)++aD)).drop i1=rest->er aD k1 rest i1 bn=some r->Ar Z N f170 (AG r) [1,1,1,1,0,1,0] (rest.length+1) (vf aD (bn.map tx) (i1:Int)):=by
 intro rest
 induction rest with
 |nil=>
  intro i1 bn bB h;rw[er]at h;refine aV fun N1 cq cS=>?_
  exact((aY.ge tx bB).a [.hl 0 [4] [1]]).ex hZ cq (eC bn h)
 |cons bg cj ih1=>
  intro i1 bn bB h;rw[er]at h;refine aV fun N1 cq cS=>?_
  have jR:=(((aY.lt tx bB).i (fH tx 1 (dc bB))).o 1 1 .uq (cL tx (dc bB)))
  obtain⟨h45,h⟩|⟨h45,h⟩:=aK h
  ·obtain⟨h46,h⟩:=bf h;exact((((jR.r 8 h45).T 1).w (cA h46)).a [.cn [3,4,11,12,13] [0,3]]).cs hZ cS (vf aD ((bn.map tx)++([[aZ bg]])) (IntKind.i64.wrap ((i1:Int)+1))) (by first| (simp only[iS bB hm1,mA]<;>rfl)| (simp only[iS bB hm1,mA,aC.c,aW.c,aS.c,Action.c,aN.c,aQ.c,ai.c,ah.c,Node.c,aF.c,di.c]<;>rfl)) (ih1 (i1+1) (bn++([bg])) (dn bB) h)
  ·obtain⟨x47,h48,h⟩:=aH h;have k6:=(((((jR.r 4 h45).i (fI tx 1 h48)).b h45).o 1 1 .uq (cL tx (dw h48))).r 3 h45)
   obtain⟨h49,h⟩|⟨h49,h⟩:=aK h
   ·obtain⟨h50,h⟩:=bf h;exact(((k6.b h49).w (cA h50)).a [.cn [3,4,11,12,13] [0,3]]).cs hZ cS (vf aD ((bn.map tx)++([[aZ bg]])) (IntKind.i64.wrap ((i1:Int)+1))) (by first| (simp only[iS bB hm1,mA]<;>rfl)| (simp only[iS bB hm1,mA,aC.c,aW.c,aS.c,Action.c,aN.c,aQ.c,ai.c,ah.c,Node.c,aF.c,di.c]<;>rfl)) (ih1 (i1+1) (bn++([bg])) (dn bB) h)
   ·exact((k6.b h49).a [.cn [3,4,11,12,13] [0,1]]).ct hZ cS (iS bB hm1) (ih1 (i1+1) bn (dn bB) h)
theorem uE{aD:aI}{r:aI}(h:lu aD=some r):Good prog 170 [bX (aD.map tx)] (cW 9 1 (r.map tx)):=by
 refine gd func170 CU 35 fun hr Z hZ=>?_
 rw[lu]at h;obtain⟨h1,h⟩:=bf h;obtain⟨h2,h⟩:=bf h;obtain⟨h51,h⟩:=bf h;refine(((((aY.w (cA h1)).w (show(∀r∈(aD.map tx),r.length=1)/\(true=true->D.jr (aD.map tx)=true)from⟨by first|simp| (intro r hr;obtain⟨x,_,rfl⟩:=cJ.1 (cO (fN hr));rfl),by simp[D.jr,D.flat]⟩)).w (show(([]:List aT)++(aD.map tx)).flatten.all D.flat=true from by simpa only[bI,bA,cF]using UZ (([]:aI)++aD))).w (show U2 prog 212 9 1 (([]:List aT)++(aD.map tx)) ((qR (([]:aI)++aD)).map tx)from by simpa only[bI,bA,cF]using(J6 (e:=9) (bh h2)))).a [.fl true,.mu 0 ((qR (([]:aI)++aD)).map tx),.L5 4,.cn [3,4,11,12,13] [0,1]]).lp hZ (Es hZ (fun cM h=>?_) (bh h51) (qR (([]:aI)++aD)) 0 ([]:aI) rfl h);cases aM h;exact aY.ret hZ
def fw(aD:aN)(aa:Int)(k1:aI->Option aI):ay->Nat->aI->Option aI
 | [],i1,bY=>(k1 bY)
 |bg::cj,i1,bY=>(bif decide (((i1:Int):Int)<aa)then(bif (bg.kind:Int)==1 then((oh bg.pat.args).bind fun FQ=>(bif room ((bY.map tx).length+(FQ.map tx).length) 16 then(fw aD aa k1 cj (i1+1) (bY++FQ))else none))else(fw aD aa k1 cj (i1+1) bY))else(fw aD aa k1 cj (i1+1) bY))
def rL(aD:aN)(aa:Int):Option aI:=(fw aD aa (fun(cM:aI)=>((lu cM).bind fun Va=>(some Va))) aD.conds 0 ([]:aI))
def BC(aD:aN)(aa:Int)(W0:List aT)(dL:Int):St:=⟨[(1,aB aa),(5,b9 0),(9,bX (aD.conds.map aS.c)),(10,aB ((aD.conds.map aS.c).length:Int)),(11,aB dL)],[af 9 1 W0]⟩
theorem Gt(hZ:Z.nt=33){aD:aN}{aa:Int}{r:aI}{k1:aI->Option aI}(eC:∀(cM:aI),k1 cM=some r->Ax Z N f166 (AG r) [1,1,1] ⟨[(5,b9 0)],[af 9 1 (cM.map tx)]⟩)(hm1:aD.conds.length<=maxLen):∀(rest:ay) (i1:Nat) (bY:aI),aD.conds.drop i1=rest->fw aD aa k1 rest i1 bY=some r->Ar Z N f166 (AG r) [1,1,0,1,0] (rest.length+1) (BC aD aa (bY.map tx) (i1:Int)):=by
 intro rest
 induction rest with
 |nil=>
  intro i1 bY bB h;rw[fw]at h;refine aV fun N1 cq cS=>?_
  exact((aY.ge aS.c bB).a [.hl 0 [5] [0]]).ex hZ cq (eC bY h)
 |cons bg cj ih1=>
  intro i1 bY bB h;rw[fw]at h;refine aV fun N1 cq cS=>?_
  have jR:=((aY.lt aS.c bB).l (bK aS.c 5 (dc bB) rfl))
  obtain⟨h37,h⟩|⟨h37,h⟩:=aK h
  ·have k6:=(jR.r 4 h37)
   obtain⟨h38,h⟩|⟨h38,h⟩:=aK h
   ·obtain⟨FQ,h40,h⟩:=aH h;obtain⟨h41,h⟩:=bf h;exact((((k6.b h38).g (vh h40)).w (cA h41)).a [.cn [1,5,9,10,11] [3]]).cs hZ cS (BC aD aa ((bY.map tx)++(FQ.map tx)) (IntKind.i64.wrap ((i1:Int)+1))) (by first| (simp only[iS bB hm1,mA]<;>rfl)| (simp only[iS bB hm1,mA,aC.c,aW.c,aS.c,Action.c,aN.c,aQ.c,ai.c,ah.c,Node.c,aF.c,di.c]<;>rfl)) (ih1 (i1+1) (bY++FQ) (dn bB) h)
   ·exact((k6.b h38).a [.cn [1,5,9,10,11] [0]]).ct hZ cS (iS bB hm1) (ih1 (i1+1) bY (dn bB) h)
  ·exact(((jR.r 4 h37).F 1).a [.cn [1,5,9,10,11] [0]]).ct hZ cS (iS bB hm1) (ih1 (i1+1) bY (dn bB) h)
theorem zS{aD:aN}{aa:Int}{r:aI}(h:rL aD aa=some r):Good prog 166 [bw (aN.c aD),aB aa] (cW 9 1 (r.map tx)):=by
 refine gd func166 CU 33 fun hr Z hZ=>?_
 rw[rL]at h;refine(aY.a [.L5 5,.cn [1,5,9,10,11] [1]]).lp hZ (Gt hZ (fun cM h=>?_) (by have:=(gY.sl (gY.agg (hr _ (aE (i:=0) rfl)) (.sl (aD.conds.map aS.c)) (by simp))).1;simpa using this) aD.conds 0 ([]:aI) rfl h);obtain⟨Va,h43,h⟩:=aH h;cases aM h;exact(aY.g (uE h43)).ret hZ
def oa(aD:aI):Option aI:=(bif room (([]:List aT).length+(aD.map tx).length) 16 then(some (([]:aI)++aD))else none)
theorem vg{aD:aI}{r:aI}(h:oa aD=some r):Good prog 183 [bX (aD.map tx)] (cW 9 1 (r.map tx)):=by
 refine gd func183 CU 5 fun hr Z hZ=>?_
 rw[oa]at h;obtain⟨h1,h⟩:=bf h;cases h;exact(((aY.w (cA h1)).w (show(∀r∈(aD.map tx),r.length=1)/\(true=true->D.jr (aD.map tx)=true)from⟨by first|simp| (intro r hr;obtain⟨x,_,rfl⟩:=cJ.1 (cO (fN hr));rfl),by simp[D.jr,D.flat]⟩)).a [.L5 2,.fl true]).rts hZ (cW 9 1 (([]:List aT)++(aD.map tx))) (by first|rfl| (simp only[mA]<;>rfl)| (simp only[cN,mA]<;>rfl))
def uN(aD:aS):Option aI:=((oa aD.pat.args).bind fun y1=>(bif room ((y1.map tx).length+(([aD.left,aD.right]:aI).map tx).length) 16 then(some (y1++([aD.left,aD.right]:aI)))else none))
theorem BI{aD:aS}{r:aI}(h:uN aD=some r):Good prog 141 [bw (aS.c aD)] (cW 9 1 (r.map tx)):=by
 refine gd func141 CU 13 fun hr Z hZ=>?_
 rw[uN]at h;obtain⟨y1,h2,h⟩:=aH h;obtain⟨h3,h⟩:=bf h;cases h;exact(((aY.a [.L5 2,.n 9]).g (vg h2)).w (cA h3)).rts hZ (cW 9 1 ((y1.map tx)++(([aD.left,aD.right]:aI).map tx))) (by first|rfl| (simp only[mA]<;>rfl)| (simp only[cN,mA]<;>rfl))
def qX(aD:aS):Option aI:=((uN aD).bind fun y1=>((oh y1).bind fun y3=>((lu y3).bind fun y5=>(some y5))))
theorem wG{aD:aS}{r:aI}(h:qX aD=some r):Good prog 210 [bw (aS.c aD)] (cW 9 1 (r.map tx)):=by
 refine gd func210 CU 7 fun hr Z hZ=>?_
 rw[qX]at h;obtain⟨y1,h2,y3,h4,y5,h6,h⟩:=gX h;cases aM h;exact(((aY.g (BI h2)).g (vh h4)).g (uE h6)).ret hZ
def nU(aD:aI)(aa:Bytes)(k1:Option Bool):aI->Nat->Option Bool
 | [],i1=>(k1)
 |bg::cj,i1=>(bif (bg:Bytes)==aa then(some true)else(nU aD aa k1 cj (i1+1)))
def nT(aD:aI)(aa:Bytes):Option Bool:=(nU aD aa (some false) aD 0)
def Lf(aD:aI)(aa:Bytes)(dL:Int):St:=⟨[(1,aZ aa),(7,bX (aD.map tx)),(8,aB ((aD.map tx).length:Int)),(9,aB dL)],[]⟩
theorem KC(hZ:Z.nt=17){aD:aI}{aa:Bytes}{r:Bool}{k1:Option Bool}(eC:k1=some r->Ax Z N f169 (.q bZ (bQ r)) [1,1] ⟨[],[]⟩)(hm1:aD.length<=maxLen):∀(rest:aI) (i1:Nat),aD.drop i1=rest->nU aD aa k1 rest i1=some r->Ar Z N f169 (.q bZ (bQ r)) [1,0,1,0] (rest.length+1) (Lf aD aa (i1:Int)):=by
 intro rest
 induction rest with
 |nil=>
  intro i1 bB h;rw[nU]at h;refine aV fun N1 cq cS=>?_
  exact((aY.ge tx bB).a [.hl 0 [] []]).ex hZ cq (eC h)
 |cons bg cj ih1=>
  intro i1 bB h;rw[nU]at h;refine aV fun N1 cq cS=>?_
  have fG:=((aY.lt tx bB).l (bK tx 1 (dc bB) rfl))
  obtain⟨h13,h⟩|⟨h13,h⟩:=aK h
  ·cases aM h;exact(fG.b h13).ret hZ
  ·exact((fG.b h13).a [.cn [1,7,8,9] []]).ct hZ cS (iS bB hm1) (ih1 (i1+1) (dn bB) h)
theorem tq{aD:aI}{aa:Bytes}{r:Bool}(h:nT aD aa=some r):Good prog 169 [bX (aD.map tx),aZ aa] (bQ r):=by
 refine gd func169 bZ 17 fun hr Z hZ=>?_
 rw[nT]at h;refine(aY.a [.cn [1,7,8,9] []]).lp hZ (KC hZ (fun h=>?_) (by have:=(gY.sl (hr _ (aE (i:=0) rfl))).1;simpa using this) aD 0 rfl h);cases aM h;exact aY.ret hZ
def fD(aD:aN)(aa:Int)(cv:Bytes)(k1:Option Bool):ay->Nat->Option Bool
 | [],i1=>(k1)
 |bg::cj,i1=>(bif ((i1:Int):Int) != aa then((qX bg).bind fun Gf=>((nT Gf cv).bind fun Oc=>(bif Oc then(some true)else(fD aD aa cv k1 cj (i1+1)))))else(fD aD aa cv k1 cj (i1+1)))
def gD(aD:aN)(cv:Bytes)(k2:Option Bool):fB->Nat->Option Bool
 | [],i2=>(k2)
 |jM::tL,i2=>((nT jM.pat.args cv).bind fun y59=>(bif y59 then(some true)else(gD aD cv k2 tL (i2+1))))
def nV(aD:aN)(aa:Int)(cv:Bytes):Option Bool:=(fD aD aa cv (gD aD cv (some false) aD.dD 0) aD.conds 0)
def Cq(aD:aN)(aa:Int)(cv:Bytes)(dL:Int):St:=⟨[(1,aB aa),(2,aZ cv),(3,bp 0 0),(12,bX (aD.conds.map aS.c)),(13,aB ((aD.conds.map aS.c).length:Int)),(14,aB dL)],[bu (aN.c aD)]⟩
theorem C6(hZ:Z.nt=42){aD:aN}{aa:Int}{cv:Bytes}{r:Bool}{k1:Option Bool}(eC:k1=some r->Ax Z N f211 (.q bZ (bQ r)) [1,1] ⟨[(2,aZ cv),(3,bp 0 0)],[bu (aN.c aD)]⟩)(hm1:aD.conds.length<=maxLen):∀(rest:ay) (i1:Nat),aD.conds.drop i1=rest->fD aD aa cv k1 rest i1=some r->Ar Z N f211 (.q bZ (bQ r)) [1,0,1,0] (rest.length+1) (Cq aD aa cv (i1:Int)):=by
 intro rest
 induction rest with
 |nil=>
  intro i1 bB h;rw[fD]at h;refine aV fun N1 cq cS=>?_
  exact((aY.ge aS.c bB).a [.hl 0 [2,3] [0]]).ex hZ cq (eC h)
 |cons bg cj ih1=>
  intro i1 bB h;rw[fD]at h;refine aV fun N1 cq cS=>?_
  have k6:=((aY.lt aS.c bB).l (bK aS.c 5 (dc bB) rfl))
  obtain⟨h33,h⟩|⟨h33,h⟩:=aK h
  ·obtain⟨Gf,h35,Oc,h37,h⟩:=bR h;have ud:=(((((k6.r 2 h33).g (wG h35)).r 2 h33).g (tq h37)).b h33)
   obtain⟨h38,h⟩|⟨h38,h⟩:=aK h
   ·cases aM h;exact(ud.b h38).ret hZ
   ·exact((ud.b h38).a [.cn [1,2,3,12,13,14] [0]]).ct hZ cS (iS bB hm1) (ih1 (i1+1) (dn bB) h)
  ·exact(((k6.r 5 h33).F 1).a [.cn [1,2,3,12,13,14] [0]]).ct hZ cS (iS bB hm1) (ih1 (i1+1) (dn bB) h)
def Cr(aD:aN)(cv:Bytes)(dL:Int):St:=⟨[(2,aZ cv),(30,bX (aD.dD.map Action.c)),(31,aB ((aD.dD.map Action.c).length:Int)),(32,aB dL)],[]⟩
theorem C7(hZ:Z.nt=42){aD:aN}{cv:Bytes}{r:Bool}{k2:Option Bool}(zc:k2=some r->Ax Z N f211 (.q bZ (bQ r)) [1,1,1] ⟨[],[]⟩)(hm2:aD.dD.length<=maxLen):∀(rest:fB) (i2:Nat),aD.dD.drop i2=rest->gD aD cv k2 rest i2=some r->Ar Z N f211 (.q bZ (bQ r)) [1,1,0,1,0] (rest.length+1) (Cr aD cv (i2:Int)):=by
 intro rest
 induction rest with
 |nil=>
  intro i2 hd2 h;rw[gD]at h;refine aV fun N2 uY qt=>?_
  exact((aY.ge Action.c hd2).a [.hl 0 [] []]).ex hZ uY (zc h)
 |cons jM tL ih2=>
  intro i2 hd2 h;rw[gD]at h;refine aV fun N2 uY qt=>?_
  obtain⟨y59,h60,h⟩:=aH h;have xg:=(((aY.lt Action.c hd2).l (bK Action.c 3 (dc hd2) rfl)).g (tq h60))
  obtain⟨h61,h⟩|⟨h61,h⟩:=aK h
  ·cases aM h;exact(xg.b h61).ret hZ
  ·exact((xg.b h61).a [.cn [2,30,31,32] []]).ct hZ qt (iS hd2 hm2) (ih2 (i2+1) (dn hd2) h)
theorem BU{aD:aN}{aa:Int}{cv:Bytes}{r:Bool}(h:nV aD aa cv=some r):Good prog 211 [bw (aN.c aD),aB aa,aZ cv] (bQ r):=by
 refine gd func211 bZ 42 fun hr Z hZ=>?_
 rw[nV]at h;refine(aY.a [.cn [1,2,3,12,13,14] [0]]).lp hZ (C6 hZ (fun h=>?_) (by have:=(gY.sl (gY.agg (hr _ (aE (i:=0) rfl)) (.sl (aD.conds.map aS.c)) (by simp))).1;simpa using this) aD.conds 0 rfl h);refine(aY.a [.cn [2,30,31,32] []]).lp hZ (C7 hZ (fun h=>?_) (by have:=(gY.sl (gY.agg (hr _ (aE (i:=0) rfl)) (.sl (aD.dD.map Action.c)) (by simp))).1;simpa using this) aD.dD 0 rfl h);cases aM h;exact aY.ret hZ
def iZ(aD:aN)(aa:Int)(x1:aS)(y3:aI)(y5:aI)(k1:Option Bool):aI->Nat->Option Bool
 | [],i1=>(k1)
 |bg::cj,i1=>(bif (x1.kind:Int)==1 then(iZ aD aa x1 y3 y5 k1 cj (i1+1))else((nT y3 bg).bind fun O6=>(bif O6 then(iZ aD aa x1 y3 y5 k1 cj (i1+1))else(bif (x1.kind:Int) != 2 then(some false)else((nV aD aa bg).bind fun y53=>(bif y53 then(some false)else(iZ aD aa x1 y3 y5 k1 cj (i1+1))))))))
def sM(aD:aN)(aa:Int):Option Bool:=((gA aD.conds aa).bind fun x1=>((rL aD aa).bind fun y3=>((qX x1).bind fun y5=>(bif decide (y5.length<=maxLen)then(iZ aD aa x1 y3 y5 (some true) y5 0)else none))))
def KA(aD:aN)(aa:Int)(x1:aS)(y3:aI)(y5:aI)(dL:Int):St:=⟨[(1,aB aa),(2,bp 0 0),(5,bp 1 0),(6,b9 2),(18,b9 3),(19,aB ((y5.map tx).length:Int)),(20,aB dL)],[bu (aN.c aD),bu [aB x1.kind,aZ x1.pat.rel,bX (x1.pat.args.map tx),aZ x1.left,aZ x1.right],af 9 1 (y3.map tx),af 9 1 (y5.map tx)]⟩
theorem Io(hZ:Z.nt=42){aD:aN}{aa:Int}{x1:aS}{y3:aI}{y5:aI}{r:Bool}{k1:Option Bool}(eC:k1=some r->Ax Z N f165 (.q bZ (bQ r)) [1,1,1,1] ⟨[],[]⟩)(hm1:y5.length<=maxLen):∀(rest:aI) (i1:Nat),y5.drop i1=rest->iZ aD aa x1 y3 y5 k1 rest i1=some r->Ar Z N f165 (.q bZ (bQ r)) [1,1,1,0,1,0] (rest.length+1) (KA aD aa x1 y3 y5 (i1:Int)):=by
 intro rest
 induction rest with
 |nil=>
  intro i1 bB h;rw[iZ]at h;refine aV fun N1 cq cS=>?_
  exact((aY.ge tx bB).a [.hl 0 [] []]).ex hZ cq (eC h)
 |cons bg cj ih1=>
  intro i1 bB h;rw[iZ]at h;refine aV fun N1 cq cS=>?_
  have k6:=(((aY.lt tx bB).i (fH tx 1 (dc bB))).o 1 1 .uq (cL tx (dc bB)))
  obtain⟨h48,h⟩|⟨h48,h⟩:=aK h
  ·exact(((k6.r 4 h48).T 1).a [.cn [1,2,5,6,18,19,20] [0,1,2,3]]).ct hZ cS (iS bB hm1) (ih1 (i1+1) (dn bB) h)
  ·obtain⟨O6,h50,h⟩:=aH h;have ud:=(((k6.r 3 h48).g (tq h50)).b h48)
   obtain⟨h51,h⟩|⟨h51,h⟩:=aK h
   ·exact((ud.b h51).a [.cn [1,2,5,6,18,19,20] [0,1,2,3]]).ct hZ cS (iS bB hm1) (ih1 (i1+1) (dn bB) h)
   ·obtain⟨h52,h⟩|⟨h52,h⟩:=aK h
    ·cases aM h;exact(((ud.b h51).r 5 h52).T 1).ret hZ
    ·obtain⟨y53,h54,h⟩:=aH h;have xg:=((((ud.b h51).r 4 h52).g (BU h54)).b h52)
     obtain⟨h55,h⟩|⟨h55,h⟩:=aK h
     ·cases aM h;exact(xg.b h55).ret hZ
     ·exact((xg.b h55).a [.cn [1,2,5,6,18,19,20] [0,1,2,3]]).ct hZ cS (iS bB hm1) (ih1 (i1+1) (dn bB) h)
theorem AL{aD:aN}{aa:Int}{r:Bool}(h:sM aD aa=some r):Good prog 165 [bw (aN.c aD),aB aa] (bQ r):=by
 refine gd func165 bZ 42 fun hr Z hZ=>?_
 rw[sM]at h;obtain⟨x1,h2,y3,h4,y5,h6,h⟩:=gX h;obtain⟨h56,h⟩:=bf h;refine((((aY.l (dW aS.c 5 h2 rfl)).g (zS h4)).g (wG h6)).a [.cn [1,2,5,6,18,19,20] [0,1,2,3]]).lp hZ (Io hZ (fun h=>?_) (bh h56) y5 0 rfl h);cases aM h;exact aY.ret hZ
def vE(aD:Action):Option Bool:=(bif (aD.kind:Int)==1 then((kC aD.pat).bind fun y2=>(some y2))else(bif (aD.kind:Int)==2 then((kC aD.pat).bind fun y5=>(some y5))else(bif (aD.kind:Int)==3 then((jc aD.pat).bind fun y8=>(some y8))else(some false))))
theorem Gv{aD:Action}{r:Bool}(h:vE aD=some r):Good prog 167 [bw (Action.c aD)] (bQ r):=by
 refine gd func167 bZ 16 fun hr Z hZ=>?_
 rw[vE]at h;obtain⟨h1,h⟩|⟨h1,h⟩:=aK h
 ·obtain⟨y2,h3,h⟩:=aH h;cases aM h;exact((aY.r 2 h1).g (lH h3)).ret hZ
 ·obtain⟨h4,h⟩|⟨h4,h⟩:=aK h
  ·obtain⟨y5,h6,h⟩:=aH h;cases aM h;exact(((aY.b h1).b h4).g (lH h6)).ret hZ
  ·have lC:=((aY.b h1).b h4)
   obtain⟨h7,h⟩|⟨h7,h⟩:=aK h
   ·obtain⟨y8,h9,h⟩:=aH h;cases aM h;exact((lC.b h7).g (qO h9)).ret hZ
   ·cases aM h;exact(lC.b h7).ret hZ
def iR(aD:ay)(k1:aI->Option aI):ay->Nat->aI->Option aI
 | [],i1,bY=>(k1 bY)
 |bg::cj,i1,bY=>((qX bg).bind fun qB=>(bif room ((bY.map tx).length+(qB.map tx).length) 16 then(iR aD k1 cj (i1+1) (bY++qB))else none))
def sj(aD:ay):Option aI:=(iR aD (fun(cM:aI)=>(some cM)) aD 0 ([]:aI))
def AM(aD:ay)(W0:List aT)(dL:Int):St:=⟨[(3,b9 0),(6,bX (aD.map aS.c)),(7,aB ((aD.map aS.c).length:Int)),(8,aB dL)],[af 9 1 W0]⟩
theorem G0(hZ:Z.nt=18){aD:ay}{r:aI}{k1:aI->Option aI}(eC:∀(cM:aI),k1 cM=some r->Ax Z N f171 (AG r) [1,1,1] ⟨[(3,b9 0)],[af 9 1 (cM.map tx)]⟩)(hm1:aD.length<=maxLen):∀(rest:ay) (i1:Nat) (bY:aI),aD.drop i1=rest->iR aD k1 rest i1 bY=some r->Ar Z N f171 (AG r) [1,1,0,1,0] (rest.length+1) (AM aD (bY.map tx) (i1:Int)):=by
 intro rest
 induction rest with
 |nil=>
  intro i1 bY bB h;rw[iR]at h;refine aV fun N1 cq cS=>?_
  exact((aY.ge aS.c bB).a [.hl 0 [3] [0]]).ex hZ cq (eC bY h)
 |cons bg cj ih1=>
  intro i1 bY bB h;rw[iR]at h;refine aV fun N1 cq cS=>?_
  obtain⟨qB,h28,h⟩:=aH h;obtain⟨h29,h⟩:=bf h;exact(((((aY.lt aS.c bB).l (bK aS.c 5 (dc bB) rfl)).g (wG h28)).w (cA h29)).a [.cn [3,6,7,8] [3]]).cs hZ cS (AM aD ((bY.map tx)++(qB.map tx)) (IntKind.i64.wrap ((i1:Int)+1))) (by first| (simp only[iS bB hm1,mA]<;>rfl)| (simp only[iS bB hm1,mA,aC.c,aW.c,aS.c,Action.c,aN.c,aQ.c,ai.c,ah.c,Node.c,aF.c,di.c]<;>rfl)) (ih1 (i1+1) (bY++qB) (dn bB) h)
theorem Et{aD:ay}{r:aI}(h:sj aD=some r):Good prog 171 [bX (aD.map aS.c)] (cW 9 1 (r.map tx)):=by
 refine gd func171 CU 18 fun hr Z hZ=>?_
 rw[sj]at h;refine(aY.a [.L5 3,.cn [3,6,7,8] [0]]).lp hZ (G0 hZ (fun cM h=>?_) (by have:=(gY.sl (hr _ (aE (i:=0) rfl))).1;simpa using this) aD 0 ([]:aI) rfl h);cases aM h;exact aY.ret hZ
def kD(aD:aN)(k1:Option Bool):ay->Nat->Option Bool
 | [],i1=>(k1)
 |bg::cj,i1=>((tP bg).bind fun y62=>(bif !(y62)then(some false)else(bif ((i1:Int):Int)==0 then(bif (bg.kind:Int) != 1 then(some false)else((sM aD (i1:Int)).bind fun Vc=>(bif !(Vc)then(some false)else(kD aD k1 cj (i1+1)))))else((sM aD (i1:Int)).bind fun y70=>(bif !(y70)then(some false)else(kD aD k1 cj (i1+1)))))))
def oY(aD:aN)(Ci:aI)(i2:Nat)(Di:aI)(k3:Option Bool):aI->Nat->Option Bool
 | [],i3=>(k3)
 |Oa::Kz,i3=>((nT Ci Oa).bind fun aDR=>(bif !(aDR)then(some false)else(oY aD Ci i2 Di k3 Kz (i3+1))))
def oX(aD:aN)(Ci:aI)(k2:Option Bool):fB->Nat->Option Bool
 | [],i2=>(k2)
 |jM::tL,i2=>((vE jM).bind fun aDQ=>(bif !(aDQ)then(some false)else((oh jM.pat.args).bind fun Di=>(bif decide (Di.length<=maxLen)then(oY aD Ci i2 Di (oX aD Ci k2 tL (i2+1)) Di 0)else none))))
def xU(aD:aN):Option Bool:=((tQ aD.name).bind fun y1=>(bif !(y1)then(some false)else(bif decide ((aD.prio:Int)<0)then(some false)else(bif decide ((aD.prio:Int)>9)then(some false)else(bif decide ((((aD.conds.map aS.c).length:Int):Int)<1)then(some false)else(bif decide ((((aD.conds.map aS.c).length:Int):Int)>4)then(some false)else(bif decide ((((aD.dD.map Action.c).length:Int):Int)<1)then(some false)else(bif decide ((((aD.dD.map Action.c).length:Int):Int)>2)then(some false)else(kD aD ((rL aD ((aD.conds.map aS.c).length:Int)).bind fun Ci=>(oX aD Ci ((sj aD.conds).bind fun aDS=>((lu aDS).bind fun aDT=>(some (decide ((((aDT.map tx).length:Int):Int)<=6))))) aD.dD 0)) aD.conds 0)))))))))
def ND(aD:aN)(dL:Int):St:=⟨[(1,bp 0 0),(49,bX (aD.conds.map aS.c)),(50,aB ((aD.conds.map aS.c).length:Int)),(51,aB dL)],[bu (aN.c aD)]⟩
theorem LU(hZ:Z.nt=111){aD:aN}{r:Bool}{k1:Option Bool}(eC:k1=some r->Ax Z N f101 (.q bZ (bQ r)) [1,1,1] ⟨[(1,bp 0 0)],[bu (aN.c aD)]⟩)(hm1:aD.conds.length<=maxLen):∀(rest:ay) (i1:Nat),aD.conds.drop i1=rest->kD aD k1 rest i1=some r->Ar Z N f101 (.q bZ (bQ r)) [1,1,0,1,0] (rest.length+1) (ND aD (i1:Int)):=by
 intro rest
 induction rest with
 |nil=>
  intro i1 bB h;rw[kD]at h;refine aV fun N1 cq cS=>?_
  exact((aY.ge aS.c bB).a [.hl 0 [1] [0]]).ex hZ cq (eC h)
 |cons bg cj ih1=>
  intro i1 bB h;rw[kD]at h;refine aV fun N1 cq cS=>?_
  obtain⟨y62,h63,h⟩:=aH h;have Dc:=(((aY.lt aS.c bB).l (bK aS.c 5 (dc bB) rfl)).g (rW h63))
  obtain⟨h64,h⟩|⟨h64,h⟩:=aK h
  ·cases aM h;exact((((Dc.r 3 h64).a [bF,bF,bF]).r 2 h64).T 6).ret hZ
  ·have Mb:=(Dc.r 3 h64)
   obtain⟨h65,h⟩|⟨h65,h⟩:=aK h
   ·have Mc:=((((Mb.r 3 h65).b h64).b h65).b h64)
    obtain⟨h66,h⟩|⟨h66,h⟩:=aK h
    ·cases aM h;exact((Mc.r 5 h66).T 1).ret hZ
    ·obtain⟨Vc,h68,h⟩:=aH h;have V7:=(((Mc.r 3 h66).g (AL h68)).r 2 h66)
     obtain⟨h69,h⟩|⟨h69,h⟩:=aK h
     ·cases aM h;exact(V7.b h69).ret hZ
     ·exact((V7.b h69).a [.cn [1,49,50,51] [0]]).ct hZ cS (iS bB hm1) (ih1 (i1+1) (dn bB) h)
   ·obtain⟨y70,h71,h⟩:=aH h;have V8:=(((((((Mb.r 3 h65).b h64).b h65).b h64).F 3).g (AL h71)).F 2)
    obtain⟨h72,h⟩|⟨h72,h⟩:=aK h
    ·cases aM h;exact(V8.b h72).ret hZ
    ·exact((V8.b h72).a [.cn [1,49,50,51] [0]]).ct hZ cS (iS bB hm1) (ih1 (i1+1) (dn bB) h)
def NE(aD:aN)(Ci:aI)(dL:Int):St:=⟨[(1,bp 0 0),(5,b9 1),(81,bX (aD.dD.map Action.c)),(82,aB ((aD.dD.map Action.c).length:Int)),(83,aB dL)],[bu (aN.c aD),af 9 1 (Ci.map tx)]⟩
def NF(aD:aN)(Ci:aI)(i2:Nat)(Di:aI)(dL:Int):St:=⟨[(1,bp 0 0),(5,b9 1),(81,bX (aD.dD.map Action.c)),(82,aB ((aD.dD.map Action.c).length:Int)),(83,aB (i2:Int)),(93,b9 2),(94,aB ((Di.map tx).length:Int)),(95,aB dL)],[bu (aN.c aD),af 9 1 (Ci.map tx),af 9 1 (Di.map tx)]⟩
theorem LW(hZ:Z.nt=111){aD:aN}{Ci:aI}{i2:Nat}{Di:aI}{r:Bool}{k3:Option Bool}(Z3:k3=some r->Ax Z N f101 (.q bZ (bQ r)) [1,1,1,1,0,1,0,0,1,1,1] ⟨[(1,bp 0 0),(5,b9 1),(81,bX (aD.dD.map Action.c)),(82,aB ((aD.dD.map Action.c).length:Int)),(83,aB (i2:Int))],[bu (aN.c aD),af 9 1 (Ci.map tx)]⟩)(Oo:Di.length<=maxLen):∀(rest:aI) (i3:Nat),Di.drop i3=rest->oY aD Ci i2 Di k3 rest i3=some r->Ar Z N f101 (.q bZ (bQ r)) [1,1,1,1,0,1,0,0,1,1,0,0,1,1,1,0] (rest.length+1) (NF aD Ci i2 Di (i3:Int)):=by
 intro rest
 induction rest with
 |nil=>
  intro i3 uV h;rw[oY]at h;refine aV fun N3 Rt Ko=>?_
  exact((aY.ge tx uV).a [.hl 3 [1,5,81,82,83] [0,1]]).ex hZ Rt (Z3 h)
 |cons Oa Kz ih3=>
  intro i3 uV h;rw[oY]at h;refine aV fun N3 Rt Ko=>?_
  obtain⟨aDR,h230,h⟩:=aH h;have aBf:=((((aY.lt tx uV).i (fH tx 1 (dc uV))).o 1 1 .uq (cL tx (dc uV))).g (tq h230))
  obtain⟨h231,h⟩|⟨h231,h⟩:=aK h
  ·cases aM h;exact(aBf.b h231).ret hZ
  ·exact((aBf.b h231).a [.cn [1,5,81,82,83,93,94,95] [0,1,2]]).ct hZ Ko (iS uV Oo) (ih3 (i3+1) (dn uV) h)
theorem LV(hZ:Z.nt=111){aD:aN}{Ci:aI}{r:Bool}{k2:Option Bool}(zc:k2=some r->Ax Z N f101 (.q bZ (bQ r)) [1,1,1,1,1] ⟨[(1,bp 0 0)],[bu (aN.c aD)]⟩)(hm2:aD.dD.length<=maxLen):∀(rest:fB) (i2:Nat),aD.dD.drop i2=rest->oX aD Ci k2 rest i2=some r->Ar Z N f101 (.q bZ (bQ r)) [1,1,1,1,0,1,0] (rest.length+1) (NE aD Ci (i2:Int)):=by
 intro rest
 induction rest with
 |nil=>
  intro i2 hd2 h;rw[oX]at h;refine aV fun N2 uY qt=>?_
  exact((aY.ge Action.c hd2).a [.hl 0 [1] [0]]).ex hZ uY (zc h)
 |cons jM tL ih2=>
  intro i2 hd2 h;rw[oX]at h;refine aV fun N2 uY qt=>?_
  obtain⟨aDQ,h204,h⟩:=aH h;have aBg:=(((aY.lt Action.c hd2).l (bK Action.c 3 (dc hd2) rfl)).g (Gv h204))
  obtain⟨h205,h⟩|⟨h205,h⟩:=aK h
  ·cases aM h;exact(aBg.b h205).ret hZ
  ·obtain⟨Di,h207,h⟩:=aH h;obtain⟨h232,h⟩:=bf h;refine(((aBg.b h205).g (vh h207)).a [.cn [1,5,81,82,83,93,94,95] [0,1,3]]).lp hZ (LW hZ (fun h=>?_) (bh h232) Di 0 rfl h);exact(aY.a [.cn [1,5,81,82,83] [0,1]]).ct hZ qt (iS hd2 hm2) (ih2 (i2+1) (dn hd2) h)
theorem K4{aD:aN}{r:Bool}(h:xU aD=some r):Good prog 101 [bw (aN.c aD)] (bQ r):=by
 refine gd func101 bZ 111 fun hr Z hZ=>?_
 rw[xU]at h;obtain⟨y1,h2,h⟩:=aH h;obtain⟨h3,h⟩|⟨h3,h⟩:=aK h
 ·cases aM h;exact(((aY.g (oV h2)).r 4 h3).T 25).ret hZ
 ·have aBh:=((aY.g (oV h2)).r 4 h3)
  obtain⟨h4,h⟩|⟨h4,h⟩:=aK h
  ·cases aM h;exact((aBh.r 4 h4).T 21).ret hZ
  ·have aBi:=(aBh.r 4 h4)
   obtain⟨h5,h⟩|⟨h5,h⟩:=aK h
   ·cases aM h;exact((aBi.r 5 h5).T 16).ret hZ
   ·have aBj:=(aBi.r 5 h5)
    obtain⟨h6,h⟩|⟨h6,h⟩:=aK h
    ·cases aM h;exact((aBj.r 5 h6).T 11).ret hZ
    ·have aBk:=(aBj.r 5 h6)
     obtain⟨h7,h⟩|⟨h7,h⟩:=aK h
     ·cases aM h;exact((aBk.r 5 h7).T 6).ret hZ
     ·have aBl:=(aBk.r 5 h7)
      obtain⟨h8,h⟩|⟨h8,h⟩:=aK h
      ·cases aM h;exact((aBl.r 5 h8).T 1).ret hZ
      ·have aBm:=(aBl.r 5 h8)
       obtain⟨h9,h⟩|⟨h9,h⟩:=aK h
       ·cases aM h;exact(aBm.b h9).ret hZ
       ·refine((aBm.b h9).a [.cn [1,49,50,51] [0]]).lp hZ (LU hZ (fun h=>?_) (by have:=(gY.sl (gY.agg (hr _ (aE (i:=0) rfl)) (.sl (aD.conds.map aS.c)) (by simp))).1;simpa using this) aD.conds 0 rfl h);obtain⟨Ci,h74,h⟩:=aH h;refine((aY.g (zS h74)).a [.cn [1,5,81,82,83] [0,1]]).lp hZ (LV hZ (fun h=>?_) (by have:=(gY.sl (gY.agg (hr _ (aE (i:=0) rfl)) (.sl (aD.dD.map Action.c)) (by simp))).1;simpa using this) aD.dD 0 rfl h);obtain⟨aDS,h234,aDT,h236,h⟩:=bR h;cases h;exact((aY.g (Et h234)).g (uE h236)).ret hZ
def lg(aD:az)(aa:Bytes)(k1:Option Int):az->Nat->Option Int
 | [],i1=>(k1)
 |bg::cj,i1=>(bif (bg.name:Bytes)==aa then(some (i1:Int))else(lg aD aa k1 cj (i1+1)))
def vD(aD:az)(aa:Bytes):Option Int:=(lg aD aa (some (-1)) aD 0)
def K3(aD:az)(aa:Bytes)(dL:Int):St:=⟨[(1,aZ aa),(7,bX (aD.map aN.c)),(8,aB ((aD.map aN.c).length:Int)),(9,aB dL)],[]⟩
theorem Ig(hZ:Z.nt=20){aD:az}{aa:Bytes}{r:Int}{k1:Option Int}(eC:k1=some r->Ax Z N f102 (.q bZ (aB r)) [1,1] ⟨[],[]⟩)(hm1:aD.length<=maxLen):∀(rest:az) (i1:Nat),aD.drop i1=rest->lg aD aa k1 rest i1=some r->Ar Z N f102 (.q bZ (aB r)) [1,0,1,0] (rest.length+1) (K3 aD aa (i1:Int)):=by
 intro rest
 induction rest with
 |nil=>
  intro i1 bB h;rw[lg]at h;refine aV fun N1 cq cS=>?_
  exact((aY.ge aN.c bB).a [.hl 0 [] []]).ex hZ cq (eC h)
 |cons bg cj ih1=>
  intro i1 bB h;rw[lg]at h;refine aV fun N1 cq cS=>?_
  have fG:=((aY.lt aN.c bB).l (bK aN.c 4 (dc bB) rfl))
  obtain⟨h13,h⟩|⟨h13,h⟩:=aK h
  ·cases h;exact(fG.b h13).ret hZ
  ·exact((fG.b h13).a [.cn [1,7,8,9] []]).ct hZ cS (iS bB hm1) (ih1 (i1+1) (dn bB) h)
theorem Gu{aD:az}{aa:Bytes}{r:Int}(h:vD aD aa=some r):Good prog 102 [bX (aD.map aN.c),aZ aa] (aB r):=by
 refine gd func102 bZ 20 fun hr Z hZ=>?_
 rw[vD]at h;refine(aY.a [.cn [1,7,8,9] []]).lp hZ (Ig hZ (fun h=>?_) (by have:=(gY.sl (hr _ (aE (i:=0) rfl))).1;simpa using this) aD 0 rfl h);cases h;exact aY.ret hZ
def ld(aD:az)(k1:Option Bool):az->Nat->Option Bool
 | [],i1=>(k1)
 |bg::cj,i1=>((xU bg).bind fun Gf=>(bif !(Gf)then(some false)else((vD aD bg.name).bind fun PS=>(bif (PS:Int) != (i1:Int)then(some false)else(ld aD k1 cj (i1+1))))))
def vC(aD:az):Option Bool:=(bif decide ((((aD.map aN.c).length:Int):Int)>6)then(some false)else(ld aD (some true) aD 0))
def Jz(aD:az)(dL:Int):St:=⟨[(0,bX (aD.map aN.c)),(8,bX (aD.map aN.c)),(9,aB ((aD.map aN.c).length:Int)),(10,aB dL)],[]⟩
theorem Ic(hZ:Z.nt=27){aD:az}{r:Bool}{k1:Option Bool}(eC:k1=some r->Ax Z N f49 (.q bZ (bQ r)) [1,1,1] ⟨[],[]⟩)(hm1:aD.length<=maxLen):∀(rest:az) (i1:Nat),aD.drop i1=rest->ld aD k1 rest i1=some r->Ar Z N f49 (.q bZ (bQ r)) [1,1,0,1,0] (rest.length+1) (Jz aD (i1:Int)):=by
 intro rest
 induction rest with
 |nil=>
  intro i1 bB h;rw[ld]at h;refine aV fun N1 cq cS=>?_
  exact((aY.ge aN.c bB).a [.hl 0 [] []]).ex hZ cq (eC h)
 |cons bg cj ih1=>
  intro i1 bB h;rw[ld]at h;refine aV fun N1 cq cS=>?_
  obtain⟨Gf,h35,h⟩:=aH h;have jR:=(((aY.lt aN.c bB).l (bK aN.c 4 (dc bB) rfl)).g (K4 h35))
  obtain⟨h36,h⟩|⟨h36,h⟩:=aK h
  ·cases aM h;exact((jR.r 7 h36).T 1).ret hZ
  ·obtain⟨PS,h38,h⟩:=aH h;have k6:=(((jR.r 4 h36).g (Gu h38)).r 3 h36)
   obtain⟨h39,h⟩|⟨h39,h⟩:=aK h
   ·cases aM h;exact(k6.b h39).ret hZ
   ·exact((k6.b h39).a [.cn [0,8,9,10] []]).ct hZ cS (iS bB hm1) (ih1 (i1+1) (dn bB) h)
theorem Gs{aD:az}{r:Bool}(h:vC aD=some r):Good prog 49 [bX (aD.map aN.c)] (bQ r):=by
 refine gd func49 bZ 27 fun hr Z hZ=>?_
 rw[vC]at h;obtain⟨h1,h⟩|⟨h1,h⟩:=aK h
 ·cases aM h;exact(aY.b h1).ret hZ
 ·refine((aY.b h1).a [.cn [0,8,9,10] []]).lp hZ (Ic hZ (fun h=>?_) (by have:=(gY.sl (hr _ (aE (i:=0) rfl))).1;simpa using this) aD 0 rfl h);cases aM h;exact aY.ret hZ
def rM(aD:aC)(k1:Option Bool):aI->Nat->Option Bool
 | [],i1=>(k1)
 |bg::cj,i1=>((gR bg).bind fun xo=>(bif !(xo)then(some false)else(rM aD k1 cj (i1+1))))
def rC(aD:aC):Option Bool:=((tQ aD.rel).bind fun y1=>(bif !(y1)then(some false)else(bif decide ((((aD.args.map tx).length:Int):Int)>3)then(some false)else(rM aD (some true) aD.args 0))))
def NC(aD:aC)(dL:Int):St:=⟨[(16,bX (aD.args.map tx)),(17,aB ((aD.args.map tx).length:Int)),(18,aB dL)],[]⟩
theorem LS(hZ:Z.nt=26){aD:aC}{r:Bool}{k1:Option Bool}(eC:k1=some r->Ax Z N f103 (.q bZ (bQ r)) [1,1,1] ⟨[],[]⟩)(hm1:aD.args.length<=maxLen):∀(rest:aI) (i1:Nat),aD.args.drop i1=rest->rM aD k1 rest i1=some r->Ar Z N f103 (.q bZ (bQ r)) [1,1,0,1,0] (rest.length+1) (NC aD (i1:Int)):=by
 intro rest
 induction rest with
 |nil=>
  intro i1 bB h;rw[rM]at h;refine aV fun N1 cq cS=>?_
  exact((aY.ge tx bB).a [.hl 0 [] []]).ex hZ cq (eC h)
 |cons bg cj ih1=>
  intro i1 bB h;rw[rM]at h;refine aV fun N1 cq cS=>?_
  obtain⟨xo,h26,h⟩:=aH h;have fG:=(((aY.lt tx bB).l (bK tx 1 (dc bB) rfl)).g (fY h26))
  obtain⟨h27,h⟩|⟨h27,h⟩:=aK h
  ·cases aM h;exact(fG.b h27).ret hZ
  ·exact((fG.b h27).a [.cn [16,17,18] []]).ct hZ cS (iS bB hm1) (ih1 (i1+1) (dn bB) h)
theorem xw{aD:aC}{r:Bool}(h:rC aD=some r):Good prog 103 [bw (aC.c aD)] (bQ r):=by
 refine gd func103 bZ 26 fun hr Z hZ=>?_
 rw[rC]at h;obtain⟨y1,h2,h⟩:=aH h;obtain⟨h3,h⟩|⟨h3,h⟩:=aK h
 ·cases aM h;exact(((aY.g (oV h2)).r 5 h3).T 1).ret hZ
 ·have jR:=((aY.g (oV h2)).r 5 h3)
  obtain⟨h4,h⟩|⟨h4,h⟩:=aK h
  ·cases aM h;exact(jR.b h4).ret hZ
  ·refine((jR.b h4).a [.cn [16,17,18] []]).lp hZ (LS hZ (fun h=>?_) (by have:=(gY.sl (gY.agg (hr _ (aE (i:=0) rfl)) (.sl (aD.args.map tx)) (by simp))).1;simpa using this) aD.args 0 rfl h);cases aM h;exact aY.ret hZ
def mQ(aD:Int):Option Bytes:=((CN aD).bind fun y1=>(some y1))
theorem zT{aD:Int}{r:Bytes}(h:mQ aD=some r):Good prog 202 [aB aD] (aZ r):=by
 refine gd func202 bZ 5 fun hr Z hZ=>?_
 rw[mQ]at h;obtain⟨y1,h2,h⟩:=aH h;cases aM h;exact(aY.g (Jb h2)).ret hZ
def oC(aD:Bytes):Option (Int×Bool):=(bif decide (((aD.length:Int):Int)<1)then(some (0,false))else(bif decide (((aD.length:Int):Int)>4)then(some (0,false))else((CM aD).bind fun y3=>(bif y3.2 then(some (0,false))else(bif decide ((y3.1:Int)<0)then(some (0,false))else(bif decide ((y3.1:Int)>9999)then(some (0,false))else((mQ y3.1).bind fun y8=>(bif !((y8:Bytes)==aD)then(some (0,false))else(some (y3.1,true))))))))))
theorem sY{aD:Bytes}{r:Int×Bool}(h:oC aD=some r):Good prog 214 [aZ aD] (D.iz [aB r.1,bQ r.2]):=by
 refine gd func214 OO 36 fun hr Z hZ=>?_
 rw[oC]at h;obtain⟨h1,h⟩|⟨h1,h⟩:=aK h
 ·cases h;exact((aY.r 4 h1).T 1).ret hZ
 ·have lC:=(aY.r 4 h1)
  obtain⟨h2,h⟩|⟨h2,h⟩:=aK h
  ·cases h;exact(lC.b h2).ret hZ
  ·obtain⟨y3,h4,h⟩:=aH h;have fG:=((lC.b h2).g (Ja h4))
   obtain⟨h5,h⟩|⟨h5,h⟩:=aK h
   ·cases h;exact((fG.r 3 h5).T 9).ret hZ
   ·have jR:=(fG.r 3 h5)
    obtain⟨h6,h⟩|⟨h6,h⟩:=aK h
    ·cases h;exact((jR.r 3 h6).T 6).ret hZ
    ·have k6:=(jR.r 3 h6)
     obtain⟨h7,h⟩|⟨h7,h⟩:=aK h
     ·cases h;exact((k6.r 5 h7).T 1).ret hZ
     ·obtain⟨y8,h9,h⟩:=aH h;have ud:=(((k6.r 2 h7).g (zT h9)).r 3 h7)
      obtain⟨h10,h⟩|⟨h10,h⟩:=aK h
      ·cases h;exact(ud.b h10).ret hZ
      ·cases h;exact(ud.b h10).ret hZ
def jX(aD:Int)(aa:Int):Option Int:=(bif decide ((aD:Int)<aa)then(some (-1))else(bif decide ((aD:Int)>aa)then(some 1)else(some 0)))
theorem uG{aD:Int}{aa:Int}{r:Int}(h:jX aD aa=some r):Good prog 174 [aB aD,aB aa] (aB r):=by
 refine gd func174 bZ 13 fun hr Z hZ=>?_
 rw[jX]at h;obtain⟨h1,h⟩|⟨h1,h⟩:=aK h
 ·cases h;exact(aY.b h1).ret hZ
 ·obtain⟨h2,h⟩|⟨h2,h⟩:=aK h
  ·cases aM h;exact((aY.b h1).b h2).ret hZ
  ·cases aM h;exact((aY.b h1).b h2).ret hZ
def nu(aD:Bytes)(aa:Bytes):Option Int:=((oC aD).bind fun y1=>((oC aa).bind fun y3=>(bif y1.2 then(bif y3.2 then((jX y1.1 y3.1).bind fun y7=>(some y7))else(some (-1)))else(bif y3.2 then(some 1)else((tD aD aa).bind fun GZ=>(some GZ))))))
theorem DO{aD:Bytes}{aa:Bytes}{r:Int}(h:nu aD aa=some r):Good prog 173 [aZ aD,aZ aa] (aB r):=by
 refine gd func173 bZ 34 fun hr Z hZ=>?_
 rw[nu]at h;obtain⟨y1,h2,y3,h4,h⟩:=bR h;have lC:=((aY.g (sY h2)).g (sY h4))
 obtain⟨h5,h⟩|⟨h5,h⟩:=aK h
 ·have fG:=(lC.r 2 h5)
  obtain⟨h6,h⟩|⟨h6,h⟩:=aK h
  ·obtain⟨y7,h8,h⟩:=aH h;cases aM h;exact((fG.b h6).g (uG h8)).ret hZ
  ·cases h;exact((fG.b h6).b h5).ret hZ
 ·have jR:=(((lC.r 2 h5).F 1).b h5)
  obtain⟨h9,h⟩|⟨h9,h⟩:=aK h
  ·cases aM h;exact(jR.b h9).ret hZ
  ·obtain⟨GZ,h11,h⟩:=aH h;cases aM h;exact((jR.b h9).g (uy h11)).ret hZ
def kB(aD:aC)(aa:aC)(k1:Option Int):aI->Nat->Option Int
 | [],i1=>(k1)
 |bg::cj,i1=>(bif decide (((i1:Int):Int)<((aa.args.map tx).length:Int))then((gA aa.args (i1:Int)).bind fun x37=>((nu bg x37).bind fun FQ=>(bif (FQ:Int) != 0 then(some FQ)else(kB aD aa k1 cj (i1+1)))))else(k1))
def gm(aD:aC)(aa:aC):Option Int:=((tD aD.rel aa.rel).bind fun y1=>(bif (y1:Int) != 0 then(some y1)else(kB aD aa ((jX ((aD.args.map tx).length:Int) ((aa.args.map tx).length:Int)).bind fun Va=>(some Va)) aD.args 0)))
def En(aD:aC)(aa:aC)(dL:Int):St:=⟨[(2,bp 0 0),(3,bp 1 0),(6,aB dL)],[bu (aC.c aD),bu (aC.c aa)]⟩
theorem Dv(hZ:Z.nt=51){aD:aC}{aa:aC}{r:Int}{k1:Option Int}(eC:k1=some r->Ax Z N f104 (.q bZ (aB r)) [1,1,1] ⟨[(2,bp 0 0),(3,bp 1 0)],[bu (aC.c aD),bu (aC.c aa)]⟩)(hm1:aD.args.length<=maxLen):∀(rest:aI) (i1:Nat),aD.args.drop i1=rest->kB aD aa k1 rest i1=some r->Ar Z N f104 (.q bZ (aB r)) [1,1,0,1,0] (rest.length+1) (En aD aa (i1:Int)):=by
 intro rest
 induction rest with
 |nil=>
  intro i1 bB h;rw[kB]at h;refine aV fun N1 cq cS=>?_
  exact((((((((aY.ge tx bB).ge tx bB).ge tx bB).ge tx bB).ge tx bB).ge tx bB).F 1).a [.hl 0 [2,3] [0,1]]).ex hZ cq (eC h)
 |cons bg cj ih1=>
  intro i1 bB h;rw[kB]at h;refine aV fun N1 cq cS=>?_
  have jR:=((((((aY.lt tx bB).lt tx bB).lt tx bB).lt tx bB).lt tx bB).lt tx bB)
  obtain⟨h36,h⟩|⟨h36,h⟩:=aK h
  ·obtain⟨x37,h38,FQ,h40,h⟩:=bR h;have k6:=(((((jR.b h36).a [.n 10]).l (bK tx 1 (dc bB) rfl)).l (dW tx 1 h38 rfl)).g (DO h40))
   obtain⟨h41,h⟩|⟨h41,h⟩:=aK h
   ·cases aM h;exact(k6.b h41).ret hZ
   ·exact((k6.b h41).a [.cn [2,3,6] [0,1]]).ct hZ cS (iS bB hm1) (ih1 (i1+1) (dn bB) h)
  ·exact((jR.b h36).a [.hl 0 [2,3] [0,1]]).ex hZ cq (eC h)
theorem tN{aD:aC}{aa:aC}{r:Int}(h:gm aD aa=some r):Good prog 104 [bw (aC.c aD),bw (aC.c aa)] (aB r):=by
 refine gd func104 bZ 51 fun hr Z hZ=>?_
 rw[gm]at h;obtain⟨y1,h2,h⟩:=aH h;obtain⟨h3,h⟩|⟨h3,h⟩:=aK h
 ·cases aM h;exact((aY.g (uy h2)).b h3).ret hZ
 ·refine(((aY.g (uy h2)).b h3).a [.cn [2,3,6] [0,1]]).lp hZ (Dv hZ (fun h=>?_) (by have:=(gY.sl (gY.agg (hr _ (aE (i:=0) rfl)) (.sl (aD.args.map tx)) (by simp))).1;simpa using this) aD.args 0 rfl h);obtain⟨Va,h43,h⟩:=aH h;cases aM h;exact(aY.g (uG h43)).ret hZ
def jU(aD:aJ)(k1:Option Bool):aJ->Nat->Option Bool
 | [],i1=>(k1)
 |bg::cj,i1=>((rC bg).bind fun y46=>(bif !(y46)then(some false)else(bif decide (((i1:Int):Int)>0)then((gA aD (IntKind.i64.wrap ((i1:Int)-1))).bind fun x50=>((gm x50 bg).bind fun y52=>(bif decide ((y52:Int)>=0)then(some false)else(jU aD k1 cj (i1+1)))))else(jU aD k1 cj (i1+1)))))
def qW(aD:aJ):Option Bool:=(bif decide ((((aD.map aC.c).length:Int):Int)>24)then(some false)else(jU aD (some true) aD 0))
def Jy(aD:aJ)(dL:Int):St:=⟨[(0,bX (aD.map aC.c)),(8,bX (aD.map aC.c)),(9,aB ((aD.map aC.c).length:Int)),(10,aB dL)],[]⟩
theorem Ib(hZ:Z.nt=33){aD:aJ}{r:Bool}{k1:Option Bool}(eC:k1=some r->Ax Z N f50 (.q bZ (bQ r)) [1,1,1] ⟨[],[]⟩)(hm1:aD.length<=maxLen):∀(rest:aJ) (i1:Nat),aD.drop i1=rest->jU aD k1 rest i1=some r->Ar Z N f50 (.q bZ (bQ r)) [1,1,0,1,0] (rest.length+1) (Jy aD (i1:Int)):=by
 intro rest
 induction rest with
 |nil=>
  intro i1 bB h;rw[jU]at h;refine aV fun N1 cq cS=>?_
  exact((aY.ge aC.c bB).a [.hl 0 [] []]).ex hZ cq (eC h)
 |cons bg cj ih1=>
  intro i1 bB h;rw[jU]at h;refine aV fun N1 cq cS=>?_
  obtain⟨y46,h47,h⟩:=aH h;have k6:=((((aY.lt aC.c bB).l (bK aC.c 2 (dc bB) rfl)).a [.n 13]).g (xw h47))
  obtain⟨h48,h⟩|⟨h48,h⟩:=aK h
  ·cases aM h;exact((((k6.r 3 h48).a [bF,bF,bF,bF,bF,bF,bF,bF]).r 2 h48).T 1).ret hZ
  ·have ud:=(k6.r 3 h48)
   obtain⟨h49,h⟩|⟨h49,h⟩:=aK h
   ·obtain⟨x50,h51,y52,h53,h⟩:=bR h;have xg:=((((((((ud.r 4 h49).l (dW aC.c 2 h51 rfl)).r 3 h49).g (tN h53)).b h49).b h48).b h49).b h48)
    obtain⟨h54,h⟩|⟨h54,h⟩:=aK h
    ·cases aM h;exact(xg.b h54).ret hZ
    ·exact((xg.b h54).a [.cn [0,8,9,10] []]).ct hZ cS (iS bB hm1) (ih1 (i1+1) (dn bB) h)
   ·exact((((((ud.r 8 h49).b h48).b h49).b h48).F 1).a [.cn [0,8,9,10] []]).ct hZ cS (iS bB hm1) (ih1 (i1+1) (dn bB) h)
theorem sX{aD:aJ}{r:Bool}(h:qW aD=some r):Good prog 50 [bX (aD.map aC.c)] (bQ r):=by
 refine gd func50 bZ 33 fun hr Z hZ=>?_
 rw[qW]at h;obtain⟨h1,h⟩|⟨h1,h⟩:=aK h
 ·cases aM h;exact(aY.b h1).ret hZ
 ·refine((aY.b h1).a [.cn [0,8,9,10] []]).lp hZ (Ib hZ (fun h=>?_) (by have:=(gY.sl (hr _ (aE (i:=0) rfl))).1;simpa using this) aD 0 rfl h);cases aM h;exact aY.ret hZ
def ez(aD:aC):Option aC:=((oa aD.args).bind fun y1=>(some (⟨aD.rel,y1⟩:aC)))
theorem uJ{aD:aC}{r:aC}(h:ez aD=some r):Good prog 116 [bw (aC.c aD)] (bw [aZ r.rel,cW 9 1 (r.args.map tx)]):=by
 refine gd func116 Kr 9 fun hr Z hZ=>?_
 rw[ez]at h;obtain⟨y1,h2,h⟩:=aH h;cases h;exact((aY.a [.n 5]).g (vg h2)).ret hZ
def gH(aD:aS):Option aS:=((ez aD.pat).bind fun y1=>(some (⟨aD.kind,y1,aD.left,aD.right⟩:aS)))
theorem mW{aD:aS}{r:aS}(h:gH aD=some r):Good prog 117 [bw (aS.c aD)] (bw [aB r.kind,aZ r.pat.rel,cW 9 1 (r.pat.args.map tx),aZ r.left,aZ r.right]):=by
 refine gd func117 Qb 8 fun hr Z hZ=>?_
 rw[gH]at h;obtain⟨y1,h2,h⟩:=aH h;cases h;exact(aY.g (uJ h2)).ret hZ
def ny(aD:ay)(k1:ay->Option ay):ay->Nat->ay->Option ay
 | [],i1,bY=>(k1 bY)
 |bg::cj,i1,bY=>((gH bg).bind fun qB=>(bif room ((bY.map aS.c).length+([[aB qB.kind,aZ qB.pat.rel,bX (qB.pat.args.map tx),aZ qB.left,aZ qB.right]]).length) 80 then(ny aD k1 cj (i1+1) (bY++([qB])))else none))
def uH(aD:ay):Option ay:=(ny aD (fun(cM:ay)=>(some cM)) aD 0 ([]:ay))
def BF(aD:ay)(W0:List aT)(dL:Int):St:=⟨[(3,b9 0),(6,bX (aD.map aS.c)),(7,aB ((aD.map aS.c).length:Int)),(8,aB dL)],[af 71 5 W0]⟩
theorem H7(hZ:Z.nt=19){aD:ay}{r:ay}{k1:ay->Option ay}(eC:∀(cM:ay),k1 cM=some r->Ax Z N f219 (Oe r) [1,1,1] ⟨[(3,b9 0)],[af 71 5 (cM.map aS.c)]⟩)(hm1:aD.length<=maxLen):∀(rest:ay) (i1:Nat) (bY:ay),aD.drop i1=rest->ny aD k1 rest i1 bY=some r->Ar Z N f219 (Oe r) [1,1,0,1,0] (rest.length+1) (BF aD (bY.map aS.c) (i1:Int)):=by
 intro rest
 induction rest with
 |nil=>
  intro i1 bY bB h;rw[ny]at h;refine aV fun N1 cq cS=>?_
  exact((aY.ge aS.c bB).a [.hl 0 [3] [0]]).ex hZ cq (eC bY h)
 |cons bg cj ih1=>
  intro i1 bY bB h;rw[ny]at h;refine aV fun N1 cq cS=>?_
  obtain⟨qB,h28,h⟩:=aH h;obtain⟨h29,h⟩:=bf h;exact(((((aY.lt aS.c bB).l (bK aS.c 5 (dc bB) rfl)).g (mW h28)).w (cA h29)).a [.cn [3,6,7,8] [4]]).cs hZ cS (BF aD ((bY.map aS.c)++([[aB qB.kind,aZ qB.pat.rel,bX (qB.pat.args.map tx),aZ qB.left,aZ qB.right]])) (IntKind.i64.wrap ((i1:Int)+1))) (by first| (simp only[iS bB hm1,mA]<;>rfl)| (simp only[iS bB hm1,mA,aC.c,aW.c,aS.c,Action.c,aN.c,aQ.c,ai.c,ah.c,Node.c,aF.c,di.c]<;>rfl)) (ih1 (i1+1) (bY++([qB])) (dn bB) h)
theorem G3{aD:ay}{r:ay}(h:uH aD=some r):Good prog 219 [bX (aD.map aS.c)] (cW 71 5 (r.map aS.c)):=by
 refine gd func219 [[some (71,5)]] 19 fun hr Z hZ=>?_
 rw[uH]at h;refine(aY.a [.L5 3,.cn [3,6,7,8] [0]]).lp hZ (H7 hZ (fun cM h=>?_) (by have:=(gY.sl (hr _ (aE (i:=0) rfl))).1;simpa using this) aD 0 ([]:ay) rfl h);cases aM h;exact aY.ret hZ
def lz(aD:aN)(y1:ay)(k1:fB->Option aN):fB->Nat->fB->Option aN
 | [],i1,dh=>(k1 dh)
 |bg::cj,i1,dh=>((ez bg.pat).bind fun y41=>(bif room ((dh.map Action.c).length+([[aB bg.kind,aZ y41.rel,bX (y41.args.map tx)]]).length) 48 then(lz aD y1 k1 cj (i1+1) (dh++([(⟨bg.kind,y41⟩:Action)])))else none))
def sN(aD:aN):Option aN:=((uH aD.conds).bind fun y1=>(lz aD y1 (fun(eO:fB)=>(some (⟨aD.name,aD.prio,y1,eO⟩:aN))) aD.dD 0 ([]:fB)))
def C5(aD:aN)(y1:ay)(W0:List aT)(dL:Int):St:=⟨[(2,bp 0 0),(3,bp 1 0),(15,bX (aD.dD.map Action.c)),(16,aB ((aD.dD.map Action.c).length:Int)),(17,aB dL)],[bu [aZ ([]),aB 0,D.nil,D.nil],bu [aZ aD.name,aB aD.prio,b9 2,b9 3],af 71 5 (y1.map aS.c),af 154 3 W0]⟩
theorem Ip(hZ:Z.nt=34){aD:aN}{y1:ay}{r:aN}{k1:fB->Option aN}(eC:∀(eO:fB),k1 eO=some r->Ax Z N f182 (Yh r) [1,1,1] ⟨[(2,bp 0 0),(3,bp 1 0)],[bu [aZ ([]),aB 0,D.nil,D.nil],bu [aZ aD.name,aB aD.prio,b9 2,b9 3],af 71 5 (y1.map aS.c),af 154 3 (eO.map Action.c)]⟩)(hm1:aD.dD.length<=maxLen):∀(rest:fB) (i1:Nat) (dh:fB),aD.dD.drop i1=rest->lz aD y1 k1 rest i1 dh=some r->Ar Z N f182 (Yh r) [1,1,0,1,0] (rest.length+1) (C5 aD y1 (dh.map Action.c) (i1:Int)):=by
 intro rest
 induction rest with
 |nil=>
  intro i1 dh bB h;rw[lz]at h;refine aV fun N1 cq cS=>?_
  exact((aY.ge Action.c bB).a [.hl 0 [2,3] [0,1,2,3]]).ex hZ cq (eC dh h)
 |cons bg cj ih1=>
  intro i1 dh bB h;rw[lz]at h;refine aV fun N1 cq cS=>?_
  obtain⟨y41,h42,h⟩:=aH h;obtain⟨h43,h⟩:=bf h;exact((((((aY.lt Action.c bB).l (bK Action.c 3 (dc bB) rfl)).a [.n2 [0,1,2,3,4,5,6,7,8,9,10,11] [0,1,2,3,4,5,6,7,8,9,10,11] 8 9 [0,1] [5]]).g (uJ h42)).w (cA h43)).a [.cn [2,3,15,16,17] [0,1,2,7]]).cs hZ cS (C5 aD y1 ((dh.map Action.c)++([[aB bg.kind,aZ y41.rel,bX (y41.args.map tx)]])) (IntKind.i64.wrap ((i1:Int)+1))) (by first| (simp only[iS bB hm1,mA]<;>rfl)| (simp only[iS bB hm1,mA,aC.c,aW.c,aS.c,Action.c,aN.c,aQ.c,ai.c,ah.c,Node.c,aF.c,di.c]<;>rfl)) (ih1 (i1+1) (dh++([(⟨bg.kind,y41⟩:Action)])) (dn bB) h)
theorem HA{aD:aN}{r:aN}(h:sN aD=some r):Good prog 182 [bw (aN.c aD)] (bw [aZ r.name,aB r.prio,cW 71 5 (r.conds.map aS.c),cW 154 3 (r.dD.map Action.c)]):=by
 refine gd func182 Wd 34 fun hr Z hZ=>?_
 rw[sN]at h;obtain⟨y1,h2,h⟩:=aH h;refine(((aY.a [.n 9]).g (G3 h2)).a [.pb 3 3 154 3,.cn [2,3,15,16,17] [1,3,2,4]]).lp hZ (Ip hZ (fun eO h=>?_) (by have:=(gY.sl (gY.agg (hr _ (aE (i:=0) rfl)) (.sl (aD.dD.map Action.c)) (by simp))).1;simpa using this) aD.dD 0 ([]:fB) rfl h);cases h;exact aY.ret hZ
def o5(aD:az)(k1:az->Option az):az->Nat->az->Option az
 | [],i1,bY=>(k1 bY)
 |bg::cj,i1,bY=>((sN bg).bind fun qB=>(bif room ((bY.map aN.c).length+([[aZ qB.name,aB qB.prio,bX (qB.conds.map aS.c),bX (qB.dD.map Action.c)]]).length) 72 then(o5 aD k1 cj (i1+1) (bY++([qB])))else none))
def rN(aD:az):Option az:=(o5 aD (fun(cM:az)=>(some cM)) aD 0 ([]:az))
def BH(aD:az)(W0:List aT)(dL:Int):St:=⟨[(3,b9 0),(6,bX (aD.map aN.c)),(7,aB ((aD.map aN.c).length:Int)),(8,aB dL)],[af 63 4 W0]⟩
theorem HB(hZ:Z.nt=19){aD:az}{r:az}{k1:az->Option az}(eC:∀(cM:az),k1 cM=some r->Ax Z N f114 (a4K r) [1,1,1] ⟨[(3,b9 0)],[af 63 4 (cM.map aN.c)]⟩)(hm1:aD.length<=maxLen):∀(rest:az) (i1:Nat) (bY:az),aD.drop i1=rest->o5 aD k1 rest i1 bY=some r->Ar Z N f114 (a4K r) [1,1,0,1,0] (rest.length+1) (BH aD (bY.map aN.c) (i1:Int)):=by
 intro rest
 induction rest with
 |nil=>
  intro i1 bY bB h;rw[o5]at h;refine aV fun N1 cq cS=>?_
  exact((aY.ge aN.c bB).a [.hl 0 [3] [0]]).ex hZ cq (eC bY h)
 |cons bg cj ih1=>
  intro i1 bY bB h;rw[o5]at h;refine aV fun N1 cq cS=>?_
  obtain⟨qB,h28,h⟩:=aH h;obtain⟨h29,h⟩:=bf h;exact(((((aY.lt aN.c bB).l (bK aN.c 4 (dc bB) rfl)).g (HA h28)).w (cA h29)).a [.cn [3,6,7,8] [5]]).cs hZ cS (BH aD ((bY.map aN.c)++([[aZ qB.name,aB qB.prio,bX (qB.conds.map aS.c),bX (qB.dD.map Action.c)]])) (IntKind.i64.wrap ((i1:Int)+1))) (by first| (simp only[iS bB hm1,mA]<;>rfl)| (simp only[iS bB hm1,mA,aC.c,aW.c,aS.c,Action.c,aN.c,aQ.c,ai.c,ah.c,Node.c,aF.c,di.c]<;>rfl)) (ih1 (i1+1) (bY++([qB])) (dn bB) h)
theorem zX{aD:az}{r:az}(h:rN aD=some r):Good prog 114 [bX (aD.map aN.c)] (cW 63 4 (r.map aN.c)):=by
 refine gd func114 [[some (63,4)]] 19 fun hr Z hZ=>?_
 rw[rN]at h;refine(aY.a [.L5 3,.cn [3,6,7,8] [0]]).lp hZ (HB hZ (fun cM h=>?_) (by have:=(gY.sl (hr _ (aE (i:=0) rfl))).1;simpa using this) aD 0 ([]:az) rfl h);cases aM h;exact aY.ret hZ
def gL(aD:aI)(k1:aP->Option aP):aI->Nat->aP->List (Bytes×Bool)->Option aP
 | [],i1,bY,Db=>(k1 bY)
 |bg::cj,i1,bY,Db=>((nO bg).bind fun y52=>(bif y52 then(bif !(MR false bg Db)then((mQ (IntKind.i64.wrap (((bY.map aW.c).length:Int)+1))).bind fun y56=>(bif decide (([63]:Bytes).length+(y56:Bytes).length<=maxLen)then(bif room ((bY.map aW.c).length+([[aZ bg,aZ (([63])++y56)]]).length) 32 then(gL aD k1 cj (i1+1) (bY++([(⟨bg,([63])++y56⟩:aW)])) (QO bg true Db))else none)else none))else(gL aD k1 cj (i1+1) bY Db))else(gL aD k1 cj (i1+1) bY Db)))
def qM(aD:aI):Option aP:=(gL aD (fun(cM:aP)=>(some cM)) aD 0 ([]:aP) ([]:List (Bytes×Bool)))
def AQ(aD:aI)(W0:List aT)(W1:List (D×D))(dL:Int):St:=⟨[(3,b9 0),(4,b9 1),(8,bX (aD.map tx)),(9,aB ((aD.map tx).length:Int)),(10,aB dL)],[af 113 2 W0,Ob.mp W1]⟩
theorem G7(hZ:Z.nt=36){aD:aI}{r:aP}{k1:aP->Option aP}(eC:∀(cM:aP),k1 cM=some r->Ax Z N f142 (LG r) [1,1,1,1] ⟨[(3,b9 0)],[af 113 2 (cM.map aW.c)]⟩)(hm1:aD.length<=maxLen):∀(rest:aI) (i1:Nat) (bY:aP) (Db:List (Bytes×Bool)),aD.drop i1=rest->gL aD k1 rest i1 bY Db=some r->Ar Z N f142 (LG r) [1,1,1,0,1,0] (rest.length+1) (AQ aD (bY.map aW.c) (Db.map (kS eB)) (i1:Int)):=by
 intro rest
 induction rest with
 |nil=>
  intro i1 bY Db bB h;rw[gL]at h;refine aV fun N1 cq cS=>?_
  exact((aY.ge tx bB).a [.hl 0 [3] [0]]).ex hZ cq (eC bY h)
 |cons bg cj ih1=>
  intro i1 bY Db bB h;rw[gL]at h;refine aV fun N1 cq cS=>?_
  obtain⟨y52,h53,h⟩:=aH h;have jR:=(((aY.lt tx bB).l (bK tx 1 (dc bB) rfl)).g (qH h53))
  obtain⟨h54,h⟩|⟨h54,h⟩:=aK h
  ·have k6:=((((jR.r 3 h54).w (show plk prog 185 (Db.map (kS eB)) (aZ bg) false=some (bQ (MR false bg Db))from aBa (e:=eB) (z:=false) (by kernel_rfl))).a [.d (bQ (MR false bg Db))]).r 2 h54)
   obtain⟨h55,h⟩|⟨h55,h⟩:=aK h
   ·obtain⟨y56,h57,h⟩:=aH h;obtain⟨h58,h⟩:=bf h;obtain⟨h59,h⟩:=bf h;exact(((((((k6.b h55).w (show MP (aZ bg) (bQ true) (Db.map (kS eB))=some ((QO bg true Db).map (kS eB))from a2U (e:=eB) (m:=Db))).a [.kv ((QO bg true Db).map (kS eB))]).g (zT h57)).w (bh h58)).w (cA h59)).a [.cn [3,4,8,9,10] [3,1]]).cs hZ cS (AQ aD ((bY.map aW.c)++([[aZ bg,aZ (([63])++y56)]])) ((QO bg true Db).map (kS eB)) (IntKind.i64.wrap ((i1:Int)+1))) (by first| (simp only[iS bB hm1,mA]<;>rfl)| (simp only[iS bB hm1,mA,aC.c,aW.c,aS.c,Action.c,aN.c,aQ.c,ai.c,ah.c,Node.c,aF.c,di.c]<;>rfl)) (ih1 (i1+1) (bY++([(⟨bg,([63])++y56⟩:aW)])) (QO bg true Db) (dn bB) h)
   ·exact((k6.b h55).a [.cn [3,4,8,9,10] [0,1]]).ct hZ cS (iS bB hm1) (ih1 (i1+1) bY Db (dn bB) h)
  ·exact(((jR.r 5 h54).F 1).a [.cn [3,4,8,9,10] [0,1]]).ct hZ cS (iS bB hm1) (ih1 (i1+1) bY Db (dn bB) h)
theorem z6{aD:aI}{r:aP}(h:qM aD=some r):Good prog 142 [bX (aD.map tx)] (cW 113 2 (r.map aW.c)):=by
 refine gd func142 FL 36 fun hr Z hZ=>?_
 rw[qM]at h;refine(aY.a [.L5 3,.cn [3,4,8,9,10] [0,1]]).lp hZ (G7 hZ (fun cM h=>?_) (by have:=(gY.sl (hr _ (aE (i:=0) rfl))).1;simpa using this) aD 0 ([]:aP) ([]:List (Bytes×Bool)) rfl h);cases aM h;exact aY.ret hZ
def iQ(aD:aN)(k1:aI->Option aP):ay->Nat->aI->Option aP
 | [],i1,bY=>(k1 bY)
 |bg::cj,i1,bY=>((uN bg).bind fun qB=>(bif room ((bY.map tx).length+(qB.map tx).length) 16 then(iQ aD k1 cj (i1+1) (bY++qB))else none))
def qI(aD:aN):Option aP:=(iQ aD (fun(cM:aI)=>((qM cM).bind fun B5=>(some B5))) aD.conds 0 ([]:aI))
def AJ(aD:aN)(W0:List aT)(dL:Int):St:=⟨[(3,b9 0),(7,bX (aD.conds.map aS.c)),(8,aB ((aD.conds.map aS.c).length:Int)),(9,aB dL)],[af 9 1 W0]⟩
theorem Fx(hZ:Z.nt=20){aD:aN}{r:aP}{k1:aI->Option aP}(eC:∀(cM:aI),k1 cM=some r->Ax Z N f81 (LG r) [1,1,1] ⟨[(3,b9 0)],[af 9 1 (cM.map tx)]⟩)(hm1:aD.conds.length<=maxLen):∀(rest:ay) (i1:Nat) (bY:aI),aD.conds.drop i1=rest->iQ aD k1 rest i1 bY=some r->Ar Z N f81 (LG r) [1,1,0,1,0] (rest.length+1) (AJ aD (bY.map tx) (i1:Int)):=by
 intro rest
 induction rest with
 |nil=>
  intro i1 bY bB h;rw[iQ]at h;refine aV fun N1 cq cS=>?_
  exact((aY.ge aS.c bB).a [.hl 0 [3] [0]]).ex hZ cq (eC bY h)
 |cons bg cj ih1=>
  intro i1 bY bB h;rw[iQ]at h;refine aV fun N1 cq cS=>?_
  obtain⟨qB,h28,h⟩:=aH h;obtain⟨h29,h⟩:=bf h;exact(((((aY.lt aS.c bB).l (bK aS.c 5 (dc bB) rfl)).g (BI h28)).w (cA h29)).a [.cn [3,7,8,9] [3]]).cs hZ cS (AJ aD ((bY.map tx)++(qB.map tx)) (IntKind.i64.wrap ((i1:Int)+1))) (by first| (simp only[iS bB hm1,mA]<;>rfl)| (simp only[iS bB hm1,mA,aC.c,aW.c,aS.c,Action.c,aN.c,aQ.c,ai.c,ah.c,Node.c,aF.c,di.c]<;>rfl)) (ih1 (i1+1) (bY++qB) (dn bB) h)
theorem yw{aD:aN}{r:aP}(h:qI aD=some r):Good prog 81 [bw (aN.c aD)] (cW 113 2 (r.map aW.c)):=by
 refine gd func81 FL 20 fun hr Z hZ=>?_
 rw[qI]at h;refine(aY.a [.L5 3,.cn [3,7,8,9] [1]]).lp hZ (Fx hZ (fun cM h=>?_) (by have:=(gY.sl (gY.agg (hr _ (aE (i:=0) rfl)) (.sl (aD.conds.map aS.c)) (by simp))).1;simpa using this) aD.conds 0 ([]:aI) rfl h);obtain⟨B5,h31,h⟩:=aH h;cases aM h;exact(aY.g (z6 h31)).ret hZ
def jG(aD:Bytes)(aa:aP)(k1:Option Bytes):aP->Nat->Option Bytes
 | [],i1=>(k1)
 |bg::cj,i1=>(bif (bg.var:Bytes)==aD then(some bg.value)else(jG aD aa k1 cj (i1+1)))
def ja(aD:Bytes)(aa:aP):Option Bytes:=(jG aD aa (some aD) aa 0)
def G8(aD:Bytes)(aa:aP)(dL:Int):St:=⟨[(0,aZ aD),(7,bX (aa.map aW.c)),(8,aB ((aa.map aW.c).length:Int)),(9,aB dL)],[]⟩
theorem F1(hZ:Z.nt=21){aD:Bytes}{aa:aP}{r:Bytes}{k1:Option Bytes}(eC:k1=some r->Ax Z N f231 (.q bZ (aZ r)) [1,1] ⟨[(0,aZ aD)],[]⟩)(hm1:aa.length<=maxLen):∀(rest:aP) (i1:Nat),aa.drop i1=rest->jG aD aa k1 rest i1=some r->Ar Z N f231 (.q bZ (aZ r)) [1,0,1,0] (rest.length+1) (G8 aD aa (i1:Int)):=by
 intro rest
 induction rest with
 |nil=>
  intro i1 bB h;rw[jG]at h;refine aV fun N1 cq cS=>?_
  exact((aY.ge aW.c bB).a [.hl 0 [0] []]).ex hZ cq (eC h)
 |cons bg cj ih1=>
  intro i1 bB h;rw[jG]at h;refine aV fun N1 cq cS=>?_
  have fG:=((aY.lt aW.c bB).l (bK aW.c 2 (dc bB) rfl))
  obtain⟨h13,h⟩|⟨h13,h⟩:=aK h
  ·cases h;exact(fG.b h13).ret hZ
  ·exact((fG.b h13).a [.cn [0,7,8,9] []]).ct hZ cS (iS bB hm1) (ih1 (i1+1) (dn bB) h)
theorem uK{aD:Bytes}{aa:aP}{r:Bytes}(h:ja aD aa=some r):Good prog 231 [aZ aD,bX (aa.map aW.c)] (aZ r):=by
 refine gd func231 bZ 21 fun hr Z hZ=>?_
 rw[ja]at h;refine(aY.a [.cn [0,7,8,9] []]).lp hZ (F1 hZ (fun h=>?_) (by have:=(gY.sl (hr _ (aE (i:=1) rfl))).1;simpa using this) aa 0 rfl h);cases aM h;exact aY.ret hZ
def mU(aD:aS)(aa:aP)(y1:Bytes)(y3:Bytes)(k1:aI->Option aS):aI->Nat->aI->Option aS
 | [],i1,nk=>(k1 nk)
 |bg::cj,i1,nk=>((ja bg aa).bind fun IX=>(bif room ((nk.map tx).length+([[aZ IX]]).length) 16 then(mU aD aa y1 y3 k1 cj (i1+1) (nk++([IX])))else none))
def nP(aD:aS)(aa:aP):Option aS:=((ja aD.left aa).bind fun y1=>((ja aD.right aa).bind fun y3=>(mU aD aa y1 y3 (fun(r9:aI)=>(some (⟨aD.kind,(⟨aD.pat.rel,r9⟩:aC),y1,y3⟩:aS))) aD.pat.args 0 ([]:aI))))
def AK(aD:aS)(aa:aP)(y1:Bytes)(y3:Bytes)(W0:List aT)(dL:Int):St:=⟨[(1,bX (aa.map aW.c)),(4,bp 0 0),(5,bp 1 0),(26,bX (aD.pat.args.map tx)),(27,aB ((aD.pat.args.map tx).length:Int)),(28,aB dL)],[bu [aB 0,aZ ([]),D.nil,aZ ([]),aZ ([])],bu [aB aD.kind,aZ aD.pat.rel,b9 2,aZ y1,aZ y3],af 9 1 W0]⟩
theorem Fy(hZ:Z.nt=44){aD:aS}{aa:aP}{y1:Bytes}{y3:Bytes}{r:aS}{k1:aI->Option aS}(eC:∀(r9:aI),k1 r9=some r->Ax Z N f216 (a4J r) [1,1,1,1] ⟨[(4,bp 0 0),(5,bp 1 0)],[bu [aB 0,aZ ([]),D.nil,aZ ([]),aZ ([])],bu [aB aD.kind,aZ aD.pat.rel,b9 2,aZ y1,aZ y3],af 9 1 (r9.map tx)]⟩)(hm1:aD.pat.args.length<=maxLen):∀(rest:aI) (i1:Nat) (nk:aI),aD.pat.args.drop i1=rest->mU aD aa y1 y3 k1 rest i1 nk=some r->Ar Z N f216 (a4J r) [1,1,1,0,1,0] (rest.length+1) (AK aD aa y1 y3 (nk.map tx) (i1:Int)):=by
 intro rest
 induction rest with
 |nil=>
  intro i1 nk bB h;rw[mU]at h;refine aV fun N1 cq cS=>?_
  exact((aY.ge tx bB).a [.hl 0 [4,5] [0,1,2]]).ex hZ cq (eC nk h)
 |cons bg cj ih1=>
  intro i1 nk bB h;rw[mU]at h;refine aV fun N1 cq cS=>?_
  obtain⟨IX,h32,h⟩:=aH h;obtain⟨h33,h⟩:=bf h;exact((((((aY.lt tx bB).l (bK tx 1 (dc bB) rfl)).a [.n 7]).g (uK h32)).w (cA h33)).a [.cn [1,4,5,26,27,28] [0,1,4]]).cs hZ cS (AK aD aa y1 y3 ((nk.map tx)++([[aZ IX]])) (IntKind.i64.wrap ((i1:Int)+1))) (by first| (simp only[iS bB hm1,mA]<;>rfl)| (simp only[iS bB hm1,mA,aC.c,aW.c,aS.c,Action.c,aN.c,aQ.c,ai.c,ah.c,Node.c,aF.c,di.c]<;>rfl)) (ih1 (i1+1) (nk++([IX])) (dn bB) h)
theorem qw{aD:aS}{aa:aP}{r:aS}(h:nP aD aa=some r):Good prog 216 [bw (aS.c aD),bX (aa.map aW.c)] (bw [aB r.kind,aZ r.pat.rel,cW 9 1 (r.pat.args.map tx),aZ r.left,aZ r.right]):=by
 refine gd func216 Qb 44 fun hr Z hZ=>?_
 rw[nP]at h;obtain⟨y1,h2,y3,h4,h⟩:=bR h;refine((((aY.a [.n 12]).g (uK h2)).g (uK h4)).a [.pb 2 2 9 1,.cn [1,4,5,26,27,28] [1,2,3]]).lp hZ (Fy hZ (fun r9 h=>?_) (by have:=(gY.sl (gY.agg (hr _ (aE (i:=0) rfl)) (.sl (aD.pat.args.map tx)) (by simp))).1;simpa using this) aD.pat.args 0 ([]:aI) rfl h);cases h;exact aY.ret hZ
def mT(aD:aN)(y1:aP)(k1:ay->Option ay):ay->Nat->ay->Option ay
 | [],i1,bn=>(k1 bn)
 |bg::cj,i1,bn=>((nP bg y1).bind fun Dm=>(bif room ((bn.map aS.c).length+([[aB Dm.kind,aZ Dm.pat.rel,bX (Dm.pat.args.map tx),aZ Dm.left,aZ Dm.right]]).length) 80 then(mT aD y1 k1 cj (i1+1) (bn++([Dm])))else none))
def sZ(aD:aN):Option ay:=((qI aD).bind fun y1=>(mT aD y1 (fun(cM:ay)=>(some cM)) aD.conds 0 ([]:ay)))
def AI(aD:aN)(y1:aP)(W0:List aT)(dL:Int):St:=⟨[(3,b9 0),(4,b9 1),(10,bX (aD.conds.map aS.c)),(11,aB ((aD.conds.map aS.c).length:Int)),(12,aB dL)],[af 113 2 (y1.map aW.c),af 71 5 W0]⟩
theorem Fw(hZ:Z.nt=24){aD:aN}{y1:aP}{r:ay}{k1:ay->Option ay}(eC:∀(cM:ay),k1 cM=some r->Ax Z N f176 (Oe r) [1,1,1,1] ⟨[(4,b9 0)],[af 71 5 (cM.map aS.c)]⟩)(hm1:aD.conds.length<=maxLen):∀(rest:ay) (i1:Nat) (bn:ay),aD.conds.drop i1=rest->mT aD y1 k1 rest i1 bn=some r->Ar Z N f176 (Oe r) [1,1,1,0,1,0] (rest.length+1) (AI aD y1 (bn.map aS.c) (i1:Int)):=by
 intro rest
 induction rest with
 |nil=>
  intro i1 bn bB h;rw[mT]at h;refine aV fun N1 cq cS=>?_
  exact((aY.ge aS.c bB).a [.hl 0 [4] [1]]).ex hZ cq (eC bn h)
 |cons bg cj ih1=>
  intro i1 bn bB h;rw[mT]at h;refine aV fun N1 cq cS=>?_
  obtain⟨Dm,h30,h⟩:=aH h;obtain⟨h31,h⟩:=bf h;exact(((((aY.lt aS.c bB).l (bK aS.c 5 (dc bB) rfl)).g (qw h30)).w (cA h31)).a [.cn [3,4,10,11,12] [0,5]]).cs hZ cS (AI aD y1 ((bn.map aS.c)++([[aB Dm.kind,aZ Dm.pat.rel,bX (Dm.pat.args.map tx),aZ Dm.left,aZ Dm.right]])) (IntKind.i64.wrap ((i1:Int)+1))) (by first| (simp only[iS bB hm1,mA]<;>rfl)| (simp only[iS bB hm1,mA,aC.c,aW.c,aS.c,Action.c,aN.c,aQ.c,ai.c,ah.c,Node.c,aF.c,di.c]<;>rfl)) (ih1 (i1+1) (bn++([Dm])) (dn bB) h)
theorem Eo{aD:aN}{r:ay}(h:sZ aD=some r):Good prog 176 [bw (aN.c aD)] (cW 71 5 (r.map aS.c)):=by
 refine gd func176 [[some (71,5)]] 24 fun hr Z hZ=>?_
 rw[sZ]at h;obtain⟨y1,h2,h⟩:=aH h;refine((aY.g (yw h2)).a [.L5 4,.cn [3,4,10,11,12] [1,2]]).lp hZ (Fw hZ (fun cM h=>?_) (by have:=(gY.sl (gY.agg (hr _ (aE (i:=0) rfl)) (.sl (aD.conds.map aS.c)) (by simp))).1;simpa using this) aD.conds 0 ([]:ay) rfl h);cases aM h;exact aY.ret hZ
def o7(aD:aI)(aa:aI)(k1:Option Bool):aI->Nat->Option Bool
 | [],i1=>(k1)
 |bg::cj,i1=>((gA aa (i1:Int)).bind fun x22=>(bif !((bg:Bytes)==x22)then(some false)else(o7 aD aa k1 cj (i1+1))))
def rO(aD:aI)(aa:aI):Option Bool:=(bif (((aD.map tx).length:Int):Int) != ((aa.map tx).length:Int)then(some false)else(o7 aD aa (some true) aD 0))
def Iw(aD:aI)(aa:aI)(dL:Int):St:=⟨[(0,bX (aD.map tx)),(1,bX (aa.map tx)),(12,aB ((aD.map tx).length:Int)),(13,aB dL)],[]⟩
theorem HH(hZ:Z.nt=26){aD:aI}{aa:aI}{r:Bool}{k1:Option Bool}(eC:k1=some r->Ax Z N f110 (.q bZ (bQ r)) [1,1,1] ⟨[],[]⟩)(hm1:aD.length<=maxLen):∀(rest:aI) (i1:Nat),aD.drop i1=rest->o7 aD aa k1 rest i1=some r->Ar Z N f110 (.q bZ (bQ r)) [1,1,0,1,0] (rest.length+1) (Iw aD aa (i1:Int)):=by
 intro rest
 induction rest with
 |nil=>
  intro i1 bB h;rw[o7]at h;refine aV fun N1 cq cS=>?_
  exact((aY.ge tx bB).a [.hl 0 [] []]).ex hZ cq (eC h)
 |cons bg cj ih1=>
  intro i1 bB h;rw[o7]at h;refine aV fun N1 cq cS=>?_
  obtain⟨x22,h23,h⟩:=aH h;have fG:=((((aY.lt tx bB).a [.n 8]).l (bK tx 1 (dc bB) rfl)).l (dW tx 1 h23 rfl))
  obtain⟨h24,h⟩|⟨h24,h⟩:=aK h
  ·cases aM h;exact(fG.b h24).ret hZ
  ·exact((fG.b h24).a [.cn [0,1,12,13] []]).ct hZ cS (iS bB hm1) (ih1 (i1+1) (dn bB) h)
theorem za{aD:aI}{aa:aI}{r:Bool}(h:rO aD aa=some r):Good prog 110 [bX (aD.map tx),bX (aa.map tx)] (bQ r):=by
 refine gd func110 bZ 26 fun hr Z hZ=>?_
 rw[rO]at h;obtain⟨h1,h⟩|⟨h1,h⟩:=aK h
 ·cases aM h;exact(aY.b h1).ret hZ
 ·refine((aY.b h1).a [.cn [0,1,12,13] []]).lp hZ (HH hZ (fun h=>?_) (by have:=(gY.sl (hr _ (aE (i:=0) rfl))).1;simpa using this) aD 0 rfl h);cases aM h;exact aY.ret hZ
def gS(aD:aC)(aa:aC):Option Bool:=(bif (aD.rel:Bytes)==aa.rel then((rO aD.args aa.args).bind fun y2=>(some y2))else(some false))
theorem qJ{aD:aC}{aa:aC}{r:Bool}(h:gS aD aa=some r):Good prog 57 [bw (aC.c aD),bw (aC.c aa)] (bQ r):=by
 refine gd func57 bZ 17 fun hr Z hZ=>?_
 rw[gS]at h;obtain⟨h1,h⟩|⟨h1,h⟩:=aK h
 ·obtain⟨y2,h3,h⟩:=aH h;cases aM h;exact(((aY.r 5 h1).g (za h3)).b h1).ret hZ
 ·cases aM h;exact(aY.r 6 h1).ret hZ
def lT(aD:aS)(aa:aS):Option Bool:=(bif (aD.kind:Int)==aa.kind then(bif (aD.left:Bytes)==aa.left then(bif (aD.right:Bytes)==aa.right then((gS aD.pat aa.pat).bind fun y4=>(some y4))else(some false))else(some false))else(some false))
theorem wI{aD:aS}{aa:aS}{r:Bool}(h:lT aD aa=some r):Good prog 58 [bw (aS.c aD),bw (aS.c aa)] (bQ r):=by
 refine gd func58 bZ 31 fun hr Z hZ=>?_
 rw[lT]at h;obtain⟨h1,h⟩|⟨h1,h⟩:=aK h
 ·have lC:=(aY.r 6 h1)
  obtain⟨h2,h⟩|⟨h2,h⟩:=aK h
  ·have fG:=(lC.r 6 h2)
   obtain⟨h3,h⟩|⟨h3,h⟩:=aK h
   ·obtain⟨y4,h5,h⟩:=aH h;cases aM h;exact(((fG.r 5 h3).g (qJ h5)).b h3).ret hZ
   ·cases aM h;exact(fG.r 6 h3).ret hZ
  ·cases aM h;exact((lC.r 6 h2).F 6).ret hZ
 ·cases aM h;exact((aY.r 6 h1).F 12).ret hZ
def uD(aD:aC):Option aC:=((qM aD.args).bind fun y1=>((nP (⟨0,aD,[],[]⟩:aS) y1).bind fun y3=>(some y3.pat)))
theorem BD{aD:aC}{r:aC}(h:uD aD=some r):Good prog 218 [bw (aC.c aD)] (bw [aZ r.rel,cW 9 1 (r.args.map tx)]):=by
 refine gd func218 Kr 10 fun hr Z hZ=>?_
 rw[uD]at h;obtain⟨y1,h2,y3,h4,h⟩:=bR h;cases h;exact((((aY.a [.n 5]).g (z6 h2)).a [.d (bw [aB y3.kind,aZ y3.pat.rel,cW 9 1 (y3.pat.args.map tx),aZ y3.left,aZ y3.right])]).w (show Good prog 216 [bw [aB 0,aZ aD.rel,bX (aD.args.map tx),aZ ([]),aZ ([])],bX (y1.map aW.c)] (bw [aB y3.kind,aZ y3.pat.rel,cW 9 1 (y3.pat.args.map tx),aZ y3.left,aZ y3.right])from by first| (simpa only[bI,bA,cF,cD,cI]using qw h4)|exact qw h4| (have t:=qw h4;simp only[bI,cD,cI,aS.c]at t;exact t))).ret hZ
end Go.Cx

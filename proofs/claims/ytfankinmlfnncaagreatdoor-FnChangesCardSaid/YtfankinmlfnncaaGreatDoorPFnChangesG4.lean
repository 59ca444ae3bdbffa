/- What functions of the program compute, and the walks that show it. No condition. -/
import Derived.Test.YtfankinmlfnncaaGreatDoorPFnChangesG3
set_option linter.unusedVariables false
set_option linter.unusedSimpArgs false
namespace Go.Cx
open Go.RowKit Go.Proofs Tryz
set_option maxRecDepth 100000
variable{Z:wV}{N:Nat->St->Prop}
def iG(y1:ck×(Bytes×Int))(k1:bM->Int->Int->aI->Option (ck×aD)):Nat->Int->bM->Int->Int->aI->Option (ck×aD)
 |0,_,_,_,_,_=>none
 |n1+1,dX,fK,eH,eL,dh=>(bif decide ((dX:Int)<y1.2.2)then((j9 (⟨fK,eH,eL⟩:ck)).bind fun B6=>(bif room ((dh.map tx).length+([[aZ B6.2]]).length) 16 then(iG y1 k1 n1 (IntKind.i64.wrap (dX+1)) B6.1.b B6.1.i B6.1.h (dh++([B6.2])))else none))else(k1 fK eH eL dh))
def fO(aC:ck):Option (ck×aD):=((pO aC).bind fun y1=>(iG y1 (fun(nC:bM) (nD:Int) (nE:Int) (eN:aI)=>(some ((⟨nC,nD,nE⟩:ck),(⟨y1.2.1,eN⟩:aD)))) fuel 0 y1.1.b y1.1.i y1.1.h ([]:aI)))
def E6(jB:Value)(y1:ck×(Bytes×Int))(dX:Int)(eH:Int)(eL:Int)(W1:List aR)(W4:List aR):St:=⟨[(0,bp 0 0),(2,bp 1 0),(4,aB y1.2.2),(5,bp 2 0),(6,aB dX)],[Ob.CW [bX W1,aB eH,aB eL] jB,bu [aZ ([]),D.nil],bu [aZ y1.2.1,b9 3],af 9 1 W4]⟩
theorem Lt(hZ:Z.nt=27){jB:Value}{y1:ck×(Bytes×Int)}{r:ck×aD}{k1:bM->Int->Int->aI->Option (ck×aD)}(eA:∀(nC:bM) (nD:Int) (nE:Int) (eN:aI),k1 nC nD nE eN=some r->Ax Z N f113 (.p OL jB (ck.c r.1) (bw [aZ r.2.rel,cV 9 1 (r.2.args.map tx)])) [1,1,1,1] ⟨[(2,bp 1 0),(5,bp 2 0)],[Ob.CW [bX (nC.map yx),aB nD,aB nE] jB,bu [aZ ([]),D.nil],bu [aZ y1.2.1,b9 3],af 9 1 (eN.map tx)]⟩):∀(n1:Nat) (dX:Int) (fK:bM) (eH:Int) (eL:Int) (dh:aI),iG y1 k1 n1 dX fK eH eL dh=some r->Ar Z N f113 (.p OL jB (ck.c r.1) (bw [aZ r.2.rel,cV 9 1 (r.2.args.map tx)])) [1,1,1,0,1,0] n1 (E6 jB y1 dX eH eL (fK.map yx) (dh.map tx)):=by
 intro n
 induction n with
 |zero=>intro dX fK eH eL dh h;simp[iG]at h
 |succ n1 ih1=>
  intro dX fK eH eL dh h;rw[iG]at h;refine aT fun N1 cq cS=>?_
  obtain⟨h27,h⟩|⟨h27,h⟩:=aK h
  ·obtain⟨B6,h31,h⟩:=aG h;obtain⟨h32,h⟩:=bf h;exact(((((aY.b h27).a [.n2 [0,1,2,3,4,5,6,7] [0,1,2,3,4,5,6,7] 3 5 [0,1] [0],.gp jK (ck.c B6.1) (aZ B6.2)]).w (show iz prog 181 (ck.c (⟨fK,eH,eL⟩:ck)) (ck.c B6.1) [] (aZ B6.2)from by simpa only[bI,bA,cF,cD,cI]using xz h31)).w (cA h32)).a [.cn [0,2,4,5,6] [0,1,2,5]]).cs hZ cS (E6 jB y1 (IntKind.i64.wrap (dX+1)) B6.1.i B6.1.h (B6.1.b.map yx) ((dh.map tx)++([[aZ B6.2]]))) (by simp only[mA]<;>rfl) (ih1 (IntKind.i64.wrap (dX+1)) B6.1.b B6.1.i B6.1.h (dh++([B6.2])) h)
  ·exact((aY.b h27).a [.hl 0 [2,5] [0,1,2,3]]).ex hZ cq (eA fK eH eL dh h)
theorem ou{aC:ck}{r:ck×aD}(h:fO aC=some r):iz prog 113 (ck.c aC) (ck.c r.1) [] (bw [aZ r.2.rel,cV 9 1 (r.2.args.map tx)]):=by
 refine L4 func113 OL 27 [bX (aC.b.map yx),aB aC.i,aB aC.h] [] [] fun hr jB Z hZ=>?_
 rw[fO]at h;obtain⟨y1,h2,h⟩:=aG h;refine((aY.hp jK (D4 h2)).a [.pb 2 1 9 1,.cn [0,2,4,5,6] [0,1,2,3]]).lp hZ (Lt hZ (fun nC nD nE eN h=>?_) fuel 0 y1.1.b y1.1.i y1.1.h ([]:aI) h);cases h;exact aY.ret hZ
def um(aC:Bytes)(aa:Bytes):Option Int:=(bif Op.bytesLess aC aa then(some (-1))else(bif !(Op.bytesLess aC aa||(aC:Bytes)==aa)then(some 1)else(some 0)))
theorem z7{aC:Bytes}{aa:Bytes}{r:Int}(h:um aC aa=some r):Good prog 154 [aZ aC,aZ aa] (aB r):=by
 refine gd func154 bZ 13 fun hr Z hZ=>?_
 rw[um]at h;obtain⟨h1,h⟩|⟨h1,h⟩:=aK h
 ·cases h;exact(aY.b h1).ret hZ
 ·obtain⟨h2,h⟩|⟨h2,h⟩:=aK h
  ·obtain rfl:=aM h;exact((aY.b h1).b h2).ret hZ
  ·obtain rfl:=aM h;exact((aY.b h1).b h2).ret hZ
def kY(aC:Bytes)(aa:Bytes):Option Int:=((oD aC).bind fun y1=>((oD aa).bind fun y3=>(bif y1.2 then(bif y3.2 then(bif decide ((y1.1:Int)<y3.1)then(some (-1))else(bif !(y3.2)then(some (-1))else(bif decide ((y1.1:Int)>y3.1)then(some 1)else(bif !(y1.2)then(some 1)else(some 0)))))else(bif !(y3.2)then(some (-1))else(some 0)))else(bif y3.2 then(bif !(y1.2)then(some 1)else((um aC aa).bind fun Ai=>(some Ai)))else((um aC aa).bind fun PO=>(some PO))))))
theorem xW{aC:Bytes}{aa:Bytes}{r:Int}(h:kY aC aa=some r):Good prog 155 [aZ aC,aZ aa] (aB r):=by
 refine gd func155 bZ 54 fun hr Z hZ=>?_
 rw[kY]at h;obtain⟨y1,h2,y3,h4,h⟩:=bR h;have lB:=((aY.g (sn h2)).g (sn h4))
 obtain⟨h5,h⟩|⟨h5,h⟩:=aK h
 ·have fF:=(lB.r 2 h5)
  obtain⟨h6,h⟩|⟨h6,h⟩:=aK h
  ·have jQ:=(fF.r 4 h6)
   obtain⟨h7,h⟩|⟨h7,h⟩:=aK h
   ·cases h;exact(jQ.r 2 h7).ret hZ
   ·have jz:=((jQ.b h7).r 3 h5)
    obtain⟨h8,h⟩|⟨h8,h⟩:=aK h
    ·cases h;exact(jz.b h8).ret hZ
    ·have uc:=(((jz.b h8).r 2 h5).r 4 h6)
     obtain⟨h9,h⟩|⟨h9,h⟩:=aK h
     ·obtain rfl:=aM h;exact(uc.r 2 h9).ret hZ
     ·have xf:=((uc.b h9).r 3 h6)
      obtain⟨h10,h⟩|⟨h10,h⟩:=aK h
      ·obtain rfl:=aM h;exact(xf.b h10).ret hZ
      ·obtain rfl:=aM h;exact((xf.b h10).b h5).ret hZ
  ·have Ak:=(((fF.r 4 h6).F 1).r 3 h5)
   obtain⟨h11,h⟩|⟨h11,h⟩:=aK h
   ·cases h;exact(Ak.b h11).ret hZ
   ·obtain rfl:=aM h;exact(((((((Ak.b h11).r 2 h5).r 4 h6).F 1).r 3 h6).F 1).b h5).ret hZ
 ·have Fb:=((((((lB.r 2 h5).F 5).r 3 h5).F 1).r 2 h5).F 5)
  obtain⟨h12,h⟩|⟨h12,h⟩:=aK h
  ·have OO:=(Fb.r 3 h12)
   obtain⟨h13,h⟩|⟨h13,h⟩:=aK h
   ·obtain rfl:=aM h;exact(OO.b h13).ret hZ
   ·obtain⟨Ai,h15,h⟩:=aG h;obtain rfl:=aM h;exact(((OO.b h13).b h5).g (z7 h15)).ret hZ
  ·obtain⟨PO,h17,h⟩:=aG h;obtain rfl:=aM h;exact((((Fb.r 3 h12).F 1).b h5).g (z7 h17)).ret hZ
def kE(aC:aD)(aa:aD)(k1:Option Int):aI->Nat->Option Int
 | [],i1=>(k1)
 |bg::cj,i1=>(bif decide (((i1:Int):Int)<((aa.args.map tx).length:Int))then((fy aa.args (i1:Int)).bind fun x37=>((kY bg x37).bind fun FP=>(bif (FP:Int) != 0 then(some FP)else(kE aC aa k1 cj (i1+1)))))else(k1))
def fw(aC:aD)(aa:aD):Option Int:=(bif !((aC.rel:Bytes)==aa.rel)then((um aC.rel aa.rel).bind fun y2=>(some y2))else(kE aC aa (bif decide ((((aC.args.map tx).length:Int):Int)<((aa.args.map tx).length:Int))then(some (-1))else(bif decide ((((aC.args.map tx).length:Int):Int)>((aa.args.map tx).length:Int))then(some 1)else(some 0))) aC.args 0))
def F4(aC:aD)(aa:aD)(dL:Int):St:=⟨[(2,bp 0 0),(3,bp 1 0),(5,aB dL)],[bu (aD.c aC),bu (aD.c aa)]⟩
theorem E0(hZ:Z.nt=61){aC:aD}{aa:aD}{r:Int}{k1:Option Int}(eA:k1=some r->Ax Z N f92 (.q bZ (aB r)) [1,1,1] ⟨[(2,bp 0 0),(3,bp 1 0)],[bu (aD.c aC),bu (aD.c aa)]⟩)(hm1:aC.args.length<=maxLen):∀(rest:aI) (i1:Nat),aC.args.drop i1=rest->kE aC aa k1 rest i1=some r->Ar Z N f92 (.q bZ (aB r)) [1,1,0,1,0] (rest.length+1) (F4 aC aa (i1:Int)):=by
 intro rest
 induction rest with
 |nil=>
  intro i1 bD h;rw[kE]at h;refine aT fun N1 cq cS=>?_
  exact((((((((aY.ge tx bD).ge tx bD).ge tx bD).ge tx bD).ge tx bD).ge tx bD).F 1).a [.hl 0 [2,3] [0,1]]).ex hZ cq (eA h)
 |cons bg cj ih1=>
  intro i1 bD h;rw[kE]at h;refine aT fun N1 cq cS=>?_
  have jQ:=((((((aY.lt tx bD).lt tx bD).lt tx bD).lt tx bD).lt tx bD).lt tx bD)
  obtain⟨h36,h⟩|⟨h36,h⟩:=aK h
  ·obtain⟨x37,h38,FP,h40,h⟩:=bR h;have jz:=(((((jQ.b h36).a [.n 10]).l (bK tx 1 (dc bD) rfl)).l (dW tx 1 h38 rfl)).g (xW h40))
   obtain⟨h41,h⟩|⟨h41,h⟩:=aK h
   ·obtain rfl:=aM h;exact(jz.b h41).ret hZ
   ·exact((jz.b h41).a [.cn [2,3,5] [0,1]]).ct hZ cS (iS bD hm1) (ih1 (i1+1) (dn bD) h)
  ·exact((jQ.b h36).a [.hl 0 [2,3] [0,1]]).ex hZ cq (eA h)
theorem pL{aC:aD}{aa:aD}{r:Int}(h:fw aC aa=some r):Good prog 92 [bw (aD.c aC),bw (aD.c aa)] (aB r):=by
 refine gd func92 bZ 61 fun hr Z hZ=>?_
 rw[fw]at h;obtain⟨h1,h⟩|⟨h1,h⟩:=aK h
 ·obtain⟨y2,h3,h⟩:=aG h;obtain rfl:=aM h;exact((aY.b h1).g (z7 h3)).ret hZ
 ·refine((aY.b h1).a [.cn [2,3,5] [0,1]]).lp hZ (E0 hZ (fun h=>?_) (by have:=(gX.sl (gX.agg (hr _ (aE (i:=0) rfl)) (.sl (aC.args.map tx)) (by simp))).1;simpa using this) aC.args 0 rfl h);obtain⟨h42,h⟩|⟨h42,h⟩:=aK h
  ·cases h;exact(aY.b h42).ret hZ
  ·obtain⟨h43,h⟩|⟨h43,h⟩:=aK h
   ·obtain rfl:=aM h;exact((aY.b h42).b h43).ret hZ
   ·obtain rfl:=aM h;exact((aY.b h42).b h43).ret hZ
def eE(aC:aD):Option aD:=((uS aC.args).bind fun y1=>(some (⟨aC.rel,y1⟩:aD)))
theorem ez{aC:aD}{r:aD}(h:eE aC=some r):Good prog 86 [bw (aD.c aC)] (bw [aZ r.rel,cV 9 1 (r.args.map tx)]):=by
 refine gd func86 Kq 9 fun hr Z hZ=>?_
 rw[eE]at h;obtain⟨y1,h2,h⟩:=aG h;cases h;exact((aY.a [.n 5]).g (BM h2)).ret hZ
def dF(aC:aJ)(aa:aD)(k1:Bool->aJ->Option aJ):aJ->Nat->Bool->aJ->Option aJ
 | [],i1,dX,bn=>(k1 dX bn)
 |bg::cj,i1,dX,bn=>(bif !(dX)then((fw bg aa).bind fun aDJ=>(bif decide ((aDJ:Int)>=0)then((fw bg aa).bind fun Jc=>(bif decide ((Jc:Int)>0)then((eE aa).bind fun Tq=>(bif room ((bn.map aD.c).length+([[aZ Tq.rel,bX (Tq.args.map tx)]]).length) 40 then((eE bg).bind fun Dh=>(bif room (((bn.map aD.c)++([[aZ Tq.rel,bX (Tq.args.map tx)]])).length+([[aZ Dh.rel,bX (Dh.args.map tx)]]).length) 40 then(dF aC aa k1 cj (i1+1) true ((bn++([Tq]))++([Dh])))else none))else none))else((eE bg).bind fun X9=>(bif room ((bn.map aD.c).length+([[aZ X9.rel,bX (X9.args.map tx)]]).length) 40 then(dF aC aa k1 cj (i1+1) true (bn++([X9])))else none))))else((eE bg).bind fun XA=>(bif room ((bn.map aD.c).length+([[aZ XA.rel,bX (XA.args.map tx)]]).length) 40 then(dF aC aa k1 cj (i1+1) dX (bn++([XA])))else none))))else((eE bg).bind fun Cv=>(bif room ((bn.map aD.c).length+([[aZ Cv.rel,bX (Cv.args.map tx)]]).length) 40 then(dF aC aa k1 cj (i1+1) dX (bn++([Cv])))else none)))
def lV(aC:aJ)(aa:aD):Option aJ:=(dF aC aa (fun(wU:Bool) (kO:aJ)=>(bif !(wU)then((eE aa).bind fun RV=>(bif room ((kO.map aD.c).length+([[aZ RV.rel,bX (RV.args.map tx)]]).length) 40 then(some (kO++([RV])))else none))else(some kO))) aC 0 false ([]:aJ))
def vO(aC:aJ)(aa:aD)(dX:Bool)(W1:List aR)(dL:Int):St:=⟨[(0,bX (aC.map aD.c)),(3,bp 0 0),(5,b9 1),(6,bO dX),(7,aB dL)],[bu (aD.c aa),af 43 2 W1]⟩
theorem NS(hZ:Z.nt=54){aC:aJ}{aa:aD}{r:aJ}{k1:Bool->aJ->Option aJ}(eA:∀(wU:Bool) (kO:aJ),k1 wU kO=some r->Ax Z N f67 (.q B2 (cV 43 2 (r.map aD.c))) [1,1,1,1] ⟨[(3,bp 0 0),(5,b9 1),(6,bO wU)],[bu (aD.c aa),af 43 2 (kO.map aD.c)]⟩)(hm1:aC.length<=maxLen):∀(rest:aJ) (i1:Nat) (dX:Bool) (bn:aJ),aC.drop i1=rest->dF aC aa k1 rest i1 dX bn=some r->Ar Z N f67 (.q B2 (cV 43 2 (r.map aD.c))) [1,1,1,0,1,0] (rest.length+1) (vO aC aa dX (bn.map aD.c) (i1:Int)):=by
 intro rest
 induction rest with
 |nil=>
  intro i1 dX bn bD h;rw[dF]at h;refine aT fun N1 cq cS=>?_
  exact((aY.ge aD.c bD).a [.hl 0 [3,5,6] [0,1]]).ex hZ cq (eA dX bn h)
 |cons bg cj ih1=>
  intro i1 dX bn bD h;rw[dF]at h;refine aT fun N1 cq cS=>?_
  have jz:=((aY.lt aD.c bD).a [.n 8])
  obtain⟨h128,h⟩|⟨h128,h⟩:=aK h
  ·obtain⟨aDJ,h130,h⟩:=aG h;have uc:=(((((jz.r 3 h128).l (bK aD.c 2 (dc bD) rfl)).r 3 h128).g (pL h130)).r 2 h128)
   obtain⟨h131,h⟩|⟨h131,h⟩:=aK h
   ·obtain⟨Jc,h133,h⟩:=aG h;have xf:=((((uc.b h131).a [.n 5]).l (bK aD.c 2 (dc bD) rfl)).g (pL h133))
    obtain⟨h134,h⟩|⟨h134,h⟩:=aK h
    ·obtain⟨Tq,h136,h⟩:=aG h;obtain⟨h137,h⟩:=bf h;obtain⟨Dh,h139,h⟩:=aG h;obtain⟨h140,h⟩:=bf h;exact(((((((xf.b h134).g (ez h136)).w (cA h137)).l (bK aD.c 2 (dc bD) rfl)).g (ez h139)).w (cA h140)).a [.cn [0,3,5,6,7] [0,7]]).cs hZ cS (vO aC aa true (((bn.map aD.c)++([[aZ Tq.rel,bX (Tq.args.map tx)]]))++([[aZ Dh.rel,bX (Dh.args.map tx)]])) (IntKind.i64.wrap ((i1:Int)+1))) (by simp only[iS bD hm1,mA]<;>rfl) (ih1 (i1+1) true ((bn++([Tq]))++([Dh])) (dn bD) h)
    ·obtain⟨X9,h142,h⟩:=aG h;obtain⟨h143,h⟩:=bf h;exact(((((xf.b h134).l (bK aD.c 2 (dc bD) rfl)).g (ez h142)).w (cA h143)).a [.cn [0,3,5,6,7] [0,4]]).cs hZ cS (vO aC aa true ((bn.map aD.c)++([[aZ X9.rel,bX (X9.args.map tx)]])) (IntKind.i64.wrap ((i1:Int)+1))) (by simp only[iS bD hm1,mA]<;>rfl) (ih1 (i1+1) true (bn++([X9])) (dn bD) h)
   ·obtain⟨XA,h145,h⟩:=aG h;obtain⟨h146,h⟩:=bf h;exact(((((uc.b h131).l (bK aD.c 2 (dc bD) rfl)).g (ez h145)).w (cA h146)).a [.cn [0,3,5,6,7] [0,4]]).cs hZ cS (vO aC aa dX ((bn.map aD.c)++([[aZ XA.rel,bX (XA.args.map tx)]])) (IntKind.i64.wrap ((i1:Int)+1))) (by simp only[iS bD hm1,mA]<;>rfl) (ih1 (i1+1) dX (bn++([XA])) (dn bD) h)
  ·obtain⟨Cv,h148,h⟩:=aG h;obtain⟨h149,h⟩:=bf h;exact((((((jz.r 8 h128).F 1).l (bK aD.c 2 (dc bD) rfl)).g (ez h148)).w (cA h149)).a [.cn [0,3,5,6,7] [0,4]]).cs hZ cS (vO aC aa dX ((bn.map aD.c)++([[aZ Cv.rel,bX (Cv.args.map tx)]])) (IntKind.i64.wrap ((i1:Int)+1))) (by simp only[iS bD hm1,mA]<;>rfl) (ih1 (i1+1) dX (bn++([Cv])) (dn bD) h)
theorem sx{aC:aJ}{aa:aD}{r:aJ}(h:lV aC aa=some r):Good prog 67 [bX (aC.map aD.c),bw (aD.c aa)] (cV 43 2 (r.map aD.c)):=by
 refine gd func67 B2 54 fun hr Z hZ=>?_
 rw[lV]at h;refine(aY.a [.cn [0,3,5,6,7] [0,1]]).lp hZ (NS hZ (fun wU kO h=>?_) (by have:=(gX.sl (hr _ (aE (i:=0) rfl))).1;simpa using this) aC 0 false ([]:aJ) rfl h);obtain⟨h150,h⟩|⟨h150,h⟩:=aK h
 ·obtain⟨RV,h152,h⟩:=aG h;obtain⟨h153,h⟩:=bf h;cases h;exact(((aY.b h150).g (ez h152)).w (cA h153)).rts hZ (cV 43 2 ((kO.map aD.c)++([[aZ RV.rel,bX (RV.args.map tx)]]))) (by first|rfl| (simp only[mA]<;>rfl)| (simp only[cN,mA]<;>rfl))
 ·obtain rfl:=aM h;exact(aY.b h150).ret hZ
def j0(k1:bM->Int->Int->aJ->Option (ck×aJ)):Nat->Int->bM->Int->Int->aJ->Option (ck×aJ)
 |0,_,_,_,_,_=>none
 |n1+1,dX,fK,eH,eL,bn=>(bif decide ((dX:Int)>0)then((fO (⟨fK,eH,eL⟩:ck)).bind fun AE=>((lV bn AE.2).bind fun L7=>(j0 k1 n1 (IntKind.i64.wrap (dX-1)) AE.1.b AE.1.i AE.1.h L7)))else(k1 fK eH eL bn))
def qy(aC:ck)(aa:Int):Option (ck×aJ):=((cg aC (IntKind.i64.wrap (aa+1))).bind fun y1=>(j0 (fun(nC:bM) (nD:Int) (nE:Int) (kO:aJ)=>(some ((⟨nC,nD,nE⟩:ck),kO))) fuel y1.2 y1.1.b y1.1.i y1.1.h ([]:aJ)))
def Oi(jB:Value)(dX:Int)(eH:Int)(eL:Int)(W1:List aR)(W4:List aR):St:=⟨[(0,bp 0 0),(5,b9 1),(6,aB dX)],[Ob.CW [bX W1,aB eH,aB eL] jB,af 43 2 W4]⟩
theorem NT(hZ:Z.nt=21){jB:Value}{r:ck×aJ}{k1:bM->Int->Int->aJ->Option (ck×aJ)}(eA:∀(nC:bM) (nD:Int) (nE:Int) (kO:aJ),k1 nC nD nE kO=some r->Ax Z N f79 (.p Nl jB (ck.c r.1) (cV 43 2 (r.2.map aD.c))) [1,1,1] ⟨[(5,b9 1)],[Ob.CW [bX (nC.map yx),aB nD,aB nE] jB,af 43 2 (kO.map aD.c)]⟩):∀(n1:Nat) (dX:Int) (fK:bM) (eH:Int) (eL:Int) (bn:aJ),j0 k1 n1 dX fK eH eL bn=some r->Ar Z N f79 (.p Nl jB (ck.c r.1) (cV 43 2 (r.2.map aD.c))) [1,1,0,1,0] n1 (Oi jB dX eH eL (fK.map yx) (bn.map aD.c)):=by
 intro n
 induction n with
 |zero=>intro dX fK eH eL bn h;simp[j0]at h
 |succ n1 ih1=>
  intro dX fK eH eL bn h;rw[j0]at h;refine aT fun N1 cq cS=>?_
  obtain⟨h18,h⟩|⟨h18,h⟩:=aK h
  ·obtain⟨AE,h20,L7,h22,h⟩:=bR h;exact(((((aY.b h18).a [.gp jK (ck.c AE.1) (bw [aZ AE.2.rel,cV 9 1 (AE.2.args.map tx)])]).w (show iz prog 113 (ck.c (⟨fK,eH,eL⟩:ck)) (ck.c AE.1) [] (bw [aZ AE.2.rel,cV 9 1 (AE.2.args.map tx)])from by simpa only[bI,bA,cF,cD,cI]using ou h20)).g (sx h22)).a [.cn [0,5,6] [0,3]]).cf hZ cS (ih1 (IntKind.i64.wrap (dX-1)) AE.1.b AE.1.i AE.1.h L7 h)
  ·exact((aY.b h18).a [.hl 0 [5] [0,1]]).ex hZ cq (eA fK eH eL bn h)
theorem zA{aC:ck}{aa:Int}{r:ck×aJ}(h:qy aC aa=some r):iz prog 79 (ck.c aC) (ck.c r.1) [aB aa] (cV 43 2 (r.2.map aD.c)):=by
 refine L4 func79 Nl 21 [bX (aC.b.map yx),aB aC.i,aB aC.h] [aB aa] [] fun hr jB Z hZ=>?_
 rw[qy]at h;obtain⟨y1,h2,h⟩:=aG h;refine((aY.hp iy (cQ h2)).a [.cn [0,5,6] [0,1]]).lp hZ (NT hZ (fun nC nD nE kO h=>?_) fuel y1.2 y1.1.b y1.1.i y1.1.h ([]:aJ) h);cases h;exact aY.ret hZ
def ot(aC:aJ)(k1:aJ->Option aJ):aJ->Nat->aJ->Option aJ
 | [],i1,bY=>(k1 bY)
 |bg::cj,i1,bY=>((eE bg).bind fun qA=>(bif room ((bY.map aD.c).length+([[aZ qA.rel,bX (qA.args.map tx)]]).length) 40 then(ot aC k1 cj (i1+1) (bY++([qA])))else none))
def dO(aC:aJ):Option aJ:=(ot aC (fun(cM:aJ)=>(some cM)) aC 0 ([]:aJ))
def CC(aC:aJ)(W0:List aR)(dL:Int):St:=⟨[(0,bX (aC.map aD.c)),(3,b9 0),(4,aB dL)],[af 43 2 W0]⟩
def Jg(r:aJ):Kd:=.q B2 (cV 43 2 (r.map aD.c))
theorem JP(hZ:Z.nt=21){aC:aJ}{r:aJ}{k1:aJ->Option aJ}(eA:∀(cM:aJ),k1 cM=some r->Ax Z N f38 (Jg r) [1,1,1] ⟨[(3,b9 0)],[af 43 2 (cM.map aD.c)]⟩)(hm1:aC.length<=maxLen):∀(rest:aJ) (i1:Nat) (bY:aJ),aC.drop i1=rest->ot aC k1 rest i1 bY=some r->Ar Z N f38 (Jg r) [1,1,0,1,0] (rest.length+1) (CC aC (bY.map aD.c) (i1:Int)):=by
 intro rest
 induction rest with
 |nil=>
  intro i1 bY bD h;rw[ot]at h;refine aT fun N1 cq cS=>?_
  exact((aY.ge aD.c bD).a [.hl 0 [3] [0]]).ex hZ cq (eA bY h)
 |cons bg cj ih1=>
  intro i1 bY bD h;rw[ot]at h;refine aT fun N1 cq cS=>?_
  obtain⟨qA,h28,h⟩:=aG h;obtain⟨h29,h⟩:=bf h;exact(((((aY.lt aD.c bD).l (bK aD.c 2 (dc bD) rfl)).g (ez h28)).w (cA h29)).a [.cn [0,3,4] [3]]).cs hZ cS (CC aC ((bY.map aD.c)++([[aZ qA.rel,bX (qA.args.map tx)]])) (IntKind.i64.wrap ((i1:Int)+1))) (by simp only[iS bD hm1,mA]<;>rfl) (ih1 (i1+1) (bY++([qA])) (dn bD) h)
theorem di{aC:aJ}{r:aJ}(h:dO aC=some r):Good prog 38 [bX (aC.map aD.c)] (cV 43 2 (r.map aD.c)):=by
 refine gd func38 B2 21 fun hr Z hZ=>?_
 rw[dO]at h;refine(aY.a [.cn [0,3,4] [0]]).lp hZ (JP hZ (fun cM h=>?_) (by have:=(gX.sl (hr _ (aE (i:=0) rfl))).1;simpa using this) aC 0 ([]:aJ) rfl h);obtain rfl:=aM h;exact aY.ret hZ
def rO(aC:aD)(k1:Option Bool):aI->Nat->Option Bool
 | [],i1=>(k1)
 |bg::cj,i1=>((gT bg).bind fun L7=>(bif !(L7)then(some false)else(rO aC k1 cj (i1+1))))
def rD(aC:aD):Option Bool:=(rO aC ((tR aC.rel).bind fun EY=>(bif EY then(some (decide ((((aC.args.map tx).length:Int):Int)<=3)))else(some false))) aC.args 0)
def NH(aC:aD)(dL:Int):St:=⟨[(1,bp 0 0),(3,aB dL)],[bu (aD.c aC)]⟩
theorem Lg(hZ:Z.nt=27){aC:aD}{r:Bool}{k1:Option Bool}(eA:k1=some r->Ax Z N f65 (.q bZ (bO r)) [1,1] ⟨[(1,bp 0 0)],[bu (aD.c aC)]⟩)(hm1:aC.args.length<=maxLen):∀(rest:aI) (i1:Nat),aC.args.drop i1=rest->rO aC k1 rest i1=some r->Ar Z N f65 (.q bZ (bO r)) [1,0,1,0] (rest.length+1) (NH aC (i1:Int)):=by
 intro rest
 induction rest with
 |nil=>
  intro i1 bD h;rw[rO]at h;refine aT fun N1 cq cS=>?_
  exact((aY.ge tx bD).a [.hl 0 [1] [0]]).ex hZ cq (eA h)
 |cons bg cj ih1=>
  intro i1 bD h;rw[rO]at h;refine aT fun N1 cq cS=>?_
  obtain⟨L7,h22,h⟩:=aG h;have fF:=(((aY.lt tx bD).l (bK tx 1 (dc bD) rfl)).g (fe h22))
  obtain⟨h23,h⟩|⟨h23,h⟩:=aK h
  ·obtain rfl:=aM h;exact(fF.b h23).ret hZ
  ·exact((fF.b h23).a [.cn [1,3] [0]]).ct hZ cS (iS bD hm1) (ih1 (i1+1) (dn bD) h)
theorem xy{aC:aD}{r:Bool}(h:rD aC=some r):Good prog 65 [bw (aD.c aC)] (bO r):=by
 refine gd func65 bZ 27 fun hr Z hZ=>?_
 rw[rD]at h;refine(aY.a [.cn [1,3] [0]]).lp hZ (Lg hZ (fun h=>?_) (by have:=(gX.sl (gX.agg (hr _ (aE (i:=0) rfl)) (.sl (aC.args.map tx)) (by simp))).1;simpa using this) aC.args 0 rfl h);obtain⟨EY,h25,h⟩:=aG h;obtain⟨h26,h⟩|⟨h26,h⟩:=aK h
 ·cases h;exact((aY.g (oh h25)).r 5 h26).ret hZ
 ·obtain rfl:=aM h;exact((aY.g (oh h25)).r 5 h26).ret hZ
def ke(aC:aP)(k1:Option Bool):aP->Nat->Option Bool
 | [],i1=>(k1)
 |bg::cj,i1=>((ij bg.var).bind fun O5=>(bif !(O5)then(some false)else((gT bg.value).bind fun y52=>(bif !(y52)then(some false)else(bif decide (((i1:Int):Int)>0)then((fy aC (IntKind.i64.wrap ((i1:Int)-1))).bind fun x56=>(bif !(Op.bytesLess x56.var bg.var)then(some false)else(ke aC k1 cj (i1+1))))else(ke aC k1 cj (i1+1)))))))
def mY(aC:aP):Option Bool:=(ke aC (some (decide ((((aC.map aX.c).length:Int):Int)<=6))) aC 0)
def JC(aC:aP)(dL:Int):St:=⟨[(0,bX (aC.map aX.c)),(3,aB dL)],[]⟩
theorem HT(hZ:Z.nt=47){aC:aP}{r:Bool}{k1:Option Bool}(eA:k1=some r->Ax Z N f158 (.q bZ (bO r)) [1,1] ⟨[(0,bX (aC.map aX.c))],[]⟩)(hm1:aC.length<=maxLen):∀(rest:aP) (i1:Nat),aC.drop i1=rest->ke aC k1 rest i1=some r->Ar Z N f158 (.q bZ (bO r)) [1,0,1,0] (rest.length+1) (JC aC (i1:Int)):=by
 intro rest
 induction rest with
 |nil=>
  intro i1 bD h;rw[ke]at h;refine aT fun N1 cq cS=>?_
  exact((aY.ge aX.c bD).a [.hl 0 [0] []]).ex hZ cq (eA h)
 |cons bg cj ih1=>
  intro i1 bD h;rw[ke]at h;refine aT fun N1 cq cS=>?_
  obtain⟨O5,h50,h⟩:=aG h;have uc:=((((aY.lt aX.c bD).a [.n 31]).l (bK aX.c 2 (dc bD) rfl)).g (gL h50))
  obtain⟨h51,h⟩|⟨h51,h⟩:=aK h
  ·obtain rfl:=aM h;exact((((uc.r 8 h51).T 3).a [bF,bF,bF,bF,bF,bF,bF,bF,bF,bF,bF,bF]).T 3).ret hZ
  ·obtain⟨y52,h53,h⟩:=aG h;have xf:=(((((uc.r 3 h51).l (bK aX.c 2 (dc bD) rfl)).r 3 h51).g (fe h53)).r 2 h51)
   obtain⟨h54,h⟩|⟨h54,h⟩:=aK h
   ·obtain rfl:=aM h;exact((((xf.r 3 h54).a [bF,bF,bF,bF,bF,bF,bF,bF,bF,bF,bF,bF]).r 2 h54).T 1).ret hZ
   ·have Ak:=(xf.r 3 h54)
    obtain⟨h55,h⟩|⟨h55,h⟩:=aK h
    ·obtain⟨x56,h57,h⟩:=aG h;have Fb:=((((((((Ak.r 4 h55).l (dW aX.c 2 h57 rfl)).r 5 h55).l (bK aX.c 2 (dc bD) rfl)).r 3 h55).b h54).b h55).b h54)
     obtain⟨h58,h⟩|⟨h58,h⟩:=aK h
     ·obtain rfl:=aM h;exact(Fb.b h58).ret hZ
     ·exact((Fb.b h58).a [.cn [0,3] []]).ct hZ cS (iS bD hm1) (ih1 (i1+1) (dn bD) h)
    ·exact((((((Ak.r 12 h55).b h54).b h55).b h54).F 1).a [.cn [0,3] []]).ct hZ cS (iS bD hm1) (ih1 (i1+1) (dn bD) h)
theorem oS{aC:aP}{r:Bool}(h:mY aC=some r):Good prog 158 [bX (aC.map aX.c)] (bO r):=by
 refine gd func158 bZ 47 fun hr Z hZ=>?_
 rw[mY]at h;refine(aY.a [.cn [0,3] []]).lp hZ (HT hZ (fun h=>?_) (by have:=(gX.sl (hr _ (aE (i:=0) rfl))).1;simpa using this) aC 0 rfl h);cases h;exact aY.ret hZ
def tT(aC:aP):Option aP:=(bif room (([]:List aR).length+(aC.map aX.c).length) 32 then(some (([]:aP)++aC))else none)
theorem yB{aC:aP}{r:aP}(h:tT aC=some r):Good prog 159 [bX (aC.map aX.c)] (cV 113 2 (r.map aX.c)):=by
 refine gd func159 zn 6 fun hr Z hZ=>?_
 rw[tT]at h;obtain⟨h1,h⟩:=bf h;cases h;exact(((aY.w (cA h1)).w (show(∀r∈(aC.map aX.c),r.length=2)/\(true=true->D.jq (aC.map aX.c)=true)from⟨by first|simp| (intro r hr;obtain⟨x,_,rfl⟩:=cJ.1 (cO (fM hr));rfl),by simp[D.jq,D.flat]⟩)).a [.L5 2,.fl true]).rts hZ (cV 113 2 (([]:List aR)++(aC.map aX.c))) (by first|rfl| (simp only[mA]<;>rfl)| (simp only[cN,mA]<;>rfl))
def jJ(aC:aP)(aa:Bytes)(k1:Option (Bytes×Bool)):aP->Nat->Option (Bytes×Bool)
 | [],i1=>(k1)
 |bg::cj,i1=>(bif (bg.var:Bytes)==aa then((ij aa).bind fun Dm=>(bif Dm then(some (bg.value,true))else(jJ aC aa k1 cj (i1+1))))else(jJ aC aa k1 cj (i1+1)))
def pZ(aC:aP)(aa:Bytes):Option (Bytes×Bool):=((gT aa).bind fun y1=>(bif y1 then(some (aa,true))else(jJ aC aa (some ([],false)) aC 0)))
def Lp(aC:aP)(aa:Bytes)(dL:Int):St:=⟨[(0,bX (aC.map aX.c)),(1,aZ aa),(6,aB dL)],[]⟩
def XF(r:Bytes×Bool):Kd:=.q ON (D.iw [aZ r.1,bO r.2])
theorem KT(hZ:Z.nt=32){aC:aP}{aa:Bytes}{r:Bytes×Bool}{k1:Option (Bytes×Bool)}(eA:k1=some r->Ax Z N f87 (XF r) [1,1,1] ⟨[],[]⟩)(hm1:aC.length<=maxLen):∀(rest:aP) (i1:Nat),aC.drop i1=rest->jJ aC aa k1 rest i1=some r->Ar Z N f87 (XF r) [1,1,0,1,0] (rest.length+1) (Lp aC aa (i1:Int)):=by
 intro rest
 induction rest with
 |nil=>
  intro i1 bD h;rw[jJ]at h;refine aT fun N1 cq cS=>?_
  exact((aY.ge aX.c bD).a [.hl 0 [] []]).ex hZ cq (eA h)
 |cons bg cj ih1=>
  intro i1 bD h;rw[jJ]at h;refine aT fun N1 cq cS=>?_
  have jQ:=((aY.lt aX.c bD).l (bK aX.c 2 (dc bD) rfl))
  obtain⟨h28,h⟩|⟨h28,h⟩:=aK h
  ·obtain⟨Dm,h30,h⟩:=aG h;have jz:=(((jQ.r 2 h28).g (gL h30)).b h28)
   obtain⟨h31,h⟩|⟨h31,h⟩:=aK h
   ·cases h;exact((jz.b h31).l (bK aX.c 2 (dc bD) rfl)).ret hZ
   ·exact((jz.b h31).a [.cn [0,1,6] []]).ct hZ cS (iS bD hm1) (ih1 (i1+1) (dn bD) h)
  ·exact(((jQ.r 3 h28).F 1).a [.cn [0,1,6] []]).ct hZ cS (iS bD hm1) (ih1 (i1+1) (dn bD) h)
theorem tq{aC:aP}{aa:Bytes}{r:Bytes×Bool}(h:pZ aC aa=some r):Good prog 87 [bX (aC.map aX.c),aZ aa] (D.iw [aZ r.1,bO r.2]):=by
 refine gd func87 ON 32 fun hr Z hZ=>?_
 rw[pZ]at h;obtain⟨y1,h2,h⟩:=aG h;obtain⟨h3,h⟩|⟨h3,h⟩:=aK h
 ·cases h;exact((aY.g (fe h2)).b h3).ret hZ
 ·refine(((aY.g (fe h2)).b h3).a [.cn [0,1,6] []]).lp hZ (KT hZ (fun h=>?_) (by have:=(gX.sl (hr _ (aE (i:=0) rfl))).1;simpa using this) aC 0 rfl h);cases h;exact aY.ret hZ
def oF(aC:aP)(aa:Bytes)(cv:Bytes)(k1:Bool->aP->Option aP):aP->Nat->Bool->aP->Option aP
 | [],i1,IF,bY=>(k1 IF bY)
 |bg::cj,i1,IF,bY=>(bif !(IF)then(bif !(Op.bytesLess bg.var aa||(bg.var:Bytes)==aa)then(bif room ((bY.map aX.c).length+([[aZ aa,aZ cv]]).length) 32 then(bif room (((bY.map aX.c)++([[aZ aa,aZ cv]])).length+([[aZ bg.var,aZ bg.value]]).length) 32 then(oF aC aa cv k1 cj (i1+1) true ((bY++([(⟨aa,cv⟩:aX)]))++([bg])))else none)else none)else(bif room ((bY.map aX.c).length+([[aZ bg.var,aZ bg.value]]).length) 32 then(oF aC aa cv k1 cj (i1+1) IF (bY++([bg])))else none))else(bif room ((bY.map aX.c).length+([[aZ bg.var,aZ bg.value]]).length) 32 then(oF aC aa cv k1 cj (i1+1) IF (bY++([bg])))else none))
def wj(aC:aP)(aa:Bytes)(cv:Bytes):Option aP:=(oF aC aa cv (fun(a3l:Bool) (cM:aP)=>(bif !(a3l)then(bif room ((cM.map aX.c).length+([[aZ aa,aZ cv]]).length) 32 then(some (cM++([(⟨aa,cv⟩:aX)])))else none)else(some cM))) aC 0 false ([]:aP))
def xk(aC:aP)(aa:Bytes)(cv:Bytes)(IF:Bool)(W1:List aR)(dL:Int):St:=⟨[(0,bX (aC.map aX.c)),(1,aZ aa),(2,aZ cv),(7,b9 0),(8,bO IF),(9,aB dL)],[af 113 2 W1]⟩
theorem NU(hZ:Z.nt=50){aC:aP}{aa:Bytes}{cv:Bytes}{r:aP}{k1:Bool->aP->Option aP}(eA:∀(a3l:Bool) (cM:aP),k1 a3l cM=some r->Ax Z N f88 (.q zn (cV 113 2 (r.map aX.c))) [1,1,1,1] ⟨[(1,aZ aa),(2,aZ cv),(7,b9 0),(8,bO a3l)],[af 113 2 (cM.map aX.c)]⟩)(hm1:aC.length<=maxLen):∀(rest:aP) (i1:Nat) (IF:Bool) (bY:aP),aC.drop i1=rest->oF aC aa cv k1 rest i1 IF bY=some r->Ar Z N f88 (.q zn (cV 113 2 (r.map aX.c))) [1,1,1,0,1,0] (rest.length+1) (xk aC aa cv IF (bY.map aX.c) (i1:Int)):=by
 intro rest
 induction rest with
 |nil=>
  intro i1 IF bY bD h;rw[oF]at h;refine aT fun N1 cq cS=>?_
  exact((aY.ge aX.c bD).a [.hl 0 [1,2,7,8] [0]]).ex hZ cq (eA IF bY h)
 |cons bg cj ih1=>
  intro i1 IF bY bD h;rw[oF]at h;refine aT fun N1 cq cS=>?_
  obtain⟨h48,h⟩|⟨h48,h⟩:=aK h
  ·have fF:=((((aY.lt aX.c bD).r 3 h48).l (bK aX.c 2 (dc bD) rfl)).r 5 h48)
   obtain⟨h49,h⟩|⟨h49,h⟩:=aK h
   ·obtain⟨h50,h⟩:=bf h;obtain⟨h51,h⟩:=bf h;exact(((((fF.b h49).w (cA h50)).l (bK aX.c 2 (dc bD) rfl)).w (cA h51)).a [.cn [0,1,2,7,8,9] [4]]).cs hZ cS (xk aC aa cv true (((bY.map aX.c)++([[aZ aa,aZ cv]]))++([[aZ bg.var,aZ bg.value]])) (IntKind.i64.wrap ((i1:Int)+1))) (by simp only[iS bD hm1,mA]<;>rfl) (ih1 (i1+1) true ((bY++([(⟨aa,cv⟩:aX)]))++([bg])) (dn bD) h)
   ·obtain⟨h52,h⟩:=bf h;exact((((fF.b h49).l (bK aX.c 2 (dc bD) rfl)).w (cA h52)).a [.cn [0,1,2,7,8,9] [2]]).cs hZ cS (xk aC aa cv IF ((bY.map aX.c)++([[aZ bg.var,aZ bg.value]])) (IntKind.i64.wrap ((i1:Int)+1))) (by simp only[iS bD hm1,mA]<;>rfl) (ih1 (i1+1) IF (bY++([bg])) (dn bD) h)
  ·obtain⟨h53,h⟩:=bf h;exact((((((aY.lt aX.c bD).r 8 h48).F 1).l (bK aX.c 2 (dc bD) rfl)).w (cA h53)).a [.cn [0,1,2,7,8,9] [2]]).cs hZ cS (xk aC aa cv IF ((bY.map aX.c)++([[aZ bg.var,aZ bg.value]])) (IntKind.i64.wrap ((i1:Int)+1))) (by simp only[iS bD hm1,mA]<;>rfl) (ih1 (i1+1) IF (bY++([bg])) (dn bD) h)
theorem D6{aC:aP}{aa:Bytes}{cv:Bytes}{r:aP}(h:wj aC aa cv=some r):Good prog 88 [bX (aC.map aX.c),aZ aa,aZ cv] (cV 113 2 (r.map aX.c)):=by
 refine gd func88 zn 50 fun hr Z hZ=>?_
 rw[wj]at h;refine(aY.a [.cn [0,1,2,7,8,9] [0]]).lp hZ (NU hZ (fun a3l cM h=>?_) (by have:=(gX.sl (hr _ (aE (i:=0) rfl))).1;simpa using this) aC 0 false ([]:aP) rfl h);obtain⟨h54,h⟩|⟨h54,h⟩:=aK h
 ·obtain⟨h55,h⟩:=bf h;cases h;exact((aY.b h54).w (cA h55)).rts hZ (cV 113 2 ((cM.map aX.c)++([[aZ aa,aZ cv]]))) (by first|rfl| (simp only[mA]<;>rfl)| (simp only[cN,mA]<;>rfl))
 ·obtain rfl:=aM h;exact(aY.b h54).ret hZ
def vS(aC:aP)(aa:Bytes)(cv:Bytes):Option (aP×Bool):=((mY aC).bind fun y1=>(bif !(y1)then(some (([]:aP),false))else((ij aa).bind fun y4=>(bif !(y4)then(some (([]:aP),false))else((gT cv).bind fun y7=>(bif !(y7)then(some (([]:aP),false))else((pZ aC aa).bind fun GY=>(bif GY.2 then(bif (GY.1:Bytes)==cv then((tT aC).bind fun Ai=>(some (Ai,true)))else(some (([]:aP),false)))else(bif (((aC.map aX.c).length:Int):Int)==6 then(some (([]:aP),false))else((wj aC aa cv).bind fun Ce=>(some (Ce,true))))))))))))
theorem KJ{aC:aP}{aa:Bytes}{cv:Bytes}{r:aP×Bool}(h:vS aC aa cv=some r):Good prog 160 [bX (aC.map aX.c),aZ aa,aZ cv] (D.iw [cV 113 2 (r.1.map aX.c),bO r.2]):=by
 refine gd func160 Kr 49 fun hr Z hZ=>?_
 rw[vS]at h;obtain⟨y1,h2,h⟩:=aG h;obtain⟨h3,h⟩|⟨h3,h⟩:=aK h
 ·cases h;exact(((aY.g (oS h2)).r 4 h3).T 5).ret hZ
 ·obtain⟨y4,h5,h⟩:=aG h;have lB:=((((aY.g (oS h2)).r 2 h3).g (gL h5)).r 2 h3)
  obtain⟨h6,h⟩|⟨h6,h⟩:=aK h
  ·cases h;exact((lB.r 4 h6).T 1).ret hZ
  ·obtain⟨y7,h8,h⟩:=aG h;have fF:=(((lB.r 2 h6).g (fe h8)).r 2 h6)
   obtain⟨h9,h⟩|⟨h9,h⟩:=aK h
   ·cases h;exact(fF.b h9).ret hZ
   ·obtain⟨GY,h11,h⟩:=aG h;have jQ:=((fF.b h9).g (tq h11))
    obtain⟨h12,h⟩|⟨h12,h⟩:=aK h
    ·have jz:=(jQ.r 4 h12)
     obtain⟨h13,h⟩|⟨h13,h⟩:=aK h
     ·obtain⟨Ai,h15,h⟩:=aG h;cases h;exact((jz.b h13).g (yB h15)).ret hZ
     ·cases h;exact(((jz.b h13).r 4 h12).T 1).ret hZ
    ·have uc:=(((jQ.r 4 h12).F 1).r 4 h12)
     obtain⟨h16,h⟩|⟨h16,h⟩:=aK h
     ·cases h;exact(uc.b h16).ret hZ
     ·obtain⟨Ce,h18,h⟩:=aG h;cases h;exact((uc.b h16).g (D6 h18)).ret hZ
def kn(aC:aD)(aa:aD)(k1:aP->Option (aP×Bool)):aI->Nat->aP->Option (aP×Bool)
 | [],i1,nj=>(k1 nj)
 |bg::cj,i1,nj=>((gT bg).bind fun y80=>(bif y80 then((fy aa.args (i1:Int)).bind fun x83=>(bif !((bg:Bytes)==x83)then(some (([]:aP),false))else(kn aC aa k1 cj (i1+1) nj)))else((fy aa.args (i1:Int)).bind fun x86=>((vS nj bg x86).bind fun y88=>(bif !(y88.2)then(some (([]:aP),false))else(kn aC aa k1 cj (i1+1) y88.1))))))
def kH(aC:aD)(aa:aD)(cv:aP):Option (aP×Bool):=((j8 aC).bind fun y1=>(bif !(y1)then(some (([]:aP),false))else((rD aa).bind fun y4=>(bif !(y4)then(some (([]:aP),false))else((mY cv).bind fun y7=>(bif !(y7)then(some (([]:aP),false))else(bif !((aC.rel:Bytes)==aa.rel)then(some (([]:aP),false))else(bif (((aC.args.map tx).length:Int):Int) != ((aa.args.map tx).length:Int)then(some (([]:aP),false))else((tT cv).bind fun Tw=>(kn aC aa (fun(cM:aP)=>(some (cM,true))) aC.args 0 Tw))))))))))
def JG(aC:aD)(aa:aD)(W0:List aR)(dL:Int):St:=⟨[(3,bp 0 0),(4,bp 1 0),(8,b9 2),(9,aB dL)],[bu (aD.c aC),bu (aD.c aa),af 113 2 W0]⟩
def XG(r:aP×Bool):Kd:=.q Kr (D.iw [cV 113 2 (r.1.map aX.c),bO r.2])
theorem HX(hZ:Z.nt=89){aC:aD}{aa:aD}{r:aP×Bool}{k1:aP->Option (aP×Bool)}(eA:∀(cM:aP),k1 cM=some r->Ax Z N f96 (XG r) [1,1,1,1] ⟨[(8,b9 0)],[af 113 2 (cM.map aX.c)]⟩)(hm1:aC.args.length<=maxLen):∀(rest:aI) (i1:Nat) (nj:aP),aC.args.drop i1=rest->kn aC aa k1 rest i1 nj=some r->Ar Z N f96 (XG r) [1,1,1,0,1,0] (rest.length+1) (JG aC aa (nj.map aX.c) (i1:Int)):=by
 intro rest
 induction rest with
 |nil=>
  intro i1 nj bD h;rw[kn]at h;refine aT fun N1 cq cS=>?_
  exact((aY.ge tx bD).a [.hl 0 [8] [2]]).ex hZ cq (eA nj h)
 |cons bg cj ih1=>
  intro i1 nj bD h;rw[kn]at h;refine aT fun N1 cq cS=>?_
  obtain⟨y80,h81,h⟩:=aG h;have jz:=(((aY.lt tx bD).l (bK tx 1 (dc bD) rfl)).g (fe h81))
  obtain⟨h82,h⟩|⟨h82,h⟩:=aK h
  ·obtain⟨x83,h84,h⟩:=aG h;have uc:=((((jz.b h82).a [.n 10]).l (bK tx 1 (dc bD) rfl)).l (dW tx 1 h84 rfl))
   obtain⟨h85,h⟩|⟨h85,h⟩:=aK h
   ·cases h;exact(uc.b h85).ret hZ
   ·exact((uc.b h85).a [.cn [3,4,8,9] [0,1,2]]).ct hZ cS (iS bD hm1) (ih1 (i1+1) nj (dn bD) h)
  ·obtain⟨x86,h87,y88,h89,h⟩:=bR h;have xf:=(((((jz.b h82).a [.n 16]).l (bK tx 1 (dc bD) rfl)).l (dW tx 1 h87 rfl)).g (KJ h89))
   obtain⟨h90,h⟩|⟨h90,h⟩:=aK h
   ·cases h;exact(xf.b h90).ret hZ
   ·exact((xf.b h90).a [.cn [3,4,8,9] [0,1,3]]).ct hZ cS (iS bD hm1) (ih1 (i1+1) y88.1 (dn bD) h)
theorem s9{aC:aD}{aa:aD}{cv:aP}{r:aP×Bool}(h:kH aC aa cv=some r):Good prog 96 [bw (aD.c aC),bw (aD.c aa),bX (cv.map aX.c)] (D.iw [cV 113 2 (r.1.map aX.c),bO r.2]):=by
 refine gd func96 Kr 89 fun hr Z hZ=>?_
 rw[kH]at h;obtain⟨y1,h2,h⟩:=aG h;obtain⟨h3,h⟩|⟨h3,h⟩:=aK h
 ·cases h;exact(((aY.g (fm h2)).r 4 h3).T 19).ret hZ
 ·obtain⟨y4,h5,h⟩:=aG h;have Ak:=((((aY.g (fm h2)).r 2 h3).g (xy h5)).r 2 h3)
  obtain⟨h6,h⟩|⟨h6,h⟩:=aK h
  ·cases h;exact((Ak.r 4 h6).T 15).ret hZ
  ·obtain⟨y7,h8,h⟩:=aG h;have Fb:=(((Ak.r 2 h6).g (oS h8)).r 2 h6)
   obtain⟨h9,h⟩|⟨h9,h⟩:=aK h
   ·cases h;exact((Fb.r 6 h9).T 9).ret hZ
   ·have OO:=(Fb.r 6 h9)
    obtain⟨h10,h⟩|⟨h10,h⟩:=aK h
    ·cases h;exact((OO.r 8 h10).T 1).ret hZ
    ·have EP:=(OO.r 8 h10)
     obtain⟨h11,h⟩|⟨h11,h⟩:=aK h
     ·cases h;exact(EP.b h11).ret hZ
     ·obtain⟨Tw,h13,h⟩:=aG h;refine(((EP.b h11).g (yB h13)).a [.cn [3,4,8,9] [0,1,2]]).lp hZ (HX hZ (fun cM h=>?_) (by have:=(gX.sl (gX.agg (hr _ (aE (i:=0) rfl)) (.sl (aC.args.map tx)) (by simp))).1;simpa using this) aC.args 0 Tw rfl h);cases h;exact aY.ret hZ
def iD(aC:aD)(aa:aP)(cv:aJ)(k1:aJ->Option aJ):aJ->Nat->aJ->Option aJ
 | [],i1,bn=>(k1 bn)
 |bg::cj,i1,bn=>((kH aC bg aa).bind fun VY=>(bif VY.2 then((eE bg).bind fun BQ=>(bif room ((bn.map aD.c).length+([[aZ BQ.rel,bX (BQ.args.map tx)]]).length) 40 then(iD aC aa cv k1 cj (i1+1) (bn++([BQ])))else none))else(iD aC aa cv k1 cj (i1+1) bn)))
def gM(aC:aD)(aa:aP)(cv:aJ):Option aJ:=(iD aC aa cv (fun(cM:aJ)=>(some cM)) cv 0 ([]:aJ))
def yR(aC:aD)(aa:aP)(cv:aJ)(W0:List aR)(dL:Int):St:=⟨[(1,bX (aa.map aX.c)),(2,bX (cv.map aD.c)),(3,bp 0 0),(7,b9 1),(8,aB dL)],[bu (aD.c aC),af 43 2 W0]⟩
theorem DT(hZ:Z.nt=38){aC:aD}{aa:aP}{cv:aJ}{r:aJ}{k1:aJ->Option aJ}(eA:∀(cM:aJ),k1 cM=some r->Ax Z N f44 (Jg r) [1,1,1] ⟨[(7,b9 0)],[af 43 2 (cM.map aD.c)]⟩)(hm1:cv.length<=maxLen):∀(rest:aJ) (i1:Nat) (bn:aJ),cv.drop i1=rest->iD aC aa cv k1 rest i1 bn=some r->Ar Z N f44 (Jg r) [1,1,0,1,0] (rest.length+1) (yR aC aa cv (bn.map aD.c) (i1:Int)):=by
 intro rest
 induction rest with
 |nil=>
  intro i1 bn bD h;rw[iD]at h;refine aT fun N1 cq cS=>?_
  exact((aY.ge aD.c bD).a [.hl 0 [7] [1]]).ex hZ cq (eA bn h)
 |cons bg cj ih1=>
  intro i1 bn bD h;rw[iD]at h;refine aT fun N1 cq cS=>?_
  obtain⟨VY,h43,h⟩:=aG h;have fF:=((((aY.lt aD.c bD).a [.n 11]).l (bK aD.c 2 (dc bD) rfl)).g (s9 h43))
  obtain⟨h44,h⟩|⟨h44,h⟩:=aK h
  ·obtain⟨BQ,h46,h⟩:=aG h;obtain⟨h47,h⟩:=bf h;exact(((((fF.b h44).l (bK aD.c 2 (dc bD) rfl)).g (ez h46)).w (cA h47)).a [.cn [1,2,3,7,8] [0,5]]).cs hZ cS (yR aC aa cv ((bn.map aD.c)++([[aZ BQ.rel,bX (BQ.args.map tx)]])) (IntKind.i64.wrap ((i1:Int)+1))) (by simp only[iS bD hm1,mA]<;>rfl) (ih1 (i1+1) (bn++([BQ])) (dn bD) h)
  ·exact((fF.b h44).a [.cn [1,2,3,7,8] [0,1]]).ct hZ cS (iS bD hm1) (ih1 (i1+1) bn (dn bD) h)
theorem fD{aC:aD}{aa:aP}{cv:aJ}{r:aJ}(h:gM aC aa cv=some r):Good prog 44 [bw (aD.c aC),bX (aa.map aX.c),bX (cv.map aD.c)] (cV 43 2 (r.map aD.c)):=by
 refine gd func44 B2 38 fun hr Z hZ=>?_
 rw[gM]at h;refine(aY.a [.cn [1,2,3,7,8] [0,1]]).lp hZ (DT hZ (fun cM h=>?_) (by have:=(gX.sl (hr _ (aE (i:=2) rfl))).1;simpa using this) cv 0 ([]:aJ) rfl h);obtain rfl:=aM h;exact aY.ret hZ
def kI(aC:aH)(k1:ay->Option ay):Nat->Int->ay->Option ay
 |0,_,_=>none
 |n1+1,ya,bn=>((mm ya 1 (IntKind.i64.wrap (((aC.nodes.map Node.c).length:Int)-1))).bind fun Cg=>(bif Cg then((fy aC.nodes ya).bind fun x31=>((lN x31.cond).bind fun ue=>(bif room (([[aB ue.kind,aZ ue.pat.rel,bX (ue.pat.args.map tx),aZ ue.left,aZ ue.right]]).length+(bn.map aU.c).length) 80 then(bif decide ((x31.parent:Int)>=ya)then(k1 (([ue])++bn))else(kI aC k1 n1 x31.parent (([ue])++bn)))else none)))else(k1 bn)))
def vT(aC:aH)(aa:Int):Option ay:=(kI aC (fun(cM:ay)=>(some cM)) fuel aa ([]:ay))
def E5(aC:aH)(ya:Int)(W1:List aR):St:=⟨[(1,aB ya),(2,bp 0 0),(5,b9 1)],[bu (aH.c aC),af 71 5 W1]⟩
theorem Ln(hZ:Z.nt=35){aC:aH}{r:ay}{k1:ay->Option ay}(eA:∀(cM:ay),k1 cM=some r->Ax Z N f47 (Od r) [1,1,1] ⟨[(5,b9 0)],[af 71 5 (cM.map aU.c)]⟩):∀(n1:Nat) (ya:Int) (bn:ay),kI aC k1 n1 ya bn=some r->Ar Z N f47 (Od r) [1,1,0,0] n1 (E5 aC ya (bn.map aU.c)):=by
 intro n
 induction n with
 |zero=>intro ya bn h;simp[kI]at h
 |succ n1 ih1=>
  intro ya bn h;rw[kI]at h;refine aT fun N1 cq cS=>?_
  obtain⟨Cg,h29,h⟩:=aG h;obtain⟨h30,h⟩|⟨h30,h⟩:=aK h
  ·obtain⟨x31,h32,ue,h34,h⟩:=bR h;obtain⟨h35,h⟩:=bf h;have fF:=((((((aY.g (iF h29)).b h30).l (dW Node.c 8 h32 rfl)).g (rY h34)).w (cA h35)).l (dW Node.c 8 h32 rfl))
   obtain⟨h36,h⟩|⟨h36,h⟩:=aK h
   ·exact((fF.b h36).a [.hl 0 [5] [4]]).exs hZ cq ⟨[(5,b9 0)],[af 71 5 (([[aB ue.kind,aZ ue.pat.rel,bX (ue.pat.args.map tx),aZ ue.left,aZ ue.right]])++(bn.map aU.c))]⟩ (by simp only[mA]<;>rfl) (eA (([ue])++bn) h)
   ·exact((fF.b h36).a [.cn [1,2,5] [0,4]]).cs hZ cS (E5 aC x31.parent (([[aB ue.kind,aZ ue.pat.rel,bX (ue.pat.args.map tx),aZ ue.left,aZ ue.right]])++(bn.map aU.c))) (by simp only[mA]<;>rfl) (ih1 x31.parent (([ue])++bn) h)
  ·exact(((aY.g (iF h29)).b h30).a [.hl 0 [5] [1]]).ex hZ cq (eA bn h)
theorem uk{aC:aH}{aa:Int}{r:ay}(h:vT aC aa=some r):Good prog 47 [bw (aH.c aC),aB aa] (cV 71 5 (r.map aU.c)):=by
 refine gd func47 [[some (71,5)]] 35 fun hr Z hZ=>?_
 rw[vT]at h;refine(aY.a [.cn [1,2,5] [0,1]]).lp hZ (Ln hZ (fun cM h=>?_) fuel aa ([]:ay) h);obtain rfl:=aM h;exact aY.ret hZ
def vL(aC:Bytes):Option Bool:=((oD aC).bind fun y1=>(some y1.2))
theorem AT{aC:Bytes}{r:Bool}(h:vL aC=some r):Good prog 226 [aZ aC] (bO r):=by
 refine gd func226 bZ 11 fun hr Z hZ=>?_
 rw[vL]at h;obtain⟨y1,h2,h⟩:=aG h;cases h;exact(aY.g (sn h2)).ret hZ
def uO(aC:aU)(aa:aP):Option Bool:=((tS aC).bind fun y1=>(bif !(y1)then(some false)else((mY aa).bind fun y4=>(bif !(y4)then(some false)else((pZ aa aC.left).bind fun y7=>((pZ aa aC.right).bind fun y9=>(bif !(y7.2)then(some false)else(bif !(y9.2)then(some false)else(bif (aC.kind:Int)==3 then(some ((y7.1:Bytes)==y9.1))else(bif (aC.kind:Int)==4 then(some (!((y7.1:Bytes)==y9.1)))else((vL y7.1).bind fun yL=>(bif yL then((vL y9.1).bind fun P0=>(bif P0 then((kY y7.1 y9.1).bind fun L7=>(some (decide ((L7:Int)<0))))else(some false)))else(some false)))))))))))))
theorem GF{aC:aU}{aa:aP}{r:Bool}(h:uO aC aa=some r):Good prog 206 [bw (aU.c aC),bX (aa.map aX.c)] (bO r):=by
 refine gd func206 bZ 61 fun hr Z hZ=>?_
 rw[uO]at h;obtain⟨y1,h2,h⟩:=aG h;obtain⟨h3,h⟩|⟨h3,h⟩:=aK h
 ·obtain rfl:=aM h;exact(((aY.g (uj h2)).r 4 h3).T 1).ret hZ
 ·obtain⟨y4,h5,h⟩:=aG h;have lB:=((((aY.g (uj h2)).r 2 h3).g (oS h5)).r 2 h3)
  obtain⟨h6,h⟩|⟨h6,h⟩:=aK h
  ·obtain rfl:=aM h;exact(lB.b h6).ret hZ
  ·obtain⟨y7,h8,y9,h10,h⟩:=bR h;have fF:=(((lB.b h6).g (tq h8)).g (tq h10))
   obtain⟨h11,h⟩|⟨h11,h⟩:=aK h
   ·obtain rfl:=aM h;exact((fF.r 3 h11).T 1).ret hZ
   ·have jQ:=(fF.r 3 h11)
    obtain⟨h12,h⟩|⟨h12,h⟩:=aK h
    ·obtain rfl:=aM h;exact(jQ.b h12).ret hZ
    ·obtain⟨h13,h⟩|⟨h13,h⟩:=aK h
     ·cases h;exact((jQ.b h12).b h13).ret hZ
     ·have jz:=((jQ.b h12).b h13)
      obtain⟨h14,h⟩|⟨h14,h⟩:=aK h
      ·cases h;exact(jz.b h14).ret hZ
      ·obtain⟨yL,h16,h⟩:=aG h;have uc:=((jz.b h14).g (AT h16))
       obtain⟨h17,h⟩|⟨h17,h⟩:=aK h
       ·obtain⟨P0,h19,h⟩:=aG h;have xf:=(((uc.r 2 h17).g (AT h19)).b h17)
        obtain⟨h20,h⟩|⟨h20,h⟩:=aK h
        ·obtain⟨L7,h22,h⟩:=aG h;cases h;exact(((xf.r 3 h20).g (xW h22)).r 2 h20).ret hZ
        ·obtain rfl:=aM h;exact(xf.r 5 h20).ret hZ
       ·obtain rfl:=aM h;exact((uc.r 3 h17).F 5).ret hZ
def uN(aC:aU)(aa:aP)(cv:aJ):Option Bool:=((rC aC).bind fun y1=>(bif !(y1)then(some false)else((mY aa).bind fun y4=>(bif !(y4)then(some false)else(bif (aC.kind:Int)==1 then((gM aC.pat aa cv).bind fun y8=>(some (decide ((((y8.map aD.c).length:Int):Int)>0))))else(bif (aC.kind:Int)==2 then((gM aC.pat aa cv).bind fun yb=>(some ((((yb.map aD.c).length:Int):Int)==0)))else((uO aC aa).bind fun xN=>(some xN))))))))
theorem GD{aC:aU}{aa:aP}{cv:aJ}{r:Bool}(h:uN aC aa cv=some r):Good prog 161 [bw (aU.c aC),bX (aa.map aX.c),bX (cv.map aD.c)] (bO r):=by
 refine gd func161 bZ 38 fun hr Z hZ=>?_
 rw[uN]at h;obtain⟨y1,h2,h⟩:=aG h;obtain⟨h3,h⟩|⟨h3,h⟩:=aK h
 ·obtain rfl:=aM h;exact(((aY.g (jd h2)).r 4 h3).T 1).ret hZ
 ·obtain⟨y4,h5,h⟩:=aG h;have lB:=((((aY.g (jd h2)).r 2 h3).g (oS h5)).r 2 h3)
  obtain⟨h6,h⟩|⟨h6,h⟩:=aK h
  ·obtain rfl:=aM h;exact(lB.b h6).ret hZ
  ·obtain⟨h7,h⟩|⟨h7,h⟩:=aK h
   ·obtain⟨y8,h9,h⟩:=aG h;cases h;exact(((lB.b h6).b h7).g (fD h9)).ret hZ
   ·have fF:=((lB.b h6).b h7)
    obtain⟨h10,h⟩|⟨h10,h⟩:=aK h
    ·obtain⟨yb,h12,h⟩:=aG h;cases h;exact((fF.b h10).g (fD h12)).ret hZ
    ·obtain⟨xN,h14,h⟩:=aG h;obtain rfl:=aM h;exact((fF.b h10).g (GF h14)).ret hZ
def tV(aC:aV):Option aV:=((dO aC.facts).bind fun y1=>((tT aC.bind).bind fun y3=>(some (⟨y1,y3⟩:aV))))
theorem CJ{aC:aV}{r:aV}(h:tV aC=some r):Good prog 162 [bw (aV.c aC)] (bw [cV 43 2 (r.facts.map aD.c),cV 113 2 (r.bind.map aX.c)]):=by
 refine gd func162 [[some (43,2),some (113,2)]] 10 fun hr Z hZ=>?_
 rw[tV]at h;obtain⟨y1,h2,y3,h4,h⟩:=bR h;cases h;exact(((aY.a [.n 5]).g (di h2)).g (yB h4)).ret hZ
def pE(aC:ar)(aa:aU)(cv:aJ)(i1:Nat)(bg:aV)(k2:ar->Option ar):aJ->Nat->ar->Option ar
 | [],i2,fI=>(k2 fI)
 |jL::tK,i2,fI=>((kH aa.pat jL bg.bind).bind fun a08=>(bif a08.2 then((dO bg.facts).bind fun a09=>((eE jL).bind fun Tr=>(bif room ((a09.map aD.c).length+([[aZ Tr.rel,bX (Tr.args.map tx)]]).length) 40 then(bif room ((fI.map aV.c).length+([[bX ((a09.map aD.c)++([[aZ Tr.rel,bX (Tr.args.map tx)]])),bX (a08.1.map aX.c)]]).length) 48 then(pE aC aa cv i1 bg k2 tK (i2+1) (fI++([(⟨a09++([Tr]),a08.1⟩:aV)])))else none)else none)))else(pE aC aa cv i1 bg k2 tK (i2+1) fI)))
def jA(aC:ar)(aa:aU)(cv:aJ)(k1:ar->Option ar):ar->Nat->ar->Option ar
 | [],i1,bn=>(k1 bn)
 |bg::cj,i1,bn=>(bif (aa.kind:Int) != 1 then((uN aa bg.bind cv).bind fun VZ=>(bif VZ then((tV bg).bind fun XC=>(bif room ((bn.map aV.c).length+([[bX (XC.facts.map aD.c),bX (XC.bind.map aX.c)]]).length) 48 then(jA aC aa cv k1 cj (i1+1) (bn++([XC])))else none))else(jA aC aa cv k1 cj (i1+1) bn)))else(bif decide (cv.length<=maxLen)then(pE aC aa cv i1 bg (fun(tX:ar)=>(jA aC aa cv k1 cj (i1+1) tX)) cv 0 bn)else none))
def tW(aC:ar)(aa:aU)(cv:aJ):Option ar:=(jA aC aa cv (fun(cM:ar)=>(some cM)) aC 0 ([]:ar))
def EA(aC:ar)(aa:aU)(cv:aJ)(W0:List aR)(dL:Int):St:=⟨[(0,bX (aC.map aV.c)),(2,bX (cv.map aD.c)),(4,bp 0 0),(7,b9 1),(8,aB dL)],[bu (aU.c aa),af 77 2 W0]⟩
def EB(aC:ar)(aa:aU)(cv:aJ)(i1:Nat)(W0:List aR)(dL:Int):St:=⟨[(0,bX (aC.map aV.c)),(2,bX (cv.map aD.c)),(4,bp 0 0),(7,b9 1),(8,aB (i1:Int)),(9,aB dL)],[bu (aU.c aa),af 77 2 W0]⟩
def B9(r:ar):Kd:=.q [[some (77,2)]] (cV 77 2 (r.map aV.c))
theorem M3(hZ:Z.nt=79){aC:ar}{aa:aU}{cv:aJ}{i1:Nat}{bg:aV}{r:ar}{k2:ar->Option ar}(zc:∀(tX:ar),k2 tX=some r->Ax Z N f98 (B9 r) [1,1,0,1,0,0,1,1] ⟨[(0,bX (aC.map aV.c)),(2,bX (cv.map aD.c)),(4,bp 0 0),(7,b9 1),(8,aB (i1:Int))],[bu (aU.c aa),af 77 2 (tX.map aV.c)]⟩)(hx1:(aC)[i1]?=some bg)(hm2:cv.length<=maxLen):∀(rest:aJ) (i2:Nat) (fI:ar),cv.drop i2=rest->pE aC aa cv i1 bg k2 rest i2 fI=some r->Ar Z N f98 (B9 r) [1,1,0,1,0,0,1,0,0,1,1,0] (rest.length+1) (EB aC aa cv i1 (fI.map aV.c) (i2:Int)):=by
 intro rest
 induction rest with
 |nil=>
  intro i2 fI hd2 h;rw[pE]at h;refine aT fun N2 uX qp=>?_
  exact((aY.ge aD.c hd2).a [.hl 3 [0,2,4,7,8] [0,1]]).ex hZ uX (zc fI h)
 |cons jL tK ih2=>
  intro i2 fI hd2 h;rw[pE]at h;refine aT fun N2 uX qp=>?_
  obtain⟨a08,h652,h⟩:=aG h;have Ma:=(((((aY.lt aD.c hd2).a [.n 16]).l (bK aD.c 2 (dc hd2) rfl)).l (bK aV.c 2 hx1 rfl)).g (s9 h652))
  obtain⟨h653,h⟩|⟨h653,h⟩:=aK h
  ·obtain⟨a09,h660,Tr,h662,h⟩:=bR h;obtain⟨h663,h⟩:=bf h;obtain⟨h664,h⟩:=bf h;exact(((((((((Ma.b h653).a [.n2 [0,1,2,3,4,5,6,7,8,9,10,11,14,12,13,15,16,17,18] [0,1,2,3,4,5,6,7,8,9,10,11,13,14,12,15,16,17,18] 13 17 [0,12] [2,3,4,5,6]]).l (bK aV.c 2 hx1 rfl)).g (di h660)).l (bK aD.c 2 (dc hd2) rfl)).g (ez h662)).w (cA h663)).w (cA h664)).a [.cn [0,2,4,7,8,9] [0,8]]).cs hZ qp (EB aC aa cv i1 ((fI.map aV.c)++([[bX ((a09.map aD.c)++([[aZ Tr.rel,bX (Tr.args.map tx)]])),bX (a08.1.map aX.c)]])) (IntKind.i64.wrap ((i2:Int)+1))) (by first| (simp only[iS hd2 hm2,mA]<;>rfl)| (simp only[iS hd2 hm2,mA,aD.c,aX.c,aU.c,Action.c,aO.c,aV.c,aq.c,ai.c,Node.c,aH.c,XL.c]<;>rfl)) (ih2 (i2+1) (fI++([(⟨a09++([Tr]),a08.1⟩:aV)])) (dn hd2) h)
  ·exact((Ma.b h653).a [.cn [0,2,4,7,8,9] [0,1]]).ct hZ qp (iS hd2 hm2) (ih2 (i2+1) fI (dn hd2) h)
theorem M2(hZ:Z.nt=79){aC:ar}{aa:aU}{cv:aJ}{r:ar}{k1:ar->Option ar}(eA:∀(cM:ar),k1 cM=some r->Ax Z N f98 (B9 r) [1,1,1] ⟨[(7,b9 0)],[af 77 2 (cM.map aV.c)]⟩)(hm1:aC.length<=maxLen):∀(rest:ar) (i1:Nat) (bn:ar),aC.drop i1=rest->jA aC aa cv k1 rest i1 bn=some r->Ar Z N f98 (B9 r) [1,1,0,1,0] (rest.length+1) (EA aC aa cv (bn.map aV.c) (i1:Int)):=by
 intro rest
 induction rest with
 |nil=>
  intro i1 bn bD h;rw[jA]at h;refine aT fun N1 cq cS=>?_
  exact((aY.ge aV.c bD).a [.hl 0 [7] [1]]).ex hZ cq (eA bn h)
 |cons bg cj ih1=>
  intro i1 bn bD h;rw[jA]at h;refine aT fun N1 cq cS=>?_
  obtain⟨h563,h⟩|⟨h563,h⟩:=aK h
  ·obtain⟨VZ,h565,h⟩:=aG h;have Mb:=(((((aY.lt aV.c bD).b h563).a [.n 7]).l (bK aV.c 2 (dc bD) rfl)).g (GD h565))
   obtain⟨h566,h⟩|⟨h566,h⟩:=aK h
   ·obtain⟨XC,h568,h⟩:=aG h;obtain⟨h569,h⟩:=bf h;exact(((((Mb.b h566).l (bK aV.c 2 (dc bD) rfl)).g (CJ h568)).w (cA h569)).a [.cn [0,2,4,7,8] [0,5]]).cs hZ cS (EA aC aa cv ((bn.map aV.c)++([[bX (XC.facts.map aD.c),bX (XC.bind.map aX.c)]])) (IntKind.i64.wrap ((i1:Int)+1))) (by simp only[iS bD hm1,mA]<;>rfl) (ih1 (i1+1) (bn++([XC])) (dn bD) h)
   ·exact((Mb.b h566).a [.cn [0,2,4,7,8] [0,1]]).ct hZ cS (iS bD hm1) (ih1 (i1+1) bn (dn bD) h)
  ·obtain⟨h665,h⟩:=bf h;refine(((aY.lt aV.c bD).b h563).a [.cn [0,2,4,7,8,9] [0,1]]).lp hZ (M3 hZ (fun tX h=>?_) ((drop_cons bD).1) (bh h665) cv 0 bn rfl h);exact(aY.a [.cn [0,2,4,7,8] [0,1]]).ct hZ cS (iS bD hm1) (ih1 (i1+1) tX (dn bD) h)
theorem uo{aC:ar}{aa:aU}{cv:aJ}{r:ar}(h:tW aC aa cv=some r):Good prog 98 [bX (aC.map aV.c),bw (aU.c aa),bX (cv.map aD.c)] (cV 77 2 (r.map aV.c)):=by
 refine gd func98 [[some (77,2)]] 79 fun hr Z hZ=>?_
 rw[tW]at h;refine(aY.a [.cn [0,2,4,7,8] [0,1]]).lp hZ (M2 hZ (fun cM h=>?_) (by have:=(gX.sl (hr _ (aE (i:=0) rfl))).1;simpa using this) aC 0 ([]:ar) rfl h);obtain rfl:=aM h;exact aY.ret hZ
def mK(aC:ay)(aa:aJ)(k1:ar->Option ar):ay->Nat->ar->Option ar
 | [],i1,bY=>(k1 bY)
 |bg::cj,i1,bY=>((tW bY bg aa).bind fun rU=>(mK aC aa k1 cj (i1+1) rU))
def qf(aC:ay)(aa:aJ):Option ar:=(mK aC aa (fun(cM:ar)=>(some cM)) aC 0 ([(⟨[],[]⟩:aV)]))
def CK(aC:ay)(aa:aJ)(W0:List aR)(dL:Int):St:=⟨[(0,bX (aC.map aU.c)),(1,bX (aa.map aD.c)),(5,b9 0),(6,aB dL)],[af 77 2 W0]⟩
theorem JU(hZ:Z.nt=23){aC:ay}{aa:aJ}{r:ar}{k1:ar->Option ar}(eA:∀(cM:ar),k1 cM=some r->Ax Z N f46 (B9 r) [1,1,1] ⟨[(5,b9 0)],[af 77 2 (cM.map aV.c)]⟩)(hm1:aC.length<=maxLen):∀(rest:ay) (i1:Nat) (bY:ar),aC.drop i1=rest->mK aC aa k1 rest i1 bY=some r->Ar Z N f46 (B9 r) [1,1,0,1,0] (rest.length+1) (CK aC aa (bY.map aV.c) (i1:Int)):=by
 intro rest
 induction rest with
 |nil=>
  intro i1 bY bD h;rw[mK]at h;refine aT fun N1 cq cS=>?_
  exact((aY.ge aU.c bD).a [.hl 0 [5] [0]]).ex hZ cq (eA bY h)
 |cons bg cj ih1=>
  intro i1 bY bD h;rw[mK]at h;refine aT fun N1 cq cS=>?_
  obtain⟨rU,h23,h⟩:=aG h;exact((((aY.lt aU.c bD).l (bK aU.c 5 (dc bD) rfl)).g (uo h23)).a [.cn [0,1,5,6] [1]]).ct hZ cS (iS bD hm1) (ih1 (i1+1) rU (dn bD) h)
theorem AZ{aC:ay}{aa:aJ}{r:ar}(h:qf aC aa=some r):Good prog 46 [bX (aC.map aU.c),bX (aa.map aD.c)] (cV 77 2 (r.map aV.c)):=by
 refine gd func46 [[some (77,2)]] 23 fun hr Z hZ=>?_
 rw[qf]at h;refine(aY.a [.cn [0,1,5,6] [0]]).lps hZ (CK aC aa ([[bX ([]),bX ([])]]) 0) (by simp only[mA]<;>rfl) (JU hZ (fun cM h=>?_) (by have:=(gX.sl (hr _ (aE (i:=0) rfl))).1;simpa using this) aC 0 ([(⟨[],[]⟩:aV)]) rfl h);obtain rfl:=aM h;exact aY.ret hZ
def n7(aC:aH)(aa:aJ)(y1:aJ)(k1:bQ->Option aH):Nat->Int->bQ->Option aH
 |0,_,_=>none
 |n1+1,zM,nF=>(bif decide ((zM:Int)<((nF.map ai.c).length:Int))then((fy nF zM).bind fun x26=>((gM x26.shape ([]) aa).bind fun Cg=>(n7 aC aa y1 k1 n1 (IntKind.i64.wrap (zM+1)) (nF.set zM.toNat (⟨x26.shape,Cg⟩:ai)))))else(k1 nF))
def kL(aC:aH)(aa:aJ)(y1:aJ)(lW:bQ)(k2:bN->Option aH):Nat->Int->bN->Option aH
 |0,_,_=>none
 |n2+1,nh,kQ=>(bif decide ((nh:Int)<((kQ.map Node.c).length:Int))then((vT (⟨aC.rules,aC.ends,lW,kQ,y1,aC.cP⟩:aH) nh).bind fun y80=>((qf y80 aa).bind fun y82=>((fy kQ nh).bind fun x84=>(kL aC aa y1 lW k2 n2 (IntKind.i64.wrap (nh+1)) (kQ.set nh.toNat (⟨x84.parent,x84.cond,x84.cX,y82⟩:Node))))))else(k2 kQ))
def vW(aC:aH)(aa:aJ):Option aH:=((dO aa).bind fun y1=>(n7 aC aa y1 (fun(lW:bQ)=>(kL aC aa y1 lW (fun(nA:bN)=>(some (⟨aC.rules,aC.ends,lW,nA,y1,aC.cP⟩:aH))) fuel 0 aC.nodes)) fuel 0 aC.bG))
def EG(aC:aH)(aa:aJ)(y1:aJ)(zM:Int)(W1:List aR):St:=⟨[(1,b9 0),(2,bp 1 0),(4,bp 2 0),(5,aB zM)],[af 43 2 (aa.map aD.c),bu [b9 3,b9 4,b9 5,b9 6,b9 7,aB aC.cP],bu [D.nil,D.nil,D.nil,D.nil,D.nil,aB 0],af 63 4 (aC.rules.map aO.c),af 3 1 (aC.ends.map jM),af 83 3 W1,af 74 8 (aC.nodes.map Node.c),af 43 2 (y1.map aD.c)]⟩
def vp(r:aH):Kd:=.q zo (bw [cV 63 4 (r.rules.map aO.c),cV 3 1 (r.ends.map jM),cV 83 3 (r.bG.map ai.c),cV 74 8 (r.nodes.map Node.c),cV 43 2 (r.facts.map aD.c),aB r.cP])
theorem MA(hZ:Z.nt=48){aC:aH}{aa:aJ}{y1:aJ}{r:aH}{k1:bQ->Option aH}(eA:∀(lW:bQ),k1 lW=some r->Ax Z N f133 (vp r) [1,1,1] ⟨[(1,b9 0),(2,bp 1 0),(4,bp 2 0)],[af 43 2 (aa.map aD.c),bu [b9 3,b9 4,b9 5,b9 6,b9 7,aB aC.cP],bu [D.nil,D.nil,D.nil,D.nil,D.nil,aB 0],af 63 4 (aC.rules.map aO.c),af 3 1 (aC.ends.map jM),af 83 3 (lW.map ai.c),af 74 8 (aC.nodes.map Node.c),af 43 2 (y1.map aD.c)]⟩):∀(n1:Nat) (zM:Int) (nF:bQ),n7 aC aa y1 k1 n1 zM nF=some r->Ar Z N f133 (vp r) [1,1,0,1,0] n1 (EG aC aa y1 zM (nF.map ai.c)):=by
 intro n
 induction n with
 |zero=>intro zM nF h;simp[n7]at h
 |succ n1 ih1=>
  intro zM nF h;rw[n7]at h;refine aT fun N1 cq cS=>?_
  obtain⟨h25,h⟩|⟨h25,h⟩:=aK h
  ·obtain⟨x26,h27,Cg,h29,h⟩:=bR h;exact(((((((((aY.b h25).a [.n 11]).i (fH ai.c 3 h27)).o 3 2 .uq (cL ai.c (dl h27))).a [.d (cV 43 2 (Cg.map aD.c))]).w (show Good prog 44 [bw (aD.c x26.shape),bX ([]),bX (aa.map aD.c)] (cV 43 2 (Cg.map aD.c))from by first| (simpa only[bI,bA,cF,cD,cI]using fD h29)|exact fD h29)).i (fH ai.c 3 h27)).w (show(nF.map ai.c)[zM.toNat]?=some [aZ x26.shape.rel,bX (x26.shape.args.map tx),bX (x26.facts.map aD.c)]from cL ai.c (dl h27))).a [.row [aZ x26.shape.rel,bX (x26.shape.args.map tx),bX (x26.facts.map aD.c)],.cn [1,2,4,5] [0,1,2,3,4,5,6,7]]).cs hZ cS (EG aC aa y1 (IntKind.i64.wrap (zM+1)) ((nF.map ai.c).set zM.toNat [aZ x26.shape.rel,bX (x26.shape.args.map tx),bX (Cg.map aD.c)])) (by simp only[mA]<;>rfl) (ih1 (IntKind.i64.wrap (zM+1)) (nF.set zM.toNat (⟨x26.shape,Cg⟩:ai)) h)
  ·exact((aY.b h25).a [.hl 0 [1,2,4] [0,1,2,3,4,5,6,7]]).ex hZ cq (eA nF h)
def EH(aC:aH)(aa:aJ)(y1:aJ)(lW:bQ)(nh:Int)(W1:List aR):St:=⟨[(1,b9 0),(2,bp 1 0),(4,bp 2 0),(6,aB nh)],[af 43 2 (aa.map aD.c),bu [b9 3,b9 4,b9 5,b9 6,b9 7,aB aC.cP],bu [D.nil,D.nil,D.nil,D.nil,D.nil,aB 0],af 63 4 (aC.rules.map aO.c),af 3 1 (aC.ends.map jM),af 83 3 (lW.map ai.c),af 74 8 W1,af 43 2 (y1.map aD.c)]⟩
theorem MB(hZ:Z.nt=48){aC:aH}{aa:aJ}{y1:aJ}{lW:bQ}{r:aH}{k2:bN->Option aH}(zc:∀(nA:bN),k2 nA=some r->Ax Z N f133 (vp r) [1,1,1,1] ⟨[(2,bp 0 0),(4,bp 1 0)],[bu [b9 2,b9 3,b9 4,b9 5,b9 6,aB aC.cP],bu [D.nil,D.nil,D.nil,D.nil,D.nil,aB 0],af 63 4 (aC.rules.map aO.c),af 3 1 (aC.ends.map jM),af 83 3 (lW.map ai.c),af 74 8 (nA.map Node.c),af 43 2 (y1.map aD.c)]⟩):∀(n2:Nat) (nh:Int) (kQ:bN),kL aC aa y1 lW k2 n2 nh kQ=some r->Ar Z N f133 (vp r) [1,1,1,0,1,0] n2 (EH aC aa y1 lW nh (kQ.map Node.c)):=by
 intro n
 induction n with
 |zero=>intro nh kQ h;simp[kL]at h
 |succ n2 ih2=>
  intro nh kQ h;rw[kL]at h;refine aT fun N2 uX qp=>?_
  obtain⟨h75,h⟩|⟨h75,h⟩:=aK h
  ·obtain⟨y80,h81,y82,h83,x84,h85,h⟩:=gW h;exact(((((((aY.b h75).a [.n2 [0,1,2,3,4,5,6,7,8,9,10] [0,1,2,3,4,5,6,7,8,9,10] 7 8 [0,1,2] [],.d (cV 71 5 (y80.map aU.c))]).w (show Good prog 47 [bw [bX (aC.rules.map aO.c),bX (aC.ends.map jM),bX (lW.map ai.c),bX (kQ.map Node.c),bX (y1.map aD.c),aB aC.cP],aB nh] (cV 71 5 (y80.map aU.c))from by first| (simpa only[bI,bA,cF,cD,cI]using uk h81)|exact uk h81| (have t:=uk h81;simp only[bI,cD,cI,aH.c]at t;exact t))).g (AZ h83)).i (fH Node.c 8 h85)).w (show(kQ.map Node.c)[nh.toNat]?=some [aB x84.parent,aB x84.cond.kind,aZ x84.cond.pat.rel,bX (x84.cond.pat.args.map tx),aZ x84.cond.left,aZ x84.cond.right,aB x84.cX,bX (x84.tokens.map aV.c)]from cL Node.c (dl h85))).a [.row [aB x84.parent,aB x84.cond.kind,aZ x84.cond.pat.rel,bX (x84.cond.pat.args.map tx),aZ x84.cond.left,aZ x84.cond.right,aB x84.cX,bX (x84.tokens.map aV.c)],.cn [1,2,4,6] [0,1,2,3,4,5,6,7]]).cs hZ qp (EH aC aa y1 lW (IntKind.i64.wrap (nh+1)) ((kQ.map Node.c).set nh.toNat [aB x84.parent,aB x84.cond.kind,aZ x84.cond.pat.rel,bX (x84.cond.pat.args.map tx),aZ x84.cond.left,aZ x84.cond.right,aB x84.cX,bX (y82.map aV.c)])) (by simp only[mA]<;>rfl) (ih2 (IntKind.i64.wrap (nh+1)) (kQ.set nh.toNat (⟨x84.parent,x84.cond,x84.cX,y82⟩:Node)) h)
  ·exact((aY.b h75).a [.hl 0 [2,4] [1,2,3,4,5,6,7]]).ex hZ uX (zc kQ h)
theorem Kf{aC:aH}{aa:aJ}{r:aH}(h:vW aC aa=some r):LD prog 133 [bw [cV 63 4 (aC.rules.map aO.c),cV 3 1 (aC.ends.map jM),cV 83 3 (aC.bG.map ai.c),cV 74 8 (aC.nodes.map Node.c),cV 43 2 (aC.facts.map aD.c),aB aC.cP],cV 43 2 (aa.map aD.c)] (bw [cV 63 4 (r.rules.map aO.c),cV 3 1 (r.ends.map jM),cV 83 3 (r.bG.map ai.c),cV 74 8 (r.nodes.map Node.c),cV 43 2 (r.facts.map aD.c),aB r.cP]):=by
 refine gdF func133 zo 48 [bw [b9 0,b9 1,b9 2,b9 3,b9 4,aB aC.cP],b9 5] [af 63 4 (aC.rules.map aO.c),af 3 1 (aC.ends.map jM),af 83 3 (aC.bG.map ai.c),af 74 8 (aC.nodes.map Node.c),af 43 2 (aC.facts.map aD.c),af 43 2 (aa.map aD.c)] fun hr Z hZ=>?_
 rw[vW]at h;obtain⟨y1,h2,h⟩:=aG h;refine((aY.g (di h2)).a [.cn [1,2,4,5] [5,6,7,0,1,2,3,8]]).lp hZ (MA hZ (fun lW h=>?_) fuel 0 aC.bG h);refine(aY.a [.cn [1,2,4,6] [0,1,2,3,4,5,6,7]]).lp hZ (MB hZ (fun nA h=>?_) fuel 0 aC.nodes h);cases h;exact aY.ret hZ
def vV(aC:ck):Option (ck×aH):=((zD aC 4).bind fun y1=>((kZ y1.2).bind fun y3=>((qy y1.1 8).bind fun y7=>((vW y3.1 y7.2).bind fun y9=>((cg y7.1 50).bind fun yb=>(some (yb.1,(⟨y9.rules,y9.ends,y9.bG,y9.nodes,y9.facts,yb.2⟩:aH))))))))
theorem CL{aC:ck}{r:ck×aH}(h:vV aC=some r):iz prog 75 (ck.c aC) (ck.c r.1) [] (bw [cV 63 4 (r.2.rules.map aO.c),cV 3 1 (r.2.ends.map jM),cV 83 3 (r.2.bG.map ai.c),cV 74 8 (r.2.nodes.map Node.c),cV 43 2 (r.2.facts.map aD.c),aB r.2.cP]):=by
 refine L4 func75 [[none,none,none],[some (63,4),some (3,1),some (83,3),some (74,8),some (43,2),none]] 19 [bX (aC.b.map yx),aB aC.i,aB aC.h] [] [] fun hr jB Z hZ=>?_
 rw[vV]at h;obtain⟨y1,h2,y3,h4,y7,h8,y9,h10,yb,h12,h⟩:=Ys h;cases h;exact((((((aY.hp iy (M1 h2)).g (tQ h4)).a [.n2 [0,1,2,3,4] [0,1,2,3,4] 2 3 [0] [0]]).hp iy (zA h8)).hf [[some (63,4),some (3,1),some (83,3),some (74,8),some (43,2),none],[some (43,2)]] (Kf h10)).hp iy (cQ h12)).ret hZ
def nI(aC:ck):Option (ck×Bytes):=((qx aC ([[97],[98],[111,110],[55],[49,48],[57,57,57,57],[49,48,48,48,48],[48,48,55],[48],[],[65],[63,120],[63,63],[63],[97,98,99,100,101,102,103,104],[97,98,99,100,101,102,103,104,105],[63,97,98,99,100,101,102,103,104],[97,45,98],[120,49],[49,120],[45,51]]:aI)).bind fun y1=>(some (y1.1,y1.2)))
theorem oq{aC:ck}{r:ck×Bytes}(h:nI aC=some r):iz prog 137 (ck.c aC) (ck.c r.1) [] (aZ r.2):=by
 refine L4 func137 iy 6 [bX (aC.b.map yx),aB aC.i,aB aC.h] [] [] fun hr jB Z hZ=>?_
 rw[nI]at h;obtain⟨y1,h2,h⟩:=aG h;cases h;exact(aY.hp V4 (sv h2)).ret hZ
def lU(aC:ck):Option (ck×aD):=((fO aC).bind fun y1=>((cg y1.1 10).bind fun y3=>(bif (y3.2:Int)==0 then((nI y3.1).bind fun y6=>(some (y6.1,(⟨y6.2,y1.2.args⟩:aD))))else(bif (y3.2:Int)==1 then((nI y3.1).bind fun yb=>(bif room ((y1.2.args.map tx).length+([[aZ yb.2]]).length) 16 then(some (yb.1,(⟨y1.2.rel,y1.2.args++([yb.2])⟩:aD)))else none))else(bif (y3.2:Int)==2 then((cg y3.1 5).bind fun yL=>(bif decide (0<=(yL.2:Int))&&decide (yL.2.toNat<=(([[97],[98],[99],[97]]:aI).map tx).length)then(some (yL.1,(⟨y1.2.rel,([[97],[98],[99],[97]]:aI).take yL.2.toNat⟩:aD)))else none))else(some (y3.1,y1.2)))))))
theorem sw{aC:ck}{r:ck×aD}(h:lU aC=some r):iz prog 112 (ck.c aC) (ck.c r.1) [] (bw [aZ r.2.rel,cV 9 1 (r.2.args.map tx)]):=by
 refine L4 func112 OL 30 [bX (aC.b.map yx),aB aC.i,aB aC.h] [] [] fun hr jB Z hZ=>?_
 rw[lU]at h;obtain⟨y1,h2,y3,h4,h⟩:=bR h;have lB:=((aY.hp jK (ou h2)).hp iy (cQ h4))
 obtain⟨h5,h⟩|⟨h5,h⟩:=aK h
 ·obtain⟨y6,h7,h⟩:=aG h;cases h;exact((lB.b h5).hp jK (oq h7)).ret hZ
 ·obtain⟨h8,h⟩|⟨h8,h⟩:=aK h
  ·obtain⟨yb,h12,h⟩:=aG h;obtain⟨h13,h⟩:=bf h;cases h;exact(((((lB.b h5).b h8).a [.n2 [0,1,2,3,4,5,6,7] [0,1,2,3,4,5,6,7] 3 5 [0,1] [0]]).hp jK (oq h12)).w (cA h13)).rts hZ (D.iw [bw [aZ y1.2.rel,cV 9 1 ((y1.2.args.map tx)++([[aZ yb.2]]))],bw [bX (yb.1.b.map yx),aB yb.1.i,aB yb.1.h],D.val jB]) (by first|rfl| (simp only[mA]<;>rfl)| (simp only[cN,mA]<;>rfl))
  ·have fF:=((lB.b h5).b h8)
   obtain⟨h14,h⟩|⟨h14,h⟩:=aK h
   ·obtain⟨yL,h16,h⟩:=aG h;obtain⟨h17,h⟩:=bf h;cases h;exact((((fF.b h14).hp iy (cQ h16)).w (Vr h17)).a [.cut 0 yL.2.toNat]).rts hZ (D.iw [bw [aZ y1.2.rel,cV 9 1 ((([[97],[98],[99],[97]]:aI).map tx).take yL.2.toNat)],bw [bX (yL.1.b.map yx),aB yL.1.i,aB yL.1.h],D.val jB]) (by first|rfl| (simp only[mA]<;>rfl)| (simp only[cN,mA]<;>rfl))
   ·cases h;exact(fF.b h14).ret hZ
def mo(y3:ck×Int)(k1:aJ->Option (ck×aJ)):Nat->Int->aJ->Option (ck×aJ)
 |0,_,_=>none
 |n1+1,pz,bn=>(bif decide ((pz:Int)<25)then((kF pz).bind fun IV=>((lV bn (⟨[110],[IV]⟩:aD)).bind fun ue=>(mo y3 k1 n1 (IntKind.i64.wrap (pz+1)) ue)))else(k1 bn))
def xY(aC:ck):Option (ck×aJ):=((qy aC 6).bind fun y1=>((cg y1.1 8).bind fun y3=>(bif (y3.2:Int)==0 then((lU y3.1).bind fun y6=>(bif room ((y1.2.map aD.c).length+([[aZ y6.2.rel,bX (y6.2.args.map tx)]]).length) 40 then(some (y6.1,y1.2++([y6.2])))else none))else(bif (y3.2:Int)==1 then(mo y3 (fun(kO:aJ)=>((ir y3.1 ([23,24,25]:bM)).bind fun Fj=>(bif decide (0<=(Fj.2:Int))&&decide (Fj.2.toNat<=(kO.map aD.c).length)then(some (Fj.1,kO.take Fj.2.toNat))else none))) fuel 0 y1.2)else(some (y3.1,y1.2))))))
def NR(jB:Value)(y3:ck×Int)(pz:Int)(W1:List aR):St:=⟨[(0,bp 0 0),(3,b9 1),(4,aB pz)],[Ob.CW (ck.c y3.1) jB,af 43 2 W1]⟩
theorem Lu(hZ:Z.nt=34){jB:Value}{y3:ck×Int}{r:ck×aJ}{k1:aJ->Option (ck×aJ)}(eA:∀(kO:aJ),k1 kO=some r->Ax Z N f77 (.p Nl jB (ck.c r.1) (cV 43 2 (r.2.map aD.c))) [1,1,0,1,0,1,1,1,0,1] ⟨[(0,bp 0 0),(3,b9 1)],[Ob.CW (ck.c y3.1) jB,af 43 2 (kO.map aD.c)]⟩):∀(n1:Nat) (pz:Int) (bn:aJ),mo y3 k1 n1 pz bn=some r->Ar Z N f77 (.p Nl jB (ck.c r.1) (cV 43 2 (r.2.map aD.c))) [1,1,0,1,0,1,1,1,0,0,1,0] n1 (NR jB y3 pz (bn.map aD.c)):=by
 intro n
 induction n with
 |zero=>intro pz bn h;simp[mo]at h
 |succ n1 ih1=>
  intro pz bn h;rw[mo]at h;refine aT fun N1 cq cS=>?_
  obtain⟨h30,h⟩|⟨h30,h⟩:=aK h
  ·obtain⟨IV,h32,ue,h34,h⟩:=bR h;exact(((((aY.b h30).g (oR h32)).a [.d (cV 43 2 (ue.map aD.c))]).w (show Good prog 67 [bX (bn.map aD.c),bw [aZ ([110]),bX ([[aZ IV]])]] (cV 43 2 (ue.map aD.c))from by first| (simpa only[bI,bA,cF,cD,cI]using sx h34)|exact sx h34| (have t:=sx h34;simp only[bI,cD,cI,aD.c]at t;exact t))).a [.cn [0,3,4] [0,3]]).cf hZ cS (ih1 (IntKind.i64.wrap (pz+1)) ue h)
  ·exact((aY.b h30).a [.hl 2 [0,3] [0,1]]).ex hZ cq (eA bn h)
theorem KV{aC:ck}{r:ck×aJ}(h:xY aC=some r):iz prog 77 (ck.c aC) (ck.c r.1) [] (cV 43 2 (r.2.map aD.c)):=by
 refine L4 func77 Nl 34 [bX (aC.b.map yx),aB aC.i,aB aC.h] [] [] fun hr jB Z hZ=>?_
 rw[xY]at h;obtain⟨y1,h2,y3,h4,h⟩:=bR h;have lB:=((aY.hp iy (zA h2)).hp iy (cQ h4))
 obtain⟨h5,h⟩|⟨h5,h⟩:=aK h
 ·obtain⟨y6,h7,h⟩:=aG h;obtain⟨h8,h⟩:=bf h;cases h;exact(((lB.b h5).hp jK (sw h7)).w (cA h8)).rts hZ (D.iw [cV 43 2 ((y1.2.map aD.c)++([[aZ y6.2.rel,bX (y6.2.args.map tx)]])),bw [bX (y6.1.b.map yx),aB y6.1.i,aB y6.1.h],D.val jB]) (by first|rfl| (simp only[mA]<;>rfl)| (simp only[cN,mA]<;>rfl))
 ·obtain⟨h9,h⟩|⟨h9,h⟩:=aK h
  ·refine(((lB.b h5).b h9).a [.cn [0,3,4] [0,1]]).lp hZ (Lu hZ (fun kO h=>?_) fuel 0 y1.2 h);obtain⟨Fj,h36,h⟩:=aG h;obtain⟨h37,h⟩:=bf h;cases h;exact(((aY.hp OM (l9 h36)).w (Vr h37)).a [.cut 0 Fj.2.toNat]).rts hZ (D.iw [cV 43 2 ((kO.map aD.c).take Fj.2.toNat),bw [bX (Fj.1.b.map yx),aB Fj.1.i,aB Fj.1.h],D.val jB]) (by first|rfl| (simp only[mA]<;>rfl)| (simp only[cN,mA]<;>rfl))
  ·cases h;exact((lB.b h5).b h9).ret hZ
def wi(aC:ck):Option (ck×aD):=((jx aC).bind fun y1=>((cg y1.1 10).bind fun y3=>(bif (y3.2:Int)==0 then((nI y3.1).bind fun y6=>(some (y6.1,(⟨y6.2,y1.2.args⟩:aD))))else(bif (y3.2:Int)==1 then((nI y3.1).bind fun yb=>(bif room ((y1.2.args.map tx).length+([[aZ yb.2]]).length) 16 then(some (yb.1,(⟨y1.2.rel,y1.2.args++([yb.2])⟩:aD)))else none))else(bif (y3.2:Int)==2 then((cg y3.1 5).bind fun yL=>(bif decide (0<=(yL.2:Int))&&decide (yL.2.toNat<=(([[63,120],[63,120],[63,121],[63,120]]:aI).map tx).length)then(some (yL.1,(⟨y1.2.rel,([[63,120],[63,120],[63,121],[63,120]]:aI).take yL.2.toNat⟩:aD)))else none))else(some (y3.1,y1.2)))))))
theorem D5{aC:ck}{r:ck×aD}(h:wi aC=some r):iz prog 139 (ck.c aC) (ck.c r.1) [] (bw [aZ r.2.rel,cV 9 1 (r.2.args.map tx)]):=by
 refine L4 func139 OL 30 [bX (aC.b.map yx),aB aC.i,aB aC.h] [] [] fun hr jB Z hZ=>?_
 rw[wi]at h;obtain⟨y1,h2,y3,h4,h⟩:=bR h;have lB:=((aY.hp jK (oy h2)).hp iy (cQ h4))
 obtain⟨h5,h⟩|⟨h5,h⟩:=aK h
 ·obtain⟨y6,h7,h⟩:=aG h;cases h;exact((lB.b h5).hp jK (oq h7)).ret hZ
 ·obtain⟨h8,h⟩|⟨h8,h⟩:=aK h
  ·obtain⟨yb,h12,h⟩:=aG h;obtain⟨h13,h⟩:=bf h;cases h;exact(((((lB.b h5).b h8).a [.n2 [0,1,2,3,4,5,6,7] [0,1,2,3,4,5,6,7] 3 5 [0,1] [0]]).hp jK (oq h12)).w (cA h13)).rts hZ (D.iw [bw [aZ y1.2.rel,cV 9 1 ((y1.2.args.map tx)++([[aZ yb.2]]))],bw [bX (yb.1.b.map yx),aB yb.1.i,aB yb.1.h],D.val jB]) (by first|rfl| (simp only[mA]<;>rfl)| (simp only[cN,mA]<;>rfl))
  ·have fF:=((lB.b h5).b h8)
   obtain⟨h14,h⟩|⟨h14,h⟩:=aK h
   ·obtain⟨yL,h16,h⟩:=aG h;obtain⟨h17,h⟩:=bf h;cases h;exact((((fF.b h14).hp iy (cQ h16)).w (Vr h17)).a [.cut 0 yL.2.toNat]).rts hZ (D.iw [bw [aZ y1.2.rel,cV 9 1 ((([[63,120],[63,120],[63,121],[63,120]]:aI).map tx).take yL.2.toNat)],bw [bX (yL.1.b.map yx),aB yL.1.i,aB yL.1.h],D.val jB]) (by first|rfl| (simp only[mA]<;>rfl)| (simp only[cN,mA]<;>rfl))
   ·cases h;exact(fF.b h14).ret hZ
def zB(aC:ck):Option (ck×aU):=((tU aC).bind fun y1=>((cg y1.1 12).bind fun y3=>(bif (y3.2:Int)==0 then((ir y3.1 ([0,1,3,5,6, -1]:bM)).bind fun y6=>(some (y6.1,(⟨y6.2,y1.2.pat,y1.2.left,y1.2.right⟩:aU))))else(bif (y3.2:Int)==1 then((nI y3.1).bind fun y9=>(some (y9.1,(⟨y1.2.kind,y1.2.pat,y9.2,y1.2.right⟩:aU))))else(bif (y3.2:Int)==2 then((wi y3.1).bind fun Tw=>(some (Tw.1,(⟨y1.2.kind,Tw.2,y1.2.left,y1.2.right⟩:aU))))else(some (y3.1,y1.2)))))))
theorem Lw{aC:ck}{r:ck×aU}(h:zB aC=some r):iz prog 138 (ck.c aC) (ck.c r.1) [] (bw [aB r.2.kind,aZ r.2.pat.rel,cV 9 1 (r.2.pat.args.map tx),aZ r.2.left,aZ r.2.right]):=by
 refine L4 func138 a2J 25 [bX (aC.b.map yx),aB aC.i,aB aC.h] [] [] fun hr jB Z hZ=>?_
 rw[zB]at h;obtain⟨y1,h2,y3,h4,h⟩:=bR h;have lB:=((aY.hp jK (CE h2)).hp iy (cQ h4))
 obtain⟨h5,h⟩|⟨h5,h⟩:=aK h
 ·obtain⟨y6,h7,h⟩:=aG h;cases h;exact((lB.b h5).hp OM (l9 h7)).ret hZ
 ·obtain⟨h8,h⟩|⟨h8,h⟩:=aK h
  ·obtain⟨y9,h10,h⟩:=aG h;cases h;exact(((lB.b h5).b h8).hp jK (oq h10)).ret hZ
  ·have fF:=((lB.b h5).b h8)
   obtain⟨h11,h⟩|⟨h11,h⟩:=aK h
   ·obtain⟨Tw,h13,h⟩:=aG h;cases h;exact((fF.b h11).hp jK (D5 h13)).ret hZ
   ·cases h;exact(fF.b h11).ret hZ
def zC(aC:ck):Option (ck×aO):=((nJ aC).bind fun y1=>((cg y1.1 14).bind fun y3=>(bif (y3.2:Int)==0 then((nI y3.1).bind fun y6=>(some (y6.1,(⟨y6.2,y1.2.prio,y1.2.conds,y1.2.dD⟩:aO))))else(bif (y3.2:Int)==1 then((ir y3.1 ([-1,0,9,10]:bM)).bind fun y9=>(some (y9.1,(⟨y1.2.name,y9.2,y1.2.conds,y1.2.dD⟩:aO))))else(bif (y3.2:Int)==2 then((zB y3.1).bind fun Ai=>(bif room ((y1.2.conds.map aU.c).length+([[aB Ai.2.kind,aZ Ai.2.pat.rel,bX (Ai.2.pat.args.map tx),aZ Ai.2.left,aZ Ai.2.right]]).length) 80 then(some (Ai.1,(⟨y1.2.name,y1.2.prio,y1.2.conds++([Ai.2]),y1.2.dD⟩:aO)))else none))else(bif (y3.2:Int)==3 then((ir y3.1 ([0,1,2,3,4]:bM)).bind fun rU=>((wi rU.1).bind fun EY=>(bif room ((y1.2.dD.map Action.c).length+([[aB rU.2,aZ EY.2.rel,bX (EY.2.args.map tx)]]).length) 48 then(some (EY.1,(⟨y1.2.name,y1.2.prio,y1.2.conds,y1.2.dD++([(⟨rU.2,EY.2⟩:Action)])⟩:aO)))else none)))else(bif (y3.2:Int)==4 then((yF (y1.2.conds.map aU.c).length (some (aB 1)) none).bind fun p=>(fun l28 u29=>(some (y3.1,(⟨y1.2.name,y1.2.prio,(y1.2.conds.take u29).drop l28,y1.2.dD⟩:aO)))) p.1 p.2)else(bif (y3.2:Int)==5 then((yF (y1.2.dD.map Action.c).length (some (aB 1)) none).bind fun p=>(fun l32 u33=>(some (y3.1,(⟨y1.2.name,y1.2.prio,y1.2.conds,(y1.2.dD.take u33).drop l32⟩:aO)))) p.1 p.2)else(bif (y3.2:Int)==6 then((qx y3.1 ([[63,102],[63,97],[63,103]]:aI)).bind fun Oa=>((ir Oa.1 ([1,2]:bM)).bind fun P3=>((qx P3.1 ([[63,102],[63,120]]:aI)).bind fun XB=>(some (XB.1,(⟨y1.2.name,y1.2.prio,[(⟨1,(⟨[116],([[63,97],[63,98],[63,99]]:aI)⟩:aD),[],[]⟩:aU),(⟨1,(⟨[116],([[63,100],[63,101],Oa.2]:aI)⟩:aD),[],[]⟩:aU),(⟨P3.2,(⟨[117],[XB.2]⟩:aD),[],[]⟩:aU)],[(⟨3,(⟨[],[]⟩:aD)⟩:Action)]⟩:aO))))))else(some (y3.1,y1.2)))))))))))
theorem Lx{aC:ck}{r:ck×aO}(h:zC aC=some r):iz prog 80 (ck.c aC) (ck.c r.1) [] (bw [aZ r.2.name,aB r.2.prio,bX (r.2.conds.map aU.c),bX (r.2.dD.map Action.c)]):=by
 refine L4 func80 [[none,none,none],[none,none,none,none]] 79 [bX (aC.b.map yx),aB aC.i,aB aC.h] [] [] fun hr jB Z hZ=>?_
 rw[zC]at h;obtain⟨y1,h2,y3,h4,h⟩:=bR h;have lB:=((aY.hp jK (CG h2)).hp iy (cQ h4))
 obtain⟨h5,h⟩|⟨h5,h⟩:=aK h
 ·obtain⟨y6,h7,h⟩:=aG h;cases h;exact(((lB.b h5).hp jK (oq h7)).a [.sk 2,.sk 3]).ret hZ
 ·obtain⟨h8,h⟩|⟨h8,h⟩:=aK h
  ·obtain⟨y9,h10,h⟩:=aG h;cases h;exact((((lB.b h5).b h8).hp OM (l9 h10)).a [.sk 2,.sk 3]).ret hZ
  ·have fF:=((lB.b h5).b h8)
   obtain⟨h11,h⟩|⟨h11,h⟩:=aK h
   ·obtain⟨Ai,h15,h⟩:=aG h;obtain⟨h16,h⟩:=bf h;cases h;exact(((((fF.b h11).a [.n2 [0,1,2,3,4,5,6,7] [0,1,2,3,4,5,6,7] 3 5 [0,1] [0,5]]).hp jK (Lw h15)).w (cA h16)).a [.sk 7,.sk 3]).rts hZ (D.iw [bw [aZ y1.2.name,aB y1.2.prio,bX ((y1.2.conds.map aU.c)++([[aB Ai.2.kind,aZ Ai.2.pat.rel,bX (Ai.2.pat.args.map tx),aZ Ai.2.left,aZ Ai.2.right]])),bX (y1.2.dD.map Action.c)],bw [bX (Ai.1.b.map yx),aB Ai.1.i,aB Ai.1.h],D.val jB]) (by first|rfl| (simp only[mA]<;>rfl)| (simp only[cN,mA]<;>rfl))
   ·obtain⟨h17,h⟩|⟨h17,h⟩:=aK h
    ·obtain⟨rU,h23,EY,h25,h⟩:=bR h;obtain⟨h26,h⟩:=bf h;cases h;exact(((((((fF.b h11).b h17).a [.n2 [0,1,2,3,5,4,6,7,8,9,10,11] [0,1,2,3,5,4,6,7,8,9,10,11] 5 9 [0,1,4] [0,5,6]]).hp OM (l9 h23)).hp jK (D5 h25)).w (cA h26)).a [.sk 2,.sk 8]).rts hZ (D.iw [bw [aZ y1.2.name,aB y1.2.prio,bX (y1.2.conds.map aU.c),bX ((y1.2.dD.map Action.c)++([[aB rU.2,aZ EY.2.rel,bX (EY.2.args.map tx)]]))],bw [bX (EY.1.b.map yx),aB EY.1.i,aB EY.1.h],D.val jB]) (by first|rfl| (simp only[mA]<;>rfl)| (simp only[cN,mA]<;>rfl))
    ·have jQ:=((fF.b h11).b h17)
     obtain⟨h27,h⟩|⟨h27,h⟩:=aK h
     ·obtain⟨⟨l28,u29⟩,h30,h⟩:=aG h;cases h;exact(((jQ.b h27).w (show yF (y1.2.conds.map aU.c).length (some (aB 1)) none=some (l28,u29)/\((y1.2.conds.map aU.c).all fun r=>r.length==5)=true from⟨h30,by simp[b8]⟩)).a [.fz,.cut l28 u29,.sk 3]).rts hZ (D.iw [bw [aZ y1.2.name,aB y1.2.prio,bX (((y1.2.conds.map aU.c).take u29).drop l28),bX (y1.2.dD.map Action.c)],bw [bX (y3.1.b.map yx),aB y3.1.i,aB y3.1.h],D.val jB]) (by first|rfl| (simp only[mA]<;>rfl)| (simp only[mA,cD]<;>rfl)| (simp only[cN,mA]<;>rfl))
     ·obtain⟨h31,h⟩|⟨h31,h⟩:=aK h
      ·obtain⟨⟨l32,u33⟩,h34,h⟩:=aG h;cases h;exact((((jQ.b h27).b h31).w (show yF (y1.2.dD.map Action.c).length (some (aB 1)) none=some (l32,u33)/\((y1.2.dD.map Action.c).all fun r=>r.length==3)=true from⟨h34,by simp[b8]⟩)).a [.fz,.cut l32 u33,.sk 2]).rts hZ (D.iw [bw [aZ y1.2.name,aB y1.2.prio,bX (y1.2.conds.map aU.c),bX (((y1.2.dD.map Action.c).take u33).drop l32)],bw [bX (y3.1.b.map yx),aB y3.1.i,aB y3.1.h],D.val jB]) (by first|rfl| (simp only[mA]<;>rfl)| (simp only[mA,cD]<;>rfl)| (simp only[cN,mA]<;>rfl))
      ·have jz:=((jQ.b h27).b h31)
       obtain⟨h35,h⟩|⟨h35,h⟩:=aK h
       ·obtain⟨Oa,h37,P3,h39,XB,h41,h⟩:=gW h;cases h;exact(((((jz.b h35).hp V4 (sv h37)).hp OM (l9 h39)).hp V4 (sv h41)).a [.sk 11,.sk 12]).ret hZ
       ·cases h;exact((jz.b h35).a [.sk 2,.sk 3]).ret hZ
def zE(aC:ck):Option (ck×aH):=((vV aC).bind fun y1=>((cg y1.1 12).bind fun y3=>(bif (y3.2:Int)==0 then(some (y3.1,(⟨y1.2.rules,y1.2.ends,y1.2.bG,y1.2.nodes,y1.2.facts, -1⟩:aH)))else(bif (y3.2:Int)==1 then((xY y3.1).bind fun y7=>(some (y7.1,(⟨y1.2.rules,y1.2.ends,y1.2.bG,y1.2.nodes,y7.2,y1.2.cP⟩:aH))))else(bif (y3.2:Int)==2 then((cg y3.1 ((y1.2.nodes.map Node.c).length:Int)).bind fun GY=>((ir GY.1 ([-1,0,1,2,99]:bM)).bind fun Ai=>((fy y1.2.nodes GY.2).bind fun x16=>(some (Ai.1,(⟨y1.2.rules,y1.2.ends,y1.2.bG,y1.2.nodes.set GY.2.toNat (⟨Ai.2,x16.cond,x16.cX,x16.tokens⟩:Node),y1.2.facts,y1.2.cP⟩:aH))))))else(bif (y3.2:Int)==3 then((cg y3.1 ((y1.2.nodes.map Node.c).length:Int)).bind fun AE=>((fy y1.2.nodes AE.2).bind fun x21=>((qy AE.1 1).bind fun y26=>(bif room ((x21.tokens.map aV.c).length+([[bX (y26.2.map aD.c),bX ([])]]).length) 48 then(some (y26.1,(⟨y1.2.rules,y1.2.ends,y1.2.bG,y1.2.nodes.set AE.2.toNat (⟨x21.parent,x21.cond,x21.cX,x21.tokens++([(⟨y26.2,[]⟩:aV)])⟩:Node),y1.2.facts,y1.2.cP⟩:aH)))else none))))else(bif (y3.2:Int)==4 then((zC y3.1).bind fun Js=>(bif room ((y1.2.rules.map aO.c).length+([[aZ Js.2.name,aB Js.2.prio,bX (Js.2.conds.map aU.c),bX (Js.2.dD.map Action.c)]]).length) 72 then(some (Js.1,(⟨y1.2.rules++([Js.2]),y1.2.ends,y1.2.bG,y1.2.nodes,y1.2.facts,y1.2.cP⟩:aH)))else none))else(bif (y3.2:Int)==5 then(bif room ((y1.2.ends.map jM).length+([[aB 0]]).length) 8 then(some (y3.1,(⟨y1.2.rules,y1.2.ends++([0]),y1.2.bG,y1.2.nodes,y1.2.facts,y1.2.cP⟩:aH)))else none)else(some (y3.1,y1.2))))))))))
theorem M5{aC:ck}{r:ck×aH}(h:zE aC=some r):iz prog 34 (ck.c aC) (ck.c r.1) [] (bw [bX (r.2.rules.map aO.c),cV 3 1 (r.2.ends.map jM),cV 83 3 (r.2.bG.map ai.c),cV 74 8 (r.2.nodes.map Node.c),cV 43 2 (r.2.facts.map aD.c),aB r.2.cP]):=by
 refine aEc func34 [[none,none,none],[none,some (3,1),some (83,3),some (74,8),some (43,2),none]] 73 [] fun hr jB Z hZ hO=>?_
 rw[zE]at h;obtain⟨y1,h2,y3,h4,h⟩:=bR h;have lB:=((aY.hp jK (CL h2)).hp iy (cQ h4))
 obtain⟨h5,h⟩|⟨h5,h⟩:=aK h
 ·cases h;exact((lB.b h5).a [.sk 2]).ret hZ
 ·obtain⟨h6,h⟩|⟨h6,h⟩:=aK h
  ·obtain⟨y7,h8,h⟩:=aG h;cases h;exact((((lB.b h5).b h6).hp jK (KV h8)).a [.sk 2]).ret hZ
  ·have fF:=((lB.b h5).b h6)
   obtain⟨h9,h⟩|⟨h9,h⟩:=aK h
   ·obtain⟨GY,h11,Ai,h15,x16,h17,h⟩:=gW h;cases h;exact(((((((fF.b h9).hp iy (cQ h11)).a [.n2 [0,1,2,3,4,5,6,7,8] [0,1,2,3,4,5,6,7,8] 5 6 [0,1,2] [0,8]]).hp OM (l9 h15)).i (fH Node.c 8 h17)).w (show(y1.2.nodes.map Node.c)[GY.2.toNat]?=some [aB x16.parent,aB x16.cond.kind,aZ x16.cond.pat.rel,bX (x16.cond.pat.args.map tx),aZ x16.cond.left,aZ x16.cond.right,aB x16.cX,bX (x16.tokens.map aV.c)]from cL Node.c (dl h17))).a [.row [aB x16.parent,aB x16.cond.kind,aZ x16.cond.pat.rel,bX (x16.cond.pat.args.map tx),aZ x16.cond.left,aZ x16.cond.right,aB x16.cX,bX (x16.tokens.map aV.c)],.sk 2]).rts hZ (D.iw [bw [bX (y1.2.rules.map aO.c),cV 3 1 (y1.2.ends.map jM),cV 83 3 (y1.2.bG.map ai.c),cV 74 8 ((y1.2.nodes.map Node.c).set GY.2.toNat [aB Ai.2,aB x16.cond.kind,aZ x16.cond.pat.rel,bX (x16.cond.pat.args.map tx),aZ x16.cond.left,aZ x16.cond.right,aB x16.cX,bX (x16.tokens.map aV.c)]),cV 43 2 (y1.2.facts.map aD.c),aB y1.2.cP],bw [bX (Ai.1.b.map yx),aB Ai.1.i,aB Ai.1.h],D.val jB]) (by first|rfl| (simp only[mA]<;>rfl)| (simp only[cN,mA]<;>rfl))
   ·obtain⟨h18,h⟩|⟨h18,h⟩:=aK h
    ·obtain⟨AE,h20,x21,h22,h⟩:=bR h;refine((((fF.b h9).b h18).hp iy (cQ h20)).a [.hl 2 [0,2,3,5] [0,1,7,2,3,4,5,6]]).ex (N:=fun _ _=>False) (c':=(lc f34 [1,1,0,1,0,1,1,1,1,1,1,1,0,1])) (K':=(lk' f34 [1,1,0,1,0,1,1,1,1,1,1,1,0,1])) (K0:=(lk' f34 [1,1,0,1,0,1,1,1,1,1,1,1,0,1])) hZ (fun _ _=>rfl) (a4G (st:=⟨[(0,bp 0 0),(2,bp 1 0),(3,bp 2 0),(5,aB AE.2)],[Ob.CW (ck.c AE.1) jB,bu [D.nil,D.nil,D.nil,D.nil,D.nil,aB 0],bu [b9 3,b9 4,b9 5,b9 6,b9 7,aB y1.2.cP],af 63 4 (y1.2.rules.map aO.c),af 3 1 (y1.2.ends.map jM),af 83 3 (y1.2.bG.map ai.c),af 74 8 (y1.2.nodes.map Node.c),af 43 2 (y1.2.facts.map aD.c)]⟩) (m:=6) (e:=74) (sz:=8) (i:=AE.2.toNat) (off:=7) (e':=77) (sz':=2) (r:=Node.c x21) hO (a4k _) (cL Node.c (dl h22)) rfl rfl rfl rfl rfl rfl rfl rfl rfl ?_);obtain⟨y26,h27,h⟩:=aG h;obtain⟨h28,h⟩:=bf h;cases h;exact((((((((aY.w (show 8=8/\AE.2=((AE.2.toNat:Nat):Int)/\AE.2.toNat<((y1.2.nodes.map Node.c).set AE.2.toNat [aB x21.parent,aB x21.cond.kind,aZ x21.cond.pat.rel,bX (x21.cond.pat.args.map tx),aZ x21.cond.left,aZ x21.cond.right,aB x21.cX,D.any]).length from a6b Node.c 8 h22)).w (show 8=8/\(AE.2.toNat)*8+7=AE.2.toNat*8+7 from⟨rfl,rfl⟩)).a [.n2 [0,1,2,3,4,5,6,7,8,9,10,11,12,13,14,15,16] [0,1,2,3,4,5,6,7,8,9,10,11,12,13,14,15,16] 10 14 [0,1,2,3,4,5,6,7,8] [0,8,9,10],.ix AE.2.toNat,.hd]).hp iy (zA h27)).w (cA h28)).w (show 8=8/\AE.2=((AE.2.toNat:Nat):Int)/\AE.2.toNat<((y1.2.nodes.map Node.c).set AE.2.toNat [aB x21.parent,aB x21.cond.kind,aZ x21.cond.pat.rel,bX (x21.cond.pat.args.map tx),aZ x21.cond.left,aZ x21.cond.right,aB x21.cX,D.any]).length from a6b Node.c 8 h22)).w (show((y1.2.nodes.map Node.c).set AE.2.toNat [aB x21.parent,aB x21.cond.kind,aZ x21.cond.pat.rel,bX (x21.cond.pat.args.map tx),aZ x21.cond.left,aZ x21.cond.right,aB x21.cX,D.any])[AE.2.toNat]?=some [aB x21.parent,aB x21.cond.kind,aZ x21.cond.pat.rel,bX (x21.cond.pat.args.map tx),aZ x21.cond.left,aZ x21.cond.right,aB x21.cX,D.any]from aAj Node.c [aB x21.parent,aB x21.cond.kind,aZ x21.cond.pat.rel,bX (x21.cond.pat.args.map tx),aZ x21.cond.left,aZ x21.cond.right,aB x21.cX,D.any] h22)).a [.ix AE.2.toNat,.row [aB x21.parent,aB x21.cond.kind,aZ x21.cond.pat.rel,bX (x21.cond.pat.args.map tx),aZ x21.cond.left,aZ x21.cond.right,aB x21.cX,D.any],.sk 3]).rts hZ (D.iw [bw [bX (y1.2.rules.map aO.c),cV 3 1 (y1.2.ends.map jM),cV 83 3 (y1.2.bG.map ai.c),cV 74 8 (((y1.2.nodes.map Node.c).set AE.2.toNat [aB x21.parent,aB x21.cond.kind,aZ x21.cond.pat.rel,bX (x21.cond.pat.args.map tx),aZ x21.cond.left,aZ x21.cond.right,aB x21.cX,D.any]).set AE.2.toNat [aB x21.parent,aB x21.cond.kind,aZ x21.cond.pat.rel,bX (x21.cond.pat.args.map tx),aZ x21.cond.left,aZ x21.cond.right,aB x21.cX,bX ((x21.tokens.map aV.c)++([[bX (y26.2.map aD.c),bX ([])]]))]),cV 43 2 (y1.2.facts.map aD.c),aB y1.2.cP],bw [bX (y26.1.b.map yx),aB y26.1.i,aB y26.1.h],D.val jB]) (by first|rfl| (simp only[mA]<;>rfl)| (simp only[mA,List.set_set,Node.c]<;>rfl)| (simp only[cN,mA]<;>rfl))
    ·have jQ:=((fF.b h9).b h18)
     obtain⟨h29,h⟩|⟨h29,h⟩:=aK h
     ·obtain⟨Js,h33,h⟩:=aG h;obtain⟨h34,h⟩:=bf h;cases h;exact((((jQ.b h29).a [.n2 [0,1,2,3,4,5,6,7] [0,1,2,3,4,5,6,7] 3 5 [0,1] [0]]).hp jK (Lx h33)).w (cA h34)).rts hZ (D.iw [bw [bX ((y1.2.rules.map aO.c)++([[aZ Js.2.name,aB Js.2.prio,bX (Js.2.conds.map aU.c),bX (Js.2.dD.map Action.c)]])),cV 3 1 (y1.2.ends.map jM),cV 83 3 (y1.2.bG.map ai.c),cV 74 8 (y1.2.nodes.map Node.c),cV 43 2 (y1.2.facts.map aD.c),aB y1.2.cP],bw [bX (Js.1.b.map yx),aB Js.1.i,aB Js.1.h],D.val jB]) (by first|rfl| (simp only[mA]<;>rfl)| (simp only[cN,mA]<;>rfl))
     ·obtain⟨h35,h⟩|⟨h35,h⟩:=aK h
      ·obtain⟨h36,h⟩:=bf h;cases h;exact((((jQ.b h29).b h35).w (cA h36)).a [.sk 2]).rts hZ (D.iw [bw [bX (y1.2.rules.map aO.c),cV 3 1 ((y1.2.ends.map jM)++([[aB 0]])),cV 83 3 (y1.2.bG.map ai.c),cV 74 8 (y1.2.nodes.map Node.c),cV 43 2 (y1.2.facts.map aD.c),aB y1.2.cP],bw [bX (y3.1.b.map yx),aB y3.1.i,aB y3.1.h],D.val jB]) (by first|rfl| (simp only[mA]<;>rfl)| (simp only[cN,mA]<;>rfl))
      ·cases h;exact(((jQ.b h29).b h35).a [.sk 2]).ret hZ
def hY(aC:Bytes)(k1:Option Bool):Nat->Int->Option Bool
 |0,_=>none
 |n1+1,oK=>(bif decide ((oK:Int)<(aC.length:Int))then((fy aC oK).bind fun b31=>(bif decide ((b31.toNat:Int)<97)then(bif decide ((b31.toNat:Int)<48)then(some false)else(bif decide ((b31.toNat:Int)>57)then(some false)else(hY aC k1 n1 (IntKind.i64.wrap (oK+1)))))else(bif decide ((b31.toNat:Int)>122)then(bif decide ((b31.toNat:Int)<48)then(some false)else(bif decide ((b31.toNat:Int)>57)then(some false)else(hY aC k1 n1 (IntKind.i64.wrap (oK+1)))))else(hY aC k1 n1 (IntKind.i64.wrap (oK+1))))))else(k1))
def gQ(aC:Bytes):Option Bool:=(bif decide (((aC.length:Int):Int)<1)then(some false)else(bif decide (((aC.length:Int):Int)>8)then(some false)else(hY aC (some true) fuel 0)))
def NA(aC:Bytes)(oK:Int):St:=⟨[(0,aZ aC),(3,aB oK)],[]⟩
theorem LQ(hZ:Z.nt=40){aC:Bytes}{r:Bool}{k1:Option Bool}(eA:k1=some r->Ax Z N f144 (.q bZ (bO r)) [1,1,1] ⟨[],[]⟩):∀(n1:Nat) (oK:Int),hY aC k1 n1 oK=some r->Ar Z N f144 (.q bZ (bO r)) [1,1,0,1,0] n1 (NA aC oK):=by
 intro n
 induction n with
 |zero=>intro oK h;simp[hY]at h
 |succ n1 ih1=>
  intro oK h;rw[hY]at h;refine aT fun N1 cq cS=>?_
  obtain⟨h30,h⟩|⟨h30,h⟩:=aK h
  ·obtain⟨b31,h32,h⟩:=aG h;have Ak:=((aY.b h30).c h32)
   obtain⟨h33,h⟩|⟨h33,h⟩:=aK h
   ·have Fb:=((((Ak.r 5 h33).T 3).c h32).T 2)
    obtain⟨h34,h⟩|⟨h34,h⟩:=aK h
    ·obtain rfl:=aM h;exact((((Fb.r 4 h34).T 1).b h34).T 2).ret hZ
    ·have OO:=((((((Fb.r 3 h34).c h32).b h34).T 1).b h34).T 1)
     obtain⟨h35,h⟩|⟨h35,h⟩:=aK h
     ·obtain rfl:=aM h;exact(OO.b h35).ret hZ
     ·exact((OO.b h35).a [.cn [0,3] []]).cf hZ cS (ih1 (IntKind.i64.wrap (oK+1)) h)
   ·have EP:=(((Ak.r 3 h33).c h32).r 2 h33)
    obtain⟨h36,h⟩|⟨h36,h⟩:=aK h
    ·have MZ:=(((EP.r 3 h36).c h32).r 2 h36)
     obtain⟨h37,h⟩|⟨h37,h⟩:=aK h
     ·obtain rfl:=aM h;exact(((((MZ.r 4 h37).b h36).b h37).b h36).T 1).ret hZ
     ·have Dc:=((((((MZ.r 3 h37).c h32).b h37).b h36).b h37).b h36)
      obtain⟨h38,h⟩|⟨h38,h⟩:=aK h
      ·obtain rfl:=aM h;exact(Dc.b h38).ret hZ
      ·exact((Dc.b h38).a [.cn [0,3] []]).cf hZ cS (ih1 (IntKind.i64.wrap (oK+1)) h)
    ·exact(((EP.r 7 h36).F 1).a [bF,bF,bF,bF,.cn [0,3] []]).cf hZ cS (ih1 (IntKind.i64.wrap (oK+1)) h)
  ·exact((aY.b h30).a [.hl 0 [] []]).ex hZ cq (eA h)
theorem fX{aC:Bytes}{r:Bool}(h:gQ aC=some r):Good prog 144 [aZ aC] (bO r):=by
 refine gd func144 bZ 40 fun hr Z hZ=>?_
 rw[gQ]at h;obtain⟨h1,h⟩|⟨h1,h⟩:=aK h
 ·obtain rfl:=aM h;exact((aY.r 4 h1).T 1).ret hZ
 ·have Ma:=(aY.r 4 h1)
  obtain⟨h2,h⟩|⟨h2,h⟩:=aK h
  ·obtain rfl:=aM h;exact(Ma.b h2).ret hZ
  ·refine((Ma.b h2).a [.cn [0,3] []]).lp hZ (LQ hZ (fun h=>?_) fuel 0 h);obtain rfl:=aM h;exact aY.ret hZ
def tP(aC:Bytes):Option Bool:=((gQ aC).bind fun y1=>(bif y1 then((fy aC 0).bind fun b4=>(some (decide ((b4.toNat:Int)>=97))))else(some false)))
theorem oU{aC:Bytes}{r:Bool}(h:tP aC=some r):Good prog 163 [aZ aC] (bO r):=by
 refine gd func163 bZ 10 fun hr Z hZ=>?_
 rw[tP]at h;obtain⟨y1,h2,h⟩:=aG h;obtain⟨h3,h⟩|⟨h3,h⟩:=aK h
 ·obtain⟨b4,h5,h⟩:=aG h;cases h;exact((((aY.g (fX h2)).r 2 h3).c h5).r 2 h3).ret hZ
 ·obtain rfl:=aM h;exact((aY.g (fX h2)).r 4 h3).ret hZ
def nN(aC:Bytes):Option Bool:=(bif decide (((aC.length:Int):Int)>1)then((fy aC 0).bind fun b2=>(bif (b2.toNat:Int)==63 then((yF aC.length (some (aB 1)) none).bind fun p=>(fun l5 u6=>((gQ ((aC.take u6).drop l5)).bind fun y8=>(some y8))) p.1 p.2)else(some false)))else(some false))
theorem qG{aC:Bytes}{r:Bool}(h:nN aC=some r):Good prog 145 [aZ aC] (bO r):=by
 refine gd func145 bZ 16 fun hr Z hZ=>?_
 rw[nN]at h;obtain⟨h1,h⟩|⟨h1,h⟩:=aK h
 ·obtain⟨b2,h3,h⟩:=aG h;have lB:=(((aY.r 2 h1).c h3).r 2 h1)
  obtain⟨h4,h⟩|⟨h4,h⟩:=aK h
  ·obtain⟨⟨l5,u6⟩,h7,h⟩:=aG h;obtain⟨y8,h9,h⟩:=aG h;obtain rfl:=aM h;exact((((((lB.r 2 h4).w h7).a [.cut l5 u6]).b h4).g (fX h9)).b h4).ret hZ
  ·obtain rfl:=aM h;exact(lB.r 4 h4).ret hZ
 ·obtain rfl:=aM h;exact((aY.r 4 h1).F 4).ret hZ
def ju(aC:Bytes):Option Bool:=((gQ aC).bind fun y1=>(bif y1 then(some true)else((nN aC).bind fun y4=>(some y4))))
theorem lg{aC:Bytes}{r:Bool}(h:ju aC=some r):Good prog 208 [aZ aC] (bO r):=by
 refine gd func208 bZ 9 fun hr Z hZ=>?_
 rw[ju]at h;obtain⟨y1,h2,h⟩:=aG h;obtain⟨h3,h⟩|⟨h3,h⟩:=aK h
 ·obtain rfl:=aM h;exact((aY.g (fX h2)).r 3 h3).ret hZ
 ·obtain⟨y4,h5,h⟩:=aG h;obtain rfl:=aM h;exact((((aY.g (fX h2)).r 2 h3).g (qG h5)).b h3).ret hZ
def nu(aC:aD)(k1:Option Bool):aI->Nat->Option Bool
 | [],i1=>(k1)
 |bg::cj,i1=>((ju bg).bind fun xm=>(bif !(xm)then(some false)else(nu aC k1 cj (i1+1))))
def kB(aC:aD):Option Bool:=((tP aC.rel).bind fun y1=>(bif !(y1)then(some false)else(bif decide ((((aC.args.map tx).length:Int):Int)>3)then(some false)else(nu aC (some true) aC.args 0))))
def Ig(aC:aD)(dL:Int):St:=⟨[(16,bX (aC.args.map tx)),(17,aB ((aC.args.map tx).length:Int)),(18,aB dL)],[]⟩
theorem Gw(hZ:Z.nt=26){aC:aD}{r:Bool}{k1:Option Bool}(eA:k1=some r->Ax Z N f207 (.q bZ (bO r)) [1,1,1] ⟨[],[]⟩)(hm1:aC.args.length<=maxLen):∀(rest:aI) (i1:Nat),aC.args.drop i1=rest->nu aC k1 rest i1=some r->Ar Z N f207 (.q bZ (bO r)) [1,1,0,1,0] (rest.length+1) (Ig aC (i1:Int)):=by
 intro rest
 induction rest with
 |nil=>
  intro i1 bD h;rw[nu]at h;refine aT fun N1 cq cS=>?_
  exact((aY.ge tx bD).a [.hl 0 [] []]).ex hZ cq (eA h)
 |cons bg cj ih1=>
  intro i1 bD h;rw[nu]at h;refine aT fun N1 cq cS=>?_
  obtain⟨xm,h26,h⟩:=aG h;have fF:=(((aY.lt tx bD).l (bK tx 1 (dc bD) rfl)).g (lg h26))
  obtain⟨h27,h⟩|⟨h27,h⟩:=aK h
  ·obtain rfl:=aM h;exact(fF.b h27).ret hZ
  ·exact((fF.b h27).a [.cn [16,17,18] []]).ct hZ cS (iS bD hm1) (ih1 (i1+1) (dn bD) h)
theorem lG{aC:aD}{r:Bool}(h:kB aC=some r):Good prog 207 [bw (aD.c aC)] (bO r):=by
 refine gd func207 bZ 26 fun hr Z hZ=>?_
 rw[kB]at h;obtain⟨y1,h2,h⟩:=aG h;obtain⟨h3,h⟩|⟨h3,h⟩:=aK h
 ·obtain rfl:=aM h;exact(((aY.g (oU h2)).r 5 h3).T 1).ret hZ
 ·have jQ:=((aY.g (oU h2)).r 5 h3)
  obtain⟨h4,h⟩|⟨h4,h⟩:=aK h
  ·obtain rfl:=aM h;exact(jQ.b h4).ret hZ
  ·refine((jQ.b h4).a [.cn [16,17,18] []]).lp hZ (Gw hZ (fun h=>?_) (by have:=(gX.sl (gX.agg (hr _ (aE (i:=0) rfl)) (.sl (aC.args.map tx)) (by simp))).1;simpa using this) aC.args 0 rfl h);obtain rfl:=aM h;exact aY.ret hZ
def jb(aC:aD):Option Bool:=(bif (aC.rel:Bytes)==([])then(some ((((aC.args.map tx).length:Int):Int)==0))else(some false))
theorem qN{aC:aD}{r:Bool}(h:jb aC=some r):Good prog 209 [bw (aD.c aC)] (bO r):=by
 refine gd func209 bZ 12 fun hr Z hZ=>?_
 rw[jb]at h;obtain⟨h1,h⟩|⟨h1,h⟩:=aK h
 ·cases h;exact(aY.r 5 h1).ret hZ
 ·obtain rfl:=aM h;exact(aY.r 5 h1).ret hZ
def tO(aC:aU):Option Bool:=(bif (aC.kind:Int)==1 then((kB aC.pat).bind fun y2=>(bif y2 then(bif (aC.left:Bytes)==([])then(some ((aC.right:Bytes)==([])))else(some false))else(some false)))else(bif (aC.kind:Int)==2 then((kB aC.pat).bind fun y7=>(bif y7 then(bif (aC.left:Bytes)==([])then(some ((aC.right:Bytes)==([])))else(some false))else(some false)))else(bif (aC.kind:Int)==3 then((ju aC.left).bind fun Tw=>(bif Tw then((ju aC.right).bind fun yL=>(bif yL then((jb aC.pat).bind fun P0=>(some P0))else(some false)))else(some false)))else(bif (aC.kind:Int)==4 then((ju aC.left).bind fun L7=>(bif L7 then((ju aC.right).bind fun EY=>(bif EY then((jb aC.pat).bind fun qA=>(some qA))else(some false)))else(some false)))else(bif (aC.kind:Int)==5 then((ju aC.left).bind fun B6=>(bif B6 then((ju aC.right).bind fun ue=>(bif ue then((jb aC.pat).bind fun Oa=>(some Oa))else(some false)))else(some false)))else(some false))))))
theorem rV{aC:aU}{r:Bool}(h:tO aC=some r):Good prog 164 [bw (aU.c aC)] (bO r):=by
 refine gd func164 bZ 38 fun hr Z hZ=>?_
 rw[tO]at h;obtain⟨h1,h⟩|⟨h1,h⟩:=aK h
 ·obtain⟨y2,h3,h⟩:=aG h;have lB:=((aY.r 2 h1).g (lG h3))
  obtain⟨h4,h⟩|⟨h4,h⟩:=aK h
  ·have fF:=(lB.r 4 h4)
   obtain⟨h5,h⟩|⟨h5,h⟩:=aK h
   ·cases h;exact(fF.r 4 h5).ret hZ
   ·obtain rfl:=aM h;exact(fF.r 4 h5).ret hZ
  ·obtain rfl:=aM h;exact((lB.r 4 h4).F 4).ret hZ
 ·obtain⟨h6,h⟩|⟨h6,h⟩:=aK h
  ·obtain⟨y7,h8,h⟩:=aG h;have jQ:=(((aY.b h1).b h6).g (lG h8))
   obtain⟨h9,h⟩|⟨h9,h⟩:=aK h
   ·have jz:=(jQ.r 4 h9)
    obtain⟨h10,h⟩|⟨h10,h⟩:=aK h
    ·cases h;exact(jz.r 4 h10).ret hZ
    ·obtain rfl:=aM h;exact(jz.r 4 h10).ret hZ
   ·obtain rfl:=aM h;exact((jQ.r 4 h9).F 4).ret hZ
  ·have uc:=((aY.b h1).b h6)
   obtain⟨h11,h⟩|⟨h11,h⟩:=aK h
   ·obtain⟨Tw,h13,h⟩:=aG h;have xf:=((uc.r 2 h11).g (lg h13))
    obtain⟨h14,h⟩|⟨h14,h⟩:=aK h
    ·obtain⟨yL,h16,h⟩:=aG h;have Ak:=(((xf.r 3 h14).g (lg h16)).b h14)
     obtain⟨h17,h⟩|⟨h17,h⟩:=aK h
     ·obtain⟨P0,h19,h⟩:=aG h;obtain rfl:=aM h;exact(((Ak.r 3 h17).g (qN h19)).b h17).ret hZ
     ·obtain rfl:=aM h;exact(Ak.r 4 h17).ret hZ
    ·obtain rfl:=aM h;exact((xf.r 4 h14).F 4).ret hZ
   ·obtain⟨h20,h⟩|⟨h20,h⟩:=aK h
    ·obtain⟨L7,h22,h⟩:=aG h;have Fb:=(((uc.b h11).r 2 h20).g (lg h22))
     obtain⟨h23,h⟩|⟨h23,h⟩:=aK h
     ·obtain⟨EY,h25,h⟩:=aG h;have OO:=(((Fb.r 3 h23).g (lg h25)).b h23)
      obtain⟨h26,h⟩|⟨h26,h⟩:=aK h
      ·obtain⟨qA,h28,h⟩:=aG h;obtain rfl:=aM h;exact(((OO.r 3 h26).g (qN h28)).b h26).ret hZ
      ·obtain rfl:=aM h;exact(OO.r 4 h26).ret hZ
     ·obtain rfl:=aM h;exact((Fb.r 4 h23).F 4).ret hZ
    ·have EP:=((uc.b h11).b h20)
     obtain⟨h29,h⟩|⟨h29,h⟩:=aK h
     ·obtain⟨B6,h31,h⟩:=aG h;have MZ:=((EP.b h29).g (lg h31))
      obtain⟨h32,h⟩|⟨h32,h⟩:=aK h
      ·obtain⟨ue,h34,h⟩:=aG h;have Dc:=(((MZ.r 3 h32).g (lg h34)).b h32)
       obtain⟨h35,h⟩|⟨h35,h⟩:=aK h
       ·obtain⟨Oa,h37,h⟩:=aG h;obtain rfl:=aM h;exact(((Dc.r 3 h35).g (qN h37)).b h35).ret hZ
       ·obtain rfl:=aM h;exact(Dc.r 4 h35).ret hZ
      ·obtain rfl:=aM h;exact((MZ.r 4 h32).F 4).ret hZ
     ·obtain rfl:=aM h;exact(EP.b h29).ret hZ
def gm(aC:aI)(k1:aI->Option aI):aI->Nat->aI->Option aI
 | [],i1,bY=>(k1 bY)
 |bg::cj,i1,bY=>((nN bg).bind fun Js=>(bif Js then(bif room ((bY.map tx).length+([[aZ bg]]).length) 16 then(gm aC k1 cj (i1+1) (bY++([bg])))else none)else(gm aC k1 cj (i1+1) bY)))
def og(aC:aI):Option aI:=(gm aC (fun(cM:aI)=>(some cM)) aC 0 ([]:aI))
def BK(aC:aI)(W0:List aR)(dL:Int):St:=⟨[(3,b9 0),(6,bX (aC.map tx)),(7,aB ((aC.map tx).length:Int)),(8,aB dL)],[af 9 1 W0]⟩
theorem HL(hZ:Z.nt=20){aC:aI}{r:aI}{k1:aI->Option aI}(eA:∀(cM:aI),k1 cM=some r->Ax Z N f168 (Cn r) [1,1,1] ⟨[(3,b9 0)],[af 9 1 (cM.map tx)]⟩)(hm1:aC.length<=maxLen):∀(rest:aI) (i1:Nat) (bY:aI),aC.drop i1=rest->gm aC k1 rest i1 bY=some r->Ar Z N f168 (Cn r) [1,1,0,1,0] (rest.length+1) (BK aC (bY.map tx) (i1:Int)):=by
 intro rest
 induction rest with
 |nil=>
  intro i1 bY bD h;rw[gm]at h;refine aT fun N1 cq cS=>?_
  exact((aY.ge tx bD).a [.hl 0 [3] [0]]).ex hZ cq (eA bY h)
 |cons bg cj ih1=>
  intro i1 bY bD h;rw[gm]at h;refine aT fun N1 cq cS=>?_
  obtain⟨Js,h33,h⟩:=aG h;have fF:=(((aY.lt tx bD).l (bK tx 1 (dc bD) rfl)).g (qG h33))
  obtain⟨h34,h⟩|⟨h34,h⟩:=aK h
  ·obtain⟨h35,h⟩:=bf h;exact(((fF.b h34).w (cA h35)).a [.cn [3,6,7,8] [2]]).cs hZ cS (BK aC ((bY.map tx)++([[aZ bg]])) (IntKind.i64.wrap ((i1:Int)+1))) (by simp only[iS bD hm1,mA]<;>rfl) (ih1 (i1+1) (bY++([bg])) (dn bD) h)
  ·exact((fF.b h34).a [.cn [3,6,7,8] [0]]).ct hZ cS (iS bD hm1) (ih1 (i1+1) bY (dn bD) h)
theorem vg{aC:aI}{r:aI}(h:og aC=some r):Good prog 168 [bX (aC.map tx)] (cV 9 1 (r.map tx)):=by
 refine gd func168 zH 20 fun hr Z hZ=>?_
 rw[og]at h;refine(aY.a [.L5 3,.cn [3,6,7,8] [0]]).lp hZ (HL hZ (fun cM h=>?_) (by have:=(gX.sl (hr _ (aE (i:=0) rfl))).1;simpa using this) aC 0 ([]:aI) rfl h);obtain rfl:=aM h;exact aY.ret hZ
def ei(aC:aI)(k1:aI->Option aI):aI->Nat->aI->Option aI
 | [],i1,bn=>(k1 bn)
 |bg::cj,i1,bn=>(bif ((i1:Int):Int)==0 then(bif room ((bn.map tx).length+([[aZ bg]]).length) 16 then(ei aC k1 cj (i1+1) (bn++([bg])))else none)else((fy (qQ (([]:aI)++aC)) (IntKind.i64.wrap ((i1:Int)-1))).bind fun x47=>(bif !((x47:Bytes)==bg)then(bif room ((bn.map tx).length+([[aZ bg]]).length) 16 then(ei aC k1 cj (i1+1) (bn++([bg])))else none)else(ei aC k1 cj (i1+1) bn))))
def lq(aC:aI):Option aI:=(bif room (([]:List aR).length+(aC.map tx).length) 16 then(bif decide ((([]:aI)++aC).length<4611686018427387904)then(bif decide ((qQ (([]:aI)++aC)).length<=maxLen)then(ei aC (fun(cM:aI)=>(some cM)) (qQ (([]:aI)++aC)) 0 ([]:aI))else none)else none)else none)
def ve(aC:aI)(W0:List aR)(dL:Int):St:=⟨[(3,b9 0),(4,b9 1),(11,b9 0),(12,aB (((qQ (([]:aI)++aC)).map tx).length:Int)),(13,aB dL)],[af 9 1 ((qQ (([]:aI)++aC)).map tx),af 9 1 W0]⟩
theorem Es(hZ:Z.nt=35){aC:aI}{r:aI}{k1:aI->Option aI}(eA:∀(cM:aI),k1 cM=some r->Ax Z N f170 (Cn r) [1,1,1,1,1] ⟨[(4,b9 0)],[af 9 1 (cM.map tx)]⟩)(hm1:(qQ (([]:aI)++aC)).length<=maxLen):∀(rest:aI) (i1:Nat) (bn:aI),(qQ (([]:aI)++aC)).drop i1=rest->ei aC k1 rest i1 bn=some r->Ar Z N f170 (Cn r) [1,1,1,1,0,1,0] (rest.length+1) (ve aC (bn.map tx) (i1:Int)):=by
 intro rest
 induction rest with
 |nil=>
  intro i1 bn bD h;rw[ei]at h;refine aT fun N1 cq cS=>?_
  exact((aY.ge tx bD).a [.hl 0 [4] [1]]).ex hZ cq (eA bn h)
 |cons bg cj ih1=>
  intro i1 bn bD h;rw[ei]at h;refine aT fun N1 cq cS=>?_
  have jQ:=(((aY.lt tx bD).i (fG tx 1 (dc bD))).o 1 1 .uq (cL tx (dc bD)))
  obtain⟨h45,h⟩|⟨h45,h⟩:=aK h
  ·obtain⟨h46,h⟩:=bf h;exact((((jQ.r 8 h45).T 1).w (cA h46)).a [.cn [3,4,11,12,13] [0,3]]).cs hZ cS (ve aC ((bn.map tx)++([[aZ bg]])) (IntKind.i64.wrap ((i1:Int)+1))) (by simp only[iS bD hm1,mA]<;>rfl) (ih1 (i1+1) (bn++([bg])) (dn bD) h)
  ·obtain⟨x47,h48,h⟩:=aG h;have jz:=(((((jQ.r 4 h45).i (fH tx 1 h48)).b h45).o 1 1 .uq (cL tx (dl h48))).r 3 h45)
   obtain⟨h49,h⟩|⟨h49,h⟩:=aK h
   ·obtain⟨h50,h⟩:=bf h;exact(((jz.b h49).w (cA h50)).a [.cn [3,4,11,12,13] [0,3]]).cs hZ cS (ve aC ((bn.map tx)++([[aZ bg]])) (IntKind.i64.wrap ((i1:Int)+1))) (by simp only[iS bD hm1,mA]<;>rfl) (ih1 (i1+1) (bn++([bg])) (dn bD) h)
   ·exact((jz.b h49).a [.cn [3,4,11,12,13] [0,1]]).ct hZ cS (iS bD hm1) (ih1 (i1+1) bn (dn bD) h)
theorem uD{aC:aI}{r:aI}(h:lq aC=some r):Good prog 170 [bX (aC.map tx)] (cV 9 1 (r.map tx)):=by
 refine gd func170 zH 35 fun hr Z hZ=>?_
 rw[lq]at h;obtain⟨h1,h⟩:=bf h;obtain⟨h2,h⟩:=bf h;obtain⟨h51,h⟩:=bf h;refine(((((aY.w (cA h1)).w (show(∀r∈(aC.map tx),r.length=1)/\(true=true->D.jq (aC.map tx)=true)from⟨by first|simp| (intro r hr;obtain⟨x,_,rfl⟩:=cJ.1 (cO (fM hr));rfl),by simp[D.jq,D.flat]⟩)).w (show(([]:List aR)++(aC.map tx)).flatten.all D.flat=true from by simpa only[bI,bA,cF]using UX (([]:aI)++aC))).w (show U0 prog 212 9 1 (([]:List aR)++(aC.map tx)) ((qQ (([]:aI)++aC)).map tx)from by simpa only[bI,bA,cF]using(J4 (e:=9) (bh h2)))).a [.fl true,.mu 0 ((qQ (([]:aI)++aC)).map tx),.L5 4,.cn [3,4,11,12,13] [0,1]]).lp hZ (Es hZ (fun cM h=>?_) (bh h51) (qQ (([]:aI)++aC)) 0 ([]:aI) rfl h);obtain rfl:=aM h;exact aY.ret hZ
def fq(aC:aO)(aa:Int)(k1:aI->Option aI):ay->Nat->aI->Option aI
 | [],i1,bY=>(k1 bY)
 |bg::cj,i1,bY=>(bif decide (((i1:Int):Int)<aa)then(bif (bg.kind:Int)==1 then((og bg.pat.args).bind fun FP=>(bif room ((bY.map tx).length+(FP.map tx).length) 16 then(fq aC aa k1 cj (i1+1) (bY++FP))else none))else(fq aC aa k1 cj (i1+1) bY))else(fq aC aa k1 cj (i1+1) bY))
def rK(aC:aO)(aa:Int):Option aI:=(fq aC aa (fun(cM:aI)=>((lq cM).bind fun VY=>(some VY))) aC.conds 0 ([]:aI))
def BD(aC:aO)(aa:Int)(W0:List aR)(dL:Int):St:=⟨[(1,aB aa),(5,b9 0),(9,bX (aC.conds.map aU.c)),(10,aB ((aC.conds.map aU.c).length:Int)),(11,aB dL)],[af 9 1 W0]⟩
theorem Gs(hZ:Z.nt=33){aC:aO}{aa:Int}{r:aI}{k1:aI->Option aI}(eA:∀(cM:aI),k1 cM=some r->Ax Z N f166 (Cn r) [1,1,1] ⟨[(5,b9 0)],[af 9 1 (cM.map tx)]⟩)(hm1:aC.conds.length<=maxLen):∀(rest:ay) (i1:Nat) (bY:aI),aC.conds.drop i1=rest->fq aC aa k1 rest i1 bY=some r->Ar Z N f166 (Cn r) [1,1,0,1,0] (rest.length+1) (BD aC aa (bY.map tx) (i1:Int)):=by
 intro rest
 induction rest with
 |nil=>
  intro i1 bY bD h;rw[fq]at h;refine aT fun N1 cq cS=>?_
  exact((aY.ge aU.c bD).a [.hl 0 [5] [0]]).ex hZ cq (eA bY h)
 |cons bg cj ih1=>
  intro i1 bY bD h;rw[fq]at h;refine aT fun N1 cq cS=>?_
  have jQ:=((aY.lt aU.c bD).l (bK aU.c 5 (dc bD) rfl))
  obtain⟨h37,h⟩|⟨h37,h⟩:=aK h
  ·have jz:=(jQ.r 4 h37)
   obtain⟨h38,h⟩|⟨h38,h⟩:=aK h
   ·obtain⟨FP,h40,h⟩:=aG h;obtain⟨h41,h⟩:=bf h;exact((((jz.b h38).g (vg h40)).w (cA h41)).a [.cn [1,5,9,10,11] [3]]).cs hZ cS (BD aC aa ((bY.map tx)++(FP.map tx)) (IntKind.i64.wrap ((i1:Int)+1))) (by simp only[iS bD hm1,mA]<;>rfl) (ih1 (i1+1) (bY++FP) (dn bD) h)
   ·exact((jz.b h38).a [.cn [1,5,9,10,11] [0]]).ct hZ cS (iS bD hm1) (ih1 (i1+1) bY (dn bD) h)
  ·exact(((jQ.r 4 h37).F 1).a [.cn [1,5,9,10,11] [0]]).ct hZ cS (iS bD hm1) (ih1 (i1+1) bY (dn bD) h)
theorem zS{aC:aO}{aa:Int}{r:aI}(h:rK aC aa=some r):Good prog 166 [bw (aO.c aC),aB aa] (cV 9 1 (r.map tx)):=by
 refine gd func166 zH 33 fun hr Z hZ=>?_
 rw[rK]at h;refine(aY.a [.L5 5,.cn [1,5,9,10,11] [1]]).lp hZ (Gs hZ (fun cM h=>?_) (by have:=(gX.sl (gX.agg (hr _ (aE (i:=0) rfl)) (.sl (aC.conds.map aU.c)) (by simp))).1;simpa using this) aC.conds 0 ([]:aI) rfl h);obtain⟨VY,h43,h⟩:=aG h;obtain rfl:=aM h;exact(aY.g (uD h43)).ret hZ
def oZ(aC:aI):Option aI:=(bif room (([]:List aR).length+(aC.map tx).length) 16 then(some (([]:aI)++aC))else none)
theorem vf{aC:aI}{r:aI}(h:oZ aC=some r):Good prog 183 [bX (aC.map tx)] (cV 9 1 (r.map tx)):=by
 refine gd func183 zH 5 fun hr Z hZ=>?_
 rw[oZ]at h;obtain⟨h1,h⟩:=bf h;cases h;exact(((aY.w (cA h1)).w (show(∀r∈(aC.map tx),r.length=1)/\(true=true->D.jq (aC.map tx)=true)from⟨by first|simp| (intro r hr;obtain⟨x,_,rfl⟩:=cJ.1 (cO (fM hr));rfl),by simp[D.jq,D.flat]⟩)).a [.L5 2,.fl true]).rts hZ (cV 9 1 (([]:List aR)++(aC.map tx))) (by first|rfl| (simp only[mA]<;>rfl)| (simp only[cN,mA]<;>rfl))
def uM(aC:aU):Option aI:=((oZ aC.pat.args).bind fun y1=>(bif room ((y1.map tx).length+(([aC.left,aC.right]:aI).map tx).length) 16 then(some (y1++([aC.left,aC.right]:aI)))else none))
theorem BJ{aC:aU}{r:aI}(h:uM aC=some r):Good prog 141 [bw (aU.c aC)] (cV 9 1 (r.map tx)):=by
 refine gd func141 zH 13 fun hr Z hZ=>?_
 rw[uM]at h;obtain⟨y1,h2,h⟩:=aG h;obtain⟨h3,h⟩:=bf h;cases h;exact(((aY.a [.L5 2,.n 9]).g (vf h2)).w (cA h3)).rts hZ (cV 9 1 ((y1.map tx)++(([aC.left,aC.right]:aI).map tx))) (by first|rfl| (simp only[mA]<;>rfl)| (simp only[cN,mA]<;>rfl))
def qW(aC:aU):Option aI:=((uM aC).bind fun y1=>((og y1).bind fun y3=>((lq y3).bind fun y5=>(some y5))))
theorem wF{aC:aU}{r:aI}(h:qW aC=some r):Good prog 210 [bw (aU.c aC)] (cV 9 1 (r.map tx)):=by
 refine gd func210 zH 7 fun hr Z hZ=>?_
 rw[qW]at h;obtain⟨y1,h2,y3,h4,y5,h6,h⟩:=gW h;obtain rfl:=aM h;exact(((aY.g (BJ h2)).g (vg h4)).g (uD h6)).ret hZ
def nT(aC:aI)(aa:Bytes)(k1:Option Bool):aI->Nat->Option Bool
 | [],i1=>(k1)
 |bg::cj,i1=>(bif (bg:Bytes)==aa then(some true)else(nT aC aa k1 cj (i1+1)))
def nS(aC:aI)(aa:Bytes):Option Bool:=(nT aC aa (some false) aC 0)
def Le(aC:aI)(aa:Bytes)(dL:Int):St:=⟨[(1,aZ aa),(7,bX (aC.map tx)),(8,aB ((aC.map tx).length:Int)),(9,aB dL)],[]⟩
theorem KB(hZ:Z.nt=17){aC:aI}{aa:Bytes}{r:Bool}{k1:Option Bool}(eA:k1=some r->Ax Z N f169 (.q bZ (bO r)) [1,1] ⟨[],[]⟩)(hm1:aC.length<=maxLen):∀(rest:aI) (i1:Nat),aC.drop i1=rest->nT aC aa k1 rest i1=some r->Ar Z N f169 (.q bZ (bO r)) [1,0,1,0] (rest.length+1) (Le aC aa (i1:Int)):=by
 intro rest
 induction rest with
 |nil=>
  intro i1 bD h;rw[nT]at h;refine aT fun N1 cq cS=>?_
  exact((aY.ge tx bD).a [.hl 0 [] []]).ex hZ cq (eA h)
 |cons bg cj ih1=>
  intro i1 bD h;rw[nT]at h;refine aT fun N1 cq cS=>?_
  have fF:=((aY.lt tx bD).l (bK tx 1 (dc bD) rfl))
  obtain⟨h13,h⟩|⟨h13,h⟩:=aK h
  ·obtain rfl:=aM h;exact(fF.b h13).ret hZ
  ·exact((fF.b h13).a [.cn [1,7,8,9] []]).ct hZ cS (iS bD hm1) (ih1 (i1+1) (dn bD) h)
theorem tj{aC:aI}{aa:Bytes}{r:Bool}(h:nS aC aa=some r):Good prog 169 [bX (aC.map tx),aZ aa] (bO r):=by
 refine gd func169 bZ 17 fun hr Z hZ=>?_
 rw[nS]at h;refine(aY.a [.cn [1,7,8,9] []]).lp hZ (KB hZ (fun h=>?_) (by have:=(gX.sl (hr _ (aE (i:=0) rfl))).1;simpa using this) aC 0 rfl h);obtain rfl:=aM h;exact aY.ret hZ
def fC(aC:aO)(aa:Int)(cv:Bytes)(k1:Option Bool):ay->Nat->Option Bool
 | [],i1=>(k1)
 |bg::cj,i1=>(bif ((i1:Int):Int) != aa then((qW bg).bind fun Ge=>((nS Ge cv).bind fun Oa=>(bif Oa then(some true)else(fC aC aa cv k1 cj (i1+1)))))else(fC aC aa cv k1 cj (i1+1)))
def gC(aC:aO)(cv:Bytes)(k2:Option Bool):fA->Nat->Option Bool
 | [],i2=>(k2)
 |jL::tK,i2=>((nS jL.pat.args cv).bind fun y59=>(bif y59 then(some true)else(gC aC cv k2 tK (i2+1))))
def nU(aC:aO)(aa:Int)(cv:Bytes):Option Bool:=(fC aC aa cv (gC aC cv (some false) aC.dD 0) aC.conds 0)
def Cr(aC:aO)(aa:Int)(cv:Bytes)(dL:Int):St:=⟨[(1,aB aa),(2,aZ cv),(3,bp 0 0),(12,bX (aC.conds.map aU.c)),(13,aB ((aC.conds.map aU.c).length:Int)),(14,aB dL)],[bu (aO.c aC)]⟩
theorem C7(hZ:Z.nt=42){aC:aO}{aa:Int}{cv:Bytes}{r:Bool}{k1:Option Bool}(eA:k1=some r->Ax Z N f211 (.q bZ (bO r)) [1,1] ⟨[(2,aZ cv),(3,bp 0 0)],[bu (aO.c aC)]⟩)(hm1:aC.conds.length<=maxLen):∀(rest:ay) (i1:Nat),aC.conds.drop i1=rest->fC aC aa cv k1 rest i1=some r->Ar Z N f211 (.q bZ (bO r)) [1,0,1,0] (rest.length+1) (Cr aC aa cv (i1:Int)):=by
 intro rest
 induction rest with
 |nil=>
  intro i1 bD h;rw[fC]at h;refine aT fun N1 cq cS=>?_
  exact((aY.ge aU.c bD).a [.hl 0 [2,3] [0]]).ex hZ cq (eA h)
 |cons bg cj ih1=>
  intro i1 bD h;rw[fC]at h;refine aT fun N1 cq cS=>?_
  have jz:=((aY.lt aU.c bD).l (bK aU.c 5 (dc bD) rfl))
  obtain⟨h33,h⟩|⟨h33,h⟩:=aK h
  ·obtain⟨Ge,h35,Oa,h37,h⟩:=bR h;have uc:=(((((jz.r 2 h33).g (wF h35)).r 2 h33).g (tj h37)).b h33)
   obtain⟨h38,h⟩|⟨h38,h⟩:=aK h
   ·obtain rfl:=aM h;exact(uc.b h38).ret hZ
   ·exact((uc.b h38).a [.cn [1,2,3,12,13,14] [0]]).ct hZ cS (iS bD hm1) (ih1 (i1+1) (dn bD) h)
  ·exact(((jz.r 5 h33).F 1).a [.cn [1,2,3,12,13,14] [0]]).ct hZ cS (iS bD hm1) (ih1 (i1+1) (dn bD) h)
def Cs(aC:aO)(cv:Bytes)(dL:Int):St:=⟨[(2,aZ cv),(30,bX (aC.dD.map Action.c)),(31,aB ((aC.dD.map Action.c).length:Int)),(32,aB dL)],[]⟩
theorem C8(hZ:Z.nt=42){aC:aO}{cv:Bytes}{r:Bool}{k2:Option Bool}(zc:k2=some r->Ax Z N f211 (.q bZ (bO r)) [1,1,1] ⟨[],[]⟩)(hm2:aC.dD.length<=maxLen):∀(rest:fA) (i2:Nat),aC.dD.drop i2=rest->gC aC cv k2 rest i2=some r->Ar Z N f211 (.q bZ (bO r)) [1,1,0,1,0] (rest.length+1) (Cs aC cv (i2:Int)):=by
 intro rest
 induction rest with
 |nil=>
  intro i2 hd2 h;rw[gC]at h;refine aT fun N2 uX qp=>?_
  exact((aY.ge Action.c hd2).a [.hl 0 [] []]).ex hZ uX (zc h)
 |cons jL tK ih2=>
  intro i2 hd2 h;rw[gC]at h;refine aT fun N2 uX qp=>?_
  obtain⟨y59,h60,h⟩:=aG h;have xf:=(((aY.lt Action.c hd2).l (bK Action.c 3 (dc hd2) rfl)).g (tj h60))
  obtain⟨h61,h⟩|⟨h61,h⟩:=aK h
  ·obtain rfl:=aM h;exact(xf.b h61).ret hZ
  ·exact((xf.b h61).a [.cn [2,30,31,32] []]).ct hZ qp (iS hd2 hm2) (ih2 (i2+1) (dn hd2) h)
theorem BV{aC:aO}{aa:Int}{cv:Bytes}{r:Bool}(h:nU aC aa cv=some r):Good prog 211 [bw (aO.c aC),aB aa,aZ cv] (bO r):=by
 refine gd func211 bZ 42 fun hr Z hZ=>?_
 rw[nU]at h;refine(aY.a [.cn [1,2,3,12,13,14] [0]]).lp hZ (C7 hZ (fun h=>?_) (by have:=(gX.sl (gX.agg (hr _ (aE (i:=0) rfl)) (.sl (aC.conds.map aU.c)) (by simp))).1;simpa using this) aC.conds 0 rfl h);refine(aY.a [.cn [2,30,31,32] []]).lp hZ (C8 hZ (fun h=>?_) (by have:=(gX.sl (gX.agg (hr _ (aE (i:=0) rfl)) (.sl (aC.dD.map Action.c)) (by simp))).1;simpa using this) aC.dD 0 rfl h);obtain rfl:=aM h;exact aY.ret hZ
def iY(aC:aO)(aa:Int)(x1:aU)(y3:aI)(y5:aI)(k1:Option Bool):aI->Nat->Option Bool
 | [],i1=>(k1)
 |bg::cj,i1=>(bif (x1.kind:Int)==1 then(iY aC aa x1 y3 y5 k1 cj (i1+1))else((nS y3 bg).bind fun O5=>(bif O5 then(iY aC aa x1 y3 y5 k1 cj (i1+1))else(bif (x1.kind:Int) != 2 then(some false)else((nU aC aa bg).bind fun y53=>(bif y53 then(some false)else(iY aC aa x1 y3 y5 k1 cj (i1+1))))))))
def sL(aC:aO)(aa:Int):Option Bool:=((fy aC.conds aa).bind fun x1=>((rK aC aa).bind fun y3=>((qW x1).bind fun y5=>(bif decide (y5.length<=maxLen)then(iY aC aa x1 y3 y5 (some true) y5 0)else none))))
def K9(aC:aO)(aa:Int)(x1:aU)(y3:aI)(y5:aI)(dL:Int):St:=⟨[(1,aB aa),(2,bp 0 0),(5,bp 1 0),(6,b9 2),(18,b9 3),(19,aB ((y5.map tx).length:Int)),(20,aB dL)],[bu (aO.c aC),bu [aB x1.kind,aZ x1.pat.rel,bX (x1.pat.args.map tx),aZ x1.left,aZ x1.right],af 9 1 (y3.map tx),af 9 1 (y5.map tx)]⟩
theorem Il(hZ:Z.nt=42){aC:aO}{aa:Int}{x1:aU}{y3:aI}{y5:aI}{r:Bool}{k1:Option Bool}(eA:k1=some r->Ax Z N f165 (.q bZ (bO r)) [1,1,1,1] ⟨[],[]⟩)(hm1:y5.length<=maxLen):∀(rest:aI) (i1:Nat),y5.drop i1=rest->iY aC aa x1 y3 y5 k1 rest i1=some r->Ar Z N f165 (.q bZ (bO r)) [1,1,1,0,1,0] (rest.length+1) (K9 aC aa x1 y3 y5 (i1:Int)):=by
 intro rest
 induction rest with
 |nil=>
  intro i1 bD h;rw[iY]at h;refine aT fun N1 cq cS=>?_
  exact((aY.ge tx bD).a [.hl 0 [] []]).ex hZ cq (eA h)
 |cons bg cj ih1=>
  intro i1 bD h;rw[iY]at h;refine aT fun N1 cq cS=>?_
  have jz:=(((aY.lt tx bD).i (fG tx 1 (dc bD))).o 1 1 .uq (cL tx (dc bD)))
  obtain⟨h48,h⟩|⟨h48,h⟩:=aK h
  ·exact(((jz.r 4 h48).T 1).a [.cn [1,2,5,6,18,19,20] [0,1,2,3]]).ct hZ cS (iS bD hm1) (ih1 (i1+1) (dn bD) h)
  ·obtain⟨O5,h50,h⟩:=aG h;have uc:=(((jz.r 3 h48).g (tj h50)).b h48)
   obtain⟨h51,h⟩|⟨h51,h⟩:=aK h
   ·exact((uc.b h51).a [.cn [1,2,5,6,18,19,20] [0,1,2,3]]).ct hZ cS (iS bD hm1) (ih1 (i1+1) (dn bD) h)
   ·obtain⟨h52,h⟩|⟨h52,h⟩:=aK h
    ·obtain rfl:=aM h;exact(((uc.b h51).r 5 h52).T 1).ret hZ
    ·obtain⟨y53,h54,h⟩:=aG h;have xf:=((((uc.b h51).r 4 h52).g (BV h54)).b h52)
     obtain⟨h55,h⟩|⟨h55,h⟩:=aK h
     ·obtain rfl:=aM h;exact(xf.b h55).ret hZ
     ·exact((xf.b h55).a [.cn [1,2,5,6,18,19,20] [0,1,2,3]]).ct hZ cS (iS bD hm1) (ih1 (i1+1) (dn bD) h)
theorem AL{aC:aO}{aa:Int}{r:Bool}(h:sL aC aa=some r):Good prog 165 [bw (aO.c aC),aB aa] (bO r):=by
 refine gd func165 bZ 42 fun hr Z hZ=>?_
 rw[sL]at h;obtain⟨x1,h2,y3,h4,y5,h6,h⟩:=gW h;obtain⟨h56,h⟩:=bf h;refine((((aY.l (dW aU.c 5 h2 rfl)).g (zS h4)).g (wF h6)).a [.cn [1,2,5,6,18,19,20] [0,1,2,3]]).lp hZ (Il hZ (fun h=>?_) (bh h56) y5 0 rfl h);obtain rfl:=aM h;exact aY.ret hZ
def vD(aC:Action):Option Bool:=(bif (aC.kind:Int)==1 then((kB aC.pat).bind fun y2=>(some y2))else(bif (aC.kind:Int)==2 then((kB aC.pat).bind fun y5=>(some y5))else(bif (aC.kind:Int)==3 then((jb aC.pat).bind fun y8=>(some y8))else(some false))))
theorem Gu{aC:Action}{r:Bool}(h:vD aC=some r):Good prog 167 [bw (Action.c aC)] (bO r):=by
 refine gd func167 bZ 16 fun hr Z hZ=>?_
 rw[vD]at h;obtain⟨h1,h⟩|⟨h1,h⟩:=aK h
 ·obtain⟨y2,h3,h⟩:=aG h;obtain rfl:=aM h;exact((aY.r 2 h1).g (lG h3)).ret hZ
 ·obtain⟨h4,h⟩|⟨h4,h⟩:=aK h
  ·obtain⟨y5,h6,h⟩:=aG h;obtain rfl:=aM h;exact(((aY.b h1).b h4).g (lG h6)).ret hZ
  ·have lB:=((aY.b h1).b h4)
   obtain⟨h7,h⟩|⟨h7,h⟩:=aK h
   ·obtain⟨y8,h9,h⟩:=aG h;obtain rfl:=aM h;exact((lB.b h7).g (qN h9)).ret hZ
   ·obtain rfl:=aM h;exact(lB.b h7).ret hZ
def iQ(aC:ay)(k1:aI->Option aI):ay->Nat->aI->Option aI
 | [],i1,bY=>(k1 bY)
 |bg::cj,i1,bY=>((qW bg).bind fun qA=>(bif room ((bY.map tx).length+(qA.map tx).length) 16 then(iQ aC k1 cj (i1+1) (bY++qA))else none))
def si(aC:ay):Option aI:=(iQ aC (fun(cM:aI)=>(some cM)) aC 0 ([]:aI))
def AM(aC:ay)(W0:List aR)(dL:Int):St:=⟨[(3,b9 0),(6,bX (aC.map aU.c)),(7,aB ((aC.map aU.c).length:Int)),(8,aB dL)],[af 9 1 W0]⟩
theorem Fz(hZ:Z.nt=18){aC:ay}{r:aI}{k1:aI->Option aI}(eA:∀(cM:aI),k1 cM=some r->Ax Z N f171 (Cn r) [1,1,1] ⟨[(3,b9 0)],[af 9 1 (cM.map tx)]⟩)(hm1:aC.length<=maxLen):∀(rest:ay) (i1:Nat) (bY:aI),aC.drop i1=rest->iQ aC k1 rest i1 bY=some r->Ar Z N f171 (Cn r) [1,1,0,1,0] (rest.length+1) (AM aC (bY.map tx) (i1:Int)):=by
 intro rest
 induction rest with
 |nil=>
  intro i1 bY bD h;rw[iQ]at h;refine aT fun N1 cq cS=>?_
  exact((aY.ge aU.c bD).a [.hl 0 [3] [0]]).ex hZ cq (eA bY h)
 |cons bg cj ih1=>
  intro i1 bY bD h;rw[iQ]at h;refine aT fun N1 cq cS=>?_
  obtain⟨qA,h28,h⟩:=aG h;obtain⟨h29,h⟩:=bf h;exact(((((aY.lt aU.c bD).l (bK aU.c 5 (dc bD) rfl)).g (wF h28)).w (cA h29)).a [.cn [3,6,7,8] [3]]).cs hZ cS (AM aC ((bY.map tx)++(qA.map tx)) (IntKind.i64.wrap ((i1:Int)+1))) (by simp only[iS bD hm1,mA]<;>rfl) (ih1 (i1+1) (bY++qA) (dn bD) h)
theorem Et{aC:ay}{r:aI}(h:si aC=some r):Good prog 171 [bX (aC.map aU.c)] (cV 9 1 (r.map tx)):=by
 refine gd func171 zH 18 fun hr Z hZ=>?_
 rw[si]at h;refine(aY.a [.L5 3,.cn [3,6,7,8] [0]]).lp hZ (Fz hZ (fun cM h=>?_) (by have:=(gX.sl (hr _ (aE (i:=0) rfl))).1;simpa using this) aC 0 ([]:aI) rfl h);obtain rfl:=aM h;exact aY.ret hZ
def kC(aC:aO)(k1:Option Bool):ay->Nat->Option Bool
 | [],i1=>(k1)
 |bg::cj,i1=>((tO bg).bind fun y62=>(bif !(y62)then(some false)else(bif ((i1:Int):Int)==0 then(bif (bg.kind:Int) != 1 then(some false)else((sL aC (i1:Int)).bind fun Va=>(bif !(Va)then(some false)else(kC aC k1 cj (i1+1)))))else((sL aC (i1:Int)).bind fun y70=>(bif !(y70)then(some false)else(kC aC k1 cj (i1+1)))))))
def oX(aC:aO)(Ci:aI)(i2:Nat)(Di:aI)(k3:Option Bool):aI->Nat->Option Bool
 | [],i3=>(k3)
 |OZ::Kz,i3=>((nS Ci OZ).bind fun aDR=>(bif !(aDR)then(some false)else(oX aC Ci i2 Di k3 Kz (i3+1))))
def oW(aC:aO)(Ci:aI)(k2:Option Bool):fA->Nat->Option Bool
 | [],i2=>(k2)
 |jL::tK,i2=>((vD jL).bind fun aDQ=>(bif !(aDQ)then(some false)else((og jL.pat.args).bind fun Di=>(bif decide (Di.length<=maxLen)then(oX aC Ci i2 Di (oW aC Ci k2 tK (i2+1)) Di 0)else none))))
def xT(aC:aO):Option Bool:=((tP aC.name).bind fun y1=>(bif !(y1)then(some false)else(bif decide ((aC.prio:Int)<0)then(some false)else(bif decide ((aC.prio:Int)>9)then(some false)else(bif decide ((((aC.conds.map aU.c).length:Int):Int)<1)then(some false)else(bif decide ((((aC.conds.map aU.c).length:Int):Int)>4)then(some false)else(bif decide ((((aC.dD.map Action.c).length:Int):Int)<1)then(some false)else(bif decide ((((aC.dD.map Action.c).length:Int):Int)>2)then(some false)else(kC aC ((rK aC ((aC.conds.map aU.c).length:Int)).bind fun Ci=>(oW aC Ci ((si aC.conds).bind fun aDS=>((lq aDS).bind fun aDT=>(some (decide ((((aDT.map tx).length:Int):Int)<=6))))) aC.dD 0)) aC.conds 0)))))))))
def NC(aC:aO)(dL:Int):St:=⟨[(1,bp 0 0),(49,bX (aC.conds.map aU.c)),(50,aB ((aC.conds.map aU.c).length:Int)),(51,aB dL)],[bu (aO.c aC)]⟩
theorem LS(hZ:Z.nt=111){aC:aO}{r:Bool}{k1:Option Bool}(eA:k1=some r->Ax Z N f101 (.q bZ (bO r)) [1,1,1] ⟨[(1,bp 0 0)],[bu (aO.c aC)]⟩)(hm1:aC.conds.length<=maxLen):∀(rest:ay) (i1:Nat),aC.conds.drop i1=rest->kC aC k1 rest i1=some r->Ar Z N f101 (.q bZ (bO r)) [1,1,0,1,0] (rest.length+1) (NC aC (i1:Int)):=by
 intro rest
 induction rest with
 |nil=>
  intro i1 bD h;rw[kC]at h;refine aT fun N1 cq cS=>?_
  exact((aY.ge aU.c bD).a [.hl 0 [1] [0]]).ex hZ cq (eA h)
 |cons bg cj ih1=>
  intro i1 bD h;rw[kC]at h;refine aT fun N1 cq cS=>?_
  obtain⟨y62,h63,h⟩:=aG h;have Dc:=(((aY.lt aU.c bD).l (bK aU.c 5 (dc bD) rfl)).g (rV h63))
  obtain⟨h64,h⟩|⟨h64,h⟩:=aK h
  ·obtain rfl:=aM h;exact((((Dc.r 3 h64).a [bF,bF,bF]).r 2 h64).T 6).ret hZ
  ·have Ma:=(Dc.r 3 h64)
   obtain⟨h65,h⟩|⟨h65,h⟩:=aK h
   ·have Mb:=((((Ma.r 3 h65).b h64).b h65).b h64)
    obtain⟨h66,h⟩|⟨h66,h⟩:=aK h
    ·obtain rfl:=aM h;exact((Mb.r 5 h66).T 1).ret hZ
    ·obtain⟨Va,h68,h⟩:=aG h;have V5:=(((Mb.r 3 h66).g (AL h68)).r 2 h66)
     obtain⟨h69,h⟩|⟨h69,h⟩:=aK h
     ·obtain rfl:=aM h;exact(V5.b h69).ret hZ
     ·exact((V5.b h69).a [.cn [1,49,50,51] [0]]).ct hZ cS (iS bD hm1) (ih1 (i1+1) (dn bD) h)
   ·obtain⟨y70,h71,h⟩:=aG h;have V6:=(((((((Ma.r 3 h65).b h64).b h65).b h64).F 3).g (AL h71)).F 2)
    obtain⟨h72,h⟩|⟨h72,h⟩:=aK h
    ·obtain rfl:=aM h;exact(V6.b h72).ret hZ
    ·exact((V6.b h72).a [.cn [1,49,50,51] [0]]).ct hZ cS (iS bD hm1) (ih1 (i1+1) (dn bD) h)
def ND(aC:aO)(Ci:aI)(dL:Int):St:=⟨[(1,bp 0 0),(5,b9 1),(81,bX (aC.dD.map Action.c)),(82,aB ((aC.dD.map Action.c).length:Int)),(83,aB dL)],[bu (aO.c aC),af 9 1 (Ci.map tx)]⟩
def NE(aC:aO)(Ci:aI)(i2:Nat)(Di:aI)(dL:Int):St:=⟨[(1,bp 0 0),(5,b9 1),(81,bX (aC.dD.map Action.c)),(82,aB ((aC.dD.map Action.c).length:Int)),(83,aB (i2:Int)),(93,b9 2),(94,aB ((Di.map tx).length:Int)),(95,aB dL)],[bu (aO.c aC),af 9 1 (Ci.map tx),af 9 1 (Di.map tx)]⟩
theorem LV(hZ:Z.nt=111){aC:aO}{Ci:aI}{i2:Nat}{Di:aI}{r:Bool}{k3:Option Bool}(Z3:k3=some r->Ax Z N f101 (.q bZ (bO r)) [1,1,1,1,0,1,0,0,1,1,1] ⟨[(1,bp 0 0),(5,b9 1),(81,bX (aC.dD.map Action.c)),(82,aB ((aC.dD.map Action.c).length:Int)),(83,aB (i2:Int))],[bu (aO.c aC),af 9 1 (Ci.map tx)]⟩)(On:Di.length<=maxLen):∀(rest:aI) (i3:Nat),Di.drop i3=rest->oX aC Ci i2 Di k3 rest i3=some r->Ar Z N f101 (.q bZ (bO r)) [1,1,1,1,0,1,0,0,1,1,0,0,1,1,1,0] (rest.length+1) (NE aC Ci i2 Di (i3:Int)):=by
 intro rest
 induction rest with
 |nil=>
  intro i3 uU h;rw[oX]at h;refine aT fun N3 Rr Kn=>?_
  exact((aY.ge tx uU).a [.hl 3 [1,5,81,82,83] [0,1]]).ex hZ Rr (Z3 h)
 |cons OZ Kz ih3=>
  intro i3 uU h;rw[oX]at h;refine aT fun N3 Rr Kn=>?_
  obtain⟨aDR,h230,h⟩:=aG h;have aBf:=((((aY.lt tx uU).i (fG tx 1 (dc uU))).o 1 1 .uq (cL tx (dc uU))).g (tj h230))
  obtain⟨h231,h⟩|⟨h231,h⟩:=aK h
  ·obtain rfl:=aM h;exact(aBf.b h231).ret hZ
  ·exact((aBf.b h231).a [.cn [1,5,81,82,83,93,94,95] [0,1,2]]).ct hZ Kn (iS uU On) (ih3 (i3+1) (dn uU) h)
theorem LU(hZ:Z.nt=111){aC:aO}{Ci:aI}{r:Bool}{k2:Option Bool}(zc:k2=some r->Ax Z N f101 (.q bZ (bO r)) [1,1,1,1,1] ⟨[(1,bp 0 0)],[bu (aO.c aC)]⟩)(hm2:aC.dD.length<=maxLen):∀(rest:fA) (i2:Nat),aC.dD.drop i2=rest->oW aC Ci k2 rest i2=some r->Ar Z N f101 (.q bZ (bO r)) [1,1,1,1,0,1,0] (rest.length+1) (ND aC Ci (i2:Int)):=by
 intro rest
 induction rest with
 |nil=>
  intro i2 hd2 h;rw[oW]at h;refine aT fun N2 uX qp=>?_
  exact((aY.ge Action.c hd2).a [.hl 0 [1] [0]]).ex hZ uX (zc h)
 |cons jL tK ih2=>
  intro i2 hd2 h;rw[oW]at h;refine aT fun N2 uX qp=>?_
  obtain⟨aDQ,h204,h⟩:=aG h;have aBg:=(((aY.lt Action.c hd2).l (bK Action.c 3 (dc hd2) rfl)).g (Gu h204))
  obtain⟨h205,h⟩|⟨h205,h⟩:=aK h
  ·obtain rfl:=aM h;exact(aBg.b h205).ret hZ
  ·obtain⟨Di,h207,h⟩:=aG h;obtain⟨h232,h⟩:=bf h;refine(((aBg.b h205).g (vg h207)).a [.cn [1,5,81,82,83,93,94,95] [0,1,3]]).lp hZ (LV hZ (fun h=>?_) (bh h232) Di 0 rfl h);exact(aY.a [.cn [1,5,81,82,83] [0,1]]).ct hZ qp (iS hd2 hm2) (ih2 (i2+1) (dn hd2) h)
theorem K3{aC:aO}{r:Bool}(h:xT aC=some r):Good prog 101 [bw (aO.c aC)] (bO r):=by
 refine gd func101 bZ 111 fun hr Z hZ=>?_
 rw[xT]at h;obtain⟨y1,h2,h⟩:=aG h;obtain⟨h3,h⟩|⟨h3,h⟩:=aK h
 ·obtain rfl:=aM h;exact(((aY.g (oU h2)).r 4 h3).T 25).ret hZ
 ·have aBh:=((aY.g (oU h2)).r 4 h3)
  obtain⟨h4,h⟩|⟨h4,h⟩:=aK h
  ·obtain rfl:=aM h;exact((aBh.r 4 h4).T 21).ret hZ
  ·have aBi:=(aBh.r 4 h4)
   obtain⟨h5,h⟩|⟨h5,h⟩:=aK h
   ·obtain rfl:=aM h;exact((aBi.r 5 h5).T 16).ret hZ
   ·have aBj:=(aBi.r 5 h5)
    obtain⟨h6,h⟩|⟨h6,h⟩:=aK h
    ·obtain rfl:=aM h;exact((aBj.r 5 h6).T 11).ret hZ
    ·have aBk:=(aBj.r 5 h6)
     obtain⟨h7,h⟩|⟨h7,h⟩:=aK h
     ·obtain rfl:=aM h;exact((aBk.r 5 h7).T 6).ret hZ
     ·have aBl:=(aBk.r 5 h7)
      obtain⟨h8,h⟩|⟨h8,h⟩:=aK h
      ·obtain rfl:=aM h;exact((aBl.r 5 h8).T 1).ret hZ
      ·have aBm:=(aBl.r 5 h8)
       obtain⟨h9,h⟩|⟨h9,h⟩:=aK h
       ·obtain rfl:=aM h;exact(aBm.b h9).ret hZ
       ·refine((aBm.b h9).a [.cn [1,49,50,51] [0]]).lp hZ (LS hZ (fun h=>?_) (by have:=(gX.sl (gX.agg (hr _ (aE (i:=0) rfl)) (.sl (aC.conds.map aU.c)) (by simp))).1;simpa using this) aC.conds 0 rfl h);obtain⟨Ci,h74,h⟩:=aG h;refine((aY.g (zS h74)).a [.cn [1,5,81,82,83] [0,1]]).lp hZ (LU hZ (fun h=>?_) (by have:=(gX.sl (gX.agg (hr _ (aE (i:=0) rfl)) (.sl (aC.dD.map Action.c)) (by simp))).1;simpa using this) aC.dD 0 rfl h);obtain⟨aDS,h234,aDT,h236,h⟩:=bR h;cases h;exact((aY.g (Et h234)).g (uD h236)).ret hZ
def lf(aC:az)(aa:Bytes)(k1:Option Int):az->Nat->Option Int
 | [],i1=>(k1)
 |bg::cj,i1=>(bif (bg.name:Bytes)==aa then(some (i1:Int))else(lf aC aa k1 cj (i1+1)))
def vC(aC:az)(aa:Bytes):Option Int:=(lf aC aa (some (-1)) aC 0)
def K1(aC:az)(aa:Bytes)(dL:Int):St:=⟨[(1,aZ aa),(7,bX (aC.map aO.c)),(8,aB ((aC.map aO.c).length:Int)),(9,aB dL)],[]⟩
theorem Ic(hZ:Z.nt=20){aC:az}{aa:Bytes}{r:Int}{k1:Option Int}(eA:k1=some r->Ax Z N f102 (.q bZ (aB r)) [1,1] ⟨[],[]⟩)(hm1:aC.length<=maxLen):∀(rest:az) (i1:Nat),aC.drop i1=rest->lf aC aa k1 rest i1=some r->Ar Z N f102 (.q bZ (aB r)) [1,0,1,0] (rest.length+1) (K1 aC aa (i1:Int)):=by
 intro rest
 induction rest with
 |nil=>
  intro i1 bD h;rw[lf]at h;refine aT fun N1 cq cS=>?_
  exact((aY.ge aO.c bD).a [.hl 0 [] []]).ex hZ cq (eA h)
 |cons bg cj ih1=>
  intro i1 bD h;rw[lf]at h;refine aT fun N1 cq cS=>?_
  have fF:=((aY.lt aO.c bD).l (bK aO.c 4 (dc bD) rfl))
  obtain⟨h13,h⟩|⟨h13,h⟩:=aK h
  ·cases h;exact(fF.b h13).ret hZ
  ·exact((fF.b h13).a [.cn [1,7,8,9] []]).ct hZ cS (iS bD hm1) (ih1 (i1+1) (dn bD) h)
theorem Gt{aC:az}{aa:Bytes}{r:Int}(h:vC aC aa=some r):Good prog 102 [bX (aC.map aO.c),aZ aa] (aB r):=by
 refine gd func102 bZ 20 fun hr Z hZ=>?_
 rw[vC]at h;refine(aY.a [.cn [1,7,8,9] []]).lp hZ (Ic hZ (fun h=>?_) (by have:=(gX.sl (hr _ (aE (i:=0) rfl))).1;simpa using this) aC 0 rfl h);cases h;exact aY.ret hZ
def lZ(aC:az)(k1:Option Bool):az->Nat->Option Bool
 | [],i1=>(k1)
 |bg::cj,i1=>((xT bg).bind fun Ge=>(bif !(Ge)then(some false)else((vC aC bg.name).bind fun PR=>(bif (PR:Int) != (i1:Int)then(some false)else(lZ aC k1 cj (i1+1))))))
def vB(aC:az):Option Bool:=(bif decide ((((aC.map aO.c).length:Int):Int)>6)then(some false)else(lZ aC (some true) aC 0))
def Jy(aC:az)(dL:Int):St:=⟨[(0,bX (aC.map aO.c)),(8,bX (aC.map aO.c)),(9,aB ((aC.map aO.c).length:Int)),(10,aB dL)],[]⟩
theorem Ia(hZ:Z.nt=27){aC:az}{r:Bool}{k1:Option Bool}(eA:k1=some r->Ax Z N f49 (.q bZ (bO r)) [1,1,1] ⟨[],[]⟩)(hm1:aC.length<=maxLen):∀(rest:az) (i1:Nat),aC.drop i1=rest->lZ aC k1 rest i1=some r->Ar Z N f49 (.q bZ (bO r)) [1,1,0,1,0] (rest.length+1) (Jy aC (i1:Int)):=by
 intro rest
 induction rest with
 |nil=>
  intro i1 bD h;rw[lZ]at h;refine aT fun N1 cq cS=>?_
  exact((aY.ge aO.c bD).a [.hl 0 [] []]).ex hZ cq (eA h)
 |cons bg cj ih1=>
  intro i1 bD h;rw[lZ]at h;refine aT fun N1 cq cS=>?_
  obtain⟨Ge,h35,h⟩:=aG h;have jQ:=(((aY.lt aO.c bD).l (bK aO.c 4 (dc bD) rfl)).g (K3 h35))
  obtain⟨h36,h⟩|⟨h36,h⟩:=aK h
  ·obtain rfl:=aM h;exact((jQ.r 7 h36).T 1).ret hZ
  ·obtain⟨PR,h38,h⟩:=aG h;have jz:=(((jQ.r 4 h36).g (Gt h38)).r 3 h36)
   obtain⟨h39,h⟩|⟨h39,h⟩:=aK h
   ·obtain rfl:=aM h;exact(jz.b h39).ret hZ
   ·exact((jz.b h39).a [.cn [0,8,9,10] []]).ct hZ cS (iS bD hm1) (ih1 (i1+1) (dn bD) h)
theorem Gr{aC:az}{r:Bool}(h:vB aC=some r):Good prog 49 [bX (aC.map aO.c)] (bO r):=by
 refine gd func49 bZ 27 fun hr Z hZ=>?_
 rw[vB]at h;obtain⟨h1,h⟩|⟨h1,h⟩:=aK h
 ·obtain rfl:=aM h;exact(aY.b h1).ret hZ
 ·refine((aY.b h1).a [.cn [0,8,9,10] []]).lp hZ (Ia hZ (fun h=>?_) (by have:=(gX.sl (hr _ (aE (i:=0) rfl))).1;simpa using this) aC 0 rfl h);obtain rfl:=aM h;exact aY.ret hZ
def rL(aC:aD)(k1:Option Bool):aI->Nat->Option Bool
 | [],i1=>(k1)
 |bg::cj,i1=>((gQ bg).bind fun xm=>(bif !(xm)then(some false)else(rL aC k1 cj (i1+1))))
def rB(aC:aD):Option Bool:=((tP aC.rel).bind fun y1=>(bif !(y1)then(some false)else(bif decide ((((aC.args.map tx).length:Int):Int)>3)then(some false)else(rL aC (some true) aC.args 0))))
def NB(aC:aD)(dL:Int):St:=⟨[(16,bX (aC.args.map tx)),(17,aB ((aC.args.map tx).length:Int)),(18,aB dL)],[]⟩
theorem LR(hZ:Z.nt=26){aC:aD}{r:Bool}{k1:Option Bool}(eA:k1=some r->Ax Z N f103 (.q bZ (bO r)) [1,1,1] ⟨[],[]⟩)(hm1:aC.args.length<=maxLen):∀(rest:aI) (i1:Nat),aC.args.drop i1=rest->rL aC k1 rest i1=some r->Ar Z N f103 (.q bZ (bO r)) [1,1,0,1,0] (rest.length+1) (NB aC (i1:Int)):=by
 intro rest
 induction rest with
 |nil=>
  intro i1 bD h;rw[rL]at h;refine aT fun N1 cq cS=>?_
  exact((aY.ge tx bD).a [.hl 0 [] []]).ex hZ cq (eA h)
 |cons bg cj ih1=>
  intro i1 bD h;rw[rL]at h;refine aT fun N1 cq cS=>?_
  obtain⟨xm,h26,h⟩:=aG h;have fF:=(((aY.lt tx bD).l (bK tx 1 (dc bD) rfl)).g (fX h26))
  obtain⟨h27,h⟩|⟨h27,h⟩:=aK h
  ·obtain rfl:=aM h;exact(fF.b h27).ret hZ
  ·exact((fF.b h27).a [.cn [16,17,18] []]).ct hZ cS (iS bD hm1) (ih1 (i1+1) (dn bD) h)
theorem xu{aC:aD}{r:Bool}(h:rB aC=some r):Good prog 103 [bw (aD.c aC)] (bO r):=by
 refine gd func103 bZ 26 fun hr Z hZ=>?_
 rw[rB]at h;obtain⟨y1,h2,h⟩:=aG h;obtain⟨h3,h⟩|⟨h3,h⟩:=aK h
 ·obtain rfl:=aM h;exact(((aY.g (oU h2)).r 5 h3).T 1).ret hZ
 ·have jQ:=((aY.g (oU h2)).r 5 h3)
  obtain⟨h4,h⟩|⟨h4,h⟩:=aK h
  ·obtain rfl:=aM h;exact(jQ.b h4).ret hZ
  ·refine((jQ.b h4).a [.cn [16,17,18] []]).lp hZ (LR hZ (fun h=>?_) (by have:=(gX.sl (gX.agg (hr _ (aE (i:=0) rfl)) (.sl (aC.args.map tx)) (by simp))).1;simpa using this) aC.args 0 rfl h);obtain rfl:=aM h;exact aY.ret hZ
def mP(aC:Int):Option Bytes:=((CO aC).bind fun y1=>(some y1))
theorem zT{aC:Int}{r:Bytes}(h:mP aC=some r):Good prog 202 [aB aC] (aZ r):=by
 refine gd func202 bZ 5 fun hr Z hZ=>?_
 rw[mP]at h;obtain⟨y1,h2,h⟩:=aG h;obtain rfl:=aM h;exact(aY.g (JZ h2)).ret hZ
def oB(aC:Bytes):Option (Int×Bool):=(bif decide (((aC.length:Int):Int)<1)then(some (0,false))else(bif decide (((aC.length:Int):Int)>4)then(some (0,false))else((CN aC).bind fun y3=>(bif y3.2 then(some (0,false))else(bif decide ((y3.1:Int)<0)then(some (0,false))else(bif decide ((y3.1:Int)>9999)then(some (0,false))else((mP y3.1).bind fun y8=>(bif !((y8:Bytes)==aC)then(some (0,false))else(some (y3.1,true))))))))))
theorem sX{aC:Bytes}{r:Int×Bool}(h:oB aC=some r):Good prog 214 [aZ aC] (D.iw [aB r.1,bO r.2]):=by
 refine gd func214 ON 36 fun hr Z hZ=>?_
 rw[oB]at h;obtain⟨h1,h⟩|⟨h1,h⟩:=aK h
 ·cases h;exact((aY.r 4 h1).T 1).ret hZ
 ·have lB:=(aY.r 4 h1)
  obtain⟨h2,h⟩|⟨h2,h⟩:=aK h
  ·cases h;exact(lB.b h2).ret hZ
  ·obtain⟨y3,h4,h⟩:=aG h;have fF:=((lB.b h2).g (JY h4))
   obtain⟨h5,h⟩|⟨h5,h⟩:=aK h
   ·cases h;exact((fF.r 3 h5).T 9).ret hZ
   ·have jQ:=(fF.r 3 h5)
    obtain⟨h6,h⟩|⟨h6,h⟩:=aK h
    ·cases h;exact((jQ.r 3 h6).T 6).ret hZ
    ·have jz:=(jQ.r 3 h6)
     obtain⟨h7,h⟩|⟨h7,h⟩:=aK h
     ·cases h;exact((jz.r 5 h7).T 1).ret hZ
     ·obtain⟨y8,h9,h⟩:=aG h;have uc:=(((jz.r 2 h7).g (zT h9)).r 3 h7)
      obtain⟨h10,h⟩|⟨h10,h⟩:=aK h
      ·cases h;exact(uc.b h10).ret hZ
      ·cases h;exact(uc.b h10).ret hZ
def jW(aC:Int)(aa:Int):Option Int:=(bif decide ((aC:Int)<aa)then(some (-1))else(bif decide ((aC:Int)>aa)then(some 1)else(some 0)))
theorem uF{aC:Int}{aa:Int}{r:Int}(h:jW aC aa=some r):Good prog 174 [aB aC,aB aa] (aB r):=by
 refine gd func174 bZ 13 fun hr Z hZ=>?_
 rw[jW]at h;obtain⟨h1,h⟩|⟨h1,h⟩:=aK h
 ·cases h;exact(aY.b h1).ret hZ
 ·obtain⟨h2,h⟩|⟨h2,h⟩:=aK h
  ·obtain rfl:=aM h;exact((aY.b h1).b h2).ret hZ
  ·obtain rfl:=aM h;exact((aY.b h1).b h2).ret hZ
def nr(aC:Bytes)(aa:Bytes):Option Int:=((oB aC).bind fun y1=>((oB aa).bind fun y3=>(bif y1.2 then(bif y3.2 then((jW y1.1 y3.1).bind fun y7=>(some y7))else(some (-1)))else(bif y3.2 then(some 1)else((tC aC aa).bind fun GY=>(some GY))))))
theorem DO{aC:Bytes}{aa:Bytes}{r:Int}(h:nr aC aa=some r):Good prog 173 [aZ aC,aZ aa] (aB r):=by
 refine gd func173 bZ 34 fun hr Z hZ=>?_
 rw[nr]at h;obtain⟨y1,h2,y3,h4,h⟩:=bR h;have lB:=((aY.g (sX h2)).g (sX h4))
 obtain⟨h5,h⟩|⟨h5,h⟩:=aK h
 ·have fF:=(lB.r 2 h5)
  obtain⟨h6,h⟩|⟨h6,h⟩:=aK h
  ·obtain⟨y7,h8,h⟩:=aG h;obtain rfl:=aM h;exact((fF.b h6).g (uF h8)).ret hZ
  ·cases h;exact((fF.b h6).b h5).ret hZ
 ·have jQ:=(((lB.r 2 h5).F 1).b h5)
  obtain⟨h9,h⟩|⟨h9,h⟩:=aK h
  ·obtain rfl:=aM h;exact(jQ.b h9).ret hZ
  ·obtain⟨GY,h11,h⟩:=aG h;obtain rfl:=aM h;exact((jQ.b h9).g (ux h11)).ret hZ
def kA(aC:aD)(aa:aD)(k1:Option Int):aI->Nat->Option Int
 | [],i1=>(k1)
 |bg::cj,i1=>(bif decide (((i1:Int):Int)<((aa.args.map tx).length:Int))then((fy aa.args (i1:Int)).bind fun x37=>((nr bg x37).bind fun FP=>(bif (FP:Int) != 0 then(some FP)else(kA aC aa k1 cj (i1+1)))))else(k1))
def gl(aC:aD)(aa:aD):Option Int:=((tC aC.rel aa.rel).bind fun y1=>(bif (y1:Int) != 0 then(some y1)else(kA aC aa ((jW ((aC.args.map tx).length:Int) ((aa.args.map tx).length:Int)).bind fun VY=>(some VY)) aC.args 0)))
def En(aC:aD)(aa:aD)(dL:Int):St:=⟨[(2,bp 0 0),(3,bp 1 0),(6,aB dL)],[bu (aD.c aC),bu (aD.c aa)]⟩
theorem Dv(hZ:Z.nt=51){aC:aD}{aa:aD}{r:Int}{k1:Option Int}(eA:k1=some r->Ax Z N f104 (.q bZ (aB r)) [1,1,1] ⟨[(2,bp 0 0),(3,bp 1 0)],[bu (aD.c aC),bu (aD.c aa)]⟩)(hm1:aC.args.length<=maxLen):∀(rest:aI) (i1:Nat),aC.args.drop i1=rest->kA aC aa k1 rest i1=some r->Ar Z N f104 (.q bZ (aB r)) [1,1,0,1,0] (rest.length+1) (En aC aa (i1:Int)):=by
 intro rest
 induction rest with
 |nil=>
  intro i1 bD h;rw[kA]at h;refine aT fun N1 cq cS=>?_
  exact((((((((aY.ge tx bD).ge tx bD).ge tx bD).ge tx bD).ge tx bD).ge tx bD).F 1).a [.hl 0 [2,3] [0,1]]).ex hZ cq (eA h)
 |cons bg cj ih1=>
  intro i1 bD h;rw[kA]at h;refine aT fun N1 cq cS=>?_
  have jQ:=((((((aY.lt tx bD).lt tx bD).lt tx bD).lt tx bD).lt tx bD).lt tx bD)
  obtain⟨h36,h⟩|⟨h36,h⟩:=aK h
  ·obtain⟨x37,h38,FP,h40,h⟩:=bR h;have jz:=(((((jQ.b h36).a [.n 10]).l (bK tx 1 (dc bD) rfl)).l (dW tx 1 h38 rfl)).g (DO h40))
   obtain⟨h41,h⟩|⟨h41,h⟩:=aK h
   ·obtain rfl:=aM h;exact(jz.b h41).ret hZ
   ·exact((jz.b h41).a [.cn [2,3,6] [0,1]]).ct hZ cS (iS bD hm1) (ih1 (i1+1) (dn bD) h)
  ·exact((jQ.b h36).a [.hl 0 [2,3] [0,1]]).ex hZ cq (eA h)
theorem tM{aC:aD}{aa:aD}{r:Int}(h:gl aC aa=some r):Good prog 104 [bw (aD.c aC),bw (aD.c aa)] (aB r):=by
 refine gd func104 bZ 51 fun hr Z hZ=>?_
 rw[gl]at h;obtain⟨y1,h2,h⟩:=aG h;obtain⟨h3,h⟩|⟨h3,h⟩:=aK h
 ·obtain rfl:=aM h;exact((aY.g (ux h2)).b h3).ret hZ
 ·refine(((aY.g (ux h2)).b h3).a [.cn [2,3,6] [0,1]]).lp hZ (Dv hZ (fun h=>?_) (by have:=(gX.sl (gX.agg (hr _ (aE (i:=0) rfl)) (.sl (aC.args.map tx)) (by simp))).1;simpa using this) aC.args 0 rfl h);obtain⟨VY,h43,h⟩:=aG h;obtain rfl:=aM h;exact(aY.g (uF h43)).ret hZ
def jT(aC:aJ)(k1:Option Bool):aJ->Nat->Option Bool
 | [],i1=>(k1)
 |bg::cj,i1=>((rB bg).bind fun y46=>(bif !(y46)then(some false)else(bif decide (((i1:Int):Int)>0)then((fy aC (IntKind.i64.wrap ((i1:Int)-1))).bind fun x50=>((gl x50 bg).bind fun y52=>(bif decide ((y52:Int)>=0)then(some false)else(jT aC k1 cj (i1+1)))))else(jT aC k1 cj (i1+1)))))
def qV(aC:aJ):Option Bool:=(bif decide ((((aC.map aD.c).length:Int):Int)>24)then(some false)else(jT aC (some true) aC 0))
def Jx(aC:aJ)(dL:Int):St:=⟨[(0,bX (aC.map aD.c)),(8,bX (aC.map aD.c)),(9,aB ((aC.map aD.c).length:Int)),(10,aB dL)],[]⟩
theorem IZ(hZ:Z.nt=33){aC:aJ}{r:Bool}{k1:Option Bool}(eA:k1=some r->Ax Z N f50 (.q bZ (bO r)) [1,1,1] ⟨[],[]⟩)(hm1:aC.length<=maxLen):∀(rest:aJ) (i1:Nat),aC.drop i1=rest->jT aC k1 rest i1=some r->Ar Z N f50 (.q bZ (bO r)) [1,1,0,1,0] (rest.length+1) (Jx aC (i1:Int)):=by
 intro rest
 induction rest with
 |nil=>
  intro i1 bD h;rw[jT]at h;refine aT fun N1 cq cS=>?_
  exact((aY.ge aD.c bD).a [.hl 0 [] []]).ex hZ cq (eA h)
 |cons bg cj ih1=>
  intro i1 bD h;rw[jT]at h;refine aT fun N1 cq cS=>?_
  obtain⟨y46,h47,h⟩:=aG h;have jz:=((((aY.lt aD.c bD).l (bK aD.c 2 (dc bD) rfl)).a [.n 13]).g (xu h47))
  obtain⟨h48,h⟩|⟨h48,h⟩:=aK h
  ·obtain rfl:=aM h;exact((((jz.r 3 h48).a [bF,bF,bF,bF,bF,bF,bF,bF]).r 2 h48).T 1).ret hZ
  ·have uc:=(jz.r 3 h48)
   obtain⟨h49,h⟩|⟨h49,h⟩:=aK h
   ·obtain⟨x50,h51,y52,h53,h⟩:=bR h;have xf:=((((((((uc.r 4 h49).l (dW aD.c 2 h51 rfl)).r 3 h49).g (tM h53)).b h49).b h48).b h49).b h48)
    obtain⟨h54,h⟩|⟨h54,h⟩:=aK h
    ·obtain rfl:=aM h;exact(xf.b h54).ret hZ
    ·exact((xf.b h54).a [.cn [0,8,9,10] []]).ct hZ cS (iS bD hm1) (ih1 (i1+1) (dn bD) h)
   ·exact((((((uc.r 8 h49).b h48).b h49).b h48).F 1).a [.cn [0,8,9,10] []]).ct hZ cS (iS bD hm1) (ih1 (i1+1) (dn bD) h)
theorem sW{aC:aJ}{r:Bool}(h:qV aC=some r):Good prog 50 [bX (aC.map aD.c)] (bO r):=by
 refine gd func50 bZ 33 fun hr Z hZ=>?_
 rw[qV]at h;obtain⟨h1,h⟩|⟨h1,h⟩:=aK h
 ·obtain rfl:=aM h;exact(aY.b h1).ret hZ
 ·refine((aY.b h1).a [.cn [0,8,9,10] []]).lp hZ (IZ hZ (fun h=>?_) (by have:=(gX.sl (hr _ (aE (i:=0) rfl))).1;simpa using this) aC 0 rfl h);obtain rfl:=aM h;exact aY.ret hZ
def ew(aC:aD):Option aD:=((oZ aC.args).bind fun y1=>(some (⟨aC.rel,y1⟩:aD)))
theorem uI{aC:aD}{r:aD}(h:ew aC=some r):Good prog 116 [bw (aD.c aC)] (bw [aZ r.rel,cV 9 1 (r.args.map tx)]):=by
 refine gd func116 Kq 9 fun hr Z hZ=>?_
 rw[ew]at h;obtain⟨y1,h2,h⟩:=aG h;cases h;exact((aY.a [.n 5]).g (vf h2)).ret hZ
def gG(aC:aU):Option aU:=((ew aC.pat).bind fun y1=>(some (⟨aC.kind,y1,aC.left,aC.right⟩:aU)))
theorem mV{aC:aU}{r:aU}(h:gG aC=some r):Good prog 117 [bw (aU.c aC)] (bw [aB r.kind,aZ r.pat.rel,cV 9 1 (r.pat.args.map tx),aZ r.left,aZ r.right]):=by
 refine gd func117 Qa 8 fun hr Z hZ=>?_
 rw[gG]at h;obtain⟨y1,h2,h⟩:=aG h;cases h;exact(aY.g (uI h2)).ret hZ
def nw(aC:ay)(k1:ay->Option ay):ay->Nat->ay->Option ay
 | [],i1,bY=>(k1 bY)
 |bg::cj,i1,bY=>((gG bg).bind fun qA=>(bif room ((bY.map aU.c).length+([[aB qA.kind,aZ qA.pat.rel,bX (qA.pat.args.map tx),aZ qA.left,aZ qA.right]]).length) 80 then(nw aC k1 cj (i1+1) (bY++([qA])))else none))
def uG(aC:ay):Option ay:=(nw aC (fun(cM:ay)=>(some cM)) aC 0 ([]:ay))
def BG(aC:ay)(W0:List aR)(dL:Int):St:=⟨[(3,b9 0),(6,bX (aC.map aU.c)),(7,aB ((aC.map aU.c).length:Int)),(8,aB dL)],[af 71 5 W0]⟩
theorem H6(hZ:Z.nt=19){aC:ay}{r:ay}{k1:ay->Option ay}(eA:∀(cM:ay),k1 cM=some r->Ax Z N f219 (Od r) [1,1,1] ⟨[(3,b9 0)],[af 71 5 (cM.map aU.c)]⟩)(hm1:aC.length<=maxLen):∀(rest:ay) (i1:Nat) (bY:ay),aC.drop i1=rest->nw aC k1 rest i1 bY=some r->Ar Z N f219 (Od r) [1,1,0,1,0] (rest.length+1) (BG aC (bY.map aU.c) (i1:Int)):=by
 intro rest
 induction rest with
 |nil=>
  intro i1 bY bD h;rw[nw]at h;refine aT fun N1 cq cS=>?_
  exact((aY.ge aU.c bD).a [.hl 0 [3] [0]]).ex hZ cq (eA bY h)
 |cons bg cj ih1=>
  intro i1 bY bD h;rw[nw]at h;refine aT fun N1 cq cS=>?_
  obtain⟨qA,h28,h⟩:=aG h;obtain⟨h29,h⟩:=bf h;exact(((((aY.lt aU.c bD).l (bK aU.c 5 (dc bD) rfl)).g (mV h28)).w (cA h29)).a [.cn [3,6,7,8] [4]]).cs hZ cS (BG aC ((bY.map aU.c)++([[aB qA.kind,aZ qA.pat.rel,bX (qA.pat.args.map tx),aZ qA.left,aZ qA.right]])) (IntKind.i64.wrap ((i1:Int)+1))) (by simp only[iS bD hm1,mA]<;>rfl) (ih1 (i1+1) (bY++([qA])) (dn bD) h)
theorem G2{aC:ay}{r:ay}(h:uG aC=some r):Good prog 219 [bX (aC.map aU.c)] (cV 71 5 (r.map aU.c)):=by
 refine gd func219 [[some (71,5)]] 19 fun hr Z hZ=>?_
 rw[uG]at h;refine(aY.a [.L5 3,.cn [3,6,7,8] [0]]).lp hZ (H6 hZ (fun cM h=>?_) (by have:=(gX.sl (hr _ (aE (i:=0) rfl))).1;simpa using this) aC 0 ([]:ay) rfl h);obtain rfl:=aM h;exact aY.ret hZ
def lu(aC:aO)(y1:ay)(k1:fA->Option aO):fA->Nat->fA->Option aO
 | [],i1,dh=>(k1 dh)
 |bg::cj,i1,dh=>((ew bg.pat).bind fun y41=>(bif room ((dh.map Action.c).length+([[aB bg.kind,aZ y41.rel,bX (y41.args.map tx)]]).length) 48 then(lu aC y1 k1 cj (i1+1) (dh++([(⟨bg.kind,y41⟩:Action)])))else none))
def sM(aC:aO):Option aO:=((uG aC.conds).bind fun y1=>(lu aC y1 (fun(eN:fA)=>(some (⟨aC.name,aC.prio,y1,eN⟩:aO))) aC.dD 0 ([]:fA)))
def C6(aC:aO)(y1:ay)(W0:List aR)(dL:Int):St:=⟨[(2,bp 0 0),(3,bp 1 0),(15,bX (aC.dD.map Action.c)),(16,aB ((aC.dD.map Action.c).length:Int)),(17,aB dL)],[bu [aZ ([]),aB 0,D.nil,D.nil],bu [aZ aC.name,aB aC.prio,b9 2,b9 3],af 71 5 (y1.map aU.c),af 154 3 W0]⟩
theorem Im(hZ:Z.nt=34){aC:aO}{y1:ay}{r:aO}{k1:fA->Option aO}(eA:∀(eN:fA),k1 eN=some r->Ax Z N f182 (Yh r) [1,1,1] ⟨[(2,bp 0 0),(3,bp 1 0)],[bu [aZ ([]),aB 0,D.nil,D.nil],bu [aZ aC.name,aB aC.prio,b9 2,b9 3],af 71 5 (y1.map aU.c),af 154 3 (eN.map Action.c)]⟩)(hm1:aC.dD.length<=maxLen):∀(rest:fA) (i1:Nat) (dh:fA),aC.dD.drop i1=rest->lu aC y1 k1 rest i1 dh=some r->Ar Z N f182 (Yh r) [1,1,0,1,0] (rest.length+1) (C6 aC y1 (dh.map Action.c) (i1:Int)):=by
 intro rest
 induction rest with
 |nil=>
  intro i1 dh bD h;rw[lu]at h;refine aT fun N1 cq cS=>?_
  exact((aY.ge Action.c bD).a [.hl 0 [2,3] [0,1,2,3]]).ex hZ cq (eA dh h)
 |cons bg cj ih1=>
  intro i1 dh bD h;rw[lu]at h;refine aT fun N1 cq cS=>?_
  obtain⟨y41,h42,h⟩:=aG h;obtain⟨h43,h⟩:=bf h;exact((((((aY.lt Action.c bD).l (bK Action.c 3 (dc bD) rfl)).a [.n2 [0,1,2,3,4,5,6,7,8,9,10,11] [0,1,2,3,4,5,6,7,8,9,10,11] 8 9 [0,1] [5]]).g (uI h42)).w (cA h43)).a [.cn [2,3,15,16,17] [0,1,2,7]]).cs hZ cS (C6 aC y1 ((dh.map Action.c)++([[aB bg.kind,aZ y41.rel,bX (y41.args.map tx)]])) (IntKind.i64.wrap ((i1:Int)+1))) (by simp only[iS bD hm1,mA]<;>rfl) (ih1 (i1+1) (dh++([(⟨bg.kind,y41⟩:Action)])) (dn bD) h)
theorem H9{aC:aO}{r:aO}(h:sM aC=some r):Good prog 182 [bw (aO.c aC)] (bw [aZ r.name,aB r.prio,cV 71 5 (r.conds.map aU.c),cV 154 3 (r.dD.map Action.c)]):=by
 refine gd func182 Wa 34 fun hr Z hZ=>?_
 rw[sM]at h;obtain⟨y1,h2,h⟩:=aG h;refine(((aY.a [.n 9]).g (G2 h2)).a [.pb 3 3 154 3,.cn [2,3,15,16,17] [1,3,2,4]]).lp hZ (Im hZ (fun eN h=>?_) (by have:=(gX.sl (gX.agg (hr _ (aE (i:=0) rfl)) (.sl (aC.dD.map Action.c)) (by simp))).1;simpa using this) aC.dD 0 ([]:fA) rfl h);cases h;exact aY.ret hZ
def o4(aC:az)(k1:az->Option az):az->Nat->az->Option az
 | [],i1,bY=>(k1 bY)
 |bg::cj,i1,bY=>((sM bg).bind fun qA=>(bif room ((bY.map aO.c).length+([[aZ qA.name,aB qA.prio,bX (qA.conds.map aU.c),bX (qA.dD.map Action.c)]]).length) 72 then(o4 aC k1 cj (i1+1) (bY++([qA])))else none))
def rM(aC:az):Option az:=(o4 aC (fun(cM:az)=>(some cM)) aC 0 ([]:az))
def BI(aC:az)(W0:List aR)(dL:Int):St:=⟨[(3,b9 0),(6,bX (aC.map aO.c)),(7,aB ((aC.map aO.c).length:Int)),(8,aB dL)],[af 63 4 W0]⟩
theorem HA(hZ:Z.nt=19){aC:az}{r:az}{k1:az->Option az}(eA:∀(cM:az),k1 cM=some r->Ax Z N f114 (a4K r) [1,1,1] ⟨[(3,b9 0)],[af 63 4 (cM.map aO.c)]⟩)(hm1:aC.length<=maxLen):∀(rest:az) (i1:Nat) (bY:az),aC.drop i1=rest->o4 aC k1 rest i1 bY=some r->Ar Z N f114 (a4K r) [1,1,0,1,0] (rest.length+1) (BI aC (bY.map aO.c) (i1:Int)):=by
 intro rest
 induction rest with
 |nil=>
  intro i1 bY bD h;rw[o4]at h;refine aT fun N1 cq cS=>?_
  exact((aY.ge aO.c bD).a [.hl 0 [3] [0]]).ex hZ cq (eA bY h)
 |cons bg cj ih1=>
  intro i1 bY bD h;rw[o4]at h;refine aT fun N1 cq cS=>?_
  obtain⟨qA,h28,h⟩:=aG h;obtain⟨h29,h⟩:=bf h;exact(((((aY.lt aO.c bD).l (bK aO.c 4 (dc bD) rfl)).g (H9 h28)).w (cA h29)).a [.cn [3,6,7,8] [5]]).cs hZ cS (BI aC ((bY.map aO.c)++([[aZ qA.name,aB qA.prio,bX (qA.conds.map aU.c),bX (qA.dD.map Action.c)]])) (IntKind.i64.wrap ((i1:Int)+1))) (by simp only[iS bD hm1,mA]<;>rfl) (ih1 (i1+1) (bY++([qA])) (dn bD) h)
theorem zX{aC:az}{r:az}(h:rM aC=some r):Good prog 114 [bX (aC.map aO.c)] (cV 63 4 (r.map aO.c)):=by
 refine gd func114 [[some (63,4)]] 19 fun hr Z hZ=>?_
 rw[rM]at h;refine(aY.a [.L5 3,.cn [3,6,7,8] [0]]).lp hZ (HA hZ (fun cM h=>?_) (by have:=(gX.sl (hr _ (aE (i:=0) rfl))).1;simpa using this) aC 0 ([]:az) rfl h);obtain rfl:=aM h;exact aY.ret hZ
def gK(aC:aI)(k1:aP->Option aP):aI->Nat->aP->List (Bytes×Bool)->Option aP
 | [],i1,bY,Db=>(k1 bY)
 |bg::cj,i1,bY,Db=>((nN bg).bind fun y52=>(bif y52 then(bif !(MQ false bg Db)then((mP (IntKind.i64.wrap (((bY.map aX.c).length:Int)+1))).bind fun y56=>(bif decide (([63]:Bytes).length+(y56:Bytes).length<=maxLen)then(bif room ((bY.map aX.c).length+([[aZ bg,aZ (([63])++y56)]]).length) 32 then(gK aC k1 cj (i1+1) (bY++([(⟨bg,([63])++y56⟩:aX)])) (QN bg true Db))else none)else none))else(gK aC k1 cj (i1+1) bY Db))else(gK aC k1 cj (i1+1) bY Db)))
def qL(aC:aI):Option aP:=(gK aC (fun(cM:aP)=>(some cM)) aC 0 ([]:aP) ([]:List (Bytes×Bool)))
def AQ(aC:aI)(W0:List aR)(W1:List (D×D))(dL:Int):St:=⟨[(3,b9 0),(4,b9 1),(8,bX (aC.map tx)),(9,aB ((aC.map tx).length:Int)),(10,aB dL)],[af 113 2 W0,Ob.mp W1]⟩
theorem G6(hZ:Z.nt=36){aC:aI}{r:aP}{k1:aP->Option aP}(eA:∀(cM:aP),k1 cM=some r->Ax Z N f142 (R7 r) [1,1,1,1] ⟨[(3,b9 0)],[af 113 2 (cM.map aX.c)]⟩)(hm1:aC.length<=maxLen):∀(rest:aI) (i1:Nat) (bY:aP) (Db:List (Bytes×Bool)),aC.drop i1=rest->gK aC k1 rest i1 bY Db=some r->Ar Z N f142 (R7 r) [1,1,1,0,1,0] (rest.length+1) (AQ aC (bY.map aX.c) (Db.map (kS eB)) (i1:Int)):=by
 intro rest
 induction rest with
 |nil=>
  intro i1 bY Db bD h;rw[gK]at h;refine aT fun N1 cq cS=>?_
  exact((aY.ge tx bD).a [.hl 0 [3] [0]]).ex hZ cq (eA bY h)
 |cons bg cj ih1=>
  intro i1 bY Db bD h;rw[gK]at h;refine aT fun N1 cq cS=>?_
  obtain⟨y52,h53,h⟩:=aG h;have jQ:=(((aY.lt tx bD).l (bK tx 1 (dc bD) rfl)).g (qG h53))
  obtain⟨h54,h⟩|⟨h54,h⟩:=aK h
  ·have jz:=((((jQ.r 3 h54).w (show plk prog 185 (Db.map (kS eB)) (aZ bg) false=some (bO (MQ false bg Db))from aBa (e:=eB) (z:=false) (by kernel_rfl))).a [.d (bO (MQ false bg Db))]).r 2 h54)
   obtain⟨h55,h⟩|⟨h55,h⟩:=aK h
   ·obtain⟨y56,h57,h⟩:=aG h;obtain⟨h58,h⟩:=bf h;obtain⟨h59,h⟩:=bf h;exact(((((((jz.b h55).w (show MO (aZ bg) (bO true) (Db.map (kS eB))=some ((QN bg true Db).map (kS eB))from a2U (e:=eB) (m:=Db))).a [.kv ((QN bg true Db).map (kS eB))]).g (zT h57)).w (bh h58)).w (cA h59)).a [.cn [3,4,8,9,10] [3,1]]).cs hZ cS (AQ aC ((bY.map aX.c)++([[aZ bg,aZ (([63])++y56)]])) ((QN bg true Db).map (kS eB)) (IntKind.i64.wrap ((i1:Int)+1))) (by simp only[iS bD hm1,mA]<;>rfl) (ih1 (i1+1) (bY++([(⟨bg,([63])++y56⟩:aX)])) (QN bg true Db) (dn bD) h)
   ·exact((jz.b h55).a [.cn [3,4,8,9,10] [0,1]]).ct hZ cS (iS bD hm1) (ih1 (i1+1) bY Db (dn bD) h)
  ·exact(((jQ.r 5 h54).F 1).a [.cn [3,4,8,9,10] [0,1]]).ct hZ cS (iS bD hm1) (ih1 (i1+1) bY Db (dn bD) h)
theorem yz{aC:aI}{r:aP}(h:qL aC=some r):Good prog 142 [bX (aC.map tx)] (cV 113 2 (r.map aX.c)):=by
 refine gd func142 zn 36 fun hr Z hZ=>?_
 rw[qL]at h;refine(aY.a [.L5 3,.cn [3,4,8,9,10] [0,1]]).lp hZ (G6 hZ (fun cM h=>?_) (by have:=(gX.sl (hr _ (aE (i:=0) rfl))).1;simpa using this) aC 0 ([]:aP) ([]:List (Bytes×Bool)) rfl h);obtain rfl:=aM h;exact aY.ret hZ
def iP(aC:aO)(k1:aI->Option aP):ay->Nat->aI->Option aP
 | [],i1,bY=>(k1 bY)
 |bg::cj,i1,bY=>((uM bg).bind fun qA=>(bif room ((bY.map tx).length+(qA.map tx).length) 16 then(iP aC k1 cj (i1+1) (bY++qA))else none))
def qH(aC:aO):Option aP:=(iP aC (fun(cM:aI)=>((qL cM).bind fun B6=>(some B6))) aC.conds 0 ([]:aI))
def AJ(aC:aO)(W0:List aR)(dL:Int):St:=⟨[(3,b9 0),(7,bX (aC.conds.map aU.c)),(8,aB ((aC.conds.map aU.c).length:Int)),(9,aB dL)],[af 9 1 W0]⟩
theorem Fw(hZ:Z.nt=20){aC:aO}{r:aP}{k1:aI->Option aP}(eA:∀(cM:aI),k1 cM=some r->Ax Z N f81 (R7 r) [1,1,1] ⟨[(3,b9 0)],[af 9 1 (cM.map tx)]⟩)(hm1:aC.conds.length<=maxLen):∀(rest:ay) (i1:Nat) (bY:aI),aC.conds.drop i1=rest->iP aC k1 rest i1 bY=some r->Ar Z N f81 (R7 r) [1,1,0,1,0] (rest.length+1) (AJ aC (bY.map tx) (i1:Int)):=by
 intro rest
 induction rest with
 |nil=>
  intro i1 bY bD h;rw[iP]at h;refine aT fun N1 cq cS=>?_
  exact((aY.ge aU.c bD).a [.hl 0 [3] [0]]).ex hZ cq (eA bY h)
 |cons bg cj ih1=>
  intro i1 bY bD h;rw[iP]at h;refine aT fun N1 cq cS=>?_
  obtain⟨qA,h28,h⟩:=aG h;obtain⟨h29,h⟩:=bf h;exact(((((aY.lt aU.c bD).l (bK aU.c 5 (dc bD) rfl)).g (BJ h28)).w (cA h29)).a [.cn [3,7,8,9] [3]]).cs hZ cS (AJ aC ((bY.map tx)++(qA.map tx)) (IntKind.i64.wrap ((i1:Int)+1))) (by simp only[iS bD hm1,mA]<;>rfl) (ih1 (i1+1) (bY++qA) (dn bD) h)
theorem yu{aC:aO}{r:aP}(h:qH aC=some r):Good prog 81 [bw (aO.c aC)] (cV 113 2 (r.map aX.c)):=by
 refine gd func81 zn 20 fun hr Z hZ=>?_
 rw[qH]at h;refine(aY.a [.L5 3,.cn [3,7,8,9] [1]]).lp hZ (Fw hZ (fun cM h=>?_) (by have:=(gX.sl (gX.agg (hr _ (aE (i:=0) rfl)) (.sl (aC.conds.map aU.c)) (by simp))).1;simpa using this) aC.conds 0 ([]:aI) rfl h);obtain⟨B6,h31,h⟩:=aG h;obtain rfl:=aM h;exact(aY.g (yz h31)).ret hZ
def jF(aC:Bytes)(aa:aP)(k1:Option Bytes):aP->Nat->Option Bytes
 | [],i1=>(k1)
 |bg::cj,i1=>(bif (bg.var:Bytes)==aC then(some bg.value)else(jF aC aa k1 cj (i1+1)))
def jZ(aC:Bytes)(aa:aP):Option Bytes:=(jF aC aa (some aC) aa 0)
def G7(aC:Bytes)(aa:aP)(dL:Int):St:=⟨[(0,aZ aC),(7,bX (aa.map aX.c)),(8,aB ((aa.map aX.c).length:Int)),(9,aB dL)],[]⟩
theorem F1(hZ:Z.nt=21){aC:Bytes}{aa:aP}{r:Bytes}{k1:Option Bytes}(eA:k1=some r->Ax Z N f231 (.q bZ (aZ r)) [1,1] ⟨[(0,aZ aC)],[]⟩)(hm1:aa.length<=maxLen):∀(rest:aP) (i1:Nat),aa.drop i1=rest->jF aC aa k1 rest i1=some r->Ar Z N f231 (.q bZ (aZ r)) [1,0,1,0] (rest.length+1) (G7 aC aa (i1:Int)):=by
 intro rest
 induction rest with
 |nil=>
  intro i1 bD h;rw[jF]at h;refine aT fun N1 cq cS=>?_
  exact((aY.ge aX.c bD).a [.hl 0 [0] []]).ex hZ cq (eA h)
 |cons bg cj ih1=>
  intro i1 bD h;rw[jF]at h;refine aT fun N1 cq cS=>?_
  have fF:=((aY.lt aX.c bD).l (bK aX.c 2 (dc bD) rfl))
  obtain⟨h13,h⟩|⟨h13,h⟩:=aK h
  ·cases h;exact(fF.b h13).ret hZ
  ·exact((fF.b h13).a [.cn [0,7,8,9] []]).ct hZ cS (iS bD hm1) (ih1 (i1+1) (dn bD) h)
theorem uJ{aC:Bytes}{aa:aP}{r:Bytes}(h:jZ aC aa=some r):Good prog 231 [aZ aC,bX (aa.map aX.c)] (aZ r):=by
 refine gd func231 bZ 21 fun hr Z hZ=>?_
 rw[jZ]at h;refine(aY.a [.cn [0,7,8,9] []]).lp hZ (F1 hZ (fun h=>?_) (by have:=(gX.sl (hr _ (aE (i:=1) rfl))).1;simpa using this) aa 0 rfl h);obtain rfl:=aM h;exact aY.ret hZ
def mT(aC:aU)(aa:aP)(y1:Bytes)(y3:Bytes)(k1:aI->Option aU):aI->Nat->aI->Option aU
 | [],i1,nj=>(k1 nj)
 |bg::cj,i1,nj=>((jZ bg aa).bind fun IV=>(bif room ((nj.map tx).length+([[aZ IV]]).length) 16 then(mT aC aa y1 y3 k1 cj (i1+1) (nj++([IV])))else none))
def nO(aC:aU)(aa:aP):Option aU:=((jZ aC.left aa).bind fun y1=>((jZ aC.right aa).bind fun y3=>(mT aC aa y1 y3 (fun(qz:aI)=>(some (⟨aC.kind,(⟨aC.pat.rel,qz⟩:aD),y1,y3⟩:aU))) aC.pat.args 0 ([]:aI))))
def AK(aC:aU)(aa:aP)(y1:Bytes)(y3:Bytes)(W0:List aR)(dL:Int):St:=⟨[(1,bX (aa.map aX.c)),(4,bp 0 0),(5,bp 1 0),(26,bX (aC.pat.args.map tx)),(27,aB ((aC.pat.args.map tx).length:Int)),(28,aB dL)],[bu [aB 0,aZ ([]),D.nil,aZ ([]),aZ ([])],bu [aB aC.kind,aZ aC.pat.rel,b9 2,aZ y1,aZ y3],af 9 1 W0]⟩
theorem Fx(hZ:Z.nt=44){aC:aU}{aa:aP}{y1:Bytes}{y3:Bytes}{r:aU}{k1:aI->Option aU}(eA:∀(qz:aI),k1 qz=some r->Ax Z N f216 (a4J r) [1,1,1,1] ⟨[(4,bp 0 0),(5,bp 1 0)],[bu [aB 0,aZ ([]),D.nil,aZ ([]),aZ ([])],bu [aB aC.kind,aZ aC.pat.rel,b9 2,aZ y1,aZ y3],af 9 1 (qz.map tx)]⟩)(hm1:aC.pat.args.length<=maxLen):∀(rest:aI) (i1:Nat) (nj:aI),aC.pat.args.drop i1=rest->mT aC aa y1 y3 k1 rest i1 nj=some r->Ar Z N f216 (a4J r) [1,1,1,0,1,0] (rest.length+1) (AK aC aa y1 y3 (nj.map tx) (i1:Int)):=by
 intro rest
 induction rest with
 |nil=>
  intro i1 nj bD h;rw[mT]at h;refine aT fun N1 cq cS=>?_
  exact((aY.ge tx bD).a [.hl 0 [4,5] [0,1,2]]).ex hZ cq (eA nj h)
 |cons bg cj ih1=>
  intro i1 nj bD h;rw[mT]at h;refine aT fun N1 cq cS=>?_
  obtain⟨IV,h32,h⟩:=aG h;obtain⟨h33,h⟩:=bf h;exact((((((aY.lt tx bD).l (bK tx 1 (dc bD) rfl)).a [.n 7]).g (uJ h32)).w (cA h33)).a [.cn [1,4,5,26,27,28] [0,1,4]]).cs hZ cS (AK aC aa y1 y3 ((nj.map tx)++([[aZ IV]])) (IntKind.i64.wrap ((i1:Int)+1))) (by simp only[iS bD hm1,mA]<;>rfl) (ih1 (i1+1) (nj++([IV])) (dn bD) h)
theorem qv{aC:aU}{aa:aP}{r:aU}(h:nO aC aa=some r):Good prog 216 [bw (aU.c aC),bX (aa.map aX.c)] (bw [aB r.kind,aZ r.pat.rel,cV 9 1 (r.pat.args.map tx),aZ r.left,aZ r.right]):=by
 refine gd func216 Qa 44 fun hr Z hZ=>?_
 rw[nO]at h;obtain⟨y1,h2,y3,h4,h⟩:=bR h;refine((((aY.a [.n 12]).g (uJ h2)).g (uJ h4)).a [.pb 2 2 9 1,.cn [1,4,5,26,27,28] [1,2,3]]).lp hZ (Fx hZ (fun qz h=>?_) (by have:=(gX.sl (gX.agg (hr _ (aE (i:=0) rfl)) (.sl (aC.pat.args.map tx)) (by simp))).1;simpa using this) aC.pat.args 0 ([]:aI) rfl h);cases h;exact aY.ret hZ
def mS(aC:aO)(y1:aP)(k1:ay->Option ay):ay->Nat->ay->Option ay
 | [],i1,bn=>(k1 bn)
 |bg::cj,i1,bn=>((nO bg y1).bind fun Dm=>(bif room ((bn.map aU.c).length+([[aB Dm.kind,aZ Dm.pat.rel,bX (Dm.pat.args.map tx),aZ Dm.left,aZ Dm.right]]).length) 80 then(mS aC y1 k1 cj (i1+1) (bn++([Dm])))else none))
def sY(aC:aO):Option ay:=((qH aC).bind fun y1=>(mS aC y1 (fun(cM:ay)=>(some cM)) aC.conds 0 ([]:ay)))
def AI(aC:aO)(y1:aP)(W0:List aR)(dL:Int):St:=⟨[(3,b9 0),(4,b9 1),(10,bX (aC.conds.map aU.c)),(11,aB ((aC.conds.map aU.c).length:Int)),(12,aB dL)],[af 113 2 (y1.map aX.c),af 71 5 W0]⟩
theorem Fv(hZ:Z.nt=24){aC:aO}{y1:aP}{r:ay}{k1:ay->Option ay}(eA:∀(cM:ay),k1 cM=some r->Ax Z N f176 (Od r) [1,1,1,1] ⟨[(4,b9 0)],[af 71 5 (cM.map aU.c)]⟩)(hm1:aC.conds.length<=maxLen):∀(rest:ay) (i1:Nat) (bn:ay),aC.conds.drop i1=rest->mS aC y1 k1 rest i1 bn=some r->Ar Z N f176 (Od r) [1,1,1,0,1,0] (rest.length+1) (AI aC y1 (bn.map aU.c) (i1:Int)):=by
 intro rest
 induction rest with
 |nil=>
  intro i1 bn bD h;rw[mS]at h;refine aT fun N1 cq cS=>?_
  exact((aY.ge aU.c bD).a [.hl 0 [4] [1]]).ex hZ cq (eA bn h)
 |cons bg cj ih1=>
  intro i1 bn bD h;rw[mS]at h;refine aT fun N1 cq cS=>?_
  obtain⟨Dm,h30,h⟩:=aG h;obtain⟨h31,h⟩:=bf h;exact(((((aY.lt aU.c bD).l (bK aU.c 5 (dc bD) rfl)).g (qv h30)).w (cA h31)).a [.cn [3,4,10,11,12] [0,5]]).cs hZ cS (AI aC y1 ((bn.map aU.c)++([[aB Dm.kind,aZ Dm.pat.rel,bX (Dm.pat.args.map tx),aZ Dm.left,aZ Dm.right]])) (IntKind.i64.wrap ((i1:Int)+1))) (by simp only[iS bD hm1,mA]<;>rfl) (ih1 (i1+1) (bn++([Dm])) (dn bD) h)
theorem Eo{aC:aO}{r:ay}(h:sY aC=some r):Good prog 176 [bw (aO.c aC)] (cV 71 5 (r.map aU.c)):=by
 refine gd func176 [[some (71,5)]] 24 fun hr Z hZ=>?_
 rw[sY]at h;obtain⟨y1,h2,h⟩:=aG h;refine((aY.g (yu h2)).a [.L5 4,.cn [3,4,10,11,12] [1,2]]).lp hZ (Fv hZ (fun cM h=>?_) (by have:=(gX.sl (gX.agg (hr _ (aE (i:=0) rfl)) (.sl (aC.conds.map aU.c)) (by simp))).1;simpa using this) aC.conds 0 ([]:ay) rfl h);obtain rfl:=aM h;exact aY.ret hZ
def o6(aC:aI)(aa:aI)(k1:Option Bool):aI->Nat->Option Bool
 | [],i1=>(k1)
 |bg::cj,i1=>((fy aa (i1:Int)).bind fun x22=>(bif !((bg:Bytes)==x22)then(some false)else(o6 aC aa k1 cj (i1+1))))
def rN(aC:aI)(aa:aI):Option Bool:=(bif (((aC.map tx).length:Int):Int) != ((aa.map tx).length:Int)then(some false)else(o6 aC aa (some true) aC 0))
def Iu(aC:aI)(aa:aI)(dL:Int):St:=⟨[(0,bX (aC.map tx)),(1,bX (aa.map tx)),(12,aB ((aC.map tx).length:Int)),(13,aB dL)],[]⟩
theorem HG(hZ:Z.nt=26){aC:aI}{aa:aI}{r:Bool}{k1:Option Bool}(eA:k1=some r->Ax Z N f110 (.q bZ (bO r)) [1,1,1] ⟨[],[]⟩)(hm1:aC.length<=maxLen):∀(rest:aI) (i1:Nat),aC.drop i1=rest->o6 aC aa k1 rest i1=some r->Ar Z N f110 (.q bZ (bO r)) [1,1,0,1,0] (rest.length+1) (Iu aC aa (i1:Int)):=by
 intro rest
 induction rest with
 |nil=>
  intro i1 bD h;rw[o6]at h;refine aT fun N1 cq cS=>?_
  exact((aY.ge tx bD).a [.hl 0 [] []]).ex hZ cq (eA h)
 |cons bg cj ih1=>
  intro i1 bD h;rw[o6]at h;refine aT fun N1 cq cS=>?_
  obtain⟨x22,h23,h⟩:=aG h;have fF:=((((aY.lt tx bD).a [.n 8]).l (bK tx 1 (dc bD) rfl)).l (dW tx 1 h23 rfl))
  obtain⟨h24,h⟩|⟨h24,h⟩:=aK h
  ·obtain rfl:=aM h;exact(fF.b h24).ret hZ
  ·exact((fF.b h24).a [.cn [0,1,12,13] []]).ct hZ cS (iS bD hm1) (ih1 (i1+1) (dn bD) h)
theorem za{aC:aI}{aa:aI}{r:Bool}(h:rN aC aa=some r):Good prog 110 [bX (aC.map tx),bX (aa.map tx)] (bO r):=by
 refine gd func110 bZ 26 fun hr Z hZ=>?_
 rw[rN]at h;obtain⟨h1,h⟩|⟨h1,h⟩:=aK h
 ·obtain rfl:=aM h;exact(aY.b h1).ret hZ
 ·refine((aY.b h1).a [.cn [0,1,12,13] []]).lp hZ (HG hZ (fun h=>?_) (by have:=(gX.sl (hr _ (aE (i:=0) rfl))).1;simpa using this) aC 0 rfl h);obtain rfl:=aM h;exact aY.ret hZ
def gR(aC:aD)(aa:aD):Option Bool:=(bif (aC.rel:Bytes)==aa.rel then((rN aC.args aa.args).bind fun y2=>(some y2))else(some false))
theorem qI{aC:aD}{aa:aD}{r:Bool}(h:gR aC aa=some r):Good prog 57 [bw (aD.c aC),bw (aD.c aa)] (bO r):=by
 refine gd func57 bZ 17 fun hr Z hZ=>?_
 rw[gR]at h;obtain⟨h1,h⟩|⟨h1,h⟩:=aK h
 ·obtain⟨y2,h3,h⟩:=aG h;obtain rfl:=aM h;exact(((aY.r 5 h1).g (za h3)).b h1).ret hZ
 ·obtain rfl:=aM h;exact(aY.r 6 h1).ret hZ
def lS(aC:aU)(aa:aU):Option Bool:=(bif (aC.kind:Int)==aa.kind then(bif (aC.left:Bytes)==aa.left then(bif (aC.right:Bytes)==aa.right then((gR aC.pat aa.pat).bind fun y4=>(some y4))else(some false))else(some false))else(some false))
theorem wH{aC:aU}{aa:aU}{r:Bool}(h:lS aC aa=some r):Good prog 58 [bw (aU.c aC),bw (aU.c aa)] (bO r):=by
 refine gd func58 bZ 31 fun hr Z hZ=>?_
 rw[lS]at h;obtain⟨h1,h⟩|⟨h1,h⟩:=aK h
 ·have lB:=(aY.r 6 h1)
  obtain⟨h2,h⟩|⟨h2,h⟩:=aK h
  ·have fF:=(lB.r 6 h2)
   obtain⟨h3,h⟩|⟨h3,h⟩:=aK h
   ·obtain⟨y4,h5,h⟩:=aG h;obtain rfl:=aM h;exact(((fF.r 5 h3).g (qI h5)).b h3).ret hZ
   ·obtain rfl:=aM h;exact(fF.r 6 h3).ret hZ
  ·obtain rfl:=aM h;exact((lB.r 6 h2).F 6).ret hZ
 ·obtain rfl:=aM h;exact((aY.r 6 h1).F 12).ret hZ
def uC(aC:aD):Option aD:=((qL aC.args).bind fun y1=>((nO (⟨0,aC,[],[]⟩:aU) y1).bind fun y3=>(some y3.pat)))
theorem BE{aC:aD}{r:aD}(h:uC aC=some r):Good prog 218 [bw (aD.c aC)] (bw [aZ r.rel,cV 9 1 (r.args.map tx)]):=by
 refine gd func218 Kq 10 fun hr Z hZ=>?_
 rw[uC]at h;obtain⟨y1,h2,y3,h4,h⟩:=bR h;cases h;exact((((aY.a [.n 5]).g (yz h2)).a [.d (bw [aB y3.kind,aZ y3.pat.rel,cV 9 1 (y3.pat.args.map tx),aZ y3.left,aZ y3.right])]).w (show Good prog 216 [bw [aB 0,aZ aC.rel,bX (aC.args.map tx),aZ ([]),aZ ([])],bX (y1.map aX.c)] (bw [aB y3.kind,aZ y3.pat.rel,cV 9 1 (y3.pat.args.map tx),aZ y3.left,aZ y3.right])from by first| (simpa only[bI,bA,cF,cD,cI]using qv h4)|exact qv h4| (have t:=qv h4;simp only[bI,cD,cI,aU.c]at t;exact t))).ret hZ
variable{Z:wV}{N:Nat->St->Prop}
def fW(aC:aH)(aa:aD)(k1:Option (aH×Int)):bQ->Nat->Option (aH×Int)
 | [],i1=>(k1)
 |bg::cj,i1=>((gR bg.shape aa).bind fun rU=>(bif rU then(some (aC,(i1:Int)))else(fW aC aa k1 cj (i1+1))))
def jO(aC:aH)(aa:aD):Option (aH×Int):=(bif decide (aC.bG.length<=maxLen)then(fW aC aa (bif room ((aC.bG.map ai.c).length+([[aZ aa.rel,bX (aa.args.map tx),bX ([])]]).length) 64 then(some ((⟨aC.rules,aC.ends,aC.bG++([(⟨aa,[]⟩:ai)]),aC.nodes,aC.facts,aC.cP⟩:aH),IntKind.i64.wrap ((((aC.bG.map ai.c)++([[aZ aa.rel,bX (aa.args.map tx),bX ([])]])).length:Int)-1)))else none) aC.bG 0)else none)
def Bz(jB:Value)(aC:aH)(aa:aD)(dL:Int):St:=⟨[(0,bp 0 0),(3,bp 1 0),(10,b9 2),(11,aB ((aC.bG.map ai.c).length:Int)),(12,aB dL)],[Ob.CW [b9 3,b9 4,b9 2,b9 5,b9 6,aB aC.cP] jB,bu [aZ aa.rel,b9 7],af 83 3 (aC.bG.map ai.c),af 63 4 (aC.rules.map aO.c),af 3 1 (aC.ends.map jM),af 74 8 (aC.nodes.map Node.c),af 43 2 (aC.facts.map aD.c),af 9 1 (aa.args.map tx)]⟩
theorem BS(hZ:Z.nt=40){jB:Value}{aC:aH}{aa:aD}{r:aH×Int}{k1:Option (aH×Int)}(eA:k1=some r->Ax Z N f217 (.p sI jB (cN r.1) (aB r.2)) [1,1] ⟨[(0,bp 0 0),(3,bp 1 0)],[Ob.CW [b9 2,b9 3,b9 4,b9 5,b9 6,aB aC.cP] jB,bu [aZ aa.rel,b9 7],af 63 4 (aC.rules.map aO.c),af 3 1 (aC.ends.map jM),af 83 3 (aC.bG.map ai.c),af 74 8 (aC.nodes.map Node.c),af 43 2 (aC.facts.map aD.c),af 9 1 (aa.args.map tx)]⟩)(hm1:aC.bG.length<=maxLen):∀(rest:bQ) (i1:Nat),aC.bG.drop i1=rest->fW aC aa k1 rest i1=some r->Ar Z N f217 (.p sI jB (cN r.1) (aB r.2)) [1,0,1,0] (rest.length+1) (Bz jB aC aa (i1:Int)):=by
 intro rest
 induction rest with
 |nil=>
  intro i1 bD h;rw[fW]at h;refine aT fun N1 cq cS=>?_
  exact((aY.ge ai.c bD).a [.hl 0 [0,3] [0,1,3,4,2,5,6,7]]).ex hZ cq (eA h)
 |cons bg cj ih1=>
  intro i1 bD h;rw[fW]at h;refine aT fun N1 cq cS=>?_
  obtain⟨rU,h23,h⟩:=aG h;have fF:=((((aY.lt ai.c bD).i (fG ai.c 3 (dc bD))).o 3 3 .uq (cL ai.c (dc bD))).g (qI h23))
  obtain⟨h24,h⟩|⟨h24,h⟩:=aK h
  ·cases h;exact(fF.b h24).ret hZ
  ·exact((fF.b h24).a [.cn [0,3,10,11,12] [0,1,2,3,4,5,6,7]]).ct hZ cS (iS bD hm1) (ih1 (i1+1) (dn bD) h)
theorem vA{aC:aH}{aa:aD}{r:aH×Int}(h:jO aC aa=some r):iz prog 217 (cN aC) (cN r.1) [bw [aZ aa.rel,cV 9 1 (aa.args.map tx)]] (aB r.2):=by
 refine L4 func217 sI 40 [b9 1,b9 2,b9 3,b9 4,b9 5,aB aC.cP] [bw [aZ aa.rel,b9 6]] [af 63 4 (aC.rules.map aO.c),af 3 1 (aC.ends.map jM),af 83 3 (aC.bG.map ai.c),af 74 8 (aC.nodes.map Node.c),af 43 2 (aC.facts.map aD.c),af 9 1 (aa.args.map tx)] fun hr jB Z hZ=>?_
 rw[jO]at h;obtain⟨h27,h⟩:=bf h;refine(aY.a [.cn [0,3,10,11,12] [0,7,3,1,2,4,5,6]]).lp hZ (BS hZ (fun h=>?_) (bh h27) aC.bG 0 rfl h);obtain⟨h26,h⟩:=bf h;cases h;exact((aY.w (cA h26)).a [.n2 [0,1,2,3,4,5,6,7,8,9,10,11] [0,1,2,3,4,5,6,7,8,9,10,11] 7 9 [0,1,2,3,4] [4,7,8]]).rts hZ (D.iw [aB (IntKind.i64.wrap ((((aC.bG.map ai.c)++([[aZ aa.rel,bX (aa.args.map tx),bX ([])]])).length:Int)-1)),bw [cV 63 4 (aC.rules.map aO.c),cV 3 1 (aC.ends.map jM),cV 83 3 ((aC.bG.map ai.c)++([[aZ aa.rel,bX (aa.args.map tx),bX ([])]])),cV 74 8 (aC.nodes.map Node.c),cV 43 2 (aC.facts.map aD.c),aB aC.cP],D.val jB]) (by first|rfl| (simp only[mA]<;>rfl)| (simp only[cN,mA]<;>rfl))
def eF(aC:aH)(aa:Int)(cv:aU)(k1:Option (aH×Int)):bN->Nat->Option (aH×Int)
 | [],i1=>(k1)
 |bg::cj,i1=>(bif decide (((i1:Int):Int)>0)then(bif (bg.parent:Int)==aa then((lS bg.cond cv).bind fun Js=>(bif Js then(some (aC,(i1:Int)))else(eF aC aa cv k1 cj (i1+1))))else(eF aC aa cv k1 cj (i1+1)))else(eF aC aa cv k1 cj (i1+1)))
def mN(aC:aH)(aa:Int)(cv:aU):Option (aH×Int):=(bif decide (aC.nodes.length<=maxLen)then(eF aC aa cv (bif (cv.kind:Int)==1 then((uC cv.pat).bind fun Oa=>((jO aC Oa).bind fun P3=>((gG cv).bind fun Jt=>(bif room ((P3.1.nodes.map Node.c).length+([[aB aa,aB Jt.kind,aZ Jt.pat.rel,bX (Jt.pat.args.map tx),aZ Jt.left,aZ Jt.right,aB P3.2,bX ([])]]).length) 120 then(some ((⟨P3.1.rules,P3.1.ends,P3.1.bG,P3.1.nodes++([(⟨aa,Jt,P3.2,[]⟩:Node)]),P3.1.facts,P3.1.cP⟩:aH),IntKind.i64.wrap ((((P3.1.nodes.map Node.c)++([[aB aa,aB Jt.kind,aZ Jt.pat.rel,bX (Jt.pat.args.map tx),aZ Jt.left,aZ Jt.right,aB P3.2,bX ([])]])).length:Int)-1)))else none))))else(bif (cv.kind:Int)==2 then((uC cv.pat).bind fun y47=>((jO aC y47).bind fun O5=>((gG cv).bind fun Ms=>(bif room ((O5.1.nodes.map Node.c).length+([[aB aa,aB Ms.kind,aZ Ms.pat.rel,bX (Ms.pat.args.map tx),aZ Ms.left,aZ Ms.right,aB O5.2,bX ([])]]).length) 120 then(some ((⟨O5.1.rules,O5.1.ends,O5.1.bG,O5.1.nodes++([(⟨aa,Ms,O5.2,[]⟩:Node)]),O5.1.facts,O5.1.cP⟩:aH),IntKind.i64.wrap ((((O5.1.nodes.map Node.c)++([[aB aa,aB Ms.kind,aZ Ms.pat.rel,bX (Ms.pat.args.map tx),aZ Ms.left,aZ Ms.right,aB O5.2,bX ([])]])).length:Int)-1)))else none))))else((gG cv).bind fun P4=>(bif room ((aC.nodes.map Node.c).length+([[aB aa,aB P4.kind,aZ P4.pat.rel,bX (P4.pat.args.map tx),aZ P4.left,aZ P4.right,aB (-1),bX ([])]]).length) 120 then(some ((⟨aC.rules,aC.ends,aC.bG,aC.nodes++([(⟨aa,P4, -1,[]⟩:Node)]),aC.facts,aC.cP⟩:aH),IntKind.i64.wrap ((((aC.nodes.map Node.c)++([[aB aa,aB P4.kind,aZ P4.pat.rel,bX (P4.pat.args.map tx),aZ P4.left,aZ P4.right,aB (-1),bX ([])]])).length:Int)-1)))else none)))) aC.nodes 0)else none)
def C0(jB:Value)(aC:aH)(aa:Int)(cv:aU)(dL:Int):St:=⟨[(0,bp 0 0),(1,aB aa),(5,bp 1 0),(13,b9 2),(14,aB ((aC.nodes.map Node.c).length:Int)),(15,aB dL)],[Ob.CW [b9 3,b9 4,b9 5,b9 2,b9 6,aB aC.cP] jB,bu (aU.c cv),af 74 8 (aC.nodes.map Node.c),af 63 4 (aC.rules.map aO.c),af 3 1 (aC.ends.map jM),af 83 3 (aC.bG.map ai.c),af 43 2 (aC.facts.map aD.c)]⟩
theorem BT(hZ:Z.nt=69){jB:Value}{aC:aH}{aa:Int}{cv:aU}{r:aH×Int}{k1:Option (aH×Int)}(eA:k1=some r->Ax Z N f177 (.p sI jB (cN r.1) (aB r.2)) [1,1] ⟨[(0,bp 0 0),(1,aB aa),(5,bp 1 0)],[Ob.CW [b9 2,b9 3,b9 4,b9 5,b9 6,aB aC.cP] jB,bu (aU.c cv),af 63 4 (aC.rules.map aO.c),af 3 1 (aC.ends.map jM),af 83 3 (aC.bG.map ai.c),af 74 8 (aC.nodes.map Node.c),af 43 2 (aC.facts.map aD.c)]⟩)(hm1:aC.nodes.length<=maxLen):∀(rest:bN) (i1:Nat),aC.nodes.drop i1=rest->eF aC aa cv k1 rest i1=some r->Ar Z N f177 (.p sI jB (cN r.1) (aB r.2)) [1,0,1,0] (rest.length+1) (C0 jB aC aa cv (i1:Int)):=by
 intro rest
 induction rest with
 |nil=>
  intro i1 bD h;rw[eF]at h;refine aT fun N1 cq cS=>?_
  exact((aY.ge Node.c bD).a [.hl 0 [0,1,5] [0,1,3,4,5,2,6]]).ex hZ cq (eA h)
 |cons bg cj ih1=>
  intro i1 bD h;rw[eF]at h;refine aT fun N1 cq cS=>?_
  have jz:=(((aY.lt Node.c bD).i (fG Node.c 8 (dc bD))).o 8 8 .uq (cL Node.c (dc bD)))
  obtain⟨h30,h⟩|⟨h30,h⟩:=aK h
  ·have uc:=(jz.r 5 h30)
   obtain⟨h31,h⟩|⟨h31,h⟩:=aK h
   ·obtain⟨Js,h33,h⟩:=aG h;have xf:=(((uc.r 4 h31).g (wH h33)).b h31)
    obtain⟨h34,h⟩|⟨h34,h⟩:=aK h
    ·cases h;exact(xf.b h34).ret hZ
    ·exact((xf.b h34).a [.cn [0,1,5,13,14,15] [0,1,2,3,4,5,6]]).ct hZ cS (iS bD hm1) (ih1 (i1+1) (dn bD) h)
   ·exact(((uc.r 5 h31).F 1).a [.cn [0,1,5,13,14,15] [0,1,2,3,4,5,6]]).ct hZ cS (iS bD hm1) (ih1 (i1+1) (dn bD) h)
  ·exact(((jz.r 5 h30).F 6).a [.cn [0,1,5,13,14,15] [0,1,2,3,4,5,6]]).ct hZ cS (iS bD hm1) (ih1 (i1+1) (dn bD) h)
theorem Av{aC:aH}{aa:Int}{cv:aU}{r:aH×Int}(h:mN aC aa cv=some r):iz prog 177 (cN aC) (cN r.1) [aB aa,bw (aU.c cv)] (aB r.2):=by
 refine L4 func177 sI 69 [b9 1,b9 2,b9 3,b9 4,b9 5,aB aC.cP] [aB aa,bw [aB cv.kind,aZ cv.pat.rel,bX (cv.pat.args.map tx),aZ cv.left,aZ cv.right]] [af 63 4 (aC.rules.map aO.c),af 3 1 (aC.ends.map jM),af 83 3 (aC.bG.map ai.c),af 74 8 (aC.nodes.map Node.c),af 43 2 (aC.facts.map aD.c)] fun hr jB Z hZ=>?_
 rw[mN]at h;obtain⟨h63,h⟩:=bf h;refine(aY.a [.cn [0,1,5,13,14,15] [0,6,4,1,2,3,5]]).lp hZ (BT hZ (fun h=>?_) (bh h63) aC.nodes 0 rfl h);obtain⟨h35,h⟩|⟨h35,h⟩:=aK h
 ·obtain⟨Oa,h37,P3,h39,Jt,h44,h⟩:=gW h;obtain⟨h45,h⟩:=bf h;cases h;exact(((((((aY.r 4 h35).T 1).g (BE h37)).hp TN (vA h39)).a [.n2 [0,1,2,3,4,5,6,7,8,9,10,11,12,13,14] [0,1,2,3,4,5,6,7,8,9,10,11,12,13,14] 10 12 [0,1,2,3,4] [11,13,14]]).g (mV h44)).w (cA h45)).rts hZ (D.iw [aB (IntKind.i64.wrap ((((P3.1.nodes.map Node.c)++([[aB aa,aB Jt.kind,aZ Jt.pat.rel,bX (Jt.pat.args.map tx),aZ Jt.left,aZ Jt.right,aB P3.2,bX ([])]])).length:Int)-1)),bw [cV 63 4 (P3.1.rules.map aO.c),cV 3 1 (P3.1.ends.map jM),cV 83 3 (P3.1.bG.map ai.c),cV 74 8 ((P3.1.nodes.map Node.c)++([[aB aa,aB Jt.kind,aZ Jt.pat.rel,bX (Jt.pat.args.map tx),aZ Jt.left,aZ Jt.right,aB P3.2,bX ([])]])),cV 43 2 (P3.1.facts.map aD.c),aB P3.1.cP],D.val jB]) (by first|rfl| (simp only[mA]<;>rfl)| (simp only[cN,mA]<;>rfl))
 ·have Ak:=(aY.r 4 h35)
  obtain⟨h46,h⟩|⟨h46,h⟩:=aK h
  ·obtain⟨y47,h48,O5,h50,Ms,h55,h⟩:=gW h;obtain⟨h56,h⟩:=bf h;cases h;exact((((((Ak.b h46).g (BE h48)).hp TN (vA h50)).a [.n2 [0,1,2,3,4,5,6,7,8,9,10,11,12,13,14] [0,1,2,3,4,5,6,7,8,9,10,11,12,13,14] 10 12 [0,1,2,3,4] [11,13,14]]).g (mV h55)).w (cA h56)).rts hZ (D.iw [aB (IntKind.i64.wrap ((((O5.1.nodes.map Node.c)++([[aB aa,aB Ms.kind,aZ Ms.pat.rel,bX (Ms.pat.args.map tx),aZ Ms.left,aZ Ms.right,aB O5.2,bX ([])]])).length:Int)-1)),bw [cV 63 4 (O5.1.rules.map aO.c),cV 3 1 (O5.1.ends.map jM),cV 83 3 (O5.1.bG.map ai.c),cV 74 8 ((O5.1.nodes.map Node.c)++([[aB aa,aB Ms.kind,aZ Ms.pat.rel,bX (Ms.pat.args.map tx),aZ Ms.left,aZ Ms.right,aB O5.2,bX ([])]])),cV 43 2 (O5.1.facts.map aD.c),aB O5.1.cP],D.val jB]) (by first|rfl| (simp only[mA]<;>rfl)| (simp only[cN,mA]<;>rfl))
  ·obtain⟨P4,h61,h⟩:=aG h;obtain⟨h62,h⟩:=bf h;cases h;exact((((Ak.b h46).a [.n2 [0,1,2,3,4,5,6,7,8,9,10,11,12,13,14] [0,1,2,3,4,5,6,7,8,9,10,11,12,13,14] 10 12 [0,1,2,3,4] [5,7,8]]).g (mV h61)).w (cA h62)).rts hZ (D.iw [aB (IntKind.i64.wrap ((((aC.nodes.map Node.c)++([[aB aa,aB P4.kind,aZ P4.pat.rel,bX (P4.pat.args.map tx),aZ P4.left,aZ P4.right,aB (-1),bX ([])]])).length:Int)-1)),bw [cV 63 4 (aC.rules.map aO.c),cV 3 1 (aC.ends.map jM),cV 83 3 (aC.bG.map ai.c),cV 74 8 ((aC.nodes.map Node.c)++([[aB aa,aB P4.kind,aZ P4.pat.rel,bX (P4.pat.args.map tx),aZ P4.left,aZ P4.right,aB (-1),bX ([])]])),cV 43 2 (aC.facts.map aD.c),aB aC.cP],D.val jB]) (by first|rfl| (simp only[mA]<;>rfl)| (simp only[cN,mA]<;>rfl))
def kW(aC:az)(i1:Nat)(GZ:ay)(k2:Int->Int->az->bM->bQ->bN->aJ->Option aH):ay->Nat->Int->Int->az->bM->bQ->bN->aJ->Option aH
 | [],i2,nh,qj,Df,lX,wz,kQ,tY=>(k2 nh qj Df lX wz kQ tY)
 |jL::tK,i2,nh,qj,Df,lX,wz,kQ,tY=>((mN (⟨Df,lX,wz,kQ,tY,qj⟩:aH) nh jL).bind fun zz=>(kW aC i1 GZ k2 tK (i2+1) zz.2 zz.1.cP zz.1.rules zz.1.ends zz.1.bG zz.1.nodes zz.1.facts))
def kV(aC:az)(k1:Int->az->bM->bQ->bN->aJ->Option aH):az->Nat->Int->az->bM->bQ->bN->aJ->Option aH
 | [],i1,qi,nj,dh,xM,nF,De=>(k1 qi nj dh xM nF De)
 |bg::cj,i1,qi,nj,dh,xM,nF,De=>((sY bg).bind fun GZ=>(bif decide (GZ.length<=maxLen)then(kW aC i1 GZ (fun(Be:Int) (qg:Int) (Ks:az) (yG:bM) (Kt:bQ) (nA:bN) (Ku:aJ)=>(bif room ((yG.map jM).length+([[aB Be]]).length) 8 then(kV aC k1 cj (i1+1) qg Ks (yG++([Be])) Kt nA Ku)else none)) GZ 0 0 qi nj dh xM nF De)else none))
def uL(aC:az):Option aH:=((rM aC).bind fun y1=>(kV aC (fun(wS:Int) (qz:az) (eN:bM) (Qf:bQ) (lW:bN) (wR:aJ)=>(some (⟨qz,eN,Qf,lW,wR,wS⟩:aH))) aC 0 0 y1 ([]:bM) ([]:bQ) ([(⟨-1,(⟨0,(⟨[],[]⟩:aD),[],[]⟩:aU), -1,[]⟩:Node)]) ([]:aJ)))
def xE(aC:az)(qi:Int)(W1:List aR)(W2:List aR)(W3:List aR)(W4:List aR)(W5:List aR)(dL:Int):St:=⟨[(2,bp 0 0),(3,bp 1 0),(14,bX (aC.map aO.c)),(15,aB ((aC.map aO.c).length:Int)),(16,aB dL)],[bu [D.nil,D.nil,D.nil,D.nil,D.nil,aB 0],bu [b9 2,b9 3,b9 4,b9 5,b9 6,aB qi],af 63 4 W1,af 3 1 W2,af 83 3 W3,af 74 8 W4,af 43 2 W5]⟩
def Iv(aC:az)(i1:Nat)(GZ:ay)(nh:Int)(qj:Int)(W2:List aR)(W3:List aR)(W4:List aR)(W5:List aR)(W6:List aR)(dL:Int):St:=⟨[(2,bp 0 0),(3,bp 1 0),(6,aB nh),(14,bX (aC.map aO.c)),(15,aB ((aC.map aO.c).length:Int)),(16,aB (i1:Int)),(21,b9 2),(22,aB ((GZ.map aU.c).length:Int)),(23,aB dL)],[bu [D.nil,D.nil,D.nil,D.nil,D.nil,aB 0],bu [b9 3,b9 4,b9 5,b9 6,b9 7,aB qj],af 71 5 (GZ.map aU.c),af 63 4 W2,af 3 1 W3,af 83 3 W4,af 74 8 W5,af 43 2 W6]⟩
theorem HJ(hZ:Z.nt=39){aC:az}{i1:Nat}{GZ:ay}{r:aH}{k2:Int->Int->az->bM->bQ->bN->aJ->Option aH}(zc:∀(Be:Int) (qg:Int) (Ks:az) (yG:bM) (Kt:bQ) (nA:bN) (Ku:aJ),k2 Be qg Ks yG Kt nA Ku=some r->Ax Z N f106 (vp r) [1,1,0,1,0,0,1,1,0,0,1,1,1] ⟨[(2,bp 0 0),(3,bp 1 0),(6,aB Be),(14,bX (aC.map aO.c)),(15,aB ((aC.map aO.c).length:Int)),(16,aB (i1:Int))],[bu [D.nil,D.nil,D.nil,D.nil,D.nil,aB 0],bu [b9 2,b9 3,b9 4,b9 5,b9 6,aB qg],af 63 4 (Ks.map aO.c),af 3 1 (yG.map jM),af 83 3 (Kt.map ai.c),af 74 8 (nA.map Node.c),af 43 2 (Ku.map aD.c)]⟩)(hm2:GZ.length<=maxLen):∀(rest:ay) (i2:Nat) (nh:Int) (qj:Int) (Df:az) (lX:bM) (wz:bQ) (kQ:bN) (tY:aJ),GZ.drop i2=rest->kW aC i1 GZ k2 rest i2 nh qj Df lX wz kQ tY=some r->Ar Z N f106 (vp r) [1,1,0,1,0,0,1,1,0,0,1,1,0,1,0] (rest.length+1) (Iv aC i1 GZ nh qj (Df.map aO.c) (lX.map jM) (wz.map ai.c) (kQ.map Node.c) (tY.map aD.c) (i2:Int)):=by
 intro rest
 induction rest with
 |nil=>
  intro i2 nh qj Df lX wz kQ tY hd2 h;rw[kW]at h;refine aT fun N2 uX qp=>?_
  exact((aY.ge aU.c hd2).a [.hl 5 [2,3,6,14,15,16] [0,1,3,4,5,6,7]]).ex hZ uX (zc nh qj Df lX wz kQ tY h)
 |cons jL tK ih2=>
  intro i2 nh qj Df lX wz kQ tY hd2 h;rw[kW]at h;refine aT fun N2 uX qp=>?_
  obtain⟨zz,h209,h⟩:=aG h;exact((((((aY.lt aU.c hd2).i (fG aU.c 5 (dc hd2))).o 5 5 .uq (cL aU.c (dc hd2))).a [.gp a2I (cN zz.1) (aB zz.2)]).w (show iz prog 177 (cN (⟨Df,lX,wz,kQ,tY,qj⟩:aH)) (cN zz.1) [aB nh,bw (aU.c jL)] (aB zz.2)from by simpa only[bI,bA,cF,cD,cI]using Av h209)).a [.cn [2,3,6,14,15,16,21,22,23] [0,1,2,9,10,11,12,13]]).ct hZ qp (iS hd2 hm2) (ih2 (i2+1) zz.2 zz.1.cP zz.1.rules zz.1.ends zz.1.bG zz.1.nodes zz.1.facts (dn hd2) h)
theorem HI(hZ:Z.nt=39){aC:az}{r:aH}{k1:Int->az->bM->bQ->bN->aJ->Option aH}(eA:∀(wS:Int) (qz:az) (eN:bM) (Qf:bQ) (lW:bN) (wR:aJ),k1 wS qz eN Qf lW wR=some r->Ax Z N f106 (vp r) [1,1,1] ⟨[(2,bp 0 0),(3,bp 1 0)],[bu [D.nil,D.nil,D.nil,D.nil,D.nil,aB 0],bu [b9 2,b9 3,b9 4,b9 5,b9 6,aB wS],af 63 4 (qz.map aO.c),af 3 1 (eN.map jM),af 83 3 (Qf.map ai.c),af 74 8 (lW.map Node.c),af 43 2 (wR.map aD.c)]⟩)(hm1:aC.length<=maxLen):∀(rest:az) (i1:Nat) (qi:Int) (nj:az) (dh:bM) (xM:bQ) (nF:bN) (De:aJ),aC.drop i1=rest->kV aC k1 rest i1 qi nj dh xM nF De=some r->Ar Z N f106 (vp r) [1,1,0,1,0] (rest.length+1) (xE aC qi (nj.map aO.c) (dh.map jM) (xM.map ai.c) (nF.map Node.c) (De.map aD.c) (i1:Int)):=by
 intro rest
 induction rest with
 |nil=>
  intro i1 qi nj dh xM nF De bD h;rw[kV]at h;refine aT fun N1 cq cS=>?_
  exact((aY.ge aO.c bD).a [.hl 0 [2,3] [0,1,2,3,4,5,6]]).ex hZ cq (eA qi nj dh xM nF De h)
 |cons bg cj ih1=>
  intro i1 qi nj dh xM nF De bD h;rw[kV]at h;refine aT fun N1 cq cS=>?_
  obtain⟨GZ,h180,h⟩:=aG h;obtain⟨h211,h⟩:=bf h;refine((((aY.lt aO.c bD).l (bK aO.c 4 (dc bD) rfl)).g (Eo h180)).a [.cn [2,3,6,14,15,16,21,22,23] [0,1,8,2,3,4,5,6]]).lp hZ (HJ hZ (fun Be qg Ks yG Kt nA Ku h=>?_) (bh h211) GZ 0 0 qi nj dh xM nF De rfl h);obtain⟨h210,h⟩:=bf h;exact((aY.w (cA h210)).a [.cn [2,3,14,15,16] [0,1,2,8,4,5,6]]).cs hZ cS (xE aC qg (Ks.map aO.c) ((yG.map jM)++([[aB Be]])) (Kt.map ai.c) (nA.map Node.c) (Ku.map aD.c) (IntKind.i64.wrap ((i1:Int)+1))) (by simp only[iS bD hm1,mA]<;>rfl) (ih1 (i1+1) qg Ks (yG++([Be])) Kt nA Ku (dn bD) h)
theorem G9{aC:az}{r:aH}(h:uL aC=some r):Good prog 106 [bX (aC.map aO.c)] (bw [cV 63 4 (r.rules.map aO.c),cV 3 1 (r.ends.map jM),cV 83 3 (r.bG.map ai.c),cV 74 8 (r.nodes.map Node.c),cV 43 2 (r.facts.map aD.c),aB r.cP]):=by
 refine gd func106 zo 39 fun hr Z hZ=>?_
 rw[uL]at h;obtain⟨y1,h2,h⟩:=aG h;refine((aY.g (zX h2)).a [.pb 3 1 3 1,.pb 3 2 83 3,.pb 3 4 43 2,.cn [2,3,14,15,16] [0,3,1,4,5,2,6]]).lps hZ (xE aC 0 (y1.map aO.c) ([]:List aR) ([]:List aR) ([[aB (-1),aB 0,aZ ([]),bX ([]),aZ ([]),aZ ([]),aB (-1),bX ([])]]) ([]:List aR) 0) (by simp only[mA]<;>rfl) (HI hZ (fun wS qz eN Qf lW wR h=>?_) (by have:=(gX.sl (hr _ (aE (i:=0) rfl))).1;simpa using this) aC 0 0 y1 ([]:bM) ([]:bQ) ([(⟨-1,(⟨0,(⟨[],[]⟩:aD),[],[]⟩:aU), -1,[]⟩:Node)]) ([]:aJ) rfl h);cases h;exact aY.ret hZ
def er(aC:aD):Option aD:=((oZ aC.args).bind fun y1=>(some (⟨aC.rel,y1⟩:aD)))
theorem iR{aC:aD}{r:aD}(h:er aC=some r):Good prog 143 [bw (aD.c aC)] (bw [aZ r.rel,cV 9 1 (r.args.map tx)]):=by
 refine gd func143 Kq 9 fun hr Z hZ=>?_
 rw[er]at h;obtain⟨y1,h2,h⟩:=aG h;cases h;exact((aY.a [.n 5]).g (vf h2)).ret hZ
def ny(aC:aJ)(k1:aJ->Option aJ):aJ->Nat->aJ->Option aJ
 | [],i1,bY=>(k1 bY)
 |bg::cj,i1,bY=>((er bg).bind fun qA=>(bif room ((bY.map aD.c).length+([[aZ qA.rel,bX (qA.args.map tx)]]).length) 40 then(ny aC k1 cj (i1+1) (bY++([qA])))else none))
def cm(aC:aJ):Option aJ:=(ny aC (fun(cM:aJ)=>(some cM)) aC 0 ([]:aJ))
def BH(aC:aJ)(W0:List aR)(dL:Int):St:=⟨[(3,b9 0),(6,bX (aC.map aD.c)),(7,aB ((aC.map aD.c).length:Int)),(8,aB dL)],[af 43 2 W0]⟩
theorem H7(hZ:Z.nt=19){aC:aJ}{r:aJ}{k1:aJ->Option aJ}(eA:∀(cM:aJ),k1 cM=some r->Ax Z N f82 (Jg r) [1,1,1] ⟨[(3,b9 0)],[af 43 2 (cM.map aD.c)]⟩)(hm1:aC.length<=maxLen):∀(rest:aJ) (i1:Nat) (bY:aJ),aC.drop i1=rest->ny aC k1 rest i1 bY=some r->Ar Z N f82 (Jg r) [1,1,0,1,0] (rest.length+1) (BH aC (bY.map aD.c) (i1:Int)):=by
 intro rest
 induction rest with
 |nil=>
  intro i1 bY bD h;rw[ny]at h;refine aT fun N1 cq cS=>?_
  exact((aY.ge aD.c bD).a [.hl 0 [3] [0]]).ex hZ cq (eA bY h)
 |cons bg cj ih1=>
  intro i1 bY bD h;rw[ny]at h;refine aT fun N1 cq cS=>?_
  obtain⟨qA,h28,h⟩:=aG h;obtain⟨h29,h⟩:=bf h;exact(((((aY.lt aD.c bD).l (bK aD.c 2 (dc bD) rfl)).g (iR h28)).w (cA h29)).a [.cn [3,6,7,8] [4]]).cs hZ cS (BH aC ((bY.map aD.c)++([[aZ qA.rel,bX (qA.args.map tx)]])) (IntKind.i64.wrap ((i1:Int)+1))) (by simp only[iS bD hm1,mA]<;>rfl) (ih1 (i1+1) (bY++([qA])) (dn bD) h)
theorem cu{aC:aJ}{r:aJ}(h:cm aC=some r):Good prog 82 [bX (aC.map aD.c)] (cV 43 2 (r.map aD.c)):=by
 refine gd func82 B2 19 fun hr Z hZ=>?_
 rw[cm]at h;refine(aY.a [.L5 3,.cn [3,6,7,8] [0]]).lp hZ (H7 hZ (fun cM h=>?_) (by have:=(gX.sl (hr _ (aE (i:=0) rfl))).1;simpa using this) aC 0 ([]:aJ) rfl h);obtain rfl:=aM h;exact aY.ret hZ
def jC(aC:aP)(k1:Option Bool):aP->Nat->Option Bool
 | [],i1=>(k1)
 |bg::cj,i1=>((nN bg.var).bind fun y50=>(bif !(y50)then(some false)else((gQ bg.value).bind fun y53=>(bif !(y53)then(some false)else(bif decide (((i1:Int):Int)>0)then((fy aC (IntKind.i64.wrap ((i1:Int)-1))).bind fun x57=>(bif !(Op.bytesLess x57.var bg.var)then(some false)else(jC aC k1 cj (i1+1))))else(jC aC k1 cj (i1+1)))))))
def mQ(aC:aP):Option Bool:=(bif decide ((((aC.map aX.c).length:Int):Int)>6)then(some false)else(jC aC (some true) aC 0))
def Ie(aC:aP)(dL:Int):St:=⟨[(0,bX (aC.map aX.c)),(8,bX (aC.map aX.c)),(9,aB ((aC.map aX.c).length:Int)),(10,aB dL)],[]⟩
theorem Gv(hZ:Z.nt=41){aC:aP}{r:Bool}{k1:Option Bool}(eA:k1=some r->Ax Z N f146 (.q bZ (bO r)) [1,1,1] ⟨[],[]⟩)(hm1:aC.length<=maxLen):∀(rest:aP) (i1:Nat),aC.drop i1=rest->jC aC k1 rest i1=some r->Ar Z N f146 (.q bZ (bO r)) [1,1,0,1,0] (rest.length+1) (Ie aC (i1:Int)):=by
 intro rest
 induction rest with
 |nil=>
  intro i1 bD h;rw[jC]at h;refine aT fun N1 cq cS=>?_
  exact((aY.ge aX.c bD).a [.hl 0 [] []]).ex hZ cq (eA h)
 |cons bg cj ih1=>
  intro i1 bD h;rw[jC]at h;refine aT fun N1 cq cS=>?_
  obtain⟨y50,h51,h⟩:=aG h;have uc:=((((aY.lt aX.c bD).l (bK aX.c 2 (dc bD) rfl)).a [.n 22]).g (qG h51))
  obtain⟨h52,h⟩|⟨h52,h⟩:=aK h
  ·obtain rfl:=aM h;exact((((uc.r 5 h52).T 3).a [bF,bF,bF,bF,bF,bF,bF,bF,bF]).T 3).ret hZ
  ·obtain⟨y53,h54,h⟩:=aG h;have xf:=(((uc.r 3 h52).g (fX h54)).r 2 h52)
   obtain⟨h55,h⟩|⟨h55,h⟩:=aK h
   ·obtain rfl:=aM h;exact((((xf.r 3 h55).a [bF,bF,bF,bF,bF,bF,bF,bF,bF]).r 2 h55).T 1).ret hZ
   ·have Ak:=(xf.r 3 h55)
    obtain⟨h56,h⟩|⟨h56,h⟩:=aK h
    ·obtain⟨x57,h58,h⟩:=aG h;have Fb:=((((((Ak.r 4 h56).l (dW aX.c 2 h58 rfl)).r 5 h56).b h55).b h56).b h55)
     obtain⟨h59,h⟩|⟨h59,h⟩:=aK h
     ·obtain rfl:=aM h;exact(Fb.b h59).ret hZ
     ·exact((Fb.b h59).a [.cn [0,8,9,10] []]).ct hZ cS (iS bD hm1) (ih1 (i1+1) (dn bD) h)
    ·exact((((((Ak.r 9 h56).b h55).b h56).b h55).F 1).a [.cn [0,8,9,10] []]).ct hZ cS (iS bD hm1) (ih1 (i1+1) (dn bD) h)
theorem oQ{aC:aP}{r:Bool}(h:mQ aC=some r):Good prog 146 [bX (aC.map aX.c)] (bO r):=by
 refine gd func146 bZ 41 fun hr Z hZ=>?_
 rw[mQ]at h;obtain⟨h1,h⟩|⟨h1,h⟩:=aK h
 ·obtain rfl:=aM h;exact(aY.b h1).ret hZ
 ·refine((aY.b h1).a [.cn [0,8,9,10] []]).lp hZ (Gv hZ (fun h=>?_) (by have:=(gX.sl (hr _ (aE (i:=0) rfl))).1;simpa using this) aC 0 rfl h);obtain rfl:=aM h;exact aY.ret hZ
def j7(aC:aP):Option aP:=(bif room (([]:List aR).length+(aC.map aX.c).length) 32 then(some (([]:aP)++aC))else none)
theorem s8{aC:aP}{r:aP}(h:j7 aC=some r):Good prog 147 [bX (aC.map aX.c)] (cV 113 2 (r.map aX.c)):=by
 refine gd func147 zn 5 fun hr Z hZ=>?_
 rw[j7]at h;obtain⟨h1,h⟩:=bf h;cases h;exact(((aY.w (cA h1)).w (show(∀r∈(aC.map aX.c),r.length=2)/\(true=true->D.jq (aC.map aX.c)=true)from⟨by first|simp| (intro r hr;obtain⟨x,_,rfl⟩:=cJ.1 (cO (fM hr));rfl),by simp[D.jq,D.flat]⟩)).a [.L5 2,.fl true]).rts hZ (cV 113 2 (([]:List aR)++(aC.map aX.c))) (by first|rfl| (simp only[mA]<;>rfl)| (simp only[cN,mA]<;>rfl))
def nQ(aC:aP)(aa:Bytes)(k1:Option (Bytes×Bool)):aP->Nat->Option (Bytes×Bool)
 | [],i1=>(k1)
 |bg::cj,i1=>(bif (bg.var:Bytes)==aa then(some (bg.value,true))else(nQ aC aa k1 cj (i1+1)))
def pU(aC:aP)(aa:Bytes):Option (Bytes×Bool):=((gQ aa).bind fun y1=>(bif y1 then(some (aa,true))else((nN aa).bind fun y4=>(bif !(y4)then(some ([],false))else(nQ aC aa (some ([],false)) aC 0)))))
def LY(aC:aP)(aa:Bytes)(dL:Int):St:=⟨[(1,aZ aa),(14,bX (aC.map aX.c)),(15,aB ((aC.map aX.c).length:Int)),(16,aB dL)],[]⟩
theorem K6(hZ:Z.nt=27){aC:aP}{aa:Bytes}{r:Bytes×Bool}{k1:Option (Bytes×Bool)}(eA:k1=some r->Ax Z N f83 (XF r) [1,1,1,1] ⟨[],[]⟩)(hm1:aC.length<=maxLen):∀(rest:aP) (i1:Nat),aC.drop i1=rest->nQ aC aa k1 rest i1=some r->Ar Z N f83 (XF r) [1,1,1,0,1,0] (rest.length+1) (LY aC aa (i1:Int)):=by
 intro rest
 induction rest with
 |nil=>
  intro i1 bD h;rw[nQ]at h;refine aT fun N1 cq cS=>?_
  exact((aY.ge aX.c bD).a [.hl 0 [] []]).ex hZ cq (eA h)
 |cons bg cj ih1=>
  intro i1 bD h;rw[nQ]at h;refine aT fun N1 cq cS=>?_
  have fF:=((aY.lt aX.c bD).l (bK aX.c 2 (dc bD) rfl))
  obtain⟨h19,h⟩|⟨h19,h⟩:=aK h
  ·cases h;exact(fF.b h19).ret hZ
  ·exact((fF.b h19).a [.cn [1,14,15,16] []]).ct hZ cS (iS bD hm1) (ih1 (i1+1) (dn bD) h)
theorem th{aC:aP}{aa:Bytes}{r:Bytes×Bool}(h:pU aC aa=some r):Good prog 83 [bX (aC.map aX.c),aZ aa] (D.iw [aZ r.1,bO r.2]):=by
 refine gd func83 ON 27 fun hr Z hZ=>?_
 rw[pU]at h;obtain⟨y1,h2,h⟩:=aG h;obtain⟨h3,h⟩|⟨h3,h⟩:=aK h
 ·cases h;exact((aY.g (fX h2)).b h3).ret hZ
 ·obtain⟨y4,h5,h⟩:=aG h;have jQ:=(((aY.g (fX h2)).b h3).g (qG h5))
  obtain⟨h6,h⟩|⟨h6,h⟩:=aK h
  ·cases h;exact(jQ.b h6).ret hZ
  ·refine((jQ.b h6).a [.cn [1,14,15,16] []]).lp hZ (K6 hZ (fun h=>?_) (by have:=(gX.sl (hr _ (aE (i:=0) rfl))).1;simpa using this) aC 0 rfl h);cases h;exact aY.ret hZ
def mO(aC:aP)(aa:Bytes)(cv:Bytes)(k1:Bool->aP->Option (aP×Bool)):aP->Nat->Bool->aP->Option (aP×Bool)
 | [],i1,Ag,bY=>(k1 Ag bY)
 |bg::cj,i1,Ag,bY=>(bif !(Ag)then(bif !(Op.bytesLess bg.var aa||(bg.var:Bytes)==aa)then(bif room ((bY.map aX.c).length+([[aZ aa,aZ cv]]).length) 32 then(bif room (((bY.map aX.c)++([[aZ aa,aZ cv]])).length+([[aZ bg.var,aZ bg.value]]).length) 32 then(mO aC aa cv k1 cj (i1+1) true ((bY++([(⟨aa,cv⟩:aX)]))++([bg])))else none)else none)else(bif room ((bY.map aX.c).length+([[aZ bg.var,aZ bg.value]]).length) 32 then(mO aC aa cv k1 cj (i1+1) Ag (bY++([bg])))else none))else(bif room ((bY.map aX.c).length+([[aZ bg.var,aZ bg.value]]).length) 32 then(mO aC aa cv k1 cj (i1+1) Ag (bY++([bg])))else none))
def tN(aC:aP)(aa:Bytes)(cv:Bytes):Option (aP×Bool):=((mQ aC).bind fun y1=>(bif !(y1)then(some ([],false))else((nN aa).bind fun y4=>(bif !(y4)then(some ([],false))else((gQ cv).bind fun y7=>(bif !(y7)then(some ([],false))else((pU aC aa).bind fun GY=>(bif GY.2 then(bif !((GY.1:Bytes)==cv)then(some ([],false))else((j7 aC).bind fun Ai=>(some (Ai,true))))else(bif decide ((((aC.map aX.c).length:Int):Int)>=6)then(some ([],false))else(mO aC aa cv (fun(Vb:Bool) (cM:aP)=>(bif !(Vb)then(bif room ((cM.map aX.c).length+([[aZ aa,aZ cv]]).length) 32 then(some (cM++([(⟨aa,cv⟩:aX)]),true))else none)else(some (cM,true)))) aC 0 false ([]:aP)))))))))))
def we(aC:aP)(aa:Bytes)(cv:Bytes)(Ag:Bool)(W1:List aR)(dL:Int):St:=⟨[(1,aZ aa),(2,aZ cv),(10,b9 0),(11,bO Ag),(42,bX (aC.map aX.c)),(43,aB ((aC.map aX.c).length:Int)),(44,aB dL)],[af 113 2 W1]⟩
theorem LP(hZ:Z.nt=76){aC:aP}{aa:Bytes}{cv:Bytes}{r:aP×Bool}{k1:Bool->aP->Option (aP×Bool)}(eA:∀(Vb:Bool) (cM:aP),k1 Vb cM=some r->Ax Z N f84 (.q Kr (D.iw [cV 113 2 (r.1.map aX.c),bO r.2])) [1,1,1,1,1,1,1] ⟨[(1,aZ aa),(2,aZ cv),(10,b9 0),(11,bO Vb)],[af 113 2 (cM.map aX.c)]⟩)(hm1:aC.length<=maxLen):∀(rest:aP) (i1:Nat) (Ag:Bool) (bY:aP),aC.drop i1=rest->mO aC aa cv k1 rest i1 Ag bY=some r->Ar Z N f84 (.q Kr (D.iw [cV 113 2 (r.1.map aX.c),bO r.2])) [1,1,1,1,1,1,0,1,0] (rest.length+1) (we aC aa cv Ag (bY.map aX.c) (i1:Int)):=by
 intro rest
 induction rest with
 |nil=>
  intro i1 Ag bY bD h;rw[mO]at h;refine aT fun N1 cq cS=>?_
  exact((aY.ge aX.c bD).a [.hl 0 [1,2,10,11] [0]]).ex hZ cq (eA Ag bY h)
 |cons bg cj ih1=>
  intro i1 Ag bY bD h;rw[mO]at h;refine aT fun N1 cq cS=>?_
  have jQ:=((aY.lt aX.c bD).l (bK aX.c 2 (dc bD) rfl))
  obtain⟨h58,h⟩|⟨h58,h⟩:=aK h
  ·have jz:=(jQ.r 5 h58)
   obtain⟨h59,h⟩|⟨h59,h⟩:=aK h
   ·obtain⟨h60,h⟩:=bf h;obtain⟨h61,h⟩:=bf h;exact((((jz.b h59).w (cA h60)).w (cA h61)).a [.cn [1,2,10,11,42,43,44] [5]]).cs hZ cS (we aC aa cv true (((bY.map aX.c)++([[aZ aa,aZ cv]]))++([[aZ bg.var,aZ bg.value]])) (IntKind.i64.wrap ((i1:Int)+1))) (by simp only[iS bD hm1,mA]<;>rfl) (ih1 (i1+1) true ((bY++([(⟨aa,cv⟩:aX)]))++([bg])) (dn bD) h)
   ·obtain⟨h62,h⟩:=bf h;exact(((jz.b h59).w (cA h62)).a [.cn [1,2,10,11,42,43,44] [3]]).cs hZ cS (we aC aa cv Ag ((bY.map aX.c)++([[aZ bg.var,aZ bg.value]])) (IntKind.i64.wrap ((i1:Int)+1))) (by simp only[iS bD hm1,mA]<;>rfl) (ih1 (i1+1) Ag (bY++([bg])) (dn bD) h)
  ·obtain⟨h63,h⟩:=bf h;exact((((jQ.r 5 h58).F 1).w (cA h63)).a [.cn [1,2,10,11,42,43,44] [3]]).cs hZ cS (we aC aa cv Ag ((bY.map aX.c)++([[aZ bg.var,aZ bg.value]])) (IntKind.i64.wrap ((i1:Int)+1))) (by simp only[iS bD hm1,mA]<;>rfl) (ih1 (i1+1) Ag (bY++([bg])) (dn bD) h)
theorem C3{aC:aP}{aa:Bytes}{cv:Bytes}{r:aP×Bool}(h:tN aC aa cv=some r):Good prog 84 [bX (aC.map aX.c),aZ aa,aZ cv] (D.iw [cV 113 2 (r.1.map aX.c),bO r.2]):=by
 refine gd func84 Kr 76 fun hr Z hZ=>?_
 rw[tN]at h;obtain⟨y1,h2,h⟩:=aG h;obtain⟨h3,h⟩|⟨h3,h⟩:=aK h
 ·cases h;exact(((aY.g (oQ h2)).r 4 h3).T 5).ret hZ
 ·obtain⟨y4,h5,h⟩:=aG h;have uc:=((((aY.g (oQ h2)).r 2 h3).g (qG h5)).r 2 h3)
  obtain⟨h6,h⟩|⟨h6,h⟩:=aK h
  ·cases h;exact((uc.r 4 h6).T 1).ret hZ
  ·obtain⟨y7,h8,h⟩:=aG h;have xf:=(((uc.r 2 h6).g (fX h8)).r 2 h6)
   obtain⟨h9,h⟩|⟨h9,h⟩:=aK h
   ·cases h;exact(xf.b h9).ret hZ
   ·obtain⟨GY,h11,h⟩:=aG h;have Ak:=((xf.b h9).g (th h11))
    obtain⟨h12,h⟩|⟨h12,h⟩:=aK h
    ·obtain⟨h13,h⟩|⟨h13,h⟩:=aK h
     ·cases h;exact((Ak.b h12).b h13).ret hZ
     ·obtain⟨Ai,h15,h⟩:=aG h;cases h;exact(((Ak.b h12).b h13).g (s8 h15)).ret hZ
    ·obtain⟨h16,h⟩|⟨h16,h⟩:=aK h
     ·cases h;exact((Ak.b h12).b h16).ret hZ
     ·refine(((Ak.b h12).b h16).a [.L5 10,.cn [1,2,10,11,42,43,44] [0]]).lp hZ (LP hZ (fun Vb cM h=>?_) (by have:=(gX.sl (hr _ (aE (i:=0) rfl))).1;simpa using this) aC 0 false ([]:aP) rfl h);obtain⟨h64,h⟩|⟨h64,h⟩:=aK h
      ·obtain⟨h65,h⟩:=bf h;cases h;exact((aY.b h64).w (cA h65)).rts hZ (D.iw [cV 113 2 ((cM.map aX.c)++([[aZ aa,aZ cv]])),bO true]) (by first|rfl| (simp only[mA]<;>rfl)| (simp only[cN,mA]<;>rfl))
      ·cases h;exact(aY.b h64).ret hZ
def kT(aC:aD)(aa:aD)(k1:aP->Option (aP×Bool)):aI->Nat->aP->Option (aP×Bool)
 | [],i1,bn=>(k1 bn)
 |bg::cj,i1,bn=>((gQ bg).bind fun y80=>(bif y80 then((fy aa.args (i1:Int)).bind fun x83=>(bif !((bg:Bytes)==x83)then(some ([],false))else(kT aC aa k1 cj (i1+1) bn)))else((fy aa.args (i1:Int)).bind fun x86=>((tN bn bg x86).bind fun y88=>(bif !(y88.2)then(some ([],false))else(kT aC aa k1 cj (i1+1) y88.1))))))
def kD(aC:aD)(aa:aD)(cv:aP):Option (aP×Bool):=((kB aC).bind fun y1=>(bif !(y1)then(some ([],false))else((rB aa).bind fun y4=>(bif !(y4)then(some ([],false))else((mQ cv).bind fun y7=>(bif !(y7)then(some ([],false))else(bif !((aC.rel:Bytes)==aa.rel)then(some ([],false))else(bif (((aC.args.map tx).length:Int):Int) != ((aa.args.map tx).length:Int)then(some ([],false))else((j7 cv).bind fun Tw=>(kT aC aa (fun(cM:aP)=>(some (cM,true))) aC.args 0 Tw))))))))))
def Ih(aC:aD)(aa:aD)(W0:List aR)(dL:Int):St:=⟨[(4,bp 0 0),(8,b9 1),(45,bX (aC.args.map tx)),(46,aB ((aC.args.map tx).length:Int)),(47,aB dL)],[bu (aD.c aa),af 113 2 W0]⟩
theorem Gx(hZ:Z.nt=77){aC:aD}{aa:aD}{r:aP×Bool}{k1:aP->Option (aP×Bool)}(eA:∀(cM:aP),k1 cM=some r->Ax Z N f186 (XG r) [1,1,1,1] ⟨[(8,b9 0)],[af 113 2 (cM.map aX.c)]⟩)(hm1:aC.args.length<=maxLen):∀(rest:aI) (i1:Nat) (bn:aP),aC.args.drop i1=rest->kT aC aa k1 rest i1 bn=some r->Ar Z N f186 (XG r) [1,1,1,0,1,0] (rest.length+1) (Ih aC aa (bn.map aX.c) (i1:Int)):=by
 intro rest
 induction rest with
 |nil=>
  intro i1 bn bD h;rw[kT]at h;refine aT fun N1 cq cS=>?_
  exact((aY.ge tx bD).a [.hl 0 [8] [1]]).ex hZ cq (eA bn h)
 |cons bg cj ih1=>
  intro i1 bn bD h;rw[kT]at h;refine aT fun N1 cq cS=>?_
  obtain⟨y80,h81,h⟩:=aG h;have jz:=(((aY.lt tx bD).l (bK tx 1 (dc bD) rfl)).g (fX h81))
  obtain⟨h82,h⟩|⟨h82,h⟩:=aK h
  ·obtain⟨x83,h84,h⟩:=aG h;have uc:=((jz.b h82).l (dW tx 1 h84 rfl))
   obtain⟨h85,h⟩|⟨h85,h⟩:=aK h
   ·cases h;exact(uc.b h85).ret hZ
   ·exact((uc.b h85).a [.cn [4,8,45,46,47] [0,1]]).ct hZ cS (iS bD hm1) (ih1 (i1+1) bn (dn bD) h)
  ·obtain⟨x86,h87,y88,h89,h⟩:=bR h;have xf:=(((jz.b h82).l (dW tx 1 h87 rfl)).g (C3 h89))
   obtain⟨h90,h⟩|⟨h90,h⟩:=aK h
   ·cases h;exact(xf.b h90).ret hZ
   ·exact((xf.b h90).a [.cn [4,8,45,46,47] [0,2]]).ct hZ cS (iS bD hm1) (ih1 (i1+1) y88.1 (dn bD) h)
theorem rz{aC:aD}{aa:aD}{cv:aP}{r:aP×Bool}(h:kD aC aa cv=some r):Good prog 186 [bw (aD.c aC),bw (aD.c aa),bX (cv.map aX.c)] (D.iw [cV 113 2 (r.1.map aX.c),bO r.2]):=by
 refine gd func186 Kr 77 fun hr Z hZ=>?_
 rw[kD]at h;obtain⟨y1,h2,h⟩:=aG h;obtain⟨h3,h⟩|⟨h3,h⟩:=aK h
 ·cases h;exact(((aY.g (lG h2)).r 4 h3).T 19).ret hZ
 ·obtain⟨y4,h5,h⟩:=aG h;have Ak:=((((aY.g (lG h2)).r 2 h3).g (xu h5)).r 2 h3)
  obtain⟨h6,h⟩|⟨h6,h⟩:=aK h
  ·cases h;exact((Ak.r 4 h6).T 15).ret hZ
  ·obtain⟨y7,h8,h⟩:=aG h;have Fb:=(((Ak.r 2 h6).g (oQ h8)).r 2 h6)
   obtain⟨h9,h⟩|⟨h9,h⟩:=aK h
   ·cases h;exact((Fb.r 6 h9).T 9).ret hZ
   ·have OO:=(Fb.r 6 h9)
    obtain⟨h10,h⟩|⟨h10,h⟩:=aK h
    ·cases h;exact((OO.r 8 h10).T 1).ret hZ
    ·have EP:=(OO.r 8 h10)
     obtain⟨h11,h⟩|⟨h11,h⟩:=aK h
     ·cases h;exact(EP.b h11).ret hZ
     ·obtain⟨Tw,h13,h⟩:=aG h;refine(((EP.b h11).g (s8 h13)).a [.cn [4,8,45,46,47] [1,2]]).lp hZ (Gx hZ (fun cM h=>?_) (by have:=(gX.sl (gX.agg (hr _ (aE (i:=0) rfl)) (.sl (aC.args.map tx)) (by simp))).1;simpa using this) aC.args 0 Tw rfl h);cases h;exact aY.ret hZ
def iA(aC:aD)(aa:aP)(cv:aJ)(k1:aJ->Option aJ):aJ->Nat->aJ->Option aJ
 | [],i1,bn=>(k1 bn)
 |bg::cj,i1,bn=>((kD aC bg aa).bind fun VY=>(bif VY.2 then((er bg).bind fun BQ=>(bif room ((bn.map aD.c).length+([[aZ BQ.rel,bX (BQ.args.map tx)]]).length) 40 then(iA aC aa cv k1 cj (i1+1) (bn++([BQ])))else none))else(iA aC aa cv k1 cj (i1+1) bn)))
def jU(aC:aD)(aa:aP)(cv:aJ):Option aJ:=(iA aC aa cv (fun(cM:aJ)=>(some cM)) cv 0 ([]:aJ))
def yP(aC:aD)(aa:aP)(cv:aJ)(W0:List aR)(dL:Int):St:=⟨[(1,bX (aa.map aX.c)),(3,bp 0 0),(7,b9 1),(12,bX (cv.map aD.c)),(13,aB ((cv.map aD.c).length:Int)),(14,aB dL)],[bu (aD.c aC),af 43 2 W0]⟩
theorem DP(hZ:Z.nt=33){aC:aD}{aa:aP}{cv:aJ}{r:aJ}{k1:aJ->Option aJ}(eA:∀(cM:aJ),k1 cM=some r->Ax Z N f178 (Jg r) [1,1,1] ⟨[(7,b9 0)],[af 43 2 (cM.map aD.c)]⟩)(hm1:cv.length<=maxLen):∀(rest:aJ) (i1:Nat) (bn:aJ),cv.drop i1=rest->iA aC aa cv k1 rest i1 bn=some r->Ar Z N f178 (Jg r) [1,1,0,1,0] (rest.length+1) (yP aC aa cv (bn.map aD.c) (i1:Int)):=by
 intro rest
 induction rest with
 |nil=>
  intro i1 bn bD h;rw[iA]at h;refine aT fun N1 cq cS=>?_
  exact((aY.ge aD.c bD).a [.hl 0 [7] [1]]).ex hZ cq (eA bn h)
 |cons bg cj ih1=>
  intro i1 bn bD h;rw[iA]at h;refine aT fun N1 cq cS=>?_
  obtain⟨VY,h43,h⟩:=aG h;have fF:=(((aY.lt aD.c bD).l (bK aD.c 2 (dc bD) rfl)).g (rz h43))
  obtain⟨h44,h⟩|⟨h44,h⟩:=aK h
  ·obtain⟨BQ,h46,h⟩:=aG h;obtain⟨h47,h⟩:=bf h;exact((((fF.b h44).g (iR h46)).w (cA h47)).a [.cn [1,3,7,12,13,14] [0,6]]).cs hZ cS (yP aC aa cv ((bn.map aD.c)++([[aZ BQ.rel,bX (BQ.args.map tx)]])) (IntKind.i64.wrap ((i1:Int)+1))) (by simp only[iS bD hm1,mA]<;>rfl) (ih1 (i1+1) (bn++([BQ])) (dn bD) h)
  ·exact((fF.b h44).a [.cn [1,3,7,12,13,14] [0,1]]).ct hZ cS (iS bD hm1) (ih1 (i1+1) bn (dn bD) h)
theorem oN{aC:aD}{aa:aP}{cv:aJ}{r:aJ}(h:jU aC aa cv=some r):Good prog 178 [bw (aD.c aC),bX (aa.map aX.c),bX (cv.map aD.c)] (cV 43 2 (r.map aD.c)):=by
 refine gd func178 B2 33 fun hr Z hZ=>?_
 rw[jU]at h;refine(aY.a [.L5 7,.cn [1,3,7,12,13,14] [0,1]]).lp hZ (DP hZ (fun cM h=>?_) (by have:=(gX.sl (hr _ (aE (i:=2) rfl))).1;simpa using this) cv 0 ([]:aJ) rfl h);obtain rfl:=aM h;exact aY.ret hZ
def oY(aC:aH)(k1:bM->Option ay):Nat->Int->bM->Option ay
 |0,_,_=>none
 |n1+1,ya,bn=>(bif room ((bn.map jM).length+([[aB ya]]).length) 8 then((fy aC.nodes ya).bind fun x19=>(bif decide ((x19.parent:Int)<1)then(k1 (bn++([ya])))else(bif decide ((x19.parent:Int)>=ya)then(k1 (bn++([ya])))else(oY aC k1 n1 x19.parent (bn++([ya]))))))else none)
def mR(aC:aH)(kO:bM)(k2:ay->Option ay):Nat->Int->ay->Option ay
 |0,_,_=>none
 |n2+1,Oy,Qz=>(bif decide ((Oy:Int)>=0)then((fy kO Oy).bind fun x72=>((fy aC.nodes x72).bind fun x74=>((gG x74.cond).bind fun y76=>(bif room ((Qz.map aU.c).length+([[aB y76.kind,aZ y76.pat.rel,bX (y76.pat.args.map tx),aZ y76.left,aZ y76.right]]).length) 80 then(mR aC kO k2 n2 (IntKind.i64.wrap (Oy-1)) (Qz++([y76])))else none))))else(k2 Qz))
def xV(aC:aH)(aa:Int):Option ay:=(bif decide ((aa:Int)<1)then(some ([]))else(bif decide ((aa:Int)>=((aC.nodes.map Node.c).length:Int))then(some ([]))else(oY aC (fun(kO:bM)=>(mR aC kO (fun(Ov:ay)=>(some Ov)) fuel (IntKind.i64.wrap (((kO.map jM).length:Int)-1)) ([]:ay))) fuel aa ([]:bM))))
def Dw(aC:aH)(ya:Int)(W1:List aR):St:=⟨[(1,aB ya),(2,bp 0 0),(5,b9 1)],[bu (aH.c aC),af 3 1 W1]⟩
theorem LW(hZ:Z.nt=57){aC:aH}{r:ay}{k1:bM->Option ay}(eA:∀(kO:bM),k1 kO=some r->Ax Z N f179 (Od r) [1,1,1,1] ⟨[(2,bp 0 0),(5,b9 1)],[bu (aH.c aC),af 3 1 (kO.map jM)]⟩):∀(n1:Nat) (ya:Int) (bn:bM),oY aC k1 n1 ya bn=some r->Ar Z N f179 (Od r) [1,1,1,0,0] n1 (Dw aC ya (bn.map jM)):=by
 intro n
 induction n with
 |zero=>intro ya bn h;simp[oY]at h
 |succ n1 ih1=>
  intro ya bn h;rw[oY]at h;refine aT fun N1 cq cS=>?_
  obtain⟨h18,h⟩:=bf h;obtain⟨x19,h20,h⟩:=aG h;have jQ:=((aY.w (cA h18)).l (dW Node.c 8 h20 rfl))
  obtain⟨h21,h⟩|⟨h21,h⟩:=aK h
  ·exact(((jQ.r 4 h21).T 1).a [.hl 0 [2,5] [0,3]]).exs hZ cq ⟨[(2,bp 0 0),(5,b9 1)],[bu (aH.c aC),af 3 1 ((bn.map jM)++([[aB ya]]))]⟩ (by simp only[mA]<;>rfl) (eA (bn++([ya])) h)
  ·have jz:=(jQ.r 4 h21)
   obtain⟨h22,h⟩|⟨h22,h⟩:=aK h
   ·exact((jz.b h22).a [.hl 0 [2,5] [0,3]]).exs hZ cq ⟨[(2,bp 0 0),(5,b9 1)],[bu (aH.c aC),af 3 1 ((bn.map jM)++([[aB ya]]))]⟩ (by simp only[mA]<;>rfl) (eA (bn++([ya])) h)
   ·exact((jz.b h22).a [.cn [1,2,5] [0,3]]).cs hZ cS (Dw aC x19.parent ((bn.map jM)++([[aB ya]]))) (by simp only[mA]<;>rfl) (ih1 x19.parent (bn++([ya])) h)
def Dx(aC:aH)(kO:bM)(Oy:Int)(W1:List aR):St:=⟨[(2,bp 0 0),(5,b9 1),(7,b9 2),(8,aB Oy)],[bu (aH.c aC),af 3 1 (kO.map jM),af 71 5 W1]⟩
theorem LX(hZ:Z.nt=57){aC:aH}{kO:bM}{r:ay}{k2:ay->Option ay}(zc:∀(Ov:ay),k2 Ov=some r->Ax Z N f179 (Od r) [1,1,1,1,1,1] ⟨[(7,b9 0)],[af 71 5 (Ov.map aU.c)]⟩):∀(n2:Nat) (Oy:Int) (Qz:ay),mR aC kO k2 n2 Oy Qz=some r->Ar Z N f179 (Od r) [1,1,1,1,1,0,1,0] n2 (Dx aC kO Oy (Qz.map aU.c)):=by
 intro n
 induction n with
 |zero=>intro Oy Qz h;simp[mR]at h
 |succ n2 ih2=>
  intro Oy Qz h;rw[mR]at h;refine aT fun N2 uX qp=>?_
  obtain⟨h65,h⟩|⟨h65,h⟩:=aK h
  ·obtain⟨x72,h73,x74,h75,y76,h77,h⟩:=gW h;obtain⟨h78,h⟩:=bf h;exact((((((((aY.b h65).a [.n2 [0,1,2,3,4,5,6,7,8,9,10,11,12,13] [0,1,2,3,4,5,6,7,8,9,10,11,12,13] 11 12 [0] [3]]).i (fH jM 1 h73)).o 1 1 .uq (cL jM (dl h73))).l (dW Node.c 8 h75 rfl)).g (mV h77)).w (cA h78)).a [.cn [2,5,7,8] [0,1,5]]).cs hZ qp (Dx aC kO (IntKind.i64.wrap (Oy-1)) ((Qz.map aU.c)++([[aB y76.kind,aZ y76.pat.rel,bX (y76.pat.args.map tx),aZ y76.left,aZ y76.right]]))) (by simp only[mA]<;>rfl) (ih2 (IntKind.i64.wrap (Oy-1)) (Qz++([y76])) h)
  ·exact((aY.b h65).a [.hl 0 [7] [2]]).ex hZ uX (zc Qz h)
theorem xw{aC:aH}{aa:Int}{r:ay}(h:xV aC aa=some r):Good prog 179 [bw (aH.c aC),aB aa] (cV 71 5 (r.map aU.c)):=by
 refine gd func179 [[some (71,5)]] 57 fun hr Z hZ=>?_
 rw[xV]at h;obtain⟨h1,h⟩|⟨h1,h⟩:=aK h
 ·cases h;exact((aY.r 6 h1).T 1).ret hZ
 ·have uc:=(aY.r 6 h1)
  obtain⟨h2,h⟩|⟨h2,h⟩:=aK h
  ·cases h;exact(uc.b h2).ret hZ
  ·refine((uc.b h2).a [.L5 5,.cn [1,2,5] [0,1]]).lp hZ (LW hZ (fun kO h=>?_) fuel aa ([]:bM) h);refine(aY.a [.L5 7,.cn [2,5,7,8] [0,1,2]]).lp hZ (LX hZ (fun Ov h=>?_) fuel (IntKind.i64.wrap (((kO.map jM).length:Int)-1)) ([]:ay) h);obtain rfl:=aM h;exact aY.ret hZ
def xU(aC:aU):Option Bool:=((tO aC).bind fun y1=>(bif y1 then(some (decide ((aC.kind:Int)>=3)))else(some false)))
theorem C4{aC:aU}{r:Bool}(h:xU aC=some r):Good prog 240 [bw (aU.c aC)] (bO r):=by
 refine gd func240 bZ 10 fun hr Z hZ=>?_
 rw[xU]at h;obtain⟨y1,h2,h⟩:=aG h;obtain⟨h3,h⟩|⟨h3,h⟩:=aK h
 ·cases h;exact((aY.g (rV h2)).r 4 h3).ret hZ
 ·obtain rfl:=aM h;exact((aY.g (rV h2)).r 4 h3).ret hZ
def uA(aC:aU)(aa:aP):Option Bool:=((xU aC).bind fun y1=>(bif !(y1)then(some false)else((mQ aa).bind fun y4=>(bif !(y4)then(some false)else((pU aa aC.left).bind fun y7=>((pU aa aC.right).bind fun y9=>(bif !(y7.2)then(some false)else(bif !(y9.2)then(some false)else(bif (aC.kind:Int)==3 then(some ((y7.1:Bytes)==y9.1))else(bif (aC.kind:Int)==4 then(some (!((y7.1:Bytes)==y9.1)))else((oB y7.1).bind fun yL=>((oB y9.1).bind fun Ce=>(bif yL.2 then(bif Ce.2 then(some (decide ((yL.1:Int)<Ce.1)))else(some false))else(some false))))))))))))))
theorem Fu{aC:aU}{aa:aP}{r:Bool}(h:uA aC aa=some r):Good prog 230 [bw (aU.c aC),bX (aa.map aX.c)] (bO r):=by
 refine gd func230 bZ 70 fun hr Z hZ=>?_
 rw[uA]at h;obtain⟨y1,h2,h⟩:=aG h;obtain⟨h3,h⟩|⟨h3,h⟩:=aK h
 ·obtain rfl:=aM h;exact(((aY.g (C4 h2)).r 4 h3).T 1).ret hZ
 ·obtain⟨y4,h5,h⟩:=aG h;have lB:=((((aY.g (C4 h2)).r 2 h3).g (oQ h5)).r 2 h3)
  obtain⟨h6,h⟩|⟨h6,h⟩:=aK h
  ·obtain rfl:=aM h;exact(lB.b h6).ret hZ
  ·obtain⟨y7,h8,y9,h10,h⟩:=bR h;have fF:=(((lB.b h6).g (th h8)).g (th h10))
   obtain⟨h11,h⟩|⟨h11,h⟩:=aK h
   ·obtain rfl:=aM h;exact((fF.r 3 h11).T 1).ret hZ
   ·have jQ:=(fF.r 3 h11)
    obtain⟨h12,h⟩|⟨h12,h⟩:=aK h
    ·obtain rfl:=aM h;exact(jQ.b h12).ret hZ
    ·obtain⟨h13,h⟩|⟨h13,h⟩:=aK h
     ·cases h;exact((jQ.b h12).b h13).ret hZ
     ·have jz:=((jQ.b h12).b h13)
      obtain⟨h14,h⟩|⟨h14,h⟩:=aK h
      ·cases h;exact(jz.b h14).ret hZ
      ·obtain⟨yL,h16,Ce,h18,h⟩:=bR h;have uc:=(((jz.b h14).g (sX h16)).g (sX h18))
       obtain⟨h19,h⟩|⟨h19,h⟩:=aK h
       ·have xf:=(uc.r 2 h19)
        obtain⟨h20,h⟩|⟨h20,h⟩:=aK h
        ·cases h;exact(xf.r 4 h20).ret hZ
        ·obtain rfl:=aM h;exact(xf.r 4 h20).ret hZ
       ·obtain rfl:=aM h;exact((uc.r 2 h19).F 4).ret hZ
def u9(aC:aU)(aa:aP)(cv:aJ):Option Bool:=((tO aC).bind fun y1=>(bif !(y1)then(some false)else((mQ aa).bind fun y4=>(bif !(y4)then(some false)else(bif (aC.kind:Int)==1 then((jU aC.pat aa cv).bind fun y8=>(some (decide ((((y8.map aD.c).length:Int):Int)>0))))else(bif (aC.kind:Int)==2 then((jU aC.pat aa cv).bind fun yb=>(some ((((yb.map aD.c).length:Int):Int)==0)))else((uA aC aa).bind fun xN=>(some xN))))))))
theorem Ft{aC:aU}{aa:aP}{cv:aJ}{r:Bool}(h:u9 aC aa cv=some r):Good prog 215 [bw (aU.c aC),bX (aa.map aX.c),bX (cv.map aD.c)] (bO r):=by
 refine gd func215 bZ 38 fun hr Z hZ=>?_
 rw[u9]at h;obtain⟨y1,h2,h⟩:=aG h;obtain⟨h3,h⟩|⟨h3,h⟩:=aK h
 ·obtain rfl:=aM h;exact(((aY.g (rV h2)).r 4 h3).T 1).ret hZ
 ·obtain⟨y4,h5,h⟩:=aG h;have lB:=((((aY.g (rV h2)).r 2 h3).g (oQ h5)).r 2 h3)
  obtain⟨h6,h⟩|⟨h6,h⟩:=aK h
  ·obtain rfl:=aM h;exact(lB.b h6).ret hZ
  ·obtain⟨h7,h⟩|⟨h7,h⟩:=aK h
   ·obtain⟨y8,h9,h⟩:=aG h;cases h;exact(((lB.b h6).b h7).g (oN h9)).ret hZ
   ·have fF:=((lB.b h6).b h7)
    obtain⟨h10,h⟩|⟨h10,h⟩:=aK h
    ·obtain⟨yb,h12,h⟩:=aG h;cases h;exact((fF.b h10).g (oN h12)).ret hZ
    ·obtain⟨xN,h14,h⟩:=aG h;obtain rfl:=aM h;exact((fF.b h10).g (Fu h14)).ret hZ
def mC(aC:ay)(aa:aJ)(i2:Nat)(bY:ar)(jL:aV)(i1:Nat)(bg:aU)(k3:ar->Option ar):aJ->Nat->ar->Option ar
 | [],i3,B5=>(k3 B5)
 |OZ::Kz,i3,B5=>((kD bg.pat OZ jL.bind).bind fun SL=>(bif SL.2 then((cm jL.facts).bind fun SM=>((er OZ).bind fun Mr=>(bif room ((SM.map aD.c).length+([[aZ Mr.rel,bX (Mr.args.map tx)]]).length) 40 then(bif room ((B5.map aV.c).length+([[bX ((SM.map aD.c)++([[aZ Mr.rel,bX (Mr.args.map tx)]])),bX (SL.1.map aX.c)]]).length) 48 then(mC aC aa i2 bY jL i1 bg k3 Kz (i3+1) (B5++([(⟨SM++([Mr]),SL.1⟩:aV)])))else none)else none)))else(mC aC aa i2 bY jL i1 bg k3 Kz (i3+1) B5)))
def gS(aC:ay)(aa:aJ)(bY:ar)(i1:Nat)(bg:aU)(k2:ar->Option ar):ar->Nat->ar->Option ar
 | [],i2,fI=>(k2 fI)
 |jL::tK,i2,fI=>(bif (bg.kind:Int) != 1 then((u9 bg jL.bind aa).bind fun a7l=>(bif a7l then(bif room ((fI.map aV.c).length+([[bX (jL.facts.map aD.c),bX (jL.bind.map aX.c)]]).length) 48 then(gS aC aa bY i1 bg k2 tK (i2+1) (fI++([jL])))else none)else(gS aC aa bY i1 bg k2 tK (i2+1) fI)))else(bif decide (aa.length<=maxLen)then(mC aC aa i2 bY jL i1 bg (fun(Zf:ar)=>(gS aC aa bY i1 bg k2 tK (i2+1) Zf)) aa 0 fI)else none))
def mB(aC:ay)(aa:aJ)(k1:ar->Option ar):ay->Nat->ar->Option ar
 | [],i1,bY=>(k1 bY)
 |bg::cj,i1,bY=>(bif decide (bY.length<=maxLen)then(gS aC aa bY i1 bg (fun(Ov:ar)=>(mB aC aa k1 cj (i1+1) Ov)) bY 0 ([]:ar))else none)
def vI(aC:ay)(aa:aJ):Option ar:=(mB aC aa (fun(cM:ar)=>(some cM)) aC 0 ([(⟨[],[]⟩:aV)]))
def C9(aC:ay)(aa:aJ)(W0:List aR)(dL:Int):St:=⟨[(1,bX (aa.map aD.c)),(5,b9 0),(17,bX (aC.map aU.c)),(18,aB ((aC.map aU.c).length:Int)),(19,aB dL)],[af 77 2 W0]⟩
def CA(aC:ay)(aa:aJ)(bY:ar)(i1:Nat)(bg:aU)(W0:List aR)(aFx:Nat)(dL:Int):St:=⟨[(1,bX (aa.map aD.c)),(7,bp 0 0),(8,b9 1),(17,bX (aC.map aU.c)),(18,aB ((aC.map aU.c).length:Int)),(19,aB (i1:Int)),(23,b9 2),(24,aB ((bY.map aV.c).length:Int)),(25,aB dL)],[bu [aB bg.kind,aZ bg.pat.rel,bX (bg.pat.args.map tx),aZ bg.left,aZ bg.right],af 77 2 W0,Ob.row (.mv aFx) 77 2 (bY.map aV.c)]⟩
def CB(aC:ay)(aa:aJ)(i2:Nat)(bY:ar)(jL:aV)(i1:Nat)(bg:aU)(W0:List aR)(dL:Int):St:=⟨[(1,bX (aa.map aD.c)),(7,bp 0 0),(8,b9 1),(10,bp 2 0),(17,bX (aC.map aU.c)),(18,aB ((aC.map aU.c).length:Int)),(19,aB (i1:Int)),(23,b9 3),(24,aB ((bY.map aV.c).length:Int)),(25,aB (i2:Int)),(41,bX (aa.map aD.c)),(42,aB ((aa.map aD.c).length:Int)),(43,aB dL)],[bu [aB bg.kind,aZ bg.pat.rel,bX (bg.pat.args.map tx),aZ bg.left,aZ bg.right],af 77 2 W0,bu [b9 4,b9 5],Ob.row (.mv (i2+1)) 77 2 (bY.map aV.c),Ob.tk (jL.facts.map aD.c),Ob.tk (jL.bind.map aX.c)]⟩
theorem Iy(hZ:Z.nt=74){aC:ay}{aa:aJ}{i2:Nat}{bY:ar}{jL:aV}{i1:Nat}{bg:aU}{r:ar}{k3:ar->Option ar}(Z3:∀(Zf:ar),k3 Zf=some r->Ax Z N f175 (B9 r) [1,1,0,1,0,0,1,1,0,0,1,1,0,1,0,0,1,1,1] ⟨[(1,bX (aa.map aD.c)),(7,bp 0 0),(8,b9 1),(17,bX (aC.map aU.c)),(18,aB ((aC.map aU.c).length:Int)),(19,aB (i1:Int)),(23,b9 2),(24,aB ((bY.map aV.c).length:Int)),(25,aB (i2:Int))],[bu [aB bg.kind,aZ bg.pat.rel,bX (bg.pat.args.map tx),aZ bg.left,aZ bg.right],af 77 2 (Zf.map aV.c),Ob.row (.mv (i2+1)) 77 2 (bY.map aV.c)]⟩)(On:aa.length<=maxLen):∀(rest:aJ) (i3:Nat) (B5:ar),aa.drop i3=rest->mC aC aa i2 bY jL i1 bg k3 rest i3 B5=some r->Ar Z N f175 (B9 r) [1,1,0,1,0,0,1,1,0,0,1,1,0,1,0,0,1,1,0,0,1,1,1,0] (rest.length+1) (CB aC aa i2 bY jL i1 bg (B5.map aV.c) (i3:Int)):=by
 intro rest
 induction rest with
 |nil=>
  intro i3 B5 uU h;rw[mC]at h;refine aT fun N3 Rr Kn=>?_
  exact((aY.ge aD.c uU).a [.hl 8 [1,7,8,17,18,19,23,24,25] [0,1,3]]).ex hZ Rr (Z3 B5 h)
 |cons OZ Kz ih3=>
  intro i3 B5 uU h;rw[mC]at h;refine aT fun N3 Rr Kn=>?_
  obtain⟨SL,h3513,h⟩:=aG h;have a2M:=(((aY.lt aD.c uU).l (bK aD.c 2 (dc uU) rfl)).g (rz h3513))
  obtain⟨h3514,h⟩|⟨h3514,h⟩:=aK h
  ·obtain⟨SM,h3521,Mr,h3523,h⟩:=bR h;obtain⟨h3524,h⟩:=bf h;obtain⟨h3525,h⟩:=bf h;exact(((((((a2M.b h3514).a [.n2 [0,1,2,3,4,5,8,6,7,9,10,11,12] [0,1,2,3,4,5,7,8,6,9,10,11,12] 7 11 [0,6] [7,8,9,10,11]]).g (cu h3521)).g (iR h3523)).w (cA h3524)).w (cA h3525)).a [.cn [1,7,8,10,17,18,19,23,24,25,41,42,43] [0,13,2,3,4,5]]).cs hZ Kn (CB aC aa i2 bY jL i1 bg ((B5.map aV.c)++([[bX ((SM.map aD.c)++([[aZ Mr.rel,bX (Mr.args.map tx)]])),bX (SL.1.map aX.c)]])) (IntKind.i64.wrap ((i3:Int)+1))) (by first| (simp only[iS uU On,mA]<;>rfl)| (simp only[iS uU On,mA,aD.c,aX.c,aU.c,Action.c,aO.c,aV.c,aq.c,ai.c,Node.c,aH.c,XL.c]<;>rfl)) (ih3 (i3+1) (B5++([(⟨SM++([Mr]),SL.1⟩:aV)])) (dn uU) h)
  ·exact((a2M.b h3514).a [.cn [1,7,8,10,17,18,19,23,24,25,41,42,43] [0,1,2,3,4,5]]).ct hZ Kn (iS uU On) (ih3 (i3+1) B5 (dn uU) h)
theorem Ix(hZ:Z.nt=74){aC:ay}{aa:aJ}{bY:ar}{i1:Nat}{bg:aU}{r:ar}{k2:ar->Option ar}(zc:∀(Ov:ar),k2 Ov=some r->Ax Z N f175 (B9 r) [1,1,0,1,0,0,1,1,0,0,1,1,1] ⟨[(1,bX (aa.map aD.c)),(8,b9 0),(17,bX (aC.map aU.c)),(18,aB ((aC.map aU.c).length:Int)),(19,aB (i1:Int))],[af 77 2 (Ov.map aV.c)]⟩)(hm2:bY.length<=maxLen):∀(rest:ar) (i2:Nat) (fI:ar),bY.drop i2=rest->gS aC aa bY i1 bg k2 rest i2 fI=some r->Ar Z N f175 (B9 r) [1,1,0,1,0,0,1,1,0,0,1,1,0,1,0] (rest.length+1) (CA aC aa bY i1 bg (fI.map aV.c) i2 (i2:Int)):=by
 intro rest
 induction rest with
 |nil=>
  intro i2 fI hd2 h;rw[gS]at h;refine aT fun N2 uX qp=>?_
  exact((aY.ge aV.c hd2).a [.hl 5 [1,8,17,18,19] [1]]).ex hZ uX (zc fI h)
 |cons jL tK ih2=>
  intro i2 fI hd2 h;rw[gS]at h;refine aT fun N2 uX qp=>?_
  have a2N:=((((aY.lt aV.c hd2).i (fG aV.c 2 (dc hd2))).w (show i2=i2/\(bY.map aV.c)[i2]?=some [bX (jL.facts.map aD.c),bX (jL.bind.map aX.c)]/\Tk [bX (jL.facts.map aD.c),bX (jL.bind.map aX.c)]=true from⟨rfl,cL aV.c (dc hd2),rfl⟩)).a [.tk [bX (jL.facts.map aD.c),bX (jL.bind.map aX.c)]])
  obtain⟨h3426,h⟩|⟨h3426,h⟩:=aK h
  ·obtain⟨a7l,h3428,h⟩:=aG h;have a2O:=((a2N.b h3426).g (Ft h3428))
   obtain⟨h3429,h⟩|⟨h3429,h⟩:=aK h
   ·obtain⟨h3430,h⟩:=bf h;exact(((a2O.b h3429).w (cA h3430)).a [.cn [1,7,8,17,18,19,23,24,25] [0,7,2]]).cs hZ qp (CA aC aa bY i1 bg ((fI.map aV.c)++([[bX (jL.facts.map aD.c),bX (jL.bind.map aX.c)]])) (i2+1) (IntKind.i64.wrap ((i2:Int)+1))) (by simp only[iS hd2 hm2,mA]<;>rfl) (ih2 (i2+1) (fI++([jL])) (dn hd2) h)
   ·exact((a2O.b h3429).a [.cn [1,7,8,17,18,19,23,24,25] [0,1,2]]).ct hZ qp (iS hd2 hm2) (ih2 (i2+1) fI (dn hd2) h)
  ·obtain⟨h3526,h⟩:=bf h;refine((a2N.b h3426).a [.cn [1,7,8,10,17,18,19,23,24,25,41,42,43] [0,1,5,2,3,4]]).lp hZ (Iy hZ (fun Zf h=>?_) (bh h3526) aa 0 fI rfl h);exact(aY.a [.cn [1,7,8,17,18,19,23,24,25] [0,1,2]]).ct hZ qp (iS hd2 hm2) (ih2 (i2+1) Zf (dn hd2) h)
theorem Iw(hZ:Z.nt=74){aC:ay}{aa:aJ}{r:ar}{k1:ar->Option ar}(eA:∀(cM:ar),k1 cM=some r->Ax Z N f175 (B9 r) [1,1,1] ⟨[(5,b9 0)],[af 77 2 (cM.map aV.c)]⟩)(hm1:aC.length<=maxLen):∀(rest:ay) (i1:Nat) (bY:ar),aC.drop i1=rest->mB aC aa k1 rest i1 bY=some r->Ar Z N f175 (B9 r) [1,1,0,1,0] (rest.length+1) (C9 aC aa (bY.map aV.c) (i1:Int)):=by
 intro rest
 induction rest with
 |nil=>
  intro i1 bY bD h;rw[mB]at h;refine aT fun N1 cq cS=>?_
  exact((aY.ge aU.c bD).a [.hl 0 [5] [0]]).ex hZ cq (eA bY h)
 |cons bg cj ih1=>
  intro i1 bY bD h;rw[mB]at h;refine aT fun N1 cq cS=>?_
  obtain⟨h3527,h⟩:=bf h;refine(((aY.lt aU.c bD).l (bK aU.c 5 (dc bD) rfl)).a [.L5 8,.mz 0,.cn [1,7,8,17,18,19,23,24,25] [1,2,0]]).lp hZ (Ix hZ (fun Ov h=>?_) (bh h3527) bY 0 ([]:ar) rfl h);exact(aY.a [.cn [1,5,17,18,19] [0]]).ct hZ cS (iS bD hm1) (ih1 (i1+1) Ov (dn bD) h)
theorem HK{aC:ay}{aa:aJ}{r:ar}(h:vI aC aa=some r):Good prog 175 [bX (aC.map aU.c),bX (aa.map aD.c)] (cV 77 2 (r.map aV.c)):=by
 refine gd func175 [[some (77,2)]] 74 fun hr Z hZ=>?_
 rw[vI]at h;refine(aY.a [.cn [1,5,17,18,19] [0]]).lps hZ (C9 aC aa ([[bX ([]),bX ([])]]) 0) (by simp only[mA]<;>rfl) (Iw hZ (fun cM h=>?_) (by have:=(gX.sl (hr _ (aE (i:=0) rfl))).1;simpa using this) aC 0 ([(⟨[],[]⟩:aV)]) rfl h);obtain rfl:=aM h;exact aY.ret hZ
def gB(aC:aH)(aa:aJ)(y1:aJ)(k1:bQ->Option (aH×Unit)):bQ->Nat->bQ->Option (aH×Unit)
 | [],i1,dh=>(k1 dh)
 |bg::cj,i1,dh=>(bif decide (i1<(dh.map ai.c).length)then(((dh)[i1]?).bind fun x35=>((jU x35.shape ([]) aa).bind fun PR=>(bif decide (i1<(dh.map ai.c).length)then(gB aC aa y1 k1 cj (i1+1) (dh.set i1 (⟨x35.shape,PR⟩:ai)))else none)))else none)
def fB(aC:aH)(aa:aJ)(y1:aJ)(eN:bQ)(k2:Option (aH×Unit)):bN->Nat->bN->Option (aH×Unit)
 | [],i2,lX=>(some ((⟨aC.rules,aC.ends,eN,lX,y1,aC.cP⟩:aH),()))
 |jL::tK,i2,lX=>((xV (⟨aC.rules,aC.ends,eN,lX,y1,aC.cP⟩:aH) (i2:Int)).bind fun Oz=>((vI Oz aa).bind fun X7=>(bif decide (i2<(lX.map Node.c).length)then(((lX)[i2]?).bind fun x107=>(fB aC aa y1 eN k2 tK (i2+1) (lX.set i2 (⟨x107.parent,x107.cond,x107.cX,X7⟩:Node))))else none)))
def k9(aC:aH)(aa:aJ):Option (aH×Unit):=((cm aa).bind fun y1=>(bif decide (aC.bG.length<=maxLen)then(gB aC aa y1 (fun(eN:bQ)=>(bif decide (aC.nodes.length<=maxLen)then(fB aC aa y1 eN none aC.nodes 0 aC.nodes)else none)) aC.bG 0 aC.bG)else none))
def x7(jB:Value)(aC:aH)(aa:aJ)(y1:aJ)(W0:List aR)(dL:Int):St:=⟨[(0,bp 0 0),(1,bX (aa.map aD.c)),(15,aB ((aC.bG.map ai.c).length:Int)),(16,aB dL)],[Ob.CW [b9 1,b9 2,b9 3,b9 4,b9 5,aB aC.cP] jB,af 63 4 (aC.rules.map aO.c),af 3 1 (aC.ends.map jM),af 83 3 W0,af 74 8 (aC.nodes.map Node.c),af 43 2 (y1.map aD.c)]⟩
theorem C1(hZ:Z.nt=60){jB:Value}{aC:aH}{aa:aJ}{y1:aJ}{r:aH×Unit}{k1:bQ->Option (aH×Unit)}(eA:∀(eN:bQ),k1 eN=some r->Ax Z N f107 (.p zo jB (cN r.1) (D.iw [])) [1,1] ⟨[(0,bp 0 0),(1,bX (aa.map aD.c))],[Ob.CW [b9 1,b9 2,b9 3,b9 4,b9 5,aB aC.cP] jB,af 63 4 (aC.rules.map aO.c),af 3 1 (aC.ends.map jM),af 83 3 (eN.map ai.c),af 74 8 (aC.nodes.map Node.c),af 43 2 (y1.map aD.c)]⟩)(hm1:aC.bG.length<=maxLen):∀(rest:bQ) (i1:Nat) (dh:bQ),aC.bG.drop i1=rest->gB aC aa y1 k1 rest i1 dh=some r->Ar Z N f107 (.p zo jB (cN r.1) (D.iw [])) [1,0,1,0] (rest.length+1) (x7 jB aC aa y1 (dh.map ai.c) (i1:Int)):=by
 intro rest
 induction rest with
 |nil=>
  intro i1 dh bD h;rw[gB]at h;refine aT fun N1 cq cS=>?_
  exact((aY.ge ai.c bD).a [.hl 0 [0,1] [0,1,2,3,4,5]]).ex hZ cq (eA dh h)
 |cons bg cj ih1=>
  intro i1 dh bD h;rw[gB]at h;refine aT fun N1 cq cS=>?_
  obtain⟨h34,h⟩:=bf h;obtain⟨x35,h36,PR,h38,h⟩:=bR h;obtain⟨h39,h⟩:=bf h;exact(((((((((aY.lt ai.c bD).a [.n 15]).i (Wd 3 h34)).o 3 2 .uq (cL ai.c h36)).a [.d (cV 43 2 (PR.map aD.c))]).w (show Good prog 178 [bw (aD.c x35.shape),bX ([]),bX (aa.map aD.c)] (cV 43 2 (PR.map aD.c))from by first| (simpa only[bI,bA,cF,cD,cI]using oN h38)|exact oN h38)).i (Wd 3 h39)).w (show(dh.map ai.c)[i1]?=some [aZ x35.shape.rel,bX (x35.shape.args.map tx),bX (x35.facts.map aD.c)]from cL ai.c h36)).a [.row [aZ x35.shape.rel,bX (x35.shape.args.map tx),bX (x35.facts.map aD.c)],.cn [0,1,15,16] [0,1,2,3,4,5]]).cs hZ cS (x7 jB aC aa y1 ((dh.map ai.c).set i1 [aZ x35.shape.rel,bX (x35.shape.args.map tx),bX (PR.map aD.c)]) (IntKind.i64.wrap ((i1:Int)+1))) (by simp only[iS bD hm1,mA]<;>rfl) (ih1 (i1+1) (dh.set i1 (⟨x35.shape,PR⟩:ai)) (dn bD) h)
def xA(jB:Value)(aC:aH)(aa:aJ)(y1:aJ)(eN:bQ)(W0:List aR)(dL:Int):St:=⟨[(0,bp 0 0),(1,bX (aa.map aD.c)),(41,aB ((aC.nodes.map Node.c).length:Int)),(42,aB dL)],[Ob.CW [b9 1,b9 2,b9 3,b9 4,b9 5,aB aC.cP] jB,af 63 4 (aC.rules.map aO.c),af 3 1 (aC.ends.map jM),af 83 3 (eN.map ai.c),af 74 8 W0,af 43 2 (y1.map aD.c)]⟩
theorem C2(hZ:Z.nt=60){jB:Value}{aC:aH}{aa:aJ}{y1:aJ}{eN:bQ}{r:aH×Unit}{k2:Option (aH×Unit)}(zc:k2=some r->Ax Z N f107 (.p zo jB (cN r.1) (D.iw [])) [1,1,1,0,0] ⟨[],[]⟩)(hm2:aC.nodes.length<=maxLen):∀(rest:bN) (i2:Nat) (lX:bN),aC.nodes.drop i2=rest->fB aC aa y1 eN k2 rest i2 lX=some r->Ar Z N f107 (.p zo jB (cN r.1) (D.iw [])) [1,1,1,0] (rest.length+1) (xA jB aC aa y1 eN (lX.map Node.c) (i2:Int)):=by
 intro rest
 induction rest with
 |nil=>
  intro i2 lX hd2 h;rw[fB]at h;refine aT fun N2 uX qp=>?_
  cases h;exact(aY.ge Node.c hd2).ret hZ
 |cons jL tK ih2=>
  intro i2 lX hd2 h;rw[fB]at h;refine aT fun N2 uX qp=>?_
  obtain⟨Oz,h103,X7,h105,h⟩:=bR h;obtain⟨h106,h⟩:=bf h;obtain⟨x107,h108,h⟩:=aG h;exact(((((((aY.lt Node.c hd2).a [.n2 [0,1,2,3,4,5,6,7,8,9,10,11,12,13,14] [0,1,2,3,4,5,6,7,8,9,10,11,12,13,14] 11 12 [0,1,2,3,4] [],.d (cV 71 5 (Oz.map aU.c))]).w (show Good prog 179 [bw [bX (aC.rules.map aO.c),bX (aC.ends.map jM),bX (eN.map ai.c),bX (lX.map Node.c),bX (y1.map aD.c),aB aC.cP],aB (i2:Int)] (cV 71 5 (Oz.map aU.c))from by first| (simpa only[bI,bA,cF,cD,cI]using xw h103)|exact xw h103| (have t:=xw h103;simp only[bI,cD,cI,aH.c]at t;exact t))).g (HK h105)).i (Wd 8 h106)).w (show(lX.map Node.c)[i2]?=some [aB x107.parent,aB x107.cond.kind,aZ x107.cond.pat.rel,bX (x107.cond.pat.args.map tx),aZ x107.cond.left,aZ x107.cond.right,aB x107.cX,bX (x107.tokens.map aV.c)]from cL Node.c h108)).a [.row [aB x107.parent,aB x107.cond.kind,aZ x107.cond.pat.rel,bX (x107.cond.pat.args.map tx),aZ x107.cond.left,aZ x107.cond.right,aB x107.cX,bX (x107.tokens.map aV.c)],.cn [0,1,41,42] [0,1,2,3,4,5]]).cs hZ qp (xA jB aC aa y1 eN ((lX.map Node.c).set i2 [aB x107.parent,aB x107.cond.kind,aZ x107.cond.pat.rel,bX (x107.cond.pat.args.map tx),aZ x107.cond.left,aZ x107.cond.right,aB x107.cX,bX (X7.map aV.c)]) (IntKind.i64.wrap ((i2:Int)+1))) (by simp only[iS hd2 hm2,mA]<;>rfl) (ih2 (i2+1) (lX.set i2 (⟨x107.parent,x107.cond,x107.cX,X7⟩:Node)) (dn hd2) h)
theorem vr{aC:aH}{aa:aJ}{r:aH×Unit}(h:k9 aC aa=some r):iz prog 107 (cN aC) (cN r.1) [bX (aa.map aD.c)] (D.iw []):=by
 refine L4 func107 zo 60 [b9 1,b9 2,b9 3,b9 4,b9 5,aB aC.cP] [bX (aa.map aD.c)] [af 63 4 (aC.rules.map aO.c),af 3 1 (aC.ends.map jM),af 83 3 (aC.bG.map ai.c),af 74 8 (aC.nodes.map Node.c),af 43 2 (aC.facts.map aD.c)] fun hr jB Z hZ=>?_
 rw[k9]at h;obtain⟨y1,h2,h⟩:=aG h;obtain⟨h110,h⟩:=bf h;refine((aY.g (cu h2)).a [.cn [0,1,15,16] [0,1,2,3,4,6]]).lp hZ (C1 hZ (fun eN h=>?_) (bh h110) aC.bG 0 aC.bG rfl h);obtain⟨h109,h⟩:=bf h;refine(aY.a [.cn [0,1,41,42] [0,1,2,3,4,5]]).lp hZ (C2 hZ (fun h=>?_) (bh h109) aC.nodes 0 aC.nodes rfl h);cases h
def yy(aC:az)(aa:aJ)(cv:Int):Option aH:=((uL aC).bind fun y1=>((k9 y1 aa).bind fun y3=>(some (⟨y3.1.rules,y3.1.ends,y3.1.bG,y3.1.nodes,y3.1.facts,cv⟩:aH))))
theorem LZ{aC:az}{aa:aJ}{cv:Int}{r:aH}(h:yy aC aa cv=some r):Good prog 53 [bX (aC.map aO.c),bX (aa.map aD.c),aB cv] (bw [cV 63 4 (r.rules.map aO.c),cV 3 1 (r.ends.map jM),cV 83 3 (r.bG.map ai.c),cV 74 8 (r.nodes.map Node.c),cV 43 2 (r.facts.map aD.c),aB r.cP]):=by
 refine gd func53 zo 15 fun hr Z hZ=>?_
 rw[yy]at h;obtain⟨y1,h2,y3,h4,h⟩:=bR h;cases h;exact((aY.g (G9 h2)).hp sI (vr h4)).ret hZ
def lm(aC:aO)(aa:aO)(k1:Option Bool):ay->Nat->Option Bool
 | [],i1=>(k1)
 |bg::cj,i1=>((fy aa.conds (i1:Int)).bind fun x33=>((lS bg x33).bind fun Fj=>(bif !(Fj)then(some false)else(lm aC aa k1 cj (i1+1)))))
def jV(aC:aO)(aa:aO)(k2:Option Bool):fA->Nat->Option Bool
 | [],i2=>(k2)
 |jL::tK,i2=>((fy aa.dD (i2:Int)).bind fun x70=>(bif (jL.kind:Int) != x70.kind then(some false)else((gR jL.pat x70.pat).bind fun Ci=>(bif !(Ci)then(some false)else(jV aC aa k2 tK (i2+1))))))
def sK(aC:aO)(aa:aO):Option Bool:=(bif !((aC.name:Bytes)==aa.name)then(some false)else(bif (aC.prio:Int) != aa.prio then(some false)else(bif (((aC.conds.map aU.c).length:Int):Int) != ((aa.conds.map aU.c).length:Int)then(some false)else(bif (((aC.dD.map Action.c).length:Int):Int) != ((aa.dD.map Action.c).length:Int)then(some false)else(lm aC aa (jV aC aa (some true) aC.dD 0) aC.conds 0)))))
def K4(aC:aO)(aa:aO)(dL:Int):St:=⟨[(2,bp 0 0),(3,bp 1 0),(39,aB ((aC.conds.map aU.c).length:Int)),(40,aB dL)],[bu (aO.c aC),bu (aO.c aa)]⟩
theorem Ij(hZ:Z.nt=92){aC:aO}{aa:aO}{r:Bool}{k1:Option Bool}(eA:k1=some r->Ax Z N f108 (.q bZ (bO r)) [1,1,1] ⟨[(2,bp 0 0),(3,bp 1 0)],[bu (aO.c aC),bu (aO.c aa)]⟩)(hm1:aC.conds.length<=maxLen):∀(rest:ay) (i1:Nat),aC.conds.drop i1=rest->lm aC aa k1 rest i1=some r->Ar Z N f108 (.q bZ (bO r)) [1,1,0,1,0] (rest.length+1) (K4 aC aa (i1:Int)):=by
 intro rest
 induction rest with
 |nil=>
  intro i1 bD h;rw[lm]at h;refine aT fun N1 cq cS=>?_
  exact((aY.ge aU.c bD).a [.hl 0 [2,3] [0,1]]).ex hZ cq (eA h)
 |cons bg cj ih1=>
  intro i1 bD h;rw[lm]at h;refine aT fun N1 cq cS=>?_
  obtain⟨x33,h34,Fj,h36,h⟩:=bR h;have jz:=(((((aY.lt aU.c bD).a [.n 10]).l (bK aU.c 5 (dc bD) rfl)).l (dW aU.c 5 h34 rfl)).g (wH h36))
  obtain⟨h37,h⟩|⟨h37,h⟩:=aK h
  ·obtain rfl:=aM h;exact(jz.b h37).ret hZ
  ·exact((jz.b h37).a [.cn [2,3,39,40] [0,1]]).ct hZ cS (iS bD hm1) (ih1 (i1+1) (dn bD) h)
def K5(aC:aO)(aa:aO)(dL:Int):St:=⟨[(2,bp 0 0),(3,bp 1 0),(58,aB ((aC.dD.map Action.c).length:Int)),(59,aB dL)],[bu (aO.c aC),bu (aO.c aa)]⟩
theorem Ik(hZ:Z.nt=92){aC:aO}{aa:aO}{r:Bool}{k2:Option Bool}(zc:k2=some r->Ax Z N f108 (.q bZ (bO r)) [1,1,1,1] ⟨[],[]⟩)(hm2:aC.dD.length<=maxLen):∀(rest:fA) (i2:Nat),aC.dD.drop i2=rest->jV aC aa k2 rest i2=some r->Ar Z N f108 (.q bZ (bO r)) [1,1,1,0,1,0] (rest.length+1) (K5 aC aa (i2:Int)):=by
 intro rest
 induction rest with
 |nil=>
  intro i2 hd2 h;rw[jV]at h;refine aT fun N2 uX qp=>?_
  exact((aY.ge Action.c hd2).a [.hl 0 [] []]).ex hZ uX (zc h)
 |cons jL tK ih2=>
  intro i2 hd2 h;rw[jV]at h;refine aT fun N2 uX qp=>?_
  obtain⟨x70,h71,h⟩:=aG h;have uc:=((((aY.lt Action.c hd2).a [.n 26]).l (bK Action.c 3 (dc hd2) rfl)).l (dW Action.c 3 h71 rfl))
  obtain⟨h72,h⟩|⟨h72,h⟩:=aK h
  ·obtain rfl:=aM h;exact((uc.r 15 h72).T 1).ret hZ
  ·obtain⟨Ci,h74,h⟩:=aG h;have xf:=(((((((uc.r 4 h72).l (bK Action.c 3 (dc hd2) rfl)).r 6 h72).l (dW Action.c 3 h71 rfl)).r 3 h72).g (qI h74)).r 2 h72)
   obtain⟨h75,h⟩|⟨h75,h⟩:=aK h
   ·obtain rfl:=aM h;exact(xf.b h75).ret hZ
   ·exact((xf.b h75).a [.cn [2,3,58,59] [0,1]]).ct hZ qp (iS hd2 hm2) (ih2 (i2+1) (dn hd2) h)
theorem Gz{aC:aO}{aa:aO}{r:Bool}(h:sK aC aa=some r):Good prog 108 [bw (aO.c aC),bw (aO.c aa)] (bO r):=by
 refine gd func108 bZ 92 fun hr Z hZ=>?_
 rw[sK]at h;obtain⟨h1,h⟩|⟨h1,h⟩:=aK h
 ·obtain rfl:=aM h;exact((aY.r 6 h1).T 17).ret hZ
 ·have Ak:=(aY.r 6 h1)
  obtain⟨h2,h⟩|⟨h2,h⟩:=aK h
  ·obtain rfl:=aM h;exact((Ak.r 8 h2).T 9).ret hZ
  ·have Fb:=(Ak.r 8 h2)
   obtain⟨h3,h⟩|⟨h3,h⟩:=aK h
   ·obtain rfl:=aM h;exact((Fb.r 8 h3).T 1).ret hZ
   ·have OO:=(Fb.r 8 h3)
    obtain⟨h4,h⟩|⟨h4,h⟩:=aK h
    ·obtain rfl:=aM h;exact(OO.b h4).ret hZ
    ·refine((OO.b h4).a [.cn [2,3,39,40] [0,1]]).lp hZ (Ij hZ (fun h=>?_) (by have:=(gX.sl (gX.agg (hr _ (aE (i:=0) rfl)) (.sl (aC.conds.map aU.c)) (by simp))).1;simpa using this) aC.conds 0 rfl h);refine(aY.a [.cn [2,3,58,59] [0,1]]).lp hZ (Ik hZ (fun h=>?_) (by have:=(gX.sl (gX.agg (hr _ (aE (i:=0) rfl)) (.sl (aC.dD.map Action.c)) (by simp))).1;simpa using this) aC.dD 0 rfl h);obtain rfl:=aM h;exact aY.ret hZ
def o5(aC:az)(aa:az)(k1:Option Bool):az->Nat->Option Bool
 | [],i1=>(k1)
 |bg::cj,i1=>((fy aa (i1:Int)).bind fun x30=>((sK bg x30).bind fun Js=>(bif !(Js)then(some false)else(o5 aC aa k1 cj (i1+1)))))
def uK(aC:az)(aa:az):Option Bool:=(bif (((aC.map aO.c).length:Int):Int) != ((aa.map aO.c).length:Int)then(some false)else(o5 aC aa (some true) aC 0))
def It(aC:az)(aa:az)(dL:Int):St:=⟨[(0,bX (aC.map aO.c)),(1,bX (aa.map aO.c)),(12,aB ((aC.map aO.c).length:Int)),(13,aB dL)],[]⟩
theorem HF(hZ:Z.nt=27){aC:az}{aa:az}{r:Bool}{k1:Option Bool}(eA:k1=some r->Ax Z N f54 (.q bZ (bO r)) [1,1,1] ⟨[],[]⟩)(hm1:aC.length<=maxLen):∀(rest:az) (i1:Nat),aC.drop i1=rest->o5 aC aa k1 rest i1=some r->Ar Z N f54 (.q bZ (bO r)) [1,1,0,1,0] (rest.length+1) (It aC aa (i1:Int)):=by
 intro rest
 induction rest with
 |nil=>
  intro i1 bD h;rw[o5]at h;refine aT fun N1 cq cS=>?_
  exact((aY.ge aO.c bD).a [.hl 0 [] []]).ex hZ cq (eA h)
 |cons bg cj ih1=>
  intro i1 bD h;rw[o5]at h;refine aT fun N1 cq cS=>?_
  obtain⟨x30,h31,Js,h33,h⟩:=bR h;have fF:=(((((aY.lt aO.c bD).a [.n 8]).l (bK aO.c 4 (dc bD) rfl)).l (dW aO.c 4 h31 rfl)).g (Gz h33))
  obtain⟨h34,h⟩|⟨h34,h⟩:=aK h
  ·obtain rfl:=aM h;exact(fF.b h34).ret hZ
  ·exact((fF.b h34).a [.cn [0,1,12,13] []]).ct hZ cS (iS bD hm1) (ih1 (i1+1) (dn bD) h)
theorem zZ{aC:az}{aa:az}{r:Bool}(h:uK aC aa=some r):Good prog 54 [bX (aC.map aO.c),bX (aa.map aO.c)] (bO r):=by
 refine gd func54 bZ 27 fun hr Z hZ=>?_
 rw[uK]at h;obtain⟨h1,h⟩|⟨h1,h⟩:=aK h
 ·obtain rfl:=aM h;exact(aY.b h1).ret hZ
 ·refine((aY.b h1).a [.cn [0,1,12,13] []]).lp hZ (HF hZ (fun h=>?_) (by have:=(gX.sl (hr _ (aE (i:=0) rfl))).1;simpa using this) aC 0 rfl h);obtain rfl:=aM h;exact aY.ret hZ
def oa(aC:bM)(aa:bM)(k1:Option Bool):bM->Nat->Option Bool
 | [],i1=>(k1)
 |bg::cj,i1=>((fy aa (i1:Int)).bind fun x22=>(bif (bg:Int) != x22 then(some false)else(oa aC aa k1 cj (i1+1))))
def vH(aC:bM)(aa:bM):Option Bool:=(bif (((aC.map jM).length:Int):Int) != ((aa.map jM).length:Int)then(some false)else(oa aC aa (some true) aC 0))
def KF(aC:bM)(aa:bM)(dL:Int):St:=⟨[(0,bX (aC.map jM)),(1,bX (aa.map jM)),(12,aB ((aC.map jM).length:Int)),(13,aB dL)],[]⟩
theorem Ir(hZ:Z.nt=26){aC:bM}{aa:bM}{r:Bool}{k1:Option Bool}(eA:k1=some r->Ax Z N f55 (.q bZ (bO r)) [1,1,1] ⟨[],[]⟩)(hm1:aC.length<=maxLen):∀(rest:bM) (i1:Nat),aC.drop i1=rest->oa aC aa k1 rest i1=some r->Ar Z N f55 (.q bZ (bO r)) [1,1,0,1,0] (rest.length+1) (KF aC aa (i1:Int)):=by
 intro rest
 induction rest with
 |nil=>
  intro i1 bD h;rw[oa]at h;refine aT fun N1 cq cS=>?_
  exact((aY.ge jM bD).a [.hl 0 [] []]).ex hZ cq (eA h)
 |cons bg cj ih1=>
  intro i1 bD h;rw[oa]at h;refine aT fun N1 cq cS=>?_
  obtain⟨x22,h23,h⟩:=aG h;have fF:=((((aY.lt jM bD).a [.n 8]).l (bK jM 1 (dc bD) rfl)).l (dW jM 1 h23 rfl))
  obtain⟨h24,h⟩|⟨h24,h⟩:=aK h
  ·obtain rfl:=aM h;exact(fF.b h24).ret hZ
  ·exact((fF.b h24).a [.cn [0,1,12,13] []]).ct hZ cS (iS bD hm1) (ih1 (i1+1) (dn bD) h)
theorem HD{aC:bM}{aa:bM}{r:Bool}(h:vH aC aa=some r):Good prog 55 [bX (aC.map jM),bX (aa.map jM)] (bO r):=by
 refine gd func55 bZ 26 fun hr Z hZ=>?_
 rw[vH]at h;obtain⟨h1,h⟩|⟨h1,h⟩:=aK h
 ·obtain rfl:=aM h;exact(aY.b h1).ret hZ
 ·refine((aY.b h1).a [.cn [0,1,12,13] []]).lp hZ (Ir hZ (fun h=>?_) (by have:=(gX.sl (hr _ (aE (i:=0) rfl))).1;simpa using this) aC 0 rfl h);obtain rfl:=aM h;exact aY.ret hZ
def qY(aC:aD)(aa:aD):Option Bool:=(bif (aC.rel:Bytes)==aa.rel then((rN aC.args aa.args).bind fun y2=>(some y2))else(some false))
theorem AR{aC:aD}{aa:aD}{r:Bool}(h:qY aC aa=some r):Good prog 109 [bw (aD.c aC),bw (aD.c aa)] (bO r):=by
 refine gd func109 bZ 17 fun hr Z hZ=>?_
 rw[qY]at h;obtain⟨h1,h⟩|⟨h1,h⟩:=aK h
 ·obtain⟨y2,h3,h⟩:=aG h;obtain rfl:=aM h;exact(((aY.r 5 h1).g (za h3)).b h1).ret hZ
 ·obtain rfl:=aM h;exact(aY.r 6 h1).ret hZ
def nv(aC:aJ)(aa:aJ)(k1:Option Bool):aJ->Nat->Option Bool
 | [],i1=>(k1)
 |bg::cj,i1=>((fy aa (i1:Int)).bind fun x30=>((qY bg x30).bind fun Js=>(bif !(Js)then(some false)else(nv aC aa k1 cj (i1+1)))))
def j6(aC:aJ)(aa:aJ):Option Bool:=(bif (((aC.map aD.c).length:Int):Int) != ((aa.map aD.c).length:Int)then(some false)else(nv aC aa (some true) aC 0))
def Ii(aC:aJ)(aa:aJ)(dL:Int):St:=⟨[(0,bX (aC.map aD.c)),(1,bX (aa.map aD.c)),(12,aB ((aC.map aD.c).length:Int)),(13,aB dL)],[]⟩
theorem Gy(hZ:Z.nt=27){aC:aJ}{aa:aJ}{r:Bool}{k1:Option Bool}(eA:k1=some r->Ax Z N f56 (.q bZ (bO r)) [1,1,1] ⟨[],[]⟩)(hm1:aC.length<=maxLen):∀(rest:aJ) (i1:Nat),aC.drop i1=rest->nv aC aa k1 rest i1=some r->Ar Z N f56 (.q bZ (bO r)) [1,1,0,1,0] (rest.length+1) (Ii aC aa (i1:Int)):=by
 intro rest
 induction rest with
 |nil=>
  intro i1 bD h;rw[nv]at h;refine aT fun N1 cq cS=>?_
  exact((aY.ge aD.c bD).a [.hl 0 [] []]).ex hZ cq (eA h)
 |cons bg cj ih1=>
  intro i1 bD h;rw[nv]at h;refine aT fun N1 cq cS=>?_
  obtain⟨x30,h31,Js,h33,h⟩:=bR h;have fF:=(((((aY.lt aD.c bD).a [.n 8]).l (bK aD.c 2 (dc bD) rfl)).l (dW aD.c 2 h31 rfl)).g (AR h33))
  obtain⟨h34,h⟩|⟨h34,h⟩:=aK h
  ·obtain rfl:=aM h;exact(fF.b h34).ret hZ
  ·exact((fF.b h34).a [.cn [0,1,12,13] []]).ct hZ cS (iS bD hm1) (ih1 (i1+1) (dn bD) h)
theorem s7{aC:aJ}{aa:aJ}{r:Bool}(h:j6 aC aa=some r):Good prog 56 [bX (aC.map aD.c),bX (aa.map aD.c)] (bO r):=by
 refine gd func56 bZ 27 fun hr Z hZ=>?_
 rw[j6]at h;obtain⟨h1,h⟩|⟨h1,h⟩:=aK h
 ·obtain rfl:=aM h;exact(aY.b h1).ret hZ
 ·refine((aY.b h1).a [.cn [0,1,12,13] []]).lp hZ (Gy hZ (fun h=>?_) (by have:=(gX.sl (hr _ (aE (i:=0) rfl))).1;simpa using this) aC 0 rfl h);obtain rfl:=aM h;exact aY.ret hZ
def kU(aC:aP)(aa:aP)(k1:Option Bool):aP->Nat->Option Bool
 | [],i1=>(k1)
 |bg::cj,i1=>((fy aa (i1:Int)).bind fun x22=>(bif !((bg.var:Bytes)==x22.var&&(bg.value:Bytes)==x22.value)then(some false)else(kU aC aa k1 cj (i1+1))))
def oc(aC:aP)(aa:aP):Option Bool:=(bif (((aC.map aX.c).length:Int):Int) != ((aa.map aX.c).length:Int)then(some false)else(kU aC aa (some true) aC 0))
def Is(aC:aP)(aa:aP)(dL:Int):St:=⟨[(0,bX (aC.map aX.c)),(1,bX (aa.map aX.c)),(12,aB ((aC.map aX.c).length:Int)),(13,aB dL)],[]⟩
theorem HE(hZ:Z.nt=26){aC:aP}{aa:aP}{r:Bool}{k1:Option Bool}(eA:k1=some r->Ax Z N f111 (.q bZ (bO r)) [1,1,1] ⟨[],[]⟩)(hm1:aC.length<=maxLen):∀(rest:aP) (i1:Nat),aC.drop i1=rest->kU aC aa k1 rest i1=some r->Ar Z N f111 (.q bZ (bO r)) [1,1,0,1,0] (rest.length+1) (Is aC aa (i1:Int)):=by
 intro rest
 induction rest with
 |nil=>
  intro i1 bD h;rw[kU]at h;refine aT fun N1 cq cS=>?_
  exact((aY.ge aX.c bD).a [.hl 0 [] []]).ex hZ cq (eA h)
 |cons bg cj ih1=>
  intro i1 bD h;rw[kU]at h;refine aT fun N1 cq cS=>?_
  obtain⟨x22,h23,h⟩:=aG h;have fF:=((((aY.lt aX.c bD).a [.n 8]).l (bK aX.c 2 (dc bD) rfl)).l (dW aX.c 2 h23 rfl))
  obtain⟨h24,h⟩|⟨h24,h⟩:=aK h
  ·obtain rfl:=aM h;exact(fF.b h24).ret hZ
  ·exact((fF.b h24).a [.cn [0,1,12,13] []]).ct hZ cS (iS bD hm1) (ih1 (i1+1) (dn bD) h)
theorem zY{aC:aP}{aa:aP}{r:Bool}(h:oc aC aa=some r):Good prog 111 [bX (aC.map aX.c),bX (aa.map aX.c)] (bO r):=by
 refine gd func111 bZ 26 fun hr Z hZ=>?_
 rw[oc]at h;obtain⟨h1,h⟩|⟨h1,h⟩:=aK h
 ·obtain rfl:=aM h;exact(aY.b h1).ret hZ
 ·refine((aY.b h1).a [.cn [0,1,12,13] []]).lp hZ (HE hZ (fun h=>?_) (by have:=(gX.sl (hr _ (aE (i:=0) rfl))).1;simpa using this) aC 0 rfl h);obtain rfl:=aM h;exact aY.ret hZ
def ja(aC:ar)(aa:ar)(k1:Option Bool):ar->Nat->Option Bool
 | [],i1=>(k1)
 |bg::cj,i1=>((fy aa (i1:Int)).bind fun x42=>((j6 bg.facts x42.facts).bind fun y44=>(bif !(y44)then(some false)else((oc bg.bind x42.bind).bind fun y47=>(bif !(y47)then(some false)else(ja aC aa k1 cj (i1+1)))))))
def qM(aC:ar)(aa:ar):Option Bool:=(bif (((aC.map aV.c).length:Int):Int) != ((aa.map aV.c).length:Int)then(some false)else(ja aC aa (some true) aC 0))
def HH(aC:ar)(aa:ar)(dL:Int):St:=⟨[(0,bX (aC.map aV.c)),(1,bX (aa.map aV.c)),(12,aB ((aC.map aV.c).length:Int)),(13,aB dL)],[]⟩
theorem G8(hZ:Z.nt=43){aC:ar}{aa:ar}{r:Bool}{k1:Option Bool}(eA:k1=some r->Ax Z N f59 (.q bZ (bO r)) [1,1,1] ⟨[],[]⟩)(hm1:aC.length<=maxLen):∀(rest:ar) (i1:Nat),aC.drop i1=rest->ja aC aa k1 rest i1=some r->Ar Z N f59 (.q bZ (bO r)) [1,1,0,1,0] (rest.length+1) (HH aC aa (i1:Int)):=by
 intro rest
 induction rest with
 |nil=>
  intro i1 bD h;rw[ja]at h;refine aT fun N1 cq cS=>?_
  exact((aY.ge aV.c bD).a [.hl 0 [] []]).ex hZ cq (eA h)
 |cons bg cj ih1=>
  intro i1 bD h;rw[ja]at h;refine aT fun N1 cq cS=>?_
  obtain⟨x42,h43,y44,h45,h⟩:=bR h;have jQ:=(((((aY.lt aV.c bD).a [.n 23]).l (bK aV.c 2 (dc bD) rfl)).l (dW aV.c 2 h43 rfl)).g (s7 h45))
  obtain⟨h46,h⟩|⟨h46,h⟩:=aK h
  ·obtain rfl:=aM h;exact((jQ.r 13 h46).T 1).ret hZ
  ·obtain⟨y47,h48,h⟩:=aG h;have jz:=(((((((jQ.r 3 h46).l (bK aV.c 2 (dc bD) rfl)).r 5 h46).l (dW aV.c 2 h43 rfl)).r 3 h46).g (zY h48)).r 2 h46)
   obtain⟨h49,h⟩|⟨h49,h⟩:=aK h
   ·obtain rfl:=aM h;exact(jz.b h49).ret hZ
   ·exact((jz.b h49).a [.cn [0,1,12,13] []]).ct hZ cS (iS bD hm1) (ih1 (i1+1) (dn bD) h)
theorem F2{aC:ar}{aa:ar}{r:Bool}(h:qM aC aa=some r):Good prog 59 [bX (aC.map aV.c),bX (aa.map aV.c)] (bO r):=by
 refine gd func59 bZ 43 fun hr Z hZ=>?_
 rw[qM]at h;obtain⟨h1,h⟩|⟨h1,h⟩:=aK h
 ·obtain rfl:=aM h;exact(aY.b h1).ret hZ
 ·refine((aY.b h1).a [.cn [0,1,12,13] []]).lp hZ (G8 hZ (fun h=>?_) (by have:=(gX.sl (hr _ (aE (i:=0) rfl))).1;simpa using this) aC 0 rfl h);obtain rfl:=aM h;exact aY.ret hZ
def iW(aC:aH)(aa:aH)(k1:Option Bool):bQ->Nat->Option Bool
 | [],i1=>(k1)
 |bg::cj,i1=>((fy aa.bG (i1:Int)).bind fun x52=>((gR bg.shape x52.shape).bind fun Ms=>(bif !(Ms)then(some false)else((j6 bg.facts x52.facts).bind fun y57=>(bif !(y57)then(some false)else(iW aC aa k1 cj (i1+1)))))))
def iX(aC:aH)(aa:aH)(k2:Option Bool):bN->Nat->Option Bool
 | [],i2=>(k2)
 |jL::tK,i2=>((fy aa.nodes (i2:Int)).bind fun x108=>(bif (jL.parent:Int) != x108.parent then(some false)else(bif (jL.cX:Int) != x108.cX then(some false)else((lS jL.cond x108.cond).bind fun Dg=>(bif !(Dg)then(some false)else((qM jL.tokens x108.tokens).bind fun O4=>(bif !(O4)then(some false)else(iX aC aa k2 tK (i2+1)))))))))
def ql(aC:aH)(aa:aH):Option Bool:=((uK aC.rules aa.rules).bind fun y1=>(bif !(y1)then(some false)else((vH aC.ends aa.ends).bind fun y4=>(bif !(y4)then(some false)else((j6 aC.facts aa.facts).bind fun y7=>(bif !(y7)then(some false)else(bif (((aC.bG.map ai.c).length:Int):Int) != ((aa.bG.map ai.c).length:Int)then(some false)else(bif (((aC.nodes.map Node.c).length:Int):Int) != ((aa.nodes.map Node.c).length:Int)then(some false)else(iW aC aa (iX aC aa (some true) aC.nodes 0) aC.bG 0)))))))))
def Ep(aC:aH)(aa:aH)(dL:Int):St:=⟨[(2,bp 0 0),(3,bp 1 0),(51,aB ((aC.bG.map ai.c).length:Int)),(52,aB dL)],[bu (aH.c aC),bu (aH.c aa)]⟩
theorem Dy(hZ:Z.nt=131){aC:aH}{aa:aH}{r:Bool}{k1:Option Bool}(eA:k1=some r->Ax Z N f16 (.q bZ (bO r)) [1,1,1] ⟨[(2,bp 0 0),(3,bp 1 0)],[bu (aH.c aC),bu (aH.c aa)]⟩)(hm1:aC.bG.length<=maxLen):∀(rest:bQ) (i1:Nat),aC.bG.drop i1=rest->iW aC aa k1 rest i1=some r->Ar Z N f16 (.q bZ (bO r)) [1,1,0,1,0] (rest.length+1) (Ep aC aa (i1:Int)):=by
 intro rest
 induction rest with
 |nil=>
  intro i1 bD h;rw[iW]at h;refine aT fun N1 cq cS=>?_
  exact((aY.ge ai.c bD).a [.hl 0 [2,3] [0,1]]).ex hZ cq (eA h)
 |cons bg cj ih1=>
  intro i1 bD h;rw[iW]at h;refine aT fun N1 cq cS=>?_
  obtain⟨x52,h53,Ms,h55,h⟩:=bR h;have Ak:=(((((aY.lt ai.c bD).a [.n 27]).l (bK ai.c 3 (dc bD) rfl)).l (dW ai.c 3 h53 rfl)).g (qI h55))
  obtain⟨h56,h⟩|⟨h56,h⟩:=aK h
  ·obtain rfl:=aM h;exact((Ak.r 15 h56).T 1).ret hZ
  ·obtain⟨y57,h58,h⟩:=aG h;have Fb:=(((((((Ak.r 4 h56).l (bK ai.c 3 (dc bD) rfl)).r 6 h56).l (dW ai.c 3 h53 rfl)).r 3 h56).g (s7 h58)).r 2 h56)
   obtain⟨h59,h⟩|⟨h59,h⟩:=aK h
   ·obtain rfl:=aM h;exact(Fb.b h59).ret hZ
   ·exact((Fb.b h59).a [.cn [2,3,51,52] [0,1]]).ct hZ cS (iS bD hm1) (ih1 (i1+1) (dn bD) h)
def Er(aC:aH)(aa:aH)(dL:Int):St:=⟨[(2,bp 0 0),(3,bp 1 0),(88,aB ((aC.nodes.map Node.c).length:Int)),(89,aB dL)],[bu (aH.c aC),bu (aH.c aa)]⟩
theorem Dz(hZ:Z.nt=131){aC:aH}{aa:aH}{r:Bool}{k2:Option Bool}(zc:k2=some r->Ax Z N f16 (.q bZ (bO r)) [1,1,1,1] ⟨[],[]⟩)(hm2:aC.nodes.length<=maxLen):∀(rest:bN) (i2:Nat),aC.nodes.drop i2=rest->iX aC aa k2 rest i2=some r->Ar Z N f16 (.q bZ (bO r)) [1,1,1,0,1,0] (rest.length+1) (Er aC aa (i2:Int)):=by
 intro rest
 induction rest with
 |nil=>
  intro i2 hd2 h;rw[iX]at h;refine aT fun N2 uX qp=>?_
  exact((aY.ge Node.c hd2).a [.hl 0 [] []]).ex hZ uX (zc h)
 |cons jL tK ih2=>
  intro i2 hd2 h;rw[iX]at h;refine aT fun N2 uX qp=>?_
  obtain⟨x108,h109,h⟩:=aG h;have OO:=((((aY.lt Node.c hd2).a [.n 13]).l (bK Node.c 8 (dc hd2) rfl)).l (dW Node.c 8 h109 rfl))
  obtain⟨h110,h⟩|⟨h110,h⟩:=aK h
  ·obtain rfl:=aM h;exact((OO.r 6 h110).T 15).ret hZ
  ·have EP:=(OO.r 6 h110)
   obtain⟨h111,h⟩|⟨h111,h⟩:=aK h
   ·obtain rfl:=aM h;exact((EP.r 7 h111).T 8).ret hZ
   ·obtain⟨Dg,h113,h⟩:=aG h;have MZ:=(((EP.r 5 h111).g (wH h113)).r 2 h111)
    obtain⟨h114,h⟩|⟨h114,h⟩:=aK h
    ·obtain rfl:=aM h;exact((MZ.r 7 h114).T 1).ret hZ
    ·obtain⟨O4,h116,h⟩:=aG h;have Dc:=(((MZ.r 5 h114).g (F2 h116)).r 2 h114)
     obtain⟨h117,h⟩|⟨h117,h⟩:=aK h
     ·obtain rfl:=aM h;exact(Dc.b h117).ret hZ
     ·exact((Dc.b h117).a [.cn [2,3,88,89] [0,1]]).ct hZ qp (iS hd2 hm2) (ih2 (i2+1) (dn hd2) h)
theorem DR{aC:aH}{aa:aH}{r:Bool}(h:ql aC aa=some r):Good prog 16 [bw (aH.c aC),bw (aH.c aa)] (bO r):=by
 refine gd func16 bZ 131 fun hr Z hZ=>?_
 rw[ql]at h;obtain⟨y1,h2,h⟩:=aG h;obtain⟨h3,h⟩|⟨h3,h⟩:=aK h
 ·obtain rfl:=aM h;exact(((aY.g (zZ h2)).r 7 h3).T 24).ret hZ
 ·obtain⟨y4,h5,h⟩:=aG h;have Ma:=((((aY.g (zZ h2)).r 5 h3).g (HD h5)).r 2 h3)
  obtain⟨h6,h⟩|⟨h6,h⟩:=aK h
  ·obtain rfl:=aM h;exact((Ma.r 7 h6).T 17).ret hZ
  ·obtain⟨y7,h8,h⟩:=aG h;have Mb:=(((Ma.r 5 h6).g (s7 h8)).r 2 h6)
   obtain⟨h9,h⟩|⟨h9,h⟩:=aK h
   ·obtain rfl:=aM h;exact((Mb.r 8 h9).T 9).ret hZ
   ·have V5:=(Mb.r 8 h9)
    obtain⟨h10,h⟩|⟨h10,h⟩:=aK h
    ·obtain rfl:=aM h;exact((V5.r 8 h10).T 1).ret hZ
    ·have V6:=(V5.r 8 h10)
     obtain⟨h11,h⟩|⟨h11,h⟩:=aK h
     ·obtain rfl:=aM h;exact(V6.b h11).ret hZ
     ·refine((V6.b h11).a [.cn [2,3,51,52] [0,1]]).lp hZ (Dy hZ (fun h=>?_) (by have:=(gX.sl (gX.agg (hr _ (aE (i:=0) rfl)) (.sl (aC.bG.map ai.c)) (by simp))).1;simpa using this) aC.bG 0 rfl h);refine(aY.a [.cn [2,3,88,89] [0,1]]).lp hZ (Dz hZ (fun h=>?_) (by have:=(gX.sl (gX.agg (hr _ (aE (i:=0) rfl)) (.sl (aC.nodes.map Node.c)) (by simp))).1;simpa using this) aC.nodes 0 rfl h);obtain rfl:=aM h;exact aY.ret hZ
def oV(aC:aH):Option Bool:=((vB aC.rules).bind fun y1=>(bif y1 then((qV aC.facts).bind fun y4=>(bif y4 then(bif decide ((aC.cP:Int)>=0)then((yy aC.rules aC.facts 0).bind fun y8=>((ql aC y8).bind fun GY=>(some GY)))else(some false))else(some false)))else(some false)))
theorem ru{aC:aH}{r:Bool}(h:oV aC=some r):Good prog 17 [bw (aH.c aC)] (bO r):=by
 refine gd func17 bZ 25 fun hr Z hZ=>?_
 rw[oV]at h;obtain⟨y1,h2,h⟩:=aG h;have lB:=((aY.a [.n 20]).g (Gr h2))
 obtain⟨h3,h⟩|⟨h3,h⟩:=aK h
 ·obtain⟨y4,h5,h⟩:=aG h;have fF:=(((lB.r 3 h3).g (sW h5)).b h3)
  obtain⟨h6,h⟩|⟨h6,h⟩:=aK h
  ·have jQ:=(fF.r 4 h6)
   obtain⟨h7,h⟩|⟨h7,h⟩:=aK h
   ·obtain⟨y8,h9,GY,h11,h⟩:=bR h;obtain rfl:=aM h;exact(((((jQ.r 6 h7).g (LZ h9)).b h7).g (DR h11)).b h7).ret hZ
   ·obtain rfl:=aM h;exact(jQ.r 8 h7).ret hZ
  ·obtain rfl:=aM h;exact((fF.r 4 h6).F 8).ret hZ
 ·obtain rfl:=aM h;exact((lB.r 4 h3).F 12).ret hZ
def ga(aC:aH)(fI:bL)(i2:Nat)(jL:aV)(i1:Nat)(bg:aO)(ud:aP)(x1486:Node)(Cf:aJ)(k3:aP->Option bL):aP->Nat->aP->Option bL
 | [],i3,R1=>(k3 R1)
 |OZ::Kz,i3,R1=>((pU jL.bind OZ.value).bind fun a3g=>(bif a3g.2 then((tN R1 OZ.var a3g.1).bind fun a3h=>(ga aC fI i2 jL i1 bg ud x1486 Cf k3 Kz (i3+1) a3h.1))else(ga aC fI i2 jL i1 bg ud x1486 Cf k3 Kz (i3+1) R1)))
def gZ(aC:aH)(i1:Nat)(bg:aO)(ud:aP)(x1486:Node)(k2:bL->Option bL):ar->Nat->bL->Option bL
 | [],i2,fI=>(k2 fI)
 |jL::tK,i2,fI=>((cm jL.facts).bind fun Cf=>(bif decide (ud.length<=maxLen)then(ga aC fI i2 jL i1 bg ud x1486 Cf (fun(VC:aP)=>(bif room ((fI.map aq.c).length+([[aZ bg.name,bX (Cf.map aD.c),bX (VC.map aX.c)]]).length) 64 then(gZ aC i1 bg ud x1486 k2 tK (i2+1) (fI++([(⟨bg.name,Cf,VC⟩:aq)])))else none)) ud 0 ([]:aP))else none))
def gY(aC:aH)(k1:bL->Option bL):az->Nat->bL->Option bL
 | [],i1,bn=>(k1 bn)
 |bg::cj,i1,bn=>((qH bg).bind fun ud=>((fy aC.ends (i1:Int)).bind fun x1484=>((fy aC.nodes x1484).bind fun x1486=>(bif decide (x1486.tokens.length<=maxLen)then(gZ aC i1 bg ud x1486 (fun(tX:bL)=>(gY aC k1 cj (i1+1) tX)) x1486.tokens 0 bn)else none))))
def fZ(aC:aH):Option bL:=(gY aC (fun(cM:bL)=>(some cM)) aC.rules 0 ([]:bL))
def G0(aC:aH)(W0:List aR)(dL:Int):St:=⟨[(1,bp 0 0),(3,b9 1),(15,bX (aC.rules.map aO.c)),(16,aB ((aC.rules.map aO.c).length:Int)),(17,aB dL)],[bu (aH.c aC),af 57 3 W0]⟩
def zU(aC:aH)(i1:Nat)(bg:aO)(ud:aP)(x1486:Node)(W0:List aR)(dL:Int):St:=⟨[(1,bp 0 0),(3,b9 1),(5,bp 2 0),(6,b9 3),(15,bX (aC.rules.map aO.c)),(16,aB ((aC.rules.map aO.c).length:Int)),(17,aB (i1:Int)),(33,bX (x1486.tokens.map aV.c)),(34,aB ((x1486.tokens.map aV.c).length:Int)),(35,aB dL)],[bu (aH.c aC),af 57 3 W0,bu [aZ bg.name,aB bg.prio,bX (bg.conds.map aU.c),bX (bg.dD.map Action.c)],af 113 2 (ud.map aX.c)]⟩
def G1(aC:aH)(fI:bL)(i2:Nat)(jL:aV)(i1:Nat)(bg:aO)(ud:aP)(x1486:Node)(Cf:aJ)(W0:List aR)(dL:Int):St:=⟨[(1,bp 0 0),(3,b9 1),(5,bp 2 0),(6,b9 3),(8,bp 4 0),(9,bp 5 0),(15,bX (aC.rules.map aO.c)),(16,aB ((aC.rules.map aO.c).length:Int)),(17,aB (i1:Int)),(33,bX (x1486.tokens.map aV.c)),(34,aB ((x1486.tokens.map aV.c).length:Int)),(35,aB (i2:Int)),(45,b9 3),(46,aB ((ud.map aX.c).length:Int)),(47,aB dL)],[bu (aH.c aC),af 57 3 (fI.map aq.c),bu [aZ bg.name,aB bg.prio,bX (bg.conds.map aU.c),bX (bg.dD.map Action.c)],af 113 2 (ud.map aX.c),bu [bX (jL.facts.map aD.c),bX (jL.bind.map aX.c)],bu [aZ bg.name,b9 6,b9 7],af 43 2 (Cf.map aD.c),af 113 2 W0]⟩
def FT(r:bL):Kd:=.q [[some (57,3)]] (cV 57 3 (r.map aq.c))
theorem Ew(hZ:Z.nt=78){aC:aH}{fI:bL}{i2:Nat}{jL:aV}{i1:Nat}{bg:aO}{ud:aP}{x1486:Node}{Cf:aJ}{r:bL}{k3:aP->Option bL}(Z3:∀(VC:aP),k3 VC=some r->Ax Z N f36 (FT r) [1,1,0,1,0,0,1,1,0,0,1,1,1,0,0,1,1,0,0,1,1,1] ⟨[(1,bp 0 0),(3,b9 1),(5,bp 2 0),(6,b9 3),(9,bp 4 0),(15,bX (aC.rules.map aO.c)),(16,aB ((aC.rules.map aO.c).length:Int)),(17,aB (i1:Int)),(33,bX (x1486.tokens.map aV.c)),(34,aB ((x1486.tokens.map aV.c).length:Int)),(35,aB (i2:Int))],[bu (aH.c aC),af 57 3 (fI.map aq.c),bu [aZ bg.name,aB bg.prio,bX (bg.conds.map aU.c),bX (bg.dD.map Action.c)],af 113 2 (ud.map aX.c),bu [aZ bg.name,b9 5,b9 6],af 43 2 (Cf.map aD.c),af 113 2 (VC.map aX.c)]⟩)(On:ud.length<=maxLen):∀(rest:aP) (i3:Nat) (R1:aP),ud.drop i3=rest->ga aC fI i2 jL i1 bg ud x1486 Cf k3 rest i3 R1=some r->Ar Z N f36 (FT r) [1,1,0,1,0,0,1,1,0,0,1,1,1,0,0,1,1,0,0,1,1,0,1,0] (rest.length+1) (G1 aC fI i2 jL i1 bg ud x1486 Cf (R1.map aX.c) (i3:Int)):=by
 intro rest
 induction rest with
 |nil=>
  intro i3 R1 uU h;rw[ga]at h;refine aT fun N3 Rr Kn=>?_
  exact((aY.ge aX.c uU).a [.hl 9 [1,3,5,6,9,15,16,17,33,34,35] [0,1,2,3,5,6,7]]).ex hZ Rr (Z3 R1 h)
 |cons OZ Kz ih3=>
  intro i3 R1 uU h;rw[ga]at h;refine aT fun N3 Rr Kn=>?_
  obtain⟨a3g,h1769,h⟩:=aG h;have a2L:=((((aY.lt aX.c uU).i (fG aX.c 2 (dc uU))).o 2 2 .uq (cL aX.c (dc uU))).g (th h1769))
  obtain⟨h1770,h⟩|⟨h1770,h⟩:=aK h
  ·obtain⟨a3h,h1772,h⟩:=aG h;exact(((a2L.b h1770).g (C3 h1772)).a [.cn [1,3,5,6,8,9,15,16,17,33,34,35,45,46,47] [0,1,2,3,4,5,6,9]]).ct hZ Kn (iS uU On) (ih3 (i3+1) a3h.1 (dn uU) h)
  ·exact((a2L.b h1770).a [.cn [1,3,5,6,8,9,15,16,17,33,34,35,45,46,47] [0,1,2,3,4,5,6,7]]).ct hZ Kn (iS uU On) (ih3 (i3+1) R1 (dn uU) h)
theorem Ev(hZ:Z.nt=78){aC:aH}{i1:Nat}{bg:aO}{ud:aP}{x1486:Node}{r:bL}{k2:bL->Option bL}(zc:∀(tX:bL),k2 tX=some r->Ax Z N f36 (FT r) [1,1,0,1,0,0,1,1,1] ⟨[(1,bp 0 0),(3,b9 1),(15,bX (aC.rules.map aO.c)),(16,aB ((aC.rules.map aO.c).length:Int)),(17,aB (i1:Int))],[bu (aH.c aC),af 57 3 (tX.map aq.c)]⟩)(hm2:x1486.tokens.length<=maxLen):∀(rest:ar) (i2:Nat) (fI:bL),x1486.tokens.drop i2=rest->gZ aC i1 bg ud x1486 k2 rest i2 fI=some r->Ar Z N f36 (FT r) [1,1,0,1,0,0,1,1,0,0,1,1,1,0] (rest.length+1) (zU aC i1 bg ud x1486 (fI.map aq.c) (i2:Int)):=by
 intro rest
 induction rest with
 |nil=>
  intro i2 fI hd2 h;rw[gZ]at h;refine aT fun N2 uX qp=>?_
  exact((aY.ge aV.c hd2).a [.hl 3 [1,3,15,16,17] [0,1]]).ex hZ uX (zc fI h)
 |cons jL tK ih2=>
  intro i2 fI hd2 h;rw[gZ]at h;refine aT fun N2 uX qp=>?_
  obtain⟨Cf,h1730,h⟩:=aG h;obtain⟨h1774,h⟩:=bf h;refine(((((aY.lt aV.c hd2).l (bK aV.c 2 (dc hd2) rfl)).a [.n 7]).g (cu h1730)).a [.pb 6 2 113 2,.cn [1,3,5,6,8,9,15,16,17,33,34,35,45,46,47] [0,1,2,3,4,6,5,7]]).lp hZ (Ew hZ (fun VC h=>?_) (bh h1774) ud 0 ([]:aP) rfl h);obtain⟨h1773,h⟩:=bf h;exact((aY.w (cA h1773)).a [.cn [1,3,5,6,15,16,17,33,34,35] [0,8,2,3]]).cs hZ qp (zU aC i1 bg ud x1486 ((fI.map aq.c)++([[aZ bg.name,bX (Cf.map aD.c),bX (VC.map aX.c)]])) (IntKind.i64.wrap ((i2:Int)+1))) (by simp only[iS hd2 hm2,mA]<;>rfl) (ih2 (i2+1) (fI++([(⟨bg.name,Cf,VC⟩:aq)])) (dn hd2) h)
theorem Eu(hZ:Z.nt=78){aC:aH}{r:bL}{k1:bL->Option bL}(eA:∀(cM:bL),k1 cM=some r->Ax Z N f36 (FT r) [1,1,1] ⟨[(3,b9 0)],[af 57 3 (cM.map aq.c)]⟩)(hm1:aC.rules.length<=maxLen):∀(rest:az) (i1:Nat) (bn:bL),aC.rules.drop i1=rest->gY aC k1 rest i1 bn=some r->Ar Z N f36 (FT r) [1,1,0,1,0] (rest.length+1) (G0 aC (bn.map aq.c) (i1:Int)):=by
 intro rest
 induction rest with
 |nil=>
  intro i1 bn bD h;rw[gY]at h;refine aT fun N1 cq cS=>?_
  exact((aY.ge aO.c bD).a [.hl 0 [3] [1]]).ex hZ cq (eA bn h)
 |cons bg cj ih1=>
  intro i1 bn bD h;rw[gY]at h;refine aT fun N1 cq cS=>?_
  obtain⟨ud,h1483,x1484,h1485,x1486,h1487,h⟩:=gW h;obtain⟨h1775,h⟩:=bf h;refine(((((((aY.lt aO.c bD).l (bK aO.c 4 (dc bD) rfl)).g (yu h1483)).a [.n 12]).l (dW jM 1 h1485 rfl)).l (dW Node.c 8 h1487 rfl)).a [.cn [1,3,5,6,15,16,17,33,34,35] [0,1,2,3]]).lp hZ (Ev hZ (fun tX h=>?_) (bh h1775) x1486.tokens 0 bn rfl h);exact(aY.a [.cn [1,3,15,16,17] [0,1]]).ct hZ cS (iS bD hm1) (ih1 (i1+1) tX (dn bD) h)
theorem qK{aC:aH}{r:bL}(h:fZ aC=some r):Good prog 36 [bw (aH.c aC)] (cV 57 3 (r.map aq.c)):=by
 refine gd func36 [[some (57,3)]] 78 fun hr Z hZ=>?_
 rw[fZ]at h;refine(aY.a [.L5 3,.cn [1,3,15,16,17] [0,1]]).lp hZ (Eu hZ (fun cM h=>?_) (by have:=(gX.sl (gX.agg (hr _ (aE (i:=0) rfl)) (.sl (aC.rules.map aO.c)) (by simp))).1;simpa using this) aC.rules 0 ([]:bL) rfl h);obtain rfl:=aM h;exact aY.ret hZ
def xq(aC:aH):Option bL:=((oV aC).bind fun y1=>(bif !(y1)then(some ([]))else((fZ aC).bind fun y4=>(some y4))))
def mD(aC:aJ)(k1:Option Bool):aJ->Nat->Option Bool
 | [],i1=>(k1)
 |bg::cj,i1=>((rD bg).bind fun BQ=>(bif !(BQ)then(some false)else(bif decide (((i1:Int):Int)>0)then((fy aC (IntKind.i64.wrap ((i1:Int)-1))).bind fun x49=>((fw x49 bg).bind fun y51=>(bif decide ((y51:Int)>=0)then(some false)else(mD aC k1 cj (i1+1)))))else(mD aC k1 cj (i1+1)))))
def qZ(aC:aJ):Option Bool:=(mD aC (some (decide ((((aC.map aD.c).length:Int):Int)<=24))) aC 0)
def KH(aC:aJ)(dL:Int):St:=⟨[(0,bX (aC.map aD.c)),(3,aB dL)],[]⟩
theorem J6(hZ:Z.nt=36){aC:aJ}{r:Bool}{k1:Option Bool}(eA:k1=some r->Ax Z N f41 (.q bZ (bO r)) [1,1] ⟨[(0,bX (aC.map aD.c))],[]⟩)(hm1:aC.length<=maxLen):∀(rest:aJ) (i1:Nat),aC.drop i1=rest->mD aC k1 rest i1=some r->Ar Z N f41 (.q bZ (bO r)) [1,0,1,0] (rest.length+1) (KH aC (i1:Int)):=by
 intro rest
 induction rest with
 |nil=>
  intro i1 bD h;rw[mD]at h;refine aT fun N1 cq cS=>?_
  exact((aY.ge aD.c bD).a [.hl 0 [0] []]).ex hZ cq (eA h)
 |cons bg cj ih1=>
  intro i1 bD h;rw[mD]at h;refine aT fun N1 cq cS=>?_
  obtain⟨BQ,h46,h⟩:=aG h;have jz:=((((aY.lt aD.c bD).a [.n 19]).l (bK aD.c 2 (dc bD) rfl)).g (xy h46))
  obtain⟨h47,h⟩|⟨h47,h⟩:=aK h
  ·obtain rfl:=aM h;exact((((jz.r 3 h47).a [bF,bF,bF,bF,bF,bF,bF,bF,bF,bF,bF]).r 2 h47).T 1).ret hZ
  ·have uc:=(jz.r 3 h47)
   obtain⟨h48,h⟩|⟨h48,h⟩:=aK h
   ·obtain⟨x49,h50,y51,h52,h⟩:=bR h;have xf:=((((((((((uc.r 4 h48).l (dW aD.c 2 h50 rfl)).r 4 h48).l (bK aD.c 2 (dc bD) rfl)).r 2 h48).g (pL h52)).b h48).b h47).b h48).b h47)
    obtain⟨h53,h⟩|⟨h53,h⟩:=aK h
    ·obtain rfl:=aM h;exact(xf.b h53).ret hZ
    ·exact((xf.b h53).a [.cn [0,3] []]).ct hZ cS (iS bD hm1) (ih1 (i1+1) (dn bD) h)
   ·exact((((((uc.r 11 h48).b h47).b h48).b h47).F 1).a [.cn [0,3] []]).ct hZ cS (iS bD hm1) (ih1 (i1+1) (dn bD) h)
theorem pV{aC:aJ}{r:Bool}(h:qZ aC=some r):Good prog 41 [bX (aC.map aD.c)] (bO r):=by
 refine gd func41 bZ 36 fun hr Z hZ=>?_
 rw[qZ]at h;refine(aY.a [.cn [0,3] []]).lp hZ (J6 hZ (fun h=>?_) (by have:=(gX.sl (hr _ (aE (i:=0) rfl))).1;simpa using this) aC 0 rfl h);cases h;exact aY.ret hZ
def n8(aC:aH)(aa:aH)(k1:Option Bool):bQ->Nat->Option Bool
 | [],i1=>(k1)
 |bg::cj,i1=>((fy aa.bG (i1:Int)).bind fun x32=>((ji bg.shape x32.shape).bind fun Ge=>(bif !(Ge)then(some false)else(n8 aC aa k1 cj (i1+1)))))
def jl(aC:aH)(aa:aH)(k2:Option Bool):bN->Nat->Option Bool
 | [],i2=>(k2)
 |jL::tK,i2=>((fy aa.nodes (i2:Int)).bind fun x73=>(bif (jL.parent:Int) != x73.parent then(some false)else(bif (jL.cX:Int) != x73.cX then(some false)else((qd jL.cond x73.cond).bind fun y77=>(bif !(y77)then(some false)else(jl aC aa k2 tK (i2+1)))))))
def jm(aC:aH)(aa:aH)(k3:Option Bool):bM->Nat->Option Bool
 | [],i3=>(k3)
 |OZ::Kz,i3=>((fy aa.ends (i3:Int)).bind fun x100=>(bif (OZ:Int) != x100 then(some false)else(jm aC aa k3 Kz (i3+1))))
def tB(aC:aH)(aa:aH):Option Bool:=(bif (((aC.bG.map ai.c).length:Int):Int) != ((aa.bG.map ai.c).length:Int)then(some false)else(bif (((aC.nodes.map Node.c).length:Int):Int) != ((aa.nodes.map Node.c).length:Int)then(some false)else(bif (((aC.ends.map jM).length:Int):Int) != ((aa.ends.map jM).length:Int)then(some false)else(n8 aC aa (jl aC aa (jm aC aa (some true) aC.ends 0) aC.nodes 0) aC.bG 0))))
def Hp(aC:aH)(aa:aH)(dL:Int):St:=⟨[(2,bp 0 0),(3,bp 1 0),(5,aB dL)],[bu (aH.c aC),bu (aH.c aa)]⟩
theorem GR(hZ:Z.nt=123){aC:aH}{aa:aH}{r:Bool}{k1:Option Bool}(eA:k1=some r->Ax Z N f42 (.q bZ (bO r)) [1,1,1] ⟨[(2,bp 0 0),(3,bp 1 0)],[bu (aH.c aC),bu (aH.c aa)]⟩)(hm1:aC.bG.length<=maxLen):∀(rest:bQ) (i1:Nat),aC.bG.drop i1=rest->n8 aC aa k1 rest i1=some r->Ar Z N f42 (.q bZ (bO r)) [1,1,0,1,0] (rest.length+1) (Hp aC aa (i1:Int)):=by
 intro rest
 induction rest with
 |nil=>
  intro i1 bD h;rw[n8]at h;refine aT fun N1 cq cS=>?_
  exact((aY.ge ai.c bD).a [.hl 0 [2,3] [0,1]]).ex hZ cq (eA h)
 |cons bg cj ih1=>
  intro i1 bD h;rw[n8]at h;refine aT fun N1 cq cS=>?_
  obtain⟨x32,h33,Ge,h35,h⟩:=bR h;have xf:=(((((aY.lt ai.c bD).a [.n 12]).l (bK ai.c 3 (dc bD) rfl)).l (dW ai.c 3 h33 rfl)).g (uQ h35))
  obtain⟨h36,h⟩|⟨h36,h⟩:=aK h
  ·obtain rfl:=aM h;exact(xf.b h36).ret hZ
  ·exact((xf.b h36).a [.cn [2,3,5] [0,1]]).ct hZ cS (iS bD hm1) (ih1 (i1+1) (dn bD) h)
def Hq(aC:aH)(aa:aH)(dL:Int):St:=⟨[(2,bp 0 0),(3,bp 1 0),(6,aB dL)],[bu (aH.c aC),bu (aH.c aa)]⟩
theorem GS(hZ:Z.nt=123){aC:aH}{aa:aH}{r:Bool}{k2:Option Bool}(zc:k2=some r->Ax Z N f42 (.q bZ (bO r)) [1,1,1,1] ⟨[(2,bp 0 0),(3,bp 1 0)],[bu (aH.c aC),bu (aH.c aa)]⟩)(hm2:aC.nodes.length<=maxLen):∀(rest:bN) (i2:Nat),aC.nodes.drop i2=rest->jl aC aa k2 rest i2=some r->Ar Z N f42 (.q bZ (bO r)) [1,1,1,0,1,0] (rest.length+1) (Hq aC aa (i2:Int)):=by
 intro rest
 induction rest with
 |nil=>
  intro i2 hd2 h;rw[jl]at h;refine aT fun N2 uX qp=>?_
  exact((aY.ge Node.c hd2).a [.hl 0 [2,3] [0,1]]).ex hZ uX (zc h)
 |cons jL tK ih2=>
  intro i2 hd2 h;rw[jl]at h;refine aT fun N2 uX qp=>?_
  obtain⟨x73,h74,h⟩:=aG h;have Ak:=((((aY.lt Node.c hd2).a [.n 41]).l (bK Node.c 8 (dc hd2) rfl)).l (dW Node.c 8 h74 rfl))
  obtain⟨h75,h⟩|⟨h75,h⟩:=aK h
  ·obtain rfl:=aM h;exact((Ak.r 14 h75).T 16).ret hZ
  ·have Fb:=(((((Ak.r 4 h75).l (bK Node.c 8 (dc hd2) rfl)).r 6 h75).l (dW Node.c 8 h74 rfl)).r 4 h75)
   obtain⟨h76,h⟩|⟨h76,h⟩:=aK h
   ·obtain rfl:=aM h;exact((Fb.r 15 h76).T 1).ret hZ
   ·obtain⟨y77,h78,h⟩:=aG h;have OO:=(((((((Fb.r 4 h76).l (bK Node.c 8 (dc hd2) rfl)).r 6 h76).l (dW Node.c 8 h74 rfl)).r 3 h76).g (AX h78)).r 2 h76)
    obtain⟨h79,h⟩|⟨h79,h⟩:=aK h
    ·obtain rfl:=aM h;exact(OO.b h79).ret hZ
    ·exact((OO.b h79).a [.cn [2,3,6] [0,1]]).ct hZ qp (iS hd2 hm2) (ih2 (i2+1) (dn hd2) h)
def Hr(aC:aH)(aa:aH)(dL:Int):St:=⟨[(2,bp 0 0),(3,bp 1 0),(7,aB dL)],[bu (aH.c aC),bu (aH.c aa)]⟩
theorem GU(hZ:Z.nt=123){aC:aH}{aa:aH}{r:Bool}{k3:Option Bool}(Z3:k3=some r->Ax Z N f42 (.q bZ (bO r)) [1,1,1,1,1] ⟨[],[]⟩)(On:aC.ends.length<=maxLen):∀(rest:bM) (i3:Nat),aC.ends.drop i3=rest->jm aC aa k3 rest i3=some r->Ar Z N f42 (.q bZ (bO r)) [1,1,1,1,0,1,0] (rest.length+1) (Hr aC aa (i3:Int)):=by
 intro rest
 induction rest with
 |nil=>
  intro i3 uU h;rw[jm]at h;refine aT fun N3 Rr Kn=>?_
  exact((aY.ge jM uU).a [.hl 0 [] []]).ex hZ Rr (Z3 h)
 |cons OZ Kz ih3=>
  intro i3 uU h;rw[jm]at h;refine aT fun N3 Rr Kn=>?_
  obtain⟨x100,h101,h⟩:=aG h;have EP:=((((aY.lt jM uU).a [.n 10]).l (bK jM 1 (dc uU) rfl)).l (dW jM 1 h101 rfl))
  obtain⟨h102,h⟩|⟨h102,h⟩:=aK h
  ·obtain rfl:=aM h;exact(EP.b h102).ret hZ
  ·exact((EP.b h102).a [.cn [2,3,7] [0,1]]).ct hZ Kn (iS uU On) (ih3 (i3+1) (dn uU) h)
theorem FE{aC:aH}{aa:aH}{r:Bool}(h:tB aC aa=some r):Good prog 42 [bw (aH.c aC),bw (aH.c aa)] (bO r):=by
 refine gd func42 bZ 123 fun hr Z hZ=>?_
 rw[tB]at h;obtain⟨h1,h⟩|⟨h1,h⟩:=aK h
 ·obtain rfl:=aM h;exact((aY.r 8 h1).T 9).ret hZ
 ·have MZ:=(aY.r 8 h1)
  obtain⟨h2,h⟩|⟨h2,h⟩:=aK h
  ·obtain rfl:=aM h;exact((MZ.r 8 h2).T 1).ret hZ
  ·have Dc:=(MZ.r 8 h2)
   obtain⟨h3,h⟩|⟨h3,h⟩:=aK h
   ·obtain rfl:=aM h;exact(Dc.b h3).ret hZ
   ·refine((Dc.b h3).a [.cn [2,3,5] [0,1]]).lp hZ (GR hZ (fun h=>?_) (by have:=(gX.sl (gX.agg (hr _ (aE (i:=0) rfl)) (.sl (aC.bG.map ai.c)) (by simp))).1;simpa using this) aC.bG 0 rfl h);refine(aY.a [.cn [2,3,6] [0,1]]).lp hZ (GS hZ (fun h=>?_) (by have:=(gX.sl (gX.agg (hr _ (aE (i:=0) rfl)) (.sl (aC.nodes.map Node.c)) (by simp))).1;simpa using this) aC.nodes 0 rfl h);refine(aY.a [.cn [2,3,7] [0,1]]).lp hZ (GU hZ (fun h=>?_) (by have:=(gX.sl (gX.agg (hr _ (aE (i:=0) rfl)) (.sl (aC.ends.map jM)) (by simp))).1;simpa using this) aC.ends 0 rfl h);obtain rfl:=aM h;exact aY.ret hZ
def rF(aC:aD)(aa:aD):Option Bool:=(bif (aC.rel:Bytes)==aa.rel then((oo aC.args aa.args).bind fun y2=>(some y2))else(some false))
theorem yA{aC:aD}{aa:aD}{r:Bool}(h:rF aC aa=some r):Good prog 95 [bw (aD.c aC),bw (aD.c aa)] (bO r):=by
 refine gd func95 bZ 17 fun hr Z hZ=>?_
 rw[rF]at h;obtain⟨h1,h⟩|⟨h1,h⟩:=aK h
 ·obtain⟨y2,h3,h⟩:=aG h;obtain rfl:=aM h;exact(((aY.r 5 h1).g (yS h3)).b h1).ret hZ
 ·obtain rfl:=aM h;exact(aY.r 6 h1).ret hZ
def o9(aC:aJ)(aa:aJ)(k1:Option Bool):aJ->Nat->Option Bool
 | [],i1=>(k1)
 |bg::cj,i1=>((fy aa (i1:Int)).bind fun x30=>((rF bg x30).bind fun Js=>(bif !(Js)then(some false)else(o9 aC aa k1 cj (i1+1)))))
def mi(aC:aJ)(aa:aJ):Option Bool:=(bif (((aC.map aD.c).length:Int):Int) != ((aa.map aD.c).length:Int)then(some false)else(o9 aC aa (some true) aC 0))
def JN(aC:aJ)(aa:aJ)(dL:Int):St:=⟨[(0,bX (aC.map aD.c)),(1,bX (aa.map aD.c)),(5,aB dL)],[]⟩
theorem Hg(hZ:Z.nt=27){aC:aJ}{aa:aJ}{r:Bool}{k1:Option Bool}(eA:k1=some r->Ax Z N f43 (.q bZ (bO r)) [1,1,1] ⟨[],[]⟩)(hm1:aC.length<=maxLen):∀(rest:aJ) (i1:Nat),aC.drop i1=rest->o9 aC aa k1 rest i1=some r->Ar Z N f43 (.q bZ (bO r)) [1,1,0,1,0] (rest.length+1) (JN aC aa (i1:Int)):=by
 intro rest
 induction rest with
 |nil=>
  intro i1 bD h;rw[o9]at h;refine aT fun N1 cq cS=>?_
  exact((aY.ge aD.c bD).a [.hl 0 [] []]).ex hZ cq (eA h)
 |cons bg cj ih1=>
  intro i1 bD h;rw[o9]at h;refine aT fun N1 cq cS=>?_
  obtain⟨x30,h31,Js,h33,h⟩:=bR h;have fF:=(((((aY.lt aD.c bD).a [.n 8]).l (bK aD.c 2 (dc bD) rfl)).l (dW aD.c 2 h31 rfl)).g (yA h33))
  obtain⟨h34,h⟩|⟨h34,h⟩:=aK h
  ·obtain rfl:=aM h;exact(fF.b h34).ret hZ
  ·exact((fF.b h34).a [.cn [0,1,5] []]).ct hZ cS (iS bD hm1) (ih1 (i1+1) (dn bD) h)
theorem vi{aC:aJ}{aa:aJ}{r:Bool}(h:mi aC aa=some r):Good prog 43 [bX (aC.map aD.c),bX (aa.map aD.c)] (bO r):=by
 refine gd func43 bZ 27 fun hr Z hZ=>?_
 rw[mi]at h;obtain⟨h1,h⟩|⟨h1,h⟩:=aK h
 ·obtain rfl:=aM h;exact(aY.b h1).ret hZ
 ·refine((aY.b h1).a [.cn [0,1,5] []]).lp hZ (Hg hZ (fun h=>?_) (by have:=(gX.sl (hr _ (aE (i:=0) rfl))).1;simpa using this) aC 0 rfl h);obtain rfl:=aM h;exact aY.ret hZ
def iH(aC:aP)(aa:aP)(k1:Option Bool):aP->Nat->Option Bool
 | [],i1=>(k1)
 |bg::cj,i1=>((fy aa (i1:Int)).bind fun x22=>(bif !((bg.var:Bytes)==x22.var&&(bg.value:Bytes)==x22.value)then(some false)else(iH aC aa k1 cj (i1+1))))
def jk(aC:aP)(aa:aP):Option Bool:=(bif (((aC.map aX.c).length:Int):Int) != ((aa.map aX.c).length:Int)then(some false)else(iH aC aa (some true) aC 0))
def EC(aC:aP)(aa:aP)(dL:Int):St:=⟨[(0,bX (aC.map aX.c)),(1,bX (aa.map aX.c)),(5,aB dL)],[]⟩
theorem DW(hZ:Z.nt=26){aC:aP}{aa:aP}{r:Bool}{k1:Option Bool}(eA:k1=some r->Ax Z N f97 (.q bZ (bO r)) [1,1,1] ⟨[],[]⟩)(hm1:aC.length<=maxLen):∀(rest:aP) (i1:Nat),aC.drop i1=rest->iH aC aa k1 rest i1=some r->Ar Z N f97 (.q bZ (bO r)) [1,1,0,1,0] (rest.length+1) (EC aC aa (i1:Int)):=by
 intro rest
 induction rest with
 |nil=>
  intro i1 bD h;rw[iH]at h;refine aT fun N1 cq cS=>?_
  exact((aY.ge aX.c bD).a [.hl 0 [] []]).ex hZ cq (eA h)
 |cons bg cj ih1=>
  intro i1 bD h;rw[iH]at h;refine aT fun N1 cq cS=>?_
  obtain⟨x22,h23,h⟩:=aG h;have fF:=((((aY.lt aX.c bD).a [.n 8]).l (bK aX.c 2 (dc bD) rfl)).l (dW aX.c 2 h23 rfl))
  obtain⟨h24,h⟩|⟨h24,h⟩:=aK h
  ·obtain rfl:=aM h;exact(fF.b h24).ret hZ
  ·exact((fF.b h24).a [.cn [0,1,5] []]).ct hZ cS (iS bD hm1) (ih1 (i1+1) (dn bD) h)
theorem xC{aC:aP}{aa:aP}{r:Bool}(h:jk aC aa=some r):Good prog 97 [bX (aC.map aX.c),bX (aa.map aX.c)] (bO r):=by
 refine gd func97 bZ 26 fun hr Z hZ=>?_
 rw[jk]at h;obtain⟨h1,h⟩|⟨h1,h⟩:=aK h
 ·obtain rfl:=aM h;exact(aY.b h1).ret hZ
 ·refine((aY.b h1).a [.cn [0,1,5] []]).lp hZ (DW hZ (fun h=>?_) (by have:=(gX.sl (hr _ (aE (i:=0) rfl))).1;simpa using this) aC 0 rfl h);obtain rfl:=aM h;exact aY.ret hZ
def iv(aC:ar)(aa:ar)(k1:Option Bool):ar->Nat->Option Bool
 | [],i1=>(k1)
 |bg::cj,i1=>((fy aa (i1:Int)).bind fun x42=>((mi bg.facts x42.facts).bind fun y44=>(bif !(y44)then(some false)else((jk bg.bind x42.bind).bind fun y47=>(bif !(y47)then(some false)else(iv aC aa k1 cj (i1+1)))))))
def qn(aC:ar)(aa:ar):Option Bool:=(bif (((aC.map aV.c).length:Int):Int) != ((aa.map aV.c).length:Int)then(some false)else(iv aC aa (some true) aC 0))
def FF(aC:ar)(aa:ar)(dL:Int):St:=⟨[(0,bX (aC.map aV.c)),(1,bX (aa.map aV.c)),(5,aB dL)],[]⟩
theorem EI(hZ:Z.nt=43){aC:ar}{aa:ar}{r:Bool}{k1:Option Bool}(eA:k1=some r->Ax Z N f45 (.q bZ (bO r)) [1,1,1] ⟨[],[]⟩)(hm1:aC.length<=maxLen):∀(rest:ar) (i1:Nat),aC.drop i1=rest->iv aC aa k1 rest i1=some r->Ar Z N f45 (.q bZ (bO r)) [1,1,0,1,0] (rest.length+1) (FF aC aa (i1:Int)):=by
 intro rest
 induction rest with
 |nil=>
  intro i1 bD h;rw[iv]at h;refine aT fun N1 cq cS=>?_
  exact((aY.ge aV.c bD).a [.hl 0 [] []]).ex hZ cq (eA h)
 |cons bg cj ih1=>
  intro i1 bD h;rw[iv]at h;refine aT fun N1 cq cS=>?_
  obtain⟨x42,h43,y44,h45,h⟩:=bR h;have jQ:=(((((aY.lt aV.c bD).a [.n 23]).l (bK aV.c 2 (dc bD) rfl)).l (dW aV.c 2 h43 rfl)).g (vi h45))
  obtain⟨h46,h⟩|⟨h46,h⟩:=aK h
  ·obtain rfl:=aM h;exact((jQ.r 13 h46).T 1).ret hZ
  ·obtain⟨y47,h48,h⟩:=aG h;have jz:=(((((((jQ.r 3 h46).l (bK aV.c 2 (dc bD) rfl)).r 5 h46).l (dW aV.c 2 h43 rfl)).r 3 h46).g (xC h48)).r 2 h46)
   obtain⟨h49,h⟩|⟨h49,h⟩:=aK h
   ·obtain rfl:=aM h;exact(jz.b h49).ret hZ
   ·exact((jz.b h49).a [.cn [0,1,5] []]).ct hZ cS (iS bD hm1) (ih1 (i1+1) (dn bD) h)
theorem DY{aC:ar}{aa:ar}{r:Bool}(h:qn aC aa=some r):Good prog 45 [bX (aC.map aV.c),bX (aa.map aV.c)] (bO r):=by
 refine gd func45 bZ 43 fun hr Z hZ=>?_
 rw[qn]at h;obtain⟨h1,h⟩|⟨h1,h⟩:=aK h
 ·obtain rfl:=aM h;exact(aY.b h1).ret hZ
 ·refine((aY.b h1).a [.cn [0,1,5] []]).lp hZ (EI hZ (fun h=>?_) (by have:=(gX.sl (hr _ (aE (i:=0) rfl))).1;simpa using this) aC 0 rfl h);obtain rfl:=aM h;exact aY.ret hZ
def kf(aC:aH)(k1:Option Bool):bQ->Nat->Option Bool
 | [],i1=>(k1)
 |bg::cj,i1=>((gM bg.shape ([]) aC.facts).bind fun FP=>((mi bg.facts FP).bind fun y41=>(bif !(y41)then(some false)else(kf aC k1 cj (i1+1)))))
def kj(aC:aH)(k2:Option Bool):bN->Nat->Option Bool
 | [],i2=>(k2)
 |jL::tK,i2=>((vT aC (i2:Int)).bind fun X7=>((qf X7 aC.facts).bind fun aDI=>((qn jL.tokens aDI).bind fun L3=>(bif !(L3)then(some false)else(kj aC k2 tK (i2+1))))))
def mZ(aC:aH):Option Bool:=((kZ aC.rules).bind fun y1=>(bif !(y1.2)then(some false)else((qZ aC.facts).bind fun y4=>(bif !(y4)then(some false)else((tB aC y1.1).bind fun y7=>(bif !(y7)then(some false)else(bif decide ((aC.cP:Int)<0)then(some false)else(kf aC (kj aC (some true) aC.nodes 0) aC.bG 0))))))))
def JD(aC:aH)(dL:Int):St:=⟨[(1,bp 0 0),(5,aB dL)],[bu (aH.c aC)]⟩
theorem HU(hZ:Z.nt=77){aC:aH}{r:Bool}{k1:Option Bool}(eA:k1=some r->Ax Z N f11 (.q bZ (bO r)) [1,1,1,1] ⟨[(1,bp 0 0)],[bu (aH.c aC)]⟩)(hm1:aC.bG.length<=maxLen):∀(rest:bQ) (i1:Nat),aC.bG.drop i1=rest->kf aC k1 rest i1=some r->Ar Z N f11 (.q bZ (bO r)) [1,1,1,0,1,0] (rest.length+1) (JD aC (i1:Int)):=by
 intro rest
 induction rest with
 |nil=>
  intro i1 bD h;rw[kf]at h;refine aT fun N1 cq cS=>?_
  exact((aY.ge ai.c bD).a [.hl 0 [1] [0]]).ex hZ cq (eA h)
 |cons bg cj ih1=>
  intro i1 bD h;rw[kf]at h;refine aT fun N1 cq cS=>?_
  obtain⟨FP,h40,y41,h42,h⟩:=bR h;have jQ:=(((((((aY.lt ai.c bD).a [.n 15]).l (bK ai.c 3 (dc bD) rfl)).l (bK ai.c 3 (dc bD) rfl)).a [.d (cV 43 2 (FP.map aD.c))]).w (show Good prog 44 [bw (aD.c bg.shape),bX ([]),bX (aC.facts.map aD.c)] (cV 43 2 (FP.map aD.c))from by first| (simpa only[bI,bA,cF,cD,cI]using fD h40)|exact fD h40)).g (vi h42))
  obtain⟨h43,h⟩|⟨h43,h⟩:=aK h
  ·obtain rfl:=aM h;exact(jQ.b h43).ret hZ
  ·exact((jQ.b h43).a [.cn [1,5] [0]]).ct hZ cS (iS bD hm1) (ih1 (i1+1) (dn bD) h)
def JE(aC:aH)(dL:Int):St:=⟨[(1,bp 0 0),(6,aB dL)],[bu (aH.c aC)]⟩
theorem HV(hZ:Z.nt=77){aC:aH}{r:Bool}{k2:Option Bool}(zc:k2=some r->Ax Z N f11 (.q bZ (bO r)) [1,1,1,1,1] ⟨[],[]⟩)(hm2:aC.nodes.length<=maxLen):∀(rest:bN) (i2:Nat),aC.nodes.drop i2=rest->kj aC k2 rest i2=some r->Ar Z N f11 (.q bZ (bO r)) [1,1,1,1,0,1,0] (rest.length+1) (JE aC (i2:Int)):=by
 intro rest
 induction rest with
 |nil=>
  intro i2 hd2 h;rw[kj]at h;refine aT fun N2 uX qp=>?_
  exact((aY.ge Node.c hd2).a [.hl 0 [] []]).ex hZ uX (zc h)
 |cons jL tK ih2=>
  intro i2 hd2 h;rw[kj]at h;refine aT fun N2 uX qp=>?_
  obtain⟨X7,h105,aDI,h107,L3,h109,h⟩:=gW h;have jz:=((((((aY.lt Node.c hd2).a [.n2 [0,1,2,3,4,5,6,7,8,9,10,11,12,13] [0,1,2,3,4,5,6,7,8,9,10,11,12,13] 11 12 [0,1,2,3,4,5] []]).l (bK Node.c 8 (dc hd2) rfl)).g (uk h105)).g (AZ h107)).g (DY h109))
  obtain⟨h110,h⟩|⟨h110,h⟩:=aK h
  ·obtain rfl:=aM h;exact(jz.b h110).ret hZ
  ·exact((jz.b h110).a [.cn [1,6] [0]]).ct hZ qp (iS hd2 hm2) (ih2 (i2+1) (dn hd2) h)
theorem vh{aC:aH}{r:Bool}(h:mZ aC=some r):Good prog 11 [bw (aH.c aC)] (bO r):=by
 refine gd func11 bZ 77 fun hr Z hZ=>?_
 rw[mZ]at h;obtain⟨y1,h2,h⟩:=aG h;obtain⟨h3,h⟩|⟨h3,h⟩:=aK h
 ·obtain rfl:=aM h;exact(((aY.g (tQ h2)).r 5 h3).T 10).ret hZ
 ·obtain⟨y4,h5,h⟩:=aG h;have uc:=((((aY.g (tQ h2)).r 3 h3).g (pV h5)).r 2 h3)
  obtain⟨h6,h⟩|⟨h6,h⟩:=aK h
  ·obtain rfl:=aM h;exact((uc.r 5 h6).T 5).ret hZ
  ·obtain⟨y7,h8,h⟩:=aG h;have xf:=(((uc.r 3 h6).g (FE h8)).r 2 h6)
   obtain⟨h9,h⟩|⟨h9,h⟩:=aK h
   ·obtain rfl:=aM h;exact((xf.r 4 h9).T 1).ret hZ
   ·have Ak:=(xf.r 4 h9)
    obtain⟨h10,h⟩|⟨h10,h⟩:=aK h
    ·obtain rfl:=aM h;exact(Ak.b h10).ret hZ
    ·refine((Ak.b h10).a [.cn [1,5] [0]]).lp hZ (HU hZ (fun h=>?_) (by have:=(gX.sl (gX.agg (hr _ (aE (i:=0) rfl)) (.sl (aC.bG.map ai.c)) (by simp))).1;simpa using this) aC.bG 0 rfl h);refine(aY.a [.cn [1,6] [0]]).lp hZ (HV hZ (fun h=>?_) (by have:=(gX.sl (gX.agg (hr _ (aE (i:=0) rfl)) (.sl (aC.nodes.map Node.c)) (by simp))).1;simpa using this) aC.nodes 0 rfl h);obtain rfl:=aM h;exact aY.ret hZ
def mw(aC:aP)(aa:aP)(k1:aP->Option aP):aP->Nat->aP->Option aP
 | [],i1,bY=>(k1 bY)
 |bg::cj,i1,bY=>((pZ aC bg.value).bind fun PR=>(bif PR.2 then((wj bY bg.var PR.1).bind fun XB=>(mw aC aa k1 cj (i1+1) XB))else(mw aC aa k1 cj (i1+1) bY)))
def xa(aC:aP)(aa:aP):Option aP:=(mw aC aa (fun(cM:aP)=>(some cM)) aa 0 ([]:aP))
def NW(aC:aP)(aa:aP)(W0:List aR)(dL:Int):St:=⟨[(0,bX (aC.map aX.c)),(1,bX (aa.map aX.c)),(5,b9 0),(6,aB dL)],[af 113 2 W0]⟩
theorem M6(hZ:Z.nt=36){aC:aP}{aa:aP}{r:aP}{k1:aP->Option aP}(eA:∀(cM:aP),k1 cM=some r->Ax Z N f39 (R7 r) [1,1,1] ⟨[(5,b9 0)],[af 113 2 (cM.map aX.c)]⟩)(hm1:aa.length<=maxLen):∀(rest:aP) (i1:Nat) (bY:aP),aa.drop i1=rest->mw aC aa k1 rest i1 bY=some r->Ar Z N f39 (R7 r) [1,1,0,1,0] (rest.length+1) (NW aC aa (bY.map aX.c) (i1:Int)):=by
 intro rest
 induction rest with
 |nil=>
  intro i1 bY bD h;rw[mw]at h;refine aT fun N1 cq cS=>?_
  exact((aY.ge aX.c bD).a [.hl 0 [5] [0]]).ex hZ cq (eA bY h)
 |cons bg cj ih1=>
  intro i1 bY bD h;rw[mw]at h;refine aT fun N1 cq cS=>?_
  obtain⟨PR,h38,h⟩:=aG h;have fF:=(((aY.lt aX.c bD).l (bK aX.c 2 (dc bD) rfl)).g (tq h38))
  obtain⟨h39,h⟩|⟨h39,h⟩:=aK h
  ·obtain⟨XB,h41,h⟩:=aG h;exact((((fF.b h39).l (bK aX.c 2 (dc bD) rfl)).g (D6 h41)).a [.cn [0,1,5,6] [1]]).ct hZ cS (iS bD hm1) (ih1 (i1+1) XB (dn bD) h)
  ·exact((fF.b h39).a [.cn [0,1,5,6] [0]]).ct hZ cS (iS bD hm1) (ih1 (i1+1) bY (dn bD) h)
theorem Kc{aC:aP}{aa:aP}{r:aP}(h:xa aC aa=some r):Good prog 39 [bX (aC.map aX.c),bX (aa.map aX.c)] (cV 113 2 (r.map aX.c)):=by
 refine gd func39 zn 36 fun hr Z hZ=>?_
 rw[xa]at h;refine(aY.a [.cn [0,1,5,6] [0]]).lp hZ (M6 hZ (fun cM h=>?_) (by have:=(gX.sl (hr _ (aE (i:=1) rfl))).1;simpa using this) aa 0 ([]:aP) rfl h);obtain rfl:=aM h;exact aY.ret hZ
def gh(aC:aH)(i1:Nat)(bg:aO)(R3:aP)(x496:Node)(k2:bL->Option bL):ar->Nat->bL->Option bL
 | [],i2,fI=>(k2 fI)
 |jL::tK,i2,fI=>((dO jL.facts).bind fun VZ=>((xa jL.bind R3).bind fun a3j=>(bif room ((fI.map aq.c).length+([[aZ bg.name,bX (VZ.map aD.c),bX (a3j.map aX.c)]]).length) 64 then(gh aC i1 bg R3 x496 k2 tK (i2+1) (fI++([(⟨bg.name,VZ,a3j⟩:aq)])))else none)))
def fk(aC:aH)(k1:bL->Option bL):az->Nat->bL->Option bL
 | [],i1,bn=>(k1 bn)
 |bg::cj,i1,bn=>((mZ aC).bind fun aDc=>(bif aDc then((qP bg).bind fun R3=>((fy aC.ends (i1:Int)).bind fun x494=>((fy aC.nodes x494).bind fun x496=>(bif decide (x496.tokens.length<=maxLen)then(gh aC i1 bg R3 x496 (fun(tX:bL)=>(fk aC k1 cj (i1+1) tX)) x496.tokens 0 bn)else none))))else(k1 bn)))
def fc(aC:aH):Option bL:=(fk aC (fun(cM:bL)=>(some cM)) aC.rules 0 ([]:bL))
def GB(aC:aH)(W0:List aR)(dL:Int):St:=⟨[(1,bp 0 0),(3,b9 1),(4,aB dL)],[bu (aH.c aC),af 57 3 W0]⟩
def zb(aC:aH)(i1:Nat)(R3:aP)(x496:Node)(W0:List aR)(dL:Int):St:=⟨[(1,bp 0 0),(3,b9 1),(4,aB (i1:Int)),(5,b9 2),(6,bX (x496.tokens.map aV.c)),(7,aB dL)],[bu (aH.c aC),af 57 3 W0,af 113 2 (R3.map aX.c)]⟩
theorem F6(hZ:Z.nt=66){aC:aH}{i1:Nat}{bg:aO}{R3:aP}{x496:Node}{r:bL}{k2:bL->Option bL}(zc:∀(tX:bL),k2 tX=some r->Ax Z N f10 (FT r) [1,1,0,1,0,0,1,1] ⟨[(1,bp 0 0),(3,b9 1),(4,aB (i1:Int))],[bu (aH.c aC),af 57 3 (tX.map aq.c)]⟩)(hx1:(aC.rules)[i1]?=some bg)(hm2:x496.tokens.length<=maxLen):∀(rest:ar) (i2:Nat) (fI:bL),x496.tokens.drop i2=rest->gh aC i1 bg R3 x496 k2 rest i2 fI=some r->Ar Z N f10 (FT r) [1,1,0,1,0,0,1,0,0,1,1,1,0] (rest.length+1) (zb aC i1 R3 x496 (fI.map aq.c) (i2:Int)):=by
 intro rest
 induction rest with
 |nil=>
  intro i2 fI hd2 h;rw[gh]at h;refine aT fun N2 uX qp=>?_
  exact((aY.ge aV.c hd2).a [.hl 3 [1,3,4] [0,1]]).ex hZ uX (zc fI h)
 |cons jL tK ih2=>
  intro i2 fI hd2 h;rw[gh]at h;refine aT fun N2 uX qp=>?_
  obtain⟨VZ,h565,a3j,h567,h⟩:=bR h;obtain⟨h568,h⟩:=bf h;exact(((((((((aY.lt aV.c hd2).a [.n2 [0,1,2,3,4,5,6,7,8,9,10,11,12,13,14,15,16,17,18,19,20,21,22,23] [0,1,2,3,4,5,6,7,8,9,10,11,12,13,14,15,16,17,18,19,20,21,22,23] 21 22 [0] [3,4]]).l (bK aO.c 4 hx1 rfl)).l (bK aV.c 2 (dc hd2) rfl)).g (di h565)).l (bK aV.c 2 (dc hd2) rfl)).g (Kc h567)).w (cA h568)).a [.cn [1,3,4,5,6,7] [0,6,2]]).cs hZ qp (zb aC i1 R3 x496 ((fI.map aq.c)++([[aZ bg.name,bX (VZ.map aD.c),bX (a3j.map aX.c)]])) (IntKind.i64.wrap ((i2:Int)+1))) (by simp only[iS hd2 hm2,mA]<;>rfl) (ih2 (i2+1) (fI++([(⟨bg.name,VZ,a3j⟩:aq)])) (dn hd2) h)
theorem F5(hZ:Z.nt=66){aC:aH}{r:bL}{k1:bL->Option bL}(eA:∀(cM:bL),k1 cM=some r->Ax Z N f10 (FT r) [1,1,1] ⟨[(3,b9 0)],[af 57 3 (cM.map aq.c)]⟩)(hm1:aC.rules.length<=maxLen):∀(rest:az) (i1:Nat) (bn:bL),aC.rules.drop i1=rest->fk aC k1 rest i1 bn=some r->Ar Z N f10 (FT r) [1,1,0,1,0] (rest.length+1) (GB aC (bn.map aq.c) (i1:Int)):=by
 intro rest
 induction rest with
 |nil=>
  intro i1 bn bD h;rw[fk]at h;refine aT fun N1 cq cS=>?_
  exact(((((aY.ge aO.c bD).ge aO.c bD).ge aO.c bD).F 1).a [.hl 0 [3] [1]]).ex hZ cq (eA bn h)
 |cons bg cj ih1=>
  intro i1 bn bD h;rw[fk]at h;refine aT fun N1 cq cS=>?_
  obtain⟨aDc,h490,h⟩:=aG h;have fF:=((((aY.lt aO.c bD).lt aO.c bD).g (vh h490)).lt aO.c bD)
  obtain⟨h491,h⟩|⟨h491,h⟩:=aK h
  ·obtain⟨R3,h493,x494,h495,x496,h497,h⟩:=gW h;obtain⟨h569,h⟩:=bf h;refine(((((((fF.b h491).l (bK aO.c 4 (dc bD) rfl)).g (z6 h493)).a [.n 7]).l (dW jM 1 h495 rfl)).l (dW Node.c 8 h497 rfl)).a [.cn [1,3,4,5,6,7] [0,1,2]]).lp hZ (F6 hZ (fun tX h=>?_) ((drop_cons bD).1) (bh h569) x496.tokens 0 bn rfl h);exact(aY.a [.cn [1,3,4] [0,1]]).ct hZ cS (iS bD hm1) (ih1 (i1+1) tX (dn bD) h)
  ·exact((fF.b h491).a [.hl 0 [3] [1]]).ex hZ cq (eA bn h)
theorem qO{aC:aH}{r:bL}(h:fc aC=some r):Good prog 10 [bw (aH.c aC)] (cV 57 3 (r.map aq.c)):=by
 refine gd func10 [[some (57,3)]] 66 fun hr Z hZ=>?_
 rw[fc]at h;refine(aY.a [.cn [1,3,4] [0,1]]).lp hZ (F5 hZ (fun cM h=>?_) (by have:=(gX.sl (gX.agg (hr _ (aE (i:=0) rfl)) (.sl (aC.rules.map aO.c)) (by simp))).1;simpa using this) aC.rules 0 ([]:bL) rfl h);obtain rfl:=aM h;exact aY.ret hZ
def uP(aC:aq)(aa:aq):Option Bool:=(bif (aC.rule:Bytes)==aa.rule then((mi aC.facts aa.facts).bind fun y2=>(bif y2 then((jk aC.bind aa.bind).bind fun y5=>(some y5))else(some false)))else(some false))
theorem GM{aC:aq}{aa:aq}{r:Bool}(h:uP aC aa=some r):Good prog 48 [bw (aq.c aC),bw (aq.c aa)] (bO r):=by
 refine gd func48 bZ 24 fun hr Z hZ=>?_
 rw[uP]at h;obtain⟨h1,h⟩|⟨h1,h⟩:=aK h
 ·obtain⟨y2,h3,h⟩:=aG h;have lB:=(((aY.r 5 h1).g (vi h3)).b h1)
  obtain⟨h4,h⟩|⟨h4,h⟩:=aK h
  ·obtain⟨y5,h6,h⟩:=aG h;obtain rfl:=aM h;exact(((lB.r 5 h4).g (xC h6)).b h4).ret hZ
  ·obtain rfl:=aM h;exact(lB.r 6 h4).ret hZ
 ·obtain rfl:=aM h;exact((aY.r 6 h1).F 6).ret hZ
def vE(aC:bM):Option bM:=(bif room (([]:List aR).length+(aC.map jM).length) 8 then(some (([]:bM)++aC))else none)
theorem H8{aC:bM}{r:bM}(h:vE aC=some r):Good prog 115 [bX (aC.map jM)] (cV 3 1 (r.map jM)):=by
 refine gd func115 [[some (3,1)]] 5 fun hr Z hZ=>?_
 rw[vE]at h;obtain⟨h1,h⟩:=bf h;cases h;exact(((aY.w (cA h1)).w (show(∀r∈(aC.map jM),r.length=1)/\(true=true->D.jq (aC.map jM)=true)from⟨by first|simp| (intro r hr;obtain⟨x,_,rfl⟩:=cJ.1 (cO (fM hr));rfl),by simp[D.jq,D.flat]⟩)).a [.L5 2,.fl true]).rts hZ (cV 3 1 (([]:List aR)++(aC.map jM))) (by first|rfl| (simp only[mA]<;>rfl)| (simp only[cN,mA]<;>rfl))
def jX(aC:ar)(k1:ar->Option ar):ar->Nat->ar->Option ar
 | [],i1,bY=>(k1 bY)
 |bg::cj,i1,bY=>((cm bg.facts).bind fun y61=>((j7 bg.bind).bind fun y63=>(bif room ((bY.map aV.c).length+([[bX (y61.map aD.c),bX (y63.map aX.c)]]).length) 48 then(jX aC k1 cj (i1+1) (bY++([(⟨y61,y63⟩:aV)])))else none)))
def nR(aC:ar):Option ar:=(jX aC (fun(cM:ar)=>(some cM)) aC 0 ([]:ar))
def AN(aC:ar)(W0:List aR)(dL:Int):St:=⟨[(3,b9 0),(6,bX (aC.map aV.c)),(7,aB ((aC.map aV.c).length:Int)),(8,aB dL)],[af 77 2 W0]⟩
theorem G4(hZ:Z.nt=24){aC:ar}{r:ar}{k1:ar->Option ar}(eA:∀(cM:ar),k1 cM=some r->Ax Z N f118 (B9 r) [1,1,1] ⟨[(3,b9 0)],[af 77 2 (cM.map aV.c)]⟩)(hm1:aC.length<=maxLen):∀(rest:ar) (i1:Nat) (bY:ar),aC.drop i1=rest->jX aC k1 rest i1 bY=some r->Ar Z N f118 (B9 r) [1,1,0,1,0] (rest.length+1) (AN aC (bY.map aV.c) (i1:Int)):=by
 intro rest
 induction rest with
 |nil=>
  intro i1 bY bD h;rw[jX]at h;refine aT fun N1 cq cS=>?_
  exact((aY.ge aV.c bD).a [.hl 0 [3] [0]]).ex hZ cq (eA bY h)
 |cons bg cj ih1=>
  intro i1 bY bD h;rw[jX]at h;refine aT fun N1 cq cS=>?_
  obtain⟨y61,h62,y63,h64,h⟩:=bR h;obtain⟨h65,h⟩:=bf h;exact(((((((aY.lt aV.c bD).l (bK aV.c 2 (dc bD) rfl)).a [.n2 [0,1,2,3,4,5,6,7,8,9,10] [0,1,2,3,4,5,6,7,8,9,10] 8 9 [0] [2,3]]).g (cu h62)).g (s8 h64)).w (cA h65)).a [.cn [3,6,7,8] [5]]).cs hZ cS (AN aC ((bY.map aV.c)++([[bX (y61.map aD.c),bX (y63.map aX.c)]])) (IntKind.i64.wrap ((i1:Int)+1))) (by simp only[iS bD hm1,mA]<;>rfl) (ih1 (i1+1) (bY++([(⟨y61,y63⟩:aV)])) (dn bD) h)
theorem Ez{aC:ar}{r:ar}(h:nR aC=some r):Good prog 118 [bX (aC.map aV.c)] (cV 77 2 (r.map aV.c)):=by
 refine gd func118 [[some (77,2)]] 24 fun hr Z hZ=>?_
 rw[nR]at h;refine(aY.a [.L5 3,.cn [3,6,7,8] [0]]).lp hZ (G4 hZ (fun cM h=>?_) (by have:=(gX.sl (hr _ (aE (i:=0) rfl))).1;simpa using this) aC 0 ([]:ar) rfl h);obtain rfl:=aM h;exact aY.ret hZ
def jD(aC:aH)(y1:az)(y3:bM)(y5:aJ)(k1:bQ->Option aH):bQ->Nat->bQ->Option aH
 | [],i1,nF=>(k1 nF)
 |bg::cj,i1,nF=>((ew bg.shape).bind fun Va=>((cm bg.facts).bind fun y69=>(bif room ((nF.map ai.c).length+([[aZ Va.rel,bX (Va.args.map tx),bX (y69.map aD.c)]]).length) 64 then(jD aC y1 y3 y5 k1 cj (i1+1) (nF++([(⟨Va,y69⟩:ai)])))else none)))
def jE(aC:aH)(y1:az)(y3:bM)(y5:aJ)(lW:bQ)(k2:bN->Option aH):bN->Nat->bN->Option aH
 | [],i2,wz=>(k2 wz)
 |jL::tK,i2,wz=>((gG jL.cond).bind fun Jc=>((nR jL.tokens).bind fun a3e=>(bif room ((wz.map Node.c).length+([[aB jL.parent,aB Jc.kind,aZ Jc.pat.rel,bX (Jc.pat.args.map tx),aZ Jc.left,aZ Jc.right,aB jL.cX,bX (a3e.map aV.c)]]).length) 120 then(jE aC y1 y3 y5 lW k2 tK (i2+1) (wz++([(⟨jL.parent,Jc,jL.cX,a3e⟩:Node)])))else none)))
def iZ(aC:aH):Option aH:=((rM aC.rules).bind fun y1=>((vE aC.ends).bind fun y3=>((cm aC.facts).bind fun y5=>(jD aC y1 y3 y5 (fun(lW:bQ)=>(jE aC y1 y3 y5 lW (fun(nA:bN)=>(some (⟨y1,y3,lW,nA,y5,aC.cP⟩:aH))) aC.nodes 0 ([]:bN))) aC.bG 0 ([]:bQ)))))
def zV(aC:aH)(y1:az)(y3:bM)(y5:aJ)(W0:List aR)(dL:Int):St:=⟨[(1,bp 0 0),(2,bp 1 0),(3,bp 2 0),(21,bX (aC.bG.map ai.c)),(22,aB ((aC.bG.map ai.c).length:Int)),(23,aB dL)],[bu (aH.c aC),bu [D.nil,D.nil,D.nil,D.nil,D.nil,aB 0],bu [b9 3,b9 4,b9 5,D.nil,b9 6,aB aC.cP],af 63 4 (y1.map aO.c),af 3 1 (y3.map jM),af 83 3 W0,af 43 2 (y5.map aD.c)]⟩
theorem Ex(hZ:Z.nt=65){aC:aH}{y1:az}{y3:bM}{y5:aJ}{r:aH}{k1:bQ->Option aH}(eA:∀(lW:bQ),k1 lW=some r->Ax Z N f61 (vp r) [1,1,1] ⟨[(1,bp 0 0),(2,bp 1 0),(3,bp 2 0)],[bu (aH.c aC),bu [D.nil,D.nil,D.nil,D.nil,D.nil,aB 0],bu [b9 3,b9 4,b9 5,D.nil,b9 6,aB aC.cP],af 63 4 (y1.map aO.c),af 3 1 (y3.map jM),af 83 3 (lW.map ai.c),af 43 2 (y5.map aD.c)]⟩)(hm1:aC.bG.length<=maxLen):∀(rest:bQ) (i1:Nat) (nF:bQ),aC.bG.drop i1=rest->jD aC y1 y3 y5 k1 rest i1 nF=some r->Ar Z N f61 (vp r) [1,1,0,1,0] (rest.length+1) (zV aC y1 y3 y5 (nF.map ai.c) (i1:Int)):=by
 intro rest
 induction rest with
 |nil=>
  intro i1 nF bD h;rw[jD]at h;refine aT fun N1 cq cS=>?_
  exact((aY.ge ai.c bD).a [.hl 0 [1,2,3] [0,1,2,3,4,5,6]]).ex hZ cq (eA nF h)
 |cons bg cj ih1=>
  intro i1 nF bD h;rw[jD]at h;refine aT fun N1 cq cS=>?_
  obtain⟨Va,h68,y69,h70,h⟩:=bR h;obtain⟨h71,h⟩:=bf h;exact(((((((aY.lt ai.c bD).l (bK ai.c 3 (dc bD) rfl)).a [.n2 [0,1,2,3,4,5,6,7,8,9,10,11,12] [0,1,2,3,4,5,6,7,8,9,10,11,12] 9 10 [0,1] [8,9]]).g (uI h68)).g (cu h70)).w (cA h71)).a [.cn [1,2,3,21,22,23] [0,1,2,3,4,11,6]]).cs hZ cS (zV aC y1 y3 y5 ((nF.map ai.c)++([[aZ Va.rel,bX (Va.args.map tx),bX (y69.map aD.c)]])) (IntKind.i64.wrap ((i1:Int)+1))) (by simp only[iS bD hm1,mA]<;>rfl) (ih1 (i1+1) (nF++([(⟨Va,y69⟩:ai)])) (dn bD) h)
def zW(aC:aH)(y1:az)(y3:bM)(y5:aJ)(lW:bQ)(W0:List aR)(dL:Int):St:=⟨[(2,bp 0 0),(3,bp 1 0),(41,bX (aC.nodes.map Node.c)),(42,aB ((aC.nodes.map Node.c).length:Int)),(43,aB dL)],[bu [D.nil,D.nil,D.nil,D.nil,D.nil,aB 0],bu [b9 2,b9 3,b9 4,b9 5,b9 6,aB aC.cP],af 63 4 (y1.map aO.c),af 3 1 (y3.map jM),af 83 3 (lW.map ai.c),af 74 8 W0,af 43 2 (y5.map aD.c)]⟩
theorem Ey(hZ:Z.nt=65){aC:aH}{y1:az}{y3:bM}{y5:aJ}{lW:bQ}{r:aH}{k2:bN->Option aH}(zc:∀(nA:bN),k2 nA=some r->Ax Z N f61 (vp r) [1,1,1,1] ⟨[(2,bp 0 0),(3,bp 1 0)],[bu [D.nil,D.nil,D.nil,D.nil,D.nil,aB 0],bu [b9 2,b9 3,b9 4,b9 5,b9 6,aB aC.cP],af 63 4 (y1.map aO.c),af 3 1 (y3.map jM),af 83 3 (lW.map ai.c),af 74 8 (nA.map Node.c),af 43 2 (y5.map aD.c)]⟩)(hm2:aC.nodes.length<=maxLen):∀(rest:bN) (i2:Nat) (wz:bN),aC.nodes.drop i2=rest->jE aC y1 y3 y5 lW k2 rest i2 wz=some r->Ar Z N f61 (vp r) [1,1,1,0,1,0] (rest.length+1) (zW aC y1 y3 y5 lW (wz.map Node.c) (i2:Int)):=by
 intro rest
 induction rest with
 |nil=>
  intro i2 wz hd2 h;rw[jE]at h;refine aT fun N2 uX qp=>?_
  exact((aY.ge Node.c hd2).a [.hl 0 [2,3] [0,1,2,3,4,5,6]]).ex hZ uX (zc wz h)
 |cons jL tK ih2=>
  intro i2 wz hd2 h;rw[jE]at h;refine aT fun N2 uX qp=>?_
  obtain⟨Jc,h133,a3e,h135,h⟩:=bR h;obtain⟨h136,h⟩:=bf h;exact(((((((aY.lt Node.c hd2).l (bK Node.c 8 (dc hd2) rfl)).a [.n2 [0,1,2,3,4,5,6,7,8,9,10,11,12,13,14,15,16] [0,1,2,3,4,5,6,7,8,9,10,11,12,13,14,15,16] 13 14 [0,1] [8,9]]).g (mV h133)).g (Ez h135)).w (cA h136)).a [.cn [2,3,41,42,43] [0,1,2,3,4,11,6]]).cs hZ qp (zW aC y1 y3 y5 lW ((wz.map Node.c)++([[aB jL.parent,aB Jc.kind,aZ Jc.pat.rel,bX (Jc.pat.args.map tx),aZ Jc.left,aZ Jc.right,aB jL.cX,bX (a3e.map aV.c)]])) (IntKind.i64.wrap ((i2:Int)+1))) (by simp only[iS hd2 hm2,mA]<;>rfl) (ih2 (i2+1) (wz++([(⟨jL.parent,Jc,jL.cX,a3e⟩:Node)])) (dn hd2) h)
theorem mW{aC:aH}{r:aH}(h:iZ aC=some r):Good prog 61 [bw (aH.c aC)] (bw [cV 63 4 (r.rules.map aO.c),cV 3 1 (r.ends.map jM),cV 83 3 (r.bG.map ai.c),cV 74 8 (r.nodes.map Node.c),cV 43 2 (r.facts.map aD.c),aB r.cP]):=by
 refine gd func61 zo 65 fun hr Z hZ=>?_
 rw[iZ]at h;obtain⟨y1,h2,y3,h4,y5,h6,h⟩:=gW h;refine(((((aY.a [.n 13]).g (zX h2)).g (H8 h4)).g (cu h6)).a [.pb 5 2 83 3,.cn [1,2,3,21,22,23] [0,1,5,2,3,6,4]]).lp hZ (Ex hZ (fun lW h=>?_) (by have:=(gX.sl (gX.agg (hr _ (aE (i:=0) rfl)) (.sl (aC.bG.map ai.c)) (by simp))).1;simpa using this) aC.bG 0 ([]:bQ) rfl h);refine(aY.a [.pb 2 3 74 8,.cn [2,3,41,42,43] [1,2,3,4,5,7,6]]).lp hZ (Ey hZ (fun nA h=>?_) (by have:=(gX.sl (gX.agg (hr _ (aE (i:=0) rfl)) (.sl (aC.nodes.map Node.c)) (by simp))).1;simpa using this) aC.nodes 0 ([]:bN) rfl h);cases h;exact aY.ret hZ
def ld(aC:aJ)(aa:aD)(k1:Option Int):aJ->Nat->Option Int
 | [],i1=>(k1)
 |bg::cj,i1=>((qY bg aa).bind fun L7=>(bif L7 then(some (i1:Int))else(ld aC aa k1 cj (i1+1))))
def qX(aC:aJ)(aa:aD):Option Int:=(ld aC aa (some (-1)) aC 0)
def Jz(aC:aJ)(aa:aD)(dL:Int):St:=⟨[(3,bp 0 0),(7,bX (aC.map aD.c)),(8,aB ((aC.map aD.c).length:Int)),(9,aB dL)],[bu (aD.c aa)]⟩
theorem Ib(hZ:Z.nt=19){aC:aJ}{aa:aD}{r:Int}{k1:Option Int}(eA:k1=some r->Ax Z N f74 (.q bZ (aB r)) [1,1] ⟨[],[]⟩)(hm1:aC.length<=maxLen):∀(rest:aJ) (i1:Nat),aC.drop i1=rest->ld aC aa k1 rest i1=some r->Ar Z N f74 (.q bZ (aB r)) [1,0,1,0] (rest.length+1) (Jz aC aa (i1:Int)):=by
 intro rest
 induction rest with
 |nil=>
  intro i1 bD h;rw[ld]at h;refine aT fun N1 cq cS=>?_
  exact((aY.ge aD.c bD).a [.hl 0 [] []]).ex hZ cq (eA h)
 |cons bg cj ih1=>
  intro i1 bD h;rw[ld]at h;refine aT fun N1 cq cS=>?_
  obtain⟨L7,h22,h⟩:=aG h;have fF:=(((aY.lt aD.c bD).l (bK aD.c 2 (dc bD) rfl)).g (AR h22))
  obtain⟨h23,h⟩|⟨h23,h⟩:=aK h
  ·cases h;exact(fF.b h23).ret hZ
  ·exact((fF.b h23).a [.cn [3,7,8,9] [0]]).ct hZ cS (iS bD hm1) (ih1 (i1+1) (dn bD) h)
theorem wG{aC:aJ}{aa:aD}{r:Int}(h:qX aC aa=some r):Good prog 74 [bX (aC.map aD.c),bw (aD.c aa)] (aB r):=by
 refine gd func74 bZ 19 fun hr Z hZ=>?_
 rw[qX]at h;refine(aY.a [.cn [3,7,8,9] [0]]).lp hZ (Ib hZ (fun h=>?_) (by have:=(gX.sl (hr _ (aE (i:=0) rfl))).1;simpa using this) aC 0 rfl h);cases h;exact aY.ret hZ
def eP(aC:aJ)(aa:aD)(k1:Bool->aJ->Option aJ):aJ->Nat->Bool->aJ->Option aJ
 | [],i1,dX,bn=>(k1 dX bn)
 |bg::cj,i1,dX,bn=>(bif !(dX)then((gl bg aa).bind fun y93=>(bif decide ((y93:Int)>0)then((er aa).bind fun y96=>(bif room ((bn.map aD.c).length+([[aZ y96.rel,bX (y96.args.map tx)]]).length) 40 then((er bg).bind fun y99=>(bif room (((bn.map aD.c)++([[aZ y96.rel,bX (y96.args.map tx)]])).length+([[aZ y99.rel,bX (y99.args.map tx)]]).length) 40 then(eP aC aa k1 cj (i1+1) true ((bn++([y96]))++([y99])))else none))else none))else((er bg).bind fun Oz=>(bif room ((bn.map aD.c).length+([[aZ Oz.rel,bX (Oz.args.map tx)]]).length) 40 then(eP aC aa k1 cj (i1+1) dX (bn++([Oz])))else none))))else((er bg).bind fun Bd=>(bif room ((bn.map aD.c).length+([[aZ Bd.rel,bX (Bd.args.map tx)]]).length) 40 then(eP aC aa k1 cj (i1+1) dX (bn++([Bd])))else none)))
def wI(aC:aJ)(aa:aD):Option aJ:=(eP aC aa (fun(wU:Bool) (kO:aJ)=>(bif !(wU)then((er aa).bind fun a04=>(bif room ((kO.map aD.c).length+([[aZ a04.rel,bX (a04.args.map tx)]]).length) 40 then(some (kO++([a04])))else none))else(some kO))) aC 0 false ([]:aJ))
def vv(aC:aJ)(aa:aD)(dX:Bool)(W1:List aR)(dL:Int):St:=⟨[(3,bp 0 0),(5,b9 1),(6,bO dX),(9,bX (aC.map aD.c)),(10,aB ((aC.map aD.c).length:Int)),(11,aB dL)],[bu (aD.c aa),af 43 2 W1]⟩
theorem KE(hZ:Z.nt=42){aC:aJ}{aa:aD}{r:aJ}{k1:Bool->aJ->Option aJ}(eA:∀(wU:Bool) (kO:aJ),k1 wU kO=some r->Ax Z N f184 (.q B2 (cV 43 2 (r.map aD.c))) [1,1,1,1] ⟨[(3,bp 0 0),(5,b9 1),(6,bO wU)],[bu (aD.c aa),af 43 2 (kO.map aD.c)]⟩)(hm1:aC.length<=maxLen):∀(rest:aJ) (i1:Nat) (dX:Bool) (bn:aJ),aC.drop i1=rest->eP aC aa k1 rest i1 dX bn=some r->Ar Z N f184 (.q B2 (cV 43 2 (r.map aD.c))) [1,1,1,0,1,0] (rest.length+1) (vv aC aa dX (bn.map aD.c) (i1:Int)):=by
 intro rest
 induction rest with
 |nil=>
  intro i1 dX bn bD h;rw[eP]at h;refine aT fun N1 cq cS=>?_
  exact((aY.ge aD.c bD).a [.hl 0 [3,5,6] [0,1]]).ex hZ cq (eA dX bn h)
 |cons bg cj ih1=>
  intro i1 dX bn bD h;rw[eP]at h;refine aT fun N1 cq cS=>?_
  have jQ:=((aY.lt aD.c bD).l (bK aD.c 2 (dc bD) rfl))
  obtain⟨h92,h⟩|⟨h92,h⟩:=aK h
  ·obtain⟨y93,h94,h⟩:=aG h;have jz:=(((jQ.r 3 h92).g (tM h94)).r 2 h92)
   obtain⟨h95,h⟩|⟨h95,h⟩:=aK h
   ·obtain⟨y96,h97,h⟩:=aG h;obtain⟨h98,h⟩:=bf h;obtain⟨y99,h100,h⟩:=aG h;obtain⟨h101,h⟩:=bf h;exact((((((jz.b h95).g (iR h97)).w (cA h98)).g (iR h100)).w (cA h101)).a [.cn [3,5,6,9,10,11] [0,8]]).cs hZ cS (vv aC aa true (((bn.map aD.c)++([[aZ y96.rel,bX (y96.args.map tx)]]))++([[aZ y99.rel,bX (y99.args.map tx)]])) (IntKind.i64.wrap ((i1:Int)+1))) (by simp only[iS bD hm1,mA]<;>rfl) (ih1 (i1+1) true ((bn++([y96]))++([y99])) (dn bD) h)
   ·obtain⟨Oz,h103,h⟩:=aG h;obtain⟨h104,h⟩:=bf h;exact((((jz.b h95).g (iR h103)).w (cA h104)).a [.cn [3,5,6,9,10,11] [0,5]]).cs hZ cS (vv aC aa dX ((bn.map aD.c)++([[aZ Oz.rel,bX (Oz.args.map tx)]])) (IntKind.i64.wrap ((i1:Int)+1))) (by simp only[iS bD hm1,mA]<;>rfl) (ih1 (i1+1) dX (bn++([Oz])) (dn bD) h)
  ·obtain⟨Bd,h106,h⟩:=aG h;obtain⟨h107,h⟩:=bf h;exact(((((jQ.r 5 h92).F 1).g (iR h106)).w (cA h107)).a [.cn [3,5,6,9,10,11] [0,5]]).cs hZ cS (vv aC aa dX ((bn.map aD.c)++([[aZ Bd.rel,bX (Bd.args.map tx)]])) (IntKind.i64.wrap ((i1:Int)+1))) (by simp only[iS bD hm1,mA]<;>rfl) (ih1 (i1+1) dX (bn++([Bd])) (dn bD) h)
theorem Iq{aC:aJ}{aa:aD}{r:aJ}(h:wI aC aa=some r):Good prog 184 [bX (aC.map aD.c),bw (aD.c aa)] (cV 43 2 (r.map aD.c)):=by
 refine gd func184 B2 42 fun hr Z hZ=>?_
 rw[wI]at h;refine(aY.a [.L5 5,.cn [3,5,6,9,10,11] [0,1]]).lp hZ (KE hZ (fun wU kO h=>?_) (by have:=(gX.sl (hr _ (aE (i:=0) rfl))).1;simpa using this) aC 0 false ([]:aJ) rfl h);obtain⟨h108,h⟩|⟨h108,h⟩:=aK h
 ·obtain⟨a04,h110,h⟩:=aG h;obtain⟨h111,h⟩:=bf h;cases h;exact(((aY.b h108).g (iR h110)).w (cA h111)).rts hZ (cV 43 2 ((kO.map aD.c)++([[aZ a04.rel,bX (a04.args.map tx)]]))) (by first|rfl| (simp only[mA]<;>rfl)| (simp only[cN,mA]<;>rfl))
 ·obtain rfl:=aM h;exact(aY.b h108).ret hZ
def wE(aC:aJ)(aa:aD):Option (aJ×Bool):=((qV aC).bind fun y1=>(bif !(y1)then((cm aC).bind fun y4=>(some (y4,false)))else((rB aa).bind fun y6=>(bif !(y6)then((cm aC).bind fun y9=>(some (y9,false)))else((qX aC aa).bind fun yb=>(bif decide ((yb:Int)>=0)then((cm aC).bind fun Ai=>(some (Ai,false)))else(bif decide ((((aC.map aD.c).length:Int):Int)>=24)then((cm aC).bind fun Ce=>(some (Ce,false)))else((wI aC aa).bind fun AE=>(some (AE,true))))))))))
theorem BC{aC:aJ}{aa:aD}{r:aJ×Bool}(h:wE aC aa=some r):Good prog 119 [bX (aC.map aD.c),bw (aD.c aa)] (D.iw [cV 43 2 (r.1.map aD.c),bO r.2]):=by
 refine gd func119 [[some (43,2)],[none]] 30 fun hr Z hZ=>?_
 rw[wE]at h;obtain⟨y1,h2,h⟩:=aG h;obtain⟨h3,h⟩|⟨h3,h⟩:=aK h
 ·obtain⟨y4,h5,h⟩:=aG h;cases h;exact((((aY.g (sW h2)).r 4 h3).T 10).g (cu h5)).ret hZ
 ·obtain⟨y6,h7,h⟩:=aG h;have lB:=((((aY.g (sW h2)).r 2 h3).g (xu h7)).r 2 h3)
  obtain⟨h8,h⟩|⟨h8,h⟩:=aK h
  ·obtain⟨y9,h10,h⟩:=aG h;cases h;exact(((lB.r 5 h8).T 5).g (cu h10)).ret hZ
  ·obtain⟨yb,h12,h⟩:=aG h;have fF:=(((lB.r 3 h8).g (wG h12)).r 2 h8)
   obtain⟨h13,h⟩|⟨h13,h⟩:=aK h
   ·obtain⟨Ai,h15,h⟩:=aG h;cases h;exact(((fF.r 4 h13).T 1).g (cu h15)).ret hZ
   ·have jQ:=(fF.r 4 h13)
    obtain⟨h16,h⟩|⟨h16,h⟩:=aK h
    ·obtain⟨Ce,h18,h⟩:=aG h;cases h;exact((jQ.b h16).g (cu h18)).ret hZ
    ·obtain⟨AE,h20,h⟩:=aG h;cases h;exact((jQ.b h16).g (Iq h20)).ret hZ
def fY(aC:aJ)(aa:aJ)(k1:Option Int):aJ->Nat->Option Int
 | [],i1=>(k1)
 |bg::cj,i1=>(bif decide (((i1:Int):Int)<((aa.map aD.c).length:Int))then((fy aa (i1:Int)).bind fun x34=>((gl bg x34).bind fun Oa=>(bif (Oa:Int) != 0 then(some Oa)else(fY aC aa k1 cj (i1+1)))))else(k1))
def qJ(aC:aJ)(aa:aJ):Option Int:=(fY aC aa ((jW ((aC.map aD.c).length:Int) ((aa.map aD.c).length:Int)).bind fun FP=>(some FP)) aC 0)
def C5(aC:aJ)(aa:aJ)(dL:Int):St:=⟨[(0,bX (aC.map aD.c)),(1,bX (aa.map aD.c)),(5,aB dL)],[]⟩
theorem BU(hZ:Z.nt=36){aC:aJ}{aa:aJ}{r:Int}{k1:Option Int}(eA:k1=some r->Ax Z N f232 (.q bZ (aB r)) [1,1] ⟨[(0,bX (aC.map aD.c)),(1,bX (aa.map aD.c))],[]⟩)(hm1:aC.length<=maxLen):∀(rest:aJ) (i1:Nat),aC.drop i1=rest->fY aC aa k1 rest i1=some r->Ar Z N f232 (.q bZ (aB r)) [1,0,1,0] (rest.length+1) (C5 aC aa (i1:Int)):=by
 intro rest
 induction rest with
 |nil=>
  intro i1 bD h;rw[fY]at h;refine aT fun N1 cq cS=>?_
  exact(((((((aY.ge aD.c bD).ge aD.c bD).ge aD.c bD).ge aD.c bD).ge aD.c bD).F 1).a [.hl 0 [0,1] []]).ex hZ cq (eA h)
 |cons bg cj ih1=>
  intro i1 bD h;rw[fY]at h;refine aT fun N1 cq cS=>?_
  have jQ:=(((((aY.lt aD.c bD).lt aD.c bD).lt aD.c bD).lt aD.c bD).lt aD.c bD)
  obtain⟨h33,h⟩|⟨h33,h⟩:=aK h
  ·obtain⟨x34,h35,Oa,h37,h⟩:=bR h;have jz:=(((((jQ.b h33).a [.n 8]).l (bK aD.c 2 (dc bD) rfl)).l (dW aD.c 2 h35 rfl)).g (tM h37))
   obtain⟨h38,h⟩|⟨h38,h⟩:=aK h
   ·obtain rfl:=aM h;exact(jz.b h38).ret hZ
   ·exact((jz.b h38).a [.cn [0,1,5] []]).ct hZ cS (iS bD hm1) (ih1 (i1+1) (dn bD) h)
  ·exact((jQ.b h33).a [.hl 0 [0,1] []]).ex hZ cq (eA h)
theorem Aw{aC:aJ}{aa:aJ}{r:Int}(h:qJ aC aa=some r):Good prog 232 [bX (aC.map aD.c),bX (aa.map aD.c)] (aB r):=by
 refine gd func232 bZ 36 fun hr Z hZ=>?_
 rw[qJ]at h;refine(aY.a [.cn [0,1,5] []]).lp hZ (BU hZ (fun h=>?_) (by have:=(gX.sl (hr _ (aE (i:=0) rfl))).1;simpa using this) aC 0 rfl h);obtain⟨FP,h40,h⟩:=aG h;obtain rfl:=aM h;exact(aY.g (uF h40)).ret hZ
def pT(aC:aV)(aa:aV):Option Int:=((qJ aC.facts aa.facts).bind fun y1=>(some y1))
theorem Cq{aC:aV}{aa:aV}{r:Int}(h:pT aC aa=some r):Good prog 220 [bw (aV.c aC),bw (aV.c aa)] (aB r):=by
 refine gd func220 bZ 10 fun hr Z hZ=>?_
 rw[pT]at h;obtain⟨y1,h2,h⟩:=aG h;obtain rfl:=aM h;exact(aY.g (Aw h2)).ret hZ
def lz(aC:ar)(aa:aV)(k1:Option Bool):ar->Nat->Option Bool
 | [],i1=>(k1)
 |bg::cj,i1=>((pT bg aa).bind fun L7=>(bif (L7:Int)==0 then(some true)else(lz aC aa k1 cj (i1+1))))
def vG(aC:ar)(aa:aV):Option Bool:=(lz aC aa (some false) aC 0)
def KC(aC:ar)(aa:aV)(dL:Int):St:=⟨[(3,bp 0 0),(7,bX (aC.map aV.c)),(8,aB ((aC.map aV.c).length:Int)),(9,aB dL)],[bu (aV.c aa)]⟩
theorem Ip(hZ:Z.nt=18){aC:ar}{aa:aV}{r:Bool}{k1:Option Bool}(eA:k1=some r->Ax Z N f185 (.q bZ (bO r)) [1,1] ⟨[],[]⟩)(hm1:aC.length<=maxLen):∀(rest:ar) (i1:Nat),aC.drop i1=rest->lz aC aa k1 rest i1=some r->Ar Z N f185 (.q bZ (bO r)) [1,0,1,0] (rest.length+1) (KC aC aa (i1:Int)):=by
 intro rest
 induction rest with
 |nil=>
  intro i1 bD h;rw[lz]at h;refine aT fun N1 cq cS=>?_
  exact((aY.ge aV.c bD).a [.hl 0 [] []]).ex hZ cq (eA h)
 |cons bg cj ih1=>
  intro i1 bD h;rw[lz]at h;refine aT fun N1 cq cS=>?_
  obtain⟨L7,h22,h⟩:=aG h;have fF:=(((aY.lt aV.c bD).l (bK aV.c 2 (dc bD) rfl)).g (Cq h22))
  obtain⟨h23,h⟩|⟨h23,h⟩:=aK h
  ·obtain rfl:=aM h;exact(fF.b h23).ret hZ
  ·exact((fF.b h23).a [.cn [3,7,8,9] [0]]).ct hZ cS (iS bD hm1) (ih1 (i1+1) (dn bD) h)
theorem HC{aC:ar}{aa:aV}{r:Bool}(h:vG aC aa=some r):Good prog 185 [bX (aC.map aV.c),bw (aV.c aa)] (bO r):=by
 refine gd func185 bZ 18 fun hr Z hZ=>?_
 rw[vG]at h;refine(aY.a [.cn [3,7,8,9] [0]]).lp hZ (Ip hZ (fun h=>?_) (by have:=(gX.sl (hr _ (aE (i:=0) rfl))).1;simpa using this) aC 0 rfl h);obtain rfl:=aM h;exact aY.ret hZ
def l6(aC:aH)(cv:aD)(y3:aH×Unit)(oJ:Int)(i1:Nat)(bg:Node)(x313:Node)(k2:Int->Int->Option aH):ar->Nat->Int->Int->Option aH
 | [],i2,DG,DH=>(k2 DG DH)
 |jL::tK,i2,DG,DH=>((fy aC.nodes bg.parent).bind fun x359=>((vG x359.tokens jL).bind fun aDb=>(bif aDb then(l6 aC cv y3 oJ i1 bg x313 k2 tK (i2+1) (IntKind.i64.wrap (DG+1)) DH)else(l6 aC cv y3 oJ i1 bg x313 k2 tK (i2+1) DG (IntKind.i64.wrap (DH+1))))))
def gI(aC:aH)(cv:aD)(y3:aH×Unit)(k1:Int->Option aH):bN->Nat->Int->Option aH
 | [],i1,oJ=>(k1 oJ)
 |bg::cj,i1,oJ=>(bif ((i1:Int):Int)==0 then(gI aC cv y3 k1 cj (i1+1) oJ)else((fy y3.1.nodes bg.parent).bind fun x313=>(bif decide (x313.tokens.length<=maxLen)then(l6 aC cv y3 oJ i1 bg x313 (fun(SN:Int) (Ju:Int)=>(bif decide ((bg.cX:Int)<0)then(gI aC cv y3 k1 cj (i1+1) (IntKind.i64.wrap (oJ+Ju)))else((fy y3.1.bG bg.cX).bind fun x365=>((kD x365.shape cv ([])).bind fun a06=>(bif a06.2 then(gI aC cv y3 k1 cj (i1+1) (IntKind.i64.wrap ((IntKind.i64.wrap (oJ+(IntKind.i64.wrap (Ju*((x365.facts.map aD.c).length:Int)))))+SN)))else(gI aC cv y3 k1 cj (i1+1) (IntKind.i64.wrap (oJ+(IntKind.i64.wrap (Ju*((x365.facts.map aD.c).length:Int))))))))))) x313.tokens 0 0 0)else none)))
def uE(aC:aH)(aa:aJ)(cv:aD):Option aH:=((iZ aC).bind fun y1=>((k9 y1 aa).bind fun y3=>(bif decide (y3.1.nodes.length<=maxLen)then(gI aC cv y3 (fun(wS:Int)=>(some (⟨y3.1.rules,y3.1.ends,y3.1.bG,y3.1.nodes,y3.1.facts,wS⟩:aH))) y3.1.nodes 0 y3.1.cP)else none)))
def La(aC:aH)(cv:aD)(y3:aH×Unit)(oJ:Int)(dL:Int):St:=⟨[(3,bp 0 0),(5,bp 1 0),(6,bp 2 0),(7,bp 3 0),(22,b9 4),(23,aB ((y3.1.nodes.map Node.c).length:Int)),(24,aB dL)],[bu (aH.c aC),bu (aD.c cv),bu [D.nil,D.nil,D.nil,D.nil,D.nil,aB 0],bu [b9 5,b9 6,b9 7,b9 4,b9 8,aB oJ],af 74 8 (y3.1.nodes.map Node.c),af 63 4 (y3.1.rules.map aO.c),af 3 1 (y3.1.ends.map jM),af 83 3 (y3.1.bG.map ai.c),af 43 2 (y3.1.facts.map aD.c)]⟩
def Lc(aC:aH)(cv:aD)(y3:aH×Unit)(oJ:Int)(i1:Nat)(bg:Node)(x313:Node)(DG:Int)(DH:Int)(dL:Int):St:=⟨[(3,bp 0 0),(5,bp 1 0),(6,bp 2 0),(7,bp 3 0),(9,bp 4 0),(10,aB DG),(11,aB DH),(22,b9 5),(23,aB ((y3.1.nodes.map Node.c).length:Int)),(24,aB (i1:Int)),(37,bX (x313.tokens.map aV.c)),(38,aB ((x313.tokens.map aV.c).length:Int)),(39,aB dL)],[bu (aH.c aC),bu (aD.c cv),bu [D.nil,D.nil,D.nil,D.nil,D.nil,aB 0],bu [b9 6,b9 7,b9 8,b9 5,b9 9,aB oJ],bu [aB bg.parent,aB bg.cond.kind,aZ bg.cond.pat.rel,bX (bg.cond.pat.args.map tx),aZ bg.cond.left,aZ bg.cond.right,aB bg.cX,bX (bg.tokens.map aV.c)],af 74 8 (y3.1.nodes.map Node.c),af 63 4 (y3.1.rules.map aO.c),af 3 1 (y3.1.ends.map jM),af 83 3 (y3.1.bG.map ai.c),af 43 2 (y3.1.facts.map aD.c)]⟩
theorem K8(hZ:Z.nt=95){aC:aH}{cv:aD}{y3:aH×Unit}{oJ:Int}{i1:Nat}{bg:Node}{x313:Node}{r:aH}{k2:Int->Int->Option aH}(zc:∀(SN:Int) (Ju:Int),k2 SN Ju=some r->Ax Z N f120 (vp r) [1,1,1,0,1,0,0,1,1,0,0,1,1,1,1] ⟨[(3,bp 0 0),(5,bp 1 0),(6,bp 2 0),(7,bp 3 0),(9,bp 4 0),(10,aB SN),(11,aB Ju),(22,b9 5),(23,aB ((y3.1.nodes.map Node.c).length:Int)),(24,aB (i1:Int))],[bu (aH.c aC),bu (aD.c cv),bu [D.nil,D.nil,D.nil,D.nil,D.nil,aB 0],bu [b9 6,b9 7,b9 8,b9 5,b9 9,aB oJ],bu [aB bg.parent,aB bg.cond.kind,aZ bg.cond.pat.rel,bX (bg.cond.pat.args.map tx),aZ bg.cond.left,aZ bg.cond.right,aB bg.cX,bX (bg.tokens.map aV.c)],af 74 8 (y3.1.nodes.map Node.c),af 63 4 (y3.1.rules.map aO.c),af 3 1 (y3.1.ends.map jM),af 83 3 (y3.1.bG.map ai.c),af 43 2 (y3.1.facts.map aD.c)]⟩)(hm2:x313.tokens.length<=maxLen):∀(rest:ar) (i2:Nat) (DG:Int) (DH:Int),x313.tokens.drop i2=rest->l6 aC cv y3 oJ i1 bg x313 k2 rest i2 DG DH=some r->Ar Z N f120 (vp r) [1,1,1,0,1,0,0,1,1,0,0,1,1,1,0,1,0] (rest.length+1) (Lc aC cv y3 oJ i1 bg x313 DG DH (i2:Int)):=by
 intro rest
 induction rest with
 |nil=>
  intro i2 DG DH hd2 h;rw[l6]at h;refine aT fun N2 uX qp=>?_
  exact((aY.ge aV.c hd2).a [.hl 5 [3,5,6,7,9,10,11,22,23,24] [0,1,2,3,4,5,6,7,8,9]]).ex hZ uX (zc DG DH h)
 |cons jL tK ih2=>
  intro i2 DG DH hd2 h;rw[l6]at h;refine aT fun N2 uX qp=>?_
  obtain⟨x359,h360,aDb,h362,h⟩:=bR h;have Mb:=(((((aY.lt aV.c hd2).l (bK aV.c 2 (dc hd2) rfl)).a [.n 8]).l (dW Node.c 8 h360 rfl)).g (HC h362))
  obtain⟨h363,h⟩|⟨h363,h⟩:=aK h
  ·exact((Mb.b h363).a [.cn [3,5,6,7,9,10,11,22,23,24,37,38,39] [0,1,2,3,4,5,6,7,8,9]]).ct hZ qp (iS hd2 hm2) (ih2 (i2+1) (IntKind.i64.wrap (DG+1)) DH (dn hd2) h)
  ·exact((Mb.b h363).a [.cn [3,5,6,7,9,10,11,22,23,24,37,38,39] [0,1,2,3,4,5,6,7,8,9]]).ct hZ qp (iS hd2 hm2) (ih2 (i2+1) DG (IntKind.i64.wrap (DH+1)) (dn hd2) h)
theorem K7(hZ:Z.nt=95){aC:aH}{cv:aD}{y3:aH×Unit}{r:aH}{k1:Int->Option aH}(eA:∀(wS:Int),k1 wS=some r->Ax Z N f120 (vp r) [1,1,1,1] ⟨[(6,bp 0 0),(7,bp 1 0)],[bu [D.nil,D.nil,D.nil,D.nil,D.nil,aB 0],bu [b9 2,b9 3,b9 4,b9 5,b9 6,aB wS],af 63 4 (y3.1.rules.map aO.c),af 3 1 (y3.1.ends.map jM),af 83 3 (y3.1.bG.map ai.c),af 74 8 (y3.1.nodes.map Node.c),af 43 2 (y3.1.facts.map aD.c)]⟩)(hm1:y3.1.nodes.length<=maxLen):∀(rest:bN) (i1:Nat) (oJ:Int),y3.1.nodes.drop i1=rest->gI aC cv y3 k1 rest i1 oJ=some r->Ar Z N f120 (vp r) [1,1,1,0,1,0] (rest.length+1) (La aC cv y3 oJ (i1:Int)):=by
 intro rest
 induction rest with
 |nil=>
  intro i1 oJ bD h;rw[gI]at h;refine aT fun N1 cq cS=>?_
  exact((aY.ge Node.c bD).a [.hl 0 [6,7] [2,3,5,6,7,4,8]]).ex hZ cq (eA oJ h)
 |cons bg cj ih1=>
  intro i1 oJ bD h;rw[gI]at h;refine aT fun N1 cq cS=>?_
  have V5:=(((aY.lt Node.c bD).i (fG Node.c 8 (dc bD))).o 8 8 .uq (cL Node.c (dc bD)))
  obtain⟨h312,h⟩|⟨h312,h⟩:=aK h
  ·exact((V5.b h312).a [.cn [3,5,6,7,22,23,24] [0,1,2,3,4,5,6,7,8]]).ct hZ cS (iS bD hm1) (ih1 (i1+1) oJ (dn bD) h)
  ·obtain⟨x313,h314,h⟩:=aG h;obtain⟨h370,h⟩:=bf h;refine((((V5.b h312).i (fH Node.c 8 h314)).o 8 8 .uq (cL Node.c (dl h314))).a [.cn [3,5,6,7,9,10,11,22,23,24,37,38,39] [0,1,2,3,9,4,5,6,7,8]]).lp hZ (K8 hZ (fun SN Ju h=>?_) (bh h370) x313.tokens 0 0 0 rfl h);obtain⟨h364,h⟩|⟨h364,h⟩:=aK h
   ·exact((aY.b h364).a [.cn [3,5,6,7,22,23,24] [0,1,2,3,5,6,7,8,9]]).ct hZ cS (iS bD hm1) (ih1 (i1+1) (IntKind.i64.wrap (oJ+Ju)) (dn bD) h)
   ·obtain⟨x365,h366,a06,h368,h⟩:=bR h;have V6:=(((((aY.b h364).i (fH ai.c 3 h366)).o 3 3 .uq (cL ai.c (dl h366))).a [.d (D.iw [cV 113 2 (a06.1.map aX.c),bO a06.2])]).w (show Good prog 186 [bw (aD.c x365.shape),bw (aD.c cv),bX ([])] (D.iw [cV 113 2 (a06.1.map aX.c),bO a06.2])from by first| (simpa only[bI,bA,cF,cD,cI]using rz h368)|exact rz h368))
    obtain⟨h369,h⟩|⟨h369,h⟩:=aK h
    ·exact((V6.b h369).a [.cn [3,5,6,7,22,23,24] [0,1,2,3,5,6,7,8,9]]).ct hZ cS (iS bD hm1) (ih1 (i1+1) (IntKind.i64.wrap ((IntKind.i64.wrap (oJ+(IntKind.i64.wrap (Ju*((x365.facts.map aD.c).length:Int)))))+SN)) (dn bD) h)
    ·exact((V6.b h369).a [.cn [3,5,6,7,22,23,24] [0,1,2,3,5,6,7,8,9]]).ct hZ cS (iS bD hm1) (ih1 (i1+1) (IntKind.i64.wrap (oJ+(IntKind.i64.wrap (Ju*((x365.facts.map aD.c).length:Int))))) (dn bD) h)
theorem BF{aC:aH}{aa:aJ}{cv:aD}{r:aH}(h:uE aC aa cv=some r):Good prog 120 [bw (aH.c aC),bX (aa.map aD.c),bw (aD.c cv)] (bw [cV 63 4 (r.rules.map aO.c),cV 3 1 (r.ends.map jM),cV 83 3 (r.bG.map ai.c),cV 74 8 (r.nodes.map Node.c),cV 43 2 (r.facts.map aD.c),aB r.cP]):=by
 refine gd func120 zo 95 fun hr Z hZ=>?_
 rw[uE]at h;obtain⟨y1,h2,y3,h4,h⟩:=bR h;obtain⟨h371,h⟩:=bf h;refine(((aY.g (mW h2)).hp sI (vr h4)).a [.cn [3,5,6,7,22,23,24] [0,1,2,8,12,9,10,11,13]]).lp hZ (K7 hZ (fun wS h=>?_) (bh h371) y3.1.nodes 0 y3.1.cP rfl h);cases h;exact aY.ret hZ
def F0(aC:aH)(aa:aD):Option (aH×Bool):=((wE aC.facts aa).bind fun y1=>(bif !(y1.2)then((iZ aC).bind fun y4=>(some (y4,false)))else((uE aC y1.1 aa).bind fun y6=>(some (y6,true)))))
theorem Of{aC:aH}{aa:aD}{r:aH×Bool}(h:F0 aC aa=some r):Good prog 62 [bw (aH.c aC),bw (aD.c aa)] (D.iw [bw [cV 63 4 (r.1.rules.map aO.c),cV 3 1 (r.1.ends.map jM),cV 83 3 (r.1.bG.map ai.c),cV 74 8 (r.1.nodes.map Node.c),cV 43 2 (r.1.facts.map aD.c),aB r.1.cP],bO r.2]):=by
 refine gd func62 sI 23 fun hr Z hZ=>?_
 rw[F0]at h;obtain⟨y1,h2,h⟩:=aG h;obtain⟨h3,h⟩|⟨h3,h⟩:=aK h
 ·obtain⟨y4,h5,h⟩:=aG h;cases h;exact(((aY.g (BC h2)).b h3).g (mW h5)).ret hZ
 ·obtain⟨y6,h7,h⟩:=aG h;cases h;exact(((aY.g (BC h2)).b h3).g (BF h7)).ret hZ
def qk(aC:aH)(aa:aD):Option (aH×Bool):=((oV aC).bind fun y1=>(bif !(y1)then((iZ aC).bind fun y4=>(some (y4,false)))else((F0 aC aa).bind fun y6=>(some (y6.1,y6.2)))))
theorem DQ{aC:aH}{aa:aD}{r:aH×Bool}(h:qk aC aa=some r):Good prog 21 [bw (aH.c aC),bw (aD.c aa)] (D.iw [bw [cV 63 4 (r.1.rules.map aO.c),cV 3 1 (r.1.ends.map jM),cV 83 3 (r.1.bG.map ai.c),cV 74 8 (r.1.nodes.map Node.c),cV 43 2 (r.1.facts.map aD.c),aB r.1.cP],bO r.2]):=by
 refine gd func21 sI 16 fun hr Z hZ=>?_
 rw[qk]at h;obtain⟨y1,h2,h⟩:=aG h;obtain⟨h3,h⟩|⟨h3,h⟩:=aK h
 ·obtain⟨y4,h5,h⟩:=aG h;cases h;exact(((aY.g (ru h2)).b h3).g (mW h5)).ret hZ
 ·obtain⟨y6,h7,h⟩:=aG h;cases h;exact(((aY.g (ru h2)).b h3).g (Of h7)).ret hZ
end Go.Cx

/- What functions of the program compute, and the walks that show it. No condition. -/
import Derived.Test.YtfankinmlfnncaaGreatDoorPFnKeepsUpG4
set_option linter.unusedVariables false
set_option linter.unusedSimpArgs false
namespace Go.Cx
open Go.RowKit Go.Proofs Tryz
set_option maxRecDepth 100000
variable{Γ:vn}{N:Nat->St->Prop}
def gZ(y1:cQ×(Bytes×Int))(k1:bH->Int->Int->aH->Option (cQ×aC)):Nat->Int->bH->Int->Int->aH->Option (cQ×aC)
 |0,_,_,_,_,_=>none
 |n1+1,dH,eg,dV,dW,dK=>(bif decide ((dH:Int)<y1.2.2)then((iR (⟨eg,dV,dW⟩:cQ)).bind fun yT=>(bif room ((dK.map tx).length+([[D.str yT.2]]).length) 16 then(gZ y1 k1 n1 (IntKind.i64.wrap (dH+1)) yT.1.b yT.1.i yT.1.h (dK++([yT.2])))else none))else(k1 eg dV dW dK))
def ew(aD:cQ):Option (cQ×aC):=((oY aD).bind fun y1=>(gZ y1 (fun(mM:bH) (mN:Int) (mO:Int) (dl:aH)=>(some ((⟨mM,mN,mO⟩:cQ),(⟨y1.2.1,dl⟩:aC)))) fuel 0 y1.1.b y1.1.i y1.1.h ([]:aH)))
def DD(iU:Value)(y1:cQ×(Bytes×Int))(dH:Int)(dV:Int)(dW:Int)(W1:List aQ)(W4:List aQ):St:=⟨[(0,D.ptr 0 0),(2,D.ptr 1 0),(4,D.int .i64 y1.2.2),(5,D.ptr 2 0),(6,D.int .i64 dH)],[Ob.Bq [D.sl W1,D.int .i64 dV,D.int .i64 dW] iU,Ob.box [D.str ([]),D.nil],Ob.box [D.str y1.2.1,D.acc 3],Ob.row .uq 9 1 W4]⟩
theorem Ka(hΓ:Γ.nt=27){iU:Value}{y1:cQ×(Bytes×Int)}{r:cQ×aC}{k1:bH->Int->Int->aH->Option (cQ×aC)}(dX:∀(mM:bH) (mN:Int) (mO:Int) (dl:aH),k1 mM mN mO dl=some r->Ax Γ N f113 (.p [[none,none,none],[none,some (9,1)]] iU (cQ.c r.1) (D.agg [D.str r.2.rel,D.fr 9 1 (r.2.args.map tx)])) [1,1,1,1] ⟨[(2,D.ptr 1 0),(5,D.ptr 2 0)],[Ob.Bq [D.sl (mM.map yx),D.int .i64 mN,D.int .i64 mO] iU,Ob.box [D.str ([]),D.nil],Ob.box [D.str y1.2.1,D.acc 3],Ob.row .uq 9 1 (dl.map tx)]⟩):∀(n1:Nat) (dH:Int) (eg:bH) (dV:Int) (dW:Int) (dK:aH),gZ y1 k1 n1 dH eg dV dW dK=some r->Ar Γ N f113 (.p [[none,none,none],[none,some (9,1)]] iU (cQ.c r.1) (D.agg [D.str r.2.rel,D.fr 9 1 (r.2.args.map tx)])) [1,1,1,0,1,0] n1 (DD iU y1 dH dV dW (eg.map yx) (dK.map tx)):=by
 intro n
 induction n with
 |zero=>intro dH eg dV dW dK h;simp[gZ]at h
 |succ n1 ih1=>
  intro dH eg dV dW dK h;rw[gZ]at h;refine aU fun N1 cW cK=>?_
  obtain⟨h27,h⟩|⟨h27,h⟩:=aL h
  ·obtain⟨yT,h31,h⟩:=aB h;obtain⟨h32,h⟩:=bQ h;exact(((((aW.b h27).a [.n2 [0,1,2,3,4,5,6,7] [0,1,2,3,4,5,6,7] 3 5 [0,1] [0],.gp [[none,none,none]] (cQ.c yT.1) (D.str yT.2)]).w (show iL prog 181 (cQ.c (⟨eg,dV,dW⟩:cQ)) (cQ.c yT.1) [] (D.str yT.2)from by simpa only[bD,au,bg,bZ,bh]using xJ h31)).w (bX h32)).a [.cn [0,2,4,5,6] [0,1,2,5]]).cs hΓ cK (DD iU y1 (IntKind.i64.wrap (dH+1)) yT.1.i yT.1.h (yT.1.b.map yx) ((dK.map tx)++([[D.str yT.2]]))) (by first| (simp only[mA]<;>rfl)| (simp only[mA,aC.c,aV.c,aP.c,Action.c,aK.c,aO.c,bM.c,aX.c,Node.c,aG.c,dL.c]<;>rfl)) (ih1 (IntKind.i64.wrap (dH+1)) yT.1.b yT.1.i yT.1.h (dK++([yT.2])) h)
  ·exact((aW.b h27).a [.hl 0 [2,5] [0,1,2,3]]).ex hΓ cW (dX eg dV dW dK h)
theorem oJ{aD:cQ}{r:cQ×aC}(h:ew aD=some r):iL prog 113 (cQ.c aD) (cQ.c r.1) [] (D.agg [D.str r.2.rel,D.fr 9 1 (r.2.args.map tx)]):=by
 refine Jt func113 [[none,none,none],[none,some (9,1)]] 27 [D.sl (aD.b.map yx),D.int .i64 aD.i,D.int .i64 aD.h] [] [] fun hr iU Γ hΓ=>?_
 rw[ew]at h;obtain⟨y1,h2,h⟩:=aB h;refine((aW.hp [[none,none,none]] (CD h2)).a [.pb 2 1 9 1,.cn [0,2,4,5,6] [0,1,2,3]]).lp hΓ (Ka hΓ (fun mM mN mO dl h=>?_) fuel 0 y1.1.b y1.1.i y1.1.h ([]:aH) h);cases h;exact aW.ret hΓ
def u9(aD:Bytes)(aY:Bytes):Option Int:=(bif Op.bytesLess aD aY then(some (-1))else(bif !(Op.bytesLess aD aY||(aD:Bytes)==aY)then(some 1)else(some 0)))
theorem yF{aD:Bytes}{aY:Bytes}{r:Int}(h:u9 aD aY=some r):Good prog 154 [D.str aD,D.str aY] (D.int .i64 r):=by
 refine gd func154 [[none]] 13 fun hr Γ hΓ=>?_
 rw[u9]at h;obtain⟨h1,h⟩|⟨h1,h⟩:=aL h
 ·cases h;exact(aW.b h1).ret hΓ
 ·obtain⟨h2,h⟩|⟨h2,h⟩:=aL h
  ·have h:=aN h;subst h;exact((aW.b h1).b h2).ret hΓ
  ·have h:=aN h;subst h;exact((aW.b h1).b h2).ret hΓ
def k6(aD:Bytes)(aY:Bytes):Option Int:=((nW aD).bind fun y1=>((nW aY).bind fun y3=>(bif y1.2 then(bif y3.2 then(bif decide ((y1.1:Int)<y3.1)then(some (-1))else(bif !(y3.2)then(some (-1))else(bif decide ((y1.1:Int)>y3.1)then(some 1)else(bif !(y1.2)then(some 1)else(some 0)))))else(bif !(y3.2)then(some (-1))else(some 0)))else(bif y3.2 then(bif !(y1.2)then(some 1)else((u9 aD aY).bind fun yW=>(some yW)))else((u9 aD aY).bind fun PM=>(some PM))))))
theorem wi{aD:Bytes}{aY:Bytes}{r:Int}(h:k6 aD aY=some r):Good prog 155 [D.str aD,D.str aY] (D.int .i64 r):=by
 refine gd func155 [[none]] 54 fun hr Γ hΓ=>?_
 rw[k6]at h;obtain⟨y1,h2,h⟩:=aB h;obtain⟨y3,h4,h⟩:=aB h;have kX:=((aW.g (rU h2)).g (rU h4))
 obtain⟨h5,h⟩|⟨h5,h⟩:=aL h
 ·have fE:=(kX.r 2 h5)
  obtain⟨h6,h⟩|⟨h6,h⟩:=aL h
  ·have ij:=(fE.r 4 h6)
   obtain⟨h7,h⟩|⟨h7,h⟩:=aL h
   ·cases h;exact(ij.r 2 h7).ret hΓ
   ·have jO:=((ij.b h7).r 3 h5)
    obtain⟨h8,h⟩|⟨h8,h⟩:=aL h
    ·cases h;exact(jO.b h8).ret hΓ
    ·have tS:=(((jO.b h8).r 2 h5).r 4 h6)
     obtain⟨h9,h⟩|⟨h9,h⟩:=aL h
     ·have h:=aN h;subst h;exact(tS.r 2 h9).ret hΓ
     ·have wK:=((tS.b h9).r 3 h6)
      obtain⟨h10,h⟩|⟨h10,h⟩:=aL h
      ·have h:=aN h;subst h;exact(wK.b h10).ret hΓ
      ·have h:=aN h;subst h;exact((wK.b h10).b h5).ret hΓ
  ·have z7:=(((fE.r 4 h6).F 1).r 3 h5)
   obtain⟨h11,h⟩|⟨h11,h⟩:=aL h
   ·cases h;exact(z7.b h11).ret hΓ
   ·have h:=aN h;subst h;exact(((((((z7.b h11).r 2 h5).r 4 h6).F 1).r 3 h6).F 1).b h5).ret hΓ
 ·have DY:=((((((kX.r 2 h5).F 5).r 3 h5).F 1).r 2 h5).F 5)
  obtain⟨h12,h⟩|⟨h12,h⟩:=aL h
  ·have LL:=(DY.r 3 h12)
   obtain⟨h13,h⟩|⟨h13,h⟩:=aL h
   ·have h:=aN h;subst h;exact(LL.b h13).ret hΓ
   ·obtain⟨yW,h15,h⟩:=aB h;have h:=aN h;subst h;exact(((LL.b h13).b h5).g (yF h15)).ret hΓ
  ·obtain⟨PM,h17,h⟩:=aB h;have h:=aN h;subst h;exact((((DY.r 3 h12).F 1).b h5).g (yF h17)).ret hΓ
def je(aD:aC)(aY:aC)(k1:Option Int):aH->Nat->Option Int
 | [],i1=>(k1)
 |bS::cT,i1=>(bif decide (((i1:Int):Int)<((aY.args.map tx).length:Int))then((fy aY.args (i1:Int)).bind fun x37=>((k6 bS x37).bind fun EZ=>(bif (EZ:Int) != 0 then(some EZ)else(je aD aY k1 cT (i1+1)))))else(k1))
def fS(aD:aC)(aY:aC):Option Int:=(bif !((aD.rel:Bytes)==aY.rel)then((u9 aD.rel aY.rel).bind fun y2=>(some y2))else(je aD aY (bif decide ((((aD.args.map tx).length:Int):Int)<((aY.args.map tx).length:Int))then(some (-1))else(bif decide ((((aD.args.map tx).length:Int):Int)>((aY.args.map tx).length:Int))then(some 1)else(some 0))) aD.args 0))
def EE(aD:aC)(aY:aC)(dG:Int):St:=⟨[(2,D.ptr 0 0),(3,D.ptr 1 0),(5,D.int .i64 dG)],[Ob.box (aC.c aD),Ob.box (aC.c aY)]⟩
theorem D7(hΓ:Γ.nt=61){aD:aC}{aY:aC}{r:Int}{k1:Option Int}(dX:k1=some r->Ax Γ N f92 (.q [[none]] (D.int .i64 r)) [1,1,1] ⟨[(2,D.ptr 0 0),(3,D.ptr 1 0)],[Ob.box (aC.c aD),Ob.box (aC.c aY)]⟩)(hm1:aD.args.length<=maxLen):∀(rest:aH) (i1:Nat),aD.args.drop i1=rest->je aD aY k1 rest i1=some r->Ar Γ N f92 (.q [[none]] (D.int .i64 r)) [1,1,0,1,0] (rest.length+1) (EE aD aY (i1:Int)):=by
 intro rest
 induction rest with
 |nil=>
  intro i1 b8 h;rw[je]at h;refine aU fun N1 cW cK=>?_
  exact((((((((aW.ge tx b8).ge tx b8).ge tx b8).ge tx b8).ge tx b8).ge tx b8).F 1).a [.hl 0 [2,3] [0,1]]).ex hΓ cW (dX h)
 |cons bS cT ih1=>
  intro i1 b8 h;rw[je]at h;refine aU fun N1 cW cK=>?_
  have ij:=((((((aW.lt tx b8).lt tx b8).lt tx b8).lt tx b8).lt tx b8).lt tx b8)
  obtain⟨h36,h⟩|⟨h36,h⟩:=aL h
  ·obtain⟨x37,h38,h⟩:=aB h;obtain⟨EZ,h40,h⟩:=aB h;have jO:=(((((ij.b h36).a [.n 10]).l (bG tx 1 (dc b8) rfl)).l (fB tx 1 h38 rfl)).g (wi h40))
   obtain⟨h41,h⟩|⟨h41,h⟩:=aL h
   ·have h:=aN h;subst h;exact(jO.b h41).ret hΓ
   ·exact((jO.b h41).a [.cn [2,3,5] [0,1]]).ct hΓ cK (iS b8 hm1) (ih1 (i1+1) (dn b8) h)
  ·exact((ij.b h36).a [.hl 0 [2,3] [0,1]]).ex hΓ cW (dX h)
theorem oW{aD:aC}{aY:aC}{r:Int}(h:fS aD aY=some r):Good prog 92 [D.agg (aC.c aD),D.agg (aC.c aY)] (D.int .i64 r):=by
 refine gd func92 [[none]] 61 fun hr Γ hΓ=>?_
 rw[fS]at h;obtain⟨h1,h⟩|⟨h1,h⟩:=aL h
 ·obtain⟨y2,h3,h⟩:=aB h;have h:=aN h;subst h;exact((aW.b h1).g (yF h3)).ret hΓ
 ·refine((aW.b h1).a [.cn [2,3,5] [0,1]]).lp hΓ (D7 hΓ (fun h=>?_) (by have:=(gb.sl (gb.agg (hr _ (aE (i:=0) rfl)) (.sl (aD.args.map tx)) (by simp))).1;simpa using this) aD.args 0 rfl h);obtain⟨h42,h⟩|⟨h42,h⟩:=aL h
  ·cases h;exact(aW.b h42).ret hΓ
  ·obtain⟨h43,h⟩|⟨h43,h⟩:=aL h
   ·have h:=aN h;subst h;exact((aW.b h42).b h43).ret hΓ
   ·have h:=aN h;subst h;exact((aW.b h42).b h43).ret hΓ
def dQ(aD:aC):Option aC:=((tP aD.args).bind fun y1=>(some (⟨aD.rel,y1⟩:aC)))
theorem eV{aD:aC}{r:aC}(h:dQ aD=some r):Good prog 86 [D.agg (aC.c aD)] (D.agg [D.str r.rel,D.fr 9 1 (r.args.map tx)]):=by
 refine gd func86 [[none,some (9,1)]] 9 fun hr Γ hΓ=>?_
 rw[dQ]at h;obtain⟨y1,h2,h⟩:=aB h;cases h;exact((aW.a [.n 5]).g (Ac h2)).ret hΓ
def cm(aD:aI)(aY:aC)(k1:Bool->aI->Option aI):aI->Nat->Bool->aI->Option aI
 | [],i1,dH,bR=>(k1 dH bR)
 |bS::cT,i1,dH,bR=>(bif !(dH)then((fS bS aY).bind fun a9p=>(bif decide ((a9p:Int)>=0)then((fS bS aY).bind fun IZ=>(bif decide ((IZ:Int)>0)then((dQ aY).bind fun Ru=>(bif room ((bR.map aC.c).length+([[D.str Ru.rel,D.sl (Ru.args.map tx)]]).length) 40 then((dQ bS).bind fun Cl=>(bif room (((bR.map aC.c)++([[D.str Ru.rel,D.sl (Ru.args.map tx)]])).length+([[D.str Cl.rel,D.sl (Cl.args.map tx)]]).length) 40 then(cm aD aY k1 cT (i1+1) true ((bR++([Ru]))++([Cl])))else none))else none))else((dQ bS).bind fun V8=>(bif room ((bR.map aC.c).length+([[D.str V8.rel,D.sl (V8.args.map tx)]]).length) 40 then(cm aD aY k1 cT (i1+1) true (bR++([V8])))else none))))else((dQ bS).bind fun V9=>(bif room ((bR.map aC.c).length+([[D.str V9.rel,D.sl (V9.args.map tx)]]).length) 40 then(cm aD aY k1 cT (i1+1) dH (bR++([V9])))else none))))else((dQ bS).bind fun C9=>(bif room ((bR.map aC.c).length+([[D.str C9.rel,D.sl (C9.args.map tx)]]).length) 40 then(cm aD aY k1 cT (i1+1) dH (bR++([C9])))else none)))
def kn(aD:aI)(aY:aC):Option aI:=(cm aD aY (fun(vi:Bool) (jo:aI)=>(bif !(vi)then((dQ aY).bind fun Pk=>(bif room ((jo.map aC.c).length+([[D.str Pk.rel,D.sl (Pk.args.map tx)]]).length) 40 then(some (jo++([Pk])))else none))else(some jo))) aD 0 false ([]:aI))
def uW(aD:aI)(aY:aC)(dH:Bool)(W1:List aQ)(dG:Int):St:=⟨[(0,D.sl (aD.map aC.c)),(3,D.ptr 0 0),(5,D.acc 1),(6,D.bool dH),(7,D.int .i64 dG)],[Ob.box (aC.c aY),Ob.row .uq 43 2 W1]⟩
theorem MC(hΓ:Γ.nt=54){aD:aI}{aY:aC}{r:aI}{k1:Bool->aI->Option aI}(dX:∀(vi:Bool) (jo:aI),k1 vi jo=some r->Ax Γ N f67 (.q [[some (43,2)]] (D.fr 43 2 (r.map aC.c))) [1,1,1,1] ⟨[(3,D.ptr 0 0),(5,D.acc 1),(6,D.bool vi)],[Ob.box (aC.c aY),Ob.row .uq 43 2 (jo.map aC.c)]⟩)(hm1:aD.length<=maxLen):∀(rest:aI) (i1:Nat) (dH:Bool) (bR:aI),aD.drop i1=rest->cm aD aY k1 rest i1 dH bR=some r->Ar Γ N f67 (.q [[some (43,2)]] (D.fr 43 2 (r.map aC.c))) [1,1,1,0,1,0] (rest.length+1) (uW aD aY dH (bR.map aC.c) (i1:Int)):=by
 intro rest
 induction rest with
 |nil=>
  intro i1 dH bR b8 h;rw[cm]at h;refine aU fun N1 cW cK=>?_
  exact((aW.ge aC.c b8).a [.hl 0 [3,5,6] [0,1]]).ex hΓ cW (dX dH bR h)
 |cons bS cT ih1=>
  intro i1 dH bR b8 h;rw[cm]at h;refine aU fun N1 cW cK=>?_
  have jO:=((aW.lt aC.c b8).a [.n 8])
  obtain⟨h128,h⟩|⟨h128,h⟩:=aL h
  ·obtain⟨a9p,h130,h⟩:=aB h;have tS:=(((((jO.r 3 h128).l (bG aC.c 2 (dc b8) rfl)).r 3 h128).g (oW h130)).r 2 h128)
   obtain⟨h131,h⟩|⟨h131,h⟩:=aL h
   ·obtain⟨IZ,h133,h⟩:=aB h;have wK:=((((tS.b h131).a [.n 5]).l (bG aC.c 2 (dc b8) rfl)).g (oW h133))
    obtain⟨h134,h⟩|⟨h134,h⟩:=aL h
    ·obtain⟨Ru,h136,h⟩:=aB h;obtain⟨h137,h⟩:=bQ h;obtain⟨Cl,h139,h⟩:=aB h;obtain⟨h140,h⟩:=bQ h;exact(((((((wK.b h134).g (eV h136)).w (bX h137)).l (bG aC.c 2 (dc b8) rfl)).g (eV h139)).w (bX h140)).a [.cn [0,3,5,6,7] [0,7]]).cs hΓ cK (uW aD aY true (((bR.map aC.c)++([[D.str Ru.rel,D.sl (Ru.args.map tx)]]))++([[D.str Cl.rel,D.sl (Cl.args.map tx)]])) (IntKind.i64.wrap ((i1:Int)+1))) (by first| (simp only[iS b8 hm1,mA]<;>rfl)| (simp only[iS b8 hm1,mA,aC.c,aV.c,aP.c,Action.c,aK.c,aO.c,bM.c,aX.c,Node.c,aG.c,dL.c]<;>rfl)) (ih1 (i1+1) true ((bR++([Ru]))++([Cl])) (dn b8) h)
    ·obtain⟨V8,h142,h⟩:=aB h;obtain⟨h143,h⟩:=bQ h;exact(((((wK.b h134).l (bG aC.c 2 (dc b8) rfl)).g (eV h142)).w (bX h143)).a [.cn [0,3,5,6,7] [0,4]]).cs hΓ cK (uW aD aY true ((bR.map aC.c)++([[D.str V8.rel,D.sl (V8.args.map tx)]])) (IntKind.i64.wrap ((i1:Int)+1))) (by first| (simp only[iS b8 hm1,mA]<;>rfl)| (simp only[iS b8 hm1,mA,aC.c,aV.c,aP.c,Action.c,aK.c,aO.c,bM.c,aX.c,Node.c,aG.c,dL.c]<;>rfl)) (ih1 (i1+1) true (bR++([V8])) (dn b8) h)
   ·obtain⟨V9,h145,h⟩:=aB h;obtain⟨h146,h⟩:=bQ h;exact(((((tS.b h131).l (bG aC.c 2 (dc b8) rfl)).g (eV h145)).w (bX h146)).a [.cn [0,3,5,6,7] [0,4]]).cs hΓ cK (uW aD aY dH ((bR.map aC.c)++([[D.str V9.rel,D.sl (V9.args.map tx)]])) (IntKind.i64.wrap ((i1:Int)+1))) (by first| (simp only[iS b8 hm1,mA]<;>rfl)| (simp only[iS b8 hm1,mA,aC.c,aV.c,aP.c,Action.c,aK.c,aO.c,bM.c,aX.c,Node.c,aG.c,dL.c]<;>rfl)) (ih1 (i1+1) dH (bR++([V9])) (dn b8) h)
  ·obtain⟨C9,h148,h⟩:=aB h;obtain⟨h149,h⟩:=bQ h;exact((((((jO.r 8 h128).F 1).l (bG aC.c 2 (dc b8) rfl)).g (eV h148)).w (bX h149)).a [.cn [0,3,5,6,7] [0,4]]).cs hΓ cK (uW aD aY dH ((bR.map aC.c)++([[D.str C9.rel,D.sl (C9.args.map tx)]])) (IntKind.i64.wrap ((i1:Int)+1))) (by first| (simp only[iS b8 hm1,mA]<;>rfl)| (simp only[iS b8 hm1,mA,aC.c,aV.c,aP.c,Action.c,aK.c,aO.c,bM.c,aX.c,Node.c,aG.c,dL.c]<;>rfl)) (ih1 (i1+1) dH (bR++([C9])) (dn b8) h)
theorem rZ{aD:aI}{aY:aC}{r:aI}(h:kn aD aY=some r):Good prog 67 [D.sl (aD.map aC.c),D.agg (aC.c aY)] (D.fr 43 2 (r.map aC.c)):=by
 refine gd func67 [[some (43,2)]] 54 fun hr Γ hΓ=>?_
 rw[kn]at h;refine(aW.a [.cn [0,3,5,6,7] [0,1]]).lp hΓ (MC hΓ (fun vi jo h=>?_) (by have:=(gb.sl (hr _ (aE (i:=0) rfl))).1;simpa using this) aD 0 false ([]:aI) rfl h);obtain⟨h150,h⟩|⟨h150,h⟩:=aL h
 ·obtain⟨Pk,h152,h⟩:=aB h;obtain⟨h153,h⟩:=bQ h;cases h;exact(((aW.b h150).g (eV h152)).w (bX h153)).rts hΓ (D.fr 43 2 ((jo.map aC.c)++([[D.str Pk.rel,D.sl (Pk.args.map tx)]]))) (by first|rfl| (simp only[mA]<;>rfl)| (simp only[cB,mA]<;>rfl))
 ·have h:=aN h;subst h;exact(aW.b h150).ret hΓ
def iM(k1:bH->Int->Int->aI->Option (cQ×aI)):Nat->Int->bH->Int->Int->aI->Option (cQ×aI)
 |0,_,_,_,_,_=>none
 |n1+1,dH,eg,dV,dW,bR=>(bif decide ((dH:Int)>0)then((ew (⟨eg,dV,dW⟩:cQ)).bind fun yX=>((kn bR yX.2).bind fun Mi=>(iM k1 n1 (IntKind.i64.wrap (dH-1)) yX.1.b yX.1.i yX.1.h Mi)))else(k1 eg dV dW bR))
def qD(aD:cQ)(aY:Int):Option (cQ×aI):=((cP aD (IntKind.i64.wrap (aY+1))).bind fun y1=>(iM (fun(mM:bH) (mN:Int) (mO:Int) (jo:aI)=>(some ((⟨mM,mN,mO⟩:cQ),jo))) fuel y1.2 y1.1.b y1.1.i y1.1.h ([]:aI)))
def NO(iU:Value)(dH:Int)(dV:Int)(dW:Int)(W1:List aQ)(W4:List aQ):St:=⟨[(0,D.ptr 0 0),(5,D.acc 1),(6,D.int .i64 dH)],[Ob.Bq [D.sl W1,D.int .i64 dV,D.int .i64 dW] iU,Ob.row .uq 43 2 W4]⟩
theorem MD(hΓ:Γ.nt=21){iU:Value}{r:cQ×aI}{k1:bH->Int->Int->aI->Option (cQ×aI)}(dX:∀(mM:bH) (mN:Int) (mO:Int) (jo:aI),k1 mM mN mO jo=some r->Ax Γ N f79 (.p [[none,none,none],[some (43,2)]] iU (cQ.c r.1) (D.fr 43 2 (r.2.map aC.c))) [1,1,1] ⟨[(5,D.acc 1)],[Ob.Bq [D.sl (mM.map yx),D.int .i64 mN,D.int .i64 mO] iU,Ob.row .uq 43 2 (jo.map aC.c)]⟩):∀(n1:Nat) (dH:Int) (eg:bH) (dV:Int) (dW:Int) (bR:aI),iM k1 n1 dH eg dV dW bR=some r->Ar Γ N f79 (.p [[none,none,none],[some (43,2)]] iU (cQ.c r.1) (D.fr 43 2 (r.2.map aC.c))) [1,1,0,1,0] n1 (NO iU dH dV dW (eg.map yx) (bR.map aC.c)):=by
 intro n
 induction n with
 |zero=>intro dH eg dV dW bR h;simp[iM]at h
 |succ n1 ih1=>
  intro dH eg dV dW bR h;rw[iM]at h;refine aU fun N1 cW cK=>?_
  obtain⟨h18,h⟩|⟨h18,h⟩:=aL h
  ·obtain⟨yX,h20,h⟩:=aB h;obtain⟨Mi,h22,h⟩:=aB h;exact(((((aW.b h18).a [.gp [[none,none,none]] (cQ.c yX.1) (D.agg [D.str yX.2.rel,D.fr 9 1 (yX.2.args.map tx)])]).w (show iL prog 113 (cQ.c (⟨eg,dV,dW⟩:cQ)) (cQ.c yX.1) [] (D.agg [D.str yX.2.rel,D.fr 9 1 (yX.2.args.map tx)])from by simpa only[bD,au,bg,bZ,bh]using oJ h20)).g (rZ h22)).a [.cn [0,5,6] [0,3]]).cf hΓ cK (ih1 (IntKind.i64.wrap (dH-1)) yX.1.b yX.1.i yX.1.h Mi h)
  ·exact((aW.b h18).a [.hl 0 [5] [0,1]]).ex hΓ cW (dX eg dV dW bR h)
theorem yH{aD:cQ}{aY:Int}{r:cQ×aI}(h:qD aD aY=some r):iL prog 79 (cQ.c aD) (cQ.c r.1) [D.int .i64 aY] (D.fr 43 2 (r.2.map aC.c)):=by
 refine Jt func79 [[none,none,none],[some (43,2)]] 21 [D.sl (aD.b.map yx),D.int .i64 aD.i,D.int .i64 aD.h] [D.int .i64 aY] [] fun hr iU Γ hΓ=>?_
 rw[qD]at h;obtain⟨y1,h2,h⟩:=aB h;refine((aW.hp [[none,none,none],[none]] (cD h2)).a [.cn [0,5,6] [0,1]]).lp hΓ (MD hΓ (fun mM mN mO jo h=>?_) fuel y1.2 y1.1.b y1.1.i y1.1.h ([]:aI) h);cases h;exact aW.ret hΓ
def oI(aD:aI)(k1:aI->Option aI):aI->Nat->aI->Option aI
 | [],i1,bP=>(k1 bP)
 |bS::cT,i1,bP=>((dQ bS).bind fun oa=>(bif room ((bP.map aC.c).length+([[D.str oa.rel,D.sl (oa.args.map tx)]]).length) 40 then(oI aD k1 cT (i1+1) (bP++([oa])))else none))
def dF(aD:aI):Option aI:=(oI aD (fun(cC:aI)=>(some cC)) aD 0 ([]:aI))
def BV(aD:aI)(W0:List aQ)(dG:Int):St:=⟨[(0,D.sl (aD.map aC.c)),(3,D.acc 0),(4,D.int .i64 dG)],[Ob.row .uq 43 2 W0]⟩
theorem IK(hΓ:Γ.nt=21){aD:aI}{r:aI}{k1:aI->Option aI}(dX:∀(cC:aI),k1 cC=some r->Ax Γ N f38 (.q [[some (43,2)]] (D.fr 43 2 (r.map aC.c))) [1,1,1] ⟨[(3,D.acc 0)],[Ob.row .uq 43 2 (cC.map aC.c)]⟩)(hm1:aD.length<=maxLen):∀(rest:aI) (i1:Nat) (bP:aI),aD.drop i1=rest->oI aD k1 rest i1 bP=some r->Ar Γ N f38 (.q [[some (43,2)]] (D.fr 43 2 (r.map aC.c))) [1,1,0,1,0] (rest.length+1) (BV aD (bP.map aC.c) (i1:Int)):=by
 intro rest
 induction rest with
 |nil=>
  intro i1 bP b8 h;rw[oI]at h;refine aU fun N1 cW cK=>?_
  exact((aW.ge aC.c b8).a [.hl 0 [3] [0]]).ex hΓ cW (dX bP h)
 |cons bS cT ih1=>
  intro i1 bP b8 h;rw[oI]at h;refine aU fun N1 cW cK=>?_
  obtain⟨oa,h28,h⟩:=aB h;obtain⟨h29,h⟩:=bQ h;exact(((((aW.lt aC.c b8).l (bG aC.c 2 (dc b8) rfl)).g (eV h28)).w (bX h29)).a [.cn [0,3,4] [3]]).cs hΓ cK (BV aD ((bP.map aC.c)++([[D.str oa.rel,D.sl (oa.args.map tx)]])) (IntKind.i64.wrap ((i1:Int)+1))) (by first| (simp only[iS b8 hm1,mA]<;>rfl)| (simp only[iS b8 hm1,mA,aC.c,aV.c,aP.c,Action.c,aK.c,aO.c,bM.c,aX.c,Node.c,aG.c,dL.c]<;>rfl)) (ih1 (i1+1) (bP++([oa])) (dn b8) h)
theorem dh{aD:aI}{r:aI}(h:dF aD=some r):Good prog 38 [D.sl (aD.map aC.c)] (D.fr 43 2 (r.map aC.c)):=by
 refine gd func38 [[some (43,2)]] 21 fun hr Γ hΓ=>?_
 rw[dF]at h;refine(aW.a [.cn [0,3,4] [0]]).lp hΓ (IK hΓ (fun cC h=>?_) (by have:=(gb.sl (hr _ (aE (i:=0) rfl))).1;simpa using this) aD 0 ([]:aI) rfl h);have h:=aN h;subst h;exact aW.ret hΓ
def qW(aD:aC)(k1:Option Bool):aH->Nat->Option Bool
 | [],i1=>(k1)
 |bS::cT,i1=>((gF bS).bind fun Mi=>(bif !(Mi)then(some false)else(qW aD k1 cT (i1+1))))
def qJ(aD:aC):Option Bool:=(qW aD ((sJ aD.rel).bind fun Di=>(bif Di then(some (decide ((((aD.args.map tx).length:Int):Int)<=3)))else(some false))) aD.args 0)
def M1(aD:aC)(dG:Int):St:=⟨[(1,D.ptr 0 0),(3,D.int .i64 dG)],[Ob.box (aC.c aD)]⟩
theorem KO(hΓ:Γ.nt=27){aD:aC}{r:Bool}{k1:Option Bool}(dX:k1=some r->Ax Γ N f65 (.q [[none]] (D.bool r)) [1,1] ⟨[(1,D.ptr 0 0)],[Ob.box (aC.c aD)]⟩)(hm1:aD.args.length<=maxLen):∀(rest:aH) (i1:Nat),aD.args.drop i1=rest->qW aD k1 rest i1=some r->Ar Γ N f65 (.q [[none]] (D.bool r)) [1,0,1,0] (rest.length+1) (M1 aD (i1:Int)):=by
 intro rest
 induction rest with
 |nil=>
  intro i1 b8 h;rw[qW]at h;refine aU fun N1 cW cK=>?_
  exact((aW.ge tx b8).a [.hl 0 [1] [0]]).ex hΓ cW (dX h)
 |cons bS cT ih1=>
  intro i1 b8 h;rw[qW]at h;refine aU fun N1 cW cK=>?_
  obtain⟨Mi,h22,h⟩:=aB h;have fE:=(((aW.lt tx b8).l (bG tx 1 (dc b8) rfl)).g (fL h22))
  obtain⟨h23,h⟩|⟨h23,h⟩:=aL h
  ·have h:=aN h;subst h;exact(fE.b h23).ret hΓ
  ·exact((fE.b h23).a [.cn [1,3] [0]]).ct hΓ cK (iS b8 hm1) (ih1 (i1+1) (dn b8) h)
theorem xI{aD:aC}{r:Bool}(h:qJ aD=some r):Good prog 65 [D.agg (aC.c aD)] (D.bool r):=by
 refine gd func65 [[none]] 27 fun hr Γ hΓ=>?_
 rw[qJ]at h;refine(aW.a [.cn [1,3] [0]]).lp hΓ (KO hΓ (fun h=>?_) (by have:=(gb.sl (gb.agg (hr _ (aE (i:=0) rfl)) (.sl (aD.args.map tx)) (by simp))).1;simpa using this) aD.args 0 rfl h);obtain⟨Di,h25,h⟩:=aB h;obtain⟨h26,h⟩|⟨h26,h⟩:=aL h
 ·cases h;exact((aW.g (oC h25)).r 5 h26).ret hΓ
 ·have h:=aN h;subst h;exact((aW.g (oC h25)).r 5 h26).ret hΓ
def k8(aD:aT)(k1:Option Bool):aT->Nat->Option Bool
 | [],i1=>(k1)
 |bS::cT,i1=>((iF bS.var).bind fun Mj=>(bif !(Mj)then(some false)else((gF bS.value).bind fun y52=>(bif !(y52)then(some false)else(bif decide (((i1:Int):Int)>0)then((fy aD (IntKind.i64.wrap ((i1:Int)-1))).bind fun x56=>(bif !(Op.bytesLess x56.var bS.var)then(some false)else(k8 aD k1 cT (i1+1))))else(k8 aD k1 cT (i1+1)))))))
def lm(aD:aT):Option Bool:=(k8 aD (some (decide ((((aD.map aV.c).length:Int):Int)<=6))) aD 0)
def I6(aD:aT)(dG:Int):St:=⟨[(0,D.sl (aD.map aV.c)),(3,D.int .i64 dG)],[]⟩
theorem GK(hΓ:Γ.nt=47){aD:aT}{r:Bool}{k1:Option Bool}(dX:k1=some r->Ax Γ N f158 (.q [[none]] (D.bool r)) [1,1] ⟨[(0,D.sl (aD.map aV.c))],[]⟩)(hm1:aD.length<=maxLen):∀(rest:aT) (i1:Nat),aD.drop i1=rest->k8 aD k1 rest i1=some r->Ar Γ N f158 (.q [[none]] (D.bool r)) [1,0,1,0] (rest.length+1) (I6 aD (i1:Int)):=by
 intro rest
 induction rest with
 |nil=>
  intro i1 b8 h;rw[k8]at h;refine aU fun N1 cW cK=>?_
  exact((aW.ge aV.c b8).a [.hl 0 [0] []]).ex hΓ cW (dX h)
 |cons bS cT ih1=>
  intro i1 b8 h;rw[k8]at h;refine aU fun N1 cW cK=>?_
  obtain⟨Mj,h50,h⟩:=aB h;have tS:=((((aW.lt aV.c b8).a [.n 31]).l (bG aV.c 2 (dc b8) rfl)).g (fq h50))
  obtain⟨h51,h⟩|⟨h51,h⟩:=aL h
  ·have h:=aN h;subst h;exact((((tS.r 8 h51).T 3).a [bF,bF,bF,bF,bF,bF,bF,bF,bF,bF,bF,bF]).T 3).ret hΓ
  ·obtain⟨y52,h53,h⟩:=aB h;have wK:=(((((tS.r 3 h51).l (bG aV.c 2 (dc b8) rfl)).r 3 h51).g (fL h53)).r 2 h51)
   obtain⟨h54,h⟩|⟨h54,h⟩:=aL h
   ·have h:=aN h;subst h;exact((((wK.r 3 h54).a [bF,bF,bF,bF,bF,bF,bF,bF,bF,bF,bF,bF]).r 2 h54).T 1).ret hΓ
   ·have z7:=(wK.r 3 h54)
    obtain⟨h55,h⟩|⟨h55,h⟩:=aL h
    ·obtain⟨x56,h57,h⟩:=aB h;have DY:=((((((((z7.r 4 h55).l (fB aV.c 2 h57 rfl)).r 5 h55).l (bG aV.c 2 (dc b8) rfl)).r 3 h55).b h54).b h55).b h54)
     obtain⟨h58,h⟩|⟨h58,h⟩:=aL h
     ·have h:=aN h;subst h;exact(DY.b h58).ret hΓ
     ·exact((DY.b h58).a [.cn [0,3] []]).ct hΓ cK (iS b8 hm1) (ih1 (i1+1) (dn b8) h)
    ·exact((((((z7.r 12 h55).b h54).b h55).b h54).F 1).a [.cn [0,3] []]).ct hΓ cK (iS b8 hm1) (ih1 (i1+1) (dn b8) h)
theorem o4{aD:aT}{r:Bool}(h:lm aD=some r):Good prog 158 [D.sl (aD.map aV.c)] (D.bool r):=by
 refine gd func158 [[none]] 47 fun hr Γ hΓ=>?_
 rw[lm]at h;refine(aW.a [.cn [0,3] []]).lp hΓ (GK hΓ (fun h=>?_) (by have:=(gb.sl (hr _ (aE (i:=0) rfl))).1;simpa using this) aD 0 rfl h);cases h;exact aW.ret hΓ
def sL(aD:aT):Option aT:=(bif room (([]:List aQ).length+(aD.map aV.c).length) 32 then(some (([]:aT)++aD))else none)
theorem xL{aD:aT}{r:aT}(h:sL aD=some r):Good prog 159 [D.sl (aD.map aV.c)] (D.fr 113 2 (r.map aV.c)):=by
 refine gd func159 [[some (113,2)]] 6 fun hr Γ hΓ=>?_
 rw[sL]at h;obtain⟨h1,h⟩:=bQ h;cases h;exact(((aW.w (bX h1)).w (show(∀r∈(aD.map aV.c),r.length=2)/\(true=true->D.iN (aD.map aV.c)=true)from⟨by first|simp| (intro r hr;obtain⟨x,_,rfl⟩:=bt.1 (bn (eE hr));rfl),by simp[D.iN,D.flat]⟩)).a [.LP 2,.fl true]).rts hΓ (D.fr 113 2 (([]:List aQ)++(aD.map aV.c))) (by first|rfl| (simp only[mA]<;>rfl)| (simp only[cB,mA]<;>rfl))
def ig(aD:aT)(aY:Bytes)(k1:Option (Bytes×Bool)):aT->Nat->Option (Bytes×Bool)
 | [],i1=>(k1)
 |bS::cT,i1=>(bif (bS.var:Bytes)==aY then((iF aY).bind fun Cq=>(bif Cq then(some (bS.value,true))else(ig aD aY k1 cT (i1+1))))else(ig aD aY k1 cT (i1+1)))
def qe(aD:aT)(aY:Bytes):Option (Bytes×Bool):=((gF aY).bind fun y1=>(bif y1 then(some (aY,true))else(ig aD aY (some ([],false)) aD 0)))
def KX(aD:aT)(aY:Bytes)(dG:Int):St:=⟨[(0,D.sl (aD.map aV.c)),(1,D.str aY),(6,D.int .i64 dG)],[]⟩
theorem JQ(hΓ:Γ.nt=32){aD:aT}{aY:Bytes}{r:Bytes×Bool}{k1:Option (Bytes×Bool)}(dX:k1=some r->Ax Γ N f87 (.q [[none],[none]] (D.ff [D.str r.1,D.bool r.2])) [1,1,1] ⟨[],[]⟩)(hm1:aD.length<=maxLen):∀(rest:aT) (i1:Nat),aD.drop i1=rest->ig aD aY k1 rest i1=some r->Ar Γ N f87 (.q [[none],[none]] (D.ff [D.str r.1,D.bool r.2])) [1,1,0,1,0] (rest.length+1) (KX aD aY (i1:Int)):=by
 intro rest
 induction rest with
 |nil=>
  intro i1 b8 h;rw[ig]at h;refine aU fun N1 cW cK=>?_
  exact((aW.ge aV.c b8).a [.hl 0 [] []]).ex hΓ cW (dX h)
 |cons bS cT ih1=>
  intro i1 b8 h;rw[ig]at h;refine aU fun N1 cW cK=>?_
  have ij:=((aW.lt aV.c b8).l (bG aV.c 2 (dc b8) rfl))
  obtain⟨h28,h⟩|⟨h28,h⟩:=aL h
  ·obtain⟨Cq,h30,h⟩:=aB h;have jO:=(((ij.r 2 h28).g (fq h30)).b h28)
   obtain⟨h31,h⟩|⟨h31,h⟩:=aL h
   ·cases h;exact((jO.b h31).l (bG aV.c 2 (dc b8) rfl)).ret hΓ
   ·exact((jO.b h31).a [.cn [0,1,6] []]).ct hΓ cK (iS b8 hm1) (ih1 (i1+1) (dn b8) h)
  ·exact(((ij.r 3 h28).F 1).a [.cn [0,1,6] []]).ct hΓ cK (iS b8 hm1) (ih1 (i1+1) (dn b8) h)
theorem wP{aD:aT}{aY:Bytes}{r:Bytes×Bool}(h:qe aD aY=some r):Good prog 87 [D.sl (aD.map aV.c),D.str aY] (D.ff [D.str r.1,D.bool r.2]):=by
 refine gd func87 [[none],[none]] 32 fun hr Γ hΓ=>?_
 rw[qe]at h;obtain⟨y1,h2,h⟩:=aB h;obtain⟨h3,h⟩|⟨h3,h⟩:=aL h
 ·cases h;exact((aW.g (fL h2)).b h3).ret hΓ
 ·refine(((aW.g (fL h2)).b h3).a [.cn [0,1,6] []]).lp hΓ (JQ hΓ (fun h=>?_) (by have:=(gb.sl (hr _ (aE (i:=0) rfl))).1;simpa using this) aD 0 rfl h);cases h;exact aW.ret hΓ
def nX(aD:aT)(aY:Bytes)(cX:Bytes)(k1:Bool->aT->Option aT):aT->Nat->Bool->aT->Option aT
 | [],i1,HD,bP=>(k1 HD bP)
 |bS::cT,i1,HD,bP=>(bif !(HD)then(bif !(Op.bytesLess bS.var aY||(bS.var:Bytes)==aY)then(bif room ((bP.map aV.c).length+([[D.str aY,D.str cX]]).length) 32 then(bif room (((bP.map aV.c)++([[D.str aY,D.str cX]])).length+([[D.str bS.var,D.str bS.value]]).length) 32 then(nX aD aY cX k1 cT (i1+1) true ((bP++([(⟨aY,cX⟩:aV)]))++([bS])))else none)else none)else(bif room ((bP.map aV.c).length+([[D.str bS.var,D.str bS.value]]).length) 32 then(nX aD aY cX k1 cT (i1+1) HD (bP++([bS])))else none))else(bif room ((bP.map aV.c).length+([[D.str bS.var,D.str bS.value]]).length) 32 then(nX aD aY cX k1 cT (i1+1) HD (bP++([bS])))else none))
def yI(aD:aT)(aY:Bytes)(cX:Bytes):Option aT:=(nX aD aY cX (fun(a1O:Bool) (cC:aT)=>(bif !(a1O)then(bif room ((cC.map aV.c).length+([[D.str aY,D.str cX]]).length) 32 then(some (cC++([(⟨aY,cX⟩:aV)])))else none)else(some cC))) aD 0 false ([]:aT))
def xA(aD:aT)(aY:Bytes)(cX:Bytes)(HD:Bool)(W1:List aQ)(dG:Int):St:=⟨[(0,D.sl (aD.map aV.c)),(1,D.str aY),(2,D.str cX),(7,D.acc 0),(8,D.bool HD),(9,D.int .i64 dG)],[Ob.row .uq 113 2 W1]⟩
theorem ME(hΓ:Γ.nt=50){aD:aT}{aY:Bytes}{cX:Bytes}{r:aT}{k1:Bool->aT->Option aT}(dX:∀(a1O:Bool) (cC:aT),k1 a1O cC=some r->Ax Γ N f88 (.q [[some (113,2)]] (D.fr 113 2 (r.map aV.c))) [1,1,1,1] ⟨[(1,D.str aY),(2,D.str cX),(7,D.acc 0),(8,D.bool a1O)],[Ob.row .uq 113 2 (cC.map aV.c)]⟩)(hm1:aD.length<=maxLen):∀(rest:aT) (i1:Nat) (HD:Bool) (bP:aT),aD.drop i1=rest->nX aD aY cX k1 rest i1 HD bP=some r->Ar Γ N f88 (.q [[some (113,2)]] (D.fr 113 2 (r.map aV.c))) [1,1,1,0,1,0] (rest.length+1) (xA aD aY cX HD (bP.map aV.c) (i1:Int)):=by
 intro rest
 induction rest with
 |nil=>
  intro i1 HD bP b8 h;rw[nX]at h;refine aU fun N1 cW cK=>?_
  exact((aW.ge aV.c b8).a [.hl 0 [1,2,7,8] [0]]).ex hΓ cW (dX HD bP h)
 |cons bS cT ih1=>
  intro i1 HD bP b8 h;rw[nX]at h;refine aU fun N1 cW cK=>?_
  obtain⟨h48,h⟩|⟨h48,h⟩:=aL h
  ·have fE:=((((aW.lt aV.c b8).r 3 h48).l (bG aV.c 2 (dc b8) rfl)).r 5 h48)
   obtain⟨h49,h⟩|⟨h49,h⟩:=aL h
   ·obtain⟨h50,h⟩:=bQ h;obtain⟨h51,h⟩:=bQ h;exact(((((fE.b h49).w (bX h50)).l (bG aV.c 2 (dc b8) rfl)).w (bX h51)).a [.cn [0,1,2,7,8,9] [4]]).cs hΓ cK (xA aD aY cX true (((bP.map aV.c)++([[D.str aY,D.str cX]]))++([[D.str bS.var,D.str bS.value]])) (IntKind.i64.wrap ((i1:Int)+1))) (by first| (simp only[iS b8 hm1,mA]<;>rfl)| (simp only[iS b8 hm1,mA,aC.c,aV.c,aP.c,Action.c,aK.c,aO.c,bM.c,aX.c,Node.c,aG.c,dL.c]<;>rfl)) (ih1 (i1+1) true ((bP++([(⟨aY,cX⟩:aV)]))++([bS])) (dn b8) h)
   ·obtain⟨h52,h⟩:=bQ h;exact((((fE.b h49).l (bG aV.c 2 (dc b8) rfl)).w (bX h52)).a [.cn [0,1,2,7,8,9] [2]]).cs hΓ cK (xA aD aY cX HD ((bP.map aV.c)++([[D.str bS.var,D.str bS.value]])) (IntKind.i64.wrap ((i1:Int)+1))) (by first| (simp only[iS b8 hm1,mA]<;>rfl)| (simp only[iS b8 hm1,mA,aC.c,aV.c,aP.c,Action.c,aK.c,aO.c,bM.c,aX.c,Node.c,aG.c,dL.c]<;>rfl)) (ih1 (i1+1) HD (bP++([bS])) (dn b8) h)
  ·obtain⟨h53,h⟩:=bQ h;exact((((((aW.lt aV.c b8).r 8 h48).F 1).l (bG aV.c 2 (dc b8) rfl)).w (bX h53)).a [.cn [0,1,2,7,8,9] [2]]).cs hΓ cK (xA aD aY cX HD ((bP.map aV.c)++([[D.str bS.var,D.str bS.value]])) (IntKind.i64.wrap ((i1:Int)+1))) (by first| (simp only[iS b8 hm1,mA]<;>rfl)| (simp only[iS b8 hm1,mA,aC.c,aV.c,aP.c,Action.c,aK.c,aO.c,bM.c,aX.c,Node.c,aG.c,dL.c]<;>rfl)) (ih1 (i1+1) HD (bP++([bS])) (dn b8) h)
theorem Ke{aD:aT}{aY:Bytes}{cX:Bytes}{r:aT}(h:yI aD aY cX=some r):Good prog 88 [D.sl (aD.map aV.c),D.str aY,D.str cX] (D.fr 113 2 (r.map aV.c)):=by
 refine gd func88 [[some (113,2)]] 50 fun hr Γ hΓ=>?_
 rw[yI]at h;refine(aW.a [.cn [0,1,2,7,8,9] [0]]).lp hΓ (ME hΓ (fun a1O cC h=>?_) (by have:=(gb.sl (hr _ (aE (i:=0) rfl))).1;simpa using this) aD 0 false ([]:aT) rfl h);obtain⟨h54,h⟩|⟨h54,h⟩:=aL h
 ·obtain⟨h55,h⟩:=bQ h;cases h;exact((aW.b h54).w (bX h55)).rts hΓ (D.fr 113 2 ((cC.map aV.c)++([[D.str aY,D.str cX]]))) (by first|rfl| (simp only[mA]<;>rfl)| (simp only[cB,mA]<;>rfl))
 ·have h:=aN h;subst h;exact(aW.b h54).ret hΓ
def uf(aD:aT)(aY:Bytes)(cX:Bytes):Option (aT×Bool):=((lm aD).bind fun y1=>(bif !(y1)then(some (([]:aT),false))else((iF aY).bind fun y4=>(bif !(y4)then(some (([]:aT),false))else((gF cX).bind fun y7=>(bif !(y7)then(some (([]:aT),false))else((qe aD aY).bind fun FY=>(bif FY.2 then(bif (FY.1:Bytes)==cX then((sL aD).bind fun yW=>(some (yW,true)))else(some (([]:aT),false)))else(bif (((aD.map aV.c).length:Int):Int)==6 then(some (([]:aT),false))else((yI aD aY cX).bind fun VA=>(some (VA,true))))))))))))
theorem JH{aD:aT}{aY:Bytes}{cX:Bytes}{r:aT×Bool}(h:uf aD aY cX=some r):Good prog 160 [D.sl (aD.map aV.c),D.str aY,D.str cX] (D.ff [D.fr 113 2 (r.1.map aV.c),D.bool r.2]):=by
 refine gd func160 [[some (113,2)],[none]] 49 fun hr Γ hΓ=>?_
 rw[uf]at h;obtain⟨y1,h2,h⟩:=aB h;obtain⟨h3,h⟩|⟨h3,h⟩:=aL h
 ·cases h;exact(((aW.g (o4 h2)).r 4 h3).T 5).ret hΓ
 ·obtain⟨y4,h5,h⟩:=aB h;have kX:=((((aW.g (o4 h2)).r 2 h3).g (fq h5)).r 2 h3)
  obtain⟨h6,h⟩|⟨h6,h⟩:=aL h
  ·cases h;exact((kX.r 4 h6).T 1).ret hΓ
  ·obtain⟨y7,h8,h⟩:=aB h;have fE:=(((kX.r 2 h6).g (fL h8)).r 2 h6)
   obtain⟨h9,h⟩|⟨h9,h⟩:=aL h
   ·cases h;exact(fE.b h9).ret hΓ
   ·obtain⟨FY,h11,h⟩:=aB h;have ij:=((fE.b h9).g (wP h11))
    obtain⟨h12,h⟩|⟨h12,h⟩:=aL h
    ·have jO:=(ij.r 4 h12)
     obtain⟨h13,h⟩|⟨h13,h⟩:=aL h
     ·obtain⟨yW,h15,h⟩:=aB h;cases h;exact((jO.b h13).g (xL h15)).ret hΓ
     ·cases h;exact(((jO.b h13).r 4 h12).T 1).ret hΓ
    ·have tS:=(((ij.r 4 h12).F 1).r 4 h12)
     obtain⟨h16,h⟩|⟨h16,h⟩:=aL h
     ·cases h;exact(tS.b h16).ret hΓ
     ·obtain⟨VA,h18,h⟩:=aB h;cases h;exact((tS.b h16).g (Ke h18)).ret hΓ
def kB(aD:aC)(aY:aC)(k1:aT->Option (aT×Bool)):aH->Nat->aT->Option (aT×Bool)
 | [],i1,nD=>(k1 nD)
 |bS::cT,i1,nD=>((gF bS).bind fun y80=>(bif y80 then((fy aY.args (i1:Int)).bind fun x83=>(bif !((bS:Bytes)==x83)then(some (([]:aT),false))else(kB aD aY k1 cT (i1+1) nD)))else((fy aY.args (i1:Int)).bind fun x86=>((uf nD bS x86).bind fun y88=>(bif !(y88.2)then(some (([]:aT),false))else(kB aD aY k1 cT (i1+1) y88.1))))))
def jh(aD:aC)(aY:aC)(cX:aT):Option (aT×Bool):=((iQ aD).bind fun y1=>(bif !(y1)then(some (([]:aT),false))else((qJ aY).bind fun y4=>(bif !(y4)then(some (([]:aT),false))else((lm cX).bind fun y7=>(bif !(y7)then(some (([]:aT),false))else(bif !((aD.rel:Bytes)==aY.rel)then(some (([]:aT),false))else(bif (((aD.args.map tx).length:Int):Int) != ((aY.args.map tx).length:Int)then(some (([]:aT),false))else((sL cX).bind fun Pj=>(kB aD aY (fun(cC:aT)=>(some (cC,true))) aD.args 0 Pj))))))))))
def IA(aD:aC)(aY:aC)(W0:List aQ)(dG:Int):St:=⟨[(3,D.ptr 0 0),(4,D.ptr 1 0),(8,D.acc 2),(9,D.int .i64 dG)],[Ob.box (aC.c aD),Ob.box (aC.c aY),Ob.row .uq 113 2 W0]⟩
theorem GO(hΓ:Γ.nt=89){aD:aC}{aY:aC}{r:aT×Bool}{k1:aT->Option (aT×Bool)}(dX:∀(cC:aT),k1 cC=some r->Ax Γ N f96 (.q [[some (113,2)],[none]] (D.ff [D.fr 113 2 (r.1.map aV.c),D.bool r.2])) [1,1,1,1] ⟨[(8,D.acc 0)],[Ob.row .uq 113 2 (cC.map aV.c)]⟩)(hm1:aD.args.length<=maxLen):∀(rest:aH) (i1:Nat) (nD:aT),aD.args.drop i1=rest->kB aD aY k1 rest i1 nD=some r->Ar Γ N f96 (.q [[some (113,2)],[none]] (D.ff [D.fr 113 2 (r.1.map aV.c),D.bool r.2])) [1,1,1,0,1,0] (rest.length+1) (IA aD aY (nD.map aV.c) (i1:Int)):=by
 intro rest
 induction rest with
 |nil=>
  intro i1 nD b8 h;rw[kB]at h;refine aU fun N1 cW cK=>?_
  exact((aW.ge tx b8).a [.hl 0 [8] [2]]).ex hΓ cW (dX nD h)
 |cons bS cT ih1=>
  intro i1 nD b8 h;rw[kB]at h;refine aU fun N1 cW cK=>?_
  obtain⟨y80,h81,h⟩:=aB h;have jO:=(((aW.lt tx b8).l (bG tx 1 (dc b8) rfl)).g (fL h81))
  obtain⟨h82,h⟩|⟨h82,h⟩:=aL h
  ·obtain⟨x83,h84,h⟩:=aB h;have tS:=((((jO.b h82).a [.n 10]).l (bG tx 1 (dc b8) rfl)).l (fB tx 1 h84 rfl))
   obtain⟨h85,h⟩|⟨h85,h⟩:=aL h
   ·cases h;exact(tS.b h85).ret hΓ
   ·exact((tS.b h85).a [.cn [3,4,8,9] [0,1,2]]).ct hΓ cK (iS b8 hm1) (ih1 (i1+1) nD (dn b8) h)
  ·obtain⟨x86,h87,h⟩:=aB h;obtain⟨y88,h89,h⟩:=aB h;have wK:=(((((jO.b h82).a [.n 16]).l (bG tx 1 (dc b8) rfl)).l (fB tx 1 h87 rfl)).g (JH h89))
   obtain⟨h90,h⟩|⟨h90,h⟩:=aL h
   ·cases h;exact(wK.b h90).ret hΓ
   ·exact((wK.b h90).a [.cn [3,4,8,9] [0,1,3]]).ct hΓ cK (iS b8 hm1) (ih1 (i1+1) y88.1 (dn b8) h)
theorem qm{aD:aC}{aY:aC}{cX:aT}{r:aT×Bool}(h:jh aD aY cX=some r):Good prog 96 [D.agg (aC.c aD),D.agg (aC.c aY),D.sl (cX.map aV.c)] (D.ff [D.fr 113 2 (r.1.map aV.c),D.bool r.2]):=by
 refine gd func96 [[some (113,2)],[none]] 89 fun hr Γ hΓ=>?_
 rw[jh]at h;obtain⟨y1,h2,h⟩:=aB h;obtain⟨h3,h⟩|⟨h3,h⟩:=aL h
 ·cases h;exact(((aW.g (fP h2)).r 4 h3).T 19).ret hΓ
 ·obtain⟨y4,h5,h⟩:=aB h;have z7:=((((aW.g (fP h2)).r 2 h3).g (xI h5)).r 2 h3)
  obtain⟨h6,h⟩|⟨h6,h⟩:=aL h
  ·cases h;exact((z7.r 4 h6).T 15).ret hΓ
  ·obtain⟨y7,h8,h⟩:=aB h;have DY:=(((z7.r 2 h6).g (o4 h8)).r 2 h6)
   obtain⟨h9,h⟩|⟨h9,h⟩:=aL h
   ·cases h;exact((DY.r 6 h9).T 9).ret hΓ
   ·have LL:=(DY.r 6 h9)
    obtain⟨h10,h⟩|⟨h10,h⟩:=aL h
    ·cases h;exact((LL.r 8 h10).T 1).ret hΓ
    ·have Bp:=(LL.r 8 h10)
     obtain⟨h11,h⟩|⟨h11,h⟩:=aL h
     ·cases h;exact(Bp.b h11).ret hΓ
     ·obtain⟨Pj,h13,h⟩:=aB h;refine(((Bp.b h11).g (xL h13)).a [.cn [3,4,8,9] [0,1,2]]).lp hΓ (GO hΓ (fun cC h=>?_) (by have:=(gb.sl (gb.agg (hr _ (aE (i:=0) rfl)) (.sl (aD.args.map tx)) (by simp))).1;simpa using this) aD.args 0 Pj rfl h);cases h;exact aW.ret hΓ
def gX(aD:aC)(aY:aT)(cX:aI)(k1:aI->Option aI):aI->Nat->aI->Option aI
 | [],i1,bR=>(k1 bR)
 |bS::cT,i1,bR=>((jh aD bS aY).bind fun Qc=>(bif Qc.2 then((dQ bS).bind fun B4=>(bif room ((bR.map aC.c).length+([[D.str B4.rel,D.sl (B4.args.map tx)]]).length) 40 then(gX aD aY cX k1 cT (i1+1) (bR++([B4])))else none))else(gX aD aY cX k1 cT (i1+1) bR)))
def fw(aD:aC)(aY:aT)(cX:aI):Option aI:=(gX aD aY cX (fun(cC:aI)=>(some cC)) cX 0 ([]:aI))
def xX(aD:aC)(aY:aT)(cX:aI)(W0:List aQ)(dG:Int):St:=⟨[(1,D.sl (aY.map aV.c)),(2,D.sl (cX.map aC.c)),(3,D.ptr 0 0),(7,D.acc 1),(8,D.int .i64 dG)],[Ob.box (aC.c aD),Ob.row .uq 43 2 W0]⟩
theorem CX(hΓ:Γ.nt=38){aD:aC}{aY:aT}{cX:aI}{r:aI}{k1:aI->Option aI}(dX:∀(cC:aI),k1 cC=some r->Ax Γ N f44 (.q [[some (43,2)]] (D.fr 43 2 (r.map aC.c))) [1,1,1] ⟨[(7,D.acc 0)],[Ob.row .uq 43 2 (cC.map aC.c)]⟩)(hm1:cX.length<=maxLen):∀(rest:aI) (i1:Nat) (bR:aI),cX.drop i1=rest->gX aD aY cX k1 rest i1 bR=some r->Ar Γ N f44 (.q [[some (43,2)]] (D.fr 43 2 (r.map aC.c))) [1,1,0,1,0] (rest.length+1) (xX aD aY cX (bR.map aC.c) (i1:Int)):=by
 intro rest
 induction rest with
 |nil=>
  intro i1 bR b8 h;rw[gX]at h;refine aU fun N1 cW cK=>?_
  exact((aW.ge aC.c b8).a [.hl 0 [7] [1]]).ex hΓ cW (dX bR h)
 |cons bS cT ih1=>
  intro i1 bR b8 h;rw[gX]at h;refine aU fun N1 cW cK=>?_
  obtain⟨Qc,h43,h⟩:=aB h;have fE:=((((aW.lt aC.c b8).a [.n 11]).l (bG aC.c 2 (dc b8) rfl)).g (qm h43))
  obtain⟨h44,h⟩|⟨h44,h⟩:=aL h
  ·obtain⟨B4,h46,h⟩:=aB h;obtain⟨h47,h⟩:=bQ h;exact(((((fE.b h44).l (bG aC.c 2 (dc b8) rfl)).g (eV h46)).w (bX h47)).a [.cn [1,2,3,7,8] [0,5]]).cs hΓ cK (xX aD aY cX ((bR.map aC.c)++([[D.str B4.rel,D.sl (B4.args.map tx)]])) (IntKind.i64.wrap ((i1:Int)+1))) (by first| (simp only[iS b8 hm1,mA]<;>rfl)| (simp only[iS b8 hm1,mA,aC.c,aV.c,aP.c,Action.c,aK.c,aO.c,bM.c,aX.c,Node.c,aG.c,dL.c]<;>rfl)) (ih1 (i1+1) (bR++([B4])) (dn b8) h)
  ·exact((fE.b h44).a [.cn [1,2,3,7,8] [0,1]]).ct hΓ cK (iS b8 hm1) (ih1 (i1+1) bR (dn b8) h)
theorem eZ{aD:aC}{aY:aT}{cX:aI}{r:aI}(h:fw aD aY cX=some r):Good prog 44 [D.agg (aC.c aD),D.sl (aY.map aV.c),D.sl (cX.map aC.c)] (D.fr 43 2 (r.map aC.c)):=by
 refine gd func44 [[some (43,2)]] 38 fun hr Γ hΓ=>?_
 rw[fw]at h;refine(aW.a [.cn [1,2,3,7,8] [0,1]]).lp hΓ (CX hΓ (fun cC h=>?_) (by have:=(gb.sl (hr _ (aE (i:=2) rfl))).1;simpa using this) cX 0 ([]:aI) rfl h);have h:=aN h;subst h;exact aW.ret hΓ
def ji(aD:aG)(k1:ar->Option ar):Nat->Int->ar->Option ar
 |0,_,_=>none
 |n1+1,xj,bR=>((kL xj 1 (IntKind.i64.wrap (((aD.nodes.map Node.c).length:Int)-1))).bind fun By=>(bif By then((fy aD.nodes xj).bind fun x31=>((kW x31.cond).bind fun tV=>(bif room (([[D.int .i64 tV.kind,D.str tV.pat.rel,D.sl (tV.pat.args.map tx),D.str tV.left,D.str tV.right]]).length+(bR.map aP.c).length) 80 then(bif decide ((x31.parent:Int)>=xj)then(k1 (([tV])++bR))else(ji aD k1 n1 x31.parent (([tV])++bR)))else none)))else(k1 bR)))
def ug(aD:aG)(aY:Int):Option ar:=(ji aD (fun(cC:ar)=>(some cC)) fuel aY ([]:ar))
def DC(aD:aG)(xj:Int)(W1:List aQ):St:=⟨[(1,D.int .i64 xj),(2,D.ptr 0 0),(5,D.acc 1)],[Ob.box (aG.c aD),Ob.row .uq 71 5 W1]⟩
theorem KV(hΓ:Γ.nt=35){aD:aG}{r:ar}{k1:ar->Option ar}(dX:∀(cC:ar),k1 cC=some r->Ax Γ N f47 (.q [[some (71,5)]] (D.fr 71 5 (r.map aP.c))) [1,1,1] ⟨[(5,D.acc 0)],[Ob.row .uq 71 5 (cC.map aP.c)]⟩):∀(n1:Nat) (xj:Int) (bR:ar),ji aD k1 n1 xj bR=some r->Ar Γ N f47 (.q [[some (71,5)]] (D.fr 71 5 (r.map aP.c))) [1,1,0,0] n1 (DC aD xj (bR.map aP.c)):=by
 intro n
 induction n with
 |zero=>intro xj bR h;simp[ji]at h
 |succ n1 ih1=>
  intro xj bR h;rw[ji]at h;refine aU fun N1 cW cK=>?_
  obtain⟨By,h29,h⟩:=aB h;obtain⟨h30,h⟩|⟨h30,h⟩:=aL h
  ·obtain⟨x31,h32,h⟩:=aB h;obtain⟨tV,h34,h⟩:=aB h;obtain⟨h35,h⟩:=bQ h;have fE:=((((((aW.g (fe h29)).b h30).l (fB Node.c 8 h32 rfl)).g (qg h34)).w (bX h35)).l (fB Node.c 8 h32 rfl))
   obtain⟨h36,h⟩|⟨h36,h⟩:=aL h
   ·exact((fE.b h36).a [.hl 0 [5] [4]]).exs hΓ cW ⟨[(5,D.acc 0)],[Ob.row .uq 71 5 (([[D.int .i64 tV.kind,D.str tV.pat.rel,D.sl (tV.pat.args.map tx),D.str tV.left,D.str tV.right]])++(bR.map aP.c))]⟩ (by first| (simp only[mA]<;>rfl)| (simp only[mA,aC.c,aV.c,aP.c,Action.c,aK.c,aO.c,bM.c,aX.c,Node.c,aG.c,dL.c]<;>rfl)) (dX (([tV])++bR) h)
   ·exact((fE.b h36).a [.cn [1,2,5] [0,4]]).cs hΓ cK (DC aD x31.parent (([[D.int .i64 tV.kind,D.str tV.pat.rel,D.sl (tV.pat.args.map tx),D.str tV.left,D.str tV.right]])++(bR.map aP.c))) (by first| (simp only[mA]<;>rfl)| (simp only[mA,aC.c,aV.c,aP.c,Action.c,aK.c,aO.c,bM.c,aX.c,Node.c,aG.c,dL.c]<;>rfl)) (ih1 x31.parent (([tV])++bR) h)
  ·exact(((aW.g (fe h29)).b h30).a [.hl 0 [5] [1]]).ex hΓ cW (dX bR h)
theorem tv{aD:aG}{aY:Int}{r:ar}(h:ug aD aY=some r):Good prog 47 [D.agg (aG.c aD),D.int .i64 aY] (D.fr 71 5 (r.map aP.c)):=by
 refine gd func47 [[some (71,5)]] 35 fun hr Γ hΓ=>?_
 rw[ug]at h;refine(aW.a [.cn [1,2,5] [0,1]]).lp hΓ (KV hΓ (fun cC h=>?_) fuel aY ([]:ar) h);have h:=aN h;subst h;exact aW.ret hΓ
def uS(aD:Bytes):Option Bool:=((nW aD).bind fun y1=>(some y1.2))
theorem zc{aD:Bytes}{r:Bool}(h:uS aD=some r):Good prog 226 [D.str aD] (D.bool r):=by
 refine gd func226 [[none]] 11 fun hr Γ hΓ=>?_
 rw[uS]at h;obtain⟨y1,h2,h⟩:=aB h;cases h;exact(aW.g (rU h2)).ret hΓ
def tJ(aD:aP)(aY:aT):Option Bool:=((sK aD).bind fun y1=>(bif !(y1)then(some false)else((lm aY).bind fun y4=>(bif !(y4)then(some false)else((qe aY aD.left).bind fun y7=>((qe aY aD.right).bind fun y9=>(bif !(y7.2)then(some false)else(bif !(y9.2)then(some false)else(bif (aD.kind:Int)==3 then(some ((y7.1:Bytes)==y9.1))else(bif (aD.kind:Int)==4 then(some (!((y7.1:Bytes)==y9.1)))else((uS y7.1).bind fun Jr=>(bif Jr then((uS y9.1).bind fun Pm=>(bif Pm then((k6 y7.1 y9.1).bind fun Mi=>(some (decide ((Mi:Int)<0))))else(some false)))else(some false)))))))))))))
theorem FD{aD:aP}{aY:aT}{r:Bool}(h:tJ aD aY=some r):Good prog 206 [D.agg (aP.c aD),D.sl (aY.map aV.c)] (D.bool r):=by
 refine gd func206 [[none]] 61 fun hr Γ hΓ=>?_
 rw[tJ]at h;obtain⟨y1,h2,h⟩:=aB h;obtain⟨h3,h⟩|⟨h3,h⟩:=aL h
 ·have h:=aN h;subst h;exact(((aW.g (tu h2)).r 4 h3).T 1).ret hΓ
 ·obtain⟨y4,h5,h⟩:=aB h;have kX:=((((aW.g (tu h2)).r 2 h3).g (o4 h5)).r 2 h3)
  obtain⟨h6,h⟩|⟨h6,h⟩:=aL h
  ·have h:=aN h;subst h;exact(kX.b h6).ret hΓ
  ·obtain⟨y7,h8,h⟩:=aB h;obtain⟨y9,h10,h⟩:=aB h;have fE:=(((kX.b h6).g (wP h8)).g (wP h10))
   obtain⟨h11,h⟩|⟨h11,h⟩:=aL h
   ·have h:=aN h;subst h;exact((fE.r 3 h11).T 1).ret hΓ
   ·have ij:=(fE.r 3 h11)
    obtain⟨h12,h⟩|⟨h12,h⟩:=aL h
    ·have h:=aN h;subst h;exact(ij.b h12).ret hΓ
    ·obtain⟨h13,h⟩|⟨h13,h⟩:=aL h
     ·cases h;exact((ij.b h12).b h13).ret hΓ
     ·have jO:=((ij.b h12).b h13)
      obtain⟨h14,h⟩|⟨h14,h⟩:=aL h
      ·cases h;exact(jO.b h14).ret hΓ
      ·obtain⟨Jr,h16,h⟩:=aB h;have tS:=((jO.b h14).g (zc h16))
       obtain⟨h17,h⟩|⟨h17,h⟩:=aL h
       ·obtain⟨Pm,h19,h⟩:=aB h;have wK:=(((tS.r 2 h17).g (zc h19)).b h17)
        obtain⟨h20,h⟩|⟨h20,h⟩:=aL h
        ·obtain⟨Mi,h22,h⟩:=aB h;cases h;exact(((wK.r 3 h20).g (wi h22)).r 2 h20).ret hΓ
        ·have h:=aN h;subst h;exact(wK.r 5 h20).ret hΓ
       ·have h:=aN h;subst h;exact((tS.r 3 h17).F 5).ret hΓ
def tI(aD:aP)(aY:aT)(cX:aI):Option Bool:=((qI aD).bind fun y1=>(bif !(y1)then(some false)else((lm aY).bind fun y4=>(bif !(y4)then(some false)else(bif (aD.kind:Int)==1 then((fw aD.pat aY cX).bind fun y8=>(some (decide ((((y8.map aC.c).length:Int):Int)>0))))else(bif (aD.kind:Int)==2 then((fw aD.pat aY cX).bind fun B3=>(some ((((B3.map aC.c).length:Int):Int)==0)))else((tJ aD aY).bind fun wD=>(some wD))))))))
theorem FC{aD:aP}{aY:aT}{cX:aI}{r:Bool}(h:tI aD aY cX=some r):Good prog 161 [D.agg (aP.c aD),D.sl (aY.map aV.c),D.sl (cX.map aC.c)] (D.bool r):=by
 refine gd func161 [[none]] 38 fun hr Γ hΓ=>?_
 rw[tI]at h;obtain⟨y1,h2,h⟩:=aB h;obtain⟨h3,h⟩|⟨h3,h⟩:=aL h
 ·have h:=aN h;subst h;exact(((aW.g (jD h2)).r 4 h3).T 1).ret hΓ
 ·obtain⟨y4,h5,h⟩:=aB h;have kX:=((((aW.g (jD h2)).r 2 h3).g (o4 h5)).r 2 h3)
  obtain⟨h6,h⟩|⟨h6,h⟩:=aL h
  ·have h:=aN h;subst h;exact(kX.b h6).ret hΓ
  ·obtain⟨h7,h⟩|⟨h7,h⟩:=aL h
   ·obtain⟨y8,h9,h⟩:=aB h;cases h;exact(((kX.b h6).b h7).g (eZ h9)).ret hΓ
   ·have fE:=((kX.b h6).b h7)
    obtain⟨h10,h⟩|⟨h10,h⟩:=aL h
    ·obtain⟨B3,h12,h⟩:=aB h;cases h;exact((fE.b h10).g (eZ h12)).ret hΓ
    ·obtain⟨wD,h14,h⟩:=aB h;have h:=aN h;subst h;exact((fE.b h10).g (FD h14)).ret hΓ
def sN(aD:aO):Option aO:=((dF aD.facts).bind fun y1=>((sL aD.bind).bind fun y3=>(some (⟨y1,y3⟩:aO))))
theorem Bc{aD:aO}{r:aO}(h:sN aD=some r):Good prog 162 [D.agg (aO.c aD)] (D.agg [D.fr 43 2 (r.facts.map aC.c),D.fr 113 2 (r.bind.map aV.c)]):=by
 refine gd func162 [[some (43,2),some (113,2)]] 10 fun hr Γ hΓ=>?_
 rw[sN]at h;obtain⟨y1,h2,h⟩:=aB h;obtain⟨y3,h4,h⟩:=aB h;cases h;exact(((aW.a [.n 5]).g (dh h2)).g (xL h4)).ret hΓ
def oO(aD:ai)(aY:aP)(cX:aI)(i1:Nat)(bS:aO)(k2:ai->Option ai):aI->Nat->ai->Option ai
 | [],i2,gH=>(k2 gH)
 |js::ua,i2,gH=>((jh aY.pat js bS.bind).bind fun Xu=>(bif Xu.2 then((dF bS.facts).bind fun Xv=>((dQ js).bind fun Rv=>(bif room ((Xv.map aC.c).length+([[D.str Rv.rel,D.sl (Rv.args.map tx)]]).length) 40 then(bif room ((gH.map aO.c).length+([[D.sl ((Xv.map aC.c)++([[D.str Rv.rel,D.sl (Rv.args.map tx)]])),D.sl (Xu.1.map aV.c)]]).length) 48 then(oO aD aY cX i1 bS k2 ua (i2+1) (gH++([(⟨Xv++([Rv]),Xu.1⟩:aO)])))else none)else none)))else(oO aD aY cX i1 bS k2 ua (i2+1) gH)))
def iT(aD:ai)(aY:aP)(cX:aI)(k1:ai->Option ai):ai->Nat->ai->Option ai
 | [],i1,bR=>(k1 bR)
 |bS::cT,i1,bR=>(bif (aY.kind:Int) != 1 then((tI aY bS.bind cX).bind fun a9w=>(bif a9w then((sN bS).bind fun VB=>(bif room ((bR.map aO.c).length+([[D.sl (VB.facts.map aC.c),D.sl (VB.bind.map aV.c)]]).length) 48 then(iT aD aY cX k1 cT (i1+1) (bR++([VB])))else none))else(iT aD aY cX k1 cT (i1+1) bR)))else(bif decide (cX.length<=maxLen)then(oO aD aY cX i1 bS (fun(vN:ai)=>(iT aD aY cX k1 cT (i1+1) vN)) cX 0 bR)else none))
def sO(aD:ai)(aY:aP)(cX:aI):Option ai:=(iT aD aY cX (fun(cC:ai)=>(some cC)) aD 0 ([]:ai))
def DH(aD:ai)(aY:aP)(cX:aI)(W0:List aQ)(dG:Int):St:=⟨[(0,D.sl (aD.map aO.c)),(2,D.sl (cX.map aC.c)),(4,D.ptr 0 0),(7,D.acc 1),(8,D.int .i64 dG)],[Ob.box (aP.c aY),Ob.row .uq 77 2 W0]⟩
def DI(aD:ai)(aY:aP)(cX:aI)(i1:Nat)(W0:List aQ)(dG:Int):St:=⟨[(0,D.sl (aD.map aO.c)),(2,D.sl (cX.map aC.c)),(4,D.ptr 0 0),(7,D.acc 1),(8,D.int .i64 (i1:Int)),(9,D.int .i64 dG)],[Ob.box (aP.c aY),Ob.row .uq 77 2 W0]⟩
theorem Kl(hΓ:Γ.nt=79){aD:ai}{aY:aP}{cX:aI}{i1:Nat}{bS:aO}{r:ai}{k2:ai->Option ai}(zx:∀(vN:ai),k2 vN=some r->Ax Γ N f98 (.q [[some (77,2)]] (D.fr 77 2 (r.map aO.c))) [1,1,0,1,0,0,1,1] ⟨[(0,D.sl (aD.map aO.c)),(2,D.sl (cX.map aC.c)),(4,D.ptr 0 0),(7,D.acc 1),(8,D.int .i64 (i1:Int))],[Ob.box (aP.c aY),Ob.row .uq 77 2 (vN.map aO.c)]⟩)(hx1:(aD)[i1]?=some bS)(hm2:cX.length<=maxLen):∀(rest:aI) (i2:Nat) (gH:ai),cX.drop i2=rest->oO aD aY cX i1 bS k2 rest i2 gH=some r->Ar Γ N f98 (.q [[some (77,2)]] (D.fr 77 2 (r.map aO.c))) [1,1,0,1,0,0,1,0,0,1,1,0] (rest.length+1) (DI aD aY cX i1 (gH.map aO.c) (i2:Int)):=by
 intro rest
 induction rest with
 |nil=>
  intro i2 gH hd2 h;rw[oO]at h;refine aU fun N2 vC s6=>?_
  exact((aW.ge aC.c hd2).a [.hl 3 [0,2,4,7,8] [0,1]]).ex hΓ vC (zx gH h)
 |cons js ua ih2=>
  intro i2 gH hd2 h;rw[oO]at h;refine aU fun N2 vC s6=>?_
  obtain⟨Xu,h652,h⟩:=aB h;have H6:=(((((aW.lt aC.c hd2).a [.n 16]).l (bG aC.c 2 (dc hd2) rfl)).l (bG aO.c 2 hx1 rfl)).g (qm h652))
  obtain⟨h653,h⟩|⟨h653,h⟩:=aL h
  ·obtain⟨Xv,h660,h⟩:=aB h;obtain⟨Rv,h662,h⟩:=aB h;obtain⟨h663,h⟩:=bQ h;obtain⟨h664,h⟩:=bQ h;exact(((((((((H6.b h653).a [.n2 [0,1,2,3,4,5,6,7,8,9,10,11,14,12,13,15,16,17,18] [0,1,2,3,4,5,6,7,8,9,10,11,13,14,12,15,16,17,18] 13 17 [0,12] [2,3,4,5,6]]).l (bG aO.c 2 hx1 rfl)).g (dh h660)).l (bG aC.c 2 (dc hd2) rfl)).g (eV h662)).w (bX h663)).w (bX h664)).a [.cn [0,2,4,7,8,9] [0,8]]).cs hΓ s6 (DI aD aY cX i1 ((gH.map aO.c)++([[D.sl ((Xv.map aC.c)++([[D.str Rv.rel,D.sl (Rv.args.map tx)]])),D.sl (Xu.1.map aV.c)]])) (IntKind.i64.wrap ((i2:Int)+1))) (by first| (simp only[iS hd2 hm2,mA]<;>rfl)| (simp only[iS hd2 hm2,mA,aC.c,aV.c,aP.c,Action.c,aK.c,aO.c,bM.c,aX.c,Node.c,aG.c,dL.c]<;>rfl)) (ih2 (i2+1) (gH++([(⟨Xv++([Rv]),Xu.1⟩:aO)])) (dn hd2) h)
  ·exact((H6.b h653).a [.cn [0,2,4,7,8,9] [0,1]]).ct hΓ s6 (iS hd2 hm2) (ih2 (i2+1) gH (dn hd2) h)
theorem Kk(hΓ:Γ.nt=79){aD:ai}{aY:aP}{cX:aI}{r:ai}{k1:ai->Option ai}(dX:∀(cC:ai),k1 cC=some r->Ax Γ N f98 (.q [[some (77,2)]] (D.fr 77 2 (r.map aO.c))) [1,1,1] ⟨[(7,D.acc 0)],[Ob.row .uq 77 2 (cC.map aO.c)]⟩)(hm1:aD.length<=maxLen):∀(rest:ai) (i1:Nat) (bR:ai),aD.drop i1=rest->iT aD aY cX k1 rest i1 bR=some r->Ar Γ N f98 (.q [[some (77,2)]] (D.fr 77 2 (r.map aO.c))) [1,1,0,1,0] (rest.length+1) (DH aD aY cX (bR.map aO.c) (i1:Int)):=by
 intro rest
 induction rest with
 |nil=>
  intro i1 bR b8 h;rw[iT]at h;refine aU fun N1 cW cK=>?_
  exact((aW.ge aO.c b8).a [.hl 0 [7] [1]]).ex hΓ cW (dX bR h)
 |cons bS cT ih1=>
  intro i1 bR b8 h;rw[iT]at h;refine aU fun N1 cW cK=>?_
  obtain⟨h563,h⟩|⟨h563,h⟩:=aL h
  ·obtain⟨a9w,h565,h⟩:=aB h;have LK:=(((((aW.lt aO.c b8).b h563).a [.n 7]).l (bG aO.c 2 (dc b8) rfl)).g (FC h565))
   obtain⟨h566,h⟩|⟨h566,h⟩:=aL h
   ·obtain⟨VB,h568,h⟩:=aB h;obtain⟨h569,h⟩:=bQ h;exact(((((LK.b h566).l (bG aO.c 2 (dc b8) rfl)).g (Bc h568)).w (bX h569)).a [.cn [0,2,4,7,8] [0,5]]).cs hΓ cK (DH aD aY cX ((bR.map aO.c)++([[D.sl (VB.facts.map aC.c),D.sl (VB.bind.map aV.c)]])) (IntKind.i64.wrap ((i1:Int)+1))) (by first| (simp only[iS b8 hm1,mA]<;>rfl)| (simp only[iS b8 hm1,mA,aC.c,aV.c,aP.c,Action.c,aK.c,aO.c,bM.c,aX.c,Node.c,aG.c,dL.c]<;>rfl)) (ih1 (i1+1) (bR++([VB])) (dn b8) h)
   ·exact((LK.b h566).a [.cn [0,2,4,7,8] [0,1]]).ct hΓ cK (iS b8 hm1) (ih1 (i1+1) bR (dn b8) h)
  ·obtain⟨h665,h⟩:=bQ h;refine(((aW.lt aO.c b8).b h563).a [.cn [0,2,4,7,8,9] [0,1]]).lp hΓ (Kl hΓ (fun vN h=>?_) ((drop_cons b8).1) (bV h665) cX 0 bR rfl h);exact(aW.a [.cn [0,2,4,7,8] [0,1]]).ct hΓ cK (iS b8 hm1) (ih1 (i1+1) vN (dn b8) h)
theorem uA{aD:ai}{aY:aP}{cX:aI}{r:ai}(h:sO aD aY cX=some r):Good prog 98 [D.sl (aD.map aO.c),D.agg (aP.c aY),D.sl (cX.map aC.c)] (D.fr 77 2 (r.map aO.c)):=by
 refine gd func98 [[some (77,2)]] 79 fun hr Γ hΓ=>?_
 rw[sO]at h;refine(aW.a [.cn [0,2,4,7,8] [0,1]]).lp hΓ (Kk hΓ (fun cC h=>?_) (by have:=(gb.sl (hr _ (aE (i:=0) rfl))).1;simpa using this) aD 0 ([]:ai) rfl h);have h:=aN h;subst h;exact aW.ret hΓ
def lM(aD:ar)(aY:aI)(k1:ai->Option ai):ar->Nat->ai->Option ai
 | [],i1,bP=>(k1 bP)
 |bS::cT,i1,bP=>((sO bP bS aY).bind fun qp=>(lM aD aY k1 cT (i1+1) qp))
def nZ(aD:ar)(aY:aI):Option ai:=(lM aD aY (fun(cC:ai)=>(some cC)) aD 0 ([(⟨[],[]⟩:aO)]))
def Bd(aD:ar)(aY:aI)(W0:List aQ)(dG:Int):St:=⟨[(0,D.sl (aD.map aP.c)),(1,D.sl (aY.map aC.c)),(5,D.acc 0),(6,D.int .i64 dG)],[Ob.row .uq 77 2 W0]⟩
theorem IQ(hΓ:Γ.nt=23){aD:ar}{aY:aI}{r:ai}{k1:ai->Option ai}(dX:∀(cC:ai),k1 cC=some r->Ax Γ N f46 (.q [[some (77,2)]] (D.fr 77 2 (r.map aO.c))) [1,1,1] ⟨[(5,D.acc 0)],[Ob.row .uq 77 2 (cC.map aO.c)]⟩)(hm1:aD.length<=maxLen):∀(rest:ar) (i1:Nat) (bP:ai),aD.drop i1=rest->lM aD aY k1 rest i1 bP=some r->Ar Γ N f46 (.q [[some (77,2)]] (D.fr 77 2 (r.map aO.c))) [1,1,0,1,0] (rest.length+1) (Bd aD aY (bP.map aO.c) (i1:Int)):=by
 intro rest
 induction rest with
 |nil=>
  intro i1 bP b8 h;rw[lM]at h;refine aU fun N1 cW cK=>?_
  exact((aW.ge aP.c b8).a [.hl 0 [5] [0]]).ex hΓ cW (dX bP h)
 |cons bS cT ih1=>
  intro i1 bP b8 h;rw[lM]at h;refine aU fun N1 cW cK=>?_
  obtain⟨qp,h23,h⟩:=aB h;exact((((aW.lt aP.c b8).l (bG aP.c 5 (dc b8) rfl)).g (uA h23)).a [.cn [0,1,5,6] [1]]).ct hΓ cK (iS b8 hm1) (ih1 (i1+1) qp (dn b8) h)
theorem rq{aD:ar}{aY:aI}{r:ai}(h:nZ aD aY=some r):Good prog 46 [D.sl (aD.map aP.c),D.sl (aY.map aC.c)] (D.fr 77 2 (r.map aO.c)):=by
 refine gd func46 [[some (77,2)]] 23 fun hr Γ hΓ=>?_
 rw[nZ]at h;refine(aW.a [.cn [0,1,5,6] [0]]).lps hΓ (Bd aD aY ([[D.sl ([]),D.sl ([])]]) 0) (by first| (simp only[mA]<;>rfl)| (simp only[mA,aC.c,aV.c,aP.c,Action.c,aK.c,aO.c,bM.c,aX.c,Node.c,aG.c,dL.c]<;>rfl)) (IQ hΓ (fun cC h=>?_) (by have:=(gb.sl (hr _ (aE (i:=0) rfl))).1;simpa using this) aD 0 ([(⟨[],[]⟩:aO)]) rfl h);have h:=aN h;subst h;exact aW.ret hΓ
def mG(aD:aG)(aY:aI)(y1:aI)(k1:bK->Option aG):Nat->Int->bK->Option aG
 |0,_,_=>none
 |n1+1,yV,mP=>(bif decide ((yV:Int)<((mP.map aX.c).length:Int))then((fy mP yV).bind fun x26=>((fw x26.shape ([]) aY).bind fun By=>(mG aD aY y1 k1 n1 (IntKind.i64.wrap (yV+1)) (mP.set yV.toNat (⟨x26.shape,By⟩:aX)))))else(k1 mP))
def jl(aD:aG)(aY:aI)(y1:aI)(kp:bK)(k2:bI->Option aG):Nat->Int->bI->Option aG
 |0,_,_=>none
 |n2+1,nB,jr=>(bif decide ((nB:Int)<((jr.map Node.c).length:Int))then((ug (⟨aD.rules,aD.ends,kp,jr,y1,aD.br⟩:aG) nB).bind fun y80=>((nZ y80 aY).bind fun y82=>((fy jr nB).bind fun x84=>(jl aD aY y1 kp k2 n2 (IntKind.i64.wrap (nB+1)) (jr.set nB.toNat (⟨x84.parent,x84.cond,x84.cM,y82⟩:Node))))))else(k2 jr))
def uk(aD:aG)(aY:aI):Option aG:=((dF aY).bind fun y1=>(mG aD aY y1 (fun(kp:bK)=>(jl aD aY y1 kp (fun(mJ:bI)=>(some (⟨aD.rules,aD.ends,kp,mJ,y1,aD.br⟩:aG))) fuel 0 aD.nodes)) fuel 0 aD.az))
def DN(aD:aG)(aY:aI)(y1:aI)(yV:Int)(W1:List aQ):St:=⟨[(1,D.acc 0),(2,D.ptr 1 0),(4,D.ptr 2 0),(5,D.int .i64 yV)],[Ob.row .uq 43 2 (aY.map aC.c),Ob.box [D.acc 3,D.acc 4,D.acc 5,D.acc 6,D.acc 7,D.int .i64 aD.br],Ob.box [D.nil,D.nil,D.nil,D.nil,D.nil,D.int .i64 0],Ob.row .uq 63 4 (aD.rules.map aK.c),Ob.row .uq 3 1 (aD.ends.map gm),Ob.row .uq 83 3 W1,Ob.row .uq 74 8 (aD.nodes.map Node.c),Ob.row .uq 43 2 (y1.map aC.c)]⟩
theorem Kr(hΓ:Γ.nt=48){aD:aG}{aY:aI}{y1:aI}{r:aG}{k1:bK->Option aG}(dX:∀(kp:bK),k1 kp=some r->Ax Γ N f133 (.q [[some (63,4),some (3,1),some (83,3),some (74,8),some (43,2),none]] (D.agg [D.fr 63 4 (r.rules.map aK.c),D.fr 3 1 (r.ends.map gm),D.fr 83 3 (r.az.map aX.c),D.fr 74 8 (r.nodes.map Node.c),D.fr 43 2 (r.facts.map aC.c),D.int .i64 r.br])) [1,1,1] ⟨[(1,D.acc 0),(2,D.ptr 1 0),(4,D.ptr 2 0)],[Ob.row .uq 43 2 (aY.map aC.c),Ob.box [D.acc 3,D.acc 4,D.acc 5,D.acc 6,D.acc 7,D.int .i64 aD.br],Ob.box [D.nil,D.nil,D.nil,D.nil,D.nil,D.int .i64 0],Ob.row .uq 63 4 (aD.rules.map aK.c),Ob.row .uq 3 1 (aD.ends.map gm),Ob.row .uq 83 3 (kp.map aX.c),Ob.row .uq 74 8 (aD.nodes.map Node.c),Ob.row .uq 43 2 (y1.map aC.c)]⟩):∀(n1:Nat) (yV:Int) (mP:bK),mG aD aY y1 k1 n1 yV mP=some r->Ar Γ N f133 (.q [[some (63,4),some (3,1),some (83,3),some (74,8),some (43,2),none]] (D.agg [D.fr 63 4 (r.rules.map aK.c),D.fr 3 1 (r.ends.map gm),D.fr 83 3 (r.az.map aX.c),D.fr 74 8 (r.nodes.map Node.c),D.fr 43 2 (r.facts.map aC.c),D.int .i64 r.br])) [1,1,0,1,0] n1 (DN aD aY y1 yV (mP.map aX.c)):=by
 intro n
 induction n with
 |zero=>intro yV mP h;simp[mG]at h
 |succ n1 ih1=>
  intro yV mP h;rw[mG]at h;refine aU fun N1 cW cK=>?_
  obtain⟨h25,h⟩|⟨h25,h⟩:=aL h
  ·obtain⟨x26,h27,h⟩:=aB h;obtain⟨By,h29,h⟩:=aB h;exact(((((((((aW.b h25).a [.n 11]).i (ed aX.c 3 h27)).o 3 2 .uq (cH aX.c (dN h27))).a [.d (D.fr 43 2 (By.map aC.c))]).w (show Good prog 44 [D.agg (aC.c x26.shape),D.sl ([]),D.sl (aY.map aC.c)] (D.fr 43 2 (By.map aC.c))from by first| (simpa only[bD,au,bg,bZ,bh]using eZ h29)|exact eZ h29)).i (ed aX.c 3 h27)).w (show(mP.map aX.c)[yV.toNat]?=some [D.str x26.shape.rel,D.sl (x26.shape.args.map tx),D.sl (x26.facts.map aC.c)]from cH aX.c (dN h27))).a [.row [D.str x26.shape.rel,D.sl (x26.shape.args.map tx),D.sl (x26.facts.map aC.c)],.cn [1,2,4,5] [0,1,2,3,4,5,6,7]]).cs hΓ cK (DN aD aY y1 (IntKind.i64.wrap (yV+1)) ((mP.map aX.c).set yV.toNat [D.str x26.shape.rel,D.sl (x26.shape.args.map tx),D.sl (By.map aC.c)])) (by first| (simp only[mA]<;>rfl)| (simp only[mA,aC.c,aV.c,aP.c,Action.c,aK.c,aO.c,bM.c,aX.c,Node.c,aG.c,dL.c]<;>rfl)) (ih1 (IntKind.i64.wrap (yV+1)) (mP.set yV.toNat (⟨x26.shape,By⟩:aX)) h)
  ·exact((aW.b h25).a [.hl 0 [1,2,4] [0,1,2,3,4,5,6,7]]).ex hΓ cW (dX mP h)
def DO(aD:aG)(aY:aI)(y1:aI)(kp:bK)(nB:Int)(W1:List aQ):St:=⟨[(1,D.acc 0),(2,D.ptr 1 0),(4,D.ptr 2 0),(6,D.int .i64 nB)],[Ob.row .uq 43 2 (aY.map aC.c),Ob.box [D.acc 3,D.acc 4,D.acc 5,D.acc 6,D.acc 7,D.int .i64 aD.br],Ob.box [D.nil,D.nil,D.nil,D.nil,D.nil,D.int .i64 0],Ob.row .uq 63 4 (aD.rules.map aK.c),Ob.row .uq 3 1 (aD.ends.map gm),Ob.row .uq 83 3 (kp.map aX.c),Ob.row .uq 74 8 W1,Ob.row .uq 43 2 (y1.map aC.c)]⟩
theorem Ks(hΓ:Γ.nt=48){aD:aG}{aY:aI}{y1:aI}{kp:bK}{r:aG}{k2:bI->Option aG}(zx:∀(mJ:bI),k2 mJ=some r->Ax Γ N f133 (.q [[some (63,4),some (3,1),some (83,3),some (74,8),some (43,2),none]] (D.agg [D.fr 63 4 (r.rules.map aK.c),D.fr 3 1 (r.ends.map gm),D.fr 83 3 (r.az.map aX.c),D.fr 74 8 (r.nodes.map Node.c),D.fr 43 2 (r.facts.map aC.c),D.int .i64 r.br])) [1,1,1,1] ⟨[(2,D.ptr 0 0),(4,D.ptr 1 0)],[Ob.box [D.acc 2,D.acc 3,D.acc 4,D.acc 5,D.acc 6,D.int .i64 aD.br],Ob.box [D.nil,D.nil,D.nil,D.nil,D.nil,D.int .i64 0],Ob.row .uq 63 4 (aD.rules.map aK.c),Ob.row .uq 3 1 (aD.ends.map gm),Ob.row .uq 83 3 (kp.map aX.c),Ob.row .uq 74 8 (mJ.map Node.c),Ob.row .uq 43 2 (y1.map aC.c)]⟩):∀(n2:Nat) (nB:Int) (jr:bI),jl aD aY y1 kp k2 n2 nB jr=some r->Ar Γ N f133 (.q [[some (63,4),some (3,1),some (83,3),some (74,8),some (43,2),none]] (D.agg [D.fr 63 4 (r.rules.map aK.c),D.fr 3 1 (r.ends.map gm),D.fr 83 3 (r.az.map aX.c),D.fr 74 8 (r.nodes.map Node.c),D.fr 43 2 (r.facts.map aC.c),D.int .i64 r.br])) [1,1,1,0,1,0] n2 (DO aD aY y1 kp nB (jr.map Node.c)):=by
 intro n
 induction n with
 |zero=>intro nB jr h;simp[jl]at h
 |succ n2 ih2=>
  intro nB jr h;rw[jl]at h;refine aU fun N2 vC s6=>?_
  obtain⟨h75,h⟩|⟨h75,h⟩:=aL h
  ·obtain⟨y80,h81,h⟩:=aB h;obtain⟨y82,h83,h⟩:=aB h;obtain⟨x84,h85,h⟩:=aB h;exact(((((((aW.b h75).a [.n2 [0,1,2,3,4,5,6,7,8,9,10] [0,1,2,3,4,5,6,7,8,9,10] 7 8 [0,1,2] [],.d (D.fr 71 5 (y80.map aP.c))]).w (show Good prog 47 [D.agg [D.sl (aD.rules.map aK.c),D.sl (aD.ends.map gm),D.sl (kp.map aX.c),D.sl (jr.map Node.c),D.sl (y1.map aC.c),D.int .i64 aD.br],D.int .i64 nB] (D.fr 71 5 (y80.map aP.c))from by first| (simpa only[bD,au,bg,bZ,bh]using tv h81)|exact tv h81| (have t:=tv h81;simp only[bD,bZ,bh,aG.c]at t;exact t))).g (rq h83)).i (ed Node.c 8 h85)).w (show(jr.map Node.c)[nB.toNat]?=some [D.int .i64 x84.parent,D.int .i64 x84.cond.kind,D.str x84.cond.pat.rel,D.sl (x84.cond.pat.args.map tx),D.str x84.cond.left,D.str x84.cond.right,D.int .i64 x84.cM,D.sl (x84.tokens.map aO.c)]from cH Node.c (dN h85))).a [.row [D.int .i64 x84.parent,D.int .i64 x84.cond.kind,D.str x84.cond.pat.rel,D.sl (x84.cond.pat.args.map tx),D.str x84.cond.left,D.str x84.cond.right,D.int .i64 x84.cM,D.sl (x84.tokens.map aO.c)],.cn [1,2,4,6] [0,1,2,3,4,5,6,7]]).cs hΓ s6 (DO aD aY y1 kp (IntKind.i64.wrap (nB+1)) ((jr.map Node.c).set nB.toNat [D.int .i64 x84.parent,D.int .i64 x84.cond.kind,D.str x84.cond.pat.rel,D.sl (x84.cond.pat.args.map tx),D.str x84.cond.left,D.str x84.cond.right,D.int .i64 x84.cM,D.sl (y82.map aO.c)])) (by first| (simp only[mA]<;>rfl)| (simp only[mA,aC.c,aV.c,aP.c,Action.c,aK.c,aO.c,bM.c,aX.c,Node.c,aG.c,dL.c]<;>rfl)) (ih2 (IntKind.i64.wrap (nB+1)) (jr.set nB.toNat (⟨x84.parent,x84.cond,x84.cM,y82⟩:Node)) h)
  ·exact((aW.b h75).a [.hl 0 [2,4] [1,2,3,4,5,6,7]]).ex hΓ vC (zx jr h)
theorem Ja{aD:aG}{aY:aI}{r:aG}(h:uk aD aY=some r):Jx prog 133 [D.agg [D.fr 63 4 (aD.rules.map aK.c),D.fr 3 1 (aD.ends.map gm),D.fr 83 3 (aD.az.map aX.c),D.fr 74 8 (aD.nodes.map Node.c),D.fr 43 2 (aD.facts.map aC.c),D.int .i64 aD.br],D.fr 43 2 (aY.map aC.c)] (D.agg [D.fr 63 4 (r.rules.map aK.c),D.fr 3 1 (r.ends.map gm),D.fr 83 3 (r.az.map aX.c),D.fr 74 8 (r.nodes.map Node.c),D.fr 43 2 (r.facts.map aC.c),D.int .i64 r.br]):=by
 refine gdF func133 [[some (63,4),some (3,1),some (83,3),some (74,8),some (43,2),none]] 48 [D.agg [D.acc 0,D.acc 1,D.acc 2,D.acc 3,D.acc 4,D.int .i64 aD.br],D.acc 5] [Ob.row .uq 63 4 (aD.rules.map aK.c),Ob.row .uq 3 1 (aD.ends.map gm),Ob.row .uq 83 3 (aD.az.map aX.c),Ob.row .uq 74 8 (aD.nodes.map Node.c),Ob.row .uq 43 2 (aD.facts.map aC.c),Ob.row .uq 43 2 (aY.map aC.c)] fun hr Γ hΓ=>?_
 rw[uk]at h;obtain⟨y1,h2,h⟩:=aB h;refine((aW.g (dh h2)).a [.cn [1,2,4,5] [5,6,7,0,1,2,3,8]]).lp hΓ (Kr hΓ (fun kp h=>?_) fuel 0 aD.az h);refine(aW.a [.cn [1,2,4,6] [0,1,2,3,4,5,6,7]]).lp hΓ (Ks hΓ (fun mJ h=>?_) fuel 0 aD.nodes h);cases h;exact aW.ret hΓ
def uj(aD:cQ):Option (cQ×aG):=((yL aD 4).bind fun y1=>((k7 y1.2).bind fun y3=>((qD y1.1 8).bind fun y7=>((uk y3.1 y7.2).bind fun y9=>((cP y7.1 50).bind fun B3=>(some (B3.1,(⟨y9.rules,y9.ends,y9.az,y9.nodes,y9.facts,B3.2⟩:aG))))))))
theorem Be{aD:cQ}{r:cQ×aG}(h:uj aD=some r):iL prog 75 (cQ.c aD) (cQ.c r.1) [] (D.agg [D.fr 63 4 (r.2.rules.map aK.c),D.fr 3 1 (r.2.ends.map gm),D.fr 83 3 (r.2.az.map aX.c),D.fr 74 8 (r.2.nodes.map Node.c),D.fr 43 2 (r.2.facts.map aC.c),D.int .i64 r.2.br]):=by
 refine Jt func75 [[none,none,none],[some (63,4),some (3,1),some (83,3),some (74,8),some (43,2),none]] 19 [D.sl (aD.b.map yx),D.int .i64 aD.i,D.int .i64 aD.h] [] [] fun hr iU Γ hΓ=>?_
 rw[uj]at h;obtain⟨y1,h2,h⟩:=aB h;obtain⟨y3,h4,h⟩:=aB h;obtain⟨y7,h8,h⟩:=aB h;obtain⟨y9,h10,h⟩:=aB h;obtain⟨B3,h12,h⟩:=aB h;cases h;exact((((((aW.hp [[none,none,none],[none]] (Kj h2)).g (sI h4)).a [.n2 [0,1,2,3,4] [0,1,2,3,4] 2 3 [0] [0]]).hp [[none,none,none],[none]] (yH h8)).hf [[some (63,4),some (3,1),some (83,3),some (74,8),some (43,2),none],[some (43,2)]] (Ja h10)).hp [[none,none,none],[none]] (cD h12)).ret hΓ
def mT(aD:cQ):Option (cQ×Bytes):=((qC aD ([[97],[98],[111,110],[55],[49,48],[57,57,57,57],[49,48,48,48,48],[48,48,55],[48],[],[65],[63,120],[63,63],[63],[97,98,99,100,101,102,103,104],[97,98,99,100,101,102,103,104,105],[63,97,98,99,100,101,102,103,104],[97,45,98],[120,49],[49,120],[45,51]]:aH)).bind fun y1=>(some (y1.1,y1.2)))
theorem oH{aD:cQ}{r:cQ×Bytes}(h:mT aD=some r):iL prog 137 (cQ.c aD) (cQ.c r.1) [] (D.str r.2):=by
 refine Jt func137 [[none,none,none],[none]] 6 [D.sl (aD.b.map yx),D.int .i64 aD.i,D.int .i64 aD.h] [] [] fun hr iU Γ hΓ=>?_
 rw[mT]at h;obtain⟨y1,h2,h⟩:=aB h;cases h;exact(aW.hp [[none,none,none],[some (9,1)]] (rX h2)).ret hΓ
def kj(aD:cQ):Option (cQ×aC):=((ew aD).bind fun y1=>((cP y1.1 10).bind fun y3=>(bif (y3.2:Int)==0 then((mT y3.1).bind fun y6=>(some (y6.1,(⟨y6.2,y1.2.args⟩:aC))))else(bif (y3.2:Int)==1 then((mT y3.1).bind fun B3=>(bif room ((y1.2.args.map tx).length+([[D.str B3.2]]).length) 16 then(some (B3.1,(⟨y1.2.rel,y1.2.args++([B3.2])⟩:aC)))else none))else(bif (y3.2:Int)==2 then((cP y3.1 5).bind fun Jr=>(bif decide (0<=(Jr.2:Int))&&decide (Jr.2.toNat<=(([[97],[98],[99],[97]]:aH).map tx).length)then(some (Jr.1,(⟨y1.2.rel,([[97],[98],[99],[97]]:aH).take Jr.2.toNat⟩:aC)))else none))else(some (y3.1,y1.2)))))))
theorem rY{aD:cQ}{r:cQ×aC}(h:kj aD=some r):iL prog 112 (cQ.c aD) (cQ.c r.1) [] (D.agg [D.str r.2.rel,D.fr 9 1 (r.2.args.map tx)]):=by
 refine Jt func112 [[none,none,none],[none,some (9,1)]] 30 [D.sl (aD.b.map yx),D.int .i64 aD.i,D.int .i64 aD.h] [] [] fun hr iU Γ hΓ=>?_
 rw[kj]at h;obtain⟨y1,h2,h⟩:=aB h;obtain⟨y3,h4,h⟩:=aB h;have kX:=((aW.hp [[none,none,none]] (oJ h2)).hp [[none,none,none],[none]] (cD h4))
 obtain⟨h5,h⟩|⟨h5,h⟩:=aL h
 ·obtain⟨y6,h7,h⟩:=aB h;cases h;exact((kX.b h5).hp [[none,none,none]] (oH h7)).ret hΓ
 ·obtain⟨h8,h⟩|⟨h8,h⟩:=aL h
  ·obtain⟨B3,h12,h⟩:=aB h;obtain⟨h13,h⟩:=bQ h;cases h;exact(((((kX.b h5).b h8).a [.n2 [0,1,2,3,4,5,6,7] [0,1,2,3,4,5,6,7] 3 5 [0,1] [0]]).hp [[none,none,none]] (oH h12)).w (bX h13)).rts hΓ (D.ff [D.agg [D.str y1.2.rel,D.fr 9 1 ((y1.2.args.map tx)++([[D.str B3.2]]))],D.agg [D.sl (B3.1.b.map yx),D.int .i64 B3.1.i,D.int .i64 B3.1.h],D.val iU]) (by first|rfl| (simp only[mA]<;>rfl)| (simp only[cB,mA]<;>rfl))
  ·have fE:=((kX.b h5).b h8)
   obtain⟨h14,h⟩|⟨h14,h⟩:=aL h
   ·obtain⟨Jr,h16,h⟩:=aB h;obtain⟨h17,h⟩:=bQ h;cases h;exact((((fE.b h14).hp [[none,none,none],[none]] (cD h16)).w (U1 h17)).a [.cut 0 Jr.2.toNat]).rts hΓ (D.ff [D.agg [D.str y1.2.rel,D.fr 9 1 ((([[97],[98],[99],[97]]:aH).map tx).take Jr.2.toNat)],D.agg [D.sl (Jr.1.b.map yx),D.int .i64 Jr.1.i,D.int .i64 Jr.1.h],D.val iU]) (by first|rfl| (simp only[mA]<;>rfl)| (simp only[cB,mA]<;>rfl))
   ·cases h;exact(fE.b h14).ret hΓ
def mD(y3:cQ×Int)(k1:aI->Option (cQ×aI)):Nat->Int->aI->Option (cQ×aI)
 |0,_,_=>none
 |n1+1,p8,bR=>(bif decide ((p8:Int)<25)then((jf p8).bind fun HS=>((kn bR (⟨[110],[HS]⟩:aC)).bind fun tV=>(mD y3 k1 n1 (IntKind.i64.wrap (p8+1)) tV)))else(k1 bR))
def wk(aD:cQ):Option (cQ×aI):=((qD aD 6).bind fun y1=>((cP y1.1 8).bind fun y3=>(bif (y3.2:Int)==0 then((kj y3.1).bind fun y6=>(bif room ((y1.2.map aC.c).length+([[D.str y6.2.rel,D.sl (y6.2.args.map tx)]]).length) 40 then(some (y6.1,y1.2++([y6.2])))else none))else(bif (y3.2:Int)==1 then(mD y3 (fun(jo:aI)=>((iH y3.1 ([23,24,25]:bH)).bind fun Cr=>(bif decide (0<=(Cr.2:Int))&&decide (Cr.2.toNat<=(jo.map aC.c).length)then(some (Cr.1,jo.take Cr.2.toNat))else none))) fuel 0 y1.2)else(some (y3.1,y1.2))))))
def MB(iU:Value)(y3:cQ×Int)(p8:Int)(W1:List aQ):St:=⟨[(0,D.ptr 0 0),(3,D.acc 1),(4,D.int .i64 p8)],[Ob.Bq (cQ.c y3.1) iU,Ob.row .uq 43 2 W1]⟩
theorem Kb(hΓ:Γ.nt=34){iU:Value}{y3:cQ×Int}{r:cQ×aI}{k1:aI->Option (cQ×aI)}(dX:∀(jo:aI),k1 jo=some r->Ax Γ N f77 (.p [[none,none,none],[some (43,2)]] iU (cQ.c r.1) (D.fr 43 2 (r.2.map aC.c))) [1,1,0,1,0,1,1,1,0,1] ⟨[(0,D.ptr 0 0),(3,D.acc 1)],[Ob.Bq (cQ.c y3.1) iU,Ob.row .uq 43 2 (jo.map aC.c)]⟩):∀(n1:Nat) (p8:Int) (bR:aI),mD y3 k1 n1 p8 bR=some r->Ar Γ N f77 (.p [[none,none,none],[some (43,2)]] iU (cQ.c r.1) (D.fr 43 2 (r.2.map aC.c))) [1,1,0,1,0,1,1,1,0,0,1,0] n1 (MB iU y3 p8 (bR.map aC.c)):=by
 intro n
 induction n with
 |zero=>intro p8 bR h;simp[mD]at h
 |succ n1 ih1=>
  intro p8 bR h;rw[mD]at h;refine aU fun N1 cW cK=>?_
  obtain⟨h30,h⟩|⟨h30,h⟩:=aL h
  ·obtain⟨HS,h32,h⟩:=aB h;obtain⟨tV,h34,h⟩:=aB h;exact(((((aW.b h30).g (ny h32)).a [.d (D.fr 43 2 (tV.map aC.c))]).w (show Good prog 67 [D.sl (bR.map aC.c),D.agg [D.str ([110]),D.sl ([[D.str HS]])]] (D.fr 43 2 (tV.map aC.c))from by first| (simpa only[bD,au,bg,bZ,bh]using rZ h34)|exact rZ h34| (have t:=rZ h34;simp only[bD,bZ,bh,aC.c]at t;exact t))).a [.cn [0,3,4] [0,3]]).cf hΓ cK (ih1 (IntKind.i64.wrap (p8+1)) tV h)
  ·exact((aW.b h30).a [.hl 2 [0,3] [0,1]]).ex hΓ cW (dX bR h)
theorem JS{aD:cQ}{r:cQ×aI}(h:wk aD=some r):iL prog 77 (cQ.c aD) (cQ.c r.1) [] (D.fr 43 2 (r.2.map aC.c)):=by
 refine Jt func77 [[none,none,none],[some (43,2)]] 34 [D.sl (aD.b.map yx),D.int .i64 aD.i,D.int .i64 aD.h] [] [] fun hr iU Γ hΓ=>?_
 rw[wk]at h;obtain⟨y1,h2,h⟩:=aB h;obtain⟨y3,h4,h⟩:=aB h;have kX:=((aW.hp [[none,none,none],[none]] (yH h2)).hp [[none,none,none],[none]] (cD h4))
 obtain⟨h5,h⟩|⟨h5,h⟩:=aL h
 ·obtain⟨y6,h7,h⟩:=aB h;obtain⟨h8,h⟩:=bQ h;cases h;exact(((kX.b h5).hp [[none,none,none]] (rY h7)).w (bX h8)).rts hΓ (D.ff [D.fr 43 2 ((y1.2.map aC.c)++([[D.str y6.2.rel,D.sl (y6.2.args.map tx)]])),D.agg [D.sl (y6.1.b.map yx),D.int .i64 y6.1.i,D.int .i64 y6.1.h],D.val iU]) (by first|rfl| (simp only[mA]<;>rfl)| (simp only[cB,mA]<;>rfl))
 ·obtain⟨h9,h⟩|⟨h9,h⟩:=aL h
  ·refine(((kX.b h5).b h9).a [.cn [0,3,4] [0,1]]).lp hΓ (Kb hΓ (fun jo h=>?_) fuel 0 y1.2 h);obtain⟨Cr,h36,h⟩:=aB h;obtain⟨h37,h⟩:=bQ h;cases h;exact(((aW.hp [[none,none,none],[some (3,1)]] (kM h36)).w (U1 h37)).a [.cut 0 Cr.2.toNat]).rts hΓ (D.ff [D.fr 43 2 ((jo.map aC.c).take Cr.2.toNat),D.agg [D.sl (Cr.1.b.map yx),D.int .i64 Cr.1.i,D.int .i64 Cr.1.h],D.val iU]) (by first|rfl| (simp only[mA]<;>rfl)| (simp only[cB,mA]<;>rfl))
  ·cases h;exact((kX.b h5).b h9).ret hΓ
def vu(aD:cQ):Option (cQ×aC):=((jT aD).bind fun y1=>((cP y1.1 10).bind fun y3=>(bif (y3.2:Int)==0 then((mT y3.1).bind fun y6=>(some (y6.1,(⟨y6.2,y1.2.args⟩:aC))))else(bif (y3.2:Int)==1 then((mT y3.1).bind fun B3=>(bif room ((y1.2.args.map tx).length+([[D.str B3.2]]).length) 16 then(some (B3.1,(⟨y1.2.rel,y1.2.args++([B3.2])⟩:aC)))else none))else(bif (y3.2:Int)==2 then((cP y3.1 5).bind fun Jr=>(bif decide (0<=(Jr.2:Int))&&decide (Jr.2.toNat<=(([[63,120],[63,120],[63,121],[63,120]]:aH).map tx).length)then(some (Jr.1,(⟨y1.2.rel,([[63,120],[63,120],[63,121],[63,120]]:aH).take Jr.2.toNat⟩:aC)))else none))else(some (y3.1,y1.2)))))))
theorem CE{aD:cQ}{r:cQ×aC}(h:vu aD=some r):iL prog 139 (cQ.c aD) (cQ.c r.1) [] (D.agg [D.str r.2.rel,D.fr 9 1 (r.2.args.map tx)]):=by
 refine Jt func139 [[none,none,none],[none,some (9,1)]] 30 [D.sl (aD.b.map yx),D.int .i64 aD.i,D.int .i64 aD.h] [] [] fun hr iU Γ hΓ=>?_
 rw[vu]at h;obtain⟨y1,h2,h⟩:=aB h;obtain⟨y3,h4,h⟩:=aB h;have kX:=((aW.hp [[none,none,none]] (oK h2)).hp [[none,none,none],[none]] (cD h4))
 obtain⟨h5,h⟩|⟨h5,h⟩:=aL h
 ·obtain⟨y6,h7,h⟩:=aB h;cases h;exact((kX.b h5).hp [[none,none,none]] (oH h7)).ret hΓ
 ·obtain⟨h8,h⟩|⟨h8,h⟩:=aL h
  ·obtain⟨B3,h12,h⟩:=aB h;obtain⟨h13,h⟩:=bQ h;cases h;exact(((((kX.b h5).b h8).a [.n2 [0,1,2,3,4,5,6,7] [0,1,2,3,4,5,6,7] 3 5 [0,1] [0]]).hp [[none,none,none]] (oH h12)).w (bX h13)).rts hΓ (D.ff [D.agg [D.str y1.2.rel,D.fr 9 1 ((y1.2.args.map tx)++([[D.str B3.2]]))],D.agg [D.sl (B3.1.b.map yx),D.int .i64 B3.1.i,D.int .i64 B3.1.h],D.val iU]) (by first|rfl| (simp only[mA]<;>rfl)| (simp only[cB,mA]<;>rfl))
  ·have fE:=((kX.b h5).b h8)
   obtain⟨h14,h⟩|⟨h14,h⟩:=aL h
   ·obtain⟨Jr,h16,h⟩:=aB h;obtain⟨h17,h⟩:=bQ h;cases h;exact((((fE.b h14).hp [[none,none,none],[none]] (cD h16)).w (U1 h17)).a [.cut 0 Jr.2.toNat]).rts hΓ (D.ff [D.agg [D.str y1.2.rel,D.fr 9 1 ((([[63,120],[63,120],[63,121],[63,120]]:aH).map tx).take Jr.2.toNat)],D.agg [D.sl (Jr.1.b.map yx),D.int .i64 Jr.1.i,D.int .i64 Jr.1.h],D.val iU]) (by first|rfl| (simp only[mA]<;>rfl)| (simp only[cB,mA]<;>rfl))
   ·cases h;exact(fE.b h14).ret hΓ
def yJ(aD:cQ):Option (cQ×aP):=((sM aD).bind fun y1=>((cP y1.1 12).bind fun y3=>(bif (y3.2:Int)==0 then((iH y3.1 ([0,1,3,5,6, -1]:bH)).bind fun y6=>(some (y6.1,(⟨y6.2,y1.2.pat,y1.2.left,y1.2.right⟩:aP))))else(bif (y3.2:Int)==1 then((mT y3.1).bind fun y9=>(some (y9.1,(⟨y1.2.kind,y1.2.pat,y9.2,y1.2.right⟩:aP))))else(bif (y3.2:Int)==2 then((vu y3.1).bind fun Pj=>(some (Pj.1,(⟨y1.2.kind,Pj.2,y1.2.left,y1.2.right⟩:aP))))else(some (y3.1,y1.2)))))))
theorem Kf{aD:cQ}{r:cQ×aP}(h:yJ aD=some r):iL prog 138 (cQ.c aD) (cQ.c r.1) [] (D.agg [D.int .i64 r.2.kind,D.str r.2.pat.rel,D.fr 9 1 (r.2.pat.args.map tx),D.str r.2.left,D.str r.2.right]):=by
 refine Jt func138 [[none,none,none],[none,none,some (9,1),none,none]] 25 [D.sl (aD.b.map yx),D.int .i64 aD.i,D.int .i64 aD.h] [] [] fun hr iU Γ hΓ=>?_
 rw[yJ]at h;obtain⟨y1,h2,h⟩:=aB h;obtain⟨y3,h4,h⟩:=aB h;have kX:=((aW.hp [[none,none,none]] (BX h2)).hp [[none,none,none],[none]] (cD h4))
 obtain⟨h5,h⟩|⟨h5,h⟩:=aL h
 ·obtain⟨y6,h7,h⟩:=aB h;cases h;exact((kX.b h5).hp [[none,none,none],[some (3,1)]] (kM h7)).ret hΓ
 ·obtain⟨h8,h⟩|⟨h8,h⟩:=aL h
  ·obtain⟨y9,h10,h⟩:=aB h;cases h;exact(((kX.b h5).b h8).hp [[none,none,none]] (oH h10)).ret hΓ
  ·have fE:=((kX.b h5).b h8)
   obtain⟨h11,h⟩|⟨h11,h⟩:=aL h
   ·obtain⟨Pj,h13,h⟩:=aB h;cases h;exact((fE.b h11).hp [[none,none,none]] (CE h13)).ret hΓ
   ·cases h;exact(fE.b h11).ret hΓ
def yK(aD:cQ):Option (cQ×aK):=((mU aD).bind fun y1=>((cP y1.1 14).bind fun y3=>(bif (y3.2:Int)==0 then((mT y3.1).bind fun y6=>(some (y6.1,(⟨y6.2,y1.2.prio,y1.2.conds,y1.2.cY⟩:aK))))else(bif (y3.2:Int)==1 then((iH y3.1 ([-1,0,9,10]:bH)).bind fun y9=>(some (y9.1,(⟨y1.2.name,y9.2,y1.2.conds,y1.2.cY⟩:aK))))else(bif (y3.2:Int)==2 then((yJ y3.1).bind fun yW=>(bif room ((y1.2.conds.map aP.c).length+([[D.int .i64 yW.2.kind,D.str yW.2.pat.rel,D.sl (yW.2.pat.args.map tx),D.str yW.2.left,D.str yW.2.right]]).length) 80 then(some (yW.1,(⟨y1.2.name,y1.2.prio,y1.2.conds++([yW.2]),y1.2.cY⟩:aK)))else none))else(bif (y3.2:Int)==3 then((iH y3.1 ([0,1,2,3,4]:bH)).bind fun qp=>((vu qp.1).bind fun Di=>(bif room ((y1.2.cY.map Action.c).length+([[D.int .i64 qp.2,D.str Di.2.rel,D.sl (Di.2.args.map tx)]]).length) 48 then(some (Di.1,(⟨y1.2.name,y1.2.prio,y1.2.conds,y1.2.cY++([(⟨qp.2,Di.2⟩:Action)])⟩:aK)))else none)))else(bif (y3.2:Int)==4 then((wT (y1.2.conds.map aP.c).length (some (D.int .i64 1)) none).bind fun p=>(fun l28 u29=>(some (y3.1,(⟨y1.2.name,y1.2.prio,(y1.2.conds.take u29).drop l28,y1.2.cY⟩:aK)))) p.1 p.2)else(bif (y3.2:Int)==5 then((wT (y1.2.cY.map Action.c).length (some (D.int .i64 1)) none).bind fun p=>(fun l32 u33=>(some (y3.1,(⟨y1.2.name,y1.2.prio,y1.2.conds,(y1.2.cY.take u33).drop l32⟩:aK)))) p.1 p.2)else(bif (y3.2:Int)==6 then((qC y3.1 ([[63,102],[63,97],[63,103]]:aH)).bind fun NH=>((iH NH.1 ([1,2]:bH)).bind fun Na=>((qC Na.1 ([[63,102],[63,120]]:aH)).bind fun Wb=>(some (Wb.1,(⟨y1.2.name,y1.2.prio,[(⟨1,(⟨[116],([[63,97],[63,98],[63,99]]:aH)⟩:aC),[],[]⟩:aP),(⟨1,(⟨[116],([[63,100],[63,101],NH.2]:aH)⟩:aC),[],[]⟩:aP),(⟨Na.2,(⟨[117],[Wb.2]⟩:aC),[],[]⟩:aP)],[(⟨3,(⟨[],[]⟩:aC)⟩:Action)]⟩:aK))))))else(some (y3.1,y1.2)))))))))))
theorem Kg{aD:cQ}{r:cQ×aK}(h:yK aD=some r):iL prog 80 (cQ.c aD) (cQ.c r.1) [] (D.agg [D.str r.2.name,D.int .i64 r.2.prio,D.sl (r.2.conds.map aP.c),D.sl (r.2.cY.map Action.c)]):=by
 refine Jt func80 [[none,none,none],[none,none,none,none]] 79 [D.sl (aD.b.map yx),D.int .i64 aD.i,D.int .i64 aD.h] [] [] fun hr iU Γ hΓ=>?_
 rw[yK]at h;obtain⟨y1,h2,h⟩:=aB h;obtain⟨y3,h4,h⟩:=aB h;have kX:=((aW.hp [[none,none,none]] (BZ h2)).hp [[none,none,none],[none]] (cD h4))
 obtain⟨h5,h⟩|⟨h5,h⟩:=aL h
 ·obtain⟨y6,h7,h⟩:=aB h;cases h;exact(((kX.b h5).hp [[none,none,none]] (oH h7)).a [.sk 2,.sk 3]).ret hΓ
 ·obtain⟨h8,h⟩|⟨h8,h⟩:=aL h
  ·obtain⟨y9,h10,h⟩:=aB h;cases h;exact((((kX.b h5).b h8).hp [[none,none,none],[some (3,1)]] (kM h10)).a [.sk 2,.sk 3]).ret hΓ
  ·have fE:=((kX.b h5).b h8)
   obtain⟨h11,h⟩|⟨h11,h⟩:=aL h
   ·obtain⟨yW,h15,h⟩:=aB h;obtain⟨h16,h⟩:=bQ h;cases h;exact(((((fE.b h11).a [.n2 [0,1,2,3,4,5,6,7] [0,1,2,3,4,5,6,7] 3 5 [0,1] [0,5]]).hp [[none,none,none]] (Kf h15)).w (bX h16)).a [.sk 7,.sk 3]).rts hΓ (D.ff [D.agg [D.str y1.2.name,D.int .i64 y1.2.prio,D.sl ((y1.2.conds.map aP.c)++([[D.int .i64 yW.2.kind,D.str yW.2.pat.rel,D.sl (yW.2.pat.args.map tx),D.str yW.2.left,D.str yW.2.right]])),D.sl (y1.2.cY.map Action.c)],D.agg [D.sl (yW.1.b.map yx),D.int .i64 yW.1.i,D.int .i64 yW.1.h],D.val iU]) (by first|rfl| (simp only[mA]<;>rfl)| (simp only[cB,mA]<;>rfl))
   ·obtain⟨h17,h⟩|⟨h17,h⟩:=aL h
    ·obtain⟨qp,h23,h⟩:=aB h;obtain⟨Di,h25,h⟩:=aB h;obtain⟨h26,h⟩:=bQ h;cases h;exact(((((((fE.b h11).b h17).a [.n2 [0,1,2,3,5,4,6,7,8,9,10,11] [0,1,2,3,5,4,6,7,8,9,10,11] 5 9 [0,1,4] [0,5,6]]).hp [[none,none,none],[some (3,1)]] (kM h23)).hp [[none,none,none]] (CE h25)).w (bX h26)).a [.sk 2,.sk 8]).rts hΓ (D.ff [D.agg [D.str y1.2.name,D.int .i64 y1.2.prio,D.sl (y1.2.conds.map aP.c),D.sl ((y1.2.cY.map Action.c)++([[D.int .i64 qp.2,D.str Di.2.rel,D.sl (Di.2.args.map tx)]]))],D.agg [D.sl (Di.1.b.map yx),D.int .i64 Di.1.i,D.int .i64 Di.1.h],D.val iU]) (by first|rfl| (simp only[mA]<;>rfl)| (simp only[cB,mA]<;>rfl))
    ·have ij:=((fE.b h11).b h17)
     obtain⟨h27,h⟩|⟨h27,h⟩:=aL h
     ·obtain⟨⟨l28,u29⟩,h30,h⟩:=aB h;cases h;exact(((ij.b h27).w (show wT (y1.2.conds.map aP.c).length (some (D.int .i64 1)) none=some (l28,u29)/\((y1.2.conds.map aP.c).all fun r=>r.length==5)=true from⟨h30,by simp[aj]⟩)).a [.fz,.cut l28 u29,.sk 3]).rts hΓ (D.ff [D.agg [D.str y1.2.name,D.int .i64 y1.2.prio,D.sl (((y1.2.conds.map aP.c).take u29).drop l28),D.sl (y1.2.cY.map Action.c)],D.agg [D.sl (y3.1.b.map yx),D.int .i64 y3.1.i,D.int .i64 y3.1.h],D.val iU]) (by first|rfl| (simp only[mA]<;>rfl)| (simp only[mA,bZ]<;>rfl)| (simp only[cB,mA]<;>rfl))
     ·obtain⟨h31,h⟩|⟨h31,h⟩:=aL h
      ·obtain⟨⟨l32,u33⟩,h34,h⟩:=aB h;cases h;exact((((ij.b h27).b h31).w (show wT (y1.2.cY.map Action.c).length (some (D.int .i64 1)) none=some (l32,u33)/\((y1.2.cY.map Action.c).all fun r=>r.length==3)=true from⟨h34,by simp[aj]⟩)).a [.fz,.cut l32 u33,.sk 2]).rts hΓ (D.ff [D.agg [D.str y1.2.name,D.int .i64 y1.2.prio,D.sl (y1.2.conds.map aP.c),D.sl (((y1.2.cY.map Action.c).take u33).drop l32)],D.agg [D.sl (y3.1.b.map yx),D.int .i64 y3.1.i,D.int .i64 y3.1.h],D.val iU]) (by first|rfl| (simp only[mA]<;>rfl)| (simp only[mA,bZ]<;>rfl)| (simp only[cB,mA]<;>rfl))
      ·have jO:=((ij.b h27).b h31)
       obtain⟨h35,h⟩|⟨h35,h⟩:=aL h
       ·obtain⟨NH,h37,h⟩:=aB h;obtain⟨Na,h39,h⟩:=aB h;obtain⟨Wb,h41,h⟩:=aB h;cases h;exact(((((jO.b h35).hp [[none,none,none],[some (9,1)]] (rX h37)).hp [[none,none,none],[some (3,1)]] (kM h39)).hp [[none,none,none],[some (9,1)]] (rX h41)).a [.sk 11,.sk 12]).ret hΓ
       ·cases h;exact((jO.b h35).a [.sk 2,.sk 3]).ret hΓ
def yM(aD:cQ):Option (cQ×aG):=((uj aD).bind fun y1=>((cP y1.1 12).bind fun y3=>(bif (y3.2:Int)==0 then(some (y3.1,(⟨y1.2.rules,y1.2.ends,y1.2.az,y1.2.nodes,y1.2.facts, -1⟩:aG)))else(bif (y3.2:Int)==1 then((wk y3.1).bind fun y7=>(some (y7.1,(⟨y1.2.rules,y1.2.ends,y1.2.az,y1.2.nodes,y7.2,y1.2.br⟩:aG))))else(bif (y3.2:Int)==2 then((cP y3.1 ((y1.2.nodes.map Node.c).length:Int)).bind fun FY=>((iH FY.1 ([-1,0,1,2,99]:bH)).bind fun yW=>((fy y1.2.nodes FY.2).bind fun x16=>(some (yW.1,(⟨y1.2.rules,y1.2.ends,y1.2.az,y1.2.nodes.set FY.2.toNat (⟨yW.2,x16.cond,x16.cM,x16.tokens⟩:Node),y1.2.facts,y1.2.br⟩:aG))))))else(bif (y3.2:Int)==3 then((cP y3.1 ((y1.2.nodes.map Node.c).length:Int)).bind fun yX=>((fy y1.2.nodes yX.2).bind fun x21=>((qD yX.1 1).bind fun y26=>(bif room ((x21.tokens.map aO.c).length+([[D.sl (y26.2.map aC.c),D.sl ([])]]).length) 48 then(some (y26.1,(⟨y1.2.rules,y1.2.ends,y1.2.az,y1.2.nodes.set yX.2.toNat (⟨x21.parent,x21.cond,x21.cM,x21.tokens++([(⟨y26.2,[]⟩:aO)])⟩:Node),y1.2.facts,y1.2.br⟩:aG)))else none))))else(bif (y3.2:Int)==4 then((yK y3.1).bind fun HF=>(bif room ((y1.2.rules.map aK.c).length+([[D.str HF.2.name,D.int .i64 HF.2.prio,D.sl (HF.2.conds.map aP.c),D.sl (HF.2.cY.map Action.c)]]).length) 72 then(some (HF.1,(⟨y1.2.rules++([HF.2]),y1.2.ends,y1.2.az,y1.2.nodes,y1.2.facts,y1.2.br⟩:aG)))else none))else(bif (y3.2:Int)==5 then(bif room ((y1.2.ends.map gm).length+([[D.int .i64 0]]).length) 8 then(some (y3.1,(⟨y1.2.rules,y1.2.ends++([0]),y1.2.az,y1.2.nodes,y1.2.facts,y1.2.br⟩:aG)))else none)else(some (y3.1,y1.2))))))))))
theorem Kn{aD:cQ}{r:cQ×aG}(h:yM aD=some r):iL prog 34 (cQ.c aD) (cQ.c r.1) [] (D.agg [D.sl (r.2.rules.map aK.c),D.fr 3 1 (r.2.ends.map gm),D.fr 83 3 (r.2.az.map aX.c),D.fr 74 8 (r.2.nodes.map Node.c),D.fr 43 2 (r.2.facts.map aC.c),D.int .i64 r.2.br]):=by
 refine aAh func34 [[none,none,none],[none,some (3,1),some (83,3),some (74,8),some (43,2),none]] 73 [] fun hr iU Γ hΓ hO=>?_
 rw[yM]at h;obtain⟨y1,h2,h⟩:=aB h;obtain⟨y3,h4,h⟩:=aB h;have kX:=((aW.hp [[none,none,none]] (Be h2)).hp [[none,none,none],[none]] (cD h4))
 obtain⟨h5,h⟩|⟨h5,h⟩:=aL h
 ·cases h;exact((kX.b h5).a [.sk 2]).ret hΓ
 ·obtain⟨h6,h⟩|⟨h6,h⟩:=aL h
  ·obtain⟨y7,h8,h⟩:=aB h;cases h;exact((((kX.b h5).b h6).hp [[none,none,none]] (JS h8)).a [.sk 2]).ret hΓ
  ·have fE:=((kX.b h5).b h6)
   obtain⟨h9,h⟩|⟨h9,h⟩:=aL h
   ·obtain⟨FY,h11,h⟩:=aB h;obtain⟨yW,h15,h⟩:=aB h;obtain⟨x16,h17,h⟩:=aB h;cases h;exact(((((((fE.b h9).hp [[none,none,none],[none]] (cD h11)).a [.n2 [0,1,2,3,4,5,6,7,8] [0,1,2,3,4,5,6,7,8] 5 6 [0,1,2] [0,8]]).hp [[none,none,none],[some (3,1)]] (kM h15)).i (ed Node.c 8 h17)).w (show(y1.2.nodes.map Node.c)[FY.2.toNat]?=some [D.int .i64 x16.parent,D.int .i64 x16.cond.kind,D.str x16.cond.pat.rel,D.sl (x16.cond.pat.args.map tx),D.str x16.cond.left,D.str x16.cond.right,D.int .i64 x16.cM,D.sl (x16.tokens.map aO.c)]from cH Node.c (dN h17))).a [.row [D.int .i64 x16.parent,D.int .i64 x16.cond.kind,D.str x16.cond.pat.rel,D.sl (x16.cond.pat.args.map tx),D.str x16.cond.left,D.str x16.cond.right,D.int .i64 x16.cM,D.sl (x16.tokens.map aO.c)],.sk 2]).rts hΓ (D.ff [D.agg [D.sl (y1.2.rules.map aK.c),D.fr 3 1 (y1.2.ends.map gm),D.fr 83 3 (y1.2.az.map aX.c),D.fr 74 8 ((y1.2.nodes.map Node.c).set FY.2.toNat [D.int .i64 yW.2,D.int .i64 x16.cond.kind,D.str x16.cond.pat.rel,D.sl (x16.cond.pat.args.map tx),D.str x16.cond.left,D.str x16.cond.right,D.int .i64 x16.cM,D.sl (x16.tokens.map aO.c)]),D.fr 43 2 (y1.2.facts.map aC.c),D.int .i64 y1.2.br],D.agg [D.sl (yW.1.b.map yx),D.int .i64 yW.1.i,D.int .i64 yW.1.h],D.val iU]) (by first|rfl| (simp only[mA]<;>rfl)| (simp only[cB,mA]<;>rfl))
   ·obtain⟨h18,h⟩|⟨h18,h⟩:=aL h
    ·obtain⟨yX,h20,h⟩:=aB h;obtain⟨x21,h22,h⟩:=aB h;refine((((fE.b h9).b h18).hp [[none,none,none],[none]] (cD h20)).a [.hl 2 [0,2,3,5] [0,1,7,2,3,4,5,6]]).ex (N:=fun _ _=>False) (c':=(lc f34 [1,1,0,1,0,1,1,1,1,1,1,1,0,1])) (K':=(lk' f34 [1,1,0,1,0,1,1,1,1,1,1,1,0,1])) (K0:=(lk' f34 [1,1,0,1,0,1,1,1,1,1,1,1,0,1])) hΓ (fun _ _=>rfl) (a1q (st:=⟨[(0,D.ptr 0 0),(2,D.ptr 1 0),(3,D.ptr 2 0),(5,D.int .i64 yX.2)],[Ob.Bq (cQ.c yX.1) iU,Ob.box [D.nil,D.nil,D.nil,D.nil,D.nil,D.int .i64 0],Ob.box [D.acc 3,D.acc 4,D.acc 5,D.acc 6,D.acc 7,D.int .i64 y1.2.br],Ob.row .uq 63 4 (y1.2.rules.map aK.c),Ob.row .uq 3 1 (y1.2.ends.map gm),Ob.row .uq 83 3 (y1.2.az.map aX.c),Ob.row .uq 74 8 (y1.2.nodes.map Node.c),Ob.row .uq 43 2 (y1.2.facts.map aC.c)]⟩) (m:=6) (e:=74) (sz:=8) (i:=yX.2.toNat) (off:=7) (e':=77) (sz':=2) (r:=Node.c x21) hO (a2O _) (cH Node.c (dN h22)) rfl rfl rfl rfl rfl rfl rfl rfl rfl ?_);obtain⟨y26,h27,h⟩:=aB h;obtain⟨h28,h⟩:=bQ h;cases h;exact((((((((aW.w (show 8=8/\yX.2=((yX.2.toNat:Nat):Int)/\yX.2.toNat<((y1.2.nodes.map Node.c).set yX.2.toNat [D.int .i64 x21.parent,D.int .i64 x21.cond.kind,D.str x21.cond.pat.rel,D.sl (x21.cond.pat.args.map tx),D.str x21.cond.left,D.str x21.cond.right,D.int .i64 x21.cM,D.any]).length from a44 Node.c 8 h22)).w (show 8=8/\(yX.2.toNat)*8+7=yX.2.toNat*8+7 from⟨rfl,rfl⟩)).a [.n2 [0,1,2,3,4,5,6,7,8,9,10,11,12,13,14,15,16] [0,1,2,3,4,5,6,7,8,9,10,11,12,13,14,15,16] 10 14 [0,1,2,3,4,5,6,7,8] [0,8,9,10],.ix yX.2.toNat,.hd]).hp [[none,none,none],[none]] (yH h27)).w (bX h28)).w (show 8=8/\yX.2=((yX.2.toNat:Nat):Int)/\yX.2.toNat<((y1.2.nodes.map Node.c).set yX.2.toNat [D.int .i64 x21.parent,D.int .i64 x21.cond.kind,D.str x21.cond.pat.rel,D.sl (x21.cond.pat.args.map tx),D.str x21.cond.left,D.str x21.cond.right,D.int .i64 x21.cM,D.any]).length from a44 Node.c 8 h22)).w (show((y1.2.nodes.map Node.c).set yX.2.toNat [D.int .i64 x21.parent,D.int .i64 x21.cond.kind,D.str x21.cond.pat.rel,D.sl (x21.cond.pat.args.map tx),D.str x21.cond.left,D.str x21.cond.right,D.int .i64 x21.cM,D.any])[yX.2.toNat]?=some [D.int .i64 x21.parent,D.int .i64 x21.cond.kind,D.str x21.cond.pat.rel,D.sl (x21.cond.pat.args.map tx),D.str x21.cond.left,D.str x21.cond.right,D.int .i64 x21.cM,D.any]from a7y Node.c [D.int .i64 x21.parent,D.int .i64 x21.cond.kind,D.str x21.cond.pat.rel,D.sl (x21.cond.pat.args.map tx),D.str x21.cond.left,D.str x21.cond.right,D.int .i64 x21.cM,D.any] h22)).a [.ix yX.2.toNat,.row [D.int .i64 x21.parent,D.int .i64 x21.cond.kind,D.str x21.cond.pat.rel,D.sl (x21.cond.pat.args.map tx),D.str x21.cond.left,D.str x21.cond.right,D.int .i64 x21.cM,D.any],.sk 3]).rts hΓ (D.ff [D.agg [D.sl (y1.2.rules.map aK.c),D.fr 3 1 (y1.2.ends.map gm),D.fr 83 3 (y1.2.az.map aX.c),D.fr 74 8 (((y1.2.nodes.map Node.c).set yX.2.toNat [D.int .i64 x21.parent,D.int .i64 x21.cond.kind,D.str x21.cond.pat.rel,D.sl (x21.cond.pat.args.map tx),D.str x21.cond.left,D.str x21.cond.right,D.int .i64 x21.cM,D.any]).set yX.2.toNat [D.int .i64 x21.parent,D.int .i64 x21.cond.kind,D.str x21.cond.pat.rel,D.sl (x21.cond.pat.args.map tx),D.str x21.cond.left,D.str x21.cond.right,D.int .i64 x21.cM,D.sl ((x21.tokens.map aO.c)++([[D.sl (y26.2.map aC.c),D.sl ([])]]))]),D.fr 43 2 (y1.2.facts.map aC.c),D.int .i64 y1.2.br],D.agg [D.sl (y26.1.b.map yx),D.int .i64 y26.1.i,D.int .i64 y26.1.h],D.val iU]) (by first|rfl| (simp only[mA]<;>rfl)| (simp only[mA,List.set_set,Node.c]<;>rfl)| (simp only[cB,mA]<;>rfl))
    ·have ij:=((fE.b h9).b h18)
     obtain⟨h29,h⟩|⟨h29,h⟩:=aL h
     ·obtain⟨HF,h33,h⟩:=aB h;obtain⟨h34,h⟩:=bQ h;cases h;exact((((ij.b h29).a [.n2 [0,1,2,3,4,5,6,7] [0,1,2,3,4,5,6,7] 3 5 [0,1] [0]]).hp [[none,none,none]] (Kg h33)).w (bX h34)).rts hΓ (D.ff [D.agg [D.sl ((y1.2.rules.map aK.c)++([[D.str HF.2.name,D.int .i64 HF.2.prio,D.sl (HF.2.conds.map aP.c),D.sl (HF.2.cY.map Action.c)]])),D.fr 3 1 (y1.2.ends.map gm),D.fr 83 3 (y1.2.az.map aX.c),D.fr 74 8 (y1.2.nodes.map Node.c),D.fr 43 2 (y1.2.facts.map aC.c),D.int .i64 y1.2.br],D.agg [D.sl (HF.1.b.map yx),D.int .i64 HF.1.i,D.int .i64 HF.1.h],D.val iU]) (by first|rfl| (simp only[mA]<;>rfl)| (simp only[cB,mA]<;>rfl))
     ·obtain⟨h35,h⟩|⟨h35,h⟩:=aL h
      ·obtain⟨h36,h⟩:=bQ h;cases h;exact((((ij.b h29).b h35).w (bX h36)).a [.sk 2]).rts hΓ (D.ff [D.agg [D.sl (y1.2.rules.map aK.c),D.fr 3 1 ((y1.2.ends.map gm)++([[D.int .i64 0]])),D.fr 83 3 (y1.2.az.map aX.c),D.fr 74 8 (y1.2.nodes.map Node.c),D.fr 43 2 (y1.2.facts.map aC.c),D.int .i64 y1.2.br],D.agg [D.sl (y3.1.b.map yx),D.int .i64 y3.1.i,D.int .i64 y3.1.h],D.val iU]) (by first|rfl| (simp only[mA]<;>rfl)| (simp only[cB,mA]<;>rfl))
      ·cases h;exact(((ij.b h29).b h35).a [.sk 2]).ret hΓ
def gS(aD:Bytes)(k1:Option Bool):Nat->Int->Option Bool
 |0,_=>none
 |n1+1,ni=>(bif decide ((ni:Int)<(aD.length:Int))then((fy aD ni).bind fun b31=>(bif decide ((b31.toNat:Int)<97)then(bif decide ((b31.toNat:Int)<48)then(some false)else(bif decide ((b31.toNat:Int)>57)then(some false)else(gS aD k1 n1 (IntKind.i64.wrap (ni+1)))))else(bif decide ((b31.toNat:Int)>122)then(bif decide ((b31.toNat:Int)<48)then(some false)else(bif decide ((b31.toNat:Int)>57)then(some false)else(gS aD k1 n1 (IntKind.i64.wrap (ni+1)))))else(gS aD k1 n1 (IntKind.i64.wrap (ni+1))))))else(k1))
def gC(aD:Bytes):Option Bool:=(bif decide (((aD.length:Int):Int)<1)then(some false)else(bif decide (((aD.length:Int):Int)>8)then(some false)else(gS aD (some true) fuel 0)))
def Lt(aD:Bytes)(ni:Int):St:=⟨[(0,D.str aD),(3,D.int .i64 ni)],[]⟩
theorem K9(hΓ:Γ.nt=40){aD:Bytes}{r:Bool}{k1:Option Bool}(dX:k1=some r->Ax Γ N f144 (.q [[none]] (D.bool r)) [1,1,1] ⟨[],[]⟩):∀(n1:Nat) (ni:Int),gS aD k1 n1 ni=some r->Ar Γ N f144 (.q [[none]] (D.bool r)) [1,1,0,1,0] n1 (Lt aD ni):=by
 intro n
 induction n with
 |zero=>intro ni h;simp[gS]at h
 |succ n1 ih1=>
  intro ni h;rw[gS]at h;refine aU fun N1 cW cK=>?_
  obtain⟨h30,h⟩|⟨h30,h⟩:=aL h
  ·obtain⟨b31,h32,h⟩:=aB h;have z7:=((aW.b h30).c h32)
   obtain⟨h33,h⟩|⟨h33,h⟩:=aL h
   ·have DY:=((((z7.r 5 h33).T 3).c h32).T 2)
    obtain⟨h34,h⟩|⟨h34,h⟩:=aL h
    ·have h:=aN h;subst h;exact((((DY.r 4 h34).T 1).b h34).T 2).ret hΓ
    ·have LL:=((((((DY.r 3 h34).c h32).b h34).T 1).b h34).T 1)
     obtain⟨h35,h⟩|⟨h35,h⟩:=aL h
     ·have h:=aN h;subst h;exact(LL.b h35).ret hΓ
     ·exact((LL.b h35).a [.cn [0,3] []]).cf hΓ cK (ih1 (IntKind.i64.wrap (ni+1)) h)
   ·have Bp:=(((z7.r 3 h33).c h32).r 2 h33)
    obtain⟨h36,h⟩|⟨h36,h⟩:=aL h
    ·have Gz:=(((Bp.r 3 h36).c h32).r 2 h36)
     obtain⟨h37,h⟩|⟨h37,h⟩:=aL h
     ·have h:=aN h;subst h;exact(((((Gz.r 4 h37).b h36).b h37).b h36).T 1).ret hΓ
     ·have Ao:=((((((Gz.r 3 h37).c h32).b h37).b h36).b h37).b h36)
      obtain⟨h38,h⟩|⟨h38,h⟩:=aL h
      ·have h:=aN h;subst h;exact(Ao.b h38).ret hΓ
      ·exact((Ao.b h38).a [.cn [0,3] []]).cf hΓ cK (ih1 (IntKind.i64.wrap (ni+1)) h)
    ·exact(((Bp.r 7 h36).F 1).a [bF,bF,bF,bF,.cn [0,3] []]).cf hΓ cK (ih1 (IntKind.i64.wrap (ni+1)) h)
  ·exact((aW.b h30).a [.hl 0 [] []]).ex hΓ cW (dX h)
theorem fJ{aD:Bytes}{r:Bool}(h:gC aD=some r):Good prog 144 [D.str aD] (D.bool r):=by
 refine gd func144 [[none]] 40 fun hr Γ hΓ=>?_
 rw[gC]at h;obtain⟨h1,h⟩|⟨h1,h⟩:=aL h
 ·have h:=aN h;subst h;exact((aW.r 4 h1).T 1).ret hΓ
 ·have H6:=(aW.r 4 h1)
  obtain⟨h2,h⟩|⟨h2,h⟩:=aL h
  ·have h:=aN h;subst h;exact(H6.b h2).ret hΓ
  ·refine((H6.b h2).a [.cn [0,3] []]).lp hΓ (K9 hΓ (fun h=>?_) fuel 0 h);have h:=aN h;subst h;exact aW.ret hΓ
def sG(aD:Bytes):Option Bool:=((gC aD).bind fun y1=>(bif y1 then((fy aD 0).bind fun b4=>(some (decide ((b4.toNat:Int)>=97))))else(some false)))
theorem o5{aD:Bytes}{r:Bool}(h:sG aD=some r):Good prog 163 [D.str aD] (D.bool r):=by
 refine gd func163 [[none]] 10 fun hr Γ hΓ=>?_
 rw[sG]at h;obtain⟨y1,h2,h⟩:=aB h;obtain⟨h3,h⟩|⟨h3,h⟩:=aL h
 ·obtain⟨b4,h5,h⟩:=aB h;cases h;exact((((aW.g (fJ h2)).r 2 h3).c h5).r 2 h3).ret hΓ
 ·have h:=aN h;subst h;exact((aW.g (fJ h2)).r 4 h3).ret hΓ
def mZ(aD:Bytes):Option Bool:=(bif decide (((aD.length:Int):Int)>1)then((fy aD 0).bind fun b2=>(bif (b2.toNat:Int)==63 then((wT aD.length (some (D.int .i64 1)) none).bind fun p=>(fun l5 u6=>((gC ((aD.take u6).drop l5)).bind fun y8=>(some y8))) p.1 p.2)else(some false)))else(some false))
theorem pH{aD:Bytes}{r:Bool}(h:mZ aD=some r):Good prog 145 [D.str aD] (D.bool r):=by
 refine gd func145 [[none]] 16 fun hr Γ hΓ=>?_
 rw[mZ]at h;obtain⟨h1,h⟩|⟨h1,h⟩:=aL h
 ·obtain⟨b2,h3,h⟩:=aB h;have kX:=(((aW.r 2 h1).c h3).r 2 h1)
  obtain⟨h4,h⟩|⟨h4,h⟩:=aL h
  ·obtain⟨⟨l5,u6⟩,h7,h⟩:=aB h;obtain⟨y8,h9,h⟩:=aB h;have h:=aN h;subst h;exact((((((kX.r 2 h4).w h7).a [.cut l5 u6]).b h4).g (fJ h9)).b h4).ret hΓ
  ·have h:=aN h;subst h;exact(kX.r 4 h4).ret hΓ
 ·have h:=aN h;subst h;exact((aW.r 4 h1).F 4).ret hΓ
def jR(aD:Bytes):Option Bool:=((gC aD).bind fun y1=>(bif y1 then(some true)else((mZ aD).bind fun y4=>(some y4))))
theorem l6{aD:Bytes}{r:Bool}(h:jR aD=some r):Good prog 208 [D.str aD] (D.bool r):=by
 refine gd func208 [[none]] 9 fun hr Γ hΓ=>?_
 rw[jR]at h;obtain⟨y1,h2,h⟩:=aB h;obtain⟨h3,h⟩|⟨h3,h⟩:=aL h
 ·have h:=aN h;subst h;exact((aW.g (fJ h2)).r 3 h3).ret hΓ
 ·obtain⟨y4,h5,h⟩:=aB h;have h:=aN h;subst h;exact((((aW.g (fJ h2)).r 2 h3).g (pH h5)).b h3).ret hΓ
def nH(aD:aC)(k1:Option Bool):aH->Nat->Option Bool
 | [],i1=>(k1)
 |bS::cT,i1=>((jR bS).bind fun xC=>(bif !(xC)then(some false)else(nH aD k1 cT (i1+1))))
def jZ(aD:aC):Option Bool:=((sG aD.rel).bind fun y1=>(bif !(y1)then(some false)else(bif decide ((((aD.args.map tx).length:Int):Int)>3)then(some false)else(nH aD (some true) aD.args 0))))
def Hf(aD:aC)(dG:Int):St:=⟨[(16,D.sl (aD.args.map tx)),(17,D.int .i64 ((aD.args.map tx).length:Int)),(18,D.int .i64 dG)],[]⟩
theorem Fw(hΓ:Γ.nt=26){aD:aC}{r:Bool}{k1:Option Bool}(dX:k1=some r->Ax Γ N f207 (.q [[none]] (D.bool r)) [1,1,1] ⟨[],[]⟩)(hm1:aD.args.length<=maxLen):∀(rest:aH) (i1:Nat),aD.args.drop i1=rest->nH aD k1 rest i1=some r->Ar Γ N f207 (.q [[none]] (D.bool r)) [1,1,0,1,0] (rest.length+1) (Hf aD (i1:Int)):=by
 intro rest
 induction rest with
 |nil=>
  intro i1 b8 h;rw[nH]at h;refine aU fun N1 cW cK=>?_
  exact((aW.ge tx b8).a [.hl 0 [] []]).ex hΓ cW (dX h)
 |cons bS cT ih1=>
  intro i1 b8 h;rw[nH]at h;refine aU fun N1 cW cK=>?_
  obtain⟨xC,h26,h⟩:=aB h;have fE:=(((aW.lt tx b8).l (bG tx 1 (dc b8) rfl)).g (l6 h26))
  obtain⟨h27,h⟩|⟨h27,h⟩:=aL h
  ·have h:=aN h;subst h;exact(fE.b h27).ret hΓ
  ·exact((fE.b h27).a [.cn [16,17,18] []]).ct hΓ cK (iS b8 hm1) (ih1 (i1+1) (dn b8) h)
theorem kP{aD:aC}{r:Bool}(h:jZ aD=some r):Good prog 207 [D.agg (aC.c aD)] (D.bool r):=by
 refine gd func207 [[none]] 26 fun hr Γ hΓ=>?_
 rw[jZ]at h;obtain⟨y1,h2,h⟩:=aB h;obtain⟨h3,h⟩|⟨h3,h⟩:=aL h
 ·have h:=aN h;subst h;exact(((aW.g (o5 h2)).r 5 h3).T 1).ret hΓ
 ·have ij:=((aW.g (o5 h2)).r 5 h3)
  obtain⟨h4,h⟩|⟨h4,h⟩:=aL h
  ·have h:=aN h;subst h;exact(ij.b h4).ret hΓ
  ·refine((ij.b h4).a [.cn [16,17,18] []]).lp hΓ (Fw hΓ (fun h=>?_) (by have:=(gb.sl (gb.agg (hr _ (aE (i:=0) rfl)) (.sl (aD.args.map tx)) (by simp))).1;simpa using this) aD.args 0 rfl h);have h:=aN h;subst h;exact aW.ret hΓ
def jC(aD:aC):Option Bool:=(bif (aD.rel:Bytes)==([])then(some ((((aD.args.map tx).length:Int):Int)==0))else(some false))
theorem pO{aD:aC}{r:Bool}(h:jC aD=some r):Good prog 209 [D.agg (aC.c aD)] (D.bool r):=by
 refine gd func209 [[none]] 12 fun hr Γ hΓ=>?_
 rw[jC]at h;obtain⟨h1,h⟩|⟨h1,h⟩:=aL h
 ·cases h;exact(aW.r 5 h1).ret hΓ
 ·have h:=aN h;subst h;exact(aW.r 5 h1).ret hΓ
def sF(aD:aP):Option Bool:=(bif (aD.kind:Int)==1 then((jZ aD.pat).bind fun y2=>(bif y2 then(bif (aD.left:Bytes)==([])then(some ((aD.right:Bytes)==([])))else(some false))else(some false)))else(bif (aD.kind:Int)==2 then((jZ aD.pat).bind fun y7=>(bif y7 then(bif (aD.left:Bytes)==([])then(some ((aD.right:Bytes)==([])))else(some false))else(some false)))else(bif (aD.kind:Int)==3 then((jR aD.left).bind fun Pj=>(bif Pj then((jR aD.right).bind fun Jr=>(bif Jr then((jC aD.pat).bind fun Pm=>(some Pm))else(some false)))else(some false)))else(bif (aD.kind:Int)==4 then((jR aD.left).bind fun Mi=>(bif Mi then((jR aD.right).bind fun Di=>(bif Di then((jC aD.pat).bind fun oa=>(some oa))else(some false)))else(some false)))else(bif (aD.kind:Int)==5 then((jR aD.left).bind fun yT=>(bif yT then((jR aD.right).bind fun tV=>(bif tV then((jC aD.pat).bind fun NH=>(some NH))else(some false)))else(some false)))else(some false))))))
theorem qc{aD:aP}{r:Bool}(h:sF aD=some r):Good prog 164 [D.agg (aP.c aD)] (D.bool r):=by
 refine gd func164 [[none]] 38 fun hr Γ hΓ=>?_
 rw[sF]at h;obtain⟨h1,h⟩|⟨h1,h⟩:=aL h
 ·obtain⟨y2,h3,h⟩:=aB h;have kX:=((aW.r 2 h1).g (kP h3))
  obtain⟨h4,h⟩|⟨h4,h⟩:=aL h
  ·have fE:=(kX.r 4 h4)
   obtain⟨h5,h⟩|⟨h5,h⟩:=aL h
   ·cases h;exact(fE.r 4 h5).ret hΓ
   ·have h:=aN h;subst h;exact(fE.r 4 h5).ret hΓ
  ·have h:=aN h;subst h;exact((kX.r 4 h4).F 4).ret hΓ
 ·obtain⟨h6,h⟩|⟨h6,h⟩:=aL h
  ·obtain⟨y7,h8,h⟩:=aB h;have ij:=(((aW.b h1).b h6).g (kP h8))
   obtain⟨h9,h⟩|⟨h9,h⟩:=aL h
   ·have jO:=(ij.r 4 h9)
    obtain⟨h10,h⟩|⟨h10,h⟩:=aL h
    ·cases h;exact(jO.r 4 h10).ret hΓ
    ·have h:=aN h;subst h;exact(jO.r 4 h10).ret hΓ
   ·have h:=aN h;subst h;exact((ij.r 4 h9).F 4).ret hΓ
  ·have tS:=((aW.b h1).b h6)
   obtain⟨h11,h⟩|⟨h11,h⟩:=aL h
   ·obtain⟨Pj,h13,h⟩:=aB h;have wK:=((tS.r 2 h11).g (l6 h13))
    obtain⟨h14,h⟩|⟨h14,h⟩:=aL h
    ·obtain⟨Jr,h16,h⟩:=aB h;have z7:=(((wK.r 3 h14).g (l6 h16)).b h14)
     obtain⟨h17,h⟩|⟨h17,h⟩:=aL h
     ·obtain⟨Pm,h19,h⟩:=aB h;have h:=aN h;subst h;exact(((z7.r 3 h17).g (pO h19)).b h17).ret hΓ
     ·have h:=aN h;subst h;exact(z7.r 4 h17).ret hΓ
    ·have h:=aN h;subst h;exact((wK.r 4 h14).F 4).ret hΓ
   ·obtain⟨h20,h⟩|⟨h20,h⟩:=aL h
    ·obtain⟨Mi,h22,h⟩:=aB h;have DY:=(((tS.b h11).r 2 h20).g (l6 h22))
     obtain⟨h23,h⟩|⟨h23,h⟩:=aL h
     ·obtain⟨Di,h25,h⟩:=aB h;have LL:=(((DY.r 3 h23).g (l6 h25)).b h23)
      obtain⟨h26,h⟩|⟨h26,h⟩:=aL h
      ·obtain⟨oa,h28,h⟩:=aB h;have h:=aN h;subst h;exact(((LL.r 3 h26).g (pO h28)).b h26).ret hΓ
      ·have h:=aN h;subst h;exact(LL.r 4 h26).ret hΓ
     ·have h:=aN h;subst h;exact((DY.r 4 h23).F 4).ret hΓ
    ·have Bp:=((tS.b h11).b h20)
     obtain⟨h29,h⟩|⟨h29,h⟩:=aL h
     ·obtain⟨yT,h31,h⟩:=aB h;have Gz:=((Bp.b h29).g (l6 h31))
      obtain⟨h32,h⟩|⟨h32,h⟩:=aL h
      ·obtain⟨tV,h34,h⟩:=aB h;have Ao:=(((Gz.r 3 h32).g (l6 h34)).b h32)
       obtain⟨h35,h⟩|⟨h35,h⟩:=aL h
       ·obtain⟨NH,h37,h⟩:=aB h;have h:=aN h;subst h;exact(((Ao.r 3 h35).g (pO h37)).b h35).ret hΓ
       ·have h:=aN h;subst h;exact(Ao.r 4 h35).ret hΓ
      ·have h:=aN h;subst h;exact((Gz.r 4 h32).F 4).ret hΓ
     ·have h:=aN h;subst h;exact(Bp.b h29).ret hΓ
def gO(aD:aH)(k1:aH->Option aH):aH->Nat->aH->Option aH
 | [],i1,bP=>(k1 bP)
 |bS::cT,i1,bP=>((mZ bS).bind fun HF=>(bif HF then(bif room ((bP.map tx).length+([[D.str bS]]).length) 16 then(gO aD k1 cT (i1+1) (bP++([bS])))else none)else(gO aD k1 cT (i1+1) bP)))
def oB(aD:aH):Option aH:=(gO aD (fun(cC:aH)=>(some cC)) aD 0 ([]:aH))
def AY(aD:aH)(W0:List aQ)(dG:Int):St:=⟨[(3,D.acc 0),(6,D.sl (aD.map tx)),(7,D.int .i64 ((aD.map tx).length:Int)),(8,D.int .i64 dG)],[Ob.row .uq 9 1 W0]⟩
theorem GF(hΓ:Γ.nt=20){aD:aH}{r:aH}{k1:aH->Option aH}(dX:∀(cC:aH),k1 cC=some r->Ax Γ N f168 (.q [[some (9,1)]] (D.fr 9 1 (r.map tx))) [1,1,1] ⟨[(3,D.acc 0)],[Ob.row .uq 9 1 (cC.map tx)]⟩)(hm1:aD.length<=maxLen):∀(rest:aH) (i1:Nat) (bP:aH),aD.drop i1=rest->gO aD k1 rest i1 bP=some r->Ar Γ N f168 (.q [[some (9,1)]] (D.fr 9 1 (r.map tx))) [1,1,0,1,0] (rest.length+1) (AY aD (bP.map tx) (i1:Int)):=by
 intro rest
 induction rest with
 |nil=>
  intro i1 bP b8 h;rw[gO]at h;refine aU fun N1 cW cK=>?_
  exact((aW.ge tx b8).a [.hl 0 [3] [0]]).ex hΓ cW (dX bP h)
 |cons bS cT ih1=>
  intro i1 bP b8 h;rw[gO]at h;refine aU fun N1 cW cK=>?_
  obtain⟨HF,h33,h⟩:=aB h;have fE:=(((aW.lt tx b8).l (bG tx 1 (dc b8) rfl)).g (pH h33))
  obtain⟨h34,h⟩|⟨h34,h⟩:=aL h
  ·obtain⟨h35,h⟩:=bQ h;exact(((fE.b h34).w (bX h35)).a [.cn [3,6,7,8] [2]]).cs hΓ cK (AY aD ((bP.map tx)++([[D.str bS]])) (IntKind.i64.wrap ((i1:Int)+1))) (by first| (simp only[iS b8 hm1,mA]<;>rfl)| (simp only[iS b8 hm1,mA,aC.c,aV.c,aP.c,Action.c,aK.c,aO.c,bM.c,aX.c,Node.c,aG.c,dL.c]<;>rfl)) (ih1 (i1+1) (bP++([bS])) (dn b8) h)
  ·exact((fE.b h34).a [.cn [3,6,7,8] [0]]).ct hΓ cK (iS b8 hm1) (ih1 (i1+1) bP (dn b8) h)
theorem v8{aD:aH}{r:aH}(h:oB aD=some r):Good prog 168 [D.sl (aD.map tx)] (D.fr 9 1 (r.map tx)):=by
 refine gd func168 [[some (9,1)]] 20 fun hr Γ hΓ=>?_
 rw[oB]at h;refine(aW.a [.LP 3,.cn [3,6,7,8] [0]]).lp hΓ (GF hΓ (fun cC h=>?_) (by have:=(gb.sl (hr _ (aE (i:=0) rfl))).1;simpa using this) aD 0 ([]:aH) rfl h);have h:=aN h;subst h;exact aW.ret hΓ
def eO(aD:aH)(k1:aH->Option aH):aH->Nat->aH->Option aH
 | [],i1,bR=>(k1 bR)
 |bS::cT,i1,bR=>(bif ((i1:Int):Int)==0 then(bif room ((bR.map tx).length+([[D.str bS]]).length) 16 then(eO aD k1 cT (i1+1) (bR++([bS])))else none)else((fy (pQ (([]:aH)++aD)) (IntKind.i64.wrap ((i1:Int)-1))).bind fun x47=>(bif !((x47:Bytes)==bS)then(bif room ((bR.map tx).length+([[D.str bS]]).length) 16 then(eO aD k1 cT (i1+1) (bR++([bS])))else none)else(eO aD k1 cT (i1+1) bR))))
def l8(aD:aH):Option aH:=(bif room (([]:List aQ).length+(aD.map tx).length) 16 then(bif decide ((([]:aH)++aD).length<4611686018427387904)then(bif decide ((pQ (([]:aH)++aD)).length<=maxLen)then(eO aD (fun(cC:aH)=>(some cC)) (pQ (([]:aH)++aD)) 0 ([]:aH))else none)else none)else none)
def uy(aD:aH)(W0:List aQ)(dG:Int):St:=⟨[(3,D.acc 0),(4,D.acc 1),(11,D.acc 0),(12,D.int .i64 (((pQ (([]:aH)++aD)).map tx).length:Int)),(13,D.int .i64 dG)],[Ob.row .uq 9 1 ((pQ (([]:aH)++aD)).map tx),Ob.row .uq 9 1 W0]⟩
theorem E2(hΓ:Γ.nt=35){aD:aH}{r:aH}{k1:aH->Option aH}(dX:∀(cC:aH),k1 cC=some r->Ax Γ N f170 (.q [[some (9,1)]] (D.fr 9 1 (r.map tx))) [1,1,1,1,1] ⟨[(4,D.acc 0)],[Ob.row .uq 9 1 (cC.map tx)]⟩)(hm1:(pQ (([]:aH)++aD)).length<=maxLen):∀(rest:aH) (i1:Nat) (bR:aH),(pQ (([]:aH)++aD)).drop i1=rest->eO aD k1 rest i1 bR=some r->Ar Γ N f170 (.q [[some (9,1)]] (D.fr 9 1 (r.map tx))) [1,1,1,1,0,1,0] (rest.length+1) (uy aD (bR.map tx) (i1:Int)):=by
 intro rest
 induction rest with
 |nil=>
  intro i1 bR b8 h;rw[eO]at h;refine aU fun N1 cW cK=>?_
  exact((aW.ge tx b8).a [.hl 0 [4] [1]]).ex hΓ cW (dX bR h)
 |cons bS cT ih1=>
  intro i1 bR b8 h;rw[eO]at h;refine aU fun N1 cW cK=>?_
  have ij:=(((aW.lt tx b8).i (mL tx 1 (dc b8))).o 1 1 .uq (cH tx (dc b8)))
  obtain⟨h45,h⟩|⟨h45,h⟩:=aL h
  ·obtain⟨h46,h⟩:=bQ h;exact((((ij.r 8 h45).T 1).w (bX h46)).a [.cn [3,4,11,12,13] [0,3]]).cs hΓ cK (uy aD ((bR.map tx)++([[D.str bS]])) (IntKind.i64.wrap ((i1:Int)+1))) (by first| (simp only[iS b8 hm1,mA]<;>rfl)| (simp only[iS b8 hm1,mA,aC.c,aV.c,aP.c,Action.c,aK.c,aO.c,bM.c,aX.c,Node.c,aG.c,dL.c]<;>rfl)) (ih1 (i1+1) (bR++([bS])) (dn b8) h)
  ·obtain⟨x47,h48,h⟩:=aB h;have jO:=(((((ij.r 4 h45).i (ed tx 1 h48)).b h45).o 1 1 .uq (cH tx (dN h48))).r 3 h45)
   obtain⟨h49,h⟩|⟨h49,h⟩:=aL h
   ·obtain⟨h50,h⟩:=bQ h;exact(((jO.b h49).w (bX h50)).a [.cn [3,4,11,12,13] [0,3]]).cs hΓ cK (uy aD ((bR.map tx)++([[D.str bS]])) (IntKind.i64.wrap ((i1:Int)+1))) (by first| (simp only[iS b8 hm1,mA]<;>rfl)| (simp only[iS b8 hm1,mA,aC.c,aV.c,aP.c,Action.c,aK.c,aO.c,bM.c,aX.c,Node.c,aG.c,dL.c]<;>rfl)) (ih1 (i1+1) (bR++([bS])) (dn b8) h)
   ·exact((jO.b h49).a [.cn [3,4,11,12,13] [0,1]]).ct hΓ cK (iS b8 hm1) (ih1 (i1+1) bR (dn b8) h)
theorem sx{aD:aH}{r:aH}(h:l8 aD=some r):Good prog 170 [D.sl (aD.map tx)] (D.fr 9 1 (r.map tx)):=by
 refine gd func170 [[some (9,1)]] 35 fun hr Γ hΓ=>?_
 rw[l8]at h;obtain⟨h1,h⟩:=bQ h;obtain⟨h2,h⟩:=bQ h;obtain⟨h51,h⟩:=bQ h;refine(((((aW.w (bX h1)).w (show(∀r∈(aD.map tx),r.length=1)/\(true=true->D.iN (aD.map tx)=true)from⟨by first|simp| (intro r hr;obtain⟨x,_,rfl⟩:=bt.1 (bn (eE hr));rfl),by simp[D.iN,D.flat]⟩)).w (show(([]:List aQ)++(aD.map tx)).flatten.all D.flat=true from by simpa only[bD,au,bg]using Sb (([]:aH)++aD))).w (show S4 prog 212 9 1 (([]:List aQ)++(aD.map tx)) ((pQ (([]:aH)++aD)).map tx)from by simpa only[bD,au,bg]using(Hz (e:=9) (bV h2)))).a [.fl true,.mu 0 ((pQ (([]:aH)++aD)).map tx),.LP 4,.cn [3,4,11,12,13] [0,1]]).lp hΓ (E2 hΓ (fun cC h=>?_) (bV h51) (pQ (([]:aH)++aD)) 0 ([]:aH) rfl h);have h:=aN h;subst h;exact aW.ret hΓ
def fR(aD:aK)(aY:Int)(k1:aH->Option aH):ar->Nat->aH->Option aH
 | [],i1,bP=>(k1 bP)
 |bS::cT,i1,bP=>(bif decide (((i1:Int):Int)<aY)then(bif (bS.kind:Int)==1 then((oB bS.pat.args).bind fun EZ=>(bif room ((bP.map tx).length+(EZ.map tx).length) 16 then(fR aD aY k1 cT (i1+1) (bP++EZ))else none))else(fR aD aY k1 cT (i1+1) bP))else(fR aD aY k1 cT (i1+1) bP))
def qR(aD:aK)(aY:Int):Option aH:=(fR aD aY (fun(cC:aH)=>((l8 cC).bind fun Qc=>(some Qc))) aD.conds 0 ([]:aH))
def AQ(aD:aK)(aY:Int)(W0:List aQ)(dG:Int):St:=⟨[(1,D.int .i64 aY),(5,D.acc 0),(9,D.sl (aD.conds.map aP.c)),(10,D.int .i64 ((aD.conds.map aP.c).length:Int)),(11,D.int .i64 dG)],[Ob.row .uq 9 1 W0]⟩
theorem Fq(hΓ:Γ.nt=33){aD:aK}{aY:Int}{r:aH}{k1:aH->Option aH}(dX:∀(cC:aH),k1 cC=some r->Ax Γ N f166 (.q [[some (9,1)]] (D.fr 9 1 (r.map tx))) [1,1,1] ⟨[(5,D.acc 0)],[Ob.row .uq 9 1 (cC.map tx)]⟩)(hm1:aD.conds.length<=maxLen):∀(rest:ar) (i1:Nat) (bP:aH),aD.conds.drop i1=rest->fR aD aY k1 rest i1 bP=some r->Ar Γ N f166 (.q [[some (9,1)]] (D.fr 9 1 (r.map tx))) [1,1,0,1,0] (rest.length+1) (AQ aD aY (bP.map tx) (i1:Int)):=by
 intro rest
 induction rest with
 |nil=>
  intro i1 bP b8 h;rw[fR]at h;refine aU fun N1 cW cK=>?_
  exact((aW.ge aP.c b8).a [.hl 0 [5] [0]]).ex hΓ cW (dX bP h)
 |cons bS cT ih1=>
  intro i1 bP b8 h;rw[fR]at h;refine aU fun N1 cW cK=>?_
  have ij:=((aW.lt aP.c b8).l (bG aP.c 5 (dc b8) rfl))
  obtain⟨h37,h⟩|⟨h37,h⟩:=aL h
  ·have jO:=(ij.r 4 h37)
   obtain⟨h38,h⟩|⟨h38,h⟩:=aL h
   ·obtain⟨EZ,h40,h⟩:=aB h;obtain⟨h41,h⟩:=bQ h;exact((((jO.b h38).g (v8 h40)).w (bX h41)).a [.cn [1,5,9,10,11] [3]]).cs hΓ cK (AQ aD aY ((bP.map tx)++(EZ.map tx)) (IntKind.i64.wrap ((i1:Int)+1))) (by first| (simp only[iS b8 hm1,mA]<;>rfl)| (simp only[iS b8 hm1,mA,aC.c,aV.c,aP.c,Action.c,aK.c,aO.c,bM.c,aX.c,Node.c,aG.c,dL.c]<;>rfl)) (ih1 (i1+1) (bP++EZ) (dn b8) h)
   ·exact((jO.b h38).a [.cn [1,5,9,10,11] [0]]).ct hΓ cK (iS b8 hm1) (ih1 (i1+1) bP (dn b8) h)
  ·exact(((ij.r 4 h37).F 1).a [.cn [1,5,9,10,11] [0]]).ct hΓ cK (iS b8 hm1) (ih1 (i1+1) bP (dn b8) h)
theorem yd{aD:aK}{aY:Int}{r:aH}(h:qR aD aY=some r):Good prog 166 [D.agg (aK.c aD),D.int .i64 aY] (D.fr 9 1 (r.map tx)):=by
 refine gd func166 [[some (9,1)]] 33 fun hr Γ hΓ=>?_
 rw[qR]at h;refine(aW.a [.LP 5,.cn [1,5,9,10,11] [1]]).lp hΓ (Fq hΓ (fun cC h=>?_) (by have:=(gb.sl (gb.agg (hr _ (aE (i:=0) rfl)) (.sl (aD.conds.map aP.c)) (by simp))).1;simpa using this) aD.conds 0 ([]:aH) rfl h);obtain⟨Qc,h43,h⟩:=aB h;have h:=aN h;subst h;exact(aW.g (sx h43)).ret hΓ
def o9(aD:aH):Option aH:=(bif room (([]:List aQ).length+(aD.map tx).length) 16 then(some (([]:aH)++aD))else none)
theorem v7{aD:aH}{r:aH}(h:o9 aD=some r):Good prog 183 [D.sl (aD.map tx)] (D.fr 9 1 (r.map tx)):=by
 refine gd func183 [[some (9,1)]] 5 fun hr Γ hΓ=>?_
 rw[o9]at h;obtain⟨h1,h⟩:=bQ h;cases h;exact(((aW.w (bX h1)).w (show(∀r∈(aD.map tx),r.length=1)/\(true=true->D.iN (aD.map tx)=true)from⟨by first|simp| (intro r hr;obtain⟨x,_,rfl⟩:=bt.1 (bn (eE hr));rfl),by simp[D.iN,D.flat]⟩)).a [.LP 2,.fl true]).rts hΓ (D.fr 9 1 (([]:List aQ)++(aD.map tx))) (by first|rfl| (simp only[mA]<;>rfl)| (simp only[cB,mA]<;>rfl))
def tG(aD:aP):Option aH:=((o9 aD.pat.args).bind fun y1=>(bif room ((y1.map tx).length+(([aD.left,aD.right]:aH).map tx).length) 16 then(some (y1++([aD.left,aD.right]:aH)))else none))
theorem AX{aD:aP}{r:aH}(h:tG aD=some r):Good prog 141 [D.agg (aP.c aD)] (D.fr 9 1 (r.map tx)):=by
 refine gd func141 [[some (9,1)]] 13 fun hr Γ hΓ=>?_
 rw[tG]at h;obtain⟨y1,h2,h⟩:=aB h;obtain⟨h3,h⟩:=bQ h;cases h;exact(((aW.a [.LP 2,.n 9]).g (v7 h2)).w (bX h3)).rts hΓ (D.fr 9 1 ((y1.map tx)++(([aD.left,aD.right]:aH).map tx))) (by first|rfl| (simp only[mA]<;>rfl)| (simp only[cB,mA]<;>rfl))
def pU(aD:aP):Option aH:=((tG aD).bind fun y1=>((oB y1).bind fun y3=>((l8 y3).bind fun y5=>(some y5))))
theorem vV{aD:aP}{r:aH}(h:pU aD=some r):Good prog 210 [D.agg (aP.c aD)] (D.fr 9 1 (r.map tx)):=by
 refine gd func210 [[some (9,1)]] 7 fun hr Γ hΓ=>?_
 rw[pU]at h;obtain⟨y1,h2,h⟩:=aB h;obtain⟨y3,h4,h⟩:=aB h;obtain⟨y5,h6,h⟩:=aB h;have h:=aN h;subst h;exact(((aW.g (AX h2)).g (v8 h4)).g (sx h6)).ret hΓ
def mj(aD:aH)(aY:Bytes)(k1:Option Bool):aH->Nat->Option Bool
 | [],i1=>(k1)
 |bS::cT,i1=>(bif (bS:Bytes)==aY then(some true)else(mj aD aY k1 cT (i1+1)))
def mi(aD:aH)(aY:Bytes):Option Bool:=(mj aD aY (some false) aD 0)
def KL(aD:aH)(aY:Bytes)(dG:Int):St:=⟨[(1,D.str aY),(7,D.sl (aD.map tx)),(8,D.int .i64 ((aD.map tx).length:Int)),(9,D.int .i64 dG)],[]⟩
theorem JA(hΓ:Γ.nt=17){aD:aH}{aY:Bytes}{r:Bool}{k1:Option Bool}(dX:k1=some r->Ax Γ N f169 (.q [[none]] (D.bool r)) [1,1] ⟨[],[]⟩)(hm1:aD.length<=maxLen):∀(rest:aH) (i1:Nat),aD.drop i1=rest->mj aD aY k1 rest i1=some r->Ar Γ N f169 (.q [[none]] (D.bool r)) [1,0,1,0] (rest.length+1) (KL aD aY (i1:Int)):=by
 intro rest
 induction rest with
 |nil=>
  intro i1 b8 h;rw[mj]at h;refine aU fun N1 cW cK=>?_
  exact((aW.ge tx b8).a [.hl 0 [] []]).ex hΓ cW (dX h)
 |cons bS cT ih1=>
  intro i1 b8 h;rw[mj]at h;refine aU fun N1 cW cK=>?_
  have fE:=((aW.lt tx b8).l (bG tx 1 (dc b8) rfl))
  obtain⟨h13,h⟩|⟨h13,h⟩:=aL h
  ·have h:=aN h;subst h;exact(fE.b h13).ret hΓ
  ·exact((fE.b h13).a [.cn [1,7,8,9] []]).ct hΓ cK (iS b8 hm1) (ih1 (i1+1) (dn b8) h)
theorem sX{aD:aH}{aY:Bytes}{r:Bool}(h:mi aD aY=some r):Good prog 169 [D.sl (aD.map tx),D.str aY] (D.bool r):=by
 refine gd func169 [[none]] 17 fun hr Γ hΓ=>?_
 rw[mi]at h;refine(aW.a [.cn [1,7,8,9] []]).lp hΓ (JA hΓ (fun h=>?_) (by have:=(gb.sl (hr _ (aE (i:=0) rfl))).1;simpa using this) aD 0 rfl h);have h:=aN h;subst h;exact aW.ret hΓ
def eY(aD:aK)(aY:Int)(cX:Bytes)(k1:Option Bool):ar->Nat->Option Bool
 | [],i1=>(k1)
 |bS::cT,i1=>(bif ((i1:Int):Int) != aY then((pU bS).bind fun Fc=>((mi Fc cX).bind fun NH=>(bif NH then(some true)else(eY aD aY cX k1 cT (i1+1)))))else(eY aD aY cX k1 cT (i1+1)))
def fV(aD:aK)(cX:Bytes)(k2:Option Bool):eW->Nat->Option Bool
 | [],i2=>(k2)
 |js::ua,i2=>((mi js.pat.args cX).bind fun y59=>(bif y59 then(some true)else(fV aD cX k2 ua (i2+1))))
def mm(aD:aK)(aY:Int)(cX:Bytes):Option Bool:=(eY aD aY cX (fV aD cX (some false) aD.cY 0) aD.conds 0)
def C3(aD:aK)(aY:Int)(cX:Bytes)(dG:Int):St:=⟨[(1,D.int .i64 aY),(2,D.str cX),(3,D.ptr 0 0),(12,D.sl (aD.conds.map aP.c)),(13,D.int .i64 ((aD.conds.map aP.c).length:Int)),(14,D.int .i64 dG)],[Ob.box (aK.c aD)]⟩
theorem BQ(hΓ:Γ.nt=42){aD:aK}{aY:Int}{cX:Bytes}{r:Bool}{k1:Option Bool}(dX:k1=some r->Ax Γ N f211 (.q [[none]] (D.bool r)) [1,1] ⟨[(2,D.str cX),(3,D.ptr 0 0)],[Ob.box (aK.c aD)]⟩)(hm1:aD.conds.length<=maxLen):∀(rest:ar) (i1:Nat),aD.conds.drop i1=rest->eY aD aY cX k1 rest i1=some r->Ar Γ N f211 (.q [[none]] (D.bool r)) [1,0,1,0] (rest.length+1) (C3 aD aY cX (i1:Int)):=by
 intro rest
 induction rest with
 |nil=>
  intro i1 b8 h;rw[eY]at h;refine aU fun N1 cW cK=>?_
  exact((aW.ge aP.c b8).a [.hl 0 [2,3] [0]]).ex hΓ cW (dX h)
 |cons bS cT ih1=>
  intro i1 b8 h;rw[eY]at h;refine aU fun N1 cW cK=>?_
  have jO:=((aW.lt aP.c b8).l (bG aP.c 5 (dc b8) rfl))
  obtain⟨h33,h⟩|⟨h33,h⟩:=aL h
  ·obtain⟨Fc,h35,h⟩:=aB h;obtain⟨NH,h37,h⟩:=aB h;have tS:=(((((jO.r 2 h33).g (vV h35)).r 2 h33).g (sX h37)).b h33)
   obtain⟨h38,h⟩|⟨h38,h⟩:=aL h
   ·have h:=aN h;subst h;exact(tS.b h38).ret hΓ
   ·exact((tS.b h38).a [.cn [1,2,3,12,13,14] [0]]).ct hΓ cK (iS b8 hm1) (ih1 (i1+1) (dn b8) h)
  ·exact(((jO.r 5 h33).F 1).a [.cn [1,2,3,12,13,14] [0]]).ct hΓ cK (iS b8 hm1) (ih1 (i1+1) (dn b8) h)
def C4(aD:aK)(cX:Bytes)(dG:Int):St:=⟨[(2,D.str cX),(30,D.sl (aD.cY.map Action.c)),(31,D.int .i64 ((aD.cY.map Action.c).length:Int)),(32,D.int .i64 dG)],[]⟩
theorem BR(hΓ:Γ.nt=42){aD:aK}{cX:Bytes}{r:Bool}{k2:Option Bool}(zx:k2=some r->Ax Γ N f211 (.q [[none]] (D.bool r)) [1,1,1] ⟨[],[]⟩)(hm2:aD.cY.length<=maxLen):∀(rest:eW) (i2:Nat),aD.cY.drop i2=rest->fV aD cX k2 rest i2=some r->Ar Γ N f211 (.q [[none]] (D.bool r)) [1,1,0,1,0] (rest.length+1) (C4 aD cX (i2:Int)):=by
 intro rest
 induction rest with
 |nil=>
  intro i2 hd2 h;rw[fV]at h;refine aU fun N2 vC s6=>?_
  exact((aW.ge Action.c hd2).a [.hl 0 [] []]).ex hΓ vC (zx h)
 |cons js ua ih2=>
  intro i2 hd2 h;rw[fV]at h;refine aU fun N2 vC s6=>?_
  obtain⟨y59,h60,h⟩:=aB h;have wK:=(((aW.lt Action.c hd2).l (bG Action.c 3 (dc hd2) rfl)).g (sX h60))
  obtain⟨h61,h⟩|⟨h61,h⟩:=aL h
  ·have h:=aN h;subst h;exact(wK.b h61).ret hΓ
  ·exact((wK.b h61).a [.cn [2,30,31,32] []]).ct hΓ s6 (iS hd2 hm2) (ih2 (i2+1) (dn hd2) h)
theorem Al{aD:aK}{aY:Int}{cX:Bytes}{r:Bool}(h:mm aD aY cX=some r):Good prog 211 [D.agg (aK.c aD),D.int .i64 aY,D.str cX] (D.bool r):=by
 refine gd func211 [[none]] 42 fun hr Γ hΓ=>?_
 rw[mm]at h;refine(aW.a [.cn [1,2,3,12,13,14] [0]]).lp hΓ (BQ hΓ (fun h=>?_) (by have:=(gb.sl (gb.agg (hr _ (aE (i:=0) rfl)) (.sl (aD.conds.map aP.c)) (by simp))).1;simpa using this) aD.conds 0 rfl h);refine(aW.a [.cn [2,30,31,32] []]).lp hΓ (BR hΓ (fun h=>?_) (by have:=(gb.sl (gb.agg (hr _ (aE (i:=0) rfl)) (.sl (aD.cY.map Action.c)) (by simp))).1;simpa using this) aD.cY 0 rfl h);have h:=aN h;subst h;exact aW.ret hΓ
def iA(aD:aK)(aY:Int)(x1:aP)(y3:aH)(y5:aH)(k1:Option Bool):aH->Nat->Option Bool
 | [],i1=>(k1)
 |bS::cT,i1=>(bif (x1.kind:Int)==1 then(iA aD aY x1 y3 y5 k1 cT (i1+1))else((mi y3 bS).bind fun Mj=>(bif Mj then(iA aD aY x1 y3 y5 k1 cT (i1+1))else(bif (x1.kind:Int) != 2 then(some false)else((mm aD aY bS).bind fun y53=>(bif y53 then(some false)else(iA aD aY x1 y3 y5 k1 cT (i1+1))))))))
def rA(aD:aK)(aY:Int):Option Bool:=((fy aD.conds aY).bind fun x1=>((qR aD aY).bind fun y3=>((pU x1).bind fun y5=>(bif decide (y5.length<=maxLen)then(iA aD aY x1 y3 y5 (some true) y5 0)else none))))
def J9(aD:aK)(aY:Int)(x1:aP)(y3:aH)(y5:aH)(dG:Int):St:=⟨[(1,D.int .i64 aY),(2,D.ptr 0 0),(5,D.ptr 1 0),(6,D.acc 2),(18,D.acc 3),(19,D.int .i64 ((y5.map tx).length:Int)),(20,D.int .i64 dG)],[Ob.box (aK.c aD),Ob.box [D.int .i64 x1.kind,D.str x1.pat.rel,D.sl (x1.pat.args.map tx),D.str x1.left,D.str x1.right],Ob.row .uq 9 1 (y3.map tx),Ob.row .uq 9 1 (y5.map tx)]⟩
theorem Hl(hΓ:Γ.nt=42){aD:aK}{aY:Int}{x1:aP}{y3:aH}{y5:aH}{r:Bool}{k1:Option Bool}(dX:k1=some r->Ax Γ N f165 (.q [[none]] (D.bool r)) [1,1,1,1] ⟨[],[]⟩)(hm1:y5.length<=maxLen):∀(rest:aH) (i1:Nat),y5.drop i1=rest->iA aD aY x1 y3 y5 k1 rest i1=some r->Ar Γ N f165 (.q [[none]] (D.bool r)) [1,1,1,0,1,0] (rest.length+1) (J9 aD aY x1 y3 y5 (i1:Int)):=by
 intro rest
 induction rest with
 |nil=>
  intro i1 b8 h;rw[iA]at h;refine aU fun N1 cW cK=>?_
  exact((aW.ge tx b8).a [.hl 0 [] []]).ex hΓ cW (dX h)
 |cons bS cT ih1=>
  intro i1 b8 h;rw[iA]at h;refine aU fun N1 cW cK=>?_
  have jO:=(((aW.lt tx b8).i (mL tx 1 (dc b8))).o 1 1 .uq (cH tx (dc b8)))
  obtain⟨h48,h⟩|⟨h48,h⟩:=aL h
  ·exact(((jO.r 4 h48).T 1).a [.cn [1,2,5,6,18,19,20] [0,1,2,3]]).ct hΓ cK (iS b8 hm1) (ih1 (i1+1) (dn b8) h)
  ·obtain⟨Mj,h50,h⟩:=aB h;have tS:=(((jO.r 3 h48).g (sX h50)).b h48)
   obtain⟨h51,h⟩|⟨h51,h⟩:=aL h
   ·exact((tS.b h51).a [.cn [1,2,5,6,18,19,20] [0,1,2,3]]).ct hΓ cK (iS b8 hm1) (ih1 (i1+1) (dn b8) h)
   ·obtain⟨h52,h⟩|⟨h52,h⟩:=aL h
    ·have h:=aN h;subst h;exact(((tS.b h51).r 5 h52).T 1).ret hΓ
    ·obtain⟨y53,h54,h⟩:=aB h;have wK:=((((tS.b h51).r 4 h52).g (Al h54)).b h52)
     obtain⟨h55,h⟩|⟨h55,h⟩:=aL h
     ·have h:=aN h;subst h;exact(wK.b h55).ret hΓ
     ·exact((wK.b h55).a [.cn [1,2,5,6,18,19,20] [0,1,2,3]]).ct hΓ cK (iS b8 hm1) (ih1 (i1+1) (dn b8) h)
theorem zV{aD:aK}{aY:Int}{r:Bool}(h:rA aD aY=some r):Good prog 165 [D.agg (aK.c aD),D.int .i64 aY] (D.bool r):=by
 refine gd func165 [[none]] 42 fun hr Γ hΓ=>?_
 rw[rA]at h;obtain⟨x1,h2,h⟩:=aB h;obtain⟨y3,h4,h⟩:=aB h;obtain⟨y5,h6,h⟩:=aB h;obtain⟨h56,h⟩:=bQ h;refine((((aW.l (fB aP.c 5 h2 rfl)).g (yd h4)).g (vV h6)).a [.cn [1,2,5,6,18,19,20] [0,1,2,3]]).lp hΓ (Hl hΓ (fun h=>?_) (bV h56) y5 0 rfl h);have h:=aN h;subst h;exact aW.ret hΓ
def uL(aD:Action):Option Bool:=(bif (aD.kind:Int)==1 then((jZ aD.pat).bind fun y2=>(some y2))else(bif (aD.kind:Int)==2 then((jZ aD.pat).bind fun y5=>(some y5))else(bif (aD.kind:Int)==3 then((jC aD.pat).bind fun y8=>(some y8))else(some false))))
theorem Fu{aD:Action}{r:Bool}(h:uL aD=some r):Good prog 167 [D.agg (Action.c aD)] (D.bool r):=by
 refine gd func167 [[none]] 16 fun hr Γ hΓ=>?_
 rw[uL]at h;obtain⟨h1,h⟩|⟨h1,h⟩:=aL h
 ·obtain⟨y2,h3,h⟩:=aB h;have h:=aN h;subst h;exact((aW.r 2 h1).g (kP h3)).ret hΓ
 ·obtain⟨h4,h⟩|⟨h4,h⟩:=aL h
  ·obtain⟨y5,h6,h⟩:=aB h;have h:=aN h;subst h;exact(((aW.b h1).b h4).g (kP h6)).ret hΓ
  ·have kX:=((aW.b h1).b h4)
   obtain⟨h7,h⟩|⟨h7,h⟩:=aL h
   ·obtain⟨y8,h9,h⟩:=aB h;have h:=aN h;subst h;exact((kX.b h7).g (pO h9)).ret hΓ
   ·have h:=aN h;subst h;exact(kX.b h7).ret hΓ
def gu(aD:ar)(k1:aH->Option aH):ar->Nat->aH->Option aH
 | [],i1,bP=>(k1 bP)
 |bS::cT,i1,bP=>((pU bS).bind fun oa=>(bif room ((bP.map tx).length+(oa.map tx).length) 16 then(gu aD k1 cT (i1+1) (bP++oa))else none))
def rS(aD:ar):Option aH:=(gu aD (fun(cC:aH)=>(some cC)) aD 0 ([]:aH))
def zW(aD:ar)(W0:List aQ)(dG:Int):St:=⟨[(3,D.acc 0),(6,D.sl (aD.map aP.c)),(7,D.int .i64 ((aD.map aP.c).length:Int)),(8,D.int .i64 dG)],[Ob.row .uq 9 1 W0]⟩
theorem Ez(hΓ:Γ.nt=18){aD:ar}{r:aH}{k1:aH->Option aH}(dX:∀(cC:aH),k1 cC=some r->Ax Γ N f171 (.q [[some (9,1)]] (D.fr 9 1 (r.map tx))) [1,1,1] ⟨[(3,D.acc 0)],[Ob.row .uq 9 1 (cC.map tx)]⟩)(hm1:aD.length<=maxLen):∀(rest:ar) (i1:Nat) (bP:aH),aD.drop i1=rest->gu aD k1 rest i1 bP=some r->Ar Γ N f171 (.q [[some (9,1)]] (D.fr 9 1 (r.map tx))) [1,1,0,1,0] (rest.length+1) (zW aD (bP.map tx) (i1:Int)):=by
 intro rest
 induction rest with
 |nil=>
  intro i1 bP b8 h;rw[gu]at h;refine aU fun N1 cW cK=>?_
  exact((aW.ge aP.c b8).a [.hl 0 [3] [0]]).ex hΓ cW (dX bP h)
 |cons bS cT ih1=>
  intro i1 bP b8 h;rw[gu]at h;refine aU fun N1 cW cK=>?_
  obtain⟨oa,h28,h⟩:=aB h;obtain⟨h29,h⟩:=bQ h;exact(((((aW.lt aP.c b8).l (bG aP.c 5 (dc b8) rfl)).g (vV h28)).w (bX h29)).a [.cn [3,6,7,8] [3]]).cs hΓ cK (zW aD ((bP.map tx)++(oa.map tx)) (IntKind.i64.wrap ((i1:Int)+1))) (by first| (simp only[iS b8 hm1,mA]<;>rfl)| (simp only[iS b8 hm1,mA,aC.c,aV.c,aP.c,Action.c,aK.c,aO.c,bM.c,aX.c,Node.c,aG.c,dL.c]<;>rfl)) (ih1 (i1+1) (bP++oa) (dn b8) h)
theorem E3{aD:ar}{r:aH}(h:rS aD=some r):Good prog 171 [D.sl (aD.map aP.c)] (D.fr 9 1 (r.map tx)):=by
 refine gd func171 [[some (9,1)]] 18 fun hr Γ hΓ=>?_
 rw[rS]at h;refine(aW.a [.LP 3,.cn [3,6,7,8] [0]]).lp hΓ (Ez hΓ (fun cC h=>?_) (by have:=(gb.sl (hr _ (aE (i:=0) rfl))).1;simpa using this) aD 0 ([]:aH) rfl h);have h:=aN h;subst h;exact aW.ret hΓ
def ja(aD:aK)(k1:Option Bool):ar->Nat->Option Bool
 | [],i1=>(k1)
 |bS::cT,i1=>((sF bS).bind fun y62=>(bif !(y62)then(some false)else(bif ((i1:Int):Int)==0 then(bif (bS.kind:Int) != 1 then(some false)else((rA aD (i1:Int)).bind fun Tl=>(bif !(Tl)then(some false)else(ja aD k1 cT (i1+1)))))else((rA aD (i1:Int)).bind fun y70=>(bif !(y70)then(some false)else(ja aD k1 cT (i1+1)))))))
def o7(aD:aK)(Bz:aH)(i2:Nat)(Cm:aH)(k3:Option Bool):aH->Nat->Option Bool
 | [],i3=>(k3)
 |QZ::PL,i3=>((mi Bz QZ).bind fun a9s=>(bif !(a9s)then(some false)else(o7 aD Bz i2 Cm k3 PL (i3+1))))
def o6(aD:aK)(Bz:aH)(k2:Option Bool):eW->Nat->Option Bool
 | [],i2=>(k2)
 |js::ua,i2=>((uL js).bind fun a9r=>(bif !(a9r)then(some false)else((oB js.pat.args).bind fun Cm=>(bif decide (Cm.length<=maxLen)then(o7 aD Bz i2 Cm (o6 aD Bz k2 ua (i2+1)) Cm 0)else none))))
def we(aD:aK):Option Bool:=((sG aD.name).bind fun y1=>(bif !(y1)then(some false)else(bif decide ((aD.prio:Int)<0)then(some false)else(bif decide ((aD.prio:Int)>9)then(some false)else(bif decide ((((aD.conds.map aP.c).length:Int):Int)<1)then(some false)else(bif decide ((((aD.conds.map aP.c).length:Int):Int)>4)then(some false)else(bif decide ((((aD.cY.map Action.c).length:Int):Int)<1)then(some false)else(bif decide ((((aD.cY.map Action.c).length:Int):Int)>2)then(some false)else(ja aD ((qR aD ((aD.conds.map aP.c).length:Int)).bind fun Bz=>(o6 aD Bz ((rS aD.conds).bind fun a9t=>((l8 a9t).bind fun a9u=>(some (decide ((((a9u.map tx).length:Int):Int)<=6))))) aD.cY 0)) aD.conds 0)))))))))
def Lv(aD:aK)(dG:Int):St:=⟨[(1,D.ptr 0 0),(49,D.sl (aD.conds.map aP.c)),(50,D.int .i64 ((aD.conds.map aP.c).length:Int)),(51,D.int .i64 dG)],[Ob.box (aK.c aD)]⟩
theorem KB(hΓ:Γ.nt=111){aD:aK}{r:Bool}{k1:Option Bool}(dX:k1=some r->Ax Γ N f101 (.q [[none]] (D.bool r)) [1,1,1] ⟨[(1,D.ptr 0 0)],[Ob.box (aK.c aD)]⟩)(hm1:aD.conds.length<=maxLen):∀(rest:ar) (i1:Nat),aD.conds.drop i1=rest->ja aD k1 rest i1=some r->Ar Γ N f101 (.q [[none]] (D.bool r)) [1,1,0,1,0] (rest.length+1) (Lv aD (i1:Int)):=by
 intro rest
 induction rest with
 |nil=>
  intro i1 b8 h;rw[ja]at h;refine aU fun N1 cW cK=>?_
  exact((aW.ge aP.c b8).a [.hl 0 [1] [0]]).ex hΓ cW (dX h)
 |cons bS cT ih1=>
  intro i1 b8 h;rw[ja]at h;refine aU fun N1 cW cK=>?_
  obtain⟨y62,h63,h⟩:=aB h;have Ao:=(((aW.lt aP.c b8).l (bG aP.c 5 (dc b8) rfl)).g (qc h63))
  obtain⟨h64,h⟩|⟨h64,h⟩:=aL h
  ·have h:=aN h;subst h;exact((((Ao.r 3 h64).a [bF,bF,bF]).r 2 h64).T 6).ret hΓ
  ·have H6:=(Ao.r 3 h64)
   obtain⟨h65,h⟩|⟨h65,h⟩:=aL h
   ·have LK:=((((H6.r 3 h65).b h64).b h65).b h64)
    obtain⟨h66,h⟩|⟨h66,h⟩:=aL h
    ·have h:=aN h;subst h;exact((LK.r 5 h66).T 1).ret hΓ
    ·obtain⟨Tl,h68,h⟩:=aB h;have TD:=(((LK.r 3 h66).g (zV h68)).r 2 h66)
     obtain⟨h69,h⟩|⟨h69,h⟩:=aL h
     ·have h:=aN h;subst h;exact(TD.b h69).ret hΓ
     ·exact((TD.b h69).a [.cn [1,49,50,51] [0]]).ct hΓ cK (iS b8 hm1) (ih1 (i1+1) (dn b8) h)
   ·obtain⟨y70,h71,h⟩:=aB h;have TE:=(((((((H6.r 3 h65).b h64).b h65).b h64).F 3).g (zV h71)).F 2)
    obtain⟨h72,h⟩|⟨h72,h⟩:=aL h
    ·have h:=aN h;subst h;exact(TE.b h72).ret hΓ
    ·exact((TE.b h72).a [.cn [1,49,50,51] [0]]).ct hΓ cK (iS b8 hm1) (ih1 (i1+1) (dn b8) h)
def Lw(aD:aK)(Bz:aH)(dG:Int):St:=⟨[(1,D.ptr 0 0),(5,D.acc 1),(81,D.sl (aD.cY.map Action.c)),(82,D.int .i64 ((aD.cY.map Action.c).length:Int)),(83,D.int .i64 dG)],[Ob.box (aK.c aD),Ob.row .uq 9 1 (Bz.map tx)]⟩
def Lx(aD:aK)(Bz:aH)(i2:Nat)(Cm:aH)(dG:Int):St:=⟨[(1,D.ptr 0 0),(5,D.acc 1),(81,D.sl (aD.cY.map Action.c)),(82,D.int .i64 ((aD.cY.map Action.c).length:Int)),(83,D.int .i64 (i2:Int)),(93,D.acc 2),(94,D.int .i64 ((Cm.map tx).length:Int)),(95,D.int .i64 dG)],[Ob.box (aK.c aD),Ob.row .uq 9 1 (Bz.map tx),Ob.row .uq 9 1 (Cm.map tx)]⟩
theorem KE(hΓ:Γ.nt=111){aD:aK}{Bz:aH}{i2:Nat}{Cm:aH}{r:Bool}{k3:Option Bool}(Ym:k3=some r->Ax Γ N f101 (.q [[none]] (D.bool r)) [1,1,1,1,0,1,0,0,1,1,1] ⟨[(1,D.ptr 0 0),(5,D.acc 1),(81,D.sl (aD.cY.map Action.c)),(82,D.int .i64 ((aD.cY.map Action.c).length:Int)),(83,D.int .i64 (i2:Int))],[Ob.box (aK.c aD),Ob.row .uq 9 1 (Bz.map tx)]⟩)(Ry:Cm.length<=maxLen):∀(rest:aH) (i3:Nat),Cm.drop i3=rest->o7 aD Bz i2 Cm k3 rest i3=some r->Ar Γ N f101 (.q [[none]] (D.bool r)) [1,1,1,1,0,1,0,0,1,1,0,0,1,1,1,0] (rest.length+1) (Lx aD Bz i2 Cm (i3:Int)):=by
 intro rest
 induction rest with
 |nil=>
  intro i3 yO h;rw[o7]at h;refine aU fun N3 Se ON=>?_
  exact((aW.ge tx yO).a [.hl 3 [1,5,81,82,83] [0,1]]).ex hΓ Se (Ym h)
 |cons QZ PL ih3=>
  intro i3 yO h;rw[o7]at h;refine aU fun N3 Se ON=>?_
  obtain⟨a9s,h230,h⟩:=aB h;have a8p:=((((aW.lt tx yO).i (mL tx 1 (dc yO))).o 1 1 .uq (cH tx (dc yO))).g (sX h230))
  obtain⟨h231,h⟩|⟨h231,h⟩:=aL h
  ·have h:=aN h;subst h;exact(a8p.b h231).ret hΓ
  ·exact((a8p.b h231).a [.cn [1,5,81,82,83,93,94,95] [0,1,2]]).ct hΓ ON (iS yO Ry) (ih3 (i3+1) (dn yO) h)
theorem KC(hΓ:Γ.nt=111){aD:aK}{Bz:aH}{r:Bool}{k2:Option Bool}(zx:k2=some r->Ax Γ N f101 (.q [[none]] (D.bool r)) [1,1,1,1,1] ⟨[(1,D.ptr 0 0)],[Ob.box (aK.c aD)]⟩)(hm2:aD.cY.length<=maxLen):∀(rest:eW) (i2:Nat),aD.cY.drop i2=rest->o6 aD Bz k2 rest i2=some r->Ar Γ N f101 (.q [[none]] (D.bool r)) [1,1,1,1,0,1,0] (rest.length+1) (Lw aD Bz (i2:Int)):=by
 intro rest
 induction rest with
 |nil=>
  intro i2 hd2 h;rw[o6]at h;refine aU fun N2 vC s6=>?_
  exact((aW.ge Action.c hd2).a [.hl 0 [1] [0]]).ex hΓ vC (zx h)
 |cons js ua ih2=>
  intro i2 hd2 h;rw[o6]at h;refine aU fun N2 vC s6=>?_
  obtain⟨a9r,h204,h⟩:=aB h;have a8q:=(((aW.lt Action.c hd2).l (bG Action.c 3 (dc hd2) rfl)).g (Fu h204))
  obtain⟨h205,h⟩|⟨h205,h⟩:=aL h
  ·have h:=aN h;subst h;exact(a8q.b h205).ret hΓ
  ·obtain⟨Cm,h207,h⟩:=aB h;obtain⟨h232,h⟩:=bQ h;refine(((a8q.b h205).g (v8 h207)).a [.cn [1,5,81,82,83,93,94,95] [0,1,3]]).lp hΓ (KE hΓ (fun h=>?_) (bV h232) Cm 0 rfl h);exact(aW.a [.cn [1,5,81,82,83] [0,1]]).ct hΓ s6 (iS hd2 hm2) (ih2 (i2+1) (dn hd2) h)
theorem J3{aD:aK}{r:Bool}(h:we aD=some r):Good prog 101 [D.agg (aK.c aD)] (D.bool r):=by
 refine gd func101 [[none]] 111 fun hr Γ hΓ=>?_
 rw[we]at h;obtain⟨y1,h2,h⟩:=aB h;obtain⟨h3,h⟩|⟨h3,h⟩:=aL h
 ·have h:=aN h;subst h;exact(((aW.g (o5 h2)).r 4 h3).T 25).ret hΓ
 ·have a8r:=((aW.g (o5 h2)).r 4 h3)
  obtain⟨h4,h⟩|⟨h4,h⟩:=aL h
  ·have h:=aN h;subst h;exact((a8r.r 4 h4).T 21).ret hΓ
  ·have a8s:=(a8r.r 4 h4)
   obtain⟨h5,h⟩|⟨h5,h⟩:=aL h
   ·have h:=aN h;subst h;exact((a8s.r 5 h5).T 16).ret hΓ
   ·have a8t:=(a8s.r 5 h5)
    obtain⟨h6,h⟩|⟨h6,h⟩:=aL h
    ·have h:=aN h;subst h;exact((a8t.r 5 h6).T 11).ret hΓ
    ·have a8u:=(a8t.r 5 h6)
     obtain⟨h7,h⟩|⟨h7,h⟩:=aL h
     ·have h:=aN h;subst h;exact((a8u.r 5 h7).T 6).ret hΓ
     ·have a8v:=(a8u.r 5 h7)
      obtain⟨h8,h⟩|⟨h8,h⟩:=aL h
      ·have h:=aN h;subst h;exact((a8v.r 5 h8).T 1).ret hΓ
      ·have a8w:=(a8v.r 5 h8)
       obtain⟨h9,h⟩|⟨h9,h⟩:=aL h
       ·have h:=aN h;subst h;exact(a8w.b h9).ret hΓ
       ·refine((a8w.b h9).a [.cn [1,49,50,51] [0]]).lp hΓ (KB hΓ (fun h=>?_) (by have:=(gb.sl (gb.agg (hr _ (aE (i:=0) rfl)) (.sl (aD.conds.map aP.c)) (by simp))).1;simpa using this) aD.conds 0 rfl h);obtain⟨Bz,h74,h⟩:=aB h;refine((aW.g (yd h74)).a [.cn [1,5,81,82,83] [0,1]]).lp hΓ (KC hΓ (fun h=>?_) (by have:=(gb.sl (gb.agg (hr _ (aE (i:=0) rfl)) (.sl (aD.cY.map Action.c)) (by simp))).1;simpa using this) aD.cY 0 rfl h);obtain⟨a9t,h234,h⟩:=aB h;obtain⟨a9u,h236,h⟩:=aB h;cases h;exact((aW.g (E3 h234)).g (sx h236)).ret hΓ
def kz(aD:aq)(aY:Bytes)(k1:Option Int):aq->Nat->Option Int
 | [],i1=>(k1)
 |bS::cT,i1=>(bif (bS.name:Bytes)==aY then(some (i1:Int))else(kz aD aY k1 cT (i1+1)))
def uK(aD:aq)(aY:Bytes):Option Int:=(kz aD aY (some (-1)) aD 0)
def J2(aD:aq)(aY:Bytes)(dG:Int):St:=⟨[(1,D.str aY),(7,D.sl (aD.map aK.c)),(8,D.int .i64 ((aD.map aK.c).length:Int)),(9,D.int .i64 dG)],[]⟩
theorem HZ(hΓ:Γ.nt=20){aD:aq}{aY:Bytes}{r:Int}{k1:Option Int}(dX:k1=some r->Ax Γ N f102 (.q [[none]] (D.int .i64 r)) [1,1] ⟨[],[]⟩)(hm1:aD.length<=maxLen):∀(rest:aq) (i1:Nat),aD.drop i1=rest->kz aD aY k1 rest i1=some r->Ar Γ N f102 (.q [[none]] (D.int .i64 r)) [1,0,1,0] (rest.length+1) (J2 aD aY (i1:Int)):=by
 intro rest
 induction rest with
 |nil=>
  intro i1 b8 h;rw[kz]at h;refine aU fun N1 cW cK=>?_
  exact((aW.ge aK.c b8).a [.hl 0 [] []]).ex hΓ cW (dX h)
 |cons bS cT ih1=>
  intro i1 b8 h;rw[kz]at h;refine aU fun N1 cW cK=>?_
  have fE:=((aW.lt aK.c b8).l (bG aK.c 4 (dc b8) rfl))
  obtain⟨h13,h⟩|⟨h13,h⟩:=aL h
  ·cases h;exact(fE.b h13).ret hΓ
  ·exact((fE.b h13).a [.cn [1,7,8,9] []]).ct hΓ cK (iS b8 hm1) (ih1 (i1+1) (dn b8) h)
theorem Ft{aD:aq}{aY:Bytes}{r:Int}(h:uK aD aY=some r):Good prog 102 [D.sl (aD.map aK.c),D.str aY] (D.int .i64 r):=by
 refine gd func102 [[none]] 20 fun hr Γ hΓ=>?_
 rw[uK]at h;refine(aW.a [.cn [1,7,8,9] []]).lp hΓ (HZ hΓ (fun h=>?_) (by have:=(gb.sl (hr _ (aE (i:=0) rfl))).1;simpa using this) aD 0 rfl h);cases h;exact aW.ret hΓ
def kw(aD:aq)(k1:Option Bool):aq->Nat->Option Bool
 | [],i1=>(k1)
 |bS::cT,i1=>((we bS).bind fun Fc=>(bif !(Fc)then(some false)else((uK aD bS.name).bind fun PN=>(bif (PN:Int) != (i1:Int)then(some false)else(kw aD k1 cT (i1+1))))))
def uJ(aD:aq):Option Bool:=(bif decide ((((aD.map aK.c).length:Int):Int)>6)then(some false)else(kw aD (some true) aD 0))
def J0(aD:aq)(dG:Int):St:=⟨[(0,D.sl (aD.map aK.c)),(8,D.sl (aD.map aK.c)),(9,D.int .i64 ((aD.map aK.c).length:Int)),(10,D.int .i64 dG)],[]⟩
theorem HX(hΓ:Γ.nt=27){aD:aq}{r:Bool}{k1:Option Bool}(dX:k1=some r->Ax Γ N f49 (.q [[none]] (D.bool r)) [1,1,1] ⟨[],[]⟩)(hm1:aD.length<=maxLen):∀(rest:aq) (i1:Nat),aD.drop i1=rest->kw aD k1 rest i1=some r->Ar Γ N f49 (.q [[none]] (D.bool r)) [1,1,0,1,0] (rest.length+1) (J0 aD (i1:Int)):=by
 intro rest
 induction rest with
 |nil=>
  intro i1 b8 h;rw[kw]at h;refine aU fun N1 cW cK=>?_
  exact((aW.ge aK.c b8).a [.hl 0 [] []]).ex hΓ cW (dX h)
 |cons bS cT ih1=>
  intro i1 b8 h;rw[kw]at h;refine aU fun N1 cW cK=>?_
  obtain⟨Fc,h35,h⟩:=aB h;have ij:=(((aW.lt aK.c b8).l (bG aK.c 4 (dc b8) rfl)).g (J3 h35))
  obtain⟨h36,h⟩|⟨h36,h⟩:=aL h
  ·have h:=aN h;subst h;exact((ij.r 7 h36).T 1).ret hΓ
  ·obtain⟨PN,h38,h⟩:=aB h;have jO:=(((ij.r 4 h36).g (Ft h38)).r 3 h36)
   obtain⟨h39,h⟩|⟨h39,h⟩:=aL h
   ·have h:=aN h;subst h;exact(jO.b h39).ret hΓ
   ·exact((jO.b h39).a [.cn [0,8,9,10] []]).ct hΓ cK (iS b8 hm1) (ih1 (i1+1) (dn b8) h)
theorem Fp{aD:aq}{r:Bool}(h:uJ aD=some r):Good prog 49 [D.sl (aD.map aK.c)] (D.bool r):=by
 refine gd func49 [[none]] 27 fun hr Γ hΓ=>?_
 rw[uJ]at h;obtain⟨h1,h⟩|⟨h1,h⟩:=aL h
 ·have h:=aN h;subst h;exact(aW.b h1).ret hΓ
 ·refine((aW.b h1).a [.cn [0,8,9,10] []]).lp hΓ (HX hΓ (fun h=>?_) (by have:=(gb.sl (hr _ (aE (i:=0) rfl))).1;simpa using this) aD 0 rfl h);have h:=aN h;subst h;exact aW.ret hΓ
def qS(aD:aC)(k1:Option Bool):aH->Nat->Option Bool
 | [],i1=>(k1)
 |bS::cT,i1=>((gC bS).bind fun xC=>(bif !(xC)then(some false)else(qS aD k1 cT (i1+1))))
def qH(aD:aC):Option Bool:=((sG aD.rel).bind fun y1=>(bif !(y1)then(some false)else(bif decide ((((aD.args.map tx).length:Int):Int)>3)then(some false)else(qS aD (some true) aD.args 0))))
def Lu(aD:aC)(dG:Int):St:=⟨[(16,D.sl (aD.args.map tx)),(17,D.int .i64 ((aD.args.map tx).length:Int)),(18,D.int .i64 dG)],[]⟩
theorem KA(hΓ:Γ.nt=26){aD:aC}{r:Bool}{k1:Option Bool}(dX:k1=some r->Ax Γ N f103 (.q [[none]] (D.bool r)) [1,1,1] ⟨[],[]⟩)(hm1:aD.args.length<=maxLen):∀(rest:aH) (i1:Nat),aD.args.drop i1=rest->qS aD k1 rest i1=some r->Ar Γ N f103 (.q [[none]] (D.bool r)) [1,1,0,1,0] (rest.length+1) (Lu aD (i1:Int)):=by
 intro rest
 induction rest with
 |nil=>
  intro i1 b8 h;rw[qS]at h;refine aU fun N1 cW cK=>?_
  exact((aW.ge tx b8).a [.hl 0 [] []]).ex hΓ cW (dX h)
 |cons bS cT ih1=>
  intro i1 b8 h;rw[qS]at h;refine aU fun N1 cW cK=>?_
  obtain⟨xC,h26,h⟩:=aB h;have fE:=(((aW.lt tx b8).l (bG tx 1 (dc b8) rfl)).g (fJ h26))
  obtain⟨h27,h⟩|⟨h27,h⟩:=aL h
  ·have h:=aN h;subst h;exact(fE.b h27).ret hΓ
  ·exact((fE.b h27).a [.cn [16,17,18] []]).ct hΓ cK (iS b8 hm1) (ih1 (i1+1) (dn b8) h)
theorem xG{aD:aC}{r:Bool}(h:qH aD=some r):Good prog 103 [D.agg (aC.c aD)] (D.bool r):=by
 refine gd func103 [[none]] 26 fun hr Γ hΓ=>?_
 rw[qH]at h;obtain⟨y1,h2,h⟩:=aB h;obtain⟨h3,h⟩|⟨h3,h⟩:=aL h
 ·have h:=aN h;subst h;exact(((aW.g (o5 h2)).r 5 h3).T 1).ret hΓ
 ·have ij:=((aW.g (o5 h2)).r 5 h3)
  obtain⟨h4,h⟩|⟨h4,h⟩:=aL h
  ·have h:=aN h;subst h;exact(ij.b h4).ret hΓ
  ·refine((ij.b h4).a [.cn [16,17,18] []]).lp hΓ (KA hΓ (fun h=>?_) (by have:=(gb.sl (gb.agg (hr _ (aE (i:=0) rfl)) (.sl (aD.args.map tx)) (by simp))).1;simpa using this) aD.args 0 rfl h);have h:=aN h;subst h;exact aW.ret hΓ
def lT(aD:Int):Option Bytes:=((Bh aD).bind fun y1=>(some y1))
theorem ye{aD:Int}{r:Bytes}(h:lT aD=some r):Good prog 202 [D.int .i64 aD] (D.str r):=by
 refine gd func202 [[none]] 5 fun hr Γ hΓ=>?_
 rw[lT]at h;obtain⟨y1,h2,h⟩:=aB h;have h:=aN h;subst h;exact(aW.g (IV h2)).ret hΓ
def nT(aD:Bytes):Option (Int×Bool):=(bif decide (((aD.length:Int):Int)<1)then(some (0,false))else(bif decide (((aD.length:Int):Int)>4)then(some (0,false))else((Bg aD).bind fun y3=>(bif y3.2 then(some (0,false))else(bif decide ((y3.1:Int)<0)then(some (0,false))else(bif decide ((y3.1:Int)>9999)then(some (0,false))else((lT y3.1).bind fun y8=>(bif !((y8:Bytes)==aD)then(some (0,false))else(some (y3.1,true))))))))))
theorem rP{aD:Bytes}{r:Int×Bool}(h:nT aD=some r):Good prog 214 [D.str aD] (D.ff [D.int .i64 r.1,D.bool r.2]):=by
 refine gd func214 [[none],[none]] 36 fun hr Γ hΓ=>?_
 rw[nT]at h;obtain⟨h1,h⟩|⟨h1,h⟩:=aL h
 ·cases h;exact((aW.r 4 h1).T 1).ret hΓ
 ·have kX:=(aW.r 4 h1)
  obtain⟨h2,h⟩|⟨h2,h⟩:=aL h
  ·cases h;exact(kX.b h2).ret hΓ
  ·obtain⟨y3,h4,h⟩:=aB h;have fE:=((kX.b h2).g (IU h4))
   obtain⟨h5,h⟩|⟨h5,h⟩:=aL h
   ·cases h;exact((fE.r 3 h5).T 9).ret hΓ
   ·have ij:=(fE.r 3 h5)
    obtain⟨h6,h⟩|⟨h6,h⟩:=aL h
    ·cases h;exact((ij.r 3 h6).T 6).ret hΓ
    ·have jO:=(ij.r 3 h6)
     obtain⟨h7,h⟩|⟨h7,h⟩:=aL h
     ·cases h;exact((jO.r 5 h7).T 1).ret hΓ
     ·obtain⟨y8,h9,h⟩:=aB h;have tS:=(((jO.r 2 h7).g (ye h9)).r 3 h7)
      obtain⟨h10,h⟩|⟨h10,h⟩:=aL h
      ·cases h;exact(tS.b h10).ret hΓ
      ·cases h;exact(tS.b h10).ret hΓ
def j8(aD:Int)(aY:Int):Option Int:=(bif decide ((aD:Int)<aY)then(some (-1))else(bif decide ((aD:Int)>aY)then(some 1)else(some 0)))
theorem tA{aD:Int}{aY:Int}{r:Int}(h:j8 aD aY=some r):Good prog 174 [D.int .i64 aD,D.int .i64 aY] (D.int .i64 r):=by
 refine gd func174 [[none]] 13 fun hr Γ hΓ=>?_
 rw[j8]at h;obtain⟨h1,h⟩|⟨h1,h⟩:=aL h
 ·cases h;exact(aW.b h1).ret hΓ
 ·obtain⟨h2,h⟩|⟨h2,h⟩:=aL h
  ·have h:=aN h;subst h;exact((aW.b h1).b h2).ret hΓ
  ·have h:=aN h;subst h;exact((aW.b h1).b h2).ret hΓ
def nG(aD:Bytes)(aY:Bytes):Option Int:=((nT aD).bind fun y1=>((nT aY).bind fun y3=>(bif y1.2 then(bif y3.2 then((j8 y1.1 y3.1).bind fun y7=>(some y7))else(some (-1)))else(bif y3.2 then(some 1)else((rz aD aY).bind fun FY=>(some FY))))))
theorem CT{aD:Bytes}{aY:Bytes}{r:Int}(h:nG aD aY=some r):Good prog 173 [D.str aD,D.str aY] (D.int .i64 r):=by
 refine gd func173 [[none]] 34 fun hr Γ hΓ=>?_
 rw[nG]at h;obtain⟨y1,h2,h⟩:=aB h;obtain⟨y3,h4,h⟩:=aB h;have kX:=((aW.g (rP h2)).g (rP h4))
 obtain⟨h5,h⟩|⟨h5,h⟩:=aL h
 ·have fE:=(kX.r 2 h5)
  obtain⟨h6,h⟩|⟨h6,h⟩:=aL h
  ·obtain⟨y7,h8,h⟩:=aB h;have h:=aN h;subst h;exact((fE.b h6).g (tA h8)).ret hΓ
  ·cases h;exact((fE.b h6).b h5).ret hΓ
 ·have ij:=(((kX.r 2 h5).F 1).b h5)
  obtain⟨h9,h⟩|⟨h9,h⟩:=aL h
  ·have h:=aN h;subst h;exact(ij.b h9).ret hΓ
  ·obtain⟨FY,h11,h⟩:=aB h;have h:=aN h;subst h;exact((ij.b h9).g (uD h11)).ret hΓ
def jY(aD:aC)(aY:aC)(k1:Option Int):aH->Nat->Option Int
 | [],i1=>(k1)
 |bS::cT,i1=>(bif decide (((i1:Int):Int)<((aY.args.map tx).length:Int))then((fy aY.args (i1:Int)).bind fun x37=>((nG bS x37).bind fun EZ=>(bif (EZ:Int) != 0 then(some EZ)else(jY aD aY k1 cT (i1+1)))))else(k1))
def gN(aD:aC)(aY:aC):Option Int:=((rz aD.rel aY.rel).bind fun y1=>(bif (y1:Int) != 0 then(some y1)else(jY aD aY ((j8 ((aD.args.map tx).length:Int) ((aY.args.map tx).length:Int)).bind fun Qc=>(some Qc)) aD.args 0)))
def Dy(aD:aC)(aY:aC)(dG:Int):St:=⟨[(2,D.ptr 0 0),(3,D.ptr 1 0),(6,D.int .i64 dG)],[Ob.box (aC.c aD),Ob.box (aC.c aY)]⟩
theorem D1(hΓ:Γ.nt=51){aD:aC}{aY:aC}{r:Int}{k1:Option Int}(dX:k1=some r->Ax Γ N f104 (.q [[none]] (D.int .i64 r)) [1,1,1] ⟨[(2,D.ptr 0 0),(3,D.ptr 1 0)],[Ob.box (aC.c aD),Ob.box (aC.c aY)]⟩)(hm1:aD.args.length<=maxLen):∀(rest:aH) (i1:Nat),aD.args.drop i1=rest->jY aD aY k1 rest i1=some r->Ar Γ N f104 (.q [[none]] (D.int .i64 r)) [1,1,0,1,0] (rest.length+1) (Dy aD aY (i1:Int)):=by
 intro rest
 induction rest with
 |nil=>
  intro i1 b8 h;rw[jY]at h;refine aU fun N1 cW cK=>?_
  exact((((((((aW.ge tx b8).ge tx b8).ge tx b8).ge tx b8).ge tx b8).ge tx b8).F 1).a [.hl 0 [2,3] [0,1]]).ex hΓ cW (dX h)
 |cons bS cT ih1=>
  intro i1 b8 h;rw[jY]at h;refine aU fun N1 cW cK=>?_
  have ij:=((((((aW.lt tx b8).lt tx b8).lt tx b8).lt tx b8).lt tx b8).lt tx b8)
  obtain⟨h36,h⟩|⟨h36,h⟩:=aL h
  ·obtain⟨x37,h38,h⟩:=aB h;obtain⟨EZ,h40,h⟩:=aB h;have jO:=(((((ij.b h36).a [.n 10]).l (bG tx 1 (dc b8) rfl)).l (fB tx 1 h38 rfl)).g (CT h40))
   obtain⟨h41,h⟩|⟨h41,h⟩:=aL h
   ·have h:=aN h;subst h;exact(jO.b h41).ret hΓ
   ·exact((jO.b h41).a [.cn [2,3,6] [0,1]]).ct hΓ cK (iS b8 hm1) (ih1 (i1+1) (dn b8) h)
  ·exact((ij.b h36).a [.hl 0 [2,3] [0,1]]).ex hΓ cW (dX h)
theorem sD{aD:aC}{aY:aC}{r:Int}(h:gN aD aY=some r):Good prog 104 [D.agg (aC.c aD),D.agg (aC.c aY)] (D.int .i64 r):=by
 refine gd func104 [[none]] 51 fun hr Γ hΓ=>?_
 rw[gN]at h;obtain⟨y1,h2,h⟩:=aB h;obtain⟨h3,h⟩|⟨h3,h⟩:=aL h
 ·have h:=aN h;subst h;exact((aW.g (uD h2)).b h3).ret hΓ
 ·refine(((aW.g (uD h2)).b h3).a [.cn [2,3,6] [0,1]]).lp hΓ (D1 hΓ (fun h=>?_) (by have:=(gb.sl (gb.agg (hr _ (aE (i:=0) rfl)) (.sl (aD.args.map tx)) (by simp))).1;simpa using this) aD.args 0 rfl h);obtain⟨Qc,h43,h⟩:=aB h;have h:=aN h;subst h;exact(aW.g (tA h43)).ret hΓ
def j0(aD:aI)(k1:Option Bool):aI->Nat->Option Bool
 | [],i1=>(k1)
 |bS::cT,i1=>((qH bS).bind fun y46=>(bif !(y46)then(some false)else(bif decide (((i1:Int):Int)>0)then((fy aD (IntKind.i64.wrap ((i1:Int)-1))).bind fun x50=>((gN x50 bS).bind fun y52=>(bif decide ((y52:Int)>=0)then(some false)else(j0 aD k1 cT (i1+1)))))else(j0 aD k1 cT (i1+1)))))
def pT(aD:aI):Option Bool:=(bif decide ((((aD.map aC.c).length:Int):Int)>24)then(some false)else(j0 aD (some true) aD 0))
def Iz(aD:aI)(dG:Int):St:=⟨[(0,D.sl (aD.map aC.c)),(8,D.sl (aD.map aC.c)),(9,D.int .i64 ((aD.map aC.c).length:Int)),(10,D.int .i64 dG)],[]⟩
theorem HW(hΓ:Γ.nt=33){aD:aI}{r:Bool}{k1:Option Bool}(dX:k1=some r->Ax Γ N f50 (.q [[none]] (D.bool r)) [1,1,1] ⟨[],[]⟩)(hm1:aD.length<=maxLen):∀(rest:aI) (i1:Nat),aD.drop i1=rest->j0 aD k1 rest i1=some r->Ar Γ N f50 (.q [[none]] (D.bool r)) [1,1,0,1,0] (rest.length+1) (Iz aD (i1:Int)):=by
 intro rest
 induction rest with
 |nil=>
  intro i1 b8 h;rw[j0]at h;refine aU fun N1 cW cK=>?_
  exact((aW.ge aC.c b8).a [.hl 0 [] []]).ex hΓ cW (dX h)
 |cons bS cT ih1=>
  intro i1 b8 h;rw[j0]at h;refine aU fun N1 cW cK=>?_
  obtain⟨y46,h47,h⟩:=aB h;have jO:=((((aW.lt aC.c b8).l (bG aC.c 2 (dc b8) rfl)).a [.n 13]).g (xG h47))
  obtain⟨h48,h⟩|⟨h48,h⟩:=aL h
  ·have h:=aN h;subst h;exact((((jO.r 3 h48).a [bF,bF,bF,bF,bF,bF,bF,bF]).r 2 h48).T 1).ret hΓ
  ·have tS:=(jO.r 3 h48)
   obtain⟨h49,h⟩|⟨h49,h⟩:=aL h
   ·obtain⟨x50,h51,h⟩:=aB h;obtain⟨y52,h53,h⟩:=aB h;have wK:=((((((((tS.r 4 h49).l (fB aC.c 2 h51 rfl)).r 3 h49).g (sD h53)).b h49).b h48).b h49).b h48)
    obtain⟨h54,h⟩|⟨h54,h⟩:=aL h
    ·have h:=aN h;subst h;exact(wK.b h54).ret hΓ
    ·exact((wK.b h54).a [.cn [0,8,9,10] []]).ct hΓ cK (iS b8 hm1) (ih1 (i1+1) (dn b8) h)
   ·exact((((((tS.r 8 h49).b h48).b h49).b h48).F 1).a [.cn [0,8,9,10] []]).ct hΓ cK (iS b8 hm1) (ih1 (i1+1) (dn b8) h)
theorem rO{aD:aI}{r:Bool}(h:pT aD=some r):Good prog 50 [D.sl (aD.map aC.c)] (D.bool r):=by
 refine gd func50 [[none]] 33 fun hr Γ hΓ=>?_
 rw[pT]at h;obtain⟨h1,h⟩|⟨h1,h⟩:=aL h
 ·have h:=aN h;subst h;exact(aW.b h1).ret hΓ
 ·refine((aW.b h1).a [.cn [0,8,9,10] []]).lp hΓ (HW hΓ (fun h=>?_) (by have:=(gb.sl (hr _ (aE (i:=0) rfl))).1;simpa using this) aD 0 rfl h);have h:=aN h;subst h;exact aW.ret hΓ
def eS(aD:aC):Option aC:=((o9 aD.args).bind fun y1=>(some (⟨aD.rel,y1⟩:aC)))
theorem tC{aD:aC}{r:aC}(h:eS aD=some r):Good prog 116 [D.agg (aC.c aD)] (D.agg [D.str r.rel,D.fr 9 1 (r.args.map tx)]):=by
 refine gd func116 [[none,some (9,1)]] 9 fun hr Γ hΓ=>?_
 rw[eS]at h;obtain⟨y1,h2,h⟩:=aB h;cases h;exact((aW.a [.n 5]).g (v7 h2)).ret hΓ
def fc(aD:aP):Option aP:=((eS aD.pat).bind fun y1=>(some (⟨aD.kind,y1,aD.left,aD.right⟩:aP)))
theorem lY{aD:aP}{r:aP}(h:fc aD=some r):Good prog 117 [D.agg (aP.c aD)] (D.agg [D.int .i64 r.kind,D.str r.pat.rel,D.fr 9 1 (r.pat.args.map tx),D.str r.left,D.str r.right]):=by
 refine gd func117 [[none,none,some (9,1),none,none]] 8 fun hr Γ hΓ=>?_
 rw[fc]at h;obtain⟨y1,h2,h⟩:=aB h;cases h;exact(aW.g (tC h2)).ret hΓ
def nJ(aD:ar)(k1:ar->Option ar):ar->Nat->ar->Option ar
 | [],i1,bP=>(k1 bP)
 |bS::cT,i1,bP=>((fc bS).bind fun oa=>(bif room ((bP.map aP.c).length+([[D.int .i64 oa.kind,D.str oa.pat.rel,D.sl (oa.pat.args.map tx),D.str oa.left,D.str oa.right]]).length) 80 then(nJ aD k1 cT (i1+1) (bP++([oa])))else none))
def tB(aD:ar):Option ar:=(nJ aD (fun(cC:ar)=>(some cC)) aD 0 ([]:ar))
def AT(aD:ar)(W0:List aQ)(dG:Int):St:=⟨[(3,D.acc 0),(6,D.sl (aD.map aP.c)),(7,D.int .i64 ((aD.map aP.c).length:Int)),(8,D.int .i64 dG)],[Ob.row .uq 71 5 W0]⟩
theorem G0(hΓ:Γ.nt=19){aD:ar}{r:ar}{k1:ar->Option ar}(dX:∀(cC:ar),k1 cC=some r->Ax Γ N f219 (.q [[some (71,5)]] (D.fr 71 5 (r.map aP.c))) [1,1,1] ⟨[(3,D.acc 0)],[Ob.row .uq 71 5 (cC.map aP.c)]⟩)(hm1:aD.length<=maxLen):∀(rest:ar) (i1:Nat) (bP:ar),aD.drop i1=rest->nJ aD k1 rest i1 bP=some r->Ar Γ N f219 (.q [[some (71,5)]] (D.fr 71 5 (r.map aP.c))) [1,1,0,1,0] (rest.length+1) (AT aD (bP.map aP.c) (i1:Int)):=by
 intro rest
 induction rest with
 |nil=>
  intro i1 bP b8 h;rw[nJ]at h;refine aU fun N1 cW cK=>?_
  exact((aW.ge aP.c b8).a [.hl 0 [3] [0]]).ex hΓ cW (dX bP h)
 |cons bS cT ih1=>
  intro i1 bP b8 h;rw[nJ]at h;refine aU fun N1 cW cK=>?_
  obtain⟨oa,h28,h⟩:=aB h;obtain⟨h29,h⟩:=bQ h;exact(((((aW.lt aP.c b8).l (bG aP.c 5 (dc b8) rfl)).g (lY h28)).w (bX h29)).a [.cn [3,6,7,8] [4]]).cs hΓ cK (AT aD ((bP.map aP.c)++([[D.int .i64 oa.kind,D.str oa.pat.rel,D.sl (oa.pat.args.map tx),D.str oa.left,D.str oa.right]])) (IntKind.i64.wrap ((i1:Int)+1))) (by first| (simp only[iS b8 hm1,mA]<;>rfl)| (simp only[iS b8 hm1,mA,aC.c,aV.c,aP.c,Action.c,aK.c,aO.c,bM.c,aX.c,Node.c,aG.c,dL.c]<;>rfl)) (ih1 (i1+1) (bP++([oa])) (dn b8) h)
theorem F2{aD:ar}{r:ar}(h:tB aD=some r):Good prog 219 [D.sl (aD.map aP.c)] (D.fr 71 5 (r.map aP.c)):=by
 refine gd func219 [[some (71,5)]] 19 fun hr Γ hΓ=>?_
 rw[tB]at h;refine(aW.a [.LP 3,.cn [3,6,7,8] [0]]).lp hΓ (G0 hΓ (fun cC h=>?_) (by have:=(gb.sl (hr _ (aE (i:=0) rfl))).1;simpa using this) aD 0 ([]:ar) rfl h);have h:=aN h;subst h;exact aW.ret hΓ
def l9(aD:aK)(y1:ar)(k1:eW->Option aK):eW->Nat->eW->Option aK
 | [],i1,dK=>(k1 dK)
 |bS::cT,i1,dK=>((eS bS.pat).bind fun y41=>(bif room ((dK.map Action.c).length+([[D.int .i64 bS.kind,D.str y41.rel,D.sl (y41.args.map tx)]]).length) 48 then(l9 aD y1 k1 cT (i1+1) (dK++([(⟨bS.kind,y41⟩:Action)])))else none))
def rB(aD:aK):Option aK:=((tB aD.conds).bind fun y1=>(l9 aD y1 (fun(dl:eW)=>(some (⟨aD.name,aD.prio,y1,dl⟩:aK))) aD.cY 0 ([]:eW)))
def BP(aD:aK)(y1:ar)(W0:List aQ)(dG:Int):St:=⟨[(2,D.ptr 0 0),(3,D.ptr 1 0),(15,D.sl (aD.cY.map Action.c)),(16,D.int .i64 ((aD.cY.map Action.c).length:Int)),(17,D.int .i64 dG)],[Ob.box [D.str ([]),D.int .i64 0,D.nil,D.nil],Ob.box [D.str aD.name,D.int .i64 aD.prio,D.acc 2,D.acc 3],Ob.row .uq 71 5 (y1.map aP.c),Ob.row .uq 154 3 W0]⟩
theorem Ho(hΓ:Γ.nt=34){aD:aK}{y1:ar}{r:aK}{k1:eW->Option aK}(dX:∀(dl:eW),k1 dl=some r->Ax Γ N f182 (.q [[none,none,some (71,5),some (154,3)]] (D.agg [D.str r.name,D.int .i64 r.prio,D.fr 71 5 (r.conds.map aP.c),D.fr 154 3 (r.cY.map Action.c)])) [1,1,1] ⟨[(2,D.ptr 0 0),(3,D.ptr 1 0)],[Ob.box [D.str ([]),D.int .i64 0,D.nil,D.nil],Ob.box [D.str aD.name,D.int .i64 aD.prio,D.acc 2,D.acc 3],Ob.row .uq 71 5 (y1.map aP.c),Ob.row .uq 154 3 (dl.map Action.c)]⟩)(hm1:aD.cY.length<=maxLen):∀(rest:eW) (i1:Nat) (dK:eW),aD.cY.drop i1=rest->l9 aD y1 k1 rest i1 dK=some r->Ar Γ N f182 (.q [[none,none,some (71,5),some (154,3)]] (D.agg [D.str r.name,D.int .i64 r.prio,D.fr 71 5 (r.conds.map aP.c),D.fr 154 3 (r.cY.map Action.c)])) [1,1,0,1,0] (rest.length+1) (BP aD y1 (dK.map Action.c) (i1:Int)):=by
 intro rest
 induction rest with
 |nil=>
  intro i1 dK b8 h;rw[l9]at h;refine aU fun N1 cW cK=>?_
  exact((aW.ge Action.c b8).a [.hl 0 [2,3] [0,1,2,3]]).ex hΓ cW (dX dK h)
 |cons bS cT ih1=>
  intro i1 dK b8 h;rw[l9]at h;refine aU fun N1 cW cK=>?_
  obtain⟨y41,h42,h⟩:=aB h;obtain⟨h43,h⟩:=bQ h;exact((((((aW.lt Action.c b8).l (bG Action.c 3 (dc b8) rfl)).a [.n2 [0,1,2,3,4,5,6,7,8,9,10,11] [0,1,2,3,4,5,6,7,8,9,10,11] 8 9 [0,1] [5]]).g (tC h42)).w (bX h43)).a [.cn [2,3,15,16,17] [0,1,2,7]]).cs hΓ cK (BP aD y1 ((dK.map Action.c)++([[D.int .i64 bS.kind,D.str y41.rel,D.sl (y41.args.map tx)]])) (IntKind.i64.wrap ((i1:Int)+1))) (by first| (simp only[iS b8 hm1,mA]<;>rfl)| (simp only[iS b8 hm1,mA,aC.c,aV.c,aP.c,Action.c,aK.c,aO.c,bM.c,aX.c,Node.c,aG.c,dL.c]<;>rfl)) (ih1 (i1+1) (dK++([(⟨bS.kind,y41⟩:Action)])) (dn b8) h)
theorem G3{aD:aK}{r:aK}(h:rB aD=some r):Good prog 182 [D.agg (aK.c aD)] (D.agg [D.str r.name,D.int .i64 r.prio,D.fr 71 5 (r.conds.map aP.c),D.fr 154 3 (r.cY.map Action.c)]):=by
 refine gd func182 [[none,none,some (71,5),some (154,3)]] 34 fun hr Γ hΓ=>?_
 rw[rB]at h;obtain⟨y1,h2,h⟩:=aB h;refine(((aW.a [.n 9]).g (F2 h2)).a [.pb 3 3 154 3,.cn [2,3,15,16,17] [1,3,2,4]]).lp hΓ (Ho hΓ (fun dl h=>?_) (by have:=(gb.sl (gb.agg (hr _ (aE (i:=0) rfl)) (.sl (aD.cY.map Action.c)) (by simp))).1;simpa using this) aD.cY 0 ([]:eW) rfl h);cases h;exact aW.ret hΓ
def nL(aD:aq)(k1:aq->Option aq):aq->Nat->aq->Option aq
 | [],i1,bP=>(k1 bP)
 |bS::cT,i1,bP=>((rB bS).bind fun oa=>(bif room ((bP.map aK.c).length+([[D.str oa.name,D.int .i64 oa.prio,D.sl (oa.conds.map aP.c),D.sl (oa.cY.map Action.c)]]).length) 72 then(nL aD k1 cT (i1+1) (bP++([oa])))else none))
def qT(aD:aq):Option aq:=(nL aD (fun(cC:aq)=>(some cC)) aD 0 ([]:aq))
def AV(aD:aq)(W0:List aQ)(dG:Int):St:=⟨[(3,D.acc 0),(6,D.sl (aD.map aK.c)),(7,D.int .i64 ((aD.map aK.c).length:Int)),(8,D.int .i64 dG)],[Ob.row .uq 63 4 W0]⟩
theorem G4(hΓ:Γ.nt=19){aD:aq}{r:aq}{k1:aq->Option aq}(dX:∀(cC:aq),k1 cC=some r->Ax Γ N f114 (.q [[some (63,4)]] (D.fr 63 4 (r.map aK.c))) [1,1,1] ⟨[(3,D.acc 0)],[Ob.row .uq 63 4 (cC.map aK.c)]⟩)(hm1:aD.length<=maxLen):∀(rest:aq) (i1:Nat) (bP:aq),aD.drop i1=rest->nL aD k1 rest i1 bP=some r->Ar Γ N f114 (.q [[some (63,4)]] (D.fr 63 4 (r.map aK.c))) [1,1,0,1,0] (rest.length+1) (AV aD (bP.map aK.c) (i1:Int)):=by
 intro rest
 induction rest with
 |nil=>
  intro i1 bP b8 h;rw[nL]at h;refine aU fun N1 cW cK=>?_
  exact((aW.ge aK.c b8).a [.hl 0 [3] [0]]).ex hΓ cW (dX bP h)
 |cons bS cT ih1=>
  intro i1 bP b8 h;rw[nL]at h;refine aU fun N1 cW cK=>?_
  obtain⟨oa,h28,h⟩:=aB h;obtain⟨h29,h⟩:=bQ h;exact(((((aW.lt aK.c b8).l (bG aK.c 4 (dc b8) rfl)).g (G3 h28)).w (bX h29)).a [.cn [3,6,7,8] [5]]).cs hΓ cK (AV aD ((bP.map aK.c)++([[D.str oa.name,D.int .i64 oa.prio,D.sl (oa.conds.map aP.c),D.sl (oa.cY.map Action.c)]])) (IntKind.i64.wrap ((i1:Int)+1))) (by first| (simp only[iS b8 hm1,mA]<;>rfl)| (simp only[iS b8 hm1,mA,aC.c,aV.c,aP.c,Action.c,aK.c,aO.c,bM.c,aX.c,Node.c,aG.c,dL.c]<;>rfl)) (ih1 (i1+1) (bP++([oa])) (dn b8) h)
theorem yj{aD:aq}{r:aq}(h:qT aD=some r):Good prog 114 [D.sl (aD.map aK.c)] (D.fr 63 4 (r.map aK.c)):=by
 refine gd func114 [[some (63,4)]] 19 fun hr Γ hΓ=>?_
 rw[qT]at h;refine(aW.a [.LP 3,.cn [3,6,7,8] [0]]).lp hΓ (G4 hΓ (fun cC h=>?_) (by have:=(gb.sl (hr _ (aE (i:=0) rfl))).1;simpa using this) aD 0 ([]:aq) rfl h);have h:=aN h;subst h;exact aW.ret hΓ
def fo(aD:aH)(k1:aT->Option aT):aH->Nat->aT->List (Bytes×Bool)->Option aT
 | [],i1,bP,Cf=>(k1 bP)
 |bS::cT,i1,bP,Cf=>((mZ bS).bind fun y52=>(bif y52 then(bif !(LA false bS Cf)then((lT (IntKind.i64.wrap (((bP.map aV.c).length:Int)+1))).bind fun y56=>(bif decide (([63]:Bytes).length+(y56:Bytes).length<=maxLen)then(bif room ((bP.map aV.c).length+([[D.str bS,D.str (([63])++y56)]]).length) 32 then(fo aD k1 cT (i1+1) (bP++([(⟨bS,([63])++y56⟩:aV)])) (Oi bS true Cf))else none)else none))else(fo aD k1 cT (i1+1) bP Cf))else(fo aD k1 cT (i1+1) bP Cf)))
def pM(aD:aH):Option aT:=(fo aD (fun(cC:aT)=>(some cC)) aD 0 ([]:aT) ([]:List (Bytes×Bool)))
def zY(aD:aH)(W0:List aQ)(W1:List (D×D))(dG:Int):St:=⟨[(3,D.acc 0),(4,D.acc 1),(8,D.sl (aD.map tx)),(9,D.int .i64 ((aD.map tx).length:Int)),(10,D.int .i64 dG)],[Ob.row .uq 113 2 W0,Ob.mp W1]⟩
theorem F4(hΓ:Γ.nt=36){aD:aH}{r:aT}{k1:aT->Option aT}(dX:∀(cC:aT),k1 cC=some r->Ax Γ N f142 (.q [[some (113,2)]] (D.fr 113 2 (r.map aV.c))) [1,1,1,1] ⟨[(3,D.acc 0)],[Ob.row .uq 113 2 (cC.map aV.c)]⟩)(hm1:aD.length<=maxLen):∀(rest:aH) (i1:Nat) (bP:aT) (Cf:List (Bytes×Bool)),aD.drop i1=rest->fo aD k1 rest i1 bP Cf=some r->Ar Γ N f142 (.q [[some (113,2)]] (D.fr 113 2 (r.map aV.c))) [1,1,1,0,1,0] (rest.length+1) (zY aD (bP.map aV.c) (Cf.map (kS eB)) (i1:Int)):=by
 intro rest
 induction rest with
 |nil=>
  intro i1 bP Cf b8 h;rw[fo]at h;refine aU fun N1 cW cK=>?_
  exact((aW.ge tx b8).a [.hl 0 [3] [0]]).ex hΓ cW (dX bP h)
 |cons bS cT ih1=>
  intro i1 bP Cf b8 h;rw[fo]at h;refine aU fun N1 cW cK=>?_
  obtain⟨y52,h53,h⟩:=aB h;have ij:=(((aW.lt tx b8).l (bG tx 1 (dc b8) rfl)).g (pH h53))
  obtain⟨h54,h⟩|⟨h54,h⟩:=aL h
  ·have jO:=((((ij.r 3 h54).w (show plk prog 185 (Cf.map (kS eB)) (D.str bS) false=some (D.bool (LA false bS Cf))from a8k (e:=eB) (z:=false) (by kernel_rfl))).a [.d (D.bool (LA false bS Cf))]).r 2 h54)
   obtain⟨h55,h⟩|⟨h55,h⟩:=aL h
   ·obtain⟨y56,h57,h⟩:=aB h;obtain⟨h58,h⟩:=bQ h;obtain⟨h59,h⟩:=bQ h;exact(((((((jO.b h55).w (show L8 (D.str bS) (D.bool true) (Cf.map (kS eB))=some ((Oi bS true Cf).map (kS eB))from a0A (e:=eB) (m:=Cf))).a [.kv ((Oi bS true Cf).map (kS eB))]).g (ye h57)).w (bV h58)).w (bX h59)).a [.cn [3,4,8,9,10] [3,1]]).cs hΓ cK (zY aD ((bP.map aV.c)++([[D.str bS,D.str (([63])++y56)]])) ((Oi bS true Cf).map (kS eB)) (IntKind.i64.wrap ((i1:Int)+1))) (by first| (simp only[iS b8 hm1,mA]<;>rfl)| (simp only[iS b8 hm1,mA,aC.c,aV.c,aP.c,Action.c,aK.c,aO.c,bM.c,aX.c,Node.c,aG.c,dL.c]<;>rfl)) (ih1 (i1+1) (bP++([(⟨bS,([63])++y56⟩:aV)])) (Oi bS true Cf) (dn b8) h)
   ·exact((jO.b h55).a [.cn [3,4,8,9,10] [0,1]]).ct hΓ cK (iS b8 hm1) (ih1 (i1+1) bP Cf (dn b8) h)
  ·exact(((ij.r 5 h54).F 1).a [.cn [3,4,8,9,10] [0,1]]).ct hΓ cK (iS b8 hm1) (ih1 (i1+1) bP Cf (dn b8) h)
theorem yD{aD:aH}{r:aT}(h:pM aD=some r):Good prog 142 [D.sl (aD.map tx)] (D.fr 113 2 (r.map aV.c)):=by
 refine gd func142 [[some (113,2)]] 36 fun hr Γ hΓ=>?_
 rw[pM]at h;refine(aW.a [.LP 3,.cn [3,4,8,9,10] [0,1]]).lp hΓ (F4 hΓ (fun cC h=>?_) (by have:=(gb.sl (hr _ (aE (i:=0) rfl))).1;simpa using this) aD 0 ([]:aT) ([]:List (Bytes×Bool)) rfl h);have h:=aN h;subst h;exact aW.ret hΓ
def gr(aD:aK)(k1:aH->Option aT):ar->Nat->aH->Option aT
 | [],i1,bP=>(k1 bP)
 |bS::cT,i1,bP=>((tG bS).bind fun oa=>(bif room ((bP.map tx).length+(oa.map tx).length) 16 then(gr aD k1 cT (i1+1) (bP++oa))else none))
def pJ(aD:aK):Option aT:=(gr aD (fun(cC:aH)=>((pM cC).bind fun yT=>(some yT))) aD.conds 0 ([]:aH))
def zT(aD:aK)(W0:List aQ)(dG:Int):St:=⟨[(3,D.acc 0),(7,D.sl (aD.conds.map aP.c)),(8,D.int .i64 ((aD.conds.map aP.c).length:Int)),(9,D.int .i64 dG)],[Ob.row .uq 9 1 W0]⟩
theorem Ex(hΓ:Γ.nt=20){aD:aK}{r:aT}{k1:aH->Option aT}(dX:∀(cC:aH),k1 cC=some r->Ax Γ N f81 (.q [[some (113,2)]] (D.fr 113 2 (r.map aV.c))) [1,1,1] ⟨[(3,D.acc 0)],[Ob.row .uq 9 1 (cC.map tx)]⟩)(hm1:aD.conds.length<=maxLen):∀(rest:ar) (i1:Nat) (bP:aH),aD.conds.drop i1=rest->gr aD k1 rest i1 bP=some r->Ar Γ N f81 (.q [[some (113,2)]] (D.fr 113 2 (r.map aV.c))) [1,1,0,1,0] (rest.length+1) (zT aD (bP.map tx) (i1:Int)):=by
 intro rest
 induction rest with
 |nil=>
  intro i1 bP b8 h;rw[gr]at h;refine aU fun N1 cW cK=>?_
  exact((aW.ge aP.c b8).a [.hl 0 [3] [0]]).ex hΓ cW (dX bP h)
 |cons bS cT ih1=>
  intro i1 bP b8 h;rw[gr]at h;refine aU fun N1 cW cK=>?_
  obtain⟨oa,h28,h⟩:=aB h;obtain⟨h29,h⟩:=bQ h;exact(((((aW.lt aP.c b8).l (bG aP.c 5 (dc b8) rfl)).g (AX h28)).w (bX h29)).a [.cn [3,7,8,9] [3]]).cs hΓ cK (zT aD ((bP.map tx)++(oa.map tx)) (IntKind.i64.wrap ((i1:Int)+1))) (by first| (simp only[iS b8 hm1,mA]<;>rfl)| (simp only[iS b8 hm1,mA,aC.c,aV.c,aP.c,Action.c,aK.c,aO.c,bM.c,aX.c,Node.c,aG.c,dL.c]<;>rfl)) (ih1 (i1+1) (bP++oa) (dn b8) h)
theorem yA{aD:aK}{r:aT}(h:pJ aD=some r):Good prog 81 [D.agg (aK.c aD)] (D.fr 113 2 (r.map aV.c)):=by
 refine gd func81 [[some (113,2)]] 20 fun hr Γ hΓ=>?_
 rw[pJ]at h;refine(aW.a [.LP 3,.cn [3,7,8,9] [1]]).lp hΓ (Ex hΓ (fun cC h=>?_) (by have:=(gb.sl (gb.agg (hr _ (aE (i:=0) rfl)) (.sl (aD.conds.map aP.c)) (by simp))).1;simpa using this) aD.conds 0 ([]:aH) rfl h);obtain⟨yT,h31,h⟩:=aB h;have h:=aN h;subst h;exact(aW.g (yD h31)).ret hΓ
def iZ(aD:Bytes)(aY:aT)(k1:Option Bytes):aT->Nat->Option Bytes
 | [],i1=>(k1)
 |bS::cT,i1=>(bif (bS.var:Bytes)==aD then(some bS.value)else(iZ aD aY k1 cT (i1+1)))
def jA(aD:Bytes)(aY:aT):Option Bytes:=(iZ aD aY (some aD) aY 0)
def F5(aD:Bytes)(aY:aT)(dG:Int):St:=⟨[(0,D.str aD),(7,D.sl (aY.map aV.c)),(8,D.int .i64 ((aY.map aV.c).length:Int)),(9,D.int .i64 dG)],[]⟩
theorem EB(hΓ:Γ.nt=21){aD:Bytes}{aY:aT}{r:Bytes}{k1:Option Bytes}(dX:k1=some r->Ax Γ N f231 (.q [[none]] (D.str r)) [1,1] ⟨[(0,D.str aD)],[]⟩)(hm1:aY.length<=maxLen):∀(rest:aT) (i1:Nat),aY.drop i1=rest->iZ aD aY k1 rest i1=some r->Ar Γ N f231 (.q [[none]] (D.str r)) [1,0,1,0] (rest.length+1) (F5 aD aY (i1:Int)):=by
 intro rest
 induction rest with
 |nil=>
  intro i1 b8 h;rw[iZ]at h;refine aU fun N1 cW cK=>?_
  exact((aW.ge aV.c b8).a [.hl 0 [0] []]).ex hΓ cW (dX h)
 |cons bS cT ih1=>
  intro i1 b8 h;rw[iZ]at h;refine aU fun N1 cW cK=>?_
  have fE:=((aW.lt aV.c b8).l (bG aV.c 2 (dc b8) rfl))
  obtain⟨h13,h⟩|⟨h13,h⟩:=aL h
  ·cases h;exact(fE.b h13).ret hΓ
  ·exact((fE.b h13).a [.cn [0,7,8,9] []]).ct hΓ cK (iS b8 hm1) (ih1 (i1+1) (dn b8) h)
theorem tD{aD:Bytes}{aY:aT}{r:Bytes}(h:jA aD aY=some r):Good prog 231 [D.str aD,D.sl (aY.map aV.c)] (D.str r):=by
 refine gd func231 [[none]] 21 fun hr Γ hΓ=>?_
 rw[jA]at h;refine(aW.a [.cn [0,7,8,9] []]).lp hΓ (EB hΓ (fun h=>?_) (by have:=(gb.sl (hr _ (aE (i:=1) rfl))).1;simpa using this) aY 0 rfl h);have h:=aN h;subst h;exact aW.ret hΓ
def lX(aD:aP)(aY:aT)(y1:Bytes)(y3:Bytes)(k1:aH->Option aP):aH->Nat->aH->Option aP
 | [],i1,nD=>(k1 nD)
 |bS::cT,i1,nD=>((jA bS aY).bind fun HS=>(bif room ((nD.map tx).length+([[D.str HS]]).length) 16 then(lX aD aY y1 y3 k1 cT (i1+1) (nD++([HS])))else none))
def mc(aD:aP)(aY:aT):Option aP:=((jA aD.left aY).bind fun y1=>((jA aD.right aY).bind fun y3=>(lX aD aY y1 y3 (fun(qF:aH)=>(some (⟨aD.kind,(⟨aD.pat.rel,qF⟩:aC),y1,y3⟩:aP))) aD.pat.args 0 ([]:aH))))
def zU(aD:aP)(aY:aT)(y1:Bytes)(y3:Bytes)(W0:List aQ)(dG:Int):St:=⟨[(1,D.sl (aY.map aV.c)),(4,D.ptr 0 0),(5,D.ptr 1 0),(26,D.sl (aD.pat.args.map tx)),(27,D.int .i64 ((aD.pat.args.map tx).length:Int)),(28,D.int .i64 dG)],[Ob.box [D.int .i64 0,D.str ([]),D.nil,D.str ([]),D.str ([])],Ob.box [D.int .i64 aD.kind,D.str aD.pat.rel,D.acc 2,D.str y1,D.str y3],Ob.row .uq 9 1 W0]⟩
theorem Ey(hΓ:Γ.nt=44){aD:aP}{aY:aT}{y1:Bytes}{y3:Bytes}{r:aP}{k1:aH->Option aP}(dX:∀(qF:aH),k1 qF=some r->Ax Γ N f216 (.q [[none,none,some (9,1),none,none]] (D.agg [D.int .i64 r.kind,D.str r.pat.rel,D.fr 9 1 (r.pat.args.map tx),D.str r.left,D.str r.right])) [1,1,1,1] ⟨[(4,D.ptr 0 0),(5,D.ptr 1 0)],[Ob.box [D.int .i64 0,D.str ([]),D.nil,D.str ([]),D.str ([])],Ob.box [D.int .i64 aD.kind,D.str aD.pat.rel,D.acc 2,D.str y1,D.str y3],Ob.row .uq 9 1 (qF.map tx)]⟩)(hm1:aD.pat.args.length<=maxLen):∀(rest:aH) (i1:Nat) (nD:aH),aD.pat.args.drop i1=rest->lX aD aY y1 y3 k1 rest i1 nD=some r->Ar Γ N f216 (.q [[none,none,some (9,1),none,none]] (D.agg [D.int .i64 r.kind,D.str r.pat.rel,D.fr 9 1 (r.pat.args.map tx),D.str r.left,D.str r.right])) [1,1,1,0,1,0] (rest.length+1) (zU aD aY y1 y3 (nD.map tx) (i1:Int)):=by
 intro rest
 induction rest with
 |nil=>
  intro i1 nD b8 h;rw[lX]at h;refine aU fun N1 cW cK=>?_
  exact((aW.ge tx b8).a [.hl 0 [4,5] [0,1,2]]).ex hΓ cW (dX nD h)
 |cons bS cT ih1=>
  intro i1 nD b8 h;rw[lX]at h;refine aU fun N1 cW cK=>?_
  obtain⟨HS,h32,h⟩:=aB h;obtain⟨h33,h⟩:=bQ h;exact((((((aW.lt tx b8).l (bG tx 1 (dc b8) rfl)).a [.n 7]).g (tD h32)).w (bX h33)).a [.cn [1,4,5,26,27,28] [0,1,4]]).cs hΓ cK (zU aD aY y1 y3 ((nD.map tx)++([[D.str HS]])) (IntKind.i64.wrap ((i1:Int)+1))) (by first| (simp only[iS b8 hm1,mA]<;>rfl)| (simp only[iS b8 hm1,mA,aC.c,aV.c,aP.c,Action.c,aK.c,aO.c,bM.c,aX.c,Node.c,aG.c,dL.c]<;>rfl)) (ih1 (i1+1) (nD++([HS])) (dn b8) h)
theorem qA{aD:aP}{aY:aT}{r:aP}(h:mc aD aY=some r):Good prog 216 [D.agg (aP.c aD),D.sl (aY.map aV.c)] (D.agg [D.int .i64 r.kind,D.str r.pat.rel,D.fr 9 1 (r.pat.args.map tx),D.str r.left,D.str r.right]):=by
 refine gd func216 [[none,none,some (9,1),none,none]] 44 fun hr Γ hΓ=>?_
 rw[mc]at h;obtain⟨y1,h2,h⟩:=aB h;obtain⟨y3,h4,h⟩:=aB h;refine((((aW.a [.n 12]).g (tD h2)).g (tD h4)).a [.pb 2 2 9 1,.cn [1,4,5,26,27,28] [1,2,3]]).lp hΓ (Ey hΓ (fun qF h=>?_) (by have:=(gb.sl (gb.agg (hr _ (aE (i:=0) rfl)) (.sl (aD.pat.args.map tx)) (by simp))).1;simpa using this) aD.pat.args 0 ([]:aH) rfl h);cases h;exact aW.ret hΓ
def lW(aD:aK)(y1:aT)(k1:ar->Option ar):ar->Nat->ar->Option ar
 | [],i1,bR=>(k1 bR)
 |bS::cT,i1,bR=>((mc bS y1).bind fun Cq=>(bif room ((bR.map aP.c).length+([[D.int .i64 Cq.kind,D.str Cq.pat.rel,D.sl (Cq.pat.args.map tx),D.str Cq.left,D.str Cq.right]]).length) 80 then(lW aD y1 k1 cT (i1+1) (bR++([Cq])))else none))
def rQ(aD:aK):Option ar:=((pJ aD).bind fun y1=>(lW aD y1 (fun(cC:ar)=>(some cC)) aD.conds 0 ([]:ar)))
def zS(aD:aK)(y1:aT)(W0:List aQ)(dG:Int):St:=⟨[(3,D.acc 0),(4,D.acc 1),(10,D.sl (aD.conds.map aP.c)),(11,D.int .i64 ((aD.conds.map aP.c).length:Int)),(12,D.int .i64 dG)],[Ob.row .uq 113 2 (y1.map aV.c),Ob.row .uq 71 5 W0]⟩
theorem Ew(hΓ:Γ.nt=24){aD:aK}{y1:aT}{r:ar}{k1:ar->Option ar}(dX:∀(cC:ar),k1 cC=some r->Ax Γ N f176 (.q [[some (71,5)]] (D.fr 71 5 (r.map aP.c))) [1,1,1,1] ⟨[(4,D.acc 0)],[Ob.row .uq 71 5 (cC.map aP.c)]⟩)(hm1:aD.conds.length<=maxLen):∀(rest:ar) (i1:Nat) (bR:ar),aD.conds.drop i1=rest->lW aD y1 k1 rest i1 bR=some r->Ar Γ N f176 (.q [[some (71,5)]] (D.fr 71 5 (r.map aP.c))) [1,1,1,0,1,0] (rest.length+1) (zS aD y1 (bR.map aP.c) (i1:Int)):=by
 intro rest
 induction rest with
 |nil=>
  intro i1 bR b8 h;rw[lW]at h;refine aU fun N1 cW cK=>?_
  exact((aW.ge aP.c b8).a [.hl 0 [4] [1]]).ex hΓ cW (dX bR h)
 |cons bS cT ih1=>
  intro i1 bR b8 h;rw[lW]at h;refine aU fun N1 cW cK=>?_
  obtain⟨Cq,h30,h⟩:=aB h;obtain⟨h31,h⟩:=bQ h;exact(((((aW.lt aP.c b8).l (bG aP.c 5 (dc b8) rfl)).g (qA h30)).w (bX h31)).a [.cn [3,4,10,11,12] [0,5]]).cs hΓ cK (zS aD y1 ((bR.map aP.c)++([[D.int .i64 Cq.kind,D.str Cq.pat.rel,D.sl (Cq.pat.args.map tx),D.str Cq.left,D.str Cq.right]])) (IntKind.i64.wrap ((i1:Int)+1))) (by first| (simp only[iS b8 hm1,mA]<;>rfl)| (simp only[iS b8 hm1,mA,aC.c,aV.c,aP.c,Action.c,aK.c,aO.c,bM.c,aX.c,Node.c,aG.c,dL.c]<;>rfl)) (ih1 (i1+1) (bR++([Cq])) (dn b8) h)
theorem Dz{aD:aK}{r:ar}(h:rQ aD=some r):Good prog 176 [D.agg (aK.c aD)] (D.fr 71 5 (r.map aP.c)):=by
 refine gd func176 [[some (71,5)]] 24 fun hr Γ hΓ=>?_
 rw[rQ]at h;obtain⟨y1,h2,h⟩:=aB h;refine((aW.g (yA h2)).a [.LP 4,.cn [3,4,10,11,12] [1,2]]).lp hΓ (Ew hΓ (fun cC h=>?_) (by have:=(gb.sl (gb.agg (hr _ (aE (i:=0) rfl)) (.sl (aD.conds.map aP.c)) (by simp))).1;simpa using this) aD.conds 0 ([]:ar) rfl h);have h:=aN h;subst h;exact aW.ret hΓ
def nN(aD:aH)(aY:aH)(k1:Option Bool):aH->Nat->Option Bool
 | [],i1=>(k1)
 |bS::cT,i1=>((fy aY (i1:Int)).bind fun x22=>(bif !((bS:Bytes)==x22)then(some false)else(nN aD aY k1 cT (i1+1))))
def qV(aD:aH)(aY:aH):Option Bool:=(bif (((aD.map tx).length:Int):Int) != ((aY.map tx).length:Int)then(some false)else(nN aD aY (some true) aD 0))
def Hu(aD:aH)(aY:aH)(dG:Int):St:=⟨[(0,D.sl (aD.map tx)),(1,D.sl (aY.map tx)),(12,D.int .i64 ((aD.map tx).length:Int)),(13,D.int .i64 dG)],[]⟩
theorem G9(hΓ:Γ.nt=26){aD:aH}{aY:aH}{r:Bool}{k1:Option Bool}(dX:k1=some r->Ax Γ N f110 (.q [[none]] (D.bool r)) [1,1,1] ⟨[],[]⟩)(hm1:aD.length<=maxLen):∀(rest:aH) (i1:Nat),aD.drop i1=rest->nN aD aY k1 rest i1=some r->Ar Γ N f110 (.q [[none]] (D.bool r)) [1,1,0,1,0] (rest.length+1) (Hu aD aY (i1:Int)):=by
 intro rest
 induction rest with
 |nil=>
  intro i1 b8 h;rw[nN]at h;refine aU fun N1 cW cK=>?_
  exact((aW.ge tx b8).a [.hl 0 [] []]).ex hΓ cW (dX h)
 |cons bS cT ih1=>
  intro i1 b8 h;rw[nN]at h;refine aU fun N1 cW cK=>?_
  obtain⟨x22,h23,h⟩:=aB h;have fE:=((((aW.lt tx b8).a [.n 8]).l (bG tx 1 (dc b8) rfl)).l (fB tx 1 h23 rfl))
  obtain⟨h24,h⟩|⟨h24,h⟩:=aL h
  ·have h:=aN h;subst h;exact(fE.b h24).ret hΓ
  ·exact((fE.b h24).a [.cn [0,1,12,13] []]).ct hΓ cK (iS b8 hm1) (ih1 (i1+1) (dn b8) h)
theorem ym{aD:aH}{aY:aH}{r:Bool}(h:qV aD aY=some r):Good prog 110 [D.sl (aD.map tx),D.sl (aY.map tx)] (D.bool r):=by
 refine gd func110 [[none]] 26 fun hr Γ hΓ=>?_
 rw[qV]at h;obtain⟨h1,h⟩|⟨h1,h⟩:=aL h
 ·have h:=aN h;subst h;exact(aW.b h1).ret hΓ
 ·refine((aW.b h1).a [.cn [0,1,12,13] []]).lp hΓ (G9 hΓ (fun h=>?_) (by have:=(gb.sl (hr _ (aE (i:=0) rfl))).1;simpa using this) aD 0 rfl h);have h:=aN h;subst h;exact aW.ret hΓ
def gD(aD:aC)(aY:aC):Option Bool:=(bif (aD.rel:Bytes)==aY.rel then((qV aD.args aY.args).bind fun y2=>(some y2))else(some false))
theorem pK{aD:aC}{aY:aC}{r:Bool}(h:gD aD aY=some r):Good prog 57 [D.agg (aC.c aD),D.agg (aC.c aY)] (D.bool r):=by
 refine gd func57 [[none]] 17 fun hr Γ hΓ=>?_
 rw[gD]at h;obtain⟨h1,h⟩|⟨h1,h⟩:=aL h
 ·obtain⟨y2,h3,h⟩:=aB h;have h:=aN h;subst h;exact(((aW.r 5 h1).g (ym h3)).b h1).ret hΓ
 ·have h:=aN h;subst h;exact(aW.r 6 h1).ret hΓ
def kf(aD:aP)(aY:aP):Option Bool:=(bif (aD.kind:Int)==aY.kind then(bif (aD.left:Bytes)==aY.left then(bif (aD.right:Bytes)==aY.right then((gD aD.pat aY.pat).bind fun y4=>(some y4))else(some false))else(some false))else(some false))
theorem vW{aD:aP}{aY:aP}{r:Bool}(h:kf aD aY=some r):Good prog 58 [D.agg (aP.c aD),D.agg (aP.c aY)] (D.bool r):=by
 refine gd func58 [[none]] 31 fun hr Γ hΓ=>?_
 rw[kf]at h;obtain⟨h1,h⟩|⟨h1,h⟩:=aL h
 ·have kX:=(aW.r 6 h1)
  obtain⟨h2,h⟩|⟨h2,h⟩:=aL h
  ·have fE:=(kX.r 6 h2)
   obtain⟨h3,h⟩|⟨h3,h⟩:=aL h
   ·obtain⟨y4,h5,h⟩:=aB h;have h:=aN h;subst h;exact(((fE.r 5 h3).g (pK h5)).b h3).ret hΓ
   ·have h:=aN h;subst h;exact(fE.r 6 h3).ret hΓ
  ·have h:=aN h;subst h;exact((kX.r 6 h2).F 6).ret hΓ
 ·have h:=aN h;subst h;exact((aW.r 6 h1).F 12).ret hΓ
def sw(aD:aC):Option aC:=((pM aD.args).bind fun y1=>((mc (⟨0,aD,[],[]⟩:aP) y1).bind fun y3=>(some y3.pat)))
theorem AR{aD:aC}{r:aC}(h:sw aD=some r):Good prog 218 [D.agg (aC.c aD)] (D.agg [D.str r.rel,D.fr 9 1 (r.args.map tx)]):=by
 refine gd func218 [[none,some (9,1)]] 10 fun hr Γ hΓ=>?_
 rw[sw]at h;obtain⟨y1,h2,h⟩:=aB h;obtain⟨y3,h4,h⟩:=aB h;cases h;exact((((aW.a [.n 5]).g (yD h2)).a [.d (D.agg [D.int .i64 y3.kind,D.str y3.pat.rel,D.fr 9 1 (y3.pat.args.map tx),D.str y3.left,D.str y3.right])]).w (show Good prog 216 [D.agg [D.int .i64 0,D.str aD.rel,D.sl (aD.args.map tx),D.str ([]),D.str ([])],D.sl (y1.map aV.c)] (D.agg [D.int .i64 y3.kind,D.str y3.pat.rel,D.fr 9 1 (y3.pat.args.map tx),D.str y3.left,D.str y3.right])from by first| (simpa only[bD,au,bg,bZ,bh]using qA h4)|exact qA h4| (have t:=qA h4;simp only[bD,bZ,bh,aP.c]at t;exact t))).ret hΓ
end Go.Cx

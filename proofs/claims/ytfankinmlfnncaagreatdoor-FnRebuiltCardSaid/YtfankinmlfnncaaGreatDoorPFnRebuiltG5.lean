/- What functions of the program compute, and the walks that show it. No condition. -/
import Derived.Test.YtfankinmlfnncaaGreatDoorPFnRebuiltG4
set_option linter.unusedVariables false
set_option linter.unusedSimpArgs false
namespace Go.Cx
open Go.RowKit Go.Proofs Tryz
set_option maxRecDepth 100000
variable{Γ:uB}{N:Nat->St->Prop}
def gF(y1:cJ×(Bytes×Int))(k1:bC->Int->Int->aG->Option (cJ×aD)):Nat->Int->bC->Int->Int->aG->Option (cJ×aD)
 |0,_,_,_,_,_=>none
 |n1+1,dR,eN,dH,dJ,cg=>(bif decide ((dR:Int)<y1.2.2)then((gz (⟨eN,dH,dJ⟩:cJ)).bind fun yW=>(bif room ((cg.map tx).length+([[D.str yW.2]]).length) 16 then(gF y1 k1 n1 (IntKind.i64.wrap (dR+1)) yW.1.b yW.1.i yW.1.h (cg++([yW.2])))else none))else(k1 eN dH dJ cg))
def lF(aC:cJ):Option (cJ×aD):=((nT aC).bind fun y1=>(gF y1 (fun(l8:bC) (l9:Int) (lB:Int) (eM:aG)=>(some ((⟨l8,l9,lB⟩:cJ),(⟨y1.2.1,eM⟩:aD)))) fuel 0 y1.1.b y1.1.i y1.1.h ([]:aG)))
def BS(iC:Value)(y1:cJ×(Bytes×Int))(dR:Int)(dH:Int)(dJ:Int)(W1:List aL)(W4:List aL):St:=⟨[(0,D.ptr 0 0),(2,D.ptr 1 0),(4,D.int .i64 y1.2.2),(5,D.ptr 2 0),(6,D.int .i64 dR)],[Ob.AA [D.sl W1,D.int .i64 dH,D.int .i64 dJ] iC,Ob.box [D.str ([]),D.nil],Ob.box [D.str y1.2.1,D.acc 3],Ob.row .uq 9 1 W4]⟩
theorem Ic(hΓ:Γ.nt=27){iC:Value}{y1:cJ×(Bytes×Int)}{r:cJ×aD}{k1:bC->Int->Int->aG->Option (cJ×aD)}(di:∀(l8:bC) (l9:Int) (lB:Int) (eM:aG),k1 l8 l9 lB eM=some r->Ax Γ N f113 (.p [[none,none,none],[none,some (9,1)]] iC (cJ.c r.1) (D.agg [D.str r.2.rel,D.fr 9 1 (r.2.args.map tx)])) [1,1,1,1] ⟨[(2,D.ptr 1 0),(5,D.ptr 2 0)],[Ob.AA [D.sl (l8.map yx),D.int .i64 l9,D.int .i64 lB] iC,Ob.box [D.str ([]),D.nil],Ob.box [D.str y1.2.1,D.acc 3],Ob.row .uq 9 1 (eM.map tx)]⟩):∀(n1:Nat) (dR:Int) (eN:bC) (dH:Int) (dJ:Int) (cg:aG),gF y1 k1 n1 dR eN dH dJ cg=some r->Ar Γ N f113 (.p [[none,none,none],[none,some (9,1)]] iC (cJ.c r.1) (D.agg [D.str r.2.rel,D.fr 9 1 (r.2.args.map tx)])) [1,1,1,0,1,0] n1 (BS iC y1 dR dH dJ (eN.map yx) (cg.map tx)):=by
 intro n
 induction n with
 |zero=>intro dR eN dH dJ cg h;simp[gF]at h
 |succ n1 ih1=>
  intro dR eN dH dJ cg h;rw[gF]at h;refine aQ fun N1 cY cI=>?_
  obtain⟨h27,h⟩|⟨h27,h⟩:=aM h
  ·obtain⟨yW,h31,h⟩:=aB h;obtain⟨h32,h⟩:=bR h;exact(((((aY.b h27).a [.n2 [0,1,2,3,4,5,6,7] [0,1,2,3,4,5,6,7] 3 5 [0,1] [0],.gp [[none,none,none]] (cJ.c yW.1) (D.str yW.2)]).w (show hY prog 181 (cJ.c (⟨eN,dH,dJ⟩:cJ)) (cJ.c yW.1) [] (D.str yW.2)from by simpa only[bA,bB,bZ,bX,bg]using vJ h31)).w (bf h32)).a [.cn [0,2,4,5,6] [0,1,2,5]]).cs hΓ cI (BS iC y1 (IntKind.i64.wrap (dR+1)) yW.1.i yW.1.h (yW.1.b.map yx) ((cg.map tx)++([[D.str yW.2]]))) (by first| (simp only[mA]<;>rfl)| (simp only[mA,aD.c,aX.c,aO.c,Action.c,aK.c,aU.c,dW.c,aZ.c,Node.c,aH.c,dh.c]<;>rfl)) (ih1 (IntKind.i64.wrap (dR+1)) yW.1.b yW.1.i yW.1.h (cg++([yW.2])) h)
  ·exact((aY.b h27).a [.hl 0 [2,5] [0,1,2,3]]).ex hΓ cY (di eN dH dJ cg h)
theorem zm{aC:cJ}{r:cJ×aD}(h:lF aC=some r):hY prog 113 (cJ.c aC) (cJ.c r.1) [] (D.agg [D.str r.2.rel,D.fr 9 1 (r.2.args.map tx)]):=by
 refine Iz func113 [[none,none,none],[none,some (9,1)]] 27 [D.sl (aC.b.map yx),D.int .i64 aC.i,D.int .i64 aC.h] [] [] fun hr iC Γ hΓ=>?_
 rw[lF]at h;obtain⟨y1,h2,h⟩:=aB h;refine((aY.hp [[none,none,none]] (Aa h2)).a [.pb 2 1 9 1,.cn [0,2,4,5,6] [0,1,2,3]]).lp hΓ (Ic hΓ (fun l8 l9 lB eM h=>?_) fuel 0 y1.1.b y1.1.i y1.1.h ([]:aG) h);cases h;exact aY.ret hΓ
def s5(aC:Bytes)(aa:Bytes):Option Int:=(bif Op.bytesLess aC aa then(some (-1))else(bif !(Op.bytesLess aC aa||(aC:Bytes)==aa)then(some 1)else(some 0)))
theorem wH{aC:Bytes}{aa:Bytes}{r:Int}(h:s5 aC aa=some r):Good prog 154 [D.str aC,D.str aa] (D.int .i64 r):=by
 refine gd func154 [[none]] 13 fun hr Γ hΓ=>?_
 rw[s5]at h;obtain⟨h1,h⟩|⟨h1,h⟩:=aM h
 ·cases h;exact(aY.b h1).ret hΓ
 ·obtain⟨h2,h⟩|⟨h2,h⟩:=aM h
  ·have h:=aN h;subst h;exact((aY.b h1).b h2).ret hΓ
  ·have h:=aN h;subst h;exact((aY.b h1).b h2).ret hΓ
def jV(aC:Bytes)(aa:Bytes):Option Int:=((mQ aC).bind fun y1=>((mQ aa).bind fun y3=>(bif y1.2 then(bif y3.2 then(bif decide ((y1.1:Int)<y3.1)then(some (-1))else(bif !(y3.2)then(some (-1))else(bif decide ((y1.1:Int)>y3.1)then(some 1)else(bif !(y1.2)then(some 1)else(some 0)))))else(bif !(y3.2)then(some (-1))else(some 0)))else(bif y3.2 then(bif !(y1.2)then(some 1)else((s5 aC aa).bind fun AK=>(some AK)))else((s5 aC aa).bind fun O7=>(some O7))))))
theorem uo{aC:Bytes}{aa:Bytes}{r:Int}(h:jV aC aa=some r):Good prog 155 [D.str aC,D.str aa] (D.int .i64 r):=by
 refine gd func155 [[none]] 54 fun hr Γ hΓ=>?_
 rw[jV]at h;obtain⟨y1,h2,h⟩:=aB h;obtain⟨y3,h4,h⟩:=aB h;have nP:=((aY.g (qM h2)).g (qM h4))
 obtain⟨h5,h⟩|⟨h5,h⟩:=aM h
 ·have fk:=(nP.r 2 h5)
  obtain⟨h6,h⟩|⟨h6,h⟩:=aM h
  ·have je:=(fk.r 4 h6)
   obtain⟨h7,h⟩|⟨h7,h⟩:=aM h
   ·cases h;exact(je.r 2 h7).ret hΓ
   ·have jj:=((je.b h7).r 3 h5)
    obtain⟨h8,h⟩|⟨h8,h⟩:=aM h
    ·cases h;exact(jj.b h8).ret hΓ
    ·have sX:=(((jj.b h8).r 2 h5).r 4 h6)
     obtain⟨h9,h⟩|⟨h9,h⟩:=aM h
     ·have h:=aN h;subst h;exact(sX.r 2 h9).ret hΓ
     ·have vg:=((sX.b h9).r 3 h6)
      obtain⟨h10,h⟩|⟨h10,h⟩:=aM h
      ·have h:=aN h;subst h;exact(vg.b h10).ret hΓ
      ·have h:=aN h;subst h;exact((vg.b h10).b h5).ret hΓ
  ·have zB:=(((fk.r 4 h6).F 1).r 3 h5)
   obtain⟨h11,h⟩|⟨h11,h⟩:=aM h
   ·cases h;exact(zB.b h11).ret hΓ
   ·have h:=aN h;subst h;exact(((((((zB.b h11).r 2 h5).r 4 h6).F 1).r 3 h6).F 1).b h5).ret hΓ
 ·have Ez:=((((((nP.r 2 h5).F 5).r 3 h5).F 1).r 2 h5).F 5)
  obtain⟨h12,h⟩|⟨h12,h⟩:=aM h
  ·have Kn:=(Ez.r 3 h12)
   obtain⟨h13,h⟩|⟨h13,h⟩:=aM h
   ·have h:=aN h;subst h;exact(Kn.b h13).ret hΓ
   ·obtain⟨AK,h15,h⟩:=aB h;have h:=aN h;subst h;exact(((Kn.b h13).b h5).g (wH h15)).ret hΓ
  ·obtain⟨O7,h17,h⟩:=aB h;have h:=aN h;subst h;exact((((Ez.r 3 h12).F 1).b h5).g (wH h17)).ret hΓ
def jG(aC:aD)(aa:aD)(k1:Option Int):aG->Nat->Option Int
 | [],i1=>(k1)
 |bU::cQ,i1=>(bif decide (((i1:Int):Int)<((aa.args.map tx).length:Int))then((iP aa.args (i1:Int)).bind fun x37=>((jV bU x37).bind fun Ch=>(bif (Ch:Int) != 0 then(some Ch)else(jG aC aa k1 cQ (i1+1)))))else(k1))
def iB(aC:aD)(aa:aD):Option Int:=(bif !((aC.rel:Bytes)==aa.rel)then((s5 aC.rel aa.rel).bind fun y2=>(some y2))else(jG aC aa (bif decide ((((aC.args.map tx).length:Int):Int)<((aa.args.map tx).length:Int))then(some (-1))else(bif decide ((((aC.args.map tx).length:Int):Int)>((aa.args.map tx).length:Int))then(some 1)else(some 0))) aC.args 0))
def CL(aC:aD)(aa:aD)(dL:Int):St:=⟨[(2,D.ptr 0 0),(3,D.ptr 1 0),(5,D.int .i64 dL)],[Ob.box (aD.c aC),Ob.box (aD.c aa)]⟩
theorem BN(hΓ:Γ.nt=61){aC:aD}{aa:aD}{r:Int}{k1:Option Int}(di:k1=some r->Ax Γ N f92 (.q [[none]] (D.int .i64 r)) [1,1,1] ⟨[(2,D.ptr 0 0),(3,D.ptr 1 0)],[Ob.box (aD.c aC),Ob.box (aD.c aa)]⟩)(hm1:aC.args.length<=maxLen):∀(rest:aG) (i1:Nat),aC.args.drop i1=rest->jG aC aa k1 rest i1=some r->Ar Γ N f92 (.q [[none]] (D.int .i64 r)) [1,1,0,1,0] (rest.length+1) (CL aC aa (i1:Int)):=by
 intro rest
 induction rest with
 |nil=>
  intro i1 az h;rw[jG]at h;refine aQ fun N1 cY cI=>?_
  exact((((((((aY.ge tx az).ge tx az).ge tx az).ge tx az).ge tx az).ge tx az).F 1).a [.hl 0 [2,3] [0,1]]).ex hΓ cY (di h)
 |cons bU cQ ih1=>
  intro i1 az h;rw[jG]at h;refine aQ fun N1 cY cI=>?_
  have je:=((((((aY.lt tx az).lt tx az).lt tx az).lt tx az).lt tx az).lt tx az)
  obtain⟨h36,h⟩|⟨h36,h⟩:=aM h
  ·obtain⟨x37,h38,h⟩:=aB h;obtain⟨Ch,h40,h⟩:=aB h;have jj:=(((((je.b h36).a [.n 10]).l (bJ tx 1 (dc az) rfl)).l (fO tx 1 h38 rfl)).g (uo h40))
   obtain⟨h41,h⟩|⟨h41,h⟩:=aM h
   ·have h:=aN h;subst h;exact(jj.b h41).ret hΓ
   ·exact((jj.b h41).a [.cn [2,3,5] [0,1]]).ct hΓ cI (iS az hm1) (ih1 (i1+1) (dn az) h)
  ·exact((je.b h36).a [.hl 0 [2,3] [0,1]]).ex hΓ cY (di h)
theorem qe{aC:aD}{aa:aD}{r:Int}(h:iB aC aa=some r):Good prog 92 [D.agg (aD.c aC),D.agg (aD.c aa)] (D.int .i64 r):=by
 refine gd func92 [[none]] 61 fun hr Γ hΓ=>?_
 rw[iB]at h;obtain⟨h1,h⟩|⟨h1,h⟩:=aM h
 ·obtain⟨y2,h3,h⟩:=aB h;have h:=aN h;subst h;exact((aY.b h1).g (wH h3)).ret hΓ
 ·refine((aY.b h1).a [.cn [2,3,5] [0,1]]).lp hΓ (BN hΓ (fun h=>?_) (by have:=(gq.sl (gq.agg (hr _ (aE (i:=0) rfl)) (.sl (aC.args.map tx)) (by simp))).1;simpa using this) aC.args 0 rfl h);obtain⟨h42,h⟩|⟨h42,h⟩:=aM h
  ·cases h;exact(aY.b h42).ret hΓ
  ·obtain⟨h43,h⟩|⟨h43,h⟩:=aM h
   ·have h:=aN h;subst h;exact((aY.b h42).b h43).ret hΓ
   ·have h:=aN h;subst h;exact((aY.b h42).b h43).ret hΓ
def eR(aC:aD):Option aD:=((rS aC.args).bind fun y1=>(some (⟨aC.rel,y1⟩:aD)))
theorem gi{aC:aD}{r:aD}(h:eR aC=some r):Good prog 86 [D.agg (aD.c aC)] (D.agg [D.str r.rel,D.fr 9 1 (r.args.map tx)]):=by
 refine gd func86 [[none,some (9,1)]] 9 fun hr Γ hΓ=>?_
 rw[eR]at h;obtain⟨y1,h2,h⟩:=aB h;cases h;exact((aY.a [.n 5]).g (yo h2)).ret hΓ
def cV(aC:aJ)(aa:aD)(k1:Bool->aJ->Option aJ):aJ->Nat->Bool->aJ->Option aJ
 | [],i1,dR,bV=>(k1 dR bV)
 |bU::cQ,i1,dR,bV=>(bif !(dR)then((iB bU aa).bind fun a77=>(bif decide ((a77:Int)>=0)then((iB bU aa).bind fun GV=>(bif decide ((GV:Int)>0)then((eR aa).bind fun Pd=>(bif room ((bV.map aD.c).length+([[D.str Pd.rel,D.sl (Pd.args.map tx)]]).length) 40 then((eR bU).bind fun Jc=>(bif room (((bV.map aD.c)++([[D.str Pd.rel,D.sl (Pd.args.map tx)]])).length+([[D.str Jc.rel,D.sl (Jc.args.map tx)]]).length) 40 then(cV aC aa k1 cQ (i1+1) true ((bV++([Pd]))++([Jc])))else none))else none))else((eR bU).bind fun Sj=>(bif room ((bV.map aD.c).length+([[D.str Sj.rel,D.sl (Sj.args.map tx)]]).length) 40 then(cV aC aa k1 cQ (i1+1) true (bV++([Sj])))else none))))else((eR bU).bind fun Sk=>(bif room ((bV.map aD.c).length+([[D.str Sk.rel,D.sl (Sk.args.map tx)]]).length) 40 then(cV aC aa k1 cQ (i1+1) dR (bV++([Sk])))else none))))else((eR bU).bind fun AV=>(bif room ((bV.map aD.c).length+([[D.str AV.rel,D.sl (AV.args.map tx)]]).length) 40 then(cV aC aa k1 cQ (i1+1) dR (bV++([AV])))else none)))
def lX(aC:aJ)(aa:aD):Option aJ:=(cV aC aa (fun(yX:Bool) (jM:aJ)=>(bif !(yX)then((eR aa).bind fun NK=>(bif room ((jM.map aD.c).length+([[D.str NK.rel,D.sl (NK.args.map tx)]]).length) 40 then(some (jM++([NK])))else none))else(some jM))) aC 0 false ([]:aJ))
def sV(aC:aJ)(aa:aD)(dR:Bool)(W1:List aL)(dL:Int):St:=⟨[(0,D.sl (aC.map aD.c)),(3,D.ptr 0 0),(5,D.acc 1),(6,D.bool dR),(7,D.int .i64 dL)],[Ob.box (aD.c aa),Ob.row .uq 43 2 W1]⟩
theorem KC(hΓ:Γ.nt=54){aC:aJ}{aa:aD}{r:aJ}{k1:Bool->aJ->Option aJ}(di:∀(yX:Bool) (jM:aJ),k1 yX jM=some r->Ax Γ N f67 (.q [[some (43,2)]] (D.fr 43 2 (r.map aD.c))) [1,1,1,1] ⟨[(3,D.ptr 0 0),(5,D.acc 1),(6,D.bool yX)],[Ob.box (aD.c aa),Ob.row .uq 43 2 (jM.map aD.c)]⟩)(hm1:aC.length<=maxLen):∀(rest:aJ) (i1:Nat) (dR:Bool) (bV:aJ),aC.drop i1=rest->cV aC aa k1 rest i1 dR bV=some r->Ar Γ N f67 (.q [[some (43,2)]] (D.fr 43 2 (r.map aD.c))) [1,1,1,0,1,0] (rest.length+1) (sV aC aa dR (bV.map aD.c) (i1:Int)):=by
 intro rest
 induction rest with
 |nil=>
  intro i1 dR bV az h;rw[cV]at h;refine aQ fun N1 cY cI=>?_
  exact((aY.ge aD.c az).a [.hl 0 [3,5,6] [0,1]]).ex hΓ cY (di dR bV h)
 |cons bU cQ ih1=>
  intro i1 dR bV az h;rw[cV]at h;refine aQ fun N1 cY cI=>?_
  have jj:=((aY.lt aD.c az).a [.n 8])
  obtain⟨h128,h⟩|⟨h128,h⟩:=aM h
  ·obtain⟨a77,h130,h⟩:=aB h;have sX:=(((((jj.r 3 h128).l (bJ aD.c 2 (dc az) rfl)).r 3 h128).g (qe h130)).r 2 h128)
   obtain⟨h131,h⟩|⟨h131,h⟩:=aM h
   ·obtain⟨GV,h133,h⟩:=aB h;have vg:=((((sX.b h131).a [.n 5]).l (bJ aD.c 2 (dc az) rfl)).g (qe h133))
    obtain⟨h134,h⟩|⟨h134,h⟩:=aM h
    ·obtain⟨Pd,h136,h⟩:=aB h;obtain⟨h137,h⟩:=bR h;obtain⟨Jc,h139,h⟩:=aB h;obtain⟨h140,h⟩:=bR h;exact(((((((vg.b h134).g (gi h136)).w (bf h137)).l (bJ aD.c 2 (dc az) rfl)).g (gi h139)).w (bf h140)).a [.cn [0,3,5,6,7] [0,7]]).cs hΓ cI (sV aC aa true (((bV.map aD.c)++([[D.str Pd.rel,D.sl (Pd.args.map tx)]]))++([[D.str Jc.rel,D.sl (Jc.args.map tx)]])) (IntKind.i64.wrap ((i1:Int)+1))) (by first| (simp only[iS az hm1,mA]<;>rfl)| (simp only[iS az hm1,mA,aD.c,aX.c,aO.c,Action.c,aK.c,aU.c,dW.c,aZ.c,Node.c,aH.c,dh.c]<;>rfl)) (ih1 (i1+1) true ((bV++([Pd]))++([Jc])) (dn az) h)
    ·obtain⟨Sj,h142,h⟩:=aB h;obtain⟨h143,h⟩:=bR h;exact(((((vg.b h134).l (bJ aD.c 2 (dc az) rfl)).g (gi h142)).w (bf h143)).a [.cn [0,3,5,6,7] [0,4]]).cs hΓ cI (sV aC aa true ((bV.map aD.c)++([[D.str Sj.rel,D.sl (Sj.args.map tx)]])) (IntKind.i64.wrap ((i1:Int)+1))) (by first| (simp only[iS az hm1,mA]<;>rfl)| (simp only[iS az hm1,mA,aD.c,aX.c,aO.c,Action.c,aK.c,aU.c,dW.c,aZ.c,Node.c,aH.c,dh.c]<;>rfl)) (ih1 (i1+1) true (bV++([Sj])) (dn az) h)
   ·obtain⟨Sk,h145,h⟩:=aB h;obtain⟨h146,h⟩:=bR h;exact(((((sX.b h131).l (bJ aD.c 2 (dc az) rfl)).g (gi h145)).w (bf h146)).a [.cn [0,3,5,6,7] [0,4]]).cs hΓ cI (sV aC aa dR ((bV.map aD.c)++([[D.str Sk.rel,D.sl (Sk.args.map tx)]])) (IntKind.i64.wrap ((i1:Int)+1))) (by first| (simp only[iS az hm1,mA]<;>rfl)| (simp only[iS az hm1,mA,aD.c,aX.c,aO.c,Action.c,aK.c,aU.c,dW.c,aZ.c,Node.c,aH.c,dh.c]<;>rfl)) (ih1 (i1+1) dR (bV++([Sk])) (dn az) h)
  ·obtain⟨AV,h148,h⟩:=aB h;obtain⟨h149,h⟩:=bR h;exact((((((jj.r 8 h128).F 1).l (bJ aD.c 2 (dc az) rfl)).g (gi h148)).w (bf h149)).a [.cn [0,3,5,6,7] [0,4]]).cs hΓ cI (sV aC aa dR ((bV.map aD.c)++([[D.str AV.rel,D.sl (AV.args.map tx)]])) (IntKind.i64.wrap ((i1:Int)+1))) (by first| (simp only[iS az hm1,mA]<;>rfl)| (simp only[iS az hm1,mA,aD.c,aX.c,aO.c,Action.c,aK.c,aU.c,dW.c,aZ.c,Node.c,aH.c,dh.c]<;>rfl)) (ih1 (i1+1) dR (bV++([AV])) (dn az) h)
theorem tK{aC:aJ}{aa:aD}{r:aJ}(h:lX aC aa=some r):Good prog 67 [D.sl (aC.map aD.c),D.agg (aD.c aa)] (D.fr 43 2 (r.map aD.c)):=by
 refine gd func67 [[some (43,2)]] 54 fun hr Γ hΓ=>?_
 rw[lX]at h;refine(aY.a [.cn [0,3,5,6,7] [0,1]]).lp hΓ (KC hΓ (fun yX jM h=>?_) (by have:=(gq.sl (hr _ (aE (i:=0) rfl))).1;simpa using this) aC 0 false ([]:aJ) rfl h);obtain⟨h150,h⟩|⟨h150,h⟩:=aM h
 ·obtain⟨NK,h152,h⟩:=aB h;obtain⟨h153,h⟩:=bR h;cases h;exact(((aY.b h150).g (gi h152)).w (bf h153)).rts hΓ (D.fr 43 2 ((jM.map aD.c)++([[D.str NK.rel,D.sl (NK.args.map tx)]]))) (by first|rfl| (simp only[mA]<;>rfl)| (simp only[bw,mA]<;>rfl))
 ·have h:=aN h;subst h;exact(aY.b h150).ret hΓ
def gu(k1:bC->Int->Int->aJ->Option (cJ×aJ)):Nat->Int->bC->Int->Int->aJ->Option (cJ×aJ)
 |0,_,_,_,_,_=>none
 |n1+1,dR,eN,dH,dJ,bV=>(bif decide ((dR:Int)>0)then((lF (⟨eN,dH,dJ⟩:cJ)).bind fun Aj=>((lX bV Aj.2).bind fun NL=>(gu k1 n1 (IntKind.i64.wrap (dR-1)) Aj.1.b Aj.1.i Aj.1.h NL)))else(k1 eN dH dJ bV))
def oa(aC:cJ)(aa:Int):Option (cJ×aJ):=((cM aC (IntKind.i64.wrap (aa+1))).bind fun y1=>(gu (fun(l8:bC) (l9:Int) (lB:Int) (jM:aJ)=>(some ((⟨l8,l9,lB⟩:cJ),jM))) fuel y1.2 y1.1.b y1.1.i y1.1.h ([]:aJ)))
def LA(iC:Value)(dR:Int)(dH:Int)(dJ:Int)(W1:List aL)(W4:List aL):St:=⟨[(0,D.ptr 0 0),(5,D.acc 1),(6,D.int .i64 dR)],[Ob.AA [D.sl W1,D.int .i64 dH,D.int .i64 dJ] iC,Ob.row .uq 43 2 W4]⟩
theorem KE(hΓ:Γ.nt=21){iC:Value}{r:cJ×aJ}{k1:bC->Int->Int->aJ->Option (cJ×aJ)}(di:∀(l8:bC) (l9:Int) (lB:Int) (jM:aJ),k1 l8 l9 lB jM=some r->Ax Γ N f79 (.p [[none,none,none],[some (43,2)]] iC (cJ.c r.1) (D.fr 43 2 (r.2.map aD.c))) [1,1,1] ⟨[(5,D.acc 1)],[Ob.AA [D.sl (l8.map yx),D.int .i64 l9,D.int .i64 lB] iC,Ob.row .uq 43 2 (jM.map aD.c)]⟩):∀(n1:Nat) (dR:Int) (eN:bC) (dH:Int) (dJ:Int) (bV:aJ),gu k1 n1 dR eN dH dJ bV=some r->Ar Γ N f79 (.p [[none,none,none],[some (43,2)]] iC (cJ.c r.1) (D.fr 43 2 (r.2.map aD.c))) [1,1,0,1,0] n1 (LA iC dR dH dJ (eN.map yx) (bV.map aD.c)):=by
 intro n
 induction n with
 |zero=>intro dR eN dH dJ bV h;simp[gu]at h
 |succ n1 ih1=>
  intro dR eN dH dJ bV h;rw[gu]at h;refine aQ fun N1 cY cI=>?_
  obtain⟨h18,h⟩|⟨h18,h⟩:=aM h
  ·obtain⟨Aj,h20,h⟩:=aB h;obtain⟨NL,h22,h⟩:=aB h;exact(((((aY.b h18).a [.gp [[none,none,none]] (cJ.c Aj.1) (D.agg [D.str Aj.2.rel,D.fr 9 1 (Aj.2.args.map tx)])]).w (show hY prog 113 (cJ.c (⟨eN,dH,dJ⟩:cJ)) (cJ.c Aj.1) [] (D.agg [D.str Aj.2.rel,D.fr 9 1 (Aj.2.args.map tx)])from by simpa only[bA,bB,bZ,bX,bg]using zm h20)).g (tK h22)).a [.cn [0,5,6] [0,3]]).cf hΓ cI (ih1 (IntKind.i64.wrap (dR-1)) Aj.1.b Aj.1.i Aj.1.h NL h)
  ·exact((aY.b h18).a [.hl 0 [5] [0,1]]).ex hΓ cY (di eN dH dJ bV h)
theorem wK{aC:cJ}{aa:Int}{r:cJ×aJ}(h:oa aC aa=some r):hY prog 79 (cJ.c aC) (cJ.c r.1) [D.int .i64 aa] (D.fr 43 2 (r.2.map aD.c)):=by
 refine Iz func79 [[none,none,none],[some (43,2)]] 21 [D.sl (aC.b.map yx),D.int .i64 aC.i,D.int .i64 aC.h] [D.int .i64 aa] [] fun hr iC Γ hΓ=>?_
 rw[oa]at h;obtain⟨y1,h2,h⟩:=aB h;refine((aY.hp [[none,none,none],[none]] (cC h2)).a [.cn [0,5,6] [0,1]]).lp hΓ (KE hΓ (fun l8 l9 lB jM h=>?_) fuel y1.2 y1.1.b y1.1.i y1.1.h ([]:aJ) h);cases h;exact aY.ret hΓ
def nI(aC:aJ)(k1:aJ->Option aJ):aJ->Nat->aJ->Option aJ
 | [],i1,bP=>(k1 bP)
 |bU::cQ,i1,bP=>((eR bU).bind fun oX=>(bif room ((bP.map aD.c).length+([[D.str oX.rel,D.sl (oX.args.map tx)]]).length) 40 then(nI aC k1 cQ (i1+1) (bP++([oX])))else none))
def fo(aC:aJ):Option aJ:=(nI aC (fun(cH:aJ)=>(some cH)) aC 0 ([]:aJ))
def zl(aC:aJ)(W0:List aL)(dL:Int):St:=⟨[(0,D.sl (aC.map aD.c)),(3,D.acc 0),(4,D.int .i64 dL)],[Ob.row .uq 43 2 W0]⟩
theorem GJ(hΓ:Γ.nt=21){aC:aJ}{r:aJ}{k1:aJ->Option aJ}(di:∀(cH:aJ),k1 cH=some r->Ax Γ N f38 (.q [[some (43,2)]] (D.fr 43 2 (r.map aD.c))) [1,1,1] ⟨[(3,D.acc 0)],[Ob.row .uq 43 2 (cH.map aD.c)]⟩)(hm1:aC.length<=maxLen):∀(rest:aJ) (i1:Nat) (bP:aJ),aC.drop i1=rest->nI aC k1 rest i1 bP=some r->Ar Γ N f38 (.q [[some (43,2)]] (D.fr 43 2 (r.map aD.c))) [1,1,0,1,0] (rest.length+1) (zl aC (bP.map aD.c) (i1:Int)):=by
 intro rest
 induction rest with
 |nil=>
  intro i1 bP az h;rw[nI]at h;refine aQ fun N1 cY cI=>?_
  exact((aY.ge aD.c az).a [.hl 0 [3] [0]]).ex hΓ cY (di bP h)
 |cons bU cQ ih1=>
  intro i1 bP az h;rw[nI]at h;refine aQ fun N1 cY cI=>?_
  obtain⟨oX,h28,h⟩:=aB h;obtain⟨h29,h⟩:=bR h;exact(((((aY.lt aD.c az).l (bJ aD.c 2 (dc az) rfl)).g (gi h28)).w (bf h29)).a [.cn [0,3,4] [3]]).cs hΓ cI (zl aC ((bP.map aD.c)++([[D.str oX.rel,D.sl (oX.args.map tx)]])) (IntKind.i64.wrap ((i1:Int)+1))) (by first| (simp only[iS az hm1,mA]<;>rfl)| (simp only[iS az hm1,mA,aD.c,aX.c,aO.c,Action.c,aK.c,aU.c,dW.c,aZ.c,Node.c,aH.c,dh.c]<;>rfl)) (ih1 (i1+1) (bP++([oX])) (dn az) h)
theorem tj{aC:aJ}{r:aJ}(h:fo aC=some r):Good prog 38 [D.sl (aC.map aD.c)] (D.fr 43 2 (r.map aD.c)):=by
 refine gd func38 [[some (43,2)]] 21 fun hr Γ hΓ=>?_
 rw[fo]at h;refine(aY.a [.cn [0,3,4] [0]]).lp hΓ (GJ hΓ (fun cH h=>?_) (by have:=(gq.sl (hr _ (aE (i:=0) rfl))).1;simpa using this) aC 0 ([]:aJ) rfl h);have h:=aN h;subst h;exact aY.ret hΓ
def pE(aC:aD)(k1:Option Bool):aG->Nat->Option Bool
 | [],i1=>(k1)
 |bU::cQ,i1=>((fS bU).bind fun NL=>(bif !(NL)then(some false)else(pE aC k1 cQ (i1+1))))
def qg(aC:aD):Option Bool:=(pE aC ((qh aC.rel).bind fun Gp=>(bif Gp then(some (decide ((((aC.args.map tx).length:Int):Int)<=3)))else(some false))) aC.args 0)
def Jz(aC:aD)(dL:Int):St:=⟨[(1,D.ptr 0 0),(3,D.int .i64 dL)],[Ob.box (aD.c aC)]⟩
theorem IQ(hΓ:Γ.nt=27){aC:aD}{r:Bool}{k1:Option Bool}(di:k1=some r->Ax Γ N f65 (.q [[none]] (D.bool r)) [1,1] ⟨[(1,D.ptr 0 0)],[Ob.box (aD.c aC)]⟩)(hm1:aC.args.length<=maxLen):∀(rest:aG) (i1:Nat),aC.args.drop i1=rest->pE aC k1 rest i1=some r->Ar Γ N f65 (.q [[none]] (D.bool r)) [1,0,1,0] (rest.length+1) (Jz aC (i1:Int)):=by
 intro rest
 induction rest with
 |nil=>
  intro i1 az h;rw[pE]at h;refine aQ fun N1 cY cI=>?_
  exact((aY.ge tx az).a [.hl 0 [1] [0]]).ex hΓ cY (di h)
 |cons bU cQ ih1=>
  intro i1 az h;rw[pE]at h;refine aQ fun N1 cY cI=>?_
  obtain⟨NL,h22,h⟩:=aB h;have fk:=(((aY.lt tx az).l (bJ tx 1 (dc az) rfl)).g (ei h22))
  obtain⟨h23,h⟩|⟨h23,h⟩:=aM h
  ·have h:=aN h;subst h;exact(fk.b h23).ret hΓ
  ·exact((fk.b h23).a [.cn [1,3] [0]]).ct hΓ cI (iS az hm1) (ih1 (i1+1) (dn az) h)
theorem zk{aC:aD}{r:Bool}(h:qg aC=some r):Good prog 65 [D.agg (aD.c aC)] (D.bool r):=by
 refine gd func65 [[none]] 27 fun hr Γ hΓ=>?_
 rw[qg]at h;refine(aY.a [.cn [1,3] [0]]).lp hΓ (IQ hΓ (fun h=>?_) (by have:=(gq.sl (gq.agg (hr _ (aE (i:=0) rfl)) (.sl (aC.args.map tx)) (by simp))).1;simpa using this) aC.args 0 rfl h);obtain⟨Gp,h25,h⟩:=aB h;obtain⟨h26,h⟩|⟨h26,h⟩:=aM h
 ·cases h;exact((aY.g (nC h25)).r 5 h26).ret hΓ
 ·have h:=aN h;subst h;exact((aY.g (nC h25)).r 5 h26).ret hΓ
def jX(aC:aT)(k1:Option Bool):aT->Nat->Option Bool
 | [],i1=>(k1)
 |bU::cQ,i1=>((ga bU.var).bind fun KX=>(bif !(KX)then(some false)else((fS bU.value).bind fun y52=>(bif !(y52)then(some false)else(bif decide (((i1:Int):Int)>0)then((iP aC (IntKind.i64.wrap ((i1:Int)-1))).bind fun x56=>(bif !(Op.bytesLess x56.var bU.var)then(some false)else(jX aC k1 cQ (i1+1))))else(jX aC k1 cQ (i1+1)))))))
def ke(aC:aT):Option Bool:=(jX aC (some (decide ((((aC.map aX.c).length:Int):Int)<=6))) aC 0)
def G5(aC:aT)(dL:Int):St:=⟨[(0,D.sl (aC.map aX.c)),(3,D.int .i64 dL)],[]⟩
theorem EP(hΓ:Γ.nt=47){aC:aT}{r:Bool}{k1:Option Bool}(di:k1=some r->Ax Γ N f158 (.q [[none]] (D.bool r)) [1,1] ⟨[(0,D.sl (aC.map aX.c))],[]⟩)(hm1:aC.length<=maxLen):∀(rest:aT) (i1:Nat),aC.drop i1=rest->jX aC k1 rest i1=some r->Ar Γ N f158 (.q [[none]] (D.bool r)) [1,0,1,0] (rest.length+1) (G5 aC (i1:Int)):=by
 intro rest
 induction rest with
 |nil=>
  intro i1 az h;rw[jX]at h;refine aQ fun N1 cY cI=>?_
  exact((aY.ge aX.c az).a [.hl 0 [0] []]).ex hΓ cY (di h)
 |cons bU cQ ih1=>
  intro i1 az h;rw[jX]at h;refine aQ fun N1 cY cI=>?_
  obtain⟨KX,h50,h⟩:=aB h;have sX:=((((aY.lt aX.c az).a [.n 31]).l (bJ aX.c 2 (dc az) rfl)).g (fN h50))
  obtain⟨h51,h⟩|⟨h51,h⟩:=aM h
  ·have h:=aN h;subst h;exact((((sX.r 8 h51).T 3).a [bF,bF,bF,bF,bF,bF,bF,bF,bF,bF,bF,bF]).T 3).ret hΓ
  ·obtain⟨y52,h53,h⟩:=aB h;have vg:=(((((sX.r 3 h51).l (bJ aX.c 2 (dc az) rfl)).r 3 h51).g (ei h53)).r 2 h51)
   obtain⟨h54,h⟩|⟨h54,h⟩:=aM h
   ·have h:=aN h;subst h;exact((((vg.r 3 h54).a [bF,bF,bF,bF,bF,bF,bF,bF,bF,bF,bF,bF]).r 2 h54).T 1).ret hΓ
   ·have zB:=(vg.r 3 h54)
    obtain⟨h55,h⟩|⟨h55,h⟩:=aM h
    ·obtain⟨x56,h57,h⟩:=aB h;have Ez:=((((((((zB.r 4 h55).l (fO aX.c 2 h57 rfl)).r 5 h55).l (bJ aX.c 2 (dc az) rfl)).r 3 h55).b h54).b h55).b h54)
     obtain⟨h58,h⟩|⟨h58,h⟩:=aM h
     ·have h:=aN h;subst h;exact(Ez.b h58).ret hΓ
     ·exact((Ez.b h58).a [.cn [0,3] []]).ct hΓ cI (iS az hm1) (ih1 (i1+1) (dn az) h)
    ·exact((((((zB.r 12 h55).b h54).b h55).b h54).F 1).a [.cn [0,3] []]).ct hΓ cI (iS az hm1) (ih1 (i1+1) (dn az) h)
theorem mh{aC:aT}{r:Bool}(h:ke aC=some r):Good prog 158 [D.sl (aC.map aX.c)] (D.bool r):=by
 refine gd func158 [[none]] 47 fun hr Γ hΓ=>?_
 rw[ke]at h;refine(aY.a [.cn [0,3] []]).lp hΓ (EP hΓ (fun h=>?_) (by have:=(gq.sl (hr _ (aE (i:=0) rfl))).1;simpa using this) aC 0 rfl h);cases h;exact aY.ret hΓ
def qk(aC:aT):Option aT:=(bif room (([]:List aL).length+(aC.map aX.c).length) 32 then(some (([]:aT)++aC))else none)
theorem vK{aC:aT}{r:aT}(h:qk aC=some r):Good prog 159 [D.sl (aC.map aX.c)] (D.fr 113 2 (r.map aX.c)):=by
 refine gd func159 [[some (113,2)]] 6 fun hr Γ hΓ=>?_
 rw[qk]at h;obtain⟨h1,h⟩:=bR h;cases h;exact(((aY.w (bf h1)).w (show(∀r∈(aC.map aX.c),r.length=2)/\(true=true->D.jv (aC.map aX.c)=true)from⟨by first|simp| (intro r hr;obtain⟨x,_,rfl⟩:=cE.1 (bu (fJ hr));rfl),by simp[D.jv,D.flat]⟩)).a [.Kq 2,.fl true]).rts hΓ (D.fr 113 2 (([]:List aL)++(aC.map aX.c))) (by first|rfl| (simp only[mA]<;>rfl)| (simp only[bw,mA]<;>rfl))
def iL(aC:aT)(aa:Bytes)(k1:Option (Bytes×Bool)):aT->Nat->Option (Bytes×Bool)
 | [],i1=>(k1)
 |bU::cQ,i1=>(bif (bU.var:Bytes)==aa then((ga aa).bind fun FF=>(bif FF then(some (bU.value,true))else(iL aC aa k1 cQ (i1+1))))else(iL aC aa k1 cQ (i1+1)))
def pO(aC:aT)(aa:Bytes):Option (Bytes×Bool):=((fS aa).bind fun y1=>(bif y1 then(some (aa,true))else(iL aC aa (some ([],false)) aC 0)))
def IY(aC:aT)(aa:Bytes)(dL:Int):St:=⟨[(0,D.sl (aC.map aX.c)),(1,D.str aa),(6,D.int .i64 dL)],[]⟩
theorem HQ(hΓ:Γ.nt=32){aC:aT}{aa:Bytes}{r:Bytes×Bool}{k1:Option (Bytes×Bool)}(di:k1=some r->Ax Γ N f87 (.q [[none],[none]] (D.gL [D.str r.1,D.bool r.2])) [1,1,1] ⟨[],[]⟩)(hm1:aC.length<=maxLen):∀(rest:aT) (i1:Nat),aC.drop i1=rest->iL aC aa k1 rest i1=some r->Ar Γ N f87 (.q [[none],[none]] (D.gL [D.str r.1,D.bool r.2])) [1,1,0,1,0] (rest.length+1) (IY aC aa (i1:Int)):=by
 intro rest
 induction rest with
 |nil=>
  intro i1 az h;rw[iL]at h;refine aQ fun N1 cY cI=>?_
  exact((aY.ge aX.c az).a [.hl 0 [] []]).ex hΓ cY (di h)
 |cons bU cQ ih1=>
  intro i1 az h;rw[iL]at h;refine aQ fun N1 cY cI=>?_
  have je:=((aY.lt aX.c az).l (bJ aX.c 2 (dc az) rfl))
  obtain⟨h28,h⟩|⟨h28,h⟩:=aM h
  ·obtain⟨FF,h30,h⟩:=aB h;have jj:=(((je.r 2 h28).g (fN h30)).b h28)
   obtain⟨h31,h⟩|⟨h31,h⟩:=aM h
   ·cases h;exact((jj.b h31).l (bJ aX.c 2 (dc az) rfl)).ret hΓ
   ·exact((jj.b h31).a [.cn [0,1,6] []]).ct hΓ cI (iS az hm1) (ih1 (i1+1) (dn az) h)
  ·exact(((je.r 3 h28).F 1).a [.cn [0,1,6] []]).ct hΓ cI (iS az hm1) (ih1 (i1+1) (dn az) h)
theorem ua{aC:aT}{aa:Bytes}{r:Bytes×Bool}(h:pO aC aa=some r):Good prog 87 [D.sl (aC.map aX.c),D.str aa] (D.gL [D.str r.1,D.bool r.2]):=by
 refine gd func87 [[none],[none]] 32 fun hr Γ hΓ=>?_
 rw[pO]at h;obtain⟨y1,h2,h⟩:=aB h;obtain⟨h3,h⟩|⟨h3,h⟩:=aM h
 ·cases h;exact((aY.g (ei h2)).b h3).ret hΓ
 ·refine(((aY.g (ei h2)).b h3).a [.cn [0,1,6] []]).lp hΓ (HQ hΓ (fun h=>?_) (by have:=(gq.sl (hr _ (aE (i:=0) rfl))).1;simpa using this) aC 0 rfl h);cases h;exact aY.ret hΓ
def mR(aC:aT)(aa:Bytes)(cS:Bytes)(k1:Bool->aT->Option aT):aT->Nat->Bool->aT->Option aT
 | [],i1,FD,bP=>(k1 FD bP)
 |bU::cQ,i1,FD,bP=>(bif !(FD)then(bif !(Op.bytesLess bU.var aa||(bU.var:Bytes)==aa)then(bif room ((bP.map aX.c).length+([[D.str aa,D.str cS]]).length) 32 then(bif room (((bP.map aX.c)++([[D.str aa,D.str cS]])).length+([[D.str bU.var,D.str bU.value]]).length) 32 then(mR aC aa cS k1 cQ (i1+1) true ((bP++([(⟨aa,cS⟩:aX)]))++([bU])))else none)else none)else(bif room ((bP.map aX.c).length+([[D.str bU.var,D.str bU.value]]).length) 32 then(mR aC aa cS k1 cQ (i1+1) FD (bP++([bU])))else none))else(bif room ((bP.map aX.c).length+([[D.str bU.var,D.str bU.value]]).length) 32 then(mR aC aa cS k1 cQ (i1+1) FD (bP++([bU])))else none))
def wL(aC:aT)(aa:Bytes)(cS:Bytes):Option aT:=(mR aC aa cS (fun(Yw:Bool) (cH:aT)=>(bif !(Yw)then(bif room ((cH.map aX.c).length+([[D.str aa,D.str cS]]).length) 32 then(some (cH++([(⟨aa,cS⟩:aX)])))else none)else(some cH))) aC 0 false ([]:aT))
def vB(aC:aT)(aa:Bytes)(cS:Bytes)(FD:Bool)(W1:List aL)(dL:Int):St:=⟨[(0,D.sl (aC.map aX.c)),(1,D.str aa),(2,D.str cS),(7,D.acc 0),(8,D.bool FD),(9,D.int .i64 dL)],[Ob.row .uq 113 2 W1]⟩
theorem KF(hΓ:Γ.nt=50){aC:aT}{aa:Bytes}{cS:Bytes}{r:aT}{k1:Bool->aT->Option aT}(di:∀(Yw:Bool) (cH:aT),k1 Yw cH=some r->Ax Γ N f88 (.q [[some (113,2)]] (D.fr 113 2 (r.map aX.c))) [1,1,1,1] ⟨[(1,D.str aa),(2,D.str cS),(7,D.acc 0),(8,D.bool Yw)],[Ob.row .uq 113 2 (cH.map aX.c)]⟩)(hm1:aC.length<=maxLen):∀(rest:aT) (i1:Nat) (FD:Bool) (bP:aT),aC.drop i1=rest->mR aC aa cS k1 rest i1 FD bP=some r->Ar Γ N f88 (.q [[some (113,2)]] (D.fr 113 2 (r.map aX.c))) [1,1,1,0,1,0] (rest.length+1) (vB aC aa cS FD (bP.map aX.c) (i1:Int)):=by
 intro rest
 induction rest with
 |nil=>
  intro i1 FD bP az h;rw[mR]at h;refine aQ fun N1 cY cI=>?_
  exact((aY.ge aX.c az).a [.hl 0 [1,2,7,8] [0]]).ex hΓ cY (di FD bP h)
 |cons bU cQ ih1=>
  intro i1 FD bP az h;rw[mR]at h;refine aQ fun N1 cY cI=>?_
  obtain⟨h48,h⟩|⟨h48,h⟩:=aM h
  ·have fk:=((((aY.lt aX.c az).r 3 h48).l (bJ aX.c 2 (dc az) rfl)).r 5 h48)
   obtain⟨h49,h⟩|⟨h49,h⟩:=aM h
   ·obtain⟨h50,h⟩:=bR h;obtain⟨h51,h⟩:=bR h;exact(((((fk.b h49).w (bf h50)).l (bJ aX.c 2 (dc az) rfl)).w (bf h51)).a [.cn [0,1,2,7,8,9] [4]]).cs hΓ cI (vB aC aa cS true (((bP.map aX.c)++([[D.str aa,D.str cS]]))++([[D.str bU.var,D.str bU.value]])) (IntKind.i64.wrap ((i1:Int)+1))) (by first| (simp only[iS az hm1,mA]<;>rfl)| (simp only[iS az hm1,mA,aD.c,aX.c,aO.c,Action.c,aK.c,aU.c,dW.c,aZ.c,Node.c,aH.c,dh.c]<;>rfl)) (ih1 (i1+1) true ((bP++([(⟨aa,cS⟩:aX)]))++([bU])) (dn az) h)
   ·obtain⟨h52,h⟩:=bR h;exact((((fk.b h49).l (bJ aX.c 2 (dc az) rfl)).w (bf h52)).a [.cn [0,1,2,7,8,9] [2]]).cs hΓ cI (vB aC aa cS FD ((bP.map aX.c)++([[D.str bU.var,D.str bU.value]])) (IntKind.i64.wrap ((i1:Int)+1))) (by first| (simp only[iS az hm1,mA]<;>rfl)| (simp only[iS az hm1,mA,aD.c,aX.c,aO.c,Action.c,aK.c,aU.c,dW.c,aZ.c,Node.c,aH.c,dh.c]<;>rfl)) (ih1 (i1+1) FD (bP++([bU])) (dn az) h)
  ·obtain⟨h53,h⟩:=bR h;exact((((((aY.lt aX.c az).r 8 h48).F 1).l (bJ aX.c 2 (dc az) rfl)).w (bf h53)).a [.cn [0,1,2,7,8,9] [2]]).cs hΓ cI (vB aC aa cS FD ((bP.map aX.c)++([[D.str bU.var,D.str bU.value]])) (IntKind.i64.wrap ((i1:Int)+1))) (by first| (simp only[iS az hm1,mA]<;>rfl)| (simp only[iS az hm1,mA,aD.c,aX.c,aO.c,Action.c,aK.c,aU.c,dW.c,aZ.c,Node.c,aH.c,dh.c]<;>rfl)) (ih1 (i1+1) FD (bP++([bU])) (dn az) h)
theorem Ih{aC:aT}{aa:Bytes}{cS:Bytes}{r:aT}(h:wL aC aa cS=some r):Good prog 88 [D.sl (aC.map aX.c),D.str aa,D.str cS] (D.fr 113 2 (r.map aX.c)):=by
 refine gd func88 [[some (113,2)]] 50 fun hr Γ hΓ=>?_
 rw[wL]at h;refine(aY.a [.cn [0,1,2,7,8,9] [0]]).lp hΓ (KF hΓ (fun Yw cH h=>?_) (by have:=(gq.sl (hr _ (aE (i:=0) rfl))).1;simpa using this) aC 0 false ([]:aT) rfl h);obtain⟨h54,h⟩|⟨h54,h⟩:=aM h
 ·obtain⟨h55,h⟩:=bR h;cases h;exact((aY.b h54).w (bf h55)).rts hΓ (D.fr 113 2 ((cH.map aX.c)++([[D.str aa,D.str cS]]))) (by first|rfl| (simp only[mA]<;>rfl)| (simp only[bw,mA]<;>rfl))
 ·have h:=aN h;subst h;exact(aY.b h54).ret hΓ
def si(aC:aT)(aa:Bytes)(cS:Bytes):Option (aT×Bool):=((ke aC).bind fun y1=>(bif !(y1)then(some (([]:aT),false))else((ga aa).bind fun y4=>(bif !(y4)then(some (([]:aT),false))else((fS cS).bind fun y7=>(bif !(y7)then(some (([]:aT),false))else((pO aC aa).bind fun Dh=>(bif Dh.2 then(bif (Dh.1:Bytes)==cS then((qk aC).bind fun AK=>(some (AK,true)))else(some (([]:aT),false)))else(bif (((aC.map aX.c).length:Int):Int)==6 then(some (([]:aT),false))else((wL aC aa cS).bind fun Sl=>(some (Sl,true))))))))))))
theorem HI{aC:aT}{aa:Bytes}{cS:Bytes}{r:aT×Bool}(h:si aC aa cS=some r):Good prog 160 [D.sl (aC.map aX.c),D.str aa,D.str cS] (D.gL [D.fr 113 2 (r.1.map aX.c),D.bool r.2]):=by
 refine gd func160 [[some (113,2)],[none]] 49 fun hr Γ hΓ=>?_
 rw[si]at h;obtain⟨y1,h2,h⟩:=aB h;obtain⟨h3,h⟩|⟨h3,h⟩:=aM h
 ·cases h;exact(((aY.g (mh h2)).r 4 h3).T 5).ret hΓ
 ·obtain⟨y4,h5,h⟩:=aB h;have nP:=((((aY.g (mh h2)).r 2 h3).g (fN h5)).r 2 h3)
  obtain⟨h6,h⟩|⟨h6,h⟩:=aM h
  ·cases h;exact((nP.r 4 h6).T 1).ret hΓ
  ·obtain⟨y7,h8,h⟩:=aB h;have fk:=(((nP.r 2 h6).g (ei h8)).r 2 h6)
   obtain⟨h9,h⟩|⟨h9,h⟩:=aM h
   ·cases h;exact(fk.b h9).ret hΓ
   ·obtain⟨Dh,h11,h⟩:=aB h;have je:=((fk.b h9).g (ua h11))
    obtain⟨h12,h⟩|⟨h12,h⟩:=aM h
    ·have jj:=(je.r 4 h12)
     obtain⟨h13,h⟩|⟨h13,h⟩:=aM h
     ·obtain⟨AK,h15,h⟩:=aB h;cases h;exact((jj.b h13).g (vK h15)).ret hΓ
     ·cases h;exact(((jj.b h13).r 4 h12).T 1).ret hΓ
    ·have sX:=(((je.r 4 h12).F 1).r 4 h12)
     obtain⟨h16,h⟩|⟨h16,h⟩:=aM h
     ·cases h;exact(sX.b h16).ret hΓ
     ·obtain⟨Sl,h18,h⟩:=aB h;cases h;exact((sX.b h16).g (Ih h18)).ret hΓ
def ja(aC:aD)(aa:aD)(k1:aT->Option (aT×Bool)):aG->Nat->aT->Option (aT×Bool)
 | [],i1,iO=>(k1 iO)
 |bU::cQ,i1,iO=>((fS bU).bind fun ZD=>(bif ZD then((iP aa.args (i1:Int)).bind fun x83=>(bif !((bU:Bytes)==x83)then(some (([]:aT),false))else(ja aC aa k1 cQ (i1+1) iO)))else((iP aa.args (i1:Int)).bind fun x86=>((si iO bU x86).bind fun y88=>(bif !(y88.2)then(some (([]:aT),false))else(ja aC aa k1 cQ (i1+1) y88.1))))))
def kj(aC:aD)(aa:aD)(cS:aT):Option (aT×Bool):=((gy aC).bind fun y1=>(bif !(y1)then(some (([]:aT),false))else((qg aa).bind fun y4=>(bif !(y4)then(some (([]:aT),false))else((ke cS).bind fun y7=>(bif !(y7)then(some (([]:aT),false))else(bif !((aC.rel:Bytes)==aa.rel)then(some (([]:aT),false))else(bif (((aC.args.map tx).length:Int):Int) != ((aa.args.map tx).length:Int)then(some (([]:aT),false))else((qk cS).bind fun Pj=>(ja aC aa (fun(cH:aT)=>(some (cH,true))) aC.args 0 Pj))))))))))
def G9(aC:aD)(aa:aD)(W0:List aL)(dL:Int):St:=⟨[(3,D.ptr 0 0),(4,D.ptr 1 0),(8,D.acc 2),(9,D.int .i64 dL)],[Ob.box (aD.c aC),Ob.box (aD.c aa),Ob.row .uq 113 2 W0]⟩
theorem ET(hΓ:Γ.nt=89){aC:aD}{aa:aD}{r:aT×Bool}{k1:aT->Option (aT×Bool)}(di:∀(cH:aT),k1 cH=some r->Ax Γ N f96 (.q [[some (113,2)],[none]] (D.gL [D.fr 113 2 (r.1.map aX.c),D.bool r.2])) [1,1,1,1] ⟨[(8,D.acc 0)],[Ob.row .uq 113 2 (cH.map aX.c)]⟩)(hm1:aC.args.length<=maxLen):∀(rest:aG) (i1:Nat) (iO:aT),aC.args.drop i1=rest->ja aC aa k1 rest i1 iO=some r->Ar Γ N f96 (.q [[some (113,2)],[none]] (D.gL [D.fr 113 2 (r.1.map aX.c),D.bool r.2])) [1,1,1,0,1,0] (rest.length+1) (G9 aC aa (iO.map aX.c) (i1:Int)):=by
 intro rest
 induction rest with
 |nil=>
  intro i1 iO az h;rw[ja]at h;refine aQ fun N1 cY cI=>?_
  exact((aY.ge tx az).a [.hl 0 [8] [2]]).ex hΓ cY (di iO h)
 |cons bU cQ ih1=>
  intro i1 iO az h;rw[ja]at h;refine aQ fun N1 cY cI=>?_
  obtain⟨ZD,h81,h⟩:=aB h;have jj:=(((aY.lt tx az).l (bJ tx 1 (dc az) rfl)).g (ei h81))
  obtain⟨h82,h⟩|⟨h82,h⟩:=aM h
  ·obtain⟨x83,h84,h⟩:=aB h;have sX:=((((jj.b h82).a [.n 10]).l (bJ tx 1 (dc az) rfl)).l (fO tx 1 h84 rfl))
   obtain⟨h85,h⟩|⟨h85,h⟩:=aM h
   ·cases h;exact(sX.b h85).ret hΓ
   ·exact((sX.b h85).a [.cn [3,4,8,9] [0,1,2]]).ct hΓ cI (iS az hm1) (ih1 (i1+1) iO (dn az) h)
  ·obtain⟨x86,h87,h⟩:=aB h;obtain⟨y88,h89,h⟩:=aB h;have vg:=(((((jj.b h82).a [.n 16]).l (bJ tx 1 (dc az) rfl)).l (fO tx 1 h87 rfl)).g (HI h89))
   obtain⟨h90,h⟩|⟨h90,h⟩:=aM h
   ·cases h;exact(vg.b h90).ret hΓ
   ·exact((vg.b h90).a [.cn [3,4,8,9] [0,1,3]]).ct hΓ cI (iS az hm1) (ih1 (i1+1) y88.1 (dn az) h)
theorem wz{aC:aD}{aa:aD}{cS:aT}{r:aT×Bool}(h:kj aC aa cS=some r):Good prog 96 [D.agg (aD.c aC),D.agg (aD.c aa),D.sl (cS.map aX.c)] (D.gL [D.fr 113 2 (r.1.map aX.c),D.bool r.2]):=by
 refine gd func96 [[some (113,2)],[none]] 89 fun hr Γ hΓ=>?_
 rw[kj]at h;obtain⟨y1,h2,h⟩:=aB h;obtain⟨h3,h⟩|⟨h3,h⟩:=aM h
 ·cases h;exact(((aY.g (ez h2)).r 4 h3).T 19).ret hΓ
 ·obtain⟨y4,h5,h⟩:=aB h;have zB:=((((aY.g (ez h2)).r 2 h3).g (zk h5)).r 2 h3)
  obtain⟨h6,h⟩|⟨h6,h⟩:=aM h
  ·cases h;exact((zB.r 4 h6).T 15).ret hΓ
  ·obtain⟨y7,h8,h⟩:=aB h;have Ez:=(((zB.r 2 h6).g (mh h8)).r 2 h6)
   obtain⟨h9,h⟩|⟨h9,h⟩:=aM h
   ·cases h;exact((Ez.r 6 h9).T 9).ret hΓ
   ·have Kn:=(Ez.r 6 h9)
    obtain⟨h10,h⟩|⟨h10,h⟩:=aM h
    ·cases h;exact((Kn.r 8 h10).T 1).ret hΓ
    ·have Bk:=(Kn.r 8 h10)
     obtain⟨h11,h⟩|⟨h11,h⟩:=aM h
     ·cases h;exact(Bk.b h11).ret hΓ
     ·obtain⟨Pj,h13,h⟩:=aB h;refine(((Bk.b h11).g (vK h13)).a [.cn [3,4,8,9] [0,1,2]]).lp hΓ (ET hΓ (fun cH h=>?_) (by have:=(gq.sl (gq.agg (hr _ (aE (i:=0) rfl)) (.sl (aC.args.map tx)) (by simp))).1;simpa using this) aC.args 0 Pj rfl h);cases h;exact aY.ret hΓ
def gC(aC:aD)(aa:aT)(cS:aJ)(k1:aJ->Option aJ):aJ->Nat->aJ->Option aJ
 | [],i1,bV=>(k1 bV)
 |bU::cQ,i1,bV=>((kj aC bU aa).bind fun Yu=>(bif Yu.2 then((eR bU).bind fun Gr=>(bif room ((bV.map aD.c).length+([[D.str Gr.rel,D.sl (Gr.args.map tx)]]).length) 40 then(gC aC aa cS k1 cQ (i1+1) (bV++([Gr])))else none))else(gC aC aa cS k1 cQ (i1+1) bV)))
def gQ(aC:aD)(aa:aT)(cS:aJ):Option aJ:=(gC aC aa cS (fun(cH:aJ)=>(some cH)) cS 0 ([]:aJ))
def vb(aC:aD)(aa:aT)(cS:aJ)(W0:List aL)(dL:Int):St:=⟨[(1,D.sl (aa.map aX.c)),(2,D.sl (cS.map aD.c)),(3,D.ptr 0 0),(7,D.acc 1),(8,D.int .i64 dL)],[Ob.box (aD.c aC),Ob.row .uq 43 2 W0]⟩
theorem Aq(hΓ:Γ.nt=38){aC:aD}{aa:aT}{cS:aJ}{r:aJ}{k1:aJ->Option aJ}(di:∀(cH:aJ),k1 cH=some r->Ax Γ N f44 (.q [[some (43,2)]] (D.fr 43 2 (r.map aD.c))) [1,1,1] ⟨[(7,D.acc 0)],[Ob.row .uq 43 2 (cH.map aD.c)]⟩)(hm1:cS.length<=maxLen):∀(rest:aJ) (i1:Nat) (bV:aJ),cS.drop i1=rest->gC aC aa cS k1 rest i1 bV=some r->Ar Γ N f44 (.q [[some (43,2)]] (D.fr 43 2 (r.map aD.c))) [1,1,0,1,0] (rest.length+1) (vb aC aa cS (bV.map aD.c) (i1:Int)):=by
 intro rest
 induction rest with
 |nil=>
  intro i1 bV az h;rw[gC]at h;refine aQ fun N1 cY cI=>?_
  exact((aY.ge aD.c az).a [.hl 0 [7] [1]]).ex hΓ cY (di bV h)
 |cons bU cQ ih1=>
  intro i1 bV az h;rw[gC]at h;refine aQ fun N1 cY cI=>?_
  obtain⟨Yu,h43,h⟩:=aB h;have fk:=((((aY.lt aD.c az).a [.n 11]).l (bJ aD.c 2 (dc az) rfl)).g (wz h43))
  obtain⟨h44,h⟩|⟨h44,h⟩:=aM h
  ·obtain⟨Gr,h46,h⟩:=aB h;obtain⟨h47,h⟩:=bR h;exact(((((fk.b h44).l (bJ aD.c 2 (dc az) rfl)).g (gi h46)).w (bf h47)).a [.cn [1,2,3,7,8] [0,5]]).cs hΓ cI (vb aC aa cS ((bV.map aD.c)++([[D.str Gr.rel,D.sl (Gr.args.map tx)]])) (IntKind.i64.wrap ((i1:Int)+1))) (by first| (simp only[iS az hm1,mA]<;>rfl)| (simp only[iS az hm1,mA,aD.c,aX.c,aO.c,Action.c,aK.c,aU.c,dW.c,aZ.c,Node.c,aH.c,dh.c]<;>rfl)) (ih1 (i1+1) (bV++([Gr])) (dn az) h)
  ·exact((fk.b h44).a [.cn [1,2,3,7,8] [0,1]]).ct hΓ cI (iS az hm1) (ih1 (i1+1) bV (dn az) h)
theorem gS{aC:aD}{aa:aT}{cS:aJ}{r:aJ}(h:gQ aC aa cS=some r):Good prog 44 [D.agg (aD.c aC),D.sl (aa.map aX.c),D.sl (cS.map aD.c)] (D.fr 43 2 (r.map aD.c)):=by
 refine gd func44 [[some (43,2)]] 38 fun hr Γ hΓ=>?_
 rw[gQ]at h;refine(aY.a [.cn [1,2,3,7,8] [0,1]]).lp hΓ (Aq hΓ (fun cH h=>?_) (by have:=(gq.sl (hr _ (aE (i:=2) rfl))).1;simpa using this) cS 0 ([]:aJ) rfl h);have h:=aN h;subst h;exact aY.ret hΓ
def jJ(aC:aH)(k1:ai->Option ai):Nat->Int->ai->Option ai
 |0,_,_=>none
 |n1+1,vr,bV=>((kq vr 1 (IntKind.i64.wrap (((aC.nodes.map Node.c).length:Int)-1))).bind fun AI=>(bif AI then((iP aC.nodes vr).bind fun x31=>((ju x31.cond).bind fun tQ=>(bif room (([[D.int .i64 tQ.kind,D.str tQ.pat.rel,D.sl (tQ.pat.args.map tx),D.str tQ.left,D.str tQ.right]]).length+(bV.map aO.c).length) 80 then(bif decide ((x31.parent:Int)>=vr)then(k1 (([tQ])++bV))else(jJ aC k1 n1 x31.parent (([tQ])++bV)))else none)))else(k1 bV)))
def sj(aC:aH)(aa:Int):Option ai:=(jJ aC (fun(cH:ai)=>(some cH)) fuel aa ([]:ai))
def BR(aC:aH)(vr:Int)(W1:List aL):St:=⟨[(1,D.int .i64 vr),(2,D.ptr 0 0),(5,D.acc 1)],[Ob.box (aH.c aC),Ob.row .uq 71 5 W1]⟩
theorem IW(hΓ:Γ.nt=35){aC:aH}{r:ai}{k1:ai->Option ai}(di:∀(cH:ai),k1 cH=some r->Ax Γ N f47 (.q [[some (71,5)]] (D.fr 71 5 (r.map aO.c))) [1,1,1] ⟨[(5,D.acc 0)],[Ob.row .uq 71 5 (cH.map aO.c)]⟩):∀(n1:Nat) (vr:Int) (bV:ai),jJ aC k1 n1 vr bV=some r->Ar Γ N f47 (.q [[some (71,5)]] (D.fr 71 5 (r.map aO.c))) [1,1,0,0] n1 (BR aC vr (bV.map aO.c)):=by
 intro n
 induction n with
 |zero=>intro vr bV h;simp[jJ]at h
 |succ n1 ih1=>
  intro vr bV h;rw[jJ]at h;refine aQ fun N1 cY cI=>?_
  obtain⟨AI,h29,h⟩:=aB h;obtain⟨h30,h⟩|⟨h30,h⟩:=aM h
  ·obtain⟨x31,h32,h⟩:=aB h;obtain⟨tQ,h34,h⟩:=aB h;obtain⟨h35,h⟩:=bR h;have fk:=((((((aY.g (gE h29)).b h30).l (fO Node.c 8 h32 rfl)).g (s6 h34)).w (bf h35)).l (fO Node.c 8 h32 rfl))
   obtain⟨h36,h⟩|⟨h36,h⟩:=aM h
   ·exact((fk.b h36).a [.hl 0 [5] [4]]).exs hΓ cY ⟨[(5,D.acc 0)],[Ob.row .uq 71 5 (([[D.int .i64 tQ.kind,D.str tQ.pat.rel,D.sl (tQ.pat.args.map tx),D.str tQ.left,D.str tQ.right]])++(bV.map aO.c))]⟩ (by first| (simp only[mA]<;>rfl)| (simp only[mA,aD.c,aX.c,aO.c,Action.c,aK.c,aU.c,dW.c,aZ.c,Node.c,aH.c,dh.c]<;>rfl)) (di (([tQ])++bV) h)
   ·exact((fk.b h36).a [.cn [1,2,5] [0,4]]).cs hΓ cI (BR aC x31.parent (([[D.int .i64 tQ.kind,D.str tQ.pat.rel,D.sl (tQ.pat.args.map tx),D.str tQ.left,D.str tQ.right]])++(bV.map aO.c))) (by first| (simp only[mA]<;>rfl)| (simp only[mA,aD.c,aX.c,aO.c,Action.c,aK.c,aU.c,dW.c,aZ.c,Node.c,aH.c,dh.c]<;>rfl)) (ih1 x31.parent (([tQ])++bV) h)
  ·exact(((aY.g (gE h29)).b h30).a [.hl 0 [5] [1]]).ex hΓ cY (di bV h)
theorem ru{aC:aH}{aa:Int}{r:ai}(h:sj aC aa=some r):Good prog 47 [D.agg (aH.c aC),D.int .i64 aa] (D.fr 71 5 (r.map aO.c)):=by
 refine gd func47 [[some (71,5)]] 35 fun hr Γ hΓ=>?_
 rw[sj]at h;refine(aY.a [.cn [1,2,5] [0,1]]).lp hΓ (IW hΓ (fun cH h=>?_) fuel aa ([]:ai) h);have h:=aN h;subst h;exact aY.ret hΓ
def sR(aC:Bytes):Option Bool:=((mQ aC).bind fun y1=>(some y1.2))
theorem xk{aC:Bytes}{r:Bool}(h:sR aC=some r):Good prog 226 [D.str aC] (D.bool r):=by
 refine gd func226 [[none]] 11 fun hr Γ hΓ=>?_
 rw[sR]at h;obtain⟨y1,h2,h⟩:=aB h;cases h;exact(aY.g (qM h2)).ret hΓ
def rO(aC:aO)(aa:aT):Option Bool:=((qi aC).bind fun y1=>(bif !(y1)then(some false)else((ke aa).bind fun y4=>(bif !(y4)then(some false)else((pO aa aC.left).bind fun y7=>((pO aa aC.right).bind fun y9=>(bif !(y7.2)then(some false)else(bif !(y9.2)then(some false)else(bif (aC.kind:Int)==3 then(some ((y7.1:Bytes)==y9.1))else(bif (aC.kind:Int)==4 then(some (!((y7.1:Bytes)==y9.1)))else((sR y7.1).bind fun Hw=>(bif Hw then((sR y9.1).bind fun U2=>(bif U2 then((jV y7.1 y9.1).bind fun NL=>(some (decide ((NL:Int)<0))))else(some false)))else(some false)))))))))))))
theorem DN{aC:aO}{aa:aT}{r:Bool}(h:rO aC aa=some r):Good prog 206 [D.agg (aO.c aC),D.sl (aa.map aX.c)] (D.bool r):=by
 refine gd func206 [[none]] 61 fun hr Γ hΓ=>?_
 rw[rO]at h;obtain⟨y1,h2,h⟩:=aB h;obtain⟨h3,h⟩|⟨h3,h⟩:=aM h
 ·have h:=aN h;subst h;exact(((aY.g (rq h2)).r 4 h3).T 1).ret hΓ
 ·obtain⟨y4,h5,h⟩:=aB h;have nP:=((((aY.g (rq h2)).r 2 h3).g (mh h5)).r 2 h3)
  obtain⟨h6,h⟩|⟨h6,h⟩:=aM h
  ·have h:=aN h;subst h;exact(nP.b h6).ret hΓ
  ·obtain⟨y7,h8,h⟩:=aB h;obtain⟨y9,h10,h⟩:=aB h;have fk:=(((nP.b h6).g (ua h8)).g (ua h10))
   obtain⟨h11,h⟩|⟨h11,h⟩:=aM h
   ·have h:=aN h;subst h;exact((fk.r 3 h11).T 1).ret hΓ
   ·have je:=(fk.r 3 h11)
    obtain⟨h12,h⟩|⟨h12,h⟩:=aM h
    ·have h:=aN h;subst h;exact(je.b h12).ret hΓ
    ·obtain⟨h13,h⟩|⟨h13,h⟩:=aM h
     ·cases h;exact((je.b h12).b h13).ret hΓ
     ·have jj:=((je.b h12).b h13)
      obtain⟨h14,h⟩|⟨h14,h⟩:=aM h
      ·cases h;exact(jj.b h14).ret hΓ
      ·obtain⟨Hw,h16,h⟩:=aB h;have sX:=((jj.b h14).g (xk h16))
       obtain⟨h17,h⟩|⟨h17,h⟩:=aM h
       ·obtain⟨U2,h19,h⟩:=aB h;have vg:=(((sX.r 2 h17).g (xk h19)).b h17)
        obtain⟨h20,h⟩|⟨h20,h⟩:=aM h
        ·obtain⟨NL,h22,h⟩:=aB h;cases h;exact(((vg.r 3 h20).g (uo h22)).r 2 h20).ret hΓ
        ·have h:=aN h;subst h;exact(vg.r 5 h20).ret hΓ
       ·have h:=aN h;subst h;exact((sX.r 3 h17).F 5).ret hΓ
def rN(aC:aO)(aa:aT)(cS:aJ):Option Bool:=((om aC).bind fun y1=>(bif !(y1)then(some false)else((ke aa).bind fun y4=>(bif !(y4)then(some false)else(bif (aC.kind:Int)==1 then((gQ aC.pat aa cS).bind fun y8=>(some (decide ((((y8.map aD.c).length:Int):Int)>0))))else(bif (aC.kind:Int)==2 then((gQ aC.pat aa cS).bind fun B9=>(some ((((B9.map aD.c).length:Int):Int)==0)))else((rO aC aa).bind fun vD=>(some vD))))))))
theorem DM{aC:aO}{aa:aT}{cS:aJ}{r:Bool}(h:rN aC aa cS=some r):Good prog 161 [D.agg (aO.c aC),D.sl (aa.map aX.c),D.sl (cS.map aD.c)] (D.bool r):=by
 refine gd func161 [[none]] 38 fun hr Γ hΓ=>?_
 rw[rN]at h;obtain⟨y1,h2,h⟩:=aB h;obtain⟨h3,h⟩|⟨h3,h⟩:=aM h
 ·have h:=aN h;subst h;exact(((aY.g (ia h2)).r 4 h3).T 1).ret hΓ
 ·obtain⟨y4,h5,h⟩:=aB h;have nP:=((((aY.g (ia h2)).r 2 h3).g (mh h5)).r 2 h3)
  obtain⟨h6,h⟩|⟨h6,h⟩:=aM h
  ·have h:=aN h;subst h;exact(nP.b h6).ret hΓ
  ·obtain⟨h7,h⟩|⟨h7,h⟩:=aM h
   ·obtain⟨y8,h9,h⟩:=aB h;cases h;exact(((nP.b h6).b h7).g (gS h9)).ret hΓ
   ·have fk:=((nP.b h6).b h7)
    obtain⟨h10,h⟩|⟨h10,h⟩:=aM h
    ·obtain⟨B9,h12,h⟩:=aB h;cases h;exact((fk.b h10).g (gS h12)).ret hΓ
    ·obtain⟨vD,h14,h⟩:=aB h;have h:=aN h;subst h;exact((fk.b h10).g (DN h14)).ret hΓ
def qm(aC:aU):Option aU:=((fo aC.facts).bind fun y1=>((qk aC.bind).bind fun y3=>(some (⟨y1,y3⟩:aU))))
theorem HY{aC:aU}{r:aU}(h:qm aC=some r):Good prog 162 [D.agg (aU.c aC)] (D.agg [D.fr 43 2 (r.facts.map aD.c),D.fr 113 2 (r.bind.map aX.c)]):=by
 refine gd func162 [[some (43,2),some (113,2)]] 10 fun hr Γ hΓ=>?_
 rw[qm]at h;obtain⟨y1,h2,h⟩:=aB h;obtain⟨y3,h4,h⟩:=aB h;cases h;exact(((aY.a [.n 5]).g (tj h2)).g (vK h4)).ret hΓ
def nN(aC:ay)(aa:aO)(cS:aJ)(i1:Nat)(bU:aU)(k2:ay->Option ay):aJ->Nat->ay->Option ay
 | [],i2,jy=>(k2 jy)
 |lq::tR,i2,jy=>((kj aa.pat lq bU.bind).bind fun VF=>(bif VF.2 then((fo bU.facts).bind fun VG=>((eR lq).bind fun Pe=>(bif room ((VG.map aD.c).length+([[D.str Pe.rel,D.sl (Pe.args.map tx)]]).length) 40 then(bif room ((jy.map aU.c).length+([[D.sl ((VG.map aD.c)++([[D.str Pe.rel,D.sl (Pe.args.map tx)]])),D.sl (VF.1.map aX.c)]]).length) 48 then(nN aC aa cS i1 bU k2 tR (i2+1) (jy++([(⟨VG++([Pe]),VF.1⟩:aU)])))else none)else none)))else(nN aC aa cS i1 bU k2 tR (i2+1) jy)))
def hG(aC:ay)(aa:aO)(cS:aJ)(k1:ay->Option ay):ay->Nat->ay->Option ay
 | [],i1,bV=>(k1 bV)
 |bU::cQ,i1,bV=>(bif (aa.kind:Int) != 1 then((rN aa bU.bind cS).bind fun a7G=>(bif a7G then((qm bU).bind fun Sm=>(bif room ((bV.map aU.c).length+([[D.sl (Sm.facts.map aD.c),D.sl (Sm.bind.map aX.c)]]).length) 48 then(hG aC aa cS k1 cQ (i1+1) (bV++([Sm])))else none))else(hG aC aa cS k1 cQ (i1+1) bV)))else(bif decide (cS.length<=maxLen)then(nN aC aa cS i1 bU (fun(wS:ay)=>(hG aC aa cS k1 cQ (i1+1) wS)) cS 0 bV)else none))
def ux(aC:ay)(aa:aO)(cS:aJ):Option ay:=(hG aC aa cS (fun(cH:ay)=>(some cH)) aC 0 ([]:ay))
def BW(aC:ay)(aa:aO)(cS:aJ)(W0:List aL)(dL:Int):St:=⟨[(0,D.sl (aC.map aU.c)),(2,D.sl (cS.map aD.c)),(4,D.ptr 0 0),(7,D.acc 1),(8,D.int .i64 dL)],[Ob.box (aO.c aa),Ob.row .uq 77 2 W0]⟩
def BX(aC:ay)(aa:aO)(cS:aJ)(i1:Nat)(W0:List aL)(dL:Int):St:=⟨[(0,D.sl (aC.map aU.c)),(2,D.sl (cS.map aD.c)),(4,D.ptr 0 0),(7,D.acc 1),(8,D.int .i64 (i1:Int)),(9,D.int .i64 dL)],[Ob.box (aO.c aa),Ob.row .uq 77 2 W0]⟩
theorem Ip(hΓ:Γ.nt=79){aC:ay}{aa:aO}{cS:aJ}{i1:Nat}{bU:aU}{r:ay}{k2:ay->Option ay}(AJ:∀(wS:ay),k2 wS=some r->Ax Γ N f98 (.q [[some (77,2)]] (D.fr 77 2 (r.map aU.c))) [1,1,0,1,0,0,1,1] ⟨[(0,D.sl (aC.map aU.c)),(2,D.sl (cS.map aD.c)),(4,D.ptr 0 0),(7,D.acc 1),(8,D.int .i64 (i1:Int))],[Ob.box (aO.c aa),Ob.row .uq 77 2 (wS.map aU.c)]⟩)(hx1:(aC)[i1]?=some bU)(hm2:cS.length<=maxLen):∀(rest:aJ) (i2:Nat) (jy:ay),cS.drop i2=rest->nN aC aa cS i1 bU k2 rest i2 jy=some r->Ar Γ N f98 (.q [[some (77,2)]] (D.fr 77 2 (r.map aU.c))) [1,1,0,1,0,0,1,0,0,1,1,0] (rest.length+1) (BX aC aa cS i1 (jy.map aU.c) (i2:Int)):=by
 intro rest
 induction rest with
 |nil=>
  intro i2 jy hd2 h;rw[nN]at h;refine aQ fun N2 ue sB=>?_
  exact((aY.ge aD.c hd2).a [.hl 3 [0,2,4,7,8] [0,1]]).ex hΓ ue (AJ jy h)
 |cons lq tR ih2=>
  intro i2 jy hd2 h;rw[nN]at h;refine aQ fun N2 ue sB=>?_
  obtain⟨VF,h652,h⟩:=aB h;have JL:=(((((aY.lt aD.c hd2).a [.n 16]).l (bJ aD.c 2 (dc hd2) rfl)).l (bJ aU.c 2 hx1 rfl)).g (wz h652))
  obtain⟨h653,h⟩|⟨h653,h⟩:=aM h
  ·obtain⟨VG,h660,h⟩:=aB h;obtain⟨Pe,h662,h⟩:=aB h;obtain⟨h663,h⟩:=bR h;obtain⟨h664,h⟩:=bR h;exact(((((((((JL.b h653).a [.n2 [0,1,2,3,4,5,6,7,8,9,10,11,14,12,13,15,16,17,18] [0,1,2,3,4,5,6,7,8,9,10,11,13,14,12,15,16,17,18] 13 17 [0,12] [2,3,4,5,6]]).l (bJ aU.c 2 hx1 rfl)).g (tj h660)).l (bJ aD.c 2 (dc hd2) rfl)).g (gi h662)).w (bf h663)).w (bf h664)).a [.cn [0,2,4,7,8,9] [0,8]]).cs hΓ sB (BX aC aa cS i1 ((jy.map aU.c)++([[D.sl ((VG.map aD.c)++([[D.str Pe.rel,D.sl (Pe.args.map tx)]])),D.sl (VF.1.map aX.c)]])) (IntKind.i64.wrap ((i2:Int)+1))) (by first| (simp only[iS hd2 hm2,mA]<;>rfl)| (simp only[iS hd2 hm2,mA,aD.c,aX.c,aO.c,Action.c,aK.c,aU.c,dW.c,aZ.c,Node.c,aH.c,dh.c]<;>rfl)) (ih2 (i2+1) (jy++([(⟨VG++([Pe]),VF.1⟩:aU)])) (dn hd2) h)
  ·exact((JL.b h653).a [.cn [0,2,4,7,8,9] [0,1]]).ct hΓ sB (iS hd2 hm2) (ih2 (i2+1) jy (dn hd2) h)
theorem Io(hΓ:Γ.nt=79){aC:ay}{aa:aO}{cS:aJ}{r:ay}{k1:ay->Option ay}(di:∀(cH:ay),k1 cH=some r->Ax Γ N f98 (.q [[some (77,2)]] (D.fr 77 2 (r.map aU.c))) [1,1,1] ⟨[(7,D.acc 0)],[Ob.row .uq 77 2 (cH.map aU.c)]⟩)(hm1:aC.length<=maxLen):∀(rest:ay) (i1:Nat) (bV:ay),aC.drop i1=rest->hG aC aa cS k1 rest i1 bV=some r->Ar Γ N f98 (.q [[some (77,2)]] (D.fr 77 2 (r.map aU.c))) [1,1,0,1,0] (rest.length+1) (BW aC aa cS (bV.map aU.c) (i1:Int)):=by
 intro rest
 induction rest with
 |nil=>
  intro i1 bV az h;rw[hG]at h;refine aQ fun N1 cY cI=>?_
  exact((aY.ge aU.c az).a [.hl 0 [7] [1]]).ex hΓ cY (di bV h)
 |cons bU cQ ih1=>
  intro i1 bV az h;rw[hG]at h;refine aQ fun N1 cY cI=>?_
  obtain⟨h563,h⟩|⟨h563,h⟩:=aM h
  ·obtain⟨a7G,h565,h⟩:=aB h;have JM:=(((((aY.lt aU.c az).b h563).a [.n 7]).l (bJ aU.c 2 (dc az) rfl)).g (DM h565))
   obtain⟨h566,h⟩|⟨h566,h⟩:=aM h
   ·obtain⟨Sm,h568,h⟩:=aB h;obtain⟨h569,h⟩:=bR h;exact(((((JM.b h566).l (bJ aU.c 2 (dc az) rfl)).g (HY h568)).w (bf h569)).a [.cn [0,2,4,7,8] [0,5]]).cs hΓ cI (BW aC aa cS ((bV.map aU.c)++([[D.sl (Sm.facts.map aD.c),D.sl (Sm.bind.map aX.c)]])) (IntKind.i64.wrap ((i1:Int)+1))) (by first| (simp only[iS az hm1,mA]<;>rfl)| (simp only[iS az hm1,mA,aD.c,aX.c,aO.c,Action.c,aK.c,aU.c,dW.c,aZ.c,Node.c,aH.c,dh.c]<;>rfl)) (ih1 (i1+1) (bV++([Sm])) (dn az) h)
   ·exact((JM.b h566).a [.cn [0,2,4,7,8] [0,1]]).ct hΓ cI (iS az hm1) (ih1 (i1+1) bV (dn az) h)
  ·obtain⟨h665,h⟩:=bR h;refine(((aY.lt aU.c az).b h563).a [.cn [0,2,4,7,8,9] [0,1]]).lp hΓ (Ip hΓ (fun wS h=>?_) ((drop_cons az).1) (bn h665) cS 0 bV rfl h);exact(aY.a [.cn [0,2,4,7,8] [0,1]]).ct hΓ cI (iS az hm1) (ih1 (i1+1) wS (dn az) h)
theorem HZ{aC:ay}{aa:aO}{cS:aJ}{r:ay}(h:ux aC aa cS=some r):Good prog 98 [D.sl (aC.map aU.c),D.agg (aO.c aa),D.sl (cS.map aD.c)] (D.fr 77 2 (r.map aU.c)):=by
 refine gd func98 [[some (77,2)]] 79 fun hr Γ hΓ=>?_
 rw[ux]at h;refine(aY.a [.cn [0,2,4,7,8] [0,1]]).lp hΓ (Io hΓ (fun cH h=>?_) (by have:=(gq.sl (hr _ (aE (i:=0) rfl))).1;simpa using this) aC 0 ([]:ay) rfl h);have h:=aN h;subst h;exact aY.ret hΓ
def kN(aC:ai)(aa:aJ)(k1:ay->Option ay):ai->Nat->ay->Option ay
 | [],i1,bP=>(k1 bP)
 |bU::cQ,i1,bP=>((ux bP bU aa).bind fun pW=>(kN aC aa k1 cQ (i1+1) pW))
def oM(aC:ai)(aa:aJ):Option ay:=(kN aC aa (fun(cH:ay)=>(some cH)) aC 0 ([(⟨[],[]⟩:aU)]))
def zx(aC:ai)(aa:aJ)(W0:List aL)(dL:Int):St:=⟨[(0,D.sl (aC.map aO.c)),(1,D.sl (aa.map aD.c)),(5,D.acc 0),(6,D.int .i64 dL)],[Ob.row .uq 77 2 W0]⟩
theorem GO(hΓ:Γ.nt=23){aC:ai}{aa:aJ}{r:ay}{k1:ay->Option ay}(di:∀(cH:ay),k1 cH=some r->Ax Γ N f46 (.q [[some (77,2)]] (D.fr 77 2 (r.map aU.c))) [1,1,1] ⟨[(5,D.acc 0)],[Ob.row .uq 77 2 (cH.map aU.c)]⟩)(hm1:aC.length<=maxLen):∀(rest:ai) (i1:Nat) (bP:ay),aC.drop i1=rest->kN aC aa k1 rest i1 bP=some r->Ar Γ N f46 (.q [[some (77,2)]] (D.fr 77 2 (r.map aU.c))) [1,1,0,1,0] (rest.length+1) (zx aC aa (bP.map aU.c) (i1:Int)):=by
 intro rest
 induction rest with
 |nil=>
  intro i1 bP az h;rw[kN]at h;refine aQ fun N1 cY cI=>?_
  exact((aY.ge aO.c az).a [.hl 0 [5] [0]]).ex hΓ cY (di bP h)
 |cons bU cQ ih1=>
  intro i1 bP az h;rw[kN]at h;refine aQ fun N1 cY cI=>?_
  obtain⟨pW,h23,h⟩:=aB h;exact((((aY.lt aO.c az).l (bJ aO.c 5 (dc az) rfl)).g (HZ h23)).a [.cn [0,1,5,6] [1]]).ct hΓ cI (iS az hm1) (ih1 (i1+1) pW (dn az) h)
theorem xq{aC:ai}{aa:aJ}{r:ay}(h:oM aC aa=some r):Good prog 46 [D.sl (aC.map aO.c),D.sl (aa.map aD.c)] (D.fr 77 2 (r.map aU.c)):=by
 refine gd func46 [[some (77,2)]] 23 fun hr Γ hΓ=>?_
 rw[oM]at h;refine(aY.a [.cn [0,1,5,6] [0]]).lps hΓ (zx aC aa ([[D.sl ([]),D.sl ([])]]) 0) (by first| (simp only[mA]<;>rfl)| (simp only[mA,aD.c,aX.c,aO.c,Action.c,aK.c,aU.c,dW.c,aZ.c,Node.c,aH.c,dh.c]<;>rfl)) (GO hΓ (fun cH h=>?_) (by have:=(gq.sl (hr _ (aE (i:=0) rfl))).1;simpa using this) aC 0 ([(⟨[],[]⟩:aU)]) rfl h);have h:=aN h;subst h;exact aY.ret hΓ
def l6(aC:aH)(aa:aJ)(y1:aJ)(k1:bK->Option aH):Nat->Int->bK->Option aH
 |0,_,_=>none
 |n1+1,wZ,jk=>(bif decide ((wZ:Int)<((jk.map aZ.c).length:Int))then((iP jk wZ).bind fun x26=>((gQ x26.shape ([]) aa).bind fun AI=>(l6 aC aa y1 k1 n1 (IntKind.i64.wrap (wZ+1)) (jk.set wZ.toNat (⟨x26.shape,AI⟩:aZ)))))else(k1 jk))
def jL(aC:aH)(aa:aJ)(y1:aJ)(lg:bK)(k2:bE->Option aH):Nat->Int->bE->Option aH
 |0,_,_=>none
 |n2+1,qV,lC=>(bif decide ((qV:Int)<((lC.map Node.c).length:Int))then((sj (⟨aC.rules,aC.ends,lg,lC,y1,aC.bp⟩:aH) qV).bind fun ZD=>((oM ZD aa).bind fun y82=>((iP lC qV).bind fun x84=>(jL aC aa y1 lg k2 n2 (IntKind.i64.wrap (qV+1)) (lC.set qV.toNat (⟨x84.parent,x84.cond,x84.cj,y82⟩:Node))))))else(k2 lC))
def su(aC:aH)(aa:aJ):Option aH:=((fo aa).bind fun y1=>(l6 aC aa y1 (fun(lg:bK)=>(jL aC aa y1 lg (fun(pJ:bE)=>(some (⟨aC.rules,aC.ends,lg,pJ,y1,aC.bp⟩:aH))) fuel 0 aC.nodes)) fuel 0 aC.au))
def BZ(aC:aH)(aa:aJ)(y1:aJ)(wZ:Int)(W1:List aL):St:=⟨[(1,D.acc 0),(2,D.ptr 1 0),(4,D.ptr 2 0),(5,D.int .i64 wZ)],[Ob.row .uq 43 2 (aa.map aD.c),Ob.box [D.acc 3,D.acc 4,D.acc 5,D.acc 6,D.acc 7,D.int .i64 aC.bp],Ob.box [D.nil,D.nil,D.nil,D.nil,D.nil,D.int .i64 0],Ob.row .uq 63 4 (aC.rules.map aK.c),Ob.row .uq 3 1 (aC.ends.map iM),Ob.row .uq 83 3 W1,Ob.row .uq 74 8 (aC.nodes.map Node.c),Ob.row .uq 43 2 (y1.map aD.c)]⟩
theorem It(hΓ:Γ.nt=48){aC:aH}{aa:aJ}{y1:aJ}{r:aH}{k1:bK->Option aH}(di:∀(lg:bK),k1 lg=some r->Ax Γ N f133 (.q [[some (63,4),some (3,1),some (83,3),some (74,8),some (43,2),none]] (D.agg [D.fr 63 4 (r.rules.map aK.c),D.fr 3 1 (r.ends.map iM),D.fr 83 3 (r.au.map aZ.c),D.fr 74 8 (r.nodes.map Node.c),D.fr 43 2 (r.facts.map aD.c),D.int .i64 r.bp])) [1,1,1] ⟨[(1,D.acc 0),(2,D.ptr 1 0),(4,D.ptr 2 0)],[Ob.row .uq 43 2 (aa.map aD.c),Ob.box [D.acc 3,D.acc 4,D.acc 5,D.acc 6,D.acc 7,D.int .i64 aC.bp],Ob.box [D.nil,D.nil,D.nil,D.nil,D.nil,D.int .i64 0],Ob.row .uq 63 4 (aC.rules.map aK.c),Ob.row .uq 3 1 (aC.ends.map iM),Ob.row .uq 83 3 (lg.map aZ.c),Ob.row .uq 74 8 (aC.nodes.map Node.c),Ob.row .uq 43 2 (y1.map aD.c)]⟩):∀(n1:Nat) (wZ:Int) (jk:bK),l6 aC aa y1 k1 n1 wZ jk=some r->Ar Γ N f133 (.q [[some (63,4),some (3,1),some (83,3),some (74,8),some (43,2),none]] (D.agg [D.fr 63 4 (r.rules.map aK.c),D.fr 3 1 (r.ends.map iM),D.fr 83 3 (r.au.map aZ.c),D.fr 74 8 (r.nodes.map Node.c),D.fr 43 2 (r.facts.map aD.c),D.int .i64 r.bp])) [1,1,0,1,0] n1 (BZ aC aa y1 wZ (jk.map aZ.c)):=by
 intro n
 induction n with
 |zero=>intro wZ jk h;simp[l6]at h
 |succ n1 ih1=>
  intro wZ jk h;rw[l6]at h;refine aQ fun N1 cY cI=>?_
  obtain⟨h25,h⟩|⟨h25,h⟩:=aM h
  ·obtain⟨x26,h27,h⟩:=aB h;obtain⟨AI,h29,h⟩:=aB h;exact(((((((((aY.b h25).a [.n 11]).i (gl aZ.c 3 h27)).o 3 2 .uq (cR aZ.c (eW h27))).a [.d (D.fr 43 2 (AI.map aD.c))]).w (show Good prog 44 [D.agg (aD.c x26.shape),D.sl ([]),D.sl (aa.map aD.c)] (D.fr 43 2 (AI.map aD.c))from by first| (simpa only[bA,bB,bZ,bX,bg]using gS h29)|exact gS h29)).i (gl aZ.c 3 h27)).w (show(jk.map aZ.c)[wZ.toNat]?=some [D.str x26.shape.rel,D.sl (x26.shape.args.map tx),D.sl (x26.facts.map aD.c)]from cR aZ.c (eW h27))).a [.row [D.str x26.shape.rel,D.sl (x26.shape.args.map tx),D.sl (x26.facts.map aD.c)],.cn [1,2,4,5] [0,1,2,3,4,5,6,7]]).cs hΓ cI (BZ aC aa y1 (IntKind.i64.wrap (wZ+1)) ((jk.map aZ.c).set wZ.toNat [D.str x26.shape.rel,D.sl (x26.shape.args.map tx),D.sl (AI.map aD.c)])) (by first| (simp only[mA]<;>rfl)| (simp only[mA,aD.c,aX.c,aO.c,Action.c,aK.c,aU.c,dW.c,aZ.c,Node.c,aH.c,dh.c]<;>rfl)) (ih1 (IntKind.i64.wrap (wZ+1)) (jk.set wZ.toNat (⟨x26.shape,AI⟩:aZ)) h)
  ·exact((aY.b h25).a [.hl 0 [1,2,4] [0,1,2,3,4,5,6,7]]).ex hΓ cY (di jk h)
def Ba(aC:aH)(aa:aJ)(y1:aJ)(lg:bK)(qV:Int)(W1:List aL):St:=⟨[(1,D.acc 0),(2,D.ptr 1 0),(4,D.ptr 2 0),(6,D.int .i64 qV)],[Ob.row .uq 43 2 (aa.map aD.c),Ob.box [D.acc 3,D.acc 4,D.acc 5,D.acc 6,D.acc 7,D.int .i64 aC.bp],Ob.box [D.nil,D.nil,D.nil,D.nil,D.nil,D.int .i64 0],Ob.row .uq 63 4 (aC.rules.map aK.c),Ob.row .uq 3 1 (aC.ends.map iM),Ob.row .uq 83 3 (lg.map aZ.c),Ob.row .uq 74 8 W1,Ob.row .uq 43 2 (y1.map aD.c)]⟩
theorem Iu(hΓ:Γ.nt=48){aC:aH}{aa:aJ}{y1:aJ}{lg:bK}{r:aH}{k2:bE->Option aH}(AJ:∀(pJ:bE),k2 pJ=some r->Ax Γ N f133 (.q [[some (63,4),some (3,1),some (83,3),some (74,8),some (43,2),none]] (D.agg [D.fr 63 4 (r.rules.map aK.c),D.fr 3 1 (r.ends.map iM),D.fr 83 3 (r.au.map aZ.c),D.fr 74 8 (r.nodes.map Node.c),D.fr 43 2 (r.facts.map aD.c),D.int .i64 r.bp])) [1,1,1,1] ⟨[(2,D.ptr 0 0),(4,D.ptr 1 0)],[Ob.box [D.acc 2,D.acc 3,D.acc 4,D.acc 5,D.acc 6,D.int .i64 aC.bp],Ob.box [D.nil,D.nil,D.nil,D.nil,D.nil,D.int .i64 0],Ob.row .uq 63 4 (aC.rules.map aK.c),Ob.row .uq 3 1 (aC.ends.map iM),Ob.row .uq 83 3 (lg.map aZ.c),Ob.row .uq 74 8 (pJ.map Node.c),Ob.row .uq 43 2 (y1.map aD.c)]⟩):∀(n2:Nat) (qV:Int) (lC:bE),jL aC aa y1 lg k2 n2 qV lC=some r->Ar Γ N f133 (.q [[some (63,4),some (3,1),some (83,3),some (74,8),some (43,2),none]] (D.agg [D.fr 63 4 (r.rules.map aK.c),D.fr 3 1 (r.ends.map iM),D.fr 83 3 (r.au.map aZ.c),D.fr 74 8 (r.nodes.map Node.c),D.fr 43 2 (r.facts.map aD.c),D.int .i64 r.bp])) [1,1,1,0,1,0] n2 (Ba aC aa y1 lg qV (lC.map Node.c)):=by
 intro n
 induction n with
 |zero=>intro qV lC h;simp[jL]at h
 |succ n2 ih2=>
  intro qV lC h;rw[jL]at h;refine aQ fun N2 ue sB=>?_
  obtain⟨h75,h⟩|⟨h75,h⟩:=aM h
  ·obtain⟨ZD,h81,h⟩:=aB h;obtain⟨y82,h83,h⟩:=aB h;obtain⟨x84,h85,h⟩:=aB h;exact(((((((aY.b h75).a [.n2 [0,1,2,3,4,5,6,7,8,9,10] [0,1,2,3,4,5,6,7,8,9,10] 7 8 [0,1,2] [],.d (D.fr 71 5 (ZD.map aO.c))]).w (show Good prog 47 [D.agg [D.sl (aC.rules.map aK.c),D.sl (aC.ends.map iM),D.sl (lg.map aZ.c),D.sl (lC.map Node.c),D.sl (y1.map aD.c),D.int .i64 aC.bp],D.int .i64 qV] (D.fr 71 5 (ZD.map aO.c))from by first| (simpa only[bA,bB,bZ,bX,bg]using ru h81)|exact ru h81| (have t:=ru h81;simp only[bA,bX,bg,aH.c]at t;exact t))).g (xq h83)).i (gl Node.c 8 h85)).w (show(lC.map Node.c)[qV.toNat]?=some [D.int .i64 x84.parent,D.int .i64 x84.cond.kind,D.str x84.cond.pat.rel,D.sl (x84.cond.pat.args.map tx),D.str x84.cond.left,D.str x84.cond.right,D.int .i64 x84.cj,D.sl (x84.tokens.map aU.c)]from cR Node.c (eW h85))).a [.row [D.int .i64 x84.parent,D.int .i64 x84.cond.kind,D.str x84.cond.pat.rel,D.sl (x84.cond.pat.args.map tx),D.str x84.cond.left,D.str x84.cond.right,D.int .i64 x84.cj,D.sl (x84.tokens.map aU.c)],.cn [1,2,4,6] [0,1,2,3,4,5,6,7]]).cs hΓ sB (Ba aC aa y1 lg (IntKind.i64.wrap (qV+1)) ((lC.map Node.c).set qV.toNat [D.int .i64 x84.parent,D.int .i64 x84.cond.kind,D.str x84.cond.pat.rel,D.sl (x84.cond.pat.args.map tx),D.str x84.cond.left,D.str x84.cond.right,D.int .i64 x84.cj,D.sl (y82.map aU.c)])) (by first| (simp only[mA]<;>rfl)| (simp only[mA,aD.c,aX.c,aO.c,Action.c,aK.c,aU.c,dW.c,aZ.c,Node.c,aH.c,dh.c]<;>rfl)) (ih2 (IntKind.i64.wrap (qV+1)) (lC.set qV.toNat (⟨x84.parent,x84.cond,x84.cj,y82⟩:Node)) h)
  ·exact((aY.b h75).a [.hl 0 [2,4] [1,2,3,4,5,6,7]]).ex hΓ ue (AJ lC h)
theorem Hh{aC:aH}{aa:aJ}{r:aH}(h:su aC aa=some r):I3 prog 133 [D.agg [D.fr 63 4 (aC.rules.map aK.c),D.fr 3 1 (aC.ends.map iM),D.fr 83 3 (aC.au.map aZ.c),D.fr 74 8 (aC.nodes.map Node.c),D.fr 43 2 (aC.facts.map aD.c),D.int .i64 aC.bp],D.fr 43 2 (aa.map aD.c)] (D.agg [D.fr 63 4 (r.rules.map aK.c),D.fr 3 1 (r.ends.map iM),D.fr 83 3 (r.au.map aZ.c),D.fr 74 8 (r.nodes.map Node.c),D.fr 43 2 (r.facts.map aD.c),D.int .i64 r.bp]):=by
 refine gdF func133 [[some (63,4),some (3,1),some (83,3),some (74,8),some (43,2),none]] 48 [D.agg [D.acc 0,D.acc 1,D.acc 2,D.acc 3,D.acc 4,D.int .i64 aC.bp],D.acc 5] [Ob.row .uq 63 4 (aC.rules.map aK.c),Ob.row .uq 3 1 (aC.ends.map iM),Ob.row .uq 83 3 (aC.au.map aZ.c),Ob.row .uq 74 8 (aC.nodes.map Node.c),Ob.row .uq 43 2 (aC.facts.map aD.c),Ob.row .uq 43 2 (aa.map aD.c)] fun hr Γ hΓ=>?_
 rw[su]at h;obtain⟨y1,h2,h⟩:=aB h;refine((aY.g (tj h2)).a [.cn [1,2,4,5] [5,6,7,0,1,2,3,8]]).lp hΓ (It hΓ (fun lg h=>?_) fuel 0 aC.au h);refine(aY.a [.cn [1,2,4,6] [0,1,2,3,4,5,6,7]]).lp hΓ (Iu hΓ (fun pJ h=>?_) fuel 0 aC.nodes h);cases h;exact aY.ret hΓ
def uy(aC:cJ):Option (cJ×aH):=((wO aC 4).bind fun y1=>((jW y1.2).bind fun y3=>((oa y1.1 8).bind fun y7=>((su y3.1 y7.2).bind fun y9=>((cM y7.1 50).bind fun B9=>(some (B9.1,(⟨y9.rules,y9.ends,y9.au,y9.nodes,y9.facts,B9.2⟩:aH))))))))
theorem Hg{aC:cJ}{r:cJ×aH}(h:uy aC=some r):hY prog 75 (cJ.c aC) (cJ.c r.1) [] (D.agg [D.fr 63 4 (r.2.rules.map aK.c),D.fr 3 1 (r.2.ends.map iM),D.fr 83 3 (r.2.au.map aZ.c),D.fr 74 8 (r.2.nodes.map Node.c),D.fr 43 2 (r.2.facts.map aD.c),D.int .i64 r.2.bp]):=by
 refine Iz func75 [[none,none,none],[some (63,4),some (3,1),some (83,3),some (74,8),some (43,2),none]] 19 [D.sl (aC.b.map yx),D.int .i64 aC.i,D.int .i64 aC.h] [] [] fun hr iC Γ hΓ=>?_
 rw[uy]at h;obtain⟨y1,h2,h⟩:=aB h;obtain⟨y3,h4,h⟩:=aB h;obtain⟨y7,h8,h⟩:=aB h;obtain⟨y9,h10,h⟩:=aB h;obtain⟨B9,h12,h⟩:=aB h;cases h;exact((((((aY.hp [[none,none,none],[none]] (Im h2)).g (qf h4)).a [.n2 [0,1,2,3,4] [0,1,2,3,4] 2 3 [0] [0]]).hp [[none,none,none],[none]] (wK h8)).hf [[some (63,4),some (3,1),some (83,3),some (74,8),some (43,2),none],[some (43,2)]] (Hh h10)).hp [[none,none,none],[none]] (cC h12)).ret hΓ
def lE(aC:cJ):Option (cJ×Bytes):=((oZ aC ([[97],[98],[111,110],[55],[49,48],[57,57,57,57],[49,48,48,48,48],[48,48,55],[48],[],[65],[63,120],[63,63],[63],[97,98,99,100,101,102,103,104],[97,98,99,100,101,102,103,104,105],[63,97,98,99,100,101,102,103,104],[97,45,98],[120,49],[49,120],[45,51]]:aG)).bind fun y1=>(some (y1.1,y1.2)))
theorem nH{aC:cJ}{r:cJ×Bytes}(h:lE aC=some r):hY prog 137 (cJ.c aC) (cJ.c r.1) [] (D.str r.2):=by
 refine Iz func137 [[none,none,none],[none]] 6 [D.sl (aC.b.map yx),D.int .i64 aC.i,D.int .i64 aC.h] [] [] fun hr iC Γ hΓ=>?_
 rw[lE]at h;obtain⟨y1,h2,h⟩:=aB h;cases h;exact(aY.hp [[none,none,none],[some (9,1)]] (qP h2)).ret hΓ
def wJ(aC:cJ):Option (cJ×aD):=((lF aC).bind fun y1=>((cM y1.1 10).bind fun y3=>(bif (y3.2:Int)==0 then((lE y3.1).bind fun y6=>(some (y6.1,(⟨y6.2,y1.2.args⟩:aD))))else(bif (y3.2:Int)==1 then((lE y3.1).bind fun B9=>(bif room ((y1.2.args.map tx).length+([[D.str B9.2]]).length) 16 then(some (B9.1,(⟨y1.2.rel,y1.2.args++([B9.2])⟩:aD)))else none))else(bif (y3.2:Int)==2 then((cM y3.1 5).bind fun Hw=>(bif decide (0<=(Hw.2:Int))&&decide (Hw.2.toNat<=(([[97],[98],[99],[97]]:aG).map tx).length)then(some (Hw.1,(⟨y1.2.rel,([[97],[98],[99],[97]]:aG).take Hw.2.toNat⟩:aD)))else none))else(some (y3.1,y1.2)))))))
theorem Ib{aC:cJ}{r:cJ×aD}(h:wJ aC=some r):hY prog 112 (cJ.c aC) (cJ.c r.1) [] (D.agg [D.str r.2.rel,D.fr 9 1 (r.2.args.map tx)]):=by
 refine Iz func112 [[none,none,none],[none,some (9,1)]] 30 [D.sl (aC.b.map yx),D.int .i64 aC.i,D.int .i64 aC.h] [] [] fun hr iC Γ hΓ=>?_
 rw[wJ]at h;obtain⟨y1,h2,h⟩:=aB h;obtain⟨y3,h4,h⟩:=aB h;have nP:=((aY.hp [[none,none,none]] (zm h2)).hp [[none,none,none],[none]] (cC h4))
 obtain⟨h5,h⟩|⟨h5,h⟩:=aM h
 ·obtain⟨y6,h7,h⟩:=aB h;cases h;exact((nP.b h5).hp [[none,none,none]] (nH h7)).ret hΓ
 ·obtain⟨h8,h⟩|⟨h8,h⟩:=aM h
  ·obtain⟨B9,h12,h⟩:=aB h;obtain⟨h13,h⟩:=bR h;cases h;exact(((((nP.b h5).b h8).a [.n2 [0,1,2,3,4,5,6,7] [0,1,2,3,4,5,6,7] 3 5 [0,1] [0]]).hp [[none,none,none]] (nH h12)).w (bf h13)).rts hΓ (D.gL [D.agg [D.str y1.2.rel,D.fr 9 1 ((y1.2.args.map tx)++([[D.str B9.2]]))],D.agg [D.sl (B9.1.b.map yx),D.int .i64 B9.1.i,D.int .i64 B9.1.h],D.val iC]) (by first|rfl| (simp only[mA]<;>rfl)| (simp only[bw,mA]<;>rfl))
  ·have fk:=((nP.b h5).b h8)
   obtain⟨h14,h⟩|⟨h14,h⟩:=aM h
   ·obtain⟨Hw,h16,h⟩:=aB h;obtain⟨h17,h⟩:=bR h;cases h;exact((((fk.b h14).hp [[none,none,none],[none]] (cC h16)).w (RW h17)).a [.cut 0 Hw.2.toNat]).rts hΓ (D.gL [D.agg [D.str y1.2.rel,D.fr 9 1 ((([[97],[98],[99],[97]]:aG).map tx).take Hw.2.toNat)],D.agg [D.sl (Hw.1.b.map yx),D.int .i64 Hw.1.i,D.int .i64 Hw.1.h],D.val iC]) (by first|rfl| (simp only[mA]<;>rfl)| (simp only[bw,mA]<;>rfl))
   ·cases h;exact(fk.b h14).ret hΓ
def kr(y3:cJ×Int)(k1:aJ->Option (cJ×aJ)):Nat->Int->aJ->Option (cJ×aJ)
 |0,_,_=>none
 |n1+1,nr,bV=>(bif decide ((nr:Int)<25)then((jH nr).bind fun FU=>((lX bV (⟨[110],[FU]⟩:aD)).bind fun tQ=>(kr y3 k1 n1 (IntKind.i64.wrap (nr+1)) tQ)))else(k1 bV))
def ur(aC:cJ):Option (cJ×aJ):=((oa aC 6).bind fun y1=>((cM y1.1 8).bind fun y3=>(bif (y3.2:Int)==0 then((wJ y3.1).bind fun y6=>(bif room ((y1.2.map aD.c).length+([[D.str y6.2.rel,D.sl (y6.2.args.map tx)]]).length) 40 then(some (y6.1,y1.2++([y6.2])))else none))else(bif (y3.2:Int)==1 then(kr y3 (fun(jM:aJ)=>((gh y3.1 ([23,24,25]:bC)).bind fun vm=>(bif decide (0<=(vm.2:Int))&&decide (vm.2.toNat<=(jM.map aD.c).length)then(some (vm.1,jM.take vm.2.toNat))else none))) fuel 0 y1.2)else(some (y3.1,y1.2))))))
def KB(iC:Value)(y3:cJ×Int)(nr:Int)(W1:List aL):St:=⟨[(0,D.ptr 0 0),(3,D.acc 1),(4,D.int .i64 nr)],[Ob.AA (cJ.c y3.1) iC,Ob.row .uq 43 2 W1]⟩
theorem Ie(hΓ:Γ.nt=34){iC:Value}{y3:cJ×Int}{r:cJ×aJ}{k1:aJ->Option (cJ×aJ)}(di:∀(jM:aJ),k1 jM=some r->Ax Γ N f77 (.p [[none,none,none],[some (43,2)]] iC (cJ.c r.1) (D.fr 43 2 (r.2.map aD.c))) [1,1,0,1,0,1,1,1,0,1] ⟨[(0,D.ptr 0 0),(3,D.acc 1)],[Ob.AA (cJ.c y3.1) iC,Ob.row .uq 43 2 (jM.map aD.c)]⟩):∀(n1:Nat) (nr:Int) (bV:aJ),kr y3 k1 n1 nr bV=some r->Ar Γ N f77 (.p [[none,none,none],[some (43,2)]] iC (cJ.c r.1) (D.fr 43 2 (r.2.map aD.c))) [1,1,0,1,0,1,1,1,0,0,1,0] n1 (KB iC y3 nr (bV.map aD.c)):=by
 intro n
 induction n with
 |zero=>intro nr bV h;simp[kr]at h
 |succ n1 ih1=>
  intro nr bV h;rw[kr]at h;refine aQ fun N1 cY cI=>?_
  obtain⟨h30,h⟩|⟨h30,h⟩:=aM h
  ·obtain⟨FU,h32,h⟩:=aB h;obtain⟨tQ,h34,h⟩:=aB h;exact(((((aY.b h30).g (me h32)).a [.d (D.fr 43 2 (tQ.map aD.c))]).w (show Good prog 67 [D.sl (bV.map aD.c),D.agg [D.str ([110]),D.sl ([[D.str FU]])]] (D.fr 43 2 (tQ.map aD.c))from by first| (simpa only[bA,bB,bZ,bX,bg]using tK h34)|exact tK h34| (have t:=tK h34;simp only[bA,bX,bg,aD.c]at t;exact t))).a [.cn [0,3,4] [0,3]]).cf hΓ cI (ih1 (IntKind.i64.wrap (nr+1)) tQ h)
  ·exact((aY.b h30).a [.hl 2 [0,3] [0,1]]).ex hΓ cY (di bV h)
theorem HR{aC:cJ}{r:cJ×aJ}(h:ur aC=some r):hY prog 77 (cJ.c aC) (cJ.c r.1) [] (D.fr 43 2 (r.2.map aD.c)):=by
 refine Iz func77 [[none,none,none],[some (43,2)]] 34 [D.sl (aC.b.map yx),D.int .i64 aC.i,D.int .i64 aC.h] [] [] fun hr iC Γ hΓ=>?_
 rw[ur]at h;obtain⟨y1,h2,h⟩:=aB h;obtain⟨y3,h4,h⟩:=aB h;have nP:=((aY.hp [[none,none,none],[none]] (wK h2)).hp [[none,none,none],[none]] (cC h4))
 obtain⟨h5,h⟩|⟨h5,h⟩:=aM h
 ·obtain⟨y6,h7,h⟩:=aB h;obtain⟨h8,h⟩:=bR h;cases h;exact(((nP.b h5).hp [[none,none,none]] (Ib h7)).w (bf h8)).rts hΓ (D.gL [D.fr 43 2 ((y1.2.map aD.c)++([[D.str y6.2.rel,D.sl (y6.2.args.map tx)]])),D.agg [D.sl (y6.1.b.map yx),D.int .i64 y6.1.i,D.int .i64 y6.1.h],D.val iC]) (by first|rfl| (simp only[mA]<;>rfl)| (simp only[bw,mA]<;>rfl))
 ·obtain⟨h9,h⟩|⟨h9,h⟩:=aM h
  ·refine(((nP.b h5).b h9).a [.cn [0,3,4] [0,1]]).lp hΓ (Ie hΓ (fun jM h=>?_) fuel 0 y1.2 h);obtain⟨vm,h36,h⟩:=aB h;obtain⟨h37,h⟩:=bR h;cases h;exact(((aY.hp [[none,none,none],[some (3,1)]] (ji h36)).w (RW h37)).a [.cut 0 vm.2.toNat]).rts hΓ (D.gL [D.fr 43 2 ((jM.map aD.c).take vm.2.toNat),D.agg [D.sl (vm.1.b.map yx),D.int .i64 vm.1.i,D.int .i64 vm.1.h],D.val iC]) (by first|rfl| (simp only[mA]<;>rfl)| (simp only[bw,mA]<;>rfl))
  ·cases h;exact((nP.b h5).b h9).ret hΓ
def uF(aC:cJ):Option (cJ×aD):=((j5 aC).bind fun y1=>((cM y1.1 10).bind fun y3=>(bif (y3.2:Int)==0 then((lE y3.1).bind fun y6=>(some (y6.1,(⟨y6.2,y1.2.args⟩:aD))))else(bif (y3.2:Int)==1 then((lE y3.1).bind fun B9=>(bif room ((y1.2.args.map tx).length+([[D.str B9.2]]).length) 16 then(some (B9.1,(⟨y1.2.rel,y1.2.args++([B9.2])⟩:aD)))else none))else(bif (y3.2:Int)==2 then((cM y3.1 5).bind fun Hw=>(bif decide (0<=(Hw.2:Int))&&decide (Hw.2.toNat<=(([[63,120],[63,120],[63,121],[63,120]]:aG).map tx).length)then(some (Hw.1,(⟨y1.2.rel,([[63,120],[63,120],[63,121],[63,120]]:aG).take Hw.2.toNat⟩:aD)))else none))else(some (y3.1,y1.2)))))))
theorem Ab{aC:cJ}{r:cJ×aD}(h:uF aC=some r):hY prog 139 (cJ.c aC) (cJ.c r.1) [] (D.agg [D.str r.2.rel,D.fr 9 1 (r.2.args.map tx)]):=by
 refine Iz func139 [[none,none,none],[none,some (9,1)]] 30 [D.sl (aC.b.map yx),D.int .i64 aC.i,D.int .i64 aC.h] [] [] fun hr iC Γ hΓ=>?_
 rw[uF]at h;obtain⟨y1,h2,h⟩:=aB h;obtain⟨y3,h4,h⟩:=aB h;have nP:=((aY.hp [[none,none,none]] (nJ h2)).hp [[none,none,none],[none]] (cC h4))
 obtain⟨h5,h⟩|⟨h5,h⟩:=aM h
 ·obtain⟨y6,h7,h⟩:=aB h;cases h;exact((nP.b h5).hp [[none,none,none]] (nH h7)).ret hΓ
 ·obtain⟨h8,h⟩|⟨h8,h⟩:=aM h
  ·obtain⟨B9,h12,h⟩:=aB h;obtain⟨h13,h⟩:=bR h;cases h;exact(((((nP.b h5).b h8).a [.n2 [0,1,2,3,4,5,6,7] [0,1,2,3,4,5,6,7] 3 5 [0,1] [0]]).hp [[none,none,none]] (nH h12)).w (bf h13)).rts hΓ (D.gL [D.agg [D.str y1.2.rel,D.fr 9 1 ((y1.2.args.map tx)++([[D.str B9.2]]))],D.agg [D.sl (B9.1.b.map yx),D.int .i64 B9.1.i,D.int .i64 B9.1.h],D.val iC]) (by first|rfl| (simp only[mA]<;>rfl)| (simp only[bw,mA]<;>rfl))
  ·have fk:=((nP.b h5).b h8)
   obtain⟨h14,h⟩|⟨h14,h⟩:=aM h
   ·obtain⟨Hw,h16,h⟩:=aB h;obtain⟨h17,h⟩:=bR h;cases h;exact((((fk.b h14).hp [[none,none,none],[none]] (cC h16)).w (RW h17)).a [.cut 0 Hw.2.toNat]).rts hΓ (D.gL [D.agg [D.str y1.2.rel,D.fr 9 1 ((([[63,120],[63,120],[63,121],[63,120]]:aG).map tx).take Hw.2.toNat)],D.agg [D.sl (Hw.1.b.map yx),D.int .i64 Hw.1.i,D.int .i64 Hw.1.h],D.val iC]) (by first|rfl| (simp only[mA]<;>rfl)| (simp only[bw,mA]<;>rfl))
   ·cases h;exact(fk.b h14).ret hΓ
def wM(aC:cJ):Option (cJ×aO):=((ql aC).bind fun y1=>((cM y1.1 12).bind fun y3=>(bif (y3.2:Int)==0 then((gh y3.1 ([0,1,3,5,6, -1]:bC)).bind fun y6=>(some (y6.1,(⟨y6.2,y1.2.pat,y1.2.left,y1.2.right⟩:aO))))else(bif (y3.2:Int)==1 then((lE y3.1).bind fun y9=>(some (y9.1,(⟨y1.2.kind,y1.2.pat,y9.2,y1.2.right⟩:aO))))else(bif (y3.2:Int)==2 then((uF y3.1).bind fun Pj=>(some (Pj.1,(⟨y1.2.kind,Pj.2,y1.2.left,y1.2.right⟩:aO))))else(some (y3.1,y1.2)))))))
theorem Ii{aC:cJ}{r:cJ×aO}(h:wM aC=some r):hY prog 138 (cJ.c aC) (cJ.c r.1) [] (D.agg [D.int .i64 r.2.kind,D.str r.2.pat.rel,D.fr 9 1 (r.2.pat.args.map tx),D.str r.2.left,D.str r.2.right]):=by
 refine Iz func138 [[none,none,none],[none,none,some (9,1),none,none]] 25 [D.sl (aC.b.map yx),D.int .i64 aC.i,D.int .i64 aC.h] [] [] fun hr iC Γ hΓ=>?_
 rw[wM]at h;obtain⟨y1,h2,h⟩:=aB h;obtain⟨y3,h4,h⟩:=aB h;have nP:=((aY.hp [[none,none,none]] (zo h2)).hp [[none,none,none],[none]] (cC h4))
 obtain⟨h5,h⟩|⟨h5,h⟩:=aM h
 ·obtain⟨y6,h7,h⟩:=aB h;cases h;exact((nP.b h5).hp [[none,none,none],[some (3,1)]] (ji h7)).ret hΓ
 ·obtain⟨h8,h⟩|⟨h8,h⟩:=aM h
  ·obtain⟨y9,h10,h⟩:=aB h;cases h;exact(((nP.b h5).b h8).hp [[none,none,none]] (nH h10)).ret hΓ
  ·have fk:=((nP.b h5).b h8)
   obtain⟨h11,h⟩|⟨h11,h⟩:=aM h
   ·obtain⟨Pj,h13,h⟩:=aB h;cases h;exact((fk.b h11).hp [[none,none,none]] (Ab h13)).ret hΓ
   ·cases h;exact(fk.b h11).ret hΓ
def wN(aC:cJ):Option (cJ×aK):=((lG aC).bind fun y1=>((cM y1.1 14).bind fun y3=>(bif (y3.2:Int)==0 then((lE y3.1).bind fun y6=>(some (y6.1,(⟨y6.2,y1.2.prio,y1.2.conds,y1.2.cK⟩:aK))))else(bif (y3.2:Int)==1 then((gh y3.1 ([-1,0,9,10]:bC)).bind fun y9=>(some (y9.1,(⟨y1.2.name,y9.2,y1.2.conds,y1.2.cK⟩:aK))))else(bif (y3.2:Int)==2 then((wM y3.1).bind fun AK=>(bif room ((y1.2.conds.map aO.c).length+([[D.int .i64 AK.2.kind,D.str AK.2.pat.rel,D.sl (AK.2.pat.args.map tx),D.str AK.2.left,D.str AK.2.right]]).length) 80 then(some (AK.1,(⟨y1.2.name,y1.2.prio,y1.2.conds++([AK.2]),y1.2.cK⟩:aK)))else none))else(bif (y3.2:Int)==3 then((gh y3.1 ([0,1,2,3,4]:bC)).bind fun pW=>((uF pW.1).bind fun Gp=>(bif room ((y1.2.cK.map Action.c).length+([[D.int .i64 pW.2,D.str Gp.2.rel,D.sl (Gp.2.args.map tx)]]).length) 48 then(some (Gp.1,(⟨y1.2.name,y1.2.prio,y1.2.conds,y1.2.cK++([(⟨pW.2,Gp.2⟩:Action)])⟩:aK)))else none)))else(bif (y3.2:Int)==4 then((AU (y1.2.conds.map aO.c).length (some (D.int .i64 1)) none).bind fun p=>(fun l28 u29=>(some (y3.1,(⟨y1.2.name,y1.2.prio,(y1.2.conds.take u29).drop l28,y1.2.cK⟩:aK)))) p.1 p.2)else(bif (y3.2:Int)==5 then((AU (y1.2.cK.map Action.c).length (some (D.int .i64 1)) none).bind fun p=>(fun l32 u33=>(some (y3.1,(⟨y1.2.name,y1.2.prio,y1.2.conds,(y1.2.cK.take u33).drop l32⟩:aK)))) p.1 p.2)else(bif (y3.2:Int)==6 then((oZ y3.1 ([[63,102],[63,97],[63,103]]:aG)).bind fun Ms=>((gh Ms.1 ([1,2]:bC)).bind fun LN=>((oZ LN.1 ([[63,102],[63,120]]:aG)).bind fun y40=>(some (y40.1,(⟨y1.2.name,y1.2.prio,[(⟨1,(⟨[116],([[63,97],[63,98],[63,99]]:aG)⟩:aD),[],[]⟩:aO),(⟨1,(⟨[116],([[63,100],[63,101],Ms.2]:aG)⟩:aD),[],[]⟩:aO),(⟨LN.2,(⟨[117],[y40.2]⟩:aD),[],[]⟩:aO)],[(⟨3,(⟨[],[]⟩:aD)⟩:Action)]⟩:aK))))))else(some (y3.1,y1.2)))))))))))
theorem Ij{aC:cJ}{r:cJ×aK}(h:wN aC=some r):hY prog 80 (cJ.c aC) (cJ.c r.1) [] (D.agg [D.str r.2.name,D.int .i64 r.2.prio,D.sl (r.2.conds.map aO.c),D.sl (r.2.cK.map Action.c)]):=by
 refine Iz func80 [[none,none,none],[none,none,none,none]] 79 [D.sl (aC.b.map yx),D.int .i64 aC.i,D.int .i64 aC.h] [] [] fun hr iC Γ hΓ=>?_
 rw[wN]at h;obtain⟨y1,h2,h⟩:=aB h;obtain⟨y3,h4,h⟩:=aB h;have nP:=((aY.hp [[none,none,none]] (zu h2)).hp [[none,none,none],[none]] (cC h4))
 obtain⟨h5,h⟩|⟨h5,h⟩:=aM h
 ·obtain⟨y6,h7,h⟩:=aB h;cases h;exact(((nP.b h5).hp [[none,none,none]] (nH h7)).a [.sk 2,.sk 3]).ret hΓ
 ·obtain⟨h8,h⟩|⟨h8,h⟩:=aM h
  ·obtain⟨y9,h10,h⟩:=aB h;cases h;exact((((nP.b h5).b h8).hp [[none,none,none],[some (3,1)]] (ji h10)).a [.sk 2,.sk 3]).ret hΓ
  ·have fk:=((nP.b h5).b h8)
   obtain⟨h11,h⟩|⟨h11,h⟩:=aM h
   ·obtain⟨AK,h15,h⟩:=aB h;obtain⟨h16,h⟩:=bR h;cases h;exact(((((fk.b h11).a [.n2 [0,1,2,3,4,5,6,7] [0,1,2,3,4,5,6,7] 3 5 [0,1] [0,5]]).hp [[none,none,none]] (Ii h15)).w (bf h16)).a [.sk 7,.sk 3]).rts hΓ (D.gL [D.agg [D.str y1.2.name,D.int .i64 y1.2.prio,D.sl ((y1.2.conds.map aO.c)++([[D.int .i64 AK.2.kind,D.str AK.2.pat.rel,D.sl (AK.2.pat.args.map tx),D.str AK.2.left,D.str AK.2.right]])),D.sl (y1.2.cK.map Action.c)],D.agg [D.sl (AK.1.b.map yx),D.int .i64 AK.1.i,D.int .i64 AK.1.h],D.val iC]) (by first|rfl| (simp only[mA]<;>rfl)| (simp only[bw,mA]<;>rfl))
   ·obtain⟨h17,h⟩|⟨h17,h⟩:=aM h
    ·obtain⟨pW,h23,h⟩:=aB h;obtain⟨Gp,h25,h⟩:=aB h;obtain⟨h26,h⟩:=bR h;cases h;exact(((((((fk.b h11).b h17).a [.n2 [0,1,2,3,5,4,6,7,8,9,10,11] [0,1,2,3,5,4,6,7,8,9,10,11] 5 9 [0,1,4] [0,5,6]]).hp [[none,none,none],[some (3,1)]] (ji h23)).hp [[none,none,none]] (Ab h25)).w (bf h26)).a [.sk 2,.sk 8]).rts hΓ (D.gL [D.agg [D.str y1.2.name,D.int .i64 y1.2.prio,D.sl (y1.2.conds.map aO.c),D.sl ((y1.2.cK.map Action.c)++([[D.int .i64 pW.2,D.str Gp.2.rel,D.sl (Gp.2.args.map tx)]]))],D.agg [D.sl (Gp.1.b.map yx),D.int .i64 Gp.1.i,D.int .i64 Gp.1.h],D.val iC]) (by first|rfl| (simp only[mA]<;>rfl)| (simp only[bw,mA]<;>rfl))
    ·have je:=((fk.b h11).b h17)
     obtain⟨h27,h⟩|⟨h27,h⟩:=aM h
     ·obtain⟨⟨l28,u29⟩,h30,h⟩:=aB h;cases h;exact(((je.b h27).w (show AU (y1.2.conds.map aO.c).length (some (D.int .i64 1)) none=some (l28,u29)/\((y1.2.conds.map aO.c).all fun r=>r.length==5)=true from⟨h30,by simp[aq]⟩)).a [.fz,.cut l28 u29,.sk 3]).rts hΓ (D.gL [D.agg [D.str y1.2.name,D.int .i64 y1.2.prio,D.sl (((y1.2.conds.map aO.c).take u29).drop l28),D.sl (y1.2.cK.map Action.c)],D.agg [D.sl (y3.1.b.map yx),D.int .i64 y3.1.i,D.int .i64 y3.1.h],D.val iC]) (by first|rfl| (simp only[mA]<;>rfl)| (simp only[mA,bX]<;>rfl)| (simp only[bw,mA]<;>rfl))
     ·obtain⟨h31,h⟩|⟨h31,h⟩:=aM h
      ·obtain⟨⟨l32,u33⟩,h34,h⟩:=aB h;cases h;exact((((je.b h27).b h31).w (show AU (y1.2.cK.map Action.c).length (some (D.int .i64 1)) none=some (l32,u33)/\((y1.2.cK.map Action.c).all fun r=>r.length==3)=true from⟨h34,by simp[aq]⟩)).a [.fz,.cut l32 u33,.sk 2]).rts hΓ (D.gL [D.agg [D.str y1.2.name,D.int .i64 y1.2.prio,D.sl (y1.2.conds.map aO.c),D.sl (((y1.2.cK.map Action.c).take u33).drop l32)],D.agg [D.sl (y3.1.b.map yx),D.int .i64 y3.1.i,D.int .i64 y3.1.h],D.val iC]) (by first|rfl| (simp only[mA]<;>rfl)| (simp only[mA,bX]<;>rfl)| (simp only[bw,mA]<;>rfl))
      ·have jj:=((je.b h27).b h31)
       obtain⟨h35,h⟩|⟨h35,h⟩:=aM h
       ·obtain⟨Ms,h37,h⟩:=aB h;obtain⟨LN,h39,h⟩:=aB h;obtain⟨y40,h41,h⟩:=aB h;cases h;exact(((((jj.b h35).hp [[none,none,none],[some (9,1)]] (qP h37)).hp [[none,none,none],[some (3,1)]] (ji h39)).hp [[none,none,none],[some (9,1)]] (qP h41)).a [.sk 11,.sk 12]).ret hΓ
       ·cases h;exact((jj.b h35).a [.sk 2,.sk 3]).ret hΓ
def wP(aC:cJ):Option (cJ×aH):=((uy aC).bind fun y1=>((cM y1.1 12).bind fun y3=>(bif (y3.2:Int)==0 then(some (y3.1,(⟨y1.2.rules,y1.2.ends,y1.2.au,y1.2.nodes,y1.2.facts, -1⟩:aH)))else(bif (y3.2:Int)==1 then((ur y3.1).bind fun y7=>(some (y7.1,(⟨y1.2.rules,y1.2.ends,y1.2.au,y1.2.nodes,y7.2,y1.2.bp⟩:aH))))else(bif (y3.2:Int)==2 then((cM y3.1 ((y1.2.nodes.map Node.c).length:Int)).bind fun Dh=>((gh Dh.1 ([-1,0,1,2,99]:bC)).bind fun AK=>((iP y1.2.nodes Dh.2).bind fun x16=>(some (AK.1,(⟨y1.2.rules,y1.2.ends,y1.2.au,y1.2.nodes.set Dh.2.toNat (⟨AK.2,x16.cond,x16.cj,x16.tokens⟩:Node),y1.2.facts,y1.2.bp⟩:aH))))))else(bif (y3.2:Int)==3 then((cM y3.1 ((y1.2.nodes.map Node.c).length:Int)).bind fun Aj=>((iP y1.2.nodes Aj.2).bind fun x21=>((oa Aj.1 1).bind fun y26=>(bif room ((x21.tokens.map aU.c).length+([[D.sl (y26.2.map aD.c),D.sl ([])]]).length) 48 then(some (y26.1,(⟨y1.2.rules,y1.2.ends,y1.2.au,y1.2.nodes.set Aj.2.toNat (⟨x21.parent,x21.cond,x21.cj,x21.tokens++([(⟨y26.2,[]⟩:aU)])⟩:Node),y1.2.facts,y1.2.bp⟩:aH)))else none))))else(bif (y3.2:Int)==4 then((wN y3.1).bind fun Gq=>(bif room ((y1.2.rules.map aK.c).length+([[D.str Gq.2.name,D.int .i64 Gq.2.prio,D.sl (Gq.2.conds.map aO.c),D.sl (Gq.2.cK.map Action.c)]]).length) 72 then(some (Gq.1,(⟨y1.2.rules++([Gq.2]),y1.2.ends,y1.2.au,y1.2.nodes,y1.2.facts,y1.2.bp⟩:aH)))else none))else(bif (y3.2:Int)==5 then(bif room ((y1.2.ends.map iM).length+([[D.int .i64 0]]).length) 8 then(some (y3.1,(⟨y1.2.rules,y1.2.ends++([0]),y1.2.au,y1.2.nodes,y1.2.facts,y1.2.bp⟩:aH)))else none)else(some (y3.1,y1.2))))))))))
theorem Ir{aC:cJ}{r:cJ×aH}(h:wP aC=some r):hY prog 34 (cJ.c aC) (cJ.c r.1) [] (D.agg [D.sl (r.2.rules.map aK.c),D.fr 3 1 (r.2.ends.map iM),D.fr 83 3 (r.2.au.map aZ.c),D.fr 74 8 (r.2.nodes.map Node.c),D.fr 43 2 (r.2.facts.map aD.c),D.int .i64 r.2.bp]):=by
 refine a7v func34 [[none,none,none],[none,some (3,1),some (83,3),some (74,8),some (43,2),none]] 73 [] fun hr iC Γ hΓ hO=>?_
 rw[wP]at h;obtain⟨y1,h2,h⟩:=aB h;obtain⟨y3,h4,h⟩:=aB h;have nP:=((aY.hp [[none,none,none]] (Hg h2)).hp [[none,none,none],[none]] (cC h4))
 obtain⟨h5,h⟩|⟨h5,h⟩:=aM h
 ·cases h;exact((nP.b h5).a [.sk 2]).ret hΓ
 ·obtain⟨h6,h⟩|⟨h6,h⟩:=aM h
  ·obtain⟨y7,h8,h⟩:=aB h;cases h;exact((((nP.b h5).b h6).hp [[none,none,none]] (HR h8)).a [.sk 2]).ret hΓ
  ·have fk:=((nP.b h5).b h6)
   obtain⟨h9,h⟩|⟨h9,h⟩:=aM h
   ·obtain⟨Dh,h11,h⟩:=aB h;obtain⟨AK,h15,h⟩:=aB h;obtain⟨x16,h17,h⟩:=aB h;cases h;exact(((((((fk.b h9).hp [[none,none,none],[none]] (cC h11)).a [.n2 [0,1,2,3,4,5,6,7,8] [0,1,2,3,4,5,6,7,8] 5 6 [0,1,2] [0,8]]).hp [[none,none,none],[some (3,1)]] (ji h15)).i (gl Node.c 8 h17)).w (show(y1.2.nodes.map Node.c)[Dh.2.toNat]?=some [D.int .i64 x16.parent,D.int .i64 x16.cond.kind,D.str x16.cond.pat.rel,D.sl (x16.cond.pat.args.map tx),D.str x16.cond.left,D.str x16.cond.right,D.int .i64 x16.cj,D.sl (x16.tokens.map aU.c)]from cR Node.c (eW h17))).a [.row [D.int .i64 x16.parent,D.int .i64 x16.cond.kind,D.str x16.cond.pat.rel,D.sl (x16.cond.pat.args.map tx),D.str x16.cond.left,D.str x16.cond.right,D.int .i64 x16.cj,D.sl (x16.tokens.map aU.c)],.sk 2]).rts hΓ (D.gL [D.agg [D.sl (y1.2.rules.map aK.c),D.fr 3 1 (y1.2.ends.map iM),D.fr 83 3 (y1.2.au.map aZ.c),D.fr 74 8 ((y1.2.nodes.map Node.c).set Dh.2.toNat [D.int .i64 AK.2,D.int .i64 x16.cond.kind,D.str x16.cond.pat.rel,D.sl (x16.cond.pat.args.map tx),D.str x16.cond.left,D.str x16.cond.right,D.int .i64 x16.cj,D.sl (x16.tokens.map aU.c)]),D.fr 43 2 (y1.2.facts.map aD.c),D.int .i64 y1.2.bp],D.agg [D.sl (AK.1.b.map yx),D.int .i64 AK.1.i,D.int .i64 AK.1.h],D.val iC]) (by first|rfl| (simp only[mA]<;>rfl)| (simp only[bw,mA]<;>rfl))
   ·obtain⟨h18,h⟩|⟨h18,h⟩:=aM h
    ·obtain⟨Aj,h20,h⟩:=aB h;obtain⟨x21,h22,h⟩:=aB h;refine((((fk.b h9).b h18).hp [[none,none,none],[none]] (cC h20)).a [.hl 2 [0,2,3,5] [0,1,7,2,3,4,5,6]]).ex (N:=fun _ _=>False) (c':=(lc f34 [1,1,0,1,0,1,1,1,1,1,1,1,0,1])) (K':=(lk' f34 [1,1,0,1,0,1,1,1,1,1,1,1,0,1])) (K0:=(lk' f34 [1,1,0,1,0,1,1,1,1,1,1,1,0,1])) hΓ (fun _ _=>rfl) (ZO (st:=⟨[(0,D.ptr 0 0),(2,D.ptr 1 0),(3,D.ptr 2 0),(5,D.int .i64 Aj.2)],[Ob.AA (cJ.c Aj.1) iC,Ob.box [D.nil,D.nil,D.nil,D.nil,D.nil,D.int .i64 0],Ob.box [D.acc 3,D.acc 4,D.acc 5,D.acc 6,D.acc 7,D.int .i64 y1.2.bp],Ob.row .uq 63 4 (y1.2.rules.map aK.c),Ob.row .uq 3 1 (y1.2.ends.map iM),Ob.row .uq 83 3 (y1.2.au.map aZ.c),Ob.row .uq 74 8 (y1.2.nodes.map Node.c),Ob.row .uq 43 2 (y1.2.facts.map aD.c)]⟩) (m:=6) (e:=74) (sz:=8) (i:=Aj.2.toNat) (off:=7) (e':=77) (sz':=2) (r:=Node.c x21) hO (Zj _) (cR Node.c (eW h22)) rfl rfl rfl rfl rfl rfl rfl rfl rfl ?_);obtain⟨y26,h27,h⟩:=aB h;obtain⟨h28,h⟩:=bR h;cases h;exact((((((((aY.w (show 8=8/\Aj.2=((Aj.2.toNat:Nat):Int)/\Aj.2.toNat<((y1.2.nodes.map Node.c).set Aj.2.toNat [D.int .i64 x21.parent,D.int .i64 x21.cond.kind,D.str x21.cond.pat.rel,D.sl (x21.cond.pat.args.map tx),D.str x21.cond.left,D.str x21.cond.right,D.int .i64 x21.cj,D.any]).length from a1F Node.c 8 h22)).w (show 8=8/\(Aj.2.toNat)*8+7=Aj.2.toNat*8+7 from⟨rfl,rfl⟩)).a [.n2 [0,1,2,3,4,5,6,7,8,9,10,11,12,13,14,15,16] [0,1,2,3,4,5,6,7,8,9,10,11,12,13,14,15,16] 10 14 [0,1,2,3,4,5,6,7,8] [0,8,9,10],.ix Aj.2.toNat,.hd]).hp [[none,none,none],[none]] (wK h27)).w (bf h28)).w (show 8=8/\Aj.2=((Aj.2.toNat:Nat):Int)/\Aj.2.toNat<((y1.2.nodes.map Node.c).set Aj.2.toNat [D.int .i64 x21.parent,D.int .i64 x21.cond.kind,D.str x21.cond.pat.rel,D.sl (x21.cond.pat.args.map tx),D.str x21.cond.left,D.str x21.cond.right,D.int .i64 x21.cj,D.any]).length from a1F Node.c 8 h22)).w (show((y1.2.nodes.map Node.c).set Aj.2.toNat [D.int .i64 x21.parent,D.int .i64 x21.cond.kind,D.str x21.cond.pat.rel,D.sl (x21.cond.pat.args.map tx),D.str x21.cond.left,D.str x21.cond.right,D.int .i64 x21.cj,D.any])[Aj.2.toNat]?=some [D.int .i64 x21.parent,D.int .i64 x21.cond.kind,D.str x21.cond.pat.rel,D.sl (x21.cond.pat.args.map tx),D.str x21.cond.left,D.str x21.cond.right,D.int .i64 x21.cj,D.any]from a5M Node.c [D.int .i64 x21.parent,D.int .i64 x21.cond.kind,D.str x21.cond.pat.rel,D.sl (x21.cond.pat.args.map tx),D.str x21.cond.left,D.str x21.cond.right,D.int .i64 x21.cj,D.any] h22)).a [.ix Aj.2.toNat,.row [D.int .i64 x21.parent,D.int .i64 x21.cond.kind,D.str x21.cond.pat.rel,D.sl (x21.cond.pat.args.map tx),D.str x21.cond.left,D.str x21.cond.right,D.int .i64 x21.cj,D.any],.sk 3]).rts hΓ (D.gL [D.agg [D.sl (y1.2.rules.map aK.c),D.fr 3 1 (y1.2.ends.map iM),D.fr 83 3 (y1.2.au.map aZ.c),D.fr 74 8 (((y1.2.nodes.map Node.c).set Aj.2.toNat [D.int .i64 x21.parent,D.int .i64 x21.cond.kind,D.str x21.cond.pat.rel,D.sl (x21.cond.pat.args.map tx),D.str x21.cond.left,D.str x21.cond.right,D.int .i64 x21.cj,D.any]).set Aj.2.toNat [D.int .i64 x21.parent,D.int .i64 x21.cond.kind,D.str x21.cond.pat.rel,D.sl (x21.cond.pat.args.map tx),D.str x21.cond.left,D.str x21.cond.right,D.int .i64 x21.cj,D.sl ((x21.tokens.map aU.c)++([[D.sl (y26.2.map aD.c),D.sl ([])]]))]),D.fr 43 2 (y1.2.facts.map aD.c),D.int .i64 y1.2.bp],D.agg [D.sl (y26.1.b.map yx),D.int .i64 y26.1.i,D.int .i64 y26.1.h],D.val iC]) (by first|rfl| (simp only[mA]<;>rfl)| (simp only[mA,List.set_set,Node.c]<;>rfl)| (simp only[bw,mA]<;>rfl))
    ·have je:=((fk.b h9).b h18)
     obtain⟨h29,h⟩|⟨h29,h⟩:=aM h
     ·obtain⟨Gq,h33,h⟩:=aB h;obtain⟨h34,h⟩:=bR h;cases h;exact((((je.b h29).a [.n2 [0,1,2,3,4,5,6,7] [0,1,2,3,4,5,6,7] 3 5 [0,1] [0]]).hp [[none,none,none]] (Ij h33)).w (bf h34)).rts hΓ (D.gL [D.agg [D.sl ((y1.2.rules.map aK.c)++([[D.str Gq.2.name,D.int .i64 Gq.2.prio,D.sl (Gq.2.conds.map aO.c),D.sl (Gq.2.cK.map Action.c)]])),D.fr 3 1 (y1.2.ends.map iM),D.fr 83 3 (y1.2.au.map aZ.c),D.fr 74 8 (y1.2.nodes.map Node.c),D.fr 43 2 (y1.2.facts.map aD.c),D.int .i64 y1.2.bp],D.agg [D.sl (Gq.1.b.map yx),D.int .i64 Gq.1.i,D.int .i64 Gq.1.h],D.val iC]) (by first|rfl| (simp only[mA]<;>rfl)| (simp only[bw,mA]<;>rfl))
     ·obtain⟨h35,h⟩|⟨h35,h⟩:=aM h
      ·obtain⟨h36,h⟩:=bR h;cases h;exact((((je.b h29).b h35).w (bf h36)).a [.sk 2]).rts hΓ (D.gL [D.agg [D.sl (y1.2.rules.map aK.c),D.fr 3 1 ((y1.2.ends.map iM)++([[D.int .i64 0]])),D.fr 83 3 (y1.2.au.map aZ.c),D.fr 74 8 (y1.2.nodes.map Node.c),D.fr 43 2 (y1.2.facts.map aD.c),D.int .i64 y1.2.bp],D.agg [D.sl (y3.1.b.map yx),D.int .i64 y3.1.i,D.int .i64 y3.1.h],D.val iC]) (by first|rfl| (simp only[mA]<;>rfl)| (simp only[bw,mA]<;>rfl))
      ·cases h;exact(((je.b h29).b h35).a [.sk 2]).ret hΓ
def fw(aC:Bytes)(k1:Option Bool):Nat->Int->Option Bool
 |0,_=>none
 |n1+1,j6=>(bif decide ((j6:Int)<(aC.length:Int))then((iP aC j6).bind fun b31=>(bif decide ((b31.toNat:Int)<97)then(bif decide ((b31.toNat:Int)<48)then(some false)else(bif decide ((b31.toNat:Int)>57)then(some false)else(fw aC k1 n1 (IntKind.i64.wrap (j6+1)))))else(bif decide ((b31.toNat:Int)>122)then(bif decide ((b31.toNat:Int)<48)then(some false)else(bif decide ((b31.toNat:Int)>57)then(some false)else(fw aC k1 n1 (IntKind.i64.wrap (j6+1)))))else(fw aC k1 n1 (IntKind.i64.wrap (j6+1))))))else(k1))
def fP(aC:Bytes):Option Bool:=(bif decide (((aC.length:Int):Int)<1)then(some false)else(bif decide (((aC.length:Int):Int)>8)then(some false)else(fw aC (some true) fuel 0)))
def Jt(aC:Bytes)(j6:Int):St:=⟨[(0,D.str aC),(3,D.int .i64 j6)],[]⟩
theorem IC(hΓ:Γ.nt=40){aC:Bytes}{r:Bool}{k1:Option Bool}(di:k1=some r->Ax Γ N f144 (.q [[none]] (D.bool r)) [1,1,1] ⟨[],[]⟩):∀(n1:Nat) (j6:Int),fw aC k1 n1 j6=some r->Ar Γ N f144 (.q [[none]] (D.bool r)) [1,1,0,1,0] n1 (Jt aC j6):=by
 intro n
 induction n with
 |zero=>intro j6 h;simp[fw]at h
 |succ n1 ih1=>
  intro j6 h;rw[fw]at h;refine aQ fun N1 cY cI=>?_
  obtain⟨h30,h⟩|⟨h30,h⟩:=aM h
  ·obtain⟨b31,h32,h⟩:=aB h;have zB:=((aY.b h30).c h32)
   obtain⟨h33,h⟩|⟨h33,h⟩:=aM h
   ·have Ez:=((((zB.r 5 h33).T 3).c h32).T 2)
    obtain⟨h34,h⟩|⟨h34,h⟩:=aM h
    ·have h:=aN h;subst h;exact((((Ez.r 4 h34).T 1).b h34).T 2).ret hΓ
    ·have Kn:=((((((Ez.r 3 h34).c h32).b h34).T 1).b h34).T 1)
     obtain⟨h35,h⟩|⟨h35,h⟩:=aM h
     ·have h:=aN h;subst h;exact(Kn.b h35).ret hΓ
     ·exact((Kn.b h35).a [.cn [0,3] []]).cf hΓ cI (ih1 (IntKind.i64.wrap (j6+1)) h)
   ·have Bk:=(((zB.r 3 h33).c h32).r 2 h33)
    obtain⟨h36,h⟩|⟨h36,h⟩:=aM h
    ·have JK:=(((Bk.r 3 h36).c h32).r 2 h36)
     obtain⟨h37,h⟩|⟨h37,h⟩:=aM h
     ·have h:=aN h;subst h;exact(((((JK.r 4 h37).b h36).b h37).b h36).T 1).ret hΓ
     ·have De:=((((((JK.r 3 h37).c h32).b h37).b h36).b h37).b h36)
      obtain⟨h38,h⟩|⟨h38,h⟩:=aM h
      ·have h:=aN h;subst h;exact(De.b h38).ret hΓ
      ·exact((De.b h38).a [.cn [0,3] []]).cf hΓ cI (ih1 (IntKind.i64.wrap (j6+1)) h)
    ·exact(((Bk.r 7 h36).F 1).a [bF,bF,bF,bF,.cn [0,3] []]).cf hΓ cI (ih1 (IntKind.i64.wrap (j6+1)) h)
  ·exact((aY.b h30).a [.hl 0 [] []]).ex hΓ cY (di h)
theorem ed{aC:Bytes}{r:Bool}(h:fP aC=some r):Good prog 144 [D.str aC] (D.bool r):=by
 refine gd func144 [[none]] 40 fun hr Γ hΓ=>?_
 rw[fP]at h;obtain⟨h1,h⟩|⟨h1,h⟩:=aM h
 ·have h:=aN h;subst h;exact((aY.r 4 h1).T 1).ret hΓ
 ·have JL:=(aY.r 4 h1)
  obtain⟨h2,h⟩|⟨h2,h⟩:=aM h
  ·have h:=aN h;subst h;exact(JL.b h2).ret hΓ
  ·refine((JL.b h2).a [.cn [0,3] []]).lp hΓ (IC hΓ (fun h=>?_) fuel 0 h);have h:=aN h;subst h;exact aY.ret hΓ
def qc(aC:Bytes):Option Bool:=((fP aC).bind fun y1=>(bif y1 then((iP aC 0).bind fun b4=>(some (decide ((b4.toNat:Int)>=97))))else(some false)))
theorem mq{aC:Bytes}{r:Bool}(h:qc aC=some r):Good prog 163 [D.str aC] (D.bool r):=by
 refine gd func163 [[none]] 10 fun hr Γ hΓ=>?_
 rw[qc]at h;obtain⟨y1,h2,h⟩:=aB h;obtain⟨h3,h⟩|⟨h3,h⟩:=aM h
 ·obtain⟨b4,h5,h⟩:=aB h;cases h;exact((((aY.g (ed h2)).r 2 h3).c h5).r 2 h3).ret hΓ
 ·have h:=aN h;subst h;exact((aY.g (ed h2)).r 4 h3).ret hΓ
def lK(aC:Bytes):Option Bool:=(bif decide (((aC.length:Int):Int)>1)then((iP aC 0).bind fun b2=>(bif (b2.toNat:Int)==63 then((AU aC.length (some (D.int .i64 1)) none).bind fun p=>(fun l5 u6=>((fP ((aC.take u6).drop l5)).bind fun y8=>(some y8))) p.1 p.2)else(some false)))else(some false))
theorem o4{aC:Bytes}{r:Bool}(h:lK aC=some r):Good prog 145 [D.str aC] (D.bool r):=by
 refine gd func145 [[none]] 16 fun hr Γ hΓ=>?_
 rw[lK]at h;obtain⟨h1,h⟩|⟨h1,h⟩:=aM h
 ·obtain⟨b2,h3,h⟩:=aB h;have nP:=(((aY.r 2 h1).c h3).r 2 h1)
  obtain⟨h4,h⟩|⟨h4,h⟩:=aM h
  ·obtain⟨⟨l5,u6⟩,h7,h⟩:=aB h;obtain⟨y8,h9,h⟩:=aB h;have h:=aN h;subst h;exact((((((nP.r 2 h4).w h7).a [.cut l5 u6]).b h4).g (ed h9)).b h4).ret hΓ
  ·have h:=aN h;subst h;exact(nP.r 4 h4).ret hΓ
 ·have h:=aN h;subst h;exact((aY.r 4 h1).F 4).ret hΓ
def j0(aC:Bytes):Option Bool:=((fP aC).bind fun y1=>(bif y1 then(some true)else((lK aC).bind fun y4=>(some y4))))
theorem k9{aC:Bytes}{r:Bool}(h:j0 aC=some r):Good prog 208 [D.str aC] (D.bool r):=by
 refine gd func208 [[none]] 9 fun hr Γ hΓ=>?_
 rw[j0]at h;obtain⟨y1,h2,h⟩:=aB h;obtain⟨h3,h⟩|⟨h3,h⟩:=aM h
 ·have h:=aN h;subst h;exact((aY.g (ed h2)).r 3 h3).ret hΓ
 ·obtain⟨y4,h5,h⟩:=aB h;have h:=aN h;subst h;exact((((aY.g (ed h2)).r 2 h3).g (o4 h5)).b h3).ret hΓ
def mC(aC:aD)(k1:Option Bool):aG->Nat->Option Bool
 | [],i1=>(k1)
 |bU::cQ,i1=>((j0 bU).bind fun vE=>(bif !(vE)then(some false)else(mC aC k1 cQ (i1+1))))
def jB(aC:aD):Option Bool:=((qc aC.rel).bind fun y1=>(bif !(y1)then(some false)else(bif decide ((((aC.args.map tx).length:Int):Int)>3)then(some false)else(mC aC (some true) aC.args 0))))
def Fe(aC:aD)(dL:Int):St:=⟨[(16,D.sl (aC.args.map tx)),(17,D.int .i64 ((aC.args.map tx).length:Int)),(18,D.int .i64 dL)],[]⟩
theorem E0(hΓ:Γ.nt=26){aC:aD}{r:Bool}{k1:Option Bool}(di:k1=some r->Ax Γ N f207 (.q [[none]] (D.bool r)) [1,1,1] ⟨[],[]⟩)(hm1:aC.args.length<=maxLen):∀(rest:aG) (i1:Nat),aC.args.drop i1=rest->mC aC k1 rest i1=some r->Ar Γ N f207 (.q [[none]] (D.bool r)) [1,1,0,1,0] (rest.length+1) (Fe aC (i1:Int)):=by
 intro rest
 induction rest with
 |nil=>
  intro i1 az h;rw[mC]at h;refine aQ fun N1 cY cI=>?_
  exact((aY.ge tx az).a [.hl 0 [] []]).ex hΓ cY (di h)
 |cons bU cQ ih1=>
  intro i1 az h;rw[mC]at h;refine aQ fun N1 cY cI=>?_
  obtain⟨vE,h26,h⟩:=aB h;have fk:=(((aY.lt tx az).l (bJ tx 1 (dc az) rfl)).g (k9 h26))
  obtain⟨h27,h⟩|⟨h27,h⟩:=aM h
  ·have h:=aN h;subst h;exact(fk.b h27).ret hΓ
  ·exact((fk.b h27).a [.cn [16,17,18] []]).ct hΓ cI (iS az hm1) (ih1 (i1+1) (dn az) h)
theorem jo{aC:aD}{r:Bool}(h:jB aC=some r):Good prog 207 [D.agg (aD.c aC)] (D.bool r):=by
 refine gd func207 [[none]] 26 fun hr Γ hΓ=>?_
 rw[jB]at h;obtain⟨y1,h2,h⟩:=aB h;obtain⟨h3,h⟩|⟨h3,h⟩:=aM h
 ·have h:=aN h;subst h;exact(((aY.g (mq h2)).r 5 h3).T 1).ret hΓ
 ·have je:=((aY.g (mq h2)).r 5 h3)
  obtain⟨h4,h⟩|⟨h4,h⟩:=aM h
  ·have h:=aN h;subst h;exact(je.b h4).ret hΓ
  ·refine((je.b h4).a [.cn [16,17,18] []]).lp hΓ (E0 hΓ (fun h=>?_) (by have:=(gq.sl (gq.agg (hr _ (aE (i:=0) rfl)) (.sl (aC.args.map tx)) (by simp))).1;simpa using this) aC.args 0 rfl h);have h:=aN h;subst h;exact aY.ret hΓ
def iZ(aC:aD):Option Bool:=(bif (aC.rel:Bytes)==([])then(some ((((aC.args.map tx).length:Int):Int)==0))else(some false))
theorem oA{aC:aD}{r:Bool}(h:iZ aC=some r):Good prog 209 [D.agg (aD.c aC)] (D.bool r):=by
 refine gd func209 [[none]] 12 fun hr Γ hΓ=>?_
 rw[iZ]at h;obtain⟨h1,h⟩|⟨h1,h⟩:=aM h
 ·cases h;exact(aY.r 5 h1).ret hΓ
 ·have h:=aN h;subst h;exact(aY.r 5 h1).ret hΓ
def qZ(aC:aO):Option Bool:=(bif (aC.kind:Int)==1 then((jB aC.pat).bind fun y2=>(bif y2 then(bif (aC.left:Bytes)==([])then(some ((aC.right:Bytes)==([])))else(some false))else(some false)))else(bif (aC.kind:Int)==2 then((jB aC.pat).bind fun y7=>(bif y7 then(bif (aC.left:Bytes)==([])then(some ((aC.right:Bytes)==([])))else(some false))else(some false)))else(bif (aC.kind:Int)==3 then((j0 aC.left).bind fun Pj=>(bif Pj then((j0 aC.right).bind fun Hw=>(bif Hw then((iZ aC.pat).bind fun U2=>(some U2))else(some false)))else(some false)))else(bif (aC.kind:Int)==4 then((j0 aC.left).bind fun NL=>(bif NL then((j0 aC.right).bind fun Gp=>(bif Gp then((iZ aC.pat).bind fun oX=>(some oX))else(some false)))else(some false)))else(bif (aC.kind:Int)==5 then((j0 aC.left).bind fun yW=>(bif yW then((j0 aC.right).bind fun tQ=>(bif tQ then((iZ aC.pat).bind fun Ms=>(some Ms))else(some false)))else(some false)))else(some false))))))
theorem pM{aC:aO}{r:Bool}(h:qZ aC=some r):Good prog 164 [D.agg (aO.c aC)] (D.bool r):=by
 refine gd func164 [[none]] 38 fun hr Γ hΓ=>?_
 rw[qZ]at h;obtain⟨h1,h⟩|⟨h1,h⟩:=aM h
 ·obtain⟨y2,h3,h⟩:=aB h;have nP:=((aY.r 2 h1).g (jo h3))
  obtain⟨h4,h⟩|⟨h4,h⟩:=aM h
  ·have fk:=(nP.r 4 h4)
   obtain⟨h5,h⟩|⟨h5,h⟩:=aM h
   ·cases h;exact(fk.r 4 h5).ret hΓ
   ·have h:=aN h;subst h;exact(fk.r 4 h5).ret hΓ
  ·have h:=aN h;subst h;exact((nP.r 4 h4).F 4).ret hΓ
 ·obtain⟨h6,h⟩|⟨h6,h⟩:=aM h
  ·obtain⟨y7,h8,h⟩:=aB h;have je:=(((aY.b h1).b h6).g (jo h8))
   obtain⟨h9,h⟩|⟨h9,h⟩:=aM h
   ·have jj:=(je.r 4 h9)
    obtain⟨h10,h⟩|⟨h10,h⟩:=aM h
    ·cases h;exact(jj.r 4 h10).ret hΓ
    ·have h:=aN h;subst h;exact(jj.r 4 h10).ret hΓ
   ·have h:=aN h;subst h;exact((je.r 4 h9).F 4).ret hΓ
  ·have sX:=((aY.b h1).b h6)
   obtain⟨h11,h⟩|⟨h11,h⟩:=aM h
   ·obtain⟨Pj,h13,h⟩:=aB h;have vg:=((sX.r 2 h11).g (k9 h13))
    obtain⟨h14,h⟩|⟨h14,h⟩:=aM h
    ·obtain⟨Hw,h16,h⟩:=aB h;have zB:=(((vg.r 3 h14).g (k9 h16)).b h14)
     obtain⟨h17,h⟩|⟨h17,h⟩:=aM h
     ·obtain⟨U2,h19,h⟩:=aB h;have h:=aN h;subst h;exact(((zB.r 3 h17).g (oA h19)).b h17).ret hΓ
     ·have h:=aN h;subst h;exact(zB.r 4 h17).ret hΓ
    ·have h:=aN h;subst h;exact((vg.r 4 h14).F 4).ret hΓ
   ·obtain⟨h20,h⟩|⟨h20,h⟩:=aM h
    ·obtain⟨NL,h22,h⟩:=aB h;have Ez:=(((sX.b h11).r 2 h20).g (k9 h22))
     obtain⟨h23,h⟩|⟨h23,h⟩:=aM h
     ·obtain⟨Gp,h25,h⟩:=aB h;have Kn:=(((Ez.r 3 h23).g (k9 h25)).b h23)
      obtain⟨h26,h⟩|⟨h26,h⟩:=aM h
      ·obtain⟨oX,h28,h⟩:=aB h;have h:=aN h;subst h;exact(((Kn.r 3 h26).g (oA h28)).b h26).ret hΓ
      ·have h:=aN h;subst h;exact(Kn.r 4 h26).ret hΓ
     ·have h:=aN h;subst h;exact((Ez.r 4 h23).F 4).ret hΓ
    ·have Bk:=((sX.b h11).b h20)
     obtain⟨h29,h⟩|⟨h29,h⟩:=aM h
     ·obtain⟨yW,h31,h⟩:=aB h;have JK:=((Bk.b h29).g (k9 h31))
      obtain⟨h32,h⟩|⟨h32,h⟩:=aM h
      ·obtain⟨tQ,h34,h⟩:=aB h;have De:=(((JK.r 3 h32).g (k9 h34)).b h32)
       obtain⟨h35,h⟩|⟨h35,h⟩:=aM h
       ·obtain⟨Ms,h37,h⟩:=aB h;have h:=aN h;subst h;exact(((De.r 3 h35).g (oA h37)).b h35).ret hΓ
       ·have h:=aN h;subst h;exact(De.r 4 h35).ret hΓ
      ·have h:=aN h;subst h;exact((JK.r 4 h32).F 4).ret hΓ
     ·have h:=aN h;subst h;exact(Bk.b h29).ret hΓ
def fe(aC:aG)(k1:aG->Option aG):aG->Nat->aG->Option aG
 | [],i1,bP=>(k1 bP)
 |bU::cQ,i1,bP=>((lK bU).bind fun Gq=>(bif Gq then(bif room ((bP.map tx).length+([[D.str bU]]).length) 16 then(fe aC k1 cQ (i1+1) (bP++([bU])))else none)else(fe aC k1 cQ (i1+1) bP)))
def nB(aC:aG):Option aG:=(fe aC (fun(cH:aG)=>(some cH)) aC 0 ([]:aG))
def yl(aC:aG)(W0:List aL)(dL:Int):St:=⟨[(3,D.acc 0),(6,D.sl (aC.map tx)),(7,D.int .i64 ((aC.map tx).length:Int)),(8,D.int .i64 dL)],[Ob.row .uq 9 1 W0]⟩
theorem EJ(hΓ:Γ.nt=20){aC:aG}{r:aG}{k1:aG->Option aG}(di:∀(cH:aG),k1 cH=some r->Ax Γ N f168 (.q [[some (9,1)]] (D.fr 9 1 (r.map tx))) [1,1,1] ⟨[(3,D.acc 0)],[Ob.row .uq 9 1 (cH.map tx)]⟩)(hm1:aC.length<=maxLen):∀(rest:aG) (i1:Nat) (bP:aG),aC.drop i1=rest->fe aC k1 rest i1 bP=some r->Ar Γ N f168 (.q [[some (9,1)]] (D.fr 9 1 (r.map tx))) [1,1,0,1,0] (rest.length+1) (yl aC (bP.map tx) (i1:Int)):=by
 intro rest
 induction rest with
 |nil=>
  intro i1 bP az h;rw[fe]at h;refine aQ fun N1 cY cI=>?_
  exact((aY.ge tx az).a [.hl 0 [3] [0]]).ex hΓ cY (di bP h)
 |cons bU cQ ih1=>
  intro i1 bP az h;rw[fe]at h;refine aQ fun N1 cY cI=>?_
  obtain⟨Gq,h33,h⟩:=aB h;have fk:=(((aY.lt tx az).l (bJ tx 1 (dc az) rfl)).g (o4 h33))
  obtain⟨h34,h⟩|⟨h34,h⟩:=aM h
  ·obtain⟨h35,h⟩:=bR h;exact(((fk.b h34).w (bf h35)).a [.cn [3,6,7,8] [2]]).cs hΓ cI (yl aC ((bP.map tx)++([[D.str bU]])) (IntKind.i64.wrap ((i1:Int)+1))) (by first| (simp only[iS az hm1,mA]<;>rfl)| (simp only[iS az hm1,mA,aD.c,aX.c,aO.c,Action.c,aK.c,aU.c,dW.c,aZ.c,Node.c,aH.c,dh.c]<;>rfl)) (ih1 (i1+1) (bP++([bU])) (dn az) h)
  ·exact((fk.b h34).a [.cn [3,6,7,8] [0]]).ct hΓ cI (iS az hm1) (ih1 (i1+1) bP (dn az) h)
theorem tF{aC:aG}{r:aG}(h:nB aC=some r):Good prog 168 [D.sl (aC.map tx)] (D.fr 9 1 (r.map tx)):=by
 refine gd func168 [[some (9,1)]] 20 fun hr Γ hΓ=>?_
 rw[nB]at h;refine(aY.a [.Kq 3,.cn [3,6,7,8] [0]]).lp hΓ (EJ hΓ (fun cH h=>?_) (by have:=(gq.sl (hr _ (aE (i:=0) rfl))).1;simpa using this) aC 0 ([]:aG) rfl h);have h:=aN h;subst h;exact aY.ret hΓ
def eC(aC:aG)(k1:aG->Option aG):aG->Nat->aG->Option aG
 | [],i1,bV=>(k1 bV)
 |bU::cQ,i1,bV=>(bif ((i1:Int):Int)==0 then(bif room ((bV.map tx).length+([[D.str bU]]).length) 16 then(eC aC k1 cQ (i1+1) (bV++([bU])))else none)else((iP (oC (([]:aG)++aC)) (IntKind.i64.wrap ((i1:Int)-1))).bind fun x47=>(bif !((x47:Bytes)==bU)then(bif room ((bV.map tx).length+([[D.str bU]]).length) 16 then(eC aC k1 cQ (i1+1) (bV++([bU])))else none)else(eC aC k1 cQ (i1+1) bV))))
def kC(aC:aG):Option aG:=(bif room (([]:List aL).length+(aC.map tx).length) 16 then(bif decide ((([]:aG)++aC).length<4611686018427387904)then(bif decide ((oC (([]:aG)++aC)).length<=maxLen)then(eC aC (fun(cH:aG)=>(some cH)) (oC (([]:aG)++aC)) 0 ([]:aG))else none)else none)else none)
def tC(aC:aG)(W0:List aL)(dL:Int):St:=⟨[(3,D.acc 0),(4,D.acc 1),(11,D.acc 0),(12,D.int .i64 (((oC (([]:aG)++aC)).map tx).length:Int)),(13,D.int .i64 dL)],[Ob.row .uq 9 1 ((oC (([]:aG)++aC)).map tx),Ob.row .uq 9 1 W0]⟩
theorem CC(hΓ:Γ.nt=35){aC:aG}{r:aG}{k1:aG->Option aG}(di:∀(cH:aG),k1 cH=some r->Ax Γ N f170 (.q [[some (9,1)]] (D.fr 9 1 (r.map tx))) [1,1,1,1,1] ⟨[(4,D.acc 0)],[Ob.row .uq 9 1 (cH.map tx)]⟩)(hm1:(oC (([]:aG)++aC)).length<=maxLen):∀(rest:aG) (i1:Nat) (bV:aG),(oC (([]:aG)++aC)).drop i1=rest->eC aC k1 rest i1 bV=some r->Ar Γ N f170 (.q [[some (9,1)]] (D.fr 9 1 (r.map tx))) [1,1,1,1,0,1,0] (rest.length+1) (tC aC (bV.map tx) (i1:Int)):=by
 intro rest
 induction rest with
 |nil=>
  intro i1 bV az h;rw[eC]at h;refine aQ fun N1 cY cI=>?_
  exact((aY.ge tx az).a [.hl 0 [4] [1]]).ex hΓ cY (di bV h)
 |cons bU cQ ih1=>
  intro i1 bV az h;rw[eC]at h;refine aQ fun N1 cY cI=>?_
  have je:=(((aY.lt tx az).i (nU tx 1 (dc az))).o 1 1 .uq (cR tx (dc az)))
  obtain⟨h45,h⟩|⟨h45,h⟩:=aM h
  ·obtain⟨h46,h⟩:=bR h;exact((((je.r 8 h45).T 1).w (bf h46)).a [.cn [3,4,11,12,13] [0,3]]).cs hΓ cI (tC aC ((bV.map tx)++([[D.str bU]])) (IntKind.i64.wrap ((i1:Int)+1))) (by first| (simp only[iS az hm1,mA]<;>rfl)| (simp only[iS az hm1,mA,aD.c,aX.c,aO.c,Action.c,aK.c,aU.c,dW.c,aZ.c,Node.c,aH.c,dh.c]<;>rfl)) (ih1 (i1+1) (bV++([bU])) (dn az) h)
  ·obtain⟨x47,h48,h⟩:=aB h;have jj:=(((((je.r 4 h45).i (gl tx 1 h48)).b h45).o 1 1 .uq (cR tx (eW h48))).r 3 h45)
   obtain⟨h49,h⟩|⟨h49,h⟩:=aM h
   ·obtain⟨h50,h⟩:=bR h;exact(((jj.b h49).w (bf h50)).a [.cn [3,4,11,12,13] [0,3]]).cs hΓ cI (tC aC ((bV.map tx)++([[D.str bU]])) (IntKind.i64.wrap ((i1:Int)+1))) (by first| (simp only[iS az hm1,mA]<;>rfl)| (simp only[iS az hm1,mA,aD.c,aX.c,aO.c,Action.c,aK.c,aU.c,dW.c,aZ.c,Node.c,aH.c,dh.c]<;>rfl)) (ih1 (i1+1) (bV++([bU])) (dn az) h)
   ·exact((jj.b h49).a [.cn [3,4,11,12,13] [0,1]]).ct hΓ cI (iS az hm1) (ih1 (i1+1) bV (dn az) h)
theorem rF{aC:aG}{r:aG}(h:kC aC=some r):Good prog 170 [D.sl (aC.map tx)] (D.fr 9 1 (r.map tx)):=by
 refine gd func170 [[some (9,1)]] 35 fun hr Γ hΓ=>?_
 rw[kC]at h;obtain⟨h1,h⟩:=bR h;obtain⟨h2,h⟩:=bR h;obtain⟨h51,h⟩:=bR h;refine(((((aY.w (bf h1)).w (show(∀r∈(aC.map tx),r.length=1)/\(true=true->D.jv (aC.map tx)=true)from⟨by first|simp| (intro r hr;obtain⟨x,_,rfl⟩:=cE.1 (bu (fJ hr));rfl),by simp[D.jv,D.flat]⟩)).w (show(([]:List aL)++(aC.map tx)).flatten.all D.flat=true from by simpa only[bA,bB,bZ]using QH (([]:aG)++aC))).w (show Pn prog 212 9 1 (([]:List aL)++(aC.map tx)) ((oC (([]:aG)++aC)).map tx)from by simpa only[bA,bB,bZ]using(Fz (e:=9) (bn h2)))).a [.fl true,.mu 0 ((oC (([]:aG)++aC)).map tx),.Kq 4,.cn [3,4,11,12,13] [0,1]]).lp hΓ (CC hΓ (fun cH h=>?_) (bn h51) (oC (([]:aG)++aC)) 0 ([]:aG) rfl h);have h:=aN h;subst h;exact aY.ret hΓ
def fB(aC:aK)(aa:Int)(k1:aG->Option aG):ai->Nat->aG->Option aG
 | [],i1,bP=>(k1 bP)
 |bU::cQ,i1,bP=>(bif decide (((i1:Int):Int)<aa)then(bif (bU.kind:Int)==1 then((nB bU.pat.args).bind fun Ch=>(bif room ((bP.map tx).length+(Ch.map tx).length) 16 then(fB aC aa k1 cQ (i1+1) (bP++Ch))else none))else(fB aC aa k1 cQ (i1+1) bP))else(fB aC aa k1 cQ (i1+1) bP))
def oy(aC:aK)(aa:Int):Option aG:=(fB aC aa (fun(cH:aG)=>((kC cH).bind fun Yu=>(some Yu))) aC.conds 0 ([]:aG))
def yd(aC:aK)(aa:Int)(W0:List aL)(dL:Int):St:=⟨[(1,D.int .i64 aa),(5,D.acc 0),(9,D.sl (aC.conds.map aO.c)),(10,D.int .i64 ((aC.conds.map aO.c).length:Int)),(11,D.int .i64 dL)],[Ob.row .uq 9 1 W0]⟩
theorem Dv(hΓ:Γ.nt=33){aC:aK}{aa:Int}{r:aG}{k1:aG->Option aG}(di:∀(cH:aG),k1 cH=some r->Ax Γ N f166 (.q [[some (9,1)]] (D.fr 9 1 (r.map tx))) [1,1,1] ⟨[(5,D.acc 0)],[Ob.row .uq 9 1 (cH.map tx)]⟩)(hm1:aC.conds.length<=maxLen):∀(rest:ai) (i1:Nat) (bP:aG),aC.conds.drop i1=rest->fB aC aa k1 rest i1 bP=some r->Ar Γ N f166 (.q [[some (9,1)]] (D.fr 9 1 (r.map tx))) [1,1,0,1,0] (rest.length+1) (yd aC aa (bP.map tx) (i1:Int)):=by
 intro rest
 induction rest with
 |nil=>
  intro i1 bP az h;rw[fB]at h;refine aQ fun N1 cY cI=>?_
  exact((aY.ge aO.c az).a [.hl 0 [5] [0]]).ex hΓ cY (di bP h)
 |cons bU cQ ih1=>
  intro i1 bP az h;rw[fB]at h;refine aQ fun N1 cY cI=>?_
  have je:=((aY.lt aO.c az).l (bJ aO.c 5 (dc az) rfl))
  obtain⟨h37,h⟩|⟨h37,h⟩:=aM h
  ·have jj:=(je.r 4 h37)
   obtain⟨h38,h⟩|⟨h38,h⟩:=aM h
   ·obtain⟨Ch,h40,h⟩:=aB h;obtain⟨h41,h⟩:=bR h;exact((((jj.b h38).g (tF h40)).w (bf h41)).a [.cn [1,5,9,10,11] [3]]).cs hΓ cI (yd aC aa ((bP.map tx)++(Ch.map tx)) (IntKind.i64.wrap ((i1:Int)+1))) (by first| (simp only[iS az hm1,mA]<;>rfl)| (simp only[iS az hm1,mA,aD.c,aX.c,aO.c,Action.c,aK.c,aU.c,dW.c,aZ.c,Node.c,aH.c,dh.c]<;>rfl)) (ih1 (i1+1) (bP++Ch) (dn az) h)
   ·exact((jj.b h38).a [.cn [1,5,9,10,11] [0]]).ct hΓ cI (iS az hm1) (ih1 (i1+1) bP (dn az) h)
  ·exact(((je.r 4 h37).F 1).a [.cn [1,5,9,10,11] [0]]).ct hΓ cI (iS az hm1) (ih1 (i1+1) bP (dn az) h)
theorem wj{aC:aK}{aa:Int}{r:aG}(h:oy aC aa=some r):Good prog 166 [D.agg (aK.c aC),D.int .i64 aa] (D.fr 9 1 (r.map tx)):=by
 refine gd func166 [[some (9,1)]] 33 fun hr Γ hΓ=>?_
 rw[oy]at h;refine(aY.a [.Kq 5,.cn [1,5,9,10,11] [1]]).lp hΓ (Dv hΓ (fun cH h=>?_) (by have:=(gq.sl (gq.agg (hr _ (aE (i:=0) rfl)) (.sl (aC.conds.map aO.c)) (by simp))).1;simpa using this) aC.conds 0 ([]:aG) rfl h);obtain⟨Yu,h43,h⟩:=aB h;have h:=aN h;subst h;exact(aY.g (rF h43)).ret hΓ
def n9(aC:aG):Option aG:=(bif room (([]:List aL).length+(aC.map tx).length) 16 then(some (([]:aG)++aC))else none)
theorem tE{aC:aG}{r:aG}(h:n9 aC=some r):Good prog 183 [D.sl (aC.map tx)] (D.fr 9 1 (r.map tx)):=by
 refine gd func183 [[some (9,1)]] 5 fun hr Γ hΓ=>?_
 rw[n9]at h;obtain⟨h1,h⟩:=bR h;cases h;exact(((aY.w (bf h1)).w (show(∀r∈(aC.map tx),r.length=1)/\(true=true->D.jv (aC.map tx)=true)from⟨by first|simp| (intro r hr;obtain⟨x,_,rfl⟩:=cE.1 (bu (fJ hr));rfl),by simp[D.jv,D.flat]⟩)).a [.Kq 2,.fl true]).rts hΓ (D.fr 9 1 (([]:List aL)++(aC.map tx))) (by first|rfl| (simp only[mA]<;>rfl)| (simp only[bw,mA]<;>rfl))
def rM(aC:aO):Option aG:=((n9 aC.pat.args).bind fun y1=>(bif room ((y1.map tx).length+(([aC.left,aC.right]:aG).map tx).length) 16 then(some (y1++([aC.left,aC.right]:aG)))else none))
theorem yj{aC:aO}{r:aG}(h:rM aC=some r):Good prog 141 [D.agg (aO.c aC)] (D.fr 9 1 (r.map tx)):=by
 refine gd func141 [[some (9,1)]] 13 fun hr Γ hΓ=>?_
 rw[rM]at h;obtain⟨y1,h2,h⟩:=aB h;obtain⟨h3,h⟩:=bR h;cases h;exact(((aY.a [.Kq 2,.n 9]).g (tE h2)).w (bf h3)).rts hΓ (D.fr 9 1 ((y1.map tx)++(([aC.left,aC.right]:aG).map tx))) (by first|rfl| (simp only[mA]<;>rfl)| (simp only[bw,mA]<;>rfl))
def oI(aC:aO):Option aG:=((rM aC).bind fun y1=>((nB y1).bind fun y3=>((kC y3).bind fun y5=>(some y5))))
theorem tZ{aC:aO}{r:aG}(h:oI aC=some r):Good prog 210 [D.agg (aO.c aC)] (D.fr 9 1 (r.map tx)):=by
 refine gd func210 [[some (9,1)]] 7 fun hr Γ hΓ=>?_
 rw[oI]at h;obtain⟨y1,h2,h⟩:=aB h;obtain⟨y3,h4,h⟩:=aB h;obtain⟨y5,h6,h⟩:=aB h;have h:=aN h;subst h;exact(((aY.g (yj h2)).g (tF h4)).g (rF h6)).ret hΓ
def lR(aC:aG)(aa:Bytes)(k1:Option Bool):aG->Nat->Option Bool
 | [],i1=>(k1)
 |bU::cQ,i1=>(bif (bU:Bytes)==aa then(some true)else(lR aC aa k1 cQ (i1+1)))
def lQ(aC:aG)(aa:Bytes):Option Bool:=(lR aC aa (some false) aC 0)
def IN(aC:aG)(aa:Bytes)(dL:Int):St:=⟨[(1,D.str aa),(7,D.sl (aC.map tx)),(8,D.int .i64 ((aC.map tx).length:Int)),(9,D.int .i64 dL)],[]⟩
theorem HC(hΓ:Γ.nt=17){aC:aG}{aa:Bytes}{r:Bool}{k1:Option Bool}(di:k1=some r->Ax Γ N f169 (.q [[none]] (D.bool r)) [1,1] ⟨[],[]⟩)(hm1:aC.length<=maxLen):∀(rest:aG) (i1:Nat),aC.drop i1=rest->lR aC aa k1 rest i1=some r->Ar Γ N f169 (.q [[none]] (D.bool r)) [1,0,1,0] (rest.length+1) (IN aC aa (i1:Int)):=by
 intro rest
 induction rest with
 |nil=>
  intro i1 az h;rw[lR]at h;refine aQ fun N1 cY cI=>?_
  exact((aY.ge tx az).a [.hl 0 [] []]).ex hΓ cY (di h)
 |cons bU cQ ih1=>
  intro i1 az h;rw[lR]at h;refine aQ fun N1 cY cI=>?_
  have fk:=((aY.lt tx az).l (bJ tx 1 (dc az) rfl))
  obtain⟨h13,h⟩|⟨h13,h⟩:=aM h
  ·have h:=aN h;subst h;exact(fk.b h13).ret hΓ
  ·exact((fk.b h13).a [.cn [1,7,8,9] []]).ct hΓ cI (iS az hm1) (ih1 (i1+1) (dn az) h)
theorem qt{aC:aG}{aa:Bytes}{r:Bool}(h:lQ aC aa=some r):Good prog 169 [D.sl (aC.map tx),D.str aa] (D.bool r):=by
 refine gd func169 [[none]] 17 fun hr Γ hΓ=>?_
 rw[lQ]at h;refine(aY.a [.cn [1,7,8,9] []]).lp hΓ (HC hΓ (fun h=>?_) (by have:=(gq.sl (hr _ (aE (i:=0) rfl))).1;simpa using this) aC 0 rfl h);have h:=aN h;subst h;exact aY.ret hΓ
def eH(aC:aK)(aa:Int)(cS:Bytes)(k1:Option Bool):ai->Nat->Option Bool
 | [],i1=>(k1)
 |bU::cQ,i1=>(bif ((i1:Int):Int) != aa then((oI bU).bind fun Dm=>((lQ Dm cS).bind fun Ms=>(bif Ms then(some true)else(eH aC aa cS k1 cQ (i1+1)))))else(eH aC aa cS k1 cQ (i1+1)))
def fD(aC:aK)(cS:Bytes)(k2:Option Bool):eF->Nat->Option Bool
 | [],i2=>(k2)
 |lq::tR,i2=>((lQ lq.pat.args cS).bind fun y59=>(bif y59 then(some true)else(fD aC cS k2 tR (i2+1))))
def lS(aC:aK)(aa:Int)(cS:Bytes):Option Bool:=(eH aC aa cS (fD aC cS (some false) aC.cK 0) aC.conds 0)
def AP(aC:aK)(aa:Int)(cS:Bytes)(dL:Int):St:=⟨[(1,D.int .i64 aa),(2,D.str cS),(3,D.ptr 0 0),(12,D.sl (aC.conds.map aO.c)),(13,D.int .i64 ((aC.conds.map aO.c).length:Int)),(14,D.int .i64 dL)],[Ob.box (aK.c aC)]⟩
theorem zf(hΓ:Γ.nt=42){aC:aK}{aa:Int}{cS:Bytes}{r:Bool}{k1:Option Bool}(di:k1=some r->Ax Γ N f211 (.q [[none]] (D.bool r)) [1,1] ⟨[(2,D.str cS),(3,D.ptr 0 0)],[Ob.box (aK.c aC)]⟩)(hm1:aC.conds.length<=maxLen):∀(rest:ai) (i1:Nat),aC.conds.drop i1=rest->eH aC aa cS k1 rest i1=some r->Ar Γ N f211 (.q [[none]] (D.bool r)) [1,0,1,0] (rest.length+1) (AP aC aa cS (i1:Int)):=by
 intro rest
 induction rest with
 |nil=>
  intro i1 az h;rw[eH]at h;refine aQ fun N1 cY cI=>?_
  exact((aY.ge aO.c az).a [.hl 0 [2,3] [0]]).ex hΓ cY (di h)
 |cons bU cQ ih1=>
  intro i1 az h;rw[eH]at h;refine aQ fun N1 cY cI=>?_
  have jj:=((aY.lt aO.c az).l (bJ aO.c 5 (dc az) rfl))
  obtain⟨h33,h⟩|⟨h33,h⟩:=aM h
  ·obtain⟨Dm,h35,h⟩:=aB h;obtain⟨Ms,h37,h⟩:=aB h;have sX:=(((((jj.r 2 h33).g (tZ h35)).r 2 h33).g (qt h37)).b h33)
   obtain⟨h38,h⟩|⟨h38,h⟩:=aM h
   ·have h:=aN h;subst h;exact(sX.b h38).ret hΓ
   ·exact((sX.b h38).a [.cn [1,2,3,12,13,14] [0]]).ct hΓ cI (iS az hm1) (ih1 (i1+1) (dn az) h)
  ·exact(((jj.r 5 h33).F 1).a [.cn [1,2,3,12,13,14] [0]]).ct hΓ cI (iS az hm1) (ih1 (i1+1) (dn az) h)
def AQ(aC:aK)(cS:Bytes)(dL:Int):St:=⟨[(2,D.str cS),(30,D.sl (aC.cK.map Action.c)),(31,D.int .i64 ((aC.cK.map Action.c).length:Int)),(32,D.int .i64 dL)],[]⟩
theorem zg(hΓ:Γ.nt=42){aC:aK}{cS:Bytes}{r:Bool}{k2:Option Bool}(AJ:k2=some r->Ax Γ N f211 (.q [[none]] (D.bool r)) [1,1,1] ⟨[],[]⟩)(hm2:aC.cK.length<=maxLen):∀(rest:eF) (i2:Nat),aC.cK.drop i2=rest->fD aC cS k2 rest i2=some r->Ar Γ N f211 (.q [[none]] (D.bool r)) [1,1,0,1,0] (rest.length+1) (AQ aC cS (i2:Int)):=by
 intro rest
 induction rest with
 |nil=>
  intro i2 hd2 h;rw[fD]at h;refine aQ fun N2 ue sB=>?_
  exact((aY.ge Action.c hd2).a [.hl 0 [] []]).ex hΓ ue (AJ h)
 |cons lq tR ih2=>
  intro i2 hd2 h;rw[fD]at h;refine aQ fun N2 ue sB=>?_
  obtain⟨y59,h60,h⟩:=aB h;have vg:=(((aY.lt Action.c hd2).l (bJ Action.c 3 (dc hd2) rfl)).g (qt h60))
  obtain⟨h61,h⟩|⟨h61,h⟩:=aM h
  ·have h:=aN h;subst h;exact(vg.b h61).ret hΓ
  ·exact((vg.b h61).a [.cn [2,30,31,32] []]).ct hΓ sB (iS hd2 hm2) (ih2 (i2+1) (dn hd2) h)
theorem z6{aC:aK}{aa:Int}{cS:Bytes}{r:Bool}(h:lS aC aa cS=some r):Good prog 211 [D.agg (aK.c aC),D.int .i64 aa,D.str cS] (D.bool r):=by
 refine gd func211 [[none]] 42 fun hr Γ hΓ=>?_
 rw[lS]at h;refine(aY.a [.cn [1,2,3,12,13,14] [0]]).lp hΓ (zf hΓ (fun h=>?_) (by have:=(gq.sl (gq.agg (hr _ (aE (i:=0) rfl)) (.sl (aC.conds.map aO.c)) (by simp))).1;simpa using this) aC.conds 0 rfl h);refine(aY.a [.cn [2,30,31,32] []]).lp hΓ (zg hΓ (fun h=>?_) (by have:=(gq.sl (gq.agg (hr _ (aE (i:=0) rfl)) (.sl (aC.cK.map Action.c)) (by simp))).1;simpa using this) aC.cK 0 rfl h);have h:=aN h;subst h;exact aY.ret hΓ
def gW(aC:aK)(aa:Int)(x1:aO)(y3:aG)(y5:aG)(k1:Option Bool):aG->Nat->Option Bool
 | [],i1=>(k1)
 |bU::cQ,i1=>(bif (x1.kind:Int)==1 then(gW aC aa x1 y3 y5 k1 cQ (i1+1))else((lQ y3 bU).bind fun KX=>(bif KX then(gW aC aa x1 y3 y5 k1 cQ (i1+1))else(bif (x1.kind:Int) != 2 then(some false)else((lS aC aa bU).bind fun y53=>(bif y53 then(some false)else(gW aC aa x1 y3 y5 k1 cQ (i1+1))))))))
def pZ(aC:aK)(aa:Int):Option Bool:=((iP aC.conds aa).bind fun x1=>((oy aC aa).bind fun y3=>((oI x1).bind fun y5=>(bif decide (y5.length<=maxLen)then(gW aC aa x1 y3 y5 (some true) y5 0)else none))))
def HB(aC:aK)(aa:Int)(x1:aO)(y3:aG)(y5:aG)(dL:Int):St:=⟨[(1,D.int .i64 aa),(2,D.ptr 0 0),(5,D.ptr 1 0),(6,D.acc 2),(18,D.acc 3),(19,D.int .i64 ((y5.map tx).length:Int)),(20,D.int .i64 dL)],[Ob.box (aK.c aC),Ob.box [D.int .i64 x1.kind,D.str x1.pat.rel,D.sl (x1.pat.args.map tx),D.str x1.left,D.str x1.right],Ob.row .uq 9 1 (y3.map tx),Ob.row .uq 9 1 (y5.map tx)]⟩
theorem Fk(hΓ:Γ.nt=42){aC:aK}{aa:Int}{x1:aO}{y3:aG}{y5:aG}{r:Bool}{k1:Option Bool}(di:k1=some r->Ax Γ N f165 (.q [[none]] (D.bool r)) [1,1,1,1] ⟨[],[]⟩)(hm1:y5.length<=maxLen):∀(rest:aG) (i1:Nat),y5.drop i1=rest->gW aC aa x1 y3 y5 k1 rest i1=some r->Ar Γ N f165 (.q [[none]] (D.bool r)) [1,1,1,0,1,0] (rest.length+1) (HB aC aa x1 y3 y5 (i1:Int)):=by
 intro rest
 induction rest with
 |nil=>
  intro i1 az h;rw[gW]at h;refine aQ fun N1 cY cI=>?_
  exact((aY.ge tx az).a [.hl 0 [] []]).ex hΓ cY (di h)
 |cons bU cQ ih1=>
  intro i1 az h;rw[gW]at h;refine aQ fun N1 cY cI=>?_
  have jj:=(((aY.lt tx az).i (nU tx 1 (dc az))).o 1 1 .uq (cR tx (dc az)))
  obtain⟨h48,h⟩|⟨h48,h⟩:=aM h
  ·exact(((jj.r 4 h48).T 1).a [.cn [1,2,5,6,18,19,20] [0,1,2,3]]).ct hΓ cI (iS az hm1) (ih1 (i1+1) (dn az) h)
  ·obtain⟨KX,h50,h⟩:=aB h;have sX:=(((jj.r 3 h48).g (qt h50)).b h48)
   obtain⟨h51,h⟩|⟨h51,h⟩:=aM h
   ·exact((sX.b h51).a [.cn [1,2,5,6,18,19,20] [0,1,2,3]]).ct hΓ cI (iS az hm1) (ih1 (i1+1) (dn az) h)
   ·obtain⟨h52,h⟩|⟨h52,h⟩:=aM h
    ·have h:=aN h;subst h;exact(((sX.b h51).r 5 h52).T 1).ret hΓ
    ·obtain⟨y53,h54,h⟩:=aB h;have vg:=((((sX.b h51).r 4 h52).g (z6 h54)).b h52)
     obtain⟨h55,h⟩|⟨h55,h⟩:=aM h
     ·have h:=aN h;subst h;exact(vg.b h55).ret hΓ
     ·exact((vg.b h55).a [.cn [1,2,5,6,18,19,20] [0,1,2,3]]).ct hΓ cI (iS az hm1) (ih1 (i1+1) (dn az) h)
theorem xd{aC:aK}{aa:Int}{r:Bool}(h:pZ aC aa=some r):Good prog 165 [D.agg (aK.c aC),D.int .i64 aa] (D.bool r):=by
 refine gd func165 [[none]] 42 fun hr Γ hΓ=>?_
 rw[pZ]at h;obtain⟨x1,h2,h⟩:=aB h;obtain⟨y3,h4,h⟩:=aB h;obtain⟨y5,h6,h⟩:=aB h;obtain⟨h56,h⟩:=bR h;refine((((aY.l (fO aO.c 5 h2 rfl)).g (wj h4)).g (tZ h6)).a [.cn [1,2,5,6,18,19,20] [0,1,2,3]]).lp hΓ (Fk hΓ (fun h=>?_) (bn h56) y5 0 rfl h);have h:=aN h;subst h;exact aY.ret hΓ
def sH(aC:Action):Option Bool:=(bif (aC.kind:Int)==1 then((jB aC.pat).bind fun y2=>(some y2))else(bif (aC.kind:Int)==2 then((jB aC.pat).bind fun y5=>(some y5))else(bif (aC.kind:Int)==3 then((iZ aC.pat).bind fun y8=>(some y8))else(some false))))
theorem Dy{aC:Action}{r:Bool}(h:sH aC=some r):Good prog 167 [D.agg (Action.c aC)] (D.bool r):=by
 refine gd func167 [[none]] 16 fun hr Γ hΓ=>?_
 rw[sH]at h;obtain⟨h1,h⟩|⟨h1,h⟩:=aM h
 ·obtain⟨y2,h3,h⟩:=aB h;have h:=aN h;subst h;exact((aY.r 2 h1).g (jo h3)).ret hΓ
 ·obtain⟨h4,h⟩|⟨h4,h⟩:=aM h
  ·obtain⟨y5,h6,h⟩:=aB h;have h:=aN h;subst h;exact(((aY.b h1).b h4).g (jo h6)).ret hΓ
  ·have nP:=((aY.b h1).b h4)
   obtain⟨h7,h⟩|⟨h7,h⟩:=aM h
   ·obtain⟨y8,h9,h⟩:=aB h;have h:=aN h;subst h;exact((nP.b h7).g (oA h9)).ret hΓ
   ·have h:=aN h;subst h;exact(nP.b h7).ret hΓ
def gO(aC:ai)(k1:aG->Option aG):ai->Nat->aG->Option aG
 | [],i1,bP=>(k1 bP)
 |bU::cQ,i1,bP=>((oI bU).bind fun oX=>(bif room ((bP.map tx).length+(oX.map tx).length) 16 then(gO aC k1 cQ (i1+1) (bP++oX))else none))
def qK(aC:ai):Option aG:=(gO aC (fun(cH:aG)=>(some cH)) aC 0 ([]:aG))
def xe(aC:ai)(W0:List aL)(dL:Int):St:=⟨[(3,D.acc 0),(6,D.sl (aC.map aO.c)),(7,D.int .i64 ((aC.map aO.c).length:Int)),(8,D.int .i64 dL)],[Ob.row .uq 9 1 W0]⟩
theorem DC(hΓ:Γ.nt=18){aC:ai}{r:aG}{k1:aG->Option aG}(di:∀(cH:aG),k1 cH=some r->Ax Γ N f171 (.q [[some (9,1)]] (D.fr 9 1 (r.map tx))) [1,1,1] ⟨[(3,D.acc 0)],[Ob.row .uq 9 1 (cH.map tx)]⟩)(hm1:aC.length<=maxLen):∀(rest:ai) (i1:Nat) (bP:aG),aC.drop i1=rest->gO aC k1 rest i1 bP=some r->Ar Γ N f171 (.q [[some (9,1)]] (D.fr 9 1 (r.map tx))) [1,1,0,1,0] (rest.length+1) (xe aC (bP.map tx) (i1:Int)):=by
 intro rest
 induction rest with
 |nil=>
  intro i1 bP az h;rw[gO]at h;refine aQ fun N1 cY cI=>?_
  exact((aY.ge aO.c az).a [.hl 0 [3] [0]]).ex hΓ cY (di bP h)
 |cons bU cQ ih1=>
  intro i1 bP az h;rw[gO]at h;refine aQ fun N1 cY cI=>?_
  obtain⟨oX,h28,h⟩:=aB h;obtain⟨h29,h⟩:=bR h;exact(((((aY.lt aO.c az).l (bJ aO.c 5 (dc az) rfl)).g (tZ h28)).w (bf h29)).a [.cn [3,6,7,8] [3]]).cs hΓ cI (xe aC ((bP.map tx)++(oX.map tx)) (IntKind.i64.wrap ((i1:Int)+1))) (by first| (simp only[iS az hm1,mA]<;>rfl)| (simp only[iS az hm1,mA,aD.c,aX.c,aO.c,Action.c,aK.c,aU.c,dW.c,aZ.c,Node.c,aH.c,dh.c]<;>rfl)) (ih1 (i1+1) (bP++oX) (dn az) h)
theorem CD{aC:ai}{r:aG}(h:qK aC=some r):Good prog 171 [D.sl (aC.map aO.c)] (D.fr 9 1 (r.map tx)):=by
 refine gd func171 [[some (9,1)]] 18 fun hr Γ hΓ=>?_
 rw[qK]at h;refine(aY.a [.Kq 3,.cn [3,6,7,8] [0]]).lp hΓ (DC hΓ (fun cH h=>?_) (by have:=(gq.sl (hr _ (aE (i:=0) rfl))).1;simpa using this) aC 0 ([]:aG) rfl h);have h:=aN h;subst h;exact aY.ret hΓ
def jC(aC:aK)(k1:Option Bool):ai->Nat->Option Bool
 | [],i1=>(k1)
 |bU::cQ,i1=>((qZ bU).bind fun y62=>(bif !(y62)then(some false)else(bif ((i1:Int):Int)==0 then(bif (bU.kind:Int) != 1 then(some false)else((pZ aC (i1:Int)).bind fun VH=>(bif !(VH)then(some false)else(jC aC k1 cQ (i1+1)))))else((pZ aC (i1:Int)).bind fun y70=>(bif !(y70)then(some false)else(jC aC k1 cQ (i1+1)))))))
def n7(aC:aK)(Dk:aG)(i2:Nat)(B6:aG)(k3:Option Bool):aG->Nat->Option Bool
 | [],i3=>(k3)
 |RG::Pc,i3=>((lQ Dk RG).bind fun a7A=>(bif !(a7A)then(some false)else(n7 aC Dk i2 B6 k3 Pc (i3+1))))
def mw(aC:aK)(Dk:aG)(k2:Option Bool):eF->Nat->Option Bool
 | [],i2=>(k2)
 |lq::tR,i2=>((sH lq).bind fun a79=>(bif !(a79)then(some false)else((nB lq.pat.args).bind fun B6=>(bif decide (B6.length<=maxLen)then(n7 aC Dk i2 B6 (mw aC Dk k2 tR (i2+1)) B6 0)else none))))
def uj(aC:aK):Option Bool:=((qc aC.name).bind fun y1=>(bif !(y1)then(some false)else(bif decide ((aC.prio:Int)<0)then(some false)else(bif decide ((aC.prio:Int)>9)then(some false)else(bif decide ((((aC.conds.map aO.c).length:Int):Int)<1)then(some false)else(bif decide ((((aC.conds.map aO.c).length:Int):Int)>4)then(some false)else(bif decide ((((aC.cK.map Action.c).length:Int):Int)<1)then(some false)else(bif decide ((((aC.cK.map Action.c).length:Int):Int)>2)then(some false)else(jC aC ((oy aC ((aC.conds.map aO.c).length:Int)).bind fun Dk=>(mw aC Dk ((qK aC.conds).bind fun a7B=>((kC a7B).bind fun a7C=>(some (decide ((((a7C.map tx).length:Int):Int)<=6))))) aC.cK 0)) aC.conds 0)))))))))
def Jv(aC:aK)(dL:Int):St:=⟨[(1,D.ptr 0 0),(49,D.sl (aC.conds.map aO.c)),(50,D.int .i64 ((aC.conds.map aO.c).length:Int)),(51,D.int .i64 dL)],[Ob.box (aK.c aC)]⟩
theorem IE(hΓ:Γ.nt=111){aC:aK}{r:Bool}{k1:Option Bool}(di:k1=some r->Ax Γ N f101 (.q [[none]] (D.bool r)) [1,1,1] ⟨[(1,D.ptr 0 0)],[Ob.box (aK.c aC)]⟩)(hm1:aC.conds.length<=maxLen):∀(rest:ai) (i1:Nat),aC.conds.drop i1=rest->jC aC k1 rest i1=some r->Ar Γ N f101 (.q [[none]] (D.bool r)) [1,1,0,1,0] (rest.length+1) (Jv aC (i1:Int)):=by
 intro rest
 induction rest with
 |nil=>
  intro i1 az h;rw[jC]at h;refine aQ fun N1 cY cI=>?_
  exact((aY.ge aO.c az).a [.hl 0 [1] [0]]).ex hΓ cY (di h)
 |cons bU cQ ih1=>
  intro i1 az h;rw[jC]at h;refine aQ fun N1 cY cI=>?_
  obtain⟨y62,h63,h⟩:=aB h;have De:=(((aY.lt aO.c az).l (bJ aO.c 5 (dc az) rfl)).g (pM h63))
  obtain⟨h64,h⟩|⟨h64,h⟩:=aM h
  ·have h:=aN h;subst h;exact((((De.r 3 h64).a [bF,bF,bF]).r 2 h64).T 6).ret hΓ
  ·have JL:=(De.r 3 h64)
   obtain⟨h65,h⟩|⟨h65,h⟩:=aM h
   ·have JM:=((((JL.r 3 h65).b h64).b h65).b h64)
    obtain⟨h66,h⟩|⟨h66,h⟩:=aM h
    ·have h:=aN h;subst h;exact((JM.r 5 h66).T 1).ret hΓ
    ·obtain⟨VH,h68,h⟩:=aB h;have Qo:=(((JM.r 3 h66).g (xd h68)).r 2 h66)
     obtain⟨h69,h⟩|⟨h69,h⟩:=aM h
     ·have h:=aN h;subst h;exact(Qo.b h69).ret hΓ
     ·exact((Qo.b h69).a [.cn [1,49,50,51] [0]]).ct hΓ cI (iS az hm1) (ih1 (i1+1) (dn az) h)
   ·obtain⟨y70,h71,h⟩:=aB h;have Qp:=(((((((JL.r 3 h65).b h64).b h65).b h64).F 3).g (xd h71)).F 2)
    obtain⟨h72,h⟩|⟨h72,h⟩:=aM h
    ·have h:=aN h;subst h;exact(Qp.b h72).ret hΓ
    ·exact((Qp.b h72).a [.cn [1,49,50,51] [0]]).ct hΓ cI (iS az hm1) (ih1 (i1+1) (dn az) h)
def Jw(aC:aK)(Dk:aG)(dL:Int):St:=⟨[(1,D.ptr 0 0),(5,D.acc 1),(81,D.sl (aC.cK.map Action.c)),(82,D.int .i64 ((aC.cK.map Action.c).length:Int)),(83,D.int .i64 dL)],[Ob.box (aK.c aC),Ob.row .uq 9 1 (Dk.map tx)]⟩
def Jx(aC:aK)(Dk:aG)(i2:Nat)(B6:aG)(dL:Int):St:=⟨[(1,D.ptr 0 0),(5,D.acc 1),(81,D.sl (aC.cK.map Action.c)),(82,D.int .i64 ((aC.cK.map Action.c).length:Int)),(83,D.int .i64 (i2:Int)),(93,D.acc 2),(94,D.int .i64 ((B6.map tx).length:Int)),(95,D.int .i64 dL)],[Ob.box (aK.c aC),Ob.row .uq 9 1 (Dk.map tx),Ob.row .uq 9 1 (B6.map tx)]⟩
theorem IG(hΓ:Γ.nt=111){aC:aK}{Dk:aG}{i2:Nat}{B6:aG}{r:Bool}{k3:Option Bool}(Zm:k3=some r->Ax Γ N f101 (.q [[none]] (D.bool r)) [1,1,1,1,0,1,0,0,1,1,1] ⟨[(1,D.ptr 0 0),(5,D.acc 1),(81,D.sl (aC.cK.map Action.c)),(82,D.int .i64 ((aC.cK.map Action.c).length:Int)),(83,D.int .i64 (i2:Int))],[Ob.box (aK.c aC),Ob.row .uq 9 1 (Dk.map tx)]⟩)(Rm:B6.length<=maxLen):∀(rest:aG) (i3:Nat),B6.drop i3=rest->n7 aC Dk i2 B6 k3 rest i3=some r->Ar Γ N f101 (.q [[none]] (D.bool r)) [1,1,1,1,0,1,0,0,1,1,0,0,1,1,1,0] (rest.length+1) (Jx aC Dk i2 B6 (i3:Int)):=by
 intro rest
 induction rest with
 |nil=>
  intro i3 z8 h;rw[n7]at h;refine aQ fun N3 TN OW=>?_
  exact((aY.ge tx z8).a [.hl 3 [1,5,81,82,83] [0,1]]).ex hΓ TN (Zm h)
 |cons RG Pc ih3=>
  intro i3 z8 h;rw[n7]at h;refine aQ fun N3 TN OW=>?_
  obtain⟨a7A,h230,h⟩:=aB h;have a6A:=((((aY.lt tx z8).i (nU tx 1 (dc z8))).o 1 1 .uq (cR tx (dc z8))).g (qt h230))
  obtain⟨h231,h⟩|⟨h231,h⟩:=aM h
  ·have h:=aN h;subst h;exact(a6A.b h231).ret hΓ
  ·exact((a6A.b h231).a [.cn [1,5,81,82,83,93,94,95] [0,1,2]]).ct hΓ OW (iS z8 Rm) (ih3 (i3+1) (dn z8) h)
theorem IF(hΓ:Γ.nt=111){aC:aK}{Dk:aG}{r:Bool}{k2:Option Bool}(AJ:k2=some r->Ax Γ N f101 (.q [[none]] (D.bool r)) [1,1,1,1,1] ⟨[(1,D.ptr 0 0)],[Ob.box (aK.c aC)]⟩)(hm2:aC.cK.length<=maxLen):∀(rest:eF) (i2:Nat),aC.cK.drop i2=rest->mw aC Dk k2 rest i2=some r->Ar Γ N f101 (.q [[none]] (D.bool r)) [1,1,1,1,0,1,0] (rest.length+1) (Jw aC Dk (i2:Int)):=by
 intro rest
 induction rest with
 |nil=>
  intro i2 hd2 h;rw[mw]at h;refine aQ fun N2 ue sB=>?_
  exact((aY.ge Action.c hd2).a [.hl 0 [1] [0]]).ex hΓ ue (AJ h)
 |cons lq tR ih2=>
  intro i2 hd2 h;rw[mw]at h;refine aQ fun N2 ue sB=>?_
  obtain⟨a79,h204,h⟩:=aB h;have a6B:=(((aY.lt Action.c hd2).l (bJ Action.c 3 (dc hd2) rfl)).g (Dy h204))
  obtain⟨h205,h⟩|⟨h205,h⟩:=aM h
  ·have h:=aN h;subst h;exact(a6B.b h205).ret hΓ
  ·obtain⟨B6,h207,h⟩:=aB h;obtain⟨h232,h⟩:=bR h;refine(((a6B.b h205).g (tF h207)).a [.cn [1,5,81,82,83,93,94,95] [0,1,3]]).lp hΓ (IG hΓ (fun h=>?_) (bn h232) B6 0 rfl h);exact(aY.a [.cn [1,5,81,82,83] [0,1]]).ct hΓ sB (iS hd2 hm2) (ih2 (i2+1) (dn hd2) h)
theorem Gz{aC:aK}{r:Bool}(h:uj aC=some r):Good prog 101 [D.agg (aK.c aC)] (D.bool r):=by
 refine gd func101 [[none]] 111 fun hr Γ hΓ=>?_
 rw[uj]at h;obtain⟨y1,h2,h⟩:=aB h;obtain⟨h3,h⟩|⟨h3,h⟩:=aM h
 ·have h:=aN h;subst h;exact(((aY.g (mq h2)).r 4 h3).T 25).ret hΓ
 ·have a6C:=((aY.g (mq h2)).r 4 h3)
  obtain⟨h4,h⟩|⟨h4,h⟩:=aM h
  ·have h:=aN h;subst h;exact((a6C.r 4 h4).T 21).ret hΓ
  ·have a6D:=(a6C.r 4 h4)
   obtain⟨h5,h⟩|⟨h5,h⟩:=aM h
   ·have h:=aN h;subst h;exact((a6D.r 5 h5).T 16).ret hΓ
   ·have a6E:=(a6D.r 5 h5)
    obtain⟨h6,h⟩|⟨h6,h⟩:=aM h
    ·have h:=aN h;subst h;exact((a6E.r 5 h6).T 11).ret hΓ
    ·have a6F:=(a6E.r 5 h6)
     obtain⟨h7,h⟩|⟨h7,h⟩:=aM h
     ·have h:=aN h;subst h;exact((a6F.r 5 h7).T 6).ret hΓ
     ·have a6G:=(a6F.r 5 h7)
      obtain⟨h8,h⟩|⟨h8,h⟩:=aM h
      ·have h:=aN h;subst h;exact((a6G.r 5 h8).T 1).ret hΓ
      ·have a6H:=(a6G.r 5 h8)
       obtain⟨h9,h⟩|⟨h9,h⟩:=aM h
       ·have h:=aN h;subst h;exact(a6H.b h9).ret hΓ
       ·refine((a6H.b h9).a [.cn [1,49,50,51] [0]]).lp hΓ (IE hΓ (fun h=>?_) (by have:=(gq.sl (gq.agg (hr _ (aE (i:=0) rfl)) (.sl (aC.conds.map aO.c)) (by simp))).1;simpa using this) aC.conds 0 rfl h);obtain⟨Dk,h74,h⟩:=aB h;refine((aY.g (wj h74)).a [.cn [1,5,81,82,83] [0,1]]).lp hΓ (IF hΓ (fun h=>?_) (by have:=(gq.sl (gq.agg (hr _ (aE (i:=0) rfl)) (.sl (aC.cK.map Action.c)) (by simp))).1;simpa using this) aC.cK 0 rfl h);obtain⟨a7B,h234,h⟩:=aB h;obtain⟨a7C,h236,h⟩:=aB h;cases h;exact((aY.g (CD h234)).g (rF h236)).ret hΓ
def k8(aC:aj)(aa:Bytes)(k1:Option Int):aj->Nat->Option Int
 | [],i1=>(k1)
 |bU::cQ,i1=>(bif (bU.name:Bytes)==aa then(some (i1:Int))else(k8 aC aa k1 cQ (i1+1)))
def sG(aC:aj)(aa:Bytes):Option Int:=(k8 aC aa (some (-1)) aC 0)
def Gy(aC:aj)(aa:Bytes)(dL:Int):St:=⟨[(1,D.str aa),(7,D.sl (aC.map aK.c)),(8,D.int .i64 ((aC.map aK.c).length:Int)),(9,D.int .i64 dL)],[]⟩
theorem Fb(hΓ:Γ.nt=20){aC:aj}{aa:Bytes}{r:Int}{k1:Option Int}(di:k1=some r->Ax Γ N f102 (.q [[none]] (D.int .i64 r)) [1,1] ⟨[],[]⟩)(hm1:aC.length<=maxLen):∀(rest:aj) (i1:Nat),aC.drop i1=rest->k8 aC aa k1 rest i1=some r->Ar Γ N f102 (.q [[none]] (D.int .i64 r)) [1,0,1,0] (rest.length+1) (Gy aC aa (i1:Int)):=by
 intro rest
 induction rest with
 |nil=>
  intro i1 az h;rw[k8]at h;refine aQ fun N1 cY cI=>?_
  exact((aY.ge aK.c az).a [.hl 0 [] []]).ex hΓ cY (di h)
 |cons bU cQ ih1=>
  intro i1 az h;rw[k8]at h;refine aQ fun N1 cY cI=>?_
  have fk:=((aY.lt aK.c az).l (bJ aK.c 4 (dc az) rfl))
  obtain⟨h13,h⟩|⟨h13,h⟩:=aM h
  ·cases h;exact(fk.b h13).ret hΓ
  ·exact((fk.b h13).a [.cn [1,7,8,9] []]).ct hΓ cI (iS az hm1) (ih1 (i1+1) (dn az) h)
theorem Dx{aC:aj}{aa:Bytes}{r:Int}(h:sG aC aa=some r):Good prog 102 [D.sl (aC.map aK.c),D.str aa] (D.int .i64 r):=by
 refine gd func102 [[none]] 20 fun hr Γ hΓ=>?_
 rw[sG]at h;refine(aY.a [.cn [1,7,8,9] []]).lp hΓ (Fb hΓ (fun h=>?_) (by have:=(gq.sl (hr _ (aE (i:=0) rfl))).1;simpa using this) aC 0 rfl h);cases h;exact aY.ret hΓ
def k6(aC:aj)(k1:Option Bool):aj->Nat->Option Bool
 | [],i1=>(k1)
 |bU::cQ,i1=>((uj bU).bind fun Dm=>(bif !(Dm)then(some false)else((sG aC bU.name).bind fun OA=>(bif (OA:Int) != (i1:Int)then(some false)else(k6 aC k1 cQ (i1+1))))))
def pX(aC:aj):Option Bool:=(bif decide ((((aC.map aK.c).length:Int):Int)>6)then(some false)else(k6 aC (some true) aC 0))
def Gv(aC:aj)(dL:Int):St:=⟨[(0,D.sl (aC.map aK.c)),(8,D.sl (aC.map aK.c)),(9,D.int .i64 ((aC.map aK.c).length:Int)),(10,D.int .i64 dL)],[]⟩
theorem FZ(hΓ:Γ.nt=27){aC:aj}{r:Bool}{k1:Option Bool}(di:k1=some r->Ax Γ N f49 (.q [[none]] (D.bool r)) [1,1,1] ⟨[],[]⟩)(hm1:aC.length<=maxLen):∀(rest:aj) (i1:Nat),aC.drop i1=rest->k6 aC k1 rest i1=some r->Ar Γ N f49 (.q [[none]] (D.bool r)) [1,1,0,1,0] (rest.length+1) (Gv aC (i1:Int)):=by
 intro rest
 induction rest with
 |nil=>
  intro i1 az h;rw[k6]at h;refine aQ fun N1 cY cI=>?_
  exact((aY.ge aK.c az).a [.hl 0 [] []]).ex hΓ cY (di h)
 |cons bU cQ ih1=>
  intro i1 az h;rw[k6]at h;refine aQ fun N1 cY cI=>?_
  obtain⟨Dm,h35,h⟩:=aB h;have je:=(((aY.lt aK.c az).l (bJ aK.c 4 (dc az) rfl)).g (Gz h35))
  obtain⟨h36,h⟩|⟨h36,h⟩:=aM h
  ·have h:=aN h;subst h;exact((je.r 7 h36).T 1).ret hΓ
  ·obtain⟨OA,h38,h⟩:=aB h;have jj:=(((je.r 4 h36).g (Dx h38)).r 3 h36)
   obtain⟨h39,h⟩|⟨h39,h⟩:=aM h
   ·have h:=aN h;subst h;exact(jj.b h39).ret hΓ
   ·exact((jj.b h39).a [.cn [0,8,9,10] []]).ct hΓ cI (iS az hm1) (ih1 (i1+1) (dn az) h)
theorem tY{aC:aj}{r:Bool}(h:pX aC=some r):Good prog 49 [D.sl (aC.map aK.c)] (D.bool r):=by
 refine gd func49 [[none]] 27 fun hr Γ hΓ=>?_
 rw[pX]at h;obtain⟨h1,h⟩|⟨h1,h⟩:=aM h
 ·have h:=aN h;subst h;exact(aY.b h1).ret hΓ
 ·refine((aY.b h1).a [.cn [0,8,9,10] []]).lp hΓ (FZ hΓ (fun h=>?_) (by have:=(gq.sl (hr _ (aE (i:=0) rfl))).1;simpa using this) aC 0 rfl h);have h:=aN h;subst h;exact aY.ret hΓ
def oz(aC:aD)(k1:Option Bool):aG->Nat->Option Bool
 | [],i1=>(k1)
 |bU::cQ,i1=>((fP bU).bind fun vE=>(bif !(vE)then(some false)else(oz aC k1 cQ (i1+1))))
def ol(aC:aD):Option Bool:=((qc aC.rel).bind fun y1=>(bif !(y1)then(some false)else(bif decide ((((aC.args.map tx).length:Int):Int)>3)then(some false)else(oz aC (some true) aC.args 0))))
def Ju(aC:aD)(dL:Int):St:=⟨[(16,D.sl (aC.args.map tx)),(17,D.int .i64 ((aC.args.map tx).length:Int)),(18,D.int .i64 dL)],[]⟩
theorem ID(hΓ:Γ.nt=26){aC:aD}{r:Bool}{k1:Option Bool}(di:k1=some r->Ax Γ N f103 (.q [[none]] (D.bool r)) [1,1,1] ⟨[],[]⟩)(hm1:aC.args.length<=maxLen):∀(rest:aG) (i1:Nat),aC.args.drop i1=rest->oz aC k1 rest i1=some r->Ar Γ N f103 (.q [[none]] (D.bool r)) [1,1,0,1,0] (rest.length+1) (Ju aC (i1:Int)):=by
 intro rest
 induction rest with
 |nil=>
  intro i1 az h;rw[oz]at h;refine aQ fun N1 cY cI=>?_
  exact((aY.ge tx az).a [.hl 0 [] []]).ex hΓ cY (di h)
 |cons bU cQ ih1=>
  intro i1 az h;rw[oz]at h;refine aQ fun N1 cY cI=>?_
  obtain⟨vE,h26,h⟩:=aB h;have fk:=(((aY.lt tx az).l (bJ tx 1 (dc az) rfl)).g (ed h26))
  obtain⟨h27,h⟩|⟨h27,h⟩:=aM h
  ·have h:=aN h;subst h;exact(fk.b h27).ret hΓ
  ·exact((fk.b h27).a [.cn [16,17,18] []]).ct hΓ cI (iS az hm1) (ih1 (i1+1) (dn az) h)
theorem vH{aC:aD}{r:Bool}(h:ol aC=some r):Good prog 103 [D.agg (aD.c aC)] (D.bool r):=by
 refine gd func103 [[none]] 26 fun hr Γ hΓ=>?_
 rw[ol]at h;obtain⟨y1,h2,h⟩:=aB h;obtain⟨h3,h⟩|⟨h3,h⟩:=aM h
 ·have h:=aN h;subst h;exact(((aY.g (mq h2)).r 5 h3).T 1).ret hΓ
 ·have je:=((aY.g (mq h2)).r 5 h3)
  obtain⟨h4,h⟩|⟨h4,h⟩:=aM h
  ·have h:=aN h;subst h;exact(je.b h4).ret hΓ
  ·refine((je.b h4).a [.cn [16,17,18] []]).lp hΓ (ID hΓ (fun h=>?_) (by have:=(gq.sl (gq.agg (hr _ (aE (i:=0) rfl)) (.sl (aC.args.map tx)) (by simp))).1;simpa using this) aC.args 0 rfl h);have h:=aN h;subst h;exact aY.ret hΓ
def kT(aC:Int):Option Bytes:=((zz aC).bind fun y1=>(some y1))
theorem wk{aC:Int}{r:Bytes}(h:kT aC=some r):Good prog 202 [D.int .i64 aC] (D.str r):=by
 refine gd func202 [[none]] 5 fun hr Γ hΓ=>?_
 rw[kT]at h;obtain⟨y1,h2,h⟩:=aB h;have h:=aN h;subst h;exact(aY.g (GR h2)).ret hΓ
def mO(aC:Bytes):Option (Int×Bool):=(bif decide (((aC.length:Int):Int)<1)then(some (0,false))else(bif decide (((aC.length:Int):Int)>4)then(some (0,false))else((zy aC).bind fun y3=>(bif y3.2 then(some (0,false))else(bif decide ((y3.1:Int)<0)then(some (0,false))else(bif decide ((y3.1:Int)>9999)then(some (0,false))else((kT y3.1).bind fun y8=>(bif !((y8:Bytes)==aC)then(some (0,false))else(some (y3.1,true))))))))))
theorem qF{aC:Bytes}{r:Int×Bool}(h:mO aC=some r):Good prog 214 [D.str aC] (D.gL [D.int .i64 r.1,D.bool r.2]):=by
 refine gd func214 [[none],[none]] 36 fun hr Γ hΓ=>?_
 rw[mO]at h;obtain⟨h1,h⟩|⟨h1,h⟩:=aM h
 ·cases h;exact((aY.r 4 h1).T 1).ret hΓ
 ·have nP:=(aY.r 4 h1)
  obtain⟨h2,h⟩|⟨h2,h⟩:=aM h
  ·cases h;exact(nP.b h2).ret hΓ
  ·obtain⟨y3,h4,h⟩:=aB h;have fk:=((nP.b h2).g (GQ h4))
   obtain⟨h5,h⟩|⟨h5,h⟩:=aM h
   ·cases h;exact((fk.r 3 h5).T 9).ret hΓ
   ·have je:=(fk.r 3 h5)
    obtain⟨h6,h⟩|⟨h6,h⟩:=aM h
    ·cases h;exact((je.r 3 h6).T 6).ret hΓ
    ·have jj:=(je.r 3 h6)
     obtain⟨h7,h⟩|⟨h7,h⟩:=aM h
     ·cases h;exact((jj.r 5 h7).T 1).ret hΓ
     ·obtain⟨y8,h9,h⟩:=aB h;have sX:=(((jj.r 2 h7).g (wk h9)).r 3 h7)
      obtain⟨h10,h⟩|⟨h10,h⟩:=aM h
      ·cases h;exact(sX.b h10).ret hΓ
      ·cases h;exact(sX.b h10).ret hΓ
def iU(aC:Int)(aa:Int):Option Int:=(bif decide ((aC:Int)<aa)then(some (-1))else(bif decide ((aC:Int)>aa)then(some 1)else(some 0)))
theorem rG{aC:Int}{aa:Int}{r:Int}(h:iU aC aa=some r):Good prog 174 [D.int .i64 aC,D.int .i64 aa] (D.int .i64 r):=by
 refine gd func174 [[none]] 13 fun hr Γ hΓ=>?_
 rw[iU]at h;obtain⟨h1,h⟩|⟨h1,h⟩:=aM h
 ·cases h;exact(aY.b h1).ret hΓ
 ·obtain⟨h2,h⟩|⟨h2,h⟩:=aM h
  ·have h:=aN h;subst h;exact((aY.b h1).b h2).ret hΓ
  ·have h:=aN h;subst h;exact((aY.b h1).b h2).ret hΓ
def mB(aC:Bytes)(aa:Bytes):Option Int:=((mO aC).bind fun y1=>((mO aa).bind fun y3=>(bif y1.2 then(bif y3.2 then((iU y1.1 y3.1).bind fun y7=>(some y7))else(some (-1)))else(bif y3.2 then(some 1)else((qT aC aa).bind fun Dh=>(some Dh))))))
theorem Ao{aC:Bytes}{aa:Bytes}{r:Int}(h:mB aC aa=some r):Good prog 173 [D.str aC,D.str aa] (D.int .i64 r):=by
 refine gd func173 [[none]] 34 fun hr Γ hΓ=>?_
 rw[mB]at h;obtain⟨y1,h2,h⟩:=aB h;obtain⟨y3,h4,h⟩:=aB h;have nP:=((aY.g (qF h2)).g (qF h4))
 obtain⟨h5,h⟩|⟨h5,h⟩:=aM h
 ·have fk:=(nP.r 2 h5)
  obtain⟨h6,h⟩|⟨h6,h⟩:=aM h
  ·obtain⟨y7,h8,h⟩:=aB h;have h:=aN h;subst h;exact((fk.b h6).g (rG h8)).ret hΓ
  ·cases h;exact((fk.b h6).b h5).ret hΓ
 ·have je:=(((nP.r 2 h5).F 1).b h5)
  obtain⟨h9,h⟩|⟨h9,h⟩:=aM h
  ·have h:=aN h;subst h;exact(je.b h9).ret hΓ
  ·obtain⟨Dh,h11,h⟩:=aB h;have h:=aN h;subst h;exact((je.b h9).g (s9 h11)).ret hΓ
def jA(aC:aD)(aa:aD)(k1:Option Int):aG->Nat->Option Int
 | [],i1=>(k1)
 |bU::cQ,i1=>(bif decide (((i1:Int):Int)<((aa.args.map tx).length:Int))then((iP aa.args (i1:Int)).bind fun x37=>((mB bU x37).bind fun Ch=>(bif (Ch:Int) != 0 then(some Ch)else(jA aC aa k1 cQ (i1+1)))))else(k1))
def fc(aC:aD)(aa:aD):Option Int:=((qT aC.rel aa.rel).bind fun y1=>(bif (y1:Int) != 0 then(some y1)else(jA aC aa ((iU ((aC.args.map tx).length:Int) ((aa.args.map tx).length:Int)).bind fun Yu=>(some Yu)) aC.args 0)))
def C4(aC:aD)(aa:aD)(dL:Int):St:=⟨[(2,D.ptr 0 0),(3,D.ptr 1 0),(6,D.int .i64 dL)],[Ob.box (aD.c aC),Ob.box (aD.c aa)]⟩
theorem BI(hΓ:Γ.nt=51){aC:aD}{aa:aD}{r:Int}{k1:Option Int}(di:k1=some r->Ax Γ N f104 (.q [[none]] (D.int .i64 r)) [1,1,1] ⟨[(2,D.ptr 0 0),(3,D.ptr 1 0)],[Ob.box (aD.c aC),Ob.box (aD.c aa)]⟩)(hm1:aC.args.length<=maxLen):∀(rest:aG) (i1:Nat),aC.args.drop i1=rest->jA aC aa k1 rest i1=some r->Ar Γ N f104 (.q [[none]] (D.int .i64 r)) [1,1,0,1,0] (rest.length+1) (C4 aC aa (i1:Int)):=by
 intro rest
 induction rest with
 |nil=>
  intro i1 az h;rw[jA]at h;refine aQ fun N1 cY cI=>?_
  exact((((((((aY.ge tx az).ge tx az).ge tx az).ge tx az).ge tx az).ge tx az).F 1).a [.hl 0 [2,3] [0,1]]).ex hΓ cY (di h)
 |cons bU cQ ih1=>
  intro i1 az h;rw[jA]at h;refine aQ fun N1 cY cI=>?_
  have je:=((((((aY.lt tx az).lt tx az).lt tx az).lt tx az).lt tx az).lt tx az)
  obtain⟨h36,h⟩|⟨h36,h⟩:=aM h
  ·obtain⟨x37,h38,h⟩:=aB h;obtain⟨Ch,h40,h⟩:=aB h;have jj:=(((((je.b h36).a [.n 10]).l (bJ tx 1 (dc az) rfl)).l (fO tx 1 h38 rfl)).g (Ao h40))
   obtain⟨h41,h⟩|⟨h41,h⟩:=aM h
   ·have h:=aN h;subst h;exact(jj.b h41).ret hΓ
   ·exact((jj.b h41).a [.cn [2,3,6] [0,1]]).ct hΓ cI (iS az hm1) (ih1 (i1+1) (dn az) h)
  ·exact((je.b h36).a [.hl 0 [2,3] [0,1]]).ex hΓ cY (di h)
theorem qY{aC:aD}{aa:aD}{r:Int}(h:fc aC aa=some r):Good prog 104 [D.agg (aD.c aC),D.agg (aD.c aa)] (D.int .i64 r):=by
 refine gd func104 [[none]] 51 fun hr Γ hΓ=>?_
 rw[fc]at h;obtain⟨y1,h2,h⟩:=aB h;obtain⟨h3,h⟩|⟨h3,h⟩:=aM h
 ·have h:=aN h;subst h;exact((aY.g (s9 h2)).b h3).ret hΓ
 ·refine(((aY.g (s9 h2)).b h3).a [.cn [2,3,6] [0,1]]).lp hΓ (BI hΓ (fun h=>?_) (by have:=(gq.sl (gq.agg (hr _ (aE (i:=0) rfl)) (.sl (aC.args.map tx)) (by simp))).1;simpa using this) aC.args 0 rfl h);obtain⟨Yu,h43,h⟩:=aB h;have h:=aN h;subst h;exact(aY.g (rG h43)).ret hΓ
def iQ(aC:aJ)(k1:Option Bool):aJ->Nat->Option Bool
 | [],i1=>(k1)
 |bU::cQ,i1=>((ol bU).bind fun y46=>(bif !(y46)then(some false)else(bif decide (((i1:Int):Int)>0)then((iP aC (IntKind.i64.wrap ((i1:Int)-1))).bind fun x50=>((fc x50 bU).bind fun y52=>(bif decide ((y52:Int)>=0)then(some false)else(iQ aC k1 cQ (i1+1)))))else(iQ aC k1 cQ (i1+1)))))
def oH(aC:aJ):Option Bool:=(bif decide ((((aC.map aD.c).length:Int):Int)>24)then(some false)else(iQ aC (some true) aC 0))
def Gu(aC:aJ)(dL:Int):St:=⟨[(0,D.sl (aC.map aD.c)),(8,D.sl (aC.map aD.c)),(9,D.int .i64 ((aC.map aD.c).length:Int)),(10,D.int .i64 dL)],[]⟩
theorem FY(hΓ:Γ.nt=33){aC:aJ}{r:Bool}{k1:Option Bool}(di:k1=some r->Ax Γ N f50 (.q [[none]] (D.bool r)) [1,1,1] ⟨[],[]⟩)(hm1:aC.length<=maxLen):∀(rest:aJ) (i1:Nat),aC.drop i1=rest->iQ aC k1 rest i1=some r->Ar Γ N f50 (.q [[none]] (D.bool r)) [1,1,0,1,0] (rest.length+1) (Gu aC (i1:Int)):=by
 intro rest
 induction rest with
 |nil=>
  intro i1 az h;rw[iQ]at h;refine aQ fun N1 cY cI=>?_
  exact((aY.ge aD.c az).a [.hl 0 [] []]).ex hΓ cY (di h)
 |cons bU cQ ih1=>
  intro i1 az h;rw[iQ]at h;refine aQ fun N1 cY cI=>?_
  obtain⟨y46,h47,h⟩:=aB h;have jj:=((((aY.lt aD.c az).l (bJ aD.c 2 (dc az) rfl)).a [.n 13]).g (vH h47))
  obtain⟨h48,h⟩|⟨h48,h⟩:=aM h
  ·have h:=aN h;subst h;exact((((jj.r 3 h48).a [bF,bF,bF,bF,bF,bF,bF,bF]).r 2 h48).T 1).ret hΓ
  ·have sX:=(jj.r 3 h48)
   obtain⟨h49,h⟩|⟨h49,h⟩:=aM h
   ·obtain⟨x50,h51,h⟩:=aB h;obtain⟨y52,h53,h⟩:=aB h;have vg:=((((((((sX.r 4 h49).l (fO aD.c 2 h51 rfl)).r 3 h49).g (qY h53)).b h49).b h48).b h49).b h48)
    obtain⟨h54,h⟩|⟨h54,h⟩:=aM h
    ·have h:=aN h;subst h;exact(vg.b h54).ret hΓ
    ·exact((vg.b h54).a [.cn [0,8,9,10] []]).ct hΓ cI (iS az hm1) (ih1 (i1+1) (dn az) h)
   ·exact((((((sX.r 8 h49).b h48).b h49).b h48).F 1).a [.cn [0,8,9,10] []]).ct hΓ cI (iS az hm1) (ih1 (i1+1) (dn az) h)
theorem qE{aC:aJ}{r:Bool}(h:oH aC=some r):Good prog 50 [D.sl (aC.map aD.c)] (D.bool r):=by
 refine gd func50 [[none]] 33 fun hr Γ hΓ=>?_
 rw[oH]at h;obtain⟨h1,h⟩|⟨h1,h⟩:=aM h
 ·have h:=aN h;subst h;exact(aY.b h1).ret hΓ
 ·refine((aY.b h1).a [.cn [0,8,9,10] []]).lp hΓ (FY hΓ (fun h=>?_) (by have:=(gq.sl (hr _ (aE (i:=0) rfl))).1;simpa using this) aC 0 rfl h);have h:=aN h;subst h;exact aY.ret hΓ
def eE(aC:aD):Option aD:=((n9 aC.args).bind fun y1=>(some (⟨aC.rel,y1⟩:aD)))
theorem rI{aC:aD}{r:aD}(h:eE aC=some r):Good prog 116 [D.agg (aD.c aC)] (D.agg [D.str r.rel,D.fr 9 1 (r.args.map tx)]):=by
 refine gd func116 [[none,some (9,1)]] 9 fun hr Γ hΓ=>?_
 rw[eE]at h;obtain⟨y1,h2,h⟩:=aB h;cases h;exact((aY.a [.n 5]).g (tE h2)).ret hΓ
def fH(aC:aO):Option aO:=((eE aC.pat).bind fun y1=>(some (⟨aC.kind,y1,aC.left,aC.right⟩:aO)))
theorem kY{aC:aO}{r:aO}(h:fH aC=some r):Good prog 117 [D.agg (aO.c aC)] (D.agg [D.int .i64 r.kind,D.str r.pat.rel,D.fr 9 1 (r.pat.args.map tx),D.str r.left,D.str r.right]):=by
 refine gd func117 [[none,none,some (9,1),none,none]] 8 fun hr Γ hΓ=>?_
 rw[fH]at h;obtain⟨y1,h2,h⟩:=aB h;cases h;exact(aY.g (rI h2)).ret hΓ
def mF(aC:ai)(k1:ai->Option ai):ai->Nat->ai->Option ai
 | [],i1,bP=>(k1 bP)
 |bU::cQ,i1,bP=>((fH bU).bind fun oX=>(bif room ((bP.map aO.c).length+([[D.int .i64 oX.kind,D.str oX.pat.rel,D.sl (oX.pat.args.map tx),D.str oX.left,D.str oX.right]]).length) 80 then(mF aC k1 cQ (i1+1) (bP++([oX])))else none))
def rH(aC:ai):Option ai:=(mF aC (fun(cH:ai)=>(some cH)) aC 0 ([]:ai))
def yf(aC:ai)(W0:List aL)(dL:Int):St:=⟨[(3,D.acc 0),(6,D.sl (aC.map aO.c)),(7,D.int .i64 ((aC.map aO.c).length:Int)),(8,D.int .i64 dL)],[Ob.row .uq 71 5 W0]⟩
theorem E5(hΓ:Γ.nt=19){aC:ai}{r:ai}{k1:ai->Option ai}(di:∀(cH:ai),k1 cH=some r->Ax Γ N f219 (.q [[some (71,5)]] (D.fr 71 5 (r.map aO.c))) [1,1,1] ⟨[(3,D.acc 0)],[Ob.row .uq 71 5 (cH.map aO.c)]⟩)(hm1:aC.length<=maxLen):∀(rest:ai) (i1:Nat) (bP:ai),aC.drop i1=rest->mF aC k1 rest i1 bP=some r->Ar Γ N f219 (.q [[some (71,5)]] (D.fr 71 5 (r.map aO.c))) [1,1,0,1,0] (rest.length+1) (yf aC (bP.map aO.c) (i1:Int)):=by
 intro rest
 induction rest with
 |nil=>
  intro i1 bP az h;rw[mF]at h;refine aQ fun N1 cY cI=>?_
  exact((aY.ge aO.c az).a [.hl 0 [3] [0]]).ex hΓ cY (di bP h)
 |cons bU cQ ih1=>
  intro i1 bP az h;rw[mF]at h;refine aQ fun N1 cY cI=>?_
  obtain⟨oX,h28,h⟩:=aB h;obtain⟨h29,h⟩:=bR h;exact(((((aY.lt aO.c az).l (bJ aO.c 5 (dc az) rfl)).g (kY h28)).w (bf h29)).a [.cn [3,6,7,8] [4]]).cs hΓ cI (yf aC ((bP.map aO.c)++([[D.int .i64 oX.kind,D.str oX.pat.rel,D.sl (oX.pat.args.map tx),D.str oX.left,D.str oX.right]])) (IntKind.i64.wrap ((i1:Int)+1))) (by first| (simp only[iS az hm1,mA]<;>rfl)| (simp only[iS az hm1,mA,aD.c,aX.c,aO.c,Action.c,aK.c,aU.c,dW.c,aZ.c,Node.c,aH.c,dh.c]<;>rfl)) (ih1 (i1+1) (bP++([oX])) (dn az) h)
theorem DD{aC:ai}{r:ai}(h:rH aC=some r):Good prog 219 [D.sl (aC.map aO.c)] (D.fr 71 5 (r.map aO.c)):=by
 refine gd func219 [[some (71,5)]] 19 fun hr Γ hΓ=>?_
 rw[rH]at h;refine(aY.a [.Kq 3,.cn [3,6,7,8] [0]]).lp hΓ (E5 hΓ (fun cH h=>?_) (by have:=(gq.sl (hr _ (aE (i:=0) rfl))).1;simpa using this) aC 0 ([]:ai) rfl h);have h:=aN h;subst h;exact aY.ret hΓ
def kD(aC:aK)(y1:ai)(k1:eF->Option aK):eF->Nat->eF->Option aK
 | [],i1,cg=>(k1 cg)
 |bU::cQ,i1,cg=>((eE bU.pat).bind fun ZC=>(bif room ((cg.map Action.c).length+([[D.int .i64 bU.kind,D.str ZC.rel,D.sl (ZC.args.map tx)]]).length) 48 then(kD aC y1 k1 cQ (i1+1) (cg++([(⟨bU.kind,ZC⟩:Action)])))else none))
def pg(aC:aK):Option aK:=((rH aC.conds).bind fun y1=>(kD aC y1 (fun(eM:eF)=>(some (⟨aC.name,aC.prio,y1,eM⟩:aK))) aC.cK 0 ([]:eF)))
def ze(aC:aK)(y1:ai)(W0:List aL)(dL:Int):St:=⟨[(2,D.ptr 0 0),(3,D.ptr 1 0),(15,D.sl (aC.cK.map Action.c)),(16,D.int .i64 ((aC.cK.map Action.c).length:Int)),(17,D.int .i64 dL)],[Ob.box [D.str ([]),D.int .i64 0,D.nil,D.nil],Ob.box [D.str aC.name,D.int .i64 aC.prio,D.acc 2,D.acc 3],Ob.row .uq 71 5 (y1.map aO.c),Ob.row .uq 154 3 W0]⟩
theorem Fl(hΓ:Γ.nt=34){aC:aK}{y1:ai}{r:aK}{k1:eF->Option aK}(di:∀(eM:eF),k1 eM=some r->Ax Γ N f182 (.q [[none,none,some (71,5),some (154,3)]] (D.agg [D.str r.name,D.int .i64 r.prio,D.fr 71 5 (r.conds.map aO.c),D.fr 154 3 (r.cK.map Action.c)])) [1,1,1] ⟨[(2,D.ptr 0 0),(3,D.ptr 1 0)],[Ob.box [D.str ([]),D.int .i64 0,D.nil,D.nil],Ob.box [D.str aC.name,D.int .i64 aC.prio,D.acc 2,D.acc 3],Ob.row .uq 71 5 (y1.map aO.c),Ob.row .uq 154 3 (eM.map Action.c)]⟩)(hm1:aC.cK.length<=maxLen):∀(rest:eF) (i1:Nat) (cg:eF),aC.cK.drop i1=rest->kD aC y1 k1 rest i1 cg=some r->Ar Γ N f182 (.q [[none,none,some (71,5),some (154,3)]] (D.agg [D.str r.name,D.int .i64 r.prio,D.fr 71 5 (r.conds.map aO.c),D.fr 154 3 (r.cK.map Action.c)])) [1,1,0,1,0] (rest.length+1) (ze aC y1 (cg.map Action.c) (i1:Int)):=by
 intro rest
 induction rest with
 |nil=>
  intro i1 cg az h;rw[kD]at h;refine aQ fun N1 cY cI=>?_
  exact((aY.ge Action.c az).a [.hl 0 [2,3] [0,1,2,3]]).ex hΓ cY (di cg h)
 |cons bU cQ ih1=>
  intro i1 cg az h;rw[kD]at h;refine aQ fun N1 cY cI=>?_
  obtain⟨ZC,h42,h⟩:=aB h;obtain⟨h43,h⟩:=bR h;exact((((((aY.lt Action.c az).l (bJ Action.c 3 (dc az) rfl)).a [.n2 [0,1,2,3,4,5,6,7,8,9,10,11] [0,1,2,3,4,5,6,7,8,9,10,11] 8 9 [0,1] [5]]).g (rI h42)).w (bf h43)).a [.cn [2,3,15,16,17] [0,1,2,7]]).cs hΓ cI (ze aC y1 ((cg.map Action.c)++([[D.int .i64 bU.kind,D.str ZC.rel,D.sl (ZC.args.map tx)]])) (IntKind.i64.wrap ((i1:Int)+1))) (by first| (simp only[iS az hm1,mA]<;>rfl)| (simp only[iS az hm1,mA,aD.c,aX.c,aO.c,Action.c,aK.c,aU.c,dW.c,aZ.c,Node.c,aH.c,dh.c]<;>rfl)) (ih1 (i1+1) (cg++([(⟨bU.kind,ZC⟩:Action)])) (dn az) h)
theorem E8{aC:aK}{r:aK}(h:pg aC=some r):Good prog 182 [D.agg (aK.c aC)] (D.agg [D.str r.name,D.int .i64 r.prio,D.fr 71 5 (r.conds.map aO.c),D.fr 154 3 (r.cK.map Action.c)]):=by
 refine gd func182 [[none,none,some (71,5),some (154,3)]] 34 fun hr Γ hΓ=>?_
 rw[pg]at h;obtain⟨y1,h2,h⟩:=aB h;refine(((aY.a [.n 9]).g (DD h2)).a [.pb 3 3 154 3,.cn [2,3,15,16,17] [1,3,2,4]]).lp hΓ (Fl hΓ (fun eM h=>?_) (by have:=(gq.sl (gq.agg (hr _ (aE (i:=0) rfl)) (.sl (aC.cK.map Action.c)) (by simp))).1;simpa using this) aC.cK 0 ([]:eF) rfl h);cases h;exact aY.ret hΓ
def mH(aC:aj)(k1:aj->Option aj):aj->Nat->aj->Option aj
 | [],i1,bP=>(k1 bP)
 |bU::cQ,i1,bP=>((pg bU).bind fun oX=>(bif room ((bP.map aK.c).length+([[D.str oX.name,D.int .i64 oX.prio,D.sl (oX.conds.map aO.c),D.sl (oX.cK.map Action.c)]]).length) 72 then(mH aC k1 cQ (i1+1) (bP++([oX])))else none))
def p6(aC:aj):Option aj:=(mH aC (fun(cH:aj)=>(some cH)) aC 0 ([]:aj))
def yh(aC:aj)(W0:List aL)(dL:Int):St:=⟨[(3,D.acc 0),(6,D.sl (aC.map aK.c)),(7,D.int .i64 ((aC.map aK.c).length:Int)),(8,D.int .i64 dL)],[Ob.row .uq 63 4 W0]⟩
theorem E9(hΓ:Γ.nt=19){aC:aj}{r:aj}{k1:aj->Option aj}(di:∀(cH:aj),k1 cH=some r->Ax Γ N f114 (.q [[some (63,4)]] (D.fr 63 4 (r.map aK.c))) [1,1,1] ⟨[(3,D.acc 0)],[Ob.row .uq 63 4 (cH.map aK.c)]⟩)(hm1:aC.length<=maxLen):∀(rest:aj) (i1:Nat) (bP:aj),aC.drop i1=rest->mH aC k1 rest i1 bP=some r->Ar Γ N f114 (.q [[some (63,4)]] (D.fr 63 4 (r.map aK.c))) [1,1,0,1,0] (rest.length+1) (yh aC (bP.map aK.c) (i1:Int)):=by
 intro rest
 induction rest with
 |nil=>
  intro i1 bP az h;rw[mH]at h;refine aQ fun N1 cY cI=>?_
  exact((aY.ge aK.c az).a [.hl 0 [3] [0]]).ex hΓ cY (di bP h)
 |cons bU cQ ih1=>
  intro i1 bP az h;rw[mH]at h;refine aQ fun N1 cY cI=>?_
  obtain⟨oX,h28,h⟩:=aB h;obtain⟨h29,h⟩:=bR h;exact(((((aY.lt aK.c az).l (bJ aK.c 4 (dc az) rfl)).g (E8 h28)).w (bf h29)).a [.cn [3,6,7,8] [5]]).cs hΓ cI (yh aC ((bP.map aK.c)++([[D.str oX.name,D.int .i64 oX.prio,D.sl (oX.conds.map aO.c),D.sl (oX.cK.map Action.c)]])) (IntKind.i64.wrap ((i1:Int)+1))) (by first| (simp only[iS az hm1,mA]<;>rfl)| (simp only[iS az hm1,mA,aD.c,aX.c,aO.c,Action.c,aK.c,aU.c,dW.c,aZ.c,Node.c,aH.c,dh.c]<;>rfl)) (ih1 (i1+1) (bP++([oX])) (dn az) h)
theorem wq{aC:aj}{r:aj}(h:p6 aC=some r):Good prog 114 [D.sl (aC.map aK.c)] (D.fr 63 4 (r.map aK.c)):=by
 refine gd func114 [[some (63,4)]] 19 fun hr Γ hΓ=>?_
 rw[p6]at h;refine(aY.a [.Kq 3,.cn [3,6,7,8] [0]]).lp hΓ (E9 hΓ (fun cH h=>?_) (by have:=(gq.sl (hr _ (aE (i:=0) rfl))).1;simpa using this) aC 0 ([]:aj) rfl h);have h:=aN h;subst h;exact aY.ret hΓ
def fM(aC:aG)(k1:aT->Option aT):aG->Nat->aT->List (Bytes×Bool)->Option aT
 | [],i1,bP,B0=>(k1 bP)
 |bU::cQ,i1,bP,B0=>((lK bU).bind fun y52=>(bif y52 then(bif !(JB false bU B0)then((kT (IntKind.i64.wrap (((bP.map aX.c).length:Int)+1))).bind fun y56=>(bif decide (([63]:Bytes).length+(y56:Bytes).length<=maxLen)then(bif room ((bP.map aX.c).length+([[D.str bU,D.str (([63])++y56)]]).length) 32 then(fM aC k1 cQ (i1+1) (bP++([(⟨bU,([63])++y56⟩:aX)])) (MO bU true B0))else none)else none))else(fM aC k1 cQ (i1+1) bP B0))else(fM aC k1 cQ (i1+1) bP B0)))
def o8(aC:aG):Option aT:=(fM aC (fun(cH:aT)=>(some cH)) aC 0 ([]:aT) ([]:List (Bytes×Bool)))
def xg(aC:aG)(W0:List aL)(W1:List (D×D))(dL:Int):St:=⟨[(3,D.acc 0),(4,D.acc 1),(8,D.sl (aC.map tx)),(9,D.int .i64 ((aC.map tx).length:Int)),(10,D.int .i64 dL)],[Ob.row .uq 113 2 W0,Ob.mp W1]⟩
theorem DF(hΓ:Γ.nt=36){aC:aG}{r:aT}{k1:aT->Option aT}(di:∀(cH:aT),k1 cH=some r->Ax Γ N f142 (.q [[some (113,2)]] (D.fr 113 2 (r.map aX.c))) [1,1,1,1] ⟨[(3,D.acc 0)],[Ob.row .uq 113 2 (cH.map aX.c)]⟩)(hm1:aC.length<=maxLen):∀(rest:aG) (i1:Nat) (bP:aT) (B0:List (Bytes×Bool)),aC.drop i1=rest->fM aC k1 rest i1 bP B0=some r->Ar Γ N f142 (.q [[some (113,2)]] (D.fr 113 2 (r.map aX.c))) [1,1,1,0,1,0] (rest.length+1) (xg aC (bP.map aX.c) (B0.map (kS eB)) (i1:Int)):=by
 intro rest
 induction rest with
 |nil=>
  intro i1 bP B0 az h;rw[fM]at h;refine aQ fun N1 cY cI=>?_
  exact((aY.ge tx az).a [.hl 0 [3] [0]]).ex hΓ cY (di bP h)
 |cons bU cQ ih1=>
  intro i1 bP B0 az h;rw[fM]at h;refine aQ fun N1 cY cI=>?_
  obtain⟨y52,h53,h⟩:=aB h;have je:=(((aY.lt tx az).l (bJ tx 1 (dc az) rfl)).g (o4 h53))
  obtain⟨h54,h⟩|⟨h54,h⟩:=aM h
  ·have jj:=((((je.r 3 h54).w (show plk prog 185 (B0.map (kS eB)) (D.str bU) false=some (D.bool (JB false bU B0))from a66 (e:=eB) (z:=false) (by kernel_rfl))).a [.d (D.bool (JB false bU B0))]).r 2 h54)
   obtain⟨h55,h⟩|⟨h55,h⟩:=aM h
   ·obtain⟨y56,h57,h⟩:=aB h;obtain⟨h58,h⟩:=bR h;obtain⟨h59,h⟩:=bR h;exact(((((((jj.b h55).w (show J9 (D.str bU) (D.bool true) (B0.map (kS eB))=some ((MO bU true B0).map (kS eB))from Xl (e:=eB) (m:=B0))).a [.kv ((MO bU true B0).map (kS eB))]).g (wk h57)).w (bn h58)).w (bf h59)).a [.cn [3,4,8,9,10] [3,1]]).cs hΓ cI (xg aC ((bP.map aX.c)++([[D.str bU,D.str (([63])++y56)]])) ((MO bU true B0).map (kS eB)) (IntKind.i64.wrap ((i1:Int)+1))) (by first| (simp only[iS az hm1,mA]<;>rfl)| (simp only[iS az hm1,mA,aD.c,aX.c,aO.c,Action.c,aK.c,aU.c,dW.c,aZ.c,Node.c,aH.c,dh.c]<;>rfl)) (ih1 (i1+1) (bP++([(⟨bU,([63])++y56⟩:aX)])) (MO bU true B0) (dn az) h)
   ·exact((jj.b h55).a [.cn [3,4,8,9,10] [0,1]]).ct hΓ cI (iS az hm1) (ih1 (i1+1) bP B0 (dn az) h)
  ·exact(((je.r 5 h54).F 1).a [.cn [3,4,8,9,10] [0,1]]).ct hΓ cI (iS az hm1) (ih1 (i1+1) bP B0 (dn az) h)
theorem wG{aC:aG}{r:aT}(h:o8 aC=some r):Good prog 142 [D.sl (aC.map tx)] (D.fr 113 2 (r.map aX.c)):=by
 refine gd func142 [[some (113,2)]] 36 fun hr Γ hΓ=>?_
 rw[o8]at h;refine(aY.a [.Kq 3,.cn [3,4,8,9,10] [0,1]]).lp hΓ (DF hΓ (fun cH h=>?_) (by have:=(gq.sl (hr _ (aE (i:=0) rfl))).1;simpa using this) aC 0 ([]:aT) ([]:List (Bytes×Bool)) rfl h);have h:=aN h;subst h;exact aY.ret hΓ
def gN(aC:aK)(k1:aG->Option aT):ai->Nat->aG->Option aT
 | [],i1,bP=>(k1 bP)
 |bU::cQ,i1,bP=>((rM bU).bind fun oX=>(bif room ((bP.map tx).length+(oX.map tx).length) 16 then(gN aC k1 cQ (i1+1) (bP++oX))else none))
def qH(aC:aK):Option aT:=(gN aC (fun(cH:aG)=>((o8 cH).bind fun yW=>(some yW))) aC.conds 0 ([]:aG))
def xa(aC:aK)(W0:List aL)(dL:Int):St:=⟨[(3,D.acc 0),(7,D.sl (aC.conds.map aO.c)),(8,D.int .i64 ((aC.conds.map aO.c).length:Int)),(9,D.int .i64 dL)],[Ob.row .uq 9 1 W0]⟩
theorem DA(hΓ:Γ.nt=20){aC:aK}{r:aT}{k1:aG->Option aT}(di:∀(cH:aG),k1 cH=some r->Ax Γ N f81 (.q [[some (113,2)]] (D.fr 113 2 (r.map aX.c))) [1,1,1] ⟨[(3,D.acc 0)],[Ob.row .uq 9 1 (cH.map tx)]⟩)(hm1:aC.conds.length<=maxLen):∀(rest:ai) (i1:Nat) (bP:aG),aC.conds.drop i1=rest->gN aC k1 rest i1 bP=some r->Ar Γ N f81 (.q [[some (113,2)]] (D.fr 113 2 (r.map aX.c))) [1,1,0,1,0] (rest.length+1) (xa aC (bP.map tx) (i1:Int)):=by
 intro rest
 induction rest with
 |nil=>
  intro i1 bP az h;rw[gN]at h;refine aQ fun N1 cY cI=>?_
  exact((aY.ge aO.c az).a [.hl 0 [3] [0]]).ex hΓ cY (di bP h)
 |cons bU cQ ih1=>
  intro i1 bP az h;rw[gN]at h;refine aQ fun N1 cY cI=>?_
  obtain⟨oX,h28,h⟩:=aB h;obtain⟨h29,h⟩:=bR h;exact(((((aY.lt aO.c az).l (bJ aO.c 5 (dc az) rfl)).g (yj h28)).w (bf h29)).a [.cn [3,7,8,9] [3]]).cs hΓ cI (xa aC ((bP.map tx)++(oX.map tx)) (IntKind.i64.wrap ((i1:Int)+1))) (by first| (simp only[iS az hm1,mA]<;>rfl)| (simp only[iS az hm1,mA,aD.c,aX.c,aO.c,Action.c,aK.c,aU.c,dW.c,aZ.c,Node.c,aH.c,dh.c]<;>rfl)) (ih1 (i1+1) (bP++oX) (dn az) h)
theorem C9{aC:aK}{r:aT}(h:qH aC=some r):Good prog 81 [D.agg (aK.c aC)] (D.fr 113 2 (r.map aX.c)):=by
 refine gd func81 [[some (113,2)]] 20 fun hr Γ hΓ=>?_
 rw[qH]at h;refine(aY.a [.Kq 3,.cn [3,7,8,9] [1]]).lp hΓ (DA hΓ (fun cH h=>?_) (by have:=(gq.sl (gq.agg (hr _ (aE (i:=0) rfl)) (.sl (aC.conds.map aO.c)) (by simp))).1;simpa using this) aC.conds 0 ([]:aG) rfl h);obtain⟨yW,h31,h⟩:=aB h;have h:=aN h;subst h;exact(aY.g (wG h31)).ret hΓ
def iG(aC:Bytes)(aa:aT)(k1:Option Bytes):aT->Nat->Option Bytes
 | [],i1=>(k1)
 |bU::cQ,i1=>(bif (bU.var:Bytes)==aC then(some bU.value)else(iG aC aa k1 cQ (i1+1)))
def iX(aC:Bytes)(aa:aT):Option Bytes:=(iG aC aa (some aC) aa 0)
def DG(aC:Bytes)(aa:aT)(dL:Int):St:=⟨[(0,D.str aC),(7,D.sl (aa.map aX.c)),(8,D.int .i64 ((aa.map aX.c).length:Int)),(9,D.int .i64 dL)],[]⟩
theorem CI(hΓ:Γ.nt=21){aC:Bytes}{aa:aT}{r:Bytes}{k1:Option Bytes}(di:k1=some r->Ax Γ N f231 (.q [[none]] (D.str r)) [1,1] ⟨[(0,D.str aC)],[]⟩)(hm1:aa.length<=maxLen):∀(rest:aT) (i1:Nat),aa.drop i1=rest->iG aC aa k1 rest i1=some r->Ar Γ N f231 (.q [[none]] (D.str r)) [1,0,1,0] (rest.length+1) (DG aC aa (i1:Int)):=by
 intro rest
 induction rest with
 |nil=>
  intro i1 az h;rw[iG]at h;refine aQ fun N1 cY cI=>?_
  exact((aY.ge aX.c az).a [.hl 0 [0] []]).ex hΓ cY (di h)
 |cons bU cQ ih1=>
  intro i1 az h;rw[iG]at h;refine aQ fun N1 cY cI=>?_
  have fk:=((aY.lt aX.c az).l (bJ aX.c 2 (dc az) rfl))
  obtain⟨h13,h⟩|⟨h13,h⟩:=aM h
  ·cases h;exact(fk.b h13).ret hΓ
  ·exact((fk.b h13).a [.cn [0,7,8,9] []]).ct hΓ cI (iS az hm1) (ih1 (i1+1) (dn az) h)
theorem rJ{aC:Bytes}{aa:aT}{r:Bytes}(h:iX aC aa=some r):Good prog 231 [D.str aC,D.sl (aa.map aX.c)] (D.str r):=by
 refine gd func231 [[none]] 21 fun hr Γ hΓ=>?_
 rw[iX]at h;refine(aY.a [.cn [0,7,8,9] []]).lp hΓ (CI hΓ (fun h=>?_) (by have:=(gq.sl (hr _ (aE (i:=1) rfl))).1;simpa using this) aa 0 rfl h);have h:=aN h;subst h;exact aY.ret hΓ
def kX(aC:aO)(aa:aT)(y1:Bytes)(y3:Bytes)(k1:aG->Option aO):aG->Nat->aG->Option aO
 | [],i1,iO=>(k1 iO)
 |bU::cQ,i1,iO=>((iX bU aa).bind fun FU=>(bif room ((iO.map tx).length+([[D.str FU]]).length) 16 then(kX aC aa y1 y3 k1 cQ (i1+1) (iO++([FU])))else none))
def lM(aC:aO)(aa:aT):Option aO:=((iX aC.left aa).bind fun y1=>((iX aC.right aa).bind fun y3=>(kX aC aa y1 y3 (fun(nQ:aG)=>(some (⟨aC.kind,(⟨aC.pat.rel,nQ⟩:aD),y1,y3⟩:aO))) aC.pat.args 0 ([]:aG))))
def xb(aC:aO)(aa:aT)(y1:Bytes)(y3:Bytes)(W0:List aL)(dL:Int):St:=⟨[(1,D.sl (aa.map aX.c)),(4,D.ptr 0 0),(5,D.ptr 1 0),(26,D.sl (aC.pat.args.map tx)),(27,D.int .i64 ((aC.pat.args.map tx).length:Int)),(28,D.int .i64 dL)],[Ob.box [D.int .i64 0,D.str ([]),D.nil,D.str ([]),D.str ([])],Ob.box [D.int .i64 aC.kind,D.str aC.pat.rel,D.acc 2,D.str y1,D.str y3],Ob.row .uq 9 1 W0]⟩
theorem DB(hΓ:Γ.nt=44){aC:aO}{aa:aT}{y1:Bytes}{y3:Bytes}{r:aO}{k1:aG->Option aO}(di:∀(nQ:aG),k1 nQ=some r->Ax Γ N f216 (.q [[none,none,some (9,1),none,none]] (D.agg [D.int .i64 r.kind,D.str r.pat.rel,D.fr 9 1 (r.pat.args.map tx),D.str r.left,D.str r.right])) [1,1,1,1] ⟨[(4,D.ptr 0 0),(5,D.ptr 1 0)],[Ob.box [D.int .i64 0,D.str ([]),D.nil,D.str ([]),D.str ([])],Ob.box [D.int .i64 aC.kind,D.str aC.pat.rel,D.acc 2,D.str y1,D.str y3],Ob.row .uq 9 1 (nQ.map tx)]⟩)(hm1:aC.pat.args.length<=maxLen):∀(rest:aG) (i1:Nat) (iO:aG),aC.pat.args.drop i1=rest->kX aC aa y1 y3 k1 rest i1 iO=some r->Ar Γ N f216 (.q [[none,none,some (9,1),none,none]] (D.agg [D.int .i64 r.kind,D.str r.pat.rel,D.fr 9 1 (r.pat.args.map tx),D.str r.left,D.str r.right])) [1,1,1,0,1,0] (rest.length+1) (xb aC aa y1 y3 (iO.map tx) (i1:Int)):=by
 intro rest
 induction rest with
 |nil=>
  intro i1 iO az h;rw[kX]at h;refine aQ fun N1 cY cI=>?_
  exact((aY.ge tx az).a [.hl 0 [4,5] [0,1,2]]).ex hΓ cY (di iO h)
 |cons bU cQ ih1=>
  intro i1 iO az h;rw[kX]at h;refine aQ fun N1 cY cI=>?_
  obtain⟨FU,h32,h⟩:=aB h;obtain⟨h33,h⟩:=bR h;exact((((((aY.lt tx az).l (bJ tx 1 (dc az) rfl)).a [.n 7]).g (rJ h32)).w (bf h33)).a [.cn [1,4,5,26,27,28] [0,1,4]]).cs hΓ cI (xb aC aa y1 y3 ((iO.map tx)++([[D.str FU]])) (IntKind.i64.wrap ((i1:Int)+1))) (by first| (simp only[iS az hm1,mA]<;>rfl)| (simp only[iS az hm1,mA,aD.c,aX.c,aO.c,Action.c,aK.c,aU.c,dW.c,aZ.c,Node.c,aH.c,dh.c]<;>rfl)) (ih1 (i1+1) (iO++([FU])) (dn az) h)
theorem oY{aC:aO}{aa:aT}{r:aO}(h:lM aC aa=some r):Good prog 216 [D.agg (aO.c aC),D.sl (aa.map aX.c)] (D.agg [D.int .i64 r.kind,D.str r.pat.rel,D.fr 9 1 (r.pat.args.map tx),D.str r.left,D.str r.right]):=by
 refine gd func216 [[none,none,some (9,1),none,none]] 44 fun hr Γ hΓ=>?_
 rw[lM]at h;obtain⟨y1,h2,h⟩:=aB h;obtain⟨y3,h4,h⟩:=aB h;refine((((aY.a [.n 12]).g (rJ h2)).g (rJ h4)).a [.pb 2 2 9 1,.cn [1,4,5,26,27,28] [1,2,3]]).lp hΓ (DB hΓ (fun nQ h=>?_) (by have:=(gq.sl (gq.agg (hr _ (aE (i:=0) rfl)) (.sl (aC.pat.args.map tx)) (by simp))).1;simpa using this) aC.pat.args 0 ([]:aG) rfl h);cases h;exact aY.ret hΓ
def kW(aC:aK)(y1:aT)(k1:ai->Option ai):ai->Nat->ai->Option ai
 | [],i1,bV=>(k1 bV)
 |bU::cQ,i1,bV=>((lM bU y1).bind fun FF=>(bif room ((bV.map aO.c).length+([[D.int .i64 FF.kind,D.str FF.pat.rel,D.sl (FF.pat.args.map tx),D.str FF.left,D.str FF.right]]).length) 80 then(kW aC y1 k1 cQ (i1+1) (bV++([FF])))else none))
def qG(aC:aK):Option ai:=((qH aC).bind fun y1=>(kW aC y1 (fun(cH:ai)=>(some cH)) aC.conds 0 ([]:ai)))
def xZ(aC:aK)(y1:aT)(W0:List aL)(dL:Int):St:=⟨[(3,D.acc 0),(4,D.acc 1),(10,D.sl (aC.conds.map aO.c)),(11,D.int .i64 ((aC.conds.map aO.c).length:Int)),(12,D.int .i64 dL)],[Ob.row .uq 113 2 (y1.map aX.c),Ob.row .uq 71 5 W0]⟩
theorem D9(hΓ:Γ.nt=24){aC:aK}{y1:aT}{r:ai}{k1:ai->Option ai}(di:∀(cH:ai),k1 cH=some r->Ax Γ N f176 (.q [[some (71,5)]] (D.fr 71 5 (r.map aO.c))) [1,1,1,1] ⟨[(4,D.acc 0)],[Ob.row .uq 71 5 (cH.map aO.c)]⟩)(hm1:aC.conds.length<=maxLen):∀(rest:ai) (i1:Nat) (bV:ai),aC.conds.drop i1=rest->kW aC y1 k1 rest i1 bV=some r->Ar Γ N f176 (.q [[some (71,5)]] (D.fr 71 5 (r.map aO.c))) [1,1,1,0,1,0] (rest.length+1) (xZ aC y1 (bV.map aO.c) (i1:Int)):=by
 intro rest
 induction rest with
 |nil=>
  intro i1 bV az h;rw[kW]at h;refine aQ fun N1 cY cI=>?_
  exact((aY.ge aO.c az).a [.hl 0 [4] [1]]).ex hΓ cY (di bV h)
 |cons bU cQ ih1=>
  intro i1 bV az h;rw[kW]at h;refine aQ fun N1 cY cI=>?_
  obtain⟨FF,h30,h⟩:=aB h;obtain⟨h31,h⟩:=bR h;exact(((((aY.lt aO.c az).l (bJ aO.c 5 (dc az) rfl)).g (oY h30)).w (bf h31)).a [.cn [3,4,10,11,12] [0,5]]).cs hΓ cI (xZ aC y1 ((bV.map aO.c)++([[D.int .i64 FF.kind,D.str FF.pat.rel,D.sl (FF.pat.args.map tx),D.str FF.left,D.str FF.right]])) (IntKind.i64.wrap ((i1:Int)+1))) (by first| (simp only[iS az hm1,mA]<;>rfl)| (simp only[iS az hm1,mA,aD.c,aX.c,aO.c,Action.c,aK.c,aU.c,dW.c,aZ.c,Node.c,aH.c,dh.c]<;>rfl)) (ih1 (i1+1) (bV++([FF])) (dn az) h)
theorem C8{aC:aK}{r:ai}(h:qG aC=some r):Good prog 176 [D.agg (aK.c aC)] (D.fr 71 5 (r.map aO.c)):=by
 refine gd func176 [[some (71,5)]] 24 fun hr Γ hΓ=>?_
 rw[qG]at h;obtain⟨y1,h2,h⟩:=aB h;refine((aY.g (C9 h2)).a [.Kq 4,.cn [3,4,10,11,12] [1,2]]).lp hΓ (D9 hΓ (fun cH h=>?_) (by have:=(gq.sl (gq.agg (hr _ (aE (i:=0) rfl)) (.sl (aC.conds.map aO.c)) (by simp))).1;simpa using this) aC.conds 0 ([]:ai) rfl h);have h:=aN h;subst h;exact aY.ret hΓ
def mJ(aC:aG)(aa:aG)(k1:Option Bool):aG->Nat->Option Bool
 | [],i1=>(k1)
 |bU::cQ,i1=>((iP aa (i1:Int)).bind fun x22=>(bif !((bU:Bytes)==x22)then(some false)else(mJ aC aa k1 cQ (i1+1))))
def p9(aC:aG)(aa:aG):Option Bool:=(bif (((aC.map tx).length:Int):Int) != ((aa.map tx).length:Int)then(some false)else(mJ aC aa (some true) aC 0))
def Fu(aC:aG)(aa:aG)(dL:Int):St:=⟨[(0,D.sl (aC.map tx)),(1,D.sl (aa.map tx)),(12,D.int .i64 ((aC.map tx).length:Int)),(13,D.int .i64 dL)],[]⟩
theorem EE(hΓ:Γ.nt=26){aC:aG}{aa:aG}{r:Bool}{k1:Option Bool}(di:k1=some r->Ax Γ N f110 (.q [[none]] (D.bool r)) [1,1,1] ⟨[],[]⟩)(hm1:aC.length<=maxLen):∀(rest:aG) (i1:Nat),aC.drop i1=rest->mJ aC aa k1 rest i1=some r->Ar Γ N f110 (.q [[none]] (D.bool r)) [1,1,0,1,0] (rest.length+1) (Fu aC aa (i1:Int)):=by
 intro rest
 induction rest with
 |nil=>
  intro i1 az h;rw[mJ]at h;refine aQ fun N1 cY cI=>?_
  exact((aY.ge tx az).a [.hl 0 [] []]).ex hΓ cY (di h)
 |cons bU cQ ih1=>
  intro i1 az h;rw[mJ]at h;refine aQ fun N1 cY cI=>?_
  obtain⟨x22,h23,h⟩:=aB h;have fk:=((((aY.lt tx az).a [.n 8]).l (bJ tx 1 (dc az) rfl)).l (fO tx 1 h23 rfl))
  obtain⟨h24,h⟩|⟨h24,h⟩:=aM h
  ·have h:=aN h;subst h;exact(fk.b h24).ret hΓ
  ·exact((fk.b h24).a [.cn [0,1,12,13] []]).ct hΓ cI (iS az hm1) (ih1 (i1+1) (dn az) h)
theorem wv{aC:aG}{aa:aG}{r:Bool}(h:p9 aC aa=some r):Good prog 110 [D.sl (aC.map tx),D.sl (aa.map tx)] (D.bool r):=by
 refine gd func110 [[none]] 26 fun hr Γ hΓ=>?_
 rw[p9]at h;obtain⟨h1,h⟩|⟨h1,h⟩:=aM h
 ·have h:=aN h;subst h;exact(aY.b h1).ret hΓ
 ·refine((aY.b h1).a [.cn [0,1,12,13] []]).lp hΓ (EE hΓ (fun h=>?_) (by have:=(gq.sl (hr _ (aE (i:=0) rfl))).1;simpa using this) aC 0 rfl h);have h:=aN h;subst h;exact aY.ret hΓ
def fQ(aC:aD)(aa:aD):Option Bool:=(bif (aC.rel:Bytes)==aa.rel then((p9 aC.args aa.args).bind fun y2=>(some y2))else(some false))
theorem o5{aC:aD}{aa:aD}{r:Bool}(h:fQ aC aa=some r):Good prog 57 [D.agg (aD.c aC),D.agg (aD.c aa)] (D.bool r):=by
 refine gd func57 [[none]] 17 fun hr Γ hΓ=>?_
 rw[fQ]at h;obtain⟨h1,h⟩|⟨h1,h⟩:=aM h
 ·obtain⟨y2,h3,h⟩:=aB h;have h:=aN h;subst h;exact(((aY.r 5 h1).g (wv h3)).b h1).ret hΓ
 ·have h:=aN h;subst h;exact(aY.r 6 h1).ret hΓ
def jx(aC:aO)(aa:aO):Option Bool:=(bif (aC.kind:Int)==aa.kind then(bif (aC.left:Bytes)==aa.left then(bif (aC.right:Bytes)==aa.right then((fQ aC.pat aa.pat).bind fun y4=>(some y4))else(some false))else(some false))else(some false))
theorem td{aC:aO}{aa:aO}{r:Bool}(h:jx aC aa=some r):Good prog 58 [D.agg (aO.c aC),D.agg (aO.c aa)] (D.bool r):=by
 refine gd func58 [[none]] 31 fun hr Γ hΓ=>?_
 rw[jx]at h;obtain⟨h1,h⟩|⟨h1,h⟩:=aM h
 ·have nP:=(aY.r 6 h1)
  obtain⟨h2,h⟩|⟨h2,h⟩:=aM h
  ·have fk:=(nP.r 6 h2)
   obtain⟨h3,h⟩|⟨h3,h⟩:=aM h
   ·obtain⟨y4,h5,h⟩:=aB h;have h:=aN h;subst h;exact(((fk.r 5 h3).g (o5 h5)).b h3).ret hΓ
   ·have h:=aN h;subst h;exact(fk.r 6 h3).ret hΓ
  ·have h:=aN h;subst h;exact((nP.r 6 h2).F 6).ret hΓ
 ·have h:=aN h;subst h;exact((aY.r 6 h1).F 12).ret hΓ
def rE(aC:aD):Option aD:=((o8 aC.args).bind fun y1=>((lM (⟨0,aC,[],[]⟩:aO) y1).bind fun y3=>(some y3.pat)))
theorem ye{aC:aD}{r:aD}(h:rE aC=some r):Good prog 218 [D.agg (aD.c aC)] (D.agg [D.str r.rel,D.fr 9 1 (r.args.map tx)]):=by
 refine gd func218 [[none,some (9,1)]] 10 fun hr Γ hΓ=>?_
 rw[rE]at h;obtain⟨y1,h2,h⟩:=aB h;obtain⟨y3,h4,h⟩:=aB h;cases h;exact((((aY.a [.n 5]).g (wG h2)).a [.d (D.agg [D.int .i64 y3.kind,D.str y3.pat.rel,D.fr 9 1 (y3.pat.args.map tx),D.str y3.left,D.str y3.right])]).w (show Good prog 216 [D.agg [D.int .i64 0,D.str aC.rel,D.sl (aC.args.map tx),D.str ([]),D.str ([])],D.sl (y1.map aX.c)] (D.agg [D.int .i64 y3.kind,D.str y3.pat.rel,D.fr 9 1 (y3.pat.args.map tx),D.str y3.left,D.str y3.right])from by first| (simpa only[bA,bB,bZ,bX,bg]using oY h4)|exact oY h4| (have t:=oY h4;simp only[bA,bX,bg,aO.c]at t;exact t))).ret hΓ
end Go.Cx

/- What functions of the program compute, and the walks that show it. No condition. -/
import Derived.Test.YtfankinmlfnncaaGreatDoorPFnConflictsG4
set_option linter.unusedVariables false
set_option linter.unusedSimpArgs false
namespace Go.Cx
open Go.RowKit Go.Proofs Tryz
set_option maxRecDepth 100000
variable{Γ:tZ}{N:Nat->St->Prop}
def gA(y1:cK×(Bytes×Int))(k1:bK->Int->Int->aG->Option (cK×aE)):Nat->Int->bK->Int->Int->aG->Option (cK×aE)
 |0,_,_,_,_,_=>none
 |n1+1,eW,eG,dK,dL,cw=>(bif decide ((eW:Int)<y1.2.2)then((gr (⟨eG,dK,dL⟩:cK)).bind fun yM=>(bif room ((cw.map tx).length+([[D.str yM.2]]).length) 16 then(gA y1 k1 n1 (IntKind.i64.wrap (eW+1)) yM.1.b yM.1.i yM.1.h (cw++([yM.2])))else none))else(k1 eG dK dL cw))
def kp(aC:cK):Option (cK×aE):=((nG aC).bind fun y1=>(gA y1 (fun(kZ:bK) (ke:Int) (kf:Int) (ew:aG)=>(some ((⟨kZ,ke,kf⟩:cK),(⟨y1.2.1,ew⟩:aE)))) fuel 0 y1.1.b y1.1.i y1.1.h ([]:aG)))
def BM(hG:Value)(y1:cK×(Bytes×Int))(eW:Int)(dK:Int)(dL:Int)(W1:List aL)(W4:List aL):St:=⟨[(0,D.ptr 0 0),(2,D.ptr 1 0),(4,D.int .i64 y1.2.2),(5,D.ptr 2 0),(6,D.int .i64 eW)],[Ob.zq [D.sl W1,D.int .i64 dK,D.int .i64 dL] hG,Ob.box [D.str ([]),D.nil],Ob.box [D.str y1.2.1,D.acc 3],Ob.row .uq 9 1 W4]⟩
theorem IL(hΓ:Γ.nt=27){hG:Value}{y1:cK×(Bytes×Int)}{r:cK×aE}{k1:bK->Int->Int->aG->Option (cK×aE)}(dY:∀(kZ:bK) (ke:Int) (kf:Int) (ew:aG),k1 kZ ke kf ew=some r->Ax Γ N f113 (.p [[none,none,none],[none,some (9,1)]] hG (cK.c r.1) (D.agg [D.str r.2.rel,D.fr 9 1 (r.2.args.map tx)])) [1,1,1,1] ⟨[(2,D.ptr 1 0),(5,D.ptr 2 0)],[Ob.zq [D.sl (kZ.map yx),D.int .i64 ke,D.int .i64 kf] hG,Ob.box [D.str ([]),D.nil],Ob.box [D.str y1.2.1,D.acc 3],Ob.row .uq 9 1 (ew.map tx)]⟩):∀(n1:Nat) (eW:Int) (eG:bK) (dK:Int) (dL:Int) (cw:aG),gA y1 k1 n1 eW eG dK dL cw=some r->Ar Γ N f113 (.p [[none,none,none],[none,some (9,1)]] hG (cK.c r.1) (D.agg [D.str r.2.rel,D.fr 9 1 (r.2.args.map tx)])) [1,1,1,0,1,0] n1 (BM hG y1 eW dK dL (eG.map yx) (cw.map tx)):=by
 intro n
 induction n with
 |zero=>intro eW eG dK dL cw h;simp[gA]at h
 |succ n1 ih1=>
  intro eW eG dK dL cw h;rw[gA]at h;refine aV fun N1 cj cL=>?_
  obtain⟨h27,h⟩|⟨h27,h⟩:=aO h
  ·obtain⟨yM,h31,h⟩:=aB h;obtain⟨h32,h⟩:=bU h;exact(((((aX.b h27).a [.n2 [0,1,2,3,4,5,6,7] [0,1,2,3,4,5,6,7] 3 5 [0,1] [0],.gp [[none,none,none]] (cK.c yM.1) (D.str yM.2)]).w (show gx prog 181 (cK.c (⟨eG,dK,dL⟩:cK)) (cK.c yM.1) [] (D.str yM.2)from by simpa only[bI,ay,bt,br,cB]using ux h31)).w (bp h32)).a [.cn [0,2,4,5,6] [0,1,2,5]]).cs hΓ cL (BM hG y1 (IntKind.i64.wrap (eW+1)) yM.1.i yM.1.h (yM.1.b.map yx) ((cw.map tx)++([[D.str yM.2]]))) (by first| (simp only[mA]<;>rfl)| (simp only[mA,aE.c,aQ.c,aN.c,Action.c,aI.c,aY.c,ax.c,af.c,Node.c,aJ.c,dX.c]<;>rfl)) (ih1 (IntKind.i64.wrap (eW+1)) yM.1.b yM.1.i yM.1.h (cw++([yM.2])) h)
  ·exact((aX.b h27).a [.hl 0 [2,5] [0,1,2,3]]).ex hΓ cj (dY eG dK dL cw h)
theorem zX{aC:cK}{r:cK×aE}(h:kp aC=some r):gx prog 113 (cK.c aC) (cK.c r.1) [] (D.agg [D.str r.2.rel,D.fr 9 1 (r.2.args.map tx)]):=by
 refine Ii func113 [[none,none,none],[none,some (9,1)]] 27 [D.sl (aC.b.map yx),D.int .i64 aC.i,D.int .i64 aC.h] [] [] fun hr hG Γ hΓ=>?_
 rw[kp]at h;obtain⟨y1,h2,h⟩:=aB h;refine((aX.hp [[none,none,none]] (AK h2)).a [.pb 2 1 9 1,.cn [0,2,4,5,6] [0,1,2,3]]).lp hΓ (IL hΓ (fun kZ ke kf ew h=>?_) fuel 0 y1.1.b y1.1.i y1.1.h ([]:aG) h);cases h;exact aX.ret hΓ
def rz(aC:Bytes)(aZ:Bytes):Option Int:=(bif Op.bytesLess aC aZ then(some (-1))else(bif !(Op.bytesLess aC aZ||(aC:Bytes)==aZ)then(some 1)else(some 0)))
theorem vv{aC:Bytes}{aZ:Bytes}{r:Int}(h:rz aC aZ=some r):Good prog 154 [D.str aC,D.str aZ] (D.int .i64 r):=by
 refine gd func154 [[none]] 13 fun hr Γ hΓ=>?_
 rw[rz]at h;obtain⟨h1,h⟩|⟨h1,h⟩:=aO h
 ·cases h;exact(aX.b h1).ret hΓ
 ·obtain⟨h2,h⟩|⟨h2,h⟩:=aO h
  ·have h:=aK h;subst h;exact((aX.b h1).b h2).ret hΓ
  ·have h:=aK h;subst h;exact((aX.b h1).b h2).ret hΓ
def jM(aC:Bytes)(aZ:Bytes):Option Int:=((mC aC).bind fun y1=>((mC aZ).bind fun y3=>(bif y1.2 then(bif y3.2 then(bif decide ((y1.1:Int)<y3.1)then(some (-1))else(bif !(y3.2)then(some (-1))else(bif decide ((y1.1:Int)>y3.1)then(some 1)else(bif !(y1.2)then(some 1)else(some 0)))))else(bif !(y3.2)then(some (-1))else(some 0)))else(bif y3.2 then(bif !(y1.2)then(some 1)else((rz aC aZ).bind fun Au=>(some Au)))else((rz aC aZ).bind fun Mj=>(some Mj))))))
theorem uU{aC:Bytes}{aZ:Bytes}{r:Int}(h:jM aC aZ=some r):Good prog 155 [D.str aC,D.str aZ] (D.int .i64 r):=by
 refine gd func155 [[none]] 54 fun hr Γ hΓ=>?_
 rw[jM]at h;obtain⟨y1,h2,h⟩:=aB h;obtain⟨y3,h4,h⟩:=aB h;have nB:=((aX.g (qA h2)).g (qA h4))
 obtain⟨h5,h⟩|⟨h5,h⟩:=aO h
 ·have gG:=(nB.r 2 h5)
  obtain⟨h6,h⟩|⟨h6,h⟩:=aO h
  ·have kY:=(gG.r 4 h6)
   obtain⟨h7,h⟩|⟨h7,h⟩:=aO h
   ·cases h;exact(kY.r 2 h7).ret hΓ
   ·have kX:=((kY.b h7).r 3 h5)
    obtain⟨h8,h⟩|⟨h8,h⟩:=aO h
    ·cases h;exact(kX.b h8).ret hΓ
    ·have sQ:=(((kX.b h8).r 2 h5).r 4 h6)
     obtain⟨h9,h⟩|⟨h9,h⟩:=aO h
     ·have h:=aK h;subst h;exact(sQ.r 2 h9).ret hΓ
     ·have vQ:=((sQ.b h9).r 3 h6)
      obtain⟨h10,h⟩|⟨h10,h⟩:=aO h
      ·have h:=aK h;subst h;exact(vQ.b h10).ret hΓ
      ·have h:=aK h;subst h;exact((vQ.b h10).b h5).ret hΓ
  ·have yo:=(((gG.r 4 h6).F 1).r 3 h5)
   obtain⟨h11,h⟩|⟨h11,h⟩:=aO h
   ·cases h;exact(yo.b h11).ret hΓ
   ·have h:=aK h;subst h;exact(((((((yo.b h11).r 2 h5).r 4 h6).F 1).r 3 h6).F 1).b h5).ret hΓ
 ·have Es:=((((((nB.r 2 h5).F 5).r 3 h5).F 1).r 2 h5).F 5)
  obtain⟨h12,h⟩|⟨h12,h⟩:=aO h
  ·have KU:=(Es.r 3 h12)
   obtain⟨h13,h⟩|⟨h13,h⟩:=aO h
   ·have h:=aK h;subst h;exact(KU.b h13).ret hΓ
   ·obtain⟨Au,h15,h⟩:=aB h;have h:=aK h;subst h;exact(((KU.b h13).b h5).g (vv h15)).ret hΓ
  ·obtain⟨Mj,h17,h⟩:=aB h;have h:=aK h;subst h;exact((((Es.r 3 h12).F 1).b h5).g (vv h17)).ret hΓ
def j6(aC:aE)(aZ:aE)(k1:Option Int):aG->Nat->Option Int
 | [],i1=>(k1)
 |bS::cZ,i1=>(bif decide (((i1:Int):Int)<((aZ.args.map tx).length:Int))then((iw aZ.args (i1:Int)).bind fun x37=>((jM bS x37).bind fun FJ=>(bif (FJ:Int) != 0 then(some FJ)else(j6 aC aZ k1 cZ (i1+1)))))else(k1))
def gz(aC:aE)(aZ:aE):Option Int:=(bif !((aC.rel:Bytes)==aZ.rel)then((rz aC.rel aZ.rel).bind fun y2=>(some y2))else(j6 aC aZ (bif decide ((((aC.args.map tx).length:Int):Int)<((aZ.args.map tx).length:Int))then(some (-1))else(bif decide ((((aC.args.map tx).length:Int):Int)>((aZ.args.map tx).length:Int))then(some 1)else(some 0))) aC.args 0))
def CF(aC:aE)(aZ:aE)(dP:Int):St:=⟨[(2,D.ptr 0 0),(3,D.ptr 1 0),(5,D.int .i64 dP)],[Ob.box (aE.c aC),Ob.box (aE.c aZ)]⟩
theorem BG(hΓ:Γ.nt=61){aC:aE}{aZ:aE}{r:Int}{k1:Option Int}(dY:k1=some r->Ax Γ N f92 (.q [[none]] (D.int .i64 r)) [1,1,1] ⟨[(2,D.ptr 0 0),(3,D.ptr 1 0)],[Ob.box (aE.c aC),Ob.box (aE.c aZ)]⟩)(hm1:aC.args.length<=maxLen):∀(rest:aG) (i1:Nat),aC.args.drop i1=rest->j6 aC aZ k1 rest i1=some r->Ar Γ N f92 (.q [[none]] (D.int .i64 r)) [1,1,0,1,0] (rest.length+1) (CF aC aZ (i1:Int)):=by
 intro rest
 induction rest with
 |nil=>
  intro i1 b9 h;rw[j6]at h;refine aV fun N1 cj cL=>?_
  exact((((((((aX.ge tx b9).ge tx b9).ge tx b9).ge tx b9).ge tx b9).ge tx b9).F 1).a [.hl 0 [2,3] [0,1]]).ex hΓ cj (dY h)
 |cons bS cZ ih1=>
  intro i1 b9 h;rw[j6]at h;refine aV fun N1 cj cL=>?_
  have kY:=((((((aX.lt tx b9).lt tx b9).lt tx b9).lt tx b9).lt tx b9).lt tx b9)
  obtain⟨h36,h⟩|⟨h36,h⟩:=aO h
  ·obtain⟨x37,h38,h⟩:=aB h;obtain⟨FJ,h40,h⟩:=aB h;have kX:=(((((kY.b h36).a [.n 10]).l (bJ tx 1 (dc b9) rfl)).l (er tx 1 h38 rfl)).g (uU h40))
   obtain⟨h41,h⟩|⟨h41,h⟩:=aO h
   ·have h:=aK h;subst h;exact(kX.b h41).ret hΓ
   ·exact((kX.b h41).a [.cn [2,3,5] [0,1]]).ct hΓ cL (iS b9 hm1) (ih1 (i1+1) (dn b9) h)
  ·exact((kY.b h36).a [.hl 0 [2,3] [0,1]]).ex hΓ cj (dY h)
theorem qS{aC:aE}{aZ:aE}{r:Int}(h:gz aC aZ=some r):Good prog 92 [D.agg (aE.c aC),D.agg (aE.c aZ)] (D.int .i64 r):=by
 refine gd func92 [[none]] 61 fun hr Γ hΓ=>?_
 rw[gz]at h;obtain⟨h1,h⟩|⟨h1,h⟩:=aO h
 ·obtain⟨y2,h3,h⟩:=aB h;have h:=aK h;subst h;exact((aX.b h1).g (vv h3)).ret hΓ
 ·refine((aX.b h1).a [.cn [2,3,5] [0,1]]).lp hΓ (BG hΓ (fun h=>?_) (by have:=(iE.sl (iE.agg (hr _ (aD (i:=0) rfl)) (.sl (aC.args.map tx)) (by simp))).1;simpa using this) aC.args 0 rfl h);obtain⟨h42,h⟩|⟨h42,h⟩:=aO h
  ·cases h;exact(aX.b h42).ret hΓ
  ·obtain⟨h43,h⟩|⟨h43,h⟩:=aO h
   ·have h:=aK h;subst h;exact((aX.b h42).b h43).ret hΓ
   ·have h:=aK h;subst h;exact((aX.b h42).b h43).ret hΓ
def eO(aC:aE):Option aE:=((rM aC.args).bind fun y1=>(some (⟨aC.rel,y1⟩:aE)))
theorem gh{aC:aE}{r:aE}(h:eO aC=some r):Good prog 86 [D.agg (aE.c aC)] (D.agg [D.str r.rel,D.fr 9 1 (r.args.map tx)]):=by
 refine gd func86 [[none,some (9,1)]] 9 fun hr Γ hΓ=>?_
 rw[eO]at h;obtain⟨y1,h2,h⟩:=aB h;cases h;exact((aX.a [.n 5]).g (ya h2)).ret hΓ
def cW(aC:aP)(aZ:aE)(k1:Bool->aP->Option aP):aP->Nat->Bool->aP->Option aP
 | [],i1,eW,bQ=>(k1 eW bQ)
 |bS::cZ,i1,eW,bQ=>(bif !(eW)then((gz bS aZ).bind fun a6k=>(bif decide ((a6k:Int)>=0)then((gz bS aZ).bind fun a6l=>(bif decide ((a6l:Int)>0)then((eO aZ).bind fun PD=>(bif room ((bQ.map aE.c).length+([[D.str PD.rel,D.sl (PD.args.map tx)]]).length) 40 then((eO bS).bind fun SX=>(bif room (((bQ.map aE.c)++([[D.str PD.rel,D.sl (PD.args.map tx)]])).length+([[D.str SX.rel,D.sl (SX.args.map tx)]]).length) 40 then(cW aC aZ k1 cZ (i1+1) true ((bQ++([PD]))++([SX])))else none))else none))else((eO bS).bind fun SY=>(bif room ((bQ.map aE.c).length+([[D.str SY.rel,D.sl (SY.args.map tx)]]).length) 40 then(cW aC aZ k1 cZ (i1+1) true (bQ++([SY])))else none))))else((eO bS).bind fun SZ=>(bif room ((bQ.map aE.c).length+([[D.str SZ.rel,D.sl (SZ.args.map tx)]]).length) 40 then(cW aC aZ k1 cZ (i1+1) eW (bQ++([SZ])))else none))))else((eO bS).bind fun AF=>(bif room ((bQ.map aE.c).length+([[D.str AF.rel,D.sl (AF.args.map tx)]]).length) 40 then(cW aC aZ k1 cZ (i1+1) eW (bQ++([AF])))else none)))
def lI(aC:aP)(aZ:aE):Option aP:=(cW aC aZ (fun(Ce:Bool) (lN:aP)=>(bif !(Ce)then((eO aZ).bind fun NB=>(bif room ((lN.map aE.c).length+([[D.str NB.rel,D.sl (NB.args.map tx)]]).length) 40 then(some (lN++([NB])))else none))else(some lN))) aC 0 false ([]:aP))
def sK(aC:aP)(aZ:aE)(eW:Bool)(W1:List aL)(dP:Int):St:=⟨[(0,D.sl (aC.map aE.c)),(3,D.ptr 0 0),(5,D.acc 1),(6,D.bool eW),(7,D.int .i64 dP)],[Ob.box (aE.c aZ),Ob.row .uq 43 2 W1]⟩
theorem Jk(hΓ:Γ.nt=54){aC:aP}{aZ:aE}{r:aP}{k1:Bool->aP->Option aP}(dY:∀(Ce:Bool) (lN:aP),k1 Ce lN=some r->Ax Γ N f67 (.q [[some (43,2)]] (D.fr 43 2 (r.map aE.c))) [1,1,1,1] ⟨[(3,D.ptr 0 0),(5,D.acc 1),(6,D.bool Ce)],[Ob.box (aE.c aZ),Ob.row .uq 43 2 (lN.map aE.c)]⟩)(hm1:aC.length<=maxLen):∀(rest:aP) (i1:Nat) (eW:Bool) (bQ:aP),aC.drop i1=rest->cW aC aZ k1 rest i1 eW bQ=some r->Ar Γ N f67 (.q [[some (43,2)]] (D.fr 43 2 (r.map aE.c))) [1,1,1,0,1,0] (rest.length+1) (sK aC aZ eW (bQ.map aE.c) (i1:Int)):=by
 intro rest
 induction rest with
 |nil=>
  intro i1 eW bQ b9 h;rw[cW]at h;refine aV fun N1 cj cL=>?_
  exact((aX.ge aE.c b9).a [.hl 0 [3,5,6] [0,1]]).ex hΓ cj (dY eW bQ h)
 |cons bS cZ ih1=>
  intro i1 eW bQ b9 h;rw[cW]at h;refine aV fun N1 cj cL=>?_
  have kX:=((aX.lt aE.c b9).a [.n 8])
  obtain⟨h128,h⟩|⟨h128,h⟩:=aO h
  ·obtain⟨a6k,h130,h⟩:=aB h;have sQ:=(((((kX.r 3 h128).l (bJ aE.c 2 (dc b9) rfl)).r 3 h128).g (qS h130)).r 2 h128)
   obtain⟨h131,h⟩|⟨h131,h⟩:=aO h
   ·obtain⟨a6l,h133,h⟩:=aB h;have vQ:=((((sQ.b h131).a [.n 5]).l (bJ aE.c 2 (dc b9) rfl)).g (qS h133))
    obtain⟨h134,h⟩|⟨h134,h⟩:=aO h
    ·obtain⟨PD,h136,h⟩:=aB h;obtain⟨h137,h⟩:=bU h;obtain⟨SX,h139,h⟩:=aB h;obtain⟨h140,h⟩:=bU h;exact(((((((vQ.b h134).g (gh h136)).w (bp h137)).l (bJ aE.c 2 (dc b9) rfl)).g (gh h139)).w (bp h140)).a [.cn [0,3,5,6,7] [0,7]]).cs hΓ cL (sK aC aZ true (((bQ.map aE.c)++([[D.str PD.rel,D.sl (PD.args.map tx)]]))++([[D.str SX.rel,D.sl (SX.args.map tx)]])) (IntKind.i64.wrap ((i1:Int)+1))) (by first| (simp only[iS b9 hm1,mA]<;>rfl)| (simp only[iS b9 hm1,mA,aE.c,aQ.c,aN.c,Action.c,aI.c,aY.c,ax.c,af.c,Node.c,aJ.c,dX.c]<;>rfl)) (ih1 (i1+1) true ((bQ++([PD]))++([SX])) (dn b9) h)
    ·obtain⟨SY,h142,h⟩:=aB h;obtain⟨h143,h⟩:=bU h;exact(((((vQ.b h134).l (bJ aE.c 2 (dc b9) rfl)).g (gh h142)).w (bp h143)).a [.cn [0,3,5,6,7] [0,4]]).cs hΓ cL (sK aC aZ true ((bQ.map aE.c)++([[D.str SY.rel,D.sl (SY.args.map tx)]])) (IntKind.i64.wrap ((i1:Int)+1))) (by first| (simp only[iS b9 hm1,mA]<;>rfl)| (simp only[iS b9 hm1,mA,aE.c,aQ.c,aN.c,Action.c,aI.c,aY.c,ax.c,af.c,Node.c,aJ.c,dX.c]<;>rfl)) (ih1 (i1+1) true (bQ++([SY])) (dn b9) h)
   ·obtain⟨SZ,h145,h⟩:=aB h;obtain⟨h146,h⟩:=bU h;exact(((((sQ.b h131).l (bJ aE.c 2 (dc b9) rfl)).g (gh h145)).w (bp h146)).a [.cn [0,3,5,6,7] [0,4]]).cs hΓ cL (sK aC aZ eW ((bQ.map aE.c)++([[D.str SZ.rel,D.sl (SZ.args.map tx)]])) (IntKind.i64.wrap ((i1:Int)+1))) (by first| (simp only[iS b9 hm1,mA]<;>rfl)| (simp only[iS b9 hm1,mA,aE.c,aQ.c,aN.c,Action.c,aI.c,aY.c,ax.c,af.c,Node.c,aJ.c,dX.c]<;>rfl)) (ih1 (i1+1) eW (bQ++([SZ])) (dn b9) h)
  ·obtain⟨AF,h148,h⟩:=aB h;obtain⟨h149,h⟩:=bU h;exact((((((kX.r 8 h128).F 1).l (bJ aE.c 2 (dc b9) rfl)).g (gh h148)).w (bp h149)).a [.cn [0,3,5,6,7] [0,4]]).cs hΓ cL (sK aC aZ eW ((bQ.map aE.c)++([[D.str AF.rel,D.sl (AF.args.map tx)]])) (IntKind.i64.wrap ((i1:Int)+1))) (by first| (simp only[iS b9 hm1,mA]<;>rfl)| (simp only[iS b9 hm1,mA,aE.c,aQ.c,aN.c,Action.c,aI.c,aY.c,ax.c,af.c,Node.c,aJ.c,dX.c]<;>rfl)) (ih1 (i1+1) eW (bQ++([AF])) (dn b9) h)
theorem tC{aC:aP}{aZ:aE}{r:aP}(h:lI aC aZ=some r):Good prog 67 [D.sl (aC.map aE.c),D.agg (aE.c aZ)] (D.fr 43 2 (r.map aE.c)):=by
 refine gd func67 [[some (43,2)]] 54 fun hr Γ hΓ=>?_
 rw[lI]at h;refine(aX.a [.cn [0,3,5,6,7] [0,1]]).lp hΓ (Jk hΓ (fun Ce lN h=>?_) (by have:=(iE.sl (hr _ (aD (i:=0) rfl))).1;simpa using this) aC 0 false ([]:aP) rfl h);obtain⟨h150,h⟩|⟨h150,h⟩:=aO h
 ·obtain⟨NB,h152,h⟩:=aB h;obtain⟨h153,h⟩:=bU h;cases h;exact(((aX.b h150).g (gh h152)).w (bp h153)).rts hΓ (D.fr 43 2 ((lN.map aE.c)++([[D.str NB.rel,D.sl (NB.args.map tx)]]))) (by first|rfl| (simp only[mA]<;>rfl)| (simp only[cD,mA]<;>rfl))
 ·have h:=aK h;subst h;exact(aX.b h150).ret hΓ
def gl(k1:bK->Int->Int->aP->Option (cK×aP)):Nat->Int->bK->Int->Int->aP->Option (cK×aP)
 |0,_,_,_,_,_=>none
 |n1+1,eW,eG,dK,dL,bQ=>(bif decide ((eW:Int)>0)then((kp (⟨eG,dK,dL⟩:cK)).bind fun Bn=>((lI bQ Bn.2).bind fun Sa=>(gl k1 n1 (IntKind.i64.wrap (eW-1)) Bn.1.b Bn.1.i Bn.1.h Sa)))else(k1 eG dK dL bQ))
def oJ(aC:cK)(aZ:Int):Option (cK×aP):=((cP aC (IntKind.i64.wrap (aZ+1))).bind fun y1=>(gl (fun(kZ:bK) (ke:Int) (kf:Int) (lN:aP)=>(some ((⟨kZ,ke,kf⟩:cK),lN))) fuel y1.2 y1.1.b y1.1.i y1.1.h ([]:aP)))
def Kn(hG:Value)(eW:Int)(dK:Int)(dL:Int)(W1:List aL)(W4:List aL):St:=⟨[(0,D.ptr 0 0),(5,D.acc 1),(6,D.int .i64 eW)],[Ob.zq [D.sl W1,D.int .i64 dK,D.int .i64 dL] hG,Ob.row .uq 43 2 W4]⟩
theorem Jl(hΓ:Γ.nt=21){hG:Value}{r:cK×aP}{k1:bK->Int->Int->aP->Option (cK×aP)}(dY:∀(kZ:bK) (ke:Int) (kf:Int) (lN:aP),k1 kZ ke kf lN=some r->Ax Γ N f79 (.p [[none,none,none],[some (43,2)]] hG (cK.c r.1) (D.fr 43 2 (r.2.map aE.c))) [1,1,1] ⟨[(5,D.acc 1)],[Ob.zq [D.sl (kZ.map yx),D.int .i64 ke,D.int .i64 kf] hG,Ob.row .uq 43 2 (lN.map aE.c)]⟩):∀(n1:Nat) (eW:Int) (eG:bK) (dK:Int) (dL:Int) (bQ:aP),gl k1 n1 eW eG dK dL bQ=some r->Ar Γ N f79 (.p [[none,none,none],[some (43,2)]] hG (cK.c r.1) (D.fr 43 2 (r.2.map aE.c))) [1,1,0,1,0] n1 (Kn hG eW dK dL (eG.map yx) (bQ.map aE.c)):=by
 intro n
 induction n with
 |zero=>intro eW eG dK dL bQ h;simp[gl]at h
 |succ n1 ih1=>
  intro eW eG dK dL bQ h;rw[gl]at h;refine aV fun N1 cj cL=>?_
  obtain⟨h18,h⟩|⟨h18,h⟩:=aO h
  ·obtain⟨Bn,h20,h⟩:=aB h;obtain⟨Sa,h22,h⟩:=aB h;exact(((((aX.b h18).a [.gp [[none,none,none]] (cK.c Bn.1) (D.agg [D.str Bn.2.rel,D.fr 9 1 (Bn.2.args.map tx)])]).w (show gx prog 113 (cK.c (⟨eG,dK,dL⟩:cK)) (cK.c Bn.1) [] (D.agg [D.str Bn.2.rel,D.fr 9 1 (Bn.2.args.map tx)])from by simpa only[bI,ay,bt,br,cB]using zX h20)).g (tC h22)).a [.cn [0,5,6] [0,3]]).cf hΓ cL (ih1 (IntKind.i64.wrap (eW-1)) Bn.1.b Bn.1.i Bn.1.h Sa h)
  ·exact((aX.b h18).a [.hl 0 [5] [0,1]]).ex hΓ cj (dY eG dK dL bQ h)
theorem w8{aC:cK}{aZ:Int}{r:cK×aP}(h:oJ aC aZ=some r):gx prog 79 (cK.c aC) (cK.c r.1) [D.int .i64 aZ] (D.fr 43 2 (r.2.map aE.c)):=by
 refine Ii func79 [[none,none,none],[some (43,2)]] 21 [D.sl (aC.b.map yx),D.int .i64 aC.i,D.int .i64 aC.h] [D.int .i64 aZ] [] fun hr hG Γ hΓ=>?_
 rw[oJ]at h;obtain⟨y1,h2,h⟩:=aB h;refine((aX.hp [[none,none,none],[none]] (cF h2)).a [.cn [0,5,6] [0,1]]).lp hΓ (Jl hΓ (fun kZ ke kf lN h=>?_) fuel y1.2 y1.1.b y1.1.i y1.1.h ([]:aP) h);cases h;exact aX.ret hΓ
def mo(aC:aP)(k1:aP->Option aP):aP->Nat->aP->Option aP
 | [],i1,bN=>(k1 bN)
 |bS::cZ,i1,bN=>((eO bS).bind fun o9=>(bif room ((bN.map aE.c).length+([[D.str o9.rel,D.sl (o9.args.map tx)]]).length) 40 then(mo aC k1 cZ (i1+1) (bN++([o9])))else none))
def jh(aC:aP):Option aP:=(mo aC (fun(cC:aP)=>(some cC)) aC 0 ([]:aP))
def zW(aC:aP)(W0:List aL)(dP:Int):St:=⟨[(0,D.sl (aC.map aE.c)),(3,D.acc 0),(4,D.int .i64 dP)],[Ob.row .uq 43 2 W0]⟩
theorem G5(hΓ:Γ.nt=21){aC:aP}{r:aP}{k1:aP->Option aP}(dY:∀(cC:aP),k1 cC=some r->Ax Γ N f38 (.q [[some (43,2)]] (D.fr 43 2 (r.map aE.c))) [1,1,1] ⟨[(3,D.acc 0)],[Ob.row .uq 43 2 (cC.map aE.c)]⟩)(hm1:aC.length<=maxLen):∀(rest:aP) (i1:Nat) (bN:aP),aC.drop i1=rest->mo aC k1 rest i1 bN=some r->Ar Γ N f38 (.q [[some (43,2)]] (D.fr 43 2 (r.map aE.c))) [1,1,0,1,0] (rest.length+1) (zW aC (bN.map aE.c) (i1:Int)):=by
 intro rest
 induction rest with
 |nil=>
  intro i1 bN b9 h;rw[mo]at h;refine aV fun N1 cj cL=>?_
  exact((aX.ge aE.c b9).a [.hl 0 [3] [0]]).ex hΓ cj (dY bN h)
 |cons bS cZ ih1=>
  intro i1 bN b9 h;rw[mo]at h;refine aV fun N1 cj cL=>?_
  obtain⟨o9,h28,h⟩:=aB h;obtain⟨h29,h⟩:=bU h;exact(((((aX.lt aE.c b9).l (bJ aE.c 2 (dc b9) rfl)).g (gh h28)).w (bp h29)).a [.cn [0,3,4] [3]]).cs hΓ cL (zW aC ((bN.map aE.c)++([[D.str o9.rel,D.sl (o9.args.map tx)]])) (IntKind.i64.wrap ((i1:Int)+1))) (by first| (simp only[iS b9 hm1,mA]<;>rfl)| (simp only[iS b9 hm1,mA,aE.c,aQ.c,aN.c,Action.c,aI.c,aY.c,ax.c,af.c,Node.c,aJ.c,dX.c]<;>rfl)) (ih1 (i1+1) (bN++([o9])) (dn b9) h)
theorem qD{aC:aP}{r:aP}(h:jh aC=some r):Good prog 38 [D.sl (aC.map aE.c)] (D.fr 43 2 (r.map aE.c)):=by
 refine gd func38 [[some (43,2)]] 21 fun hr Γ hΓ=>?_
 rw[jh]at h;refine(aX.a [.cn [0,3,4] [0]]).lp hΓ (G5 hΓ (fun cC h=>?_) (by have:=(iE.sl (hr _ (aD (i:=0) rfl))).1;simpa using this) aC 0 ([]:aP) rfl h);have h:=aK h;subst h;exact aX.ret hΓ
def oc(aC:aE)(k1:Option Bool):aG->Nat->Option Bool
 | [],i1=>(k1)
 |bS::cZ,i1=>((fP bS).bind fun Sa=>(bif !(Sa)then(some false)else(oc aC k1 cZ (i1+1))))
def qU(aC:aE):Option Bool:=(oc aC ((qV aC.rel).bind fun Gd=>(bif Gd then(some (decide ((((aC.args.map tx).length:Int):Int)<=3)))else(some false))) aC.args 0)
def JZ(aC:aE)(dP:Int):St:=⟨[(1,D.ptr 0 0),(3,D.int .i64 dP)],[Ob.box (aE.c aC)]⟩
theorem I8(hΓ:Γ.nt=27){aC:aE}{r:Bool}{k1:Option Bool}(dY:k1=some r->Ax Γ N f65 (.q [[none]] (D.bool r)) [1,1] ⟨[(1,D.ptr 0 0)],[Ob.box (aE.c aC)]⟩)(hm1:aC.args.length<=maxLen):∀(rest:aG) (i1:Nat),aC.args.drop i1=rest->oc aC k1 rest i1=some r->Ar Γ N f65 (.q [[none]] (D.bool r)) [1,0,1,0] (rest.length+1) (JZ aC (i1:Int)):=by
 intro rest
 induction rest with
 |nil=>
  intro i1 b9 h;rw[oc]at h;refine aV fun N1 cj cL=>?_
  exact((aX.ge tx b9).a [.hl 0 [1] [0]]).ex hΓ cj (dY h)
 |cons bS cZ ih1=>
  intro i1 b9 h;rw[oc]at h;refine aV fun N1 cj cL=>?_
  obtain⟨Sa,h22,h⟩:=aB h;have gG:=(((aX.lt tx b9).l (bJ tx 1 (dc b9) rfl)).g (ed h22))
  obtain⟨h23,h⟩|⟨h23,h⟩:=aO h
  ·have h:=aK h;subst h;exact(gG.b h23).ret hΓ
  ·exact((gG.b h23).a [.cn [1,3] [0]]).ct hΓ cL (iS b9 hm1) (ih1 (i1+1) (dn b9) h)
theorem zV{aC:aE}{r:Bool}(h:qU aC=some r):Good prog 65 [D.agg (aE.c aC)] (D.bool r):=by
 refine gd func65 [[none]] 27 fun hr Γ hΓ=>?_
 rw[qU]at h;refine(aX.a [.cn [1,3] [0]]).lp hΓ (I8 hΓ (fun h=>?_) (by have:=(iE.sl (iE.agg (hr _ (aD (i:=0) rfl)) (.sl (aC.args.map tx)) (by simp))).1;simpa using this) aC.args 0 rfl h);obtain⟨Gd,h25,h⟩:=aB h;obtain⟨h26,h⟩|⟨h26,h⟩:=aO h
 ·cases h;exact((aX.g (mc h25)).r 5 h26).ret hΓ
 ·have h:=aK h;subst h;exact((aX.g (mc h25)).r 5 h26).ret hΓ
def jO(aC:aM)(k1:Option Bool):aM->Nat->Option Bool
 | [],i1=>(k1)
 |bS::cZ,i1=>((gZ bS.var).bind fun KC=>(bif !(KC)then(some false)else((fP bS.value).bind fun y52=>(bif !(y52)then(some false)else(bif decide (((i1:Int):Int)>0)then((iw aC (IntKind.i64.wrap ((i1:Int)-1))).bind fun x56=>(bif !(Op.bytesLess x56.var bS.var)then(some false)else(jO aC k1 cZ (i1+1))))else(jO aC k1 cZ (i1+1)))))))
def kJ(aC:aM):Option Bool:=(jO aC (some (decide ((((aC.map aQ.c).length:Int):Int)<=6))) aC 0)
def Fq(aC:aM)(dP:Int):St:=⟨[(0,D.sl (aC.map aQ.c)),(3,D.int .i64 dP)],[]⟩
theorem EG(hΓ:Γ.nt=47){aC:aM}{r:Bool}{k1:Option Bool}(dY:k1=some r->Ax Γ N f158 (.q [[none]] (D.bool r)) [1,1] ⟨[(0,D.sl (aC.map aQ.c))],[]⟩)(hm1:aC.length<=maxLen):∀(rest:aM) (i1:Nat),aC.drop i1=rest->jO aC k1 rest i1=some r->Ar Γ N f158 (.q [[none]] (D.bool r)) [1,0,1,0] (rest.length+1) (Fq aC (i1:Int)):=by
 intro rest
 induction rest with
 |nil=>
  intro i1 b9 h;rw[jO]at h;refine aV fun N1 cj cL=>?_
  exact((aX.ge aQ.c b9).a [.hl 0 [0] []]).ex hΓ cj (dY h)
 |cons bS cZ ih1=>
  intro i1 b9 h;rw[jO]at h;refine aV fun N1 cj cL=>?_
  obtain⟨KC,h50,h⟩:=aB h;have sQ:=((((aX.lt aQ.c b9).a [.n 31]).l (bJ aQ.c 2 (dc b9) rfl)).g (fJ h50))
  obtain⟨h51,h⟩|⟨h51,h⟩:=aO h
  ·have h:=aK h;subst h;exact((((sQ.r 8 h51).T 3).a [bF,bF,bF,bF,bF,bF,bF,bF,bF,bF,bF,bF]).T 3).ret hΓ
  ·obtain⟨y52,h53,h⟩:=aB h;have vQ:=(((((sQ.r 3 h51).l (bJ aQ.c 2 (dc b9) rfl)).r 3 h51).g (ed h53)).r 2 h51)
   obtain⟨h54,h⟩|⟨h54,h⟩:=aO h
   ·have h:=aK h;subst h;exact((((vQ.r 3 h54).a [bF,bF,bF,bF,bF,bF,bF,bF,bF,bF,bF,bF]).r 2 h54).T 1).ret hΓ
   ·have yo:=(vQ.r 3 h54)
    obtain⟨h55,h⟩|⟨h55,h⟩:=aO h
    ·obtain⟨x56,h57,h⟩:=aB h;have Es:=((((((((yo.r 4 h55).l (er aQ.c 2 h57 rfl)).r 5 h55).l (bJ aQ.c 2 (dc b9) rfl)).r 3 h55).b h54).b h55).b h54)
     obtain⟨h58,h⟩|⟨h58,h⟩:=aO h
     ·have h:=aK h;subst h;exact(Es.b h58).ret hΓ
     ·exact((Es.b h58).a [.cn [0,3] []]).ct hΓ cL (iS b9 hm1) (ih1 (i1+1) (dn b9) h)
    ·exact((((((yo.r 12 h55).b h54).b h55).b h54).F 1).a [.cn [0,3] []]).ct hΓ cL (iS b9 hm1) (ih1 (i1+1) (dn b9) h)
theorem mP{aC:aM}{r:Bool}(h:kJ aC=some r):Good prog 158 [D.sl (aC.map aQ.c)] (D.bool r):=by
 refine gd func158 [[none]] 47 fun hr Γ hΓ=>?_
 rw[kJ]at h;refine(aX.a [.cn [0,3] []]).lp hΓ (EG hΓ (fun h=>?_) (by have:=(iE.sl (hr _ (aD (i:=0) rfl))).1;simpa using this) aC 0 rfl h);cases h;exact aX.ret hΓ
def qY(aC:aM):Option aM:=(bif room (([]:List aL).length+(aC.map aQ.c).length) 32 then(some (([]:aM)++aC))else none)
theorem uy{aC:aM}{r:aM}(h:qY aC=some r):Good prog 159 [D.sl (aC.map aQ.c)] (D.fr 113 2 (r.map aQ.c)):=by
 refine gd func159 [[some (113,2)]] 6 fun hr Γ hΓ=>?_
 rw[qY]at h;obtain⟨h1,h⟩:=bU h;cases h;exact(((aX.w (bp h1)).w (show(∀r∈(aC.map aQ.c),r.length=2)/\(true=true->D.lK (aC.map aQ.c)=true)from⟨by first|simp| (intro r hr;obtain⟨x,_,rfl⟩:=cA.1 (bz (gL hr));rfl),by simp[D.lK,D.flat]⟩)).a [.KW 2,.fl true]).rts hΓ (D.fr 113 2 (([]:List aL)++(aC.map aQ.c))) (by first|rfl| (simp only[mA]<;>rfl)| (simp only[cD,mA]<;>rfl))
def iG(aC:aM)(aZ:Bytes)(k1:Option (Bytes×Bool)):aM->Nat->Option (Bytes×Bool)
 | [],i1=>(k1)
 |bS::cZ,i1=>(bif (bS.var:Bytes)==aZ then((gZ aZ).bind fun F3=>(bif F3 then(some (bS.value,true))else(iG aC aZ k1 cZ (i1+1))))else(iG aC aZ k1 cZ (i1+1)))
def nN(aC:aM)(aZ:Bytes):Option (Bytes×Bool):=((fP aZ).bind fun y1=>(bif y1 then(some (aZ,true))else(iG aC aZ (some ([],false)) aC 0)))
def IG(aC:aM)(aZ:Bytes)(dP:Int):St:=⟨[(0,D.sl (aC.map aQ.c)),(1,D.str aZ),(6,D.int .i64 dP)],[]⟩
theorem H8(hΓ:Γ.nt=32){aC:aM}{aZ:Bytes}{r:Bytes×Bool}{k1:Option (Bytes×Bool)}(dY:k1=some r->Ax Γ N f87 (.q [[none],[none]] (D.gw [D.str r.1,D.bool r.2])) [1,1,1] ⟨[],[]⟩)(hm1:aC.length<=maxLen):∀(rest:aM) (i1:Nat),aC.drop i1=rest->iG aC aZ k1 rest i1=some r->Ar Γ N f87 (.q [[none],[none]] (D.gw [D.str r.1,D.bool r.2])) [1,1,0,1,0] (rest.length+1) (IG aC aZ (i1:Int)):=by
 intro rest
 induction rest with
 |nil=>
  intro i1 b9 h;rw[iG]at h;refine aV fun N1 cj cL=>?_
  exact((aX.ge aQ.c b9).a [.hl 0 [] []]).ex hΓ cj (dY h)
 |cons bS cZ ih1=>
  intro i1 b9 h;rw[iG]at h;refine aV fun N1 cj cL=>?_
  have kY:=((aX.lt aQ.c b9).l (bJ aQ.c 2 (dc b9) rfl))
  obtain⟨h28,h⟩|⟨h28,h⟩:=aO h
  ·obtain⟨F3,h30,h⟩:=aB h;have kX:=(((kY.r 2 h28).g (fJ h30)).b h28)
   obtain⟨h31,h⟩|⟨h31,h⟩:=aO h
   ·cases h;exact((kX.b h31).l (bJ aQ.c 2 (dc b9) rfl)).ret hΓ
   ·exact((kX.b h31).a [.cn [0,1,6] []]).ct hΓ cL (iS b9 hm1) (ih1 (i1+1) (dn b9) h)
  ·exact(((kY.r 3 h28).F 1).a [.cn [0,1,6] []]).ct hΓ cL (iS b9 hm1) (ih1 (i1+1) (dn b9) h)
theorem qj{aC:aM}{aZ:Bytes}{r:Bytes×Bool}(h:nN aC aZ=some r):Good prog 87 [D.sl (aC.map aQ.c),D.str aZ] (D.gw [D.str r.1,D.bool r.2]):=by
 refine gd func87 [[none],[none]] 32 fun hr Γ hΓ=>?_
 rw[nN]at h;obtain⟨y1,h2,h⟩:=aB h;obtain⟨h3,h⟩|⟨h3,h⟩:=aO h
 ·cases h;exact((aX.g (ed h2)).b h3).ret hΓ
 ·refine(((aX.g (ed h2)).b h3).a [.cn [0,1,6] []]).lp hΓ (H8 hΓ (fun h=>?_) (by have:=(iE.sl (hr _ (aD (i:=0) rfl))).1;simpa using this) aC 0 rfl h);cases h;exact aX.ret hΓ
def mD(aC:aM)(aZ:Bytes)(ck:Bytes)(k1:Bool->aM->Option aM):aM->Nat->Bool->aM->Option aM
 | [],i1,F0,bN=>(k1 F0 bN)
 |bS::cZ,i1,F0,bN=>(bif !(F0)then(bif !(Op.bytesLess bS.var aZ||(bS.var:Bytes)==aZ)then(bif room ((bN.map aQ.c).length+([[D.str aZ,D.str ck]]).length) 32 then(bif room (((bN.map aQ.c)++([[D.str aZ,D.str ck]])).length+([[D.str bS.var,D.str bS.value]]).length) 32 then(mD aC aZ ck k1 cZ (i1+1) true ((bN++([(⟨aZ,ck⟩:aQ)]))++([bS])))else none)else none)else(bif room ((bN.map aQ.c).length+([[D.str bS.var,D.str bS.value]]).length) 32 then(mD aC aZ ck k1 cZ (i1+1) F0 (bN++([bS])))else none))else(bif room ((bN.map aQ.c).length+([[D.str bS.var,D.str bS.value]]).length) 32 then(mD aC aZ ck k1 cZ (i1+1) F0 (bN++([bS])))else none))
def tj(aC:aM)(aZ:Bytes)(ck:Bytes):Option aM:=(mD aC aZ ck (fun(YX:Bool) (cC:aM)=>(bif !(YX)then(bif room ((cC.map aQ.c).length+([[D.str aZ,D.str ck]]).length) 32 then(some (cC++([(⟨aZ,ck⟩:aQ)])))else none)else(some cC))) aC 0 false ([]:aM))
def uj(aC:aM)(aZ:Bytes)(ck:Bytes)(F0:Bool)(W1:List aL)(dP:Int):St:=⟨[(0,D.sl (aC.map aQ.c)),(1,D.str aZ),(2,D.str ck),(7,D.acc 0),(8,D.bool F0),(9,D.int .i64 dP)],[Ob.row .uq 113 2 W1]⟩
theorem Jm(hΓ:Γ.nt=50){aC:aM}{aZ:Bytes}{ck:Bytes}{r:aM}{k1:Bool->aM->Option aM}(dY:∀(YX:Bool) (cC:aM),k1 YX cC=some r->Ax Γ N f88 (.q [[some (113,2)]] (D.fr 113 2 (r.map aQ.c))) [1,1,1,1] ⟨[(1,D.str aZ),(2,D.str ck),(7,D.acc 0),(8,D.bool YX)],[Ob.row .uq 113 2 (cC.map aQ.c)]⟩)(hm1:aC.length<=maxLen):∀(rest:aM) (i1:Nat) (F0:Bool) (bN:aM),aC.drop i1=rest->mD aC aZ ck k1 rest i1 F0 bN=some r->Ar Γ N f88 (.q [[some (113,2)]] (D.fr 113 2 (r.map aQ.c))) [1,1,1,0,1,0] (rest.length+1) (uj aC aZ ck F0 (bN.map aQ.c) (i1:Int)):=by
 intro rest
 induction rest with
 |nil=>
  intro i1 F0 bN b9 h;rw[mD]at h;refine aV fun N1 cj cL=>?_
  exact((aX.ge aQ.c b9).a [.hl 0 [1,2,7,8] [0]]).ex hΓ cj (dY F0 bN h)
 |cons bS cZ ih1=>
  intro i1 F0 bN b9 h;rw[mD]at h;refine aV fun N1 cj cL=>?_
  obtain⟨h48,h⟩|⟨h48,h⟩:=aO h
  ·have gG:=((((aX.lt aQ.c b9).r 3 h48).l (bJ aQ.c 2 (dc b9) rfl)).r 5 h48)
   obtain⟨h49,h⟩|⟨h49,h⟩:=aO h
   ·obtain⟨h50,h⟩:=bU h;obtain⟨h51,h⟩:=bU h;exact(((((gG.b h49).w (bp h50)).l (bJ aQ.c 2 (dc b9) rfl)).w (bp h51)).a [.cn [0,1,2,7,8,9] [4]]).cs hΓ cL (uj aC aZ ck true (((bN.map aQ.c)++([[D.str aZ,D.str ck]]))++([[D.str bS.var,D.str bS.value]])) (IntKind.i64.wrap ((i1:Int)+1))) (by first| (simp only[iS b9 hm1,mA]<;>rfl)| (simp only[iS b9 hm1,mA,aE.c,aQ.c,aN.c,Action.c,aI.c,aY.c,ax.c,af.c,Node.c,aJ.c,dX.c]<;>rfl)) (ih1 (i1+1) true ((bN++([(⟨aZ,ck⟩:aQ)]))++([bS])) (dn b9) h)
   ·obtain⟨h52,h⟩:=bU h;exact((((gG.b h49).l (bJ aQ.c 2 (dc b9) rfl)).w (bp h52)).a [.cn [0,1,2,7,8,9] [2]]).cs hΓ cL (uj aC aZ ck F0 ((bN.map aQ.c)++([[D.str bS.var,D.str bS.value]])) (IntKind.i64.wrap ((i1:Int)+1))) (by first| (simp only[iS b9 hm1,mA]<;>rfl)| (simp only[iS b9 hm1,mA,aE.c,aQ.c,aN.c,Action.c,aI.c,aY.c,ax.c,af.c,Node.c,aJ.c,dX.c]<;>rfl)) (ih1 (i1+1) F0 (bN++([bS])) (dn b9) h)
  ·obtain⟨h53,h⟩:=bU h;exact((((((aX.lt aQ.c b9).r 8 h48).F 1).l (bJ aQ.c 2 (dc b9) rfl)).w (bp h53)).a [.cn [0,1,2,7,8,9] [2]]).cs hΓ cL (uj aC aZ ck F0 ((bN.map aQ.c)++([[D.str bS.var,D.str bS.value]])) (IntKind.i64.wrap ((i1:Int)+1))) (by first| (simp only[iS b9 hm1,mA]<;>rfl)| (simp only[iS b9 hm1,mA,aE.c,aQ.c,aN.c,Action.c,aI.c,aY.c,ax.c,af.c,Node.c,aJ.c,dX.c]<;>rfl)) (ih1 (i1+1) F0 (bN++([bS])) (dn b9) h)
theorem AM{aC:aM}{aZ:Bytes}{ck:Bytes}{r:aM}(h:tj aC aZ ck=some r):Good prog 88 [D.sl (aC.map aQ.c),D.str aZ,D.str ck] (D.fr 113 2 (r.map aQ.c)):=by
 refine gd func88 [[some (113,2)]] 50 fun hr Γ hΓ=>?_
 rw[tj]at h;refine(aX.a [.cn [0,1,2,7,8,9] [0]]).lp hΓ (Jm hΓ (fun YX cC h=>?_) (by have:=(iE.sl (hr _ (aD (i:=0) rfl))).1;simpa using this) aC 0 false ([]:aM) rfl h);obtain⟨h54,h⟩|⟨h54,h⟩:=aO h
 ·obtain⟨h55,h⟩:=bU h;cases h;exact((aX.b h54).w (bp h55)).rts hΓ (D.fr 113 2 ((cC.map aQ.c)++([[D.str aZ,D.str ck]]))) (by first|rfl| (simp only[mA]<;>rfl)| (simp only[cD,mA]<;>rfl))
 ·have h:=aK h;subst h;exact(aX.b h54).ret hΓ
def sU(aC:aM)(aZ:Bytes)(ck:Bytes):Option (aM×Bool):=((kJ aC).bind fun y1=>(bif !(y1)then(some (([]:aM),false))else((gZ aZ).bind fun y4=>(bif !(y4)then(some (([]:aM),false))else((fP ck).bind fun y7=>(bif !(y7)then(some (([]:aM),false))else((nN aC aZ).bind fun Dc=>(bif Dc.2 then(bif (Dc.1:Bytes)==ck then((qY aC).bind fun Au=>(some (Au,true)))else(some (([]:aM),false)))else(bif (((aC.map aQ.c).length:Int):Int)==6 then(some (([]:aM),false))else((tj aC aZ ck).bind fun y17=>(some (y17,true))))))))))))
theorem Gu{aC:aM}{aZ:Bytes}{ck:Bytes}{r:aM×Bool}(h:sU aC aZ ck=some r):Good prog 160 [D.sl (aC.map aQ.c),D.str aZ,D.str ck] (D.gw [D.fr 113 2 (r.1.map aQ.c),D.bool r.2]):=by
 refine gd func160 [[some (113,2)],[none]] 49 fun hr Γ hΓ=>?_
 rw[sU]at h;obtain⟨y1,h2,h⟩:=aB h;obtain⟨h3,h⟩|⟨h3,h⟩:=aO h
 ·cases h;exact(((aX.g (mP h2)).r 4 h3).T 5).ret hΓ
 ·obtain⟨y4,h5,h⟩:=aB h;have nB:=((((aX.g (mP h2)).r 2 h3).g (fJ h5)).r 2 h3)
  obtain⟨h6,h⟩|⟨h6,h⟩:=aO h
  ·cases h;exact((nB.r 4 h6).T 1).ret hΓ
  ·obtain⟨y7,h8,h⟩:=aB h;have gG:=(((nB.r 2 h6).g (ed h8)).r 2 h6)
   obtain⟨h9,h⟩|⟨h9,h⟩:=aO h
   ·cases h;exact(gG.b h9).ret hΓ
   ·obtain⟨Dc,h11,h⟩:=aB h;have kY:=((gG.b h9).g (qj h11))
    obtain⟨h12,h⟩|⟨h12,h⟩:=aO h
    ·have kX:=(kY.r 4 h12)
     obtain⟨h13,h⟩|⟨h13,h⟩:=aO h
     ·obtain⟨Au,h15,h⟩:=aB h;cases h;exact((kX.b h13).g (uy h15)).ret hΓ
     ·cases h;exact(((kX.b h13).r 4 h12).T 1).ret hΓ
    ·have sQ:=(((kY.r 4 h12).F 1).r 4 h12)
     obtain⟨h16,h⟩|⟨h16,h⟩:=aO h
     ·cases h;exact(sQ.b h16).ret hΓ
     ·obtain⟨y17,h18,h⟩:=aB h;cases h;exact((sQ.b h16).g (AM h18)).ret hΓ
def jR(aC:aE)(aZ:aE)(k1:aM->Option (aM×Bool)):aG->Nat->aM->Option (aM×Bool)
 | [],i1,lQ=>(k1 lQ)
 |bS::cZ,i1,lQ=>((fP bS).bind fun Yo=>(bif Yo then((iw aZ.args (i1:Int)).bind fun x83=>(bif !((bS:Bytes)==x83)then(some (([]:aM),false))else(jR aC aZ k1 cZ (i1+1) lQ)))else((iw aZ.args (i1:Int)).bind fun x86=>((sU lQ bS x86).bind fun y88=>(bif !(y88.2)then(some (([]:aM),false))else(jR aC aZ k1 cZ (i1+1) y88.1))))))
def kL(aC:aE)(aZ:aE)(ck:aM):Option (aM×Bool):=((gq aC).bind fun y1=>(bif !(y1)then(some (([]:aM),false))else((qU aZ).bind fun y4=>(bif !(y4)then(some (([]:aM),false))else((kJ ck).bind fun y7=>(bif !(y7)then(some (([]:aM),false))else(bif !((aC.rel:Bytes)==aZ.rel)then(some (([]:aM),false))else(bif (((aC.args.map tx).length:Int):Int) != ((aZ.args.map tx).length:Int)then(some (([]:aM),false))else((qY ck).bind fun PJ=>(jR aC aZ (fun(cC:aM)=>(some (cC,true))) aC.args 0 PJ))))))))))
def Fw(aC:aE)(aZ:aE)(W0:List aL)(dP:Int):St:=⟨[(3,D.ptr 0 0),(4,D.ptr 1 0),(8,D.acc 2),(9,D.int .i64 dP)],[Ob.box (aE.c aC),Ob.box (aE.c aZ),Ob.row .uq 113 2 W0]⟩
theorem EK(hΓ:Γ.nt=89){aC:aE}{aZ:aE}{r:aM×Bool}{k1:aM->Option (aM×Bool)}(dY:∀(cC:aM),k1 cC=some r->Ax Γ N f96 (.q [[some (113,2)],[none]] (D.gw [D.fr 113 2 (r.1.map aQ.c),D.bool r.2])) [1,1,1,1] ⟨[(8,D.acc 0)],[Ob.row .uq 113 2 (cC.map aQ.c)]⟩)(hm1:aC.args.length<=maxLen):∀(rest:aG) (i1:Nat) (lQ:aM),aC.args.drop i1=rest->jR aC aZ k1 rest i1 lQ=some r->Ar Γ N f96 (.q [[some (113,2)],[none]] (D.gw [D.fr 113 2 (r.1.map aQ.c),D.bool r.2])) [1,1,1,0,1,0] (rest.length+1) (Fw aC aZ (lQ.map aQ.c) (i1:Int)):=by
 intro rest
 induction rest with
 |nil=>
  intro i1 lQ b9 h;rw[jR]at h;refine aV fun N1 cj cL=>?_
  exact((aX.ge tx b9).a [.hl 0 [8] [2]]).ex hΓ cj (dY lQ h)
 |cons bS cZ ih1=>
  intro i1 lQ b9 h;rw[jR]at h;refine aV fun N1 cj cL=>?_
  obtain⟨Yo,h81,h⟩:=aB h;have kX:=(((aX.lt tx b9).l (bJ tx 1 (dc b9) rfl)).g (ed h81))
  obtain⟨h82,h⟩|⟨h82,h⟩:=aO h
  ·obtain⟨x83,h84,h⟩:=aB h;have sQ:=((((kX.b h82).a [.n 10]).l (bJ tx 1 (dc b9) rfl)).l (er tx 1 h84 rfl))
   obtain⟨h85,h⟩|⟨h85,h⟩:=aO h
   ·cases h;exact(sQ.b h85).ret hΓ
   ·exact((sQ.b h85).a [.cn [3,4,8,9] [0,1,2]]).ct hΓ cL (iS b9 hm1) (ih1 (i1+1) lQ (dn b9) h)
  ·obtain⟨x86,h87,h⟩:=aB h;obtain⟨y88,h89,h⟩:=aB h;have vQ:=(((((kX.b h82).a [.n 16]).l (bJ tx 1 (dc b9) rfl)).l (er tx 1 h87 rfl)).g (Gu h89))
   obtain⟨h90,h⟩|⟨h90,h⟩:=aO h
   ·cases h;exact(vQ.b h90).ret hΓ
   ·exact((vQ.b h90).a [.cn [3,4,8,9] [0,1,3]]).ct hΓ cL (iS b9 hm1) (ih1 (i1+1) y88.1 (dn b9) h)
theorem wg{aC:aE}{aZ:aE}{ck:aM}{r:aM×Bool}(h:kL aC aZ ck=some r):Good prog 96 [D.agg (aE.c aC),D.agg (aE.c aZ),D.sl (ck.map aQ.c)] (D.gw [D.fr 113 2 (r.1.map aQ.c),D.bool r.2]):=by
 refine gd func96 [[some (113,2)],[none]] 89 fun hr Γ hΓ=>?_
 rw[kL]at h;obtain⟨y1,h2,h⟩:=aB h;obtain⟨h3,h⟩|⟨h3,h⟩:=aO h
 ·cases h;exact(((aX.g (ei h2)).r 4 h3).T 19).ret hΓ
 ·obtain⟨y4,h5,h⟩:=aB h;have yo:=((((aX.g (ei h2)).r 2 h3).g (zV h5)).r 2 h3)
  obtain⟨h6,h⟩|⟨h6,h⟩:=aO h
  ·cases h;exact((yo.r 4 h6).T 15).ret hΓ
  ·obtain⟨y7,h8,h⟩:=aB h;have Es:=(((yo.r 2 h6).g (mP h8)).r 2 h6)
   obtain⟨h9,h⟩|⟨h9,h⟩:=aO h
   ·cases h;exact((Es.r 6 h9).T 9).ret hΓ
   ·have KU:=(Es.r 6 h9)
    obtain⟨h10,h⟩|⟨h10,h⟩:=aO h
    ·cases h;exact((KU.r 8 h10).T 1).ret hΓ
    ·have Bf:=(KU.r 8 h10)
     obtain⟨h11,h⟩|⟨h11,h⟩:=aO h
     ·cases h;exact(Bf.b h11).ret hΓ
     ·obtain⟨PJ,h13,h⟩:=aB h;refine(((Bf.b h11).g (uy h13)).a [.cn [3,4,8,9] [0,1,2]]).lp hΓ (EK hΓ (fun cC h=>?_) (by have:=(iE.sl (iE.agg (hr _ (aD (i:=0) rfl)) (.sl (aC.args.map tx)) (by simp))).1;simpa using this) aC.args 0 PJ rfl h);cases h;exact aX.ret hΓ
def fq(aC:aE)(aZ:aM)(ck:aP)(k1:aP->Option aP):aP->Nat->aP->Option aP
 | [],i1,bQ=>(k1 bQ)
 |bS::cZ,i1,bQ=>((kL aC bS aZ).bind fun Uz=>(bif Uz.2 then((eO bS).bind fun F5=>(bif room ((bQ.map aE.c).length+([[D.str F5.rel,D.sl (F5.args.map tx)]]).length) 40 then(fq aC aZ ck k1 cZ (i1+1) (bQ++([F5])))else none))else(fq aC aZ ck k1 cZ (i1+1) bQ)))
def gP(aC:aE)(aZ:aM)(ck:aP):Option aP:=(fq aC aZ ck (fun(cC:aP)=>(some cC)) ck 0 ([]:aP))
def vM(aC:aE)(aZ:aM)(ck:aP)(W0:List aL)(dP:Int):St:=⟨[(1,D.sl (aZ.map aQ.c)),(2,D.sl (ck.map aE.c)),(3,D.ptr 0 0),(7,D.acc 1),(8,D.int .i64 dP)],[Ob.box (aE.c aC),Ob.row .uq 43 2 W0]⟩
theorem Ae(hΓ:Γ.nt=38){aC:aE}{aZ:aM}{ck:aP}{r:aP}{k1:aP->Option aP}(dY:∀(cC:aP),k1 cC=some r->Ax Γ N f44 (.q [[some (43,2)]] (D.fr 43 2 (r.map aE.c))) [1,1,1] ⟨[(7,D.acc 0)],[Ob.row .uq 43 2 (cC.map aE.c)]⟩)(hm1:ck.length<=maxLen):∀(rest:aP) (i1:Nat) (bQ:aP),ck.drop i1=rest->fq aC aZ ck k1 rest i1 bQ=some r->Ar Γ N f44 (.q [[some (43,2)]] (D.fr 43 2 (r.map aE.c))) [1,1,0,1,0] (rest.length+1) (vM aC aZ ck (bQ.map aE.c) (i1:Int)):=by
 intro rest
 induction rest with
 |nil=>
  intro i1 bQ b9 h;rw[fq]at h;refine aV fun N1 cj cL=>?_
  exact((aX.ge aE.c b9).a [.hl 0 [7] [1]]).ex hΓ cj (dY bQ h)
 |cons bS cZ ih1=>
  intro i1 bQ b9 h;rw[fq]at h;refine aV fun N1 cj cL=>?_
  obtain⟨Uz,h43,h⟩:=aB h;have gG:=((((aX.lt aE.c b9).a [.n 11]).l (bJ aE.c 2 (dc b9) rfl)).g (wg h43))
  obtain⟨h44,h⟩|⟨h44,h⟩:=aO h
  ·obtain⟨F5,h46,h⟩:=aB h;obtain⟨h47,h⟩:=bU h;exact(((((gG.b h44).l (bJ aE.c 2 (dc b9) rfl)).g (gh h46)).w (bp h47)).a [.cn [1,2,3,7,8] [0,5]]).cs hΓ cL (vM aC aZ ck ((bQ.map aE.c)++([[D.str F5.rel,D.sl (F5.args.map tx)]])) (IntKind.i64.wrap ((i1:Int)+1))) (by first| (simp only[iS b9 hm1,mA]<;>rfl)| (simp only[iS b9 hm1,mA,aE.c,aQ.c,aN.c,Action.c,aI.c,aY.c,ax.c,af.c,Node.c,aJ.c,dX.c]<;>rfl)) (ih1 (i1+1) (bQ++([F5])) (dn b9) h)
  ·exact((gG.b h44).a [.cn [1,2,3,7,8] [0,1]]).ct hΓ cL (iS b9 hm1) (ih1 (i1+1) bQ (dn b9) h)
theorem gQ{aC:aE}{aZ:aM}{ck:aP}{r:aP}(h:gP aC aZ ck=some r):Good prog 44 [D.agg (aE.c aC),D.sl (aZ.map aQ.c),D.sl (ck.map aE.c)] (D.fr 43 2 (r.map aE.c)):=by
 refine gd func44 [[some (43,2)]] 38 fun hr Γ hΓ=>?_
 rw[gP]at h;refine(aX.a [.cn [1,2,3,7,8] [0,1]]).lp hΓ (Ae hΓ (fun cC h=>?_) (by have:=(iE.sl (hr _ (aD (i:=2) rfl))).1;simpa using this) ck 0 ([]:aP) rfl h);have h:=aK h;subst h;exact aX.ret hΓ
def jA(aC:aJ)(k1:ah->Option ah):Nat->Int->ah->Option ah
 |0,_,_=>none
 |n1+1,vY,bQ=>((jW vY 1 (IntKind.i64.wrap (((aC.nodes.map Node.c).length:Int)-1))).bind fun A7=>(bif A7 then((iw aC.nodes vY).bind fun x31=>((oR x31.cond).bind fun tG=>(bif room (([[D.int .i64 tG.kind,D.str tG.pat.rel,D.sl (tG.pat.args.map tx),D.str tG.left,D.str tG.right]]).length+(bQ.map aN.c).length) 80 then(bif decide ((x31.parent:Int)>=vY)then(k1 (([tG])++bQ))else(jA aC k1 n1 x31.parent (([tG])++bQ)))else none)))else(k1 bQ)))
def sV(aC:aJ)(aZ:Int):Option ah:=(jA aC (fun(cC:ah)=>(some cC)) fuel aZ ([]:ah))
def BL(aC:aJ)(vY:Int)(W1:List aL):St:=⟨[(1,D.int .i64 vY),(2,D.ptr 0 0),(5,D.acc 1)],[Ob.box (aJ.c aC),Ob.row .uq 71 5 W1]⟩
theorem IE(hΓ:Γ.nt=35){aC:aJ}{r:ah}{k1:ah->Option ah}(dY:∀(cC:ah),k1 cC=some r->Ax Γ N f47 (.q [[some (71,5)]] (D.fr 71 5 (r.map aN.c))) [1,1,1] ⟨[(5,D.acc 0)],[Ob.row .uq 71 5 (cC.map aN.c)]⟩):∀(n1:Nat) (vY:Int) (bQ:ah),jA aC k1 n1 vY bQ=some r->Ar Γ N f47 (.q [[some (71,5)]] (D.fr 71 5 (r.map aN.c))) [1,1,0,0] n1 (BL aC vY (bQ.map aN.c)):=by
 intro n
 induction n with
 |zero=>intro vY bQ h;simp[jA]at h
 |succ n1 ih1=>
  intro vY bQ h;rw[jA]at h;refine aV fun N1 cj cL=>?_
  obtain⟨A7,h29,h⟩:=aB h;obtain⟨h30,h⟩|⟨h30,h⟩:=aO h
  ·obtain⟨x31,h32,h⟩:=aB h;obtain⟨tG,h34,h⟩:=aB h;obtain⟨h35,h⟩:=bU h;have gG:=((((((aX.g (fy h29)).b h30).l (er Node.c 8 h32 rfl)).g (s5 h34)).w (bp h35)).l (er Node.c 8 h32 rfl))
   obtain⟨h36,h⟩|⟨h36,h⟩:=aO h
   ·exact((gG.b h36).a [.hl 0 [5] [4]]).exs hΓ cj ⟨[(5,D.acc 0)],[Ob.row .uq 71 5 (([[D.int .i64 tG.kind,D.str tG.pat.rel,D.sl (tG.pat.args.map tx),D.str tG.left,D.str tG.right]])++(bQ.map aN.c))]⟩ (by first| (simp only[mA]<;>rfl)| (simp only[mA,aE.c,aQ.c,aN.c,Action.c,aI.c,aY.c,ax.c,af.c,Node.c,aJ.c,dX.c]<;>rfl)) (dY (([tG])++bQ) h)
   ·exact((gG.b h36).a [.cn [1,2,5] [0,4]]).cs hΓ cL (BL aC x31.parent (([[D.int .i64 tG.kind,D.str tG.pat.rel,D.sl (tG.pat.args.map tx),D.str tG.left,D.str tG.right]])++(bQ.map aN.c))) (by first| (simp only[mA]<;>rfl)| (simp only[mA,aE.c,aQ.c,aN.c,Action.c,aI.c,aY.c,ax.c,af.c,Node.c,aJ.c,dX.c]<;>rfl)) (ih1 x31.parent (([tG])++bQ) h)
  ·exact(((aX.g (fy h29)).b h30).a [.hl 0 [5] [1]]).ex hΓ cj (dY bQ h)
theorem rq{aC:aJ}{aZ:Int}{r:ah}(h:sV aC aZ=some r):Good prog 47 [D.agg (aJ.c aC),D.int .i64 aZ] (D.fr 71 5 (r.map aN.c)):=by
 refine gd func47 [[some (71,5)]] 35 fun hr Γ hΓ=>?_
 rw[sV]at h;refine(aX.a [.cn [1,2,5] [0,1]]).lp hΓ (IE hΓ (fun cC h=>?_) fuel aZ ([]:ah) h);have h:=aK h;subst h;exact aX.ret hΓ
def sH(aC:Bytes):Option Bool:=((mC aC).bind fun y1=>(some y1.2))
theorem xX{aC:Bytes}{r:Bool}(h:sH aC=some r):Good prog 226 [D.str aC] (D.bool r):=by
 refine gd func226 [[none]] 11 fun hr Γ hΓ=>?_
 rw[sH]at h;obtain⟨y1,h2,h⟩:=aB h;cases h;exact(aX.g (qA h2)).ret hΓ
def rI(aC:aN)(aZ:aM):Option Bool:=((qW aC).bind fun y1=>(bif !(y1)then(some false)else((kJ aZ).bind fun y4=>(bif !(y4)then(some false)else((nN aZ aC.left).bind fun y7=>((nN aZ aC.right).bind fun y9=>(bif !(y7.2)then(some false)else(bif !(y9.2)then(some false)else(bif (aC.kind:Int)==3 then(some ((y7.1:Bytes)==y9.1))else(bif (aC.kind:Int)==4 then(some (!((y7.1:Bytes)==y9.1)))else((sH y7.1).bind fun HZ=>(bif HZ then((sH y9.1).bind fun Tr=>(bif Tr then((jM y7.1 y9.1).bind fun Sa=>(some (decide ((Sa:Int)<0))))else(some false)))else(some false)))))))))))))
theorem DK{aC:aN}{aZ:aM}{r:Bool}(h:rI aC aZ=some r):Good prog 206 [D.agg (aN.c aC),D.sl (aZ.map aQ.c)] (D.bool r):=by
 refine gd func206 [[none]] 61 fun hr Γ hΓ=>?_
 rw[rI]at h;obtain⟨y1,h2,h⟩:=aB h;obtain⟨h3,h⟩|⟨h3,h⟩:=aO h
 ·have h:=aK h;subst h;exact(((aX.g (rp h2)).r 4 h3).T 1).ret hΓ
 ·obtain⟨y4,h5,h⟩:=aB h;have nB:=((((aX.g (rp h2)).r 2 h3).g (mP h5)).r 2 h3)
  obtain⟨h6,h⟩|⟨h6,h⟩:=aO h
  ·have h:=aK h;subst h;exact(nB.b h6).ret hΓ
  ·obtain⟨y7,h8,h⟩:=aB h;obtain⟨y9,h10,h⟩:=aB h;have gG:=(((nB.b h6).g (qj h8)).g (qj h10))
   obtain⟨h11,h⟩|⟨h11,h⟩:=aO h
   ·have h:=aK h;subst h;exact((gG.r 3 h11).T 1).ret hΓ
   ·have kY:=(gG.r 3 h11)
    obtain⟨h12,h⟩|⟨h12,h⟩:=aO h
    ·have h:=aK h;subst h;exact(kY.b h12).ret hΓ
    ·obtain⟨h13,h⟩|⟨h13,h⟩:=aO h
     ·cases h;exact((kY.b h12).b h13).ret hΓ
     ·have kX:=((kY.b h12).b h13)
      obtain⟨h14,h⟩|⟨h14,h⟩:=aO h
      ·cases h;exact(kX.b h14).ret hΓ
      ·obtain⟨HZ,h16,h⟩:=aB h;have sQ:=((kX.b h14).g (xX h16))
       obtain⟨h17,h⟩|⟨h17,h⟩:=aO h
       ·obtain⟨Tr,h19,h⟩:=aB h;have vQ:=(((sQ.r 2 h17).g (xX h19)).b h17)
        obtain⟨h20,h⟩|⟨h20,h⟩:=aO h
        ·obtain⟨Sa,h22,h⟩:=aB h;cases h;exact(((vQ.r 3 h20).g (uU h22)).r 2 h20).ret hΓ
        ·have h:=aK h;subst h;exact(vQ.r 5 h20).ret hΓ
       ·have h:=aK h;subst h;exact((sQ.r 3 h17).F 5).ret hΓ
def rH(aC:aN)(aZ:aM)(ck:aP):Option Bool:=((oO aC).bind fun y1=>(bif !(y1)then(some false)else((kJ aZ).bind fun y4=>(bif !(y4)then(some false)else(bif (aC.kind:Int)==1 then((gP aC.pat aZ ck).bind fun y8=>(some (decide ((((y8.map aE.c).length:Int):Int)>0))))else(bif (aC.kind:Int)==2 then((gP aC.pat aZ ck).bind fun Cc=>(some ((((Cc.map aE.c).length:Int):Int)==0)))else((rI aC aZ).bind fun uP=>(some uP))))))))
theorem DJ{aC:aN}{aZ:aM}{ck:aP}{r:Bool}(h:rH aC aZ ck=some r):Good prog 161 [D.agg (aN.c aC),D.sl (aZ.map aQ.c),D.sl (ck.map aE.c)] (D.bool r):=by
 refine gd func161 [[none]] 38 fun hr Γ hΓ=>?_
 rw[rH]at h;obtain⟨y1,h2,h⟩:=aB h;obtain⟨h3,h⟩|⟨h3,h⟩:=aO h
 ·have h:=aK h;subst h;exact(((aX.g (iP h2)).r 4 h3).T 1).ret hΓ
 ·obtain⟨y4,h5,h⟩:=aB h;have nB:=((((aX.g (iP h2)).r 2 h3).g (mP h5)).r 2 h3)
  obtain⟨h6,h⟩|⟨h6,h⟩:=aO h
  ·have h:=aK h;subst h;exact(nB.b h6).ret hΓ
  ·obtain⟨h7,h⟩|⟨h7,h⟩:=aO h
   ·obtain⟨y8,h9,h⟩:=aB h;cases h;exact(((nB.b h6).b h7).g (gQ h9)).ret hΓ
   ·have gG:=((nB.b h6).b h7)
    obtain⟨h10,h⟩|⟨h10,h⟩:=aO h
    ·obtain⟨Cc,h12,h⟩:=aB h;cases h;exact((gG.b h10).g (gQ h12)).ret hΓ
    ·obtain⟨uP,h14,h⟩:=aB h;have h:=aK h;subst h;exact((gG.b h10).g (DK h14)).ret hΓ
def uX(aC:aY):Option aY:=((jh aC.facts).bind fun y1=>((qY aC.bind).bind fun y3=>(some (⟨y1,y3⟩:aY))))
theorem HG{aC:aY}{r:aY}(h:uX aC=some r):Good prog 162 [D.agg (aY.c aC)] (D.agg [D.fr 43 2 (r.facts.map aE.c),D.fr 113 2 (r.bind.map aQ.c)]):=by
 refine gd func162 [[some (43,2),some (113,2)]] 10 fun hr Γ hΓ=>?_
 rw[uX]at h;obtain⟨y1,h2,h⟩:=aB h;obtain⟨y3,h4,h⟩:=aB h;cases h;exact(((aX.a [.n 5]).g (qD h2)).g (uy h4)).ret hΓ
def n8(aC:bB)(aZ:aN)(ck:aP)(i1:Nat)(bS:aY)(k2:bB->Option bB):aP->Nat->bB->Option bB
 | [],i2,eE=>(k2 eE)
 |nD::uO,i2,eE=>((kL aZ.pat nD bS.bind).bind fun V0=>(bif V0.2 then((jh bS.facts).bind fun V1=>((eO nD).bind fun PE=>(bif room ((V1.map aE.c).length+([[D.str PE.rel,D.sl (PE.args.map tx)]]).length) 40 then(bif room ((eE.map aY.c).length+([[D.sl ((V1.map aE.c)++([[D.str PE.rel,D.sl (PE.args.map tx)]])),D.sl (V0.1.map aQ.c)]]).length) 48 then(n8 aC aZ ck i1 bS k2 uO (i2+1) (eE++([(⟨V1++([PE]),V0.1⟩:aY)])))else none)else none)))else(n8 aC aZ ck i1 bS k2 uO (i2+1) eE)))
def gu(aC:bB)(aZ:aN)(ck:aP)(k1:bB->Option bB):bB->Nat->bB->Option bB
 | [],i1,bQ=>(k1 bQ)
 |bS::cZ,i1,bQ=>(bif (aZ.kind:Int) != 1 then((rH aZ bS.bind ck).bind fun Qx=>(bif Qx then((uX bS).bind fun Sb=>(bif room ((bQ.map aY.c).length+([[D.sl (Sb.facts.map aE.c),D.sl (Sb.bind.map aQ.c)]]).length) 48 then(gu aC aZ ck k1 cZ (i1+1) (bQ++([Sb])))else none))else(gu aC aZ ck k1 cZ (i1+1) bQ)))else(bif decide (ck.length<=maxLen)then(n8 aC aZ ck i1 bS (fun(qd:bB)=>(gu aC aZ ck k1 cZ (i1+1) qd)) ck 0 bQ)else none))
def uY(aC:bB)(aZ:aN)(ck:aP):Option bB:=(gu aC aZ ck (fun(cC:bB)=>(some cC)) aC 0 ([]:bB))
def BQ(aC:bB)(aZ:aN)(ck:aP)(W0:List aL)(dP:Int):St:=⟨[(0,D.sl (aC.map aY.c)),(2,D.sl (ck.map aE.c)),(4,D.ptr 0 0),(7,D.acc 1),(8,D.int .i64 dP)],[Ob.box (aN.c aZ),Ob.row .uq 77 2 W0]⟩
def BR(aC:bB)(aZ:aN)(ck:aP)(i1:Nat)(W0:List aL)(dP:Int):St:=⟨[(0,D.sl (aC.map aY.c)),(2,D.sl (ck.map aE.c)),(4,D.ptr 0 0),(7,D.acc 1),(8,D.int .i64 (i1:Int)),(9,D.int .i64 dP)],[Ob.box (aN.c aZ),Ob.row .uq 77 2 W0]⟩
theorem IV(hΓ:Γ.nt=79){aC:bB}{aZ:aN}{ck:aP}{i1:Nat}{bS:aY}{r:bB}{k2:bB->Option bB}(AR:∀(qd:bB),k2 qd=some r->Ax Γ N f98 (.q [[some (77,2)]] (D.fr 77 2 (r.map aY.c))) [1,1,0,1,0,0,1,1] ⟨[(0,D.sl (aC.map aY.c)),(2,D.sl (ck.map aE.c)),(4,D.ptr 0 0),(7,D.acc 1),(8,D.int .i64 (i1:Int))],[Ob.box (aN.c aZ),Ob.row .uq 77 2 (qd.map aY.c)]⟩)(hx1:(aC)[i1]?=some bS)(hm2:ck.length<=maxLen):∀(rest:aP) (i2:Nat) (eE:bB),ck.drop i2=rest->n8 aC aZ ck i1 bS k2 rest i2 eE=some r->Ar Γ N f98 (.q [[some (77,2)]] (D.fr 77 2 (r.map aY.c))) [1,1,0,1,0,0,1,0,0,1,1,0] (rest.length+1) (BR aC aZ ck i1 (eE.map aY.c) (i2:Int)):=by
 intro rest
 induction rest with
 |nil=>
  intro i2 eE hd2 h;rw[n8]at h;refine aV fun N2 uk tD=>?_
  exact((aX.ge aE.c hd2).a [.hl 3 [0,2,4,7,8] [0,1]]).ex hΓ uk (AR eE h)
 |cons nD uO ih2=>
  intro i2 eE hd2 h;rw[n8]at h;refine aV fun N2 uk tD=>?_
  obtain⟨V0,h652,h⟩:=aB h;have Iz:=(((((aX.lt aE.c hd2).a [.n 16]).l (bJ aE.c 2 (dc hd2) rfl)).l (bJ aY.c 2 hx1 rfl)).g (wg h652))
  obtain⟨h653,h⟩|⟨h653,h⟩:=aO h
  ·obtain⟨V1,h660,h⟩:=aB h;obtain⟨PE,h662,h⟩:=aB h;obtain⟨h663,h⟩:=bU h;obtain⟨h664,h⟩:=bU h;exact(((((((((Iz.b h653).a [.n2 [0,1,2,3,4,5,6,7,8,9,10,11,14,12,13,15,16,17,18] [0,1,2,3,4,5,6,7,8,9,10,11,13,14,12,15,16,17,18] 13 17 [0,12] [2,3,4,5,6]]).l (bJ aY.c 2 hx1 rfl)).g (qD h660)).l (bJ aE.c 2 (dc hd2) rfl)).g (gh h662)).w (bp h663)).w (bp h664)).a [.cn [0,2,4,7,8,9] [0,8]]).cs hΓ tD (BR aC aZ ck i1 ((eE.map aY.c)++([[D.sl ((V1.map aE.c)++([[D.str PE.rel,D.sl (PE.args.map tx)]])),D.sl (V0.1.map aQ.c)]])) (IntKind.i64.wrap ((i2:Int)+1))) (by first| (simp only[iS hd2 hm2,mA]<;>rfl)| (simp only[iS hd2 hm2,mA,aE.c,aQ.c,aN.c,Action.c,aI.c,aY.c,ax.c,af.c,Node.c,aJ.c,dX.c]<;>rfl)) (ih2 (i2+1) (eE++([(⟨V1++([PE]),V0.1⟩:aY)])) (dn hd2) h)
  ·exact((Iz.b h653).a [.cn [0,2,4,7,8,9] [0,1]]).ct hΓ tD (iS hd2 hm2) (ih2 (i2+1) eE (dn hd2) h)
theorem IU(hΓ:Γ.nt=79){aC:bB}{aZ:aN}{ck:aP}{r:bB}{k1:bB->Option bB}(dY:∀(cC:bB),k1 cC=some r->Ax Γ N f98 (.q [[some (77,2)]] (D.fr 77 2 (r.map aY.c))) [1,1,1] ⟨[(7,D.acc 0)],[Ob.row .uq 77 2 (cC.map aY.c)]⟩)(hm1:aC.length<=maxLen):∀(rest:bB) (i1:Nat) (bQ:bB),aC.drop i1=rest->gu aC aZ ck k1 rest i1 bQ=some r->Ar Γ N f98 (.q [[some (77,2)]] (D.fr 77 2 (r.map aY.c))) [1,1,0,1,0] (rest.length+1) (BQ aC aZ ck (bQ.map aY.c) (i1:Int)):=by
 intro rest
 induction rest with
 |nil=>
  intro i1 bQ b9 h;rw[gu]at h;refine aV fun N1 cj cL=>?_
  exact((aX.ge aY.c b9).a [.hl 0 [7] [1]]).ex hΓ cj (dY bQ h)
 |cons bS cZ ih1=>
  intro i1 bQ b9 h;rw[gu]at h;refine aV fun N1 cj cL=>?_
  obtain⟨h563,h⟩|⟨h563,h⟩:=aO h
  ·obtain⟨Qx,h565,h⟩:=aB h;have MK:=(((((aX.lt aY.c b9).b h563).a [.n 7]).l (bJ aY.c 2 (dc b9) rfl)).g (DJ h565))
   obtain⟨h566,h⟩|⟨h566,h⟩:=aO h
   ·obtain⟨Sb,h568,h⟩:=aB h;obtain⟨h569,h⟩:=bU h;exact(((((MK.b h566).l (bJ aY.c 2 (dc b9) rfl)).g (HG h568)).w (bp h569)).a [.cn [0,2,4,7,8] [0,5]]).cs hΓ cL (BQ aC aZ ck ((bQ.map aY.c)++([[D.sl (Sb.facts.map aE.c),D.sl (Sb.bind.map aQ.c)]])) (IntKind.i64.wrap ((i1:Int)+1))) (by first| (simp only[iS b9 hm1,mA]<;>rfl)| (simp only[iS b9 hm1,mA,aE.c,aQ.c,aN.c,Action.c,aI.c,aY.c,ax.c,af.c,Node.c,aJ.c,dX.c]<;>rfl)) (ih1 (i1+1) (bQ++([Sb])) (dn b9) h)
   ·exact((MK.b h566).a [.cn [0,2,4,7,8] [0,1]]).ct hΓ cL (iS b9 hm1) (ih1 (i1+1) bQ (dn b9) h)
  ·obtain⟨h665,h⟩:=bU h;refine(((aX.lt aY.c b9).b h563).a [.cn [0,2,4,7,8,9] [0,1]]).lp hΓ (IV hΓ (fun qd h=>?_) ((drop_cons b9).1) (bY h665) ck 0 bQ rfl h);exact(aX.a [.cn [0,2,4,7,8] [0,1]]).ct hΓ cL (iS b9 hm1) (ih1 (i1+1) qd (dn b9) h)
theorem HH{aC:bB}{aZ:aN}{ck:aP}{r:bB}(h:uY aC aZ ck=some r):Good prog 98 [D.sl (aC.map aY.c),D.agg (aN.c aZ),D.sl (ck.map aE.c)] (D.fr 77 2 (r.map aY.c)):=by
 refine gd func98 [[some (77,2)]] 79 fun hr Γ hΓ=>?_
 rw[uY]at h;refine(aX.a [.cn [0,2,4,7,8] [0,1]]).lp hΓ (IU hΓ (fun cC h=>?_) (by have:=(iE.sl (hr _ (aD (i:=0) rfl))).1;simpa using this) aC 0 ([]:bB) rfl h);have h:=aK h;subst h;exact aX.ret hΓ
def jz(aC:ah)(aZ:aP)(k1:bB->Option bB):ah->Nat->bB->Option bB
 | [],i1,bN=>(k1 bN)
 |bS::cZ,i1,bN=>((uY bN bS aZ).bind fun qM=>(jz aC aZ k1 cZ (i1+1) qM))
def mF(aC:ah)(aZ:aP):Option bB:=(jz aC aZ (fun(cC:bB)=>(some cC)) aC 0 ([(⟨[],[]⟩:aY)]))
def zf(aC:ah)(aZ:aP)(W0:List aL)(dP:Int):St:=⟨[(0,D.sl (aC.map aN.c)),(1,D.sl (aZ.map aE.c)),(5,D.acc 0),(6,D.int .i64 dP)],[Ob.row .uq 77 2 W0]⟩
theorem GA(hΓ:Γ.nt=23){aC:ah}{aZ:aP}{r:bB}{k1:bB->Option bB}(dY:∀(cC:bB),k1 cC=some r->Ax Γ N f46 (.q [[some (77,2)]] (D.fr 77 2 (r.map aY.c))) [1,1,1] ⟨[(5,D.acc 0)],[Ob.row .uq 77 2 (cC.map aY.c)]⟩)(hm1:aC.length<=maxLen):∀(rest:ah) (i1:Nat) (bN:bB),aC.drop i1=rest->jz aC aZ k1 rest i1 bN=some r->Ar Γ N f46 (.q [[some (77,2)]] (D.fr 77 2 (r.map aY.c))) [1,1,0,1,0] (rest.length+1) (zf aC aZ (bN.map aY.c) (i1:Int)):=by
 intro rest
 induction rest with
 |nil=>
  intro i1 bN b9 h;rw[jz]at h;refine aV fun N1 cj cL=>?_
  exact((aX.ge aN.c b9).a [.hl 0 [5] [0]]).ex hΓ cj (dY bN h)
 |cons bS cZ ih1=>
  intro i1 bN b9 h;rw[jz]at h;refine aV fun N1 cj cL=>?_
  obtain⟨qM,h23,h⟩:=aB h;exact((((aX.lt aN.c b9).l (bJ aN.c 5 (dc b9) rfl)).g (HH h23)).a [.cn [0,1,5,6] [1]]).ct hΓ cL (iS b9 hm1) (ih1 (i1+1) qM (dn b9) h)
theorem xb{aC:ah}{aZ:aP}{r:bB}(h:mF aC aZ=some r):Good prog 46 [D.sl (aC.map aN.c),D.sl (aZ.map aE.c)] (D.fr 77 2 (r.map aY.c)):=by
 refine gd func46 [[some (77,2)]] 23 fun hr Γ hΓ=>?_
 rw[mF]at h;refine(aX.a [.cn [0,1,5,6] [0]]).lps hΓ (zf aC aZ ([[D.sl ([]),D.sl ([])]]) 0) (by first| (simp only[mA]<;>rfl)| (simp only[mA,aE.c,aQ.c,aN.c,Action.c,aI.c,aY.c,ax.c,af.c,Node.c,aJ.c,dX.c]<;>rfl)) (GA hΓ (fun cC h=>?_) (by have:=(iE.sl (hr _ (aD (i:=0) rfl))).1;simpa using this) aC 0 ([(⟨[],[]⟩:aY)]) rfl h);have h:=aK h;subst h;exact aX.ret hΓ
def kV(aC:aJ)(aZ:aP)(y1:aP)(k1:bX->Option aJ):Nat->Int->bX->Option aJ
 |0,_,_=>none
 |n1+1,wM,tX=>(bif decide ((wM:Int)<((tX.map af.c).length:Int))then((iw tX wM).bind fun x26=>((gP x26.shape ([]) aZ).bind fun A7=>(kV aC aZ y1 k1 n1 (IntKind.i64.wrap (wM+1)) (tX.set wM.toNat (⟨x26.shape,A7⟩:af)))))else(k1 tX))
def jC(aC:aJ)(aZ:aP)(y1:aP)(uc:bX)(k2:bR->Option aJ):Nat->Int->bR->Option aJ
 |0,_,_=>none
 |n2+1,qK,nC=>(bif decide ((qK:Int)<((nC.map Node.c).length:Int))then((sV (⟨aC.rules,aC.ends,uc,nC,y1,aC.cg⟩:aJ) qK).bind fun Yo=>((mF Yo aZ).bind fun y82=>((iw nC qK).bind fun x84=>(jC aC aZ y1 uc k2 n2 (IntKind.i64.wrap (qK+1)) (nC.set qK.toNat (⟨x84.parent,x84.cond,x84.eS,y82⟩:Node))))))else(k2 nC))
def sY(aC:aJ)(aZ:aP):Option aJ:=((jh aZ).bind fun y1=>(kV aC aZ y1 (fun(uc:bX)=>(jC aC aZ y1 uc (fun(rQ:bR)=>(some (⟨aC.rules,aC.ends,uc,rQ,y1,aC.cg⟩:aJ))) fuel 0 aC.nodes)) fuel 0 aC.bG))
def BT(aC:aJ)(aZ:aP)(y1:aP)(wM:Int)(W1:List aL):St:=⟨[(1,D.acc 0),(2,D.ptr 1 0),(4,D.ptr 2 0),(5,D.int .i64 wM)],[Ob.row .uq 43 2 (aZ.map aE.c),Ob.box [D.acc 3,D.acc 4,D.acc 5,D.acc 6,D.acc 7,D.int .i64 aC.cg],Ob.box [D.nil,D.nil,D.nil,D.nil,D.nil,D.int .i64 0],Ob.row .uq 63 4 (aC.rules.map aI.c),Ob.row .uq 3 1 (aC.ends.map nA),Ob.row .uq 83 3 W1,Ob.row .uq 74 8 (aC.nodes.map Node.c),Ob.row .uq 43 2 (y1.map aE.c)]⟩
theorem Ia(hΓ:Γ.nt=48){aC:aJ}{aZ:aP}{y1:aP}{r:aJ}{k1:bX->Option aJ}(dY:∀(uc:bX),k1 uc=some r->Ax Γ N f133 (.q [[some (63,4),some (3,1),some (83,3),some (74,8),some (43,2),none]] (D.agg [D.fr 63 4 (r.rules.map aI.c),D.fr 3 1 (r.ends.map nA),D.fr 83 3 (r.bG.map af.c),D.fr 74 8 (r.nodes.map Node.c),D.fr 43 2 (r.facts.map aE.c),D.int .i64 r.cg])) [1,1,1] ⟨[(1,D.acc 0),(2,D.ptr 1 0),(4,D.ptr 2 0)],[Ob.row .uq 43 2 (aZ.map aE.c),Ob.box [D.acc 3,D.acc 4,D.acc 5,D.acc 6,D.acc 7,D.int .i64 aC.cg],Ob.box [D.nil,D.nil,D.nil,D.nil,D.nil,D.int .i64 0],Ob.row .uq 63 4 (aC.rules.map aI.c),Ob.row .uq 3 1 (aC.ends.map nA),Ob.row .uq 83 3 (uc.map af.c),Ob.row .uq 74 8 (aC.nodes.map Node.c),Ob.row .uq 43 2 (y1.map aE.c)]⟩):∀(n1:Nat) (wM:Int) (tX:bX),kV aC aZ y1 k1 n1 wM tX=some r->Ar Γ N f133 (.q [[some (63,4),some (3,1),some (83,3),some (74,8),some (43,2),none]] (D.agg [D.fr 63 4 (r.rules.map aI.c),D.fr 3 1 (r.ends.map nA),D.fr 83 3 (r.bG.map af.c),D.fr 74 8 (r.nodes.map Node.c),D.fr 43 2 (r.facts.map aE.c),D.int .i64 r.cg])) [1,1,0,1,0] n1 (BT aC aZ y1 wM (tX.map af.c)):=by
 intro n
 induction n with
 |zero=>intro wM tX h;simp[kV]at h
 |succ n1 ih1=>
  intro wM tX h;rw[kV]at h;refine aV fun N1 cj cL=>?_
  obtain⟨h25,h⟩|⟨h25,h⟩:=aO h
  ·obtain⟨x26,h27,h⟩:=aB h;obtain⟨A7,h29,h⟩:=aB h;exact(((((((((aX.b h25).a [.n 11]).i (iD af.c 3 h27)).o 3 2 .uq (cX af.c (fC h27))).a [.d (D.fr 43 2 (A7.map aE.c))]).w (show Good prog 44 [D.agg (aE.c x26.shape),D.sl ([]),D.sl (aZ.map aE.c)] (D.fr 43 2 (A7.map aE.c))from by first| (simpa only[bI,ay,bt,br,cB]using gQ h29)|exact gQ h29)).i (iD af.c 3 h27)).w (show(tX.map af.c)[wM.toNat]?=some [D.str x26.shape.rel,D.sl (x26.shape.args.map tx),D.sl (x26.facts.map aE.c)]from cX af.c (fC h27))).a [.row [D.str x26.shape.rel,D.sl (x26.shape.args.map tx),D.sl (x26.facts.map aE.c)],.cn [1,2,4,5] [0,1,2,3,4,5,6,7]]).cs hΓ cL (BT aC aZ y1 (IntKind.i64.wrap (wM+1)) ((tX.map af.c).set wM.toNat [D.str x26.shape.rel,D.sl (x26.shape.args.map tx),D.sl (A7.map aE.c)])) (by first| (simp only[mA]<;>rfl)| (simp only[mA,aE.c,aQ.c,aN.c,Action.c,aI.c,aY.c,ax.c,af.c,Node.c,aJ.c,dX.c]<;>rfl)) (ih1 (IntKind.i64.wrap (wM+1)) (tX.set wM.toNat (⟨x26.shape,A7⟩:af)) h)
  ·exact((aX.b h25).a [.hl 0 [1,2,4] [0,1,2,3,4,5,6,7]]).ex hΓ cj (dY tX h)
def BU(aC:aJ)(aZ:aP)(y1:aP)(uc:bX)(qK:Int)(W1:List aL):St:=⟨[(1,D.acc 0),(2,D.ptr 1 0),(4,D.ptr 2 0),(6,D.int .i64 qK)],[Ob.row .uq 43 2 (aZ.map aE.c),Ob.box [D.acc 3,D.acc 4,D.acc 5,D.acc 6,D.acc 7,D.int .i64 aC.cg],Ob.box [D.nil,D.nil,D.nil,D.nil,D.nil,D.int .i64 0],Ob.row .uq 63 4 (aC.rules.map aI.c),Ob.row .uq 3 1 (aC.ends.map nA),Ob.row .uq 83 3 (uc.map af.c),Ob.row .uq 74 8 W1,Ob.row .uq 43 2 (y1.map aE.c)]⟩
theorem Ib(hΓ:Γ.nt=48){aC:aJ}{aZ:aP}{y1:aP}{uc:bX}{r:aJ}{k2:bR->Option aJ}(AR:∀(rQ:bR),k2 rQ=some r->Ax Γ N f133 (.q [[some (63,4),some (3,1),some (83,3),some (74,8),some (43,2),none]] (D.agg [D.fr 63 4 (r.rules.map aI.c),D.fr 3 1 (r.ends.map nA),D.fr 83 3 (r.bG.map af.c),D.fr 74 8 (r.nodes.map Node.c),D.fr 43 2 (r.facts.map aE.c),D.int .i64 r.cg])) [1,1,1,1] ⟨[(2,D.ptr 0 0),(4,D.ptr 1 0)],[Ob.box [D.acc 2,D.acc 3,D.acc 4,D.acc 5,D.acc 6,D.int .i64 aC.cg],Ob.box [D.nil,D.nil,D.nil,D.nil,D.nil,D.int .i64 0],Ob.row .uq 63 4 (aC.rules.map aI.c),Ob.row .uq 3 1 (aC.ends.map nA),Ob.row .uq 83 3 (uc.map af.c),Ob.row .uq 74 8 (rQ.map Node.c),Ob.row .uq 43 2 (y1.map aE.c)]⟩):∀(n2:Nat) (qK:Int) (nC:bR),jC aC aZ y1 uc k2 n2 qK nC=some r->Ar Γ N f133 (.q [[some (63,4),some (3,1),some (83,3),some (74,8),some (43,2),none]] (D.agg [D.fr 63 4 (r.rules.map aI.c),D.fr 3 1 (r.ends.map nA),D.fr 83 3 (r.bG.map af.c),D.fr 74 8 (r.nodes.map Node.c),D.fr 43 2 (r.facts.map aE.c),D.int .i64 r.cg])) [1,1,1,0,1,0] n2 (BU aC aZ y1 uc qK (nC.map Node.c)):=by
 intro n
 induction n with
 |zero=>intro qK nC h;simp[jC]at h
 |succ n2 ih2=>
  intro qK nC h;rw[jC]at h;refine aV fun N2 uk tD=>?_
  obtain⟨h75,h⟩|⟨h75,h⟩:=aO h
  ·obtain⟨Yo,h81,h⟩:=aB h;obtain⟨y82,h83,h⟩:=aB h;obtain⟨x84,h85,h⟩:=aB h;exact(((((((aX.b h75).a [.n2 [0,1,2,3,4,5,6,7,8,9,10] [0,1,2,3,4,5,6,7,8,9,10] 7 8 [0,1,2] [],.d (D.fr 71 5 (Yo.map aN.c))]).w (show Good prog 47 [D.agg [D.sl (aC.rules.map aI.c),D.sl (aC.ends.map nA),D.sl (uc.map af.c),D.sl (nC.map Node.c),D.sl (y1.map aE.c),D.int .i64 aC.cg],D.int .i64 qK] (D.fr 71 5 (Yo.map aN.c))from by first| (simpa only[bI,ay,bt,br,cB]using rq h81)|exact rq h81| (have t:=rq h81;simp only[bI,br,cB,aJ.c]at t;exact t))).g (xb h83)).i (iD Node.c 8 h85)).w (show(nC.map Node.c)[qK.toNat]?=some [D.int .i64 x84.parent,D.int .i64 x84.cond.kind,D.str x84.cond.pat.rel,D.sl (x84.cond.pat.args.map tx),D.str x84.cond.left,D.str x84.cond.right,D.int .i64 x84.eS,D.sl (x84.tokens.map aY.c)]from cX Node.c (fC h85))).a [.row [D.int .i64 x84.parent,D.int .i64 x84.cond.kind,D.str x84.cond.pat.rel,D.sl (x84.cond.pat.args.map tx),D.str x84.cond.left,D.str x84.cond.right,D.int .i64 x84.eS,D.sl (x84.tokens.map aY.c)],.cn [1,2,4,6] [0,1,2,3,4,5,6,7]]).cs hΓ tD (BU aC aZ y1 uc (IntKind.i64.wrap (qK+1)) ((nC.map Node.c).set qK.toNat [D.int .i64 x84.parent,D.int .i64 x84.cond.kind,D.str x84.cond.pat.rel,D.sl (x84.cond.pat.args.map tx),D.str x84.cond.left,D.str x84.cond.right,D.int .i64 x84.eS,D.sl (y82.map aY.c)])) (by first| (simp only[mA]<;>rfl)| (simp only[mA,aE.c,aQ.c,aN.c,Action.c,aI.c,aY.c,ax.c,af.c,Node.c,aJ.c,dX.c]<;>rfl)) (ih2 (IntKind.i64.wrap (qK+1)) (nC.set qK.toNat (⟨x84.parent,x84.cond,x84.eS,y82⟩:Node)) h)
  ·exact((aX.b h75).a [.hl 0 [2,4] [1,2,3,4,5,6,7]]).ex hΓ uk (AR nC h)
theorem HM{aC:aJ}{aZ:aP}{r:aJ}(h:sY aC aZ=some r):Hj prog 133 [D.agg [D.fr 63 4 (aC.rules.map aI.c),D.fr 3 1 (aC.ends.map nA),D.fr 83 3 (aC.bG.map af.c),D.fr 74 8 (aC.nodes.map Node.c),D.fr 43 2 (aC.facts.map aE.c),D.int .i64 aC.cg],D.fr 43 2 (aZ.map aE.c)] (D.agg [D.fr 63 4 (r.rules.map aI.c),D.fr 3 1 (r.ends.map nA),D.fr 83 3 (r.bG.map af.c),D.fr 74 8 (r.nodes.map Node.c),D.fr 43 2 (r.facts.map aE.c),D.int .i64 r.cg]):=by
 refine gdF func133 [[some (63,4),some (3,1),some (83,3),some (74,8),some (43,2),none]] 48 [D.agg [D.acc 0,D.acc 1,D.acc 2,D.acc 3,D.acc 4,D.int .i64 aC.cg],D.acc 5] [Ob.row .uq 63 4 (aC.rules.map aI.c),Ob.row .uq 3 1 (aC.ends.map nA),Ob.row .uq 83 3 (aC.bG.map af.c),Ob.row .uq 74 8 (aC.nodes.map Node.c),Ob.row .uq 43 2 (aC.facts.map aE.c),Ob.row .uq 43 2 (aZ.map aE.c)] fun hr Γ hΓ=>?_
 rw[sY]at h;obtain⟨y1,h2,h⟩:=aB h;refine((aX.g (qD h2)).a [.cn [1,2,4,5] [5,6,7,0,1,2,3,8]]).lp hΓ (Ia hΓ (fun uc h=>?_) fuel 0 aC.bG h);refine(aX.a [.cn [1,2,4,6] [0,1,2,3,4,5,6,7]]).lp hΓ (Ib hΓ (fun rQ h=>?_) fuel 0 aC.nodes h);cases h;exact aX.ret hΓ
def ua(aC:cK):Option (cK×aJ):=((wB aC 4).bind fun y1=>((jN y1.2).bind fun y3=>((oJ y1.1 8).bind fun y7=>((sY y3.1 y7.2).bind fun y9=>((cP y7.1 50).bind fun Cc=>(some (Cc.1,(⟨y9.rules,y9.ends,y9.bG,y9.nodes,y9.facts,Cc.2⟩:aJ))))))))
theorem HL{aC:cK}{r:cK×aJ}(h:ua aC=some r):gx prog 75 (cK.c aC) (cK.c r.1) [] (D.agg [D.fr 63 4 (r.2.rules.map aI.c),D.fr 3 1 (r.2.ends.map nA),D.fr 83 3 (r.2.bG.map af.c),D.fr 74 8 (r.2.nodes.map Node.c),D.fr 43 2 (r.2.facts.map aE.c),D.int .i64 r.2.cg]):=by
 refine Ii func75 [[none,none,none],[some (63,4),some (3,1),some (83,3),some (74,8),some (43,2),none]] 19 [D.sl (aC.b.map yx),D.int .i64 aC.i,D.int .i64 aC.h] [] [] fun hr hG Γ hΓ=>?_
 rw[ua]at h;obtain⟨y1,h2,h⟩:=aB h;obtain⟨y3,h4,h⟩:=aB h;obtain⟨y7,h8,h⟩:=aB h;obtain⟨y9,h10,h⟩:=aB h;obtain⟨Cc,h12,h⟩:=aB h;cases h;exact((((((aX.hp [[none,none,none],[none]] (IT h2)).g (qT h4)).a [.n2 [0,1,2,3,4] [0,1,2,3,4] 2 3 [0] [0]]).hp [[none,none,none],[none]] (w8 h8)).hf [[some (63,4),some (3,1),some (83,3),some (74,8),some (43,2),none],[some (43,2)]] (HM h10)).hp [[none,none,none],[none]] (cF h12)).ret hΓ
def ko(aC:cK):Option (cK×Bytes):=((oI aC ([[97],[98],[111,110],[55],[49,48],[57,57,57,57],[49,48,48,48,48],[48,48,55],[48],[],[65],[63,120],[63,63],[63],[97,98,99,100,101,102,103,104],[97,98,99,100,101,102,103,104,105],[63,97,98,99,100,101,102,103,104],[97,45,98],[120,49],[49,120],[45,51]]:aG)).bind fun y1=>(some (y1.1,y1.2)))
theorem mm{aC:cK}{r:cK×Bytes}(h:ko aC=some r):gx prog 137 (cK.c aC) (cK.c r.1) [] (D.str r.2):=by
 refine Ii func137 [[none,none,none],[none]] 6 [D.sl (aC.b.map yx),D.int .i64 aC.i,D.int .i64 aC.h] [] [] fun hr hG Γ hΓ=>?_
 rw[ko]at h;obtain⟨y1,h2,h⟩:=aB h;cases h;exact(aX.hp [[none,none,none],[some (9,1)]] (qC h2)).ret hΓ
def w5(aC:cK):Option (cK×aE):=((kp aC).bind fun y1=>((cP y1.1 10).bind fun y3=>(bif (y3.2:Int)==0 then((ko y3.1).bind fun y6=>(some (y6.1,(⟨y6.2,y1.2.args⟩:aE))))else(bif (y3.2:Int)==1 then((ko y3.1).bind fun Cc=>(bif room ((y1.2.args.map tx).length+([[D.str Cc.2]]).length) 16 then(some (Cc.1,(⟨y1.2.rel,y1.2.args++([Cc.2])⟩:aE)))else none))else(bif (y3.2:Int)==2 then((cP y3.1 5).bind fun HZ=>(bif decide (0<=(HZ.2:Int))&&decide (HZ.2.toNat<=(([[97],[98],[99],[97]]:aG).map tx).length)then(some (HZ.1,(⟨y1.2.rel,([[97],[98],[99],[97]]:aG).take HZ.2.toNat⟩:aE)))else none))else(some (y3.1,y1.2)))))))
theorem IK{aC:cK}{r:cK×aE}(h:w5 aC=some r):gx prog 112 (cK.c aC) (cK.c r.1) [] (D.agg [D.str r.2.rel,D.fr 9 1 (r.2.args.map tx)]):=by
 refine Ii func112 [[none,none,none],[none,some (9,1)]] 30 [D.sl (aC.b.map yx),D.int .i64 aC.i,D.int .i64 aC.h] [] [] fun hr hG Γ hΓ=>?_
 rw[w5]at h;obtain⟨y1,h2,h⟩:=aB h;obtain⟨y3,h4,h⟩:=aB h;have nB:=((aX.hp [[none,none,none]] (zX h2)).hp [[none,none,none],[none]] (cF h4))
 obtain⟨h5,h⟩|⟨h5,h⟩:=aO h
 ·obtain⟨y6,h7,h⟩:=aB h;cases h;exact((nB.b h5).hp [[none,none,none]] (mm h7)).ret hΓ
 ·obtain⟨h8,h⟩|⟨h8,h⟩:=aO h
  ·obtain⟨Cc,h12,h⟩:=aB h;obtain⟨h13,h⟩:=bU h;cases h;exact(((((nB.b h5).b h8).a [.n2 [0,1,2,3,4,5,6,7] [0,1,2,3,4,5,6,7] 3 5 [0,1] [0]]).hp [[none,none,none]] (mm h12)).w (bp h13)).rts hΓ (D.gw [D.agg [D.str y1.2.rel,D.fr 9 1 ((y1.2.args.map tx)++([[D.str Cc.2]]))],D.agg [D.sl (Cc.1.b.map yx),D.int .i64 Cc.1.i,D.int .i64 Cc.1.h],D.val hG]) (by first|rfl| (simp only[mA]<;>rfl)| (simp only[cD,mA]<;>rfl))
  ·have gG:=((nB.b h5).b h8)
   obtain⟨h14,h⟩|⟨h14,h⟩:=aO h
   ·obtain⟨HZ,h16,h⟩:=aB h;obtain⟨h17,h⟩:=bU h;cases h;exact((((gG.b h14).hp [[none,none,none],[none]] (cF h16)).w (RI h17)).a [.cut 0 HZ.2.toNat]).rts hΓ (D.gw [D.agg [D.str y1.2.rel,D.fr 9 1 ((([[97],[98],[99],[97]]:aG).map tx).take HZ.2.toNat)],D.agg [D.sl (HZ.1.b.map yx),D.int .i64 HZ.1.i,D.int .i64 HZ.1.h],D.val hG]) (by first|rfl| (simp only[mA]<;>rfl)| (simp only[cD,mA]<;>rfl))
   ·cases h;exact(gG.b h14).ret hΓ
def kQ(y3:cK×Int)(k1:aP->Option (cK×aP)):Nat->Int->aP->Option (cK×aP)
 |0,_,_=>none
 |n1+1,nV,bQ=>(bif decide ((nV:Int)<25)then((j8 nV).bind fun FI=>((lI bQ (⟨[110],[FI]⟩:aE)).bind fun tG=>(kQ y3 k1 n1 (IntKind.i64.wrap (nV+1)) tG)))else(k1 bQ))
def uV(aC:cK):Option (cK×aP):=((oJ aC 6).bind fun y1=>((cP y1.1 8).bind fun y3=>(bif (y3.2:Int)==0 then((w5 y3.1).bind fun y6=>(bif room ((y1.2.map aE.c).length+([[D.str y6.2.rel,D.sl (y6.2.args.map tx)]]).length) 40 then(some (y6.1,y1.2++([y6.2])))else none))else(bif (y3.2:Int)==1 then(kQ y3 (fun(lN:aP)=>((gb y3.1 ([23,24,25]:bK)).bind fun GI=>(bif decide (0<=(GI.2:Int))&&decide (GI.2.toNat<=(lN.map aE.c).length)then(some (GI.1,lN.take GI.2.toNat))else none))) fuel 0 y1.2)else(some (y3.1,y1.2))))))
def Jj(hG:Value)(y3:cK×Int)(nV:Int)(W1:List aL):St:=⟨[(0,D.ptr 0 0),(3,D.acc 1),(4,D.int .i64 nV)],[Ob.zq (cK.c y3.1) hG,Ob.row .uq 43 2 W1]⟩
theorem IM(hΓ:Γ.nt=34){hG:Value}{y3:cK×Int}{r:cK×aP}{k1:aP->Option (cK×aP)}(dY:∀(lN:aP),k1 lN=some r->Ax Γ N f77 (.p [[none,none,none],[some (43,2)]] hG (cK.c r.1) (D.fr 43 2 (r.2.map aE.c))) [1,1,0,1,0,1,1,1,0,1] ⟨[(0,D.ptr 0 0),(3,D.acc 1)],[Ob.zq (cK.c y3.1) hG,Ob.row .uq 43 2 (lN.map aE.c)]⟩):∀(n1:Nat) (nV:Int) (bQ:aP),kQ y3 k1 n1 nV bQ=some r->Ar Γ N f77 (.p [[none,none,none],[some (43,2)]] hG (cK.c r.1) (D.fr 43 2 (r.2.map aE.c))) [1,1,0,1,0,1,1,1,0,0,1,0] n1 (Jj hG y3 nV (bQ.map aE.c)):=by
 intro n
 induction n with
 |zero=>intro nV bQ h;simp[kQ]at h
 |succ n1 ih1=>
  intro nV bQ h;rw[kQ]at h;refine aV fun N1 cj cL=>?_
  obtain⟨h30,h⟩|⟨h30,h⟩:=aO h
  ·obtain⟨FI,h32,h⟩:=aB h;obtain⟨tG,h34,h⟩:=aB h;exact(((((aX.b h30).g (mO h32)).a [.d (D.fr 43 2 (tG.map aE.c))]).w (show Good prog 67 [D.sl (bQ.map aE.c),D.agg [D.str ([110]),D.sl ([[D.str FI]])]] (D.fr 43 2 (tG.map aE.c))from by first| (simpa only[bI,ay,bt,br,cB]using tC h34)|exact tC h34| (have t:=tC h34;simp only[bI,br,cB,aE.c]at t;exact t))).a [.cn [0,3,4] [0,3]]).cf hΓ cL (ih1 (IntKind.i64.wrap (nV+1)) tG h)
  ·exact((aX.b h30).a [.hl 2 [0,3] [0,1]]).ex hΓ cj (dY bQ h)
theorem H9{aC:cK}{r:cK×aP}(h:uV aC=some r):gx prog 77 (cK.c aC) (cK.c r.1) [] (D.fr 43 2 (r.2.map aE.c)):=by
 refine Ii func77 [[none,none,none],[some (43,2)]] 34 [D.sl (aC.b.map yx),D.int .i64 aC.i,D.int .i64 aC.h] [] [] fun hr hG Γ hΓ=>?_
 rw[uV]at h;obtain⟨y1,h2,h⟩:=aB h;obtain⟨y3,h4,h⟩:=aB h;have nB:=((aX.hp [[none,none,none],[none]] (w8 h2)).hp [[none,none,none],[none]] (cF h4))
 obtain⟨h5,h⟩|⟨h5,h⟩:=aO h
 ·obtain⟨y6,h7,h⟩:=aB h;obtain⟨h8,h⟩:=bU h;cases h;exact(((nB.b h5).hp [[none,none,none]] (IK h7)).w (bp h8)).rts hΓ (D.gw [D.fr 43 2 ((y1.2.map aE.c)++([[D.str y6.2.rel,D.sl (y6.2.args.map tx)]])),D.agg [D.sl (y6.1.b.map yx),D.int .i64 y6.1.i,D.int .i64 y6.1.h],D.val hG]) (by first|rfl| (simp only[mA]<;>rfl)| (simp only[cD,mA]<;>rfl))
 ·obtain⟨h9,h⟩|⟨h9,h⟩:=aO h
  ·refine(((nB.b h5).b h9).a [.cn [0,3,4] [0,1]]).lp hΓ (IM hΓ (fun lN h=>?_) fuel 0 y1.2 h);obtain⟨GI,h36,h⟩:=aB h;obtain⟨h37,h⟩:=bU h;cases h;exact(((aX.hp [[none,none,none],[some (3,1)]] (jX h36)).w (RI h37)).a [.cut 0 GI.2.toNat]).rts hΓ (D.gw [D.fr 43 2 ((lN.map aE.c).take GI.2.toNat),D.agg [D.sl (GI.1.b.map yx),D.int .i64 GI.1.i,D.int .i64 GI.1.h],D.val hG]) (by first|rfl| (simp only[mA]<;>rfl)| (simp only[cD,mA]<;>rfl))
  ·cases h;exact((nB.b h5).b h9).ret hΓ
def th(aC:cK):Option (cK×aE):=((iv aC).bind fun y1=>((cP y1.1 10).bind fun y3=>(bif (y3.2:Int)==0 then((ko y3.1).bind fun y6=>(some (y6.1,(⟨y6.2,y1.2.args⟩:aE))))else(bif (y3.2:Int)==1 then((ko y3.1).bind fun Cc=>(bif room ((y1.2.args.map tx).length+([[D.str Cc.2]]).length) 16 then(some (Cc.1,(⟨y1.2.rel,y1.2.args++([Cc.2])⟩:aE)))else none))else(bif (y3.2:Int)==2 then((cP y3.1 5).bind fun HZ=>(bif decide (0<=(HZ.2:Int))&&decide (HZ.2.toNat<=(([[63,120],[63,120],[63,121],[63,120]]:aG).map tx).length)then(some (HZ.1,(⟨y1.2.rel,([[63,120],[63,120],[63,121],[63,120]]:aG).take HZ.2.toNat⟩:aE)))else none))else(some (y3.1,y1.2)))))))
theorem AL{aC:cK}{r:cK×aE}(h:th aC=some r):gx prog 139 (cK.c aC) (cK.c r.1) [] (D.agg [D.str r.2.rel,D.fr 9 1 (r.2.args.map tx)]):=by
 refine Ii func139 [[none,none,none],[none,some (9,1)]] 30 [D.sl (aC.b.map yx),D.int .i64 aC.i,D.int .i64 aC.h] [] [] fun hr hG Γ hΓ=>?_
 rw[th]at h;obtain⟨y1,h2,h⟩:=aB h;obtain⟨y3,h4,h⟩:=aB h;have nB:=((aX.hp [[none,none,none]] (mq h2)).hp [[none,none,none],[none]] (cF h4))
 obtain⟨h5,h⟩|⟨h5,h⟩:=aO h
 ·obtain⟨y6,h7,h⟩:=aB h;cases h;exact((nB.b h5).hp [[none,none,none]] (mm h7)).ret hΓ
 ·obtain⟨h8,h⟩|⟨h8,h⟩:=aO h
  ·obtain⟨Cc,h12,h⟩:=aB h;obtain⟨h13,h⟩:=bU h;cases h;exact(((((nB.b h5).b h8).a [.n2 [0,1,2,3,4,5,6,7] [0,1,2,3,4,5,6,7] 3 5 [0,1] [0]]).hp [[none,none,none]] (mm h12)).w (bp h13)).rts hΓ (D.gw [D.agg [D.str y1.2.rel,D.fr 9 1 ((y1.2.args.map tx)++([[D.str Cc.2]]))],D.agg [D.sl (Cc.1.b.map yx),D.int .i64 Cc.1.i,D.int .i64 Cc.1.h],D.val hG]) (by first|rfl| (simp only[mA]<;>rfl)| (simp only[cD,mA]<;>rfl))
  ·have gG:=((nB.b h5).b h8)
   obtain⟨h14,h⟩|⟨h14,h⟩:=aO h
   ·obtain⟨HZ,h16,h⟩:=aB h;obtain⟨h17,h⟩:=bU h;cases h;exact((((gG.b h14).hp [[none,none,none],[none]] (cF h16)).w (RI h17)).a [.cut 0 HZ.2.toNat]).rts hΓ (D.gw [D.agg [D.str y1.2.rel,D.fr 9 1 ((([[63,120],[63,120],[63,121],[63,120]]:aG).map tx).take HZ.2.toNat)],D.agg [D.sl (HZ.1.b.map yx),D.int .i64 HZ.1.i,D.int .i64 HZ.1.h],D.val hG]) (by first|rfl| (simp only[mA]<;>rfl)| (simp only[cD,mA]<;>rfl))
   ·cases h;exact(gG.b h14).ret hΓ
def w9(aC:cK):Option (cK×aN):=((qZ aC).bind fun y1=>((cP y1.1 12).bind fun y3=>(bif (y3.2:Int)==0 then((gb y3.1 ([0,1,3,5,6, -1]:bK)).bind fun y6=>(some (y6.1,(⟨y6.2,y1.2.pat,y1.2.left,y1.2.right⟩:aN))))else(bif (y3.2:Int)==1 then((ko y3.1).bind fun y9=>(some (y9.1,(⟨y1.2.kind,y1.2.pat,y9.2,y1.2.right⟩:aN))))else(bif (y3.2:Int)==2 then((th y3.1).bind fun PJ=>(some (PJ.1,(⟨y1.2.kind,PJ.2,y1.2.left,y1.2.right⟩:aN))))else(some (y3.1,y1.2)))))))
theorem IP{aC:cK}{r:cK×aN}(h:w9 aC=some r):gx prog 138 (cK.c aC) (cK.c r.1) [] (D.agg [D.int .i64 r.2.kind,D.str r.2.pat.rel,D.fr 9 1 (r.2.pat.args.map tx),D.str r.2.left,D.str r.2.right]):=by
 refine Ii func138 [[none,none,none],[none,none,some (9,1),none,none]] 25 [D.sl (aC.b.map yx),D.int .i64 aC.i,D.int .i64 aC.h] [] [] fun hr hG Γ hΓ=>?_
 rw[w9]at h;obtain⟨y1,h2,h⟩:=aB h;obtain⟨y3,h4,h⟩:=aB h;have nB:=((aX.hp [[none,none,none]] (zZ h2)).hp [[none,none,none],[none]] (cF h4))
 obtain⟨h5,h⟩|⟨h5,h⟩:=aO h
 ·obtain⟨y6,h7,h⟩:=aB h;cases h;exact((nB.b h5).hp [[none,none,none],[some (3,1)]] (jX h7)).ret hΓ
 ·obtain⟨h8,h⟩|⟨h8,h⟩:=aO h
  ·obtain⟨y9,h10,h⟩:=aB h;cases h;exact(((nB.b h5).b h8).hp [[none,none,none]] (mm h10)).ret hΓ
  ·have gG:=((nB.b h5).b h8)
   obtain⟨h11,h⟩|⟨h11,h⟩:=aO h
   ·obtain⟨PJ,h13,h⟩:=aB h;cases h;exact((gG.b h11).hp [[none,none,none]] (AL h13)).ret hΓ
   ·cases h;exact(gG.b h11).ret hΓ
def wA(aC:cK):Option (cK×aI):=((kq aC).bind fun y1=>((cP y1.1 14).bind fun y3=>(bif (y3.2:Int)==0 then((ko y3.1).bind fun y6=>(some (y6.1,(⟨y6.2,y1.2.prio,y1.2.conds,y1.2.cM⟩:aI))))else(bif (y3.2:Int)==1 then((gb y3.1 ([-1,0,9,10]:bK)).bind fun y9=>(some (y9.1,(⟨y1.2.name,y9.2,y1.2.conds,y1.2.cM⟩:aI))))else(bif (y3.2:Int)==2 then((w9 y3.1).bind fun Au=>(bif room ((y1.2.conds.map aN.c).length+([[D.int .i64 Au.2.kind,D.str Au.2.pat.rel,D.sl (Au.2.pat.args.map tx),D.str Au.2.left,D.str Au.2.right]]).length) 80 then(some (Au.1,(⟨y1.2.name,y1.2.prio,y1.2.conds++([Au.2]),y1.2.cM⟩:aI)))else none))else(bif (y3.2:Int)==3 then((gb y3.1 ([0,1,2,3,4]:bK)).bind fun qM=>((th qM.1).bind fun Gd=>(bif room ((y1.2.cM.map Action.c).length+([[D.int .i64 qM.2,D.str Gd.2.rel,D.sl (Gd.2.args.map tx)]]).length) 48 then(some (Gd.1,(⟨y1.2.name,y1.2.prio,y1.2.conds,y1.2.cM++([(⟨qM.2,Gd.2⟩:Action)])⟩:aI)))else none)))else(bif (y3.2:Int)==4 then((yJ (y1.2.conds.map aN.c).length (some (D.int .i64 1)) none).bind fun p=>(fun l28 u29=>(some (y3.1,(⟨y1.2.name,y1.2.prio,(y1.2.conds.take u29).drop l28,y1.2.cM⟩:aI)))) p.1 p.2)else(bif (y3.2:Int)==5 then((yJ (y1.2.cM.map Action.c).length (some (D.int .i64 1)) none).bind fun p=>(fun l32 u33=>(some (y3.1,(⟨y1.2.name,y1.2.prio,y1.2.conds,(y1.2.cM.take u33).drop l32⟩:aI)))) p.1 p.2)else(bif (y3.2:Int)==6 then((oI y3.1 ([[63,102],[63,97],[63,103]]:aG)).bind fun PK=>((gb PK.1 ([1,2]:bK)).bind fun Kw=>((oI Kw.1 ([[63,102],[63,120]]:aG)).bind fun YU=>(some (YU.1,(⟨y1.2.name,y1.2.prio,[(⟨1,(⟨[116],([[63,97],[63,98],[63,99]]:aG)⟩:aE),[],[]⟩:aN),(⟨1,(⟨[116],([[63,100],[63,101],PK.2]:aG)⟩:aE),[],[]⟩:aN),(⟨Kw.2,(⟨[117],[YU.2]⟩:aE),[],[]⟩:aN)],[(⟨3,(⟨[],[]⟩:aE)⟩:Action)]⟩:aI))))))else(some (y3.1,y1.2)))))))))))
theorem IQ{aC:cK}{r:cK×aI}(h:wA aC=some r):gx prog 80 (cK.c aC) (cK.c r.1) [] (D.agg [D.str r.2.name,D.int .i64 r.2.prio,D.sl (r.2.conds.map aN.c),D.sl (r.2.cM.map Action.c)]):=by
 refine Ii func80 [[none,none,none],[none,none,none,none]] 79 [D.sl (aC.b.map yx),D.int .i64 aC.i,D.int .i64 aC.h] [] [] fun hr hG Γ hΓ=>?_
 rw[wA]at h;obtain⟨y1,h2,h⟩:=aB h;obtain⟨y3,h4,h⟩:=aB h;have nB:=((aX.hp [[none,none,none]] (zb h2)).hp [[none,none,none],[none]] (cF h4))
 obtain⟨h5,h⟩|⟨h5,h⟩:=aO h
 ·obtain⟨y6,h7,h⟩:=aB h;cases h;exact(((nB.b h5).hp [[none,none,none]] (mm h7)).a [.sk 2,.sk 3]).ret hΓ
 ·obtain⟨h8,h⟩|⟨h8,h⟩:=aO h
  ·obtain⟨y9,h10,h⟩:=aB h;cases h;exact((((nB.b h5).b h8).hp [[none,none,none],[some (3,1)]] (jX h10)).a [.sk 2,.sk 3]).ret hΓ
  ·have gG:=((nB.b h5).b h8)
   obtain⟨h11,h⟩|⟨h11,h⟩:=aO h
   ·obtain⟨Au,h15,h⟩:=aB h;obtain⟨h16,h⟩:=bU h;cases h;exact(((((gG.b h11).a [.n2 [0,1,2,3,4,5,6,7] [0,1,2,3,4,5,6,7] 3 5 [0,1] [0,5]]).hp [[none,none,none]] (IP h15)).w (bp h16)).a [.sk 7,.sk 3]).rts hΓ (D.gw [D.agg [D.str y1.2.name,D.int .i64 y1.2.prio,D.sl ((y1.2.conds.map aN.c)++([[D.int .i64 Au.2.kind,D.str Au.2.pat.rel,D.sl (Au.2.pat.args.map tx),D.str Au.2.left,D.str Au.2.right]])),D.sl (y1.2.cM.map Action.c)],D.agg [D.sl (Au.1.b.map yx),D.int .i64 Au.1.i,D.int .i64 Au.1.h],D.val hG]) (by first|rfl| (simp only[mA]<;>rfl)| (simp only[cD,mA]<;>rfl))
   ·obtain⟨h17,h⟩|⟨h17,h⟩:=aO h
    ·obtain⟨qM,h23,h⟩:=aB h;obtain⟨Gd,h25,h⟩:=aB h;obtain⟨h26,h⟩:=bU h;cases h;exact(((((((gG.b h11).b h17).a [.n2 [0,1,2,3,5,4,6,7,8,9,10,11] [0,1,2,3,5,4,6,7,8,9,10,11] 5 9 [0,1,4] [0,5,6]]).hp [[none,none,none],[some (3,1)]] (jX h23)).hp [[none,none,none]] (AL h25)).w (bp h26)).a [.sk 2,.sk 8]).rts hΓ (D.gw [D.agg [D.str y1.2.name,D.int .i64 y1.2.prio,D.sl (y1.2.conds.map aN.c),D.sl ((y1.2.cM.map Action.c)++([[D.int .i64 qM.2,D.str Gd.2.rel,D.sl (Gd.2.args.map tx)]]))],D.agg [D.sl (Gd.1.b.map yx),D.int .i64 Gd.1.i,D.int .i64 Gd.1.h],D.val hG]) (by first|rfl| (simp only[mA]<;>rfl)| (simp only[cD,mA]<;>rfl))
    ·have kY:=((gG.b h11).b h17)
     obtain⟨h27,h⟩|⟨h27,h⟩:=aO h
     ·obtain⟨⟨l28,u29⟩,h30,h⟩:=aB h;cases h;exact(((kY.b h27).w (show yJ (y1.2.conds.map aN.c).length (some (D.int .i64 1)) none=some (l28,u29)/\((y1.2.conds.map aN.c).all fun r=>r.length==5)=true from⟨h30,by simp[ai]⟩)).a [.fz,.cut l28 u29,.sk 3]).rts hΓ (D.gw [D.agg [D.str y1.2.name,D.int .i64 y1.2.prio,D.sl (((y1.2.conds.map aN.c).take u29).drop l28),D.sl (y1.2.cM.map Action.c)],D.agg [D.sl (y3.1.b.map yx),D.int .i64 y3.1.i,D.int .i64 y3.1.h],D.val hG]) (by first|rfl| (simp only[mA]<;>rfl)| (simp only[mA,br]<;>rfl)| (simp only[cD,mA]<;>rfl))
     ·obtain⟨h31,h⟩|⟨h31,h⟩:=aO h
      ·obtain⟨⟨l32,u33⟩,h34,h⟩:=aB h;cases h;exact((((kY.b h27).b h31).w (show yJ (y1.2.cM.map Action.c).length (some (D.int .i64 1)) none=some (l32,u33)/\((y1.2.cM.map Action.c).all fun r=>r.length==3)=true from⟨h34,by simp[ai]⟩)).a [.fz,.cut l32 u33,.sk 2]).rts hΓ (D.gw [D.agg [D.str y1.2.name,D.int .i64 y1.2.prio,D.sl (y1.2.conds.map aN.c),D.sl (((y1.2.cM.map Action.c).take u33).drop l32)],D.agg [D.sl (y3.1.b.map yx),D.int .i64 y3.1.i,D.int .i64 y3.1.h],D.val hG]) (by first|rfl| (simp only[mA]<;>rfl)| (simp only[mA,br]<;>rfl)| (simp only[cD,mA]<;>rfl))
      ·have kX:=((kY.b h27).b h31)
       obtain⟨h35,h⟩|⟨h35,h⟩:=aO h
       ·obtain⟨PK,h37,h⟩:=aB h;obtain⟨Kw,h39,h⟩:=aB h;obtain⟨YU,h41,h⟩:=aB h;cases h;exact(((((kX.b h35).hp [[none,none,none],[some (9,1)]] (qC h37)).hp [[none,none,none],[some (3,1)]] (jX h39)).hp [[none,none,none],[some (9,1)]] (qC h41)).a [.sk 11,.sk 12]).ret hΓ
       ·cases h;exact((kX.b h35).a [.sk 2,.sk 3]).ret hΓ
def wC(aC:cK):Option (cK×aJ):=((ua aC).bind fun y1=>((cP y1.1 12).bind fun y3=>(bif (y3.2:Int)==0 then(some (y3.1,(⟨y1.2.rules,y1.2.ends,y1.2.bG,y1.2.nodes,y1.2.facts, -1⟩:aJ)))else(bif (y3.2:Int)==1 then((uV y3.1).bind fun y7=>(some (y7.1,(⟨y1.2.rules,y1.2.ends,y1.2.bG,y1.2.nodes,y7.2,y1.2.cg⟩:aJ))))else(bif (y3.2:Int)==2 then((cP y3.1 ((y1.2.nodes.map Node.c).length:Int)).bind fun Dc=>((gb Dc.1 ([-1,0,1,2,99]:bK)).bind fun Au=>((iw y1.2.nodes Dc.2).bind fun x16=>(some (Au.1,(⟨y1.2.rules,y1.2.ends,y1.2.bG,y1.2.nodes.set Dc.2.toNat (⟨Au.2,x16.cond,x16.eS,x16.tokens⟩:Node),y1.2.facts,y1.2.cg⟩:aJ))))))else(bif (y3.2:Int)==3 then((cP y3.1 ((y1.2.nodes.map Node.c).length:Int)).bind fun Bn=>((iw y1.2.nodes Bn.2).bind fun x21=>((oJ Bn.1 1).bind fun y26=>(bif room ((x21.tokens.map aY.c).length+([[D.sl (y26.2.map aE.c),D.sl ([])]]).length) 48 then(some (y26.1,(⟨y1.2.rules,y1.2.ends,y1.2.bG,y1.2.nodes.set Bn.2.toNat (⟨x21.parent,x21.cond,x21.eS,x21.tokens++([(⟨y26.2,[]⟩:aY)])⟩:Node),y1.2.facts,y1.2.cg⟩:aJ)))else none))))else(bif (y3.2:Int)==4 then((wA y3.1).bind fun F4=>(bif room ((y1.2.rules.map aI.c).length+([[D.str F4.2.name,D.int .i64 F4.2.prio,D.sl (F4.2.conds.map aN.c),D.sl (F4.2.cM.map Action.c)]]).length) 72 then(some (F4.1,(⟨y1.2.rules++([F4.2]),y1.2.ends,y1.2.bG,y1.2.nodes,y1.2.facts,y1.2.cg⟩:aJ)))else none))else(bif (y3.2:Int)==5 then(bif room ((y1.2.ends.map nA).length+([[D.int .i64 0]]).length) 8 then(some (y3.1,(⟨y1.2.rules,y1.2.ends++([0]),y1.2.bG,y1.2.nodes,y1.2.facts,y1.2.cg⟩:aJ)))else none)else(some (y3.1,y1.2))))))))))
theorem IX{aC:cK}{r:cK×aJ}(h:wC aC=some r):gx prog 34 (cK.c aC) (cK.c r.1) [] (D.agg [D.sl (r.2.rules.map aI.c),D.fr 3 1 (r.2.ends.map nA),D.fr 83 3 (r.2.bG.map af.c),D.fr 74 8 (r.2.nodes.map Node.c),D.fr 43 2 (r.2.facts.map aE.c),D.int .i64 r.2.cg]):=by
 refine a7X func34 [[none,none,none],[none,some (3,1),some (83,3),some (74,8),some (43,2),none]] 73 [] fun hr hG Γ hΓ hO=>?_
 rw[wC]at h;obtain⟨y1,h2,h⟩:=aB h;obtain⟨y3,h4,h⟩:=aB h;have nB:=((aX.hp [[none,none,none]] (HL h2)).hp [[none,none,none],[none]] (cF h4))
 obtain⟨h5,h⟩|⟨h5,h⟩:=aO h
 ·cases h;exact((nB.b h5).a [.sk 2]).ret hΓ
 ·obtain⟨h6,h⟩|⟨h6,h⟩:=aO h
  ·obtain⟨y7,h8,h⟩:=aB h;cases h;exact((((nB.b h5).b h6).hp [[none,none,none]] (H9 h8)).a [.sk 2]).ret hΓ
  ·have gG:=((nB.b h5).b h6)
   obtain⟨h9,h⟩|⟨h9,h⟩:=aO h
   ·obtain⟨Dc,h11,h⟩:=aB h;obtain⟨Au,h15,h⟩:=aB h;obtain⟨x16,h17,h⟩:=aB h;cases h;exact(((((((gG.b h9).hp [[none,none,none],[none]] (cF h11)).a [.n2 [0,1,2,3,4,5,6,7,8] [0,1,2,3,4,5,6,7,8] 5 6 [0,1,2] [0,8]]).hp [[none,none,none],[some (3,1)]] (jX h15)).i (iD Node.c 8 h17)).w (show(y1.2.nodes.map Node.c)[Dc.2.toNat]?=some [D.int .i64 x16.parent,D.int .i64 x16.cond.kind,D.str x16.cond.pat.rel,D.sl (x16.cond.pat.args.map tx),D.str x16.cond.left,D.str x16.cond.right,D.int .i64 x16.eS,D.sl (x16.tokens.map aY.c)]from cX Node.c (fC h17))).a [.row [D.int .i64 x16.parent,D.int .i64 x16.cond.kind,D.str x16.cond.pat.rel,D.sl (x16.cond.pat.args.map tx),D.str x16.cond.left,D.str x16.cond.right,D.int .i64 x16.eS,D.sl (x16.tokens.map aY.c)],.sk 2]).rts hΓ (D.gw [D.agg [D.sl (y1.2.rules.map aI.c),D.fr 3 1 (y1.2.ends.map nA),D.fr 83 3 (y1.2.bG.map af.c),D.fr 74 8 ((y1.2.nodes.map Node.c).set Dc.2.toNat [D.int .i64 Au.2,D.int .i64 x16.cond.kind,D.str x16.cond.pat.rel,D.sl (x16.cond.pat.args.map tx),D.str x16.cond.left,D.str x16.cond.right,D.int .i64 x16.eS,D.sl (x16.tokens.map aY.c)]),D.fr 43 2 (y1.2.facts.map aE.c),D.int .i64 y1.2.cg],D.agg [D.sl (Au.1.b.map yx),D.int .i64 Au.1.i,D.int .i64 Au.1.h],D.val hG]) (by first|rfl| (simp only[mA]<;>rfl)| (simp only[cD,mA]<;>rfl))
   ·obtain⟨h18,h⟩|⟨h18,h⟩:=aO h
    ·obtain⟨Bn,h20,h⟩:=aB h;obtain⟨x21,h22,h⟩:=aB h;refine((((gG.b h9).b h18).hp [[none,none,none],[none]] (cF h20)).a [.hl 2 [0,2,3,5] [0,1,7,2,3,4,5,6]]).ex (N:=fun _ _=>False) (c':=(lc f34 [1,1,0,1,0,1,1,1,1,1,1,1,0,1])) (K':=(lk' f34 [1,1,0,1,0,1,1,1,1,1,1,1,0,1])) (K0:=(lk' f34 [1,1,0,1,0,1,1,1,1,1,1,1,0,1])) hΓ (fun _ _=>rfl) (Yz (st:=⟨[(0,D.ptr 0 0),(2,D.ptr 1 0),(3,D.ptr 2 0),(5,D.int .i64 Bn.2)],[Ob.zq (cK.c Bn.1) hG,Ob.box [D.nil,D.nil,D.nil,D.nil,D.nil,D.int .i64 0],Ob.box [D.acc 3,D.acc 4,D.acc 5,D.acc 6,D.acc 7,D.int .i64 y1.2.cg],Ob.row .uq 63 4 (y1.2.rules.map aI.c),Ob.row .uq 3 1 (y1.2.ends.map nA),Ob.row .uq 83 3 (y1.2.bG.map af.c),Ob.row .uq 74 8 (y1.2.nodes.map Node.c),Ob.row .uq 43 2 (y1.2.facts.map aE.c)]⟩) (m:=6) (e:=74) (sz:=8) (i:=Bn.2.toNat) (off:=7) (e':=77) (sz':=2) (r:=Node.c x21) hO (ZO _) (cX Node.c (fC h22)) rfl rfl rfl rfl rfl rfl rfl rfl rfl ?_);obtain⟨y26,h27,h⟩:=aB h;obtain⟨h28,h⟩:=bU h;cases h;exact((((((((aX.w (show 8=8/\Bn.2=((Bn.2.toNat:Nat):Int)/\Bn.2.toNat<((y1.2.nodes.map Node.c).set Bn.2.toNat [D.int .i64 x21.parent,D.int .i64 x21.cond.kind,D.str x21.cond.pat.rel,D.sl (x21.cond.pat.args.map tx),D.str x21.cond.left,D.str x21.cond.right,D.int .i64 x21.eS,D.any]).length from a0v Node.c 8 h22)).w (show 8=8/\(Bn.2.toNat)*8+7=Bn.2.toNat*8+7 from⟨rfl,rfl⟩)).a [.n2 [0,1,2,3,4,5,6,7,8,9,10,11,12,13,14,15,16] [0,1,2,3,4,5,6,7,8,9,10,11,12,13,14,15,16] 10 14 [0,1,2,3,4,5,6,7,8] [0,8,9,10],.ix Bn.2.toNat,.hd]).hp [[none,none,none],[none]] (w8 h27)).w (bp h28)).w (show 8=8/\Bn.2=((Bn.2.toNat:Nat):Int)/\Bn.2.toNat<((y1.2.nodes.map Node.c).set Bn.2.toNat [D.int .i64 x21.parent,D.int .i64 x21.cond.kind,D.str x21.cond.pat.rel,D.sl (x21.cond.pat.args.map tx),D.str x21.cond.left,D.str x21.cond.right,D.int .i64 x21.eS,D.any]).length from a0v Node.c 8 h22)).w (show((y1.2.nodes.map Node.c).set Bn.2.toNat [D.int .i64 x21.parent,D.int .i64 x21.cond.kind,D.str x21.cond.pat.rel,D.sl (x21.cond.pat.args.map tx),D.str x21.cond.left,D.str x21.cond.right,D.int .i64 x21.eS,D.any])[Bn.2.toNat]?=some [D.int .i64 x21.parent,D.int .i64 x21.cond.kind,D.str x21.cond.pat.rel,D.sl (x21.cond.pat.args.map tx),D.str x21.cond.left,D.str x21.cond.right,D.int .i64 x21.eS,D.any]from a54 Node.c [D.int .i64 x21.parent,D.int .i64 x21.cond.kind,D.str x21.cond.pat.rel,D.sl (x21.cond.pat.args.map tx),D.str x21.cond.left,D.str x21.cond.right,D.int .i64 x21.eS,D.any] h22)).a [.ix Bn.2.toNat,.row [D.int .i64 x21.parent,D.int .i64 x21.cond.kind,D.str x21.cond.pat.rel,D.sl (x21.cond.pat.args.map tx),D.str x21.cond.left,D.str x21.cond.right,D.int .i64 x21.eS,D.any],.sk 3]).rts hΓ (D.gw [D.agg [D.sl (y1.2.rules.map aI.c),D.fr 3 1 (y1.2.ends.map nA),D.fr 83 3 (y1.2.bG.map af.c),D.fr 74 8 (((y1.2.nodes.map Node.c).set Bn.2.toNat [D.int .i64 x21.parent,D.int .i64 x21.cond.kind,D.str x21.cond.pat.rel,D.sl (x21.cond.pat.args.map tx),D.str x21.cond.left,D.str x21.cond.right,D.int .i64 x21.eS,D.any]).set Bn.2.toNat [D.int .i64 x21.parent,D.int .i64 x21.cond.kind,D.str x21.cond.pat.rel,D.sl (x21.cond.pat.args.map tx),D.str x21.cond.left,D.str x21.cond.right,D.int .i64 x21.eS,D.sl ((x21.tokens.map aY.c)++([[D.sl (y26.2.map aE.c),D.sl ([])]]))]),D.fr 43 2 (y1.2.facts.map aE.c),D.int .i64 y1.2.cg],D.agg [D.sl (y26.1.b.map yx),D.int .i64 y26.1.i,D.int .i64 y26.1.h],D.val hG]) (by first|rfl| (simp only[mA]<;>rfl)| (simp only[mA,List.set_set,Node.c]<;>rfl)| (simp only[cD,mA]<;>rfl))
    ·have kY:=((gG.b h9).b h18)
     obtain⟨h29,h⟩|⟨h29,h⟩:=aO h
     ·obtain⟨F4,h33,h⟩:=aB h;obtain⟨h34,h⟩:=bU h;cases h;exact((((kY.b h29).a [.n2 [0,1,2,3,4,5,6,7] [0,1,2,3,4,5,6,7] 3 5 [0,1] [0]]).hp [[none,none,none]] (IQ h33)).w (bp h34)).rts hΓ (D.gw [D.agg [D.sl ((y1.2.rules.map aI.c)++([[D.str F4.2.name,D.int .i64 F4.2.prio,D.sl (F4.2.conds.map aN.c),D.sl (F4.2.cM.map Action.c)]])),D.fr 3 1 (y1.2.ends.map nA),D.fr 83 3 (y1.2.bG.map af.c),D.fr 74 8 (y1.2.nodes.map Node.c),D.fr 43 2 (y1.2.facts.map aE.c),D.int .i64 y1.2.cg],D.agg [D.sl (F4.1.b.map yx),D.int .i64 F4.1.i,D.int .i64 F4.1.h],D.val hG]) (by first|rfl| (simp only[mA]<;>rfl)| (simp only[cD,mA]<;>rfl))
     ·obtain⟨h35,h⟩|⟨h35,h⟩:=aO h
      ·obtain⟨h36,h⟩:=bU h;cases h;exact((((kY.b h29).b h35).w (bp h36)).a [.sk 2]).rts hΓ (D.gw [D.agg [D.sl (y1.2.rules.map aI.c),D.fr 3 1 ((y1.2.ends.map nA)++([[D.int .i64 0]])),D.fr 83 3 (y1.2.bG.map af.c),D.fr 74 8 (y1.2.nodes.map Node.c),D.fr 43 2 (y1.2.facts.map aE.c),D.int .i64 y1.2.cg],D.agg [D.sl (y3.1.b.map yx),D.int .i64 y3.1.i,D.int .i64 y3.1.h],D.val hG]) (by first|rfl| (simp only[mA]<;>rfl)| (simp only[cD,mA]<;>rfl))
      ·cases h;exact(((kY.b h29).b h35).a [.sk 2]).ret hΓ
def j7(aC:bK):Option aJ:=((vz aC).bind fun y1=>((wC y1).bind fun y3=>(some y3.2)))
theorem yj{aC:bK}{r:aJ}(h:j7 aC=some r):Good prog 8 [D.sl (aC.map yx)] (D.agg [D.sl (r.rules.map aI.c),D.fr 3 1 (r.ends.map nA),D.fr 83 3 (r.bG.map af.c),D.fr 74 8 (r.nodes.map Node.c),D.fr 43 2 (r.facts.map aE.c),D.int .i64 r.cg]):=by
 refine gd func8 [[none,some (3,1),some (83,3),some (74,8),some (43,2),none]] 6 fun hr Γ hΓ=>?_
 rw[j7]at h;obtain⟨y1,h2,h⟩:=aB h;obtain⟨y3,h4,h⟩:=aB h;cases h;exact((aX.hn (IJ h2)).hp [[none,none,none]] (IX h4)).ret hΓ
def fk(aC:Bytes)(k1:Option Bool):Nat->Int->Option Bool
 |0,_=>none
 |n1+1,mG=>(bif decide ((mG:Int)<(aC.length:Int))then((iw aC mG).bind fun b31=>(bif decide ((b31.toNat:Int)<97)then(bif decide ((b31.toNat:Int)<48)then(some false)else(bif decide ((b31.toNat:Int)>57)then(some false)else(fk aC k1 n1 (IntKind.i64.wrap (mG+1)))))else(bif decide ((b31.toNat:Int)>122)then(bif decide ((b31.toNat:Int)<48)then(some false)else(bif decide ((b31.toNat:Int)>57)then(some false)else(fk aC k1 n1 (IntKind.i64.wrap (mG+1)))))else(fk aC k1 n1 (IntKind.i64.wrap (mG+1))))))else(k1))
def fM(aC:Bytes):Option Bool:=(bif decide (((aC.length:Int):Int)<1)then(some false)else(bif decide (((aC.length:Int):Int)>8)then(some false)else(fk aC (some true) fuel 0)))
def JT(aC:Bytes)(mG:Int):St:=⟨[(0,D.str aC),(3,D.int .i64 mG)],[]⟩
theorem Hw(hΓ:Γ.nt=40){aC:Bytes}{r:Bool}{k1:Option Bool}(dY:k1=some r->Ax Γ N f144 (.q [[none]] (D.bool r)) [1,1,1] ⟨[],[]⟩):∀(n1:Nat) (mG:Int),fk aC k1 n1 mG=some r->Ar Γ N f144 (.q [[none]] (D.bool r)) [1,1,0,1,0] n1 (JT aC mG):=by
 intro n
 induction n with
 |zero=>intro mG h;simp[fk]at h
 |succ n1 ih1=>
  intro mG h;rw[fk]at h;refine aV fun N1 cj cL=>?_
  obtain⟨h30,h⟩|⟨h30,h⟩:=aO h
  ·obtain⟨b31,h32,h⟩:=aB h;have yo:=((aX.b h30).c h32)
   obtain⟨h33,h⟩|⟨h33,h⟩:=aO h
   ·have Es:=((((yo.r 5 h33).T 3).c h32).T 2)
    obtain⟨h34,h⟩|⟨h34,h⟩:=aO h
    ·have h:=aK h;subst h;exact((((Es.r 4 h34).T 1).b h34).T 2).ret hΓ
    ·have KU:=((((((Es.r 3 h34).c h32).b h34).T 1).b h34).T 1)
     obtain⟨h35,h⟩|⟨h35,h⟩:=aO h
     ·have h:=aK h;subst h;exact(KU.b h35).ret hΓ
     ·exact((KU.b h35).a [.cn [0,3] []]).cf hΓ cL (ih1 (IntKind.i64.wrap (mG+1)) h)
   ·have Bf:=(((yo.r 3 h33).c h32).r 2 h33)
    obtain⟨h36,h⟩|⟨h36,h⟩:=aO h
    ·have Iy:=(((Bf.r 3 h36).c h32).r 2 h36)
     obtain⟨h37,h⟩|⟨h37,h⟩:=aO h
     ·have h:=aK h;subst h;exact(((((Iy.r 4 h37).b h36).b h37).b h36).T 1).ret hΓ
     ·have Da:=((((((Iy.r 3 h37).c h32).b h37).b h36).b h37).b h36)
      obtain⟨h38,h⟩|⟨h38,h⟩:=aO h
      ·have h:=aK h;subst h;exact(Da.b h38).ret hΓ
      ·exact((Da.b h38).a [.cn [0,3] []]).cf hΓ cL (ih1 (IntKind.i64.wrap (mG+1)) h)
    ·exact(((Bf.r 7 h36).F 1).a [bF,bF,bF,bF,.cn [0,3] []]).cf hΓ cL (ih1 (IntKind.i64.wrap (mG+1)) h)
  ·exact((aX.b h30).a [.hl 0 [] []]).ex hΓ cj (dY h)
theorem eb{aC:Bytes}{r:Bool}(h:fM aC=some r):Good prog 144 [D.str aC] (D.bool r):=by
 refine gd func144 [[none]] 40 fun hr Γ hΓ=>?_
 rw[fM]at h;obtain⟨h1,h⟩|⟨h1,h⟩:=aO h
 ·have h:=aK h;subst h;exact((aX.r 4 h1).T 1).ret hΓ
 ·have Iz:=(aX.r 4 h1)
  obtain⟨h2,h⟩|⟨h2,h⟩:=aO h
  ·have h:=aK h;subst h;exact(Iz.b h2).ret hΓ
  ·refine((Iz.b h2).a [.cn [0,3] []]).lp hΓ (Hw hΓ (fun h=>?_) fuel 0 h);have h:=aK h;subst h;exact aX.ret hΓ
def qR(aC:Bytes):Option Bool:=((fM aC).bind fun y1=>(bif y1 then((iw aC 0).bind fun b4=>(some (decide ((b4.toNat:Int)>=97))))else(some false)))
theorem mS{aC:Bytes}{r:Bool}(h:qR aC=some r):Good prog 163 [D.str aC] (D.bool r):=by
 refine gd func163 [[none]] 10 fun hr Γ hΓ=>?_
 rw[qR]at h;obtain⟨y1,h2,h⟩:=aB h;obtain⟨h3,h⟩|⟨h3,h⟩:=aO h
 ·obtain⟨b4,h5,h⟩:=aB h;cases h;exact((((aX.g (eb h2)).r 2 h3).c h5).r 2 h3).ret hΓ
 ·have h:=aK h;subst h;exact((aX.g (eb h2)).r 4 h3).ret hΓ
def l6(aC:Bytes):Option Bool:=(bif decide (((aC.length:Int):Int)>1)then((iw aC 0).bind fun b2=>(bif (b2.toNat:Int)==63 then((yJ aC.length (some (D.int .i64 1)) none).bind fun p=>(fun l5 u6=>((fM ((aC.take u6).drop l5)).bind fun y8=>(some y8))) p.1 p.2)else(some false)))else(some false))
theorem nZ{aC:Bytes}{r:Bool}(h:l6 aC=some r):Good prog 145 [D.str aC] (D.bool r):=by
 refine gd func145 [[none]] 16 fun hr Γ hΓ=>?_
 rw[l6]at h;obtain⟨h1,h⟩|⟨h1,h⟩:=aO h
 ·obtain⟨b2,h3,h⟩:=aB h;have nB:=(((aX.r 2 h1).c h3).r 2 h1)
  obtain⟨h4,h⟩|⟨h4,h⟩:=aO h
  ·obtain⟨⟨l5,u6⟩,h7,h⟩:=aB h;obtain⟨y8,h9,h⟩:=aB h;have h:=aK h;subst h;exact((((((nB.r 2 h4).w h7).a [.cut l5 u6]).b h4).g (eb h9)).b h4).ret hΓ
  ·have h:=aK h;subst h;exact(nB.r 4 h4).ret hΓ
 ·have h:=aK h;subst h;exact((aX.r 4 h1).F 4).ret hΓ
def ig(aC:Bytes):Option Bool:=((fM aC).bind fun y1=>(bif y1 then(some true)else((l6 aC).bind fun y4=>(some y4))))
theorem jl{aC:Bytes}{r:Bool}(h:ig aC=some r):Good prog 208 [D.str aC] (D.bool r):=by
 refine gd func208 [[none]] 9 fun hr Γ hΓ=>?_
 rw[ig]at h;obtain⟨y1,h2,h⟩:=aB h;obtain⟨h3,h⟩|⟨h3,h⟩:=aO h
 ·have h:=aK h;subst h;exact((aX.g (eb h2)).r 3 h3).ret hΓ
 ·obtain⟨y4,h5,h⟩:=aB h;have h:=aK h;subst h;exact((((aX.g (eb h2)).r 2 h3).g (nZ h5)).b h3).ret hΓ
def lU(aC:aE)(k1:Option Bool):aG->Nat->Option Bool
 | [],i1=>(k1)
 |bS::cZ,i1=>((ig bS).bind fun um=>(bif !(um)then(some false)else(lU aC k1 cZ (i1+1))))
def j0(aC:aE):Option Bool:=((qR aC.rel).bind fun y1=>(bif !(y1)then(some false)else(bif decide ((((aC.args.map tx).length:Int):Int)>3)then(some false)else(lU aC (some true) aC.args 0))))
def FR(aC:aE)(dP:Int):St:=⟨[(16,D.sl (aC.args.map tx)),(17,D.int .i64 ((aC.args.map tx).length:Int)),(18,D.int .i64 dP)],[]⟩
theorem Dt(hΓ:Γ.nt=26){aC:aE}{r:Bool}{k1:Option Bool}(dY:k1=some r->Ax Γ N f207 (.q [[none]] (D.bool r)) [1,1,1] ⟨[],[]⟩)(hm1:aC.args.length<=maxLen):∀(rest:aG) (i1:Nat),aC.args.drop i1=rest->lU aC k1 rest i1=some r->Ar Γ N f207 (.q [[none]] (D.bool r)) [1,1,0,1,0] (rest.length+1) (FR aC (i1:Int)):=by
 intro rest
 induction rest with
 |nil=>
  intro i1 b9 h;rw[lU]at h;refine aV fun N1 cj cL=>?_
  exact((aX.ge tx b9).a [.hl 0 [] []]).ex hΓ cj (dY h)
 |cons bS cZ ih1=>
  intro i1 b9 h;rw[lU]at h;refine aV fun N1 cj cL=>?_
  obtain⟨um,h26,h⟩:=aB h;have gG:=(((aX.lt tx b9).l (bJ tx 1 (dc b9) rfl)).g (jl h26))
  obtain⟨h27,h⟩|⟨h27,h⟩:=aO h
  ·have h:=aK h;subst h;exact(gG.b h27).ret hΓ
  ·exact((gG.b h27).a [.cn [16,17,18] []]).ct hΓ cL (iS b9 hm1) (ih1 (i1+1) (dn b9) h)
theorem ja{aC:aE}{r:Bool}(h:j0 aC=some r):Good prog 207 [D.agg (aE.c aC)] (D.bool r):=by
 refine gd func207 [[none]] 26 fun hr Γ hΓ=>?_
 rw[j0]at h;obtain⟨y1,h2,h⟩:=aB h;obtain⟨h3,h⟩|⟨h3,h⟩:=aO h
 ·have h:=aK h;subst h;exact(((aX.g (mS h2)).r 5 h3).T 1).ret hΓ
 ·have kY:=((aX.g (mS h2)).r 5 h3)
  obtain⟨h4,h⟩|⟨h4,h⟩:=aO h
  ·have h:=aK h;subst h;exact(kY.b h4).ret hΓ
  ·refine((kY.b h4).a [.cn [16,17,18] []]).lp hΓ (Dt hΓ (fun h=>?_) (by have:=(iE.sl (iE.agg (hr _ (aD (i:=0) rfl)) (.sl (aC.args.map tx)) (by simp))).1;simpa using this) aC.args 0 rfl h);have h:=aK h;subst h;exact aX.ret hΓ
def iO(aC:aE):Option Bool:=(bif (aC.rel:Bytes)==([])then(some ((((aC.args.map tx).length:Int):Int)==0))else(some false))
theorem nj{aC:aE}{r:Bool}(h:iO aC=some r):Good prog 209 [D.agg (aE.c aC)] (D.bool r):=by
 refine gd func209 [[none]] 12 fun hr Γ hΓ=>?_
 rw[iO]at h;obtain⟨h1,h⟩|⟨h1,h⟩:=aO h
 ·cases h;exact(aX.r 5 h1).ret hΓ
 ·have h:=aK h;subst h;exact(aX.r 5 h1).ret hΓ
def qP(aC:aN):Option Bool:=(bif (aC.kind:Int)==1 then((j0 aC.pat).bind fun y2=>(bif y2 then(bif (aC.left:Bytes)==([])then(some ((aC.right:Bytes)==([])))else(some false))else(some false)))else(bif (aC.kind:Int)==2 then((j0 aC.pat).bind fun y7=>(bif y7 then(bif (aC.left:Bytes)==([])then(some ((aC.right:Bytes)==([])))else(some false))else(some false)))else(bif (aC.kind:Int)==3 then((ig aC.left).bind fun PJ=>(bif PJ then((ig aC.right).bind fun HZ=>(bif HZ then((iO aC.pat).bind fun Tr=>(some Tr))else(some false)))else(some false)))else(bif (aC.kind:Int)==4 then((ig aC.left).bind fun Sa=>(bif Sa then((ig aC.right).bind fun Gd=>(bif Gd then((iO aC.pat).bind fun o9=>(some o9))else(some false)))else(some false)))else(bif (aC.kind:Int)==5 then((ig aC.left).bind fun yM=>(bif yM then((ig aC.right).bind fun tG=>(bif tG then((iO aC.pat).bind fun PK=>(some PK))else(some false)))else(some false)))else(some false))))))
theorem ou{aC:aN}{r:Bool}(h:qP aC=some r):Good prog 164 [D.agg (aN.c aC)] (D.bool r):=by
 refine gd func164 [[none]] 38 fun hr Γ hΓ=>?_
 rw[qP]at h;obtain⟨h1,h⟩|⟨h1,h⟩:=aO h
 ·obtain⟨y2,h3,h⟩:=aB h;have nB:=((aX.r 2 h1).g (ja h3))
  obtain⟨h4,h⟩|⟨h4,h⟩:=aO h
  ·have gG:=(nB.r 4 h4)
   obtain⟨h5,h⟩|⟨h5,h⟩:=aO h
   ·cases h;exact(gG.r 4 h5).ret hΓ
   ·have h:=aK h;subst h;exact(gG.r 4 h5).ret hΓ
  ·have h:=aK h;subst h;exact((nB.r 4 h4).F 4).ret hΓ
 ·obtain⟨h6,h⟩|⟨h6,h⟩:=aO h
  ·obtain⟨y7,h8,h⟩:=aB h;have kY:=(((aX.b h1).b h6).g (ja h8))
   obtain⟨h9,h⟩|⟨h9,h⟩:=aO h
   ·have kX:=(kY.r 4 h9)
    obtain⟨h10,h⟩|⟨h10,h⟩:=aO h
    ·cases h;exact(kX.r 4 h10).ret hΓ
    ·have h:=aK h;subst h;exact(kX.r 4 h10).ret hΓ
   ·have h:=aK h;subst h;exact((kY.r 4 h9).F 4).ret hΓ
  ·have sQ:=((aX.b h1).b h6)
   obtain⟨h11,h⟩|⟨h11,h⟩:=aO h
   ·obtain⟨PJ,h13,h⟩:=aB h;have vQ:=((sQ.r 2 h11).g (jl h13))
    obtain⟨h14,h⟩|⟨h14,h⟩:=aO h
    ·obtain⟨HZ,h16,h⟩:=aB h;have yo:=(((vQ.r 3 h14).g (jl h16)).b h14)
     obtain⟨h17,h⟩|⟨h17,h⟩:=aO h
     ·obtain⟨Tr,h19,h⟩:=aB h;have h:=aK h;subst h;exact(((yo.r 3 h17).g (nj h19)).b h17).ret hΓ
     ·have h:=aK h;subst h;exact(yo.r 4 h17).ret hΓ
    ·have h:=aK h;subst h;exact((vQ.r 4 h14).F 4).ret hΓ
   ·obtain⟨h20,h⟩|⟨h20,h⟩:=aO h
    ·obtain⟨Sa,h22,h⟩:=aB h;have Es:=(((sQ.b h11).r 2 h20).g (jl h22))
     obtain⟨h23,h⟩|⟨h23,h⟩:=aO h
     ·obtain⟨Gd,h25,h⟩:=aB h;have KU:=(((Es.r 3 h23).g (jl h25)).b h23)
      obtain⟨h26,h⟩|⟨h26,h⟩:=aO h
      ·obtain⟨o9,h28,h⟩:=aB h;have h:=aK h;subst h;exact(((KU.r 3 h26).g (nj h28)).b h26).ret hΓ
      ·have h:=aK h;subst h;exact(KU.r 4 h26).ret hΓ
     ·have h:=aK h;subst h;exact((Es.r 4 h23).F 4).ret hΓ
    ·have Bf:=((sQ.b h11).b h20)
     obtain⟨h29,h⟩|⟨h29,h⟩:=aO h
     ·obtain⟨yM,h31,h⟩:=aB h;have Iy:=((Bf.b h29).g (jl h31))
      obtain⟨h32,h⟩|⟨h32,h⟩:=aO h
      ·obtain⟨tG,h34,h⟩:=aB h;have Da:=(((Iy.r 3 h32).g (jl h34)).b h32)
       obtain⟨h35,h⟩|⟨h35,h⟩:=aO h
       ·obtain⟨PK,h37,h⟩:=aB h;have h:=aK h;subst h;exact(((Da.r 3 h35).g (nj h37)).b h35).ret hΓ
       ·have h:=aK h;subst h;exact(Da.r 4 h35).ret hΓ
      ·have h:=aK h;subst h;exact((Iy.r 4 h32).F 4).ret hΓ
     ·have h:=aK h;subst h;exact(Bf.b h29).ret hΓ
def fY(aC:aG)(k1:aG->Option aG):aG->Nat->aG->Option aG
 | [],i1,bN=>(k1 bN)
 |bS::cZ,i1,bN=>((l6 bS).bind fun F4=>(bif F4 then(bif room ((bN.map tx).length+([[D.str bS]]).length) 16 then(fY aC k1 cZ (i1+1) (bN++([bS])))else none)else(fY aC k1 cZ (i1+1) bN)))
def mZ(aC:aG):Option aG:=(fY aC (fun(cC:aG)=>(some cC)) aC 0 ([]:aG))
def yY(aC:aG)(W0:List aL)(dP:Int):St:=⟨[(3,D.acc 0),(6,D.sl (aC.map tx)),(7,D.int .i64 ((aC.map tx).length:Int)),(8,D.int .i64 dP)],[Ob.row .uq 9 1 W0]⟩
theorem EA(hΓ:Γ.nt=20){aC:aG}{r:aG}{k1:aG->Option aG}(dY:∀(cC:aG),k1 cC=some r->Ax Γ N f168 (.q [[some (9,1)]] (D.fr 9 1 (r.map tx))) [1,1,1] ⟨[(3,D.acc 0)],[Ob.row .uq 9 1 (cC.map tx)]⟩)(hm1:aC.length<=maxLen):∀(rest:aG) (i1:Nat) (bN:aG),aC.drop i1=rest->fY aC k1 rest i1 bN=some r->Ar Γ N f168 (.q [[some (9,1)]] (D.fr 9 1 (r.map tx))) [1,1,0,1,0] (rest.length+1) (yY aC (bN.map tx) (i1:Int)):=by
 intro rest
 induction rest with
 |nil=>
  intro i1 bN b9 h;rw[fY]at h;refine aV fun N1 cj cL=>?_
  exact((aX.ge tx b9).a [.hl 0 [3] [0]]).ex hΓ cj (dY bN h)
 |cons bS cZ ih1=>
  intro i1 bN b9 h;rw[fY]at h;refine aV fun N1 cj cL=>?_
  obtain⟨F4,h33,h⟩:=aB h;have gG:=(((aX.lt tx b9).l (bJ tx 1 (dc b9) rfl)).g (nZ h33))
  obtain⟨h34,h⟩|⟨h34,h⟩:=aO h
  ·obtain⟨h35,h⟩:=bU h;exact(((gG.b h34).w (bp h35)).a [.cn [3,6,7,8] [2]]).cs hΓ cL (yY aC ((bN.map tx)++([[D.str bS]])) (IntKind.i64.wrap ((i1:Int)+1))) (by first| (simp only[iS b9 hm1,mA]<;>rfl)| (simp only[iS b9 hm1,mA,aE.c,aQ.c,aN.c,Action.c,aI.c,aY.c,ax.c,af.c,Node.c,aJ.c,dX.c]<;>rfl)) (ih1 (i1+1) (bN++([bS])) (dn b9) h)
  ·exact((gG.b h34).a [.cn [3,6,7,8] [0]]).ct hΓ cL (iS b9 hm1) (ih1 (i1+1) bN (dn b9) h)
theorem sw{aC:aG}{r:aG}(h:mZ aC=some r):Good prog 168 [D.sl (aC.map tx)] (D.fr 9 1 (r.map tx)):=by
 refine gd func168 [[some (9,1)]] 20 fun hr Γ hΓ=>?_
 rw[mZ]at h;refine(aX.a [.KW 3,.cn [3,6,7,8] [0]]).lp hΓ (EA hΓ (fun cC h=>?_) (by have:=(iE.sl (hr _ (aD (i:=0) rfl))).1;simpa using this) aC 0 ([]:aG) rfl h);have h:=aK h;subst h;exact aX.ret hΓ
def dl(aC:aG)(k1:aG->Option aG):aG->Nat->aG->Option aG
 | [],i1,bQ=>(k1 bQ)
 |bS::cZ,i1,bQ=>(bif ((i1:Int):Int)==0 then(bif room ((bQ.map tx).length+([[D.str bS]]).length) 16 then(dl aC k1 cZ (i1+1) (bQ++([bS])))else none)else((iw (nq (([]:aG)++aC)) (IntKind.i64.wrap ((i1:Int)-1))).bind fun x47=>(bif !((x47:Bytes)==bS)then(bif room ((bQ.map tx).length+([[D.str bS]]).length) 16 then(dl aC k1 cZ (i1+1) (bQ++([bS])))else none)else(dl aC k1 cZ (i1+1) bQ))))
def jo(aC:aG):Option aG:=(bif room (([]:List aL).length+(aC.map tx).length) 16 then(bif decide ((([]:aG)++aC).length<4611686018427387904)then(bif decide ((nq (([]:aG)++aC)).length<=maxLen)then(dl aC (fun(cC:aG)=>(some cC)) (nq (([]:aG)++aC)) 0 ([]:aG))else none)else none)else none)
def sr(aC:aG)(W0:List aL)(dP:Int):St:=⟨[(3,D.acc 0),(4,D.acc 1),(11,D.acc 0),(12,D.int .i64 (((nq (([]:aG)++aC)).map tx).length:Int)),(13,D.int .i64 dP)],[Ob.row .uq 9 1 ((nq (([]:aG)++aC)).map tx),Ob.row .uq 9 1 W0]⟩
theorem C6(hΓ:Γ.nt=35){aC:aG}{r:aG}{k1:aG->Option aG}(dY:∀(cC:aG),k1 cC=some r->Ax Γ N f170 (.q [[some (9,1)]] (D.fr 9 1 (r.map tx))) [1,1,1,1,1] ⟨[(4,D.acc 0)],[Ob.row .uq 9 1 (cC.map tx)]⟩)(hm1:(nq (([]:aG)++aC)).length<=maxLen):∀(rest:aG) (i1:Nat) (bQ:aG),(nq (([]:aG)++aC)).drop i1=rest->dl aC k1 rest i1 bQ=some r->Ar Γ N f170 (.q [[some (9,1)]] (D.fr 9 1 (r.map tx))) [1,1,1,1,0,1,0] (rest.length+1) (sr aC (bQ.map tx) (i1:Int)):=by
 intro rest
 induction rest with
 |nil=>
  intro i1 bQ b9 h;rw[dl]at h;refine aV fun N1 cj cL=>?_
  exact((aX.ge tx b9).a [.hl 0 [4] [1]]).ex hΓ cj (dY bQ h)
 |cons bS cZ ih1=>
  intro i1 bQ b9 h;rw[dl]at h;refine aV fun N1 cj cL=>?_
  have kY:=(((aX.lt tx b9).i (mK tx 1 (dc b9))).o 1 1 .uq (cX tx (dc b9)))
  obtain⟨h45,h⟩|⟨h45,h⟩:=aO h
  ·obtain⟨h46,h⟩:=bU h;exact((((kY.r 8 h45).T 1).w (bp h46)).a [.cn [3,4,11,12,13] [0,3]]).cs hΓ cL (sr aC ((bQ.map tx)++([[D.str bS]])) (IntKind.i64.wrap ((i1:Int)+1))) (by first| (simp only[iS b9 hm1,mA]<;>rfl)| (simp only[iS b9 hm1,mA,aE.c,aQ.c,aN.c,Action.c,aI.c,aY.c,ax.c,af.c,Node.c,aJ.c,dX.c]<;>rfl)) (ih1 (i1+1) (bQ++([bS])) (dn b9) h)
  ·obtain⟨x47,h48,h⟩:=aB h;have kX:=(((((kY.r 4 h45).i (iD tx 1 h48)).b h45).o 1 1 .uq (cX tx (fC h48))).r 3 h45)
   obtain⟨h49,h⟩|⟨h49,h⟩:=aO h
   ·obtain⟨h50,h⟩:=bU h;exact(((kX.b h49).w (bp h50)).a [.cn [3,4,11,12,13] [0,3]]).cs hΓ cL (sr aC ((bQ.map tx)++([[D.str bS]])) (IntKind.i64.wrap ((i1:Int)+1))) (by first| (simp only[iS b9 hm1,mA]<;>rfl)| (simp only[iS b9 hm1,mA,aE.c,aQ.c,aN.c,Action.c,aI.c,aY.c,ax.c,af.c,Node.c,aJ.c,dX.c]<;>rfl)) (ih1 (i1+1) (bQ++([bS])) (dn b9) h)
   ·exact((kX.b h49).a [.cn [3,4,11,12,13] [0,1]]).ct hΓ cL (iS b9 hm1) (ih1 (i1+1) bQ (dn b9) h)
theorem r9{aC:aG}{r:aG}(h:jo aC=some r):Good prog 170 [D.sl (aC.map tx)] (D.fr 9 1 (r.map tx)):=by
 refine gd func170 [[some (9,1)]] 35 fun hr Γ hΓ=>?_
 rw[jo]at h;obtain⟨h1,h⟩:=bU h;obtain⟨h2,h⟩:=bU h;obtain⟨h51,h⟩:=bU h;refine(((((aX.w (bp h1)).w (show(∀r∈(aC.map tx),r.length=1)/\(true=true->D.lK (aC.map tx)=true)from⟨by first|simp| (intro r hr;obtain⟨x,_,rfl⟩:=cA.1 (bz (gL hr));rfl),by simp[D.lK,D.flat]⟩)).w (show(([]:List aL)++(aC.map tx)).flatten.all D.flat=true from by simpa only[bI,ay,bt]using Pv (([]:aG)++aC))).w (show PO prog 212 9 1 (([]:List aL)++(aC.map tx)) ((nq (([]:aG)++aC)).map tx)from by simpa only[bI,ay,bt]using(Fj (e:=9) (bY h2)))).a [.fl true,.mu 0 ((nq (([]:aG)++aC)).map tx),.KW 4,.cn [3,4,11,12,13] [0,1]]).lp hΓ (C6 hΓ (fun cC h=>?_) (bY h51) (nq (([]:aG)++aC)) 0 ([]:aG) rfl h);have h:=aK h;subst h;exact aX.ret hΓ
def fA(aC:aI)(aZ:Int)(k1:aG->Option aG):ah->Nat->aG->Option aG
 | [],i1,bN=>(k1 bN)
 |bS::cZ,i1,bN=>(bif decide (((i1:Int):Int)<aZ)then(bif (bS.kind:Int)==1 then((mZ bS.pat.args).bind fun FJ=>(bif room ((bN.map tx).length+(FJ.map tx).length) 16 then(fA aC aZ k1 cZ (i1+1) (bN++FJ))else none))else(fA aC aZ k1 cZ (i1+1) bN))else(fA aC aZ k1 cZ (i1+1) bN))
def oW(aC:aI)(aZ:Int):Option aG:=(fA aC aZ (fun(cC:aG)=>((jo cC).bind fun Uz=>(some Uz))) aC.conds 0 ([]:aG))
def yR(aC:aI)(aZ:Int)(W0:List aL)(dP:Int):St:=⟨[(1,D.int .i64 aZ),(5,D.acc 0),(9,D.sl (aC.conds.map aN.c)),(10,D.int .i64 ((aC.conds.map aN.c).length:Int)),(11,D.int .i64 dP)],[Ob.row .uq 9 1 W0]⟩
theorem Dp(hΓ:Γ.nt=33){aC:aI}{aZ:Int}{r:aG}{k1:aG->Option aG}(dY:∀(cC:aG),k1 cC=some r->Ax Γ N f166 (.q [[some (9,1)]] (D.fr 9 1 (r.map tx))) [1,1,1] ⟨[(5,D.acc 0)],[Ob.row .uq 9 1 (cC.map tx)]⟩)(hm1:aC.conds.length<=maxLen):∀(rest:ah) (i1:Nat) (bN:aG),aC.conds.drop i1=rest->fA aC aZ k1 rest i1 bN=some r->Ar Γ N f166 (.q [[some (9,1)]] (D.fr 9 1 (r.map tx))) [1,1,0,1,0] (rest.length+1) (yR aC aZ (bN.map tx) (i1:Int)):=by
 intro rest
 induction rest with
 |nil=>
  intro i1 bN b9 h;rw[fA]at h;refine aV fun N1 cj cL=>?_
  exact((aX.ge aN.c b9).a [.hl 0 [5] [0]]).ex hΓ cj (dY bN h)
 |cons bS cZ ih1=>
  intro i1 bN b9 h;rw[fA]at h;refine aV fun N1 cj cL=>?_
  have kY:=((aX.lt aN.c b9).l (bJ aN.c 5 (dc b9) rfl))
  obtain⟨h37,h⟩|⟨h37,h⟩:=aO h
  ·have kX:=(kY.r 4 h37)
   obtain⟨h38,h⟩|⟨h38,h⟩:=aO h
   ·obtain⟨FJ,h40,h⟩:=aB h;obtain⟨h41,h⟩:=bU h;exact((((kX.b h38).g (sw h40)).w (bp h41)).a [.cn [1,5,9,10,11] [3]]).cs hΓ cL (yR aC aZ ((bN.map tx)++(FJ.map tx)) (IntKind.i64.wrap ((i1:Int)+1))) (by first| (simp only[iS b9 hm1,mA]<;>rfl)| (simp only[iS b9 hm1,mA,aE.c,aQ.c,aN.c,Action.c,aI.c,aY.c,ax.c,af.c,Node.c,aJ.c,dX.c]<;>rfl)) (ih1 (i1+1) (bN++FJ) (dn b9) h)
   ·exact((kX.b h38).a [.cn [1,5,9,10,11] [0]]).ct hΓ cL (iS b9 hm1) (ih1 (i1+1) bN (dn b9) h)
  ·exact(((kY.r 4 h37).F 1).a [.cn [1,5,9,10,11] [0]]).ct hΓ cL (iS b9 hm1) (ih1 (i1+1) bN (dn b9) h)
theorem wR{aC:aI}{aZ:Int}{r:aG}(h:oW aC aZ=some r):Good prog 166 [D.agg (aI.c aC),D.int .i64 aZ] (D.fr 9 1 (r.map tx)):=by
 refine gd func166 [[some (9,1)]] 33 fun hr Γ hΓ=>?_
 rw[oW]at h;refine(aX.a [.KW 5,.cn [1,5,9,10,11] [1]]).lp hΓ (Dp hΓ (fun cC h=>?_) (by have:=(iE.sl (iE.agg (hr _ (aD (i:=0) rfl)) (.sl (aC.conds.map aN.c)) (by simp))).1;simpa using this) aC.conds 0 ([]:aG) rfl h);obtain⟨Uz,h43,h⟩:=aB h;have h:=aK h;subst h;exact(aX.g (r9 h43)).ret hΓ
def mX(aC:aG):Option aG:=(bif room (([]:List aL).length+(aC.map tx).length) 16 then(some (([]:aG)++aC))else none)
theorem sv{aC:aG}{r:aG}(h:mX aC=some r):Good prog 183 [D.sl (aC.map tx)] (D.fr 9 1 (r.map tx)):=by
 refine gd func183 [[some (9,1)]] 5 fun hr Γ hΓ=>?_
 rw[mX]at h;obtain⟨h1,h⟩:=bU h;cases h;exact(((aX.w (bp h1)).w (show(∀r∈(aC.map tx),r.length=1)/\(true=true->D.lK (aC.map tx)=true)from⟨by first|simp| (intro r hr;obtain⟨x,_,rfl⟩:=cA.1 (bz (gL hr));rfl),by simp[D.lK,D.flat]⟩)).a [.KW 2,.fl true]).rts hΓ (D.fr 9 1 (([]:List aL)++(aC.map tx))) (by first|rfl| (simp only[mA]<;>rfl)| (simp only[cD,mA]<;>rfl))
def rG(aC:aN):Option aG:=((mX aC.pat.args).bind fun y1=>(bif room ((y1.map tx).length+(([aC.left,aC.right]:aG).map tx).length) 16 then(some (y1++([aC.left,aC.right]:aG)))else none))
theorem yX{aC:aN}{r:aG}(h:rG aC=some r):Good prog 141 [D.agg (aN.c aC)] (D.fr 9 1 (r.map tx)):=by
 refine gd func141 [[some (9,1)]] 13 fun hr Γ hΓ=>?_
 rw[rG]at h;obtain⟨y1,h2,h⟩:=aB h;obtain⟨h3,h⟩:=bU h;cases h;exact(((aX.a [.KW 2,.n 9]).g (sv h2)).w (bp h3)).rts hΓ (D.fr 9 1 ((y1.map tx)++(([aC.left,aC.right]:aG).map tx))) (by first|rfl| (simp only[mA]<;>rfl)| (simp only[cD,mA]<;>rfl))
def ny(aC:aN):Option aG:=((rG aC).bind fun y1=>((mZ y1).bind fun y3=>((jo y3).bind fun y5=>(some y5))))
theorem tN{aC:aN}{r:aG}(h:ny aC=some r):Good prog 210 [D.agg (aN.c aC)] (D.fr 9 1 (r.map tx)):=by
 refine gd func210 [[some (9,1)]] 7 fun hr Γ hΓ=>?_
 rw[ny]at h;obtain⟨y1,h2,h⟩:=aB h;obtain⟨y3,h4,h⟩:=aB h;obtain⟨y5,h6,h⟩:=aB h;have h:=aK h;subst h;exact(((aX.g (yX h2)).g (sw h4)).g (r9 h6)).ret hΓ
def lB(aC:aG)(aZ:Bytes)(k1:Option Bool):aG->Nat->Option Bool
 | [],i1=>(k1)
 |bS::cZ,i1=>(bif (bS:Bytes)==aZ then(some true)else(lB aC aZ k1 cZ (i1+1)))
def l9(aC:aG)(aZ:Bytes):Option Bool:=(lB aC aZ (some false) aC 0)
def I5(aC:aG)(aZ:Bytes)(dP:Int):St:=⟨[(1,D.str aZ),(7,D.sl (aC.map tx)),(8,D.int .i64 ((aC.map tx).length:Int)),(9,D.int .i64 dP)],[]⟩
theorem Gp(hΓ:Γ.nt=17){aC:aG}{aZ:Bytes}{r:Bool}{k1:Option Bool}(dY:k1=some r->Ax Γ N f169 (.q [[none]] (D.bool r)) [1,1] ⟨[],[]⟩)(hm1:aC.length<=maxLen):∀(rest:aG) (i1:Nat),aC.drop i1=rest->lB aC aZ k1 rest i1=some r->Ar Γ N f169 (.q [[none]] (D.bool r)) [1,0,1,0] (rest.length+1) (I5 aC aZ (i1:Int)):=by
 intro rest
 induction rest with
 |nil=>
  intro i1 b9 h;rw[lB]at h;refine aV fun N1 cj cL=>?_
  exact((aX.ge tx b9).a [.hl 0 [] []]).ex hΓ cj (dY h)
 |cons bS cZ ih1=>
  intro i1 b9 h;rw[lB]at h;refine aV fun N1 cj cL=>?_
  have gG:=((aX.lt tx b9).l (bJ tx 1 (dc b9) rfl))
  obtain⟨h13,h⟩|⟨h13,h⟩:=aO h
  ·have h:=aK h;subst h;exact(gG.b h13).ret hΓ
  ·exact((gG.b h13).a [.cn [1,7,8,9] []]).ct hΓ cL (iS b9 hm1) (ih1 (i1+1) (dn b9) h)
theorem qi{aC:aG}{aZ:Bytes}{r:Bool}(h:l9 aC aZ=some r):Good prog 169 [D.sl (aC.map tx),D.str aZ] (D.bool r):=by
 refine gd func169 [[none]] 17 fun hr Γ hΓ=>?_
 rw[l9]at h;refine(aX.a [.cn [1,7,8,9] []]).lp hΓ (Gp hΓ (fun h=>?_) (by have:=(iE.sl (hr _ (aD (i:=0) rfl))).1;simpa using this) aC 0 rfl h);have h:=aK h;subst h;exact aX.ret hΓ
def eC(aC:aI)(aZ:Int)(ck:Bytes)(k1:Option Bool):ah->Nat->Option Bool
 | [],i1=>(k1)
 |bS::cZ,i1=>(bif ((i1:Int):Int) != aZ then((ny bS).bind fun Dg=>((l9 Dg ck).bind fun PK=>(bif PK then(some true)else(eC aC aZ ck k1 cZ (i1+1)))))else(eC aC aZ ck k1 cZ (i1+1)))
def fE(aC:aI)(ck:Bytes)(k2:Option Bool):dw->Nat->Option Bool
 | [],i2=>(k2)
 |nD::uO,i2=>((l9 nD.pat.args ck).bind fun y59=>(bif y59 then(some true)else(fE aC ck k2 uO (i2+1))))
def lC(aC:aI)(aZ:Int)(ck:Bytes):Option Bool:=(eC aC aZ ck (fE aC ck (some false) aC.cM 0) aC.conds 0)
def AA(aC:aI)(aZ:Int)(ck:Bytes)(dP:Int):St:=⟨[(1,D.int .i64 aZ),(2,D.str ck),(3,D.ptr 0 0),(12,D.sl (aC.conds.map aN.c)),(13,D.int .i64 ((aC.conds.map aN.c).length:Int)),(14,D.int .i64 dP)],[Ob.box (aI.c aC)]⟩
theorem zQ(hΓ:Γ.nt=42){aC:aI}{aZ:Int}{ck:Bytes}{r:Bool}{k1:Option Bool}(dY:k1=some r->Ax Γ N f211 (.q [[none]] (D.bool r)) [1,1] ⟨[(2,D.str ck),(3,D.ptr 0 0)],[Ob.box (aI.c aC)]⟩)(hm1:aC.conds.length<=maxLen):∀(rest:ah) (i1:Nat),aC.conds.drop i1=rest->eC aC aZ ck k1 rest i1=some r->Ar Γ N f211 (.q [[none]] (D.bool r)) [1,0,1,0] (rest.length+1) (AA aC aZ ck (i1:Int)):=by
 intro rest
 induction rest with
 |nil=>
  intro i1 b9 h;rw[eC]at h;refine aV fun N1 cj cL=>?_
  exact((aX.ge aN.c b9).a [.hl 0 [2,3] [0]]).ex hΓ cj (dY h)
 |cons bS cZ ih1=>
  intro i1 b9 h;rw[eC]at h;refine aV fun N1 cj cL=>?_
  have kX:=((aX.lt aN.c b9).l (bJ aN.c 5 (dc b9) rfl))
  obtain⟨h33,h⟩|⟨h33,h⟩:=aO h
  ·obtain⟨Dg,h35,h⟩:=aB h;obtain⟨PK,h37,h⟩:=aB h;have sQ:=(((((kX.r 2 h33).g (tN h35)).r 2 h33).g (qi h37)).b h33)
   obtain⟨h38,h⟩|⟨h38,h⟩:=aO h
   ·have h:=aK h;subst h;exact(sQ.b h38).ret hΓ
   ·exact((sQ.b h38).a [.cn [1,2,3,12,13,14] [0]]).ct hΓ cL (iS b9 hm1) (ih1 (i1+1) (dn b9) h)
  ·exact(((kX.r 5 h33).F 1).a [.cn [1,2,3,12,13,14] [0]]).ct hΓ cL (iS b9 hm1) (ih1 (i1+1) (dn b9) h)
def AB(aC:aI)(ck:Bytes)(dP:Int):St:=⟨[(2,D.str ck),(30,D.sl (aC.cM.map Action.c)),(31,D.int .i64 ((aC.cM.map Action.c).length:Int)),(32,D.int .i64 dP)],[]⟩
theorem zR(hΓ:Γ.nt=42){aC:aI}{ck:Bytes}{r:Bool}{k2:Option Bool}(AR:k2=some r->Ax Γ N f211 (.q [[none]] (D.bool r)) [1,1,1] ⟨[],[]⟩)(hm2:aC.cM.length<=maxLen):∀(rest:dw) (i2:Nat),aC.cM.drop i2=rest->fE aC ck k2 rest i2=some r->Ar Γ N f211 (.q [[none]] (D.bool r)) [1,1,0,1,0] (rest.length+1) (AB aC ck (i2:Int)):=by
 intro rest
 induction rest with
 |nil=>
  intro i2 hd2 h;rw[fE]at h;refine aV fun N2 uk tD=>?_
  exact((aX.ge Action.c hd2).a [.hl 0 [] []]).ex hΓ uk (AR h)
 |cons nD uO ih2=>
  intro i2 hd2 h;rw[fE]at h;refine aV fun N2 uk tD=>?_
  obtain⟨y59,h60,h⟩:=aB h;have vQ:=(((aX.lt Action.c hd2).l (bJ Action.c 3 (dc hd2) rfl)).g (qi h60))
  obtain⟨h61,h⟩|⟨h61,h⟩:=aO h
  ·have h:=aK h;subst h;exact(vQ.b h61).ret hΓ
  ·exact((vQ.b h61).a [.cn [2,30,31,32] []]).ct hΓ tD (iS hd2 hm2) (ih2 (i2+1) (dn hd2) h)
theorem yh{aC:aI}{aZ:Int}{ck:Bytes}{r:Bool}(h:lC aC aZ ck=some r):Good prog 211 [D.agg (aI.c aC),D.int .i64 aZ,D.str ck] (D.bool r):=by
 refine gd func211 [[none]] 42 fun hr Γ hΓ=>?_
 rw[lC]at h;refine(aX.a [.cn [1,2,3,12,13,14] [0]]).lp hΓ (zQ hΓ (fun h=>?_) (by have:=(iE.sl (iE.agg (hr _ (aD (i:=0) rfl)) (.sl (aC.conds.map aN.c)) (by simp))).1;simpa using this) aC.conds 0 rfl h);refine(aX.a [.cn [2,30,31,32] []]).lp hΓ (zR hΓ (fun h=>?_) (by have:=(iE.sl (iE.agg (hr _ (aD (i:=0) rfl)) (.sl (aC.cM.map Action.c)) (by simp))).1;simpa using this) aC.cM 0 rfl h);have h:=aK h;subst h;exact aX.ret hΓ
def gU(aC:aI)(aZ:Int)(x1:aN)(y3:aG)(y5:aG)(k1:Option Bool):aG->Nat->Option Bool
 | [],i1=>(k1)
 |bS::cZ,i1=>(bif (x1.kind:Int)==1 then(gU aC aZ x1 y3 y5 k1 cZ (i1+1))else((l9 y3 bS).bind fun KC=>(bif KC then(gU aC aZ x1 y3 y5 k1 cZ (i1+1))else(bif (x1.kind:Int) != 2 then(some false)else((lC aC aZ bS).bind fun y53=>(bif y53 then(some false)else(gU aC aZ x1 y3 y5 k1 cZ (i1+1))))))))
def pL(aC:aI)(aZ:Int):Option Bool:=((iw aC.conds aZ).bind fun x1=>((oW aC aZ).bind fun y3=>((ny x1).bind fun y5=>(bif decide (y5.length<=maxLen)then(gU aC aZ x1 y3 y5 (some true) y5 0)else none))))
def Gn(aC:aI)(aZ:Int)(x1:aN)(y3:aG)(y5:aG)(dP:Int):St:=⟨[(1,D.int .i64 aZ),(2,D.ptr 0 0),(5,D.ptr 1 0),(6,D.acc 2),(18,D.acc 3),(19,D.int .i64 ((y5.map tx).length:Int)),(20,D.int .i64 dP)],[Ob.box (aI.c aC),Ob.box [D.int .i64 x1.kind,D.str x1.pat.rel,D.sl (x1.pat.args.map tx),D.str x1.left,D.str x1.right],Ob.row .uq 9 1 (y3.map tx),Ob.row .uq 9 1 (y5.map tx)]⟩
theorem FX(hΓ:Γ.nt=42){aC:aI}{aZ:Int}{x1:aN}{y3:aG}{y5:aG}{r:Bool}{k1:Option Bool}(dY:k1=some r->Ax Γ N f165 (.q [[none]] (D.bool r)) [1,1,1,1] ⟨[],[]⟩)(hm1:y5.length<=maxLen):∀(rest:aG) (i1:Nat),y5.drop i1=rest->gU aC aZ x1 y3 y5 k1 rest i1=some r->Ar Γ N f165 (.q [[none]] (D.bool r)) [1,1,1,0,1,0] (rest.length+1) (Gn aC aZ x1 y3 y5 (i1:Int)):=by
 intro rest
 induction rest with
 |nil=>
  intro i1 b9 h;rw[gU]at h;refine aV fun N1 cj cL=>?_
  exact((aX.ge tx b9).a [.hl 0 [] []]).ex hΓ cj (dY h)
 |cons bS cZ ih1=>
  intro i1 b9 h;rw[gU]at h;refine aV fun N1 cj cL=>?_
  have kX:=(((aX.lt tx b9).i (mK tx 1 (dc b9))).o 1 1 .uq (cX tx (dc b9)))
  obtain⟨h48,h⟩|⟨h48,h⟩:=aO h
  ·exact(((kX.r 4 h48).T 1).a [.cn [1,2,5,6,18,19,20] [0,1,2,3]]).ct hΓ cL (iS b9 hm1) (ih1 (i1+1) (dn b9) h)
  ·obtain⟨KC,h50,h⟩:=aB h;have sQ:=(((kX.r 3 h48).g (qi h50)).b h48)
   obtain⟨h51,h⟩|⟨h51,h⟩:=aO h
   ·exact((sQ.b h51).a [.cn [1,2,5,6,18,19,20] [0,1,2,3]]).ct hΓ cL (iS b9 hm1) (ih1 (i1+1) (dn b9) h)
   ·obtain⟨h52,h⟩|⟨h52,h⟩:=aO h
    ·have h:=aK h;subst h;exact(((sQ.b h51).r 5 h52).T 1).ret hΓ
    ·obtain⟨y53,h54,h⟩:=aB h;have vQ:=((((sQ.b h51).r 4 h52).g (yh h54)).b h52)
     obtain⟨h55,h⟩|⟨h55,h⟩:=aO h
     ·have h:=aK h;subst h;exact(vQ.b h55).ret hΓ
     ·exact((vQ.b h55).a [.cn [1,2,5,6,18,19,20] [0,1,2,3]]).ct hΓ cL (iS b9 hm1) (ih1 (i1+1) (dn b9) h)
theorem xS{aC:aI}{aZ:Int}{r:Bool}(h:pL aC aZ=some r):Good prog 165 [D.agg (aI.c aC),D.int .i64 aZ] (D.bool r):=by
 refine gd func165 [[none]] 42 fun hr Γ hΓ=>?_
 rw[pL]at h;obtain⟨x1,h2,h⟩:=aB h;obtain⟨y3,h4,h⟩:=aB h;obtain⟨y5,h6,h⟩:=aB h;obtain⟨h56,h⟩:=bU h;refine((((aX.l (er aN.c 5 h2 rfl)).g (wR h4)).g (tN h6)).a [.cn [1,2,5,6,18,19,20] [0,1,2,3]]).lp hΓ (FX hΓ (fun h=>?_) (bY h56) y5 0 rfl h);have h:=aK h;subst h;exact aX.ret hΓ
def sD(aC:Action):Option Bool:=(bif (aC.kind:Int)==1 then((j0 aC.pat).bind fun y2=>(some y2))else(bif (aC.kind:Int)==2 then((j0 aC.pat).bind fun y5=>(some y5))else(bif (aC.kind:Int)==3 then((iO aC.pat).bind fun y8=>(some y8))else(some false))))
theorem Dr{aC:Action}{r:Bool}(h:sD aC=some r):Good prog 167 [D.agg (Action.c aC)] (D.bool r):=by
 refine gd func167 [[none]] 16 fun hr Γ hΓ=>?_
 rw[sD]at h;obtain⟨h1,h⟩|⟨h1,h⟩:=aO h
 ·obtain⟨y2,h3,h⟩:=aB h;have h:=aK h;subst h;exact((aX.r 2 h1).g (ja h3)).ret hΓ
 ·obtain⟨h4,h⟩|⟨h4,h⟩:=aO h
  ·obtain⟨y5,h6,h⟩:=aB h;have h:=aK h;subst h;exact(((aX.b h1).b h4).g (ja h6)).ret hΓ
  ·have nB:=((aX.b h1).b h4)
   obtain⟨h7,h⟩|⟨h7,h⟩:=aO h
   ·obtain⟨y8,h9,h⟩:=aB h;have h:=aK h;subst h;exact((nB.b h7).g (nj h9)).ret hΓ
   ·have h:=aK h;subst h;exact(nB.b h7).ret hΓ
def gO(aC:ah)(k1:aG->Option aG):ah->Nat->aG->Option aG
 | [],i1,bN=>(k1 bN)
 |bS::cZ,i1,bN=>((ny bS).bind fun o9=>(bif room ((bN.map tx).length+(o9.map tx).length) 16 then(gO aC k1 cZ (i1+1) (bN++o9))else none))
def py(aC:ah):Option aG:=(gO aC (fun(cC:aG)=>(some cC)) aC 0 ([]:aG))
def xT(aC:ah)(W0:List aL)(dP:Int):St:=⟨[(3,D.acc 0),(6,D.sl (aC.map aN.c)),(7,D.int .i64 ((aC.map aN.c).length:Int)),(8,D.int .i64 dP)],[Ob.row .uq 9 1 W0]⟩
theorem D6(hΓ:Γ.nt=18){aC:ah}{r:aG}{k1:aG->Option aG}(dY:∀(cC:aG),k1 cC=some r->Ax Γ N f171 (.q [[some (9,1)]] (D.fr 9 1 (r.map tx))) [1,1,1] ⟨[(3,D.acc 0)],[Ob.row .uq 9 1 (cC.map tx)]⟩)(hm1:aC.length<=maxLen):∀(rest:ah) (i1:Nat) (bN:aG),aC.drop i1=rest->gO aC k1 rest i1 bN=some r->Ar Γ N f171 (.q [[some (9,1)]] (D.fr 9 1 (r.map tx))) [1,1,0,1,0] (rest.length+1) (xT aC (bN.map tx) (i1:Int)):=by
 intro rest
 induction rest with
 |nil=>
  intro i1 bN b9 h;rw[gO]at h;refine aV fun N1 cj cL=>?_
  exact((aX.ge aN.c b9).a [.hl 0 [3] [0]]).ex hΓ cj (dY bN h)
 |cons bS cZ ih1=>
  intro i1 bN b9 h;rw[gO]at h;refine aV fun N1 cj cL=>?_
  obtain⟨o9,h28,h⟩:=aB h;obtain⟨h29,h⟩:=bU h;exact(((((aX.lt aN.c b9).l (bJ aN.c 5 (dc b9) rfl)).g (tN h28)).w (bp h29)).a [.cn [3,6,7,8] [3]]).cs hΓ cL (xT aC ((bN.map tx)++(o9.map tx)) (IntKind.i64.wrap ((i1:Int)+1))) (by first| (simp only[iS b9 hm1,mA]<;>rfl)| (simp only[iS b9 hm1,mA,aE.c,aQ.c,aN.c,Action.c,aI.c,aY.c,ax.c,af.c,Node.c,aJ.c,dX.c]<;>rfl)) (ih1 (i1+1) (bN++o9) (dn b9) h)
theorem C8{aC:ah}{r:aG}(h:py aC=some r):Good prog 171 [D.sl (aC.map aN.c)] (D.fr 9 1 (r.map tx)):=by
 refine gd func171 [[some (9,1)]] 18 fun hr Γ hΓ=>?_
 rw[py]at h;refine(aX.a [.KW 3,.cn [3,6,7,8] [0]]).lp hΓ (D6 hΓ (fun cC h=>?_) (by have:=(iE.sl (hr _ (aD (i:=0) rfl))).1;simpa using this) aC 0 ([]:aG) rfl h);have h:=aK h;subst h;exact aX.ret hΓ
def j4(aC:aI)(k1:Option Bool):ah->Nat->Option Bool
 | [],i1=>(k1)
 |bS::cZ,i1=>((qP bS).bind fun y62=>(bif !(y62)then(some false)else(bif ((i1:Int):Int)==0 then(bif (bS.kind:Int) != 1 then(some false)else((pL aC (i1:Int)).bind fun y67=>(bif !(y67)then(some false)else(j4 aC k1 cZ (i1+1)))))else((pL aC (i1:Int)).bind fun y70=>(bif !(y70)then(some false)else(j4 aC k1 cZ (i1+1)))))))
def mU(aC:aI)(GJ:aG)(i2:Nat)(Av:aG)(k3:Option Bool):aG->Nat->Option Bool
 | [],i3=>(k3)
 |Nt::Mi,i3=>((l9 GJ Nt).bind fun a6n=>(bif !(a6n)then(some false)else(mU aC GJ i2 Av k3 Mi (i3+1))))
def mT(aC:aI)(GJ:aG)(k2:Option Bool):dw->Nat->Option Bool
 | [],i2=>(k2)
 |nD::uO,i2=>((sD nD).bind fun a6m=>(bif !(a6m)then(some false)else((mZ nD.pat.args).bind fun Av=>(bif decide (Av.length<=maxLen)then(mU aC GJ i2 Av (mT aC GJ k2 uO (i2+1)) Av 0)else none))))
def uR(aC:aI):Option Bool:=((qR aC.name).bind fun y1=>(bif !(y1)then(some false)else(bif decide ((aC.prio:Int)<0)then(some false)else(bif decide ((aC.prio:Int)>9)then(some false)else(bif decide ((((aC.conds.map aN.c).length:Int):Int)<1)then(some false)else(bif decide ((((aC.conds.map aN.c).length:Int):Int)>4)then(some false)else(bif decide ((((aC.cM.map Action.c).length:Int):Int)<1)then(some false)else(bif decide ((((aC.cM.map Action.c).length:Int):Int)>2)then(some false)else(j4 aC ((oW aC ((aC.conds.map aN.c).length:Int)).bind fun GJ=>(mT aC GJ ((py aC.conds).bind fun a6o=>((jo a6o).bind fun a6p=>(some (decide ((((a6p.map tx).length:Int):Int)<=6))))) aC.cM 0)) aC.conds 0)))))))))
def JV(aC:aI)(dP:Int):St:=⟨[(1,D.ptr 0 0),(49,D.sl (aC.conds.map aN.c)),(50,D.int .i64 ((aC.conds.map aN.c).length:Int)),(51,D.int .i64 dP)],[Ob.box (aI.c aC)]⟩
theorem Hy(hΓ:Γ.nt=111){aC:aI}{r:Bool}{k1:Option Bool}(dY:k1=some r->Ax Γ N f101 (.q [[none]] (D.bool r)) [1,1,1] ⟨[(1,D.ptr 0 0)],[Ob.box (aI.c aC)]⟩)(hm1:aC.conds.length<=maxLen):∀(rest:ah) (i1:Nat),aC.conds.drop i1=rest->j4 aC k1 rest i1=some r->Ar Γ N f101 (.q [[none]] (D.bool r)) [1,1,0,1,0] (rest.length+1) (JV aC (i1:Int)):=by
 intro rest
 induction rest with
 |nil=>
  intro i1 b9 h;rw[j4]at h;refine aV fun N1 cj cL=>?_
  exact((aX.ge aN.c b9).a [.hl 0 [1] [0]]).ex hΓ cj (dY h)
 |cons bS cZ ih1=>
  intro i1 b9 h;rw[j4]at h;refine aV fun N1 cj cL=>?_
  obtain⟨y62,h63,h⟩:=aB h;have Da:=(((aX.lt aN.c b9).l (bJ aN.c 5 (dc b9) rfl)).g (ou h63))
  obtain⟨h64,h⟩|⟨h64,h⟩:=aO h
  ·have h:=aK h;subst h;exact((((Da.r 3 h64).a [bF,bF,bF]).r 2 h64).T 6).ret hΓ
  ·have Iz:=(Da.r 3 h64)
   obtain⟨h65,h⟩|⟨h65,h⟩:=aO h
   ·have MK:=((((Iz.r 3 h65).b h64).b h65).b h64)
    obtain⟨h66,h⟩|⟨h66,h⟩:=aO h
    ·have h:=aK h;subst h;exact((MK.r 5 h66).T 1).ret hΓ
    ·obtain⟨y67,h68,h⟩:=aB h;have XL:=(((MK.r 3 h66).g (xS h68)).r 2 h66)
     obtain⟨h69,h⟩|⟨h69,h⟩:=aO h
     ·have h:=aK h;subst h;exact(XL.b h69).ret hΓ
     ·exact((XL.b h69).a [.cn [1,49,50,51] [0]]).ct hΓ cL (iS b9 hm1) (ih1 (i1+1) (dn b9) h)
   ·obtain⟨y70,h71,h⟩:=aB h;have XM:=(((((((Iz.r 3 h65).b h64).b h65).b h64).F 3).g (xS h71)).F 2)
    obtain⟨h72,h⟩|⟨h72,h⟩:=aO h
    ·have h:=aK h;subst h;exact(XM.b h72).ret hΓ
    ·exact((XM.b h72).a [.cn [1,49,50,51] [0]]).ct hΓ cL (iS b9 hm1) (ih1 (i1+1) (dn b9) h)
def JW(aC:aI)(GJ:aG)(dP:Int):St:=⟨[(1,D.ptr 0 0),(5,D.acc 1),(81,D.sl (aC.cM.map Action.c)),(82,D.int .i64 ((aC.cM.map Action.c).length:Int)),(83,D.int .i64 dP)],[Ob.box (aI.c aC),Ob.row .uq 9 1 (GJ.map tx)]⟩
def JX(aC:aI)(GJ:aG)(i2:Nat)(Av:aG)(dP:Int):St:=⟨[(1,D.ptr 0 0),(5,D.acc 1),(81,D.sl (aC.cM.map Action.c)),(82,D.int .i64 ((aC.cM.map Action.c).length:Int)),(83,D.int .i64 (i2:Int)),(93,D.acc 2),(94,D.int .i64 ((Av.map tx).length:Int)),(95,D.int .i64 dP)],[Ob.box (aI.c aC),Ob.row .uq 9 1 (GJ.map tx),Ob.row .uq 9 1 (Av.map tx)]⟩
theorem I0(hΓ:Γ.nt=111){aC:aI}{GJ:aG}{i2:Nat}{Av:aG}{r:Bool}{k3:Option Bool}(Vw:k3=some r->Ax Γ N f101 (.q [[none]] (D.bool r)) [1,1,1,1,0,1,0,0,1,1,1] ⟨[(1,D.ptr 0 0),(5,D.acc 1),(81,D.sl (aC.cM.map Action.c)),(82,D.int .i64 ((aC.cM.map Action.c).length:Int)),(83,D.int .i64 (i2:Int))],[Ob.box (aI.c aC),Ob.row .uq 9 1 (GJ.map tx)]⟩)(PF:Av.length<=maxLen):∀(rest:aG) (i3:Nat),Av.drop i3=rest->mU aC GJ i2 Av k3 rest i3=some r->Ar Γ N f101 (.q [[none]] (D.bool r)) [1,1,1,1,0,1,0,0,1,1,0,0,1,1,1,0] (rest.length+1) (JX aC GJ i2 Av (i3:Int)):=by
 intro rest
 induction rest with
 |nil=>
  intro i3 wD h;rw[mU]at h;refine aV fun N3 Q3 Lm=>?_
  exact((aX.ge tx wD).a [.hl 3 [1,5,81,82,83] [0,1]]).ex hΓ Q3 (Vw h)
 |cons Nt Mi ih3=>
  intro i3 wD h;rw[mU]at h;refine aV fun N3 Q3 Lm=>?_
  obtain⟨a6n,h230,h⟩:=aB h;have a5q:=((((aX.lt tx wD).i (mK tx 1 (dc wD))).o 1 1 .uq (cX tx (dc wD))).g (qi h230))
  obtain⟨h231,h⟩|⟨h231,h⟩:=aO h
  ·have h:=aK h;subst h;exact(a5q.b h231).ret hΓ
  ·exact((a5q.b h231).a [.cn [1,5,81,82,83,93,94,95] [0,1,2]]).ct hΓ Lm (iS wD PF) (ih3 (i3+1) (dn wD) h)
theorem Hz(hΓ:Γ.nt=111){aC:aI}{GJ:aG}{r:Bool}{k2:Option Bool}(AR:k2=some r->Ax Γ N f101 (.q [[none]] (D.bool r)) [1,1,1,1,1] ⟨[(1,D.ptr 0 0)],[Ob.box (aI.c aC)]⟩)(hm2:aC.cM.length<=maxLen):∀(rest:dw) (i2:Nat),aC.cM.drop i2=rest->mT aC GJ k2 rest i2=some r->Ar Γ N f101 (.q [[none]] (D.bool r)) [1,1,1,1,0,1,0] (rest.length+1) (JW aC GJ (i2:Int)):=by
 intro rest
 induction rest with
 |nil=>
  intro i2 hd2 h;rw[mT]at h;refine aV fun N2 uk tD=>?_
  exact((aX.ge Action.c hd2).a [.hl 0 [1] [0]]).ex hΓ uk (AR h)
 |cons nD uO ih2=>
  intro i2 hd2 h;rw[mT]at h;refine aV fun N2 uk tD=>?_
  obtain⟨a6m,h204,h⟩:=aB h;have a5r:=(((aX.lt Action.c hd2).l (bJ Action.c 3 (dc hd2) rfl)).g (Dr h204))
  obtain⟨h205,h⟩|⟨h205,h⟩:=aO h
  ·have h:=aK h;subst h;exact(a5r.b h205).ret hΓ
  ·obtain⟨Av,h207,h⟩:=aB h;obtain⟨h232,h⟩:=bU h;refine(((a5r.b h205).g (sw h207)).a [.cn [1,5,81,82,83,93,94,95] [0,1,3]]).lp hΓ (I0 hΓ (fun h=>?_) (bY h232) Av 0 rfl h);exact(aX.a [.cn [1,5,81,82,83] [0,1]]).ct hΓ tD (iS hd2 hm2) (ih2 (i2+1) (dn hd2) h)
theorem Gj{aC:aI}{r:Bool}(h:uR aC=some r):Good prog 101 [D.agg (aI.c aC)] (D.bool r):=by
 refine gd func101 [[none]] 111 fun hr Γ hΓ=>?_
 rw[uR]at h;obtain⟨y1,h2,h⟩:=aB h;obtain⟨h3,h⟩|⟨h3,h⟩:=aO h
 ·have h:=aK h;subst h;exact(((aX.g (mS h2)).r 4 h3).T 25).ret hΓ
 ·have a5s:=((aX.g (mS h2)).r 4 h3)
  obtain⟨h4,h⟩|⟨h4,h⟩:=aO h
  ·have h:=aK h;subst h;exact((a5s.r 4 h4).T 21).ret hΓ
  ·have a5t:=(a5s.r 4 h4)
   obtain⟨h5,h⟩|⟨h5,h⟩:=aO h
   ·have h:=aK h;subst h;exact((a5t.r 5 h5).T 16).ret hΓ
   ·have a5u:=(a5t.r 5 h5)
    obtain⟨h6,h⟩|⟨h6,h⟩:=aO h
    ·have h:=aK h;subst h;exact((a5u.r 5 h6).T 11).ret hΓ
    ·have a5v:=(a5u.r 5 h6)
     obtain⟨h7,h⟩|⟨h7,h⟩:=aO h
     ·have h:=aK h;subst h;exact((a5v.r 5 h7).T 6).ret hΓ
     ·have a5w:=(a5v.r 5 h7)
      obtain⟨h8,h⟩|⟨h8,h⟩:=aO h
      ·have h:=aK h;subst h;exact((a5w.r 5 h8).T 1).ret hΓ
      ·have a5x:=(a5w.r 5 h8)
       obtain⟨h9,h⟩|⟨h9,h⟩:=aO h
       ·have h:=aK h;subst h;exact(a5x.b h9).ret hΓ
       ·refine((a5x.b h9).a [.cn [1,49,50,51] [0]]).lp hΓ (Hy hΓ (fun h=>?_) (by have:=(iE.sl (iE.agg (hr _ (aD (i:=0) rfl)) (.sl (aC.conds.map aN.c)) (by simp))).1;simpa using this) aC.conds 0 rfl h);obtain⟨GJ,h74,h⟩:=aB h;refine((aX.g (wR h74)).a [.cn [1,5,81,82,83] [0,1]]).lp hΓ (Hz hΓ (fun h=>?_) (by have:=(iE.sl (iE.agg (hr _ (aD (i:=0) rfl)) (.sl (aC.cM.map Action.c)) (by simp))).1;simpa using this) aC.cM 0 rfl h);obtain⟨a6o,h234,h⟩:=aB h;obtain⟨a6p,h236,h⟩:=aB h;cases h;exact((aX.g (C8 h234)).g (r9 h236)).ret hΓ
def jk(aC:aq)(aZ:Bytes)(k1:Option Int):aq->Nat->Option Int
 | [],i1=>(k1)
 |bS::cZ,i1=>(bif (bS.name:Bytes)==aZ then(some (i1:Int))else(jk aC aZ k1 cZ (i1+1)))
def sC(aC:aq)(aZ:Bytes):Option Int:=(jk aC aZ (some (-1)) aC 0)
def Gi(aC:aq)(aZ:Bytes)(dP:Int):St:=⟨[(1,D.str aZ),(7,D.sl (aC.map aI.c)),(8,D.int .i64 ((aC.map aI.c).length:Int)),(9,D.int .i64 dP)],[]⟩
theorem FP(hΓ:Γ.nt=20){aC:aq}{aZ:Bytes}{r:Int}{k1:Option Int}(dY:k1=some r->Ax Γ N f102 (.q [[none]] (D.int .i64 r)) [1,1] ⟨[],[]⟩)(hm1:aC.length<=maxLen):∀(rest:aq) (i1:Nat),aC.drop i1=rest->jk aC aZ k1 rest i1=some r->Ar Γ N f102 (.q [[none]] (D.int .i64 r)) [1,0,1,0] (rest.length+1) (Gi aC aZ (i1:Int)):=by
 intro rest
 induction rest with
 |nil=>
  intro i1 b9 h;rw[jk]at h;refine aV fun N1 cj cL=>?_
  exact((aX.ge aI.c b9).a [.hl 0 [] []]).ex hΓ cj (dY h)
 |cons bS cZ ih1=>
  intro i1 b9 h;rw[jk]at h;refine aV fun N1 cj cL=>?_
  have gG:=((aX.lt aI.c b9).l (bJ aI.c 4 (dc b9) rfl))
  obtain⟨h13,h⟩|⟨h13,h⟩:=aO h
  ·cases h;exact(gG.b h13).ret hΓ
  ·exact((gG.b h13).a [.cn [1,7,8,9] []]).ct hΓ cL (iS b9 hm1) (ih1 (i1+1) (dn b9) h)
theorem Dq{aC:aq}{aZ:Bytes}{r:Int}(h:sC aC aZ=some r):Good prog 102 [D.sl (aC.map aI.c),D.str aZ] (D.int .i64 r):=by
 refine gd func102 [[none]] 20 fun hr Γ hΓ=>?_
 rw[sC]at h;refine(aX.a [.cn [1,7,8,9] []]).lp hΓ (FP hΓ (fun h=>?_) (by have:=(iE.sl (hr _ (aD (i:=0) rfl))).1;simpa using this) aC 0 rfl h);cases h;exact aX.ret hΓ
def jj(aC:aq)(k1:Option Bool):aq->Nat->Option Bool
 | [],i1=>(k1)
 |bS::cZ,i1=>((uR bS).bind fun Dg=>(bif !(Dg)then(some false)else((sC aC bS.name).bind fun LG=>(bif (LG:Int) != (i1:Int)then(some false)else(jj aC k1 cZ (i1+1))))))
def pJ(aC:aq):Option Bool:=(bif decide ((((aC.map aI.c).length:Int):Int)>6)then(some false)else(jj aC (some true) aC 0))
def Gh(aC:aq)(dP:Int):St:=⟨[(0,D.sl (aC.map aI.c)),(8,D.sl (aC.map aI.c)),(9,D.int .i64 ((aC.map aI.c).length:Int)),(10,D.int .i64 dP)],[]⟩
theorem FO(hΓ:Γ.nt=27){aC:aq}{r:Bool}{k1:Option Bool}(dY:k1=some r->Ax Γ N f49 (.q [[none]] (D.bool r)) [1,1,1] ⟨[],[]⟩)(hm1:aC.length<=maxLen):∀(rest:aq) (i1:Nat),aC.drop i1=rest->jj aC k1 rest i1=some r->Ar Γ N f49 (.q [[none]] (D.bool r)) [1,1,0,1,0] (rest.length+1) (Gh aC (i1:Int)):=by
 intro rest
 induction rest with
 |nil=>
  intro i1 b9 h;rw[jj]at h;refine aV fun N1 cj cL=>?_
  exact((aX.ge aI.c b9).a [.hl 0 [] []]).ex hΓ cj (dY h)
 |cons bS cZ ih1=>
  intro i1 b9 h;rw[jj]at h;refine aV fun N1 cj cL=>?_
  obtain⟨Dg,h35,h⟩:=aB h;have kY:=(((aX.lt aI.c b9).l (bJ aI.c 4 (dc b9) rfl)).g (Gj h35))
  obtain⟨h36,h⟩|⟨h36,h⟩:=aO h
  ·have h:=aK h;subst h;exact((kY.r 7 h36).T 1).ret hΓ
  ·obtain⟨LG,h38,h⟩:=aB h;have kX:=(((kY.r 4 h36).g (Dq h38)).r 3 h36)
   obtain⟨h39,h⟩|⟨h39,h⟩:=aO h
   ·have h:=aK h;subst h;exact(kX.b h39).ret hΓ
   ·exact((kX.b h39).a [.cn [0,8,9,10] []]).ct hΓ cL (iS b9 hm1) (ih1 (i1+1) (dn b9) h)
theorem tM{aC:aq}{r:Bool}(h:pJ aC=some r):Good prog 49 [D.sl (aC.map aI.c)] (D.bool r):=by
 refine gd func49 [[none]] 27 fun hr Γ hΓ=>?_
 rw[pJ]at h;obtain⟨h1,h⟩|⟨h1,h⟩:=aO h
 ·have h:=aK h;subst h;exact(aX.b h1).ret hΓ
 ·refine((aX.b h1).a [.cn [0,8,9,10] []]).lp hΓ (FO hΓ (fun h=>?_) (by have:=(iE.sl (hr _ (aD (i:=0) rfl))).1;simpa using this) aC 0 rfl h);have h:=aK h;subst h;exact aX.ret hΓ
def oX(aC:aE)(k1:Option Bool):aG->Nat->Option Bool
 | [],i1=>(k1)
 |bS::cZ,i1=>((fM bS).bind fun um=>(bif !(um)then(some false)else(oX aC k1 cZ (i1+1))))
def qQ(aC:aE):Option Bool:=((qR aC.rel).bind fun y1=>(bif !(y1)then(some false)else(bif decide ((((aC.args.map tx).length:Int):Int)>3)then(some false)else(oX aC (some true) aC.args 0))))
def JU(aC:aE)(dP:Int):St:=⟨[(16,D.sl (aC.args.map tx)),(17,D.int .i64 ((aC.args.map tx).length:Int)),(18,D.int .i64 dP)],[]⟩
theorem Hx(hΓ:Γ.nt=26){aC:aE}{r:Bool}{k1:Option Bool}(dY:k1=some r->Ax Γ N f103 (.q [[none]] (D.bool r)) [1,1,1] ⟨[],[]⟩)(hm1:aC.args.length<=maxLen):∀(rest:aG) (i1:Nat),aC.args.drop i1=rest->oX aC k1 rest i1=some r->Ar Γ N f103 (.q [[none]] (D.bool r)) [1,1,0,1,0] (rest.length+1) (JU aC (i1:Int)):=by
 intro rest
 induction rest with
 |nil=>
  intro i1 b9 h;rw[oX]at h;refine aV fun N1 cj cL=>?_
  exact((aX.ge tx b9).a [.hl 0 [] []]).ex hΓ cj (dY h)
 |cons bS cZ ih1=>
  intro i1 b9 h;rw[oX]at h;refine aV fun N1 cj cL=>?_
  obtain⟨um,h26,h⟩:=aB h;have gG:=(((aX.lt tx b9).l (bJ tx 1 (dc b9) rfl)).g (eb h26))
  obtain⟨h27,h⟩|⟨h27,h⟩:=aO h
  ·have h:=aK h;subst h;exact(gG.b h27).ret hΓ
  ·exact((gG.b h27).a [.cn [16,17,18] []]).ct hΓ cL (iS b9 hm1) (ih1 (i1+1) (dn b9) h)
theorem zN{aC:aE}{r:Bool}(h:qQ aC=some r):Good prog 103 [D.agg (aE.c aC)] (D.bool r):=by
 refine gd func103 [[none]] 26 fun hr Γ hΓ=>?_
 rw[qQ]at h;obtain⟨y1,h2,h⟩:=aB h;obtain⟨h3,h⟩|⟨h3,h⟩:=aO h
 ·have h:=aK h;subst h;exact(((aX.g (mS h2)).r 5 h3).T 1).ret hΓ
 ·have kY:=((aX.g (mS h2)).r 5 h3)
  obtain⟨h4,h⟩|⟨h4,h⟩:=aO h
  ·have h:=aK h;subst h;exact(kY.b h4).ret hΓ
  ·refine((kY.b h4).a [.cn [16,17,18] []]).lp hΓ (Hx hΓ (fun h=>?_) (by have:=(iE.sl (iE.agg (hr _ (aD (i:=0) rfl)) (.sl (aC.args.map tx)) (by simp))).1;simpa using this) aC.args 0 rfl h);have h:=aK h;subst h;exact aX.ret hΓ
def kA(aC:Int):Option Bytes:=((zh aC).bind fun y1=>(some y1))
theorem wS{aC:Int}{r:Bytes}(h:kA aC=some r):Good prog 202 [D.int .i64 aC] (D.str r):=by
 refine gd func202 [[none]] 5 fun hr Γ hΓ=>?_
 rw[kA]at h;obtain⟨y1,h2,h⟩:=aB h;have h:=aK h;subst h;exact(aX.g (GD h2)).ret hΓ
def lz(aC:Bytes):Option (Int×Bool):=(bif decide (((aC.length:Int):Int)<1)then(some (0,false))else(bif decide (((aC.length:Int):Int)>4)then(some (0,false))else((zg aC).bind fun y3=>(bif y3.2 then(some (0,false))else(bif decide ((y3.1:Int)<0)then(some (0,false))else(bif decide ((y3.1:Int)>9999)then(some (0,false))else((kA y3.1).bind fun y8=>(bif !((y8:Bytes)==aC)then(some (0,false))else(some (y3.1,true))))))))))
theorem pq{aC:Bytes}{r:Int×Bool}(h:lz aC=some r):Good prog 214 [D.str aC] (D.gw [D.int .i64 r.1,D.bool r.2]):=by
 refine gd func214 [[none],[none]] 36 fun hr Γ hΓ=>?_
 rw[lz]at h;obtain⟨h1,h⟩|⟨h1,h⟩:=aO h
 ·cases h;exact((aX.r 4 h1).T 1).ret hΓ
 ·have nB:=(aX.r 4 h1)
  obtain⟨h2,h⟩|⟨h2,h⟩:=aO h
  ·cases h;exact(nB.b h2).ret hΓ
  ·obtain⟨y3,h4,h⟩:=aB h;have gG:=((nB.b h2).g (GC h4))
   obtain⟨h5,h⟩|⟨h5,h⟩:=aO h
   ·cases h;exact((gG.r 3 h5).T 9).ret hΓ
   ·have kY:=(gG.r 3 h5)
    obtain⟨h6,h⟩|⟨h6,h⟩:=aO h
    ·cases h;exact((kY.r 3 h6).T 6).ret hΓ
    ·have kX:=(kY.r 3 h6)
     obtain⟨h7,h⟩|⟨h7,h⟩:=aO h
     ·cases h;exact((kX.r 5 h7).T 1).ret hΓ
     ·obtain⟨y8,h9,h⟩:=aB h;have sQ:=(((kX.r 2 h7).g (wS h9)).r 3 h7)
      obtain⟨h10,h⟩|⟨h10,h⟩:=aO h
      ·cases h;exact(sQ.b h10).ret hΓ
      ·cases h;exact(sQ.b h10).ret hΓ
def mW(aC:Int)(aZ:Int):Option Int:=(bif decide ((aC:Int)<aZ)then(some (-1))else(bif decide ((aC:Int)>aZ)then(some 1)else(some 0)))
theorem vJ{aC:Int}{aZ:Int}{r:Int}(h:mW aC aZ=some r):Good prog 174 [D.int .i64 aC,D.int .i64 aZ] (D.int .i64 r):=by
 refine gd func174 [[none]] 13 fun hr Γ hΓ=>?_
 rw[mW]at h;obtain⟨h1,h⟩|⟨h1,h⟩:=aO h
 ·cases h;exact(aX.b h1).ret hΓ
 ·obtain⟨h2,h⟩|⟨h2,h⟩:=aO h
  ·have h:=aK h;subst h;exact((aX.b h1).b h2).ret hΓ
  ·have h:=aK h;subst h;exact((aX.b h1).b h2).ret hΓ
def lS(aC:Bytes)(aZ:Bytes):Option Int:=((lz aC).bind fun y1=>((lz aZ).bind fun y3=>(bif y1.2 then(bif y3.2 then((mW y1.1 y3.1).bind fun y7=>(some y7))else(some (-1)))else(bif y3.2 then(some 1)else((qH aC aZ).bind fun Dc=>(some Dc))))))
theorem Aa{aC:Bytes}{aZ:Bytes}{r:Int}(h:lS aC aZ=some r):Good prog 173 [D.str aC,D.str aZ] (D.int .i64 r):=by
 refine gd func173 [[none]] 34 fun hr Γ hΓ=>?_
 rw[lS]at h;obtain⟨y1,h2,h⟩:=aB h;obtain⟨y3,h4,h⟩:=aB h;have nB:=((aX.g (pq h2)).g (pq h4))
 obtain⟨h5,h⟩|⟨h5,h⟩:=aO h
 ·have gG:=(nB.r 2 h5)
  obtain⟨h6,h⟩|⟨h6,h⟩:=aO h
  ·obtain⟨y7,h8,h⟩:=aB h;have h:=aK h;subst h;exact((gG.b h6).g (vJ h8)).ret hΓ
  ·cases h;exact((gG.b h6).b h5).ret hΓ
 ·have kY:=(((nB.r 2 h5).F 1).b h5)
  obtain⟨h9,h⟩|⟨h9,h⟩:=aO h
  ·have h:=aK h;subst h;exact(kY.b h9).ret hΓ
  ·obtain⟨Dc,h11,h⟩:=aB h;have h:=aK h;subst h;exact((kY.b h9).g (s7 h11)).ret hΓ
def iz(aC:aE)(aZ:aE)(k1:Option Int):aG->Nat->Option Int
 | [],i1=>(k1)
 |bS::cZ,i1=>(bif decide (((i1:Int):Int)<((aZ.args.map tx).length:Int))then((iw aZ.args (i1:Int)).bind fun x37=>((lS bS x37).bind fun FJ=>(bif (FJ:Int) != 0 then(some FJ)else(iz aC aZ k1 cZ (i1+1)))))else(k1))
def lT(aC:aE)(aZ:aE):Option Int:=((qH aC.rel aZ.rel).bind fun y1=>(bif (y1:Int) != 0 then(some y1)else(iz aC aZ ((mW ((aC.args.map tx).length:Int) ((aZ.args.map tx).length:Int)).bind fun Uz=>(some Uz)) aC.args 0)))
def C2(aC:aE)(aZ:aE)(dP:Int):St:=⟨[(2,D.ptr 0 0),(3,D.ptr 1 0),(6,D.int .i64 dP)],[Ob.box (aE.c aC),Ob.box (aE.c aZ)]⟩
theorem B8(hΓ:Γ.nt=51){aC:aE}{aZ:aE}{r:Int}{k1:Option Int}(dY:k1=some r->Ax Γ N f104 (.q [[none]] (D.int .i64 r)) [1,1,1] ⟨[(2,D.ptr 0 0),(3,D.ptr 1 0)],[Ob.box (aE.c aC),Ob.box (aE.c aZ)]⟩)(hm1:aC.args.length<=maxLen):∀(rest:aG) (i1:Nat),aC.args.drop i1=rest->iz aC aZ k1 rest i1=some r->Ar Γ N f104 (.q [[none]] (D.int .i64 r)) [1,1,0,1,0] (rest.length+1) (C2 aC aZ (i1:Int)):=by
 intro rest
 induction rest with
 |nil=>
  intro i1 b9 h;rw[iz]at h;refine aV fun N1 cj cL=>?_
  exact((((((((aX.ge tx b9).ge tx b9).ge tx b9).ge tx b9).ge tx b9).ge tx b9).F 1).a [.hl 0 [2,3] [0,1]]).ex hΓ cj (dY h)
 |cons bS cZ ih1=>
  intro i1 b9 h;rw[iz]at h;refine aV fun N1 cj cL=>?_
  have kY:=((((((aX.lt tx b9).lt tx b9).lt tx b9).lt tx b9).lt tx b9).lt tx b9)
  obtain⟨h36,h⟩|⟨h36,h⟩:=aO h
  ·obtain⟨x37,h38,h⟩:=aB h;obtain⟨FJ,h40,h⟩:=aB h;have kX:=(((((kY.b h36).a [.n 10]).l (bJ tx 1 (dc b9) rfl)).l (er tx 1 h38 rfl)).g (Aa h40))
   obtain⟨h41,h⟩|⟨h41,h⟩:=aO h
   ·have h:=aK h;subst h;exact(kX.b h41).ret hΓ
   ·exact((kX.b h41).a [.cn [2,3,6] [0,1]]).ct hΓ cL (iS b9 hm1) (ih1 (i1+1) (dn b9) h)
  ·exact((kY.b h36).a [.hl 0 [2,3] [0,1]]).ex hΓ cj (dY h)
theorem Ab{aC:aE}{aZ:aE}{r:Int}(h:lT aC aZ=some r):Good prog 104 [D.agg (aE.c aC),D.agg (aE.c aZ)] (D.int .i64 r):=by
 refine gd func104 [[none]] 51 fun hr Γ hΓ=>?_
 rw[lT]at h;obtain⟨y1,h2,h⟩:=aB h;obtain⟨h3,h⟩|⟨h3,h⟩:=aO h
 ·have h:=aK h;subst h;exact((aX.g (s7 h2)).b h3).ret hΓ
 ·refine(((aX.g (s7 h2)).b h3).a [.cn [2,3,6] [0,1]]).lp hΓ (B8 hΓ (fun h=>?_) (by have:=(iE.sl (iE.agg (hr _ (aD (i:=0) rfl)) (.sl (aC.args.map tx)) (by simp))).1;simpa using this) aC.args 0 rfl h);obtain⟨Uz,h43,h⟩:=aB h;have h:=aK h;subst h;exact(aX.g (vJ h43)).ret hΓ
def iJ(aC:aP)(k1:Option Bool):aP->Nat->Option Bool
 | [],i1=>(k1)
 |bS::cZ,i1=>((qQ bS).bind fun y46=>(bif !(y46)then(some false)else(bif decide (((i1:Int):Int)>0)then((iw aC (IntKind.i64.wrap ((i1:Int)-1))).bind fun x50=>((lT x50 bS).bind fun y52=>(bif decide ((y52:Int)>=0)then(some false)else(iJ aC k1 cZ (i1+1)))))else(iJ aC k1 cZ (i1+1)))))
def pH(aC:aP):Option Bool:=(bif decide ((((aC.map aE.c).length:Int):Int)>24)then(some false)else(iJ aC (some true) aC 0))
def Gg(aC:aP)(dP:Int):St:=⟨[(0,D.sl (aC.map aE.c)),(8,D.sl (aC.map aE.c)),(9,D.int .i64 ((aC.map aE.c).length:Int)),(10,D.int .i64 dP)],[]⟩
theorem FN(hΓ:Γ.nt=33){aC:aP}{r:Bool}{k1:Option Bool}(dY:k1=some r->Ax Γ N f50 (.q [[none]] (D.bool r)) [1,1,1] ⟨[],[]⟩)(hm1:aC.length<=maxLen):∀(rest:aP) (i1:Nat),aC.drop i1=rest->iJ aC k1 rest i1=some r->Ar Γ N f50 (.q [[none]] (D.bool r)) [1,1,0,1,0] (rest.length+1) (Gg aC (i1:Int)):=by
 intro rest
 induction rest with
 |nil=>
  intro i1 b9 h;rw[iJ]at h;refine aV fun N1 cj cL=>?_
  exact((aX.ge aE.c b9).a [.hl 0 [] []]).ex hΓ cj (dY h)
 |cons bS cZ ih1=>
  intro i1 b9 h;rw[iJ]at h;refine aV fun N1 cj cL=>?_
  obtain⟨y46,h47,h⟩:=aB h;have kX:=((((aX.lt aE.c b9).l (bJ aE.c 2 (dc b9) rfl)).a [.n 13]).g (zN h47))
  obtain⟨h48,h⟩|⟨h48,h⟩:=aO h
  ·have h:=aK h;subst h;exact((((kX.r 3 h48).a [bF,bF,bF,bF,bF,bF,bF,bF]).r 2 h48).T 1).ret hΓ
  ·have sQ:=(kX.r 3 h48)
   obtain⟨h49,h⟩|⟨h49,h⟩:=aO h
   ·obtain⟨x50,h51,h⟩:=aB h;obtain⟨y52,h53,h⟩:=aB h;have vQ:=((((((((sQ.r 4 h49).l (er aE.c 2 h51 rfl)).r 3 h49).g (Ab h53)).b h49).b h48).b h49).b h48)
    obtain⟨h54,h⟩|⟨h54,h⟩:=aO h
    ·have h:=aK h;subst h;exact(vQ.b h54).ret hΓ
    ·exact((vQ.b h54).a [.cn [0,8,9,10] []]).ct hΓ cL (iS b9 hm1) (ih1 (i1+1) (dn b9) h)
   ·exact((((((sQ.r 8 h49).b h48).b h49).b h48).F 1).a [.cn [0,8,9,10] []]).ct hΓ cL (iS b9 hm1) (ih1 (i1+1) (dn b9) h)
theorem xN{aC:aP}{r:Bool}(h:pH aC=some r):Good prog 50 [D.sl (aC.map aE.c)] (D.bool r):=by
 refine gd func50 [[none]] 33 fun hr Γ hΓ=>?_
 rw[pH]at h;obtain⟨h1,h⟩|⟨h1,h⟩:=aO h
 ·have h:=aK h;subst h;exact(aX.b h1).ret hΓ
 ·refine((aX.b h1).a [.cn [0,8,9,10] []]).lp hΓ (FN hΓ (fun h=>?_) (by have:=(iE.sl (hr _ (aD (i:=0) rfl))).1;simpa using this) aC 0 rfl h);have h:=aK h;subst h;exact aX.ret hΓ
def gV(aC:aE):Option aE:=((mX aC.args).bind fun y1=>(some (⟨aC.rel,y1⟩:aE)))
theorem vK{aC:aE}{r:aE}(h:gV aC=some r):Good prog 116 [D.agg (aE.c aC)] (D.agg [D.str r.rel,D.fr 9 1 (r.args.map tx)]):=by
 refine gd func116 [[none,some (9,1)]] 9 fun hr Γ hΓ=>?_
 rw[gV]at h;obtain⟨y1,h2,h⟩:=aB h;cases h;exact((aX.a [.n 5]).g (sv h2)).ret hΓ
def ij(aC:aN):Option aN:=((gV aC.pat).bind fun y1=>(some (⟨aC.kind,y1,aC.left,aC.right⟩:aN)))
theorem nM{aC:aN}{r:aN}(h:ij aC=some r):Good prog 117 [D.agg (aN.c aC)] (D.agg [D.int .i64 r.kind,D.str r.pat.rel,D.fr 9 1 (r.pat.args.map tx),D.str r.left,D.str r.right]):=by
 refine gd func117 [[none,none,some (9,1),none,none]] 8 fun hr Γ hΓ=>?_
 rw[ij]at h;obtain⟨y1,h2,h⟩:=aB h;cases h;exact(aX.g (vK h2)).ret hΓ
def lW(aC:ah)(k1:ah->Option ah):ah->Nat->ah->Option ah
 | [],i1,bN=>(k1 bN)
 |bS::cZ,i1,bN=>((ij bS).bind fun o9=>(bif room ((bN.map aN.c).length+([[D.int .i64 o9.kind,D.str o9.pat.rel,D.sl (o9.pat.args.map tx),D.str o9.left,D.str o9.right]]).length) 80 then(lW aC k1 cZ (i1+1) (bN++([o9])))else none))
def rA(aC:ah):Option ah:=(lW aC (fun(cC:ah)=>(some cC)) aC 0 ([]:ah))
def yT(aC:ah)(W0:List aL)(dP:Int):St:=⟨[(3,D.acc 0),(6,D.sl (aC.map aN.c)),(7,D.int .i64 ((aC.map aN.c).length:Int)),(8,D.int .i64 dP)],[Ob.row .uq 71 5 W0]⟩
theorem Dx(hΓ:Γ.nt=19){aC:ah}{r:ah}{k1:ah->Option ah}(dY:∀(cC:ah),k1 cC=some r->Ax Γ N f219 (.q [[some (71,5)]] (D.fr 71 5 (r.map aN.c))) [1,1,1] ⟨[(3,D.acc 0)],[Ob.row .uq 71 5 (cC.map aN.c)]⟩)(hm1:aC.length<=maxLen):∀(rest:ah) (i1:Nat) (bN:ah),aC.drop i1=rest->lW aC k1 rest i1 bN=some r->Ar Γ N f219 (.q [[some (71,5)]] (D.fr 71 5 (r.map aN.c))) [1,1,0,1,0] (rest.length+1) (yT aC (bN.map aN.c) (i1:Int)):=by
 intro rest
 induction rest with
 |nil=>
  intro i1 bN b9 h;rw[lW]at h;refine aV fun N1 cj cL=>?_
  exact((aX.ge aN.c b9).a [.hl 0 [3] [0]]).ex hΓ cj (dY bN h)
 |cons bS cZ ih1=>
  intro i1 bN b9 h;rw[lW]at h;refine aV fun N1 cj cL=>?_
  obtain⟨o9,h28,h⟩:=aB h;obtain⟨h29,h⟩:=bU h;exact(((((aX.lt aN.c b9).l (bJ aN.c 5 (dc b9) rfl)).g (nM h28)).w (bp h29)).a [.cn [3,6,7,8] [4]]).cs hΓ cL (yT aC ((bN.map aN.c)++([[D.int .i64 o9.kind,D.str o9.pat.rel,D.sl (o9.pat.args.map tx),D.str o9.left,D.str o9.right]])) (IntKind.i64.wrap ((i1:Int)+1))) (by first| (simp only[iS b9 hm1,mA]<;>rfl)| (simp only[iS b9 hm1,mA,aE.c,aQ.c,aN.c,Action.c,aI.c,aY.c,ax.c,af.c,Node.c,aJ.c,dX.c]<;>rfl)) (ih1 (i1+1) (bN++([o9])) (dn b9) h)
theorem D9{aC:ah}{r:ah}(h:rA aC=some r):Good prog 219 [D.sl (aC.map aN.c)] (D.fr 71 5 (r.map aN.c)):=by
 refine gd func219 [[some (71,5)]] 19 fun hr Γ hΓ=>?_
 rw[rA]at h;refine(aX.a [.KW 3,.cn [3,6,7,8] [0]]).lp hΓ (Dx hΓ (fun cC h=>?_) (by have:=(iE.sl (hr _ (aD (i:=0) rfl))).1;simpa using this) aC 0 ([]:ah) rfl h);have h:=aK h;subst h;exact aX.ret hΓ
def jq(aC:aI)(y1:ah)(k1:dw->Option aI):dw->Nat->dw->Option aI
 | [],i1,cw=>(k1 cw)
 |bS::cZ,i1,cw=>((gV bS.pat).bind fun Yn=>(bif room ((cw.map Action.c).length+([[D.int .i64 bS.kind,D.str Yn.rel,D.sl (Yn.args.map tx)]]).length) 48 then(jq aC y1 k1 cZ (i1+1) (cw++([(⟨bS.kind,Yn⟩:Action)])))else none))
def pM(aC:aI):Option aI:=((rA aC.conds).bind fun y1=>(jq aC y1 (fun(ew:dw)=>(some (⟨aC.name,aC.prio,y1,ew⟩:aI))) aC.cM 0 ([]:dw)))
def zP(aC:aI)(y1:ah)(W0:List aL)(dP:Int):St:=⟨[(2,D.ptr 0 0),(3,D.ptr 1 0),(15,D.sl (aC.cM.map Action.c)),(16,D.int .i64 ((aC.cM.map Action.c).length:Int)),(17,D.int .i64 dP)],[Ob.box [D.str ([]),D.int .i64 0,D.nil,D.nil],Ob.box [D.str aC.name,D.int .i64 aC.prio,D.acc 2,D.acc 3],Ob.row .uq 71 5 (y1.map aN.c),Ob.row .uq 154 3 W0]⟩
theorem FY(hΓ:Γ.nt=34){aC:aI}{y1:ah}{r:aI}{k1:dw->Option aI}(dY:∀(ew:dw),k1 ew=some r->Ax Γ N f182 (.q [[none,none,some (71,5),some (154,3)]] (D.agg [D.str r.name,D.int .i64 r.prio,D.fr 71 5 (r.conds.map aN.c),D.fr 154 3 (r.cM.map Action.c)])) [1,1,1] ⟨[(2,D.ptr 0 0),(3,D.ptr 1 0)],[Ob.box [D.str ([]),D.int .i64 0,D.nil,D.nil],Ob.box [D.str aC.name,D.int .i64 aC.prio,D.acc 2,D.acc 3],Ob.row .uq 71 5 (y1.map aN.c),Ob.row .uq 154 3 (ew.map Action.c)]⟩)(hm1:aC.cM.length<=maxLen):∀(rest:dw) (i1:Nat) (cw:dw),aC.cM.drop i1=rest->jq aC y1 k1 rest i1 cw=some r->Ar Γ N f182 (.q [[none,none,some (71,5),some (154,3)]] (D.agg [D.str r.name,D.int .i64 r.prio,D.fr 71 5 (r.conds.map aN.c),D.fr 154 3 (r.cM.map Action.c)])) [1,1,0,1,0] (rest.length+1) (zP aC y1 (cw.map Action.c) (i1:Int)):=by
 intro rest
 induction rest with
 |nil=>
  intro i1 cw b9 h;rw[jq]at h;refine aV fun N1 cj cL=>?_
  exact((aX.ge Action.c b9).a [.hl 0 [2,3] [0,1,2,3]]).ex hΓ cj (dY cw h)
 |cons bS cZ ih1=>
  intro i1 cw b9 h;rw[jq]at h;refine aV fun N1 cj cL=>?_
  obtain⟨Yn,h42,h⟩:=aB h;obtain⟨h43,h⟩:=bU h;exact((((((aX.lt Action.c b9).l (bJ Action.c 3 (dc b9) rfl)).a [.n2 [0,1,2,3,4,5,6,7,8,9,10,11] [0,1,2,3,4,5,6,7,8,9,10,11] 8 9 [0,1] [5]]).g (vK h42)).w (bp h43)).a [.cn [2,3,15,16,17] [0,1,2,7]]).cs hΓ cL (zP aC y1 ((cw.map Action.c)++([[D.int .i64 bS.kind,D.str Yn.rel,D.sl (Yn.args.map tx)]])) (IntKind.i64.wrap ((i1:Int)+1))) (by first| (simp only[iS b9 hm1,mA]<;>rfl)| (simp only[iS b9 hm1,mA,aE.c,aQ.c,aN.c,Action.c,aI.c,aY.c,ax.c,af.c,Node.c,aJ.c,dX.c]<;>rfl)) (ih1 (i1+1) (cw++([(⟨bS.kind,Yn⟩:Action)])) (dn b9) h)
theorem Dz{aC:aI}{r:aI}(h:pM aC=some r):Good prog 182 [D.agg (aI.c aC)] (D.agg [D.str r.name,D.int .i64 r.prio,D.fr 71 5 (r.conds.map aN.c),D.fr 154 3 (r.cM.map Action.c)]):=by
 refine gd func182 [[none,none,some (71,5),some (154,3)]] 34 fun hr Γ hΓ=>?_
 rw[pM]at h;obtain⟨y1,h2,h⟩:=aB h;refine(((aX.a [.n 9]).g (D9 h2)).a [.pb 3 3 154 3,.cn [2,3,15,16,17] [1,3,2,4]]).lp hΓ (FY hΓ (fun ew h=>?_) (by have:=(iE.sl (iE.agg (hr _ (aD (i:=0) rfl)) (.sl (aC.cM.map Action.c)) (by simp))).1;simpa using this) aC.cM 0 ([]:dw) rfl h);cases h;exact aX.ret hΓ
def lY(aC:aq)(k1:aq->Option aq):aq->Nat->aq->Option aq
 | [],i1,bN=>(k1 bN)
 |bS::cZ,i1,bN=>((pM bS).bind fun o9=>(bif room ((bN.map aI.c).length+([[D.str o9.name,D.int .i64 o9.prio,D.sl (o9.conds.map aN.c),D.sl (o9.cM.map Action.c)]]).length) 72 then(lY aC k1 cZ (i1+1) (bN++([o9])))else none))
def rB(aC:aq):Option aq:=(lY aC (fun(cC:aq)=>(some cC)) aC 0 ([]:aq))
def yV(aC:aq)(W0:List aL)(dP:Int):St:=⟨[(3,D.acc 0),(6,D.sl (aC.map aI.c)),(7,D.int .i64 ((aC.map aI.c).length:Int)),(8,D.int .i64 dP)],[Ob.row .uq 63 4 W0]⟩
theorem E0(hΓ:Γ.nt=19){aC:aq}{r:aq}{k1:aq->Option aq}(dY:∀(cC:aq),k1 cC=some r->Ax Γ N f114 (.q [[some (63,4)]] (D.fr 63 4 (r.map aI.c))) [1,1,1] ⟨[(3,D.acc 0)],[Ob.row .uq 63 4 (cC.map aI.c)]⟩)(hm1:aC.length<=maxLen):∀(rest:aq) (i1:Nat) (bN:aq),aC.drop i1=rest->lY aC k1 rest i1 bN=some r->Ar Γ N f114 (.q [[some (63,4)]] (D.fr 63 4 (r.map aI.c))) [1,1,0,1,0] (rest.length+1) (yV aC (bN.map aI.c) (i1:Int)):=by
 intro rest
 induction rest with
 |nil=>
  intro i1 bN b9 h;rw[lY]at h;refine aV fun N1 cj cL=>?_
  exact((aX.ge aI.c b9).a [.hl 0 [3] [0]]).ex hΓ cj (dY bN h)
 |cons bS cZ ih1=>
  intro i1 bN b9 h;rw[lY]at h;refine aV fun N1 cj cL=>?_
  obtain⟨o9,h28,h⟩:=aB h;obtain⟨h29,h⟩:=bU h;exact(((((aX.lt aI.c b9).l (bJ aI.c 4 (dc b9) rfl)).g (Dz h28)).w (bp h29)).a [.cn [3,6,7,8] [5]]).cs hΓ cL (yV aC ((bN.map aI.c)++([[D.str o9.name,D.int .i64 o9.prio,D.sl (o9.conds.map aN.c),D.sl (o9.cM.map Action.c)]])) (IntKind.i64.wrap ((i1:Int)+1))) (by first| (simp only[iS b9 hm1,mA]<;>rfl)| (simp only[iS b9 hm1,mA,aE.c,aQ.c,aN.c,Action.c,aI.c,aY.c,ax.c,af.c,Node.c,aJ.c,dX.c]<;>rfl)) (ih1 (i1+1) (bN++([o9])) (dn b9) h)
theorem DA{aC:aq}{r:aq}(h:rB aC=some r):Good prog 114 [D.sl (aC.map aI.c)] (D.fr 63 4 (r.map aI.c)):=by
 refine gd func114 [[some (63,4)]] 19 fun hr Γ hΓ=>?_
 rw[rB]at h;refine(aX.a [.KW 3,.cn [3,6,7,8] [0]]).lp hΓ (E0 hΓ (fun cC h=>?_) (by have:=(iE.sl (hr _ (aD (i:=0) rfl))).1;simpa using this) aC 0 ([]:aq) rfl h);have h:=aK h;subst h;exact aX.ret hΓ
def fI(aC:aG)(k1:aM->Option aM):aG->Nat->aM->List (Bytes×Bool)->Option aM
 | [],i1,bN,Ak=>(k1 bN)
 |bS::cZ,i1,bN,Ak=>((l6 bS).bind fun y52=>(bif y52 then(bif !(Is false bS Ak)then((kA (IntKind.i64.wrap (((bN.map aQ.c).length:Int)+1))).bind fun y56=>(bif decide (([63]:Bytes).length+(y56:Bytes).length<=maxLen)then(bif room ((bN.map aQ.c).length+([[D.str bS,D.str (([63])++y56)]]).length) 32 then(fI aC k1 cZ (i1+1) (bN++([(⟨bS,([63])++y56⟩:aQ)])) (M9 bS true Ak))else none)else none))else(fI aC k1 cZ (i1+1) bN Ak))else(fI aC k1 cZ (i1+1) bN Ak)))
def nh(aC:aG):Option aM:=(fI aC (fun(cC:aM)=>(some cC)) aC 0 ([]:aM) ([]:List (Bytes×Bool)))
def xU(aC:aG)(W0:List aL)(W1:List (D×D))(dP:Int):St:=⟨[(3,D.acc 0),(4,D.acc 1),(8,D.sl (aC.map tx)),(9,D.int .i64 ((aC.map tx).length:Int)),(10,D.int .i64 dP)],[Ob.row .uq 113 2 W0,Ob.mp W1]⟩
theorem DC(hΓ:Γ.nt=36){aC:aG}{r:aM}{k1:aM->Option aM}(dY:∀(cC:aM),k1 cC=some r->Ax Γ N f142 (.q [[some (113,2)]] (D.fr 113 2 (r.map aQ.c))) [1,1,1,1] ⟨[(3,D.acc 0)],[Ob.row .uq 113 2 (cC.map aQ.c)]⟩)(hm1:aC.length<=maxLen):∀(rest:aG) (i1:Nat) (bN:aM) (Ak:List (Bytes×Bool)),aC.drop i1=rest->fI aC k1 rest i1 bN Ak=some r->Ar Γ N f142 (.q [[some (113,2)]] (D.fr 113 2 (r.map aQ.c))) [1,1,1,0,1,0] (rest.length+1) (xU aC (bN.map aQ.c) (Ak.map (kS eB)) (i1:Int)):=by
 intro rest
 induction rest with
 |nil=>
  intro i1 bN Ak b9 h;rw[fI]at h;refine aV fun N1 cj cL=>?_
  exact((aX.ge tx b9).a [.hl 0 [3] [0]]).ex hΓ cj (dY bN h)
 |cons bS cZ ih1=>
  intro i1 bN Ak b9 h;rw[fI]at h;refine aV fun N1 cj cL=>?_
  obtain⟨y52,h53,h⟩:=aB h;have kY:=(((aX.lt tx b9).l (bJ tx 1 (dc b9) rfl)).g (nZ h53))
  obtain⟨h54,h⟩|⟨h54,h⟩:=aO h
  ·have kX:=((((kY.r 3 h54).w (show plk prog 185 (Ak.map (kS eB)) (D.str bS) false=some (D.bool (Is false bS Ak))from a5m (e:=eB) (z:=false) (by kernel_rfl))).a [.d (D.bool (Is false bS Ak))]).r 2 h54)
   obtain⟨h55,h⟩|⟨h55,h⟩:=aO h
   ·obtain⟨y56,h57,h⟩:=aB h;obtain⟨h58,h⟩:=bU h;obtain⟨h59,h⟩:=bU h;exact(((((((kX.b h55).w (show Iq (D.str bS) (D.bool true) (Ak.map (kS eB))=some ((M9 bS true Ak).map (kS eB))from XR (e:=eB) (m:=Ak))).a [.kv ((M9 bS true Ak).map (kS eB))]).g (wS h57)).w (bY h58)).w (bp h59)).a [.cn [3,4,8,9,10] [3,1]]).cs hΓ cL (xU aC ((bN.map aQ.c)++([[D.str bS,D.str (([63])++y56)]])) ((M9 bS true Ak).map (kS eB)) (IntKind.i64.wrap ((i1:Int)+1))) (by first| (simp only[iS b9 hm1,mA]<;>rfl)| (simp only[iS b9 hm1,mA,aE.c,aQ.c,aN.c,Action.c,aI.c,aY.c,ax.c,af.c,Node.c,aJ.c,dX.c]<;>rfl)) (ih1 (i1+1) (bN++([(⟨bS,([63])++y56⟩:aQ)])) (M9 bS true Ak) (dn b9) h)
   ·exact((kX.b h55).a [.cn [3,4,8,9,10] [0,1]]).ct hΓ cL (iS b9 hm1) (ih1 (i1+1) bN Ak (dn b9) h)
  ·exact(((kY.r 5 h54).F 1).a [.cn [3,4,8,9,10] [0,1]]).ct hΓ cL (iS b9 hm1) (ih1 (i1+1) bN Ak (dn b9) h)
theorem vr{aC:aG}{r:aM}(h:nh aC=some r):Good prog 142 [D.sl (aC.map tx)] (D.fr 113 2 (r.map aQ.c)):=by
 refine gd func142 [[some (113,2)]] 36 fun hr Γ hΓ=>?_
 rw[nh]at h;refine(aX.a [.KW 3,.cn [3,4,8,9,10] [0,1]]).lp hΓ (DC hΓ (fun cC h=>?_) (by have:=(iE.sl (hr _ (aD (i:=0) rfl))).1;simpa using this) aC 0 ([]:aM) ([]:List (Bytes×Bool)) rfl h);have h:=aK h;subst h;exact aX.ret hΓ
def gM(aC:aI)(k1:aG->Option aM):ah->Nat->aG->Option aM
 | [],i1,bN=>(k1 bN)
 |bS::cZ,i1,bN=>((rG bS).bind fun o9=>(bif room ((bN.map tx).length+(o9.map tx).length) 16 then(gM aC k1 cZ (i1+1) (bN++o9))else none))
def nc(aC:aI):Option aM:=(gM aC (fun(cC:aG)=>((nh cC).bind fun yM=>(some yM))) aC.conds 0 ([]:aG))
def xP(aC:aI)(W0:List aL)(dP:Int):St:=⟨[(3,D.acc 0),(7,D.sl (aC.conds.map aN.c)),(8,D.int .i64 ((aC.conds.map aN.c).length:Int)),(9,D.int .i64 dP)],[Ob.row .uq 9 1 W0]⟩
theorem D3(hΓ:Γ.nt=20){aC:aI}{r:aM}{k1:aG->Option aM}(dY:∀(cC:aG),k1 cC=some r->Ax Γ N f81 (.q [[some (113,2)]] (D.fr 113 2 (r.map aQ.c))) [1,1,1] ⟨[(3,D.acc 0)],[Ob.row .uq 9 1 (cC.map tx)]⟩)(hm1:aC.conds.length<=maxLen):∀(rest:ah) (i1:Nat) (bN:aG),aC.conds.drop i1=rest->gM aC k1 rest i1 bN=some r->Ar Γ N f81 (.q [[some (113,2)]] (D.fr 113 2 (r.map aQ.c))) [1,1,0,1,0] (rest.length+1) (xP aC (bN.map tx) (i1:Int)):=by
 intro rest
 induction rest with
 |nil=>
  intro i1 bN b9 h;rw[gM]at h;refine aV fun N1 cj cL=>?_
  exact((aX.ge aN.c b9).a [.hl 0 [3] [0]]).ex hΓ cj (dY bN h)
 |cons bS cZ ih1=>
  intro i1 bN b9 h;rw[gM]at h;refine aV fun N1 cj cL=>?_
  obtain⟨o9,h28,h⟩:=aB h;obtain⟨h29,h⟩:=bU h;exact(((((aX.lt aN.c b9).l (bJ aN.c 5 (dc b9) rfl)).g (yX h28)).w (bp h29)).a [.cn [3,7,8,9] [3]]).cs hΓ cL (xP aC ((bN.map tx)++(o9.map tx)) (IntKind.i64.wrap ((i1:Int)+1))) (by first| (simp only[iS b9 hm1,mA]<;>rfl)| (simp only[iS b9 hm1,mA,aE.c,aQ.c,aN.c,Action.c,aI.c,aY.c,ax.c,af.c,Node.c,aJ.c,dX.c]<;>rfl)) (ih1 (i1+1) (bN++o9) (dn b9) h)
theorem vp{aC:aI}{r:aM}(h:nc aC=some r):Good prog 81 [D.agg (aI.c aC)] (D.fr 113 2 (r.map aQ.c)):=by
 refine gd func81 [[some (113,2)]] 20 fun hr Γ hΓ=>?_
 rw[nc]at h;refine(aX.a [.KW 3,.cn [3,7,8,9] [1]]).lp hΓ (D3 hΓ (fun cC h=>?_) (by have:=(iE.sl (iE.agg (hr _ (aD (i:=0) rfl)) (.sl (aC.conds.map aN.c)) (by simp))).1;simpa using this) aC.conds 0 ([]:aG) rfl h);obtain⟨yM,h31,h⟩:=aB h;have h:=aK h;subst h;exact(aX.g (vr h31)).ret hΓ
def iA(aC:Bytes)(aZ:aM)(k1:Option Bytes):aM->Nat->Option Bytes
 | [],i1=>(k1)
 |bS::cZ,i1=>(bif (bS.var:Bytes)==aC then(some bS.value)else(iA aC aZ k1 cZ (i1+1)))
def iM(aC:Bytes)(aZ:aM):Option Bytes:=(iA aC aZ (some aC) aZ 0)
def DD(aC:Bytes)(aZ:aM)(dP:Int):St:=⟨[(0,D.str aC),(7,D.sl (aZ.map aQ.c)),(8,D.int .i64 ((aZ.map aQ.c).length:Int)),(9,D.int .i64 dP)],[]⟩
theorem CC(hΓ:Γ.nt=21){aC:Bytes}{aZ:aM}{r:Bytes}{k1:Option Bytes}(dY:k1=some r->Ax Γ N f231 (.q [[none]] (D.str r)) [1,1] ⟨[(0,D.str aC)],[]⟩)(hm1:aZ.length<=maxLen):∀(rest:aM) (i1:Nat),aZ.drop i1=rest->iA aC aZ k1 rest i1=some r->Ar Γ N f231 (.q [[none]] (D.str r)) [1,0,1,0] (rest.length+1) (DD aC aZ (i1:Int)):=by
 intro rest
 induction rest with
 |nil=>
  intro i1 b9 h;rw[iA]at h;refine aV fun N1 cj cL=>?_
  exact((aX.ge aQ.c b9).a [.hl 0 [0] []]).ex hΓ cj (dY h)
 |cons bS cZ ih1=>
  intro i1 b9 h;rw[iA]at h;refine aV fun N1 cj cL=>?_
  have gG:=((aX.lt aQ.c b9).l (bJ aQ.c 2 (dc b9) rfl))
  obtain⟨h13,h⟩|⟨h13,h⟩:=aO h
  ·cases h;exact(gG.b h13).ret hΓ
  ·exact((gG.b h13).a [.cn [0,7,8,9] []]).ct hΓ cL (iS b9 hm1) (ih1 (i1+1) (dn b9) h)
theorem rD{aC:Bytes}{aZ:aM}{r:Bytes}(h:iM aC aZ=some r):Good prog 231 [D.str aC,D.sl (aZ.map aQ.c)] (D.str r):=by
 refine gd func231 [[none]] 21 fun hr Γ hΓ=>?_
 rw[iM]at h;refine(aX.a [.cn [0,7,8,9] []]).lp hΓ (CC hΓ (fun h=>?_) (by have:=(iE.sl (hr _ (aD (i:=1) rfl))).1;simpa using this) aZ 0 rfl h);have h:=aK h;subst h;exact aX.ret hΓ
def kF(aC:aN)(aZ:aM)(y1:Bytes)(y3:Bytes)(k1:aG->Option aN):aG->Nat->aG->Option aN
 | [],i1,lQ=>(k1 lQ)
 |bS::cZ,i1,lQ=>((iM bS aZ).bind fun FI=>(bif room ((lQ.map tx).length+([[D.str FI]]).length) 16 then(kF aC aZ y1 y3 k1 cZ (i1+1) (lQ++([FI])))else none))
def l7(aC:aN)(aZ:aM):Option aN:=((iM aC.left aZ).bind fun y1=>((iM aC.right aZ).bind fun y3=>(kF aC aZ y1 y3 (fun(oL:aG)=>(some (⟨aC.kind,(⟨aC.pat.rel,oL⟩:aE),y1,y3⟩:aN))) aC.pat.args 0 ([]:aG))))
def xQ(aC:aN)(aZ:aM)(y1:Bytes)(y3:Bytes)(W0:List aL)(dP:Int):St:=⟨[(1,D.sl (aZ.map aQ.c)),(4,D.ptr 0 0),(5,D.ptr 1 0),(26,D.sl (aC.pat.args.map tx)),(27,D.int .i64 ((aC.pat.args.map tx).length:Int)),(28,D.int .i64 dP)],[Ob.box [D.int .i64 0,D.str ([]),D.nil,D.str ([]),D.str ([])],Ob.box [D.int .i64 aC.kind,D.str aC.pat.rel,D.acc 2,D.str y1,D.str y3],Ob.row .uq 9 1 W0]⟩
theorem D4(hΓ:Γ.nt=44){aC:aN}{aZ:aM}{y1:Bytes}{y3:Bytes}{r:aN}{k1:aG->Option aN}(dY:∀(oL:aG),k1 oL=some r->Ax Γ N f216 (.q [[none,none,some (9,1),none,none]] (D.agg [D.int .i64 r.kind,D.str r.pat.rel,D.fr 9 1 (r.pat.args.map tx),D.str r.left,D.str r.right])) [1,1,1,1] ⟨[(4,D.ptr 0 0),(5,D.ptr 1 0)],[Ob.box [D.int .i64 0,D.str ([]),D.nil,D.str ([]),D.str ([])],Ob.box [D.int .i64 aC.kind,D.str aC.pat.rel,D.acc 2,D.str y1,D.str y3],Ob.row .uq 9 1 (oL.map tx)]⟩)(hm1:aC.pat.args.length<=maxLen):∀(rest:aG) (i1:Nat) (lQ:aG),aC.pat.args.drop i1=rest->kF aC aZ y1 y3 k1 rest i1 lQ=some r->Ar Γ N f216 (.q [[none,none,some (9,1),none,none]] (D.agg [D.int .i64 r.kind,D.str r.pat.rel,D.fr 9 1 (r.pat.args.map tx),D.str r.left,D.str r.right])) [1,1,1,0,1,0] (rest.length+1) (xQ aC aZ y1 y3 (lQ.map tx) (i1:Int)):=by
 intro rest
 induction rest with
 |nil=>
  intro i1 lQ b9 h;rw[kF]at h;refine aV fun N1 cj cL=>?_
  exact((aX.ge tx b9).a [.hl 0 [4,5] [0,1,2]]).ex hΓ cj (dY lQ h)
 |cons bS cZ ih1=>
  intro i1 lQ b9 h;rw[kF]at h;refine aV fun N1 cj cL=>?_
  obtain⟨FI,h32,h⟩:=aB h;obtain⟨h33,h⟩:=bU h;exact((((((aX.lt tx b9).l (bJ tx 1 (dc b9) rfl)).a [.n 7]).g (rD h32)).w (bp h33)).a [.cn [1,4,5,26,27,28] [0,1,4]]).cs hΓ cL (xQ aC aZ y1 y3 ((lQ.map tx)++([[D.str FI]])) (IntKind.i64.wrap ((i1:Int)+1))) (by first| (simp only[iS b9 hm1,mA]<;>rfl)| (simp only[iS b9 hm1,mA,aE.c,aQ.c,aN.c,Action.c,aI.c,aY.c,ax.c,af.c,Node.c,aJ.c,dX.c]<;>rfl)) (ih1 (i1+1) (lQ++([FI])) (dn b9) h)
theorem oH{aC:aN}{aZ:aM}{r:aN}(h:l7 aC aZ=some r):Good prog 216 [D.agg (aN.c aC),D.sl (aZ.map aQ.c)] (D.agg [D.int .i64 r.kind,D.str r.pat.rel,D.fr 9 1 (r.pat.args.map tx),D.str r.left,D.str r.right]):=by
 refine gd func216 [[none,none,some (9,1),none,none]] 44 fun hr Γ hΓ=>?_
 rw[l7]at h;obtain⟨y1,h2,h⟩:=aB h;obtain⟨y3,h4,h⟩:=aB h;refine((((aX.a [.n 12]).g (rD h2)).g (rD h4)).a [.pb 2 2 9 1,.cn [1,4,5,26,27,28] [1,2,3]]).lp hΓ (D4 hΓ (fun oL h=>?_) (by have:=(iE.sl (iE.agg (hr _ (aD (i:=0) rfl)) (.sl (aC.pat.args.map tx)) (by simp))).1;simpa using this) aC.pat.args 0 ([]:aG) rfl h);cases h;exact aX.ret hΓ
def kE(aC:aI)(y1:aM)(k1:ah->Option ah):ah->Nat->ah->Option ah
 | [],i1,bQ=>(k1 bQ)
 |bS::cZ,i1,bQ=>((l7 bS y1).bind fun F3=>(bif room ((bQ.map aN.c).length+([[D.int .i64 F3.kind,D.str F3.pat.rel,D.sl (F3.pat.args.map tx),D.str F3.left,D.str F3.right]]).length) 80 then(kE aC y1 k1 cZ (i1+1) (bQ++([F3])))else none))
def pu(aC:aI):Option ah:=((nc aC).bind fun y1=>(kE aC y1 (fun(cC:ah)=>(some cC)) aC.conds 0 ([]:ah)))
def xO(aC:aI)(y1:aM)(W0:List aL)(dP:Int):St:=⟨[(3,D.acc 0),(4,D.acc 1),(10,D.sl (aC.conds.map aN.c)),(11,D.int .i64 ((aC.conds.map aN.c).length:Int)),(12,D.int .i64 dP)],[Ob.row .uq 113 2 (y1.map aQ.c),Ob.row .uq 71 5 W0]⟩
theorem D2(hΓ:Γ.nt=24){aC:aI}{y1:aM}{r:ah}{k1:ah->Option ah}(dY:∀(cC:ah),k1 cC=some r->Ax Γ N f176 (.q [[some (71,5)]] (D.fr 71 5 (r.map aN.c))) [1,1,1,1] ⟨[(4,D.acc 0)],[Ob.row .uq 71 5 (cC.map aN.c)]⟩)(hm1:aC.conds.length<=maxLen):∀(rest:ah) (i1:Nat) (bQ:ah),aC.conds.drop i1=rest->kE aC y1 k1 rest i1 bQ=some r->Ar Γ N f176 (.q [[some (71,5)]] (D.fr 71 5 (r.map aN.c))) [1,1,1,0,1,0] (rest.length+1) (xO aC y1 (bQ.map aN.c) (i1:Int)):=by
 intro rest
 induction rest with
 |nil=>
  intro i1 bQ b9 h;rw[kE]at h;refine aV fun N1 cj cL=>?_
  exact((aX.ge aN.c b9).a [.hl 0 [4] [1]]).ex hΓ cj (dY bQ h)
 |cons bS cZ ih1=>
  intro i1 bQ b9 h;rw[kE]at h;refine aV fun N1 cj cL=>?_
  obtain⟨F3,h30,h⟩:=aB h;obtain⟨h31,h⟩:=bU h;exact(((((aX.lt aN.c b9).l (bJ aN.c 5 (dc b9) rfl)).g (oH h30)).w (bp h31)).a [.cn [3,4,10,11,12] [0,5]]).cs hΓ cL (xO aC y1 ((bQ.map aN.c)++([[D.int .i64 F3.kind,D.str F3.pat.rel,D.sl (F3.pat.args.map tx),D.str F3.left,D.str F3.right]])) (IntKind.i64.wrap ((i1:Int)+1))) (by first| (simp only[iS b9 hm1,mA]<;>rfl)| (simp only[iS b9 hm1,mA,aE.c,aQ.c,aN.c,Action.c,aI.c,aY.c,ax.c,af.c,Node.c,aJ.c,dX.c]<;>rfl)) (ih1 (i1+1) (bQ++([F3])) (dn b9) h)
theorem C3{aC:aI}{r:ah}(h:pu aC=some r):Good prog 176 [D.agg (aI.c aC)] (D.fr 71 5 (r.map aN.c)):=by
 refine gd func176 [[some (71,5)]] 24 fun hr Γ hΓ=>?_
 rw[pu]at h;obtain⟨y1,h2,h⟩:=aB h;refine((aX.g (vp h2)).a [.KW 4,.cn [3,4,10,11,12] [1,2]]).lp hΓ (D2 hΓ (fun cC h=>?_) (by have:=(iE.sl (iE.agg (hr _ (aD (i:=0) rfl)) (.sl (aC.conds.map aN.c)) (by simp))).1;simpa using this) aC.conds 0 ([]:ah) rfl h);have h:=aK h;subst h;exact aX.ret hΓ
def ld(aC:aG)(aZ:aG)(k1:Option Bool):aG->Nat->Option Bool
 | [],i1=>(k1)
 |bS::cZ,i1=>((iw aZ (i1:Int)).bind fun x22=>(bif !((bS:Bytes)==x22)then(some false)else(ld aC aZ k1 cZ (i1+1))))
def oa(aC:aG)(aZ:aG):Option Bool:=(bif (((aC.map tx).length:Int):Int) != ((aZ.map tx).length:Int)then(some false)else(ld aC aZ (some true) aC 0))
def Fc(aC:aG)(aZ:aG)(dP:Int):St:=⟨[(0,D.sl (aC.map tx)),(1,D.sl (aZ.map tx)),(12,D.int .i64 ((aC.map tx).length:Int)),(13,D.int .i64 dP)],[]⟩
theorem E6(hΓ:Γ.nt=26){aC:aG}{aZ:aG}{r:Bool}{k1:Option Bool}(dY:k1=some r->Ax Γ N f110 (.q [[none]] (D.bool r)) [1,1,1] ⟨[],[]⟩)(hm1:aC.length<=maxLen):∀(rest:aG) (i1:Nat),aC.drop i1=rest->ld aC aZ k1 rest i1=some r->Ar Γ N f110 (.q [[none]] (D.bool r)) [1,1,0,1,0] (rest.length+1) (Fc aC aZ (i1:Int)):=by
 intro rest
 induction rest with
 |nil=>
  intro i1 b9 h;rw[ld]at h;refine aV fun N1 cj cL=>?_
  exact((aX.ge tx b9).a [.hl 0 [] []]).ex hΓ cj (dY h)
 |cons bS cZ ih1=>
  intro i1 b9 h;rw[ld]at h;refine aV fun N1 cj cL=>?_
  obtain⟨x22,h23,h⟩:=aB h;have gG:=((((aX.lt tx b9).a [.n 8]).l (bJ tx 1 (dc b9) rfl)).l (er tx 1 h23 rfl))
  obtain⟨h24,h⟩|⟨h24,h⟩:=aO h
  ·have h:=aK h;subst h;exact(gG.b h24).ret hΓ
  ·exact((gG.b h24).a [.cn [0,1,12,13] []]).ct hΓ cL (iS b9 hm1) (ih1 (i1+1) (dn b9) h)
theorem wY{aC:aG}{aZ:aG}{r:Bool}(h:oa aC aZ=some r):Good prog 110 [D.sl (aC.map tx),D.sl (aZ.map tx)] (D.bool r):=by
 refine gd func110 [[none]] 26 fun hr Γ hΓ=>?_
 rw[oa]at h;obtain⟨h1,h⟩|⟨h1,h⟩:=aO h
 ·have h:=aK h;subst h;exact(aX.b h1).ret hΓ
 ·refine((aX.b h1).a [.cn [0,1,12,13] []]).lp hΓ (E6 hΓ (fun h=>?_) (by have:=(iE.sl (hr _ (aD (i:=0) rfl))).1;simpa using this) aC 0 rfl h);have h:=aK h;subst h;exact aX.ret hΓ
def fN(aC:aE)(aZ:aE):Option Bool:=(bif (aC.rel:Bytes)==aZ.rel then((oa aC.args aZ.args).bind fun y2=>(some y2))else(some false))
theorem ng{aC:aE}{aZ:aE}{r:Bool}(h:fN aC aZ=some r):Good prog 57 [D.agg (aE.c aC),D.agg (aE.c aZ)] (D.bool r):=by
 refine gd func57 [[none]] 17 fun hr Γ hΓ=>?_
 rw[fN]at h;obtain⟨h1,h⟩|⟨h1,h⟩:=aO h
 ·obtain⟨y2,h3,h⟩:=aB h;have h:=aK h;subst h;exact(((aX.r 5 h1).g (wY h3)).b h1).ret hΓ
 ·have h:=aK h;subst h;exact(aX.r 6 h1).ret hΓ
def jg(aC:aN)(aZ:aN):Option Bool:=(bif (aC.kind:Int)==aZ.kind then(bif (aC.left:Bytes)==aZ.left then(bif (aC.right:Bytes)==aZ.right then((fN aC.pat aZ.pat).bind fun y4=>(some y4))else(some false))else(some false))else(some false))
theorem tO{aC:aN}{aZ:aN}{r:Bool}(h:jg aC aZ=some r):Good prog 58 [D.agg (aN.c aC),D.agg (aN.c aZ)] (D.bool r):=by
 refine gd func58 [[none]] 31 fun hr Γ hΓ=>?_
 rw[jg]at h;obtain⟨h1,h⟩|⟨h1,h⟩:=aO h
 ·have nB:=(aX.r 6 h1)
  obtain⟨h2,h⟩|⟨h2,h⟩:=aO h
  ·have gG:=(nB.r 6 h2)
   obtain⟨h3,h⟩|⟨h3,h⟩:=aO h
   ·obtain⟨y4,h5,h⟩:=aB h;have h:=aK h;subst h;exact(((gG.r 5 h3).g (ng h5)).b h3).ret hΓ
   ·have h:=aK h;subst h;exact(gG.r 6 h3).ret hΓ
  ·have h:=aK h;subst h;exact((nB.r 6 h2).F 6).ret hΓ
 ·have h:=aK h;subst h;exact((aX.r 6 h1).F 12).ret hΓ
def qz(aC:aE):Option aE:=((nh aC.args).bind fun y1=>((l7 (⟨0,aC,[],[]⟩:aN) y1).bind fun y3=>(some y3.pat)))
theorem yS{aC:aE}{r:aE}(h:qz aC=some r):Good prog 218 [D.agg (aE.c aC)] (D.agg [D.str r.rel,D.fr 9 1 (r.args.map tx)]):=by
 refine gd func218 [[none,some (9,1)]] 10 fun hr Γ hΓ=>?_
 rw[qz]at h;obtain⟨y1,h2,h⟩:=aB h;obtain⟨y3,h4,h⟩:=aB h;cases h;exact((((aX.a [.n 5]).g (vr h2)).a [.d (D.agg [D.int .i64 y3.kind,D.str y3.pat.rel,D.fr 9 1 (y3.pat.args.map tx),D.str y3.left,D.str y3.right])]).w (show Good prog 216 [D.agg [D.int .i64 0,D.str aC.rel,D.sl (aC.args.map tx),D.str ([]),D.str ([])],D.sl (y1.map aQ.c)] (D.agg [D.int .i64 y3.kind,D.str y3.pat.rel,D.fr 9 1 (y3.pat.args.map tx),D.str y3.left,D.str y3.right])from by first| (simpa only[bI,ay,bt,br,cB]using oH h4)|exact oH h4| (have t:=oH h4;simp only[bI,br,cB,aN.c]at t;exact t))).ret hΓ
end Go.Cx

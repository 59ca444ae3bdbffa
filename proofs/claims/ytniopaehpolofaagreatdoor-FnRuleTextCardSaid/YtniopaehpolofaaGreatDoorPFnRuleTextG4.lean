/- What functions of the program compute, and the walks that show it. No condition. -/
import Derived.Test.YtniopaehpolofaaGreatDoorPFnRuleTextG3
import Derived.Sort.Walk0
set_option linter.unusedVariables false
set_option linter.unusedSimpArgs false
namespace Go.Cx
open Go.RowKit Go.Proofs Tryz
set_option maxRecDepth 100000
variable{Γ:lY}{N:Nat->St->Prop}
def iY(aI:bz)(k1:Int->Option cB):bz->Nat->Int->Option cB
 | [],i1,ga=>(k1 ga)
 |eP::js,i1,ga=>(bif decide (((i1:Int):Int)<4000)then(iY aI k1 js (i1+1) (vv .i64 (IntKind.i64.wrap ((IntKind.i64.wrap ((IntKind.i64.wrap (ga*167))+(IntKind.i64.wrap eP)))+29)) 1073741823))else(k1 ga))
def nD(aI:bz):Option cB:=(bif decide (aI.length<=maxLen)then(iY aI (fun(Jx:Int)=>(some (⟨aI,0,Jx⟩:cB))) aI 0 (IntKind.i64.wrap (851207+(IntKind.i64.wrap (3*((aI.map yx).length:Int))))))else none)
def zU(aI:bz)(ga:Int)(kY:Int):St:=⟨[(0,D.sl (aI.map yx)),(3,D.int .i64 ga),(4,D.int .i64 kY)],[]⟩
theorem ya(hΓ:Γ.nt=33){aI:bz}{r:cB}{k1:Int->Option cB}(mR:∀(Jx:Int),k1 Jx=some r->Ax Γ N f16 (.n (cB.c r)) [1,1,1] ⟨[(0,D.sl (aI.map yx)),(3,D.int .i64 Jx)],[]⟩)(hm1:aI.length<=maxLen):∀(rest:bz) (i1:Nat) (ga:Int),aI.drop i1=rest->iY aI k1 rest i1 ga=some r->Ar Γ N f16 (.n (cB.c r)) [1,1,0,1,0] (rest.length+1) (zU aI ga (i1:Int)):=by
 intro rest
 induction rest with
 |nil=>
  intro i1 ga cE h;rw[iY]at h;refine aj fun N1 hN1 iJ=>?_
  exact(((((ah.ge yx cE).ge yx cE).ge yx cE).F 1).a [.hl 0 [0,3] []]).ex hΓ hN1 (mR ga h)
 |cons eP js ih1=>
  intro i1 ga cE h;rw[iY]at h;refine aj fun N1 hN1 iJ=>?_
  have kQ:=(((ah.lt yx cE).lt yx cE).lt yx cE)
  obtain⟨h13,h⟩|⟨h13,h⟩:=aL h
  ·exact(((kQ.b h13).l (cz yx 1 (dc cE) rfl)).a [.cn [0,3,4] []]).ct hΓ iJ (iS cE hm1) (ih1 (i1+1) (vv .i64 (IntKind.i64.wrap ((IntKind.i64.wrap ((IntKind.i64.wrap (ga*167))+(IntKind.i64.wrap eP)))+29)) 1073741823) (dn cE) h)
  ·exact((kQ.b h13).a [.hl 0 [0,3] []]).ex hΓ hN1 (mR ga h)
theorem xJ{aI:bz}{r:cB}(h:nD aI=some r):wo prog 16 [D.sl (aI.map yx)] (cB.c r):=by
 refine UE func16 33 fun hr Γ hΓ=>?_
 rw[nD]at h;obtain⟨h14,h⟩:=bp h;refine(ah.a [.cn [0,3,4] []]).lp hΓ (ya hΓ (fun Jx h=>?_) (av h14) aI 0 (IntKind.i64.wrap (851207+(IntKind.i64.wrap (3*((aI.map yx).length:Int))))) rfl h);cases h;exact ah.ret hΓ
def j4(aI:cB):Option (cB×Int):=(bif decide ((aI.i:Int)<((aI.b.map yx).length:Int))then((k8 aI.b aI.i).bind fun x2=>(some ((⟨aI.b,IntKind.i64.wrap (aI.i+1),IntKind.i64.wrap ((IntKind.i64.wrap (aI.h*6364136223846793005))+1442695040888963407)⟩:cB),vv .i64 (IntKind.i64.wrap ((vv .i64 (FT .i64 (E6 .i64 (IntKind.i64.wrap ((IntKind.i64.wrap (aI.h*6364136223846793005))+1442695040888963407)) 35) (E6 .i64 (IntKind.i64.wrap ((IntKind.i64.wrap (aI.h*6364136223846793005))+1442695040888963407)) 45)) 255)+(IntKind.i64.wrap x2))) 255)))else(some ((⟨aI.b,aI.i,IntKind.i64.wrap ((IntKind.i64.wrap (aI.h*6364136223846793005))+1442695040888963407)⟩:cB),vv .i64 (FT .i64 (E6 .i64 (IntKind.i64.wrap ((IntKind.i64.wrap (aI.h*6364136223846793005))+1442695040888963407)) 35) (E6 .i64 (IntKind.i64.wrap ((IntKind.i64.wrap (aI.h*6364136223846793005))+1442695040888963407)) 45)) 255)))
theorem kI{aI:cB}{r:cB×Int}(h:j4 aI=some r):jB prog 90 (cB.c aI) (cB.c r.1) [] (D.int .i64 r.2):=by
 refine Cs func90 [[none,none,none],[none]] 58 [D.sl (aI.b.map yx),D.int .i64 aI.i,D.int .i64 aI.h] [] [] fun hr ot Γ hΓ=>?_
 rw[j4]at h;obtain⟨h1,h⟩|⟨h1,h⟩:=aL h
 ·obtain⟨x2,h3,h⟩:=aE h;cases h;exact((((ah.a [.n 10,.n 9]).b h1).a [.n 12]).l (tq yx 1 h3 rfl)).ret hΓ
 ·cases h;exact((ah.a [.n 10,.n 9]).b h1).ret hΓ
def cD(aI:cB)(bY:Int):Option (cB×Int):=(bif decide ((bY:Int)<=0)then(some (aI,0))else(bif decide ((bY:Int)<=256)then((j4 aI).bind fun y3=>(bif decide (0<=(y3.2:Int))&&decide (0<(bY:Int))then(some (y3.1,(y3.2:Int)%bY))else none))else((j4 aI).bind fun y6=>((j4 y6.1).bind fun y8=>((j4 y8.1).bind fun yt=>(bif decide (0<=(IntKind.i64.wrap ((IntKind.i64.wrap ((IntKind.i64.wrap (y6.2*65536))+(IntKind.i64.wrap (y8.2*256))))+yt.2):Int))&&decide (0<(bY:Int))then(some (yt.1,(IntKind.i64.wrap ((IntKind.i64.wrap ((IntKind.i64.wrap (y6.2*65536))+(IntKind.i64.wrap (y8.2*256))))+yt.2):Int)%bY))else none))))))
theorem cA{aI:cB}{bY:Int}{r:cB×Int}(h:cD aI bY=some r):jB prog 50 (cB.c aI) (cB.c r.1) [D.int .i64 bY] (D.int .i64 r.2):=by
 refine Cs func50 [[none,none,none],[none]] 31 [D.sl (aI.b.map yx),D.int .i64 aI.i,D.int .i64 aI.h] [D.int .i64 bY] [] fun hr ot Γ hΓ=>?_
 rw[cD]at h;obtain⟨h1,h⟩|⟨h1,h⟩:=aL h
 ·cases h;exact(ah.b h1).ret hΓ
 ·obtain⟨h2,h⟩|⟨h2,h⟩:=aL h
  ·obtain⟨y3,h4,h⟩:=aE h;obtain⟨h5,h⟩:=bp h;cases h;exact((((ah.b h1).b h2).hp [[none,none,none]] (kI h4)).w (Cb .i64 h5)).ret hΓ
  ·obtain⟨y6,h7,h⟩:=aE h;obtain⟨y8,h9,h⟩:=aE h;obtain⟨yt,h11,h⟩:=aE h;obtain⟨h12,h⟩:=bp h;cases h;exact((((((ah.b h1).b h2).hp [[none,none,none]] (kI h7)).hp [[none,none,none]] (kI h9)).hp [[none,none,none]] (kI h11)).w (Cb .i64 h12)).ret hΓ
def jh(aI:cB)(bY:Int):Option (cB×Bool):=((cD aI bY).bind fun y1=>(some (y1.1,(y1.2:Int)==0)))
theorem jG{aI:cB}{bY:Int}{r:cB×Bool}(h:jh aI bY=some r):jB prog 87 (cB.c aI) (cB.c r.1) [D.int .i64 bY] (D.bool r.2):=by
 refine Cs func87 [[none,none,none],[none]] 9 [D.sl (aI.b.map yx),D.int .i64 aI.i,D.int .i64 aI.h] [D.int .i64 bY] [] fun hr ot Γ hΓ=>?_
 rw[jh]at h;obtain⟨y1,h2,h⟩:=aE h;cases h;exact(ah.hp [[none,none,none],[none]] (cA h2)).ret hΓ
def nE(aI:cB):Option (cB×(Bytes×Int)):=((cD aI 6).bind fun y1=>((k8 ([[111,110],[111,110],[97,116],[112],[113],[122]]:aC) y1.2).bind fun x3=>((k8 ([2,2,2,1,1,0]:bz) y1.2).bind fun x5=>(some (y1.1,(x3,x5))))))
theorem xK{aI:cB}{r:cB×(Bytes×Int)}(h:nE aI=some r):jB prog 119 (cB.c aI) (cB.c r.1) [] (D.fy [D.str r.2.1,D.int .i64 r.2.2]):=by
 refine Cs func119 [[none,none,none],[none],[none]] 15 [D.sl (aI.b.map yx),D.int .i64 aI.i,D.int .i64 aI.h] [] [] fun hr ot Γ hΓ=>?_
 rw[nE]at h;obtain⟨y1,h2,h⟩:=aE h;obtain⟨x3,h4,h⟩:=aE h;obtain⟨x5,h6,h⟩:=aE h;cases h;exact(((((ah.hp [[none,none,none],[none]] (cA h2)).a [.n 9,.vw 0]).l (tq tx 1 h4 rfl)).a [.vw 0]).l (tq MB 1 h6 rfl)).ret hΓ
def gO(aI:cB)(bY:aC):Option (cB×Bytes):=((cD aI ((bY.map tx).length:Int)).bind fun y1=>((k8 bY y1.2).bind fun x3=>(some (y1.1,x3))))
theorem jZ{aI:cB}{bY:aC}{r:cB×Bytes}(h:gO aI bY=some r):jB prog 55 (cB.c aI) (cB.c r.1) [D.fr 9 1 (bY.map tx)] (D.str r.2):=by
 refine Cs func55 [[none,none,none],[none]] 12 [D.sl (aI.b.map yx),D.int .i64 aI.i,D.int .i64 aI.h] [D.acc 1] [Ob.row .uq 9 1 (bY.map tx)] fun hr ot Γ hΓ=>?_
 rw[gO]at h;obtain⟨y1,h2,h⟩:=aE h;obtain⟨x3,h4,h⟩:=aE h;cases h;exact(((ah.hp [[none,none,none],[none]] (cA h2)).i (gZ tx 1 h4)).o 1 1 .uq (cK tx (eO h4))).ret hΓ
def iH(aI:cB):Option (cB×Bytes):=((gO aI ([[97],[98],[99],[49],[50]]:aC)).bind fun y1=>(some (y1.1,y1.2)))
theorem pz{aI:cB}{r:cB×Bytes}(h:iH aI=some r):jB prog 116 (cB.c aI) (cB.c r.1) [] (D.str r.2):=by
 refine Cs func116 [[none,none,none],[none]] 6 [D.sl (aI.b.map yx),D.int .i64 aI.i,D.int .i64 aI.h] [] [] fun hr ot Γ hΓ=>?_
 rw[iH]at h;obtain⟨y1,h2,h⟩:=aE h;cases h;exact(ah.hp [[none,none,none],[some (9,1)]] (jZ h2)).ret hΓ
def gC(aI:cB):Option (cB×Bytes):=((jh aI 4).bind fun y1=>(bif y1.2 then((iH y1.1).bind fun y4=>(some (y4.1,y4.2)))else((gO y1.1 ([[63,120],[63,121],[63,122]]:aC)).bind fun y6=>(some (y6.1,y6.2)))))
theorem mV{aI:cB}{r:cB×Bytes}(h:gC aI=some r):jB prog 117 (cB.c aI) (cB.c r.1) [] (D.str r.2):=by
 refine Cs func117 [[none,none,none],[none]] 10 [D.sl (aI.b.map yx),D.int .i64 aI.i,D.int .i64 aI.h] [] [] fun hr ot Γ hΓ=>?_
 rw[gC]at h;obtain⟨y1,h2,h⟩:=aE h;obtain⟨h3,h⟩|⟨h3,h⟩:=aL h
 ·obtain⟨y4,h5,h⟩:=aE h;cases h;exact(((ah.hp [[none,none,none],[none]] (jG h2)).b h3).hp [[none,none,none]] (pz h5)).ret hΓ
 ·obtain⟨y6,h7,h⟩:=aE h;cases h;exact(((ah.hp [[none,none,none],[none]] (jG h2)).b h3).hp [[none,none,none],[some (9,1)]] (jZ h7)).ret hΓ
def fw(y1:cB×(Bytes×Int))(k1:bz->Int->Int->aC->Option (cB×bE)):Nat->Int->bz->Int->Int->aC->Option (cB×bE)
 |0,_,_,_,_,_=>none
 |n1+1,jm,kP,jH,jI,iy=>(bif decide ((jm:Int)<y1.2.2)then((gC (⟨kP,jH,jI⟩:cB)).bind fun vE=>(bif room ((iy.map tx).length+([[D.str vE.2]]).length) 16 then(fw y1 k1 n1 (IntKind.i64.wrap (jm+1)) vE.1.b vE.1.i vE.1.h (iy++([vE.2])))else none))else(k1 kP jH jI iy))
def ec(aI:cB):Option (cB×bE):=((nE aI).bind fun y1=>(fw y1 (fun(oT:bz) (oU:Int) (oV:Int) (lz:aC)=>(some ((⟨oT,oU,oV⟩:cB),(⟨y1.2.1,lz⟩:bE)))) fuel 0 y1.1.b y1.1.i y1.1.h ([]:aC)))
def rR(ot:Value)(y1:cB×(Bytes×Int))(jm:Int)(jH:Int)(jI:Int)(W1:List aG)(W4:List aG):St:=⟨[(0,D.ptr 0 0),(2,D.ptr 1 0),(4,D.int .i64 y1.2.2),(5,D.ptr 2 0),(6,D.int .i64 jm)],[Ob.B1 [D.sl W1,D.int .i64 jH,D.int .i64 jI] ot,Ob.box [D.str ([]),D.nil],Ob.box [D.str y1.2.1,D.acc 3],Ob.row .uq 9 1 W4]⟩
theorem xL(hΓ:Γ.nt=27){ot:Value}{y1:cB×(Bytes×Int)}{r:cB×bE}{k1:bz->Int->Int->aC->Option (cB×bE)}(mR:∀(oT:bz) (oU:Int) (oV:Int) (lz:aC),k1 oT oU oV lz=some r->Ax Γ N f92 (.p [[none,none,none],[none,some (9,1)]] ot (cB.c r.1) (D.agg [D.str r.2.rel,D.fr 9 1 (r.2.args.map tx)])) [1,1,1,1] ⟨[(2,D.ptr 1 0),(5,D.ptr 2 0)],[Ob.B1 [D.sl (oT.map yx),D.int .i64 oU,D.int .i64 oV] ot,Ob.box [D.str ([]),D.nil],Ob.box [D.str y1.2.1,D.acc 3],Ob.row .uq 9 1 (lz.map tx)]⟩):∀(n1:Nat) (jm:Int) (kP:bz) (jH:Int) (jI:Int) (iy:aC),fw y1 k1 n1 jm kP jH jI iy=some r->Ar Γ N f92 (.p [[none,none,none],[none,some (9,1)]] ot (cB.c r.1) (D.agg [D.str r.2.rel,D.fr 9 1 (r.2.args.map tx)])) [1,1,1,0,1,0] n1 (rR ot y1 jm jH jI (kP.map yx) (iy.map tx)):=by
 intro n
 induction n with
 |zero=>intro jm kP jH jI iy h;simp[fw]at h
 |succ n1 ih1=>
  intro jm kP jH jI iy h;rw[fw]at h;refine aj fun N1 hN1 iJ=>?_
  obtain⟨h27,h⟩|⟨h27,h⟩:=aL h
  ·obtain⟨vE,h31,h⟩:=aE h;obtain⟨h32,h⟩:=bp h;exact(((((ah.b h27).a [.n2 [0,1,2,3,4,5,6,7] [0,1,2,3,4,5,6,7] 3 5 [0,1] [0],.gp [[none,none,none]] (cB.c vE.1) (D.str vE.2)]).w (show jB prog 117 (cB.c (⟨kP,jH,jI⟩:cB)) (cB.c vE.1) [] (D.str vE.2)from by simpa only[aa,ax,bI,au,ay]using mV h31)).w (eA h32)).a [.cn [0,2,4,5,6] [0,1,2,5]]).cs hΓ iJ (rR ot y1 (IntKind.i64.wrap (jm+1)) vE.1.i vE.1.h (vE.1.b.map yx) ((iy.map tx)++([[D.str vE.2]]))) (by first| (simp only[mA]<;>rfl)| (simp only[mA,bE.c,nq.c,aU.c,Action.c,aW.c,l8.c,lK.c,l6.c,Node.c,gb.c,mF.c]<;>rfl)) (ih1 (IntKind.i64.wrap (jm+1)) vE.1.b vE.1.i vE.1.h (iy++([vE.2])) h)
  ·exact((ah.b h27).a [.hl 0 [2,5] [0,1,2,3]]).ex hΓ hN1 (mR kP jH jI iy h)
theorem iB{aI:cB}{r:cB×bE}(h:ec aI=some r):jB prog 92 (cB.c aI) (cB.c r.1) [] (D.agg [D.str r.2.rel,D.fr 9 1 (r.2.args.map tx)]):=by
 refine Cs func92 [[none,none,none],[none,some (9,1)]] 27 [D.sl (aI.b.map yx),D.int .i64 aI.i,D.int .i64 aI.h] [] [] fun hr ot Γ hΓ=>?_
 rw[ec]at h;obtain⟨y1,h2,h⟩:=aE h;refine((ah.hp [[none,none,none]] (xK h2)).a [.pb 2 1 9 1,.cn [0,2,4,5,6] [0,1,2,3]]).lp hΓ (xL hΓ (fun oT oU oV lz h=>?_) fuel 0 y1.1.b y1.1.i y1.1.h ([]:aC) h);cases h;exact ah.ret hΓ
def gL(aI:cB)(bY:bz):Option (cB×Int):=((cD aI ((bY.map MB).length:Int)).bind fun y1=>((k8 bY y1.2).bind fun x3=>(some (y1.1,x3))))
theorem iT{aI:cB}{bY:bz}{r:cB×Int}(h:gL aI bY=some r):jB prog 52 (cB.c aI) (cB.c r.1) [D.fr 3 1 (bY.map MB)] (D.int .i64 r.2):=by
 refine Cs func52 [[none,none,none],[none]] 12 [D.sl (aI.b.map yx),D.int .i64 aI.i,D.int .i64 aI.h] [D.acc 1] [Ob.row .uq 3 1 (bY.map MB)] fun hr ot Γ hΓ=>?_
 rw[gL]at h;obtain⟨y1,h2,h⟩:=aE h;obtain⟨x3,h4,h⟩:=aE h;cases h;exact(((ah.hp [[none,none,none],[none]] (cA h2)).i (gZ MB 1 h4)).o 1 1 .uq (cK MB (eO h4))).ret hΓ
def ko(aI:cB)(bY:Bytes)(lD:Bytes):Option (cB×aU):=((gL aI ([3,4,4,5]:bz)).bind fun y1=>(some (y1.1,(⟨y1.2,(⟨[],[]⟩:bE),bY,lD⟩:aU))))
theorem wP{aI:cB}{bY:Bytes}{lD:Bytes}{r:cB×aU}(h:ko aI bY lD=some r):jB prog 118 (cB.c aI) (cB.c r.1) [D.str bY,D.str lD] (D.agg [D.int .i64 r.2.kind,D.str r.2.pat.rel,D.fr 9 1 (r.2.pat.args.map tx),D.str r.2.left,D.str r.2.right]):=by
 refine Cs func118 [[none,none,none],[none,none,some (9,1),none,none]] 13 [D.sl (aI.b.map yx),D.int .i64 aI.i,D.int .i64 aI.h] [D.str bY,D.str lD] [] fun hr ot Γ hΓ=>?_
 rw[ko]at h;obtain⟨y1,h2,h⟩:=aE h;cases h;exact(ah.hp [[none,none,none],[some (3,1)]] (iT h2)).ret hΓ
def iI(aI:cB):Option (cB×aU):=((cD aI 5).bind fun y1=>(bif (y1.2:Int)==0 then((ec y1.1).bind fun y4=>(some (y4.1,(⟨1,y4.2,[],[]⟩:aU))))else(bif (y1.2:Int)==1 then((ec y1.1).bind fun y7=>(some (y7.1,(⟨1,y7.2,[],[]⟩:aU))))else(bif (y1.2:Int)==2 then((ec y1.1).bind fun yt=>(some (yt.1,(⟨2,yt.2,[],[]⟩:aU))))else((gC y1.1).bind fun H9=>((gC H9.1).bind fun zz=>((ko zz.1 H9.2 zz.2).bind fun Cv=>(some (Cv.1,Cv.2)))))))))
theorem qB{aI:cB}{r:cB×aU}(h:iI aI=some r):jB prog 91 (cB.c aI) (cB.c r.1) [] (D.agg [D.int .i64 r.2.kind,D.str r.2.pat.rel,D.fr 9 1 (r.2.pat.args.map tx),D.str r.2.left,D.str r.2.right]):=by
 refine Cs func91 [[none,none,none],[none,none,some (9,1),none,none]] 24 [D.sl (aI.b.map yx),D.int .i64 aI.i,D.int .i64 aI.h] [] [] fun hr ot Γ hΓ=>?_
 rw[iI]at h;obtain⟨y1,h2,h⟩:=aE h;obtain⟨h3,h⟩|⟨h3,h⟩:=aL h
 ·obtain⟨y4,h5,h⟩:=aE h;cases h;exact(((ah.hp [[none,none,none],[none]] (cA h2)).r 2 h3).hp [[none,none,none]] (iB h5)).ret hΓ
 ·have kQ:=((ah.hp [[none,none,none],[none]] (cA h2)).b h3)
  obtain⟨h6,h⟩|⟨h6,h⟩:=aL h
  ·obtain⟨y7,h8,h⟩:=aE h;cases h;exact((kQ.b h6).hp [[none,none,none]] (iB h8)).ret hΓ
  ·obtain⟨h9,h⟩|⟨h9,h⟩:=aL h
   ·obtain⟨yt,h11,h⟩:=aE h;cases h;exact(((kQ.b h6).b h9).hp [[none,none,none]] (iB h11)).ret hΓ
   ·obtain⟨H9,h13,h⟩:=aE h;obtain⟨zz,h15,h⟩:=aE h;obtain⟨Cv,h17,h⟩:=aE h;cases h;exact(((((kQ.b h6).b h9).hp [[none,none,none]] (mV h13)).hp [[none,none,none]] (mV h15)).hp [[none,none,none],[none],[none]] (wP h17)).ret hΓ
def gY(aI:Int)(bY:Int)(lD:Int):Option Bool:=(bif decide ((aI:Int)>=bY)then(some (decide ((aI:Int)<=lD)))else(some false))
theorem ez{aI:Int}{bY:Int}{lD:Int}{r:Bool}(h:gY aI bY lD=some r):Good prog 28 [D.int .i64 aI,D.int .i64 bY,D.int .i64 lD] (D.bool r):=by
 refine gd func28 [[none]] 15 fun hr Γ hΓ=>?_
 rw[gY]at h;obtain⟨h1,h⟩|⟨h1,h⟩:=aL h
 ·cases h;exact(ah.r 4 h1).ret hΓ
 ·have h:=aT h;subst h;exact(ah.r 4 h1).ret hΓ
def er(aI:Bytes)(k1:Option Bool):Nat->Int->Option Bool
 |0,_=>none
 |n1+1,ga=>(bif decide ((ga:Int)<(aI.length:Int))then((k8 aI ga).bind fun RH=>((gY (IntKind.i64.wrap RH.toNat) 97 122).bind fun Cq=>(bif !(Cq)then((gY (IntKind.i64.wrap RH.toNat) 48 57).bind fun Ms=>(bif !(Ms)then(some false)else(er aI k1 n1 (IntKind.i64.wrap (ga+1)))))else(er aI k1 n1 (IntKind.i64.wrap (ga+1))))))else(k1))
def jf(aI:Bytes):Option Bool:=(er aI ((gY (aI.length:Int) 1 8).bind fun K8=>(some K8)) fuel 0)
def yS(aI:Bytes)(ga:Int):St:=⟨[(0,D.str aI),(3,D.int .i64 ga)],[]⟩
theorem xC(hΓ:Γ.nt=27){aI:Bytes}{r:Bool}{k1:Option Bool}(mR:k1=some r->Ax Γ N f73 (.q [[none]] (D.bool r)) [1,1] ⟨[(0,D.str aI)],[]⟩):∀(n1:Nat) (ga:Int),er aI k1 n1 ga=some r->Ar Γ N f73 (.q [[none]] (D.bool r)) [1,0,1,0] n1 (yS aI ga):=by
 intro n
 induction n with
 |zero=>intro ga h;simp[er]at h
 |succ n1 ih1=>
  intro ga h;rw[er]at h;refine aj fun N1 hN1 iJ=>?_
  obtain⟨h28,h⟩|⟨h28,h⟩:=aL h
  ·obtain⟨RH,h30,h⟩:=aE h;obtain⟨Cq,h32,h⟩:=aE h;have mJ:=(((ah.b h28).c h30).g (ez h32))
   obtain⟨h33,h⟩|⟨h33,h⟩:=aL h
   ·obtain⟨Ms,h35,h⟩:=aE h;have mN:=(((((mJ.r 3 h33).c h30).r 2 h33).g (ez h35)).r 2 h33)
    obtain⟨h36,h⟩|⟨h36,h⟩:=aL h
    ·have h:=aT h;subst h;exact(mN.b h36).ret hΓ
    ·exact((mN.b h36).a [.cn [0,3] []]).cf hΓ iJ (ih1 (IntKind.i64.wrap (ga+1)) h)
   ·exact(((mJ.r 7 h33).F 1).a [.cn [0,3] []]).cf hΓ iJ (ih1 (IntKind.i64.wrap (ga+1)) h)
  ·exact((ah.b h28).a [.hl 0 [0] []]).ex hΓ hN1 (mR h)
theorem jD{aI:Bytes}{r:Bool}(h:jf aI=some r):Good prog 73 [D.str aI] (D.bool r):=by
 refine gd func73 [[none]] 27 fun hr Γ hΓ=>?_
 rw[jf]at h;refine(ah.a [.cn [0,3] []]).lp hΓ (xC hΓ (fun h=>?_) fuel 0 h);obtain⟨K8,h38,h⟩:=aE h;have h:=aT h;subst h;exact(ah.g (ez h38)).ret hΓ
def iF(aI:Bytes):Option Bool:=(bif decide (((aI.length:Int):Int)>1)then((k8 aI 0).bind fun b2=>(bif (b2.toNat:Int)==63 then((o8 aI.length (some (D.int .i64 1)) none).bind fun p=>(fun l5 u6=>((jf ((aI.take u6).drop l5)).bind fun y8=>(some y8))) p.1 p.2)else(some false)))else(some false))
theorem iR{aI:Bytes}{r:Bool}(h:iF aI=some r):Good prog 77 [D.str aI] (D.bool r):=by
 refine gd func77 [[none]] 16 fun hr Γ hΓ=>?_
 rw[iF]at h;obtain⟨h1,h⟩|⟨h1,h⟩:=aL h
 ·obtain⟨b2,h3,h⟩:=aE h;have kQ:=(((ah.r 2 h1).c h3).r 2 h1)
  obtain⟨h4,h⟩|⟨h4,h⟩:=aL h
  ·obtain⟨⟨l5,u6⟩,h7,h⟩:=aE h;obtain⟨y8,h9,h⟩:=aE h;have h:=aT h;subst h;exact((((((kQ.r 2 h4).w h7).a [.cut l5 u6]).b h4).g (jD h9)).b h4).ret hΓ
  ·have h:=aT h;subst h;exact(kQ.r 4 h4).ret hΓ
 ·have h:=aT h;subst h;exact((ah.r 4 h1).F 4).ret hΓ
def cV(aI:aC)(bY:Bytes)(k1:Bool->aC->Option aC):aC->Nat->Bool->aC->Option aC
 | [],i1,jm,dL=>(k1 jm dL)
 |eP::js,i1,jm,dL=>(bif !(jm)then(bif !(Op.bytesLess eP bY)then(bif !((eP:Bytes)==bY)then(bif room ((dL.map tx).length+([[D.str bY]]).length) 16 then(bif room (((dL.map tx)++([[D.str bY]])).length+([[D.str eP]]).length) 16 then(cV aI bY k1 js (i1+1) true ((dL++([bY]))++([eP])))else none)else none)else(bif room ((dL.map tx).length+([[D.str eP]]).length) 16 then(cV aI bY k1 js (i1+1) true (dL++([eP])))else none))else(bif room ((dL.map tx).length+([[D.str eP]]).length) 16 then(cV aI bY k1 js (i1+1) jm (dL++([eP])))else none))else(bif room ((dL.map tx).length+([[D.str eP]]).length) 16 then(cV aI bY k1 js (i1+1) jm (dL++([eP])))else none))
def gM(aI:aC)(bY:Bytes):Option aC:=(cV aI bY (fun(Ay:Bool) (iO:aC)=>(bif !(Ay)then(bif room ((iO.map tx).length+([[D.str bY]]).length) 16 then(some (iO++([bY])))else none)else(some iO))) aI 0 false ([]:aC))
def kX(aI:aC)(bY:Bytes)(jm:Bool)(W1:List aG)(kY:Int):St:=⟨[(0,D.sl (aI.map tx)),(1,D.str bY),(5,D.acc 0),(6,D.bool jm),(7,D.int .i64 kY)],[Ob.row .uq 9 1 W1]⟩
theorem yb(hΓ:Γ.nt=49){aI:aC}{bY:Bytes}{r:aC}{k1:Bool->aC->Option aC}(mR:∀(Ay:Bool) (iO:aC),k1 Ay iO=some r->Ax Γ N f74 (.q [[some (9,1)]] (D.fr 9 1 (r.map tx))) [1,1,1,1] ⟨[(1,D.str bY),(5,D.acc 0),(6,D.bool Ay)],[Ob.row .uq 9 1 (iO.map tx)]⟩)(hm1:aI.length<=maxLen):∀(rest:aC) (i1:Nat) (jm:Bool) (dL:aC),aI.drop i1=rest->cV aI bY k1 rest i1 jm dL=some r->Ar Γ N f74 (.q [[some (9,1)]] (D.fr 9 1 (r.map tx))) [1,1,1,0,1,0] (rest.length+1) (kX aI bY jm (dL.map tx) (i1:Int)):=by
 intro rest
 induction rest with
 |nil=>
  intro i1 jm dL cE h;rw[cV]at h;refine aj fun N1 hN1 iJ=>?_
  exact((ah.ge tx cE).a [.hl 0 [1,5,6] [0]]).ex hΓ hN1 (mR jm dL h)
 |cons eP js ih1=>
  intro i1 jm dL cE h;rw[cV]at h;refine aj fun N1 hN1 iJ=>?_
  obtain⟨h58,h⟩|⟨h58,h⟩:=aL h
  ·have mJ:=((((ah.lt tx cE).r 3 h58).l (cz tx 1 (dc cE) rfl)).r 4 h58)
   obtain⟨h59,h⟩|⟨h59,h⟩:=aL h
   ·have mN:=((mJ.b h59).l (cz tx 1 (dc cE) rfl))
    obtain⟨h60,h⟩|⟨h60,h⟩:=aL h
    ·obtain⟨h61,h⟩:=bp h;obtain⟨h62,h⟩:=bp h;exact(((((mN.b h60).w (eA h61)).l (cz tx 1 (dc cE) rfl)).w (eA h62)).a [.cn [0,1,5,6,7] [4]]).cs hΓ iJ (kX aI bY true (((dL.map tx)++([[D.str bY]]))++([[D.str eP]])) (IntKind.i64.wrap ((i1:Int)+1))) (by first| (simp only[iS cE hm1,mA]<;>rfl)| (simp only[iS cE hm1,mA,bE.c,nq.c,aU.c,Action.c,aW.c,l8.c,lK.c,l6.c,Node.c,gb.c,mF.c]<;>rfl)) (ih1 (i1+1) true ((dL++([bY]))++([eP])) (dn cE) h)
    ·obtain⟨h63,h⟩:=bp h;exact((((mN.b h60).l (cz tx 1 (dc cE) rfl)).w (eA h63)).a [.cn [0,1,5,6,7] [2]]).cs hΓ iJ (kX aI bY true ((dL.map tx)++([[D.str eP]])) (IntKind.i64.wrap ((i1:Int)+1))) (by first| (simp only[iS cE hm1,mA]<;>rfl)| (simp only[iS cE hm1,mA,bE.c,nq.c,aU.c,Action.c,aW.c,l8.c,lK.c,l6.c,Node.c,gb.c,mF.c]<;>rfl)) (ih1 (i1+1) true (dL++([eP])) (dn cE) h)
   ·obtain⟨h64,h⟩:=bp h;exact((((mJ.b h59).l (cz tx 1 (dc cE) rfl)).w (eA h64)).a [.cn [0,1,5,6,7] [2]]).cs hΓ iJ (kX aI bY jm ((dL.map tx)++([[D.str eP]])) (IntKind.i64.wrap ((i1:Int)+1))) (by first| (simp only[iS cE hm1,mA]<;>rfl)| (simp only[iS cE hm1,mA,bE.c,nq.c,aU.c,Action.c,aW.c,l8.c,lK.c,l6.c,Node.c,gb.c,mF.c]<;>rfl)) (ih1 (i1+1) jm (dL++([eP])) (dn cE) h)
  ·obtain⟨h65,h⟩:=bp h;exact((((((ah.lt tx cE).r 7 h58).F 1).l (cz tx 1 (dc cE) rfl)).w (eA h65)).a [.cn [0,1,5,6,7] [2]]).cs hΓ iJ (kX aI bY jm ((dL.map tx)++([[D.str eP]])) (IntKind.i64.wrap ((i1:Int)+1))) (by first| (simp only[iS cE hm1,mA]<;>rfl)| (simp only[iS cE hm1,mA,bE.c,nq.c,aU.c,Action.c,aW.c,l8.c,lK.c,l6.c,Node.c,gb.c,mF.c]<;>rfl)) (ih1 (i1+1) jm (dL++([eP])) (dn cE) h)
theorem gN{aI:aC}{bY:Bytes}{r:aC}(h:gM aI bY=some r):Good prog 74 [D.sl (aI.map tx),D.str bY] (D.fr 9 1 (r.map tx)):=by
 refine gd func74 [[some (9,1)]] 49 fun hr Γ hΓ=>?_
 rw[gM]at h;refine(ah.a [.cn [0,1,5,6,7] [0]]).lp hΓ (yb hΓ (fun Ay iO h=>?_) (by have:=(n7.sl (hr _ (aD (i:=0) rfl))).1;simpa using this) aI 0 false ([]:aC) rfl h);obtain⟨h66,h⟩|⟨h66,h⟩:=aL h
 ·obtain⟨h67,h⟩:=bp h;cases h;exact((ah.b h66).w (eA h67)).rts hΓ (D.fr 9 1 ((iO.map tx)++([[D.str bY]]))) (by first|rfl| (simp only[mA]<;>rfl))
 ·have h:=aT h;subst h;exact(ah.b h66).ret hΓ
def fq(aI:bE)(k1:aC->Option aC):aC->Nat->aC->Option aC
 | [],i1,fA=>(k1 fA)
 |eP::js,i1,fA=>((iF eP).bind fun K8=>(bif K8 then((gM fA eP).bind fun OV=>(fq aI k1 js (i1+1) OV))else(fq aI k1 js (i1+1) fA)))
def iG(aI:bE):Option aC:=(fq aI (fun(iO:aC)=>(some iO)) aI.args 0 ([]:aC))
def yZ(aI:bE)(W0:List aG)(kY:Int):St:=⟨[(1,D.ptr 0 0),(3,D.acc 1),(4,D.int .i64 kY)],[Ob.box (bE.c aI),Ob.row .uq 9 1 W0]⟩
theorem xI(hΓ:Γ.nt=27){aI:bE}{r:aC}{k1:aC->Option aC}(mR:∀(iO:aC),k1 iO=some r->Ax Γ N f36 (.q [[some (9,1)]] (D.fr 9 1 (r.map tx))) [1,1,1] ⟨[(3,D.acc 0)],[Ob.row .uq 9 1 (iO.map tx)]⟩)(hm1:aI.args.length<=maxLen):∀(rest:aC) (i1:Nat) (fA:aC),aI.args.drop i1=rest->fq aI k1 rest i1 fA=some r->Ar Γ N f36 (.q [[some (9,1)]] (D.fr 9 1 (r.map tx))) [1,1,0,1,0] (rest.length+1) (yZ aI (fA.map tx) (i1:Int)):=by
 intro rest
 induction rest with
 |nil=>
  intro i1 fA cE h;rw[fq]at h;refine aj fun N1 hN1 iJ=>?_
  exact((ah.ge tx cE).a [.hl 0 [3] [1]]).ex hΓ hN1 (mR fA h)
 |cons eP js ih1=>
  intro i1 fA cE h;rw[fq]at h;refine aj fun N1 hN1 iJ=>?_
  obtain⟨K8,h38,h⟩:=aE h;have kw:=(((ah.lt tx cE).l (cz tx 1 (dc cE) rfl)).g (iR h38))
  obtain⟨h39,h⟩|⟨h39,h⟩:=aL h
  ·obtain⟨OV,h41,h⟩:=aE h;exact((((kw.b h39).l (cz tx 1 (dc cE) rfl)).g (gN h41)).a [.cn [1,3,4] [0,2]]).ct hΓ iJ (iS cE hm1) (ih1 (i1+1) OV (dn cE) h)
  ·exact((kw.b h39).a [.cn [1,3,4] [0,1]]).ct hΓ iJ (iS cE hm1) (ih1 (i1+1) fA (dn cE) h)
theorem jF{aI:bE}{r:aC}(h:iG aI=some r):Good prog 36 [D.agg (bE.c aI)] (D.fr 9 1 (r.map tx)):=by
 refine gd func36 [[some (9,1)]] 27 fun hr Γ hΓ=>?_
 rw[iG]at h;refine(ah.a [.cn [1,3,4] [0,1]]).lp hΓ (xI hΓ (fun iO h=>?_) (by have:=(n7.sl (n7.agg (hr _ (aD (i:=0) rfl)) (.sl (aI.args.map tx)) (by simp))).1;simpa using this) aI.args 0 ([]:aC) rfl h);have h:=aT h;subst h;exact ah.ret hΓ
def fC(aI:aW)(bY:Int)(i1:Nat)(yC:aC)(k2:aC->Option aC):aC->Nat->aC->Option aC
 | [],i2,sW=>(k2 sW)
 |wC::vp,i2,sW=>((gM sW wC).bind fun OT=>(fC aI bY i1 yC k2 vp (i2+1) OT))
def dK(aI:aW)(bY:Int)(k1:aC->Option aC):bP->Nat->aC->Option aC
 | [],i1,fA=>(k1 fA)
 |eP::js,i1,fA=>(bif decide (((i1:Int):Int)<bY)then(bif (eP.kind:Int)==1 then((iG eP.pat).bind fun yC=>(bif decide (yC.length<=maxLen)then(fC aI bY i1 yC (fun(yh:aC)=>(dK aI bY k1 js (i1+1) yh)) yC 0 fA)else none))else(dK aI bY k1 js (i1+1) fA))else(k1 fA))
def fm(aI:aW)(bY:Int):Option aC:=(dK aI bY (fun(iO:aC)=>(some iO)) aI.conds 0 ([]:aC))
def vT(aI:aW)(bY:Int)(W0:List aG)(kY:Int):St:=⟨[(1,D.int .i64 bY),(2,D.ptr 0 0),(5,D.acc 1),(6,D.int .i64 kY)],[Ob.box (aW.c aI),Ob.row .uq 9 1 W0]⟩
def vU(aI:aW)(bY:Int)(i1:Nat)(yC:aC)(W0:List aG)(kY:Int):St:=⟨[(1,D.int .i64 bY),(2,D.ptr 0 0),(5,D.acc 1),(6,D.int .i64 (i1:Int)),(7,D.acc 2),(8,D.int .i64 kY)],[Ob.box (aW.c aI),Ob.row .uq 9 1 W0,Ob.row .uq 9 1 (yC.map tx)]⟩
theorem uL(hΓ:Γ.nt=49){aI:aW}{bY:Int}{i1:Nat}{yC:aC}{r:aC}{k2:aC->Option aC}(B9:∀(yh:aC),k2 yh=some r->Ax Γ N f29 (.q [[some (9,1)]] (D.fr 9 1 (r.map tx))) [1,1,0,1,0,0,1,1] ⟨[(1,D.int .i64 bY),(2,D.ptr 0 0),(5,D.acc 1),(6,D.int .i64 (i1:Int))],[Ob.box (aW.c aI),Ob.row .uq 9 1 (yh.map tx)]⟩)(hm2:yC.length<=maxLen):∀(rest:aC) (i2:Nat) (sW:aC),yC.drop i2=rest->fC aI bY i1 yC k2 rest i2 sW=some r->Ar Γ N f29 (.q [[some (9,1)]] (D.fr 9 1 (r.map tx))) [1,1,0,1,0,0,1,0,0,1,0,1,1,0] (rest.length+1) (vU aI bY i1 yC (sW.map tx) (i2:Int)):=by
 intro rest
 induction rest with
 |nil=>
  intro i2 sW hd2 h;rw[fC]at h;refine aj fun N2 wU tQ=>?_
  exact((ah.ge tx hd2).a [.hl 3 [1,2,5,6] [0,1]]).ex hΓ wU (B9 sW h)
 |cons wC vp ih2=>
  intro i2 sW hd2 h;rw[fC]at h;refine aj fun N2 wU tQ=>?_
  obtain⟨OT,h184,h⟩:=aE h;exact(((((ah.lt tx hd2).i (kM tx 1 (dc hd2))).o 1 1 .uq (cK tx (dc hd2))).g (gN h184)).a [.cn [1,2,5,6,7,8] [0,3,2]]).ct hΓ tQ (iS hd2 hm2) (ih2 (i2+1) OT (dn hd2) h)
theorem uK(hΓ:Γ.nt=49){aI:aW}{bY:Int}{r:aC}{k1:aC->Option aC}(mR:∀(iO:aC),k1 iO=some r->Ax Γ N f29 (.q [[some (9,1)]] (D.fr 9 1 (r.map tx))) [1,1,1] ⟨[(5,D.acc 0)],[Ob.row .uq 9 1 (iO.map tx)]⟩)(hm1:aI.conds.length<=maxLen):∀(rest:bP) (i1:Nat) (fA:aC),aI.conds.drop i1=rest->dK aI bY k1 rest i1 fA=some r->Ar Γ N f29 (.q [[some (9,1)]] (D.fr 9 1 (r.map tx))) [1,1,0,1,0] (rest.length+1) (vT aI bY (fA.map tx) (i1:Int)):=by
 intro rest
 induction rest with
 |nil=>
  intro i1 fA cE h;rw[dK]at h;refine aj fun N1 hN1 iJ=>?_
  exact((((((ah.ge aU.c cE).ge aU.c cE).ge aU.c cE).ge aU.c cE).F 1).a [.hl 0 [5] [1]]).ex hΓ hN1 (mR fA h)
 |cons eP js ih1=>
  intro i1 fA cE h;rw[dK]at h;refine aj fun N1 hN1 iJ=>?_
  have mJ:=((((ah.lt aU.c cE).lt aU.c cE).lt aU.c cE).lt aU.c cE)
  obtain⟨h157,h⟩|⟨h157,h⟩:=aL h
  ·have mN:=((mJ.b h157).l (cz aU.c 5 (dc cE) rfl))
   obtain⟨h158,h⟩|⟨h158,h⟩:=aL h
   ·obtain⟨yC,h160,h⟩:=aE h;obtain⟨h185,h⟩:=bp h;refine((((mN.b h158).l (cz aU.c 5 (dc cE) rfl)).g (jF h160)).a [.cn [1,2,5,6,7,8] [0,1,2]]).lp hΓ (uL hΓ (fun yh h=>?_) (av h185) yC 0 fA rfl h);exact(ah.a [.cn [1,2,5,6] [0,1]]).ct hΓ iJ (iS cE hm1) (ih1 (i1+1) yh (dn cE) h)
   ·exact((mN.b h158).a [.cn [1,2,5,6] [0,1]]).ct hΓ iJ (iS cE hm1) (ih1 (i1+1) fA (dn cE) h)
  ·exact((mJ.b h157).a [.hl 0 [5] [1]]).ex hΓ hN1 (mR fA h)
theorem fG{aI:aW}{bY:Int}{r:aC}(h:fm aI bY=some r):Good prog 29 [D.agg (aW.c aI),D.int .i64 bY] (D.fr 9 1 (r.map tx)):=by
 refine gd func29 [[some (9,1)]] 49 fun hr Γ hΓ=>?_
 rw[fm]at h;refine(ah.a [.cn [1,2,5,6] [0,1]]).lp hΓ (uK hΓ (fun iO h=>?_) (by have:=(n7.sl (n7.agg (hr _ (aD (i:=0) rfl)) (.sl (aI.conds.map aU.c)) (by simp))).1;simpa using this) aI.conds 0 ([]:aC) rfl h);have h:=aT h;subst h;exact ah.ret hΓ
def fE(aI:aC)(bY:Bytes)(k1:Option Bool):aC->Nat->Option Bool
 | [],i1=>(k1)
 |eP::js,i1=>(bif (eP:Bytes)==bY then(some true)else(fE aI bY k1 js (i1+1)))
def dW(aI:aC)(bY:Bytes):Option Bool:=(fE aI bY (some false) aI 0)
def ve(aI:aC)(bY:Bytes)(kY:Int):St:=⟨[(0,D.sl (aI.map tx)),(1,D.str bY),(5,D.int .i64 kY)],[]⟩
theorem uR(hΓ:Γ.nt=18){aI:aC}{bY:Bytes}{r:Bool}{k1:Option Bool}(mR:k1=some r->Ax Γ N f32 (.q [[none]] (D.bool r)) [1,1] ⟨[],[]⟩)(hm1:aI.length<=maxLen):∀(rest:aC) (i1:Nat),aI.drop i1=rest->fE aI bY k1 rest i1=some r->Ar Γ N f32 (.q [[none]] (D.bool r)) [1,0,1,0] (rest.length+1) (ve aI bY (i1:Int)):=by
 intro rest
 induction rest with
 |nil=>
  intro i1 cE h;rw[fE]at h;refine aj fun N1 hN1 iJ=>?_
  exact((ah.ge tx cE).a [.hl 0 [] []]).ex hΓ hN1 (mR h)
 |cons eP js ih1=>
  intro i1 cE h;rw[fE]at h;refine aj fun N1 hN1 iJ=>?_
  have kw:=((ah.lt tx cE).l (cz tx 1 (dc cE) rfl))
  obtain⟨h13,h⟩|⟨h13,h⟩:=aL h
  ·have h:=aT h;subst h;exact(kw.b h13).ret hΓ
  ·exact((kw.b h13).a [.cn [0,1,5] []]).ct hΓ iJ (iS cE hm1) (ih1 (i1+1) (dn cE) h)
theorem fH{aI:aC}{bY:Bytes}{r:Bool}(h:dW aI bY=some r):Good prog 32 [D.sl (aI.map tx),D.str bY] (D.bool r):=by
 refine gd func32 [[none]] 18 fun hr Γ hΓ=>?_
 rw[dW]at h;refine(ah.a [.cn [0,1,5] []]).lp hΓ (uR hΓ (fun h=>?_) (by have:=(n7.sl (hr _ (aD (i:=0) rfl))).1;simpa using this) aI 0 rfl h);have h:=aT h;subst h;exact ah.ret hΓ
def kj(aI:Bytes):Option Bool:=((jf aI).bind fun y1=>(bif y1 then((k8 aI 0).bind fun b4=>((gY (IntKind.i64.wrap b4.toNat) 97 122).bind fun y6=>(some y6)))else(some false)))
theorem kH{aI:Bytes}{r:Bool}(h:kj aI=some r):Good prog 27 [D.str aI] (D.bool r):=by
 refine gd func27 [[none]] 11 fun hr Γ hΓ=>?_
 rw[kj]at h;obtain⟨y1,h2,h⟩:=aE h;obtain⟨h3,h⟩|⟨h3,h⟩:=aL h
 ·obtain⟨b4,h5,h⟩:=aE h;obtain⟨y6,h7,h⟩:=aE h;have h:=aT h;subst h;exact((((((ah.g (jD h2)).r 2 h3).c h5).r 2 h3).g (ez h7)).b h3).ret hΓ
 ·have h:=aT h;subst h;exact((ah.g (jD h2)).r 5 h3).ret hΓ
def eb(aI:Bytes):Option Bool:=((jf aI).bind fun y1=>(bif y1 then(some true)else((iF aI).bind fun y4=>(some y4))))
theorem fT{aI:Bytes}{r:Bool}(h:eb aI=some r):Good prog 76 [D.str aI] (D.bool r):=by
 refine gd func76 [[none]] 9 fun hr Γ hΓ=>?_
 rw[eb]at h;obtain⟨y1,h2,h⟩:=aE h;obtain⟨h3,h⟩|⟨h3,h⟩:=aL h
 ·have h:=aT h;subst h;exact((ah.g (jD h2)).r 3 h3).ret hΓ
 ·obtain⟨y4,h5,h⟩:=aE h;have h:=aT h;subst h;exact((((ah.g (jD h2)).r 2 h3).g (iR h5)).b h3).ret hΓ
def gV(aI:bE)(k1:Option Bool):aC->Nat->Option Bool
 | [],i1=>(k1)
 |eP::js,i1=>((eb eP).bind fun Qk=>(bif !(Qk)then(some false)else(gV aI k1 js (i1+1))))
def ew(aI:bE):Option Bool:=(gV aI ((kj aI.rel).bind fun EI=>(bif EI then(some (decide ((((aI.args.map tx).length:Int):Int)<=3)))else(some false))) aI.args 0)
def vV(aI:bE)(kY:Int):St:=⟨[(1,D.ptr 0 0),(3,D.int .i64 kY)],[Ob.box (bE.c aI)]⟩
theorem uN(hΓ:Γ.nt=27){aI:bE}{r:Bool}{k1:Option Bool}(mR:k1=some r->Ax Γ N f75 (.q [[none]] (D.bool r)) [1,1] ⟨[(1,D.ptr 0 0)],[Ob.box (bE.c aI)]⟩)(hm1:aI.args.length<=maxLen):∀(rest:aC) (i1:Nat),aI.args.drop i1=rest->gV aI k1 rest i1=some r->Ar Γ N f75 (.q [[none]] (D.bool r)) [1,0,1,0] (rest.length+1) (vV aI (i1:Int)):=by
 intro rest
 induction rest with
 |nil=>
  intro i1 cE h;rw[gV]at h;refine aj fun N1 hN1 iJ=>?_
  exact((ah.ge tx cE).a [.hl 0 [1] [0]]).ex hΓ hN1 (mR h)
 |cons eP js ih1=>
  intro i1 cE h;rw[gV]at h;refine aj fun N1 hN1 iJ=>?_
  obtain⟨Qk,h22,h⟩:=aE h;have kw:=(((ah.lt tx cE).l (cz tx 1 (dc cE) rfl)).g (fT h22))
  obtain⟨h23,h⟩|⟨h23,h⟩:=aL h
  ·have h:=aT h;subst h;exact(kw.b h23).ret hΓ
  ·exact((kw.b h23).a [.cn [1,3] [0]]).ct hΓ iJ (iS cE hm1) (ih1 (i1+1) (dn cE) h)
theorem eL{aI:bE}{r:Bool}(h:ew aI=some r):Good prog 75 [D.agg (bE.c aI)] (D.bool r):=by
 refine gd func75 [[none]] 27 fun hr Γ hΓ=>?_
 rw[ew]at h;refine(ah.a [.cn [1,3] [0]]).lp hΓ (uN hΓ (fun h=>?_) (by have:=(n7.sl (n7.agg (hr _ (aD (i:=0) rfl)) (.sl (aI.args.map tx)) (by simp))).1;simpa using this) aI.args 0 rfl h);obtain⟨EI,h25,h⟩:=aE h;obtain⟨h26,h⟩|⟨h26,h⟩:=aL h
 ·cases h;exact((ah.g (kH h25)).r 5 h26).ret hΓ
 ·have h:=aT h;subst h;exact((ah.g (kH h25)).r 5 h26).ret hΓ
def jg(aI:aU):Option Bool:=(bif (aI.kind:Int)==1 then((ew aI.pat).bind fun y2=>(bif y2 then(bif (aI.left:Bytes)==([])then(some ((aI.right:Bytes)==([])))else(some false))else(some false)))else(bif (aI.kind:Int)==2 then((ew aI.pat).bind fun y7=>(bif y7 then(bif (aI.left:Bytes)==([])then(some ((aI.right:Bytes)==([])))else(some false))else(some false)))else(bif (aI.kind:Int)==3 then(bif (aI.pat.rel:Bytes)==([])then(bif (((aI.pat.args.map tx).length:Int):Int)==0 then((eb aI.left).bind fun zz=>(bif zz then((eb aI.right).bind fun Tt=>(some Tt))else(some false)))else(some false))else(some false))else(bif (aI.kind:Int)==4 then(bif (aI.pat.rel:Bytes)==([])then(bif (((aI.pat.args.map tx).length:Int):Int)==0 then((eb aI.left).bind fun Mq=>(bif Mq then((eb aI.right).bind fun zg=>(some zg))else(some false)))else(some false))else(some false))else(bif (aI.kind:Int)==5 then(bif (aI.pat.rel:Bytes)==([])then(bif (((aI.pat.args.map tx).length:Int):Int)==0 then((eb aI.left).bind fun vE=>(bif vE then((eb aI.right).bind fun qv=>(some qv))else(some false)))else(some false))else(some false))else(some false))))))
theorem hO{aI:aU}{r:Bool}(h:jg aI=some r):Good prog 30 [D.agg (aU.c aI)] (D.bool r):=by
 refine gd func30 [[none]] 46 fun hr Γ hΓ=>?_
 rw[jg]at h;obtain⟨h1,h⟩|⟨h1,h⟩:=aL h
 ·obtain⟨y2,h3,h⟩:=aE h;have kQ:=((ah.r 2 h1).g (eL h3))
  obtain⟨h4,h⟩|⟨h4,h⟩:=aL h
  ·have kw:=(kQ.r 4 h4)
   obtain⟨h5,h⟩|⟨h5,h⟩:=aL h
   ·cases h;exact(kw.r 4 h5).ret hΓ
   ·have h:=aT h;subst h;exact(kw.r 4 h5).ret hΓ
  ·have h:=aT h;subst h;exact((kQ.r 4 h4).F 4).ret hΓ
 ·obtain⟨h6,h⟩|⟨h6,h⟩:=aL h
  ·obtain⟨y7,h8,h⟩:=aE h;have mJ:=(((ah.b h1).b h6).g (eL h8))
   obtain⟨h9,h⟩|⟨h9,h⟩:=aL h
   ·have mN:=(mJ.r 4 h9)
    obtain⟨h10,h⟩|⟨h10,h⟩:=aL h
    ·cases h;exact(mN.r 4 h10).ret hΓ
    ·have h:=aT h;subst h;exact(mN.r 4 h10).ret hΓ
   ·have h:=aT h;subst h;exact((mJ.r 4 h9).F 4).ret hΓ
  ·have ur:=((ah.b h1).b h6)
   obtain⟨h11,h⟩|⟨h11,h⟩:=aL h
   ·have zJ:=(ur.r 2 h11)
    obtain⟨h12,h⟩|⟨h12,h⟩:=aL h
    ·have Aj:=(zJ.r 6 h12)
     obtain⟨h13,h⟩|⟨h13,h⟩:=aL h
     ·obtain⟨zz,h15,h⟩:=aE h;have Bg:=(((Aj.r 3 h13).g (fT h15)).b h13)
      obtain⟨h16,h⟩|⟨h16,h⟩:=aL h
      ·obtain⟨Tt,h18,h⟩:=aE h;have h:=aT h;subst h;exact(((Bg.r 3 h16).g (fT h18)).b h16).ret hΓ
      ·have h:=aT h;subst h;exact(Bg.r 4 h16).ret hΓ
     ·have h:=aT h;subst h;exact((Aj.r 4 h13).F 4).ret hΓ
    ·have h:=aT h;subst h;exact((zJ.r 6 h12).F 8).ret hΓ
   ·obtain⟨h19,h⟩|⟨h19,h⟩:=aL h
    ·have Fy:=((ur.b h11).r 2 h19)
     obtain⟨h20,h⟩|⟨h20,h⟩:=aL h
     ·have Dt:=(Fy.r 6 h20)
      obtain⟨h21,h⟩|⟨h21,h⟩:=aL h
      ·obtain⟨Mq,h23,h⟩:=aE h;have Du:=(((Dt.r 3 h21).g (fT h23)).b h21)
       obtain⟨h24,h⟩|⟨h24,h⟩:=aL h
       ·obtain⟨zg,h26,h⟩:=aE h;have h:=aT h;subst h;exact(((Du.r 3 h24).g (fT h26)).b h24).ret hΓ
       ·have h:=aT h;subst h;exact(Du.r 4 h24).ret hΓ
      ·have h:=aT h;subst h;exact((Dt.r 4 h21).F 4).ret hΓ
     ·have h:=aT h;subst h;exact((Fy.r 6 h20).F 8).ret hΓ
    ·have zc:=((ur.b h11).b h19)
     obtain⟨h27,h⟩|⟨h27,h⟩:=aL h
     ·obtain⟨h28,h⟩|⟨h28,h⟩:=aL h
      ·have Dv:=((zc.b h27).r 6 h28)
       obtain⟨h29,h⟩|⟨h29,h⟩:=aL h
       ·obtain⟨vE,h31,h⟩:=aE h;have JA:=(((Dv.r 3 h29).g (fT h31)).b h29)
        obtain⟨h32,h⟩|⟨h32,h⟩:=aL h
        ·obtain⟨qv,h34,h⟩:=aE h;have h:=aT h;subst h;exact(((JA.r 3 h32).g (fT h34)).b h32).ret hΓ
        ·have h:=aT h;subst h;exact(JA.r 4 h32).ret hΓ
       ·have h:=aT h;subst h;exact((Dv.r 4 h29).F 4).ret hΓ
      ·have h:=aT h;subst h;exact(((zc.b h27).r 6 h28).F 8).ret hΓ
     ·have h:=aT h;subst h;exact(zc.b h27).ret hΓ
def gX(aI:aU):Option aC:=((iG aI.pat).bind fun y1=>((iF aI.left).bind fun y3=>(bif y3 then((gM y1 aI.left).bind fun y6=>((iF aI.right).bind fun y8=>(bif y8 then((gM y6 aI.right).bind fun Bw=>(some Bw))else(some y6))))else((iF aI.right).bind fun jl=>(bif jl then((gM y1 aI.right).bind fun Cv=>(some Cv))else(some y1))))))
theorem jY{aI:aU}{r:aC}(h:gX aI=some r):Good prog 31 [D.agg (aU.c aI)] (D.fr 9 1 (r.map tx)):=by
 refine gd func31 [[some (9,1)]] 22 fun hr Γ hΓ=>?_
 rw[gX]at h;obtain⟨y1,h2,h⟩:=aE h;obtain⟨y3,h4,h⟩:=aE h;have kQ:=((ah.g (jF h2)).g (iR h4))
 obtain⟨h5,h⟩|⟨h5,h⟩:=aL h
 ·obtain⟨y6,h7,h⟩:=aE h;obtain⟨y8,h9,h⟩:=aE h;have kw:=(((kQ.b h5).g (gN h7)).g (iR h9))
  obtain⟨h10,h⟩|⟨h10,h⟩:=aL h
  ·obtain⟨Bw,h12,h⟩:=aE h;have h:=aT h;subst h;exact((kw.b h10).g (gN h12)).ret hΓ
  ·have h:=aT h;subst h;exact(kw.b h10).ret hΓ
 ·obtain⟨jl,h14,h⟩:=aE h;have mJ:=((kQ.b h5).g (iR h14))
  obtain⟨h15,h⟩|⟨h15,h⟩:=aL h
  ·obtain⟨Cv,h17,h⟩:=aE h;have h:=aT h;subst h;exact((mJ.b h15).g (gN h17)).ret hΓ
  ·have h:=aT h;subst h;exact(mJ.b h15).ret hΓ
def kn(aI:aU):Option Bool:=((jg aI).bind fun y1=>(bif y1 then(some (decide ((aI.kind:Int)>=3)))else(some false)))
theorem py{aI:aU}{r:Bool}(h:kn aI=some r):Good prog 33 [D.agg (aU.c aI)] (D.bool r):=by
 refine gd func33 [[none]] 10 fun hr Γ hΓ=>?_
 rw[kn]at h;obtain⟨y1,h2,h⟩:=aE h;obtain⟨h3,h⟩|⟨h3,h⟩:=aL h
 ·cases h;exact((ah.g (hO h2)).r 4 h3).ret hΓ
 ·have h:=aT h;subst h;exact((ah.g (hO h2)).r 4 h3).ret hΓ
def dG(aI:aW)(bY:Int)(lD:Bytes)(k1:Option Bool):bP->Nat->Option Bool
 | [],i1=>(k1)
 |eP::js,i1=>(bif ((i1:Int):Int) != bY then((gX eP).bind fun Ms=>((dW Ms lD).bind fun HK=>(bif HK then(some true)else(dG aI bY lD k1 js (i1+1)))))else(dG aI bY lD k1 js (i1+1)))
def eM(aI:aW)(lD:Bytes)(k2:Option Bool):cg->Nat->Option Bool
 | [],i2=>(k2)
 |wC::vp,i2=>((iG wC.pat).bind fun HL=>((dW HL lD).bind fun U1=>(bif U1 then(some true)else(eM aI lD k2 vp (i2+1)))))
def iC(aI:aW)(bY:Int)(lD:Bytes):Option Bool:=(dG aI bY lD (eM aI lD (some false) aI.bg 0) aI.conds 0)
def tO(aI:aW)(bY:Int)(lD:Bytes)(kY:Int):St:=⟨[(1,D.int .i64 bY),(2,D.str lD),(3,D.ptr 0 0),(7,D.int .i64 kY)],[Ob.box (aW.c aI)]⟩
theorem sL(hΓ:Γ.nt=45){aI:aW}{bY:Int}{lD:Bytes}{r:Bool}{k1:Option Bool}(mR:k1=some r->Ax Γ N f34 (.q [[none]] (D.bool r)) [1,1] ⟨[(2,D.str lD),(3,D.ptr 0 0)],[Ob.box (aW.c aI)]⟩)(hm1:aI.conds.length<=maxLen):∀(rest:bP) (i1:Nat),aI.conds.drop i1=rest->dG aI bY lD k1 rest i1=some r->Ar Γ N f34 (.q [[none]] (D.bool r)) [1,0,1,0] (rest.length+1) (tO aI bY lD (i1:Int)):=by
 intro rest
 induction rest with
 |nil=>
  intro i1 cE h;rw[dG]at h;refine aj fun N1 hN1 iJ=>?_
  exact((ah.ge aU.c cE).a [.hl 0 [2,3] [0]]).ex hΓ hN1 (mR h)
 |cons eP js ih1=>
  intro i1 cE h;rw[dG]at h;refine aj fun N1 hN1 iJ=>?_
  obtain⟨h33,h⟩|⟨h33,h⟩:=aL h
  ·obtain⟨Ms,h35,h⟩:=aE h;obtain⟨HK,h37,h⟩:=aE h;have mJ:=((((((((ah.lt aU.c cE).r 4 h33).l (cz aU.c 5 (dc cE) rfl)).r 2 h33).g (jY h35)).r 2 h33).g (fH h37)).b h33)
   obtain⟨h38,h⟩|⟨h38,h⟩:=aL h
   ·have h:=aT h;subst h;exact(mJ.b h38).ret hΓ
   ·exact((mJ.b h38).a [.cn [1,2,3,7] [0]]).ct hΓ iJ (iS cE hm1) (ih1 (i1+1) (dn cE) h)
  ·exact((((ah.lt aU.c cE).r 9 h33).F 1).a [.cn [1,2,3,7] [0]]).ct hΓ iJ (iS cE hm1) (ih1 (i1+1) (dn cE) h)
def tP(aI:aW)(lD:Bytes)(kY:Int):St:=⟨[(2,D.str lD),(3,D.ptr 0 0),(8,D.int .i64 kY)],[Ob.box (aW.c aI)]⟩
theorem sM(hΓ:Γ.nt=45){aI:aW}{lD:Bytes}{r:Bool}{k2:Option Bool}(B9:k2=some r->Ax Γ N f34 (.q [[none]] (D.bool r)) [1,1,1] ⟨[],[]⟩)(hm2:aI.bg.length<=maxLen):∀(rest:cg) (i2:Nat),aI.bg.drop i2=rest->eM aI lD k2 rest i2=some r->Ar Γ N f34 (.q [[none]] (D.bool r)) [1,1,0,1,0] (rest.length+1) (tP aI lD (i2:Int)):=by
 intro rest
 induction rest with
 |nil=>
  intro i2 hd2 h;rw[eM]at h;refine aj fun N2 wU tQ=>?_
  exact((ah.ge Action.c hd2).a [.hl 0 [] []]).ex hΓ wU (B9 h)
 |cons wC vp ih2=>
  intro i2 hd2 h;rw[eM]at h;refine aj fun N2 wU tQ=>?_
  obtain⟨HL,h68,h⟩:=aE h;obtain⟨U1,h70,h⟩:=aE h;have mN:=((((ah.lt Action.c hd2).l (cz Action.c 3 (dc hd2) rfl)).g (jF h68)).g (fH h70))
  obtain⟨h71,h⟩|⟨h71,h⟩:=aL h
  ·have h:=aT h;subst h;exact(mN.b h71).ret hΓ
  ·exact((mN.b h71).a [.cn [2,3,8] [0]]).ct hΓ tQ (iS hd2 hm2) (ih2 (i2+1) (dn hd2) h)
theorem mm{aI:aW}{bY:Int}{lD:Bytes}{r:Bool}(h:iC aI bY lD=some r):Good prog 34 [D.agg (aW.c aI),D.int .i64 bY,D.str lD] (D.bool r):=by
 refine gd func34 [[none]] 45 fun hr Γ hΓ=>?_
 rw[iC]at h;refine(ah.a [.cn [1,2,3,7] [0]]).lp hΓ (sL hΓ (fun h=>?_) (by have:=(n7.sl (n7.agg (hr _ (aD (i:=0) rfl)) (.sl (aI.conds.map aU.c)) (by simp))).1;simpa using this) aI.conds 0 rfl h);refine(ah.a [.cn [2,3,8] [0]]).lp hΓ (sM hΓ (fun h=>?_) (by have:=(n7.sl (n7.agg (hr _ (aD (i:=0) rfl)) (.sl (aI.bg.map Action.c)) (by simp))).1;simpa using this) aI.bg 0 rfl h);have h:=aT h;subst h;exact ah.ret hΓ
def kV(aI:Action):Option Bool:=(bif (aI.kind:Int)==1 then((ew aI.pat).bind fun y2=>(some y2))else(bif (aI.kind:Int)==2 then((ew aI.pat).bind fun y5=>(some y5))else(bif (aI.kind:Int)==3 then(bif (aI.pat.rel:Bytes)==([])then(some ((((aI.pat.args.map tx).length:Int):Int)==0))else(some false))else(some false))))
theorem uM{aI:Action}{r:Bool}(h:kV aI=some r):Good prog 35 [D.agg (Action.c aI)] (D.bool r):=by
 refine gd func35 [[none]] 24 fun hr Γ hΓ=>?_
 rw[kV]at h;obtain⟨h1,h⟩|⟨h1,h⟩:=aL h
 ·obtain⟨y2,h3,h⟩:=aE h;have h:=aT h;subst h;exact((ah.r 2 h1).g (eL h3)).ret hΓ
 ·obtain⟨h4,h⟩|⟨h4,h⟩:=aL h
  ·obtain⟨y5,h6,h⟩:=aE h;have h:=aT h;subst h;exact(((ah.b h1).b h4).g (eL h6)).ret hΓ
  ·have kQ:=((ah.b h1).b h4)
   obtain⟨h7,h⟩|⟨h7,h⟩:=aL h
   ·obtain⟨h8,h⟩|⟨h8,h⟩:=aL h
    ·cases h;exact((kQ.b h7).r 6 h8).ret hΓ
    ·have h:=aT h;subst h;exact((kQ.b h7).r 6 h8).ret hΓ
   ·have h:=aT h;subst h;exact(kQ.b h7).ret hΓ
def fU(aI:aW)(i1:Nat)(yB:aC)(k2:aC->Option aC):aC->Nat->aC->Option aC
 | [],i2,sW=>(k2 sW)
 |wC::vp,i2,sW=>((gM sW wC).bind fun OS=>(fU aI i1 yB k2 vp (i2+1) OS))
def eW(aI:aW)(k1:aC->Option aC):bP->Nat->aC->Option aC
 | [],i1,fA=>(k1 fA)
 |eP::js,i1,fA=>((gX eP).bind fun yB=>(bif decide (yB.length<=maxLen)then(fU aI i1 yB (fun(yh:aC)=>(eW aI k1 js (i1+1) yh)) yB 0 fA)else none))
def fV(aI:aW)(i3:Nat)(yD:aC)(k4:aC->Option aC):aC->Nat->aC->Option aC
 | [],i4,Cm=>(k4 Cm)
 |On::Qi,i4,Cm=>((gM Cm On).bind fun OU=>(fV aI i3 yD k4 Qi (i4+1) OU))
def dl(aI:aW)(k3:aC->Option aC):cg->Nat->aC->Option aC
 | [],i3,BN=>(k3 BN)
 |Lg::HJ,i3,BN=>((iG Lg.pat).bind fun yD=>(bif decide (yD.length<=maxLen)then(fV aI i3 yD (fun(Gr:aC)=>(dl aI k3 HJ (i3+1) Gr)) yD 0 BN)else none))
def kW(aI:aW):Option aC:=(eW aI (fun(qg:aC)=>(dl aI (fun(JG:aC)=>(some JG)) aI.bg 0 qg)) aI.conds 0 ([]:aC))
def wK(aI:aW)(W0:List aG)(kY:Int):St:=⟨[(1,D.ptr 0 0),(3,D.acc 1),(4,D.int .i64 kY)],[Ob.box (aW.c aI),Ob.row .uq 9 1 W0]⟩
def wL(aI:aW)(i1:Nat)(yB:aC)(W0:List aG)(kY:Int):St:=⟨[(1,D.ptr 0 0),(3,D.acc 1),(4,D.int .i64 (i1:Int)),(5,D.acc 2),(6,D.int .i64 kY)],[Ob.box (aW.c aI),Ob.row .uq 9 1 W0,Ob.row .uq 9 1 (yB.map tx)]⟩
theorem vZ(hΓ:Γ.nt=63){aI:aW}{i1:Nat}{yB:aC}{r:aC}{k2:aC->Option aC}(B9:∀(yh:aC),k2 yh=some r->Ax Γ N f37 (.q [[some (9,1)]] (D.fr 9 1 (r.map tx))) [1,1,0,1,0,0,1,1] ⟨[(1,D.ptr 0 0),(3,D.acc 1),(4,D.int .i64 (i1:Int))],[Ob.box (aW.c aI),Ob.row .uq 9 1 (yh.map tx)]⟩)(hm2:yB.length<=maxLen):∀(rest:aC) (i2:Nat) (sW:aC),yB.drop i2=rest->fU aI i1 yB k2 rest i2 sW=some r->Ar Γ N f37 (.q [[some (9,1)]] (D.fr 9 1 (r.map tx))) [1,1,0,1,0,0,1,0,0,1,1,0] (rest.length+1) (wL aI i1 yB (sW.map tx) (i2:Int)):=by
 intro rest
 induction rest with
 |nil=>
  intro i2 sW hd2 h;rw[fU]at h;refine aj fun N2 wU tQ=>?_
  exact((ah.ge tx hd2).a [.hl 3 [1,3,4] [0,1]]).ex hΓ wU (B9 sW h)
 |cons wC vp ih2=>
  intro i2 sW hd2 h;rw[fU]at h;refine aj fun N2 wU tQ=>?_
  obtain⟨OS,h172,h⟩:=aE h;exact(((((ah.lt tx hd2).i (kM tx 1 (dc hd2))).o 1 1 .uq (cK tx (dc hd2))).g (gN h172)).a [.cn [1,3,4,5,6] [0,3,2]]).ct hΓ tQ (iS hd2 hm2) (ih2 (i2+1) OS (dn hd2) h)
theorem vY(hΓ:Γ.nt=63){aI:aW}{r:aC}{k1:aC->Option aC}(mR:∀(qg:aC),k1 qg=some r->Ax Γ N f37 (.q [[some (9,1)]] (D.fr 9 1 (r.map tx))) [1,1,1] ⟨[(1,D.ptr 0 0),(3,D.acc 1)],[Ob.box (aW.c aI),Ob.row .uq 9 1 (qg.map tx)]⟩)(hm1:aI.conds.length<=maxLen):∀(rest:bP) (i1:Nat) (fA:aC),aI.conds.drop i1=rest->eW aI k1 rest i1 fA=some r->Ar Γ N f37 (.q [[some (9,1)]] (D.fr 9 1 (r.map tx))) [1,1,0,1,0] (rest.length+1) (wK aI (fA.map tx) (i1:Int)):=by
 intro rest
 induction rest with
 |nil=>
  intro i1 fA cE h;rw[eW]at h;refine aj fun N1 hN1 iJ=>?_
  exact((ah.ge aU.c cE).a [.hl 0 [1,3] [0,1]]).ex hΓ hN1 (mR fA h)
 |cons eP js ih1=>
  intro i1 fA cE h;rw[eW]at h;refine aj fun N1 hN1 iJ=>?_
  obtain⟨yB,h148,h⟩:=aE h;obtain⟨h173,h⟩:=bp h;refine((((ah.lt aU.c cE).l (cz aU.c 5 (dc cE) rfl)).g (jY h148)).a [.cn [1,3,4,5,6] [0,1,2]]).lp hΓ (vZ hΓ (fun yh h=>?_) (av h173) yB 0 fA rfl h);exact(ah.a [.cn [1,3,4] [0,1]]).ct hΓ iJ (iS cE hm1) (ih1 (i1+1) yh (dn cE) h)
def wM(aI:aW)(W0:List aG)(kY:Int):St:=⟨[(1,D.ptr 0 0),(3,D.acc 1),(7,D.int .i64 kY)],[Ob.box (aW.c aI),Ob.row .uq 9 1 W0]⟩
def wN(aI:aW)(i3:Nat)(yD:aC)(W0:List aG)(kY:Int):St:=⟨[(1,D.ptr 0 0),(3,D.acc 1),(7,D.int .i64 (i3:Int)),(8,D.acc 2),(9,D.int .i64 kY)],[Ob.box (aW.c aI),Ob.row .uq 9 1 W0,Ob.row .uq 9 1 (yD.map tx)]⟩
theorem vc(hΓ:Γ.nt=63){aI:aW}{i3:Nat}{yD:aC}{r:aC}{k4:aC->Option aC}(RO:∀(Gr:aC),k4 Gr=some r->Ax Γ N f37 (.q [[some (9,1)]] (D.fr 9 1 (r.map tx))) [1,1,1,0,1,0,0,1,1] ⟨[(1,D.ptr 0 0),(3,D.acc 1),(7,D.int .i64 (i3:Int))],[Ob.box (aW.c aI),Ob.row .uq 9 1 (Gr.map tx)]⟩)(S5:yD.length<=maxLen):∀(rest:aC) (i4:Nat) (Cm:aC),yD.drop i4=rest->fV aI i3 yD k4 rest i4 Cm=some r->Ar Γ N f37 (.q [[some (9,1)]] (D.fr 9 1 (r.map tx))) [1,1,1,0,1,0,0,1,0,0,1,1,0] (rest.length+1) (wN aI i3 yD (Cm.map tx) (i4:Int)):=by
 intro rest
 induction rest with
 |nil=>
  intro i4 Cm EY h;rw[fV]at h;refine aj fun N4 PD PE=>?_
  exact((ah.ge tx EY).a [.hl 3 [1,3,7] [0,1]]).ex hΓ PD (RO Cm h)
 |cons On Qi ih4=>
  intro i4 Cm EY h;rw[fV]at h;refine aj fun N4 PD PE=>?_
  obtain⟨OU,h345,h⟩:=aE h;exact(((((ah.lt tx EY).i (kM tx 1 (dc EY))).o 1 1 .uq (cK tx (dc EY))).g (gN h345)).a [.cn [1,3,7,8,9] [0,3,2]]).ct hΓ PE (iS EY S5) (ih4 (i4+1) OU (dn EY) h)
theorem vb(hΓ:Γ.nt=63){aI:aW}{r:aC}{k3:aC->Option aC}(P9:∀(JG:aC),k3 JG=some r->Ax Γ N f37 (.q [[some (9,1)]] (D.fr 9 1 (r.map tx))) [1,1,1,1] ⟨[(3,D.acc 0)],[Ob.row .uq 9 1 (JG.map tx)]⟩)(Kf:aI.bg.length<=maxLen):∀(rest:cg) (i3:Nat) (BN:aC),aI.bg.drop i3=rest->dl aI k3 rest i3 BN=some r->Ar Γ N f37 (.q [[some (9,1)]] (D.fr 9 1 (r.map tx))) [1,1,1,0,1,0] (rest.length+1) (wM aI (BN.map tx) (i3:Int)):=by
 intro rest
 induction rest with
 |nil=>
  intro i3 BN w6 h;rw[dl]at h;refine aj fun N3 Lw HC=>?_
  exact((ah.ge Action.c w6).a [.hl 0 [3] [1]]).ex hΓ Lw (P9 BN h)
 |cons Lg HJ ih3=>
  intro i3 BN w6 h;rw[dl]at h;refine aj fun N3 Lw HC=>?_
  obtain⟨yD,h321,h⟩:=aE h;obtain⟨h346,h⟩:=bp h;refine((((ah.lt Action.c w6).l (cz Action.c 3 (dc w6) rfl)).g (jF h321)).a [.cn [1,3,7,8,9] [0,1,2]]).lp hΓ (vc hΓ (fun Gr h=>?_) (av h346) yD 0 BN rfl h);exact(ah.a [.cn [1,3,7] [0,1]]).ct hΓ HC (iS w6 Kf) (ih3 (i3+1) Gr (dn w6) h)
theorem uQ{aI:aW}{r:aC}(h:kW aI=some r):Good prog 37 [D.agg (aW.c aI)] (D.fr 9 1 (r.map tx)):=by
 refine gd func37 [[some (9,1)]] 63 fun hr Γ hΓ=>?_
 rw[kW]at h;refine(ah.a [.cn [1,3,4] [0,1]]).lp hΓ (vY hΓ (fun qg h=>?_) (by have:=(n7.sl (n7.agg (hr _ (aD (i:=0) rfl)) (.sl (aI.conds.map aU.c)) (by simp))).1;simpa using this) aI.conds 0 ([]:aC) rfl h);refine(ah.a [.cn [1,3,7] [0,1]]).lp hΓ (vb hΓ (fun JG h=>?_) (by have:=(n7.sl (n7.agg (hr _ (aD (i:=0) rfl)) (.sl (aI.bg.map Action.c)) (by simp))).1;simpa using this) aI.bg 0 qg rfl h);have h:=aT h;subst h;exact ah.ret hΓ
def dU(aI:aW)(jl:aC)(i1:Nat)(eP:aU)(yE:aC)(tX:aC)(k2:Option Bool):aC->Nat->Option Bool
 | [],i2=>(k2)
 |wC::vp,i2=>((dW yE wC).bind fun OW=>((kn eP).bind fun Qp=>(bif Qp then(bif !(OW)then(some false)else(bif (eP.kind:Int)==2 then(dU aI jl i1 eP yE tX k2 vp (i2+1))else(dU aI jl i1 eP yE tX k2 vp (i2+1))))else(bif (eP.kind:Int)==2 then(bif !(OW)then((iC aI (i1:Int) wC).bind fun Qq=>(bif Qq then(some false)else(dU aI jl i1 eP yE tX k2 vp (i2+1))))else(dU aI jl i1 eP yE tX k2 vp (i2+1)))else(dU aI jl i1 eP yE tX k2 vp (i2+1))))))
def dV(aI:aW)(jl:aC)(i1:Nat)(eP:aU)(yF:aC)(tY:aC)(k3:Option Bool):aC->Nat->Option Bool
 | [],i3=>(k3)
 |Lg::HJ,i3=>((dW yF Lg).bind fun OX=>((kn eP).bind fun Qr=>(bif Qr then(bif !(OX)then(some false)else(bif (eP.kind:Int)==2 then(dV aI jl i1 eP yF tY k3 HJ (i3+1))else(dV aI jl i1 eP yF tY k3 HJ (i3+1))))else(bif (eP.kind:Int)==2 then(bif !(OX)then((iC aI (i1:Int) Lg).bind fun Qs=>(bif Qs then(some false)else(dV aI jl i1 eP yF tY k3 HJ (i3+1))))else(dV aI jl i1 eP yF tY k3 HJ (i3+1)))else(dV aI jl i1 eP yF tY k3 HJ (i3+1))))))
def fo(aI:aW)(jl:aC)(k1:Option Bool):bP->Nat->Option Bool
 | [],i1=>(k1)
 |eP::js,i1=>((jg eP).bind fun Qo=>(bif !(Qo)then(some false)else(bif ((i1:Int):Int)==0 then(bif (eP.kind:Int) != 1 then(some false)else((fm aI (i1:Int)).bind fun yE=>((gX eP).bind fun tX=>(bif decide (tX.length<=maxLen)then(dU aI jl i1 eP yE tX (fo aI jl k1 js (i1+1)) tX 0)else none))))else((fm aI (i1:Int)).bind fun yF=>((gX eP).bind fun tY=>(bif decide (tY.length<=maxLen)then(dV aI jl i1 eP yF tY (fo aI jl k1 js (i1+1)) tY 0)else none))))))
def iA(aI:aW)(jl:aC)(i4:Nat)(yG:aC)(k5:Option Bool):aC->Nat->Option Bool
 | [],i5=>(k5)
 |Tr::Ts,i5=>((dW jl Tr).bind fun Qu=>(bif !(Qu)then(some false)else(iA aI jl i4 yG k5 Ts (i5+1))))
def hY(aI:aW)(jl:aC)(k4:Option Bool):cg->Nat->Option Bool
 | [],i4=>(k4)
 |On::Qi,i4=>((kV On).bind fun Qt=>(bif !(Qt)then(some false)else((iG On.pat).bind fun yG=>(bif decide (yG.length<=maxLen)then(iA aI jl i4 yG (hY aI jl k4 Qi (i4+1)) yG 0)else none))))
def iE(aI:aW):Option Bool:=((kj aI.name).bind fun y1=>(bif !(y1)then(some false)else((gY aI.prio 0 9).bind fun y4=>(bif !(y4)then(some false)else((gY ((aI.conds.map aU.c).length:Int) 1 4).bind fun y7=>(bif !(y7)then(some false)else((gY ((aI.bg.map Action.c).length:Int) 1 2).bind fun yt=>(bif !(yt)then(some false)else((fm aI ((aI.conds.map aU.c).length:Int)).bind fun jl=>(fo aI jl (hY aI jl ((kW aI).bind fun Qv=>(some (decide ((((Qv.map tx).length:Int):Int)<=6)))) aI.bg 0) aI.conds 0))))))))))
def yT(aI:aW)(jl:aC)(kY:Int):St:=⟨[(1,D.ptr 0 0),(3,D.acc 1),(4,D.int .i64 kY)],[Ob.box (aW.c aI),Ob.row .uq 9 1 (jl.map tx)]⟩
def yU(aI:aW)(jl:aC)(i1:Nat)(eP:aU)(yE:aC)(tX:aC)(kY:Int):St:=⟨[(1,D.ptr 0 0),(3,D.acc 1),(4,D.int .i64 (i1:Int)),(5,D.ptr 2 0),(6,D.acc 3),(7,D.acc 4),(8,D.int .i64 kY)],[Ob.box (aW.c aI),Ob.row .uq 9 1 (jl.map tx),Ob.box [D.int .i64 eP.kind,D.str eP.pat.rel,D.sl (eP.pat.args.map tx),D.str eP.left,D.str eP.right],Ob.row .uq 9 1 (yE.map tx),Ob.row .uq 9 1 (tX.map tx)]⟩
theorem xE(hΓ:Γ.nt=145){aI:aW}{jl:aC}{i1:Nat}{eP:aU}{yE:aC}{tX:aC}{r:Bool}{k2:Option Bool}(B9:k2=some r->Ax Γ N f9 (.q [[none]] (D.bool r)) [1,1,1,0,1,0,0,1,1] ⟨[(1,D.ptr 0 0),(3,D.acc 1),(4,D.int .i64 (i1:Int))],[Ob.box (aW.c aI),Ob.row .uq 9 1 (jl.map tx)]⟩)(hm2:tX.length<=maxLen):∀(rest:aC) (i2:Nat),tX.drop i2=rest->dU aI jl i1 eP yE tX k2 rest i2=some r->Ar Γ N f9 (.q [[none]] (D.bool r)) [1,1,1,0,1,0,0,1,0,0,1,1,1,1,1,0] (rest.length+1) (yU aI jl i1 eP yE tX (i2:Int)):=by
 intro rest
 induction rest with
 |nil=>
  intro i2 hd2 h;rw[dU]at h;refine aj fun N2 wU tQ=>?_
  exact((ah.ge tx hd2).a [.hl 3 [1,3,4] [0,1]]).ex hΓ wU (B9 h)
 |cons wC vp ih2=>
  intro i2 hd2 h;rw[dU]at h;refine aj fun N2 wU tQ=>?_
  obtain⟨OW,h711,h⟩:=aE h;obtain⟨Qp,h713,h⟩:=aE h;have MG:=((((((ah.lt tx hd2).i (kM tx 1 (dc hd2))).o 1 1 .uq (cK tx (dc hd2))).g (fH h711)).a [.n 21]).g (py h713))
  obtain⟨h714,h⟩|⟨h714,h⟩:=aL h
  ·have MH:=(MG.r 3 h714)
   obtain⟨h715,h⟩|⟨h715,h⟩:=aL h
   ·have h:=aT h;subst h;exact((((((MH.r 4 h715).a [bF,bF]).r 2 h715).a [bF,bF,bF,bF,bF,bF,bF]).r 2 h715).T 1).ret hΓ
   ·have MI:=(MH.r 4 h715)
    obtain⟨h716,h⟩|⟨h716,h⟩:=aL h
    ·exact((((((MI.r 2 h716).b h715).b h716).r 11 h715).F 1).a [.cn [1,3,4,5,6,7,8] [0,1,2,3,4]]).ct hΓ tQ (iS hd2 hm2) (ih2 (i2+1) (dn hd2) h)
    ·exact((((((((((MI.r 2 h716).b h715).b h716).b h715).F 7).b h715).F 1).b h715).F 1).a [.cn [1,3,4,5,6,7,8] [0,1,2,3,4]]).ct hΓ tQ (iS hd2 hm2) (ih2 (i2+1) (dn hd2) h)
  ·have MJ:=((MG.r 3 h714).F 4)
   obtain⟨h717,h⟩|⟨h717,h⟩:=aL h
   ·have MK:=((((MJ.r 2 h717).F 1).b h717).F 1)
    obtain⟨h718,h⟩|⟨h718,h⟩:=aL h
    ·obtain⟨Qq,h720,h⟩:=aE h;have ML:=(((((((((MK.r 5 h718).i (kM tx 1 (dc hd2))).b h718).o 1 1 .uq (cK tx (dc hd2))).b h718).g (mm h720)).F 1).b h718).F 1)
     obtain⟨h721,h⟩|⟨h721,h⟩:=aL h
     ·have h:=aT h;subst h;exact(ML.b h721).ret hΓ
     ·exact((ML.b h721).a [.cn [1,3,4,5,6,7,8] [0,1,2,3,4]]).ct hΓ tQ (iS hd2 hm2) (ih2 (i2+1) (dn hd2) h)
    ·exact(((((MK.r 7 h718).F 1).b h718).F 2).a [.cn [1,3,4,5,6,7,8] [0,1,2,3,4]]).ct hΓ tQ (iS hd2 hm2) (ih2 (i2+1) (dn hd2) h)
   ·exact(((((MJ.r 2 h717).F 1).b h717).F 12).a [.cn [1,3,4,5,6,7,8] [0,1,2,3,4]]).ct hΓ tQ (iS hd2 hm2) (ih2 (i2+1) (dn hd2) h)
def yV(aI:aW)(jl:aC)(i1:Nat)(eP:aU)(yF:aC)(tY:aC)(kY:Int):St:=⟨[(1,D.ptr 0 0),(3,D.acc 1),(4,D.int .i64 (i1:Int)),(5,D.ptr 2 0),(6,D.acc 3),(7,D.acc 4),(8,D.int .i64 kY)],[Ob.box (aW.c aI),Ob.row .uq 9 1 (jl.map tx),Ob.box [D.int .i64 eP.kind,D.str eP.pat.rel,D.sl (eP.pat.args.map tx),D.str eP.left,D.str eP.right],Ob.row .uq 9 1 (yF.map tx),Ob.row .uq 9 1 (tY.map tx)]⟩
theorem xF(hΓ:Γ.nt=145){aI:aW}{jl:aC}{i1:Nat}{eP:aU}{yF:aC}{tY:aC}{r:Bool}{k3:Option Bool}(P9:k3=some r->Ax Γ N f9 (.q [[none]] (D.bool r)) [1,1,1,0,1,0,0,1,1] ⟨[(1,D.ptr 0 0),(3,D.acc 1),(4,D.int .i64 (i1:Int))],[Ob.box (aW.c aI),Ob.row .uq 9 1 (jl.map tx)]⟩)(Kf:tY.length<=maxLen):∀(rest:aC) (i3:Nat),tY.drop i3=rest->dV aI jl i1 eP yF tY k3 rest i3=some r->Ar Γ N f9 (.q [[none]] (D.bool r)) [1,1,1,0,1,0,0,1,0,0,1,1,1,1,1,0] (rest.length+1) (yV aI jl i1 eP yF tY (i3:Int)):=by
 intro rest
 induction rest with
 |nil=>
  intro i3 w6 h;rw[dV]at h;refine aj fun N3 Lw HC=>?_
  exact((ah.ge tx w6).a [.hl 3 [1,3,4] [0,1]]).ex hΓ Lw (P9 h)
 |cons Lg HJ ih3=>
  intro i3 w6 h;rw[dV]at h;refine aj fun N3 Lw HC=>?_
  obtain⟨OX,h786,h⟩:=aE h;obtain⟨Qr,h788,h⟩:=aE h;have MM:=((((((ah.lt tx w6).i (kM tx 1 (dc w6))).o 1 1 .uq (cK tx (dc w6))).g (fH h786)).a [.n 21]).g (py h788))
  obtain⟨h789,h⟩|⟨h789,h⟩:=aL h
  ·have MN:=(MM.r 3 h789)
   obtain⟨h790,h⟩|⟨h790,h⟩:=aL h
   ·have h:=aT h;subst h;exact((((((MN.r 4 h790).a [bF,bF]).r 2 h790).a [bF,bF,bF,bF,bF,bF,bF]).r 2 h790).T 1).ret hΓ
   ·have MO:=(MN.r 4 h790)
    obtain⟨h791,h⟩|⟨h791,h⟩:=aL h
    ·exact((((((MO.r 2 h791).b h790).b h791).r 11 h790).F 1).a [.cn [1,3,4,5,6,7,8] [0,1,2,3,4]]).ct hΓ HC (iS w6 Kf) (ih3 (i3+1) (dn w6) h)
    ·exact((((((((((MO.r 2 h791).b h790).b h791).b h790).F 7).b h790).F 1).b h790).F 1).a [.cn [1,3,4,5,6,7,8] [0,1,2,3,4]]).ct hΓ HC (iS w6 Kf) (ih3 (i3+1) (dn w6) h)
  ·have MP:=((MM.r 3 h789).F 4)
   obtain⟨h792,h⟩|⟨h792,h⟩:=aL h
   ·have MQ:=((((MP.r 2 h792).F 1).b h792).F 1)
    obtain⟨h793,h⟩|⟨h793,h⟩:=aL h
    ·obtain⟨Qs,h795,h⟩:=aE h;have MR:=(((((((((MQ.r 5 h793).i (kM tx 1 (dc w6))).b h793).o 1 1 .uq (cK tx (dc w6))).b h793).g (mm h795)).F 1).b h793).F 1)
     obtain⟨h796,h⟩|⟨h796,h⟩:=aL h
     ·have h:=aT h;subst h;exact(MR.b h796).ret hΓ
     ·exact((MR.b h796).a [.cn [1,3,4,5,6,7,8] [0,1,2,3,4]]).ct hΓ HC (iS w6 Kf) (ih3 (i3+1) (dn w6) h)
    ·exact(((((MQ.r 7 h793).F 1).b h793).F 2).a [.cn [1,3,4,5,6,7,8] [0,1,2,3,4]]).ct hΓ HC (iS w6 Kf) (ih3 (i3+1) (dn w6) h)
   ·exact(((((MP.r 2 h792).F 1).b h792).F 12).a [.cn [1,3,4,5,6,7,8] [0,1,2,3,4]]).ct hΓ HC (iS w6 Kf) (ih3 (i3+1) (dn w6) h)
theorem xD(hΓ:Γ.nt=145){aI:aW}{jl:aC}{r:Bool}{k1:Option Bool}(mR:k1=some r->Ax Γ N f9 (.q [[none]] (D.bool r)) [1,1,1,1] ⟨[(1,D.ptr 0 0),(3,D.acc 1)],[Ob.box (aW.c aI),Ob.row .uq 9 1 (jl.map tx)]⟩)(hm1:aI.conds.length<=maxLen):∀(rest:bP) (i1:Nat),aI.conds.drop i1=rest->fo aI jl k1 rest i1=some r->Ar Γ N f9 (.q [[none]] (D.bool r)) [1,1,1,0,1,0] (rest.length+1) (yT aI jl (i1:Int)):=by
 intro rest
 induction rest with
 |nil=>
  intro i1 cE h;rw[fo]at h;refine aj fun N1 hN1 iJ=>?_
  exact((ah.ge aU.c cE).a [.hl 0 [1,3] [0,1]]).ex hΓ hN1 (mR h)
 |cons eP js ih1=>
  intro i1 cE h;rw[fo]at h;refine aj fun N1 hN1 iJ=>?_
  obtain⟨Qo,h644,h⟩:=aE h;have MS:=(((ah.lt aU.c cE).l (cz aU.c 5 (dc cE) rfl)).g (hO h644))
  obtain⟨h645,h⟩|⟨h645,h⟩:=aL h
  ·have h:=aT h;subst h;exact((((MS.r 3 h645).a [bF,bF,bF]).r 2 h645).T 1).ret hΓ
  ·have MT:=(MS.r 3 h645)
   obtain⟨h646,h⟩|⟨h646,h⟩:=aL h
   ·have MU:=((((MT.r 3 h646).b h645).b h646).b h645)
    obtain⟨h647,h⟩|⟨h647,h⟩:=aL h
    ·have h:=aT h;subst h;exact(MU.b h647).ret hΓ
    ·obtain⟨yE,h649,h⟩:=aE h;obtain⟨tX,h651,h⟩:=aE h;obtain⟨h722,h⟩:=bp h;refine((((MU.b h647).g (fG h649)).g (jY h651)).a [.cn [1,3,4,5,6,7,8] [0,1,2,3,4]]).lp hΓ (xE hΓ (fun h=>?_) (av h722) tX 0 rfl h);exact(ah.a [.cn [1,3,4] [0,1]]).ct hΓ iJ (iS cE hm1) (ih1 (i1+1) (dn cE) h)
   ·obtain⟨yF,h724,h⟩:=aE h;obtain⟨tY,h726,h⟩:=aE h;obtain⟨h797,h⟩:=bp h;refine((((((((MT.r 3 h646).b h645).b h646).b h645).F 1).g (fG h724)).g (jY h726)).a [.cn [1,3,4,5,6,7,8] [0,1,2,3,4]]).lp hΓ (xF hΓ (fun h=>?_) (av h797) tY 0 rfl h);exact(ah.a [.cn [1,3,4] [0,1]]).ct hΓ iJ (iS cE hm1) (ih1 (i1+1) (dn cE) h)
def yW(aI:aW)(jl:aC)(kY:Int):St:=⟨[(1,D.ptr 0 0),(3,D.acc 1),(10,D.int .i64 kY)],[Ob.box (aW.c aI),Ob.row .uq 9 1 (jl.map tx)]⟩
def yX(aI:aW)(jl:aC)(i4:Nat)(yG:aC)(kY:Int):St:=⟨[(1,D.ptr 0 0),(3,D.acc 1),(10,D.int .i64 (i4:Int)),(11,D.acc 2),(12,D.int .i64 kY)],[Ob.box (aW.c aI),Ob.row .uq 9 1 (jl.map tx),Ob.row .uq 9 1 (yG.map tx)]⟩
theorem xH(hΓ:Γ.nt=145){aI:aW}{jl:aC}{i4:Nat}{yG:aC}{r:Bool}{k5:Option Bool}(UJ:k5=some r->Ax Γ N f9 (.q [[none]] (D.bool r)) [1,1,1,1,0,1,0,0,1,1] ⟨[(1,D.ptr 0 0),(3,D.acc 1),(10,D.int .i64 (i4:Int))],[Ob.box (aW.c aI),Ob.row .uq 9 1 (jl.map tx)]⟩)(Um:yG.length<=maxLen):∀(rest:aC) (i5:Nat),yG.drop i5=rest->iA aI jl i4 yG k5 rest i5=some r->Ar Γ N f9 (.q [[none]] (D.bool r)) [1,1,1,1,0,1,0,0,1,0,0,1,1,1,0] (rest.length+1) (yX aI jl i4 yG (i5:Int)):=by
 intro rest
 induction rest with
 |nil=>
  intro i5 NR h;rw[iA]at h;refine aj fun N5 T8 T9=>?_
  exact((ah.ge tx NR).a [.hl 3 [1,3,10] [0,1]]).ex hΓ T8 (UJ h)
 |cons Tr Ts ih5=>
  intro i5 NR h;rw[iA]at h;refine aj fun N5 T8 T9=>?_
  obtain⟨Qu,h953,h⟩:=aE h;have MV:=((((ah.lt tx NR).i (kM tx 1 (dc NR))).o 1 1 .uq (cK tx (dc NR))).g (fH h953))
  obtain⟨h954,h⟩|⟨h954,h⟩:=aL h
  ·have h:=aT h;subst h;exact(MV.b h954).ret hΓ
  ·exact((MV.b h954).a [.cn [1,3,10,11,12] [0,1,2]]).ct hΓ T9 (iS NR Um) (ih5 (i5+1) (dn NR) h)
theorem xG(hΓ:Γ.nt=145){aI:aW}{jl:aC}{r:Bool}{k4:Option Bool}(RO:k4=some r->Ax Γ N f9 (.q [[none]] (D.bool r)) [1,1,1,1,1] ⟨[(1,D.ptr 0 0)],[Ob.box (aW.c aI)]⟩)(S5:aI.bg.length<=maxLen):∀(rest:cg) (i4:Nat),aI.bg.drop i4=rest->hY aI jl k4 rest i4=some r->Ar Γ N f9 (.q [[none]] (D.bool r)) [1,1,1,1,0,1,0] (rest.length+1) (yW aI jl (i4:Int)):=by
 intro rest
 induction rest with
 |nil=>
  intro i4 EY h;rw[hY]at h;refine aj fun N4 PD PE=>?_
  exact((ah.ge Action.c EY).a [.hl 0 [1] [0]]).ex hΓ PD (RO h)
 |cons On Qi ih4=>
  intro i4 EY h;rw[hY]at h;refine aj fun N4 PD PE=>?_
  obtain⟨Qt,h927,h⟩:=aE h;have MW:=(((ah.lt Action.c EY).l (cz Action.c 3 (dc EY) rfl)).g (uM h927))
  obtain⟨h928,h⟩|⟨h928,h⟩:=aL h
  ·have h:=aT h;subst h;exact(MW.b h928).ret hΓ
  ·obtain⟨yG,h930,h⟩:=aE h;obtain⟨h955,h⟩:=bp h;refine((((MW.b h928).l (cz Action.c 3 (dc EY) rfl)).g (jF h930)).a [.cn [1,3,10,11,12] [0,1,2]]).lp hΓ (xH hΓ (fun h=>?_) (av h955) yG 0 rfl h);exact(ah.a [.cn [1,3,10] [0,1]]).ct hΓ PE (iS EY S5) (ih4 (i4+1) (dn EY) h)
theorem dD{aI:aW}{r:Bool}(h:iE aI=some r):Good prog 9 [D.agg (aW.c aI)] (D.bool r):=by
 refine gd func9 [[none]] 145 fun hr Γ hΓ=>?_
 rw[iE]at h;obtain⟨y1,h2,h⟩:=aE h;obtain⟨h3,h⟩|⟨h3,h⟩:=aL h
 ·have h:=aT h;subst h;exact(((ah.g (kH h2)).r 5 h3).T 13).ret hΓ
 ·obtain⟨y4,h5,h⟩:=aE h;have MX:=((((ah.g (kH h2)).r 3 h3).g (ez h5)).r 2 h3)
  obtain⟨h6,h⟩|⟨h6,h⟩:=aL h
  ·have h:=aT h;subst h;exact((MX.r 6 h6).T 7).ret hΓ
  ·obtain⟨y7,h8,h⟩:=aE h;have MY:=(((MX.r 4 h6).g (ez h8)).r 2 h6)
   obtain⟨h9,h⟩|⟨h9,h⟩:=aL h
   ·have h:=aT h;subst h;exact((MY.r 6 h9).T 1).ret hΓ
   ·obtain⟨yt,h11,h⟩:=aE h;have MZ:=(((MY.r 4 h9).g (ez h11)).r 2 h9)
    obtain⟨h12,h⟩|⟨h12,h⟩:=aL h
    ·have h:=aT h;subst h;exact(MZ.b h12).ret hΓ
    ·obtain⟨jl,h14,h⟩:=aE h;refine(((MZ.b h12).g (fG h14)).a [.cn [1,3,4] [0,1]]).lp hΓ (xD hΓ (fun h=>?_) (by have:=(n7.sl (n7.agg (hr _ (aD (i:=0) rfl)) (.sl (aI.conds.map aU.c)) (by simp))).1;simpa using this) aI.conds 0 rfl h);refine(ah.a [.cn [1,3,10] [0,1]]).lp hΓ (xG hΓ (fun h=>?_) (by have:=(n7.sl (n7.agg (hr _ (aD (i:=0) rfl)) (.sl (aI.bg.map Action.c)) (by simp))).1;simpa using this) aI.bg 0 rfl h);obtain⟨Qv,h957,h⟩:=aE h;cases h;exact(ah.g (uQ h957)).ret hΓ
def jR(aI:Bytes)(bY:Bytes)(k1:Int->aC->Option aC):Nat->Int->Int->aC->Option aC
 |0,_,_,_=>none
 |n1+1,jm,sV,dL=>(bif decide ((IntKind.i64.wrap (sV+(bY.length:Int)):Int)<=(aI.length:Int))then((o8 aI.length (some (D.int .i64 sV)) (some (D.int .i64 (IntKind.i64.wrap (sV+(bY.length:Int)))))).bind fun p=>(fun Sm Sz=>(bif ((aI.take Sz).drop Sm:Bytes)==bY then((o8 aI.length (some (D.int .i64 jm)) (some (D.int .i64 sV))).bind fun p=>(fun Oh Ol=>(bif room ((dL.map tx).length+([[D.str ((aI.take Ol).drop Oh)]]).length) 16 then(jR aI bY k1 n1 (IntKind.i64.wrap (sV+(bY.length:Int))) (IntKind.i64.wrap (sV+(bY.length:Int))) (dL++([(aI.take Ol).drop Oh])))else none)) p.1 p.2)else(jR aI bY k1 n1 jm (IntKind.i64.wrap (sV+1)) dL))) p.1 p.2)else(k1 jm dL))
def gK(aI:Bytes)(bY:Bytes):Option aC:=(bif (bY:Bytes)==([])then(bif room (([]:List aG).length+([[D.str aI]]).length) 16 then(some (([]:aC)++([aI])))else none)else(jR aI bY (fun(Ay:Int) (iO:aC)=>((o8 aI.length (some (D.int .i64 Ay)) none).bind fun p=>(fun Q4 Qe=>(bif room ((iO.map tx).length+([[D.str ((aI.take Qe).drop Q4)]]).length) 16 then(some (iO++([(aI.take Qe).drop Q4])))else none)) p.1 p.2)) fuel 0 0 ([]:aC)))
def sr(aI:Bytes)(bY:Bytes)(jm:Int)(sV:Int)(W2:List aG):St:=⟨[(0,D.str aI),(1,D.str bY),(5,D.acc 0),(6,D.int .i64 jm),(7,D.int .i64 sV)],[Ob.row .uq 9 1 W2]⟩
theorem yY(hΓ:Γ.nt=51){aI:Bytes}{bY:Bytes}{r:aC}{k1:Int->aC->Option aC}(mR:∀(Ay:Int) (iO:aC),k1 Ay iO=some r->Ax Γ N f40 (.q [[some (9,1)]] (D.fr 9 1 (r.map tx))) [1,1,1,1,1] ⟨[(0,D.str aI),(5,D.acc 0),(6,D.int .i64 Ay)],[Ob.row .uq 9 1 (iO.map tx)]⟩):∀(n1:Nat) (jm:Int) (sV:Int) (dL:aC),jR aI bY k1 n1 jm sV dL=some r->Ar Γ N f40 (.q [[some (9,1)]] (D.fr 9 1 (r.map tx))) [1,1,1,1,0,1,0] n1 (sr aI bY jm sV (dL.map tx)):=by
 intro n
 induction n with
 |zero=>intro jm sV dL h;simp[jR]at h
 |succ n1 ih1=>
  intro jm sV dL h;rw[jR]at h;refine aj fun N1 hN1 iJ=>?_
  obtain⟨h48,h⟩|⟨h48,h⟩:=aL h
  ·obtain⟨⟨Sm,Sz⟩,h51,h⟩:=aE h;have kw:=(((ah.b h48).w h51).a [.cut Sm Sz])
   obtain⟨h52,h⟩|⟨h52,h⟩:=aL h
   ·obtain⟨⟨Oh,Ol⟩,h55,h⟩:=aE h;obtain⟨h56,h⟩:=bp h;exact((((kw.b h52).w h55).w (eA h56)).a [.cut Oh Ol,.cn [0,1,5,6,7] [2]]).cs hΓ iJ (sr aI bY (IntKind.i64.wrap (sV+(bY.length:Int))) (IntKind.i64.wrap (sV+(bY.length:Int))) ((dL.map tx)++([[D.str ((aI.take Ol).drop Oh)]]))) (by first| (simp only[mA]<;>rfl)| (simp only[mA,bE.c,nq.c,aU.c,Action.c,aW.c,l8.c,lK.c,l6.c,Node.c,gb.c,mF.c]<;>rfl)) (ih1 (IntKind.i64.wrap (sV+(bY.length:Int))) (IntKind.i64.wrap (sV+(bY.length:Int))) (dL++([(aI.take Ol).drop Oh])) h)
   ·exact((kw.b h52).a [.cn [0,1,5,6,7] [0]]).cf hΓ iJ (ih1 jm (IntKind.i64.wrap (sV+1)) dL h)
  ·exact((ah.b h48).a [.hl 0 [0,5,6] [0]]).ex hΓ hN1 (mR jm dL h)
theorem dZ{aI:Bytes}{bY:Bytes}{r:aC}(h:gK aI bY=some r):Good prog 40 [D.str aI,D.str bY] (D.fr 9 1 (r.map tx)):=by
 refine gd func40 [[some (9,1)]] 51 fun hr Γ hΓ=>?_
 rw[gK]at h;obtain⟨h1,h⟩|⟨h1,h⟩:=aL h
 ·obtain⟨h2,h⟩:=bp h;cases h;exact(((ah.a [.JD 4]).b h1).w (eA h2)).rts hΓ (D.fr 9 1 (([]:List aG)++([[D.str aI]]))) (by first|rfl| (simp only[mA]<;>rfl))
 ·refine(((ah.a [.JD 4]).b h1).a [.cn [0,1,5,6,7] [1]]).lp hΓ (yY hΓ (fun Ay iO h=>?_) fuel 0 0 ([]:aC) h);obtain⟨⟨Q4,Qe⟩,h59,h⟩:=aE h;obtain⟨h60,h⟩:=bp h;cases h;exact(((ah.w h59).w (eA h60)).a [.cut Q4 Qe]).rts hΓ (D.fr 9 1 ((iO.map tx)++([[D.str ((aI.take Qe).drop Q4)]]))) (by first|rfl| (simp only[mA]<;>rfl)| (simp only[mA,au]<;>rfl))
def gj(k1:Option Bytes):Nat->Int->Bytes->Option Bytes
 |0,_,_=>none
 |n1+1,vA,ga=>(bif decide (0<=(vA:Int))&&decide (0<(10:Int))then(bif decide (([UInt8.ofNat (IntKind.u8.wrap (IntKind.i64.wrap (48+((vA:Int)%10)))).toNat]:Bytes).length+(ga:Bytes).length<=maxLen)then(bif decide (0<=(vA:Int))&&decide (0<(10:Int))then(bif ((vA:Int)/10:Int)==0 then(some (([UInt8.ofNat (IntKind.u8.wrap (IntKind.i64.wrap (48+((vA:Int)%10)))).toNat])++ga))else(gj k1 n1 ((vA:Int)/10) (([UInt8.ofNat (IntKind.u8.wrap (IntKind.i64.wrap (48+((vA:Int)%10)))).toNat])++ga)))else none)else none)else none)
def hG:Nat->Int->Option Bytes
 |0,_=>none
 |m_+1,aI=>(bif (aI:Int)==(-9223372036854775808)then(some ([45,57,50,50,51,51,55,50,48,51,54,56,53,52,55,55,53,56,48,56]))else(bif decide ((aI:Int)<0)then((hG m_ (IntKind.i64.wrap (0-aI))).bind fun y3=>(bif decide (([45]:Bytes).length+(y3:Bytes).length<=maxLen)then(some (([45])++y3))else none))else(gj none fuel aI ([]))))
def tL(vA:Int)(ga:Bytes):St:=⟨[(0,D.int .i64 vA),(3,D.str ga)],[]⟩
theorem sK(hΓ:Γ.nt=25){r:Bytes}{k1:Option Bytes}(mR:k1=some r->Ax Γ N f79 (.q [[none]] (D.str r)) [1,1,1,1,0,0] ⟨[],[]⟩):∀(n1:Nat) (vA:Int) (ga:Bytes),gj k1 n1 vA ga=some r->Ar Γ N f79 (.q [[none]] (D.str r)) [1,1,1,1,0] n1 (tL vA ga):=by
 intro n
 induction n with
 |zero=>intro vA ga h;simp[gj]at h
 |succ n1 ih1=>
  intro vA ga h;rw[gj]at h;refine aj fun N1 hN1 iJ=>?_
  obtain⟨h14,h⟩:=bp h;obtain⟨h15,h⟩:=bp h;obtain⟨h16,h⟩:=bp h;have kw:=(((ah.w (Cb .i64 h14)).w (av h15)).w (Cb .i64 h16))
  obtain⟨h17,h⟩|⟨h17,h⟩:=aL h
  ·cases h;exact(kw.b h17).rts hΓ (D.str (([UInt8.ofNat (IntKind.u8.wrap (IntKind.i64.wrap (48+((vA:Int)%10)))).toNat])++ga)) (by first|rfl| (simp only[mA]<;>rfl))
  ·exact((kw.b h17).a [.cn [0,3] []]).cf hΓ iJ (ih1 ((vA:Int)/10) (([UInt8.ofNat (IntKind.u8.wrap (IntKind.i64.wrap (48+((vA:Int)%10)))).toNat])++ga) h)
theorem rQ{m_:Nat}(V8:∀ {aI:Int} {r:Bytes},hG m_ aI=some r->Good prog 79 [D.int .i64 aI] (D.str r)){aI:Int}{r:Bytes}(h:hG (m_+1) aI=some r):Good prog 79 [D.int .i64 aI] (D.str r):=by
 refine gd func79 [[none]] 25 fun hr Γ hΓ=>?_
 rw[hG]at h;obtain⟨h1,h⟩|⟨h1,h⟩:=aL h
 ·cases h;exact(ah.b h1).ret hΓ
 ·obtain⟨h2,h⟩|⟨h2,h⟩:=aL h
  ·obtain⟨y3,h4,h⟩:=aE h;obtain⟨h5,h⟩:=bp h;cases h;exact((((ah.b h1).b h2).g (V8 h4)).w (av h5)).rts hΓ (D.str (([45])++y3)) (by first|rfl| (simp only[mA]<;>rfl))
  ·refine(((ah.b h1).b h2).a [.cn [0,3] []]).lp hΓ (sK hΓ (fun h=>?_) fuel aI ([]) h);cases h
theorem mj:∀(m_:Nat) {aI:Int} {r:Bytes},hG m_ aI=some r->Good prog 79 [D.int .i64 aI] (D.str r)
 |0,_,_,h=>by cases h
 |m_+1,_,_,h=>rQ (fun h=>mj m_ h) h
def rP(aI:Int):Option Bytes:=hG fuel aI
theorem nP{aI:Int}{r:Bytes}(h:rP aI=some r):Good prog 79 [D.int .i64 aI] (D.str r):=mj fuel h
def jE(aI:Bytes)(k1:Int->Option (Int×Bool)):Nat->Int->Int->Option (Int×Bool)
 |0,_,_=>none
 |n1+1,kA,Av=>(bif decide ((Av:Int)<(aI.length:Int))then((k8 aI Av).bind fun P4=>(bif decide ((P4.toNat:Int)<48)then(some (0,false))else(bif decide ((P4.toNat:Int)>57)then(some (0,false))else(jE aI k1 n1 (IntKind.i64.wrap ((IntKind.i64.wrap (10*kA))+(IntKind.i64.wrap (IntKind.u8.wrap (P4.toNat-48))))) (IntKind.i64.wrap (Av+1))))))else(k1 kA))
def oP(aI:Bytes):Option (Int×Bool):=((gY (aI.length:Int) 1 4).bind fun y1=>(bif !(y1)then(some (0,false))else(jE aI (fun(HA:Int)=>((rP HA).bind fun Tu=>(bif !((Tu:Bytes)==aI)then(some (0,false))else(some (HA,true))))) fuel 0 0)))
def wJ(aI:Bytes)(kA:Int)(Av:Int):St:=⟨[(0,D.str aI),(4,D.int .i64 kA),(5,D.int .i64 Av)],[]⟩
theorem vX(hΓ:Γ.nt=39){aI:Bytes}{r:Int×Bool}{k1:Int->Option (Int×Bool)}(mR:∀(HA:Int),k1 HA=some r->Ax Γ N f41 (.q [[none],[none]] (D.fy [D.int .i64 r.1,D.bool r.2])) [1,1,1,1] ⟨[(0,D.str aI),(4,D.int .i64 HA)],[]⟩):∀(n1:Nat) (kA:Int) (Av:Int),jE aI k1 n1 kA Av=some r->Ar Γ N f41 (.q [[none],[none]] (D.fy [D.int .i64 r.1,D.bool r.2])) [1,1,1,0,1,0] n1 (wJ aI kA Av):=by
 intro n
 induction n with
 |zero=>intro kA Av h;simp[jE]at h
 |succ n1 ih1=>
  intro kA Av h;rw[jE]at h;refine aj fun N1 hN1 iJ=>?_
  obtain⟨h24,h⟩|⟨h24,h⟩:=aL h
  ·obtain⟨P4,h26,h⟩:=aE h;have mJ:=((ah.b h24).c h26)
   obtain⟨h27,h⟩|⟨h27,h⟩:=aL h
   ·cases h;exact((mJ.r 5 h27).T 1).ret hΓ
   ·have mN:=(((mJ.r 3 h27).c h26).r 2 h27)
    obtain⟨h28,h⟩|⟨h28,h⟩:=aL h
    ·cases h;exact(mN.b h28).ret hΓ
    ·exact(((mN.b h28).c h26).a [.cn [0,4,5] []]).cf hΓ iJ (ih1 (IntKind.i64.wrap ((IntKind.i64.wrap (10*kA))+(IntKind.i64.wrap (IntKind.u8.wrap (P4.toNat-48))))) (IntKind.i64.wrap (Av+1)) h)
  ·exact((ah.b h24).a [.hl 0 [0,4] []]).ex hΓ hN1 (mR kA h)
theorem uP{aI:Bytes}{r:Int×Bool}(h:oP aI=some r):Good prog 41 [D.str aI] (D.fy [D.int .i64 r.1,D.bool r.2]):=by
 refine gd func41 [[none],[none]] 39 fun hr Γ hΓ=>?_
 rw[oP]at h;obtain⟨y1,h2,h⟩:=aE h;obtain⟨h3,h⟩|⟨h3,h⟩:=aL h
 ·cases h;exact((ah.g (ez h2)).b h3).ret hΓ
 ·refine(((ah.g (ez h2)).b h3).a [.cn [0,4,5] []]).lp hΓ (vX hΓ (fun HA h=>?_) fuel 0 0 h);obtain⟨Tu,h30,h⟩:=aE h;obtain⟨h31,h⟩|⟨h31,h⟩:=aL h
  ·cases h;exact((ah.g (nP h30)).b h31).ret hΓ
  ·cases h;exact((ah.g (nP h30)).b h31).ret hΓ
def qz(aI:Int):Option Bytes:=(bif (aI:Int)==3 then(some ([32,61,32]))else(bif (aI:Int)==4 then(some ([32,33,61,32]))else(some ([32,60,32]))))
theorem wO{aI:Int}{r:Bytes}(h:qz aI=some r):Good prog 113 [D.int .i64 aI] (D.str r):=by
 refine gd func113 [[none]] 8 fun hr Γ hΓ=>?_
 rw[qz]at h;obtain⟨h1,h⟩|⟨h1,h⟩:=aL h
 ·cases h;exact(ah.b h1).ret hΓ
 ·obtain⟨h2,h⟩|⟨h2,h⟩:=aL h
  ·cases h;exact((ah.b h1).b h2).ret hΓ
  ·cases h;exact((ah.b h1).b h2).ret hΓ
def qA(aI:Bytes):Option (Bytes×aC×Bool):=((gK aI ([40])).bind fun y1=>(bif (((y1.map tx).length:Int):Int) != 2 then(some ([],[],false))else((k8 y1 (1:Int)).bind fun x4=>(bif ((x4.length:Int):Int)==0 then(some ([],[],false))else((k8 x4 (IntKind.i64.wrap ((x4.length:Int)-1))).bind fun b7=>(bif (b7.toNat:Int) != 41 then(some ([],[],false))else((o8 x4.length none (some (D.int .i64 (IntKind.i64.wrap ((x4.length:Int)-1))))).bind fun p=>(fun l10 R6=>(bif ((x4.take R6).drop l10:Bytes)==([])then((k8 y1 (0:Int)).bind fun x14=>(some (x14,([]:aC),true)))else((k8 y1 (0:Int)).bind fun x16=>((gK ((x4.take R6).drop l10) ([44])).bind fun K7=>(some (x16,K7,true)))))) p.1 p.2)))))))
theorem om{aI:Bytes}{r:Bytes×aC×Bool}(h:qA aI=some r):Good prog 139 [D.str aI] (D.fy [D.str r.1,D.fr 9 1 (r.2.1.map tx),D.bool r.2.2]):=by
 refine gd func139 [[none],[some (9,1)],[none]] 51 fun hr Γ hΓ=>?_
 rw[qA]at h;obtain⟨y1,h2,h⟩:=aE h;have kQ:=((ah.g (dZ h2)).a [.n 19])
 obtain⟨h3,h⟩|⟨h3,h⟩:=aL h
 ·cases h;exact((kQ.r 6 h3).T 12).ret hΓ
 ·obtain⟨x4,h5,h⟩:=aE h;have kw:=(((((kQ.r 2 h3).i (gZ tx 1 h5)).b h3).o 1 1 .uq (cK tx (eO h5))).r 3 h3)
  obtain⟨h6,h⟩|⟨h6,h⟩:=aL h
  ·cases h;exact((kw.r 11 h6).T 1).ret hΓ
  ·obtain⟨b7,h8,h⟩:=aE h;have mJ:=(((((((((((kw.r 2 h6).i (gZ tx 1 h5)).b h6).o 1 1 .uq (cK tx (eO h5))).r 2 h6).i (gZ tx 1 h5)).b h6).o 1 1 .uq (cK tx (eO h5))).r 3 h6).c h8).r 2 h6)
   obtain⟨h9,h⟩|⟨h9,h⟩:=aL h
   ·cases h;exact(mJ.b h9).ret hΓ
   ·obtain⟨⟨l10,R6⟩,h12,h⟩:=aE h;have mN:=((((((((mJ.b h9).a [.n 8]).i (gZ tx 1 h5)).o 1 1 .uq (cK tx (eO h5))).i (gZ tx 1 h5)).o 1 1 .uq (cK tx (eO h5))).w h12).a [.cut l10 R6])
    obtain⟨h13,h⟩|⟨h13,h⟩:=aL h
    ·obtain⟨x14,h15,h⟩:=aE h;cases h;exact(((mN.b h13).i (gZ tx 1 h15)).o 1 1 .uq (cK tx (eO h15))).ret hΓ
    ·obtain⟨x16,h17,h⟩:=aE h;obtain⟨K7,h19,h⟩:=aE h;cases h;exact(((((mN.b h13).a [.n 5]).i (gZ tx 1 h17)).o 1 1 .uq (cK tx (eO h17))).g (dZ h19)).ret hΓ
def fD(aI:Bytes):Option (bE×Bool):=((qA aI).bind fun y1=>(bif !(y1.2.2)then(some ((⟨[],[]⟩:bE),false))else((ew (⟨y1.1,y1.2.1⟩:bE)).bind fun y4=>(bif !(y4)then(some ((⟨[],[]⟩:bE),false))else(some ((⟨y1.1,y1.2.1⟩:bE),true))))))
theorem fL{aI:Bytes}{r:bE×Bool}(h:fD aI=some r):Good prog 114 [D.str aI] (D.fy [D.agg [D.str r.1.rel,D.fr 9 1 (r.1.args.map tx)],D.bool r.2]):=by
 refine gd func114 [[none,some (9,1)],[none]] 26 fun hr Γ hΓ=>?_
 rw[fD]at h;obtain⟨y1,h2,h⟩:=aE h;obtain⟨h3,h⟩|⟨h3,h⟩:=aL h
 ·cases h;exact(((ah.g (om h2)).r 4 h3).T 1).ret hΓ
 ·obtain⟨y4,h5,h⟩:=aE h;have kQ:=(((((ah.g (om h2)).r 2 h3).a [.d (D.bool y4)]).w (show Good prog 75 [D.agg [D.str y1.1,D.sl (y1.2.1.map tx)]] (D.bool y4)from by first| (simpa only[aa,ax,bI,au,ay]using eL h5)|exact eL h5| (have t:=eL h5;simp only[aa,au,ay,bE.c]at t;exact t))).r 2 h3)
  obtain⟨h6,h⟩|⟨h6,h⟩:=aL h
  ·cases h;exact(kQ.b h6).ret hΓ
  ·cases h;exact(kQ.b h6).ret hΓ
def gW(aI:Bytes)(k1:Option (aU×Bool)):Nat->Int->Option (aU×Bool)
 |0,_=>none
 |n1+1,kA=>(bif decide ((kA:Int)<=5)then((qz kA).bind fun tW=>((gK aI tW).bind fun vE=>(bif (((vE.map tx).length:Int):Int)==2 then((k8 vE (0:Int)).bind fun x33=>((k8 vE (1:Int)).bind fun x35=>((jg (⟨kA,(⟨[],[]⟩:bE),x33,x35⟩:aU)).bind fun K8=>(bif K8 then(some ((⟨kA,(⟨[],[]⟩:bE),x33,x35⟩:aU),true))else(gW aI k1 n1 (IntKind.i64.wrap (kA+1)))))))else(gW aI k1 n1 (IntKind.i64.wrap (kA+1))))))else(k1))
def nU(aI:Bytes):Option (aU×Bool):=(gW aI (bif decide (((aI.length:Int):Int)>4)then((o8 aI.length none (some (D.int .i64 4))).bind fun p=>(fun Sk Sx=>(bif ((aI.take Sx).drop Sk:Bytes)==([110,111,116,32])then((o8 aI.length (some (D.int .i64 4)) none).bind fun p=>(fun Sl Sy=>((fD ((aI.take Sy).drop Sl)).bind fun K9=>(bif !(K9.2)then(some ((⟨0,(⟨[],[]⟩:bE),[],[]⟩:aU),false))else(some ((⟨2,K9.1,[],[]⟩:aU),true))))) p.1 p.2)else((fD aI).bind fun yw=>(bif !(yw.2)then(some ((⟨0,(⟨[],[]⟩:bE),[],[]⟩:aU),false))else(some ((⟨1,yw.1,[],[]⟩:aU),true)))))) p.1 p.2)else((fD aI).bind fun Mt=>(bif !(Mt.2)then(some ((⟨0,(⟨[],[]⟩:bE),[],[]⟩:aU),false))else(some ((⟨1,Mt.1,[],[]⟩:aU),true))))) fuel 3)
def vW(aI:Bytes)(kA:Int):St:=⟨[(0,D.str aI),(2,D.ptr 0 0),(4,D.int .i64 kA)],[Ob.box [D.int .i64 0,D.str ([]),D.nil,D.str ([]),D.str ([])]]⟩
theorem uO(hΓ:Γ.nt=55){aI:Bytes}{r:aU×Bool}{k1:Option (aU×Bool)}(mR:k1=some r->Ax Γ N f80 (.q [[none,none,some (9,1),none,none],[none]] (D.fy [D.agg [D.int .i64 r.1.kind,D.str r.1.pat.rel,D.fr 9 1 (r.1.pat.args.map tx),D.str r.1.left,D.str r.1.right],D.bool r.2])) [1,1] ⟨[(0,D.str aI),(2,D.ptr 0 0)],[Ob.box [D.int .i64 0,D.str ([]),D.nil,D.str ([]),D.str ([])]]⟩):∀(n1:Nat) (kA:Int),gW aI k1 n1 kA=some r->Ar Γ N f80 (.q [[none,none,some (9,1),none,none],[none]] (D.fy [D.agg [D.int .i64 r.1.kind,D.str r.1.pat.rel,D.fr 9 1 (r.1.pat.args.map tx),D.str r.1.left,D.str r.1.right],D.bool r.2])) [1,0,1,0] n1 (vW aI kA):=by
 intro n
 induction n with
 |zero=>intro kA h;simp[gW]at h
 |succ n1 ih1=>
  intro kA h;rw[gW]at h;refine aj fun N1 hN1 iJ=>?_
  obtain⟨h27,h⟩|⟨h27,h⟩:=aL h
  ·obtain⟨tW,h29,h⟩:=aE h;obtain⟨vE,h31,h⟩:=aE h;have mJ:=(((ah.b h27).g (wO h29)).g (dZ h31))
   obtain⟨h32,h⟩|⟨h32,h⟩:=aL h
   ·obtain⟨x33,h34,h⟩:=aE h;obtain⟨x35,h36,h⟩:=aE h;obtain⟨K8,h38,h⟩:=aE h;have mN:=((((((((mJ.b h32).a [.n 9]).i (gZ tx 1 h34)).o 1 1 .uq (cK tx (eO h34))).i (gZ tx 1 h36)).o 1 1 .uq (cK tx (eO h36))).a [.d (D.bool K8)]).w (show Good prog 30 [D.agg [D.int .i64 kA,D.str ([]),D.sl ([]),D.str x33,D.str x35]] (D.bool K8)from by first| (simpa only[aa,ax,bI,au,ay]using hO h38)|exact hO h38| (have t:=hO h38;simp only[aa,au,ay,aU.c]at t;exact t)))
    obtain⟨h39,h⟩|⟨h39,h⟩:=aL h
    ·cases h;exact(mN.b h39).ret hΓ
    ·exact((mN.b h39).a [.cn [0,2,4] [0]]).cf hΓ iJ (ih1 (IntKind.i64.wrap (kA+1)) h)
   ·exact((mJ.b h32).a [.cn [0,2,4] [0]]).cf hΓ iJ (ih1 (IntKind.i64.wrap (kA+1)) h)
  ·exact((ah.b h27).a [.hl 0 [0,2] [0]]).ex hΓ hN1 (mR h)
theorem tM{aI:Bytes}{r:aU×Bool}(h:nU aI=some r):Good prog 80 [D.str aI] (D.fy [D.agg [D.int .i64 r.1.kind,D.str r.1.pat.rel,D.fr 9 1 (r.1.pat.args.map tx),D.str r.1.left,D.str r.1.right],D.bool r.2]):=by
 refine gd func80 [[none,none,some (9,1),none,none],[none]] 55 fun hr Γ hΓ=>?_
 rw[nU]at h;refine(ah.a [.cn [0,2,4] [0]]).lp hΓ (uO hΓ (fun h=>?_) fuel 3 h);obtain⟨h40,h⟩|⟨h40,h⟩:=aL h
 ·obtain⟨⟨Sk,Sx⟩,h43,h⟩:=aE h;have ur:=((((ah.r 2 h40).w h43).a [.cut Sk Sx]).r 2 h40)
  obtain⟨h44,h⟩|⟨h44,h⟩:=aL h
  ·obtain⟨⟨Sl,Sy⟩,h47,h⟩:=aE h;obtain⟨K9,h49,h⟩:=aE h;have zJ:=((((ur.b h44).w h47).a [.cut Sl Sy]).g (fL h49))
   obtain⟨h50,h⟩|⟨h50,h⟩:=aL h
   ·cases h;exact(zJ.b h50).ret hΓ
   ·cases h;exact(zJ.b h50).ret hΓ
  ·obtain⟨yw,h52,h⟩:=aE h;have Aj:=((ur.b h44).g (fL h52))
   obtain⟨h53,h⟩|⟨h53,h⟩:=aL h
   ·cases h;exact(Aj.b h53).ret hΓ
   ·cases h;exact(Aj.b h53).ret hΓ
 ·obtain⟨Mt,h55,h⟩:=aE h;have Bg:=(((ah.r 4 h40).F 1).g (fL h55))
  obtain⟨h56,h⟩|⟨h56,h⟩:=aL h
  ·cases h;exact(Bg.b h56).ret hΓ
  ·cases h;exact(Bg.b h56).ret hΓ
def oQ(aI:Bytes):Option (Action×Bool):=(bif (aI:Bytes)==([115,116,111,112])then(some ((⟨3,(⟨[],[]⟩:bE)⟩:Action),true))else((gK aI ([32])).bind fun y2=>(bif (((y2.map tx).length:Int):Int) != 2 then(some ((⟨0,(⟨[],[]⟩:bE)⟩:Action),false))else((k8 y2 (0:Int)).bind fun x5=>(bif !((x5:Bytes)==([97,100,100]))then(bif !((x5:Bytes)==([100,114,111,112]))then(some ((⟨0,(⟨[],[]⟩:bE)⟩:Action),false))else((k8 y2 (1:Int)).bind fun x9=>((fD x9).bind fun Bw=>(bif (x5:Bytes)==([97,100,100])then(some ((⟨1,Bw.1⟩:Action),Bw.2))else(some ((⟨2,Bw.1⟩:Action),Bw.2))))))else((k8 y2 (1:Int)).bind fun x14=>((fD x14).bind fun Cv=>(bif (x5:Bytes)==([97,100,100])then(some ((⟨1,Cv.1⟩:Action),Cv.2))else(some ((⟨2,Cv.1⟩:Action),Cv.2))))))))))
theorem uS{aI:Bytes}{r:Action×Bool}(h:oQ aI=some r):Good prog 81 [D.str aI] (D.fy [D.agg [D.int .i64 r.1.kind,D.str r.1.pat.rel,D.fr 9 1 (r.1.pat.args.map tx)],D.bool r.2]):=by
 refine gd func81 [[none,none,some (9,1)],[none]] 45 fun hr Γ hΓ=>?_
 rw[oQ]at h;obtain⟨h1,h⟩|⟨h1,h⟩:=aL h
 ·cases h;exact(ah.b h1).ret hΓ
 ·obtain⟨y2,h3,h⟩:=aE h;have kQ:=((ah.b h1).g (dZ h3))
  obtain⟨h4,h⟩|⟨h4,h⟩:=aL h
  ·cases h;exact((((kQ.r 5 h4).a [bF,bF,bF,bF]).r 2 h4).T 1).ret hΓ
  ·obtain⟨x5,h6,h⟩:=aE h;have kw:=(((((kQ.r 2 h4).i (gZ tx 1 h6)).b h4).o 1 1 .uq (cK tx (eO h6))).r 2 h4)
   obtain⟨h7,h⟩|⟨h7,h⟩:=aL h
   ·have mJ:=((((((((kw.r 2 h7).i (gZ tx 1 h6)).b h7).o 1 1 .uq (cK tx (eO h6))).b h7).b h4).b h7).b h4)
    obtain⟨h8,h⟩|⟨h8,h⟩:=aL h
    ·cases h;exact(mJ.b h8).ret hΓ
    ·obtain⟨x9,h10,h⟩:=aE h;obtain⟨Bw,h12,h⟩:=aE h;have mN:=((((((mJ.b h8).i (gZ tx 1 h10)).o 1 1 .uq (cK tx (eO h10))).g (fL h12)).i (gZ tx 1 h6)).o 1 1 .uq (cK tx (eO h6)))
     obtain⟨h13,h⟩|⟨h13,h⟩:=aL h
     ·cases h;exact(mN.b h13).ret hΓ
     ·cases h;exact(mN.b h13).ret hΓ
   ·obtain⟨x14,h15,h⟩:=aE h;obtain⟨Cv,h17,h⟩:=aE h;have ur:=((((((((((kw.r 4 h7).b h4).b h7).b h4).F 1).i (gZ tx 1 h15)).o 1 1 .uq (cK tx (eO h15))).g (fL h17)).i (gZ tx 1 h6)).o 1 1 .uq (cK tx (eO h6)))
    obtain⟨h18,h⟩|⟨h18,h⟩:=aL h
    ·cases h;exact(ur.b h18).ret hΓ
    ·cases h;exact(ur.b h18).ret hΓ
def ja(aI:aW)(lD:Bytes)(y1:aC)(k1:bP->Option (aW×Bool)):aC->Nat->bP->Option (aW×Bool)
 | [],i1,iy=>(k1 iy)
 |eP::js,i1,iy=>((nU eP).bind fun EE=>(bif !(EE.2)then(some ((⟨aI.name,aI.prio,iy,[]⟩:aW),false))else(bif room ((iy.map aU.c).length+([[D.int .i64 EE.1.kind,D.str EE.1.pat.rel,D.sl (EE.1.pat.args.map tx),D.str EE.1.left,D.str EE.1.right]]).length) 80 then(ja aI lD y1 k1 js (i1+1) (iy++([EE.1])))else none)))
def jb(aI:aW)(kO:bP)(BP:aC)(k2:cg->Option (aW×Bool)):aC->Nat->cg->Option (aW×Bool)
 | [],i2,oD=>(k2 oD)
 |wC::vp,i2,oD=>((oQ wC).bind fun vq=>(bif !(vq.2)then(some ((⟨aI.name,aI.prio,kO,oD⟩:aW),false))else(bif room ((oD.map Action.c).length+([[D.int .i64 vq.1.kind,D.str vq.1.pat.rel,D.sl (vq.1.pat.args.map tx)]]).length) 48 then(jb aI kO BP k2 vp (i2+1) (oD++([vq.1])))else none)))
def qD(aI:aW)(bY:Bytes)(lD:Bytes):Option (aW×Bool):=((gK bY ([32,38,32])).bind fun y1=>(bif decide (y1.length<=maxLen)then(ja aI lD y1 (fun(kO:bP)=>((gK lD ([32,38,32])).bind fun BP=>(bif decide (BP.length<=maxLen)then(jb aI kO BP (fun(tT:cg)=>((iE (⟨aI.name,aI.prio,kO,tT⟩:aW)).bind fun R8=>(some ((⟨aI.name,aI.prio,kO,tT⟩:aW),R8)))) BP 0 ([]:cg))else none))) y1 0 ([]:bP))else none))
def ql(aI:aW)(lD:Bytes)(y1:aC)(W0:List aG)(kY:Int):St:=⟨[(2,D.str lD),(3,D.ptr 0 0),(6,D.ptr 1 0),(8,D.acc 2),(9,D.int .i64 kY)],[Ob.box [D.str aI.name,D.int .i64 aI.prio,D.acc 3,D.nil],Ob.box [D.str ([]),D.int .i64 0,D.nil,D.nil],Ob.row .uq 9 1 (y1.map tx),Ob.row .uq 43 5 W0]⟩
theorem wR(hΓ:Γ.nt=69){aI:aW}{lD:Bytes}{y1:aC}{r:aW×Bool}{k1:bP->Option (aW×Bool)}(mR:∀(kO:bP),k1 kO=some r->Ax Γ N f42 (.q [[none,none,some (43,5),some (46,3)],[none]] (D.fy [D.agg [D.str r.1.name,D.int .i64 r.1.prio,D.fr 43 5 (r.1.conds.map aU.c),D.fr 46 3 (r.1.bg.map Action.c)],D.bool r.2])) [1,1,1] ⟨[(2,D.str lD),(3,D.ptr 0 0),(6,D.ptr 1 0)],[Ob.box [D.str aI.name,D.int .i64 aI.prio,D.acc 2,D.nil],Ob.box [D.str ([]),D.int .i64 0,D.nil,D.nil],Ob.row .uq 43 5 (kO.map aU.c)]⟩)(hm1:y1.length<=maxLen):∀(rest:aC) (i1:Nat) (iy:bP),y1.drop i1=rest->ja aI lD y1 k1 rest i1 iy=some r->Ar Γ N f42 (.q [[none,none,some (43,5),some (46,3)],[none]] (D.fy [D.agg [D.str r.1.name,D.int .i64 r.1.prio,D.fr 43 5 (r.1.conds.map aU.c),D.fr 46 3 (r.1.bg.map Action.c)],D.bool r.2])) [1,1,0,1,0] (rest.length+1) (ql aI lD y1 (iy.map aU.c) (i1:Int)):=by
 intro rest
 induction rest with
 |nil=>
  intro i1 iy cE h;rw[ja]at h;refine aj fun N1 hN1 iJ=>?_
  exact((ah.ge tx cE).a [.hl 0 [2,3,6] [0,1,3]]).ex hΓ hN1 (mR iy h)
 |cons eP js ih1=>
  intro i1 iy cE h;rw[ja]at h;refine aj fun N1 hN1 iJ=>?_
  obtain⟨EE,h36,h⟩:=aE h;have mJ:=((((ah.lt tx cE).i (kM tx 1 (dc cE))).o 1 1 .uq (cK tx (dc cE))).g (tM h36))
  obtain⟨h37,h⟩|⟨h37,h⟩:=aL h
  ·cases h;exact(mJ.b h37).ret hΓ
  ·obtain⟨h38,h⟩:=bp h;exact(((mJ.b h37).w (eA h38)).a [.cn [2,3,6,8,9] [0,1,2,7]]).cs hΓ iJ (ql aI lD y1 ((iy.map aU.c)++([[D.int .i64 EE.1.kind,D.str EE.1.pat.rel,D.sl (EE.1.pat.args.map tx),D.str EE.1.left,D.str EE.1.right]])) (IntKind.i64.wrap ((i1:Int)+1))) (by first| (simp only[iS cE hm1,mA]<;>rfl)| (simp only[iS cE hm1,mA,bE.c,nq.c,aU.c,Action.c,aW.c,l8.c,lK.c,l6.c,Node.c,gb.c,mF.c]<;>rfl)) (ih1 (i1+1) (iy++([EE.1])) (dn cE) h)
def qm(aI:aW)(kO:bP)(BP:aC)(W0:List aG)(kY:Int):St:=⟨[(3,D.ptr 0 0),(6,D.ptr 1 0),(12,D.acc 2),(13,D.int .i64 kY)],[Ob.box [D.str aI.name,D.int .i64 aI.prio,D.acc 3,D.acc 4],Ob.box [D.str ([]),D.int .i64 0,D.nil,D.nil],Ob.row .uq 9 1 (BP.map tx),Ob.row .uq 43 5 (kO.map aU.c),Ob.row .uq 46 3 W0]⟩
theorem wS(hΓ:Γ.nt=69){aI:aW}{kO:bP}{BP:aC}{r:aW×Bool}{k2:cg->Option (aW×Bool)}(B9:∀(tT:cg),k2 tT=some r->Ax Γ N f42 (.q [[none,none,some (43,5),some (46,3)],[none]] (D.fy [D.agg [D.str r.1.name,D.int .i64 r.1.prio,D.fr 43 5 (r.1.conds.map aU.c),D.fr 46 3 (r.1.bg.map Action.c)],D.bool r.2])) [1,1,1,1,1] ⟨[(3,D.ptr 0 0),(6,D.ptr 1 0)],[Ob.box [D.str aI.name,D.int .i64 aI.prio,D.acc 2,D.acc 3],Ob.box [D.str ([]),D.int .i64 0,D.nil,D.nil],Ob.row .uq 43 5 (kO.map aU.c),Ob.row .uq 46 3 (tT.map Action.c)]⟩)(hm2:BP.length<=maxLen):∀(rest:aC) (i2:Nat) (oD:cg),BP.drop i2=rest->jb aI kO BP k2 rest i2 oD=some r->Ar Γ N f42 (.q [[none,none,some (43,5),some (46,3)],[none]] (D.fy [D.agg [D.str r.1.name,D.int .i64 r.1.prio,D.fr 43 5 (r.1.conds.map aU.c),D.fr 46 3 (r.1.bg.map Action.c)],D.bool r.2])) [1,1,1,1,0,1,0] (rest.length+1) (qm aI kO BP (oD.map Action.c) (i2:Int)):=by
 intro rest
 induction rest with
 |nil=>
  intro i2 oD hd2 h;rw[jb]at h;refine aj fun N2 wU tQ=>?_
  exact((ah.ge tx hd2).a [.hl 0 [3,6] [0,1,3,4]]).ex hΓ wU (B9 oD h)
 |cons wC vp ih2=>
  intro i2 oD hd2 h;rw[jb]at h;refine aj fun N2 wU tQ=>?_
  obtain⟨vq,h74,h⟩:=aE h;have mN:=((((ah.lt tx hd2).i (kM tx 1 (dc hd2))).o 1 1 .uq (cK tx (dc hd2))).g (uS h74))
  obtain⟨h75,h⟩|⟨h75,h⟩:=aL h
  ·cases h;exact(mN.b h75).ret hΓ
  ·obtain⟨h76,h⟩:=bp h;exact(((mN.b h75).w (eA h76)).a [.cn [3,6,12,13] [0,1,2,3,8]]).cs hΓ tQ (qm aI kO BP ((oD.map Action.c)++([[D.int .i64 vq.1.kind,D.str vq.1.pat.rel,D.sl (vq.1.pat.args.map tx)]])) (IntKind.i64.wrap ((i2:Int)+1))) (by first| (simp only[iS hd2 hm2,mA]<;>rfl)| (simp only[iS hd2 hm2,mA,bE.c,nq.c,aU.c,Action.c,aW.c,l8.c,lK.c,l6.c,Node.c,gb.c,mF.c]<;>rfl)) (ih2 (i2+1) (oD++([vq.1])) (dn hd2) h)
theorem mH{aI:aW}{bY:Bytes}{lD:Bytes}{r:aW×Bool}(h:qD aI bY lD=some r):Good prog 42 [D.agg [D.str aI.name,D.int .i64 aI.prio,D.nil,D.nil],D.str bY,D.str lD] (D.fy [D.agg [D.str r.1.name,D.int .i64 r.1.prio,D.fr 43 5 (r.1.conds.map aU.c),D.fr 46 3 (r.1.bg.map Action.c)],D.bool r.2]):=by
 refine gd func42 [[none,none,some (43,5),some (46,3)],[none]] 69 fun hr Γ hΓ=>?_
 rw[qD]at h;obtain⟨y1,h2,h⟩:=aE h;obtain⟨h80,h⟩:=bp h;refine((ah.g (dZ h2)).a [.pb 0 2 43 5,.cn [2,3,6,8,9] [0,1,2,3]]).lp hΓ (wR hΓ (fun kO h=>?_) (av h80) y1 0 ([]:bP) rfl h);obtain⟨BP,h40,h⟩:=aE h;obtain⟨h79,h⟩:=bp h;refine((ah.g (dZ h40)).a [.pb 0 3 46 3,.cn [3,6,12,13] [0,1,3,2,4]]).lp hΓ (wS hΓ (fun tT h=>?_) (av h79) BP 0 ([]:cg) rfl h);obtain⟨R8,h78,h⟩:=aE h;cases h;exact((ah.a [.n 3,.d (D.bool R8)]).w (show Good prog 9 [D.agg [D.str aI.name,D.int .i64 aI.prio,D.sl (kO.map aU.c),D.sl (tT.map Action.c)]] (D.bool R8)from by first| (simpa only[aa,ax,bI,au,ay]using dD h78)|exact dD h78| (have t:=dD h78;simp only[aa,au,ay,aW.c]at t;exact t))).ret hΓ
def fp(aI:Bytes):Option (aW×Bool):=((gK aI ([58,32])).bind fun y1=>(bif (((y1.map tx).length:Int):Int) != 2 then(some ((⟨[],0,[],[]⟩:aW),false))else((k8 y1 (0:Int)).bind fun x4=>((gK x4 ([32])).bind fun y6=>((k8 y1 (1:Int)).bind fun x8=>((gK x8 ([32,45,62,32])).bind fun yt=>(bif (((y6.map tx).length:Int):Int) != 2 then(some ((⟨[],0,[],[]⟩:aW),false))else(bif (((yt.map tx).length:Int):Int) != 2 then(some ((⟨[],0,[],[]⟩:aW),false))else((k8 y6 (1:Int)).bind fun x14=>((oP x14).bind fun Cv=>(bif !(Cv.2)then(some ((⟨[],0,[],[]⟩:aW),false))else((k8 y6 (0:Int)).bind fun x19=>((k8 yt (0:Int)).bind fun x21=>((k8 yt (1:Int)).bind fun x23=>((qD (⟨x19,Cv.1,[],[]⟩:aW) x21 x23).bind fun zg=>(bif !(zg.2)then(some ((⟨[],0,[],[]⟩:aW),false))else(some (zg.1,true))))))))))))))))))
theorem tN{aI:Bytes}{r:aW×Bool}(h:fp aI=some r):Good prog 11 [D.str aI] (D.fy [D.agg [D.str r.1.name,D.int .i64 r.1.prio,D.fr 43 5 (r.1.conds.map aU.c),D.fr 46 3 (r.1.bg.map Action.c)],D.bool r.2]):=by
 refine gd func11 [[none,none,some (43,5),some (46,3)],[none]] 63 fun hr Γ hΓ=>?_
 rw[fp]at h;obtain⟨y1,h2,h⟩:=aE h;obtain⟨h3,h⟩|⟨h3,h⟩:=aL h
 ·cases h;exact((ah.g (dZ h2)).b h3).ret hΓ
 ·obtain⟨x4,h5,h⟩:=aE h;obtain⟨y6,h7,h⟩:=aE h;obtain⟨x8,h9,h⟩:=aE h;obtain⟨yt,h11,h⟩:=aE h;have kQ:=((((((((ah.g (dZ h2)).b h3).i (gZ tx 1 h5)).o 1 1 .uq (cK tx (eO h5))).g (dZ h7)).i (gZ tx 1 h9)).o 1 1 .uq (cK tx (eO h9))).g (dZ h11))
  obtain⟨h12,h⟩|⟨h12,h⟩:=aL h
  ·cases h;exact((kQ.r 4 h12).T 1).ret hΓ
  ·have kw:=(kQ.r 4 h12)
   obtain⟨h13,h⟩|⟨h13,h⟩:=aL h
   ·cases h;exact(kw.b h13).ret hΓ
   ·obtain⟨x14,h15,h⟩:=aE h;obtain⟨Cv,h17,h⟩:=aE h;have mJ:=((((kw.b h13).i (gZ tx 1 h15)).o 1 1 .uq (cK tx (eO h15))).g (uP h17))
    obtain⟨h18,h⟩|⟨h18,h⟩:=aL h
    ·cases h;exact(mJ.b h18).ret hΓ
    ·obtain⟨x19,h20,h⟩:=aE h;obtain⟨x21,h22,h⟩:=aE h;obtain⟨x23,h24,h⟩:=aE h;obtain⟨zg,h26,h⟩:=aE h;have mN:=((((((((((mJ.b h18).a [.n 17]).i (gZ tx 1 h20)).o 1 1 .uq (cK tx (eO h20))).i (gZ tx 1 h22)).o 1 1 .uq (cK tx (eO h22))).i (gZ tx 1 h24)).o 1 1 .uq (cK tx (eO h24))).a [.nl (D.fy [D.agg [D.str zg.1.name,D.int .i64 zg.1.prio,D.fr 43 5 (zg.1.conds.map aU.c),D.fr 46 3 (zg.1.bg.map Action.c)],D.bool zg.2])]).w (show Good prog 42 [D.agg [D.str x19,D.int .i64 Cv.1,D.nil,D.nil],D.str x21,D.str x23] (D.fy [D.agg [D.str zg.1.name,D.int .i64 zg.1.prio,D.fr 43 5 (zg.1.conds.map aU.c),D.fr 46 3 (zg.1.bg.map Action.c)],D.bool zg.2])from by first| (simpa only[aa,ax,bI,au,ay]using mH h26)|exact mH h26| (have t:=mH h26;simp only[aa,au,ay,aW.c]at t;exact t)))
     obtain⟨h27,h⟩|⟨h27,h⟩:=aL h
     ·cases h;exact(mN.b h27).ret hΓ
     ·cases h;exact(mN.b h27).ret hΓ
def eX(aI:cB)(bY:Int):Option (cB×aW):=((cD aI (BI bY ((([[114,32,49,58,32,111,110,40,63,120,44,63,121,41,32,38,32,111,110,40,63,121,44,63,122,41,32,45,62,32,97,100,100,32,111,110,40,63,120,44,63,122,41],[114,32,50,58,32,111,110,40,63,120,44,63,121,41,32,38,32,112,40,63,121,41,32,45,62,32,97,100,100,32,112,40,63,120,41],[114,32,48,58,32,112,40,63,120,41,32,38,32,111,110,40,63,120,44,63,121,41,32,38,32,63,120,32,33,61,32,63,121,32,45,62,32,97,100,100,32,97,116,40,63,121,44,63,120,41],[114,32,51,58,32,97,116,40,63,120,44,63,121,41,32,38,32,112,40,63,120,41,32,38,32,112,40,63,121,41,32,38,32,63,120,32,60,32,63,121,32,45,62,32,97,100,100,32,122,40,41],[114,32,52,58,32,111,110,40,63,120,44,97,41,32,45,62,32,97,100,100,32,113,40,63,120,41,32,38,32,97,100,100,32,112,40,97,41],[114,32,49,58,32,97,116,40,63,120,44,63,120,41,32,38,32,113,40,49,41,32,45,62,32,97,100,100,32,111,110,40,63,120,44,49,41],[114,32,49,58,32,112,40,63,120,41,32,38,32,110,111,116,32,113,40,63,120,41,32,45,62,32,97,100,100,32,97,116,40,63,120,44,98,41],[114,32,50,58,32,111,110,40,63,120,44,63,121,41,32,38,32,110,111,116,32,97,116,40,63,121,44,63,122,41,32,45,62,32,97,100,100,32,113,40,63,121,41],[114,32,53,58,32,97,116,40,63,120,44,63,121,41,32,38,32,110,111,116,32,112,40,63,121,41,32,38,32,63,120,32,33,61,32,63,121,32,45,62,32,97,100,100,32,122,40,41],[114,32,57,58,32,113,40,63,120,41,32,38,32,112,40,63,120,41,32,45,62,32,100,114,111,112,32,112,40,63,120,41],[114,32,48,58,32,97,116,40,63,120,44,49,41,32,38,32,97,116,40,63,121,44,50,41,32,38,32,63,120,32,61,32,63,121,32,45,62,32,100,114,111,112,32,97,116,40,63,120,44,49,41,32,38,32,115,116,111,112],[114,32,49,58,32,111,110,40,63,120,44,63,120,41,32,45,62,32,115,116,111,112],[114,32,55,58,32,122,40,41,32,38,32,111,110,40,63,120,44,63,121,41,32,45,62,32,100,114,111,112,32,122,40,41,32,38,32,97,100,100,32,111,110,40,63,121,44,63,120,41]]:aC).map tx).length:Int))).bind fun y1=>((k8 ([[114,32,49,58,32,111,110,40,63,120,44,63,121,41,32,38,32,111,110,40,63,121,44,63,122,41,32,45,62,32,97,100,100,32,111,110,40,63,120,44,63,122,41],[114,32,50,58,32,111,110,40,63,120,44,63,121,41,32,38,32,112,40,63,121,41,32,45,62,32,97,100,100,32,112,40,63,120,41],[114,32,48,58,32,112,40,63,120,41,32,38,32,111,110,40,63,120,44,63,121,41,32,38,32,63,120,32,33,61,32,63,121,32,45,62,32,97,100,100,32,97,116,40,63,121,44,63,120,41],[114,32,51,58,32,97,116,40,63,120,44,63,121,41,32,38,32,112,40,63,120,41,32,38,32,112,40,63,121,41,32,38,32,63,120,32,60,32,63,121,32,45,62,32,97,100,100,32,122,40,41],[114,32,52,58,32,111,110,40,63,120,44,97,41,32,45,62,32,97,100,100,32,113,40,63,120,41,32,38,32,97,100,100,32,112,40,97,41],[114,32,49,58,32,97,116,40,63,120,44,63,120,41,32,38,32,113,40,49,41,32,45,62,32,97,100,100,32,111,110,40,63,120,44,49,41],[114,32,49,58,32,112,40,63,120,41,32,38,32,110,111,116,32,113,40,63,120,41,32,45,62,32,97,100,100,32,97,116,40,63,120,44,98,41],[114,32,50,58,32,111,110,40,63,120,44,63,121,41,32,38,32,110,111,116,32,97,116,40,63,121,44,63,122,41,32,45,62,32,97,100,100,32,113,40,63,121,41],[114,32,53,58,32,97,116,40,63,120,44,63,121,41,32,38,32,110,111,116,32,112,40,63,121,41,32,38,32,63,120,32,33,61,32,63,121,32,45,62,32,97,100,100,32,122,40,41],[114,32,57,58,32,113,40,63,120,41,32,38,32,112,40,63,120,41,32,45,62,32,100,114,111,112,32,112,40,63,120,41],[114,32,48,58,32,97,116,40,63,120,44,49,41,32,38,32,97,116,40,63,121,44,50,41,32,38,32,63,120,32,61,32,63,121,32,45,62,32,100,114,111,112,32,97,116,40,63,120,44,49,41,32,38,32,115,116,111,112],[114,32,49,58,32,111,110,40,63,120,44,63,120,41,32,45,62,32,115,116,111,112],[114,32,55,58,32,122,40,41,32,38,32,111,110,40,63,120,44,63,121,41,32,45,62,32,100,114,111,112,32,122,40,41,32,38,32,97,100,100,32,111,110,40,63,121,44,63,120,41]]:aC) y1.2).bind fun x3=>((fp x3).bind fun y5=>(some (y1.1,y5.1)))))
theorem mG{aI:cB}{bY:Int}{r:cB×aW}(h:eX aI bY=some r):jB prog 89 (cB.c aI) (cB.c r.1) [D.int .i64 bY] (D.agg [D.str r.2.name,D.int .i64 r.2.prio,D.fr 43 5 (r.2.conds.map aU.c),D.fr 46 3 (r.2.bg.map Action.c)]):=by
 refine Cs func89 [[none,none,none],[none,none,some (43,5),some (46,3)]] 23 [D.sl (aI.b.map yx),D.int .i64 aI.i,D.int .i64 aI.h] [D.int .i64 bY] [] fun hr ot Γ hΓ=>?_
 rw[eX]at h;obtain⟨y1,h2,h⟩:=aE h;obtain⟨x3,h4,h⟩:=aE h;obtain⟨y5,h6,h⟩:=aE h;cases h;exact((((ah.hp [[none,none,none],[none]] (cA h2)).i (gZ tx 1 h4)).o 1 1 .uq (cK tx (eO h4))).g (tN h6)).ret hΓ
def cX(y1:cB×Int)(k1:bz->Int->Int->bP->Option (cB×aW)):Nat->Int->bz->Int->Int->bP->Option (cB×aW)
 |0,_,_,_,_,_=>none
 |n1+1,kA,kP,jH,jI,iy=>(bif decide ((kA:Int)>0)then((iI (⟨kP,jH,jI⟩:cB)).bind fun tW=>(bif room ((iy.map aU.c).length+([[D.int .i64 tW.2.kind,D.str tW.2.pat.rel,D.sl (tW.2.pat.args.map tx),D.str tW.2.left,D.str tW.2.right]]).length) 80 then(cX y1 k1 n1 (IntKind.i64.wrap (kA-1)) tW.1.b tW.1.i tW.1.h (iy++([tW.2])))else none))else(k1 kP jH jI iy))
def bh(y1:cB×Int)(lz:bP)(Cq:aC)(qv:cB×bE)(k2:bz->Int->Int->aC->Option (cB×aW)):Nat->Int->bz->Int->Int->aC->Option (cB×aW)
 |0,_,_,_,_,_=>none
 |n2+1,rj,nY,mZ,mc,vB=>(bif decide ((rj:Int)<((vB.map tx).length:Int))then((k8 vB rj).bind fun x91=>((iF x91).bind fun U3=>(bif U3 then((dW Cq x91).bind fun U5=>(bif !(U5)then((iH (⟨nY,mZ,mc⟩:cB)).bind fun vC=>(bh y1 lz Cq qv k2 n2 (IntKind.i64.wrap (rj+1)) vC.1.b vC.1.i vC.1.h (vB.set rj.toNat vC.2)))else(bh y1 lz Cq qv k2 n2 (IntKind.i64.wrap (rj+1)) nY mZ mc vB)))else(bh y1 lz Cq qv k2 n2 (IntKind.i64.wrap (rj+1)) nY mZ mc vB))))else(k2 nY mZ mc vB))
def iZ(aI:cB):Option (cB×aW):=((cD aI 4).bind fun y1=>((ec y1.1).bind fun y3=>((cD y3.1 3).bind fun y5=>(cX y1 (fun(oT:bz) (oU:Int) (oV:Int) (lz:bP)=>((fm (⟨[114],y1.2,lz,[]⟩:aW) ((lz.map aU.c).length:Int)).bind fun Cq=>((ec (⟨oT,oU,oV⟩:cB)).bind fun qv=>(bh y1 lz Cq qv (fun(yj:bz) (yl:Int) (ym:Int) (xj:aC)=>((gL (⟨yj,yl,ym⟩:cB) ([1,1,2]:bz)).bind fun vD=>(bif room (([]:List aG).length+([[D.int .i64 vD.2,D.str qv.2.rel,D.sl (xj.map tx)]]).length) 48 then((jh vD.1 6).bind fun yu=>(bif yu.2 then(bif room ((([]:List aG)++([[D.int .i64 vD.2,D.str qv.2.rel,D.sl (xj.map tx)]])).length+([[D.int .i64 3,D.str ([]),D.sl ([])]]).length) 48 then((iE (⟨[114],y1.2,lz,(([]:cg)++([(⟨vD.2,(⟨qv.2.rel,xj⟩:bE)⟩:Action)]))++([(⟨3,(⟨[],[]⟩:bE)⟩:Action)])⟩:aW)).bind fun Lh=>(bif !(Lh)then((eX yu.1 99).bind fun OQ=>(some (OQ.1,OQ.2)))else(some (yu.1,(⟨[114],y1.2,lz,(([]:cg)++([(⟨vD.2,(⟨qv.2.rel,xj⟩:bE)⟩:Action)]))++([(⟨3,(⟨[],[]⟩:bE)⟩:Action)])⟩:aW)))))else none)else((iE (⟨[114],y1.2,lz,([]:cg)++([(⟨vD.2,(⟨qv.2.rel,xj⟩:bE)⟩:Action)])⟩:aW)).bind fun Li=>(bif !(Li)then((eX yu.1 99).bind fun OR=>(some (OR.1,OR.2)))else(some (yu.1,(⟨[114],y1.2,lz,([]:cg)++([(⟨vD.2,(⟨qv.2.rel,xj⟩:bE)⟩:Action)])⟩:aW)))))))else none))) fuel 0 qv.1.b qv.1.i qv.1.h qv.2.args)))) fuel y5.2 y5.1.b y5.1.i y5.1.h ([(⟨1,y3.2,[],[]⟩:aU)])))))
def mW(ot:Value)(y1:cB×Int)(kA:Int)(jH:Int)(jI:Int)(W1:List aG)(W4:List aG):St:=⟨[(0,D.ptr 0 0),(2,D.ptr 1 0),(3,D.ptr 2 0),(4,D.int .i64 kA)],[Ob.B1 [D.sl W1,D.int .i64 jH,D.int .i64 jI] ot,Ob.box [D.str ([]),D.int .i64 0,D.nil,D.nil],Ob.box [D.str ([114]),D.int .i64 y1.2,D.acc 3,D.nil],Ob.row .uq 43 5 W4]⟩
theorem vf(hΓ:Γ.nt=88){ot:Value}{y1:cB×Int}{r:cB×aW}{k1:bz->Int->Int->bP->Option (cB×aW)}(mR:∀(oT:bz) (oU:Int) (oV:Int) (lz:bP),k1 oT oU oV lz=some r->Ax Γ N f88 (.p [[none,none,none],[none,none,some (43,5),some (46,3)]] ot (cB.c r.1) (D.agg [D.str r.2.name,D.int .i64 r.2.prio,D.fr 43 5 (r.2.conds.map aU.c),D.fr 46 3 (r.2.bg.map Action.c)])) [1,1,1] ⟨[(0,D.ptr 0 0),(2,D.ptr 1 0),(3,D.ptr 2 0)],[Ob.B1 [D.sl (oT.map yx),D.int .i64 oU,D.int .i64 oV] ot,Ob.box [D.str ([]),D.int .i64 0,D.nil,D.nil],Ob.box [D.str ([114]),D.int .i64 y1.2,D.acc 3,D.nil],Ob.row .uq 43 5 (lz.map aU.c)]⟩):∀(n1:Nat) (kA:Int) (kP:bz) (jH:Int) (jI:Int) (iy:bP),cX y1 k1 n1 kA kP jH jI iy=some r->Ar Γ N f88 (.p [[none,none,none],[none,none,some (43,5),some (46,3)]] ot (cB.c r.1) (D.agg [D.str r.2.name,D.int .i64 r.2.prio,D.fr 43 5 (r.2.conds.map aU.c),D.fr 46 3 (r.2.bg.map Action.c)])) [1,1,0,1,0] n1 (mW ot y1 kA jH jI (kP.map yx) (iy.map aU.c)):=by
 intro n
 induction n with
 |zero=>intro kA kP jH jI iy h;simp[cX]at h
 |succ n1 ih1=>
  intro kA kP jH jI iy h;rw[cX]at h;refine aj fun N1 hN1 iJ=>?_
  obtain⟨h25,h⟩|⟨h25,h⟩:=aL h
  ·obtain⟨tW,h29,h⟩:=aE h;obtain⟨h30,h⟩:=bp h;exact(((((ah.b h25).a [.n2 [0,1,2,3,4,5,6,7] [0,1,2,3,4,5,6,7] 3 5 [0,1] [0,4],.gp [[none,none,none]] (cB.c tW.1) (D.agg [D.int .i64 tW.2.kind,D.str tW.2.pat.rel,D.fr 9 1 (tW.2.pat.args.map tx),D.str tW.2.left,D.str tW.2.right])]).w (show jB prog 91 (cB.c (⟨kP,jH,jI⟩:cB)) (cB.c tW.1) [] (D.agg [D.int .i64 tW.2.kind,D.str tW.2.pat.rel,D.fr 9 1 (tW.2.pat.args.map tx),D.str tW.2.left,D.str tW.2.right])from by simpa only[aa,ax,bI,au,ay]using qB h29)).w (eA h30)).a [.cn [0,2,3,4] [0,1,2,6]]).cs hΓ iJ (mW ot y1 (IntKind.i64.wrap (kA-1)) tW.1.i tW.1.h (tW.1.b.map yx) ((iy.map aU.c)++([[D.int .i64 tW.2.kind,D.str tW.2.pat.rel,D.sl (tW.2.pat.args.map tx),D.str tW.2.left,D.str tW.2.right]]))) (by first| (simp only[mA]<;>rfl)| (simp only[mA,bE.c,nq.c,aU.c,Action.c,aW.c,l8.c,lK.c,l6.c,Node.c,gb.c,mF.c]<;>rfl)) (ih1 (IntKind.i64.wrap (kA-1)) tW.1.b tW.1.i tW.1.h (iy++([tW.2])) h)
  ·exact((ah.b h25).a [.hl 0 [0,2,3] [0,1,2,3]]).ex hΓ hN1 (mR kP jH jI iy h)
def qC(ot:Value)(y1:cB×Int)(lz:bP)(Cq:aC)(qv:cB×bE)(rj:Int)(mZ:Int)(mc:Int)(W1:List aG)(W4:List aG):St:=⟨[(0,D.ptr 0 0),(2,D.ptr 1 0),(3,D.ptr 2 0),(5,D.acc 3),(6,D.ptr 4 0),(7,D.int .i64 rj)],[Ob.B1 [D.sl W1,D.int .i64 mZ,D.int .i64 mc] ot,Ob.box [D.str ([]),D.int .i64 0,D.nil,D.nil],Ob.box [D.str ([114]),D.int .i64 y1.2,D.acc 5,D.nil],Ob.row .uq 9 1 (Cq.map tx),Ob.box [D.str qv.2.rel,D.acc 6],Ob.row .uq 43 5 (lz.map aU.c),Ob.row .uq 9 1 W4]⟩
theorem vg(hΓ:Γ.nt=88){ot:Value}{y1:cB×Int}{lz:bP}{Cq:aC}{qv:cB×bE}{r:cB×aW}{k2:bz->Int->Int->aC->Option (cB×aW)}(B9:∀(yj:bz) (yl:Int) (ym:Int) (xj:aC),k2 yj yl ym xj=some r->Ax Γ N f88 (.p [[none,none,none],[none,none,some (43,5),some (46,3)]] ot (cB.c r.1) (D.agg [D.str r.2.name,D.int .i64 r.2.prio,D.fr 43 5 (r.2.conds.map aU.c),D.fr 46 3 (r.2.bg.map Action.c)])) [1,1,1,1,1,1] ⟨[(0,D.ptr 0 0),(2,D.ptr 1 0),(3,D.ptr 2 0),(6,D.ptr 3 0)],[Ob.B1 [D.sl (yj.map yx),D.int .i64 yl,D.int .i64 ym] ot,Ob.box [D.str ([]),D.int .i64 0,D.nil,D.nil],Ob.box [D.str ([114]),D.int .i64 y1.2,D.acc 4,D.nil],Ob.box [D.str qv.2.rel,D.acc 5],Ob.row .uq 43 5 (lz.map aU.c),Ob.row .uq 9 1 (xj.map tx)]⟩):∀(n2:Nat) (rj:Int) (nY:bz) (mZ:Int) (mc:Int) (vB:aC),bh y1 lz Cq qv k2 n2 rj nY mZ mc vB=some r->Ar Γ N f88 (.p [[none,none,none],[none,none,some (43,5),some (46,3)]] ot (cB.c r.1) (D.agg [D.str r.2.name,D.int .i64 r.2.prio,D.fr 43 5 (r.2.conds.map aU.c),D.fr 46 3 (r.2.bg.map Action.c)])) [1,1,1,1,1,0,1,0] n2 (qC ot y1 lz Cq qv rj mZ mc (nY.map yx) (vB.map tx)):=by
 intro n
 induction n with
 |zero=>intro rj nY mZ mc vB h;simp[bh]at h
 |succ n2 ih2=>
  intro rj nY mZ mc vB h;rw[bh]at h;refine aj fun N2 wU tQ=>?_
  obtain⟨h90,h⟩|⟨h90,h⟩:=aL h
  ·obtain⟨x91,h92,h⟩:=aE h;obtain⟨U3,h94,h⟩:=aE h;have mJ:=((((ah.b h90).i (gZ tx 1 h92)).o 1 1 .uq (cK tx (eO h92))).g (iR h94))
   obtain⟨h95,h⟩|⟨h95,h⟩:=aL h
   ·obtain⟨U5,h97,h⟩:=aE h;have mN:=(((((((mJ.r 5 h95).i (gZ tx 1 h92)).b h95).o 1 1 .uq (cK tx (eO h92))).b h95).g (fH h97)).r 2 h95)
    obtain⟨h98,h⟩|⟨h98,h⟩:=aL h
    ·obtain⟨vC,h102,h⟩:=aE h;exact((((((mN.b h98).a [.n2 [0,1,2,3,4,5,6] [0,1,2,3,4,5,6] 4 5 [0,1,2] [0],.gp [[none,none,none]] (cB.c vC.1) (D.str vC.2)]).w (show jB prog 116 (cB.c (⟨nY,mZ,mc⟩:cB)) (cB.c vC.1) [] (D.str vC.2)from by simpa only[aa,ax,bI,au,ay]using pz h102)).i (gZ tx 1 h92)).w (show(vB.map tx)[rj.toNat]?=some [D.str x91]from cK tx (eO h92))).a [.row [D.str x91],.cn [0,2,3,5,6,7] [0,1,2,3,4,5,6]]).cs hΓ tQ (qC ot y1 lz Cq qv (IntKind.i64.wrap (rj+1)) vC.1.i vC.1.h (vC.1.b.map yx) ((vB.map tx).set rj.toNat [D.str vC.2])) (by first| (simp only[mA]<;>rfl)| (simp only[mA,bE.c,nq.c,aU.c,Action.c,aW.c,l8.c,lK.c,l6.c,Node.c,gb.c,mF.c]<;>rfl)) (ih2 (IntKind.i64.wrap (rj+1)) vC.1.b vC.1.i vC.1.h (vB.set rj.toNat vC.2) h)
    ·exact((mN.b h98).a [.cn [0,2,3,5,6,7] [0,1,2,3,4,5,6]]).cf hΓ tQ (ih2 (IntKind.i64.wrap (rj+1)) nY mZ mc vB h)
   ·exact(((mJ.r 9 h95).F 1).a [.cn [0,2,3,5,6,7] [0,1,2,3,4,5,6]]).cf hΓ tQ (ih2 (IntKind.i64.wrap (rj+1)) nY mZ mc vB h)
  ·exact((ah.b h90).a [.hl 0 [0,2,3,6] [0,1,2,4,5,6]]).ex hΓ wU (B9 nY mZ mc vB h)
theorem uT{aI:cB}{r:cB×aW}(h:iZ aI=some r):jB prog 88 (cB.c aI) (cB.c r.1) [] (D.agg [D.str r.2.name,D.int .i64 r.2.prio,D.fr 43 5 (r.2.conds.map aU.c),D.fr 46 3 (r.2.bg.map Action.c)]):=by
 refine Cs func88 [[none,none,none],[none,none,some (43,5),some (46,3)]] 88 [D.sl (aI.b.map yx),D.int .i64 aI.i,D.int .i64 aI.h] [] [] fun hr ot Γ hΓ=>?_
 rw[iZ]at h;obtain⟨y1,h2,h⟩:=aE h;obtain⟨y3,h4,h⟩:=aE h;obtain⟨y5,h6,h⟩:=aE h;refine((((ah.hp [[none,none,none],[none]] (cA h2)).hp [[none,none,none]] (iB h4)).hp [[none,none,none],[none]] (cA h6)).a [.cn [0,2,3,4] [0,1,4,3]]).TW hΓ (mW ot y1 y5.2 y5.1.i y5.1.h (y5.1.b.map yx) ([[D.int .i64 1,D.str y3.2.rel,D.sl (y3.2.args.map tx),D.str ([]),D.str ([])]])) (by first| (simp only[mA]<;>rfl)| (simp only[mA,bE.c,nq.c,aU.c,Action.c,aW.c,l8.c,lK.c,l6.c,Node.c,gb.c,mF.c]<;>rfl)) (vf hΓ (fun oT oU oV lz h=>?_) fuel y5.2 y5.1.b y5.1.i y5.1.h ([(⟨1,y3.2,[],[]⟩:aU)]) h);obtain⟨Cq,h32,h⟩:=aE h;obtain⟨qv,h34,h⟩:=aE h;refine(((((ah.a [.d (D.fr 9 1 (Cq.map tx))]).w (show Good prog 29 [D.agg [D.str ([114]),D.int .i64 y1.2,D.sl (lz.map aU.c),D.sl ([])],D.int .i64 ((lz.map aU.c).length:Int)] (D.fr 9 1 (Cq.map tx))from by first| (simpa only[aa,ax,bI,au,ay]using fG h32)|exact fG h32| (have t:=fG h32;simp only[aa,au,ay,aW.c]at t;exact t))).a [.gp [[none,none,none]] (cB.c qv.1) (D.agg [D.str qv.2.rel,D.fr 9 1 (qv.2.args.map tx)])]).w (show jB prog 92 (cB.c (⟨oT,oU,oV⟩:cB)) (cB.c qv.1) [] (D.agg [D.str qv.2.rel,D.fr 9 1 (qv.2.args.map tx)])from by simpa only[aa,ax,bI,au,ay]using iB h34)).a [.cn [0,2,3,5,6,7] [0,1,2,4,6,3,5]]).lp hΓ (vg hΓ (fun yj yl ym xj h=>?_) fuel 0 qv.1.b qv.1.i qv.1.h qv.2.args h);obtain⟨vD,h106,h⟩:=aE h;obtain⟨h107,h⟩:=bp h;obtain⟨yu,h109,h⟩:=aE h;have ur:=((((ah.a [.n2 [0,1,2,3,5,4,6,7,8,9,10] [0,1,2,3,5,4,6,7,8,9,10] 5 8 [0,1,4] [0,5,6],.gp [[none,none,none],[some (3,1)]] (cB.c vD.1) (D.int .i64 vD.2)]).w (show jB prog 52 (cB.c (⟨yj,yl,ym⟩:cB)) (cB.c vD.1) [D.fr 3 1 (([1,1,2]:bz).map MB)] (D.int .i64 vD.2)from by simpa only[aa,ax,bI,au,ay]using iT h106)).w (eA h107)).hp [[none,none,none],[none]] (jG h109))
 obtain⟨h110,h⟩|⟨h110,h⟩:=aL h
 ·obtain⟨h111,h⟩:=bp h;obtain⟨Lh,h113,h⟩:=aE h;have zJ:=((((ur.b h110).w (eA h111)).a [.d (D.bool Lh)]).w (show Good prog 9 [D.agg [D.str ([114]),D.int .i64 y1.2,D.sl (lz.map aU.c),D.sl ((([]:List aG)++([[D.int .i64 vD.2,D.str qv.2.rel,D.sl (xj.map tx)]]))++([[D.int .i64 3,D.str ([]),D.sl ([])]]))]] (D.bool Lh)from by first| (simpa only[aa,ax,bI,au,ay]using dD h113)|exact dD h113| (have t:=dD h113;simp only[aa,au,ay,aW.c]at t;exact t)))
  obtain⟨h114,h⟩|⟨h114,h⟩:=aL h
  ·obtain⟨OQ,h116,h⟩:=aE h;cases h;exact((zJ.b h114).hp [[none,none,none],[none]] (mG h116)).ret hΓ
  ·cases h;exact(zJ.b h114).rts hΓ (D.fy [D.agg [D.str ([114]),D.int .i64 y1.2,D.fr 43 5 (lz.map aU.c),D.fr 46 3 ((([]:List aG)++([[D.int .i64 vD.2,D.str qv.2.rel,D.sl (xj.map tx)]]))++([[D.int .i64 3,D.str ([]),D.sl ([])]]))],D.agg [D.sl (yu.1.b.map yx),D.int .i64 yu.1.i,D.int .i64 yu.1.h],D.val ot]) (by first|rfl| (simp only[mA]<;>rfl))
 ·obtain⟨Li,h118,h⟩:=aE h;have Aj:=(((ur.b h110).a [.d (D.bool Li)]).w (show Good prog 9 [D.agg [D.str ([114]),D.int .i64 y1.2,D.sl (lz.map aU.c),D.sl (([]:List aG)++([[D.int .i64 vD.2,D.str qv.2.rel,D.sl (xj.map tx)]]))]] (D.bool Li)from by first| (simpa only[aa,ax,bI,au,ay]using dD h118)|exact dD h118| (have t:=dD h118;simp only[aa,au,ay,aW.c]at t;exact t)))
  obtain⟨h119,h⟩|⟨h119,h⟩:=aL h
  ·obtain⟨OR,h121,h⟩:=aE h;cases h;exact((Aj.b h119).hp [[none,none,none],[none]] (mG h121)).ret hΓ
  ·cases h;exact(Aj.b h119).rts hΓ (D.fy [D.agg [D.str ([114]),D.int .i64 y1.2,D.fr 43 5 (lz.map aU.c),D.fr 46 3 (([]:List aG)++([[D.int .i64 vD.2,D.str qv.2.rel,D.sl (xj.map tx)]]))],D.agg [D.sl (yu.1.b.map yx),D.int .i64 yu.1.i,D.int .i64 yu.1.h],D.val ot]) (by first|rfl| (simp only[mA]<;>rfl))
def ji(aI:cB):Option (cB×aW):=((jh aI 3).bind fun y1=>(bif y1.2 then((iZ y1.1).bind fun y4=>(some (y4.1,y4.2)))else((eX y1.1 99).bind fun y6=>(some (y6.1,y6.2)))))
theorem wQ{aI:cB}{r:cB×aW}(h:ji aI=some r):jB prog 49 (cB.c aI) (cB.c r.1) [] (D.agg [D.str r.2.name,D.int .i64 r.2.prio,D.fr 43 5 (r.2.conds.map aU.c),D.fr 46 3 (r.2.bg.map Action.c)]):=by
 refine Cs func49 [[none,none,none],[none,none,some (43,5),some (46,3)]] 9 [D.sl (aI.b.map yx),D.int .i64 aI.i,D.int .i64 aI.h] [] [] fun hr ot Γ hΓ=>?_
 rw[ji]at h;obtain⟨y1,h2,h⟩:=aE h;obtain⟨h3,h⟩|⟨h3,h⟩:=aL h
 ·obtain⟨y4,h5,h⟩:=aE h;cases h;exact(((ah.hp [[none,none,none],[none]] (jG h2)).b h3).hp [[none,none,none]] (uT h5)).ret hΓ
 ·obtain⟨y6,h7,h⟩:=aE h;cases h;exact(((ah.hp [[none,none,none],[none]] (jG h2)).b h3).hp [[none,none,none],[none]] (mG h7)).ret hΓ
def gB(aI:cB):Option (cB×Bytes):=((gO aI ([[97],[98],[111,110],[55],[49,48],[57,57,57,57],[49,48,48,48,48],[48,48,55],[48],[],[65],[63,120],[63,63],[63],[97,98,99,100,101,102,103,104],[97,98,99,100,101,102,103,104,105],[63,97,98,99,100,101,102,103,104],[97,45,98],[120,49],[49,120],[45,51]]:aC)).bind fun y1=>(some (y1.1,y1.2)))
theorem kJ{aI:cB}{r:cB×Bytes}(h:gB aI=some r):jB prog 51 (cB.c aI) (cB.c r.1) [] (D.str r.2):=by
 refine Cs func51 [[none,none,none],[none]] 6 [D.sl (aI.b.map yx),D.int .i64 aI.i,D.int .i64 aI.h] [] [] fun hr ot Γ hΓ=>?_
 rw[gB]at h;obtain⟨y1,h2,h⟩:=aE h;cases h;exact(ah.hp [[none,none,none],[some (9,1)]] (jZ h2)).ret hΓ
def lg(aI:cB):Option (cB×bE):=((ec aI).bind fun y1=>((cD y1.1 10).bind fun y3=>(bif (y3.2:Int)==0 then((gB y3.1).bind fun y6=>(some (y6.1,(⟨y6.2,y1.2.args⟩:bE))))else(bif (y3.2:Int)==1 then((gB y3.1).bind fun Bw=>(bif room ((y1.2.args.map tx).length+([[D.str Bw.2]]).length) 16 then(some (Bw.1,(⟨y1.2.rel,y1.2.args++([Bw.2])⟩:bE)))else none))else(bif (y3.2:Int)==2 then((cD y3.1 5).bind fun BO=>(bif decide (0<=(BO.2:Int))&&decide (BO.2.toNat<=(([[63,120],[63,120],[63,121],[63,120]]:aC).map tx).length)then(some (BO.1,(⟨y1.2.rel,([[63,120],[63,120],[63,121],[63,120]]:aC).take BO.2.toNat⟩:bE)))else none))else(some (y3.1,y1.2)))))))
theorem qk{aI:cB}{r:cB×bE}(h:lg aI=some r):jB prog 54 (cB.c aI) (cB.c r.1) [] (D.agg [D.str r.2.rel,D.fr 9 1 (r.2.args.map tx)]):=by
 refine Cs func54 [[none,none,none],[none,some (9,1)]] 30 [D.sl (aI.b.map yx),D.int .i64 aI.i,D.int .i64 aI.h] [] [] fun hr ot Γ hΓ=>?_
 rw[lg]at h;obtain⟨y1,h2,h⟩:=aE h;obtain⟨y3,h4,h⟩:=aE h;have kQ:=((ah.hp [[none,none,none]] (iB h2)).hp [[none,none,none],[none]] (cA h4))
 obtain⟨h5,h⟩|⟨h5,h⟩:=aL h
 ·obtain⟨y6,h7,h⟩:=aE h;cases h;exact((kQ.b h5).hp [[none,none,none]] (kJ h7)).ret hΓ
 ·obtain⟨h8,h⟩|⟨h8,h⟩:=aL h
  ·obtain⟨Bw,h12,h⟩:=aE h;obtain⟨h13,h⟩:=bp h;cases h;exact(((((kQ.b h5).b h8).a [.n2 [0,1,2,3,4,5,6,7] [0,1,2,3,4,5,6,7] 3 5 [0,1] [0]]).hp [[none,none,none]] (kJ h12)).w (eA h13)).rts hΓ (D.fy [D.agg [D.str y1.2.rel,D.fr 9 1 ((y1.2.args.map tx)++([[D.str Bw.2]]))],D.agg [D.sl (Bw.1.b.map yx),D.int .i64 Bw.1.i,D.int .i64 Bw.1.h],D.val ot]) (by first|rfl| (simp only[mA]<;>rfl))
  ·have kw:=((kQ.b h5).b h8)
   obtain⟨h14,h⟩|⟨h14,h⟩:=aL h
   ·obtain⟨BO,h16,h⟩:=aE h;obtain⟨h17,h⟩:=bp h;cases h;exact((((kw.b h14).hp [[none,none,none],[none]] (cA h16)).w (NE h17)).a [.cut 0 BO.2.toNat]).rts hΓ (D.fy [D.agg [D.str y1.2.rel,D.fr 9 1 ((([[63,120],[63,120],[63,121],[63,120]]:aC).map tx).take BO.2.toNat)],D.agg [D.sl (BO.1.b.map yx),D.int .i64 BO.1.i,D.int .i64 BO.1.h],D.val ot]) (by first|rfl| (simp only[mA]<;>rfl))
   ·cases h;exact(kw.b h14).ret hΓ
def kK(aI:cB):Option (cB×aU):=((iI aI).bind fun y1=>((cD y1.1 12).bind fun y3=>(bif (y3.2:Int)==0 then((gL y3.1 ([0,1,3,5,6, -1]:bz)).bind fun y6=>(some (y6.1,(⟨y6.2,y1.2.pat,y1.2.left,y1.2.right⟩:aU))))else(bif (y3.2:Int)==1 then((gB y3.1).bind fun y9=>(some (y9.1,(⟨y1.2.kind,y1.2.pat,y9.2,y1.2.right⟩:aU))))else(bif (y3.2:Int)==2 then((lg y3.1).bind fun H9=>(some (H9.1,(⟨y1.2.kind,H9.2,y1.2.left,y1.2.right⟩:aU))))else(some (y3.1,y1.2)))))))
theorem xM{aI:cB}{r:cB×aU}(h:kK aI=some r):jB prog 53 (cB.c aI) (cB.c r.1) [] (D.agg [D.int .i64 r.2.kind,D.str r.2.pat.rel,D.fr 9 1 (r.2.pat.args.map tx),D.str r.2.left,D.str r.2.right]):=by
 refine Cs func53 [[none,none,none],[none,none,some (9,1),none,none]] 25 [D.sl (aI.b.map yx),D.int .i64 aI.i,D.int .i64 aI.h] [] [] fun hr ot Γ hΓ=>?_
 rw[kK]at h;obtain⟨y1,h2,h⟩:=aE h;obtain⟨y3,h4,h⟩:=aE h;have kQ:=((ah.hp [[none,none,none]] (qB h2)).hp [[none,none,none],[none]] (cA h4))
 obtain⟨h5,h⟩|⟨h5,h⟩:=aL h
 ·obtain⟨y6,h7,h⟩:=aE h;cases h;exact((kQ.b h5).hp [[none,none,none],[some (3,1)]] (iT h7)).ret hΓ
 ·obtain⟨h8,h⟩|⟨h8,h⟩:=aL h
  ·obtain⟨y9,h10,h⟩:=aE h;cases h;exact(((kQ.b h5).b h8).hp [[none,none,none]] (kJ h10)).ret hΓ
  ·have kw:=((kQ.b h5).b h8)
   obtain⟨h11,h⟩|⟨h11,h⟩:=aL h
   ·obtain⟨H9,h13,h⟩:=aE h;cases h;exact((kw.b h11).hp [[none,none,none]] (qk h13)).ret hΓ
   ·cases h;exact(kw.b h11).ret hΓ
def kL(aI:cB):Option (cB×aW):=((ji aI).bind fun y1=>((cD y1.1 14).bind fun y3=>(bif (y3.2:Int)==0 then((gB y3.1).bind fun y6=>(some (y6.1,(⟨y6.2,y1.2.prio,y1.2.conds,y1.2.bg⟩:aW))))else(bif (y3.2:Int)==1 then((gL y3.1 ([-1,0,9,10]:bz)).bind fun y9=>(some (y9.1,(⟨y1.2.name,y9.2,y1.2.conds,y1.2.bg⟩:aW))))else(bif (y3.2:Int)==2 then((kK y3.1).bind fun zz=>(bif room ((y1.2.conds.map aU.c).length+([[D.int .i64 zz.2.kind,D.str zz.2.pat.rel,D.sl (zz.2.pat.args.map tx),D.str zz.2.left,D.str zz.2.right]]).length) 80 then(some (zz.1,(⟨y1.2.name,y1.2.prio,y1.2.conds++([zz.2]),y1.2.bg⟩:aW)))else none))else(bif (y3.2:Int)==3 then((gL y3.1 ([0,1,2,3,4]:bz)).bind fun Mq=>((lg Mq.1).bind fun EI=>(bif room ((y1.2.bg.map Action.c).length+([[D.int .i64 Mq.2,D.str EI.2.rel,D.sl (EI.2.args.map tx)]]).length) 48 then(some (EI.1,(⟨y1.2.name,y1.2.prio,y1.2.conds,y1.2.bg++([(⟨Mq.2,EI.2⟩:Action)])⟩:aW)))else none)))else(bif (y3.2:Int)==4 then((o8 (y1.2.conds.map aU.c).length (some (D.int .i64 1)) none).bind fun p=>(fun Q0 Qc=>(some (y3.1,(⟨y1.2.name,y1.2.prio,(y1.2.conds.take Qc).drop Q0,y1.2.bg⟩:aW)))) p.1 p.2)else(bif (y3.2:Int)==5 then((o8 (y1.2.bg.map Action.c).length (some (D.int .i64 1)) none).bind fun p=>(fun Q3 Qd=>(some (y3.1,(⟨y1.2.name,y1.2.prio,y1.2.conds,(y1.2.bg.take Qd).drop Q3⟩:aW)))) p.1 p.2)else(bif (y3.2:Int)==6 then((gO y3.1 ([[63,102],[63,97],[63,103]]:aC)).bind fun HK=>((gL HK.1 ([1,2]:bz)).bind fun T0=>((gO T0.1 ([[63,102],[63,120]]:aC)).bind fun OV=>(some (OV.1,(⟨y1.2.name,y1.2.prio,[(⟨1,(⟨[116],([[63,97],[63,98],[63,99]]:aC)⟩:bE),[],[]⟩:aU),(⟨1,(⟨[116],([[63,100],[63,101],HK.2]:aC)⟩:bE),[],[]⟩:aU),(⟨T0.2,(⟨[117],[OV.2]⟩:bE),[],[]⟩:aU)],[(⟨3,(⟨[],[]⟩:bE)⟩:Action)]⟩:aW))))))else(some (y3.1,y1.2)))))))))))
theorem xN{aI:cB}{r:cB×aW}(h:kL aI=some r):jB prog 15 (cB.c aI) (cB.c r.1) [] (D.agg [D.str r.2.name,D.int .i64 r.2.prio,D.sl (r.2.conds.map aU.c),D.sl (r.2.bg.map Action.c)]):=by
 refine Cs func15 [[none,none,none],[none,none,none,none]] 79 [D.sl (aI.b.map yx),D.int .i64 aI.i,D.int .i64 aI.h] [] [] fun hr ot Γ hΓ=>?_
 rw[kL]at h;obtain⟨y1,h2,h⟩:=aE h;obtain⟨y3,h4,h⟩:=aE h;have kQ:=((ah.hp [[none,none,none]] (wQ h2)).hp [[none,none,none],[none]] (cA h4))
 obtain⟨h5,h⟩|⟨h5,h⟩:=aL h
 ·obtain⟨y6,h7,h⟩:=aE h;cases h;exact(((kQ.b h5).hp [[none,none,none]] (kJ h7)).a [.sk 2,.sk 3]).ret hΓ
 ·obtain⟨h8,h⟩|⟨h8,h⟩:=aL h
  ·obtain⟨y9,h10,h⟩:=aE h;cases h;exact((((kQ.b h5).b h8).hp [[none,none,none],[some (3,1)]] (iT h10)).a [.sk 2,.sk 3]).ret hΓ
  ·have kw:=((kQ.b h5).b h8)
   obtain⟨h11,h⟩|⟨h11,h⟩:=aL h
   ·obtain⟨zz,h15,h⟩:=aE h;obtain⟨h16,h⟩:=bp h;cases h;exact(((((kw.b h11).a [.n2 [0,1,2,3,4,5,6,7] [0,1,2,3,4,5,6,7] 3 5 [0,1] [0,5]]).hp [[none,none,none]] (xM h15)).w (eA h16)).a [.sk 7,.sk 3]).rts hΓ (D.fy [D.agg [D.str y1.2.name,D.int .i64 y1.2.prio,D.sl ((y1.2.conds.map aU.c)++([[D.int .i64 zz.2.kind,D.str zz.2.pat.rel,D.sl (zz.2.pat.args.map tx),D.str zz.2.left,D.str zz.2.right]])),D.sl (y1.2.bg.map Action.c)],D.agg [D.sl (zz.1.b.map yx),D.int .i64 zz.1.i,D.int .i64 zz.1.h],D.val ot]) (by first|rfl| (simp only[mA]<;>rfl))
   ·obtain⟨h17,h⟩|⟨h17,h⟩:=aL h
    ·obtain⟨Mq,h23,h⟩:=aE h;obtain⟨EI,h25,h⟩:=aE h;obtain⟨h26,h⟩:=bp h;cases h;exact(((((((kw.b h11).b h17).a [.n2 [0,1,2,3,5,4,6,7,8,9,10,11] [0,1,2,3,5,4,6,7,8,9,10,11] 5 9 [0,1,4] [0,5,6]]).hp [[none,none,none],[some (3,1)]] (iT h23)).hp [[none,none,none]] (qk h25)).w (eA h26)).a [.sk 2,.sk 8]).rts hΓ (D.fy [D.agg [D.str y1.2.name,D.int .i64 y1.2.prio,D.sl (y1.2.conds.map aU.c),D.sl ((y1.2.bg.map Action.c)++([[D.int .i64 Mq.2,D.str EI.2.rel,D.sl (EI.2.args.map tx)]]))],D.agg [D.sl (EI.1.b.map yx),D.int .i64 EI.1.i,D.int .i64 EI.1.h],D.val ot]) (by first|rfl| (simp only[mA]<;>rfl))
    ·have mJ:=((kw.b h11).b h17)
     obtain⟨h27,h⟩|⟨h27,h⟩:=aL h
     ·obtain⟨⟨Q0,Qc⟩,h30,h⟩:=aE h;cases h;exact(((mJ.b h27).w (show o8 (y1.2.conds.map aU.c).length (some (D.int .i64 1)) none=some (Q0,Qc)/\((y1.2.conds.map aU.c).all fun r=>r.length==5)=true from⟨h30,by simp[aO]⟩)).a [.fz,.cut Q0 Qc,.sk 3]).rts hΓ (D.fy [D.agg [D.str y1.2.name,D.int .i64 y1.2.prio,D.sl (((y1.2.conds.map aU.c).take Qc).drop Q0),D.sl (y1.2.bg.map Action.c)],D.agg [D.sl (y3.1.b.map yx),D.int .i64 y3.1.i,D.int .i64 y3.1.h],D.val ot]) (by first|rfl| (simp only[mA]<;>rfl)| (simp only[mA,au]<;>rfl))
     ·obtain⟨h31,h⟩|⟨h31,h⟩:=aL h
      ·obtain⟨⟨Q3,Qd⟩,h34,h⟩:=aE h;cases h;exact((((mJ.b h27).b h31).w (show o8 (y1.2.bg.map Action.c).length (some (D.int .i64 1)) none=some (Q3,Qd)/\((y1.2.bg.map Action.c).all fun r=>r.length==3)=true from⟨h34,by simp[aO]⟩)).a [.fz,.cut Q3 Qd,.sk 2]).rts hΓ (D.fy [D.agg [D.str y1.2.name,D.int .i64 y1.2.prio,D.sl (y1.2.conds.map aU.c),D.sl (((y1.2.bg.map Action.c).take Qd).drop Q3)],D.agg [D.sl (y3.1.b.map yx),D.int .i64 y3.1.i,D.int .i64 y3.1.h],D.val ot]) (by first|rfl| (simp only[mA]<;>rfl)| (simp only[mA,au]<;>rfl))
      ·have mN:=((mJ.b h27).b h31)
       obtain⟨h35,h⟩|⟨h35,h⟩:=aL h
       ·obtain⟨HK,h37,h⟩:=aE h;obtain⟨T0,h39,h⟩:=aE h;obtain⟨OV,h41,h⟩:=aE h;cases h;exact(((((mN.b h35).hp [[none,none,none],[some (9,1)]] (jZ h37)).hp [[none,none,none],[some (3,1)]] (iT h39)).hp [[none,none,none],[some (9,1)]] (jZ h41)).a [.sk 11,.sk 12]).ret hΓ
       ·cases h;exact((mN.b h35).a [.sk 2,.sk 3]).ret hΓ
def gi(aI:bz):Option aW:=((nD aI).bind fun y1=>((kL y1).bind fun y3=>(some y3.2)))
theorem pu{aI:bz}{r:aW}(h:gi aI=some r):Good prog 6 [D.sl (aI.map yx)] (D.agg [D.str r.name,D.int .i64 r.prio,D.sl (r.conds.map aU.c),D.sl (r.bg.map Action.c)]):=by
 refine gd func6 [[none,none,none,none]] 6 fun hr Γ hΓ=>?_
 rw[gi]at h;obtain⟨y1,h2,h⟩:=aE h;obtain⟨y3,h4,h⟩:=aE h;cases h;exact((ah.hn (xJ h2)).hp [[none,none,none]] (xN h4)).ret hΓ
def dS(aI:Bytes)(k1:Option Bool):Nat->Int->Option Bool
 |0,_=>none
 |n1+1,ga=>(bif decide ((ga:Int)<(aI.length:Int))then((k8 aI ga).bind fun ND=>(bif decide ((ND.toNat:Int)<97)then(bif decide ((ND.toNat:Int)<48)then(some false)else(bif decide ((ND.toNat:Int)>57)then(some false)else(dS aI k1 n1 (IntKind.i64.wrap (ga+1)))))else(bif decide ((ND.toNat:Int)>122)then(bif decide ((ND.toNat:Int)<48)then(some false)else(bif decide ((ND.toNat:Int)>57)then(some false)else(dS aI k1 n1 (IntKind.i64.wrap (ga+1)))))else(dS aI k1 n1 (IntKind.i64.wrap (ga+1))))))else(k1))
def jd(aI:Bytes):Option Bool:=(bif decide (((aI.length:Int):Int)<1)then(some false)else(bif decide (((aI.length:Int):Int)>8)then(some false)else(dS aI (some true) fuel 0)))
def yO(aI:Bytes)(ga:Int):St:=⟨[(0,D.str aI),(3,D.int .i64 ga)],[]⟩
theorem wz(hΓ:Γ.nt=40){aI:Bytes}{r:Bool}{k1:Option Bool}(mR:k1=some r->Ax Γ N f93 (.q [[none]] (D.bool r)) [1,1,1] ⟨[],[]⟩):∀(n1:Nat) (ga:Int),dS aI k1 n1 ga=some r->Ar Γ N f93 (.q [[none]] (D.bool r)) [1,1,0,1,0] n1 (yO aI ga):=by
 intro n
 induction n with
 |zero=>intro ga h;simp[dS]at h
 |succ n1 ih1=>
  intro ga h;rw[dS]at h;refine aj fun N1 hN1 iJ=>?_
  obtain⟨h30,h⟩|⟨h30,h⟩:=aL h
  ·obtain⟨ND,h32,h⟩:=aE h;have Aj:=((ah.b h30).c h32)
   obtain⟨h33,h⟩|⟨h33,h⟩:=aL h
   ·have Bg:=((((Aj.r 5 h33).T 3).c h32).T 2)
    obtain⟨h34,h⟩|⟨h34,h⟩:=aL h
    ·have h:=aT h;subst h;exact((((Bg.r 4 h34).T 1).b h34).T 2).ret hΓ
    ·have Fy:=((((((Bg.r 3 h34).c h32).b h34).T 1).b h34).T 1)
     obtain⟨h35,h⟩|⟨h35,h⟩:=aL h
     ·have h:=aT h;subst h;exact(Fy.b h35).ret hΓ
     ·exact((Fy.b h35).a [.cn [0,3] []]).cf hΓ iJ (ih1 (IntKind.i64.wrap (ga+1)) h)
   ·have Dt:=(((Aj.r 3 h33).c h32).r 2 h33)
    obtain⟨h36,h⟩|⟨h36,h⟩:=aL h
    ·have Du:=(((Dt.r 3 h36).c h32).r 2 h36)
     obtain⟨h37,h⟩|⟨h37,h⟩:=aL h
     ·have h:=aT h;subst h;exact(((((Du.r 4 h37).b h36).b h37).b h36).T 1).ret hΓ
     ·have zc:=((((((Du.r 3 h37).c h32).b h37).b h36).b h37).b h36)
      obtain⟨h38,h⟩|⟨h38,h⟩:=aL h
      ·have h:=aT h;subst h;exact(zc.b h38).ret hΓ
      ·exact((zc.b h38).a [.cn [0,3] []]).cf hΓ iJ (ih1 (IntKind.i64.wrap (ga+1)) h)
    ·exact(((Dt.r 7 h36).F 1).a [bF,bF,bF,bF,.cn [0,3] []]).cf hΓ iJ (ih1 (IntKind.i64.wrap (ga+1)) h)
  ·exact((ah.b h30).a [.hl 0 [] []]).ex hΓ hN1 (mR h)
theorem jC{aI:Bytes}{r:Bool}(h:jd aI=some r):Good prog 93 [D.str aI] (D.bool r):=by
 refine gd func93 [[none]] 40 fun hr Γ hΓ=>?_
 rw[jd]at h;obtain⟨h1,h⟩|⟨h1,h⟩:=aL h
 ·have h:=aT h;subst h;exact((ah.r 4 h1).T 1).ret hΓ
 ·have Dv:=(ah.r 4 h1)
  obtain⟨h2,h⟩|⟨h2,h⟩:=aL h
  ·have h:=aT h;subst h;exact(Dv.b h2).ret hΓ
  ·refine((Dv.b h2).a [.cn [0,3] []]).lp hΓ (wz hΓ (fun h=>?_) fuel 0 h);have h:=aT h;subst h;exact ah.ret hΓ
def ke(aI:Bytes):Option Bool:=((jd aI).bind fun y1=>(bif y1 then((k8 aI 0).bind fun b4=>(some (decide ((b4.toNat:Int)>=97))))else(some false)))
theorem kG{aI:Bytes}{r:Bool}(h:ke aI=some r):Good prog 56 [D.str aI] (D.bool r):=by
 refine gd func56 [[none]] 10 fun hr Γ hΓ=>?_
 rw[ke]at h;obtain⟨y1,h2,h⟩:=aE h;obtain⟨h3,h⟩|⟨h3,h⟩:=aL h
 ·obtain⟨b4,h5,h⟩:=aE h;cases h;exact((((ah.g (jC h2)).r 2 h3).c h5).r 2 h3).ret hΓ
 ·have h:=aT h;subst h;exact((ah.g (jC h2)).r 4 h3).ret hΓ
def lf(aI:Bytes):Option Bool:=(bif decide (((aI.length:Int):Int)>1)then((k8 aI 0).bind fun b2=>(bif (b2.toNat:Int)==63 then((o8 aI.length (some (D.int .i64 1)) none).bind fun p=>(fun l5 u6=>((jd ((aI.take u6).drop l5)).bind fun y8=>(some y8))) p.1 p.2)else(some false)))else(some false))
theorem qj{aI:Bytes}{r:Bool}(h:lf aI=some r):Good prog 99 [D.str aI] (D.bool r):=by
 refine gd func99 [[none]] 16 fun hr Γ hΓ=>?_
 rw[lf]at h;obtain⟨h1,h⟩|⟨h1,h⟩:=aL h
 ·obtain⟨b2,h3,h⟩:=aE h;have kQ:=(((ah.r 2 h1).c h3).r 2 h1)
  obtain⟨h4,h⟩|⟨h4,h⟩:=aL h
  ·obtain⟨⟨l5,u6⟩,h7,h⟩:=aE h;obtain⟨y8,h9,h⟩:=aE h;have h:=aT h;subst h;exact((((((kQ.r 2 h4).w h7).a [.cut l5 u6]).b h4).g (jC h9)).b h4).ret hΓ
  ·have h:=aT h;subst h;exact(kQ.r 4 h4).ret hΓ
 ·have h:=aT h;subst h;exact((ah.r 4 h1).F 4).ret hΓ
def eZ(aI:Bytes):Option Bool:=((jd aI).bind fun y1=>(bif y1 then(some true)else((lf aI).bind fun y4=>(some y4))))
theorem fP{aI:Bytes}{r:Bool}(h:eZ aI=some r):Good prog 95 [D.str aI] (D.bool r):=by
 refine gd func95 [[none]] 9 fun hr Γ hΓ=>?_
 rw[eZ]at h;obtain⟨y1,h2,h⟩:=aE h;obtain⟨h3,h⟩|⟨h3,h⟩:=aL h
 ·have h:=aT h;subst h;exact((ah.g (jC h2)).r 3 h3).ret hΓ
 ·obtain⟨y4,h5,h⟩:=aE h;have h:=aT h;subst h;exact((((ah.g (jC h2)).r 2 h3).g (qj h5)).b h3).ret hΓ
def gT(aI:bE)(k1:Option Bool):aC->Nat->Option Bool
 | [],i1=>(k1)
 |eP::js,i1=>((eZ eP).bind fun zg=>(bif !(zg)then(some false)else(gT aI k1 js (i1+1))))
def eD(aI:bE):Option Bool:=((ke aI.rel).bind fun y1=>(bif !(y1)then(some false)else(bif decide ((((aI.args.map tx).length:Int):Int)>3)then(some false)else(gT aI (some true) aI.args 0))))
def vL(aI:bE)(kY:Int):St:=⟨[(16,D.sl (aI.args.map tx)),(17,D.int .i64 ((aI.args.map tx).length:Int)),(18,D.int .i64 kY)],[]⟩
theorem uB(hΓ:Γ.nt=26){aI:bE}{r:Bool}{k1:Option Bool}(mR:k1=some r->Ax Γ N f94 (.q [[none]] (D.bool r)) [1,1,1] ⟨[],[]⟩)(hm1:aI.args.length<=maxLen):∀(rest:aC) (i1:Nat),aI.args.drop i1=rest->gT aI k1 rest i1=some r->Ar Γ N f94 (.q [[none]] (D.bool r)) [1,1,0,1,0] (rest.length+1) (vL aI (i1:Int)):=by
 intro rest
 induction rest with
 |nil=>
  intro i1 cE h;rw[gT]at h;refine aj fun N1 hN1 iJ=>?_
  exact((ah.ge tx cE).a [.hl 0 [] []]).ex hΓ hN1 (mR h)
 |cons eP js ih1=>
  intro i1 cE h;rw[gT]at h;refine aj fun N1 hN1 iJ=>?_
  obtain⟨zg,h26,h⟩:=aE h;have kw:=(((ah.lt tx cE).l (cz tx 1 (dc cE) rfl)).g (fP h26))
  obtain⟨h27,h⟩|⟨h27,h⟩:=aL h
  ·have h:=aT h;subst h;exact(kw.b h27).ret hΓ
  ·exact((kw.b h27).a [.cn [16,17,18] []]).ct hΓ iJ (iS cE hm1) (ih1 (i1+1) (dn cE) h)
theorem cZ{aI:bE}{r:Bool}(h:eD aI=some r):Good prog 94 [D.agg (bE.c aI)] (D.bool r):=by
 refine gd func94 [[none]] 26 fun hr Γ hΓ=>?_
 rw[eD]at h;obtain⟨y1,h2,h⟩:=aE h;obtain⟨h3,h⟩|⟨h3,h⟩:=aL h
 ·have h:=aT h;subst h;exact(((ah.g (kG h2)).r 5 h3).T 1).ret hΓ
 ·have mJ:=((ah.g (kG h2)).r 5 h3)
  obtain⟨h4,h⟩|⟨h4,h⟩:=aL h
  ·have h:=aT h;subst h;exact(mJ.b h4).ret hΓ
  ·refine((mJ.b h4).a [.cn [16,17,18] []]).lp hΓ (uB hΓ (fun h=>?_) (by have:=(n7.sl (n7.agg (hr _ (aD (i:=0) rfl)) (.sl (aI.args.map tx)) (by simp))).1;simpa using this) aI.args 0 rfl h);have h:=aT h;subst h;exact ah.ret hΓ
def eV(aI:bE):Option Bool:=(bif (aI.rel:Bytes)==([])then(some ((((aI.args.map tx).length:Int):Int)==0))else(some false))
theorem iQ{aI:bE}{r:Bool}(h:eV aI=some r):Good prog 96 [D.agg (bE.c aI)] (D.bool r):=by
 refine gd func96 [[none]] 12 fun hr Γ hΓ=>?_
 rw[eV]at h;obtain⟨h1,h⟩|⟨h1,h⟩:=aL h
 ·cases h;exact(ah.r 5 h1).ret hΓ
 ·have h:=aT h;subst h;exact(ah.r 5 h1).ret hΓ
def gA(aI:aU):Option Bool:=(bif (aI.kind:Int)==1 then((eD aI.pat).bind fun y2=>(bif y2 then(bif (aI.left:Bytes)==([])then(some ((aI.right:Bytes)==([])))else(some false))else(some false)))else(bif (aI.kind:Int)==2 then((eD aI.pat).bind fun y7=>(bif y7 then(bif (aI.left:Bytes)==([])then(some ((aI.right:Bytes)==([])))else(some false))else(some false)))else(bif (aI.kind:Int)==3 then((eZ aI.left).bind fun H9=>(bif H9 then((eZ aI.right).bind fun BO=>(bif BO then((eV aI.pat).bind fun K7=>(some K7))else(some false)))else(some false)))else(bif (aI.kind:Int)==4 then((eZ aI.left).bind fun Qk=>(bif Qk then((eZ aI.right).bind fun EI=>(bif EI then((eV aI.pat).bind fun Mr=>(some Mr))else(some false)))else(some false)))else(bif (aI.kind:Int)==5 then((eZ aI.left).bind fun vE=>(bif vE then((eZ aI.right).bind fun qv=>(bif qv then((eV aI.pat).bind fun HK=>(some HK))else(some false)))else(some false)))else(some false))))))
theorem br{aI:aU}{r:Bool}(h:gA aI=some r):Good prog 57 [D.agg (aU.c aI)] (D.bool r):=by
 refine gd func57 [[none]] 38 fun hr Γ hΓ=>?_
 rw[gA]at h;obtain⟨h1,h⟩|⟨h1,h⟩:=aL h
 ·obtain⟨y2,h3,h⟩:=aE h;have kQ:=((ah.r 2 h1).g (cZ h3))
  obtain⟨h4,h⟩|⟨h4,h⟩:=aL h
  ·have kw:=(kQ.r 4 h4)
   obtain⟨h5,h⟩|⟨h5,h⟩:=aL h
   ·cases h;exact(kw.r 4 h5).ret hΓ
   ·have h:=aT h;subst h;exact(kw.r 4 h5).ret hΓ
  ·have h:=aT h;subst h;exact((kQ.r 4 h4).F 4).ret hΓ
 ·obtain⟨h6,h⟩|⟨h6,h⟩:=aL h
  ·obtain⟨y7,h8,h⟩:=aE h;have mJ:=(((ah.b h1).b h6).g (cZ h8))
   obtain⟨h9,h⟩|⟨h9,h⟩:=aL h
   ·have mN:=(mJ.r 4 h9)
    obtain⟨h10,h⟩|⟨h10,h⟩:=aL h
    ·cases h;exact(mN.r 4 h10).ret hΓ
    ·have h:=aT h;subst h;exact(mN.r 4 h10).ret hΓ
   ·have h:=aT h;subst h;exact((mJ.r 4 h9).F 4).ret hΓ
  ·have ur:=((ah.b h1).b h6)
   obtain⟨h11,h⟩|⟨h11,h⟩:=aL h
   ·obtain⟨H9,h13,h⟩:=aE h;have zJ:=((ur.r 2 h11).g (fP h13))
    obtain⟨h14,h⟩|⟨h14,h⟩:=aL h
    ·obtain⟨BO,h16,h⟩:=aE h;have Aj:=(((zJ.r 3 h14).g (fP h16)).b h14)
     obtain⟨h17,h⟩|⟨h17,h⟩:=aL h
     ·obtain⟨K7,h19,h⟩:=aE h;have h:=aT h;subst h;exact(((Aj.r 3 h17).g (iQ h19)).b h17).ret hΓ
     ·have h:=aT h;subst h;exact(Aj.r 4 h17).ret hΓ
    ·have h:=aT h;subst h;exact((zJ.r 4 h14).F 4).ret hΓ
   ·obtain⟨h20,h⟩|⟨h20,h⟩:=aL h
    ·obtain⟨Qk,h22,h⟩:=aE h;have Bg:=(((ur.b h11).r 2 h20).g (fP h22))
     obtain⟨h23,h⟩|⟨h23,h⟩:=aL h
     ·obtain⟨EI,h25,h⟩:=aE h;have Fy:=(((Bg.r 3 h23).g (fP h25)).b h23)
      obtain⟨h26,h⟩|⟨h26,h⟩:=aL h
      ·obtain⟨Mr,h28,h⟩:=aE h;have h:=aT h;subst h;exact(((Fy.r 3 h26).g (iQ h28)).b h26).ret hΓ
      ·have h:=aT h;subst h;exact(Fy.r 4 h26).ret hΓ
     ·have h:=aT h;subst h;exact((Bg.r 4 h23).F 4).ret hΓ
    ·have Dt:=((ur.b h11).b h20)
     obtain⟨h29,h⟩|⟨h29,h⟩:=aL h
     ·obtain⟨vE,h31,h⟩:=aE h;have Du:=((Dt.b h29).g (fP h31))
      obtain⟨h32,h⟩|⟨h32,h⟩:=aL h
      ·obtain⟨qv,h34,h⟩:=aE h;have zc:=(((Du.r 3 h32).g (fP h34)).b h32)
       obtain⟨h35,h⟩|⟨h35,h⟩:=aL h
       ·obtain⟨HK,h37,h⟩:=aE h;have h:=aT h;subst h;exact(((zc.r 3 h35).g (iQ h37)).b h35).ret hΓ
       ·have h:=aT h;subst h;exact(zc.r 4 h35).ret hΓ
      ·have h:=aT h;subst h;exact((Du.r 4 h32).F 4).ret hΓ
     ·have h:=aT h;subst h;exact(Dt.b h29).ret hΓ
def dJ(aI:aC)(k1:aC->Option aC):aC->Nat->aC->Option aC
 | [],i1,dL=>(k1 dL)
 |eP::js,i1,dL=>((lf eP).bind fun Tv=>(bif Tv then(bif room ((dL.map tx).length+([[D.str eP]]).length) 16 then(dJ aI k1 js (i1+1) (dL++([eP])))else none)else(dJ aI k1 js (i1+1) dL)))
def gz(aI:aC):Option aC:=(dJ aI (fun(iO:aC)=>(some iO)) aI 0 ([]:aC))
def ol(aI:aC)(W0:List aG)(kY:Int):St:=⟨[(3,D.acc 0),(6,D.sl (aI.map tx)),(7,D.int .i64 ((aI.map tx).length:Int)),(8,D.int .i64 kY)],[Ob.row .uq 9 1 W0]⟩
theorem uJ(hΓ:Γ.nt=20){aI:aC}{r:aC}{k1:aC->Option aC}(mR:∀(iO:aC),k1 iO=some r->Ax Γ N f61 (.q [[some (9,1)]] (D.fr 9 1 (r.map tx))) [1,1,1] ⟨[(3,D.acc 0)],[Ob.row .uq 9 1 (iO.map tx)]⟩)(hm1:aI.length<=maxLen):∀(rest:aC) (i1:Nat) (dL:aC),aI.drop i1=rest->dJ aI k1 rest i1 dL=some r->Ar Γ N f61 (.q [[some (9,1)]] (D.fr 9 1 (r.map tx))) [1,1,0,1,0] (rest.length+1) (ol aI (dL.map tx) (i1:Int)):=by
 intro rest
 induction rest with
 |nil=>
  intro i1 dL cE h;rw[dJ]at h;refine aj fun N1 hN1 iJ=>?_
  exact((ah.ge tx cE).a [.hl 0 [3] [0]]).ex hΓ hN1 (mR dL h)
 |cons eP js ih1=>
  intro i1 dL cE h;rw[dJ]at h;refine aj fun N1 hN1 iJ=>?_
  obtain⟨Tv,h33,h⟩:=aE h;have kw:=(((ah.lt tx cE).l (cz tx 1 (dc cE) rfl)).g (qj h33))
  obtain⟨h34,h⟩|⟨h34,h⟩:=aL h
  ·obtain⟨h35,h⟩:=bp h;exact(((kw.b h34).w (eA h35)).a [.cn [3,6,7,8] [2]]).cs hΓ iJ (ol aI ((dL.map tx)++([[D.str eP]])) (IntKind.i64.wrap ((i1:Int)+1))) (by first| (simp only[iS cE hm1,mA]<;>rfl)| (simp only[iS cE hm1,mA,bE.c,nq.c,aU.c,Action.c,aW.c,l8.c,lK.c,l6.c,Node.c,gb.c,mF.c]<;>rfl)) (ih1 (i1+1) (dL++([eP])) (dn cE) h)
  ·exact((kw.b h34).a [.cn [3,6,7,8] [0]]).ct hΓ iJ (iS cE hm1) (ih1 (i1+1) dL (dn cE) h)
theorem kr{aI:aC}{r:aC}(h:gz aI=some r):Good prog 61 [D.sl (aI.map tx)] (D.fr 9 1 (r.map tx)):=by
 refine gd func61 [[some (9,1)]] 20 fun hr Γ hΓ=>?_
 rw[gz]at h;refine(ah.a [.JD 3,.cn [3,6,7,8] [0]]).lp hΓ (uJ hΓ (fun iO h=>?_) (by have:=(n7.sl (hr _ (aD (i:=0) rfl))).1;simpa using this) aI 0 ([]:aC) rfl h);have h:=aT h;subst h;exact ah.ret hΓ
def cM(aI:aC)(k1:aC->Option aC):aC->Nat->aC->Option aC
 | [],i1,fA=>(k1 fA)
 |eP::js,i1,fA=>(bif ((i1:Int):Int)==0 then(bif room ((fA.map tx).length+([[D.str eP]]).length) 16 then(cM aI k1 js (i1+1) (fA++([eP])))else none)else((k8 (iV (([]:aC)++aI)) (IntKind.i64.wrap ((i1:Int)-1))).bind fun x47=>(bif !((x47:Bytes)==eP)then(bif room ((fA.map tx).length+([[D.str eP]]).length) 16 then(cM aI k1 js (i1+1) (fA++([eP])))else none)else(cM aI k1 js (i1+1) fA))))
def fS(aI:aC):Option aC:=(bif room (([]:List aG).length+(aI.map tx).length) 16 then(bif decide ((([]:aC)++aI).length<4611686018427387904)then(bif decide ((iV (([]:aC)++aI)).length<=maxLen)then(cM aI (fun(iO:aC)=>(some iO)) (iV (([]:aC)++aI)) 0 ([]:aC))else none)else none)else none)
def kq(aI:aC)(W0:List aG)(kY:Int):St:=⟨[(3,D.acc 0),(4,D.acc 1),(11,D.acc 0),(12,D.int .i64 (((iV (([]:aC)++aI)).map tx).length:Int)),(13,D.int .i64 kY)],[Ob.row .uq 9 1 ((iV (([]:aC)++aI)).map tx),Ob.row .uq 9 1 W0]⟩
theorem sG(hΓ:Γ.nt=35){aI:aC}{r:aC}{k1:aC->Option aC}(mR:∀(iO:aC),k1 iO=some r->Ax Γ N f63 (.q [[some (9,1)]] (D.fr 9 1 (r.map tx))) [1,1,1,1,1] ⟨[(4,D.acc 0)],[Ob.row .uq 9 1 (iO.map tx)]⟩)(hm1:(iV (([]:aC)++aI)).length<=maxLen):∀(rest:aC) (i1:Nat) (fA:aC),(iV (([]:aC)++aI)).drop i1=rest->cM aI k1 rest i1 fA=some r->Ar Γ N f63 (.q [[some (9,1)]] (D.fr 9 1 (r.map tx))) [1,1,1,1,0,1,0] (rest.length+1) (kq aI (fA.map tx) (i1:Int)):=by
 intro rest
 induction rest with
 |nil=>
  intro i1 fA cE h;rw[cM]at h;refine aj fun N1 hN1 iJ=>?_
  exact((ah.ge tx cE).a [.hl 0 [4] [1]]).ex hΓ hN1 (mR fA h)
 |cons eP js ih1=>
  intro i1 fA cE h;rw[cM]at h;refine aj fun N1 hN1 iJ=>?_
  have mJ:=(((ah.lt tx cE).i (kM tx 1 (dc cE))).o 1 1 .uq (cK tx (dc cE)))
  obtain⟨h45,h⟩|⟨h45,h⟩:=aL h
  ·obtain⟨h46,h⟩:=bp h;exact((((mJ.r 8 h45).T 1).w (eA h46)).a [.cn [3,4,11,12,13] [0,3]]).cs hΓ iJ (kq aI ((fA.map tx)++([[D.str eP]])) (IntKind.i64.wrap ((i1:Int)+1))) (by first| (simp only[iS cE hm1,mA]<;>rfl)| (simp only[iS cE hm1,mA,bE.c,nq.c,aU.c,Action.c,aW.c,l8.c,lK.c,l6.c,Node.c,gb.c,mF.c]<;>rfl)) (ih1 (i1+1) (fA++([eP])) (dn cE) h)
  ·obtain⟨x47,h48,h⟩:=aE h;have mN:=(((((mJ.r 4 h45).i (gZ tx 1 h48)).b h45).o 1 1 .uq (cK tx (eO h48))).r 3 h45)
   obtain⟨h49,h⟩|⟨h49,h⟩:=aL h
   ·obtain⟨h50,h⟩:=bp h;exact(((mN.b h49).w (eA h50)).a [.cn [3,4,11,12,13] [0,3]]).cs hΓ iJ (kq aI ((fA.map tx)++([[D.str eP]])) (IntKind.i64.wrap ((i1:Int)+1))) (by first| (simp only[iS cE hm1,mA]<;>rfl)| (simp only[iS cE hm1,mA,bE.c,nq.c,aU.c,Action.c,aW.c,l8.c,lK.c,l6.c,Node.c,gb.c,mF.c]<;>rfl)) (ih1 (i1+1) (fA++([eP])) (dn cE) h)
   ·exact((mN.b h49).a [.cn [3,4,11,12,13] [0,1]]).ct hΓ iJ (iS cE hm1) (ih1 (i1+1) fA (dn cE) h)
theorem jw{aI:aC}{r:aC}(h:fS aI=some r):Good prog 63 [D.sl (aI.map tx)] (D.fr 9 1 (r.map tx)):=by
 refine gd func63 [[some (9,1)]] 35 fun hr Γ hΓ=>?_
 rw[fS]at h;obtain⟨h1,h⟩:=bp h;obtain⟨h2,h⟩:=bp h;obtain⟨h51,h⟩:=bp h;refine(((((ah.w (eA h1)).w (show(∀r∈(aI.map tx),r.length=1)/\(true=true->D.qH (aI.map tx)=true)from⟨by first|simp| (intro r hr;obtain⟨x,_,rfl⟩:=cQ.1 (bQ (fc hr));rfl),by simp[D.qH,D.flat]⟩)).w (show(([]:List aG)++(aI.map tx)).flatten.all D.flat=true from by simpa only[aa,ax,bI]using DJ (([]:aC)++aI))).w (show Cz prog 100 9 1 (([]:List aG)++(aI.map tx)) ((iV (([]:aC)++aI)).map tx)from by simpa only[aa,ax,bI]using(vS (e:=9) (av h2)))).a [.fl true,.mu 0 ((iV (([]:aC)++aI)).map tx),.JD 4,.cn [3,4,11,12,13] [0,1]]).lp hΓ (sG hΓ (fun iO h=>?_) (av h51) (iV (([]:aC)++aI)) 0 ([]:aC) rfl h);have h:=aT h;subst h;exact ah.ret hΓ
def cm(aI:aW)(bY:Int)(k1:aC->Option aC):bP->Nat->aC->Option aC
 | [],i1,dL=>(k1 dL)
 |eP::js,i1,dL=>(bif decide (((i1:Int):Int)<bY)then(bif (eP.kind:Int)==1 then((gz eP.pat.args).bind fun BP=>(bif room ((dL.map tx).length+(BP.map tx).length) 16 then(cm aI bY k1 js (i1+1) (dL++BP))else none))else(cm aI bY k1 js (i1+1) dL))else(cm aI bY k1 js (i1+1) dL))
def j8(aI:aW)(bY:Int):Option aC:=(cm aI bY (fun(iO:aC)=>((fS iO).bind fun Tw=>(some Tw))) aI.conds 0 ([]:aC))
def oc(aI:aW)(bY:Int)(W0:List aG)(kY:Int):St:=⟨[(1,D.int .i64 bY),(5,D.acc 0),(9,D.sl (aI.conds.map aU.c)),(10,D.int .i64 ((aI.conds.map aU.c).length:Int)),(11,D.int .i64 kY)],[Ob.row .uq 9 1 W0]⟩
theorem uA(hΓ:Γ.nt=33){aI:aW}{bY:Int}{r:aC}{k1:aC->Option aC}(mR:∀(iO:aC),k1 iO=some r->Ax Γ N f59 (.q [[some (9,1)]] (D.fr 9 1 (r.map tx))) [1,1,1] ⟨[(5,D.acc 0)],[Ob.row .uq 9 1 (iO.map tx)]⟩)(hm1:aI.conds.length<=maxLen):∀(rest:bP) (i1:Nat) (dL:aC),aI.conds.drop i1=rest->cm aI bY k1 rest i1 dL=some r->Ar Γ N f59 (.q [[some (9,1)]] (D.fr 9 1 (r.map tx))) [1,1,0,1,0] (rest.length+1) (oc aI bY (dL.map tx) (i1:Int)):=by
 intro rest
 induction rest with
 |nil=>
  intro i1 dL cE h;rw[cm]at h;refine aj fun N1 hN1 iJ=>?_
  exact((ah.ge aU.c cE).a [.hl 0 [5] [0]]).ex hΓ hN1 (mR dL h)
 |cons eP js ih1=>
  intro i1 dL cE h;rw[cm]at h;refine aj fun N1 hN1 iJ=>?_
  have mJ:=((ah.lt aU.c cE).l (cz aU.c 5 (dc cE) rfl))
  obtain⟨h37,h⟩|⟨h37,h⟩:=aL h
  ·have mN:=(mJ.r 4 h37)
   obtain⟨h38,h⟩|⟨h38,h⟩:=aL h
   ·obtain⟨BP,h40,h⟩:=aE h;obtain⟨h41,h⟩:=bp h;exact((((mN.b h38).g (kr h40)).w (eA h41)).a [.cn [1,5,9,10,11] [3]]).cs hΓ iJ (oc aI bY ((dL.map tx)++(BP.map tx)) (IntKind.i64.wrap ((i1:Int)+1))) (by first| (simp only[iS cE hm1,mA]<;>rfl)| (simp only[iS cE hm1,mA,bE.c,nq.c,aU.c,Action.c,aW.c,l8.c,lK.c,l6.c,Node.c,gb.c,mF.c]<;>rfl)) (ih1 (i1+1) (dL++BP) (dn cE) h)
   ·exact((mN.b h38).a [.cn [1,5,9,10,11] [0]]).ct hΓ iJ (iS cE hm1) (ih1 (i1+1) dL (dn cE) h)
  ·exact(((mJ.r 4 h37).F 1).a [.cn [1,5,9,10,11] [0]]).ct hΓ iJ (iS cE hm1) (ih1 (i1+1) dL (dn cE) h)
theorem nN{aI:aW}{bY:Int}{r:aC}(h:j8 aI bY=some r):Good prog 59 [D.agg (aW.c aI),D.int .i64 bY] (D.fr 9 1 (r.map tx)):=by
 refine gd func59 [[some (9,1)]] 33 fun hr Γ hΓ=>?_
 rw[j8]at h;refine(ah.a [.JD 5,.cn [1,5,9,10,11] [1]]).lp hΓ (uA hΓ (fun iO h=>?_) (by have:=(n7.sl (n7.agg (hr _ (aD (i:=0) rfl)) (.sl (aI.conds.map aU.c)) (by simp))).1;simpa using this) aI.conds 0 ([]:aC) rfl h);obtain⟨Tw,h43,h⟩:=aE h;have h:=aT h;subst h;exact(ah.g (jw h43)).ret hΓ
def jx(aI:aC):Option aC:=(bif room (([]:List aG).length+(aI.map tx).length) 16 then(some (([]:aC)++aI))else none)
theorem tJ{aI:aC}{r:aC}(h:jx aI=some r):Good prog 141 [D.sl (aI.map tx)] (D.fr 9 1 (r.map tx)):=by
 refine gd func141 [[some (9,1)]] 5 fun hr Γ hΓ=>?_
 rw[jx]at h;obtain⟨h1,h⟩:=bp h;cases h;exact(((ah.w (eA h1)).w (show(∀r∈(aI.map tx),r.length=1)/\(true=true->D.qH (aI.map tx)=true)from⟨by first|simp| (intro r hr;obtain⟨x,_,rfl⟩:=cQ.1 (bQ (fc hr));rfl),by simp[D.qH,D.flat]⟩)).a [.JD 2,.fl true]).rts hΓ (D.fr 9 1 (([]:List aG)++(aI.map tx))) (by first|rfl| (simp only[mA]<;>rfl))
def lR(aI:aU):Option aC:=((jx aI.pat.args).bind fun y1=>(bif room ((y1.map tx).length+(([aI.left,aI.right]:aC).map tx).length) 16 then(some (y1++([aI.left,aI.right]:aC)))else none))
theorem vR{aI:aU}{r:aC}(h:lR aI=some r):Good prog 120 [D.agg (aU.c aI)] (D.fr 9 1 (r.map tx)):=by
 refine gd func120 [[some (9,1)]] 13 fun hr Γ hΓ=>?_
 rw[lR]at h;obtain⟨y1,h2,h⟩:=aE h;obtain⟨h3,h⟩:=bp h;cases h;exact(((ah.a [.JD 2,.n 9]).g (tJ h2)).w (eA h3)).rts hΓ (D.fr 9 1 ((y1.map tx)++(([aI.left,aI.right]:aC).map tx))) (by first|rfl| (simp only[mA]<;>rfl))
def iX(aI:aU):Option aC:=((lR aI).bind fun y1=>((gz y1).bind fun y3=>((fS y3).bind fun y5=>(some y5))))
theorem lN{aI:aU}{r:aC}(h:iX aI=some r):Good prog 97 [D.agg (aU.c aI)] (D.fr 9 1 (r.map tx)):=by
 refine gd func97 [[some (9,1)]] 7 fun hr Γ hΓ=>?_
 rw[iX]at h;obtain⟨y1,h2,h⟩:=aE h;obtain⟨y3,h4,h⟩:=aE h;obtain⟨y5,h6,h⟩:=aE h;have h:=aT h;subst h;exact(((ah.g (vR h2)).g (kr h4)).g (jw h6)).ret hΓ
def gI(aI:aC)(bY:Bytes)(k1:Option Bool):aC->Nat->Option Bool
 | [],i1=>(k1)
 |eP::js,i1=>(bif (eP:Bytes)==bY then(some true)else(gI aI bY k1 js (i1+1)))
def gH(aI:aC)(bY:Bytes):Option Bool:=(gI aI bY (some false) aI 0)
def xB(aI:aC)(bY:Bytes)(kY:Int):St:=⟨[(1,D.str bY),(7,D.sl (aI.map tx)),(8,D.int .i64 ((aI.map tx).length:Int)),(9,D.int .i64 kY)],[]⟩
theorem wI(hΓ:Γ.nt=17){aI:aC}{bY:Bytes}{r:Bool}{k1:Option Bool}(mR:k1=some r->Ax Γ N f62 (.q [[none]] (D.bool r)) [1,1] ⟨[],[]⟩)(hm1:aI.length<=maxLen):∀(rest:aC) (i1:Nat),aI.drop i1=rest->gI aI bY k1 rest i1=some r->Ar Γ N f62 (.q [[none]] (D.bool r)) [1,0,1,0] (rest.length+1) (xB aI bY (i1:Int)):=by
 intro rest
 induction rest with
 |nil=>
  intro i1 cE h;rw[gI]at h;refine aj fun N1 hN1 iJ=>?_
  exact((ah.ge tx cE).a [.hl 0 [] []]).ex hΓ hN1 (mR h)
 |cons eP js ih1=>
  intro i1 cE h;rw[gI]at h;refine aj fun N1 hN1 iJ=>?_
  have kw:=((ah.lt tx cE).l (cz tx 1 (dc cE) rfl))
  obtain⟨h13,h⟩|⟨h13,h⟩:=aL h
  ·have h:=aT h;subst h;exact(kw.b h13).ret hΓ
  ·exact((kw.b h13).a [.cn [1,7,8,9] []]).ct hΓ iJ (iS cE hm1) (ih1 (i1+1) (dn cE) h)
theorem jr{aI:aC}{bY:Bytes}{r:Bool}(h:gH aI bY=some r):Good prog 62 [D.sl (aI.map tx),D.str bY] (D.bool r):=by
 refine gd func62 [[none]] 17 fun hr Γ hΓ=>?_
 rw[gH]at h;refine(ah.a [.cn [1,7,8,9] []]).lp hΓ (wI hΓ (fun h=>?_) (by have:=(n7.sl (hr _ (aD (i:=0) rfl))).1;simpa using this) aI 0 rfl h);have h:=aT h;subst h;exact ah.ret hΓ
def cP(aI:aW)(bY:Int)(lD:Bytes)(k1:Option Bool):bP->Nat->Option Bool
 | [],i1=>(k1)
 |eP::js,i1=>(bif ((i1:Int):Int) != bY then((iX eP).bind fun Ms=>((gH Ms lD).bind fun HK=>(bif HK then(some true)else(cP aI bY lD k1 js (i1+1)))))else(cP aI bY lD k1 js (i1+1)))
def cr(aI:aW)(lD:Bytes)(k2:Option Bool):cg->Nat->Option Bool
 | [],i2=>(k2)
 |wC::vp,i2=>((gH wC.pat.args lD).bind fun Mu=>(bif Mu then(some true)else(cr aI lD k2 vp (i2+1))))
def gJ(aI:aW)(bY:Int)(lD:Bytes):Option Bool:=(cP aI bY lD (cr aI lD (some false) aI.bg 0) aI.conds 0)
def qd(aI:aW)(bY:Int)(lD:Bytes)(kY:Int):St:=⟨[(1,D.int .i64 bY),(2,D.str lD),(3,D.ptr 0 0),(12,D.sl (aI.conds.map aU.c)),(13,D.int .i64 ((aI.conds.map aU.c).length:Int)),(14,D.int .i64 kY)],[Ob.box (aW.c aI)]⟩
theorem pg(hΓ:Γ.nt=42){aI:aW}{bY:Int}{lD:Bytes}{r:Bool}{k1:Option Bool}(mR:k1=some r->Ax Γ N f98 (.q [[none]] (D.bool r)) [1,1] ⟨[(2,D.str lD),(3,D.ptr 0 0)],[Ob.box (aW.c aI)]⟩)(hm1:aI.conds.length<=maxLen):∀(rest:bP) (i1:Nat),aI.conds.drop i1=rest->cP aI bY lD k1 rest i1=some r->Ar Γ N f98 (.q [[none]] (D.bool r)) [1,0,1,0] (rest.length+1) (qd aI bY lD (i1:Int)):=by
 intro rest
 induction rest with
 |nil=>
  intro i1 cE h;rw[cP]at h;refine aj fun N1 hN1 iJ=>?_
  exact((ah.ge aU.c cE).a [.hl 0 [2,3] [0]]).ex hΓ hN1 (mR h)
 |cons eP js ih1=>
  intro i1 cE h;rw[cP]at h;refine aj fun N1 hN1 iJ=>?_
  have mN:=((ah.lt aU.c cE).l (cz aU.c 5 (dc cE) rfl))
  obtain⟨h33,h⟩|⟨h33,h⟩:=aL h
  ·obtain⟨Ms,h35,h⟩:=aE h;obtain⟨HK,h37,h⟩:=aE h;have ur:=(((((mN.r 2 h33).g (lN h35)).r 2 h33).g (jr h37)).b h33)
   obtain⟨h38,h⟩|⟨h38,h⟩:=aL h
   ·have h:=aT h;subst h;exact(ur.b h38).ret hΓ
   ·exact((ur.b h38).a [.cn [1,2,3,12,13,14] [0]]).ct hΓ iJ (iS cE hm1) (ih1 (i1+1) (dn cE) h)
  ·exact(((mN.r 5 h33).F 1).a [.cn [1,2,3,12,13,14] [0]]).ct hΓ iJ (iS cE hm1) (ih1 (i1+1) (dn cE) h)
def qe(aI:aW)(lD:Bytes)(kY:Int):St:=⟨[(2,D.str lD),(30,D.sl (aI.bg.map Action.c)),(31,D.int .i64 ((aI.bg.map Action.c).length:Int)),(32,D.int .i64 kY)],[]⟩
theorem pq(hΓ:Γ.nt=42){aI:aW}{lD:Bytes}{r:Bool}{k2:Option Bool}(B9:k2=some r->Ax Γ N f98 (.q [[none]] (D.bool r)) [1,1,1] ⟨[],[]⟩)(hm2:aI.bg.length<=maxLen):∀(rest:cg) (i2:Nat),aI.bg.drop i2=rest->cr aI lD k2 rest i2=some r->Ar Γ N f98 (.q [[none]] (D.bool r)) [1,1,0,1,0] (rest.length+1) (qe aI lD (i2:Int)):=by
 intro rest
 induction rest with
 |nil=>
  intro i2 hd2 h;rw[cr]at h;refine aj fun N2 wU tQ=>?_
  exact((ah.ge Action.c hd2).a [.hl 0 [] []]).ex hΓ wU (B9 h)
 |cons wC vp ih2=>
  intro i2 hd2 h;rw[cr]at h;refine aj fun N2 wU tQ=>?_
  obtain⟨Mu,h60,h⟩:=aE h;have zJ:=(((ah.lt Action.c hd2).l (cz Action.c 3 (dc hd2) rfl)).g (jr h60))
  obtain⟨h61,h⟩|⟨h61,h⟩:=aL h
  ·have h:=aT h;subst h;exact(zJ.b h61).ret hΓ
  ·exact((zJ.b h61).a [.cn [2,30,31,32] []]).ct hΓ tQ (iS hd2 hm2) (ih2 (i2+1) (dn hd2) h)
theorem p0{aI:aW}{bY:Int}{lD:Bytes}{r:Bool}(h:gJ aI bY lD=some r):Good prog 98 [D.agg (aW.c aI),D.int .i64 bY,D.str lD] (D.bool r):=by
 refine gd func98 [[none]] 42 fun hr Γ hΓ=>?_
 rw[gJ]at h;refine(ah.a [.cn [1,2,3,12,13,14] [0]]).lp hΓ (pg hΓ (fun h=>?_) (by have:=(n7.sl (n7.agg (hr _ (aD (i:=0) rfl)) (.sl (aI.conds.map aU.c)) (by simp))).1;simpa using this) aI.conds 0 rfl h);refine(ah.a [.cn [2,30,31,32] []]).lp hΓ (pq hΓ (fun h=>?_) (by have:=(n7.sl (n7.agg (hr _ (aD (i:=0) rfl)) (.sl (aI.bg.map Action.c)) (by simp))).1;simpa using this) aI.bg 0 rfl h);have h:=aT h;subst h;exact ah.ret hΓ
def di(aI:aW)(bY:Int)(x1:aU)(y3:aC)(y5:aC)(k1:Option Bool):aC->Nat->Option Bool
 | [],i1=>(k1)
 |eP::js,i1=>(bif (x1.kind:Int)==1 then(di aI bY x1 y3 y5 k1 js (i1+1))else((gH y3 eP).bind fun Tx=>(bif Tx then(di aI bY x1 y3 y5 k1 js (i1+1))else(bif (x1.kind:Int) != 2 then(some false)else((gJ aI bY eP).bind fun Tz=>(bif Tz then(some false)else(di aI bY x1 y3 y5 k1 js (i1+1))))))))
def jQ(aI:aW)(bY:Int):Option Bool:=((k8 aI.conds bY).bind fun x1=>((j8 aI bY).bind fun y3=>((iX x1).bind fun y5=>(bif decide (y5.length<=maxLen)then(di aI bY x1 y3 y5 (some true) y5 0)else none))))
def wH(aI:aW)(bY:Int)(x1:aU)(y3:aC)(y5:aC)(kY:Int):St:=⟨[(1,D.int .i64 bY),(2,D.ptr 0 0),(5,D.ptr 1 0),(6,D.acc 2),(18,D.acc 3),(19,D.int .i64 ((y5.map tx).length:Int)),(20,D.int .i64 kY)],[Ob.box (aW.c aI),Ob.box [D.int .i64 x1.kind,D.str x1.pat.rel,D.sl (x1.pat.args.map tx),D.str x1.left,D.str x1.right],Ob.row .uq 9 1 (y3.map tx),Ob.row .uq 9 1 (y5.map tx)]⟩
theorem vP(hΓ:Γ.nt=42){aI:aW}{bY:Int}{x1:aU}{y3:aC}{y5:aC}{r:Bool}{k1:Option Bool}(mR:k1=some r->Ax Γ N f58 (.q [[none]] (D.bool r)) [1,1,1,1] ⟨[],[]⟩)(hm1:y5.length<=maxLen):∀(rest:aC) (i1:Nat),y5.drop i1=rest->di aI bY x1 y3 y5 k1 rest i1=some r->Ar Γ N f58 (.q [[none]] (D.bool r)) [1,1,1,0,1,0] (rest.length+1) (wH aI bY x1 y3 y5 (i1:Int)):=by
 intro rest
 induction rest with
 |nil=>
  intro i1 cE h;rw[di]at h;refine aj fun N1 hN1 iJ=>?_
  exact((ah.ge tx cE).a [.hl 0 [] []]).ex hΓ hN1 (mR h)
 |cons eP js ih1=>
  intro i1 cE h;rw[di]at h;refine aj fun N1 hN1 iJ=>?_
  have mN:=(((ah.lt tx cE).i (kM tx 1 (dc cE))).o 1 1 .uq (cK tx (dc cE)))
  obtain⟨h48,h⟩|⟨h48,h⟩:=aL h
  ·exact(((mN.r 4 h48).T 1).a [.cn [1,2,5,6,18,19,20] [0,1,2,3]]).ct hΓ iJ (iS cE hm1) (ih1 (i1+1) (dn cE) h)
  ·obtain⟨Tx,h50,h⟩:=aE h;have ur:=(((mN.r 3 h48).g (jr h50)).b h48)
   obtain⟨h51,h⟩|⟨h51,h⟩:=aL h
   ·exact((ur.b h51).a [.cn [1,2,5,6,18,19,20] [0,1,2,3]]).ct hΓ iJ (iS cE hm1) (ih1 (i1+1) (dn cE) h)
   ·obtain⟨h52,h⟩|⟨h52,h⟩:=aL h
    ·have h:=aT h;subst h;exact(((ur.b h51).r 5 h52).T 1).ret hΓ
    ·obtain⟨Tz,h54,h⟩:=aE h;have zJ:=((((ur.b h51).r 4 h52).g (p0 h54)).b h52)
     obtain⟨h55,h⟩|⟨h55,h⟩:=aL h
     ·have h:=aT h;subst h;exact(zJ.b h55).ret hΓ
     ·exact((zJ.b h55).a [.cn [1,2,5,6,18,19,20] [0,1,2,3]]).ct hΓ iJ (iS cE hm1) (ih1 (i1+1) (dn cE) h)
theorem nw{aI:aW}{bY:Int}{r:Bool}(h:jQ aI bY=some r):Good prog 58 [D.agg (aW.c aI),D.int .i64 bY] (D.bool r):=by
 refine gd func58 [[none]] 42 fun hr Γ hΓ=>?_
 rw[jQ]at h;obtain⟨x1,h2,h⟩:=aE h;obtain⟨y3,h4,h⟩:=aE h;obtain⟨y5,h6,h⟩:=aE h;obtain⟨h56,h⟩:=bp h;refine((((ah.l (tq aU.c 5 h2 rfl)).g (nN h4)).g (lN h6)).a [.cn [1,2,5,6,18,19,20] [0,1,2,3]]).lp hΓ (vP hΓ (fun h=>?_) (av h56) y5 0 rfl h);have h:=aT h;subst h;exact ah.ret hΓ
def jP(aI:Action):Option Bool:=(bif (aI.kind:Int)==1 then((eD aI.pat).bind fun y2=>(some y2))else(bif (aI.kind:Int)==2 then((eD aI.pat).bind fun y5=>(some y5))else(bif (aI.kind:Int)==3 then((eV aI.pat).bind fun y8=>(some y8))else(some false))))
theorem lP{aI:Action}{r:Bool}(h:jP aI=some r):Good prog 60 [D.agg (Action.c aI)] (D.bool r):=by
 refine gd func60 [[none]] 16 fun hr Γ hΓ=>?_
 rw[jP]at h;obtain⟨h1,h⟩|⟨h1,h⟩:=aL h
 ·obtain⟨y2,h3,h⟩:=aE h;have h:=aT h;subst h;exact((ah.r 2 h1).g (cZ h3)).ret hΓ
 ·obtain⟨h4,h⟩|⟨h4,h⟩:=aL h
  ·obtain⟨y5,h6,h⟩:=aE h;have h:=aT h;subst h;exact(((ah.b h1).b h4).g (cZ h6)).ret hΓ
  ·have kQ:=((ah.b h1).b h4)
   obtain⟨h7,h⟩|⟨h7,h⟩:=aL h
   ·obtain⟨y8,h9,h⟩:=aE h;have h:=aT h;subst h;exact((kQ.b h7).g (iQ h9)).ret hΓ
   ·have h:=aT h;subst h;exact(kQ.b h7).ret hΓ
def dh(aI:bP)(k1:aC->Option aC):bP->Nat->aC->Option aC
 | [],i1,dL=>(k1 dL)
 |eP::js,i1,dL=>((iX eP).bind fun Mr=>(bif room ((dL.map tx).length+(Mr.map tx).length) 16 then(dh aI k1 js (i1+1) (dL++Mr))else none))
def jX(aI:bP):Option aC:=(dh aI (fun(iO:aC)=>(some iO)) aI 0 ([]:aC))
def nx(aI:bP)(W0:List aG)(kY:Int):St:=⟨[(3,D.acc 0),(6,D.sl (aI.map aU.c)),(7,D.int .i64 ((aI.map aU.c).length:Int)),(8,D.int .i64 kY)],[Ob.row .uq 9 1 W0]⟩
theorem tI(hΓ:Γ.nt=18){aI:bP}{r:aC}{k1:aC->Option aC}(mR:∀(iO:aC),k1 iO=some r->Ax Γ N f64 (.q [[some (9,1)]] (D.fr 9 1 (r.map tx))) [1,1,1] ⟨[(3,D.acc 0)],[Ob.row .uq 9 1 (iO.map tx)]⟩)(hm1:aI.length<=maxLen):∀(rest:bP) (i1:Nat) (dL:aC),aI.drop i1=rest->dh aI k1 rest i1 dL=some r->Ar Γ N f64 (.q [[some (9,1)]] (D.fr 9 1 (r.map tx))) [1,1,0,1,0] (rest.length+1) (nx aI (dL.map tx) (i1:Int)):=by
 intro rest
 induction rest with
 |nil=>
  intro i1 dL cE h;rw[dh]at h;refine aj fun N1 hN1 iJ=>?_
  exact((ah.ge aU.c cE).a [.hl 0 [3] [0]]).ex hΓ hN1 (mR dL h)
 |cons eP js ih1=>
  intro i1 dL cE h;rw[dh]at h;refine aj fun N1 hN1 iJ=>?_
  obtain⟨Mr,h28,h⟩:=aE h;obtain⟨h29,h⟩:=bp h;exact(((((ah.lt aU.c cE).l (cz aU.c 5 (dc cE) rfl)).g (lN h28)).w (eA h29)).a [.cn [3,6,7,8] [3]]).cs hΓ iJ (nx aI ((dL.map tx)++(Mr.map tx)) (IntKind.i64.wrap ((i1:Int)+1))) (by first| (simp only[iS cE hm1,mA]<;>rfl)| (simp only[iS cE hm1,mA,bE.c,nq.c,aU.c,Action.c,aW.c,l8.c,lK.c,l6.c,Node.c,gb.c,mF.c]<;>rfl)) (ih1 (i1+1) (dL++Mr) (dn cE) h)
theorem sH{aI:bP}{r:aC}(h:jX aI=some r):Good prog 64 [D.sl (aI.map aU.c)] (D.fr 9 1 (r.map tx)):=by
 refine gd func64 [[some (9,1)]] 18 fun hr Γ hΓ=>?_
 rw[jX]at h;refine(ah.a [.JD 3,.cn [3,6,7,8] [0]]).lp hΓ (tI hΓ (fun iO h=>?_) (by have:=(n7.sl (hr _ (aD (i:=0) rfl))).1;simpa using this) aI 0 ([]:aC) rfl h);have h:=aT h;subst h;exact ah.ret hΓ
def eo(aI:aW)(k1:Option Bool):bP->Nat->Option Bool
 | [],i1=>(k1)
 |eP::js,i1=>((gA eP).bind fun U0=>(bif !(U0)then(some false)else(bif ((i1:Int):Int)==0 then(bif (eP.kind:Int) != 1 then(some false)else((jQ aI (i1:Int)).bind fun HL=>(bif !(HL)then(some false)else(eo aI k1 js (i1+1)))))else((jQ aI (i1:Int)).bind fun U2=>(bif !(U2)then(some false)else(eo aI k1 js (i1+1)))))))
def gr(aI:aW)(vq:aC)(i2:Nat)(wh:aC)(k3:Option Bool):aC->Nat->Option Bool
 | [],i3=>(k3)
 |Lg::HJ,i3=>((gH vq Lg).bind fun Ql=>(bif !(Ql)then(some false)else(gr aI vq i2 wh k3 HJ (i3+1))))
def gq(aI:aW)(vq:aC)(k2:Option Bool):cg->Nat->Option Bool
 | [],i2=>(k2)
 |wC::vp,i2=>((jP wC).bind fun Qj=>(bif !(Qj)then(some false)else((gz wC.pat.args).bind fun wh=>(bif decide (wh.length<=maxLen)then(gr aI vq i2 wh (gq aI vq k2 vp (i2+1)) wh 0)else none))))
def kf(aI:aW):Option Bool:=((ke aI.name).bind fun y1=>(bif !(y1)then(some false)else(bif decide ((aI.prio:Int)<0)then(some false)else(bif decide ((aI.prio:Int)>9)then(some false)else(bif decide ((((aI.conds.map aU.c).length:Int):Int)<1)then(some false)else(bif decide ((((aI.conds.map aU.c).length:Int):Int)>4)then(some false)else(bif decide ((((aI.bg.map Action.c).length:Int):Int)<1)then(some false)else(bif decide ((((aI.bg.map Action.c).length:Int):Int)>2)then(some false)else(eo aI ((j8 aI ((aI.conds.map aU.c).length:Int)).bind fun vq=>(gq aI vq ((jX aI.conds).bind fun Qm=>((fS Qm).bind fun Qn=>(some (decide ((((Qn.map tx).length:Int):Int)<=6))))) aI.bg 0)) aI.conds 0)))))))))
def yP(aI:aW)(kY:Int):St:=⟨[(1,D.ptr 0 0),(49,D.sl (aI.conds.map aU.c)),(50,D.int .i64 ((aI.conds.map aU.c).length:Int)),(51,D.int .i64 kY)],[Ob.box (aW.c aI)]⟩
theorem x6(hΓ:Γ.nt=111){aI:aW}{r:Bool}{k1:Option Bool}(mR:k1=some r->Ax Γ N f17 (.q [[none]] (D.bool r)) [1,1,1] ⟨[(1,D.ptr 0 0)],[Ob.box (aW.c aI)]⟩)(hm1:aI.conds.length<=maxLen):∀(rest:bP) (i1:Nat),aI.conds.drop i1=rest->eo aI k1 rest i1=some r->Ar Γ N f17 (.q [[none]] (D.bool r)) [1,1,0,1,0] (rest.length+1) (yP aI (i1:Int)):=by
 intro rest
 induction rest with
 |nil=>
  intro i1 cE h;rw[eo]at h;refine aj fun N1 hN1 iJ=>?_
  exact((ah.ge aU.c cE).a [.hl 0 [1] [0]]).ex hΓ hN1 (mR h)
 |cons eP js ih1=>
  intro i1 cE h;rw[eo]at h;refine aj fun N1 hN1 iJ=>?_
  obtain⟨U0,h63,h⟩:=aE h;have zc:=(((ah.lt aU.c cE).l (cz aU.c 5 (dc cE) rfl)).g (br h63))
  obtain⟨h64,h⟩|⟨h64,h⟩:=aL h
  ·have h:=aT h;subst h;exact((((zc.r 3 h64).a [bF,bF,bF]).r 2 h64).T 6).ret hΓ
  ·have Dv:=(zc.r 3 h64)
   obtain⟨h65,h⟩|⟨h65,h⟩:=aL h
   ·have JA:=((((Dv.r 3 h65).b h64).b h65).b h64)
    obtain⟨h66,h⟩|⟨h66,h⟩:=aL h
    ·have h:=aT h;subst h;exact((JA.r 5 h66).T 1).ret hΓ
    ·obtain⟨HL,h68,h⟩:=aE h;have QA:=(((JA.r 3 h66).g (nw h68)).r 2 h66)
     obtain⟨h69,h⟩|⟨h69,h⟩:=aL h
     ·have h:=aT h;subst h;exact(QA.b h69).ret hΓ
     ·exact((QA.b h69).a [.cn [1,49,50,51] [0]]).ct hΓ iJ (iS cE hm1) (ih1 (i1+1) (dn cE) h)
   ·obtain⟨U2,h71,h⟩:=aE h;have QB:=(((((((Dv.r 3 h65).b h64).b h65).b h64).F 3).g (nw h71)).F 2)
    obtain⟨h72,h⟩|⟨h72,h⟩:=aL h
    ·have h:=aT h;subst h;exact(QB.b h72).ret hΓ
    ·exact((QB.b h72).a [.cn [1,49,50,51] [0]]).ct hΓ iJ (iS cE hm1) (ih1 (i1+1) (dn cE) h)
def yQ(aI:aW)(vq:aC)(kY:Int):St:=⟨[(1,D.ptr 0 0),(5,D.acc 1),(81,D.sl (aI.bg.map Action.c)),(82,D.int .i64 ((aI.bg.map Action.c).length:Int)),(83,D.int .i64 kY)],[Ob.box (aW.c aI),Ob.row .uq 9 1 (vq.map tx)]⟩
def yR(aI:aW)(vq:aC)(i2:Nat)(wh:aC)(kY:Int):St:=⟨[(1,D.ptr 0 0),(5,D.acc 1),(81,D.sl (aI.bg.map Action.c)),(82,D.int .i64 ((aI.bg.map Action.c).length:Int)),(83,D.int .i64 (i2:Int)),(93,D.acc 2),(94,D.int .i64 ((wh.map tx).length:Int)),(95,D.int .i64 kY)],[Ob.box (aW.c aI),Ob.row .uq 9 1 (vq.map tx),Ob.row .uq 9 1 (wh.map tx)]⟩
theorem xA(hΓ:Γ.nt=111){aI:aW}{vq:aC}{i2:Nat}{wh:aC}{r:Bool}{k3:Option Bool}(P9:k3=some r->Ax Γ N f17 (.q [[none]] (D.bool r)) [1,1,1,1,0,1,0,0,1,1,1] ⟨[(1,D.ptr 0 0),(5,D.acc 1),(81,D.sl (aI.bg.map Action.c)),(82,D.int .i64 ((aI.bg.map Action.c).length:Int)),(83,D.int .i64 (i2:Int))],[Ob.box (aW.c aI),Ob.row .uq 9 1 (vq.map tx)]⟩)(Kf:wh.length<=maxLen):∀(rest:aC) (i3:Nat),wh.drop i3=rest->gr aI vq i2 wh k3 rest i3=some r->Ar Γ N f17 (.q [[none]] (D.bool r)) [1,1,1,1,0,1,0,0,1,1,0,0,1,1,1,0] (rest.length+1) (yR aI vq i2 wh (i3:Int)):=by
 intro rest
 induction rest with
 |nil=>
  intro i3 w6 h;rw[gr]at h;refine aj fun N3 Lw HC=>?_
  exact((ah.ge tx w6).a [.hl 3 [1,5,81,82,83] [0,1]]).ex hΓ Lw (P9 h)
 |cons Lg HJ ih3=>
  intro i3 w6 h;rw[gr]at h;refine aj fun N3 Lw HC=>?_
  obtain⟨Ql,h230,h⟩:=aE h;have QC:=((((ah.lt tx w6).i (kM tx 1 (dc w6))).o 1 1 .uq (cK tx (dc w6))).g (jr h230))
  obtain⟨h231,h⟩|⟨h231,h⟩:=aL h
  ·have h:=aT h;subst h;exact(QC.b h231).ret hΓ
  ·exact((QC.b h231).a [.cn [1,5,81,82,83,93,94,95] [0,1,2]]).ct hΓ HC (iS w6 Kf) (ih3 (i3+1) (dn w6) h)
theorem x7(hΓ:Γ.nt=111){aI:aW}{vq:aC}{r:Bool}{k2:Option Bool}(B9:k2=some r->Ax Γ N f17 (.q [[none]] (D.bool r)) [1,1,1,1,1] ⟨[(1,D.ptr 0 0)],[Ob.box (aW.c aI)]⟩)(hm2:aI.bg.length<=maxLen):∀(rest:cg) (i2:Nat),aI.bg.drop i2=rest->gq aI vq k2 rest i2=some r->Ar Γ N f17 (.q [[none]] (D.bool r)) [1,1,1,1,0,1,0] (rest.length+1) (yQ aI vq (i2:Int)):=by
 intro rest
 induction rest with
 |nil=>
  intro i2 hd2 h;rw[gq]at h;refine aj fun N2 wU tQ=>?_
  exact((ah.ge Action.c hd2).a [.hl 0 [1] [0]]).ex hΓ wU (B9 h)
 |cons wC vp ih2=>
  intro i2 hd2 h;rw[gq]at h;refine aj fun N2 wU tQ=>?_
  obtain⟨Qj,h204,h⟩:=aE h;have QD:=(((ah.lt Action.c hd2).l (cz Action.c 3 (dc hd2) rfl)).g (lP h204))
  obtain⟨h205,h⟩|⟨h205,h⟩:=aL h
  ·have h:=aT h;subst h;exact(QD.b h205).ret hΓ
  ·obtain⟨wh,h207,h⟩:=aE h;obtain⟨h232,h⟩:=bp h;refine(((QD.b h205).g (kr h207)).a [.cn [1,5,81,82,83,93,94,95] [0,1,3]]).lp hΓ (xA hΓ (fun h=>?_) (av h232) wh 0 rfl h);exact(ah.a [.cn [1,5,81,82,83] [0,1]]).ct hΓ tQ (iS hd2 hm2) (ih2 (i2+1) (dn hd2) h)
theorem eU{aI:aW}{r:Bool}(h:kf aI=some r):Good prog 17 [D.agg (aW.c aI)] (D.bool r):=by
 refine gd func17 [[none]] 111 fun hr Γ hΓ=>?_
 rw[kf]at h;obtain⟨y1,h2,h⟩:=aE h;obtain⟨h3,h⟩|⟨h3,h⟩:=aL h
 ·have h:=aT h;subst h;exact(((ah.g (kG h2)).r 4 h3).T 25).ret hΓ
 ·have QE:=((ah.g (kG h2)).r 4 h3)
  obtain⟨h4,h⟩|⟨h4,h⟩:=aL h
  ·have h:=aT h;subst h;exact((QE.r 4 h4).T 21).ret hΓ
  ·have QF:=(QE.r 4 h4)
   obtain⟨h5,h⟩|⟨h5,h⟩:=aL h
   ·have h:=aT h;subst h;exact((QF.r 5 h5).T 16).ret hΓ
   ·have QG:=(QF.r 5 h5)
    obtain⟨h6,h⟩|⟨h6,h⟩:=aL h
    ·have h:=aT h;subst h;exact((QG.r 5 h6).T 11).ret hΓ
    ·have QH:=(QG.r 5 h6)
     obtain⟨h7,h⟩|⟨h7,h⟩:=aL h
     ·have h:=aT h;subst h;exact((QH.r 5 h7).T 6).ret hΓ
     ·have QI:=(QH.r 5 h7)
      obtain⟨h8,h⟩|⟨h8,h⟩:=aL h
      ·have h:=aT h;subst h;exact((QI.r 5 h8).T 1).ret hΓ
      ·have QJ:=(QI.r 5 h8)
       obtain⟨h9,h⟩|⟨h9,h⟩:=aL h
       ·have h:=aT h;subst h;exact(QJ.b h9).ret hΓ
       ·refine((QJ.b h9).a [.cn [1,49,50,51] [0]]).lp hΓ (x6 hΓ (fun h=>?_) (by have:=(n7.sl (n7.agg (hr _ (aD (i:=0) rfl)) (.sl (aI.conds.map aU.c)) (by simp))).1;simpa using this) aI.conds 0 rfl h);obtain⟨vq,h74,h⟩:=aE h;refine((ah.g (nN h74)).a [.cn [1,5,81,82,83] [0,1]]).lp hΓ (x7 hΓ (fun h=>?_) (by have:=(n7.sl (n7.agg (hr _ (aD (i:=0) rfl)) (.sl (aI.bg.map Action.c)) (by simp))).1;simpa using this) aI.bg 0 rfl h);obtain⟨Qm,h234,h⟩:=aE h;obtain⟨Qn,h236,h⟩:=aE h;cases h;exact((ah.g (sH h234)).g (jw h236)).ret hΓ
def lQ(aI:aC)(bY:Bytes):Option Bytes:=((qG aI bY).bind fun y1=>(some y1))
theorem nT{aI:aC}{bY:Bytes}{r:Bytes}(h:lQ aI bY=some r):Good prog 21 [D.sl (aI.map tx),D.str bY] (D.str r):=by
 refine gd func21 [[none]] 8 fun hr Γ hΓ=>?_
 rw[lQ]at h;obtain⟨y1,h2,h⟩:=aE h;have h:=aT h;subst h;exact(ah.g (vl h2)).ret hΓ
def cy(aI:bE):Option Bytes:=((eD aI).bind fun y1=>(bif !(y1)then(some ([]))else(bif decide ((aI.rel:Bytes).length+([40]:Bytes).length<=maxLen)then((lQ aI.args ([44])).bind fun y5=>(bif decide ((aI.rel++([40]):Bytes).length+(y5:Bytes).length<=maxLen)then(bif decide (((aI.rel++([40]))++y5:Bytes).length+([41]:Bytes).length<=maxLen)then(some (((aI.rel++([40]))++y5)++([41])))else none)else none))else none)))
theorem cq{aI:bE}{r:Bytes}(h:cy aI=some r):Good prog 65 [D.agg (bE.c aI)] (D.str r):=by
 refine gd func65 [[none]] 14 fun hr Γ hΓ=>?_
 rw[cy]at h;obtain⟨y1,h2,h⟩:=aE h;obtain⟨h3,h⟩|⟨h3,h⟩:=aL h
 ·cases h;exact((ah.g (cZ h2)).b h3).ret hΓ
 ·obtain⟨h4,h⟩:=bp h;obtain⟨y5,h6,h⟩:=aE h;obtain⟨h7,h⟩:=bp h;obtain⟨h8,h⟩:=bp h;cases h;exact(((((((ah.g (cZ h2)).b h3).w (av h4)).a [.n 6]).g (nT h6)).w (av h7)).w (av h8)).rts hΓ (D.str (((aI.rel++([40]))++y5)++([41]))) (by first|rfl| (simp only[mA]<;>rfl))
def dY(aI:aU):Option Bytes:=((gA aI).bind fun y1=>(bif !(y1)then(some ([]))else(bif (aI.kind:Int)==1 then((cy aI.pat).bind fun y5=>(some y5))else(bif (aI.kind:Int)==2 then((cy aI.pat).bind fun y8=>(bif decide (([110,111,116,32]:Bytes).length+(y8:Bytes).length<=maxLen)then(some (([110,111,116,32])++y8))else none))else((k8 ([[32,61,32],[32,33,61,32],[32,60,32]]:aC) (IntKind.i64.wrap (aI.kind-3))).bind fun Oi=>(bif decide ((aI.left:Bytes).length+(Oi:Bytes).length<=maxLen)then(bif decide ((aI.left++Oi:Bytes).length+(aI.right:Bytes).length<=maxLen)then(some ((aI.left++Oi)++aI.right))else none)else none))))))
theorem cJ{aI:aU}{r:Bytes}(h:dY aI=some r):Good prog 18 [D.agg (aU.c aI)] (D.str r):=by
 refine gd func18 [[none]] 30 fun hr Γ hΓ=>?_
 rw[dY]at h;obtain⟨y1,h2,h⟩:=aE h;obtain⟨h3,h⟩|⟨h3,h⟩:=aL h
 ·cases h;exact((ah.g (br h2)).b h3).ret hΓ
 ·have kQ:=((ah.g (br h2)).b h3)
  obtain⟨h4,h⟩|⟨h4,h⟩:=aL h
  ·obtain⟨y5,h6,h⟩:=aE h;have h:=aT h;subst h;exact((kQ.b h4).g (cq h6)).ret hΓ
  ·obtain⟨h7,h⟩|⟨h7,h⟩:=aL h
   ·obtain⟨y8,h9,h⟩:=aE h;obtain⟨h10,h⟩:=bp h;cases h;exact((((kQ.b h4).b h7).g (cq h9)).w (av h10)).rts hΓ (D.str (([110,111,116,32])++y8)) (by first|rfl| (simp only[mA]<;>rfl))
   ·obtain⟨Oi,h12,h⟩:=aE h;obtain⟨h13,h⟩:=bp h;obtain⟨h14,h⟩:=bp h;cases h;exact(((((((kQ.b h4).b h7).w (FZ (m:=3) rfl h12)).w (Kb (g:=0) (fun _=>rfl) h12)).w (av h13)).w (av h14)).a [.n 10,.ix (IntKind.i64.wrap (aI.kind-3)).toNat,.d (D.str Oi)]).rts hΓ (D.str ((aI.left++Oi)++aI.right)) (by first|rfl| (simp only[mA]<;>rfl))
def gS(aI:Action):Option Bytes:=((jP aI).bind fun y1=>(bif !(y1)then(some ([]))else(bif (aI.kind:Int)==1 then((cy aI.pat).bind fun y5=>(bif decide (([97,100,100,32]:Bytes).length+(y5:Bytes).length<=maxLen)then(some (([97,100,100,32])++y5))else none))else(bif (aI.kind:Int)==2 then((cy aI.pat).bind fun y9=>(bif decide (([100,114,111,112,32]:Bytes).length+(y9:Bytes).length<=maxLen)then(some (([100,114,111,112,32])++y9))else none))else(some ([115,116,111,112]))))))
theorem qy{aI:Action}{r:Bytes}(h:gS aI=some r):Good prog 19 [D.agg (Action.c aI)] (D.str r):=by
 refine gd func19 [[none]] 20 fun hr Γ hΓ=>?_
 rw[gS]at h;obtain⟨y1,h2,h⟩:=aE h;obtain⟨h3,h⟩|⟨h3,h⟩:=aL h
 ·cases h;exact((ah.g (lP h2)).b h3).ret hΓ
 ·have kQ:=((ah.g (lP h2)).b h3)
  obtain⟨h4,h⟩|⟨h4,h⟩:=aL h
  ·obtain⟨y5,h6,h⟩:=aE h;obtain⟨h7,h⟩:=bp h;cases h;exact(((kQ.b h4).g (cq h6)).w (av h7)).rts hΓ (D.str (([97,100,100,32])++y5)) (by first|rfl| (simp only[mA]<;>rfl))
  ·obtain⟨h8,h⟩|⟨h8,h⟩:=aL h
   ·obtain⟨y9,h10,h⟩:=aE h;obtain⟨h11,h⟩:=bp h;cases h;exact((((kQ.b h4).b h8).g (cq h10)).w (av h11)).rts hΓ (D.str (([100,114,111,112,32])++y9)) (by first|rfl| (simp only[mA]<;>rfl))
   ·cases h;exact((kQ.b h4).b h8).ret hΓ
def fe(aI:Int):Option Bytes:=((qF aI).bind fun y1=>(some y1))
theorem nO{aI:Int}{r:Bytes}(h:fe aI=some r):Good prog 20 [D.int .i64 aI] (D.str r):=by
 refine gd func20 [[none]] 5 fun hr Γ hΓ=>?_
 rw[fe]at h;obtain⟨y1,h2,h⟩:=aE h;have h:=aT h;subst h;exact(ah.g (vi h2)).ret hΓ
end Go.Cx
namespace Go.Cx
open Go.RowKit Go.Proofs Tryz
set_option maxRecDepth 100000
variable{Γ:lY}{N:Nat->St->Prop}
def ff(aI:aW)(k1:aC->Option Bytes):bP->Nat->aC->Option Bytes
 | [],i1,fA=>(k1 fA)
 |eP::js,i1,fA=>((dY eP).bind fun vE=>(bif room ((fA.map tx).length+([[D.str vE]]).length) 16 then(ff aI k1 js (i1+1) (fA++([vE])))else none))
def fk(aI:aW)(qg:aC)(k2:aC->Option Bytes):cg->Nat->aC->Option Bytes
 | [],i2,zf=>(k2 zf)
 |wC::vp,i2,zf=>((gS wC).bind fun Mu=>(bif room ((zf.map tx).length+([[D.str Mu]]).length) 16 then(fk aI qg k2 vp (i2+1) (zf++([Mu])))else none))
def iP(aI:aW):Option Bytes:=((kf aI).bind fun y1=>(bif !(y1)then(some ([]))else(ff aI (fun(qg:aC)=>(fk aI qg (fun(JF:aC)=>(bif decide ((aI.name:Bytes).length+([32]:Bytes).length<=maxLen)then((fe aI.prio).bind fun Mv=>(bif decide ((aI.name++([32]):Bytes).length+(Mv:Bytes).length<=maxLen)then(bif decide (((aI.name++([32]))++Mv:Bytes).length+([58,32]:Bytes).length<=maxLen)then((lQ qg ([32,38,32])).bind fun HL=>(bif decide ((((aI.name++([32]))++Mv)++([58,32]):Bytes).length+(HL:Bytes).length<=maxLen)then(bif decide (((((aI.name++([32]))++Mv)++([58,32]))++HL:Bytes).length+([32,45,62,32]:Bytes).length<=maxLen)then((lQ JF ([32,38,32])).bind fun R7=>(bif decide ((((((aI.name++([32]))++Mv)++([58,32]))++HL)++([32,45,62,32]):Bytes).length+(R7:Bytes).length<=maxLen)then(some ((((((aI.name++([32]))++Mv)++([58,32]))++HL)++([32,45,62,32]))++R7))else none))else none)else none))else none)else none))else none)) aI.bg 0 ([]:aC))) aI.conds 0 ([]:aC))))
def nu(aI:aW)(W0:List aG)(kY:Int):St:=⟨[(1,D.ptr 0 0),(3,D.acc 1),(4,D.acc 2),(13,D.sl (aI.conds.map aU.c)),(14,D.int .i64 ((aI.conds.map aU.c).length:Int)),(15,D.int .i64 kY)],[Ob.box (aW.c aI),Ob.row .uq 9 1 W0,Ob.row .uq 9 1 ([]:List aG)]⟩
theorem tE(hΓ:Γ.nt=53){aI:aW}{r:Bytes}{k1:aC->Option Bytes}(mR:∀(qg:aC),k1 qg=some r->Ax Γ N f7 (.q [[none]] (D.str r)) [1,1,1,1] ⟨[(1,D.ptr 0 0),(3,D.acc 1),(4,D.acc 2)],[Ob.box (aW.c aI),Ob.row .uq 9 1 (qg.map tx),Ob.row .uq 9 1 ([]:List aG)]⟩)(hm1:aI.conds.length<=maxLen):∀(rest:bP) (i1:Nat) (fA:aC),aI.conds.drop i1=rest->ff aI k1 rest i1 fA=some r->Ar Γ N f7 (.q [[none]] (D.str r)) [1,1,1,0,1,0] (rest.length+1) (nu aI (fA.map tx) (i1:Int)):=by
 intro rest
 induction rest with
 |nil=>
  intro i1 fA cE h;rw[ff]at h;refine aj fun N1 hN1 iJ=>?_
  exact((ah.ge aU.c cE).a [.hl 0 [1,3,4] [0,1,2]]).ex hΓ hN1 (mR fA h)
 |cons eP js ih1=>
  intro i1 fA cE h;rw[ff]at h;refine aj fun N1 hN1 iJ=>?_
  obtain⟨vE,h31,h⟩:=aE h;obtain⟨h32,h⟩:=bp h;exact(((((ah.lt aU.c cE).l (cz aU.c 5 (dc cE) rfl)).g (cJ h31)).w (eA h32)).a [.cn [1,3,4,13,14,15] [0,5,2]]).cs hΓ iJ (nu aI ((fA.map tx)++([[D.str vE]])) (IntKind.i64.wrap ((i1:Int)+1))) (by first| (simp only[iS cE hm1,mA]<;>rfl)| (simp only[iS cE hm1,mA,bE.c,nq.c,aU.c,Action.c,aW.c,l8.c,lK.c,l6.c,Node.c,gb.c,mF.c]<;>rfl)) (ih1 (i1+1) (fA++([vE])) (dn cE) h)
def nv(aI:aW)(qg:aC)(W0:List aG)(kY:Int):St:=⟨[(1,D.ptr 0 0),(3,D.acc 1),(4,D.acc 2),(26,D.sl (aI.bg.map Action.c)),(27,D.int .i64 ((aI.bg.map Action.c).length:Int)),(28,D.int .i64 kY)],[Ob.box (aW.c aI),Ob.row .uq 9 1 (qg.map tx),Ob.row .uq 9 1 W0]⟩
theorem tF(hΓ:Γ.nt=53){aI:aW}{qg:aC}{r:Bytes}{k2:aC->Option Bytes}(B9:∀(JF:aC),k2 JF=some r->Ax Γ N f7 (.q [[none]] (D.str r)) [1,1,1,1,1] ⟨[(1,D.ptr 0 0),(3,D.acc 1),(4,D.acc 2)],[Ob.box (aW.c aI),Ob.row .uq 9 1 (qg.map tx),Ob.row .uq 9 1 (JF.map tx)]⟩)(hm2:aI.bg.length<=maxLen):∀(rest:cg) (i2:Nat) (zf:aC),aI.bg.drop i2=rest->fk aI qg k2 rest i2 zf=some r->Ar Γ N f7 (.q [[none]] (D.str r)) [1,1,1,1,0,1,0] (rest.length+1) (nv aI qg (zf.map tx) (i2:Int)):=by
 intro rest
 induction rest with
 |nil=>
  intro i2 zf hd2 h;rw[fk]at h;refine aj fun N2 wU tQ=>?_
  exact((ah.ge Action.c hd2).a [.hl 0 [1,3,4] [0,1,2]]).ex hΓ wU (B9 zf h)
 |cons wC vp ih2=>
  intro i2 zf hd2 h;rw[fk]at h;refine aj fun N2 wU tQ=>?_
  obtain⟨Mu,h60,h⟩:=aE h;obtain⟨h61,h⟩:=bp h;exact(((((ah.lt Action.c hd2).l (cz Action.c 3 (dc hd2) rfl)).g (qy h60)).w (eA h61)).a [.cn [1,3,4,26,27,28] [0,1,5]]).cs hΓ tQ (nv aI qg ((zf.map tx)++([[D.str Mu]])) (IntKind.i64.wrap ((i2:Int)+1))) (by first| (simp only[iS hd2 hm2,mA]<;>rfl)| (simp only[iS hd2 hm2,mA,bE.c,nq.c,aU.c,Action.c,aW.c,l8.c,lK.c,l6.c,Node.c,gb.c,mF.c]<;>rfl)) (ih2 (i2+1) (zf++([Mu])) (dn hd2) h)
theorem iz{aI:aW}{r:Bytes}(h:iP aI=some r):Good prog 7 [D.agg (aW.c aI)] (D.str r):=by
 refine gd func7 [[none]] 53 fun hr Γ hΓ=>?_
 rw[iP]at h;obtain⟨y1,h2,h⟩:=aE h;obtain⟨h3,h⟩|⟨h3,h⟩:=aL h
 ·cases h;exact((ah.g (eU h2)).b h3).ret hΓ
 ·refine(((ah.g (eU h2)).b h3).a [.JD 3,.JD 4,.cn [1,3,4,13,14,15] [0,1,2]]).lp hΓ (tE hΓ (fun qg h=>?_) (by have:=(n7.sl (n7.agg (hr _ (aD (i:=0) rfl)) (.sl (aI.conds.map aU.c)) (by simp))).1;simpa using this) aI.conds 0 ([]:aC) rfl h);refine(ah.a [.cn [1,3,4,26,27,28] [0,1,2]]).lp hΓ (tF hΓ (fun JF h=>?_) (by have:=(n7.sl (n7.agg (hr _ (aD (i:=0) rfl)) (.sl (aI.bg.map Action.c)) (by simp))).1;simpa using this) aI.bg 0 ([]:aC) rfl h);obtain⟨h62,h⟩:=bp h;obtain⟨Mv,h64,h⟩:=aE h;obtain⟨h65,h⟩:=bp h;obtain⟨h66,h⟩:=bp h;obtain⟨HL,h68,h⟩:=aE h;obtain⟨h69,h⟩:=bp h;obtain⟨h70,h⟩:=bp h;obtain⟨R7,h72,h⟩:=aE h;obtain⟨h73,h⟩:=bp h;cases h;exact((((((((((ah.w (av h62)).a [.n 14]).g (nO h64)).w (av h65)).w (av h66)).g (nT h68)).w (av h69)).w (av h70)).g (nT h72)).w (av h73)).rts hΓ (D.str ((((((aI.name++([32]))++Mv)++([58,32]))++HL)++([32,45,62,32]))++R7)) (by first|rfl| (simp only[mA]<;>rfl))
def kS(aI:Bytes):Option (Int×Bool):=(bif decide (((aI.length:Int):Int)<1)then(some (0,false))else(bif decide (((aI.length:Int):Int)>4)then(some (0,false))else((qE aI).bind fun y3=>(bif y3.2 then(some (0,false))else(bif decide ((y3.1:Int)<0)then(some (0,false))else(bif decide ((y3.1:Int)>9999)then(some (0,false))else((fe y3.1).bind fun y8=>(bif !((y8:Bytes)==aI)then(some (0,false))else(some (y3.1,true))))))))))
theorem uD{aI:Bytes}{r:Int×Bool}(h:kS aI=some r):Good prog 23 [D.str aI] (D.fy [D.int .i64 r.1,D.bool r.2]):=by
 refine gd func23 [[none],[none]] 36 fun hr Γ hΓ=>?_
 rw[kS]at h;obtain⟨h1,h⟩|⟨h1,h⟩:=aL h
 ·cases h;exact((ah.r 4 h1).T 1).ret hΓ
 ·have kQ:=(ah.r 4 h1)
  obtain⟨h2,h⟩|⟨h2,h⟩:=aL h
  ·cases h;exact(kQ.b h2).ret hΓ
  ·obtain⟨y3,h4,h⟩:=aE h;have kw:=((kQ.b h2).g (vh h4))
   obtain⟨h5,h⟩|⟨h5,h⟩:=aL h
   ·cases h;exact((kw.r 3 h5).T 9).ret hΓ
   ·have mJ:=(kw.r 3 h5)
    obtain⟨h6,h⟩|⟨h6,h⟩:=aL h
    ·cases h;exact((mJ.r 3 h6).T 6).ret hΓ
    ·have mN:=(mJ.r 3 h6)
     obtain⟨h7,h⟩|⟨h7,h⟩:=aL h
     ·cases h;exact((mN.r 5 h7).T 1).ret hΓ
     ·obtain⟨y8,h9,h⟩:=aE h;have ur:=(((mN.r 2 h7).g (nO h9)).r 3 h7)
      obtain⟨h10,h⟩|⟨h10,h⟩:=aL h
      ·cases h;exact(ur.b h10).ret hΓ
      ·cases h;exact(ur.b h10).ret hΓ
def je(aI:Bytes):Option (Bytes×aC×Bool):=((j5 aI ([40])).bind fun y1=>(bif !(y1.2.2)then(some ([],[],false))else((mI y1.2.1 ([41])).bind fun y4=>(bif !(y4)then(some ([],[],false))else((o8 y1.2.1.length none (some (D.int .i64 (IntKind.i64.wrap ((y1.2.1.length:Int)-1))))).bind fun p=>(fun l7 u8=>(bif ((y1.2.1.take u8).drop l7:Bytes)==([])then(some (y1.1,[],true))else((jS ((y1.2.1.take u8).drop l7) ([44])).bind fun Bw=>(some (y1.1,Bw,true))))) p.1 p.2)))))
theorem pZ{aI:Bytes}{r:Bytes×aC×Bool}(h:je aI=some r):Good prog 111 [D.str aI] (D.fy [D.str r.1,D.fr 9 1 (r.2.1.map tx),D.bool r.2.2]):=by
 refine gd func111 [[none],[some (9,1)],[none]] 32 fun hr Γ hΓ=>?_
 rw[je]at h;obtain⟨y1,h2,h⟩:=aE h;obtain⟨h3,h⟩|⟨h3,h⟩:=aL h
 ·cases h;exact(((ah.g (iD h2)).r 4 h3).T 1).ret hΓ
 ·obtain⟨y4,h5,h⟩:=aE h;have kQ:=((((ah.g (iD h2)).r 2 h3).g (r9 h5)).r 2 h3)
  obtain⟨h6,h⟩|⟨h6,h⟩:=aL h
  ·cases h;exact(kQ.b h6).ret hΓ
  ·obtain⟨⟨l7,u8⟩,h9,h⟩:=aE h;have kw:=(((kQ.b h6).w h9).a [.cut l7 u8])
   obtain⟨h10,h⟩|⟨h10,h⟩:=aL h
   ·cases h;exact(kw.b h10).ret hΓ
   ·obtain⟨Bw,h12,h⟩:=aE h;cases h;exact((kw.b h10).g (lS h12)).ret hΓ
def cH(aI:Bytes):Option (bE×Bool):=((je aI).bind fun y1=>(bif !(y1.2.2)then(some ((⟨[],[]⟩:bE),false))else((eD (⟨y1.1,y1.2.1⟩:bE)).bind fun y4=>(bif !(y4)then(some ((⟨[],[]⟩:bE),false))else((cy (⟨y1.1,y1.2.1⟩:bE)).bind fun y7=>(bif !((y7:Bytes)==aI)then(some ((⟨[],[]⟩:bE),false))else(some ((⟨y1.1,y1.2.1⟩:bE),true))))))))
theorem fK{aI:Bytes}{r:bE×Bool}(h:cH aI=some r):Good prog 71 [D.str aI] (D.fy [D.agg [D.str r.1.rel,D.fr 9 1 (r.1.args.map tx)],D.bool r.2]):=by
 refine gd func71 [[none,some (9,1)],[none]] 32 fun hr Γ hΓ=>?_
 rw[cH]at h;obtain⟨y1,h2,h⟩:=aE h;obtain⟨h3,h⟩|⟨h3,h⟩:=aL h
 ·cases h;exact(((ah.g (pZ h2)).r 4 h3).T 6).ret hΓ
 ·obtain⟨y4,h5,h⟩:=aE h;have kQ:=(((((ah.g (pZ h2)).r 2 h3).a [.d (D.bool y4)]).w (show Good prog 94 [D.agg [D.str y1.1,D.sl (y1.2.1.map tx)]] (D.bool y4)from by first| (simpa only[aa,ax,bI,au,ay]using cZ h5)|exact cZ h5| (have t:=cZ h5;simp only[aa,au,ay,bE.c]at t;exact t))).r 2 h3)
  obtain⟨h6,h⟩|⟨h6,h⟩:=aL h
  ·cases h;exact((kQ.r 5 h6).T 1).ret hΓ
  ·obtain⟨y7,h8,h⟩:=aE h;have kw:=((((kQ.r 2 h6).a [.d (D.str y7)]).w (show Good prog 65 [D.agg [D.str y1.1,D.sl (y1.2.1.map tx)]] (D.str y7)from by first| (simpa only[aa,ax,bI,au,ay]using cq h8)|exact cq h8| (have t:=cq h8;simp only[aa,au,ay,bE.c]at t;exact t))).r 3 h6)
   obtain⟨h9,h⟩|⟨h9,h⟩:=aL h
   ·cases h;exact(kw.b h9).ret hΓ
   ·cases h;exact(kw.b h9).ret hΓ
def cG(aI:Bytes)(k1:Int->Bytes->Bytes->Option (aU×Bool)):Nat->Int->Int->Bytes->Bytes->Option (aU×Bool)
 |0,_,_,_,_=>none
 |n1+1,qU,qR,qS,qT=>(bif decide ((qU:Int)<3)then((k8 ([[32,61,32],[32,33,61,32],[32,60,32]]:aC) qU).bind fun Ss=>((j5 aI Ss).bind fun K9=>(bif K9.2.2 then(cG aI k1 n1 (IntKind.i64.wrap (qU+1)) (IntKind.i64.wrap (3+qU)) K9.1 K9.2.1)else(cG aI k1 n1 (IntKind.i64.wrap (qU+1)) qR qS qT))))else(k1 qR qS qT))
def gu(aI:Bytes):Option (aU×Bool):=((cH aI).bind fun y1=>(bif y1.2 then((gA (⟨1,y1.1,[],[]⟩:aU)).bind fun y4=>(bif !(y4)then(some ((⟨0,(⟨[],[]⟩:bE),[],[]⟩:aU),false))else((dY (⟨1,y1.1,[],[]⟩:aU)).bind fun y7=>(bif !((y7:Bytes)==aI)then(some ((⟨0,(⟨[],[]⟩:bE),[],[]⟩:aU),false))else(some ((⟨1,y1.1,[],[]⟩:aU),true))))))else((iq aI ([110,111,116,32])).bind fun yt=>(bif yt.2 then((cH yt.1).bind fun jl=>((gA (⟨2,jl.1,[],[]⟩:aU)).bind fun BO=>(bif !(BO)then(some ((⟨0,(⟨[],[]⟩:bE),[],[]⟩:aU),false))else((dY (⟨2,jl.1,[],[]⟩:aU)).bind fun K7=>(bif !((K7:Bytes)==aI)then(some ((⟨0,(⟨[],[]⟩:bE),[],[]⟩:aU),false))else(some ((⟨2,jl.1,[],[]⟩:aU),true)))))))else(cG aI (fun(rD:Int) (rE:Bytes) (rF:Bytes)=>((gA (⟨rD,(⟨[],[]⟩:bE),rE,rF⟩:aU)).bind fun yw=>(bif !(yw)then(some ((⟨0,(⟨[],[]⟩:bE),[],[]⟩:aU),false))else((dY (⟨rD,(⟨[],[]⟩:bE),rE,rF⟩:aU)).bind fun Mt=>(bif !((Mt:Bytes)==aI)then(some ((⟨0,(⟨[],[]⟩:bE),[],[]⟩:aU),false))else(some ((⟨rD,(⟨[],[]⟩:bE),rE,rF⟩:aU),true))))))) fuel 0 0 ([]) ([]))))))
def vM(aI:Bytes)(qU:Int)(qR:Int)(qS:Bytes)(qT:Bytes):St:=⟨[(0,D.str aI),(2,D.ptr 0 0),(4,D.ptr 1 0),(37,D.agg [D.str ([32,61,32]),D.str ([32,33,61,32]),D.str ([32,60,32])]),(38,D.int .i64 qU)],[Ob.box [D.int .i64 0,D.str ([]),D.nil,D.str ([]),D.str ([])],Ob.box [D.int .i64 qR,D.str ([]),D.nil,D.str qS,D.str qT]]⟩
theorem uC(hΓ:Γ.nt=67){aI:Bytes}{r:aU×Bool}{k1:Int->Bytes->Bytes->Option (aU×Bool)}(mR:∀(rD:Int) (rE:Bytes) (rF:Bytes),k1 rD rE rF=some r->Ax Γ N f25 (.q [[none,none,some (9,1),none,none],[none]] (D.fy [D.agg [D.int .i64 r.1.kind,D.str r.1.pat.rel,D.fr 9 1 (r.1.pat.args.map tx),D.str r.1.left,D.str r.1.right],D.bool r.2])) [1,1,1] ⟨[(0,D.str aI),(2,D.ptr 0 0),(4,D.ptr 1 0)],[Ob.box [D.int .i64 0,D.str ([]),D.nil,D.str ([]),D.str ([])],Ob.box [D.int .i64 rD,D.str ([]),D.nil,D.str rE,D.str rF]]⟩):∀(n1:Nat) (qU:Int) (qR:Int) (qS:Bytes) (qT:Bytes),cG aI k1 n1 qU qR qS qT=some r->Ar Γ N f25 (.q [[none,none,some (9,1),none,none],[none]] (D.fy [D.agg [D.int .i64 r.1.kind,D.str r.1.pat.rel,D.fr 9 1 (r.1.pat.args.map tx),D.str r.1.left,D.str r.1.right],D.bool r.2])) [1,1,0,1,1,1,1,1,1,1,0] n1 (vM aI qU qR qS qT):=by
 intro n
 induction n with
 |zero=>intro qU qR qS qT h;simp[cG]at h
 |succ n1 ih1=>
  intro qU qR qS qT h;rw[cG]at h;refine aj fun N1 hN1 iJ=>?_
  obtain⟨h45,h⟩|⟨h45,h⟩:=aL h
  ·obtain⟨Ss,h47,h⟩:=aE h;obtain⟨K9,h49,h⟩:=aE h;have kw:=((((ah.b h45).a [.d (D.str Ss)]).w (Kc (m:=3) rfl h47)).g (iD h49))
   obtain⟨h50,h⟩|⟨h50,h⟩:=aL h
   ·exact((kw.b h50).a [.cn [0,2,4,37,38] [0,1]]).cf hΓ iJ (ih1 (IntKind.i64.wrap (qU+1)) (IntKind.i64.wrap (3+qU)) K9.1 K9.2.1 h)
   ·exact((kw.b h50).a [.cn [0,2,4,37,38] [0,1]]).cf hΓ iJ (ih1 (IntKind.i64.wrap (qU+1)) qR qS qT h)
  ·exact((ah.b h45).a [.hl 0 [0,2,4] [0,1]]).ex hΓ hN1 (mR qR qS qT h)
theorem tG{aI:Bytes}{r:aU×Bool}(h:gu aI=some r):Good prog 25 [D.str aI] (D.fy [D.agg [D.int .i64 r.1.kind,D.str r.1.pat.rel,D.fr 9 1 (r.1.pat.args.map tx),D.str r.1.left,D.str r.1.right],D.bool r.2]):=by
 refine gd func25 [[none,none,some (9,1),none,none],[none]] 67 fun hr Γ hΓ=>?_
 rw[gu]at h;obtain⟨y1,h2,h⟩:=aE h;obtain⟨h3,h⟩|⟨h3,h⟩:=aL h
 ·obtain⟨y4,h5,h⟩:=aE h;have mJ:=((((ah.g (fK h2)).b h3).a [.d (D.bool y4)]).w (show Good prog 57 [D.agg [D.int .i64 1,D.str y1.1.rel,D.sl (y1.1.args.map tx),D.str ([]),D.str ([])]] (D.bool y4)from by first| (simpa only[aa,ax,bI,au,ay]using br h5)|exact br h5| (have t:=br h5;simp only[aa,au,ay,aU.c]at t;exact t)))
  obtain⟨h6,h⟩|⟨h6,h⟩:=aL h
  ·cases h;exact((mJ.r 5 h6).T 1).ret hΓ
  ·obtain⟨y7,h8,h⟩:=aE h;have mN:=((((mJ.r 2 h6).a [.d (D.str y7)]).w (show Good prog 18 [D.agg [D.int .i64 1,D.str y1.1.rel,D.sl (y1.1.args.map tx),D.str ([]),D.str ([])]] (D.str y7)from by first| (simpa only[aa,ax,bI,au,ay]using cJ h8)|exact cJ h8| (have t:=cJ h8;simp only[aa,au,ay,aU.c]at t;exact t))).r 3 h6)
   obtain⟨h9,h⟩|⟨h9,h⟩:=aL h
   ·cases h;exact(mN.b h9).ret hΓ
   ·cases h;exact(mN.b h9).ret hΓ
 ·obtain⟨yt,h11,h⟩:=aE h;have ur:=(((ah.g (fK h2)).b h3).g (jj h11))
  obtain⟨h12,h⟩|⟨h12,h⟩:=aL h
  ·obtain⟨jl,h14,h⟩:=aE h;obtain⟨BO,h16,h⟩:=aE h;have zJ:=((((ur.b h12).g (fK h14)).a [.d (D.bool BO)]).w (show Good prog 57 [D.agg [D.int .i64 2,D.str jl.1.rel,D.sl (jl.1.args.map tx),D.str ([]),D.str ([])]] (D.bool BO)from by first| (simpa only[aa,ax,bI,au,ay]using br h16)|exact br h16| (have t:=br h16;simp only[aa,au,ay,aU.c]at t;exact t)))
   obtain⟨h17,h⟩|⟨h17,h⟩:=aL h
   ·cases h;exact((zJ.r 5 h17).T 1).ret hΓ
   ·obtain⟨K7,h19,h⟩:=aE h;have Aj:=((((zJ.r 2 h17).a [.d (D.str K7)]).w (show Good prog 18 [D.agg [D.int .i64 2,D.str jl.1.rel,D.sl (jl.1.args.map tx),D.str ([]),D.str ([])]] (D.str K7)from by first| (simpa only[aa,ax,bI,au,ay]using cJ h19)|exact cJ h19| (have t:=cJ h19;simp only[aa,au,ay,aU.c]at t;exact t))).r 3 h17)
    obtain⟨h20,h⟩|⟨h20,h⟩:=aL h
    ·cases h;exact(Aj.b h20).ret hΓ
    ·cases h;exact(Aj.b h20).ret hΓ
  ·refine((ur.b h12).a [.cn [0,2,4,37,38] [0,1]]).lp hΓ (uC hΓ (fun rD rE rF h=>?_) fuel 0 0 ([]) ([]) h);obtain⟨yw,h52,h⟩:=aE h;obtain⟨h53,h⟩|⟨h53,h⟩:=aL h
   ·cases h;exact((((ah.a [.d (D.bool yw)]).w (show Good prog 57 [D.agg [D.int .i64 rD,D.str ([]),D.sl ([]),D.str rE,D.str rF]] (D.bool yw)from by first| (simpa only[aa,ax,bI,au,ay]using br h52)|exact br h52| (have t:=br h52;simp only[aa,au,ay,aU.c]at t;exact t))).r 5 h53).T 1).ret hΓ
   ·obtain⟨Mt,h55,h⟩:=aE h;have Bg:=((((((ah.a [.d (D.bool yw)]).w (show Good prog 57 [D.agg [D.int .i64 rD,D.str ([]),D.sl ([]),D.str rE,D.str rF]] (D.bool yw)from by first| (simpa only[aa,ax,bI,au,ay]using br h52)|exact br h52| (have t:=br h52;simp only[aa,au,ay,aU.c]at t;exact t))).r 2 h53).a [.d (D.str Mt)]).w (show Good prog 18 [D.agg [D.int .i64 rD,D.str ([]),D.sl ([]),D.str rE,D.str rF]] (D.str Mt)from by first| (simpa only[aa,ax,bI,au,ay]using cJ h55)|exact cJ h55| (have t:=cJ h55;simp only[aa,au,ay,aU.c]at t;exact t))).r 3 h53)
    obtain⟨h56,h⟩|⟨h56,h⟩:=aL h
    ·cases h;exact(Bg.b h56).ret hΓ
    ·cases h;exact(Bg.b h56).ret hΓ
def gy(aI:Bytes):Option (Action×Bool):=(bif (aI:Bytes)==([115,116,111,112])then(some ((⟨3,(⟨[],[]⟩:bE)⟩:Action),true))else((iq aI ([97,100,100,32])).bind fun y2=>(bif y2.2 then((cH y2.1).bind fun y5=>(some ((⟨1,y5.1⟩:Action),y5.2)))else((iq aI ([100,114,111,112,32])).bind fun y7=>(bif y7.2 then((cH y7.1).bind fun yt=>(some ((⟨2,yt.1⟩:Action),yt.2)))else(some ((⟨0,(⟨[],[]⟩:bE)⟩:Action),false)))))))
theorem rO{aI:Bytes}{r:Action×Bool}(h:gy aI=some r):Good prog 26 [D.str aI] (D.fy [D.agg [D.int .i64 r.1.kind,D.str r.1.pat.rel,D.fr 9 1 (r.1.pat.args.map tx)],D.bool r.2]):=by
 refine gd func26 [[none,none,some (9,1)],[none]] 44 fun hr Γ hΓ=>?_
 rw[gy]at h;obtain⟨h1,h⟩|⟨h1,h⟩:=aL h
 ·cases h;exact(ah.b h1).ret hΓ
 ·obtain⟨y2,h3,h⟩:=aE h;have kQ:=((ah.b h1).g (jj h3))
  obtain⟨h4,h⟩|⟨h4,h⟩:=aL h
  ·obtain⟨y5,h6,h⟩:=aE h;cases h;exact((kQ.b h4).g (fK h6)).ret hΓ
  ·obtain⟨y7,h8,h⟩:=aE h;have kw:=((kQ.b h4).g (jj h8))
   obtain⟨h9,h⟩|⟨h9,h⟩:=aL h
   ·obtain⟨yt,h11,h⟩:=aE h;cases h;exact((kw.b h9).g (fK h11)).ret hΓ
   ·cases h;exact(kw.b h9).ret hΓ
def eF(aI:Bytes)(y3:Bytes×Bytes×Bool)(y5:Bytes×Bytes×Bool)(y7:Int×Bool)(jl:aC)(k1:bP->Option (aW×Bool)):aC->Nat->bP->Option (aW×Bool)
 | [],i1,iy=>(k1 iy)
 |eP::js,i1,iy=>((gu eP).bind fun GC=>(bif !(GC.2)then(some ((⟨[],0,[],[]⟩:aW),false))else(bif room ((iy.map aU.c).length+([[D.int .i64 GC.1.kind,D.str GC.1.pat.rel,D.sl (GC.1.pat.args.map tx),D.str GC.1.left,D.str GC.1.right]]).length) 80 then(eF aI y3 y5 y7 jl k1 js (i1+1) (iy++([GC.1])))else none)))
def eG(aI:Bytes)(y3:Bytes×Bytes×Bool)(y7:Int×Bool)(kO:bP)(yw:aC)(k2:cg->Option (aW×Bool)):aC->Nat->cg->Option (aW×Bool)
 | [],i2,oD=>(k2 oD)
 |wC::vp,i2,oD=>((gy wC).bind fun KA=>(bif !(KA.2)then(some ((⟨[],0,[],[]⟩:aW),false))else(bif room ((oD.map Action.c).length+([[D.int .i64 KA.1.kind,D.str KA.1.pat.rel,D.sl (KA.1.pat.args.map tx)]]).length) 48 then(eG aI y3 y7 kO yw k2 vp (i2+1) (oD++([KA.1])))else none)))
def gw(aI:Bytes):Option (aW×Bool):=((j5 aI ([58,32])).bind fun y1=>((j5 y1.1 ([32])).bind fun y3=>((j5 y1.2.1 ([32,45,62,32])).bind fun y5=>((kS y3.2.1).bind fun y7=>(bif !(y1.2.2)then(some ((⟨[],0,[],[]⟩:aW),false))else(bif !(y3.2.2)then(some ((⟨[],0,[],[]⟩:aW),false))else(bif !(y5.2.2)then(some ((⟨[],0,[],[]⟩:aW),false))else(bif !(y7.2)then(some ((⟨[],0,[],[]⟩:aW),false))else((jS y5.1 ([32,38,32])).bind fun jl=>(bif decide (jl.length<=maxLen)then(eF aI y3 y5 y7 jl (fun(kO:bP)=>((jS y5.2.1 ([32,38,32])).bind fun yw=>(bif decide (yw.length<=maxLen)then(eG aI y3 y7 kO yw (fun(tT:cg)=>((kf (⟨y3.1,y7.1,kO,tT⟩:aW)).bind fun Oo=>(bif !(Oo)then(some ((⟨[],0,[],[]⟩:aW),false))else((iP (⟨y3.1,y7.1,kO,tT⟩:aW)).bind fun Oq=>(bif !((Oq:Bytes)==aI)then(some ((⟨[],0,[],[]⟩:aW),false))else(some ((⟨y3.1,y7.1,kO,tT⟩:aW),true))))))) yw 0 ([]:cg))else none))) jl 0 ([]:bP))else none))))))))))
def og(aI:Bytes)(y3:Bytes×Bytes×Bool)(y5:Bytes×Bytes×Bool)(y7:Int×Bool)(jl:aC)(W0:List aG)(kY:Int):St:=⟨[(0,D.str aI),(2,D.ptr 0 0),(11,D.str y5.2.1),(15,D.ptr 1 0),(66,D.acc 2),(67,D.int .i64 ((jl.map tx).length:Int)),(68,D.int .i64 kY)],[Ob.box [D.str ([]),D.int .i64 0,D.nil,D.nil],Ob.box [D.str y3.1,D.int .i64 y7.1,D.acc 3,D.nil],Ob.row .uq 9 1 (jl.map tx),Ob.row .uq 43 5 W0]⟩
theorem uE(hΓ:Γ.nt=120){aI:Bytes}{y3:Bytes×Bytes×Bool}{y5:Bytes×Bytes×Bool}{y7:Int×Bool}{jl:aC}{r:aW×Bool}{k1:bP->Option (aW×Bool)}(mR:∀(kO:bP),k1 kO=some r->Ax Γ N f8 (.q [[none,none,some (43,5),some (46,3)],[none]] (D.fy [D.agg [D.str r.1.name,D.int .i64 r.1.prio,D.fr 43 5 (r.1.conds.map aU.c),D.fr 46 3 (r.1.bg.map Action.c)],D.bool r.2])) [1,1,1,1,1,1,1,1] ⟨[(0,D.str aI),(2,D.ptr 0 0),(11,D.str y5.2.1),(15,D.ptr 1 0)],[Ob.box [D.str ([]),D.int .i64 0,D.nil,D.nil],Ob.box [D.str y3.1,D.int .i64 y7.1,D.acc 2,D.nil],Ob.row .uq 43 5 (kO.map aU.c)]⟩)(hm1:jl.length<=maxLen):∀(rest:aC) (i1:Nat) (iy:bP),jl.drop i1=rest->eF aI y3 y5 y7 jl k1 rest i1 iy=some r->Ar Γ N f8 (.q [[none,none,some (43,5),some (46,3)],[none]] (D.fy [D.agg [D.str r.1.name,D.int .i64 r.1.prio,D.fr 43 5 (r.1.conds.map aU.c),D.fr 46 3 (r.1.bg.map Action.c)],D.bool r.2])) [1,1,1,1,1,1,1,0,1,0] (rest.length+1) (og aI y3 y5 y7 jl (iy.map aU.c) (i1:Int)):=by
 intro rest
 induction rest with
 |nil=>
  intro i1 iy cE h;rw[eF]at h;refine aj fun N1 hN1 iJ=>?_
  exact((ah.ge tx cE).a [.hl 0 [0,2,11,15] [0,1,3]]).ex hΓ hN1 (mR iy h)
 |cons eP js ih1=>
  intro i1 iy cE h;rw[eF]at h;refine aj fun N1 hN1 iJ=>?_
  obtain⟨GC,h48,h⟩:=aE h;have mJ:=((((ah.lt tx cE).i (kM tx 1 (dc cE))).o 1 1 .uq (cK tx (dc cE))).g (tG h48))
  obtain⟨h49,h⟩|⟨h49,h⟩:=aL h
  ·cases h;exact(mJ.b h49).ret hΓ
  ·obtain⟨h50,h⟩:=bp h;exact(((mJ.b h49).w (eA h50)).a [.cn [0,2,11,15,66,67,68] [0,1,2,7]]).cs hΓ iJ (og aI y3 y5 y7 jl ((iy.map aU.c)++([[D.int .i64 GC.1.kind,D.str GC.1.pat.rel,D.sl (GC.1.pat.args.map tx),D.str GC.1.left,D.str GC.1.right]])) (IntKind.i64.wrap ((i1:Int)+1))) (by first| (simp only[iS cE hm1,mA]<;>rfl)| (simp only[iS cE hm1,mA,bE.c,nq.c,aU.c,Action.c,aW.c,l8.c,lK.c,l6.c,Node.c,gb.c,mF.c]<;>rfl)) (ih1 (i1+1) (iy++([GC.1])) (dn cE) h)
def oh(aI:Bytes)(y3:Bytes×Bytes×Bool)(y7:Int×Bool)(kO:bP)(yw:aC)(W0:List aG)(kY:Int):St:=⟨[(0,D.str aI),(2,D.ptr 0 0),(15,D.ptr 1 0),(88,D.acc 2),(89,D.int .i64 ((yw.map tx).length:Int)),(90,D.int .i64 kY)],[Ob.box [D.str ([]),D.int .i64 0,D.nil,D.nil],Ob.box [D.str y3.1,D.int .i64 y7.1,D.acc 3,D.acc 4],Ob.row .uq 9 1 (yw.map tx),Ob.row .uq 43 5 (kO.map aU.c),Ob.row .uq 46 3 W0]⟩
theorem uF(hΓ:Γ.nt=120){aI:Bytes}{y3:Bytes×Bytes×Bool}{y7:Int×Bool}{kO:bP}{yw:aC}{r:aW×Bool}{k2:cg->Option (aW×Bool)}(B9:∀(tT:cg),k2 tT=some r->Ax Γ N f8 (.q [[none,none,some (43,5),some (46,3)],[none]] (D.fy [D.agg [D.str r.1.name,D.int .i64 r.1.prio,D.fr 43 5 (r.1.conds.map aU.c),D.fr 46 3 (r.1.bg.map Action.c)],D.bool r.2])) [1,1,1,1,1,1,1,1,1] ⟨[(0,D.str aI),(2,D.ptr 0 0),(15,D.ptr 1 0)],[Ob.box [D.str ([]),D.int .i64 0,D.nil,D.nil],Ob.box [D.str y3.1,D.int .i64 y7.1,D.acc 2,D.acc 3],Ob.row .uq 43 5 (kO.map aU.c),Ob.row .uq 46 3 (tT.map Action.c)]⟩)(hm2:yw.length<=maxLen):∀(rest:aC) (i2:Nat) (oD:cg),yw.drop i2=rest->eG aI y3 y7 kO yw k2 rest i2 oD=some r->Ar Γ N f8 (.q [[none,none,some (43,5),some (46,3)],[none]] (D.fy [D.agg [D.str r.1.name,D.int .i64 r.1.prio,D.fr 43 5 (r.1.conds.map aU.c),D.fr 46 3 (r.1.bg.map Action.c)],D.bool r.2])) [1,1,1,1,1,1,1,1,0,1,0] (rest.length+1) (oh aI y3 y7 kO yw (oD.map Action.c) (i2:Int)):=by
 intro rest
 induction rest with
 |nil=>
  intro i2 oD hd2 h;rw[eG]at h;refine aj fun N2 wU tQ=>?_
  exact((ah.ge tx hd2).a [.hl 0 [0,2,15] [0,1,3,4]]).ex hΓ wU (B9 oD h)
 |cons wC vp ih2=>
  intro i2 oD hd2 h;rw[eG]at h;refine aj fun N2 wU tQ=>?_
  obtain⟨KA,h86,h⟩:=aE h;have mN:=((((ah.lt tx hd2).i (kM tx 1 (dc hd2))).o 1 1 .uq (cK tx (dc hd2))).g (rO h86))
  obtain⟨h87,h⟩|⟨h87,h⟩:=aL h
  ·cases h;exact(mN.b h87).ret hΓ
  ·obtain⟨h88,h⟩:=bp h;exact(((mN.b h87).w (eA h88)).a [.cn [0,2,15,88,89,90] [0,1,2,3,8]]).cs hΓ tQ (oh aI y3 y7 kO yw ((oD.map Action.c)++([[D.int .i64 KA.1.kind,D.str KA.1.pat.rel,D.sl (KA.1.pat.args.map tx)]])) (IntKind.i64.wrap ((i2:Int)+1))) (by first| (simp only[iS hd2 hm2,mA]<;>rfl)| (simp only[iS hd2 hm2,mA,bE.c,nq.c,aU.c,Action.c,aW.c,l8.c,lK.c,l6.c,Node.c,gb.c,mF.c]<;>rfl)) (ih2 (i2+1) (oD++([KA.1])) (dn hd2) h)
theorem tH{aI:Bytes}{r:aW×Bool}(h:gw aI=some r):Good prog 8 [D.str aI] (D.fy [D.agg [D.str r.1.name,D.int .i64 r.1.prio,D.fr 43 5 (r.1.conds.map aU.c),D.fr 46 3 (r.1.bg.map Action.c)],D.bool r.2]):=by
 refine gd func8 [[none,none,some (43,5),some (46,3)],[none]] 120 fun hr Γ hΓ=>?_
 rw[gw]at h;obtain⟨y1,h2,h⟩:=aE h;obtain⟨y3,h4,h⟩:=aE h;obtain⟨y5,h6,h⟩:=aE h;obtain⟨y7,h8,h⟩:=aE h;have ur:=((((ah.g (iD h2)).g (iD h4)).g (iD h6)).g (uD h8))
 obtain⟨h9,h⟩|⟨h9,h⟩:=aL h
 ·cases h;exact((ur.r 3 h9).T 7).ret hΓ
 ·have zJ:=(ur.r 3 h9)
  obtain⟨h10,h⟩|⟨h10,h⟩:=aL h
  ·cases h;exact((zJ.r 3 h10).T 4).ret hΓ
  ·have Aj:=(zJ.r 3 h10)
   obtain⟨h11,h⟩|⟨h11,h⟩:=aL h
   ·cases h;exact((Aj.r 3 h11).T 1).ret hΓ
   ·have Bg:=(Aj.r 3 h11)
    obtain⟨h12,h⟩|⟨h12,h⟩:=aL h
    ·cases h;exact(Bg.b h12).ret hΓ
    ·obtain⟨jl,h14,h⟩:=aE h;obtain⟨h96,h⟩:=bp h;refine(((Bg.b h12).g (lS h14)).a [.pb 1 2 43 5,.cn [0,2,11,15,66,67,68] [0,1,2,3]]).lp hΓ (uE hΓ (fun kO h=>?_) (av h96) jl 0 ([]:bP) rfl h);obtain⟨yw,h52,h⟩:=aE h;obtain⟨h95,h⟩:=bp h;refine((ah.g (lS h52)).a [.pb 1 3 46 3,.cn [0,2,15,88,89,90] [0,1,3,2,4]]).lp hΓ (uF hΓ (fun tT h=>?_) (av h95) yw 0 ([]:cg) rfl h);obtain⟨Oo,h90,h⟩:=aE h;obtain⟨h91,h⟩|⟨h91,h⟩:=aL h
     ·cases h;exact((((ah.a [.d (D.bool Oo)]).w (show Good prog 17 [D.agg [D.str y3.1,D.int .i64 y7.1,D.sl (kO.map aU.c),D.sl (tT.map Action.c)]] (D.bool Oo)from by first| (simpa only[aa,ax,bI,au,ay]using eU h90)|exact eU h90| (have t:=eU h90;simp only[aa,au,ay,aW.c]at t;exact t))).r 5 h91).T 1).ret hΓ
     ·obtain⟨Oq,h93,h⟩:=aE h;have Fy:=((((((ah.a [.d (D.bool Oo)]).w (show Good prog 17 [D.agg [D.str y3.1,D.int .i64 y7.1,D.sl (kO.map aU.c),D.sl (tT.map Action.c)]] (D.bool Oo)from by first| (simpa only[aa,ax,bI,au,ay]using eU h90)|exact eU h90| (have t:=eU h90;simp only[aa,au,ay,aW.c]at t;exact t))).r 2 h91).a [.d (D.str Oq)]).w (show Good prog 7 [D.agg [D.str y3.1,D.int .i64 y7.1,D.sl (kO.map aU.c),D.sl (tT.map Action.c)]] (D.str Oq)from by first| (simpa only[aa,ax,bI,au,ay]using iz h93)|exact iz h93| (have t:=iz h93;simp only[aa,au,ay,aW.c]at t;exact t))).r 3 h91)
      obtain⟨h94,h⟩|⟨h94,h⟩:=aL h
      ·cases h;exact(Fy.b h94).ret hΓ
      ·cases h;exact(Fy.b h94).ret hΓ
def gU(aI:aC)(bY:aC)(k1:Option Bool):aC->Nat->Option Bool
 | [],i1=>(k1)
 |eP::js,i1=>((k8 bY (i1:Int)).bind fun x22=>(bif !((eP:Bytes)==x22)then(some false)else(gU aI bY k1 js (i1+1))))
def jy(aI:aC)(bY:aC):Option Bool:=(bif (((aI.map tx).length:Int):Int) != ((bY.map tx).length:Int)then(some false)else(gU aI bY (some true) aI 0))
def vQ(aI:aC)(bY:aC)(kY:Int):St:=⟨[(0,D.sl (aI.map tx)),(1,D.sl (bY.map tx)),(12,D.int .i64 ((aI.map tx).length:Int)),(13,D.int .i64 kY)],[]⟩
theorem uI(hΓ:Γ.nt=26){aI:aC}{bY:aC}{r:Bool}{k1:Option Bool}(mR:k1=some r->Ax Γ N f78 (.q [[none]] (D.bool r)) [1,1,1] ⟨[],[]⟩)(hm1:aI.length<=maxLen):∀(rest:aC) (i1:Nat),aI.drop i1=rest->gU aI bY k1 rest i1=some r->Ar Γ N f78 (.q [[none]] (D.bool r)) [1,1,0,1,0] (rest.length+1) (vQ aI bY (i1:Int)):=by
 intro rest
 induction rest with
 |nil=>
  intro i1 cE h;rw[gU]at h;refine aj fun N1 hN1 iJ=>?_
  exact((ah.ge tx cE).a [.hl 0 [] []]).ex hΓ hN1 (mR h)
 |cons eP js ih1=>
  intro i1 cE h;rw[gU]at h;refine aj fun N1 hN1 iJ=>?_
  obtain⟨x22,h23,h⟩:=aE h;have kw:=((((ah.lt tx cE).a [.n 8]).l (cz tx 1 (dc cE) rfl)).l (tq tx 1 h23 rfl))
  obtain⟨h24,h⟩|⟨h24,h⟩:=aL h
  ·have h:=aT h;subst h;exact(kw.b h24).ret hΓ
  ·exact((kw.b h24).a [.cn [0,1,12,13] []]).ct hΓ iJ (iS cE hm1) (ih1 (i1+1) (dn cE) h)
theorem tK{aI:aC}{bY:aC}{r:Bool}(h:jy aI bY=some r):Good prog 78 [D.sl (aI.map tx),D.sl (bY.map tx)] (D.bool r):=by
 refine gd func78 [[none]] 26 fun hr Γ hΓ=>?_
 rw[jy]at h;obtain⟨h1,h⟩|⟨h1,h⟩:=aL h
 ·have h:=aT h;subst h;exact(ah.b h1).ret hΓ
 ·refine((ah.b h1).a [.cn [0,1,12,13] []]).lp hΓ (uI hΓ (fun h=>?_) (by have:=(n7.sl (hr _ (aD (i:=0) rfl))).1;simpa using this) aI 0 rfl h);have h:=aT h;subst h;exact ah.ret hΓ
def gx(aI:bE)(bY:bE):Option Bool:=(bif (aI.rel:Bytes)==bY.rel then((jy aI.args bY.args).bind fun y2=>(some y2))else(some false))
theorem mi{aI:bE}{bY:bE}{r:Bool}(h:gx aI bY=some r):Good prog 39 [D.agg (bE.c aI),D.agg (bE.c bY)] (D.bool r):=by
 refine gd func39 [[none]] 17 fun hr Γ hΓ=>?_
 rw[gx]at h;obtain⟨h1,h⟩|⟨h1,h⟩:=aL h
 ·obtain⟨y2,h3,h⟩:=aE h;have h:=aT h;subst h;exact(((ah.r 5 h1).g (tK h3)).b h1).ret hΓ
 ·have h:=aT h;subst h;exact(ah.r 6 h1).ret hΓ
def kT(aI:aU)(bY:aU):Option Bool:=(bif (aI.kind:Int)==bY.kind then(bif (aI.left:Bytes)==bY.left then(bif (aI.right:Bytes)==bY.right then((gx aI.pat bY.pat).bind fun y4=>(some y4))else(some false))else(some false))else(some false))
theorem uG{aI:aU}{bY:aU}{r:Bool}(h:kT aI bY=some r):Good prog 38 [D.agg (aU.c aI),D.agg (aU.c bY)] (D.bool r):=by
 refine gd func38 [[none]] 31 fun hr Γ hΓ=>?_
 rw[kT]at h;obtain⟨h1,h⟩|⟨h1,h⟩:=aL h
 ·have kQ:=(ah.r 6 h1)
  obtain⟨h2,h⟩|⟨h2,h⟩:=aL h
  ·have kw:=(kQ.r 6 h2)
   obtain⟨h3,h⟩|⟨h3,h⟩:=aL h
   ·obtain⟨y4,h5,h⟩:=aE h;have h:=aT h;subst h;exact(((kw.r 5 h3).g (mi h5)).b h3).ret hΓ
   ·have h:=aT h;subst h;exact(kw.r 6 h3).ret hΓ
  ·have h:=aT h;subst h;exact((kQ.r 6 h2).F 6).ret hΓ
 ·have h:=aT h;subst h;exact((ah.r 6 h1).F 12).ret hΓ
def fQ(aI:aW)(bY:aW)(k1:Option Bool):bP->Nat->Option Bool
 | [],i1=>(k1)
 |eP::js,i1=>((k8 bY.conds (i1:Int)).bind fun x33=>((kT eP x33).bind fun EE=>(bif !(EE)then(some false)else(fQ aI bY k1 js (i1+1)))))
def fR(aI:aW)(bY:aW)(k2:Option Bool):cg->Nat->Option Bool
 | [],i2=>(k2)
 |wC::vp,i2=>((k8 bY.bg (i2:Int)).bind fun x70=>(bif (wC.kind:Int) != x70.kind then(some false)else((gx wC.pat x70.pat).bind fun vq=>(bif !(vq)then(some false)else(fR aI bY k2 vp (i2+1))))))
def kU(aI:aW)(bY:aW):Option Bool:=(bif !((aI.name:Bytes)==bY.name)then(some false)else(bif (aI.prio:Int) != bY.prio then(some false)else(bif (((aI.conds.map aU.c).length:Int):Int) != ((bY.conds.map aU.c).length:Int)then(some false)else(bif (((aI.bg.map Action.c).length:Int):Int) != ((bY.bg.map Action.c).length:Int)then(some false)else(fQ aI bY (fR aI bY (some true) aI.bg 0) aI.conds 0)))))
def wF(aI:aW)(bY:aW)(kY:Int):St:=⟨[(2,D.ptr 0 0),(3,D.ptr 1 0),(39,D.int .i64 ((aI.conds.map aU.c).length:Int)),(40,D.int .i64 kY)],[Ob.box (aW.c aI),Ob.box (aW.c bY)]⟩
theorem vN(hΓ:Γ.nt=92){aI:aW}{bY:aW}{r:Bool}{k1:Option Bool}(mR:k1=some r->Ax Γ N f10 (.q [[none]] (D.bool r)) [1,1,1] ⟨[(2,D.ptr 0 0),(3,D.ptr 1 0)],[Ob.box (aW.c aI),Ob.box (aW.c bY)]⟩)(hm1:aI.conds.length<=maxLen):∀(rest:bP) (i1:Nat),aI.conds.drop i1=rest->fQ aI bY k1 rest i1=some r->Ar Γ N f10 (.q [[none]] (D.bool r)) [1,1,0,1,0] (rest.length+1) (wF aI bY (i1:Int)):=by
 intro rest
 induction rest with
 |nil=>
  intro i1 cE h;rw[fQ]at h;refine aj fun N1 hN1 iJ=>?_
  exact((ah.ge aU.c cE).a [.hl 0 [2,3] [0,1]]).ex hΓ hN1 (mR h)
 |cons eP js ih1=>
  intro i1 cE h;rw[fQ]at h;refine aj fun N1 hN1 iJ=>?_
  obtain⟨x33,h34,h⟩:=aE h;obtain⟨EE,h36,h⟩:=aE h;have mN:=(((((ah.lt aU.c cE).a [.n 10]).l (cz aU.c 5 (dc cE) rfl)).l (tq aU.c 5 h34 rfl)).g (uG h36))
  obtain⟨h37,h⟩|⟨h37,h⟩:=aL h
  ·have h:=aT h;subst h;exact(mN.b h37).ret hΓ
  ·exact((mN.b h37).a [.cn [2,3,39,40] [0,1]]).ct hΓ iJ (iS cE hm1) (ih1 (i1+1) (dn cE) h)
def wG(aI:aW)(bY:aW)(kY:Int):St:=⟨[(2,D.ptr 0 0),(3,D.ptr 1 0),(58,D.int .i64 ((aI.bg.map Action.c).length:Int)),(59,D.int .i64 kY)],[Ob.box (aW.c aI),Ob.box (aW.c bY)]⟩
theorem vO(hΓ:Γ.nt=92){aI:aW}{bY:aW}{r:Bool}{k2:Option Bool}(B9:k2=some r->Ax Γ N f10 (.q [[none]] (D.bool r)) [1,1,1,1] ⟨[],[]⟩)(hm2:aI.bg.length<=maxLen):∀(rest:cg) (i2:Nat),aI.bg.drop i2=rest->fR aI bY k2 rest i2=some r->Ar Γ N f10 (.q [[none]] (D.bool r)) [1,1,1,0,1,0] (rest.length+1) (wG aI bY (i2:Int)):=by
 intro rest
 induction rest with
 |nil=>
  intro i2 hd2 h;rw[fR]at h;refine aj fun N2 wU tQ=>?_
  exact((ah.ge Action.c hd2).a [.hl 0 [] []]).ex hΓ wU (B9 h)
 |cons wC vp ih2=>
  intro i2 hd2 h;rw[fR]at h;refine aj fun N2 wU tQ=>?_
  obtain⟨x70,h71,h⟩:=aE h;have ur:=((((ah.lt Action.c hd2).a [.n 26]).l (cz Action.c 3 (dc hd2) rfl)).l (tq Action.c 3 h71 rfl))
  obtain⟨h72,h⟩|⟨h72,h⟩:=aL h
  ·have h:=aT h;subst h;exact((ur.r 15 h72).T 1).ret hΓ
  ·obtain⟨vq,h74,h⟩:=aE h;have zJ:=(((((((ur.r 4 h72).l (cz Action.c 3 (dc hd2) rfl)).r 6 h72).l (tq Action.c 3 h71 rfl)).r 3 h72).g (mi h74)).r 2 h72)
   obtain⟨h75,h⟩|⟨h75,h⟩:=aL h
   ·have h:=aT h;subst h;exact(zJ.b h75).ret hΓ
   ·exact((zJ.b h75).a [.cn [2,3,58,59] [0,1]]).ct hΓ tQ (iS hd2 hm2) (ih2 (i2+1) (dn hd2) h)
theorem uH{aI:aW}{bY:aW}{r:Bool}(h:kU aI bY=some r):Good prog 10 [D.agg (aW.c aI),D.agg (aW.c bY)] (D.bool r):=by
 refine gd func10 [[none]] 92 fun hr Γ hΓ=>?_
 rw[kU]at h;obtain⟨h1,h⟩|⟨h1,h⟩:=aL h
 ·have h:=aT h;subst h;exact((ah.r 6 h1).T 17).ret hΓ
 ·have Aj:=(ah.r 6 h1)
  obtain⟨h2,h⟩|⟨h2,h⟩:=aL h
  ·have h:=aT h;subst h;exact((Aj.r 8 h2).T 9).ret hΓ
  ·have Bg:=(Aj.r 8 h2)
   obtain⟨h3,h⟩|⟨h3,h⟩:=aL h
   ·have h:=aT h;subst h;exact((Bg.r 8 h3).T 1).ret hΓ
   ·have Fy:=(Bg.r 8 h3)
    obtain⟨h4,h⟩|⟨h4,h⟩:=aL h
    ·have h:=aT h;subst h;exact(Fy.b h4).ret hΓ
    ·refine((Fy.b h4).a [.cn [2,3,39,40] [0,1]]).lp hΓ (vN hΓ (fun h=>?_) (by have:=(n7.sl (n7.agg (hr _ (aD (i:=0) rfl)) (.sl (aI.conds.map aU.c)) (by simp))).1;simpa using this) aI.conds 0 rfl h);refine(ah.a [.cn [2,3,58,59] [0,1]]).lp hΓ (vO hΓ (fun h=>?_) (by have:=(n7.sl (n7.agg (hr _ (aD (i:=0) rfl)) (.sl (aI.bg.map Action.c)) (by simp))).1;simpa using this) aI.bg 0 rfl h);have h:=aT h;subst h;exact ah.ret hΓ
end Go.Cx
namespace Go.Cx
open Go.RowKit Go.Proofs Tryz
theorem C5{α:Type}{a pre xs:List α}{x:α}(h:a=pre++x::xs):k8 a (pre.length:Int)=some x:=by
 unfold k8;have:a[pre.length]?=some x:=by rw[h];simp
 simp[this]
theorem Bj{n b:Nat}(hn:n<=1099511627776)(hb:b<=128):room n b=true:=by
 unfold room maxLen;have:n*b<=1099511627776*128:=Nat.mul_le_mul hn hb;simp;omega
theorem oo{α:Type}{w:List α}{c:α->aG}{y:aG}{b:Nat}(h:w.length<1099511627776)(hb:b<=128):room ((w.map c).length+([y]).length) b=true:=Bj (by simp;omega) hb
theorem Mf{α β:Type}{w:List α}{v:List β}{c:α->aG}{d:β->aG}{b:Nat}(h:w.length+v.length<=1099511627776)(hb:b<=128):room ((w.map c).length+(v.map d).length) b=true:=Bj (by simp;omega) hb
theorem Me{β:Type}{v:List β}{d:β->aG}{b:Nat}(h:v.length<=1099511627776)(hb:b<=128):room (([]:List aG).length+(v.map d).length) b=true:=Bj (by simp;omega) hb
theorem um{α:Type}{l:List α}(h:l.length<=1099511627776):decide (l.length<=maxLen)=true:=by unfold maxLen;simp;omega
theorem Q5{α β γ:Type}{c:β->aG}{b:Nat}{f:α->Option β}{g:α->β}{L:List α->Nat->List β->Option γ}{k:List β->Option γ}(hb:b<=128)(ua:∀i w,L [] i w=k w)
 (DN:∀x xs i w,L (x::xs) i w=(f x).bind fun y=>bif room ((w.map c).length+([c y]).length) b then L xs (i+1) (w++[y])else none):
 ∀(l:List α) (i:Nat) (w:List β),(∀x∈l,f x=some (g x))->w.length+l.length<=1099511627776->L l i w=k (w++l.map g):=by
 intro l
 induction l with
 |nil=>intro i w _ _;simp[ua]
 |cons x xs ih=>
  intro i w hf hl;simp only[aR]at hl;rw[DN,hf x (by simp),aA,oo (by omega) hb,aK,ih _ _ (fun y hy=>hf y (by simp[hy])) (by simp;omega)];simp
theorem KN{α:Type}{f:α->Option Bool}{p:α->Bool}{L:List α->Nat->Option Bool}{k:Option Bool}(ua:∀i,L [] i=k)
 (DN:∀x xs i,L (x::xs) i=(f x).bind fun y=>bif !y then some false else L xs (i+1)):∀(l:List α) (i:Nat),(∀x∈l,f x=some (p x))->L l i=bif l.all p then k else some false:=by
 intro l
 induction l with
 |nil=>intro i _;simp[ua]
 |cons x xs ih=>
  intro i hf;rw[DN,hf x (by simp),aA,ih _ (fun y hy=>hf y (by simp[hy])),ck];cases p x<;>simp
theorem pJ:∀(a:Bytes),Op.bytesLess a a=false
 | []=>rfl
 |x::a=>by simp[Op.bytesLess,pJ a]
theorem tu:∀ {a b c:Bytes},Op.bytesLess a b=true->Op.bytesLess b c=true->Op.bytesLess a c=true
 | [],b,[],_,h2=>by cases b<;>simp[Op.bytesLess]at h2
 | [],b,_::_,_,_=>by simp[Op.bytesLess]
 |_::_,[],_,h1,_=>by simp[Op.bytesLess]at h1
 |_::_,_::_,[],_,h2=>by simp[Op.bytesLess]at h2
 |x::a,y::b,z::c,h1,h2=>by
  simp only[Op.bytesLess,fM,bA,aM,bX]at h1 h2⊢;rcases h1 with h1|⟨rfl,h1⟩
  ·rcases h2 with h2|⟨rfl,h2⟩
   ·exact .inl (UInt8.lt_trans h1 h2)
   ·exact .inl h1
  ·rcases h2 with h2|⟨rfl,h2⟩
   ·exact .inl h2
   ·exact .inr ⟨rfl,tu h1 h2⟩
theorem AD:∀ {a b:Bytes},Op.bytesLess a b=false->Op.bytesLess b a=false->a=b
 | [],[],_,_=>rfl
 | [],_::_,h,_=>by simp[Op.bytesLess]at h
 |_::_,[],_,h=>by simp[Op.bytesLess]at h
 |x::a,y::b,h1,h2=>by
  simp only[Op.bytesLess,Bool.or_eq_false_iff,decide_eq_false_iff_not,tB,eE,ne_eq]at h1 h2;have e:x=y:=by
   have h3:=h1.1;have h4:=h2.1;rw[UInt8.lt_iff_toNat_lt]at h3 h4;exact UInt8.toNat_inj.1 (by omega)
  subst e;rw[AD (h1.2.resolve_left (by simp)) (h2.2.resolve_left (by simp))]
theorem AB{a b:Bytes}(h:Op.bytesLess a b=true):Op.bytesLess b a=false:=by
 cases hb:Op.bytesLess b a with
 |false=>rfl
 |true=>have:=tu h hb;rw[pJ]at this;cases this
def SS(l:aC):Prop:=l.Pairwise fun a b=>Op.bytesLess a b=true
theorem yK:∀ {a b:aC},SS a->SS b->(∀x,x∈a↔x∈b)->a=b
 | [],[],_,_,_=>rfl
 | [],y::b,_,_,h=>by have:=(h y).2 (by simp);cases this
 |x::a,[],_,_,h=>by have:=(h x).1 (by simp);cases this
 |x::a,y::b,h1,h2,h=>by
  obtain⟨p1,p2⟩:=gm.1 h1;obtain⟨q1,q2⟩:=gm.1 h2;have e:x=y:=by
   refine AD ?_ ?_
   ·cases hb:Op.bytesLess x y with
    |false=>rfl
    |true=>
     rcases aY.1 ((h x).1 (by simp))with rfl|hx
     ·exact(pJ x▸hb).symm
     ·have:=AB (q1 x hx);rw[hb]at this;exact this
   ·cases hb:Op.bytesLess y x with
    |false=>rfl
    |true=>
     rcases aY.1 ((h y).2 (by simp))with rfl|hx
     ·exact(pJ y▸hb).symm
     ·have:=AB (p1 y hx);rw[hb]at this;exact this
  subst e;rw[yK p2 q2 (fun z=>?_)];constructor
  ·intro hz;rcases aY.1 ((h z).1 (by simp[hz]))with rfl|zl
   ·have:=p1 z hz;rw[pJ]at this;cases this
   ·exact zl
  ·intro hz;rcases aY.1 ((h z).2 (by simp[hz]))with rfl|zl
   ·have:=q1 z hz;rw[pJ]at this;cases this
   ·exact zl
def oS:aC->Bytes->aC
 | [],s=>[s]
 |x::xs,s=>bif Op.bytesLess x s then x::oS xs s else bif x==s then x::xs else s::x::xs
theorem Ah:∀ {l:aC} {s y:Bytes},y∈oS l s↔y=s\/y∈l
 | [],s,y=>by simp[oS]
 |x::xs,s,y=>by
  simp only[oS];cases Op.bytesLess x s with
  |true=>simp only[aK,aY,Ah (l:=xs)];constructor<;>(rintro(h|h|h)<;>simp[h])
  |false=>
   simp only[aP];cases hx:x==s with
   |true=>
    simp only[bX]at hx;subst hx;simp
   |false=>simp
theorem G3:∀ {l:aC} {s:Bytes},SS l->SS (oS l s)
 | [],s,_=>by simp[oS,SS]
 |x::xs,s,h=>by
  obtain⟨p1,p2⟩:=gm.1 h;simp only[oS];cases hb:Op.bytesLess x s with
  |true=>
   simp only[aK];refine gm.2 ⟨fun y hy=>?_,G3 p2⟩;rcases Ah.1 hy with rfl|hy
   ·exact hb
   ·exact p1 y hy
  |false=>
   simp only[aP];cases hx:x==s with
   |true=>exact h
   |false=>
    have hs:Op.bytesLess s x=true:=by
     cases hc:Op.bytesLess s x with
     |true=>rfl
     |false=>have:=AD hb hc;subst this;simp at hx
    refine gm.2 ⟨fun y hy=>?_,h⟩;rcases aY.1 hy with rfl|hy
    ·exact hs
    ·exact tu hs (p1 y hy)
theorem qM:∀(l:aC) (s:Bytes),(oS l s).length<=l.length+1
 | [],s=>by simp[oS]
 |x::xs,s=>by
  have:=qM xs s;simp only[oS];cases Op.bytesLess x s<;>simp only[aK,aP,aR]
  ·cases x==s<;>simp
  ·omega
def dB(l:aC):aC:=l.foldl oS []
theorem uZ:∀(l a:aC) (y:Bytes),y∈l.foldl oS a↔y∈a\/y∈l
 | [],a,y=>by simp
 |x::l,a,y=>by
  rw[sZ,uZ l,Ah];simp only[aY];constructor
  ·rintro((h|h)|h)<;>simp[h]
  ·rintro(h|h|h)<;>simp[h]
theorem w5:∀(l:aC) {a:aC},SS a->SS (l.foldl oS a)
 | [],a,h=>h
 |x::l,a,h=>w5 l (G3 h)
theorem uY:∀(l a:aC),(l.foldl oS a).length<=a.length+l.length
 | [],a=>by simp
 |x::l,a=>by
  have h1:=uY l (oS a x);have h2:=qM a x;rw[sZ,aR];omega
theorem mq{l:aC}{y:Bytes}:y∈dB l↔y∈l:=by unfold dB;rw[uZ];simp
theorem Ao(l:aC):SS (dB l):=w5 l (by simp[SS])
theorem jT(l:aC):(dB l).length<=l.length:=by have:=uY l [];simpa[dB]using this
theorem v7{a b:aC}(h:∀x,x∈a↔x∈b):dB a=dB b:=yK (Ao a) (Ao b) (fun x=>by rw[mq,mq,h])
theorem FD(a:aC)(x:Bytes):oS (dB a) x=dB (a++[x]):=by simp[dB]
theorem FC(a b:aC):b.foldl oS (dB a)=dB (a++b):=by simp[dB]
theorem v8(a b:aC):(dB b).foldl oS (dB a)=dB (a++b):=by
 rw[FC];exact v7 (fun x=>by simp[mq])
theorem iK(l:aC)(v:Bytes):(dB l).contains v=l.contains v:=by
 rw[bO];simp[mq]
def Of(x:UInt8):Bool:=decide ((x.toNat:Int)>=97)&&decide ((x.toNat:Int)<=122)
def Og(x:UInt8):Bool:=decide ((x.toNat:Int)>=48)&&decide ((x.toNat:Int)<=57)
def ab(x:UInt8):Bool:=Of x||Og x
def Gg(s:Bytes):Bool:=decide ((s.length:Int)>=1)&&decide ((s.length:Int)<=8)
def nr(s:Bytes):Bool:=s.all ab&&Gg s
def Lz:Bytes->Bool
 | []=>false
 |x::_=>decide ((x.toNat:Int)>=97)
def o6(s:Bytes):Bool:=nr s&&Lz s
def tV:Bytes->Bool
 | []=>false
 |x::t=>decide ((x.toNat:Int)=63)&&nr t
def jz(s:Bytes):Bool:=nr s||tV s
theorem yM{s:Bytes}(h:nr s=true):1<=s.length/\s.length<=8:=by
 simp only[nr,Gg,aM,bA]at h;omega
theorem Bc{s:Bytes}(h:o6 s=true):1<=s.length/\s.length<=8:=by
 simp only[o6,aM]at h;exact yM h.1
theorem Js{s:Bytes}(h:tV s=true):1<=s.length/\s.length<=9:=by
 cases s with
 |nil=>cases h
 |cons x t=>simp only[tV,aM]at h;have:=yM h.2;simp;omega
theorem mr{s:Bytes}(h:jz s=true):1<=s.length/\s.length<=9:=by
 simp only[jz,fM]at h;rcases h with h|h
 ·have:=yM h;omega
 ·exact Js h
theorem Mp(x:UInt8):IntKind.i64.wrap ((x.toNat:Nat):Int)=(x.toNat:Int):=mB (nM.i64.2 (by have:=x.toNat_lt;omega))
theorem Mo{n:Nat}(h:n<=1099511627776):IntKind.i64.wrap ((n:Int)+1)=((n+1:Nat):Int):=by rw[mB (nM.i64.2 (by omega))];omega
theorem Fz{n:Nat}(h:1<=n):o8 n (some (D.int .i64 1)) none=some (1,n):=by
 unfold o8;have:(0:Int)<=1/\(1:Int).toNat<=n:=⟨by decide,h⟩
 simp only[bG this];rfl
theorem DW(a b c:Int):gY a b c=some (decide (a>=b)&&decide (a<=c)):=by
 unfold gY;cases decide (a>=b)<;>rfl
theorem OF(a:Bytes)(k:Option Bool)(ha:a.length<=1048576):∀(rest pre:Bytes),a=pre++rest->∀n,rest.length<n->er a k n (pre.length:Int)=bif rest.all ab then k else some false:=by
 intro rest
 induction rest with
 |nil=>
  intro pre h n hn;obtain⟨m,rfl⟩:∃m,n=m+1:=⟨n-1,by simp at hn;omega⟩
  have e1:decide ((pre.length:Int)<(a.length:Int))=false:=by simp[h]
  rw[er,e1];rfl
 |cons x xs ih=>
  intro pre h n hn;obtain⟨m,rfl⟩:∃m,n=m+1:=⟨n-1,by simp at hn;omega⟩
  have hl:a.length=pre.length+(xs.length+1):=by rw[h];simp
  have e1:decide ((pre.length:Int)<(a.length:Int))=true:=by rw[hl];simp;omega
  have e4:IntKind.i64.wrap ((pre.length:Int)+1)=((pre++[x]).length:Int):=by rw[Mo (by omega)];simp
  have t:=ih (pre++[x]) (by simp[h]) m (by simp at hn;omega);rw[er,e1,aK,C5 h,aA,Mp,DW,DW,aA,aA,e4,t,ck];show(bif !Of x then(bif !Og x then _ else _)else _)=bif (Of x||Og x)&&xs.all ab then k else some false
  cases Of x<;>cases Og x<;>simp
theorem JO(a:Bytes)(ha:a.length<=1048576):jf a=some (nr a):=by
 unfold jf;refine(OF a _ ha a [] rfl fuel (by unfold fuel;omega)).trans ?_;rw[DW,aA];show _=some (a.all ab&&Gg a);cases a.all ab<;>rfl
theorem Nq(a:Bytes)(k:Option Bool)(ha:a.length<=1048576):∀(rest pre:Bytes),a=pre++rest->∀n,rest.length<n->dS a k n (pre.length:Int)=bif rest.all ab then k else some false:=by
 intro rest
 induction rest with
 |nil=>
  intro pre h n hn;obtain⟨m,rfl⟩:∃m,n=m+1:=⟨n-1,by simp at hn;omega⟩
  have e1:decide ((pre.length:Int)<(a.length:Int))=false:=by simp[h]
  rw[dS,e1];rfl
 |cons x xs ih=>
  intro pre h n hn;obtain⟨m,rfl⟩:∃m,n=m+1:=⟨n-1,by simp at hn;omega⟩
  have hl:a.length=pre.length+(xs.length+1):=by rw[h];simp
  have e1:decide ((pre.length:Int)<(a.length:Int))=true:=by rw[hl];simp;omega
  have e4:IntKind.i64.wrap ((pre.length:Int)+1)=((pre++[x]).length:Int):=by rw[Mo (by omega)];simp
  have t:=ih (pre++[x]) (by simp[h]) m (by simp at hn;omega);rw[dS,e1,aK,C5 h,aA,e4,t,ck];have c1:decide ((x.toNat:Int)>=97)= !decide ((x.toNat:Int)<97):=by rw[bO];simp
  have c2:decide ((x.toNat:Int)<=122)= !decide ((x.toNat:Int)>122):=by rw[bO];simp
  have c3:decide ((x.toNat:Int)>=48)= !decide ((x.toNat:Int)<48):=by rw[bO];simp
  have c4:decide ((x.toNat:Int)<=57)= !decide ((x.toNat:Int)>57):=by rw[bO];simp
  rw[ab,Of,Og,c1,c2,c3,c4];cases decide ((x.toNat:Int)<97)<;>cases decide ((x.toNat:Int)>122)<;>cases decide ((x.toNat:Int)<48)<;>cases decide ((x.toNat:Int)>57)<;>simp
theorem Ic(a:Bytes)(ha:a.length<=1048576):jd a=some (nr a):=by
 unfold jd;rw[show dS a (some true) fuel 0=_ from Nq a _ ha a [] rfl fuel (by unfold fuel;omega)];have c1:decide ((a.length:Int)>=1)= !decide ((a.length:Int)<1):=by rw[bO];simp
 have c2:decide ((a.length:Int)<=8)= !decide ((a.length:Int)>8):=by rw[bO];simp
 rw[nr,Gg,c1,c2];cases decide ((a.length:Int)<1)<;>cases decide ((a.length:Int)>8)<;>cases a.all ab<;>rfl
theorem Mi(a:Bytes)(ha:a.length<=1048576):kj a=some (o6 a):=by
 unfold kj;rw[JO a ha,aA,o6];cases h:nr a with
 |false=>rfl
 |true=>
  cases a with
  |nil=>simp[nr,Gg]at h
  |cons x xs=>
   rw[show k8 (x::xs) 0=some x from rfl];simp only[aK,aA,Mp,DW,vr,aQ,Lz];simp only[nr,ck,ab,Of,Og,aM,fM,bA]at h;rw[bO];simp only[aM,bA];omega
theorem M7(a:Bytes)(ha:a.length<=1048576):ke a=some (o6 a):=by
 unfold ke;rw[Ic a ha,aA,o6];cases h:nr a with
 |false=>rfl
 |true=>
  cases a with
  |nil=>simp[nr,Gg]at h
  |cons x xs=>rfl
theorem Jb(a:Bytes)(ha:a.length<=1048576):iF a=some (tV a):=by
 unfold iF;cases a with
 |nil=>rfl
 |cons x t=>
  simp only[aR]at ha;rw[show k8 (x::t) 0=some x from rfl,aA,Fz (by simp),aA];have e:(((x::t).take ((x::t).length)).drop 1)=t:=by simp
  simp only[e,JO t (by omega),aA,tV,lB];cases t with
  |nil=>cases decide ((x.toNat:Int)=63)<;>rfl
  |cons y t=>
   have e2:decide ((((x::y::t).length:Int):Int)>1)=true:=by simp;omega
   rw[e2];cases decide ((x.toNat:Int)=63)<;>simp
theorem Px(a:Bytes)(ha:a.length<=1048576):lf a=some (tV a):=by
 unfold lf;cases a with
 |nil=>rfl
 |cons x t=>
  simp only[aR]at ha;rw[show k8 (x::t) 0=some x from rfl,aA,Fz (by simp),aA];have e:(((x::t).take ((x::t).length)).drop 1)=t:=by simp
  simp only[e,Ic t (by omega),aA,tV,lB];cases t with
  |nil=>cases decide ((x.toNat:Int)=63)<;>rfl
  |cons y t=>
   have e2:decide ((((x::y::t).length:Int):Int)>1)=true:=by simp;omega
   rw[e2];cases decide ((x.toNat:Int)=63)<;>simp
theorem Ja(a:Bytes)(ha:a.length<=1048576):eb a=some (jz a):=by
 unfold eb jz;rw[JO a ha,Jb a ha];cases nr a<;>simp
theorem Im(a:Bytes)(ha:a.length<=1048576):eZ a=some (jz a):=by
 unfold eZ jz;rw[Ic a ha,Px a ha];cases nr a<;>simp
theorem Nw(l:aC)(h:l.length<=1099511627776):jx l=some l:=by
 unfold jx;rw[Me h (by decide)];rfl
theorem Nu(a b:aC):jy a b=some (decide (a=b)):=by
 unfold jy;exact UB (c:=tx) (f:=fun x y=>some (x==y)) (fun k=>gU a b k) (fun _ _=>rfl) (fun _ _ _ _=>rfl) (fun x y=>by rw[aQ,bO];simp)
theorem Gt(l:aC)(v:Bytes):dW l v=some (l.contains v):=by
 unfold dW;have:∀(r:aC) (i:Nat),fE l v (some false) r i=some (r.contains v):=by
  intro r
  induction r with
  |nil=>intro i;rfl
  |cons x r ih=>
   intro i;rw[fE,ih,List.contains_cons];have:(x==v)=(v==x):=by rw[bO,bX,bX];exact eq_comm
   rw[this];cases v==x<;>rfl
 exact this l 0
theorem Km(l:aC)(v:Bytes):gH l v=some (l.contains v):=by
 unfold gH;have:∀(r:aC) (i:Nat),gI l v (some false) r i=some (r.contains v):=by
  intro r
  induction r with
  |nil=>intro i;rfl
  |cons x r ih=>
   intro i;rw[gI,ih,List.contains_cons];have:(x==v)=(v==x):=by rw[bO,bX,bX];exact eq_comm
   rw[this];cases v==x<;>rfl
 exact this l 0
theorem Mj(a:aC)(s:Bytes)(k:Bool->aC->Option aC):∀(l:aC) (i:Nat) (w:aC),w.length+l.length<1099511627776->
 cV a s k l i true w=k true (w++l):=by
 intro l
 induction l with
 |nil=>intro i w _;simp[cV]
 |cons x xs ih=>
  intro i w h;simp only[aR]at h;rw[cV,bB,aP,oo (by omega) (by decide),aK,ih _ _ (by simp;omega)];simp
theorem QX(a:aC)(s:Bytes)(k:Bool->aC->Option aC)(hk:∀w,w.length<1099511627776->k false w=some (w++[s]))(hk2:∀w,k true w=some w):∀(l:aC) (i:Nat) (w:aC),w.length+l.length+1<1099511627776->
 cV a s k l i false w=some (w++oS l s):=by
 intro l
 induction l with
 |nil=>intro i w h;rw[cV,hk w (by omega)];rfl
 |cons x xs ih=>
  intro i w h;simp only[aR]at h;rw[cV,fI,aK,oS];cases Op.bytesLess x s with
  |true=>
   simp only[bB,aP,aK];rw[oo (by omega) (by decide),aK,ih _ _ (by simp;omega)];simp
  |false=>
   simp only[fI,aK,aP];cases x==s with
   |true=>
    simp only[bB,aP,aK];rw[oo (by omega) (by decide),aK,Mj _ _ _ _ _ _ (by simp;omega),hk2];simp
   |false=>
    simp only[fI,aK,aP];rw[oo (by omega) (by decide),aK];have e:room (((w.map tx)++[[D.str s]]).length+([[D.str x]]).length) 16=true:=Bj (by simp;omega) (by decide);rw[e,aK,Mj _ _ _ _ _ _ (by simp;omega),hk2];simp
theorem F4(l:aC)(s:Bytes)(h:l.length+1<1099511627776):gM l s=some (oS l s):=by
 unfold gM;rw[QX l s _ (fun w hw=>by simp only[fI,aK];rw[oo hw (by decide)];rfl) (fun w=>by simp) l 0 [] (by simpa using h)];rfl
def dd:Option Bytes->aC->aC
 |_,[]=>[]
 |p,x::xs=>if p=some x then dd (some x) xs else x::dd (some x) xs
theorem EQ:∀ {l:aC} {p:Option Bytes} {y:Bytes},y∈dd p l->y∈l
 | [],p,y,h=>by cases h
 |x::xs,p,y,h=>by
  simp only[dd]at h;split at h
  ·exact aY.2 (.inr (EQ h))
  ·rcases aY.1 h with rfl|h
   ·simp
   ·exact aY.2 (.inr (EQ h))
theorem J0:∀ {l:aC} {p:Option Bytes} {y:Bytes},y∈l->p=some y\/y∈dd p l
 |x::xs,p,y,h=>by
  simp only[dd];rcases aY.1 h with rfl|h
  ·by_cases hp:p=some y
   ·exact .inl hp
   ·rw[ar hp];exact .inr (by simp)
  ·have:=J0 (p:=some x) h;split
   ·rename_i hp;rcases this with e|e
    ·exact .inl (hp.trans e)
    ·exact .inr e
   ·rcases this with e|e
    ·cases e;exact .inr (by simp)
    ·exact .inr (by simp[e])
theorem Lr:∀ {l:aC} {p:Option Bytes},l.Pairwise (fun a b=>Op.bytesLess b a=false)->(∀q,p=some q->∀y∈l,Op.bytesLess y q=false)->SS (dd p l)/\∀q,p=some q->∀y∈dd p l,Op.bytesLess q y=true
 | [],p,_,_=>⟨by simp[dd,SS],by simp[dd]⟩
 |x::xs,p,h,hp=>by
  obtain⟨p1,p2⟩:=gm.1 h;obtain⟨i1,i2⟩:=Lr (l:=xs) (p:=some x) p2 (fun q hq y hy=>by cases hq;exact p1 y hy);simp only[dd];split
  ·rename_i he;exact⟨i1,fun q hq y hy=>by rw[he]at hq;cases hq;exact i2 x rfl y hy⟩
  ·rename_i he;refine⟨gm.2 ⟨fun y hy=>i2 x rfl y hy,i1⟩,fun q hq y hy=>?_⟩;have TN:Op.bytesLess q x=true:=by
    cases hc:Op.bytesLess q x with
    |true=>rfl
    |false=>exact absurd (by rw[hq,AD hc (hp q hq x (by simp))]) he
   rcases aY.1 hy with rfl|hy
   ·exact TN
   ·exact tu TN (i2 x rfl y hy)
theorem Jd(l:aC):iV l=l.mergeSort (fun x y=> !Op.bytesLess y x):=by
 unfold iV
 congr 1
 funext x y
 rw[Go.Proofs.bytesLess_eq];rw[bO];simp[List.not_lt]
theorem Ci(l:aC):(iV l).Pairwise (fun a b=>Op.bytesLess b a=false):=by
 rw[Jd];have:=List.pairwise_mergeSort (le:=fun x y=> !Op.bytesLess y x) (fun a b c h1 h2=>by
  simp only[kz]at h1 h2⊢;cases hc:Op.bytesLess c a with
  |false=>rfl
  |true=>
   cases hb:Op.bytesLess b a with
   |true=>rw[h1]at hb;cases hb
   |false=>
    cases EF:Op.bytesLess a b with
    |true=>have:=tu hc EF;rw[h2]at this;cases this
    |false=>have:=AD hb EF;subst this;rw[h2]at hc;cases hc) (fun a b=>by
  cases hc:Op.bytesLess b a with
  |false=>simp
  |true=>simp[AB hc]) l
 exact this.imp (fun h=>by simpa using h)
theorem KX(l:aC):dd none (iV l)=dB l:=by
 refine yK (Lr (Ci l) (by simp)).1 (Ao l) (fun x=>?_);rw[mq];have hm:x∈iV l↔x∈l:=(qP l).mem_iff;constructor
 ·intro h;exact hm.1 (EQ h)
 ·intro h;rcases J0 (p:=none) (hm.2 h)with h|h
  ·cases h
  ·exact h
theorem Il(a:aC)(k:aC->Option aC)(ha:a.length<=1099511627775):∀(rest pre:aC) (w:aC),iV ([]++a)=pre++rest->w.length+rest.length<=1099511627775->
 cM a k rest pre.length w=k (w++dd pre.getLast? rest):=by
 have hlen:(iV ([]++a)).length=a.length:=(qP _).length_eq;intro rest
 induction rest with
 |nil=>intro pre w _ _;simp[cM,dd]
 |cons x xs ih=>
  intro pre w h hw;simp only[aR]at hw;have hl:pre.length+(xs.length+1)=a.length:=by rw[<-hlen,h];simp
  have t:=fun w'=>ih (pre++[x]) w' (by rw[h];simp)
  simp only[af,aR,bC,List.getLast?_concat]at t;rw[cM];rcases List.eq_nil_or_concat pre with rfl|⟨p,z,R3⟩
  ·have e0:(((([]:aC).length:Int):Int)==0)=true:=rfl;rw[e0,aK,oo (by omega) (by decide),aK,t _ (by simp;omega)];simp[dd]
  ·rw[List.concat_eq_append]at R3;subst R3;have e0:((((p++[z]).length:Int):Int)==0)=false:=by simp;omega
   have e1:IntKind.i64.wrap (((p++[z]).length:Int)-1)=(p.length:Int):=by
    rw[mB (nM.i64.2 (by simp at hl⊢;omega))];simp
   have e2:k8 (iV ([]++a)) (p.length:Int)=some z:=C5 (xs:=x::xs) (by rw[h];simp);rw[e0,aP,e1,e2,aA];simp only[dd,List.getLast?_concat];by_cases hz:z=x
   ·subst hz;have e3:((z:Bytes)==z)=true:=by simp
    rw[e3,bB,aP,t _ (by omega),bG rfl]
   ·have e3:((z:Bytes)==x)=false:=by simpa using hz
    rw[e3,fI,aK,oo (by omega) (by decide),aK,t _ (by simp;omega),ar (by simpa using hz)];simp
theorem CK(l:aC)(h:l.length<1099511627775):fS l=some (dB l):=by
 have hlen:(iV ([]++l)).length=l.length:=(qP _).length_eq;unfold fS;have e1:decide ((([]:aC)++l).length<4611686018427387904)=true:=by simp;omega
 rw[Me (by omega) (by decide),aK,e1,aK,um (by rw[hlen];omega),aK];have:=Il l (fun q=>some q) (by omega) (iV ([]++l)) [] [] rfl (by rw[hlen];simp;omega);rw[show([]:aC).length=0 from rfl]at this;rw[this,<-KX];simp
end Go.Cx
namespace Go.Cx
open Go.RowKit Go.Proofs Tryz
theorem bE.JH{p:bE}{n:Nat}(h:p.wt<=n):p.rel.length<=n:=by unfold bE.wt tw at h;omega
theorem bE.nB{p:bE}{n:Nat}(h:p.wt<=n):p.args.length<=n:=by unfold bE.wt at h;have:=Lf tw p.args;omega
theorem bE.yL{p:bE}{n:Nat}(h:p.wt<=n){x:Bytes}(hx:x∈p.args):x.length<=n:=by unfold bE.wt at h;have:=Co (w:=tw) hx;have e:tw x=x.length:=rfl;omega
theorem aU.ia{c:aU}{n:Nat}(h:c.wt<=n):c.pat.wt<=n:=by simp only[aU.wt,bE.wt]at h⊢;omega
theorem aU.zo{c:aU}{n:Nat}(h:c.wt<=n):c.left.length<=n:=by simp only[aU.wt,tw]at h;omega
theorem aU.xk{c:aU}{n:Nat}(h:c.wt<=n):c.right.length<=n:=by simp only[aU.wt,tw]at h;omega
theorem Action.ia{c:Action}{n:Nat}(h:c.wt<=n):c.pat.wt<=n:=by simp only[Action.wt,bE.wt]at h⊢;omega
theorem aW.Fx{r:aW}{n:Nat}(h:r.wt<=n):r.name.length<=n:=by simp only[aW.wt,tw]at h;omega
theorem aW.rN{r:aW}{n:Nat}(h:r.wt<=n):rp aU.wt r.conds<=n:=by simp only[aW.wt]at h;omega
theorem aW.FM{r:aW}{n:Nat}(h:r.wt<=n):rp Action.wt r.bg<=n:=by simp only[aW.wt]at h;omega
theorem aW.ni{r:aW}{n:Nat}(h:r.wt<=n){c:aU}(hc:c∈r.conds):c.wt<=n:=by have:=aW.rN h;have:=Co (w:=aU.wt) hc;omega
theorem aW.AA{r:aW}{n:Nat}(h:r.wt<=n){c:Action}(hc:c∈r.bg):c.wt<=n:=by have:=aW.FM h;have:=Co (w:=Action.wt) hc;omega
theorem Ik(a b:bE):gx a b=some (decide (a=b)):=by
 obtain⟨a0,a1⟩:=a;obtain⟨b0,b1⟩:=b;unfold gx;simp only[Nu,aA,lB];by_cases h0:a0=b0<;>by_cases h1:a1=b1<;>simp[h0,h1]
def o7(p:bE):Bool:=p.args.all jz&&(o6 p.rel&&decide ((p.args.length:Int)<=3))
theorem QW(f:bE)(h:f.wt<=1048576):ew f=some (o7 f):=by
 unfold ew;rw[KN (f:=eb) (L:=gV f _) (fun _=>rfl) (fun _ _ _=>rfl) f.args 0 (fun x hx=>Ja x (bE.yL h hx)),Mi _ (bE.JH h),aA,bL,o7];cases f.args.all jz<;>cases o6 f.rel<;>rfl
theorem Ij(f:bE)(h:f.wt<=1048576):eD f=some (o7 f):=by
 unfold eD;rw[KN (f:=eZ) (L:=gT f _) (fun _=>rfl) (fun _ _ _=>rfl) f.args 0 (fun x hx=>Im x (bE.yL h hx)),M7 _ (bE.JH h),aA,bL,o7];have c:decide ((f.args.length:Int)<=3)= !decide ((f.args.length:Int)>3):=by rw[bO];simp
 rw[c];cases f.args.all jz<;>cases o6 f.rel<;>cases decide ((f.args.length:Int)>3)<;>rfl
def fF(l:aC):aC:=l.filter tV
theorem mw(l:aC):(fF l).length<=l.length:=List.length_filter_le _ _
theorem Bt(a b:aC):fF (a++b)=fF a++fF b:=List.filter_append _ _
theorem xp(p:bE)(h:p.wt<=1048576):iG p=some (dB (fF p.args)):=by
 unfold iG;have:∀(r:aC) (i:Nat) (w:aC),(∀x∈r,x.length<=1048576)->w.length+r.length<=2097152->fq p (fun q=>some q) r i w=some ((fF r).foldl oS w):=by
  intro r
  induction r with
  |nil=>intro i w _ _;rfl
  |cons x r ih=>
   intro i w hr hw;simp only[aR]at hw;have hl:=qM w x;rw[fq,Jb x (hr x (by simp)),aA,F4 w x (by omega),aA,ih _ _ (fun y hy=>hr y (by simp[hy])) (by omega),ih _ _ (fun y hy=>hr y (by simp[hy])) (by omega)];cases hv:tV x<;>simp[fF,hv]
 exact this p.args 0 [] (fun x hx=>bE.yL h hx) (by have:=bE.nB h;simp;omega)
theorem Io(l:aC)(hl:l.length<=2097152)(h:∀x∈l,x.length<=1048576):gz l=some (fF l):=by
 unfold gz;have:∀(r:aC) (i:Nat) (w:aC),(∀x∈r,x.length<=1048576)->w.length+r.length<=2097152->dJ l (fun q=>some q) r i w=some (w++fF r):=by
  intro r
  induction r with
  |nil=>intro i w _ _;simp[dJ,fF]
  |cons x r ih=>
   intro i w hr hw;simp only[aR]at hw;rw[dJ,Px x (hr x (by simp)),aA,oo (by omega) (by decide),ih _ _ (fun y hy=>hr y (by simp[hy])) (by simp;omega),ih _ _ (fun y hy=>hr y (by simp[hy])) (by omega)];cases hv:tV x<;>simp[fF,hv]
 exact this l 0 [] h (by simpa using hl)
def jv(c:aU):aC:=fF (c.pat.args++[c.left,c.right])
theorem nS{c:aU}{n:Nat}(h:c.wt<=n):(jv c).length<=n+2:=by
 have h1:=mw (c.pat.args++[c.left,c.right]);have h2:=bE.nB (aU.ia h);simp only[af,aR,bC]at h1;unfold jv;omega
theorem F3(c:aU)(h:c.wt<=1048576):gX c=some (dB (jv c)):=by
 unfold gX;have h1:=bE.nB (aU.ia h);have h2:=jT (fF c.pat.args);have h3:=mw c.pat.args;have h4:=qM (dB (fF c.pat.args)) c.left;rw[xp _ (aU.ia h),aA,Jb _ (aU.zo h),aA,Jb _ (aU.xk h)];simp only[aA];rw[F4 _ _ (by omega),F4 _ _ (by omega),aA,F4 _ _ (by omega)];simp only[aA,jv,Bt,FD];cases hl:tV c.left<;>cases hr:tV c.right<;>simp[fF,hl,hr]
theorem Nv(c:aU)(h:c.wt<=1048576):lR c=some (c.pat.args++[c.left,c.right]):=by
 unfold lR;have h1:=bE.nB (aU.ia h);rw[Nw _ (by omega),aA];rw[Bj (by simp;omega) (by decide)];rfl
theorem Ek(c:aU)(h:c.wt<=1048576):iX c=some (dB (jv c)):=by
 unfold iX;have h1:=bE.nB (aU.ia h);have h5:=nS h;rw[Nv c h,aA,Io _ (by simp;omega) (fun x hx=>by
  simp only[aF,aY,dR,lI]at hx;rcases hx with hx|rfl|rfl
  ·exact bE.yL (aU.ia h) hx
  ·exact aU.zo h
  ·exact aU.xk h),aA]
 rw[show fF (c.pat.args++[c.left,c.right])=jv c from rfl,CK _ (by omega)];rfl
def vF(p:bE):Bool:=p.rel==[]&&decide ((p.args.length:Int)=0)
def jL(c:aU):Bool:=bif decide (c.kind=1)||decide (c.kind=2)then o7 c.pat&&(c.left==[]&&c.right==[])else bif decide (c.kind=3)||decide (c.kind=4)||decide (c.kind=5)then vF c.pat&&(jz c.left&&jz c.right)else false
def G4(c:aU):Bool:=jL c&&decide (c.kind>=3)
theorem sE{c:aU}(h:jL c=true):1<=c.kind/\c.kind<=5:=by
 unfold jL at h;by_cases h1:c.kind=1
 ·omega
 by_cases h2:c.kind=2
 ·omega
 by_cases h3:c.kind=3
 ·omega
 by_cases h4:c.kind=4
 ·omega
 by_cases h5:c.kind=5
 ·omega
 simp[h1,h2,h3,h4,h5]at h
theorem Mh(c:aU)(h:c.wt<=1048576):jg c=some (jL c):=by
 unfold jg jL vF;simp only[QW _ (aU.ia h),Ja _ (aU.zo h),Ja _ (aU.xk h),aA,bL,lB];by_cases h1:c.kind=1
 ·simp only[h1];cases o7 c.pat<;>cases decide (c.left=[])<;>simp
 by_cases h2:c.kind=2
 ·simp only[h2];cases o7 c.pat<;>cases decide (c.left=[])<;>simp
 by_cases h3:c.kind=3
 ·simp only[h3];cases decide (c.pat.rel=[])<;>cases decide ((c.pat.args.length:Int)=0)<;>cases jz c.left<;>simp
 by_cases h4:c.kind=4
 ·simp only[h4];cases decide (c.pat.rel=[])<;>cases decide ((c.pat.args.length:Int)=0)<;>cases jz c.left<;>simp
 by_cases h5:c.kind=5
 ·simp only[h5];cases decide (c.pat.rel=[])<;>cases decide ((c.pat.args.length:Int)=0)<;>cases jz c.left<;>simp
 simp[h1,h2,h3,h4,h5]
theorem M9(p:bE):eV p=some (vF p):=by
 unfold eV vF;simp only[bL,lB];cases decide (p.rel=[])<;>rfl
theorem Ig(c:aU)(h:c.wt<=1048576):gA c=some (jL c):=by
 unfold gA jL;simp only[Ij _ (aU.ia h),Im _ (aU.zo h),Im _ (aU.xk h),M9,aA,lB];by_cases h1:c.kind=1
 ·simp only[h1];cases o7 c.pat<;>cases decide (c.left=[])<;>simp
 by_cases h2:c.kind=2
 ·simp only[h2];cases o7 c.pat<;>cases decide (c.left=[])<;>simp
 by_cases h3:c.kind=3
 ·simp only[h3];cases vF c.pat<;>cases jz c.left<;>cases jz c.right<;>simp
 by_cases h4:c.kind=4
 ·simp only[h4];cases vF c.pat<;>cases jz c.left<;>cases jz c.right<;>simp
 by_cases h5:c.kind=5
 ·simp only[h5];cases vF c.pat<;>cases jz c.left<;>cases jz c.right<;>simp
 simp[h1,h2,h3,h4,h5]
theorem Mk(c:aU)(h:c.wt<=1048576):kn c=some (G4 c):=by
 unfold kn G4;rw[Mh c h];cases jL c<;>rfl
theorem Nt(a b:aU):kT a b=some (decide (a=b)):=by
 obtain⟨a0,a1,a2,a3⟩:=a;obtain⟨b0,b1,b2,b3⟩:=b;unfold kT;simp only[Ik,aA,lB];by_cases h0:a0=b0<;>by_cases h1:a1=b1<;>by_cases h2:a2=b2<;>by_cases h3:a3=b3<;>simp[h0,h1,h2,h3]
def qc(a:Action):Bool:=bif decide (a.kind=1)||decide (a.kind=2)then o7 a.pat else bif decide (a.kind=3)then vF a.pat else false
theorem Su(a:Action)(h:a.wt<=1048576):kV a=some (qc a):=by
 unfold kV qc vF;simp only[QW _ (Action.ia h),aA,bL,lB];by_cases h1:a.kind=1
 ·simp[h1]
 by_cases h2:a.kind=2
 ·simp[h2]
 by_cases h3:a.kind=3
 ·simp only[h3];cases decide (a.pat.rel=[])<;>simp
 simp[h1,h2,h3]
theorem Pq(a:Action)(h:a.wt<=1048576):jP a=some (qc a):=by
 unfold jP qc;simp only[Ij _ (Action.ia h),M9,aA,lB];by_cases h1:a.kind=1
 ·simp[h1]
 by_cases h2:a.kind=2
 ·simp[h2]
 by_cases h3:a.kind=3
 ·simp[h3]
 simp[h1,h2,h3]
end Go.Cx

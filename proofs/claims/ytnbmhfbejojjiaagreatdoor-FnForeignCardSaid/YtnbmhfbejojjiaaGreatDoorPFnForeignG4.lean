/- What functions of the program compute, and the walks that show it. No condition. -/
import Derived.Test.YtnbmhfbejojjiaaGreatDoorPFnForeignG3
set_option linter.unusedVariables false
set_option linter.unusedSimpArgs false
namespace Go.Cx
open Go.RowKit Go.Proofs Tryz
set_option maxRecDepth 100000
variable{Γ:ul}{N:Nat->St->Prop}
def ny(aB:bJ)(k1:Int->Option cj):bJ->Nat->Int->Option cj
 | [],i1,mK=>(k1 mK)
 |bU::cO,i1,mK=>(bif decide (((i1:Int):Int)<4000)then(ny aB k1 cO (i1+1) (GL .i64 (IntKind.i64.wrap ((IntKind.i64.wrap ((IntKind.i64.wrap (mK*167))+(IntKind.i64.wrap bU)))+29)) 1073741823))else(k1 mK))
def wL(aB:bJ):Option cj:=(bif decide (aB.length<=maxLen)then(ny aB (fun(Yu:Int)=>(some (⟨aB,0,Yu⟩:cj))) aB 0 (IntKind.i64.wrap (851207+(IntKind.i64.wrap (3*((aB.map yx).length:Int))))))else none)
def Ky(aB:bJ)(mK:Int)(dQ:Int):St:=⟨[(0,D.sl (aB.map yx)),(3,D.int .i64 mK),(4,D.int .i64 dQ)],[]⟩
theorem Jq(hΓ:Γ.nt=33){aB:bJ}{r:cj}{k1:Int->Option cj}(eF:∀(Yu:Int),k1 Yu=some r->Ax Γ N f45 (.n (cj.c r)) [1,1,1] ⟨[(0,D.sl (aB.map yx)),(3,D.int .i64 Yu)],[]⟩)(hm1:aB.length<=maxLen):∀(rest:bJ) (i1:Nat) (mK:Int),aB.drop i1=rest->ny aB k1 rest i1 mK=some r->Ar Γ N f45 (.n (cj.c r)) [1,1,0,1,0] (rest.length+1) (Ky aB mK (i1:Int)):=by
 intro rest
 induction rest with
 |nil=>
  intro i1 mK b8 h;rw[ny]at h;refine aU fun N1 cc cL=>?_
  exact(((((aW.ge yx b8).ge yx b8).ge yx b8).F 1).a [.hl 0 [0,3] []]).ex hΓ cc (eF mK h)
 |cons bU cO ih1=>
  intro i1 mK b8 h;rw[ny]at h;refine aU fun N1 cc cL=>?_
  have pW:=(((aW.lt yx b8).lt yx b8).lt yx b8)
  obtain⟨h13,h⟩|⟨h13,h⟩:=aO h
  ·exact(((pW.b h13).l (bO yx 1 (dc b8) rfl)).a [.cn [0,3,4] []]).ct hΓ cL (iS b8 hm1) (ih1 (i1+1) (GL .i64 (IntKind.i64.wrap ((IntKind.i64.wrap ((IntKind.i64.wrap (mK*167))+(IntKind.i64.wrap bU)))+29)) 1073741823) (dn b8) h)
  ·exact((pW.b h13).a [.hl 0 [0,3] []]).ex hΓ cc (eF mK h)
theorem IX{aB:bJ}{r:cj}(h:wL aB=some r):Hy prog 45 [D.sl (aB.map yx)] (cj.c r):=by
 refine gdN func45 33 fun hr Γ hΓ=>?_
 rw[wL]at h;obtain⟨h14,h⟩:=bX h;refine(aW.a [.cn [0,3,4] []]).lp hΓ (Jq hΓ (fun Yu h=>?_) (bY h14) aB 0 (IntKind.i64.wrap (851207+(IntKind.i64.wrap (3*((aB.map yx).length:Int))))) rfl h);cases h;exact aW.ret hΓ
def oS(aB:cj):Option (cj×Int):=(bif decide ((aB.i:Int)<((aB.b.map yx).length:Int))then((hO aB.b aB.i).bind fun x2=>(some ((⟨aB.b,IntKind.i64.wrap (aB.i+1),IntKind.i64.wrap ((IntKind.i64.wrap (aB.h*6364136223846793005))+1442695040888963407)⟩:cj),GL .i64 (IntKind.i64.wrap ((GL .i64 (TD .i64 (R8 .i64 (IntKind.i64.wrap ((IntKind.i64.wrap (aB.h*6364136223846793005))+1442695040888963407)) 35) (R8 .i64 (IntKind.i64.wrap ((IntKind.i64.wrap (aB.h*6364136223846793005))+1442695040888963407)) 45)) 255)+(IntKind.i64.wrap x2))) 255)))else(some ((⟨aB.b,aB.i,IntKind.i64.wrap ((IntKind.i64.wrap (aB.h*6364136223846793005))+1442695040888963407)⟩:cj),GL .i64 (TD .i64 (R8 .i64 (IntKind.i64.wrap ((IntKind.i64.wrap (aB.h*6364136223846793005))+1442695040888963407)) 35) (R8 .i64 (IntKind.i64.wrap ((IntKind.i64.wrap (aB.h*6364136223846793005))+1442695040888963407)) 45)) 255)))
theorem ru{aB:cj}{r:cj×Int}(h:oS aB=some r):kA prog 153 (cj.c aB) (cj.c r.1) [] (D.int .i64 r.2):=by
 refine Lx func153 [[none,none,none],[none]] 58 [D.sl (aB.b.map yx),D.int .i64 aB.i,D.int .i64 aB.h] [] [] fun hr kn Γ hΓ=>?_
 rw[oS]at h;obtain⟨h1,h⟩|⟨h1,h⟩:=aO h
 ·obtain⟨x2,h3,h⟩:=aC h;cases h;exact((((aW.a [.n 10,.n 9]).b h1).a [.n 12]).l (gq yx 1 h3 rfl)).ret hΓ
 ·cases h;exact((aW.a [.n 10,.n 9]).b h1).ret hΓ
def di(aB:cj)(aY:Int):Option (cj×Int):=(bif decide ((aY:Int)<=0)then(some (aB,0))else(bif decide ((aY:Int)<=256)then((oS aB).bind fun y3=>(bif decide (0<=(y3.2:Int))&&decide (0<(aY:Int))then(some (y3.1,(y3.2:Int)%aY))else none))else((oS aB).bind fun y6=>((oS y6.1).bind fun y8=>((oS y8.1).bind fun GG=>(bif decide (0<=(IntKind.i64.wrap ((IntKind.i64.wrap ((IntKind.i64.wrap (y6.2*65536))+(IntKind.i64.wrap (y8.2*256))))+GG.2):Int))&&decide (0<(aY:Int))then(some (GG.1,(IntKind.i64.wrap ((IntKind.i64.wrap ((IntKind.i64.wrap (y6.2*65536))+(IntKind.i64.wrap (y8.2*256))))+GG.2):Int)%aY))else none))))))
theorem dV{aB:cj}{aY:Int}{r:cj×Int}(h:di aB aY=some r):kA prog 93 (cj.c aB) (cj.c r.1) [D.int .i64 aY] (D.int .i64 r.2):=by
 refine Lx func93 [[none,none,none],[none]] 31 [D.sl (aB.b.map yx),D.int .i64 aB.i,D.int .i64 aB.h] [D.int .i64 aY] [] fun hr kn Γ hΓ=>?_
 rw[di]at h;obtain⟨h1,h⟩|⟨h1,h⟩:=aO h
 ·cases h;exact(aW.b h1).ret hΓ
 ·obtain⟨h2,h⟩|⟨h2,h⟩:=aO h
  ·obtain⟨y3,h4,h⟩:=aC h;obtain⟨h5,h⟩:=bX h;cases h;exact((((aW.b h1).b h2).hp [[none,none,none]] (ru h4)).w (PA .i64 h5)).ret hΓ
  ·obtain⟨y6,h7,h⟩:=aC h;obtain⟨y8,h9,h⟩:=aC h;obtain⟨GG,h11,h⟩:=aC h;obtain⟨h12,h⟩:=bX h;cases h;exact((((((aW.b h1).b h2).hp [[none,none,none]] (ru h7)).hp [[none,none,none]] (ru h9)).hp [[none,none,none]] (ru h11)).w (PA .i64 h12)).ret hΓ
def qW(aB:cj)(aY:Int):Option (cj×Bool):=((di aB aY).bind fun y1=>(some (y1.1,(y1.2:Int)==0)))
theorem p7{aB:cj}{aY:Int}{r:cj×Bool}(h:qW aB aY=some r):kA prog 90 (cj.c aB) (cj.c r.1) [D.int .i64 aY] (D.bool r.2):=by
 refine Lx func90 [[none,none,none],[none]] 9 [D.sl (aB.b.map yx),D.int .i64 aB.i,D.int .i64 aB.h] [D.int .i64 aY] [] fun hr kn Γ hΓ=>?_
 rw[qW]at h;obtain⟨y1,h2,h⟩:=aC h;cases h;exact(aW.hp [[none,none,none],[none]] (dV h2)).ret hΓ
def nC(aB:cj):Option (cj×(Bytes×Int)):=((di aB 6).bind fun y1=>((hO ([[111,110],[111,110],[97,116],[112],[113],[122]]:aG) y1.2).bind fun x3=>((hO ([2,2,2,1,1,0]:bJ) y1.2).bind fun x5=>(some (y1.1,(x3,x5))))))
theorem AY{aB:cj}{r:cj×(Bytes×Int)}(h:nC aB=some r):kA prog 156 (cj.c aB) (cj.c r.1) [] (D.iE [D.str r.2.1,D.int .i64 r.2.2]):=by
 refine Lx func156 [[none,none,none],[none],[none]] 15 [D.sl (aB.b.map yx),D.int .i64 aB.i,D.int .i64 aB.h] [] [] fun hr kn Γ hΓ=>?_
 rw[nC]at h;obtain⟨y1,h2,h⟩:=aC h;obtain⟨x3,h4,h⟩:=aC h;obtain⟨x5,h6,h⟩:=aC h;cases h;exact(((((aW.hp [[none,none,none],[none]] (dV h2)).a [.n 9,.vw 0]).l (gq tx 1 h4 rfl)).a [.vw 0]).l (gq jf 1 h6 rfl)).ret hΓ
def uI(aB:cj)(aY:aG):Option (cj×Bytes):=((di aB ((aY.map tx).length:Int)).bind fun y1=>((hO aY y1.2).bind fun x3=>(some (y1.1,x3))))
theorem AX{aB:cj}{aY:aG}{r:cj×Bytes}(h:uI aB aY=some r):kA prog 192 (cj.c aB) (cj.c r.1) [D.fr 9 1 (aY.map tx)] (D.str r.2):=by
 refine Lx func192 [[none,none,none],[none]] 12 [D.sl (aB.b.map yx),D.int .i64 aB.i,D.int .i64 aB.h] [D.acc 1] [Ob.row .uq 9 1 (aY.map tx)] fun hr kn Γ hΓ=>?_
 rw[uI]at h;obtain⟨y1,h2,h⟩:=aC h;obtain⟨x3,h4,h⟩:=aC h;cases h;exact(((aW.hp [[none,none,none],[none]] (dV h2)).i (iG tx 1 h4)).o 1 1 .uq (cV tx (fG h4))).ret hΓ
def iv(aB:cj):Option (cj×Bytes):=((uI aB ([[97],[98],[99],[49],[50]]:aG)).bind fun y1=>(some (y1.1,y1.2)))
theorem vO{aB:cj}{r:cj×Bytes}(h:iv aB=some r):kA prog 157 (cj.c aB) (cj.c r.1) [] (D.str r.2):=by
 refine Lx func157 [[none,none,none],[none]] 6 [D.sl (aB.b.map yx),D.int .i64 aB.i,D.int .i64 aB.h] [] [] fun hr kn Γ hΓ=>?_
 rw[iv]at h;obtain⟨y1,h2,h⟩:=aC h;cases h;exact(aW.hp [[none,none,none],[some (9,1)]] (AX h2)).ret hΓ
def oU(aB:cj):Option (cj×Bytes):=((qW aB 4).bind fun y1=>(bif y1.2 then((iv y1.1).bind fun y4=>(some (y4.1,y4.2)))else((uI y1.1 ([[63,120],[63,121],[63,122]]:aG)).bind fun y6=>(some (y6.1,y6.2)))))
theorem vQ{aB:cj}{r:cj×Bytes}(h:oU aB=some r):kA prog 238 (cj.c aB) (cj.c r.1) [] (D.str r.2):=by
 refine Lx func238 [[none,none,none],[none]] 10 [D.sl (aB.b.map yx),D.int .i64 aB.i,D.int .i64 aB.h] [] [] fun hr kn Γ hΓ=>?_
 rw[oU]at h;obtain⟨y1,h2,h⟩:=aC h;obtain⟨h3,h⟩|⟨h3,h⟩:=aO h
 ·obtain⟨y4,h5,h⟩:=aC h;cases h;exact(((aW.hp [[none,none,none],[none]] (p7 h2)).b h3).hp [[none,none,none]] (vO h5)).ret hΓ
 ·obtain⟨y6,h7,h⟩:=aC h;cases h;exact(((aW.hp [[none,none,none],[none]] (p7 h2)).b h3).hp [[none,none,none],[some (9,1)]] (AX h7)).ret hΓ
def gK(y1:cj×(Bytes×Int))(k1:bJ->Int->Int->aG->Option (cj×aD)):Nat->Int->bJ->Int->Int->aG->Option (cj×aD)
 |0,_,_,_,_,_=>none
 |n1+1,dP,eR,dH,dJ,cz=>(bif decide ((dP:Int)<y1.2.2)then((oU (⟨eR,dH,dJ⟩:cj)).bind fun yU=>(bif room ((cz.map tx).length+([[D.str yU.2]]).length) 16 then(gK y1 k1 n1 (IntKind.i64.wrap (dP+1)) yU.1.b yU.1.i yU.1.h (cz++([yU.2])))else none))else(k1 eR dH dJ cz))
def gx(aB:cj):Option (cj×aD):=((nC aB).bind fun y1=>(gK y1 (fun(ke:bJ) (kf:Int) (kj:Int) (fA:aG)=>(some ((⟨ke,kf,kj⟩:cj),(⟨y1.2.1,fA⟩:aD)))) fuel 0 y1.1.b y1.1.i y1.1.h ([]:aG)))
def BY(kn:Value)(y1:cj×(Bytes×Int))(dP:Int)(dH:Int)(dJ:Int)(W1:List aP)(W4:List aP):St:=⟨[(0,D.ptr 0 0),(2,D.ptr 1 0),(4,D.int .i64 y1.2.2),(5,D.ptr 2 0),(6,D.int .i64 dP)],[Ob.DU [D.sl W1,D.int .i64 dH,D.int .i64 dJ] kn,Ob.box [D.str ([]),D.nil],Ob.box [D.str y1.2.1,D.acc 3],Ob.row .uq 9 1 W4]⟩
theorem Ib(hΓ:Γ.nt=27){kn:Value}{y1:cj×(Bytes×Int)}{r:cj×aD}{k1:bJ->Int->Int->aG->Option (cj×aD)}(eF:∀(ke:bJ) (kf:Int) (kj:Int) (fA:aG),k1 ke kf kj fA=some r->Ax Γ N f218 (.p [[none,none,none],[none,some (9,1)]] kn (cj.c r.1) (D.agg [D.str r.2.rel,D.fr 9 1 (r.2.args.map tx)])) [1,1,1,1] ⟨[(2,D.ptr 1 0),(5,D.ptr 2 0)],[Ob.DU [D.sl (ke.map yx),D.int .i64 kf,D.int .i64 kj] kn,Ob.box [D.str ([]),D.nil],Ob.box [D.str y1.2.1,D.acc 3],Ob.row .uq 9 1 (fA.map tx)]⟩):∀(n1:Nat) (dP:Int) (eR:bJ) (dH:Int) (dJ:Int) (cz:aG),gK y1 k1 n1 dP eR dH dJ cz=some r->Ar Γ N f218 (.p [[none,none,none],[none,some (9,1)]] kn (cj.c r.1) (D.agg [D.str r.2.rel,D.fr 9 1 (r.2.args.map tx)])) [1,1,1,0,1,0] n1 (BY kn y1 dP dH dJ (eR.map yx) (cz.map tx)):=by
 intro n
 induction n with
 |zero=>intro dP eR dH dJ cz h;simp[gK]at h
 |succ n1 ih1=>
  intro dP eR dH dJ cz h;rw[gK]at h;refine aU fun N1 cc cL=>?_
  obtain⟨h27,h⟩|⟨h27,h⟩:=aO h
  ·obtain⟨yU,h31,h⟩:=aC h;obtain⟨h32,h⟩:=bX h;exact(((((aW.b h27).a [.n2 [0,1,2,3,4,5,6,7] [0,1,2,3,4,5,6,7] 3 5 [0,1] [0],.gp [[none,none,none]] (cj.c yU.1) (D.str yU.2)]).w (show kA prog 238 (cj.c (⟨eR,dH,dJ⟩:cj)) (cj.c yU.1) [] (D.str yU.2)from by simpa only[bG,av,bZ,bh,bn]using vQ h31)).w (bq h32)).a [.cn [0,2,4,5,6] [0,1,2,5]]).cs hΓ cL (BY kn y1 (IntKind.i64.wrap (dP+1)) yU.1.i yU.1.h (yU.1.b.map yx) ((cz.map tx)++([[D.str yU.2]]))) (by first| (simp only[mA]<;>rfl)| (simp only[mA,aD.c,aR.c,aL.c,Action.c,aK.c,aT.c,bS.c,aZ.c,Node.c,aI.c,dU.c]<;>rfl)) (ih1 (IntKind.i64.wrap (dP+1)) yU.1.b yU.1.i yU.1.h (cz++([yU.2])) h)
  ·exact((aW.b h27).a [.hl 0 [2,5] [0,1,2,3]]).ex hΓ cc (eF eR dH dJ cz h)
theorem p8{aB:cj}{r:cj×aD}(h:gx aB=some r):kA prog 218 (cj.c aB) (cj.c r.1) [] (D.agg [D.str r.2.rel,D.fr 9 1 (r.2.args.map tx)]):=by
 refine Lx func218 [[none,none,none],[none,some (9,1)]] 27 [D.sl (aB.b.map yx),D.int .i64 aB.i,D.int .i64 aB.h] [] [] fun hr kn Γ hΓ=>?_
 rw[gx]at h;obtain⟨y1,h2,h⟩:=aC h;refine((aW.hp [[none,none,none]] (AY h2)).a [.pb 2 1 9 1,.cn [0,2,4,5,6] [0,1,2,3]]).lp hΓ (Ib hΓ (fun ke kf kj fA h=>?_) fuel 0 y1.1.b y1.1.i y1.1.h ([]:aG) h);cases h;exact aW.ret hΓ
def s4(aB:cj)(aY:bJ):Option (cj×Int):=((di aB ((aY.map jf).length:Int)).bind fun y1=>((hO aY y1.2).bind fun x3=>(some (y1.1,x3))))
theorem AV{aB:cj}{aY:bJ}{r:cj×Int}(h:s4 aB aY=some r):kA prog 126 (cj.c aB) (cj.c r.1) [D.fr 3 1 (aY.map jf)] (D.int .i64 r.2):=by
 refine Lx func126 [[none,none,none],[none]] 12 [D.sl (aB.b.map yx),D.int .i64 aB.i,D.int .i64 aB.h] [D.acc 1] [Ob.row .uq 3 1 (aY.map jf)] fun hr kn Γ hΓ=>?_
 rw[s4]at h;obtain⟨y1,h2,h⟩:=aC h;obtain⟨x3,h4,h⟩:=aC h;cases h;exact(((aW.hp [[none,none,none],[none]] (dV h2)).i (iG jf 1 h4)).o 1 1 .uq (cV jf (fG h4))).ret hΓ
def sn(aB:cj)(aY:Bytes)(cT:Bytes):Option (cj×aL):=((s4 aB ([3,4,4,5]:bJ)).bind fun y1=>(some (y1.1,(⟨y1.2,(⟨[],[]⟩:aD),aY,cT⟩:aL))))
theorem HJ{aB:cj}{aY:Bytes}{cT:Bytes}{r:cj×aL}(h:sn aB aY cT=some r):kA prog 239 (cj.c aB) (cj.c r.1) [D.str aY,D.str cT] (D.agg [D.int .i64 r.2.kind,D.str r.2.pat.rel,D.fr 9 1 (r.2.pat.args.map tx),D.str r.2.left,D.str r.2.right]):=by
 refine Lx func239 [[none,none,none],[none,none,some (9,1),none,none]] 13 [D.sl (aB.b.map yx),D.int .i64 aB.i,D.int .i64 aB.h] [D.str aY,D.str cT] [] fun hr kn Γ hΓ=>?_
 rw[sn]at h;obtain⟨y1,h2,h⟩:=aC h;cases h;exact(aW.hp [[none,none,none],[some (3,1)]] (AV h2)).ret hΓ
def oV(aB:cj):Option (cj×aL):=((di aB 5).bind fun y1=>(bif (y1.2:Int)==0 then((gx y1.1).bind fun y4=>(some (y4.1,(⟨1,y4.2,[],[]⟩:aL))))else(bif (y1.2:Int)==1 then((gx y1.1).bind fun y7=>(some (y7.1,(⟨1,y7.2,[],[]⟩:aL))))else(bif (y1.2:Int)==2 then((gx y1.1).bind fun GG=>(some (GG.1,(⟨2,GG.2,[],[]⟩:aL))))else((oU y1.1).bind fun Pe=>((oU Pe.1).bind fun JM=>((sn JM.1 Pe.2 JM.2).bind fun NO=>(some (NO.1,NO.2)))))))))
theorem HH{aB:cj}{r:cj×aL}(h:oV aB=some r):kA prog 219 (cj.c aB) (cj.c r.1) [] (D.agg [D.int .i64 r.2.kind,D.str r.2.pat.rel,D.fr 9 1 (r.2.pat.args.map tx),D.str r.2.left,D.str r.2.right]):=by
 refine Lx func219 [[none,none,none],[none,none,some (9,1),none,none]] 24 [D.sl (aB.b.map yx),D.int .i64 aB.i,D.int .i64 aB.h] [] [] fun hr kn Γ hΓ=>?_
 rw[oV]at h;obtain⟨y1,h2,h⟩:=aC h;obtain⟨h3,h⟩|⟨h3,h⟩:=aO h
 ·obtain⟨y4,h5,h⟩:=aC h;cases h;exact(((aW.hp [[none,none,none],[none]] (dV h2)).r 2 h3).hp [[none,none,none]] (p8 h5)).ret hΓ
 ·have pW:=((aW.hp [[none,none,none],[none]] (dV h2)).b h3)
  obtain⟨h6,h⟩|⟨h6,h⟩:=aO h
  ·obtain⟨y7,h8,h⟩:=aC h;cases h;exact((pW.b h6).hp [[none,none,none]] (p8 h8)).ret hΓ
  ·obtain⟨h9,h⟩|⟨h9,h⟩:=aO h
   ·obtain⟨GG,h11,h⟩:=aC h;cases h;exact(((pW.b h6).b h9).hp [[none,none,none]] (p8 h11)).ret hΓ
   ·obtain⟨Pe,h13,h⟩:=aC h;obtain⟨JM,h15,h⟩:=aC h;obtain⟨NO,h17,h⟩:=aC h;cases h;exact(((((pW.b h6).b h9).hp [[none,none,none]] (vQ h13)).hp [[none,none,none]] (vQ h15)).hp [[none,none,none],[none],[none]] (HJ h17)).ret hΓ
def kU(aB:Int)(aY:Int)(cT:Int):Option Bool:=(bif decide ((aB:Int)>=aY)then(some (decide ((aB:Int)<=cT)))else(some false))
theorem gJ{aB:Int}{aY:Int}{cT:Int}{r:Bool}(h:kU aB aY cT=some r):Good prog 139 [D.int .i64 aB,D.int .i64 aY,D.int .i64 cT] (D.bool r):=by
 refine gd func139 [[none]] 15 fun hr Γ hΓ=>?_
 rw[kU]at h;obtain⟨h1,h⟩|⟨h1,h⟩:=aO h
 ·cases h;exact(aW.r 4 h1).ret hΓ
 ·have h:=aN h;subst h;exact(aW.r 4 h1).ret hΓ
def jB(aB:Bytes)(k1:Option Bool):Nat->Int->Option Bool
 |0,_=>none
 |n1+1,mK=>(bif decide ((mK:Int)<(aB.length:Int))then((hO aB mK).bind fun b29=>((kU (IntKind.i64.wrap b29.toNat) 97 122).bind fun Hp=>(bif !(Hp)then((kU (IntKind.i64.wrap b29.toNat) 48 57).bind fun F2=>(bif !(F2)then(some false)else(jB aB k1 n1 (IntKind.i64.wrap (mK+1)))))else(jB aB k1 n1 (IntKind.i64.wrap (mK+1))))))else(k1))
def fW(aB:Bytes):Option Bool:=(jB aB ((kU (aB.length:Int) 1 8).bind fun Mq=>(some Mq)) fuel 0)
def Jh(aB:Bytes)(mK:Int):St:=⟨[(0,D.str aB),(3,D.int .i64 mK)],[]⟩
theorem IL(hΓ:Γ.nt=27){aB:Bytes}{r:Bool}{k1:Option Bool}(eF:k1=some r->Ax Γ N f147 (.q [[none]] (D.bool r)) [1,1] ⟨[(0,D.str aB)],[]⟩):∀(n1:Nat) (mK:Int),jB aB k1 n1 mK=some r->Ar Γ N f147 (.q [[none]] (D.bool r)) [1,0,1,0] n1 (Jh aB mK):=by
 intro n
 induction n with
 |zero=>intro mK h;simp[jB]at h
 |succ n1 ih1=>
  intro mK h;rw[jB]at h;refine aU fun N1 cc cL=>?_
  obtain⟨h28,h⟩|⟨h28,h⟩:=aO h
  ·obtain⟨b29,h30,h⟩:=aC h;obtain⟨Hp,h32,h⟩:=aC h;have kp:=(((aW.b h28).c h30).g (gJ h32))
   obtain⟨h33,h⟩|⟨h33,h⟩:=aO h
   ·obtain⟨F2,h35,h⟩:=aC h;have ko:=(((((kp.r 3 h33).c h30).r 2 h33).g (gJ h35)).r 2 h33)
    obtain⟨h36,h⟩|⟨h36,h⟩:=aO h
    ·have h:=aN h;subst h;exact(ko.b h36).ret hΓ
    ·exact((ko.b h36).a [.cn [0,3] []]).cf hΓ cL (ih1 (IntKind.i64.wrap (mK+1)) h)
   ·exact(((kp.r 7 h33).F 1).a [.cn [0,3] []]).cf hΓ cL (ih1 (IntKind.i64.wrap (mK+1)) h)
  ·exact((aW.b h28).a [.hl 0 [0] []]).ex hΓ cc (eF h)
theorem er{aB:Bytes}{r:Bool}(h:fW aB=some r):Good prog 147 [D.str aB] (D.bool r):=by
 refine gd func147 [[none]] 27 fun hr Γ hΓ=>?_
 rw[fW]at h;refine(aW.a [.cn [0,3] []]).lp hΓ (IL hΓ (fun h=>?_) fuel 0 h);obtain⟨Mq,h38,h⟩:=aC h;have h:=aN h;subst h;exact(aW.g (gJ h38)).ret hΓ
def gi(aB:Bytes):Option Bool:=(bif decide (((aB.length:Int):Int)>1)then((hO aB 0).bind fun b2=>(bif (b2.toNat:Int)==63 then((xE aB.length (some (D.int .i64 1)) none).bind fun p=>(fun l5 u6=>((fW ((aB.take u6).drop l5)).bind fun y8=>(some y8))) p.1 p.2)else(some false)))else(some false))
theorem fN{aB:Bytes}{r:Bool}(h:gi aB=some r):Good prog 193 [D.str aB] (D.bool r):=by
 refine gd func193 [[none]] 16 fun hr Γ hΓ=>?_
 rw[gi]at h;obtain⟨h1,h⟩|⟨h1,h⟩:=aO h
 ·obtain⟨b2,h3,h⟩:=aC h;have pW:=(((aW.r 2 h1).c h3).r 2 h1)
  obtain⟨h4,h⟩|⟨h4,h⟩:=aO h
  ·obtain⟨⟨l5,u6⟩,h7,h⟩:=aC h;obtain⟨y8,h9,h⟩:=aC h;have h:=aN h;subst h;exact((((((pW.r 2 h4).w h7).a [.cut l5 u6]).b h4).g (er h9)).b h4).ret hΓ
  ·have h:=aN h;subst h;exact(pW.r 4 h4).ret hΓ
 ·have h:=aN h;subst h;exact((aW.r 4 h1).F 4).ret hΓ
def eX(aB:aG)(aY:Bytes)(k1:Bool->aG->Option aG):aG->Nat->Bool->aG->Option aG
 | [],i1,dP,bP=>(k1 dP bP)
 |bU::cO,i1,dP,bP=>(bif !(dP)then(bif !(Op.bytesLess bU aY)then(bif !((bU:Bytes)==aY)then(bif room ((bP.map tx).length+([[D.str aY]]).length) 16 then(bif room (((bP.map tx)++([[D.str aY]])).length+([[D.str bU]]).length) 16 then(eX aB aY k1 cO (i1+1) true ((bP++([aY]))++([bU])))else none)else none)else(bif room ((bP.map tx).length+([[D.str bU]]).length) 16 then(eX aB aY k1 cO (i1+1) true (bP++([bU])))else none))else(bif room ((bP.map tx).length+([[D.str bU]]).length) 16 then(eX aB aY k1 cO (i1+1) dP (bP++([bU])))else none))else(bif room ((bP.map tx).length+([[D.str bU]]).length) 16 then(eX aB aY k1 cO (i1+1) dP (bP++([bU])))else none))
def lJ(aB:aG)(aY:Bytes):Option aG:=(eX aB aY (fun(AF:Bool) (cB:aG)=>(bif !(AF)then(bif room ((cB.map tx).length+([[D.str aY]]).length) 16 then(some (cB++([aY])))else none)else(some cB))) aB 0 false ([]:aG))
def sQ(aB:aG)(aY:Bytes)(dP:Bool)(W1:List aP)(dQ:Int):St:=⟨[(0,D.sl (aB.map tx)),(1,D.str aY),(5,D.acc 0),(6,D.bool dP),(7,D.int .i64 dQ)],[Ob.row .uq 9 1 W1]⟩
theorem Jr(hΓ:Γ.nt=49){aB:aG}{aY:Bytes}{r:aG}{k1:Bool->aG->Option aG}(eF:∀(AF:Bool) (cB:aG),k1 AF cB=some r->Ax Γ N f237 (.q [[some (9,1)]] (D.fr 9 1 (r.map tx))) [1,1,1,1] ⟨[(1,D.str aY),(5,D.acc 0),(6,D.bool AF)],[Ob.row .uq 9 1 (cB.map tx)]⟩)(hm1:aB.length<=maxLen):∀(rest:aG) (i1:Nat) (dP:Bool) (bP:aG),aB.drop i1=rest->eX aB aY k1 rest i1 dP bP=some r->Ar Γ N f237 (.q [[some (9,1)]] (D.fr 9 1 (r.map tx))) [1,1,1,0,1,0] (rest.length+1) (sQ aB aY dP (bP.map tx) (i1:Int)):=by
 intro rest
 induction rest with
 |nil=>
  intro i1 dP bP b8 h;rw[eX]at h;refine aU fun N1 cc cL=>?_
  exact((aW.ge tx b8).a [.hl 0 [1,5,6] [0]]).ex hΓ cc (eF dP bP h)
 |cons bU cO ih1=>
  intro i1 dP bP b8 h;rw[eX]at h;refine aU fun N1 cc cL=>?_
  obtain⟨h58,h⟩|⟨h58,h⟩:=aO h
  ·have kp:=((((aW.lt tx b8).r 3 h58).l (bO tx 1 (dc b8) rfl)).r 4 h58)
   obtain⟨h59,h⟩|⟨h59,h⟩:=aO h
   ·have ko:=((kp.b h59).l (bO tx 1 (dc b8) rfl))
    obtain⟨h60,h⟩|⟨h60,h⟩:=aO h
    ·obtain⟨h61,h⟩:=bX h;obtain⟨h62,h⟩:=bX h;exact(((((ko.b h60).w (bq h61)).l (bO tx 1 (dc b8) rfl)).w (bq h62)).a [.cn [0,1,5,6,7] [4]]).cs hΓ cL (sQ aB aY true (((bP.map tx)++([[D.str aY]]))++([[D.str bU]])) (IntKind.i64.wrap ((i1:Int)+1))) (by first| (simp only[iS b8 hm1,mA]<;>rfl)| (simp only[iS b8 hm1,mA,aD.c,aR.c,aL.c,Action.c,aK.c,aT.c,bS.c,aZ.c,Node.c,aI.c,dU.c]<;>rfl)) (ih1 (i1+1) true ((bP++([aY]))++([bU])) (dn b8) h)
    ·obtain⟨h63,h⟩:=bX h;exact((((ko.b h60).l (bO tx 1 (dc b8) rfl)).w (bq h63)).a [.cn [0,1,5,6,7] [2]]).cs hΓ cL (sQ aB aY true ((bP.map tx)++([[D.str bU]])) (IntKind.i64.wrap ((i1:Int)+1))) (by first| (simp only[iS b8 hm1,mA]<;>rfl)| (simp only[iS b8 hm1,mA,aD.c,aR.c,aL.c,Action.c,aK.c,aT.c,bS.c,aZ.c,Node.c,aI.c,dU.c]<;>rfl)) (ih1 (i1+1) true (bP++([bU])) (dn b8) h)
   ·obtain⟨h64,h⟩:=bX h;exact((((kp.b h59).l (bO tx 1 (dc b8) rfl)).w (bq h64)).a [.cn [0,1,5,6,7] [2]]).cs hΓ cL (sQ aB aY dP ((bP.map tx)++([[D.str bU]])) (IntKind.i64.wrap ((i1:Int)+1))) (by first| (simp only[iS b8 hm1,mA]<;>rfl)| (simp only[iS b8 hm1,mA,aD.c,aR.c,aL.c,Action.c,aK.c,aT.c,bS.c,aZ.c,Node.c,aI.c,dU.c]<;>rfl)) (ih1 (i1+1) dP (bP++([bU])) (dn b8) h)
  ·obtain⟨h65,h⟩:=bX h;exact((((((aW.lt tx b8).r 7 h58).F 1).l (bO tx 1 (dc b8) rfl)).w (bq h65)).a [.cn [0,1,5,6,7] [2]]).cs hΓ cL (sQ aB aY dP ((bP.map tx)++([[D.str bU]])) (IntKind.i64.wrap ((i1:Int)+1))) (by first| (simp only[iS b8 hm1,mA]<;>rfl)| (simp only[iS b8 hm1,mA,aD.c,aR.c,aL.c,Action.c,aK.c,aT.c,bS.c,aZ.c,Node.c,aI.c,dU.c]<;>rfl)) (ih1 (i1+1) dP (bP++([bU])) (dn b8) h)
theorem lK{aB:aG}{aY:Bytes}{r:aG}(h:lJ aB aY=some r):Good prog 237 [D.sl (aB.map tx),D.str aY] (D.fr 9 1 (r.map tx)):=by
 refine gd func237 [[some (9,1)]] 49 fun hr Γ hΓ=>?_
 rw[lJ]at h;refine(aW.a [.cn [0,1,5,6,7] [0]]).lp hΓ (Jr hΓ (fun AF cB h=>?_) (by have:=(ij.sl (hr _ (aE (i:=0) rfl))).1;simpa using this) aB 0 false ([]:aG) rfl h);obtain⟨h66,h⟩|⟨h66,h⟩:=aO h
 ·obtain⟨h67,h⟩:=bX h;cases h;exact((aW.b h66).w (bq h67)).rts hΓ (D.fr 9 1 ((cB.map tx)++([[D.str aY]]))) (by first|rfl| (simp only[mA]<;>rfl))
 ·have h:=aN h;subst h;exact(aW.b h66).ret hΓ
def kT(aB:aD)(k1:aG->Option aG):aG->Nat->aG->Option aG
 | [],i1,bV=>(k1 bV)
 |bU::cO,i1,bV=>((gi bU).bind fun Mq=>(bif Mq then((lJ bV bU).bind fun y40=>(kT aB k1 cO (i1+1) y40))else(kT aB k1 cO (i1+1) bV)))
def nB(aB:aD):Option aG:=(kT aB (fun(cB:aG)=>(some cB)) aB.args 0 ([]:aG))
def Jp(aB:aD)(W0:List aP)(dQ:Int):St:=⟨[(1,D.ptr 0 0),(3,D.acc 1),(4,D.int .i64 dQ)],[Ob.box (aD.c aB),Ob.row .uq 9 1 W0]⟩
theorem IW(hΓ:Γ.nt=27){aB:aD}{r:aG}{k1:aG->Option aG}(eF:∀(cB:aG),k1 cB=some r->Ax Γ N f215 (.q [[some (9,1)]] (D.fr 9 1 (r.map tx))) [1,1,1] ⟨[(3,D.acc 0)],[Ob.row .uq 9 1 (cB.map tx)]⟩)(hm1:aB.args.length<=maxLen):∀(rest:aG) (i1:Nat) (bV:aG),aB.args.drop i1=rest->kT aB k1 rest i1 bV=some r->Ar Γ N f215 (.q [[some (9,1)]] (D.fr 9 1 (r.map tx))) [1,1,0,1,0] (rest.length+1) (Jp aB (bV.map tx) (i1:Int)):=by
 intro rest
 induction rest with
 |nil=>
  intro i1 bV b8 h;rw[kT]at h;refine aU fun N1 cc cL=>?_
  exact((aW.ge tx b8).a [.hl 0 [3] [1]]).ex hΓ cc (eF bV h)
 |cons bU cO ih1=>
  intro i1 bV b8 h;rw[kT]at h;refine aU fun N1 cc cL=>?_
  obtain⟨Mq,h38,h⟩:=aC h;have gr:=(((aW.lt tx b8).l (bO tx 1 (dc b8) rfl)).g (fN h38))
  obtain⟨h39,h⟩|⟨h39,h⟩:=aO h
  ·obtain⟨y40,h41,h⟩:=aC h;exact((((gr.b h39).l (bO tx 1 (dc b8) rfl)).g (lK h41)).a [.cn [1,3,4] [0,2]]).ct hΓ cL (iS b8 hm1) (ih1 (i1+1) y40 (dn b8) h)
  ·exact((gr.b h39).a [.cn [1,3,4] [0,1]]).ct hΓ cL (iS b8 hm1) (ih1 (i1+1) bV (dn b8) h)
theorem p6{aB:aD}{r:aG}(h:nB aB=some r):Good prog 215 [D.agg (aD.c aB)] (D.fr 9 1 (r.map tx)):=by
 refine gd func215 [[some (9,1)]] 27 fun hr Γ hΓ=>?_
 rw[nB]at h;refine(aW.a [.cn [1,3,4] [0,1]]).lp hΓ (IW hΓ (fun cB h=>?_) (by have:=(ij.sl (ij.agg (hr _ (aE (i:=0) rfl)) (.sl (aB.args.map tx)) (by simp))).1;simpa using this) aB.args 0 ([]:aG) rfl h);have h:=aN h;subst h;exact aW.ret hΓ
def jK(aB:aK)(aY:Int)(i1:Nat)(JN:aG)(k2:aG->Option aG):aG->Nat->aG->Option aG
 | [],i2,fF=>(k2 fF)
 |jg::tR,i2,fF=>((lJ fF jg).bind fun a4Q=>(jK aB aY i1 JN k2 tR (i2+1) a4Q))
def fw(aB:aK)(aY:Int)(k1:aG->Option aG):ah->Nat->aG->Option aG
 | [],i1,bV=>(k1 bV)
 |bU::cO,i1,bV=>(bif decide (((i1:Int):Int)<aY)then(bif (bU.kind:Int)==1 then((nB bU.pat).bind fun JN=>(bif decide (JN.length<=maxLen)then(jK aB aY i1 JN (fun(sW:aG)=>(fw aB aY k1 cO (i1+1) sW)) JN 0 bV)else none))else(fw aB aY k1 cO (i1+1) bV))else(k1 bV))
def kK(aB:aK)(aY:Int):Option aG:=(fw aB aY (fun(cB:aG)=>(some cB)) aB.conds 0 ([]:aG))
def Fl(aB:aK)(aY:Int)(W0:List aP)(dQ:Int):St:=⟨[(1,D.int .i64 aY),(2,D.ptr 0 0),(5,D.acc 1),(6,D.int .i64 dQ)],[Ob.box (aK.c aB),Ob.row .uq 9 1 W0]⟩
def Fm(aB:aK)(aY:Int)(i1:Nat)(JN:aG)(W0:List aP)(dQ:Int):St:=⟨[(1,D.int .i64 aY),(2,D.ptr 0 0),(5,D.acc 1),(6,D.int .i64 (i1:Int)),(7,D.acc 2),(8,D.int .i64 dQ)],[Ob.box (aK.c aB),Ob.row .uq 9 1 W0,Ob.row .uq 9 1 (JN.map tx)]⟩
theorem EC(hΓ:Γ.nt=49){aB:aK}{aY:Int}{i1:Nat}{JN:aG}{r:aG}{k2:aG->Option aG}(B7:∀(sW:aG),k2 sW=some r->Ax Γ N f208 (.q [[some (9,1)]] (D.fr 9 1 (r.map tx))) [1,1,0,1,0,0,1,1] ⟨[(1,D.int .i64 aY),(2,D.ptr 0 0),(5,D.acc 1),(6,D.int .i64 (i1:Int))],[Ob.box (aK.c aB),Ob.row .uq 9 1 (sW.map tx)]⟩)(hm2:JN.length<=maxLen):∀(rest:aG) (i2:Nat) (fF:aG),JN.drop i2=rest->jK aB aY i1 JN k2 rest i2 fF=some r->Ar Γ N f208 (.q [[some (9,1)]] (D.fr 9 1 (r.map tx))) [1,1,0,1,0,0,1,0,0,1,0,1,1,0] (rest.length+1) (Fm aB aY i1 JN (fF.map tx) (i2:Int)):=by
 intro rest
 induction rest with
 |nil=>
  intro i2 fF hd2 h;rw[jK]at h;refine aU fun N2 vv tQ=>?_
  exact((aW.ge tx hd2).a [.hl 3 [1,2,5,6] [0,1]]).ex hΓ vv (B7 fF h)
 |cons jg tR ih2=>
  intro i2 fF hd2 h;rw[jK]at h;refine aU fun N2 vv tQ=>?_
  obtain⟨a4Q,h184,h⟩:=aC h;exact(((((aW.lt tx hd2).i (mO tx 1 (dc hd2))).o 1 1 .uq (cV tx (dc hd2))).g (lK h184)).a [.cn [1,2,5,6,7,8] [0,3,2]]).ct hΓ tQ (iS hd2 hm2) (ih2 (i2+1) a4Q (dn hd2) h)
theorem EB(hΓ:Γ.nt=49){aB:aK}{aY:Int}{r:aG}{k1:aG->Option aG}(eF:∀(cB:aG),k1 cB=some r->Ax Γ N f208 (.q [[some (9,1)]] (D.fr 9 1 (r.map tx))) [1,1,1] ⟨[(5,D.acc 0)],[Ob.row .uq 9 1 (cB.map tx)]⟩)(hm1:aB.conds.length<=maxLen):∀(rest:ah) (i1:Nat) (bV:aG),aB.conds.drop i1=rest->fw aB aY k1 rest i1 bV=some r->Ar Γ N f208 (.q [[some (9,1)]] (D.fr 9 1 (r.map tx))) [1,1,0,1,0] (rest.length+1) (Fl aB aY (bV.map tx) (i1:Int)):=by
 intro rest
 induction rest with
 |nil=>
  intro i1 bV b8 h;rw[fw]at h;refine aU fun N1 cc cL=>?_
  exact((((((aW.ge aL.c b8).ge aL.c b8).ge aL.c b8).ge aL.c b8).F 1).a [.hl 0 [5] [1]]).ex hΓ cc (eF bV h)
 |cons bU cO ih1=>
  intro i1 bV b8 h;rw[fw]at h;refine aU fun N1 cc cL=>?_
  have kp:=((((aW.lt aL.c b8).lt aL.c b8).lt aL.c b8).lt aL.c b8)
  obtain⟨h157,h⟩|⟨h157,h⟩:=aO h
  ·have ko:=((kp.b h157).l (bO aL.c 5 (dc b8) rfl))
   obtain⟨h158,h⟩|⟨h158,h⟩:=aO h
   ·obtain⟨JN,h160,h⟩:=aC h;obtain⟨h185,h⟩:=bX h;refine((((ko.b h158).l (bO aL.c 5 (dc b8) rfl)).g (p6 h160)).a [.cn [1,2,5,6,7,8] [0,1,2]]).lp hΓ (EC hΓ (fun sW h=>?_) (bY h185) JN 0 bV rfl h);exact(aW.a [.cn [1,2,5,6] [0,1]]).ct hΓ cL (iS b8 hm1) (ih1 (i1+1) sW (dn b8) h)
   ·exact((ko.b h158).a [.cn [1,2,5,6] [0,1]]).ct hΓ cL (iS b8 hm1) (ih1 (i1+1) bV (dn b8) h)
  ·exact((kp.b h157).a [.hl 0 [5] [1]]).ex hΓ cc (eF bV h)
theorem jZ{aB:aK}{aY:Int}{r:aG}(h:kK aB aY=some r):Good prog 208 [D.agg (aK.c aB),D.int .i64 aY] (D.fr 9 1 (r.map tx)):=by
 refine gd func208 [[some (9,1)]] 49 fun hr Γ hΓ=>?_
 rw[kK]at h;refine(aW.a [.cn [1,2,5,6] [0,1]]).lp hΓ (EB hΓ (fun cB h=>?_) (by have:=(ij.sl (ij.agg (hr _ (aE (i:=0) rfl)) (.sl (aB.conds.map aL.c)) (by simp))).1;simpa using this) aB.conds 0 ([]:aG) rfl h);have h:=aN h;subst h;exact aW.ret hΓ
def jQ(aB:aG)(aY:Bytes)(k1:Option Bool):aG->Nat->Option Bool
 | [],i1=>(k1)
 |bU::cO,i1=>(bif (bU:Bytes)==aY then(some true)else(jQ aB aY k1 cO (i1+1)))
def gI(aB:aG)(aY:Bytes):Option Bool:=(jQ aB aY (some false) aB 0)
def G1(aB:aG)(aY:Bytes)(dQ:Int):St:=⟨[(0,D.sl (aB.map tx)),(1,D.str aY),(5,D.int .i64 dQ)],[]⟩
theorem EO(hΓ:Γ.nt=18){aB:aG}{aY:Bytes}{r:Bool}{k1:Option Bool}(eF:k1=some r->Ax Γ N f211 (.q [[none]] (D.bool r)) [1,1] ⟨[],[]⟩)(hm1:aB.length<=maxLen):∀(rest:aG) (i1:Nat),aB.drop i1=rest->jQ aB aY k1 rest i1=some r->Ar Γ N f211 (.q [[none]] (D.bool r)) [1,0,1,0] (rest.length+1) (G1 aB aY (i1:Int)):=by
 intro rest
 induction rest with
 |nil=>
  intro i1 b8 h;rw[jQ]at h;refine aU fun N1 cc cL=>?_
  exact((aW.ge tx b8).a [.hl 0 [] []]).ex hΓ cc (eF h)
 |cons bU cO ih1=>
  intro i1 b8 h;rw[jQ]at h;refine aU fun N1 cc cL=>?_
  have gr:=((aW.lt tx b8).l (bO tx 1 (dc b8) rfl))
  obtain⟨h13,h⟩|⟨h13,h⟩:=aO h
  ·have h:=aN h;subst h;exact(gr.b h13).ret hΓ
  ·exact((gr.b h13).a [.cn [0,1,5] []]).ct hΓ cL (iS b8 hm1) (ih1 (i1+1) (dn b8) h)
theorem jb{aB:aG}{aY:Bytes}{r:Bool}(h:gI aB aY=some r):Good prog 211 [D.sl (aB.map tx),D.str aY] (D.bool r):=by
 refine gd func211 [[none]] 18 fun hr Γ hΓ=>?_
 rw[gI]at h;refine(aW.a [.cn [0,1,5] []]).lp hΓ (EO hΓ (fun h=>?_) (by have:=(ij.sl (hr _ (aE (i:=0) rfl))).1;simpa using this) aB 0 rfl h);have h:=aN h;subst h;exact aW.ret hΓ
def qU(aB:Bytes):Option Bool:=((fW aB).bind fun y1=>(bif y1 then((hO aB 0).bind fun b4=>((kU (IntKind.i64.wrap b4.toNat) 97 122).bind fun y6=>(some y6)))else(some false)))
theorem mi{aB:Bytes}{r:Bool}(h:qU aB=some r):Good prog 148 [D.str aB] (D.bool r):=by
 refine gd func148 [[none]] 11 fun hr Γ hΓ=>?_
 rw[qU]at h;obtain⟨y1,h2,h⟩:=aC h;obtain⟨h3,h⟩|⟨h3,h⟩:=aO h
 ·obtain⟨b4,h5,h⟩:=aC h;obtain⟨y6,h7,h⟩:=aC h;have h:=aN h;subst h;exact((((((aW.g (er h2)).r 2 h3).c h5).r 2 h3).g (gJ h7)).b h3).ret hΓ
 ·have h:=aN h;subst h;exact((aW.g (er h2)).r 5 h3).ret hΓ
def ir(aB:Bytes):Option Bool:=((fW aB).bind fun y1=>(bif y1 then(some true)else((gi aB).bind fun y4=>(some y4))))
theorem jy{aB:Bytes}{r:Bool}(h:ir aB=some r):Good prog 235 [D.str aB] (D.bool r):=by
 refine gd func235 [[none]] 9 fun hr Γ hΓ=>?_
 rw[ir]at h;obtain⟨y1,h2,h⟩:=aC h;obtain⟨h3,h⟩|⟨h3,h⟩:=aO h
 ·have h:=aN h;subst h;exact((aW.g (er h2)).r 3 h3).ret hΓ
 ·obtain⟨y4,h5,h⟩:=aC h;have h:=aN h;subst h;exact((((aW.g (er h2)).r 2 h3).g (fN h5)).b h3).ret hΓ
def lm(aB:aD)(k1:Option Bool):aG->Nat->Option Bool
 | [],i1=>(k1)
 |bU::cO,i1=>((ir bU).bind fun Kr=>(bif !(Kr)then(some false)else(lm aB k1 cO (i1+1))))
def gw(aB:aD):Option Bool:=(lm aB ((qU aB.rel).bind fun NP=>(bif NP then(some (decide ((((aB.args.map tx).length:Int):Int)<=3)))else(some false))) aB.args 0)
def Fq(aB:aD)(dQ:Int):St:=⟨[(1,D.ptr 0 0),(3,D.int .i64 dQ)],[Ob.box (aD.c aB)]⟩
theorem EG(hΓ:Γ.nt=27){aB:aD}{r:Bool}{k1:Option Bool}(eF:k1=some r->Ax Γ N f201 (.q [[none]] (D.bool r)) [1,1] ⟨[(1,D.ptr 0 0)],[Ob.box (aD.c aB)]⟩)(hm1:aB.args.length<=maxLen):∀(rest:aG) (i1:Nat),aB.args.drop i1=rest->lm aB k1 rest i1=some r->Ar Γ N f201 (.q [[none]] (D.bool r)) [1,0,1,0] (rest.length+1) (Fq aB (i1:Int)):=by
 intro rest
 induction rest with
 |nil=>
  intro i1 b8 h;rw[lm]at h;refine aU fun N1 cc cL=>?_
  exact((aW.ge tx b8).a [.hl 0 [1] [0]]).ex hΓ cc (eF h)
 |cons bU cO ih1=>
  intro i1 b8 h;rw[lm]at h;refine aU fun N1 cc cL=>?_
  obtain⟨Kr,h22,h⟩:=aC h;have gr:=(((aW.lt tx b8).l (bO tx 1 (dc b8) rfl)).g (jy h22))
  obtain⟨h23,h⟩|⟨h23,h⟩:=aO h
  ·have h:=aN h;subst h;exact(gr.b h23).ret hΓ
  ·exact((gr.b h23).a [.cn [1,3] [0]]).ct hΓ cL (iS b8 hm1) (ih1 (i1+1) (dn b8) h)
theorem ez{aB:aD}{r:Bool}(h:gw aB=some r):Good prog 201 [D.agg (aD.c aB)] (D.bool r):=by
 refine gd func201 [[none]] 27 fun hr Γ hΓ=>?_
 rw[gw]at h;refine(aW.a [.cn [1,3] [0]]).lp hΓ (EG hΓ (fun h=>?_) (by have:=(ij.sl (ij.agg (hr _ (aE (i:=0) rfl)) (.sl (aB.args.map tx)) (by simp))).1;simpa using this) aB.args 0 rfl h);obtain⟨NP,h25,h⟩:=aC h;obtain⟨h26,h⟩|⟨h26,h⟩:=aO h
 ·cases h;exact((aW.g (mi h25)).r 5 h26).ret hΓ
 ·have h:=aN h;subst h;exact((aW.g (mi h25)).r 5 h26).ret hΓ
def oR(aB:aL):Option Bool:=(bif (aB.kind:Int)==1 then((gw aB.pat).bind fun y2=>(bif y2 then(bif (aB.left:Bytes)==([])then(some ((aB.right:Bytes)==([])))else(some false))else(some false)))else(bif (aB.kind:Int)==2 then((gw aB.pat).bind fun y7=>(bif y7 then(bif (aB.left:Bytes)==([])then(some ((aB.right:Bytes)==([])))else(some false))else(some false)))else(bif (aB.kind:Int)==3 then(bif (aB.pat.rel:Bytes)==([])then(bif (((aB.pat.args.map tx).length:Int):Int)==0 then((ir aB.left).bind fun JM=>(bif JM then((ir aB.right).bind fun Hl=>(some Hl))else(some false)))else(some false))else(some false))else(bif (aB.kind:Int)==4 then(bif (aB.pat.rel:Bytes)==([])then(bif (((aB.pat.args.map tx).length:Int):Int)==0 then((ir aB.left).bind fun rL=>(bif rL then((ir aB.right).bind fun vI=>(some vI))else(some false)))else(some false))else(some false))else(bif (aB.kind:Int)==5 then(bif (aB.pat.rel:Bytes)==([])then(bif (((aB.pat.args.map tx).length:Int):Int)==0 then((ir aB.left).bind fun yU=>(bif yU then((ir aB.right).bind fun ua=>(some ua))else(some false)))else(some false))else(some false))else(some false))))))
theorem iT{aB:aL}{r:Bool}(h:oR aB=some r):Good prog 209 [D.agg (aL.c aB)] (D.bool r):=by
 refine gd func209 [[none]] 46 fun hr Γ hΓ=>?_
 rw[oR]at h;obtain⟨h1,h⟩|⟨h1,h⟩:=aO h
 ·obtain⟨y2,h3,h⟩:=aC h;have pW:=((aW.r 2 h1).g (ez h3))
  obtain⟨h4,h⟩|⟨h4,h⟩:=aO h
  ·have gr:=(pW.r 4 h4)
   obtain⟨h5,h⟩|⟨h5,h⟩:=aO h
   ·cases h;exact(gr.r 4 h5).ret hΓ
   ·have h:=aN h;subst h;exact(gr.r 4 h5).ret hΓ
  ·have h:=aN h;subst h;exact((pW.r 4 h4).F 4).ret hΓ
 ·obtain⟨h6,h⟩|⟨h6,h⟩:=aO h
  ·obtain⟨y7,h8,h⟩:=aC h;have kp:=(((aW.b h1).b h6).g (ez h8))
   obtain⟨h9,h⟩|⟨h9,h⟩:=aO h
   ·have ko:=(kp.r 4 h9)
    obtain⟨h10,h⟩|⟨h10,h⟩:=aO h
    ·cases h;exact(ko.r 4 h10).ret hΓ
    ·have h:=aN h;subst h;exact(ko.r 4 h10).ret hΓ
   ·have h:=aN h;subst h;exact((kp.r 4 h9).F 4).ret hΓ
  ·have tN:=((aW.b h1).b h6)
   obtain⟨h11,h⟩|⟨h11,h⟩:=aO h
   ·have xp:=(tN.r 2 h11)
    obtain⟨h12,h⟩|⟨h12,h⟩:=aO h
    ·have B0:=(xp.r 6 h12)
     obtain⟨h13,h⟩|⟨h13,h⟩:=aO h
     ·obtain⟨JM,h15,h⟩:=aC h;have GU:=(((B0.r 3 h13).g (jy h15)).b h13)
      obtain⟨h16,h⟩|⟨h16,h⟩:=aO h
      ·obtain⟨Hl,h18,h⟩:=aC h;have h:=aN h;subst h;exact(((GU.r 3 h16).g (jy h18)).b h16).ret hΓ
      ·have h:=aN h;subst h;exact(GU.r 4 h16).ret hΓ
     ·have h:=aN h;subst h;exact((B0.r 4 h13).F 4).ret hΓ
    ·have h:=aN h;subst h;exact((xp.r 6 h12).F 8).ret hΓ
   ·obtain⟨h19,h⟩|⟨h19,h⟩:=aO h
    ·have MV:=((tN.b h11).r 2 h19)
     obtain⟨h20,h⟩|⟨h20,h⟩:=aO h
     ·have Em:=(MV.r 6 h20)
      obtain⟨h21,h⟩|⟨h21,h⟩:=aO h
      ·obtain⟨rL,h23,h⟩:=aC h;have MU:=(((Em.r 3 h21).g (jy h23)).b h21)
       obtain⟨h24,h⟩|⟨h24,h⟩:=aO h
       ·obtain⟨vI,h26,h⟩:=aC h;have h:=aN h;subst h;exact(((MU.r 3 h24).g (jy h26)).b h24).ret hΓ
       ·have h:=aN h;subst h;exact(MU.r 4 h24).ret hΓ
      ·have h:=aN h;subst h;exact((Em.r 4 h21).F 4).ret hΓ
     ·have h:=aN h;subst h;exact((MV.r 6 h20).F 8).ret hΓ
    ·have He:=((tN.b h11).b h19)
     obtain⟨h27,h⟩|⟨h27,h⟩:=aO h
     ·obtain⟨h28,h⟩|⟨h28,h⟩:=aO h
      ·have J7:=((He.b h27).r 6 h28)
       obtain⟨h29,h⟩|⟨h29,h⟩:=aO h
       ·obtain⟨yU,h31,h⟩:=aC h;have J8:=(((J7.r 3 h29).g (jy h31)).b h29)
        obtain⟨h32,h⟩|⟨h32,h⟩:=aO h
        ·obtain⟨ua,h34,h⟩:=aC h;have h:=aN h;subst h;exact(((J8.r 3 h32).g (jy h34)).b h32).ret hΓ
        ·have h:=aN h;subst h;exact(J8.r 4 h32).ret hΓ
       ·have h:=aN h;subst h;exact((J7.r 4 h29).F 4).ret hΓ
      ·have h:=aN h;subst h;exact(((He.b h27).r 6 h28).F 8).ret hΓ
     ·have h:=aN h;subst h;exact(He.b h27).ret hΓ
def mD(aB:aL):Option aG:=((nB aB.pat).bind fun y1=>((gi aB.left).bind fun y3=>(bif y3 then((lJ y1 aB.left).bind fun y6=>((gi aB.right).bind fun y8=>(bif y8 then((lJ y6 aB.right).bind fun Mp=>(some Mp))else(some y6))))else((gi aB.right).bind fun vH=>(bif vH then((lJ y1 aB.right).bind fun NO=>(some NO))else(some y1))))))
theorem qB{aB:aL}{r:aG}(h:mD aB=some r):Good prog 210 [D.agg (aL.c aB)] (D.fr 9 1 (r.map tx)):=by
 refine gd func210 [[some (9,1)]] 22 fun hr Γ hΓ=>?_
 rw[mD]at h;obtain⟨y1,h2,h⟩:=aC h;obtain⟨y3,h4,h⟩:=aC h;have pW:=((aW.g (p6 h2)).g (fN h4))
 obtain⟨h5,h⟩|⟨h5,h⟩:=aO h
 ·obtain⟨y6,h7,h⟩:=aC h;obtain⟨y8,h9,h⟩:=aC h;have gr:=(((pW.b h5).g (lK h7)).g (fN h9))
  obtain⟨h10,h⟩|⟨h10,h⟩:=aO h
  ·obtain⟨Mp,h12,h⟩:=aC h;have h:=aN h;subst h;exact((gr.b h10).g (lK h12)).ret hΓ
  ·have h:=aN h;subst h;exact(gr.b h10).ret hΓ
 ·obtain⟨vH,h14,h⟩:=aC h;have kp:=((pW.b h5).g (fN h14))
  obtain⟨h15,h⟩|⟨h15,h⟩:=aO h
  ·obtain⟨NO,h17,h⟩:=aC h;have h:=aN h;subst h;exact((kp.b h15).g (lK h17)).ret hΓ
  ·have h:=aN h;subst h;exact(kp.b h15).ret hΓ
def qV(aB:aL):Option Bool:=((oR aB).bind fun y1=>(bif y1 then(some (decide ((aB.kind:Int)>=3)))else(some false)))
theorem rq{aB:aL}{r:Bool}(h:qV aB=some r):Good prog 212 [D.agg (aL.c aB)] (D.bool r):=by
 refine gd func212 [[none]] 10 fun hr Γ hΓ=>?_
 rw[qV]at h;obtain⟨y1,h2,h⟩:=aC h;obtain⟨h3,h⟩|⟨h3,h⟩:=aO h
 ·cases h;exact((aW.g (iT h2)).r 4 h3).ret hΓ
 ·have h:=aN h;subst h;exact((aW.g (iT h2)).r 4 h3).ret hΓ
def fk(aB:aK)(aY:Int)(cT:Bytes)(k1:Option Bool):ah->Nat->Option Bool
 | [],i1=>(k1)
 |bU::cO,i1=>(bif ((i1:Int):Int) != aY then((mD bU).bind fun F2=>((gI F2 cT).bind fun Pf=>(bif Pf then(some true)else(fk aB aY cT k1 cO (i1+1)))))else(fk aB aY cT k1 cO (i1+1)))
def iD(aB:aK)(cT:Bytes)(k2:Option Bool):eG->Nat->Option Bool
 | [],i2=>(k2)
 |jg::tR,i2=>((nB jg.pat).bind fun VJ=>((gI VJ cT).bind fun y69=>(bif y69 then(some true)else(iD aB cT k2 tR (i2+1)))))
def n7(aB:aK)(aY:Int)(cT:Bytes):Option Bool:=(fk aB aY cT (iD aB cT (some false) aB.cg 0) aB.conds 0)
def DQ(aB:aK)(aY:Int)(cT:Bytes)(dQ:Int):St:=⟨[(1,D.int .i64 aY),(2,D.str cT),(3,D.ptr 0 0),(7,D.int .i64 dQ)],[Ob.box (aK.c aB)]⟩
theorem CS(hΓ:Γ.nt=45){aB:aK}{aY:Int}{cT:Bytes}{r:Bool}{k1:Option Bool}(eF:k1=some r->Ax Γ N f213 (.q [[none]] (D.bool r)) [1,1] ⟨[(2,D.str cT),(3,D.ptr 0 0)],[Ob.box (aK.c aB)]⟩)(hm1:aB.conds.length<=maxLen):∀(rest:ah) (i1:Nat),aB.conds.drop i1=rest->fk aB aY cT k1 rest i1=some r->Ar Γ N f213 (.q [[none]] (D.bool r)) [1,0,1,0] (rest.length+1) (DQ aB aY cT (i1:Int)):=by
 intro rest
 induction rest with
 |nil=>
  intro i1 b8 h;rw[fk]at h;refine aU fun N1 cc cL=>?_
  exact((aW.ge aL.c b8).a [.hl 0 [2,3] [0]]).ex hΓ cc (eF h)
 |cons bU cO ih1=>
  intro i1 b8 h;rw[fk]at h;refine aU fun N1 cc cL=>?_
  obtain⟨h33,h⟩|⟨h33,h⟩:=aO h
  ·obtain⟨F2,h35,h⟩:=aC h;obtain⟨Pf,h37,h⟩:=aC h;have kp:=((((((((aW.lt aL.c b8).r 4 h33).l (bO aL.c 5 (dc b8) rfl)).r 2 h33).g (qB h35)).r 2 h33).g (jb h37)).b h33)
   obtain⟨h38,h⟩|⟨h38,h⟩:=aO h
   ·have h:=aN h;subst h;exact(kp.b h38).ret hΓ
   ·exact((kp.b h38).a [.cn [1,2,3,7] [0]]).ct hΓ cL (iS b8 hm1) (ih1 (i1+1) (dn b8) h)
  ·exact((((aW.lt aL.c b8).r 9 h33).F 1).a [.cn [1,2,3,7] [0]]).ct hΓ cL (iS b8 hm1) (ih1 (i1+1) (dn b8) h)
def DR(aB:aK)(cT:Bytes)(dQ:Int):St:=⟨[(2,D.str cT),(3,D.ptr 0 0),(8,D.int .i64 dQ)],[Ob.box (aK.c aB)]⟩
theorem CT(hΓ:Γ.nt=45){aB:aK}{cT:Bytes}{r:Bool}{k2:Option Bool}(B7:k2=some r->Ax Γ N f213 (.q [[none]] (D.bool r)) [1,1,1] ⟨[],[]⟩)(hm2:aB.cg.length<=maxLen):∀(rest:eG) (i2:Nat),aB.cg.drop i2=rest->iD aB cT k2 rest i2=some r->Ar Γ N f213 (.q [[none]] (D.bool r)) [1,1,0,1,0] (rest.length+1) (DR aB cT (i2:Int)):=by
 intro rest
 induction rest with
 |nil=>
  intro i2 hd2 h;rw[iD]at h;refine aU fun N2 vv tQ=>?_
  exact((aW.ge Action.c hd2).a [.hl 0 [] []]).ex hΓ vv (B7 h)
 |cons jg tR ih2=>
  intro i2 hd2 h;rw[iD]at h;refine aU fun N2 vv tQ=>?_
  obtain⟨VJ,h68,h⟩:=aC h;obtain⟨y69,h70,h⟩:=aC h;have ko:=((((aW.lt Action.c hd2).l (bO Action.c 3 (dc hd2) rfl)).g (p6 h68)).g (jb h70))
  obtain⟨h71,h⟩|⟨h71,h⟩:=aO h
  ·have h:=aN h;subst h;exact(ko.b h71).ret hΓ
  ·exact((ko.b h71).a [.cn [2,3,8] [0]]).ct hΓ tQ (iS hd2 hm2) (ih2 (i2+1) (dn hd2) h)
theorem vl{aB:aK}{aY:Int}{cT:Bytes}{r:Bool}(h:n7 aB aY cT=some r):Good prog 213 [D.agg (aK.c aB),D.int .i64 aY,D.str cT] (D.bool r):=by
 refine gd func213 [[none]] 45 fun hr Γ hΓ=>?_
 rw[n7]at h;refine(aW.a [.cn [1,2,3,7] [0]]).lp hΓ (CS hΓ (fun h=>?_) (by have:=(ij.sl (ij.agg (hr _ (aE (i:=0) rfl)) (.sl (aB.conds.map aL.c)) (by simp))).1;simpa using this) aB.conds 0 rfl h);refine(aW.a [.cn [2,3,8] [0]]).lp hΓ (CT hΓ (fun h=>?_) (by have:=(ij.sl (ij.agg (hr _ (aE (i:=0) rfl)) (.sl (aB.cg.map Action.c)) (by simp))).1;simpa using this) aB.cg 0 rfl h);have h:=aN h;subst h;exact aW.ret hΓ
def sN(aB:Action):Option Bool:=(bif (aB.kind:Int)==1 then((gw aB.pat).bind fun y2=>(some y2))else(bif (aB.kind:Int)==2 then((gw aB.pat).bind fun y5=>(some y5))else(bif (aB.kind:Int)==3 then(bif (aB.pat.rel:Bytes)==([])then(some ((((aB.pat.args.map tx).length:Int):Int)==0))else(some false))else(some false))))
theorem EE{aB:Action}{r:Bool}(h:sN aB=some r):Good prog 214 [D.agg (Action.c aB)] (D.bool r):=by
 refine gd func214 [[none]] 24 fun hr Γ hΓ=>?_
 rw[sN]at h;obtain⟨h1,h⟩|⟨h1,h⟩:=aO h
 ·obtain⟨y2,h3,h⟩:=aC h;have h:=aN h;subst h;exact((aW.r 2 h1).g (ez h3)).ret hΓ
 ·obtain⟨h4,h⟩|⟨h4,h⟩:=aO h
  ·obtain⟨y5,h6,h⟩:=aC h;have h:=aN h;subst h;exact(((aW.b h1).b h4).g (ez h6)).ret hΓ
  ·have pW:=((aW.b h1).b h4)
   obtain⟨h7,h⟩|⟨h7,h⟩:=aO h
   ·obtain⟨h8,h⟩|⟨h8,h⟩:=aO h
    ·cases h;exact((pW.b h7).r 6 h8).ret hΓ
    ·have h:=aN h;subst h;exact((pW.b h7).r 6 h8).ret hΓ
   ·have h:=aN h;subst h;exact(pW.b h7).ret hΓ
def jz(aB:aK)(i1:Nat)(AN:aG)(k2:aG->Option aG):aG->Nat->aG->Option aG
 | [],i2,fF=>(k2 fF)
 |jg::tR,i2,fF=>((lJ fF jg).bind fun a4P=>(jz aB i1 AN k2 tR (i2+1) a4P))
def iX(aB:aK)(k1:aG->Option aG):ah->Nat->aG->Option aG
 | [],i1,bV=>(k1 bV)
 |bU::cO,i1,bV=>((mD bU).bind fun AN=>(bif decide (AN.length<=maxLen)then(jz aB i1 AN (fun(sW:aG)=>(iX aB k1 cO (i1+1) sW)) AN 0 bV)else none))
def k6(aB:aK)(i3:Nat)(JP:aG)(k4:aG->Option aG):aG->Nat->aG->Option aG
 | [],i4,PX=>(k4 PX)
 |x4_::xs4,i4,PX=>((lJ PX x4_).bind fun a4R=>(k6 aB i3 JP k4 xs4 (i4+1) a4R))
def gj(aB:aK)(k3:aG->Option aG):eG->Nat->aG->Option aG
 | [],i3,yS=>(k3 yS)
 |PZ::My,i3,yS=>((nB PZ.pat).bind fun JP=>(bif decide (JP.length<=maxLen)then(k6 aB i3 JP (fun(Uu:aG)=>(gj aB k3 My (i3+1) Uu)) JP 0 yS)else none))
def sP(aB:aK):Option aG:=(iX aB (fun(nO:aG)=>(gj aB (fun(Xm:aG)=>(some Xm)) aB.cg 0 nO)) aB.conds 0 ([]:aG))
def H9(aB:aK)(W0:List aP)(dQ:Int):St:=⟨[(1,D.ptr 0 0),(3,D.acc 1),(4,D.int .i64 dQ)],[Ob.box (aK.c aB),Ob.row .uq 9 1 W0]⟩
def HA(aB:aK)(i1:Nat)(AN:aG)(W0:List aP)(dQ:Int):St:=⟨[(1,D.ptr 0 0),(3,D.acc 1),(4,D.int .i64 (i1:Int)),(5,D.acc 2),(6,D.int .i64 dQ)],[Ob.box (aK.c aB),Ob.row .uq 9 1 W0,Ob.row .uq 9 1 (AN.map tx)]⟩
theorem Fx(hΓ:Γ.nt=63){aB:aK}{i1:Nat}{AN:aG}{r:aG}{k2:aG->Option aG}(B7:∀(sW:aG),k2 sW=some r->Ax Γ N f216 (.q [[some (9,1)]] (D.fr 9 1 (r.map tx))) [1,1,0,1,0,0,1,1] ⟨[(1,D.ptr 0 0),(3,D.acc 1),(4,D.int .i64 (i1:Int))],[Ob.box (aK.c aB),Ob.row .uq 9 1 (sW.map tx)]⟩)(hm2:AN.length<=maxLen):∀(rest:aG) (i2:Nat) (fF:aG),AN.drop i2=rest->jz aB i1 AN k2 rest i2 fF=some r->Ar Γ N f216 (.q [[some (9,1)]] (D.fr 9 1 (r.map tx))) [1,1,0,1,0,0,1,0,0,1,1,0] (rest.length+1) (HA aB i1 AN (fF.map tx) (i2:Int)):=by
 intro rest
 induction rest with
 |nil=>
  intro i2 fF hd2 h;rw[jz]at h;refine aU fun N2 vv tQ=>?_
  exact((aW.ge tx hd2).a [.hl 3 [1,3,4] [0,1]]).ex hΓ vv (B7 fF h)
 |cons jg tR ih2=>
  intro i2 fF hd2 h;rw[jz]at h;refine aU fun N2 vv tQ=>?_
  obtain⟨a4P,h172,h⟩:=aC h;exact(((((aW.lt tx hd2).i (mO tx 1 (dc hd2))).o 1 1 .uq (cV tx (dc hd2))).g (lK h172)).a [.cn [1,3,4,5,6] [0,3,2]]).ct hΓ tQ (iS hd2 hm2) (ih2 (i2+1) a4P (dn hd2) h)
theorem Fw(hΓ:Γ.nt=63){aB:aK}{r:aG}{k1:aG->Option aG}(eF:∀(nO:aG),k1 nO=some r->Ax Γ N f216 (.q [[some (9,1)]] (D.fr 9 1 (r.map tx))) [1,1,1] ⟨[(1,D.ptr 0 0),(3,D.acc 1)],[Ob.box (aK.c aB),Ob.row .uq 9 1 (nO.map tx)]⟩)(hm1:aB.conds.length<=maxLen):∀(rest:ah) (i1:Nat) (bV:aG),aB.conds.drop i1=rest->iX aB k1 rest i1 bV=some r->Ar Γ N f216 (.q [[some (9,1)]] (D.fr 9 1 (r.map tx))) [1,1,0,1,0] (rest.length+1) (H9 aB (bV.map tx) (i1:Int)):=by
 intro rest
 induction rest with
 |nil=>
  intro i1 bV b8 h;rw[iX]at h;refine aU fun N1 cc cL=>?_
  exact((aW.ge aL.c b8).a [.hl 0 [1,3] [0,1]]).ex hΓ cc (eF bV h)
 |cons bU cO ih1=>
  intro i1 bV b8 h;rw[iX]at h;refine aU fun N1 cc cL=>?_
  obtain⟨AN,h148,h⟩:=aC h;obtain⟨h173,h⟩:=bX h;refine((((aW.lt aL.c b8).l (bO aL.c 5 (dc b8) rfl)).g (qB h148)).a [.cn [1,3,4,5,6] [0,1,2]]).lp hΓ (Fx hΓ (fun sW h=>?_) (bY h173) AN 0 bV rfl h);exact(aW.a [.cn [1,3,4] [0,1]]).ct hΓ cL (iS b8 hm1) (ih1 (i1+1) sW (dn b8) h)
def HB(aB:aK)(W0:List aP)(dQ:Int):St:=⟨[(1,D.ptr 0 0),(3,D.acc 1),(7,D.int .i64 dQ)],[Ob.box (aK.c aB),Ob.row .uq 9 1 W0]⟩
def HC(aB:aK)(i3:Nat)(JP:aG)(W0:List aP)(dQ:Int):St:=⟨[(1,D.ptr 0 0),(3,D.acc 1),(7,D.int .i64 (i3:Int)),(8,D.acc 2),(9,D.int .i64 dQ)],[Ob.box (aK.c aB),Ob.row .uq 9 1 W0,Ob.row .uq 9 1 (JP.map tx)]⟩
theorem Fz(hΓ:Γ.nt=63){aB:aK}{i3:Nat}{JP:aG}{r:aG}{k4:aG->Option aG}(hE4:∀(Uu:aG),k4 Uu=some r->Ax Γ N f216 (.q [[some (9,1)]] (D.fr 9 1 (r.map tx))) [1,1,1,0,1,0,0,1,1] ⟨[(1,D.ptr 0 0),(3,D.acc 1),(7,D.int .i64 (i3:Int))],[Ob.box (aK.c aB),Ob.row .uq 9 1 (Uu.map tx)]⟩)(hm4:JP.length<=maxLen):∀(rest:aG) (i4:Nat) (PX:aG),JP.drop i4=rest->k6 aB i3 JP k4 rest i4 PX=some r->Ar Γ N f216 (.q [[some (9,1)]] (D.fr 9 1 (r.map tx))) [1,1,1,0,1,0,0,1,0,0,1,1,0] (rest.length+1) (HC aB i3 JP (PX.map tx) (i4:Int)):=by
 intro rest
 induction rest with
 |nil=>
  intro i4 PX Rt h;rw[k6]at h;refine aU fun N4 hN4 hS4=>?_
  exact((aW.ge tx Rt).a [.hl 3 [1,3,7] [0,1]]).ex hΓ hN4 (hE4 PX h)
 |cons x4_ xs4 ih4=>
  intro i4 PX Rt h;rw[k6]at h;refine aU fun N4 hN4 hS4=>?_
  obtain⟨a4R,h345,h⟩:=aC h;exact(((((aW.lt tx Rt).i (mO tx 1 (dc Rt))).o 1 1 .uq (cV tx (dc Rt))).g (lK h345)).a [.cn [1,3,7,8,9] [0,3,2]]).ct hΓ hS4 (iS Rt hm4) (ih4 (i4+1) a4R (dn Rt) h)
theorem Fy(hΓ:Γ.nt=63){aB:aK}{r:aG}{k3:aG->Option aG}(Zm:∀(Xm:aG),k3 Xm=some r->Ax Γ N f216 (.q [[some (9,1)]] (D.fr 9 1 (r.map tx))) [1,1,1,1] ⟨[(3,D.acc 0)],[Ob.row .uq 9 1 (Xm.map tx)]⟩)(RV:aB.cg.length<=maxLen):∀(rest:eG) (i3:Nat) (yS:aG),aB.cg.drop i3=rest->gj aB k3 rest i3 yS=some r->Ar Γ N f216 (.q [[some (9,1)]] (D.fr 9 1 (r.map tx))) [1,1,1,0,1,0] (rest.length+1) (HB aB (yS.map tx) (i3:Int)):=by
 intro rest
 induction rest with
 |nil=>
  intro i3 yS yB h;rw[gj]at h;refine aU fun N3 TX Nn=>?_
  exact((aW.ge Action.c yB).a [.hl 0 [3] [1]]).ex hΓ TX (Zm yS h)
 |cons PZ My ih3=>
  intro i3 yS yB h;rw[gj]at h;refine aU fun N3 TX Nn=>?_
  obtain⟨JP,h321,h⟩:=aC h;obtain⟨h346,h⟩:=bX h;refine((((aW.lt Action.c yB).l (bO Action.c 3 (dc yB) rfl)).g (p6 h321)).a [.cn [1,3,7,8,9] [0,1,2]]).lp hΓ (Fz hΓ (fun Uu h=>?_) (bY h346) JP 0 yS rfl h);exact(aW.a [.cn [1,3,7] [0,1]]).ct hΓ Nn (iS yB RV) (ih3 (i3+1) Uu (dn yB) h)
theorem EL{aB:aK}{r:aG}(h:sP aB=some r):Good prog 216 [D.agg (aK.c aB)] (D.fr 9 1 (r.map tx)):=by
 refine gd func216 [[some (9,1)]] 63 fun hr Γ hΓ=>?_
 rw[sP]at h;refine(aW.a [.cn [1,3,4] [0,1]]).lp hΓ (Fw hΓ (fun nO h=>?_) (by have:=(ij.sl (ij.agg (hr _ (aE (i:=0) rfl)) (.sl (aB.conds.map aL.c)) (by simp))).1;simpa using this) aB.conds 0 ([]:aG) rfl h);refine(aW.a [.cn [1,3,7] [0,1]]).lp hΓ (Fy hΓ (fun Xm h=>?_) (by have:=(ij.sl (ij.agg (hr _ (aE (i:=0) rfl)) (.sl (aB.cg.map Action.c)) (by simp))).1;simpa using this) aB.cg 0 nO rfl h);have h:=aN h;subst h;exact aW.ret hΓ
def gF(aB:aK)(vH:aG)(i1:Nat)(bU:aL)(JS:aG)(DW:aG)(k2:Option Bool):aG->Nat->Option Bool
 | [],i2=>(k2)
 |jg::tR,i2=>((gI JS jg).bind fun a4T=>((qV bU).bind fun a7I=>(bif a7I then(bif !(a4T)then(some false)else(bif (bU.kind:Int)==2 then(gF aB vH i1 bU JS DW k2 tR (i2+1))else(gF aB vH i1 bU JS DW k2 tR (i2+1))))else(bif (bU.kind:Int)==2 then(bif !(a4T)then((n7 aB (i1:Int) jg).bind fun a7J=>(bif a7J then(some false)else(gF aB vH i1 bU JS DW k2 tR (i2+1))))else(gF aB vH i1 bU JS DW k2 tR (i2+1)))else(gF aB vH i1 bU JS DW k2 tR (i2+1))))))
def gG(aB:aK)(vH:aG)(i1:Nat)(bU:aL)(JT:aG)(DX:aG)(k3:Option Bool):aG->Nat->Option Bool
 | [],i3=>(k3)
 |PZ::My,i3=>((gI JT PZ).bind fun a4U=>((qV bU).bind fun a7K=>(bif a7K then(bif !(a4U)then(some false)else(bif (bU.kind:Int)==2 then(gG aB vH i1 bU JT DX k3 My (i3+1))else(gG aB vH i1 bU JT DX k3 My (i3+1))))else(bif (bU.kind:Int)==2 then(bif !(a4U)then((n7 aB (i1:Int) PZ).bind fun a7L=>(bif a7L then(some false)else(gG aB vH i1 bU JT DX k3 My (i3+1))))else(gG aB vH i1 bU JT DX k3 My (i3+1)))else(gG aB vH i1 bU JT DX k3 My (i3+1))))))
def kM(aB:aK)(vH:aG)(k1:Option Bool):ah->Nat->Option Bool
 | [],i1=>(k1)
 |bU::cO,i1=>((oR bU).bind fun a7H=>(bif !(a7H)then(some false)else(bif ((i1:Int):Int)==0 then(bif (bU.kind:Int) != 1 then(some false)else((kK aB (i1:Int)).bind fun JS=>((mD bU).bind fun DW=>(bif decide (DW.length<=maxLen)then(gF aB vH i1 bU JS DW (kM aB vH k1 cO (i1+1)) DW 0)else none))))else((kK aB (i1:Int)).bind fun JT=>((mD bU).bind fun DX=>(bif decide (DX.length<=maxLen)then(gG aB vH i1 bU JT DX (kM aB vH k1 cO (i1+1)) DX 0)else none))))))
def mm(aB:aK)(vH:aG)(i4:Nat)(JU:aG)(k5:Option Bool):aG->Nat->Option Bool
 | [],i5=>(k5)
 |x5_::xs5,i5=>((gI vH x5_).bind fun a7O=>(bif !(a7O)then(some false)else(mm aB vH i4 JU k5 xs5 (i5+1))))
def mj(aB:aK)(vH:aG)(k4:Option Bool):eG->Nat->Option Bool
 | [],i4=>(k4)
 |x4_::xs4,i4=>((sN x4_).bind fun a7M=>(bif !(a7M)then(some false)else((nB x4_.pat).bind fun JU=>(bif decide (JU.length<=maxLen)then(mm aB vH i4 JU (mj aB vH k4 xs4 (i4+1)) JU 0)else none))))
def nA(aB:aK):Option Bool:=((qU aB.name).bind fun y1=>(bif !(y1)then(some false)else((kU aB.prio 0 9).bind fun y4=>(bif !(y4)then(some false)else((kU ((aB.conds.map aL.c).length:Int) 1 4).bind fun y7=>(bif !(y7)then(some false)else((kU ((aB.cg.map Action.c).length:Int) 1 2).bind fun GG=>(bif !(GG)then(some false)else((kK aB ((aB.conds.map aL.c).length:Int)).bind fun vH=>(kM aB vH (mj aB vH ((sP aB).bind fun a7P=>(some (decide ((((a7P.map tx).length:Int):Int)<=6)))) aB.cg 0) aB.conds 0))))))))))
def Jj(aB:aK)(vH:aG)(dQ:Int):St:=⟨[(1,D.ptr 0 0),(3,D.acc 1),(4,D.int .i64 dQ)],[Ob.box (aK.c aB),Ob.row .uq 9 1 (vH.map tx)]⟩
def Jk(aB:aK)(vH:aG)(i1:Nat)(bU:aL)(JS:aG)(DW:aG)(dQ:Int):St:=⟨[(1,D.ptr 0 0),(3,D.acc 1),(4,D.int .i64 (i1:Int)),(5,D.ptr 2 0),(6,D.acc 3),(7,D.acc 4),(8,D.int .i64 dQ)],[Ob.box (aK.c aB),Ob.row .uq 9 1 (vH.map tx),Ob.box [D.int .i64 bU.kind,D.str bU.pat.rel,D.sl (bU.pat.args.map tx),D.str bU.left,D.str bU.right],Ob.row .uq 9 1 (JS.map tx),Ob.row .uq 9 1 (DW.map tx)]⟩
theorem IP(hΓ:Γ.nt=145){aB:aK}{vH:aG}{i1:Nat}{bU:aL}{JS:aG}{DW:aG}{r:Bool}{k2:Option Bool}(B7:k2=some r->Ax Γ N f149 (.q [[none]] (D.bool r)) [1,1,1,0,1,0,0,1,1] ⟨[(1,D.ptr 0 0),(3,D.acc 1),(4,D.int .i64 (i1:Int))],[Ob.box (aK.c aB),Ob.row .uq 9 1 (vH.map tx)]⟩)(hm2:DW.length<=maxLen):∀(rest:aG) (i2:Nat),DW.drop i2=rest->gF aB vH i1 bU JS DW k2 rest i2=some r->Ar Γ N f149 (.q [[none]] (D.bool r)) [1,1,1,0,1,0,0,1,0,0,1,1,1,1,1,0] (rest.length+1) (Jk aB vH i1 bU JS DW (i2:Int)):=by
 intro rest
 induction rest with
 |nil=>
  intro i2 hd2 h;rw[gF]at h;refine aU fun N2 vv tQ=>?_
  exact((aW.ge tx hd2).a [.hl 3 [1,3,4] [0,1]]).ex hΓ vv (B7 h)
 |cons jg tR ih2=>
  intro i2 hd2 h;rw[gF]at h;refine aU fun N2 vv tQ=>?_
  obtain⟨a4T,h711,h⟩:=aC h;obtain⟨a7I,h713,h⟩:=aC h;have a1Z:=((((((aW.lt tx hd2).i (mO tx 1 (dc hd2))).o 1 1 .uq (cV tx (dc hd2))).g (jb h711)).a [.n 21]).g (rq h713))
  obtain⟨h714,h⟩|⟨h714,h⟩:=aO h
  ·have a1a:=(a1Z.r 3 h714)
   obtain⟨h715,h⟩|⟨h715,h⟩:=aO h
   ·have h:=aN h;subst h;exact((((((a1a.r 4 h715).a [bF,bF]).r 2 h715).a [bF,bF,bF,bF,bF,bF,bF]).r 2 h715).T 1).ret hΓ
   ·have a1b:=(a1a.r 4 h715)
    obtain⟨h716,h⟩|⟨h716,h⟩:=aO h
    ·exact((((((a1b.r 2 h716).b h715).b h716).r 11 h715).F 1).a [.cn [1,3,4,5,6,7,8] [0,1,2,3,4]]).ct hΓ tQ (iS hd2 hm2) (ih2 (i2+1) (dn hd2) h)
    ·exact((((((((((a1b.r 2 h716).b h715).b h716).b h715).F 7).b h715).F 1).b h715).F 1).a [.cn [1,3,4,5,6,7,8] [0,1,2,3,4]]).ct hΓ tQ (iS hd2 hm2) (ih2 (i2+1) (dn hd2) h)
  ·have a1c:=((a1Z.r 3 h714).F 4)
   obtain⟨h717,h⟩|⟨h717,h⟩:=aO h
   ·have a1d:=((((a1c.r 2 h717).F 1).b h717).F 1)
    obtain⟨h718,h⟩|⟨h718,h⟩:=aO h
    ·obtain⟨a7J,h720,h⟩:=aC h;have a1e:=(((((((((a1d.r 5 h718).i (mO tx 1 (dc hd2))).b h718).o 1 1 .uq (cV tx (dc hd2))).b h718).g (vl h720)).F 1).b h718).F 1)
     obtain⟨h721,h⟩|⟨h721,h⟩:=aO h
     ·have h:=aN h;subst h;exact(a1e.b h721).ret hΓ
     ·exact((a1e.b h721).a [.cn [1,3,4,5,6,7,8] [0,1,2,3,4]]).ct hΓ tQ (iS hd2 hm2) (ih2 (i2+1) (dn hd2) h)
    ·exact(((((a1d.r 7 h718).F 1).b h718).F 2).a [.cn [1,3,4,5,6,7,8] [0,1,2,3,4]]).ct hΓ tQ (iS hd2 hm2) (ih2 (i2+1) (dn hd2) h)
   ·exact(((((a1c.r 2 h717).F 1).b h717).F 12).a [.cn [1,3,4,5,6,7,8] [0,1,2,3,4]]).ct hΓ tQ (iS hd2 hm2) (ih2 (i2+1) (dn hd2) h)
def Jl(aB:aK)(vH:aG)(i1:Nat)(bU:aL)(JT:aG)(DX:aG)(dQ:Int):St:=⟨[(1,D.ptr 0 0),(3,D.acc 1),(4,D.int .i64 (i1:Int)),(5,D.ptr 2 0),(6,D.acc 3),(7,D.acc 4),(8,D.int .i64 dQ)],[Ob.box (aK.c aB),Ob.row .uq 9 1 (vH.map tx),Ob.box [D.int .i64 bU.kind,D.str bU.pat.rel,D.sl (bU.pat.args.map tx),D.str bU.left,D.str bU.right],Ob.row .uq 9 1 (JT.map tx),Ob.row .uq 9 1 (DX.map tx)]⟩
theorem IQ(hΓ:Γ.nt=145){aB:aK}{vH:aG}{i1:Nat}{bU:aL}{JT:aG}{DX:aG}{r:Bool}{k3:Option Bool}(Zm:k3=some r->Ax Γ N f149 (.q [[none]] (D.bool r)) [1,1,1,0,1,0,0,1,1] ⟨[(1,D.ptr 0 0),(3,D.acc 1),(4,D.int .i64 (i1:Int))],[Ob.box (aK.c aB),Ob.row .uq 9 1 (vH.map tx)]⟩)(RV:DX.length<=maxLen):∀(rest:aG) (i3:Nat),DX.drop i3=rest->gG aB vH i1 bU JT DX k3 rest i3=some r->Ar Γ N f149 (.q [[none]] (D.bool r)) [1,1,1,0,1,0,0,1,0,0,1,1,1,1,1,0] (rest.length+1) (Jl aB vH i1 bU JT DX (i3:Int)):=by
 intro rest
 induction rest with
 |nil=>
  intro i3 yB h;rw[gG]at h;refine aU fun N3 TX Nn=>?_
  exact((aW.ge tx yB).a [.hl 3 [1,3,4] [0,1]]).ex hΓ TX (Zm h)
 |cons PZ My ih3=>
  intro i3 yB h;rw[gG]at h;refine aU fun N3 TX Nn=>?_
  obtain⟨a4U,h786,h⟩:=aC h;obtain⟨a7K,h788,h⟩:=aC h;have a1f:=((((((aW.lt tx yB).i (mO tx 1 (dc yB))).o 1 1 .uq (cV tx (dc yB))).g (jb h786)).a [.n 21]).g (rq h788))
  obtain⟨h789,h⟩|⟨h789,h⟩:=aO h
  ·have a1g:=(a1f.r 3 h789)
   obtain⟨h790,h⟩|⟨h790,h⟩:=aO h
   ·have h:=aN h;subst h;exact((((((a1g.r 4 h790).a [bF,bF]).r 2 h790).a [bF,bF,bF,bF,bF,bF,bF]).r 2 h790).T 1).ret hΓ
   ·have a1h:=(a1g.r 4 h790)
    obtain⟨h791,h⟩|⟨h791,h⟩:=aO h
    ·exact((((((a1h.r 2 h791).b h790).b h791).r 11 h790).F 1).a [.cn [1,3,4,5,6,7,8] [0,1,2,3,4]]).ct hΓ Nn (iS yB RV) (ih3 (i3+1) (dn yB) h)
    ·exact((((((((((a1h.r 2 h791).b h790).b h791).b h790).F 7).b h790).F 1).b h790).F 1).a [.cn [1,3,4,5,6,7,8] [0,1,2,3,4]]).ct hΓ Nn (iS yB RV) (ih3 (i3+1) (dn yB) h)
  ·have a1i:=((a1f.r 3 h789).F 4)
   obtain⟨h792,h⟩|⟨h792,h⟩:=aO h
   ·have a1j:=((((a1i.r 2 h792).F 1).b h792).F 1)
    obtain⟨h793,h⟩|⟨h793,h⟩:=aO h
    ·obtain⟨a7L,h795,h⟩:=aC h;have a1k:=(((((((((a1j.r 5 h793).i (mO tx 1 (dc yB))).b h793).o 1 1 .uq (cV tx (dc yB))).b h793).g (vl h795)).F 1).b h793).F 1)
     obtain⟨h796,h⟩|⟨h796,h⟩:=aO h
     ·have h:=aN h;subst h;exact(a1k.b h796).ret hΓ
     ·exact((a1k.b h796).a [.cn [1,3,4,5,6,7,8] [0,1,2,3,4]]).ct hΓ Nn (iS yB RV) (ih3 (i3+1) (dn yB) h)
    ·exact(((((a1j.r 7 h793).F 1).b h793).F 2).a [.cn [1,3,4,5,6,7,8] [0,1,2,3,4]]).ct hΓ Nn (iS yB RV) (ih3 (i3+1) (dn yB) h)
   ·exact(((((a1i.r 2 h792).F 1).b h792).F 12).a [.cn [1,3,4,5,6,7,8] [0,1,2,3,4]]).ct hΓ Nn (iS yB RV) (ih3 (i3+1) (dn yB) h)
theorem IN(hΓ:Γ.nt=145){aB:aK}{vH:aG}{r:Bool}{k1:Option Bool}(eF:k1=some r->Ax Γ N f149 (.q [[none]] (D.bool r)) [1,1,1,1] ⟨[(1,D.ptr 0 0),(3,D.acc 1)],[Ob.box (aK.c aB),Ob.row .uq 9 1 (vH.map tx)]⟩)(hm1:aB.conds.length<=maxLen):∀(rest:ah) (i1:Nat),aB.conds.drop i1=rest->kM aB vH k1 rest i1=some r->Ar Γ N f149 (.q [[none]] (D.bool r)) [1,1,1,0,1,0] (rest.length+1) (Jj aB vH (i1:Int)):=by
 intro rest
 induction rest with
 |nil=>
  intro i1 b8 h;rw[kM]at h;refine aU fun N1 cc cL=>?_
  exact((aW.ge aL.c b8).a [.hl 0 [1,3] [0,1]]).ex hΓ cc (eF h)
 |cons bU cO ih1=>
  intro i1 b8 h;rw[kM]at h;refine aU fun N1 cc cL=>?_
  obtain⟨a7H,h644,h⟩:=aC h;have a1l:=(((aW.lt aL.c b8).l (bO aL.c 5 (dc b8) rfl)).g (iT h644))
  obtain⟨h645,h⟩|⟨h645,h⟩:=aO h
  ·have h:=aN h;subst h;exact((((a1l.r 3 h645).a [bF,bF,bF]).r 2 h645).T 1).ret hΓ
  ·have a1m:=(a1l.r 3 h645)
   obtain⟨h646,h⟩|⟨h646,h⟩:=aO h
   ·have a1n:=((((a1m.r 3 h646).b h645).b h646).b h645)
    obtain⟨h647,h⟩|⟨h647,h⟩:=aO h
    ·have h:=aN h;subst h;exact(a1n.b h647).ret hΓ
    ·obtain⟨JS,h649,h⟩:=aC h;obtain⟨DW,h651,h⟩:=aC h;obtain⟨h722,h⟩:=bX h;refine((((a1n.b h647).g (jZ h649)).g (qB h651)).a [.cn [1,3,4,5,6,7,8] [0,1,2,3,4]]).lp hΓ (IP hΓ (fun h=>?_) (bY h722) DW 0 rfl h);exact(aW.a [.cn [1,3,4] [0,1]]).ct hΓ cL (iS b8 hm1) (ih1 (i1+1) (dn b8) h)
   ·obtain⟨JT,h724,h⟩:=aC h;obtain⟨DX,h726,h⟩:=aC h;obtain⟨h797,h⟩:=bX h;refine((((((((a1m.r 3 h646).b h645).b h646).b h645).F 1).g (jZ h724)).g (qB h726)).a [.cn [1,3,4,5,6,7,8] [0,1,2,3,4]]).lp hΓ (IQ hΓ (fun h=>?_) (bY h797) DX 0 rfl h);exact(aW.a [.cn [1,3,4] [0,1]]).ct hΓ cL (iS b8 hm1) (ih1 (i1+1) (dn b8) h)
def Jm(aB:aK)(vH:aG)(dQ:Int):St:=⟨[(1,D.ptr 0 0),(3,D.acc 1),(10,D.int .i64 dQ)],[Ob.box (aK.c aB),Ob.row .uq 9 1 (vH.map tx)]⟩
def Jn(aB:aK)(vH:aG)(i4:Nat)(JU:aG)(dQ:Int):St:=⟨[(1,D.ptr 0 0),(3,D.acc 1),(10,D.int .i64 (i4:Int)),(11,D.acc 2),(12,D.int .i64 dQ)],[Ob.box (aK.c aB),Ob.row .uq 9 1 (vH.map tx),Ob.row .uq 9 1 (JU.map tx)]⟩
theorem IS(hΓ:Γ.nt=145){aB:aK}{vH:aG}{i4:Nat}{JU:aG}{r:Bool}{k5:Option Bool}(hE5:k5=some r->Ax Γ N f149 (.q [[none]] (D.bool r)) [1,1,1,1,0,1,0,0,1,1] ⟨[(1,D.ptr 0 0),(3,D.acc 1),(10,D.int .i64 (i4:Int))],[Ob.box (aK.c aB),Ob.row .uq 9 1 (vH.map tx)]⟩)(hm5:JU.length<=maxLen):∀(rest:aG) (i5:Nat),JU.drop i5=rest->mm aB vH i4 JU k5 rest i5=some r->Ar Γ N f149 (.q [[none]] (D.bool r)) [1,1,1,1,0,1,0,0,1,0,0,1,1,1,0] (rest.length+1) (Jn aB vH i4 JU (i5:Int)):=by
 intro rest
 induction rest with
 |nil=>
  intro i5 hd5 h;rw[mm]at h;refine aU fun N5 hN5 hS5=>?_
  exact((aW.ge tx hd5).a [.hl 3 [1,3,10] [0,1]]).ex hΓ hN5 (hE5 h)
 |cons x5_ xs5 ih5=>
  intro i5 hd5 h;rw[mm]at h;refine aU fun N5 hN5 hS5=>?_
  obtain⟨a7O,h953,h⟩:=aC h;have a1o:=((((aW.lt tx hd5).i (mO tx 1 (dc hd5))).o 1 1 .uq (cV tx (dc hd5))).g (jb h953))
  obtain⟨h954,h⟩|⟨h954,h⟩:=aO h
  ·have h:=aN h;subst h;exact(a1o.b h954).ret hΓ
  ·exact((a1o.b h954).a [.cn [1,3,10,11,12] [0,1,2]]).ct hΓ hS5 (iS hd5 hm5) (ih5 (i5+1) (dn hd5) h)
theorem IR(hΓ:Γ.nt=145){aB:aK}{vH:aG}{r:Bool}{k4:Option Bool}(hE4:k4=some r->Ax Γ N f149 (.q [[none]] (D.bool r)) [1,1,1,1,1] ⟨[(1,D.ptr 0 0)],[Ob.box (aK.c aB)]⟩)(hm4:aB.cg.length<=maxLen):∀(rest:eG) (i4:Nat),aB.cg.drop i4=rest->mj aB vH k4 rest i4=some r->Ar Γ N f149 (.q [[none]] (D.bool r)) [1,1,1,1,0,1,0] (rest.length+1) (Jm aB vH (i4:Int)):=by
 intro rest
 induction rest with
 |nil=>
  intro i4 Rt h;rw[mj]at h;refine aU fun N4 hN4 hS4=>?_
  exact((aW.ge Action.c Rt).a [.hl 0 [1] [0]]).ex hΓ hN4 (hE4 h)
 |cons x4_ xs4 ih4=>
  intro i4 Rt h;rw[mj]at h;refine aU fun N4 hN4 hS4=>?_
  obtain⟨a7M,h927,h⟩:=aC h;have a1p:=(((aW.lt Action.c Rt).l (bO Action.c 3 (dc Rt) rfl)).g (EE h927))
  obtain⟨h928,h⟩|⟨h928,h⟩:=aO h
  ·have h:=aN h;subst h;exact(a1p.b h928).ret hΓ
  ·obtain⟨JU,h930,h⟩:=aC h;obtain⟨h955,h⟩:=bX h;refine((((a1p.b h928).l (bO Action.c 3 (dc Rt) rfl)).g (p6 h930)).a [.cn [1,3,10,11,12] [0,1,2]]).lp hΓ (IS hΓ (fun h=>?_) (bY h955) JU 0 rfl h);exact(aW.a [.cn [1,3,10] [0,1]]).ct hΓ hS4 (iS Rt hm4) (ih4 (i4+1) (dn Rt) h)
theorem fX{aB:aK}{r:Bool}(h:nA aB=some r):Good prog 149 [D.agg (aK.c aB)] (D.bool r):=by
 refine gd func149 [[none]] 145 fun hr Γ hΓ=>?_
 rw[nA]at h;obtain⟨y1,h2,h⟩:=aC h;obtain⟨h3,h⟩|⟨h3,h⟩:=aO h
 ·have h:=aN h;subst h;exact(((aW.g (mi h2)).r 5 h3).T 13).ret hΓ
 ·obtain⟨y4,h5,h⟩:=aC h;have a1q:=((((aW.g (mi h2)).r 3 h3).g (gJ h5)).r 2 h3)
  obtain⟨h6,h⟩|⟨h6,h⟩:=aO h
  ·have h:=aN h;subst h;exact((a1q.r 6 h6).T 7).ret hΓ
  ·obtain⟨y7,h8,h⟩:=aC h;have a1r:=(((a1q.r 4 h6).g (gJ h8)).r 2 h6)
   obtain⟨h9,h⟩|⟨h9,h⟩:=aO h
   ·have h:=aN h;subst h;exact((a1r.r 6 h9).T 1).ret hΓ
   ·obtain⟨GG,h11,h⟩:=aC h;have a1s:=(((a1r.r 4 h9).g (gJ h11)).r 2 h9)
    obtain⟨h12,h⟩|⟨h12,h⟩:=aO h
    ·have h:=aN h;subst h;exact(a1s.b h12).ret hΓ
    ·obtain⟨vH,h14,h⟩:=aC h;refine(((a1s.b h12).g (jZ h14)).a [.cn [1,3,4] [0,1]]).lp hΓ (IN hΓ (fun h=>?_) (by have:=(ij.sl (ij.agg (hr _ (aE (i:=0) rfl)) (.sl (aB.conds.map aL.c)) (by simp))).1;simpa using this) aB.conds 0 rfl h);refine(aW.a [.cn [1,3,10] [0,1]]).lp hΓ (IR hΓ (fun h=>?_) (by have:=(ij.sl (ij.agg (hr _ (aE (i:=0) rfl)) (.sl (aB.cg.map Action.c)) (by simp))).1;simpa using this) aB.cg 0 rfl h);obtain⟨a7P,h957,h⟩:=aC h;cases h;exact(aW.g (EL h957)).ret hΓ
def pT(aB:Bytes)(aY:Bytes)(k1:Int->aG->Option aG):Nat->Int->Int->aG->Option aG
 |0,_,_,_=>none
 |n1+1,dP,uS,bP=>(bif decide ((IntKind.i64.wrap (uS+(aY.length:Int)):Int)<=(aB.length:Int))then((xE aB.length (some (D.int .i64 uS)) (some (D.int .i64 (IntKind.i64.wrap (uS+(aY.length:Int)))))).bind fun p=>(fun l49 u50=>(bif ((aB.take u50).drop l49:Bytes)==aY then((xE aB.length (some (D.int .i64 dP)) (some (D.int .i64 uS))).bind fun p=>(fun l53 u54=>(bif room ((bP.map tx).length+([[D.str ((aB.take u54).drop l53)]]).length) 16 then(pT aB aY k1 n1 (IntKind.i64.wrap (uS+(aY.length:Int))) (IntKind.i64.wrap (uS+(aY.length:Int))) (bP++([(aB.take u54).drop l53])))else none)) p.1 p.2)else(pT aB aY k1 n1 dP (IntKind.i64.wrap (uS+1)) bP))) p.1 p.2)else(k1 dP bP))
def lI(aB:Bytes)(aY:Bytes):Option aG:=(bif (aY:Bytes)==([])then(bif room (([]:List aP).length+([[D.str aB]]).length) 16 then(some (([]:aG)++([aB])))else none)else(pT aB aY (fun(AF:Int) (cB:aG)=>((xE aB.length (some (D.int .i64 AF)) none).bind fun p=>(fun l57 u58=>(bif room ((cB.map tx).length+([[D.str ((aB.take u58).drop l57)]]).length) 16 then(some (cB++([(aB.take u58).drop l57])))else none)) p.1 p.2)) fuel 0 0 ([]:aG)))
def Cl(aB:Bytes)(aY:Bytes)(dP:Int)(uS:Int)(W2:List aP):St:=⟨[(0,D.str aB),(1,D.str aY),(5,D.acc 0),(6,D.int .i64 dP),(7,D.int .i64 uS)],[Ob.row .uq 9 1 W2]⟩
theorem Jo(hΓ:Γ.nt=51){aB:Bytes}{aY:Bytes}{r:aG}{k1:Int->aG->Option aG}(eF:∀(AF:Int) (cB:aG),k1 AF cB=some r->Ax Γ N f240 (.q [[some (9,1)]] (D.fr 9 1 (r.map tx))) [1,1,1,1,1] ⟨[(0,D.str aB),(5,D.acc 0),(6,D.int .i64 AF)],[Ob.row .uq 9 1 (cB.map tx)]⟩):∀(n1:Nat) (dP:Int) (uS:Int) (bP:aG),pT aB aY k1 n1 dP uS bP=some r->Ar Γ N f240 (.q [[some (9,1)]] (D.fr 9 1 (r.map tx))) [1,1,1,1,0,1,0] n1 (Cl aB aY dP uS (bP.map tx)):=by
 intro n
 induction n with
 |zero=>intro dP uS bP h;simp[pT]at h
 |succ n1 ih1=>
  intro dP uS bP h;rw[pT]at h;refine aU fun N1 cc cL=>?_
  obtain⟨h48,h⟩|⟨h48,h⟩:=aO h
  ·obtain⟨⟨l49,u50⟩,h51,h⟩:=aC h;have gr:=(((aW.b h48).w h51).a [.cut l49 u50])
   obtain⟨h52,h⟩|⟨h52,h⟩:=aO h
   ·obtain⟨⟨l53,u54⟩,h55,h⟩:=aC h;obtain⟨h56,h⟩:=bX h;exact((((gr.b h52).w h55).w (bq h56)).a [.cut l53 u54,.cn [0,1,5,6,7] [2]]).cs hΓ cL (Cl aB aY (IntKind.i64.wrap (uS+(aY.length:Int))) (IntKind.i64.wrap (uS+(aY.length:Int))) ((bP.map tx)++([[D.str ((aB.take u54).drop l53)]]))) (by first| (simp only[mA]<;>rfl)| (simp only[mA,aD.c,aR.c,aL.c,Action.c,aK.c,aT.c,bS.c,aZ.c,Node.c,aI.c,dU.c]<;>rfl)) (ih1 (IntKind.i64.wrap (uS+(aY.length:Int))) (IntKind.i64.wrap (uS+(aY.length:Int))) (bP++([(aB.take u54).drop l53])) h)
   ·exact((gr.b h52).a [.cn [0,1,5,6,7] [0]]).cf hΓ cL (ih1 dP (IntKind.i64.wrap (uS+1)) bP h)
  ·exact((aW.b h48).a [.hl 0 [0,5,6] [0]]).ex hΓ cc (eF dP bP h)
theorem gP{aB:Bytes}{aY:Bytes}{r:aG}(h:lI aB aY=some r):Good prog 240 [D.str aB,D.str aY] (D.fr 9 1 (r.map tx)):=by
 refine gd func240 [[some (9,1)]] 51 fun hr Γ hΓ=>?_
 rw[lI]at h;obtain⟨h1,h⟩|⟨h1,h⟩:=aO h
 ·obtain⟨h2,h⟩:=bX h;cases h;exact(((aW.a [.JV 4]).b h1).w (bq h2)).rts hΓ (D.fr 9 1 (([]:List aP)++([[D.str aB]]))) (by first|rfl| (simp only[mA]<;>rfl))
 ·refine(((aW.a [.JV 4]).b h1).a [.cn [0,1,5,6,7] [1]]).lp hΓ (Jo hΓ (fun AF cB h=>?_) fuel 0 0 ([]:aG) h);obtain⟨⟨l57,u58⟩,h59,h⟩:=aC h;obtain⟨h60,h⟩:=bX h;cases h;exact(((aW.w h59).w (bq h60)).a [.cut l57 u58]).rts hΓ (D.fr 9 1 ((cB.map tx)++([[D.str ((aB.take u58).drop l57)]]))) (by first|rfl| (simp only[mA]<;>rfl)| (simp only[mA,bh]<;>rfl))
def iC(k1:Option Bytes):Nat->Int->Bytes->Option Bytes
 |0,_,_=>none
 |n1+1,Ex,mK=>(bif decide (0<=(Ex:Int))&&decide (0<(10:Int))then(bif decide (([UInt8.ofNat (IntKind.u8.wrap (IntKind.i64.wrap (48+((Ex:Int)%10)))).toNat]:Bytes).length+(mK:Bytes).length<=maxLen)then(bif decide (0<=(Ex:Int))&&decide (0<(10:Int))then(bif ((Ex:Int)/10:Int)==0 then(some (([UInt8.ofNat (IntKind.u8.wrap (IntKind.i64.wrap (48+((Ex:Int)%10)))).toNat])++mK))else(iC k1 n1 ((Ex:Int)/10) (([UInt8.ofNat (IntKind.u8.wrap (IntKind.i64.wrap (48+((Ex:Int)%10)))).toNat])++mK)))else none)else none)else none)
def gh:Nat->Int->Option Bytes
 |0,_=>none
 |m_+1,aB=>(bif (aB:Int)==(-9223372036854775808)then(some ([45,57,50,50,51,51,55,50,48,51,54,56,53,52,55,55,53,56,48,56]))else(bif decide ((aB:Int)<0)then((gh m_ (IntKind.i64.wrap (0-aB))).bind fun y3=>(bif decide (([45]:Bytes).length+(y3:Bytes).length<=maxLen)then(some (([45])++y3))else none))else(iC none fuel aB ([]))))
def DE(Ex:Int)(mK:Bytes):St:=⟨[(0,D.int .i64 Ex),(3,D.str mK)],[]⟩
theorem CO(hΓ:Γ.nt=25){r:Bytes}{k1:Option Bytes}(eF:k1=some r->Ax Γ N f95 (.q [[none]] (D.str r)) [1,1,1,1,0,0] ⟨[],[]⟩):∀(n1:Nat) (Ex:Int) (mK:Bytes),iC k1 n1 Ex mK=some r->Ar Γ N f95 (.q [[none]] (D.str r)) [1,1,1,1,0] n1 (DE Ex mK):=by
 intro n
 induction n with
 |zero=>intro Ex mK h;simp[iC]at h
 |succ n1 ih1=>
  intro Ex mK h;rw[iC]at h;refine aU fun N1 cc cL=>?_
  obtain⟨h14,h⟩:=bX h;obtain⟨h15,h⟩:=bX h;obtain⟨h16,h⟩:=bX h;have gr:=(((aW.w (PA .i64 h14)).w (bY h15)).w (PA .i64 h16))
  obtain⟨h17,h⟩|⟨h17,h⟩:=aO h
  ·cases h;exact(gr.b h17).rts hΓ (D.str (([UInt8.ofNat (IntKind.u8.wrap (IntKind.i64.wrap (48+((Ex:Int)%10)))).toNat])++mK)) (by first|rfl| (simp only[mA]<;>rfl))
  ·exact((gr.b h17).a [.cn [0,3] []]).cf hΓ cL (ih1 ((Ex:Int)/10) (([UInt8.ofNat (IntKind.u8.wrap (IntKind.i64.wrap (48+((Ex:Int)%10)))).toNat])++mK) h)
theorem BU{m_:Nat}(ihR:∀ {aB:Int} {r:Bytes},gh m_ aB=some r->Good prog 95 [D.int .i64 aB] (D.str r)){aB:Int}{r:Bytes}(h:gh (m_+1) aB=some r):Good prog 95 [D.int .i64 aB] (D.str r):=by
 refine gd func95 [[none]] 25 fun hr Γ hΓ=>?_
 rw[gh]at h;obtain⟨h1,h⟩|⟨h1,h⟩:=aO h
 ·cases h;exact(aW.b h1).ret hΓ
 ·obtain⟨h2,h⟩|⟨h2,h⟩:=aO h
  ·obtain⟨y3,h4,h⟩:=aC h;obtain⟨h5,h⟩:=bX h;cases h;exact((((aW.b h1).b h2).g (ihR h4)).w (bY h5)).rts hΓ (D.str (([45])++y3)) (by first|rfl| (simp only[mA]<;>rfl))
  ·refine(((aW.b h1).b h2).a [.cn [0,3] []]).lp hΓ (CO hΓ (fun h=>?_) fuel aB ([]) h);cases h
theorem vf:∀(m_:Nat) {aB:Int} {r:Bytes},gh m_ aB=some r->Good prog 95 [D.int .i64 aB] (D.str r)
 |0,_,_,h=>by cases h
 |m_+1,_,_,h=>BU (fun h=>vf m_ h) h
def mh(aB:Int):Option Bytes:=gh fuel aB
theorem pH{aB:Int}{r:Bytes}(h:mh aB=some r):Good prog 95 [D.int .i64 aB] (D.str r):=vf fuel h
def iU(aB:Bytes)(k1:Int->Option (Int×Bool)):Nat->Int->Int->Option (Int×Bool)
 |0,_,_=>none
 |n1+1,rN,wT=>(bif decide ((wT:Int)<(aB.length:Int))then((hO aB wT).bind fun b25=>(bif decide ((b25.toNat:Int)<48)then(some (0,false))else(bif decide ((b25.toNat:Int)>57)then(some (0,false))else(iU aB k1 n1 (IntKind.i64.wrap ((IntKind.i64.wrap (10*rN))+(IntKind.i64.wrap (IntKind.u8.wrap (b25.toNat-48))))) (IntKind.i64.wrap (wT+1))))))else(k1 rN))
def mE(aB:Bytes):Option (Int×Bool):=((kU (aB.length:Int) 1 4).bind fun y1=>(bif !(y1)then(some (0,false))else(iU aB (fun(VL:Int)=>((mh VL).bind fun F1=>(bif !((F1:Bytes)==aB)then(some (0,false))else(some (VL,true))))) fuel 0 0)))
def H8(aB:Bytes)(rN:Int)(wT:Int):St:=⟨[(0,D.str aB),(4,D.int .i64 rN),(5,D.int .i64 wT)],[]⟩
theorem Fv(hΓ:Γ.nt=39){aB:Bytes}{r:Int×Bool}{k1:Int->Option (Int×Bool)}(eF:∀(VL:Int),k1 VL=some r->Ax Γ N f234 (.q [[none],[none]] (D.iE [D.int .i64 r.1,D.bool r.2])) [1,1,1,1] ⟨[(0,D.str aB),(4,D.int .i64 VL)],[]⟩):∀(n1:Nat) (rN:Int) (wT:Int),iU aB k1 n1 rN wT=some r->Ar Γ N f234 (.q [[none],[none]] (D.iE [D.int .i64 r.1,D.bool r.2])) [1,1,1,0,1,0] n1 (H8 aB rN wT):=by
 intro n
 induction n with
 |zero=>intro rN wT h;simp[iU]at h
 |succ n1 ih1=>
  intro rN wT h;rw[iU]at h;refine aU fun N1 cc cL=>?_
  obtain⟨h24,h⟩|⟨h24,h⟩:=aO h
  ·obtain⟨b25,h26,h⟩:=aC h;have kp:=((aW.b h24).c h26)
   obtain⟨h27,h⟩|⟨h27,h⟩:=aO h
   ·cases h;exact((kp.r 5 h27).T 1).ret hΓ
   ·have ko:=(((kp.r 3 h27).c h26).r 2 h27)
    obtain⟨h28,h⟩|⟨h28,h⟩:=aO h
    ·cases h;exact(ko.b h28).ret hΓ
    ·exact(((ko.b h28).c h26).a [.cn [0,4,5] []]).cf hΓ cL (ih1 (IntKind.i64.wrap ((IntKind.i64.wrap (10*rN))+(IntKind.i64.wrap (IntKind.u8.wrap (b25.toNat-48))))) (IntKind.i64.wrap (wT+1)) h)
  ·exact((aW.b h24).a [.hl 0 [0,4] []]).ex hΓ cc (eF rN h)
theorem qC{aB:Bytes}{r:Int×Bool}(h:mE aB=some r):Good prog 234 [D.str aB] (D.iE [D.int .i64 r.1,D.bool r.2]):=by
 refine gd func234 [[none],[none]] 39 fun hr Γ hΓ=>?_
 rw[mE]at h;obtain⟨y1,h2,h⟩:=aC h;obtain⟨h3,h⟩|⟨h3,h⟩:=aO h
 ·cases h;exact((aW.g (gJ h2)).b h3).ret hΓ
 ·refine(((aW.g (gJ h2)).b h3).a [.cn [0,4,5] []]).lp hΓ (Fv hΓ (fun VL h=>?_) fuel 0 0 h);obtain⟨F1,h30,h⟩:=aC h;obtain⟨h31,h⟩|⟨h31,h⟩:=aO h
  ·cases h;exact((aW.g (pH h30)).b h31).ret hΓ
  ·cases h;exact((aW.g (pH h30)).b h31).ret hΓ
def Aq(aB:Int):Option Bytes:=(bif (aB:Int)==3 then(some ([32,61,32]))else(bif (aB:Int)==4 then(some ([32,33,61,32]))else(some ([32,60,32]))))
theorem HI{aB:Int}{r:Bytes}(h:Aq aB=some r):Good prog 269 [D.int .i64 aB] (D.str r):=by
 refine gd func269 [[none]] 8 fun hr Γ hΓ=>?_
 rw[Aq]at h;obtain⟨h1,h⟩|⟨h1,h⟩:=aO h
 ·cases h;exact(aW.b h1).ret hΓ
 ·obtain⟨h2,h⟩|⟨h2,h⟩:=aO h
  ·cases h;exact((aW.b h1).b h2).ret hΓ
  ·cases h;exact((aW.b h1).b h2).ret hΓ
def zl(aB:Bytes):Option (Bytes×aG×Bool):=((lI aB ([40])).bind fun y1=>(bif (((y1.map tx).length:Int):Int) != 2 then(some ([],[],false))else((hO y1 1).bind fun x4=>(bif ((x4.length:Int):Int)==0 then(some ([],[],false))else((hO x4 (IntKind.i64.wrap ((x4.length:Int)-1))).bind fun b7=>(bif (b7.toNat:Int) != 41 then(some ([],[],false))else((xE x4.length none (some (D.int .i64 (IntKind.i64.wrap ((x4.length:Int)-1))))).bind fun p=>(fun l10 u11=>(bif ((x4.take u11).drop l10:Bytes)==([])then((hO y1 0).bind fun x14=>(some (x14,([]:aG),true)))else((hO y1 0).bind fun x16=>((lI ((x4.take u11).drop l10) ([44])).bind fun U7=>(some (x16,U7,true)))))) p.1 p.2)))))))
theorem ym{aB:Bytes}{r:Bytes×aG×Bool}(h:zl aB=some r):Good prog 290 [D.str aB] (D.iE [D.str r.1,D.fr 9 1 (r.2.1.map tx),D.bool r.2.2]):=by
 refine gd func290 [[none],[some (9,1)],[none]] 51 fun hr Γ hΓ=>?_
 rw[zl]at h;obtain⟨y1,h2,h⟩:=aC h;have pW:=((aW.g (gP h2)).a [.n 19])
 obtain⟨h3,h⟩|⟨h3,h⟩:=aO h
 ·cases h;exact((pW.r 6 h3).T 12).ret hΓ
 ·obtain⟨x4,h5,h⟩:=aC h;have gr:=(((((pW.r 2 h3).i (iG tx 1 h5)).b h3).o 1 1 .uq (cV tx (fG h5))).r 3 h3)
  obtain⟨h6,h⟩|⟨h6,h⟩:=aO h
  ·cases h;exact((gr.r 11 h6).T 1).ret hΓ
  ·obtain⟨b7,h8,h⟩:=aC h;have kp:=(((((((((((gr.r 2 h6).i (iG tx 1 h5)).b h6).o 1 1 .uq (cV tx (fG h5))).r 2 h6).i (iG tx 1 h5)).b h6).o 1 1 .uq (cV tx (fG h5))).r 3 h6).c h8).r 2 h6)
   obtain⟨h9,h⟩|⟨h9,h⟩:=aO h
   ·cases h;exact(kp.b h9).ret hΓ
   ·obtain⟨⟨l10,u11⟩,h12,h⟩:=aC h;have ko:=((((((((kp.b h9).a [.n 8]).i (iG tx 1 h5)).o 1 1 .uq (cV tx (fG h5))).i (iG tx 1 h5)).o 1 1 .uq (cV tx (fG h5))).w h12).a [.cut l10 u11])
    obtain⟨h13,h⟩|⟨h13,h⟩:=aO h
    ·obtain⟨x14,h15,h⟩:=aC h;cases h;exact(((ko.b h13).i (iG tx 1 h15)).o 1 1 .uq (cV tx (fG h15))).ret hΓ
    ·obtain⟨x16,h17,h⟩:=aC h;obtain⟨U7,h19,h⟩:=aC h;cases h;exact(((((ko.b h13).a [.n 5]).i (iG tx 1 h17)).o 1 1 .uq (cV tx (fG h17))).g (gP h19)).ret hΓ
def jP(aB:Bytes):Option (aD×Bool):=((zl aB).bind fun y1=>(bif !(y1.2.2)then(some ((⟨[],[]⟩:aD),false))else((gw (⟨y1.1,y1.2.1⟩:aD)).bind fun y4=>(bif !(y4)then(some ((⟨[],[]⟩:aD),false))else(some ((⟨y1.1,y1.2.1⟩:aD),true))))))
theorem jd{aB:Bytes}{r:aD×Bool}(h:jP aB=some r):Good prog 270 [D.str aB] (D.iE [D.agg [D.str r.1.rel,D.fr 9 1 (r.1.args.map tx)],D.bool r.2]):=by
 refine gd func270 [[none,some (9,1)],[none]] 26 fun hr Γ hΓ=>?_
 rw[jP]at h;obtain⟨y1,h2,h⟩:=aC h;obtain⟨h3,h⟩|⟨h3,h⟩:=aO h
 ·cases h;exact(((aW.g (ym h2)).r 4 h3).T 1).ret hΓ
 ·obtain⟨y4,h5,h⟩:=aC h;have pW:=(((((aW.g (ym h2)).r 2 h3).a [.d (D.bool y4)]).w (show Good prog 201 [D.agg [D.str y1.1,D.sl (y1.2.1.map tx)]] (D.bool y4)from by first| (simpa only[bG,av,bZ,bh,bn]using ez h5)|exact ez h5| (have t:=ez h5;simp only[bG,bh,bn,aD.c]at t;exact t))).r 2 h3)
  obtain⟨h6,h⟩|⟨h6,h⟩:=aO h
  ·cases h;exact(pW.b h6).ret hΓ
  ·cases h;exact(pW.b h6).ret hΓ
def lq(aB:Bytes)(k1:Option (aL×Bool)):Nat->Int->Option (aL×Bool)
 |0,_=>none
 |n1+1,rN=>(bif decide ((rN:Int)<=5)then((Aq rN).bind fun AE=>((lI aB AE).bind fun yU=>(bif (((yU.map tx).length:Int):Int)==2 then((hO yU 0).bind fun x33=>((hO yU 1).bind fun x35=>((oR (⟨rN,(⟨[],[]⟩:aD),x33,x35⟩:aL)).bind fun Mq=>(bif Mq then(some ((⟨rN,(⟨[],[]⟩:aD),x33,x35⟩:aL),true))else(lq aB k1 n1 (IntKind.i64.wrap (rN+1)))))))else(lq aB k1 n1 (IntKind.i64.wrap (rN+1))))))else(k1))
def xA(aB:Bytes):Option (aL×Bool):=(lq aB (bif decide (((aB.length:Int):Int)>4)then((xE aB.length none (some (D.int .i64 4))).bind fun p=>(fun l41 u42=>(bif ((aB.take u42).drop l41:Bytes)==([110,111,116,32])then((xE aB.length (some (D.int .i64 4)) none).bind fun p=>(fun l45 u46=>((jP ((aB.take u46).drop l45)).bind fun y48=>(bif !(y48.2)then(some ((⟨0,(⟨[],[]⟩:aD),[],[]⟩:aL),false))else(some ((⟨2,y48.1,[],[]⟩:aL),true))))) p.1 p.2)else((jP aB).bind fun y51=>(bif !(y51.2)then(some ((⟨0,(⟨[],[]⟩:aD),[],[]⟩:aL),false))else(some ((⟨1,y51.1,[],[]⟩:aL),true)))))) p.1 p.2)else((jP aB).bind fun JR=>(bif !(JR.2)then(some ((⟨0,(⟨[],[]⟩:aD),[],[]⟩:aL),false))else(some ((⟨1,JR.1,[],[]⟩:aL),true))))) fuel 3)
def Fu(aB:Bytes)(rN:Int):St:=⟨[(0,D.str aB),(2,D.ptr 0 0),(4,D.int .i64 rN)],[Ob.box [D.int .i64 0,D.str ([]),D.nil,D.str ([]),D.str ([])]]⟩
theorem EI(hΓ:Γ.nt=55){aB:Bytes}{r:aL×Bool}{k1:Option (aL×Bool)}(eF:k1=some r->Ax Γ N f255 (.q [[none,none,some (9,1),none,none],[none]] (D.iE [D.agg [D.int .i64 r.1.kind,D.str r.1.pat.rel,D.fr 9 1 (r.1.pat.args.map tx),D.str r.1.left,D.str r.1.right],D.bool r.2])) [1,1] ⟨[(0,D.str aB),(2,D.ptr 0 0)],[Ob.box [D.int .i64 0,D.str ([]),D.nil,D.str ([]),D.str ([])]]⟩):∀(n1:Nat) (rN:Int),lq aB k1 n1 rN=some r->Ar Γ N f255 (.q [[none,none,some (9,1),none,none],[none]] (D.iE [D.agg [D.int .i64 r.1.kind,D.str r.1.pat.rel,D.fr 9 1 (r.1.pat.args.map tx),D.str r.1.left,D.str r.1.right],D.bool r.2])) [1,0,1,0] n1 (Fu aB rN):=by
 intro n
 induction n with
 |zero=>intro rN h;simp[lq]at h
 |succ n1 ih1=>
  intro rN h;rw[lq]at h;refine aU fun N1 cc cL=>?_
  obtain⟨h27,h⟩|⟨h27,h⟩:=aO h
  ·obtain⟨AE,h29,h⟩:=aC h;obtain⟨yU,h31,h⟩:=aC h;have kp:=(((aW.b h27).g (HI h29)).g (gP h31))
   obtain⟨h32,h⟩|⟨h32,h⟩:=aO h
   ·obtain⟨x33,h34,h⟩:=aC h;obtain⟨x35,h36,h⟩:=aC h;obtain⟨Mq,h38,h⟩:=aC h;have ko:=((((((((kp.b h32).a [.n 9]).i (iG tx 1 h34)).o 1 1 .uq (cV tx (fG h34))).i (iG tx 1 h36)).o 1 1 .uq (cV tx (fG h36))).a [.d (D.bool Mq)]).w (show Good prog 209 [D.agg [D.int .i64 rN,D.str ([]),D.sl ([]),D.str x33,D.str x35]] (D.bool Mq)from by first| (simpa only[bG,av,bZ,bh,bn]using iT h38)|exact iT h38| (have t:=iT h38;simp only[bG,bh,bn,aL.c]at t;exact t)))
    obtain⟨h39,h⟩|⟨h39,h⟩:=aO h
    ·cases h;exact(ko.b h39).ret hΓ
    ·exact((ko.b h39).a [.cn [0,2,4] [0]]).cf hΓ cL (ih1 (IntKind.i64.wrap (rN+1)) h)
   ·exact((kp.b h32).a [.cn [0,2,4] [0]]).cf hΓ cL (ih1 (IntKind.i64.wrap (rN+1)) h)
  ·exact((aW.b h27).a [.hl 0 [0,2] [0]]).ex hΓ cc (eF h)
theorem DH{aB:Bytes}{r:aL×Bool}(h:xA aB=some r):Good prog 255 [D.str aB] (D.iE [D.agg [D.int .i64 r.1.kind,D.str r.1.pat.rel,D.fr 9 1 (r.1.pat.args.map tx),D.str r.1.left,D.str r.1.right],D.bool r.2]):=by
 refine gd func255 [[none,none,some (9,1),none,none],[none]] 55 fun hr Γ hΓ=>?_
 rw[xA]at h;refine(aW.a [.cn [0,2,4] [0]]).lp hΓ (EI hΓ (fun h=>?_) fuel 3 h);obtain⟨h40,h⟩|⟨h40,h⟩:=aO h
 ·obtain⟨⟨l41,u42⟩,h43,h⟩:=aC h;have tN:=((((aW.r 2 h40).w h43).a [.cut l41 u42]).r 2 h40)
  obtain⟨h44,h⟩|⟨h44,h⟩:=aO h
  ·obtain⟨⟨l45,u46⟩,h47,h⟩:=aC h;obtain⟨y48,h49,h⟩:=aC h;have xp:=((((tN.b h44).w h47).a [.cut l45 u46]).g (jd h49))
   obtain⟨h50,h⟩|⟨h50,h⟩:=aO h
   ·cases h;exact(xp.b h50).ret hΓ
   ·cases h;exact(xp.b h50).ret hΓ
  ·obtain⟨y51,h52,h⟩:=aC h;have B0:=((tN.b h44).g (jd h52))
   obtain⟨h53,h⟩|⟨h53,h⟩:=aO h
   ·cases h;exact(B0.b h53).ret hΓ
   ·cases h;exact(B0.b h53).ret hΓ
 ·obtain⟨JR,h55,h⟩:=aC h;have GU:=(((aW.r 4 h40).F 1).g (jd h55))
  obtain⟨h56,h⟩|⟨h56,h⟩:=aO h
  ·cases h;exact(GU.b h56).ret hΓ
  ·cases h;exact(GU.b h56).ret hΓ
def yN(aB:Bytes):Option (Action×Bool):=(bif (aB:Bytes)==([115,116,111,112])then(some ((⟨3,(⟨[],[]⟩:aD)⟩:Action),true))else((lI aB ([32])).bind fun y2=>(bif (((y2.map tx).length:Int):Int) != 2 then(some ((⟨0,(⟨[],[]⟩:aD)⟩:Action),false))else((hO y2 0).bind fun x5=>(bif !((x5:Bytes)==([97,100,100]))then(bif !((x5:Bytes)==([100,114,111,112]))then(some ((⟨0,(⟨[],[]⟩:aD)⟩:Action),false))else((hO y2 1).bind fun x9=>((jP x9).bind fun Mp=>(bif (x5:Bytes)==([97,100,100])then(some ((⟨1,Mp.1⟩:Action),Mp.2))else(some ((⟨2,Mp.1⟩:Action),Mp.2))))))else((hO y2 1).bind fun x14=>((jP x14).bind fun NO=>(bif (x5:Bytes)==([97,100,100])then(some ((⟨1,NO.1⟩:Action),NO.2))else(some ((⟨2,NO.1⟩:Action),NO.2))))))))))
theorem EQ{aB:Bytes}{r:Action×Bool}(h:yN aB=some r):Good prog 256 [D.str aB] (D.iE [D.agg [D.int .i64 r.1.kind,D.str r.1.pat.rel,D.fr 9 1 (r.1.pat.args.map tx)],D.bool r.2]):=by
 refine gd func256 [[none,none,some (9,1)],[none]] 45 fun hr Γ hΓ=>?_
 rw[yN]at h;obtain⟨h1,h⟩|⟨h1,h⟩:=aO h
 ·cases h;exact(aW.b h1).ret hΓ
 ·obtain⟨y2,h3,h⟩:=aC h;have pW:=((aW.b h1).g (gP h3))
  obtain⟨h4,h⟩|⟨h4,h⟩:=aO h
  ·cases h;exact((((pW.r 5 h4).a [bF,bF,bF,bF]).r 2 h4).T 1).ret hΓ
  ·obtain⟨x5,h6,h⟩:=aC h;have gr:=(((((pW.r 2 h4).i (iG tx 1 h6)).b h4).o 1 1 .uq (cV tx (fG h6))).r 2 h4)
   obtain⟨h7,h⟩|⟨h7,h⟩:=aO h
   ·have kp:=((((((((gr.r 2 h7).i (iG tx 1 h6)).b h7).o 1 1 .uq (cV tx (fG h6))).b h7).b h4).b h7).b h4)
    obtain⟨h8,h⟩|⟨h8,h⟩:=aO h
    ·cases h;exact(kp.b h8).ret hΓ
    ·obtain⟨x9,h10,h⟩:=aC h;obtain⟨Mp,h12,h⟩:=aC h;have ko:=((((((kp.b h8).i (iG tx 1 h10)).o 1 1 .uq (cV tx (fG h10))).g (jd h12)).i (iG tx 1 h6)).o 1 1 .uq (cV tx (fG h6)))
     obtain⟨h13,h⟩|⟨h13,h⟩:=aO h
     ·cases h;exact(ko.b h13).ret hΓ
     ·cases h;exact(ko.b h13).ret hΓ
   ·obtain⟨x14,h15,h⟩:=aC h;obtain⟨NO,h17,h⟩:=aC h;have tN:=((((((((((gr.r 4 h7).b h4).b h7).b h4).F 1).i (iG tx 1 h15)).o 1 1 .uq (cV tx (fG h15))).g (jd h17)).i (iG tx 1 h6)).o 1 1 .uq (cV tx (fG h6)))
    obtain⟨h18,h⟩|⟨h18,h⟩:=aO h
    ·cases h;exact(tN.b h18).ret hΓ
    ·cases h;exact(tN.b h18).ret hΓ
def qE(aB:aK)(cT:Bytes)(y1:aG)(k1:ah->Option (aK×Bool)):aG->Nat->ah->Option (aK×Bool)
 | [],i1,cz=>(k1 cz)
 |bU::cO,i1,cz=>((xA bU).bind fun RQ=>(bif !(RQ.2)then(some ((⟨aB.name,aB.prio,cz,[]⟩:aK),false))else(bif room ((cz.map aL.c).length+([[D.int .i64 RQ.1.kind,D.str RQ.1.pat.rel,D.sl (RQ.1.pat.args.map tx),D.str RQ.1.left,D.str RQ.1.right]]).length) 80 then(qE aB cT y1 k1 cO (i1+1) (cz++([RQ.1])))else none)))
def qF(aB:aK)(oN:ah)(Da:aG)(k2:eG->Option (aK×Bool)):aG->Nat->eG->Option (aK×Bool)
 | [],i2,jj=>(k2 jj)
 |jg::tR,i2,jj=>((yN jg).bind fun DY=>(bif !(DY.2)then(some ((⟨aB.name,aB.prio,oN,jj⟩:aK),false))else(bif room ((jj.map Action.c).length+([[D.int .i64 DY.1.kind,D.str DY.1.pat.rel,D.sl (DY.1.pat.args.map tx)]]).length) 48 then(qF aB oN Da k2 tR (i2+1) (jj++([DY.1])))else none)))
def zo(aB:aK)(aY:Bytes)(cT:Bytes):Option (aK×Bool):=((lI aY ([32,38,32])).bind fun y1=>(bif decide (y1.length<=maxLen)then(qE aB cT y1 (fun(oN:ah)=>((lI cT ([32,38,32])).bind fun Da=>(bif decide (Da.length<=maxLen)then(qF aB oN Da (fun(vU:eG)=>((nA (⟨aB.name,aB.prio,oN,vU⟩:aK)).bind fun y77=>(some ((⟨aB.name,aB.prio,oN,vU⟩:aK),y77)))) Da 0 ([]:eG))else none))) y1 0 ([]:ah))else none))
def AZ(aB:aK)(cT:Bytes)(y1:aG)(W0:List aP)(dQ:Int):St:=⟨[(2,D.str cT),(3,D.ptr 0 0),(6,D.ptr 1 0),(8,D.acc 2),(9,D.int .i64 dQ)],[Ob.box [D.str aB.name,D.int .i64 aB.prio,D.acc 3,D.nil],Ob.box [D.str ([]),D.int .i64 0,D.nil,D.nil],Ob.row .uq 9 1 (y1.map tx),Ob.row .uq 47 5 W0]⟩
theorem HM(hΓ:Γ.nt=69){aB:aK}{cT:Bytes}{y1:aG}{r:aK×Bool}{k1:ah->Option (aK×Bool)}(eF:∀(oN:ah),k1 oN=some r->Ax Γ N f241 (.q [[none,none,some (47,5),some (167,3)],[none]] (D.iE [D.agg [D.str r.1.name,D.int .i64 r.1.prio,D.fr 47 5 (r.1.conds.map aL.c),D.fr 167 3 (r.1.cg.map Action.c)],D.bool r.2])) [1,1,1] ⟨[(2,D.str cT),(3,D.ptr 0 0),(6,D.ptr 1 0)],[Ob.box [D.str aB.name,D.int .i64 aB.prio,D.acc 2,D.nil],Ob.box [D.str ([]),D.int .i64 0,D.nil,D.nil],Ob.row .uq 47 5 (oN.map aL.c)]⟩)(hm1:y1.length<=maxLen):∀(rest:aG) (i1:Nat) (cz:ah),y1.drop i1=rest->qE aB cT y1 k1 rest i1 cz=some r->Ar Γ N f241 (.q [[none,none,some (47,5),some (167,3)],[none]] (D.iE [D.agg [D.str r.1.name,D.int .i64 r.1.prio,D.fr 47 5 (r.1.conds.map aL.c),D.fr 167 3 (r.1.cg.map Action.c)],D.bool r.2])) [1,1,0,1,0] (rest.length+1) (AZ aB cT y1 (cz.map aL.c) (i1:Int)):=by
 intro rest
 induction rest with
 |nil=>
  intro i1 cz b8 h;rw[qE]at h;refine aU fun N1 cc cL=>?_
  exact((aW.ge tx b8).a [.hl 0 [2,3,6] [0,1,3]]).ex hΓ cc (eF cz h)
 |cons bU cO ih1=>
  intro i1 cz b8 h;rw[qE]at h;refine aU fun N1 cc cL=>?_
  obtain⟨RQ,h36,h⟩:=aC h;have kp:=((((aW.lt tx b8).i (mO tx 1 (dc b8))).o 1 1 .uq (cV tx (dc b8))).g (DH h36))
  obtain⟨h37,h⟩|⟨h37,h⟩:=aO h
  ·cases h;exact(kp.b h37).ret hΓ
  ·obtain⟨h38,h⟩:=bX h;exact(((kp.b h37).w (bq h38)).a [.cn [2,3,6,8,9] [0,1,2,7]]).cs hΓ cL (AZ aB cT y1 ((cz.map aL.c)++([[D.int .i64 RQ.1.kind,D.str RQ.1.pat.rel,D.sl (RQ.1.pat.args.map tx),D.str RQ.1.left,D.str RQ.1.right]])) (IntKind.i64.wrap ((i1:Int)+1))) (by first| (simp only[iS b8 hm1,mA]<;>rfl)| (simp only[iS b8 hm1,mA,aD.c,aR.c,aL.c,Action.c,aK.c,aT.c,bS.c,aZ.c,Node.c,aI.c,dU.c]<;>rfl)) (ih1 (i1+1) (cz++([RQ.1])) (dn b8) h)
def Aa(aB:aK)(oN:ah)(Da:aG)(W0:List aP)(dQ:Int):St:=⟨[(3,D.ptr 0 0),(6,D.ptr 1 0),(12,D.acc 2),(13,D.int .i64 dQ)],[Ob.box [D.str aB.name,D.int .i64 aB.prio,D.acc 3,D.acc 4],Ob.box [D.str ([]),D.int .i64 0,D.nil,D.nil],Ob.row .uq 9 1 (Da.map tx),Ob.row .uq 47 5 (oN.map aL.c),Ob.row .uq 167 3 W0]⟩
theorem HN(hΓ:Γ.nt=69){aB:aK}{oN:ah}{Da:aG}{r:aK×Bool}{k2:eG->Option (aK×Bool)}(B7:∀(vU:eG),k2 vU=some r->Ax Γ N f241 (.q [[none,none,some (47,5),some (167,3)],[none]] (D.iE [D.agg [D.str r.1.name,D.int .i64 r.1.prio,D.fr 47 5 (r.1.conds.map aL.c),D.fr 167 3 (r.1.cg.map Action.c)],D.bool r.2])) [1,1,1,1,1] ⟨[(3,D.ptr 0 0),(6,D.ptr 1 0)],[Ob.box [D.str aB.name,D.int .i64 aB.prio,D.acc 2,D.acc 3],Ob.box [D.str ([]),D.int .i64 0,D.nil,D.nil],Ob.row .uq 47 5 (oN.map aL.c),Ob.row .uq 167 3 (vU.map Action.c)]⟩)(hm2:Da.length<=maxLen):∀(rest:aG) (i2:Nat) (jj:eG),Da.drop i2=rest->qF aB oN Da k2 rest i2 jj=some r->Ar Γ N f241 (.q [[none,none,some (47,5),some (167,3)],[none]] (D.iE [D.agg [D.str r.1.name,D.int .i64 r.1.prio,D.fr 47 5 (r.1.conds.map aL.c),D.fr 167 3 (r.1.cg.map Action.c)],D.bool r.2])) [1,1,1,1,0,1,0] (rest.length+1) (Aa aB oN Da (jj.map Action.c) (i2:Int)):=by
 intro rest
 induction rest with
 |nil=>
  intro i2 jj hd2 h;rw[qF]at h;refine aU fun N2 vv tQ=>?_
  exact((aW.ge tx hd2).a [.hl 0 [3,6] [0,1,3,4]]).ex hΓ vv (B7 jj h)
 |cons jg tR ih2=>
  intro i2 jj hd2 h;rw[qF]at h;refine aU fun N2 vv tQ=>?_
  obtain⟨DY,h74,h⟩:=aC h;have ko:=((((aW.lt tx hd2).i (mO tx 1 (dc hd2))).o 1 1 .uq (cV tx (dc hd2))).g (EQ h74))
  obtain⟨h75,h⟩|⟨h75,h⟩:=aO h
  ·cases h;exact(ko.b h75).ret hΓ
  ·obtain⟨h76,h⟩:=bX h;exact(((ko.b h75).w (bq h76)).a [.cn [3,6,12,13] [0,1,2,3,8]]).cs hΓ tQ (Aa aB oN Da ((jj.map Action.c)++([[D.int .i64 DY.1.kind,D.str DY.1.pat.rel,D.sl (DY.1.pat.args.map tx)]])) (IntKind.i64.wrap ((i2:Int)+1))) (by first| (simp only[iS hd2 hm2,mA]<;>rfl)| (simp only[iS hd2 hm2,mA,aD.c,aR.c,aL.c,Action.c,aK.c,aT.c,bS.c,aZ.c,Node.c,aI.c,dU.c]<;>rfl)) (ih2 (i2+1) (jj++([DY.1])) (dn hd2) h)
theorem uh{aB:aK}{aY:Bytes}{cT:Bytes}{r:aK×Bool}(h:zo aB aY cT=some r):Good prog 241 [D.agg [D.str aB.name,D.int .i64 aB.prio,D.nil,D.nil],D.str aY,D.str cT] (D.iE [D.agg [D.str r.1.name,D.int .i64 r.1.prio,D.fr 47 5 (r.1.conds.map aL.c),D.fr 167 3 (r.1.cg.map Action.c)],D.bool r.2]):=by
 refine gd func241 [[none,none,some (47,5),some (167,3)],[none]] 69 fun hr Γ hΓ=>?_
 rw[zo]at h;obtain⟨y1,h2,h⟩:=aC h;obtain⟨h80,h⟩:=bX h;refine((aW.g (gP h2)).a [.pb 0 2 47 5,.cn [2,3,6,8,9] [0,1,2,3]]).lp hΓ (HM hΓ (fun oN h=>?_) (bY h80) y1 0 ([]:ah) rfl h);obtain⟨Da,h40,h⟩:=aC h;obtain⟨h79,h⟩:=bX h;refine((aW.g (gP h40)).a [.pb 0 3 167 3,.cn [3,6,12,13] [0,1,3,2,4]]).lp hΓ (HN hΓ (fun vU h=>?_) (bY h79) Da 0 ([]:eG) rfl h);obtain⟨y77,h78,h⟩:=aC h;cases h;exact((aW.a [.n 3,.d (D.bool y77)]).w (show Good prog 149 [D.agg [D.str aB.name,D.int .i64 aB.prio,D.sl (oN.map aL.c),D.sl (vU.map Action.c)]] (D.bool y77)from by first| (simpa only[bG,av,bZ,bh,bn]using fX h78)|exact fX h78| (have t:=fX h78;simp only[bG,bh,bn,aK.c]at t;exact t))).ret hΓ
def kO(aB:Bytes):Option (aK×Bool):=((lI aB ([58,32])).bind fun y1=>(bif (((y1.map tx).length:Int):Int) != 2 then(some ((⟨[],0,[],[]⟩:aK),false))else((hO y1 0).bind fun x4=>((lI x4 ([32])).bind fun y6=>((hO y1 1).bind fun x8=>((lI x8 ([32,45,62,32])).bind fun GG=>(bif (((y6.map tx).length:Int):Int) != 2 then(some ((⟨[],0,[],[]⟩:aK),false))else(bif (((GG.map tx).length:Int):Int) != 2 then(some ((⟨[],0,[],[]⟩:aK),false))else((hO y6 1).bind fun x14=>((mE x14).bind fun NO=>(bif !(NO.2)then(some ((⟨[],0,[],[]⟩:aK),false))else((hO y6 0).bind fun x19=>((hO GG 0).bind fun x21=>((hO GG 1).bind fun x23=>((zo (⟨x19,NO.1,[],[]⟩:aK) x21 x23).bind fun vI=>(bif !(vI.2)then(some ((⟨[],0,[],[]⟩:aK),false))else(some (vI.1,true))))))))))))))))))
theorem DI{aB:Bytes}{r:aK×Bool}(h:kO aB=some r):Good prog 220 [D.str aB] (D.iE [D.agg [D.str r.1.name,D.int .i64 r.1.prio,D.fr 47 5 (r.1.conds.map aL.c),D.fr 167 3 (r.1.cg.map Action.c)],D.bool r.2]):=by
 refine gd func220 [[none,none,some (47,5),some (167,3)],[none]] 63 fun hr Γ hΓ=>?_
 rw[kO]at h;obtain⟨y1,h2,h⟩:=aC h;obtain⟨h3,h⟩|⟨h3,h⟩:=aO h
 ·cases h;exact((aW.g (gP h2)).b h3).ret hΓ
 ·obtain⟨x4,h5,h⟩:=aC h;obtain⟨y6,h7,h⟩:=aC h;obtain⟨x8,h9,h⟩:=aC h;obtain⟨GG,h11,h⟩:=aC h;have pW:=((((((((aW.g (gP h2)).b h3).i (iG tx 1 h5)).o 1 1 .uq (cV tx (fG h5))).g (gP h7)).i (iG tx 1 h9)).o 1 1 .uq (cV tx (fG h9))).g (gP h11))
  obtain⟨h12,h⟩|⟨h12,h⟩:=aO h
  ·cases h;exact((pW.r 4 h12).T 1).ret hΓ
  ·have gr:=(pW.r 4 h12)
   obtain⟨h13,h⟩|⟨h13,h⟩:=aO h
   ·cases h;exact(gr.b h13).ret hΓ
   ·obtain⟨x14,h15,h⟩:=aC h;obtain⟨NO,h17,h⟩:=aC h;have kp:=((((gr.b h13).i (iG tx 1 h15)).o 1 1 .uq (cV tx (fG h15))).g (qC h17))
    obtain⟨h18,h⟩|⟨h18,h⟩:=aO h
    ·cases h;exact(kp.b h18).ret hΓ
    ·obtain⟨x19,h20,h⟩:=aC h;obtain⟨x21,h22,h⟩:=aC h;obtain⟨x23,h24,h⟩:=aC h;obtain⟨vI,h26,h⟩:=aC h;have ko:=((((((((((kp.b h18).a [.n 17]).i (iG tx 1 h20)).o 1 1 .uq (cV tx (fG h20))).i (iG tx 1 h22)).o 1 1 .uq (cV tx (fG h22))).i (iG tx 1 h24)).o 1 1 .uq (cV tx (fG h24))).a [.nl (D.iE [D.agg [D.str vI.1.name,D.int .i64 vI.1.prio,D.fr 47 5 (vI.1.conds.map aL.c),D.fr 167 3 (vI.1.cg.map Action.c)],D.bool vI.2])]).w (show Good prog 241 [D.agg [D.str x19,D.int .i64 NO.1,D.nil,D.nil],D.str x21,D.str x23] (D.iE [D.agg [D.str vI.1.name,D.int .i64 vI.1.prio,D.fr 47 5 (vI.1.conds.map aL.c),D.fr 167 3 (vI.1.cg.map Action.c)],D.bool vI.2])from by first| (simpa only[bG,av,bZ,bh,bn]using uh h26)|exact uh h26| (have t:=uh h26;simp only[bG,bh,bn,aK.c]at t;exact t)))
     obtain⟨h27,h⟩|⟨h27,h⟩:=aO h
     ·cases h;exact(ko.b h27).ret hΓ
     ·cases h;exact(ko.b h27).ret hΓ
def iZ(aB:cj)(aY:Int):Option (cj×aK):=((di aB (NK aY ((([[114,32,49,58,32,111,110,40,63,120,44,63,121,41,32,38,32,111,110,40,63,121,44,63,122,41,32,45,62,32,97,100,100,32,111,110,40,63,120,44,63,122,41],[114,32,50,58,32,111,110,40,63,120,44,63,121,41,32,38,32,112,40,63,121,41,32,45,62,32,97,100,100,32,112,40,63,120,41],[114,32,48,58,32,112,40,63,120,41,32,38,32,111,110,40,63,120,44,63,121,41,32,38,32,63,120,32,33,61,32,63,121,32,45,62,32,97,100,100,32,97,116,40,63,121,44,63,120,41],[114,32,51,58,32,97,116,40,63,120,44,63,121,41,32,38,32,112,40,63,120,41,32,38,32,112,40,63,121,41,32,38,32,63,120,32,60,32,63,121,32,45,62,32,97,100,100,32,122,40,41],[114,32,52,58,32,111,110,40,63,120,44,97,41,32,45,62,32,97,100,100,32,113,40,63,120,41,32,38,32,97,100,100,32,112,40,97,41],[114,32,49,58,32,97,116,40,63,120,44,63,120,41,32,38,32,113,40,49,41,32,45,62,32,97,100,100,32,111,110,40,63,120,44,49,41],[114,32,49,58,32,112,40,63,120,41,32,38,32,110,111,116,32,113,40,63,120,41,32,45,62,32,97,100,100,32,97,116,40,63,120,44,98,41],[114,32,50,58,32,111,110,40,63,120,44,63,121,41,32,38,32,110,111,116,32,97,116,40,63,121,44,63,122,41,32,45,62,32,97,100,100,32,113,40,63,121,41],[114,32,53,58,32,97,116,40,63,120,44,63,121,41,32,38,32,110,111,116,32,112,40,63,121,41,32,38,32,63,120,32,33,61,32,63,121,32,45,62,32,97,100,100,32,122,40,41],[114,32,57,58,32,113,40,63,120,41,32,38,32,112,40,63,120,41,32,45,62,32,100,114,111,112,32,112,40,63,120,41],[114,32,48,58,32,97,116,40,63,120,44,49,41,32,38,32,97,116,40,63,121,44,50,41,32,38,32,63,120,32,61,32,63,121,32,45,62,32,100,114,111,112,32,97,116,40,63,120,44,49,41,32,38,32,115,116,111,112],[114,32,49,58,32,111,110,40,63,120,44,63,120,41,32,45,62,32,115,116,111,112],[114,32,55,58,32,122,40,41,32,38,32,111,110,40,63,120,44,63,121,41,32,45,62,32,100,114,111,112,32,122,40,41,32,38,32,97,100,100,32,111,110,40,63,121,44,63,120,41]]:aG).map tx).length:Int))).bind fun y1=>((hO ([[114,32,49,58,32,111,110,40,63,120,44,63,121,41,32,38,32,111,110,40,63,121,44,63,122,41,32,45,62,32,97,100,100,32,111,110,40,63,120,44,63,122,41],[114,32,50,58,32,111,110,40,63,120,44,63,121,41,32,38,32,112,40,63,121,41,32,45,62,32,97,100,100,32,112,40,63,120,41],[114,32,48,58,32,112,40,63,120,41,32,38,32,111,110,40,63,120,44,63,121,41,32,38,32,63,120,32,33,61,32,63,121,32,45,62,32,97,100,100,32,97,116,40,63,121,44,63,120,41],[114,32,51,58,32,97,116,40,63,120,44,63,121,41,32,38,32,112,40,63,120,41,32,38,32,112,40,63,121,41,32,38,32,63,120,32,60,32,63,121,32,45,62,32,97,100,100,32,122,40,41],[114,32,52,58,32,111,110,40,63,120,44,97,41,32,45,62,32,97,100,100,32,113,40,63,120,41,32,38,32,97,100,100,32,112,40,97,41],[114,32,49,58,32,97,116,40,63,120,44,63,120,41,32,38,32,113,40,49,41,32,45,62,32,97,100,100,32,111,110,40,63,120,44,49,41],[114,32,49,58,32,112,40,63,120,41,32,38,32,110,111,116,32,113,40,63,120,41,32,45,62,32,97,100,100,32,97,116,40,63,120,44,98,41],[114,32,50,58,32,111,110,40,63,120,44,63,121,41,32,38,32,110,111,116,32,97,116,40,63,121,44,63,122,41,32,45,62,32,97,100,100,32,113,40,63,121,41],[114,32,53,58,32,97,116,40,63,120,44,63,121,41,32,38,32,110,111,116,32,112,40,63,121,41,32,38,32,63,120,32,33,61,32,63,121,32,45,62,32,97,100,100,32,122,40,41],[114,32,57,58,32,113,40,63,120,41,32,38,32,112,40,63,120,41,32,45,62,32,100,114,111,112,32,112,40,63,120,41],[114,32,48,58,32,97,116,40,63,120,44,49,41,32,38,32,97,116,40,63,121,44,50,41,32,38,32,63,120,32,61,32,63,121,32,45,62,32,100,114,111,112,32,97,116,40,63,120,44,49,41,32,38,32,115,116,111,112],[114,32,49,58,32,111,110,40,63,120,44,63,120,41,32,45,62,32,115,116,111,112],[114,32,55,58,32,122,40,41,32,38,32,111,110,40,63,120,44,63,121,41,32,45,62,32,100,114,111,112,32,122,40,41,32,38,32,97,100,100,32,111,110,40,63,121,44,63,120,41]]:aG) y1.2).bind fun x3=>((kO x3).bind fun y5=>(some (y1.1,y5.1)))))
theorem ug{aB:cj}{aY:Int}{r:cj×aK}(h:iZ aB aY=some r):kA prog 155 (cj.c aB) (cj.c r.1) [D.int .i64 aY] (D.agg [D.str r.2.name,D.int .i64 r.2.prio,D.fr 47 5 (r.2.conds.map aL.c),D.fr 167 3 (r.2.cg.map Action.c)]):=by
 refine Lx func155 [[none,none,none],[none,none,some (47,5),some (167,3)]] 23 [D.sl (aB.b.map yx),D.int .i64 aB.i,D.int .i64 aB.h] [D.int .i64 aY] [] fun hr kn Γ hΓ=>?_
 rw[iZ]at h;obtain⟨y1,h2,h⟩:=aC h;obtain⟨x3,h4,h⟩:=aC h;obtain⟨y5,h6,h⟩:=aC h;cases h;exact((((aW.hp [[none,none,none],[none]] (dV h2)).i (iG tx 1 h4)).o 1 1 .uq (cV tx (fG h4))).g (DI h6)).ret hΓ
def ew(y1:cj×Int)(k1:bJ->Int->Int->ah->Option (cj×aK)):Nat->Int->bJ->Int->Int->ah->Option (cj×aK)
 |0,_,_,_,_,_=>none
 |n1+1,rN,eR,dH,dJ,cz=>(bif decide ((rN:Int)>0)then((oV (⟨eR,dH,dJ⟩:cj)).bind fun AE=>(bif room ((cz.map aL.c).length+([[D.int .i64 AE.2.kind,D.str AE.2.pat.rel,D.sl (AE.2.pat.args.map tx),D.str AE.2.left,D.str AE.2.right]]).length) 80 then(ew y1 k1 n1 (IntKind.i64.wrap (rN-1)) AE.1.b AE.1.i AE.1.h (cz++([AE.2])))else none))else(k1 eR dH dJ cz))
def ck(y1:cj×Int)(fA:ah)(Hp:aG)(ua:cj×aD)(k2:bJ->Int->Int->aG->Option (cj×aK)):Nat->Int->bJ->Int->Int->aG->Option (cj×aK)
 |0,_,_,_,_,_=>none
 |n2+1,Bt,xJ,vY,vZ,kq=>(bif decide ((Bt:Int)<((kq.map tx).length:Int))then((hO kq Bt).bind fun x91=>((gi x91).bind fun y93=>(bif y93 then((gI Hp x91).bind fun VS=>(bif !(VS)then((iv (⟨xJ,vY,vZ⟩:cj)).bind fun F0=>(ck y1 fA Hp ua k2 n2 (IntKind.i64.wrap (Bt+1)) F0.1.b F0.1.i F0.1.h (kq.set Bt.toNat F0.2)))else(ck y1 fA Hp ua k2 n2 (IntKind.i64.wrap (Bt+1)) xJ vY vZ kq)))else(ck y1 fA Hp ua k2 n2 (IntKind.i64.wrap (Bt+1)) xJ vY vZ kq))))else(k2 xJ vY vZ kq))
def o4(aB:cj):Option (cj×aK):=((di aB 4).bind fun y1=>((gx y1.1).bind fun y3=>((di y3.1 3).bind fun y5=>(ew y1 (fun(ke:bJ) (kf:Int) (kj:Int) (fA:ah)=>((kK (⟨[114],y1.2,fA,[]⟩:aK) ((fA.map aL.c).length:Int)).bind fun Hp=>((gx (⟨ke,kf,kj⟩:cj)).bind fun ua=>(ck y1 fA Hp ua (fun(KB:bJ) (KC:Int) (KE:Int) (ot:aG)=>((s4 (⟨KB,KC,KE⟩:cj) ([1,1,2]:bJ)).bind fun yT=>(bif room (([]:List aP).length+([[D.int .i64 yT.2,D.str ua.2.rel,D.sl (ot.map tx)]]).length) 48 then((qW yT.1 6).bind fun Hj=>(bif Hj.2 then(bif room ((([]:List aP)++([[D.int .i64 yT.2,D.str ua.2.rel,D.sl (ot.map tx)]])).length+([[D.int .i64 3,D.str ([]),D.sl ([])]]).length) 48 then((nA (⟨[114],y1.2,fA,(([]:eG)++([(⟨yT.2,(⟨ua.2.rel,ot⟩:aD)⟩:Action)]))++([(⟨3,(⟨[],[]⟩:aD)⟩:Action)])⟩:aK)).bind fun Su=>(bif !(Su)then((iZ Hj.1 99).bind fun VD=>(some (VD.1,VD.2)))else(some (Hj.1,(⟨[114],y1.2,fA,(([]:eG)++([(⟨yT.2,(⟨ua.2.rel,ot⟩:aD)⟩:Action)]))++([(⟨3,(⟨[],[]⟩:aD)⟩:Action)])⟩:aK)))))else none)else((nA (⟨[114],y1.2,fA,([]:eG)++([(⟨yT.2,(⟨ua.2.rel,ot⟩:aD)⟩:Action)])⟩:aK)).bind fun a11=>(bif !(a11)then((iZ Hj.1 99).bind fun a4O=>(some (a4O.1,a4O.2)))else(some (Hj.1,(⟨[114],y1.2,fA,([]:eG)++([(⟨yT.2,(⟨ua.2.rel,ot⟩:aD)⟩:Action)])⟩:aK)))))))else none))) fuel 0 ua.1.b ua.1.i ua.1.h ua.2.args)))) fuel y5.2 y5.1.b y5.1.i y5.1.h ([(⟨1,y3.2,[],[]⟩:aL)])))))
def vR(kn:Value)(y1:cj×Int)(rN:Int)(dH:Int)(dJ:Int)(W1:List aP)(W4:List aP):St:=⟨[(0,D.ptr 0 0),(2,D.ptr 1 0),(3,D.ptr 2 0),(4,D.int .i64 rN)],[Ob.DU [D.sl W1,D.int .i64 dH,D.int .i64 dJ] kn,Ob.box [D.str ([]),D.int .i64 0,D.nil,D.nil],Ob.box [D.str ([114]),D.int .i64 y1.2,D.acc 3,D.nil],Ob.row .uq 47 5 W4]⟩
theorem G5(hΓ:Γ.nt=88){kn:Value}{y1:cj×Int}{r:cj×aK}{k1:bJ->Int->Int->ah->Option (cj×aK)}(eF:∀(ke:bJ) (kf:Int) (kj:Int) (fA:ah),k1 ke kf kj fA=some r->Ax Γ N f154 (.p [[none,none,none],[none,none,some (47,5),some (167,3)]] kn (cj.c r.1) (D.agg [D.str r.2.name,D.int .i64 r.2.prio,D.fr 47 5 (r.2.conds.map aL.c),D.fr 167 3 (r.2.cg.map Action.c)])) [1,1,1] ⟨[(0,D.ptr 0 0),(2,D.ptr 1 0),(3,D.ptr 2 0)],[Ob.DU [D.sl (ke.map yx),D.int .i64 kf,D.int .i64 kj] kn,Ob.box [D.str ([]),D.int .i64 0,D.nil,D.nil],Ob.box [D.str ([114]),D.int .i64 y1.2,D.acc 3,D.nil],Ob.row .uq 47 5 (fA.map aL.c)]⟩):∀(n1:Nat) (rN:Int) (eR:bJ) (dH:Int) (dJ:Int) (cz:ah),ew y1 k1 n1 rN eR dH dJ cz=some r->Ar Γ N f154 (.p [[none,none,none],[none,none,some (47,5),some (167,3)]] kn (cj.c r.1) (D.agg [D.str r.2.name,D.int .i64 r.2.prio,D.fr 47 5 (r.2.conds.map aL.c),D.fr 167 3 (r.2.cg.map Action.c)])) [1,1,0,1,0] n1 (vR kn y1 rN dH dJ (eR.map yx) (cz.map aL.c)):=by
 intro n
 induction n with
 |zero=>intro rN eR dH dJ cz h;simp[ew]at h
 |succ n1 ih1=>
  intro rN eR dH dJ cz h;rw[ew]at h;refine aU fun N1 cc cL=>?_
  obtain⟨h25,h⟩|⟨h25,h⟩:=aO h
  ·obtain⟨AE,h29,h⟩:=aC h;obtain⟨h30,h⟩:=bX h;exact(((((aW.b h25).a [.n2 [0,1,2,3,4,5,6,7] [0,1,2,3,4,5,6,7] 3 5 [0,1] [0,4],.gp [[none,none,none]] (cj.c AE.1) (D.agg [D.int .i64 AE.2.kind,D.str AE.2.pat.rel,D.fr 9 1 (AE.2.pat.args.map tx),D.str AE.2.left,D.str AE.2.right])]).w (show kA prog 219 (cj.c (⟨eR,dH,dJ⟩:cj)) (cj.c AE.1) [] (D.agg [D.int .i64 AE.2.kind,D.str AE.2.pat.rel,D.fr 9 1 (AE.2.pat.args.map tx),D.str AE.2.left,D.str AE.2.right])from by simpa only[bG,av,bZ,bh,bn]using HH h29)).w (bq h30)).a [.cn [0,2,3,4] [0,1,2,6]]).cs hΓ cL (vR kn y1 (IntKind.i64.wrap (rN-1)) AE.1.i AE.1.h (AE.1.b.map yx) ((cz.map aL.c)++([[D.int .i64 AE.2.kind,D.str AE.2.pat.rel,D.sl (AE.2.pat.args.map tx),D.str AE.2.left,D.str AE.2.right]]))) (by first| (simp only[mA]<;>rfl)| (simp only[mA,aD.c,aR.c,aL.c,Action.c,aK.c,aT.c,bS.c,aZ.c,Node.c,aI.c,dU.c]<;>rfl)) (ih1 (IntKind.i64.wrap (rN-1)) AE.1.b AE.1.i AE.1.h (cz++([AE.2])) h)
  ·exact((aW.b h25).a [.hl 0 [0,2,3] [0,1,2,3]]).ex hΓ cc (eF eR dH dJ cz h)
def zn(kn:Value)(y1:cj×Int)(fA:ah)(Hp:aG)(ua:cj×aD)(Bt:Int)(vY:Int)(vZ:Int)(W1:List aP)(W4:List aP):St:=⟨[(0,D.ptr 0 0),(2,D.ptr 1 0),(3,D.ptr 2 0),(5,D.acc 3),(6,D.ptr 4 0),(7,D.int .i64 Bt)],[Ob.DU [D.sl W1,D.int .i64 vY,D.int .i64 vZ] kn,Ob.box [D.str ([]),D.int .i64 0,D.nil,D.nil],Ob.box [D.str ([114]),D.int .i64 y1.2,D.acc 5,D.nil],Ob.row .uq 9 1 (Hp.map tx),Ob.box [D.str ua.2.rel,D.acc 6],Ob.row .uq 47 5 (fA.map aL.c),Ob.row .uq 9 1 W4]⟩
theorem G6(hΓ:Γ.nt=88){kn:Value}{y1:cj×Int}{fA:ah}{Hp:aG}{ua:cj×aD}{r:cj×aK}{k2:bJ->Int->Int->aG->Option (cj×aK)}(B7:∀(KB:bJ) (KC:Int) (KE:Int) (ot:aG),k2 KB KC KE ot=some r->Ax Γ N f154 (.p [[none,none,none],[none,none,some (47,5),some (167,3)]] kn (cj.c r.1) (D.agg [D.str r.2.name,D.int .i64 r.2.prio,D.fr 47 5 (r.2.conds.map aL.c),D.fr 167 3 (r.2.cg.map Action.c)])) [1,1,1,1,1,1] ⟨[(0,D.ptr 0 0),(2,D.ptr 1 0),(3,D.ptr 2 0),(6,D.ptr 3 0)],[Ob.DU [D.sl (KB.map yx),D.int .i64 KC,D.int .i64 KE] kn,Ob.box [D.str ([]),D.int .i64 0,D.nil,D.nil],Ob.box [D.str ([114]),D.int .i64 y1.2,D.acc 4,D.nil],Ob.box [D.str ua.2.rel,D.acc 5],Ob.row .uq 47 5 (fA.map aL.c),Ob.row .uq 9 1 (ot.map tx)]⟩):∀(n2:Nat) (Bt:Int) (xJ:bJ) (vY:Int) (vZ:Int) (kq:aG),ck y1 fA Hp ua k2 n2 Bt xJ vY vZ kq=some r->Ar Γ N f154 (.p [[none,none,none],[none,none,some (47,5),some (167,3)]] kn (cj.c r.1) (D.agg [D.str r.2.name,D.int .i64 r.2.prio,D.fr 47 5 (r.2.conds.map aL.c),D.fr 167 3 (r.2.cg.map Action.c)])) [1,1,1,1,1,0,1,0] n2 (zn kn y1 fA Hp ua Bt vY vZ (xJ.map yx) (kq.map tx)):=by
 intro n
 induction n with
 |zero=>intro Bt xJ vY vZ kq h;simp[ck]at h
 |succ n2 ih2=>
  intro Bt xJ vY vZ kq h;rw[ck]at h;refine aU fun N2 vv tQ=>?_
  obtain⟨h90,h⟩|⟨h90,h⟩:=aO h
  ·obtain⟨x91,h92,h⟩:=aC h;obtain⟨y93,h94,h⟩:=aC h;have kp:=((((aW.b h90).i (iG tx 1 h92)).o 1 1 .uq (cV tx (fG h92))).g (fN h94))
   obtain⟨h95,h⟩|⟨h95,h⟩:=aO h
   ·obtain⟨VS,h97,h⟩:=aC h;have ko:=(((((((kp.r 5 h95).i (iG tx 1 h92)).b h95).o 1 1 .uq (cV tx (fG h92))).b h95).g (jb h97)).r 2 h95)
    obtain⟨h98,h⟩|⟨h98,h⟩:=aO h
    ·obtain⟨F0,h102,h⟩:=aC h;exact((((((ko.b h98).a [.n2 [0,1,2,3,4,5,6] [0,1,2,3,4,5,6] 4 5 [0,1,2] [0],.gp [[none,none,none]] (cj.c F0.1) (D.str F0.2)]).w (show kA prog 157 (cj.c (⟨xJ,vY,vZ⟩:cj)) (cj.c F0.1) [] (D.str F0.2)from by simpa only[bG,av,bZ,bh,bn]using vO h102)).i (iG tx 1 h92)).w (show(kq.map tx)[Bt.toNat]?=some [D.str x91]from cV tx (fG h92))).a [.row [D.str x91],.cn [0,2,3,5,6,7] [0,1,2,3,4,5,6]]).cs hΓ tQ (zn kn y1 fA Hp ua (IntKind.i64.wrap (Bt+1)) F0.1.i F0.1.h (F0.1.b.map yx) ((kq.map tx).set Bt.toNat [D.str F0.2])) (by first| (simp only[mA]<;>rfl)| (simp only[mA,aD.c,aR.c,aL.c,Action.c,aK.c,aT.c,bS.c,aZ.c,Node.c,aI.c,dU.c]<;>rfl)) (ih2 (IntKind.i64.wrap (Bt+1)) F0.1.b F0.1.i F0.1.h (kq.set Bt.toNat F0.2) h)
    ·exact((ko.b h98).a [.cn [0,2,3,5,6,7] [0,1,2,3,4,5,6]]).cf hΓ tQ (ih2 (IntKind.i64.wrap (Bt+1)) xJ vY vZ kq h)
   ·exact(((kp.r 9 h95).F 1).a [.cn [0,2,3,5,6,7] [0,1,2,3,4,5,6]]).cf hΓ tQ (ih2 (IntKind.i64.wrap (Bt+1)) xJ vY vZ kq h)
  ·exact((aW.b h90).a [.hl 0 [0,2,3,6] [0,1,2,4,5,6]]).ex hΓ vv (B7 xJ vY vZ kq h)
theorem ES{aB:cj}{r:cj×aK}(h:o4 aB=some r):kA prog 154 (cj.c aB) (cj.c r.1) [] (D.agg [D.str r.2.name,D.int .i64 r.2.prio,D.fr 47 5 (r.2.conds.map aL.c),D.fr 167 3 (r.2.cg.map Action.c)]):=by
 refine Lx func154 [[none,none,none],[none,none,some (47,5),some (167,3)]] 88 [D.sl (aB.b.map yx),D.int .i64 aB.i,D.int .i64 aB.h] [] [] fun hr kn Γ hΓ=>?_
 rw[o4]at h;obtain⟨y1,h2,h⟩:=aC h;obtain⟨y3,h4,h⟩:=aC h;obtain⟨y5,h6,h⟩:=aC h;refine((((aW.hp [[none,none,none],[none]] (dV h2)).hp [[none,none,none]] (p8 h4)).hp [[none,none,none],[none]] (dV h6)).a [.cn [0,2,3,4] [0,1,4,3]]).lps hΓ (vR kn y1 y5.2 y5.1.i y5.1.h (y5.1.b.map yx) ([[D.int .i64 1,D.str y3.2.rel,D.sl (y3.2.args.map tx),D.str ([]),D.str ([])]])) (by first| (simp only[mA]<;>rfl)| (simp only[mA,aD.c,aR.c,aL.c,Action.c,aK.c,aT.c,bS.c,aZ.c,Node.c,aI.c,dU.c]<;>rfl)) (G5 hΓ (fun ke kf kj fA h=>?_) fuel y5.2 y5.1.b y5.1.i y5.1.h ([(⟨1,y3.2,[],[]⟩:aL)]) h);obtain⟨Hp,h32,h⟩:=aC h;obtain⟨ua,h34,h⟩:=aC h;refine(((((aW.a [.d (D.fr 9 1 (Hp.map tx))]).w (show Good prog 208 [D.agg [D.str ([114]),D.int .i64 y1.2,D.sl (fA.map aL.c),D.sl ([])],D.int .i64 ((fA.map aL.c).length:Int)] (D.fr 9 1 (Hp.map tx))from by first| (simpa only[bG,av,bZ,bh,bn]using jZ h32)|exact jZ h32| (have t:=jZ h32;simp only[bG,bh,bn,aK.c]at t;exact t))).a [.gp [[none,none,none]] (cj.c ua.1) (D.agg [D.str ua.2.rel,D.fr 9 1 (ua.2.args.map tx)])]).w (show kA prog 218 (cj.c (⟨ke,kf,kj⟩:cj)) (cj.c ua.1) [] (D.agg [D.str ua.2.rel,D.fr 9 1 (ua.2.args.map tx)])from by simpa only[bG,av,bZ,bh,bn]using p8 h34)).a [.cn [0,2,3,5,6,7] [0,1,2,4,6,3,5]]).lp hΓ (G6 hΓ (fun KB KC KE ot h=>?_) fuel 0 ua.1.b ua.1.i ua.1.h ua.2.args h);obtain⟨yT,h106,h⟩:=aC h;obtain⟨h107,h⟩:=bX h;obtain⟨Hj,h109,h⟩:=aC h;have tN:=((((aW.a [.n2 [0,1,2,3,5,4,6,7,8,9,10] [0,1,2,3,5,4,6,7,8,9,10] 5 8 [0,1,4] [0,5,6],.gp [[none,none,none],[some (3,1)]] (cj.c yT.1) (D.int .i64 yT.2)]).w (show kA prog 126 (cj.c (⟨KB,KC,KE⟩:cj)) (cj.c yT.1) [D.fr 3 1 (([1,1,2]:bJ).map jf)] (D.int .i64 yT.2)from by simpa only[bG,av,bZ,bh,bn]using AV h106)).w (bq h107)).hp [[none,none,none],[none]] (p7 h109))
 obtain⟨h110,h⟩|⟨h110,h⟩:=aO h
 ·obtain⟨h111,h⟩:=bX h;obtain⟨Su,h113,h⟩:=aC h;have xp:=((((tN.b h110).w (bq h111)).a [.d (D.bool Su)]).w (show Good prog 149 [D.agg [D.str ([114]),D.int .i64 y1.2,D.sl (fA.map aL.c),D.sl ((([]:List aP)++([[D.int .i64 yT.2,D.str ua.2.rel,D.sl (ot.map tx)]]))++([[D.int .i64 3,D.str ([]),D.sl ([])]]))]] (D.bool Su)from by first| (simpa only[bG,av,bZ,bh,bn]using fX h113)|exact fX h113| (have t:=fX h113;simp only[bG,bh,bn,aK.c]at t;exact t)))
  obtain⟨h114,h⟩|⟨h114,h⟩:=aO h
  ·obtain⟨VD,h116,h⟩:=aC h;cases h;exact((xp.b h114).hp [[none,none,none],[none]] (ug h116)).ret hΓ
  ·cases h;exact(xp.b h114).rts hΓ (D.iE [D.agg [D.str ([114]),D.int .i64 y1.2,D.fr 47 5 (fA.map aL.c),D.fr 167 3 ((([]:List aP)++([[D.int .i64 yT.2,D.str ua.2.rel,D.sl (ot.map tx)]]))++([[D.int .i64 3,D.str ([]),D.sl ([])]]))],D.agg [D.sl (Hj.1.b.map yx),D.int .i64 Hj.1.i,D.int .i64 Hj.1.h],D.val kn]) (by first|rfl| (simp only[mA]<;>rfl))
 ·obtain⟨a11,h118,h⟩:=aC h;have B0:=(((tN.b h110).a [.d (D.bool a11)]).w (show Good prog 149 [D.agg [D.str ([114]),D.int .i64 y1.2,D.sl (fA.map aL.c),D.sl (([]:List aP)++([[D.int .i64 yT.2,D.str ua.2.rel,D.sl (ot.map tx)]]))]] (D.bool a11)from by first| (simpa only[bG,av,bZ,bh,bn]using fX h118)|exact fX h118| (have t:=fX h118;simp only[bG,bh,bn,aK.c]at t;exact t)))
  obtain⟨h119,h⟩|⟨h119,h⟩:=aO h
  ·obtain⟨a4O,h121,h⟩:=aC h;cases h;exact((B0.b h119).hp [[none,none,none],[none]] (ug h121)).ret hΓ
  ·cases h;exact(B0.b h119).rts hΓ (D.iE [D.agg [D.str ([114]),D.int .i64 y1.2,D.fr 47 5 (fA.map aL.c),D.fr 167 3 (([]:List aP)++([[D.int .i64 yT.2,D.str ua.2.rel,D.sl (ot.map tx)]]))],D.agg [D.sl (Hj.1.b.map yx),D.int .i64 Hj.1.i,D.int .i64 Hj.1.h],D.val kn]) (by first|rfl| (simp only[mA]<;>rfl))
def iw(aB:cj):Option (cj×aK):=((qW aB 3).bind fun y1=>(bif y1.2 then((o4 y1.1).bind fun y4=>(some (y4.1,y4.2)))else((iZ y1.1 99).bind fun y6=>(some (y6.1,y6.2)))))
theorem HL{aB:cj}{r:cj×aK}(h:iw aB=some r):kA prog 94 (cj.c aB) (cj.c r.1) [] (D.agg [D.str r.2.name,D.int .i64 r.2.prio,D.fr 47 5 (r.2.conds.map aL.c),D.fr 167 3 (r.2.cg.map Action.c)]):=by
 refine Lx func94 [[none,none,none],[none,none,some (47,5),some (167,3)]] 9 [D.sl (aB.b.map yx),D.int .i64 aB.i,D.int .i64 aB.h] [] [] fun hr kn Γ hΓ=>?_
 rw[iw]at h;obtain⟨y1,h2,h⟩:=aC h;obtain⟨h3,h⟩|⟨h3,h⟩:=aO h
 ·obtain⟨y4,h5,h⟩:=aC h;cases h;exact(((aW.hp [[none,none,none],[none]] (p7 h2)).b h3).hp [[none,none,none]] (ES h5)).ret hΓ
 ·obtain⟨y6,h7,h⟩:=aC h;cases h;exact(((aW.hp [[none,none,none],[none]] (p7 h2)).b h3).hp [[none,none,none],[none]] (ug h7)).ret hΓ
def mH(k1:bJ->Int->Int->ai->Option (cj×ai)):Nat->Int->bJ->Int->Int->ai->Option (cj×ai)
 |0,_,_,_,_,_=>none
 |n1+1,dP,eR,dH,dJ,bV=>(bif decide ((dP:Int)>0)then((iw (⟨eR,dH,dJ⟩:cj)).bind fun vI=>((mh dP).bind fun oH=>(bif decide (([114]:Bytes).length+(oH:Bytes).length<=maxLen)then(bif room ((bV.map aK.c).length+([[D.str (([114])++oH),D.int .i64 vI.2.prio,D.sl (vI.2.conds.map aL.c),D.sl (vI.2.cg.map Action.c)]]).length) 72 then(mH k1 n1 (IntKind.i64.wrap (dP-1)) vI.1.b vI.1.i vI.1.h (bV++([(⟨([114])++oH,vI.2.prio,vI.2.conds,vI.2.cg⟩:aK)])))else none)else none)))else(k1 eR dH dJ bV))
def wN(aB:cj)(aY:Int):Option (cj×ai):=((di aB (IntKind.i64.wrap (aY+1))).bind fun y1=>(mH (fun(ke:bJ) (kf:Int) (kj:Int) (nO:ai)=>(some ((⟨ke,kf,kj⟩:cj),nO))) fuel y1.2 y1.1.b y1.1.i y1.1.h ([]:ai)))
def Cm(kn:Value)(dP:Int)(dH:Int)(dJ:Int)(W1:List aP)(W4:List aP):St:=⟨[(0,D.ptr 0 0),(5,D.acc 1),(6,D.int .i64 dP)],[Ob.DU [D.sl W1,D.int .i64 dH,D.int .i64 dJ] kn,Ob.row .uq 80 4 W4]⟩
theorem Jv(hΓ:Γ.nt=28){kn:Value}{r:cj×ai}{k1:bJ->Int->Int->ai->Option (cj×ai)}(eF:∀(ke:bJ) (kf:Int) (kj:Int) (nO:ai),k1 ke kf kj nO=some r->Ax Γ N f46 (.p [[none,none,none],[some (80,4)]] kn (cj.c r.1) (D.fr 80 4 (r.2.map aK.c))) [1,1,1] ⟨[(5,D.acc 1)],[Ob.DU [D.sl (ke.map yx),D.int .i64 kf,D.int .i64 kj] kn,Ob.row .uq 80 4 (nO.map aK.c)]⟩):∀(n1:Nat) (dP:Int) (eR:bJ) (dH:Int) (dJ:Int) (bV:ai),mH k1 n1 dP eR dH dJ bV=some r->Ar Γ N f46 (.p [[none,none,none],[some (80,4)]] kn (cj.c r.1) (D.fr 80 4 (r.2.map aK.c))) [1,1,0,1,0] n1 (Cm kn dP dH dJ (eR.map yx) (bV.map aK.c)):=by
 intro n
 induction n with
 |zero=>intro dP eR dH dJ bV h;simp[mH]at h
 |succ n1 ih1=>
  intro dP eR dH dJ bV h;rw[mH]at h;refine aU fun N1 cc cL=>?_
  obtain⟨h24,h⟩|⟨h24,h⟩:=aO h
  ·obtain⟨vI,h26,h⟩:=aC h;obtain⟨oH,h28,h⟩:=aC h;obtain⟨h29,h⟩:=bX h;obtain⟨h30,h⟩:=bX h;exact(((((((aW.b h24).a [.gp [[none,none,none]] (cj.c vI.1) (D.agg [D.str vI.2.name,D.int .i64 vI.2.prio,D.fr 47 5 (vI.2.conds.map aL.c),D.fr 167 3 (vI.2.cg.map Action.c)])]).w (show kA prog 94 (cj.c (⟨eR,dH,dJ⟩:cj)) (cj.c vI.1) [] (D.agg [D.str vI.2.name,D.int .i64 vI.2.prio,D.fr 47 5 (vI.2.conds.map aL.c),D.fr 167 3 (vI.2.cg.map Action.c)])from by simpa only[bG,av,bZ,bh,bn]using HL h26)).g (pH h28)).w (bY h29)).w (bq h30)).a [.cn [0,5,6] [0,6]]).cs hΓ cL (Cm kn (IntKind.i64.wrap (dP-1)) vI.1.i vI.1.h (vI.1.b.map yx) ((bV.map aK.c)++([[D.str (([114])++oH),D.int .i64 vI.2.prio,D.sl (vI.2.conds.map aL.c),D.sl (vI.2.cg.map Action.c)]]))) (by first| (simp only[mA]<;>rfl)| (simp only[mA,aD.c,aR.c,aL.c,Action.c,aK.c,aT.c,bS.c,aZ.c,Node.c,aI.c,dU.c]<;>rfl)) (ih1 (IntKind.i64.wrap (dP-1)) vI.1.b vI.1.i vI.1.h (bV++([(⟨([114])++oH,vI.2.prio,vI.2.conds,vI.2.cg⟩:aK)])) h)
  ·exact((aW.b h24).a [.hl 0 [5] [0,1]]).ex hΓ cc (eF eR dH dJ bV h)
theorem Ih{aB:cj}{aY:Int}{r:cj×ai}(h:wN aB aY=some r):kA prog 46 (cj.c aB) (cj.c r.1) [D.int .i64 aY] (D.fr 80 4 (r.2.map aK.c)):=by
 refine Lx func46 [[none,none,none],[some (80,4)]] 28 [D.sl (aB.b.map yx),D.int .i64 aB.i,D.int .i64 aB.h] [D.int .i64 aY] [] fun hr kn Γ hΓ=>?_
 rw[wN]at h;obtain⟨y1,h2,h⟩:=aC h;refine((aW.hp [[none,none,none],[none]] (dV h2)).a [.cn [0,5,6] [0,1]]).lp hΓ (Jv hΓ (fun ke kf kj nO h=>?_) fuel y1.2 y1.1.b y1.1.i y1.1.h ([]:ai) h);cases h;exact aW.ret hΓ
def kV(y1:cj×(Bytes×Int))(k1:bJ->Int->Int->aG->Option (cj×aD)):Nat->Int->bJ->Int->Int->aG->Option (cj×aD)
 |0,_,_,_,_,_=>none
 |n1+1,dP,eR,dH,dJ,cz=>(bif decide ((dP:Int)<y1.2.2)then((iv (⟨eR,dH,dJ⟩:cj)).bind fun yU=>(bif room ((cz.map tx).length+([[D.str yU.2]]).length) 16 then(kV y1 k1 n1 (IntKind.i64.wrap (dP+1)) yU.1.b yU.1.i yU.1.h (cz++([yU.2])))else none))else(k1 eR dH dJ cz))
def sj(aB:cj):Option (cj×aD):=((nC aB).bind fun y1=>(kV y1 (fun(ke:bJ) (kf:Int) (kj:Int) (fA:aG)=>(some ((⟨ke,kf,kj⟩:cj),(⟨y1.2.1,fA⟩:aD)))) fuel 0 y1.1.b y1.1.i y1.1.h ([]:aG)))
def BW(kn:Value)(y1:cj×(Bytes×Int))(dP:Int)(dH:Int)(dJ:Int)(W1:List aP)(W4:List aP):St:=⟨[(0,D.ptr 0 0),(2,D.ptr 1 0),(4,D.int .i64 y1.2.2),(5,D.ptr 2 0),(6,D.int .i64 dP)],[Ob.DU [D.sl W1,D.int .i64 dH,D.int .i64 dJ] kn,Ob.box [D.str ([]),D.nil],Ob.box [D.str y1.2.1,D.acc 3],Ob.row .uq 9 1 W4]⟩
theorem IY(hΓ:Γ.nt=27){kn:Value}{y1:cj×(Bytes×Int)}{r:cj×aD}{k1:bJ->Int->Int->aG->Option (cj×aD)}(eF:∀(ke:bJ) (kf:Int) (kj:Int) (fA:aG),k1 ke kf kj fA=some r->Ax Γ N f96 (.p [[none,none,none],[none,some (9,1)]] kn (cj.c r.1) (D.agg [D.str r.2.rel,D.fr 9 1 (r.2.args.map tx)])) [1,1,1,1] ⟨[(2,D.ptr 1 0),(5,D.ptr 2 0)],[Ob.DU [D.sl (ke.map yx),D.int .i64 kf,D.int .i64 kj] kn,Ob.box [D.str ([]),D.nil],Ob.box [D.str y1.2.1,D.acc 3],Ob.row .uq 9 1 (fA.map tx)]⟩):∀(n1:Nat) (dP:Int) (eR:bJ) (dH:Int) (dJ:Int) (cz:aG),kV y1 k1 n1 dP eR dH dJ cz=some r->Ar Γ N f96 (.p [[none,none,none],[none,some (9,1)]] kn (cj.c r.1) (D.agg [D.str r.2.rel,D.fr 9 1 (r.2.args.map tx)])) [1,1,1,0,1,0] n1 (BW kn y1 dP dH dJ (eR.map yx) (cz.map tx)):=by
 intro n
 induction n with
 |zero=>intro dP eR dH dJ cz h;simp[kV]at h
 |succ n1 ih1=>
  intro dP eR dH dJ cz h;rw[kV]at h;refine aU fun N1 cc cL=>?_
  obtain⟨h27,h⟩|⟨h27,h⟩:=aO h
  ·obtain⟨yU,h31,h⟩:=aC h;obtain⟨h32,h⟩:=bX h;exact(((((aW.b h27).a [.n2 [0,1,2,3,4,5,6,7] [0,1,2,3,4,5,6,7] 3 5 [0,1] [0],.gp [[none,none,none]] (cj.c yU.1) (D.str yU.2)]).w (show kA prog 157 (cj.c (⟨eR,dH,dJ⟩:cj)) (cj.c yU.1) [] (D.str yU.2)from by simpa only[bG,av,bZ,bh,bn]using vO h31)).w (bq h32)).a [.cn [0,2,4,5,6] [0,1,2,5]]).cs hΓ cL (BW kn y1 (IntKind.i64.wrap (dP+1)) yU.1.i yU.1.h (yU.1.b.map yx) ((cz.map tx)++([[D.str yU.2]]))) (by first| (simp only[mA]<;>rfl)| (simp only[mA,aD.c,aR.c,aL.c,Action.c,aK.c,aT.c,bS.c,aZ.c,Node.c,aI.c,dU.c]<;>rfl)) (ih1 (IntKind.i64.wrap (dP+1)) yU.1.b yU.1.i yU.1.h (cz++([yU.2])) h)
  ·exact((aW.b h27).a [.hl 0 [2,5] [0,1,2,3]]).ex hΓ cc (eF eR dH dJ cz h)
theorem HF{aB:cj}{r:cj×aD}(h:sj aB=some r):kA prog 96 (cj.c aB) (cj.c r.1) [] (D.agg [D.str r.2.rel,D.fr 9 1 (r.2.args.map tx)]):=by
 refine Lx func96 [[none,none,none],[none,some (9,1)]] 27 [D.sl (aB.b.map yx),D.int .i64 aB.i,D.int .i64 aB.h] [] [] fun hr kn Γ hΓ=>?_
 rw[sj]at h;obtain⟨y1,h2,h⟩:=aC h;refine((aW.hp [[none,none,none]] (AY h2)).a [.pb 2 1 9 1,.cn [0,2,4,5,6] [0,1,2,3]]).lp hΓ (IY hΓ (fun ke kf kj fA h=>?_) fuel 0 y1.1.b y1.1.i y1.1.h ([]:aG) h);cases h;exact aW.ret hΓ
def rz(aB:Bytes)(aY:Bytes):Option Int:=(bif Op.bytesLess aB aY then(some (-1))else(bif !(Op.bytesLess aB aY||(aB:Bytes)==aY)then(some 1)else(some 0)))
theorem wK{aB:Bytes}{aY:Bytes}{r:Int}(h:rz aB aY=some r):Good prog 199 [D.str aB,D.str aY] (D.int .i64 r):=by
 refine gd func199 [[none]] 13 fun hr Γ hΓ=>?_
 rw[rz]at h;obtain⟨h1,h⟩|⟨h1,h⟩:=aO h
 ·cases h;exact(aW.b h1).ret hΓ
 ·obtain⟨h2,h⟩|⟨h2,h⟩:=aO h
  ·have h:=aN h;subst h;exact((aW.b h1).b h2).ret hΓ
  ·have h:=aN h;subst h;exact((aW.b h1).b h2).ret hΓ
def jL(aB:Bytes)(aY:Bytes):Option Int:=((mE aB).bind fun y1=>((mE aY).bind fun y3=>(bif y1.2 then(bif y3.2 then(bif decide ((y1.1:Int)<y3.1)then(some (-1))else(bif !(y3.2)then(some (-1))else(bif decide ((y1.1:Int)>y3.1)then(some 1)else(bif !(y1.2)then(some 1)else(some 0)))))else(bif !(y3.2)then(some (-1))else(some 0)))else(bif y3.2 then(bif !(y1.2)then(some 1)else((rz aB aY).bind fun JM=>(some JM)))else((rz aB aY).bind fun NO=>(some NO))))))
theorem ux{aB:Bytes}{aY:Bytes}{r:Int}(h:jL aB aY=some r):Good prog 200 [D.str aB,D.str aY] (D.int .i64 r):=by
 refine gd func200 [[none]] 54 fun hr Γ hΓ=>?_
 rw[jL]at h;obtain⟨y1,h2,h⟩:=aC h;obtain⟨y3,h4,h⟩:=aC h;have pW:=((aW.g (qC h2)).g (qC h4))
 obtain⟨h5,h⟩|⟨h5,h⟩:=aO h
 ·have gr:=(pW.r 2 h5)
  obtain⟨h6,h⟩|⟨h6,h⟩:=aO h
  ·have kp:=(gr.r 4 h6)
   obtain⟨h7,h⟩|⟨h7,h⟩:=aO h
   ·cases h;exact(kp.r 2 h7).ret hΓ
   ·have ko:=((kp.b h7).r 3 h5)
    obtain⟨h8,h⟩|⟨h8,h⟩:=aO h
    ·cases h;exact(ko.b h8).ret hΓ
    ·have tN:=(((ko.b h8).r 2 h5).r 4 h6)
     obtain⟨h9,h⟩|⟨h9,h⟩:=aO h
     ·have h:=aN h;subst h;exact(tN.r 2 h9).ret hΓ
     ·have xp:=((tN.b h9).r 3 h6)
      obtain⟨h10,h⟩|⟨h10,h⟩:=aO h
      ·have h:=aN h;subst h;exact(xp.b h10).ret hΓ
      ·have h:=aN h;subst h;exact((xp.b h10).b h5).ret hΓ
  ·have B0:=(((gr.r 4 h6).F 1).r 3 h5)
   obtain⟨h11,h⟩|⟨h11,h⟩:=aO h
   ·cases h;exact(B0.b h11).ret hΓ
   ·have h:=aN h;subst h;exact(((((((B0.b h11).r 2 h5).r 4 h6).F 1).r 3 h6).F 1).b h5).ret hΓ
 ·have GU:=((((((pW.r 2 h5).F 5).r 3 h5).F 1).r 2 h5).F 5)
  obtain⟨h12,h⟩|⟨h12,h⟩:=aO h
  ·have MV:=(GU.r 3 h12)
   obtain⟨h13,h⟩|⟨h13,h⟩:=aO h
   ·have h:=aN h;subst h;exact(MV.b h13).ret hΓ
   ·obtain⟨JM,h15,h⟩:=aC h;have h:=aN h;subst h;exact(((MV.b h13).b h5).g (wK h15)).ret hΓ
  ·obtain⟨NO,h17,h⟩:=aC h;have h:=aN h;subst h;exact((((GU.r 3 h12).F 1).b h5).g (wK h17)).ret hΓ
def jA(aB:aD)(aY:aD)(k1:Option Int):aG->Nat->Option Int
 | [],i1=>(k1)
 |bU::cO,i1=>(bif decide (((i1:Int):Int)<((aY.args.map tx).length:Int))then((hO aY.args (i1:Int)).bind fun x37=>((jL bU x37).bind fun Da=>(bif (Da:Int) != 0 then(some Da)else(jA aB aY k1 cO (i1+1)))))else(k1))
def hG(aB:aD)(aY:aD):Option Int:=(bif !((aB.rel:Bytes)==aY.rel)then((rz aB.rel aY.rel).bind fun y2=>(some y2))else(jA aB aY (bif decide ((((aB.args.map tx).length:Int):Int)<((aY.args.map tx).length:Int))then(some (-1))else(bif decide ((((aB.args.map tx).length:Int):Int)>((aY.args.map tx).length:Int))then(some 1)else(some 0))) aB.args 0))
def CM(aB:aD)(aY:aD)(dQ:Int):St:=⟨[(2,D.ptr 0 0),(3,D.ptr 1 0),(5,D.int .i64 dQ)],[Ob.box (aD.c aB),Ob.box (aD.c aY)]⟩
theorem BR(hΓ:Γ.nt=61){aB:aD}{aY:aD}{r:Int}{k1:Option Int}(eF:k1=some r->Ax Γ N f135 (.q [[none]] (D.int .i64 r)) [1,1,1] ⟨[(2,D.ptr 0 0),(3,D.ptr 1 0)],[Ob.box (aD.c aB),Ob.box (aD.c aY)]⟩)(hm1:aB.args.length<=maxLen):∀(rest:aG) (i1:Nat),aB.args.drop i1=rest->jA aB aY k1 rest i1=some r->Ar Γ N f135 (.q [[none]] (D.int .i64 r)) [1,1,0,1,0] (rest.length+1) (CM aB aY (i1:Int)):=by
 intro rest
 induction rest with
 |nil=>
  intro i1 b8 h;rw[jA]at h;refine aU fun N1 cc cL=>?_
  exact((((((((aW.ge tx b8).ge tx b8).ge tx b8).ge tx b8).ge tx b8).ge tx b8).F 1).a [.hl 0 [2,3] [0,1]]).ex hΓ cc (eF h)
 |cons bU cO ih1=>
  intro i1 b8 h;rw[jA]at h;refine aU fun N1 cc cL=>?_
  have kp:=((((((aW.lt tx b8).lt tx b8).lt tx b8).lt tx b8).lt tx b8).lt tx b8)
  obtain⟨h36,h⟩|⟨h36,h⟩:=aO h
  ·obtain⟨x37,h38,h⟩:=aC h;obtain⟨Da,h40,h⟩:=aC h;have ko:=(((((kp.b h36).a [.n 10]).l (bO tx 1 (dc b8) rfl)).l (gq tx 1 h38 rfl)).g (ux h40))
   obtain⟨h41,h⟩|⟨h41,h⟩:=aO h
   ·have h:=aN h;subst h;exact(ko.b h41).ret hΓ
   ·exact((ko.b h41).a [.cn [2,3,5] [0,1]]).ct hΓ cL (iS b8 hm1) (ih1 (i1+1) (dn b8) h)
  ·exact((kp.b h36).a [.hl 0 [2,3] [0,1]]).ex hΓ cc (eF h)
theorem uy{aB:aD}{aY:aD}{r:Int}(h:hG aB aY=some r):Good prog 135 [D.agg (aD.c aB),D.agg (aD.c aY)] (D.int .i64 r):=by
 refine gd func135 [[none]] 61 fun hr Γ hΓ=>?_
 rw[hG]at h;obtain⟨h1,h⟩|⟨h1,h⟩:=aO h
 ·obtain⟨y2,h3,h⟩:=aC h;have h:=aN h;subst h;exact((aW.b h1).g (wK h3)).ret hΓ
 ·refine((aW.b h1).a [.cn [2,3,5] [0,1]]).lp hΓ (BR hΓ (fun h=>?_) (by have:=(ij.sl (ij.agg (hr _ (aE (i:=0) rfl)) (.sl (aB.args.map tx)) (by simp))).1;simpa using this) aB.args 0 rfl h);obtain⟨h42,h⟩|⟨h42,h⟩:=aO h
  ·cases h;exact(aW.b h42).ret hΓ
  ·obtain⟨h43,h⟩|⟨h43,h⟩:=aO h
   ·have h:=aN h;subst h;exact((aW.b h42).b h43).ret hΓ
   ·have h:=aN h;subst h;exact((aW.b h42).b h43).ret hΓ
def rI(aB:aG):Option aG:=(bif room (([]:List aP).length+(aB.map tx).length) 16 then(some (([]:aG)++aB))else none)
theorem yl{aB:aG}{r:aG}(h:rI aB=some r):Good prog 194 [D.sl (aB.map tx)] (D.fr 9 1 (r.map tx)):=by
 refine gd func194 [[some (9,1)]] 6 fun hr Γ hΓ=>?_
 rw[rI]at h;obtain⟨h1,h⟩:=bX h;cases h;exact(((aW.w (bq h1)).w (show(∀r∈(aB.map tx),r.length=1)/\(true=true->D.p9 (aB.map tx)=true)from⟨by first|simp| (intro r hr;obtain⟨x,_,rfl⟩:=bu.1 (cI (iJ hr));rfl),by simp[D.p9,D.flat]⟩)).a [.JV 2,.fl true]).rts hΓ (D.fr 9 1 (([]:List aP)++(aB.map tx))) (by first|rfl| (simp only[mA]<;>rfl))
def eU(aB:aD):Option aD:=((rI aB.args).bind fun y1=>(some (⟨aB.rel,y1⟩:aD)))
theorem gl{aB:aD}{r:aD}(h:eU aB=some r):Good prog 129 [D.agg (aD.c aB)] (D.agg [D.str r.rel,D.fr 9 1 (r.args.map tx)]):=by
 refine gd func129 [[none,some (9,1)]] 9 fun hr Γ hΓ=>?_
 rw[eU]at h;obtain⟨y1,h2,h⟩:=aC h;cases h;exact((aW.a [.n 5]).g (yl h2)).ret hΓ
def cr(aB:aJ)(aY:aD)(k1:Bool->aJ->Option aJ):aJ->Nat->Bool->aJ->Option aJ
 | [],i1,dP,bV=>(k1 dP bV)
 |bU::cO,i1,dP,bV=>(bif !(dP)then((hG bU aY).bind fun a71=>(bif decide ((a71:Int)>=0)then((hG bU aY).bind fun GH=>(bif decide ((GH:Int)>0)then((eU aY).bind fun Pa=>(bif room ((bV.map aD.c).length+([[D.str Pa.rel,D.sl (Pa.args.map tx)]]).length) 40 then((eU bU).bind fun JL=>(bif room (((bV.map aD.c)++([[D.str Pa.rel,D.sl (Pa.args.map tx)]])).length+([[D.str JL.rel,D.sl (JL.args.map tx)]]).length) 40 then(cr aB aY k1 cO (i1+1) true ((bV++([Pa]))++([JL])))else none))else none))else((eU bU).bind fun Sv=>(bif room ((bV.map aD.c).length+([[D.str Sv.rel,D.sl (Sv.args.map tx)]]).length) 40 then(cr aB aY k1 cO (i1+1) true (bV++([Sv])))else none))))else((eU bU).bind fun Sw=>(bif room ((bV.map aD.c).length+([[D.str Sw.rel,D.sl (Sw.args.map tx)]]).length) 40 then(cr aB aY k1 cO (i1+1) dP (bV++([Sw])))else none))))else((eU bU).bind fun AN=>(bif room ((bV.map aD.c).length+([[D.str AN.rel,D.sl (AN.args.map tx)]]).length) 40 then(cr aB aY k1 cO (i1+1) dP (bV++([AN])))else none)))
def s5(aB:aJ)(aY:aD):Option aJ:=(cr aB aY (fun(AF:Bool) (nO:aJ)=>(bif !(AF)then((eU aY).bind fun VE=>(bif room ((nO.map aD.c).length+([[D.str VE.rel,D.sl (VE.args.map tx)]]).length) 40 then(some (nO++([VE])))else none))else(some nO))) aB 0 false ([]:aJ))
def sR(aB:aJ)(aY:aD)(dP:Bool)(W1:List aP)(dQ:Int):St:=⟨[(0,D.sl (aB.map aD.c)),(3,D.ptr 0 0),(5,D.acc 1),(6,D.bool dP),(7,D.int .i64 dQ)],[Ob.box (aD.c aY),Ob.row .uq 37 2 W1]⟩
theorem Js(hΓ:Γ.nt=54){aB:aJ}{aY:aD}{r:aJ}{k1:Bool->aJ->Option aJ}(eF:∀(AF:Bool) (nO:aJ),k1 AF nO=some r->Ax Γ N f86 (.q [[some (37,2)]] (D.fr 37 2 (r.map aD.c))) [1,1,1,1] ⟨[(3,D.ptr 0 0),(5,D.acc 1),(6,D.bool AF)],[Ob.box (aD.c aY),Ob.row .uq 37 2 (nO.map aD.c)]⟩)(hm1:aB.length<=maxLen):∀(rest:aJ) (i1:Nat) (dP:Bool) (bV:aJ),aB.drop i1=rest->cr aB aY k1 rest i1 dP bV=some r->Ar Γ N f86 (.q [[some (37,2)]] (D.fr 37 2 (r.map aD.c))) [1,1,1,0,1,0] (rest.length+1) (sR aB aY dP (bV.map aD.c) (i1:Int)):=by
 intro rest
 induction rest with
 |nil=>
  intro i1 dP bV b8 h;rw[cr]at h;refine aU fun N1 cc cL=>?_
  exact((aW.ge aD.c b8).a [.hl 0 [3,5,6] [0,1]]).ex hΓ cc (eF dP bV h)
 |cons bU cO ih1=>
  intro i1 dP bV b8 h;rw[cr]at h;refine aU fun N1 cc cL=>?_
  have ko:=((aW.lt aD.c b8).a [.n 8])
  obtain⟨h128,h⟩|⟨h128,h⟩:=aO h
  ·obtain⟨a71,h130,h⟩:=aC h;have tN:=(((((ko.r 3 h128).l (bO aD.c 2 (dc b8) rfl)).r 3 h128).g (uy h130)).r 2 h128)
   obtain⟨h131,h⟩|⟨h131,h⟩:=aO h
   ·obtain⟨GH,h133,h⟩:=aC h;have xp:=((((tN.b h131).a [.n 5]).l (bO aD.c 2 (dc b8) rfl)).g (uy h133))
    obtain⟨h134,h⟩|⟨h134,h⟩:=aO h
    ·obtain⟨Pa,h136,h⟩:=aC h;obtain⟨h137,h⟩:=bX h;obtain⟨JL,h139,h⟩:=aC h;obtain⟨h140,h⟩:=bX h;exact(((((((xp.b h134).g (gl h136)).w (bq h137)).l (bO aD.c 2 (dc b8) rfl)).g (gl h139)).w (bq h140)).a [.cn [0,3,5,6,7] [0,7]]).cs hΓ cL (sR aB aY true (((bV.map aD.c)++([[D.str Pa.rel,D.sl (Pa.args.map tx)]]))++([[D.str JL.rel,D.sl (JL.args.map tx)]])) (IntKind.i64.wrap ((i1:Int)+1))) (by first| (simp only[iS b8 hm1,mA]<;>rfl)| (simp only[iS b8 hm1,mA,aD.c,aR.c,aL.c,Action.c,aK.c,aT.c,bS.c,aZ.c,Node.c,aI.c,dU.c]<;>rfl)) (ih1 (i1+1) true ((bV++([Pa]))++([JL])) (dn b8) h)
    ·obtain⟨Sv,h142,h⟩:=aC h;obtain⟨h143,h⟩:=bX h;exact(((((xp.b h134).l (bO aD.c 2 (dc b8) rfl)).g (gl h142)).w (bq h143)).a [.cn [0,3,5,6,7] [0,4]]).cs hΓ cL (sR aB aY true ((bV.map aD.c)++([[D.str Sv.rel,D.sl (Sv.args.map tx)]])) (IntKind.i64.wrap ((i1:Int)+1))) (by first| (simp only[iS b8 hm1,mA]<;>rfl)| (simp only[iS b8 hm1,mA,aD.c,aR.c,aL.c,Action.c,aK.c,aT.c,bS.c,aZ.c,Node.c,aI.c,dU.c]<;>rfl)) (ih1 (i1+1) true (bV++([Sv])) (dn b8) h)
   ·obtain⟨Sw,h145,h⟩:=aC h;obtain⟨h146,h⟩:=bX h;exact(((((tN.b h131).l (bO aD.c 2 (dc b8) rfl)).g (gl h145)).w (bq h146)).a [.cn [0,3,5,6,7] [0,4]]).cs hΓ cL (sR aB aY dP ((bV.map aD.c)++([[D.str Sw.rel,D.sl (Sw.args.map tx)]])) (IntKind.i64.wrap ((i1:Int)+1))) (by first| (simp only[iS b8 hm1,mA]<;>rfl)| (simp only[iS b8 hm1,mA,aD.c,aR.c,aL.c,Action.c,aK.c,aT.c,bS.c,aZ.c,Node.c,aI.c,dU.c]<;>rfl)) (ih1 (i1+1) dP (bV++([Sw])) (dn b8) h)
  ·obtain⟨AN,h148,h⟩:=aC h;obtain⟨h149,h⟩:=bX h;exact((((((ko.r 8 h128).F 1).l (bO aD.c 2 (dc b8) rfl)).g (gl h148)).w (bq h149)).a [.cn [0,3,5,6,7] [0,4]]).cs hΓ cL (sR aB aY dP ((bV.map aD.c)++([[D.str AN.rel,D.sl (AN.args.map tx)]])) (IntKind.i64.wrap ((i1:Int)+1))) (by first| (simp only[iS b8 hm1,mA]<;>rfl)| (simp only[iS b8 hm1,mA,aD.c,aR.c,aL.c,Action.c,aK.c,aT.c,bS.c,aZ.c,Node.c,aI.c,dU.c]<;>rfl)) (ih1 (i1+1) dP (bV++([AN])) (dn b8) h)
theorem IZ{aB:aJ}{aY:aD}{r:aJ}(h:s5 aB aY=some r):Good prog 86 [D.sl (aB.map aD.c),D.agg (aD.c aY)] (D.fr 37 2 (r.map aD.c)):=by
 refine gd func86 [[some (37,2)]] 54 fun hr Γ hΓ=>?_
 rw[s5]at h;refine(aW.a [.cn [0,3,5,6,7] [0,1]]).lp hΓ (Js hΓ (fun AF nO h=>?_) (by have:=(ij.sl (hr _ (aE (i:=0) rfl))).1;simpa using this) aB 0 false ([]:aJ) rfl h);obtain⟨h150,h⟩|⟨h150,h⟩:=aO h
 ·obtain⟨VE,h152,h⟩:=aC h;obtain⟨h153,h⟩:=bX h;cases h;exact(((aW.b h150).g (gl h152)).w (bq h153)).rts hΓ (D.fr 37 2 ((nO.map aD.c)++([[D.str VE.rel,D.sl (VE.args.map tx)]]))) (by first|rfl| (simp only[mA]<;>rfl))
 ·have h:=aN h;subst h;exact(aW.b h150).ret hΓ
def mF(k1:bJ->Int->Int->aJ->Option (cj×aJ)):Nat->Int->bJ->Int->Int->aJ->Option (cj×aJ)
 |0,_,_,_,_,_=>none
 |n1+1,dP,eR,dH,dJ,bV=>(bif decide ((dP:Int)>0)then((sj (⟨eR,dH,dJ⟩:cj)).bind fun KL=>((s5 bV KL.2).bind fun Kr=>(mF k1 n1 (IntKind.i64.wrap (dP-1)) KL.1.b KL.1.i KL.1.h Kr)))else(k1 eR dH dJ bV))
def wM(aB:cj)(aY:Int):Option (cj×aJ):=((di aB (IntKind.i64.wrap (aY+1))).bind fun y1=>(mF (fun(ke:bJ) (kf:Int) (kj:Int) (nO:aJ)=>(some ((⟨ke,kf,kj⟩:cj),nO))) fuel y1.2 y1.1.b y1.1.i y1.1.h ([]:aJ)))
def Kz(kn:Value)(dP:Int)(dH:Int)(dJ:Int)(W1:List aP)(W4:List aP):St:=⟨[(0,D.ptr 0 0),(5,D.acc 1),(6,D.int .i64 dP)],[Ob.DU [D.sl W1,D.int .i64 dH,D.int .i64 dJ] kn,Ob.row .uq 37 2 W4]⟩
theorem Jt(hΓ:Γ.nt=21){kn:Value}{r:cj×aJ}{k1:bJ->Int->Int->aJ->Option (cj×aJ)}(eF:∀(ke:bJ) (kf:Int) (kj:Int) (nO:aJ),k1 ke kf kj nO=some r->Ax Γ N f47 (.p [[none,none,none],[some (37,2)]] kn (cj.c r.1) (D.fr 37 2 (r.2.map aD.c))) [1,1,1] ⟨[(5,D.acc 1)],[Ob.DU [D.sl (ke.map yx),D.int .i64 kf,D.int .i64 kj] kn,Ob.row .uq 37 2 (nO.map aD.c)]⟩):∀(n1:Nat) (dP:Int) (eR:bJ) (dH:Int) (dJ:Int) (bV:aJ),mF k1 n1 dP eR dH dJ bV=some r->Ar Γ N f47 (.p [[none,none,none],[some (37,2)]] kn (cj.c r.1) (D.fr 37 2 (r.2.map aD.c))) [1,1,0,1,0] n1 (Kz kn dP dH dJ (eR.map yx) (bV.map aD.c)):=by
 intro n
 induction n with
 |zero=>intro dP eR dH dJ bV h;simp[mF]at h
 |succ n1 ih1=>
  intro dP eR dH dJ bV h;rw[mF]at h;refine aU fun N1 cc cL=>?_
  obtain⟨h18,h⟩|⟨h18,h⟩:=aO h
  ·obtain⟨KL,h20,h⟩:=aC h;obtain⟨Kr,h22,h⟩:=aC h;exact(((((aW.b h18).a [.gp [[none,none,none]] (cj.c KL.1) (D.agg [D.str KL.2.rel,D.fr 9 1 (KL.2.args.map tx)])]).w (show kA prog 96 (cj.c (⟨eR,dH,dJ⟩:cj)) (cj.c KL.1) [] (D.agg [D.str KL.2.rel,D.fr 9 1 (KL.2.args.map tx)])from by simpa only[bG,av,bZ,bh,bn]using HF h20)).g (IZ h22)).a [.cn [0,5,6] [0,3]]).cf hΓ cL (ih1 (IntKind.i64.wrap (dP-1)) KL.1.b KL.1.i KL.1.h Kr h)
  ·exact((aW.b h18).a [.hl 0 [5] [0,1]]).ex hΓ cc (eF eR dH dJ bV h)
theorem Ia{aB:cj}{aY:Int}{r:cj×aJ}(h:wM aB aY=some r):kA prog 47 (cj.c aB) (cj.c r.1) [D.int .i64 aY] (D.fr 37 2 (r.2.map aD.c)):=by
 refine Lx func47 [[none,none,none],[some (37,2)]] 21 [D.sl (aB.b.map yx),D.int .i64 aB.i,D.int .i64 aB.h] [D.int .i64 aY] [] fun hr kn Γ hΓ=>?_
 rw[wM]at h;obtain⟨y1,h2,h⟩:=aC h;refine((aW.hp [[none,none,none],[none]] (dV h2)).a [.cn [0,5,6] [0,1]]).lp hΓ (Jt hΓ (fun ke kf kj nO h=>?_) fuel y1.2 y1.1.b y1.1.i y1.1.h ([]:aJ) h);cases h;exact aW.ret hΓ
def gD(aB:Bytes)(k1:Option Bool):Nat->Int->Option Bool
 |0,_=>none
 |n1+1,mK=>(bif decide ((mK:Int)<(aB.length:Int))then((hO aB mK).bind fun b31=>(bif decide ((b31.toNat:Int)<97)then(bif decide ((b31.toNat:Int)<48)then(some false)else(bif decide ((b31.toNat:Int)>57)then(some false)else(gD aB k1 n1 (IntKind.i64.wrap (mK+1)))))else(bif decide ((b31.toNat:Int)>122)then(bif decide ((b31.toNat:Int)<48)then(some false)else(bif decide ((b31.toNat:Int)>57)then(some false)else(gD aB k1 n1 (IntKind.i64.wrap (mK+1)))))else(gD aB k1 n1 (IntKind.i64.wrap (mK+1))))))else(k1))
def fT(aB:Bytes):Option Bool:=(bif decide (((aB.length:Int):Int)<1)then(some false)else(bif decide (((aB.length:Int):Int)>8)then(some false)else(gD aB (some true) fuel 0)))
def Jb(aB:Bytes)(mK:Int):St:=⟨[(0,D.str aB),(3,D.int .i64 mK)],[]⟩
theorem I7(hΓ:Γ.nt=40){aB:Bytes}{r:Bool}{k1:Option Bool}(eF:k1=some r->Ax Γ N f174 (.q [[none]] (D.bool r)) [1,1,1] ⟨[],[]⟩):∀(n1:Nat) (mK:Int),gD aB k1 n1 mK=some r->Ar Γ N f174 (.q [[none]] (D.bool r)) [1,1,0,1,0] n1 (Jb aB mK):=by
 intro n
 induction n with
 |zero=>intro mK h;simp[gD]at h
 |succ n1 ih1=>
  intro mK h;rw[gD]at h;refine aU fun N1 cc cL=>?_
  obtain⟨h30,h⟩|⟨h30,h⟩:=aO h
  ·obtain⟨b31,h32,h⟩:=aC h;have B0:=((aW.b h30).c h32)
   obtain⟨h33,h⟩|⟨h33,h⟩:=aO h
   ·have GU:=((((B0.r 5 h33).T 3).c h32).T 2)
    obtain⟨h34,h⟩|⟨h34,h⟩:=aO h
    ·have h:=aN h;subst h;exact((((GU.r 4 h34).T 1).b h34).T 2).ret hΓ
    ·have MV:=((((((GU.r 3 h34).c h32).b h34).T 1).b h34).T 1)
     obtain⟨h35,h⟩|⟨h35,h⟩:=aO h
     ·have h:=aN h;subst h;exact(MV.b h35).ret hΓ
     ·exact((MV.b h35).a [.cn [0,3] []]).cf hΓ cL (ih1 (IntKind.i64.wrap (mK+1)) h)
   ·have Em:=(((B0.r 3 h33).c h32).r 2 h33)
    obtain⟨h36,h⟩|⟨h36,h⟩:=aO h
    ·have MU:=(((Em.r 3 h36).c h32).r 2 h36)
     obtain⟨h37,h⟩|⟨h37,h⟩:=aO h
     ·have h:=aN h;subst h;exact(((((MU.r 4 h37).b h36).b h37).b h36).T 1).ret hΓ
     ·have He:=((((((MU.r 3 h37).c h32).b h37).b h36).b h37).b h36)
      obtain⟨h38,h⟩|⟨h38,h⟩:=aO h
      ·have h:=aN h;subst h;exact(He.b h38).ret hΓ
      ·exact((He.b h38).a [.cn [0,3] []]).cf hΓ cL (ih1 (IntKind.i64.wrap (mK+1)) h)
    ·exact(((Em.r 7 h36).F 1).a [bF,bF,bF,bF,.cn [0,3] []]).cf hΓ cL (ih1 (IntKind.i64.wrap (mK+1)) h)
  ·exact((aW.b h30).a [.hl 0 [] []]).ex hΓ cc (eF h)
theorem eg{aB:Bytes}{r:Bool}(h:fT aB=some r):Good prog 174 [D.str aB] (D.bool r):=by
 refine gd func174 [[none]] 40 fun hr Γ hΓ=>?_
 rw[fT]at h;obtain⟨h1,h⟩|⟨h1,h⟩:=aO h
 ·have h:=aN h;subst h;exact((aW.r 4 h1).T 1).ret hΓ
 ·have J7:=(aW.r 4 h1)
  obtain⟨h2,h⟩|⟨h2,h⟩:=aO h
  ·have h:=aN h;subst h;exact(J7.b h2).ret hΓ
  ·refine((J7.b h2).a [.cn [0,3] []]).lp hΓ (I7 hΓ (fun h=>?_) fuel 0 h);have h:=aN h;subst h;exact aW.ret hΓ
def qR(aB:Bytes):Option Bool:=((fT aB).bind fun y1=>(bif y1 then((hO aB 0).bind fun b4=>(some (decide ((b4.toNat:Int)>=97))))else(some false)))
theorem mU{aB:Bytes}{r:Bool}(h:qR aB=some r):Good prog 158 [D.str aB] (D.bool r):=by
 refine gd func158 [[none]] 10 fun hr Γ hΓ=>?_
 rw[qR]at h;obtain⟨y1,h2,h⟩:=aC h;obtain⟨h3,h⟩|⟨h3,h⟩:=aO h
 ·obtain⟨b4,h5,h⟩:=aC h;cases h;exact((((aW.g (eg h2)).r 2 h3).c h5).r 2 h3).ret hΓ
 ·have h:=aN h;subst h;exact((aW.g (eg h2)).r 4 h3).ret hΓ
def l7(aB:Bytes):Option Bool:=(bif decide (((aB.length:Int):Int)>1)then((hO aB 0).bind fun b2=>(bif (b2.toNat:Int)==63 then((xE aB.length (some (D.int .i64 1)) none).bind fun p=>(fun l5 u6=>((fT ((aB.take u6).drop l5)).bind fun y8=>(some y8))) p.1 p.2)else(some false)))else(some false))
theorem nV{aB:Bytes}{r:Bool}(h:l7 aB=some r):Good prog 187 [D.str aB] (D.bool r):=by
 refine gd func187 [[none]] 16 fun hr Γ hΓ=>?_
 rw[l7]at h;obtain⟨h1,h⟩|⟨h1,h⟩:=aO h
 ·obtain⟨b2,h3,h⟩:=aC h;have pW:=(((aW.r 2 h1).c h3).r 2 h1)
  obtain⟨h4,h⟩|⟨h4,h⟩:=aO h
  ·obtain⟨⟨l5,u6⟩,h7,h⟩:=aC h;obtain⟨y8,h9,h⟩:=aC h;have h:=aN h;subst h;exact((((((pW.r 2 h4).w h7).a [.cut l5 u6]).b h4).g (eg h9)).b h4).ret hΓ
  ·have h:=aN h;subst h;exact(pW.r 4 h4).ret hΓ
 ·have h:=aN h;subst h;exact((aW.r 4 h1).F 4).ret hΓ
def iq(aB:Bytes):Option Bool:=((fT aB).bind fun y1=>(bif y1 then(some true)else((l7 aB).bind fun y4=>(some y4))))
theorem jo{aB:Bytes}{r:Bool}(h:iq aB=some r):Good prog 179 [D.str aB] (D.bool r):=by
 refine gd func179 [[none]] 9 fun hr Γ hΓ=>?_
 rw[iq]at h;obtain⟨y1,h2,h⟩:=aC h;obtain⟨h3,h⟩|⟨h3,h⟩:=aO h
 ·have h:=aN h;subst h;exact((aW.g (eg h2)).r 3 h3).ret hΓ
 ·obtain⟨y4,h5,h⟩:=aC h;have h:=aN h;subst h;exact((((aW.g (eg h2)).r 2 h3).g (nV h5)).b h3).ret hΓ
def lU(aB:aD)(k1:Option Bool):aG->Nat->Option Bool
 | [],i1=>(k1)
 |bU::cO,i1=>((iq bU).bind fun vI=>(bif !(vI)then(some false)else(lU aB k1 cO (i1+1))))
def j4(aB:aD):Option Bool:=((qR aB.rel).bind fun y1=>(bif !(y1)then(some false)else(bif decide ((((aB.args.map tx).length:Int):Int)>3)then(some false)else(lU aB (some true) aB.args 0))))
def FP(aB:aD)(dQ:Int):St:=⟨[(16,D.sl (aB.args.map tx)),(17,D.int .i64 ((aB.args.map tx).length:Int)),(18,D.int .i64 dQ)],[]⟩
theorem Ds(hΓ:Γ.nt=26){aB:aD}{r:Bool}{k1:Option Bool}(eF:k1=some r->Ax Γ N f178 (.q [[none]] (D.bool r)) [1,1,1] ⟨[],[]⟩)(hm1:aB.args.length<=maxLen):∀(rest:aG) (i1:Nat),aB.args.drop i1=rest->lU aB k1 rest i1=some r->Ar Γ N f178 (.q [[none]] (D.bool r)) [1,1,0,1,0] (rest.length+1) (FP aB (i1:Int)):=by
 intro rest
 induction rest with
 |nil=>
  intro i1 b8 h;rw[lU]at h;refine aU fun N1 cc cL=>?_
  exact((aW.ge tx b8).a [.hl 0 [] []]).ex hΓ cc (eF h)
 |cons bU cO ih1=>
  intro i1 b8 h;rw[lU]at h;refine aU fun N1 cc cL=>?_
  obtain⟨vI,h26,h⟩:=aC h;have gr:=(((aW.lt tx b8).l (bO tx 1 (dc b8) rfl)).g (jo h26))
  obtain⟨h27,h⟩|⟨h27,h⟩:=aO h
  ·have h:=aN h;subst h;exact(gr.b h27).ret hΓ
  ·exact((gr.b h27).a [.cn [16,17,18] []]).ct hΓ cL (iS b8 hm1) (ih1 (i1+1) (dn b8) h)
theorem jY{aB:aD}{r:Bool}(h:j4 aB=some r):Good prog 178 [D.agg (aD.c aB)] (D.bool r):=by
 refine gd func178 [[none]] 26 fun hr Γ hΓ=>?_
 rw[j4]at h;obtain⟨y1,h2,h⟩:=aC h;obtain⟨h3,h⟩|⟨h3,h⟩:=aO h
 ·have h:=aN h;subst h;exact(((aW.g (mU h2)).r 5 h3).T 1).ret hΓ
 ·have kp:=((aW.g (mU h2)).r 5 h3)
  obtain⟨h4,h⟩|⟨h4,h⟩:=aO h
  ·have h:=aN h;subst h;exact(kp.b h4).ret hΓ
  ·refine((kp.b h4).a [.cn [16,17,18] []]).lp hΓ (Ds hΓ (fun h=>?_) (by have:=(ij.sl (ij.agg (hr _ (aE (i:=0) rfl)) (.sl (aB.args.map tx)) (by simp))).1;simpa using this) aB.args 0 rfl h);have h:=aN h;subst h;exact aW.ret hΓ
def iR(aB:aD):Option Bool:=(bif (aB.rel:Bytes)==([])then(some ((((aB.args.map tx).length:Int):Int)==0))else(some false))
theorem ng{aB:aD}{r:Bool}(h:iR aB=some r):Good prog 180 [D.agg (aD.c aB)] (D.bool r):=by
 refine gd func180 [[none]] 12 fun hr Γ hΓ=>?_
 rw[iR]at h;obtain⟨h1,h⟩|⟨h1,h⟩:=aO h
 ·cases h;exact(aW.r 5 h1).ret hΓ
 ·have h:=aN h;subst h;exact(aW.r 5 h1).ret hΓ
def qQ(aB:aL):Option Bool:=(bif (aB.kind:Int)==1 then((j4 aB.pat).bind fun y2=>(bif y2 then(bif (aB.left:Bytes)==([])then(some ((aB.right:Bytes)==([])))else(some false))else(some false)))else(bif (aB.kind:Int)==2 then((j4 aB.pat).bind fun y7=>(bif y7 then(bif (aB.left:Bytes)==([])then(some ((aB.right:Bytes)==([])))else(some false))else(some false)))else(bif (aB.kind:Int)==3 then((iq aB.left).bind fun Pe=>(bif Pe then((iq aB.right).bind fun y15=>(bif y15 then((iR aB.pat).bind fun U7=>(some U7))else(some false)))else(some false)))else(bif (aB.kind:Int)==4 then((iq aB.left).bind fun Kr=>(bif Kr then((iq aB.right).bind fun NP=>(bif NP then((iR aB.pat).bind fun oH=>(some oH))else(some false)))else(some false)))else(bif (aB.kind:Int)==5 then((iq aB.left).bind fun yU=>(bif yU then((iq aB.right).bind fun ua=>(bif ua then((iR aB.pat).bind fun Pf=>(some Pf))else(some false)))else(some false)))else(some false))))))
theorem oz{aB:aL}{r:Bool}(h:qQ aB=some r):Good prog 115 [D.agg (aL.c aB)] (D.bool r):=by
 refine gd func115 [[none]] 38 fun hr Γ hΓ=>?_
 rw[qQ]at h;obtain⟨h1,h⟩|⟨h1,h⟩:=aO h
 ·obtain⟨y2,h3,h⟩:=aC h;have pW:=((aW.r 2 h1).g (jY h3))
  obtain⟨h4,h⟩|⟨h4,h⟩:=aO h
  ·have gr:=(pW.r 4 h4)
   obtain⟨h5,h⟩|⟨h5,h⟩:=aO h
   ·cases h;exact(gr.r 4 h5).ret hΓ
   ·have h:=aN h;subst h;exact(gr.r 4 h5).ret hΓ
  ·have h:=aN h;subst h;exact((pW.r 4 h4).F 4).ret hΓ
 ·obtain⟨h6,h⟩|⟨h6,h⟩:=aO h
  ·obtain⟨y7,h8,h⟩:=aC h;have kp:=(((aW.b h1).b h6).g (jY h8))
   obtain⟨h9,h⟩|⟨h9,h⟩:=aO h
   ·have ko:=(kp.r 4 h9)
    obtain⟨h10,h⟩|⟨h10,h⟩:=aO h
    ·cases h;exact(ko.r 4 h10).ret hΓ
    ·have h:=aN h;subst h;exact(ko.r 4 h10).ret hΓ
   ·have h:=aN h;subst h;exact((kp.r 4 h9).F 4).ret hΓ
  ·have tN:=((aW.b h1).b h6)
   obtain⟨h11,h⟩|⟨h11,h⟩:=aO h
   ·obtain⟨Pe,h13,h⟩:=aC h;have xp:=((tN.r 2 h11).g (jo h13))
    obtain⟨h14,h⟩|⟨h14,h⟩:=aO h
    ·obtain⟨y15,h16,h⟩:=aC h;have B0:=(((xp.r 3 h14).g (jo h16)).b h14)
     obtain⟨h17,h⟩|⟨h17,h⟩:=aO h
     ·obtain⟨U7,h19,h⟩:=aC h;have h:=aN h;subst h;exact(((B0.r 3 h17).g (ng h19)).b h17).ret hΓ
     ·have h:=aN h;subst h;exact(B0.r 4 h17).ret hΓ
    ·have h:=aN h;subst h;exact((xp.r 4 h14).F 4).ret hΓ
   ·obtain⟨h20,h⟩|⟨h20,h⟩:=aO h
    ·obtain⟨Kr,h22,h⟩:=aC h;have GU:=(((tN.b h11).r 2 h20).g (jo h22))
     obtain⟨h23,h⟩|⟨h23,h⟩:=aO h
     ·obtain⟨NP,h25,h⟩:=aC h;have MV:=(((GU.r 3 h23).g (jo h25)).b h23)
      obtain⟨h26,h⟩|⟨h26,h⟩:=aO h
      ·obtain⟨oH,h28,h⟩:=aC h;have h:=aN h;subst h;exact(((MV.r 3 h26).g (ng h28)).b h26).ret hΓ
      ·have h:=aN h;subst h;exact(MV.r 4 h26).ret hΓ
     ·have h:=aN h;subst h;exact((GU.r 4 h23).F 4).ret hΓ
    ·have Em:=((tN.b h11).b h20)
     obtain⟨h29,h⟩|⟨h29,h⟩:=aO h
     ·obtain⟨yU,h31,h⟩:=aC h;have MU:=((Em.b h29).g (jo h31))
      obtain⟨h32,h⟩|⟨h32,h⟩:=aO h
      ·obtain⟨ua,h34,h⟩:=aC h;have He:=(((MU.r 3 h32).g (jo h34)).b h32)
       obtain⟨h35,h⟩|⟨h35,h⟩:=aO h
       ·obtain⟨Pf,h37,h⟩:=aC h;have h:=aN h;subst h;exact(((He.r 3 h35).g (ng h37)).b h35).ret hΓ
       ·have h:=aN h;subst h;exact(He.r 4 h35).ret hΓ
      ·have h:=aN h;subst h;exact((MU.r 4 h32).F 4).ret hΓ
     ·have h:=aN h;subst h;exact(Em.b h29).ret hΓ
def fq(aB:aG)(k1:aG->Option aG):aG->Nat->aG->Option aG
 | [],i1,bP=>(k1 bP)
 |bU::cO,i1,bP=>((l7 bU).bind fun O9=>(bif O9 then(bif room ((bP.map tx).length+([[D.str bU]]).length) 16 then(fq aB k1 cO (i1+1) (bP++([bU])))else none)else(fq aB k1 cO (i1+1) bP)))
def me(aB:aG):Option aG:=(fq aB (fun(cB:aG)=>(some cB)) aB 0 ([]:aG))
def yh(aB:aG)(W0:List aP)(dQ:Int):St:=⟨[(3,D.acc 0),(6,D.sl (aB.map tx)),(7,D.int .i64 ((aB.map tx).length:Int)),(8,D.int .i64 dQ)],[Ob.row .uq 9 1 W0]⟩
theorem EA(hΓ:Γ.nt=20){aB:aG}{r:aG}{k1:aG->Option aG}(eF:∀(cB:aG),k1 cB=some r->Ax Γ N f162 (.q [[some (9,1)]] (D.fr 9 1 (r.map tx))) [1,1,1] ⟨[(3,D.acc 0)],[Ob.row .uq 9 1 (cB.map tx)]⟩)(hm1:aB.length<=maxLen):∀(rest:aG) (i1:Nat) (bP:aG),aB.drop i1=rest->fq aB k1 rest i1 bP=some r->Ar Γ N f162 (.q [[some (9,1)]] (D.fr 9 1 (r.map tx))) [1,1,0,1,0] (rest.length+1) (yh aB (bP.map tx) (i1:Int)):=by
 intro rest
 induction rest with
 |nil=>
  intro i1 bP b8 h;rw[fq]at h;refine aU fun N1 cc cL=>?_
  exact((aW.ge tx b8).a [.hl 0 [3] [0]]).ex hΓ cc (eF bP h)
 |cons bU cO ih1=>
  intro i1 bP b8 h;rw[fq]at h;refine aU fun N1 cc cL=>?_
  obtain⟨O9,h33,h⟩:=aC h;have gr:=(((aW.lt tx b8).l (bO tx 1 (dc b8) rfl)).g (nV h33))
  obtain⟨h34,h⟩|⟨h34,h⟩:=aO h
  ·obtain⟨h35,h⟩:=bX h;exact(((gr.b h34).w (bq h35)).a [.cn [3,6,7,8] [2]]).cs hΓ cL (yh aB ((bP.map tx)++([[D.str bU]])) (IntKind.i64.wrap ((i1:Int)+1))) (by first| (simp only[iS b8 hm1,mA]<;>rfl)| (simp only[iS b8 hm1,mA,aD.c,aR.c,aL.c,Action.c,aK.c,aT.c,bS.c,aZ.c,Node.c,aI.c,dU.c]<;>rfl)) (ih1 (i1+1) (bP++([bU])) (dn b8) h)
  ·exact((gr.b h34).a [.cn [3,6,7,8] [0]]).ct hΓ cL (iS b8 hm1) (ih1 (i1+1) bP (dn b8) h)
theorem tG{aB:aG}{r:aG}(h:me aB=some r):Good prog 162 [D.sl (aB.map tx)] (D.fr 9 1 (r.map tx)):=by
 refine gd func162 [[some (9,1)]] 20 fun hr Γ hΓ=>?_
 rw[me]at h;refine(aW.a [.JV 3,.cn [3,6,7,8] [0]]).lp hΓ (EA hΓ (fun cB h=>?_) (by have:=(ij.sl (hr _ (aE (i:=0) rfl))).1;simpa using this) aB 0 ([]:aG) rfl h);have h:=aN h;subst h;exact aW.ret hΓ
def eA(aB:aG)(k1:aG->Option aG):aG->Nat->aG->Option aG
 | [],i1,bV=>(k1 bV)
 |bU::cO,i1,bV=>(bif ((i1:Int):Int)==0 then(bif room ((bV.map tx).length+([[D.str bU]]).length) 16 then(eA aB k1 cO (i1+1) (bV++([bU])))else none)else((hO (ni (([]:aG)++aB)) (IntKind.i64.wrap ((i1:Int)-1))).bind fun x47=>(bif !((x47:Bytes)==bU)then(bif room ((bV.map tx).length+([[D.str bU]]).length) 16 then(eA aB k1 cO (i1+1) (bV++([bU])))else none)else(eA aB k1 cO (i1+1) bV))))
def jr(aB:aG):Option aG:=(bif room (([]:List aP).length+(aB.map tx).length) 16 then(bif decide ((([]:aG)++aB).length<4611686018427387904)then(bif decide ((ni (([]:aG)++aB)).length<=maxLen)then(eA aB (fun(cB:aG)=>(some cB)) (ni (([]:aG)++aB)) 0 ([]:aG))else none)else none)else none)
def tD(aB:aG)(W0:List aP)(dQ:Int):St:=⟨[(3,D.acc 0),(4,D.acc 1),(11,D.acc 0),(12,D.int .i64 (((ni (([]:aG)++aB)).map tx).length:Int)),(13,D.int .i64 dQ)],[Ob.row .uq 9 1 ((ni (([]:aG)++aB)).map tx),Ob.row .uq 9 1 W0]⟩
theorem CA(hΓ:Γ.nt=35){aB:aG}{r:aG}{k1:aG->Option aG}(eF:∀(cB:aG),k1 cB=some r->Ax Γ N f164 (.q [[some (9,1)]] (D.fr 9 1 (r.map tx))) [1,1,1,1,1] ⟨[(4,D.acc 0)],[Ob.row .uq 9 1 (cB.map tx)]⟩)(hm1:(ni (([]:aG)++aB)).length<=maxLen):∀(rest:aG) (i1:Nat) (bV:aG),(ni (([]:aG)++aB)).drop i1=rest->eA aB k1 rest i1 bV=some r->Ar Γ N f164 (.q [[some (9,1)]] (D.fr 9 1 (r.map tx))) [1,1,1,1,0,1,0] (rest.length+1) (tD aB (bV.map tx) (i1:Int)):=by
 intro rest
 induction rest with
 |nil=>
  intro i1 bV b8 h;rw[eA]at h;refine aU fun N1 cc cL=>?_
  exact((aW.ge tx b8).a [.hl 0 [4] [1]]).ex hΓ cc (eF bV h)
 |cons bU cO ih1=>
  intro i1 bV b8 h;rw[eA]at h;refine aU fun N1 cc cL=>?_
  have kp:=(((aW.lt tx b8).i (mO tx 1 (dc b8))).o 1 1 .uq (cV tx (dc b8)))
  obtain⟨h45,h⟩|⟨h45,h⟩:=aO h
  ·obtain⟨h46,h⟩:=bX h;exact((((kp.r 8 h45).T 1).w (bq h46)).a [.cn [3,4,11,12,13] [0,3]]).cs hΓ cL (tD aB ((bV.map tx)++([[D.str bU]])) (IntKind.i64.wrap ((i1:Int)+1))) (by first| (simp only[iS b8 hm1,mA]<;>rfl)| (simp only[iS b8 hm1,mA,aD.c,aR.c,aL.c,Action.c,aK.c,aT.c,bS.c,aZ.c,Node.c,aI.c,dU.c]<;>rfl)) (ih1 (i1+1) (bV++([bU])) (dn b8) h)
  ·obtain⟨x47,h48,h⟩:=aC h;have ko:=(((((kp.r 4 h45).i (iG tx 1 h48)).b h45).o 1 1 .uq (cV tx (fG h48))).r 3 h45)
   obtain⟨h49,h⟩|⟨h49,h⟩:=aO h
   ·obtain⟨h50,h⟩:=bX h;exact(((ko.b h49).w (bq h50)).a [.cn [3,4,11,12,13] [0,3]]).cs hΓ cL (tD aB ((bV.map tx)++([[D.str bU]])) (IntKind.i64.wrap ((i1:Int)+1))) (by first| (simp only[iS b8 hm1,mA]<;>rfl)| (simp only[iS b8 hm1,mA,aD.c,aR.c,aL.c,Action.c,aK.c,aT.c,bS.c,aZ.c,Node.c,aI.c,dU.c]<;>rfl)) (ih1 (i1+1) (bV++([bU])) (dn b8) h)
   ·exact((ko.b h49).a [.cn [3,4,11,12,13] [0,1]]).ct hΓ cL (iS b8 hm1) (ih1 (i1+1) bV (dn b8) h)
theorem qw{aB:aG}{r:aG}(h:jr aB=some r):Good prog 164 [D.sl (aB.map tx)] (D.fr 9 1 (r.map tx)):=by
 refine gd func164 [[some (9,1)]] 35 fun hr Γ hΓ=>?_
 rw[jr]at h;obtain⟨h1,h⟩:=bX h;obtain⟨h2,h⟩:=bX h;obtain⟨h51,h⟩:=bX h;refine(((((aW.w (bq h1)).w (show(∀r∈(aB.map tx),r.length=1)/\(true=true->D.p9 (aB.map tx)=true)from⟨by first|simp| (intro r hr;obtain⟨x,_,rfl⟩:=bu.1 (cI (iJ hr));rfl),by simp[D.p9,D.flat]⟩)).w (show(([]:List aP)++(aB.map tx)).flatten.all D.flat=true from by simpa only[bG,av,bZ]using QI (([]:aG)++aB))).w (show Pk prog 223 9 1 (([]:List aP)++(aB.map tx)) ((ni (([]:aG)++aB)).map tx)from by simpa only[bG,av,bZ]using(Fj (e:=9) (bY h2)))).a [.fl true,.mu 0 ((ni (([]:aG)++aB)).map tx),.JV 4,.cn [3,4,11,12,13] [0,1]]).lp hΓ (CA hΓ (fun cB h=>?_) (bY h51) (ni (([]:aG)++aB)) 0 ([]:aG) rfl h);have h:=aN h;subst h;exact aW.ret hΓ
def fD(aB:aK)(aY:Int)(k1:aG->Option aG):ah->Nat->aG->Option aG
 | [],i1,bP=>(k1 bP)
 |bU::cO,i1,bP=>(bif decide (((i1:Int):Int)<aY)then(bif (bU.kind:Int)==1 then((me bU.pat.args).bind fun Da=>(bif room ((bP.map tx).length+(Da.map tx).length) 16 then(fD aB aY k1 cO (i1+1) (bP++Da))else none))else(fD aB aY k1 cO (i1+1) bP))else(fD aB aY k1 cO (i1+1) bP))
def oa(aB:aK)(aY:Int):Option aG:=(fD aB aY (fun(cB:aG)=>((jr cB).bind fun VG=>(some VG))) aB.conds 0 ([]:aG))
def ya(aB:aK)(aY:Int)(W0:List aP)(dQ:Int):St:=⟨[(1,D.int .i64 aY),(5,D.acc 0),(9,D.sl (aB.conds.map aL.c)),(10,D.int .i64 ((aB.conds.map aL.c).length:Int)),(11,D.int .i64 dQ)],[Ob.row .uq 9 1 W0]⟩
theorem Dn(hΓ:Γ.nt=33){aB:aK}{aY:Int}{r:aG}{k1:aG->Option aG}(eF:∀(cB:aG),k1 cB=some r->Ax Γ N f160 (.q [[some (9,1)]] (D.fr 9 1 (r.map tx))) [1,1,1] ⟨[(5,D.acc 0)],[Ob.row .uq 9 1 (cB.map tx)]⟩)(hm1:aB.conds.length<=maxLen):∀(rest:ah) (i1:Nat) (bP:aG),aB.conds.drop i1=rest->fD aB aY k1 rest i1 bP=some r->Ar Γ N f160 (.q [[some (9,1)]] (D.fr 9 1 (r.map tx))) [1,1,0,1,0] (rest.length+1) (ya aB aY (bP.map tx) (i1:Int)):=by
 intro rest
 induction rest with
 |nil=>
  intro i1 bP b8 h;rw[fD]at h;refine aU fun N1 cc cL=>?_
  exact((aW.ge aL.c b8).a [.hl 0 [5] [0]]).ex hΓ cc (eF bP h)
 |cons bU cO ih1=>
  intro i1 bP b8 h;rw[fD]at h;refine aU fun N1 cc cL=>?_
  have kp:=((aW.lt aL.c b8).l (bO aL.c 5 (dc b8) rfl))
  obtain⟨h37,h⟩|⟨h37,h⟩:=aO h
  ·have ko:=(kp.r 4 h37)
   obtain⟨h38,h⟩|⟨h38,h⟩:=aO h
   ·obtain⟨Da,h40,h⟩:=aC h;obtain⟨h41,h⟩:=bX h;exact((((ko.b h38).g (tG h40)).w (bq h41)).a [.cn [1,5,9,10,11] [3]]).cs hΓ cL (ya aB aY ((bP.map tx)++(Da.map tx)) (IntKind.i64.wrap ((i1:Int)+1))) (by first| (simp only[iS b8 hm1,mA]<;>rfl)| (simp only[iS b8 hm1,mA,aD.c,aR.c,aL.c,Action.c,aK.c,aT.c,bS.c,aZ.c,Node.c,aI.c,dU.c]<;>rfl)) (ih1 (i1+1) (bP++Da) (dn b8) h)
   ·exact((ko.b h38).a [.cn [1,5,9,10,11] [0]]).ct hΓ cL (iS b8 hm1) (ih1 (i1+1) bP (dn b8) h)
  ·exact(((kp.r 4 h37).F 1).a [.cn [1,5,9,10,11] [0]]).ct hΓ cL (iS b8 hm1) (ih1 (i1+1) bP (dn b8) h)
theorem wZ{aB:aK}{aY:Int}{r:aG}(h:oa aB aY=some r):Good prog 160 [D.agg (aK.c aB),D.int .i64 aY] (D.fr 9 1 (r.map tx)):=by
 refine gd func160 [[some (9,1)]] 33 fun hr Γ hΓ=>?_
 rw[oa]at h;refine(aW.a [.JV 5,.cn [1,5,9,10,11] [1]]).lp hΓ (Dn hΓ (fun cB h=>?_) (by have:=(ij.sl (ij.agg (hr _ (aE (i:=0) rfl)) (.sl (aB.conds.map aL.c)) (by simp))).1;simpa using this) aB.conds 0 ([]:aG) rfl h);obtain⟨VG,h43,h⟩:=aC h;have h:=aN h;subst h;exact(aW.g (qw h43)).ret hΓ
def mZ(aB:aG):Option aG:=(bif room (([]:List aP).length+(aB.map tx).length) 16 then(some (([]:aG)++aB))else none)
theorem tF{aB:aG}{r:aG}(h:mZ aB=some r):Good prog 172 [D.sl (aB.map tx)] (D.fr 9 1 (r.map tx)):=by
 refine gd func172 [[some (9,1)]] 5 fun hr Γ hΓ=>?_
 rw[mZ]at h;obtain⟨h1,h⟩:=bX h;cases h;exact(((aW.w (bq h1)).w (show(∀r∈(aB.map tx),r.length=1)/\(true=true->D.p9 (aB.map tx)=true)from⟨by first|simp| (intro r hr;obtain⟨x,_,rfl⟩:=bu.1 (cI (iJ hr));rfl),by simp[D.p9,D.flat]⟩)).a [.JV 2,.fl true]).rts hΓ (D.fr 9 1 (([]:List aP)++(aB.map tx))) (by first|rfl| (simp only[mA]<;>rfl))
def rD(aB:aL):Option aG:=((mZ aB.pat.args).bind fun y1=>(bif room ((y1.map tx).length+(([aB.left,aB.right]:aG).map tx).length) 16 then(some (y1++([aB.left,aB.right]:aG)))else none))
theorem yg{aB:aL}{r:aG}(h:rD aB=some r):Good prog 185 [D.agg (aL.c aB)] (D.fr 9 1 (r.map tx)):=by
 refine gd func185 [[some (9,1)]] 13 fun hr Γ hΓ=>?_
 rw[rD]at h;obtain⟨y1,h2,h⟩:=aC h;obtain⟨h3,h⟩:=bX h;cases h;exact(((aW.a [.JV 2,.n 9]).g (tF h2)).w (bq h3)).rts hΓ (D.fr 9 1 ((y1.map tx)++(([aB.left,aB.right]:aG).map tx))) (by first|rfl| (simp only[mA]<;>rfl))
def nu(aB:aL):Option aG:=((rD aB).bind fun y1=>((me y1).bind fun y3=>((jr y3).bind fun y5=>(some y5))))
theorem tZ{aB:aL}{r:aG}(h:nu aB=some r):Good prog 221 [D.agg (aL.c aB)] (D.fr 9 1 (r.map tx)):=by
 refine gd func221 [[some (9,1)]] 7 fun hr Γ hΓ=>?_
 rw[nu]at h;obtain⟨y1,h2,h⟩:=aC h;obtain⟨y3,h4,h⟩:=aC h;obtain⟨y5,h6,h⟩:=aC h;have h:=aN h;subst h;exact(((aW.g (yg h2)).g (tG h4)).g (qw h6)).ret hΓ
def lD(aB:aG)(aY:Bytes)(k1:Option Bool):aG->Nat->Option Bool
 | [],i1=>(k1)
 |bU::cO,i1=>(bif (bU:Bytes)==aY then(some true)else(lD aB aY k1 cO (i1+1)))
def lC(aB:aG)(aY:Bytes):Option Bool:=(lD aB aY (some false) aB 0)
def IJ(aB:aG)(aY:Bytes)(dQ:Int):St:=⟨[(1,D.str aY),(7,D.sl (aB.map tx)),(8,D.int .i64 ((aB.map tx).length:Int)),(9,D.int .i64 dQ)],[]⟩
theorem Gt(hΓ:Γ.nt=17){aB:aG}{aY:Bytes}{r:Bool}{k1:Option Bool}(eF:k1=some r->Ax Γ N f163 (.q [[none]] (D.bool r)) [1,1] ⟨[],[]⟩)(hm1:aB.length<=maxLen):∀(rest:aG) (i1:Nat),aB.drop i1=rest->lD aB aY k1 rest i1=some r->Ar Γ N f163 (.q [[none]] (D.bool r)) [1,0,1,0] (rest.length+1) (IJ aB aY (i1:Int)):=by
 intro rest
 induction rest with
 |nil=>
  intro i1 b8 h;rw[lD]at h;refine aU fun N1 cc cL=>?_
  exact((aW.ge tx b8).a [.hl 0 [] []]).ex hΓ cc (eF h)
 |cons bU cO ih1=>
  intro i1 b8 h;rw[lD]at h;refine aU fun N1 cc cL=>?_
  have gr:=((aW.lt tx b8).l (bO tx 1 (dc b8) rfl))
  obtain⟨h13,h⟩|⟨h13,h⟩:=aO h
  ·have h:=aN h;subst h;exact(gr.b h13).ret hΓ
  ·exact((gr.b h13).a [.cn [1,7,8,9] []]).ct hΓ cL (iS b8 hm1) (ih1 (i1+1) (dn b8) h)
theorem qg{aB:aG}{aY:Bytes}{r:Bool}(h:lC aB aY=some r):Good prog 163 [D.sl (aB.map tx),D.str aY] (D.bool r):=by
 refine gd func163 [[none]] 17 fun hr Γ hΓ=>?_
 rw[lC]at h;refine(aW.a [.cn [1,7,8,9] []]).lp hΓ (Gt hΓ (fun h=>?_) (by have:=(ij.sl (hr _ (aE (i:=0) rfl))).1;simpa using this) aB 0 rfl h);have h:=aN h;subst h;exact aW.ret hΓ
def eL(aB:aK)(aY:Int)(cT:Bytes)(k1:Option Bool):ah->Nat->Option Bool
 | [],i1=>(k1)
 |bU::cO,i1=>(bif ((i1:Int):Int) != aY then((nu bU).bind fun F2=>((lC F2 cT).bind fun Pf=>(bif Pf then(some true)else(eL aB aY cT k1 cO (i1+1)))))else(eL aB aY cT k1 cO (i1+1)))
def fI(aB:aK)(cT:Bytes)(k2:Option Bool):eG->Nat->Option Bool
 | [],i2=>(k2)
 |jg::tR,i2=>((lC jg.pat.args cT).bind fun y59=>(bif y59 then(some true)else(fI aB cT k2 tR (i2+1))))
def lE(aB:aK)(aY:Int)(cT:Bytes):Option Bool:=(eL aB aY cT (fI aB cT (some false) aB.cg 0) aB.conds 0)
def AI(aB:aK)(aY:Int)(cT:Bytes)(dQ:Int):St:=⟨[(1,D.int .i64 aY),(2,D.str cT),(3,D.ptr 0 0),(12,D.sl (aB.conds.map aL.c)),(13,D.int .i64 ((aB.conds.map aL.c).length:Int)),(14,D.int .i64 dQ)],[Ob.box (aK.c aB)]⟩
theorem ze(hΓ:Γ.nt=42){aB:aK}{aY:Int}{cT:Bytes}{r:Bool}{k1:Option Bool}(eF:k1=some r->Ax Γ N f222 (.q [[none]] (D.bool r)) [1,1] ⟨[(2,D.str cT),(3,D.ptr 0 0)],[Ob.box (aK.c aB)]⟩)(hm1:aB.conds.length<=maxLen):∀(rest:ah) (i1:Nat),aB.conds.drop i1=rest->eL aB aY cT k1 rest i1=some r->Ar Γ N f222 (.q [[none]] (D.bool r)) [1,0,1,0] (rest.length+1) (AI aB aY cT (i1:Int)):=by
 intro rest
 induction rest with
 |nil=>
  intro i1 b8 h;rw[eL]at h;refine aU fun N1 cc cL=>?_
  exact((aW.ge aL.c b8).a [.hl 0 [2,3] [0]]).ex hΓ cc (eF h)
 |cons bU cO ih1=>
  intro i1 b8 h;rw[eL]at h;refine aU fun N1 cc cL=>?_
  have ko:=((aW.lt aL.c b8).l (bO aL.c 5 (dc b8) rfl))
  obtain⟨h33,h⟩|⟨h33,h⟩:=aO h
  ·obtain⟨F2,h35,h⟩:=aC h;obtain⟨Pf,h37,h⟩:=aC h;have tN:=(((((ko.r 2 h33).g (tZ h35)).r 2 h33).g (qg h37)).b h33)
   obtain⟨h38,h⟩|⟨h38,h⟩:=aO h
   ·have h:=aN h;subst h;exact(tN.b h38).ret hΓ
   ·exact((tN.b h38).a [.cn [1,2,3,12,13,14] [0]]).ct hΓ cL (iS b8 hm1) (ih1 (i1+1) (dn b8) h)
  ·exact(((ko.r 5 h33).F 1).a [.cn [1,2,3,12,13,14] [0]]).ct hΓ cL (iS b8 hm1) (ih1 (i1+1) (dn b8) h)
def AJ(aB:aK)(cT:Bytes)(dQ:Int):St:=⟨[(2,D.str cT),(30,D.sl (aB.cg.map Action.c)),(31,D.int .i64 ((aB.cg.map Action.c).length:Int)),(32,D.int .i64 dQ)],[]⟩
theorem zf(hΓ:Γ.nt=42){aB:aK}{cT:Bytes}{r:Bool}{k2:Option Bool}(B7:k2=some r->Ax Γ N f222 (.q [[none]] (D.bool r)) [1,1,1] ⟨[],[]⟩)(hm2:aB.cg.length<=maxLen):∀(rest:eG) (i2:Nat),aB.cg.drop i2=rest->fI aB cT k2 rest i2=some r->Ar Γ N f222 (.q [[none]] (D.bool r)) [1,1,0,1,0] (rest.length+1) (AJ aB cT (i2:Int)):=by
 intro rest
 induction rest with
 |nil=>
  intro i2 hd2 h;rw[fI]at h;refine aU fun N2 vv tQ=>?_
  exact((aW.ge Action.c hd2).a [.hl 0 [] []]).ex hΓ vv (B7 h)
 |cons jg tR ih2=>
  intro i2 hd2 h;rw[fI]at h;refine aU fun N2 vv tQ=>?_
  obtain⟨y59,h60,h⟩:=aC h;have xp:=(((aW.lt Action.c hd2).l (bO Action.c 3 (dc hd2) rfl)).g (qg h60))
  obtain⟨h61,h⟩|⟨h61,h⟩:=aO h
  ·have h:=aN h;subst h;exact(xp.b h61).ret hΓ
  ·exact((xp.b h61).a [.cn [2,30,31,32] []]).ct hΓ tQ (iS hd2 hm2) (ih2 (i2+1) (dn hd2) h)
theorem yy{aB:aK}{aY:Int}{cT:Bytes}{r:Bool}(h:lE aB aY cT=some r):Good prog 222 [D.agg (aK.c aB),D.int .i64 aY,D.str cT] (D.bool r):=by
 refine gd func222 [[none]] 42 fun hr Γ hΓ=>?_
 rw[lE]at h;refine(aW.a [.cn [1,2,3,12,13,14] [0]]).lp hΓ (ze hΓ (fun h=>?_) (by have:=(ij.sl (ij.agg (hr _ (aE (i:=0) rfl)) (.sl (aB.conds.map aL.c)) (by simp))).1;simpa using this) aB.conds 0 rfl h);refine(aW.a [.cn [2,30,31,32] []]).lp hΓ (zf hΓ (fun h=>?_) (by have:=(ij.sl (ij.agg (hr _ (aE (i:=0) rfl)) (.sl (aB.cg.map Action.c)) (by simp))).1;simpa using this) aB.cg 0 rfl h);have h:=aN h;subst h;exact aW.ret hΓ
def gY(aB:aK)(aY:Int)(x1:aL)(y3:aG)(y5:aG)(k1:Option Bool):aG->Nat->Option Bool
 | [],i1=>(k1)
 |bU::cO,i1=>(bif (x1.kind:Int)==1 then(gY aB aY x1 y3 y5 k1 cO (i1+1))else((lC y3 bU).bind fun KM=>(bif KM then(gY aB aY x1 y3 y5 k1 cO (i1+1))else(bif (x1.kind:Int) != 2 then(some false)else((lE aB aY bU).bind fun y53=>(bif y53 then(some false)else(gY aB aY x1 y3 y5 k1 cO (i1+1))))))))
def pR(aB:aK)(aY:Int):Option Bool:=((hO aB.conds aY).bind fun x1=>((oa aB aY).bind fun y3=>((nu x1).bind fun y5=>(bif decide (y5.length<=maxLen)then(gY aB aY x1 y3 y5 (some true) y5 0)else none))))
def Gs(aB:aK)(aY:Int)(x1:aL)(y3:aG)(y5:aG)(dQ:Int):St:=⟨[(1,D.int .i64 aY),(2,D.ptr 0 0),(5,D.ptr 1 0),(6,D.acc 2),(18,D.acc 3),(19,D.int .i64 ((y5.map tx).length:Int)),(20,D.int .i64 dQ)],[Ob.box (aK.c aB),Ob.box [D.int .i64 x1.kind,D.str x1.pat.rel,D.sl (x1.pat.args.map tx),D.str x1.left,D.str x1.right],Ob.row .uq 9 1 (y3.map tx),Ob.row .uq 9 1 (y5.map tx)]⟩
theorem FV(hΓ:Γ.nt=42){aB:aK}{aY:Int}{x1:aL}{y3:aG}{y5:aG}{r:Bool}{k1:Option Bool}(eF:k1=some r->Ax Γ N f159 (.q [[none]] (D.bool r)) [1,1,1,1] ⟨[],[]⟩)(hm1:y5.length<=maxLen):∀(rest:aG) (i1:Nat),y5.drop i1=rest->gY aB aY x1 y3 y5 k1 rest i1=some r->Ar Γ N f159 (.q [[none]] (D.bool r)) [1,1,1,0,1,0] (rest.length+1) (Gs aB aY x1 y3 y5 (i1:Int)):=by
 intro rest
 induction rest with
 |nil=>
  intro i1 b8 h;rw[gY]at h;refine aU fun N1 cc cL=>?_
  exact((aW.ge tx b8).a [.hl 0 [] []]).ex hΓ cc (eF h)
 |cons bU cO ih1=>
  intro i1 b8 h;rw[gY]at h;refine aU fun N1 cc cL=>?_
  have ko:=(((aW.lt tx b8).i (mO tx 1 (dc b8))).o 1 1 .uq (cV tx (dc b8)))
  obtain⟨h48,h⟩|⟨h48,h⟩:=aO h
  ·exact(((ko.r 4 h48).T 1).a [.cn [1,2,5,6,18,19,20] [0,1,2,3]]).ct hΓ cL (iS b8 hm1) (ih1 (i1+1) (dn b8) h)
  ·obtain⟨KM,h50,h⟩:=aC h;have tN:=(((ko.r 3 h48).g (qg h50)).b h48)
   obtain⟨h51,h⟩|⟨h51,h⟩:=aO h
   ·exact((tN.b h51).a [.cn [1,2,5,6,18,19,20] [0,1,2,3]]).ct hΓ cL (iS b8 hm1) (ih1 (i1+1) (dn b8) h)
   ·obtain⟨h52,h⟩|⟨h52,h⟩:=aO h
    ·have h:=aN h;subst h;exact(((tN.b h51).r 5 h52).T 1).ret hΓ
    ·obtain⟨y53,h54,h⟩:=aC h;have xp:=((((tN.b h51).r 4 h52).g (yy h54)).b h52)
     obtain⟨h55,h⟩|⟨h55,h⟩:=aO h
     ·have h:=aN h;subst h;exact(xp.b h55).ret hΓ
     ·exact((xp.b h55).a [.cn [1,2,5,6,18,19,20] [0,1,2,3]]).ct hΓ cL (iS b8 hm1) (ih1 (i1+1) (dn b8) h)
theorem xX{aB:aK}{aY:Int}{r:Bool}(h:pR aB aY=some r):Good prog 159 [D.agg (aK.c aB),D.int .i64 aY] (D.bool r):=by
 refine gd func159 [[none]] 42 fun hr Γ hΓ=>?_
 rw[pR]at h;obtain⟨x1,h2,h⟩:=aC h;obtain⟨y3,h4,h⟩:=aC h;obtain⟨y5,h6,h⟩:=aC h;obtain⟨h56,h⟩:=bX h;refine((((aW.l (gq aL.c 5 h2 rfl)).g (wZ h4)).g (tZ h6)).a [.cn [1,2,5,6,18,19,20] [0,1,2,3]]).lp hΓ (FV hΓ (fun h=>?_) (bY h56) y5 0 rfl h);have h:=aN h;subst h;exact aW.ret hΓ
def sG(aB:Action):Option Bool:=(bif (aB.kind:Int)==1 then((j4 aB.pat).bind fun y2=>(some y2))else(bif (aB.kind:Int)==2 then((j4 aB.pat).bind fun y5=>(some y5))else(bif (aB.kind:Int)==3 then((iR aB.pat).bind fun y8=>(some y8))else(some false))))
theorem Dq{aB:Action}{r:Bool}(h:sG aB=some r):Good prog 161 [D.agg (Action.c aB)] (D.bool r):=by
 refine gd func161 [[none]] 16 fun hr Γ hΓ=>?_
 rw[sG]at h;obtain⟨h1,h⟩|⟨h1,h⟩:=aO h
 ·obtain⟨y2,h3,h⟩:=aC h;have h:=aN h;subst h;exact((aW.r 2 h1).g (jY h3)).ret hΓ
 ·obtain⟨h4,h⟩|⟨h4,h⟩:=aO h
  ·obtain⟨y5,h6,h⟩:=aC h;have h:=aN h;subst h;exact(((aW.b h1).b h4).g (jY h6)).ret hΓ
  ·have pW:=((aW.b h1).b h4)
   obtain⟨h7,h⟩|⟨h7,h⟩:=aO h
   ·obtain⟨y8,h9,h⟩:=aC h;have h:=aN h;subst h;exact((pW.b h7).g (ng h9)).ret hΓ
   ·have h:=aN h;subst h;exact(pW.b h7).ret hΓ
def gS(aB:ah)(k1:aG->Option aG):ah->Nat->aG->Option aG
 | [],i1,bP=>(k1 bP)
 |bU::cO,i1,bP=>((nu bU).bind fun oH=>(bif room ((bP.map tx).length+(oH.map tx).length) 16 then(gS aB k1 cO (i1+1) (bP++oH))else none))
def qA(aB:ah):Option aG:=(gS aB (fun(cB:aG)=>(some cB)) aB 0 ([]:aG))
def xY(aB:ah)(W0:List aP)(dQ:Int):St:=⟨[(3,D.acc 0),(6,D.sl (aB.map aL.c)),(7,D.int .i64 ((aB.map aL.c).length:Int)),(8,D.int .i64 dQ)],[Ob.row .uq 9 1 W0]⟩
theorem D3(hΓ:Γ.nt=18){aB:ah}{r:aG}{k1:aG->Option aG}(eF:∀(cB:aG),k1 cB=some r->Ax Γ N f165 (.q [[some (9,1)]] (D.fr 9 1 (r.map tx))) [1,1,1] ⟨[(3,D.acc 0)],[Ob.row .uq 9 1 (cB.map tx)]⟩)(hm1:aB.length<=maxLen):∀(rest:ah) (i1:Nat) (bP:aG),aB.drop i1=rest->gS aB k1 rest i1 bP=some r->Ar Γ N f165 (.q [[some (9,1)]] (D.fr 9 1 (r.map tx))) [1,1,0,1,0] (rest.length+1) (xY aB (bP.map tx) (i1:Int)):=by
 intro rest
 induction rest with
 |nil=>
  intro i1 bP b8 h;rw[gS]at h;refine aU fun N1 cc cL=>?_
  exact((aW.ge aL.c b8).a [.hl 0 [3] [0]]).ex hΓ cc (eF bP h)
 |cons bU cO ih1=>
  intro i1 bP b8 h;rw[gS]at h;refine aU fun N1 cc cL=>?_
  obtain⟨oH,h28,h⟩:=aC h;obtain⟨h29,h⟩:=bX h;exact(((((aW.lt aL.c b8).l (bO aL.c 5 (dc b8) rfl)).g (tZ h28)).w (bq h29)).a [.cn [3,6,7,8] [3]]).cs hΓ cL (xY aB ((bP.map tx)++(oH.map tx)) (IntKind.i64.wrap ((i1:Int)+1))) (by first| (simp only[iS b8 hm1,mA]<;>rfl)| (simp only[iS b8 hm1,mA,aD.c,aR.c,aL.c,Action.c,aK.c,aT.c,bS.c,aZ.c,Node.c,aI.c,dU.c]<;>rfl)) (ih1 (i1+1) (bP++oH) (dn b8) h)
theorem CB{aB:ah}{r:aG}(h:qA aB=some r):Good prog 165 [D.sl (aB.map aL.c)] (D.fr 9 1 (r.map tx)):=by
 refine gd func165 [[some (9,1)]] 18 fun hr Γ hΓ=>?_
 rw[qA]at h;refine(aW.a [.JV 3,.cn [3,6,7,8] [0]]).lp hΓ (D3 hΓ (fun cB h=>?_) (by have:=(ij.sl (hr _ (aE (i:=0) rfl))).1;simpa using this) aB 0 ([]:aG) rfl h);have h:=aN h;subst h;exact aW.ret hΓ
end Go.Cx

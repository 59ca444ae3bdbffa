/- What functions of the program compute, and the walks that show it. No condition. -/
import Derived.Test.YtnbmhfbejojjiaaGreatDoorPFnAnyOrderG3
set_option linter.unusedVariables false
set_option linter.unusedSimpArgs false
namespace Go.Cx
open Go.RowKit Go.Proofs Tryz
set_option maxRecDepth 100000
variable{Γ:sQ}{N:Nat->St->Prop}
def lQ(aB:b9)(k1:Int->Option cS):b9->Nat->Int->Option cS
 | [],i1,kB=>(k1 kB)
 |bR::cM,i1,kB=>(bif decide (((i1:Int):Int)<4000)then(lQ aB k1 cM (i1+1) (DH .i64 (IntKind.i64.wrap ((IntKind.i64.wrap ((IntKind.i64.wrap (kB*167))+(IntKind.i64.wrap bR)))+29)) 1073741823))else(k1 kB))
def tU(aB:b9):Option cS:=(bif decide (aB.length<=maxLen)then(lQ aB (fun(UB:Int)=>(some (⟨aB,0,UB⟩:cS))) aB 0 (IntKind.i64.wrap (851207+(IntKind.i64.wrap (3*((aB.map yx).length:Int))))))else none)
def Gs(aB:b9)(kB:Int)(fS:Int):St:=⟨[(0,D.sl (aB.map yx)),(3,D.int .i64 kB),(4,D.int .i64 fS)],[]⟩
theorem Fw(hΓ:Γ.nt=33){aB:b9}{r:cS}{k1:Int->Option cS}(gE:∀(UB:Int),k1 UB=some r->Ax Γ N f45 (.n (cS.c r)) [1,1,1] ⟨[(0,D.sl (aB.map yx)),(3,D.int .i64 UB)],[]⟩)(hm1:aB.length<=maxLen):∀(rest:b9) (i1:Nat) (kB:Int),aB.drop i1=rest->lQ aB k1 rest i1 kB=some r->Ar Γ N f45 (.n (cS.c r)) [1,1,0,1,0] (rest.length+1) (Gs aB kB (i1:Int)):=by
 intro rest
 induction rest with
 |nil=>
  intro i1 kB bD h;rw[lQ]at h;refine aX fun N1 dH cW=>?_
  exact(((((aY.ge yx bD).ge yx bD).ge yx bD).F 1).a [.hl 0 [0,3] []]).ex hΓ dH (gE kB h)
 |cons bR cM ih1=>
  intro i1 kB bD h;rw[lQ]at h;refine aX fun N1 dH cW=>?_
  have rj:=(((aY.lt yx bD).lt yx bD).lt yx bD)
  obtain⟨h13,h⟩|⟨h13,h⟩:=aO h
  ·exact(((rj.b h13).l (bg yx 1 (dc bD) rfl)).a [.cn [0,3,4] []]).ct hΓ cW (iS bD hm1) (ih1 (i1+1) (DH .i64 (IntKind.i64.wrap ((IntKind.i64.wrap ((IntKind.i64.wrap (kB*167))+(IntKind.i64.wrap bR)))+29)) 1073741823) (dn bD) h)
  ·exact((rj.b h13).a [.hl 0 [0,3] []]).ex hΓ dH (gE kB h)
theorem Ei{aB:b9}{r:cS}(h:tU aB=some r):EI prog 45 [D.sl (aB.map yx)] (cS.c r):=by
 refine gdN func45 33 fun hr Γ hΓ=>?_
 rw[tU]at h;obtain⟨h14,h⟩:=bh h;refine(aY.a [.cn [0,3,4] []]).lp hΓ (Fw hΓ (fun UB h=>?_) (bf h14) aB 0 (IntKind.i64.wrap (851207+(IntKind.i64.wrap (3*((aB.map yx).length:Int))))) rfl h);cases h;exact aY.ret hΓ
def mI(aB:cS):Option (cS×Int):=(bif decide ((aB.i:Int)<((aB.b.map yx).length:Int))then((iY aB.b aB.i).bind fun x2=>(some ((⟨aB.b,IntKind.i64.wrap (aB.i+1),IntKind.i64.wrap ((IntKind.i64.wrap (aB.h*6364136223846793005))+1442695040888963407)⟩:cS),DH .i64 (IntKind.i64.wrap ((DH .i64 (OT .i64 (MX .i64 (IntKind.i64.wrap ((IntKind.i64.wrap (aB.h*6364136223846793005))+1442695040888963407)) 35) (MX .i64 (IntKind.i64.wrap ((IntKind.i64.wrap (aB.h*6364136223846793005))+1442695040888963407)) 45)) 255)+(IntKind.i64.wrap x2))) 255)))else(some ((⟨aB.b,aB.i,IntKind.i64.wrap ((IntKind.i64.wrap (aB.h*6364136223846793005))+1442695040888963407)⟩:cS),DH .i64 (OT .i64 (MX .i64 (IntKind.i64.wrap ((IntKind.i64.wrap (aB.h*6364136223846793005))+1442695040888963407)) 35) (MX .i64 (IntKind.i64.wrap ((IntKind.i64.wrap (aB.h*6364136223846793005))+1442695040888963407)) 45)) 255)))
theorem p9{aB:cS}{r:cS×Int}(h:mI aB=some r):kD prog 153 (cS.c aB) (cS.c r.1) [] (D.int .i64 r.2):=by
 refine JM func153 [[none,none,none],[none]] 58 [D.sl (aB.b.map yx),D.int .i64 aB.i,D.int .i64 aB.h] [] [] fun hr lS Γ hΓ=>?_
 rw[mI]at h;obtain⟨h1,h⟩|⟨h1,h⟩:=aO h
 ·obtain⟨x2,h3,h⟩:=aD h;cases h;exact((((aY.a [.n 10,.n 9]).b h1).a [.n 12]).l (kG yx 1 h3 rfl)).ret hΓ
 ·cases h;exact((aY.a [.n 10,.n 9]).b h1).ret hΓ
def eE(aB:cS)(aZ:Int):Option (cS×Int):=(bif decide ((aZ:Int)<=0)then(some (aB,0))else(bif decide ((aZ:Int)<=256)then((mI aB).bind fun y3=>(bif decide (0<=(y3.2:Int))&&decide (0<(aZ:Int))then(some (y3.1,(y3.2:Int)%aZ))else none))else((mI aB).bind fun y6=>((mI y6.1).bind fun y8=>((mI y8.1).bind fun FN=>(bif decide (0<=(IntKind.i64.wrap ((IntKind.i64.wrap ((IntKind.i64.wrap (y6.2*65536))+(IntKind.i64.wrap (y8.2*256))))+FN.2):Int))&&decide (0<(aZ:Int))then(some (FN.1,(IntKind.i64.wrap ((IntKind.i64.wrap ((IntKind.i64.wrap (y6.2*65536))+(IntKind.i64.wrap (y8.2*256))))+FN.2):Int)%aZ))else none))))))
theorem dS{aB:cS}{aZ:Int}{r:cS×Int}(h:eE aB aZ=some r):kD prog 93 (cS.c aB) (cS.c r.1) [D.int .i64 aZ] (D.int .i64 r.2):=by
 refine JM func93 [[none,none,none],[none]] 31 [D.sl (aB.b.map yx),D.int .i64 aB.i,D.int .i64 aB.h] [D.int .i64 aZ] [] fun hr lS Γ hΓ=>?_
 rw[eE]at h;obtain⟨h1,h⟩|⟨h1,h⟩:=aO h
 ·cases h;exact(aY.b h1).ret hΓ
 ·obtain⟨h2,h⟩|⟨h2,h⟩:=aO h
  ·obtain⟨y3,h4,h⟩:=aD h;obtain⟨h5,h⟩:=bh h;cases h;exact((((aY.b h1).b h2).hp [[none,none,none]] (p9 h4)).w (Kr .i64 h5)).ret hΓ
  ·obtain⟨y6,h7,h⟩:=aD h;obtain⟨y8,h9,h⟩:=aD h;obtain⟨FN,h11,h⟩:=aD h;obtain⟨h12,h⟩:=bh h;cases h;exact((((((aY.b h1).b h2).hp [[none,none,none]] (p9 h7)).hp [[none,none,none]] (p9 h9)).hp [[none,none,none]] (p9 h11)).w (Kr .i64 h12)).ret hΓ
def ny(aB:cS)(aZ:Int):Option (cS×Bool):=((eE aB aZ).bind fun y1=>(some (y1.1,(y1.2:Int)==0)))
theorem mj{aB:cS}{aZ:Int}{r:cS×Bool}(h:ny aB aZ=some r):kD prog 90 (cS.c aB) (cS.c r.1) [D.int .i64 aZ] (D.bool r.2):=by
 refine JM func90 [[none,none,none],[none]] 9 [D.sl (aB.b.map yx),D.int .i64 aB.i,D.int .i64 aB.h] [D.int .i64 aZ] [] fun hr lS Γ hΓ=>?_
 rw[ny]at h;obtain⟨y1,h2,h⟩:=aD h;cases h;exact(aY.hp [[none,none,none],[none]] (dS h2)).ret hΓ
def nY(aB:cS):Option (cS×(Bytes×Int)):=((eE aB 6).bind fun y1=>((iY ([[111,110],[111,110],[97,116],[112],[113],[122]]:aG) y1.2).bind fun x3=>((iY ([2,2,2,1,1,0]:b9) y1.2).bind fun x5=>(some (y1.1,(x3,x5))))))
theorem xp{aB:cS}{r:cS×(Bytes×Int)}(h:nY aB=some r):kD prog 156 (cS.c aB) (cS.c r.1) [] (D.iQ [D.str r.2.1,D.int .i64 r.2.2]):=by
 refine JM func156 [[none,none,none],[none],[none]] 15 [D.sl (aB.b.map yx),D.int .i64 aB.i,D.int .i64 aB.h] [] [] fun hr lS Γ hΓ=>?_
 rw[nY]at h;obtain⟨y1,h2,h⟩:=aD h;obtain⟨x3,h4,h⟩:=aD h;obtain⟨x5,h6,h⟩:=aD h;cases h;exact(((((aY.hp [[none,none,none],[none]] (dS h2)).a [.n 9,.vw 0]).l (kG tx 1 h4 rfl)).a [.vw 0]).l (kG lZ 1 h6 rfl)).ret hΓ
def rI(aB:cS)(aZ:aG):Option (cS×Bytes):=((eE aB ((aZ.map tx).length:Int)).bind fun y1=>((iY aZ y1.2).bind fun x3=>(some (y1.1,x3))))
theorem xo{aB:cS}{aZ:aG}{r:cS×Bytes}(h:rI aB aZ=some r):kD prog 192 (cS.c aB) (cS.c r.1) [D.fr 9 1 (aZ.map tx)] (D.str r.2):=by
 refine JM func192 [[none,none,none],[none]] 12 [D.sl (aB.b.map yx),D.int .i64 aB.i,D.int .i64 aB.h] [D.acc 1] [Ob.row .uq 9 1 (aZ.map tx)] fun hr lS Γ hΓ=>?_
 rw[rI]at h;obtain⟨y1,h2,h⟩:=aD h;obtain⟨x3,h4,h⟩:=aD h;cases h;exact(((aY.hp [[none,none,none],[none]] (dS h2)).i (iV tx 1 h4)).o 1 1 .uq (cP tx (fQ h4))).ret hΓ
def gh(aB:cS):Option (cS×Bytes):=((rI aB ([[97],[98],[99],[49],[50]]:aG)).bind fun y1=>(some (y1.1,y1.2)))
theorem sU{aB:cS}{r:cS×Bytes}(h:gh aB=some r):kD prog 157 (cS.c aB) (cS.c r.1) [] (D.str r.2):=by
 refine JM func157 [[none,none,none],[none]] 6 [D.sl (aB.b.map yx),D.int .i64 aB.i,D.int .i64 aB.h] [] [] fun hr lS Γ hΓ=>?_
 rw[gh]at h;obtain⟨y1,h2,h⟩:=aD h;cases h;exact(aY.hp [[none,none,none],[some (9,1)]] (xo h2)).ret hΓ
def mJ(aB:cS):Option (cS×Bytes):=((ny aB 4).bind fun y1=>(bif y1.2 then((gh y1.1).bind fun y4=>(some (y4.1,y4.2)))else((rI y1.1 ([[63,120],[63,121],[63,122]]:aG)).bind fun y6=>(some (y6.1,y6.2)))))
theorem sX{aB:cS}{r:cS×Bytes}(h:mJ aB=some r):kD prog 238 (cS.c aB) (cS.c r.1) [] (D.str r.2):=by
 refine JM func238 [[none,none,none],[none]] 10 [D.sl (aB.b.map yx),D.int .i64 aB.i,D.int .i64 aB.h] [] [] fun hr lS Γ hΓ=>?_
 rw[mJ]at h;obtain⟨y1,h2,h⟩:=aD h;obtain⟨h3,h⟩|⟨h3,h⟩:=aO h
 ·obtain⟨y4,h5,h⟩:=aD h;cases h;exact(((aY.hp [[none,none,none],[none]] (mj h2)).b h3).hp [[none,none,none]] (sU h5)).ret hΓ
 ·obtain⟨y6,h7,h⟩:=aD h;cases h;exact(((aY.hp [[none,none,none],[none]] (mj h2)).b h3).hp [[none,none,none],[some (9,1)]] (xo h7)).ret hΓ
def jO(y1:cS×(Bytes×Int))(k1:b9->Int->Int->aG->Option (cS×aF)):Nat->Int->b9->Int->Int->aG->Option (cS×aF)
 |0,_,_,_,_,_=>none
 |n1+1,cu,dW,cj,ck,cm=>(bif decide ((cu:Int)<y1.2.2)then((mJ (⟨dW,cj,ck⟩:cS)).bind fun vg=>(bif room ((cm.map tx).length+([[D.str vg.2]]).length) 16 then(jO y1 k1 n1 (IntKind.i64.wrap (cu+1)) vg.1.b vg.1.i vg.1.h (cm++([vg.2])))else none))else(k1 dW cj ck cm))
def iU(aB:cS):Option (cS×aF):=((nY aB).bind fun y1=>(jO y1 (fun(jP:b9) (jQ:Int) (jR:Int) (fC:aG)=>(some ((⟨jP,jQ,jR⟩:cS),(⟨y1.2.1,fC⟩:aF)))) fuel 0 y1.1.b y1.1.i y1.1.h ([]:aG)))
def z6(lS:Value)(y1:cS×(Bytes×Int))(cu:Int)(cj:Int)(ck:Int)(W1:List aK)(W4:List aK):St:=⟨[(0,D.ptr 0 0),(2,D.ptr 1 0),(4,D.int .i64 y1.2.2),(5,D.ptr 2 0),(6,D.int .i64 cu)],[Ob.DA [D.sl W1,D.int .i64 cj,D.int .i64 ck] lS,Ob.box [D.str ([]),D.nil],Ob.box [D.str y1.2.1,D.acc 3],Ob.row .uq 9 1 W4]⟩
theorem Em(hΓ:Γ.nt=27){lS:Value}{y1:cS×(Bytes×Int)}{r:cS×aF}{k1:b9->Int->Int->aG->Option (cS×aF)}(gE:∀(jP:b9) (jQ:Int) (jR:Int) (fC:aG),k1 jP jQ jR fC=some r->Ax Γ N f218 (.p [[none,none,none],[none,some (9,1)]] lS (cS.c r.1) (D.agg [D.str r.2.rel,D.fr 9 1 (r.2.args.map tx)])) [1,1,1,1] ⟨[(2,D.ptr 1 0),(5,D.ptr 2 0)],[Ob.DA [D.sl (jP.map yx),D.int .i64 jQ,D.int .i64 jR] lS,Ob.box [D.str ([]),D.nil],Ob.box [D.str y1.2.1,D.acc 3],Ob.row .uq 9 1 (fC.map tx)]⟩):∀(n1:Nat) (cu:Int) (dW:b9) (cj:Int) (ck:Int) (cm:aG),jO y1 k1 n1 cu dW cj ck cm=some r->Ar Γ N f218 (.p [[none,none,none],[none,some (9,1)]] lS (cS.c r.1) (D.agg [D.str r.2.rel,D.fr 9 1 (r.2.args.map tx)])) [1,1,1,0,1,0] n1 (z6 lS y1 cu cj ck (dW.map yx) (cm.map tx)):=by
 intro n
 induction n with
 |zero=>intro cu dW cj ck cm h;simp[jO]at h
 |succ n1 ih1=>
  intro cu dW cj ck cm h;rw[jO]at h;refine aX fun N1 dH cW=>?_
  obtain⟨h27,h⟩|⟨h27,h⟩:=aO h
  ·obtain⟨vg,h31,h⟩:=aD h;obtain⟨h32,h⟩:=bh h;exact(((((aY.b h27).a [.n2 [0,1,2,3,4,5,6,7] [0,1,2,3,4,5,6,7] 3 5 [0,1] [0],.gp [[none,none,none]] (cS.c vg.1) (D.str vg.2)]).w (show kD prog 238 (cS.c (⟨dW,cj,ck⟩:cS)) (cS.c vg.1) [] (D.str vg.2)from by simpa only[bP,bO,cA,br,bt]using sX h31)).w (bz h32)).a [.cn [0,2,4,5,6] [0,1,2,5]]).cs hΓ cW (z6 lS y1 (IntKind.i64.wrap (cu+1)) vg.1.i vg.1.h (vg.1.b.map yx) ((cm.map tx)++([[D.str vg.2]]))) (by first| (simp only[mA]<;>rfl)| (simp only[mA,aF.c,aa.c,aM.c,Action.c,aL.c,aW.c,fH.c,ah.c,Node.c,aI.c,fP.c]<;>rfl)) (ih1 (IntKind.i64.wrap (cu+1)) vg.1.b vg.1.i vg.1.h (cm++([vg.2])) h)
  ·exact((aY.b h27).a [.hl 0 [2,5] [0,1,2,3]]).ex hΓ dH (gE dW cj ck cm h)
theorem mm{aB:cS}{r:cS×aF}(h:iU aB=some r):kD prog 218 (cS.c aB) (cS.c r.1) [] (D.agg [D.str r.2.rel,D.fr 9 1 (r.2.args.map tx)]):=by
 refine JM func218 [[none,none,none],[none,some (9,1)]] 27 [D.sl (aB.b.map yx),D.int .i64 aB.i,D.int .i64 aB.h] [] [] fun hr lS Γ hΓ=>?_
 rw[iU]at h;obtain⟨y1,h2,h⟩:=aD h;refine((aY.hp [[none,none,none]] (xp h2)).a [.pb 2 1 9 1,.cn [0,2,4,5,6] [0,1,2,3]]).lp hΓ (Em hΓ (fun jP jQ jR fC h=>?_) fuel 0 y1.1.b y1.1.i y1.1.h ([]:aG) h);cases h;exact aY.ret hΓ
def pF(aB:cS)(aZ:b9):Option (cS×Int):=((eE aB ((aZ.map lZ).length:Int)).bind fun y1=>((iY aZ y1.2).bind fun x3=>(some (y1.1,x3))))
theorem xm{aB:cS}{aZ:b9}{r:cS×Int}(h:pF aB aZ=some r):kD prog 126 (cS.c aB) (cS.c r.1) [D.fr 3 1 (aZ.map lZ)] (D.int .i64 r.2):=by
 refine JM func126 [[none,none,none],[none]] 12 [D.sl (aB.b.map yx),D.int .i64 aB.i,D.int .i64 aB.h] [D.acc 1] [Ob.row .uq 3 1 (aZ.map lZ)] fun hr lS Γ hΓ=>?_
 rw[pF]at h;obtain⟨y1,h2,h⟩:=aD h;obtain⟨x3,h4,h⟩:=aD h;cases h;exact(((aY.hp [[none,none,none],[none]] (dS h2)).i (iV lZ 1 h4)).o 1 1 .uq (cP lZ (fQ h4))).ret hΓ
def sF(aB:cS)(aZ:Bytes)(cY:Bytes):Option (cS×aM):=((pF aB ([3,4,4,5]:b9)).bind fun y1=>(some (y1.1,(⟨y1.2,(⟨[],[]⟩:aF),aZ,cY⟩:aM))))
theorem Dx{aB:cS}{aZ:Bytes}{cY:Bytes}{r:cS×aM}(h:sF aB aZ cY=some r):kD prog 239 (cS.c aB) (cS.c r.1) [D.str aZ,D.str cY] (D.agg [D.int .i64 r.2.kind,D.str r.2.pat.rel,D.fr 9 1 (r.2.pat.args.map tx),D.str r.2.left,D.str r.2.right]):=by
 refine JM func239 [[none,none,none],[none,none,some (9,1),none,none]] 13 [D.sl (aB.b.map yx),D.int .i64 aB.i,D.int .i64 aB.h] [D.str aZ,D.str cY] [] fun hr lS Γ hΓ=>?_
 rw[sF]at h;obtain⟨y1,h2,h⟩:=aD h;cases h;exact(aY.hp [[none,none,none],[some (3,1)]] (xm h2)).ret hΓ
def qA(aB:cS):Option (cS×aM):=((eE aB 5).bind fun y1=>(bif (y1.2:Int)==0 then((iU y1.1).bind fun y4=>(some (y4.1,(⟨1,y4.2,[],[]⟩:aM))))else(bif (y1.2:Int)==1 then((iU y1.1).bind fun y7=>(some (y7.1,(⟨1,y7.2,[],[]⟩:aM))))else(bif (y1.2:Int)==2 then((iU y1.1).bind fun FN=>(some (FN.1,(⟨2,FN.2,[],[]⟩:aM))))else((mJ y1.1).bind fun Qp=>((mJ Qp.1).bind fun Mh=>((sF Mh.1 Qp.2 Mh.2).bind fun Jj=>(some (Jj.1,Jj.2)))))))))
theorem Dv{aB:cS}{r:cS×aM}(h:qA aB=some r):kD prog 219 (cS.c aB) (cS.c r.1) [] (D.agg [D.int .i64 r.2.kind,D.str r.2.pat.rel,D.fr 9 1 (r.2.pat.args.map tx),D.str r.2.left,D.str r.2.right]):=by
 refine JM func219 [[none,none,none],[none,none,some (9,1),none,none]] 24 [D.sl (aB.b.map yx),D.int .i64 aB.i,D.int .i64 aB.h] [] [] fun hr lS Γ hΓ=>?_
 rw[qA]at h;obtain⟨y1,h2,h⟩:=aD h;obtain⟨h3,h⟩|⟨h3,h⟩:=aO h
 ·obtain⟨y4,h5,h⟩:=aD h;cases h;exact(((aY.hp [[none,none,none],[none]] (dS h2)).r 2 h3).hp [[none,none,none]] (mm h5)).ret hΓ
 ·have rj:=((aY.hp [[none,none,none],[none]] (dS h2)).b h3)
  obtain⟨h6,h⟩|⟨h6,h⟩:=aO h
  ·obtain⟨y7,h8,h⟩:=aD h;cases h;exact((rj.b h6).hp [[none,none,none]] (mm h8)).ret hΓ
  ·obtain⟨h9,h⟩|⟨h9,h⟩:=aO h
   ·obtain⟨FN,h11,h⟩:=aD h;cases h;exact(((rj.b h6).b h9).hp [[none,none,none]] (mm h11)).ret hΓ
   ·obtain⟨Qp,h13,h⟩:=aD h;obtain⟨Mh,h15,h⟩:=aD h;obtain⟨Jj,h17,h⟩:=aD h;cases h;exact(((((rj.b h6).b h9).hp [[none,none,none]] (sX h13)).hp [[none,none,none]] (sX h15)).hp [[none,none,none],[none],[none]] (Dx h17)).ret hΓ
def jM(aB:Int)(aZ:Int)(cY:Int):Option Bool:=(bif decide ((aB:Int)>=aZ)then(some (decide ((aB:Int)<=cY)))else(some false))
theorem gz{aB:Int}{aZ:Int}{cY:Int}{r:Bool}(h:jM aB aZ cY=some r):Good prog 139 [D.int .i64 aB,D.int .i64 aZ,D.int .i64 cY] (D.bool r):=by
 refine gd func139 [[none]] 15 fun hr Γ hΓ=>?_
 rw[jM]at h;obtain⟨h1,h⟩|⟨h1,h⟩:=aO h
 ·cases h;exact(aY.r 4 h1).ret hΓ
 ·have h:=aN h;subst h;exact(aY.r 4 h1).ret hΓ
def gy(aB:Bytes)(k1:Option Bool):Nat->Int->Option Bool
 |0,_=>none
 |n1+1,kB=>(bif decide ((kB:Int)<(aB.length:Int))then((iY aB kB).bind fun b29=>((jM (IntKind.i64.wrap b29.toNat) 97 122).bind fun GI=>(bif !(GI)then((jM (IntKind.i64.wrap b29.toNat) 48 57).bind fun Gi=>(bif !(Gi)then(some false)else(gy aB k1 n1 (IntKind.i64.wrap (kB+1)))))else(gy aB k1 n1 (IntKind.i64.wrap (kB+1))))))else(k1))
def eg(aB:Bytes):Option Bool:=(gy aB ((jM (aB.length:Int) 1 8).bind fun Ig=>(some Ig)) fuel 0)
def Fl(aB:Bytes)(kB:Int):St:=⟨[(0,D.str aB),(3,D.int .i64 kB)],[]⟩
theorem Eb(hΓ:Γ.nt=27){aB:Bytes}{r:Bool}{k1:Option Bool}(gE:k1=some r->Ax Γ N f147 (.q [[none]] (D.bool r)) [1,1] ⟨[(0,D.str aB)],[]⟩):∀(n1:Nat) (kB:Int),gy aB k1 n1 kB=some r->Ar Γ N f147 (.q [[none]] (D.bool r)) [1,0,1,0] n1 (Fl aB kB):=by
 intro n
 induction n with
 |zero=>intro kB h;simp[gy]at h
 |succ n1 ih1=>
  intro kB h;rw[gy]at h;refine aX fun N1 dH cW=>?_
  obtain⟨h28,h⟩|⟨h28,h⟩:=aO h
  ·obtain⟨b29,h30,h⟩:=aD h;obtain⟨GI,h32,h⟩:=aD h;have kx:=(((aY.b h28).c h30).g (gz h32))
   obtain⟨h33,h⟩|⟨h33,h⟩:=aO h
   ·obtain⟨Gi,h35,h⟩:=aD h;have lJ:=(((((kx.r 3 h33).c h30).r 2 h33).g (gz h35)).r 2 h33)
    obtain⟨h36,h⟩|⟨h36,h⟩:=aO h
    ·have h:=aN h;subst h;exact(lJ.b h36).ret hΓ
    ·exact((lJ.b h36).a [.cn [0,3] []]).cf hΓ cW (ih1 (IntKind.i64.wrap (kB+1)) h)
   ·exact(((kx.r 7 h33).F 1).a [.cn [0,3] []]).cf hΓ cW (ih1 (IntKind.i64.wrap (kB+1)) h)
  ·exact((aY.b h28).a [.hl 0 [0] []]).ex hΓ dH (gE h)
theorem mh{aB:Bytes}{r:Bool}(h:eg aB=some r):Good prog 147 [D.str aB] (D.bool r):=by
 refine gd func147 [[none]] 27 fun hr Γ hΓ=>?_
 rw[eg]at h;refine(aY.a [.cn [0,3] []]).lp hΓ (Eb hΓ (fun h=>?_) fuel 0 h);obtain⟨Ig,h38,h⟩:=aD h;have h:=aN h;subst h;exact(aY.g (gz h38)).ret hΓ
def fk(aB:Bytes):Option Bool:=(bif decide (((aB.length:Int):Int)>1)then((iY aB 0).bind fun b2=>(bif (b2.toNat:Int)==63 then((Ay aB.length (some (D.int .i64 1)) none).bind fun p=>(fun l5 u6=>((eg ((aB.take u6).drop l5)).bind fun y8=>(some y8))) p.1 p.2)else(some false)))else(some false))
theorem lF{aB:Bytes}{r:Bool}(h:fk aB=some r):Good prog 193 [D.str aB] (D.bool r):=by
 refine gd func193 [[none]] 16 fun hr Γ hΓ=>?_
 rw[fk]at h;obtain⟨h1,h⟩|⟨h1,h⟩:=aO h
 ·obtain⟨b2,h3,h⟩:=aD h;have rj:=(((aY.r 2 h1).c h3).r 2 h1)
  obtain⟨h4,h⟩|⟨h4,h⟩:=aO h
  ·obtain⟨⟨l5,u6⟩,h7,h⟩:=aD h;obtain⟨y8,h9,h⟩:=aD h;have h:=aN h;subst h;exact((((((rj.r 2 h4).w h7).a [.cut l5 u6]).b h4).g (mh h9)).b h4).ret hΓ
  ·have h:=aN h;subst h;exact(rj.r 4 h4).ret hΓ
 ·have h:=aN h;subst h;exact((aY.r 4 h1).F 4).ret hΓ
def dl(aB:aG)(aZ:Bytes)(k1:Bool->aG->Option aG):aG->Nat->Bool->aG->Option aG
 | [],i1,cu,bN=>(k1 cu bN)
 |bR::cM,i1,cu,bN=>(bif !(cu)then(bif !(Op.bytesLess bR aZ)then(bif !((bR:Bytes)==aZ)then(bif room ((bN.map tx).length+([[D.str aZ]]).length) 16 then(bif room (((bN.map tx)++([[D.str aZ]])).length+([[D.str bR]]).length) 16 then(dl aB aZ k1 cM (i1+1) true ((bN++([aZ]))++([bR])))else none)else none)else(bif room ((bN.map tx).length+([[D.str bR]]).length) 16 then(dl aB aZ k1 cM (i1+1) true (bN++([bR])))else none))else(bif room ((bN.map tx).length+([[D.str bR]]).length) 16 then(dl aB aZ k1 cM (i1+1) cu (bN++([bR])))else none))else(bif room ((bN.map tx).length+([[D.str bR]]).length) 16 then(dl aB aZ k1 cM (i1+1) cu (bN++([bR])))else none))
def je(aB:aG)(aZ:Bytes):Option aG:=(dl aB aZ (fun(xX:Bool) (cK:aG)=>(bif !(xX)then(bif room ((cK.map tx).length+([[D.str aZ]]).length) 16 then(some (cK++([aZ])))else none)else(some cK))) aB 0 false ([]:aG))
def pg(aB:aG)(aZ:Bytes)(cu:Bool)(W1:List aK)(fS:Int):St:=⟨[(0,D.sl (aB.map tx)),(1,D.str aZ),(5,D.acc 0),(6,D.bool cu),(7,D.int .i64 fS)],[Ob.row .uq 9 1 W1]⟩
theorem Fx(hΓ:Γ.nt=49){aB:aG}{aZ:Bytes}{r:aG}{k1:Bool->aG->Option aG}(gE:∀(xX:Bool) (cK:aG),k1 xX cK=some r->Ax Γ N f237 (.q [[some (9,1)]] (D.fr 9 1 (r.map tx))) [1,1,1,1] ⟨[(1,D.str aZ),(5,D.acc 0),(6,D.bool xX)],[Ob.row .uq 9 1 (cK.map tx)]⟩)(hm1:aB.length<=maxLen):∀(rest:aG) (i1:Nat) (cu:Bool) (bN:aG),aB.drop i1=rest->dl aB aZ k1 rest i1 cu bN=some r->Ar Γ N f237 (.q [[some (9,1)]] (D.fr 9 1 (r.map tx))) [1,1,1,0,1,0] (rest.length+1) (pg aB aZ cu (bN.map tx) (i1:Int)):=by
 intro rest
 induction rest with
 |nil=>
  intro i1 cu bN bD h;rw[dl]at h;refine aX fun N1 dH cW=>?_
  exact((aY.ge tx bD).a [.hl 0 [1,5,6] [0]]).ex hΓ dH (gE cu bN h)
 |cons bR cM ih1=>
  intro i1 cu bN bD h;rw[dl]at h;refine aX fun N1 dH cW=>?_
  obtain⟨h58,h⟩|⟨h58,h⟩:=aO h
  ·have kx:=((((aY.lt tx bD).r 3 h58).l (bg tx 1 (dc bD) rfl)).r 4 h58)
   obtain⟨h59,h⟩|⟨h59,h⟩:=aO h
   ·have lJ:=((kx.b h59).l (bg tx 1 (dc bD) rfl))
    obtain⟨h60,h⟩|⟨h60,h⟩:=aO h
    ·obtain⟨h61,h⟩:=bh h;obtain⟨h62,h⟩:=bh h;exact(((((lJ.b h60).w (bz h61)).l (bg tx 1 (dc bD) rfl)).w (bz h62)).a [.cn [0,1,5,6,7] [4]]).cs hΓ cW (pg aB aZ true (((bN.map tx)++([[D.str aZ]]))++([[D.str bR]])) (IntKind.i64.wrap ((i1:Int)+1))) (by first| (simp only[iS bD hm1,mA]<;>rfl)| (simp only[iS bD hm1,mA,aF.c,aa.c,aM.c,Action.c,aL.c,aW.c,fH.c,ah.c,Node.c,aI.c,fP.c]<;>rfl)) (ih1 (i1+1) true ((bN++([aZ]))++([bR])) (dn bD) h)
    ·obtain⟨h63,h⟩:=bh h;exact((((lJ.b h60).l (bg tx 1 (dc bD) rfl)).w (bz h63)).a [.cn [0,1,5,6,7] [2]]).cs hΓ cW (pg aB aZ true ((bN.map tx)++([[D.str bR]])) (IntKind.i64.wrap ((i1:Int)+1))) (by first| (simp only[iS bD hm1,mA]<;>rfl)| (simp only[iS bD hm1,mA,aF.c,aa.c,aM.c,Action.c,aL.c,aW.c,fH.c,ah.c,Node.c,aI.c,fP.c]<;>rfl)) (ih1 (i1+1) true (bN++([bR])) (dn bD) h)
   ·obtain⟨h64,h⟩:=bh h;exact((((kx.b h59).l (bg tx 1 (dc bD) rfl)).w (bz h64)).a [.cn [0,1,5,6,7] [2]]).cs hΓ cW (pg aB aZ cu ((bN.map tx)++([[D.str bR]])) (IntKind.i64.wrap ((i1:Int)+1))) (by first| (simp only[iS bD hm1,mA]<;>rfl)| (simp only[iS bD hm1,mA,aF.c,aa.c,aM.c,Action.c,aL.c,aW.c,fH.c,ah.c,Node.c,aI.c,fP.c]<;>rfl)) (ih1 (i1+1) cu (bN++([bR])) (dn bD) h)
  ·obtain⟨h65,h⟩:=bh h;exact((((((aY.lt tx bD).r 7 h58).F 1).l (bg tx 1 (dc bD) rfl)).w (bz h65)).a [.cn [0,1,5,6,7] [2]]).cs hΓ cW (pg aB aZ cu ((bN.map tx)++([[D.str bR]])) (IntKind.i64.wrap ((i1:Int)+1))) (by first| (simp only[iS bD hm1,mA]<;>rfl)| (simp only[iS bD hm1,mA,aF.c,aa.c,aM.c,Action.c,aL.c,aW.c,fH.c,ah.c,Node.c,aI.c,fP.c]<;>rfl)) (ih1 (i1+1) cu (bN++([bR])) (dn bD) h)
theorem jf{aB:aG}{aZ:Bytes}{r:aG}(h:je aB aZ=some r):Good prog 237 [D.sl (aB.map tx),D.str aZ] (D.fr 9 1 (r.map tx)):=by
 refine gd func237 [[some (9,1)]] 49 fun hr Γ hΓ=>?_
 rw[je]at h;refine(aY.a [.cn [0,1,5,6,7] [0]]).lp hΓ (Fx hΓ (fun xX cK h=>?_) (by have:=(kj.sl (hr _ (aE (i:=0) rfl))).1;simpa using this) aB 0 false ([]:aG) rfl h);obtain⟨h66,h⟩|⟨h66,h⟩:=aO h
 ·obtain⟨h67,h⟩:=bh h;cases h;exact((aY.b h66).w (bz h67)).rts hΓ (D.fr 9 1 ((cK.map tx)++([[D.str aZ]]))) (by first|rfl| (simp only[mA]<;>rfl))
 ·have h:=aN h;subst h;exact(aY.b h66).ret hΓ
def jL(aB:aF)(k1:aG->Option aG):aG->Nat->aG->Option aG
 | [],i1,bY=>(k1 bY)
 |bR::cM,i1,bY=>((fk bR).bind fun Ig=>(bif Ig then((je bY bR).bind fun Zg=>(jL aB k1 cM (i1+1) Zg))else(jL aB k1 cM (i1+1) bY)))
def kY(aB:aF):Option aG:=(jL aB (fun(cK:aG)=>(some cK)) aB.args 0 ([]:aG))
def Fv(aB:aF)(W0:List aK)(fS:Int):St:=⟨[(1,D.ptr 0 0),(3,D.acc 1),(4,D.int .i64 fS)],[Ob.box (aF.c aB),Ob.row .uq 9 1 W0]⟩
theorem Eh(hΓ:Γ.nt=27){aB:aF}{r:aG}{k1:aG->Option aG}(gE:∀(cK:aG),k1 cK=some r->Ax Γ N f215 (.q [[some (9,1)]] (D.fr 9 1 (r.map tx))) [1,1,1] ⟨[(3,D.acc 0)],[Ob.row .uq 9 1 (cK.map tx)]⟩)(hm1:aB.args.length<=maxLen):∀(rest:aG) (i1:Nat) (bY:aG),aB.args.drop i1=rest->jL aB k1 rest i1 bY=some r->Ar Γ N f215 (.q [[some (9,1)]] (D.fr 9 1 (r.map tx))) [1,1,0,1,0] (rest.length+1) (Fv aB (bY.map tx) (i1:Int)):=by
 intro rest
 induction rest with
 |nil=>
  intro i1 bY bD h;rw[jL]at h;refine aX fun N1 dH cW=>?_
  exact((aY.ge tx bD).a [.hl 0 [3] [1]]).ex hΓ dH (gE bY h)
 |cons bR cM ih1=>
  intro i1 bY bD h;rw[jL]at h;refine aX fun N1 dH cW=>?_
  obtain⟨Ig,h38,h⟩:=aD h;have kW:=(((aY.lt tx bD).l (bg tx 1 (dc bD) rfl)).g (lF h38))
  obtain⟨h39,h⟩|⟨h39,h⟩:=aO h
  ·obtain⟨Zg,h41,h⟩:=aD h;exact((((kW.b h39).l (bg tx 1 (dc bD) rfl)).g (jf h41)).a [.cn [1,3,4] [0,2]]).ct hΓ cW (iS bD hm1) (ih1 (i1+1) Zg (dn bD) h)
  ·exact((kW.b h39).a [.cn [1,3,4] [0,1]]).ct hΓ cW (iS bD hm1) (ih1 (i1+1) bY (dn bD) h)
theorem mi{aB:aF}{r:aG}(h:kY aB=some r):Good prog 215 [D.agg (aF.c aB)] (D.fr 9 1 (r.map tx)):=by
 refine gd func215 [[some (9,1)]] 27 fun hr Γ hΓ=>?_
 rw[kY]at h;refine(aY.a [.cn [1,3,4] [0,1]]).lp hΓ (Eh hΓ (fun cK h=>?_) (by have:=(kj.sl (kj.agg (hr _ (aE (i:=0) rfl)) (.sl (aB.args.map tx)) (by simp))).1;simpa using this) aB.args 0 ([]:aG) rfl h);have h:=aN h;subst h;exact aY.ret hΓ
def iG(aB:aL)(aZ:Int)(i1:Nat)(FP:aG)(k2:aG->Option aG):aG->Nat->aG->Option aG
 | [],i2,n7=>(k2 n7)
 |mF::th,i2,n7=>((je n7 mF).bind fun ZG=>(iG aB aZ i1 FP k2 th (i2+1) ZG))
def fB(aB:aL)(aZ:Int)(k1:aG->Option aG):aq->Nat->aG->Option aG
 | [],i1,bY=>(k1 bY)
 |bR::cM,i1,bY=>(bif decide (((i1:Int):Int)<aZ)then(bif (bR.kind:Int)==1 then((kY bR.pat).bind fun FP=>(bif decide (FP.length<=maxLen)then(iG aB aZ i1 FP (fun(C5:aG)=>(fB aB aZ k1 cM (i1+1) C5)) FP 0 bY)else none))else(fB aB aZ k1 cM (i1+1) bY))else(k1 bY))
def jJ(aB:aL)(aZ:Int):Option aG:=(fB aB aZ (fun(cK:aG)=>(some cK)) aB.conds 0 ([]:aG))
def Ct(aB:aL)(aZ:Int)(W0:List aK)(fS:Int):St:=⟨[(1,D.int .i64 aZ),(2,D.ptr 0 0),(5,D.acc 1),(6,D.int .i64 fS)],[Ob.box (aL.c aB),Ob.row .uq 9 1 W0]⟩
def Cu(aB:aL)(aZ:Int)(i1:Nat)(FP:aG)(W0:List aK)(fS:Int):St:=⟨[(1,D.int .i64 aZ),(2,D.ptr 0 0),(5,D.acc 1),(6,D.int .i64 (i1:Int)),(7,D.acc 2),(8,D.int .i64 fS)],[Ob.box (aL.c aB),Ob.row .uq 9 1 W0,Ob.row .uq 9 1 (FP.map tx)]⟩
theorem Bc(hΓ:Γ.nt=49){aB:aL}{aZ:Int}{i1:Nat}{FP:aG}{r:aG}{k2:aG->Option aG}(EB:∀(C5:aG),k2 C5=some r->Ax Γ N f208 (.q [[some (9,1)]] (D.fr 9 1 (r.map tx))) [1,1,0,1,0,0,1,1] ⟨[(1,D.int .i64 aZ),(2,D.ptr 0 0),(5,D.acc 1),(6,D.int .i64 (i1:Int))],[Ob.box (aL.c aB),Ob.row .uq 9 1 (C5.map tx)]⟩)(hm2:FP.length<=maxLen):∀(rest:aG) (i2:Nat) (n7:aG),FP.drop i2=rest->iG aB aZ i1 FP k2 rest i2 n7=some r->Ar Γ N f208 (.q [[some (9,1)]] (D.fr 9 1 (r.map tx))) [1,1,0,1,0,0,1,0,0,1,0,1,1,0] (rest.length+1) (Cu aB aZ i1 FP (n7.map tx) (i2:Int)):=by
 intro rest
 induction rest with
 |nil=>
  intro i2 n7 hd2 h;rw[iG]at h;refine aX fun N2 xz ue=>?_
  exact((aY.ge tx hd2).a [.hl 3 [1,2,5,6] [0,1]]).ex hΓ xz (EB n7 h)
 |cons mF th ih2=>
  intro i2 n7 hd2 h;rw[iG]at h;refine aX fun N2 xz ue=>?_
  obtain⟨ZG,h184,h⟩:=aD h;exact(((((aY.lt tx hd2).i (mw tx 1 (dc hd2))).o 1 1 .uq (cP tx (dc hd2))).g (jf h184)).a [.cn [1,2,5,6,7,8] [0,3,2]]).ct hΓ ue (iS hd2 hm2) (ih2 (i2+1) ZG (dn hd2) h)
theorem Bb(hΓ:Γ.nt=49){aB:aL}{aZ:Int}{r:aG}{k1:aG->Option aG}(gE:∀(cK:aG),k1 cK=some r->Ax Γ N f208 (.q [[some (9,1)]] (D.fr 9 1 (r.map tx))) [1,1,1] ⟨[(5,D.acc 0)],[Ob.row .uq 9 1 (cK.map tx)]⟩)(hm1:aB.conds.length<=maxLen):∀(rest:aq) (i1:Nat) (bY:aG),aB.conds.drop i1=rest->fB aB aZ k1 rest i1 bY=some r->Ar Γ N f208 (.q [[some (9,1)]] (D.fr 9 1 (r.map tx))) [1,1,0,1,0] (rest.length+1) (Ct aB aZ (bY.map tx) (i1:Int)):=by
 intro rest
 induction rest with
 |nil=>
  intro i1 bY bD h;rw[fB]at h;refine aX fun N1 dH cW=>?_
  exact((((((aY.ge aM.c bD).ge aM.c bD).ge aM.c bD).ge aM.c bD).F 1).a [.hl 0 [5] [1]]).ex hΓ dH (gE bY h)
 |cons bR cM ih1=>
  intro i1 bY bD h;rw[fB]at h;refine aX fun N1 dH cW=>?_
  have kx:=((((aY.lt aM.c bD).lt aM.c bD).lt aM.c bD).lt aM.c bD)
  obtain⟨h157,h⟩|⟨h157,h⟩:=aO h
  ·have lJ:=((kx.b h157).l (bg aM.c 5 (dc bD) rfl))
   obtain⟨h158,h⟩|⟨h158,h⟩:=aO h
   ·obtain⟨FP,h160,h⟩:=aD h;obtain⟨h185,h⟩:=bh h;refine((((lJ.b h158).l (bg aM.c 5 (dc bD) rfl)).g (mi h160)).a [.cn [1,2,5,6,7,8] [0,1,2]]).lp hΓ (Bc hΓ (fun C5 h=>?_) (bf h185) FP 0 bY rfl h);exact(aY.a [.cn [1,2,5,6] [0,1]]).ct hΓ cW (iS bD hm1) (ih1 (i1+1) C5 (dn bD) h)
   ·exact((lJ.b h158).a [.cn [1,2,5,6] [0,1]]).ct hΓ cW (iS bD hm1) (ih1 (i1+1) bY (dn bD) h)
  ·exact((kx.b h157).a [.hl 0 [5] [1]]).ex hΓ dH (gE bY h)
theorem iO{aB:aL}{aZ:Int}{r:aG}(h:jJ aB aZ=some r):Good prog 208 [D.agg (aL.c aB),D.int .i64 aZ] (D.fr 9 1 (r.map tx)):=by
 refine gd func208 [[some (9,1)]] 49 fun hr Γ hΓ=>?_
 rw[jJ]at h;refine(aY.a [.cn [1,2,5,6] [0,1]]).lp hΓ (Bb hΓ (fun cK h=>?_) (by have:=(kj.sl (kj.agg (hr _ (aE (i:=0) rfl)) (.sl (aB.conds.map aM.c)) (by simp))).1;simpa using this) aB.conds 0 ([]:aG) rfl h);have h:=aN h;subst h;exact aY.ret hΓ
def iJ(aB:aG)(aZ:Bytes)(k1:Option Bool):aG->Nat->Option Bool
 | [],i1=>(k1)
 |bR::cM,i1=>(bif (bR:Bytes)==aZ then(some true)else(iJ aB aZ k1 cM (i1+1)))
def fM(aB:aG)(aZ:Bytes):Option Bool:=(iJ aB aZ (some false) aB 0)
def D3(aB:aG)(aZ:Bytes)(fS:Int):St:=⟨[(0,D.sl (aB.map tx)),(1,D.str aZ),(5,D.int .i64 fS)],[]⟩
theorem Bh(hΓ:Γ.nt=18){aB:aG}{aZ:Bytes}{r:Bool}{k1:Option Bool}(gE:k1=some r->Ax Γ N f211 (.q [[none]] (D.bool r)) [1,1] ⟨[],[]⟩)(hm1:aB.length<=maxLen):∀(rest:aG) (i1:Nat),aB.drop i1=rest->iJ aB aZ k1 rest i1=some r->Ar Γ N f211 (.q [[none]] (D.bool r)) [1,0,1,0] (rest.length+1) (D3 aB aZ (i1:Int)):=by
 intro rest
 induction rest with
 |nil=>
  intro i1 bD h;rw[iJ]at h;refine aX fun N1 dH cW=>?_
  exact((aY.ge tx bD).a [.hl 0 [] []]).ex hΓ dH (gE h)
 |cons bR cM ih1=>
  intro i1 bD h;rw[iJ]at h;refine aX fun N1 dH cW=>?_
  have kW:=((aY.lt tx bD).l (bg tx 1 (dc bD) rfl))
  obtain⟨h13,h⟩|⟨h13,h⟩:=aO h
  ·have h:=aN h;subst h;exact(kW.b h13).ret hΓ
  ·exact((kW.b h13).a [.cn [0,1,5] []]).ct hΓ cW (iS bD hm1) (ih1 (i1+1) (dn bD) h)
theorem iP{aB:aG}{aZ:Bytes}{r:Bool}(h:fM aB aZ=some r):Good prog 211 [D.sl (aB.map tx),D.str aZ] (D.bool r):=by
 refine gd func211 [[none]] 18 fun hr Γ hΓ=>?_
 rw[fM]at h;refine(aY.a [.cn [0,1,5] []]).lp hΓ (Bh hΓ (fun h=>?_) (by have:=(kj.sl (hr _ (aE (i:=0) rfl))).1;simpa using this) aB 0 rfl h);have h:=aN h;subst h;exact aY.ret hΓ
def nv(aB:Bytes):Option Bool:=((eg aB).bind fun y1=>(bif y1 then((iY aB 0).bind fun b4=>((jM (IntKind.i64.wrap b4.toNat) 97 122).bind fun y6=>(some y6)))else(some false)))
theorem p7{aB:Bytes}{r:Bool}(h:nv aB=some r):Good prog 148 [D.str aB] (D.bool r):=by
 refine gd func148 [[none]] 11 fun hr Γ hΓ=>?_
 rw[nv]at h;obtain⟨y1,h2,h⟩:=aD h;obtain⟨h3,h⟩|⟨h3,h⟩:=aO h
 ·obtain⟨b4,h5,h⟩:=aD h;obtain⟨y6,h7,h⟩:=aD h;have h:=aN h;subst h;exact((((((aY.g (mh h2)).r 2 h3).c h5).r 2 h3).g (gz h7)).b h3).ret hΓ
 ·have h:=aN h;subst h;exact((aY.g (mh h2)).r 5 h3).ret hΓ
def gb(aB:Bytes):Option Bool:=((eg aB).bind fun y1=>(bif y1 then(some true)else((fk aB).bind fun y4=>(some y4))))
theorem j4{aB:Bytes}{r:Bool}(h:gb aB=some r):Good prog 235 [D.str aB] (D.bool r):=by
 refine gd func235 [[none]] 9 fun hr Γ hΓ=>?_
 rw[gb]at h;obtain⟨y1,h2,h⟩:=aD h;obtain⟨h3,h⟩|⟨h3,h⟩:=aO h
 ·have h:=aN h;subst h;exact((aY.g (mh h2)).r 3 h3).ret hΓ
 ·obtain⟨y4,h5,h⟩:=aD h;have h:=aN h;subst h;exact((((aY.g (mh h2)).r 2 h3).g (lF h5)).b h3).ret hΓ
def jv(aB:aF)(k1:Option Bool):aG->Nat->Option Bool
 | [],i1=>(k1)
 |bR::cM,i1=>((gb bR).bind fun LH=>(bif !(LH)then(some false)else(jv aB k1 cM (i1+1))))
def gA(aB:aF):Option Bool:=(jv aB ((nv aB.rel).bind fun Mi=>(bif Mi then(some (decide ((((aB.args.map tx).length:Int):Int)<=3)))else(some false))) aB.args 0)
def Cv(aB:aF)(fS:Int):St:=⟨[(1,D.ptr 0 0),(3,D.int .i64 fS)],[Ob.box (aF.c aB)]⟩
theorem Be(hΓ:Γ.nt=27){aB:aF}{r:Bool}{k1:Option Bool}(gE:k1=some r->Ax Γ N f201 (.q [[none]] (D.bool r)) [1,1] ⟨[(1,D.ptr 0 0)],[Ob.box (aF.c aB)]⟩)(hm1:aB.args.length<=maxLen):∀(rest:aG) (i1:Nat),aB.args.drop i1=rest->jv aB k1 rest i1=some r->Ar Γ N f201 (.q [[none]] (D.bool r)) [1,0,1,0] (rest.length+1) (Cv aB (i1:Int)):=by
 intro rest
 induction rest with
 |nil=>
  intro i1 bD h;rw[jv]at h;refine aX fun N1 dH cW=>?_
  exact((aY.ge tx bD).a [.hl 0 [1] [0]]).ex hΓ dH (gE h)
 |cons bR cM ih1=>
  intro i1 bD h;rw[jv]at h;refine aX fun N1 dH cW=>?_
  obtain⟨LH,h22,h⟩:=aD h;have kW:=(((aY.lt tx bD).l (bg tx 1 (dc bD) rfl)).g (j4 h22))
  obtain⟨h23,h⟩|⟨h23,h⟩:=aO h
  ·have h:=aN h;subst h;exact(kW.b h23).ret hΓ
  ·exact((kW.b h23).a [.cn [1,3] [0]]).ct hΓ cW (iS bD hm1) (ih1 (i1+1) (dn bD) h)
theorem gK{aB:aF}{r:Bool}(h:gA aB=some r):Good prog 201 [D.agg (aF.c aB)] (D.bool r):=by
 refine gd func201 [[none]] 27 fun hr Γ hΓ=>?_
 rw[gA]at h;refine(aY.a [.cn [1,3] [0]]).lp hΓ (Be hΓ (fun h=>?_) (by have:=(kj.sl (kj.agg (hr _ (aE (i:=0) rfl)) (.sl (aB.args.map tx)) (by simp))).1;simpa using this) aB.args 0 rfl h);obtain⟨Mi,h25,h⟩:=aD h;obtain⟨h26,h⟩|⟨h26,h⟩:=aO h
 ·cases h;exact((aY.g (p7 h25)).r 5 h26).ret hΓ
 ·have h:=aN h;subst h;exact((aY.g (p7 h25)).r 5 h26).ret hΓ
def mH(aB:aM):Option Bool:=(bif (aB.kind:Int)==1 then((gA aB.pat).bind fun y2=>(bif y2 then(bif (aB.left:Bytes)==([])then(some ((aB.right:Bytes)==([])))else(some false))else(some false)))else(bif (aB.kind:Int)==2 then((gA aB.pat).bind fun y7=>(bif y7 then(bif (aB.left:Bytes)==([])then(some ((aB.right:Bytes)==([])))else(some false))else(some false)))else(bif (aB.kind:Int)==3 then(bif (aB.pat.rel:Bytes)==([])then(bif (((aB.pat.args.map tx).length:Int):Int)==0 then((gb aB.left).bind fun Mh=>(bif Mh then((gb aB.right).bind fun U7=>(some U7))else(some false)))else(some false))else(some false))else(bif (aB.kind:Int)==4 then(bif (aB.pat.rel:Bytes)==([])then(bif (((aB.pat.args.map tx).length:Int):Int)==0 then((gb aB.left).bind fun xg=>(bif xg then((gb aB.right).bind fun sv=>(some sv))else(some false)))else(some false))else(some false))else(bif (aB.kind:Int)==5 then(bif (aB.pat.rel:Bytes)==([])then(bif (((aB.pat.args.map tx).length:Int):Int)==0 then((gb aB.left).bind fun vg=>(bif vg then((gb aB.right).bind fun vJ=>(some vJ))else(some false)))else(some false))else(some false))else(some false))))))
theorem kP{aB:aM}{r:Bool}(h:mH aB=some r):Good prog 209 [D.agg (aM.c aB)] (D.bool r):=by
 refine gd func209 [[none]] 46 fun hr Γ hΓ=>?_
 rw[mH]at h;obtain⟨h1,h⟩|⟨h1,h⟩:=aO h
 ·obtain⟨y2,h3,h⟩:=aD h;have rj:=((aY.r 2 h1).g (gK h3))
  obtain⟨h4,h⟩|⟨h4,h⟩:=aO h
  ·have kW:=(rj.r 4 h4)
   obtain⟨h5,h⟩|⟨h5,h⟩:=aO h
   ·cases h;exact(kW.r 4 h5).ret hΓ
   ·have h:=aN h;subst h;exact(kW.r 4 h5).ret hΓ
  ·have h:=aN h;subst h;exact((rj.r 4 h4).F 4).ret hΓ
 ·obtain⟨h6,h⟩|⟨h6,h⟩:=aO h
  ·obtain⟨y7,h8,h⟩:=aD h;have kx:=(((aY.b h1).b h6).g (gK h8))
   obtain⟨h9,h⟩|⟨h9,h⟩:=aO h
   ·have lJ:=(kx.r 4 h9)
    obtain⟨h10,h⟩|⟨h10,h⟩:=aO h
    ·cases h;exact(lJ.r 4 h10).ret hΓ
    ·have h:=aN h;subst h;exact(lJ.r 4 h10).ret hΓ
   ·have h:=aN h;subst h;exact((kx.r 4 h9).F 4).ret hΓ
  ·have tf:=((aY.b h1).b h6)
   obtain⟨h11,h⟩|⟨h11,h⟩:=aO h
   ·have xQ:=(tf.r 2 h11)
    obtain⟨h12,h⟩|⟨h12,h⟩:=aO h
    ·have Av:=(xQ.r 6 h12)
     obtain⟨h13,h⟩|⟨h13,h⟩:=aO h
     ·obtain⟨Mh,h15,h⟩:=aD h;have GX:=(((Av.r 3 h13).g (j4 h15)).b h13)
      obtain⟨h16,h⟩|⟨h16,h⟩:=aO h
      ·obtain⟨U7,h18,h⟩:=aD h;have h:=aN h;subst h;exact(((GX.r 3 h16).g (j4 h18)).b h16).ret hΓ
      ·have h:=aN h;subst h;exact(GX.r 4 h16).ret hΓ
     ·have h:=aN h;subst h;exact((Av.r 4 h13).F 4).ret hΓ
    ·have h:=aN h;subst h;exact((xQ.r 6 h12).F 8).ret hΓ
   ·obtain⟨h19,h⟩|⟨h19,h⟩:=aO h
    ·have JW:=((tf.b h11).r 2 h19)
     obtain⟨h20,h⟩|⟨h20,h⟩:=aO h
     ·have F9:=(JW.r 6 h20)
      obtain⟨h21,h⟩|⟨h21,h⟩:=aO h
      ·obtain⟨xg,h23,h⟩:=aD h;have IM:=(((F9.r 3 h21).g (j4 h23)).b h21)
       obtain⟨h24,h⟩|⟨h24,h⟩:=aO h
       ·obtain⟨sv,h26,h⟩:=aD h;have h:=aN h;subst h;exact(((IM.r 3 h24).g (j4 h26)).b h24).ret hΓ
       ·have h:=aN h;subst h;exact(IM.r 4 h24).ret hΓ
      ·have h:=aN h;subst h;exact((F9.r 4 h21).F 4).ret hΓ
     ·have h:=aN h;subst h;exact((JW.r 6 h20).F 8).ret hΓ
    ·have E8:=((tf.b h11).b h19)
     obtain⟨h27,h⟩|⟨h27,h⟩:=aO h
     ·obtain⟨h28,h⟩|⟨h28,h⟩:=aO h
      ·have IN:=((E8.b h27).r 6 h28)
       obtain⟨h29,h⟩|⟨h29,h⟩:=aO h
       ·obtain⟨vg,h31,h⟩:=aD h;have IP:=(((IN.r 3 h29).g (j4 h31)).b h29)
        obtain⟨h32,h⟩|⟨h32,h⟩:=aO h
        ·obtain⟨vJ,h34,h⟩:=aD h;have h:=aN h;subst h;exact(((IP.r 3 h32).g (j4 h34)).b h32).ret hΓ
        ·have h:=aN h;subst h;exact(IP.r 4 h32).ret hΓ
       ·have h:=aN h;subst h;exact((IN.r 4 h29).F 4).ret hΓ
      ·have h:=aN h;subst h;exact(((E8.b h27).r 6 h28).F 8).ret hΓ
     ·have h:=aN h;subst h;exact(E8.b h27).ret hΓ
def k6(aB:aM):Option aG:=((kY aB.pat).bind fun y1=>((fk aB.left).bind fun y3=>(bif y3 then((je y1 aB.left).bind fun y6=>((fk aB.right).bind fun y8=>(bif y8 then((je y6 aB.right).bind fun Mr=>(some Mr))else(some y6))))else((fk aB.right).bind fun su=>(bif su then((je y1 aB.right).bind fun Jj=>(some Jj))else(some y1))))))
theorem nU{aB:aM}{r:aG}(h:k6 aB=some r):Good prog 210 [D.agg (aM.c aB)] (D.fr 9 1 (r.map tx)):=by
 refine gd func210 [[some (9,1)]] 22 fun hr Γ hΓ=>?_
 rw[k6]at h;obtain⟨y1,h2,h⟩:=aD h;obtain⟨y3,h4,h⟩:=aD h;have rj:=((aY.g (mi h2)).g (lF h4))
 obtain⟨h5,h⟩|⟨h5,h⟩:=aO h
 ·obtain⟨y6,h7,h⟩:=aD h;obtain⟨y8,h9,h⟩:=aD h;have kW:=(((rj.b h5).g (jf h7)).g (lF h9))
  obtain⟨h10,h⟩|⟨h10,h⟩:=aO h
  ·obtain⟨Mr,h12,h⟩:=aD h;have h:=aN h;subst h;exact((kW.b h10).g (jf h12)).ret hΓ
  ·have h:=aN h;subst h;exact(kW.b h10).ret hΓ
 ·obtain⟨su,h14,h⟩:=aD h;have kx:=((rj.b h5).g (lF h14))
  obtain⟨h15,h⟩|⟨h15,h⟩:=aO h
  ·obtain⟨Jj,h17,h⟩:=aD h;have h:=aN h;subst h;exact((kx.b h15).g (jf h17)).ret hΓ
  ·have h:=aN h;subst h;exact(kx.b h15).ret hΓ
def nw(aB:aM):Option Bool:=((mH aB).bind fun y1=>(bif y1 then(some (decide ((aB.kind:Int)>=3)))else(some false)))
theorem xE{aB:aM}{r:Bool}(h:nw aB=some r):Good prog 212 [D.agg (aM.c aB)] (D.bool r):=by
 refine gd func212 [[none]] 10 fun hr Γ hΓ=>?_
 rw[nw]at h;obtain⟨y1,h2,h⟩:=aD h;obtain⟨h3,h⟩|⟨h3,h⟩:=aO h
 ·cases h;exact((aY.g (kP h2)).r 4 h3).ret hΓ
 ·have h:=aN h;subst h;exact((aY.g (kP h2)).r 4 h3).ret hΓ
def ew(aB:aL)(aZ:Int)(cY:Bytes)(k1:Option Bool):aq->Nat->Option Bool
 | [],i1=>(k1)
 |bR::cM,i1=>(bif ((i1:Int):Int) != aZ then((k6 bR).bind fun Gi=>((fM Gi cY).bind fun Mj=>(bif Mj then(some true)else(ew aB aZ cY k1 cM (i1+1)))))else(ew aB aZ cY k1 cM (i1+1)))
def gL(aB:aL)(cY:Bytes)(k2:Option Bool):eG->Nat->Option Bool
 | [],i2=>(k2)
 |mF::th,i2=>((kY mF.pat).bind fun Qf=>((fM Qf cY).bind fun XH=>(bif XH then(some true)else(gL aB cY k2 th (i2+1)))))
def kU(aB:aL)(aZ:Int)(cY:Bytes):Option Bool:=(ew aB aZ cY (gL aB cY (some false) aB.cR 0) aB.conds 0)
def Aq(aB:aL)(aZ:Int)(cY:Bytes)(fS:Int):St:=⟨[(1,D.int .i64 aZ),(2,D.str cY),(3,D.ptr 0 0),(7,D.int .i64 fS)],[Ob.box (aL.c aB)]⟩
theorem zq(hΓ:Γ.nt=45){aB:aL}{aZ:Int}{cY:Bytes}{r:Bool}{k1:Option Bool}(gE:k1=some r->Ax Γ N f213 (.q [[none]] (D.bool r)) [1,1] ⟨[(2,D.str cY),(3,D.ptr 0 0)],[Ob.box (aL.c aB)]⟩)(hm1:aB.conds.length<=maxLen):∀(rest:aq) (i1:Nat),aB.conds.drop i1=rest->ew aB aZ cY k1 rest i1=some r->Ar Γ N f213 (.q [[none]] (D.bool r)) [1,0,1,0] (rest.length+1) (Aq aB aZ cY (i1:Int)):=by
 intro rest
 induction rest with
 |nil=>
  intro i1 bD h;rw[ew]at h;refine aX fun N1 dH cW=>?_
  exact((aY.ge aM.c bD).a [.hl 0 [2,3] [0]]).ex hΓ dH (gE h)
 |cons bR cM ih1=>
  intro i1 bD h;rw[ew]at h;refine aX fun N1 dH cW=>?_
  obtain⟨h33,h⟩|⟨h33,h⟩:=aO h
  ·obtain⟨Gi,h35,h⟩:=aD h;obtain⟨Mj,h37,h⟩:=aD h;have kx:=((((((((aY.lt aM.c bD).r 4 h33).l (bg aM.c 5 (dc bD) rfl)).r 2 h33).g (nU h35)).r 2 h33).g (iP h37)).b h33)
   obtain⟨h38,h⟩|⟨h38,h⟩:=aO h
   ·have h:=aN h;subst h;exact(kx.b h38).ret hΓ
   ·exact((kx.b h38).a [.cn [1,2,3,7] [0]]).ct hΓ cW (iS bD hm1) (ih1 (i1+1) (dn bD) h)
  ·exact((((aY.lt aM.c bD).r 9 h33).F 1).a [.cn [1,2,3,7] [0]]).ct hΓ cW (iS bD hm1) (ih1 (i1+1) (dn bD) h)
def As(aB:aL)(cY:Bytes)(fS:Int):St:=⟨[(2,D.str cY),(3,D.ptr 0 0),(8,D.int .i64 fS)],[Ob.box (aL.c aB)]⟩
theorem zu(hΓ:Γ.nt=45){aB:aL}{cY:Bytes}{r:Bool}{k2:Option Bool}(EB:k2=some r->Ax Γ N f213 (.q [[none]] (D.bool r)) [1,1,1] ⟨[],[]⟩)(hm2:aB.cR.length<=maxLen):∀(rest:eG) (i2:Nat),aB.cR.drop i2=rest->gL aB cY k2 rest i2=some r->Ar Γ N f213 (.q [[none]] (D.bool r)) [1,1,0,1,0] (rest.length+1) (As aB cY (i2:Int)):=by
 intro rest
 induction rest with
 |nil=>
  intro i2 hd2 h;rw[gL]at h;refine aX fun N2 xz ue=>?_
  exact((aY.ge Action.c hd2).a [.hl 0 [] []]).ex hΓ xz (EB h)
 |cons mF th ih2=>
  intro i2 hd2 h;rw[gL]at h;refine aX fun N2 xz ue=>?_
  obtain⟨Qf,h68,h⟩:=aD h;obtain⟨XH,h70,h⟩:=aD h;have lJ:=((((aY.lt Action.c hd2).l (bg Action.c 3 (dc hd2) rfl)).g (mi h68)).g (iP h70))
  obtain⟨h71,h⟩|⟨h71,h⟩:=aO h
  ·have h:=aN h;subst h;exact(lJ.b h71).ret hΓ
  ·exact((lJ.b h71).a [.cn [2,3,8] [0]]).ct hΓ ue (iS hd2 hm2) (ih2 (i2+1) (dn hd2) h)
theorem tC{aB:aL}{aZ:Int}{cY:Bytes}{r:Bool}(h:kU aB aZ cY=some r):Good prog 213 [D.agg (aL.c aB),D.int .i64 aZ,D.str cY] (D.bool r):=by
 refine gd func213 [[none]] 45 fun hr Γ hΓ=>?_
 rw[kU]at h;refine(aY.a [.cn [1,2,3,7] [0]]).lp hΓ (zq hΓ (fun h=>?_) (by have:=(kj.sl (kj.agg (hr _ (aE (i:=0) rfl)) (.sl (aB.conds.map aM.c)) (by simp))).1;simpa using this) aB.conds 0 rfl h);refine(aY.a [.cn [2,3,8] [0]]).lp hΓ (zu hΓ (fun h=>?_) (by have:=(kj.sl (kj.agg (hr _ (aE (i:=0) rfl)) (.sl (aB.cR.map Action.c)) (by simp))).1;simpa using this) aB.cR 0 rfl h);have h:=aN h;subst h;exact aY.ret hΓ
def pY(aB:Action):Option Bool:=(bif (aB.kind:Int)==1 then((gA aB.pat).bind fun y2=>(some y2))else(bif (aB.kind:Int)==2 then((gA aB.pat).bind fun y5=>(some y5))else(bif (aB.kind:Int)==3 then(bif (aB.pat.rel:Bytes)==([])then(some ((((aB.pat.args.map tx).length:Int):Int)==0))else(some false))else(some false))))
theorem Bd{aB:Action}{r:Bool}(h:pY aB=some r):Good prog 214 [D.agg (Action.c aB)] (D.bool r):=by
 refine gd func214 [[none]] 24 fun hr Γ hΓ=>?_
 rw[pY]at h;obtain⟨h1,h⟩|⟨h1,h⟩:=aO h
 ·obtain⟨y2,h3,h⟩:=aD h;have h:=aN h;subst h;exact((aY.r 2 h1).g (gK h3)).ret hΓ
 ·obtain⟨h4,h⟩|⟨h4,h⟩:=aO h
  ·obtain⟨y5,h6,h⟩:=aD h;have h:=aN h;subst h;exact(((aY.b h1).b h4).g (gK h6)).ret hΓ
  ·have rj:=((aY.b h1).b h4)
   obtain⟨h7,h⟩|⟨h7,h⟩:=aO h
   ·obtain⟨h8,h⟩|⟨h8,h⟩:=aO h
    ·cases h;exact((rj.b h7).r 6 h8).ret hΓ
    ·have h:=aN h;subst h;exact((rj.b h7).r 6 h8).ret hΓ
   ·have h:=aN h;subst h;exact(rj.b h7).ret hΓ
def j5(aB:aL)(i1:Nat)(xf:aG)(k2:aG->Option aG):aG->Nat->aG->Option aG
 | [],i2,n7=>(k2 n7)
 |mF::th,i2,n7=>((je n7 mF).bind fun ZF=>(j5 aB i1 xf k2 th (i2+1) ZF))
def gX(aB:aL)(k1:aG->Option aG):aq->Nat->aG->Option aG
 | [],i1,bY=>(k1 bY)
 |bR::cM,i1,bY=>((k6 bR).bind fun xf=>(bif decide (xf.length<=maxLen)then(j5 aB i1 xf (fun(C5:aG)=>(gX aB k1 cM (i1+1) C5)) xf 0 bY)else none))
def j6(aB:aL)(i3:Nat)(FQ:aG)(k4:aG->Option aG):aG->Nat->aG->Option aG
 | [],i4,LD=>(k4 LD)
 |Zf::xs4,i4,LD=>((je LD Zf).bind fun ZH=>(j6 aB i3 FQ k4 xs4 (i4+1) ZH))
def fm(aB:aL)(k3:aG->Option aG):eG->Nat->aG->Option aG
 | [],i3,vf=>(k3 vf)
 |QZ::Mq,i3,vf=>((kY QZ.pat).bind fun FQ=>(bif decide (FQ.length<=maxLen)then(j6 aB i3 FQ (fun(QH:aG)=>(fm aB k3 Mq (i3+1) QH)) FQ 0 vf)else none))
def pZ(aB:aL):Option aG:=(gX aB (fun(kw:aG)=>(fm aB (fun(T7:aG)=>(some T7)) aB.cR 0 kw)) aB.conds 0 ([]:aG))
def Dq(aB:aL)(W0:List aK)(fS:Int):St:=⟨[(1,D.ptr 0 0),(3,D.acc 1),(4,D.int .i64 fS)],[Ob.box (aL.c aB),Ob.row .uq 9 1 W0]⟩
def Dr(aB:aL)(i1:Nat)(xf:aG)(W0:List aK)(fS:Int):St:=⟨[(1,D.ptr 0 0),(3,D.acc 1),(4,D.int .i64 (i1:Int)),(5,D.acc 2),(6,D.int .i64 fS)],[Ob.box (aL.c aB),Ob.row .uq 9 1 W0,Ob.row .uq 9 1 (xf.map tx)]⟩
theorem D0(hΓ:Γ.nt=63){aB:aL}{i1:Nat}{xf:aG}{r:aG}{k2:aG->Option aG}(EB:∀(C5:aG),k2 C5=some r->Ax Γ N f216 (.q [[some (9,1)]] (D.fr 9 1 (r.map tx))) [1,1,0,1,0,0,1,1] ⟨[(1,D.ptr 0 0),(3,D.acc 1),(4,D.int .i64 (i1:Int))],[Ob.box (aL.c aB),Ob.row .uq 9 1 (C5.map tx)]⟩)(hm2:xf.length<=maxLen):∀(rest:aG) (i2:Nat) (n7:aG),xf.drop i2=rest->j5 aB i1 xf k2 rest i2 n7=some r->Ar Γ N f216 (.q [[some (9,1)]] (D.fr 9 1 (r.map tx))) [1,1,0,1,0,0,1,0,0,1,1,0] (rest.length+1) (Dr aB i1 xf (n7.map tx) (i2:Int)):=by
 intro rest
 induction rest with
 |nil=>
  intro i2 n7 hd2 h;rw[j5]at h;refine aX fun N2 xz ue=>?_
  exact((aY.ge tx hd2).a [.hl 3 [1,3,4] [0,1]]).ex hΓ xz (EB n7 h)
 |cons mF th ih2=>
  intro i2 n7 hd2 h;rw[j5]at h;refine aX fun N2 xz ue=>?_
  obtain⟨ZF,h172,h⟩:=aD h;exact(((((aY.lt tx hd2).i (mw tx 1 (dc hd2))).o 1 1 .uq (cP tx (dc hd2))).g (jf h172)).a [.cn [1,3,4,5,6] [0,3,2]]).ct hΓ ue (iS hd2 hm2) (ih2 (i2+1) ZF (dn hd2) h)
theorem Cz(hΓ:Γ.nt=63){aB:aL}{r:aG}{k1:aG->Option aG}(gE:∀(kw:aG),k1 kw=some r->Ax Γ N f216 (.q [[some (9,1)]] (D.fr 9 1 (r.map tx))) [1,1,1] ⟨[(1,D.ptr 0 0),(3,D.acc 1)],[Ob.box (aL.c aB),Ob.row .uq 9 1 (kw.map tx)]⟩)(hm1:aB.conds.length<=maxLen):∀(rest:aq) (i1:Nat) (bY:aG),aB.conds.drop i1=rest->gX aB k1 rest i1 bY=some r->Ar Γ N f216 (.q [[some (9,1)]] (D.fr 9 1 (r.map tx))) [1,1,0,1,0] (rest.length+1) (Dq aB (bY.map tx) (i1:Int)):=by
 intro rest
 induction rest with
 |nil=>
  intro i1 bY bD h;rw[gX]at h;refine aX fun N1 dH cW=>?_
  exact((aY.ge aM.c bD).a [.hl 0 [1,3] [0,1]]).ex hΓ dH (gE bY h)
 |cons bR cM ih1=>
  intro i1 bY bD h;rw[gX]at h;refine aX fun N1 dH cW=>?_
  obtain⟨xf,h148,h⟩:=aD h;obtain⟨h173,h⟩:=bh h;refine((((aY.lt aM.c bD).l (bg aM.c 5 (dc bD) rfl)).g (nU h148)).a [.cn [1,3,4,5,6] [0,1,2]]).lp hΓ (D0 hΓ (fun C5 h=>?_) (bf h173) xf 0 bY rfl h);exact(aY.a [.cn [1,3,4] [0,1]]).ct hΓ cW (iS bD hm1) (ih1 (i1+1) C5 (dn bD) h)
def Ds(aB:aL)(W0:List aK)(fS:Int):St:=⟨[(1,D.ptr 0 0),(3,D.acc 1),(7,D.int .i64 fS)],[Ob.box (aL.c aB),Ob.row .uq 9 1 W0]⟩
def Dt(aB:aL)(i3:Nat)(FQ:aG)(W0:List aK)(fS:Int):St:=⟨[(1,D.ptr 0 0),(3,D.acc 1),(7,D.int .i64 (i3:Int)),(8,D.acc 2),(9,D.int .i64 fS)],[Ob.box (aL.c aB),Ob.row .uq 9 1 W0,Ob.row .uq 9 1 (FQ.map tx)]⟩
theorem D2(hΓ:Γ.nt=63){aB:aL}{i3:Nat}{FQ:aG}{r:aG}{k4:aG->Option aG}(hE4:∀(QH:aG),k4 QH=some r->Ax Γ N f216 (.q [[some (9,1)]] (D.fr 9 1 (r.map tx))) [1,1,1,0,1,0,0,1,1] ⟨[(1,D.ptr 0 0),(3,D.acc 1),(7,D.int .i64 (i3:Int))],[Ob.box (aL.c aB),Ob.row .uq 9 1 (QH.map tx)]⟩)(hm4:FQ.length<=maxLen):∀(rest:aG) (i4:Nat) (LD:aG),FQ.drop i4=rest->j6 aB i3 FQ k4 rest i4 LD=some r->Ar Γ N f216 (.q [[some (9,1)]] (D.fr 9 1 (r.map tx))) [1,1,1,0,1,0,0,1,0,0,1,1,0] (rest.length+1) (Dt aB i3 FQ (LD.map tx) (i4:Int)):=by
 intro rest
 induction rest with
 |nil=>
  intro i4 LD NH h;rw[j6]at h;refine aX fun N4 Zx Zy=>?_
  exact((aY.ge tx NH).a [.hl 3 [1,3,7] [0,1]]).ex hΓ Zx (hE4 LD h)
 |cons Zf xs4 ih4=>
  intro i4 LD NH h;rw[j6]at h;refine aX fun N4 Zx Zy=>?_
  obtain⟨ZH,h345,h⟩:=aD h;exact(((((aY.lt tx NH).i (mw tx 1 (dc NH))).o 1 1 .uq (cP tx (dc NH))).g (jf h345)).a [.cn [1,3,7,8,9] [0,3,2]]).ct hΓ Zy (iS NH hm4) (ih4 (i4+1) ZH (dn NH) h)
theorem D1(hΓ:Γ.nt=63){aB:aL}{r:aG}{k3:aG->Option aG}(Xd:∀(T7:aG),k3 T7=some r->Ax Γ N f216 (.q [[some (9,1)]] (D.fr 9 1 (r.map tx))) [1,1,1,1] ⟨[(3,D.acc 0)],[Ob.row .uq 9 1 (T7.map tx)]⟩)(Ps:aB.cR.length<=maxLen):∀(rest:eG) (i3:Nat) (vf:aG),aB.cR.drop i3=rest->fm aB k3 rest i3 vf=some r->Ar Γ N f216 (.q [[some (9,1)]] (D.fr 9 1 (r.map tx))) [1,1,1,0,1,0] (rest.length+1) (Ds aB (vf.map tx) (i3:Int)):=by
 intro rest
 induction rest with
 |nil=>
  intro i3 vf ya h;rw[fm]at h;refine aX fun N3 Rg Ml=>?_
  exact((aY.ge Action.c ya).a [.hl 0 [3] [1]]).ex hΓ Rg (Xd vf h)
 |cons QZ Mq ih3=>
  intro i3 vf ya h;rw[fm]at h;refine aX fun N3 Rg Ml=>?_
  obtain⟨FQ,h321,h⟩:=aD h;obtain⟨h346,h⟩:=bh h;refine((((aY.lt Action.c ya).l (bg Action.c 3 (dc ya) rfl)).g (mi h321)).a [.cn [1,3,7,8,9] [0,1,2]]).lp hΓ (D2 hΓ (fun QH h=>?_) (bf h346) FQ 0 vf rfl h);exact(aY.a [.cn [1,3,7] [0,1]]).ct hΓ Ml (iS ya Ps) (ih3 (i3+1) QH (dn ya) h)
theorem Bg{aB:aL}{r:aG}(h:pZ aB=some r):Good prog 216 [D.agg (aL.c aB)] (D.fr 9 1 (r.map tx)):=by
 refine gd func216 [[some (9,1)]] 63 fun hr Γ hΓ=>?_
 rw[pZ]at h;refine(aY.a [.cn [1,3,4] [0,1]]).lp hΓ (Cz hΓ (fun kw h=>?_) (by have:=(kj.sl (kj.agg (hr _ (aE (i:=0) rfl)) (.sl (aB.conds.map aM.c)) (by simp))).1;simpa using this) aB.conds 0 ([]:aG) rfl h);refine(aY.a [.cn [1,3,7] [0,1]]).lp hΓ (D1 hΓ (fun T7 h=>?_) (by have:=(kj.sl (kj.agg (hr _ (aE (i:=0) rfl)) (.sl (aB.cR.map Action.c)) (by simp))).1;simpa using this) aB.cR 0 kw rfl h);have h:=aN h;subst h;exact aY.ret hΓ
def fK(aB:aL)(su:aG)(i1:Nat)(bR:aM)(FU:aG)(B1:aG)(k2:Option Bool):aG->Nat->Option Bool
 | [],i2=>(k2)
 |mF::th,i2=>((fM FU mF).bind fun ZN=>((nw bR).bind fun a1v=>(bif a1v then(bif !(ZN)then(some false)else(bif (bR.kind:Int)==2 then(fK aB su i1 bR FU B1 k2 th (i2+1))else(fK aB su i1 bR FU B1 k2 th (i2+1))))else(bif (bR.kind:Int)==2 then(bif !(ZN)then((kU aB (i1:Int) mF).bind fun a1w=>(bif a1w then(some false)else(fK aB su i1 bR FU B1 k2 th (i2+1))))else(fK aB su i1 bR FU B1 k2 th (i2+1)))else(fK aB su i1 bR FU B1 k2 th (i2+1))))))
def fL(aB:aL)(su:aG)(i1:Nat)(bR:aM)(FV:aG)(B2:aG)(k3:Option Bool):aG->Nat->Option Bool
 | [],i3=>(k3)
 |QZ::Mq,i3=>((fM FV QZ).bind fun ZO=>((nw bR).bind fun a1x=>(bif a1x then(bif !(ZO)then(some false)else(bif (bR.kind:Int)==2 then(fL aB su i1 bR FV B2 k3 Mq (i3+1))else(fL aB su i1 bR FV B2 k3 Mq (i3+1))))else(bif (bR.kind:Int)==2 then(bif !(ZO)then((kU aB (i1:Int) QZ).bind fun a1y=>(bif a1y then(some false)else(fL aB su i1 bR FV B2 k3 Mq (i3+1))))else(fL aB su i1 bR FV B2 k3 Mq (i3+1)))else(fL aB su i1 bR FV B2 k3 Mq (i3+1))))))
def jK(aB:aL)(su:aG)(k1:Option Bool):aq->Nat->Option Bool
 | [],i1=>(k1)
 |bR::cM,i1=>((mH bR).bind fun a1u=>(bif !(a1u)then(some false)else(bif ((i1:Int):Int)==0 then(bif (bR.kind:Int) != 1 then(some false)else((jJ aB (i1:Int)).bind fun FU=>((k6 bR).bind fun B1=>(bif decide (B1.length<=maxLen)then(fK aB su i1 bR FU B1 (jK aB su k1 cM (i1+1)) B1 0)else none))))else((jJ aB (i1:Int)).bind fun FV=>((k6 bR).bind fun B2=>(bif decide (B2.length<=maxLen)then(fL aB su i1 bR FV B2 (jK aB su k1 cM (i1+1)) B2 0)else none))))))
def kR(aB:aL)(su:aG)(i4:Nat)(FW:aG)(k5:Option Bool):aG->Nat->Option Bool
 | [],i5=>(k5)
 |x5_::xs5,i5=>((fM su x5_).bind fun a25=>(bif !(a25)then(some false)else(kR aB su i4 FW k5 xs5 (i5+1))))
def kQ(aB:aL)(su:aG)(k4:Option Bool):eG->Nat->Option Bool
 | [],i4=>(k4)
 |Zf::xs4,i4=>((pY Zf).bind fun a22=>(bif !(a22)then(some false)else((kY Zf.pat).bind fun FW=>(bif decide (FW.length<=maxLen)then(kR aB su i4 FW (kQ aB su k4 xs4 (i4+1)) FW 0)else none))))
def kX(aB:aL):Option Bool:=((nv aB.name).bind fun y1=>(bif !(y1)then(some false)else((jM aB.prio 0 9).bind fun y4=>(bif !(y4)then(some false)else((jM ((aB.conds.map aM.c).length:Int) 1 4).bind fun y7=>(bif !(y7)then(some false)else((jM ((aB.cR.map Action.c).length:Int) 1 2).bind fun FN=>(bif !(FN)then(some false)else((jJ aB ((aB.conds.map aM.c).length:Int)).bind fun su=>(jK aB su (kQ aB su ((pZ aB).bind fun a26=>(some (decide ((((a26.map tx).length:Int):Int)<=6)))) aB.cR 0) aB.conds 0))))))))))
def Fm(aB:aL)(su:aG)(fS:Int):St:=⟨[(1,D.ptr 0 0),(3,D.acc 1),(4,D.int .i64 fS)],[Ob.box (aL.c aB),Ob.row .uq 9 1 (su.map tx)]⟩
def Fo(aB:aL)(su:aG)(i1:Nat)(bR:aM)(FU:aG)(B1:aG)(fS:Int):St:=⟨[(1,D.ptr 0 0),(3,D.acc 1),(4,D.int .i64 (i1:Int)),(5,D.ptr 2 0),(6,D.acc 3),(7,D.acc 4),(8,D.int .i64 fS)],[Ob.box (aL.c aB),Ob.row .uq 9 1 (su.map tx),Ob.box [D.int .i64 bR.kind,D.str bR.pat.rel,D.sl (bR.pat.args.map tx),D.str bR.left,D.str bR.right],Ob.row .uq 9 1 (FU.map tx),Ob.row .uq 9 1 (B1.map tx)]⟩
theorem Ed(hΓ:Γ.nt=145){aB:aL}{su:aG}{i1:Nat}{bR:aM}{FU:aG}{B1:aG}{r:Bool}{k2:Option Bool}(EB:k2=some r->Ax Γ N f149 (.q [[none]] (D.bool r)) [1,1,1,0,1,0,0,1,1] ⟨[(1,D.ptr 0 0),(3,D.acc 1),(4,D.int .i64 (i1:Int))],[Ob.box (aL.c aB),Ob.row .uq 9 1 (su.map tx)]⟩)(hm2:B1.length<=maxLen):∀(rest:aG) (i2:Nat),B1.drop i2=rest->fK aB su i1 bR FU B1 k2 rest i2=some r->Ar Γ N f149 (.q [[none]] (D.bool r)) [1,1,1,0,1,0,0,1,0,0,1,1,1,1,1,0] (rest.length+1) (Fo aB su i1 bR FU B1 (i2:Int)):=by
 intro rest
 induction rest with
 |nil=>
  intro i2 hd2 h;rw[fK]at h;refine aX fun N2 xz ue=>?_
  exact((aY.ge tx hd2).a [.hl 3 [1,3,4] [0,1]]).ex hΓ xz (EB h)
 |cons mF th ih2=>
  intro i2 hd2 h;rw[fK]at h;refine aX fun N2 xz ue=>?_
  obtain⟨ZN,h711,h⟩:=aD h;obtain⟨a1v,h713,h⟩:=aD h;have Wb:=((((((aY.lt tx hd2).i (mw tx 1 (dc hd2))).o 1 1 .uq (cP tx (dc hd2))).g (iP h711)).a [.n 21]).g (xE h713))
  obtain⟨h714,h⟩|⟨h714,h⟩:=aO h
  ·have Wd:=(Wb.r 3 h714)
   obtain⟨h715,h⟩|⟨h715,h⟩:=aO h
   ·have h:=aN h;subst h;exact((((((Wd.r 4 h715).a [bF,bF]).r 2 h715).a [bF,bF,bF,bF,bF,bF,bF]).r 2 h715).T 1).ret hΓ
   ·have We:=(Wd.r 4 h715)
    obtain⟨h716,h⟩|⟨h716,h⟩:=aO h
    ·exact((((((We.r 2 h716).b h715).b h716).r 11 h715).F 1).a [.cn [1,3,4,5,6,7,8] [0,1,2,3,4]]).ct hΓ ue (iS hd2 hm2) (ih2 (i2+1) (dn hd2) h)
    ·exact((((((((((We.r 2 h716).b h715).b h716).b h715).F 7).b h715).F 1).b h715).F 1).a [.cn [1,3,4,5,6,7,8] [0,1,2,3,4]]).ct hΓ ue (iS hd2 hm2) (ih2 (i2+1) (dn hd2) h)
  ·have Wf:=((Wb.r 3 h714).F 4)
   obtain⟨h717,h⟩|⟨h717,h⟩:=aO h
   ·have Wg:=((((Wf.r 2 h717).F 1).b h717).F 1)
    obtain⟨h718,h⟩|⟨h718,h⟩:=aO h
    ·obtain⟨a1w,h720,h⟩:=aD h;have Wh:=(((((((((Wg.r 5 h718).i (mw tx 1 (dc hd2))).b h718).o 1 1 .uq (cP tx (dc hd2))).b h718).g (tC h720)).F 1).b h718).F 1)
     obtain⟨h721,h⟩|⟨h721,h⟩:=aO h
     ·have h:=aN h;subst h;exact(Wh.b h721).ret hΓ
     ·exact((Wh.b h721).a [.cn [1,3,4,5,6,7,8] [0,1,2,3,4]]).ct hΓ ue (iS hd2 hm2) (ih2 (i2+1) (dn hd2) h)
    ·exact(((((Wg.r 7 h718).F 1).b h718).F 2).a [.cn [1,3,4,5,6,7,8] [0,1,2,3,4]]).ct hΓ ue (iS hd2 hm2) (ih2 (i2+1) (dn hd2) h)
   ·exact(((((Wf.r 2 h717).F 1).b h717).F 12).a [.cn [1,3,4,5,6,7,8] [0,1,2,3,4]]).ct hΓ ue (iS hd2 hm2) (ih2 (i2+1) (dn hd2) h)
def Fp(aB:aL)(su:aG)(i1:Nat)(bR:aM)(FV:aG)(B2:aG)(fS:Int):St:=⟨[(1,D.ptr 0 0),(3,D.acc 1),(4,D.int .i64 (i1:Int)),(5,D.ptr 2 0),(6,D.acc 3),(7,D.acc 4),(8,D.int .i64 fS)],[Ob.box (aL.c aB),Ob.row .uq 9 1 (su.map tx),Ob.box [D.int .i64 bR.kind,D.str bR.pat.rel,D.sl (bR.pat.args.map tx),D.str bR.left,D.str bR.right],Ob.row .uq 9 1 (FV.map tx),Ob.row .uq 9 1 (B2.map tx)]⟩
theorem Ee(hΓ:Γ.nt=145){aB:aL}{su:aG}{i1:Nat}{bR:aM}{FV:aG}{B2:aG}{r:Bool}{k3:Option Bool}(Xd:k3=some r->Ax Γ N f149 (.q [[none]] (D.bool r)) [1,1,1,0,1,0,0,1,1] ⟨[(1,D.ptr 0 0),(3,D.acc 1),(4,D.int .i64 (i1:Int))],[Ob.box (aL.c aB),Ob.row .uq 9 1 (su.map tx)]⟩)(Ps:B2.length<=maxLen):∀(rest:aG) (i3:Nat),B2.drop i3=rest->fL aB su i1 bR FV B2 k3 rest i3=some r->Ar Γ N f149 (.q [[none]] (D.bool r)) [1,1,1,0,1,0,0,1,0,0,1,1,1,1,1,0] (rest.length+1) (Fp aB su i1 bR FV B2 (i3:Int)):=by
 intro rest
 induction rest with
 |nil=>
  intro i3 ya h;rw[fL]at h;refine aX fun N3 Rg Ml=>?_
  exact((aY.ge tx ya).a [.hl 3 [1,3,4] [0,1]]).ex hΓ Rg (Xd h)
 |cons QZ Mq ih3=>
  intro i3 ya h;rw[fL]at h;refine aX fun N3 Rg Ml=>?_
  obtain⟨ZO,h786,h⟩:=aD h;obtain⟨a1x,h788,h⟩:=aD h;have Wi:=((((((aY.lt tx ya).i (mw tx 1 (dc ya))).o 1 1 .uq (cP tx (dc ya))).g (iP h786)).a [.n 21]).g (xE h788))
  obtain⟨h789,h⟩|⟨h789,h⟩:=aO h
  ·have Wj:=(Wi.r 3 h789)
   obtain⟨h790,h⟩|⟨h790,h⟩:=aO h
   ·have h:=aN h;subst h;exact((((((Wj.r 4 h790).a [bF,bF]).r 2 h790).a [bF,bF,bF,bF,bF,bF,bF]).r 2 h790).T 1).ret hΓ
   ·have Wk:=(Wj.r 4 h790)
    obtain⟨h791,h⟩|⟨h791,h⟩:=aO h
    ·exact((((((Wk.r 2 h791).b h790).b h791).r 11 h790).F 1).a [.cn [1,3,4,5,6,7,8] [0,1,2,3,4]]).ct hΓ Ml (iS ya Ps) (ih3 (i3+1) (dn ya) h)
    ·exact((((((((((Wk.r 2 h791).b h790).b h791).b h790).F 7).b h790).F 1).b h790).F 1).a [.cn [1,3,4,5,6,7,8] [0,1,2,3,4]]).ct hΓ Ml (iS ya Ps) (ih3 (i3+1) (dn ya) h)
  ·have Wl:=((Wi.r 3 h789).F 4)
   obtain⟨h792,h⟩|⟨h792,h⟩:=aO h
   ·have Wm:=((((Wl.r 2 h792).F 1).b h792).F 1)
    obtain⟨h793,h⟩|⟨h793,h⟩:=aO h
    ·obtain⟨a1y,h795,h⟩:=aD h;have Wn:=(((((((((Wm.r 5 h793).i (mw tx 1 (dc ya))).b h793).o 1 1 .uq (cP tx (dc ya))).b h793).g (tC h795)).F 1).b h793).F 1)
     obtain⟨h796,h⟩|⟨h796,h⟩:=aO h
     ·have h:=aN h;subst h;exact(Wn.b h796).ret hΓ
     ·exact((Wn.b h796).a [.cn [1,3,4,5,6,7,8] [0,1,2,3,4]]).ct hΓ Ml (iS ya Ps) (ih3 (i3+1) (dn ya) h)
    ·exact(((((Wm.r 7 h793).F 1).b h793).F 2).a [.cn [1,3,4,5,6,7,8] [0,1,2,3,4]]).ct hΓ Ml (iS ya Ps) (ih3 (i3+1) (dn ya) h)
   ·exact(((((Wl.r 2 h792).F 1).b h792).F 12).a [.cn [1,3,4,5,6,7,8] [0,1,2,3,4]]).ct hΓ Ml (iS ya Ps) (ih3 (i3+1) (dn ya) h)
theorem Ec(hΓ:Γ.nt=145){aB:aL}{su:aG}{r:Bool}{k1:Option Bool}(gE:k1=some r->Ax Γ N f149 (.q [[none]] (D.bool r)) [1,1,1,1] ⟨[(1,D.ptr 0 0),(3,D.acc 1)],[Ob.box (aL.c aB),Ob.row .uq 9 1 (su.map tx)]⟩)(hm1:aB.conds.length<=maxLen):∀(rest:aq) (i1:Nat),aB.conds.drop i1=rest->jK aB su k1 rest i1=some r->Ar Γ N f149 (.q [[none]] (D.bool r)) [1,1,1,0,1,0] (rest.length+1) (Fm aB su (i1:Int)):=by
 intro rest
 induction rest with
 |nil=>
  intro i1 bD h;rw[jK]at h;refine aX fun N1 dH cW=>?_
  exact((aY.ge aM.c bD).a [.hl 0 [1,3] [0,1]]).ex hΓ dH (gE h)
 |cons bR cM ih1=>
  intro i1 bD h;rw[jK]at h;refine aX fun N1 dH cW=>?_
  obtain⟨a1u,h644,h⟩:=aD h;have Wo:=(((aY.lt aM.c bD).l (bg aM.c 5 (dc bD) rfl)).g (kP h644))
  obtain⟨h645,h⟩|⟨h645,h⟩:=aO h
  ·have h:=aN h;subst h;exact((((Wo.r 3 h645).a [bF,bF,bF]).r 2 h645).T 1).ret hΓ
  ·have Wp:=(Wo.r 3 h645)
   obtain⟨h646,h⟩|⟨h646,h⟩:=aO h
   ·have Wq:=((((Wp.r 3 h646).b h645).b h646).b h645)
    obtain⟨h647,h⟩|⟨h647,h⟩:=aO h
    ·have h:=aN h;subst h;exact(Wq.b h647).ret hΓ
    ·obtain⟨FU,h649,h⟩:=aD h;obtain⟨B1,h651,h⟩:=aD h;obtain⟨h722,h⟩:=bh h;refine((((Wq.b h647).g (iO h649)).g (nU h651)).a [.cn [1,3,4,5,6,7,8] [0,1,2,3,4]]).lp hΓ (Ed hΓ (fun h=>?_) (bf h722) B1 0 rfl h);exact(aY.a [.cn [1,3,4] [0,1]]).ct hΓ cW (iS bD hm1) (ih1 (i1+1) (dn bD) h)
   ·obtain⟨FV,h724,h⟩:=aD h;obtain⟨B2,h726,h⟩:=aD h;obtain⟨h797,h⟩:=bh h;refine((((((((Wp.r 3 h646).b h645).b h646).b h645).F 1).g (iO h724)).g (nU h726)).a [.cn [1,3,4,5,6,7,8] [0,1,2,3,4]]).lp hΓ (Ee hΓ (fun h=>?_) (bf h797) B2 0 rfl h);exact(aY.a [.cn [1,3,4] [0,1]]).ct hΓ cW (iS bD hm1) (ih1 (i1+1) (dn bD) h)
def Fq(aB:aL)(su:aG)(fS:Int):St:=⟨[(1,D.ptr 0 0),(3,D.acc 1),(10,D.int .i64 fS)],[Ob.box (aL.c aB),Ob.row .uq 9 1 (su.map tx)]⟩
def Ft(aB:aL)(su:aG)(i4:Nat)(FW:aG)(fS:Int):St:=⟨[(1,D.ptr 0 0),(3,D.acc 1),(10,D.int .i64 (i4:Int)),(11,D.acc 2),(12,D.int .i64 fS)],[Ob.box (aL.c aB),Ob.row .uq 9 1 (su.map tx),Ob.row .uq 9 1 (FW.map tx)]⟩
theorem Eg(hΓ:Γ.nt=145){aB:aL}{su:aG}{i4:Nat}{FW:aG}{r:Bool}{k5:Option Bool}(hE5:k5=some r->Ax Γ N f149 (.q [[none]] (D.bool r)) [1,1,1,1,0,1,0,0,1,1] ⟨[(1,D.ptr 0 0),(3,D.acc 1),(10,D.int .i64 (i4:Int))],[Ob.box (aL.c aB),Ob.row .uq 9 1 (su.map tx)]⟩)(hm5:FW.length<=maxLen):∀(rest:aG) (i5:Nat),FW.drop i5=rest->kR aB su i4 FW k5 rest i5=some r->Ar Γ N f149 (.q [[none]] (D.bool r)) [1,1,1,1,0,1,0,0,1,0,0,1,1,1,0] (rest.length+1) (Ft aB su i4 FW (i5:Int)):=by
 intro rest
 induction rest with
 |nil=>
  intro i5 Xm h;rw[kR]at h;refine aX fun N5 hN5 hS5=>?_
  exact((aY.ge tx Xm).a [.hl 3 [1,3,10] [0,1]]).ex hΓ hN5 (hE5 h)
 |cons x5_ xs5 ih5=>
  intro i5 Xm h;rw[kR]at h;refine aX fun N5 hN5 hS5=>?_
  obtain⟨a25,h953,h⟩:=aD h;have Ws:=((((aY.lt tx Xm).i (mw tx 1 (dc Xm))).o 1 1 .uq (cP tx (dc Xm))).g (iP h953))
  obtain⟨h954,h⟩|⟨h954,h⟩:=aO h
  ·have h:=aN h;subst h;exact(Ws.b h954).ret hΓ
  ·exact((Ws.b h954).a [.cn [1,3,10,11,12] [0,1,2]]).ct hΓ hS5 (iS Xm hm5) (ih5 (i5+1) (dn Xm) h)
theorem Ef(hΓ:Γ.nt=145){aB:aL}{su:aG}{r:Bool}{k4:Option Bool}(hE4:k4=some r->Ax Γ N f149 (.q [[none]] (D.bool r)) [1,1,1,1,1] ⟨[(1,D.ptr 0 0)],[Ob.box (aL.c aB)]⟩)(hm4:aB.cR.length<=maxLen):∀(rest:eG) (i4:Nat),aB.cR.drop i4=rest->kQ aB su k4 rest i4=some r->Ar Γ N f149 (.q [[none]] (D.bool r)) [1,1,1,1,0,1,0] (rest.length+1) (Fq aB su (i4:Int)):=by
 intro rest
 induction rest with
 |nil=>
  intro i4 NH h;rw[kQ]at h;refine aX fun N4 Zx Zy=>?_
  exact((aY.ge Action.c NH).a [.hl 0 [1] [0]]).ex hΓ Zx (hE4 h)
 |cons Zf xs4 ih4=>
  intro i4 NH h;rw[kQ]at h;refine aX fun N4 Zx Zy=>?_
  obtain⟨a22,h927,h⟩:=aD h;have Wt:=(((aY.lt Action.c NH).l (bg Action.c 3 (dc NH) rfl)).g (Bd h927))
  obtain⟨h928,h⟩|⟨h928,h⟩:=aO h
  ·have h:=aN h;subst h;exact(Wt.b h928).ret hΓ
  ·obtain⟨FW,h930,h⟩:=aD h;obtain⟨h955,h⟩:=bh h;refine((((Wt.b h928).l (bg Action.c 3 (dc NH) rfl)).g (mi h930)).a [.cn [1,3,10,11,12] [0,1,2]]).lp hΓ (Eg hΓ (fun h=>?_) (bf h955) FW 0 rfl h);exact(aY.a [.cn [1,3,10] [0,1]]).ct hΓ Zy (iS NH hm4) (ih4 (i4+1) (dn NH) h)
theorem ff{aB:aL}{r:Bool}(h:kX aB=some r):Good prog 149 [D.agg (aL.c aB)] (D.bool r):=by
 refine gd func149 [[none]] 145 fun hr Γ hΓ=>?_
 rw[kX]at h;obtain⟨y1,h2,h⟩:=aD h;obtain⟨h3,h⟩|⟨h3,h⟩:=aO h
 ·have h:=aN h;subst h;exact(((aY.g (p7 h2)).r 5 h3).T 13).ret hΓ
 ·obtain⟨y4,h5,h⟩:=aD h;have Wu:=((((aY.g (p7 h2)).r 3 h3).g (gz h5)).r 2 h3)
  obtain⟨h6,h⟩|⟨h6,h⟩:=aO h
  ·have h:=aN h;subst h;exact((Wu.r 6 h6).T 7).ret hΓ
  ·obtain⟨y7,h8,h⟩:=aD h;have Wv:=(((Wu.r 4 h6).g (gz h8)).r 2 h6)
   obtain⟨h9,h⟩|⟨h9,h⟩:=aO h
   ·have h:=aN h;subst h;exact((Wv.r 6 h9).T 1).ret hΓ
   ·obtain⟨FN,h11,h⟩:=aD h;have Ww:=(((Wv.r 4 h9).g (gz h11)).r 2 h9)
    obtain⟨h12,h⟩|⟨h12,h⟩:=aO h
    ·have h:=aN h;subst h;exact(Ww.b h12).ret hΓ
    ·obtain⟨su,h14,h⟩:=aD h;refine(((Ww.b h12).g (iO h14)).a [.cn [1,3,4] [0,1]]).lp hΓ (Ec hΓ (fun h=>?_) (by have:=(kj.sl (kj.agg (hr _ (aE (i:=0) rfl)) (.sl (aB.conds.map aM.c)) (by simp))).1;simpa using this) aB.conds 0 rfl h);refine(aY.a [.cn [1,3,10] [0,1]]).lp hΓ (Ef hΓ (fun h=>?_) (by have:=(kj.sl (kj.agg (hr _ (aE (i:=0) rfl)) (.sl (aB.cR.map Action.c)) (by simp))).1;simpa using this) aB.cR 0 rfl h);obtain⟨a26,h957,h⟩:=aD h;cases h;exact(aY.g (Bg h957)).ret hΓ
def nJ(aB:Bytes)(aZ:Bytes)(k1:Int->aG->Option aG):Nat->Int->Int->aG->Option aG
 |0,_,_,_=>none
 |n1+1,cu,oa,bN=>(bif decide ((IntKind.i64.wrap (oa+(aZ.length:Int)):Int)<=(aB.length:Int))then((Ay aB.length (some (D.int .i64 oa)) (some (D.int .i64 (IntKind.i64.wrap (oa+(aZ.length:Int)))))).bind fun p=>(fun l49 u50=>(bif ((aB.take u50).drop l49:Bytes)==aZ then((Ay aB.length (some (D.int .i64 cu)) (some (D.int .i64 oa))).bind fun p=>(fun ZY Zc=>(bif room ((bN.map tx).length+([[D.str ((aB.take Zc).drop ZY)]]).length) 16 then(nJ aB aZ k1 n1 (IntKind.i64.wrap (oa+(aZ.length:Int))) (IntKind.i64.wrap (oa+(aZ.length:Int))) (bN++([(aB.take Zc).drop ZY])))else none)) p.1 p.2)else(nJ aB aZ k1 n1 cu (IntKind.i64.wrap (oa+1)) bN))) p.1 p.2)else(k1 cu bN))
def jd(aB:Bytes)(aZ:Bytes):Option aG:=(bif (aZ:Bytes)==([])then(bif room (([]:List aK).length+([[D.str aB]]).length) 16 then(some (([]:aG)++([aB])))else none)else(nJ aB aZ (fun(xX:Int) (cK:aG)=>((Ay aB.length (some (D.int .i64 xX)) none).bind fun p=>(fun l57 u58=>(bif room ((cK.map tx).length+([[D.str ((aB.take u58).drop l57)]]).length) 16 then(some (cK++([(aB.take u58).drop l57])))else none)) p.1 p.2)) fuel 0 0 ([]:aG)))
def AJ(aB:Bytes)(aZ:Bytes)(cu:Int)(oa:Int)(W2:List aK):St:=⟨[(0,D.str aB),(1,D.str aZ),(5,D.acc 0),(6,D.int .i64 cu),(7,D.int .i64 oa)],[Ob.row .uq 9 1 W2]⟩
theorem Fu(hΓ:Γ.nt=51){aB:Bytes}{aZ:Bytes}{r:aG}{k1:Int->aG->Option aG}(gE:∀(xX:Int) (cK:aG),k1 xX cK=some r->Ax Γ N f240 (.q [[some (9,1)]] (D.fr 9 1 (r.map tx))) [1,1,1,1,1] ⟨[(0,D.str aB),(5,D.acc 0),(6,D.int .i64 xX)],[Ob.row .uq 9 1 (cK.map tx)]⟩):∀(n1:Nat) (cu:Int) (oa:Int) (bN:aG),nJ aB aZ k1 n1 cu oa bN=some r->Ar Γ N f240 (.q [[some (9,1)]] (D.fr 9 1 (r.map tx))) [1,1,1,1,0,1,0] n1 (AJ aB aZ cu oa (bN.map tx)):=by
 intro n
 induction n with
 |zero=>intro cu oa bN h;simp[nJ]at h
 |succ n1 ih1=>
  intro cu oa bN h;rw[nJ]at h;refine aX fun N1 dH cW=>?_
  obtain⟨h48,h⟩|⟨h48,h⟩:=aO h
  ·obtain⟨⟨l49,u50⟩,h51,h⟩:=aD h;have kW:=(((aY.b h48).w h51).a [.cut l49 u50])
   obtain⟨h52,h⟩|⟨h52,h⟩:=aO h
   ·obtain⟨⟨ZY,Zc⟩,h55,h⟩:=aD h;obtain⟨h56,h⟩:=bh h;exact((((kW.b h52).w h55).w (bz h56)).a [.cut ZY Zc,.cn [0,1,5,6,7] [2]]).cs hΓ cW (AJ aB aZ (IntKind.i64.wrap (oa+(aZ.length:Int))) (IntKind.i64.wrap (oa+(aZ.length:Int))) ((bN.map tx)++([[D.str ((aB.take Zc).drop ZY)]]))) (by first| (simp only[mA]<;>rfl)| (simp only[mA,aF.c,aa.c,aM.c,Action.c,aL.c,aW.c,fH.c,ah.c,Node.c,aI.c,fP.c]<;>rfl)) (ih1 (IntKind.i64.wrap (oa+(aZ.length:Int))) (IntKind.i64.wrap (oa+(aZ.length:Int))) (bN++([(aB.take Zc).drop ZY])) h)
   ·exact((kW.b h52).a [.cn [0,1,5,6,7] [0]]).cf hΓ cW (ih1 cu (IntKind.i64.wrap (oa+1)) bN h)
  ·exact((aY.b h48).a [.hl 0 [0,5,6] [0]]).ex hΓ dH (gE cu bN h)
theorem fR{aB:Bytes}{aZ:Bytes}{r:aG}(h:jd aB aZ=some r):Good prog 240 [D.str aB,D.str aZ] (D.fr 9 1 (r.map tx)):=by
 refine gd func240 [[some (9,1)]] 51 fun hr Γ hΓ=>?_
 rw[jd]at h;obtain⟨h1,h⟩|⟨h1,h⟩:=aO h
 ·obtain⟨h2,h⟩:=bh h;cases h;exact(((aY.a [.H8 4]).b h1).w (bz h2)).rts hΓ (D.fr 9 1 (([]:List aK)++([[D.str aB]]))) (by first|rfl| (simp only[mA]<;>rfl))
 ·refine(((aY.a [.H8 4]).b h1).a [.cn [0,1,5,6,7] [1]]).lp hΓ (Fu hΓ (fun xX cK h=>?_) fuel 0 0 ([]:aG) h);obtain⟨⟨l57,u58⟩,h59,h⟩:=aD h;obtain⟨h60,h⟩:=bh h;cases h;exact(((aY.w h59).w (bz h60)).a [.cut l57 u58]).rts hΓ (D.fr 9 1 ((cK.map tx)++([[D.str ((aB.take u58).drop l57)]]))) (by first|rfl| (simp only[mA]<;>rfl)| (simp only[mA,br]<;>rfl))
def gJ(k1:Option Bytes):Nat->Int->Bytes->Option Bytes
 |0,_,_=>none
 |n1+1,CC,kB=>(bif decide (0<=(CC:Int))&&decide (0<(10:Int))then(bif decide (([UInt8.ofNat (IntKind.u8.wrap (IntKind.i64.wrap (48+((CC:Int)%10)))).toNat]:Bytes).length+(kB:Bytes).length<=maxLen)then(bif decide (0<=(CC:Int))&&decide (0<(10:Int))then(bif ((CC:Int)/10:Int)==0 then(some (([UInt8.ofNat (IntKind.u8.wrap (IntKind.i64.wrap (48+((CC:Int)%10)))).toNat])++kB))else(gJ k1 n1 ((CC:Int)/10) (([UInt8.ofNat (IntKind.u8.wrap (IntKind.i64.wrap (48+((CC:Int)%10)))).toNat])++kB)))else none)else none)else none)
def fe:Nat->Int->Option Bytes
 |0,_=>none
 |m_+1,aB=>(bif (aB:Int)==(-9223372036854775808)then(some ([45,57,50,50,51,51,55,50,48,51,54,56,53,52,55,55,53,56,48,56]))else(bif decide ((aB:Int)<0)then((fe m_ (IntKind.i64.wrap (0-aB))).bind fun y3=>(bif decide (([45]:Bytes).length+(y3:Bytes).length<=maxLen)then(some (([45])++y3))else none))else(gJ none fuel aB ([]))))
def Am(CC:Int)(kB:Bytes):St:=⟨[(0,D.int .i64 CC),(3,D.str kB)],[]⟩
theorem zn(hΓ:Γ.nt=25){r:Bytes}{k1:Option Bytes}(gE:k1=some r->Ax Γ N f95 (.q [[none]] (D.str r)) [1,1,1,1,0,0] ⟨[],[]⟩):∀(n1:Nat) (CC:Int) (kB:Bytes),gJ k1 n1 CC kB=some r->Ar Γ N f95 (.q [[none]] (D.str r)) [1,1,1,1,0] n1 (Am CC kB):=by
 intro n
 induction n with
 |zero=>intro CC kB h;simp[gJ]at h
 |succ n1 ih1=>
  intro CC kB h;rw[gJ]at h;refine aX fun N1 dH cW=>?_
  obtain⟨h14,h⟩:=bh h;obtain⟨h15,h⟩:=bh h;obtain⟨h16,h⟩:=bh h;have kW:=(((aY.w (Kr .i64 h14)).w (bf h15)).w (Kr .i64 h16))
  obtain⟨h17,h⟩|⟨h17,h⟩:=aO h
  ·cases h;exact(kW.b h17).rts hΓ (D.str (([UInt8.ofNat (IntKind.u8.wrap (IntKind.i64.wrap (48+((CC:Int)%10)))).toNat])++kB)) (by first|rfl| (simp only[mA]<;>rfl))
  ·exact((kW.b h17).a [.cn [0,3] []]).cf hΓ cW (ih1 ((CC:Int)/10) (([UInt8.ofNat (IntKind.u8.wrap (IntKind.i64.wrap (48+((CC:Int)%10)))).toNat])++kB) h)
theorem yy{m_:Nat}(ihR:∀ {aB:Int} {r:Bytes},fe m_ aB=some r->Good prog 95 [D.int .i64 aB] (D.str r)){aB:Int}{r:Bytes}(h:fe (m_+1) aB=some r):Good prog 95 [D.int .i64 aB] (D.str r):=by
 refine gd func95 [[none]] 25 fun hr Γ hΓ=>?_
 rw[fe]at h;obtain⟨h1,h⟩|⟨h1,h⟩:=aO h
 ·cases h;exact(aY.b h1).ret hΓ
 ·obtain⟨h2,h⟩|⟨h2,h⟩:=aO h
  ·obtain⟨y3,h4,h⟩:=aD h;obtain⟨h5,h⟩:=bh h;cases h;exact((((aY.b h1).b h2).g (ihR h4)).w (bf h5)).rts hΓ (D.str (([45])++y3)) (by first|rfl| (simp only[mA]<;>rfl))
  ·refine(((aY.b h1).b h2).a [.cn [0,3] []]).lp hΓ (zn hΓ (fun h=>?_) fuel aB ([]) h);cases h
theorem tB:∀(m_:Nat) {aB:Int} {r:Bytes},fe m_ aB=some r->Good prog 95 [D.int .i64 aB] (D.str r)
 |0,_,_,h=>by cases h
 |m_+1,_,_,h=>yy (fun h=>tB m_ h) h
def kO(aB:Int):Option Bytes:=fe fuel aB
theorem qO{aB:Int}{r:Bytes}(h:kO aB=some r):Good prog 95 [D.int .i64 aB] (D.str r):=tB fuel h
def gW(aB:Bytes)(k1:Int->Option (Int×Bool)):Nat->Int->Int->Option (Int×Bool)
 |0,_,_=>none
 |n1+1,oZ,Ib=>(bif decide ((Ib:Int)<(aB.length:Int))then((iY aB Ib).bind fun Zq=>(bif decide ((Zq.toNat:Int)<48)then(some (0,false))else(bif decide ((Zq.toNat:Int)>57)then(some (0,false))else(gW aB k1 n1 (IntKind.i64.wrap ((IntKind.i64.wrap (10*oZ))+(IntKind.i64.wrap (IntKind.u8.wrap (Zq.toNat-48))))) (IntKind.i64.wrap (Ib+1))))))else(k1 oZ))
def k7(aB:Bytes):Option (Int×Bool):=((jM (aB.length:Int) 1 4).bind fun y1=>(bif !(y1)then(some (0,false))else(gW aB (fun(Qh:Int)=>((kO Qh).bind fun GH=>(bif !((GH:Bytes)==aB)then(some (0,false))else(some (Qh,true))))) fuel 0 0)))
def Dp(aB:Bytes)(oZ:Int)(Ib:Int):St:=⟨[(0,D.str aB),(4,D.int .i64 oZ),(5,D.int .i64 Ib)],[]⟩
theorem Cy(hΓ:Γ.nt=39){aB:Bytes}{r:Int×Bool}{k1:Int->Option (Int×Bool)}(gE:∀(Qh:Int),k1 Qh=some r->Ax Γ N f234 (.q [[none],[none]] (D.iQ [D.int .i64 r.1,D.bool r.2])) [1,1,1,1] ⟨[(0,D.str aB),(4,D.int .i64 Qh)],[]⟩):∀(n1:Nat) (oZ:Int) (Ib:Int),gW aB k1 n1 oZ Ib=some r->Ar Γ N f234 (.q [[none],[none]] (D.iQ [D.int .i64 r.1,D.bool r.2])) [1,1,1,0,1,0] n1 (Dp aB oZ Ib):=by
 intro n
 induction n with
 |zero=>intro oZ Ib h;simp[gW]at h
 |succ n1 ih1=>
  intro oZ Ib h;rw[gW]at h;refine aX fun N1 dH cW=>?_
  obtain⟨h24,h⟩|⟨h24,h⟩:=aO h
  ·obtain⟨Zq,h26,h⟩:=aD h;have kx:=((aY.b h24).c h26)
   obtain⟨h27,h⟩|⟨h27,h⟩:=aO h
   ·cases h;exact((kx.r 5 h27).T 1).ret hΓ
   ·have lJ:=(((kx.r 3 h27).c h26).r 2 h27)
    obtain⟨h28,h⟩|⟨h28,h⟩:=aO h
    ·cases h;exact(lJ.b h28).ret hΓ
    ·exact(((lJ.b h28).c h26).a [.cn [0,4,5] []]).cf hΓ cW (ih1 (IntKind.i64.wrap ((IntKind.i64.wrap (10*oZ))+(IntKind.i64.wrap (IntKind.u8.wrap (Zq.toNat-48))))) (IntKind.i64.wrap (Ib+1)) h)
  ·exact((aY.b h24).a [.hl 0 [0,4] []]).ex hΓ dH (gE oZ h)
theorem qw{aB:Bytes}{r:Int×Bool}(h:k7 aB=some r):Good prog 234 [D.str aB] (D.iQ [D.int .i64 r.1,D.bool r.2]):=by
 refine gd func234 [[none],[none]] 39 fun hr Γ hΓ=>?_
 rw[k7]at h;obtain⟨y1,h2,h⟩:=aD h;obtain⟨h3,h⟩|⟨h3,h⟩:=aO h
 ·cases h;exact((aY.g (gz h2)).b h3).ret hΓ
 ·refine(((aY.g (gz h2)).b h3).a [.cn [0,4,5] []]).lp hΓ (Cy hΓ (fun Qh h=>?_) fuel 0 0 h);obtain⟨GH,h30,h⟩:=aD h;obtain⟨h31,h⟩|⟨h31,h⟩:=aO h
  ·cases h;exact((aY.g (qO h30)).b h31).ret hΓ
  ·cases h;exact((aY.g (qO h30)).b h31).ret hΓ
def yP(aB:Int):Option Bytes:=(bif (aB:Int)==3 then(some ([32,61,32]))else(bif (aB:Int)==4 then(some ([32,33,61,32]))else(some ([32,60,32]))))
theorem Dw{aB:Int}{r:Bytes}(h:yP aB=some r):Good prog 269 [D.int .i64 aB] (D.str r):=by
 refine gd func269 [[none]] 8 fun hr Γ hΓ=>?_
 rw[yP]at h;obtain⟨h1,h⟩|⟨h1,h⟩:=aO h
 ·cases h;exact(aY.b h1).ret hΓ
 ·obtain⟨h2,h⟩|⟨h2,h⟩:=aO h
  ·cases h;exact((aY.b h1).b h2).ret hΓ
  ·cases h;exact((aY.b h1).b h2).ret hΓ
def xF(aB:Bytes):Option (Bytes×aG×Bool):=((jd aB ([40])).bind fun y1=>(bif (((y1.map tx).length:Int):Int) != 2 then(some ([],[],false))else((iY y1 1).bind fun x4=>(bif ((x4.length:Int):Int)==0 then(some ([],[],false))else((iY x4 (IntKind.i64.wrap ((x4.length:Int)-1))).bind fun b7=>(bif (b7.toNat:Int) != 41 then(some ([],[],false))else((Ay x4.length none (some (D.int .i64 (IntKind.i64.wrap ((x4.length:Int)-1))))).bind fun p=>(fun l10 u11=>(bif ((x4.take u11).drop l10:Bytes)==([])then((iY y1 0).bind fun x14=>(some (x14,([]:aG),true)))else((iY y1 0).bind fun x16=>((jd ((x4.take u11).drop l10) ([44])).bind fun U8=>(some (x16,U8,true)))))) p.1 p.2)))))))
theorem w5{aB:Bytes}{r:Bytes×aG×Bool}(h:xF aB=some r):Good prog 290 [D.str aB] (D.iQ [D.str r.1,D.fr 9 1 (r.2.1.map tx),D.bool r.2.2]):=by
 refine gd func290 [[none],[some (9,1)],[none]] 51 fun hr Γ hΓ=>?_
 rw[xF]at h;obtain⟨y1,h2,h⟩:=aD h;have rj:=((aY.g (fR h2)).a [.n 19])
 obtain⟨h3,h⟩|⟨h3,h⟩:=aO h
 ·cases h;exact((rj.r 6 h3).T 12).ret hΓ
 ·obtain⟨x4,h5,h⟩:=aD h;have kW:=(((((rj.r 2 h3).i (iV tx 1 h5)).b h3).o 1 1 .uq (cP tx (fQ h5))).r 3 h3)
  obtain⟨h6,h⟩|⟨h6,h⟩:=aO h
  ·cases h;exact((kW.r 11 h6).T 1).ret hΓ
  ·obtain⟨b7,h8,h⟩:=aD h;have kx:=(((((((((((kW.r 2 h6).i (iV tx 1 h5)).b h6).o 1 1 .uq (cP tx (fQ h5))).r 2 h6).i (iV tx 1 h5)).b h6).o 1 1 .uq (cP tx (fQ h5))).r 3 h6).c h8).r 2 h6)
   obtain⟨h9,h⟩|⟨h9,h⟩:=aO h
   ·cases h;exact(kx.b h9).ret hΓ
   ·obtain⟨⟨l10,u11⟩,h12,h⟩:=aD h;have lJ:=((((((((kx.b h9).a [.n 8]).i (iV tx 1 h5)).o 1 1 .uq (cP tx (fQ h5))).i (iV tx 1 h5)).o 1 1 .uq (cP tx (fQ h5))).w h12).a [.cut l10 u11])
    obtain⟨h13,h⟩|⟨h13,h⟩:=aO h
    ·obtain⟨x14,h15,h⟩:=aD h;cases h;exact(((lJ.b h13).i (iV tx 1 h15)).o 1 1 .uq (cP tx (fQ h15))).ret hΓ
    ·obtain⟨x16,h17,h⟩:=aD h;obtain⟨U8,h19,h⟩:=aD h;cases h;exact(((((lJ.b h13).a [.n 5]).i (iV tx 1 h17)).o 1 1 .uq (cP tx (fQ h17))).g (fR h19)).ret hΓ
def iI(aB:Bytes):Option (aF×Bool):=((xF aB).bind fun y1=>(bif !(y1.2.2)then(some ((⟨[],[]⟩:aF),false))else((gA (⟨y1.1,y1.2.1⟩:aF)).bind fun y4=>(bif !(y4)then(some ((⟨[],[]⟩:aF),false))else(some ((⟨y1.1,y1.2.1⟩:aF),true))))))
theorem iT{aB:Bytes}{r:aF×Bool}(h:iI aB=some r):Good prog 270 [D.str aB] (D.iQ [D.agg [D.str r.1.rel,D.fr 9 1 (r.1.args.map tx)],D.bool r.2]):=by
 refine gd func270 [[none,some (9,1)],[none]] 26 fun hr Γ hΓ=>?_
 rw[iI]at h;obtain⟨y1,h2,h⟩:=aD h;obtain⟨h3,h⟩|⟨h3,h⟩:=aO h
 ·cases h;exact(((aY.g (w5 h2)).r 4 h3).T 1).ret hΓ
 ·obtain⟨y4,h5,h⟩:=aD h;have rj:=(((((aY.g (w5 h2)).r 2 h3).a [.d (D.bool y4)]).w (show Good prog 201 [D.agg [D.str y1.1,D.sl (y1.2.1.map tx)]] (D.bool y4)from by first| (simpa only[bP,bO,cA,br,bt]using gK h5)|exact gK h5| (have t:=gK h5;simp only[bP,br,bt,aF.c]at t;exact t))).r 2 h3)
  obtain⟨h6,h⟩|⟨h6,h⟩:=aO h
  ·cases h;exact(rj.b h6).ret hΓ
  ·cases h;exact(rj.b h6).ret hΓ
def jw(aB:Bytes)(k1:Option (aM×Bool)):Nat->Int->Option (aM×Bool)
 |0,_=>none
 |n1+1,oZ=>(bif decide ((oZ:Int)<=5)then((yP oZ).bind fun yY=>((jd aB yY).bind fun vg=>(bif (((vg.map tx).length:Int):Int)==2 then((iY vg 0).bind fun x33=>((iY vg 1).bind fun x35=>((mH (⟨oZ,(⟨[],[]⟩:aF),x33,x35⟩:aM)).bind fun Ig=>(bif Ig then(some ((⟨oZ,(⟨[],[]⟩:aF),x33,x35⟩:aM),true))else(jw aB k1 n1 (IntKind.i64.wrap (oZ+1)))))))else(jw aB k1 n1 (IntKind.i64.wrap (oZ+1))))))else(k1))
def uO(aB:Bytes):Option (aM×Bool):=(jw aB (bif decide (((aB.length:Int):Int)>4)then((Ay aB.length none (some (D.int .i64 4))).bind fun p=>(fun l41 u42=>(bif ((aB.take u42).drop l41:Bytes)==([110,111,116,32])then((Ay aB.length (some (D.int .i64 4)) none).bind fun p=>(fun l45 u46=>((iI ((aB.take u46).drop l45)).bind fun y48=>(bif !(y48.2)then(some ((⟨0,(⟨[],[]⟩:aF),[],[]⟩:aM),false))else(some ((⟨2,y48.1,[],[]⟩:aM),true))))) p.1 p.2)else((iI aB).bind fun y51=>(bif !(y51.2)then(some ((⟨0,(⟨[],[]⟩:aF),[],[]⟩:aM),false))else(some ((⟨1,y51.1,[],[]⟩:aM),true)))))) p.1 p.2)else((iI aB).bind fun FT=>(bif !(FT.2)then(some ((⟨0,(⟨[],[]⟩:aF),[],[]⟩:aM),false))else(some ((⟨1,FT.1,[],[]⟩:aM),true))))) fuel 3)
def Cw(aB:Bytes)(oZ:Int):St:=⟨[(0,D.str aB),(2,D.ptr 0 0),(4,D.int .i64 oZ)],[Ob.box [D.int .i64 0,D.str ([]),D.nil,D.str ([]),D.str ([])]]⟩
theorem Bf(hΓ:Γ.nt=55){aB:Bytes}{r:aM×Bool}{k1:Option (aM×Bool)}(gE:k1=some r->Ax Γ N f255 (.q [[none,none,some (9,1),none,none],[none]] (D.iQ [D.agg [D.int .i64 r.1.kind,D.str r.1.pat.rel,D.fr 9 1 (r.1.pat.args.map tx),D.str r.1.left,D.str r.1.right],D.bool r.2])) [1,1] ⟨[(0,D.str aB),(2,D.ptr 0 0)],[Ob.box [D.int .i64 0,D.str ([]),D.nil,D.str ([]),D.str ([])]]⟩):∀(n1:Nat) (oZ:Int),jw aB k1 n1 oZ=some r->Ar Γ N f255 (.q [[none,none,some (9,1),none,none],[none]] (D.iQ [D.agg [D.int .i64 r.1.kind,D.str r.1.pat.rel,D.fr 9 1 (r.1.pat.args.map tx),D.str r.1.left,D.str r.1.right],D.bool r.2])) [1,0,1,0] n1 (Cw aB oZ):=by
 intro n
 induction n with
 |zero=>intro oZ h;simp[jw]at h
 |succ n1 ih1=>
  intro oZ h;rw[jw]at h;refine aX fun N1 dH cW=>?_
  obtain⟨h27,h⟩|⟨h27,h⟩:=aO h
  ·obtain⟨yY,h29,h⟩:=aD h;obtain⟨vg,h31,h⟩:=aD h;have kx:=(((aY.b h27).g (Dw h29)).g (fR h31))
   obtain⟨h32,h⟩|⟨h32,h⟩:=aO h
   ·obtain⟨x33,h34,h⟩:=aD h;obtain⟨x35,h36,h⟩:=aD h;obtain⟨Ig,h38,h⟩:=aD h;have lJ:=((((((((kx.b h32).a [.n 9]).i (iV tx 1 h34)).o 1 1 .uq (cP tx (fQ h34))).i (iV tx 1 h36)).o 1 1 .uq (cP tx (fQ h36))).a [.d (D.bool Ig)]).w (show Good prog 209 [D.agg [D.int .i64 oZ,D.str ([]),D.sl ([]),D.str x33,D.str x35]] (D.bool Ig)from by first| (simpa only[bP,bO,cA,br,bt]using kP h38)|exact kP h38| (have t:=kP h38;simp only[bP,br,bt,aM.c]at t;exact t)))
    obtain⟨h39,h⟩|⟨h39,h⟩:=aO h
    ·cases h;exact(lJ.b h39).ret hΓ
    ·exact((lJ.b h39).a [.cn [0,2,4] [0]]).cf hΓ cW (ih1 (IntKind.i64.wrap (oZ+1)) h)
   ·exact((kx.b h32).a [.cn [0,2,4] [0]]).cf hΓ cW (ih1 (IntKind.i64.wrap (oZ+1)) h)
  ·exact((aY.b h27).a [.hl 0 [0,2] [0]]).ex hΓ dH (gE h)
theorem Ao{aB:Bytes}{r:aM×Bool}(h:uO aB=some r):Good prog 255 [D.str aB] (D.iQ [D.agg [D.int .i64 r.1.kind,D.str r.1.pat.rel,D.fr 9 1 (r.1.pat.args.map tx),D.str r.1.left,D.str r.1.right],D.bool r.2]):=by
 refine gd func255 [[none,none,some (9,1),none,none],[none]] 55 fun hr Γ hΓ=>?_
 rw[uO]at h;refine(aY.a [.cn [0,2,4] [0]]).lp hΓ (Bf hΓ (fun h=>?_) fuel 3 h);obtain⟨h40,h⟩|⟨h40,h⟩:=aO h
 ·obtain⟨⟨l41,u42⟩,h43,h⟩:=aD h;have tf:=((((aY.r 2 h40).w h43).a [.cut l41 u42]).r 2 h40)
  obtain⟨h44,h⟩|⟨h44,h⟩:=aO h
  ·obtain⟨⟨l45,u46⟩,h47,h⟩:=aD h;obtain⟨y48,h49,h⟩:=aD h;have xQ:=((((tf.b h44).w h47).a [.cut l45 u46]).g (iT h49))
   obtain⟨h50,h⟩|⟨h50,h⟩:=aO h
   ·cases h;exact(xQ.b h50).ret hΓ
   ·cases h;exact(xQ.b h50).ret hΓ
  ·obtain⟨y51,h52,h⟩:=aD h;have Av:=((tf.b h44).g (iT h52))
   obtain⟨h53,h⟩|⟨h53,h⟩:=aO h
   ·cases h;exact(Av.b h53).ret hΓ
   ·cases h;exact(Av.b h53).ret hΓ
 ·obtain⟨FT,h55,h⟩:=aD h;have GX:=(((aY.r 4 h40).F 1).g (iT h55))
  obtain⟨h56,h⟩|⟨h56,h⟩:=aO h
  ·cases h;exact(GX.b h56).ret hΓ
  ·cases h;exact(GX.b h56).ret hΓ
def vV(aB:Bytes):Option (Action×Bool):=(bif (aB:Bytes)==([115,116,111,112])then(some ((⟨3,(⟨[],[]⟩:aF)⟩:Action),true))else((jd aB ([32])).bind fun y2=>(bif (((y2.map tx).length:Int):Int) != 2 then(some ((⟨0,(⟨[],[]⟩:aF)⟩:Action),false))else((iY y2 0).bind fun x5=>(bif !((x5:Bytes)==([97,100,100]))then(bif !((x5:Bytes)==([100,114,111,112]))then(some ((⟨0,(⟨[],[]⟩:aF)⟩:Action),false))else((iY y2 1).bind fun x9=>((iI x9).bind fun Mr=>(bif (x5:Bytes)==([97,100,100])then(some ((⟨1,Mr.1⟩:Action),Mr.2))else(some ((⟨2,Mr.1⟩:Action),Mr.2))))))else((iY y2 1).bind fun x14=>((iI x14).bind fun Jj=>(bif (x5:Bytes)==([97,100,100])then(some ((⟨1,Jj.1⟩:Action),Jj.2))else(some ((⟨2,Jj.1⟩:Action),Jj.2))))))))))
theorem Bi{aB:Bytes}{r:Action×Bool}(h:vV aB=some r):Good prog 256 [D.str aB] (D.iQ [D.agg [D.int .i64 r.1.kind,D.str r.1.pat.rel,D.fr 9 1 (r.1.pat.args.map tx)],D.bool r.2]):=by
 refine gd func256 [[none,none,some (9,1)],[none]] 45 fun hr Γ hΓ=>?_
 rw[vV]at h;obtain⟨h1,h⟩|⟨h1,h⟩:=aO h
 ·cases h;exact(aY.b h1).ret hΓ
 ·obtain⟨y2,h3,h⟩:=aD h;have rj:=((aY.b h1).g (fR h3))
  obtain⟨h4,h⟩|⟨h4,h⟩:=aO h
  ·cases h;exact((((rj.r 5 h4).a [bF,bF,bF,bF]).r 2 h4).T 1).ret hΓ
  ·obtain⟨x5,h6,h⟩:=aD h;have kW:=(((((rj.r 2 h4).i (iV tx 1 h6)).b h4).o 1 1 .uq (cP tx (fQ h6))).r 2 h4)
   obtain⟨h7,h⟩|⟨h7,h⟩:=aO h
   ·have kx:=((((((((kW.r 2 h7).i (iV tx 1 h6)).b h7).o 1 1 .uq (cP tx (fQ h6))).b h7).b h4).b h7).b h4)
    obtain⟨h8,h⟩|⟨h8,h⟩:=aO h
    ·cases h;exact(kx.b h8).ret hΓ
    ·obtain⟨x9,h10,h⟩:=aD h;obtain⟨Mr,h12,h⟩:=aD h;have lJ:=((((((kx.b h8).i (iV tx 1 h10)).o 1 1 .uq (cP tx (fQ h10))).g (iT h12)).i (iV tx 1 h6)).o 1 1 .uq (cP tx (fQ h6)))
     obtain⟨h13,h⟩|⟨h13,h⟩:=aO h
     ·cases h;exact(lJ.b h13).ret hΓ
     ·cases h;exact(lJ.b h13).ret hΓ
   ·obtain⟨x14,h15,h⟩:=aD h;obtain⟨Jj,h17,h⟩:=aD h;have tf:=((((((((((kW.r 4 h7).b h4).b h7).b h4).F 1).i (iV tx 1 h15)).o 1 1 .uq (cP tx (fQ h15))).g (iT h17)).i (iV tx 1 h6)).o 1 1 .uq (cP tx (fQ h6)))
    obtain⟨h18,h⟩|⟨h18,h⟩:=aO h
    ·cases h;exact(tf.b h18).ret hΓ
    ·cases h;exact(tf.b h18).ret hΓ
def nZ(aB:aL)(cY:Bytes)(y1:aG)(k1:aq->Option (aL×Bool)):aG->Nat->aq->Option (aL×Bool)
 | [],i1,cm=>(k1 cm)
 |bR::cM,i1,cm=>((uO bR).bind fun xY=>(bif !(xY.2)then(some ((⟨aB.name,aB.prio,cm,[]⟩:aL),false))else(bif room ((cm.map aM.c).length+([[D.int .i64 xY.1.kind,D.str xY.1.pat.rel,D.sl (xY.1.pat.args.map tx),D.str xY.1.left,D.str xY.1.right]]).length) 80 then(nZ aB cY y1 k1 cM (i1+1) (cm++([xY.1])))else none)))
def nc(aB:aL)(mC:aq)(CR:aG)(k2:eG->Option (aL×Bool)):aG->Nat->eG->Option (aL×Bool)
 | [],i2,mE=>(k2 mE)
 |mF::th,i2,mE=>((vV mF).bind fun B3=>(bif !(B3.2)then(some ((⟨aB.name,aB.prio,mC,mE⟩:aL),false))else(bif room ((mE.map Action.c).length+([[D.int .i64 B3.1.kind,D.str B3.1.pat.rel,D.sl (B3.1.pat.args.map tx)]]).length) 48 then(nc aB mC CR k2 th (i2+1) (mE++([B3.1])))else none)))
def xH(aB:aL)(aZ:Bytes)(cY:Bytes):Option (aL×Bool):=((jd aZ ([32,38,32])).bind fun y1=>(bif decide (y1.length<=maxLen)then(nZ aB cY y1 (fun(mC:aq)=>((jd cY ([32,38,32])).bind fun CR=>(bif decide (CR.length<=maxLen)then(nc aB mC CR (fun(yV:eG)=>((kX (⟨aB.name,aB.prio,mC,yV⟩:aL)).bind fun y77=>(some ((⟨aB.name,aB.prio,mC,yV⟩:aL),y77)))) CR 0 ([]:eG))else none))) y1 0 ([]:aq))else none))
def xq(aB:aL)(cY:Bytes)(y1:aG)(W0:List aK)(fS:Int):St:=⟨[(2,D.str cY),(3,D.ptr 0 0),(6,D.ptr 1 0),(8,D.acc 2),(9,D.int .i64 fS)],[Ob.box [D.str aB.name,D.int .i64 aB.prio,D.acc 3,D.nil],Ob.box [D.str ([]),D.int .i64 0,D.nil,D.nil],Ob.row .uq 9 1 (y1.map tx),Ob.row .uq 47 5 W0]⟩
theorem Dz(hΓ:Γ.nt=69){aB:aL}{cY:Bytes}{y1:aG}{r:aL×Bool}{k1:aq->Option (aL×Bool)}(gE:∀(mC:aq),k1 mC=some r->Ax Γ N f241 (.q [[none,none,some (47,5),some (167,3)],[none]] (D.iQ [D.agg [D.str r.1.name,D.int .i64 r.1.prio,D.fr 47 5 (r.1.conds.map aM.c),D.fr 167 3 (r.1.cR.map Action.c)],D.bool r.2])) [1,1,1] ⟨[(2,D.str cY),(3,D.ptr 0 0),(6,D.ptr 1 0)],[Ob.box [D.str aB.name,D.int .i64 aB.prio,D.acc 2,D.nil],Ob.box [D.str ([]),D.int .i64 0,D.nil,D.nil],Ob.row .uq 47 5 (mC.map aM.c)]⟩)(hm1:y1.length<=maxLen):∀(rest:aG) (i1:Nat) (cm:aq),y1.drop i1=rest->nZ aB cY y1 k1 rest i1 cm=some r->Ar Γ N f241 (.q [[none,none,some (47,5),some (167,3)],[none]] (D.iQ [D.agg [D.str r.1.name,D.int .i64 r.1.prio,D.fr 47 5 (r.1.conds.map aM.c),D.fr 167 3 (r.1.cR.map Action.c)],D.bool r.2])) [1,1,0,1,0] (rest.length+1) (xq aB cY y1 (cm.map aM.c) (i1:Int)):=by
 intro rest
 induction rest with
 |nil=>
  intro i1 cm bD h;rw[nZ]at h;refine aX fun N1 dH cW=>?_
  exact((aY.ge tx bD).a [.hl 0 [2,3,6] [0,1,3]]).ex hΓ dH (gE cm h)
 |cons bR cM ih1=>
  intro i1 cm bD h;rw[nZ]at h;refine aX fun N1 dH cW=>?_
  obtain⟨xY,h36,h⟩:=aD h;have kx:=((((aY.lt tx bD).i (mw tx 1 (dc bD))).o 1 1 .uq (cP tx (dc bD))).g (Ao h36))
  obtain⟨h37,h⟩|⟨h37,h⟩:=aO h
  ·cases h;exact(kx.b h37).ret hΓ
  ·obtain⟨h38,h⟩:=bh h;exact(((kx.b h37).w (bz h38)).a [.cn [2,3,6,8,9] [0,1,2,7]]).cs hΓ cW (xq aB cY y1 ((cm.map aM.c)++([[D.int .i64 xY.1.kind,D.str xY.1.pat.rel,D.sl (xY.1.pat.args.map tx),D.str xY.1.left,D.str xY.1.right]])) (IntKind.i64.wrap ((i1:Int)+1))) (by first| (simp only[iS bD hm1,mA]<;>rfl)| (simp only[iS bD hm1,mA,aF.c,aa.c,aM.c,Action.c,aL.c,aW.c,fH.c,ah.c,Node.c,aI.c,fP.c]<;>rfl)) (ih1 (i1+1) (cm++([xY.1])) (dn bD) h)
def xu(aB:aL)(mC:aq)(CR:aG)(W0:List aK)(fS:Int):St:=⟨[(3,D.ptr 0 0),(6,D.ptr 1 0),(12,D.acc 2),(13,D.int .i64 fS)],[Ob.box [D.str aB.name,D.int .i64 aB.prio,D.acc 3,D.acc 4],Ob.box [D.str ([]),D.int .i64 0,D.nil,D.nil],Ob.row .uq 9 1 (CR.map tx),Ob.row .uq 47 5 (mC.map aM.c),Ob.row .uq 167 3 W0]⟩
theorem E0(hΓ:Γ.nt=69){aB:aL}{mC:aq}{CR:aG}{r:aL×Bool}{k2:eG->Option (aL×Bool)}(EB:∀(yV:eG),k2 yV=some r->Ax Γ N f241 (.q [[none,none,some (47,5),some (167,3)],[none]] (D.iQ [D.agg [D.str r.1.name,D.int .i64 r.1.prio,D.fr 47 5 (r.1.conds.map aM.c),D.fr 167 3 (r.1.cR.map Action.c)],D.bool r.2])) [1,1,1,1,1] ⟨[(3,D.ptr 0 0),(6,D.ptr 1 0)],[Ob.box [D.str aB.name,D.int .i64 aB.prio,D.acc 2,D.acc 3],Ob.box [D.str ([]),D.int .i64 0,D.nil,D.nil],Ob.row .uq 47 5 (mC.map aM.c),Ob.row .uq 167 3 (yV.map Action.c)]⟩)(hm2:CR.length<=maxLen):∀(rest:aG) (i2:Nat) (mE:eG),CR.drop i2=rest->nc aB mC CR k2 rest i2 mE=some r->Ar Γ N f241 (.q [[none,none,some (47,5),some (167,3)],[none]] (D.iQ [D.agg [D.str r.1.name,D.int .i64 r.1.prio,D.fr 47 5 (r.1.conds.map aM.c),D.fr 167 3 (r.1.cR.map Action.c)],D.bool r.2])) [1,1,1,1,0,1,0] (rest.length+1) (xu aB mC CR (mE.map Action.c) (i2:Int)):=by
 intro rest
 induction rest with
 |nil=>
  intro i2 mE hd2 h;rw[nc]at h;refine aX fun N2 xz ue=>?_
  exact((aY.ge tx hd2).a [.hl 0 [3,6] [0,1,3,4]]).ex hΓ xz (EB mE h)
 |cons mF th ih2=>
  intro i2 mE hd2 h;rw[nc]at h;refine aX fun N2 xz ue=>?_
  obtain⟨B3,h74,h⟩:=aD h;have lJ:=((((aY.lt tx hd2).i (mw tx 1 (dc hd2))).o 1 1 .uq (cP tx (dc hd2))).g (Bi h74))
  obtain⟨h75,h⟩|⟨h75,h⟩:=aO h
  ·cases h;exact(lJ.b h75).ret hΓ
  ·obtain⟨h76,h⟩:=bh h;exact(((lJ.b h75).w (bz h76)).a [.cn [3,6,12,13] [0,1,2,3,8]]).cs hΓ ue (xu aB mC CR ((mE.map Action.c)++([[D.int .i64 B3.1.kind,D.str B3.1.pat.rel,D.sl (B3.1.pat.args.map tx)]])) (IntKind.i64.wrap ((i2:Int)+1))) (by first| (simp only[iS hd2 hm2,mA]<;>rfl)| (simp only[iS hd2 hm2,mA,aF.c,aa.c,aM.c,Action.c,aL.c,aW.c,fH.c,ah.c,Node.c,aI.c,fP.c]<;>rfl)) (ih2 (i2+1) (mE++([B3.1])) (dn hd2) h)
theorem s6{aB:aL}{aZ:Bytes}{cY:Bytes}{r:aL×Bool}(h:xH aB aZ cY=some r):Good prog 241 [D.agg [D.str aB.name,D.int .i64 aB.prio,D.nil,D.nil],D.str aZ,D.str cY] (D.iQ [D.agg [D.str r.1.name,D.int .i64 r.1.prio,D.fr 47 5 (r.1.conds.map aM.c),D.fr 167 3 (r.1.cR.map Action.c)],D.bool r.2]):=by
 refine gd func241 [[none,none,some (47,5),some (167,3)],[none]] 69 fun hr Γ hΓ=>?_
 rw[xH]at h;obtain⟨y1,h2,h⟩:=aD h;obtain⟨h80,h⟩:=bh h;refine((aY.g (fR h2)).a [.pb 0 2 47 5,.cn [2,3,6,8,9] [0,1,2,3]]).lp hΓ (Dz hΓ (fun mC h=>?_) (bf h80) y1 0 ([]:aq) rfl h);obtain⟨CR,h40,h⟩:=aD h;obtain⟨h79,h⟩:=bh h;refine((aY.g (fR h40)).a [.pb 0 3 167 3,.cn [3,6,12,13] [0,1,3,2,4]]).lp hΓ (E0 hΓ (fun yV h=>?_) (bf h79) CR 0 ([]:eG) rfl h);obtain⟨y77,h78,h⟩:=aD h;cases h;exact((aY.a [.n 3,.d (D.bool y77)]).w (show Good prog 149 [D.agg [D.str aB.name,D.int .i64 aB.prio,D.sl (mC.map aM.c),D.sl (yV.map Action.c)]] (D.bool y77)from by first| (simpa only[bP,bO,cA,br,bt]using ff h78)|exact ff h78| (have t:=ff h78;simp only[bP,br,bt,aL.c]at t;exact t))).ret hΓ
def mW(aB:Bytes):Option (aL×Bool):=((jd aB ([58,32])).bind fun y1=>(bif (((y1.map tx).length:Int):Int) != 2 then(some ((⟨[],0,[],[]⟩:aL),false))else((iY y1 0).bind fun x4=>((jd x4 ([32])).bind fun y6=>((iY y1 1).bind fun x8=>((jd x8 ([32,45,62,32])).bind fun FN=>(bif (((y6.map tx).length:Int):Int) != 2 then(some ((⟨[],0,[],[]⟩:aL),false))else(bif (((FN.map tx).length:Int):Int) != 2 then(some ((⟨[],0,[],[]⟩:aL),false))else((iY y6 1).bind fun x14=>((k7 x14).bind fun Jj=>(bif !(Jj.2)then(some ((⟨[],0,[],[]⟩:aL),false))else((iY y6 0).bind fun x19=>((iY FN 0).bind fun x21=>((iY FN 1).bind fun x23=>((xH (⟨x19,Jj.1,[],[]⟩:aL) x21 x23).bind fun sv=>(bif !(sv.2)then(some ((⟨[],0,[],[]⟩:aL),false))else(some (sv.1,true))))))))))))))))))
theorem Ap{aB:Bytes}{r:aL×Bool}(h:mW aB=some r):Good prog 220 [D.str aB] (D.iQ [D.agg [D.str r.1.name,D.int .i64 r.1.prio,D.fr 47 5 (r.1.conds.map aM.c),D.fr 167 3 (r.1.cR.map Action.c)],D.bool r.2]):=by
 refine gd func220 [[none,none,some (47,5),some (167,3)],[none]] 63 fun hr Γ hΓ=>?_
 rw[mW]at h;obtain⟨y1,h2,h⟩:=aD h;obtain⟨h3,h⟩|⟨h3,h⟩:=aO h
 ·cases h;exact((aY.g (fR h2)).b h3).ret hΓ
 ·obtain⟨x4,h5,h⟩:=aD h;obtain⟨y6,h7,h⟩:=aD h;obtain⟨x8,h9,h⟩:=aD h;obtain⟨FN,h11,h⟩:=aD h;have rj:=((((((((aY.g (fR h2)).b h3).i (iV tx 1 h5)).o 1 1 .uq (cP tx (fQ h5))).g (fR h7)).i (iV tx 1 h9)).o 1 1 .uq (cP tx (fQ h9))).g (fR h11))
  obtain⟨h12,h⟩|⟨h12,h⟩:=aO h
  ·cases h;exact((rj.r 4 h12).T 1).ret hΓ
  ·have kW:=(rj.r 4 h12)
   obtain⟨h13,h⟩|⟨h13,h⟩:=aO h
   ·cases h;exact(kW.b h13).ret hΓ
   ·obtain⟨x14,h15,h⟩:=aD h;obtain⟨Jj,h17,h⟩:=aD h;have kx:=((((kW.b h13).i (iV tx 1 h15)).o 1 1 .uq (cP tx (fQ h15))).g (qw h17))
    obtain⟨h18,h⟩|⟨h18,h⟩:=aO h
    ·cases h;exact(kx.b h18).ret hΓ
    ·obtain⟨x19,h20,h⟩:=aD h;obtain⟨x21,h22,h⟩:=aD h;obtain⟨x23,h24,h⟩:=aD h;obtain⟨sv,h26,h⟩:=aD h;have lJ:=((((((((((kx.b h18).a [.n 17]).i (iV tx 1 h20)).o 1 1 .uq (cP tx (fQ h20))).i (iV tx 1 h22)).o 1 1 .uq (cP tx (fQ h22))).i (iV tx 1 h24)).o 1 1 .uq (cP tx (fQ h24))).a [.nl (D.iQ [D.agg [D.str sv.1.name,D.int .i64 sv.1.prio,D.fr 47 5 (sv.1.conds.map aM.c),D.fr 167 3 (sv.1.cR.map Action.c)],D.bool sv.2])]).w (show Good prog 241 [D.agg [D.str x19,D.int .i64 Jj.1,D.nil,D.nil],D.str x21,D.str x23] (D.iQ [D.agg [D.str sv.1.name,D.int .i64 sv.1.prio,D.fr 47 5 (sv.1.conds.map aM.c),D.fr 167 3 (sv.1.cR.map Action.c)],D.bool sv.2])from by first| (simpa only[bP,bO,cA,br,bt]using s6 h26)|exact s6 h26| (have t:=s6 h26;simp only[bP,br,bt,aL.c]at t;exact t)))
     obtain⟨h27,h⟩|⟨h27,h⟩:=aO h
     ·cases h;exact(lJ.b h27).ret hΓ
     ·cases h;exact(lJ.b h27).ret hΓ
def kp(aB:cS)(aZ:Int):Option (cS×aL):=((eE aB (KN aZ ((([[114,32,49,58,32,111,110,40,63,120,44,63,121,41,32,38,32,111,110,40,63,121,44,63,122,41,32,45,62,32,97,100,100,32,111,110,40,63,120,44,63,122,41],[114,32,50,58,32,111,110,40,63,120,44,63,121,41,32,38,32,112,40,63,121,41,32,45,62,32,97,100,100,32,112,40,63,120,41],[114,32,48,58,32,112,40,63,120,41,32,38,32,111,110,40,63,120,44,63,121,41,32,38,32,63,120,32,33,61,32,63,121,32,45,62,32,97,100,100,32,97,116,40,63,121,44,63,120,41],[114,32,51,58,32,97,116,40,63,120,44,63,121,41,32,38,32,112,40,63,120,41,32,38,32,112,40,63,121,41,32,38,32,63,120,32,60,32,63,121,32,45,62,32,97,100,100,32,122,40,41],[114,32,52,58,32,111,110,40,63,120,44,97,41,32,45,62,32,97,100,100,32,113,40,63,120,41,32,38,32,97,100,100,32,112,40,97,41],[114,32,49,58,32,97,116,40,63,120,44,63,120,41,32,38,32,113,40,49,41,32,45,62,32,97,100,100,32,111,110,40,63,120,44,49,41],[114,32,49,58,32,112,40,63,120,41,32,38,32,110,111,116,32,113,40,63,120,41,32,45,62,32,97,100,100,32,97,116,40,63,120,44,98,41],[114,32,50,58,32,111,110,40,63,120,44,63,121,41,32,38,32,110,111,116,32,97,116,40,63,121,44,63,122,41,32,45,62,32,97,100,100,32,113,40,63,121,41],[114,32,53,58,32,97,116,40,63,120,44,63,121,41,32,38,32,110,111,116,32,112,40,63,121,41,32,38,32,63,120,32,33,61,32,63,121,32,45,62,32,97,100,100,32,122,40,41],[114,32,57,58,32,113,40,63,120,41,32,38,32,112,40,63,120,41,32,45,62,32,100,114,111,112,32,112,40,63,120,41],[114,32,48,58,32,97,116,40,63,120,44,49,41,32,38,32,97,116,40,63,121,44,50,41,32,38,32,63,120,32,61,32,63,121,32,45,62,32,100,114,111,112,32,97,116,40,63,120,44,49,41,32,38,32,115,116,111,112],[114,32,49,58,32,111,110,40,63,120,44,63,120,41,32,45,62,32,115,116,111,112],[114,32,55,58,32,122,40,41,32,38,32,111,110,40,63,120,44,63,121,41,32,45,62,32,100,114,111,112,32,122,40,41,32,38,32,97,100,100,32,111,110,40,63,121,44,63,120,41]]:aG).map tx).length:Int))).bind fun y1=>((iY ([[114,32,49,58,32,111,110,40,63,120,44,63,121,41,32,38,32,111,110,40,63,121,44,63,122,41,32,45,62,32,97,100,100,32,111,110,40,63,120,44,63,122,41],[114,32,50,58,32,111,110,40,63,120,44,63,121,41,32,38,32,112,40,63,121,41,32,45,62,32,97,100,100,32,112,40,63,120,41],[114,32,48,58,32,112,40,63,120,41,32,38,32,111,110,40,63,120,44,63,121,41,32,38,32,63,120,32,33,61,32,63,121,32,45,62,32,97,100,100,32,97,116,40,63,121,44,63,120,41],[114,32,51,58,32,97,116,40,63,120,44,63,121,41,32,38,32,112,40,63,120,41,32,38,32,112,40,63,121,41,32,38,32,63,120,32,60,32,63,121,32,45,62,32,97,100,100,32,122,40,41],[114,32,52,58,32,111,110,40,63,120,44,97,41,32,45,62,32,97,100,100,32,113,40,63,120,41,32,38,32,97,100,100,32,112,40,97,41],[114,32,49,58,32,97,116,40,63,120,44,63,120,41,32,38,32,113,40,49,41,32,45,62,32,97,100,100,32,111,110,40,63,120,44,49,41],[114,32,49,58,32,112,40,63,120,41,32,38,32,110,111,116,32,113,40,63,120,41,32,45,62,32,97,100,100,32,97,116,40,63,120,44,98,41],[114,32,50,58,32,111,110,40,63,120,44,63,121,41,32,38,32,110,111,116,32,97,116,40,63,121,44,63,122,41,32,45,62,32,97,100,100,32,113,40,63,121,41],[114,32,53,58,32,97,116,40,63,120,44,63,121,41,32,38,32,110,111,116,32,112,40,63,121,41,32,38,32,63,120,32,33,61,32,63,121,32,45,62,32,97,100,100,32,122,40,41],[114,32,57,58,32,113,40,63,120,41,32,38,32,112,40,63,120,41,32,45,62,32,100,114,111,112,32,112,40,63,120,41],[114,32,48,58,32,97,116,40,63,120,44,49,41,32,38,32,97,116,40,63,121,44,50,41,32,38,32,63,120,32,61,32,63,121,32,45,62,32,100,114,111,112,32,97,116,40,63,120,44,49,41,32,38,32,115,116,111,112],[114,32,49,58,32,111,110,40,63,120,44,63,120,41,32,45,62,32,115,116,111,112],[114,32,55,58,32,122,40,41,32,38,32,111,110,40,63,120,44,63,121,41,32,45,62,32,100,114,111,112,32,122,40,41,32,38,32,97,100,100,32,111,110,40,63,121,44,63,120,41]]:aG) y1.2).bind fun x3=>((mW x3).bind fun y5=>(some (y1.1,y5.1)))))
theorem s5{aB:cS}{aZ:Int}{r:cS×aL}(h:kp aB aZ=some r):kD prog 155 (cS.c aB) (cS.c r.1) [D.int .i64 aZ] (D.agg [D.str r.2.name,D.int .i64 r.2.prio,D.fr 47 5 (r.2.conds.map aM.c),D.fr 167 3 (r.2.cR.map Action.c)]):=by
 refine JM func155 [[none,none,none],[none,none,some (47,5),some (167,3)]] 23 [D.sl (aB.b.map yx),D.int .i64 aB.i,D.int .i64 aB.h] [D.int .i64 aZ] [] fun hr lS Γ hΓ=>?_
 rw[kp]at h;obtain⟨y1,h2,h⟩:=aD h;obtain⟨x3,h4,h⟩:=aD h;obtain⟨y5,h6,h⟩:=aD h;cases h;exact((((aY.hp [[none,none,none],[none]] (dS h2)).i (iV tx 1 h4)).o 1 1 .uq (cP tx (fQ h4))).g (Ap h6)).ret hΓ
def gY(y1:cS×Int)(k1:b9->Int->Int->aq->Option (cS×aL)):Nat->Int->b9->Int->Int->aq->Option (cS×aL)
 |0,_,_,_,_,_=>none
 |n1+1,oZ,dW,cj,ck,cm=>(bif decide ((oZ:Int)>0)then((qA (⟨dW,cj,ck⟩:cS)).bind fun yY=>(bif room ((cm.map aM.c).length+([[D.int .i64 yY.2.kind,D.str yY.2.pat.rel,D.sl (yY.2.pat.args.map tx),D.str yY.2.left,D.str yY.2.right]]).length) 80 then(gY y1 k1 n1 (IntKind.i64.wrap (oZ-1)) yY.1.b yY.1.i yY.1.h (cm++([yY.2])))else none))else(k1 dW cj ck cm))
def cg(y1:cS×Int)(fC:aq)(GI:aG)(vJ:cS×aF)(k2:b9->Int->Int->aG->Option (cS×aL)):Nat->Int->b9->Int->Int->aG->Option (cS×aL)
 |0,_,_,_,_,_=>none
 |n2+1,zH,uU,sn,sr,qS=>(bif decide ((zH:Int)<((qS.map tx).length:Int))then((iY qS zH).bind fun x91=>((fk x91).bind fun y93=>(bif y93 then((fM GI x91).bind fun Qq=>(bif !(Qq)then((gh (⟨uU,sn,sr⟩:cS)).bind fun CD=>(cg y1 fC GI vJ k2 n2 (IntKind.i64.wrap (zH+1)) CD.1.b CD.1.i CD.1.h (qS.set zH.toNat CD.2)))else(cg y1 fC GI vJ k2 n2 (IntKind.i64.wrap (zH+1)) uU sn sr qS)))else(cg y1 fC GI vJ k2 n2 (IntKind.i64.wrap (zH+1)) uU sn sr qS))))else(k2 uU sn sr qS))
def py(aB:cS):Option (cS×aL):=((eE aB 4).bind fun y1=>((iU y1.1).bind fun y3=>((eE y3.1 3).bind fun y5=>(gY y1 (fun(jP:b9) (jQ:Int) (jR:Int) (fC:aq)=>((jJ (⟨[114],y1.2,fC,[]⟩:aL) ((fC.map aM.c).length:Int)).bind fun GI=>((iU (⟨jP,jQ,jR⟩:cS)).bind fun vJ=>(cg y1 fC GI vJ (fun(G9:b9) (GA:Int) (GB:Int) (sI:aG)=>((pF (⟨G9,GA,GB⟩:cS) ([1,1,2]:b9)).bind fun wN=>(bif room (([]:List aK).length+([[D.int .i64 wN.2,D.str vJ.2.rel,D.sl (sI.map tx)]]).length) 48 then((ny wN.1 6).bind fun HE=>(bif HE.2 then(bif room ((([]:List aK)++([[D.int .i64 wN.2,D.str vJ.2.rel,D.sl (sI.map tx)]])).length+([[D.int .i64 3,D.str ([]),D.sl ([])]]).length) 48 then((kX (⟨[114],y1.2,fC,(([]:eG)++([(⟨wN.2,(⟨vJ.2.rel,sI⟩:aF)⟩:Action)]))++([(⟨3,(⟨[],[]⟩:aF)⟩:Action)])⟩:aL)).bind fun O9=>(bif !(O9)then((kp HE.1 99).bind fun Qb=>(some (Qb.1,Qb.2)))else(some (HE.1,(⟨[114],y1.2,fC,(([]:eG)++([(⟨wN.2,(⟨vJ.2.rel,sI⟩:aF)⟩:Action)]))++([(⟨3,(⟨[],[]⟩:aF)⟩:Action)])⟩:aL)))))else none)else((kX (⟨[114],y1.2,fC,([]:eG)++([(⟨wN.2,(⟨vJ.2.rel,sI⟩:aF)⟩:Action)])⟩:aL)).bind fun Vz=>(bif !(Vz)then((kp HE.1 99).bind fun ZE=>(some (ZE.1,ZE.2)))else(some (HE.1,(⟨[114],y1.2,fC,([]:eG)++([(⟨wN.2,(⟨vJ.2.rel,sI⟩:aF)⟩:Action)])⟩:aL)))))))else none))) fuel 0 vJ.1.b vJ.1.i vJ.1.h vJ.2.args)))) fuel y5.2 y5.1.b y5.1.i y5.1.h ([(⟨1,y3.2,[],[]⟩:aM)])))))
def sZ(lS:Value)(y1:cS×Int)(oZ:Int)(cj:Int)(ck:Int)(W1:List aK)(W4:List aK):St:=⟨[(0,D.ptr 0 0),(2,D.ptr 1 0),(3,D.ptr 2 0),(4,D.int .i64 oZ)],[Ob.DA [D.sl W1,D.int .i64 cj,D.int .i64 ck] lS,Ob.box [D.str ([]),D.int .i64 0,D.nil,D.nil],Ob.box [D.str ([114]),D.int .i64 y1.2,D.acc 3,D.nil],Ob.row .uq 47 5 W4]⟩
theorem D5(hΓ:Γ.nt=88){lS:Value}{y1:cS×Int}{r:cS×aL}{k1:b9->Int->Int->aq->Option (cS×aL)}(gE:∀(jP:b9) (jQ:Int) (jR:Int) (fC:aq),k1 jP jQ jR fC=some r->Ax Γ N f154 (.p [[none,none,none],[none,none,some (47,5),some (167,3)]] lS (cS.c r.1) (D.agg [D.str r.2.name,D.int .i64 r.2.prio,D.fr 47 5 (r.2.conds.map aM.c),D.fr 167 3 (r.2.cR.map Action.c)])) [1,1,1] ⟨[(0,D.ptr 0 0),(2,D.ptr 1 0),(3,D.ptr 2 0)],[Ob.DA [D.sl (jP.map yx),D.int .i64 jQ,D.int .i64 jR] lS,Ob.box [D.str ([]),D.int .i64 0,D.nil,D.nil],Ob.box [D.str ([114]),D.int .i64 y1.2,D.acc 3,D.nil],Ob.row .uq 47 5 (fC.map aM.c)]⟩):∀(n1:Nat) (oZ:Int) (dW:b9) (cj:Int) (ck:Int) (cm:aq),gY y1 k1 n1 oZ dW cj ck cm=some r->Ar Γ N f154 (.p [[none,none,none],[none,none,some (47,5),some (167,3)]] lS (cS.c r.1) (D.agg [D.str r.2.name,D.int .i64 r.2.prio,D.fr 47 5 (r.2.conds.map aM.c),D.fr 167 3 (r.2.cR.map Action.c)])) [1,1,0,1,0] n1 (sZ lS y1 oZ cj ck (dW.map yx) (cm.map aM.c)):=by
 intro n
 induction n with
 |zero=>intro oZ dW cj ck cm h;simp[gY]at h
 |succ n1 ih1=>
  intro oZ dW cj ck cm h;rw[gY]at h;refine aX fun N1 dH cW=>?_
  obtain⟨h25,h⟩|⟨h25,h⟩:=aO h
  ·obtain⟨yY,h29,h⟩:=aD h;obtain⟨h30,h⟩:=bh h;exact(((((aY.b h25).a [.n2 [0,1,2,3,4,5,6,7] [0,1,2,3,4,5,6,7] 3 5 [0,1] [0,4],.gp [[none,none,none]] (cS.c yY.1) (D.agg [D.int .i64 yY.2.kind,D.str yY.2.pat.rel,D.fr 9 1 (yY.2.pat.args.map tx),D.str yY.2.left,D.str yY.2.right])]).w (show kD prog 219 (cS.c (⟨dW,cj,ck⟩:cS)) (cS.c yY.1) [] (D.agg [D.int .i64 yY.2.kind,D.str yY.2.pat.rel,D.fr 9 1 (yY.2.pat.args.map tx),D.str yY.2.left,D.str yY.2.right])from by simpa only[bP,bO,cA,br,bt]using Dv h29)).w (bz h30)).a [.cn [0,2,3,4] [0,1,2,6]]).cs hΓ cW (sZ lS y1 (IntKind.i64.wrap (oZ-1)) yY.1.i yY.1.h (yY.1.b.map yx) ((cm.map aM.c)++([[D.int .i64 yY.2.kind,D.str yY.2.pat.rel,D.sl (yY.2.pat.args.map tx),D.str yY.2.left,D.str yY.2.right]]))) (by first| (simp only[mA]<;>rfl)| (simp only[mA,aF.c,aa.c,aM.c,Action.c,aL.c,aW.c,fH.c,ah.c,Node.c,aI.c,fP.c]<;>rfl)) (ih1 (IntKind.i64.wrap (oZ-1)) yY.1.b yY.1.i yY.1.h (cm++([yY.2])) h)
  ·exact((aY.b h25).a [.hl 0 [0,2,3] [0,1,2,3]]).ex hΓ dH (gE dW cj ck cm h)
def xG(lS:Value)(y1:cS×Int)(fC:aq)(GI:aG)(vJ:cS×aF)(zH:Int)(sn:Int)(sr:Int)(W1:List aK)(W4:List aK):St:=⟨[(0,D.ptr 0 0),(2,D.ptr 1 0),(3,D.ptr 2 0),(5,D.acc 3),(6,D.ptr 4 0),(7,D.int .i64 zH)],[Ob.DA [D.sl W1,D.int .i64 sn,D.int .i64 sr] lS,Ob.box [D.str ([]),D.int .i64 0,D.nil,D.nil],Ob.box [D.str ([114]),D.int .i64 y1.2,D.acc 5,D.nil],Ob.row .uq 9 1 (GI.map tx),Ob.box [D.str vJ.2.rel,D.acc 6],Ob.row .uq 47 5 (fC.map aM.c),Ob.row .uq 9 1 W4]⟩
theorem D6(hΓ:Γ.nt=88){lS:Value}{y1:cS×Int}{fC:aq}{GI:aG}{vJ:cS×aF}{r:cS×aL}{k2:b9->Int->Int->aG->Option (cS×aL)}(EB:∀(G9:b9) (GA:Int) (GB:Int) (sI:aG),k2 G9 GA GB sI=some r->Ax Γ N f154 (.p [[none,none,none],[none,none,some (47,5),some (167,3)]] lS (cS.c r.1) (D.agg [D.str r.2.name,D.int .i64 r.2.prio,D.fr 47 5 (r.2.conds.map aM.c),D.fr 167 3 (r.2.cR.map Action.c)])) [1,1,1,1,1,1] ⟨[(0,D.ptr 0 0),(2,D.ptr 1 0),(3,D.ptr 2 0),(6,D.ptr 3 0)],[Ob.DA [D.sl (G9.map yx),D.int .i64 GA,D.int .i64 GB] lS,Ob.box [D.str ([]),D.int .i64 0,D.nil,D.nil],Ob.box [D.str ([114]),D.int .i64 y1.2,D.acc 4,D.nil],Ob.box [D.str vJ.2.rel,D.acc 5],Ob.row .uq 47 5 (fC.map aM.c),Ob.row .uq 9 1 (sI.map tx)]⟩):∀(n2:Nat) (zH:Int) (uU:b9) (sn:Int) (sr:Int) (qS:aG),cg y1 fC GI vJ k2 n2 zH uU sn sr qS=some r->Ar Γ N f154 (.p [[none,none,none],[none,none,some (47,5),some (167,3)]] lS (cS.c r.1) (D.agg [D.str r.2.name,D.int .i64 r.2.prio,D.fr 47 5 (r.2.conds.map aM.c),D.fr 167 3 (r.2.cR.map Action.c)])) [1,1,1,1,1,0,1,0] n2 (xG lS y1 fC GI vJ zH sn sr (uU.map yx) (qS.map tx)):=by
 intro n
 induction n with
 |zero=>intro zH uU sn sr qS h;simp[cg]at h
 |succ n2 ih2=>
  intro zH uU sn sr qS h;rw[cg]at h;refine aX fun N2 xz ue=>?_
  obtain⟨h90,h⟩|⟨h90,h⟩:=aO h
  ·obtain⟨x91,h92,h⟩:=aD h;obtain⟨y93,h94,h⟩:=aD h;have kx:=((((aY.b h90).i (iV tx 1 h92)).o 1 1 .uq (cP tx (fQ h92))).g (lF h94))
   obtain⟨h95,h⟩|⟨h95,h⟩:=aO h
   ·obtain⟨Qq,h97,h⟩:=aD h;have lJ:=(((((((kx.r 5 h95).i (iV tx 1 h92)).b h95).o 1 1 .uq (cP tx (fQ h92))).b h95).g (iP h97)).r 2 h95)
    obtain⟨h98,h⟩|⟨h98,h⟩:=aO h
    ·obtain⟨CD,h102,h⟩:=aD h;exact((((((lJ.b h98).a [.n2 [0,1,2,3,4,5,6] [0,1,2,3,4,5,6] 4 5 [0,1,2] [0],.gp [[none,none,none]] (cS.c CD.1) (D.str CD.2)]).w (show kD prog 157 (cS.c (⟨uU,sn,sr⟩:cS)) (cS.c CD.1) [] (D.str CD.2)from by simpa only[bP,bO,cA,br,bt]using sU h102)).i (iV tx 1 h92)).w (show(qS.map tx)[zH.toNat]?=some [D.str x91]from cP tx (fQ h92))).a [.row [D.str x91],.cn [0,2,3,5,6,7] [0,1,2,3,4,5,6]]).cs hΓ ue (xG lS y1 fC GI vJ (IntKind.i64.wrap (zH+1)) CD.1.i CD.1.h (CD.1.b.map yx) ((qS.map tx).set zH.toNat [D.str CD.2])) (by first| (simp only[mA]<;>rfl)| (simp only[mA,aF.c,aa.c,aM.c,Action.c,aL.c,aW.c,fH.c,ah.c,Node.c,aI.c,fP.c]<;>rfl)) (ih2 (IntKind.i64.wrap (zH+1)) CD.1.b CD.1.i CD.1.h (qS.set zH.toNat CD.2) h)
    ·exact((lJ.b h98).a [.cn [0,2,3,5,6,7] [0,1,2,3,4,5,6]]).cf hΓ ue (ih2 (IntKind.i64.wrap (zH+1)) uU sn sr qS h)
   ·exact(((kx.r 9 h95).F 1).a [.cn [0,2,3,5,6,7] [0,1,2,3,4,5,6]]).cf hΓ ue (ih2 (IntKind.i64.wrap (zH+1)) uU sn sr qS h)
  ·exact((aY.b h90).a [.hl 0 [0,2,3,6] [0,1,2,4,5,6]]).ex hΓ xz (EB uU sn sr qS h)
theorem Bj{aB:cS}{r:cS×aL}(h:py aB=some r):kD prog 154 (cS.c aB) (cS.c r.1) [] (D.agg [D.str r.2.name,D.int .i64 r.2.prio,D.fr 47 5 (r.2.conds.map aM.c),D.fr 167 3 (r.2.cR.map Action.c)]):=by
 refine JM func154 [[none,none,none],[none,none,some (47,5),some (167,3)]] 88 [D.sl (aB.b.map yx),D.int .i64 aB.i,D.int .i64 aB.h] [] [] fun hr lS Γ hΓ=>?_
 rw[py]at h;obtain⟨y1,h2,h⟩:=aD h;obtain⟨y3,h4,h⟩:=aD h;obtain⟨y5,h6,h⟩:=aD h;refine((((aY.hp [[none,none,none],[none]] (dS h2)).hp [[none,none,none]] (mm h4)).hp [[none,none,none],[none]] (dS h6)).a [.cn [0,2,3,4] [0,1,4,3]]).lps hΓ (sZ lS y1 y5.2 y5.1.i y5.1.h (y5.1.b.map yx) ([[D.int .i64 1,D.str y3.2.rel,D.sl (y3.2.args.map tx),D.str ([]),D.str ([])]])) (by first| (simp only[mA]<;>rfl)| (simp only[mA,aF.c,aa.c,aM.c,Action.c,aL.c,aW.c,fH.c,ah.c,Node.c,aI.c,fP.c]<;>rfl)) (D5 hΓ (fun jP jQ jR fC h=>?_) fuel y5.2 y5.1.b y5.1.i y5.1.h ([(⟨1,y3.2,[],[]⟩:aM)]) h);obtain⟨GI,h32,h⟩:=aD h;obtain⟨vJ,h34,h⟩:=aD h;refine(((((aY.a [.d (D.fr 9 1 (GI.map tx))]).w (show Good prog 208 [D.agg [D.str ([114]),D.int .i64 y1.2,D.sl (fC.map aM.c),D.sl ([])],D.int .i64 ((fC.map aM.c).length:Int)] (D.fr 9 1 (GI.map tx))from by first| (simpa only[bP,bO,cA,br,bt]using iO h32)|exact iO h32| (have t:=iO h32;simp only[bP,br,bt,aL.c]at t;exact t))).a [.gp [[none,none,none]] (cS.c vJ.1) (D.agg [D.str vJ.2.rel,D.fr 9 1 (vJ.2.args.map tx)])]).w (show kD prog 218 (cS.c (⟨jP,jQ,jR⟩:cS)) (cS.c vJ.1) [] (D.agg [D.str vJ.2.rel,D.fr 9 1 (vJ.2.args.map tx)])from by simpa only[bP,bO,cA,br,bt]using mm h34)).a [.cn [0,2,3,5,6,7] [0,1,2,4,6,3,5]]).lp hΓ (D6 hΓ (fun G9 GA GB sI h=>?_) fuel 0 vJ.1.b vJ.1.i vJ.1.h vJ.2.args h);obtain⟨wN,h106,h⟩:=aD h;obtain⟨h107,h⟩:=bh h;obtain⟨HE,h109,h⟩:=aD h;have tf:=((((aY.a [.n2 [0,1,2,3,5,4,6,7,8,9,10] [0,1,2,3,5,4,6,7,8,9,10] 5 8 [0,1,4] [0,5,6],.gp [[none,none,none],[some (3,1)]] (cS.c wN.1) (D.int .i64 wN.2)]).w (show kD prog 126 (cS.c (⟨G9,GA,GB⟩:cS)) (cS.c wN.1) [D.fr 3 1 (([1,1,2]:b9).map lZ)] (D.int .i64 wN.2)from by simpa only[bP,bO,cA,br,bt]using xm h106)).w (bz h107)).hp [[none,none,none],[none]] (mj h109))
 obtain⟨h110,h⟩|⟨h110,h⟩:=aO h
 ·obtain⟨h111,h⟩:=bh h;obtain⟨O9,h113,h⟩:=aD h;have xQ:=((((tf.b h110).w (bz h111)).a [.d (D.bool O9)]).w (show Good prog 149 [D.agg [D.str ([114]),D.int .i64 y1.2,D.sl (fC.map aM.c),D.sl ((([]:List aK)++([[D.int .i64 wN.2,D.str vJ.2.rel,D.sl (sI.map tx)]]))++([[D.int .i64 3,D.str ([]),D.sl ([])]]))]] (D.bool O9)from by first| (simpa only[bP,bO,cA,br,bt]using ff h113)|exact ff h113| (have t:=ff h113;simp only[bP,br,bt,aL.c]at t;exact t)))
  obtain⟨h114,h⟩|⟨h114,h⟩:=aO h
  ·obtain⟨Qb,h116,h⟩:=aD h;cases h;exact((xQ.b h114).hp [[none,none,none],[none]] (s5 h116)).ret hΓ
  ·cases h;exact(xQ.b h114).rts hΓ (D.iQ [D.agg [D.str ([114]),D.int .i64 y1.2,D.fr 47 5 (fC.map aM.c),D.fr 167 3 ((([]:List aK)++([[D.int .i64 wN.2,D.str vJ.2.rel,D.sl (sI.map tx)]]))++([[D.int .i64 3,D.str ([]),D.sl ([])]]))],D.agg [D.sl (HE.1.b.map yx),D.int .i64 HE.1.i,D.int .i64 HE.1.h],D.val lS]) (by first|rfl| (simp only[mA]<;>rfl))
 ·obtain⟨Vz,h118,h⟩:=aD h;have Av:=(((tf.b h110).a [.d (D.bool Vz)]).w (show Good prog 149 [D.agg [D.str ([114]),D.int .i64 y1.2,D.sl (fC.map aM.c),D.sl (([]:List aK)++([[D.int .i64 wN.2,D.str vJ.2.rel,D.sl (sI.map tx)]]))]] (D.bool Vz)from by first| (simpa only[bP,bO,cA,br,bt]using ff h118)|exact ff h118| (have t:=ff h118;simp only[bP,br,bt,aL.c]at t;exact t)))
  obtain⟨h119,h⟩|⟨h119,h⟩:=aO h
  ·obtain⟨ZE,h121,h⟩:=aD h;cases h;exact((Av.b h119).hp [[none,none,none],[none]] (s5 h121)).ret hΓ
  ·cases h;exact(Av.b h119).rts hΓ (D.iQ [D.agg [D.str ([114]),D.int .i64 y1.2,D.fr 47 5 (fC.map aM.c),D.fr 167 3 (([]:List aK)++([[D.int .i64 wN.2,D.str vJ.2.rel,D.sl (sI.map tx)]]))],D.agg [D.sl (HE.1.b.map yx),D.int .i64 HE.1.i,D.int .i64 HE.1.h],D.val lS]) (by first|rfl| (simp only[mA]<;>rfl))
def mK(aB:cS):Option (cS×aL):=((ny aB 3).bind fun y1=>(bif y1.2 then((py y1.1).bind fun y4=>(some (y4.1,y4.2)))else((kp y1.1 99).bind fun y6=>(some (y6.1,y6.2)))))
theorem Dy{aB:cS}{r:cS×aL}(h:mK aB=some r):kD prog 94 (cS.c aB) (cS.c r.1) [] (D.agg [D.str r.2.name,D.int .i64 r.2.prio,D.fr 47 5 (r.2.conds.map aM.c),D.fr 167 3 (r.2.cR.map Action.c)]):=by
 refine JM func94 [[none,none,none],[none,none,some (47,5),some (167,3)]] 9 [D.sl (aB.b.map yx),D.int .i64 aB.i,D.int .i64 aB.h] [] [] fun hr lS Γ hΓ=>?_
 rw[mK]at h;obtain⟨y1,h2,h⟩:=aD h;obtain⟨h3,h⟩|⟨h3,h⟩:=aO h
 ·obtain⟨y4,h5,h⟩:=aD h;cases h;exact(((aY.hp [[none,none,none],[none]] (mj h2)).b h3).hp [[none,none,none]] (Bj h5)).ret hΓ
 ·obtain⟨y6,h7,h⟩:=aD h;cases h;exact(((aY.hp [[none,none,none],[none]] (mj h2)).b h3).hp [[none,none,none],[none]] (s5 h7)).ret hΓ
def k9(k1:b9->Int->Int->ar->Option (cS×ar)):Nat->Int->b9->Int->Int->ar->Option (cS×ar)
 |0,_,_,_,_,_=>none
 |n1+1,cu,dW,cj,ck,bY=>(bif decide ((cu:Int)>0)then((mK (⟨dW,cj,ck⟩:cS)).bind fun sv=>((kO cu).bind fun oc=>(bif decide (([114]:Bytes).length+(oc:Bytes).length<=maxLen)then(bif room ((bY.map aL.c).length+([[D.str (([114])++oc),D.int .i64 sv.2.prio,D.sl (sv.2.conds.map aM.c),D.sl (sv.2.cR.map Action.c)]]).length) 72 then(k9 k1 n1 (IntKind.i64.wrap (cu-1)) sv.1.b sv.1.i sv.1.h (bY++([(⟨([114])++oc,sv.2.prio,sv.2.conds,sv.2.cR⟩:aL)])))else none)else none)))else(k1 dW cj ck bY))
def tW(aB:cS)(aZ:Int):Option (cS×ar):=((eE aB (IntKind.i64.wrap (aZ+1))).bind fun y1=>(k9 (fun(jP:b9) (jQ:Int) (jR:Int) (kw:ar)=>(some ((⟨jP,jQ,jR⟩:cS),kw))) fuel y1.2 y1.1.b y1.1.i y1.1.h ([]:ar)))
def AK(lS:Value)(cu:Int)(cj:Int)(ck:Int)(W1:List aK)(W4:List aK):St:=⟨[(0,D.ptr 0 0),(5,D.acc 1),(6,D.int .i64 cu)],[Ob.DA [D.sl W1,D.int .i64 cj,D.int .i64 ck] lS,Ob.row .uq 80 4 W4]⟩
theorem G0(hΓ:Γ.nt=28){lS:Value}{r:cS×ar}{k1:b9->Int->Int->ar->Option (cS×ar)}(gE:∀(jP:b9) (jQ:Int) (jR:Int) (kw:ar),k1 jP jQ jR kw=some r->Ax Γ N f46 (.p [[none,none,none],[some (80,4)]] lS (cS.c r.1) (D.fr 80 4 (r.2.map aL.c))) [1,1,1] ⟨[(5,D.acc 1)],[Ob.DA [D.sl (jP.map yx),D.int .i64 jQ,D.int .i64 jR] lS,Ob.row .uq 80 4 (kw.map aL.c)]⟩):∀(n1:Nat) (cu:Int) (dW:b9) (cj:Int) (ck:Int) (bY:ar),k9 k1 n1 cu dW cj ck bY=some r->Ar Γ N f46 (.p [[none,none,none],[some (80,4)]] lS (cS.c r.1) (D.fr 80 4 (r.2.map aL.c))) [1,1,0,1,0] n1 (AK lS cu cj ck (dW.map yx) (bY.map aL.c)):=by
 intro n
 induction n with
 |zero=>intro cu dW cj ck bY h;simp[k9]at h
 |succ n1 ih1=>
  intro cu dW cj ck bY h;rw[k9]at h;refine aX fun N1 dH cW=>?_
  obtain⟨h24,h⟩|⟨h24,h⟩:=aO h
  ·obtain⟨sv,h26,h⟩:=aD h;obtain⟨oc,h28,h⟩:=aD h;obtain⟨h29,h⟩:=bh h;obtain⟨h30,h⟩:=bh h;exact(((((((aY.b h24).a [.gp [[none,none,none]] (cS.c sv.1) (D.agg [D.str sv.2.name,D.int .i64 sv.2.prio,D.fr 47 5 (sv.2.conds.map aM.c),D.fr 167 3 (sv.2.cR.map Action.c)])]).w (show kD prog 94 (cS.c (⟨dW,cj,ck⟩:cS)) (cS.c sv.1) [] (D.agg [D.str sv.2.name,D.int .i64 sv.2.prio,D.fr 47 5 (sv.2.conds.map aM.c),D.fr 167 3 (sv.2.cR.map Action.c)])from by simpa only[bP,bO,cA,br,bt]using Dy h26)).g (qO h28)).w (bf h29)).w (bz h30)).a [.cn [0,5,6] [0,6]]).cs hΓ cW (AK lS (IntKind.i64.wrap (cu-1)) sv.1.i sv.1.h (sv.1.b.map yx) ((bY.map aL.c)++([[D.str (([114])++oc),D.int .i64 sv.2.prio,D.sl (sv.2.conds.map aM.c),D.sl (sv.2.cR.map Action.c)]]))) (by first| (simp only[mA]<;>rfl)| (simp only[mA,aF.c,aa.c,aM.c,Action.c,aL.c,aW.c,fH.c,ah.c,Node.c,aI.c,fP.c]<;>rfl)) (ih1 (IntKind.i64.wrap (cu-1)) sv.1.b sv.1.i sv.1.h (bY++([(⟨([114])++oc,sv.2.prio,sv.2.conds,sv.2.cR⟩:aL)])) h)
  ·exact((aY.b h24).a [.hl 0 [5] [0,1]]).ex hΓ dH (gE dW cj ck bY h)
theorem En{aB:cS}{aZ:Int}{r:cS×ar}(h:tW aB aZ=some r):kD prog 46 (cS.c aB) (cS.c r.1) [D.int .i64 aZ] (D.fr 80 4 (r.2.map aL.c)):=by
 refine JM func46 [[none,none,none],[some (80,4)]] 28 [D.sl (aB.b.map yx),D.int .i64 aB.i,D.int .i64 aB.h] [D.int .i64 aZ] [] fun hr lS Γ hΓ=>?_
 rw[tW]at h;obtain⟨y1,h2,h⟩:=aD h;refine((aY.hp [[none,none,none],[none]] (dS h2)).a [.cn [0,5,6] [0,1]]).lp hΓ (G0 hΓ (fun jP jQ jR kw h=>?_) fuel y1.2 y1.1.b y1.1.i y1.1.h ([]:ar) h);cases h;exact aY.ret hΓ
def jN(y1:cS×(Bytes×Int))(k1:b9->Int->Int->aG->Option (cS×aF)):Nat->Int->b9->Int->Int->aG->Option (cS×aF)
 |0,_,_,_,_,_=>none
 |n1+1,cu,dW,cj,ck,cm=>(bif decide ((cu:Int)<y1.2.2)then((gh (⟨dW,cj,ck⟩:cS)).bind fun vg=>(bif room ((cm.map tx).length+([[D.str vg.2]]).length) 16 then(jN y1 k1 n1 (IntKind.i64.wrap (cu+1)) vg.1.b vg.1.i vg.1.h (cm++([vg.2])))else none))else(k1 dW cj ck cm))
def q9(aB:cS):Option (cS×aF):=((nY aB).bind fun y1=>(jN y1 (fun(jP:b9) (jQ:Int) (jR:Int) (fC:aG)=>(some ((⟨jP,jQ,jR⟩:cS),(⟨y1.2.1,fC⟩:aF)))) fuel 0 y1.1.b y1.1.i y1.1.h ([]:aG)))
def yz(lS:Value)(y1:cS×(Bytes×Int))(cu:Int)(cj:Int)(ck:Int)(W1:List aK)(W4:List aK):St:=⟨[(0,D.ptr 0 0),(2,D.ptr 1 0),(4,D.int .i64 y1.2.2),(5,D.ptr 2 0),(6,D.int .i64 cu)],[Ob.DA [D.sl W1,D.int .i64 cj,D.int .i64 ck] lS,Ob.box [D.str ([]),D.nil],Ob.box [D.str y1.2.1,D.acc 3],Ob.row .uq 9 1 W4]⟩
theorem Ej(hΓ:Γ.nt=27){lS:Value}{y1:cS×(Bytes×Int)}{r:cS×aF}{k1:b9->Int->Int->aG->Option (cS×aF)}(gE:∀(jP:b9) (jQ:Int) (jR:Int) (fC:aG),k1 jP jQ jR fC=some r->Ax Γ N f96 (.p [[none,none,none],[none,some (9,1)]] lS (cS.c r.1) (D.agg [D.str r.2.rel,D.fr 9 1 (r.2.args.map tx)])) [1,1,1,1] ⟨[(2,D.ptr 1 0),(5,D.ptr 2 0)],[Ob.DA [D.sl (jP.map yx),D.int .i64 jQ,D.int .i64 jR] lS,Ob.box [D.str ([]),D.nil],Ob.box [D.str y1.2.1,D.acc 3],Ob.row .uq 9 1 (fC.map tx)]⟩):∀(n1:Nat) (cu:Int) (dW:b9) (cj:Int) (ck:Int) (cm:aG),jN y1 k1 n1 cu dW cj ck cm=some r->Ar Γ N f96 (.p [[none,none,none],[none,some (9,1)]] lS (cS.c r.1) (D.agg [D.str r.2.rel,D.fr 9 1 (r.2.args.map tx)])) [1,1,1,0,1,0] n1 (yz lS y1 cu cj ck (dW.map yx) (cm.map tx)):=by
 intro n
 induction n with
 |zero=>intro cu dW cj ck cm h;simp[jN]at h
 |succ n1 ih1=>
  intro cu dW cj ck cm h;rw[jN]at h;refine aX fun N1 dH cW=>?_
  obtain⟨h27,h⟩|⟨h27,h⟩:=aO h
  ·obtain⟨vg,h31,h⟩:=aD h;obtain⟨h32,h⟩:=bh h;exact(((((aY.b h27).a [.n2 [0,1,2,3,4,5,6,7] [0,1,2,3,4,5,6,7] 3 5 [0,1] [0],.gp [[none,none,none]] (cS.c vg.1) (D.str vg.2)]).w (show kD prog 157 (cS.c (⟨dW,cj,ck⟩:cS)) (cS.c vg.1) [] (D.str vg.2)from by simpa only[bP,bO,cA,br,bt]using sU h31)).w (bz h32)).a [.cn [0,2,4,5,6] [0,1,2,5]]).cs hΓ cW (yz lS y1 (IntKind.i64.wrap (cu+1)) vg.1.i vg.1.h (vg.1.b.map yx) ((cm.map tx)++([[D.str vg.2]]))) (by first| (simp only[mA]<;>rfl)| (simp only[mA,aF.c,aa.c,aM.c,Action.c,aL.c,aW.c,fH.c,ah.c,Node.c,aI.c,fP.c]<;>rfl)) (ih1 (IntKind.i64.wrap (cu+1)) vg.1.b vg.1.i vg.1.h (cm++([vg.2])) h)
  ·exact((aY.b h27).a [.hl 0 [2,5] [0,1,2,3]]).ex hΓ dH (gE dW cj ck cm h)
theorem Du{aB:cS}{r:cS×aF}(h:q9 aB=some r):kD prog 96 (cS.c aB) (cS.c r.1) [] (D.agg [D.str r.2.rel,D.fr 9 1 (r.2.args.map tx)]):=by
 refine JM func96 [[none,none,none],[none,some (9,1)]] 27 [D.sl (aB.b.map yx),D.int .i64 aB.i,D.int .i64 aB.h] [] [] fun hr lS Γ hΓ=>?_
 rw[q9]at h;obtain⟨y1,h2,h⟩:=aD h;refine((aY.hp [[none,none,none]] (xp h2)).a [.pb 2 1 9 1,.cn [0,2,4,5,6] [0,1,2,3]]).lp hΓ (Ej hΓ (fun jP jQ jR fC h=>?_) fuel 0 y1.1.b y1.1.i y1.1.h ([]:aG) h);cases h;exact aY.ret hΓ
def pE(aB:Bytes)(aZ:Bytes):Option Int:=(bif Op.bytesLess aB aZ then(some (-1))else(bif !(Op.bytesLess aB aZ||(aB:Bytes)==aZ)then(some 1)else(some 0)))
theorem tT{aB:Bytes}{aZ:Bytes}{r:Int}(h:pE aB aZ=some r):Good prog 199 [D.str aB,D.str aZ] (D.int .i64 r):=by
 refine gd func199 [[none]] 13 fun hr Γ hΓ=>?_
 rw[pE]at h;obtain⟨h1,h⟩|⟨h1,h⟩:=aO h
 ·cases h;exact(aY.b h1).ret hΓ
 ·obtain⟨h2,h⟩|⟨h2,h⟩:=aO h
  ·have h:=aN h;subst h;exact((aY.b h1).b h2).ret hΓ
  ·have h:=aN h;subst h;exact((aY.b h1).b h2).ret hΓ
def iH(aB:Bytes)(aZ:Bytes):Option Int:=((k7 aB).bind fun y1=>((k7 aZ).bind fun y3=>(bif y1.2 then(bif y3.2 then(bif decide ((y1.1:Int)<y3.1)then(some (-1))else(bif !(y3.2)then(some (-1))else(bif decide ((y1.1:Int)>y3.1)then(some 1)else(bif !(y1.2)then(some 1)else(some 0)))))else(bif !(y3.2)then(some (-1))else(some 0)))else(bif y3.2 then(bif !(y1.2)then(some 1)else((pE aB aZ).bind fun Mh=>(some Mh)))else((pE aB aZ).bind fun Jj=>(some Jj))))))
theorem yM{aB:Bytes}{aZ:Bytes}{r:Int}(h:iH aB aZ=some r):Good prog 200 [D.str aB,D.str aZ] (D.int .i64 r):=by
 refine gd func200 [[none]] 54 fun hr Γ hΓ=>?_
 rw[iH]at h;obtain⟨y1,h2,h⟩:=aD h;obtain⟨y3,h4,h⟩:=aD h;have rj:=((aY.g (qw h2)).g (qw h4))
 obtain⟨h5,h⟩|⟨h5,h⟩:=aO h
 ·have kW:=(rj.r 2 h5)
  obtain⟨h6,h⟩|⟨h6,h⟩:=aO h
  ·have kx:=(kW.r 4 h6)
   obtain⟨h7,h⟩|⟨h7,h⟩:=aO h
   ·cases h;exact(kx.r 2 h7).ret hΓ
   ·have lJ:=((kx.b h7).r 3 h5)
    obtain⟨h8,h⟩|⟨h8,h⟩:=aO h
    ·cases h;exact(lJ.b h8).ret hΓ
    ·have tf:=(((lJ.b h8).r 2 h5).r 4 h6)
     obtain⟨h9,h⟩|⟨h9,h⟩:=aO h
     ·have h:=aN h;subst h;exact(tf.r 2 h9).ret hΓ
     ·have xQ:=((tf.b h9).r 3 h6)
      obtain⟨h10,h⟩|⟨h10,h⟩:=aO h
      ·have h:=aN h;subst h;exact(xQ.b h10).ret hΓ
      ·have h:=aN h;subst h;exact((xQ.b h10).b h5).ret hΓ
  ·have Av:=(((kW.r 4 h6).F 1).r 3 h5)
   obtain⟨h11,h⟩|⟨h11,h⟩:=aO h
   ·cases h;exact(Av.b h11).ret hΓ
   ·have h:=aN h;subst h;exact(((((((Av.b h11).r 2 h5).r 4 h6).F 1).r 3 h6).F 1).b h5).ret hΓ
 ·have GX:=((((((rj.r 2 h5).F 5).r 3 h5).F 1).r 2 h5).F 5)
  obtain⟨h12,h⟩|⟨h12,h⟩:=aO h
  ·have JW:=(GX.r 3 h12)
   obtain⟨h13,h⟩|⟨h13,h⟩:=aO h
   ·have h:=aN h;subst h;exact(JW.b h13).ret hΓ
   ·obtain⟨Mh,h15,h⟩:=aD h;have h:=aN h;subst h;exact(((JW.b h13).b h5).g (tT h15)).ret hΓ
  ·obtain⟨Jj,h17,h⟩:=aD h;have h:=aN h;subst h;exact((((GX.r 3 h12).F 1).b h5).g (tT h17)).ret hΓ
def gx(aB:aF)(aZ:aF)(k1:Option Int):aG->Nat->Option Int
 | [],i1=>(k1)
 |bR::cM,i1=>(bif decide (((i1:Int):Int)<((aZ.args.map tx).length:Int))then((iY aZ.args (i1:Int)).bind fun x37=>((iH bR x37).bind fun CR=>(bif (CR:Int) != 0 then(some CR)else(gx aB aZ k1 cM (i1+1)))))else(k1))
def gD(aB:aF)(aZ:aF):Option Int:=(bif !((aB.rel:Bytes)==aZ.rel)then((pE aB.rel aZ.rel).bind fun y2=>(some y2))else(gx aB aZ (bif decide ((((aB.args.map tx).length:Int):Int)<((aZ.args.map tx).length:Int))then(some (-1))else(bif decide ((((aB.args.map tx).length:Int):Int)>((aZ.args.map tx).length:Int))then(some 1)else(some 0))) aB.args 0))
def zm(aB:aF)(aZ:aF)(fS:Int):St:=⟨[(2,D.ptr 0 0),(3,D.ptr 1 0),(5,D.int .i64 fS)],[Ob.box (aF.c aB),Ob.box (aF.c aZ)]⟩
theorem yw(hΓ:Γ.nt=61){aB:aF}{aZ:aF}{r:Int}{k1:Option Int}(gE:k1=some r->Ax Γ N f135 (.q [[none]] (D.int .i64 r)) [1,1,1] ⟨[(2,D.ptr 0 0),(3,D.ptr 1 0)],[Ob.box (aF.c aB),Ob.box (aF.c aZ)]⟩)(hm1:aB.args.length<=maxLen):∀(rest:aG) (i1:Nat),aB.args.drop i1=rest->gx aB aZ k1 rest i1=some r->Ar Γ N f135 (.q [[none]] (D.int .i64 r)) [1,1,0,1,0] (rest.length+1) (zm aB aZ (i1:Int)):=by
 intro rest
 induction rest with
 |nil=>
  intro i1 bD h;rw[gx]at h;refine aX fun N1 dH cW=>?_
  exact((((((((aY.ge tx bD).ge tx bD).ge tx bD).ge tx bD).ge tx bD).ge tx bD).F 1).a [.hl 0 [2,3] [0,1]]).ex hΓ dH (gE h)
 |cons bR cM ih1=>
  intro i1 bD h;rw[gx]at h;refine aX fun N1 dH cW=>?_
  have kx:=((((((aY.lt tx bD).lt tx bD).lt tx bD).lt tx bD).lt tx bD).lt tx bD)
  obtain⟨h36,h⟩|⟨h36,h⟩:=aO h
  ·obtain⟨x37,h38,h⟩:=aD h;obtain⟨CR,h40,h⟩:=aD h;have lJ:=(((((kx.b h36).a [.n 10]).l (bg tx 1 (dc bD) rfl)).l (kG tx 1 h38 rfl)).g (yM h40))
   obtain⟨h41,h⟩|⟨h41,h⟩:=aO h
   ·have h:=aN h;subst h;exact(lJ.b h41).ret hΓ
   ·exact((lJ.b h41).a [.cn [2,3,5] [0,1]]).ct hΓ cW (iS bD hm1) (ih1 (i1+1) (dn bD) h)
  ·exact((kx.b h36).a [.hl 0 [2,3] [0,1]]).ex hΓ dH (gE h)
theorem sC{aB:aF}{aZ:aF}{r:Int}(h:gD aB aZ=some r):Good prog 135 [D.agg (aF.c aB),D.agg (aF.c aZ)] (D.int .i64 r):=by
 refine gd func135 [[none]] 61 fun hr Γ hΓ=>?_
 rw[gD]at h;obtain⟨h1,h⟩|⟨h1,h⟩:=aO h
 ·obtain⟨y2,h3,h⟩:=aD h;have h:=aN h;subst h;exact((aY.b h1).g (tT h3)).ret hΓ
 ·refine((aY.b h1).a [.cn [2,3,5] [0,1]]).lp hΓ (yw hΓ (fun h=>?_) (by have:=(kj.sl (kj.agg (hr _ (aE (i:=0) rfl)) (.sl (aB.args.map tx)) (by simp))).1;simpa using this) aB.args 0 rfl h);obtain⟨h42,h⟩|⟨h42,h⟩:=aO h
  ·cases h;exact(aY.b h42).ret hΓ
  ·obtain⟨h43,h⟩|⟨h43,h⟩:=aO h
   ·have h:=aN h;subst h;exact((aY.b h42).b h43).ret hΓ
   ·have h:=aN h;subst h;exact((aY.b h42).b h43).ret hΓ
def oW(aB:aG):Option aG:=(bif room (([]:List aK).length+(aB.map tx).length) 16 then(some (([]:aG)++aB))else none)
theorem D4{aB:aG}{r:aG}(h:oW aB=some r):Good prog 194 [D.sl (aB.map tx)] (D.fr 9 1 (r.map tx)):=by
 refine gd func194 [[some (9,1)]] 6 fun hr Γ hΓ=>?_
 rw[oW]at h;obtain⟨h1,h⟩:=bh h;cases h;exact(((aY.w (bz h1)).w (show(∀r∈(aB.map tx),r.length=1)/\(true=true->D.oX (aB.map tx)=true)from⟨by first|simp| (intro r hr;obtain⟨x,_,rfl⟩:=cH.1 (bw (j9 hr));rfl),by simp[D.oX,D.flat]⟩)).a [.H8 2,.fl true]).rts hΓ (D.fr 9 1 (([]:List aK)++(aB.map tx))) (by first|rfl| (simp only[mA]<;>rfl))
def eM(aB:aF):Option aF:=((oW aB.args).bind fun y1=>(some (⟨aB.rel,y1⟩:aF)))
theorem kT{aB:aF}{r:aF}(h:eM aB=some r):Good prog 129 [D.agg (aF.c aB)] (D.agg [D.str r.rel,D.fr 9 1 (r.args.map tx)]):=by
 refine gd func129 [[none,some (9,1)]] 9 fun hr Γ hΓ=>?_
 rw[eM]at h;obtain⟨y1,h2,h⟩:=aD h;cases h;exact((aY.a [.n 5]).g (D4 h2)).ret hΓ
def cN(aB:aJ)(aZ:aF)(k1:Bool->aJ->Option aJ):aJ->Nat->Bool->aJ->Option aJ
 | [],i1,cu,bY=>(k1 cu bY)
 |bR::cM,i1,cu,bY=>(bif !(cu)then((gD bR aZ).bind fun a1i=>(bif decide ((a1i:Int)>=0)then((gD bR aZ).bind fun DE=>(bif decide ((DE:Int)>0)then((eM aZ).bind fun LF=>(bif room ((bY.map aF.c).length+([[D.str LF.rel,D.sl (LF.args.map tx)]]).length) 40 then((eM bR).bind fun FO=>(bif room (((bY.map aF.c)++([[D.str LF.rel,D.sl (LF.args.map tx)]])).length+([[D.str FO.rel,D.sl (FO.args.map tx)]]).length) 40 then(cN aB aZ k1 cM (i1+1) true ((bY++([LF]))++([FO])))else none))else none))else((eM bR).bind fun OA=>(bif room ((bY.map aF.c).length+([[D.str OA.rel,D.sl (OA.args.map tx)]]).length) 40 then(cN aB aZ k1 cM (i1+1) true (bY++([OA])))else none))))else((eM bR).bind fun OB=>(bif room ((bY.map aF.c).length+([[D.str OB.rel,D.sl (OB.args.map tx)]]).length) 40 then(cN aB aZ k1 cM (i1+1) cu (bY++([OB])))else none))))else((eM bR).bind fun xf=>(bif room ((bY.map aF.c).length+([[D.str xf.rel,D.sl (xf.args.map tx)]]).length) 40 then(cN aB aZ k1 cM (i1+1) cu (bY++([xf])))else none)))
def pG(aB:aJ)(aZ:aF):Option aJ:=(cN aB aZ (fun(xX:Bool) (kw:aJ)=>(bif !(xX)then((eM aZ).bind fun Qc=>(bif room ((kw.map aF.c).length+([[D.str Qc.rel,D.sl (Qc.args.map tx)]]).length) 40 then(some (kw++([Qc])))else none))else(some kw))) aB 0 false ([]:aJ))
def pq(aB:aJ)(aZ:aF)(cu:Bool)(W1:List aK)(fS:Int):St:=⟨[(0,D.sl (aB.map aF.c)),(3,D.ptr 0 0),(5,D.acc 1),(6,D.bool cu),(7,D.int .i64 fS)],[Ob.box (aF.c aZ),Ob.row .uq 37 2 W1]⟩
theorem Fy(hΓ:Γ.nt=54){aB:aJ}{aZ:aF}{r:aJ}{k1:Bool->aJ->Option aJ}(gE:∀(xX:Bool) (kw:aJ),k1 xX kw=some r->Ax Γ N f86 (.q [[some (37,2)]] (D.fr 37 2 (r.map aF.c))) [1,1,1,1] ⟨[(3,D.ptr 0 0),(5,D.acc 1),(6,D.bool xX)],[Ob.box (aF.c aZ),Ob.row .uq 37 2 (kw.map aF.c)]⟩)(hm1:aB.length<=maxLen):∀(rest:aJ) (i1:Nat) (cu:Bool) (bY:aJ),aB.drop i1=rest->cN aB aZ k1 rest i1 cu bY=some r->Ar Γ N f86 (.q [[some (37,2)]] (D.fr 37 2 (r.map aF.c))) [1,1,1,0,1,0] (rest.length+1) (pq aB aZ cu (bY.map aF.c) (i1:Int)):=by
 intro rest
 induction rest with
 |nil=>
  intro i1 cu bY bD h;rw[cN]at h;refine aX fun N1 dH cW=>?_
  exact((aY.ge aF.c bD).a [.hl 0 [3,5,6] [0,1]]).ex hΓ dH (gE cu bY h)
 |cons bR cM ih1=>
  intro i1 cu bY bD h;rw[cN]at h;refine aX fun N1 dH cW=>?_
  have lJ:=((aY.lt aF.c bD).a [.n 8])
  obtain⟨h128,h⟩|⟨h128,h⟩:=aO h
  ·obtain⟨a1i,h130,h⟩:=aD h;have tf:=(((((lJ.r 3 h128).l (bg aF.c 2 (dc bD) rfl)).r 3 h128).g (sC h130)).r 2 h128)
   obtain⟨h131,h⟩|⟨h131,h⟩:=aO h
   ·obtain⟨DE,h133,h⟩:=aD h;have xQ:=((((tf.b h131).a [.n 5]).l (bg aF.c 2 (dc bD) rfl)).g (sC h133))
    obtain⟨h134,h⟩|⟨h134,h⟩:=aO h
    ·obtain⟨LF,h136,h⟩:=aD h;obtain⟨h137,h⟩:=bh h;obtain⟨FO,h139,h⟩:=aD h;obtain⟨h140,h⟩:=bh h;exact(((((((xQ.b h134).g (kT h136)).w (bz h137)).l (bg aF.c 2 (dc bD) rfl)).g (kT h139)).w (bz h140)).a [.cn [0,3,5,6,7] [0,7]]).cs hΓ cW (pq aB aZ true (((bY.map aF.c)++([[D.str LF.rel,D.sl (LF.args.map tx)]]))++([[D.str FO.rel,D.sl (FO.args.map tx)]])) (IntKind.i64.wrap ((i1:Int)+1))) (by first| (simp only[iS bD hm1,mA]<;>rfl)| (simp only[iS bD hm1,mA,aF.c,aa.c,aM.c,Action.c,aL.c,aW.c,fH.c,ah.c,Node.c,aI.c,fP.c]<;>rfl)) (ih1 (i1+1) true ((bY++([LF]))++([FO])) (dn bD) h)
    ·obtain⟨OA,h142,h⟩:=aD h;obtain⟨h143,h⟩:=bh h;exact(((((xQ.b h134).l (bg aF.c 2 (dc bD) rfl)).g (kT h142)).w (bz h143)).a [.cn [0,3,5,6,7] [0,4]]).cs hΓ cW (pq aB aZ true ((bY.map aF.c)++([[D.str OA.rel,D.sl (OA.args.map tx)]])) (IntKind.i64.wrap ((i1:Int)+1))) (by first| (simp only[iS bD hm1,mA]<;>rfl)| (simp only[iS bD hm1,mA,aF.c,aa.c,aM.c,Action.c,aL.c,aW.c,fH.c,ah.c,Node.c,aI.c,fP.c]<;>rfl)) (ih1 (i1+1) true (bY++([OA])) (dn bD) h)
   ·obtain⟨OB,h145,h⟩:=aD h;obtain⟨h146,h⟩:=bh h;exact(((((tf.b h131).l (bg aF.c 2 (dc bD) rfl)).g (kT h145)).w (bz h146)).a [.cn [0,3,5,6,7] [0,4]]).cs hΓ cW (pq aB aZ cu ((bY.map aF.c)++([[D.str OB.rel,D.sl (OB.args.map tx)]])) (IntKind.i64.wrap ((i1:Int)+1))) (by first| (simp only[iS bD hm1,mA]<;>rfl)| (simp only[iS bD hm1,mA,aF.c,aa.c,aM.c,Action.c,aL.c,aW.c,fH.c,ah.c,Node.c,aI.c,fP.c]<;>rfl)) (ih1 (i1+1) cu (bY++([OB])) (dn bD) h)
  ·obtain⟨xf,h148,h⟩:=aD h;obtain⟨h149,h⟩:=bh h;exact((((((lJ.r 8 h128).F 1).l (bg aF.c 2 (dc bD) rfl)).g (kT h148)).w (bz h149)).a [.cn [0,3,5,6,7] [0,4]]).cs hΓ cW (pq aB aZ cu ((bY.map aF.c)++([[D.str xf.rel,D.sl (xf.args.map tx)]])) (IntKind.i64.wrap ((i1:Int)+1))) (by first| (simp only[iS bD hm1,mA]<;>rfl)| (simp only[iS bD hm1,mA,aF.c,aa.c,aM.c,Action.c,aL.c,aW.c,fH.c,ah.c,Node.c,aI.c,fP.c]<;>rfl)) (ih1 (i1+1) cu (bY++([xf])) (dn bD) h)
theorem Ek{aB:aJ}{aZ:aF}{r:aJ}(h:pG aB aZ=some r):Good prog 86 [D.sl (aB.map aF.c),D.agg (aF.c aZ)] (D.fr 37 2 (r.map aF.c)):=by
 refine gd func86 [[some (37,2)]] 54 fun hr Γ hΓ=>?_
 rw[pG]at h;refine(aY.a [.cn [0,3,5,6,7] [0,1]]).lp hΓ (Fy hΓ (fun xX kw h=>?_) (by have:=(kj.sl (hr _ (aE (i:=0) rfl))).1;simpa using this) aB 0 false ([]:aJ) rfl h);obtain⟨h150,h⟩|⟨h150,h⟩:=aO h
 ·obtain⟨Qc,h152,h⟩:=aD h;obtain⟨h153,h⟩:=bh h;cases h;exact(((aY.b h150).g (kT h152)).w (bz h153)).rts hΓ (D.fr 37 2 ((kw.map aF.c)++([[D.str Qc.rel,D.sl (Qc.args.map tx)]]))) (by first|rfl| (simp only[mA]<;>rfl))
 ·have h:=aN h;subst h;exact(aY.b h150).ret hΓ
def k8(k1:b9->Int->Int->aJ->Option (cS×aJ)):Nat->Int->b9->Int->Int->aJ->Option (cS×aJ)
 |0,_,_,_,_,_=>none
 |n1+1,cu,dW,cj,ck,bY=>(bif decide ((cu:Int)>0)then((q9 (⟨dW,cj,ck⟩:cS)).bind fun LG=>((pG bY LG.2).bind fun LH=>(k8 k1 n1 (IntKind.i64.wrap (cu-1)) LG.1.b LG.1.i LG.1.h LH)))else(k1 dW cj ck bY))
def tV(aB:cS)(aZ:Int):Option (cS×aJ):=((eE aB (IntKind.i64.wrap (aZ+1))).bind fun y1=>(k8 (fun(jP:b9) (jQ:Int) (jR:Int) (kw:aJ)=>(some ((⟨jP,jQ,jR⟩:cS),kw))) fuel y1.2 y1.1.b y1.1.i y1.1.h ([]:aJ)))
def Gt(lS:Value)(cu:Int)(cj:Int)(ck:Int)(W1:List aK)(W4:List aK):St:=⟨[(0,D.ptr 0 0),(5,D.acc 1),(6,D.int .i64 cu)],[Ob.DA [D.sl W1,D.int .i64 cj,D.int .i64 ck] lS,Ob.row .uq 37 2 W4]⟩
theorem Fz(hΓ:Γ.nt=21){lS:Value}{r:cS×aJ}{k1:b9->Int->Int->aJ->Option (cS×aJ)}(gE:∀(jP:b9) (jQ:Int) (jR:Int) (kw:aJ),k1 jP jQ jR kw=some r->Ax Γ N f47 (.p [[none,none,none],[some (37,2)]] lS (cS.c r.1) (D.fr 37 2 (r.2.map aF.c))) [1,1,1] ⟨[(5,D.acc 1)],[Ob.DA [D.sl (jP.map yx),D.int .i64 jQ,D.int .i64 jR] lS,Ob.row .uq 37 2 (kw.map aF.c)]⟩):∀(n1:Nat) (cu:Int) (dW:b9) (cj:Int) (ck:Int) (bY:aJ),k8 k1 n1 cu dW cj ck bY=some r->Ar Γ N f47 (.p [[none,none,none],[some (37,2)]] lS (cS.c r.1) (D.fr 37 2 (r.2.map aF.c))) [1,1,0,1,0] n1 (Gt lS cu cj ck (dW.map yx) (bY.map aF.c)):=by
 intro n
 induction n with
 |zero=>intro cu dW cj ck bY h;simp[k8]at h
 |succ n1 ih1=>
  intro cu dW cj ck bY h;rw[k8]at h;refine aX fun N1 dH cW=>?_
  obtain⟨h18,h⟩|⟨h18,h⟩:=aO h
  ·obtain⟨LG,h20,h⟩:=aD h;obtain⟨LH,h22,h⟩:=aD h;exact(((((aY.b h18).a [.gp [[none,none,none]] (cS.c LG.1) (D.agg [D.str LG.2.rel,D.fr 9 1 (LG.2.args.map tx)])]).w (show kD prog 96 (cS.c (⟨dW,cj,ck⟩:cS)) (cS.c LG.1) [] (D.agg [D.str LG.2.rel,D.fr 9 1 (LG.2.args.map tx)])from by simpa only[bP,bO,cA,br,bt]using Du h20)).g (Ek h22)).a [.cn [0,5,6] [0,3]]).cf hΓ cW (ih1 (IntKind.i64.wrap (cu-1)) LG.1.b LG.1.i LG.1.h LH h)
  ·exact((aY.b h18).a [.hl 0 [5] [0,1]]).ex hΓ dH (gE dW cj ck bY h)
theorem El{aB:cS}{aZ:Int}{r:cS×aJ}(h:tV aB aZ=some r):kD prog 47 (cS.c aB) (cS.c r.1) [D.int .i64 aZ] (D.fr 37 2 (r.2.map aF.c)):=by
 refine JM func47 [[none,none,none],[some (37,2)]] 21 [D.sl (aB.b.map yx),D.int .i64 aB.i,D.int .i64 aB.h] [D.int .i64 aZ] [] fun hr lS Γ hΓ=>?_
 rw[tV]at h;obtain⟨y1,h2,h⟩:=aD h;refine((aY.hp [[none,none,none],[none]] (dS h2)).a [.cn [0,5,6] [0,1]]).lp hΓ (Fz hΓ (fun jP jQ jR kw h=>?_) fuel y1.2 y1.1.b y1.1.i y1.1.h ([]:aJ) h);cases h;exact aY.ret hΓ
def lW(aB:b9):Option (ar×aJ):=((tU aB).bind fun y1=>((tW y1 3).bind fun y3=>((tV y3.1 6).bind fun y5=>(some (y3.2,y5.2)))))
theorem yN{aB:b9}{r:ar×aJ}(h:lW aB=some r):Good prog 11 [D.sl (aB.map yx)] (D.iQ [D.fr 80 4 (r.1.map aL.c),D.fr 37 2 (r.2.map aF.c)]):=by
 refine gd func11 [[some (80,4)],[some (37,2)]] 11 fun hr Γ hΓ=>?_
 rw[lW]at h;obtain⟨y1,h2,h⟩:=aD h;obtain⟨y3,h4,h⟩:=aD h;obtain⟨y5,h6,h⟩:=aD h;cases h;exact(((aY.hn (Ei h2)).hp [[none,none,none],[none]] (En h4)).hp [[none,none,none],[none]] (El h6)).ret hΓ
def fI(aB:Bytes)(k1:Option Bool):Nat->Int->Option Bool
 |0,_=>none
 |n1+1,kB=>(bif decide ((kB:Int)<(aB.length:Int))then((iY aB kB).bind fun XU=>(bif decide ((XU.toNat:Int)<97)then(bif decide ((XU.toNat:Int)<48)then(some false)else(bif decide ((XU.toNat:Int)>57)then(some false)else(fI aB k1 n1 (IntKind.i64.wrap (kB+1)))))else(bif decide ((XU.toNat:Int)>122)then(bif decide ((XU.toNat:Int)<48)then(some false)else(bif decide ((XU.toNat:Int)>57)then(some false)else(fI aB k1 n1 (IntKind.i64.wrap (kB+1)))))else(fI aB k1 n1 (IntKind.i64.wrap (kB+1))))))else(k1))
def eb(aB:Bytes):Option Bool:=(bif decide (((aB.length:Int):Int)<1)then(some false)else(bif decide (((aB.length:Int):Int)>8)then(some false)else(fI aB (some true) fuel 0)))
def Fg(aB:Bytes)(kB:Int):St:=⟨[(0,D.str aB),(3,D.int .i64 kB)],[]⟩
theorem EQ(hΓ:Γ.nt=40){aB:Bytes}{r:Bool}{k1:Option Bool}(gE:k1=some r->Ax Γ N f174 (.q [[none]] (D.bool r)) [1,1,1] ⟨[],[]⟩):∀(n1:Nat) (kB:Int),fI aB k1 n1 kB=some r->Ar Γ N f174 (.q [[none]] (D.bool r)) [1,1,0,1,0] n1 (Fg aB kB):=by
 intro n
 induction n with
 |zero=>intro kB h;simp[fI]at h
 |succ n1 ih1=>
  intro kB h;rw[fI]at h;refine aX fun N1 dH cW=>?_
  obtain⟨h30,h⟩|⟨h30,h⟩:=aO h
  ·obtain⟨XU,h32,h⟩:=aD h;have Av:=((aY.b h30).c h32)
   obtain⟨h33,h⟩|⟨h33,h⟩:=aO h
   ·have GX:=((((Av.r 5 h33).T 3).c h32).T 2)
    obtain⟨h34,h⟩|⟨h34,h⟩:=aO h
    ·have h:=aN h;subst h;exact((((GX.r 4 h34).T 1).b h34).T 2).ret hΓ
    ·have JW:=((((((GX.r 3 h34).c h32).b h34).T 1).b h34).T 1)
     obtain⟨h35,h⟩|⟨h35,h⟩:=aO h
     ·have h:=aN h;subst h;exact(JW.b h35).ret hΓ
     ·exact((JW.b h35).a [.cn [0,3] []]).cf hΓ cW (ih1 (IntKind.i64.wrap (kB+1)) h)
   ·have F9:=(((Av.r 3 h33).c h32).r 2 h33)
    obtain⟨h36,h⟩|⟨h36,h⟩:=aO h
    ·have IM:=(((F9.r 3 h36).c h32).r 2 h36)
     obtain⟨h37,h⟩|⟨h37,h⟩:=aO h
     ·have h:=aN h;subst h;exact(((((IM.r 4 h37).b h36).b h37).b h36).T 1).ret hΓ
     ·have E8:=((((((IM.r 3 h37).c h32).b h37).b h36).b h37).b h36)
      obtain⟨h38,h⟩|⟨h38,h⟩:=aO h
      ·have h:=aN h;subst h;exact(E8.b h38).ret hΓ
      ·exact((E8.b h38).a [.cn [0,3] []]).cf hΓ cW (ih1 (IntKind.i64.wrap (kB+1)) h)
    ·exact(((F9.r 7 h36).F 1).a [bF,bF,bF,bF,.cn [0,3] []]).cf hΓ cW (ih1 (IntKind.i64.wrap (kB+1)) h)
  ·exact((aY.b h30).a [.hl 0 [] []]).ex hΓ dH (gE h)
theorem eC{aB:Bytes}{r:Bool}(h:eb aB=some r):Good prog 174 [D.str aB] (D.bool r):=by
 refine gd func174 [[none]] 40 fun hr Γ hΓ=>?_
 rw[eb]at h;obtain⟨h1,h⟩|⟨h1,h⟩:=aO h
 ·have h:=aN h;subst h;exact((aY.r 4 h1).T 1).ret hΓ
 ·have IN:=(aY.r 4 h1)
  obtain⟨h2,h⟩|⟨h2,h⟩:=aO h
  ·have h:=aN h;subst h;exact(IN.b h2).ret hΓ
  ·refine((IN.b h2).a [.cn [0,3] []]).lp hΓ (EQ hΓ (fun h=>?_) fuel 0 h);have h:=aN h;subst h;exact aY.ret hΓ
def nq(aB:Bytes):Option Bool:=((eb aB).bind fun y1=>(bif y1 then((iY aB 0).bind fun b4=>(some (decide ((b4.toNat:Int)>=97))))else(some false)))
theorem kH{aB:Bytes}{r:Bool}(h:nq aB=some r):Good prog 158 [D.str aB] (D.bool r):=by
 refine gd func158 [[none]] 10 fun hr Γ hΓ=>?_
 rw[nq]at h;obtain⟨y1,h2,h⟩:=aD h;obtain⟨h3,h⟩|⟨h3,h⟩:=aO h
 ·obtain⟨b4,h5,h⟩:=aD h;cases h;exact((((aY.g (eC h2)).r 2 h3).c h5).r 2 h3).ret hΓ
 ·have h:=aN h;subst h;exact((aY.g (eC h2)).r 4 h3).ret hΓ
def jW(aB:Bytes):Option Bool:=(bif decide (((aB.length:Int):Int)>1)then((iY aB 0).bind fun b2=>(bif (b2.toNat:Int)==63 then((Ay aB.length (some (D.int .i64 1)) none).bind fun p=>(fun l5 u6=>((eb ((aB.take u6).drop l5)).bind fun y8=>(some y8))) p.1 p.2)else(some false)))else(some false))
theorem l7{aB:Bytes}{r:Bool}(h:jW aB=some r):Good prog 187 [D.str aB] (D.bool r):=by
 refine gd func187 [[none]] 16 fun hr Γ hΓ=>?_
 rw[jW]at h;obtain⟨h1,h⟩|⟨h1,h⟩:=aO h
 ·obtain⟨b2,h3,h⟩:=aD h;have rj:=(((aY.r 2 h1).c h3).r 2 h1)
  obtain⟨h4,h⟩|⟨h4,h⟩:=aO h
  ·obtain⟨⟨l5,u6⟩,h7,h⟩:=aD h;obtain⟨y8,h9,h⟩:=aD h;have h:=aN h;subst h;exact((((((rj.r 2 h4).w h7).a [.cut l5 u6]).b h4).g (eC h9)).b h4).ret hΓ
  ·have h:=aN h;subst h;exact(rj.r 4 h4).ret hΓ
 ·have h:=aN h;subst h;exact((aY.r 4 h1).F 4).ret hΓ
def ga(aB:Bytes):Option Bool:=((eb aB).bind fun y1=>(bif y1 then(some true)else((jW aB).bind fun y4=>(some y4))))
theorem iq{aB:Bytes}{r:Bool}(h:ga aB=some r):Good prog 179 [D.str aB] (D.bool r):=by
 refine gd func179 [[none]] 9 fun hr Γ hΓ=>?_
 rw[ga]at h;obtain⟨y1,h2,h⟩:=aD h;obtain⟨h3,h⟩|⟨h3,h⟩:=aO h
 ·have h:=aN h;subst h;exact((aY.g (eC h2)).r 3 h3).ret hΓ
 ·obtain⟨y4,h5,h⟩:=aD h;have h:=aN h;subst h;exact((((aY.g (eC h2)).r 2 h3).g (l7 h5)).b h3).ret hΓ
def jm(aB:aF)(k1:Option Bool):aG->Nat->Option Bool
 | [],i1=>(k1)
 |bR::cM,i1=>((ga bR).bind fun sv=>(bif !(sv)then(some false)else(jm aB k1 cM (i1+1))))
def gm(aB:aF):Option Bool:=((nq aB.rel).bind fun y1=>(bif !(y1)then(some false)else(bif decide ((((aB.args.map tx).length:Int):Int)>3)then(some false)else(jm aB (some true) aB.args 0))))
def CZ(aB:aF)(fS:Int):St:=⟨[(16,D.sl (aB.args.map tx)),(17,D.int .i64 ((aB.args.map tx).length:Int)),(18,D.int .i64 fS)],[]⟩
theorem BI(hΓ:Γ.nt=26){aB:aF}{r:Bool}{k1:Option Bool}(gE:k1=some r->Ax Γ N f178 (.q [[none]] (D.bool r)) [1,1,1] ⟨[],[]⟩)(hm1:aB.args.length<=maxLen):∀(rest:aG) (i1:Nat),aB.args.drop i1=rest->jm aB k1 rest i1=some r->Ar Γ N f178 (.q [[none]] (D.bool r)) [1,1,0,1,0] (rest.length+1) (CZ aB (i1:Int)):=by
 intro rest
 induction rest with
 |nil=>
  intro i1 bD h;rw[jm]at h;refine aX fun N1 dH cW=>?_
  exact((aY.ge tx bD).a [.hl 0 [] []]).ex hΓ dH (gE h)
 |cons bR cM ih1=>
  intro i1 bD h;rw[jm]at h;refine aX fun N1 dH cW=>?_
  obtain⟨sv,h26,h⟩:=aD h;have kW:=(((aY.lt tx bD).l (bg tx 1 (dc bD) rfl)).g (iq h26))
  obtain⟨h27,h⟩|⟨h27,h⟩:=aO h
  ·have h:=aN h;subst h;exact(kW.b h27).ret hΓ
  ·exact((kW.b h27).a [.cn [16,17,18] []]).ct hΓ cW (iS bD hm1) (ih1 (i1+1) (dn bD) h)
theorem iN{aB:aF}{r:Bool}(h:gm aB=some r):Good prog 178 [D.agg (aF.c aB)] (D.bool r):=by
 refine gd func178 [[none]] 26 fun hr Γ hΓ=>?_
 rw[gm]at h;obtain⟨y1,h2,h⟩:=aD h;obtain⟨h3,h⟩|⟨h3,h⟩:=aO h
 ·have h:=aN h;subst h;exact(((aY.g (kH h2)).r 5 h3).T 1).ret hΓ
 ·have kx:=((aY.g (kH h2)).r 5 h3)
  obtain⟨h4,h⟩|⟨h4,h⟩:=aO h
  ·have h:=aN h;subst h;exact(kx.b h4).ret hΓ
  ·refine((kx.b h4).a [.cn [16,17,18] []]).lp hΓ (BI hΓ (fun h=>?_) (by have:=(kj.sl (kj.agg (hr _ (aE (i:=0) rfl)) (.sl (aB.args.map tx)) (by simp))).1;simpa using this) aB.args 0 rfl h);have h:=aN h;subst h;exact aY.ret hΓ
def gV(aB:aF):Option Bool:=(bif (aB.rel:Bytes)==([])then(some ((((aB.args.map tx).length:Int):Int)==0))else(some false))
theorem lE{aB:aF}{r:Bool}(h:gV aB=some r):Good prog 180 [D.agg (aF.c aB)] (D.bool r):=by
 refine gd func180 [[none]] 12 fun hr Γ hΓ=>?_
 rw[gV]at h;obtain⟨h1,h⟩|⟨h1,h⟩:=aO h
 ·cases h;exact(aY.r 5 h1).ret hΓ
 ·have h:=aN h;subst h;exact(aY.r 5 h1).ret hΓ
def nk(aB:aM):Option Bool:=(bif (aB.kind:Int)==1 then((gm aB.pat).bind fun y2=>(bif y2 then(bif (aB.left:Bytes)==([])then(some ((aB.right:Bytes)==([])))else(some false))else(some false)))else(bif (aB.kind:Int)==2 then((gm aB.pat).bind fun y7=>(bif y7 then(bif (aB.left:Bytes)==([])then(some ((aB.right:Bytes)==([])))else(some false))else(some false)))else(bif (aB.kind:Int)==3 then((ga aB.left).bind fun Qp=>(bif Qp then((ga aB.right).bind fun XF=>(bif XF then((gV aB.pat).bind fun U8=>(some U8))else(some false)))else(some false)))else(bif (aB.kind:Int)==4 then((ga aB.left).bind fun LH=>(bif LH then((ga aB.right).bind fun Mi=>(bif Mi then((gV aB.pat).bind fun oc=>(some oc))else(some false)))else(some false)))else(bif (aB.kind:Int)==5 then((ga aB.left).bind fun vg=>(bif vg then((ga aB.right).bind fun vJ=>(bif vJ then((gV aB.pat).bind fun Mj=>(some Mj))else(some false)))else(some false)))else(some false))))))
theorem mc{aB:aM}{r:Bool}(h:nk aB=some r):Good prog 115 [D.agg (aM.c aB)] (D.bool r):=by
 refine gd func115 [[none]] 38 fun hr Γ hΓ=>?_
 rw[nk]at h;obtain⟨h1,h⟩|⟨h1,h⟩:=aO h
 ·obtain⟨y2,h3,h⟩:=aD h;have rj:=((aY.r 2 h1).g (iN h3))
  obtain⟨h4,h⟩|⟨h4,h⟩:=aO h
  ·have kW:=(rj.r 4 h4)
   obtain⟨h5,h⟩|⟨h5,h⟩:=aO h
   ·cases h;exact(kW.r 4 h5).ret hΓ
   ·have h:=aN h;subst h;exact(kW.r 4 h5).ret hΓ
  ·have h:=aN h;subst h;exact((rj.r 4 h4).F 4).ret hΓ
 ·obtain⟨h6,h⟩|⟨h6,h⟩:=aO h
  ·obtain⟨y7,h8,h⟩:=aD h;have kx:=(((aY.b h1).b h6).g (iN h8))
   obtain⟨h9,h⟩|⟨h9,h⟩:=aO h
   ·have lJ:=(kx.r 4 h9)
    obtain⟨h10,h⟩|⟨h10,h⟩:=aO h
    ·cases h;exact(lJ.r 4 h10).ret hΓ
    ·have h:=aN h;subst h;exact(lJ.r 4 h10).ret hΓ
   ·have h:=aN h;subst h;exact((kx.r 4 h9).F 4).ret hΓ
  ·have tf:=((aY.b h1).b h6)
   obtain⟨h11,h⟩|⟨h11,h⟩:=aO h
   ·obtain⟨Qp,h13,h⟩:=aD h;have xQ:=((tf.r 2 h11).g (iq h13))
    obtain⟨h14,h⟩|⟨h14,h⟩:=aO h
    ·obtain⟨XF,h16,h⟩:=aD h;have Av:=(((xQ.r 3 h14).g (iq h16)).b h14)
     obtain⟨h17,h⟩|⟨h17,h⟩:=aO h
     ·obtain⟨U8,h19,h⟩:=aD h;have h:=aN h;subst h;exact(((Av.r 3 h17).g (lE h19)).b h17).ret hΓ
     ·have h:=aN h;subst h;exact(Av.r 4 h17).ret hΓ
    ·have h:=aN h;subst h;exact((xQ.r 4 h14).F 4).ret hΓ
   ·obtain⟨h20,h⟩|⟨h20,h⟩:=aO h
    ·obtain⟨LH,h22,h⟩:=aD h;have GX:=(((tf.b h11).r 2 h20).g (iq h22))
     obtain⟨h23,h⟩|⟨h23,h⟩:=aO h
     ·obtain⟨Mi,h25,h⟩:=aD h;have JW:=(((GX.r 3 h23).g (iq h25)).b h23)
      obtain⟨h26,h⟩|⟨h26,h⟩:=aO h
      ·obtain⟨oc,h28,h⟩:=aD h;have h:=aN h;subst h;exact(((JW.r 3 h26).g (lE h28)).b h26).ret hΓ
      ·have h:=aN h;subst h;exact(JW.r 4 h26).ret hΓ
     ·have h:=aN h;subst h;exact((GX.r 4 h23).F 4).ret hΓ
    ·have F9:=((tf.b h11).b h20)
     obtain⟨h29,h⟩|⟨h29,h⟩:=aO h
     ·obtain⟨vg,h31,h⟩:=aD h;have IM:=((F9.b h29).g (iq h31))
      obtain⟨h32,h⟩|⟨h32,h⟩:=aO h
      ·obtain⟨vJ,h34,h⟩:=aD h;have E8:=(((IM.r 3 h32).g (iq h34)).b h32)
       obtain⟨h35,h⟩|⟨h35,h⟩:=aO h
       ·obtain⟨Mj,h37,h⟩:=aD h;have h:=aN h;subst h;exact(((E8.r 3 h35).g (lE h37)).b h35).ret hΓ
       ·have h:=aN h;subst h;exact(E8.r 4 h35).ret hΓ
      ·have h:=aN h;subst h;exact((IM.r 4 h32).F 4).ret hΓ
     ·have h:=aN h;subst h;exact(F9.b h29).ret hΓ
def fA(aB:aG)(k1:aG->Option aG):aG->Nat->aG->Option aG
 | [],i1,bN=>(k1 bN)
 |bR::cM,i1,bN=>((jW bR).bind fun Qd=>(bif Qd then(bif room ((bN.map tx).length+([[D.str bR]]).length) 16 then(fA aB k1 cM (i1+1) (bN++([bR])))else none)else(fA aB k1 cM (i1+1) bN)))
def kN(aB:aG):Option aG:=(fA aB (fun(cK:aG)=>(some cK)) aB 0 ([]:aG))
def vv(aB:aG)(W0:List aK)(fS:Int):St:=⟨[(3,D.acc 0),(6,D.sl (aB.map tx)),(7,D.int .i64 ((aB.map tx).length:Int)),(8,D.int .i64 fS)],[Ob.row .uq 9 1 W0]⟩
theorem Ba(hΓ:Γ.nt=20){aB:aG}{r:aG}{k1:aG->Option aG}(gE:∀(cK:aG),k1 cK=some r->Ax Γ N f162 (.q [[some (9,1)]] (D.fr 9 1 (r.map tx))) [1,1,1] ⟨[(3,D.acc 0)],[Ob.row .uq 9 1 (cK.map tx)]⟩)(hm1:aB.length<=maxLen):∀(rest:aG) (i1:Nat) (bN:aG),aB.drop i1=rest->fA aB k1 rest i1 bN=some r->Ar Γ N f162 (.q [[some (9,1)]] (D.fr 9 1 (r.map tx))) [1,1,0,1,0] (rest.length+1) (vv aB (bN.map tx) (i1:Int)):=by
 intro rest
 induction rest with
 |nil=>
  intro i1 bN bD h;rw[fA]at h;refine aX fun N1 dH cW=>?_
  exact((aY.ge tx bD).a [.hl 0 [3] [0]]).ex hΓ dH (gE bN h)
 |cons bR cM ih1=>
  intro i1 bN bD h;rw[fA]at h;refine aX fun N1 dH cW=>?_
  obtain⟨Qd,h33,h⟩:=aD h;have kW:=(((aY.lt tx bD).l (bg tx 1 (dc bD) rfl)).g (l7 h33))
  obtain⟨h34,h⟩|⟨h34,h⟩:=aO h
  ·obtain⟨h35,h⟩:=bh h;exact(((kW.b h34).w (bz h35)).a [.cn [3,6,7,8] [2]]).cs hΓ cW (vv aB ((bN.map tx)++([[D.str bR]])) (IntKind.i64.wrap ((i1:Int)+1))) (by first| (simp only[iS bD hm1,mA]<;>rfl)| (simp only[iS bD hm1,mA,aF.c,aa.c,aM.c,Action.c,aL.c,aW.c,fH.c,ah.c,Node.c,aI.c,fP.c]<;>rfl)) (ih1 (i1+1) (bN++([bR])) (dn bD) h)
  ·exact((kW.b h34).a [.cn [3,6,7,8] [0]]).ct hΓ cW (iS bD hm1) (ih1 (i1+1) bN (dn bD) h)
theorem qN{aB:aG}{r:aG}(h:kN aB=some r):Good prog 162 [D.sl (aB.map tx)] (D.fr 9 1 (r.map tx)):=by
 refine gd func162 [[some (9,1)]] 20 fun hr Γ hΓ=>?_
 rw[kN]at h;refine(aY.a [.H8 3,.cn [3,6,7,8] [0]]).lp hΓ (Ba hΓ (fun cK h=>?_) (by have:=(kj.sl (hr _ (aE (i:=0) rfl))).1;simpa using this) aB 0 ([]:aG) rfl h);have h:=aN h;subst h;exact aY.ret hΓ
def dK(aB:aG)(k1:aG->Option aG):aG->Nat->aG->Option aG
 | [],i1,bY=>(k1 bY)
 |bR::cM,i1,bY=>(bif ((i1:Int):Int)==0 then(bif room ((bY.map tx).length+([[D.str bR]]).length) 16 then(dK aB k1 cM (i1+1) (bY++([bR])))else none)else((iY (lK (([]:aG)++aB)) (IntKind.i64.wrap ((i1:Int)-1))).bind fun x47=>(bif !((x47:Bytes)==bR)then(bif room ((bY.map tx).length+([[D.str bR]]).length) 16 then(dK aB k1 cM (i1+1) (bY++([bR])))else none)else(dK aB k1 cM (i1+1) bY))))
def iv(aB:aG):Option aG:=(bif room (([]:List aK).length+(aB.map tx).length) 16 then(bif decide ((([]:aG)++aB).length<4611686018427387904)then(bif decide ((lK (([]:aG)++aB)).length<=maxLen)then(dK aB (fun(cK:aG)=>(some cK)) (lK (([]:aG)++aB)) 0 ([]:aG))else none)else none)else none)
def qK(aB:aG)(W0:List aK)(fS:Int):St:=⟨[(3,D.acc 0),(4,D.acc 1),(11,D.acc 0),(12,D.int .i64 (((lK (([]:aG)++aB)).map tx).length:Int)),(13,D.int .i64 fS)],[Ob.row .uq 9 1 ((lK (([]:aG)++aB)).map tx),Ob.row .uq 9 1 W0]⟩
theorem zb(hΓ:Γ.nt=35){aB:aG}{r:aG}{k1:aG->Option aG}(gE:∀(cK:aG),k1 cK=some r->Ax Γ N f164 (.q [[some (9,1)]] (D.fr 9 1 (r.map tx))) [1,1,1,1,1] ⟨[(4,D.acc 0)],[Ob.row .uq 9 1 (cK.map tx)]⟩)(hm1:(lK (([]:aG)++aB)).length<=maxLen):∀(rest:aG) (i1:Nat) (bY:aG),(lK (([]:aG)++aB)).drop i1=rest->dK aB k1 rest i1 bY=some r->Ar Γ N f164 (.q [[some (9,1)]] (D.fr 9 1 (r.map tx))) [1,1,1,1,0,1,0] (rest.length+1) (qK aB (bY.map tx) (i1:Int)):=by
 intro rest
 induction rest with
 |nil=>
  intro i1 bY bD h;rw[dK]at h;refine aX fun N1 dH cW=>?_
  exact((aY.ge tx bD).a [.hl 0 [4] [1]]).ex hΓ dH (gE bY h)
 |cons bR cM ih1=>
  intro i1 bY bD h;rw[dK]at h;refine aX fun N1 dH cW=>?_
  have kx:=(((aY.lt tx bD).i (mw tx 1 (dc bD))).o 1 1 .uq (cP tx (dc bD)))
  obtain⟨h45,h⟩|⟨h45,h⟩:=aO h
  ·obtain⟨h46,h⟩:=bh h;exact((((kx.r 8 h45).T 1).w (bz h46)).a [.cn [3,4,11,12,13] [0,3]]).cs hΓ cW (qK aB ((bY.map tx)++([[D.str bR]])) (IntKind.i64.wrap ((i1:Int)+1))) (by first| (simp only[iS bD hm1,mA]<;>rfl)| (simp only[iS bD hm1,mA,aF.c,aa.c,aM.c,Action.c,aL.c,aW.c,fH.c,ah.c,Node.c,aI.c,fP.c]<;>rfl)) (ih1 (i1+1) (bY++([bR])) (dn bD) h)
  ·obtain⟨x47,h48,h⟩:=aD h;have lJ:=(((((kx.r 4 h45).i (iV tx 1 h48)).b h45).o 1 1 .uq (cP tx (fQ h48))).r 3 h45)
   obtain⟨h49,h⟩|⟨h49,h⟩:=aO h
   ·obtain⟨h50,h⟩:=bh h;exact(((lJ.b h49).w (bz h50)).a [.cn [3,4,11,12,13] [0,3]]).cs hΓ cW (qK aB ((bY.map tx)++([[D.str bR]])) (IntKind.i64.wrap ((i1:Int)+1))) (by first| (simp only[iS bD hm1,mA]<;>rfl)| (simp only[iS bD hm1,mA,aF.c,aa.c,aM.c,Action.c,aL.c,aW.c,fH.c,ah.c,Node.c,aI.c,fP.c]<;>rfl)) (ih1 (i1+1) (bY++([bR])) (dn bD) h)
   ·exact((lJ.b h49).a [.cn [3,4,11,12,13] [0,1]]).ct hΓ cW (iS bD hm1) (ih1 (i1+1) bY (dn bD) h)
theorem oO{aB:aG}{r:aG}(h:iv aB=some r):Good prog 164 [D.sl (aB.map tx)] (D.fr 9 1 (r.map tx)):=by
 refine gd func164 [[some (9,1)]] 35 fun hr Γ hΓ=>?_
 rw[iv]at h;obtain⟨h1,h⟩:=bh h;obtain⟨h2,h⟩:=bh h;obtain⟨h51,h⟩:=bh h;refine(((((aY.w (bz h1)).w (show(∀r∈(aB.map tx),r.length=1)/\(true=true->D.oX (aB.map tx)=true)from⟨by first|simp| (intro r hr;obtain⟨x,_,rfl⟩:=cH.1 (bw (j9 hr));rfl),by simp[D.oX,D.flat]⟩)).w (show(([]:List aK)++(aB.map tx)).flatten.all D.flat=true from by simpa only[bP,bO,cA]using Ls (([]:aG)++aB))).w (show LN prog 223 9 1 (([]:List aK)++(aB.map tx)) ((lK (([]:aG)++aB)).map tx)from by simpa only[bP,bO,cA]using(Cs (e:=9) (bf h2)))).a [.fl true,.mu 0 ((lK (([]:aG)++aB)).map tx),.H8 4,.cn [3,4,11,12,13] [0,1]]).lp hΓ (zb hΓ (fun cK h=>?_) (bf h51) (lK (([]:aG)++aB)) 0 ([]:aG) rfl h);have h:=aN h;subst h;exact aY.ret hΓ
def eL(aB:aL)(aZ:Int)(k1:aG->Option aG):aq->Nat->aG->Option aG
 | [],i1,bN=>(k1 bN)
 |bR::cM,i1,bN=>(bif decide (((i1:Int):Int)<aZ)then(bif (bR.kind:Int)==1 then((kN bR.pat.args).bind fun CR=>(bif room ((bN.map tx).length+(CR.map tx).length) 16 then(eL aB aZ k1 cM (i1+1) (bN++CR))else none))else(eL aB aZ k1 cM (i1+1) bN))else(eL aB aZ k1 cM (i1+1) bN))
def mO(aB:aL)(aZ:Int):Option aG:=(eL aB aZ (fun(cK:aG)=>((iv cK).bind fun UQ=>(some UQ))) aB.conds 0 ([]:aG))
def vn(aB:aL)(aZ:Int)(W0:List aK)(fS:Int):St:=⟨[(1,D.int .i64 aZ),(5,D.acc 0),(9,D.sl (aB.conds.map aM.c)),(10,D.int .i64 ((aB.conds.map aM.c).length:Int)),(11,D.int .i64 fS)],[Ob.row .uq 9 1 W0]⟩
theorem BD(hΓ:Γ.nt=33){aB:aL}{aZ:Int}{r:aG}{k1:aG->Option aG}(gE:∀(cK:aG),k1 cK=some r->Ax Γ N f160 (.q [[some (9,1)]] (D.fr 9 1 (r.map tx))) [1,1,1] ⟨[(5,D.acc 0)],[Ob.row .uq 9 1 (cK.map tx)]⟩)(hm1:aB.conds.length<=maxLen):∀(rest:aq) (i1:Nat) (bN:aG),aB.conds.drop i1=rest->eL aB aZ k1 rest i1 bN=some r->Ar Γ N f160 (.q [[some (9,1)]] (D.fr 9 1 (r.map tx))) [1,1,0,1,0] (rest.length+1) (vn aB aZ (bN.map tx) (i1:Int)):=by
 intro rest
 induction rest with
 |nil=>
  intro i1 bN bD h;rw[eL]at h;refine aX fun N1 dH cW=>?_
  exact((aY.ge aM.c bD).a [.hl 0 [5] [0]]).ex hΓ dH (gE bN h)
 |cons bR cM ih1=>
  intro i1 bN bD h;rw[eL]at h;refine aX fun N1 dH cW=>?_
  have kx:=((aY.lt aM.c bD).l (bg aM.c 5 (dc bD) rfl))
  obtain⟨h37,h⟩|⟨h37,h⟩:=aO h
  ·have lJ:=(kx.r 4 h37)
   obtain⟨h38,h⟩|⟨h38,h⟩:=aO h
   ·obtain⟨CR,h40,h⟩:=aD h;obtain⟨h41,h⟩:=bh h;exact((((lJ.b h38).g (qN h40)).w (bz h41)).a [.cn [1,5,9,10,11] [3]]).cs hΓ cW (vn aB aZ ((bN.map tx)++(CR.map tx)) (IntKind.i64.wrap ((i1:Int)+1))) (by first| (simp only[iS bD hm1,mA]<;>rfl)| (simp only[iS bD hm1,mA,aF.c,aa.c,aM.c,Action.c,aL.c,aW.c,fH.c,ah.c,Node.c,aI.c,fP.c]<;>rfl)) (ih1 (i1+1) (bN++CR) (dn bD) h)
   ·exact((lJ.b h38).a [.cn [1,5,9,10,11] [0]]).ct hΓ cW (iS bD hm1) (ih1 (i1+1) bN (dn bD) h)
  ·exact(((kx.r 4 h37).F 1).a [.cn [1,5,9,10,11] [0]]).ct hΓ cW (iS bD hm1) (ih1 (i1+1) bN (dn bD) h)
theorem u7{aB:aL}{aZ:Int}{r:aG}(h:mO aB aZ=some r):Good prog 160 [D.agg (aL.c aB),D.int .i64 aZ] (D.fr 9 1 (r.map tx)):=by
 refine gd func160 [[some (9,1)]] 33 fun hr Γ hΓ=>?_
 rw[mO]at h;refine(aY.a [.H8 5,.cn [1,5,9,10,11] [1]]).lp hΓ (BD hΓ (fun cK h=>?_) (by have:=(kj.sl (kj.agg (hr _ (aE (i:=0) rfl)) (.sl (aB.conds.map aM.c)) (by simp))).1;simpa using this) aB.conds 0 ([]:aG) rfl h);obtain⟨UQ,h43,h⟩:=aD h;have h:=aN h;subst h;exact(aY.g (oO h43)).ret hΓ
def kL(aB:aG):Option aG:=(bif room (([]:List aK).length+(aB.map tx).length) 16 then(some (([]:aG)++aB))else none)
theorem qM{aB:aG}{r:aG}(h:kL aB=some r):Good prog 172 [D.sl (aB.map tx)] (D.fr 9 1 (r.map tx)):=by
 refine gd func172 [[some (9,1)]] 5 fun hr Γ hΓ=>?_
 rw[kL]at h;obtain⟨h1,h⟩:=bh h;cases h;exact(((aY.w (bz h1)).w (show(∀r∈(aB.map tx),r.length=1)/\(true=true->D.oX (aB.map tx)=true)from⟨by first|simp| (intro r hr;obtain⟨x,_,rfl⟩:=cH.1 (bw (j9 hr));rfl),by simp[D.oX,D.flat]⟩)).a [.H8 2,.fl true]).rts hΓ (D.fr 9 1 (([]:List aK)++(aB.map tx))) (by first|rfl| (simp only[mA]<;>rfl))
def oV(aB:aM):Option aG:=((kL aB.pat.args).bind fun y1=>(bif room ((y1.map tx).length+(([aB.left,aB.right]:aG).map tx).length) 16 then(some (y1++([aB.left,aB.right]:aG)))else none))
theorem vu{aB:aM}{r:aG}(h:oV aB=some r):Good prog 185 [D.agg (aM.c aB)] (D.fr 9 1 (r.map tx)):=by
 refine gd func185 [[some (9,1)]] 13 fun hr Γ hΓ=>?_
 rw[oV]at h;obtain⟨y1,h2,h⟩:=aD h;obtain⟨h3,h⟩:=bh h;cases h;exact(((aY.a [.H8 2,.n 9]).g (qM h2)).w (bz h3)).rts hΓ (D.fr 9 1 ((y1.map tx)++(([aB.left,aB.right]:aG).map tx))) (by first|rfl| (simp only[mA]<;>rfl))
def lN(aB:aM):Option aG:=((oV aB).bind fun y1=>((kN y1).bind fun y3=>((iv y3).bind fun y5=>(some y5))))
theorem qp{aB:aM}{r:aG}(h:lN aB=some r):Good prog 221 [D.agg (aM.c aB)] (D.fr 9 1 (r.map tx)):=by
 refine gd func221 [[some (9,1)]] 7 fun hr Γ hΓ=>?_
 rw[lN]at h;obtain⟨y1,h2,h⟩:=aD h;obtain⟨y3,h4,h⟩:=aD h;obtain⟨y5,h6,h⟩:=aD h;have h:=aN h;subst h;exact(((aY.g (vu h2)).g (qN h4)).g (oO h6)).ret hΓ
def jb(aB:aG)(aZ:Bytes)(k1:Option Bool):aG->Nat->Option Bool
 | [],i1=>(k1)
 |bR::cM,i1=>(bif (bR:Bytes)==aZ then(some true)else(jb aB aZ k1 cM (i1+1)))
def ja(aB:aG)(aZ:Bytes):Option Bool:=(jb aB aZ (some false) aB 0)
def Ea(aB:aG)(aZ:Bytes)(fS:Int):St:=⟨[(1,D.str aZ),(7,D.sl (aB.map tx)),(8,D.int .i64 ((aB.map tx).length:Int)),(9,D.int .i64 fS)],[]⟩
theorem Dk(hΓ:Γ.nt=17){aB:aG}{aZ:Bytes}{r:Bool}{k1:Option Bool}(gE:k1=some r->Ax Γ N f163 (.q [[none]] (D.bool r)) [1,1] ⟨[],[]⟩)(hm1:aB.length<=maxLen):∀(rest:aG) (i1:Nat),aB.drop i1=rest->jb aB aZ k1 rest i1=some r->Ar Γ N f163 (.q [[none]] (D.bool r)) [1,0,1,0] (rest.length+1) (Ea aB aZ (i1:Int)):=by
 intro rest
 induction rest with
 |nil=>
  intro i1 bD h;rw[jb]at h;refine aX fun N1 dH cW=>?_
  exact((aY.ge tx bD).a [.hl 0 [] []]).ex hΓ dH (gE h)
 |cons bR cM ih1=>
  intro i1 bD h;rw[jb]at h;refine aX fun N1 dH cW=>?_
  have kW:=((aY.lt tx bD).l (bg tx 1 (dc bD) rfl))
  obtain⟨h13,h⟩|⟨h13,h⟩:=aO h
  ·have h:=aN h;subst h;exact(kW.b h13).ret hΓ
  ·exact((kW.b h13).a [.cn [1,7,8,9] []]).ct hΓ cW (iS bD hm1) (ih1 (i1+1) (dn bD) h)
theorem o8{aB:aG}{aZ:Bytes}{r:Bool}(h:ja aB aZ=some r):Good prog 163 [D.sl (aB.map tx),D.str aZ] (D.bool r):=by
 refine gd func163 [[none]] 17 fun hr Γ hΓ=>?_
 rw[ja]at h;refine(aY.a [.cn [1,7,8,9] []]).lp hΓ (Dk hΓ (fun h=>?_) (by have:=(kj.sl (hr _ (aE (i:=0) rfl))).1;simpa using this) aB 0 rfl h);have h:=aN h;subst h;exact aY.ret hΓ
def dQ(aB:aL)(aZ:Int)(cY:Bytes)(k1:Option Bool):aq->Nat->Option Bool
 | [],i1=>(k1)
 |bR::cM,i1=>(bif ((i1:Int):Int) != aZ then((lN bR).bind fun Gi=>((ja Gi cY).bind fun Mj=>(bif Mj then(some true)else(dQ aB aZ cY k1 cM (i1+1)))))else(dQ aB aZ cY k1 cM (i1+1)))
def eO(aB:aL)(cY:Bytes)(k2:Option Bool):eG->Nat->Option Bool
 | [],i2=>(k2)
 |mF::th,i2=>((ja mF.pat.args cY).bind fun y59=>(bif y59 then(some true)else(eO aB cY k2 th (i2+1))))
def jc(aB:aL)(aZ:Int)(cY:Bytes):Option Bool:=(dQ aB aZ cY (eO aB cY (some false) aB.cR 0) aB.conds 0)
def xb(aB:aL)(aZ:Int)(cY:Bytes)(fS:Int):St:=⟨[(1,D.int .i64 aZ),(2,D.str cY),(3,D.ptr 0 0),(12,D.sl (aB.conds.map aM.c)),(13,D.int .i64 ((aB.conds.map aM.c).length:Int)),(14,D.int .i64 fS)],[Ob.box (aL.c aB)]⟩
theorem x7(hΓ:Γ.nt=42){aB:aL}{aZ:Int}{cY:Bytes}{r:Bool}{k1:Option Bool}(gE:k1=some r->Ax Γ N f222 (.q [[none]] (D.bool r)) [1,1] ⟨[(2,D.str cY),(3,D.ptr 0 0)],[Ob.box (aL.c aB)]⟩)(hm1:aB.conds.length<=maxLen):∀(rest:aq) (i1:Nat),aB.conds.drop i1=rest->dQ aB aZ cY k1 rest i1=some r->Ar Γ N f222 (.q [[none]] (D.bool r)) [1,0,1,0] (rest.length+1) (xb aB aZ cY (i1:Int)):=by
 intro rest
 induction rest with
 |nil=>
  intro i1 bD h;rw[dQ]at h;refine aX fun N1 dH cW=>?_
  exact((aY.ge aM.c bD).a [.hl 0 [2,3] [0]]).ex hΓ dH (gE h)
 |cons bR cM ih1=>
  intro i1 bD h;rw[dQ]at h;refine aX fun N1 dH cW=>?_
  have lJ:=((aY.lt aM.c bD).l (bg aM.c 5 (dc bD) rfl))
  obtain⟨h33,h⟩|⟨h33,h⟩:=aO h
  ·obtain⟨Gi,h35,h⟩:=aD h;obtain⟨Mj,h37,h⟩:=aD h;have tf:=(((((lJ.r 2 h33).g (qp h35)).r 2 h33).g (o8 h37)).b h33)
   obtain⟨h38,h⟩|⟨h38,h⟩:=aO h
   ·have h:=aN h;subst h;exact(tf.b h38).ret hΓ
   ·exact((tf.b h38).a [.cn [1,2,3,12,13,14] [0]]).ct hΓ cW (iS bD hm1) (ih1 (i1+1) (dn bD) h)
  ·exact(((lJ.r 5 h33).F 1).a [.cn [1,2,3,12,13,14] [0]]).ct hΓ cW (iS bD hm1) (ih1 (i1+1) (dn bD) h)
def xd(aB:aL)(cY:Bytes)(fS:Int):St:=⟨[(2,D.str cY),(30,D.sl (aB.cR.map Action.c)),(31,D.int .i64 ((aB.cR.map Action.c).length:Int)),(32,D.int .i64 fS)],[]⟩
theorem xA(hΓ:Γ.nt=42){aB:aL}{cY:Bytes}{r:Bool}{k2:Option Bool}(EB:k2=some r->Ax Γ N f222 (.q [[none]] (D.bool r)) [1,1,1] ⟨[],[]⟩)(hm2:aB.cR.length<=maxLen):∀(rest:eG) (i2:Nat),aB.cR.drop i2=rest->eO aB cY k2 rest i2=some r->Ar Γ N f222 (.q [[none]] (D.bool r)) [1,1,0,1,0] (rest.length+1) (xd aB cY (i2:Int)):=by
 intro rest
 induction rest with
 |nil=>
  intro i2 hd2 h;rw[eO]at h;refine aX fun N2 xz ue=>?_
  exact((aY.ge Action.c hd2).a [.hl 0 [] []]).ex hΓ xz (EB h)
 |cons mF th ih2=>
  intro i2 hd2 h;rw[eO]at h;refine aX fun N2 xz ue=>?_
  obtain⟨y59,h60,h⟩:=aD h;have xQ:=(((aY.lt Action.c hd2).l (bg Action.c 3 (dc hd2) rfl)).g (o8 h60))
  obtain⟨h61,h⟩|⟨h61,h⟩:=aO h
  ·have h:=aN h;subst h;exact(xQ.b h61).ret hΓ
  ·exact((xQ.b h61).a [.cn [2,30,31,32] []]).ct hΓ ue (iS hd2 hm2) (ih2 (i2+1) (dn hd2) h)
theorem wG{aB:aL}{aZ:Int}{cY:Bytes}{r:Bool}(h:jc aB aZ cY=some r):Good prog 222 [D.agg (aL.c aB),D.int .i64 aZ,D.str cY] (D.bool r):=by
 refine gd func222 [[none]] 42 fun hr Γ hΓ=>?_
 rw[jc]at h;refine(aY.a [.cn [1,2,3,12,13,14] [0]]).lp hΓ (x7 hΓ (fun h=>?_) (by have:=(kj.sl (kj.agg (hr _ (aE (i:=0) rfl)) (.sl (aB.conds.map aM.c)) (by simp))).1;simpa using this) aB.conds 0 rfl h);refine(aY.a [.cn [2,30,31,32] []]).lp hΓ (xA hΓ (fun h=>?_) (by have:=(kj.sl (kj.agg (hr _ (aE (i:=0) rfl)) (.sl (aB.cR.map Action.c)) (by simp))).1;simpa using this) aB.cR 0 rfl h);have h:=aN h;subst h;exact aY.ret hΓ
def fc(aB:aL)(aZ:Int)(x1:aM)(y3:aG)(y5:aG)(k1:Option Bool):aG->Nat->Option Bool
 | [],i1=>(k1)
 |bR::cM,i1=>(bif (x1.kind:Int)==1 then(fc aB aZ x1 y3 y5 k1 cM (i1+1))else((ja y3 bR).bind fun Gj=>(bif Gj then(fc aB aZ x1 y3 y5 k1 cM (i1+1))else(bif (x1.kind:Int) != 2 then(some false)else((jc aB aZ bR).bind fun y53=>(bif y53 then(some false)else(fc aB aZ x1 y3 y5 k1 cM (i1+1))))))))
def nH(aB:aL)(aZ:Int):Option Bool:=((iY aB.conds aZ).bind fun x1=>((mO aB aZ).bind fun y3=>((lN x1).bind fun y5=>(bif decide (y5.length<=maxLen)then(fc aB aZ x1 y3 y5 (some true) y5 0)else none))))
def Dj(aB:aL)(aZ:Int)(x1:aM)(y3:aG)(y5:aG)(fS:Int):St:=⟨[(1,D.int .i64 aZ),(2,D.ptr 0 0),(5,D.ptr 1 0),(6,D.acc 2),(18,D.acc 3),(19,D.int .i64 ((y5.map tx).length:Int)),(20,D.int .i64 fS)],[Ob.box (aL.c aB),Ob.box [D.int .i64 x1.kind,D.str x1.pat.rel,D.sl (x1.pat.args.map tx),D.str x1.left,D.str x1.right],Ob.row .uq 9 1 (y3.map tx),Ob.row .uq 9 1 (y5.map tx)]⟩
theorem Cf(hΓ:Γ.nt=42){aB:aL}{aZ:Int}{x1:aM}{y3:aG}{y5:aG}{r:Bool}{k1:Option Bool}(gE:k1=some r->Ax Γ N f159 (.q [[none]] (D.bool r)) [1,1,1,1] ⟨[],[]⟩)(hm1:y5.length<=maxLen):∀(rest:aG) (i1:Nat),y5.drop i1=rest->fc aB aZ x1 y3 y5 k1 rest i1=some r->Ar Γ N f159 (.q [[none]] (D.bool r)) [1,1,1,0,1,0] (rest.length+1) (Dj aB aZ x1 y3 y5 (i1:Int)):=by
 intro rest
 induction rest with
 |nil=>
  intro i1 bD h;rw[fc]at h;refine aX fun N1 dH cW=>?_
  exact((aY.ge tx bD).a [.hl 0 [] []]).ex hΓ dH (gE h)
 |cons bR cM ih1=>
  intro i1 bD h;rw[fc]at h;refine aX fun N1 dH cW=>?_
  have lJ:=(((aY.lt tx bD).i (mw tx 1 (dc bD))).o 1 1 .uq (cP tx (dc bD)))
  obtain⟨h48,h⟩|⟨h48,h⟩:=aO h
  ·exact(((lJ.r 4 h48).T 1).a [.cn [1,2,5,6,18,19,20] [0,1,2,3]]).ct hΓ cW (iS bD hm1) (ih1 (i1+1) (dn bD) h)
  ·obtain⟨Gj,h50,h⟩:=aD h;have tf:=(((lJ.r 3 h48).g (o8 h50)).b h48)
   obtain⟨h51,h⟩|⟨h51,h⟩:=aO h
   ·exact((tf.b h51).a [.cn [1,2,5,6,18,19,20] [0,1,2,3]]).ct hΓ cW (iS bD hm1) (ih1 (i1+1) (dn bD) h)
   ·obtain⟨h52,h⟩|⟨h52,h⟩:=aO h
    ·have h:=aN h;subst h;exact(((tf.b h51).r 5 h52).T 1).ret hΓ
    ·obtain⟨y53,h54,h⟩:=aD h;have xQ:=((((tf.b h51).r 4 h52).g (wG h54)).b h52)
     obtain⟨h55,h⟩|⟨h55,h⟩:=aO h
     ·have h:=aN h;subst h;exact(xQ.b h55).ret hΓ
     ·exact((xQ.b h55).a [.cn [1,2,5,6,18,19,20] [0,1,2,3]]).ct hΓ cW (iS bD hm1) (ih1 (i1+1) (dn bD) h)
theorem uo{aB:aL}{aZ:Int}{r:Bool}(h:nH aB aZ=some r):Good prog 159 [D.agg (aL.c aB),D.int .i64 aZ] (D.bool r):=by
 refine gd func159 [[none]] 42 fun hr Γ hΓ=>?_
 rw[nH]at h;obtain⟨x1,h2,h⟩:=aD h;obtain⟨y3,h4,h⟩:=aD h;obtain⟨y5,h6,h⟩:=aD h;obtain⟨h56,h⟩:=bh h;refine((((aY.l (kG aM.c 5 h2 rfl)).g (u7 h4)).g (qp h6)).a [.cn [1,2,5,6,18,19,20] [0,1,2,3]]).lp hΓ (Cf hΓ (fun h=>?_) (bf h56) y5 0 rfl h);have h:=aN h;subst h;exact aY.ret hΓ
def pT(aB:Action):Option Bool:=(bif (aB.kind:Int)==1 then((gm aB.pat).bind fun y2=>(some y2))else(bif (aB.kind:Int)==2 then((gm aB.pat).bind fun y5=>(some y5))else(bif (aB.kind:Int)==3 then((gV aB.pat).bind fun y8=>(some y8))else(some false))))
theorem BG{aB:Action}{r:Bool}(h:pT aB=some r):Good prog 161 [D.agg (Action.c aB)] (D.bool r):=by
 refine gd func161 [[none]] 16 fun hr Γ hΓ=>?_
 rw[pT]at h;obtain⟨h1,h⟩|⟨h1,h⟩:=aO h
 ·obtain⟨y2,h3,h⟩:=aD h;have h:=aN h;subst h;exact((aY.r 2 h1).g (iN h3)).ret hΓ
 ·obtain⟨h4,h⟩|⟨h4,h⟩:=aO h
  ·obtain⟨y5,h6,h⟩:=aD h;have h:=aN h;subst h;exact(((aY.b h1).b h4).g (iN h6)).ret hΓ
  ·have rj:=((aY.b h1).b h4)
   obtain⟨h7,h⟩|⟨h7,h⟩:=aO h
   ·obtain⟨y8,h9,h⟩:=aD h;have h:=aN h;subst h;exact((rj.b h7).g (lE h9)).ret hΓ
   ·have h:=aN h;subst h;exact(rj.b h7).ret hΓ
def fU(aB:aq)(k1:aG->Option aG):aq->Nat->aG->Option aG
 | [],i1,bN=>(k1 bN)
 |bR::cM,i1,bN=>((lN bR).bind fun oc=>(bif room ((bN.map tx).length+(oc.map tx).length) 16 then(fU aB k1 cM (i1+1) (bN++oc))else none))
def nT(aB:aq):Option aG:=(fU aB (fun(cK:aG)=>(some cK)) aB 0 ([]:aG))
def ur(aB:aq)(W0:List aK)(fS:Int):St:=⟨[(3,D.acc 0),(6,D.sl (aB.map aM.c)),(7,D.int .i64 ((aB.map aM.c).length:Int)),(8,D.int .i64 fS)],[Ob.row .uq 9 1 W0]⟩
theorem Ad(hΓ:Γ.nt=18){aB:aq}{r:aG}{k1:aG->Option aG}(gE:∀(cK:aG),k1 cK=some r->Ax Γ N f165 (.q [[some (9,1)]] (D.fr 9 1 (r.map tx))) [1,1,1] ⟨[(3,D.acc 0)],[Ob.row .uq 9 1 (cK.map tx)]⟩)(hm1:aB.length<=maxLen):∀(rest:aq) (i1:Nat) (bN:aG),aB.drop i1=rest->fU aB k1 rest i1 bN=some r->Ar Γ N f165 (.q [[some (9,1)]] (D.fr 9 1 (r.map tx))) [1,1,0,1,0] (rest.length+1) (ur aB (bN.map tx) (i1:Int)):=by
 intro rest
 induction rest with
 |nil=>
  intro i1 bN bD h;rw[fU]at h;refine aX fun N1 dH cW=>?_
  exact((aY.ge aM.c bD).a [.hl 0 [3] [0]]).ex hΓ dH (gE bN h)
 |cons bR cM ih1=>
  intro i1 bN bD h;rw[fU]at h;refine aX fun N1 dH cW=>?_
  obtain⟨oc,h28,h⟩:=aD h;obtain⟨h29,h⟩:=bh h;exact(((((aY.lt aM.c bD).l (bg aM.c 5 (dc bD) rfl)).g (qp h28)).w (bz h29)).a [.cn [3,6,7,8] [3]]).cs hΓ cW (ur aB ((bN.map tx)++(oc.map tx)) (IntKind.i64.wrap ((i1:Int)+1))) (by first| (simp only[iS bD hm1,mA]<;>rfl)| (simp only[iS bD hm1,mA,aF.c,aa.c,aM.c,Action.c,aL.c,aW.c,fH.c,ah.c,Node.c,aI.c,fP.c]<;>rfl)) (ih1 (i1+1) (bN++oc) (dn bD) h)
theorem zc{aB:aq}{r:aG}(h:nT aB=some r):Good prog 165 [D.sl (aB.map aM.c)] (D.fr 9 1 (r.map tx)):=by
 refine gd func165 [[some (9,1)]] 18 fun hr Γ hΓ=>?_
 rw[nT]at h;refine(aY.a [.H8 3,.cn [3,6,7,8] [0]]).lp hΓ (Ad hΓ (fun cK h=>?_) (by have:=(kj.sl (hr _ (aE (i:=0) rfl))).1;simpa using this) aB 0 ([]:aG) rfl h);have h:=aN h;subst h;exact aY.ret hΓ
end Go.Cx

/- What functions of the program compute, and the walks that show it. No condition. -/
import Derived.Test.YtfankinmlfnncaaGreatDoorPFnRebuiltG3
set_option linter.unusedVariables false
set_option linter.unusedSimpArgs false
namespace Go.Cx
open Go.RowKit Go.Proofs Tryz
set_option maxRecDepth 100000
variable{Γ:uB}{N:Nat->St->Prop}
def oL(aC:bC)(k1:Int->Option cJ):bC->Nat->Int->Option cJ
 | [],i1,j6=>(k1 j6)
 |bU::cQ,i1,j6=>(bif decide (((i1:Int):Int)<4000)then(oL aC k1 cQ (i1+1) (Ga .i64 (IntKind.i64.wrap ((IntKind.i64.wrap ((IntKind.i64.wrap (j6*167))+(IntKind.i64.wrap bU)))+29)) 1073741823))else(k1 j6))
def wI(aC:bC):Option cJ:=(bif decide (aC.length<=maxLen)then(oL aC (fun(LO:Int)=>(some (⟨aC,0,LO⟩:cJ))) aC 0 (IntKind.i64.wrap (851207+(IntKind.i64.wrap (3*((aC.map yx).length:Int))))))else none)
def L9(aC:bC)(j6:Int)(dL:Int):St:=⟨[(0,D.sl (aC.map yx)),(3,D.int .i64 j6),(4,D.int .i64 dL)],[]⟩
theorem K9(hΓ:Γ.nt=33){aC:bC}{r:cJ}{k1:Int->Option cJ}(di:∀(LO:Int),k1 LO=some r->Ax Γ N f35 (.n (cJ.c r)) [1,1,1] ⟨[(0,D.sl (aC.map yx)),(3,D.int .i64 LO)],[]⟩)(hm1:aC.length<=maxLen):∀(rest:bC) (i1:Nat) (j6:Int),aC.drop i1=rest->oL aC k1 rest i1 j6=some r->Ar Γ N f35 (.n (cJ.c r)) [1,1,0,1,0] (rest.length+1) (L9 aC j6 (i1:Int)):=by
 intro rest
 induction rest with
 |nil=>
  intro i1 j6 az h;rw[oL]at h;refine aQ fun N1 cY cI=>?_
  exact(((((aY.ge yx az).ge yx az).ge yx az).F 1).a [.hl 0 [0,3] []]).ex hΓ cY (di j6 h)
 |cons bU cQ ih1=>
  intro i1 j6 az h;rw[oL]at h;refine aQ fun N1 cY cI=>?_
  have nP:=(((aY.lt yx az).lt yx az).lt yx az)
  obtain⟨h13,h⟩|⟨h13,h⟩:=aM h
  ·exact(((nP.b h13).l (bJ yx 1 (dc az) rfl)).a [.cn [0,3,4] []]).ct hΓ cI (iS az hm1) (ih1 (i1+1) (Ga .i64 (IntKind.i64.wrap ((IntKind.i64.wrap ((IntKind.i64.wrap (j6*167))+(IntKind.i64.wrap bU)))+29)) 1073741823) (dn az) h)
  ·exact((nP.b h13).a [.hl 0 [0,3] []]).ex hΓ cY (di j6 h)
theorem Ia{aC:bC}{r:cJ}(h:wI aC=some r):I4 prog 35 [D.sl (aC.map yx)] (cJ.c r):=by
 refine gdN func35 33 fun hr Γ hΓ=>?_
 rw[wI]at h;obtain⟨h14,h⟩:=bR h;refine(aY.a [.cn [0,3,4] []]).lp hΓ (K9 hΓ (fun LO h=>?_) (bn h14) aC 0 (IntKind.i64.wrap (851207+(IntKind.i64.wrap (3*((aC.map yx).length:Int))))) rfl h);cases h;exact aY.ret hΓ
def oo(aC:cJ):Option (cJ×Int):=(bif decide ((aC.i:Int)<((aC.b.map yx).length:Int))then((iP aC.b aC.i).bind fun x2=>(some ((⟨aC.b,IntKind.i64.wrap (aC.i+1),IntKind.i64.wrap ((IntKind.i64.wrap (aC.h*6364136223846793005))+1442695040888963407)⟩:cJ),Ga .i64 (IntKind.i64.wrap ((Ga .i64 (T5 .i64 (R1 .i64 (IntKind.i64.wrap ((IntKind.i64.wrap (aC.h*6364136223846793005))+1442695040888963407)) 35) (R1 .i64 (IntKind.i64.wrap ((IntKind.i64.wrap (aC.h*6364136223846793005))+1442695040888963407)) 45)) 255)+(IntKind.i64.wrap x2))) 255)))else(some ((⟨aC.b,aC.i,IntKind.i64.wrap ((IntKind.i64.wrap (aC.h*6364136223846793005))+1442695040888963407)⟩:cJ),Ga .i64 (T5 .i64 (R1 .i64 (IntKind.i64.wrap ((IntKind.i64.wrap (aC.h*6364136223846793005))+1442695040888963407)) 35) (R1 .i64 (IntKind.i64.wrap ((IntKind.i64.wrap (aC.h*6364136223846793005))+1442695040888963407)) 45)) 255)))
theorem rz{aC:cJ}{r:cJ×Int}(h:oo aC=some r):hY prog 134 (cJ.c aC) (cJ.c r.1) [] (D.int .i64 r.2):=by
 refine Iz func134 [[none,none,none],[none]] 58 [D.sl (aC.b.map yx),D.int .i64 aC.i,D.int .i64 aC.h] [] [] fun hr iC Γ hΓ=>?_
 rw[oo]at h;obtain⟨h1,h⟩|⟨h1,h⟩:=aM h
 ·obtain⟨x2,h3,h⟩:=aB h;cases h;exact((((aY.a [.n 10,.n 9]).b h1).a [.n 12]).l (fO yx 1 h3 rfl)).ret hΓ
 ·cases h;exact((aY.a [.n 10,.n 9]).b h1).ret hΓ
def cM(aC:cJ)(aa:Int):Option (cJ×Int):=(bif decide ((aa:Int)<=0)then(some (aC,0))else(bif decide ((aa:Int)<=256)then((oo aC).bind fun y3=>(bif decide (0<=(y3.2:Int))&&decide (0<(aa:Int))then(some (y3.1,(y3.2:Int)%aa))else none))else((oo aC).bind fun y6=>((oo y6.1).bind fun y8=>((oo y8.1).bind fun Dh=>(bif decide (0<=(IntKind.i64.wrap ((IntKind.i64.wrap ((IntKind.i64.wrap (y6.2*65536))+(IntKind.i64.wrap (y8.2*256))))+Dh.2):Int))&&decide (0<(aa:Int))then(some (Dh.1,(IntKind.i64.wrap ((IntKind.i64.wrap ((IntKind.i64.wrap (y6.2*65536))+(IntKind.i64.wrap (y8.2*256))))+Dh.2):Int)%aa))else none))))))
theorem cC{aC:cJ}{aa:Int}{r:cJ×Int}(h:cM aC aa=some r):hY prog 76 (cJ.c aC) (cJ.c r.1) [D.int .i64 aa] (D.int .i64 r.2):=by
 refine Iz func76 [[none,none,none],[none]] 31 [D.sl (aC.b.map yx),D.int .i64 aC.i,D.int .i64 aC.h] [D.int .i64 aa] [] fun hr iC Γ hΓ=>?_
 rw[cM]at h;obtain⟨h1,h⟩|⟨h1,h⟩:=aM h
 ·cases h;exact(aY.b h1).ret hΓ
 ·obtain⟨h2,h⟩|⟨h2,h⟩:=aM h
  ·obtain⟨y3,h4,h⟩:=aB h;obtain⟨h5,h⟩:=bR h;cases h;exact((((aY.b h1).b h2).hp [[none,none,none]] (rz h4)).w (PF .i64 h5)).ret hΓ
  ·obtain⟨y6,h7,h⟩:=aB h;obtain⟨y8,h9,h⟩:=aB h;obtain⟨Dh,h11,h⟩:=aB h;obtain⟨h12,h⟩:=bR h;cases h;exact((((((aY.b h1).b h2).hp [[none,none,none]] (rz h7)).hp [[none,none,none]] (rz h9)).hp [[none,none,none]] (rz h11)).w (PF .i64 h12)).ret hΓ
def qj(aC:cJ)(aa:Int):Option (cJ×Bool):=((cM aC aa).bind fun y1=>(some (y1.1,(y1.2:Int)==0)))
theorem pQ{aC:cJ}{aa:Int}{r:cJ×Bool}(h:qj aC aa=some r):hY prog 72 (cJ.c aC) (cJ.c r.1) [D.int .i64 aa] (D.bool r.2):=by
 refine Iz func72 [[none,none,none],[none]] 9 [D.sl (aC.b.map yx),D.int .i64 aC.i,D.int .i64 aC.h] [D.int .i64 aa] [] fun hr iC Γ hΓ=>?_
 rw[qj]at h;obtain⟨y1,h2,h⟩:=aB h;cases h;exact(aY.hp [[none,none,none],[none]] (cC h2)).ret hΓ
def nT(aC:cJ):Option (cJ×(Bytes×Int)):=((cM aC 6).bind fun y1=>((iP ([[111,110],[111,110],[97,116],[112],[113],[122]]:aG) y1.2).bind fun x3=>((iP ([2,2,2,1,1,0]:bC) y1.2).bind fun x5=>(some (y1.1,(x3,x5))))))
theorem Aa{aC:cJ}{r:cJ×(Bytes×Int)}(h:nT aC=some r):hY prog 180 (cJ.c aC) (cJ.c r.1) [] (D.gL [D.str r.2.1,D.int .i64 r.2.2]):=by
 refine Iz func180 [[none,none,none],[none],[none]] 15 [D.sl (aC.b.map yx),D.int .i64 aC.i,D.int .i64 aC.h] [] [] fun hr iC Γ hΓ=>?_
 rw[nT]at h;obtain⟨y1,h2,h⟩:=aB h;obtain⟨x3,h4,h⟩:=aB h;obtain⟨x5,h6,h⟩:=aB h;cases h;exact(((((aY.hp [[none,none,none],[none]] (cC h2)).a [.n 9,.vw 0]).l (fO tx 1 h4 rfl)).a [.vw 0]).l (fO iM 1 h6 rfl)).ret hΓ
def oZ(aC:cJ)(aa:aG):Option (cJ×Bytes):=((cM aC ((aa.map tx).length:Int)).bind fun y1=>((iP aa y1.2).bind fun x3=>(some (y1.1,x3))))
theorem qP{aC:cJ}{aa:aG}{r:cJ×Bytes}(h:oZ aC aa=some r):hY prog 140 (cJ.c aC) (cJ.c r.1) [D.fr 9 1 (aa.map tx)] (D.str r.2):=by
 refine Iz func140 [[none,none,none],[none]] 12 [D.sl (aC.b.map yx),D.int .i64 aC.i,D.int .i64 aC.h] [D.acc 1] [Ob.row .uq 9 1 (aa.map tx)] fun hr iC Γ hΓ=>?_
 rw[oZ]at h;obtain⟨y1,h2,h⟩:=aB h;obtain⟨x3,h4,h⟩:=aB h;cases h;exact(((aY.hp [[none,none,none],[none]] (cC h2)).i (gl tx 1 h4)).o 1 1 .uq (cR tx (eW h4))).ret hΓ
def gz(aC:cJ):Option (cJ×Bytes):=((oZ aC ([[97],[98],[99],[49],[50]]:aG)).bind fun y1=>(some (y1.1,y1.2)))
theorem vJ{aC:cJ}{r:cJ×Bytes}(h:gz aC=some r):hY prog 181 (cJ.c aC) (cJ.c r.1) [] (D.str r.2):=by
 refine Iz func181 [[none,none,none],[none]] 6 [D.sl (aC.b.map yx),D.int .i64 aC.i,D.int .i64 aC.h] [] [] fun hr iC Γ hΓ=>?_
 rw[gz]at h;obtain⟨y1,h2,h⟩:=aB h;cases h;exact(aY.hp [[none,none,none],[some (9,1)]] (qP h2)).ret hΓ
def oq(aC:cJ):Option (cJ×Bytes):=((qj aC 4).bind fun y1=>(bif y1.2 then((gz y1.1).bind fun y4=>(some (y4.1,y4.2)))else((oZ y1.1 ([[63,120],[63,121],[63,122]]:aG)).bind fun y6=>(some (y6.1,y6.2)))))
theorem vL{aC:cJ}{r:cJ×Bytes}(h:oq aC=some r):hY prog 223 (cJ.c aC) (cJ.c r.1) [] (D.str r.2):=by
 refine Iz func223 [[none,none,none],[none]] 10 [D.sl (aC.b.map yx),D.int .i64 aC.i,D.int .i64 aC.h] [] [] fun hr iC Γ hΓ=>?_
 rw[oq]at h;obtain⟨y1,h2,h⟩:=aB h;obtain⟨h3,h⟩|⟨h3,h⟩:=aM h
 ·obtain⟨y4,h5,h⟩:=aB h;cases h;exact(((aY.hp [[none,none,none],[none]] (pQ h2)).b h3).hp [[none,none,none]] (vJ h5)).ret hΓ
 ·obtain⟨y6,h7,h⟩:=aB h;cases h;exact(((aY.hp [[none,none,none],[none]] (pQ h2)).b h3).hp [[none,none,none],[some (9,1)]] (qP h7)).ret hΓ
def kw(y1:cJ×(Bytes×Int))(k1:bC->Int->Int->aG->Option (cJ×aD)):Nat->Int->bC->Int->Int->aG->Option (cJ×aD)
 |0,_,_,_,_,_=>none
 |n1+1,dR,eN,dH,dJ,cg=>(bif decide ((dR:Int)<y1.2.2)then((oq (⟨eN,dH,dJ⟩:cJ)).bind fun yW=>(bif room ((cg.map tx).length+([[D.str yW.2]]).length) 16 then(kw y1 k1 n1 (IntKind.i64.wrap (dR+1)) yW.1.b yW.1.i yW.1.h (cg++([yW.2])))else none))else(k1 eN dH dJ cg))
def j5(aC:cJ):Option (cJ×aD):=((nT aC).bind fun y1=>(kw y1 (fun(l8:bC) (l9:Int) (lB:Int) (eM:aG)=>(some ((⟨l8,l9,lB⟩:cJ),(⟨y1.2.1,eM⟩:aD)))) fuel 0 y1.1.b y1.1.i y1.1.h ([]:aG)))
def BT(iC:Value)(y1:cJ×(Bytes×Int))(dR:Int)(dH:Int)(dJ:Int)(W1:List aL)(W4:List aL):St:=⟨[(0,D.ptr 0 0),(2,D.ptr 1 0),(4,D.int .i64 y1.2.2),(5,D.ptr 2 0),(6,D.int .i64 dR)],[Ob.AA [D.sl W1,D.int .i64 dH,D.int .i64 dJ] iC,Ob.box [D.str ([]),D.nil],Ob.box [D.str y1.2.1,D.acc 3],Ob.row .uq 9 1 W4]⟩
theorem Ig(hΓ:Γ.nt=27){iC:Value}{y1:cJ×(Bytes×Int)}{r:cJ×aD}{k1:bC->Int->Int->aG->Option (cJ×aD)}(di:∀(l8:bC) (l9:Int) (lB:Int) (eM:aG),k1 l8 l9 lB eM=some r->Ax Γ N f201 (.p [[none,none,none],[none,some (9,1)]] iC (cJ.c r.1) (D.agg [D.str r.2.rel,D.fr 9 1 (r.2.args.map tx)])) [1,1,1,1] ⟨[(2,D.ptr 1 0),(5,D.ptr 2 0)],[Ob.AA [D.sl (l8.map yx),D.int .i64 l9,D.int .i64 lB] iC,Ob.box [D.str ([]),D.nil],Ob.box [D.str y1.2.1,D.acc 3],Ob.row .uq 9 1 (eM.map tx)]⟩):∀(n1:Nat) (dR:Int) (eN:bC) (dH:Int) (dJ:Int) (cg:aG),kw y1 k1 n1 dR eN dH dJ cg=some r->Ar Γ N f201 (.p [[none,none,none],[none,some (9,1)]] iC (cJ.c r.1) (D.agg [D.str r.2.rel,D.fr 9 1 (r.2.args.map tx)])) [1,1,1,0,1,0] n1 (BT iC y1 dR dH dJ (eN.map yx) (cg.map tx)):=by
 intro n
 induction n with
 |zero=>intro dR eN dH dJ cg h;simp[kw]at h
 |succ n1 ih1=>
  intro dR eN dH dJ cg h;rw[kw]at h;refine aQ fun N1 cY cI=>?_
  obtain⟨h27,h⟩|⟨h27,h⟩:=aM h
  ·obtain⟨yW,h31,h⟩:=aB h;obtain⟨h32,h⟩:=bR h;exact(((((aY.b h27).a [.n2 [0,1,2,3,4,5,6,7] [0,1,2,3,4,5,6,7] 3 5 [0,1] [0],.gp [[none,none,none]] (cJ.c yW.1) (D.str yW.2)]).w (show hY prog 223 (cJ.c (⟨eN,dH,dJ⟩:cJ)) (cJ.c yW.1) [] (D.str yW.2)from by simpa only[bA,bB,bZ,bX,bg]using vL h31)).w (bf h32)).a [.cn [0,2,4,5,6] [0,1,2,5]]).cs hΓ cI (BT iC y1 (IntKind.i64.wrap (dR+1)) yW.1.i yW.1.h (yW.1.b.map yx) ((cg.map tx)++([[D.str yW.2]]))) (by first| (simp only[mA]<;>rfl)| (simp only[mA,aD.c,aX.c,aO.c,Action.c,aK.c,aU.c,dW.c,aZ.c,Node.c,aH.c,dh.c]<;>rfl)) (ih1 (IntKind.i64.wrap (dR+1)) yW.1.b yW.1.i yW.1.h (cg++([yW.2])) h)
  ·exact((aY.b h27).a [.hl 0 [2,5] [0,1,2,3]]).ex hΓ cY (di eN dH dJ cg h)
theorem nJ{aC:cJ}{r:cJ×aD}(h:j5 aC=some r):hY prog 201 (cJ.c aC) (cJ.c r.1) [] (D.agg [D.str r.2.rel,D.fr 9 1 (r.2.args.map tx)]):=by
 refine Iz func201 [[none,none,none],[none,some (9,1)]] 27 [D.sl (aC.b.map yx),D.int .i64 aC.i,D.int .i64 aC.h] [] [] fun hr iC Γ hΓ=>?_
 rw[j5]at h;obtain⟨y1,h2,h⟩:=aB h;refine((aY.hp [[none,none,none]] (Aa h2)).a [.pb 2 1 9 1,.cn [0,2,4,5,6] [0,1,2,3]]).lp hΓ (Ig hΓ (fun l8 l9 lB eM h=>?_) fuel 0 y1.1.b y1.1.i y1.1.h ([]:aG) h);cases h;exact aY.ret hΓ
def gh(aC:cJ)(aa:bC):Option (cJ×Int):=((cM aC ((aa.map iM).length:Int)).bind fun y1=>((iP aa y1.2).bind fun x3=>(some (y1.1,x3))))
theorem ji{aC:cJ}{aa:bC}{r:cJ×Int}(h:gh aC aa=some r):hY prog 78 (cJ.c aC) (cJ.c r.1) [D.fr 3 1 (aa.map iM)] (D.int .i64 r.2):=by
 refine Iz func78 [[none,none,none],[none]] 12 [D.sl (aC.b.map yx),D.int .i64 aC.i,D.int .i64 aC.h] [D.acc 1] [Ob.row .uq 3 1 (aa.map iM)] fun hr iC Γ hΓ=>?_
 rw[gh]at h;obtain⟨y1,h2,h⟩:=aB h;obtain⟨x3,h4,h⟩:=aB h;cases h;exact(((aY.hp [[none,none,none],[none]] (cC h2)).i (gl iM 1 h4)).o 1 1 .uq (cR iM (eW h4))).ret hΓ
def uw(aC:cJ)(aa:Bytes)(cS:Bytes):Option (cJ×aO):=((gh aC ([3,4,4,5]:bC)).bind fun y1=>(some (y1.1,(⟨y1.2,(⟨[],[]⟩:aD),aa,cS⟩:aO))))
theorem HU{aC:cJ}{aa:Bytes}{cS:Bytes}{r:cJ×aO}(h:uw aC aa cS=some r):hY prog 224 (cJ.c aC) (cJ.c r.1) [D.str aa,D.str cS] (D.agg [D.int .i64 r.2.kind,D.str r.2.pat.rel,D.fr 9 1 (r.2.pat.args.map tx),D.str r.2.left,D.str r.2.right]):=by
 refine Iz func224 [[none,none,none],[none,none,some (9,1),none,none]] 13 [D.sl (aC.b.map yx),D.int .i64 aC.i,D.int .i64 aC.h] [D.str aa,D.str cS] [] fun hr iC Γ hΓ=>?_
 rw[uw]at h;obtain⟨y1,h2,h⟩:=aB h;cases h;exact(aY.hp [[none,none,none],[some (3,1)]] (ji h2)).ret hΓ
def ql(aC:cJ):Option (cJ×aO):=((cM aC 5).bind fun y1=>(bif (y1.2:Int)==0 then((j5 y1.1).bind fun y4=>(some (y4.1,(⟨1,y4.2,[],[]⟩:aO))))else(bif (y1.2:Int)==1 then((j5 y1.1).bind fun y7=>(some (y7.1,(⟨1,y7.2,[],[]⟩:aO))))else(bif (y1.2:Int)==2 then((j5 y1.1).bind fun Dh=>(some (Dh.1,(⟨2,Dh.2,[],[]⟩:aO))))else((oq y1.1).bind fun Pj=>((oq Pj.1).bind fun AK=>((uw AK.1 Pj.2 AK.2).bind fun O7=>(some (O7.1,O7.2)))))))))
theorem zo{aC:cJ}{r:cJ×aO}(h:ql aC=some r):hY prog 200 (cJ.c aC) (cJ.c r.1) [] (D.agg [D.int .i64 r.2.kind,D.str r.2.pat.rel,D.fr 9 1 (r.2.pat.args.map tx),D.str r.2.left,D.str r.2.right]):=by
 refine Iz func200 [[none,none,none],[none,none,some (9,1),none,none]] 24 [D.sl (aC.b.map yx),D.int .i64 aC.i,D.int .i64 aC.h] [] [] fun hr iC Γ hΓ=>?_
 rw[ql]at h;obtain⟨y1,h2,h⟩:=aB h;obtain⟨h3,h⟩|⟨h3,h⟩:=aM h
 ·obtain⟨y4,h5,h⟩:=aB h;cases h;exact(((aY.hp [[none,none,none],[none]] (cC h2)).r 2 h3).hp [[none,none,none]] (nJ h5)).ret hΓ
 ·have nP:=((aY.hp [[none,none,none],[none]] (cC h2)).b h3)
  obtain⟨h6,h⟩|⟨h6,h⟩:=aM h
  ·obtain⟨y7,h8,h⟩:=aB h;cases h;exact((nP.b h6).hp [[none,none,none]] (nJ h8)).ret hΓ
  ·obtain⟨h9,h⟩|⟨h9,h⟩:=aM h
   ·obtain⟨Dh,h11,h⟩:=aB h;cases h;exact(((nP.b h6).b h9).hp [[none,none,none]] (nJ h11)).ret hΓ
   ·obtain⟨Pj,h13,h⟩:=aB h;obtain⟨AK,h15,h⟩:=aB h;obtain⟨O7,h17,h⟩:=aB h;cases h;exact(((((nP.b h6).b h9).hp [[none,none,none]] (vL h13)).hp [[none,none,none]] (vL h15)).hp [[none,none,none],[none],[none]] (HU h17)).ret hΓ
def kq(aC:Int)(aa:Int)(cS:Int):Option Bool:=(bif decide ((aC:Int)>=aa)then(some (decide ((aC:Int)<=cS)))else(some false))
theorem gE{aC:Int}{aa:Int}{cS:Int}{r:Bool}(h:kq aC aa cS=some r):Good prog 99 [D.int .i64 aC,D.int .i64 aa,D.int .i64 cS] (D.bool r):=by
 refine gd func99 [[none]] 15 fun hr Γ hΓ=>?_
 rw[kq]at h;obtain⟨h1,h⟩|⟨h1,h⟩:=aM h
 ·cases h;exact(aY.r 4 h1).ret hΓ
 ·have h:=aN h;subst h;exact(aY.r 4 h1).ret hΓ
def jI(aC:Bytes)(k1:Option Bool):Nat->Int->Option Bool
 |0,_=>none
 |n1+1,j6=>(bif decide ((j6:Int)<(aC.length:Int))then((iP aC j6).bind fun b29=>((kq (IntKind.i64.wrap b29.toNat) 97 122).bind fun FU=>(bif !(FU)then((kq (IntKind.i64.wrap b29.toNat) 48 57).bind fun Dm=>(bif !(Dm)then(some false)else(jI aC k1 n1 (IntKind.i64.wrap (j6+1)))))else(jI aC k1 n1 (IntKind.i64.wrap (j6+1))))))else(k1))
def fS(aC:Bytes):Option Bool:=(jI aC ((kq (aC.length:Int) 1 8).bind fun OA=>(some OA)) fuel 0)
def Jy(aC:Bytes)(j6:Int):St:=⟨[(0,D.str aC),(3,D.int .i64 j6)],[]⟩
theorem IP(hΓ:Γ.nt=27){aC:Bytes}{r:Bool}{k1:Option Bool}(di:k1=some r->Ax Γ N f125 (.q [[none]] (D.bool r)) [1,1] ⟨[(0,D.str aC)],[]⟩):∀(n1:Nat) (j6:Int),jI aC k1 n1 j6=some r->Ar Γ N f125 (.q [[none]] (D.bool r)) [1,0,1,0] n1 (Jy aC j6):=by
 intro n
 induction n with
 |zero=>intro j6 h;simp[jI]at h
 |succ n1 ih1=>
  intro j6 h;rw[jI]at h;refine aQ fun N1 cY cI=>?_
  obtain⟨h28,h⟩|⟨h28,h⟩:=aM h
  ·obtain⟨b29,h30,h⟩:=aB h;obtain⟨FU,h32,h⟩:=aB h;have je:=(((aY.b h28).c h30).g (gE h32))
   obtain⟨h33,h⟩|⟨h33,h⟩:=aM h
   ·obtain⟨Dm,h35,h⟩:=aB h;have jj:=(((((je.r 3 h33).c h30).r 2 h33).g (gE h35)).r 2 h33)
    obtain⟨h36,h⟩|⟨h36,h⟩:=aM h
    ·have h:=aN h;subst h;exact(jj.b h36).ret hΓ
    ·exact((jj.b h36).a [.cn [0,3] []]).cf hΓ cI (ih1 (IntKind.i64.wrap (j6+1)) h)
   ·exact(((je.r 7 h33).F 1).a [.cn [0,3] []]).cf hΓ cI (ih1 (IntKind.i64.wrap (j6+1)) h)
  ·exact((aY.b h28).a [.hl 0 [0] []]).ex hΓ cY (di h)
theorem ei{aC:Bytes}{r:Bool}(h:fS aC=some r):Good prog 125 [D.str aC] (D.bool r):=by
 refine gd func125 [[none]] 27 fun hr Γ hΓ=>?_
 rw[fS]at h;refine(aY.a [.cn [0,3] []]).lp hΓ (IP hΓ (fun h=>?_) fuel 0 h);obtain⟨OA,h38,h⟩:=aB h;have h:=aN h;subst h;exact(aY.g (gE h38)).ret hΓ
def ga(aC:Bytes):Option Bool:=(bif decide (((aC.length:Int):Int)>1)then((iP aC 0).bind fun b2=>(bif (b2.toNat:Int)==63 then((AU aC.length (some (D.int .i64 1)) none).bind fun p=>(fun l5 u6=>((fS ((aC.take u6).drop l5)).bind fun y8=>(some y8))) p.1 p.2)else(some false)))else(some false))
theorem fN{aC:Bytes}{r:Bool}(h:ga aC=some r):Good prog 148 [D.str aC] (D.bool r):=by
 refine gd func148 [[none]] 16 fun hr Γ hΓ=>?_
 rw[ga]at h;obtain⟨h1,h⟩|⟨h1,h⟩:=aM h
 ·obtain⟨b2,h3,h⟩:=aB h;have nP:=(((aY.r 2 h1).c h3).r 2 h1)
  obtain⟨h4,h⟩|⟨h4,h⟩:=aM h
  ·obtain⟨⟨l5,u6⟩,h7,h⟩:=aB h;obtain⟨y8,h9,h⟩:=aB h;have h:=aN h;subst h;exact((((((nP.r 2 h4).w h7).a [.cut l5 u6]).b h4).g (ei h9)).b h4).ret hΓ
  ·have h:=aN h;subst h;exact(nP.r 4 h4).ret hΓ
 ·have h:=aN h;subst h;exact((aY.r 4 h1).F 4).ret hΓ
def eX(aC:aG)(aa:Bytes)(k1:Bool->aG->Option aG):aG->Nat->Bool->aG->Option aG
 | [],i1,dR,bP=>(k1 dR bP)
 |bU::cQ,i1,dR,bP=>(bif !(dR)then(bif !(Op.bytesLess bU aa)then(bif !((bU:Bytes)==aa)then(bif room ((bP.map tx).length+([[D.str aa]]).length) 16 then(bif room (((bP.map tx)++([[D.str aa]])).length+([[D.str bU]]).length) 16 then(eX aC aa k1 cQ (i1+1) true ((bP++([aa]))++([bU])))else none)else none)else(bif room ((bP.map tx).length+([[D.str bU]]).length) 16 then(eX aC aa k1 cQ (i1+1) true (bP++([bU])))else none))else(bif room ((bP.map tx).length+([[D.str bU]]).length) 16 then(eX aC aa k1 cQ (i1+1) dR (bP++([bU])))else none))else(bif room ((bP.map tx).length+([[D.str bU]]).length) 16 then(eX aC aa k1 cQ (i1+1) dR (bP++([bU])))else none))
def lV(aC:aG)(aa:Bytes):Option aG:=(eX aC aa (fun(yX:Bool) (cH:aG)=>(bif !(yX)then(bif room ((cH.map tx).length+([[D.str aa]]).length) 16 then(some (cH++([aa])))else none)else(some cH))) aC 0 false ([]:aG))
def sU(aC:aG)(aa:Bytes)(dR:Bool)(W1:List aL)(dL:Int):St:=⟨[(0,D.sl (aC.map tx)),(1,D.str aa),(5,D.acc 0),(6,D.bool dR),(7,D.int .i64 dL)],[Ob.row .uq 9 1 W1]⟩
theorem KA(hΓ:Γ.nt=49){aC:aG}{aa:Bytes}{r:aG}{k1:Bool->aG->Option aG}(di:∀(yX:Bool) (cH:aG),k1 yX cH=some r->Ax Γ N f221 (.q [[some (9,1)]] (D.fr 9 1 (r.map tx))) [1,1,1,1] ⟨[(1,D.str aa),(5,D.acc 0),(6,D.bool yX)],[Ob.row .uq 9 1 (cH.map tx)]⟩)(hm1:aC.length<=maxLen):∀(rest:aG) (i1:Nat) (dR:Bool) (bP:aG),aC.drop i1=rest->eX aC aa k1 rest i1 dR bP=some r->Ar Γ N f221 (.q [[some (9,1)]] (D.fr 9 1 (r.map tx))) [1,1,1,0,1,0] (rest.length+1) (sU aC aa dR (bP.map tx) (i1:Int)):=by
 intro rest
 induction rest with
 |nil=>
  intro i1 dR bP az h;rw[eX]at h;refine aQ fun N1 cY cI=>?_
  exact((aY.ge tx az).a [.hl 0 [1,5,6] [0]]).ex hΓ cY (di dR bP h)
 |cons bU cQ ih1=>
  intro i1 dR bP az h;rw[eX]at h;refine aQ fun N1 cY cI=>?_
  obtain⟨h58,h⟩|⟨h58,h⟩:=aM h
  ·have je:=((((aY.lt tx az).r 3 h58).l (bJ tx 1 (dc az) rfl)).r 4 h58)
   obtain⟨h59,h⟩|⟨h59,h⟩:=aM h
   ·have jj:=((je.b h59).l (bJ tx 1 (dc az) rfl))
    obtain⟨h60,h⟩|⟨h60,h⟩:=aM h
    ·obtain⟨h61,h⟩:=bR h;obtain⟨h62,h⟩:=bR h;exact(((((jj.b h60).w (bf h61)).l (bJ tx 1 (dc az) rfl)).w (bf h62)).a [.cn [0,1,5,6,7] [4]]).cs hΓ cI (sU aC aa true (((bP.map tx)++([[D.str aa]]))++([[D.str bU]])) (IntKind.i64.wrap ((i1:Int)+1))) (by first| (simp only[iS az hm1,mA]<;>rfl)| (simp only[iS az hm1,mA,aD.c,aX.c,aO.c,Action.c,aK.c,aU.c,dW.c,aZ.c,Node.c,aH.c,dh.c]<;>rfl)) (ih1 (i1+1) true ((bP++([aa]))++([bU])) (dn az) h)
    ·obtain⟨h63,h⟩:=bR h;exact((((jj.b h60).l (bJ tx 1 (dc az) rfl)).w (bf h63)).a [.cn [0,1,5,6,7] [2]]).cs hΓ cI (sU aC aa true ((bP.map tx)++([[D.str bU]])) (IntKind.i64.wrap ((i1:Int)+1))) (by first| (simp only[iS az hm1,mA]<;>rfl)| (simp only[iS az hm1,mA,aD.c,aX.c,aO.c,Action.c,aK.c,aU.c,dW.c,aZ.c,Node.c,aH.c,dh.c]<;>rfl)) (ih1 (i1+1) true (bP++([bU])) (dn az) h)
   ·obtain⟨h64,h⟩:=bR h;exact((((je.b h59).l (bJ tx 1 (dc az) rfl)).w (bf h64)).a [.cn [0,1,5,6,7] [2]]).cs hΓ cI (sU aC aa dR ((bP.map tx)++([[D.str bU]])) (IntKind.i64.wrap ((i1:Int)+1))) (by first| (simp only[iS az hm1,mA]<;>rfl)| (simp only[iS az hm1,mA,aD.c,aX.c,aO.c,Action.c,aK.c,aU.c,dW.c,aZ.c,Node.c,aH.c,dh.c]<;>rfl)) (ih1 (i1+1) dR (bP++([bU])) (dn az) h)
  ·obtain⟨h65,h⟩:=bR h;exact((((((aY.lt tx az).r 7 h58).F 1).l (bJ tx 1 (dc az) rfl)).w (bf h65)).a [.cn [0,1,5,6,7] [2]]).cs hΓ cI (sU aC aa dR ((bP.map tx)++([[D.str bU]])) (IntKind.i64.wrap ((i1:Int)+1))) (by first| (simp only[iS az hm1,mA]<;>rfl)| (simp only[iS az hm1,mA,aD.c,aX.c,aO.c,Action.c,aK.c,aU.c,dW.c,aZ.c,Node.c,aH.c,dh.c]<;>rfl)) (ih1 (i1+1) dR (bP++([bU])) (dn az) h)
theorem lW{aC:aG}{aa:Bytes}{r:aG}(h:lV aC aa=some r):Good prog 221 [D.sl (aC.map tx),D.str aa] (D.fr 9 1 (r.map tx)):=by
 refine gd func221 [[some (9,1)]] 49 fun hr Γ hΓ=>?_
 rw[lV]at h;refine(aY.a [.cn [0,1,5,6,7] [0]]).lp hΓ (KA hΓ (fun yX cH h=>?_) (by have:=(gq.sl (hr _ (aE (i:=0) rfl))).1;simpa using this) aC 0 false ([]:aG) rfl h);obtain⟨h66,h⟩|⟨h66,h⟩:=aM h
 ·obtain⟨h67,h⟩:=bR h;cases h;exact((aY.b h66).w (bf h67)).rts hΓ (D.fr 9 1 ((cH.map tx)++([[D.str aa]]))) (by first|rfl| (simp only[mA]<;>rfl))
 ·have h:=aN h;subst h;exact(aY.b h66).ret hΓ
def kp(aC:aD)(k1:aG->Option aG):aG->Nat->aG->Option aG
 | [],i1,bV=>(k1 bV)
 |bU::cQ,i1,bV=>((ga bU).bind fun OA=>(bif OA then((lV bV bU).bind fun y40=>(kp aC k1 cQ (i1+1) y40))else(kp aC k1 cQ (i1+1) bV)))
def nS(aC:aD):Option aG:=(kp aC (fun(cH:aG)=>(some cH)) aC.args 0 ([]:aG))
def K8(aC:aD)(W0:List aL)(dL:Int):St:=⟨[(1,D.ptr 0 0),(3,D.acc 1),(4,D.int .i64 dL)],[Ob.box (aD.c aC),Ob.row .uq 9 1 W0]⟩
theorem IZ(hΓ:Γ.nt=27){aC:aD}{r:aG}{k1:aG->Option aG}(di:∀(cH:aG),k1 cH=some r->Ax Γ N f195 (.q [[some (9,1)]] (D.fr 9 1 (r.map tx))) [1,1,1] ⟨[(3,D.acc 0)],[Ob.row .uq 9 1 (cH.map tx)]⟩)(hm1:aC.args.length<=maxLen):∀(rest:aG) (i1:Nat) (bV:aG),aC.args.drop i1=rest->kp aC k1 rest i1 bV=some r->Ar Γ N f195 (.q [[some (9,1)]] (D.fr 9 1 (r.map tx))) [1,1,0,1,0] (rest.length+1) (K8 aC (bV.map tx) (i1:Int)):=by
 intro rest
 induction rest with
 |nil=>
  intro i1 bV az h;rw[kp]at h;refine aQ fun N1 cY cI=>?_
  exact((aY.ge tx az).a [.hl 0 [3] [1]]).ex hΓ cY (di bV h)
 |cons bU cQ ih1=>
  intro i1 bV az h;rw[kp]at h;refine aQ fun N1 cY cI=>?_
  obtain⟨OA,h38,h⟩:=aB h;have fk:=(((aY.lt tx az).l (bJ tx 1 (dc az) rfl)).g (fN h38))
  obtain⟨h39,h⟩|⟨h39,h⟩:=aM h
  ·obtain⟨y40,h41,h⟩:=aB h;exact((((fk.b h39).l (bJ tx 1 (dc az) rfl)).g (lW h41)).a [.cn [1,3,4] [0,2]]).ct hΓ cI (iS az hm1) (ih1 (i1+1) y40 (dn az) h)
  ·exact((fk.b h39).a [.cn [1,3,4] [0,1]]).ct hΓ cI (iS az hm1) (ih1 (i1+1) bV (dn az) h)
theorem pP{aC:aD}{r:aG}(h:nS aC=some r):Good prog 195 [D.agg (aD.c aC)] (D.fr 9 1 (r.map tx)):=by
 refine gd func195 [[some (9,1)]] 27 fun hr Γ hΓ=>?_
 rw[nS]at h;refine(aY.a [.cn [1,3,4] [0,1]]).lp hΓ (IZ hΓ (fun cH h=>?_) (by have:=(gq.sl (gq.agg (hr _ (aE (i:=0) rfl)) (.sl (aC.args.map tx)) (by simp))).1;simpa using this) aC.args 0 ([]:aG) rfl h);have h:=aN h;subst h;exact aY.ret hΓ
def jU(aC:aK)(aa:Int)(i1:Nat)(Jd:aG)(k2:aG->Option aG):aG->Nat->aG->Option aG
 | [],i2,jy=>(k2 jy)
 |lq::tR,i2,jy=>((lV jy lq).bind fun a4J=>(jU aC aa i1 Jd k2 tR (i2+1) a4J))
def ff(aC:aK)(aa:Int)(k1:aG->Option aG):ai->Nat->aG->Option aG
 | [],i1,bV=>(k1 bV)
 |bU::cQ,i1,bV=>(bif decide (((i1:Int):Int)<aa)then(bif (bU.kind:Int)==1 then((nS bU.pat).bind fun Jd=>(bif decide (Jd.length<=maxLen)then(jU aC aa i1 Jd (fun(wS:aG)=>(ff aC aa k1 cQ (i1+1) wS)) Jd 0 bV)else none))else(ff aC aa k1 cQ (i1+1) bV))else(k1 bV))
def kZ(aC:aK)(aa:Int):Option aG:=(ff aC aa (fun(cH:aG)=>(some cH)) aC.conds 0 ([]:aG))
def G2(aC:aK)(aa:Int)(W0:List aL)(dL:Int):St:=⟨[(1,D.int .i64 aa),(2,D.ptr 0 0),(5,D.acc 1),(6,D.int .i64 dL)],[Ob.box (aK.c aC),Ob.row .uq 9 1 W0]⟩
def G3(aC:aK)(aa:Int)(i1:Nat)(Jd:aG)(W0:List aL)(dL:Int):St:=⟨[(1,D.int .i64 aa),(2,D.ptr 0 0),(5,D.acc 1),(6,D.int .i64 (i1:Int)),(7,D.acc 2),(8,D.int .i64 dL)],[Ob.box (aK.c aC),Ob.row .uq 9 1 W0,Ob.row .uq 9 1 (Jd.map tx)]⟩
theorem EM(hΓ:Γ.nt=49){aC:aK}{aa:Int}{i1:Nat}{Jd:aG}{r:aG}{k2:aG->Option aG}(AJ:∀(wS:aG),k2 wS=some r->Ax Γ N f188 (.q [[some (9,1)]] (D.fr 9 1 (r.map tx))) [1,1,0,1,0,0,1,1] ⟨[(1,D.int .i64 aa),(2,D.ptr 0 0),(5,D.acc 1),(6,D.int .i64 (i1:Int))],[Ob.box (aK.c aC),Ob.row .uq 9 1 (wS.map tx)]⟩)(hm2:Jd.length<=maxLen):∀(rest:aG) (i2:Nat) (jy:aG),Jd.drop i2=rest->jU aC aa i1 Jd k2 rest i2 jy=some r->Ar Γ N f188 (.q [[some (9,1)]] (D.fr 9 1 (r.map tx))) [1,1,0,1,0,0,1,0,0,1,0,1,1,0] (rest.length+1) (G3 aC aa i1 Jd (jy.map tx) (i2:Int)):=by
 intro rest
 induction rest with
 |nil=>
  intro i2 jy hd2 h;rw[jU]at h;refine aQ fun N2 ue sB=>?_
  exact((aY.ge tx hd2).a [.hl 3 [1,2,5,6] [0,1]]).ex hΓ ue (AJ jy h)
 |cons lq tR ih2=>
  intro i2 jy hd2 h;rw[jU]at h;refine aQ fun N2 ue sB=>?_
  obtain⟨a4J,h184,h⟩:=aB h;exact(((((aY.lt tx hd2).i (nU tx 1 (dc hd2))).o 1 1 .uq (cR tx (dc hd2))).g (lW h184)).a [.cn [1,2,5,6,7,8] [0,3,2]]).ct hΓ sB (iS hd2 hm2) (ih2 (i2+1) a4J (dn hd2) h)
theorem EL(hΓ:Γ.nt=49){aC:aK}{aa:Int}{r:aG}{k1:aG->Option aG}(di:∀(cH:aG),k1 cH=some r->Ax Γ N f188 (.q [[some (9,1)]] (D.fr 9 1 (r.map tx))) [1,1,1] ⟨[(5,D.acc 0)],[Ob.row .uq 9 1 (cH.map tx)]⟩)(hm1:aC.conds.length<=maxLen):∀(rest:ai) (i1:Nat) (bV:aG),aC.conds.drop i1=rest->ff aC aa k1 rest i1 bV=some r->Ar Γ N f188 (.q [[some (9,1)]] (D.fr 9 1 (r.map tx))) [1,1,0,1,0] (rest.length+1) (G2 aC aa (bV.map tx) (i1:Int)):=by
 intro rest
 induction rest with
 |nil=>
  intro i1 bV az h;rw[ff]at h;refine aQ fun N1 cY cI=>?_
  exact((((((aY.ge aO.c az).ge aO.c az).ge aO.c az).ge aO.c az).F 1).a [.hl 0 [5] [1]]).ex hΓ cY (di bV h)
 |cons bU cQ ih1=>
  intro i1 bV az h;rw[ff]at h;refine aQ fun N1 cY cI=>?_
  have je:=((((aY.lt aO.c az).lt aO.c az).lt aO.c az).lt aO.c az)
  obtain⟨h157,h⟩|⟨h157,h⟩:=aM h
  ·have jj:=((je.b h157).l (bJ aO.c 5 (dc az) rfl))
   obtain⟨h158,h⟩|⟨h158,h⟩:=aM h
   ·obtain⟨Jd,h160,h⟩:=aB h;obtain⟨h185,h⟩:=bR h;refine((((jj.b h158).l (bJ aO.c 5 (dc az) rfl)).g (pP h160)).a [.cn [1,2,5,6,7,8] [0,1,2]]).lp hΓ (EM hΓ (fun wS h=>?_) (bn h185) Jd 0 bV rfl h);exact(aY.a [.cn [1,2,5,6] [0,1]]).ct hΓ cI (iS az hm1) (ih1 (i1+1) wS (dn az) h)
   ·exact((jj.b h158).a [.cn [1,2,5,6] [0,1]]).ct hΓ cI (iS az hm1) (ih1 (i1+1) bV (dn az) h)
  ·exact((je.b h157).a [.hl 0 [5] [1]]).ex hΓ cY (di bV h)
theorem jq{aC:aK}{aa:Int}{r:aG}(h:kZ aC aa=some r):Good prog 188 [D.agg (aK.c aC),D.int .i64 aa] (D.fr 9 1 (r.map tx)):=by
 refine gd func188 [[some (9,1)]] 49 fun hr Γ hΓ=>?_
 rw[kZ]at h;refine(aY.a [.cn [1,2,5,6] [0,1]]).lp hΓ (EL hΓ (fun cH h=>?_) (by have:=(gq.sl (gq.agg (hr _ (aE (i:=0) rfl)) (.sl (aC.conds.map aO.c)) (by simp))).1;simpa using this) aC.conds 0 ([]:aG) rfl h);have h:=aN h;subst h;exact aY.ret hΓ
def jc(aC:aG)(aa:Bytes)(k1:Option Bool):aG->Nat->Option Bool
 | [],i1=>(k1)
 |bU::cQ,i1=>(bif (bU:Bytes)==aa then(some true)else(jc aC aa k1 cQ (i1+1)))
def gD(aC:aG)(aa:Bytes):Option Bool:=(jc aC aa (some false) aC 0)
def GI(aC:aG)(aa:Bytes)(dL:Int):St:=⟨[(0,D.sl (aC.map tx)),(1,D.str aa),(5,D.int .i64 dL)],[]⟩
theorem EZ(hΓ:Γ.nt=18){aC:aG}{aa:Bytes}{r:Bool}{k1:Option Bool}(di:k1=some r->Ax Γ N f191 (.q [[none]] (D.bool r)) [1,1] ⟨[],[]⟩)(hm1:aC.length<=maxLen):∀(rest:aG) (i1:Nat),aC.drop i1=rest->jc aC aa k1 rest i1=some r->Ar Γ N f191 (.q [[none]] (D.bool r)) [1,0,1,0] (rest.length+1) (GI aC aa (i1:Int)):=by
 intro rest
 induction rest with
 |nil=>
  intro i1 az h;rw[jc]at h;refine aQ fun N1 cY cI=>?_
  exact((aY.ge tx az).a [.hl 0 [] []]).ex hΓ cY (di h)
 |cons bU cQ ih1=>
  intro i1 az h;rw[jc]at h;refine aQ fun N1 cY cI=>?_
  have fk:=((aY.lt tx az).l (bJ tx 1 (dc az) rfl))
  obtain⟨h13,h⟩|⟨h13,h⟩:=aM h
  ·have h:=aN h;subst h;exact(fk.b h13).ret hΓ
  ·exact((fk.b h13).a [.cn [0,1,5] []]).ct hΓ cI (iS az hm1) (ih1 (i1+1) (dn az) h)
theorem jr{aC:aG}{aa:Bytes}{r:Bool}(h:gD aC aa=some r):Good prog 191 [D.sl (aC.map tx),D.str aa] (D.bool r):=by
 refine gd func191 [[none]] 18 fun hr Γ hΓ=>?_
 rw[gD]at h;refine(aY.a [.cn [0,1,5] []]).lp hΓ (EZ hΓ (fun h=>?_) (by have:=(gq.sl (hr _ (aE (i:=0) rfl))).1;simpa using this) aC 0 rfl h);have h:=aN h;subst h;exact aY.ret hΓ
def qh(aC:Bytes):Option Bool:=((fS aC).bind fun y1=>(bif y1 then((iP aC 0).bind fun b4=>((kq (IntKind.i64.wrap b4.toNat) 97 122).bind fun y6=>(some y6)))else(some false)))
theorem nC{aC:Bytes}{r:Bool}(h:qh aC=some r):Good prog 126 [D.str aC] (D.bool r):=by
 refine gd func126 [[none]] 11 fun hr Γ hΓ=>?_
 rw[qh]at h;obtain⟨y1,h2,h⟩:=aB h;obtain⟨h3,h⟩|⟨h3,h⟩:=aM h
 ·obtain⟨b4,h5,h⟩:=aB h;obtain⟨y6,h7,h⟩:=aB h;have h:=aN h;subst h;exact((((((aY.g (ei h2)).r 2 h3).c h5).r 2 h3).g (gE h7)).b h3).ret hΓ
 ·have h:=aN h;subst h;exact((aY.g (ei h2)).r 5 h3).ret hΓ
def j4(aC:Bytes):Option Bool:=((fS aC).bind fun y1=>(bif y1 then(some true)else((ga aC).bind fun y4=>(some y4))))
theorem kK{aC:Bytes}{r:Bool}(h:j4 aC=some r):Good prog 205 [D.str aC] (D.bool r):=by
 refine gd func205 [[none]] 9 fun hr Γ hΓ=>?_
 rw[j4]at h;obtain⟨y1,h2,h⟩:=aB h;obtain⟨h3,h⟩|⟨h3,h⟩:=aM h
 ·have h:=aN h;subst h;exact((aY.g (ei h2)).r 3 h3).ret hΓ
 ·obtain⟨y4,h5,h⟩:=aB h;have h:=aN h;subst h;exact((((aY.g (ei h2)).r 2 h3).g (fN h5)).b h3).ret hΓ
def mK(aC:aD)(k1:Option Bool):aG->Nat->Option Bool
 | [],i1=>(k1)
 |bU::cQ,i1=>((j4 bU).bind fun NL=>(bif !(NL)then(some false)else(mK aC k1 cQ (i1+1))))
def gy(aC:aD):Option Bool:=(mK aC ((qh aC.rel).bind fun Gp=>(bif Gp then(some (decide ((((aC.args.map tx).length:Int):Int)<=3)))else(some false))) aC.args 0)
def G8(aC:aD)(dL:Int):St:=⟨[(1,D.ptr 0 0),(3,D.int .i64 dL)],[Ob.box (aD.c aC)]⟩
theorem ES(hΓ:Γ.nt=27){aC:aD}{r:Bool}{k1:Option Bool}(di:k1=some r->Ax Γ N f157 (.q [[none]] (D.bool r)) [1,1] ⟨[(1,D.ptr 0 0)],[Ob.box (aD.c aC)]⟩)(hm1:aC.args.length<=maxLen):∀(rest:aG) (i1:Nat),aC.args.drop i1=rest->mK aC k1 rest i1=some r->Ar Γ N f157 (.q [[none]] (D.bool r)) [1,0,1,0] (rest.length+1) (G8 aC (i1:Int)):=by
 intro rest
 induction rest with
 |nil=>
  intro i1 az h;rw[mK]at h;refine aQ fun N1 cY cI=>?_
  exact((aY.ge tx az).a [.hl 0 [1] [0]]).ex hΓ cY (di h)
 |cons bU cQ ih1=>
  intro i1 az h;rw[mK]at h;refine aQ fun N1 cY cI=>?_
  obtain⟨NL,h22,h⟩:=aB h;have fk:=(((aY.lt tx az).l (bJ tx 1 (dc az) rfl)).g (kK h22))
  obtain⟨h23,h⟩|⟨h23,h⟩:=aM h
  ·have h:=aN h;subst h;exact(fk.b h23).ret hΓ
  ·exact((fk.b h23).a [.cn [1,3] [0]]).ct hΓ cI (iS az hm1) (ih1 (i1+1) (dn az) h)
theorem ez{aC:aD}{r:Bool}(h:gy aC=some r):Good prog 157 [D.agg (aD.c aC)] (D.bool r):=by
 refine gd func157 [[none]] 27 fun hr Γ hΓ=>?_
 rw[gy]at h;refine(aY.a [.cn [1,3] [0]]).lp hΓ (ES hΓ (fun h=>?_) (by have:=(gq.sl (gq.agg (hr _ (aE (i:=0) rfl)) (.sl (aC.args.map tx)) (by simp))).1;simpa using this) aC.args 0 rfl h);obtain⟨Gp,h25,h⟩:=aB h;obtain⟨h26,h⟩|⟨h26,h⟩:=aM h
 ·cases h;exact((aY.g (nC h25)).r 5 h26).ret hΓ
 ·have h:=aN h;subst h;exact((aY.g (nC h25)).r 5 h26).ret hΓ
def om(aC:aO):Option Bool:=(bif (aC.kind:Int)==1 then((gy aC.pat).bind fun y2=>(bif y2 then(bif (aC.left:Bytes)==([])then(some ((aC.right:Bytes)==([])))else(some false))else(some false)))else(bif (aC.kind:Int)==2 then((gy aC.pat).bind fun y7=>(bif y7 then(bif (aC.left:Bytes)==([])then(some ((aC.right:Bytes)==([])))else(some false))else(some false)))else(bif (aC.kind:Int)==3 then(bif (aC.pat.rel:Bytes)==([])then(bif (((aC.pat.args.map tx).length:Int):Int)==0 then((j4 aC.left).bind fun AK=>(bif AK then((j4 aC.right).bind fun Sl=>(some Sl))else(some false)))else(some false))else(some false))else(bif (aC.kind:Int)==4 then(bif (aC.pat.rel:Bytes)==([])then(bif (((aC.pat.args.map tx).length:Int):Int)==0 then((j4 aC.left).bind fun pW=>(bif pW then((j4 aC.right).bind fun vE=>(some vE))else(some false)))else(some false))else(some false))else(bif (aC.kind:Int)==5 then(bif (aC.pat.rel:Bytes)==([])then(bif (((aC.pat.args.map tx).length:Int):Int)==0 then((j4 aC.left).bind fun yW=>(bif yW then((j4 aC.right).bind fun tQ=>(some tQ))else(some false)))else(some false))else(some false))else(some false))))))
theorem ia{aC:aO}{r:Bool}(h:om aC=some r):Good prog 189 [D.agg (aO.c aC)] (D.bool r):=by
 refine gd func189 [[none]] 46 fun hr Γ hΓ=>?_
 rw[om]at h;obtain⟨h1,h⟩|⟨h1,h⟩:=aM h
 ·obtain⟨y2,h3,h⟩:=aB h;have nP:=((aY.r 2 h1).g (ez h3))
  obtain⟨h4,h⟩|⟨h4,h⟩:=aM h
  ·have fk:=(nP.r 4 h4)
   obtain⟨h5,h⟩|⟨h5,h⟩:=aM h
   ·cases h;exact(fk.r 4 h5).ret hΓ
   ·have h:=aN h;subst h;exact(fk.r 4 h5).ret hΓ
  ·have h:=aN h;subst h;exact((nP.r 4 h4).F 4).ret hΓ
 ·obtain⟨h6,h⟩|⟨h6,h⟩:=aM h
  ·obtain⟨y7,h8,h⟩:=aB h;have je:=(((aY.b h1).b h6).g (ez h8))
   obtain⟨h9,h⟩|⟨h9,h⟩:=aM h
   ·have jj:=(je.r 4 h9)
    obtain⟨h10,h⟩|⟨h10,h⟩:=aM h
    ·cases h;exact(jj.r 4 h10).ret hΓ
    ·have h:=aN h;subst h;exact(jj.r 4 h10).ret hΓ
   ·have h:=aN h;subst h;exact((je.r 4 h9).F 4).ret hΓ
  ·have sX:=((aY.b h1).b h6)
   obtain⟨h11,h⟩|⟨h11,h⟩:=aM h
   ·have vg:=(sX.r 2 h11)
    obtain⟨h12,h⟩|⟨h12,h⟩:=aM h
    ·have zB:=(vg.r 6 h12)
     obtain⟨h13,h⟩|⟨h13,h⟩:=aM h
     ·obtain⟨AK,h15,h⟩:=aB h;have Ez:=(((zB.r 3 h13).g (kK h15)).b h13)
      obtain⟨h16,h⟩|⟨h16,h⟩:=aM h
      ·obtain⟨Sl,h18,h⟩:=aB h;have h:=aN h;subst h;exact(((Ez.r 3 h16).g (kK h18)).b h16).ret hΓ
      ·have h:=aN h;subst h;exact(Ez.r 4 h16).ret hΓ
     ·have h:=aN h;subst h;exact((zB.r 4 h13).F 4).ret hΓ
    ·have h:=aN h;subst h;exact((vg.r 6 h12).F 8).ret hΓ
   ·obtain⟨h19,h⟩|⟨h19,h⟩:=aM h
    ·have Kn:=((sX.b h11).r 2 h19)
     obtain⟨h20,h⟩|⟨h20,h⟩:=aM h
     ·have Bk:=(Kn.r 6 h20)
      obtain⟨h21,h⟩|⟨h21,h⟩:=aM h
      ·obtain⟨pW,h23,h⟩:=aB h;have JK:=(((Bk.r 3 h21).g (kK h23)).b h21)
       obtain⟨h24,h⟩|⟨h24,h⟩:=aM h
       ·obtain⟨vE,h26,h⟩:=aB h;have h:=aN h;subst h;exact(((JK.r 3 h24).g (kK h26)).b h24).ret hΓ
       ·have h:=aN h;subst h;exact(JK.r 4 h24).ret hΓ
      ·have h:=aN h;subst h;exact((Bk.r 4 h21).F 4).ret hΓ
     ·have h:=aN h;subst h;exact((Kn.r 6 h20).F 8).ret hΓ
    ·have De:=((sX.b h11).b h19)
     obtain⟨h27,h⟩|⟨h27,h⟩:=aM h
     ·obtain⟨h28,h⟩|⟨h28,h⟩:=aM h
      ·have JL:=((De.b h27).r 6 h28)
       obtain⟨h29,h⟩|⟨h29,h⟩:=aM h
       ·obtain⟨yW,h31,h⟩:=aB h;have JM:=(((JL.r 3 h29).g (kK h31)).b h29)
        obtain⟨h32,h⟩|⟨h32,h⟩:=aM h
        ·obtain⟨tQ,h34,h⟩:=aB h;have h:=aN h;subst h;exact(((JM.r 3 h32).g (kK h34)).b h32).ret hΓ
        ·have h:=aN h;subst h;exact(JM.r 4 h32).ret hΓ
       ·have h:=aN h;subst h;exact((JL.r 4 h29).F 4).ret hΓ
      ·have h:=aN h;subst h;exact(((De.b h27).r 6 h28).F 8).ret hΓ
     ·have h:=aN h;subst h;exact(De.b h27).ret hΓ
def mP(aC:aO):Option aG:=((nS aC.pat).bind fun y1=>((ga aC.left).bind fun y3=>(bif y3 then((lV y1 aC.left).bind fun y6=>((ga aC.right).bind fun y8=>(bif y8 then((lV y6 aC.right).bind fun B9=>(some B9))else(some y6))))else((ga aC.right).bind fun vD=>(bif vD then((lV y1 aC.right).bind fun O7=>(some O7))else(some y1))))))
theorem qL{aC:aO}{r:aG}(h:mP aC=some r):Good prog 190 [D.agg (aO.c aC)] (D.fr 9 1 (r.map tx)):=by
 refine gd func190 [[some (9,1)]] 22 fun hr Γ hΓ=>?_
 rw[mP]at h;obtain⟨y1,h2,h⟩:=aB h;obtain⟨y3,h4,h⟩:=aB h;have nP:=((aY.g (pP h2)).g (fN h4))
 obtain⟨h5,h⟩|⟨h5,h⟩:=aM h
 ·obtain⟨y6,h7,h⟩:=aB h;obtain⟨y8,h9,h⟩:=aB h;have fk:=(((nP.b h5).g (lW h7)).g (fN h9))
  obtain⟨h10,h⟩|⟨h10,h⟩:=aM h
  ·obtain⟨B9,h12,h⟩:=aB h;have h:=aN h;subst h;exact((fk.b h10).g (lW h12)).ret hΓ
  ·have h:=aN h;subst h;exact(fk.b h10).ret hΓ
 ·obtain⟨vD,h14,h⟩:=aB h;have je:=((nP.b h5).g (fN h14))
  obtain⟨h15,h⟩|⟨h15,h⟩:=aM h
  ·obtain⟨O7,h17,h⟩:=aB h;have h:=aN h;subst h;exact((je.b h15).g (lW h17)).ret hΓ
  ·have h:=aN h;subst h;exact(je.b h15).ret hΓ
def qi(aC:aO):Option Bool:=((om aC).bind fun y1=>(bif y1 then(some (decide ((aC.kind:Int)>=3)))else(some false)))
theorem rq{aC:aO}{r:Bool}(h:qi aC=some r):Good prog 192 [D.agg (aO.c aC)] (D.bool r):=by
 refine gd func192 [[none]] 10 fun hr Γ hΓ=>?_
 rw[qi]at h;obtain⟨y1,h2,h⟩:=aB h;obtain⟨h3,h⟩|⟨h3,h⟩:=aM h
 ·cases h;exact((aY.g (ia h2)).r 4 h3).ret hΓ
 ·have h:=aN h;subst h;exact((aY.g (ia h2)).r 4 h3).ret hΓ
def fW(aC:aK)(aa:Int)(cS:Bytes)(k1:Option Bool):ai->Nat->Option Bool
 | [],i1=>(k1)
 |bU::cQ,i1=>(bif ((i1:Int):Int) != aa then((mP bU).bind fun Dm=>((gD Dm cS).bind fun Ms=>(bif Ms then(some true)else(fW aC aa cS k1 cQ (i1+1)))))else(fW aC aa cS k1 cQ (i1+1)))
def iI(aC:aK)(cS:Bytes)(k2:Option Bool):eF->Nat->Option Bool
 | [],i2=>(k2)
 |lq::tR,i2=>((nS lq.pat).bind fun VH=>((gD VH cS).bind fun y69=>(bif y69 then(some true)else(iI aC cS k2 tR (i2+1)))))
def nM(aC:aK)(aa:Int)(cS:Bytes):Option Bool:=(fW aC aa cS (iI aC cS (some false) aC.cK 0) aC.conds 0)
def DW(aC:aK)(aa:Int)(cS:Bytes)(dL:Int):St:=⟨[(1,D.int .i64 aa),(2,D.str cS),(3,D.ptr 0 0),(7,D.int .i64 dL)],[Ob.box (aK.c aC)]⟩
theorem CR(hΓ:Γ.nt=45){aC:aK}{aa:Int}{cS:Bytes}{r:Bool}{k1:Option Bool}(di:k1=some r->Ax Γ N f193 (.q [[none]] (D.bool r)) [1,1] ⟨[(2,D.str cS),(3,D.ptr 0 0)],[Ob.box (aK.c aC)]⟩)(hm1:aC.conds.length<=maxLen):∀(rest:ai) (i1:Nat),aC.conds.drop i1=rest->fW aC aa cS k1 rest i1=some r->Ar Γ N f193 (.q [[none]] (D.bool r)) [1,0,1,0] (rest.length+1) (DW aC aa cS (i1:Int)):=by
 intro rest
 induction rest with
 |nil=>
  intro i1 az h;rw[fW]at h;refine aQ fun N1 cY cI=>?_
  exact((aY.ge aO.c az).a [.hl 0 [2,3] [0]]).ex hΓ cY (di h)
 |cons bU cQ ih1=>
  intro i1 az h;rw[fW]at h;refine aQ fun N1 cY cI=>?_
  obtain⟨h33,h⟩|⟨h33,h⟩:=aM h
  ·obtain⟨Dm,h35,h⟩:=aB h;obtain⟨Ms,h37,h⟩:=aB h;have je:=((((((((aY.lt aO.c az).r 4 h33).l (bJ aO.c 5 (dc az) rfl)).r 2 h33).g (qL h35)).r 2 h33).g (jr h37)).b h33)
   obtain⟨h38,h⟩|⟨h38,h⟩:=aM h
   ·have h:=aN h;subst h;exact(je.b h38).ret hΓ
   ·exact((je.b h38).a [.cn [1,2,3,7] [0]]).ct hΓ cI (iS az hm1) (ih1 (i1+1) (dn az) h)
  ·exact((((aY.lt aO.c az).r 9 h33).F 1).a [.cn [1,2,3,7] [0]]).ct hΓ cI (iS az hm1) (ih1 (i1+1) (dn az) h)
def DX(aC:aK)(cS:Bytes)(dL:Int):St:=⟨[(2,D.str cS),(3,D.ptr 0 0),(8,D.int .i64 dL)],[Ob.box (aK.c aC)]⟩
theorem CS(hΓ:Γ.nt=45){aC:aK}{cS:Bytes}{r:Bool}{k2:Option Bool}(AJ:k2=some r->Ax Γ N f193 (.q [[none]] (D.bool r)) [1,1,1] ⟨[],[]⟩)(hm2:aC.cK.length<=maxLen):∀(rest:eF) (i2:Nat),aC.cK.drop i2=rest->iI aC cS k2 rest i2=some r->Ar Γ N f193 (.q [[none]] (D.bool r)) [1,1,0,1,0] (rest.length+1) (DX aC cS (i2:Int)):=by
 intro rest
 induction rest with
 |nil=>
  intro i2 hd2 h;rw[iI]at h;refine aQ fun N2 ue sB=>?_
  exact((aY.ge Action.c hd2).a [.hl 0 [] []]).ex hΓ ue (AJ h)
 |cons lq tR ih2=>
  intro i2 hd2 h;rw[iI]at h;refine aQ fun N2 ue sB=>?_
  obtain⟨VH,h68,h⟩:=aB h;obtain⟨y69,h70,h⟩:=aB h;have jj:=((((aY.lt Action.c hd2).l (bJ Action.c 3 (dc hd2) rfl)).g (pP h68)).g (jr h70))
  obtain⟨h71,h⟩|⟨h71,h⟩:=aM h
  ·have h:=aN h;subst h;exact(jj.b h71).ret hΓ
  ·exact((jj.b h71).a [.cn [2,3,8] [0]]).ct hΓ sB (iS hd2 hm2) (ih2 (i2+1) (dn hd2) h)
theorem ve{aC:aK}{aa:Int}{cS:Bytes}{r:Bool}(h:nM aC aa cS=some r):Good prog 193 [D.agg (aK.c aC),D.int .i64 aa,D.str cS] (D.bool r):=by
 refine gd func193 [[none]] 45 fun hr Γ hΓ=>?_
 rw[nM]at h;refine(aY.a [.cn [1,2,3,7] [0]]).lp hΓ (CR hΓ (fun h=>?_) (by have:=(gq.sl (gq.agg (hr _ (aE (i:=0) rfl)) (.sl (aC.conds.map aO.c)) (by simp))).1;simpa using this) aC.conds 0 rfl h);refine(aY.a [.cn [2,3,8] [0]]).lp hΓ (CS hΓ (fun h=>?_) (by have:=(gq.sl (gq.agg (hr _ (aE (i:=0) rfl)) (.sl (aC.cK.map Action.c)) (by simp))).1;simpa using this) aC.cK 0 rfl h);have h:=aN h;subst h;exact aY.ret hΓ
def sQ(aC:Action):Option Bool:=(bif (aC.kind:Int)==1 then((gy aC.pat).bind fun y2=>(some y2))else(bif (aC.kind:Int)==2 then((gy aC.pat).bind fun y5=>(some y5))else(bif (aC.kind:Int)==3 then(bif (aC.pat.rel:Bytes)==([])then(some ((((aC.pat.args.map tx).length:Int):Int)==0))else(some false))else(some false))))
theorem EO{aC:Action}{r:Bool}(h:sQ aC=some r):Good prog 194 [D.agg (Action.c aC)] (D.bool r):=by
 refine gd func194 [[none]] 24 fun hr Γ hΓ=>?_
 rw[sQ]at h;obtain⟨h1,h⟩|⟨h1,h⟩:=aM h
 ·obtain⟨y2,h3,h⟩:=aB h;have h:=aN h;subst h;exact((aY.r 2 h1).g (ez h3)).ret hΓ
 ·obtain⟨h4,h⟩|⟨h4,h⟩:=aM h
  ·obtain⟨y5,h6,h⟩:=aB h;have h:=aN h;subst h;exact(((aY.b h1).b h4).g (ez h6)).ret hΓ
  ·have nP:=((aY.b h1).b h4)
   obtain⟨h7,h⟩|⟨h7,h⟩:=aM h
   ·obtain⟨h8,h⟩|⟨h8,h⟩:=aM h
    ·cases h;exact((nP.b h7).r 6 h8).ret hΓ
    ·have h:=aN h;subst h;exact((nP.b h7).r 6 h8).ret hΓ
   ·have h:=aN h;subst h;exact(nP.b h7).ret hΓ
def kL(aC:aK)(i1:Nat)(AV:aG)(k2:aG->Option aG):aG->Nat->aG->Option aG
 | [],i2,jy=>(k2 jy)
 |lq::tR,i2,jy=>((lV jy lq).bind fun a4I=>(kL aC i1 AV k2 tR (i2+1) a4I))
def iq(aC:aK)(k1:aG->Option aG):ai->Nat->aG->Option aG
 | [],i1,bV=>(k1 bV)
 |bU::cQ,i1,bV=>((mP bU).bind fun AV=>(bif decide (AV.length<=maxLen)then(kL aC i1 AV (fun(wS:aG)=>(iq aC k1 cQ (i1+1) wS)) AV 0 bV)else none))
def kM(aC:aK)(i3:Nat)(Jf:aG)(k4:aG->Option aG):aG->Nat->aG->Option aG
 | [],i4,Pb=>(k4 Pb)
 |x4_::xs4,i4,Pb=>((lV Pb x4_).bind fun a4K=>(kM aC i3 Jf k4 xs4 (i4+1) a4K))
def gb(aC:aK)(k3:aG->Option aG):eF->Nat->aG->Option aG
 | [],i3,yV=>(k3 yV)
 |RG::Pc,i3,yV=>((nS RG.pat).bind fun Jf=>(bif decide (Jf.length<=maxLen)then(kM aC i3 Jf (fun(Ut:aG)=>(gb aC k3 Pc (i3+1) Ut)) Jf 0 yV)else none))
def sS(aC:aK):Option aG:=(iq aC (fun(jM:aG)=>(gb aC (fun(Xm:aG)=>(some Xm)) aC.cK 0 jM)) aC.conds 0 ([]:aG))
def HL(aC:aK)(W0:List aL)(dL:Int):St:=⟨[(1,D.ptr 0 0),(3,D.acc 1),(4,D.int .i64 dL)],[Ob.box (aK.c aC),Ob.row .uq 9 1 W0]⟩
def HM(aC:aK)(i1:Nat)(AV:aG)(W0:List aL)(dL:Int):St:=⟨[(1,D.ptr 0 0),(3,D.acc 1),(4,D.int .i64 (i1:Int)),(5,D.acc 2),(6,D.int .i64 dL)],[Ob.box (aK.c aC),Ob.row .uq 9 1 W0,Ob.row .uq 9 1 (AV.map tx)]⟩
theorem GD(hΓ:Γ.nt=63){aC:aK}{i1:Nat}{AV:aG}{r:aG}{k2:aG->Option aG}(AJ:∀(wS:aG),k2 wS=some r->Ax Γ N f196 (.q [[some (9,1)]] (D.fr 9 1 (r.map tx))) [1,1,0,1,0,0,1,1] ⟨[(1,D.ptr 0 0),(3,D.acc 1),(4,D.int .i64 (i1:Int))],[Ob.box (aK.c aC),Ob.row .uq 9 1 (wS.map tx)]⟩)(hm2:AV.length<=maxLen):∀(rest:aG) (i2:Nat) (jy:aG),AV.drop i2=rest->kL aC i1 AV k2 rest i2 jy=some r->Ar Γ N f196 (.q [[some (9,1)]] (D.fr 9 1 (r.map tx))) [1,1,0,1,0,0,1,0,0,1,1,0] (rest.length+1) (HM aC i1 AV (jy.map tx) (i2:Int)):=by
 intro rest
 induction rest with
 |nil=>
  intro i2 jy hd2 h;rw[kL]at h;refine aQ fun N2 ue sB=>?_
  exact((aY.ge tx hd2).a [.hl 3 [1,3,4] [0,1]]).ex hΓ ue (AJ jy h)
 |cons lq tR ih2=>
  intro i2 jy hd2 h;rw[kL]at h;refine aQ fun N2 ue sB=>?_
  obtain⟨a4I,h172,h⟩:=aB h;exact(((((aY.lt tx hd2).i (nU tx 1 (dc hd2))).o 1 1 .uq (cR tx (dc hd2))).g (lW h172)).a [.cn [1,3,4,5,6] [0,3,2]]).ct hΓ sB (iS hd2 hm2) (ih2 (i2+1) a4I (dn hd2) h)
theorem GC(hΓ:Γ.nt=63){aC:aK}{r:aG}{k1:aG->Option aG}(di:∀(jM:aG),k1 jM=some r->Ax Γ N f196 (.q [[some (9,1)]] (D.fr 9 1 (r.map tx))) [1,1,1] ⟨[(1,D.ptr 0 0),(3,D.acc 1)],[Ob.box (aK.c aC),Ob.row .uq 9 1 (jM.map tx)]⟩)(hm1:aC.conds.length<=maxLen):∀(rest:ai) (i1:Nat) (bV:aG),aC.conds.drop i1=rest->iq aC k1 rest i1 bV=some r->Ar Γ N f196 (.q [[some (9,1)]] (D.fr 9 1 (r.map tx))) [1,1,0,1,0] (rest.length+1) (HL aC (bV.map tx) (i1:Int)):=by
 intro rest
 induction rest with
 |nil=>
  intro i1 bV az h;rw[iq]at h;refine aQ fun N1 cY cI=>?_
  exact((aY.ge aO.c az).a [.hl 0 [1,3] [0,1]]).ex hΓ cY (di bV h)
 |cons bU cQ ih1=>
  intro i1 bV az h;rw[iq]at h;refine aQ fun N1 cY cI=>?_
  obtain⟨AV,h148,h⟩:=aB h;obtain⟨h173,h⟩:=bR h;refine((((aY.lt aO.c az).l (bJ aO.c 5 (dc az) rfl)).g (qL h148)).a [.cn [1,3,4,5,6] [0,1,2]]).lp hΓ (GD hΓ (fun wS h=>?_) (bn h173) AV 0 bV rfl h);exact(aY.a [.cn [1,3,4] [0,1]]).ct hΓ cI (iS az hm1) (ih1 (i1+1) wS (dn az) h)
def HN(aC:aK)(W0:List aL)(dL:Int):St:=⟨[(1,D.ptr 0 0),(3,D.acc 1),(7,D.int .i64 dL)],[Ob.box (aK.c aC),Ob.row .uq 9 1 W0]⟩
def HO(aC:aK)(i3:Nat)(Jf:aG)(W0:List aL)(dL:Int):St:=⟨[(1,D.ptr 0 0),(3,D.acc 1),(7,D.int .i64 (i3:Int)),(8,D.acc 2),(9,D.int .i64 dL)],[Ob.box (aK.c aC),Ob.row .uq 9 1 W0,Ob.row .uq 9 1 (Jf.map tx)]⟩
theorem GG(hΓ:Γ.nt=63){aC:aK}{i3:Nat}{Jf:aG}{r:aG}{k4:aG->Option aG}(hE4:∀(Ut:aG),k4 Ut=some r->Ax Γ N f196 (.q [[some (9,1)]] (D.fr 9 1 (r.map tx))) [1,1,1,0,1,0,0,1,1] ⟨[(1,D.ptr 0 0),(3,D.acc 1),(7,D.int .i64 (i3:Int))],[Ob.box (aK.c aC),Ob.row .uq 9 1 (Ut.map tx)]⟩)(hm4:Jf.length<=maxLen):∀(rest:aG) (i4:Nat) (Pb:aG),Jf.drop i4=rest->kM aC i3 Jf k4 rest i4 Pb=some r->Ar Γ N f196 (.q [[some (9,1)]] (D.fr 9 1 (r.map tx))) [1,1,1,0,1,0,0,1,0,0,1,1,0] (rest.length+1) (HO aC i3 Jf (Pb.map tx) (i4:Int)):=by
 intro rest
 induction rest with
 |nil=>
  intro i4 Pb Rj h;rw[kM]at h;refine aQ fun N4 hN4 hS4=>?_
  exact((aY.ge tx Rj).a [.hl 3 [1,3,7] [0,1]]).ex hΓ hN4 (hE4 Pb h)
 |cons x4_ xs4 ih4=>
  intro i4 Pb Rj h;rw[kM]at h;refine aQ fun N4 hN4 hS4=>?_
  obtain⟨a4K,h345,h⟩:=aB h;exact(((((aY.lt tx Rj).i (nU tx 1 (dc Rj))).o 1 1 .uq (cR tx (dc Rj))).g (lW h345)).a [.cn [1,3,7,8,9] [0,3,2]]).ct hΓ hS4 (iS Rj hm4) (ih4 (i4+1) a4K (dn Rj) h)
theorem GF(hΓ:Γ.nt=63){aC:aK}{r:aG}{k3:aG->Option aG}(Zm:∀(Xm:aG),k3 Xm=some r->Ax Γ N f196 (.q [[some (9,1)]] (D.fr 9 1 (r.map tx))) [1,1,1,1] ⟨[(3,D.acc 0)],[Ob.row .uq 9 1 (Xm.map tx)]⟩)(Rm:aC.cK.length<=maxLen):∀(rest:eF) (i3:Nat) (yV:aG),aC.cK.drop i3=rest->gb aC k3 rest i3 yV=some r->Ar Γ N f196 (.q [[some (9,1)]] (D.fr 9 1 (r.map tx))) [1,1,1,0,1,0] (rest.length+1) (HN aC (yV.map tx) (i3:Int)):=by
 intro rest
 induction rest with
 |nil=>
  intro i3 yV z8 h;rw[gb]at h;refine aQ fun N3 TN OW=>?_
  exact((aY.ge Action.c z8).a [.hl 0 [3] [1]]).ex hΓ TN (Zm yV h)
 |cons RG Pc ih3=>
  intro i3 yV z8 h;rw[gb]at h;refine aQ fun N3 TN OW=>?_
  obtain⟨Jf,h321,h⟩:=aB h;obtain⟨h346,h⟩:=bR h;refine((((aY.lt Action.c z8).l (bJ Action.c 3 (dc z8) rfl)).g (pP h321)).a [.cn [1,3,7,8,9] [0,1,2]]).lp hΓ (GG hΓ (fun Ut h=>?_) (bn h346) Jf 0 yV rfl h);exact(aY.a [.cn [1,3,7] [0,1]]).ct hΓ OW (iS z8 Rm) (ih3 (i3+1) Ut (dn z8) h)
theorem EX{aC:aK}{r:aG}(h:sS aC=some r):Good prog 196 [D.agg (aK.c aC)] (D.fr 9 1 (r.map tx)):=by
 refine gd func196 [[some (9,1)]] 63 fun hr Γ hΓ=>?_
 rw[sS]at h;refine(aY.a [.cn [1,3,4] [0,1]]).lp hΓ (GC hΓ (fun jM h=>?_) (by have:=(gq.sl (gq.agg (hr _ (aE (i:=0) rfl)) (.sl (aC.conds.map aO.c)) (by simp))).1;simpa using this) aC.conds 0 ([]:aG) rfl h);refine(aY.a [.cn [1,3,7] [0,1]]).lp hΓ (GF hΓ (fun Xm h=>?_) (by have:=(gq.sl (gq.agg (hr _ (aE (i:=0) rfl)) (.sl (aC.cK.map Action.c)) (by simp))).1;simpa using this) aC.cK 0 jM rfl h);have h:=aN h;subst h;exact aY.ret hΓ
def gA(aC:aK)(vD:aG)(i1:Nat)(bU:aO)(Ji:aG)(Di:aG)(k2:Option Bool):aG->Nat->Option Bool
 | [],i2=>(k2)
 |lq::tR,i2=>((gD Ji lq).bind fun a4M=>((qi bU).bind fun a7K=>(bif a7K then(bif !(a4M)then(some false)else(bif (bU.kind:Int)==2 then(gA aC vD i1 bU Ji Di k2 tR (i2+1))else(gA aC vD i1 bU Ji Di k2 tR (i2+1))))else(bif (bU.kind:Int)==2 then(bif !(a4M)then((nM aC (i1:Int) lq).bind fun a7L=>(bif a7L then(some false)else(gA aC vD i1 bU Ji Di k2 tR (i2+1))))else(gA aC vD i1 bU Ji Di k2 tR (i2+1)))else(gA aC vD i1 bU Ji Di k2 tR (i2+1))))))
def gB(aC:aK)(vD:aG)(i1:Nat)(bU:aO)(Jj:aG)(Dj:aG)(k3:Option Bool):aG->Nat->Option Bool
 | [],i3=>(k3)
 |RG::Pc,i3=>((gD Jj RG).bind fun a4O=>((qi bU).bind fun a7M=>(bif a7M then(bif !(a4O)then(some false)else(bif (bU.kind:Int)==2 then(gB aC vD i1 bU Jj Dj k3 Pc (i3+1))else(gB aC vD i1 bU Jj Dj k3 Pc (i3+1))))else(bif (bU.kind:Int)==2 then(bif !(a4O)then((nM aC (i1:Int) RG).bind fun a7N=>(bif a7N then(some false)else(gB aC vD i1 bU Jj Dj k3 Pc (i3+1))))else(gB aC vD i1 bU Jj Dj k3 Pc (i3+1)))else(gB aC vD i1 bU Jj Dj k3 Pc (i3+1))))))
def kf(aC:aK)(vD:aG)(k1:Option Bool):ai->Nat->Option Bool
 | [],i1=>(k1)
 |bU::cQ,i1=>((om bU).bind fun a7J=>(bif !(a7J)then(some false)else(bif ((i1:Int):Int)==0 then(bif (bU.kind:Int) != 1 then(some false)else((kZ aC (i1:Int)).bind fun Ji=>((mP bU).bind fun Di=>(bif decide (Di.length<=maxLen)then(gA aC vD i1 bU Ji Di (kf aC vD k1 cQ (i1+1)) Di 0)else none))))else((kZ aC (i1:Int)).bind fun Jj=>((mP bU).bind fun Dj=>(bif decide (Dj.length<=maxLen)then(gB aC vD i1 bU Jj Dj (kf aC vD k1 cQ (i1+1)) Dj 0)else none))))))
def nE(aC:aK)(vD:aG)(i4:Nat)(Jk:aG)(k5:Option Bool):aG->Nat->Option Bool
 | [],i5=>(k5)
 |x5_::xs5,i5=>((gD vD x5_).bind fun a7Q=>(bif !(a7Q)then(some false)else(nE aC vD i4 Jk k5 xs5 (i5+1))))
def nD(aC:aK)(vD:aG)(k4:Option Bool):eF->Nat->Option Bool
 | [],i4=>(k4)
 |x4_::xs4,i4=>((sQ x4_).bind fun a7O=>(bif !(a7O)then(some false)else((nS x4_.pat).bind fun Jk=>(bif decide (Jk.length<=maxLen)then(nE aC vD i4 Jk (nD aC vD k4 xs4 (i4+1)) Jk 0)else none))))
def nR(aC:aK):Option Bool:=((qh aC.name).bind fun y1=>(bif !(y1)then(some false)else((kq aC.prio 0 9).bind fun y4=>(bif !(y4)then(some false)else((kq ((aC.conds.map aO.c).length:Int) 1 4).bind fun y7=>(bif !(y7)then(some false)else((kq ((aC.cK.map Action.c).length:Int) 1 2).bind fun Dh=>(bif !(Dh)then(some false)else((kZ aC ((aC.conds.map aO.c).length:Int)).bind fun vD=>(kf aC vD (nD aC vD ((sS aC).bind fun a7R=>(some (decide ((((a7R.map tx).length:Int):Int)<=6)))) aC.cK 0) aC.conds 0))))))))))
def K1(aC:aK)(vD:aG)(dL:Int):St:=⟨[(1,D.ptr 0 0),(3,D.acc 1),(4,D.int .i64 dL)],[Ob.box (aK.c aC),Ob.row .uq 9 1 (vD.map tx)]⟩
def K3(aC:aK)(vD:aG)(i1:Nat)(bU:aO)(Ji:aG)(Di:aG)(dL:Int):St:=⟨[(1,D.ptr 0 0),(3,D.acc 1),(4,D.int .i64 (i1:Int)),(5,D.ptr 2 0),(6,D.acc 3),(7,D.acc 4),(8,D.int .i64 dL)],[Ob.box (aK.c aC),Ob.row .uq 9 1 (vD.map tx),Ob.box [D.int .i64 bU.kind,D.str bU.pat.rel,D.sl (bU.pat.args.map tx),D.str bU.left,D.str bU.right],Ob.row .uq 9 1 (Ji.map tx),Ob.row .uq 9 1 (Di.map tx)]⟩
theorem IS(hΓ:Γ.nt=145){aC:aK}{vD:aG}{i1:Nat}{bU:aO}{Ji:aG}{Di:aG}{r:Bool}{k2:Option Bool}(AJ:k2=some r->Ax Γ N f128 (.q [[none]] (D.bool r)) [1,1,1,0,1,0,0,1,1] ⟨[(1,D.ptr 0 0),(3,D.acc 1),(4,D.int .i64 (i1:Int))],[Ob.box (aK.c aC),Ob.row .uq 9 1 (vD.map tx)]⟩)(hm2:Di.length<=maxLen):∀(rest:aG) (i2:Nat),Di.drop i2=rest->gA aC vD i1 bU Ji Di k2 rest i2=some r->Ar Γ N f128 (.q [[none]] (D.bool r)) [1,1,1,0,1,0,0,1,0,0,1,1,1,1,1,0] (rest.length+1) (K3 aC vD i1 bU Ji Di (i2:Int)):=by
 intro rest
 induction rest with
 |nil=>
  intro i2 hd2 h;rw[gA]at h;refine aQ fun N2 ue sB=>?_
  exact((aY.ge tx hd2).a [.hl 3 [1,3,4] [0,1]]).ex hΓ ue (AJ h)
 |cons lq tR ih2=>
  intro i2 hd2 h;rw[gA]at h;refine aQ fun N2 ue sB=>?_
  obtain⟨a4M,h711,h⟩:=aB h;obtain⟨a7K,h713,h⟩:=aB h;have a1Q:=((((((aY.lt tx hd2).i (nU tx 1 (dc hd2))).o 1 1 .uq (cR tx (dc hd2))).g (jr h711)).a [.n 21]).g (rq h713))
  obtain⟨h714,h⟩|⟨h714,h⟩:=aM h
  ·have a1R:=(a1Q.r 3 h714)
   obtain⟨h715,h⟩|⟨h715,h⟩:=aM h
   ·have h:=aN h;subst h;exact((((((a1R.r 4 h715).a [bF,bF]).r 2 h715).a [bF,bF,bF,bF,bF,bF,bF]).r 2 h715).T 1).ret hΓ
   ·have a1S:=(a1R.r 4 h715)
    obtain⟨h716,h⟩|⟨h716,h⟩:=aM h
    ·exact((((((a1S.r 2 h716).b h715).b h716).r 11 h715).F 1).a [.cn [1,3,4,5,6,7,8] [0,1,2,3,4]]).ct hΓ sB (iS hd2 hm2) (ih2 (i2+1) (dn hd2) h)
    ·exact((((((((((a1S.r 2 h716).b h715).b h716).b h715).F 7).b h715).F 1).b h715).F 1).a [.cn [1,3,4,5,6,7,8] [0,1,2,3,4]]).ct hΓ sB (iS hd2 hm2) (ih2 (i2+1) (dn hd2) h)
  ·have a1T:=((a1Q.r 3 h714).F 4)
   obtain⟨h717,h⟩|⟨h717,h⟩:=aM h
   ·have a1U:=((((a1T.r 2 h717).F 1).b h717).F 1)
    obtain⟨h718,h⟩|⟨h718,h⟩:=aM h
    ·obtain⟨a7L,h720,h⟩:=aB h;have a1V:=(((((((((a1U.r 5 h718).i (nU tx 1 (dc hd2))).b h718).o 1 1 .uq (cR tx (dc hd2))).b h718).g (ve h720)).F 1).b h718).F 1)
     obtain⟨h721,h⟩|⟨h721,h⟩:=aM h
     ·have h:=aN h;subst h;exact(a1V.b h721).ret hΓ
     ·exact((a1V.b h721).a [.cn [1,3,4,5,6,7,8] [0,1,2,3,4]]).ct hΓ sB (iS hd2 hm2) (ih2 (i2+1) (dn hd2) h)
    ·exact(((((a1U.r 7 h718).F 1).b h718).F 2).a [.cn [1,3,4,5,6,7,8] [0,1,2,3,4]]).ct hΓ sB (iS hd2 hm2) (ih2 (i2+1) (dn hd2) h)
   ·exact(((((a1T.r 2 h717).F 1).b h717).F 12).a [.cn [1,3,4,5,6,7,8] [0,1,2,3,4]]).ct hΓ sB (iS hd2 hm2) (ih2 (i2+1) (dn hd2) h)
def K4(aC:aK)(vD:aG)(i1:Nat)(bU:aO)(Jj:aG)(Dj:aG)(dL:Int):St:=⟨[(1,D.ptr 0 0),(3,D.acc 1),(4,D.int .i64 (i1:Int)),(5,D.ptr 2 0),(6,D.acc 3),(7,D.acc 4),(8,D.int .i64 dL)],[Ob.box (aK.c aC),Ob.row .uq 9 1 (vD.map tx),Ob.box [D.int .i64 bU.kind,D.str bU.pat.rel,D.sl (bU.pat.args.map tx),D.str bU.left,D.str bU.right],Ob.row .uq 9 1 (Jj.map tx),Ob.row .uq 9 1 (Dj.map tx)]⟩
theorem IT(hΓ:Γ.nt=145){aC:aK}{vD:aG}{i1:Nat}{bU:aO}{Jj:aG}{Dj:aG}{r:Bool}{k3:Option Bool}(Zm:k3=some r->Ax Γ N f128 (.q [[none]] (D.bool r)) [1,1,1,0,1,0,0,1,1] ⟨[(1,D.ptr 0 0),(3,D.acc 1),(4,D.int .i64 (i1:Int))],[Ob.box (aK.c aC),Ob.row .uq 9 1 (vD.map tx)]⟩)(Rm:Dj.length<=maxLen):∀(rest:aG) (i3:Nat),Dj.drop i3=rest->gB aC vD i1 bU Jj Dj k3 rest i3=some r->Ar Γ N f128 (.q [[none]] (D.bool r)) [1,1,1,0,1,0,0,1,0,0,1,1,1,1,1,0] (rest.length+1) (K4 aC vD i1 bU Jj Dj (i3:Int)):=by
 intro rest
 induction rest with
 |nil=>
  intro i3 z8 h;rw[gB]at h;refine aQ fun N3 TN OW=>?_
  exact((aY.ge tx z8).a [.hl 3 [1,3,4] [0,1]]).ex hΓ TN (Zm h)
 |cons RG Pc ih3=>
  intro i3 z8 h;rw[gB]at h;refine aQ fun N3 TN OW=>?_
  obtain⟨a4O,h786,h⟩:=aB h;obtain⟨a7M,h788,h⟩:=aB h;have a1W:=((((((aY.lt tx z8).i (nU tx 1 (dc z8))).o 1 1 .uq (cR tx (dc z8))).g (jr h786)).a [.n 21]).g (rq h788))
  obtain⟨h789,h⟩|⟨h789,h⟩:=aM h
  ·have a1X:=(a1W.r 3 h789)
   obtain⟨h790,h⟩|⟨h790,h⟩:=aM h
   ·have h:=aN h;subst h;exact((((((a1X.r 4 h790).a [bF,bF]).r 2 h790).a [bF,bF,bF,bF,bF,bF,bF]).r 2 h790).T 1).ret hΓ
   ·have a1Y:=(a1X.r 4 h790)
    obtain⟨h791,h⟩|⟨h791,h⟩:=aM h
    ·exact((((((a1Y.r 2 h791).b h790).b h791).r 11 h790).F 1).a [.cn [1,3,4,5,6,7,8] [0,1,2,3,4]]).ct hΓ OW (iS z8 Rm) (ih3 (i3+1) (dn z8) h)
    ·exact((((((((((a1Y.r 2 h791).b h790).b h791).b h790).F 7).b h790).F 1).b h790).F 1).a [.cn [1,3,4,5,6,7,8] [0,1,2,3,4]]).ct hΓ OW (iS z8 Rm) (ih3 (i3+1) (dn z8) h)
  ·have a1Z:=((a1W.r 3 h789).F 4)
   obtain⟨h792,h⟩|⟨h792,h⟩:=aM h
   ·have a1a:=((((a1Z.r 2 h792).F 1).b h792).F 1)
    obtain⟨h793,h⟩|⟨h793,h⟩:=aM h
    ·obtain⟨a7N,h795,h⟩:=aB h;have a1b:=(((((((((a1a.r 5 h793).i (nU tx 1 (dc z8))).b h793).o 1 1 .uq (cR tx (dc z8))).b h793).g (ve h795)).F 1).b h793).F 1)
     obtain⟨h796,h⟩|⟨h796,h⟩:=aM h
     ·have h:=aN h;subst h;exact(a1b.b h796).ret hΓ
     ·exact((a1b.b h796).a [.cn [1,3,4,5,6,7,8] [0,1,2,3,4]]).ct hΓ OW (iS z8 Rm) (ih3 (i3+1) (dn z8) h)
    ·exact(((((a1a.r 7 h793).F 1).b h793).F 2).a [.cn [1,3,4,5,6,7,8] [0,1,2,3,4]]).ct hΓ OW (iS z8 Rm) (ih3 (i3+1) (dn z8) h)
   ·exact(((((a1Z.r 2 h792).F 1).b h792).F 12).a [.cn [1,3,4,5,6,7,8] [0,1,2,3,4]]).ct hΓ OW (iS z8 Rm) (ih3 (i3+1) (dn z8) h)
theorem IR(hΓ:Γ.nt=145){aC:aK}{vD:aG}{r:Bool}{k1:Option Bool}(di:k1=some r->Ax Γ N f128 (.q [[none]] (D.bool r)) [1,1,1,1] ⟨[(1,D.ptr 0 0),(3,D.acc 1)],[Ob.box (aK.c aC),Ob.row .uq 9 1 (vD.map tx)]⟩)(hm1:aC.conds.length<=maxLen):∀(rest:ai) (i1:Nat),aC.conds.drop i1=rest->kf aC vD k1 rest i1=some r->Ar Γ N f128 (.q [[none]] (D.bool r)) [1,1,1,0,1,0] (rest.length+1) (K1 aC vD (i1:Int)):=by
 intro rest
 induction rest with
 |nil=>
  intro i1 az h;rw[kf]at h;refine aQ fun N1 cY cI=>?_
  exact((aY.ge aO.c az).a [.hl 0 [1,3] [0,1]]).ex hΓ cY (di h)
 |cons bU cQ ih1=>
  intro i1 az h;rw[kf]at h;refine aQ fun N1 cY cI=>?_
  obtain⟨a7J,h644,h⟩:=aB h;have a1c:=(((aY.lt aO.c az).l (bJ aO.c 5 (dc az) rfl)).g (ia h644))
  obtain⟨h645,h⟩|⟨h645,h⟩:=aM h
  ·have h:=aN h;subst h;exact((((a1c.r 3 h645).a [bF,bF,bF]).r 2 h645).T 1).ret hΓ
  ·have a1d:=(a1c.r 3 h645)
   obtain⟨h646,h⟩|⟨h646,h⟩:=aM h
   ·have a1e:=((((a1d.r 3 h646).b h645).b h646).b h645)
    obtain⟨h647,h⟩|⟨h647,h⟩:=aM h
    ·have h:=aN h;subst h;exact(a1e.b h647).ret hΓ
    ·obtain⟨Ji,h649,h⟩:=aB h;obtain⟨Di,h651,h⟩:=aB h;obtain⟨h722,h⟩:=bR h;refine((((a1e.b h647).g (jq h649)).g (qL h651)).a [.cn [1,3,4,5,6,7,8] [0,1,2,3,4]]).lp hΓ (IS hΓ (fun h=>?_) (bn h722) Di 0 rfl h);exact(aY.a [.cn [1,3,4] [0,1]]).ct hΓ cI (iS az hm1) (ih1 (i1+1) (dn az) h)
   ·obtain⟨Jj,h724,h⟩:=aB h;obtain⟨Dj,h726,h⟩:=aB h;obtain⟨h797,h⟩:=bR h;refine((((((((a1d.r 3 h646).b h645).b h646).b h645).F 1).g (jq h724)).g (qL h726)).a [.cn [1,3,4,5,6,7,8] [0,1,2,3,4]]).lp hΓ (IT hΓ (fun h=>?_) (bn h797) Dj 0 rfl h);exact(aY.a [.cn [1,3,4] [0,1]]).ct hΓ cI (iS az hm1) (ih1 (i1+1) (dn az) h)
def K5(aC:aK)(vD:aG)(dL:Int):St:=⟨[(1,D.ptr 0 0),(3,D.acc 1),(10,D.int .i64 dL)],[Ob.box (aK.c aC),Ob.row .uq 9 1 (vD.map tx)]⟩
def K6(aC:aK)(vD:aG)(i4:Nat)(Jk:aG)(dL:Int):St:=⟨[(1,D.ptr 0 0),(3,D.acc 1),(10,D.int .i64 (i4:Int)),(11,D.acc 2),(12,D.int .i64 dL)],[Ob.box (aK.c aC),Ob.row .uq 9 1 (vD.map tx),Ob.row .uq 9 1 (Jk.map tx)]⟩
theorem IV(hΓ:Γ.nt=145){aC:aK}{vD:aG}{i4:Nat}{Jk:aG}{r:Bool}{k5:Option Bool}(hE5:k5=some r->Ax Γ N f128 (.q [[none]] (D.bool r)) [1,1,1,1,0,1,0,0,1,1] ⟨[(1,D.ptr 0 0),(3,D.acc 1),(10,D.int .i64 (i4:Int))],[Ob.box (aK.c aC),Ob.row .uq 9 1 (vD.map tx)]⟩)(hm5:Jk.length<=maxLen):∀(rest:aG) (i5:Nat),Jk.drop i5=rest->nE aC vD i4 Jk k5 rest i5=some r->Ar Γ N f128 (.q [[none]] (D.bool r)) [1,1,1,1,0,1,0,0,1,0,0,1,1,1,0] (rest.length+1) (K6 aC vD i4 Jk (i5:Int)):=by
 intro rest
 induction rest with
 |nil=>
  intro i5 hd5 h;rw[nE]at h;refine aQ fun N5 hN5 hS5=>?_
  exact((aY.ge tx hd5).a [.hl 3 [1,3,10] [0,1]]).ex hΓ hN5 (hE5 h)
 |cons x5_ xs5 ih5=>
  intro i5 hd5 h;rw[nE]at h;refine aQ fun N5 hN5 hS5=>?_
  obtain⟨a7Q,h953,h⟩:=aB h;have a1f:=((((aY.lt tx hd5).i (nU tx 1 (dc hd5))).o 1 1 .uq (cR tx (dc hd5))).g (jr h953))
  obtain⟨h954,h⟩|⟨h954,h⟩:=aM h
  ·have h:=aN h;subst h;exact(a1f.b h954).ret hΓ
  ·exact((a1f.b h954).a [.cn [1,3,10,11,12] [0,1,2]]).ct hΓ hS5 (iS hd5 hm5) (ih5 (i5+1) (dn hd5) h)
theorem IU(hΓ:Γ.nt=145){aC:aK}{vD:aG}{r:Bool}{k4:Option Bool}(hE4:k4=some r->Ax Γ N f128 (.q [[none]] (D.bool r)) [1,1,1,1,1] ⟨[(1,D.ptr 0 0)],[Ob.box (aK.c aC)]⟩)(hm4:aC.cK.length<=maxLen):∀(rest:eF) (i4:Nat),aC.cK.drop i4=rest->nD aC vD k4 rest i4=some r->Ar Γ N f128 (.q [[none]] (D.bool r)) [1,1,1,1,0,1,0] (rest.length+1) (K5 aC vD (i4:Int)):=by
 intro rest
 induction rest with
 |nil=>
  intro i4 Rj h;rw[nD]at h;refine aQ fun N4 hN4 hS4=>?_
  exact((aY.ge Action.c Rj).a [.hl 0 [1] [0]]).ex hΓ hN4 (hE4 h)
 |cons x4_ xs4 ih4=>
  intro i4 Rj h;rw[nD]at h;refine aQ fun N4 hN4 hS4=>?_
  obtain⟨a7O,h927,h⟩:=aB h;have a1g:=(((aY.lt Action.c Rj).l (bJ Action.c 3 (dc Rj) rfl)).g (EO h927))
  obtain⟨h928,h⟩|⟨h928,h⟩:=aM h
  ·have h:=aN h;subst h;exact(a1g.b h928).ret hΓ
  ·obtain⟨Jk,h930,h⟩:=aB h;obtain⟨h955,h⟩:=bR h;refine((((a1g.b h928).l (bJ Action.c 3 (dc Rj) rfl)).g (pP h930)).a [.cn [1,3,10,11,12] [0,1,2]]).lp hΓ (IV hΓ (fun h=>?_) (bn h955) Jk 0 rfl h);exact(aY.a [.cn [1,3,10] [0,1]]).ct hΓ hS4 (iS Rj hm4) (ih4 (i4+1) (dn Rj) h)
theorem fT{aC:aK}{r:Bool}(h:nR aC=some r):Good prog 128 [D.agg (aK.c aC)] (D.bool r):=by
 refine gd func128 [[none]] 145 fun hr Γ hΓ=>?_
 rw[nR]at h;obtain⟨y1,h2,h⟩:=aB h;obtain⟨h3,h⟩|⟨h3,h⟩:=aM h
 ·have h:=aN h;subst h;exact(((aY.g (nC h2)).r 5 h3).T 13).ret hΓ
 ·obtain⟨y4,h5,h⟩:=aB h;have a1h:=((((aY.g (nC h2)).r 3 h3).g (gE h5)).r 2 h3)
  obtain⟨h6,h⟩|⟨h6,h⟩:=aM h
  ·have h:=aN h;subst h;exact((a1h.r 6 h6).T 7).ret hΓ
  ·obtain⟨y7,h8,h⟩:=aB h;have a1i:=(((a1h.r 4 h6).g (gE h8)).r 2 h6)
   obtain⟨h9,h⟩|⟨h9,h⟩:=aM h
   ·have h:=aN h;subst h;exact((a1i.r 6 h9).T 1).ret hΓ
   ·obtain⟨Dh,h11,h⟩:=aB h;have a1j:=(((a1i.r 4 h9).g (gE h11)).r 2 h9)
    obtain⟨h12,h⟩|⟨h12,h⟩:=aM h
    ·have h:=aN h;subst h;exact(a1j.b h12).ret hΓ
    ·obtain⟨vD,h14,h⟩:=aB h;refine(((a1j.b h12).g (jq h14)).a [.cn [1,3,4] [0,1]]).lp hΓ (IR hΓ (fun h=>?_) (by have:=(gq.sl (gq.agg (hr _ (aE (i:=0) rfl)) (.sl (aC.conds.map aO.c)) (by simp))).1;simpa using this) aC.conds 0 rfl h);refine(aY.a [.cn [1,3,10] [0,1]]).lp hΓ (IU hΓ (fun h=>?_) (by have:=(gq.sl (gq.agg (hr _ (aE (i:=0) rfl)) (.sl (aC.cK.map Action.c)) (by simp))).1;simpa using this) aC.cK 0 rfl h);obtain⟨a7R,h957,h⟩:=aB h;cases h;exact(aY.g (EX h957)).ret hΓ
def pq(aC:Bytes)(aa:Bytes)(k1:Int->aG->Option aG):Nat->Int->Int->aG->Option aG
 |0,_,_,_=>none
 |n1+1,dR,oh,bP=>(bif decide ((IntKind.i64.wrap (oh+(aa.length:Int)):Int)<=(aC.length:Int))then((AU aC.length (some (D.int .i64 oh)) (some (D.int .i64 (IntKind.i64.wrap (oh+(aa.length:Int)))))).bind fun p=>(fun l49 u50=>(bif ((aC.take u50).drop l49:Bytes)==aa then((AU aC.length (some (D.int .i64 dR)) (some (D.int .i64 oh))).bind fun p=>(fun l53 u54=>(bif room ((bP.map tx).length+([[D.str ((aC.take u54).drop l53)]]).length) 16 then(pq aC aa k1 n1 (IntKind.i64.wrap (oh+(aa.length:Int))) (IntKind.i64.wrap (oh+(aa.length:Int))) (bP++([(aC.take u54).drop l53])))else none)) p.1 p.2)else(pq aC aa k1 n1 dR (IntKind.i64.wrap (oh+1)) bP))) p.1 p.2)else(k1 dR bP))
def lU(aC:Bytes)(aa:Bytes):Option aG:=(bif (aa:Bytes)==([])then(bif room (([]:List aL).length+([[D.str aC]]).length) 16 then(some (([]:aG)++([aC])))else none)else(pq aC aa (fun(yX:Int) (cH:aG)=>((AU aC.length (some (D.int .i64 yX)) none).bind fun p=>(fun l57 u58=>(bif room ((cH.map tx).length+([[D.str ((aC.take u58).drop l57)]]).length) 16 then(some (cH++([(aC.take u58).drop l57])))else none)) p.1 p.2)) fuel 0 0 ([]:aG)))
def Cq(aC:Bytes)(aa:Bytes)(dR:Int)(oh:Int)(W2:List aL):St:=⟨[(0,D.str aC),(1,D.str aa),(5,D.acc 0),(6,D.int .i64 dR),(7,D.int .i64 oh)],[Ob.row .uq 9 1 W2]⟩
theorem K7(hΓ:Γ.nt=51){aC:Bytes}{aa:Bytes}{r:aG}{k1:Int->aG->Option aG}(di:∀(yX:Int) (cH:aG),k1 yX cH=some r->Ax Γ N f233 (.q [[some (9,1)]] (D.fr 9 1 (r.map tx))) [1,1,1,1,1] ⟨[(0,D.str aC),(5,D.acc 0),(6,D.int .i64 yX)],[Ob.row .uq 9 1 (cH.map tx)]⟩):∀(n1:Nat) (dR:Int) (oh:Int) (bP:aG),pq aC aa k1 n1 dR oh bP=some r->Ar Γ N f233 (.q [[some (9,1)]] (D.fr 9 1 (r.map tx))) [1,1,1,1,0,1,0] n1 (Cq aC aa dR oh (bP.map tx)):=by
 intro n
 induction n with
 |zero=>intro dR oh bP h;simp[pq]at h
 |succ n1 ih1=>
  intro dR oh bP h;rw[pq]at h;refine aQ fun N1 cY cI=>?_
  obtain⟨h48,h⟩|⟨h48,h⟩:=aM h
  ·obtain⟨⟨l49,u50⟩,h51,h⟩:=aB h;have fk:=(((aY.b h48).w h51).a [.cut l49 u50])
   obtain⟨h52,h⟩|⟨h52,h⟩:=aM h
   ·obtain⟨⟨l53,u54⟩,h55,h⟩:=aB h;obtain⟨h56,h⟩:=bR h;exact((((fk.b h52).w h55).w (bf h56)).a [.cut l53 u54,.cn [0,1,5,6,7] [2]]).cs hΓ cI (Cq aC aa (IntKind.i64.wrap (oh+(aa.length:Int))) (IntKind.i64.wrap (oh+(aa.length:Int))) ((bP.map tx)++([[D.str ((aC.take u54).drop l53)]]))) (by first| (simp only[mA]<;>rfl)| (simp only[mA,aD.c,aX.c,aO.c,Action.c,aK.c,aU.c,dW.c,aZ.c,Node.c,aH.c,dh.c]<;>rfl)) (ih1 (IntKind.i64.wrap (oh+(aa.length:Int))) (IntKind.i64.wrap (oh+(aa.length:Int))) (bP++([(aC.take u54).drop l53])) h)
   ·exact((fk.b h52).a [.cn [0,1,5,6,7] [0]]).cf hΓ cI (ih1 dR (IntKind.i64.wrap (oh+1)) bP h)
  ·exact((aY.b h48).a [.hl 0 [0,5,6] [0]]).ex hΓ cY (di dR bP h)
theorem gJ{aC:Bytes}{aa:Bytes}{r:aG}(h:lU aC aa=some r):Good prog 233 [D.str aC,D.str aa] (D.fr 9 1 (r.map tx)):=by
 refine gd func233 [[some (9,1)]] 51 fun hr Γ hΓ=>?_
 rw[lU]at h;obtain⟨h1,h⟩|⟨h1,h⟩:=aM h
 ·obtain⟨h2,h⟩:=bR h;cases h;exact(((aY.a [.Kq 4]).b h1).w (bf h2)).rts hΓ (D.fr 9 1 (([]:List aL)++([[D.str aC]]))) (by first|rfl| (simp only[mA]<;>rfl))
 ·refine(((aY.a [.Kq 4]).b h1).a [.cn [0,1,5,6,7] [1]]).lp hΓ (K7 hΓ (fun yX cH h=>?_) fuel 0 0 ([]:aG) h);obtain⟨⟨l57,u58⟩,h59,h⟩:=aB h;obtain⟨h60,h⟩:=bR h;cases h;exact(((aY.w h59).w (bf h60)).a [.cut l57 u58]).rts hΓ (D.fr 9 1 ((cH.map tx)++([[D.str ((aC.take u58).drop l57)]]))) (by first|rfl| (simp only[mA]<;>rfl)| (simp only[mA,bX]<;>rfl))
def iH(k1:Option Bytes):Nat->Int->Bytes->Option Bytes
 |0,_,_=>none
 |n1+1,FC,j6=>(bif decide (0<=(FC:Int))&&decide (0<(10:Int))then(bif decide (([UInt8.ofNat (IntKind.u8.wrap (IntKind.i64.wrap (48+((FC:Int)%10)))).toNat]:Bytes).length+(j6:Bytes).length<=maxLen)then(bif decide (0<=(FC:Int))&&decide (0<(10:Int))then(bif ((FC:Int)/10:Int)==0 then(some (([UInt8.ofNat (IntKind.u8.wrap (IntKind.i64.wrap (48+((FC:Int)%10)))).toNat])++j6))else(iH k1 n1 ((FC:Int)/10) (([UInt8.ofNat (IntKind.u8.wrap (IntKind.i64.wrap (48+((FC:Int)%10)))).toNat])++j6)))else none)else none)else none)
def gZ:Nat->Int->Option Bytes
 |0,_=>none
 |m_+1,aC=>(bif (aC:Int)==(-9223372036854775808)then(some ([45,57,50,50,51,51,55,50,48,51,54,56,53,52,55,55,53,56,48,56]))else(bif decide ((aC:Int)<0)then((gZ m_ (IntKind.i64.wrap (0-aC))).bind fun y3=>(bif decide (([45]:Bytes).length+(y3:Bytes).length<=maxLen)then(some (([45])++y3))else none))else(iH none fuel aC ([]))))
def DL(FC:Int)(j6:Bytes):St:=⟨[(0,D.int .i64 FC),(3,D.str j6)],[]⟩
theorem CN(hΓ:Γ.nt=25){r:Bytes}{k1:Option Bytes}(di:k1=some r->Ax Γ N f135 (.q [[none]] (D.str r)) [1,1,1,1,0,0] ⟨[],[]⟩):∀(n1:Nat) (FC:Int) (j6:Bytes),iH k1 n1 FC j6=some r->Ar Γ N f135 (.q [[none]] (D.str r)) [1,1,1,1,0] n1 (DL FC j6):=by
 intro n
 induction n with
 |zero=>intro FC j6 h;simp[iH]at h
 |succ n1 ih1=>
  intro FC j6 h;rw[iH]at h;refine aQ fun N1 cY cI=>?_
  obtain⟨h14,h⟩:=bR h;obtain⟨h15,h⟩:=bR h;obtain⟨h16,h⟩:=bR h;have fk:=(((aY.w (PF .i64 h14)).w (bn h15)).w (PF .i64 h16))
  obtain⟨h17,h⟩|⟨h17,h⟩:=aM h
  ·cases h;exact(fk.b h17).rts hΓ (D.str (([UInt8.ofNat (IntKind.u8.wrap (IntKind.i64.wrap (48+((FC:Int)%10)))).toNat])++j6)) (by first|rfl| (simp only[mA]<;>rfl))
  ·exact((fk.b h17).a [.cn [0,3] []]).cf hΓ cI (ih1 ((FC:Int)/10) (([UInt8.ofNat (IntKind.u8.wrap (IntKind.i64.wrap (48+((FC:Int)%10)))).toNat])++j6) h)
theorem BQ{m_:Nat}(ihR:∀ {aC:Int} {r:Bytes},gZ m_ aC=some r->Good prog 135 [D.int .i64 aC] (D.str r)){aC:Int}{r:Bytes}(h:gZ (m_+1) aC=some r):Good prog 135 [D.int .i64 aC] (D.str r):=by
 refine gd func135 [[none]] 25 fun hr Γ hΓ=>?_
 rw[gZ]at h;obtain⟨h1,h⟩|⟨h1,h⟩:=aM h
 ·cases h;exact(aY.b h1).ret hΓ
 ·obtain⟨h2,h⟩|⟨h2,h⟩:=aM h
  ·obtain⟨y3,h4,h⟩:=aB h;obtain⟨h5,h⟩:=bR h;cases h;exact((((aY.b h1).b h2).g (ihR h4)).w (bn h5)).rts hΓ (D.str (([45])++y3)) (by first|rfl| (simp only[mA]<;>rfl))
  ·refine(((aY.b h1).b h2).a [.cn [0,3] []]).lp hΓ (CN hΓ (fun h=>?_) fuel aC ([]) h);cases h
theorem vZ:∀(m_:Nat) {aC:Int} {r:Bytes},gZ m_ aC=some r->Good prog 135 [D.int .i64 aC] (D.str r)
 |0,_,_,h=>by cases h
 |m_+1,_,_,h=>BQ (fun h=>vZ m_ h) h
def jH(aC:Int):Option Bytes:=gZ fuel aC
theorem me{aC:Int}{r:Bytes}(h:jH aC=some r):Good prog 135 [D.int .i64 aC] (D.str r):=vZ fuel h
def ic(aC:Bytes)(k1:Int->Option (Int×Bool)):Nat->Int->Int->Option (Int×Bool)
 |0,_,_=>none
 |n1+1,nr,wZ=>(bif decide ((wZ:Int)<(aC.length:Int))then((iP aC wZ).bind fun b25=>(bif decide ((b25.toNat:Int)<48)then(some (0,false))else(bif decide ((b25.toNat:Int)>57)then(some (0,false))else(ic aC k1 n1 (IntKind.i64.wrap ((IntKind.i64.wrap (10*nr))+(IntKind.i64.wrap (IntKind.u8.wrap (b25.toNat-48))))) (IntKind.i64.wrap (wZ+1))))))else(k1 nr))
def mQ(aC:Bytes):Option (Int×Bool):=((kq (aC.length:Int) 1 4).bind fun y1=>(bif !(y1)then(some (0,false))else(ic aC (fun(VJ:Int)=>((jH VJ).bind fun FF=>(bif !((FF:Bytes)==aC)then(some (0,false))else(some (VJ,true))))) fuel 0 0)))
def HK(aC:Bytes)(nr:Int)(wZ:Int):St:=⟨[(0,D.str aC),(4,D.int .i64 nr),(5,D.int .i64 wZ)],[]⟩
theorem GB(hΓ:Γ.nt=39){aC:Bytes}{r:Int×Bool}{k1:Int->Option (Int×Bool)}(di:∀(VJ:Int),k1 VJ=some r->Ax Γ N f204 (.q [[none],[none]] (D.gL [D.int .i64 r.1,D.bool r.2])) [1,1,1,1] ⟨[(0,D.str aC),(4,D.int .i64 VJ)],[]⟩):∀(n1:Nat) (nr:Int) (wZ:Int),ic aC k1 n1 nr wZ=some r->Ar Γ N f204 (.q [[none],[none]] (D.gL [D.int .i64 r.1,D.bool r.2])) [1,1,1,0,1,0] n1 (HK aC nr wZ):=by
 intro n
 induction n with
 |zero=>intro nr wZ h;simp[ic]at h
 |succ n1 ih1=>
  intro nr wZ h;rw[ic]at h;refine aQ fun N1 cY cI=>?_
  obtain⟨h24,h⟩|⟨h24,h⟩:=aM h
  ·obtain⟨b25,h26,h⟩:=aB h;have je:=((aY.b h24).c h26)
   obtain⟨h27,h⟩|⟨h27,h⟩:=aM h
   ·cases h;exact((je.r 5 h27).T 1).ret hΓ
   ·have jj:=(((je.r 3 h27).c h26).r 2 h27)
    obtain⟨h28,h⟩|⟨h28,h⟩:=aM h
    ·cases h;exact(jj.b h28).ret hΓ
    ·exact(((jj.b h28).c h26).a [.cn [0,4,5] []]).cf hΓ cI (ih1 (IntKind.i64.wrap ((IntKind.i64.wrap (10*nr))+(IntKind.i64.wrap (IntKind.u8.wrap (b25.toNat-48))))) (IntKind.i64.wrap (wZ+1)) h)
  ·exact((aY.b h24).a [.hl 0 [0,4] []]).ex hΓ cY (di nr h)
theorem qM{aC:Bytes}{r:Int×Bool}(h:mQ aC=some r):Good prog 204 [D.str aC] (D.gL [D.int .i64 r.1,D.bool r.2]):=by
 refine gd func204 [[none],[none]] 39 fun hr Γ hΓ=>?_
 rw[mQ]at h;obtain⟨y1,h2,h⟩:=aB h;obtain⟨h3,h⟩|⟨h3,h⟩:=aM h
 ·cases h;exact((aY.g (gE h2)).b h3).ret hΓ
 ·refine(((aY.g (gE h2)).b h3).a [.cn [0,4,5] []]).lp hΓ (GB hΓ (fun VJ h=>?_) fuel 0 0 h);obtain⟨FF,h30,h⟩:=aB h;obtain⟨h31,h⟩|⟨h31,h⟩:=aM h
  ·cases h;exact((aY.g (me h30)).b h31).ret hΓ
  ·cases h;exact((aY.g (me h30)).b h31).ret hΓ
def Au(aC:Int):Option Bytes:=(bif (aC:Int)==3 then(some ([32,61,32]))else(bif (aC:Int)==4 then(some ([32,33,61,32]))else(some ([32,60,32]))))
theorem HT{aC:Int}{r:Bytes}(h:Au aC=some r):Good prog 260 [D.int .i64 aC] (D.str r):=by
 refine gd func260 [[none]] 8 fun hr Γ hΓ=>?_
 rw[Au]at h;obtain⟨h1,h⟩|⟨h1,h⟩:=aM h
 ·cases h;exact(aY.b h1).ret hΓ
 ·obtain⟨h2,h⟩|⟨h2,h⟩:=aM h
  ·cases h;exact((aY.b h1).b h2).ret hΓ
  ·cases h;exact((aY.b h1).b h2).ret hΓ
def zn(aC:Bytes):Option (Bytes×aG×Bool):=((lU aC ([40])).bind fun y1=>(bif (((y1.map tx).length:Int):Int) != 2 then(some ([],[],false))else((iP y1 1).bind fun x4=>(bif ((x4.length:Int):Int)==0 then(some ([],[],false))else((iP x4 (IntKind.i64.wrap ((x4.length:Int)-1))).bind fun b7=>(bif (b7.toNat:Int) != 41 then(some ([],[],false))else((AU x4.length none (some (D.int .i64 (IntKind.i64.wrap ((x4.length:Int)-1))))).bind fun p=>(fun l10 u11=>(bif ((x4.take u11).drop l10:Bytes)==([])then((iP y1 0).bind fun x14=>(some (x14,([]:aG),true)))else((iP y1 0).bind fun x16=>((lU ((x4.take u11).drop l10) ([44])).bind fun U2=>(some (x16,U2,true)))))) p.1 p.2)))))))
theorem yp{aC:Bytes}{r:Bytes×aG×Bool}(h:zn aC=some r):Good prog 275 [D.str aC] (D.gL [D.str r.1,D.fr 9 1 (r.2.1.map tx),D.bool r.2.2]):=by
 refine gd func275 [[none],[some (9,1)],[none]] 51 fun hr Γ hΓ=>?_
 rw[zn]at h;obtain⟨y1,h2,h⟩:=aB h;have nP:=((aY.g (gJ h2)).a [.n 19])
 obtain⟨h3,h⟩|⟨h3,h⟩:=aM h
 ·cases h;exact((nP.r 6 h3).T 12).ret hΓ
 ·obtain⟨x4,h5,h⟩:=aB h;have fk:=(((((nP.r 2 h3).i (gl tx 1 h5)).b h3).o 1 1 .uq (cR tx (eW h5))).r 3 h3)
  obtain⟨h6,h⟩|⟨h6,h⟩:=aM h
  ·cases h;exact((fk.r 11 h6).T 1).ret hΓ
  ·obtain⟨b7,h8,h⟩:=aB h;have je:=(((((((((((fk.r 2 h6).i (gl tx 1 h5)).b h6).o 1 1 .uq (cR tx (eW h5))).r 2 h6).i (gl tx 1 h5)).b h6).o 1 1 .uq (cR tx (eW h5))).r 3 h6).c h8).r 2 h6)
   obtain⟨h9,h⟩|⟨h9,h⟩:=aM h
   ·cases h;exact(je.b h9).ret hΓ
   ·obtain⟨⟨l10,u11⟩,h12,h⟩:=aB h;have jj:=((((((((je.b h9).a [.n 8]).i (gl tx 1 h5)).o 1 1 .uq (cR tx (eW h5))).i (gl tx 1 h5)).o 1 1 .uq (cR tx (eW h5))).w h12).a [.cut l10 u11])
    obtain⟨h13,h⟩|⟨h13,h⟩:=aM h
    ·obtain⟨x14,h15,h⟩:=aB h;cases h;exact(((jj.b h13).i (gl tx 1 h15)).o 1 1 .uq (cR tx (eW h15))).ret hΓ
    ·obtain⟨x16,h17,h⟩:=aB h;obtain⟨U2,h19,h⟩:=aB h;cases h;exact(((((jj.b h13).a [.n 5]).i (gl tx 1 h17)).o 1 1 .uq (cR tx (eW h17))).g (gJ h19)).ret hΓ
def jb(aC:Bytes):Option (aD×Bool):=((zn aC).bind fun y1=>(bif !(y1.2.2)then(some ((⟨[],[]⟩:aD),false))else((gy (⟨y1.1,y1.2.1⟩:aD)).bind fun y4=>(bif !(y4)then(some ((⟨[],[]⟩:aD),false))else(some ((⟨y1.1,y1.2.1⟩:aD),true))))))
theorem jt{aC:Bytes}{r:aD×Bool}(h:jb aC=some r):Good prog 261 [D.str aC] (D.gL [D.agg [D.str r.1.rel,D.fr 9 1 (r.1.args.map tx)],D.bool r.2]):=by
 refine gd func261 [[none,some (9,1)],[none]] 26 fun hr Γ hΓ=>?_
 rw[jb]at h;obtain⟨y1,h2,h⟩:=aB h;obtain⟨h3,h⟩|⟨h3,h⟩:=aM h
 ·cases h;exact(((aY.g (yp h2)).r 4 h3).T 1).ret hΓ
 ·obtain⟨y4,h5,h⟩:=aB h;have nP:=(((((aY.g (yp h2)).r 2 h3).a [.d (D.bool y4)]).w (show Good prog 157 [D.agg [D.str y1.1,D.sl (y1.2.1.map tx)]] (D.bool y4)from by first| (simpa only[bA,bB,bZ,bX,bg]using ez h5)|exact ez h5| (have t:=ez h5;simp only[bA,bX,bg,aD.c]at t;exact t))).r 2 h3)
  obtain⟨h6,h⟩|⟨h6,h⟩:=aM h
  ·cases h;exact(nP.b h6).ret hΓ
  ·cases h;exact(nP.b h6).ret hΓ
def mL(aC:Bytes)(k1:Option (aO×Bool)):Nat->Int->Option (aO×Bool)
 |0,_=>none
 |n1+1,nr=>(bif decide ((nr:Int)<=5)then((Au nr).bind fun AI=>((lU aC AI).bind fun yW=>(bif (((yW.map tx).length:Int):Int)==2 then((iP yW 0).bind fun x33=>((iP yW 1).bind fun x35=>((om (⟨nr,(⟨[],[]⟩:aD),x33,x35⟩:aO)).bind fun OA=>(bif OA then(some ((⟨nr,(⟨[],[]⟩:aD),x33,x35⟩:aO),true))else(mL aC k1 n1 (IntKind.i64.wrap (nr+1)))))))else(mL aC k1 n1 (IntKind.i64.wrap (nr+1))))))else(k1))
def xF(aC:Bytes):Option (aO×Bool):=(mL aC (bif decide (((aC.length:Int):Int)>4)then((AU aC.length none (some (D.int .i64 4))).bind fun p=>(fun l41 u42=>(bif ((aC.take u42).drop l41:Bytes)==([110,111,116,32])then((AU aC.length (some (D.int .i64 4)) none).bind fun p=>(fun l45 u46=>((jb ((aC.take u46).drop l45)).bind fun y48=>(bif !(y48.2)then(some ((⟨0,(⟨[],[]⟩:aD),[],[]⟩:aO),false))else(some ((⟨2,y48.1,[],[]⟩:aO),true))))) p.1 p.2)else((jb aC).bind fun y51=>(bif !(y51.2)then(some ((⟨0,(⟨[],[]⟩:aD),[],[]⟩:aO),false))else(some ((⟨1,y51.1,[],[]⟩:aO),true)))))) p.1 p.2)else((jb aC).bind fun Jh=>(bif !(Jh.2)then(some ((⟨0,(⟨[],[]⟩:aD),[],[]⟩:aO),false))else(some ((⟨1,Jh.1,[],[]⟩:aO),true))))) fuel 3)
def GA(aC:Bytes)(nr:Int):St:=⟨[(0,D.str aC),(2,D.ptr 0 0),(4,D.int .i64 nr)],[Ob.box [D.int .i64 0,D.str ([]),D.nil,D.str ([]),D.str ([])]]⟩
theorem EU(hΓ:Γ.nt=55){aC:Bytes}{r:aO×Bool}{k1:Option (aO×Bool)}(di:k1=some r->Ax Γ N f241 (.q [[none,none,some (9,1),none,none],[none]] (D.gL [D.agg [D.int .i64 r.1.kind,D.str r.1.pat.rel,D.fr 9 1 (r.1.pat.args.map tx),D.str r.1.left,D.str r.1.right],D.bool r.2])) [1,1] ⟨[(0,D.str aC),(2,D.ptr 0 0)],[Ob.box [D.int .i64 0,D.str ([]),D.nil,D.str ([]),D.str ([])]]⟩):∀(n1:Nat) (nr:Int),mL aC k1 n1 nr=some r->Ar Γ N f241 (.q [[none,none,some (9,1),none,none],[none]] (D.gL [D.agg [D.int .i64 r.1.kind,D.str r.1.pat.rel,D.fr 9 1 (r.1.pat.args.map tx),D.str r.1.left,D.str r.1.right],D.bool r.2])) [1,0,1,0] n1 (GA aC nr):=by
 intro n
 induction n with
 |zero=>intro nr h;simp[mL]at h
 |succ n1 ih1=>
  intro nr h;rw[mL]at h;refine aQ fun N1 cY cI=>?_
  obtain⟨h27,h⟩|⟨h27,h⟩:=aM h
  ·obtain⟨AI,h29,h⟩:=aB h;obtain⟨yW,h31,h⟩:=aB h;have je:=(((aY.b h27).g (HT h29)).g (gJ h31))
   obtain⟨h32,h⟩|⟨h32,h⟩:=aM h
   ·obtain⟨x33,h34,h⟩:=aB h;obtain⟨x35,h36,h⟩:=aB h;obtain⟨OA,h38,h⟩:=aB h;have jj:=((((((((je.b h32).a [.n 9]).i (gl tx 1 h34)).o 1 1 .uq (cR tx (eW h34))).i (gl tx 1 h36)).o 1 1 .uq (cR tx (eW h36))).a [.d (D.bool OA)]).w (show Good prog 189 [D.agg [D.int .i64 nr,D.str ([]),D.sl ([]),D.str x33,D.str x35]] (D.bool OA)from by first| (simpa only[bA,bB,bZ,bX,bg]using ia h38)|exact ia h38| (have t:=ia h38;simp only[bA,bX,bg,aO.c]at t;exact t)))
    obtain⟨h39,h⟩|⟨h39,h⟩:=aM h
    ·cases h;exact(jj.b h39).ret hΓ
    ·exact((jj.b h39).a [.cn [0,2,4] [0]]).cf hΓ cI (ih1 (IntKind.i64.wrap (nr+1)) h)
   ·exact((je.b h32).a [.cn [0,2,4] [0]]).cf hΓ cI (ih1 (IntKind.i64.wrap (nr+1)) h)
  ·exact((aY.b h27).a [.hl 0 [0,2] [0]]).ex hΓ cY (di h)
theorem DP{aC:Bytes}{r:aO×Bool}(h:xF aC=some r):Good prog 241 [D.str aC] (D.gL [D.agg [D.int .i64 r.1.kind,D.str r.1.pat.rel,D.fr 9 1 (r.1.pat.args.map tx),D.str r.1.left,D.str r.1.right],D.bool r.2]):=by
 refine gd func241 [[none,none,some (9,1),none,none],[none]] 55 fun hr Γ hΓ=>?_
 rw[xF]at h;refine(aY.a [.cn [0,2,4] [0]]).lp hΓ (EU hΓ (fun h=>?_) fuel 3 h);obtain⟨h40,h⟩|⟨h40,h⟩:=aM h
 ·obtain⟨⟨l41,u42⟩,h43,h⟩:=aB h;have sX:=((((aY.r 2 h40).w h43).a [.cut l41 u42]).r 2 h40)
  obtain⟨h44,h⟩|⟨h44,h⟩:=aM h
  ·obtain⟨⟨l45,u46⟩,h47,h⟩:=aB h;obtain⟨y48,h49,h⟩:=aB h;have vg:=((((sX.b h44).w h47).a [.cut l45 u46]).g (jt h49))
   obtain⟨h50,h⟩|⟨h50,h⟩:=aM h
   ·cases h;exact(vg.b h50).ret hΓ
   ·cases h;exact(vg.b h50).ret hΓ
  ·obtain⟨y51,h52,h⟩:=aB h;have zB:=((sX.b h44).g (jt h52))
   obtain⟨h53,h⟩|⟨h53,h⟩:=aM h
   ·cases h;exact(zB.b h53).ret hΓ
   ·cases h;exact(zB.b h53).ret hΓ
 ·obtain⟨Jh,h55,h⟩:=aB h;have Ez:=(((aY.r 4 h40).F 1).g (jt h55))
  obtain⟨h56,h⟩|⟨h56,h⟩:=aM h
  ·cases h;exact(Ez.b h56).ret hΓ
  ·cases h;exact(Ez.b h56).ret hΓ
def yO(aC:Bytes):Option (Action×Bool):=(bif (aC:Bytes)==([115,116,111,112])then(some ((⟨3,(⟨[],[]⟩:aD)⟩:Action),true))else((lU aC ([32])).bind fun y2=>(bif (((y2.map tx).length:Int):Int) != 2 then(some ((⟨0,(⟨[],[]⟩:aD)⟩:Action),false))else((iP y2 0).bind fun x5=>(bif !((x5:Bytes)==([97,100,100]))then(bif !((x5:Bytes)==([100,114,111,112]))then(some ((⟨0,(⟨[],[]⟩:aD)⟩:Action),false))else((iP y2 1).bind fun x9=>((jb x9).bind fun B9=>(bif (x5:Bytes)==([97,100,100])then(some ((⟨1,B9.1⟩:Action),B9.2))else(some ((⟨2,B9.1⟩:Action),B9.2))))))else((iP y2 1).bind fun x14=>((jb x14).bind fun O7=>(bif (x5:Bytes)==([97,100,100])then(some ((⟨1,O7.1⟩:Action),O7.2))else(some ((⟨2,O7.1⟩:Action),O7.2))))))))))
theorem Eb{aC:Bytes}{r:Action×Bool}(h:yO aC=some r):Good prog 242 [D.str aC] (D.gL [D.agg [D.int .i64 r.1.kind,D.str r.1.pat.rel,D.fr 9 1 (r.1.pat.args.map tx)],D.bool r.2]):=by
 refine gd func242 [[none,none,some (9,1)],[none]] 45 fun hr Γ hΓ=>?_
 rw[yO]at h;obtain⟨h1,h⟩|⟨h1,h⟩:=aM h
 ·cases h;exact(aY.b h1).ret hΓ
 ·obtain⟨y2,h3,h⟩:=aB h;have nP:=((aY.b h1).g (gJ h3))
  obtain⟨h4,h⟩|⟨h4,h⟩:=aM h
  ·cases h;exact((((nP.r 5 h4).a [bF,bF,bF,bF]).r 2 h4).T 1).ret hΓ
  ·obtain⟨x5,h6,h⟩:=aB h;have fk:=(((((nP.r 2 h4).i (gl tx 1 h6)).b h4).o 1 1 .uq (cR tx (eW h6))).r 2 h4)
   obtain⟨h7,h⟩|⟨h7,h⟩:=aM h
   ·have je:=((((((((fk.r 2 h7).i (gl tx 1 h6)).b h7).o 1 1 .uq (cR tx (eW h6))).b h7).b h4).b h7).b h4)
    obtain⟨h8,h⟩|⟨h8,h⟩:=aM h
    ·cases h;exact(je.b h8).ret hΓ
    ·obtain⟨x9,h10,h⟩:=aB h;obtain⟨B9,h12,h⟩:=aB h;have jj:=((((((je.b h8).i (gl tx 1 h10)).o 1 1 .uq (cR tx (eW h10))).g (jt h12)).i (gl tx 1 h6)).o 1 1 .uq (cR tx (eW h6)))
     obtain⟨h13,h⟩|⟨h13,h⟩:=aM h
     ·cases h;exact(jj.b h13).ret hΓ
     ·cases h;exact(jj.b h13).ret hΓ
   ·obtain⟨x14,h15,h⟩:=aB h;obtain⟨O7,h17,h⟩:=aB h;have sX:=((((((((((fk.r 4 h7).b h4).b h7).b h4).F 1).i (gl tx 1 h15)).o 1 1 .uq (cR tx (eW h15))).g (jt h17)).i (gl tx 1 h6)).o 1 1 .uq (cR tx (eW h6)))
    obtain⟨h18,h⟩|⟨h18,h⟩:=aM h
    ·cases h;exact(sX.b h18).ret hΓ
    ·cases h;exact(sX.b h18).ret hΓ
def qQ(aC:aK)(cS:Bytes)(y1:aG)(k1:ai->Option (aK×Bool)):aG->Nat->ai->Option (aK×Bool)
 | [],i1,cg=>(k1 cg)
 |bU::cQ,i1,cg=>((xF bU).bind fun vm=>(bif !(vm.2)then(some ((⟨aC.name,aC.prio,cg,[]⟩:aK),false))else(bif room ((cg.map aO.c).length+([[D.int .i64 vm.1.kind,D.str vm.1.pat.rel,D.sl (vm.1.pat.args.map tx),D.str vm.1.left,D.str vm.1.right]]).length) 80 then(qQ aC cS y1 k1 cQ (i1+1) (cg++([vm.1])))else none)))
def qR(aC:aK)(nQ:ai)(Ch:aG)(k2:eF->Option (aK×Bool)):aG->Nat->eF->Option (aK×Bool)
 | [],i2,jz=>(k2 jz)
 |lq::tR,i2,jz=>((yO lq).bind fun Dk=>(bif !(Dk.2)then(some ((⟨aC.name,aC.prio,nQ,jz⟩:aK),false))else(bif room ((jz.map Action.c).length+([[D.int .i64 Dk.1.kind,D.str Dk.1.pat.rel,D.sl (Dk.1.pat.args.map tx)]]).length) 48 then(qR aC nQ Ch k2 tR (i2+1) (jz++([Dk.1])))else none)))
def zw(aC:aK)(aa:Bytes)(cS:Bytes):Option (aK×Bool):=((lU aa ([32,38,32])).bind fun y1=>(bif decide (y1.length<=maxLen)then(qQ aC cS y1 (fun(nQ:ai)=>((lU cS ([32,38,32])).bind fun Ch=>(bif decide (Ch.length<=maxLen)then(qR aC nQ Ch (fun(vP:eF)=>((nR (⟨aC.name,aC.prio,nQ,vP⟩:aK)).bind fun y77=>(some ((⟨aC.name,aC.prio,nQ,vP⟩:aK),y77)))) Ch 0 ([]:eF))else none))) y1 0 ([]:ai))else none))
def Ac(aC:aK)(cS:Bytes)(y1:aG)(W0:List aL)(dL:Int):St:=⟨[(2,D.str cS),(3,D.ptr 0 0),(6,D.ptr 1 0),(8,D.acc 2),(9,D.int .i64 dL)],[Ob.box [D.str aC.name,D.int .i64 aC.prio,D.acc 3,D.nil],Ob.box [D.str ([]),D.int .i64 0,D.nil,D.nil],Ob.row .uq 9 1 (y1.map tx),Ob.row .uq 71 5 W0]⟩
theorem HW(hΓ:Γ.nt=69){aC:aK}{cS:Bytes}{y1:aG}{r:aK×Bool}{k1:ai->Option (aK×Bool)}(di:∀(nQ:ai),k1 nQ=some r->Ax Γ N f234 (.q [[none,none,some (71,5),some (154,3)],[none]] (D.gL [D.agg [D.str r.1.name,D.int .i64 r.1.prio,D.fr 71 5 (r.1.conds.map aO.c),D.fr 154 3 (r.1.cK.map Action.c)],D.bool r.2])) [1,1,1] ⟨[(2,D.str cS),(3,D.ptr 0 0),(6,D.ptr 1 0)],[Ob.box [D.str aC.name,D.int .i64 aC.prio,D.acc 2,D.nil],Ob.box [D.str ([]),D.int .i64 0,D.nil,D.nil],Ob.row .uq 71 5 (nQ.map aO.c)]⟩)(hm1:y1.length<=maxLen):∀(rest:aG) (i1:Nat) (cg:ai),y1.drop i1=rest->qQ aC cS y1 k1 rest i1 cg=some r->Ar Γ N f234 (.q [[none,none,some (71,5),some (154,3)],[none]] (D.gL [D.agg [D.str r.1.name,D.int .i64 r.1.prio,D.fr 71 5 (r.1.conds.map aO.c),D.fr 154 3 (r.1.cK.map Action.c)],D.bool r.2])) [1,1,0,1,0] (rest.length+1) (Ac aC cS y1 (cg.map aO.c) (i1:Int)):=by
 intro rest
 induction rest with
 |nil=>
  intro i1 cg az h;rw[qQ]at h;refine aQ fun N1 cY cI=>?_
  exact((aY.ge tx az).a [.hl 0 [2,3,6] [0,1,3]]).ex hΓ cY (di cg h)
 |cons bU cQ ih1=>
  intro i1 cg az h;rw[qQ]at h;refine aQ fun N1 cY cI=>?_
  obtain⟨vm,h36,h⟩:=aB h;have je:=((((aY.lt tx az).i (nU tx 1 (dc az))).o 1 1 .uq (cR tx (dc az))).g (DP h36))
  obtain⟨h37,h⟩|⟨h37,h⟩:=aM h
  ·cases h;exact(je.b h37).ret hΓ
  ·obtain⟨h38,h⟩:=bR h;exact(((je.b h37).w (bf h38)).a [.cn [2,3,6,8,9] [0,1,2,7]]).cs hΓ cI (Ac aC cS y1 ((cg.map aO.c)++([[D.int .i64 vm.1.kind,D.str vm.1.pat.rel,D.sl (vm.1.pat.args.map tx),D.str vm.1.left,D.str vm.1.right]])) (IntKind.i64.wrap ((i1:Int)+1))) (by first| (simp only[iS az hm1,mA]<;>rfl)| (simp only[iS az hm1,mA,aD.c,aX.c,aO.c,Action.c,aK.c,aU.c,dW.c,aZ.c,Node.c,aH.c,dh.c]<;>rfl)) (ih1 (i1+1) (cg++([vm.1])) (dn az) h)
def Ad(aC:aK)(nQ:ai)(Ch:aG)(W0:List aL)(dL:Int):St:=⟨[(3,D.ptr 0 0),(6,D.ptr 1 0),(12,D.acc 2),(13,D.int .i64 dL)],[Ob.box [D.str aC.name,D.int .i64 aC.prio,D.acc 3,D.acc 4],Ob.box [D.str ([]),D.int .i64 0,D.nil,D.nil],Ob.row .uq 9 1 (Ch.map tx),Ob.row .uq 71 5 (nQ.map aO.c),Ob.row .uq 154 3 W0]⟩
theorem HX(hΓ:Γ.nt=69){aC:aK}{nQ:ai}{Ch:aG}{r:aK×Bool}{k2:eF->Option (aK×Bool)}(AJ:∀(vP:eF),k2 vP=some r->Ax Γ N f234 (.q [[none,none,some (71,5),some (154,3)],[none]] (D.gL [D.agg [D.str r.1.name,D.int .i64 r.1.prio,D.fr 71 5 (r.1.conds.map aO.c),D.fr 154 3 (r.1.cK.map Action.c)],D.bool r.2])) [1,1,1,1,1] ⟨[(3,D.ptr 0 0),(6,D.ptr 1 0)],[Ob.box [D.str aC.name,D.int .i64 aC.prio,D.acc 2,D.acc 3],Ob.box [D.str ([]),D.int .i64 0,D.nil,D.nil],Ob.row .uq 71 5 (nQ.map aO.c),Ob.row .uq 154 3 (vP.map Action.c)]⟩)(hm2:Ch.length<=maxLen):∀(rest:aG) (i2:Nat) (jz:eF),Ch.drop i2=rest->qR aC nQ Ch k2 rest i2 jz=some r->Ar Γ N f234 (.q [[none,none,some (71,5),some (154,3)],[none]] (D.gL [D.agg [D.str r.1.name,D.int .i64 r.1.prio,D.fr 71 5 (r.1.conds.map aO.c),D.fr 154 3 (r.1.cK.map Action.c)],D.bool r.2])) [1,1,1,1,0,1,0] (rest.length+1) (Ad aC nQ Ch (jz.map Action.c) (i2:Int)):=by
 intro rest
 induction rest with
 |nil=>
  intro i2 jz hd2 h;rw[qR]at h;refine aQ fun N2 ue sB=>?_
  exact((aY.ge tx hd2).a [.hl 0 [3,6] [0,1,3,4]]).ex hΓ ue (AJ jz h)
 |cons lq tR ih2=>
  intro i2 jz hd2 h;rw[qR]at h;refine aQ fun N2 ue sB=>?_
  obtain⟨Dk,h74,h⟩:=aB h;have jj:=((((aY.lt tx hd2).i (nU tx 1 (dc hd2))).o 1 1 .uq (cR tx (dc hd2))).g (Eb h74))
  obtain⟨h75,h⟩|⟨h75,h⟩:=aM h
  ·cases h;exact(jj.b h75).ret hΓ
  ·obtain⟨h76,h⟩:=bR h;exact(((jj.b h75).w (bf h76)).a [.cn [3,6,12,13] [0,1,2,3,8]]).cs hΓ sB (Ad aC nQ Ch ((jz.map Action.c)++([[D.int .i64 Dk.1.kind,D.str Dk.1.pat.rel,D.sl (Dk.1.pat.args.map tx)]])) (IntKind.i64.wrap ((i2:Int)+1))) (by first| (simp only[iS hd2 hm2,mA]<;>rfl)| (simp only[iS hd2 hm2,mA,aD.c,aX.c,aO.c,Action.c,aK.c,aU.c,dW.c,aZ.c,Node.c,aH.c,dh.c]<;>rfl)) (ih2 (i2+1) (jz++([Dk.1])) (dn hd2) h)
theorem ud{aC:aK}{aa:Bytes}{cS:Bytes}{r:aK×Bool}(h:zw aC aa cS=some r):Good prog 234 [D.agg [D.str aC.name,D.int .i64 aC.prio,D.nil,D.nil],D.str aa,D.str cS] (D.gL [D.agg [D.str r.1.name,D.int .i64 r.1.prio,D.fr 71 5 (r.1.conds.map aO.c),D.fr 154 3 (r.1.cK.map Action.c)],D.bool r.2]):=by
 refine gd func234 [[none,none,some (71,5),some (154,3)],[none]] 69 fun hr Γ hΓ=>?_
 rw[zw]at h;obtain⟨y1,h2,h⟩:=aB h;obtain⟨h80,h⟩:=bR h;refine((aY.g (gJ h2)).a [.pb 0 2 71 5,.cn [2,3,6,8,9] [0,1,2,3]]).lp hΓ (HW hΓ (fun nQ h=>?_) (bn h80) y1 0 ([]:ai) rfl h);obtain⟨Ch,h40,h⟩:=aB h;obtain⟨h79,h⟩:=bR h;refine((aY.g (gJ h40)).a [.pb 0 3 154 3,.cn [3,6,12,13] [0,1,3,2,4]]).lp hΓ (HX hΓ (fun vP h=>?_) (bn h79) Ch 0 ([]:eF) rfl h);obtain⟨y77,h78,h⟩:=aB h;cases h;exact((aY.a [.n 3,.d (D.bool y77)]).w (show Good prog 128 [D.agg [D.str aC.name,D.int .i64 aC.prio,D.sl (nQ.map aO.c),D.sl (vP.map Action.c)]] (D.bool y77)from by first| (simpa only[bA,bB,bZ,bX,bg]using fT h78)|exact fT h78| (have t:=fT h78;simp only[bA,bX,bg,aK.c]at t;exact t))).ret hΓ
def pF(aC:Bytes):Option (aK×Bool):=((lU aC ([58,32])).bind fun y1=>(bif (((y1.map tx).length:Int):Int) != 2 then(some ((⟨[],0,[],[]⟩:aK),false))else((iP y1 0).bind fun x4=>((lU x4 ([32])).bind fun y6=>((iP y1 1).bind fun x8=>((lU x8 ([32,45,62,32])).bind fun Dh=>(bif (((y6.map tx).length:Int):Int) != 2 then(some ((⟨[],0,[],[]⟩:aK),false))else(bif (((Dh.map tx).length:Int):Int) != 2 then(some ((⟨[],0,[],[]⟩:aK),false))else((iP y6 1).bind fun x14=>((mQ x14).bind fun O7=>(bif !(O7.2)then(some ((⟨[],0,[],[]⟩:aK),false))else((iP y6 0).bind fun x19=>((iP Dh 0).bind fun x21=>((iP Dh 1).bind fun x23=>((zw (⟨x19,O7.1,[],[]⟩:aK) x21 x23).bind fun vE=>(bif !(vE.2)then(some ((⟨[],0,[],[]⟩:aK),false))else(some (vE.1,true))))))))))))))))))
theorem DQ{aC:Bytes}{r:aK×Bool}(h:pF aC=some r):Good prog 222 [D.str aC] (D.gL [D.agg [D.str r.1.name,D.int .i64 r.1.prio,D.fr 71 5 (r.1.conds.map aO.c),D.fr 154 3 (r.1.cK.map Action.c)],D.bool r.2]):=by
 refine gd func222 [[none,none,some (71,5),some (154,3)],[none]] 63 fun hr Γ hΓ=>?_
 rw[pF]at h;obtain⟨y1,h2,h⟩:=aB h;obtain⟨h3,h⟩|⟨h3,h⟩:=aM h
 ·cases h;exact((aY.g (gJ h2)).b h3).ret hΓ
 ·obtain⟨x4,h5,h⟩:=aB h;obtain⟨y6,h7,h⟩:=aB h;obtain⟨x8,h9,h⟩:=aB h;obtain⟨Dh,h11,h⟩:=aB h;have nP:=((((((((aY.g (gJ h2)).b h3).i (gl tx 1 h5)).o 1 1 .uq (cR tx (eW h5))).g (gJ h7)).i (gl tx 1 h9)).o 1 1 .uq (cR tx (eW h9))).g (gJ h11))
  obtain⟨h12,h⟩|⟨h12,h⟩:=aM h
  ·cases h;exact((nP.r 4 h12).T 1).ret hΓ
  ·have fk:=(nP.r 4 h12)
   obtain⟨h13,h⟩|⟨h13,h⟩:=aM h
   ·cases h;exact(fk.b h13).ret hΓ
   ·obtain⟨x14,h15,h⟩:=aB h;obtain⟨O7,h17,h⟩:=aB h;have je:=((((fk.b h13).i (gl tx 1 h15)).o 1 1 .uq (cR tx (eW h15))).g (qM h17))
    obtain⟨h18,h⟩|⟨h18,h⟩:=aM h
    ·cases h;exact(je.b h18).ret hΓ
    ·obtain⟨x19,h20,h⟩:=aB h;obtain⟨x21,h22,h⟩:=aB h;obtain⟨x23,h24,h⟩:=aB h;obtain⟨vE,h26,h⟩:=aB h;have jj:=((((((((((je.b h18).a [.n 17]).i (gl tx 1 h20)).o 1 1 .uq (cR tx (eW h20))).i (gl tx 1 h22)).o 1 1 .uq (cR tx (eW h22))).i (gl tx 1 h24)).o 1 1 .uq (cR tx (eW h24))).a [.nl (D.gL [D.agg [D.str vE.1.name,D.int .i64 vE.1.prio,D.fr 71 5 (vE.1.conds.map aO.c),D.fr 154 3 (vE.1.cK.map Action.c)],D.bool vE.2])]).w (show Good prog 234 [D.agg [D.str x19,D.int .i64 O7.1,D.nil,D.nil],D.str x21,D.str x23] (D.gL [D.agg [D.str vE.1.name,D.int .i64 vE.1.prio,D.fr 71 5 (vE.1.conds.map aO.c),D.fr 154 3 (vE.1.cK.map Action.c)],D.bool vE.2])from by first| (simpa only[bA,bB,bZ,bX,bg]using ud h26)|exact ud h26| (have t:=ud h26;simp only[bA,bX,bg,aK.c]at t;exact t)))
     obtain⟨h27,h⟩|⟨h27,h⟩:=aM h
     ·cases h;exact(jj.b h27).ret hΓ
     ·cases h;exact(jj.b h27).ret hΓ
def nZ(aC:cJ)(aa:Int):Option (cJ×aK):=((cM aC (On aa ((([[114,32,49,58,32,111,110,40,63,120,44,63,121,41,32,38,32,111,110,40,63,121,44,63,122,41,32,45,62,32,97,100,100,32,111,110,40,63,120,44,63,122,41],[114,32,50,58,32,111,110,40,63,120,44,63,121,41,32,38,32,112,40,63,121,41,32,45,62,32,97,100,100,32,112,40,63,120,41],[114,32,48,58,32,112,40,63,120,41,32,38,32,111,110,40,63,120,44,63,121,41,32,38,32,63,120,32,33,61,32,63,121,32,45,62,32,97,100,100,32,97,116,40,63,121,44,63,120,41],[114,32,51,58,32,97,116,40,63,120,44,63,121,41,32,38,32,112,40,63,120,41,32,38,32,112,40,63,121,41,32,38,32,63,120,32,60,32,63,121,32,45,62,32,97,100,100,32,122,40,41],[114,32,52,58,32,111,110,40,63,120,44,97,41,32,45,62,32,97,100,100,32,113,40,63,120,41,32,38,32,97,100,100,32,112,40,97,41],[114,32,49,58,32,97,116,40,63,120,44,63,120,41,32,38,32,113,40,49,41,32,45,62,32,97,100,100,32,111,110,40,63,120,44,49,41],[114,32,49,58,32,112,40,63,120,41,32,38,32,110,111,116,32,113,40,63,120,41,32,45,62,32,97,100,100,32,97,116,40,63,120,44,98,41],[114,32,50,58,32,111,110,40,63,120,44,63,121,41,32,38,32,110,111,116,32,97,116,40,63,121,44,63,122,41,32,45,62,32,97,100,100,32,113,40,63,121,41],[114,32,53,58,32,97,116,40,63,120,44,63,121,41,32,38,32,110,111,116,32,112,40,63,121,41,32,38,32,63,120,32,33,61,32,63,121,32,45,62,32,97,100,100,32,122,40,41],[114,32,57,58,32,113,40,63,120,41,32,38,32,112,40,63,120,41,32,45,62,32,100,114,111,112,32,112,40,63,120,41],[114,32,48,58,32,97,116,40,63,120,44,49,41,32,38,32,97,116,40,63,121,44,50,41,32,38,32,63,120,32,61,32,63,121,32,45,62,32,100,114,111,112,32,97,116,40,63,120,44,49,41,32,38,32,115,116,111,112],[114,32,49,58,32,111,110,40,63,120,44,63,120,41,32,45,62,32,115,116,111,112],[114,32,55,58,32,122,40,41,32,38,32,111,110,40,63,120,44,63,121,41,32,45,62,32,100,114,111,112,32,122,40,41,32,38,32,97,100,100,32,111,110,40,63,121,44,63,120,41]]:aG).map tx).length:Int))).bind fun y1=>((iP ([[114,32,49,58,32,111,110,40,63,120,44,63,121,41,32,38,32,111,110,40,63,121,44,63,122,41,32,45,62,32,97,100,100,32,111,110,40,63,120,44,63,122,41],[114,32,50,58,32,111,110,40,63,120,44,63,121,41,32,38,32,112,40,63,121,41,32,45,62,32,97,100,100,32,112,40,63,120,41],[114,32,48,58,32,112,40,63,120,41,32,38,32,111,110,40,63,120,44,63,121,41,32,38,32,63,120,32,33,61,32,63,121,32,45,62,32,97,100,100,32,97,116,40,63,121,44,63,120,41],[114,32,51,58,32,97,116,40,63,120,44,63,121,41,32,38,32,112,40,63,120,41,32,38,32,112,40,63,121,41,32,38,32,63,120,32,60,32,63,121,32,45,62,32,97,100,100,32,122,40,41],[114,32,52,58,32,111,110,40,63,120,44,97,41,32,45,62,32,97,100,100,32,113,40,63,120,41,32,38,32,97,100,100,32,112,40,97,41],[114,32,49,58,32,97,116,40,63,120,44,63,120,41,32,38,32,113,40,49,41,32,45,62,32,97,100,100,32,111,110,40,63,120,44,49,41],[114,32,49,58,32,112,40,63,120,41,32,38,32,110,111,116,32,113,40,63,120,41,32,45,62,32,97,100,100,32,97,116,40,63,120,44,98,41],[114,32,50,58,32,111,110,40,63,120,44,63,121,41,32,38,32,110,111,116,32,97,116,40,63,121,44,63,122,41,32,45,62,32,97,100,100,32,113,40,63,121,41],[114,32,53,58,32,97,116,40,63,120,44,63,121,41,32,38,32,110,111,116,32,112,40,63,121,41,32,38,32,63,120,32,33,61,32,63,121,32,45,62,32,97,100,100,32,122,40,41],[114,32,57,58,32,113,40,63,120,41,32,38,32,112,40,63,120,41,32,45,62,32,100,114,111,112,32,112,40,63,120,41],[114,32,48,58,32,97,116,40,63,120,44,49,41,32,38,32,97,116,40,63,121,44,50,41,32,38,32,63,120,32,61,32,63,121,32,45,62,32,100,114,111,112,32,97,116,40,63,120,44,49,41,32,38,32,115,116,111,112],[114,32,49,58,32,111,110,40,63,120,44,63,120,41,32,45,62,32,115,116,111,112],[114,32,55,58,32,122,40,41,32,38,32,111,110,40,63,120,44,63,121,41,32,45,62,32,100,114,111,112,32,122,40,41,32,38,32,97,100,100,32,111,110,40,63,121,44,63,120,41]]:aG) y1.2).bind fun x3=>((pF x3).bind fun y5=>(some (y1.1,y5.1)))))
theorem uc{aC:cJ}{aa:Int}{r:cJ×aK}(h:nZ aC aa=some r):hY prog 199 (cJ.c aC) (cJ.c r.1) [D.int .i64 aa] (D.agg [D.str r.2.name,D.int .i64 r.2.prio,D.fr 71 5 (r.2.conds.map aO.c),D.fr 154 3 (r.2.cK.map Action.c)]):=by
 refine Iz func199 [[none,none,none],[none,none,some (71,5),some (154,3)]] 23 [D.sl (aC.b.map yx),D.int .i64 aC.i,D.int .i64 aC.h] [D.int .i64 aa] [] fun hr iC Γ hΓ=>?_
 rw[nZ]at h;obtain⟨y1,h2,h⟩:=aB h;obtain⟨x3,h4,h⟩:=aB h;obtain⟨y5,h6,h⟩:=aB h;cases h;exact((((aY.hp [[none,none,none],[none]] (cC h2)).i (gl tx 1 h4)).o 1 1 .uq (cR tx (eW h4))).g (DQ h6)).ret hΓ
def iv(y1:cJ×Int)(k1:bC->Int->Int->ai->Option (cJ×aK)):Nat->Int->bC->Int->Int->ai->Option (cJ×aK)
 |0,_,_,_,_,_=>none
 |n1+1,nr,eN,dH,dJ,cg=>(bif decide ((nr:Int)>0)then((ql (⟨eN,dH,dJ⟩:cJ)).bind fun AI=>(bif room ((cg.map aO.c).length+([[D.int .i64 AI.2.kind,D.str AI.2.pat.rel,D.sl (AI.2.pat.args.map tx),D.str AI.2.left,D.str AI.2.right]]).length) 80 then(iv y1 k1 n1 (IntKind.i64.wrap (nr-1)) AI.1.b AI.1.i AI.1.h (cg++([AI.2])))else none))else(k1 eN dH dJ cg))
def dF(y1:cJ×Int)(eM:ai)(FU:aG)(tQ:cJ×aD)(k2:bC->Int->Int->aG->Option (cJ×aK)):Nat->Int->bC->Int->Int->aG->Option (cJ×aK)
 |0,_,_,_,_,_=>none
 |n2+1,Bq,xM,vR,vS,lC=>(bif decide ((Bq:Int)<((lC.map tx).length:Int))then((iP lC Bq).bind fun x91=>((ga x91).bind fun y93=>(bif y93 then((gD FU x91).bind fun VV=>(bif !(VV)then((gz (⟨xM,vR,vS⟩:cJ)).bind fun FE=>(dF y1 eM FU tQ k2 n2 (IntKind.i64.wrap (Bq+1)) FE.1.b FE.1.i FE.1.h (lC.set Bq.toNat FE.2)))else(dF y1 eM FU tQ k2 n2 (IntKind.i64.wrap (Bq+1)) xM vR vS lC)))else(dF y1 eM FU tQ k2 n2 (IntKind.i64.wrap (Bq+1)) xM vR vS lC))))else(k2 xM vR vS lC))
def sW(aC:cJ):Option (cJ×aK):=((cM aC 4).bind fun y1=>((j5 y1.1).bind fun y3=>((cM y3.1 3).bind fun y5=>(iv y1 (fun(l8:bC) (l9:Int) (lB:Int) (eM:ai)=>((kZ (⟨[114],y1.2,eM,[]⟩:aK) ((eM.map aO.c).length:Int)).bind fun FU=>((j5 (⟨l8,l9,lB⟩:cJ)).bind fun tQ=>(dF y1 eM FU tQ (fun(KP:bC) (KR:Int) (KS:Int) (pJ:aG)=>((gh (⟨KP,KR,KS⟩:cJ) ([1,1,2]:bC)).bind fun zG=>(bif room (([]:List aL).length+([[D.int .i64 zG.2,D.str tQ.2.rel,D.sl (pJ.map tx)]]).length) 48 then((qj zG.1 6).bind fun Hv=>(bif Hv.2 then(bif room ((([]:List aL)++([[D.int .i64 zG.2,D.str tQ.2.rel,D.sl (pJ.map tx)]])).length+([[D.int .i64 3,D.str ([]),D.sl ([])]]).length) 48 then((nR (⟨[114],y1.2,eM,(([]:eF)++([(⟨zG.2,(⟨tQ.2.rel,pJ⟩:aD)⟩:Action)]))++([(⟨3,(⟨[],[]⟩:aD)⟩:Action)])⟩:aK)).bind fun Si=>(bif !(Si)then((nZ Hv.1 99).bind fun VD=>(some (VD.1,VD.2)))else(some (Hv.1,(⟨[114],y1.2,eM,(([]:eF)++([(⟨zG.2,(⟨tQ.2.rel,pJ⟩:aD)⟩:Action)]))++([(⟨3,(⟨[],[]⟩:aD)⟩:Action)])⟩:aK)))))else none)else((nR (⟨[114],y1.2,eM,([]:eF)++([(⟨zG.2,(⟨tQ.2.rel,pJ⟩:aD)⟩:Action)])⟩:aK)).bind fun a0x=>(bif !(a0x)then((nZ Hv.1 99).bind fun a4H=>(some (a4H.1,a4H.2)))else(some (Hv.1,(⟨[114],y1.2,eM,([]:eF)++([(⟨zG.2,(⟨tQ.2.rel,pJ⟩:aD)⟩:Action)])⟩:aK)))))))else none))) fuel 0 tQ.1.b tQ.1.i tQ.1.h tQ.2.args)))) fuel y5.2 y5.1.b y5.1.i y5.1.h ([(⟨1,y3.2,[],[]⟩:aO)])))))
def vM(iC:Value)(y1:cJ×Int)(nr:Int)(dH:Int)(dJ:Int)(W1:List aL)(W4:List aL):St:=⟨[(0,D.ptr 0 0),(2,D.ptr 1 0),(3,D.ptr 2 0),(4,D.int .i64 nr)],[Ob.AA [D.sl W1,D.int .i64 dH,D.int .i64 dJ] iC,Ob.box [D.str ([]),D.int .i64 0,D.nil,D.nil],Ob.box [D.str ([114]),D.int .i64 y1.2,D.acc 3,D.nil],Ob.row .uq 71 5 W4]⟩
theorem GM(hΓ:Γ.nt=88){iC:Value}{y1:cJ×Int}{r:cJ×aK}{k1:bC->Int->Int->ai->Option (cJ×aK)}(di:∀(l8:bC) (l9:Int) (lB:Int) (eM:ai),k1 l8 l9 lB eM=some r->Ax Γ N f198 (.p [[none,none,none],[none,none,some (71,5),some (154,3)]] iC (cJ.c r.1) (D.agg [D.str r.2.name,D.int .i64 r.2.prio,D.fr 71 5 (r.2.conds.map aO.c),D.fr 154 3 (r.2.cK.map Action.c)])) [1,1,1] ⟨[(0,D.ptr 0 0),(2,D.ptr 1 0),(3,D.ptr 2 0)],[Ob.AA [D.sl (l8.map yx),D.int .i64 l9,D.int .i64 lB] iC,Ob.box [D.str ([]),D.int .i64 0,D.nil,D.nil],Ob.box [D.str ([114]),D.int .i64 y1.2,D.acc 3,D.nil],Ob.row .uq 71 5 (eM.map aO.c)]⟩):∀(n1:Nat) (nr:Int) (eN:bC) (dH:Int) (dJ:Int) (cg:ai),iv y1 k1 n1 nr eN dH dJ cg=some r->Ar Γ N f198 (.p [[none,none,none],[none,none,some (71,5),some (154,3)]] iC (cJ.c r.1) (D.agg [D.str r.2.name,D.int .i64 r.2.prio,D.fr 71 5 (r.2.conds.map aO.c),D.fr 154 3 (r.2.cK.map Action.c)])) [1,1,0,1,0] n1 (vM iC y1 nr dH dJ (eN.map yx) (cg.map aO.c)):=by
 intro n
 induction n with
 |zero=>intro nr eN dH dJ cg h;simp[iv]at h
 |succ n1 ih1=>
  intro nr eN dH dJ cg h;rw[iv]at h;refine aQ fun N1 cY cI=>?_
  obtain⟨h25,h⟩|⟨h25,h⟩:=aM h
  ·obtain⟨AI,h29,h⟩:=aB h;obtain⟨h30,h⟩:=bR h;exact(((((aY.b h25).a [.n2 [0,1,2,3,4,5,6,7] [0,1,2,3,4,5,6,7] 3 5 [0,1] [0,4],.gp [[none,none,none]] (cJ.c AI.1) (D.agg [D.int .i64 AI.2.kind,D.str AI.2.pat.rel,D.fr 9 1 (AI.2.pat.args.map tx),D.str AI.2.left,D.str AI.2.right])]).w (show hY prog 200 (cJ.c (⟨eN,dH,dJ⟩:cJ)) (cJ.c AI.1) [] (D.agg [D.int .i64 AI.2.kind,D.str AI.2.pat.rel,D.fr 9 1 (AI.2.pat.args.map tx),D.str AI.2.left,D.str AI.2.right])from by simpa only[bA,bB,bZ,bX,bg]using zo h29)).w (bf h30)).a [.cn [0,2,3,4] [0,1,2,6]]).cs hΓ cI (vM iC y1 (IntKind.i64.wrap (nr-1)) AI.1.i AI.1.h (AI.1.b.map yx) ((cg.map aO.c)++([[D.int .i64 AI.2.kind,D.str AI.2.pat.rel,D.sl (AI.2.pat.args.map tx),D.str AI.2.left,D.str AI.2.right]]))) (by first| (simp only[mA]<;>rfl)| (simp only[mA,aD.c,aX.c,aO.c,Action.c,aK.c,aU.c,dW.c,aZ.c,Node.c,aH.c,dh.c]<;>rfl)) (ih1 (IntKind.i64.wrap (nr-1)) AI.1.b AI.1.i AI.1.h (cg++([AI.2])) h)
  ·exact((aY.b h25).a [.hl 0 [0,2,3] [0,1,2,3]]).ex hΓ cY (di eN dH dJ cg h)
def zv(iC:Value)(y1:cJ×Int)(eM:ai)(FU:aG)(tQ:cJ×aD)(Bq:Int)(vR:Int)(vS:Int)(W1:List aL)(W4:List aL):St:=⟨[(0,D.ptr 0 0),(2,D.ptr 1 0),(3,D.ptr 2 0),(5,D.acc 3),(6,D.ptr 4 0),(7,D.int .i64 Bq)],[Ob.AA [D.sl W1,D.int .i64 vR,D.int .i64 vS] iC,Ob.box [D.str ([]),D.int .i64 0,D.nil,D.nil],Ob.box [D.str ([114]),D.int .i64 y1.2,D.acc 5,D.nil],Ob.row .uq 9 1 (FU.map tx),Ob.box [D.str tQ.2.rel,D.acc 6],Ob.row .uq 71 5 (eM.map aO.c),Ob.row .uq 9 1 W4]⟩
theorem GN(hΓ:Γ.nt=88){iC:Value}{y1:cJ×Int}{eM:ai}{FU:aG}{tQ:cJ×aD}{r:cJ×aK}{k2:bC->Int->Int->aG->Option (cJ×aK)}(AJ:∀(KP:bC) (KR:Int) (KS:Int) (pJ:aG),k2 KP KR KS pJ=some r->Ax Γ N f198 (.p [[none,none,none],[none,none,some (71,5),some (154,3)]] iC (cJ.c r.1) (D.agg [D.str r.2.name,D.int .i64 r.2.prio,D.fr 71 5 (r.2.conds.map aO.c),D.fr 154 3 (r.2.cK.map Action.c)])) [1,1,1,1,1,1] ⟨[(0,D.ptr 0 0),(2,D.ptr 1 0),(3,D.ptr 2 0),(6,D.ptr 3 0)],[Ob.AA [D.sl (KP.map yx),D.int .i64 KR,D.int .i64 KS] iC,Ob.box [D.str ([]),D.int .i64 0,D.nil,D.nil],Ob.box [D.str ([114]),D.int .i64 y1.2,D.acc 4,D.nil],Ob.box [D.str tQ.2.rel,D.acc 5],Ob.row .uq 71 5 (eM.map aO.c),Ob.row .uq 9 1 (pJ.map tx)]⟩):∀(n2:Nat) (Bq:Int) (xM:bC) (vR:Int) (vS:Int) (lC:aG),dF y1 eM FU tQ k2 n2 Bq xM vR vS lC=some r->Ar Γ N f198 (.p [[none,none,none],[none,none,some (71,5),some (154,3)]] iC (cJ.c r.1) (D.agg [D.str r.2.name,D.int .i64 r.2.prio,D.fr 71 5 (r.2.conds.map aO.c),D.fr 154 3 (r.2.cK.map Action.c)])) [1,1,1,1,1,0,1,0] n2 (zv iC y1 eM FU tQ Bq vR vS (xM.map yx) (lC.map tx)):=by
 intro n
 induction n with
 |zero=>intro Bq xM vR vS lC h;simp[dF]at h
 |succ n2 ih2=>
  intro Bq xM vR vS lC h;rw[dF]at h;refine aQ fun N2 ue sB=>?_
  obtain⟨h90,h⟩|⟨h90,h⟩:=aM h
  ·obtain⟨x91,h92,h⟩:=aB h;obtain⟨y93,h94,h⟩:=aB h;have je:=((((aY.b h90).i (gl tx 1 h92)).o 1 1 .uq (cR tx (eW h92))).g (fN h94))
   obtain⟨h95,h⟩|⟨h95,h⟩:=aM h
   ·obtain⟨VV,h97,h⟩:=aB h;have jj:=(((((((je.r 5 h95).i (gl tx 1 h92)).b h95).o 1 1 .uq (cR tx (eW h92))).b h95).g (jr h97)).r 2 h95)
    obtain⟨h98,h⟩|⟨h98,h⟩:=aM h
    ·obtain⟨FE,h102,h⟩:=aB h;exact((((((jj.b h98).a [.n2 [0,1,2,3,4,5,6] [0,1,2,3,4,5,6] 4 5 [0,1,2] [0],.gp [[none,none,none]] (cJ.c FE.1) (D.str FE.2)]).w (show hY prog 181 (cJ.c (⟨xM,vR,vS⟩:cJ)) (cJ.c FE.1) [] (D.str FE.2)from by simpa only[bA,bB,bZ,bX,bg]using vJ h102)).i (gl tx 1 h92)).w (show(lC.map tx)[Bq.toNat]?=some [D.str x91]from cR tx (eW h92))).a [.row [D.str x91],.cn [0,2,3,5,6,7] [0,1,2,3,4,5,6]]).cs hΓ sB (zv iC y1 eM FU tQ (IntKind.i64.wrap (Bq+1)) FE.1.i FE.1.h (FE.1.b.map yx) ((lC.map tx).set Bq.toNat [D.str FE.2])) (by first| (simp only[mA]<;>rfl)| (simp only[mA,aD.c,aX.c,aO.c,Action.c,aK.c,aU.c,dW.c,aZ.c,Node.c,aH.c,dh.c]<;>rfl)) (ih2 (IntKind.i64.wrap (Bq+1)) FE.1.b FE.1.i FE.1.h (lC.set Bq.toNat FE.2) h)
    ·exact((jj.b h98).a [.cn [0,2,3,5,6,7] [0,1,2,3,4,5,6]]).cf hΓ sB (ih2 (IntKind.i64.wrap (Bq+1)) xM vR vS lC h)
   ·exact(((je.r 9 h95).F 1).a [.cn [0,2,3,5,6,7] [0,1,2,3,4,5,6]]).cf hΓ sB (ih2 (IntKind.i64.wrap (Bq+1)) xM vR vS lC h)
  ·exact((aY.b h90).a [.hl 0 [0,2,3,6] [0,1,2,4,5,6]]).ex hΓ ue (AJ xM vR vS lC h)
theorem Ed{aC:cJ}{r:cJ×aK}(h:sW aC=some r):hY prog 198 (cJ.c aC) (cJ.c r.1) [] (D.agg [D.str r.2.name,D.int .i64 r.2.prio,D.fr 71 5 (r.2.conds.map aO.c),D.fr 154 3 (r.2.cK.map Action.c)]):=by
 refine Iz func198 [[none,none,none],[none,none,some (71,5),some (154,3)]] 88 [D.sl (aC.b.map yx),D.int .i64 aC.i,D.int .i64 aC.h] [] [] fun hr iC Γ hΓ=>?_
 rw[sW]at h;obtain⟨y1,h2,h⟩:=aB h;obtain⟨y3,h4,h⟩:=aB h;obtain⟨y5,h6,h⟩:=aB h;refine((((aY.hp [[none,none,none],[none]] (cC h2)).hp [[none,none,none]] (nJ h4)).hp [[none,none,none],[none]] (cC h6)).a [.cn [0,2,3,4] [0,1,4,3]]).lps hΓ (vM iC y1 y5.2 y5.1.i y5.1.h (y5.1.b.map yx) ([[D.int .i64 1,D.str y3.2.rel,D.sl (y3.2.args.map tx),D.str ([]),D.str ([])]])) (by first| (simp only[mA]<;>rfl)| (simp only[mA,aD.c,aX.c,aO.c,Action.c,aK.c,aU.c,dW.c,aZ.c,Node.c,aH.c,dh.c]<;>rfl)) (GM hΓ (fun l8 l9 lB eM h=>?_) fuel y5.2 y5.1.b y5.1.i y5.1.h ([(⟨1,y3.2,[],[]⟩:aO)]) h);obtain⟨FU,h32,h⟩:=aB h;obtain⟨tQ,h34,h⟩:=aB h;refine(((((aY.a [.d (D.fr 9 1 (FU.map tx))]).w (show Good prog 188 [D.agg [D.str ([114]),D.int .i64 y1.2,D.sl (eM.map aO.c),D.sl ([])],D.int .i64 ((eM.map aO.c).length:Int)] (D.fr 9 1 (FU.map tx))from by first| (simpa only[bA,bB,bZ,bX,bg]using jq h32)|exact jq h32| (have t:=jq h32;simp only[bA,bX,bg,aK.c]at t;exact t))).a [.gp [[none,none,none]] (cJ.c tQ.1) (D.agg [D.str tQ.2.rel,D.fr 9 1 (tQ.2.args.map tx)])]).w (show hY prog 201 (cJ.c (⟨l8,l9,lB⟩:cJ)) (cJ.c tQ.1) [] (D.agg [D.str tQ.2.rel,D.fr 9 1 (tQ.2.args.map tx)])from by simpa only[bA,bB,bZ,bX,bg]using nJ h34)).a [.cn [0,2,3,5,6,7] [0,1,2,4,6,3,5]]).lp hΓ (GN hΓ (fun KP KR KS pJ h=>?_) fuel 0 tQ.1.b tQ.1.i tQ.1.h tQ.2.args h);obtain⟨zG,h106,h⟩:=aB h;obtain⟨h107,h⟩:=bR h;obtain⟨Hv,h109,h⟩:=aB h;have sX:=((((aY.a [.n2 [0,1,2,3,5,4,6,7,8,9,10] [0,1,2,3,5,4,6,7,8,9,10] 5 8 [0,1,4] [0,5,6],.gp [[none,none,none],[some (3,1)]] (cJ.c zG.1) (D.int .i64 zG.2)]).w (show hY prog 78 (cJ.c (⟨KP,KR,KS⟩:cJ)) (cJ.c zG.1) [D.fr 3 1 (([1,1,2]:bC).map iM)] (D.int .i64 zG.2)from by simpa only[bA,bB,bZ,bX,bg]using ji h106)).w (bf h107)).hp [[none,none,none],[none]] (pQ h109))
 obtain⟨h110,h⟩|⟨h110,h⟩:=aM h
 ·obtain⟨h111,h⟩:=bR h;obtain⟨Si,h113,h⟩:=aB h;have vg:=((((sX.b h110).w (bf h111)).a [.d (D.bool Si)]).w (show Good prog 128 [D.agg [D.str ([114]),D.int .i64 y1.2,D.sl (eM.map aO.c),D.sl ((([]:List aL)++([[D.int .i64 zG.2,D.str tQ.2.rel,D.sl (pJ.map tx)]]))++([[D.int .i64 3,D.str ([]),D.sl ([])]]))]] (D.bool Si)from by first| (simpa only[bA,bB,bZ,bX,bg]using fT h113)|exact fT h113| (have t:=fT h113;simp only[bA,bX,bg,aK.c]at t;exact t)))
  obtain⟨h114,h⟩|⟨h114,h⟩:=aM h
  ·obtain⟨VD,h116,h⟩:=aB h;cases h;exact((vg.b h114).hp [[none,none,none],[none]] (uc h116)).ret hΓ
  ·cases h;exact(vg.b h114).rts hΓ (D.gL [D.agg [D.str ([114]),D.int .i64 y1.2,D.fr 71 5 (eM.map aO.c),D.fr 154 3 ((([]:List aL)++([[D.int .i64 zG.2,D.str tQ.2.rel,D.sl (pJ.map tx)]]))++([[D.int .i64 3,D.str ([]),D.sl ([])]]))],D.agg [D.sl (Hv.1.b.map yx),D.int .i64 Hv.1.i,D.int .i64 Hv.1.h],D.val iC]) (by first|rfl| (simp only[mA]<;>rfl))
 ·obtain⟨a0x,h118,h⟩:=aB h;have zB:=(((sX.b h110).a [.d (D.bool a0x)]).w (show Good prog 128 [D.agg [D.str ([114]),D.int .i64 y1.2,D.sl (eM.map aO.c),D.sl (([]:List aL)++([[D.int .i64 zG.2,D.str tQ.2.rel,D.sl (pJ.map tx)]]))]] (D.bool a0x)from by first| (simpa only[bA,bB,bZ,bX,bg]using fT h118)|exact fT h118| (have t:=fT h118;simp only[bA,bX,bg,aK.c]at t;exact t)))
  obtain⟨h119,h⟩|⟨h119,h⟩:=aM h
  ·obtain⟨a4H,h121,h⟩:=aB h;cases h;exact((zB.b h119).hp [[none,none,none],[none]] (uc h121)).ret hΓ
  ·cases h;exact(zB.b h119).rts hΓ (D.gL [D.agg [D.str ([114]),D.int .i64 y1.2,D.fr 71 5 (eM.map aO.c),D.fr 154 3 (([]:List aL)++([[D.int .i64 zG.2,D.str tQ.2.rel,D.sl (pJ.map tx)]]))],D.agg [D.sl (Hv.1.b.map yx),D.int .i64 Hv.1.i,D.int .i64 Hv.1.h],D.val iC]) (by first|rfl| (simp only[mA]<;>rfl))
def lG(aC:cJ):Option (cJ×aK):=((qj aC 3).bind fun y1=>(bif y1.2 then((sW y1.1).bind fun y4=>(some (y4.1,y4.2)))else((nZ y1.1 99).bind fun y6=>(some (y6.1,y6.2)))))
theorem zu{aC:cJ}{r:cJ×aK}(h:lG aC=some r):hY prog 136 (cJ.c aC) (cJ.c r.1) [] (D.agg [D.str r.2.name,D.int .i64 r.2.prio,D.fr 71 5 (r.2.conds.map aO.c),D.fr 154 3 (r.2.cK.map Action.c)]):=by
 refine Iz func136 [[none,none,none],[none,none,some (71,5),some (154,3)]] 9 [D.sl (aC.b.map yx),D.int .i64 aC.i,D.int .i64 aC.h] [] [] fun hr iC Γ hΓ=>?_
 rw[lG]at h;obtain⟨y1,h2,h⟩:=aB h;obtain⟨h3,h⟩|⟨h3,h⟩:=aM h
 ·obtain⟨y4,h5,h⟩:=aB h;cases h;exact(((aY.hp [[none,none,none],[none]] (pQ h2)).b h3).hp [[none,none,none]] (Ed h5)).ret hΓ
 ·obtain⟨y6,h7,h⟩:=aB h;cases h;exact(((aY.hp [[none,none,none],[none]] (pQ h2)).b h3).hp [[none,none,none],[none]] (uc h7)).ret hΓ
def mS(k1:bC->Int->Int->aj->Option (cJ×aj)):Nat->Int->bC->Int->Int->aj->Option (cJ×aj)
 |0,_,_,_,_,_=>none
 |n1+1,dR,eN,dH,dJ,bV=>(bif decide ((dR:Int)>0)then((lG (⟨eN,dH,dJ⟩:cJ)).bind fun vE=>((jH dR).bind fun oX=>(bif decide (([114]:Bytes).length+(oX:Bytes).length<=maxLen)then(bif room ((bV.map aK.c).length+([[D.str (([114])++oX),D.int .i64 vE.2.prio,D.sl (vE.2.conds.map aO.c),D.sl (vE.2.cK.map Action.c)]]).length) 72 then(mS k1 n1 (IntKind.i64.wrap (dR-1)) vE.1.b vE.1.i vE.1.h (bV++([(⟨([114])++oX,vE.2.prio,vE.2.conds,vE.2.cK⟩:aK)])))else none)else none)))else(k1 eN dH dJ bV))
def wO(aC:cJ)(aa:Int):Option (cJ×aj):=((cM aC (IntKind.i64.wrap (aa+1))).bind fun y1=>(mS (fun(l8:bC) (l9:Int) (lB:Int) (jM:aj)=>(some ((⟨l8,l9,lB⟩:cJ),jM))) fuel y1.2 y1.1.b y1.1.i y1.1.h ([]:aj)))
def Cr(iC:Value)(dR:Int)(dH:Int)(dJ:Int)(W1:List aL)(W4:List aL):St:=⟨[(0,D.ptr 0 0),(5,D.acc 1),(6,D.int .i64 dR)],[Ob.AA [D.sl W1,D.int .i64 dH,D.int .i64 dJ] iC,Ob.row .uq 63 4 W4]⟩
theorem KG(hΓ:Γ.nt=28){iC:Value}{r:cJ×aj}{k1:bC->Int->Int->aj->Option (cJ×aj)}(di:∀(l8:bC) (l9:Int) (lB:Int) (jM:aj),k1 l8 l9 lB jM=some r->Ax Γ N f132 (.p [[none,none,none],[some (63,4)]] iC (cJ.c r.1) (D.fr 63 4 (r.2.map aK.c))) [1,1,1] ⟨[(5,D.acc 1)],[Ob.AA [D.sl (l8.map yx),D.int .i64 l9,D.int .i64 lB] iC,Ob.row .uq 63 4 (jM.map aK.c)]⟩):∀(n1:Nat) (dR:Int) (eN:bC) (dH:Int) (dJ:Int) (bV:aj),mS k1 n1 dR eN dH dJ bV=some r->Ar Γ N f132 (.p [[none,none,none],[some (63,4)]] iC (cJ.c r.1) (D.fr 63 4 (r.2.map aK.c))) [1,1,0,1,0] n1 (Cr iC dR dH dJ (eN.map yx) (bV.map aK.c)):=by
 intro n
 induction n with
 |zero=>intro dR eN dH dJ bV h;simp[mS]at h
 |succ n1 ih1=>
  intro dR eN dH dJ bV h;rw[mS]at h;refine aQ fun N1 cY cI=>?_
  obtain⟨h24,h⟩|⟨h24,h⟩:=aM h
  ·obtain⟨vE,h26,h⟩:=aB h;obtain⟨oX,h28,h⟩:=aB h;obtain⟨h29,h⟩:=bR h;obtain⟨h30,h⟩:=bR h;exact(((((((aY.b h24).a [.gp [[none,none,none]] (cJ.c vE.1) (D.agg [D.str vE.2.name,D.int .i64 vE.2.prio,D.fr 71 5 (vE.2.conds.map aO.c),D.fr 154 3 (vE.2.cK.map Action.c)])]).w (show hY prog 136 (cJ.c (⟨eN,dH,dJ⟩:cJ)) (cJ.c vE.1) [] (D.agg [D.str vE.2.name,D.int .i64 vE.2.prio,D.fr 71 5 (vE.2.conds.map aO.c),D.fr 154 3 (vE.2.cK.map Action.c)])from by simpa only[bA,bB,bZ,bX,bg]using zu h26)).g (me h28)).w (bn h29)).w (bf h30)).a [.cn [0,5,6] [0,6]]).cs hΓ cI (Cr iC (IntKind.i64.wrap (dR-1)) vE.1.i vE.1.h (vE.1.b.map yx) ((bV.map aK.c)++([[D.str (([114])++oX),D.int .i64 vE.2.prio,D.sl (vE.2.conds.map aO.c),D.sl (vE.2.cK.map Action.c)]]))) (by first| (simp only[mA]<;>rfl)| (simp only[mA,aD.c,aX.c,aO.c,Action.c,aK.c,aU.c,dW.c,aZ.c,Node.c,aH.c,dh.c]<;>rfl)) (ih1 (IntKind.i64.wrap (dR-1)) vE.1.b vE.1.i vE.1.h (bV++([(⟨([114])++oX,vE.2.prio,vE.2.conds,vE.2.cK⟩:aK)])) h)
  ·exact((aY.b h24).a [.hl 0 [5] [0,1]]).ex hΓ cY (di eN dH dJ bV h)
theorem Im{aC:cJ}{aa:Int}{r:cJ×aj}(h:wO aC aa=some r):hY prog 132 (cJ.c aC) (cJ.c r.1) [D.int .i64 aa] (D.fr 63 4 (r.2.map aK.c)):=by
 refine Iz func132 [[none,none,none],[some (63,4)]] 28 [D.sl (aC.b.map yx),D.int .i64 aC.i,D.int .i64 aC.h] [D.int .i64 aa] [] fun hr iC Γ hΓ=>?_
 rw[wO]at h;obtain⟨y1,h2,h⟩:=aB h;refine((aY.hp [[none,none,none],[none]] (cC h2)).a [.cn [0,5,6] [0,1]]).lp hΓ (KG hΓ (fun l8 l9 lB jM h=>?_) fuel y1.2 y1.1.b y1.1.i y1.1.h ([]:aj) h);cases h;exact aY.ret hΓ
def kJ(aC:aj)(aa:Bytes)(k1:Option Int):aj->Nat->Option Int
 | [],i1=>(k1)
 |bU::cQ,i1=>(bif (bU.name:Bytes)==aa then(some (i1:Int))else(kJ aC aa k1 cQ (i1+1)))
def sP(aC:aj)(aa:Bytes):Option Int:=(kJ aC aa (some (-1)) aC 0)
def HJ(aC:aj)(aa:Bytes)(dL:Int):St:=⟨[(0,D.sl (aC.map aK.c)),(1,D.str aa),(5,D.int .i64 dL)],[]⟩
theorem G4(hΓ:Γ.nt=20){aC:aj}{aa:Bytes}{r:Int}{k1:Option Int}(di:k1=some r->Ax Γ N f30 (.q [[none]] (D.int .i64 r)) [1,1] ⟨[],[]⟩)(hm1:aC.length<=maxLen):∀(rest:aj) (i1:Nat),aC.drop i1=rest->kJ aC aa k1 rest i1=some r->Ar Γ N f30 (.q [[none]] (D.int .i64 r)) [1,0,1,0] (rest.length+1) (HJ aC aa (i1:Int)):=by
 intro rest
 induction rest with
 |nil=>
  intro i1 az h;rw[kJ]at h;refine aQ fun N1 cY cI=>?_
  exact((aY.ge aK.c az).a [.hl 0 [] []]).ex hΓ cY (di h)
 |cons bU cQ ih1=>
  intro i1 az h;rw[kJ]at h;refine aQ fun N1 cY cI=>?_
  have fk:=((aY.lt aK.c az).l (bJ aK.c 4 (dc az) rfl))
  obtain⟨h13,h⟩|⟨h13,h⟩:=aM h
  ·cases h;exact(fk.b h13).ret hΓ
  ·exact((fk.b h13).a [.cn [0,1,5] []]).ct hΓ cI (iS az hm1) (ih1 (i1+1) (dn az) h)
theorem EN{aC:aj}{aa:Bytes}{r:Int}(h:sP aC aa=some r):Good prog 30 [D.sl (aC.map aK.c),D.str aa] (D.int .i64 r):=by
 refine gd func30 [[none]] 20 fun hr Γ hΓ=>?_
 rw[sP]at h;refine(aY.a [.cn [0,1,5] []]).lp hΓ (G4 hΓ (fun h=>?_) (by have:=(gq.sl (hr _ (aE (i:=0) rfl))).1;simpa using this) aC 0 rfl h);cases h;exact aY.ret hΓ
def kI(aC:aj)(k1:Option Bool):aj->Nat->Option Bool
 | [],i1=>(k1)
 |bU::cQ,i1=>((nR bU).bind fun tQ=>(bif !(tQ)then(some false)else((sP aC bU.name).bind fun Ms=>(bif (Ms:Int) != (i1:Int)then(some false)else(kI aC k1 cQ (i1+1))))))
def sO(aC:aj):Option Bool:=(kI aC (some (decide ((((aC.map aK.c).length:Int):Int)<=6))) aC 0)
def HH(aC:aj)(dL:Int):St:=⟨[(0,D.sl (aC.map aK.c)),(3,D.int .i64 dL)],[]⟩
theorem G1(hΓ:Γ.nt=30){aC:aj}{r:Bool}{k1:Option Bool}(di:k1=some r->Ax Γ N f69 (.q [[none]] (D.bool r)) [1,1] ⟨[(0,D.sl (aC.map aK.c))],[]⟩)(hm1:aC.length<=maxLen):∀(rest:aj) (i1:Nat),aC.drop i1=rest->kI aC k1 rest i1=some r->Ar Γ N f69 (.q [[none]] (D.bool r)) [1,0,1,0] (rest.length+1) (HH aC (i1:Int)):=by
 intro rest
 induction rest with
 |nil=>
  intro i1 az h;rw[kI]at h;refine aQ fun N1 cY cI=>?_
  exact((aY.ge aK.c az).a [.hl 0 [0] []]).ex hΓ cY (di h)
 |cons bU cQ ih1=>
  intro i1 az h;rw[kI]at h;refine aQ fun N1 cY cI=>?_
  obtain⟨tQ,h34,h⟩:=aB h;have je:=(((aY.lt aK.c az).l (bJ aK.c 4 (dc az) rfl)).g (fT h34))
  obtain⟨h35,h⟩|⟨h35,h⟩:=aM h
  ·have h:=aN h;subst h;exact((je.r 10 h35).T 1).ret hΓ
  ·obtain⟨Ms,h37,h⟩:=aB h;have jj:=(((((je.r 4 h35).l (bJ aK.c 4 (dc az) rfl)).r 3 h35).g (EN h37)).r 3 h35)
   obtain⟨h38,h⟩|⟨h38,h⟩:=aM h
   ·have h:=aN h;subst h;exact(jj.b h38).ret hΓ
   ·exact((jj.b h38).a [.cn [0,3] []]).ct hΓ cI (iS az hm1) (ih1 (i1+1) (dn az) h)
theorem xj{aC:aj}{r:Bool}(h:sO aC=some r):Good prog 69 [D.sl (aC.map aK.c)] (D.bool r):=by
 refine gd func69 [[none]] 30 fun hr Γ hΓ=>?_
 rw[sO]at h;refine(aY.a [.cn [0,3] []]).lp hΓ (G1 hΓ (fun h=>?_) (by have:=(gq.sl (hr _ (aE (i:=0) rfl))).1;simpa using this) aC 0 rfl h);cases h;exact aY.ret hΓ
def jd(aC:Bytes)(aa:aT)(k1:Option Bytes):aT->Nat->Option Bytes
 | [],i1=>(k1)
 |bU::cQ,i1=>(bif (bU.var:Bytes)==aC then(some bU.value)else(jd aC aa k1 cQ (i1+1)))
def kx(aC:Bytes)(aa:aT):Option Bytes:=(jd aC aa (some aC) aa 0)
def GK(aC:Bytes)(aa:aT)(dL:Int):St:=⟨[(0,D.str aC),(1,D.sl (aa.map aX.c)),(5,D.int .i64 dL)],[]⟩
theorem Ea(hΓ:Γ.nt=25){aC:Bytes}{aa:aT}{r:Bytes}{k1:Option Bytes}(di:k1=some r->Ax Γ N f203 (.q [[none]] (D.str r)) [1,1] ⟨[(0,D.str aC)],[]⟩)(hm1:aa.length<=maxLen):∀(rest:aT) (i1:Nat),aa.drop i1=rest->jd aC aa k1 rest i1=some r->Ar Γ N f203 (.q [[none]] (D.str r)) [1,0,1,0] (rest.length+1) (GK aC aa (i1:Int)):=by
 intro rest
 induction rest with
 |nil=>
  intro i1 az h;rw[jd]at h;refine aQ fun N1 cY cI=>?_
  exact((aY.ge aX.c az).a [.hl 0 [0] []]).ex hΓ cY (di h)
 |cons bU cQ ih1=>
  intro i1 az h;rw[jd]at h;refine aQ fun N1 cY cI=>?_
  have fk:=((aY.lt aX.c az).l (bJ aX.c 2 (dc az) rfl))
  obtain⟨h13,h⟩|⟨h13,h⟩:=aM h
  ·cases h;exact((fk.b h13).l (bJ aX.c 2 (dc az) rfl)).ret hΓ
  ·exact((fk.b h13).a [.cn [0,1,5] []]).ct hΓ cI (iS az hm1) (ih1 (i1+1) (dn az) h)
theorem tG{aC:Bytes}{aa:aT}{r:Bytes}(h:kx aC aa=some r):Good prog 203 [D.str aC,D.sl (aa.map aX.c)] (D.str r):=by
 refine gd func203 [[none]] 25 fun hr Γ hΓ=>?_
 rw[kx]at h;refine(aY.a [.cn [0,1,5] []]).lp hΓ (Ea hΓ (fun h=>?_) (by have:=(gq.sl (hr _ (aE (i:=1) rfl))).1;simpa using this) aa 0 rfl h);have h:=aN h;subst h;exact aY.ret hΓ
def ko(aC:aO)(aa:aT)(y1:Bytes)(y3:Bytes)(k1:aG->Option aO):aG->Nat->aG->Option aO
 | [],i1,cg=>(k1 cg)
 |bU::cQ,i1,cg=>((kx bU aa).bind fun FU=>(bif room ((cg.map tx).length+([[D.str FU]]).length) 16 then(ko aC aa y1 y3 k1 cQ (i1+1) (cg++([FU])))else none))
def jh(aC:aO)(aa:aT):Option aO:=((kx aC.left aa).bind fun y1=>((kx aC.right aa).bind fun y3=>(ko aC aa y1 y3 (fun(nQ:aG)=>(some (⟨aC.kind,(⟨aC.pat.rel,nQ⟩:aD),y1,y3⟩:aO))) aC.pat.args 0 ([]:aG))))
def xo(aC:aO)(aa:aT)(y1:Bytes)(y3:Bytes)(W0:List aL)(dL:Int):St:=⟨[(1,D.sl (aa.map aX.c)),(2,D.ptr 0 0),(4,D.ptr 1 0),(5,D.ptr 2 0),(6,D.int .i64 dL)],[Ob.box (aO.c aC),Ob.box [D.int .i64 0,D.str ([]),D.nil,D.str ([]),D.str ([])],Ob.box [D.int .i64 aC.kind,D.str aC.pat.rel,D.acc 3,D.str y1,D.str y3],Ob.row .uq 9 1 W0]⟩
theorem DU(hΓ:Γ.nt=46){aC:aO}{aa:aT}{y1:Bytes}{y3:Bytes}{r:aO}{k1:aG->Option aO}(di:∀(nQ:aG),k1 nQ=some r->Ax Γ N f151 (.q [[none,none,some (9,1),none,none]] (D.agg [D.int .i64 r.kind,D.str r.pat.rel,D.fr 9 1 (r.pat.args.map tx),D.str r.left,D.str r.right])) [1,1,1] ⟨[(4,D.ptr 0 0),(5,D.ptr 1 0)],[Ob.box [D.int .i64 0,D.str ([]),D.nil,D.str ([]),D.str ([])],Ob.box [D.int .i64 aC.kind,D.str aC.pat.rel,D.acc 2,D.str y1,D.str y3],Ob.row .uq 9 1 (nQ.map tx)]⟩)(hm1:aC.pat.args.length<=maxLen):∀(rest:aG) (i1:Nat) (cg:aG),aC.pat.args.drop i1=rest->ko aC aa y1 y3 k1 rest i1 cg=some r->Ar Γ N f151 (.q [[none,none,some (9,1),none,none]] (D.agg [D.int .i64 r.kind,D.str r.pat.rel,D.fr 9 1 (r.pat.args.map tx),D.str r.left,D.str r.right])) [1,1,0,1,0] (rest.length+1) (xo aC aa y1 y3 (cg.map tx) (i1:Int)):=by
 intro rest
 induction rest with
 |nil=>
  intro i1 cg az h;rw[ko]at h;refine aQ fun N1 cY cI=>?_
  exact((aY.ge tx az).a [.hl 0 [4,5] [1,2,3]]).ex hΓ cY (di cg h)
 |cons bU cQ ih1=>
  intro i1 cg az h;rw[ko]at h;refine aQ fun N1 cY cI=>?_
  obtain⟨FU,h32,h⟩:=aB h;obtain⟨h33,h⟩:=bR h;exact((((((aY.lt tx az).a [.n 12]).l (bJ tx 1 (dc az) rfl)).g (tG h32)).w (bf h33)).a [.cn [1,2,4,5,6] [0,1,2,5]]).cs hΓ cI (xo aC aa y1 y3 ((cg.map tx)++([[D.str FU]])) (IntKind.i64.wrap ((i1:Int)+1))) (by first| (simp only[iS az hm1,mA]<;>rfl)| (simp only[iS az hm1,mA,aD.c,aX.c,aO.c,Action.c,aK.c,aU.c,dW.c,aZ.c,Node.c,aH.c,dh.c]<;>rfl)) (ih1 (i1+1) (cg++([FU])) (dn az) h)
theorem jK{aC:aO}{aa:aT}{r:aO}(h:jh aC aa=some r):Good prog 151 [D.agg (aO.c aC),D.sl (aa.map aX.c)] (D.agg [D.int .i64 r.kind,D.str r.pat.rel,D.fr 9 1 (r.pat.args.map tx),D.str r.left,D.str r.right]):=by
 refine gd func151 [[none,none,some (9,1),none,none]] 46 fun hr Γ hΓ=>?_
 rw[jh]at h;obtain⟨y1,h2,h⟩:=aB h;obtain⟨y3,h4,h⟩:=aB h;refine((((aY.a [.n 16]).g (tG h2)).g (tG h4)).a [.pb 2 2 9 1,.cn [1,2,4,5,6] [0,1,2,3]]).lp hΓ (DU hΓ (fun nQ h=>?_) (by have:=(gq.sl (gq.agg (hr _ (aE (i:=0) rfl)) (.sl (aC.pat.args.map tx)) (by simp))).1;simpa using this) aC.pat.args 0 ([]:aG) rfl h);cases h;exact aY.ret hΓ
def ju(aC:aO):Option aO:=((jh aC ([])).bind fun y1=>(some y1))
theorem s6{aC:aO}{r:aO}(h:ju aC=some r):Good prog 100 [D.agg (aO.c aC)] (D.agg [D.int .i64 r.kind,D.str r.pat.rel,D.fr 9 1 (r.pat.args.map tx),D.str r.left,D.str r.right]):=by
 refine gd func100 [[none,none,some (9,1),none,none]] 5 fun hr Γ hΓ=>?_
 rw[ju]at h;obtain⟨y1,h2,h⟩:=aB h;have h:=aN h;subst h;exact((aY.a [.d (D.agg [D.int .i64 y1.kind,D.str y1.pat.rel,D.fr 9 1 (y1.pat.args.map tx),D.str y1.left,D.str y1.right])]).w (show Good prog 151 [D.agg (aO.c aC),D.sl ([])] (D.agg [D.int .i64 y1.kind,D.str y1.pat.rel,D.fr 9 1 (y1.pat.args.map tx),D.str y1.left,D.str y1.right])from by first| (simpa only[bA,bB,bZ,bX,bg]using jK h2)|exact jK h2)).ret hΓ
def rS(aC:aG):Option aG:=(bif room (([]:List aL).length+(aC.map tx).length) 16 then(some (([]:aG)++aC))else none)
theorem yo{aC:aG}{r:aG}(h:rS aC=some r):Good prog 149 [D.sl (aC.map tx)] (D.fr 9 1 (r.map tx)):=by
 refine gd func149 [[some (9,1)]] 6 fun hr Γ hΓ=>?_
 rw[rS]at h;obtain⟨h1,h⟩:=bR h;cases h;exact(((aY.w (bf h1)).w (show(∀r∈(aC.map tx),r.length=1)/\(true=true->D.jv (aC.map tx)=true)from⟨by first|simp| (intro r hr;obtain⟨x,_,rfl⟩:=cE.1 (bu (fJ hr));rfl),by simp[D.jv,D.flat]⟩)).a [.Kq 2,.fl true]).rts hΓ (D.fr 9 1 (([]:List aL)++(aC.map tx))) (by first|rfl| (simp only[mA]<;>rfl))
def eS(aC:aD):Option aD:=((rS aC.args).bind fun y1=>(some (⟨aC.rel,y1⟩:aD)))
theorem AR{aC:aD}{r:aD}(h:eS aC=some r):Good prog 122 [D.agg (aD.c aC)] (D.agg [D.str r.rel,D.fr 9 1 (r.args.map tx)]):=by
 refine gd func122 [[none,some (9,1)]] 9 fun hr Γ hΓ=>?_
 rw[eS]at h;obtain⟨y1,h2,h⟩:=aB h;cases h;exact((aY.a [.n 5]).g (yo h2)).ret hΓ
def pG(aC:aK)(k1:ai->Option aK):ai->Nat->ai->Option aK
 | [],i1,cg=>(k1 cg)
 |bU::cQ,i1,cg=>((ju bU).bind fun Gr=>(bif room ((cg.map aO.c).length+([[D.int .i64 Gr.kind,D.str Gr.pat.rel,D.sl (Gr.pat.args.map tx),D.str Gr.left,D.str Gr.right]]).length) 80 then(pG aC k1 cQ (i1+1) (cg++([Gr])))else none))
def nL(aC:aK)(eM:ai)(k2:eF->Option aK):eF->Nat->eF->Option aK
 | [],i2,jz=>(k2 jz)
 |lq::tR,i2,jz=>((eS lq.pat).bind fun y92=>(bif room ((jz.map Action.c).length+([[D.int .i64 lq.kind,D.str y92.rel,D.sl (y92.args.map tx)]]).length) 48 then(nL aC eM k2 tR (i2+1) (jz++([(⟨lq.kind,y92⟩:Action)])))else none))
def sr(aC:aK):Option aK:=(pG aC (fun(eM:ai)=>(nL aC eM (fun(vP:eF)=>(some (⟨aC.name,aC.prio,eM,vP⟩:aK))) aC.cK 0 ([]:eF))) aC.conds 0 ([]:ai))
def BU(aC:aK)(W0:List aL)(dL:Int):St:=⟨[(1,D.ptr 0 0),(2,D.ptr 1 0),(3,D.ptr 2 0),(4,D.int .i64 dL)],[Ob.box (aK.c aC),Ob.box [D.str ([]),D.int .i64 0,D.nil,D.nil],Ob.box [D.str aC.name,D.int .i64 aC.prio,D.acc 3,D.nil],Ob.row .uq 71 5 W0]⟩
theorem Ik(hΓ:Γ.nt=56){aC:aK}{r:aK}{k1:ai->Option aK}(di:∀(eM:ai),k1 eM=some r->Ax Γ N f150 (.q [[none,none,some (71,5),some (154,3)]] (D.agg [D.str r.name,D.int .i64 r.prio,D.fr 71 5 (r.conds.map aO.c),D.fr 154 3 (r.cK.map Action.c)])) [1,1,1] ⟨[(1,D.ptr 0 0),(2,D.ptr 1 0),(3,D.ptr 2 0)],[Ob.box (aK.c aC),Ob.box [D.str ([]),D.int .i64 0,D.nil,D.nil],Ob.box [D.str aC.name,D.int .i64 aC.prio,D.acc 3,D.nil],Ob.row .uq 71 5 (eM.map aO.c)]⟩)(hm1:aC.conds.length<=maxLen):∀(rest:ai) (i1:Nat) (cg:ai),aC.conds.drop i1=rest->pG aC k1 rest i1 cg=some r->Ar Γ N f150 (.q [[none,none,some (71,5),some (154,3)]] (D.agg [D.str r.name,D.int .i64 r.prio,D.fr 71 5 (r.conds.map aO.c),D.fr 154 3 (r.cK.map Action.c)])) [1,1,0,1,0] (rest.length+1) (BU aC (cg.map aO.c) (i1:Int)):=by
 intro rest
 induction rest with
 |nil=>
  intro i1 cg az h;rw[pG]at h;refine aQ fun N1 cY cI=>?_
  exact((aY.ge aO.c az).a [.hl 0 [1,2,3] [0,1,2,3]]).ex hΓ cY (di cg h)
 |cons bU cQ ih1=>
  intro i1 cg az h;rw[pG]at h;refine aQ fun N1 cY cI=>?_
  obtain⟨Gr,h46,h⟩:=aB h;obtain⟨h47,h⟩:=bR h;exact((((((aY.lt aO.c az).a [.n2 [0,1,2,3,4,5,6,7,8,9,10,11] [0,1,2,3,4,5,6,7,8,9,10,11] 8 9 [0,1] [4]]).l (bJ aO.c 5 (dc az) rfl)).g (s6 h46)).w (bf h47)).a [.cn [1,2,3,4] [0,1,2,6]]).cs hΓ cI (BU aC ((cg.map aO.c)++([[D.int .i64 Gr.kind,D.str Gr.pat.rel,D.sl (Gr.pat.args.map tx),D.str Gr.left,D.str Gr.right]])) (IntKind.i64.wrap ((i1:Int)+1))) (by first| (simp only[iS az hm1,mA]<;>rfl)| (simp only[iS az hm1,mA,aD.c,aX.c,aO.c,Action.c,aK.c,aU.c,dW.c,aZ.c,Node.c,aH.c,dh.c]<;>rfl)) (ih1 (i1+1) (cg++([Gr])) (dn az) h)
def BV(aC:aK)(eM:ai)(W0:List aL)(dL:Int):St:=⟨[(1,D.ptr 0 0),(2,D.ptr 1 0),(3,D.ptr 2 0),(5,D.int .i64 dL)],[Ob.box (aK.c aC),Ob.box [D.str ([]),D.int .i64 0,D.nil,D.nil],Ob.box [D.str aC.name,D.int .i64 aC.prio,D.acc 3,D.acc 4],Ob.row .uq 71 5 (eM.map aO.c),Ob.row .uq 154 3 W0]⟩
theorem Il(hΓ:Γ.nt=56){aC:aK}{eM:ai}{r:aK}{k2:eF->Option aK}(AJ:∀(vP:eF),k2 vP=some r->Ax Γ N f150 (.q [[none,none,some (71,5),some (154,3)]] (D.agg [D.str r.name,D.int .i64 r.prio,D.fr 71 5 (r.conds.map aO.c),D.fr 154 3 (r.cK.map Action.c)])) [1,1,1,1] ⟨[(2,D.ptr 0 0),(3,D.ptr 1 0)],[Ob.box [D.str ([]),D.int .i64 0,D.nil,D.nil],Ob.box [D.str aC.name,D.int .i64 aC.prio,D.acc 2,D.acc 3],Ob.row .uq 71 5 (eM.map aO.c),Ob.row .uq 154 3 (vP.map Action.c)]⟩)(hm2:aC.cK.length<=maxLen):∀(rest:eF) (i2:Nat) (jz:eF),aC.cK.drop i2=rest->nL aC eM k2 rest i2 jz=some r->Ar Γ N f150 (.q [[none,none,some (71,5),some (154,3)]] (D.agg [D.str r.name,D.int .i64 r.prio,D.fr 71 5 (r.conds.map aO.c),D.fr 154 3 (r.cK.map Action.c)])) [1,1,1,0,1,0] (rest.length+1) (BV aC eM (jz.map Action.c) (i2:Int)):=by
 intro rest
 induction rest with
 |nil=>
  intro i2 jz hd2 h;rw[nL]at h;refine aQ fun N2 ue sB=>?_
  exact((aY.ge Action.c hd2).a [.hl 0 [2,3] [1,2,3,4]]).ex hΓ ue (AJ jz h)
 |cons lq tR ih2=>
  intro i2 jz hd2 h;rw[nL]at h;refine aQ fun N2 ue sB=>?_
  obtain⟨y92,h93,h⟩:=aB h;obtain⟨h94,h⟩:=bR h;exact(((((((aY.lt Action.c hd2).a [.n2 [0,1,2,3,4,5,6,7,8,9,10,11,12,13,14,15,16,17,18,19] [0,1,2,3,4,5,6,7,8,9,10,11,12,13,14,15,16,17,18,19] 16 17 [0,1] [5]]).l (bJ Action.c 3 (dc hd2) rfl)).l (bJ Action.c 3 (dc hd2) rfl)).g (AR h93)).w (bf h94)).a [.cn [1,2,3,5] [0,1,2,3,7]]).cs hΓ sB (BV aC eM ((jz.map Action.c)++([[D.int .i64 lq.kind,D.str y92.rel,D.sl (y92.args.map tx)]])) (IntKind.i64.wrap ((i2:Int)+1))) (by first| (simp only[iS hd2 hm2,mA]<;>rfl)| (simp only[iS hd2 hm2,mA,aD.c,aX.c,aO.c,Action.c,aK.c,aU.c,dW.c,aZ.c,Node.c,aH.c,dh.c]<;>rfl)) (ih2 (i2+1) (jz++([(⟨lq.kind,y92⟩:Action)])) (dn hd2) h)
theorem HV{aC:aK}{r:aK}(h:sr aC=some r):Good prog 150 [D.agg (aK.c aC)] (D.agg [D.str r.name,D.int .i64 r.prio,D.fr 71 5 (r.conds.map aO.c),D.fr 154 3 (r.cK.map Action.c)]):=by
 refine gd func150 [[none,none,some (71,5),some (154,3)]] 56 fun hr Γ hΓ=>?_
 rw[sr]at h;refine(aY.a [.pb 2 2 71 5,.cn [1,2,3,4] [0,1,2,3]]).lp hΓ (Ik hΓ (fun eM h=>?_) (by have:=(gq.sl (gq.agg (hr _ (aE (i:=0) rfl)) (.sl (aC.conds.map aO.c)) (by simp))).1;simpa using this) aC.conds 0 ([]:ai) rfl h);refine(aY.a [.pb 2 3 154 3,.cn [1,2,3,5] [0,1,2,3,4]]).lp hΓ (Il hΓ (fun vP h=>?_) (by have:=(gq.sl (gq.agg (hr _ (aE (i:=0) rfl)) (.sl (aC.cK.map Action.c)) (by simp))).1;simpa using this) aC.cK 0 ([]:eF) rfl h);cases h;exact aY.ret hΓ
def nK(aC:aj)(k1:aj->Option aj):aj->Nat->aj->Option aj
 | [],i1,bP=>(k1 bP)
 |bU::cQ,i1,bP=>((sr bU).bind fun oX=>(bif room ((bP.map aK.c).length+([[D.str oX.name,D.int .i64 oX.prio,D.sl (oX.conds.map aO.c),D.sl (oX.cK.map Action.c)]]).length) 72 then(nK aC k1 cQ (i1+1) (bP++([oX])))else none))
def pu(aC:aj):Option aj:=(nK aC (fun(cH:aj)=>(some cH)) aC 0 ([]:aj))
def zq(aC:aj)(W0:List aL)(dL:Int):St:=⟨[(0,D.sl (aC.map aK.c)),(3,D.acc 0),(4,D.int .i64 dL)],[Ob.row .uq 63 4 W0]⟩
theorem GL(hΓ:Γ.nt=21){aC:aj}{r:aj}{k1:aj->Option aj}(di:∀(cH:aj),k1 cH=some r->Ax Γ N f89 (.q [[some (63,4)]] (D.fr 63 4 (r.map aK.c))) [1,1,1] ⟨[(3,D.acc 0)],[Ob.row .uq 63 4 (cH.map aK.c)]⟩)(hm1:aC.length<=maxLen):∀(rest:aj) (i1:Nat) (bP:aj),aC.drop i1=rest->nK aC k1 rest i1 bP=some r->Ar Γ N f89 (.q [[some (63,4)]] (D.fr 63 4 (r.map aK.c))) [1,1,0,1,0] (rest.length+1) (zq aC (bP.map aK.c) (i1:Int)):=by
 intro rest
 induction rest with
 |nil=>
  intro i1 bP az h;rw[nK]at h;refine aQ fun N1 cY cI=>?_
  exact((aY.ge aK.c az).a [.hl 0 [3] [0]]).ex hΓ cY (di bP h)
 |cons bU cQ ih1=>
  intro i1 bP az h;rw[nK]at h;refine aQ fun N1 cY cI=>?_
  obtain⟨oX,h28,h⟩:=aB h;obtain⟨h29,h⟩:=bR h;exact(((((aY.lt aK.c az).l (bJ aK.c 4 (dc az) rfl)).g (HV h28)).w (bf h29)).a [.cn [0,3,4] [4]]).cs hΓ cI (zq aC ((bP.map aK.c)++([[D.str oX.name,D.int .i64 oX.prio,D.sl (oX.conds.map aO.c),D.sl (oX.cK.map Action.c)]])) (IntKind.i64.wrap ((i1:Int)+1))) (by first| (simp only[iS az hm1,mA]<;>rfl)| (simp only[iS az hm1,mA,aD.c,aX.c,aO.c,Action.c,aK.c,aU.c,dW.c,aZ.c,Node.c,aH.c,dh.c]<;>rfl)) (ih1 (i1+1) (bP++([oX])) (dn az) h)
theorem Ec{aC:aj}{r:aj}(h:pu aC=some r):Good prog 89 [D.sl (aC.map aK.c)] (D.fr 63 4 (r.map aK.c)):=by
 refine gd func89 [[some (63,4)]] 21 fun hr Γ hΓ=>?_
 rw[pu]at h;refine(aY.a [.cn [0,3,4] [0]]).lp hΓ (GL hΓ (fun cH h=>?_) (by have:=(gq.sl (hr _ (aE (i:=0) rfl))).1;simpa using this) aC 0 ([]:aj) rfl h);have h:=aN h;subst h;exact aY.ret hΓ
def nO(aC:aT)(aa:Bytes)(k1:Option aT):aT->Nat->Option aT
 | [],i1=>(k1)
 |bU::cQ,i1=>(bif (bU.var:Bytes)==aa then(some aC)else(nO aC aa k1 cQ (i1+1)))
def ot(aC:aT)(aa:Bytes):Option aT:=((ga aa).bind fun y1=>(bif !(y1)then(some aC)else(nO aC aa ((jH (IntKind.i64.wrap (((aC.map aX.c).length:Int)+1))).bind fun U2=>(bif decide (([63]:Bytes).length+(U2:Bytes).length<=maxLen)then(bif room ((aC.map aX.c).length+([[D.str aa,D.str (([63])++U2)]]).length) 32 then(some (aC++([(⟨aa,([63])++U2⟩:aX)])))else none)else none)) aC 0)))
def KH(aC:aT)(aa:Bytes)(dL:Int):St:=⟨[(0,D.acc 0),(1,D.str aa),(5,D.int .i64 dL)],[Ob.row .uq 113 2 (aC.map aX.c)]⟩
theorem Iv(hΓ:Γ.nt=34){aC:aT}{aa:Bytes}{r:aT}{k1:Option aT}(di:k1=some r->Ax Γ N f85 (.q [[some (113,2)]] (D.fr 113 2 (r.map aX.c))) [1,1,1] ⟨[(0,D.acc 0),(1,D.str aa)],[Ob.row .uq 113 2 (aC.map aX.c)]⟩)(hm1:aC.length<=maxLen):∀(rest:aT) (i1:Nat),aC.drop i1=rest->nO aC aa k1 rest i1=some r->Ar Γ N f85 (.q [[some (113,2)]] (D.fr 113 2 (r.map aX.c))) [1,1,0,1,0] (rest.length+1) (KH aC aa (i1:Int)):=by
 intro rest
 induction rest with
 |nil=>
  intro i1 az h;rw[nO]at h;refine aQ fun N1 cY cI=>?_
  exact((aY.ge aX.c az).a [.hl 0 [0,1] [0]]).ex hΓ cY (di h)
 |cons bU cQ ih1=>
  intro i1 az h;rw[nO]at h;refine aQ fun N1 cY cI=>?_
  have nP:=(((aY.lt aX.c az).i (nU aX.c 2 (dc az))).o 2 1 .uq (cR aX.c (dc az)))
  obtain⟨h17,h⟩|⟨h17,h⟩:=aM h
  ·have h:=aN h;subst h;exact(nP.b h17).ret hΓ
  ·exact((nP.b h17).a [.cn [0,1,5] [0]]).ct hΓ cI (iS az hm1) (ih1 (i1+1) (dn az) h)
theorem s8{aC:aT}{aa:Bytes}{r:aT}(h:ot aC aa=some r):GY prog 85 [D.acc 0,D.str aa] 113 2 (aC.map aX.c) (r.map aX.c):=by
 refine GY.of (c:=wE f85) func85 rfl (by decide) (by simp[f85]) (Be (c:=aX.c) (fun _=>rfl) r) ?_;intro CX Γ hΓ;have hΓ:Γ.nt=34:=hΓ;rw[ot]at h;refine(show AW prog Γ (wE f85) (KQ prog Γ (fun _ _=>False) ((Kd.q [[some (113,2)]] (D.fr 113 2 (r.map aX.c))).qq prog f85) []) _ from ?_);obtain⟨y1,h2,h⟩:=aB h;obtain⟨h3,h⟩|⟨h3,h⟩:=aM h
 ·have h:=aN h;subst h;exact((aY.g (fN h2)).b h3).ret hΓ
 ·refine(((aY.g (fN h2)).b h3).a [.cn [0,1,5] [0]]).lp hΓ (Iv hΓ (fun h=>?_) (by simpa using CX) aC 0 rfl h);obtain⟨U2,h19,h⟩:=aB h;obtain⟨h20,h⟩:=bR h;obtain⟨h21,h⟩:=bR h;cases h;exact(((aY.g (me h19)).w (bn h20)).w (bf h21)).rts hΓ (D.fr 113 2 ((aC.map aX.c)++([[D.str aa,D.str (([63])++U2)]]))) (by first|rfl| (simp only[mA]<;>rfl))
def ij(aC:aK)(i1:Nat)(bU:aO)(k2:aT->Option aT):aG->Nat->aT->Option aT
 | [],i2,jy=>(k2 jy)
 |lq::tR,i2,jy=>((ot jy lq).bind fun B6=>(ij aC i1 bU k2 tR (i2+1) B6))
def ig(aC:aK)(k1:aT->Option aT):ai->Nat->aT->Option aT
 | [],i1,bV=>(k1 bV)
 |bU::cQ,i1,bV=>(bif decide (bU.pat.args.length<=maxLen)then(ij aC i1 bU (fun(wS:aT)=>((ot wS bU.left).bind fun xO=>((ot xO bU.right).bind fun Yt=>(ig aC k1 cQ (i1+1) Yt)))) bU.pat.args 0 bV)else none)
def qO(aC:aK):Option aT:=(ig aC (fun(cH:aT)=>(some cH)) aC.conds 0 ([]:aT))
def EV(aC:aK)(W0:List aL)(dL:Int):St:=⟨[(1,D.ptr 0 0),(3,D.acc 1),(4,D.int .i64 dL)],[Ob.box (aK.c aC),Ob.row .uq 113 2 W0]⟩
def EW(aC:aK)(i1:Nat)(W0:List aL)(dL:Int):St:=⟨[(1,D.ptr 0 0),(3,D.acc 1),(4,D.int .i64 (i1:Int)),(5,D.int .i64 dL)],[Ob.box (aK.c aC),Ob.row .uq 113 2 W0]⟩
theorem DT(hΓ:Γ.nt=55){aC:aK}{i1:Nat}{bU:aO}{r:aT}{k2:aT->Option aT}(AJ:∀(wS:aT),k2 wS=some r->Ax Γ N f37 (.q [[some (113,2)]] (D.fr 113 2 (r.map aX.c))) [1,1,0,1,0,0,1,0,0,1] ⟨[(1,D.ptr 0 0),(3,D.acc 1),(4,D.int .i64 (i1:Int))],[Ob.box (aK.c aC),Ob.row .uq 113 2 (wS.map aX.c)]⟩)(hx1:(aC.conds)[i1]?=some bU)(hm2:bU.pat.args.length<=maxLen):∀(rest:aG) (i2:Nat) (jy:aT),bU.pat.args.drop i2=rest->ij aC i1 bU k2 rest i2 jy=some r->Ar Γ N f37 (.q [[some (113,2)]] (D.fr 113 2 (r.map aX.c))) [1,1,0,1,0,0,1,0,0,0,1,0] (rest.length+1) (EW aC i1 (jy.map aX.c) (i2:Int)):=by
 intro rest
 induction rest with
 |nil=>
  intro i2 jy hd2 h;rw[ij]at h;refine aQ fun N2 ue sB=>?_
  exact(((aY.l (bJ aO.c 5 hx1 rfl)).ge tx hd2).a [.hl 5 [1,3,4] [0,1]]).ex hΓ ue (AJ jy h)
 |cons lq tR ih2=>
  intro i2 jy hd2 h;rw[ij]at h;refine aQ fun N2 ue sB=>?_
  obtain⟨B6,h207,h⟩:=aB h;exact(((((((aY.l (bJ aO.c 5 hx1 rfl)).lt tx hd2).l (bJ aO.c 5 hx1 rfl)).l (bJ tx 1 (dc hd2) rfl)).w (show(jy.map aX.c).flatten.all D.flat=true from by simpa only[bA,bB,bZ]using Be (c:=aX.c) (fun _=>rfl) jy)).w (show GY prog 85 [D.acc 0,D.str lq] 113 2 (jy.map aX.c) (B6.map aX.c)from by simpa only[bA,bB,bZ]using s8 h207)).a [.ov 1 (B6.map aX.c),.cn [1,3,4,5] [0,2]]).ct hΓ sB (iS hd2 hm2) (ih2 (i2+1) B6 (dn hd2) h)
theorem DS(hΓ:Γ.nt=55){aC:aK}{r:aT}{k1:aT->Option aT}(di:∀(cH:aT),k1 cH=some r->Ax Γ N f37 (.q [[some (113,2)]] (D.fr 113 2 (r.map aX.c))) [1,1,1] ⟨[(3,D.acc 0)],[Ob.row .uq 113 2 (cH.map aX.c)]⟩)(hm1:aC.conds.length<=maxLen):∀(rest:ai) (i1:Nat) (bV:aT),aC.conds.drop i1=rest->ig aC k1 rest i1 bV=some r->Ar Γ N f37 (.q [[some (113,2)]] (D.fr 113 2 (r.map aX.c))) [1,1,0,1,0] (rest.length+1) (EV aC (bV.map aX.c) (i1:Int)):=by
 intro rest
 induction rest with
 |nil=>
  intro i1 bV az h;rw[ig]at h;refine aQ fun N1 cY cI=>?_
  exact((aY.ge aO.c az).a [.hl 0 [3] [1]]).ex hΓ cY (di bV h)
 |cons bU cQ ih1=>
  intro i1 bV az h;rw[ig]at h;refine aQ fun N1 cY cI=>?_
  obtain⟨h212,h⟩:=bR h;refine((aY.lt aO.c az).a [.cn [1,3,4,5] [0,1]]).lp hΓ (DT hΓ (fun wS h=>?_) ((drop_cons az).1) (bn h212) bU.pat.args 0 bV rfl h);obtain⟨xO,h209,h⟩:=aB h;obtain⟨Yt,h211,h⟩:=aB h;exact((((((((aY.l (bJ aO.c 5 (dc az) rfl)).w (show(wS.map aX.c).flatten.all D.flat=true from by simpa only[bA,bB,bZ]using Be (c:=aX.c) (fun _=>rfl) wS)).w (show GY prog 85 [D.acc 0,D.str bU.left] 113 2 (wS.map aX.c) (xO.map aX.c)from by simpa only[bA,bB,bZ]using s8 h209)).a [.ov 1 (xO.map aX.c)]).l (bJ aO.c 5 (dc az) rfl)).w (show(xO.map aX.c).flatten.all D.flat=true from by simpa only[bA,bB,bZ]using Be (c:=aX.c) (fun _=>rfl) xO)).w (show GY prog 85 [D.acc 0,D.str bU.right] 113 2 (xO.map aX.c) (Yt.map aX.c)from by simpa only[bA,bB,bZ]using s8 h211)).a [.ov 2 (Yt.map aX.c),.cn [1,3,4] [0,3]]).ct hΓ cI (iS az hm1) (ih1 (i1+1) Yt (dn az) h)
theorem CP{aC:aK}{r:aT}(h:qO aC=some r):Good prog 37 [D.agg (aK.c aC)] (D.fr 113 2 (r.map aX.c)):=by
 refine gd func37 [[some (113,2)]] 55 fun hr Γ hΓ=>?_
 rw[qO]at h;refine(aY.a [.cn [1,3,4] [0,1]]).lp hΓ (DS hΓ (fun cH h=>?_) (by have:=(gq.sl (gq.agg (hr _ (aE (i:=0) rfl)) (.sl (aC.conds.map aO.c)) (by simp))).1;simpa using this) aC.conds 0 ([]:aT) rfl h);have h:=aN h;subst h;exact aY.ret hΓ
def kn(aC:aK)(y1:aT)(k1:ai->Option ai):ai->Nat->ai->Option ai
 | [],i1,bV=>(k1 bV)
 |bU::cQ,i1,bV=>((jh bU y1).bind fun FF=>(bif room ((bV.map aO.c).length+([[D.int .i64 FF.kind,D.str FF.pat.rel,D.sl (FF.pat.args.map tx),D.str FF.left,D.str FF.right]]).length) 80 then(kn aC y1 k1 cQ (i1+1) (bV++([FF])))else none))
def qN(aC:aK):Option ai:=((qO aC).bind fun y1=>(kn aC y1 (fun(cH:ai)=>(some cH)) aC.conds 0 ([]:ai)))
def xm(aC:aK)(y1:aT)(W0:List aL)(dL:Int):St:=⟨[(1,D.ptr 0 0),(3,D.acc 1),(4,D.acc 2),(5,D.int .i64 dL)],[Ob.box (aK.c aC),Ob.row .uq 71 5 W0,Ob.row .uq 113 2 (y1.map aX.c)]⟩
theorem DR(hΓ:Γ.nt=27){aC:aK}{y1:aT}{r:ai}{k1:ai->Option ai}(di:∀(cH:ai),k1 cH=some r->Ax Γ N f90 (.q [[some (71,5)]] (D.fr 71 5 (r.map aO.c))) [1,1,1,1] ⟨[(3,D.acc 0)],[Ob.row .uq 71 5 (cH.map aO.c)]⟩)(hm1:aC.conds.length<=maxLen):∀(rest:ai) (i1:Nat) (bV:ai),aC.conds.drop i1=rest->kn aC y1 k1 rest i1 bV=some r->Ar Γ N f90 (.q [[some (71,5)]] (D.fr 71 5 (r.map aO.c))) [1,1,1,0,1,0] (rest.length+1) (xm aC y1 (bV.map aO.c) (i1:Int)):=by
 intro rest
 induction rest with
 |nil=>
  intro i1 bV az h;rw[kn]at h;refine aQ fun N1 cY cI=>?_
  exact((aY.ge aO.c az).a [.hl 0 [3] [1]]).ex hΓ cY (di bV h)
 |cons bU cQ ih1=>
  intro i1 bV az h;rw[kn]at h;refine aQ fun N1 cY cI=>?_
  obtain⟨FF,h30,h⟩:=aB h;obtain⟨h31,h⟩:=bR h;exact(((((aY.lt aO.c az).l (bJ aO.c 5 (dc az) rfl)).g (jK h30)).w (bf h31)).a [.cn [1,3,4,5] [0,5,2]]).cs hΓ cI (xm aC y1 ((bV.map aO.c)++([[D.int .i64 FF.kind,D.str FF.pat.rel,D.sl (FF.pat.args.map tx),D.str FF.left,D.str FF.right]])) (IntKind.i64.wrap ((i1:Int)+1))) (by first| (simp only[iS az hm1,mA]<;>rfl)| (simp only[iS az hm1,mA,aD.c,aX.c,aO.c,Action.c,aK.c,aU.c,dW.c,aZ.c,Node.c,aH.c,dh.c]<;>rfl)) (ih1 (i1+1) (bV++([FF])) (dn az) h)
theorem CO{aC:aK}{r:ai}(h:qN aC=some r):Good prog 90 [D.agg (aK.c aC)] (D.fr 71 5 (r.map aO.c)):=by
 refine gd func90 [[some (71,5)]] 27 fun hr Γ hΓ=>?_
 rw[qN]at h;obtain⟨y1,h2,h⟩:=aB h;refine((aY.g (CP h2)).a [.cn [1,3,4,5] [0,1,2]]).lp hΓ (DR hΓ (fun cH h=>?_) (by have:=(gq.sl (gq.agg (hr _ (aE (i:=0) rfl)) (.sl (aC.conds.map aO.c)) (by simp))).1;simpa using this) aC.conds 0 ([]:ai) rfl h);have h:=aN h;subst h;exact aY.ret hΓ
def js(aC:aG)(aa:aG)(k1:Option Bool):aG->Nat->Option Bool
 | [],i1=>(k1)
 |bU::cQ,i1=>((iP aa (i1:Int)).bind fun x22=>(bif !((bU:Bytes)==x22)then(some false)else(js aC aa k1 cQ (i1+1))))
def nG(aC:aG)(aa:aG):Option Bool:=(bif (((aC.map tx).length:Int):Int) != ((aa.map tx).length:Int)then(some false)else(js aC aa (some true) aC 0))
def DV(aC:aG)(aa:aG)(dL:Int):St:=⟨[(0,D.sl (aC.map tx)),(1,D.sl (aa.map tx)),(5,D.int .i64 dL)],[]⟩
theorem CQ(hΓ:Γ.nt=26){aC:aG}{aa:aG}{r:Bool}{k1:Option Bool}(di:k1=some r->Ax Γ N f156 (.q [[none]] (D.bool r)) [1,1,1] ⟨[],[]⟩)(hm1:aC.length<=maxLen):∀(rest:aG) (i1:Nat),aC.drop i1=rest->js aC aa k1 rest i1=some r->Ar Γ N f156 (.q [[none]] (D.bool r)) [1,1,0,1,0] (rest.length+1) (DV aC aa (i1:Int)):=by
 intro rest
 induction rest with
 |nil=>
  intro i1 az h;rw[js]at h;refine aQ fun N1 cY cI=>?_
  exact((aY.ge tx az).a [.hl 0 [] []]).ex hΓ cY (di h)
 |cons bU cQ ih1=>
  intro i1 az h;rw[js]at h;refine aQ fun N1 cY cI=>?_
  obtain⟨x22,h23,h⟩:=aB h;have fk:=((((aY.lt tx az).a [.n 8]).l (bJ tx 1 (dc az) rfl)).l (fO tx 1 h23 rfl))
  obtain⟨h24,h⟩|⟨h24,h⟩:=aM h
  ·have h:=aN h;subst h;exact(fk.b h24).ret hΓ
  ·exact((fk.b h24).a [.cn [0,1,5] []]).ct hΓ cI (iS az hm1) (ih1 (i1+1) (dn az) h)
theorem vc{aC:aG}{aa:aG}{r:Bool}(h:nG aC aa=some r):Good prog 156 [D.sl (aC.map tx),D.sl (aa.map tx)] (D.bool r):=by
 refine gd func156 [[none]] 26 fun hr Γ hΓ=>?_
 rw[nG]at h;obtain⟨h1,h⟩|⟨h1,h⟩:=aM h
 ·have h:=aN h;subst h;exact(aY.b h1).ret hΓ
 ·refine((aY.b h1).a [.cn [0,1,5] []]).lp hΓ (CQ hΓ (fun h=>?_) (by have:=(gq.sl (hr _ (aE (i:=0) rfl))).1;simpa using this) aC 0 rfl h);have h:=aN h;subst h;exact aY.ret hΓ
def ir(aC:aD)(aa:aD):Option Bool:=(bif (aC.rel:Bytes)==aa.rel then((nG aC.args aa.args).bind fun y2=>(some y2))else(some false))
theorem rQ{aC:aD}{aa:aD}{r:Bool}(h:ir aC aa=some r):Good prog 93 [D.agg (aD.c aC),D.agg (aD.c aa)] (D.bool r):=by
 refine gd func93 [[none]] 17 fun hr Γ hΓ=>?_
 rw[ir]at h;obtain⟨h1,h⟩|⟨h1,h⟩:=aM h
 ·obtain⟨y2,h3,h⟩:=aB h;have h:=aN h;subst h;exact(((aY.r 5 h1).g (vc h3)).b h1).ret hΓ
 ·have h:=aN h;subst h;exact(aY.r 6 h1).ret hΓ
def oK(aC:aO)(aa:aO):Option Bool:=(bif (aC.kind:Int)==aa.kind then((ir aC.pat aa.pat).bind fun y2=>(bif y2 then(bif (aC.left:Bytes)==aa.left then(some ((aC.right:Bytes)==aa.right))else(some false))else(some false)))else(some false))
theorem xp{aC:aO}{aa:aO}{r:Bool}(h:oK aC aa=some r):Good prog 94 [D.agg (aO.c aC),D.agg (aO.c aa)] (D.bool r):=by
 refine gd func94 [[none]] 31 fun hr Γ hΓ=>?_
 rw[oK]at h;obtain⟨h1,h⟩|⟨h1,h⟩:=aM h
 ·obtain⟨y2,h3,h⟩:=aB h;have nP:=(((aY.r 5 h1).g (rQ h3)).b h1)
  obtain⟨h4,h⟩|⟨h4,h⟩:=aM h
  ·have fk:=(nP.r 6 h4)
   obtain⟨h5,h⟩|⟨h5,h⟩:=aM h
   ·cases h;exact(fk.r 6 h5).ret hΓ
   ·have h:=aN h;subst h;exact(fk.r 6 h5).ret hΓ
  ·have h:=aN h;subst h;exact((nP.r 6 h4).F 6).ret hΓ
 ·have h:=aN h;subst h;exact((aY.r 6 h1).F 12).ret hΓ
def lT(aC:aD)(k1:aT->Option aD):aG->Nat->aT->Option aD
 | [],i1,iO=>(k1 iO)
 |bU::cQ,i1,iO=>((ot iO bU).bind fun pW=>(lT aC k1 cQ (i1+1) pW))
def rR(aC:aD):Option aD:=(lT aC (fun(nQ:aT)=>((jh (⟨0,aC,[],[]⟩:aO) nQ).bind fun Gp=>(some Gp.pat))) aC.args 0 ([]:aT))
def IX(aC:aD)(W0:List aL)(dL:Int):St:=⟨[(1,D.ptr 0 0),(2,D.ptr 1 0),(3,D.acc 2),(4,D.int .i64 dL)],[Ob.box (aD.c aC),Ob.box [D.str ([]),D.nil],Ob.row .uq 113 2 W0]⟩
theorem HP(hΓ:Γ.nt=25){aC:aD}{r:aD}{k1:aT->Option aD}(di:∀(nQ:aT),k1 nQ=some r->Ax Γ N f153 (.q [[none,some (9,1)]] (D.agg [D.str r.rel,D.fr 9 1 (r.args.map tx)])) [1,1,1] ⟨[(1,D.ptr 0 0),(2,D.ptr 1 0),(3,D.acc 2)],[Ob.box (aD.c aC),Ob.box [D.str ([]),D.nil],Ob.row .uq 113 2 (nQ.map aX.c)]⟩)(hm1:aC.args.length<=maxLen):∀(rest:aG) (i1:Nat) (iO:aT),aC.args.drop i1=rest->lT aC k1 rest i1 iO=some r->Ar Γ N f153 (.q [[none,some (9,1)]] (D.agg [D.str r.rel,D.fr 9 1 (r.args.map tx)])) [1,1,0,1,0] (rest.length+1) (IX aC (iO.map aX.c) (i1:Int)):=by
 intro rest
 induction rest with
 |nil=>
  intro i1 iO az h;rw[lT]at h;refine aQ fun N1 cY cI=>?_
  exact((aY.ge tx az).a [.hl 0 [1,2,3] [0,1,2]]).ex hΓ cY (di iO h)
 |cons bU cQ ih1=>
  intro i1 iO az h;rw[lT]at h;refine aQ fun N1 cY cI=>?_
  obtain⟨pW,h23,h⟩:=aB h;exact(((((aY.lt tx az).l (bJ tx 1 (dc az) rfl)).w (show(iO.map aX.c).flatten.all D.flat=true from by simpa only[bA,bB,bZ]using Be (c:=aX.c) (fun _=>rfl) iO)).w (show GY prog 85 [D.acc 0,D.str bU] 113 2 (iO.map aX.c) (pW.map aX.c)from by simpa only[bA,bB,bZ]using s8 h23)).a [.ov 2 (pW.map aX.c),.cn [1,2,3,4] [0,1,3]]).ct hΓ cI (iS az hm1) (ih1 (i1+1) pW (dn az) h)
theorem ym{aC:aD}{r:aD}(h:rR aC=some r):Good prog 153 [D.agg (aD.c aC)] (D.agg [D.str r.rel,D.fr 9 1 (r.args.map tx)]):=by
 refine gd func153 [[none,some (9,1)]] 25 fun hr Γ hΓ=>?_
 rw[rR]at h;refine(aY.a [.cn [1,2,3,4] [0,1,2]]).lp hΓ (HP hΓ (fun nQ h=>?_) (by have:=(gq.sl (gq.agg (hr _ (aE (i:=0) rfl)) (.sl (aC.args.map tx)) (by simp))).1;simpa using this) aC.args 0 ([]:aT) rfl h);obtain⟨Gp,h25,h⟩:=aB h;cases h;exact((aY.a [.d (D.agg [D.int .i64 Gp.kind,D.str Gp.pat.rel,D.fr 9 1 (Gp.pat.args.map tx),D.str Gp.left,D.str Gp.right])]).w (show Good prog 151 [D.agg [D.int .i64 0,D.str aC.rel,D.sl (aC.args.map tx),D.str ([]),D.str ([])],D.sl (nQ.map aX.c)] (D.agg [D.int .i64 Gp.kind,D.str Gp.pat.rel,D.fr 9 1 (Gp.pat.args.map tx),D.str Gp.left,D.str Gp.right])from by first| (simpa only[bA,bB,bZ,bX,bg]using jK h25)|exact jK h25| (have t:=jK h25;simp only[bA,bX,bg,aO.c]at t;exact t))).ret hΓ
def bw(x:aH):aL:=[D.fr 63 4 (x.rules.map aK.c),D.fr 3 1 (x.ends.map iM),D.fr 83 3 (x.au.map aZ.c),D.fr 74 8 (x.nodes.map Node.c),D.fr 43 2 (x.facts.map aD.c),D.int .i64 x.bp]
def lY(aC:aH)(aa:aD)(k1:Option (aH×Int)):bK->Nat->Option (aH×Int)
 | [],i1=>(k1)
 |bU::cQ,i1=>((ir bU.shape aa).bind fun pW=>(bif pW then(some (aC,(i1:Int)))else(lY aC aa k1 cQ (i1+1))))
def rT(aC:aH)(aa:aD):Option (aH×Int):=(bif decide (aC.au.length<=maxLen)then(lY aC aa (bif room ((aC.au.map aZ.c).length+([[D.str aa.rel,D.sl (aa.args.map tx),D.sl ([])]]).length) 64 then(some ((⟨aC.rules,aC.ends,aC.au++([(⟨aa,[]⟩:aZ)]),aC.nodes,aC.facts,aC.bp⟩:aH),IntKind.i64.wrap ((((aC.au.map aZ.c)++([[D.str aa.rel,D.sl (aa.args.map tx),D.sl ([])]])).length:Int)-1)))else none) aC.au 0)else none)
def Iq(iC:Value)(aC:aH)(aa:aD)(dL:Int):St:=⟨[(0,D.ptr 0 0),(3,D.ptr 1 0),(5,D.int .i64 dL)],[Ob.AA [D.acc 2,D.acc 3,D.acc 4,D.acc 5,D.acc 6,D.int .i64 aC.bp] iC,Ob.box [D.str aa.rel,D.acc 7],Ob.row .uq 63 4 (aC.rules.map aK.c),Ob.row .uq 3 1 (aC.ends.map iM),Ob.row .uq 83 3 (aC.au.map aZ.c),Ob.row .uq 74 8 (aC.nodes.map Node.c),Ob.row .uq 43 2 (aC.facts.map aD.c),Ob.row .uq 9 1 (aa.args.map tx)]⟩
theorem He(hΓ:Γ.nt=43){iC:Value}{aC:aH}{aa:aD}{r:aH×Int}{k1:Option (aH×Int)}(di:k1=some r->Ax Γ N f152 (.p [[some (63,4),some (3,1),some (83,3),some (74,8),some (43,2),none],[none]] iC (bw r.1) (D.int .i64 r.2)) [1,1] ⟨[(0,D.ptr 0 0),(3,D.ptr 1 0)],[Ob.AA [D.acc 2,D.acc 3,D.acc 4,D.acc 5,D.acc 6,D.int .i64 aC.bp] iC,Ob.box [D.str aa.rel,D.acc 7],Ob.row .uq 63 4 (aC.rules.map aK.c),Ob.row .uq 3 1 (aC.ends.map iM),Ob.row .uq 83 3 (aC.au.map aZ.c),Ob.row .uq 74 8 (aC.nodes.map Node.c),Ob.row .uq 43 2 (aC.facts.map aD.c),Ob.row .uq 9 1 (aa.args.map tx)]⟩)(hm1:aC.au.length<=maxLen):∀(rest:bK) (i1:Nat),aC.au.drop i1=rest->lY aC aa k1 rest i1=some r->Ar Γ N f152 (.p [[some (63,4),some (3,1),some (83,3),some (74,8),some (43,2),none],[none]] iC (bw r.1) (D.int .i64 r.2)) [1,0,1,0] (rest.length+1) (Iq iC aC aa (i1:Int)):=by
 intro rest
 induction rest with
 |nil=>
  intro i1 az h;rw[lY]at h;refine aQ fun N1 cY cI=>?_
  exact((aY.ge aZ.c az).a [.hl 0 [0,3] [0,1,2,3,4,5,6,7]]).ex hΓ cY (di h)
 |cons bU cQ ih1=>
  intro i1 az h;rw[lY]at h;refine aQ fun N1 cY cI=>?_
  obtain⟨pW,h23,h⟩:=aB h;have fk:=(((((aY.lt aZ.c az).a [.n 9]).i (nU aZ.c 3 (dc az))).o 3 2 .uq (cR aZ.c (dc az))).g (rQ h23))
  obtain⟨h24,h⟩|⟨h24,h⟩:=aM h
  ·cases h;exact(fk.b h24).ret hΓ
  ·exact((fk.b h24).a [.cn [0,3,5] [0,1,2,3,4,5,6,7]]).ct hΓ cI (iS az hm1) (ih1 (i1+1) (dn az) h)
theorem yq{aC:aH}{aa:aD}{r:aH×Int}(h:rT aC aa=some r):hY prog 152 (bw aC) (bw r.1) [D.agg [D.str aa.rel,D.fr 9 1 (aa.args.map tx)]] (D.int .i64 r.2):=by
 refine Iz func152 [[some (63,4),some (3,1),some (83,3),some (74,8),some (43,2),none],[none]] 43 [D.acc 1,D.acc 2,D.acc 3,D.acc 4,D.acc 5,D.int .i64 aC.bp] [D.agg [D.str aa.rel,D.acc 6]] [Ob.row .uq 63 4 (aC.rules.map aK.c),Ob.row .uq 3 1 (aC.ends.map iM),Ob.row .uq 83 3 (aC.au.map aZ.c),Ob.row .uq 74 8 (aC.nodes.map Node.c),Ob.row .uq 43 2 (aC.facts.map aD.c),Ob.row .uq 9 1 (aa.args.map tx)] fun hr iC Γ hΓ=>?_
 rw[rT]at h;obtain⟨h27,h⟩:=bR h;refine(aY.a [.cn [0,3,5] [0,7,1,2,3,4,5,6]]).lp hΓ (He hΓ (fun h=>?_) (bn h27) aC.au 0 rfl h);obtain⟨h26,h⟩:=bR h;cases h;exact((aY.w (bf h26)).a [.n2 [0,1,2,3,4,5,6,7,8,9,10,11] [0,1,2,3,4,5,6,7,8,9,10,11] 7 9 [0,1,2,3,4] [4,7,8]]).rts hΓ (D.gL [D.int .i64 (IntKind.i64.wrap ((((aC.au.map aZ.c)++([[D.str aa.rel,D.sl (aa.args.map tx),D.sl ([])]])).length:Int)-1)),D.agg [D.fr 63 4 (aC.rules.map aK.c),D.fr 3 1 (aC.ends.map iM),D.fr 83 3 ((aC.au.map aZ.c)++([[D.str aa.rel,D.sl (aa.args.map tx),D.sl ([])]])),D.fr 74 8 (aC.nodes.map Node.c),D.fr 43 2 (aC.facts.map aD.c),D.int .i64 aC.bp],D.val iC]) (by first|rfl| (simp only[mA]<;>rfl)| (simp only[bw,mA]<;>rfl))
def gK(aC:aH)(aa:Int)(cS:aO)(k1:Option (aH×Int)):Nat->Int->Option (aH×Int)
 |0,_=>none
 |n1+1,oh=>(bif decide ((oh:Int)<((aC.nodes.map Node.c).length:Int))then((iP aC.nodes oh).bind fun x16=>(bif (x16.parent:Int)==aa then((oK x16.cond cS).bind fun Aj=>(bif Aj then(some (aC,oh))else(gK aC aa cS k1 n1 (IntKind.i64.wrap (oh+1)))))else(gK aC aa cS k1 n1 (IntKind.i64.wrap (oh+1)))))else(k1))
def tq(aC:aH)(aa:Int)(cS:aO):Option (aH×Int):=(gK aC aa cS ((ju cS).bind fun pW=>(bif (cS.kind:Int)==1 then((rR cS.pat).bind fun vE=>((rT aC vE).bind fun oX=>(bif room ((oX.1.nodes.map Node.c).length+([[D.int .i64 aa,D.int .i64 pW.kind,D.str pW.pat.rel,D.sl (pW.pat.args.map tx),D.str pW.left,D.str pW.right,D.int .i64 oX.2,D.sl ([])]]).length) 120 then(some ((⟨oX.1.rules,oX.1.ends,oX.1.au,oX.1.nodes++([(⟨aa,pW,oX.2,[]⟩:Node)]),oX.1.facts,oX.1.bp⟩:aH),IntKind.i64.wrap ((((oX.1.nodes.map Node.c)++([[D.int .i64 aa,D.int .i64 pW.kind,D.str pW.pat.rel,D.sl (pW.pat.args.map tx),D.str pW.left,D.str pW.right,D.int .i64 oX.2,D.sl ([])]])).length:Int)-1)))else none)))else(bif (cS.kind:Int)==2 then((rR cS.pat).bind fun Gq=>((rT aC Gq).bind fun Dm=>(bif room ((Dm.1.nodes.map Node.c).length+([[D.int .i64 aa,D.int .i64 pW.kind,D.str pW.pat.rel,D.sl (pW.pat.args.map tx),D.str pW.left,D.str pW.right,D.int .i64 Dm.2,D.sl ([])]]).length) 120 then(some ((⟨Dm.1.rules,Dm.1.ends,Dm.1.au,Dm.1.nodes++([(⟨aa,pW,Dm.2,[]⟩:Node)]),Dm.1.facts,Dm.1.bp⟩:aH),IntKind.i64.wrap ((((Dm.1.nodes.map Node.c)++([[D.int .i64 aa,D.int .i64 pW.kind,D.str pW.pat.rel,D.sl (pW.pat.args.map tx),D.str pW.left,D.str pW.right,D.int .i64 Dm.2,D.sl ([])]])).length:Int)-1)))else none)))else(bif room ((aC.nodes.map Node.c).length+([[D.int .i64 aa,D.int .i64 pW.kind,D.str pW.pat.rel,D.sl (pW.pat.args.map tx),D.str pW.left,D.str pW.right,D.int .i64 (-1),D.sl ([])]]).length) 120 then(some ((⟨aC.rules,aC.ends,aC.au,aC.nodes++([(⟨aa,pW, -1,[]⟩:Node)]),aC.facts,aC.bp⟩:aH),IntKind.i64.wrap ((((aC.nodes.map Node.c)++([[D.int .i64 aa,D.int .i64 pW.kind,D.str pW.pat.rel,D.sl (pW.pat.args.map tx),D.str pW.left,D.str pW.right,D.int .i64 (-1),D.sl ([])]])).length:Int)-1)))else none)))) fuel 1)
def Is(iC:Value)(aC:aH)(aa:Int)(cS:aO)(oh:Int):St:=⟨[(0,D.ptr 0 0),(1,D.int .i64 aa),(5,D.ptr 1 0),(7,D.int .i64 oh)],[Ob.AA [D.acc 2,D.acc 3,D.acc 4,D.acc 5,D.acc 6,D.int .i64 aC.bp] iC,Ob.box (aO.c cS),Ob.row .uq 63 4 (aC.rules.map aK.c),Ob.row .uq 3 1 (aC.ends.map iM),Ob.row .uq 83 3 (aC.au.map aZ.c),Ob.row .uq 74 8 (aC.nodes.map Node.c),Ob.row .uq 43 2 (aC.facts.map aD.c)]⟩
theorem Hf(hΓ:Γ.nt=75){iC:Value}{aC:aH}{aa:Int}{cS:aO}{r:aH×Int}{k1:Option (aH×Int)}(di:k1=some r->Ax Γ N f91 (.p [[some (63,4),some (3,1),some (83,3),some (74,8),some (43,2),none],[none]] iC (bw r.1) (D.int .i64 r.2)) [1,1] ⟨[(0,D.ptr 0 0),(1,D.int .i64 aa),(5,D.ptr 1 0)],[Ob.AA [D.acc 2,D.acc 3,D.acc 4,D.acc 5,D.acc 6,D.int .i64 aC.bp] iC,Ob.box (aO.c cS),Ob.row .uq 63 4 (aC.rules.map aK.c),Ob.row .uq 3 1 (aC.ends.map iM),Ob.row .uq 83 3 (aC.au.map aZ.c),Ob.row .uq 74 8 (aC.nodes.map Node.c),Ob.row .uq 43 2 (aC.facts.map aD.c)]⟩):∀(n1:Nat) (oh:Int),gK aC aa cS k1 n1 oh=some r->Ar Γ N f91 (.p [[some (63,4),some (3,1),some (83,3),some (74,8),some (43,2),none],[none]] iC (bw r.1) (D.int .i64 r.2)) [1,0,1,0] n1 (Is iC aC aa cS oh):=by
 intro n
 induction n with
 |zero=>intro oh h;simp[gK]at h
 |succ n1 ih1=>
  intro oh h;rw[gK]at h;refine aQ fun N1 cY cI=>?_
  obtain⟨h15,h⟩|⟨h15,h⟩:=aM h
  ·obtain⟨x16,h17,h⟩:=aB h;have je:=((((aY.b h15).a [.n 20]).i (gl Node.c 8 h17)).o 8 1 .uq (cR Node.c (eW h17)))
   obtain⟨h18,h⟩|⟨h18,h⟩:=aM h
   ·obtain⟨Aj,h20,h⟩:=aB h;have jj:=(((((((je.r 6 h18).i (gl Node.c 8 h17)).r 2 h18).o 8 6 .uq (cR Node.c (eW h17))).r 2 h18).g (xp h20)).b h18)
    obtain⟨h21,h⟩|⟨h21,h⟩:=aM h
    ·cases h;exact(jj.b h21).ret hΓ
    ·exact((jj.b h21).a [.cn [0,1,5,7] [0,1,2,3,4,5,6]]).cf hΓ cI (ih1 (IntKind.i64.wrap (oh+1)) h)
   ·exact(((je.r 11 h18).F 1).a [.cn [0,1,5,7] [0,1,2,3,4,5,6]]).cf hΓ cI (ih1 (IntKind.i64.wrap (oh+1)) h)
  ·exact((aY.b h15).a [.hl 0 [0,1,5] [0,1,2,3,4,5,6]]).ex hΓ cY (di h)
theorem GP{aC:aH}{aa:Int}{cS:aO}{r:aH×Int}(h:tq aC aa cS=some r):hY prog 91 (bw aC) (bw r.1) [D.int .i64 aa,D.agg (aO.c cS)] (D.int .i64 r.2):=by
 refine Iz func91 [[some (63,4),some (3,1),some (83,3),some (74,8),some (43,2),none],[none]] 75 [D.acc 1,D.acc 2,D.acc 3,D.acc 4,D.acc 5,D.int .i64 aC.bp] [D.int .i64 aa,D.agg [D.int .i64 cS.kind,D.str cS.pat.rel,D.sl (cS.pat.args.map tx),D.str cS.left,D.str cS.right]] [Ob.row .uq 63 4 (aC.rules.map aK.c),Ob.row .uq 3 1 (aC.ends.map iM),Ob.row .uq 83 3 (aC.au.map aZ.c),Ob.row .uq 74 8 (aC.nodes.map Node.c),Ob.row .uq 43 2 (aC.facts.map aD.c)] fun hr iC Γ hΓ=>?_
 rw[tq]at h;refine(aY.a [.cn [0,1,5,7] [0,6,1,2,3,4,5]]).lp hΓ (Hf hΓ (fun h=>?_) fuel 1 h);obtain⟨pW,h23,h⟩:=aB h;obtain⟨h24,h⟩|⟨h24,h⟩:=aM h
 ·obtain⟨vE,h26,h⟩:=aB h;obtain⟨oX,h28,h⟩:=aB h;obtain⟨h30,h⟩:=bR h;cases h;exact(((((((aY.g (s6 h23)).r 4 h24).T 1).g (ym h26)).hp [[some (63,4),some (3,1),some (83,3),some (74,8),some (43,2),none],[none,some (9,1)]] (yq h28)).w (bf h30)).a [.n2 [0,1,2,3,4,5,6,7,8,9,10] [0,1,2,3,4,5,6,7,8,9,10] 6 8 [0,1,2,3,4] [7,13,15]]).rts hΓ (D.gL [D.int .i64 (IntKind.i64.wrap ((((oX.1.nodes.map Node.c)++([[D.int .i64 aa,D.int .i64 pW.kind,D.str pW.pat.rel,D.sl (pW.pat.args.map tx),D.str pW.left,D.str pW.right,D.int .i64 oX.2,D.sl ([])]])).length:Int)-1)),D.agg [D.fr 63 4 (oX.1.rules.map aK.c),D.fr 3 1 (oX.1.ends.map iM),D.fr 83 3 (oX.1.au.map aZ.c),D.fr 74 8 ((oX.1.nodes.map Node.c)++([[D.int .i64 aa,D.int .i64 pW.kind,D.str pW.pat.rel,D.sl (pW.pat.args.map tx),D.str pW.left,D.str pW.right,D.int .i64 oX.2,D.sl ([])]])),D.fr 43 2 (oX.1.facts.map aD.c),D.int .i64 oX.1.bp],D.val iC]) (by first|rfl| (simp only[mA]<;>rfl)| (simp only[bw,mA]<;>rfl))
 ·have sX:=((aY.g (s6 h23)).r 4 h24)
  obtain⟨h31,h⟩|⟨h31,h⟩:=aM h
  ·obtain⟨Gq,h33,h⟩:=aB h;obtain⟨Dm,h35,h⟩:=aB h;obtain⟨h37,h⟩:=bR h;cases h;exact(((((sX.b h31).g (ym h33)).hp [[some (63,4),some (3,1),some (83,3),some (74,8),some (43,2),none],[none,some (9,1)]] (yq h35)).w (bf h37)).a [.n2 [0,1,2,3,4,5,6,7,8,9,10] [0,1,2,3,4,5,6,7,8,9,10] 6 8 [0,1,2,3,4] [7,13,15]]).rts hΓ (D.gL [D.int .i64 (IntKind.i64.wrap ((((Dm.1.nodes.map Node.c)++([[D.int .i64 aa,D.int .i64 pW.kind,D.str pW.pat.rel,D.sl (pW.pat.args.map tx),D.str pW.left,D.str pW.right,D.int .i64 Dm.2,D.sl ([])]])).length:Int)-1)),D.agg [D.fr 63 4 (Dm.1.rules.map aK.c),D.fr 3 1 (Dm.1.ends.map iM),D.fr 83 3 (Dm.1.au.map aZ.c),D.fr 74 8 ((Dm.1.nodes.map Node.c)++([[D.int .i64 aa,D.int .i64 pW.kind,D.str pW.pat.rel,D.sl (pW.pat.args.map tx),D.str pW.left,D.str pW.right,D.int .i64 Dm.2,D.sl ([])]])),D.fr 43 2 (Dm.1.facts.map aD.c),D.int .i64 Dm.1.bp],D.val iC]) (by first|rfl| (simp only[mA]<;>rfl)| (simp only[bw,mA]<;>rfl))
  ·obtain⟨h39,h⟩:=bR h;cases h;exact(((sX.b h31).w (bf h39)).a [.n2 [0,1,2,3,4,5,6,7,8,9,10] [0,1,2,3,4,5,6,7,8,9,10] 6 8 [0,1,2,3,4] [5,7,9]]).rts hΓ (D.gL [D.int .i64 (IntKind.i64.wrap ((((aC.nodes.map Node.c)++([[D.int .i64 aa,D.int .i64 pW.kind,D.str pW.pat.rel,D.sl (pW.pat.args.map tx),D.str pW.left,D.str pW.right,D.int .i64 (-1),D.sl ([])]])).length:Int)-1)),D.agg [D.fr 63 4 (aC.rules.map aK.c),D.fr 3 1 (aC.ends.map iM),D.fr 83 3 (aC.au.map aZ.c),D.fr 74 8 ((aC.nodes.map Node.c)++([[D.int .i64 aa,D.int .i64 pW.kind,D.str pW.pat.rel,D.sl (pW.pat.args.map tx),D.str pW.left,D.str pW.right,D.int .i64 (-1),D.sl ([])]])),D.fr 43 2 (aC.facts.map aD.c),D.int .i64 aC.bp],D.val iC]) (by first|rfl| (simp only[mA]<;>rfl)| (simp only[bw,mA]<;>rfl))
def gY(aC:aj)(i1:Nat)(Je:ai)(k2:Int->Int->aj->bC->bK->bE->aJ->Option (aH×Bool)):ai->Nat->Int->Int->aj->bC->bK->bE->aJ->Option (aH×Bool)
 | [],i2,qV,oO,B4,jz,uP,lC,B5=>(k2 qV oO B4 jz uP lC B5)
 |lq::tR,i2,qV,oO,B4,jz,uP,lC,B5=>((tq (⟨B4,jz,uP,lC,B5,oO⟩:aH) qV lq).bind fun Cg=>(gY aC i1 Je k2 tR (i2+1) Cg.2 Cg.1.bp Cg.1.rules Cg.1.ends Cg.1.au Cg.1.nodes Cg.1.facts))
def gX(aC:aj)(k1:Int->aj->bC->bK->bE->aJ->Option (aH×Bool)):aj->Nat->Int->aj->bC->bK->bE->aJ->Option (aH×Bool)
 | [],i1,gM,iO,cg,uN,jk,uO=>(k1 gM iO cg uN jk uO)
 |bU::cQ,i1,gM,iO,cg,uN,jk,uO=>((qN bU).bind fun Je=>(bif decide (Je.length<=maxLen)then(gY aC i1 Je (fun(FG:Int) (vQ:Int) (Hs:aj) (vP:bC) (Ht:bK) (pJ:bE) (Hu:aJ)=>(bif room ((vP.map iM).length+([[D.int .i64 FG]]).length) 8 then(gX aC k1 cQ (i1+1) vQ Hs (vP++([FG])) Ht pJ Hu)else none)) Je 0 0 gM iO cg uN jk uO)else none))
def jW(aC:aj):Option (aH×Bool):=((sO aC).bind fun y1=>(bif !(y1)then(some ((⟨[],[],[],[],[],0⟩:aH),false))else((pu aC).bind fun y4=>(gX aC (fun(pS:Int) (nQ:aj) (eM:bC) (F3:bK) (lg:bE) (F4:aJ)=>(some ((⟨nQ,eM,F3,lg,F4,pS⟩:aH),true))) aC 0 0 y4 ([]:bC) ([]:bK) ([(⟨-1,(⟨0,(⟨[],[]⟩:aD),[],[]⟩:aO), -1,[(⟨[],[]⟩:aU)]⟩:Node)]) ([]:aJ)))))
def rp(aC:aj)(gM:Int)(W1:List aL)(W2:List aL)(W3:List aL)(W4:List aL)(W5:List aL)(dL:Int):St:=⟨[(0,D.sl (aC.map aK.c)),(2,D.ptr 0 0),(4,D.ptr 1 0),(5,D.int .i64 dL)],[Ob.box [D.nil,D.nil,D.nil,D.nil,D.nil,D.int .i64 0],Ob.box [D.acc 2,D.acc 3,D.acc 4,D.acc 5,D.acc 6,D.int .i64 gM],Ob.row .uq 63 4 W1,Ob.row .uq 3 1 W2,Ob.row .uq 83 3 W3,Ob.row .uq 74 8 W4,Ob.row .uq 43 2 W5]⟩
def CM(aC:aj)(i1:Nat)(Je:ai)(qV:Int)(oO:Int)(W2:List aL)(W3:List aL)(W4:List aL)(W5:List aL)(W6:List aL)(dL:Int):St:=⟨[(0,D.sl (aC.map aK.c)),(2,D.ptr 0 0),(4,D.ptr 1 0),(5,D.int .i64 (i1:Int)),(6,D.int .i64 qV),(7,D.acc 2),(8,D.int .i64 dL)],[Ob.box [D.nil,D.nil,D.nil,D.nil,D.nil,D.int .i64 0],Ob.box [D.acc 3,D.acc 4,D.acc 5,D.acc 6,D.acc 7,D.int .i64 oO],Ob.row .uq 71 5 (Je.map aO.c),Ob.row .uq 63 4 W2,Ob.row .uq 3 1 W3,Ob.row .uq 83 3 W4,Ob.row .uq 74 8 W5,Ob.row .uq 43 2 W6]⟩
theorem BP(hΓ:Γ.nt=50){aC:aj}{i1:Nat}{Je:ai}{r:aH×Bool}{k2:Int->Int->aj->bC->bK->bE->aJ->Option (aH×Bool)}(AJ:∀(FG:Int) (vQ:Int) (Hs:aj) (vP:bC) (Ht:bK) (pJ:bE) (Hu:aJ),k2 FG vQ Hs vP Ht pJ Hu=some r->Ax Γ N f40 (.q [[some (63,4),some (3,1),some (83,3),some (74,8),some (43,2),none],[none]] (D.gL [D.agg [D.fr 63 4 (r.1.rules.map aK.c),D.fr 3 1 (r.1.ends.map iM),D.fr 83 3 (r.1.au.map aZ.c),D.fr 74 8 (r.1.nodes.map Node.c),D.fr 43 2 (r.1.facts.map aD.c),D.int .i64 r.1.bp],D.bool r.2])) [1,1,1,0,1,0,0,1,0,0,1,1,1] ⟨[(0,D.sl (aC.map aK.c)),(2,D.ptr 0 0),(4,D.ptr 1 0),(5,D.int .i64 (i1:Int)),(6,D.int .i64 FG)],[Ob.box [D.nil,D.nil,D.nil,D.nil,D.nil,D.int .i64 0],Ob.box [D.acc 2,D.acc 3,D.acc 4,D.acc 5,D.acc 6,D.int .i64 vQ],Ob.row .uq 63 4 (Hs.map aK.c),Ob.row .uq 3 1 (vP.map iM),Ob.row .uq 83 3 (Ht.map aZ.c),Ob.row .uq 74 8 (pJ.map Node.c),Ob.row .uq 43 2 (Hu.map aD.c)]⟩)(hm2:Je.length<=maxLen):∀(rest:ai) (i2:Nat) (qV:Int) (oO:Int) (B4:aj) (jz:bC) (uP:bK) (lC:bE) (B5:aJ),Je.drop i2=rest->gY aC i1 Je k2 rest i2 qV oO B4 jz uP lC B5=some r->Ar Γ N f40 (.q [[some (63,4),some (3,1),some (83,3),some (74,8),some (43,2),none],[none]] (D.gL [D.agg [D.fr 63 4 (r.1.rules.map aK.c),D.fr 3 1 (r.1.ends.map iM),D.fr 83 3 (r.1.au.map aZ.c),D.fr 74 8 (r.1.nodes.map Node.c),D.fr 43 2 (r.1.facts.map aD.c),D.int .i64 r.1.bp],D.bool r.2])) [1,1,1,0,1,0,0,1,0,0,1,1,0,1,0] (rest.length+1) (CM aC i1 Je qV oO (B4.map aK.c) (jz.map iM) (uP.map aZ.c) (lC.map Node.c) (B5.map aD.c) (i2:Int)):=by
 intro rest
 induction rest with
 |nil=>
  intro i2 qV oO B4 jz uP lC B5 hd2 h;rw[gY]at h;refine aQ fun N2 ue sB=>?_
  exact((aY.ge aO.c hd2).a [.hl 5 [0,2,4,5,6] [0,1,3,4,5,6,7]]).ex hΓ ue (AJ qV oO B4 jz uP lC B5 h)
 |cons lq tR ih2=>
  intro i2 qV oO B4 jz uP lC B5 hd2 h;rw[gY]at h;refine aQ fun N2 ue sB=>?_
  obtain⟨Cg,h212,h⟩:=aB h;exact((((((aY.lt aO.c hd2).i (nU aO.c 5 (dc hd2))).o 5 5 .uq (cR aO.c (dc hd2))).a [.gp [[some (63,4),some (3,1),some (83,3),some (74,8),some (43,2),none],[none],[none,none,none,none,none]] (bw Cg.1) (D.int .i64 Cg.2)]).w (show hY prog 91 (bw (⟨B4,jz,uP,lC,B5,oO⟩:aH)) (bw Cg.1) [D.int .i64 qV,D.agg (aO.c lq)] (D.int .i64 Cg.2)from by simpa only[bA,bB,bZ,bX,bg]using GP h212)).a [.cn [0,2,4,5,6,7,8] [0,1,2,8,9,10,11,12]]).ct hΓ sB (iS hd2 hm2) (ih2 (i2+1) Cg.2 Cg.1.bp Cg.1.rules Cg.1.ends Cg.1.au Cg.1.nodes Cg.1.facts (dn hd2) h)
theorem BO(hΓ:Γ.nt=50){aC:aj}{r:aH×Bool}{k1:Int->aj->bC->bK->bE->aJ->Option (aH×Bool)}(di:∀(pS:Int) (nQ:aj) (eM:bC) (F3:bK) (lg:bE) (F4:aJ),k1 pS nQ eM F3 lg F4=some r->Ax Γ N f40 (.q [[some (63,4),some (3,1),some (83,3),some (74,8),some (43,2),none],[none]] (D.gL [D.agg [D.fr 63 4 (r.1.rules.map aK.c),D.fr 3 1 (r.1.ends.map iM),D.fr 83 3 (r.1.au.map aZ.c),D.fr 74 8 (r.1.nodes.map Node.c),D.fr 43 2 (r.1.facts.map aD.c),D.int .i64 r.1.bp],D.bool r.2])) [1,1,1,1] ⟨[(2,D.ptr 0 0),(4,D.ptr 1 0)],[Ob.box [D.nil,D.nil,D.nil,D.nil,D.nil,D.int .i64 0],Ob.box [D.acc 2,D.acc 3,D.acc 4,D.acc 5,D.acc 6,D.int .i64 pS],Ob.row .uq 63 4 (nQ.map aK.c),Ob.row .uq 3 1 (eM.map iM),Ob.row .uq 83 3 (F3.map aZ.c),Ob.row .uq 74 8 (lg.map Node.c),Ob.row .uq 43 2 (F4.map aD.c)]⟩)(hm1:aC.length<=maxLen):∀(rest:aj) (i1:Nat) (gM:Int) (iO:aj) (cg:bC) (uN:bK) (jk:bE) (uO:aJ),aC.drop i1=rest->gX aC k1 rest i1 gM iO cg uN jk uO=some r->Ar Γ N f40 (.q [[some (63,4),some (3,1),some (83,3),some (74,8),some (43,2),none],[none]] (D.gL [D.agg [D.fr 63 4 (r.1.rules.map aK.c),D.fr 3 1 (r.1.ends.map iM),D.fr 83 3 (r.1.au.map aZ.c),D.fr 74 8 (r.1.nodes.map Node.c),D.fr 43 2 (r.1.facts.map aD.c),D.int .i64 r.1.bp],D.bool r.2])) [1,1,1,0,1,0] (rest.length+1) (rp aC gM (iO.map aK.c) (cg.map iM) (uN.map aZ.c) (jk.map Node.c) (uO.map aD.c) (i1:Int)):=by
 intro rest
 induction rest with
 |nil=>
  intro i1 gM iO cg uN jk uO az h;rw[gX]at h;refine aQ fun N1 cY cI=>?_
  exact((aY.ge aK.c az).a [.hl 0 [2,4] [0,1,2,3,4,5,6]]).ex hΓ cY (di gM iO cg uN jk uO h)
 |cons bU cQ ih1=>
  intro i1 gM iO cg uN jk uO az h;rw[gX]at h;refine aQ fun N1 cY cI=>?_
  obtain⟨Je,h183,h⟩:=aB h;obtain⟨h214,h⟩:=bR h;refine((((aY.lt aK.c az).l (bJ aK.c 4 (dc az) rfl)).g (CO h183)).a [.cn [0,2,4,5,6,7,8] [0,1,7,2,3,4,5,6]]).lp hΓ (BP hΓ (fun FG vQ Hs vP Ht pJ Hu h=>?_) (bn h214) Je 0 0 gM iO cg uN jk uO rfl h);obtain⟨h213,h⟩:=bR h;exact((aY.w (bf h213)).a [.cn [0,2,4,5] [0,1,2,8,4,5,6]]).cs hΓ cI (rp aC vQ (Hs.map aK.c) ((vP.map iM)++([[D.int .i64 FG]])) (Ht.map aZ.c) (pJ.map Node.c) (Hu.map aD.c) (IntKind.i64.wrap ((i1:Int)+1))) (by first| (simp only[iS az hm1,mA]<;>rfl)| (simp only[iS az hm1,mA,aD.c,aX.c,aO.c,Action.c,aK.c,aU.c,dW.c,aZ.c,Node.c,aH.c,dh.c]<;>rfl)) (ih1 (i1+1) vQ Hs (vP++([FG])) Ht pJ Hu (dn az) h)
theorem qf{aC:aj}{r:aH×Bool}(h:jW aC=some r):Good prog 40 [D.sl (aC.map aK.c)] (D.gL [D.agg [D.fr 63 4 (r.1.rules.map aK.c),D.fr 3 1 (r.1.ends.map iM),D.fr 83 3 (r.1.au.map aZ.c),D.fr 74 8 (r.1.nodes.map Node.c),D.fr 43 2 (r.1.facts.map aD.c),D.int .i64 r.1.bp],D.bool r.2]):=by
 refine gd func40 [[some (63,4),some (3,1),some (83,3),some (74,8),some (43,2),none],[none]] 50 fun hr Γ hΓ=>?_
 rw[jW]at h;obtain⟨y1,h2,h⟩:=aB h;obtain⟨h3,h⟩|⟨h3,h⟩:=aM h
 ·cases h;exact((aY.g (xj h2)).b h3).ret hΓ
 ·obtain⟨y4,h5,h⟩:=aB h;refine((((aY.g (xj h2)).b h3).g (Ec h5)).a [.pb 4 1 3 1,.pb 4 2 83 3,.pb 4 4 43 2,.cn [0,2,4,5] [0,4,1,5,6,3,7]]).lps hΓ (rp aC 0 (y4.map aK.c) ([]:List aL) ([]:List aL) ([[D.int .i64 (-1),D.int .i64 0,D.str ([]),D.sl ([]),D.str ([]),D.str ([]),D.int .i64 (-1),D.sl ([[D.sl ([]),D.sl ([])]])]]) ([]:List aL) 0) (by first| (simp only[mA]<;>rfl)| (simp only[mA,aD.c,aX.c,aO.c,Action.c,aK.c,aU.c,dW.c,aZ.c,Node.c,aH.c,dh.c]<;>rfl)) (BO hΓ (fun pS nQ eM F3 lg F4 h=>?_) (by have:=(gq.sl (hr _ (aE (i:=0) rfl))).1;simpa using this) aC 0 0 y4 ([]:bC) ([]:bK) ([(⟨-1,(⟨0,(⟨[],[]⟩:aD),[],[]⟩:aO), -1,[(⟨[],[]⟩:aU)]⟩:Node)]) ([]:aJ) rfl h);cases h;exact aY.ret hΓ
end Go.Cx

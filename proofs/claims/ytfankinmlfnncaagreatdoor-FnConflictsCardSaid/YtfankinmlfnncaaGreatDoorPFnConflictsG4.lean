/- What functions of the program compute, and the walks that show it. No condition. -/
import Derived.Test.YtfankinmlfnncaaGreatDoorPFnConflictsG3
set_option linter.unusedVariables false
set_option linter.unusedSimpArgs false
namespace Go.Cx
open Go.RowKit Go.Proofs Tryz
set_option maxRecDepth 100000
variable{Γ:tZ}{N:Nat->St->Prop}
def o5(aC:bK)(k1:Int->Option cK):bK->Nat->Int->Option cK
 | [],i1,mG=>(k1 mG)
 |bS::cZ,i1,mG=>(bif decide (((i1:Int):Int)<4000)then(o5 aC k1 cZ (i1+1) (GO .i64 (IntKind.i64.wrap ((IntKind.i64.wrap ((IntKind.i64.wrap (mG*167))+(IntKind.i64.wrap bS)))+29)) 1073741823))else(k1 mG))
def vz(aC:bK):Option cK:=(bif decide (aC.length<=maxLen)then(o5 aC (fun(YW:Int)=>(some (⟨aC,0,YW⟩:cK))) aC 0 (IntKind.i64.wrap (851207+(IntKind.i64.wrap (3*((aC.map yx).length:Int))))))else none)
def Km(aC:bK)(mG:Int)(dP:Int):St:=⟨[(0,D.sl (aC.map yx)),(3,D.int .i64 mG),(4,D.int .i64 dP)],[]⟩
theorem Jh(hΓ:Γ.nt=33){aC:bK}{r:cK}{k1:Int->Option cK}(dY:∀(YW:Int),k1 YW=some r->Ax Γ N f35 (.n (cK.c r)) [1,1,1] ⟨[(0,D.sl (aC.map yx)),(3,D.int .i64 YW)],[]⟩)(hm1:aC.length<=maxLen):∀(rest:bK) (i1:Nat) (mG:Int),aC.drop i1=rest->o5 aC k1 rest i1 mG=some r->Ar Γ N f35 (.n (cK.c r)) [1,1,0,1,0] (rest.length+1) (Km aC mG (i1:Int)):=by
 intro rest
 induction rest with
 |nil=>
  intro i1 mG b9 h;rw[o5]at h;refine aV fun N1 cj cL=>?_
  exact(((((aX.ge yx b9).ge yx b9).ge yx b9).F 1).a [.hl 0 [0,3] []]).ex hΓ cj (dY mG h)
 |cons bS cZ ih1=>
  intro i1 mG b9 h;rw[o5]at h;refine aV fun N1 cj cL=>?_
  have nB:=(((aX.lt yx b9).lt yx b9).lt yx b9)
  obtain⟨h13,h⟩|⟨h13,h⟩:=aO h
  ·exact(((nB.b h13).l (bJ yx 1 (dc b9) rfl)).a [.cn [0,3,4] []]).ct hΓ cL (iS b9 hm1) (ih1 (i1+1) (GO .i64 (IntKind.i64.wrap ((IntKind.i64.wrap ((IntKind.i64.wrap (mG*167))+(IntKind.i64.wrap bS)))+29)) 1073741823) (dn b9) h)
  ·exact((nB.b h13).a [.hl 0 [0,3] []]).ex hΓ cj (dY mG h)
theorem IJ{aC:bK}{r:cK}(h:vz aC=some r):Hl prog 35 [D.sl (aC.map yx)] (cK.c r):=by
 refine gdN func35 33 fun hr Γ hΓ=>?_
 rw[vz]at h;obtain⟨h14,h⟩:=bU h;refine(aX.a [.cn [0,3,4] []]).lp hΓ (Jh hΓ (fun YW h=>?_) (bY h14) aC 0 (IntKind.i64.wrap (851207+(IntKind.i64.wrap (3*((aC.map yx).length:Int))))) rfl h);cases h;exact aX.ret hΓ
def oP(aC:cK):Option (cK×Int):=(bif decide ((aC.i:Int)<((aC.b.map yx).length:Int))then((iw aC.b aC.i).bind fun x2=>(some ((⟨aC.b,IntKind.i64.wrap (aC.i+1),IntKind.i64.wrap ((IntKind.i64.wrap (aC.h*6364136223846793005))+1442695040888963407)⟩:cK),GO .i64 (IntKind.i64.wrap ((GO .i64 (Sp .i64 (Ql .i64 (IntKind.i64.wrap ((IntKind.i64.wrap (aC.h*6364136223846793005))+1442695040888963407)) 35) (Ql .i64 (IntKind.i64.wrap ((IntKind.i64.wrap (aC.h*6364136223846793005))+1442695040888963407)) 45)) 255)+(IntKind.i64.wrap x2))) 255)))else(some ((⟨aC.b,aC.i,IntKind.i64.wrap ((IntKind.i64.wrap (aC.h*6364136223846793005))+1442695040888963407)⟩:cK),GO .i64 (Sp .i64 (Ql .i64 (IntKind.i64.wrap ((IntKind.i64.wrap (aC.h*6364136223846793005))+1442695040888963407)) 35) (Ql .i64 (IntKind.i64.wrap ((IntKind.i64.wrap (aC.h*6364136223846793005))+1442695040888963407)) 45)) 255)))
theorem ru{aC:cK}{r:cK×Int}(h:oP aC=some r):gx prog 134 (cK.c aC) (cK.c r.1) [] (D.int .i64 r.2):=by
 refine Ii func134 [[none,none,none],[none]] 58 [D.sl (aC.b.map yx),D.int .i64 aC.i,D.int .i64 aC.h] [] [] fun hr hG Γ hΓ=>?_
 rw[oP]at h;obtain⟨h1,h⟩|⟨h1,h⟩:=aO h
 ·obtain⟨x2,h3,h⟩:=aB h;cases h;exact((((aX.a [.n 10,.n 9]).b h1).a [.n 12]).l (er yx 1 h3 rfl)).ret hΓ
 ·cases h;exact((aX.a [.n 10,.n 9]).b h1).ret hΓ
def cP(aC:cK)(aZ:Int):Option (cK×Int):=(bif decide ((aZ:Int)<=0)then(some (aC,0))else(bif decide ((aZ:Int)<=256)then((oP aC).bind fun y3=>(bif decide (0<=(y3.2:Int))&&decide (0<(aZ:Int))then(some (y3.1,(y3.2:Int)%aZ))else none))else((oP aC).bind fun y6=>((oP y6.1).bind fun y8=>((oP y8.1).bind fun Dc=>(bif decide (0<=(IntKind.i64.wrap ((IntKind.i64.wrap ((IntKind.i64.wrap (y6.2*65536))+(IntKind.i64.wrap (y8.2*256))))+Dc.2):Int))&&decide (0<(aZ:Int))then(some (Dc.1,(IntKind.i64.wrap ((IntKind.i64.wrap ((IntKind.i64.wrap (y6.2*65536))+(IntKind.i64.wrap (y8.2*256))))+Dc.2):Int)%aZ))else none))))))
theorem cF{aC:cK}{aZ:Int}{r:cK×Int}(h:cP aC aZ=some r):gx prog 76 (cK.c aC) (cK.c r.1) [D.int .i64 aZ] (D.int .i64 r.2):=by
 refine Ii func76 [[none,none,none],[none]] 31 [D.sl (aC.b.map yx),D.int .i64 aC.i,D.int .i64 aC.h] [D.int .i64 aZ] [] fun hr hG Γ hΓ=>?_
 rw[cP]at h;obtain⟨h1,h⟩|⟨h1,h⟩:=aO h
 ·cases h;exact(aX.b h1).ret hΓ
 ·obtain⟨h2,h⟩|⟨h2,h⟩:=aO h
  ·obtain⟨y3,h4,h⟩:=aB h;obtain⟨h5,h⟩:=bU h;cases h;exact((((aX.b h1).b h2).hp [[none,none,none]] (ru h4)).w (On .i64 h5)).ret hΓ
  ·obtain⟨y6,h7,h⟩:=aB h;obtain⟨y8,h9,h⟩:=aB h;obtain⟨Dc,h11,h⟩:=aB h;obtain⟨h12,h⟩:=bU h;cases h;exact((((((aX.b h1).b h2).hp [[none,none,none]] (ru h7)).hp [[none,none,none]] (ru h9)).hp [[none,none,none]] (ru h11)).w (On .i64 h12)).ret hΓ
def qX(aC:cK)(aZ:Int):Option (cK×Bool):=((cP aC aZ).bind fun y1=>(some (y1.1,(y1.2:Int)==0)))
theorem p0{aC:cK}{aZ:Int}{r:cK×Bool}(h:qX aC aZ=some r):gx prog 72 (cK.c aC) (cK.c r.1) [D.int .i64 aZ] (D.bool r.2):=by
 refine Ii func72 [[none,none,none],[none]] 9 [D.sl (aC.b.map yx),D.int .i64 aC.i,D.int .i64 aC.h] [D.int .i64 aZ] [] fun hr hG Γ hΓ=>?_
 rw[qX]at h;obtain⟨y1,h2,h⟩:=aB h;cases h;exact(aX.hp [[none,none,none],[none]] (cF h2)).ret hΓ
def nG(aC:cK):Option (cK×(Bytes×Int)):=((cP aC 6).bind fun y1=>((iw ([[111,110],[111,110],[97,116],[112],[113],[122]]:aG) y1.2).bind fun x3=>((iw ([2,2,2,1,1,0]:bK) y1.2).bind fun x5=>(some (y1.1,(x3,x5))))))
theorem AK{aC:cK}{r:cK×(Bytes×Int)}(h:nG aC=some r):gx prog 180 (cK.c aC) (cK.c r.1) [] (D.gw [D.str r.2.1,D.int .i64 r.2.2]):=by
 refine Ii func180 [[none,none,none],[none],[none]] 15 [D.sl (aC.b.map yx),D.int .i64 aC.i,D.int .i64 aC.h] [] [] fun hr hG Γ hΓ=>?_
 rw[nG]at h;obtain⟨y1,h2,h⟩:=aB h;obtain⟨x3,h4,h⟩:=aB h;obtain⟨x5,h6,h⟩:=aB h;cases h;exact(((((aX.hp [[none,none,none],[none]] (cF h2)).a [.n 9,.vw 0]).l (er tx 1 h4 rfl)).a [.vw 0]).l (er nA 1 h6 rfl)).ret hΓ
def oI(aC:cK)(aZ:aG):Option (cK×Bytes):=((cP aC ((aZ.map tx).length:Int)).bind fun y1=>((iw aZ y1.2).bind fun x3=>(some (y1.1,x3))))
theorem qC{aC:cK}{aZ:aG}{r:cK×Bytes}(h:oI aC aZ=some r):gx prog 140 (cK.c aC) (cK.c r.1) [D.fr 9 1 (aZ.map tx)] (D.str r.2):=by
 refine Ii func140 [[none,none,none],[none]] 12 [D.sl (aC.b.map yx),D.int .i64 aC.i,D.int .i64 aC.h] [D.acc 1] [Ob.row .uq 9 1 (aZ.map tx)] fun hr hG Γ hΓ=>?_
 rw[oI]at h;obtain⟨y1,h2,h⟩:=aB h;obtain⟨x3,h4,h⟩:=aB h;cases h;exact(((aX.hp [[none,none,none],[none]] (cF h2)).i (iD tx 1 h4)).o 1 1 .uq (cX tx (fC h4))).ret hΓ
def gr(aC:cK):Option (cK×Bytes):=((oI aC ([[97],[98],[99],[49],[50]]:aG)).bind fun y1=>(some (y1.1,y1.2)))
theorem ux{aC:cK}{r:cK×Bytes}(h:gr aC=some r):gx prog 181 (cK.c aC) (cK.c r.1) [] (D.str r.2):=by
 refine Ii func181 [[none,none,none],[none]] 6 [D.sl (aC.b.map yx),D.int .i64 aC.i,D.int .i64 aC.h] [] [] fun hr hG Γ hΓ=>?_
 rw[gr]at h;obtain⟨y1,h2,h⟩:=aB h;cases h;exact(aX.hp [[none,none,none],[some (9,1)]] (qC h2)).ret hΓ
def oQ(aC:cK):Option (cK×Bytes):=((qX aC 4).bind fun y1=>(bif y1.2 then((gr y1.1).bind fun y4=>(some (y4.1,y4.2)))else((oI y1.1 ([[63,120],[63,121],[63,122]]:aG)).bind fun y6=>(some (y6.1,y6.2)))))
theorem uz{aC:cK}{r:cK×Bytes}(h:oQ aC=some r):gx prog 223 (cK.c aC) (cK.c r.1) [] (D.str r.2):=by
 refine Ii func223 [[none,none,none],[none]] 10 [D.sl (aC.b.map yx),D.int .i64 aC.i,D.int .i64 aC.h] [] [] fun hr hG Γ hΓ=>?_
 rw[oQ]at h;obtain⟨y1,h2,h⟩:=aB h;obtain⟨h3,h⟩|⟨h3,h⟩:=aO h
 ·obtain⟨y4,h5,h⟩:=aB h;cases h;exact(((aX.hp [[none,none,none],[none]] (p0 h2)).b h3).hp [[none,none,none]] (ux h5)).ret hΓ
 ·obtain⟨y6,h7,h⟩:=aB h;cases h;exact(((aX.hp [[none,none,none],[none]] (p0 h2)).b h3).hp [[none,none,none],[some (9,1)]] (qC h7)).ret hΓ
def kR(y1:cK×(Bytes×Int))(k1:bK->Int->Int->aG->Option (cK×aE)):Nat->Int->bK->Int->Int->aG->Option (cK×aE)
 |0,_,_,_,_,_=>none
 |n1+1,eW,eG,dK,dL,cw=>(bif decide ((eW:Int)<y1.2.2)then((oQ (⟨eG,dK,dL⟩:cK)).bind fun yM=>(bif room ((cw.map tx).length+([[D.str yM.2]]).length) 16 then(kR y1 k1 n1 (IntKind.i64.wrap (eW+1)) yM.1.b yM.1.i yM.1.h (cw++([yM.2])))else none))else(k1 eG dK dL cw))
def iv(aC:cK):Option (cK×aE):=((nG aC).bind fun y1=>(kR y1 (fun(kZ:bK) (ke:Int) (kf:Int) (ew:aG)=>(some ((⟨kZ,ke,kf⟩:cK),(⟨y1.2.1,ew⟩:aE)))) fuel 0 y1.1.b y1.1.i y1.1.h ([]:aG)))
def BN(hG:Value)(y1:cK×(Bytes×Int))(eW:Int)(dK:Int)(dL:Int)(W1:List aL)(W4:List aL):St:=⟨[(0,D.ptr 0 0),(2,D.ptr 1 0),(4,D.int .i64 y1.2.2),(5,D.ptr 2 0),(6,D.int .i64 eW)],[Ob.zq [D.sl W1,D.int .i64 dK,D.int .i64 dL] hG,Ob.box [D.str ([]),D.nil],Ob.box [D.str y1.2.1,D.acc 3],Ob.row .uq 9 1 W4]⟩
theorem IN(hΓ:Γ.nt=27){hG:Value}{y1:cK×(Bytes×Int)}{r:cK×aE}{k1:bK->Int->Int->aG->Option (cK×aE)}(dY:∀(kZ:bK) (ke:Int) (kf:Int) (ew:aG),k1 kZ ke kf ew=some r->Ax Γ N f201 (.p [[none,none,none],[none,some (9,1)]] hG (cK.c r.1) (D.agg [D.str r.2.rel,D.fr 9 1 (r.2.args.map tx)])) [1,1,1,1] ⟨[(2,D.ptr 1 0),(5,D.ptr 2 0)],[Ob.zq [D.sl (kZ.map yx),D.int .i64 ke,D.int .i64 kf] hG,Ob.box [D.str ([]),D.nil],Ob.box [D.str y1.2.1,D.acc 3],Ob.row .uq 9 1 (ew.map tx)]⟩):∀(n1:Nat) (eW:Int) (eG:bK) (dK:Int) (dL:Int) (cw:aG),kR y1 k1 n1 eW eG dK dL cw=some r->Ar Γ N f201 (.p [[none,none,none],[none,some (9,1)]] hG (cK.c r.1) (D.agg [D.str r.2.rel,D.fr 9 1 (r.2.args.map tx)])) [1,1,1,0,1,0] n1 (BN hG y1 eW dK dL (eG.map yx) (cw.map tx)):=by
 intro n
 induction n with
 |zero=>intro eW eG dK dL cw h;simp[kR]at h
 |succ n1 ih1=>
  intro eW eG dK dL cw h;rw[kR]at h;refine aV fun N1 cj cL=>?_
  obtain⟨h27,h⟩|⟨h27,h⟩:=aO h
  ·obtain⟨yM,h31,h⟩:=aB h;obtain⟨h32,h⟩:=bU h;exact(((((aX.b h27).a [.n2 [0,1,2,3,4,5,6,7] [0,1,2,3,4,5,6,7] 3 5 [0,1] [0],.gp [[none,none,none]] (cK.c yM.1) (D.str yM.2)]).w (show gx prog 223 (cK.c (⟨eG,dK,dL⟩:cK)) (cK.c yM.1) [] (D.str yM.2)from by simpa only[bI,ay,bt,br,cB]using uz h31)).w (bp h32)).a [.cn [0,2,4,5,6] [0,1,2,5]]).cs hΓ cL (BN hG y1 (IntKind.i64.wrap (eW+1)) yM.1.i yM.1.h (yM.1.b.map yx) ((cw.map tx)++([[D.str yM.2]]))) (by first| (simp only[mA]<;>rfl)| (simp only[mA,aE.c,aQ.c,aN.c,Action.c,aI.c,aY.c,ax.c,af.c,Node.c,aJ.c,dX.c]<;>rfl)) (ih1 (IntKind.i64.wrap (eW+1)) yM.1.b yM.1.i yM.1.h (cw++([yM.2])) h)
  ·exact((aX.b h27).a [.hl 0 [2,5] [0,1,2,3]]).ex hΓ cj (dY eG dK dL cw h)
theorem mq{aC:cK}{r:cK×aE}(h:iv aC=some r):gx prog 201 (cK.c aC) (cK.c r.1) [] (D.agg [D.str r.2.rel,D.fr 9 1 (r.2.args.map tx)]):=by
 refine Ii func201 [[none,none,none],[none,some (9,1)]] 27 [D.sl (aC.b.map yx),D.int .i64 aC.i,D.int .i64 aC.h] [] [] fun hr hG Γ hΓ=>?_
 rw[iv]at h;obtain⟨y1,h2,h⟩:=aB h;refine((aX.hp [[none,none,none]] (AK h2)).a [.pb 2 1 9 1,.cn [0,2,4,5,6] [0,1,2,3]]).lp hΓ (IN hΓ (fun kZ ke kf ew h=>?_) fuel 0 y1.1.b y1.1.i y1.1.h ([]:aG) h);cases h;exact aX.ret hΓ
def gb(aC:cK)(aZ:bK):Option (cK×Int):=((cP aC ((aZ.map nA).length:Int)).bind fun y1=>((iw aZ y1.2).bind fun x3=>(some (y1.1,x3))))
theorem jX{aC:cK}{aZ:bK}{r:cK×Int}(h:gb aC aZ=some r):gx prog 78 (cK.c aC) (cK.c r.1) [D.fr 3 1 (aZ.map nA)] (D.int .i64 r.2):=by
 refine Ii func78 [[none,none,none],[none]] 12 [D.sl (aC.b.map yx),D.int .i64 aC.i,D.int .i64 aC.h] [D.acc 1] [Ob.row .uq 3 1 (aZ.map nA)] fun hr hG Γ hΓ=>?_
 rw[gb]at h;obtain⟨y1,h2,h⟩:=aB h;obtain⟨x3,h4,h⟩:=aB h;cases h;exact(((aX.hp [[none,none,none],[none]] (cF h2)).i (iD nA 1 h4)).o 1 1 .uq (cX nA (fC h4))).ret hΓ
def uW(aC:cK)(aZ:Bytes)(ck:Bytes):Option (cK×aN):=((gb aC ([3,4,4,5]:bK)).bind fun y1=>(some (y1.1,(⟨y1.2,(⟨[],[]⟩:aE),aZ,ck⟩:aN))))
theorem HC{aC:cK}{aZ:Bytes}{ck:Bytes}{r:cK×aN}(h:uW aC aZ ck=some r):gx prog 224 (cK.c aC) (cK.c r.1) [D.str aZ,D.str ck] (D.agg [D.int .i64 r.2.kind,D.str r.2.pat.rel,D.fr 9 1 (r.2.pat.args.map tx),D.str r.2.left,D.str r.2.right]):=by
 refine Ii func224 [[none,none,none],[none,none,some (9,1),none,none]] 13 [D.sl (aC.b.map yx),D.int .i64 aC.i,D.int .i64 aC.h] [D.str aZ,D.str ck] [] fun hr hG Γ hΓ=>?_
 rw[uW]at h;obtain⟨y1,h2,h⟩:=aB h;cases h;exact(aX.hp [[none,none,none],[some (3,1)]] (jX h2)).ret hΓ
def qZ(aC:cK):Option (cK×aN):=((cP aC 5).bind fun y1=>(bif (y1.2:Int)==0 then((iv y1.1).bind fun y4=>(some (y4.1,(⟨1,y4.2,[],[]⟩:aN))))else(bif (y1.2:Int)==1 then((iv y1.1).bind fun y7=>(some (y7.1,(⟨1,y7.2,[],[]⟩:aN))))else(bif (y1.2:Int)==2 then((iv y1.1).bind fun Dc=>(some (Dc.1,(⟨2,Dc.2,[],[]⟩:aN))))else((oQ y1.1).bind fun PJ=>((oQ PJ.1).bind fun Au=>((uW Au.1 PJ.2 Au.2).bind fun Mj=>(some (Mj.1,Mj.2)))))))))
theorem zZ{aC:cK}{r:cK×aN}(h:qZ aC=some r):gx prog 200 (cK.c aC) (cK.c r.1) [] (D.agg [D.int .i64 r.2.kind,D.str r.2.pat.rel,D.fr 9 1 (r.2.pat.args.map tx),D.str r.2.left,D.str r.2.right]):=by
 refine Ii func200 [[none,none,none],[none,none,some (9,1),none,none]] 24 [D.sl (aC.b.map yx),D.int .i64 aC.i,D.int .i64 aC.h] [] [] fun hr hG Γ hΓ=>?_
 rw[qZ]at h;obtain⟨y1,h2,h⟩:=aB h;obtain⟨h3,h⟩|⟨h3,h⟩:=aO h
 ·obtain⟨y4,h5,h⟩:=aB h;cases h;exact(((aX.hp [[none,none,none],[none]] (cF h2)).r 2 h3).hp [[none,none,none]] (mq h5)).ret hΓ
 ·have nB:=((aX.hp [[none,none,none],[none]] (cF h2)).b h3)
  obtain⟨h6,h⟩|⟨h6,h⟩:=aO h
  ·obtain⟨y7,h8,h⟩:=aB h;cases h;exact((nB.b h6).hp [[none,none,none]] (mq h8)).ret hΓ
  ·obtain⟨h9,h⟩|⟨h9,h⟩:=aO h
   ·obtain⟨Dc,h11,h⟩:=aB h;cases h;exact(((nB.b h6).b h9).hp [[none,none,none]] (mq h11)).ret hΓ
   ·obtain⟨PJ,h13,h⟩:=aB h;obtain⟨Au,h15,h⟩:=aB h;obtain⟨Mj,h17,h⟩:=aB h;cases h;exact(((((nB.b h6).b h9).hp [[none,none,none]] (uz h13)).hp [[none,none,none]] (uz h15)).hp [[none,none,none],[none],[none]] (HC h17)).ret hΓ
def jW(aC:Int)(aZ:Int)(ck:Int):Option Bool:=(bif decide ((aC:Int)>=aZ)then(some (decide ((aC:Int)<=ck)))else(some false))
theorem fy{aC:Int}{aZ:Int}{ck:Int}{r:Bool}(h:jW aC aZ ck=some r):Good prog 99 [D.int .i64 aC,D.int .i64 aZ,D.int .i64 ck] (D.bool r):=by
 refine gd func99 [[none]] 15 fun hr Γ hΓ=>?_
 rw[jW]at h;obtain⟨h1,h⟩|⟨h1,h⟩:=aO h
 ·cases h;exact(aX.r 4 h1).ret hΓ
 ·have h:=aK h;subst h;exact(aX.r 4 h1).ret hΓ
def j9(aC:Bytes)(k1:Option Bool):Nat->Int->Option Bool
 |0,_=>none
 |n1+1,mG=>(bif decide ((mG:Int)<(aC.length:Int))then((iw aC mG).bind fun b29=>((jW (IntKind.i64.wrap b29.toNat) 97 122).bind fun FI=>(bif !(FI)then((jW (IntKind.i64.wrap b29.toNat) 48 57).bind fun Dg=>(bif !(Dg)then(some false)else(j9 aC k1 n1 (IntKind.i64.wrap (mG+1)))))else(j9 aC k1 n1 (IntKind.i64.wrap (mG+1))))))else(k1))
def fP(aC:Bytes):Option Bool:=(j9 aC ((jW (aC.length:Int) 1 8).bind fun LG=>(some LG)) fuel 0)
def JY(aC:Bytes)(mG:Int):St:=⟨[(0,D.str aC),(3,D.int .i64 mG)],[]⟩
theorem I7(hΓ:Γ.nt=27){aC:Bytes}{r:Bool}{k1:Option Bool}(dY:k1=some r->Ax Γ N f125 (.q [[none]] (D.bool r)) [1,1] ⟨[(0,D.str aC)],[]⟩):∀(n1:Nat) (mG:Int),j9 aC k1 n1 mG=some r->Ar Γ N f125 (.q [[none]] (D.bool r)) [1,0,1,0] n1 (JY aC mG):=by
 intro n
 induction n with
 |zero=>intro mG h;simp[j9]at h
 |succ n1 ih1=>
  intro mG h;rw[j9]at h;refine aV fun N1 cj cL=>?_
  obtain⟨h28,h⟩|⟨h28,h⟩:=aO h
  ·obtain⟨b29,h30,h⟩:=aB h;obtain⟨FI,h32,h⟩:=aB h;have kY:=(((aX.b h28).c h30).g (fy h32))
   obtain⟨h33,h⟩|⟨h33,h⟩:=aO h
   ·obtain⟨Dg,h35,h⟩:=aB h;have kX:=(((((kY.r 3 h33).c h30).r 2 h33).g (fy h35)).r 2 h33)
    obtain⟨h36,h⟩|⟨h36,h⟩:=aO h
    ·have h:=aK h;subst h;exact(kX.b h36).ret hΓ
    ·exact((kX.b h36).a [.cn [0,3] []]).cf hΓ cL (ih1 (IntKind.i64.wrap (mG+1)) h)
   ·exact(((kY.r 7 h33).F 1).a [.cn [0,3] []]).cf hΓ cL (ih1 (IntKind.i64.wrap (mG+1)) h)
  ·exact((aX.b h28).a [.hl 0 [0] []]).ex hΓ cj (dY h)
theorem ed{aC:Bytes}{r:Bool}(h:fP aC=some r):Good prog 125 [D.str aC] (D.bool r):=by
 refine gd func125 [[none]] 27 fun hr Γ hΓ=>?_
 rw[fP]at h;refine(aX.a [.cn [0,3] []]).lp hΓ (I7 hΓ (fun h=>?_) fuel 0 h);obtain⟨LG,h38,h⟩:=aB h;have h:=aK h;subst h;exact(aX.g (fy h38)).ret hΓ
def gZ(aC:Bytes):Option Bool:=(bif decide (((aC.length:Int):Int)>1)then((iw aC 0).bind fun b2=>(bif (b2.toNat:Int)==63 then((yJ aC.length (some (D.int .i64 1)) none).bind fun p=>(fun l5 u6=>((fP ((aC.take u6).drop l5)).bind fun y8=>(some y8))) p.1 p.2)else(some false)))else(some false))
theorem fJ{aC:Bytes}{r:Bool}(h:gZ aC=some r):Good prog 148 [D.str aC] (D.bool r):=by
 refine gd func148 [[none]] 16 fun hr Γ hΓ=>?_
 rw[gZ]at h;obtain⟨h1,h⟩|⟨h1,h⟩:=aO h
 ·obtain⟨b2,h3,h⟩:=aB h;have nB:=(((aX.r 2 h1).c h3).r 2 h1)
  obtain⟨h4,h⟩|⟨h4,h⟩:=aO h
  ·obtain⟨⟨l5,u6⟩,h7,h⟩:=aB h;obtain⟨y8,h9,h⟩:=aB h;have h:=aK h;subst h;exact((((((nB.r 2 h4).w h7).a [.cut l5 u6]).b h4).g (ed h9)).b h4).ret hΓ
  ·have h:=aK h;subst h;exact(nB.r 4 h4).ret hΓ
 ·have h:=aK h;subst h;exact((aX.r 4 h1).F 4).ret hΓ
def eT(aC:aG)(aZ:Bytes)(k1:Bool->aG->Option aG):aG->Nat->Bool->aG->Option aG
 | [],i1,eW,bN=>(k1 eW bN)
 |bS::cZ,i1,eW,bN=>(bif !(eW)then(bif !(Op.bytesLess bS aZ)then(bif !((bS:Bytes)==aZ)then(bif room ((bN.map tx).length+([[D.str aZ]]).length) 16 then(bif room (((bN.map tx)++([[D.str aZ]])).length+([[D.str bS]]).length) 16 then(eT aC aZ k1 cZ (i1+1) true ((bN++([aZ]))++([bS])))else none)else none)else(bif room ((bN.map tx).length+([[D.str bS]]).length) 16 then(eT aC aZ k1 cZ (i1+1) true (bN++([bS])))else none))else(bif room ((bN.map tx).length+([[D.str bS]]).length) 16 then(eT aC aZ k1 cZ (i1+1) eW (bN++([bS])))else none))else(bif room ((bN.map tx).length+([[D.str bS]]).length) 16 then(eT aC aZ k1 cZ (i1+1) eW (bN++([bS])))else none))
def lG(aC:aG)(aZ:Bytes):Option aG:=(eT aC aZ (fun(Ce:Bool) (cC:aG)=>(bif !(Ce)then(bif room ((cC.map tx).length+([[D.str aZ]]).length) 16 then(some (cC++([aZ])))else none)else(some cC))) aC 0 false ([]:aG))
def sJ(aC:aG)(aZ:Bytes)(eW:Bool)(W1:List aL)(dP:Int):St:=⟨[(0,D.sl (aC.map tx)),(1,D.str aZ),(5,D.acc 0),(6,D.bool eW),(7,D.int .i64 dP)],[Ob.row .uq 9 1 W1]⟩
theorem Ji(hΓ:Γ.nt=49){aC:aG}{aZ:Bytes}{r:aG}{k1:Bool->aG->Option aG}(dY:∀(Ce:Bool) (cC:aG),k1 Ce cC=some r->Ax Γ N f221 (.q [[some (9,1)]] (D.fr 9 1 (r.map tx))) [1,1,1,1] ⟨[(1,D.str aZ),(5,D.acc 0),(6,D.bool Ce)],[Ob.row .uq 9 1 (cC.map tx)]⟩)(hm1:aC.length<=maxLen):∀(rest:aG) (i1:Nat) (eW:Bool) (bN:aG),aC.drop i1=rest->eT aC aZ k1 rest i1 eW bN=some r->Ar Γ N f221 (.q [[some (9,1)]] (D.fr 9 1 (r.map tx))) [1,1,1,0,1,0] (rest.length+1) (sJ aC aZ eW (bN.map tx) (i1:Int)):=by
 intro rest
 induction rest with
 |nil=>
  intro i1 eW bN b9 h;rw[eT]at h;refine aV fun N1 cj cL=>?_
  exact((aX.ge tx b9).a [.hl 0 [1,5,6] [0]]).ex hΓ cj (dY eW bN h)
 |cons bS cZ ih1=>
  intro i1 eW bN b9 h;rw[eT]at h;refine aV fun N1 cj cL=>?_
  obtain⟨h58,h⟩|⟨h58,h⟩:=aO h
  ·have kY:=((((aX.lt tx b9).r 3 h58).l (bJ tx 1 (dc b9) rfl)).r 4 h58)
   obtain⟨h59,h⟩|⟨h59,h⟩:=aO h
   ·have kX:=((kY.b h59).l (bJ tx 1 (dc b9) rfl))
    obtain⟨h60,h⟩|⟨h60,h⟩:=aO h
    ·obtain⟨h61,h⟩:=bU h;obtain⟨h62,h⟩:=bU h;exact(((((kX.b h60).w (bp h61)).l (bJ tx 1 (dc b9) rfl)).w (bp h62)).a [.cn [0,1,5,6,7] [4]]).cs hΓ cL (sJ aC aZ true (((bN.map tx)++([[D.str aZ]]))++([[D.str bS]])) (IntKind.i64.wrap ((i1:Int)+1))) (by first| (simp only[iS b9 hm1,mA]<;>rfl)| (simp only[iS b9 hm1,mA,aE.c,aQ.c,aN.c,Action.c,aI.c,aY.c,ax.c,af.c,Node.c,aJ.c,dX.c]<;>rfl)) (ih1 (i1+1) true ((bN++([aZ]))++([bS])) (dn b9) h)
    ·obtain⟨h63,h⟩:=bU h;exact((((kX.b h60).l (bJ tx 1 (dc b9) rfl)).w (bp h63)).a [.cn [0,1,5,6,7] [2]]).cs hΓ cL (sJ aC aZ true ((bN.map tx)++([[D.str bS]])) (IntKind.i64.wrap ((i1:Int)+1))) (by first| (simp only[iS b9 hm1,mA]<;>rfl)| (simp only[iS b9 hm1,mA,aE.c,aQ.c,aN.c,Action.c,aI.c,aY.c,ax.c,af.c,Node.c,aJ.c,dX.c]<;>rfl)) (ih1 (i1+1) true (bN++([bS])) (dn b9) h)
   ·obtain⟨h64,h⟩:=bU h;exact((((kY.b h59).l (bJ tx 1 (dc b9) rfl)).w (bp h64)).a [.cn [0,1,5,6,7] [2]]).cs hΓ cL (sJ aC aZ eW ((bN.map tx)++([[D.str bS]])) (IntKind.i64.wrap ((i1:Int)+1))) (by first| (simp only[iS b9 hm1,mA]<;>rfl)| (simp only[iS b9 hm1,mA,aE.c,aQ.c,aN.c,Action.c,aI.c,aY.c,ax.c,af.c,Node.c,aJ.c,dX.c]<;>rfl)) (ih1 (i1+1) eW (bN++([bS])) (dn b9) h)
  ·obtain⟨h65,h⟩:=bU h;exact((((((aX.lt tx b9).r 7 h58).F 1).l (bJ tx 1 (dc b9) rfl)).w (bp h65)).a [.cn [0,1,5,6,7] [2]]).cs hΓ cL (sJ aC aZ eW ((bN.map tx)++([[D.str bS]])) (IntKind.i64.wrap ((i1:Int)+1))) (by first| (simp only[iS b9 hm1,mA]<;>rfl)| (simp only[iS b9 hm1,mA,aE.c,aQ.c,aN.c,Action.c,aI.c,aY.c,ax.c,af.c,Node.c,aJ.c,dX.c]<;>rfl)) (ih1 (i1+1) eW (bN++([bS])) (dn b9) h)
theorem lH{aC:aG}{aZ:Bytes}{r:aG}(h:lG aC aZ=some r):Good prog 221 [D.sl (aC.map tx),D.str aZ] (D.fr 9 1 (r.map tx)):=by
 refine gd func221 [[some (9,1)]] 49 fun hr Γ hΓ=>?_
 rw[lG]at h;refine(aX.a [.cn [0,1,5,6,7] [0]]).lp hΓ (Ji hΓ (fun Ce cC h=>?_) (by have:=(iE.sl (hr _ (aD (i:=0) rfl))).1;simpa using this) aC 0 false ([]:aG) rfl h);obtain⟨h66,h⟩|⟨h66,h⟩:=aO h
 ·obtain⟨h67,h⟩:=bU h;cases h;exact((aX.b h66).w (bp h67)).rts hΓ (D.fr 9 1 ((cC.map tx)++([[D.str aZ]]))) (by first|rfl| (simp only[mA]<;>rfl))
 ·have h:=aK h;subst h;exact(aX.b h66).ret hΓ
def kP(aC:aE)(k1:aG->Option aG):aG->Nat->aG->Option aG
 | [],i1,bQ=>(k1 bQ)
 |bS::cZ,i1,bQ=>((gZ bS).bind fun LG=>(bif LG then((lG bQ bS).bind fun YU=>(kP aC k1 cZ (i1+1) YU))else(kP aC k1 cZ (i1+1) bQ)))
def nF(aC:aE):Option aG:=(kP aC (fun(cC:aG)=>(some cC)) aC.args 0 ([]:aG))
def Jg(aC:aE)(W0:List aL)(dP:Int):St:=⟨[(1,D.ptr 0 0),(3,D.acc 1),(4,D.int .i64 dP)],[Ob.box (aE.c aC),Ob.row .uq 9 1 W0]⟩
theorem II(hΓ:Γ.nt=27){aC:aE}{r:aG}{k1:aG->Option aG}(dY:∀(cC:aG),k1 cC=some r->Ax Γ N f195 (.q [[some (9,1)]] (D.fr 9 1 (r.map tx))) [1,1,1] ⟨[(3,D.acc 0)],[Ob.row .uq 9 1 (cC.map tx)]⟩)(hm1:aC.args.length<=maxLen):∀(rest:aG) (i1:Nat) (bQ:aG),aC.args.drop i1=rest->kP aC k1 rest i1 bQ=some r->Ar Γ N f195 (.q [[some (9,1)]] (D.fr 9 1 (r.map tx))) [1,1,0,1,0] (rest.length+1) (Jg aC (bQ.map tx) (i1:Int)):=by
 intro rest
 induction rest with
 |nil=>
  intro i1 bQ b9 h;rw[kP]at h;refine aV fun N1 cj cL=>?_
  exact((aX.ge tx b9).a [.hl 0 [3] [1]]).ex hΓ cj (dY bQ h)
 |cons bS cZ ih1=>
  intro i1 bQ b9 h;rw[kP]at h;refine aV fun N1 cj cL=>?_
  obtain⟨LG,h38,h⟩:=aB h;have gG:=(((aX.lt tx b9).l (bJ tx 1 (dc b9) rfl)).g (fJ h38))
  obtain⟨h39,h⟩|⟨h39,h⟩:=aO h
  ·obtain⟨YU,h41,h⟩:=aB h;exact((((gG.b h39).l (bJ tx 1 (dc b9) rfl)).g (lH h41)).a [.cn [1,3,4] [0,2]]).ct hΓ cL (iS b9 hm1) (ih1 (i1+1) YU (dn b9) h)
  ·exact((gG.b h39).a [.cn [1,3,4] [0,1]]).ct hΓ cL (iS b9 hm1) (ih1 (i1+1) bQ (dn b9) h)
theorem oz{aC:aE}{r:aG}(h:nF aC=some r):Good prog 195 [D.agg (aE.c aC)] (D.fr 9 1 (r.map tx)):=by
 refine gd func195 [[some (9,1)]] 27 fun hr Γ hΓ=>?_
 rw[nF]at h;refine(aX.a [.cn [1,3,4] [0,1]]).lp hΓ (II hΓ (fun cC h=>?_) (by have:=(iE.sl (iE.agg (hr _ (aD (i:=0) rfl)) (.sl (aC.args.map tx)) (by simp))).1;simpa using this) aC.args 0 ([]:aG) rfl h);have h:=aK h;subst h;exact aX.ret hΓ
def jL(aC:aI)(aZ:Int)(i1:Nat)(JF:aG)(k2:aG->Option aG):aG->Nat->aG->Option aG
 | [],i2,eE=>(k2 eE)
 |nD::uO,i2,eE=>((lG eE nD).bind fun a3y=>(jL aC aZ i1 JF k2 uO (i2+1) a3y))
def fZ(aC:aI)(aZ:Int)(k1:aG->Option aG):ah->Nat->aG->Option aG
 | [],i1,bQ=>(k1 bQ)
 |bS::cZ,i1,bQ=>(bif decide (((i1:Int):Int)<aZ)then(bif (bS.kind:Int)==1 then((nF bS.pat).bind fun JF=>(bif decide (JF.length<=maxLen)then(jL aC aZ i1 JF (fun(qd:aG)=>(fZ aC aZ k1 cZ (i1+1) qd)) JF 0 bQ)else none))else(fZ aC aZ k1 cZ (i1+1) bQ))else(k1 bQ))
def kI(aC:aI)(aZ:Int):Option aG:=(fZ aC aZ (fun(cC:aG)=>(some cC)) aC.conds 0 ([]:aG))
def Fm(aC:aI)(aZ:Int)(W0:List aL)(dP:Int):St:=⟨[(1,D.int .i64 aZ),(2,D.ptr 0 0),(5,D.acc 1),(6,D.int .i64 dP)],[Ob.box (aI.c aC),Ob.row .uq 9 1 W0]⟩
def Fo(aC:aI)(aZ:Int)(i1:Nat)(JF:aG)(W0:List aL)(dP:Int):St:=⟨[(1,D.int .i64 aZ),(2,D.ptr 0 0),(5,D.acc 1),(6,D.int .i64 (i1:Int)),(7,D.acc 2),(8,D.int .i64 dP)],[Ob.box (aI.c aC),Ob.row .uq 9 1 W0,Ob.row .uq 9 1 (JF.map tx)]⟩
theorem ED(hΓ:Γ.nt=49){aC:aI}{aZ:Int}{i1:Nat}{JF:aG}{r:aG}{k2:aG->Option aG}(AR:∀(qd:aG),k2 qd=some r->Ax Γ N f188 (.q [[some (9,1)]] (D.fr 9 1 (r.map tx))) [1,1,0,1,0,0,1,1] ⟨[(1,D.int .i64 aZ),(2,D.ptr 0 0),(5,D.acc 1),(6,D.int .i64 (i1:Int))],[Ob.box (aI.c aC),Ob.row .uq 9 1 (qd.map tx)]⟩)(hm2:JF.length<=maxLen):∀(rest:aG) (i2:Nat) (eE:aG),JF.drop i2=rest->jL aC aZ i1 JF k2 rest i2 eE=some r->Ar Γ N f188 (.q [[some (9,1)]] (D.fr 9 1 (r.map tx))) [1,1,0,1,0,0,1,0,0,1,0,1,1,0] (rest.length+1) (Fo aC aZ i1 JF (eE.map tx) (i2:Int)):=by
 intro rest
 induction rest with
 |nil=>
  intro i2 eE hd2 h;rw[jL]at h;refine aV fun N2 uk tD=>?_
  exact((aX.ge tx hd2).a [.hl 3 [1,2,5,6] [0,1]]).ex hΓ uk (AR eE h)
 |cons nD uO ih2=>
  intro i2 eE hd2 h;rw[jL]at h;refine aV fun N2 uk tD=>?_
  obtain⟨a3y,h184,h⟩:=aB h;exact(((((aX.lt tx hd2).i (mK tx 1 (dc hd2))).o 1 1 .uq (cX tx (dc hd2))).g (lH h184)).a [.cn [1,2,5,6,7,8] [0,3,2]]).ct hΓ tD (iS hd2 hm2) (ih2 (i2+1) a3y (dn hd2) h)
theorem EC(hΓ:Γ.nt=49){aC:aI}{aZ:Int}{r:aG}{k1:aG->Option aG}(dY:∀(cC:aG),k1 cC=some r->Ax Γ N f188 (.q [[some (9,1)]] (D.fr 9 1 (r.map tx))) [1,1,1] ⟨[(5,D.acc 0)],[Ob.row .uq 9 1 (cC.map tx)]⟩)(hm1:aC.conds.length<=maxLen):∀(rest:ah) (i1:Nat) (bQ:aG),aC.conds.drop i1=rest->fZ aC aZ k1 rest i1 bQ=some r->Ar Γ N f188 (.q [[some (9,1)]] (D.fr 9 1 (r.map tx))) [1,1,0,1,0] (rest.length+1) (Fm aC aZ (bQ.map tx) (i1:Int)):=by
 intro rest
 induction rest with
 |nil=>
  intro i1 bQ b9 h;rw[fZ]at h;refine aV fun N1 cj cL=>?_
  exact((((((aX.ge aN.c b9).ge aN.c b9).ge aN.c b9).ge aN.c b9).F 1).a [.hl 0 [5] [1]]).ex hΓ cj (dY bQ h)
 |cons bS cZ ih1=>
  intro i1 bQ b9 h;rw[fZ]at h;refine aV fun N1 cj cL=>?_
  have kY:=((((aX.lt aN.c b9).lt aN.c b9).lt aN.c b9).lt aN.c b9)
  obtain⟨h157,h⟩|⟨h157,h⟩:=aO h
  ·have kX:=((kY.b h157).l (bJ aN.c 5 (dc b9) rfl))
   obtain⟨h158,h⟩|⟨h158,h⟩:=aO h
   ·obtain⟨JF,h160,h⟩:=aB h;obtain⟨h185,h⟩:=bU h;refine((((kX.b h158).l (bJ aN.c 5 (dc b9) rfl)).g (oz h160)).a [.cn [1,2,5,6,7,8] [0,1,2]]).lp hΓ (ED hΓ (fun qd h=>?_) (bY h185) JF 0 bQ rfl h);exact(aX.a [.cn [1,2,5,6] [0,1]]).ct hΓ cL (iS b9 hm1) (ih1 (i1+1) qd (dn b9) h)
   ·exact((kX.b h158).a [.cn [1,2,5,6] [0,1]]).ct hΓ cL (iS b9 hm1) (ih1 (i1+1) bQ (dn b9) h)
  ·exact((kY.b h157).a [.hl 0 [5] [1]]).ex hΓ cj (dY bQ h)
theorem jb{aC:aI}{aZ:Int}{r:aG}(h:kI aC aZ=some r):Good prog 188 [D.agg (aI.c aC),D.int .i64 aZ] (D.fr 9 1 (r.map tx)):=by
 refine gd func188 [[some (9,1)]] 49 fun hr Γ hΓ=>?_
 rw[kI]at h;refine(aX.a [.cn [1,2,5,6] [0,1]]).lp hΓ (EC hΓ (fun cC h=>?_) (by have:=(iE.sl (iE.agg (hr _ (aD (i:=0) rfl)) (.sl (aC.conds.map aN.c)) (by simp))).1;simpa using this) aC.conds 0 ([]:aG) rfl h);have h:=aK h;subst h;exact aX.ret hΓ
def jT(aC:aG)(aZ:Bytes)(k1:Option Bool):aG->Nat->Option Bool
 | [],i1=>(k1)
 |bS::cZ,i1=>(bif (bS:Bytes)==aZ then(some true)else(jT aC aZ k1 cZ (i1+1)))
def fw(aC:aG)(aZ:Bytes):Option Bool:=(jT aC aZ (some false) aC 0)
def G4(aC:aG)(aZ:Bytes)(dP:Int):St:=⟨[(0,D.sl (aC.map tx)),(1,D.str aZ),(5,D.int .i64 dP)],[]⟩
theorem EQ(hΓ:Γ.nt=18){aC:aG}{aZ:Bytes}{r:Bool}{k1:Option Bool}(dY:k1=some r->Ax Γ N f191 (.q [[none]] (D.bool r)) [1,1] ⟨[],[]⟩)(hm1:aC.length<=maxLen):∀(rest:aG) (i1:Nat),aC.drop i1=rest->jT aC aZ k1 rest i1=some r->Ar Γ N f191 (.q [[none]] (D.bool r)) [1,0,1,0] (rest.length+1) (G4 aC aZ (i1:Int)):=by
 intro rest
 induction rest with
 |nil=>
  intro i1 b9 h;rw[jT]at h;refine aV fun N1 cj cL=>?_
  exact((aX.ge tx b9).a [.hl 0 [] []]).ex hΓ cj (dY h)
 |cons bS cZ ih1=>
  intro i1 b9 h;rw[jT]at h;refine aV fun N1 cj cL=>?_
  have gG:=((aX.lt tx b9).l (bJ tx 1 (dc b9) rfl))
  obtain⟨h13,h⟩|⟨h13,h⟩:=aO h
  ·have h:=aK h;subst h;exact(gG.b h13).ret hΓ
  ·exact((gG.b h13).a [.cn [0,1,5] []]).ct hΓ cL (iS b9 hm1) (ih1 (i1+1) (dn b9) h)
theorem jc{aC:aG}{aZ:Bytes}{r:Bool}(h:fw aC aZ=some r):Good prog 191 [D.sl (aC.map tx),D.str aZ] (D.bool r):=by
 refine gd func191 [[none]] 18 fun hr Γ hΓ=>?_
 rw[fw]at h;refine(aX.a [.cn [0,1,5] []]).lp hΓ (EQ hΓ (fun h=>?_) (by have:=(iE.sl (hr _ (aD (i:=0) rfl))).1;simpa using this) aC 0 rfl h);have h:=aK h;subst h;exact aX.ret hΓ
def qV(aC:Bytes):Option Bool:=((fP aC).bind fun y1=>(bif y1 then((iw aC 0).bind fun b4=>((jW (IntKind.i64.wrap b4.toNat) 97 122).bind fun y6=>(some y6)))else(some false)))
theorem mc{aC:Bytes}{r:Bool}(h:qV aC=some r):Good prog 126 [D.str aC] (D.bool r):=by
 refine gd func126 [[none]] 11 fun hr Γ hΓ=>?_
 rw[qV]at h;obtain⟨y1,h2,h⟩:=aB h;obtain⟨h3,h⟩|⟨h3,h⟩:=aO h
 ·obtain⟨b4,h5,h⟩:=aB h;obtain⟨y6,h7,h⟩:=aB h;have h:=aK h;subst h;exact((((((aX.g (ed h2)).r 2 h3).c h5).r 2 h3).g (fy h7)).b h3).ret hΓ
 ·have h:=aK h;subst h;exact((aX.g (ed h2)).r 5 h3).ret hΓ
def ir(aC:Bytes):Option Bool:=((fP aC).bind fun y1=>(bif y1 then(some true)else((gZ aC).bind fun y4=>(some y4))))
theorem jw{aC:Bytes}{r:Bool}(h:ir aC=some r):Good prog 205 [D.str aC] (D.bool r):=by
 refine gd func205 [[none]] 9 fun hr Γ hΓ=>?_
 rw[ir]at h;obtain⟨y1,h2,h⟩:=aB h;obtain⟨h3,h⟩|⟨h3,h⟩:=aO h
 ·have h:=aK h;subst h;exact((aX.g (ed h2)).r 3 h3).ret hΓ
 ·obtain⟨y4,h5,h⟩:=aB h;have h:=aK h;subst h;exact((((aX.g (ed h2)).r 2 h3).g (fJ h5)).b h3).ret hΓ
def lf(aC:aE)(k1:Option Bool):aG->Nat->Option Bool
 | [],i1=>(k1)
 |bS::cZ,i1=>((ir bS).bind fun Sa=>(bif !(Sa)then(some false)else(lf aC k1 cZ (i1+1))))
def gq(aC:aE):Option Bool:=(lf aC ((qV aC.rel).bind fun Gd=>(bif Gd then(some (decide ((((aC.args.map tx).length:Int):Int)<=3)))else(some false))) aC.args 0)
def Fv(aC:aE)(dP:Int):St:=⟨[(1,D.ptr 0 0),(3,D.int .i64 dP)],[Ob.box (aE.c aC)]⟩
theorem EJ(hΓ:Γ.nt=27){aC:aE}{r:Bool}{k1:Option Bool}(dY:k1=some r->Ax Γ N f157 (.q [[none]] (D.bool r)) [1,1] ⟨[(1,D.ptr 0 0)],[Ob.box (aE.c aC)]⟩)(hm1:aC.args.length<=maxLen):∀(rest:aG) (i1:Nat),aC.args.drop i1=rest->lf aC k1 rest i1=some r->Ar Γ N f157 (.q [[none]] (D.bool r)) [1,0,1,0] (rest.length+1) (Fv aC (i1:Int)):=by
 intro rest
 induction rest with
 |nil=>
  intro i1 b9 h;rw[lf]at h;refine aV fun N1 cj cL=>?_
  exact((aX.ge tx b9).a [.hl 0 [1] [0]]).ex hΓ cj (dY h)
 |cons bS cZ ih1=>
  intro i1 b9 h;rw[lf]at h;refine aV fun N1 cj cL=>?_
  obtain⟨Sa,h22,h⟩:=aB h;have gG:=(((aX.lt tx b9).l (bJ tx 1 (dc b9) rfl)).g (jw h22))
  obtain⟨h23,h⟩|⟨h23,h⟩:=aO h
  ·have h:=aK h;subst h;exact(gG.b h23).ret hΓ
  ·exact((gG.b h23).a [.cn [1,3] [0]]).ct hΓ cL (iS b9 hm1) (ih1 (i1+1) (dn b9) h)
theorem ei{aC:aE}{r:Bool}(h:gq aC=some r):Good prog 157 [D.agg (aE.c aC)] (D.bool r):=by
 refine gd func157 [[none]] 27 fun hr Γ hΓ=>?_
 rw[gq]at h;refine(aX.a [.cn [1,3] [0]]).lp hΓ (EJ hΓ (fun h=>?_) (by have:=(iE.sl (iE.agg (hr _ (aD (i:=0) rfl)) (.sl (aC.args.map tx)) (by simp))).1;simpa using this) aC.args 0 rfl h);obtain⟨Gd,h25,h⟩:=aB h;obtain⟨h26,h⟩|⟨h26,h⟩:=aO h
 ·cases h;exact((aX.g (mc h25)).r 5 h26).ret hΓ
 ·have h:=aK h;subst h;exact((aX.g (mc h25)).r 5 h26).ret hΓ
def oO(aC:aN):Option Bool:=(bif (aC.kind:Int)==1 then((gq aC.pat).bind fun y2=>(bif y2 then(bif (aC.left:Bytes)==([])then(some ((aC.right:Bytes)==([])))else(some false))else(some false)))else(bif (aC.kind:Int)==2 then((gq aC.pat).bind fun y7=>(bif y7 then(bif (aC.left:Bytes)==([])then(some ((aC.right:Bytes)==([])))else(some false))else(some false)))else(bif (aC.kind:Int)==3 then(bif (aC.pat.rel:Bytes)==([])then(bif (((aC.pat.args.map tx).length:Int):Int)==0 then((ir aC.left).bind fun Au=>(bif Au then((ir aC.right).bind fun y17=>(some y17))else(some false)))else(some false))else(some false))else(bif (aC.kind:Int)==4 then(bif (aC.pat.rel:Bytes)==([])then(bif (((aC.pat.args.map tx).length:Int):Int)==0 then((ir aC.left).bind fun qM=>(bif qM then((ir aC.right).bind fun um=>(some um))else(some false)))else(some false))else(some false))else(bif (aC.kind:Int)==5 then(bif (aC.pat.rel:Bytes)==([])then(bif (((aC.pat.args.map tx).length:Int):Int)==0 then((ir aC.left).bind fun yM=>(bif yM then((ir aC.right).bind fun tG=>(some tG))else(some false)))else(some false))else(some false))else(some false))))))
theorem iP{aC:aN}{r:Bool}(h:oO aC=some r):Good prog 189 [D.agg (aN.c aC)] (D.bool r):=by
 refine gd func189 [[none]] 46 fun hr Γ hΓ=>?_
 rw[oO]at h;obtain⟨h1,h⟩|⟨h1,h⟩:=aO h
 ·obtain⟨y2,h3,h⟩:=aB h;have nB:=((aX.r 2 h1).g (ei h3))
  obtain⟨h4,h⟩|⟨h4,h⟩:=aO h
  ·have gG:=(nB.r 4 h4)
   obtain⟨h5,h⟩|⟨h5,h⟩:=aO h
   ·cases h;exact(gG.r 4 h5).ret hΓ
   ·have h:=aK h;subst h;exact(gG.r 4 h5).ret hΓ
  ·have h:=aK h;subst h;exact((nB.r 4 h4).F 4).ret hΓ
 ·obtain⟨h6,h⟩|⟨h6,h⟩:=aO h
  ·obtain⟨y7,h8,h⟩:=aB h;have kY:=(((aX.b h1).b h6).g (ei h8))
   obtain⟨h9,h⟩|⟨h9,h⟩:=aO h
   ·have kX:=(kY.r 4 h9)
    obtain⟨h10,h⟩|⟨h10,h⟩:=aO h
    ·cases h;exact(kX.r 4 h10).ret hΓ
    ·have h:=aK h;subst h;exact(kX.r 4 h10).ret hΓ
   ·have h:=aK h;subst h;exact((kY.r 4 h9).F 4).ret hΓ
  ·have sQ:=((aX.b h1).b h6)
   obtain⟨h11,h⟩|⟨h11,h⟩:=aO h
   ·have vQ:=(sQ.r 2 h11)
    obtain⟨h12,h⟩|⟨h12,h⟩:=aO h
    ·have yo:=(vQ.r 6 h12)
     obtain⟨h13,h⟩|⟨h13,h⟩:=aO h
     ·obtain⟨Au,h15,h⟩:=aB h;have Es:=(((yo.r 3 h13).g (jw h15)).b h13)
      obtain⟨h16,h⟩|⟨h16,h⟩:=aO h
      ·obtain⟨y17,h18,h⟩:=aB h;have h:=aK h;subst h;exact(((Es.r 3 h16).g (jw h18)).b h16).ret hΓ
      ·have h:=aK h;subst h;exact(Es.r 4 h16).ret hΓ
     ·have h:=aK h;subst h;exact((yo.r 4 h13).F 4).ret hΓ
    ·have h:=aK h;subst h;exact((vQ.r 6 h12).F 8).ret hΓ
   ·obtain⟨h19,h⟩|⟨h19,h⟩:=aO h
    ·have KU:=((sQ.b h11).r 2 h19)
     obtain⟨h20,h⟩|⟨h20,h⟩:=aO h
     ·have Bf:=(KU.r 6 h20)
      obtain⟨h21,h⟩|⟨h21,h⟩:=aO h
      ·obtain⟨qM,h23,h⟩:=aB h;have Iy:=(((Bf.r 3 h21).g (jw h23)).b h21)
       obtain⟨h24,h⟩|⟨h24,h⟩:=aO h
       ·obtain⟨um,h26,h⟩:=aB h;have h:=aK h;subst h;exact(((Iy.r 3 h24).g (jw h26)).b h24).ret hΓ
       ·have h:=aK h;subst h;exact(Iy.r 4 h24).ret hΓ
      ·have h:=aK h;subst h;exact((Bf.r 4 h21).F 4).ret hΓ
     ·have h:=aK h;subst h;exact((KU.r 6 h20).F 8).ret hΓ
    ·have Da:=((sQ.b h11).b h19)
     obtain⟨h27,h⟩|⟨h27,h⟩:=aO h
     ·obtain⟨h28,h⟩|⟨h28,h⟩:=aO h
      ·have Iz:=((Da.b h27).r 6 h28)
       obtain⟨h29,h⟩|⟨h29,h⟩:=aO h
       ·obtain⟨yM,h31,h⟩:=aB h;have MK:=(((Iz.r 3 h29).g (jw h31)).b h29)
        obtain⟨h32,h⟩|⟨h32,h⟩:=aO h
        ·obtain⟨tG,h34,h⟩:=aB h;have h:=aK h;subst h;exact(((MK.r 3 h32).g (jw h34)).b h32).ret hΓ
        ·have h:=aK h;subst h;exact(MK.r 4 h32).ret hΓ
       ·have h:=aK h;subst h;exact((Iz.r 4 h29).F 4).ret hΓ
      ·have h:=aK h;subst h;exact(((Da.b h27).r 6 h28).F 8).ret hΓ
     ·have h:=aK h;subst h;exact(Da.b h27).ret hΓ
def mB(aC:aN):Option aG:=((nF aC.pat).bind fun y1=>((gZ aC.left).bind fun y3=>(bif y3 then((lG y1 aC.left).bind fun y6=>((gZ aC.right).bind fun y8=>(bif y8 then((lG y6 aC.right).bind fun Cc=>(some Cc))else(some y6))))else((gZ aC.right).bind fun uP=>(bif uP then((lG y1 aC.right).bind fun Mj=>(some Mj))else(some y1))))))
theorem pz{aC:aN}{r:aG}(h:mB aC=some r):Good prog 190 [D.agg (aN.c aC)] (D.fr 9 1 (r.map tx)):=by
 refine gd func190 [[some (9,1)]] 22 fun hr Γ hΓ=>?_
 rw[mB]at h;obtain⟨y1,h2,h⟩:=aB h;obtain⟨y3,h4,h⟩:=aB h;have nB:=((aX.g (oz h2)).g (fJ h4))
 obtain⟨h5,h⟩|⟨h5,h⟩:=aO h
 ·obtain⟨y6,h7,h⟩:=aB h;obtain⟨y8,h9,h⟩:=aB h;have gG:=(((nB.b h5).g (lH h7)).g (fJ h9))
  obtain⟨h10,h⟩|⟨h10,h⟩:=aO h
  ·obtain⟨Cc,h12,h⟩:=aB h;have h:=aK h;subst h;exact((gG.b h10).g (lH h12)).ret hΓ
  ·have h:=aK h;subst h;exact(gG.b h10).ret hΓ
 ·obtain⟨uP,h14,h⟩:=aB h;have kY:=((nB.b h5).g (fJ h14))
  obtain⟨h15,h⟩|⟨h15,h⟩:=aO h
  ·obtain⟨Mj,h17,h⟩:=aB h;have h:=aK h;subst h;exact((kY.b h15).g (lH h17)).ret hΓ
  ·have h:=aK h;subst h;exact(kY.b h15).ret hΓ
def qW(aC:aN):Option Bool:=((oO aC).bind fun y1=>(bif y1 then(some (decide ((aC.kind:Int)>=3)))else(some false)))
theorem rp{aC:aN}{r:Bool}(h:qW aC=some r):Good prog 192 [D.agg (aN.c aC)] (D.bool r):=by
 refine gd func192 [[none]] 10 fun hr Γ hΓ=>?_
 rw[qW]at h;obtain⟨y1,h2,h⟩:=aB h;obtain⟨h3,h⟩|⟨h3,h⟩:=aO h
 ·cases h;exact((aX.g (iP h2)).r 4 h3).ret hΓ
 ·have h:=aK h;subst h;exact((aX.g (iP h2)).r 4 h3).ret hΓ
def fW(aC:aI)(aZ:Int)(ck:Bytes)(k1:Option Bool):ah->Nat->Option Bool
 | [],i1=>(k1)
 |bS::cZ,i1=>(bif ((i1:Int):Int) != aZ then((mB bS).bind fun Dg=>((fw Dg ck).bind fun PK=>(bif PK then(some true)else(fW aC aZ ck k1 cZ (i1+1)))))else(fW aC aZ ck k1 cZ (i1+1)))
def iC(aC:aI)(ck:Bytes)(k2:Option Bool):dw->Nat->Option Bool
 | [],i2=>(k2)
 |nD::uO,i2=>((nF nD.pat).bind fun y67=>((fw y67 ck).bind fun y69=>(bif y69 then(some true)else(iC aC ck k2 uO (i2+1)))))
def n7(aC:aI)(aZ:Int)(ck:Bytes):Option Bool:=(fW aC aZ ck (iC aC ck (some false) aC.cM 0) aC.conds 0)
def DT(aC:aI)(aZ:Int)(ck:Bytes)(dP:Int):St:=⟨[(1,D.int .i64 aZ),(2,D.str ck),(3,D.ptr 0 0),(7,D.int .i64 dP)],[Ob.box (aI.c aC)]⟩
theorem CM(hΓ:Γ.nt=45){aC:aI}{aZ:Int}{ck:Bytes}{r:Bool}{k1:Option Bool}(dY:k1=some r->Ax Γ N f193 (.q [[none]] (D.bool r)) [1,1] ⟨[(2,D.str ck),(3,D.ptr 0 0)],[Ob.box (aI.c aC)]⟩)(hm1:aC.conds.length<=maxLen):∀(rest:ah) (i1:Nat),aC.conds.drop i1=rest->fW aC aZ ck k1 rest i1=some r->Ar Γ N f193 (.q [[none]] (D.bool r)) [1,0,1,0] (rest.length+1) (DT aC aZ ck (i1:Int)):=by
 intro rest
 induction rest with
 |nil=>
  intro i1 b9 h;rw[fW]at h;refine aV fun N1 cj cL=>?_
  exact((aX.ge aN.c b9).a [.hl 0 [2,3] [0]]).ex hΓ cj (dY h)
 |cons bS cZ ih1=>
  intro i1 b9 h;rw[fW]at h;refine aV fun N1 cj cL=>?_
  obtain⟨h33,h⟩|⟨h33,h⟩:=aO h
  ·obtain⟨Dg,h35,h⟩:=aB h;obtain⟨PK,h37,h⟩:=aB h;have kY:=((((((((aX.lt aN.c b9).r 4 h33).l (bJ aN.c 5 (dc b9) rfl)).r 2 h33).g (pz h35)).r 2 h33).g (jc h37)).b h33)
   obtain⟨h38,h⟩|⟨h38,h⟩:=aO h
   ·have h:=aK h;subst h;exact(kY.b h38).ret hΓ
   ·exact((kY.b h38).a [.cn [1,2,3,7] [0]]).ct hΓ cL (iS b9 hm1) (ih1 (i1+1) (dn b9) h)
  ·exact((((aX.lt aN.c b9).r 9 h33).F 1).a [.cn [1,2,3,7] [0]]).ct hΓ cL (iS b9 hm1) (ih1 (i1+1) (dn b9) h)
def DU(aC:aI)(ck:Bytes)(dP:Int):St:=⟨[(2,D.str ck),(3,D.ptr 0 0),(8,D.int .i64 dP)],[Ob.box (aI.c aC)]⟩
theorem CN(hΓ:Γ.nt=45){aC:aI}{ck:Bytes}{r:Bool}{k2:Option Bool}(AR:k2=some r->Ax Γ N f193 (.q [[none]] (D.bool r)) [1,1,1] ⟨[],[]⟩)(hm2:aC.cM.length<=maxLen):∀(rest:dw) (i2:Nat),aC.cM.drop i2=rest->iC aC ck k2 rest i2=some r->Ar Γ N f193 (.q [[none]] (D.bool r)) [1,1,0,1,0] (rest.length+1) (DU aC ck (i2:Int)):=by
 intro rest
 induction rest with
 |nil=>
  intro i2 hd2 h;rw[iC]at h;refine aV fun N2 uk tD=>?_
  exact((aX.ge Action.c hd2).a [.hl 0 [] []]).ex hΓ uk (AR h)
 |cons nD uO ih2=>
  intro i2 hd2 h;rw[iC]at h;refine aV fun N2 uk tD=>?_
  obtain⟨y67,h68,h⟩:=aB h;obtain⟨y69,h70,h⟩:=aB h;have kX:=((((aX.lt Action.c hd2).l (bJ Action.c 3 (dc hd2) rfl)).g (oz h68)).g (jc h70))
  obtain⟨h71,h⟩|⟨h71,h⟩:=aO h
  ·have h:=aK h;subst h;exact(kX.b h71).ret hΓ
  ·exact((kX.b h71).a [.cn [2,3,8] [0]]).ct hΓ tD (iS hd2 hm2) (ih2 (i2+1) (dn hd2) h)
theorem vO{aC:aI}{aZ:Int}{ck:Bytes}{r:Bool}(h:n7 aC aZ ck=some r):Good prog 193 [D.agg (aI.c aC),D.int .i64 aZ,D.str ck] (D.bool r):=by
 refine gd func193 [[none]] 45 fun hr Γ hΓ=>?_
 rw[n7]at h;refine(aX.a [.cn [1,2,3,7] [0]]).lp hΓ (CM hΓ (fun h=>?_) (by have:=(iE.sl (iE.agg (hr _ (aD (i:=0) rfl)) (.sl (aC.conds.map aN.c)) (by simp))).1;simpa using this) aC.conds 0 rfl h);refine(aX.a [.cn [2,3,8] [0]]).lp hΓ (CN hΓ (fun h=>?_) (by have:=(iE.sl (iE.agg (hr _ (aD (i:=0) rfl)) (.sl (aC.cM.map Action.c)) (by simp))).1;simpa using this) aC.cM 0 rfl h);have h:=aK h;subst h;exact aX.ret hΓ
def sG(aC:Action):Option Bool:=(bif (aC.kind:Int)==1 then((gq aC.pat).bind fun y2=>(some y2))else(bif (aC.kind:Int)==2 then((gq aC.pat).bind fun y5=>(some y5))else(bif (aC.kind:Int)==3 then(bif (aC.pat.rel:Bytes)==([])then(some ((((aC.pat.args.map tx).length:Int):Int)==0))else(some false))else(some false))))
theorem EF{aC:Action}{r:Bool}(h:sG aC=some r):Good prog 194 [D.agg (Action.c aC)] (D.bool r):=by
 refine gd func194 [[none]] 24 fun hr Γ hΓ=>?_
 rw[sG]at h;obtain⟨h1,h⟩|⟨h1,h⟩:=aO h
 ·obtain⟨y2,h3,h⟩:=aB h;have h:=aK h;subst h;exact((aX.r 2 h1).g (ei h3)).ret hΓ
 ·obtain⟨h4,h⟩|⟨h4,h⟩:=aO h
  ·obtain⟨y5,h6,h⟩:=aB h;have h:=aK h;subst h;exact(((aX.b h1).b h4).g (ei h6)).ret hΓ
  ·have nB:=((aX.b h1).b h4)
   obtain⟨h7,h⟩|⟨h7,h⟩:=aO h
   ·obtain⟨h8,h⟩|⟨h8,h⟩:=aO h
    ·cases h;exact((nB.b h7).r 6 h8).ret hΓ
    ·have h:=aK h;subst h;exact((nB.b h7).r 6 h8).ret hΓ
   ·have h:=aK h;subst h;exact(nB.b h7).ret hΓ
def jx(aC:aI)(i1:Nat)(AF:aG)(k2:aG->Option aG):aG->Nat->aG->Option aG
 | [],i2,eE=>(k2 eE)
 |nD::uO,i2,eE=>((lG eE nD).bind fun a3x=>(jx aC i1 AF k2 uO (i2+1) a3x))
def iU(aC:aI)(k1:aG->Option aG):ah->Nat->aG->Option aG
 | [],i1,bQ=>(k1 bQ)
 |bS::cZ,i1,bQ=>((mB bS).bind fun AF=>(bif decide (AF.length<=maxLen)then(jx aC i1 AF (fun(qd:aG)=>(iU aC k1 cZ (i1+1) qd)) AF 0 bQ)else none))
def jy(aC:aI)(i3:Nat)(JH:aG)(k4:aG->Option aG):aG->Nat->aG->Option aG
 | [],i4,PA=>(k4 PA)
 |x4_::xs4,i4,PA=>((lG PA x4_).bind fun a3z=>(jy aC i3 JH k4 xs4 (i4+1) a3z))
def ga(aC:aI)(k3:aG->Option aG):dw->Nat->aG->Option aG
 | [],i3,yL=>(k3 yL)
 |Nt::Mi,i3,yL=>((nF Nt.pat).bind fun JH=>(bif decide (JH.length<=maxLen)then(jy aC i3 JH (fun(Uh:aG)=>(ga aC k3 Mi (i3+1) Uh)) JH 0 yL)else none))
def sI(aC:aI):Option aG:=(iU aC (fun(lN:aG)=>(ga aC (fun(XS:aG)=>(some XS)) aC.cM 0 lN)) aC.conds 0 ([]:aG))
def Gx(aC:aI)(W0:List aL)(dP:Int):St:=⟨[(1,D.ptr 0 0),(3,D.acc 1),(4,D.int .i64 dP)],[Ob.box (aI.c aC),Ob.row .uq 9 1 W0]⟩
def Gy(aC:aI)(i1:Nat)(AF:aG)(W0:List aL)(dP:Int):St:=⟨[(1,D.ptr 0 0),(3,D.acc 1),(4,D.int .i64 (i1:Int)),(5,D.acc 2),(6,D.int .i64 dP)],[Ob.box (aI.c aC),Ob.row .uq 9 1 W0,Ob.row .uq 9 1 (AF.map tx)]⟩
theorem G0(hΓ:Γ.nt=63){aC:aI}{i1:Nat}{AF:aG}{r:aG}{k2:aG->Option aG}(AR:∀(qd:aG),k2 qd=some r->Ax Γ N f196 (.q [[some (9,1)]] (D.fr 9 1 (r.map tx))) [1,1,0,1,0,0,1,1] ⟨[(1,D.ptr 0 0),(3,D.acc 1),(4,D.int .i64 (i1:Int))],[Ob.box (aI.c aC),Ob.row .uq 9 1 (qd.map tx)]⟩)(hm2:AF.length<=maxLen):∀(rest:aG) (i2:Nat) (eE:aG),AF.drop i2=rest->jx aC i1 AF k2 rest i2 eE=some r->Ar Γ N f196 (.q [[some (9,1)]] (D.fr 9 1 (r.map tx))) [1,1,0,1,0,0,1,0,0,1,1,0] (rest.length+1) (Gy aC i1 AF (eE.map tx) (i2:Int)):=by
 intro rest
 induction rest with
 |nil=>
  intro i2 eE hd2 h;rw[jx]at h;refine aV fun N2 uk tD=>?_
  exact((aX.ge tx hd2).a [.hl 3 [1,3,4] [0,1]]).ex hΓ uk (AR eE h)
 |cons nD uO ih2=>
  intro i2 eE hd2 h;rw[jx]at h;refine aV fun N2 uk tD=>?_
  obtain⟨a3x,h172,h⟩:=aB h;exact(((((aX.lt tx hd2).i (mK tx 1 (dc hd2))).o 1 1 .uq (cX tx (dc hd2))).g (lH h172)).a [.cn [1,3,4,5,6] [0,3,2]]).ct hΓ tD (iS hd2 hm2) (ih2 (i2+1) a3x (dn hd2) h)
theorem Fz(hΓ:Γ.nt=63){aC:aI}{r:aG}{k1:aG->Option aG}(dY:∀(lN:aG),k1 lN=some r->Ax Γ N f196 (.q [[some (9,1)]] (D.fr 9 1 (r.map tx))) [1,1,1] ⟨[(1,D.ptr 0 0),(3,D.acc 1)],[Ob.box (aI.c aC),Ob.row .uq 9 1 (lN.map tx)]⟩)(hm1:aC.conds.length<=maxLen):∀(rest:ah) (i1:Nat) (bQ:aG),aC.conds.drop i1=rest->iU aC k1 rest i1 bQ=some r->Ar Γ N f196 (.q [[some (9,1)]] (D.fr 9 1 (r.map tx))) [1,1,0,1,0] (rest.length+1) (Gx aC (bQ.map tx) (i1:Int)):=by
 intro rest
 induction rest with
 |nil=>
  intro i1 bQ b9 h;rw[iU]at h;refine aV fun N1 cj cL=>?_
  exact((aX.ge aN.c b9).a [.hl 0 [1,3] [0,1]]).ex hΓ cj (dY bQ h)
 |cons bS cZ ih1=>
  intro i1 bQ b9 h;rw[iU]at h;refine aV fun N1 cj cL=>?_
  obtain⟨AF,h148,h⟩:=aB h;obtain⟨h173,h⟩:=bU h;refine((((aX.lt aN.c b9).l (bJ aN.c 5 (dc b9) rfl)).g (pz h148)).a [.cn [1,3,4,5,6] [0,1,2]]).lp hΓ (G0 hΓ (fun qd h=>?_) (bY h173) AF 0 bQ rfl h);exact(aX.a [.cn [1,3,4] [0,1]]).ct hΓ cL (iS b9 hm1) (ih1 (i1+1) qd (dn b9) h)
def Gz(aC:aI)(W0:List aL)(dP:Int):St:=⟨[(1,D.ptr 0 0),(3,D.acc 1),(7,D.int .i64 dP)],[Ob.box (aI.c aC),Ob.row .uq 9 1 W0]⟩
def H6(aC:aI)(i3:Nat)(JH:aG)(W0:List aL)(dP:Int):St:=⟨[(1,D.ptr 0 0),(3,D.acc 1),(7,D.int .i64 (i3:Int)),(8,D.acc 2),(9,D.int .i64 dP)],[Ob.box (aI.c aC),Ob.row .uq 9 1 W0,Ob.row .uq 9 1 (JH.map tx)]⟩
theorem G2(hΓ:Γ.nt=63){aC:aI}{i3:Nat}{JH:aG}{r:aG}{k4:aG->Option aG}(hE4:∀(Uh:aG),k4 Uh=some r->Ax Γ N f196 (.q [[some (9,1)]] (D.fr 9 1 (r.map tx))) [1,1,1,0,1,0,0,1,1] ⟨[(1,D.ptr 0 0),(3,D.acc 1),(7,D.int .i64 (i3:Int))],[Ob.box (aI.c aC),Ob.row .uq 9 1 (Uh.map tx)]⟩)(hm4:JH.length<=maxLen):∀(rest:aG) (i4:Nat) (PA:aG),JH.drop i4=rest->jy aC i3 JH k4 rest i4 PA=some r->Ar Γ N f196 (.q [[some (9,1)]] (D.fr 9 1 (r.map tx))) [1,1,1,0,1,0,0,1,0,0,1,1,0] (rest.length+1) (H6 aC i3 JH (PA.map tx) (i4:Int)):=by
 intro rest
 induction rest with
 |nil=>
  intro i4 PA RX h;rw[jy]at h;refine aV fun N4 hN4 hS4=>?_
  exact((aX.ge tx RX).a [.hl 3 [1,3,7] [0,1]]).ex hΓ hN4 (hE4 PA h)
 |cons x4_ xs4 ih4=>
  intro i4 PA RX h;rw[jy]at h;refine aV fun N4 hN4 hS4=>?_
  obtain⟨a3z,h345,h⟩:=aB h;exact(((((aX.lt tx RX).i (mK tx 1 (dc RX))).o 1 1 .uq (cX tx (dc RX))).g (lH h345)).a [.cn [1,3,7,8,9] [0,3,2]]).ct hΓ hS4 (iS RX hm4) (ih4 (i4+1) a3z (dn RX) h)
theorem G1(hΓ:Γ.nt=63){aC:aI}{r:aG}{k3:aG->Option aG}(Vw:∀(XS:aG),k3 XS=some r->Ax Γ N f196 (.q [[some (9,1)]] (D.fr 9 1 (r.map tx))) [1,1,1,1] ⟨[(3,D.acc 0)],[Ob.row .uq 9 1 (XS.map tx)]⟩)(PF:aC.cM.length<=maxLen):∀(rest:dw) (i3:Nat) (yL:aG),aC.cM.drop i3=rest->ga aC k3 rest i3 yL=some r->Ar Γ N f196 (.q [[some (9,1)]] (D.fr 9 1 (r.map tx))) [1,1,1,0,1,0] (rest.length+1) (Gz aC (yL.map tx) (i3:Int)):=by
 intro rest
 induction rest with
 |nil=>
  intro i3 yL wD h;rw[ga]at h;refine aV fun N3 Q3 Lm=>?_
  exact((aX.ge Action.c wD).a [.hl 0 [3] [1]]).ex hΓ Q3 (Vw yL h)
 |cons Nt Mi ih3=>
  intro i3 yL wD h;rw[ga]at h;refine aV fun N3 Q3 Lm=>?_
  obtain⟨JH,h321,h⟩:=aB h;obtain⟨h346,h⟩:=bU h;refine((((aX.lt Action.c wD).l (bJ Action.c 3 (dc wD) rfl)).g (oz h321)).a [.cn [1,3,7,8,9] [0,1,2]]).lp hΓ (G2 hΓ (fun Uh h=>?_) (bY h346) JH 0 yL rfl h);exact(aX.a [.cn [1,3,7] [0,1]]).ct hΓ Lm (iS wD PF) (ih3 (i3+1) Uh (dn wD) h)
theorem EO{aC:aI}{r:aG}(h:sI aC=some r):Good prog 196 [D.agg (aI.c aC)] (D.fr 9 1 (r.map tx)):=by
 refine gd func196 [[some (9,1)]] 63 fun hr Γ hΓ=>?_
 rw[sI]at h;refine(aX.a [.cn [1,3,4] [0,1]]).lp hΓ (Fz hΓ (fun lN h=>?_) (by have:=(iE.sl (iE.agg (hr _ (aD (i:=0) rfl)) (.sl (aC.conds.map aN.c)) (by simp))).1;simpa using this) aC.conds 0 ([]:aG) rfl h);refine(aX.a [.cn [1,3,7] [0,1]]).lp hΓ (G1 hΓ (fun XS h=>?_) (by have:=(iE.sl (iE.agg (hr _ (aD (i:=0) rfl)) (.sl (aC.cM.map Action.c)) (by simp))).1;simpa using this) aC.cM 0 lN rfl h);have h:=aK h;subst h;exact aX.ret hΓ
def fo(aC:aI)(uP:aG)(i1:Nat)(bS:aN)(JK:aG)(Dd:aG)(k2:Option Bool):aG->Nat->Option Bool
 | [],i2=>(k2)
 |nD::uO,i2=>((fw JK nD).bind fun a41=>((qW bS).bind fun a6v=>(bif a6v then(bif !(a41)then(some false)else(bif (bS.kind:Int)==2 then(fo aC uP i1 bS JK Dd k2 uO (i2+1))else(fo aC uP i1 bS JK Dd k2 uO (i2+1))))else(bif (bS.kind:Int)==2 then(bif !(a41)then((n7 aC (i1:Int) nD).bind fun a6w=>(bif a6w then(some false)else(fo aC uP i1 bS JK Dd k2 uO (i2+1))))else(fo aC uP i1 bS JK Dd k2 uO (i2+1)))else(fo aC uP i1 bS JK Dd k2 uO (i2+1))))))
def fp(aC:aI)(uP:aG)(i1:Nat)(bS:aN)(JL:aG)(De:aG)(k3:Option Bool):aG->Nat->Option Bool
 | [],i3=>(k3)
 |Nt::Mi,i3=>((fw JL Nt).bind fun a43=>((qW bS).bind fun a6x=>(bif a6x then(bif !(a43)then(some false)else(bif (bS.kind:Int)==2 then(fp aC uP i1 bS JL De k3 Mi (i3+1))else(fp aC uP i1 bS JL De k3 Mi (i3+1))))else(bif (bS.kind:Int)==2 then(bif !(a43)then((n7 aC (i1:Int) Nt).bind fun a6y=>(bif a6y then(some false)else(fp aC uP i1 bS JL De k3 Mi (i3+1))))else(fp aC uP i1 bS JL De k3 Mi (i3+1)))else(fp aC uP i1 bS JL De k3 Mi (i3+1))))))
def kK(aC:aI)(uP:aG)(k1:Option Bool):ah->Nat->Option Bool
 | [],i1=>(k1)
 |bS::cZ,i1=>((oO bS).bind fun a6t=>(bif !(a6t)then(some false)else(bif ((i1:Int):Int)==0 then(bif (bS.kind:Int) != 1 then(some false)else((kI aC (i1:Int)).bind fun JK=>((mB bS).bind fun Dd=>(bif decide (Dd.length<=maxLen)then(fo aC uP i1 bS JK Dd (kK aC uP k1 cZ (i1+1)) Dd 0)else none))))else((kI aC (i1:Int)).bind fun JL=>((mB bS).bind fun De=>(bif decide (De.length<=maxLen)then(fp aC uP i1 bS JL De (kK aC uP k1 cZ (i1+1)) De 0)else none))))))
def mi(aC:aI)(uP:aG)(i4:Nat)(JM:aG)(k5:Option Bool):aG->Nat->Option Bool
 | [],i5=>(k5)
 |x5_::xs5,i5=>((fw uP x5_).bind fun a71=>(bif !(a71)then(some false)else(mi aC uP i4 JM k5 xs5 (i5+1))))
def mh(aC:aI)(uP:aG)(k4:Option Bool):dw->Nat->Option Bool
 | [],i4=>(k4)
 |x4_::xs4,i4=>((sG x4_).bind fun a6z=>(bif !(a6z)then(some false)else((nF x4_.pat).bind fun JM=>(bif decide (JM.length<=maxLen)then(mi aC uP i4 JM (mh aC uP k4 xs4 (i4+1)) JM 0)else none))))
def kn(aC:aI):Option Bool:=((qV aC.name).bind fun y1=>(bif !(y1)then(some false)else((jW aC.prio 0 9).bind fun y4=>(bif !(y4)then(some false)else((jW ((aC.conds.map aN.c).length:Int) 1 4).bind fun y7=>(bif !(y7)then(some false)else((jW ((aC.cM.map Action.c).length:Int) 1 2).bind fun Dc=>(bif !(Dc)then(some false)else((kI aC ((aC.conds.map aN.c).length:Int)).bind fun uP=>(kK aC uP (mh aC uP ((sI aC).bind fun a73=>(some (decide ((((a73.map tx).length:Int):Int)<=6)))) aC.cM 0) aC.conds 0))))))))))
def Ja(aC:aI)(uP:aG)(dP:Int):St:=⟨[(1,D.ptr 0 0),(3,D.acc 1),(4,D.int .i64 dP)],[Ob.box (aI.c aC),Ob.row .uq 9 1 (uP.map tx)]⟩
def Jb(aC:aI)(uP:aG)(i1:Nat)(bS:aN)(JK:aG)(Dd:aG)(dP:Int):St:=⟨[(1,D.ptr 0 0),(3,D.acc 1),(4,D.int .i64 (i1:Int)),(5,D.ptr 2 0),(6,D.acc 3),(7,D.acc 4),(8,D.int .i64 dP)],[Ob.box (aI.c aC),Ob.row .uq 9 1 (uP.map tx),Ob.box [D.int .i64 bS.kind,D.str bS.pat.rel,D.sl (bS.pat.args.map tx),D.str bS.left,D.str bS.right],Ob.row .uq 9 1 (JK.map tx),Ob.row .uq 9 1 (Dd.map tx)]⟩
theorem IA(hΓ:Γ.nt=145){aC:aI}{uP:aG}{i1:Nat}{bS:aN}{JK:aG}{Dd:aG}{r:Bool}{k2:Option Bool}(AR:k2=some r->Ax Γ N f128 (.q [[none]] (D.bool r)) [1,1,1,0,1,0,0,1,1] ⟨[(1,D.ptr 0 0),(3,D.acc 1),(4,D.int .i64 (i1:Int))],[Ob.box (aI.c aC),Ob.row .uq 9 1 (uP.map tx)]⟩)(hm2:Dd.length<=maxLen):∀(rest:aG) (i2:Nat),Dd.drop i2=rest->fo aC uP i1 bS JK Dd k2 rest i2=some r->Ar Γ N f128 (.q [[none]] (D.bool r)) [1,1,1,0,1,0,0,1,0,0,1,1,1,1,1,0] (rest.length+1) (Jb aC uP i1 bS JK Dd (i2:Int)):=by
 intro rest
 induction rest with
 |nil=>
  intro i2 hd2 h;rw[fo]at h;refine aV fun N2 uk tD=>?_
  exact((aX.ge tx hd2).a [.hl 3 [1,3,4] [0,1]]).ex hΓ uk (AR h)
 |cons nD uO ih2=>
  intro i2 hd2 h;rw[fo]at h;refine aV fun N2 uk tD=>?_
  obtain⟨a41,h711,h⟩:=aB h;obtain⟨a6v,h713,h⟩:=aB h;have a1B:=((((((aX.lt tx hd2).i (mK tx 1 (dc hd2))).o 1 1 .uq (cX tx (dc hd2))).g (jc h711)).a [.n 21]).g (rp h713))
  obtain⟨h714,h⟩|⟨h714,h⟩:=aO h
  ·have a1C:=(a1B.r 3 h714)
   obtain⟨h715,h⟩|⟨h715,h⟩:=aO h
   ·have h:=aK h;subst h;exact((((((a1C.r 4 h715).a [bF,bF]).r 2 h715).a [bF,bF,bF,bF,bF,bF,bF]).r 2 h715).T 1).ret hΓ
   ·have a1D:=(a1C.r 4 h715)
    obtain⟨h716,h⟩|⟨h716,h⟩:=aO h
    ·exact((((((a1D.r 2 h716).b h715).b h716).r 11 h715).F 1).a [.cn [1,3,4,5,6,7,8] [0,1,2,3,4]]).ct hΓ tD (iS hd2 hm2) (ih2 (i2+1) (dn hd2) h)
    ·exact((((((((((a1D.r 2 h716).b h715).b h716).b h715).F 7).b h715).F 1).b h715).F 1).a [.cn [1,3,4,5,6,7,8] [0,1,2,3,4]]).ct hΓ tD (iS hd2 hm2) (ih2 (i2+1) (dn hd2) h)
  ·have a1E:=((a1B.r 3 h714).F 4)
   obtain⟨h717,h⟩|⟨h717,h⟩:=aO h
   ·have a1F:=((((a1E.r 2 h717).F 1).b h717).F 1)
    obtain⟨h718,h⟩|⟨h718,h⟩:=aO h
    ·obtain⟨a6w,h720,h⟩:=aB h;have a1G:=(((((((((a1F.r 5 h718).i (mK tx 1 (dc hd2))).b h718).o 1 1 .uq (cX tx (dc hd2))).b h718).g (vO h720)).F 1).b h718).F 1)
     obtain⟨h721,h⟩|⟨h721,h⟩:=aO h
     ·have h:=aK h;subst h;exact(a1G.b h721).ret hΓ
     ·exact((a1G.b h721).a [.cn [1,3,4,5,6,7,8] [0,1,2,3,4]]).ct hΓ tD (iS hd2 hm2) (ih2 (i2+1) (dn hd2) h)
    ·exact(((((a1F.r 7 h718).F 1).b h718).F 2).a [.cn [1,3,4,5,6,7,8] [0,1,2,3,4]]).ct hΓ tD (iS hd2 hm2) (ih2 (i2+1) (dn hd2) h)
   ·exact(((((a1E.r 2 h717).F 1).b h717).F 12).a [.cn [1,3,4,5,6,7,8] [0,1,2,3,4]]).ct hΓ tD (iS hd2 hm2) (ih2 (i2+1) (dn hd2) h)
def Jc(aC:aI)(uP:aG)(i1:Nat)(bS:aN)(JL:aG)(De:aG)(dP:Int):St:=⟨[(1,D.ptr 0 0),(3,D.acc 1),(4,D.int .i64 (i1:Int)),(5,D.ptr 2 0),(6,D.acc 3),(7,D.acc 4),(8,D.int .i64 dP)],[Ob.box (aI.c aC),Ob.row .uq 9 1 (uP.map tx),Ob.box [D.int .i64 bS.kind,D.str bS.pat.rel,D.sl (bS.pat.args.map tx),D.str bS.left,D.str bS.right],Ob.row .uq 9 1 (JL.map tx),Ob.row .uq 9 1 (De.map tx)]⟩
theorem IB(hΓ:Γ.nt=145){aC:aI}{uP:aG}{i1:Nat}{bS:aN}{JL:aG}{De:aG}{r:Bool}{k3:Option Bool}(Vw:k3=some r->Ax Γ N f128 (.q [[none]] (D.bool r)) [1,1,1,0,1,0,0,1,1] ⟨[(1,D.ptr 0 0),(3,D.acc 1),(4,D.int .i64 (i1:Int))],[Ob.box (aI.c aC),Ob.row .uq 9 1 (uP.map tx)]⟩)(PF:De.length<=maxLen):∀(rest:aG) (i3:Nat),De.drop i3=rest->fp aC uP i1 bS JL De k3 rest i3=some r->Ar Γ N f128 (.q [[none]] (D.bool r)) [1,1,1,0,1,0,0,1,0,0,1,1,1,1,1,0] (rest.length+1) (Jc aC uP i1 bS JL De (i3:Int)):=by
 intro rest
 induction rest with
 |nil=>
  intro i3 wD h;rw[fp]at h;refine aV fun N3 Q3 Lm=>?_
  exact((aX.ge tx wD).a [.hl 3 [1,3,4] [0,1]]).ex hΓ Q3 (Vw h)
 |cons Nt Mi ih3=>
  intro i3 wD h;rw[fp]at h;refine aV fun N3 Q3 Lm=>?_
  obtain⟨a43,h786,h⟩:=aB h;obtain⟨a6x,h788,h⟩:=aB h;have a1H:=((((((aX.lt tx wD).i (mK tx 1 (dc wD))).o 1 1 .uq (cX tx (dc wD))).g (jc h786)).a [.n 21]).g (rp h788))
  obtain⟨h789,h⟩|⟨h789,h⟩:=aO h
  ·have a1I:=(a1H.r 3 h789)
   obtain⟨h790,h⟩|⟨h790,h⟩:=aO h
   ·have h:=aK h;subst h;exact((((((a1I.r 4 h790).a [bF,bF]).r 2 h790).a [bF,bF,bF,bF,bF,bF,bF]).r 2 h790).T 1).ret hΓ
   ·have a1J:=(a1I.r 4 h790)
    obtain⟨h791,h⟩|⟨h791,h⟩:=aO h
    ·exact((((((a1J.r 2 h791).b h790).b h791).r 11 h790).F 1).a [.cn [1,3,4,5,6,7,8] [0,1,2,3,4]]).ct hΓ Lm (iS wD PF) (ih3 (i3+1) (dn wD) h)
    ·exact((((((((((a1J.r 2 h791).b h790).b h791).b h790).F 7).b h790).F 1).b h790).F 1).a [.cn [1,3,4,5,6,7,8] [0,1,2,3,4]]).ct hΓ Lm (iS wD PF) (ih3 (i3+1) (dn wD) h)
  ·have a1K:=((a1H.r 3 h789).F 4)
   obtain⟨h792,h⟩|⟨h792,h⟩:=aO h
   ·have a1L:=((((a1K.r 2 h792).F 1).b h792).F 1)
    obtain⟨h793,h⟩|⟨h793,h⟩:=aO h
    ·obtain⟨a6y,h795,h⟩:=aB h;have a1M:=(((((((((a1L.r 5 h793).i (mK tx 1 (dc wD))).b h793).o 1 1 .uq (cX tx (dc wD))).b h793).g (vO h795)).F 1).b h793).F 1)
     obtain⟨h796,h⟩|⟨h796,h⟩:=aO h
     ·have h:=aK h;subst h;exact(a1M.b h796).ret hΓ
     ·exact((a1M.b h796).a [.cn [1,3,4,5,6,7,8] [0,1,2,3,4]]).ct hΓ Lm (iS wD PF) (ih3 (i3+1) (dn wD) h)
    ·exact(((((a1L.r 7 h793).F 1).b h793).F 2).a [.cn [1,3,4,5,6,7,8] [0,1,2,3,4]]).ct hΓ Lm (iS wD PF) (ih3 (i3+1) (dn wD) h)
   ·exact(((((a1K.r 2 h792).F 1).b h792).F 12).a [.cn [1,3,4,5,6,7,8] [0,1,2,3,4]]).ct hΓ Lm (iS wD PF) (ih3 (i3+1) (dn wD) h)
theorem I9(hΓ:Γ.nt=145){aC:aI}{uP:aG}{r:Bool}{k1:Option Bool}(dY:k1=some r->Ax Γ N f128 (.q [[none]] (D.bool r)) [1,1,1,1] ⟨[(1,D.ptr 0 0),(3,D.acc 1)],[Ob.box (aI.c aC),Ob.row .uq 9 1 (uP.map tx)]⟩)(hm1:aC.conds.length<=maxLen):∀(rest:ah) (i1:Nat),aC.conds.drop i1=rest->kK aC uP k1 rest i1=some r->Ar Γ N f128 (.q [[none]] (D.bool r)) [1,1,1,0,1,0] (rest.length+1) (Ja aC uP (i1:Int)):=by
 intro rest
 induction rest with
 |nil=>
  intro i1 b9 h;rw[kK]at h;refine aV fun N1 cj cL=>?_
  exact((aX.ge aN.c b9).a [.hl 0 [1,3] [0,1]]).ex hΓ cj (dY h)
 |cons bS cZ ih1=>
  intro i1 b9 h;rw[kK]at h;refine aV fun N1 cj cL=>?_
  obtain⟨a6t,h644,h⟩:=aB h;have a1N:=(((aX.lt aN.c b9).l (bJ aN.c 5 (dc b9) rfl)).g (iP h644))
  obtain⟨h645,h⟩|⟨h645,h⟩:=aO h
  ·have h:=aK h;subst h;exact((((a1N.r 3 h645).a [bF,bF,bF]).r 2 h645).T 1).ret hΓ
  ·have a1O:=(a1N.r 3 h645)
   obtain⟨h646,h⟩|⟨h646,h⟩:=aO h
   ·have a1P:=((((a1O.r 3 h646).b h645).b h646).b h645)
    obtain⟨h647,h⟩|⟨h647,h⟩:=aO h
    ·have h:=aK h;subst h;exact(a1P.b h647).ret hΓ
    ·obtain⟨JK,h649,h⟩:=aB h;obtain⟨Dd,h651,h⟩:=aB h;obtain⟨h722,h⟩:=bU h;refine((((a1P.b h647).g (jb h649)).g (pz h651)).a [.cn [1,3,4,5,6,7,8] [0,1,2,3,4]]).lp hΓ (IA hΓ (fun h=>?_) (bY h722) Dd 0 rfl h);exact(aX.a [.cn [1,3,4] [0,1]]).ct hΓ cL (iS b9 hm1) (ih1 (i1+1) (dn b9) h)
   ·obtain⟨JL,h724,h⟩:=aB h;obtain⟨De,h726,h⟩:=aB h;obtain⟨h797,h⟩:=bU h;refine((((((((a1O.r 3 h646).b h645).b h646).b h645).F 1).g (jb h724)).g (pz h726)).a [.cn [1,3,4,5,6,7,8] [0,1,2,3,4]]).lp hΓ (IB hΓ (fun h=>?_) (bY h797) De 0 rfl h);exact(aX.a [.cn [1,3,4] [0,1]]).ct hΓ cL (iS b9 hm1) (ih1 (i1+1) (dn b9) h)
def Jd(aC:aI)(uP:aG)(dP:Int):St:=⟨[(1,D.ptr 0 0),(3,D.acc 1),(10,D.int .i64 dP)],[Ob.box (aI.c aC),Ob.row .uq 9 1 (uP.map tx)]⟩
def Je(aC:aI)(uP:aG)(i4:Nat)(JM:aG)(dP:Int):St:=⟨[(1,D.ptr 0 0),(3,D.acc 1),(10,D.int .i64 (i4:Int)),(11,D.acc 2),(12,D.int .i64 dP)],[Ob.box (aI.c aC),Ob.row .uq 9 1 (uP.map tx),Ob.row .uq 9 1 (JM.map tx)]⟩
theorem ID(hΓ:Γ.nt=145){aC:aI}{uP:aG}{i4:Nat}{JM:aG}{r:Bool}{k5:Option Bool}(hE5:k5=some r->Ax Γ N f128 (.q [[none]] (D.bool r)) [1,1,1,1,0,1,0,0,1,1] ⟨[(1,D.ptr 0 0),(3,D.acc 1),(10,D.int .i64 (i4:Int))],[Ob.box (aI.c aC),Ob.row .uq 9 1 (uP.map tx)]⟩)(hm5:JM.length<=maxLen):∀(rest:aG) (i5:Nat),JM.drop i5=rest->mi aC uP i4 JM k5 rest i5=some r->Ar Γ N f128 (.q [[none]] (D.bool r)) [1,1,1,1,0,1,0,0,1,0,0,1,1,1,0] (rest.length+1) (Je aC uP i4 JM (i5:Int)):=by
 intro rest
 induction rest with
 |nil=>
  intro i5 hd5 h;rw[mi]at h;refine aV fun N5 hN5 hS5=>?_
  exact((aX.ge tx hd5).a [.hl 3 [1,3,10] [0,1]]).ex hΓ hN5 (hE5 h)
 |cons x5_ xs5 ih5=>
  intro i5 hd5 h;rw[mi]at h;refine aV fun N5 hN5 hS5=>?_
  obtain⟨a71,h953,h⟩:=aB h;have a1Q:=((((aX.lt tx hd5).i (mK tx 1 (dc hd5))).o 1 1 .uq (cX tx (dc hd5))).g (jc h953))
  obtain⟨h954,h⟩|⟨h954,h⟩:=aO h
  ·have h:=aK h;subst h;exact(a1Q.b h954).ret hΓ
  ·exact((a1Q.b h954).a [.cn [1,3,10,11,12] [0,1,2]]).ct hΓ hS5 (iS hd5 hm5) (ih5 (i5+1) (dn hd5) h)
theorem IC(hΓ:Γ.nt=145){aC:aI}{uP:aG}{r:Bool}{k4:Option Bool}(hE4:k4=some r->Ax Γ N f128 (.q [[none]] (D.bool r)) [1,1,1,1,1] ⟨[(1,D.ptr 0 0)],[Ob.box (aI.c aC)]⟩)(hm4:aC.cM.length<=maxLen):∀(rest:dw) (i4:Nat),aC.cM.drop i4=rest->mh aC uP k4 rest i4=some r->Ar Γ N f128 (.q [[none]] (D.bool r)) [1,1,1,1,0,1,0] (rest.length+1) (Jd aC uP (i4:Int)):=by
 intro rest
 induction rest with
 |nil=>
  intro i4 RX h;rw[mh]at h;refine aV fun N4 hN4 hS4=>?_
  exact((aX.ge Action.c RX).a [.hl 0 [1] [0]]).ex hΓ hN4 (hE4 h)
 |cons x4_ xs4 ih4=>
  intro i4 RX h;rw[mh]at h;refine aV fun N4 hN4 hS4=>?_
  obtain⟨a6z,h927,h⟩:=aB h;have a1R:=(((aX.lt Action.c RX).l (bJ Action.c 3 (dc RX) rfl)).g (EF h927))
  obtain⟨h928,h⟩|⟨h928,h⟩:=aO h
  ·have h:=aK h;subst h;exact(a1R.b h928).ret hΓ
  ·obtain⟨JM,h930,h⟩:=aB h;obtain⟨h955,h⟩:=bU h;refine((((a1R.b h928).l (bJ Action.c 3 (dc RX) rfl)).g (oz h930)).a [.cn [1,3,10,11,12] [0,1,2]]).lp hΓ (ID hΓ (fun h=>?_) (bY h955) JM 0 rfl h);exact(aX.a [.cn [1,3,10] [0,1]]).ct hΓ hS4 (iS RX hm4) (ih4 (i4+1) (dn RX) h)
theorem fQ{aC:aI}{r:Bool}(h:kn aC=some r):Good prog 128 [D.agg (aI.c aC)] (D.bool r):=by
 refine gd func128 [[none]] 145 fun hr Γ hΓ=>?_
 rw[kn]at h;obtain⟨y1,h2,h⟩:=aB h;obtain⟨h3,h⟩|⟨h3,h⟩:=aO h
 ·have h:=aK h;subst h;exact(((aX.g (mc h2)).r 5 h3).T 13).ret hΓ
 ·obtain⟨y4,h5,h⟩:=aB h;have a1S:=((((aX.g (mc h2)).r 3 h3).g (fy h5)).r 2 h3)
  obtain⟨h6,h⟩|⟨h6,h⟩:=aO h
  ·have h:=aK h;subst h;exact((a1S.r 6 h6).T 7).ret hΓ
  ·obtain⟨y7,h8,h⟩:=aB h;have a1T:=(((a1S.r 4 h6).g (fy h8)).r 2 h6)
   obtain⟨h9,h⟩|⟨h9,h⟩:=aO h
   ·have h:=aK h;subst h;exact((a1T.r 6 h9).T 1).ret hΓ
   ·obtain⟨Dc,h11,h⟩:=aB h;have a1U:=(((a1T.r 4 h9).g (fy h11)).r 2 h9)
    obtain⟨h12,h⟩|⟨h12,h⟩:=aO h
    ·have h:=aK h;subst h;exact(a1U.b h12).ret hΓ
    ·obtain⟨uP,h14,h⟩:=aB h;refine(((a1U.b h12).g (jb h14)).a [.cn [1,3,4] [0,1]]).lp hΓ (I9 hΓ (fun h=>?_) (by have:=(iE.sl (iE.agg (hr _ (aD (i:=0) rfl)) (.sl (aC.conds.map aN.c)) (by simp))).1;simpa using this) aC.conds 0 rfl h);refine(aX.a [.cn [1,3,10] [0,1]]).lp hΓ (IC hΓ (fun h=>?_) (by have:=(iE.sl (iE.agg (hr _ (aD (i:=0) rfl)) (.sl (aC.cM.map Action.c)) (by simp))).1;simpa using this) aC.cM 0 rfl h);obtain⟨a73,h957,h⟩:=aB h;cases h;exact(aX.g (EO h957)).ret hΓ
def pR(aC:Bytes)(aZ:Bytes)(k1:Int->aG->Option aG):Nat->Int->Int->aG->Option aG
 |0,_,_,_=>none
 |n1+1,eW,uA,bN=>(bif decide ((IntKind.i64.wrap (uA+(aZ.length:Int)):Int)<=(aC.length:Int))then((yJ aC.length (some (D.int .i64 uA)) (some (D.int .i64 (IntKind.i64.wrap (uA+(aZ.length:Int)))))).bind fun p=>(fun l49 u50=>(bif ((aC.take u50).drop l49:Bytes)==aZ then((yJ aC.length (some (D.int .i64 eW)) (some (D.int .i64 uA))).bind fun p=>(fun l53 u54=>(bif room ((bN.map tx).length+([[D.str ((aC.take u54).drop l53)]]).length) 16 then(pR aC aZ k1 n1 (IntKind.i64.wrap (uA+(aZ.length:Int))) (IntKind.i64.wrap (uA+(aZ.length:Int))) (bN++([(aC.take u54).drop l53])))else none)) p.1 p.2)else(pR aC aZ k1 n1 eW (IntKind.i64.wrap (uA+1)) bN))) p.1 p.2)else(k1 eW bN))
def lF(aC:Bytes)(aZ:Bytes):Option aG:=(bif (aZ:Bytes)==([])then(bif room (([]:List aL).length+([[D.str aC]]).length) 16 then(some (([]:aG)++([aC])))else none)else(pR aC aZ (fun(Ce:Int) (cC:aG)=>((yJ aC.length (some (D.int .i64 Ce)) none).bind fun p=>(fun l57 u58=>(bif room ((cC.map tx).length+([[D.str ((aC.take u58).drop l57)]]).length) 16 then(some (cC++([(aC.take u58).drop l57])))else none)) p.1 p.2)) fuel 0 0 ([]:aG)))
def Ck(aC:Bytes)(aZ:Bytes)(eW:Int)(uA:Int)(W2:List aL):St:=⟨[(0,D.str aC),(1,D.str aZ),(5,D.acc 0),(6,D.int .i64 eW),(7,D.int .i64 uA)],[Ob.row .uq 9 1 W2]⟩
theorem Jf(hΓ:Γ.nt=51){aC:Bytes}{aZ:Bytes}{r:aG}{k1:Int->aG->Option aG}(dY:∀(Ce:Int) (cC:aG),k1 Ce cC=some r->Ax Γ N f233 (.q [[some (9,1)]] (D.fr 9 1 (r.map tx))) [1,1,1,1,1] ⟨[(0,D.str aC),(5,D.acc 0),(6,D.int .i64 Ce)],[Ob.row .uq 9 1 (cC.map tx)]⟩):∀(n1:Nat) (eW:Int) (uA:Int) (bN:aG),pR aC aZ k1 n1 eW uA bN=some r->Ar Γ N f233 (.q [[some (9,1)]] (D.fr 9 1 (r.map tx))) [1,1,1,1,0,1,0] n1 (Ck aC aZ eW uA (bN.map tx)):=by
 intro n
 induction n with
 |zero=>intro eW uA bN h;simp[pR]at h
 |succ n1 ih1=>
  intro eW uA bN h;rw[pR]at h;refine aV fun N1 cj cL=>?_
  obtain⟨h48,h⟩|⟨h48,h⟩:=aO h
  ·obtain⟨⟨l49,u50⟩,h51,h⟩:=aB h;have gG:=(((aX.b h48).w h51).a [.cut l49 u50])
   obtain⟨h52,h⟩|⟨h52,h⟩:=aO h
   ·obtain⟨⟨l53,u54⟩,h55,h⟩:=aB h;obtain⟨h56,h⟩:=bU h;exact((((gG.b h52).w h55).w (bp h56)).a [.cut l53 u54,.cn [0,1,5,6,7] [2]]).cs hΓ cL (Ck aC aZ (IntKind.i64.wrap (uA+(aZ.length:Int))) (IntKind.i64.wrap (uA+(aZ.length:Int))) ((bN.map tx)++([[D.str ((aC.take u54).drop l53)]]))) (by first| (simp only[mA]<;>rfl)| (simp only[mA,aE.c,aQ.c,aN.c,Action.c,aI.c,aY.c,ax.c,af.c,Node.c,aJ.c,dX.c]<;>rfl)) (ih1 (IntKind.i64.wrap (uA+(aZ.length:Int))) (IntKind.i64.wrap (uA+(aZ.length:Int))) (bN++([(aC.take u54).drop l53])) h)
   ·exact((gG.b h52).a [.cn [0,1,5,6,7] [0]]).cf hΓ cL (ih1 eW (IntKind.i64.wrap (uA+1)) bN h)
  ·exact((aX.b h48).a [.hl 0 [0,5,6] [0]]).ex hΓ cj (dY eW bN h)
theorem gI{aC:Bytes}{aZ:Bytes}{r:aG}(h:lF aC aZ=some r):Good prog 233 [D.str aC,D.str aZ] (D.fr 9 1 (r.map tx)):=by
 refine gd func233 [[some (9,1)]] 51 fun hr Γ hΓ=>?_
 rw[lF]at h;obtain⟨h1,h⟩|⟨h1,h⟩:=aO h
 ·obtain⟨h2,h⟩:=bU h;cases h;exact(((aX.a [.KW 4]).b h1).w (bp h2)).rts hΓ (D.fr 9 1 (([]:List aL)++([[D.str aC]]))) (by first|rfl| (simp only[mA]<;>rfl))
 ·refine(((aX.a [.KW 4]).b h1).a [.cn [0,1,5,6,7] [1]]).lp hΓ (Jf hΓ (fun Ce cC h=>?_) fuel 0 0 ([]:aG) h);obtain⟨⟨l57,u58⟩,h59,h⟩:=aB h;obtain⟨h60,h⟩:=bU h;cases h;exact(((aX.w h59).w (bp h60)).a [.cut l57 u58]).rts hΓ (D.fr 9 1 ((cC.map tx)++([[D.str ((aC.take u58).drop l57)]]))) (by first|rfl| (simp only[mA]<;>rfl)| (simp only[mA,br]<;>rfl))
def iB(k1:Option Bytes):Nat->Int->Bytes->Option Bytes
 |0,_,_=>none
 |n1+1,Ez,mG=>(bif decide (0<=(Ez:Int))&&decide (0<(10:Int))then(bif decide (([UInt8.ofNat (IntKind.u8.wrap (IntKind.i64.wrap (48+((Ez:Int)%10)))).toNat]:Bytes).length+(mG:Bytes).length<=maxLen)then(bif decide (0<=(Ez:Int))&&decide (0<(10:Int))then(bif ((Ez:Int)/10:Int)==0 then(some (([UInt8.ofNat (IntKind.u8.wrap (IntKind.i64.wrap (48+((Ez:Int)%10)))).toNat])++mG))else(iB k1 n1 ((Ez:Int)/10) (([UInt8.ofNat (IntKind.u8.wrap (IntKind.i64.wrap (48+((Ez:Int)%10)))).toNat])++mG)))else none)else none)else none)
def gY:Nat->Int->Option Bytes
 |0,_=>none
 |m_+1,aC=>(bif (aC:Int)==(-9223372036854775808)then(some ([45,57,50,50,51,51,55,50,48,51,54,56,53,52,55,55,53,56,48,56]))else(bif decide ((aC:Int)<0)then((gY m_ (IntKind.i64.wrap (0-aC))).bind fun y3=>(bif decide (([45]:Bytes).length+(y3:Bytes).length<=maxLen)then(some (([45])++y3))else none))else(iB none fuel aC ([]))))
def DI(Ez:Int)(mG:Bytes):St:=⟨[(0,D.int .i64 Ez),(3,D.str mG)],[]⟩
theorem CJ(hΓ:Γ.nt=25){r:Bytes}{k1:Option Bytes}(dY:k1=some r->Ax Γ N f135 (.q [[none]] (D.str r)) [1,1,1,1,0,0] ⟨[],[]⟩):∀(n1:Nat) (Ez:Int) (mG:Bytes),iB k1 n1 Ez mG=some r->Ar Γ N f135 (.q [[none]] (D.str r)) [1,1,1,1,0] n1 (DI Ez mG):=by
 intro n
 induction n with
 |zero=>intro Ez mG h;simp[iB]at h
 |succ n1 ih1=>
  intro Ez mG h;rw[iB]at h;refine aV fun N1 cj cL=>?_
  obtain⟨h14,h⟩:=bU h;obtain⟨h15,h⟩:=bU h;obtain⟨h16,h⟩:=bU h;have gG:=(((aX.w (On .i64 h14)).w (bY h15)).w (On .i64 h16))
  obtain⟨h17,h⟩|⟨h17,h⟩:=aO h
  ·cases h;exact(gG.b h17).rts hΓ (D.str (([UInt8.ofNat (IntKind.u8.wrap (IntKind.i64.wrap (48+((Ez:Int)%10)))).toNat])++mG)) (by first|rfl| (simp only[mA]<;>rfl))
  ·exact((gG.b h17).a [.cn [0,3] []]).cf hΓ cL (ih1 ((Ez:Int)/10) (([UInt8.ofNat (IntKind.u8.wrap (IntKind.i64.wrap (48+((Ez:Int)%10)))).toNat])++mG) h)
theorem BK{m_:Nat}(ihR:∀ {aC:Int} {r:Bytes},gY m_ aC=some r->Good prog 135 [D.int .i64 aC] (D.str r)){aC:Int}{r:Bytes}(h:gY (m_+1) aC=some r):Good prog 135 [D.int .i64 aC] (D.str r):=by
 refine gd func135 [[none]] 25 fun hr Γ hΓ=>?_
 rw[gY]at h;obtain⟨h1,h⟩|⟨h1,h⟩:=aO h
 ·cases h;exact(aX.b h1).ret hΓ
 ·obtain⟨h2,h⟩|⟨h2,h⟩:=aO h
  ·obtain⟨y3,h4,h⟩:=aB h;obtain⟨h5,h⟩:=bU h;cases h;exact((((aX.b h1).b h2).g (ihR h4)).w (bY h5)).rts hΓ (D.str (([45])++y3)) (by first|rfl| (simp only[mA]<;>rfl))
  ·refine(((aX.b h1).b h2).a [.cn [0,3] []]).lp hΓ (CJ hΓ (fun h=>?_) fuel aC ([]) h);cases h
theorem vL:∀(m_:Nat) {aC:Int} {r:Bytes},gY m_ aC=some r->Good prog 135 [D.int .i64 aC] (D.str r)
 |0,_,_,h=>by cases h
 |m_+1,_,_,h=>BK (fun h=>vL m_ h) h
def j8(aC:Int):Option Bytes:=gY fuel aC
theorem mO{aC:Int}{r:Bytes}(h:j8 aC=some r):Good prog 135 [D.int .i64 aC] (D.str r):=vL fuel h
def iQ(aC:Bytes)(k1:Int->Option (Int×Bool)):Nat->Int->Int->Option (Int×Bool)
 |0,_,_=>none
 |n1+1,nV,wM=>(bif decide ((wM:Int)<(aC.length:Int))then((iw aC wM).bind fun b25=>(bif decide ((b25.toNat:Int)<48)then(some (0,false))else(bif decide ((b25.toNat:Int)>57)then(some (0,false))else(iQ aC k1 n1 (IntKind.i64.wrap ((IntKind.i64.wrap (10*nV))+(IntKind.i64.wrap (IntKind.u8.wrap (b25.toNat-48))))) (IntKind.i64.wrap (wM+1))))))else(k1 nV))
def mC(aC:Bytes):Option (Int×Bool):=((jW (aC.length:Int) 1 4).bind fun y1=>(bif !(y1)then(some (0,false))else(iQ aC (fun(V3:Int)=>((j8 V3).bind fun F3=>(bif !((F3:Bytes)==aC)then(some (0,false))else(some (V3,true))))) fuel 0 0)))
def Gw(aC:Bytes)(nV:Int)(wM:Int):St:=⟨[(0,D.str aC),(4,D.int .i64 nV),(5,D.int .i64 wM)],[]⟩
theorem Fy(hΓ:Γ.nt=39){aC:Bytes}{r:Int×Bool}{k1:Int->Option (Int×Bool)}(dY:∀(V3:Int),k1 V3=some r->Ax Γ N f204 (.q [[none],[none]] (D.gw [D.int .i64 r.1,D.bool r.2])) [1,1,1,1] ⟨[(0,D.str aC),(4,D.int .i64 V3)],[]⟩):∀(n1:Nat) (nV:Int) (wM:Int),iQ aC k1 n1 nV wM=some r->Ar Γ N f204 (.q [[none],[none]] (D.gw [D.int .i64 r.1,D.bool r.2])) [1,1,1,0,1,0] n1 (Gw aC nV wM):=by
 intro n
 induction n with
 |zero=>intro nV wM h;simp[iQ]at h
 |succ n1 ih1=>
  intro nV wM h;rw[iQ]at h;refine aV fun N1 cj cL=>?_
  obtain⟨h24,h⟩|⟨h24,h⟩:=aO h
  ·obtain⟨b25,h26,h⟩:=aB h;have kY:=((aX.b h24).c h26)
   obtain⟨h27,h⟩|⟨h27,h⟩:=aO h
   ·cases h;exact((kY.r 5 h27).T 1).ret hΓ
   ·have kX:=(((kY.r 3 h27).c h26).r 2 h27)
    obtain⟨h28,h⟩|⟨h28,h⟩:=aO h
    ·cases h;exact(kX.b h28).ret hΓ
    ·exact(((kX.b h28).c h26).a [.cn [0,4,5] []]).cf hΓ cL (ih1 (IntKind.i64.wrap ((IntKind.i64.wrap (10*nV))+(IntKind.i64.wrap (IntKind.u8.wrap (b25.toNat-48))))) (IntKind.i64.wrap (wM+1)) h)
  ·exact((aX.b h24).a [.hl 0 [0,4] []]).ex hΓ cj (dY nV h)
theorem qA{aC:Bytes}{r:Int×Bool}(h:mC aC=some r):Good prog 204 [D.str aC] (D.gw [D.int .i64 r.1,D.bool r.2]):=by
 refine gd func204 [[none],[none]] 39 fun hr Γ hΓ=>?_
 rw[mC]at h;obtain⟨y1,h2,h⟩:=aB h;obtain⟨h3,h⟩|⟨h3,h⟩:=aO h
 ·cases h;exact((aX.g (fy h2)).b h3).ret hΓ
 ·refine(((aX.g (fy h2)).b h3).a [.cn [0,4,5] []]).lp hΓ (Fy hΓ (fun V3 h=>?_) fuel 0 0 h);obtain⟨F3,h30,h⟩:=aB h;obtain⟨h31,h⟩|⟨h31,h⟩:=aO h
  ·cases h;exact((aX.g (mO h30)).b h31).ret hΓ
  ·cases h;exact((aX.g (mO h30)).b h31).ret hΓ
def Af(aC:Int):Option Bytes:=(bif (aC:Int)==3 then(some ([32,61,32]))else(bif (aC:Int)==4 then(some ([32,33,61,32]))else(some ([32,60,32]))))
theorem HB{aC:Int}{r:Bytes}(h:Af aC=some r):Good prog 260 [D.int .i64 aC] (D.str r):=by
 refine gd func260 [[none]] 8 fun hr Γ hΓ=>?_
 rw[Af]at h;obtain⟨h1,h⟩|⟨h1,h⟩:=aO h
 ·cases h;exact(aX.b h1).ret hΓ
 ·obtain⟨h2,h⟩|⟨h2,h⟩:=aO h
  ·cases h;exact((aX.b h1).b h2).ret hΓ
  ·cases h;exact((aX.b h1).b h2).ret hΓ
def zY(aC:Bytes):Option (Bytes×aG×Bool):=((lF aC ([40])).bind fun y1=>(bif (((y1.map tx).length:Int):Int) != 2 then(some ([],[],false))else((iw y1 1).bind fun x4=>(bif ((x4.length:Int):Int)==0 then(some ([],[],false))else((iw x4 (IntKind.i64.wrap ((x4.length:Int)-1))).bind fun b7=>(bif (b7.toNat:Int) != 41 then(some ([],[],false))else((yJ x4.length none (some (D.int .i64 (IntKind.i64.wrap ((x4.length:Int)-1))))).bind fun p=>(fun l10 u11=>(bif ((x4.take u11).drop l10:Bytes)==([])then((iw y1 0).bind fun x14=>(some (x14,([]:aG),true)))else((iw y1 0).bind fun x16=>((lF ((x4.take u11).drop l10) ([44])).bind fun Tr=>(some (x16,Tr,true)))))) p.1 p.2)))))))
theorem yb{aC:Bytes}{r:Bytes×aG×Bool}(h:zY aC=some r):Good prog 275 [D.str aC] (D.gw [D.str r.1,D.fr 9 1 (r.2.1.map tx),D.bool r.2.2]):=by
 refine gd func275 [[none],[some (9,1)],[none]] 51 fun hr Γ hΓ=>?_
 rw[zY]at h;obtain⟨y1,h2,h⟩:=aB h;have nB:=((aX.g (gI h2)).a [.n 19])
 obtain⟨h3,h⟩|⟨h3,h⟩:=aO h
 ·cases h;exact((nB.r 6 h3).T 12).ret hΓ
 ·obtain⟨x4,h5,h⟩:=aB h;have gG:=(((((nB.r 2 h3).i (iD tx 1 h5)).b h3).o 1 1 .uq (cX tx (fC h5))).r 3 h3)
  obtain⟨h6,h⟩|⟨h6,h⟩:=aO h
  ·cases h;exact((gG.r 11 h6).T 1).ret hΓ
  ·obtain⟨b7,h8,h⟩:=aB h;have kY:=(((((((((((gG.r 2 h6).i (iD tx 1 h5)).b h6).o 1 1 .uq (cX tx (fC h5))).r 2 h6).i (iD tx 1 h5)).b h6).o 1 1 .uq (cX tx (fC h5))).r 3 h6).c h8).r 2 h6)
   obtain⟨h9,h⟩|⟨h9,h⟩:=aO h
   ·cases h;exact(kY.b h9).ret hΓ
   ·obtain⟨⟨l10,u11⟩,h12,h⟩:=aB h;have kX:=((((((((kY.b h9).a [.n 8]).i (iD tx 1 h5)).o 1 1 .uq (cX tx (fC h5))).i (iD tx 1 h5)).o 1 1 .uq (cX tx (fC h5))).w h12).a [.cut l10 u11])
    obtain⟨h13,h⟩|⟨h13,h⟩:=aO h
    ·obtain⟨x14,h15,h⟩:=aB h;cases h;exact(((kX.b h13).i (iD tx 1 h15)).o 1 1 .uq (cX tx (fC h15))).ret hΓ
    ·obtain⟨x16,h17,h⟩:=aB h;obtain⟨Tr,h19,h⟩:=aB h;cases h;exact(((((kX.b h13).a [.n 5]).i (iD tx 1 h17)).o 1 1 .uq (cX tx (fC h17))).g (gI h19)).ret hΓ
def jS(aC:Bytes):Option (aE×Bool):=((zY aC).bind fun y1=>(bif !(y1.2.2)then(some ((⟨[],[]⟩:aE),false))else((gq (⟨y1.1,y1.2.1⟩:aE)).bind fun y4=>(bif !(y4)then(some ((⟨[],[]⟩:aE),false))else(some ((⟨y1.1,y1.2.1⟩:aE),true))))))
theorem je{aC:Bytes}{r:aE×Bool}(h:jS aC=some r):Good prog 261 [D.str aC] (D.gw [D.agg [D.str r.1.rel,D.fr 9 1 (r.1.args.map tx)],D.bool r.2]):=by
 refine gd func261 [[none,some (9,1)],[none]] 26 fun hr Γ hΓ=>?_
 rw[jS]at h;obtain⟨y1,h2,h⟩:=aB h;obtain⟨h3,h⟩|⟨h3,h⟩:=aO h
 ·cases h;exact(((aX.g (yb h2)).r 4 h3).T 1).ret hΓ
 ·obtain⟨y4,h5,h⟩:=aB h;have nB:=(((((aX.g (yb h2)).r 2 h3).a [.d (D.bool y4)]).w (show Good prog 157 [D.agg [D.str y1.1,D.sl (y1.2.1.map tx)]] (D.bool y4)from by first| (simpa only[bI,ay,bt,br,cB]using ei h5)|exact ei h5| (have t:=ei h5;simp only[bI,br,cB,aE.c]at t;exact t))).r 2 h3)
  obtain⟨h6,h⟩|⟨h6,h⟩:=aO h
  ·cases h;exact(nB.b h6).ret hΓ
  ·cases h;exact(nB.b h6).ret hΓ
def lg(aC:Bytes)(k1:Option (aN×Bool)):Nat->Int->Option (aN×Bool)
 |0,_=>none
 |n1+1,nV=>(bif decide ((nV:Int)<=5)then((Af nV).bind fun A7=>((lF aC A7).bind fun yM=>(bif (((yM.map tx).length:Int):Int)==2 then((iw yM 0).bind fun x33=>((iw yM 1).bind fun x35=>((oO (⟨nV,(⟨[],[]⟩:aE),x33,x35⟩:aN)).bind fun LG=>(bif LG then(some ((⟨nV,(⟨[],[]⟩:aE),x33,x35⟩:aN),true))else(lg aC k1 n1 (IntKind.i64.wrap (nV+1)))))))else(lg aC k1 n1 (IntKind.i64.wrap (nV+1))))))else(k1))
def wq(aC:Bytes):Option (aN×Bool):=(lg aC (bif decide (((aC.length:Int):Int)>4)then((yJ aC.length none (some (D.int .i64 4))).bind fun p=>(fun l41 u42=>(bif ((aC.take u42).drop l41:Bytes)==([110,111,116,32])then((yJ aC.length (some (D.int .i64 4)) none).bind fun p=>(fun l45 u46=>((jS ((aC.take u46).drop l45)).bind fun y48=>(bif !(y48.2)then(some ((⟨0,(⟨[],[]⟩:aE),[],[]⟩:aN),false))else(some ((⟨2,y48.1,[],[]⟩:aN),true))))) p.1 p.2)else((jS aC).bind fun y51=>(bif !(y51.2)then(some ((⟨0,(⟨[],[]⟩:aE),[],[]⟩:aN),false))else(some ((⟨1,y51.1,[],[]⟩:aN),true)))))) p.1 p.2)else((jS aC).bind fun JJ=>(bif !(JJ.2)then(some ((⟨0,(⟨[],[]⟩:aE),[],[]⟩:aN),false))else(some ((⟨1,JJ.1,[],[]⟩:aN),true))))) fuel 3)
def Fx(aC:Bytes)(nV:Int):St:=⟨[(0,D.str aC),(2,D.ptr 0 0),(4,D.int .i64 nV)],[Ob.box [D.int .i64 0,D.str ([]),D.nil,D.str ([]),D.str ([])]]⟩
theorem EL(hΓ:Γ.nt=55){aC:Bytes}{r:aN×Bool}{k1:Option (aN×Bool)}(dY:k1=some r->Ax Γ N f241 (.q [[none,none,some (9,1),none,none],[none]] (D.gw [D.agg [D.int .i64 r.1.kind,D.str r.1.pat.rel,D.fr 9 1 (r.1.pat.args.map tx),D.str r.1.left,D.str r.1.right],D.bool r.2])) [1,1] ⟨[(0,D.str aC),(2,D.ptr 0 0)],[Ob.box [D.int .i64 0,D.str ([]),D.nil,D.str ([]),D.str ([])]]⟩):∀(n1:Nat) (nV:Int),lg aC k1 n1 nV=some r->Ar Γ N f241 (.q [[none,none,some (9,1),none,none],[none]] (D.gw [D.agg [D.int .i64 r.1.kind,D.str r.1.pat.rel,D.fr 9 1 (r.1.pat.args.map tx),D.str r.1.left,D.str r.1.right],D.bool r.2])) [1,0,1,0] n1 (Fx aC nV):=by
 intro n
 induction n with
 |zero=>intro nV h;simp[lg]at h
 |succ n1 ih1=>
  intro nV h;rw[lg]at h;refine aV fun N1 cj cL=>?_
  obtain⟨h27,h⟩|⟨h27,h⟩:=aO h
  ·obtain⟨A7,h29,h⟩:=aB h;obtain⟨yM,h31,h⟩:=aB h;have kY:=(((aX.b h27).g (HB h29)).g (gI h31))
   obtain⟨h32,h⟩|⟨h32,h⟩:=aO h
   ·obtain⟨x33,h34,h⟩:=aB h;obtain⟨x35,h36,h⟩:=aB h;obtain⟨LG,h38,h⟩:=aB h;have kX:=((((((((kY.b h32).a [.n 9]).i (iD tx 1 h34)).o 1 1 .uq (cX tx (fC h34))).i (iD tx 1 h36)).o 1 1 .uq (cX tx (fC h36))).a [.d (D.bool LG)]).w (show Good prog 189 [D.agg [D.int .i64 nV,D.str ([]),D.sl ([]),D.str x33,D.str x35]] (D.bool LG)from by first| (simpa only[bI,ay,bt,br,cB]using iP h38)|exact iP h38| (have t:=iP h38;simp only[bI,br,cB,aN.c]at t;exact t)))
    obtain⟨h39,h⟩|⟨h39,h⟩:=aO h
    ·cases h;exact(kX.b h39).ret hΓ
    ·exact((kX.b h39).a [.cn [0,2,4] [0]]).cf hΓ cL (ih1 (IntKind.i64.wrap (nV+1)) h)
   ·exact((kY.b h32).a [.cn [0,2,4] [0]]).cf hΓ cL (ih1 (IntKind.i64.wrap (nV+1)) h)
  ·exact((aX.b h27).a [.hl 0 [0,2] [0]]).ex hΓ cj (dY h)
theorem DL{aC:Bytes}{r:aN×Bool}(h:wq aC=some r):Good prog 241 [D.str aC] (D.gw [D.agg [D.int .i64 r.1.kind,D.str r.1.pat.rel,D.fr 9 1 (r.1.pat.args.map tx),D.str r.1.left,D.str r.1.right],D.bool r.2]):=by
 refine gd func241 [[none,none,some (9,1),none,none],[none]] 55 fun hr Γ hΓ=>?_
 rw[wq]at h;refine(aX.a [.cn [0,2,4] [0]]).lp hΓ (EL hΓ (fun h=>?_) fuel 3 h);obtain⟨h40,h⟩|⟨h40,h⟩:=aO h
 ·obtain⟨⟨l41,u42⟩,h43,h⟩:=aB h;have sQ:=((((aX.r 2 h40).w h43).a [.cut l41 u42]).r 2 h40)
  obtain⟨h44,h⟩|⟨h44,h⟩:=aO h
  ·obtain⟨⟨l45,u46⟩,h47,h⟩:=aB h;obtain⟨y48,h49,h⟩:=aB h;have vQ:=((((sQ.b h44).w h47).a [.cut l45 u46]).g (je h49))
   obtain⟨h50,h⟩|⟨h50,h⟩:=aO h
   ·cases h;exact(vQ.b h50).ret hΓ
   ·cases h;exact(vQ.b h50).ret hΓ
  ·obtain⟨y51,h52,h⟩:=aB h;have yo:=((sQ.b h44).g (je h52))
   obtain⟨h53,h⟩|⟨h53,h⟩:=aO h
   ·cases h;exact(yo.b h53).ret hΓ
   ·cases h;exact(yo.b h53).ret hΓ
 ·obtain⟨JJ,h55,h⟩:=aB h;have Es:=(((aX.r 4 h40).F 1).g (je h55))
  obtain⟨h56,h⟩|⟨h56,h⟩:=aO h
  ·cases h;exact(Es.b h56).ret hΓ
  ·cases h;exact(Es.b h56).ret hΓ
def yE(aC:Bytes):Option (Action×Bool):=(bif (aC:Bytes)==([115,116,111,112])then(some ((⟨3,(⟨[],[]⟩:aE)⟩:Action),true))else((lF aC ([32])).bind fun y2=>(bif (((y2.map tx).length:Int):Int) != 2 then(some ((⟨0,(⟨[],[]⟩:aE)⟩:Action),false))else((iw y2 0).bind fun x5=>(bif !((x5:Bytes)==([97,100,100]))then(bif !((x5:Bytes)==([100,114,111,112]))then(some ((⟨0,(⟨[],[]⟩:aE)⟩:Action),false))else((iw y2 1).bind fun x9=>((jS x9).bind fun Cc=>(bif (x5:Bytes)==([97,100,100])then(some ((⟨1,Cc.1⟩:Action),Cc.2))else(some ((⟨2,Cc.1⟩:Action),Cc.2))))))else((iw y2 1).bind fun x14=>((jS x14).bind fun Mj=>(bif (x5:Bytes)==([97,100,100])then(some ((⟨1,Mj.1⟩:Action),Mj.2))else(some ((⟨2,Mj.1⟩:Action),Mj.2))))))))))
theorem ES{aC:Bytes}{r:Action×Bool}(h:yE aC=some r):Good prog 242 [D.str aC] (D.gw [D.agg [D.int .i64 r.1.kind,D.str r.1.pat.rel,D.fr 9 1 (r.1.pat.args.map tx)],D.bool r.2]):=by
 refine gd func242 [[none,none,some (9,1)],[none]] 45 fun hr Γ hΓ=>?_
 rw[yE]at h;obtain⟨h1,h⟩|⟨h1,h⟩:=aO h
 ·cases h;exact(aX.b h1).ret hΓ
 ·obtain⟨y2,h3,h⟩:=aB h;have nB:=((aX.b h1).g (gI h3))
  obtain⟨h4,h⟩|⟨h4,h⟩:=aO h
  ·cases h;exact((((nB.r 5 h4).a [bF,bF,bF,bF]).r 2 h4).T 1).ret hΓ
  ·obtain⟨x5,h6,h⟩:=aB h;have gG:=(((((nB.r 2 h4).i (iD tx 1 h6)).b h4).o 1 1 .uq (cX tx (fC h6))).r 2 h4)
   obtain⟨h7,h⟩|⟨h7,h⟩:=aO h
   ·have kY:=((((((((gG.r 2 h7).i (iD tx 1 h6)).b h7).o 1 1 .uq (cX tx (fC h6))).b h7).b h4).b h7).b h4)
    obtain⟨h8,h⟩|⟨h8,h⟩:=aO h
    ·cases h;exact(kY.b h8).ret hΓ
    ·obtain⟨x9,h10,h⟩:=aB h;obtain⟨Cc,h12,h⟩:=aB h;have kX:=((((((kY.b h8).i (iD tx 1 h10)).o 1 1 .uq (cX tx (fC h10))).g (je h12)).i (iD tx 1 h6)).o 1 1 .uq (cX tx (fC h6)))
     obtain⟨h13,h⟩|⟨h13,h⟩:=aO h
     ·cases h;exact(kX.b h13).ret hΓ
     ·cases h;exact(kX.b h13).ret hΓ
   ·obtain⟨x14,h15,h⟩:=aB h;obtain⟨Mj,h17,h⟩:=aB h;have sQ:=((((((((((gG.r 4 h7).b h4).b h7).b h4).F 1).i (iD tx 1 h15)).o 1 1 .uq (cX tx (fC h15))).g (je h17)).i (iD tx 1 h6)).o 1 1 .uq (cX tx (fC h6)))
    obtain⟨h18,h⟩|⟨h18,h⟩:=aO h
    ·cases h;exact(sQ.b h18).ret hΓ
    ·cases h;exact(sQ.b h18).ret hΓ
def qE(aC:aI)(ck:Bytes)(y1:aG)(k1:ah->Option (aI×Bool)):aG->Nat->ah->Option (aI×Bool)
 | [],i1,cw=>(k1 cw)
 |bS::cZ,i1,cw=>((wq bS).bind fun GI=>(bif !(GI.2)then(some ((⟨aC.name,aC.prio,cw,[]⟩:aI),false))else(bif room ((cw.map aN.c).length+([[D.int .i64 GI.1.kind,D.str GI.1.pat.rel,D.sl (GI.1.pat.args.map tx),D.str GI.1.left,D.str GI.1.right]]).length) 80 then(qE aC ck y1 k1 cZ (i1+1) (cw++([GI.1])))else none)))
def qF(aC:aI)(oL:ah)(FJ:aG)(k2:dw->Option (aI×Bool)):aG->Nat->dw->Option (aI×Bool)
 | [],i2,ji=>(k2 ji)
 |nD::uO,i2,ji=>((yE nD).bind fun GJ=>(bif !(GJ.2)then(some ((⟨aC.name,aC.prio,oL,ji⟩:aI),false))else(bif room ((ji.map Action.c).length+([[D.int .i64 GJ.1.kind,D.str GJ.1.pat.rel,D.sl (GJ.1.pat.args.map tx)]]).length) 48 then(qF aC oL FJ k2 uO (i2+1) (ji++([GJ.1])))else none)))
def ze(aC:aI)(aZ:Bytes)(ck:Bytes):Option (aI×Bool):=((lF aZ ([32,38,32])).bind fun y1=>(bif decide (y1.length<=maxLen)then(qE aC ck y1 (fun(oL:ah)=>((lF ck ([32,38,32])).bind fun FJ=>(bif decide (FJ.length<=maxLen)then(qF aC oL FJ (fun(vC:dw)=>((kn (⟨aC.name,aC.prio,oL,vC⟩:aI)).bind fun y77=>(some ((⟨aC.name,aC.prio,oL,vC⟩:aI),y77)))) FJ 0 ([]:dw))else none))) y1 0 ([]:ah))else none))
def AN(aC:aI)(ck:Bytes)(y1:aG)(W0:List aL)(dP:Int):St:=⟨[(2,D.str ck),(3,D.ptr 0 0),(6,D.ptr 1 0),(8,D.acc 2),(9,D.int .i64 dP)],[Ob.box [D.str aC.name,D.int .i64 aC.prio,D.acc 3,D.nil],Ob.box [D.str ([]),D.int .i64 0,D.nil,D.nil],Ob.row .uq 9 1 (y1.map tx),Ob.row .uq 71 5 W0]⟩
theorem HE(hΓ:Γ.nt=69){aC:aI}{ck:Bytes}{y1:aG}{r:aI×Bool}{k1:ah->Option (aI×Bool)}(dY:∀(oL:ah),k1 oL=some r->Ax Γ N f234 (.q [[none,none,some (71,5),some (154,3)],[none]] (D.gw [D.agg [D.str r.1.name,D.int .i64 r.1.prio,D.fr 71 5 (r.1.conds.map aN.c),D.fr 154 3 (r.1.cM.map Action.c)],D.bool r.2])) [1,1,1] ⟨[(2,D.str ck),(3,D.ptr 0 0),(6,D.ptr 1 0)],[Ob.box [D.str aC.name,D.int .i64 aC.prio,D.acc 2,D.nil],Ob.box [D.str ([]),D.int .i64 0,D.nil,D.nil],Ob.row .uq 71 5 (oL.map aN.c)]⟩)(hm1:y1.length<=maxLen):∀(rest:aG) (i1:Nat) (cw:ah),y1.drop i1=rest->qE aC ck y1 k1 rest i1 cw=some r->Ar Γ N f234 (.q [[none,none,some (71,5),some (154,3)],[none]] (D.gw [D.agg [D.str r.1.name,D.int .i64 r.1.prio,D.fr 71 5 (r.1.conds.map aN.c),D.fr 154 3 (r.1.cM.map Action.c)],D.bool r.2])) [1,1,0,1,0] (rest.length+1) (AN aC ck y1 (cw.map aN.c) (i1:Int)):=by
 intro rest
 induction rest with
 |nil=>
  intro i1 cw b9 h;rw[qE]at h;refine aV fun N1 cj cL=>?_
  exact((aX.ge tx b9).a [.hl 0 [2,3,6] [0,1,3]]).ex hΓ cj (dY cw h)
 |cons bS cZ ih1=>
  intro i1 cw b9 h;rw[qE]at h;refine aV fun N1 cj cL=>?_
  obtain⟨GI,h36,h⟩:=aB h;have kY:=((((aX.lt tx b9).i (mK tx 1 (dc b9))).o 1 1 .uq (cX tx (dc b9))).g (DL h36))
  obtain⟨h37,h⟩|⟨h37,h⟩:=aO h
  ·cases h;exact(kY.b h37).ret hΓ
  ·obtain⟨h38,h⟩:=bU h;exact(((kY.b h37).w (bp h38)).a [.cn [2,3,6,8,9] [0,1,2,7]]).cs hΓ cL (AN aC ck y1 ((cw.map aN.c)++([[D.int .i64 GI.1.kind,D.str GI.1.pat.rel,D.sl (GI.1.pat.args.map tx),D.str GI.1.left,D.str GI.1.right]])) (IntKind.i64.wrap ((i1:Int)+1))) (by first| (simp only[iS b9 hm1,mA]<;>rfl)| (simp only[iS b9 hm1,mA,aE.c,aQ.c,aN.c,Action.c,aI.c,aY.c,ax.c,af.c,Node.c,aJ.c,dX.c]<;>rfl)) (ih1 (i1+1) (cw++([GI.1])) (dn b9) h)
def AP(aC:aI)(oL:ah)(FJ:aG)(W0:List aL)(dP:Int):St:=⟨[(3,D.ptr 0 0),(6,D.ptr 1 0),(12,D.acc 2),(13,D.int .i64 dP)],[Ob.box [D.str aC.name,D.int .i64 aC.prio,D.acc 3,D.acc 4],Ob.box [D.str ([]),D.int .i64 0,D.nil,D.nil],Ob.row .uq 9 1 (FJ.map tx),Ob.row .uq 71 5 (oL.map aN.c),Ob.row .uq 154 3 W0]⟩
theorem HF(hΓ:Γ.nt=69){aC:aI}{oL:ah}{FJ:aG}{r:aI×Bool}{k2:dw->Option (aI×Bool)}(AR:∀(vC:dw),k2 vC=some r->Ax Γ N f234 (.q [[none,none,some (71,5),some (154,3)],[none]] (D.gw [D.agg [D.str r.1.name,D.int .i64 r.1.prio,D.fr 71 5 (r.1.conds.map aN.c),D.fr 154 3 (r.1.cM.map Action.c)],D.bool r.2])) [1,1,1,1,1] ⟨[(3,D.ptr 0 0),(6,D.ptr 1 0)],[Ob.box [D.str aC.name,D.int .i64 aC.prio,D.acc 2,D.acc 3],Ob.box [D.str ([]),D.int .i64 0,D.nil,D.nil],Ob.row .uq 71 5 (oL.map aN.c),Ob.row .uq 154 3 (vC.map Action.c)]⟩)(hm2:FJ.length<=maxLen):∀(rest:aG) (i2:Nat) (ji:dw),FJ.drop i2=rest->qF aC oL FJ k2 rest i2 ji=some r->Ar Γ N f234 (.q [[none,none,some (71,5),some (154,3)],[none]] (D.gw [D.agg [D.str r.1.name,D.int .i64 r.1.prio,D.fr 71 5 (r.1.conds.map aN.c),D.fr 154 3 (r.1.cM.map Action.c)],D.bool r.2])) [1,1,1,1,0,1,0] (rest.length+1) (AP aC oL FJ (ji.map Action.c) (i2:Int)):=by
 intro rest
 induction rest with
 |nil=>
  intro i2 ji hd2 h;rw[qF]at h;refine aV fun N2 uk tD=>?_
  exact((aX.ge tx hd2).a [.hl 0 [3,6] [0,1,3,4]]).ex hΓ uk (AR ji h)
 |cons nD uO ih2=>
  intro i2 ji hd2 h;rw[qF]at h;refine aV fun N2 uk tD=>?_
  obtain⟨GJ,h74,h⟩:=aB h;have kX:=((((aX.lt tx hd2).i (mK tx 1 (dc hd2))).o 1 1 .uq (cX tx (dc hd2))).g (ES h74))
  obtain⟨h75,h⟩|⟨h75,h⟩:=aO h
  ·cases h;exact(kX.b h75).ret hΓ
  ·obtain⟨h76,h⟩:=bU h;exact(((kX.b h75).w (bp h76)).a [.cn [3,6,12,13] [0,1,2,3,8]]).cs hΓ tD (AP aC oL FJ ((ji.map Action.c)++([[D.int .i64 GJ.1.kind,D.str GJ.1.pat.rel,D.sl (GJ.1.pat.args.map tx)]])) (IntKind.i64.wrap ((i2:Int)+1))) (by first| (simp only[iS hd2 hm2,mA]<;>rfl)| (simp only[iS hd2 hm2,mA,aE.c,aQ.c,aN.c,Action.c,aI.c,aY.c,ax.c,af.c,Node.c,aJ.c,dX.c]<;>rfl)) (ih2 (i2+1) (ji++([GJ.1])) (dn hd2) h)
theorem uN{aC:aI}{aZ:Bytes}{ck:Bytes}{r:aI×Bool}(h:ze aC aZ ck=some r):Good prog 234 [D.agg [D.str aC.name,D.int .i64 aC.prio,D.nil,D.nil],D.str aZ,D.str ck] (D.gw [D.agg [D.str r.1.name,D.int .i64 r.1.prio,D.fr 71 5 (r.1.conds.map aN.c),D.fr 154 3 (r.1.cM.map Action.c)],D.bool r.2]):=by
 refine gd func234 [[none,none,some (71,5),some (154,3)],[none]] 69 fun hr Γ hΓ=>?_
 rw[ze]at h;obtain⟨y1,h2,h⟩:=aB h;obtain⟨h80,h⟩:=bU h;refine((aX.g (gI h2)).a [.pb 0 2 71 5,.cn [2,3,6,8,9] [0,1,2,3]]).lp hΓ (HE hΓ (fun oL h=>?_) (bY h80) y1 0 ([]:ah) rfl h);obtain⟨FJ,h40,h⟩:=aB h;obtain⟨h79,h⟩:=bU h;refine((aX.g (gI h40)).a [.pb 0 3 154 3,.cn [3,6,12,13] [0,1,3,2,4]]).lp hΓ (HF hΓ (fun vC h=>?_) (bY h79) FJ 0 ([]:dw) rfl h);obtain⟨y77,h78,h⟩:=aB h;cases h;exact((aX.a [.n 3,.d (D.bool y77)]).w (show Good prog 128 [D.agg [D.str aC.name,D.int .i64 aC.prio,D.sl (oL.map aN.c),D.sl (vC.map Action.c)]] (D.bool y77)from by first| (simpa only[bI,ay,bt,br,cB]using fQ h78)|exact fQ h78| (have t:=fQ h78;simp only[bI,br,cB,aI.c]at t;exact t))).ret hΓ
def og(aC:Bytes):Option (aI×Bool):=((lF aC ([58,32])).bind fun y1=>(bif (((y1.map tx).length:Int):Int) != 2 then(some ((⟨[],0,[],[]⟩:aI),false))else((iw y1 0).bind fun x4=>((lF x4 ([32])).bind fun y6=>((iw y1 1).bind fun x8=>((lF x8 ([32,45,62,32])).bind fun Dc=>(bif (((y6.map tx).length:Int):Int) != 2 then(some ((⟨[],0,[],[]⟩:aI),false))else(bif (((Dc.map tx).length:Int):Int) != 2 then(some ((⟨[],0,[],[]⟩:aI),false))else((iw y6 1).bind fun x14=>((mC x14).bind fun Mj=>(bif !(Mj.2)then(some ((⟨[],0,[],[]⟩:aI),false))else((iw y6 0).bind fun x19=>((iw Dc 0).bind fun x21=>((iw Dc 1).bind fun x23=>((ze (⟨x19,Mj.1,[],[]⟩:aI) x21 x23).bind fun um=>(bif !(um.2)then(some ((⟨[],0,[],[]⟩:aI),false))else(some (um.1,true))))))))))))))))))
theorem DM{aC:Bytes}{r:aI×Bool}(h:og aC=some r):Good prog 222 [D.str aC] (D.gw [D.agg [D.str r.1.name,D.int .i64 r.1.prio,D.fr 71 5 (r.1.conds.map aN.c),D.fr 154 3 (r.1.cM.map Action.c)],D.bool r.2]):=by
 refine gd func222 [[none,none,some (71,5),some (154,3)],[none]] 63 fun hr Γ hΓ=>?_
 rw[og]at h;obtain⟨y1,h2,h⟩:=aB h;obtain⟨h3,h⟩|⟨h3,h⟩:=aO h
 ·cases h;exact((aX.g (gI h2)).b h3).ret hΓ
 ·obtain⟨x4,h5,h⟩:=aB h;obtain⟨y6,h7,h⟩:=aB h;obtain⟨x8,h9,h⟩:=aB h;obtain⟨Dc,h11,h⟩:=aB h;have nB:=((((((((aX.g (gI h2)).b h3).i (iD tx 1 h5)).o 1 1 .uq (cX tx (fC h5))).g (gI h7)).i (iD tx 1 h9)).o 1 1 .uq (cX tx (fC h9))).g (gI h11))
  obtain⟨h12,h⟩|⟨h12,h⟩:=aO h
  ·cases h;exact((nB.r 4 h12).T 1).ret hΓ
  ·have gG:=(nB.r 4 h12)
   obtain⟨h13,h⟩|⟨h13,h⟩:=aO h
   ·cases h;exact(gG.b h13).ret hΓ
   ·obtain⟨x14,h15,h⟩:=aB h;obtain⟨Mj,h17,h⟩:=aB h;have kY:=((((gG.b h13).i (iD tx 1 h15)).o 1 1 .uq (cX tx (fC h15))).g (qA h17))
    obtain⟨h18,h⟩|⟨h18,h⟩:=aO h
    ·cases h;exact(kY.b h18).ret hΓ
    ·obtain⟨x19,h20,h⟩:=aB h;obtain⟨x21,h22,h⟩:=aB h;obtain⟨x23,h24,h⟩:=aB h;obtain⟨um,h26,h⟩:=aB h;have kX:=((((((((((kY.b h18).a [.n 17]).i (iD tx 1 h20)).o 1 1 .uq (cX tx (fC h20))).i (iD tx 1 h22)).o 1 1 .uq (cX tx (fC h22))).i (iD tx 1 h24)).o 1 1 .uq (cX tx (fC h24))).a [.nl (D.gw [D.agg [D.str um.1.name,D.int .i64 um.1.prio,D.fr 71 5 (um.1.conds.map aN.c),D.fr 154 3 (um.1.cM.map Action.c)],D.bool um.2])]).w (show Good prog 234 [D.agg [D.str x19,D.int .i64 Mj.1,D.nil,D.nil],D.str x21,D.str x23] (D.gw [D.agg [D.str um.1.name,D.int .i64 um.1.prio,D.fr 71 5 (um.1.conds.map aN.c),D.fr 154 3 (um.1.cM.map Action.c)],D.bool um.2])from by first| (simpa only[bI,ay,bt,br,cB]using uN h26)|exact uN h26| (have t:=uN h26;simp only[bI,br,cB,aI.c]at t;exact t)))
     obtain⟨h27,h⟩|⟨h27,h⟩:=aO h
     ·cases h;exact(kX.b h27).ret hΓ
     ·cases h;exact(kX.b h27).ret hΓ
def nO(aC:cK)(aZ:Int):Option (cK×aI):=((cP aC (OP aZ ((([[114,32,49,58,32,111,110,40,63,120,44,63,121,41,32,38,32,111,110,40,63,121,44,63,122,41,32,45,62,32,97,100,100,32,111,110,40,63,120,44,63,122,41],[114,32,50,58,32,111,110,40,63,120,44,63,121,41,32,38,32,112,40,63,121,41,32,45,62,32,97,100,100,32,112,40,63,120,41],[114,32,48,58,32,112,40,63,120,41,32,38,32,111,110,40,63,120,44,63,121,41,32,38,32,63,120,32,33,61,32,63,121,32,45,62,32,97,100,100,32,97,116,40,63,121,44,63,120,41],[114,32,51,58,32,97,116,40,63,120,44,63,121,41,32,38,32,112,40,63,120,41,32,38,32,112,40,63,121,41,32,38,32,63,120,32,60,32,63,121,32,45,62,32,97,100,100,32,122,40,41],[114,32,52,58,32,111,110,40,63,120,44,97,41,32,45,62,32,97,100,100,32,113,40,63,120,41,32,38,32,97,100,100,32,112,40,97,41],[114,32,49,58,32,97,116,40,63,120,44,63,120,41,32,38,32,113,40,49,41,32,45,62,32,97,100,100,32,111,110,40,63,120,44,49,41],[114,32,49,58,32,112,40,63,120,41,32,38,32,110,111,116,32,113,40,63,120,41,32,45,62,32,97,100,100,32,97,116,40,63,120,44,98,41],[114,32,50,58,32,111,110,40,63,120,44,63,121,41,32,38,32,110,111,116,32,97,116,40,63,121,44,63,122,41,32,45,62,32,97,100,100,32,113,40,63,121,41],[114,32,53,58,32,97,116,40,63,120,44,63,121,41,32,38,32,110,111,116,32,112,40,63,121,41,32,38,32,63,120,32,33,61,32,63,121,32,45,62,32,97,100,100,32,122,40,41],[114,32,57,58,32,113,40,63,120,41,32,38,32,112,40,63,120,41,32,45,62,32,100,114,111,112,32,112,40,63,120,41],[114,32,48,58,32,97,116,40,63,120,44,49,41,32,38,32,97,116,40,63,121,44,50,41,32,38,32,63,120,32,61,32,63,121,32,45,62,32,100,114,111,112,32,97,116,40,63,120,44,49,41,32,38,32,115,116,111,112],[114,32,49,58,32,111,110,40,63,120,44,63,120,41,32,45,62,32,115,116,111,112],[114,32,55,58,32,122,40,41,32,38,32,111,110,40,63,120,44,63,121,41,32,45,62,32,100,114,111,112,32,122,40,41,32,38,32,97,100,100,32,111,110,40,63,121,44,63,120,41]]:aG).map tx).length:Int))).bind fun y1=>((iw ([[114,32,49,58,32,111,110,40,63,120,44,63,121,41,32,38,32,111,110,40,63,121,44,63,122,41,32,45,62,32,97,100,100,32,111,110,40,63,120,44,63,122,41],[114,32,50,58,32,111,110,40,63,120,44,63,121,41,32,38,32,112,40,63,121,41,32,45,62,32,97,100,100,32,112,40,63,120,41],[114,32,48,58,32,112,40,63,120,41,32,38,32,111,110,40,63,120,44,63,121,41,32,38,32,63,120,32,33,61,32,63,121,32,45,62,32,97,100,100,32,97,116,40,63,121,44,63,120,41],[114,32,51,58,32,97,116,40,63,120,44,63,121,41,32,38,32,112,40,63,120,41,32,38,32,112,40,63,121,41,32,38,32,63,120,32,60,32,63,121,32,45,62,32,97,100,100,32,122,40,41],[114,32,52,58,32,111,110,40,63,120,44,97,41,32,45,62,32,97,100,100,32,113,40,63,120,41,32,38,32,97,100,100,32,112,40,97,41],[114,32,49,58,32,97,116,40,63,120,44,63,120,41,32,38,32,113,40,49,41,32,45,62,32,97,100,100,32,111,110,40,63,120,44,49,41],[114,32,49,58,32,112,40,63,120,41,32,38,32,110,111,116,32,113,40,63,120,41,32,45,62,32,97,100,100,32,97,116,40,63,120,44,98,41],[114,32,50,58,32,111,110,40,63,120,44,63,121,41,32,38,32,110,111,116,32,97,116,40,63,121,44,63,122,41,32,45,62,32,97,100,100,32,113,40,63,121,41],[114,32,53,58,32,97,116,40,63,120,44,63,121,41,32,38,32,110,111,116,32,112,40,63,121,41,32,38,32,63,120,32,33,61,32,63,121,32,45,62,32,97,100,100,32,122,40,41],[114,32,57,58,32,113,40,63,120,41,32,38,32,112,40,63,120,41,32,45,62,32,100,114,111,112,32,112,40,63,120,41],[114,32,48,58,32,97,116,40,63,120,44,49,41,32,38,32,97,116,40,63,121,44,50,41,32,38,32,63,120,32,61,32,63,121,32,45,62,32,100,114,111,112,32,97,116,40,63,120,44,49,41,32,38,32,115,116,111,112],[114,32,49,58,32,111,110,40,63,120,44,63,120,41,32,45,62,32,115,116,111,112],[114,32,55,58,32,122,40,41,32,38,32,111,110,40,63,120,44,63,121,41,32,45,62,32,100,114,111,112,32,122,40,41,32,38,32,97,100,100,32,111,110,40,63,121,44,63,120,41]]:aG) y1.2).bind fun x3=>((og x3).bind fun y5=>(some (y1.1,y5.1)))))
theorem uM{aC:cK}{aZ:Int}{r:cK×aI}(h:nO aC aZ=some r):gx prog 199 (cK.c aC) (cK.c r.1) [D.int .i64 aZ] (D.agg [D.str r.2.name,D.int .i64 r.2.prio,D.fr 71 5 (r.2.conds.map aN.c),D.fr 154 3 (r.2.cM.map Action.c)]):=by
 refine Ii func199 [[none,none,none],[none,none,some (71,5),some (154,3)]] 23 [D.sl (aC.b.map yx),D.int .i64 aC.i,D.int .i64 aC.h] [D.int .i64 aZ] [] fun hr hG Γ hΓ=>?_
 rw[nO]at h;obtain⟨y1,h2,h⟩:=aB h;obtain⟨x3,h4,h⟩:=aB h;obtain⟨y5,h6,h⟩:=aB h;cases h;exact((((aX.hp [[none,none,none],[none]] (cF h2)).i (iD tx 1 h4)).o 1 1 .uq (cX tx (fC h4))).g (DM h6)).ret hΓ
def iX(y1:cK×Int)(k1:bK->Int->Int->ah->Option (cK×aI)):Nat->Int->bK->Int->Int->ah->Option (cK×aI)
 |0,_,_,_,_,_=>none
 |n1+1,nV,eG,dK,dL,cw=>(bif decide ((nV:Int)>0)then((qZ (⟨eG,dK,dL⟩:cK)).bind fun A7=>(bif room ((cw.map aN.c).length+([[D.int .i64 A7.2.kind,D.str A7.2.pat.rel,D.sl (A7.2.pat.args.map tx),D.str A7.2.left,D.str A7.2.right]]).length) 80 then(iX y1 k1 n1 (IntKind.i64.wrap (nV-1)) A7.1.b A7.1.i A7.1.h (cw++([A7.2])))else none))else(k1 eG dK dL cw))
def dH(y1:cK×Int)(ew:ah)(FI:aG)(tG:cK×aE)(k2:bK->Int->Int->aG->Option (cK×aI)):Nat->Int->bK->Int->Int->aG->Option (cK×aI)
 |0,_,_,_,_,_=>none
 |n2+1,Bm,xC,vF,vG,nC=>(bif decide ((Bm:Int)<((nC.map tx).length:Int))then((iw nC Bm).bind fun x91=>((gZ x91).bind fun y93=>(bif y93 then((fw FI x91).bind fun y96=>(bif !(y96)then((gr (⟨xC,vF,vG⟩:cK)).bind fun F2=>(dH y1 ew FI tG k2 n2 (IntKind.i64.wrap (Bm+1)) F2.1.b F2.1.i F2.1.h (nC.set Bm.toNat F2.2)))else(dH y1 ew FI tG k2 n2 (IntKind.i64.wrap (Bm+1)) xC vF vG nC)))else(dH y1 ew FI tG k2 n2 (IntKind.i64.wrap (Bm+1)) xC vF vG nC))))else(k2 xC vF vG nC))
def sM(aC:cK):Option (cK×aI):=((cP aC 4).bind fun y1=>((iv y1.1).bind fun y3=>((cP y3.1 3).bind fun y5=>(iX y1 (fun(kZ:bK) (ke:Int) (kf:Int) (ew:ah)=>((kI (⟨[114],y1.2,ew,[]⟩:aI) ((ew.map aN.c).length:Int)).bind fun FI=>((iv (⟨kZ,ke,kf⟩:cK)).bind fun tG=>(dH y1 ew FI tG (fun(K3:bK) (K4:Int) (K5:Int) (rQ:aG)=>((gb (⟨K3,K4,K5⟩:cK) ([1,1,2]:bK)).bind fun GH=>(bif room (([]:List aL).length+([[D.int .i64 GH.2,D.str tG.2.rel,D.sl (rQ.map tx)]]).length) 48 then((qX GH.1 6).bind fun HY=>(bif HY.2 then(bif room ((([]:List aL)++([[D.int .i64 GH.2,D.str tG.2.rel,D.sl (rQ.map tx)]])).length+([[D.int .i64 3,D.str ([]),D.sl ([])]]).length) 48 then((kn (⟨[114],y1.2,ew,(([]:dw)++([(⟨GH.2,(⟨tG.2.rel,rQ⟩:aE)⟩:Action)]))++([(⟨3,(⟨[],[]⟩:aE)⟩:Action)])⟩:aI)).bind fun SW=>(bif !(SW)then((nO HY.1 99).bind fun Uy=>(some (Uy.1,Uy.2)))else(some (HY.1,(⟨[114],y1.2,ew,(([]:dw)++([(⟨GH.2,(⟨tG.2.rel,rQ⟩:aE)⟩:Action)]))++([(⟨3,(⟨[],[]⟩:aE)⟩:Action)])⟩:aI)))))else none)else((kn (⟨[114],y1.2,ew,([]:dw)++([(⟨GH.2,(⟨tG.2.rel,rQ⟩:aE)⟩:Action)])⟩:aI)).bind fun a0b=>(bif !(a0b)then((nO HY.1 99).bind fun a3w=>(some (a3w.1,a3w.2)))else(some (HY.1,(⟨[114],y1.2,ew,([]:dw)++([(⟨GH.2,(⟨tG.2.rel,rQ⟩:aE)⟩:Action)])⟩:aI)))))))else none))) fuel 0 tG.1.b tG.1.i tG.1.h tG.2.args)))) fuel y5.2 y5.1.b y5.1.i y5.1.h ([(⟨1,y3.2,[],[]⟩:aN)])))))
def v7(hG:Value)(y1:cK×Int)(nV:Int)(dK:Int)(dL:Int)(W1:List aL)(W4:List aL):St:=⟨[(0,D.ptr 0 0),(2,D.ptr 1 0),(3,D.ptr 2 0),(4,D.int .i64 nV)],[Ob.zq [D.sl W1,D.int .i64 dK,D.int .i64 dL] hG,Ob.box [D.str ([]),D.int .i64 0,D.nil,D.nil],Ob.box [D.str ([114]),D.int .i64 y1.2,D.acc 3,D.nil],Ob.row .uq 71 5 W4]⟩
theorem G8(hΓ:Γ.nt=88){hG:Value}{y1:cK×Int}{r:cK×aI}{k1:bK->Int->Int->ah->Option (cK×aI)}(dY:∀(kZ:bK) (ke:Int) (kf:Int) (ew:ah),k1 kZ ke kf ew=some r->Ax Γ N f198 (.p [[none,none,none],[none,none,some (71,5),some (154,3)]] hG (cK.c r.1) (D.agg [D.str r.2.name,D.int .i64 r.2.prio,D.fr 71 5 (r.2.conds.map aN.c),D.fr 154 3 (r.2.cM.map Action.c)])) [1,1,1] ⟨[(0,D.ptr 0 0),(2,D.ptr 1 0),(3,D.ptr 2 0)],[Ob.zq [D.sl (kZ.map yx),D.int .i64 ke,D.int .i64 kf] hG,Ob.box [D.str ([]),D.int .i64 0,D.nil,D.nil],Ob.box [D.str ([114]),D.int .i64 y1.2,D.acc 3,D.nil],Ob.row .uq 71 5 (ew.map aN.c)]⟩):∀(n1:Nat) (nV:Int) (eG:bK) (dK:Int) (dL:Int) (cw:ah),iX y1 k1 n1 nV eG dK dL cw=some r->Ar Γ N f198 (.p [[none,none,none],[none,none,some (71,5),some (154,3)]] hG (cK.c r.1) (D.agg [D.str r.2.name,D.int .i64 r.2.prio,D.fr 71 5 (r.2.conds.map aN.c),D.fr 154 3 (r.2.cM.map Action.c)])) [1,1,0,1,0] n1 (v7 hG y1 nV dK dL (eG.map yx) (cw.map aN.c)):=by
 intro n
 induction n with
 |zero=>intro nV eG dK dL cw h;simp[iX]at h
 |succ n1 ih1=>
  intro nV eG dK dL cw h;rw[iX]at h;refine aV fun N1 cj cL=>?_
  obtain⟨h25,h⟩|⟨h25,h⟩:=aO h
  ·obtain⟨A7,h29,h⟩:=aB h;obtain⟨h30,h⟩:=bU h;exact(((((aX.b h25).a [.n2 [0,1,2,3,4,5,6,7] [0,1,2,3,4,5,6,7] 3 5 [0,1] [0,4],.gp [[none,none,none]] (cK.c A7.1) (D.agg [D.int .i64 A7.2.kind,D.str A7.2.pat.rel,D.fr 9 1 (A7.2.pat.args.map tx),D.str A7.2.left,D.str A7.2.right])]).w (show gx prog 200 (cK.c (⟨eG,dK,dL⟩:cK)) (cK.c A7.1) [] (D.agg [D.int .i64 A7.2.kind,D.str A7.2.pat.rel,D.fr 9 1 (A7.2.pat.args.map tx),D.str A7.2.left,D.str A7.2.right])from by simpa only[bI,ay,bt,br,cB]using zZ h29)).w (bp h30)).a [.cn [0,2,3,4] [0,1,2,6]]).cs hΓ cL (v7 hG y1 (IntKind.i64.wrap (nV-1)) A7.1.i A7.1.h (A7.1.b.map yx) ((cw.map aN.c)++([[D.int .i64 A7.2.kind,D.str A7.2.pat.rel,D.sl (A7.2.pat.args.map tx),D.str A7.2.left,D.str A7.2.right]]))) (by first| (simp only[mA]<;>rfl)| (simp only[mA,aE.c,aQ.c,aN.c,Action.c,aI.c,aY.c,ax.c,af.c,Node.c,aJ.c,dX.c]<;>rfl)) (ih1 (IntKind.i64.wrap (nV-1)) A7.1.b A7.1.i A7.1.h (cw++([A7.2])) h)
  ·exact((aX.b h25).a [.hl 0 [0,2,3] [0,1,2,3]]).ex hΓ cj (dY eG dK dL cw h)
def zc(hG:Value)(y1:cK×Int)(ew:ah)(FI:aG)(tG:cK×aE)(Bm:Int)(vF:Int)(vG:Int)(W1:List aL)(W4:List aL):St:=⟨[(0,D.ptr 0 0),(2,D.ptr 1 0),(3,D.ptr 2 0),(5,D.acc 3),(6,D.ptr 4 0),(7,D.int .i64 Bm)],[Ob.zq [D.sl W1,D.int .i64 vF,D.int .i64 vG] hG,Ob.box [D.str ([]),D.int .i64 0,D.nil,D.nil],Ob.box [D.str ([114]),D.int .i64 y1.2,D.acc 5,D.nil],Ob.row .uq 9 1 (FI.map tx),Ob.box [D.str tG.2.rel,D.acc 6],Ob.row .uq 71 5 (ew.map aN.c),Ob.row .uq 9 1 W4]⟩
theorem G9(hΓ:Γ.nt=88){hG:Value}{y1:cK×Int}{ew:ah}{FI:aG}{tG:cK×aE}{r:cK×aI}{k2:bK->Int->Int->aG->Option (cK×aI)}(AR:∀(K3:bK) (K4:Int) (K5:Int) (rQ:aG),k2 K3 K4 K5 rQ=some r->Ax Γ N f198 (.p [[none,none,none],[none,none,some (71,5),some (154,3)]] hG (cK.c r.1) (D.agg [D.str r.2.name,D.int .i64 r.2.prio,D.fr 71 5 (r.2.conds.map aN.c),D.fr 154 3 (r.2.cM.map Action.c)])) [1,1,1,1,1,1] ⟨[(0,D.ptr 0 0),(2,D.ptr 1 0),(3,D.ptr 2 0),(6,D.ptr 3 0)],[Ob.zq [D.sl (K3.map yx),D.int .i64 K4,D.int .i64 K5] hG,Ob.box [D.str ([]),D.int .i64 0,D.nil,D.nil],Ob.box [D.str ([114]),D.int .i64 y1.2,D.acc 4,D.nil],Ob.box [D.str tG.2.rel,D.acc 5],Ob.row .uq 71 5 (ew.map aN.c),Ob.row .uq 9 1 (rQ.map tx)]⟩):∀(n2:Nat) (Bm:Int) (xC:bK) (vF:Int) (vG:Int) (nC:aG),dH y1 ew FI tG k2 n2 Bm xC vF vG nC=some r->Ar Γ N f198 (.p [[none,none,none],[none,none,some (71,5),some (154,3)]] hG (cK.c r.1) (D.agg [D.str r.2.name,D.int .i64 r.2.prio,D.fr 71 5 (r.2.conds.map aN.c),D.fr 154 3 (r.2.cM.map Action.c)])) [1,1,1,1,1,0,1,0] n2 (zc hG y1 ew FI tG Bm vF vG (xC.map yx) (nC.map tx)):=by
 intro n
 induction n with
 |zero=>intro Bm xC vF vG nC h;simp[dH]at h
 |succ n2 ih2=>
  intro Bm xC vF vG nC h;rw[dH]at h;refine aV fun N2 uk tD=>?_
  obtain⟨h90,h⟩|⟨h90,h⟩:=aO h
  ·obtain⟨x91,h92,h⟩:=aB h;obtain⟨y93,h94,h⟩:=aB h;have kY:=((((aX.b h90).i (iD tx 1 h92)).o 1 1 .uq (cX tx (fC h92))).g (fJ h94))
   obtain⟨h95,h⟩|⟨h95,h⟩:=aO h
   ·obtain⟨y96,h97,h⟩:=aB h;have kX:=(((((((kY.r 5 h95).i (iD tx 1 h92)).b h95).o 1 1 .uq (cX tx (fC h92))).b h95).g (jc h97)).r 2 h95)
    obtain⟨h98,h⟩|⟨h98,h⟩:=aO h
    ·obtain⟨F2,h102,h⟩:=aB h;exact((((((kX.b h98).a [.n2 [0,1,2,3,4,5,6] [0,1,2,3,4,5,6] 4 5 [0,1,2] [0],.gp [[none,none,none]] (cK.c F2.1) (D.str F2.2)]).w (show gx prog 181 (cK.c (⟨xC,vF,vG⟩:cK)) (cK.c F2.1) [] (D.str F2.2)from by simpa only[bI,ay,bt,br,cB]using ux h102)).i (iD tx 1 h92)).w (show(nC.map tx)[Bm.toNat]?=some [D.str x91]from cX tx (fC h92))).a [.row [D.str x91],.cn [0,2,3,5,6,7] [0,1,2,3,4,5,6]]).cs hΓ tD (zc hG y1 ew FI tG (IntKind.i64.wrap (Bm+1)) F2.1.i F2.1.h (F2.1.b.map yx) ((nC.map tx).set Bm.toNat [D.str F2.2])) (by first| (simp only[mA]<;>rfl)| (simp only[mA,aE.c,aQ.c,aN.c,Action.c,aI.c,aY.c,ax.c,af.c,Node.c,aJ.c,dX.c]<;>rfl)) (ih2 (IntKind.i64.wrap (Bm+1)) F2.1.b F2.1.i F2.1.h (nC.set Bm.toNat F2.2) h)
    ·exact((kX.b h98).a [.cn [0,2,3,5,6,7] [0,1,2,3,4,5,6]]).cf hΓ tD (ih2 (IntKind.i64.wrap (Bm+1)) xC vF vG nC h)
   ·exact(((kY.r 9 h95).F 1).a [.cn [0,2,3,5,6,7] [0,1,2,3,4,5,6]]).cf hΓ tD (ih2 (IntKind.i64.wrap (Bm+1)) xC vF vG nC h)
  ·exact((aX.b h90).a [.hl 0 [0,2,3,6] [0,1,2,4,5,6]]).ex hΓ uk (AR xC vF vG nC h)
theorem EU{aC:cK}{r:cK×aI}(h:sM aC=some r):gx prog 198 (cK.c aC) (cK.c r.1) [] (D.agg [D.str r.2.name,D.int .i64 r.2.prio,D.fr 71 5 (r.2.conds.map aN.c),D.fr 154 3 (r.2.cM.map Action.c)]):=by
 refine Ii func198 [[none,none,none],[none,none,some (71,5),some (154,3)]] 88 [D.sl (aC.b.map yx),D.int .i64 aC.i,D.int .i64 aC.h] [] [] fun hr hG Γ hΓ=>?_
 rw[sM]at h;obtain⟨y1,h2,h⟩:=aB h;obtain⟨y3,h4,h⟩:=aB h;obtain⟨y5,h6,h⟩:=aB h;refine((((aX.hp [[none,none,none],[none]] (cF h2)).hp [[none,none,none]] (mq h4)).hp [[none,none,none],[none]] (cF h6)).a [.cn [0,2,3,4] [0,1,4,3]]).lps hΓ (v7 hG y1 y5.2 y5.1.i y5.1.h (y5.1.b.map yx) ([[D.int .i64 1,D.str y3.2.rel,D.sl (y3.2.args.map tx),D.str ([]),D.str ([])]])) (by first| (simp only[mA]<;>rfl)| (simp only[mA,aE.c,aQ.c,aN.c,Action.c,aI.c,aY.c,ax.c,af.c,Node.c,aJ.c,dX.c]<;>rfl)) (G8 hΓ (fun kZ ke kf ew h=>?_) fuel y5.2 y5.1.b y5.1.i y5.1.h ([(⟨1,y3.2,[],[]⟩:aN)]) h);obtain⟨FI,h32,h⟩:=aB h;obtain⟨tG,h34,h⟩:=aB h;refine(((((aX.a [.d (D.fr 9 1 (FI.map tx))]).w (show Good prog 188 [D.agg [D.str ([114]),D.int .i64 y1.2,D.sl (ew.map aN.c),D.sl ([])],D.int .i64 ((ew.map aN.c).length:Int)] (D.fr 9 1 (FI.map tx))from by first| (simpa only[bI,ay,bt,br,cB]using jb h32)|exact jb h32| (have t:=jb h32;simp only[bI,br,cB,aI.c]at t;exact t))).a [.gp [[none,none,none]] (cK.c tG.1) (D.agg [D.str tG.2.rel,D.fr 9 1 (tG.2.args.map tx)])]).w (show gx prog 201 (cK.c (⟨kZ,ke,kf⟩:cK)) (cK.c tG.1) [] (D.agg [D.str tG.2.rel,D.fr 9 1 (tG.2.args.map tx)])from by simpa only[bI,ay,bt,br,cB]using mq h34)).a [.cn [0,2,3,5,6,7] [0,1,2,4,6,3,5]]).lp hΓ (G9 hΓ (fun K3 K4 K5 rQ h=>?_) fuel 0 tG.1.b tG.1.i tG.1.h tG.2.args h);obtain⟨GH,h106,h⟩:=aB h;obtain⟨h107,h⟩:=bU h;obtain⟨HY,h109,h⟩:=aB h;have sQ:=((((aX.a [.n2 [0,1,2,3,5,4,6,7,8,9,10] [0,1,2,3,5,4,6,7,8,9,10] 5 8 [0,1,4] [0,5,6],.gp [[none,none,none],[some (3,1)]] (cK.c GH.1) (D.int .i64 GH.2)]).w (show gx prog 78 (cK.c (⟨K3,K4,K5⟩:cK)) (cK.c GH.1) [D.fr 3 1 (([1,1,2]:bK).map nA)] (D.int .i64 GH.2)from by simpa only[bI,ay,bt,br,cB]using jX h106)).w (bp h107)).hp [[none,none,none],[none]] (p0 h109))
 obtain⟨h110,h⟩|⟨h110,h⟩:=aO h
 ·obtain⟨h111,h⟩:=bU h;obtain⟨SW,h113,h⟩:=aB h;have vQ:=((((sQ.b h110).w (bp h111)).a [.d (D.bool SW)]).w (show Good prog 128 [D.agg [D.str ([114]),D.int .i64 y1.2,D.sl (ew.map aN.c),D.sl ((([]:List aL)++([[D.int .i64 GH.2,D.str tG.2.rel,D.sl (rQ.map tx)]]))++([[D.int .i64 3,D.str ([]),D.sl ([])]]))]] (D.bool SW)from by first| (simpa only[bI,ay,bt,br,cB]using fQ h113)|exact fQ h113| (have t:=fQ h113;simp only[bI,br,cB,aI.c]at t;exact t)))
  obtain⟨h114,h⟩|⟨h114,h⟩:=aO h
  ·obtain⟨Uy,h116,h⟩:=aB h;cases h;exact((vQ.b h114).hp [[none,none,none],[none]] (uM h116)).ret hΓ
  ·cases h;exact(vQ.b h114).rts hΓ (D.gw [D.agg [D.str ([114]),D.int .i64 y1.2,D.fr 71 5 (ew.map aN.c),D.fr 154 3 ((([]:List aL)++([[D.int .i64 GH.2,D.str tG.2.rel,D.sl (rQ.map tx)]]))++([[D.int .i64 3,D.str ([]),D.sl ([])]]))],D.agg [D.sl (HY.1.b.map yx),D.int .i64 HY.1.i,D.int .i64 HY.1.h],D.val hG]) (by first|rfl| (simp only[mA]<;>rfl))
 ·obtain⟨a0b,h118,h⟩:=aB h;have yo:=(((sQ.b h110).a [.d (D.bool a0b)]).w (show Good prog 128 [D.agg [D.str ([114]),D.int .i64 y1.2,D.sl (ew.map aN.c),D.sl (([]:List aL)++([[D.int .i64 GH.2,D.str tG.2.rel,D.sl (rQ.map tx)]]))]] (D.bool a0b)from by first| (simpa only[bI,ay,bt,br,cB]using fQ h118)|exact fQ h118| (have t:=fQ h118;simp only[bI,br,cB,aI.c]at t;exact t)))
  obtain⟨h119,h⟩|⟨h119,h⟩:=aO h
  ·obtain⟨a3w,h121,h⟩:=aB h;cases h;exact((yo.b h119).hp [[none,none,none],[none]] (uM h121)).ret hΓ
  ·cases h;exact(yo.b h119).rts hΓ (D.gw [D.agg [D.str ([114]),D.int .i64 y1.2,D.fr 71 5 (ew.map aN.c),D.fr 154 3 (([]:List aL)++([[D.int .i64 GH.2,D.str tG.2.rel,D.sl (rQ.map tx)]]))],D.agg [D.sl (HY.1.b.map yx),D.int .i64 HY.1.i,D.int .i64 HY.1.h],D.val hG]) (by first|rfl| (simp only[mA]<;>rfl))
def kq(aC:cK):Option (cK×aI):=((qX aC 3).bind fun y1=>(bif y1.2 then((sM y1.1).bind fun y4=>(some (y4.1,y4.2)))else((nO y1.1 99).bind fun y6=>(some (y6.1,y6.2)))))
theorem zb{aC:cK}{r:cK×aI}(h:kq aC=some r):gx prog 136 (cK.c aC) (cK.c r.1) [] (D.agg [D.str r.2.name,D.int .i64 r.2.prio,D.fr 71 5 (r.2.conds.map aN.c),D.fr 154 3 (r.2.cM.map Action.c)]):=by
 refine Ii func136 [[none,none,none],[none,none,some (71,5),some (154,3)]] 9 [D.sl (aC.b.map yx),D.int .i64 aC.i,D.int .i64 aC.h] [] [] fun hr hG Γ hΓ=>?_
 rw[kq]at h;obtain⟨y1,h2,h⟩:=aB h;obtain⟨h3,h⟩|⟨h3,h⟩:=aO h
 ·obtain⟨y4,h5,h⟩:=aB h;cases h;exact(((aX.hp [[none,none,none],[none]] (p0 h2)).b h3).hp [[none,none,none]] (EU h5)).ret hΓ
 ·obtain⟨y6,h7,h⟩:=aB h;cases h;exact(((aX.hp [[none,none,none],[none]] (p0 h2)).b h3).hp [[none,none,none],[none]] (uM h7)).ret hΓ
def mE(k1:bK->Int->Int->aq->Option (cK×aq)):Nat->Int->bK->Int->Int->aq->Option (cK×aq)
 |0,_,_,_,_,_=>none
 |n1+1,eW,eG,dK,dL,bQ=>(bif decide ((eW:Int)>0)then((kq (⟨eG,dK,dL⟩:cK)).bind fun um=>((j8 eW).bind fun o9=>(bif decide (([114]:Bytes).length+(o9:Bytes).length<=maxLen)then(bif room ((bQ.map aI.c).length+([[D.str (([114])++o9),D.int .i64 um.2.prio,D.sl (um.2.conds.map aN.c),D.sl (um.2.cM.map Action.c)]]).length) 72 then(mE k1 n1 (IntKind.i64.wrap (eW-1)) um.1.b um.1.i um.1.h (bQ++([(⟨([114])++o9,um.2.prio,um.2.conds,um.2.cM⟩:aI)])))else none)else none)))else(k1 eG dK dL bQ))
def wB(aC:cK)(aZ:Int):Option (cK×aq):=((cP aC (IntKind.i64.wrap (aZ+1))).bind fun y1=>(mE (fun(kZ:bK) (ke:Int) (kf:Int) (lN:aq)=>(some ((⟨kZ,ke,kf⟩:cK),lN))) fuel y1.2 y1.1.b y1.1.i y1.1.h ([]:aq)))
def Cl(hG:Value)(eW:Int)(dK:Int)(dL:Int)(W1:List aL)(W4:List aL):St:=⟨[(0,D.ptr 0 0),(5,D.acc 1),(6,D.int .i64 eW)],[Ob.zq [D.sl W1,D.int .i64 dK,D.int .i64 dL] hG,Ob.row .uq 63 4 W4]⟩
theorem Jn(hΓ:Γ.nt=28){hG:Value}{r:cK×aq}{k1:bK->Int->Int->aq->Option (cK×aq)}(dY:∀(kZ:bK) (ke:Int) (kf:Int) (lN:aq),k1 kZ ke kf lN=some r->Ax Γ N f132 (.p [[none,none,none],[some (63,4)]] hG (cK.c r.1) (D.fr 63 4 (r.2.map aI.c))) [1,1,1] ⟨[(5,D.acc 1)],[Ob.zq [D.sl (kZ.map yx),D.int .i64 ke,D.int .i64 kf] hG,Ob.row .uq 63 4 (lN.map aI.c)]⟩):∀(n1:Nat) (eW:Int) (eG:bK) (dK:Int) (dL:Int) (bQ:aq),mE k1 n1 eW eG dK dL bQ=some r->Ar Γ N f132 (.p [[none,none,none],[some (63,4)]] hG (cK.c r.1) (D.fr 63 4 (r.2.map aI.c))) [1,1,0,1,0] n1 (Cl hG eW dK dL (eG.map yx) (bQ.map aI.c)):=by
 intro n
 induction n with
 |zero=>intro eW eG dK dL bQ h;simp[mE]at h
 |succ n1 ih1=>
  intro eW eG dK dL bQ h;rw[mE]at h;refine aV fun N1 cj cL=>?_
  obtain⟨h24,h⟩|⟨h24,h⟩:=aO h
  ·obtain⟨um,h26,h⟩:=aB h;obtain⟨o9,h28,h⟩:=aB h;obtain⟨h29,h⟩:=bU h;obtain⟨h30,h⟩:=bU h;exact(((((((aX.b h24).a [.gp [[none,none,none]] (cK.c um.1) (D.agg [D.str um.2.name,D.int .i64 um.2.prio,D.fr 71 5 (um.2.conds.map aN.c),D.fr 154 3 (um.2.cM.map Action.c)])]).w (show gx prog 136 (cK.c (⟨eG,dK,dL⟩:cK)) (cK.c um.1) [] (D.agg [D.str um.2.name,D.int .i64 um.2.prio,D.fr 71 5 (um.2.conds.map aN.c),D.fr 154 3 (um.2.cM.map Action.c)])from by simpa only[bI,ay,bt,br,cB]using zb h26)).g (mO h28)).w (bY h29)).w (bp h30)).a [.cn [0,5,6] [0,6]]).cs hΓ cL (Cl hG (IntKind.i64.wrap (eW-1)) um.1.i um.1.h (um.1.b.map yx) ((bQ.map aI.c)++([[D.str (([114])++o9),D.int .i64 um.2.prio,D.sl (um.2.conds.map aN.c),D.sl (um.2.cM.map Action.c)]]))) (by first| (simp only[mA]<;>rfl)| (simp only[mA,aE.c,aQ.c,aN.c,Action.c,aI.c,aY.c,ax.c,af.c,Node.c,aJ.c,dX.c]<;>rfl)) (ih1 (IntKind.i64.wrap (eW-1)) um.1.b um.1.i um.1.h (bQ++([(⟨([114])++o9,um.2.prio,um.2.conds,um.2.cM⟩:aI)])) h)
  ·exact((aX.b h24).a [.hl 0 [5] [0,1]]).ex hΓ cj (dY eG dK dL bQ h)
theorem IT{aC:cK}{aZ:Int}{r:cK×aq}(h:wB aC aZ=some r):gx prog 132 (cK.c aC) (cK.c r.1) [D.int .i64 aZ] (D.fr 63 4 (r.2.map aI.c)):=by
 refine Ii func132 [[none,none,none],[some (63,4)]] 28 [D.sl (aC.b.map yx),D.int .i64 aC.i,D.int .i64 aC.h] [D.int .i64 aZ] [] fun hr hG Γ hΓ=>?_
 rw[wB]at h;obtain⟨y1,h2,h⟩:=aB h;refine((aX.hp [[none,none,none],[none]] (cF h2)).a [.cn [0,5,6] [0,1]]).lp hΓ (Jn hΓ (fun kZ ke kf lN h=>?_) fuel y1.2 y1.1.b y1.1.i y1.1.h ([]:aq) h);cases h;exact aX.ret hΓ
def jv(aC:aq)(aZ:Bytes)(k1:Option Int):aq->Nat->Option Int
 | [],i1=>(k1)
 |bS::cZ,i1=>(bif (bS.name:Bytes)==aZ then(some (i1:Int))else(jv aC aZ k1 cZ (i1+1)))
def sF(aC:aq)(aZ:Bytes):Option Int:=(jv aC aZ (some (-1)) aC 0)
def Gv(aC:aq)(aZ:Bytes)(dP:Int):St:=⟨[(0,D.sl (aC.map aI.c)),(1,D.str aZ),(5,D.int .i64 dP)],[]⟩
theorem Fp(hΓ:Γ.nt=20){aC:aq}{aZ:Bytes}{r:Int}{k1:Option Int}(dY:k1=some r->Ax Γ N f30 (.q [[none]] (D.int .i64 r)) [1,1] ⟨[],[]⟩)(hm1:aC.length<=maxLen):∀(rest:aq) (i1:Nat),aC.drop i1=rest->jv aC aZ k1 rest i1=some r->Ar Γ N f30 (.q [[none]] (D.int .i64 r)) [1,0,1,0] (rest.length+1) (Gv aC aZ (i1:Int)):=by
 intro rest
 induction rest with
 |nil=>
  intro i1 b9 h;rw[jv]at h;refine aV fun N1 cj cL=>?_
  exact((aX.ge aI.c b9).a [.hl 0 [] []]).ex hΓ cj (dY h)
 |cons bS cZ ih1=>
  intro i1 b9 h;rw[jv]at h;refine aV fun N1 cj cL=>?_
  have gG:=((aX.lt aI.c b9).l (bJ aI.c 4 (dc b9) rfl))
  obtain⟨h13,h⟩|⟨h13,h⟩:=aO h
  ·cases h;exact(gG.b h13).ret hΓ
  ·exact((gG.b h13).a [.cn [0,1,5] []]).ct hΓ cL (iS b9 hm1) (ih1 (i1+1) (dn b9) h)
theorem EE{aC:aq}{aZ:Bytes}{r:Int}(h:sF aC aZ=some r):Good prog 30 [D.sl (aC.map aI.c),D.str aZ] (D.int .i64 r):=by
 refine gd func30 [[none]] 20 fun hr Γ hΓ=>?_
 rw[sF]at h;refine(aX.a [.cn [0,1,5] []]).lp hΓ (Fp hΓ (fun h=>?_) (by have:=(iE.sl (hr _ (aD (i:=0) rfl))).1;simpa using this) aC 0 rfl h);cases h;exact aX.ret hΓ
def ju(aC:aq)(k1:Option Bool):aq->Nat->Option Bool
 | [],i1=>(k1)
 |bS::cZ,i1=>((kn bS).bind fun tG=>(bif !(tG)then(some false)else((sF aC bS.name).bind fun PK=>(bif (PK:Int) != (i1:Int)then(some false)else(ju aC k1 cZ (i1+1))))))
def pQ(aC:aq):Option Bool:=(ju aC (some (decide ((((aC.map aI.c).length:Int):Int)<=6))) aC 0)
def Gt(aC:aq)(dP:Int):St:=⟨[(0,D.sl (aC.map aI.c)),(3,D.int .i64 dP)],[]⟩
theorem Fl(hΓ:Γ.nt=30){aC:aq}{r:Bool}{k1:Option Bool}(dY:k1=some r->Ax Γ N f69 (.q [[none]] (D.bool r)) [1,1] ⟨[(0,D.sl (aC.map aI.c))],[]⟩)(hm1:aC.length<=maxLen):∀(rest:aq) (i1:Nat),aC.drop i1=rest->ju aC k1 rest i1=some r->Ar Γ N f69 (.q [[none]] (D.bool r)) [1,0,1,0] (rest.length+1) (Gt aC (i1:Int)):=by
 intro rest
 induction rest with
 |nil=>
  intro i1 b9 h;rw[ju]at h;refine aV fun N1 cj cL=>?_
  exact((aX.ge aI.c b9).a [.hl 0 [0] []]).ex hΓ cj (dY h)
 |cons bS cZ ih1=>
  intro i1 b9 h;rw[ju]at h;refine aV fun N1 cj cL=>?_
  obtain⟨tG,h34,h⟩:=aB h;have kY:=(((aX.lt aI.c b9).l (bJ aI.c 4 (dc b9) rfl)).g (fQ h34))
  obtain⟨h35,h⟩|⟨h35,h⟩:=aO h
  ·have h:=aK h;subst h;exact((kY.r 10 h35).T 1).ret hΓ
  ·obtain⟨PK,h37,h⟩:=aB h;have kX:=(((((kY.r 4 h35).l (bJ aI.c 4 (dc b9) rfl)).r 3 h35).g (EE h37)).r 3 h35)
   obtain⟨h38,h⟩|⟨h38,h⟩:=aO h
   ·have h:=aK h;subst h;exact(kX.b h38).ret hΓ
   ·exact((kX.b h38).a [.cn [0,3] []]).ct hΓ cL (iS b9 hm1) (ih1 (i1+1) (dn b9) h)
theorem xW{aC:aq}{r:Bool}(h:pQ aC=some r):Good prog 69 [D.sl (aC.map aI.c)] (D.bool r):=by
 refine gd func69 [[none]] 30 fun hr Γ hΓ=>?_
 rw[pQ]at h;refine(aX.a [.cn [0,3] []]).lp hΓ (Fl hΓ (fun h=>?_) (by have:=(iE.sl (hr _ (aD (i:=0) rfl))).1;simpa using this) aC 0 rfl h);cases h;exact aX.ret hΓ
def jU(aC:Bytes)(aZ:aM)(k1:Option Bytes):aM->Nat->Option Bytes
 | [],i1=>(k1)
 |bS::cZ,i1=>(bif (bS.var:Bytes)==aC then(some bS.value)else(jU aC aZ k1 cZ (i1+1)))
def kT(aC:Bytes)(aZ:aM):Option Bytes:=(jU aC aZ (some aC) aZ 0)
def G6(aC:Bytes)(aZ:aM)(dP:Int):St:=⟨[(0,D.str aC),(1,D.sl (aZ.map aQ.c)),(5,D.int .i64 dP)],[]⟩
theorem ER(hΓ:Γ.nt=25){aC:Bytes}{aZ:aM}{r:Bytes}{k1:Option Bytes}(dY:k1=some r->Ax Γ N f203 (.q [[none]] (D.str r)) [1,1] ⟨[(0,D.str aC)],[]⟩)(hm1:aZ.length<=maxLen):∀(rest:aM) (i1:Nat),aZ.drop i1=rest->jU aC aZ k1 rest i1=some r->Ar Γ N f203 (.q [[none]] (D.str r)) [1,0,1,0] (rest.length+1) (G6 aC aZ (i1:Int)):=by
 intro rest
 induction rest with
 |nil=>
  intro i1 b9 h;rw[jU]at h;refine aV fun N1 cj cL=>?_
  exact((aX.ge aQ.c b9).a [.hl 0 [0] []]).ex hΓ cj (dY h)
 |cons bS cZ ih1=>
  intro i1 b9 h;rw[jU]at h;refine aV fun N1 cj cL=>?_
  have gG:=((aX.lt aQ.c b9).l (bJ aQ.c 2 (dc b9) rfl))
  obtain⟨h13,h⟩|⟨h13,h⟩:=aO h
  ·cases h;exact((gG.b h13).l (bJ aQ.c 2 (dc b9) rfl)).ret hΓ
  ·exact((gG.b h13).a [.cn [0,1,5] []]).ct hΓ cL (iS b9 hm1) (ih1 (i1+1) (dn b9) h)
theorem sy{aC:Bytes}{aZ:aM}{r:Bytes}(h:kT aC aZ=some r):Good prog 203 [D.str aC,D.sl (aZ.map aQ.c)] (D.str r):=by
 refine gd func203 [[none]] 25 fun hr Γ hΓ=>?_
 rw[kT]at h;refine(aX.a [.cn [0,1,5] []]).lp hΓ (ER hΓ (fun h=>?_) (by have:=(iE.sl (hr _ (aD (i:=1) rfl))).1;simpa using this) aZ 0 rfl h);have h:=aK h;subst h;exact aX.ret hΓ
def kN(aC:aN)(aZ:aM)(y1:Bytes)(y3:Bytes)(k1:aG->Option aN):aG->Nat->aG->Option aN
 | [],i1,cw=>(k1 cw)
 |bS::cZ,i1,cw=>((kT bS aZ).bind fun FI=>(bif room ((cw.map tx).length+([[D.str FI]]).length) 16 then(kN aC aZ y1 y3 k1 cZ (i1+1) (cw++([FI])))else none))
def jV(aC:aN)(aZ:aM):Option aN:=((kT aC.left aZ).bind fun y1=>((kT aC.right aZ).bind fun y3=>(kN aC aZ y1 y3 (fun(oL:aG)=>(some (⟨aC.kind,(⟨aC.pat.rel,oL⟩:aE),y1,y3⟩:aN))) aC.pat.args 0 ([]:aG))))
def xZ(aC:aN)(aZ:aM)(y1:Bytes)(y3:Bytes)(W0:List aL)(dP:Int):St:=⟨[(1,D.sl (aZ.map aQ.c)),(2,D.ptr 0 0),(4,D.ptr 1 0),(5,D.ptr 2 0),(6,D.int .i64 dP)],[Ob.box (aN.c aC),Ob.box [D.int .i64 0,D.str ([]),D.nil,D.str ([]),D.str ([])],Ob.box [D.int .i64 aC.kind,D.str aC.pat.rel,D.acc 3,D.str y1,D.str y3],Ob.row .uq 9 1 W0]⟩
theorem DQ(hΓ:Γ.nt=46){aC:aN}{aZ:aM}{y1:Bytes}{y3:Bytes}{r:aN}{k1:aG->Option aN}(dY:∀(oL:aG),k1 oL=some r->Ax Γ N f151 (.q [[none,none,some (9,1),none,none]] (D.agg [D.int .i64 r.kind,D.str r.pat.rel,D.fr 9 1 (r.pat.args.map tx),D.str r.left,D.str r.right])) [1,1,1] ⟨[(4,D.ptr 0 0),(5,D.ptr 1 0)],[Ob.box [D.int .i64 0,D.str ([]),D.nil,D.str ([]),D.str ([])],Ob.box [D.int .i64 aC.kind,D.str aC.pat.rel,D.acc 2,D.str y1,D.str y3],Ob.row .uq 9 1 (oL.map tx)]⟩)(hm1:aC.pat.args.length<=maxLen):∀(rest:aG) (i1:Nat) (cw:aG),aC.pat.args.drop i1=rest->kN aC aZ y1 y3 k1 rest i1 cw=some r->Ar Γ N f151 (.q [[none,none,some (9,1),none,none]] (D.agg [D.int .i64 r.kind,D.str r.pat.rel,D.fr 9 1 (r.pat.args.map tx),D.str r.left,D.str r.right])) [1,1,0,1,0] (rest.length+1) (xZ aC aZ y1 y3 (cw.map tx) (i1:Int)):=by
 intro rest
 induction rest with
 |nil=>
  intro i1 cw b9 h;rw[kN]at h;refine aV fun N1 cj cL=>?_
  exact((aX.ge tx b9).a [.hl 0 [4,5] [1,2,3]]).ex hΓ cj (dY cw h)
 |cons bS cZ ih1=>
  intro i1 cw b9 h;rw[kN]at h;refine aV fun N1 cj cL=>?_
  obtain⟨FI,h32,h⟩:=aB h;obtain⟨h33,h⟩:=bU h;exact((((((aX.lt tx b9).a [.n 12]).l (bJ tx 1 (dc b9) rfl)).g (sy h32)).w (bp h33)).a [.cn [1,2,4,5,6] [0,1,2,5]]).cs hΓ cL (xZ aC aZ y1 y3 ((cw.map tx)++([[D.str FI]])) (IntKind.i64.wrap ((i1:Int)+1))) (by first| (simp only[iS b9 hm1,mA]<;>rfl)| (simp only[iS b9 hm1,mA,aE.c,aQ.c,aN.c,Action.c,aI.c,aY.c,ax.c,af.c,Node.c,aJ.c,dX.c]<;>rfl)) (ih1 (i1+1) (cw++([FI])) (dn b9) h)
theorem jB{aC:aN}{aZ:aM}{r:aN}(h:jV aC aZ=some r):Good prog 151 [D.agg (aN.c aC),D.sl (aZ.map aQ.c)] (D.agg [D.int .i64 r.kind,D.str r.pat.rel,D.fr 9 1 (r.pat.args.map tx),D.str r.left,D.str r.right]):=by
 refine gd func151 [[none,none,some (9,1),none,none]] 46 fun hr Γ hΓ=>?_
 rw[jV]at h;obtain⟨y1,h2,h⟩:=aB h;obtain⟨y3,h4,h⟩:=aB h;refine((((aX.a [.n 16]).g (sy h2)).g (sy h4)).a [.pb 2 2 9 1,.cn [1,2,4,5,6] [0,1,2,3]]).lp hΓ (DQ hΓ (fun oL h=>?_) (by have:=(iE.sl (iE.agg (hr _ (aD (i:=0) rfl)) (.sl (aC.pat.args.map tx)) (by simp))).1;simpa using this) aC.pat.args 0 ([]:aG) rfl h);cases h;exact aX.ret hΓ
def oR(aC:aN):Option aN:=((jV aC ([])).bind fun y1=>(some y1))
theorem s5{aC:aN}{r:aN}(h:oR aC=some r):Good prog 100 [D.agg (aN.c aC)] (D.agg [D.int .i64 r.kind,D.str r.pat.rel,D.fr 9 1 (r.pat.args.map tx),D.str r.left,D.str r.right]):=by
 refine gd func100 [[none,none,some (9,1),none,none]] 5 fun hr Γ hΓ=>?_
 rw[oR]at h;obtain⟨y1,h2,h⟩:=aB h;have h:=aK h;subst h;exact((aX.a [.d (D.agg [D.int .i64 y1.kind,D.str y1.pat.rel,D.fr 9 1 (y1.pat.args.map tx),D.str y1.left,D.str y1.right])]).w (show Good prog 151 [D.agg (aN.c aC),D.sl ([])] (D.agg [D.int .i64 y1.kind,D.str y1.pat.rel,D.fr 9 1 (y1.pat.args.map tx),D.str y1.left,D.str y1.right])from by first| (simpa only[bI,ay,bt,br,cB]using jB h2)|exact jB h2)).ret hΓ
def rM(aC:aG):Option aG:=(bif room (([]:List aL).length+(aC.map tx).length) 16 then(some (([]:aG)++aC))else none)
theorem ya{aC:aG}{r:aG}(h:rM aC=some r):Good prog 149 [D.sl (aC.map tx)] (D.fr 9 1 (r.map tx)):=by
 refine gd func149 [[some (9,1)]] 6 fun hr Γ hΓ=>?_
 rw[rM]at h;obtain⟨h1,h⟩:=bU h;cases h;exact(((aX.w (bp h1)).w (show(∀r∈(aC.map tx),r.length=1)/\(true=true->D.lK (aC.map tx)=true)from⟨by first|simp| (intro r hr;obtain⟨x,_,rfl⟩:=cA.1 (bz (gL hr));rfl),by simp[D.lK,D.flat]⟩)).a [.KW 2,.fl true]).rts hΓ (D.fr 9 1 (([]:List aL)++(aC.map tx))) (by first|rfl| (simp only[mA]<;>rfl))
def iW(aC:aE):Option aE:=((rM aC.args).bind fun y1=>(some (⟨aC.rel,y1⟩:aE)))
theorem AD{aC:aE}{r:aE}(h:iW aC=some r):Good prog 122 [D.agg (aE.c aC)] (D.agg [D.str r.rel,D.fr 9 1 (r.args.map tx)]):=by
 refine gd func122 [[none,some (9,1)]] 9 fun hr Γ hΓ=>?_
 rw[iW]at h;obtain⟨y1,h2,h⟩:=aB h;cases h;exact((aX.a [.n 5]).g (ya h2)).ret hΓ
def oh(aC:aI)(k1:ah->Option aI):ah->Nat->ah->Option aI
 | [],i1,cw=>(k1 cw)
 |bS::cZ,i1,cw=>((oR bS).bind fun F5=>(bif room ((cw.map aN.c).length+([[D.int .i64 F5.kind,D.str F5.pat.rel,D.sl (F5.pat.args.map tx),D.str F5.left,D.str F5.right]]).length) 80 then(oh aC k1 cZ (i1+1) (cw++([F5])))else none))
def mw(aC:aI)(ew:ah)(k2:dw->Option aI):dw->Nat->dw->Option aI
 | [],i2,ji=>(k2 ji)
 |nD::uO,i2,ji=>((iW nD.pat).bind fun y92=>(bif room ((ji.map Action.c).length+([[D.int .i64 nD.kind,D.str y92.rel,D.sl (y92.args.map tx)]]).length) 48 then(mw aC ew k2 uO (i2+1) (ji++([(⟨nD.kind,y92⟩:Action)])))else none))
def sX(aC:aI):Option aI:=(oh aC (fun(ew:ah)=>(mw aC ew (fun(vC:dw)=>(some (⟨aC.name,aC.prio,ew,vC⟩:aI))) aC.cM 0 ([]:dw))) aC.conds 0 ([]:ah))
def BO(aC:aI)(W0:List aL)(dP:Int):St:=⟨[(1,D.ptr 0 0),(2,D.ptr 1 0),(3,D.ptr 2 0),(4,D.int .i64 dP)],[Ob.box (aI.c aC),Ob.box [D.str ([]),D.int .i64 0,D.nil,D.nil],Ob.box [D.str aC.name,D.int .i64 aC.prio,D.acc 3,D.nil],Ob.row .uq 71 5 W0]⟩
theorem IR(hΓ:Γ.nt=56){aC:aI}{r:aI}{k1:ah->Option aI}(dY:∀(ew:ah),k1 ew=some r->Ax Γ N f150 (.q [[none,none,some (71,5),some (154,3)]] (D.agg [D.str r.name,D.int .i64 r.prio,D.fr 71 5 (r.conds.map aN.c),D.fr 154 3 (r.cM.map Action.c)])) [1,1,1] ⟨[(1,D.ptr 0 0),(2,D.ptr 1 0),(3,D.ptr 2 0)],[Ob.box (aI.c aC),Ob.box [D.str ([]),D.int .i64 0,D.nil,D.nil],Ob.box [D.str aC.name,D.int .i64 aC.prio,D.acc 3,D.nil],Ob.row .uq 71 5 (ew.map aN.c)]⟩)(hm1:aC.conds.length<=maxLen):∀(rest:ah) (i1:Nat) (cw:ah),aC.conds.drop i1=rest->oh aC k1 rest i1 cw=some r->Ar Γ N f150 (.q [[none,none,some (71,5),some (154,3)]] (D.agg [D.str r.name,D.int .i64 r.prio,D.fr 71 5 (r.conds.map aN.c),D.fr 154 3 (r.cM.map Action.c)])) [1,1,0,1,0] (rest.length+1) (BO aC (cw.map aN.c) (i1:Int)):=by
 intro rest
 induction rest with
 |nil=>
  intro i1 cw b9 h;rw[oh]at h;refine aV fun N1 cj cL=>?_
  exact((aX.ge aN.c b9).a [.hl 0 [1,2,3] [0,1,2,3]]).ex hΓ cj (dY cw h)
 |cons bS cZ ih1=>
  intro i1 cw b9 h;rw[oh]at h;refine aV fun N1 cj cL=>?_
  obtain⟨F5,h46,h⟩:=aB h;obtain⟨h47,h⟩:=bU h;exact((((((aX.lt aN.c b9).a [.n2 [0,1,2,3,4,5,6,7,8,9,10,11] [0,1,2,3,4,5,6,7,8,9,10,11] 8 9 [0,1] [4]]).l (bJ aN.c 5 (dc b9) rfl)).g (s5 h46)).w (bp h47)).a [.cn [1,2,3,4] [0,1,2,6]]).cs hΓ cL (BO aC ((cw.map aN.c)++([[D.int .i64 F5.kind,D.str F5.pat.rel,D.sl (F5.pat.args.map tx),D.str F5.left,D.str F5.right]])) (IntKind.i64.wrap ((i1:Int)+1))) (by first| (simp only[iS b9 hm1,mA]<;>rfl)| (simp only[iS b9 hm1,mA,aE.c,aQ.c,aN.c,Action.c,aI.c,aY.c,ax.c,af.c,Node.c,aJ.c,dX.c]<;>rfl)) (ih1 (i1+1) (cw++([F5])) (dn b9) h)
def BP(aC:aI)(ew:ah)(W0:List aL)(dP:Int):St:=⟨[(1,D.ptr 0 0),(2,D.ptr 1 0),(3,D.ptr 2 0),(5,D.int .i64 dP)],[Ob.box (aI.c aC),Ob.box [D.str ([]),D.int .i64 0,D.nil,D.nil],Ob.box [D.str aC.name,D.int .i64 aC.prio,D.acc 3,D.acc 4],Ob.row .uq 71 5 (ew.map aN.c),Ob.row .uq 154 3 W0]⟩
theorem IS(hΓ:Γ.nt=56){aC:aI}{ew:ah}{r:aI}{k2:dw->Option aI}(AR:∀(vC:dw),k2 vC=some r->Ax Γ N f150 (.q [[none,none,some (71,5),some (154,3)]] (D.agg [D.str r.name,D.int .i64 r.prio,D.fr 71 5 (r.conds.map aN.c),D.fr 154 3 (r.cM.map Action.c)])) [1,1,1,1] ⟨[(2,D.ptr 0 0),(3,D.ptr 1 0)],[Ob.box [D.str ([]),D.int .i64 0,D.nil,D.nil],Ob.box [D.str aC.name,D.int .i64 aC.prio,D.acc 2,D.acc 3],Ob.row .uq 71 5 (ew.map aN.c),Ob.row .uq 154 3 (vC.map Action.c)]⟩)(hm2:aC.cM.length<=maxLen):∀(rest:dw) (i2:Nat) (ji:dw),aC.cM.drop i2=rest->mw aC ew k2 rest i2 ji=some r->Ar Γ N f150 (.q [[none,none,some (71,5),some (154,3)]] (D.agg [D.str r.name,D.int .i64 r.prio,D.fr 71 5 (r.conds.map aN.c),D.fr 154 3 (r.cM.map Action.c)])) [1,1,1,0,1,0] (rest.length+1) (BP aC ew (ji.map Action.c) (i2:Int)):=by
 intro rest
 induction rest with
 |nil=>
  intro i2 ji hd2 h;rw[mw]at h;refine aV fun N2 uk tD=>?_
  exact((aX.ge Action.c hd2).a [.hl 0 [2,3] [1,2,3,4]]).ex hΓ uk (AR ji h)
 |cons nD uO ih2=>
  intro i2 ji hd2 h;rw[mw]at h;refine aV fun N2 uk tD=>?_
  obtain⟨y92,h93,h⟩:=aB h;obtain⟨h94,h⟩:=bU h;exact(((((((aX.lt Action.c hd2).a [.n2 [0,1,2,3,4,5,6,7,8,9,10,11,12,13,14,15,16,17,18,19] [0,1,2,3,4,5,6,7,8,9,10,11,12,13,14,15,16,17,18,19] 16 17 [0,1] [5]]).l (bJ Action.c 3 (dc hd2) rfl)).l (bJ Action.c 3 (dc hd2) rfl)).g (AD h93)).w (bp h94)).a [.cn [1,2,3,5] [0,1,2,3,7]]).cs hΓ tD (BP aC ew ((ji.map Action.c)++([[D.int .i64 nD.kind,D.str y92.rel,D.sl (y92.args.map tx)]])) (IntKind.i64.wrap ((i2:Int)+1))) (by first| (simp only[iS hd2 hm2,mA]<;>rfl)| (simp only[iS hd2 hm2,mA,aE.c,aQ.c,aN.c,Action.c,aI.c,aY.c,ax.c,af.c,Node.c,aJ.c,dX.c]<;>rfl)) (ih2 (i2+1) (ji++([(⟨nD.kind,y92⟩:Action)])) (dn hd2) h)
theorem HD{aC:aI}{r:aI}(h:sX aC=some r):Good prog 150 [D.agg (aI.c aC)] (D.agg [D.str r.name,D.int .i64 r.prio,D.fr 71 5 (r.conds.map aN.c),D.fr 154 3 (r.cM.map Action.c)]):=by
 refine gd func150 [[none,none,some (71,5),some (154,3)]] 56 fun hr Γ hΓ=>?_
 rw[sX]at h;refine(aX.a [.pb 2 2 71 5,.cn [1,2,3,4] [0,1,2,3]]).lp hΓ (IR hΓ (fun ew h=>?_) (by have:=(iE.sl (iE.agg (hr _ (aD (i:=0) rfl)) (.sl (aC.conds.map aN.c)) (by simp))).1;simpa using this) aC.conds 0 ([]:ah) rfl h);refine(aX.a [.pb 2 3 154 3,.cn [1,2,3,5] [0,1,2,3,4]]).lp hΓ (IS hΓ (fun vC h=>?_) (by have:=(iE.sl (iE.agg (hr _ (aD (i:=0) rfl)) (.sl (aC.cM.map Action.c)) (by simp))).1;simpa using this) aC.cM 0 ([]:dw) rfl h);cases h;exact aX.ret hΓ
def mr(aC:aq)(k1:aq->Option aq):aq->Nat->aq->Option aq
 | [],i1,bN=>(k1 bN)
 |bS::cZ,i1,bN=>((sX bS).bind fun o9=>(bif room ((bN.map aI.c).length+([[D.str o9.name,D.int .i64 o9.prio,D.sl (o9.conds.map aN.c),D.sl (o9.cM.map Action.c)]]).length) 72 then(mr aC k1 cZ (i1+1) (bN++([o9])))else none))
def sL(aC:aq):Option aq:=(mr aC (fun(cC:aq)=>(some cC)) aC 0 ([]:aq))
def za(aC:aq)(W0:List aL)(dP:Int):St:=⟨[(0,D.sl (aC.map aI.c)),(3,D.acc 0),(4,D.int .i64 dP)],[Ob.row .uq 63 4 W0]⟩
theorem G7(hΓ:Γ.nt=21){aC:aq}{r:aq}{k1:aq->Option aq}(dY:∀(cC:aq),k1 cC=some r->Ax Γ N f89 (.q [[some (63,4)]] (D.fr 63 4 (r.map aI.c))) [1,1,1] ⟨[(3,D.acc 0)],[Ob.row .uq 63 4 (cC.map aI.c)]⟩)(hm1:aC.length<=maxLen):∀(rest:aq) (i1:Nat) (bN:aq),aC.drop i1=rest->mr aC k1 rest i1 bN=some r->Ar Γ N f89 (.q [[some (63,4)]] (D.fr 63 4 (r.map aI.c))) [1,1,0,1,0] (rest.length+1) (za aC (bN.map aI.c) (i1:Int)):=by
 intro rest
 induction rest with
 |nil=>
  intro i1 bN b9 h;rw[mr]at h;refine aV fun N1 cj cL=>?_
  exact((aX.ge aI.c b9).a [.hl 0 [3] [0]]).ex hΓ cj (dY bN h)
 |cons bS cZ ih1=>
  intro i1 bN b9 h;rw[mr]at h;refine aV fun N1 cj cL=>?_
  obtain⟨o9,h28,h⟩:=aB h;obtain⟨h29,h⟩:=bU h;exact(((((aX.lt aI.c b9).l (bJ aI.c 4 (dc b9) rfl)).g (HD h28)).w (bp h29)).a [.cn [0,3,4] [4]]).cs hΓ cL (za aC ((bN.map aI.c)++([[D.str o9.name,D.int .i64 o9.prio,D.sl (o9.conds.map aN.c),D.sl (o9.cM.map Action.c)]])) (IntKind.i64.wrap ((i1:Int)+1))) (by first| (simp only[iS b9 hm1,mA]<;>rfl)| (simp only[iS b9 hm1,mA,aE.c,aQ.c,aN.c,Action.c,aI.c,aY.c,ax.c,af.c,Node.c,aJ.c,dX.c]<;>rfl)) (ih1 (i1+1) (bN++([o9])) (dn b9) h)
theorem ET{aC:aq}{r:aq}(h:sL aC=some r):Good prog 89 [D.sl (aC.map aI.c)] (D.fr 63 4 (r.map aI.c)):=by
 refine gd func89 [[some (63,4)]] 21 fun hr Γ hΓ=>?_
 rw[sL]at h;refine(aX.a [.cn [0,3,4] [0]]).lp hΓ (G7 hΓ (fun cC h=>?_) (by have:=(iE.sl (hr _ (aD (i:=0) rfl))).1;simpa using this) aC 0 ([]:aq) rfl h);have h:=aK h;subst h;exact aX.ret hΓ
def n9(aC:aM)(aZ:Bytes)(k1:Option aM):aM->Nat->Option aM
 | [],i1=>(k1)
 |bS::cZ,i1=>(bif (bS.var:Bytes)==aZ then(some aC)else(n9 aC aZ k1 cZ (i1+1)))
def oS(aC:aM)(aZ:Bytes):Option aM:=((gZ aZ).bind fun y1=>(bif !(y1)then(some aC)else(n9 aC aZ ((j8 (IntKind.i64.wrap (((aC.map aQ.c).length:Int)+1))).bind fun Tr=>(bif decide (([63]:Bytes).length+(Tr:Bytes).length<=maxLen)then(bif room ((aC.map aQ.c).length+([[D.str aZ,D.str (([63])++Tr)]]).length) 32 then(some (aC++([(⟨aZ,([63])++Tr⟩:aQ)])))else none)else none)) aC 0)))
def Jp(aC:aM)(aZ:Bytes)(dP:Int):St:=⟨[(0,D.acc 0),(1,D.str aZ),(5,D.int .i64 dP)],[Ob.row .uq 113 2 (aC.map aQ.c)]⟩
theorem Ic(hΓ:Γ.nt=34){aC:aM}{aZ:Bytes}{r:aM}{k1:Option aM}(dY:k1=some r->Ax Γ N f85 (.q [[some (113,2)]] (D.fr 113 2 (r.map aQ.c))) [1,1,1] ⟨[(0,D.acc 0),(1,D.str aZ)],[Ob.row .uq 113 2 (aC.map aQ.c)]⟩)(hm1:aC.length<=maxLen):∀(rest:aM) (i1:Nat),aC.drop i1=rest->n9 aC aZ k1 rest i1=some r->Ar Γ N f85 (.q [[some (113,2)]] (D.fr 113 2 (r.map aQ.c))) [1,1,0,1,0] (rest.length+1) (Jp aC aZ (i1:Int)):=by
 intro rest
 induction rest with
 |nil=>
  intro i1 b9 h;rw[n9]at h;refine aV fun N1 cj cL=>?_
  exact((aX.ge aQ.c b9).a [.hl 0 [0,1] [0]]).ex hΓ cj (dY h)
 |cons bS cZ ih1=>
  intro i1 b9 h;rw[n9]at h;refine aV fun N1 cj cL=>?_
  have nB:=(((aX.lt aQ.c b9).i (mK aQ.c 2 (dc b9))).o 2 1 .uq (cX aQ.c (dc b9)))
  obtain⟨h17,h⟩|⟨h17,h⟩:=aO h
  ·have h:=aK h;subst h;exact(nB.b h17).ret hΓ
  ·exact((nB.b h17).a [.cn [0,1,5] [0]]).ct hΓ cL (iS b9 hm1) (ih1 (i1+1) (dn b9) h)
theorem s6{aC:aM}{aZ:Bytes}{r:aM}(h:oS aC aZ=some r):GM prog 85 [D.acc 0,D.str aZ] 113 2 (aC.map aQ.c) (r.map aQ.c):=by
 refine GM.of (c:=vn f85) func85 rfl (by decide) (by simp[f85]) (BY (c:=aQ.c) (fun _=>rfl) r) ?_;intro CS Γ hΓ;have hΓ:Γ.nt=34:=hΓ;rw[oS]at h;refine(show AW prog Γ (vn f85) (KQ prog Γ (fun _ _=>False) ((Kd.q [[some (113,2)]] (D.fr 113 2 (r.map aQ.c))).qq prog f85) []) _ from ?_);obtain⟨y1,h2,h⟩:=aB h;obtain⟨h3,h⟩|⟨h3,h⟩:=aO h
 ·have h:=aK h;subst h;exact((aX.g (fJ h2)).b h3).ret hΓ
 ·refine(((aX.g (fJ h2)).b h3).a [.cn [0,1,5] [0]]).lp hΓ (Ic hΓ (fun h=>?_) (by simpa using CS) aC 0 rfl h);obtain⟨Tr,h19,h⟩:=aB h;obtain⟨h20,h⟩:=bU h;obtain⟨h21,h⟩:=bU h;cases h;exact(((aX.g (mO h19)).w (bY h20)).w (bp h21)).rts hΓ (D.fr 113 2 ((aC.map aQ.c)++([[D.str aZ,D.str (([63])++Tr)]]))) (by first|rfl| (simp only[mA]<;>rfl))
def iT(aC:aI)(i1:Nat)(bS:aN)(k2:aM->Option aM):aG->Nat->aM->Option aM
 | [],i2,eE=>(k2 eE)
 |nD::uO,i2,eE=>((oS eE nD).bind fun Av=>(iT aC i1 bS k2 uO (i2+1) Av))
def iR(aC:aI)(k1:aM->Option aM):ah->Nat->aM->Option aM
 | [],i1,bQ=>(k1 bQ)
 |bS::cZ,i1,bQ=>(bif decide (bS.pat.args.length<=maxLen)then(iT aC i1 bS (fun(qd:aM)=>((oS qd bS.left).bind fun xE=>((oS xE bS.right).bind fun YT=>(iR aC k1 cZ (i1+1) YT)))) bS.pat.args 0 bQ)else none)
def nk(aC:aI):Option aM:=(iR aC (fun(cC:aM)=>(some cC)) aC.conds 0 ([]:aM))
def EM(aC:aI)(W0:List aL)(dP:Int):St:=⟨[(1,D.ptr 0 0),(3,D.acc 1),(4,D.int .i64 dP)],[Ob.box (aI.c aC),Ob.row .uq 113 2 W0]⟩
def EN(aC:aI)(i1:Nat)(W0:List aL)(dP:Int):St:=⟨[(1,D.ptr 0 0),(3,D.acc 1),(4,D.int .i64 (i1:Int)),(5,D.int .i64 dP)],[Ob.box (aI.c aC),Ob.row .uq 113 2 W0]⟩
theorem DP(hΓ:Γ.nt=55){aC:aI}{i1:Nat}{bS:aN}{r:aM}{k2:aM->Option aM}(AR:∀(qd:aM),k2 qd=some r->Ax Γ N f37 (.q [[some (113,2)]] (D.fr 113 2 (r.map aQ.c))) [1,1,0,1,0,0,1,0,0,1] ⟨[(1,D.ptr 0 0),(3,D.acc 1),(4,D.int .i64 (i1:Int))],[Ob.box (aI.c aC),Ob.row .uq 113 2 (qd.map aQ.c)]⟩)(hx1:(aC.conds)[i1]?=some bS)(hm2:bS.pat.args.length<=maxLen):∀(rest:aG) (i2:Nat) (eE:aM),bS.pat.args.drop i2=rest->iT aC i1 bS k2 rest i2 eE=some r->Ar Γ N f37 (.q [[some (113,2)]] (D.fr 113 2 (r.map aQ.c))) [1,1,0,1,0,0,1,0,0,0,1,0] (rest.length+1) (EN aC i1 (eE.map aQ.c) (i2:Int)):=by
 intro rest
 induction rest with
 |nil=>
  intro i2 eE hd2 h;rw[iT]at h;refine aV fun N2 uk tD=>?_
  exact(((aX.l (bJ aN.c 5 hx1 rfl)).ge tx hd2).a [.hl 5 [1,3,4] [0,1]]).ex hΓ uk (AR eE h)
 |cons nD uO ih2=>
  intro i2 eE hd2 h;rw[iT]at h;refine aV fun N2 uk tD=>?_
  obtain⟨Av,h207,h⟩:=aB h;exact(((((((aX.l (bJ aN.c 5 hx1 rfl)).lt tx hd2).l (bJ aN.c 5 hx1 rfl)).l (bJ tx 1 (dc hd2) rfl)).w (show(eE.map aQ.c).flatten.all D.flat=true from by simpa only[bI,ay,bt]using BY (c:=aQ.c) (fun _=>rfl) eE)).w (show GM prog 85 [D.acc 0,D.str nD] 113 2 (eE.map aQ.c) (Av.map aQ.c)from by simpa only[bI,ay,bt]using s6 h207)).a [.ov 1 (Av.map aQ.c),.cn [1,3,4,5] [0,2]]).ct hΓ tD (iS hd2 hm2) (ih2 (i2+1) Av (dn hd2) h)
theorem DO(hΓ:Γ.nt=55){aC:aI}{r:aM}{k1:aM->Option aM}(dY:∀(cC:aM),k1 cC=some r->Ax Γ N f37 (.q [[some (113,2)]] (D.fr 113 2 (r.map aQ.c))) [1,1,1] ⟨[(3,D.acc 0)],[Ob.row .uq 113 2 (cC.map aQ.c)]⟩)(hm1:aC.conds.length<=maxLen):∀(rest:ah) (i1:Nat) (bQ:aM),aC.conds.drop i1=rest->iR aC k1 rest i1 bQ=some r->Ar Γ N f37 (.q [[some (113,2)]] (D.fr 113 2 (r.map aQ.c))) [1,1,0,1,0] (rest.length+1) (EM aC (bQ.map aQ.c) (i1:Int)):=by
 intro rest
 induction rest with
 |nil=>
  intro i1 bQ b9 h;rw[iR]at h;refine aV fun N1 cj cL=>?_
  exact((aX.ge aN.c b9).a [.hl 0 [3] [1]]).ex hΓ cj (dY bQ h)
 |cons bS cZ ih1=>
  intro i1 bQ b9 h;rw[iR]at h;refine aV fun N1 cj cL=>?_
  obtain⟨h212,h⟩:=bU h;refine((aX.lt aN.c b9).a [.cn [1,3,4,5] [0,1]]).lp hΓ (DP hΓ (fun qd h=>?_) ((drop_cons b9).1) (bY h212) bS.pat.args 0 bQ rfl h);obtain⟨xE,h209,h⟩:=aB h;obtain⟨YT,h211,h⟩:=aB h;exact((((((((aX.l (bJ aN.c 5 (dc b9) rfl)).w (show(qd.map aQ.c).flatten.all D.flat=true from by simpa only[bI,ay,bt]using BY (c:=aQ.c) (fun _=>rfl) qd)).w (show GM prog 85 [D.acc 0,D.str bS.left] 113 2 (qd.map aQ.c) (xE.map aQ.c)from by simpa only[bI,ay,bt]using s6 h209)).a [.ov 1 (xE.map aQ.c)]).l (bJ aN.c 5 (dc b9) rfl)).w (show(xE.map aQ.c).flatten.all D.flat=true from by simpa only[bI,ay,bt]using BY (c:=aQ.c) (fun _=>rfl) xE)).w (show GM prog 85 [D.acc 0,D.str bS.right] 113 2 (xE.map aQ.c) (YT.map aQ.c)from by simpa only[bI,ay,bt]using s6 h211)).a [.ov 2 (YT.map aQ.c),.cn [1,3,4] [0,3]]).ct hΓ cL (iS b9 hm1) (ih1 (i1+1) YT (dn b9) h)
theorem vu{aC:aI}{r:aM}(h:nk aC=some r):Good prog 37 [D.agg (aI.c aC)] (D.fr 113 2 (r.map aQ.c)):=by
 refine gd func37 [[some (113,2)]] 55 fun hr Γ hΓ=>?_
 rw[nk]at h;refine(aX.a [.cn [1,3,4] [0,1]]).lp hΓ (DO hΓ (fun cC h=>?_) (by have:=(iE.sl (iE.agg (hr _ (aD (i:=0) rfl)) (.sl (aC.conds.map aN.c)) (by simp))).1;simpa using this) aC.conds 0 ([]:aM) rfl h);have h:=aK h;subst h;exact aX.ret hΓ
def kM(aC:aI)(y1:aM)(k1:ah->Option ah):ah->Nat->ah->Option ah
 | [],i1,bQ=>(k1 bQ)
 |bS::cZ,i1,bQ=>((jV bS y1).bind fun F3=>(bif room ((bQ.map aN.c).length+([[D.int .i64 F3.kind,D.str F3.pat.rel,D.sl (F3.pat.args.map tx),D.str F3.left,D.str F3.right]]).length) 80 then(kM aC y1 k1 cZ (i1+1) (bQ++([F3])))else none))
def qB(aC:aI):Option ah:=((nk aC).bind fun y1=>(kM aC y1 (fun(cC:ah)=>(some cC)) aC.conds 0 ([]:ah)))
def xY(aC:aI)(y1:aM)(W0:List aL)(dP:Int):St:=⟨[(1,D.ptr 0 0),(3,D.acc 1),(4,D.acc 2),(5,D.int .i64 dP)],[Ob.box (aI.c aC),Ob.row .uq 71 5 W0,Ob.row .uq 113 2 (y1.map aQ.c)]⟩
theorem DN(hΓ:Γ.nt=27){aC:aI}{y1:aM}{r:ah}{k1:ah->Option ah}(dY:∀(cC:ah),k1 cC=some r->Ax Γ N f90 (.q [[some (71,5)]] (D.fr 71 5 (r.map aN.c))) [1,1,1,1] ⟨[(3,D.acc 0)],[Ob.row .uq 71 5 (cC.map aN.c)]⟩)(hm1:aC.conds.length<=maxLen):∀(rest:ah) (i1:Nat) (bQ:ah),aC.conds.drop i1=rest->kM aC y1 k1 rest i1 bQ=some r->Ar Γ N f90 (.q [[some (71,5)]] (D.fr 71 5 (r.map aN.c))) [1,1,1,0,1,0] (rest.length+1) (xY aC y1 (bQ.map aN.c) (i1:Int)):=by
 intro rest
 induction rest with
 |nil=>
  intro i1 bQ b9 h;rw[kM]at h;refine aV fun N1 cj cL=>?_
  exact((aX.ge aN.c b9).a [.hl 0 [3] [1]]).ex hΓ cj (dY bQ h)
 |cons bS cZ ih1=>
  intro i1 bQ b9 h;rw[kM]at h;refine aV fun N1 cj cL=>?_
  obtain⟨F3,h30,h⟩:=aB h;obtain⟨h31,h⟩:=bU h;exact(((((aX.lt aN.c b9).l (bJ aN.c 5 (dc b9) rfl)).g (jB h30)).w (bp h31)).a [.cn [1,3,4,5] [0,5,2]]).cs hΓ cL (xY aC y1 ((bQ.map aN.c)++([[D.int .i64 F3.kind,D.str F3.pat.rel,D.sl (F3.pat.args.map tx),D.str F3.left,D.str F3.right]])) (IntKind.i64.wrap ((i1:Int)+1))) (by first| (simp only[iS b9 hm1,mA]<;>rfl)| (simp only[iS b9 hm1,mA,aE.c,aQ.c,aN.c,Action.c,aI.c,aY.c,ax.c,af.c,Node.c,aJ.c,dX.c]<;>rfl)) (ih1 (i1+1) (bQ++([F3])) (dn b9) h)
theorem CK{aC:aI}{r:ah}(h:qB aC=some r):Good prog 90 [D.agg (aI.c aC)] (D.fr 71 5 (r.map aN.c)):=by
 refine gd func90 [[some (71,5)]] 27 fun hr Γ hΓ=>?_
 rw[qB]at h;obtain⟨y1,h2,h⟩:=aB h;refine((aX.g (vu h2)).a [.cn [1,3,4,5] [0,1,2]]).lp hΓ (DN hΓ (fun cC h=>?_) (by have:=(iE.sl (iE.agg (hr _ (aD (i:=0) rfl)) (.sl (aC.conds.map aN.c)) (by simp))).1;simpa using this) aC.conds 0 ([]:ah) rfl h);have h:=aK h;subst h;exact aX.ret hΓ
def jd(aC:aG)(aZ:aG)(k1:Option Bool):aG->Nat->Option Bool
 | [],i1=>(k1)
 |bS::cZ,i1=>((iw aZ (i1:Int)).bind fun x22=>(bif !((bS:Bytes)==x22)then(some false)else(jd aC aZ k1 cZ (i1+1))))
def mj(aC:aG)(aZ:aG):Option Bool:=(bif (((aC.map tx).length:Int):Int) != ((aZ.map tx).length:Int)then(some false)else(jd aC aZ (some true) aC 0))
def DS(aC:aG)(aZ:aG)(dP:Int):St:=⟨[(0,D.sl (aC.map tx)),(1,D.sl (aZ.map tx)),(5,D.int .i64 dP)],[]⟩
theorem CL(hΓ:Γ.nt=26){aC:aG}{aZ:aG}{r:Bool}{k1:Option Bool}(dY:k1=some r->Ax Γ N f156 (.q [[none]] (D.bool r)) [1,1,1] ⟨[],[]⟩)(hm1:aC.length<=maxLen):∀(rest:aG) (i1:Nat),aC.drop i1=rest->jd aC aZ k1 rest i1=some r->Ar Γ N f156 (.q [[none]] (D.bool r)) [1,1,0,1,0] (rest.length+1) (DS aC aZ (i1:Int)):=by
 intro rest
 induction rest with
 |nil=>
  intro i1 b9 h;rw[jd]at h;refine aV fun N1 cj cL=>?_
  exact((aX.ge tx b9).a [.hl 0 [] []]).ex hΓ cj (dY h)
 |cons bS cZ ih1=>
  intro i1 b9 h;rw[jd]at h;refine aV fun N1 cj cL=>?_
  obtain⟨x22,h23,h⟩:=aB h;have gG:=((((aX.lt tx b9).a [.n 8]).l (bJ tx 1 (dc b9) rfl)).l (er tx 1 h23 rfl))
  obtain⟨h24,h⟩|⟨h24,h⟩:=aO h
  ·have h:=aK h;subst h;exact(gG.b h24).ret hΓ
  ·exact((gG.b h24).a [.cn [0,1,5] []]).ct hΓ cL (iS b9 hm1) (ih1 (i1+1) (dn b9) h)
theorem vN{aC:aG}{aZ:aG}{r:Bool}(h:mj aC aZ=some r):Good prog 156 [D.sl (aC.map tx),D.sl (aZ.map tx)] (D.bool r):=by
 refine gd func156 [[none]] 26 fun hr Γ hΓ=>?_
 rw[mj]at h;obtain⟨h1,h⟩|⟨h1,h⟩:=aO h
 ·have h:=aK h;subst h;exact(aX.b h1).ret hΓ
 ·refine((aX.b h1).a [.cn [0,1,5] []]).lp hΓ (CL hΓ (fun h=>?_) (by have:=(iE.sl (hr _ (aD (i:=0) rfl))).1;simpa using this) aC 0 rfl h);have h:=aK h;subst h;exact aX.ret hΓ
def iV(aC:aE)(aZ:aE):Option Bool:=(bif (aC.rel:Bytes)==aZ.rel then((mj aC.args aZ.args).bind fun y2=>(some y2))else(some false))
theorem rK{aC:aE}{aZ:aE}{r:Bool}(h:iV aC aZ=some r):Good prog 93 [D.agg (aE.c aC),D.agg (aE.c aZ)] (D.bool r):=by
 refine gd func93 [[none]] 17 fun hr Γ hΓ=>?_
 rw[iV]at h;obtain⟨h1,h⟩|⟨h1,h⟩:=aO h
 ·obtain⟨y2,h3,h⟩:=aB h;have h:=aK h;subst h;exact(((aX.r 5 h1).g (vN h3)).b h1).ret hΓ
 ·have h:=aK h;subst h;exact(aX.r 6 h1).ret hΓ
def o4(aC:aN)(aZ:aN):Option Bool:=(bif (aC.kind:Int)==aZ.kind then((iV aC.pat aZ.pat).bind fun y2=>(bif y2 then(bif (aC.left:Bytes)==aZ.left then(some ((aC.right:Bytes)==aZ.right))else(some false))else(some false)))else(some false))
theorem xa{aC:aN}{aZ:aN}{r:Bool}(h:o4 aC aZ=some r):Good prog 94 [D.agg (aN.c aC),D.agg (aN.c aZ)] (D.bool r):=by
 refine gd func94 [[none]] 31 fun hr Γ hΓ=>?_
 rw[o4]at h;obtain⟨h1,h⟩|⟨h1,h⟩:=aO h
 ·obtain⟨y2,h3,h⟩:=aB h;have nB:=(((aX.r 5 h1).g (rK h3)).b h1)
  obtain⟨h4,h⟩|⟨h4,h⟩:=aO h
  ·have gG:=(nB.r 6 h4)
   obtain⟨h5,h⟩|⟨h5,h⟩:=aO h
   ·cases h;exact(gG.r 6 h5).ret hΓ
   ·have h:=aK h;subst h;exact(gG.r 6 h5).ret hΓ
  ·have h:=aK h;subst h;exact((nB.r 6 h4).F 6).ret hΓ
 ·have h:=aK h;subst h;exact((aX.r 6 h1).F 12).ret hΓ
def lE(aC:aE)(k1:aM->Option aE):aG->Nat->aM->Option aE
 | [],i1,lQ=>(k1 lQ)
 |bS::cZ,i1,lQ=>((oS lQ bS).bind fun qM=>(lE aC k1 cZ (i1+1) qM))
def rL(aC:aE):Option aE:=(lE aC (fun(oL:aM)=>((jV (⟨0,aC,[],[]⟩:aN) oL).bind fun Gd=>(some Gd.pat))) aC.args 0 ([]:aM))
def IF(aC:aE)(W0:List aL)(dP:Int):St:=⟨[(1,D.ptr 0 0),(2,D.ptr 1 0),(3,D.acc 2),(4,D.int .i64 dP)],[Ob.box (aE.c aC),Ob.box [D.str ([]),D.nil],Ob.row .uq 113 2 W0]⟩
theorem H7(hΓ:Γ.nt=25){aC:aE}{r:aE}{k1:aM->Option aE}(dY:∀(oL:aM),k1 oL=some r->Ax Γ N f153 (.q [[none,some (9,1)]] (D.agg [D.str r.rel,D.fr 9 1 (r.args.map tx)])) [1,1,1] ⟨[(1,D.ptr 0 0),(2,D.ptr 1 0),(3,D.acc 2)],[Ob.box (aE.c aC),Ob.box [D.str ([]),D.nil],Ob.row .uq 113 2 (oL.map aQ.c)]⟩)(hm1:aC.args.length<=maxLen):∀(rest:aG) (i1:Nat) (lQ:aM),aC.args.drop i1=rest->lE aC k1 rest i1 lQ=some r->Ar Γ N f153 (.q [[none,some (9,1)]] (D.agg [D.str r.rel,D.fr 9 1 (r.args.map tx)])) [1,1,0,1,0] (rest.length+1) (IF aC (lQ.map aQ.c) (i1:Int)):=by
 intro rest
 induction rest with
 |nil=>
  intro i1 lQ b9 h;rw[lE]at h;refine aV fun N1 cj cL=>?_
  exact((aX.ge tx b9).a [.hl 0 [1,2,3] [0,1,2]]).ex hΓ cj (dY lQ h)
 |cons bS cZ ih1=>
  intro i1 lQ b9 h;rw[lE]at h;refine aV fun N1 cj cL=>?_
  obtain⟨qM,h23,h⟩:=aB h;exact(((((aX.lt tx b9).l (bJ tx 1 (dc b9) rfl)).w (show(lQ.map aQ.c).flatten.all D.flat=true from by simpa only[bI,ay,bt]using BY (c:=aQ.c) (fun _=>rfl) lQ)).w (show GM prog 85 [D.acc 0,D.str bS] 113 2 (lQ.map aQ.c) (qM.map aQ.c)from by simpa only[bI,ay,bt]using s6 h23)).a [.ov 2 (qM.map aQ.c),.cn [1,2,3,4] [0,1,3]]).ct hΓ cL (iS b9 hm1) (ih1 (i1+1) qM (dn b9) h)
theorem yZ{aC:aE}{r:aE}(h:rL aC=some r):Good prog 153 [D.agg (aE.c aC)] (D.agg [D.str r.rel,D.fr 9 1 (r.args.map tx)]):=by
 refine gd func153 [[none,some (9,1)]] 25 fun hr Γ hΓ=>?_
 rw[rL]at h;refine(aX.a [.cn [1,2,3,4] [0,1,2]]).lp hΓ (H7 hΓ (fun oL h=>?_) (by have:=(iE.sl (iE.agg (hr _ (aD (i:=0) rfl)) (.sl (aC.args.map tx)) (by simp))).1;simpa using this) aC.args 0 ([]:aM) rfl h);obtain⟨Gd,h25,h⟩:=aB h;cases h;exact((aX.a [.d (D.agg [D.int .i64 Gd.kind,D.str Gd.pat.rel,D.fr 9 1 (Gd.pat.args.map tx),D.str Gd.left,D.str Gd.right])]).w (show Good prog 151 [D.agg [D.int .i64 0,D.str aC.rel,D.sl (aC.args.map tx),D.str ([]),D.str ([])],D.sl (oL.map aQ.c)] (D.agg [D.int .i64 Gd.kind,D.str Gd.pat.rel,D.fr 9 1 (Gd.pat.args.map tx),D.str Gd.left,D.str Gd.right])from by first| (simpa only[bI,ay,bt,br,cB]using jB h25)|exact jB h25| (have t:=jB h25;simp only[bI,br,cB,aN.c]at t;exact t))).ret hΓ
def cD(x:aJ):aL:=[D.fr 63 4 (x.rules.map aI.c),D.fr 3 1 (x.ends.map nA),D.fr 83 3 (x.bG.map af.c),D.fr 74 8 (x.nodes.map Node.c),D.fr 43 2 (x.facts.map aE.c),D.int .i64 x.cg]
def lJ(aC:aJ)(aZ:aE)(k1:Option (aJ×Int)):bX->Nat->Option (aJ×Int)
 | [],i1=>(k1)
 |bS::cZ,i1=>((iV bS.shape aZ).bind fun qM=>(bif qM then(some (aC,(i1:Int)))else(lJ aC aZ k1 cZ (i1+1))))
def rN(aC:aJ)(aZ:aE):Option (aJ×Int):=(bif decide (aC.bG.length<=maxLen)then(lJ aC aZ (bif room ((aC.bG.map af.c).length+([[D.str aZ.rel,D.sl (aZ.args.map tx),D.sl ([])]]).length) 64 then(some ((⟨aC.rules,aC.ends,aC.bG++([(⟨aZ,[]⟩:af)]),aC.nodes,aC.facts,aC.cg⟩:aJ),IntKind.i64.wrap ((((aC.bG.map af.c)++([[D.str aZ.rel,D.sl (aZ.args.map tx),D.sl ([])]])).length:Int)-1)))else none) aC.bG 0)else none)
def IW(hG:Value)(aC:aJ)(aZ:aE)(dP:Int):St:=⟨[(0,D.ptr 0 0),(3,D.ptr 1 0),(5,D.int .i64 dP)],[Ob.zq [D.acc 2,D.acc 3,D.acc 4,D.acc 5,D.acc 6,D.int .i64 aC.cg] hG,Ob.box [D.str aZ.rel,D.acc 7],Ob.row .uq 63 4 (aC.rules.map aI.c),Ob.row .uq 3 1 (aC.ends.map nA),Ob.row .uq 83 3 (aC.bG.map af.c),Ob.row .uq 74 8 (aC.nodes.map Node.c),Ob.row .uq 43 2 (aC.facts.map aE.c),Ob.row .uq 9 1 (aZ.args.map tx)]⟩
theorem HI(hΓ:Γ.nt=43){hG:Value}{aC:aJ}{aZ:aE}{r:aJ×Int}{k1:Option (aJ×Int)}(dY:k1=some r->Ax Γ N f152 (.p [[some (63,4),some (3,1),some (83,3),some (74,8),some (43,2),none],[none]] hG (cD r.1) (D.int .i64 r.2)) [1,1] ⟨[(0,D.ptr 0 0),(3,D.ptr 1 0)],[Ob.zq [D.acc 2,D.acc 3,D.acc 4,D.acc 5,D.acc 6,D.int .i64 aC.cg] hG,Ob.box [D.str aZ.rel,D.acc 7],Ob.row .uq 63 4 (aC.rules.map aI.c),Ob.row .uq 3 1 (aC.ends.map nA),Ob.row .uq 83 3 (aC.bG.map af.c),Ob.row .uq 74 8 (aC.nodes.map Node.c),Ob.row .uq 43 2 (aC.facts.map aE.c),Ob.row .uq 9 1 (aZ.args.map tx)]⟩)(hm1:aC.bG.length<=maxLen):∀(rest:bX) (i1:Nat),aC.bG.drop i1=rest->lJ aC aZ k1 rest i1=some r->Ar Γ N f152 (.p [[some (63,4),some (3,1),some (83,3),some (74,8),some (43,2),none],[none]] hG (cD r.1) (D.int .i64 r.2)) [1,0,1,0] (rest.length+1) (IW hG aC aZ (i1:Int)):=by
 intro rest
 induction rest with
 |nil=>
  intro i1 b9 h;rw[lJ]at h;refine aV fun N1 cj cL=>?_
  exact((aX.ge af.c b9).a [.hl 0 [0,3] [0,1,2,3,4,5,6,7]]).ex hΓ cj (dY h)
 |cons bS cZ ih1=>
  intro i1 b9 h;rw[lJ]at h;refine aV fun N1 cj cL=>?_
  obtain⟨qM,h23,h⟩:=aB h;have gG:=(((((aX.lt af.c b9).a [.n 9]).i (mK af.c 3 (dc b9))).o 3 2 .uq (cX af.c (dc b9))).g (rK h23))
  obtain⟨h24,h⟩|⟨h24,h⟩:=aO h
  ·cases h;exact(gG.b h24).ret hΓ
  ·exact((gG.b h24).a [.cn [0,3,5] [0,1,2,3,4,5,6,7]]).ct hΓ cL (iS b9 hm1) (ih1 (i1+1) (dn b9) h)
theorem yc{aC:aJ}{aZ:aE}{r:aJ×Int}(h:rN aC aZ=some r):gx prog 152 (cD aC) (cD r.1) [D.agg [D.str aZ.rel,D.fr 9 1 (aZ.args.map tx)]] (D.int .i64 r.2):=by
 refine Ii func152 [[some (63,4),some (3,1),some (83,3),some (74,8),some (43,2),none],[none]] 43 [D.acc 1,D.acc 2,D.acc 3,D.acc 4,D.acc 5,D.int .i64 aC.cg] [D.agg [D.str aZ.rel,D.acc 6]] [Ob.row .uq 63 4 (aC.rules.map aI.c),Ob.row .uq 3 1 (aC.ends.map nA),Ob.row .uq 83 3 (aC.bG.map af.c),Ob.row .uq 74 8 (aC.nodes.map Node.c),Ob.row .uq 43 2 (aC.facts.map aE.c),Ob.row .uq 9 1 (aZ.args.map tx)] fun hr hG Γ hΓ=>?_
 rw[rN]at h;obtain⟨h27,h⟩:=bU h;refine(aX.a [.cn [0,3,5] [0,7,1,2,3,4,5,6]]).lp hΓ (HI hΓ (fun h=>?_) (bY h27) aC.bG 0 rfl h);obtain⟨h26,h⟩:=bU h;cases h;exact((aX.w (bp h26)).a [.n2 [0,1,2,3,4,5,6,7,8,9,10,11] [0,1,2,3,4,5,6,7,8,9,10,11] 7 9 [0,1,2,3,4] [4,7,8]]).rts hΓ (D.gw [D.int .i64 (IntKind.i64.wrap ((((aC.bG.map af.c)++([[D.str aZ.rel,D.sl (aZ.args.map tx),D.sl ([])]])).length:Int)-1)),D.agg [D.fr 63 4 (aC.rules.map aI.c),D.fr 3 1 (aC.ends.map nA),D.fr 83 3 ((aC.bG.map af.c)++([[D.str aZ.rel,D.sl (aZ.args.map tx),D.sl ([])]])),D.fr 74 8 (aC.nodes.map Node.c),D.fr 43 2 (aC.facts.map aE.c),D.int .i64 aC.cg],D.val hG]) (by first|rfl| (simp only[mA]<;>rfl)| (simp only[cD,mA]<;>rfl))
def gJ(aC:aJ)(aZ:Int)(ck:aN)(k1:Option (aJ×Int)):Nat->Int->Option (aJ×Int)
 |0,_=>none
 |n1+1,uA=>(bif decide ((uA:Int)<((aC.nodes.map Node.c).length:Int))then((iw aC.nodes uA).bind fun x16=>(bif (x16.parent:Int)==aZ then((o4 x16.cond ck).bind fun Bn=>(bif Bn then(some (aC,uA))else(gJ aC aZ ck k1 n1 (IntKind.i64.wrap (uA+1)))))else(gJ aC aZ ck k1 n1 (IntKind.i64.wrap (uA+1)))))else(k1))
def tR(aC:aJ)(aZ:Int)(ck:aN):Option (aJ×Int):=(gJ aC aZ ck ((oR ck).bind fun qM=>(bif (ck.kind:Int)==1 then((rL ck.pat).bind fun um=>((rN aC um).bind fun o9=>(bif room ((o9.1.nodes.map Node.c).length+([[D.int .i64 aZ,D.int .i64 qM.kind,D.str qM.pat.rel,D.sl (qM.pat.args.map tx),D.str qM.left,D.str qM.right,D.int .i64 o9.2,D.sl ([])]]).length) 120 then(some ((⟨o9.1.rules,o9.1.ends,o9.1.bG,o9.1.nodes++([(⟨aZ,qM,o9.2,[]⟩:Node)]),o9.1.facts,o9.1.cg⟩:aJ),IntKind.i64.wrap ((((o9.1.nodes.map Node.c)++([[D.int .i64 aZ,D.int .i64 qM.kind,D.str qM.pat.rel,D.sl (qM.pat.args.map tx),D.str qM.left,D.str qM.right,D.int .i64 o9.2,D.sl ([])]])).length:Int)-1)))else none)))else(bif (ck.kind:Int)==2 then((rL ck.pat).bind fun F4=>((rN aC F4).bind fun Dg=>(bif room ((Dg.1.nodes.map Node.c).length+([[D.int .i64 aZ,D.int .i64 qM.kind,D.str qM.pat.rel,D.sl (qM.pat.args.map tx),D.str qM.left,D.str qM.right,D.int .i64 Dg.2,D.sl ([])]]).length) 120 then(some ((⟨Dg.1.rules,Dg.1.ends,Dg.1.bG,Dg.1.nodes++([(⟨aZ,qM,Dg.2,[]⟩:Node)]),Dg.1.facts,Dg.1.cg⟩:aJ),IntKind.i64.wrap ((((Dg.1.nodes.map Node.c)++([[D.int .i64 aZ,D.int .i64 qM.kind,D.str qM.pat.rel,D.sl (qM.pat.args.map tx),D.str qM.left,D.str qM.right,D.int .i64 Dg.2,D.sl ([])]])).length:Int)-1)))else none)))else(bif room ((aC.nodes.map Node.c).length+([[D.int .i64 aZ,D.int .i64 qM.kind,D.str qM.pat.rel,D.sl (qM.pat.args.map tx),D.str qM.left,D.str qM.right,D.int .i64 (-1),D.sl ([])]]).length) 120 then(some ((⟨aC.rules,aC.ends,aC.bG,aC.nodes++([(⟨aZ,qM, -1,[]⟩:Node)]),aC.facts,aC.cg⟩:aJ),IntKind.i64.wrap ((((aC.nodes.map Node.c)++([[D.int .i64 aZ,D.int .i64 qM.kind,D.str qM.pat.rel,D.sl (qM.pat.args.map tx),D.str qM.left,D.str qM.right,D.int .i64 (-1),D.sl ([])]])).length:Int)-1)))else none)))) fuel 1)
def IZ(hG:Value)(aC:aJ)(aZ:Int)(ck:aN)(uA:Int):St:=⟨[(0,D.ptr 0 0),(1,D.int .i64 aZ),(5,D.ptr 1 0),(7,D.int .i64 uA)],[Ob.zq [D.acc 2,D.acc 3,D.acc 4,D.acc 5,D.acc 6,D.int .i64 aC.cg] hG,Ob.box (aN.c ck),Ob.row .uq 63 4 (aC.rules.map aI.c),Ob.row .uq 3 1 (aC.ends.map nA),Ob.row .uq 83 3 (aC.bG.map af.c),Ob.row .uq 74 8 (aC.nodes.map Node.c),Ob.row .uq 43 2 (aC.facts.map aE.c)]⟩
theorem HK(hΓ:Γ.nt=75){hG:Value}{aC:aJ}{aZ:Int}{ck:aN}{r:aJ×Int}{k1:Option (aJ×Int)}(dY:k1=some r->Ax Γ N f91 (.p [[some (63,4),some (3,1),some (83,3),some (74,8),some (43,2),none],[none]] hG (cD r.1) (D.int .i64 r.2)) [1,1] ⟨[(0,D.ptr 0 0),(1,D.int .i64 aZ),(5,D.ptr 1 0)],[Ob.zq [D.acc 2,D.acc 3,D.acc 4,D.acc 5,D.acc 6,D.int .i64 aC.cg] hG,Ob.box (aN.c ck),Ob.row .uq 63 4 (aC.rules.map aI.c),Ob.row .uq 3 1 (aC.ends.map nA),Ob.row .uq 83 3 (aC.bG.map af.c),Ob.row .uq 74 8 (aC.nodes.map Node.c),Ob.row .uq 43 2 (aC.facts.map aE.c)]⟩):∀(n1:Nat) (uA:Int),gJ aC aZ ck k1 n1 uA=some r->Ar Γ N f91 (.p [[some (63,4),some (3,1),some (83,3),some (74,8),some (43,2),none],[none]] hG (cD r.1) (D.int .i64 r.2)) [1,0,1,0] n1 (IZ hG aC aZ ck uA):=by
 intro n
 induction n with
 |zero=>intro uA h;simp[gJ]at h
 |succ n1 ih1=>
  intro uA h;rw[gJ]at h;refine aV fun N1 cj cL=>?_
  obtain⟨h15,h⟩|⟨h15,h⟩:=aO h
  ·obtain⟨x16,h17,h⟩:=aB h;have kY:=((((aX.b h15).a [.n 20]).i (iD Node.c 8 h17)).o 8 1 .uq (cX Node.c (fC h17)))
   obtain⟨h18,h⟩|⟨h18,h⟩:=aO h
   ·obtain⟨Bn,h20,h⟩:=aB h;have kX:=(((((((kY.r 6 h18).i (iD Node.c 8 h17)).r 2 h18).o 8 6 .uq (cX Node.c (fC h17))).r 2 h18).g (xa h20)).b h18)
    obtain⟨h21,h⟩|⟨h21,h⟩:=aO h
    ·cases h;exact(kX.b h21).ret hΓ
    ·exact((kX.b h21).a [.cn [0,1,5,7] [0,1,2,3,4,5,6]]).cf hΓ cL (ih1 (IntKind.i64.wrap (uA+1)) h)
   ·exact(((kY.r 11 h18).F 1).a [.cn [0,1,5,7] [0,1,2,3,4,5,6]]).cf hΓ cL (ih1 (IntKind.i64.wrap (uA+1)) h)
  ·exact((aX.b h15).a [.hl 0 [0,1,5] [0,1,2,3,4,5,6]]).ex hΓ cj (dY h)
theorem GB{aC:aJ}{aZ:Int}{ck:aN}{r:aJ×Int}(h:tR aC aZ ck=some r):gx prog 91 (cD aC) (cD r.1) [D.int .i64 aZ,D.agg (aN.c ck)] (D.int .i64 r.2):=by
 refine Ii func91 [[some (63,4),some (3,1),some (83,3),some (74,8),some (43,2),none],[none]] 75 [D.acc 1,D.acc 2,D.acc 3,D.acc 4,D.acc 5,D.int .i64 aC.cg] [D.int .i64 aZ,D.agg [D.int .i64 ck.kind,D.str ck.pat.rel,D.sl (ck.pat.args.map tx),D.str ck.left,D.str ck.right]] [Ob.row .uq 63 4 (aC.rules.map aI.c),Ob.row .uq 3 1 (aC.ends.map nA),Ob.row .uq 83 3 (aC.bG.map af.c),Ob.row .uq 74 8 (aC.nodes.map Node.c),Ob.row .uq 43 2 (aC.facts.map aE.c)] fun hr hG Γ hΓ=>?_
 rw[tR]at h;refine(aX.a [.cn [0,1,5,7] [0,6,1,2,3,4,5]]).lp hΓ (HK hΓ (fun h=>?_) fuel 1 h);obtain⟨qM,h23,h⟩:=aB h;obtain⟨h24,h⟩|⟨h24,h⟩:=aO h
 ·obtain⟨um,h26,h⟩:=aB h;obtain⟨o9,h28,h⟩:=aB h;obtain⟨h30,h⟩:=bU h;cases h;exact(((((((aX.g (s5 h23)).r 4 h24).T 1).g (yZ h26)).hp [[some (63,4),some (3,1),some (83,3),some (74,8),some (43,2),none],[none,some (9,1)]] (yc h28)).w (bp h30)).a [.n2 [0,1,2,3,4,5,6,7,8,9,10] [0,1,2,3,4,5,6,7,8,9,10] 6 8 [0,1,2,3,4] [7,13,15]]).rts hΓ (D.gw [D.int .i64 (IntKind.i64.wrap ((((o9.1.nodes.map Node.c)++([[D.int .i64 aZ,D.int .i64 qM.kind,D.str qM.pat.rel,D.sl (qM.pat.args.map tx),D.str qM.left,D.str qM.right,D.int .i64 o9.2,D.sl ([])]])).length:Int)-1)),D.agg [D.fr 63 4 (o9.1.rules.map aI.c),D.fr 3 1 (o9.1.ends.map nA),D.fr 83 3 (o9.1.bG.map af.c),D.fr 74 8 ((o9.1.nodes.map Node.c)++([[D.int .i64 aZ,D.int .i64 qM.kind,D.str qM.pat.rel,D.sl (qM.pat.args.map tx),D.str qM.left,D.str qM.right,D.int .i64 o9.2,D.sl ([])]])),D.fr 43 2 (o9.1.facts.map aE.c),D.int .i64 o9.1.cg],D.val hG]) (by first|rfl| (simp only[mA]<;>rfl)| (simp only[cD,mA]<;>rfl))
 ·have sQ:=((aX.g (s5 h23)).r 4 h24)
  obtain⟨h31,h⟩|⟨h31,h⟩:=aO h
  ·obtain⟨F4,h33,h⟩:=aB h;obtain⟨Dg,h35,h⟩:=aB h;obtain⟨h37,h⟩:=bU h;cases h;exact(((((sQ.b h31).g (yZ h33)).hp [[some (63,4),some (3,1),some (83,3),some (74,8),some (43,2),none],[none,some (9,1)]] (yc h35)).w (bp h37)).a [.n2 [0,1,2,3,4,5,6,7,8,9,10] [0,1,2,3,4,5,6,7,8,9,10] 6 8 [0,1,2,3,4] [7,13,15]]).rts hΓ (D.gw [D.int .i64 (IntKind.i64.wrap ((((Dg.1.nodes.map Node.c)++([[D.int .i64 aZ,D.int .i64 qM.kind,D.str qM.pat.rel,D.sl (qM.pat.args.map tx),D.str qM.left,D.str qM.right,D.int .i64 Dg.2,D.sl ([])]])).length:Int)-1)),D.agg [D.fr 63 4 (Dg.1.rules.map aI.c),D.fr 3 1 (Dg.1.ends.map nA),D.fr 83 3 (Dg.1.bG.map af.c),D.fr 74 8 ((Dg.1.nodes.map Node.c)++([[D.int .i64 aZ,D.int .i64 qM.kind,D.str qM.pat.rel,D.sl (qM.pat.args.map tx),D.str qM.left,D.str qM.right,D.int .i64 Dg.2,D.sl ([])]])),D.fr 43 2 (Dg.1.facts.map aE.c),D.int .i64 Dg.1.cg],D.val hG]) (by first|rfl| (simp only[mA]<;>rfl)| (simp only[cD,mA]<;>rfl))
  ·obtain⟨h39,h⟩:=bU h;cases h;exact(((sQ.b h31).w (bp h39)).a [.n2 [0,1,2,3,4,5,6,7,8,9,10] [0,1,2,3,4,5,6,7,8,9,10] 6 8 [0,1,2,3,4] [5,7,9]]).rts hΓ (D.gw [D.int .i64 (IntKind.i64.wrap ((((aC.nodes.map Node.c)++([[D.int .i64 aZ,D.int .i64 qM.kind,D.str qM.pat.rel,D.sl (qM.pat.args.map tx),D.str qM.left,D.str qM.right,D.int .i64 (-1),D.sl ([])]])).length:Int)-1)),D.agg [D.fr 63 4 (aC.rules.map aI.c),D.fr 3 1 (aC.ends.map nA),D.fr 83 3 (aC.bG.map af.c),D.fr 74 8 ((aC.nodes.map Node.c)++([[D.int .i64 aZ,D.int .i64 qM.kind,D.str qM.pat.rel,D.sl (qM.pat.args.map tx),D.str qM.left,D.str qM.right,D.int .i64 (-1),D.sl ([])]])),D.fr 43 2 (aC.facts.map aE.c),D.int .i64 aC.cg],D.val hG]) (by first|rfl| (simp only[mA]<;>rfl)| (simp only[cD,mA]<;>rfl))
def gX(aC:aq)(i1:Nat)(JG:ah)(k2:Int->Int->aq->bK->bX->bR->aP->Option (aJ×Bool)):ah->Nat->Int->Int->aq->bK->bX->bR->aP->Option (aJ×Bool)
 | [],i2,qK,o8,Ap,ji,Aq,nC,As=>(k2 qK o8 Ap ji Aq nC As)
 |nD::uO,i2,qK,o8,Ap,ji,Aq,nC,As=>((tR (⟨Ap,ji,Aq,nC,As,o8⟩:aJ) qK nD).bind fun Cd=>(gX aC i1 JG k2 uO (i2+1) Cd.2 Cd.1.cg Cd.1.rules Cd.1.ends Cd.1.bG Cd.1.nodes Cd.1.facts))
def gW(aC:aq)(k1:Int->aq->bK->bX->bR->aP->Option (aJ×Bool)):aq->Nat->Int->aq->bK->bX->bR->aP->Option (aJ×Bool)
 | [],i1,o7,lQ,cw,Am,tX,Ao=>(k1 o7 lQ cw Am tX Ao)
 |bS::cZ,i1,o7,lQ,cw,Am,tX,Ao=>((qB bS).bind fun JG=>(bif decide (JG.length<=maxLen)then(gX aC i1 JG (fun(F6:Int) (vD:Int) (HT:aq) (vC:bK) (HU:bX) (rQ:bR) (HV:aP)=>(bif room ((vC.map nA).length+([[D.int .i64 F6]]).length) 8 then(gW aC k1 cZ (i1+1) vD HT (vC++([F6])) HU rQ HV)else none)) JG 0 0 o7 lQ cw Am tX Ao)else none))
def jN(aC:aq):Option (aJ×Bool):=((pQ aC).bind fun y1=>(bif !(y1)then(some ((⟨[],[],[],[],[],0⟩:aJ),false))else((sL aC).bind fun y4=>(gW aC (fun(zv:Int) (oL:aq) (ew:bK) (MQ:bX) (uc:bR) (MR:aP)=>(some ((⟨oL,ew,MQ,uc,MR,zv⟩:aJ),true))) aC 0 0 y4 ([]:bK) ([]:bX) ([(⟨-1,(⟨0,(⟨[],[]⟩:aE),[],[]⟩:aN), -1,[(⟨[],[]⟩:aY)]⟩:Node)]) ([]:aP)))))
def rj(aC:aq)(o7:Int)(W1:List aL)(W2:List aL)(W3:List aL)(W4:List aL)(W5:List aL)(dP:Int):St:=⟨[(0,D.sl (aC.map aI.c)),(2,D.ptr 0 0),(4,D.ptr 1 0),(5,D.int .i64 dP)],[Ob.box [D.nil,D.nil,D.nil,D.nil,D.nil,D.int .i64 0],Ob.box [D.acc 2,D.acc 3,D.acc 4,D.acc 5,D.acc 6,D.int .i64 o7],Ob.row .uq 63 4 W1,Ob.row .uq 3 1 W2,Ob.row .uq 83 3 W3,Ob.row .uq 74 8 W4,Ob.row .uq 43 2 W5]⟩
def CI(aC:aq)(i1:Nat)(JG:ah)(qK:Int)(o8:Int)(W2:List aL)(W3:List aL)(W4:List aL)(W5:List aL)(W6:List aL)(dP:Int):St:=⟨[(0,D.sl (aC.map aI.c)),(2,D.ptr 0 0),(4,D.ptr 1 0),(5,D.int .i64 (i1:Int)),(6,D.int .i64 qK),(7,D.acc 2),(8,D.int .i64 dP)],[Ob.box [D.nil,D.nil,D.nil,D.nil,D.nil,D.int .i64 0],Ob.box [D.acc 3,D.acc 4,D.acc 5,D.acc 6,D.acc 7,D.int .i64 o8],Ob.row .uq 71 5 (JG.map aN.c),Ob.row .uq 63 4 W2,Ob.row .uq 3 1 W3,Ob.row .uq 83 3 W4,Ob.row .uq 74 8 W5,Ob.row .uq 43 2 W6]⟩
theorem BJ(hΓ:Γ.nt=50){aC:aq}{i1:Nat}{JG:ah}{r:aJ×Bool}{k2:Int->Int->aq->bK->bX->bR->aP->Option (aJ×Bool)}(AR:∀(F6:Int) (vD:Int) (HT:aq) (vC:bK) (HU:bX) (rQ:bR) (HV:aP),k2 F6 vD HT vC HU rQ HV=some r->Ax Γ N f40 (.q [[some (63,4),some (3,1),some (83,3),some (74,8),some (43,2),none],[none]] (D.gw [D.agg [D.fr 63 4 (r.1.rules.map aI.c),D.fr 3 1 (r.1.ends.map nA),D.fr 83 3 (r.1.bG.map af.c),D.fr 74 8 (r.1.nodes.map Node.c),D.fr 43 2 (r.1.facts.map aE.c),D.int .i64 r.1.cg],D.bool r.2])) [1,1,1,0,1,0,0,1,0,0,1,1,1] ⟨[(0,D.sl (aC.map aI.c)),(2,D.ptr 0 0),(4,D.ptr 1 0),(5,D.int .i64 (i1:Int)),(6,D.int .i64 F6)],[Ob.box [D.nil,D.nil,D.nil,D.nil,D.nil,D.int .i64 0],Ob.box [D.acc 2,D.acc 3,D.acc 4,D.acc 5,D.acc 6,D.int .i64 vD],Ob.row .uq 63 4 (HT.map aI.c),Ob.row .uq 3 1 (vC.map nA),Ob.row .uq 83 3 (HU.map af.c),Ob.row .uq 74 8 (rQ.map Node.c),Ob.row .uq 43 2 (HV.map aE.c)]⟩)(hm2:JG.length<=maxLen):∀(rest:ah) (i2:Nat) (qK:Int) (o8:Int) (Ap:aq) (ji:bK) (Aq:bX) (nC:bR) (As:aP),JG.drop i2=rest->gX aC i1 JG k2 rest i2 qK o8 Ap ji Aq nC As=some r->Ar Γ N f40 (.q [[some (63,4),some (3,1),some (83,3),some (74,8),some (43,2),none],[none]] (D.gw [D.agg [D.fr 63 4 (r.1.rules.map aI.c),D.fr 3 1 (r.1.ends.map nA),D.fr 83 3 (r.1.bG.map af.c),D.fr 74 8 (r.1.nodes.map Node.c),D.fr 43 2 (r.1.facts.map aE.c),D.int .i64 r.1.cg],D.bool r.2])) [1,1,1,0,1,0,0,1,0,0,1,1,0,1,0] (rest.length+1) (CI aC i1 JG qK o8 (Ap.map aI.c) (ji.map nA) (Aq.map af.c) (nC.map Node.c) (As.map aE.c) (i2:Int)):=by
 intro rest
 induction rest with
 |nil=>
  intro i2 qK o8 Ap ji Aq nC As hd2 h;rw[gX]at h;refine aV fun N2 uk tD=>?_
  exact((aX.ge aN.c hd2).a [.hl 5 [0,2,4,5,6] [0,1,3,4,5,6,7]]).ex hΓ uk (AR qK o8 Ap ji Aq nC As h)
 |cons nD uO ih2=>
  intro i2 qK o8 Ap ji Aq nC As hd2 h;rw[gX]at h;refine aV fun N2 uk tD=>?_
  obtain⟨Cd,h212,h⟩:=aB h;exact((((((aX.lt aN.c hd2).i (mK aN.c 5 (dc hd2))).o 5 5 .uq (cX aN.c (dc hd2))).a [.gp [[some (63,4),some (3,1),some (83,3),some (74,8),some (43,2),none],[none],[none,none,none,none,none]] (cD Cd.1) (D.int .i64 Cd.2)]).w (show gx prog 91 (cD (⟨Ap,ji,Aq,nC,As,o8⟩:aJ)) (cD Cd.1) [D.int .i64 qK,D.agg (aN.c nD)] (D.int .i64 Cd.2)from by simpa only[bI,ay,bt,br,cB]using GB h212)).a [.cn [0,2,4,5,6,7,8] [0,1,2,8,9,10,11,12]]).ct hΓ tD (iS hd2 hm2) (ih2 (i2+1) Cd.2 Cd.1.cg Cd.1.rules Cd.1.ends Cd.1.bG Cd.1.nodes Cd.1.facts (dn hd2) h)
theorem BI(hΓ:Γ.nt=50){aC:aq}{r:aJ×Bool}{k1:Int->aq->bK->bX->bR->aP->Option (aJ×Bool)}(dY:∀(zv:Int) (oL:aq) (ew:bK) (MQ:bX) (uc:bR) (MR:aP),k1 zv oL ew MQ uc MR=some r->Ax Γ N f40 (.q [[some (63,4),some (3,1),some (83,3),some (74,8),some (43,2),none],[none]] (D.gw [D.agg [D.fr 63 4 (r.1.rules.map aI.c),D.fr 3 1 (r.1.ends.map nA),D.fr 83 3 (r.1.bG.map af.c),D.fr 74 8 (r.1.nodes.map Node.c),D.fr 43 2 (r.1.facts.map aE.c),D.int .i64 r.1.cg],D.bool r.2])) [1,1,1,1] ⟨[(2,D.ptr 0 0),(4,D.ptr 1 0)],[Ob.box [D.nil,D.nil,D.nil,D.nil,D.nil,D.int .i64 0],Ob.box [D.acc 2,D.acc 3,D.acc 4,D.acc 5,D.acc 6,D.int .i64 zv],Ob.row .uq 63 4 (oL.map aI.c),Ob.row .uq 3 1 (ew.map nA),Ob.row .uq 83 3 (MQ.map af.c),Ob.row .uq 74 8 (uc.map Node.c),Ob.row .uq 43 2 (MR.map aE.c)]⟩)(hm1:aC.length<=maxLen):∀(rest:aq) (i1:Nat) (o7:Int) (lQ:aq) (cw:bK) (Am:bX) (tX:bR) (Ao:aP),aC.drop i1=rest->gW aC k1 rest i1 o7 lQ cw Am tX Ao=some r->Ar Γ N f40 (.q [[some (63,4),some (3,1),some (83,3),some (74,8),some (43,2),none],[none]] (D.gw [D.agg [D.fr 63 4 (r.1.rules.map aI.c),D.fr 3 1 (r.1.ends.map nA),D.fr 83 3 (r.1.bG.map af.c),D.fr 74 8 (r.1.nodes.map Node.c),D.fr 43 2 (r.1.facts.map aE.c),D.int .i64 r.1.cg],D.bool r.2])) [1,1,1,0,1,0] (rest.length+1) (rj aC o7 (lQ.map aI.c) (cw.map nA) (Am.map af.c) (tX.map Node.c) (Ao.map aE.c) (i1:Int)):=by
 intro rest
 induction rest with
 |nil=>
  intro i1 o7 lQ cw Am tX Ao b9 h;rw[gW]at h;refine aV fun N1 cj cL=>?_
  exact((aX.ge aI.c b9).a [.hl 0 [2,4] [0,1,2,3,4,5,6]]).ex hΓ cj (dY o7 lQ cw Am tX Ao h)
 |cons bS cZ ih1=>
  intro i1 o7 lQ cw Am tX Ao b9 h;rw[gW]at h;refine aV fun N1 cj cL=>?_
  obtain⟨JG,h183,h⟩:=aB h;obtain⟨h214,h⟩:=bU h;refine((((aX.lt aI.c b9).l (bJ aI.c 4 (dc b9) rfl)).g (CK h183)).a [.cn [0,2,4,5,6,7,8] [0,1,7,2,3,4,5,6]]).lp hΓ (BJ hΓ (fun F6 vD HT vC HU rQ HV h=>?_) (bY h214) JG 0 0 o7 lQ cw Am tX Ao rfl h);obtain⟨h213,h⟩:=bU h;exact((aX.w (bp h213)).a [.cn [0,2,4,5] [0,1,2,8,4,5,6]]).cs hΓ cL (rj aC vD (HT.map aI.c) ((vC.map nA)++([[D.int .i64 F6]])) (HU.map af.c) (rQ.map Node.c) (HV.map aE.c) (IntKind.i64.wrap ((i1:Int)+1))) (by first| (simp only[iS b9 hm1,mA]<;>rfl)| (simp only[iS b9 hm1,mA,aE.c,aQ.c,aN.c,Action.c,aI.c,aY.c,ax.c,af.c,Node.c,aJ.c,dX.c]<;>rfl)) (ih1 (i1+1) vD HT (vC++([F6])) HU rQ HV (dn b9) h)
theorem qT{aC:aq}{r:aJ×Bool}(h:jN aC=some r):Good prog 40 [D.sl (aC.map aI.c)] (D.gw [D.agg [D.fr 63 4 (r.1.rules.map aI.c),D.fr 3 1 (r.1.ends.map nA),D.fr 83 3 (r.1.bG.map af.c),D.fr 74 8 (r.1.nodes.map Node.c),D.fr 43 2 (r.1.facts.map aE.c),D.int .i64 r.1.cg],D.bool r.2]):=by
 refine gd func40 [[some (63,4),some (3,1),some (83,3),some (74,8),some (43,2),none],[none]] 50 fun hr Γ hΓ=>?_
 rw[jN]at h;obtain⟨y1,h2,h⟩:=aB h;obtain⟨h3,h⟩|⟨h3,h⟩:=aO h
 ·cases h;exact((aX.g (xW h2)).b h3).ret hΓ
 ·obtain⟨y4,h5,h⟩:=aB h;refine((((aX.g (xW h2)).b h3).g (ET h5)).a [.pb 4 1 3 1,.pb 4 2 83 3,.pb 4 4 43 2,.cn [0,2,4,5] [0,4,1,5,6,3,7]]).lps hΓ (rj aC 0 (y4.map aI.c) ([]:List aL) ([]:List aL) ([[D.int .i64 (-1),D.int .i64 0,D.str ([]),D.sl ([]),D.str ([]),D.str ([]),D.int .i64 (-1),D.sl ([[D.sl ([]),D.sl ([])]])]]) ([]:List aL) 0) (by first| (simp only[mA]<;>rfl)| (simp only[mA,aE.c,aQ.c,aN.c,Action.c,aI.c,aY.c,ax.c,af.c,Node.c,aJ.c,dX.c]<;>rfl)) (BI hΓ (fun zv oL ew MQ uc MR h=>?_) (by have:=(iE.sl (hr _ (aD (i:=0) rfl))).1;simpa using this) aC 0 0 y4 ([]:bK) ([]:bX) ([(⟨-1,(⟨0,(⟨[],[]⟩:aE),[],[]⟩:aN), -1,[(⟨[],[]⟩:aY)]⟩:Node)]) ([]:aP) rfl h);cases h;exact aX.ret hΓ
end Go.Cx

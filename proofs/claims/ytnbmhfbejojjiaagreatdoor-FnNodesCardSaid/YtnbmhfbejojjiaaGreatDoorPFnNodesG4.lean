/- What functions of the program compute, and the walks that show it. No condition. -/
import Derived.Test.YtnbmhfbejojjiaaGreatDoorPFnNodesG3
set_option linter.unusedVariables false
set_option linter.unusedSimpArgs false
namespace Go.Cx
open Go.RowKit Go.Proofs Tryz
set_option maxRecDepth 100000
variable{Γ:sO}{N:Nat->St->Prop}
def mX(aC:bJ)(k1:Int->Option cU):bJ->Nat->Int->Option cU
 | [],i1,kx=>(k1 kx)
 |bh::cV,i1,kx=>(bif decide (((i1:Int):Int)<4000)then(mX aC k1 cV (i1+1) (E1 .i64 (IntKind.i64.wrap ((IntKind.i64.wrap ((IntKind.i64.wrap (kx*167))+(IntKind.i64.wrap bh)))+29)) 1073741823))else(k1 kx))
def uF(aC:bJ):Option cU:=(bif decide (aC.length<=maxLen)then(mX aC (fun(VD:Int)=>(some (⟨aC,0,VD⟩:cU))) aC 0 (IntKind.i64.wrap (851207+(IntKind.i64.wrap (3*((aC.map yx).length:Int))))))else none)
def IG(aC:bJ)(kx:Int)(dQ:Int):St:=⟨[(0,D.sl (aC.map yx)),(3,D.int .i64 kx),(4,D.int .i64 dQ)],[]⟩
theorem HL(hΓ:Γ.nt=33){aC:bJ}{r:cU}{k1:Int->Option cU}(eR:∀(VD:Int),k1 VD=some r->Ax Γ N f45 (.n (cU.c r)) [1,1,1] ⟨[(0,D.sl (aC.map yx)),(3,D.int .i64 VD)],[]⟩)(hm1:aC.length<=maxLen):∀(rest:bJ) (i1:Nat) (kx:Int),aC.drop i1=rest->mX aC k1 rest i1 kx=some r->Ar Γ N f45 (.n (cU.c r)) [1,1,0,1,0] (rest.length+1) (IG aC kx (i1:Int)):=by
 intro rest
 induction rest with
 |nil=>
  intro i1 kx bA h;rw[mX]at h;refine aR fun N1 cW cL=>?_
  exact(((((aU.ge yx bA).ge yx bA).ge yx bA).F 1).a [.hl 0 [0,3] []]).ex hΓ cW (eR kx h)
 |cons bh cV ih1=>
  intro i1 kx bA h;rw[mX]at h;refine aR fun N1 cW cL=>?_
  have oa:=(((aU.lt yx bA).lt yx bA).lt yx bA)
  obtain⟨h13,h⟩|⟨h13,h⟩:=aM h
  ·exact(((oa.b h13).l (bI yx 1 (dc bA) rfl)).a [.cn [0,3,4] []]).ct hΓ cL (iS bA hm1) (ih1 (i1+1) (E1 .i64 (IntKind.i64.wrap ((IntKind.i64.wrap ((IntKind.i64.wrap (kx*167))+(IntKind.i64.wrap bh)))+29)) 1073741823) (dn bA) h)
  ·exact((oa.b h13).a [.hl 0 [0,3] []]).ex hΓ cW (eR kx h)
theorem Fy{aC:bJ}{r:cU}(h:uF aC=some r):FL prog 45 [D.sl (aC.map yx)] (cU.c r):=by
 refine gdN func45 33 fun hr Γ hΓ=>?_
 rw[uF]at h;obtain⟨h14,h⟩:=bQ h;refine(aU.a [.cn [0,3,4] []]).lp hΓ (HL hΓ (fun VD h=>?_) (ay h14) aC 0 (IntKind.i64.wrap (851207+(IntKind.i64.wrap (3*((aC.map yx).length:Int))))) rfl h);cases h;exact aU.ret hΓ
def nC(aC:cU):Option (cU×Int):=(bif decide ((aC.i:Int)<((aC.b.map yx).length:Int))then((iM aC.b aC.i).bind fun x2=>(some ((⟨aC.b,IntKind.i64.wrap (aC.i+1),IntKind.i64.wrap ((IntKind.i64.wrap (aC.h*6364136223846793005))+1442695040888963407)⟩:cU),E1 .i64 (IntKind.i64.wrap ((E1 .i64 (Pr .i64 (Nk .i64 (IntKind.i64.wrap ((IntKind.i64.wrap (aC.h*6364136223846793005))+1442695040888963407)) 35) (Nk .i64 (IntKind.i64.wrap ((IntKind.i64.wrap (aC.h*6364136223846793005))+1442695040888963407)) 45)) 255)+(IntKind.i64.wrap x2))) 255)))else(some ((⟨aC.b,aC.i,IntKind.i64.wrap ((IntKind.i64.wrap (aC.h*6364136223846793005))+1442695040888963407)⟩:cU),E1 .i64 (Pr .i64 (Nk .i64 (IntKind.i64.wrap ((IntKind.i64.wrap (aC.h*6364136223846793005))+1442695040888963407)) 35) (Nk .i64 (IntKind.i64.wrap ((IntKind.i64.wrap (aC.h*6364136223846793005))+1442695040888963407)) 45)) 255)))
theorem pu{aC:cU}{r:cU×Int}(h:nC aC=some r):jP prog 153 (cU.c aC) (cU.c r.1) [] (D.int .i64 r.2):=by
 refine J9 func153 [[none,none,none],[none]] 58 [D.sl (aC.b.map yx),D.int .i64 aC.i,D.int .i64 aC.h] [] [] fun hr jr Γ hΓ=>?_
 rw[nC]at h;obtain⟨h1,h⟩|⟨h1,h⟩:=aM h
 ·obtain⟨x2,h3,h⟩:=aB h;cases h;exact((((aU.a [.n 10,.n 9]).b h1).a [.n 12]).l (iN yx 1 h3 rfl)).ret hΓ
 ·cases h;exact((aU.a [.n 10,.n 9]).b h1).ret hΓ
def dV(aC:cU)(aa:Int):Option (cU×Int):=(bif decide ((aa:Int)<=0)then(some (aC,0))else(bif decide ((aa:Int)<=256)then((nC aC).bind fun y3=>(bif decide (0<=(y3.2:Int))&&decide (0<(aa:Int))then(some (y3.1,(y3.2:Int)%aa))else none))else((nC aC).bind fun y6=>((nC y6.1).bind fun y8=>((nC y8.1).bind fun FE=>(bif decide (0<=(IntKind.i64.wrap ((IntKind.i64.wrap ((IntKind.i64.wrap (y6.2*65536))+(IntKind.i64.wrap (y8.2*256))))+FE.2):Int))&&decide (0<(aa:Int))then(some (FE.1,(IntKind.i64.wrap ((IntKind.i64.wrap ((IntKind.i64.wrap (y6.2*65536))+(IntKind.i64.wrap (y8.2*256))))+FE.2):Int)%aa))else none))))))
theorem dB{aC:cU}{aa:Int}{r:cU×Int}(h:dV aC aa=some r):jP prog 93 (cU.c aC) (cU.c r.1) [D.int .i64 aa] (D.int .i64 r.2):=by
 refine J9 func93 [[none,none,none],[none]] 31 [D.sl (aC.b.map yx),D.int .i64 aC.i,D.int .i64 aC.h] [D.int .i64 aa] [] fun hr jr Γ hΓ=>?_
 rw[dV]at h;obtain⟨h1,h⟩|⟨h1,h⟩:=aM h
 ·cases h;exact(aU.b h1).ret hΓ
 ·obtain⟨h2,h⟩|⟨h2,h⟩:=aM h
  ·obtain⟨y3,h4,h⟩:=aB h;obtain⟨h5,h⟩:=bQ h;cases h;exact((((aU.b h1).b h2).hp [[none,none,none]] (pu h4)).w (MB .i64 h5)).ret hΓ
  ·obtain⟨y6,h7,h⟩:=aB h;obtain⟨y8,h9,h⟩:=aB h;obtain⟨FE,h11,h⟩:=aB h;obtain⟨h12,h⟩:=bQ h;cases h;exact((((((aU.b h1).b h2).hp [[none,none,none]] (pu h7)).hp [[none,none,none]] (pu h9)).hp [[none,none,none]] (pu h11)).w (MB .i64 h12)).ret hΓ
def oW(aC:cU)(aa:Int):Option (cU×Bool):=((dV aC aa).bind fun y1=>(some (y1.1,(y1.2:Int)==0)))
theorem nW{aC:cU}{aa:Int}{r:cU×Bool}(h:oW aC aa=some r):jP prog 90 (cU.c aC) (cU.c r.1) [D.int .i64 aa] (D.bool r.2):=by
 refine J9 func90 [[none,none,none],[none]] 9 [D.sl (aC.b.map yx),D.int .i64 aC.i,D.int .i64 aC.h] [D.int .i64 aa] [] fun hr jr Γ hΓ=>?_
 rw[oW]at h;obtain⟨y1,h2,h⟩:=aB h;cases h;exact(aU.hp [[none,none,none],[none]] (dB h2)).ret hΓ
def oK(aC:cU):Option (cU×(Bytes×Int)):=((dV aC 6).bind fun y1=>((iM ([[111,110],[111,110],[97,116],[112],[113],[122]]:aF) y1.2).bind fun x3=>((iM ([2,2,2,1,1,0]:bJ) y1.2).bind fun x5=>(some (y1.1,(x3,x5))))))
theorem yL{aC:cU}{r:cU×(Bytes×Int)}(h:oK aC=some r):jP prog 156 (cU.c aC) (cU.c r.1) [] (D.iK [D.str r.2.1,D.int .i64 r.2.2]):=by
 refine J9 func156 [[none,none,none],[none],[none]] 15 [D.sl (aC.b.map yx),D.int .i64 aC.i,D.int .i64 aC.h] [] [] fun hr jr Γ hΓ=>?_
 rw[oK]at h;obtain⟨y1,h2,h⟩:=aB h;obtain⟨x3,h4,h⟩:=aB h;obtain⟨x5,h6,h⟩:=aB h;cases h;exact(((((aU.hp [[none,none,none],[none]] (dB h2)).a [.n 9,.vw 0]).l (iN tx 1 h4 rfl)).a [.vw 0]).l (iN mR 1 h6 rfl)).ret hΓ
def rZ(aC:cU)(aa:aF):Option (cU×Bytes):=((dV aC ((aa.map tx).length:Int)).bind fun y1=>((iM aa y1.2).bind fun x3=>(some (y1.1,x3))))
theorem yK{aC:cU}{aa:aF}{r:cU×Bytes}(h:rZ aC aa=some r):jP prog 192 (cU.c aC) (cU.c r.1) [D.fr 9 1 (aa.map tx)] (D.str r.2):=by
 refine J9 func192 [[none,none,none],[none]] 12 [D.sl (aC.b.map yx),D.int .i64 aC.i,D.int .i64 aC.h] [D.acc 1] [Ob.row .uq 9 1 (aa.map tx)] fun hr jr Γ hΓ=>?_
 rw[rZ]at h;obtain⟨y1,h2,h⟩:=aB h;obtain⟨x3,h4,h⟩:=aB h;cases h;exact(((aU.hp [[none,none,none],[none]] (dB h2)).i (fc tx 1 h4)).o 1 1 .uq (cH tx (dR h4))).ret hΓ
def hO(aC:cU):Option (cU×Bytes):=((rZ aC ([[97],[98],[99],[49],[50]]:aF)).bind fun y1=>(some (y1.1,y1.2)))
theorem tF{aC:cU}{r:cU×Bytes}(h:hO aC=some r):jP prog 157 (cU.c aC) (cU.c r.1) [] (D.str r.2):=by
 refine J9 func157 [[none,none,none],[none]] 6 [D.sl (aC.b.map yx),D.int .i64 aC.i,D.int .i64 aC.h] [] [] fun hr jr Γ hΓ=>?_
 rw[hO]at h;obtain⟨y1,h2,h⟩:=aB h;cases h;exact(aU.hp [[none,none,none],[some (9,1)]] (yK h2)).ret hΓ
def nD(aC:cU):Option (cU×Bytes):=((oW aC 4).bind fun y1=>(bif y1.2 then((hO y1.1).bind fun y4=>(some (y4.1,y4.2)))else((rZ y1.1 ([[63,120],[63,121],[63,122]]:aF)).bind fun y6=>(some (y6.1,y6.2)))))
theorem tH{aC:cU}{r:cU×Bytes}(h:nD aC=some r):jP prog 238 (cU.c aC) (cU.c r.1) [] (D.str r.2):=by
 refine J9 func238 [[none,none,none],[none]] 10 [D.sl (aC.b.map yx),D.int .i64 aC.i,D.int .i64 aC.h] [] [] fun hr jr Γ hΓ=>?_
 rw[nD]at h;obtain⟨y1,h2,h⟩:=aB h;obtain⟨h3,h⟩|⟨h3,h⟩:=aM h
 ·obtain⟨y4,h5,h⟩:=aB h;cases h;exact(((aU.hp [[none,none,none],[none]] (nW h2)).b h3).hp [[none,none,none]] (tF h5)).ret hΓ
 ·obtain⟨y6,h7,h⟩:=aB h;cases h;exact(((aU.hp [[none,none,none],[none]] (nW h2)).b h3).hp [[none,none,none],[some (9,1)]] (yK h7)).ret hΓ
def jh(y1:cU×(Bytes×Int))(k1:bJ->Int->Int->aF->Option (cU×aG)):Nat->Int->bJ->Int->Int->aF->Option (cU×aG)
 |0,_,_,_,_,_=>none
 |n1+1,eF,dY,cj,ck,cX=>(bif decide ((eF:Int)<y1.2.2)then((nD (⟨dY,cj,ck⟩:cU)).bind fun vz=>(bif room ((cX.map tx).length+([[D.str vz.2]]).length) 16 then(jh y1 k1 n1 (IntKind.i64.wrap (eF+1)) vz.1.b vz.1.i vz.1.h (cX++([vz.2])))else none))else(k1 dY cj ck cX))
def iz(aC:cU):Option (cU×aG):=((oK aC).bind fun y1=>(jh y1 (fun(jm:bJ) (jo:Int) (jq:Int) (eS:aF)=>(some ((⟨jm,jo,jq⟩:cU),(⟨y1.2.1,eS⟩:aG)))) fuel 0 y1.1.b y1.1.i y1.1.h ([]:aF)))
def zR(jr:Value)(y1:cU×(Bytes×Int))(eF:Int)(cj:Int)(ck:Int)(W1:List aL)(W4:List aL):St:=⟨[(0,D.ptr 0 0),(2,D.ptr 1 0),(4,D.int .i64 y1.2.2),(5,D.ptr 2 0),(6,D.int .i64 eF)],[Ob.BQ [D.sl W1,D.int .i64 cj,D.int .i64 ck] jr,Ob.box [D.str ([]),D.nil],Ob.box [D.str y1.2.1,D.acc 3],Ob.row .uq 9 1 W4]⟩
theorem G2(hΓ:Γ.nt=27){jr:Value}{y1:cU×(Bytes×Int)}{r:cU×aG}{k1:bJ->Int->Int->aF->Option (cU×aG)}(eR:∀(jm:bJ) (jo:Int) (jq:Int) (eS:aF),k1 jm jo jq eS=some r->Ax Γ N f218 (.p [[none,none,none],[none,some (9,1)]] jr (cU.c r.1) (D.agg [D.str r.2.rel,D.fr 9 1 (r.2.args.map tx)])) [1,1,1,1] ⟨[(2,D.ptr 1 0),(5,D.ptr 2 0)],[Ob.BQ [D.sl (jm.map yx),D.int .i64 jo,D.int .i64 jq] jr,Ob.box [D.str ([]),D.nil],Ob.box [D.str y1.2.1,D.acc 3],Ob.row .uq 9 1 (eS.map tx)]⟩):∀(n1:Nat) (eF:Int) (dY:bJ) (cj:Int) (ck:Int) (cX:aF),jh y1 k1 n1 eF dY cj ck cX=some r->Ar Γ N f218 (.p [[none,none,none],[none,some (9,1)]] jr (cU.c r.1) (D.agg [D.str r.2.rel,D.fr 9 1 (r.2.args.map tx)])) [1,1,1,0,1,0] n1 (zR jr y1 eF cj ck (dY.map yx) (cX.map tx)):=by
 intro n
 induction n with
 |zero=>intro eF dY cj ck cX h;simp[jh]at h
 |succ n1 ih1=>
  intro eF dY cj ck cX h;rw[jh]at h;refine aR fun N1 cW cL=>?_
  obtain⟨h27,h⟩|⟨h27,h⟩:=aM h
  ·obtain⟨vz,h31,h⟩:=aB h;obtain⟨h32,h⟩:=bQ h;exact(((((aU.b h27).a [.n2 [0,1,2,3,4,5,6,7] [0,1,2,3,4,5,6,7] 3 5 [0,1] [0],.gp [[none,none,none]] (cU.c vz.1) (D.str vz.2)]).w (show jP prog 238 (cU.c (⟨dY,cj,ck⟩:cU)) (cU.c vz.1) [] (D.str vz.2)from by simpa only[b8,bC,bf,bX,bY]using tH h31)).w (br h32)).a [.cn [0,2,4,5,6] [0,1,2,5]]).cs hΓ cL (zR jr y1 (IntKind.i64.wrap (eF+1)) vz.1.i vz.1.h (vz.1.b.map yx) ((cX.map tx)++([[D.str vz.2]]))) (by first| (simp only[mA]<;>rfl)| (simp only[mA,aG.c,aQ.c,aH.c,Action.c,aJ.c,aX.c,dU.c,ai.c,Node.c,aN.c,dW.c]<;>rfl)) (ih1 (IntKind.i64.wrap (eF+1)) vz.1.b vz.1.i vz.1.h (cX++([vz.2])) h)
  ·exact((aU.b h27).a [.hl 0 [2,5] [0,1,2,3]]).ex hΓ cW (eR dY cj ck cX h)
theorem nY{aC:cU}{r:cU×aG}(h:iz aC=some r):jP prog 218 (cU.c aC) (cU.c r.1) [] (D.agg [D.str r.2.rel,D.fr 9 1 (r.2.args.map tx)]):=by
 refine J9 func218 [[none,none,none],[none,some (9,1)]] 27 [D.sl (aC.b.map yx),D.int .i64 aC.i,D.int .i64 aC.h] [] [] fun hr jr Γ hΓ=>?_
 rw[iz]at h;obtain⟨y1,h2,h⟩:=aB h;refine((aU.hp [[none,none,none]] (yL h2)).a [.pb 2 1 9 1,.cn [0,2,4,5,6] [0,1,2,3]]).lp hΓ (G2 hΓ (fun jm jo jq eS h=>?_) fuel 0 y1.1.b y1.1.i y1.1.h ([]:aF) h);cases h;exact aU.ret hΓ
def pz(aC:cU)(aa:bJ):Option (cU×Int):=((dV aC ((aa.map mR).length:Int)).bind fun y1=>((iM aa y1.2).bind fun x3=>(some (y1.1,x3))))
theorem yJ{aC:cU}{aa:bJ}{r:cU×Int}(h:pz aC aa=some r):jP prog 126 (cU.c aC) (cU.c r.1) [D.fr 3 1 (aa.map mR)] (D.int .i64 r.2):=by
 refine J9 func126 [[none,none,none],[none]] 12 [D.sl (aC.b.map yx),D.int .i64 aC.i,D.int .i64 aC.h] [D.acc 1] [Ob.row .uq 3 1 (aa.map mR)] fun hr jr Γ hΓ=>?_
 rw[pz]at h;obtain⟨y1,h2,h⟩:=aB h;obtain⟨x3,h4,h⟩:=aB h;cases h;exact(((aU.hp [[none,none,none],[none]] (dB h2)).i (fc mR 1 h4)).o 1 1 .uq (cH mR (dR h4))).ret hΓ
def sW(aC:cU)(aa:Bytes)(cN:Bytes):Option (cU×aH):=((pz aC ([3,4,4,5]:bJ)).bind fun y1=>(some (y1.1,(⟨y1.2,(⟨[],[]⟩:aG),aa,cN⟩:aH))))
theorem Ej{aC:cU}{aa:Bytes}{cN:Bytes}{r:cU×aH}(h:sW aC aa cN=some r):jP prog 239 (cU.c aC) (cU.c r.1) [D.str aa,D.str cN] (D.agg [D.int .i64 r.2.kind,D.str r.2.pat.rel,D.fr 9 1 (r.2.pat.args.map tx),D.str r.2.left,D.str r.2.right]):=by
 refine J9 func239 [[none,none,none],[none,none,some (9,1),none,none]] 13 [D.sl (aC.b.map yx),D.int .i64 aC.i,D.int .i64 aC.h] [D.str aa,D.str cN] [] fun hr jr Γ hΓ=>?_
 rw[sW]at h;obtain⟨y1,h2,h⟩:=aB h;cases h;exact(aU.hp [[none,none,none],[some (3,1)]] (yJ h2)).ret hΓ
def qj(aC:cU):Option (cU×aH):=((dV aC 5).bind fun y1=>(bif (y1.2:Int)==0 then((iz y1.1).bind fun y4=>(some (y4.1,(⟨1,y4.2,[],[]⟩:aH))))else(bif (y1.2:Int)==1 then((iz y1.1).bind fun y7=>(some (y7.1,(⟨1,y7.2,[],[]⟩:aH))))else(bif (y1.2:Int)==2 then((iz y1.1).bind fun FE=>(some (FE.1,(⟨2,FE.2,[],[]⟩:aH))))else((nD y1.1).bind fun Qo=>((nD Qo.1).bind fun Im=>((sW Im.1 Qo.2 Im.2).bind fun LG=>(some (LG.1,LG.2)))))))))
theorem Eh{aC:cU}{r:cU×aH}(h:qj aC=some r):jP prog 219 (cU.c aC) (cU.c r.1) [] (D.agg [D.int .i64 r.2.kind,D.str r.2.pat.rel,D.fr 9 1 (r.2.pat.args.map tx),D.str r.2.left,D.str r.2.right]):=by
 refine J9 func219 [[none,none,none],[none,none,some (9,1),none,none]] 24 [D.sl (aC.b.map yx),D.int .i64 aC.i,D.int .i64 aC.h] [] [] fun hr jr Γ hΓ=>?_
 rw[qj]at h;obtain⟨y1,h2,h⟩:=aB h;obtain⟨h3,h⟩|⟨h3,h⟩:=aM h
 ·obtain⟨y4,h5,h⟩:=aB h;cases h;exact(((aU.hp [[none,none,none],[none]] (dB h2)).r 2 h3).hp [[none,none,none]] (nY h5)).ret hΓ
 ·have oa:=((aU.hp [[none,none,none],[none]] (dB h2)).b h3)
  obtain⟨h6,h⟩|⟨h6,h⟩:=aM h
  ·obtain⟨y7,h8,h⟩:=aB h;cases h;exact((oa.b h6).hp [[none,none,none]] (nY h8)).ret hΓ
  ·obtain⟨h9,h⟩|⟨h9,h⟩:=aM h
   ·obtain⟨FE,h11,h⟩:=aB h;cases h;exact(((oa.b h6).b h9).hp [[none,none,none]] (nY h11)).ret hΓ
   ·obtain⟨Qo,h13,h⟩:=aB h;obtain⟨Im,h15,h⟩:=aB h;obtain⟨LG,h17,h⟩:=aB h;cases h;exact(((((oa.b h6).b h9).hp [[none,none,none]] (tH h13)).hp [[none,none,none]] (tH h15)).hp [[none,none,none],[none],[none]] (Ej h17)).ret hΓ
def jf(aC:Int)(aa:Int)(cN:Int):Option Bool:=(bif decide ((aC:Int)>=aa)then(some (decide ((aC:Int)<=cN)))else(some false))
theorem fV{aC:Int}{aa:Int}{cN:Int}{r:Bool}(h:jf aC aa cN=some r):Good prog 139 [D.int .i64 aC,D.int .i64 aa,D.int .i64 cN] (D.bool r):=by
 refine gd func139 [[none]] 15 fun hr Γ hΓ=>?_
 rw[jf]at h;obtain⟨h1,h⟩|⟨h1,h⟩:=aM h
 ·cases h;exact(aU.r 4 h1).ret hΓ
 ·have h:=aK h;subst h;exact(aU.r 4 h1).ret hΓ
def iF(aC:Bytes)(k1:Option Bool):Nat->Int->Option Bool
 |0,_=>none
 |n1+1,kx=>(bif decide ((kx:Int)<(aC.length:Int))then((iM aC kx).bind fun b29=>((jf (IntKind.i64.wrap b29.toNat) 97 122).bind fun FF=>(bif !(FF)then((jf (IntKind.i64.wrap b29.toNat) 48 57).bind fun Dw=>(bif !(Dw)then(some false)else(iF aC k1 n1 (IntKind.i64.wrap (kx+1)))))else(iF aC k1 n1 (IntKind.i64.wrap (kx+1))))))else(k1))
def fC(aC:Bytes):Option Bool:=(iF aC ((jf (aC.length:Int) 1 8).bind fun LJ=>(some LJ)) fuel 0)
def HC(aC:Bytes)(kx:Int):St:=⟨[(0,D.str aC),(3,D.int .i64 kx)],[]⟩
theorem Fk(hΓ:Γ.nt=27){aC:Bytes}{r:Bool}{k1:Option Bool}(eR:k1=some r->Ax Γ N f147 (.q [[none]] (D.bool r)) [1,1] ⟨[(0,D.str aC)],[]⟩):∀(n1:Nat) (kx:Int),iF aC k1 n1 kx=some r->Ar Γ N f147 (.q [[none]] (D.bool r)) [1,0,1,0] n1 (HC aC kx):=by
 intro n
 induction n with
 |zero=>intro kx h;simp[iF]at h
 |succ n1 ih1=>
  intro kx h;rw[iF]at h;refine aR fun N1 cW cL=>?_
  obtain⟨h28,h⟩|⟨h28,h⟩:=aM h
  ·obtain⟨b29,h30,h⟩:=aB h;obtain⟨FF,h32,h⟩:=aB h;have lC:=(((aU.b h28).c h30).g (fV h32))
   obtain⟨h33,h⟩|⟨h33,h⟩:=aM h
   ·obtain⟨Dw,h35,h⟩:=aB h;have kw:=(((((lC.r 3 h33).c h30).r 2 h33).g (fV h35)).r 2 h33)
    obtain⟨h36,h⟩|⟨h36,h⟩:=aM h
    ·have h:=aK h;subst h;exact(kw.b h36).ret hΓ
    ·exact((kw.b h36).a [.cn [0,3] []]).cf hΓ cL (ih1 (IntKind.i64.wrap (kx+1)) h)
   ·exact(((lC.r 7 h33).F 1).a [.cn [0,3] []]).cf hΓ cL (ih1 (IntKind.i64.wrap (kx+1)) h)
  ·exact((aU.b h28).a [.hl 0 [0] []]).ex hΓ cW (eR h)
theorem eO{aC:Bytes}{r:Bool}(h:fC aC=some r):Good prog 147 [D.str aC] (D.bool r):=by
 refine gd func147 [[none]] 27 fun hr Γ hΓ=>?_
 rw[fC]at h;refine(aU.a [.cn [0,3] []]).lp hΓ (Fk hΓ (fun h=>?_) fuel 0 h);obtain⟨LJ,h38,h⟩:=aB h;have h:=aK h;subst h;exact(aU.g (fV h38)).ret hΓ
def gB(aC:Bytes):Option Bool:=(bif decide (((aC.length:Int):Int)>1)then((iM aC 0).bind fun b2=>(bif (b2.toNat:Int)==63 then((yE aC.length (some (D.int .i64 1)) none).bind fun p=>(fun l5 u6=>((fC ((aC.take u6).drop l5)).bind fun y8=>(some y8))) p.1 p.2)else(some false)))else(some false))
theorem ew{aC:Bytes}{r:Bool}(h:gB aC=some r):Good prog 193 [D.str aC] (D.bool r):=by
 refine gd func193 [[none]] 16 fun hr Γ hΓ=>?_
 rw[gB]at h;obtain⟨h1,h⟩|⟨h1,h⟩:=aM h
 ·obtain⟨b2,h3,h⟩:=aB h;have oa:=(((aU.r 2 h1).c h3).r 2 h1)
  obtain⟨h4,h⟩|⟨h4,h⟩:=aM h
  ·obtain⟨⟨l5,u6⟩,h7,h⟩:=aB h;obtain⟨y8,h9,h⟩:=aB h;have h:=aK h;subst h;exact((((((oa.r 2 h4).w h7).a [.cut l5 u6]).b h4).g (eO h9)).b h4).ret hΓ
  ·have h:=aK h;subst h;exact(oa.r 4 h4).ret hΓ
 ·have h:=aK h;subst h;exact((aU.r 4 h1).F 4).ret hΓ
def eD(aC:aF)(aa:Bytes)(k1:Bool->aF->Option aF):aF->Nat->Bool->aF->Option aF
 | [],i1,eF,bO=>(k1 eF bO)
 |bh::cV,i1,eF,bO=>(bif !(eF)then(bif !(Op.bytesLess bh aa)then(bif !((bh:Bytes)==aa)then(bif room ((bO.map tx).length+([[D.str aa]]).length) 16 then(bif room (((bO.map tx)++([[D.str aa]])).length+([[D.str bh]]).length) 16 then(eD aC aa k1 cV (i1+1) true ((bO++([aa]))++([bh])))else none)else none)else(bif room ((bO.map tx).length+([[D.str bh]]).length) 16 then(eD aC aa k1 cV (i1+1) true (bO++([bh])))else none))else(bif room ((bO.map tx).length+([[D.str bh]]).length) 16 then(eD aC aa k1 cV (i1+1) eF (bO++([bh])))else none))else(bif room ((bO.map tx).length+([[D.str bh]]).length) 16 then(eD aC aa k1 cV (i1+1) eF (bO++([bh])))else none))
def kG(aC:aF)(aa:Bytes):Option aF:=(eD aC aa (fun(Co:Bool) (cA:aF)=>(bif !(Co)then(bif room ((cA.map tx).length+([[D.str aa]]).length) 16 then(some (cA++([aa])))else none)else(some cA))) aC 0 false ([]:aF))
def qU(aC:aF)(aa:Bytes)(eF:Bool)(W1:List aL)(dQ:Int):St:=⟨[(0,D.sl (aC.map tx)),(1,D.str aa),(5,D.acc 0),(6,D.bool eF),(7,D.int .i64 dQ)],[Ob.row .uq 9 1 W1]⟩
theorem HM(hΓ:Γ.nt=49){aC:aF}{aa:Bytes}{r:aF}{k1:Bool->aF->Option aF}(eR:∀(Co:Bool) (cA:aF),k1 Co cA=some r->Ax Γ N f237 (.q [[some (9,1)]] (D.fr 9 1 (r.map tx))) [1,1,1,1] ⟨[(1,D.str aa),(5,D.acc 0),(6,D.bool Co)],[Ob.row .uq 9 1 (cA.map tx)]⟩)(hm1:aC.length<=maxLen):∀(rest:aF) (i1:Nat) (eF:Bool) (bO:aF),aC.drop i1=rest->eD aC aa k1 rest i1 eF bO=some r->Ar Γ N f237 (.q [[some (9,1)]] (D.fr 9 1 (r.map tx))) [1,1,1,0,1,0] (rest.length+1) (qU aC aa eF (bO.map tx) (i1:Int)):=by
 intro rest
 induction rest with
 |nil=>
  intro i1 eF bO bA h;rw[eD]at h;refine aR fun N1 cW cL=>?_
  exact((aU.ge tx bA).a [.hl 0 [1,5,6] [0]]).ex hΓ cW (eR eF bO h)
 |cons bh cV ih1=>
  intro i1 eF bO bA h;rw[eD]at h;refine aR fun N1 cW cL=>?_
  obtain⟨h58,h⟩|⟨h58,h⟩:=aM h
  ·have lC:=((((aU.lt tx bA).r 3 h58).l (bI tx 1 (dc bA) rfl)).r 4 h58)
   obtain⟨h59,h⟩|⟨h59,h⟩:=aM h
   ·have kw:=((lC.b h59).l (bI tx 1 (dc bA) rfl))
    obtain⟨h60,h⟩|⟨h60,h⟩:=aM h
    ·obtain⟨h61,h⟩:=bQ h;obtain⟨h62,h⟩:=bQ h;exact(((((kw.b h60).w (br h61)).l (bI tx 1 (dc bA) rfl)).w (br h62)).a [.cn [0,1,5,6,7] [4]]).cs hΓ cL (qU aC aa true (((bO.map tx)++([[D.str aa]]))++([[D.str bh]])) (IntKind.i64.wrap ((i1:Int)+1))) (by first| (simp only[iS bA hm1,mA]<;>rfl)| (simp only[iS bA hm1,mA,aG.c,aQ.c,aH.c,Action.c,aJ.c,aX.c,dU.c,ai.c,Node.c,aN.c,dW.c]<;>rfl)) (ih1 (i1+1) true ((bO++([aa]))++([bh])) (dn bA) h)
    ·obtain⟨h63,h⟩:=bQ h;exact((((kw.b h60).l (bI tx 1 (dc bA) rfl)).w (br h63)).a [.cn [0,1,5,6,7] [2]]).cs hΓ cL (qU aC aa true ((bO.map tx)++([[D.str bh]])) (IntKind.i64.wrap ((i1:Int)+1))) (by first| (simp only[iS bA hm1,mA]<;>rfl)| (simp only[iS bA hm1,mA,aG.c,aQ.c,aH.c,Action.c,aJ.c,aX.c,dU.c,ai.c,Node.c,aN.c,dW.c]<;>rfl)) (ih1 (i1+1) true (bO++([bh])) (dn bA) h)
   ·obtain⟨h64,h⟩:=bQ h;exact((((lC.b h59).l (bI tx 1 (dc bA) rfl)).w (br h64)).a [.cn [0,1,5,6,7] [2]]).cs hΓ cL (qU aC aa eF ((bO.map tx)++([[D.str bh]])) (IntKind.i64.wrap ((i1:Int)+1))) (by first| (simp only[iS bA hm1,mA]<;>rfl)| (simp only[iS bA hm1,mA,aG.c,aQ.c,aH.c,Action.c,aJ.c,aX.c,dU.c,ai.c,Node.c,aN.c,dW.c]<;>rfl)) (ih1 (i1+1) eF (bO++([bh])) (dn bA) h)
  ·obtain⟨h65,h⟩:=bQ h;exact((((((aU.lt tx bA).r 7 h58).F 1).l (bI tx 1 (dc bA) rfl)).w (br h65)).a [.cn [0,1,5,6,7] [2]]).cs hΓ cL (qU aC aa eF ((bO.map tx)++([[D.str bh]])) (IntKind.i64.wrap ((i1:Int)+1))) (by first| (simp only[iS bA hm1,mA]<;>rfl)| (simp only[iS bA hm1,mA,aG.c,aQ.c,aH.c,Action.c,aJ.c,aX.c,dU.c,ai.c,Node.c,aN.c,dW.c]<;>rfl)) (ih1 (i1+1) eF (bO++([bh])) (dn bA) h)
theorem kH{aC:aF}{aa:Bytes}{r:aF}(h:kG aC aa=some r):Good prog 237 [D.sl (aC.map tx),D.str aa] (D.fr 9 1 (r.map tx)):=by
 refine gd func237 [[some (9,1)]] 49 fun hr Γ hΓ=>?_
 rw[kG]at h;refine(aU.a [.cn [0,1,5,6,7] [0]]).lp hΓ (HM hΓ (fun Co cA h=>?_) (by have:=(j0.sl (hr _ (aD (i:=0) rfl))).1;simpa using this) aC 0 false ([]:aF) rfl h);obtain⟨h66,h⟩|⟨h66,h⟩:=aM h
 ·obtain⟨h67,h⟩:=bQ h;cases h;exact((aU.b h66).w (br h67)).rts hΓ (D.fr 9 1 ((cA.map tx)++([[D.str aa]]))) (by first|rfl| (simp only[mA]<;>rfl))
 ·have h:=aK h;subst h;exact(aU.b h66).ret hΓ
def je(aC:aG)(k1:aF->Option aF):aF->Nat->aF->Option aF
 | [],i1,bZ=>(k1 bZ)
 |bh::cV,i1,bZ=>((gB bh).bind fun LJ=>(bif LJ then((kG bZ bh).bind fun y40=>(je aC k1 cV (i1+1) y40))else(je aC k1 cV (i1+1) bZ)))
def lg(aC:aG):Option aF:=(je aC (fun(cA:aF)=>(some cA)) aC.args 0 ([]:aF))
def HK(aC:aG)(W0:List aL)(dQ:Int):St:=⟨[(1,D.ptr 0 0),(3,D.acc 1),(4,D.int .i64 dQ)],[Ob.box (aG.c aC),Ob.row .uq 9 1 W0]⟩
theorem Fx(hΓ:Γ.nt=27){aC:aG}{r:aF}{k1:aF->Option aF}(eR:∀(cA:aF),k1 cA=some r->Ax Γ N f215 (.q [[some (9,1)]] (D.fr 9 1 (r.map tx))) [1,1,1] ⟨[(3,D.acc 0)],[Ob.row .uq 9 1 (cA.map tx)]⟩)(hm1:aC.args.length<=maxLen):∀(rest:aF) (i1:Nat) (bZ:aF),aC.args.drop i1=rest->je aC k1 rest i1 bZ=some r->Ar Γ N f215 (.q [[some (9,1)]] (D.fr 9 1 (r.map tx))) [1,1,0,1,0] (rest.length+1) (HK aC (bZ.map tx) (i1:Int)):=by
 intro rest
 induction rest with
 |nil=>
  intro i1 bZ bA h;rw[je]at h;refine aR fun N1 cW cL=>?_
  exact((aU.ge tx bA).a [.hl 0 [3] [1]]).ex hΓ cW (eR bZ h)
 |cons bh cV ih1=>
  intro i1 bZ bA h;rw[je]at h;refine aR fun N1 cW cL=>?_
  obtain⟨LJ,h38,h⟩:=aB h;have ig:=(((aU.lt tx bA).l (bI tx 1 (dc bA) rfl)).g (ew h38))
  obtain⟨h39,h⟩|⟨h39,h⟩:=aM h
  ·obtain⟨y40,h41,h⟩:=aB h;exact((((ig.b h39).l (bI tx 1 (dc bA) rfl)).g (kH h41)).a [.cn [1,3,4] [0,2]]).ct hΓ cL (iS bA hm1) (ih1 (i1+1) y40 (dn bA) h)
  ·exact((ig.b h39).a [.cn [1,3,4] [0,1]]).ct hΓ cL (iS bA hm1) (ih1 (i1+1) bZ (dn bA) h)
theorem nV{aC:aG}{r:aF}(h:lg aC=some r):Good prog 215 [D.agg (aG.c aC)] (D.fr 9 1 (r.map tx)):=by
 refine gd func215 [[some (9,1)]] 27 fun hr Γ hΓ=>?_
 rw[lg]at h;refine(aU.a [.cn [1,3,4] [0,1]]).lp hΓ (Fx hΓ (fun cA h=>?_) (by have:=(j0.sl (j0.agg (hr _ (aD (i:=0) rfl)) (.sl (aC.args.map tx)) (by simp))).1;simpa using this) aC.args 0 ([]:aF) rfl h);have h:=aK h;subst h;exact aU.ret hΓ
def iT(aC:aJ)(aa:Int)(i1:Nat)(Gj:aF)(k2:aF->Option aF):aF->Nat->aF->Option aF
 | [],i2,j5=>(k2 j5)
 |jM::uO,i2,j5=>((kG j5 jM).bind fun a0a=>(iT aC aa i1 Gj k2 uO (i2+1) a0a))
def fK(aC:aJ)(aa:Int)(k1:aF->Option aF):af->Nat->aF->Option aF
 | [],i1,bZ=>(k1 bZ)
 |bh::cV,i1,bZ=>(bif decide (((i1:Int):Int)<aa)then(bif (bh.kind:Int)==1 then((lg bh.pat).bind fun Gj=>(bif decide (Gj.length<=maxLen)then(iT aC aa i1 Gj (fun(uM:aF)=>(fK aC aa k1 cV (i1+1) uM)) Gj 0 bZ)else none))else(fK aC aa k1 cV (i1+1) bZ))else(k1 bZ))
def jY(aC:aJ)(aa:Int):Option aF:=(fK aC aa (fun(cA:aF)=>(some cA)) aC.conds 0 ([]:aF))
def DU(aC:aJ)(aa:Int)(W0:List aL)(dQ:Int):St:=⟨[(1,D.int .i64 aa),(2,D.ptr 0 0),(5,D.acc 1),(6,D.int .i64 dQ)],[Ob.box (aJ.c aC),Ob.row .uq 9 1 W0]⟩
def DV(aC:aJ)(aa:Int)(i1:Nat)(Gj:aF)(W0:List aL)(dQ:Int):St:=⟨[(1,D.int .i64 aa),(2,D.ptr 0 0),(5,D.acc 1),(6,D.int .i64 (i1:Int)),(7,D.acc 2),(8,D.int .i64 dQ)],[Ob.box (aJ.c aC),Ob.row .uq 9 1 W0,Ob.row .uq 9 1 (Gj.map tx)]⟩
theorem C3(hΓ:Γ.nt=49){aC:aJ}{aa:Int}{i1:Nat}{Gj:aF}{r:aF}{k2:aF->Option aF}(Ak:∀(uM:aF),k2 uM=some r->Ax Γ N f208 (.q [[some (9,1)]] (D.fr 9 1 (r.map tx))) [1,1,0,1,0,0,1,1] ⟨[(1,D.int .i64 aa),(2,D.ptr 0 0),(5,D.acc 1),(6,D.int .i64 (i1:Int))],[Ob.box (aJ.c aC),Ob.row .uq 9 1 (uM.map tx)]⟩)(hm2:Gj.length<=maxLen):∀(rest:aF) (i2:Nat) (j5:aF),Gj.drop i2=rest->iT aC aa i1 Gj k2 rest i2 j5=some r->Ar Γ N f208 (.q [[some (9,1)]] (D.fr 9 1 (r.map tx))) [1,1,0,1,0,0,1,0,0,1,0,1,1,0] (rest.length+1) (DV aC aa i1 Gj (j5.map tx) (i2:Int)):=by
 intro rest
 induction rest with
 |nil=>
  intro i2 j5 hd2 h;rw[iT]at h;refine aR fun N2 um sL=>?_
  exact((aU.ge tx hd2).a [.hl 3 [1,2,5,6] [0,1]]).ex hΓ um (Ak j5 h)
 |cons jM uO ih2=>
  intro i2 j5 hd2 h;rw[iT]at h;refine aR fun N2 um sL=>?_
  obtain⟨a0a,h184,h⟩:=aB h;exact(((((aU.lt tx hd2).i (mS tx 1 (dc hd2))).o 1 1 .uq (cH tx (dc hd2))).g (kH h184)).a [.cn [1,2,5,6,7,8] [0,3,2]]).ct hΓ sL (iS hd2 hm2) (ih2 (i2+1) a0a (dn hd2) h)
theorem C2(hΓ:Γ.nt=49){aC:aJ}{aa:Int}{r:aF}{k1:aF->Option aF}(eR:∀(cA:aF),k1 cA=some r->Ax Γ N f208 (.q [[some (9,1)]] (D.fr 9 1 (r.map tx))) [1,1,1] ⟨[(5,D.acc 0)],[Ob.row .uq 9 1 (cA.map tx)]⟩)(hm1:aC.conds.length<=maxLen):∀(rest:af) (i1:Nat) (bZ:aF),aC.conds.drop i1=rest->fK aC aa k1 rest i1 bZ=some r->Ar Γ N f208 (.q [[some (9,1)]] (D.fr 9 1 (r.map tx))) [1,1,0,1,0] (rest.length+1) (DU aC aa (bZ.map tx) (i1:Int)):=by
 intro rest
 induction rest with
 |nil=>
  intro i1 bZ bA h;rw[fK]at h;refine aR fun N1 cW cL=>?_
  exact((((((aU.ge aH.c bA).ge aH.c bA).ge aH.c bA).ge aH.c bA).F 1).a [.hl 0 [5] [1]]).ex hΓ cW (eR bZ h)
 |cons bh cV ih1=>
  intro i1 bZ bA h;rw[fK]at h;refine aR fun N1 cW cL=>?_
  have lC:=((((aU.lt aH.c bA).lt aH.c bA).lt aH.c bA).lt aH.c bA)
  obtain⟨h157,h⟩|⟨h157,h⟩:=aM h
  ·have kw:=((lC.b h157).l (bI aH.c 5 (dc bA) rfl))
   obtain⟨h158,h⟩|⟨h158,h⟩:=aM h
   ·obtain⟨Gj,h160,h⟩:=aB h;obtain⟨h185,h⟩:=bQ h;refine((((kw.b h158).l (bI aH.c 5 (dc bA) rfl)).g (nV h160)).a [.cn [1,2,5,6,7,8] [0,1,2]]).lp hΓ (C3 hΓ (fun uM h=>?_) (ay h185) Gj 0 bZ rfl h);exact(aU.a [.cn [1,2,5,6] [0,1]]).ct hΓ cL (iS bA hm1) (ih1 (i1+1) uM (dn bA) h)
   ·exact((kw.b h158).a [.cn [1,2,5,6] [0,1]]).ct hΓ cL (iS bA hm1) (ih1 (i1+1) bZ (dn bA) h)
  ·exact((lC.b h157).a [.hl 0 [5] [1]]).ex hΓ cW (eR bZ h)
theorem iq{aC:aJ}{aa:Int}{r:aF}(h:jY aC aa=some r):Good prog 208 [D.agg (aJ.c aC),D.int .i64 aa] (D.fr 9 1 (r.map tx)):=by
 refine gd func208 [[some (9,1)]] 49 fun hr Γ hΓ=>?_
 rw[jY]at h;refine(aU.a [.cn [1,2,5,6] [0,1]]).lp hΓ (C2 hΓ (fun cA h=>?_) (by have:=(j0.sl (j0.agg (hr _ (aD (i:=0) rfl)) (.sl (aC.conds.map aH.c)) (by simp))).1;simpa using this) aC.conds 0 ([]:aF) rfl h);have h:=aK h;subst h;exact aU.ret hΓ
def iY(aC:aF)(aa:Bytes)(k1:Option Bool):aF->Nat->Option Bool
 | [],i1=>(k1)
 |bh::cV,i1=>(bif (bh:Bytes)==aa then(some true)else(iY aC aa k1 cV (i1+1)))
def fU(aC:aF)(aa:Bytes):Option Bool:=(iY aC aa (some false) aC 0)
def Dg(aC:aF)(aa:Bytes)(dQ:Int):St:=⟨[(0,D.sl (aC.map tx)),(1,D.str aa),(5,D.int .i64 dQ)],[]⟩
theorem CD(hΓ:Γ.nt=18){aC:aF}{aa:Bytes}{r:Bool}{k1:Option Bool}(eR:k1=some r->Ax Γ N f211 (.q [[none]] (D.bool r)) [1,1] ⟨[],[]⟩)(hm1:aC.length<=maxLen):∀(rest:aF) (i1:Nat),aC.drop i1=rest->iY aC aa k1 rest i1=some r->Ar Γ N f211 (.q [[none]] (D.bool r)) [1,0,1,0] (rest.length+1) (Dg aC aa (i1:Int)):=by
 intro rest
 induction rest with
 |nil=>
  intro i1 bA h;rw[iY]at h;refine aR fun N1 cW cL=>?_
  exact((aU.ge tx bA).a [.hl 0 [] []]).ex hΓ cW (eR h)
 |cons bh cV ih1=>
  intro i1 bA h;rw[iY]at h;refine aR fun N1 cW cL=>?_
  have ig:=((aU.lt tx bA).l (bI tx 1 (dc bA) rfl))
  obtain⟨h13,h⟩|⟨h13,h⟩:=aM h
  ·have h:=aK h;subst h;exact(ig.b h13).ret hΓ
  ·exact((ig.b h13).a [.cn [0,1,5] []]).ct hΓ cL (iS bA hm1) (ih1 (i1+1) (dn bA) h)
theorem ir{aC:aF}{aa:Bytes}{r:Bool}(h:fU aC aa=some r):Good prog 211 [D.sl (aC.map tx),D.str aa] (D.bool r):=by
 refine gd func211 [[none]] 18 fun hr Γ hΓ=>?_
 rw[fU]at h;refine(aU.a [.cn [0,1,5] []]).lp hΓ (CD hΓ (fun h=>?_) (by have:=(j0.sl (hr _ (aD (i:=0) rfl))).1;simpa using this) aC 0 rfl h);have h:=aK h;subst h;exact aU.ret hΓ
def oU(aC:Bytes):Option Bool:=((fC aC).bind fun y1=>(bif y1 then((iM aC 0).bind fun b4=>((jf (IntKind.i64.wrap b4.toNat) 97 122).bind fun y6=>(some y6)))else(some false)))
theorem lQ{aC:Bytes}{r:Bool}(h:oU aC=some r):Good prog 148 [D.str aC] (D.bool r):=by
 refine gd func148 [[none]] 11 fun hr Γ hΓ=>?_
 rw[oU]at h;obtain⟨y1,h2,h⟩:=aB h;obtain⟨h3,h⟩|⟨h3,h⟩:=aM h
 ·obtain⟨b4,h5,h⟩:=aB h;obtain⟨y6,h7,h⟩:=aB h;have h:=aK h;subst h;exact((((((aU.g (eO h2)).r 2 h3).c h5).r 2 h3).g (fV h7)).b h3).ret hΓ
 ·have h:=aK h;subst h;exact((aU.g (eO h2)).r 5 h3).ret hΓ
def hG(aC:Bytes):Option Bool:=((fC aC).bind fun y1=>(bif y1 then(some true)else((gB aC).bind fun y4=>(some y4))))
theorem jI{aC:Bytes}{r:Bool}(h:hG aC=some r):Good prog 235 [D.str aC] (D.bool r):=by
 refine gd func235 [[none]] 9 fun hr Γ hΓ=>?_
 rw[hG]at h;obtain⟨y1,h2,h⟩:=aB h;obtain⟨h3,h⟩|⟨h3,h⟩:=aM h
 ·have h:=aK h;subst h;exact((aU.g (eO h2)).r 3 h3).ret hΓ
 ·obtain⟨y4,h5,h⟩:=aB h;have h:=aK h;subst h;exact((((aU.g (eO h2)).r 2 h3).g (ew h5)).b h3).ret hΓ
def kY(aC:aG)(k1:Option Bool):aF->Nat->Option Bool
 | [],i1=>(k1)
 |bh::cV,i1=>((hG bh).bind fun Pb=>(bif !(Pb)then(some false)else(kY aC k1 cV (i1+1))))
def gI(aC:aG):Option Bool:=(kY aC ((oU aC.rel).bind fun KS=>(bif KS then(some (decide ((((aC.args.map tx).length:Int):Int)<=3)))else(some false))) aC.args 0)
def DY(aC:aG)(dQ:Int):St:=⟨[(1,D.ptr 0 0),(3,D.int .i64 dQ)],[Ob.box (aG.c aC)]⟩
theorem C7(hΓ:Γ.nt=27){aC:aG}{r:Bool}{k1:Option Bool}(eR:k1=some r->Ax Γ N f201 (.q [[none]] (D.bool r)) [1,1] ⟨[(1,D.ptr 0 0)],[Ob.box (aG.c aC)]⟩)(hm1:aC.args.length<=maxLen):∀(rest:aF) (i1:Nat),aC.args.drop i1=rest->kY aC k1 rest i1=some r->Ar Γ N f201 (.q [[none]] (D.bool r)) [1,0,1,0] (rest.length+1) (DY aC (i1:Int)):=by
 intro rest
 induction rest with
 |nil=>
  intro i1 bA h;rw[kY]at h;refine aR fun N1 cW cL=>?_
  exact((aU.ge tx bA).a [.hl 0 [1] [0]]).ex hΓ cW (eR h)
 |cons bh cV ih1=>
  intro i1 bA h;rw[kY]at h;refine aR fun N1 cW cL=>?_
  obtain⟨Pb,h22,h⟩:=aB h;have ig:=(((aU.lt tx bA).l (bI tx 1 (dc bA) rfl)).g (jI h22))
  obtain⟨h23,h⟩|⟨h23,h⟩:=aM h
  ·have h:=aK h;subst h;exact(ig.b h23).ret hΓ
  ·exact((ig.b h23).a [.cn [1,3] [0]]).ct hΓ cL (iS bA hm1) (ih1 (i1+1) (dn bA) h)
theorem eP{aC:aG}{r:Bool}(h:gI aC=some r):Good prog 201 [D.agg (aG.c aC)] (D.bool r):=by
 refine gd func201 [[none]] 27 fun hr Γ hΓ=>?_
 rw[gI]at h;refine(aU.a [.cn [1,3] [0]]).lp hΓ (C7 hΓ (fun h=>?_) (by have:=(j0.sl (j0.agg (hr _ (aD (i:=0) rfl)) (.sl (aC.args.map tx)) (by simp))).1;simpa using this) aC.args 0 rfl h);obtain⟨KS,h25,h⟩:=aB h;obtain⟨h26,h⟩|⟨h26,h⟩:=aM h
 ·cases h;exact((aU.g (lQ h25)).r 5 h26).ret hΓ
 ·have h:=aK h;subst h;exact((aU.g (lQ h25)).r 5 h26).ret hΓ
def nB(aC:aH):Option Bool:=(bif (aC.kind:Int)==1 then((gI aC.pat).bind fun y2=>(bif y2 then(bif (aC.left:Bytes)==([])then(some ((aC.right:Bytes)==([])))else(some false))else(some false)))else(bif (aC.kind:Int)==2 then((gI aC.pat).bind fun y7=>(bif y7 then(bif (aC.left:Bytes)==([])then(some ((aC.right:Bytes)==([])))else(some false))else(some false)))else(bif (aC.kind:Int)==3 then(bif (aC.pat.rel:Bytes)==([])then(bif (((aC.pat.args.map tx).length:Int):Int)==0 then((hG aC.left).bind fun Im=>(bif Im then((hG aC.right).bind fun XQ=>(some XQ))else(some false)))else(some false))else(some false))else(bif (aC.kind:Int)==4 then(bif (aC.pat.rel:Bytes)==([])then(bif (((aC.pat.args.map tx).length:Int):Int)==0 then((hG aC.left).bind fun pP=>(bif pP then((hG aC.right).bind fun tA=>(some tA))else(some false)))else(some false))else(some false))else(bif (aC.kind:Int)==5 then(bif (aC.pat.rel:Bytes)==([])then(bif (((aC.pat.args.map tx).length:Int):Int)==0 then((hG aC.left).bind fun vz=>(bif vz then((hG aC.right).bind fun sN=>(some sN))else(some false)))else(some false))else(some false))else(some false))))))
theorem gh{aC:aH}{r:Bool}(h:nB aC=some r):Good prog 209 [D.agg (aH.c aC)] (D.bool r):=by
 refine gd func209 [[none]] 46 fun hr Γ hΓ=>?_
 rw[nB]at h;obtain⟨h1,h⟩|⟨h1,h⟩:=aM h
 ·obtain⟨y2,h3,h⟩:=aB h;have oa:=((aU.r 2 h1).g (eP h3))
  obtain⟨h4,h⟩|⟨h4,h⟩:=aM h
  ·have ig:=(oa.r 4 h4)
   obtain⟨h5,h⟩|⟨h5,h⟩:=aM h
   ·cases h;exact(ig.r 4 h5).ret hΓ
   ·have h:=aK h;subst h;exact(ig.r 4 h5).ret hΓ
  ·have h:=aK h;subst h;exact((oa.r 4 h4).F 4).ret hΓ
 ·obtain⟨h6,h⟩|⟨h6,h⟩:=aM h
  ·obtain⟨y7,h8,h⟩:=aB h;have lC:=(((aU.b h1).b h6).g (eP h8))
   obtain⟨h9,h⟩|⟨h9,h⟩:=aM h
   ·have kw:=(lC.r 4 h9)
    obtain⟨h10,h⟩|⟨h10,h⟩:=aM h
    ·cases h;exact(kw.r 4 h10).ret hΓ
    ·have h:=aK h;subst h;exact(kw.r 4 h10).ret hΓ
   ·have h:=aK h;subst h;exact((lC.r 4 h9).F 4).ret hΓ
  ·have rR:=((aU.b h1).b h6)
   obtain⟨h11,h⟩|⟨h11,h⟩:=aM h
   ·have vT:=(rR.r 2 h11)
    obtain⟨h12,h⟩|⟨h12,h⟩:=aM h
    ·have yl:=(vT.r 6 h12)
     obtain⟨h13,h⟩|⟨h13,h⟩:=aM h
     ·obtain⟨Im,h15,h⟩:=aB h;have E6:=(((yl.r 3 h13).g (jI h15)).b h13)
      obtain⟨h16,h⟩|⟨h16,h⟩:=aM h
      ·obtain⟨XQ,h18,h⟩:=aB h;have h:=aK h;subst h;exact(((E6.r 3 h16).g (jI h18)).b h16).ret hΓ
      ·have h:=aK h;subst h;exact(E6.r 4 h16).ret hΓ
     ·have h:=aK h;subst h;exact((yl.r 4 h13).F 4).ret hΓ
    ·have h:=aK h;subst h;exact((vT.r 6 h12).F 8).ret hΓ
   ·obtain⟨h19,h⟩|⟨h19,h⟩:=aM h
    ·have Je:=((rR.b h11).r 2 h19)
     obtain⟨h20,h⟩|⟨h20,h⟩:=aM h
     ·have Ca:=(Je.r 6 h20)
      obtain⟨h21,h⟩|⟨h21,h⟩:=aM h
      ·obtain⟨pP,h23,h⟩:=aB h;have Jc:=(((Ca.r 3 h21).g (jI h23)).b h21)
       obtain⟨h24,h⟩|⟨h24,h⟩:=aM h
       ·obtain⟨tA,h26,h⟩:=aB h;have h:=aK h;subst h;exact(((Jc.r 3 h24).g (jI h26)).b h24).ret hΓ
       ·have h:=aK h;subst h;exact(Jc.r 4 h24).ret hΓ
      ·have h:=aK h;subst h;exact((Ca.r 4 h21).F 4).ret hΓ
     ·have h:=aK h;subst h;exact((Je.r 6 h20).F 8).ret hΓ
    ·have F3:=((rR.b h11).b h19)
     obtain⟨h27,h⟩|⟨h27,h⟩:=aM h
     ·obtain⟨h28,h⟩|⟨h28,h⟩:=aM h
      ·have GX:=((F3.b h27).r 6 h28)
       obtain⟨h29,h⟩|⟨h29,h⟩:=aM h
       ·obtain⟨vz,h31,h⟩:=aB h;have Jd:=(((GX.r 3 h29).g (jI h31)).b h29)
        obtain⟨h32,h⟩|⟨h32,h⟩:=aM h
        ·obtain⟨sN,h34,h⟩:=aB h;have h:=aK h;subst h;exact(((Jd.r 3 h32).g (jI h34)).b h32).ret hΓ
        ·have h:=aK h;subst h;exact(Jd.r 4 h32).ret hΓ
       ·have h:=aK h;subst h;exact((GX.r 4 h29).F 4).ret hΓ
      ·have h:=aK h;subst h;exact(((F3.b h27).r 6 h28).F 8).ret hΓ
     ·have h:=aK h;subst h;exact(F3.b h27).ret hΓ
def kj(aC:aH):Option aF:=((lg aC.pat).bind fun y1=>((gB aC.left).bind fun y3=>(bif y3 then((kG y1 aC.left).bind fun y6=>((gB aC.right).bind fun y8=>(bif y8 then((kG y6 aC.right).bind fun Gs=>(some Gs))else(some y6))))else((gB aC.right).bind fun sy=>(bif sy then((kG y1 aC.right).bind fun LG=>(some LG))else(some y1))))))
theorem oG{aC:aH}{r:aF}(h:kj aC=some r):Good prog 210 [D.agg (aH.c aC)] (D.fr 9 1 (r.map tx)):=by
 refine gd func210 [[some (9,1)]] 22 fun hr Γ hΓ=>?_
 rw[kj]at h;obtain⟨y1,h2,h⟩:=aB h;obtain⟨y3,h4,h⟩:=aB h;have oa:=((aU.g (nV h2)).g (ew h4))
 obtain⟨h5,h⟩|⟨h5,h⟩:=aM h
 ·obtain⟨y6,h7,h⟩:=aB h;obtain⟨y8,h9,h⟩:=aB h;have ig:=(((oa.b h5).g (kH h7)).g (ew h9))
  obtain⟨h10,h⟩|⟨h10,h⟩:=aM h
  ·obtain⟨Gs,h12,h⟩:=aB h;have h:=aK h;subst h;exact((ig.b h10).g (kH h12)).ret hΓ
  ·have h:=aK h;subst h;exact(ig.b h10).ret hΓ
 ·obtain⟨sy,h14,h⟩:=aB h;have lC:=((oa.b h5).g (ew h14))
  obtain⟨h15,h⟩|⟨h15,h⟩:=aM h
  ·obtain⟨LG,h17,h⟩:=aB h;have h:=aK h;subst h;exact((lC.b h15).g (kH h17)).ret hΓ
  ·have h:=aK h;subst h;exact(lC.b h15).ret hΓ
def oV(aC:aH):Option Bool:=((nB aC).bind fun y1=>(bif y1 then(some (decide ((aC.kind:Int)>=3)))else(some false)))
theorem pq{aC:aH}{r:Bool}(h:oV aC=some r):Good prog 212 [D.agg (aH.c aC)] (D.bool r):=by
 refine gd func212 [[none]] 10 fun hr Γ hΓ=>?_
 rw[oV]at h;obtain⟨y1,h2,h⟩:=aB h;obtain⟨h3,h⟩|⟨h3,h⟩:=aM h
 ·cases h;exact((aU.g (gh h2)).r 4 h3).ret hΓ
 ·have h:=aK h;subst h;exact((aU.g (gh h2)).r 4 h3).ret hΓ
def fG(aC:aJ)(aa:Int)(cN:Bytes)(k1:Option Bool):af->Nat->Option Bool
 | [],i1=>(k1)
 |bh::cV,i1=>(bif ((i1:Int):Int) != aa then((kj bh).bind fun Dw=>((fU Dw cN).bind fun MX=>(bif MX then(some true)else(fG aC aa cN k1 cV (i1+1)))))else(fG aC aa cN k1 cV (i1+1)))
def gP(aC:aJ)(cN:Bytes)(k2:Option Bool):dN->Nat->Option Bool
 | [],i2=>(k2)
 |jM::uO,i2=>((lg jM.pat).bind fun y67=>((fU y67 cN).bind fun y69=>(bif y69 then(some true)else(gP aC cN k2 uO (i2+1)))))
def lX(aC:aJ)(aa:Int)(cN:Bytes):Option Bool:=(fG aC aa cN (gP aC cN (some false) aC.cO 0) aC.conds 0)
def BN(aC:aJ)(aa:Int)(cN:Bytes)(dQ:Int):St:=⟨[(1,D.int .i64 aa),(2,D.str cN),(3,D.ptr 0 0),(7,D.int .i64 dQ)],[Ob.box (aJ.c aC)]⟩
theorem AP(hΓ:Γ.nt=45){aC:aJ}{aa:Int}{cN:Bytes}{r:Bool}{k1:Option Bool}(eR:k1=some r->Ax Γ N f213 (.q [[none]] (D.bool r)) [1,1] ⟨[(2,D.str cN),(3,D.ptr 0 0)],[Ob.box (aJ.c aC)]⟩)(hm1:aC.conds.length<=maxLen):∀(rest:af) (i1:Nat),aC.conds.drop i1=rest->fG aC aa cN k1 rest i1=some r->Ar Γ N f213 (.q [[none]] (D.bool r)) [1,0,1,0] (rest.length+1) (BN aC aa cN (i1:Int)):=by
 intro rest
 induction rest with
 |nil=>
  intro i1 bA h;rw[fG]at h;refine aR fun N1 cW cL=>?_
  exact((aU.ge aH.c bA).a [.hl 0 [2,3] [0]]).ex hΓ cW (eR h)
 |cons bh cV ih1=>
  intro i1 bA h;rw[fG]at h;refine aR fun N1 cW cL=>?_
  obtain⟨h33,h⟩|⟨h33,h⟩:=aM h
  ·obtain⟨Dw,h35,h⟩:=aB h;obtain⟨MX,h37,h⟩:=aB h;have lC:=((((((((aU.lt aH.c bA).r 4 h33).l (bI aH.c 5 (dc bA) rfl)).r 2 h33).g (oG h35)).r 2 h33).g (ir h37)).b h33)
   obtain⟨h38,h⟩|⟨h38,h⟩:=aM h
   ·have h:=aK h;subst h;exact(lC.b h38).ret hΓ
   ·exact((lC.b h38).a [.cn [1,2,3,7] [0]]).ct hΓ cL (iS bA hm1) (ih1 (i1+1) (dn bA) h)
  ·exact((((aU.lt aH.c bA).r 9 h33).F 1).a [.cn [1,2,3,7] [0]]).ct hΓ cL (iS bA hm1) (ih1 (i1+1) (dn bA) h)
def BO(aC:aJ)(cN:Bytes)(dQ:Int):St:=⟨[(2,D.str cN),(3,D.ptr 0 0),(8,D.int .i64 dQ)],[Ob.box (aJ.c aC)]⟩
theorem AQ(hΓ:Γ.nt=45){aC:aJ}{cN:Bytes}{r:Bool}{k2:Option Bool}(Ak:k2=some r->Ax Γ N f213 (.q [[none]] (D.bool r)) [1,1,1] ⟨[],[]⟩)(hm2:aC.cO.length<=maxLen):∀(rest:dN) (i2:Nat),aC.cO.drop i2=rest->gP aC cN k2 rest i2=some r->Ar Γ N f213 (.q [[none]] (D.bool r)) [1,1,0,1,0] (rest.length+1) (BO aC cN (i2:Int)):=by
 intro rest
 induction rest with
 |nil=>
  intro i2 hd2 h;rw[gP]at h;refine aR fun N2 um sL=>?_
  exact((aU.ge Action.c hd2).a [.hl 0 [] []]).ex hΓ um (Ak h)
 |cons jM uO ih2=>
  intro i2 hd2 h;rw[gP]at h;refine aR fun N2 um sL=>?_
  obtain⟨y67,h68,h⟩:=aB h;obtain⟨y69,h70,h⟩:=aB h;have kw:=((((aU.lt Action.c hd2).l (bI Action.c 3 (dc hd2) rfl)).g (nV h68)).g (ir h70))
  obtain⟨h71,h⟩|⟨h71,h⟩:=aM h
  ·have h:=aK h;subst h;exact(kw.b h71).ret hΓ
  ·exact((kw.b h71).a [.cn [2,3,8] [0]]).ct hΓ sL (iS hd2 hm2) (ih2 (i2+1) (dn hd2) h)
theorem tX{aC:aJ}{aa:Int}{cN:Bytes}{r:Bool}(h:lX aC aa cN=some r):Good prog 213 [D.agg (aJ.c aC),D.int .i64 aa,D.str cN] (D.bool r):=by
 refine gd func213 [[none]] 45 fun hr Γ hΓ=>?_
 rw[lX]at h;refine(aU.a [.cn [1,2,3,7] [0]]).lp hΓ (AP hΓ (fun h=>?_) (by have:=(j0.sl (j0.agg (hr _ (aD (i:=0) rfl)) (.sl (aC.conds.map aH.c)) (by simp))).1;simpa using this) aC.conds 0 rfl h);refine(aU.a [.cn [2,3,8] [0]]).lp hΓ (AQ hΓ (fun h=>?_) (by have:=(j0.sl (j0.agg (hr _ (aD (i:=0) rfl)) (.sl (aC.cO.map Action.c)) (by simp))).1;simpa using this) aC.cO 0 rfl h);have h:=aK h;subst h;exact aU.ret hΓ
def qR(aC:Action):Option Bool:=(bif (aC.kind:Int)==1 then((gI aC.pat).bind fun y2=>(some y2))else(bif (aC.kind:Int)==2 then((gI aC.pat).bind fun y5=>(some y5))else(bif (aC.kind:Int)==3 then(bif (aC.pat.rel:Bytes)==([])then(some ((((aC.pat.args.map tx).length:Int):Int)==0))else(some false))else(some false))))
theorem C5{aC:Action}{r:Bool}(h:qR aC=some r):Good prog 214 [D.agg (Action.c aC)] (D.bool r):=by
 refine gd func214 [[none]] 24 fun hr Γ hΓ=>?_
 rw[qR]at h;obtain⟨h1,h⟩|⟨h1,h⟩:=aM h
 ·obtain⟨y2,h3,h⟩:=aB h;have h:=aK h;subst h;exact((aU.r 2 h1).g (eP h3)).ret hΓ
 ·obtain⟨h4,h⟩|⟨h4,h⟩:=aM h
  ·obtain⟨y5,h6,h⟩:=aB h;have h:=aK h;subst h;exact(((aU.b h1).b h4).g (eP h6)).ret hΓ
  ·have oa:=((aU.b h1).b h4)
   obtain⟨h7,h⟩|⟨h7,h⟩:=aM h
   ·obtain⟨h8,h⟩|⟨h8,h⟩:=aM h
    ·cases h;exact((oa.b h7).r 6 h8).ret hΓ
    ·have h:=aK h;subst h;exact((oa.b h7).r 6 h8).ret hΓ
   ·have h:=aK h;subst h;exact(oa.b h7).ret hΓ
def jJ(aC:aJ)(i1:Nat)(yF:aF)(k2:aF->Option aF):aF->Nat->aF->Option aF
 | [],i2,j5=>(k2 j5)
 |jM::uO,i2,j5=>((kG j5 jM).bind fun a0Z=>(jJ aC i1 yF k2 uO (i2+1) a0Z))
def gq(aC:aJ)(k1:aF->Option aF):af->Nat->aF->Option aF
 | [],i1,bZ=>(k1 bZ)
 |bh::cV,i1,bZ=>((kj bh).bind fun yF=>(bif decide (yF.length<=maxLen)then(jJ aC i1 yF (fun(uM:aF)=>(gq aC k1 cV (i1+1) uM)) yF 0 bZ)else none))
def jK(aC:aJ)(i3:Nat)(Gl:aF)(k4:aF->Option aF):aF->Nat->aF->Option aF
 | [],i4,MS=>(k4 MS)
 |VT::XL,i4,MS=>((kG MS VT).bind fun a0b=>(jK aC i3 Gl k4 XL (i4+1) a0b))
def gC(aC:aJ)(k3:aF->Option aF):dN->Nat->aF->Option aF
 | [],i3,vv=>(k3 vv)
 |Nv::LF,i3,vv=>((lg Nv.pat).bind fun Gl=>(bif decide (Gl.length<=maxLen)then(jK aC i3 Gl (fun(Rj:aF)=>(gC aC k3 LF (i3+1) Rj)) Gl 0 vv)else none))
def qT(aC:aJ):Option aF:=(gq aC (fun(oO:aF)=>(gC aC (fun(UF:aF)=>(some UF)) aC.cO 0 oO)) aC.conds 0 ([]:aF))
def Ea(aC:aJ)(W0:List aL)(dQ:Int):St:=⟨[(1,D.ptr 0 0),(3,D.acc 1),(4,D.int .i64 dQ)],[Ob.box (aJ.c aC),Ob.row .uq 9 1 W0]⟩
def Eb(aC:aJ)(i1:Nat)(yF:aF)(W0:List aL)(dQ:Int):St:=⟨[(1,D.ptr 0 0),(3,D.acc 1),(4,D.int .i64 (i1:Int)),(5,D.acc 2),(6,D.int .i64 dQ)],[Ob.box (aJ.c aC),Ob.row .uq 9 1 W0,Ob.row .uq 9 1 (yF.map tx)]⟩
theorem Dd(hΓ:Γ.nt=63){aC:aJ}{i1:Nat}{yF:aF}{r:aF}{k2:aF->Option aF}(Ak:∀(uM:aF),k2 uM=some r->Ax Γ N f216 (.q [[some (9,1)]] (D.fr 9 1 (r.map tx))) [1,1,0,1,0,0,1,1] ⟨[(1,D.ptr 0 0),(3,D.acc 1),(4,D.int .i64 (i1:Int))],[Ob.box (aJ.c aC),Ob.row .uq 9 1 (uM.map tx)]⟩)(hm2:yF.length<=maxLen):∀(rest:aF) (i2:Nat) (j5:aF),yF.drop i2=rest->jJ aC i1 yF k2 rest i2 j5=some r->Ar Γ N f216 (.q [[some (9,1)]] (D.fr 9 1 (r.map tx))) [1,1,0,1,0,0,1,0,0,1,1,0] (rest.length+1) (Eb aC i1 yF (j5.map tx) (i2:Int)):=by
 intro rest
 induction rest with
 |nil=>
  intro i2 j5 hd2 h;rw[jJ]at h;refine aR fun N2 um sL=>?_
  exact((aU.ge tx hd2).a [.hl 3 [1,3,4] [0,1]]).ex hΓ um (Ak j5 h)
 |cons jM uO ih2=>
  intro i2 j5 hd2 h;rw[jJ]at h;refine aR fun N2 um sL=>?_
  obtain⟨a0Z,h172,h⟩:=aB h;exact(((((aU.lt tx hd2).i (mS tx 1 (dc hd2))).o 1 1 .uq (cH tx (dc hd2))).g (kH h172)).a [.cn [1,3,4,5,6] [0,3,2]]).ct hΓ sL (iS hd2 hm2) (ih2 (i2+1) a0Z (dn hd2) h)
theorem Dc(hΓ:Γ.nt=63){aC:aJ}{r:aF}{k1:aF->Option aF}(eR:∀(oO:aF),k1 oO=some r->Ax Γ N f216 (.q [[some (9,1)]] (D.fr 9 1 (r.map tx))) [1,1,1] ⟨[(1,D.ptr 0 0),(3,D.acc 1)],[Ob.box (aJ.c aC),Ob.row .uq 9 1 (oO.map tx)]⟩)(hm1:aC.conds.length<=maxLen):∀(rest:af) (i1:Nat) (bZ:aF),aC.conds.drop i1=rest->gq aC k1 rest i1 bZ=some r->Ar Γ N f216 (.q [[some (9,1)]] (D.fr 9 1 (r.map tx))) [1,1,0,1,0] (rest.length+1) (Ea aC (bZ.map tx) (i1:Int)):=by
 intro rest
 induction rest with
 |nil=>
  intro i1 bZ bA h;rw[gq]at h;refine aR fun N1 cW cL=>?_
  exact((aU.ge aH.c bA).a [.hl 0 [1,3] [0,1]]).ex hΓ cW (eR bZ h)
 |cons bh cV ih1=>
  intro i1 bZ bA h;rw[gq]at h;refine aR fun N1 cW cL=>?_
  obtain⟨yF,h148,h⟩:=aB h;obtain⟨h173,h⟩:=bQ h;refine((((aU.lt aH.c bA).l (bI aH.c 5 (dc bA) rfl)).g (oG h148)).a [.cn [1,3,4,5,6] [0,1,2]]).lp hΓ (Dd hΓ (fun uM h=>?_) (ay h173) yF 0 bZ rfl h);exact(aU.a [.cn [1,3,4] [0,1]]).ct hΓ cL (iS bA hm1) (ih1 (i1+1) uM (dn bA) h)
def Ec(aC:aJ)(W0:List aL)(dQ:Int):St:=⟨[(1,D.ptr 0 0),(3,D.acc 1),(7,D.int .i64 dQ)],[Ob.box (aJ.c aC),Ob.row .uq 9 1 W0]⟩
def Ed(aC:aJ)(i3:Nat)(Gl:aF)(W0:List aL)(dQ:Int):St:=⟨[(1,D.ptr 0 0),(3,D.acc 1),(7,D.int .i64 (i3:Int)),(8,D.acc 2),(9,D.int .i64 dQ)],[Ob.box (aJ.c aC),Ob.row .uq 9 1 W0,Ob.row .uq 9 1 (Gl.map tx)]⟩
theorem Df(hΓ:Γ.nt=63){aC:aJ}{i3:Nat}{Gl:aF}{r:aF}{k4:aF->Option aF}(hE4:∀(Rj:aF),k4 Rj=some r->Ax Γ N f216 (.q [[some (9,1)]] (D.fr 9 1 (r.map tx))) [1,1,1,0,1,0,0,1,1] ⟨[(1,D.ptr 0 0),(3,D.acc 1),(7,D.int .i64 (i3:Int))],[Ob.box (aJ.c aC),Ob.row .uq 9 1 (Rj.map tx)]⟩)(hm4:Gl.length<=maxLen):∀(rest:aF) (i4:Nat) (MS:aF),Gl.drop i4=rest->jK aC i3 Gl k4 rest i4 MS=some r->Ar Γ N f216 (.q [[some (9,1)]] (D.fr 9 1 (r.map tx))) [1,1,1,0,1,0,0,1,0,0,1,1,0] (rest.length+1) (Ed aC i3 Gl (MS.map tx) (i4:Int)):=by
 intro rest
 induction rest with
 |nil=>
  intro i4 MS IZ h;rw[jK]at h;refine aR fun N4 Xe W9=>?_
  exact((aU.ge tx IZ).a [.hl 3 [1,3,7] [0,1]]).ex hΓ Xe (hE4 MS h)
 |cons VT XL ih4=>
  intro i4 MS IZ h;rw[jK]at h;refine aR fun N4 Xe W9=>?_
  obtain⟨a0b,h345,h⟩:=aB h;exact(((((aU.lt tx IZ).i (mS tx 1 (dc IZ))).o 1 1 .uq (cH tx (dc IZ))).g (kH h345)).a [.cn [1,3,7,8,9] [0,3,2]]).ct hΓ W9 (iS IZ hm4) (ih4 (i4+1) a0b (dn IZ) h)
theorem De(hΓ:Γ.nt=63){aC:aJ}{r:aF}{k3:aF->Option aF}(W8:∀(UF:aF),k3 UF=some r->Ax Γ N f216 (.q [[some (9,1)]] (D.fr 9 1 (r.map tx))) [1,1,1,1] ⟨[(3,D.acc 0)],[Ob.row .uq 9 1 (UF.map tx)]⟩)(O8:aC.cO.length<=maxLen):∀(rest:dN) (i3:Nat) (vv:aF),aC.cO.drop i3=rest->gC aC k3 rest i3 vv=some r->Ar Γ N f216 (.q [[some (9,1)]] (D.fr 9 1 (r.map tx))) [1,1,1,0,1,0] (rest.length+1) (Ec aC (vv.map tx) (i3:Int)):=by
 intro rest
 induction rest with
 |nil=>
  intro i3 vv vo h;rw[gC]at h;refine aR fun N3 QB Kn=>?_
  exact((aU.ge Action.c vo).a [.hl 0 [3] [1]]).ex hΓ QB (W8 vv h)
 |cons Nv LF ih3=>
  intro i3 vv vo h;rw[gC]at h;refine aR fun N3 QB Kn=>?_
  obtain⟨Gl,h321,h⟩:=aB h;obtain⟨h346,h⟩:=bQ h;refine((((aU.lt Action.c vo).l (bI Action.c 3 (dc vo) rfl)).g (nV h321)).a [.cn [1,3,7,8,9] [0,1,2]]).lp hΓ (Df hΓ (fun Rj h=>?_) (ay h346) Gl 0 vv rfl h);exact(aU.a [.cn [1,3,7] [0,1]]).ct hΓ Kn (iS vo O8) (ih3 (i3+1) Rj (dn vo) h)
theorem CC{aC:aJ}{r:aF}(h:qT aC=some r):Good prog 216 [D.agg (aJ.c aC)] (D.fr 9 1 (r.map tx)):=by
 refine gd func216 [[some (9,1)]] 63 fun hr Γ hΓ=>?_
 rw[qT]at h;refine(aU.a [.cn [1,3,4] [0,1]]).lp hΓ (Dc hΓ (fun oO h=>?_) (by have:=(j0.sl (j0.agg (hr _ (aD (i:=0) rfl)) (.sl (aC.conds.map aH.c)) (by simp))).1;simpa using this) aC.conds 0 ([]:aF) rfl h);refine(aU.a [.cn [1,3,7] [0,1]]).lp hΓ (De hΓ (fun UF h=>?_) (by have:=(j0.sl (j0.agg (hr _ (aD (i:=0) rfl)) (.sl (aC.cO.map Action.c)) (by simp))).1;simpa using this) aC.cO 0 oO rfl h);have h:=aK h;subst h;exact aU.ret hΓ
def fR(aC:aJ)(sy:aF)(i1:Nat)(bh:aH)(Gp:aF)(BS:aF)(k2:Option Bool):aF->Nat->Option Bool
 | [],i2=>(k2)
 |jM::uO,i2=>((fU Gp jM).bind fun a0d=>((oV bh).bind fun a3I=>(bif a3I then(bif !(a0d)then(some false)else(bif (bh.kind:Int)==2 then(fR aC sy i1 bh Gp BS k2 uO (i2+1))else(fR aC sy i1 bh Gp BS k2 uO (i2+1))))else(bif (bh.kind:Int)==2 then(bif !(a0d)then((lX aC (i1:Int) jM).bind fun a3J=>(bif a3J then(some false)else(fR aC sy i1 bh Gp BS k2 uO (i2+1))))else(fR aC sy i1 bh Gp BS k2 uO (i2+1)))else(fR aC sy i1 bh Gp BS k2 uO (i2+1))))))
def fS(aC:aJ)(sy:aF)(i1:Nat)(bh:aH)(Gq:aF)(BT:aF)(k3:Option Bool):aF->Nat->Option Bool
 | [],i3=>(k3)
 |Nv::LF,i3=>((fU Gq Nv).bind fun a0e=>((oV bh).bind fun a3K=>(bif a3K then(bif !(a0e)then(some false)else(bif (bh.kind:Int)==2 then(fS aC sy i1 bh Gq BT k3 LF (i3+1))else(fS aC sy i1 bh Gq BT k3 LF (i3+1))))else(bif (bh.kind:Int)==2 then(bif !(a0e)then((lX aC (i1:Int) Nv).bind fun a3L=>(bif a3L then(some false)else(fS aC sy i1 bh Gq BT k3 LF (i3+1))))else(fS aC sy i1 bh Gq BT k3 LF (i3+1)))else(fS aC sy i1 bh Gq BT k3 LF (i3+1))))))
def ja(aC:aJ)(sy:aF)(k1:Option Bool):af->Nat->Option Bool
 | [],i1=>(k1)
 |bh::cV,i1=>((nB bh).bind fun a3G=>(bif !(a3G)then(some false)else(bif ((i1:Int):Int)==0 then(bif (bh.kind:Int) != 1 then(some false)else((jY aC (i1:Int)).bind fun Gp=>((kj bh).bind fun BS=>(bif decide (BS.length<=maxLen)then(fR aC sy i1 bh Gp BS (ja aC sy k1 cV (i1+1)) BS 0)else none))))else((jY aC (i1:Int)).bind fun Gq=>((kj bh).bind fun BT=>(bif decide (BT.length<=maxLen)then(fS aC sy i1 bh Gq BT (ja aC sy k1 cV (i1+1)) BT 0)else none))))))
def lS(aC:aJ)(sy:aF)(i4:Nat)(Gr:aF)(k5:Option Bool):aF->Nat->Option Bool
 | [],i5=>(k5)
 |x5_::xs5,i5=>((fU sy x5_).bind fun a3P=>(bif !(a3P)then(some false)else(lS aC sy i4 Gr k5 xs5 (i5+1))))
def lR(aC:aJ)(sy:aF)(k4:Option Bool):dN->Nat->Option Bool
 | [],i4=>(k4)
 |VT::XL,i4=>((qR VT).bind fun a3O=>(bif !(a3O)then(some false)else((lg VT.pat).bind fun Gr=>(bif decide (Gr.length<=maxLen)then(lS aC sy i4 Gr (lR aC sy k4 XL (i4+1)) Gr 0)else none))))
def lf(aC:aJ):Option Bool:=((oU aC.name).bind fun y1=>(bif !(y1)then(some false)else((jf aC.prio 0 9).bind fun y4=>(bif !(y4)then(some false)else((jf ((aC.conds.map aH.c).length:Int) 1 4).bind fun y7=>(bif !(y7)then(some false)else((jf ((aC.cO.map Action.c).length:Int) 1 2).bind fun FE=>(bif !(FE)then(some false)else((jY aC ((aC.conds.map aH.c).length:Int)).bind fun sy=>(ja aC sy (lR aC sy ((qT aC).bind fun a3Q=>(some (decide ((((a3Q.map tx).length:Int):Int)<=6)))) aC.cO 0) aC.conds 0))))))))))
def HE(aC:aJ)(sy:aF)(dQ:Int):St:=⟨[(1,D.ptr 0 0),(3,D.acc 1),(4,D.int .i64 dQ)],[Ob.box (aJ.c aC),Ob.row .uq 9 1 (sy.map tx)]⟩
def HF(aC:aJ)(sy:aF)(i1:Nat)(bh:aH)(Gp:aF)(BS:aF)(dQ:Int):St:=⟨[(1,D.ptr 0 0),(3,D.acc 1),(4,D.int .i64 (i1:Int)),(5,D.ptr 2 0),(6,D.acc 3),(7,D.acc 4),(8,D.int .i64 dQ)],[Ob.box (aJ.c aC),Ob.row .uq 9 1 (sy.map tx),Ob.box [D.int .i64 bh.kind,D.str bh.pat.rel,D.sl (bh.pat.args.map tx),D.str bh.left,D.str bh.right],Ob.row .uq 9 1 (Gp.map tx),Ob.row .uq 9 1 (BS.map tx)]⟩
theorem Fo(hΓ:Γ.nt=145){aC:aJ}{sy:aF}{i1:Nat}{bh:aH}{Gp:aF}{BS:aF}{r:Bool}{k2:Option Bool}(Ak:k2=some r->Ax Γ N f149 (.q [[none]] (D.bool r)) [1,1,1,0,1,0,0,1,1] ⟨[(1,D.ptr 0 0),(3,D.acc 1),(4,D.int .i64 (i1:Int))],[Ob.box (aJ.c aC),Ob.row .uq 9 1 (sy.map tx)]⟩)(hm2:BS.length<=maxLen):∀(rest:aF) (i2:Nat),BS.drop i2=rest->fR aC sy i1 bh Gp BS k2 rest i2=some r->Ar Γ N f149 (.q [[none]] (D.bool r)) [1,1,1,0,1,0,0,1,0,0,1,1,1,1,1,0] (rest.length+1) (HF aC sy i1 bh Gp BS (i2:Int)):=by
 intro rest
 induction rest with
 |nil=>
  intro i2 hd2 h;rw[fR]at h;refine aR fun N2 um sL=>?_
  exact((aU.ge tx hd2).a [.hl 3 [1,3,4] [0,1]]).ex hΓ um (Ak h)
 |cons jM uO ih2=>
  intro i2 hd2 h;rw[fR]at h;refine aR fun N2 um sL=>?_
  obtain⟨a0d,h711,h⟩:=aB h;obtain⟨a3I,h713,h⟩:=aB h;have Y2:=((((((aU.lt tx hd2).i (mS tx 1 (dc hd2))).o 1 1 .uq (cH tx (dc hd2))).g (ir h711)).a [.n 21]).g (pq h713))
  obtain⟨h714,h⟩|⟨h714,h⟩:=aM h
  ·have Y3:=(Y2.r 3 h714)
   obtain⟨h715,h⟩|⟨h715,h⟩:=aM h
   ·have h:=aK h;subst h;exact((((((Y3.r 4 h715).a [bF,bF]).r 2 h715).a [bF,bF,bF,bF,bF,bF,bF]).r 2 h715).T 1).ret hΓ
   ·have Y4:=(Y3.r 4 h715)
    obtain⟨h716,h⟩|⟨h716,h⟩:=aM h
    ·exact((((((Y4.r 2 h716).b h715).b h716).r 11 h715).F 1).a [.cn [1,3,4,5,6,7,8] [0,1,2,3,4]]).ct hΓ sL (iS hd2 hm2) (ih2 (i2+1) (dn hd2) h)
    ·exact((((((((((Y4.r 2 h716).b h715).b h716).b h715).F 7).b h715).F 1).b h715).F 1).a [.cn [1,3,4,5,6,7,8] [0,1,2,3,4]]).ct hΓ sL (iS hd2 hm2) (ih2 (i2+1) (dn hd2) h)
  ·have Y5:=((Y2.r 3 h714).F 4)
   obtain⟨h717,h⟩|⟨h717,h⟩:=aM h
   ·have Y6:=((((Y5.r 2 h717).F 1).b h717).F 1)
    obtain⟨h718,h⟩|⟨h718,h⟩:=aM h
    ·obtain⟨a3J,h720,h⟩:=aB h;have Y7:=(((((((((Y6.r 5 h718).i (mS tx 1 (dc hd2))).b h718).o 1 1 .uq (cH tx (dc hd2))).b h718).g (tX h720)).F 1).b h718).F 1)
     obtain⟨h721,h⟩|⟨h721,h⟩:=aM h
     ·have h:=aK h;subst h;exact(Y7.b h721).ret hΓ
     ·exact((Y7.b h721).a [.cn [1,3,4,5,6,7,8] [0,1,2,3,4]]).ct hΓ sL (iS hd2 hm2) (ih2 (i2+1) (dn hd2) h)
    ·exact(((((Y6.r 7 h718).F 1).b h718).F 2).a [.cn [1,3,4,5,6,7,8] [0,1,2,3,4]]).ct hΓ sL (iS hd2 hm2) (ih2 (i2+1) (dn hd2) h)
   ·exact(((((Y5.r 2 h717).F 1).b h717).F 12).a [.cn [1,3,4,5,6,7,8] [0,1,2,3,4]]).ct hΓ sL (iS hd2 hm2) (ih2 (i2+1) (dn hd2) h)
def HG(aC:aJ)(sy:aF)(i1:Nat)(bh:aH)(Gq:aF)(BT:aF)(dQ:Int):St:=⟨[(1,D.ptr 0 0),(3,D.acc 1),(4,D.int .i64 (i1:Int)),(5,D.ptr 2 0),(6,D.acc 3),(7,D.acc 4),(8,D.int .i64 dQ)],[Ob.box (aJ.c aC),Ob.row .uq 9 1 (sy.map tx),Ob.box [D.int .i64 bh.kind,D.str bh.pat.rel,D.sl (bh.pat.args.map tx),D.str bh.left,D.str bh.right],Ob.row .uq 9 1 (Gq.map tx),Ob.row .uq 9 1 (BT.map tx)]⟩
theorem Fp(hΓ:Γ.nt=145){aC:aJ}{sy:aF}{i1:Nat}{bh:aH}{Gq:aF}{BT:aF}{r:Bool}{k3:Option Bool}(W8:k3=some r->Ax Γ N f149 (.q [[none]] (D.bool r)) [1,1,1,0,1,0,0,1,1] ⟨[(1,D.ptr 0 0),(3,D.acc 1),(4,D.int .i64 (i1:Int))],[Ob.box (aJ.c aC),Ob.row .uq 9 1 (sy.map tx)]⟩)(O8:BT.length<=maxLen):∀(rest:aF) (i3:Nat),BT.drop i3=rest->fS aC sy i1 bh Gq BT k3 rest i3=some r->Ar Γ N f149 (.q [[none]] (D.bool r)) [1,1,1,0,1,0,0,1,0,0,1,1,1,1,1,0] (rest.length+1) (HG aC sy i1 bh Gq BT (i3:Int)):=by
 intro rest
 induction rest with
 |nil=>
  intro i3 vo h;rw[fS]at h;refine aR fun N3 QB Kn=>?_
  exact((aU.ge tx vo).a [.hl 3 [1,3,4] [0,1]]).ex hΓ QB (W8 h)
 |cons Nv LF ih3=>
  intro i3 vo h;rw[fS]at h;refine aR fun N3 QB Kn=>?_
  obtain⟨a0e,h786,h⟩:=aB h;obtain⟨a3K,h788,h⟩:=aB h;have Y8:=((((((aU.lt tx vo).i (mS tx 1 (dc vo))).o 1 1 .uq (cH tx (dc vo))).g (ir h786)).a [.n 21]).g (pq h788))
  obtain⟨h789,h⟩|⟨h789,h⟩:=aM h
  ·have Y9:=(Y8.r 3 h789)
   obtain⟨h790,h⟩|⟨h790,h⟩:=aM h
   ·have h:=aK h;subst h;exact((((((Y9.r 4 h790).a [bF,bF]).r 2 h790).a [bF,bF,bF,bF,bF,bF,bF]).r 2 h790).T 1).ret hΓ
   ·have YA:=(Y9.r 4 h790)
    obtain⟨h791,h⟩|⟨h791,h⟩:=aM h
    ·exact((((((YA.r 2 h791).b h790).b h791).r 11 h790).F 1).a [.cn [1,3,4,5,6,7,8] [0,1,2,3,4]]).ct hΓ Kn (iS vo O8) (ih3 (i3+1) (dn vo) h)
    ·exact((((((((((YA.r 2 h791).b h790).b h791).b h790).F 7).b h790).F 1).b h790).F 1).a [.cn [1,3,4,5,6,7,8] [0,1,2,3,4]]).ct hΓ Kn (iS vo O8) (ih3 (i3+1) (dn vo) h)
  ·have YB:=((Y8.r 3 h789).F 4)
   obtain⟨h792,h⟩|⟨h792,h⟩:=aM h
   ·have YC:=((((YB.r 2 h792).F 1).b h792).F 1)
    obtain⟨h793,h⟩|⟨h793,h⟩:=aM h
    ·obtain⟨a3L,h795,h⟩:=aB h;have YD:=(((((((((YC.r 5 h793).i (mS tx 1 (dc vo))).b h793).o 1 1 .uq (cH tx (dc vo))).b h793).g (tX h795)).F 1).b h793).F 1)
     obtain⟨h796,h⟩|⟨h796,h⟩:=aM h
     ·have h:=aK h;subst h;exact(YD.b h796).ret hΓ
     ·exact((YD.b h796).a [.cn [1,3,4,5,6,7,8] [0,1,2,3,4]]).ct hΓ Kn (iS vo O8) (ih3 (i3+1) (dn vo) h)
    ·exact(((((YC.r 7 h793).F 1).b h793).F 2).a [.cn [1,3,4,5,6,7,8] [0,1,2,3,4]]).ct hΓ Kn (iS vo O8) (ih3 (i3+1) (dn vo) h)
   ·exact(((((YB.r 2 h792).F 1).b h792).F 12).a [.cn [1,3,4,5,6,7,8] [0,1,2,3,4]]).ct hΓ Kn (iS vo O8) (ih3 (i3+1) (dn vo) h)
theorem Fm(hΓ:Γ.nt=145){aC:aJ}{sy:aF}{r:Bool}{k1:Option Bool}(eR:k1=some r->Ax Γ N f149 (.q [[none]] (D.bool r)) [1,1,1,1] ⟨[(1,D.ptr 0 0),(3,D.acc 1)],[Ob.box (aJ.c aC),Ob.row .uq 9 1 (sy.map tx)]⟩)(hm1:aC.conds.length<=maxLen):∀(rest:af) (i1:Nat),aC.conds.drop i1=rest->ja aC sy k1 rest i1=some r->Ar Γ N f149 (.q [[none]] (D.bool r)) [1,1,1,0,1,0] (rest.length+1) (HE aC sy (i1:Int)):=by
 intro rest
 induction rest with
 |nil=>
  intro i1 bA h;rw[ja]at h;refine aR fun N1 cW cL=>?_
  exact((aU.ge aH.c bA).a [.hl 0 [1,3] [0,1]]).ex hΓ cW (eR h)
 |cons bh cV ih1=>
  intro i1 bA h;rw[ja]at h;refine aR fun N1 cW cL=>?_
  obtain⟨a3G,h644,h⟩:=aB h;have YE:=(((aU.lt aH.c bA).l (bI aH.c 5 (dc bA) rfl)).g (gh h644))
  obtain⟨h645,h⟩|⟨h645,h⟩:=aM h
  ·have h:=aK h;subst h;exact((((YE.r 3 h645).a [bF,bF,bF]).r 2 h645).T 1).ret hΓ
  ·have YF:=(YE.r 3 h645)
   obtain⟨h646,h⟩|⟨h646,h⟩:=aM h
   ·have YG:=((((YF.r 3 h646).b h645).b h646).b h645)
    obtain⟨h647,h⟩|⟨h647,h⟩:=aM h
    ·have h:=aK h;subst h;exact(YG.b h647).ret hΓ
    ·obtain⟨Gp,h649,h⟩:=aB h;obtain⟨BS,h651,h⟩:=aB h;obtain⟨h722,h⟩:=bQ h;refine((((YG.b h647).g (iq h649)).g (oG h651)).a [.cn [1,3,4,5,6,7,8] [0,1,2,3,4]]).lp hΓ (Fo hΓ (fun h=>?_) (ay h722) BS 0 rfl h);exact(aU.a [.cn [1,3,4] [0,1]]).ct hΓ cL (iS bA hm1) (ih1 (i1+1) (dn bA) h)
   ·obtain⟨Gq,h724,h⟩:=aB h;obtain⟨BT,h726,h⟩:=aB h;obtain⟨h797,h⟩:=bQ h;refine((((((((YF.r 3 h646).b h645).b h646).b h645).F 1).g (iq h724)).g (oG h726)).a [.cn [1,3,4,5,6,7,8] [0,1,2,3,4]]).lp hΓ (Fp hΓ (fun h=>?_) (ay h797) BT 0 rfl h);exact(aU.a [.cn [1,3,4] [0,1]]).ct hΓ cL (iS bA hm1) (ih1 (i1+1) (dn bA) h)
def HH(aC:aJ)(sy:aF)(dQ:Int):St:=⟨[(1,D.ptr 0 0),(3,D.acc 1),(10,D.int .i64 dQ)],[Ob.box (aJ.c aC),Ob.row .uq 9 1 (sy.map tx)]⟩
def HI(aC:aJ)(sy:aF)(i4:Nat)(Gr:aF)(dQ:Int):St:=⟨[(1,D.ptr 0 0),(3,D.acc 1),(10,D.int .i64 (i4:Int)),(11,D.acc 2),(12,D.int .i64 dQ)],[Ob.box (aJ.c aC),Ob.row .uq 9 1 (sy.map tx),Ob.row .uq 9 1 (Gr.map tx)]⟩
theorem Ft(hΓ:Γ.nt=145){aC:aJ}{sy:aF}{i4:Nat}{Gr:aF}{r:Bool}{k5:Option Bool}(hE5:k5=some r->Ax Γ N f149 (.q [[none]] (D.bool r)) [1,1,1,1,0,1,0,0,1,1] ⟨[(1,D.ptr 0 0),(3,D.acc 1),(10,D.int .i64 (i4:Int))],[Ob.box (aJ.c aC),Ob.row .uq 9 1 (sy.map tx)]⟩)(hm5:Gr.length<=maxLen):∀(rest:aF) (i5:Nat),Gr.drop i5=rest->lS aC sy i4 Gr k5 rest i5=some r->Ar Γ N f149 (.q [[none]] (D.bool r)) [1,1,1,1,0,1,0,0,1,0,0,1,1,1,0] (rest.length+1) (HI aC sy i4 Gr (i5:Int)):=by
 intro rest
 induction rest with
 |nil=>
  intro i5 O6 h;rw[lS]at h;refine aR fun N5 hN5 hS5=>?_
  exact((aU.ge tx O6).a [.hl 3 [1,3,10] [0,1]]).ex hΓ hN5 (hE5 h)
 |cons x5_ xs5 ih5=>
  intro i5 O6 h;rw[lS]at h;refine aR fun N5 hN5 hS5=>?_
  obtain⟨a3P,h953,h⟩:=aB h;have YH:=((((aU.lt tx O6).i (mS tx 1 (dc O6))).o 1 1 .uq (cH tx (dc O6))).g (ir h953))
  obtain⟨h954,h⟩|⟨h954,h⟩:=aM h
  ·have h:=aK h;subst h;exact(YH.b h954).ret hΓ
  ·exact((YH.b h954).a [.cn [1,3,10,11,12] [0,1,2]]).ct hΓ hS5 (iS O6 hm5) (ih5 (i5+1) (dn O6) h)
theorem Fq(hΓ:Γ.nt=145){aC:aJ}{sy:aF}{r:Bool}{k4:Option Bool}(hE4:k4=some r->Ax Γ N f149 (.q [[none]] (D.bool r)) [1,1,1,1,1] ⟨[(1,D.ptr 0 0)],[Ob.box (aJ.c aC)]⟩)(hm4:aC.cO.length<=maxLen):∀(rest:dN) (i4:Nat),aC.cO.drop i4=rest->lR aC sy k4 rest i4=some r->Ar Γ N f149 (.q [[none]] (D.bool r)) [1,1,1,1,0,1,0] (rest.length+1) (HH aC sy (i4:Int)):=by
 intro rest
 induction rest with
 |nil=>
  intro i4 IZ h;rw[lR]at h;refine aR fun N4 Xe W9=>?_
  exact((aU.ge Action.c IZ).a [.hl 0 [1] [0]]).ex hΓ Xe (hE4 h)
 |cons VT XL ih4=>
  intro i4 IZ h;rw[lR]at h;refine aR fun N4 Xe W9=>?_
  obtain⟨a3O,h927,h⟩:=aB h;have YI:=(((aU.lt Action.c IZ).l (bI Action.c 3 (dc IZ) rfl)).g (C5 h927))
  obtain⟨h928,h⟩|⟨h928,h⟩:=aM h
  ·have h:=aK h;subst h;exact(YI.b h928).ret hΓ
  ·obtain⟨Gr,h930,h⟩:=aB h;obtain⟨h955,h⟩:=bQ h;refine((((YI.b h928).l (bI Action.c 3 (dc IZ) rfl)).g (nV h930)).a [.cn [1,3,10,11,12] [0,1,2]]).lp hΓ (Ft hΓ (fun h=>?_) (ay h955) Gr 0 rfl h);exact(aU.a [.cn [1,3,10] [0,1]]).ct hΓ W9 (iS IZ hm4) (ih4 (i4+1) (dn IZ) h)
theorem fD{aC:aJ}{r:Bool}(h:lf aC=some r):Good prog 149 [D.agg (aJ.c aC)] (D.bool r):=by
 refine gd func149 [[none]] 145 fun hr Γ hΓ=>?_
 rw[lf]at h;obtain⟨y1,h2,h⟩:=aB h;obtain⟨h3,h⟩|⟨h3,h⟩:=aM h
 ·have h:=aK h;subst h;exact(((aU.g (lQ h2)).r 5 h3).T 13).ret hΓ
 ·obtain⟨y4,h5,h⟩:=aB h;have YJ:=((((aU.g (lQ h2)).r 3 h3).g (fV h5)).r 2 h3)
  obtain⟨h6,h⟩|⟨h6,h⟩:=aM h
  ·have h:=aK h;subst h;exact((YJ.r 6 h6).T 7).ret hΓ
  ·obtain⟨y7,h8,h⟩:=aB h;have YK:=(((YJ.r 4 h6).g (fV h8)).r 2 h6)
   obtain⟨h9,h⟩|⟨h9,h⟩:=aM h
   ·have h:=aK h;subst h;exact((YK.r 6 h9).T 1).ret hΓ
   ·obtain⟨FE,h11,h⟩:=aB h;have YL:=(((YK.r 4 h9).g (fV h11)).r 2 h9)
    obtain⟨h12,h⟩|⟨h12,h⟩:=aM h
    ·have h:=aK h;subst h;exact(YL.b h12).ret hΓ
    ·obtain⟨sy,h14,h⟩:=aB h;refine(((YL.b h12).g (iq h14)).a [.cn [1,3,4] [0,1]]).lp hΓ (Fm hΓ (fun h=>?_) (by have:=(j0.sl (j0.agg (hr _ (aD (i:=0) rfl)) (.sl (aC.conds.map aH.c)) (by simp))).1;simpa using this) aC.conds 0 rfl h);refine(aU.a [.cn [1,3,10] [0,1]]).lp hΓ (Fq hΓ (fun h=>?_) (by have:=(j0.sl (j0.agg (hr _ (aD (i:=0) rfl)) (.sl (aC.cO.map Action.c)) (by simp))).1;simpa using this) aC.cO 0 rfl h);obtain⟨a3Q,h957,h⟩:=aB h;cases h;exact(aU.g (CC h957)).ret hΓ
def nw(aC:Bytes)(aa:Bytes)(k1:Int->aF->Option aF):Nat->Int->Int->aF->Option aF
 |0,_,_,_=>none
 |n1+1,eF,ru,bO=>(bif decide ((IntKind.i64.wrap (ru+(aa.length:Int)):Int)<=(aC.length:Int))then((yE aC.length (some (D.int .i64 ru)) (some (D.int .i64 (IntKind.i64.wrap (ru+(aa.length:Int)))))).bind fun p=>(fun l49 u50=>(bif ((aC.take u50).drop l49:Bytes)==aa then((yE aC.length (some (D.int .i64 eF)) (some (D.int .i64 ru))).bind fun p=>(fun l53 u54=>(bif room ((bO.map tx).length+([[D.str ((aC.take u54).drop l53)]]).length) 16 then(nw aC aa k1 n1 (IntKind.i64.wrap (ru+(aa.length:Int))) (IntKind.i64.wrap (ru+(aa.length:Int))) (bO++([(aC.take u54).drop l53])))else none)) p.1 p.2)else(nw aC aa k1 n1 eF (IntKind.i64.wrap (ru+1)) bO))) p.1 p.2)else(k1 eF bO))
def kF(aC:Bytes)(aa:Bytes):Option aF:=(bif (aa:Bytes)==([])then(bif room (([]:List aL).length+([[D.str aC]]).length) 16 then(some (([]:aF)++([aC])))else none)else(nw aC aa (fun(Co:Int) (cA:aF)=>((yE aC.length (some (D.int .i64 Co)) none).bind fun p=>(fun l57 u58=>(bif room ((cA.map tx).length+([[D.str ((aC.take u58).drop l57)]]).length) 16 then(some (cA++([(aC.take u58).drop l57])))else none)) p.1 p.2)) fuel 0 0 ([]:aF)))
def Ai(aC:Bytes)(aa:Bytes)(eF:Int)(ru:Int)(W2:List aL):St:=⟨[(0,D.str aC),(1,D.str aa),(5,D.acc 0),(6,D.int .i64 eF),(7,D.int .i64 ru)],[Ob.row .uq 9 1 W2]⟩
theorem HJ(hΓ:Γ.nt=51){aC:Bytes}{aa:Bytes}{r:aF}{k1:Int->aF->Option aF}(eR:∀(Co:Int) (cA:aF),k1 Co cA=some r->Ax Γ N f240 (.q [[some (9,1)]] (D.fr 9 1 (r.map tx))) [1,1,1,1,1] ⟨[(0,D.str aC),(5,D.acc 0),(6,D.int .i64 Co)],[Ob.row .uq 9 1 (cA.map tx)]⟩):∀(n1:Nat) (eF:Int) (ru:Int) (bO:aF),nw aC aa k1 n1 eF ru bO=some r->Ar Γ N f240 (.q [[some (9,1)]] (D.fr 9 1 (r.map tx))) [1,1,1,1,0,1,0] n1 (Ai aC aa eF ru (bO.map tx)):=by
 intro n
 induction n with
 |zero=>intro eF ru bO h;simp[nw]at h
 |succ n1 ih1=>
  intro eF ru bO h;rw[nw]at h;refine aR fun N1 cW cL=>?_
  obtain⟨h48,h⟩|⟨h48,h⟩:=aM h
  ·obtain⟨⟨l49,u50⟩,h51,h⟩:=aB h;have ig:=(((aU.b h48).w h51).a [.cut l49 u50])
   obtain⟨h52,h⟩|⟨h52,h⟩:=aM h
   ·obtain⟨⟨l53,u54⟩,h55,h⟩:=aB h;obtain⟨h56,h⟩:=bQ h;exact((((ig.b h52).w h55).w (br h56)).a [.cut l53 u54,.cn [0,1,5,6,7] [2]]).cs hΓ cL (Ai aC aa (IntKind.i64.wrap (ru+(aa.length:Int))) (IntKind.i64.wrap (ru+(aa.length:Int))) ((bO.map tx)++([[D.str ((aC.take u54).drop l53)]]))) (by first| (simp only[mA]<;>rfl)| (simp only[mA,aG.c,aQ.c,aH.c,Action.c,aJ.c,aX.c,dU.c,ai.c,Node.c,aN.c,dW.c]<;>rfl)) (ih1 (IntKind.i64.wrap (ru+(aa.length:Int))) (IntKind.i64.wrap (ru+(aa.length:Int))) (bO++([(aC.take u54).drop l53])) h)
   ·exact((ig.b h52).a [.cn [0,1,5,6,7] [0]]).cf hΓ cL (ih1 eF (IntKind.i64.wrap (ru+1)) bO h)
  ·exact((aU.b h48).a [.hl 0 [0,5,6] [0]]).ex hΓ cW (eR eF bO h)
theorem fY{aC:Bytes}{aa:Bytes}{r:aF}(h:kF aC aa=some r):Good prog 240 [D.str aC,D.str aa] (D.fr 9 1 (r.map tx)):=by
 refine gd func240 [[some (9,1)]] 51 fun hr Γ hΓ=>?_
 rw[kF]at h;obtain⟨h1,h⟩|⟨h1,h⟩:=aM h
 ·obtain⟨h2,h⟩:=bQ h;cases h;exact(((aU.a [.Jk 4]).b h1).w (br h2)).rts hΓ (D.fr 9 1 (([]:List aL)++([[D.str aC]]))) (by first|rfl| (simp only[mA]<;>rfl))
 ·refine(((aU.a [.Jk 4]).b h1).a [.cn [0,1,5,6,7] [1]]).lp hΓ (HJ hΓ (fun Co cA h=>?_) fuel 0 0 ([]:aF) h);obtain⟨⟨l57,u58⟩,h59,h⟩:=aB h;obtain⟨h60,h⟩:=bQ h;cases h;exact(((aU.w h59).w (br h60)).a [.cut l57 u58]).rts hΓ (D.fr 9 1 ((cA.map tx)++([[D.str ((aC.take u58).drop l57)]]))) (by first|rfl| (simp only[mA]<;>rfl)| (simp only[mA,bX]<;>rfl))
def gO(k1:Option Bytes):Nat->Int->Bytes->Option Bytes
 |0,_,_=>none
 |n1+1,Ch,kx=>(bif decide (0<=(Ch:Int))&&decide (0<(10:Int))then(bif decide (([UInt8.ofNat (IntKind.u8.wrap (IntKind.i64.wrap (48+((Ch:Int)%10)))).toNat]:Bytes).length+(kx:Bytes).length<=maxLen)then(bif decide (0<=(Ch:Int))&&decide (0<(10:Int))then(bif ((Ch:Int)/10:Int)==0 then(some (([UInt8.ofNat (IntKind.u8.wrap (IntKind.i64.wrap (48+((Ch:Int)%10)))).toNat])++kx))else(gO k1 n1 ((Ch:Int)/10) (([UInt8.ofNat (IntKind.u8.wrap (IntKind.i64.wrap (48+((Ch:Int)%10)))).toNat])++kx)))else none)else none)else none)
def gA:Nat->Int->Option Bytes
 |0,_=>none
 |m_+1,aC=>(bif (aC:Int)==(-9223372036854775808)then(some ([45,57,50,50,51,51,55,50,48,51,54,56,53,52,55,55,53,56,48,56]))else(bif decide ((aC:Int)<0)then((gA m_ (IntKind.i64.wrap (0-aC))).bind fun y3=>(bif decide (([45]:Bytes).length+(y3:Bytes).length<=maxLen)then(some (([45])++y3))else none))else(gO none fuel aC ([]))))
def BD(Ch:Int)(kx:Bytes):St:=⟨[(0,D.int .i64 Ch),(3,D.str kx)],[]⟩
theorem AK(hΓ:Γ.nt=25){r:Bytes}{k1:Option Bytes}(eR:k1=some r->Ax Γ N f95 (.q [[none]] (D.str r)) [1,1,1,1,0,0] ⟨[],[]⟩):∀(n1:Nat) (Ch:Int) (kx:Bytes),gO k1 n1 Ch kx=some r->Ar Γ N f95 (.q [[none]] (D.str r)) [1,1,1,1,0] n1 (BD Ch kx):=by
 intro n
 induction n with
 |zero=>intro Ch kx h;simp[gO]at h
 |succ n1 ih1=>
  intro Ch kx h;rw[gO]at h;refine aR fun N1 cW cL=>?_
  obtain⟨h14,h⟩:=bQ h;obtain⟨h15,h⟩:=bQ h;obtain⟨h16,h⟩:=bQ h;have ig:=(((aU.w (MB .i64 h14)).w (ay h15)).w (MB .i64 h16))
  obtain⟨h17,h⟩|⟨h17,h⟩:=aM h
  ·cases h;exact(ig.b h17).rts hΓ (D.str (([UInt8.ofNat (IntKind.u8.wrap (IntKind.i64.wrap (48+((Ch:Int)%10)))).toNat])++kx)) (by first|rfl| (simp only[mA]<;>rfl))
  ·exact((ig.b h17).a [.cn [0,3] []]).cf hΓ cL (ih1 ((Ch:Int)/10) (([UInt8.ofNat (IntKind.u8.wrap (IntKind.i64.wrap (48+((Ch:Int)%10)))).toNat])++kx) h)
theorem zN{m_:Nat}(ihR:∀ {aC:Int} {r:Bytes},gA m_ aC=some r->Good prog 95 [D.int .i64 aC] (D.str r)){aC:Int}{r:Bytes}(h:gA (m_+1) aC=some r):Good prog 95 [D.int .i64 aC] (D.str r):=by
 refine gd func95 [[none]] 25 fun hr Γ hΓ=>?_
 rw[gA]at h;obtain⟨h1,h⟩|⟨h1,h⟩:=aM h
 ·cases h;exact(aU.b h1).ret hΓ
 ·obtain⟨h2,h⟩|⟨h2,h⟩:=aM h
  ·obtain⟨y3,h4,h⟩:=aB h;obtain⟨h5,h⟩:=bQ h;cases h;exact((((aU.b h1).b h2).g (ihR h4)).w (ay h5)).rts hΓ (D.str (([45])++y3)) (by first|rfl| (simp only[mA]<;>rfl))
  ·refine(((aU.b h1).b h2).a [.cn [0,3] []]).lp hΓ (AK hΓ (fun h=>?_) fuel aC ([]) h);cases h
theorem tU:∀(m_:Nat) {aC:Int} {r:Bytes},gA m_ aC=some r->Good prog 95 [D.int .i64 aC] (D.str r)
 |0,_,_,h=>by cases h
 |m_+1,_,_,h=>zN (fun h=>tU m_ h) h
def lP(aC:Int):Option Bytes:=gA fuel aC
theorem nh{aC:Int}{r:Bytes}(h:lP aC=some r):Good prog 95 [D.int .i64 aC] (D.str r):=tU fuel h
def gj(aC:Bytes)(k1:Int->Option (Int×Bool)):Nat->Int->Int->Option (Int×Bool)
 |0,_,_=>none
 |n1+1,eE,uR=>(bif decide ((uR:Int)<(aC.length:Int))then((iM aC uR).bind fun b25=>(bif decide ((b25.toNat:Int)<48)then(some (0,false))else(bif decide ((b25.toNat:Int)>57)then(some (0,false))else(gj aC k1 n1 (IntKind.i64.wrap ((IntKind.i64.wrap (10*eE))+(IntKind.i64.wrap (IntKind.u8.wrap (b25.toNat-48))))) (IntKind.i64.wrap (uR+1))))))else(k1 eE))
def kn(aC:Bytes):Option (Int×Bool):=((jf (aC.length:Int) 1 4).bind fun y1=>(bif !(y1)then(some (0,false))else(gj aC (fun(S5:Int)=>((lP S5).bind fun Cn=>(bif !((Cn:Bytes)==aC)then(some (0,false))else(some (S5,true))))) fuel 0 0)))
def EZ(aC:Bytes)(eE:Int)(uR:Int):St:=⟨[(0,D.str aC),(4,D.int .i64 eE),(5,D.int .i64 uR)],[]⟩
theorem Db(hΓ:Γ.nt=39){aC:Bytes}{r:Int×Bool}{k1:Int->Option (Int×Bool)}(eR:∀(S5:Int),k1 S5=some r->Ax Γ N f234 (.q [[none],[none]] (D.iK [D.int .i64 r.1,D.bool r.2])) [1,1,1,1] ⟨[(0,D.str aC),(4,D.int .i64 S5)],[]⟩):∀(n1:Nat) (eE:Int) (uR:Int),gj aC k1 n1 eE uR=some r->Ar Γ N f234 (.q [[none],[none]] (D.iK [D.int .i64 r.1,D.bool r.2])) [1,1,1,0,1,0] n1 (EZ aC eE uR):=by
 intro n
 induction n with
 |zero=>intro eE uR h;simp[gj]at h
 |succ n1 ih1=>
  intro eE uR h;rw[gj]at h;refine aR fun N1 cW cL=>?_
  obtain⟨h24,h⟩|⟨h24,h⟩:=aM h
  ·obtain⟨b25,h26,h⟩:=aB h;have lC:=((aU.b h24).c h26)
   obtain⟨h27,h⟩|⟨h27,h⟩:=aM h
   ·cases h;exact((lC.r 5 h27).T 1).ret hΓ
   ·have kw:=(((lC.r 3 h27).c h26).r 2 h27)
    obtain⟨h28,h⟩|⟨h28,h⟩:=aM h
    ·cases h;exact(kw.b h28).ret hΓ
    ·exact(((kw.b h28).c h26).a [.cn [0,4,5] []]).cf hΓ cL (ih1 (IntKind.i64.wrap ((IntKind.i64.wrap (10*eE))+(IntKind.i64.wrap (IntKind.u8.wrap (b25.toNat-48))))) (IntKind.i64.wrap (uR+1)) h)
  ·exact((aU.b h24).a [.hl 0 [0,4] []]).ex hΓ cW (eR eE h)
theorem oH{aC:Bytes}{r:Int×Bool}(h:kn aC=some r):Good prog 234 [D.str aC] (D.iK [D.int .i64 r.1,D.bool r.2]):=by
 refine gd func234 [[none],[none]] 39 fun hr Γ hΓ=>?_
 rw[kn]at h;obtain⟨y1,h2,h⟩:=aB h;obtain⟨h3,h⟩|⟨h3,h⟩:=aM h
 ·cases h;exact((aU.g (fV h2)).b h3).ret hΓ
 ·refine(((aU.g (fV h2)).b h3).a [.cn [0,4,5] []]).lp hΓ (Db hΓ (fun S5 h=>?_) fuel 0 0 h);obtain⟨Cn,h30,h⟩:=aB h;obtain⟨h31,h⟩|⟨h31,h⟩:=aM h
  ·cases h;exact((aU.g (nh h30)).b h31).ret hΓ
  ·cases h;exact((aU.g (nh h30)).b h31).ret hΓ
def yf(aC:Int):Option Bytes:=(bif (aC:Int)==3 then(some ([32,61,32]))else(bif (aC:Int)==4 then(some ([32,33,61,32]))else(some ([32,60,32]))))
theorem Ei{aC:Int}{r:Bytes}(h:yf aC=some r):Good prog 269 [D.int .i64 aC] (D.str r):=by
 refine gd func269 [[none]] 8 fun hr Γ hΓ=>?_
 rw[yf]at h;obtain⟨h1,h⟩|⟨h1,h⟩:=aM h
 ·cases h;exact(aU.b h1).ret hΓ
 ·obtain⟨h2,h⟩|⟨h2,h⟩:=aM h
  ·cases h;exact((aU.b h1).b h2).ret hΓ
  ·cases h;exact((aU.b h1).b h2).ret hΓ
def xT(aC:Bytes):Option (Bytes×aF×Bool):=((kF aC ([40])).bind fun y1=>(bif (((y1.map tx).length:Int):Int) != 2 then(some ([],[],false))else((iM y1 1).bind fun x4=>(bif ((x4.length:Int):Int)==0 then(some ([],[],false))else((iM x4 (IntKind.i64.wrap ((x4.length:Int)-1))).bind fun b7=>(bif (b7.toNat:Int) != 41 then(some ([],[],false))else((yE x4.length none (some (D.int .i64 (IntKind.i64.wrap ((x4.length:Int)-1))))).bind fun p=>(fun l10 u11=>(bif ((x4.take u11).drop l10:Bytes)==([])then((iM y1 0).bind fun x14=>(some (x14,([]:aF),true)))else((iM y1 0).bind fun x16=>((kF ((x4.take u11).drop l10) ([44])).bind fun KR=>(some (x16,KR,true)))))) p.1 p.2)))))))
theorem wJ{aC:Bytes}{r:Bytes×aF×Bool}(h:xT aC=some r):Good prog 290 [D.str aC] (D.iK [D.str r.1,D.fr 9 1 (r.2.1.map tx),D.bool r.2.2]):=by
 refine gd func290 [[none],[some (9,1)],[none]] 51 fun hr Γ hΓ=>?_
 rw[xT]at h;obtain⟨y1,h2,h⟩:=aB h;have oa:=((aU.g (fY h2)).a [.n 19])
 obtain⟨h3,h⟩|⟨h3,h⟩:=aM h
 ·cases h;exact((oa.r 6 h3).T 12).ret hΓ
 ·obtain⟨x4,h5,h⟩:=aB h;have ig:=(((((oa.r 2 h3).i (fc tx 1 h5)).b h3).o 1 1 .uq (cH tx (dR h5))).r 3 h3)
  obtain⟨h6,h⟩|⟨h6,h⟩:=aM h
  ·cases h;exact((ig.r 11 h6).T 1).ret hΓ
  ·obtain⟨b7,h8,h⟩:=aB h;have lC:=(((((((((((ig.r 2 h6).i (fc tx 1 h5)).b h6).o 1 1 .uq (cH tx (dR h5))).r 2 h6).i (fc tx 1 h5)).b h6).o 1 1 .uq (cH tx (dR h5))).r 3 h6).c h8).r 2 h6)
   obtain⟨h9,h⟩|⟨h9,h⟩:=aM h
   ·cases h;exact(lC.b h9).ret hΓ
   ·obtain⟨⟨l10,u11⟩,h12,h⟩:=aB h;have kw:=((((((((lC.b h9).a [.n 8]).i (fc tx 1 h5)).o 1 1 .uq (cH tx (dR h5))).i (fc tx 1 h5)).o 1 1 .uq (cH tx (dR h5))).w h12).a [.cut l10 u11])
    obtain⟨h13,h⟩|⟨h13,h⟩:=aM h
    ·obtain⟨x14,h15,h⟩:=aB h;cases h;exact(((kw.b h13).i (fc tx 1 h15)).o 1 1 .uq (cH tx (dR h15))).ret hΓ
    ·obtain⟨x16,h17,h⟩:=aB h;obtain⟨KR,h19,h⟩:=aB h;cases h;exact(((((kw.b h13).a [.n 5]).i (fc tx 1 h17)).o 1 1 .uq (cH tx (dR h17))).g (fY h19)).ret hΓ
def iX(aC:Bytes):Option (aG×Bool):=((xT aC).bind fun y1=>(bif !(y1.2.2)then(some ((⟨[],[]⟩:aG),false))else((gI (⟨y1.1,y1.2.1⟩:aG)).bind fun y4=>(bif !(y4)then(some ((⟨[],[]⟩:aG),false))else(some ((⟨y1.1,y1.2.1⟩:aG),true))))))
theorem iy{aC:Bytes}{r:aG×Bool}(h:iX aC=some r):Good prog 270 [D.str aC] (D.iK [D.agg [D.str r.1.rel,D.fr 9 1 (r.1.args.map tx)],D.bool r.2]):=by
 refine gd func270 [[none,some (9,1)],[none]] 26 fun hr Γ hΓ=>?_
 rw[iX]at h;obtain⟨y1,h2,h⟩:=aB h;obtain⟨h3,h⟩|⟨h3,h⟩:=aM h
 ·cases h;exact(((aU.g (wJ h2)).r 4 h3).T 1).ret hΓ
 ·obtain⟨y4,h5,h⟩:=aB h;have oa:=(((((aU.g (wJ h2)).r 2 h3).a [.d (D.bool y4)]).w (show Good prog 201 [D.agg [D.str y1.1,D.sl (y1.2.1.map tx)]] (D.bool y4)from by first| (simpa only[b8,bC,bf,bX,bY]using eP h5)|exact eP h5| (have t:=eP h5;simp only[b8,bX,bY,aG.c]at t;exact t))).r 2 h3)
  obtain⟨h6,h⟩|⟨h6,h⟩:=aM h
  ·cases h;exact(oa.b h6).ret hΓ
  ·cases h;exact(oa.b h6).ret hΓ
def kZ(aC:Bytes)(k1:Option (aH×Bool)):Nat->Int->Option (aH×Bool)
 |0,_=>none
 |n1+1,eE=>(bif decide ((eE:Int)<=5)then((yf eE).bind fun xw=>((kF aC xw).bind fun vz=>(bif (((vz.map tx).length:Int):Int)==2 then((iM vz 0).bind fun x33=>((iM vz 1).bind fun x35=>((nB (⟨eE,(⟨[],[]⟩:aG),x33,x35⟩:aH)).bind fun LJ=>(bif LJ then(some ((⟨eE,(⟨[],[]⟩:aG),x33,x35⟩:aH),true))else(kZ aC k1 n1 (IntKind.i64.wrap (eE+1)))))))else(kZ aC k1 n1 (IntKind.i64.wrap (eE+1))))))else(k1))
def ul(aC:Bytes):Option (aH×Bool):=(kZ aC (bif decide (((aC.length:Int):Int)>4)then((yE aC.length none (some (D.int .i64 4))).bind fun p=>(fun l41 u42=>(bif ((aC.take u42).drop l41:Bytes)==([110,111,116,32])then((yE aC.length (some (D.int .i64 4)) none).bind fun p=>(fun l45 u46=>((iX ((aC.take u46).drop l45)).bind fun y48=>(bif !(y48.2)then(some ((⟨0,(⟨[],[]⟩:aG),[],[]⟩:aH),false))else(some ((⟨2,y48.1,[],[]⟩:aH),true))))) p.1 p.2)else((iX aC).bind fun y51=>(bif !(y51.2)then(some ((⟨0,(⟨[],[]⟩:aG),[],[]⟩:aH),false))else(some ((⟨1,y51.1,[],[]⟩:aH),true)))))) p.1 p.2)else((iX aC).bind fun Gn=>(bif !(Gn.2)then(some ((⟨0,(⟨[],[]⟩:aG),[],[]⟩:aH),false))else(some ((⟨1,Gn.1,[],[]⟩:aH),true))))) fuel 3)
def Da(aC:Bytes)(eE:Int):St:=⟨[(0,D.str aC),(2,D.ptr 0 0),(4,D.int .i64 eE)],[Ob.box [D.int .i64 0,D.str ([]),D.nil,D.str ([]),D.str ([])]]⟩
theorem C9(hΓ:Γ.nt=55){aC:Bytes}{r:aH×Bool}{k1:Option (aH×Bool)}(eR:k1=some r->Ax Γ N f255 (.q [[none,none,some (9,1),none,none],[none]] (D.iK [D.agg [D.int .i64 r.1.kind,D.str r.1.pat.rel,D.fr 9 1 (r.1.pat.args.map tx),D.str r.1.left,D.str r.1.right],D.bool r.2])) [1,1] ⟨[(0,D.str aC),(2,D.ptr 0 0)],[Ob.box [D.int .i64 0,D.str ([]),D.nil,D.str ([]),D.str ([])]]⟩):∀(n1:Nat) (eE:Int),kZ aC k1 n1 eE=some r->Ar Γ N f255 (.q [[none,none,some (9,1),none,none],[none]] (D.iK [D.agg [D.int .i64 r.1.kind,D.str r.1.pat.rel,D.fr 9 1 (r.1.pat.args.map tx),D.str r.1.left,D.str r.1.right],D.bool r.2])) [1,0,1,0] n1 (Da aC eE):=by
 intro n
 induction n with
 |zero=>intro eE h;simp[kZ]at h
 |succ n1 ih1=>
  intro eE h;rw[kZ]at h;refine aR fun N1 cW cL=>?_
  obtain⟨h27,h⟩|⟨h27,h⟩:=aM h
  ·obtain⟨xw,h29,h⟩:=aB h;obtain⟨vz,h31,h⟩:=aB h;have lC:=(((aU.b h27).g (Ei h29)).g (fY h31))
   obtain⟨h32,h⟩|⟨h32,h⟩:=aM h
   ·obtain⟨x33,h34,h⟩:=aB h;obtain⟨x35,h36,h⟩:=aB h;obtain⟨LJ,h38,h⟩:=aB h;have kw:=((((((((lC.b h32).a [.n 9]).i (fc tx 1 h34)).o 1 1 .uq (cH tx (dR h34))).i (fc tx 1 h36)).o 1 1 .uq (cH tx (dR h36))).a [.d (D.bool LJ)]).w (show Good prog 209 [D.agg [D.int .i64 eE,D.str ([]),D.sl ([]),D.str x33,D.str x35]] (D.bool LJ)from by first| (simpa only[b8,bC,bf,bX,bY]using gh h38)|exact gh h38| (have t:=gh h38;simp only[b8,bX,bY,aH.c]at t;exact t)))
    obtain⟨h39,h⟩|⟨h39,h⟩:=aM h
    ·cases h;exact(kw.b h39).ret hΓ
    ·exact((kw.b h39).a [.cn [0,2,4] [0]]).cf hΓ cL (ih1 (IntKind.i64.wrap (eE+1)) h)
   ·exact((lC.b h32).a [.cn [0,2,4] [0]]).cf hΓ cL (ih1 (IntKind.i64.wrap (eE+1)) h)
  ·exact((aU.b h27).a [.hl 0 [0,2] [0]]).ex hΓ cW (eR h)
theorem BG{aC:Bytes}{r:aH×Bool}(h:ul aC=some r):Good prog 255 [D.str aC] (D.iK [D.agg [D.int .i64 r.1.kind,D.str r.1.pat.rel,D.fr 9 1 (r.1.pat.args.map tx),D.str r.1.left,D.str r.1.right],D.bool r.2]):=by
 refine gd func255 [[none,none,some (9,1),none,none],[none]] 55 fun hr Γ hΓ=>?_
 rw[ul]at h;refine(aU.a [.cn [0,2,4] [0]]).lp hΓ (C9 hΓ (fun h=>?_) fuel 3 h);obtain⟨h40,h⟩|⟨h40,h⟩:=aM h
 ·obtain⟨⟨l41,u42⟩,h43,h⟩:=aB h;have rR:=((((aU.r 2 h40).w h43).a [.cut l41 u42]).r 2 h40)
  obtain⟨h44,h⟩|⟨h44,h⟩:=aM h
  ·obtain⟨⟨l45,u46⟩,h47,h⟩:=aB h;obtain⟨y48,h49,h⟩:=aB h;have vT:=((((rR.b h44).w h47).a [.cut l45 u46]).g (iy h49))
   obtain⟨h50,h⟩|⟨h50,h⟩:=aM h
   ·cases h;exact(vT.b h50).ret hΓ
   ·cases h;exact(vT.b h50).ret hΓ
  ·obtain⟨y51,h52,h⟩:=aB h;have yl:=((rR.b h44).g (iy h52))
   obtain⟨h53,h⟩|⟨h53,h⟩:=aM h
   ·cases h;exact(yl.b h53).ret hΓ
   ·cases h;exact(yl.b h53).ret hΓ
 ·obtain⟨Gn,h55,h⟩:=aB h;have E6:=(((aU.r 4 h40).F 1).g (iy h55))
  obtain⟨h56,h⟩|⟨h56,h⟩:=aM h
  ·cases h;exact(E6.b h56).ret hΓ
  ·cases h;exact(E6.b h56).ret hΓ
def vm(aC:Bytes):Option (Action×Bool):=(bif (aC:Bytes)==([115,116,111,112])then(some ((⟨3,(⟨[],[]⟩:aG)⟩:Action),true))else((kF aC ([32])).bind fun y2=>(bif (((y2.map tx).length:Int):Int) != 2 then(some ((⟨0,(⟨[],[]⟩:aG)⟩:Action),false))else((iM y2 0).bind fun x5=>(bif !((x5:Bytes)==([97,100,100]))then(bif !((x5:Bytes)==([100,114,111,112]))then(some ((⟨0,(⟨[],[]⟩:aG)⟩:Action),false))else((iM y2 1).bind fun x9=>((iX x9).bind fun Gs=>(bif (x5:Bytes)==([97,100,100])then(some ((⟨1,Gs.1⟩:Action),Gs.2))else(some ((⟨2,Gs.1⟩:Action),Gs.2))))))else((iM y2 1).bind fun x14=>((iX x14).bind fun LG=>(bif (x5:Bytes)==([97,100,100])then(some ((⟨1,LG.1⟩:Action),LG.2))else(some ((⟨2,LG.1⟩:Action),LG.2))))))))))
theorem CF{aC:Bytes}{r:Action×Bool}(h:vm aC=some r):Good prog 256 [D.str aC] (D.iK [D.agg [D.int .i64 r.1.kind,D.str r.1.pat.rel,D.fr 9 1 (r.1.pat.args.map tx)],D.bool r.2]):=by
 refine gd func256 [[none,none,some (9,1)],[none]] 45 fun hr Γ hΓ=>?_
 rw[vm]at h;obtain⟨h1,h⟩|⟨h1,h⟩:=aM h
 ·cases h;exact(aU.b h1).ret hΓ
 ·obtain⟨y2,h3,h⟩:=aB h;have oa:=((aU.b h1).g (fY h3))
  obtain⟨h4,h⟩|⟨h4,h⟩:=aM h
  ·cases h;exact((((oa.r 5 h4).a [bF,bF,bF,bF]).r 2 h4).T 1).ret hΓ
  ·obtain⟨x5,h6,h⟩:=aB h;have ig:=(((((oa.r 2 h4).i (fc tx 1 h6)).b h4).o 1 1 .uq (cH tx (dR h6))).r 2 h4)
   obtain⟨h7,h⟩|⟨h7,h⟩:=aM h
   ·have lC:=((((((((ig.r 2 h7).i (fc tx 1 h6)).b h7).o 1 1 .uq (cH tx (dR h6))).b h7).b h4).b h7).b h4)
    obtain⟨h8,h⟩|⟨h8,h⟩:=aM h
    ·cases h;exact(lC.b h8).ret hΓ
    ·obtain⟨x9,h10,h⟩:=aB h;obtain⟨Gs,h12,h⟩:=aB h;have kw:=((((((lC.b h8).i (fc tx 1 h10)).o 1 1 .uq (cH tx (dR h10))).g (iy h12)).i (fc tx 1 h6)).o 1 1 .uq (cH tx (dR h6)))
     obtain⟨h13,h⟩|⟨h13,h⟩:=aM h
     ·cases h;exact(kw.b h13).ret hΓ
     ·cases h;exact(kw.b h13).ret hΓ
   ·obtain⟨x14,h15,h⟩:=aB h;obtain⟨LG,h17,h⟩:=aB h;have rR:=((((((((((ig.r 4 h7).b h4).b h7).b h4).F 1).i (fc tx 1 h15)).o 1 1 .uq (cH tx (dR h15))).g (iy h17)).i (fc tx 1 h6)).o 1 1 .uq (cH tx (dR h6)))
    obtain⟨h18,h⟩|⟨h18,h⟩:=aM h
    ·cases h;exact(rR.b h18).ret hΓ
    ·cases h;exact(rR.b h18).ret hΓ
def oL(aC:aJ)(cN:Bytes)(y1:aF)(k1:af->Option (aJ×Bool)):aF->Nat->af->Option (aJ×Bool)
 | [],i1,cX=>(k1 cX)
 |bh::cV,i1,cX=>((ul bh).bind fun O0=>(bif !(O0.2)then(some ((⟨aC.name,aC.prio,cX,[]⟩:aJ),false))else(bif room ((cX.map aH.c).length+([[D.int .i64 O0.1.kind,D.str O0.1.pat.rel,D.sl (O0.1.pat.args.map tx),D.str O0.1.left,D.str O0.1.right]]).length) 80 then(oL aC cN y1 k1 cV (i1+1) (cX++([O0.1])))else none)))
def oM(aC:aJ)(n7:af)(D5:aF)(k2:dN->Option (aJ×Bool)):aF->Nat->dN->Option (aJ×Bool)
 | [],i2,j6=>(k2 j6)
 |jM::uO,i2,j6=>((vm jM).bind fun Dx=>(bif !(Dx.2)then(some ((⟨aC.name,aC.prio,n7,j6⟩:aJ),false))else(bif room ((j6.map Action.c).length+([[D.int .i64 Dx.1.kind,D.str Dx.1.pat.rel,D.sl (Dx.1.pat.args.map tx)]]).length) 48 then(oM aC n7 D5 k2 uO (i2+1) (j6++([Dx.1])))else none)))
def xW(aC:aJ)(aa:Bytes)(cN:Bytes):Option (aJ×Bool):=((kF aa ([32,38,32])).bind fun y1=>(bif decide (y1.length<=maxLen)then(oL aC cN y1 (fun(n7:af)=>((kF cN ([32,38,32])).bind fun D5=>(bif decide (D5.length<=maxLen)then(oM aC n7 D5 (fun(tM:dN)=>((lf (⟨aC.name,aC.prio,n7,tM⟩:aJ)).bind fun y77=>(some ((⟨aC.name,aC.prio,n7,tM⟩:aJ),y77)))) D5 0 ([]:dN))else none))) y1 0 ([]:af))else none))
def yM(aC:aJ)(cN:Bytes)(y1:aF)(W0:List aL)(dQ:Int):St:=⟨[(2,D.str cN),(3,D.ptr 0 0),(6,D.ptr 1 0),(8,D.acc 2),(9,D.int .i64 dQ)],[Ob.box [D.str aC.name,D.int .i64 aC.prio,D.acc 3,D.nil],Ob.box [D.str ([]),D.int .i64 0,D.nil,D.nil],Ob.row .uq 9 1 (y1.map tx),Ob.row .uq 47 5 W0]⟩
theorem Em(hΓ:Γ.nt=69){aC:aJ}{cN:Bytes}{y1:aF}{r:aJ×Bool}{k1:af->Option (aJ×Bool)}(eR:∀(n7:af),k1 n7=some r->Ax Γ N f241 (.q [[none,none,some (47,5),some (167,3)],[none]] (D.iK [D.agg [D.str r.1.name,D.int .i64 r.1.prio,D.fr 47 5 (r.1.conds.map aH.c),D.fr 167 3 (r.1.cO.map Action.c)],D.bool r.2])) [1,1,1] ⟨[(2,D.str cN),(3,D.ptr 0 0),(6,D.ptr 1 0)],[Ob.box [D.str aC.name,D.int .i64 aC.prio,D.acc 2,D.nil],Ob.box [D.str ([]),D.int .i64 0,D.nil,D.nil],Ob.row .uq 47 5 (n7.map aH.c)]⟩)(hm1:y1.length<=maxLen):∀(rest:aF) (i1:Nat) (cX:af),y1.drop i1=rest->oL aC cN y1 k1 rest i1 cX=some r->Ar Γ N f241 (.q [[none,none,some (47,5),some (167,3)],[none]] (D.iK [D.agg [D.str r.1.name,D.int .i64 r.1.prio,D.fr 47 5 (r.1.conds.map aH.c),D.fr 167 3 (r.1.cO.map Action.c)],D.bool r.2])) [1,1,0,1,0] (rest.length+1) (yM aC cN y1 (cX.map aH.c) (i1:Int)):=by
 intro rest
 induction rest with
 |nil=>
  intro i1 cX bA h;rw[oL]at h;refine aR fun N1 cW cL=>?_
  exact((aU.ge tx bA).a [.hl 0 [2,3,6] [0,1,3]]).ex hΓ cW (eR cX h)
 |cons bh cV ih1=>
  intro i1 cX bA h;rw[oL]at h;refine aR fun N1 cW cL=>?_
  obtain⟨O0,h36,h⟩:=aB h;have lC:=((((aU.lt tx bA).i (mS tx 1 (dc bA))).o 1 1 .uq (cH tx (dc bA))).g (BG h36))
  obtain⟨h37,h⟩|⟨h37,h⟩:=aM h
  ·cases h;exact(lC.b h37).ret hΓ
  ·obtain⟨h38,h⟩:=bQ h;exact(((lC.b h37).w (br h38)).a [.cn [2,3,6,8,9] [0,1,2,7]]).cs hΓ cL (yM aC cN y1 ((cX.map aH.c)++([[D.int .i64 O0.1.kind,D.str O0.1.pat.rel,D.sl (O0.1.pat.args.map tx),D.str O0.1.left,D.str O0.1.right]])) (IntKind.i64.wrap ((i1:Int)+1))) (by first| (simp only[iS bA hm1,mA]<;>rfl)| (simp only[iS bA hm1,mA,aG.c,aQ.c,aH.c,Action.c,aJ.c,aX.c,dU.c,ai.c,Node.c,aN.c,dW.c]<;>rfl)) (ih1 (i1+1) (cX++([O0.1])) (dn bA) h)
def yN(aC:aJ)(n7:af)(D5:aF)(W0:List aL)(dQ:Int):St:=⟨[(3,D.ptr 0 0),(6,D.ptr 1 0),(12,D.acc 2),(13,D.int .i64 dQ)],[Ob.box [D.str aC.name,D.int .i64 aC.prio,D.acc 3,D.acc 4],Ob.box [D.str ([]),D.int .i64 0,D.nil,D.nil],Ob.row .uq 9 1 (D5.map tx),Ob.row .uq 47 5 (n7.map aH.c),Ob.row .uq 167 3 W0]⟩
theorem En(hΓ:Γ.nt=69){aC:aJ}{n7:af}{D5:aF}{r:aJ×Bool}{k2:dN->Option (aJ×Bool)}(Ak:∀(tM:dN),k2 tM=some r->Ax Γ N f241 (.q [[none,none,some (47,5),some (167,3)],[none]] (D.iK [D.agg [D.str r.1.name,D.int .i64 r.1.prio,D.fr 47 5 (r.1.conds.map aH.c),D.fr 167 3 (r.1.cO.map Action.c)],D.bool r.2])) [1,1,1,1,1] ⟨[(3,D.ptr 0 0),(6,D.ptr 1 0)],[Ob.box [D.str aC.name,D.int .i64 aC.prio,D.acc 2,D.acc 3],Ob.box [D.str ([]),D.int .i64 0,D.nil,D.nil],Ob.row .uq 47 5 (n7.map aH.c),Ob.row .uq 167 3 (tM.map Action.c)]⟩)(hm2:D5.length<=maxLen):∀(rest:aF) (i2:Nat) (j6:dN),D5.drop i2=rest->oM aC n7 D5 k2 rest i2 j6=some r->Ar Γ N f241 (.q [[none,none,some (47,5),some (167,3)],[none]] (D.iK [D.agg [D.str r.1.name,D.int .i64 r.1.prio,D.fr 47 5 (r.1.conds.map aH.c),D.fr 167 3 (r.1.cO.map Action.c)],D.bool r.2])) [1,1,1,1,0,1,0] (rest.length+1) (yN aC n7 D5 (j6.map Action.c) (i2:Int)):=by
 intro rest
 induction rest with
 |nil=>
  intro i2 j6 hd2 h;rw[oM]at h;refine aR fun N2 um sL=>?_
  exact((aU.ge tx hd2).a [.hl 0 [3,6] [0,1,3,4]]).ex hΓ um (Ak j6 h)
 |cons jM uO ih2=>
  intro i2 j6 hd2 h;rw[oM]at h;refine aR fun N2 um sL=>?_
  obtain⟨Dx,h74,h⟩:=aB h;have kw:=((((aU.lt tx hd2).i (mS tx 1 (dc hd2))).o 1 1 .uq (cH tx (dc hd2))).g (CF h74))
  obtain⟨h75,h⟩|⟨h75,h⟩:=aM h
  ·cases h;exact(kw.b h75).ret hΓ
  ·obtain⟨h76,h⟩:=bQ h;exact(((kw.b h75).w (br h76)).a [.cn [3,6,12,13] [0,1,2,3,8]]).cs hΓ sL (yN aC n7 D5 ((j6.map Action.c)++([[D.int .i64 Dx.1.kind,D.str Dx.1.pat.rel,D.sl (Dx.1.pat.args.map tx)]])) (IntKind.i64.wrap ((i2:Int)+1))) (by first| (simp only[iS hd2 hm2,mA]<;>rfl)| (simp only[iS hd2 hm2,mA,aG.c,aQ.c,aH.c,Action.c,aJ.c,aX.c,dU.c,ai.c,Node.c,aN.c,dW.c]<;>rfl)) (ih2 (i2+1) (j6++([Dx.1])) (dn hd2) h)
theorem sK{aC:aJ}{aa:Bytes}{cN:Bytes}{r:aJ×Bool}(h:xW aC aa cN=some r):Good prog 241 [D.agg [D.str aC.name,D.int .i64 aC.prio,D.nil,D.nil],D.str aa,D.str cN] (D.iK [D.agg [D.str r.1.name,D.int .i64 r.1.prio,D.fr 47 5 (r.1.conds.map aH.c),D.fr 167 3 (r.1.cO.map Action.c)],D.bool r.2]):=by
 refine gd func241 [[none,none,some (47,5),some (167,3)],[none]] 69 fun hr Γ hΓ=>?_
 rw[xW]at h;obtain⟨y1,h2,h⟩:=aB h;obtain⟨h80,h⟩:=bQ h;refine((aU.g (fY h2)).a [.pb 0 2 47 5,.cn [2,3,6,8,9] [0,1,2,3]]).lp hΓ (Em hΓ (fun n7 h=>?_) (ay h80) y1 0 ([]:af) rfl h);obtain⟨D5,h40,h⟩:=aB h;obtain⟨h79,h⟩:=bQ h;refine((aU.g (fY h40)).a [.pb 0 3 167 3,.cn [3,6,12,13] [0,1,3,2,4]]).lp hΓ (En hΓ (fun tM h=>?_) (ay h79) D5 0 ([]:dN) rfl h);obtain⟨y77,h78,h⟩:=aB h;cases h;exact((aU.a [.n 3,.d (D.bool y77)]).w (show Good prog 149 [D.agg [D.str aC.name,D.int .i64 aC.prio,D.sl (n7.map aH.c),D.sl (tM.map Action.c)]] (D.bool y77)from by first| (simpa only[b8,bC,bf,bX,bY]using fD h78)|exact fD h78| (have t:=fD h78;simp only[b8,bX,bY,aJ.c]at t;exact t))).ret hΓ
def nO(aC:Bytes):Option (aJ×Bool):=((kF aC ([58,32])).bind fun y1=>(bif (((y1.map tx).length:Int):Int) != 2 then(some ((⟨[],0,[],[]⟩:aJ),false))else((iM y1 0).bind fun x4=>((kF x4 ([32])).bind fun y6=>((iM y1 1).bind fun x8=>((kF x8 ([32,45,62,32])).bind fun FE=>(bif (((y6.map tx).length:Int):Int) != 2 then(some ((⟨[],0,[],[]⟩:aJ),false))else(bif (((FE.map tx).length:Int):Int) != 2 then(some ((⟨[],0,[],[]⟩:aJ),false))else((iM y6 1).bind fun x14=>((kn x14).bind fun LG=>(bif !(LG.2)then(some ((⟨[],0,[],[]⟩:aJ),false))else((iM y6 0).bind fun x19=>((iM FE 0).bind fun x21=>((iM FE 1).bind fun x23=>((xW (⟨x19,LG.1,[],[]⟩:aJ) x21 x23).bind fun tA=>(bif !(tA.2)then(some ((⟨[],0,[],[]⟩:aJ),false))else(some (tA.1,true))))))))))))))))))
theorem BH{aC:Bytes}{r:aJ×Bool}(h:nO aC=some r):Good prog 220 [D.str aC] (D.iK [D.agg [D.str r.1.name,D.int .i64 r.1.prio,D.fr 47 5 (r.1.conds.map aH.c),D.fr 167 3 (r.1.cO.map Action.c)],D.bool r.2]):=by
 refine gd func220 [[none,none,some (47,5),some (167,3)],[none]] 63 fun hr Γ hΓ=>?_
 rw[nO]at h;obtain⟨y1,h2,h⟩:=aB h;obtain⟨h3,h⟩|⟨h3,h⟩:=aM h
 ·cases h;exact((aU.g (fY h2)).b h3).ret hΓ
 ·obtain⟨x4,h5,h⟩:=aB h;obtain⟨y6,h7,h⟩:=aB h;obtain⟨x8,h9,h⟩:=aB h;obtain⟨FE,h11,h⟩:=aB h;have oa:=((((((((aU.g (fY h2)).b h3).i (fc tx 1 h5)).o 1 1 .uq (cH tx (dR h5))).g (fY h7)).i (fc tx 1 h9)).o 1 1 .uq (cH tx (dR h9))).g (fY h11))
  obtain⟨h12,h⟩|⟨h12,h⟩:=aM h
  ·cases h;exact((oa.r 4 h12).T 1).ret hΓ
  ·have ig:=(oa.r 4 h12)
   obtain⟨h13,h⟩|⟨h13,h⟩:=aM h
   ·cases h;exact(ig.b h13).ret hΓ
   ·obtain⟨x14,h15,h⟩:=aB h;obtain⟨LG,h17,h⟩:=aB h;have lC:=((((ig.b h13).i (fc tx 1 h15)).o 1 1 .uq (cH tx (dR h15))).g (oH h17))
    obtain⟨h18,h⟩|⟨h18,h⟩:=aM h
    ·cases h;exact(lC.b h18).ret hΓ
    ·obtain⟨x19,h20,h⟩:=aB h;obtain⟨x21,h22,h⟩:=aB h;obtain⟨x23,h24,h⟩:=aB h;obtain⟨tA,h26,h⟩:=aB h;have kw:=((((((((((lC.b h18).a [.n 17]).i (fc tx 1 h20)).o 1 1 .uq (cH tx (dR h20))).i (fc tx 1 h22)).o 1 1 .uq (cH tx (dR h22))).i (fc tx 1 h24)).o 1 1 .uq (cH tx (dR h24))).a [.nl (D.iK [D.agg [D.str tA.1.name,D.int .i64 tA.1.prio,D.fr 47 5 (tA.1.conds.map aH.c),D.fr 167 3 (tA.1.cO.map Action.c)],D.bool tA.2])]).w (show Good prog 241 [D.agg [D.str x19,D.int .i64 LG.1,D.nil,D.nil],D.str x21,D.str x23] (D.iK [D.agg [D.str tA.1.name,D.int .i64 tA.1.prio,D.fr 47 5 (tA.1.conds.map aH.c),D.fr 167 3 (tA.1.cO.map Action.c)],D.bool tA.2])from by first| (simpa only[b8,bC,bf,bX,bY]using sK h26)|exact sK h26| (have t:=sK h26;simp only[b8,bX,bY,aJ.c]at t;exact t)))
     obtain⟨h27,h⟩|⟨h27,h⟩:=aM h
     ·cases h;exact(kw.b h27).ret hΓ
     ·cases h;exact(kw.b h27).ret hΓ
def mC(aC:cU)(aa:Int):Option (cU×aJ):=((dV aC (Lo aa ((([[114,32,49,58,32,111,110,40,63,120,44,63,121,41,32,38,32,111,110,40,63,121,44,63,122,41,32,45,62,32,97,100,100,32,111,110,40,63,120,44,63,122,41],[114,32,50,58,32,111,110,40,63,120,44,63,121,41,32,38,32,112,40,63,121,41,32,45,62,32,97,100,100,32,112,40,63,120,41],[114,32,48,58,32,112,40,63,120,41,32,38,32,111,110,40,63,120,44,63,121,41,32,38,32,63,120,32,33,61,32,63,121,32,45,62,32,97,100,100,32,97,116,40,63,121,44,63,120,41],[114,32,51,58,32,97,116,40,63,120,44,63,121,41,32,38,32,112,40,63,120,41,32,38,32,112,40,63,121,41,32,38,32,63,120,32,60,32,63,121,32,45,62,32,97,100,100,32,122,40,41],[114,32,52,58,32,111,110,40,63,120,44,97,41,32,45,62,32,97,100,100,32,113,40,63,120,41,32,38,32,97,100,100,32,112,40,97,41],[114,32,49,58,32,97,116,40,63,120,44,63,120,41,32,38,32,113,40,49,41,32,45,62,32,97,100,100,32,111,110,40,63,120,44,49,41],[114,32,49,58,32,112,40,63,120,41,32,38,32,110,111,116,32,113,40,63,120,41,32,45,62,32,97,100,100,32,97,116,40,63,120,44,98,41],[114,32,50,58,32,111,110,40,63,120,44,63,121,41,32,38,32,110,111,116,32,97,116,40,63,121,44,63,122,41,32,45,62,32,97,100,100,32,113,40,63,121,41],[114,32,53,58,32,97,116,40,63,120,44,63,121,41,32,38,32,110,111,116,32,112,40,63,121,41,32,38,32,63,120,32,33,61,32,63,121,32,45,62,32,97,100,100,32,122,40,41],[114,32,57,58,32,113,40,63,120,41,32,38,32,112,40,63,120,41,32,45,62,32,100,114,111,112,32,112,40,63,120,41],[114,32,48,58,32,97,116,40,63,120,44,49,41,32,38,32,97,116,40,63,121,44,50,41,32,38,32,63,120,32,61,32,63,121,32,45,62,32,100,114,111,112,32,97,116,40,63,120,44,49,41,32,38,32,115,116,111,112],[114,32,49,58,32,111,110,40,63,120,44,63,120,41,32,45,62,32,115,116,111,112],[114,32,55,58,32,122,40,41,32,38,32,111,110,40,63,120,44,63,121,41,32,45,62,32,100,114,111,112,32,122,40,41,32,38,32,97,100,100,32,111,110,40,63,121,44,63,120,41]]:aF).map tx).length:Int))).bind fun y1=>((iM ([[114,32,49,58,32,111,110,40,63,120,44,63,121,41,32,38,32,111,110,40,63,121,44,63,122,41,32,45,62,32,97,100,100,32,111,110,40,63,120,44,63,122,41],[114,32,50,58,32,111,110,40,63,120,44,63,121,41,32,38,32,112,40,63,121,41,32,45,62,32,97,100,100,32,112,40,63,120,41],[114,32,48,58,32,112,40,63,120,41,32,38,32,111,110,40,63,120,44,63,121,41,32,38,32,63,120,32,33,61,32,63,121,32,45,62,32,97,100,100,32,97,116,40,63,121,44,63,120,41],[114,32,51,58,32,97,116,40,63,120,44,63,121,41,32,38,32,112,40,63,120,41,32,38,32,112,40,63,121,41,32,38,32,63,120,32,60,32,63,121,32,45,62,32,97,100,100,32,122,40,41],[114,32,52,58,32,111,110,40,63,120,44,97,41,32,45,62,32,97,100,100,32,113,40,63,120,41,32,38,32,97,100,100,32,112,40,97,41],[114,32,49,58,32,97,116,40,63,120,44,63,120,41,32,38,32,113,40,49,41,32,45,62,32,97,100,100,32,111,110,40,63,120,44,49,41],[114,32,49,58,32,112,40,63,120,41,32,38,32,110,111,116,32,113,40,63,120,41,32,45,62,32,97,100,100,32,97,116,40,63,120,44,98,41],[114,32,50,58,32,111,110,40,63,120,44,63,121,41,32,38,32,110,111,116,32,97,116,40,63,121,44,63,122,41,32,45,62,32,97,100,100,32,113,40,63,121,41],[114,32,53,58,32,97,116,40,63,120,44,63,121,41,32,38,32,110,111,116,32,112,40,63,121,41,32,38,32,63,120,32,33,61,32,63,121,32,45,62,32,97,100,100,32,122,40,41],[114,32,57,58,32,113,40,63,120,41,32,38,32,112,40,63,120,41,32,45,62,32,100,114,111,112,32,112,40,63,120,41],[114,32,48,58,32,97,116,40,63,120,44,49,41,32,38,32,97,116,40,63,121,44,50,41,32,38,32,63,120,32,61,32,63,121,32,45,62,32,100,114,111,112,32,97,116,40,63,120,44,49,41,32,38,32,115,116,111,112],[114,32,49,58,32,111,110,40,63,120,44,63,120,41,32,45,62,32,115,116,111,112],[114,32,55,58,32,122,40,41,32,38,32,111,110,40,63,120,44,63,121,41,32,45,62,32,100,114,111,112,32,122,40,41,32,38,32,97,100,100,32,111,110,40,63,121,44,63,120,41]]:aF) y1.2).bind fun x3=>((nO x3).bind fun y5=>(some (y1.1,y5.1)))))
theorem sJ{aC:cU}{aa:Int}{r:cU×aJ}(h:mC aC aa=some r):jP prog 155 (cU.c aC) (cU.c r.1) [D.int .i64 aa] (D.agg [D.str r.2.name,D.int .i64 r.2.prio,D.fr 47 5 (r.2.conds.map aH.c),D.fr 167 3 (r.2.cO.map Action.c)]):=by
 refine J9 func155 [[none,none,none],[none,none,some (47,5),some (167,3)]] 23 [D.sl (aC.b.map yx),D.int .i64 aC.i,D.int .i64 aC.h] [D.int .i64 aa] [] fun hr jr Γ hΓ=>?_
 rw[mC]at h;obtain⟨y1,h2,h⟩:=aB h;obtain⟨x3,h4,h⟩:=aB h;obtain⟨y5,h6,h⟩:=aB h;cases h;exact((((aU.hp [[none,none,none],[none]] (dB h2)).i (fc tx 1 h4)).o 1 1 .uq (cH tx (dR h4))).g (BH h6)).ret hΓ
def gu(y1:cU×Int)(k1:bJ->Int->Int->af->Option (cU×aJ)):Nat->Int->bJ->Int->Int->af->Option (cU×aJ)
 |0,_,_,_,_,_=>none
 |n1+1,eE,dY,cj,ck,cX=>(bif decide ((eE:Int)>0)then((qj (⟨dY,cj,ck⟩:cU)).bind fun xw=>(bif room ((cX.map aH.c).length+([[D.int .i64 xw.2.kind,D.str xw.2.pat.rel,D.sl (xw.2.pat.args.map tx),D.str xw.2.left,D.str xw.2.right]]).length) 80 then(gu y1 k1 n1 (IntKind.i64.wrap (eE-1)) xw.1.b xw.1.i xw.1.h (cX++([xw.2])))else none))else(k1 dY cj ck cX))
def cg(y1:cU×Int)(eS:af)(FF:aF)(sN:cU×aG)(k2:bJ->Int->Int->aF->Option (cU×aJ)):Nat->Int->bJ->Int->Int->aF->Option (cU×aJ)
 |0,_,_,_,_,_=>none
 |n2+1,zj,ux,tO,tP,ld=>(bif decide ((zj:Int)<((ld.map tx).length:Int))then((iM ld zj).bind fun x91=>((gB x91).bind fun y93=>(bif y93 then((fU FF x91).bind fun y96=>(bif !(y96)then((hO (⟨ux,tO,tP⟩:cU)).bind fun Cm=>(cg y1 eS FF sN k2 n2 (IntKind.i64.wrap (zj+1)) Cm.1.b Cm.1.i Cm.1.h (ld.set zj.toNat Cm.2)))else(cg y1 eS FF sN k2 n2 (IntKind.i64.wrap (zj+1)) ux tO tP ld)))else(cg y1 eS FF sN k2 n2 (IntKind.i64.wrap (zj+1)) ux tO tP ld))))else(k2 ux tO tP ld))
def qX(aC:cU):Option (cU×aJ):=((dV aC 4).bind fun y1=>((iz y1.1).bind fun y3=>((dV y3.1 3).bind fun y5=>(gu y1 (fun(jm:bJ) (jo:Int) (jq:Int) (eS:af)=>((jY (⟨[114],y1.2,eS,[]⟩:aJ) ((eS.map aH.c).length:Int)).bind fun FF=>((iz (⟨jm,jo,jq⟩:cU)).bind fun sN=>(cg y1 eS FF sN (fun(HZ:bJ) (He:Int) (Hf:Int) (pR:aF)=>((pz (⟨HZ,He,Hf⟩:cU) ([1,1,2]:bJ)).bind fun Dv=>(bif room (([]:List aL).length+([[D.int .i64 Dv.2,D.str sN.2.rel,D.sl (pR.map tx)]]).length) 48 then((oW Dv.1 6).bind fun IU=>(bif IU.2 then(bif room ((([]:List aL)++([[D.int .i64 Dv.2,D.str sN.2.rel,D.sl (pR.map tx)]])).length+([[D.int .i64 3,D.str ([]),D.sl ([])]]).length) 48 then((lf (⟨[114],y1.2,eS,(([]:dN)++([(⟨Dv.2,(⟨sN.2.rel,pR⟩:aG)⟩:Action)]))++([(⟨3,(⟨[],[]⟩:aG)⟩:Action)])⟩:aJ)).bind fun PX=>(bif !(PX)then((mC IU.1 99).bind fun Rz=>(some (Rz.1,Rz.2)))else(some (IU.1,(⟨[114],y1.2,eS,(([]:dN)++([(⟨Dv.2,(⟨sN.2.rel,pR⟩:aG)⟩:Action)]))++([(⟨3,(⟨[],[]⟩:aG)⟩:Action)])⟩:aJ)))))else none)else((lf (⟨[114],y1.2,eS,([]:dN)++([(⟨Dv.2,(⟨sN.2.rel,pR⟩:aG)⟩:Action)])⟩:aJ)).bind fun XO=>(bif !(XO)then((mC IU.1 99).bind fun a0Y=>(some (a0Y.1,a0Y.2)))else(some (IU.1,(⟨[114],y1.2,eS,([]:dN)++([(⟨Dv.2,(⟨sN.2.rel,pR⟩:aG)⟩:Action)])⟩:aJ)))))))else none))) fuel 0 sN.1.b sN.1.i sN.1.h sN.2.args)))) fuel y5.2 y5.1.b y5.1.i y5.1.h ([(⟨1,y3.2,[],[]⟩:aH)])))))
def tI(jr:Value)(y1:cU×Int)(eE:Int)(cj:Int)(ck:Int)(W1:List aL)(W4:List aL):St:=⟨[(0,D.ptr 0 0),(2,D.ptr 1 0),(3,D.ptr 2 0),(4,D.int .i64 eE)],[Ob.BQ [D.sl W1,D.int .i64 cj,D.int .i64 ck] jr,Ob.box [D.str ([]),D.int .i64 0,D.nil,D.nil],Ob.box [D.str ([114]),D.int .i64 y1.2,D.acc 3,D.nil],Ob.row .uq 47 5 W4]⟩
theorem Dk(hΓ:Γ.nt=88){jr:Value}{y1:cU×Int}{r:cU×aJ}{k1:bJ->Int->Int->af->Option (cU×aJ)}(eR:∀(jm:bJ) (jo:Int) (jq:Int) (eS:af),k1 jm jo jq eS=some r->Ax Γ N f154 (.p [[none,none,none],[none,none,some (47,5),some (167,3)]] jr (cU.c r.1) (D.agg [D.str r.2.name,D.int .i64 r.2.prio,D.fr 47 5 (r.2.conds.map aH.c),D.fr 167 3 (r.2.cO.map Action.c)])) [1,1,1] ⟨[(0,D.ptr 0 0),(2,D.ptr 1 0),(3,D.ptr 2 0)],[Ob.BQ [D.sl (jm.map yx),D.int .i64 jo,D.int .i64 jq] jr,Ob.box [D.str ([]),D.int .i64 0,D.nil,D.nil],Ob.box [D.str ([114]),D.int .i64 y1.2,D.acc 3,D.nil],Ob.row .uq 47 5 (eS.map aH.c)]⟩):∀(n1:Nat) (eE:Int) (dY:bJ) (cj:Int) (ck:Int) (cX:af),gu y1 k1 n1 eE dY cj ck cX=some r->Ar Γ N f154 (.p [[none,none,none],[none,none,some (47,5),some (167,3)]] jr (cU.c r.1) (D.agg [D.str r.2.name,D.int .i64 r.2.prio,D.fr 47 5 (r.2.conds.map aH.c),D.fr 167 3 (r.2.cO.map Action.c)])) [1,1,0,1,0] n1 (tI jr y1 eE cj ck (dY.map yx) (cX.map aH.c)):=by
 intro n
 induction n with
 |zero=>intro eE dY cj ck cX h;simp[gu]at h
 |succ n1 ih1=>
  intro eE dY cj ck cX h;rw[gu]at h;refine aR fun N1 cW cL=>?_
  obtain⟨h25,h⟩|⟨h25,h⟩:=aM h
  ·obtain⟨xw,h29,h⟩:=aB h;obtain⟨h30,h⟩:=bQ h;exact(((((aU.b h25).a [.n2 [0,1,2,3,4,5,6,7] [0,1,2,3,4,5,6,7] 3 5 [0,1] [0,4],.gp [[none,none,none]] (cU.c xw.1) (D.agg [D.int .i64 xw.2.kind,D.str xw.2.pat.rel,D.fr 9 1 (xw.2.pat.args.map tx),D.str xw.2.left,D.str xw.2.right])]).w (show jP prog 219 (cU.c (⟨dY,cj,ck⟩:cU)) (cU.c xw.1) [] (D.agg [D.int .i64 xw.2.kind,D.str xw.2.pat.rel,D.fr 9 1 (xw.2.pat.args.map tx),D.str xw.2.left,D.str xw.2.right])from by simpa only[b8,bC,bf,bX,bY]using Eh h29)).w (br h30)).a [.cn [0,2,3,4] [0,1,2,6]]).cs hΓ cL (tI jr y1 (IntKind.i64.wrap (eE-1)) xw.1.i xw.1.h (xw.1.b.map yx) ((cX.map aH.c)++([[D.int .i64 xw.2.kind,D.str xw.2.pat.rel,D.sl (xw.2.pat.args.map tx),D.str xw.2.left,D.str xw.2.right]]))) (by first| (simp only[mA]<;>rfl)| (simp only[mA,aG.c,aQ.c,aH.c,Action.c,aJ.c,aX.c,dU.c,ai.c,Node.c,aN.c,dW.c]<;>rfl)) (ih1 (IntKind.i64.wrap (eE-1)) xw.1.b xw.1.i xw.1.h (cX++([xw.2])) h)
  ·exact((aU.b h25).a [.hl 0 [0,2,3] [0,1,2,3]]).ex hΓ cW (eR dY cj ck cX h)
def xV(jr:Value)(y1:cU×Int)(eS:af)(FF:aF)(sN:cU×aG)(zj:Int)(tO:Int)(tP:Int)(W1:List aL)(W4:List aL):St:=⟨[(0,D.ptr 0 0),(2,D.ptr 1 0),(3,D.ptr 2 0),(5,D.acc 3),(6,D.ptr 4 0),(7,D.int .i64 zj)],[Ob.BQ [D.sl W1,D.int .i64 tO,D.int .i64 tP] jr,Ob.box [D.str ([]),D.int .i64 0,D.nil,D.nil],Ob.box [D.str ([114]),D.int .i64 y1.2,D.acc 5,D.nil],Ob.row .uq 9 1 (FF.map tx),Ob.box [D.str sN.2.rel,D.acc 6],Ob.row .uq 47 5 (eS.map aH.c),Ob.row .uq 9 1 W4]⟩
theorem Dl(hΓ:Γ.nt=88){jr:Value}{y1:cU×Int}{eS:af}{FF:aF}{sN:cU×aG}{r:cU×aJ}{k2:bJ->Int->Int->aF->Option (cU×aJ)}(Ak:∀(HZ:bJ) (He:Int) (Hf:Int) (pR:aF),k2 HZ He Hf pR=some r->Ax Γ N f154 (.p [[none,none,none],[none,none,some (47,5),some (167,3)]] jr (cU.c r.1) (D.agg [D.str r.2.name,D.int .i64 r.2.prio,D.fr 47 5 (r.2.conds.map aH.c),D.fr 167 3 (r.2.cO.map Action.c)])) [1,1,1,1,1,1] ⟨[(0,D.ptr 0 0),(2,D.ptr 1 0),(3,D.ptr 2 0),(6,D.ptr 3 0)],[Ob.BQ [D.sl (HZ.map yx),D.int .i64 He,D.int .i64 Hf] jr,Ob.box [D.str ([]),D.int .i64 0,D.nil,D.nil],Ob.box [D.str ([114]),D.int .i64 y1.2,D.acc 4,D.nil],Ob.box [D.str sN.2.rel,D.acc 5],Ob.row .uq 47 5 (eS.map aH.c),Ob.row .uq 9 1 (pR.map tx)]⟩):∀(n2:Nat) (zj:Int) (ux:bJ) (tO:Int) (tP:Int) (ld:aF),cg y1 eS FF sN k2 n2 zj ux tO tP ld=some r->Ar Γ N f154 (.p [[none,none,none],[none,none,some (47,5),some (167,3)]] jr (cU.c r.1) (D.agg [D.str r.2.name,D.int .i64 r.2.prio,D.fr 47 5 (r.2.conds.map aH.c),D.fr 167 3 (r.2.cO.map Action.c)])) [1,1,1,1,1,0,1,0] n2 (xV jr y1 eS FF sN zj tO tP (ux.map yx) (ld.map tx)):=by
 intro n
 induction n with
 |zero=>intro zj ux tO tP ld h;simp[cg]at h
 |succ n2 ih2=>
  intro zj ux tO tP ld h;rw[cg]at h;refine aR fun N2 um sL=>?_
  obtain⟨h90,h⟩|⟨h90,h⟩:=aM h
  ·obtain⟨x91,h92,h⟩:=aB h;obtain⟨y93,h94,h⟩:=aB h;have lC:=((((aU.b h90).i (fc tx 1 h92)).o 1 1 .uq (cH tx (dR h92))).g (ew h94))
   obtain⟨h95,h⟩|⟨h95,h⟩:=aM h
   ·obtain⟨y96,h97,h⟩:=aB h;have kw:=(((((((lC.r 5 h95).i (fc tx 1 h92)).b h95).o 1 1 .uq (cH tx (dR h92))).b h95).g (ir h97)).r 2 h95)
    obtain⟨h98,h⟩|⟨h98,h⟩:=aM h
    ·obtain⟨Cm,h102,h⟩:=aB h;exact((((((kw.b h98).a [.n2 [0,1,2,3,4,5,6] [0,1,2,3,4,5,6] 4 5 [0,1,2] [0],.gp [[none,none,none]] (cU.c Cm.1) (D.str Cm.2)]).w (show jP prog 157 (cU.c (⟨ux,tO,tP⟩:cU)) (cU.c Cm.1) [] (D.str Cm.2)from by simpa only[b8,bC,bf,bX,bY]using tF h102)).i (fc tx 1 h92)).w (show(ld.map tx)[zj.toNat]?=some [D.str x91]from cH tx (dR h92))).a [.row [D.str x91],.cn [0,2,3,5,6,7] [0,1,2,3,4,5,6]]).cs hΓ sL (xV jr y1 eS FF sN (IntKind.i64.wrap (zj+1)) Cm.1.i Cm.1.h (Cm.1.b.map yx) ((ld.map tx).set zj.toNat [D.str Cm.2])) (by first| (simp only[mA]<;>rfl)| (simp only[mA,aG.c,aQ.c,aH.c,Action.c,aJ.c,aX.c,dU.c,ai.c,Node.c,aN.c,dW.c]<;>rfl)) (ih2 (IntKind.i64.wrap (zj+1)) Cm.1.b Cm.1.i Cm.1.h (ld.set zj.toNat Cm.2) h)
    ·exact((kw.b h98).a [.cn [0,2,3,5,6,7] [0,1,2,3,4,5,6]]).cf hΓ sL (ih2 (IntKind.i64.wrap (zj+1)) ux tO tP ld h)
   ·exact(((lC.r 9 h95).F 1).a [.cn [0,2,3,5,6,7] [0,1,2,3,4,5,6]]).cf hΓ sL (ih2 (IntKind.i64.wrap (zj+1)) ux tO tP ld h)
  ·exact((aU.b h90).a [.hl 0 [0,2,3,6] [0,1,2,4,5,6]]).ex hΓ um (Ak ux tO tP ld h)
theorem CH{aC:cU}{r:cU×aJ}(h:qX aC=some r):jP prog 154 (cU.c aC) (cU.c r.1) [] (D.agg [D.str r.2.name,D.int .i64 r.2.prio,D.fr 47 5 (r.2.conds.map aH.c),D.fr 167 3 (r.2.cO.map Action.c)]):=by
 refine J9 func154 [[none,none,none],[none,none,some (47,5),some (167,3)]] 88 [D.sl (aC.b.map yx),D.int .i64 aC.i,D.int .i64 aC.h] [] [] fun hr jr Γ hΓ=>?_
 rw[qX]at h;obtain⟨y1,h2,h⟩:=aB h;obtain⟨y3,h4,h⟩:=aB h;obtain⟨y5,h6,h⟩:=aB h;refine((((aU.hp [[none,none,none],[none]] (dB h2)).hp [[none,none,none]] (nY h4)).hp [[none,none,none],[none]] (dB h6)).a [.cn [0,2,3,4] [0,1,4,3]]).lps hΓ (tI jr y1 y5.2 y5.1.i y5.1.h (y5.1.b.map yx) ([[D.int .i64 1,D.str y3.2.rel,D.sl (y3.2.args.map tx),D.str ([]),D.str ([])]])) (by first| (simp only[mA]<;>rfl)| (simp only[mA,aG.c,aQ.c,aH.c,Action.c,aJ.c,aX.c,dU.c,ai.c,Node.c,aN.c,dW.c]<;>rfl)) (Dk hΓ (fun jm jo jq eS h=>?_) fuel y5.2 y5.1.b y5.1.i y5.1.h ([(⟨1,y3.2,[],[]⟩:aH)]) h);obtain⟨FF,h32,h⟩:=aB h;obtain⟨sN,h34,h⟩:=aB h;refine(((((aU.a [.d (D.fr 9 1 (FF.map tx))]).w (show Good prog 208 [D.agg [D.str ([114]),D.int .i64 y1.2,D.sl (eS.map aH.c),D.sl ([])],D.int .i64 ((eS.map aH.c).length:Int)] (D.fr 9 1 (FF.map tx))from by first| (simpa only[b8,bC,bf,bX,bY]using iq h32)|exact iq h32| (have t:=iq h32;simp only[b8,bX,bY,aJ.c]at t;exact t))).a [.gp [[none,none,none]] (cU.c sN.1) (D.agg [D.str sN.2.rel,D.fr 9 1 (sN.2.args.map tx)])]).w (show jP prog 218 (cU.c (⟨jm,jo,jq⟩:cU)) (cU.c sN.1) [] (D.agg [D.str sN.2.rel,D.fr 9 1 (sN.2.args.map tx)])from by simpa only[b8,bC,bf,bX,bY]using nY h34)).a [.cn [0,2,3,5,6,7] [0,1,2,4,6,3,5]]).lp hΓ (Dl hΓ (fun HZ He Hf pR h=>?_) fuel 0 sN.1.b sN.1.i sN.1.h sN.2.args h);obtain⟨Dv,h106,h⟩:=aB h;obtain⟨h107,h⟩:=bQ h;obtain⟨IU,h109,h⟩:=aB h;have rR:=((((aU.a [.n2 [0,1,2,3,5,4,6,7,8,9,10] [0,1,2,3,5,4,6,7,8,9,10] 5 8 [0,1,4] [0,5,6],.gp [[none,none,none],[some (3,1)]] (cU.c Dv.1) (D.int .i64 Dv.2)]).w (show jP prog 126 (cU.c (⟨HZ,He,Hf⟩:cU)) (cU.c Dv.1) [D.fr 3 1 (([1,1,2]:bJ).map mR)] (D.int .i64 Dv.2)from by simpa only[b8,bC,bf,bX,bY]using yJ h106)).w (br h107)).hp [[none,none,none],[none]] (nW h109))
 obtain⟨h110,h⟩|⟨h110,h⟩:=aM h
 ·obtain⟨h111,h⟩:=bQ h;obtain⟨PX,h113,h⟩:=aB h;have vT:=((((rR.b h110).w (br h111)).a [.d (D.bool PX)]).w (show Good prog 149 [D.agg [D.str ([114]),D.int .i64 y1.2,D.sl (eS.map aH.c),D.sl ((([]:List aL)++([[D.int .i64 Dv.2,D.str sN.2.rel,D.sl (pR.map tx)]]))++([[D.int .i64 3,D.str ([]),D.sl ([])]]))]] (D.bool PX)from by first| (simpa only[b8,bC,bf,bX,bY]using fD h113)|exact fD h113| (have t:=fD h113;simp only[b8,bX,bY,aJ.c]at t;exact t)))
  obtain⟨h114,h⟩|⟨h114,h⟩:=aM h
  ·obtain⟨Rz,h116,h⟩:=aB h;cases h;exact((vT.b h114).hp [[none,none,none],[none]] (sJ h116)).ret hΓ
  ·cases h;exact(vT.b h114).rts hΓ (D.iK [D.agg [D.str ([114]),D.int .i64 y1.2,D.fr 47 5 (eS.map aH.c),D.fr 167 3 ((([]:List aL)++([[D.int .i64 Dv.2,D.str sN.2.rel,D.sl (pR.map tx)]]))++([[D.int .i64 3,D.str ([]),D.sl ([])]]))],D.agg [D.sl (IU.1.b.map yx),D.int .i64 IU.1.i,D.int .i64 IU.1.h],D.val jr]) (by first|rfl| (simp only[mA]<;>rfl))
 ·obtain⟨XO,h118,h⟩:=aB h;have yl:=(((rR.b h110).a [.d (D.bool XO)]).w (show Good prog 149 [D.agg [D.str ([114]),D.int .i64 y1.2,D.sl (eS.map aH.c),D.sl (([]:List aL)++([[D.int .i64 Dv.2,D.str sN.2.rel,D.sl (pR.map tx)]]))]] (D.bool XO)from by first| (simpa only[b8,bC,bf,bX,bY]using fD h118)|exact fD h118| (have t:=fD h118;simp only[b8,bX,bY,aJ.c]at t;exact t)))
  obtain⟨h119,h⟩|⟨h119,h⟩:=aM h
  ·obtain⟨a0Y,h121,h⟩:=aB h;cases h;exact((yl.b h119).hp [[none,none,none],[none]] (sJ h121)).ret hΓ
  ·cases h;exact(yl.b h119).rts hΓ (D.iK [D.agg [D.str ([114]),D.int .i64 y1.2,D.fr 47 5 (eS.map aH.c),D.fr 167 3 (([]:List aL)++([[D.int .i64 Dv.2,D.str sN.2.rel,D.sl (pR.map tx)]]))],D.agg [D.sl (IU.1.b.map yx),D.int .i64 IU.1.i,D.int .i64 IU.1.h],D.val jr]) (by first|rfl| (simp only[mA]<;>rfl))
def js(aC:cU):Option (cU×aJ):=((oW aC 3).bind fun y1=>(bif y1.2 then((qX y1.1).bind fun y4=>(some (y4.1,y4.2)))else((mC y1.1 99).bind fun y6=>(some (y6.1,y6.2)))))
theorem El{aC:cU}{r:cU×aJ}(h:js aC=some r):jP prog 94 (cU.c aC) (cU.c r.1) [] (D.agg [D.str r.2.name,D.int .i64 r.2.prio,D.fr 47 5 (r.2.conds.map aH.c),D.fr 167 3 (r.2.cO.map Action.c)]):=by
 refine J9 func94 [[none,none,none],[none,none,some (47,5),some (167,3)]] 9 [D.sl (aC.b.map yx),D.int .i64 aC.i,D.int .i64 aC.h] [] [] fun hr jr Γ hΓ=>?_
 rw[js]at h;obtain⟨y1,h2,h⟩:=aB h;obtain⟨h3,h⟩|⟨h3,h⟩:=aM h
 ·obtain⟨y4,h5,h⟩:=aB h;cases h;exact(((aU.hp [[none,none,none],[none]] (nW h2)).b h3).hp [[none,none,none]] (CH h5)).ret hΓ
 ·obtain⟨y6,h7,h⟩:=aB h;cases h;exact(((aU.hp [[none,none,none],[none]] (nW h2)).b h3).hp [[none,none,none],[none]] (sJ h7)).ret hΓ
def kr(k1:bJ->Int->Int->au->Option (cU×au)):Nat->Int->bJ->Int->Int->au->Option (cU×au)
 |0,_,_,_,_,_=>none
 |n1+1,eF,dY,cj,ck,bZ=>(bif decide ((eF:Int)>0)then((js (⟨dY,cj,ck⟩:cU)).bind fun tA=>((lP eF).bind fun nR=>(bif decide (([114]:Bytes).length+(nR:Bytes).length<=maxLen)then(bif room ((bZ.map aJ.c).length+([[D.str (([114])++nR),D.int .i64 tA.2.prio,D.sl (tA.2.conds.map aH.c),D.sl (tA.2.cO.map Action.c)]]).length) 72 then(kr k1 n1 (IntKind.i64.wrap (eF-1)) tA.1.b tA.1.i tA.1.h (bZ++([(⟨([114])++nR,tA.2.prio,tA.2.conds,tA.2.cO⟩:aJ)])))else none)else none)))else(k1 dY cj ck bZ))
def uI(aC:cU)(aa:Int):Option (cU×au):=((dV aC (IntKind.i64.wrap (aa+1))).bind fun y1=>(kr (fun(jm:bJ) (jo:Int) (jq:Int) (oO:au)=>(some ((⟨jm,jo,jq⟩:cU),oO))) fuel y1.2 y1.1.b y1.1.i y1.1.h ([]:au)))
def Aj(jr:Value)(eF:Int)(cj:Int)(ck:Int)(W1:List aL)(W4:List aL):St:=⟨[(0,D.ptr 0 0),(5,D.acc 1),(6,D.int .i64 eF)],[Ob.BQ [D.sl W1,D.int .i64 cj,D.int .i64 ck] jr,Ob.row .uq 80 4 W4]⟩
theorem HQ(hΓ:Γ.nt=28){jr:Value}{r:cU×au}{k1:bJ->Int->Int->au->Option (cU×au)}(eR:∀(jm:bJ) (jo:Int) (jq:Int) (oO:au),k1 jm jo jq oO=some r->Ax Γ N f46 (.p [[none,none,none],[some (80,4)]] jr (cU.c r.1) (D.fr 80 4 (r.2.map aJ.c))) [1,1,1] ⟨[(5,D.acc 1)],[Ob.BQ [D.sl (jm.map yx),D.int .i64 jo,D.int .i64 jq] jr,Ob.row .uq 80 4 (oO.map aJ.c)]⟩):∀(n1:Nat) (eF:Int) (dY:bJ) (cj:Int) (ck:Int) (bZ:au),kr k1 n1 eF dY cj ck bZ=some r->Ar Γ N f46 (.p [[none,none,none],[some (80,4)]] jr (cU.c r.1) (D.fr 80 4 (r.2.map aJ.c))) [1,1,0,1,0] n1 (Aj jr eF cj ck (dY.map yx) (bZ.map aJ.c)):=by
 intro n
 induction n with
 |zero=>intro eF dY cj ck bZ h;simp[kr]at h
 |succ n1 ih1=>
  intro eF dY cj ck bZ h;rw[kr]at h;refine aR fun N1 cW cL=>?_
  obtain⟨h24,h⟩|⟨h24,h⟩:=aM h
  ·obtain⟨tA,h26,h⟩:=aB h;obtain⟨nR,h28,h⟩:=aB h;obtain⟨h29,h⟩:=bQ h;obtain⟨h30,h⟩:=bQ h;exact(((((((aU.b h24).a [.gp [[none,none,none]] (cU.c tA.1) (D.agg [D.str tA.2.name,D.int .i64 tA.2.prio,D.fr 47 5 (tA.2.conds.map aH.c),D.fr 167 3 (tA.2.cO.map Action.c)])]).w (show jP prog 94 (cU.c (⟨dY,cj,ck⟩:cU)) (cU.c tA.1) [] (D.agg [D.str tA.2.name,D.int .i64 tA.2.prio,D.fr 47 5 (tA.2.conds.map aH.c),D.fr 167 3 (tA.2.cO.map Action.c)])from by simpa only[b8,bC,bf,bX,bY]using El h26)).g (nh h28)).w (ay h29)).w (br h30)).a [.cn [0,5,6] [0,6]]).cs hΓ cL (Aj jr (IntKind.i64.wrap (eF-1)) tA.1.i tA.1.h (tA.1.b.map yx) ((bZ.map aJ.c)++([[D.str (([114])++nR),D.int .i64 tA.2.prio,D.sl (tA.2.conds.map aH.c),D.sl (tA.2.cO.map Action.c)]]))) (by first| (simp only[mA]<;>rfl)| (simp only[mA,aG.c,aQ.c,aH.c,Action.c,aJ.c,aX.c,dU.c,ai.c,Node.c,aN.c,dW.c]<;>rfl)) (ih1 (IntKind.i64.wrap (eF-1)) tA.1.b tA.1.i tA.1.h (bZ++([(⟨([114])++nR,tA.2.prio,tA.2.conds,tA.2.cO⟩:aJ)])) h)
  ·exact((aU.b h24).a [.hl 0 [5] [0,1]]).ex hΓ cW (eR dY cj ck bZ h)
theorem G6{aC:cU}{aa:Int}{r:cU×au}(h:uI aC aa=some r):jP prog 46 (cU.c aC) (cU.c r.1) [D.int .i64 aa] (D.fr 80 4 (r.2.map aJ.c)):=by
 refine J9 func46 [[none,none,none],[some (80,4)]] 28 [D.sl (aC.b.map yx),D.int .i64 aC.i,D.int .i64 aC.h] [D.int .i64 aa] [] fun hr jr Γ hΓ=>?_
 rw[uI]at h;obtain⟨y1,h2,h⟩:=aB h;refine((aU.hp [[none,none,none],[none]] (dB h2)).a [.cn [0,5,6] [0,1]]).lp hΓ (HQ hΓ (fun jm jo jq oO h=>?_) fuel y1.2 y1.1.b y1.1.i y1.1.h ([]:au) h);cases h;exact aU.ret hΓ
def jg(y1:cU×(Bytes×Int))(k1:bJ->Int->Int->aF->Option (cU×aG)):Nat->Int->bJ->Int->Int->aF->Option (cU×aG)
 |0,_,_,_,_,_=>none
 |n1+1,eF,dY,cj,ck,cX=>(bif decide ((eF:Int)<y1.2.2)then((hO (⟨dY,cj,ck⟩:cU)).bind fun vz=>(bif room ((cX.map tx).length+([[D.str vz.2]]).length) 16 then(jg y1 k1 n1 (IntKind.i64.wrap (eF+1)) vz.1.b vz.1.i vz.1.h (cX++([vz.2])))else none))else(k1 dY cj ck cX))
def qi(aC:cU):Option (cU×aG):=((oK aC).bind fun y1=>(jg y1 (fun(jm:bJ) (jo:Int) (jq:Int) (eS:aF)=>(some ((⟨jm,jo,jq⟩:cU),(⟨y1.2.1,eS⟩:aG)))) fuel 0 y1.1.b y1.1.i y1.1.h ([]:aF)))
def zQ(jr:Value)(y1:cU×(Bytes×Int))(eF:Int)(cj:Int)(ck:Int)(W1:List aL)(W4:List aL):St:=⟨[(0,D.ptr 0 0),(2,D.ptr 1 0),(4,D.int .i64 y1.2.2),(5,D.ptr 2 0),(6,D.int .i64 eF)],[Ob.BQ [D.sl W1,D.int .i64 cj,D.int .i64 ck] jr,Ob.box [D.str ([]),D.nil],Ob.box [D.str y1.2.1,D.acc 3],Ob.row .uq 9 1 W4]⟩
theorem Fz(hΓ:Γ.nt=27){jr:Value}{y1:cU×(Bytes×Int)}{r:cU×aG}{k1:bJ->Int->Int->aF->Option (cU×aG)}(eR:∀(jm:bJ) (jo:Int) (jq:Int) (eS:aF),k1 jm jo jq eS=some r->Ax Γ N f96 (.p [[none,none,none],[none,some (9,1)]] jr (cU.c r.1) (D.agg [D.str r.2.rel,D.fr 9 1 (r.2.args.map tx)])) [1,1,1,1] ⟨[(2,D.ptr 1 0),(5,D.ptr 2 0)],[Ob.BQ [D.sl (jm.map yx),D.int .i64 jo,D.int .i64 jq] jr,Ob.box [D.str ([]),D.nil],Ob.box [D.str y1.2.1,D.acc 3],Ob.row .uq 9 1 (eS.map tx)]⟩):∀(n1:Nat) (eF:Int) (dY:bJ) (cj:Int) (ck:Int) (cX:aF),jg y1 k1 n1 eF dY cj ck cX=some r->Ar Γ N f96 (.p [[none,none,none],[none,some (9,1)]] jr (cU.c r.1) (D.agg [D.str r.2.rel,D.fr 9 1 (r.2.args.map tx)])) [1,1,1,0,1,0] n1 (zQ jr y1 eF cj ck (dY.map yx) (cX.map tx)):=by
 intro n
 induction n with
 |zero=>intro eF dY cj ck cX h;simp[jg]at h
 |succ n1 ih1=>
  intro eF dY cj ck cX h;rw[jg]at h;refine aR fun N1 cW cL=>?_
  obtain⟨h27,h⟩|⟨h27,h⟩:=aM h
  ·obtain⟨vz,h31,h⟩:=aB h;obtain⟨h32,h⟩:=bQ h;exact(((((aU.b h27).a [.n2 [0,1,2,3,4,5,6,7] [0,1,2,3,4,5,6,7] 3 5 [0,1] [0],.gp [[none,none,none]] (cU.c vz.1) (D.str vz.2)]).w (show jP prog 157 (cU.c (⟨dY,cj,ck⟩:cU)) (cU.c vz.1) [] (D.str vz.2)from by simpa only[b8,bC,bf,bX,bY]using tF h31)).w (br h32)).a [.cn [0,2,4,5,6] [0,1,2,5]]).cs hΓ cL (zQ jr y1 (IntKind.i64.wrap (eF+1)) vz.1.i vz.1.h (vz.1.b.map yx) ((cX.map tx)++([[D.str vz.2]]))) (by first| (simp only[mA]<;>rfl)| (simp only[mA,aG.c,aQ.c,aH.c,Action.c,aJ.c,aX.c,dU.c,ai.c,Node.c,aN.c,dW.c]<;>rfl)) (ih1 (IntKind.i64.wrap (eF+1)) vz.1.b vz.1.i vz.1.h (cX++([vz.2])) h)
  ·exact((aU.b h27).a [.hl 0 [2,5] [0,1,2,3]]).ex hΓ cW (eR dY cj ck cX h)
theorem Eg{aC:cU}{r:cU×aG}(h:qi aC=some r):jP prog 96 (cU.c aC) (cU.c r.1) [] (D.agg [D.str r.2.rel,D.fr 9 1 (r.2.args.map tx)]):=by
 refine J9 func96 [[none,none,none],[none,some (9,1)]] 27 [D.sl (aC.b.map yx),D.int .i64 aC.i,D.int .i64 aC.h] [] [] fun hr jr Γ hΓ=>?_
 rw[qi]at h;obtain⟨y1,h2,h⟩:=aB h;refine((aU.hp [[none,none,none]] (yL h2)).a [.pb 2 1 9 1,.cn [0,2,4,5,6] [0,1,2,3]]).lp hΓ (Fz hΓ (fun jm jo jq eS h=>?_) fuel 0 y1.1.b y1.1.i y1.1.h ([]:aF) h);cases h;exact aU.ret hΓ
def py(aC:Bytes)(aa:Bytes):Option Int:=(bif Op.bytesLess aC aa then(some (-1))else(bif !(Op.bytesLess aC aa||(aC:Bytes)==aa)then(some 1)else(some 0)))
theorem uE{aC:Bytes}{aa:Bytes}{r:Int}(h:py aC aa=some r):Good prog 199 [D.str aC,D.str aa] (D.int .i64 r):=by
 refine gd func199 [[none]] 13 fun hr Γ hΓ=>?_
 rw[py]at h;obtain⟨h1,h⟩|⟨h1,h⟩:=aM h
 ·cases h;exact(aU.b h1).ret hΓ
 ·obtain⟨h2,h⟩|⟨h2,h⟩:=aM h
  ·have h:=aK h;subst h;exact((aU.b h1).b h2).ret hΓ
  ·have h:=aK h;subst h;exact((aU.b h1).b h2).ret hΓ
def iU(aC:Bytes)(aa:Bytes):Option Int:=((kn aC).bind fun y1=>((kn aa).bind fun y3=>(bif y1.2 then(bif y3.2 then(bif decide ((y1.1:Int)<y3.1)then(some (-1))else(bif !(y3.2)then(some (-1))else(bif decide ((y1.1:Int)>y3.1)then(some 1)else(bif !(y1.2)then(some 1)else(some 0)))))else(bif !(y3.2)then(some (-1))else(some 0)))else(bif y3.2 then(bif !(y1.2)then(some 1)else((py aC aa).bind fun Im=>(some Im)))else((py aC aa).bind fun LG=>(some LG))))))
theorem sS{aC:Bytes}{aa:Bytes}{r:Int}(h:iU aC aa=some r):Good prog 200 [D.str aC,D.str aa] (D.int .i64 r):=by
 refine gd func200 [[none]] 54 fun hr Γ hΓ=>?_
 rw[iU]at h;obtain⟨y1,h2,h⟩:=aB h;obtain⟨y3,h4,h⟩:=aB h;have oa:=((aU.g (oH h2)).g (oH h4))
 obtain⟨h5,h⟩|⟨h5,h⟩:=aM h
 ·have ig:=(oa.r 2 h5)
  obtain⟨h6,h⟩|⟨h6,h⟩:=aM h
  ·have lC:=(ig.r 4 h6)
   obtain⟨h7,h⟩|⟨h7,h⟩:=aM h
   ·cases h;exact(lC.r 2 h7).ret hΓ
   ·have kw:=((lC.b h7).r 3 h5)
    obtain⟨h8,h⟩|⟨h8,h⟩:=aM h
    ·cases h;exact(kw.b h8).ret hΓ
    ·have rR:=(((kw.b h8).r 2 h5).r 4 h6)
     obtain⟨h9,h⟩|⟨h9,h⟩:=aM h
     ·have h:=aK h;subst h;exact(rR.r 2 h9).ret hΓ
     ·have vT:=((rR.b h9).r 3 h6)
      obtain⟨h10,h⟩|⟨h10,h⟩:=aM h
      ·have h:=aK h;subst h;exact(vT.b h10).ret hΓ
      ·have h:=aK h;subst h;exact((vT.b h10).b h5).ret hΓ
  ·have yl:=(((ig.r 4 h6).F 1).r 3 h5)
   obtain⟨h11,h⟩|⟨h11,h⟩:=aM h
   ·cases h;exact(yl.b h11).ret hΓ
   ·have h:=aK h;subst h;exact(((((((yl.b h11).r 2 h5).r 4 h6).F 1).r 3 h6).F 1).b h5).ret hΓ
 ·have E6:=((((((oa.r 2 h5).F 5).r 3 h5).F 1).r 2 h5).F 5)
  obtain⟨h12,h⟩|⟨h12,h⟩:=aM h
  ·have Je:=(E6.r 3 h12)
   obtain⟨h13,h⟩|⟨h13,h⟩:=aM h
   ·have h:=aK h;subst h;exact(Je.b h13).ret hΓ
   ·obtain⟨Im,h15,h⟩:=aB h;have h:=aK h;subst h;exact(((Je.b h13).b h5).g (uE h15)).ret hΓ
  ·obtain⟨LG,h17,h⟩:=aB h;have h:=aK h;subst h;exact((((E6.r 3 h12).F 1).b h5).g (uE h17)).ret hΓ
def iE(aC:aG)(aa:aG)(k1:Option Int):aF->Nat->Option Int
 | [],i1=>(k1)
 |bh::cV,i1=>(bif decide (((i1:Int):Int)<((aa.args.map tx).length:Int))then((iM aa.args (i1:Int)).bind fun x37=>((iU bh x37).bind fun D5=>(bif (D5:Int) != 0 then(some D5)else(iE aC aa k1 cV (i1+1)))))else(k1))
def gM(aC:aG)(aa:aG):Option Int:=(bif !((aC.rel:Bytes)==aa.rel)then((py aC.rel aa.rel).bind fun y2=>(some y2))else(iE aC aa (bif decide ((((aC.args.map tx).length:Int):Int)<((aa.args.map tx).length:Int))then(some (-1))else(bif decide ((((aC.args.map tx).length:Int):Int)>((aa.args.map tx).length:Int))then(some 1)else(some 0))) aC.args 0))
def AI(aC:aG)(aa:aG)(dQ:Int):St:=⟨[(2,D.ptr 0 0),(3,D.ptr 1 0),(5,D.int .i64 dQ)],[Ob.box (aG.c aC),Ob.box (aG.c aa)]⟩
theorem zK(hΓ:Γ.nt=61){aC:aG}{aa:aG}{r:Int}{k1:Option Int}(eR:k1=some r->Ax Γ N f135 (.q [[none]] (D.int .i64 r)) [1,1,1] ⟨[(2,D.ptr 0 0),(3,D.ptr 1 0)],[Ob.box (aG.c aC),Ob.box (aG.c aa)]⟩)(hm1:aC.args.length<=maxLen):∀(rest:aF) (i1:Nat),aC.args.drop i1=rest->iE aC aa k1 rest i1=some r->Ar Γ N f135 (.q [[none]] (D.int .i64 r)) [1,1,0,1,0] (rest.length+1) (AI aC aa (i1:Int)):=by
 intro rest
 induction rest with
 |nil=>
  intro i1 bA h;rw[iE]at h;refine aR fun N1 cW cL=>?_
  exact((((((((aU.ge tx bA).ge tx bA).ge tx bA).ge tx bA).ge tx bA).ge tx bA).F 1).a [.hl 0 [2,3] [0,1]]).ex hΓ cW (eR h)
 |cons bh cV ih1=>
  intro i1 bA h;rw[iE]at h;refine aR fun N1 cW cL=>?_
  have lC:=((((((aU.lt tx bA).lt tx bA).lt tx bA).lt tx bA).lt tx bA).lt tx bA)
  obtain⟨h36,h⟩|⟨h36,h⟩:=aM h
  ·obtain⟨x37,h38,h⟩:=aB h;obtain⟨D5,h40,h⟩:=aB h;have kw:=(((((lC.b h36).a [.n 10]).l (bI tx 1 (dc bA) rfl)).l (iN tx 1 h38 rfl)).g (sS h40))
   obtain⟨h41,h⟩|⟨h41,h⟩:=aM h
   ·have h:=aK h;subst h;exact(kw.b h41).ret hΓ
   ·exact((kw.b h41).a [.cn [2,3,5] [0,1]]).ct hΓ cL (iS bA hm1) (ih1 (i1+1) (dn bA) h)
  ·exact((lC.b h36).a [.hl 0 [2,3] [0,1]]).ex hΓ cW (eR h)
theorem sU{aC:aG}{aa:aG}{r:Int}(h:gM aC aa=some r):Good prog 135 [D.agg (aG.c aC),D.agg (aG.c aa)] (D.int .i64 r):=by
 refine gd func135 [[none]] 61 fun hr Γ hΓ=>?_
 rw[gM]at h;obtain⟨h1,h⟩|⟨h1,h⟩:=aM h
 ·obtain⟨y2,h3,h⟩:=aB h;have h:=aK h;subst h;exact((aU.b h1).g (uE h3)).ret hΓ
 ·refine((aU.b h1).a [.cn [2,3,5] [0,1]]).lp hΓ (zK hΓ (fun h=>?_) (by have:=(j0.sl (j0.agg (hr _ (aD (i:=0) rfl)) (.sl (aC.args.map tx)) (by simp))).1;simpa using this) aC.args 0 rfl h);obtain⟨h42,h⟩|⟨h42,h⟩:=aM h
  ·cases h;exact(aU.b h42).ret hΓ
  ·obtain⟨h43,h⟩|⟨h43,h⟩:=aM h
   ·have h:=aK h;subst h;exact((aU.b h42).b h43).ret hΓ
   ·have h:=aK h;subst h;exact((aU.b h42).b h43).ret hΓ
def pM(aC:aF):Option aF:=(bif room (([]:List aL).length+(aC.map tx).length) 16 then(some (([]:aF)++aC))else none)
theorem wI{aC:aF}{r:aF}(h:pM aC=some r):Good prog 194 [D.sl (aC.map tx)] (D.fr 9 1 (r.map tx)):=by
 refine gd func194 [[some (9,1)]] 6 fun hr Γ hΓ=>?_
 rw[pM]at h;obtain⟨h1,h⟩:=bQ h;cases h;exact(((aU.w (br h1)).w (show(∀r∈(aC.map tx),r.length=1)/\(true=true->D.pO (aC.map tx)=true)from⟨by first|simp| (intro r hr;obtain⟨x,_,rfl⟩:=cJ.1 (cD (jO hr));rfl),by simp[D.pO,D.flat]⟩)).a [.Jk 2,.fl true]).rts hΓ (D.fr 9 1 (([]:List aL)++(aC.map tx))) (by first|rfl| (simp only[mA]<;>rfl))
def eV(aC:aG):Option aG:=((pM aC.args).bind fun y1=>(some (⟨aC.rel,y1⟩:aG)))
theorem gD{aC:aG}{r:aG}(h:eV aC=some r):Good prog 129 [D.agg (aG.c aC)] (D.agg [D.str r.rel,D.fr 9 1 (r.args.map tx)]):=by
 refine gd func129 [[none,some (9,1)]] 9 fun hr Γ hΓ=>?_
 rw[eV]at h;obtain⟨y1,h2,h⟩:=aB h;cases h;exact((aU.a [.n 5]).g (wI h2)).ret hΓ
def cR(aC:aO)(aa:aG)(k1:Bool->aO->Option aO):aO->Nat->Bool->aO->Option aO
 | [],i1,eF,bZ=>(k1 eF bZ)
 |bh::cV,i1,eF,bZ=>(bif !(eF)then((gM bh aa).bind fun a35=>(bif decide ((a35:Int)>=0)then((gM bh aa).bind fun a36=>(bif decide ((a36:Int)>0)then((eV aa).bind fun MT=>(bif room ((bZ.map aG.c).length+([[D.str MT.rel,D.sl (MT.args.map tx)]]).length) 40 then((eV bh).bind fun PY=>(bif room (((bZ.map aG.c)++([[D.str MT.rel,D.sl (MT.args.map tx)]])).length+([[D.str PY.rel,D.sl (PY.args.map tx)]]).length) 40 then(cR aC aa k1 cV (i1+1) true ((bZ++([MT]))++([PY])))else none))else none))else((eV bh).bind fun PZ=>(bif room ((bZ.map aG.c).length+([[D.str PZ.rel,D.sl (PZ.args.map tx)]]).length) 40 then(cR aC aa k1 cV (i1+1) true (bZ++([PZ])))else none))))else((eV bh).bind fun Pa=>(bif room ((bZ.map aG.c).length+([[D.str Pa.rel,D.sl (Pa.args.map tx)]]).length) 40 then(cR aC aa k1 cV (i1+1) eF (bZ++([Pa])))else none))))else((eV bh).bind fun yF=>(bif room ((bZ.map aG.c).length+([[D.str yF.rel,D.sl (yF.args.map tx)]]).length) 40 then(cR aC aa k1 cV (i1+1) eF (bZ++([yF])))else none)))
def q8(aC:aO)(aa:aG):Option aO:=(cR aC aa (fun(Co:Bool) (oO:aO)=>(bif !(Co)then((eV aa).bind fun S0=>(bif room ((oO.map aG.c).length+([[D.str S0.rel,D.sl (S0.args.map tx)]]).length) 40 then(some (oO++([S0])))else none))else(some oO))) aC 0 false ([]:aO))
def qV(aC:aO)(aa:aG)(eF:Bool)(W1:List aL)(dQ:Int):St:=⟨[(0,D.sl (aC.map aG.c)),(3,D.ptr 0 0),(5,D.acc 1),(6,D.bool eF),(7,D.int .i64 dQ)],[Ob.box (aG.c aa),Ob.row .uq 37 2 W1]⟩
theorem HN(hΓ:Γ.nt=54){aC:aO}{aa:aG}{r:aO}{k1:Bool->aO->Option aO}(eR:∀(Co:Bool) (oO:aO),k1 Co oO=some r->Ax Γ N f86 (.q [[some (37,2)]] (D.fr 37 2 (r.map aG.c))) [1,1,1,1] ⟨[(3,D.ptr 0 0),(5,D.acc 1),(6,D.bool Co)],[Ob.box (aG.c aa),Ob.row .uq 37 2 (oO.map aG.c)]⟩)(hm1:aC.length<=maxLen):∀(rest:aO) (i1:Nat) (eF:Bool) (bZ:aO),aC.drop i1=rest->cR aC aa k1 rest i1 eF bZ=some r->Ar Γ N f86 (.q [[some (37,2)]] (D.fr 37 2 (r.map aG.c))) [1,1,1,0,1,0] (rest.length+1) (qV aC aa eF (bZ.map aG.c) (i1:Int)):=by
 intro rest
 induction rest with
 |nil=>
  intro i1 eF bZ bA h;rw[cR]at h;refine aR fun N1 cW cL=>?_
  exact((aU.ge aG.c bA).a [.hl 0 [3,5,6] [0,1]]).ex hΓ cW (eR eF bZ h)
 |cons bh cV ih1=>
  intro i1 eF bZ bA h;rw[cR]at h;refine aR fun N1 cW cL=>?_
  have kw:=((aU.lt aG.c bA).a [.n 8])
  obtain⟨h128,h⟩|⟨h128,h⟩:=aM h
  ·obtain⟨a35,h130,h⟩:=aB h;have rR:=(((((kw.r 3 h128).l (bI aG.c 2 (dc bA) rfl)).r 3 h128).g (sU h130)).r 2 h128)
   obtain⟨h131,h⟩|⟨h131,h⟩:=aM h
   ·obtain⟨a36,h133,h⟩:=aB h;have vT:=((((rR.b h131).a [.n 5]).l (bI aG.c 2 (dc bA) rfl)).g (sU h133))
    obtain⟨h134,h⟩|⟨h134,h⟩:=aM h
    ·obtain⟨MT,h136,h⟩:=aB h;obtain⟨h137,h⟩:=bQ h;obtain⟨PY,h139,h⟩:=aB h;obtain⟨h140,h⟩:=bQ h;exact(((((((vT.b h134).g (gD h136)).w (br h137)).l (bI aG.c 2 (dc bA) rfl)).g (gD h139)).w (br h140)).a [.cn [0,3,5,6,7] [0,7]]).cs hΓ cL (qV aC aa true (((bZ.map aG.c)++([[D.str MT.rel,D.sl (MT.args.map tx)]]))++([[D.str PY.rel,D.sl (PY.args.map tx)]])) (IntKind.i64.wrap ((i1:Int)+1))) (by first| (simp only[iS bA hm1,mA]<;>rfl)| (simp only[iS bA hm1,mA,aG.c,aQ.c,aH.c,Action.c,aJ.c,aX.c,dU.c,ai.c,Node.c,aN.c,dW.c]<;>rfl)) (ih1 (i1+1) true ((bZ++([MT]))++([PY])) (dn bA) h)
    ·obtain⟨PZ,h142,h⟩:=aB h;obtain⟨h143,h⟩:=bQ h;exact(((((vT.b h134).l (bI aG.c 2 (dc bA) rfl)).g (gD h142)).w (br h143)).a [.cn [0,3,5,6,7] [0,4]]).cs hΓ cL (qV aC aa true ((bZ.map aG.c)++([[D.str PZ.rel,D.sl (PZ.args.map tx)]])) (IntKind.i64.wrap ((i1:Int)+1))) (by first| (simp only[iS bA hm1,mA]<;>rfl)| (simp only[iS bA hm1,mA,aG.c,aQ.c,aH.c,Action.c,aJ.c,aX.c,dU.c,ai.c,Node.c,aN.c,dW.c]<;>rfl)) (ih1 (i1+1) true (bZ++([PZ])) (dn bA) h)
   ·obtain⟨Pa,h145,h⟩:=aB h;obtain⟨h146,h⟩:=bQ h;exact(((((rR.b h131).l (bI aG.c 2 (dc bA) rfl)).g (gD h145)).w (br h146)).a [.cn [0,3,5,6,7] [0,4]]).cs hΓ cL (qV aC aa eF ((bZ.map aG.c)++([[D.str Pa.rel,D.sl (Pa.args.map tx)]])) (IntKind.i64.wrap ((i1:Int)+1))) (by first| (simp only[iS bA hm1,mA]<;>rfl)| (simp only[iS bA hm1,mA,aG.c,aQ.c,aH.c,Action.c,aJ.c,aX.c,dU.c,ai.c,Node.c,aN.c,dW.c]<;>rfl)) (ih1 (i1+1) eF (bZ++([Pa])) (dn bA) h)
  ·obtain⟨yF,h148,h⟩:=aB h;obtain⟨h149,h⟩:=bQ h;exact((((((kw.r 8 h128).F 1).l (bI aG.c 2 (dc bA) rfl)).g (gD h148)).w (br h149)).a [.cn [0,3,5,6,7] [0,4]]).cs hΓ cL (qV aC aa eF ((bZ.map aG.c)++([[D.str yF.rel,D.sl (yF.args.map tx)]])) (IntKind.i64.wrap ((i1:Int)+1))) (by first| (simp only[iS bA hm1,mA]<;>rfl)| (simp only[iS bA hm1,mA,aG.c,aQ.c,aH.c,Action.c,aJ.c,aX.c,dU.c,ai.c,Node.c,aN.c,dW.c]<;>rfl)) (ih1 (i1+1) eF (bZ++([yF])) (dn bA) h)
theorem G0{aC:aO}{aa:aG}{r:aO}(h:q8 aC aa=some r):Good prog 86 [D.sl (aC.map aG.c),D.agg (aG.c aa)] (D.fr 37 2 (r.map aG.c)):=by
 refine gd func86 [[some (37,2)]] 54 fun hr Γ hΓ=>?_
 rw[q8]at h;refine(aU.a [.cn [0,3,5,6,7] [0,1]]).lp hΓ (HN hΓ (fun Co oO h=>?_) (by have:=(j0.sl (hr _ (aD (i:=0) rfl))).1;simpa using this) aC 0 false ([]:aO) rfl h);obtain⟨h150,h⟩|⟨h150,h⟩:=aM h
 ·obtain⟨S0,h152,h⟩:=aB h;obtain⟨h153,h⟩:=bQ h;cases h;exact(((aU.b h150).g (gD h152)).w (br h153)).rts hΓ (D.fr 37 2 ((oO.map aG.c)++([[D.str S0.rel,D.sl (S0.args.map tx)]]))) (by first|rfl| (simp only[mA]<;>rfl))
 ·have h:=aK h;subst h;exact(aU.b h150).ret hΓ
def kp(k1:bJ->Int->Int->aO->Option (cU×aO)):Nat->Int->bJ->Int->Int->aO->Option (cU×aO)
 |0,_,_,_,_,_=>none
 |n1+1,eF,dY,cj,ck,bZ=>(bif decide ((eF:Int)>0)then((qi (⟨dY,cj,ck⟩:cU)).bind fun Nz=>((q8 bZ Nz.2).bind fun Pb=>(kp k1 n1 (IntKind.i64.wrap (eF-1)) Nz.1.b Nz.1.i Nz.1.h Pb)))else(k1 dY cj ck bZ))
def uG(aC:cU)(aa:Int):Option (cU×aO):=((dV aC (IntKind.i64.wrap (aa+1))).bind fun y1=>(kp (fun(jm:bJ) (jo:Int) (jq:Int) (oO:aO)=>(some ((⟨jm,jo,jq⟩:cU),oO))) fuel y1.2 y1.1.b y1.1.i y1.1.h ([]:aO)))
def II(jr:Value)(eF:Int)(cj:Int)(ck:Int)(W1:List aL)(W4:List aL):St:=⟨[(0,D.ptr 0 0),(5,D.acc 1),(6,D.int .i64 eF)],[Ob.BQ [D.sl W1,D.int .i64 cj,D.int .i64 ck] jr,Ob.row .uq 37 2 W4]⟩
theorem HO(hΓ:Γ.nt=21){jr:Value}{r:cU×aO}{k1:bJ->Int->Int->aO->Option (cU×aO)}(eR:∀(jm:bJ) (jo:Int) (jq:Int) (oO:aO),k1 jm jo jq oO=some r->Ax Γ N f47 (.p [[none,none,none],[some (37,2)]] jr (cU.c r.1) (D.fr 37 2 (r.2.map aG.c))) [1,1,1] ⟨[(5,D.acc 1)],[Ob.BQ [D.sl (jm.map yx),D.int .i64 jo,D.int .i64 jq] jr,Ob.row .uq 37 2 (oO.map aG.c)]⟩):∀(n1:Nat) (eF:Int) (dY:bJ) (cj:Int) (ck:Int) (bZ:aO),kp k1 n1 eF dY cj ck bZ=some r->Ar Γ N f47 (.p [[none,none,none],[some (37,2)]] jr (cU.c r.1) (D.fr 37 2 (r.2.map aG.c))) [1,1,0,1,0] n1 (II jr eF cj ck (dY.map yx) (bZ.map aG.c)):=by
 intro n
 induction n with
 |zero=>intro eF dY cj ck bZ h;simp[kp]at h
 |succ n1 ih1=>
  intro eF dY cj ck bZ h;rw[kp]at h;refine aR fun N1 cW cL=>?_
  obtain⟨h18,h⟩|⟨h18,h⟩:=aM h
  ·obtain⟨Nz,h20,h⟩:=aB h;obtain⟨Pb,h22,h⟩:=aB h;exact(((((aU.b h18).a [.gp [[none,none,none]] (cU.c Nz.1) (D.agg [D.str Nz.2.rel,D.fr 9 1 (Nz.2.args.map tx)])]).w (show jP prog 96 (cU.c (⟨dY,cj,ck⟩:cU)) (cU.c Nz.1) [] (D.agg [D.str Nz.2.rel,D.fr 9 1 (Nz.2.args.map tx)])from by simpa only[b8,bC,bf,bX,bY]using Eg h20)).g (G0 h22)).a [.cn [0,5,6] [0,3]]).cf hΓ cL (ih1 (IntKind.i64.wrap (eF-1)) Nz.1.b Nz.1.i Nz.1.h Pb h)
  ·exact((aU.b h18).a [.hl 0 [5] [0,1]]).ex hΓ cW (eR dY cj ck bZ h)
theorem G1{aC:cU}{aa:Int}{r:cU×aO}(h:uG aC aa=some r):jP prog 47 (cU.c aC) (cU.c r.1) [D.int .i64 aa] (D.fr 37 2 (r.2.map aG.c)):=by
 refine J9 func47 [[none,none,none],[some (37,2)]] 21 [D.sl (aC.b.map yx),D.int .i64 aC.i,D.int .i64 aC.h] [D.int .i64 aa] [] fun hr jr Γ hΓ=>?_
 rw[uG]at h;obtain⟨y1,h2,h⟩:=aB h;refine((aU.hp [[none,none,none],[none]] (dB h2)).a [.cn [0,5,6] [0,1]]).lp hΓ (HO hΓ (fun jm jo jq oO h=>?_) fuel y1.2 y1.1.b y1.1.i y1.1.h ([]:aO) h);cases h;exact aU.ret hΓ
def fP(aC:Bytes)(k1:Option Bool):Nat->Int->Option Bool
 |0,_=>none
 |n1+1,kx=>(bif decide ((kx:Int)<(aC.length:Int))then((iM aC kx).bind fun Yp=>(bif decide ((Yp.toNat:Int)<97)then(bif decide ((Yp.toNat:Int)<48)then(some false)else(bif decide ((Yp.toNat:Int)>57)then(some false)else(fP aC k1 n1 (IntKind.i64.wrap (kx+1)))))else(bif decide ((Yp.toNat:Int)>122)then(bif decide ((Yp.toNat:Int)<48)then(some false)else(bif decide ((Yp.toNat:Int)>57)then(some false)else(fP aC k1 n1 (IntKind.i64.wrap (kx+1)))))else(fP aC k1 n1 (IntKind.i64.wrap (kx+1))))))else(k1))
def ez(aC:Bytes):Option Bool:=(bif decide (((aC.length:Int):Int)<1)then(some false)else(bif decide (((aC.length:Int):Int)>8)then(some false)else(fP aC (some true) fuel 0)))
def H6(aC:Bytes)(kx:Int):St:=⟨[(0,D.str aC),(3,D.int .i64 kx)],[]⟩
theorem FU(hΓ:Γ.nt=40){aC:Bytes}{r:Bool}{k1:Option Bool}(eR:k1=some r->Ax Γ N f174 (.q [[none]] (D.bool r)) [1,1,1] ⟨[],[]⟩):∀(n1:Nat) (kx:Int),fP aC k1 n1 kx=some r->Ar Γ N f174 (.q [[none]] (D.bool r)) [1,1,0,1,0] n1 (H6 aC kx):=by
 intro n
 induction n with
 |zero=>intro kx h;simp[fP]at h
 |succ n1 ih1=>
  intro kx h;rw[fP]at h;refine aR fun N1 cW cL=>?_
  obtain⟨h30,h⟩|⟨h30,h⟩:=aM h
  ·obtain⟨Yp,h32,h⟩:=aB h;have yl:=((aU.b h30).c h32)
   obtain⟨h33,h⟩|⟨h33,h⟩:=aM h
   ·have E6:=((((yl.r 5 h33).T 3).c h32).T 2)
    obtain⟨h34,h⟩|⟨h34,h⟩:=aM h
    ·have h:=aK h;subst h;exact((((E6.r 4 h34).T 1).b h34).T 2).ret hΓ
    ·have Je:=((((((E6.r 3 h34).c h32).b h34).T 1).b h34).T 1)
     obtain⟨h35,h⟩|⟨h35,h⟩:=aM h
     ·have h:=aK h;subst h;exact(Je.b h35).ret hΓ
     ·exact((Je.b h35).a [.cn [0,3] []]).cf hΓ cL (ih1 (IntKind.i64.wrap (kx+1)) h)
   ·have Ca:=(((yl.r 3 h33).c h32).r 2 h33)
    obtain⟨h36,h⟩|⟨h36,h⟩:=aM h
    ·have Jc:=(((Ca.r 3 h36).c h32).r 2 h36)
     obtain⟨h37,h⟩|⟨h37,h⟩:=aM h
     ·have h:=aK h;subst h;exact(((((Jc.r 4 h37).b h36).b h37).b h36).T 1).ret hΓ
     ·have F3:=((((((Jc.r 3 h37).c h32).b h37).b h36).b h37).b h36)
      obtain⟨h38,h⟩|⟨h38,h⟩:=aM h
      ·have h:=aK h;subst h;exact(F3.b h38).ret hΓ
      ·exact((F3.b h38).a [.cn [0,3] []]).cf hΓ cL (ih1 (IntKind.i64.wrap (kx+1)) h)
    ·exact(((Ca.r 7 h36).F 1).a [bF,bF,bF,bF,.cn [0,3] []]).cf hΓ cL (ih1 (IntKind.i64.wrap (kx+1)) h)
  ·exact((aU.b h30).a [.hl 0 [] []]).ex hΓ cW (eR h)
theorem eM{aC:Bytes}{r:Bool}(h:ez aC=some r):Good prog 174 [D.str aC] (D.bool r):=by
 refine gd func174 [[none]] 40 fun hr Γ hΓ=>?_
 rw[ez]at h;obtain⟨h1,h⟩|⟨h1,h⟩:=aM h
 ·have h:=aK h;subst h;exact((aU.r 4 h1).T 1).ret hΓ
 ·have GX:=(aU.r 4 h1)
  obtain⟨h2,h⟩|⟨h2,h⟩:=aM h
  ·have h:=aK h;subst h;exact(GX.b h2).ret hΓ
  ·refine((GX.b h2).a [.cn [0,3] []]).lp hΓ (FU hΓ (fun h=>?_) fuel 0 h);have h:=aK h;subst h;exact aU.ret hΓ
def oS(aC:Bytes):Option Bool:=((ez aC).bind fun y1=>(bif y1 then((iM aC 0).bind fun b4=>(some (decide ((b4.toNat:Int)>=97))))else(some false)))
theorem lF{aC:Bytes}{r:Bool}(h:oS aC=some r):Good prog 158 [D.str aC] (D.bool r):=by
 refine gd func158 [[none]] 10 fun hr Γ hΓ=>?_
 rw[oS]at h;obtain⟨y1,h2,h⟩:=aB h;obtain⟨h3,h⟩|⟨h3,h⟩:=aM h
 ·obtain⟨b4,h5,h⟩:=aB h;cases h;exact((((aU.g (eM h2)).r 2 h3).c h5).r 2 h3).ret hΓ
 ·have h:=aK h;subst h;exact((aU.g (eM h2)).r 4 h3).ret hΓ
def jy(aC:Bytes):Option Bool:=(bif decide (((aC.length:Int):Int)>1)then((iM aC 0).bind fun b2=>(bif (b2.toNat:Int)==63 then((yE aC.length (some (D.int .i64 1)) none).bind fun p=>(fun l5 u6=>((ez ((aC.take u6).drop l5)).bind fun y8=>(some y8))) p.1 p.2)else(some false)))else(some false))
theorem mK{aC:Bytes}{r:Bool}(h:jy aC=some r):Good prog 187 [D.str aC] (D.bool r):=by
 refine gd func187 [[none]] 16 fun hr Γ hΓ=>?_
 rw[jy]at h;obtain⟨h1,h⟩|⟨h1,h⟩:=aM h
 ·obtain⟨b2,h3,h⟩:=aB h;have oa:=(((aU.r 2 h1).c h3).r 2 h1)
  obtain⟨h4,h⟩|⟨h4,h⟩:=aM h
  ·obtain⟨⟨l5,u6⟩,h7,h⟩:=aB h;obtain⟨y8,h9,h⟩:=aB h;have h:=aK h;subst h;exact((((((oa.r 2 h4).w h7).a [.cut l5 u6]).b h4).g (eM h9)).b h4).ret hΓ
  ·have h:=aK h;subst h;exact(oa.r 4 h4).ret hΓ
 ·have h:=aK h;subst h;exact((aU.r 4 h1).F 4).ret hΓ
def gx(aC:Bytes):Option Bool:=((ez aC).bind fun y1=>(bif y1 then(some true)else((jy aC).bind fun y4=>(some y4))))
theorem jA{aC:Bytes}{r:Bool}(h:gx aC=some r):Good prog 179 [D.str aC] (D.bool r):=by
 refine gd func179 [[none]] 9 fun hr Γ hΓ=>?_
 rw[gx]at h;obtain⟨y1,h2,h⟩:=aB h;obtain⟨h3,h⟩|⟨h3,h⟩:=aM h
 ·have h:=aK h;subst h;exact((aU.g (eM h2)).r 3 h3).ret hΓ
 ·obtain⟨y4,h5,h⟩:=aB h;have h:=aK h;subst h;exact((((aU.g (eM h2)).r 2 h3).g (mK h5)).b h3).ret hΓ
def kP(aC:aG)(k1:Option Bool):aF->Nat->Option Bool
 | [],i1=>(k1)
 |bh::cV,i1=>((gx bh).bind fun tA=>(bif !(tA)then(some false)else(kP aC k1 cV (i1+1))))
def gH(aC:aG):Option Bool:=((oS aC.rel).bind fun y1=>(bif !(y1)then(some false)else(bif decide ((((aC.args.map tx).length:Int):Int)>3)then(some false)else(kP aC (some true) aC.args 0))))
def DC(aC:aG)(dQ:Int):St:=⟨[(16,D.sl (aC.args.map tx)),(17,D.int .i64 ((aC.args.map tx).length:Int)),(18,D.int .i64 dQ)],[]⟩
theorem Bj(hΓ:Γ.nt=26){aC:aG}{r:Bool}{k1:Option Bool}(eR:k1=some r->Ax Γ N f178 (.q [[none]] (D.bool r)) [1,1,1] ⟨[],[]⟩)(hm1:aC.args.length<=maxLen):∀(rest:aF) (i1:Nat),aC.args.drop i1=rest->kP aC k1 rest i1=some r->Ar Γ N f178 (.q [[none]] (D.bool r)) [1,1,0,1,0] (rest.length+1) (DC aC (i1:Int)):=by
 intro rest
 induction rest with
 |nil=>
  intro i1 bA h;rw[kP]at h;refine aR fun N1 cW cL=>?_
  exact((aU.ge tx bA).a [.hl 0 [] []]).ex hΓ cW (eR h)
 |cons bh cV ih1=>
  intro i1 bA h;rw[kP]at h;refine aR fun N1 cW cL=>?_
  obtain⟨tA,h26,h⟩:=aB h;have ig:=(((aU.lt tx bA).l (bI tx 1 (dc bA) rfl)).g (jA h26))
  obtain⟨h27,h⟩|⟨h27,h⟩:=aM h
  ·have h:=aK h;subst h;exact(ig.b h27).ret hΓ
  ·exact((ig.b h27).a [.cn [16,17,18] []]).ct hΓ cL (iS bA hm1) (ih1 (i1+1) (dn bA) h)
theorem fF{aC:aG}{r:Bool}(h:gH aC=some r):Good prog 178 [D.agg (aG.c aC)] (D.bool r):=by
 refine gd func178 [[none]] 26 fun hr Γ hΓ=>?_
 rw[gH]at h;obtain⟨y1,h2,h⟩:=aB h;obtain⟨h3,h⟩|⟨h3,h⟩:=aM h
 ·have h:=aK h;subst h;exact(((aU.g (lF h2)).r 5 h3).T 1).ret hΓ
 ·have lC:=((aU.g (lF h2)).r 5 h3)
  obtain⟨h4,h⟩|⟨h4,h⟩:=aM h
  ·have h:=aK h;subst h;exact(lC.b h4).ret hΓ
  ·refine((lC.b h4).a [.cn [16,17,18] []]).lp hΓ (Bj hΓ (fun h=>?_) (by have:=(j0.sl (j0.agg (hr _ (aD (i:=0) rfl)) (.sl (aC.args.map tx)) (by simp))).1;simpa using this) aC.args 0 rfl h);have h:=aK h;subst h;exact aU.ret hΓ
def gb(aC:aG):Option Bool:=(bif (aC.rel:Bytes)==([])then(some ((((aC.args.map tx).length:Int):Int)==0))else(some false))
theorem mP{aC:aG}{r:Bool}(h:gb aC=some r):Good prog 180 [D.agg (aG.c aC)] (D.bool r):=by
 refine gd func180 [[none]] 12 fun hr Γ hΓ=>?_
 rw[gb]at h;obtain⟨h1,h⟩|⟨h1,h⟩:=aM h
 ·cases h;exact(aU.r 5 h1).ret hΓ
 ·have h:=aK h;subst h;exact(aU.r 5 h1).ret hΓ
def nA(aC:aH):Option Bool:=(bif (aC.kind:Int)==1 then((gH aC.pat).bind fun y2=>(bif y2 then(bif (aC.left:Bytes)==([])then(some ((aC.right:Bytes)==([])))else(some false))else(some false)))else(bif (aC.kind:Int)==2 then((gH aC.pat).bind fun y7=>(bif y7 then(bif (aC.left:Bytes)==([])then(some ((aC.right:Bytes)==([])))else(some false))else(some false)))else(bif (aC.kind:Int)==3 then((gx aC.left).bind fun Qo=>(bif Qo then((gx aC.right).bind fun XP=>(bif XP then((gb aC.pat).bind fun KR=>(some KR))else(some false)))else(some false)))else(bif (aC.kind:Int)==4 then((gx aC.left).bind fun Pb=>(bif Pb then((gx aC.right).bind fun KS=>(bif KS then((gb aC.pat).bind fun nR=>(some nR))else(some false)))else(some false)))else(bif (aC.kind:Int)==5 then((gx aC.left).bind fun vz=>(bif vz then((gx aC.right).bind fun sN=>(bif sN then((gb aC.pat).bind fun MX=>(some MX))else(some false)))else(some false)))else(some false))))))
theorem j9{aC:aH}{r:Bool}(h:nA aC=some r):Good prog 115 [D.agg (aH.c aC)] (D.bool r):=by
 refine gd func115 [[none]] 38 fun hr Γ hΓ=>?_
 rw[nA]at h;obtain⟨h1,h⟩|⟨h1,h⟩:=aM h
 ·obtain⟨y2,h3,h⟩:=aB h;have oa:=((aU.r 2 h1).g (fF h3))
  obtain⟨h4,h⟩|⟨h4,h⟩:=aM h
  ·have ig:=(oa.r 4 h4)
   obtain⟨h5,h⟩|⟨h5,h⟩:=aM h
   ·cases h;exact(ig.r 4 h5).ret hΓ
   ·have h:=aK h;subst h;exact(ig.r 4 h5).ret hΓ
  ·have h:=aK h;subst h;exact((oa.r 4 h4).F 4).ret hΓ
 ·obtain⟨h6,h⟩|⟨h6,h⟩:=aM h
  ·obtain⟨y7,h8,h⟩:=aB h;have lC:=(((aU.b h1).b h6).g (fF h8))
   obtain⟨h9,h⟩|⟨h9,h⟩:=aM h
   ·have kw:=(lC.r 4 h9)
    obtain⟨h10,h⟩|⟨h10,h⟩:=aM h
    ·cases h;exact(kw.r 4 h10).ret hΓ
    ·have h:=aK h;subst h;exact(kw.r 4 h10).ret hΓ
   ·have h:=aK h;subst h;exact((lC.r 4 h9).F 4).ret hΓ
  ·have rR:=((aU.b h1).b h6)
   obtain⟨h11,h⟩|⟨h11,h⟩:=aM h
   ·obtain⟨Qo,h13,h⟩:=aB h;have vT:=((rR.r 2 h11).g (jA h13))
    obtain⟨h14,h⟩|⟨h14,h⟩:=aM h
    ·obtain⟨XP,h16,h⟩:=aB h;have yl:=(((vT.r 3 h14).g (jA h16)).b h14)
     obtain⟨h17,h⟩|⟨h17,h⟩:=aM h
     ·obtain⟨KR,h19,h⟩:=aB h;have h:=aK h;subst h;exact(((yl.r 3 h17).g (mP h19)).b h17).ret hΓ
     ·have h:=aK h;subst h;exact(yl.r 4 h17).ret hΓ
    ·have h:=aK h;subst h;exact((vT.r 4 h14).F 4).ret hΓ
   ·obtain⟨h20,h⟩|⟨h20,h⟩:=aM h
    ·obtain⟨Pb,h22,h⟩:=aB h;have E6:=(((rR.b h11).r 2 h20).g (jA h22))
     obtain⟨h23,h⟩|⟨h23,h⟩:=aM h
     ·obtain⟨KS,h25,h⟩:=aB h;have Je:=(((E6.r 3 h23).g (jA h25)).b h23)
      obtain⟨h26,h⟩|⟨h26,h⟩:=aM h
      ·obtain⟨nR,h28,h⟩:=aB h;have h:=aK h;subst h;exact(((Je.r 3 h26).g (mP h28)).b h26).ret hΓ
      ·have h:=aK h;subst h;exact(Je.r 4 h26).ret hΓ
     ·have h:=aK h;subst h;exact((E6.r 4 h23).F 4).ret hΓ
    ·have Ca:=((rR.b h11).b h20)
     obtain⟨h29,h⟩|⟨h29,h⟩:=aM h
     ·obtain⟨vz,h31,h⟩:=aB h;have Jc:=((Ca.b h29).g (jA h31))
      obtain⟨h32,h⟩|⟨h32,h⟩:=aM h
      ·obtain⟨sN,h34,h⟩:=aB h;have F3:=(((Jc.r 3 h32).g (jA h34)).b h32)
       obtain⟨h35,h⟩|⟨h35,h⟩:=aM h
       ·obtain⟨MX,h37,h⟩:=aB h;have h:=aK h;subst h;exact(((F3.r 3 h35).g (mP h37)).b h35).ret hΓ
       ·have h:=aK h;subst h;exact(F3.r 4 h35).ret hΓ
      ·have h:=aK h;subst h;exact((Jc.r 4 h32).F 4).ret hΓ
     ·have h:=aK h;subst h;exact(Ca.b h29).ret hΓ
def fJ(aC:aF)(k1:aF->Option aF):aF->Nat->aF->Option aF
 | [],i1,bO=>(k1 bO)
 |bh::cV,i1,bO=>((jy bh).bind fun Qp=>(bif Qp then(bif room ((bO.map tx).length+([[D.str bh]]).length) 16 then(fJ aC k1 cV (i1+1) (bO++([bh])))else none)else(fJ aC k1 cV (i1+1) bO)))
def lN(aC:aF):Option aF:=(fJ aC (fun(cA:aF)=>(some cA)) aC 0 ([]:aF))
def wG(aC:aF)(W0:List aL)(dQ:Int):St:=⟨[(3,D.acc 0),(6,D.sl (aC.map tx)),(7,D.int .i64 ((aC.map tx).length:Int)),(8,D.int .i64 dQ)],[Ob.row .uq 9 1 W0]⟩
theorem C1(hΓ:Γ.nt=20){aC:aF}{r:aF}{k1:aF->Option aF}(eR:∀(cA:aF),k1 cA=some r->Ax Γ N f162 (.q [[some (9,1)]] (D.fr 9 1 (r.map tx))) [1,1,1] ⟨[(3,D.acc 0)],[Ob.row .uq 9 1 (cA.map tx)]⟩)(hm1:aC.length<=maxLen):∀(rest:aF) (i1:Nat) (bO:aF),aC.drop i1=rest->fJ aC k1 rest i1 bO=some r->Ar Γ N f162 (.q [[some (9,1)]] (D.fr 9 1 (r.map tx))) [1,1,0,1,0] (rest.length+1) (wG aC (bO.map tx) (i1:Int)):=by
 intro rest
 induction rest with
 |nil=>
  intro i1 bO bA h;rw[fJ]at h;refine aR fun N1 cW cL=>?_
  exact((aU.ge tx bA).a [.hl 0 [3] [0]]).ex hΓ cW (eR bO h)
 |cons bh cV ih1=>
  intro i1 bO bA h;rw[fJ]at h;refine aR fun N1 cW cL=>?_
  obtain⟨Qp,h33,h⟩:=aB h;have ig:=(((aU.lt tx bA).l (bI tx 1 (dc bA) rfl)).g (mK h33))
  obtain⟨h34,h⟩|⟨h34,h⟩:=aM h
  ·obtain⟨h35,h⟩:=bQ h;exact(((ig.b h34).w (br h35)).a [.cn [3,6,7,8] [2]]).cs hΓ cL (wG aC ((bO.map tx)++([[D.str bh]])) (IntKind.i64.wrap ((i1:Int)+1))) (by first| (simp only[iS bA hm1,mA]<;>rfl)| (simp only[iS bA hm1,mA,aG.c,aQ.c,aH.c,Action.c,aJ.c,aX.c,dU.c,ai.c,Node.c,aN.c,dW.c]<;>rfl)) (ih1 (i1+1) (bO++([bh])) (dn bA) h)
  ·exact((ig.b h34).a [.cn [3,6,7,8] [0]]).ct hΓ cL (iS bA hm1) (ih1 (i1+1) bO (dn bA) h)
theorem qw{aC:aF}{r:aF}(h:lN aC=some r):Good prog 162 [D.sl (aC.map tx)] (D.fr 9 1 (r.map tx)):=by
 refine gd func162 [[some (9,1)]] 20 fun hr Γ hΓ=>?_
 rw[lN]at h;refine(aU.a [.Jk 3,.cn [3,6,7,8] [0]]).lp hΓ (C1 hΓ (fun cA h=>?_) (by have:=(j0.sl (hr _ (aD (i:=0) rfl))).1;simpa using this) aC 0 ([]:aF) rfl h);have h:=aK h;subst h;exact aU.ret hΓ
def dL(aC:aF)(k1:aF->Option aF):aF->Nat->aF->Option aF
 | [],i1,bZ=>(k1 bZ)
 |bh::cV,i1,bZ=>(bif ((i1:Int):Int)==0 then(bif room ((bZ.map tx).length+([[D.str bh]]).length) 16 then(dL aC k1 cV (i1+1) (bZ++([bh])))else none)else((iM (mU (([]:aF)++aC)) (IntKind.i64.wrap ((i1:Int)-1))).bind fun x47=>(bif !((x47:Bytes)==bh)then(bif room ((bZ.map tx).length+([[D.str bh]]).length) 16 then(dL aC k1 cV (i1+1) (bZ++([bh])))else none)else(dL aC k1 cV (i1+1) bZ))))
def jC(aC:aF):Option aF:=(bif room (([]:List aL).length+(aC.map tx).length) 16 then(bif decide ((([]:aF)++aC).length<4611686018427387904)then(bif decide ((mU (([]:aF)++aC)).length<=maxLen)then(dL aC (fun(cA:aF)=>(some cA)) (mU (([]:aF)++aC)) 0 ([]:aF))else none)else none)else none)
def qu(aC:aF)(W0:List aL)(dQ:Int):St:=⟨[(3,D.acc 0),(4,D.acc 1),(11,D.acc 0),(12,D.int .i64 (((mU (([]:aF)++aC)).map tx).length:Int)),(13,D.int .i64 dQ)],[Ob.row .uq 9 1 ((mU (([]:aF)++aC)).map tx),Ob.row .uq 9 1 W0]⟩
theorem AD(hΓ:Γ.nt=35){aC:aF}{r:aF}{k1:aF->Option aF}(eR:∀(cA:aF),k1 cA=some r->Ax Γ N f164 (.q [[some (9,1)]] (D.fr 9 1 (r.map tx))) [1,1,1,1,1] ⟨[(4,D.acc 0)],[Ob.row .uq 9 1 (cA.map tx)]⟩)(hm1:(mU (([]:aF)++aC)).length<=maxLen):∀(rest:aF) (i1:Nat) (bZ:aF),(mU (([]:aF)++aC)).drop i1=rest->dL aC k1 rest i1 bZ=some r->Ar Γ N f164 (.q [[some (9,1)]] (D.fr 9 1 (r.map tx))) [1,1,1,1,0,1,0] (rest.length+1) (qu aC (bZ.map tx) (i1:Int)):=by
 intro rest
 induction rest with
 |nil=>
  intro i1 bZ bA h;rw[dL]at h;refine aR fun N1 cW cL=>?_
  exact((aU.ge tx bA).a [.hl 0 [4] [1]]).ex hΓ cW (eR bZ h)
 |cons bh cV ih1=>
  intro i1 bZ bA h;rw[dL]at h;refine aR fun N1 cW cL=>?_
  have lC:=(((aU.lt tx bA).i (mS tx 1 (dc bA))).o 1 1 .uq (cH tx (dc bA)))
  obtain⟨h45,h⟩|⟨h45,h⟩:=aM h
  ·obtain⟨h46,h⟩:=bQ h;exact((((lC.r 8 h45).T 1).w (br h46)).a [.cn [3,4,11,12,13] [0,3]]).cs hΓ cL (qu aC ((bZ.map tx)++([[D.str bh]])) (IntKind.i64.wrap ((i1:Int)+1))) (by first| (simp only[iS bA hm1,mA]<;>rfl)| (simp only[iS bA hm1,mA,aG.c,aQ.c,aH.c,Action.c,aJ.c,aX.c,dU.c,ai.c,Node.c,aN.c,dW.c]<;>rfl)) (ih1 (i1+1) (bZ++([bh])) (dn bA) h)
  ·obtain⟨x47,h48,h⟩:=aB h;have kw:=(((((lC.r 4 h45).i (fc tx 1 h48)).b h45).o 1 1 .uq (cH tx (dR h48))).r 3 h45)
   obtain⟨h49,h⟩|⟨h49,h⟩:=aM h
   ·obtain⟨h50,h⟩:=bQ h;exact(((kw.b h49).w (br h50)).a [.cn [3,4,11,12,13] [0,3]]).cs hΓ cL (qu aC ((bZ.map tx)++([[D.str bh]])) (IntKind.i64.wrap ((i1:Int)+1))) (by first| (simp only[iS bA hm1,mA]<;>rfl)| (simp only[iS bA hm1,mA,aG.c,aQ.c,aH.c,Action.c,aJ.c,aX.c,dU.c,ai.c,Node.c,aN.c,dW.c]<;>rfl)) (ih1 (i1+1) (bZ++([bh])) (dn bA) h)
   ·exact((kw.b h49).a [.cn [3,4,11,12,13] [0,1]]).ct hΓ cL (iS bA hm1) (ih1 (i1+1) bZ (dn bA) h)
theorem p6{aC:aF}{r:aF}(h:jC aC=some r):Good prog 164 [D.sl (aC.map tx)] (D.fr 9 1 (r.map tx)):=by
 refine gd func164 [[some (9,1)]] 35 fun hr Γ hΓ=>?_
 rw[jC]at h;obtain⟨h1,h⟩:=bQ h;obtain⟨h2,h⟩:=bQ h;obtain⟨h51,h⟩:=bQ h;refine(((((aU.w (br h1)).w (show(∀r∈(aC.map tx),r.length=1)/\(true=true->D.pO (aC.map tx)=true)from⟨by first|simp| (intro r hr;obtain⟨x,_,rfl⟩:=cJ.1 (cD (jO hr));rfl),by simp[D.pO,D.flat]⟩)).w (show(([]:List aL)++(aC.map tx)).flatten.all D.flat=true from by simpa only[b8,bC,bf]using N0 (([]:aF)++aC))).w (show Ma prog 223 9 1 (([]:List aL)++(aC.map tx)) ((mU (([]:aF)++aC)).map tx)from by simpa only[b8,bC,bf]using(DS (e:=9) (ay h2)))).a [.fl true,.mu 0 ((mU (([]:aF)++aC)).map tx),.Jk 4,.cn [3,4,11,12,13] [0,1]]).lp hΓ (AD hΓ (fun cA h=>?_) (ay h51) (mU (([]:aF)++aC)) 0 ([]:aF) rfl h);have h:=aK h;subst h;exact aU.ret hΓ
def eU(aC:aJ)(aa:Int)(k1:aF->Option aF):af->Nat->aF->Option aF
 | [],i1,bO=>(k1 bO)
 |bh::cV,i1,bO=>(bif decide (((i1:Int):Int)<aa)then(bif (bh.kind:Int)==1 then((lN bh.pat.args).bind fun D5=>(bif room ((bO.map tx).length+(D5.map tx).length) 16 then(eU aC aa k1 cV (i1+1) (bO++D5))else none))else(eU aC aa k1 cV (i1+1) bO))else(eU aC aa k1 cV (i1+1) bO))
def nI(aC:aJ)(aa:Int):Option aF:=(eU aC aa (fun(cA:aF)=>((jC cA).bind fun VC=>(some VC))) aC.conds 0 ([]:aF))
def wA(aC:aJ)(aa:Int)(W0:List aL)(dQ:Int):St:=⟨[(1,D.int .i64 aa),(5,D.acc 0),(9,D.sl (aC.conds.map aH.c)),(10,D.int .i64 ((aC.conds.map aH.c).length:Int)),(11,D.int .i64 dQ)],[Ob.row .uq 9 1 W0]⟩
theorem Bf(hΓ:Γ.nt=33){aC:aJ}{aa:Int}{r:aF}{k1:aF->Option aF}(eR:∀(cA:aF),k1 cA=some r->Ax Γ N f160 (.q [[some (9,1)]] (D.fr 9 1 (r.map tx))) [1,1,1] ⟨[(5,D.acc 0)],[Ob.row .uq 9 1 (cA.map tx)]⟩)(hm1:aC.conds.length<=maxLen):∀(rest:af) (i1:Nat) (bO:aF),aC.conds.drop i1=rest->eU aC aa k1 rest i1 bO=some r->Ar Γ N f160 (.q [[some (9,1)]] (D.fr 9 1 (r.map tx))) [1,1,0,1,0] (rest.length+1) (wA aC aa (bO.map tx) (i1:Int)):=by
 intro rest
 induction rest with
 |nil=>
  intro i1 bO bA h;rw[eU]at h;refine aR fun N1 cW cL=>?_
  exact((aU.ge aH.c bA).a [.hl 0 [5] [0]]).ex hΓ cW (eR bO h)
 |cons bh cV ih1=>
  intro i1 bO bA h;rw[eU]at h;refine aR fun N1 cW cL=>?_
  have lC:=((aU.lt aH.c bA).l (bI aH.c 5 (dc bA) rfl))
  obtain⟨h37,h⟩|⟨h37,h⟩:=aM h
  ·have kw:=(lC.r 4 h37)
   obtain⟨h38,h⟩|⟨h38,h⟩:=aM h
   ·obtain⟨D5,h40,h⟩:=aB h;obtain⟨h41,h⟩:=bQ h;exact((((kw.b h38).g (qw h40)).w (br h41)).a [.cn [1,5,9,10,11] [3]]).cs hΓ cL (wA aC aa ((bO.map tx)++(D5.map tx)) (IntKind.i64.wrap ((i1:Int)+1))) (by first| (simp only[iS bA hm1,mA]<;>rfl)| (simp only[iS bA hm1,mA,aG.c,aQ.c,aH.c,Action.c,aJ.c,aX.c,dU.c,ai.c,Node.c,aN.c,dW.c]<;>rfl)) (ih1 (i1+1) (bO++D5) (dn bA) h)
   ·exact((kw.b h38).a [.cn [1,5,9,10,11] [0]]).ct hΓ cL (iS bA hm1) (ih1 (i1+1) bO (dn bA) h)
  ·exact(((lC.r 4 h37).F 1).a [.cn [1,5,9,10,11] [0]]).ct hΓ cL (iS bA hm1) (ih1 (i1+1) bO (dn bA) h)
theorem uX{aC:aJ}{aa:Int}{r:aF}(h:nI aC aa=some r):Good prog 160 [D.agg (aJ.c aC),D.int .i64 aa] (D.fr 9 1 (r.map tx)):=by
 refine gd func160 [[some (9,1)]] 33 fun hr Γ hΓ=>?_
 rw[nI]at h;refine(aU.a [.Jk 5,.cn [1,5,9,10,11] [1]]).lp hΓ (Bf hΓ (fun cA h=>?_) (by have:=(j0.sl (j0.agg (hr _ (aD (i:=0) rfl)) (.sl (aC.conds.map aH.c)) (by simp))).1;simpa using this) aC.conds 0 ([]:aF) rfl h);obtain⟨VC,h43,h⟩:=aB h;have h:=aK h;subst h;exact(aU.g (p6 h43)).ret hΓ
def lK(aC:aF):Option aF:=(bif room (([]:List aL).length+(aC.map tx).length) 16 then(some (([]:aF)++aC))else none)
theorem qv{aC:aF}{r:aF}(h:lK aC=some r):Good prog 172 [D.sl (aC.map tx)] (D.fr 9 1 (r.map tx)):=by
 refine gd func172 [[some (9,1)]] 5 fun hr Γ hΓ=>?_
 rw[lK]at h;obtain⟨h1,h⟩:=bQ h;cases h;exact(((aU.w (br h1)).w (show(∀r∈(aC.map tx),r.length=1)/\(true=true->D.pO (aC.map tx)=true)from⟨by first|simp| (intro r hr;obtain⟨x,_,rfl⟩:=cJ.1 (cD (jO hr));rfl),by simp[D.pO,D.flat]⟩)).a [.Jk 2,.fl true]).rts hΓ (D.fr 9 1 (([]:List aL)++(aC.map tx))) (by first|rfl| (simp only[mA]<;>rfl))
def pH(aC:aH):Option aF:=((lK aC.pat.args).bind fun y1=>(bif room ((y1.map tx).length+(([aC.left,aC.right]:aF).map tx).length) 16 then(some (y1++([aC.left,aC.right]:aF)))else none))
theorem wF{aC:aH}{r:aF}(h:pH aC=some r):Good prog 185 [D.agg (aH.c aC)] (D.fr 9 1 (r.map tx)):=by
 refine gd func185 [[some (9,1)]] 13 fun hr Γ hΓ=>?_
 rw[pH]at h;obtain⟨y1,h2,h⟩:=aB h;obtain⟨h3,h⟩:=bQ h;cases h;exact(((aU.a [.Jk 2,.n 9]).g (qv h2)).w (br h3)).rts hΓ (D.fr 9 1 ((y1.map tx)++(([aC.left,aC.right]:aF).map tx))) (by first|rfl| (simp only[mA]<;>rfl))
def mW(aC:aH):Option aF:=((pH aC).bind fun y1=>((lN y1).bind fun y3=>((jC y3).bind fun y5=>(some y5))))
theorem rL{aC:aH}{r:aF}(h:mW aC=some r):Good prog 221 [D.agg (aH.c aC)] (D.fr 9 1 (r.map tx)):=by
 refine gd func221 [[some (9,1)]] 7 fun hr Γ hΓ=>?_
 rw[mW]at h;obtain⟨y1,h2,h⟩:=aB h;obtain⟨y3,h4,h⟩:=aB h;obtain⟨y5,h6,h⟩:=aB h;have h:=aK h;subst h;exact(((aU.g (wF h2)).g (qw h4)).g (p6 h6)).ret hΓ
def k9(aC:aF)(aa:Bytes)(k1:Option Bool):aF->Nat->Option Bool
 | [],i1=>(k1)
 |bh::cV,i1=>(bif (bh:Bytes)==aa then(some true)else(k9 aC aa k1 cV (i1+1)))
def k8(aC:aF)(aa:Bytes):Option Bool:=(k9 aC aa (some false) aC 0)
def Fe(aC:aF)(aa:Bytes)(dQ:Int):St:=⟨[(1,D.str aa),(7,D.sl (aC.map tx)),(8,D.int .i64 ((aC.map tx).length:Int)),(9,D.int .i64 dQ)],[]⟩
theorem EO(hΓ:Γ.nt=17){aC:aF}{aa:Bytes}{r:Bool}{k1:Option Bool}(eR:k1=some r->Ax Γ N f163 (.q [[none]] (D.bool r)) [1,1] ⟨[],[]⟩)(hm1:aC.length<=maxLen):∀(rest:aF) (i1:Nat),aC.drop i1=rest->k9 aC aa k1 rest i1=some r->Ar Γ N f163 (.q [[none]] (D.bool r)) [1,0,1,0] (rest.length+1) (Fe aC aa (i1:Int)):=by
 intro rest
 induction rest with
 |nil=>
  intro i1 bA h;rw[k9]at h;refine aR fun N1 cW cL=>?_
  exact((aU.ge tx bA).a [.hl 0 [] []]).ex hΓ cW (eR h)
 |cons bh cV ih1=>
  intro i1 bA h;rw[k9]at h;refine aR fun N1 cW cL=>?_
  have ig:=((aU.lt tx bA).l (bI tx 1 (dc bA) rfl))
  obtain⟨h13,h⟩|⟨h13,h⟩:=aM h
  ·have h:=aK h;subst h;exact(ig.b h13).ret hΓ
  ·exact((ig.b h13).a [.cn [1,7,8,9] []]).ct hΓ cL (iS bA hm1) (ih1 (i1+1) (dn bA) h)
theorem oh{aC:aF}{aa:Bytes}{r:Bool}(h:k8 aC aa=some r):Good prog 163 [D.sl (aC.map tx),D.str aa] (D.bool r):=by
 refine gd func163 [[none]] 17 fun hr Γ hΓ=>?_
 rw[k8]at h;refine(aU.a [.cn [1,7,8,9] []]).lp hΓ (EO hΓ (fun h=>?_) (by have:=(j0.sl (hr _ (aD (i:=0) rfl))).1;simpa using this) aC 0 rfl h);have h:=aK h;subst h;exact aU.ret hΓ
def dP(aC:aJ)(aa:Int)(cN:Bytes)(k1:Option Bool):af->Nat->Option Bool
 | [],i1=>(k1)
 |bh::cV,i1=>(bif ((i1:Int):Int) != aa then((mW bh).bind fun Dw=>((k8 Dw cN).bind fun MX=>(bif MX then(some true)else(dP aC aa cN k1 cV (i1+1)))))else(dP aC aa cN k1 cV (i1+1)))
def eY(aC:aJ)(cN:Bytes)(k2:Option Bool):dN->Nat->Option Bool
 | [],i2=>(k2)
 |jM::uO,i2=>((k8 jM.pat.args cN).bind fun y59=>(bif y59 then(some true)else(eY aC cN k2 uO (i2+1))))
def kA(aC:aJ)(aa:Int)(cN:Bytes):Option Bool:=(dP aC aa cN (eY aC cN (some false) aC.cO 0) aC.conds 0)
def xy(aC:aJ)(aa:Int)(cN:Bytes)(dQ:Int):St:=⟨[(1,D.int .i64 aa),(2,D.str cN),(3,D.ptr 0 0),(12,D.sl (aC.conds.map aH.c)),(13,D.int .i64 ((aC.conds.map aH.c).length:Int)),(14,D.int .i64 dQ)],[Ob.box (aJ.c aC)]⟩
theorem xN(hΓ:Γ.nt=42){aC:aJ}{aa:Int}{cN:Bytes}{r:Bool}{k1:Option Bool}(eR:k1=some r->Ax Γ N f222 (.q [[none]] (D.bool r)) [1,1] ⟨[(2,D.str cN),(3,D.ptr 0 0)],[Ob.box (aJ.c aC)]⟩)(hm1:aC.conds.length<=maxLen):∀(rest:af) (i1:Nat),aC.conds.drop i1=rest->dP aC aa cN k1 rest i1=some r->Ar Γ N f222 (.q [[none]] (D.bool r)) [1,0,1,0] (rest.length+1) (xy aC aa cN (i1:Int)):=by
 intro rest
 induction rest with
 |nil=>
  intro i1 bA h;rw[dP]at h;refine aR fun N1 cW cL=>?_
  exact((aU.ge aH.c bA).a [.hl 0 [2,3] [0]]).ex hΓ cW (eR h)
 |cons bh cV ih1=>
  intro i1 bA h;rw[dP]at h;refine aR fun N1 cW cL=>?_
  have kw:=((aU.lt aH.c bA).l (bI aH.c 5 (dc bA) rfl))
  obtain⟨h33,h⟩|⟨h33,h⟩:=aM h
  ·obtain⟨Dw,h35,h⟩:=aB h;obtain⟨MX,h37,h⟩:=aB h;have rR:=(((((kw.r 2 h33).g (rL h35)).r 2 h33).g (oh h37)).b h33)
   obtain⟨h38,h⟩|⟨h38,h⟩:=aM h
   ·have h:=aK h;subst h;exact(rR.b h38).ret hΓ
   ·exact((rR.b h38).a [.cn [1,2,3,12,13,14] [0]]).ct hΓ cL (iS bA hm1) (ih1 (i1+1) (dn bA) h)
  ·exact(((kw.r 5 h33).F 1).a [.cn [1,2,3,12,13,14] [0]]).ct hΓ cL (iS bA hm1) (ih1 (i1+1) (dn bA) h)
def xz(aC:aJ)(cN:Bytes)(dQ:Int):St:=⟨[(2,D.str cN),(30,D.sl (aC.cO.map Action.c)),(31,D.int .i64 ((aC.cO.map Action.c).length:Int)),(32,D.int .i64 dQ)],[]⟩
theorem xO(hΓ:Γ.nt=42){aC:aJ}{cN:Bytes}{r:Bool}{k2:Option Bool}(Ak:k2=some r->Ax Γ N f222 (.q [[none]] (D.bool r)) [1,1,1] ⟨[],[]⟩)(hm2:aC.cO.length<=maxLen):∀(rest:dN) (i2:Nat),aC.cO.drop i2=rest->eY aC cN k2 rest i2=some r->Ar Γ N f222 (.q [[none]] (D.bool r)) [1,1,0,1,0] (rest.length+1) (xz aC cN (i2:Int)):=by
 intro rest
 induction rest with
 |nil=>
  intro i2 hd2 h;rw[eY]at h;refine aR fun N2 um sL=>?_
  exact((aU.ge Action.c hd2).a [.hl 0 [] []]).ex hΓ um (Ak h)
 |cons jM uO ih2=>
  intro i2 hd2 h;rw[eY]at h;refine aR fun N2 um sL=>?_
  obtain⟨y59,h60,h⟩:=aB h;have vT:=(((aU.lt Action.c hd2).l (bI Action.c 3 (dc hd2) rfl)).g (oh h60))
  obtain⟨h61,h⟩|⟨h61,h⟩:=aM h
  ·have h:=aK h;subst h;exact(vT.b h61).ret hΓ
  ·exact((vT.b h61).a [.cn [2,30,31,32] []]).ct hΓ sL (iS hd2 hm2) (ih2 (i2+1) (dn hd2) h)
theorem wR{aC:aJ}{aa:Int}{cN:Bytes}{r:Bool}(h:kA aC aa cN=some r):Good prog 222 [D.agg (aJ.c aC),D.int .i64 aa,D.str cN] (D.bool r):=by
 refine gd func222 [[none]] 42 fun hr Γ hΓ=>?_
 rw[kA]at h;refine(aU.a [.cn [1,2,3,12,13,14] [0]]).lp hΓ (xN hΓ (fun h=>?_) (by have:=(j0.sl (j0.agg (hr _ (aD (i:=0) rfl)) (.sl (aC.conds.map aH.c)) (by simp))).1;simpa using this) aC.conds 0 rfl h);refine(aU.a [.cn [2,30,31,32] []]).lp hΓ (xO hΓ (fun h=>?_) (by have:=(j0.sl (j0.agg (hr _ (aD (i:=0) rfl)) (.sl (aC.cO.map Action.c)) (by simp))).1;simpa using this) aC.cO 0 rfl h);have h:=aK h;subst h;exact aU.ret hΓ
def fp(aC:aJ)(aa:Int)(x1:aH)(y3:aF)(y5:aF)(k1:Option Bool):aF->Nat->Option Bool
 | [],i1=>(k1)
 |bh::cV,i1=>(bif (x1.kind:Int)==1 then(fp aC aa x1 y3 y5 k1 cV (i1+1))else((k8 y3 bh).bind fun Hl=>(bif Hl then(fp aC aa x1 y3 y5 k1 cV (i1+1))else(bif (x1.kind:Int) != 2 then(some false)else((kA aC aa bh).bind fun y53=>(bif y53 then(some false)else(fp aC aa x1 y3 y5 k1 cV (i1+1))))))))
def nq(aC:aJ)(aa:Int):Option Bool:=((iM aC.conds aa).bind fun x1=>((nI aC aa).bind fun y3=>((mW x1).bind fun y5=>(bif decide (y5.length<=maxLen)then(fp aC aa x1 y3 y5 (some true) y5 0)else none))))
def EN(aC:aJ)(aa:Int)(x1:aH)(y3:aF)(y5:aF)(dQ:Int):St:=⟨[(1,D.int .i64 aa),(2,D.ptr 0 0),(5,D.ptr 1 0),(6,D.acc 2),(18,D.acc 3),(19,D.int .i64 ((y5.map tx).length:Int)),(20,D.int .i64 dQ)],[Ob.box (aJ.c aC),Ob.box [D.int .i64 x1.kind,D.str x1.pat.rel,D.sl (x1.pat.args.map tx),D.str x1.left,D.str x1.right],Ob.row .uq 9 1 (y3.map tx),Ob.row .uq 9 1 (y5.map tx)]⟩
theorem DH(hΓ:Γ.nt=42){aC:aJ}{aa:Int}{x1:aH}{y3:aF}{y5:aF}{r:Bool}{k1:Option Bool}(eR:k1=some r->Ax Γ N f159 (.q [[none]] (D.bool r)) [1,1,1,1] ⟨[],[]⟩)(hm1:y5.length<=maxLen):∀(rest:aF) (i1:Nat),y5.drop i1=rest->fp aC aa x1 y3 y5 k1 rest i1=some r->Ar Γ N f159 (.q [[none]] (D.bool r)) [1,1,1,0,1,0] (rest.length+1) (EN aC aa x1 y3 y5 (i1:Int)):=by
 intro rest
 induction rest with
 |nil=>
  intro i1 bA h;rw[fp]at h;refine aR fun N1 cW cL=>?_
  exact((aU.ge tx bA).a [.hl 0 [] []]).ex hΓ cW (eR h)
 |cons bh cV ih1=>
  intro i1 bA h;rw[fp]at h;refine aR fun N1 cW cL=>?_
  have kw:=(((aU.lt tx bA).i (mS tx 1 (dc bA))).o 1 1 .uq (cH tx (dc bA)))
  obtain⟨h48,h⟩|⟨h48,h⟩:=aM h
  ·exact(((kw.r 4 h48).T 1).a [.cn [1,2,5,6,18,19,20] [0,1,2,3]]).ct hΓ cL (iS bA hm1) (ih1 (i1+1) (dn bA) h)
  ·obtain⟨Hl,h50,h⟩:=aB h;have rR:=(((kw.r 3 h48).g (oh h50)).b h48)
   obtain⟨h51,h⟩|⟨h51,h⟩:=aM h
   ·exact((rR.b h51).a [.cn [1,2,5,6,18,19,20] [0,1,2,3]]).ct hΓ cL (iS bA hm1) (ih1 (i1+1) (dn bA) h)
   ·obtain⟨h52,h⟩|⟨h52,h⟩:=aM h
    ·have h:=aK h;subst h;exact(((rR.b h51).r 5 h52).T 1).ret hΓ
    ·obtain⟨y53,h54,h⟩:=aB h;have vT:=((((rR.b h51).r 4 h52).g (wR h54)).b h52)
     obtain⟨h55,h⟩|⟨h55,h⟩:=aM h
     ·have h:=aK h;subst h;exact(vT.b h55).ret hΓ
     ·exact((vT.b h55).a [.cn [1,2,5,6,18,19,20] [0,1,2,3]]).ct hΓ cL (iS bA hm1) (ih1 (i1+1) (dn bA) h)
theorem vH{aC:aJ}{aa:Int}{r:Bool}(h:nq aC aa=some r):Good prog 159 [D.agg (aJ.c aC),D.int .i64 aa] (D.bool r):=by
 refine gd func159 [[none]] 42 fun hr Γ hΓ=>?_
 rw[nq]at h;obtain⟨x1,h2,h⟩:=aB h;obtain⟨y3,h4,h⟩:=aB h;obtain⟨y5,h6,h⟩:=aB h;obtain⟨h56,h⟩:=bQ h;refine((((aU.l (iN aH.c 5 h2 rfl)).g (uX h4)).g (rL h6)).a [.cn [1,2,5,6,18,19,20] [0,1,2,3]]).lp hΓ (DH hΓ (fun h=>?_) (ay h56) y5 0 rfl h);have h:=aK h;subst h;exact aU.ret hΓ
def qL(aC:Action):Option Bool:=(bif (aC.kind:Int)==1 then((gH aC.pat).bind fun y2=>(some y2))else(bif (aC.kind:Int)==2 then((gH aC.pat).bind fun y5=>(some y5))else(bif (aC.kind:Int)==3 then((gb aC.pat).bind fun y8=>(some y8))else(some false))))
theorem Bh{aC:Action}{r:Bool}(h:qL aC=some r):Good prog 161 [D.agg (Action.c aC)] (D.bool r):=by
 refine gd func161 [[none]] 16 fun hr Γ hΓ=>?_
 rw[qL]at h;obtain⟨h1,h⟩|⟨h1,h⟩:=aM h
 ·obtain⟨y2,h3,h⟩:=aB h;have h:=aK h;subst h;exact((aU.r 2 h1).g (fF h3)).ret hΓ
 ·obtain⟨h4,h⟩|⟨h4,h⟩:=aM h
  ·obtain⟨y5,h6,h⟩:=aB h;have h:=aK h;subst h;exact(((aU.b h1).b h4).g (fF h6)).ret hΓ
  ·have oa:=((aU.b h1).b h4)
   obtain⟨h7,h⟩|⟨h7,h⟩:=aM h
   ·obtain⟨y8,h9,h⟩:=aB h;have h:=aK h;subst h;exact((oa.b h7).g (mP h9)).ret hΓ
   ·have h:=aK h;subst h;exact(oa.b h7).ret hΓ
def fk(aC:af)(k1:aF->Option aF):af->Nat->aF->Option aF
 | [],i1,bO=>(k1 bO)
 |bh::cV,i1,bO=>((mW bh).bind fun nR=>(bif room ((bO.map tx).length+(nR.map tx).length) 16 then(fk aC k1 cV (i1+1) (bO++nR))else none))
def oF(aC:af):Option aF:=(fk aC (fun(cA:aF)=>(some cA)) aC 0 ([]:aF))
def vI(aC:af)(W0:List aL)(dQ:Int):St:=⟨[(3,D.acc 0),(6,D.sl (aC.map aH.c)),(7,D.int .i64 ((aC.map aH.c).length:Int)),(8,D.int .i64 dQ)],[Ob.row .uq 9 1 W0]⟩
theorem B5(hΓ:Γ.nt=18){aC:af}{r:aF}{k1:aF->Option aF}(eR:∀(cA:aF),k1 cA=some r->Ax Γ N f165 (.q [[some (9,1)]] (D.fr 9 1 (r.map tx))) [1,1,1] ⟨[(3,D.acc 0)],[Ob.row .uq 9 1 (cA.map tx)]⟩)(hm1:aC.length<=maxLen):∀(rest:af) (i1:Nat) (bO:aF),aC.drop i1=rest->fk aC k1 rest i1 bO=some r->Ar Γ N f165 (.q [[some (9,1)]] (D.fr 9 1 (r.map tx))) [1,1,0,1,0] (rest.length+1) (vI aC (bO.map tx) (i1:Int)):=by
 intro rest
 induction rest with
 |nil=>
  intro i1 bO bA h;rw[fk]at h;refine aR fun N1 cW cL=>?_
  exact((aU.ge aH.c bA).a [.hl 0 [3] [0]]).ex hΓ cW (eR bO h)
 |cons bh cV ih1=>
  intro i1 bO bA h;rw[fk]at h;refine aR fun N1 cW cL=>?_
  obtain⟨nR,h28,h⟩:=aB h;obtain⟨h29,h⟩:=bQ h;exact(((((aU.lt aH.c bA).l (bI aH.c 5 (dc bA) rfl)).g (rL h28)).w (br h29)).a [.cn [3,6,7,8] [3]]).cs hΓ cL (vI aC ((bO.map tx)++(nR.map tx)) (IntKind.i64.wrap ((i1:Int)+1))) (by first| (simp only[iS bA hm1,mA]<;>rfl)| (simp only[iS bA hm1,mA,aG.c,aQ.c,aH.c,Action.c,aJ.c,aX.c,dU.c,ai.c,Node.c,aN.c,dW.c]<;>rfl)) (ih1 (i1+1) (bO++nR) (dn bA) h)
theorem AE{aC:af}{r:aF}(h:oF aC=some r):Good prog 165 [D.sl (aC.map aH.c)] (D.fr 9 1 (r.map tx)):=by
 refine gd func165 [[some (9,1)]] 18 fun hr Γ hΓ=>?_
 rw[oF]at h;refine(aU.a [.Jk 3,.cn [3,6,7,8] [0]]).lp hΓ (B5 hΓ (fun cA h=>?_) (by have:=(j0.sl (hr _ (aD (i:=0) rfl))).1;simpa using this) aC 0 ([]:aF) rfl h);have h:=aK h;subst h;exact aU.ret hΓ
end Go.Cx

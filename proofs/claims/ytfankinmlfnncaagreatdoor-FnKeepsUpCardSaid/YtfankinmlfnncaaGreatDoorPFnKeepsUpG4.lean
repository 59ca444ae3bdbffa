/- What functions of the program compute, and the walks that show it. No condition. -/
import Derived.Test.YtfankinmlfnncaaGreatDoorPFnKeepsUpG3
set_option linter.unusedVariables false
set_option linter.unusedSimpArgs false
namespace Go.Cx
open Go.RowKit Go.Proofs Tryz
set_option maxRecDepth 100000
variable{Γ:vn}{N:Nat->St->Prop}
def pX(aD:bH)(k1:Int->Option cQ):bH->Nat->Int->Option cQ
 | [],i1,ni=>(k1 ni)
 |bS::cT,i1,ni=>(bif decide (((i1:Int):Int)<4000)then(pX aD k1 cT (i1+1) (Ie .i64 (IntKind.i64.wrap ((IntKind.i64.wrap ((IntKind.i64.wrap (ni*167))+(IntKind.i64.wrap bS)))+29)) 1073741823))else(k1 ni))
def yG(aD:bH):Option cQ:=(bif decide (aD.length<=maxLen)then(pX aD (fun(a1N:Int)=>(some (⟨aD,0,a1N⟩:cQ))) aD 0 (IntKind.i64.wrap (851207+(IntKind.i64.wrap (3*((aD.map yx).length:Int))))))else none)
def NN(aD:bH)(ni:Int)(dG:Int):St:=⟨[(0,D.sl (aD.map yx)),(3,D.int .i64 ni),(4,D.int .i64 dG)],[]⟩
theorem M9(hΓ:Γ.nt=33){aD:bH}{r:cQ}{k1:Int->Option cQ}(dX:∀(a1N:Int),k1 a1N=some r->Ax Γ N f35 (.n (cQ.c r)) [1,1,1] ⟨[(0,D.sl (aD.map yx)),(3,D.int .i64 a1N)],[]⟩)(hm1:aD.length<=maxLen):∀(rest:bH) (i1:Nat) (ni:Int),aD.drop i1=rest->pX aD k1 rest i1 ni=some r->Ar Γ N f35 (.n (cQ.c r)) [1,1,0,1,0] (rest.length+1) (NN aD ni (i1:Int)):=by
 intro rest
 induction rest with
 |nil=>
  intro i1 ni b8 h;rw[pX]at h;refine aU fun N1 cW cK=>?_
  exact(((((aW.ge yx b8).ge yx b8).ge yx b8).F 1).a [.hl 0 [0,3] []]).ex hΓ cW (dX ni h)
 |cons bS cT ih1=>
  intro i1 ni b8 h;rw[pX]at h;refine aU fun N1 cW cK=>?_
  have kX:=(((aW.lt yx b8).lt yx b8).lt yx b8)
  obtain⟨h13,h⟩|⟨h13,h⟩:=aL h
  ·exact(((kX.b h13).l (bG yx 1 (dc b8) rfl)).a [.cn [0,3,4] []]).ct hΓ cK (iS b8 hm1) (ih1 (i1+1) (Ie .i64 (IntKind.i64.wrap ((IntKind.i64.wrap ((IntKind.i64.wrap (ni*167))+(IntKind.i64.wrap bS)))+29)) 1073741823) (dn b8) h)
  ·exact((kX.b h13).a [.hl 0 [0,3] []]).ex hΓ cW (dX ni h)
theorem KZ{aD:bH}{r:cQ}(h:yG aD=some r):Jy prog 35 [D.sl (aD.map yx)] (cQ.c r):=by
 refine gdN func35 33 fun hr Γ hΓ=>?_
 rw[yG]at h;obtain⟨h14,h⟩:=bQ h;refine(aW.a [.cn [0,3,4] []]).lp hΓ (M9 hΓ (fun a1N h=>?_) (bV h14) aD 0 (IntKind.i64.wrap (851207+(IntKind.i64.wrap (3*((aD.map yx).length:Int))))) rfl h);cases h;exact aW.ret hΓ
def qK(aD:cQ):Option (cQ×Int):=(bif decide ((aD.i:Int)<((aD.b.map yx).length:Int))then((fy aD.b aD.i).bind fun x2=>(some ((⟨aD.b,IntKind.i64.wrap (aD.i+1),IntKind.i64.wrap ((IntKind.i64.wrap (aD.h*6364136223846793005))+1442695040888963407)⟩:cQ),Ie .i64 (IntKind.i64.wrap ((Ie .i64 (VP .i64 (TW .i64 (IntKind.i64.wrap ((IntKind.i64.wrap (aD.h*6364136223846793005))+1442695040888963407)) 35) (TW .i64 (IntKind.i64.wrap ((IntKind.i64.wrap (aD.h*6364136223846793005))+1442695040888963407)) 45)) 255)+(IntKind.i64.wrap x2))) 255)))else(some ((⟨aD.b,aD.i,IntKind.i64.wrap ((IntKind.i64.wrap (aD.h*6364136223846793005))+1442695040888963407)⟩:cQ),Ie .i64 (VP .i64 (TW .i64 (IntKind.i64.wrap ((IntKind.i64.wrap (aD.h*6364136223846793005))+1442695040888963407)) 35) (TW .i64 (IntKind.i64.wrap ((IntKind.i64.wrap (aD.h*6364136223846793005))+1442695040888963407)) 45)) 255)))
theorem u7{aD:cQ}{r:cQ×Int}(h:qK aD=some r):iL prog 134 (cQ.c aD) (cQ.c r.1) [] (D.int .i64 r.2):=by
 refine Jt func134 [[none,none,none],[none]] 58 [D.sl (aD.b.map yx),D.int .i64 aD.i,D.int .i64 aD.h] [] [] fun hr iU Γ hΓ=>?_
 rw[qK]at h;obtain⟨h1,h⟩|⟨h1,h⟩:=aL h
 ·obtain⟨x2,h3,h⟩:=aB h;cases h;exact((((aW.a [.n 10,.n 9]).b h1).a [.n 12]).l (fB yx 1 h3 rfl)).ret hΓ
 ·cases h;exact((aW.a [.n 10,.n 9]).b h1).ret hΓ
def cP(aD:cQ)(aY:Int):Option (cQ×Int):=(bif decide ((aY:Int)<=0)then(some (aD,0))else(bif decide ((aY:Int)<=256)then((qK aD).bind fun y3=>(bif decide (0<=(y3.2:Int))&&decide (0<(aY:Int))then(some (y3.1,(y3.2:Int)%aY))else none))else((qK aD).bind fun y6=>((qK y6.1).bind fun y8=>((qK y8.1).bind fun FY=>(bif decide (0<=(IntKind.i64.wrap ((IntKind.i64.wrap ((IntKind.i64.wrap (y6.2*65536))+(IntKind.i64.wrap (y8.2*256))))+FY.2):Int))&&decide (0<(aY:Int))then(some (FY.1,(IntKind.i64.wrap ((IntKind.i64.wrap ((IntKind.i64.wrap (y6.2*65536))+(IntKind.i64.wrap (y8.2*256))))+FY.2):Int)%aY))else none))))))
theorem cD{aD:cQ}{aY:Int}{r:cQ×Int}(h:cP aD aY=some r):iL prog 76 (cQ.c aD) (cQ.c r.1) [D.int .i64 aY] (D.int .i64 r.2):=by
 refine Jt func76 [[none,none,none],[none]] 31 [D.sl (aD.b.map yx),D.int .i64 aD.i,D.int .i64 aD.h] [D.int .i64 aY] [] fun hr iU Γ hΓ=>?_
 rw[cP]at h;obtain⟨h1,h⟩|⟨h1,h⟩:=aL h
 ·cases h;exact(aW.b h1).ret hΓ
 ·obtain⟨h2,h⟩|⟨h2,h⟩:=aL h
  ·obtain⟨y3,h4,h⟩:=aB h;obtain⟨h5,h⟩:=bQ h;cases h;exact((((aW.b h1).b h2).hp [[none,none,none]] (u7 h4)).w (RZ .i64 h5)).ret hΓ
  ·obtain⟨y6,h7,h⟩:=aB h;obtain⟨y8,h9,h⟩:=aB h;obtain⟨FY,h11,h⟩:=aB h;obtain⟨h12,h⟩:=bQ h;cases h;exact((((((aW.b h1).b h2).hp [[none,none,none]] (u7 h7)).hp [[none,none,none]] (u7 h9)).hp [[none,none,none]] (u7 h11)).w (RZ .i64 h12)).ret hΓ
def eP(aD:cQ)(aY:Int):Option (cQ×Bool):=((cP aD aY).bind fun y1=>(some (y1.1,(y1.2:Int)==0)))
theorem eU{aD:cQ}{aY:Int}{r:cQ×Bool}(h:eP aD aY=some r):iL prog 72 (cQ.c aD) (cQ.c r.1) [D.int .i64 aY] (D.bool r.2):=by
 refine Jt func72 [[none,none,none],[none]] 9 [D.sl (aD.b.map yx),D.int .i64 aD.i,D.int .i64 aD.h] [D.int .i64 aY] [] fun hr iU Γ hΓ=>?_
 rw[eP]at h;obtain⟨y1,h2,h⟩:=aB h;cases h;exact(aW.hp [[none,none,none],[none]] (cD h2)).ret hΓ
def oY(aD:cQ):Option (cQ×(Bytes×Int)):=((cP aD 6).bind fun y1=>((fy ([[111,110],[111,110],[97,116],[112],[113],[122]]:aH) y1.2).bind fun x3=>((fy ([2,2,2,1,1,0]:bH) y1.2).bind fun x5=>(some (y1.1,(x3,x5))))))
theorem CD{aD:cQ}{r:cQ×(Bytes×Int)}(h:oY aD=some r):iL prog 180 (cQ.c aD) (cQ.c r.1) [] (D.ff [D.str r.2.1,D.int .i64 r.2.2]):=by
 refine Jt func180 [[none,none,none],[none],[none]] 15 [D.sl (aD.b.map yx),D.int .i64 aD.i,D.int .i64 aD.h] [] [] fun hr iU Γ hΓ=>?_
 rw[oY]at h;obtain⟨y1,h2,h⟩:=aB h;obtain⟨x3,h4,h⟩:=aB h;obtain⟨x5,h6,h⟩:=aB h;cases h;exact(((((aW.hp [[none,none,none],[none]] (cD h2)).a [.n 9,.vw 0]).l (fB tx 1 h4 rfl)).a [.vw 0]).l (fB gm 1 h6 rfl)).ret hΓ
def qC(aD:cQ)(aY:aH):Option (cQ×Bytes):=((cP aD ((aY.map tx).length:Int)).bind fun y1=>((fy aY y1.2).bind fun x3=>(some (y1.1,x3))))
theorem rX{aD:cQ}{aY:aH}{r:cQ×Bytes}(h:qC aD aY=some r):iL prog 140 (cQ.c aD) (cQ.c r.1) [D.fr 9 1 (aY.map tx)] (D.str r.2):=by
 refine Jt func140 [[none,none,none],[none]] 12 [D.sl (aD.b.map yx),D.int .i64 aD.i,D.int .i64 aD.h] [D.acc 1] [Ob.row .uq 9 1 (aY.map tx)] fun hr iU Γ hΓ=>?_
 rw[qC]at h;obtain⟨y1,h2,h⟩:=aB h;obtain⟨x3,h4,h⟩:=aB h;cases h;exact(((aW.hp [[none,none,none],[none]] (cD h2)).i (ed tx 1 h4)).o 1 1 .uq (cH tx (dN h4))).ret hΓ
def iR(aD:cQ):Option (cQ×Bytes):=((qC aD ([[97],[98],[99],[49],[50]]:aH)).bind fun y1=>(some (y1.1,y1.2)))
theorem xJ{aD:cQ}{r:cQ×Bytes}(h:iR aD=some r):iL prog 181 (cQ.c aD) (cQ.c r.1) [] (D.str r.2):=by
 refine Jt func181 [[none,none,none],[none]] 6 [D.sl (aD.b.map yx),D.int .i64 aD.i,D.int .i64 aD.h] [] [] fun hr iU Γ hΓ=>?_
 rw[iR]at h;obtain⟨y1,h2,h⟩:=aB h;cases h;exact(aW.hp [[none,none,none],[some (9,1)]] (rX h2)).ret hΓ
def qM(aD:cQ):Option (cQ×Bytes):=((eP aD 4).bind fun y1=>(bif y1.2 then((iR y1.1).bind fun y4=>(some (y4.1,y4.2)))else((qC y1.1 ([[63,120],[63,121],[63,122]]:aH)).bind fun y6=>(some (y6.1,y6.2)))))
theorem xM{aD:cQ}{r:cQ×Bytes}(h:qM aD=some r):iL prog 223 (cQ.c aD) (cQ.c r.1) [] (D.str r.2):=by
 refine Jt func223 [[none,none,none],[none]] 10 [D.sl (aD.b.map yx),D.int .i64 aD.i,D.int .i64 aD.h] [] [] fun hr iU Γ hΓ=>?_
 rw[qM]at h;obtain⟨y1,h2,h⟩:=aB h;obtain⟨h3,h⟩|⟨h3,h⟩:=aL h
 ·obtain⟨y4,h5,h⟩:=aB h;cases h;exact(((aW.hp [[none,none,none],[none]] (eU h2)).b h3).hp [[none,none,none]] (xJ h5)).ret hΓ
 ·obtain⟨y6,h7,h⟩:=aB h;cases h;exact(((aW.hp [[none,none,none],[none]] (eU h2)).b h3).hp [[none,none,none],[some (9,1)]] (rX h7)).ret hΓ
def mE(y1:cQ×(Bytes×Int))(k1:bH->Int->Int->aH->Option (cQ×aC)):Nat->Int->bH->Int->Int->aH->Option (cQ×aC)
 |0,_,_,_,_,_=>none
 |n1+1,dH,eg,dV,dW,dK=>(bif decide ((dH:Int)<y1.2.2)then((qM (⟨eg,dV,dW⟩:cQ)).bind fun yT=>(bif room ((dK.map tx).length+([[D.str yT.2]]).length) 16 then(mE y1 k1 n1 (IntKind.i64.wrap (dH+1)) yT.1.b yT.1.i yT.1.h (dK++([yT.2])))else none))else(k1 eg dV dW dK))
def jT(aD:cQ):Option (cQ×aC):=((oY aD).bind fun y1=>(mE y1 (fun(mM:bH) (mN:Int) (mO:Int) (dl:aH)=>(some ((⟨mM,mN,mO⟩:cQ),(⟨y1.2.1,dl⟩:aC)))) fuel 0 y1.1.b y1.1.i y1.1.h ([]:aH)))
def DE(iU:Value)(y1:cQ×(Bytes×Int))(dH:Int)(dV:Int)(dW:Int)(W1:List aQ)(W4:List aQ):St:=⟨[(0,D.ptr 0 0),(2,D.ptr 1 0),(4,D.int .i64 y1.2.2),(5,D.ptr 2 0),(6,D.int .i64 dH)],[Ob.Bq [D.sl W1,D.int .i64 dV,D.int .i64 dW] iU,Ob.box [D.str ([]),D.nil],Ob.box [D.str y1.2.1,D.acc 3],Ob.row .uq 9 1 W4]⟩
theorem Kc(hΓ:Γ.nt=27){iU:Value}{y1:cQ×(Bytes×Int)}{r:cQ×aC}{k1:bH->Int->Int->aH->Option (cQ×aC)}(dX:∀(mM:bH) (mN:Int) (mO:Int) (dl:aH),k1 mM mN mO dl=some r->Ax Γ N f201 (.p [[none,none,none],[none,some (9,1)]] iU (cQ.c r.1) (D.agg [D.str r.2.rel,D.fr 9 1 (r.2.args.map tx)])) [1,1,1,1] ⟨[(2,D.ptr 1 0),(5,D.ptr 2 0)],[Ob.Bq [D.sl (mM.map yx),D.int .i64 mN,D.int .i64 mO] iU,Ob.box [D.str ([]),D.nil],Ob.box [D.str y1.2.1,D.acc 3],Ob.row .uq 9 1 (dl.map tx)]⟩):∀(n1:Nat) (dH:Int) (eg:bH) (dV:Int) (dW:Int) (dK:aH),mE y1 k1 n1 dH eg dV dW dK=some r->Ar Γ N f201 (.p [[none,none,none],[none,some (9,1)]] iU (cQ.c r.1) (D.agg [D.str r.2.rel,D.fr 9 1 (r.2.args.map tx)])) [1,1,1,0,1,0] n1 (DE iU y1 dH dV dW (eg.map yx) (dK.map tx)):=by
 intro n
 induction n with
 |zero=>intro dH eg dV dW dK h;simp[mE]at h
 |succ n1 ih1=>
  intro dH eg dV dW dK h;rw[mE]at h;refine aU fun N1 cW cK=>?_
  obtain⟨h27,h⟩|⟨h27,h⟩:=aL h
  ·obtain⟨yT,h31,h⟩:=aB h;obtain⟨h32,h⟩:=bQ h;exact(((((aW.b h27).a [.n2 [0,1,2,3,4,5,6,7] [0,1,2,3,4,5,6,7] 3 5 [0,1] [0],.gp [[none,none,none]] (cQ.c yT.1) (D.str yT.2)]).w (show iL prog 223 (cQ.c (⟨eg,dV,dW⟩:cQ)) (cQ.c yT.1) [] (D.str yT.2)from by simpa only[bD,au,bg,bZ,bh]using xM h31)).w (bX h32)).a [.cn [0,2,4,5,6] [0,1,2,5]]).cs hΓ cK (DE iU y1 (IntKind.i64.wrap (dH+1)) yT.1.i yT.1.h (yT.1.b.map yx) ((dK.map tx)++([[D.str yT.2]]))) (by first| (simp only[mA]<;>rfl)| (simp only[mA,aC.c,aV.c,aP.c,Action.c,aK.c,aO.c,bM.c,aX.c,Node.c,aG.c,dL.c]<;>rfl)) (ih1 (IntKind.i64.wrap (dH+1)) yT.1.b yT.1.i yT.1.h (dK++([yT.2])) h)
  ·exact((aW.b h27).a [.hl 0 [2,5] [0,1,2,3]]).ex hΓ cW (dX eg dV dW dK h)
theorem oK{aD:cQ}{r:cQ×aC}(h:jT aD=some r):iL prog 201 (cQ.c aD) (cQ.c r.1) [] (D.agg [D.str r.2.rel,D.fr 9 1 (r.2.args.map tx)]):=by
 refine Jt func201 [[none,none,none],[none,some (9,1)]] 27 [D.sl (aD.b.map yx),D.int .i64 aD.i,D.int .i64 aD.h] [] [] fun hr iU Γ hΓ=>?_
 rw[jT]at h;obtain⟨y1,h2,h⟩:=aB h;refine((aW.hp [[none,none,none]] (CD h2)).a [.pb 2 1 9 1,.cn [0,2,4,5,6] [0,1,2,3]]).lp hΓ (Kc hΓ (fun mM mN mO dl h=>?_) fuel 0 y1.1.b y1.1.i y1.1.h ([]:aH) h);cases h;exact aW.ret hΓ
def iH(aD:cQ)(aY:bH):Option (cQ×Int):=((cP aD ((aY.map gm).length:Int)).bind fun y1=>((fy aY y1.2).bind fun x3=>(some (y1.1,x3))))
theorem kM{aD:cQ}{aY:bH}{r:cQ×Int}(h:iH aD aY=some r):iL prog 78 (cQ.c aD) (cQ.c r.1) [D.fr 3 1 (aY.map gm)] (D.int .i64 r.2):=by
 refine Jt func78 [[none,none,none],[none]] 12 [D.sl (aD.b.map yx),D.int .i64 aD.i,D.int .i64 aD.h] [D.acc 1] [Ob.row .uq 3 1 (aY.map gm)] fun hr iU Γ hΓ=>?_
 rw[iH]at h;obtain⟨y1,h2,h⟩:=aB h;obtain⟨x3,h4,h⟩:=aB h;cases h;exact(((aW.hp [[none,none,none],[none]] (cD h2)).i (ed gm 1 h4)).o 1 1 .uq (cH gm (dN h4))).ret hΓ
def wm(aD:cQ)(aY:Bytes)(cX:Bytes):Option (cQ×aP):=((iH aD ([3,4,4,5]:bH)).bind fun y1=>(some (y1.1,(⟨y1.2,(⟨[],[]⟩:aC),aY,cX⟩:aP))))
theorem JU{aD:cQ}{aY:Bytes}{cX:Bytes}{r:cQ×aP}(h:wm aD aY cX=some r):iL prog 224 (cQ.c aD) (cQ.c r.1) [D.str aY,D.str cX] (D.agg [D.int .i64 r.2.kind,D.str r.2.pat.rel,D.fr 9 1 (r.2.pat.args.map tx),D.str r.2.left,D.str r.2.right]):=by
 refine Jt func224 [[none,none,none],[none,none,some (9,1),none,none]] 13 [D.sl (aD.b.map yx),D.int .i64 aD.i,D.int .i64 aD.h] [D.str aY,D.str cX] [] fun hr iU Γ hΓ=>?_
 rw[wm]at h;obtain⟨y1,h2,h⟩:=aB h;cases h;exact(aW.hp [[none,none,none],[some (3,1)]] (kM h2)).ret hΓ
def sM(aD:cQ):Option (cQ×aP):=((cP aD 5).bind fun y1=>(bif (y1.2:Int)==0 then((jT y1.1).bind fun y4=>(some (y4.1,(⟨1,y4.2,[],[]⟩:aP))))else(bif (y1.2:Int)==1 then((jT y1.1).bind fun y7=>(some (y7.1,(⟨1,y7.2,[],[]⟩:aP))))else(bif (y1.2:Int)==2 then((jT y1.1).bind fun FY=>(some (FY.1,(⟨2,FY.2,[],[]⟩:aP))))else((qM y1.1).bind fun Pj=>((qM Pj.1).bind fun yW=>((wm yW.1 Pj.2 yW.2).bind fun PM=>(some (PM.1,PM.2)))))))))
theorem BX{aD:cQ}{r:cQ×aP}(h:sM aD=some r):iL prog 200 (cQ.c aD) (cQ.c r.1) [] (D.agg [D.int .i64 r.2.kind,D.str r.2.pat.rel,D.fr 9 1 (r.2.pat.args.map tx),D.str r.2.left,D.str r.2.right]):=by
 refine Jt func200 [[none,none,none],[none,none,some (9,1),none,none]] 24 [D.sl (aD.b.map yx),D.int .i64 aD.i,D.int .i64 aD.h] [] [] fun hr iU Γ hΓ=>?_
 rw[sM]at h;obtain⟨y1,h2,h⟩:=aB h;obtain⟨h3,h⟩|⟨h3,h⟩:=aL h
 ·obtain⟨y4,h5,h⟩:=aB h;cases h;exact(((aW.hp [[none,none,none],[none]] (cD h2)).r 2 h3).hp [[none,none,none]] (oK h5)).ret hΓ
 ·have kX:=((aW.hp [[none,none,none],[none]] (cD h2)).b h3)
  obtain⟨h6,h⟩|⟨h6,h⟩:=aL h
  ·obtain⟨y7,h8,h⟩:=aB h;cases h;exact((kX.b h6).hp [[none,none,none]] (oK h8)).ret hΓ
  ·obtain⟨h9,h⟩|⟨h9,h⟩:=aL h
   ·obtain⟨FY,h11,h⟩:=aB h;cases h;exact(((kX.b h6).b h9).hp [[none,none,none]] (oK h11)).ret hΓ
   ·obtain⟨Pj,h13,h⟩:=aB h;obtain⟨yW,h15,h⟩:=aB h;obtain⟨PM,h17,h⟩:=aB h;cases h;exact(((((kX.b h6).b h9).hp [[none,none,none]] (xM h13)).hp [[none,none,none]] (xM h15)).hp [[none,none,none],[none],[none]] (JU h17)).ret hΓ
def kL(aD:Int)(aY:Int)(cX:Int):Option Bool:=(bif decide ((aD:Int)>=aY)then(some (decide ((aD:Int)<=cX)))else(some false))
theorem fe{aD:Int}{aY:Int}{cX:Int}{r:Bool}(h:kL aD aY cX=some r):Good prog 99 [D.int .i64 aD,D.int .i64 aY,D.int .i64 cX] (D.bool r):=by
 refine gd func99 [[none]] 15 fun hr Γ hΓ=>?_
 rw[kL]at h;obtain⟨h1,h⟩|⟨h1,h⟩:=aL h
 ·cases h;exact(aW.r 4 h1).ret hΓ
 ·have h:=aN h;subst h;exact(aW.r 4 h1).ret hΓ
def jg(aD:Bytes)(k1:Option Bool):Nat->Int->Option Bool
 |0,_=>none
 |n1+1,ni=>(bif decide ((ni:Int)<(aD.length:Int))then((fy aD ni).bind fun b29=>((kL (IntKind.i64.wrap b29.toNat) 97 122).bind fun HS=>(bif !(HS)then((kL (IntKind.i64.wrap b29.toNat) 48 57).bind fun Fc=>(bif !(Fc)then(some false)else(jg aD k1 n1 (IntKind.i64.wrap (ni+1)))))else(jg aD k1 n1 (IntKind.i64.wrap (ni+1))))))else(k1))
def gF(aD:Bytes):Option Bool:=(jg aD ((kL (aD.length:Int) 1 8).bind fun PN=>(some PN)) fuel 0)
def M0(aD:Bytes)(ni:Int):St:=⟨[(0,D.str aD),(3,D.int .i64 ni)],[]⟩
theorem KN(hΓ:Γ.nt=27){aD:Bytes}{r:Bool}{k1:Option Bool}(dX:k1=some r->Ax Γ N f125 (.q [[none]] (D.bool r)) [1,1] ⟨[(0,D.str aD)],[]⟩):∀(n1:Nat) (ni:Int),jg aD k1 n1 ni=some r->Ar Γ N f125 (.q [[none]] (D.bool r)) [1,0,1,0] n1 (M0 aD ni):=by
 intro n
 induction n with
 |zero=>intro ni h;simp[jg]at h
 |succ n1 ih1=>
  intro ni h;rw[jg]at h;refine aU fun N1 cW cK=>?_
  obtain⟨h28,h⟩|⟨h28,h⟩:=aL h
  ·obtain⟨b29,h30,h⟩:=aB h;obtain⟨HS,h32,h⟩:=aB h;have ij:=(((aW.b h28).c h30).g (fe h32))
   obtain⟨h33,h⟩|⟨h33,h⟩:=aL h
   ·obtain⟨Fc,h35,h⟩:=aB h;have jO:=(((((ij.r 3 h33).c h30).r 2 h33).g (fe h35)).r 2 h33)
    obtain⟨h36,h⟩|⟨h36,h⟩:=aL h
    ·have h:=aN h;subst h;exact(jO.b h36).ret hΓ
    ·exact((jO.b h36).a [.cn [0,3] []]).cf hΓ cK (ih1 (IntKind.i64.wrap (ni+1)) h)
   ·exact(((ij.r 7 h33).F 1).a [.cn [0,3] []]).cf hΓ cK (ih1 (IntKind.i64.wrap (ni+1)) h)
  ·exact((aW.b h28).a [.hl 0 [0] []]).ex hΓ cW (dX h)
theorem fL{aD:Bytes}{r:Bool}(h:gF aD=some r):Good prog 125 [D.str aD] (D.bool r):=by
 refine gd func125 [[none]] 27 fun hr Γ hΓ=>?_
 rw[gF]at h;refine(aW.a [.cn [0,3] []]).lp hΓ (KN hΓ (fun h=>?_) fuel 0 h);obtain⟨PN,h38,h⟩:=aB h;have h:=aN h;subst h;exact(aW.g (fe h38)).ret hΓ
def iF(aD:Bytes):Option Bool:=(bif decide (((aD.length:Int):Int)>1)then((fy aD 0).bind fun b2=>(bif (b2.toNat:Int)==63 then((wT aD.length (some (D.int .i64 1)) none).bind fun p=>(fun l5 u6=>((gF ((aD.take u6).drop l5)).bind fun y8=>(some y8))) p.1 p.2)else(some false)))else(some false))
theorem fq{aD:Bytes}{r:Bool}(h:iF aD=some r):Good prog 148 [D.str aD] (D.bool r):=by
 refine gd func148 [[none]] 16 fun hr Γ hΓ=>?_
 rw[iF]at h;obtain⟨h1,h⟩|⟨h1,h⟩:=aL h
 ·obtain⟨b2,h3,h⟩:=aB h;have kX:=(((aW.r 2 h1).c h3).r 2 h1)
  obtain⟨h4,h⟩|⟨h4,h⟩:=aL h
  ·obtain⟨⟨l5,u6⟩,h7,h⟩:=aB h;obtain⟨y8,h9,h⟩:=aB h;have h:=aN h;subst h;exact((((((kX.r 2 h4).w h7).a [.cut l5 u6]).b h4).g (fL h9)).b h4).ret hΓ
  ·have h:=aN h;subst h;exact(kX.r 4 h4).ret hΓ
 ·have h:=aN h;subst h;exact((aW.r 4 h1).F 4).ret hΓ
def fC(aD:aH)(aY:Bytes)(k1:Bool->aH->Option aH):aH->Nat->Bool->aH->Option aH
 | [],i1,dH,bP=>(k1 dH bP)
 |bS::cT,i1,dH,bP=>(bif !(dH)then(bif !(Op.bytesLess bS aY)then(bif !((bS:Bytes)==aY)then(bif room ((bP.map tx).length+([[D.str aY]]).length) 16 then(bif room (((bP.map tx)++([[D.str aY]])).length+([[D.str bS]]).length) 16 then(fC aD aY k1 cT (i1+1) true ((bP++([aY]))++([bS])))else none)else none)else(bif room ((bP.map tx).length+([[D.str bS]]).length) 16 then(fC aD aY k1 cT (i1+1) true (bP++([bS])))else none))else(bif room ((bP.map tx).length+([[D.str bS]]).length) 16 then(fC aD aY k1 cT (i1+1) dH (bP++([bS])))else none))else(bif room ((bP.map tx).length+([[D.str bS]]).length) 16 then(fC aD aY k1 cT (i1+1) dH (bP++([bS])))else none))
def n7(aD:aH)(aY:Bytes):Option aH:=(fC aD aY (fun(vi:Bool) (cC:aH)=>(bif !(vi)then(bif room ((cC.map tx).length+([[D.str aY]]).length) 16 then(some (cC++([aY])))else none)else(some cC))) aD 0 false ([]:aH))
def uV(aD:aH)(aY:Bytes)(dH:Bool)(W1:List aQ)(dG:Int):St:=⟨[(0,D.sl (aD.map tx)),(1,D.str aY),(5,D.acc 0),(6,D.bool dH),(7,D.int .i64 dG)],[Ob.row .uq 9 1 W1]⟩
theorem MA(hΓ:Γ.nt=49){aD:aH}{aY:Bytes}{r:aH}{k1:Bool->aH->Option aH}(dX:∀(vi:Bool) (cC:aH),k1 vi cC=some r->Ax Γ N f221 (.q [[some (9,1)]] (D.fr 9 1 (r.map tx))) [1,1,1,1] ⟨[(1,D.str aY),(5,D.acc 0),(6,D.bool vi)],[Ob.row .uq 9 1 (cC.map tx)]⟩)(hm1:aD.length<=maxLen):∀(rest:aH) (i1:Nat) (dH:Bool) (bP:aH),aD.drop i1=rest->fC aD aY k1 rest i1 dH bP=some r->Ar Γ N f221 (.q [[some (9,1)]] (D.fr 9 1 (r.map tx))) [1,1,1,0,1,0] (rest.length+1) (uV aD aY dH (bP.map tx) (i1:Int)):=by
 intro rest
 induction rest with
 |nil=>
  intro i1 dH bP b8 h;rw[fC]at h;refine aU fun N1 cW cK=>?_
  exact((aW.ge tx b8).a [.hl 0 [1,5,6] [0]]).ex hΓ cW (dX dH bP h)
 |cons bS cT ih1=>
  intro i1 dH bP b8 h;rw[fC]at h;refine aU fun N1 cW cK=>?_
  obtain⟨h58,h⟩|⟨h58,h⟩:=aL h
  ·have ij:=((((aW.lt tx b8).r 3 h58).l (bG tx 1 (dc b8) rfl)).r 4 h58)
   obtain⟨h59,h⟩|⟨h59,h⟩:=aL h
   ·have jO:=((ij.b h59).l (bG tx 1 (dc b8) rfl))
    obtain⟨h60,h⟩|⟨h60,h⟩:=aL h
    ·obtain⟨h61,h⟩:=bQ h;obtain⟨h62,h⟩:=bQ h;exact(((((jO.b h60).w (bX h61)).l (bG tx 1 (dc b8) rfl)).w (bX h62)).a [.cn [0,1,5,6,7] [4]]).cs hΓ cK (uV aD aY true (((bP.map tx)++([[D.str aY]]))++([[D.str bS]])) (IntKind.i64.wrap ((i1:Int)+1))) (by first| (simp only[iS b8 hm1,mA]<;>rfl)| (simp only[iS b8 hm1,mA,aC.c,aV.c,aP.c,Action.c,aK.c,aO.c,bM.c,aX.c,Node.c,aG.c,dL.c]<;>rfl)) (ih1 (i1+1) true ((bP++([aY]))++([bS])) (dn b8) h)
    ·obtain⟨h63,h⟩:=bQ h;exact((((jO.b h60).l (bG tx 1 (dc b8) rfl)).w (bX h63)).a [.cn [0,1,5,6,7] [2]]).cs hΓ cK (uV aD aY true ((bP.map tx)++([[D.str bS]])) (IntKind.i64.wrap ((i1:Int)+1))) (by first| (simp only[iS b8 hm1,mA]<;>rfl)| (simp only[iS b8 hm1,mA,aC.c,aV.c,aP.c,Action.c,aK.c,aO.c,bM.c,aX.c,Node.c,aG.c,dL.c]<;>rfl)) (ih1 (i1+1) true (bP++([bS])) (dn b8) h)
   ·obtain⟨h64,h⟩:=bQ h;exact((((ij.b h59).l (bG tx 1 (dc b8) rfl)).w (bX h64)).a [.cn [0,1,5,6,7] [2]]).cs hΓ cK (uV aD aY dH ((bP.map tx)++([[D.str bS]])) (IntKind.i64.wrap ((i1:Int)+1))) (by first| (simp only[iS b8 hm1,mA]<;>rfl)| (simp only[iS b8 hm1,mA,aC.c,aV.c,aP.c,Action.c,aK.c,aO.c,bM.c,aX.c,Node.c,aG.c,dL.c]<;>rfl)) (ih1 (i1+1) dH (bP++([bS])) (dn b8) h)
  ·obtain⟨h65,h⟩:=bQ h;exact((((((aW.lt tx b8).r 7 h58).F 1).l (bG tx 1 (dc b8) rfl)).w (bX h65)).a [.cn [0,1,5,6,7] [2]]).cs hΓ cK (uV aD aY dH ((bP.map tx)++([[D.str bS]])) (IntKind.i64.wrap ((i1:Int)+1))) (by first| (simp only[iS b8 hm1,mA]<;>rfl)| (simp only[iS b8 hm1,mA,aC.c,aV.c,aP.c,Action.c,aK.c,aO.c,bM.c,aX.c,Node.c,aG.c,dL.c]<;>rfl)) (ih1 (i1+1) dH (bP++([bS])) (dn b8) h)
theorem n8{aD:aH}{aY:Bytes}{r:aH}(h:n7 aD aY=some r):Good prog 221 [D.sl (aD.map tx),D.str aY] (D.fr 9 1 (r.map tx)):=by
 refine gd func221 [[some (9,1)]] 49 fun hr Γ hΓ=>?_
 rw[n7]at h;refine(aW.a [.cn [0,1,5,6,7] [0]]).lp hΓ (MA hΓ (fun vi cC h=>?_) (by have:=(gb.sl (hr _ (aE (i:=0) rfl))).1;simpa using this) aD 0 false ([]:aH) rfl h);obtain⟨h66,h⟩|⟨h66,h⟩:=aL h
 ·obtain⟨h67,h⟩:=bQ h;cases h;exact((aW.b h66).w (bX h67)).rts hΓ (D.fr 9 1 ((cC.map tx)++([[D.str aY]]))) (by first|rfl| (simp only[mA]<;>rfl))
 ·have h:=aN h;subst h;exact(aW.b h66).ret hΓ
def mC(aD:aC)(k1:aH->Option aH):aH->Nat->aH->Option aH
 | [],i1,bR=>(k1 bR)
 |bS::cT,i1,bR=>((iF bS).bind fun PN=>(bif PN then((n7 bR bS).bind fun Wb=>(mC aD k1 cT (i1+1) Wb))else(mC aD k1 cT (i1+1) bR)))
def oX(aD:aC):Option aH:=(mC aD (fun(cC:aH)=>(some cC)) aD.args 0 ([]:aH))
def M8(aD:aC)(W0:List aQ)(dG:Int):St:=⟨[(1,D.ptr 0 0),(3,D.acc 1),(4,D.int .i64 dG)],[Ob.box (aC.c aD),Ob.row .uq 9 1 W0]⟩
theorem KY(hΓ:Γ.nt=27){aD:aC}{r:aH}{k1:aH->Option aH}(dX:∀(cC:aH),k1 cC=some r->Ax Γ N f195 (.q [[some (9,1)]] (D.fr 9 1 (r.map tx))) [1,1,1] ⟨[(3,D.acc 0)],[Ob.row .uq 9 1 (cC.map tx)]⟩)(hm1:aD.args.length<=maxLen):∀(rest:aH) (i1:Nat) (bR:aH),aD.args.drop i1=rest->mC aD k1 rest i1 bR=some r->Ar Γ N f195 (.q [[some (9,1)]] (D.fr 9 1 (r.map tx))) [1,1,0,1,0] (rest.length+1) (M8 aD (bR.map tx) (i1:Int)):=by
 intro rest
 induction rest with
 |nil=>
  intro i1 bR b8 h;rw[mC]at h;refine aU fun N1 cW cK=>?_
  exact((aW.ge tx b8).a [.hl 0 [3] [1]]).ex hΓ cW (dX bR h)
 |cons bS cT ih1=>
  intro i1 bR b8 h;rw[mC]at h;refine aU fun N1 cW cK=>?_
  obtain⟨PN,h38,h⟩:=aB h;have fE:=(((aW.lt tx b8).l (bG tx 1 (dc b8) rfl)).g (fq h38))
  obtain⟨h39,h⟩|⟨h39,h⟩:=aL h
  ·obtain⟨Wb,h41,h⟩:=aB h;exact((((fE.b h39).l (bG tx 1 (dc b8) rfl)).g (n8 h41)).a [.cn [1,3,4] [0,2]]).ct hΓ cK (iS b8 hm1) (ih1 (i1+1) Wb (dn b8) h)
  ·exact((fE.b h39).a [.cn [1,3,4] [0,1]]).ct hΓ cK (iS b8 hm1) (ih1 (i1+1) bR (dn b8) h)
theorem qf{aD:aC}{r:aH}(h:oX aD=some r):Good prog 195 [D.agg (aC.c aD)] (D.fr 9 1 (r.map tx)):=by
 refine gd func195 [[some (9,1)]] 27 fun hr Γ hΓ=>?_
 rw[oX]at h;refine(aW.a [.cn [1,3,4] [0,1]]).lp hΓ (KY hΓ (fun cC h=>?_) (by have:=(gb.sl (gb.agg (hr _ (aE (i:=0) rfl)) (.sl (aD.args.map tx)) (by simp))).1;simpa using this) aD.args 0 ([]:aH) rfl h);have h:=aN h;subst h;exact aW.ret hΓ
def jz(aD:aK)(aY:Int)(i1:Nat)(Lc:aH)(k2:aH->Option aH):aH->Nat->aH->Option aH
 | [],i2,gH=>(k2 gH)
 |js::ua,i2,gH=>((n7 gH js).bind fun a74=>(jz aD aY i1 Lc k2 ua (i2+1) a74))
def gP(aD:aK)(aY:Int)(k1:aH->Option aH):ar->Nat->aH->Option aH
 | [],i1,bR=>(k1 bR)
 |bS::cT,i1,bR=>(bif decide (((i1:Int):Int)<aY)then(bif (bS.kind:Int)==1 then((oX bS.pat).bind fun Lc=>(bif decide (Lc.length<=maxLen)then(jz aD aY i1 Lc (fun(vN:aH)=>(gP aD aY k1 cT (i1+1) vN)) Lc 0 bR)else none))else(gP aD aY k1 cT (i1+1) bR))else(k1 bR))
def lf(aD:aK)(aY:Int):Option aH:=(gP aD aY (fun(cC:aH)=>(some cC)) aD.conds 0 ([]:aH))
def I2(aD:aK)(aY:Int)(W0:List aQ)(dG:Int):St:=⟨[(1,D.int .i64 aY),(2,D.ptr 0 0),(5,D.acc 1),(6,D.int .i64 dG)],[Ob.box (aK.c aD),Ob.row .uq 9 1 W0]⟩
def I3(aD:aK)(aY:Int)(i1:Nat)(Lc:aH)(W0:List aQ)(dG:Int):St:=⟨[(1,D.int .i64 aY),(2,D.ptr 0 0),(5,D.acc 1),(6,D.int .i64 (i1:Int)),(7,D.acc 2),(8,D.int .i64 dG)],[Ob.box (aK.c aD),Ob.row .uq 9 1 W0,Ob.row .uq 9 1 (Lc.map tx)]⟩
theorem GH(hΓ:Γ.nt=49){aD:aK}{aY:Int}{i1:Nat}{Lc:aH}{r:aH}{k2:aH->Option aH}(zx:∀(vN:aH),k2 vN=some r->Ax Γ N f188 (.q [[some (9,1)]] (D.fr 9 1 (r.map tx))) [1,1,0,1,0,0,1,1] ⟨[(1,D.int .i64 aY),(2,D.ptr 0 0),(5,D.acc 1),(6,D.int .i64 (i1:Int))],[Ob.box (aK.c aD),Ob.row .uq 9 1 (vN.map tx)]⟩)(hm2:Lc.length<=maxLen):∀(rest:aH) (i2:Nat) (gH:aH),Lc.drop i2=rest->jz aD aY i1 Lc k2 rest i2 gH=some r->Ar Γ N f188 (.q [[some (9,1)]] (D.fr 9 1 (r.map tx))) [1,1,0,1,0,0,1,0,0,1,0,1,1,0] (rest.length+1) (I3 aD aY i1 Lc (gH.map tx) (i2:Int)):=by
 intro rest
 induction rest with
 |nil=>
  intro i2 gH hd2 h;rw[jz]at h;refine aU fun N2 vC s6=>?_
  exact((aW.ge tx hd2).a [.hl 3 [1,2,5,6] [0,1]]).ex hΓ vC (zx gH h)
 |cons js ua ih2=>
  intro i2 gH hd2 h;rw[jz]at h;refine aU fun N2 vC s6=>?_
  obtain⟨a74,h184,h⟩:=aB h;exact(((((aW.lt tx hd2).i (mL tx 1 (dc hd2))).o 1 1 .uq (cH tx (dc hd2))).g (n8 h184)).a [.cn [1,2,5,6,7,8] [0,3,2]]).ct hΓ s6 (iS hd2 hm2) (ih2 (i2+1) a74 (dn hd2) h)
theorem GG(hΓ:Γ.nt=49){aD:aK}{aY:Int}{r:aH}{k1:aH->Option aH}(dX:∀(cC:aH),k1 cC=some r->Ax Γ N f188 (.q [[some (9,1)]] (D.fr 9 1 (r.map tx))) [1,1,1] ⟨[(5,D.acc 0)],[Ob.row .uq 9 1 (cC.map tx)]⟩)(hm1:aD.conds.length<=maxLen):∀(rest:ar) (i1:Nat) (bR:aH),aD.conds.drop i1=rest->gP aD aY k1 rest i1 bR=some r->Ar Γ N f188 (.q [[some (9,1)]] (D.fr 9 1 (r.map tx))) [1,1,0,1,0] (rest.length+1) (I2 aD aY (bR.map tx) (i1:Int)):=by
 intro rest
 induction rest with
 |nil=>
  intro i1 bR b8 h;rw[gP]at h;refine aU fun N1 cW cK=>?_
  exact((((((aW.ge aP.c b8).ge aP.c b8).ge aP.c b8).ge aP.c b8).F 1).a [.hl 0 [5] [1]]).ex hΓ cW (dX bR h)
 |cons bS cT ih1=>
  intro i1 bR b8 h;rw[gP]at h;refine aU fun N1 cW cK=>?_
  have ij:=((((aW.lt aP.c b8).lt aP.c b8).lt aP.c b8).lt aP.c b8)
  obtain⟨h157,h⟩|⟨h157,h⟩:=aL h
  ·have jO:=((ij.b h157).l (bG aP.c 5 (dc b8) rfl))
   obtain⟨h158,h⟩|⟨h158,h⟩:=aL h
   ·obtain⟨Lc,h160,h⟩:=aB h;obtain⟨h185,h⟩:=bQ h;refine((((jO.b h158).l (bG aP.c 5 (dc b8) rfl)).g (qf h160)).a [.cn [1,2,5,6,7,8] [0,1,2]]).lp hΓ (GH hΓ (fun vN h=>?_) (bV h185) Lc 0 bR rfl h);exact(aW.a [.cn [1,2,5,6] [0,1]]).ct hΓ cK (iS b8 hm1) (ih1 (i1+1) vN (dn b8) h)
   ·exact((jO.b h158).a [.cn [1,2,5,6] [0,1]]).ct hΓ cK (iS b8 hm1) (ih1 (i1+1) bR (dn b8) h)
  ·exact((ij.b h157).a [.hl 0 [5] [1]]).ex hΓ cW (dX bR h)
theorem kQ{aD:aK}{aY:Int}{r:aH}(h:lf aD aY=some r):Good prog 188 [D.agg (aK.c aD),D.int .i64 aY] (D.fr 9 1 (r.map tx)):=by
 refine gd func188 [[some (9,1)]] 49 fun hr Γ hΓ=>?_
 rw[lf]at h;refine(aW.a [.cn [1,2,5,6] [0,1]]).lp hΓ (GG hΓ (fun cC h=>?_) (by have:=(gb.sl (gb.agg (hr _ (aE (i:=0) rfl)) (.sl (aD.conds.map aP.c)) (by simp))).1;simpa using this) aD.conds 0 ([]:aH) rfl h);have h:=aN h;subst h;exact aW.ret hΓ
def kD(aD:aH)(aY:Bytes)(k1:Option Bool):aH->Nat->Option Bool
 | [],i1=>(k1)
 |bS::cT,i1=>(bif (bS:Bytes)==aY then(some true)else(kD aD aY k1 cT (i1+1)))
def gY(aD:aH)(aY:Bytes):Option Bool:=(kD aD aY (some false) aD 0)
def IJ(aD:aH)(aY:Bytes)(dG:Int):St:=⟨[(0,D.sl (aD.map tx)),(1,D.str aY),(5,D.int .i64 dG)],[]⟩
theorem GX(hΓ:Γ.nt=18){aD:aH}{aY:Bytes}{r:Bool}{k1:Option Bool}(dX:k1=some r->Ax Γ N f191 (.q [[none]] (D.bool r)) [1,1] ⟨[],[]⟩)(hm1:aD.length<=maxLen):∀(rest:aH) (i1:Nat),aD.drop i1=rest->kD aD aY k1 rest i1=some r->Ar Γ N f191 (.q [[none]] (D.bool r)) [1,0,1,0] (rest.length+1) (IJ aD aY (i1:Int)):=by
 intro rest
 induction rest with
 |nil=>
  intro i1 b8 h;rw[kD]at h;refine aU fun N1 cW cK=>?_
  exact((aW.ge tx b8).a [.hl 0 [] []]).ex hΓ cW (dX h)
 |cons bS cT ih1=>
  intro i1 b8 h;rw[kD]at h;refine aU fun N1 cW cK=>?_
  have fE:=((aW.lt tx b8).l (bG tx 1 (dc b8) rfl))
  obtain⟨h13,h⟩|⟨h13,h⟩:=aL h
  ·have h:=aN h;subst h;exact(fE.b h13).ret hΓ
  ·exact((fE.b h13).a [.cn [0,1,5] []]).ct hΓ cK (iS b8 hm1) (ih1 (i1+1) (dn b8) h)
theorem kR{aD:aH}{aY:Bytes}{r:Bool}(h:gY aD aY=some r):Good prog 191 [D.sl (aD.map tx),D.str aY] (D.bool r):=by
 refine gd func191 [[none]] 18 fun hr Γ hΓ=>?_
 rw[gY]at h;refine(aW.a [.cn [0,1,5] []]).lp hΓ (GX hΓ (fun h=>?_) (by have:=(gb.sl (hr _ (aE (i:=0) rfl))).1;simpa using this) aD 0 rfl h);have h:=aN h;subst h;exact aW.ret hΓ
def sJ(aD:Bytes):Option Bool:=((gF aD).bind fun y1=>(bif y1 then((fy aD 0).bind fun b4=>((kL (IntKind.i64.wrap b4.toNat) 97 122).bind fun y6=>(some y6)))else(some false)))
theorem oC{aD:Bytes}{r:Bool}(h:sJ aD=some r):Good prog 126 [D.str aD] (D.bool r):=by
 refine gd func126 [[none]] 11 fun hr Γ hΓ=>?_
 rw[sJ]at h;obtain⟨y1,h2,h⟩:=aB h;obtain⟨h3,h⟩|⟨h3,h⟩:=aL h
 ·obtain⟨b4,h5,h⟩:=aB h;obtain⟨y6,h7,h⟩:=aB h;have h:=aN h;subst h;exact((((((aW.g (fL h2)).r 2 h3).c h5).r 2 h3).g (fe h7)).b h3).ret hΓ
 ·have h:=aN h;subst h;exact((aW.g (fL h2)).r 5 h3).ret hΓ
def jS(aD:Bytes):Option Bool:=((gF aD).bind fun y1=>(bif y1 then(some true)else((iF aD).bind fun y4=>(some y4))))
theorem lI{aD:Bytes}{r:Bool}(h:jS aD=some r):Good prog 205 [D.str aD] (D.bool r):=by
 refine gd func205 [[none]] 9 fun hr Γ hΓ=>?_
 rw[jS]at h;obtain⟨y1,h2,h⟩:=aB h;obtain⟨h3,h⟩|⟨h3,h⟩:=aL h
 ·have h:=aN h;subst h;exact((aW.g (fL h2)).r 3 h3).ret hΓ
 ·obtain⟨y4,h5,h⟩:=aB h;have h:=aN h;subst h;exact((((aW.g (fL h2)).r 2 h3).g (fq h5)).b h3).ret hΓ
def nO(aD:aC)(k1:Option Bool):aH->Nat->Option Bool
 | [],i1=>(k1)
 |bS::cT,i1=>((jS bS).bind fun Mi=>(bif !(Mi)then(some false)else(nO aD k1 cT (i1+1))))
def iQ(aD:aC):Option Bool:=(nO aD ((sJ aD.rel).bind fun Di=>(bif Di then(some (decide ((((aD.args.map tx).length:Int):Int)<=3)))else(some false))) aD.args 0)
def I9(aD:aC)(dG:Int):St:=⟨[(1,D.ptr 0 0),(3,D.int .i64 dG)],[Ob.box (aC.c aD)]⟩
theorem GN(hΓ:Γ.nt=27){aD:aC}{r:Bool}{k1:Option Bool}(dX:k1=some r->Ax Γ N f157 (.q [[none]] (D.bool r)) [1,1] ⟨[(1,D.ptr 0 0)],[Ob.box (aC.c aD)]⟩)(hm1:aD.args.length<=maxLen):∀(rest:aH) (i1:Nat),aD.args.drop i1=rest->nO aD k1 rest i1=some r->Ar Γ N f157 (.q [[none]] (D.bool r)) [1,0,1,0] (rest.length+1) (I9 aD (i1:Int)):=by
 intro rest
 induction rest with
 |nil=>
  intro i1 b8 h;rw[nO]at h;refine aU fun N1 cW cK=>?_
  exact((aW.ge tx b8).a [.hl 0 [1] [0]]).ex hΓ cW (dX h)
 |cons bS cT ih1=>
  intro i1 b8 h;rw[nO]at h;refine aU fun N1 cW cK=>?_
  obtain⟨Mi,h22,h⟩:=aB h;have fE:=(((aW.lt tx b8).l (bG tx 1 (dc b8) rfl)).g (lI h22))
  obtain⟨h23,h⟩|⟨h23,h⟩:=aL h
  ·have h:=aN h;subst h;exact(fE.b h23).ret hΓ
  ·exact((fE.b h23).a [.cn [1,3] [0]]).ct hΓ cK (iS b8 hm1) (ih1 (i1+1) (dn b8) h)
theorem fP{aD:aC}{r:Bool}(h:iQ aD=some r):Good prog 157 [D.agg (aC.c aD)] (D.bool r):=by
 refine gd func157 [[none]] 27 fun hr Γ hΓ=>?_
 rw[iQ]at h;refine(aW.a [.cn [1,3] [0]]).lp hΓ (GN hΓ (fun h=>?_) (by have:=(gb.sl (gb.agg (hr _ (aE (i:=0) rfl)) (.sl (aD.args.map tx)) (by simp))).1;simpa using this) aD.args 0 rfl h);obtain⟨Di,h25,h⟩:=aB h;obtain⟨h26,h⟩|⟨h26,h⟩:=aL h
 ·cases h;exact((aW.g (oC h25)).r 5 h26).ret hΓ
 ·have h:=aN h;subst h;exact((aW.g (oC h25)).r 5 h26).ret hΓ
def qI(aD:aP):Option Bool:=(bif (aD.kind:Int)==1 then((iQ aD.pat).bind fun y2=>(bif y2 then(bif (aD.left:Bytes)==([])then(some ((aD.right:Bytes)==([])))else(some false))else(some false)))else(bif (aD.kind:Int)==2 then((iQ aD.pat).bind fun y7=>(bif y7 then(bif (aD.left:Bytes)==([])then(some ((aD.right:Bytes)==([])))else(some false))else(some false)))else(bif (aD.kind:Int)==3 then(bif (aD.pat.rel:Bytes)==([])then(bif (((aD.pat.args.map tx).length:Int):Int)==0 then((jS aD.left).bind fun yW=>(bif yW then((jS aD.right).bind fun VA=>(some VA))else(some false)))else(some false))else(some false))else(bif (aD.kind:Int)==4 then(bif (aD.pat.rel:Bytes)==([])then(bif (((aD.pat.args.map tx).length:Int):Int)==0 then((jS aD.left).bind fun qp=>(bif qp then((jS aD.right).bind fun xC=>(some xC))else(some false)))else(some false))else(some false))else(bif (aD.kind:Int)==5 then(bif (aD.pat.rel:Bytes)==([])then(bif (((aD.pat.args.map tx).length:Int):Int)==0 then((jS aD.left).bind fun yT=>(bif yT then((jS aD.right).bind fun tV=>(some tV))else(some false)))else(some false))else(some false))else(some false))))))
theorem jD{aD:aP}{r:Bool}(h:qI aD=some r):Good prog 189 [D.agg (aP.c aD)] (D.bool r):=by
 refine gd func189 [[none]] 46 fun hr Γ hΓ=>?_
 rw[qI]at h;obtain⟨h1,h⟩|⟨h1,h⟩:=aL h
 ·obtain⟨y2,h3,h⟩:=aB h;have kX:=((aW.r 2 h1).g (fP h3))
  obtain⟨h4,h⟩|⟨h4,h⟩:=aL h
  ·have fE:=(kX.r 4 h4)
   obtain⟨h5,h⟩|⟨h5,h⟩:=aL h
   ·cases h;exact(fE.r 4 h5).ret hΓ
   ·have h:=aN h;subst h;exact(fE.r 4 h5).ret hΓ
  ·have h:=aN h;subst h;exact((kX.r 4 h4).F 4).ret hΓ
 ·obtain⟨h6,h⟩|⟨h6,h⟩:=aL h
  ·obtain⟨y7,h8,h⟩:=aB h;have ij:=(((aW.b h1).b h6).g (fP h8))
   obtain⟨h9,h⟩|⟨h9,h⟩:=aL h
   ·have jO:=(ij.r 4 h9)
    obtain⟨h10,h⟩|⟨h10,h⟩:=aL h
    ·cases h;exact(jO.r 4 h10).ret hΓ
    ·have h:=aN h;subst h;exact(jO.r 4 h10).ret hΓ
   ·have h:=aN h;subst h;exact((ij.r 4 h9).F 4).ret hΓ
  ·have tS:=((aW.b h1).b h6)
   obtain⟨h11,h⟩|⟨h11,h⟩:=aL h
   ·have wK:=(tS.r 2 h11)
    obtain⟨h12,h⟩|⟨h12,h⟩:=aL h
    ·have z7:=(wK.r 6 h12)
     obtain⟨h13,h⟩|⟨h13,h⟩:=aL h
     ·obtain⟨yW,h15,h⟩:=aB h;have DY:=(((z7.r 3 h13).g (lI h15)).b h13)
      obtain⟨h16,h⟩|⟨h16,h⟩:=aL h
      ·obtain⟨VA,h18,h⟩:=aB h;have h:=aN h;subst h;exact(((DY.r 3 h16).g (lI h18)).b h16).ret hΓ
      ·have h:=aN h;subst h;exact(DY.r 4 h16).ret hΓ
     ·have h:=aN h;subst h;exact((z7.r 4 h13).F 4).ret hΓ
    ·have h:=aN h;subst h;exact((wK.r 6 h12).F 8).ret hΓ
   ·obtain⟨h19,h⟩|⟨h19,h⟩:=aL h
    ·have LL:=((tS.b h11).r 2 h19)
     obtain⟨h20,h⟩|⟨h20,h⟩:=aL h
     ·have Bp:=(LL.r 6 h20)
      obtain⟨h21,h⟩|⟨h21,h⟩:=aL h
      ·obtain⟨qp,h23,h⟩:=aB h;have Gz:=(((Bp.r 3 h21).g (lI h23)).b h21)
       obtain⟨h24,h⟩|⟨h24,h⟩:=aL h
       ·obtain⟨xC,h26,h⟩:=aB h;have h:=aN h;subst h;exact(((Gz.r 3 h24).g (lI h26)).b h24).ret hΓ
       ·have h:=aN h;subst h;exact(Gz.r 4 h24).ret hΓ
      ·have h:=aN h;subst h;exact((Bp.r 4 h21).F 4).ret hΓ
     ·have h:=aN h;subst h;exact((LL.r 6 h20).F 8).ret hΓ
    ·have Ao:=((tS.b h11).b h19)
     obtain⟨h27,h⟩|⟨h27,h⟩:=aL h
     ·obtain⟨h28,h⟩|⟨h28,h⟩:=aL h
      ·have H6:=((Ao.b h27).r 6 h28)
       obtain⟨h29,h⟩|⟨h29,h⟩:=aL h
       ·obtain⟨yT,h31,h⟩:=aB h;have LK:=(((H6.r 3 h29).g (lI h31)).b h29)
        obtain⟨h32,h⟩|⟨h32,h⟩:=aL h
        ·obtain⟨tV,h34,h⟩:=aB h;have h:=aN h;subst h;exact(((LK.r 3 h32).g (lI h34)).b h32).ret hΓ
        ·have h:=aN h;subst h;exact(LK.r 4 h32).ret hΓ
       ·have h:=aN h;subst h;exact((H6.r 4 h29).F 4).ret hΓ
      ·have h:=aN h;subst h;exact(((Ao.b h27).r 6 h28).F 8).ret hΓ
     ·have h:=aN h;subst h;exact(Ao.b h27).ret hΓ
def nV(aD:aP):Option aH:=((oX aD.pat).bind fun y1=>((iF aD.left).bind fun y3=>(bif y3 then((n7 y1 aD.left).bind fun y6=>((iF aD.right).bind fun y8=>(bif y8 then((n7 y6 aD.right).bind fun B3=>(some B3))else(some y6))))else((iF aD.right).bind fun wD=>(bif wD then((n7 y1 aD.right).bind fun PM=>(some PM))else(some y1))))))
theorem rT{aD:aP}{r:aH}(h:nV aD=some r):Good prog 190 [D.agg (aP.c aD)] (D.fr 9 1 (r.map tx)):=by
 refine gd func190 [[some (9,1)]] 22 fun hr Γ hΓ=>?_
 rw[nV]at h;obtain⟨y1,h2,h⟩:=aB h;obtain⟨y3,h4,h⟩:=aB h;have kX:=((aW.g (qf h2)).g (fq h4))
 obtain⟨h5,h⟩|⟨h5,h⟩:=aL h
 ·obtain⟨y6,h7,h⟩:=aB h;obtain⟨y8,h9,h⟩:=aB h;have fE:=(((kX.b h5).g (n8 h7)).g (fq h9))
  obtain⟨h10,h⟩|⟨h10,h⟩:=aL h
  ·obtain⟨B3,h12,h⟩:=aB h;have h:=aN h;subst h;exact((fE.b h10).g (n8 h12)).ret hΓ
  ·have h:=aN h;subst h;exact(fE.b h10).ret hΓ
 ·obtain⟨wD,h14,h⟩:=aB h;have ij:=((kX.b h5).g (fq h14))
  obtain⟨h15,h⟩|⟨h15,h⟩:=aL h
  ·obtain⟨PM,h17,h⟩:=aB h;have h:=aN h;subst h;exact((ij.b h15).g (n8 h17)).ret hΓ
  ·have h:=aN h;subst h;exact(ij.b h15).ret hΓ
def sK(aD:aP):Option Bool:=((qI aD).bind fun y1=>(bif y1 then(some (decide ((aD.kind:Int)>=3)))else(some false)))
theorem tu{aD:aP}{r:Bool}(h:sK aD=some r):Good prog 192 [D.agg (aP.c aD)] (D.bool r):=by
 refine gd func192 [[none]] 10 fun hr Γ hΓ=>?_
 rw[sK]at h;obtain⟨y1,h2,h⟩:=aB h;obtain⟨h3,h⟩|⟨h3,h⟩:=aL h
 ·cases h;exact((aW.g (jD h2)).r 4 h3).ret hΓ
 ·have h:=aN h;subst h;exact((aW.g (jD h2)).r 4 h3).ret hΓ
def gM(aD:aK)(aY:Int)(cX:Bytes)(k1:Option Bool):ar->Nat->Option Bool
 | [],i1=>(k1)
 |bS::cT,i1=>(bif ((i1:Int):Int) != aY then((nV bS).bind fun Fc=>((gY Fc cX).bind fun NH=>(bif NH then(some true)else(gM aD aY cX k1 cT (i1+1)))))else(gM aD aY cX k1 cT (i1+1)))
def ic(aD:aK)(cX:Bytes)(k2:Option Bool):eW->Nat->Option Bool
 | [],i2=>(k2)
 |js::ua,i2=>((oX js.pat).bind fun Tl=>((gY Tl cX).bind fun y69=>(bif y69 then(some true)else(ic aD cX k2 ua (i2+1)))))
def oN(aD:aK)(aY:Int)(cX:Bytes):Option Bool:=(gM aD aY cX (ic aD cX (some false) aD.cY 0) aD.conds 0)
def FP(aD:aK)(aY:Int)(cX:Bytes)(dG:Int):St:=⟨[(1,D.int .i64 aY),(2,D.str cX),(3,D.ptr 0 0),(7,D.int .i64 dG)],[Ob.box (aK.c aD)]⟩
theorem EK(hΓ:Γ.nt=45){aD:aK}{aY:Int}{cX:Bytes}{r:Bool}{k1:Option Bool}(dX:k1=some r->Ax Γ N f193 (.q [[none]] (D.bool r)) [1,1] ⟨[(2,D.str cX),(3,D.ptr 0 0)],[Ob.box (aK.c aD)]⟩)(hm1:aD.conds.length<=maxLen):∀(rest:ar) (i1:Nat),aD.conds.drop i1=rest->gM aD aY cX k1 rest i1=some r->Ar Γ N f193 (.q [[none]] (D.bool r)) [1,0,1,0] (rest.length+1) (FP aD aY cX (i1:Int)):=by
 intro rest
 induction rest with
 |nil=>
  intro i1 b8 h;rw[gM]at h;refine aU fun N1 cW cK=>?_
  exact((aW.ge aP.c b8).a [.hl 0 [2,3] [0]]).ex hΓ cW (dX h)
 |cons bS cT ih1=>
  intro i1 b8 h;rw[gM]at h;refine aU fun N1 cW cK=>?_
  obtain⟨h33,h⟩|⟨h33,h⟩:=aL h
  ·obtain⟨Fc,h35,h⟩:=aB h;obtain⟨NH,h37,h⟩:=aB h;have ij:=((((((((aW.lt aP.c b8).r 4 h33).l (bG aP.c 5 (dc b8) rfl)).r 2 h33).g (rT h35)).r 2 h33).g (kR h37)).b h33)
   obtain⟨h38,h⟩|⟨h38,h⟩:=aL h
   ·have h:=aN h;subst h;exact(ij.b h38).ret hΓ
   ·exact((ij.b h38).a [.cn [1,2,3,7] [0]]).ct hΓ cK (iS b8 hm1) (ih1 (i1+1) (dn b8) h)
  ·exact((((aW.lt aP.c b8).r 9 h33).F 1).a [.cn [1,2,3,7] [0]]).ct hΓ cK (iS b8 hm1) (ih1 (i1+1) (dn b8) h)
def FQ(aD:aK)(cX:Bytes)(dG:Int):St:=⟨[(2,D.str cX),(3,D.ptr 0 0),(8,D.int .i64 dG)],[Ob.box (aK.c aD)]⟩
theorem EL(hΓ:Γ.nt=45){aD:aK}{cX:Bytes}{r:Bool}{k2:Option Bool}(zx:k2=some r->Ax Γ N f193 (.q [[none]] (D.bool r)) [1,1,1] ⟨[],[]⟩)(hm2:aD.cY.length<=maxLen):∀(rest:eW) (i2:Nat),aD.cY.drop i2=rest->ic aD cX k2 rest i2=some r->Ar Γ N f193 (.q [[none]] (D.bool r)) [1,1,0,1,0] (rest.length+1) (FQ aD cX (i2:Int)):=by
 intro rest
 induction rest with
 |nil=>
  intro i2 hd2 h;rw[ic]at h;refine aU fun N2 vC s6=>?_
  exact((aW.ge Action.c hd2).a [.hl 0 [] []]).ex hΓ vC (zx h)
 |cons js ua ih2=>
  intro i2 hd2 h;rw[ic]at h;refine aU fun N2 vC s6=>?_
  obtain⟨Tl,h68,h⟩:=aB h;obtain⟨y69,h70,h⟩:=aB h;have jO:=((((aW.lt Action.c hd2).l (bG Action.c 3 (dc hd2) rfl)).g (qf h68)).g (kR h70))
  obtain⟨h71,h⟩|⟨h71,h⟩:=aL h
  ·have h:=aN h;subst h;exact(jO.b h71).ret hΓ
  ·exact((jO.b h71).a [.cn [2,3,8] [0]]).ct hΓ s6 (iS hd2 hm2) (ih2 (i2+1) (dn hd2) h)
theorem xZ{aD:aK}{aY:Int}{cX:Bytes}{r:Bool}(h:oN aD aY cX=some r):Good prog 193 [D.agg (aK.c aD),D.int .i64 aY,D.str cX] (D.bool r):=by
 refine gd func193 [[none]] 45 fun hr Γ hΓ=>?_
 rw[oN]at h;refine(aW.a [.cn [1,2,3,7] [0]]).lp hΓ (EK hΓ (fun h=>?_) (by have:=(gb.sl (gb.agg (hr _ (aE (i:=0) rfl)) (.sl (aD.conds.map aP.c)) (by simp))).1;simpa using this) aD.conds 0 rfl h);refine(aW.a [.cn [2,3,8] [0]]).lp hΓ (EL hΓ (fun h=>?_) (by have:=(gb.sl (gb.agg (hr _ (aE (i:=0) rfl)) (.sl (aD.cY.map Action.c)) (by simp))).1;simpa using this) aD.cY 0 rfl h);have h:=aN h;subst h;exact aW.ret hΓ
def uR(aD:Action):Option Bool:=(bif (aD.kind:Int)==1 then((iQ aD.pat).bind fun y2=>(some y2))else(bif (aD.kind:Int)==2 then((iQ aD.pat).bind fun y5=>(some y5))else(bif (aD.kind:Int)==3 then(bif (aD.pat.rel:Bytes)==([])then(some ((((aD.pat.args.map tx).length:Int):Int)==0))else(some false))else(some false))))
theorem GJ{aD:Action}{r:Bool}(h:uR aD=some r):Good prog 194 [D.agg (Action.c aD)] (D.bool r):=by
 refine gd func194 [[none]] 24 fun hr Γ hΓ=>?_
 rw[uR]at h;obtain⟨h1,h⟩|⟨h1,h⟩:=aL h
 ·obtain⟨y2,h3,h⟩:=aB h;have h:=aN h;subst h;exact((aW.r 2 h1).g (fP h3)).ret hΓ
 ·obtain⟨h4,h⟩|⟨h4,h⟩:=aL h
  ·obtain⟨y5,h6,h⟩:=aB h;have h:=aN h;subst h;exact(((aW.b h1).b h4).g (fP h6)).ret hΓ
  ·have kX:=((aW.b h1).b h4)
   obtain⟨h7,h⟩|⟨h7,h⟩:=aL h
   ·obtain⟨h8,h⟩|⟨h8,h⟩:=aL h
    ·cases h;exact((kX.b h7).r 6 h8).ret hΓ
    ·have h:=aN h;subst h;exact((kX.b h7).r 6 h8).ret hΓ
   ·have h:=aN h;subst h;exact(kX.b h7).ret hΓ
def lJ(aD:aK)(i1:Nat)(C9:aH)(k2:aH->Option aH):aH->Nat->aH->Option aH
 | [],i2,gH=>(k2 gH)
 |js::ua,i2,gH=>((n7 gH js).bind fun a73=>(lJ aD i1 C9 k2 ua (i2+1) a73))
def jH(aD:aK)(k1:aH->Option aH):ar->Nat->aH->Option aH
 | [],i1,bR=>(k1 bR)
 |bS::cT,i1,bR=>((nV bS).bind fun C9=>(bif decide (C9.length<=maxLen)then(lJ aD i1 C9 (fun(vN:aH)=>(jH aD k1 cT (i1+1) vN)) C9 0 bR)else none))
def lK(aD:aK)(i3:Nat)(Lf:aH)(k4:aH->Option aH):aH->Nat->aH->Option aH
 | [],i4,Rt=>(k4 Rt)
 |x4_::xs4,i4,Rt=>((n7 Rt x4_).bind fun a77=>(lK aD i3 Lf k4 xs4 (i4+1) a77))
def iG(aD:aK)(k3:aH->Option aH):eW->Nat->aH->Option aH
 | [],i3,AK=>(k3 AK)
 |QZ::PL,i3,AK=>((oX QZ.pat).bind fun Lf=>(bif decide (Lf.length<=maxLen)then(lK aD i3 Lf (fun(XX:aH)=>(iG aD k3 PL (i3+1) XX)) Lf 0 AK)else none))
def uT(aD:aK):Option aH:=(jH aD (fun(jo:aH)=>(iG aD (fun(a0B:aH)=>(some a0B)) aD.cY 0 jo)) aD.conds 0 ([]:aH))
def JL(aD:aK)(W0:List aQ)(dG:Int):St:=⟨[(1,D.ptr 0 0),(3,D.acc 1),(4,D.int .i64 dG)],[Ob.box (aK.c aD),Ob.row .uq 9 1 W0]⟩
def JM(aD:aK)(i1:Nat)(C9:aH)(W0:List aQ)(dG:Int):St:=⟨[(1,D.ptr 0 0),(3,D.acc 1),(4,D.int .i64 (i1:Int)),(5,D.acc 2),(6,D.int .i64 dG)],[Ob.box (aK.c aD),Ob.row .uq 9 1 W0,Ob.row .uq 9 1 (C9.map tx)]⟩
theorem IE(hΓ:Γ.nt=63){aD:aK}{i1:Nat}{C9:aH}{r:aH}{k2:aH->Option aH}(zx:∀(vN:aH),k2 vN=some r->Ax Γ N f196 (.q [[some (9,1)]] (D.fr 9 1 (r.map tx))) [1,1,0,1,0,0,1,1] ⟨[(1,D.ptr 0 0),(3,D.acc 1),(4,D.int .i64 (i1:Int))],[Ob.box (aK.c aD),Ob.row .uq 9 1 (vN.map tx)]⟩)(hm2:C9.length<=maxLen):∀(rest:aH) (i2:Nat) (gH:aH),C9.drop i2=rest->lJ aD i1 C9 k2 rest i2 gH=some r->Ar Γ N f196 (.q [[some (9,1)]] (D.fr 9 1 (r.map tx))) [1,1,0,1,0,0,1,0,0,1,1,0] (rest.length+1) (JM aD i1 C9 (gH.map tx) (i2:Int)):=by
 intro rest
 induction rest with
 |nil=>
  intro i2 gH hd2 h;rw[lJ]at h;refine aU fun N2 vC s6=>?_
  exact((aW.ge tx hd2).a [.hl 3 [1,3,4] [0,1]]).ex hΓ vC (zx gH h)
 |cons js ua ih2=>
  intro i2 gH hd2 h;rw[lJ]at h;refine aU fun N2 vC s6=>?_
  obtain⟨a73,h172,h⟩:=aB h;exact(((((aW.lt tx hd2).i (mL tx 1 (dc hd2))).o 1 1 .uq (cH tx (dc hd2))).g (n8 h172)).a [.cn [1,3,4,5,6] [0,3,2]]).ct hΓ s6 (iS hd2 hm2) (ih2 (i2+1) a73 (dn hd2) h)
theorem ID(hΓ:Γ.nt=63){aD:aK}{r:aH}{k1:aH->Option aH}(dX:∀(jo:aH),k1 jo=some r->Ax Γ N f196 (.q [[some (9,1)]] (D.fr 9 1 (r.map tx))) [1,1,1] ⟨[(1,D.ptr 0 0),(3,D.acc 1)],[Ob.box (aK.c aD),Ob.row .uq 9 1 (jo.map tx)]⟩)(hm1:aD.conds.length<=maxLen):∀(rest:ar) (i1:Nat) (bR:aH),aD.conds.drop i1=rest->jH aD k1 rest i1 bR=some r->Ar Γ N f196 (.q [[some (9,1)]] (D.fr 9 1 (r.map tx))) [1,1,0,1,0] (rest.length+1) (JL aD (bR.map tx) (i1:Int)):=by
 intro rest
 induction rest with
 |nil=>
  intro i1 bR b8 h;rw[jH]at h;refine aU fun N1 cW cK=>?_
  exact((aW.ge aP.c b8).a [.hl 0 [1,3] [0,1]]).ex hΓ cW (dX bR h)
 |cons bS cT ih1=>
  intro i1 bR b8 h;rw[jH]at h;refine aU fun N1 cW cK=>?_
  obtain⟨C9,h148,h⟩:=aB h;obtain⟨h173,h⟩:=bQ h;refine((((aW.lt aP.c b8).l (bG aP.c 5 (dc b8) rfl)).g (rT h148)).a [.cn [1,3,4,5,6] [0,1,2]]).lp hΓ (IE hΓ (fun vN h=>?_) (bV h173) C9 0 bR rfl h);exact(aW.a [.cn [1,3,4] [0,1]]).ct hΓ cK (iS b8 hm1) (ih1 (i1+1) vN (dn b8) h)
def JN(aD:aK)(W0:List aQ)(dG:Int):St:=⟨[(1,D.ptr 0 0),(3,D.acc 1),(7,D.int .i64 dG)],[Ob.box (aK.c aD),Ob.row .uq 9 1 W0]⟩
def JO(aD:aK)(i3:Nat)(Lf:aH)(W0:List aQ)(dG:Int):St:=⟨[(1,D.ptr 0 0),(3,D.acc 1),(7,D.int .i64 (i3:Int)),(8,D.acc 2),(9,D.int .i64 dG)],[Ob.box (aK.c aD),Ob.row .uq 9 1 W0,Ob.row .uq 9 1 (Lf.map tx)]⟩
theorem IG(hΓ:Γ.nt=63){aD:aK}{i3:Nat}{Lf:aH}{r:aH}{k4:aH->Option aH}(hE4:∀(XX:aH),k4 XX=some r->Ax Γ N f196 (.q [[some (9,1)]] (D.fr 9 1 (r.map tx))) [1,1,1,0,1,0,0,1,1] ⟨[(1,D.ptr 0 0),(3,D.acc 1),(7,D.int .i64 (i3:Int))],[Ob.box (aK.c aD),Ob.row .uq 9 1 (XX.map tx)]⟩)(hm4:Lf.length<=maxLen):∀(rest:aH) (i4:Nat) (Rt:aH),Lf.drop i4=rest->lK aD i3 Lf k4 rest i4 Rt=some r->Ar Γ N f196 (.q [[some (9,1)]] (D.fr 9 1 (r.map tx))) [1,1,1,0,1,0,0,1,0,0,1,1,0] (rest.length+1) (JO aD i3 Lf (Rt.map tx) (i4:Int)):=by
 intro rest
 induction rest with
 |nil=>
  intro i4 Rt UB h;rw[lK]at h;refine aU fun N4 hN4 hS4=>?_
  exact((aW.ge tx UB).a [.hl 3 [1,3,7] [0,1]]).ex hΓ hN4 (hE4 Rt h)
 |cons x4_ xs4 ih4=>
  intro i4 Rt UB h;rw[lK]at h;refine aU fun N4 hN4 hS4=>?_
  obtain⟨a77,h345,h⟩:=aB h;exact(((((aW.lt tx UB).i (mL tx 1 (dc UB))).o 1 1 .uq (cH tx (dc UB))).g (n8 h345)).a [.cn [1,3,7,8,9] [0,3,2]]).ct hΓ hS4 (iS UB hm4) (ih4 (i4+1) a77 (dn UB) h)
theorem IF(hΓ:Γ.nt=63){aD:aK}{r:aH}{k3:aH->Option aH}(Ym:∀(a0B:aH),k3 a0B=some r->Ax Γ N f196 (.q [[some (9,1)]] (D.fr 9 1 (r.map tx))) [1,1,1,1] ⟨[(3,D.acc 0)],[Ob.row .uq 9 1 (a0B.map tx)]⟩)(Ry:aD.cY.length<=maxLen):∀(rest:eW) (i3:Nat) (AK:aH),aD.cY.drop i3=rest->iG aD k3 rest i3 AK=some r->Ar Γ N f196 (.q [[some (9,1)]] (D.fr 9 1 (r.map tx))) [1,1,1,0,1,0] (rest.length+1) (JN aD (AK.map tx) (i3:Int)):=by
 intro rest
 induction rest with
 |nil=>
  intro i3 AK yO h;rw[iG]at h;refine aU fun N3 Se ON=>?_
  exact((aW.ge Action.c yO).a [.hl 0 [3] [1]]).ex hΓ Se (Ym AK h)
 |cons QZ PL ih3=>
  intro i3 AK yO h;rw[iG]at h;refine aU fun N3 Se ON=>?_
  obtain⟨Lf,h321,h⟩:=aB h;obtain⟨h346,h⟩:=bQ h;refine((((aW.lt Action.c yO).l (bG Action.c 3 (dc yO) rfl)).g (qf h321)).a [.cn [1,3,7,8,9] [0,1,2]]).lp hΓ (IG hΓ (fun XX h=>?_) (bV h346) Lf 0 AK rfl h);exact(aW.a [.cn [1,3,7] [0,1]]).ct hΓ ON (iS yO Ry) (ih3 (i3+1) XX (dn yO) h)
theorem GU{aD:aK}{r:aH}(h:uT aD=some r):Good prog 196 [D.agg (aK.c aD)] (D.fr 9 1 (r.map tx)):=by
 refine gd func196 [[some (9,1)]] 63 fun hr Γ hΓ=>?_
 rw[uT]at h;refine(aW.a [.cn [1,3,4] [0,1]]).lp hΓ (ID hΓ (fun jo h=>?_) (by have:=(gb.sl (gb.agg (hr _ (aE (i:=0) rfl)) (.sl (aD.conds.map aP.c)) (by simp))).1;simpa using this) aD.conds 0 ([]:aH) rfl h);refine(aW.a [.cn [1,3,7] [0,1]]).lp hΓ (IF hΓ (fun a0B h=>?_) (by have:=(gb.sl (gb.agg (hr _ (aE (i:=0) rfl)) (.sl (aD.cY.map Action.c)) (by simp))).1;simpa using this) aD.cY 0 jo rfl h);have h:=aN h;subst h;exact aW.ret hΓ
def gV(aD:aK)(wD:aH)(i1:Nat)(bS:aP)(Li:aH)(FZ:aH)(k2:Option Bool):aH->Nat->Option Bool
 | [],i2=>(k2)
 |js::ua,i2=>((gY Li js).bind fun a78=>((sK bS).bind fun aA1=>(bif aA1 then(bif !(a78)then(some false)else(bif (bS.kind:Int)==2 then(gV aD wD i1 bS Li FZ k2 ua (i2+1))else(gV aD wD i1 bS Li FZ k2 ua (i2+1))))else(bif (bS.kind:Int)==2 then(bif !(a78)then((oN aD (i1:Int) js).bind fun aA2=>(bif aA2 then(some false)else(gV aD wD i1 bS Li FZ k2 ua (i2+1))))else(gV aD wD i1 bS Li FZ k2 ua (i2+1)))else(gV aD wD i1 bS Li FZ k2 ua (i2+1))))))
def gW(aD:aK)(wD:aH)(i1:Nat)(bS:aP)(Lj:aH)(Fa:aH)(k3:Option Bool):aH->Nat->Option Bool
 | [],i3=>(k3)
 |QZ::PL,i3=>((gY Lj QZ).bind fun a7A=>((sK bS).bind fun aA4=>(bif aA4 then(bif !(a7A)then(some false)else(bif (bS.kind:Int)==2 then(gW aD wD i1 bS Lj Fa k3 PL (i3+1))else(gW aD wD i1 bS Lj Fa k3 PL (i3+1))))else(bif (bS.kind:Int)==2 then(bif !(a7A)then((oN aD (i1:Int) QZ).bind fun aA5=>(bif aA5 then(some false)else(gW aD wD i1 bS Lj Fa k3 PL (i3+1))))else(gW aD wD i1 bS Lj Fa k3 PL (i3+1)))else(gW aD wD i1 bS Lj Fa k3 PL (i3+1))))))
def lq(aD:aK)(wD:aH)(k1:Option Bool):ar->Nat->Option Bool
 | [],i1=>(k1)
 |bS::cT,i1=>((qI bS).bind fun aA0=>(bif !(aA0)then(some false)else(bif ((i1:Int):Int)==0 then(bif (bS.kind:Int) != 1 then(some false)else((lf aD (i1:Int)).bind fun Li=>((nV bS).bind fun FZ=>(bif decide (FZ.length<=maxLen)then(gV aD wD i1 bS Li FZ (lq aD wD k1 cT (i1+1)) FZ 0)else none))))else((lf aD (i1:Int)).bind fun Lj=>((nV bS).bind fun Fa=>(bif decide (Fa.length<=maxLen)then(gW aD wD i1 bS Lj Fa (lq aD wD k1 cT (i1+1)) Fa 0)else none))))))
def oF(aD:aK)(wD:aH)(i4:Nat)(Ll:aH)(k5:Option Bool):aH->Nat->Option Bool
 | [],i5=>(k5)
 |x5_::xs5,i5=>((gY wD x5_).bind fun aA8=>(bif !(aA8)then(some false)else(oF aD wD i4 Ll k5 xs5 (i5+1))))
def oD(aD:aK)(wD:aH)(k4:Option Bool):eW->Nat->Option Bool
 | [],i4=>(k4)
 |x4_::xs4,i4=>((uR x4_).bind fun aA6=>(bif !(aA6)then(some false)else((oX x4_.pat).bind fun Ll=>(bif decide (Ll.length<=maxLen)then(oF aD wD i4 Ll (oD aD wD k4 xs4 (i4+1)) Ll 0)else none))))
def mS(aD:aK):Option Bool:=((sJ aD.name).bind fun y1=>(bif !(y1)then(some false)else((kL aD.prio 0 9).bind fun y4=>(bif !(y4)then(some false)else((kL ((aD.conds.map aP.c).length:Int) 1 4).bind fun y7=>(bif !(y7)then(some false)else((kL ((aD.cY.map Action.c).length:Int) 1 2).bind fun FY=>(bif !(FY)then(some false)else((lf aD ((aD.conds.map aP.c).length:Int)).bind fun wD=>(lq aD wD (oD aD wD ((uT aD).bind fun aA9=>(some (decide ((((aA9.map tx).length:Int):Int)<=6)))) aD.cY 0) aD.conds 0))))))))))
def M2(aD:aK)(wD:aH)(dG:Int):St:=⟨[(1,D.ptr 0 0),(3,D.acc 1),(4,D.int .i64 dG)],[Ob.box (aK.c aD),Ob.row .uq 9 1 (wD.map tx)]⟩
def M3(aD:aK)(wD:aH)(i1:Nat)(bS:aP)(Li:aH)(FZ:aH)(dG:Int):St:=⟨[(1,D.ptr 0 0),(3,D.acc 1),(4,D.int .i64 (i1:Int)),(5,D.ptr 2 0),(6,D.acc 3),(7,D.acc 4),(8,D.int .i64 dG)],[Ob.box (aK.c aD),Ob.row .uq 9 1 (wD.map tx),Ob.box [D.int .i64 bS.kind,D.str bS.pat.rel,D.sl (bS.pat.args.map tx),D.str bS.left,D.str bS.right],Ob.row .uq 9 1 (Li.map tx),Ob.row .uq 9 1 (FZ.map tx)]⟩
theorem KR(hΓ:Γ.nt=145){aD:aK}{wD:aH}{i1:Nat}{bS:aP}{Li:aH}{FZ:aH}{r:Bool}{k2:Option Bool}(zx:k2=some r->Ax Γ N f128 (.q [[none]] (D.bool r)) [1,1,1,0,1,0,0,1,1] ⟨[(1,D.ptr 0 0),(3,D.acc 1),(4,D.int .i64 (i1:Int))],[Ob.box (aK.c aD),Ob.row .uq 9 1 (wD.map tx)]⟩)(hm2:FZ.length<=maxLen):∀(rest:aH) (i2:Nat),FZ.drop i2=rest->gV aD wD i1 bS Li FZ k2 rest i2=some r->Ar Γ N f128 (.q [[none]] (D.bool r)) [1,1,1,0,1,0,0,1,0,0,1,1,1,1,1,0] (rest.length+1) (M3 aD wD i1 bS Li FZ (i2:Int)):=by
 intro rest
 induction rest with
 |nil=>
  intro i2 hd2 h;rw[gV]at h;refine aU fun N2 vC s6=>?_
  exact((aW.ge tx hd2).a [.hl 3 [1,3,4] [0,1]]).ex hΓ vC (zx h)
 |cons js ua ih2=>
  intro i2 hd2 h;rw[gV]at h;refine aU fun N2 vC s6=>?_
  obtain⟨a78,h711,h⟩:=aB h;obtain⟨aA1,h713,h⟩:=aB h;have a4L:=((((((aW.lt tx hd2).i (mL tx 1 (dc hd2))).o 1 1 .uq (cH tx (dc hd2))).g (kR h711)).a [.n 21]).g (tu h713))
  obtain⟨h714,h⟩|⟨h714,h⟩:=aL h
  ·have a4M:=(a4L.r 3 h714)
   obtain⟨h715,h⟩|⟨h715,h⟩:=aL h
   ·have h:=aN h;subst h;exact((((((a4M.r 4 h715).a [bF,bF]).r 2 h715).a [bF,bF,bF,bF,bF,bF,bF]).r 2 h715).T 1).ret hΓ
   ·have a4N:=(a4M.r 4 h715)
    obtain⟨h716,h⟩|⟨h716,h⟩:=aL h
    ·exact((((((a4N.r 2 h716).b h715).b h716).r 11 h715).F 1).a [.cn [1,3,4,5,6,7,8] [0,1,2,3,4]]).ct hΓ s6 (iS hd2 hm2) (ih2 (i2+1) (dn hd2) h)
    ·exact((((((((((a4N.r 2 h716).b h715).b h716).b h715).F 7).b h715).F 1).b h715).F 1).a [.cn [1,3,4,5,6,7,8] [0,1,2,3,4]]).ct hΓ s6 (iS hd2 hm2) (ih2 (i2+1) (dn hd2) h)
  ·have a4O:=((a4L.r 3 h714).F 4)
   obtain⟨h717,h⟩|⟨h717,h⟩:=aL h
   ·have a4P:=((((a4O.r 2 h717).F 1).b h717).F 1)
    obtain⟨h718,h⟩|⟨h718,h⟩:=aL h
    ·obtain⟨aA2,h720,h⟩:=aB h;have a4Q:=(((((((((a4P.r 5 h718).i (mL tx 1 (dc hd2))).b h718).o 1 1 .uq (cH tx (dc hd2))).b h718).g (xZ h720)).F 1).b h718).F 1)
     obtain⟨h721,h⟩|⟨h721,h⟩:=aL h
     ·have h:=aN h;subst h;exact(a4Q.b h721).ret hΓ
     ·exact((a4Q.b h721).a [.cn [1,3,4,5,6,7,8] [0,1,2,3,4]]).ct hΓ s6 (iS hd2 hm2) (ih2 (i2+1) (dn hd2) h)
    ·exact(((((a4P.r 7 h718).F 1).b h718).F 2).a [.cn [1,3,4,5,6,7,8] [0,1,2,3,4]]).ct hΓ s6 (iS hd2 hm2) (ih2 (i2+1) (dn hd2) h)
   ·exact(((((a4O.r 2 h717).F 1).b h717).F 12).a [.cn [1,3,4,5,6,7,8] [0,1,2,3,4]]).ct hΓ s6 (iS hd2 hm2) (ih2 (i2+1) (dn hd2) h)
def M4(aD:aK)(wD:aH)(i1:Nat)(bS:aP)(Lj:aH)(Fa:aH)(dG:Int):St:=⟨[(1,D.ptr 0 0),(3,D.acc 1),(4,D.int .i64 (i1:Int)),(5,D.ptr 2 0),(6,D.acc 3),(7,D.acc 4),(8,D.int .i64 dG)],[Ob.box (aK.c aD),Ob.row .uq 9 1 (wD.map tx),Ob.box [D.int .i64 bS.kind,D.str bS.pat.rel,D.sl (bS.pat.args.map tx),D.str bS.left,D.str bS.right],Ob.row .uq 9 1 (Lj.map tx),Ob.row .uq 9 1 (Fa.map tx)]⟩
theorem KS(hΓ:Γ.nt=145){aD:aK}{wD:aH}{i1:Nat}{bS:aP}{Lj:aH}{Fa:aH}{r:Bool}{k3:Option Bool}(Ym:k3=some r->Ax Γ N f128 (.q [[none]] (D.bool r)) [1,1,1,0,1,0,0,1,1] ⟨[(1,D.ptr 0 0),(3,D.acc 1),(4,D.int .i64 (i1:Int))],[Ob.box (aK.c aD),Ob.row .uq 9 1 (wD.map tx)]⟩)(Ry:Fa.length<=maxLen):∀(rest:aH) (i3:Nat),Fa.drop i3=rest->gW aD wD i1 bS Lj Fa k3 rest i3=some r->Ar Γ N f128 (.q [[none]] (D.bool r)) [1,1,1,0,1,0,0,1,0,0,1,1,1,1,1,0] (rest.length+1) (M4 aD wD i1 bS Lj Fa (i3:Int)):=by
 intro rest
 induction rest with
 |nil=>
  intro i3 yO h;rw[gW]at h;refine aU fun N3 Se ON=>?_
  exact((aW.ge tx yO).a [.hl 3 [1,3,4] [0,1]]).ex hΓ Se (Ym h)
 |cons QZ PL ih3=>
  intro i3 yO h;rw[gW]at h;refine aU fun N3 Se ON=>?_
  obtain⟨a7A,h786,h⟩:=aB h;obtain⟨aA4,h788,h⟩:=aB h;have a4R:=((((((aW.lt tx yO).i (mL tx 1 (dc yO))).o 1 1 .uq (cH tx (dc yO))).g (kR h786)).a [.n 21]).g (tu h788))
  obtain⟨h789,h⟩|⟨h789,h⟩:=aL h
  ·have a4S:=(a4R.r 3 h789)
   obtain⟨h790,h⟩|⟨h790,h⟩:=aL h
   ·have h:=aN h;subst h;exact((((((a4S.r 4 h790).a [bF,bF]).r 2 h790).a [bF,bF,bF,bF,bF,bF,bF]).r 2 h790).T 1).ret hΓ
   ·have a4T:=(a4S.r 4 h790)
    obtain⟨h791,h⟩|⟨h791,h⟩:=aL h
    ·exact((((((a4T.r 2 h791).b h790).b h791).r 11 h790).F 1).a [.cn [1,3,4,5,6,7,8] [0,1,2,3,4]]).ct hΓ ON (iS yO Ry) (ih3 (i3+1) (dn yO) h)
    ·exact((((((((((a4T.r 2 h791).b h790).b h791).b h790).F 7).b h790).F 1).b h790).F 1).a [.cn [1,3,4,5,6,7,8] [0,1,2,3,4]]).ct hΓ ON (iS yO Ry) (ih3 (i3+1) (dn yO) h)
  ·have a4U:=((a4R.r 3 h789).F 4)
   obtain⟨h792,h⟩|⟨h792,h⟩:=aL h
   ·have a4V:=((((a4U.r 2 h792).F 1).b h792).F 1)
    obtain⟨h793,h⟩|⟨h793,h⟩:=aL h
    ·obtain⟨aA5,h795,h⟩:=aB h;have a4W:=(((((((((a4V.r 5 h793).i (mL tx 1 (dc yO))).b h793).o 1 1 .uq (cH tx (dc yO))).b h793).g (xZ h795)).F 1).b h793).F 1)
     obtain⟨h796,h⟩|⟨h796,h⟩:=aL h
     ·have h:=aN h;subst h;exact(a4W.b h796).ret hΓ
     ·exact((a4W.b h796).a [.cn [1,3,4,5,6,7,8] [0,1,2,3,4]]).ct hΓ ON (iS yO Ry) (ih3 (i3+1) (dn yO) h)
    ·exact(((((a4V.r 7 h793).F 1).b h793).F 2).a [.cn [1,3,4,5,6,7,8] [0,1,2,3,4]]).ct hΓ ON (iS yO Ry) (ih3 (i3+1) (dn yO) h)
   ·exact(((((a4U.r 2 h792).F 1).b h792).F 12).a [.cn [1,3,4,5,6,7,8] [0,1,2,3,4]]).ct hΓ ON (iS yO Ry) (ih3 (i3+1) (dn yO) h)
theorem KP(hΓ:Γ.nt=145){aD:aK}{wD:aH}{r:Bool}{k1:Option Bool}(dX:k1=some r->Ax Γ N f128 (.q [[none]] (D.bool r)) [1,1,1,1] ⟨[(1,D.ptr 0 0),(3,D.acc 1)],[Ob.box (aK.c aD),Ob.row .uq 9 1 (wD.map tx)]⟩)(hm1:aD.conds.length<=maxLen):∀(rest:ar) (i1:Nat),aD.conds.drop i1=rest->lq aD wD k1 rest i1=some r->Ar Γ N f128 (.q [[none]] (D.bool r)) [1,1,1,0,1,0] (rest.length+1) (M2 aD wD (i1:Int)):=by
 intro rest
 induction rest with
 |nil=>
  intro i1 b8 h;rw[lq]at h;refine aU fun N1 cW cK=>?_
  exact((aW.ge aP.c b8).a [.hl 0 [1,3] [0,1]]).ex hΓ cW (dX h)
 |cons bS cT ih1=>
  intro i1 b8 h;rw[lq]at h;refine aU fun N1 cW cK=>?_
  obtain⟨aA0,h644,h⟩:=aB h;have a4X:=(((aW.lt aP.c b8).l (bG aP.c 5 (dc b8) rfl)).g (jD h644))
  obtain⟨h645,h⟩|⟨h645,h⟩:=aL h
  ·have h:=aN h;subst h;exact((((a4X.r 3 h645).a [bF,bF,bF]).r 2 h645).T 1).ret hΓ
  ·have a4Y:=(a4X.r 3 h645)
   obtain⟨h646,h⟩|⟨h646,h⟩:=aL h
   ·have a4Z:=((((a4Y.r 3 h646).b h645).b h646).b h645)
    obtain⟨h647,h⟩|⟨h647,h⟩:=aL h
    ·have h:=aN h;subst h;exact(a4Z.b h647).ret hΓ
    ·obtain⟨Li,h649,h⟩:=aB h;obtain⟨FZ,h651,h⟩:=aB h;obtain⟨h722,h⟩:=bQ h;refine((((a4Z.b h647).g (kQ h649)).g (rT h651)).a [.cn [1,3,4,5,6,7,8] [0,1,2,3,4]]).lp hΓ (KR hΓ (fun h=>?_) (bV h722) FZ 0 rfl h);exact(aW.a [.cn [1,3,4] [0,1]]).ct hΓ cK (iS b8 hm1) (ih1 (i1+1) (dn b8) h)
   ·obtain⟨Lj,h724,h⟩:=aB h;obtain⟨Fa,h726,h⟩:=aB h;obtain⟨h797,h⟩:=bQ h;refine((((((((a4Y.r 3 h646).b h645).b h646).b h645).F 1).g (kQ h724)).g (rT h726)).a [.cn [1,3,4,5,6,7,8] [0,1,2,3,4]]).lp hΓ (KS hΓ (fun h=>?_) (bV h797) Fa 0 rfl h);exact(aW.a [.cn [1,3,4] [0,1]]).ct hΓ cK (iS b8 hm1) (ih1 (i1+1) (dn b8) h)
def M5(aD:aK)(wD:aH)(dG:Int):St:=⟨[(1,D.ptr 0 0),(3,D.acc 1),(10,D.int .i64 dG)],[Ob.box (aK.c aD),Ob.row .uq 9 1 (wD.map tx)]⟩
def M6(aD:aK)(wD:aH)(i4:Nat)(Ll:aH)(dG:Int):St:=⟨[(1,D.ptr 0 0),(3,D.acc 1),(10,D.int .i64 (i4:Int)),(11,D.acc 2),(12,D.int .i64 dG)],[Ob.box (aK.c aD),Ob.row .uq 9 1 (wD.map tx),Ob.row .uq 9 1 (Ll.map tx)]⟩
theorem KU(hΓ:Γ.nt=145){aD:aK}{wD:aH}{i4:Nat}{Ll:aH}{r:Bool}{k5:Option Bool}(hE5:k5=some r->Ax Γ N f128 (.q [[none]] (D.bool r)) [1,1,1,1,0,1,0,0,1,1] ⟨[(1,D.ptr 0 0),(3,D.acc 1),(10,D.int .i64 (i4:Int))],[Ob.box (aK.c aD),Ob.row .uq 9 1 (wD.map tx)]⟩)(hm5:Ll.length<=maxLen):∀(rest:aH) (i5:Nat),Ll.drop i5=rest->oF aD wD i4 Ll k5 rest i5=some r->Ar Γ N f128 (.q [[none]] (D.bool r)) [1,1,1,1,0,1,0,0,1,0,0,1,1,1,0] (rest.length+1) (M6 aD wD i4 Ll (i5:Int)):=by
 intro rest
 induction rest with
 |nil=>
  intro i5 hd5 h;rw[oF]at h;refine aU fun N5 hN5 hS5=>?_
  exact((aW.ge tx hd5).a [.hl 3 [1,3,10] [0,1]]).ex hΓ hN5 (hE5 h)
 |cons x5_ xs5 ih5=>
  intro i5 hd5 h;rw[oF]at h;refine aU fun N5 hN5 hS5=>?_
  obtain⟨aA8,h953,h⟩:=aB h;have a4a:=((((aW.lt tx hd5).i (mL tx 1 (dc hd5))).o 1 1 .uq (cH tx (dc hd5))).g (kR h953))
  obtain⟨h954,h⟩|⟨h954,h⟩:=aL h
  ·have h:=aN h;subst h;exact(a4a.b h954).ret hΓ
  ·exact((a4a.b h954).a [.cn [1,3,10,11,12] [0,1,2]]).ct hΓ hS5 (iS hd5 hm5) (ih5 (i5+1) (dn hd5) h)
theorem KT(hΓ:Γ.nt=145){aD:aK}{wD:aH}{r:Bool}{k4:Option Bool}(hE4:k4=some r->Ax Γ N f128 (.q [[none]] (D.bool r)) [1,1,1,1,1] ⟨[(1,D.ptr 0 0)],[Ob.box (aK.c aD)]⟩)(hm4:aD.cY.length<=maxLen):∀(rest:eW) (i4:Nat),aD.cY.drop i4=rest->oD aD wD k4 rest i4=some r->Ar Γ N f128 (.q [[none]] (D.bool r)) [1,1,1,1,0,1,0] (rest.length+1) (M5 aD wD (i4:Int)):=by
 intro rest
 induction rest with
 |nil=>
  intro i4 UB h;rw[oD]at h;refine aU fun N4 hN4 hS4=>?_
  exact((aW.ge Action.c UB).a [.hl 0 [1] [0]]).ex hΓ hN4 (hE4 h)
 |cons x4_ xs4 ih4=>
  intro i4 UB h;rw[oD]at h;refine aU fun N4 hN4 hS4=>?_
  obtain⟨aA6,h927,h⟩:=aB h;have a4b:=(((aW.lt Action.c UB).l (bG Action.c 3 (dc UB) rfl)).g (GJ h927))
  obtain⟨h928,h⟩|⟨h928,h⟩:=aL h
  ·have h:=aN h;subst h;exact(a4b.b h928).ret hΓ
  ·obtain⟨Ll,h930,h⟩:=aB h;obtain⟨h955,h⟩:=bQ h;refine((((a4b.b h928).l (bG Action.c 3 (dc UB) rfl)).g (qf h930)).a [.cn [1,3,10,11,12] [0,1,2]]).lp hΓ (KU hΓ (fun h=>?_) (bV h955) Ll 0 rfl h);exact(aW.a [.cn [1,3,10] [0,1]]).ct hΓ hS4 (iS UB hm4) (ih4 (i4+1) (dn UB) h)
theorem eT{aD:aK}{r:Bool}(h:mS aD=some r):Good prog 128 [D.agg (aK.c aD)] (D.bool r):=by
 refine gd func128 [[none]] 145 fun hr Γ hΓ=>?_
 rw[mS]at h;obtain⟨y1,h2,h⟩:=aB h;obtain⟨h3,h⟩|⟨h3,h⟩:=aL h
 ·have h:=aN h;subst h;exact(((aW.g (oC h2)).r 5 h3).T 13).ret hΓ
 ·obtain⟨y4,h5,h⟩:=aB h;have a4c:=((((aW.g (oC h2)).r 3 h3).g (fe h5)).r 2 h3)
  obtain⟨h6,h⟩|⟨h6,h⟩:=aL h
  ·have h:=aN h;subst h;exact((a4c.r 6 h6).T 7).ret hΓ
  ·obtain⟨y7,h8,h⟩:=aB h;have a4d:=(((a4c.r 4 h6).g (fe h8)).r 2 h6)
   obtain⟨h9,h⟩|⟨h9,h⟩:=aL h
   ·have h:=aN h;subst h;exact((a4d.r 6 h9).T 1).ret hΓ
   ·obtain⟨FY,h11,h⟩:=aB h;have a4e:=(((a4d.r 4 h9).g (fe h11)).r 2 h9)
    obtain⟨h12,h⟩|⟨h12,h⟩:=aL h
    ·have h:=aN h;subst h;exact(a4e.b h12).ret hΓ
    ·obtain⟨wD,h14,h⟩:=aB h;refine(((a4e.b h12).g (kQ h14)).a [.cn [1,3,4] [0,1]]).lp hΓ (KP hΓ (fun h=>?_) (by have:=(gb.sl (gb.agg (hr _ (aE (i:=0) rfl)) (.sl (aD.conds.map aP.c)) (by simp))).1;simpa using this) aD.conds 0 rfl h);refine(aW.a [.cn [1,3,10] [0,1]]).lp hΓ (KT hΓ (fun h=>?_) (by have:=(gb.sl (gb.agg (hr _ (aE (i:=0) rfl)) (.sl (aD.cY.map Action.c)) (by simp))).1;simpa using this) aD.cY 0 rfl h);obtain⟨aA9,h957,h⟩:=aB h;cases h;exact(aW.g (GU h957)).ret hΓ
def rE(aD:Bytes)(aY:Bytes)(k1:Int->aH->Option aH):Nat->Int->Int->aH->Option aH
 |0,_,_,_=>none
 |n1+1,dH,wB,bP=>(bif decide ((IntKind.i64.wrap (wB+(aY.length:Int)):Int)<=(aD.length:Int))then((wT aD.length (some (D.int .i64 wB)) (some (D.int .i64 (IntKind.i64.wrap (wB+(aY.length:Int)))))).bind fun p=>(fun l49 u50=>(bif ((aD.take u50).drop l49:Bytes)==aY then((wT aD.length (some (D.int .i64 dH)) (some (D.int .i64 wB))).bind fun p=>(fun l53 u54=>(bif room ((bP.map tx).length+([[D.str ((aD.take u54).drop l53)]]).length) 16 then(rE aD aY k1 n1 (IntKind.i64.wrap (wB+(aY.length:Int))) (IntKind.i64.wrap (wB+(aY.length:Int))) (bP++([(aD.take u54).drop l53])))else none)) p.1 p.2)else(rE aD aY k1 n1 dH (IntKind.i64.wrap (wB+1)) bP))) p.1 p.2)else(k1 dH bP))
def mw(aD:Bytes)(aY:Bytes):Option aH:=(bif (aY:Bytes)==([])then(bif room (([]:List aQ).length+([[D.str aD]]).length) 16 then(some (([]:aH)++([aD])))else none)else(rE aD aY (fun(vi:Int) (cC:aH)=>((wT aD.length (some (D.int .i64 vi)) none).bind fun p=>(fun l57 u58=>(bif room ((cC.map tx).length+([[D.str ((aD.take u58).drop l57)]]).length) 16 then(some (cC++([(aD.take u58).drop l57])))else none)) p.1 p.2)) fuel 0 0 ([]:aH)))
def Ee(aD:Bytes)(aY:Bytes)(dH:Int)(wB:Int)(W2:List aQ):St:=⟨[(0,D.str aD),(1,D.str aY),(5,D.acc 0),(6,D.int .i64 dH),(7,D.int .i64 wB)],[Ob.row .uq 9 1 W2]⟩
theorem M7(hΓ:Γ.nt=51){aD:Bytes}{aY:Bytes}{r:aH}{k1:Int->aH->Option aH}(dX:∀(vi:Int) (cC:aH),k1 vi cC=some r->Ax Γ N f233 (.q [[some (9,1)]] (D.fr 9 1 (r.map tx))) [1,1,1,1,1] ⟨[(0,D.str aD),(5,D.acc 0),(6,D.int .i64 vi)],[Ob.row .uq 9 1 (cC.map tx)]⟩):∀(n1:Nat) (dH:Int) (wB:Int) (bP:aH),rE aD aY k1 n1 dH wB bP=some r->Ar Γ N f233 (.q [[some (9,1)]] (D.fr 9 1 (r.map tx))) [1,1,1,1,0,1,0] n1 (Ee aD aY dH wB (bP.map tx)):=by
 intro n
 induction n with
 |zero=>intro dH wB bP h;simp[rE]at h
 |succ n1 ih1=>
  intro dH wB bP h;rw[rE]at h;refine aU fun N1 cW cK=>?_
  obtain⟨h48,h⟩|⟨h48,h⟩:=aL h
  ·obtain⟨⟨l49,u50⟩,h51,h⟩:=aB h;have fE:=(((aW.b h48).w h51).a [.cut l49 u50])
   obtain⟨h52,h⟩|⟨h52,h⟩:=aL h
   ·obtain⟨⟨l53,u54⟩,h55,h⟩:=aB h;obtain⟨h56,h⟩:=bQ h;exact((((fE.b h52).w h55).w (bX h56)).a [.cut l53 u54,.cn [0,1,5,6,7] [2]]).cs hΓ cK (Ee aD aY (IntKind.i64.wrap (wB+(aY.length:Int))) (IntKind.i64.wrap (wB+(aY.length:Int))) ((bP.map tx)++([[D.str ((aD.take u54).drop l53)]]))) (by first| (simp only[mA]<;>rfl)| (simp only[mA,aC.c,aV.c,aP.c,Action.c,aK.c,aO.c,bM.c,aX.c,Node.c,aG.c,dL.c]<;>rfl)) (ih1 (IntKind.i64.wrap (wB+(aY.length:Int))) (IntKind.i64.wrap (wB+(aY.length:Int))) (bP++([(aD.take u54).drop l53])) h)
   ·exact((fE.b h52).a [.cn [0,1,5,6,7] [0]]).cf hΓ cK (ih1 dH (IntKind.i64.wrap (wB+1)) bP h)
  ·exact((aW.b h48).a [.hl 0 [0,5,6] [0]]).ex hΓ cW (dX dH bP h)
theorem gj{aD:Bytes}{aY:Bytes}{r:aH}(h:mw aD aY=some r):Good prog 233 [D.str aD,D.str aY] (D.fr 9 1 (r.map tx)):=by
 refine gd func233 [[some (9,1)]] 51 fun hr Γ hΓ=>?_
 rw[mw]at h;obtain⟨h1,h⟩|⟨h1,h⟩:=aL h
 ·obtain⟨h2,h⟩:=bQ h;cases h;exact(((aW.a [.LP 4]).b h1).w (bX h2)).rts hΓ (D.fr 9 1 (([]:List aQ)++([[D.str aD]]))) (by first|rfl| (simp only[mA]<;>rfl))
 ·refine(((aW.a [.LP 4]).b h1).a [.cn [0,1,5,6,7] [1]]).lp hΓ (M7 hΓ (fun vi cC h=>?_) fuel 0 0 ([]:aH) h);obtain⟨⟨l57,u58⟩,h59,h⟩:=aB h;obtain⟨h60,h⟩:=bQ h;cases h;exact(((aW.w h59).w (bX h60)).a [.cut l57 u58]).rts hΓ (D.fr 9 1 ((cC.map tx)++([[D.str ((aD.take u58).drop l57)]]))) (by first|rfl| (simp only[mA]<;>rfl)| (simp only[mA,bZ]<;>rfl))
def ia(k1:Option Bytes):Nat->Int->Bytes->Option Bytes
 |0,_,_=>none
 |n1+1,HC,ni=>(bif decide (0<=(HC:Int))&&decide (0<(10:Int))then(bif decide (([UInt8.ofNat (IntKind.u8.wrap (IntKind.i64.wrap (48+((HC:Int)%10)))).toNat]:Bytes).length+(ni:Bytes).length<=maxLen)then(bif decide (0<=(HC:Int))&&decide (0<(10:Int))then(bif ((HC:Int)/10:Int)==0 then(some (([UInt8.ofNat (IntKind.u8.wrap (IntKind.i64.wrap (48+((HC:Int)%10)))).toNat])++ni))else(ia k1 n1 ((HC:Int)/10) (([UInt8.ofNat (IntKind.u8.wrap (IntKind.i64.wrap (48+((HC:Int)%10)))).toNat])++ni)))else none)else none)else none)
def iE:Nat->Int->Option Bytes
 |0,_=>none
 |m_+1,aD=>(bif (aD:Int)==(-9223372036854775808)then(some ([45,57,50,50,51,51,55,50,48,51,54,56,53,52,55,55,53,56,48,56]))else(bif decide ((aD:Int)<0)then((iE m_ (IntKind.i64.wrap (0-aD))).bind fun y3=>(bif decide (([45]:Bytes).length+(y3:Bytes).length<=maxLen)then(some (([45])++y3))else none))else(ia none fuel aD ([]))))
def FB(HC:Int)(ni:Bytes):St:=⟨[(0,D.int .i64 HC),(3,D.str ni)],[]⟩
theorem EG(hΓ:Γ.nt=25){r:Bytes}{k1:Option Bytes}(dX:k1=some r->Ax Γ N f135 (.q [[none]] (D.str r)) [1,1,1,1,0,0] ⟨[],[]⟩):∀(n1:Nat) (HC:Int) (ni:Bytes),ia k1 n1 HC ni=some r->Ar Γ N f135 (.q [[none]] (D.str r)) [1,1,1,1,0] n1 (FB HC ni):=by
 intro n
 induction n with
 |zero=>intro HC ni h;simp[ia]at h
 |succ n1 ih1=>
  intro HC ni h;rw[ia]at h;refine aU fun N1 cW cK=>?_
  obtain⟨h14,h⟩:=bQ h;obtain⟨h15,h⟩:=bQ h;obtain⟨h16,h⟩:=bQ h;have fE:=(((aW.w (RZ .i64 h14)).w (bV h15)).w (RZ .i64 h16))
  obtain⟨h17,h⟩|⟨h17,h⟩:=aL h
  ·cases h;exact(fE.b h17).rts hΓ (D.str (([UInt8.ofNat (IntKind.u8.wrap (IntKind.i64.wrap (48+((HC:Int)%10)))).toNat])++ni)) (by first|rfl| (simp only[mA]<;>rfl))
  ·exact((fE.b h17).a [.cn [0,3] []]).cf hΓ cK (ih1 ((HC:Int)/10) (([UInt8.ofNat (IntKind.u8.wrap (IntKind.i64.wrap (48+((HC:Int)%10)))).toNat])++ni) h)
theorem DB{m_:Nat}(ihR:∀ {aD:Int} {r:Bytes},iE m_ aD=some r->Good prog 135 [D.int .i64 aD] (D.str r)){aD:Int}{r:Bytes}(h:iE (m_+1) aD=some r):Good prog 135 [D.int .i64 aD] (D.str r):=by
 refine gd func135 [[none]] 25 fun hr Γ hΓ=>?_
 rw[iE]at h;obtain⟨h1,h⟩|⟨h1,h⟩:=aL h
 ·cases h;exact(aW.b h1).ret hΓ
 ·obtain⟨h2,h⟩|⟨h2,h⟩:=aL h
  ·obtain⟨y3,h4,h⟩:=aB h;obtain⟨h5,h⟩:=bQ h;cases h;exact((((aW.b h1).b h2).g (ihR h4)).w (bV h5)).rts hΓ (D.str (([45])++y3)) (by first|rfl| (simp only[mA]<;>rfl))
  ·refine(((aW.b h1).b h2).a [.cn [0,3] []]).lp hΓ (EG hΓ (fun h=>?_) fuel aD ([]) h);cases h
theorem xW:∀(m_:Nat) {aD:Int} {r:Bytes},iE m_ aD=some r->Good prog 135 [D.int .i64 aD] (D.str r)
 |0,_,_,h=>by cases h
 |m_+1,_,_,h=>DB (fun h=>xW m_ h) h
def jf(aD:Int):Option Bytes:=iE fuel aD
theorem ny{aD:Int}{r:Bytes}(h:jf aD=some r):Good prog 135 [D.int .i64 aD] (D.str r):=xW fuel h
def jE(aD:Bytes)(k1:Int->Option (Int×Bool)):Nat->Int->Int->Option (Int×Bool)
 |0,_,_=>none
 |n1+1,p8,yV=>(bif decide ((yV:Int)<(aD.length:Int))then((fy aD yV).bind fun b25=>(bif decide ((b25.toNat:Int)<48)then(some (0,false))else(bif decide ((b25.toNat:Int)>57)then(some (0,false))else(jE aD k1 n1 (IntKind.i64.wrap ((IntKind.i64.wrap (10*p8))+(IntKind.i64.wrap (IntKind.u8.wrap (b25.toNat-48))))) (IntKind.i64.wrap (yV+1))))))else(k1 p8))
def nW(aD:Bytes):Option (Int×Bool):=((kL (aD.length:Int) 1 4).bind fun y1=>(bif !(y1)then(some (0,false))else(jE aD (fun(Xx:Int)=>((jf Xx).bind fun Cq=>(bif !((Cq:Bytes)==aD)then(some (0,false))else(some (Xx,true))))) fuel 0 0)))
def JK(aD:Bytes)(p8:Int)(yV:Int):St:=⟨[(0,D.str aD),(4,D.int .i64 p8),(5,D.int .i64 yV)],[]⟩
theorem IC(hΓ:Γ.nt=39){aD:Bytes}{r:Int×Bool}{k1:Int->Option (Int×Bool)}(dX:∀(Xx:Int),k1 Xx=some r->Ax Γ N f204 (.q [[none],[none]] (D.ff [D.int .i64 r.1,D.bool r.2])) [1,1,1,1] ⟨[(0,D.str aD),(4,D.int .i64 Xx)],[]⟩):∀(n1:Nat) (p8:Int) (yV:Int),jE aD k1 n1 p8 yV=some r->Ar Γ N f204 (.q [[none],[none]] (D.ff [D.int .i64 r.1,D.bool r.2])) [1,1,1,0,1,0] n1 (JK aD p8 yV):=by
 intro n
 induction n with
 |zero=>intro p8 yV h;simp[jE]at h
 |succ n1 ih1=>
  intro p8 yV h;rw[jE]at h;refine aU fun N1 cW cK=>?_
  obtain⟨h24,h⟩|⟨h24,h⟩:=aL h
  ·obtain⟨b25,h26,h⟩:=aB h;have ij:=((aW.b h24).c h26)
   obtain⟨h27,h⟩|⟨h27,h⟩:=aL h
   ·cases h;exact((ij.r 5 h27).T 1).ret hΓ
   ·have jO:=(((ij.r 3 h27).c h26).r 2 h27)
    obtain⟨h28,h⟩|⟨h28,h⟩:=aL h
    ·cases h;exact(jO.b h28).ret hΓ
    ·exact(((jO.b h28).c h26).a [.cn [0,4,5] []]).cf hΓ cK (ih1 (IntKind.i64.wrap ((IntKind.i64.wrap (10*p8))+(IntKind.i64.wrap (IntKind.u8.wrap (b25.toNat-48))))) (IntKind.i64.wrap (yV+1)) h)
  ·exact((aW.b h24).a [.hl 0 [0,4] []]).ex hΓ cW (dX p8 h)
theorem rU{aD:Bytes}{r:Int×Bool}(h:nW aD=some r):Good prog 204 [D.str aD] (D.ff [D.int .i64 r.1,D.bool r.2]):=by
 refine gd func204 [[none],[none]] 39 fun hr Γ hΓ=>?_
 rw[nW]at h;obtain⟨y1,h2,h⟩:=aB h;obtain⟨h3,h⟩|⟨h3,h⟩:=aL h
 ·cases h;exact((aW.g (fe h2)).b h3).ret hΓ
 ·refine(((aW.g (fe h2)).b h3).a [.cn [0,4,5] []]).lp hΓ (IC hΓ (fun Xx h=>?_) fuel 0 0 h);obtain⟨Cq,h30,h⟩:=aB h;obtain⟨h31,h⟩|⟨h31,h⟩:=aL h
  ·cases h;exact((aW.g (ny h30)).b h31).ret hΓ
  ·cases h;exact((aW.g (ny h30)).b h31).ret hΓ
def CZ(aD:Int):Option Bytes:=(bif (aD:Int)==3 then(some ([32,61,32]))else(bif (aD:Int)==4 then(some ([32,33,61,32]))else(some ([32,60,32]))))
theorem JT{aD:Int}{r:Bytes}(h:CZ aD=some r):Good prog 260 [D.int .i64 aD] (D.str r):=by
 refine gd func260 [[none]] 8 fun hr Γ hΓ=>?_
 rw[CZ]at h;obtain⟨h1,h⟩|⟨h1,h⟩:=aL h
 ·cases h;exact(aW.b h1).ret hΓ
 ·obtain⟨h2,h⟩|⟨h2,h⟩:=aL h
  ·cases h;exact((aW.b h1).b h2).ret hΓ
  ·cases h;exact((aW.b h1).b h2).ret hΓ
def BW(aD:Bytes):Option (Bytes×aH×Bool):=((mw aD ([40])).bind fun y1=>(bif (((y1.map tx).length:Int):Int) != 2 then(some ([],[],false))else((fy y1 1).bind fun x4=>(bif ((x4.length:Int):Int)==0 then(some ([],[],false))else((fy x4 (IntKind.i64.wrap ((x4.length:Int)-1))).bind fun b7=>(bif (b7.toNat:Int) != 41 then(some ([],[],false))else((wT x4.length none (some (D.int .i64 (IntKind.i64.wrap ((x4.length:Int)-1))))).bind fun p=>(fun l10 u11=>(bif ((x4.take u11).drop l10:Bytes)==([])then((fy y1 0).bind fun x14=>(some (x14,([]:aH),true)))else((fy y1 0).bind fun x16=>((mw ((x4.take u11).drop l10) ([44])).bind fun Pm=>(some (x16,Pm,true)))))) p.1 p.2)))))))
theorem Ad{aD:Bytes}{r:Bytes×aH×Bool}(h:BW aD=some r):Good prog 275 [D.str aD] (D.ff [D.str r.1,D.fr 9 1 (r.2.1.map tx),D.bool r.2.2]):=by
 refine gd func275 [[none],[some (9,1)],[none]] 51 fun hr Γ hΓ=>?_
 rw[BW]at h;obtain⟨y1,h2,h⟩:=aB h;have kX:=((aW.g (gj h2)).a [.n 19])
 obtain⟨h3,h⟩|⟨h3,h⟩:=aL h
 ·cases h;exact((kX.r 6 h3).T 12).ret hΓ
 ·obtain⟨x4,h5,h⟩:=aB h;have fE:=(((((kX.r 2 h3).i (ed tx 1 h5)).b h3).o 1 1 .uq (cH tx (dN h5))).r 3 h3)
  obtain⟨h6,h⟩|⟨h6,h⟩:=aL h
  ·cases h;exact((fE.r 11 h6).T 1).ret hΓ
  ·obtain⟨b7,h8,h⟩:=aB h;have ij:=(((((((((((fE.r 2 h6).i (ed tx 1 h5)).b h6).o 1 1 .uq (cH tx (dN h5))).r 2 h6).i (ed tx 1 h5)).b h6).o 1 1 .uq (cH tx (dN h5))).r 3 h6).c h8).r 2 h6)
   obtain⟨h9,h⟩|⟨h9,h⟩:=aL h
   ·cases h;exact(ij.b h9).ret hΓ
   ·obtain⟨⟨l10,u11⟩,h12,h⟩:=aB h;have jO:=((((((((ij.b h9).a [.n 8]).i (ed tx 1 h5)).o 1 1 .uq (cH tx (dN h5))).i (ed tx 1 h5)).o 1 1 .uq (cH tx (dN h5))).w h12).a [.cut l10 u11])
    obtain⟨h13,h⟩|⟨h13,h⟩:=aL h
    ·obtain⟨x14,h15,h⟩:=aB h;cases h;exact(((jO.b h13).i (ed tx 1 h15)).o 1 1 .uq (cH tx (dN h15))).ret hΓ
    ·obtain⟨x16,h17,h⟩:=aB h;obtain⟨Pm,h19,h⟩:=aB h;cases h;exact(((((jO.b h13).a [.n 5]).i (ed tx 1 h17)).o 1 1 .uq (cH tx (dN h17))).g (gj h19)).ret hΓ
def kC(aD:Bytes):Option (aC×Bool):=((BW aD).bind fun y1=>(bif !(y1.2.2)then(some ((⟨[],[]⟩:aC),false))else((iQ (⟨y1.1,y1.2.1⟩:aC)).bind fun y4=>(bif !(y4)then(some ((⟨[],[]⟩:aC),false))else(some ((⟨y1.1,y1.2.1⟩:aC),true))))))
theorem kV{aD:Bytes}{r:aC×Bool}(h:kC aD=some r):Good prog 261 [D.str aD] (D.ff [D.agg [D.str r.1.rel,D.fr 9 1 (r.1.args.map tx)],D.bool r.2]):=by
 refine gd func261 [[none,some (9,1)],[none]] 26 fun hr Γ hΓ=>?_
 rw[kC]at h;obtain⟨y1,h2,h⟩:=aB h;obtain⟨h3,h⟩|⟨h3,h⟩:=aL h
 ·cases h;exact(((aW.g (Ad h2)).r 4 h3).T 1).ret hΓ
 ·obtain⟨y4,h5,h⟩:=aB h;have kX:=(((((aW.g (Ad h2)).r 2 h3).a [.d (D.bool y4)]).w (show Good prog 157 [D.agg [D.str y1.1,D.sl (y1.2.1.map tx)]] (D.bool y4)from by first| (simpa only[bD,au,bg,bZ,bh]using fP h5)|exact fP h5| (have t:=fP h5;simp only[bD,bZ,bh,aC.c]at t;exact t))).r 2 h3)
  obtain⟨h6,h⟩|⟨h6,h⟩:=aL h
  ·cases h;exact(kX.b h6).ret hΓ
  ·cases h;exact(kX.b h6).ret hΓ
def nQ(aD:Bytes)(k1:Option (aP×Bool)):Nat->Int->Option (aP×Bool)
 |0,_=>none
 |n1+1,p8=>(bif decide ((p8:Int)<=5)then((CZ p8).bind fun By=>((mw aD By).bind fun yT=>(bif (((yT.map tx).length:Int):Int)==2 then((fy yT 0).bind fun x33=>((fy yT 1).bind fun x35=>((qI (⟨p8,(⟨[],[]⟩:aC),x33,x35⟩:aP)).bind fun PN=>(bif PN then(some ((⟨p8,(⟨[],[]⟩:aC),x33,x35⟩:aP),true))else(nQ aD k1 n1 (IntKind.i64.wrap (p8+1)))))))else(nQ aD k1 n1 (IntKind.i64.wrap (p8+1))))))else(k1))
def yw(aD:Bytes):Option (aP×Bool):=(nQ aD (bif decide (((aD.length:Int):Int)>4)then((wT aD.length none (some (D.int .i64 4))).bind fun p=>(fun l41 u42=>(bif ((aD.take u42).drop l41:Bytes)==([110,111,116,32])then((wT aD.length (some (D.int .i64 4)) none).bind fun p=>(fun l45 u46=>((kC ((aD.take u46).drop l45)).bind fun y48=>(bif !(y48.2)then(some ((⟨0,(⟨[],[]⟩:aC),[],[]⟩:aP),false))else(some ((⟨2,y48.1,[],[]⟩:aP),true))))) p.1 p.2)else((kC aD).bind fun y51=>(bif !(y51.2)then(some ((⟨0,(⟨[],[]⟩:aC),[],[]⟩:aP),false))else(some ((⟨1,y51.1,[],[]⟩:aP),true)))))) p.1 p.2)else((kC aD).bind fun Lh=>(bif !(Lh.2)then(some ((⟨0,(⟨[],[]⟩:aC),[],[]⟩:aP),false))else(some ((⟨1,Lh.1,[],[]⟩:aP),true))))) fuel 3)
def IB(aD:Bytes)(p8:Int):St:=⟨[(0,D.str aD),(2,D.ptr 0 0),(4,D.int .i64 p8)],[Ob.box [D.int .i64 0,D.str ([]),D.nil,D.str ([]),D.str ([])]]⟩
theorem GQ(hΓ:Γ.nt=55){aD:Bytes}{r:aP×Bool}{k1:Option (aP×Bool)}(dX:k1=some r->Ax Γ N f241 (.q [[none,none,some (9,1),none,none],[none]] (D.ff [D.agg [D.int .i64 r.1.kind,D.str r.1.pat.rel,D.fr 9 1 (r.1.pat.args.map tx),D.str r.1.left,D.str r.1.right],D.bool r.2])) [1,1] ⟨[(0,D.str aD),(2,D.ptr 0 0)],[Ob.box [D.int .i64 0,D.str ([]),D.nil,D.str ([]),D.str ([])]]⟩):∀(n1:Nat) (p8:Int),nQ aD k1 n1 p8=some r->Ar Γ N f241 (.q [[none,none,some (9,1),none,none],[none]] (D.ff [D.agg [D.int .i64 r.1.kind,D.str r.1.pat.rel,D.fr 9 1 (r.1.pat.args.map tx),D.str r.1.left,D.str r.1.right],D.bool r.2])) [1,0,1,0] n1 (IB aD p8):=by
 intro n
 induction n with
 |zero=>intro p8 h;simp[nQ]at h
 |succ n1 ih1=>
  intro p8 h;rw[nQ]at h;refine aU fun N1 cW cK=>?_
  obtain⟨h27,h⟩|⟨h27,h⟩:=aL h
  ·obtain⟨By,h29,h⟩:=aB h;obtain⟨yT,h31,h⟩:=aB h;have ij:=(((aW.b h27).g (JT h29)).g (gj h31))
   obtain⟨h32,h⟩|⟨h32,h⟩:=aL h
   ·obtain⟨x33,h34,h⟩:=aB h;obtain⟨x35,h36,h⟩:=aB h;obtain⟨PN,h38,h⟩:=aB h;have jO:=((((((((ij.b h32).a [.n 9]).i (ed tx 1 h34)).o 1 1 .uq (cH tx (dN h34))).i (ed tx 1 h36)).o 1 1 .uq (cH tx (dN h36))).a [.d (D.bool PN)]).w (show Good prog 189 [D.agg [D.int .i64 p8,D.str ([]),D.sl ([]),D.str x33,D.str x35]] (D.bool PN)from by first| (simpa only[bD,au,bg,bZ,bh]using jD h38)|exact jD h38| (have t:=jD h38;simp only[bD,bZ,bh,aP.c]at t;exact t)))
    obtain⟨h39,h⟩|⟨h39,h⟩:=aL h
    ·cases h;exact(jO.b h39).ret hΓ
    ·exact((jO.b h39).a [.cn [0,2,4] [0]]).cf hΓ cK (ih1 (IntKind.i64.wrap (p8+1)) h)
   ·exact((ij.b h32).a [.cn [0,2,4] [0]]).cf hΓ cK (ih1 (IntKind.i64.wrap (p8+1)) h)
  ·exact((aW.b h27).a [.hl 0 [0,2] [0]]).ex hΓ cW (dX h)
theorem FG{aD:Bytes}{r:aP×Bool}(h:yw aD=some r):Good prog 241 [D.str aD] (D.ff [D.agg [D.int .i64 r.1.kind,D.str r.1.pat.rel,D.fr 9 1 (r.1.pat.args.map tx),D.str r.1.left,D.str r.1.right],D.bool r.2]):=by
 refine gd func241 [[none,none,some (9,1),none,none],[none]] 55 fun hr Γ hΓ=>?_
 rw[yw]at h;refine(aW.a [.cn [0,2,4] [0]]).lp hΓ (GQ hΓ (fun h=>?_) fuel 3 h);obtain⟨h40,h⟩|⟨h40,h⟩:=aL h
 ·obtain⟨⟨l41,u42⟩,h43,h⟩:=aB h;have tS:=((((aW.r 2 h40).w h43).a [.cut l41 u42]).r 2 h40)
  obtain⟨h44,h⟩|⟨h44,h⟩:=aL h
  ·obtain⟨⟨l45,u46⟩,h47,h⟩:=aB h;obtain⟨y48,h49,h⟩:=aB h;have wK:=((((tS.b h44).w h47).a [.cut l45 u46]).g (kV h49))
   obtain⟨h50,h⟩|⟨h50,h⟩:=aL h
   ·cases h;exact(wK.b h50).ret hΓ
   ·cases h;exact(wK.b h50).ret hΓ
  ·obtain⟨y51,h52,h⟩:=aB h;have z7:=((tS.b h44).g (kV h52))
   obtain⟨h53,h⟩|⟨h53,h⟩:=aL h
   ·cases h;exact(z7.b h53).ret hΓ
   ·cases h;exact(z7.b h53).ret hΓ
 ·obtain⟨Lh,h55,h⟩:=aB h;have DY:=(((aW.r 4 h40).F 1).g (kV h55))
  obtain⟨h56,h⟩|⟨h56,h⟩:=aL h
  ·cases h;exact(DY.b h56).ret hΓ
  ·cases h;exact(DY.b h56).ret hΓ
def AD(aD:Bytes):Option (Action×Bool):=(bif (aD:Bytes)==([115,116,111,112])then(some ((⟨3,(⟨[],[]⟩:aC)⟩:Action),true))else((mw aD ([32])).bind fun y2=>(bif (((y2.map tx).length:Int):Int) != 2 then(some ((⟨0,(⟨[],[]⟩:aC)⟩:Action),false))else((fy y2 0).bind fun x5=>(bif !((x5:Bytes)==([97,100,100]))then(bif !((x5:Bytes)==([100,114,111,112]))then(some ((⟨0,(⟨[],[]⟩:aC)⟩:Action),false))else((fy y2 1).bind fun x9=>((kC x9).bind fun B3=>(bif (x5:Bytes)==([97,100,100])then(some ((⟨1,B3.1⟩:Action),B3.2))else(some ((⟨2,B3.1⟩:Action),B3.2))))))else((fy y2 1).bind fun x14=>((kC x14).bind fun PM=>(bif (x5:Bytes)==([97,100,100])then(some ((⟨1,PM.1⟩:Action),PM.2))else(some ((⟨2,PM.1⟩:Action),PM.2))))))))))
theorem Ga{aD:Bytes}{r:Action×Bool}(h:AD aD=some r):Good prog 242 [D.str aD] (D.ff [D.agg [D.int .i64 r.1.kind,D.str r.1.pat.rel,D.fr 9 1 (r.1.pat.args.map tx)],D.bool r.2]):=by
 refine gd func242 [[none,none,some (9,1)],[none]] 45 fun hr Γ hΓ=>?_
 rw[AD]at h;obtain⟨h1,h⟩|⟨h1,h⟩:=aL h
 ·cases h;exact(aW.b h1).ret hΓ
 ·obtain⟨y2,h3,h⟩:=aB h;have kX:=((aW.b h1).g (gj h3))
  obtain⟨h4,h⟩|⟨h4,h⟩:=aL h
  ·cases h;exact((((kX.r 5 h4).a [bF,bF,bF,bF]).r 2 h4).T 1).ret hΓ
  ·obtain⟨x5,h6,h⟩:=aB h;have fE:=(((((kX.r 2 h4).i (ed tx 1 h6)).b h4).o 1 1 .uq (cH tx (dN h6))).r 2 h4)
   obtain⟨h7,h⟩|⟨h7,h⟩:=aL h
   ·have ij:=((((((((fE.r 2 h7).i (ed tx 1 h6)).b h7).o 1 1 .uq (cH tx (dN h6))).b h7).b h4).b h7).b h4)
    obtain⟨h8,h⟩|⟨h8,h⟩:=aL h
    ·cases h;exact(ij.b h8).ret hΓ
    ·obtain⟨x9,h10,h⟩:=aB h;obtain⟨B3,h12,h⟩:=aB h;have jO:=((((((ij.b h8).i (ed tx 1 h10)).o 1 1 .uq (cH tx (dN h10))).g (kV h12)).i (ed tx 1 h6)).o 1 1 .uq (cH tx (dN h6)))
     obtain⟨h13,h⟩|⟨h13,h⟩:=aL h
     ·cases h;exact(jO.b h13).ret hΓ
     ·cases h;exact(jO.b h13).ret hΓ
   ·obtain⟨x14,h15,h⟩:=aB h;obtain⟨PM,h17,h⟩:=aB h;have tS:=((((((((((fE.r 4 h7).b h4).b h7).b h4).F 1).i (ed tx 1 h15)).o 1 1 .uq (cH tx (dN h15))).g (kV h17)).i (ed tx 1 h6)).o 1 1 .uq (cH tx (dN h6)))
    obtain⟨h18,h⟩|⟨h18,h⟩:=aL h
    ·cases h;exact(tS.b h18).ret hΓ
    ·cases h;exact(tS.b h18).ret hΓ
def rj(aD:aK)(cX:Bytes)(y1:aH)(k1:ar->Option (aK×Bool)):aH->Nat->ar->Option (aK×Bool)
 | [],i1,dK=>(k1 dK)
 |bS::cT,i1,dK=>((yw bS).bind fun Cr=>(bif !(Cr.2)then(some ((⟨aD.name,aD.prio,dK,[]⟩:aK),false))else(bif room ((dK.map aP.c).length+([[D.int .i64 Cr.1.kind,D.str Cr.1.pat.rel,D.sl (Cr.1.pat.args.map tx),D.str Cr.1.left,D.str Cr.1.right]]).length) 80 then(rj aD cX y1 k1 cT (i1+1) (dK++([Cr.1])))else none)))
def rp(aD:aK)(qF:ar)(EZ:aH)(k2:eW->Option (aK×Bool)):aH->Nat->eW->Option (aK×Bool)
 | [],i2,kq=>(k2 kq)
 |js::ua,i2,kq=>((AD js).bind fun Bz=>(bif !(Bz.2)then(some ((⟨aD.name,aD.prio,qF,kq⟩:aK),false))else(bif room ((kq.map Action.c).length+([[D.int .i64 Bz.1.kind,D.str Bz.1.pat.rel,D.sl (Bz.1.pat.args.map tx)]]).length) 48 then(rp aD qF EZ k2 ua (i2+1) (kq++([Bz.1])))else none)))
def Bb(aD:aK)(aY:Bytes)(cX:Bytes):Option (aK×Bool):=((mw aY ([32,38,32])).bind fun y1=>(bif decide (y1.length<=maxLen)then(rj aD cX y1 (fun(qF:ar)=>((mw cX ([32,38,32])).bind fun EZ=>(bif decide (EZ.length<=maxLen)then(rp aD qF EZ (fun(xQ:eW)=>((mS (⟨aD.name,aD.prio,qF,xQ⟩:aK)).bind fun y77=>(some ((⟨aD.name,aD.prio,qF,xQ⟩:aK),y77)))) EZ 0 ([]:eW))else none))) y1 0 ([]:ar))else none))
def CF(aD:aK)(cX:Bytes)(y1:aH)(W0:List aQ)(dG:Int):St:=⟨[(2,D.str cX),(3,D.ptr 0 0),(6,D.ptr 1 0),(8,D.acc 2),(9,D.int .i64 dG)],[Ob.box [D.str aD.name,D.int .i64 aD.prio,D.acc 3,D.nil],Ob.box [D.str ([]),D.int .i64 0,D.nil,D.nil],Ob.row .uq 9 1 (y1.map tx),Ob.row .uq 71 5 W0]⟩
theorem JW(hΓ:Γ.nt=69){aD:aK}{cX:Bytes}{y1:aH}{r:aK×Bool}{k1:ar->Option (aK×Bool)}(dX:∀(qF:ar),k1 qF=some r->Ax Γ N f234 (.q [[none,none,some (71,5),some (154,3)],[none]] (D.ff [D.agg [D.str r.1.name,D.int .i64 r.1.prio,D.fr 71 5 (r.1.conds.map aP.c),D.fr 154 3 (r.1.cY.map Action.c)],D.bool r.2])) [1,1,1] ⟨[(2,D.str cX),(3,D.ptr 0 0),(6,D.ptr 1 0)],[Ob.box [D.str aD.name,D.int .i64 aD.prio,D.acc 2,D.nil],Ob.box [D.str ([]),D.int .i64 0,D.nil,D.nil],Ob.row .uq 71 5 (qF.map aP.c)]⟩)(hm1:y1.length<=maxLen):∀(rest:aH) (i1:Nat) (dK:ar),y1.drop i1=rest->rj aD cX y1 k1 rest i1 dK=some r->Ar Γ N f234 (.q [[none,none,some (71,5),some (154,3)],[none]] (D.ff [D.agg [D.str r.1.name,D.int .i64 r.1.prio,D.fr 71 5 (r.1.conds.map aP.c),D.fr 154 3 (r.1.cY.map Action.c)],D.bool r.2])) [1,1,0,1,0] (rest.length+1) (CF aD cX y1 (dK.map aP.c) (i1:Int)):=by
 intro rest
 induction rest with
 |nil=>
  intro i1 dK b8 h;rw[rj]at h;refine aU fun N1 cW cK=>?_
  exact((aW.ge tx b8).a [.hl 0 [2,3,6] [0,1,3]]).ex hΓ cW (dX dK h)
 |cons bS cT ih1=>
  intro i1 dK b8 h;rw[rj]at h;refine aU fun N1 cW cK=>?_
  obtain⟨Cr,h36,h⟩:=aB h;have ij:=((((aW.lt tx b8).i (mL tx 1 (dc b8))).o 1 1 .uq (cH tx (dc b8))).g (FG h36))
  obtain⟨h37,h⟩|⟨h37,h⟩:=aL h
  ·cases h;exact(ij.b h37).ret hΓ
  ·obtain⟨h38,h⟩:=bQ h;exact(((ij.b h37).w (bX h38)).a [.cn [2,3,6,8,9] [0,1,2,7]]).cs hΓ cK (CF aD cX y1 ((dK.map aP.c)++([[D.int .i64 Cr.1.kind,D.str Cr.1.pat.rel,D.sl (Cr.1.pat.args.map tx),D.str Cr.1.left,D.str Cr.1.right]])) (IntKind.i64.wrap ((i1:Int)+1))) (by first| (simp only[iS b8 hm1,mA]<;>rfl)| (simp only[iS b8 hm1,mA,aC.c,aV.c,aP.c,Action.c,aK.c,aO.c,bM.c,aX.c,Node.c,aG.c,dL.c]<;>rfl)) (ih1 (i1+1) (dK++([Cr.1])) (dn b8) h)
def CG(aD:aK)(qF:ar)(EZ:aH)(W0:List aQ)(dG:Int):St:=⟨[(3,D.ptr 0 0),(6,D.ptr 1 0),(12,D.acc 2),(13,D.int .i64 dG)],[Ob.box [D.str aD.name,D.int .i64 aD.prio,D.acc 3,D.acc 4],Ob.box [D.str ([]),D.int .i64 0,D.nil,D.nil],Ob.row .uq 9 1 (EZ.map tx),Ob.row .uq 71 5 (qF.map aP.c),Ob.row .uq 154 3 W0]⟩
theorem JX(hΓ:Γ.nt=69){aD:aK}{qF:ar}{EZ:aH}{r:aK×Bool}{k2:eW->Option (aK×Bool)}(zx:∀(xQ:eW),k2 xQ=some r->Ax Γ N f234 (.q [[none,none,some (71,5),some (154,3)],[none]] (D.ff [D.agg [D.str r.1.name,D.int .i64 r.1.prio,D.fr 71 5 (r.1.conds.map aP.c),D.fr 154 3 (r.1.cY.map Action.c)],D.bool r.2])) [1,1,1,1,1] ⟨[(3,D.ptr 0 0),(6,D.ptr 1 0)],[Ob.box [D.str aD.name,D.int .i64 aD.prio,D.acc 2,D.acc 3],Ob.box [D.str ([]),D.int .i64 0,D.nil,D.nil],Ob.row .uq 71 5 (qF.map aP.c),Ob.row .uq 154 3 (xQ.map Action.c)]⟩)(hm2:EZ.length<=maxLen):∀(rest:aH) (i2:Nat) (kq:eW),EZ.drop i2=rest->rp aD qF EZ k2 rest i2 kq=some r->Ar Γ N f234 (.q [[none,none,some (71,5),some (154,3)],[none]] (D.ff [D.agg [D.str r.1.name,D.int .i64 r.1.prio,D.fr 71 5 (r.1.conds.map aP.c),D.fr 154 3 (r.1.cY.map Action.c)],D.bool r.2])) [1,1,1,1,0,1,0] (rest.length+1) (CG aD qF EZ (kq.map Action.c) (i2:Int)):=by
 intro rest
 induction rest with
 |nil=>
  intro i2 kq hd2 h;rw[rp]at h;refine aU fun N2 vC s6=>?_
  exact((aW.ge tx hd2).a [.hl 0 [3,6] [0,1,3,4]]).ex hΓ vC (zx kq h)
 |cons js ua ih2=>
  intro i2 kq hd2 h;rw[rp]at h;refine aU fun N2 vC s6=>?_
  obtain⟨Bz,h74,h⟩:=aB h;have jO:=((((aW.lt tx hd2).i (mL tx 1 (dc hd2))).o 1 1 .uq (cH tx (dc hd2))).g (Ga h74))
  obtain⟨h75,h⟩|⟨h75,h⟩:=aL h
  ·cases h;exact(jO.b h75).ret hΓ
  ·obtain⟨h76,h⟩:=bQ h;exact(((jO.b h75).w (bX h76)).a [.cn [3,6,12,13] [0,1,2,3,8]]).cs hΓ s6 (CG aD qF EZ ((kq.map Action.c)++([[D.int .i64 Bz.1.kind,D.str Bz.1.pat.rel,D.sl (Bz.1.pat.args.map tx)]])) (IntKind.i64.wrap ((i2:Int)+1))) (by first| (simp only[iS hd2 hm2,mA]<;>rfl)| (simp only[iS hd2 hm2,mA,aC.c,aV.c,aP.c,Action.c,aK.c,aO.c,bM.c,aX.c,Node.c,aG.c,dL.c]<;>rfl)) (ih2 (i2+1) (kq++([Bz.1])) (dn hd2) h)
theorem wR{aD:aK}{aY:Bytes}{cX:Bytes}{r:aK×Bool}(h:Bb aD aY cX=some r):Good prog 234 [D.agg [D.str aD.name,D.int .i64 aD.prio,D.nil,D.nil],D.str aY,D.str cX] (D.ff [D.agg [D.str r.1.name,D.int .i64 r.1.prio,D.fr 71 5 (r.1.conds.map aP.c),D.fr 154 3 (r.1.cY.map Action.c)],D.bool r.2]):=by
 refine gd func234 [[none,none,some (71,5),some (154,3)],[none]] 69 fun hr Γ hΓ=>?_
 rw[Bb]at h;obtain⟨y1,h2,h⟩:=aB h;obtain⟨h80,h⟩:=bQ h;refine((aW.g (gj h2)).a [.pb 0 2 71 5,.cn [2,3,6,8,9] [0,1,2,3]]).lp hΓ (JW hΓ (fun qF h=>?_) (bV h80) y1 0 ([]:ar) rfl h);obtain⟨EZ,h40,h⟩:=aB h;obtain⟨h79,h⟩:=bQ h;refine((aW.g (gj h40)).a [.pb 0 3 154 3,.cn [3,6,12,13] [0,1,3,2,4]]).lp hΓ (JX hΓ (fun xQ h=>?_) (bV h79) EZ 0 ([]:eW) rfl h);obtain⟨y77,h78,h⟩:=aB h;cases h;exact((aW.a [.n 3,.d (D.bool y77)]).w (show Good prog 128 [D.agg [D.str aD.name,D.int .i64 aD.prio,D.sl (qF.map aP.c),D.sl (xQ.map Action.c)]] (D.bool y77)from by first| (simpa only[bD,au,bg,bZ,bh]using eT h78)|exact eT h78| (have t:=eT h78;simp only[bD,bZ,bh,aK.c]at t;exact t))).ret hΓ
def qX(aD:Bytes):Option (aK×Bool):=((mw aD ([58,32])).bind fun y1=>(bif (((y1.map tx).length:Int):Int) != 2 then(some ((⟨[],0,[],[]⟩:aK),false))else((fy y1 0).bind fun x4=>((mw x4 ([32])).bind fun y6=>((fy y1 1).bind fun x8=>((mw x8 ([32,45,62,32])).bind fun FY=>(bif (((y6.map tx).length:Int):Int) != 2 then(some ((⟨[],0,[],[]⟩:aK),false))else(bif (((FY.map tx).length:Int):Int) != 2 then(some ((⟨[],0,[],[]⟩:aK),false))else((fy y6 1).bind fun x14=>((nW x14).bind fun PM=>(bif !(PM.2)then(some ((⟨[],0,[],[]⟩:aK),false))else((fy y6 0).bind fun x19=>((fy FY 0).bind fun x21=>((fy FY 1).bind fun x23=>((Bb (⟨x19,PM.1,[],[]⟩:aK) x21 x23).bind fun xC=>(bif !(xC.2)then(some ((⟨[],0,[],[]⟩:aK),false))else(some (xC.1,true))))))))))))))))))
theorem FH{aD:Bytes}{r:aK×Bool}(h:qX aD=some r):Good prog 222 [D.str aD] (D.ff [D.agg [D.str r.1.name,D.int .i64 r.1.prio,D.fr 71 5 (r.1.conds.map aP.c),D.fr 154 3 (r.1.cY.map Action.c)],D.bool r.2]):=by
 refine gd func222 [[none,none,some (71,5),some (154,3)],[none]] 63 fun hr Γ hΓ=>?_
 rw[qX]at h;obtain⟨y1,h2,h⟩:=aB h;obtain⟨h3,h⟩|⟨h3,h⟩:=aL h
 ·cases h;exact((aW.g (gj h2)).b h3).ret hΓ
 ·obtain⟨x4,h5,h⟩:=aB h;obtain⟨y6,h7,h⟩:=aB h;obtain⟨x8,h9,h⟩:=aB h;obtain⟨FY,h11,h⟩:=aB h;have kX:=((((((((aW.g (gj h2)).b h3).i (ed tx 1 h5)).o 1 1 .uq (cH tx (dN h5))).g (gj h7)).i (ed tx 1 h9)).o 1 1 .uq (cH tx (dN h9))).g (gj h11))
  obtain⟨h12,h⟩|⟨h12,h⟩:=aL h
  ·cases h;exact((kX.r 4 h12).T 1).ret hΓ
  ·have fE:=(kX.r 4 h12)
   obtain⟨h13,h⟩|⟨h13,h⟩:=aL h
   ·cases h;exact(fE.b h13).ret hΓ
   ·obtain⟨x14,h15,h⟩:=aB h;obtain⟨PM,h17,h⟩:=aB h;have ij:=((((fE.b h13).i (ed tx 1 h15)).o 1 1 .uq (cH tx (dN h15))).g (rU h17))
    obtain⟨h18,h⟩|⟨h18,h⟩:=aL h
    ·cases h;exact(ij.b h18).ret hΓ
    ·obtain⟨x19,h20,h⟩:=aB h;obtain⟨x21,h22,h⟩:=aB h;obtain⟨x23,h24,h⟩:=aB h;obtain⟨xC,h26,h⟩:=aB h;have jO:=((((((((((ij.b h18).a [.n 17]).i (ed tx 1 h20)).o 1 1 .uq (cH tx (dN h20))).i (ed tx 1 h22)).o 1 1 .uq (cH tx (dN h22))).i (ed tx 1 h24)).o 1 1 .uq (cH tx (dN h24))).a [.nl (D.ff [D.agg [D.str xC.1.name,D.int .i64 xC.1.prio,D.fr 71 5 (xC.1.conds.map aP.c),D.fr 154 3 (xC.1.cY.map Action.c)],D.bool xC.2])]).w (show Good prog 234 [D.agg [D.str x19,D.int .i64 PM.1,D.nil,D.nil],D.str x21,D.str x23] (D.ff [D.agg [D.str xC.1.name,D.int .i64 xC.1.prio,D.fr 71 5 (xC.1.conds.map aP.c),D.fr 154 3 (xC.1.cY.map Action.c)],D.bool xC.2])from by first| (simpa only[bD,au,bg,bZ,bh]using wR h26)|exact wR h26| (have t:=wR h26;simp only[bD,bZ,bh,aK.c]at t;exact t)))
     obtain⟨h27,h⟩|⟨h27,h⟩:=aL h
     ·cases h;exact(jO.b h27).ret hΓ
     ·cases h;exact(jO.b h27).ret hΓ
def ot(aD:cQ)(aY:Int):Option (cQ×aK):=((cP aD (RE aY ((([[114,32,49,58,32,111,110,40,63,120,44,63,121,41,32,38,32,111,110,40,63,121,44,63,122,41,32,45,62,32,97,100,100,32,111,110,40,63,120,44,63,122,41],[114,32,50,58,32,111,110,40,63,120,44,63,121,41,32,38,32,112,40,63,121,41,32,45,62,32,97,100,100,32,112,40,63,120,41],[114,32,48,58,32,112,40,63,120,41,32,38,32,111,110,40,63,120,44,63,121,41,32,38,32,63,120,32,33,61,32,63,121,32,45,62,32,97,100,100,32,97,116,40,63,121,44,63,120,41],[114,32,51,58,32,97,116,40,63,120,44,63,121,41,32,38,32,112,40,63,120,41,32,38,32,112,40,63,121,41,32,38,32,63,120,32,60,32,63,121,32,45,62,32,97,100,100,32,122,40,41],[114,32,52,58,32,111,110,40,63,120,44,97,41,32,45,62,32,97,100,100,32,113,40,63,120,41,32,38,32,97,100,100,32,112,40,97,41],[114,32,49,58,32,97,116,40,63,120,44,63,120,41,32,38,32,113,40,49,41,32,45,62,32,97,100,100,32,111,110,40,63,120,44,49,41],[114,32,49,58,32,112,40,63,120,41,32,38,32,110,111,116,32,113,40,63,120,41,32,45,62,32,97,100,100,32,97,116,40,63,120,44,98,41],[114,32,50,58,32,111,110,40,63,120,44,63,121,41,32,38,32,110,111,116,32,97,116,40,63,121,44,63,122,41,32,45,62,32,97,100,100,32,113,40,63,121,41],[114,32,53,58,32,97,116,40,63,120,44,63,121,41,32,38,32,110,111,116,32,112,40,63,121,41,32,38,32,63,120,32,33,61,32,63,121,32,45,62,32,97,100,100,32,122,40,41],[114,32,57,58,32,113,40,63,120,41,32,38,32,112,40,63,120,41,32,45,62,32,100,114,111,112,32,112,40,63,120,41],[114,32,48,58,32,97,116,40,63,120,44,49,41,32,38,32,97,116,40,63,121,44,50,41,32,38,32,63,120,32,61,32,63,121,32,45,62,32,100,114,111,112,32,97,116,40,63,120,44,49,41,32,38,32,115,116,111,112],[114,32,49,58,32,111,110,40,63,120,44,63,120,41,32,45,62,32,115,116,111,112],[114,32,55,58,32,122,40,41,32,38,32,111,110,40,63,120,44,63,121,41,32,45,62,32,100,114,111,112,32,122,40,41,32,38,32,97,100,100,32,111,110,40,63,121,44,63,120,41]]:aH).map tx).length:Int))).bind fun y1=>((fy ([[114,32,49,58,32,111,110,40,63,120,44,63,121,41,32,38,32,111,110,40,63,121,44,63,122,41,32,45,62,32,97,100,100,32,111,110,40,63,120,44,63,122,41],[114,32,50,58,32,111,110,40,63,120,44,63,121,41,32,38,32,112,40,63,121,41,32,45,62,32,97,100,100,32,112,40,63,120,41],[114,32,48,58,32,112,40,63,120,41,32,38,32,111,110,40,63,120,44,63,121,41,32,38,32,63,120,32,33,61,32,63,121,32,45,62,32,97,100,100,32,97,116,40,63,121,44,63,120,41],[114,32,51,58,32,97,116,40,63,120,44,63,121,41,32,38,32,112,40,63,120,41,32,38,32,112,40,63,121,41,32,38,32,63,120,32,60,32,63,121,32,45,62,32,97,100,100,32,122,40,41],[114,32,52,58,32,111,110,40,63,120,44,97,41,32,45,62,32,97,100,100,32,113,40,63,120,41,32,38,32,97,100,100,32,112,40,97,41],[114,32,49,58,32,97,116,40,63,120,44,63,120,41,32,38,32,113,40,49,41,32,45,62,32,97,100,100,32,111,110,40,63,120,44,49,41],[114,32,49,58,32,112,40,63,120,41,32,38,32,110,111,116,32,113,40,63,120,41,32,45,62,32,97,100,100,32,97,116,40,63,120,44,98,41],[114,32,50,58,32,111,110,40,63,120,44,63,121,41,32,38,32,110,111,116,32,97,116,40,63,121,44,63,122,41,32,45,62,32,97,100,100,32,113,40,63,121,41],[114,32,53,58,32,97,116,40,63,120,44,63,121,41,32,38,32,110,111,116,32,112,40,63,121,41,32,38,32,63,120,32,33,61,32,63,121,32,45,62,32,97,100,100,32,122,40,41],[114,32,57,58,32,113,40,63,120,41,32,38,32,112,40,63,120,41,32,45,62,32,100,114,111,112,32,112,40,63,120,41],[114,32,48,58,32,97,116,40,63,120,44,49,41,32,38,32,97,116,40,63,121,44,50,41,32,38,32,63,120,32,61,32,63,121,32,45,62,32,100,114,111,112,32,97,116,40,63,120,44,49,41,32,38,32,115,116,111,112],[114,32,49,58,32,111,110,40,63,120,44,63,120,41,32,45,62,32,115,116,111,112],[114,32,55,58,32,122,40,41,32,38,32,111,110,40,63,120,44,63,121,41,32,45,62,32,100,114,111,112,32,122,40,41,32,38,32,97,100,100,32,111,110,40,63,121,44,63,120,41]]:aH) y1.2).bind fun x3=>((qX x3).bind fun y5=>(some (y1.1,y5.1)))))
theorem wQ{aD:cQ}{aY:Int}{r:cQ×aK}(h:ot aD aY=some r):iL prog 199 (cQ.c aD) (cQ.c r.1) [D.int .i64 aY] (D.agg [D.str r.2.name,D.int .i64 r.2.prio,D.fr 71 5 (r.2.conds.map aP.c),D.fr 154 3 (r.2.cY.map Action.c)]):=by
 refine Jt func199 [[none,none,none],[none,none,some (71,5),some (154,3)]] 23 [D.sl (aD.b.map yx),D.int .i64 aD.i,D.int .i64 aD.h] [D.int .i64 aY] [] fun hr iU Γ hΓ=>?_
 rw[ot]at h;obtain⟨y1,h2,h⟩:=aB h;obtain⟨x3,h4,h⟩:=aB h;obtain⟨y5,h6,h⟩:=aB h;cases h;exact((((aW.hp [[none,none,none],[none]] (cD h2)).i (ed tx 1 h4)).o 1 1 .uq (cH tx (dN h4))).g (FH h6)).ret hΓ
def jJ(y1:cQ×Int)(k1:bH->Int->Int->ar->Option (cQ×aK)):Nat->Int->bH->Int->Int->ar->Option (cQ×aK)
 |0,_,_,_,_,_=>none
 |n1+1,p8,eg,dV,dW,dK=>(bif decide ((p8:Int)>0)then((sM (⟨eg,dV,dW⟩:cQ)).bind fun By=>(bif room ((dK.map aP.c).length+([[D.int .i64 By.2.kind,D.str By.2.pat.rel,D.sl (By.2.pat.args.map tx),D.str By.2.left,D.str By.2.right]]).length) 80 then(jJ y1 k1 n1 (IntKind.i64.wrap (p8-1)) By.1.b By.1.i By.1.h (dK++([By.2])))else none))else(k1 eg dV dW dK))
def dU(y1:cQ×Int)(dl:ar)(HS:aH)(tV:cQ×aC)(k2:bH->Int->Int->aH->Option (cQ×aK)):Nat->Int->bH->Int->Int->aH->Option (cQ×aK)
 |0,_,_,_,_,_=>none
 |n2+1,Dh,zF,xS,xT,jr=>(bif decide ((Dh:Int)<((jr.map tx).length:Int))then((fy jr Dh).bind fun x91=>((iF x91).bind fun y93=>(bif y93 then((gY HS x91).bind fun Y7=>(bif !(Y7)then((iR (⟨zF,xS,xT⟩:cQ)).bind fun HE=>(dU y1 dl HS tV k2 n2 (IntKind.i64.wrap (Dh+1)) HE.1.b HE.1.i HE.1.h (jr.set Dh.toNat HE.2)))else(dU y1 dl HS tV k2 n2 (IntKind.i64.wrap (Dh+1)) zF xS xT jr)))else(dU y1 dl HS tV k2 n2 (IntKind.i64.wrap (Dh+1)) zF xS xT jr))))else(k2 zF xS xT jr))
def uX(aD:cQ):Option (cQ×aK):=((cP aD 4).bind fun y1=>((jT y1.1).bind fun y3=>((cP y3.1 3).bind fun y5=>(jJ y1 (fun(mM:bH) (mN:Int) (mO:Int) (dl:ar)=>((lf (⟨[114],y1.2,dl,[]⟩:aK) ((dl.map aP.c).length:Int)).bind fun HS=>((jT (⟨mM,mN,mO⟩:cQ)).bind fun tV=>(dU y1 dl HS tV (fun(MV:bH) (MW:Int) (MX:Int) (mJ:aH)=>((iH (⟨MV,MW,MX⟩:cQ) ([1,1,2]:bH)).bind fun Au=>(bif room (([]:List aQ).length+([[D.int .i64 Au.2,D.str tV.2.rel,D.sl (mJ.map tx)]]).length) 48 then((eP Au.1 6).bind fun Jq=>(bif Jq.2 then(bif room ((([]:List aQ)++([[D.int .i64 Au.2,D.str tV.2.rel,D.sl (mJ.map tx)]])).length+([[D.int .i64 3,D.str ([]),D.sl ([])]]).length) 48 then((mS (⟨[114],y1.2,dl,(([]:eW)++([(⟨Au.2,(⟨tV.2.rel,mJ⟩:aC)⟩:Action)]))++([(⟨3,(⟨[],[]⟩:aC)⟩:Action)])⟩:aK)).bind fun Ck=>(bif !(Ck)then((ot Jq.1 99).bind fun Mh=>(some (Mh.1,Mh.2)))else(some (Jq.1,(⟨[114],y1.2,dl,(([]:eW)++([(⟨Au.2,(⟨tV.2.rel,mJ⟩:aC)⟩:Action)]))++([(⟨3,(⟨[],[]⟩:aC)⟩:Action)])⟩:aK)))))else none)else((mS (⟨[114],y1.2,dl,([]:eW)++([(⟨Au.2,(⟨tV.2.rel,mJ⟩:aC)⟩:Action)])⟩:aK)).bind fun a3l=>(bif !(a3l)then((ot Jq.1 99).bind fun a71=>(some (a71.1,a71.2)))else(some (Jq.1,(⟨[114],y1.2,dl,([]:eW)++([(⟨Au.2,(⟨tV.2.rel,mJ⟩:aC)⟩:Action)])⟩:aK)))))))else none))) fuel 0 tV.1.b tV.1.i tV.1.h tV.2.args)))) fuel y5.2 y5.1.b y5.1.i y5.1.h ([(⟨1,y3.2,[],[]⟩:aP)])))))
def xN(iU:Value)(y1:cQ×Int)(p8:Int)(dV:Int)(dW:Int)(W1:List aQ)(W4:List aQ):St:=⟨[(0,D.ptr 0 0),(2,D.ptr 1 0),(3,D.ptr 2 0),(4,D.int .i64 p8)],[Ob.Bq [D.sl W1,D.int .i64 dV,D.int .i64 dW] iU,Ob.box [D.str ([]),D.int .i64 0,D.nil,D.nil],Ob.box [D.str ([114]),D.int .i64 y1.2,D.acc 3,D.nil],Ob.row .uq 71 5 W4]⟩
theorem IN(hΓ:Γ.nt=88){iU:Value}{y1:cQ×Int}{r:cQ×aK}{k1:bH->Int->Int->ar->Option (cQ×aK)}(dX:∀(mM:bH) (mN:Int) (mO:Int) (dl:ar),k1 mM mN mO dl=some r->Ax Γ N f198 (.p [[none,none,none],[none,none,some (71,5),some (154,3)]] iU (cQ.c r.1) (D.agg [D.str r.2.name,D.int .i64 r.2.prio,D.fr 71 5 (r.2.conds.map aP.c),D.fr 154 3 (r.2.cY.map Action.c)])) [1,1,1] ⟨[(0,D.ptr 0 0),(2,D.ptr 1 0),(3,D.ptr 2 0)],[Ob.Bq [D.sl (mM.map yx),D.int .i64 mN,D.int .i64 mO] iU,Ob.box [D.str ([]),D.int .i64 0,D.nil,D.nil],Ob.box [D.str ([114]),D.int .i64 y1.2,D.acc 3,D.nil],Ob.row .uq 71 5 (dl.map aP.c)]⟩):∀(n1:Nat) (p8:Int) (eg:bH) (dV:Int) (dW:Int) (dK:ar),jJ y1 k1 n1 p8 eg dV dW dK=some r->Ar Γ N f198 (.p [[none,none,none],[none,none,some (71,5),some (154,3)]] iU (cQ.c r.1) (D.agg [D.str r.2.name,D.int .i64 r.2.prio,D.fr 71 5 (r.2.conds.map aP.c),D.fr 154 3 (r.2.cY.map Action.c)])) [1,1,0,1,0] n1 (xN iU y1 p8 dV dW (eg.map yx) (dK.map aP.c)):=by
 intro n
 induction n with
 |zero=>intro p8 eg dV dW dK h;simp[jJ]at h
 |succ n1 ih1=>
  intro p8 eg dV dW dK h;rw[jJ]at h;refine aU fun N1 cW cK=>?_
  obtain⟨h25,h⟩|⟨h25,h⟩:=aL h
  ·obtain⟨By,h29,h⟩:=aB h;obtain⟨h30,h⟩:=bQ h;exact(((((aW.b h25).a [.n2 [0,1,2,3,4,5,6,7] [0,1,2,3,4,5,6,7] 3 5 [0,1] [0,4],.gp [[none,none,none]] (cQ.c By.1) (D.agg [D.int .i64 By.2.kind,D.str By.2.pat.rel,D.fr 9 1 (By.2.pat.args.map tx),D.str By.2.left,D.str By.2.right])]).w (show iL prog 200 (cQ.c (⟨eg,dV,dW⟩:cQ)) (cQ.c By.1) [] (D.agg [D.int .i64 By.2.kind,D.str By.2.pat.rel,D.fr 9 1 (By.2.pat.args.map tx),D.str By.2.left,D.str By.2.right])from by simpa only[bD,au,bg,bZ,bh]using BX h29)).w (bX h30)).a [.cn [0,2,3,4] [0,1,2,6]]).cs hΓ cK (xN iU y1 (IntKind.i64.wrap (p8-1)) By.1.i By.1.h (By.1.b.map yx) ((dK.map aP.c)++([[D.int .i64 By.2.kind,D.str By.2.pat.rel,D.sl (By.2.pat.args.map tx),D.str By.2.left,D.str By.2.right]]))) (by first| (simp only[mA]<;>rfl)| (simp only[mA,aC.c,aV.c,aP.c,Action.c,aK.c,aO.c,bM.c,aX.c,Node.c,aG.c,dL.c]<;>rfl)) (ih1 (IntKind.i64.wrap (p8-1)) By.1.b By.1.i By.1.h (dK++([By.2])) h)
  ·exact((aW.b h25).a [.hl 0 [0,2,3] [0,1,2,3]]).ex hΓ cW (dX eg dV dW dK h)
def Ba(iU:Value)(y1:cQ×Int)(dl:ar)(HS:aH)(tV:cQ×aC)(Dh:Int)(xS:Int)(xT:Int)(W1:List aQ)(W4:List aQ):St:=⟨[(0,D.ptr 0 0),(2,D.ptr 1 0),(3,D.ptr 2 0),(5,D.acc 3),(6,D.ptr 4 0),(7,D.int .i64 Dh)],[Ob.Bq [D.sl W1,D.int .i64 xS,D.int .i64 xT] iU,Ob.box [D.str ([]),D.int .i64 0,D.nil,D.nil],Ob.box [D.str ([114]),D.int .i64 y1.2,D.acc 5,D.nil],Ob.row .uq 9 1 (HS.map tx),Ob.box [D.str tV.2.rel,D.acc 6],Ob.row .uq 71 5 (dl.map aP.c),Ob.row .uq 9 1 W4]⟩
theorem IP(hΓ:Γ.nt=88){iU:Value}{y1:cQ×Int}{dl:ar}{HS:aH}{tV:cQ×aC}{r:cQ×aK}{k2:bH->Int->Int->aH->Option (cQ×aK)}(zx:∀(MV:bH) (MW:Int) (MX:Int) (mJ:aH),k2 MV MW MX mJ=some r->Ax Γ N f198 (.p [[none,none,none],[none,none,some (71,5),some (154,3)]] iU (cQ.c r.1) (D.agg [D.str r.2.name,D.int .i64 r.2.prio,D.fr 71 5 (r.2.conds.map aP.c),D.fr 154 3 (r.2.cY.map Action.c)])) [1,1,1,1,1,1] ⟨[(0,D.ptr 0 0),(2,D.ptr 1 0),(3,D.ptr 2 0),(6,D.ptr 3 0)],[Ob.Bq [D.sl (MV.map yx),D.int .i64 MW,D.int .i64 MX] iU,Ob.box [D.str ([]),D.int .i64 0,D.nil,D.nil],Ob.box [D.str ([114]),D.int .i64 y1.2,D.acc 4,D.nil],Ob.box [D.str tV.2.rel,D.acc 5],Ob.row .uq 71 5 (dl.map aP.c),Ob.row .uq 9 1 (mJ.map tx)]⟩):∀(n2:Nat) (Dh:Int) (zF:bH) (xS:Int) (xT:Int) (jr:aH),dU y1 dl HS tV k2 n2 Dh zF xS xT jr=some r->Ar Γ N f198 (.p [[none,none,none],[none,none,some (71,5),some (154,3)]] iU (cQ.c r.1) (D.agg [D.str r.2.name,D.int .i64 r.2.prio,D.fr 71 5 (r.2.conds.map aP.c),D.fr 154 3 (r.2.cY.map Action.c)])) [1,1,1,1,1,0,1,0] n2 (Ba iU y1 dl HS tV Dh xS xT (zF.map yx) (jr.map tx)):=by
 intro n
 induction n with
 |zero=>intro Dh zF xS xT jr h;simp[dU]at h
 |succ n2 ih2=>
  intro Dh zF xS xT jr h;rw[dU]at h;refine aU fun N2 vC s6=>?_
  obtain⟨h90,h⟩|⟨h90,h⟩:=aL h
  ·obtain⟨x91,h92,h⟩:=aB h;obtain⟨y93,h94,h⟩:=aB h;have ij:=((((aW.b h90).i (ed tx 1 h92)).o 1 1 .uq (cH tx (dN h92))).g (fq h94))
   obtain⟨h95,h⟩|⟨h95,h⟩:=aL h
   ·obtain⟨Y7,h97,h⟩:=aB h;have jO:=(((((((ij.r 5 h95).i (ed tx 1 h92)).b h95).o 1 1 .uq (cH tx (dN h92))).b h95).g (kR h97)).r 2 h95)
    obtain⟨h98,h⟩|⟨h98,h⟩:=aL h
    ·obtain⟨HE,h102,h⟩:=aB h;exact((((((jO.b h98).a [.n2 [0,1,2,3,4,5,6] [0,1,2,3,4,5,6] 4 5 [0,1,2] [0],.gp [[none,none,none]] (cQ.c HE.1) (D.str HE.2)]).w (show iL prog 181 (cQ.c (⟨zF,xS,xT⟩:cQ)) (cQ.c HE.1) [] (D.str HE.2)from by simpa only[bD,au,bg,bZ,bh]using xJ h102)).i (ed tx 1 h92)).w (show(jr.map tx)[Dh.toNat]?=some [D.str x91]from cH tx (dN h92))).a [.row [D.str x91],.cn [0,2,3,5,6,7] [0,1,2,3,4,5,6]]).cs hΓ s6 (Ba iU y1 dl HS tV (IntKind.i64.wrap (Dh+1)) HE.1.i HE.1.h (HE.1.b.map yx) ((jr.map tx).set Dh.toNat [D.str HE.2])) (by first| (simp only[mA]<;>rfl)| (simp only[mA,aC.c,aV.c,aP.c,Action.c,aK.c,aO.c,bM.c,aX.c,Node.c,aG.c,dL.c]<;>rfl)) (ih2 (IntKind.i64.wrap (Dh+1)) HE.1.b HE.1.i HE.1.h (jr.set Dh.toNat HE.2) h)
    ·exact((jO.b h98).a [.cn [0,2,3,5,6,7] [0,1,2,3,4,5,6]]).cf hΓ s6 (ih2 (IntKind.i64.wrap (Dh+1)) zF xS xT jr h)
   ·exact(((ij.r 9 h95).F 1).a [.cn [0,2,3,5,6,7] [0,1,2,3,4,5,6]]).cf hΓ s6 (ih2 (IntKind.i64.wrap (Dh+1)) zF xS xT jr h)
  ·exact((aW.b h90).a [.hl 0 [0,2,3,6] [0,1,2,4,5,6]]).ex hΓ vC (zx zF xS xT jr h)
theorem Gb{aD:cQ}{r:cQ×aK}(h:uX aD=some r):iL prog 198 (cQ.c aD) (cQ.c r.1) [] (D.agg [D.str r.2.name,D.int .i64 r.2.prio,D.fr 71 5 (r.2.conds.map aP.c),D.fr 154 3 (r.2.cY.map Action.c)]):=by
 refine Jt func198 [[none,none,none],[none,none,some (71,5),some (154,3)]] 88 [D.sl (aD.b.map yx),D.int .i64 aD.i,D.int .i64 aD.h] [] [] fun hr iU Γ hΓ=>?_
 rw[uX]at h;obtain⟨y1,h2,h⟩:=aB h;obtain⟨y3,h4,h⟩:=aB h;obtain⟨y5,h6,h⟩:=aB h;refine((((aW.hp [[none,none,none],[none]] (cD h2)).hp [[none,none,none]] (oK h4)).hp [[none,none,none],[none]] (cD h6)).a [.cn [0,2,3,4] [0,1,4,3]]).lps hΓ (xN iU y1 y5.2 y5.1.i y5.1.h (y5.1.b.map yx) ([[D.int .i64 1,D.str y3.2.rel,D.sl (y3.2.args.map tx),D.str ([]),D.str ([])]])) (by first| (simp only[mA]<;>rfl)| (simp only[mA,aC.c,aV.c,aP.c,Action.c,aK.c,aO.c,bM.c,aX.c,Node.c,aG.c,dL.c]<;>rfl)) (IN hΓ (fun mM mN mO dl h=>?_) fuel y5.2 y5.1.b y5.1.i y5.1.h ([(⟨1,y3.2,[],[]⟩:aP)]) h);obtain⟨HS,h32,h⟩:=aB h;obtain⟨tV,h34,h⟩:=aB h;refine(((((aW.a [.d (D.fr 9 1 (HS.map tx))]).w (show Good prog 188 [D.agg [D.str ([114]),D.int .i64 y1.2,D.sl (dl.map aP.c),D.sl ([])],D.int .i64 ((dl.map aP.c).length:Int)] (D.fr 9 1 (HS.map tx))from by first| (simpa only[bD,au,bg,bZ,bh]using kQ h32)|exact kQ h32| (have t:=kQ h32;simp only[bD,bZ,bh,aK.c]at t;exact t))).a [.gp [[none,none,none]] (cQ.c tV.1) (D.agg [D.str tV.2.rel,D.fr 9 1 (tV.2.args.map tx)])]).w (show iL prog 201 (cQ.c (⟨mM,mN,mO⟩:cQ)) (cQ.c tV.1) [] (D.agg [D.str tV.2.rel,D.fr 9 1 (tV.2.args.map tx)])from by simpa only[bD,au,bg,bZ,bh]using oK h34)).a [.cn [0,2,3,5,6,7] [0,1,2,4,6,3,5]]).lp hΓ (IP hΓ (fun MV MW MX mJ h=>?_) fuel 0 tV.1.b tV.1.i tV.1.h tV.2.args h);obtain⟨Au,h106,h⟩:=aB h;obtain⟨h107,h⟩:=bQ h;obtain⟨Jq,h109,h⟩:=aB h;have tS:=((((aW.a [.n2 [0,1,2,3,5,4,6,7,8,9,10] [0,1,2,3,5,4,6,7,8,9,10] 5 8 [0,1,4] [0,5,6],.gp [[none,none,none],[some (3,1)]] (cQ.c Au.1) (D.int .i64 Au.2)]).w (show iL prog 78 (cQ.c (⟨MV,MW,MX⟩:cQ)) (cQ.c Au.1) [D.fr 3 1 (([1,1,2]:bH).map gm)] (D.int .i64 Au.2)from by simpa only[bD,au,bg,bZ,bh]using kM h106)).w (bX h107)).hp [[none,none,none],[none]] (eU h109))
 obtain⟨h110,h⟩|⟨h110,h⟩:=aL h
 ·obtain⟨h111,h⟩:=bQ h;obtain⟨Ck,h113,h⟩:=aB h;have wK:=((((tS.b h110).w (bX h111)).a [.d (D.bool Ck)]).w (show Good prog 128 [D.agg [D.str ([114]),D.int .i64 y1.2,D.sl (dl.map aP.c),D.sl ((([]:List aQ)++([[D.int .i64 Au.2,D.str tV.2.rel,D.sl (mJ.map tx)]]))++([[D.int .i64 3,D.str ([]),D.sl ([])]]))]] (D.bool Ck)from by first| (simpa only[bD,au,bg,bZ,bh]using eT h113)|exact eT h113| (have t:=eT h113;simp only[bD,bZ,bh,aK.c]at t;exact t)))
  obtain⟨h114,h⟩|⟨h114,h⟩:=aL h
  ·obtain⟨Mh,h116,h⟩:=aB h;cases h;exact((wK.b h114).hp [[none,none,none],[none]] (wQ h116)).ret hΓ
  ·cases h;exact(wK.b h114).rts hΓ (D.ff [D.agg [D.str ([114]),D.int .i64 y1.2,D.fr 71 5 (dl.map aP.c),D.fr 154 3 ((([]:List aQ)++([[D.int .i64 Au.2,D.str tV.2.rel,D.sl (mJ.map tx)]]))++([[D.int .i64 3,D.str ([]),D.sl ([])]]))],D.agg [D.sl (Jq.1.b.map yx),D.int .i64 Jq.1.i,D.int .i64 Jq.1.h],D.val iU]) (by first|rfl| (simp only[mA]<;>rfl))
 ·obtain⟨a3l,h118,h⟩:=aB h;have z7:=(((tS.b h110).a [.d (D.bool a3l)]).w (show Good prog 128 [D.agg [D.str ([114]),D.int .i64 y1.2,D.sl (dl.map aP.c),D.sl (([]:List aQ)++([[D.int .i64 Au.2,D.str tV.2.rel,D.sl (mJ.map tx)]]))]] (D.bool a3l)from by first| (simpa only[bD,au,bg,bZ,bh]using eT h118)|exact eT h118| (have t:=eT h118;simp only[bD,bZ,bh,aK.c]at t;exact t)))
  obtain⟨h119,h⟩|⟨h119,h⟩:=aL h
  ·obtain⟨a71,h121,h⟩:=aB h;cases h;exact((z7.b h119).hp [[none,none,none],[none]] (wQ h121)).ret hΓ
  ·cases h;exact(z7.b h119).rts hΓ (D.ff [D.agg [D.str ([114]),D.int .i64 y1.2,D.fr 71 5 (dl.map aP.c),D.fr 154 3 (([]:List aQ)++([[D.int .i64 Au.2,D.str tV.2.rel,D.sl (mJ.map tx)]]))],D.agg [D.sl (Jq.1.b.map yx),D.int .i64 Jq.1.i,D.int .i64 Jq.1.h],D.val iU]) (by first|rfl| (simp only[mA]<;>rfl))
def mU(aD:cQ):Option (cQ×aK):=((eP aD 3).bind fun y1=>(bif y1.2 then((uX y1.1).bind fun y4=>(some (y4.1,y4.2)))else((ot y1.1 99).bind fun y6=>(some (y6.1,y6.2)))))
theorem BZ{aD:cQ}{r:cQ×aK}(h:mU aD=some r):iL prog 136 (cQ.c aD) (cQ.c r.1) [] (D.agg [D.str r.2.name,D.int .i64 r.2.prio,D.fr 71 5 (r.2.conds.map aP.c),D.fr 154 3 (r.2.cY.map Action.c)]):=by
 refine Jt func136 [[none,none,none],[none,none,some (71,5),some (154,3)]] 9 [D.sl (aD.b.map yx),D.int .i64 aD.i,D.int .i64 aD.h] [] [] fun hr iU Γ hΓ=>?_
 rw[mU]at h;obtain⟨y1,h2,h⟩:=aB h;obtain⟨h3,h⟩|⟨h3,h⟩:=aL h
 ·obtain⟨y4,h5,h⟩:=aB h;cases h;exact(((aW.hp [[none,none,none],[none]] (eU h2)).b h3).hp [[none,none,none]] (Gb h5)).ret hΓ
 ·obtain⟨y6,h7,h⟩:=aB h;cases h;exact(((aW.hp [[none,none,none],[none]] (eU h2)).b h3).hp [[none,none,none],[none]] (wQ h7)).ret hΓ
def nY(k1:bH->Int->Int->aq->Option (cQ×aq)):Nat->Int->bH->Int->Int->aq->Option (cQ×aq)
 |0,_,_,_,_,_=>none
 |n1+1,dH,eg,dV,dW,bR=>(bif decide ((dH:Int)>0)then((mU (⟨eg,dV,dW⟩:cQ)).bind fun xC=>((jf dH).bind fun oa=>(bif decide (([114]:Bytes).length+(oa:Bytes).length<=maxLen)then(bif room ((bR.map aK.c).length+([[D.str (([114])++oa),D.int .i64 xC.2.prio,D.sl (xC.2.conds.map aP.c),D.sl (xC.2.cY.map Action.c)]]).length) 72 then(nY k1 n1 (IntKind.i64.wrap (dH-1)) xC.1.b xC.1.i xC.1.h (bR++([(⟨([114])++oa,xC.2.prio,xC.2.conds,xC.2.cY⟩:aK)])))else none)else none)))else(k1 eg dV dW bR))
def yL(aD:cQ)(aY:Int):Option (cQ×aq):=((cP aD (IntKind.i64.wrap (aY+1))).bind fun y1=>(nY (fun(mM:bH) (mN:Int) (mO:Int) (jo:aq)=>(some ((⟨mM,mN,mO⟩:cQ),jo))) fuel y1.2 y1.1.b y1.1.i y1.1.h ([]:aq)))
def Ef(iU:Value)(dH:Int)(dV:Int)(dW:Int)(W1:List aQ)(W4:List aQ):St:=⟨[(0,D.ptr 0 0),(5,D.acc 1),(6,D.int .i64 dH)],[Ob.Bq [D.sl W1,D.int .i64 dV,D.int .i64 dW] iU,Ob.row .uq 63 4 W4]⟩
theorem MF(hΓ:Γ.nt=28){iU:Value}{r:cQ×aq}{k1:bH->Int->Int->aq->Option (cQ×aq)}(dX:∀(mM:bH) (mN:Int) (mO:Int) (jo:aq),k1 mM mN mO jo=some r->Ax Γ N f132 (.p [[none,none,none],[some (63,4)]] iU (cQ.c r.1) (D.fr 63 4 (r.2.map aK.c))) [1,1,1] ⟨[(5,D.acc 1)],[Ob.Bq [D.sl (mM.map yx),D.int .i64 mN,D.int .i64 mO] iU,Ob.row .uq 63 4 (jo.map aK.c)]⟩):∀(n1:Nat) (dH:Int) (eg:bH) (dV:Int) (dW:Int) (bR:aq),nY k1 n1 dH eg dV dW bR=some r->Ar Γ N f132 (.p [[none,none,none],[some (63,4)]] iU (cQ.c r.1) (D.fr 63 4 (r.2.map aK.c))) [1,1,0,1,0] n1 (Ef iU dH dV dW (eg.map yx) (bR.map aK.c)):=by
 intro n
 induction n with
 |zero=>intro dH eg dV dW bR h;simp[nY]at h
 |succ n1 ih1=>
  intro dH eg dV dW bR h;rw[nY]at h;refine aU fun N1 cW cK=>?_
  obtain⟨h24,h⟩|⟨h24,h⟩:=aL h
  ·obtain⟨xC,h26,h⟩:=aB h;obtain⟨oa,h28,h⟩:=aB h;obtain⟨h29,h⟩:=bQ h;obtain⟨h30,h⟩:=bQ h;exact(((((((aW.b h24).a [.gp [[none,none,none]] (cQ.c xC.1) (D.agg [D.str xC.2.name,D.int .i64 xC.2.prio,D.fr 71 5 (xC.2.conds.map aP.c),D.fr 154 3 (xC.2.cY.map Action.c)])]).w (show iL prog 136 (cQ.c (⟨eg,dV,dW⟩:cQ)) (cQ.c xC.1) [] (D.agg [D.str xC.2.name,D.int .i64 xC.2.prio,D.fr 71 5 (xC.2.conds.map aP.c),D.fr 154 3 (xC.2.cY.map Action.c)])from by simpa only[bD,au,bg,bZ,bh]using BZ h26)).g (ny h28)).w (bV h29)).w (bX h30)).a [.cn [0,5,6] [0,6]]).cs hΓ cK (Ef iU (IntKind.i64.wrap (dH-1)) xC.1.i xC.1.h (xC.1.b.map yx) ((bR.map aK.c)++([[D.str (([114])++oa),D.int .i64 xC.2.prio,D.sl (xC.2.conds.map aP.c),D.sl (xC.2.cY.map Action.c)]]))) (by first| (simp only[mA]<;>rfl)| (simp only[mA,aC.c,aV.c,aP.c,Action.c,aK.c,aO.c,bM.c,aX.c,Node.c,aG.c,dL.c]<;>rfl)) (ih1 (IntKind.i64.wrap (dH-1)) xC.1.b xC.1.i xC.1.h (bR++([(⟨([114])++oa,xC.2.prio,xC.2.conds,xC.2.cY⟩:aK)])) h)
  ·exact((aW.b h24).a [.hl 0 [5] [0,1]]).ex hΓ cW (dX eg dV dW bR h)
theorem Kj{aD:cQ}{aY:Int}{r:cQ×aq}(h:yL aD aY=some r):iL prog 132 (cQ.c aD) (cQ.c r.1) [D.int .i64 aY] (D.fr 63 4 (r.2.map aK.c)):=by
 refine Jt func132 [[none,none,none],[some (63,4)]] 28 [D.sl (aD.b.map yx),D.int .i64 aD.i,D.int .i64 aD.h] [D.int .i64 aY] [] fun hr iU Γ hΓ=>?_
 rw[yL]at h;obtain⟨y1,h2,h⟩:=aB h;refine((aW.hp [[none,none,none],[none]] (cD h2)).a [.cn [0,5,6] [0,1]]).lp hΓ (MF hΓ (fun mM mN mO jo h=>?_) fuel y1.2 y1.1.b y1.1.i y1.1.h ([]:aq) h);cases h;exact aW.ret hΓ
def lH(aD:aq)(aY:Bytes)(k1:Option Int):aq->Nat->Option Int
 | [],i1=>(k1)
 |bS::cT,i1=>(bif (bS.name:Bytes)==aY then(some (i1:Int))else(lH aD aY k1 cT (i1+1)))
def uQ(aD:aq)(aY:Bytes):Option Int:=(lH aD aY (some (-1)) aD 0)
def JJ(aD:aq)(aY:Bytes)(dG:Int):St:=⟨[(0,D.sl (aD.map aK.c)),(1,D.str aY),(5,D.int .i64 dG)],[]⟩
theorem I5(hΓ:Γ.nt=20){aD:aq}{aY:Bytes}{r:Int}{k1:Option Int}(dX:k1=some r->Ax Γ N f30 (.q [[none]] (D.int .i64 r)) [1,1] ⟨[],[]⟩)(hm1:aD.length<=maxLen):∀(rest:aq) (i1:Nat),aD.drop i1=rest->lH aD aY k1 rest i1=some r->Ar Γ N f30 (.q [[none]] (D.int .i64 r)) [1,0,1,0] (rest.length+1) (JJ aD aY (i1:Int)):=by
 intro rest
 induction rest with
 |nil=>
  intro i1 b8 h;rw[lH]at h;refine aU fun N1 cW cK=>?_
  exact((aW.ge aK.c b8).a [.hl 0 [] []]).ex hΓ cW (dX h)
 |cons bS cT ih1=>
  intro i1 b8 h;rw[lH]at h;refine aU fun N1 cW cK=>?_
  have fE:=((aW.lt aK.c b8).l (bG aK.c 4 (dc b8) rfl))
  obtain⟨h13,h⟩|⟨h13,h⟩:=aL h
  ·cases h;exact(fE.b h13).ret hΓ
  ·exact((fE.b h13).a [.cn [0,1,5] []]).ct hΓ cK (iS b8 hm1) (ih1 (i1+1) (dn b8) h)
theorem GI{aD:aq}{aY:Bytes}{r:Int}(h:uQ aD aY=some r):Good prog 30 [D.sl (aD.map aK.c),D.str aY] (D.int .i64 r):=by
 refine gd func30 [[none]] 20 fun hr Γ hΓ=>?_
 rw[uQ]at h;refine(aW.a [.cn [0,1,5] []]).lp hΓ (I5 hΓ (fun h=>?_) (by have:=(gb.sl (hr _ (aE (i:=0) rfl))).1;simpa using this) aD 0 rfl h);cases h;exact aW.ret hΓ
def lF(aD:aq)(k1:Option Bool):aq->Nat->Option Bool
 | [],i1=>(k1)
 |bS::cT,i1=>((mS bS).bind fun tV=>(bif !(tV)then(some false)else((uQ aD bS.name).bind fun NH=>(bif (NH:Int) != (i1:Int)then(some false)else(lF aD k1 cT (i1+1))))))
def rC(aD:aq):Option Bool:=(lF aD (some (decide ((((aD.map aK.c).length:Int):Int)<=6))) aD 0)
def JG(aD:aq)(dG:Int):St:=⟨[(0,D.sl (aD.map aK.c)),(3,D.int .i64 dG)],[]⟩
theorem I1(hΓ:Γ.nt=30){aD:aq}{r:Bool}{k1:Option Bool}(dX:k1=some r->Ax Γ N f69 (.q [[none]] (D.bool r)) [1,1] ⟨[(0,D.sl (aD.map aK.c))],[]⟩)(hm1:aD.length<=maxLen):∀(rest:aq) (i1:Nat),aD.drop i1=rest->lF aD k1 rest i1=some r->Ar Γ N f69 (.q [[none]] (D.bool r)) [1,0,1,0] (rest.length+1) (JG aD (i1:Int)):=by
 intro rest
 induction rest with
 |nil=>
  intro i1 b8 h;rw[lF]at h;refine aU fun N1 cW cK=>?_
  exact((aW.ge aK.c b8).a [.hl 0 [0] []]).ex hΓ cW (dX h)
 |cons bS cT ih1=>
  intro i1 b8 h;rw[lF]at h;refine aU fun N1 cW cK=>?_
  obtain⟨tV,h34,h⟩:=aB h;have ij:=(((aW.lt aK.c b8).l (bG aK.c 4 (dc b8) rfl)).g (eT h34))
  obtain⟨h35,h⟩|⟨h35,h⟩:=aL h
  ·have h:=aN h;subst h;exact((ij.r 10 h35).T 1).ret hΓ
  ·obtain⟨NH,h37,h⟩:=aB h;have jO:=(((((ij.r 4 h35).l (bG aK.c 4 (dc b8) rfl)).r 3 h35).g (GI h37)).r 3 h35)
   obtain⟨h38,h⟩|⟨h38,h⟩:=aL h
   ·have h:=aN h;subst h;exact(jO.b h38).ret hΓ
   ·exact((jO.b h38).a [.cn [0,3] []]).ct hΓ cK (iS b8 hm1) (ih1 (i1+1) (dn b8) h)
theorem vY{aD:aq}{r:Bool}(h:rC aD=some r):Good prog 69 [D.sl (aD.map aK.c)] (D.bool r):=by
 refine gd func69 [[none]] 30 fun hr Γ hΓ=>?_
 rw[rC]at h;refine(aW.a [.cn [0,3] []]).lp hΓ (I1 hΓ (fun h=>?_) (by have:=(gb.sl (hr _ (aE (i:=0) rfl))).1;simpa using this) aD 0 rfl h);cases h;exact aW.ret hΓ
def kE(aD:Bytes)(aY:aT)(k1:Option Bytes):aT->Nat->Option Bytes
 | [],i1=>(k1)
 |bS::cT,i1=>(bif (bS.var:Bytes)==aD then(some bS.value)else(kE aD aY k1 cT (i1+1)))
def mF(aD:Bytes)(aY:aT):Option Bytes:=(kE aD aY (some aD) aY 0)
def IL(aD:Bytes)(aY:aT)(dG:Int):St:=⟨[(0,D.str aD),(1,D.sl (aY.map aV.c)),(5,D.int .i64 dG)],[]⟩
theorem GZ(hΓ:Γ.nt=25){aD:Bytes}{aY:aT}{r:Bytes}{k1:Option Bytes}(dX:k1=some r->Ax Γ N f203 (.q [[none]] (D.str r)) [1,1] ⟨[(0,D.str aD)],[]⟩)(hm1:aY.length<=maxLen):∀(rest:aT) (i1:Nat),aY.drop i1=rest->kE aD aY k1 rest i1=some r->Ar Γ N f203 (.q [[none]] (D.str r)) [1,0,1,0] (rest.length+1) (IL aD aY (i1:Int)):=by
 intro rest
 induction rest with
 |nil=>
  intro i1 b8 h;rw[kE]at h;refine aU fun N1 cW cK=>?_
  exact((aW.ge aV.c b8).a [.hl 0 [0] []]).ex hΓ cW (dX h)
 |cons bS cT ih1=>
  intro i1 b8 h;rw[kE]at h;refine aU fun N1 cW cK=>?_
  have fE:=((aW.lt aV.c b8).l (bG aV.c 2 (dc b8) rfl))
  obtain⟨h13,h⟩|⟨h13,h⟩:=aL h
  ·cases h;exact((fE.b h13).l (bG aV.c 2 (dc b8) rfl)).ret hΓ
  ·exact((fE.b h13).a [.cn [0,1,5] []]).ct hΓ cK (iS b8 hm1) (ih1 (i1+1) (dn b8) h)
theorem vB{aD:Bytes}{aY:aT}{r:Bytes}(h:mF aD aY=some r):Good prog 203 [D.str aD,D.sl (aY.map aV.c)] (D.str r):=by
 refine gd func203 [[none]] 25 fun hr Γ hΓ=>?_
 rw[mF]at h;refine(aW.a [.cn [0,1,5] []]).lp hΓ (GZ hΓ (fun h=>?_) (by have:=(gb.sl (hr _ (aE (i:=1) rfl))).1;simpa using this) aY 0 rfl h);have h:=aN h;subst h;exact aW.ret hΓ
def lz(aD:aP)(aY:aT)(y1:Bytes)(y3:Bytes)(k1:aH->Option aP):aH->Nat->aH->Option aP
 | [],i1,dK=>(k1 dK)
 |bS::cT,i1,dK=>((mF bS aY).bind fun HS=>(bif room ((dK.map tx).length+([[D.str HS]]).length) 16 then(lz aD aY y1 y3 k1 cT (i1+1) (dK++([HS])))else none))
def kK(aD:aP)(aY:aT):Option aP:=((mF aD.left aY).bind fun y1=>((mF aD.right aY).bind fun y3=>(lz aD aY y1 y3 (fun(qF:aH)=>(some (⟨aD.kind,(⟨aD.pat.rel,qF⟩:aC),y1,y3⟩:aP))) aD.pat.args 0 ([]:aH))))
def zf(aD:aP)(aY:aT)(y1:Bytes)(y3:Bytes)(W0:List aQ)(dG:Int):St:=⟨[(1,D.sl (aY.map aV.c)),(2,D.ptr 0 0),(4,D.ptr 1 0),(5,D.ptr 2 0),(6,D.int .i64 dG)],[Ob.box (aP.c aD),Ob.box [D.int .i64 0,D.str ([]),D.nil,D.str ([]),D.str ([])],Ob.box [D.int .i64 aD.kind,D.str aD.pat.rel,D.acc 3,D.str y1,D.str y3],Ob.row .uq 9 1 W0]⟩
theorem FL(hΓ:Γ.nt=46){aD:aP}{aY:aT}{y1:Bytes}{y3:Bytes}{r:aP}{k1:aH->Option aP}(dX:∀(qF:aH),k1 qF=some r->Ax Γ N f151 (.q [[none,none,some (9,1),none,none]] (D.agg [D.int .i64 r.kind,D.str r.pat.rel,D.fr 9 1 (r.pat.args.map tx),D.str r.left,D.str r.right])) [1,1,1] ⟨[(4,D.ptr 0 0),(5,D.ptr 1 0)],[Ob.box [D.int .i64 0,D.str ([]),D.nil,D.str ([]),D.str ([])],Ob.box [D.int .i64 aD.kind,D.str aD.pat.rel,D.acc 2,D.str y1,D.str y3],Ob.row .uq 9 1 (qF.map tx)]⟩)(hm1:aD.pat.args.length<=maxLen):∀(rest:aH) (i1:Nat) (dK:aH),aD.pat.args.drop i1=rest->lz aD aY y1 y3 k1 rest i1 dK=some r->Ar Γ N f151 (.q [[none,none,some (9,1),none,none]] (D.agg [D.int .i64 r.kind,D.str r.pat.rel,D.fr 9 1 (r.pat.args.map tx),D.str r.left,D.str r.right])) [1,1,0,1,0] (rest.length+1) (zf aD aY y1 y3 (dK.map tx) (i1:Int)):=by
 intro rest
 induction rest with
 |nil=>
  intro i1 dK b8 h;rw[lz]at h;refine aU fun N1 cW cK=>?_
  exact((aW.ge tx b8).a [.hl 0 [4,5] [1,2,3]]).ex hΓ cW (dX dK h)
 |cons bS cT ih1=>
  intro i1 dK b8 h;rw[lz]at h;refine aU fun N1 cW cK=>?_
  obtain⟨HS,h32,h⟩:=aB h;obtain⟨h33,h⟩:=bQ h;exact((((((aW.lt tx b8).a [.n 12]).l (bG tx 1 (dc b8) rfl)).g (vB h32)).w (bX h33)).a [.cn [1,2,4,5,6] [0,1,2,5]]).cs hΓ cK (zf aD aY y1 y3 ((dK.map tx)++([[D.str HS]])) (IntKind.i64.wrap ((i1:Int)+1))) (by first| (simp only[iS b8 hm1,mA]<;>rfl)| (simp only[iS b8 hm1,mA,aC.c,aV.c,aP.c,Action.c,aK.c,aO.c,bM.c,aX.c,Node.c,aG.c,dL.c]<;>rfl)) (ih1 (i1+1) (dK++([HS])) (dn b8) h)
theorem jj{aD:aP}{aY:aT}{r:aP}(h:kK aD aY=some r):Good prog 151 [D.agg (aP.c aD),D.sl (aY.map aV.c)] (D.agg [D.int .i64 r.kind,D.str r.pat.rel,D.fr 9 1 (r.pat.args.map tx),D.str r.left,D.str r.right]):=by
 refine gd func151 [[none,none,some (9,1),none,none]] 46 fun hr Γ hΓ=>?_
 rw[kK]at h;obtain⟨y1,h2,h⟩:=aB h;obtain⟨y3,h4,h⟩:=aB h;refine((((aW.a [.n 16]).g (vB h2)).g (vB h4)).a [.pb 2 2 9 1,.cn [1,2,4,5,6] [0,1,2,3]]).lp hΓ (FL hΓ (fun qF h=>?_) (by have:=(gb.sl (gb.agg (hr _ (aE (i:=0) rfl)) (.sl (aD.pat.args.map tx)) (by simp))).1;simpa using this) aD.pat.args 0 ([]:aH) rfl h);cases h;exact aW.ret hΓ
def kW(aD:aP):Option aP:=((kK aD ([])).bind fun y1=>(some y1))
theorem qg{aD:aP}{r:aP}(h:kW aD=some r):Good prog 100 [D.agg (aP.c aD)] (D.agg [D.int .i64 r.kind,D.str r.pat.rel,D.fr 9 1 (r.pat.args.map tx),D.str r.left,D.str r.right]):=by
 refine gd func100 [[none,none,some (9,1),none,none]] 5 fun hr Γ hΓ=>?_
 rw[kW]at h;obtain⟨y1,h2,h⟩:=aB h;have h:=aN h;subst h;exact((aW.a [.d (D.agg [D.int .i64 y1.kind,D.str y1.pat.rel,D.fr 9 1 (y1.pat.args.map tx),D.str y1.left,D.str y1.right])]).w (show Good prog 151 [D.agg (aP.c aD),D.sl ([])] (D.agg [D.int .i64 y1.kind,D.str y1.pat.rel,D.fr 9 1 (y1.pat.args.map tx),D.str y1.left,D.str y1.right])from by first| (simpa only[bD,au,bg,bZ,bh]using jj h2)|exact jj h2)).ret hΓ
def tP(aD:aH):Option aH:=(bif room (([]:List aQ).length+(aD.map tx).length) 16 then(some (([]:aH)++aD))else none)
theorem Ac{aD:aH}{r:aH}(h:tP aD=some r):Good prog 149 [D.sl (aD.map tx)] (D.fr 9 1 (r.map tx)):=by
 refine gd func149 [[some (9,1)]] 6 fun hr Γ hΓ=>?_
 rw[tP]at h;obtain⟨h1,h⟩:=bQ h;cases h;exact(((aW.w (bX h1)).w (show(∀r∈(aD.map tx),r.length=1)/\(true=true->D.iN (aD.map tx)=true)from⟨by first|simp| (intro r hr;obtain⟨x,_,rfl⟩:=bt.1 (bn (eE hr));rfl),by simp[D.iN,D.flat]⟩)).a [.LP 2,.fl true]).rts hΓ (D.fr 9 1 (([]:List aQ)++(aD.map tx))) (by first|rfl| (simp only[mA]<;>rfl))
def ez(aD:aC):Option aC:=((tP aD.args).bind fun y1=>(some (⟨aD.rel,y1⟩:aC)))
theorem wI{aD:aC}{r:aC}(h:ez aD=some r):Good prog 122 [D.agg (aC.c aD)] (D.agg [D.str r.rel,D.fr 9 1 (r.args.map tx)]):=by
 refine gd func122 [[none,some (9,1)]] 9 fun hr Γ hΓ=>?_
 rw[ez]at h;obtain⟨y1,h2,h⟩:=aB h;cases h;exact((aW.a [.n 5]).g (Ac h2)).ret hΓ
def qY(aD:aK)(k1:ar->Option aK):ar->Nat->ar->Option aK
 | [],i1,dK=>(k1 dK)
 |bS::cT,i1,dK=>((kW bS).bind fun B4=>(bif room ((dK.map aP.c).length+([[D.int .i64 B4.kind,D.str B4.pat.rel,D.sl (B4.pat.args.map tx),D.str B4.left,D.str B4.right]]).length) 80 then(qY aD k1 cT (i1+1) (dK++([B4])))else none))
def oM(aD:aK)(dl:ar)(k2:eW->Option aK):eW->Nat->eW->Option aK
 | [],i2,kq=>(k2 kq)
 |js::ua,i2,kq=>((ez js.pat).bind fun y92=>(bif room ((kq.map Action.c).length+([[D.int .i64 js.kind,D.str y92.rel,D.sl (y92.args.map tx)]]).length) 48 then(oM aD dl k2 ua (i2+1) (kq++([(⟨js.kind,y92⟩:Action)])))else none))
def uh(aD:aK):Option aK:=(qY aD (fun(dl:ar)=>(oM aD dl (fun(xQ:eW)=>(some (⟨aD.name,aD.prio,dl,xQ⟩:aK))) aD.cY 0 ([]:eW))) aD.conds 0 ([]:ar))
def DF(aD:aK)(W0:List aQ)(dG:Int):St:=⟨[(1,D.ptr 0 0),(2,D.ptr 1 0),(3,D.ptr 2 0),(4,D.int .i64 dG)],[Ob.box (aK.c aD),Ob.box [D.str ([]),D.int .i64 0,D.nil,D.nil],Ob.box [D.str aD.name,D.int .i64 aD.prio,D.acc 3,D.nil],Ob.row .uq 71 5 W0]⟩
theorem Kh(hΓ:Γ.nt=56){aD:aK}{r:aK}{k1:ar->Option aK}(dX:∀(dl:ar),k1 dl=some r->Ax Γ N f150 (.q [[none,none,some (71,5),some (154,3)]] (D.agg [D.str r.name,D.int .i64 r.prio,D.fr 71 5 (r.conds.map aP.c),D.fr 154 3 (r.cY.map Action.c)])) [1,1,1] ⟨[(1,D.ptr 0 0),(2,D.ptr 1 0),(3,D.ptr 2 0)],[Ob.box (aK.c aD),Ob.box [D.str ([]),D.int .i64 0,D.nil,D.nil],Ob.box [D.str aD.name,D.int .i64 aD.prio,D.acc 3,D.nil],Ob.row .uq 71 5 (dl.map aP.c)]⟩)(hm1:aD.conds.length<=maxLen):∀(rest:ar) (i1:Nat) (dK:ar),aD.conds.drop i1=rest->qY aD k1 rest i1 dK=some r->Ar Γ N f150 (.q [[none,none,some (71,5),some (154,3)]] (D.agg [D.str r.name,D.int .i64 r.prio,D.fr 71 5 (r.conds.map aP.c),D.fr 154 3 (r.cY.map Action.c)])) [1,1,0,1,0] (rest.length+1) (DF aD (dK.map aP.c) (i1:Int)):=by
 intro rest
 induction rest with
 |nil=>
  intro i1 dK b8 h;rw[qY]at h;refine aU fun N1 cW cK=>?_
  exact((aW.ge aP.c b8).a [.hl 0 [1,2,3] [0,1,2,3]]).ex hΓ cW (dX dK h)
 |cons bS cT ih1=>
  intro i1 dK b8 h;rw[qY]at h;refine aU fun N1 cW cK=>?_
  obtain⟨B4,h46,h⟩:=aB h;obtain⟨h47,h⟩:=bQ h;exact((((((aW.lt aP.c b8).a [.n2 [0,1,2,3,4,5,6,7,8,9,10,11] [0,1,2,3,4,5,6,7,8,9,10,11] 8 9 [0,1] [4]]).l (bG aP.c 5 (dc b8) rfl)).g (qg h46)).w (bX h47)).a [.cn [1,2,3,4] [0,1,2,6]]).cs hΓ cK (DF aD ((dK.map aP.c)++([[D.int .i64 B4.kind,D.str B4.pat.rel,D.sl (B4.pat.args.map tx),D.str B4.left,D.str B4.right]])) (IntKind.i64.wrap ((i1:Int)+1))) (by first| (simp only[iS b8 hm1,mA]<;>rfl)| (simp only[iS b8 hm1,mA,aC.c,aV.c,aP.c,Action.c,aK.c,aO.c,bM.c,aX.c,Node.c,aG.c,dL.c]<;>rfl)) (ih1 (i1+1) (dK++([B4])) (dn b8) h)
def DG(aD:aK)(dl:ar)(W0:List aQ)(dG:Int):St:=⟨[(1,D.ptr 0 0),(2,D.ptr 1 0),(3,D.ptr 2 0),(5,D.int .i64 dG)],[Ob.box (aK.c aD),Ob.box [D.str ([]),D.int .i64 0,D.nil,D.nil],Ob.box [D.str aD.name,D.int .i64 aD.prio,D.acc 3,D.acc 4],Ob.row .uq 71 5 (dl.map aP.c),Ob.row .uq 154 3 W0]⟩
theorem Ki(hΓ:Γ.nt=56){aD:aK}{dl:ar}{r:aK}{k2:eW->Option aK}(zx:∀(xQ:eW),k2 xQ=some r->Ax Γ N f150 (.q [[none,none,some (71,5),some (154,3)]] (D.agg [D.str r.name,D.int .i64 r.prio,D.fr 71 5 (r.conds.map aP.c),D.fr 154 3 (r.cY.map Action.c)])) [1,1,1,1] ⟨[(2,D.ptr 0 0),(3,D.ptr 1 0)],[Ob.box [D.str ([]),D.int .i64 0,D.nil,D.nil],Ob.box [D.str aD.name,D.int .i64 aD.prio,D.acc 2,D.acc 3],Ob.row .uq 71 5 (dl.map aP.c),Ob.row .uq 154 3 (xQ.map Action.c)]⟩)(hm2:aD.cY.length<=maxLen):∀(rest:eW) (i2:Nat) (kq:eW),aD.cY.drop i2=rest->oM aD dl k2 rest i2 kq=some r->Ar Γ N f150 (.q [[none,none,some (71,5),some (154,3)]] (D.agg [D.str r.name,D.int .i64 r.prio,D.fr 71 5 (r.conds.map aP.c),D.fr 154 3 (r.cY.map Action.c)])) [1,1,1,0,1,0] (rest.length+1) (DG aD dl (kq.map Action.c) (i2:Int)):=by
 intro rest
 induction rest with
 |nil=>
  intro i2 kq hd2 h;rw[oM]at h;refine aU fun N2 vC s6=>?_
  exact((aW.ge Action.c hd2).a [.hl 0 [2,3] [1,2,3,4]]).ex hΓ vC (zx kq h)
 |cons js ua ih2=>
  intro i2 kq hd2 h;rw[oM]at h;refine aU fun N2 vC s6=>?_
  obtain⟨y92,h93,h⟩:=aB h;obtain⟨h94,h⟩:=bQ h;exact(((((((aW.lt Action.c hd2).a [.n2 [0,1,2,3,4,5,6,7,8,9,10,11,12,13,14,15,16,17,18,19] [0,1,2,3,4,5,6,7,8,9,10,11,12,13,14,15,16,17,18,19] 16 17 [0,1] [5]]).l (bG Action.c 3 (dc hd2) rfl)).l (bG Action.c 3 (dc hd2) rfl)).g (wI h93)).w (bX h94)).a [.cn [1,2,3,5] [0,1,2,3,7]]).cs hΓ s6 (DG aD dl ((kq.map Action.c)++([[D.int .i64 js.kind,D.str y92.rel,D.sl (y92.args.map tx)]])) (IntKind.i64.wrap ((i2:Int)+1))) (by first| (simp only[iS hd2 hm2,mA]<;>rfl)| (simp only[iS hd2 hm2,mA,aC.c,aV.c,aP.c,Action.c,aK.c,aO.c,bM.c,aX.c,Node.c,aG.c,dL.c]<;>rfl)) (ih2 (i2+1) (kq++([(⟨js.kind,y92⟩:Action)])) (dn hd2) h)
theorem JV{aD:aK}{r:aK}(h:uh aD=some r):Good prog 150 [D.agg (aK.c aD)] (D.agg [D.str r.name,D.int .i64 r.prio,D.fr 71 5 (r.conds.map aP.c),D.fr 154 3 (r.cY.map Action.c)]):=by
 refine gd func150 [[none,none,some (71,5),some (154,3)]] 56 fun hr Γ hΓ=>?_
 rw[uh]at h;refine(aW.a [.pb 2 2 71 5,.cn [1,2,3,4] [0,1,2,3]]).lp hΓ (Kh hΓ (fun dl h=>?_) (by have:=(gb.sl (gb.agg (hr _ (aE (i:=0) rfl)) (.sl (aD.conds.map aP.c)) (by simp))).1;simpa using this) aD.conds 0 ([]:ar) rfl h);refine(aW.a [.pb 2 3 154 3,.cn [1,2,3,5] [0,1,2,3,4]]).lp hΓ (Ki hΓ (fun xQ h=>?_) (by have:=(gb.sl (gb.agg (hr _ (aE (i:=0) rfl)) (.sl (aD.cY.map Action.c)) (by simp))).1;simpa using this) aD.cY 0 ([]:eW) rfl h);cases h;exact aW.ret hΓ
def oL(aD:aq)(k1:aq->Option aq):aq->Nat->aq->Option aq
 | [],i1,bP=>(k1 bP)
 |bS::cT,i1,bP=>((uh bS).bind fun oa=>(bif room ((bP.map aK.c).length+([[D.str oa.name,D.int .i64 oa.prio,D.sl (oa.conds.map aP.c),D.sl (oa.cY.map Action.c)]]).length) 72 then(oL aD k1 cT (i1+1) (bP++([oa])))else none))
def rF(aD:aq):Option aq:=(oL aD (fun(cC:aq)=>(some cC)) aD 0 ([]:aq))
def BY(aD:aq)(W0:List aQ)(dG:Int):St:=⟨[(0,D.sl (aD.map aK.c)),(3,D.acc 0),(4,D.int .i64 dG)],[Ob.row .uq 63 4 W0]⟩
theorem IM(hΓ:Γ.nt=21){aD:aq}{r:aq}{k1:aq->Option aq}(dX:∀(cC:aq),k1 cC=some r->Ax Γ N f89 (.q [[some (63,4)]] (D.fr 63 4 (r.map aK.c))) [1,1,1] ⟨[(3,D.acc 0)],[Ob.row .uq 63 4 (cC.map aK.c)]⟩)(hm1:aD.length<=maxLen):∀(rest:aq) (i1:Nat) (bP:aq),aD.drop i1=rest->oL aD k1 rest i1 bP=some r->Ar Γ N f89 (.q [[some (63,4)]] (D.fr 63 4 (r.map aK.c))) [1,1,0,1,0] (rest.length+1) (BY aD (bP.map aK.c) (i1:Int)):=by
 intro rest
 induction rest with
 |nil=>
  intro i1 bP b8 h;rw[oL]at h;refine aU fun N1 cW cK=>?_
  exact((aW.ge aK.c b8).a [.hl 0 [3] [0]]).ex hΓ cW (dX bP h)
 |cons bS cT ih1=>
  intro i1 bP b8 h;rw[oL]at h;refine aU fun N1 cW cK=>?_
  obtain⟨oa,h28,h⟩:=aB h;obtain⟨h29,h⟩:=bQ h;exact(((((aW.lt aK.c b8).l (bG aK.c 4 (dc b8) rfl)).g (JV h28)).w (bX h29)).a [.cn [0,3,4] [4]]).cs hΓ cK (BY aD ((bP.map aK.c)++([[D.str oa.name,D.int .i64 oa.prio,D.sl (oa.conds.map aP.c),D.sl (oa.cY.map Action.c)]])) (IntKind.i64.wrap ((i1:Int)+1))) (by first| (simp only[iS b8 hm1,mA]<;>rfl)| (simp only[iS b8 hm1,mA,aC.c,aV.c,aP.c,Action.c,aK.c,aO.c,bM.c,aX.c,Node.c,aG.c,dL.c]<;>rfl)) (ih1 (i1+1) (bP++([oa])) (dn b8) h)
theorem zh{aD:aq}{r:aq}(h:rF aD=some r):Good prog 89 [D.sl (aD.map aK.c)] (D.fr 63 4 (r.map aK.c)):=by
 refine gd func89 [[some (63,4)]] 21 fun hr Γ hΓ=>?_
 rw[rF]at h;refine(aW.a [.cn [0,3,4] [0]]).lp hΓ (IM hΓ (fun cC h=>?_) (by have:=(gb.sl (hr _ (aE (i:=0) rfl))).1;simpa using this) aD 0 ([]:aq) rfl h);have h:=aN h;subst h;exact aW.ret hΓ
def oR(aD:aT)(aY:Bytes)(k1:Option aT):aT->Nat->Option aT
 | [],i1=>(k1)
 |bS::cT,i1=>(bif (bS.var:Bytes)==aY then(some aD)else(oR aD aY k1 cT (i1+1)))
def qN(aD:aT)(aY:Bytes):Option aT:=((iF aY).bind fun y1=>(bif !(y1)then(some aD)else(oR aD aY ((jf (IntKind.i64.wrap (((aD.map aV.c).length:Int)+1))).bind fun Pm=>(bif decide (([63]:Bytes).length+(Pm:Bytes).length<=maxLen)then(bif room ((aD.map aV.c).length+([[D.str aY,D.str (([63])++Pm)]]).length) 32 then(some (aD++([(⟨aY,([63])++Pm⟩:aV)])))else none)else none)) aD 0)))
def MG(aD:aT)(aY:Bytes)(dG:Int):St:=⟨[(0,D.acc 0),(1,D.str aY),(5,D.int .i64 dG)],[Ob.row .uq 113 2 (aD.map aV.c)]⟩
theorem Kt(hΓ:Γ.nt=34){aD:aT}{aY:Bytes}{r:aT}{k1:Option aT}(dX:k1=some r->Ax Γ N f85 (.q [[some (113,2)]] (D.fr 113 2 (r.map aV.c))) [1,1,1] ⟨[(0,D.acc 0),(1,D.str aY)],[Ob.row .uq 113 2 (aD.map aV.c)]⟩)(hm1:aD.length<=maxLen):∀(rest:aT) (i1:Nat),aD.drop i1=rest->oR aD aY k1 rest i1=some r->Ar Γ N f85 (.q [[some (113,2)]] (D.fr 113 2 (r.map aV.c))) [1,1,0,1,0] (rest.length+1) (MG aD aY (i1:Int)):=by
 intro rest
 induction rest with
 |nil=>
  intro i1 b8 h;rw[oR]at h;refine aU fun N1 cW cK=>?_
  exact((aW.ge aV.c b8).a [.hl 0 [0,1] [0]]).ex hΓ cW (dX h)
 |cons bS cT ih1=>
  intro i1 b8 h;rw[oR]at h;refine aU fun N1 cW cK=>?_
  have kX:=(((aW.lt aV.c b8).i (mL aV.c 2 (dc b8))).o 2 1 .uq (cH aV.c (dc b8)))
  obtain⟨h17,h⟩|⟨h17,h⟩:=aL h
  ·have h:=aN h;subst h;exact(kX.b h17).ret hΓ
  ·exact((kX.b h17).a [.cn [0,1,5] [0]]).ct hΓ cK (iS b8 hm1) (ih1 (i1+1) (dn b8) h)
theorem uB{aD:aT}{aY:Bytes}{r:aT}(h:qN aD aY=some r):Ic prog 85 [D.acc 0,D.str aY] 113 2 (aD.map aV.c) (r.map aV.c):=by
 refine Ic.of (c:=xy f85) func85 rfl (by decide) (by simp[f85]) (DS (c:=aV.c) (fun _=>rfl) r) ?_;intro OT Γ hΓ;have hΓ:Γ.nt=34:=hΓ;rw[qN]at h;refine(show AW prog Γ (xy f85) (KQ prog Γ (fun _ _=>False) ((Kd.q [[some (113,2)]] (D.fr 113 2 (r.map aV.c))).qq prog f85) []) _ from ?_);obtain⟨y1,h2,h⟩:=aB h;obtain⟨h3,h⟩|⟨h3,h⟩:=aL h
 ·have h:=aN h;subst h;exact((aW.g (fq h2)).b h3).ret hΓ
 ·refine(((aW.g (fq h2)).b h3).a [.cn [0,1,5] [0]]).lp hΓ (Kt hΓ (fun h=>?_) (by simpa using OT) aD 0 rfl h);obtain⟨Pm,h19,h⟩:=aB h;obtain⟨h20,h⟩:=bQ h;obtain⟨h21,h⟩:=bQ h;cases h;exact(((aW.g (ny h19)).w (bV h20)).w (bX h21)).rts hΓ (D.fr 113 2 ((aD.map aV.c)++([[D.str aY,D.str (([63])++Pm)]]))) (by first|rfl| (simp only[mA]<;>rfl))
def jG(aD:aK)(i1:Nat)(bS:aP)(k2:aT->Option aT):aH->Nat->aT->Option aT
 | [],i2,gH=>(k2 gH)
 |js::ua,i2,gH=>((qN gH js).bind fun Cm=>(jG aD i1 bS k2 ua (i2+1) Cm))
def jF(aD:aK)(k1:aT->Option aT):ar->Nat->aT->Option aT
 | [],i1,bR=>(k1 bR)
 |bS::cT,i1,bR=>(bif decide (bS.pat.args.length<=maxLen)then(jG aD i1 bS (fun(vN:aT)=>((qN vN bS.left).bind fun zG=>((qN zG bS.right).bind fun a1M=>(jF aD k1 cT (i1+1) a1M)))) bS.pat.args 0 bR)else none)
def rW(aD:aK):Option aT:=(jF aD (fun(cC:aT)=>(some cC)) aD.conds 0 ([]:aT))
def GR(aD:aK)(W0:List aQ)(dG:Int):St:=⟨[(1,D.ptr 0 0),(3,D.acc 1),(4,D.int .i64 dG)],[Ob.box (aK.c aD),Ob.row .uq 113 2 W0]⟩
def GS(aD:aK)(i1:Nat)(W0:List aQ)(dG:Int):St:=⟨[(1,D.ptr 0 0),(3,D.acc 1),(4,D.int .i64 (i1:Int)),(5,D.int .i64 dG)],[Ob.box (aK.c aD),Ob.row .uq 113 2 W0]⟩
theorem FK(hΓ:Γ.nt=55){aD:aK}{i1:Nat}{bS:aP}{r:aT}{k2:aT->Option aT}(zx:∀(vN:aT),k2 vN=some r->Ax Γ N f37 (.q [[some (113,2)]] (D.fr 113 2 (r.map aV.c))) [1,1,0,1,0,0,1,0,0,1] ⟨[(1,D.ptr 0 0),(3,D.acc 1),(4,D.int .i64 (i1:Int))],[Ob.box (aK.c aD),Ob.row .uq 113 2 (vN.map aV.c)]⟩)(hx1:(aD.conds)[i1]?=some bS)(hm2:bS.pat.args.length<=maxLen):∀(rest:aH) (i2:Nat) (gH:aT),bS.pat.args.drop i2=rest->jG aD i1 bS k2 rest i2 gH=some r->Ar Γ N f37 (.q [[some (113,2)]] (D.fr 113 2 (r.map aV.c))) [1,1,0,1,0,0,1,0,0,0,1,0] (rest.length+1) (GS aD i1 (gH.map aV.c) (i2:Int)):=by
 intro rest
 induction rest with
 |nil=>
  intro i2 gH hd2 h;rw[jG]at h;refine aU fun N2 vC s6=>?_
  exact(((aW.l (bG aP.c 5 hx1 rfl)).ge tx hd2).a [.hl 5 [1,3,4] [0,1]]).ex hΓ vC (zx gH h)
 |cons js ua ih2=>
  intro i2 gH hd2 h;rw[jG]at h;refine aU fun N2 vC s6=>?_
  obtain⟨Cm,h207,h⟩:=aB h;exact(((((((aW.l (bG aP.c 5 hx1 rfl)).lt tx hd2).l (bG aP.c 5 hx1 rfl)).l (bG tx 1 (dc hd2) rfl)).w (show(gH.map aV.c).flatten.all D.flat=true from by simpa only[bD,au,bg]using DS (c:=aV.c) (fun _=>rfl) gH)).w (show Ic prog 85 [D.acc 0,D.str js] 113 2 (gH.map aV.c) (Cm.map aV.c)from by simpa only[bD,au,bg]using uB h207)).a [.ov 1 (Cm.map aV.c),.cn [1,3,4,5] [0,2]]).ct hΓ s6 (iS hd2 hm2) (ih2 (i2+1) Cm (dn hd2) h)
theorem FJ(hΓ:Γ.nt=55){aD:aK}{r:aT}{k1:aT->Option aT}(dX:∀(cC:aT),k1 cC=some r->Ax Γ N f37 (.q [[some (113,2)]] (D.fr 113 2 (r.map aV.c))) [1,1,1] ⟨[(3,D.acc 0)],[Ob.row .uq 113 2 (cC.map aV.c)]⟩)(hm1:aD.conds.length<=maxLen):∀(rest:ar) (i1:Nat) (bR:aT),aD.conds.drop i1=rest->jF aD k1 rest i1 bR=some r->Ar Γ N f37 (.q [[some (113,2)]] (D.fr 113 2 (r.map aV.c))) [1,1,0,1,0] (rest.length+1) (GR aD (bR.map aV.c) (i1:Int)):=by
 intro rest
 induction rest with
 |nil=>
  intro i1 bR b8 h;rw[jF]at h;refine aU fun N1 cW cK=>?_
  exact((aW.ge aP.c b8).a [.hl 0 [3] [1]]).ex hΓ cW (dX bR h)
 |cons bS cT ih1=>
  intro i1 bR b8 h;rw[jF]at h;refine aU fun N1 cW cK=>?_
  obtain⟨h212,h⟩:=bQ h;refine((aW.lt aP.c b8).a [.cn [1,3,4,5] [0,1]]).lp hΓ (FK hΓ (fun vN h=>?_) ((drop_cons b8).1) (bV h212) bS.pat.args 0 bR rfl h);obtain⟨zG,h209,h⟩:=aB h;obtain⟨a1M,h211,h⟩:=aB h;exact((((((((aW.l (bG aP.c 5 (dc b8) rfl)).w (show(vN.map aV.c).flatten.all D.flat=true from by simpa only[bD,au,bg]using DS (c:=aV.c) (fun _=>rfl) vN)).w (show Ic prog 85 [D.acc 0,D.str bS.left] 113 2 (vN.map aV.c) (zG.map aV.c)from by simpa only[bD,au,bg]using uB h209)).a [.ov 1 (zG.map aV.c)]).l (bG aP.c 5 (dc b8) rfl)).w (show(zG.map aV.c).flatten.all D.flat=true from by simpa only[bD,au,bg]using DS (c:=aV.c) (fun _=>rfl) zG)).w (show Ic prog 85 [D.acc 0,D.str bS.right] 113 2 (zG.map aV.c) (a1M.map aV.c)from by simpa only[bD,au,bg]using uB h211)).a [.ov 2 (a1M.map aV.c),.cn [1,3,4] [0,3]]).ct hΓ cK (iS b8 hm1) (ih1 (i1+1) a1M (dn b8) h)
theorem EI{aD:aK}{r:aT}(h:rW aD=some r):Good prog 37 [D.agg (aK.c aD)] (D.fr 113 2 (r.map aV.c)):=by
 refine gd func37 [[some (113,2)]] 55 fun hr Γ hΓ=>?_
 rw[rW]at h;refine(aW.a [.cn [1,3,4] [0,1]]).lp hΓ (FJ hΓ (fun cC h=>?_) (by have:=(gb.sl (gb.agg (hr _ (aE (i:=0) rfl)) (.sl (aD.conds.map aP.c)) (by simp))).1;simpa using this) aD.conds 0 ([]:aT) rfl h);have h:=aN h;subst h;exact aW.ret hΓ
def lu(aD:aK)(y1:aT)(k1:ar->Option ar):ar->Nat->ar->Option ar
 | [],i1,bR=>(k1 bR)
 |bS::cT,i1,bR=>((kK bS y1).bind fun Cq=>(bif room ((bR.map aP.c).length+([[D.int .i64 Cq.kind,D.str Cq.pat.rel,D.sl (Cq.pat.args.map tx),D.str Cq.left,D.str Cq.right]]).length) 80 then(lu aD y1 k1 cT (i1+1) (bR++([Cq])))else none))
def rV(aD:aK):Option ar:=((rW aD).bind fun y1=>(lu aD y1 (fun(cC:ar)=>(some cC)) aD.conds 0 ([]:ar)))
def ze(aD:aK)(y1:aT)(W0:List aQ)(dG:Int):St:=⟨[(1,D.ptr 0 0),(3,D.acc 1),(4,D.acc 2),(5,D.int .i64 dG)],[Ob.box (aK.c aD),Ob.row .uq 71 5 W0,Ob.row .uq 113 2 (y1.map aV.c)]⟩
theorem FI(hΓ:Γ.nt=27){aD:aK}{y1:aT}{r:ar}{k1:ar->Option ar}(dX:∀(cC:ar),k1 cC=some r->Ax Γ N f90 (.q [[some (71,5)]] (D.fr 71 5 (r.map aP.c))) [1,1,1,1] ⟨[(3,D.acc 0)],[Ob.row .uq 71 5 (cC.map aP.c)]⟩)(hm1:aD.conds.length<=maxLen):∀(rest:ar) (i1:Nat) (bR:ar),aD.conds.drop i1=rest->lu aD y1 k1 rest i1 bR=some r->Ar Γ N f90 (.q [[some (71,5)]] (D.fr 71 5 (r.map aP.c))) [1,1,1,0,1,0] (rest.length+1) (ze aD y1 (bR.map aP.c) (i1:Int)):=by
 intro rest
 induction rest with
 |nil=>
  intro i1 bR b8 h;rw[lu]at h;refine aU fun N1 cW cK=>?_
  exact((aW.ge aP.c b8).a [.hl 0 [3] [1]]).ex hΓ cW (dX bR h)
 |cons bS cT ih1=>
  intro i1 bR b8 h;rw[lu]at h;refine aU fun N1 cW cK=>?_
  obtain⟨Cq,h30,h⟩:=aB h;obtain⟨h31,h⟩:=bQ h;exact(((((aW.lt aP.c b8).l (bG aP.c 5 (dc b8) rfl)).g (jj h30)).w (bX h31)).a [.cn [1,3,4,5] [0,5,2]]).cs hΓ cK (ze aD y1 ((bR.map aP.c)++([[D.int .i64 Cq.kind,D.str Cq.pat.rel,D.sl (Cq.pat.args.map tx),D.str Cq.left,D.str Cq.right]])) (IntKind.i64.wrap ((i1:Int)+1))) (by first| (simp only[iS b8 hm1,mA]<;>rfl)| (simp only[iS b8 hm1,mA,aC.c,aV.c,aP.c,Action.c,aK.c,aO.c,bM.c,aX.c,Node.c,aG.c,dL.c]<;>rfl)) (ih1 (i1+1) (bR++([Cq])) (dn b8) h)
theorem EH{aD:aK}{r:ar}(h:rV aD=some r):Good prog 90 [D.agg (aK.c aD)] (D.fr 71 5 (r.map aP.c)):=by
 refine gd func90 [[some (71,5)]] 27 fun hr Γ hΓ=>?_
 rw[rV]at h;obtain⟨y1,h2,h⟩:=aB h;refine((aW.g (EI h2)).a [.cn [1,3,4,5] [0,1,2]]).lp hΓ (FI hΓ (fun cC h=>?_) (by have:=(gb.sl (gb.agg (hr _ (aE (i:=0) rfl)) (.sl (aD.conds.map aP.c)) (by simp))).1;simpa using this) aD.conds 0 ([]:ar) rfl h);have h:=aN h;subst h;exact aW.ret hΓ
def kT(aD:aH)(aY:aH)(k1:Option Bool):aH->Nat->Option Bool
 | [],i1=>(k1)
 |bS::cT,i1=>((fy aY (i1:Int)).bind fun x22=>(bif !((bS:Bytes)==x22)then(some false)else(kT aD aY k1 cT (i1+1))))
def oG(aD:aH)(aY:aH):Option Bool:=(bif (((aD.map tx).length:Int):Int) != ((aY.map tx).length:Int)then(some false)else(kT aD aY (some true) aD 0))
def FN(aD:aH)(aY:aH)(dG:Int):St:=⟨[(0,D.sl (aD.map tx)),(1,D.sl (aY.map tx)),(5,D.int .i64 dG)],[]⟩
theorem EJ(hΓ:Γ.nt=26){aD:aH}{aY:aH}{r:Bool}{k1:Option Bool}(dX:k1=some r->Ax Γ N f156 (.q [[none]] (D.bool r)) [1,1,1] ⟨[],[]⟩)(hm1:aD.length<=maxLen):∀(rest:aH) (i1:Nat),aD.drop i1=rest->kT aD aY k1 rest i1=some r->Ar Γ N f156 (.q [[none]] (D.bool r)) [1,1,0,1,0] (rest.length+1) (FN aD aY (i1:Int)):=by
 intro rest
 induction rest with
 |nil=>
  intro i1 b8 h;rw[kT]at h;refine aU fun N1 cW cK=>?_
  exact((aW.ge tx b8).a [.hl 0 [] []]).ex hΓ cW (dX h)
 |cons bS cT ih1=>
  intro i1 b8 h;rw[kT]at h;refine aU fun N1 cW cK=>?_
  obtain⟨x22,h23,h⟩:=aB h;have fE:=((((aW.lt tx b8).a [.n 8]).l (bG tx 1 (dc b8) rfl)).l (fB tx 1 h23 rfl))
  obtain⟨h24,h⟩|⟨h24,h⟩:=aL h
  ·have h:=aN h;subst h;exact(fE.b h24).ret hΓ
  ·exact((fE.b h24).a [.cn [0,1,5] []]).ct hΓ cK (iS b8 hm1) (ih1 (i1+1) (dn b8) h)
theorem xY{aD:aH}{aY:aH}{r:Bool}(h:oG aD aY=some r):Good prog 156 [D.sl (aD.map tx),D.sl (aY.map tx)] (D.bool r):=by
 refine gd func156 [[none]] 26 fun hr Γ hΓ=>?_
 rw[oG]at h;obtain⟨h1,h⟩|⟨h1,h⟩:=aL h
 ·have h:=aN h;subst h;exact(aW.b h1).ret hΓ
 ·refine((aW.b h1).a [.cn [0,1,5] []]).lp hΓ (EJ hΓ (fun h=>?_) (by have:=(gb.sl (hr _ (aE (i:=0) rfl))).1;simpa using this) aD 0 rfl h);have h:=aN h;subst h;exact aW.ret hΓ
def jI(aD:aC)(aY:aC):Option Bool:=(bif (aD.rel:Bytes)==aY.rel then((oG aD.args aY.args).bind fun y2=>(some y2))else(some false))
theorem tN{aD:aC}{aY:aC}{r:Bool}(h:jI aD aY=some r):Good prog 93 [D.agg (aC.c aD),D.agg (aC.c aY)] (D.bool r):=by
 refine gd func93 [[none]] 17 fun hr Γ hΓ=>?_
 rw[jI]at h;obtain⟨h1,h⟩|⟨h1,h⟩:=aL h
 ·obtain⟨y2,h3,h⟩:=aB h;have h:=aN h;subst h;exact(((aW.r 5 h1).g (xY h3)).b h1).ret hΓ
 ·have h:=aN h;subst h;exact(aW.r 6 h1).ret hΓ
def pW(aD:aP)(aY:aP):Option Bool:=(bif (aD.kind:Int)==aY.kind then((jI aD.pat aY.pat).bind fun y2=>(bif y2 then(bif (aD.left:Bytes)==aY.left then(some ((aD.right:Bytes)==aY.right))else(some false))else(some false)))else(some false))
theorem zg{aD:aP}{aY:aP}{r:Bool}(h:pW aD aY=some r):Good prog 94 [D.agg (aP.c aD),D.agg (aP.c aY)] (D.bool r):=by
 refine gd func94 [[none]] 31 fun hr Γ hΓ=>?_
 rw[pW]at h;obtain⟨h1,h⟩|⟨h1,h⟩:=aL h
 ·obtain⟨y2,h3,h⟩:=aB h;have kX:=(((aW.r 5 h1).g (tN h3)).b h1)
  obtain⟨h4,h⟩|⟨h4,h⟩:=aL h
  ·have fE:=(kX.r 6 h4)
   obtain⟨h5,h⟩|⟨h5,h⟩:=aL h
   ·cases h;exact(fE.r 6 h5).ret hΓ
   ·have h:=aN h;subst h;exact(fE.r 6 h5).ret hΓ
  ·have h:=aN h;subst h;exact((kX.r 6 h4).F 6).ret hΓ
 ·have h:=aN h;subst h;exact((aW.r 6 h1).F 12).ret hΓ
def mr(aD:aC)(k1:aT->Option aC):aH->Nat->aT->Option aC
 | [],i1,nD=>(k1 nD)
 |bS::cT,i1,nD=>((qN nD bS).bind fun qp=>(mr aD k1 cT (i1+1) qp))
def tO(aD:aC):Option aC:=(mr aD (fun(qF:aT)=>((kK (⟨0,aD,[],[]⟩:aP) qF).bind fun Di=>(some Di.pat))) aD.args 0 ([]:aT))
def KW(aD:aC)(W0:List aQ)(dG:Int):St:=⟨[(1,D.ptr 0 0),(2,D.ptr 1 0),(3,D.acc 2),(4,D.int .i64 dG)],[Ob.box (aC.c aD),Ob.box [D.str ([]),D.nil],Ob.row .uq 113 2 W0]⟩
theorem JP(hΓ:Γ.nt=25){aD:aC}{r:aC}{k1:aT->Option aC}(dX:∀(qF:aT),k1 qF=some r->Ax Γ N f153 (.q [[none,some (9,1)]] (D.agg [D.str r.rel,D.fr 9 1 (r.args.map tx)])) [1,1,1] ⟨[(1,D.ptr 0 0),(2,D.ptr 1 0),(3,D.acc 2)],[Ob.box (aC.c aD),Ob.box [D.str ([]),D.nil],Ob.row .uq 113 2 (qF.map aV.c)]⟩)(hm1:aD.args.length<=maxLen):∀(rest:aH) (i1:Nat) (nD:aT),aD.args.drop i1=rest->mr aD k1 rest i1 nD=some r->Ar Γ N f153 (.q [[none,some (9,1)]] (D.agg [D.str r.rel,D.fr 9 1 (r.args.map tx)])) [1,1,0,1,0] (rest.length+1) (KW aD (nD.map aV.c) (i1:Int)):=by
 intro rest
 induction rest with
 |nil=>
  intro i1 nD b8 h;rw[mr]at h;refine aU fun N1 cW cK=>?_
  exact((aW.ge tx b8).a [.hl 0 [1,2,3] [0,1,2]]).ex hΓ cW (dX nD h)
 |cons bS cT ih1=>
  intro i1 nD b8 h;rw[mr]at h;refine aU fun N1 cW cK=>?_
  obtain⟨qp,h23,h⟩:=aB h;exact(((((aW.lt tx b8).l (bG tx 1 (dc b8) rfl)).w (show(nD.map aV.c).flatten.all D.flat=true from by simpa only[bD,au,bg]using DS (c:=aV.c) (fun _=>rfl) nD)).w (show Ic prog 85 [D.acc 0,D.str bS] 113 2 (nD.map aV.c) (qp.map aV.c)from by simpa only[bD,au,bg]using uB h23)).a [.ov 2 (qp.map aV.c),.cn [1,2,3,4] [0,1,3]]).ct hΓ cK (iS b8 hm1) (ih1 (i1+1) qp (dn b8) h)
theorem Ab{aD:aC}{r:aC}(h:tO aD=some r):Good prog 153 [D.agg (aC.c aD)] (D.agg [D.str r.rel,D.fr 9 1 (r.args.map tx)]):=by
 refine gd func153 [[none,some (9,1)]] 25 fun hr Γ hΓ=>?_
 rw[tO]at h;refine(aW.a [.cn [1,2,3,4] [0,1,2]]).lp hΓ (JP hΓ (fun qF h=>?_) (by have:=(gb.sl (gb.agg (hr _ (aE (i:=0) rfl)) (.sl (aD.args.map tx)) (by simp))).1;simpa using this) aD.args 0 ([]:aT) rfl h);obtain⟨Di,h25,h⟩:=aB h;cases h;exact((aW.a [.d (D.agg [D.int .i64 Di.kind,D.str Di.pat.rel,D.fr 9 1 (Di.pat.args.map tx),D.str Di.left,D.str Di.right])]).w (show Good prog 151 [D.agg [D.int .i64 0,D.str aD.rel,D.sl (aD.args.map tx),D.str ([]),D.str ([])],D.sl (qF.map aV.c)] (D.agg [D.int .i64 Di.kind,D.str Di.pat.rel,D.fr 9 1 (Di.pat.args.map tx),D.str Di.left,D.str Di.right])from by first| (simpa only[bD,au,bg,bZ,bh]using jj h25)|exact jj h25| (have t:=jj h25;simp only[bD,bZ,bh,aP.c]at t;exact t))).ret hΓ
def cB(x:aG):aQ:=[D.fr 63 4 (x.rules.map aK.c),D.fr 3 1 (x.ends.map gm),D.fr 83 3 (x.az.map aX.c),D.fr 74 8 (x.nodes.map Node.c),D.fr 43 2 (x.facts.map aC.c),D.int .i64 x.br]
def n9(aD:aG)(aY:aC)(k1:Option (aG×Int)):bK->Nat->Option (aG×Int)
 | [],i1=>(k1)
 |bS::cT,i1=>((jI bS.shape aY).bind fun qp=>(bif qp then(some (aD,(i1:Int)))else(n9 aD aY k1 cT (i1+1))))
def tQ(aD:aG)(aY:aC):Option (aG×Int):=(bif decide (aD.az.length<=maxLen)then(n9 aD aY (bif room ((aD.az.map aX.c).length+([[D.str aY.rel,D.sl (aY.args.map tx),D.sl ([])]]).length) 64 then(some ((⟨aD.rules,aD.ends,aD.az++([(⟨aY,[]⟩:aX)]),aD.nodes,aD.facts,aD.br⟩:aG),IntKind.i64.wrap ((((aD.az.map aX.c)++([[D.str aY.rel,D.sl (aY.args.map tx),D.sl ([])]])).length:Int)-1)))else none) aD.az 0)else none)
def Km(iU:Value)(aD:aG)(aY:aC)(dG:Int):St:=⟨[(0,D.ptr 0 0),(3,D.ptr 1 0),(5,D.int .i64 dG)],[Ob.Bq [D.acc 2,D.acc 3,D.acc 4,D.acc 5,D.acc 6,D.int .i64 aD.br] iU,Ob.box [D.str aY.rel,D.acc 7],Ob.row .uq 63 4 (aD.rules.map aK.c),Ob.row .uq 3 1 (aD.ends.map gm),Ob.row .uq 83 3 (aD.az.map aX.c),Ob.row .uq 74 8 (aD.nodes.map Node.c),Ob.row .uq 43 2 (aD.facts.map aC.c),Ob.row .uq 9 1 (aY.args.map tx)]⟩
theorem JY(hΓ:Γ.nt=43){iU:Value}{aD:aG}{aY:aC}{r:aG×Int}{k1:Option (aG×Int)}(dX:k1=some r->Ax Γ N f152 (.p [[some (63,4),some (3,1),some (83,3),some (74,8),some (43,2),none],[none]] iU (cB r.1) (D.int .i64 r.2)) [1,1] ⟨[(0,D.ptr 0 0),(3,D.ptr 1 0)],[Ob.Bq [D.acc 2,D.acc 3,D.acc 4,D.acc 5,D.acc 6,D.int .i64 aD.br] iU,Ob.box [D.str aY.rel,D.acc 7],Ob.row .uq 63 4 (aD.rules.map aK.c),Ob.row .uq 3 1 (aD.ends.map gm),Ob.row .uq 83 3 (aD.az.map aX.c),Ob.row .uq 74 8 (aD.nodes.map Node.c),Ob.row .uq 43 2 (aD.facts.map aC.c),Ob.row .uq 9 1 (aY.args.map tx)]⟩)(hm1:aD.az.length<=maxLen):∀(rest:bK) (i1:Nat),aD.az.drop i1=rest->n9 aD aY k1 rest i1=some r->Ar Γ N f152 (.p [[some (63,4),some (3,1),some (83,3),some (74,8),some (43,2),none],[none]] iU (cB r.1) (D.int .i64 r.2)) [1,0,1,0] (rest.length+1) (Km iU aD aY (i1:Int)):=by
 intro rest
 induction rest with
 |nil=>
  intro i1 b8 h;rw[n9]at h;refine aU fun N1 cW cK=>?_
  exact((aW.ge aX.c b8).a [.hl 0 [0,3] [0,1,2,3,4,5,6,7]]).ex hΓ cW (dX h)
 |cons bS cT ih1=>
  intro i1 b8 h;rw[n9]at h;refine aU fun N1 cW cK=>?_
  obtain⟨qp,h23,h⟩:=aB h;have fE:=(((((aW.lt aX.c b8).a [.n 9]).i (mL aX.c 3 (dc b8))).o 3 2 .uq (cH aX.c (dc b8))).g (tN h23))
  obtain⟨h24,h⟩|⟨h24,h⟩:=aL h
  ·cases h;exact(fE.b h24).ret hΓ
  ·exact((fE.b h24).a [.cn [0,3,5] [0,1,2,3,4,5,6,7]]).ct hΓ cK (iS b8 hm1) (ih1 (i1+1) (dn b8) h)
theorem Af{aD:aG}{aY:aC}{r:aG×Int}(h:tQ aD aY=some r):iL prog 152 (cB aD) (cB r.1) [D.agg [D.str aY.rel,D.fr 9 1 (aY.args.map tx)]] (D.int .i64 r.2):=by
 refine Jt func152 [[some (63,4),some (3,1),some (83,3),some (74,8),some (43,2),none],[none]] 43 [D.acc 1,D.acc 2,D.acc 3,D.acc 4,D.acc 5,D.int .i64 aD.br] [D.agg [D.str aY.rel,D.acc 6]] [Ob.row .uq 63 4 (aD.rules.map aK.c),Ob.row .uq 3 1 (aD.ends.map gm),Ob.row .uq 83 3 (aD.az.map aX.c),Ob.row .uq 74 8 (aD.nodes.map Node.c),Ob.row .uq 43 2 (aD.facts.map aC.c),Ob.row .uq 9 1 (aY.args.map tx)] fun hr iU Γ hΓ=>?_
 rw[tQ]at h;obtain⟨h27,h⟩:=bQ h;refine(aW.a [.cn [0,3,5] [0,7,1,2,3,4,5,6]]).lp hΓ (JY hΓ (fun h=>?_) (bV h27) aD.az 0 rfl h);obtain⟨h26,h⟩:=bQ h;cases h;exact((aW.w (bX h26)).a [.n2 [0,1,2,3,4,5,6,7,8,9,10,11] [0,1,2,3,4,5,6,7,8,9,10,11] 7 9 [0,1,2,3,4] [4,7,8]]).rts hΓ (D.ff [D.int .i64 (IntKind.i64.wrap ((((aD.az.map aX.c)++([[D.str aY.rel,D.sl (aY.args.map tx),D.sl ([])]])).length:Int)-1)),D.agg [D.fr 63 4 (aD.rules.map aK.c),D.fr 3 1 (aD.ends.map gm),D.fr 83 3 ((aD.az.map aX.c)++([[D.str aY.rel,D.sl (aY.args.map tx),D.sl ([])]])),D.fr 74 8 (aD.nodes.map Node.c),D.fr 43 2 (aD.facts.map aC.c),D.int .i64 aD.br],D.val iU]) (by first|rfl| (simp only[mA]<;>rfl)| (simp only[cB,mA]<;>rfl))
def gl(aD:aG)(aY:Int)(cX:aP)(k1:Option (aG×Int)):Nat->Int->Option (aG×Int)
 |0,_=>none
 |n1+1,wB=>(bif decide ((wB:Int)<((aD.nodes.map Node.c).length:Int))then((fy aD.nodes wB).bind fun x16=>(bif (x16.parent:Int)==aY then((pW x16.cond cX).bind fun yX=>(bif yX then(some (aD,wB))else(gl aD aY cX k1 n1 (IntKind.i64.wrap (wB+1)))))else(gl aD aY cX k1 n1 (IntKind.i64.wrap (wB+1)))))else(k1))
def vZ(aD:aG)(aY:Int)(cX:aP):Option (aG×Int):=(gl aD aY cX ((kW cX).bind fun qp=>(bif (cX.kind:Int)==1 then((tO cX.pat).bind fun xC=>((tQ aD xC).bind fun oa=>(bif room ((oa.1.nodes.map Node.c).length+([[D.int .i64 aY,D.int .i64 qp.kind,D.str qp.pat.rel,D.sl (qp.pat.args.map tx),D.str qp.left,D.str qp.right,D.int .i64 oa.2,D.sl ([])]]).length) 120 then(some ((⟨oa.1.rules,oa.1.ends,oa.1.az,oa.1.nodes++([(⟨aY,qp,oa.2,[]⟩:Node)]),oa.1.facts,oa.1.br⟩:aG),IntKind.i64.wrap ((((oa.1.nodes.map Node.c)++([[D.int .i64 aY,D.int .i64 qp.kind,D.str qp.pat.rel,D.sl (qp.pat.args.map tx),D.str qp.left,D.str qp.right,D.int .i64 oa.2,D.sl ([])]])).length:Int)-1)))else none)))else(bif (cX.kind:Int)==2 then((tO cX.pat).bind fun HF=>((tQ aD HF).bind fun Fc=>(bif room ((Fc.1.nodes.map Node.c).length+([[D.int .i64 aY,D.int .i64 qp.kind,D.str qp.pat.rel,D.sl (qp.pat.args.map tx),D.str qp.left,D.str qp.right,D.int .i64 Fc.2,D.sl ([])]]).length) 120 then(some ((⟨Fc.1.rules,Fc.1.ends,Fc.1.az,Fc.1.nodes++([(⟨aY,qp,Fc.2,[]⟩:Node)]),Fc.1.facts,Fc.1.br⟩:aG),IntKind.i64.wrap ((((Fc.1.nodes.map Node.c)++([[D.int .i64 aY,D.int .i64 qp.kind,D.str qp.pat.rel,D.sl (qp.pat.args.map tx),D.str qp.left,D.str qp.right,D.int .i64 Fc.2,D.sl ([])]])).length:Int)-1)))else none)))else(bif room ((aD.nodes.map Node.c).length+([[D.int .i64 aY,D.int .i64 qp.kind,D.str qp.pat.rel,D.sl (qp.pat.args.map tx),D.str qp.left,D.str qp.right,D.int .i64 (-1),D.sl ([])]]).length) 120 then(some ((⟨aD.rules,aD.ends,aD.az,aD.nodes++([(⟨aY,qp, -1,[]⟩:Node)]),aD.facts,aD.br⟩:aG),IntKind.i64.wrap ((((aD.nodes.map Node.c)++([[D.int .i64 aY,D.int .i64 qp.kind,D.str qp.pat.rel,D.sl (qp.pat.args.map tx),D.str qp.left,D.str qp.right,D.int .i64 (-1),D.sl ([])]])).length:Int)-1)))else none)))) fuel 1)
def Ko(iU:Value)(aD:aG)(aY:Int)(cX:aP)(wB:Int):St:=⟨[(0,D.ptr 0 0),(1,D.int .i64 aY),(5,D.ptr 1 0),(7,D.int .i64 wB)],[Ob.Bq [D.acc 2,D.acc 3,D.acc 4,D.acc 5,D.acc 6,D.int .i64 aD.br] iU,Ob.box (aP.c cX),Ob.row .uq 63 4 (aD.rules.map aK.c),Ob.row .uq 3 1 (aD.ends.map gm),Ob.row .uq 83 3 (aD.az.map aX.c),Ob.row .uq 74 8 (aD.nodes.map Node.c),Ob.row .uq 43 2 (aD.facts.map aC.c)]⟩
theorem JZ(hΓ:Γ.nt=75){iU:Value}{aD:aG}{aY:Int}{cX:aP}{r:aG×Int}{k1:Option (aG×Int)}(dX:k1=some r->Ax Γ N f91 (.p [[some (63,4),some (3,1),some (83,3),some (74,8),some (43,2),none],[none]] iU (cB r.1) (D.int .i64 r.2)) [1,1] ⟨[(0,D.ptr 0 0),(1,D.int .i64 aY),(5,D.ptr 1 0)],[Ob.Bq [D.acc 2,D.acc 3,D.acc 4,D.acc 5,D.acc 6,D.int .i64 aD.br] iU,Ob.box (aP.c cX),Ob.row .uq 63 4 (aD.rules.map aK.c),Ob.row .uq 3 1 (aD.ends.map gm),Ob.row .uq 83 3 (aD.az.map aX.c),Ob.row .uq 74 8 (aD.nodes.map Node.c),Ob.row .uq 43 2 (aD.facts.map aC.c)]⟩):∀(n1:Nat) (wB:Int),gl aD aY cX k1 n1 wB=some r->Ar Γ N f91 (.p [[some (63,4),some (3,1),some (83,3),some (74,8),some (43,2),none],[none]] iU (cB r.1) (D.int .i64 r.2)) [1,0,1,0] n1 (Ko iU aD aY cX wB):=by
 intro n
 induction n with
 |zero=>intro wB h;simp[gl]at h
 |succ n1 ih1=>
  intro wB h;rw[gl]at h;refine aU fun N1 cW cK=>?_
  obtain⟨h15,h⟩|⟨h15,h⟩:=aL h
  ·obtain⟨x16,h17,h⟩:=aB h;have ij:=((((aW.b h15).a [.n 20]).i (ed Node.c 8 h17)).o 8 1 .uq (cH Node.c (dN h17)))
   obtain⟨h18,h⟩|⟨h18,h⟩:=aL h
   ·obtain⟨yX,h20,h⟩:=aB h;have jO:=(((((((ij.r 6 h18).i (ed Node.c 8 h17)).r 2 h18).o 8 6 .uq (cH Node.c (dN h17))).r 2 h18).g (zg h20)).b h18)
    obtain⟨h21,h⟩|⟨h21,h⟩:=aL h
    ·cases h;exact(jO.b h21).ret hΓ
    ·exact((jO.b h21).a [.cn [0,1,5,7] [0,1,2,3,4,5,6]]).cf hΓ cK (ih1 (IntKind.i64.wrap (wB+1)) h)
   ·exact(((ij.r 11 h18).F 1).a [.cn [0,1,5,7] [0,1,2,3,4,5,6]]).cf hΓ cK (ih1 (IntKind.i64.wrap (wB+1)) h)
  ·exact((aW.b h15).a [.hl 0 [0,1,5] [0,1,2,3,4,5,6]]).ex hΓ cW (dX h)
theorem IR{aD:aG}{aY:Int}{cX:aP}{r:aG×Int}(h:vZ aD aY cX=some r):iL prog 91 (cB aD) (cB r.1) [D.int .i64 aY,D.agg (aP.c cX)] (D.int .i64 r.2):=by
 refine Jt func91 [[some (63,4),some (3,1),some (83,3),some (74,8),some (43,2),none],[none]] 75 [D.acc 1,D.acc 2,D.acc 3,D.acc 4,D.acc 5,D.int .i64 aD.br] [D.int .i64 aY,D.agg [D.int .i64 cX.kind,D.str cX.pat.rel,D.sl (cX.pat.args.map tx),D.str cX.left,D.str cX.right]] [Ob.row .uq 63 4 (aD.rules.map aK.c),Ob.row .uq 3 1 (aD.ends.map gm),Ob.row .uq 83 3 (aD.az.map aX.c),Ob.row .uq 74 8 (aD.nodes.map Node.c),Ob.row .uq 43 2 (aD.facts.map aC.c)] fun hr iU Γ hΓ=>?_
 rw[vZ]at h;refine(aW.a [.cn [0,1,5,7] [0,6,1,2,3,4,5]]).lp hΓ (JZ hΓ (fun h=>?_) fuel 1 h);obtain⟨qp,h23,h⟩:=aB h;obtain⟨h24,h⟩|⟨h24,h⟩:=aL h
 ·obtain⟨xC,h26,h⟩:=aB h;obtain⟨oa,h28,h⟩:=aB h;obtain⟨h30,h⟩:=bQ h;cases h;exact(((((((aW.g (qg h23)).r 4 h24).T 1).g (Ab h26)).hp [[some (63,4),some (3,1),some (83,3),some (74,8),some (43,2),none],[none,some (9,1)]] (Af h28)).w (bX h30)).a [.n2 [0,1,2,3,4,5,6,7,8,9,10] [0,1,2,3,4,5,6,7,8,9,10] 6 8 [0,1,2,3,4] [7,13,15]]).rts hΓ (D.ff [D.int .i64 (IntKind.i64.wrap ((((oa.1.nodes.map Node.c)++([[D.int .i64 aY,D.int .i64 qp.kind,D.str qp.pat.rel,D.sl (qp.pat.args.map tx),D.str qp.left,D.str qp.right,D.int .i64 oa.2,D.sl ([])]])).length:Int)-1)),D.agg [D.fr 63 4 (oa.1.rules.map aK.c),D.fr 3 1 (oa.1.ends.map gm),D.fr 83 3 (oa.1.az.map aX.c),D.fr 74 8 ((oa.1.nodes.map Node.c)++([[D.int .i64 aY,D.int .i64 qp.kind,D.str qp.pat.rel,D.sl (qp.pat.args.map tx),D.str qp.left,D.str qp.right,D.int .i64 oa.2,D.sl ([])]])),D.fr 43 2 (oa.1.facts.map aC.c),D.int .i64 oa.1.br],D.val iU]) (by first|rfl| (simp only[mA]<;>rfl)| (simp only[cB,mA]<;>rfl))
 ·have tS:=((aW.g (qg h23)).r 4 h24)
  obtain⟨h31,h⟩|⟨h31,h⟩:=aL h
  ·obtain⟨HF,h33,h⟩:=aB h;obtain⟨Fc,h35,h⟩:=aB h;obtain⟨h37,h⟩:=bQ h;cases h;exact(((((tS.b h31).g (Ab h33)).hp [[some (63,4),some (3,1),some (83,3),some (74,8),some (43,2),none],[none,some (9,1)]] (Af h35)).w (bX h37)).a [.n2 [0,1,2,3,4,5,6,7,8,9,10] [0,1,2,3,4,5,6,7,8,9,10] 6 8 [0,1,2,3,4] [7,13,15]]).rts hΓ (D.ff [D.int .i64 (IntKind.i64.wrap ((((Fc.1.nodes.map Node.c)++([[D.int .i64 aY,D.int .i64 qp.kind,D.str qp.pat.rel,D.sl (qp.pat.args.map tx),D.str qp.left,D.str qp.right,D.int .i64 Fc.2,D.sl ([])]])).length:Int)-1)),D.agg [D.fr 63 4 (Fc.1.rules.map aK.c),D.fr 3 1 (Fc.1.ends.map gm),D.fr 83 3 (Fc.1.az.map aX.c),D.fr 74 8 ((Fc.1.nodes.map Node.c)++([[D.int .i64 aY,D.int .i64 qp.kind,D.str qp.pat.rel,D.sl (qp.pat.args.map tx),D.str qp.left,D.str qp.right,D.int .i64 Fc.2,D.sl ([])]])),D.fr 43 2 (Fc.1.facts.map aC.c),D.int .i64 Fc.1.br],D.val iU]) (by first|rfl| (simp only[mA]<;>rfl)| (simp only[cB,mA]<;>rfl))
  ·obtain⟨h39,h⟩:=bQ h;cases h;exact(((tS.b h31).w (bX h39)).a [.n2 [0,1,2,3,4,5,6,7,8,9,10] [0,1,2,3,4,5,6,7,8,9,10] 6 8 [0,1,2,3,4] [5,7,9]]).rts hΓ (D.ff [D.int .i64 (IntKind.i64.wrap ((((aD.nodes.map Node.c)++([[D.int .i64 aY,D.int .i64 qp.kind,D.str qp.pat.rel,D.sl (qp.pat.args.map tx),D.str qp.left,D.str qp.right,D.int .i64 (-1),D.sl ([])]])).length:Int)-1)),D.agg [D.fr 63 4 (aD.rules.map aK.c),D.fr 3 1 (aD.ends.map gm),D.fr 83 3 (aD.az.map aX.c),D.fr 74 8 ((aD.nodes.map Node.c)++([[D.int .i64 aY,D.int .i64 qp.kind,D.str qp.pat.rel,D.sl (qp.pat.args.map tx),D.str qp.left,D.str qp.right,D.int .i64 (-1),D.sl ([])]])),D.fr 43 2 (aD.facts.map aC.c),D.int .i64 aD.br],D.val iU]) (by first|rfl| (simp only[mA]<;>rfl)| (simp only[cB,mA]<;>rfl))
def iD(aD:aq)(i1:Nat)(Le:ar)(k2:Int->Int->aq->bH->bK->bI->aI->Option (aG×Bool)):ar->Nat->Int->Int->aq->bH->bK->bI->aI->Option (aG×Bool)
 | [],i2,nB,pq,Cj,kq,wC,jr,sU=>(k2 nB pq Cj kq wC jr sU)
 |js::ua,i2,nB,pq,Cj,kq,wC,jr,sU=>((vZ (⟨Cj,kq,wC,jr,sU,pq⟩:aG) nB js).bind fun EY=>(iD aD i1 Le k2 ua (i2+1) EY.2 EY.1.br EY.1.rules EY.1.ends EY.1.az EY.1.nodes EY.1.facts))
def iC(aD:aq)(k1:Int->aq->bH->bK->bI->aI->Option (aG×Bool)):aq->Nat->Int->aq->bH->bK->bI->aI->Option (aG×Bool)
 | [],i1,pg,nD,dK,wV,mP,Ci=>(k1 pg nD dK wV mP Ci)
 |bS::cT,i1,pg,nD,dK,wV,mP,Ci=>((rV bS).bind fun Le=>(bif decide (Le.length<=maxLen)then(iD aD i1 Le (fun(Av:Int) (pY:Int) (Jk:aq) (xQ:bH) (Jl:bK) (mJ:bI) (Jm:aI)=>(bif room ((xQ.map gm).length+([[D.int .i64 Av]]).length) 8 then(iC aD k1 cT (i1+1) pY Jk (xQ++([Av])) Jl mJ Jm)else none)) Le 0 0 pg nD dK wV mP Ci)else none))
def k7(aD:aq):Option (aG×Bool):=((rC aD).bind fun y1=>(bif !(y1)then(some ((⟨[],[],[],[],[],0⟩:aG),false))else((rF aD).bind fun y4=>(iC aD (fun(vg:Int) (qF:aq) (dl:bH) (P0:bK) (kp:bI) (vf:aI)=>(some ((⟨qF,dl,P0,kp,vf,vg⟩:aG),true))) aD 0 0 y4 ([]:bH) ([]:bK) ([(⟨-1,(⟨0,(⟨[],[]⟩:aC),[],[]⟩:aP), -1,[(⟨[],[]⟩:aO)]⟩:Node)]) ([]:aI)))))
def tr(aD:aq)(pg:Int)(W1:List aQ)(W2:List aQ)(W3:List aQ)(W4:List aQ)(W5:List aQ)(dG:Int):St:=⟨[(0,D.sl (aD.map aK.c)),(2,D.ptr 0 0),(4,D.ptr 1 0),(5,D.int .i64 dG)],[Ob.box [D.nil,D.nil,D.nil,D.nil,D.nil,D.int .i64 0],Ob.box [D.acc 2,D.acc 3,D.acc 4,D.acc 5,D.acc 6,D.int .i64 pg],Ob.row .uq 63 4 W1,Ob.row .uq 3 1 W2,Ob.row .uq 83 3 W3,Ob.row .uq 74 8 W4,Ob.row .uq 43 2 W5]⟩
def EF(aD:aq)(i1:Nat)(Le:ar)(nB:Int)(pq:Int)(W2:List aQ)(W3:List aQ)(W4:List aQ)(W5:List aQ)(W6:List aQ)(dG:Int):St:=⟨[(0,D.sl (aD.map aK.c)),(2,D.ptr 0 0),(4,D.ptr 1 0),(5,D.int .i64 (i1:Int)),(6,D.int .i64 nB),(7,D.acc 2),(8,D.int .i64 dG)],[Ob.box [D.nil,D.nil,D.nil,D.nil,D.nil,D.int .i64 0],Ob.box [D.acc 3,D.acc 4,D.acc 5,D.acc 6,D.acc 7,D.int .i64 pq],Ob.row .uq 71 5 (Le.map aP.c),Ob.row .uq 63 4 W2,Ob.row .uq 3 1 W3,Ob.row .uq 83 3 W4,Ob.row .uq 74 8 W5,Ob.row .uq 43 2 W6]⟩
theorem DA(hΓ:Γ.nt=50){aD:aq}{i1:Nat}{Le:ar}{r:aG×Bool}{k2:Int->Int->aq->bH->bK->bI->aI->Option (aG×Bool)}(zx:∀(Av:Int) (pY:Int) (Jk:aq) (xQ:bH) (Jl:bK) (mJ:bI) (Jm:aI),k2 Av pY Jk xQ Jl mJ Jm=some r->Ax Γ N f40 (.q [[some (63,4),some (3,1),some (83,3),some (74,8),some (43,2),none],[none]] (D.ff [D.agg [D.fr 63 4 (r.1.rules.map aK.c),D.fr 3 1 (r.1.ends.map gm),D.fr 83 3 (r.1.az.map aX.c),D.fr 74 8 (r.1.nodes.map Node.c),D.fr 43 2 (r.1.facts.map aC.c),D.int .i64 r.1.br],D.bool r.2])) [1,1,1,0,1,0,0,1,0,0,1,1,1] ⟨[(0,D.sl (aD.map aK.c)),(2,D.ptr 0 0),(4,D.ptr 1 0),(5,D.int .i64 (i1:Int)),(6,D.int .i64 Av)],[Ob.box [D.nil,D.nil,D.nil,D.nil,D.nil,D.int .i64 0],Ob.box [D.acc 2,D.acc 3,D.acc 4,D.acc 5,D.acc 6,D.int .i64 pY],Ob.row .uq 63 4 (Jk.map aK.c),Ob.row .uq 3 1 (xQ.map gm),Ob.row .uq 83 3 (Jl.map aX.c),Ob.row .uq 74 8 (mJ.map Node.c),Ob.row .uq 43 2 (Jm.map aC.c)]⟩)(hm2:Le.length<=maxLen):∀(rest:ar) (i2:Nat) (nB:Int) (pq:Int) (Cj:aq) (kq:bH) (wC:bK) (jr:bI) (sU:aI),Le.drop i2=rest->iD aD i1 Le k2 rest i2 nB pq Cj kq wC jr sU=some r->Ar Γ N f40 (.q [[some (63,4),some (3,1),some (83,3),some (74,8),some (43,2),none],[none]] (D.ff [D.agg [D.fr 63 4 (r.1.rules.map aK.c),D.fr 3 1 (r.1.ends.map gm),D.fr 83 3 (r.1.az.map aX.c),D.fr 74 8 (r.1.nodes.map Node.c),D.fr 43 2 (r.1.facts.map aC.c),D.int .i64 r.1.br],D.bool r.2])) [1,1,1,0,1,0,0,1,0,0,1,1,0,1,0] (rest.length+1) (EF aD i1 Le nB pq (Cj.map aK.c) (kq.map gm) (wC.map aX.c) (jr.map Node.c) (sU.map aC.c) (i2:Int)):=by
 intro rest
 induction rest with
 |nil=>
  intro i2 nB pq Cj kq wC jr sU hd2 h;rw[iD]at h;refine aU fun N2 vC s6=>?_
  exact((aW.ge aP.c hd2).a [.hl 5 [0,2,4,5,6] [0,1,3,4,5,6,7]]).ex hΓ vC (zx nB pq Cj kq wC jr sU h)
 |cons js ua ih2=>
  intro i2 nB pq Cj kq wC jr sU hd2 h;rw[iD]at h;refine aU fun N2 vC s6=>?_
  obtain⟨EY,h212,h⟩:=aB h;exact((((((aW.lt aP.c hd2).i (mL aP.c 5 (dc hd2))).o 5 5 .uq (cH aP.c (dc hd2))).a [.gp [[some (63,4),some (3,1),some (83,3),some (74,8),some (43,2),none],[none],[none,none,none,none,none]] (cB EY.1) (D.int .i64 EY.2)]).w (show iL prog 91 (cB (⟨Cj,kq,wC,jr,sU,pq⟩:aG)) (cB EY.1) [D.int .i64 nB,D.agg (aP.c js)] (D.int .i64 EY.2)from by simpa only[bD,au,bg,bZ,bh]using IR h212)).a [.cn [0,2,4,5,6,7,8] [0,1,2,8,9,10,11,12]]).ct hΓ s6 (iS hd2 hm2) (ih2 (i2+1) EY.2 EY.1.br EY.1.rules EY.1.ends EY.1.az EY.1.nodes EY.1.facts (dn hd2) h)
theorem D9(hΓ:Γ.nt=50){aD:aq}{r:aG×Bool}{k1:Int->aq->bH->bK->bI->aI->Option (aG×Bool)}(dX:∀(vg:Int) (qF:aq) (dl:bH) (P0:bK) (kp:bI) (vf:aI),k1 vg qF dl P0 kp vf=some r->Ax Γ N f40 (.q [[some (63,4),some (3,1),some (83,3),some (74,8),some (43,2),none],[none]] (D.ff [D.agg [D.fr 63 4 (r.1.rules.map aK.c),D.fr 3 1 (r.1.ends.map gm),D.fr 83 3 (r.1.az.map aX.c),D.fr 74 8 (r.1.nodes.map Node.c),D.fr 43 2 (r.1.facts.map aC.c),D.int .i64 r.1.br],D.bool r.2])) [1,1,1,1] ⟨[(2,D.ptr 0 0),(4,D.ptr 1 0)],[Ob.box [D.nil,D.nil,D.nil,D.nil,D.nil,D.int .i64 0],Ob.box [D.acc 2,D.acc 3,D.acc 4,D.acc 5,D.acc 6,D.int .i64 vg],Ob.row .uq 63 4 (qF.map aK.c),Ob.row .uq 3 1 (dl.map gm),Ob.row .uq 83 3 (P0.map aX.c),Ob.row .uq 74 8 (kp.map Node.c),Ob.row .uq 43 2 (vf.map aC.c)]⟩)(hm1:aD.length<=maxLen):∀(rest:aq) (i1:Nat) (pg:Int) (nD:aq) (dK:bH) (wV:bK) (mP:bI) (Ci:aI),aD.drop i1=rest->iC aD k1 rest i1 pg nD dK wV mP Ci=some r->Ar Γ N f40 (.q [[some (63,4),some (3,1),some (83,3),some (74,8),some (43,2),none],[none]] (D.ff [D.agg [D.fr 63 4 (r.1.rules.map aK.c),D.fr 3 1 (r.1.ends.map gm),D.fr 83 3 (r.1.az.map aX.c),D.fr 74 8 (r.1.nodes.map Node.c),D.fr 43 2 (r.1.facts.map aC.c),D.int .i64 r.1.br],D.bool r.2])) [1,1,1,0,1,0] (rest.length+1) (tr aD pg (nD.map aK.c) (dK.map gm) (wV.map aX.c) (mP.map Node.c) (Ci.map aC.c) (i1:Int)):=by
 intro rest
 induction rest with
 |nil=>
  intro i1 pg nD dK wV mP Ci b8 h;rw[iC]at h;refine aU fun N1 cW cK=>?_
  exact((aW.ge aK.c b8).a [.hl 0 [2,4] [0,1,2,3,4,5,6]]).ex hΓ cW (dX pg nD dK wV mP Ci h)
 |cons bS cT ih1=>
  intro i1 pg nD dK wV mP Ci b8 h;rw[iC]at h;refine aU fun N1 cW cK=>?_
  obtain⟨Le,h183,h⟩:=aB h;obtain⟨h214,h⟩:=bQ h;refine((((aW.lt aK.c b8).l (bG aK.c 4 (dc b8) rfl)).g (EH h183)).a [.cn [0,2,4,5,6,7,8] [0,1,7,2,3,4,5,6]]).lp hΓ (DA hΓ (fun Av pY Jk xQ Jl mJ Jm h=>?_) (bV h214) Le 0 0 pg nD dK wV mP Ci rfl h);obtain⟨h213,h⟩:=bQ h;exact((aW.w (bX h213)).a [.cn [0,2,4,5] [0,1,2,8,4,5,6]]).cs hΓ cK (tr aD pY (Jk.map aK.c) ((xQ.map gm)++([[D.int .i64 Av]])) (Jl.map aX.c) (mJ.map Node.c) (Jm.map aC.c) (IntKind.i64.wrap ((i1:Int)+1))) (by first| (simp only[iS b8 hm1,mA]<;>rfl)| (simp only[iS b8 hm1,mA,aC.c,aV.c,aP.c,Action.c,aK.c,aO.c,bM.c,aX.c,Node.c,aG.c,dL.c]<;>rfl)) (ih1 (i1+1) pY Jk (xQ++([Av])) Jl mJ Jm (dn b8) h)
theorem sI{aD:aq}{r:aG×Bool}(h:k7 aD=some r):Good prog 40 [D.sl (aD.map aK.c)] (D.ff [D.agg [D.fr 63 4 (r.1.rules.map aK.c),D.fr 3 1 (r.1.ends.map gm),D.fr 83 3 (r.1.az.map aX.c),D.fr 74 8 (r.1.nodes.map Node.c),D.fr 43 2 (r.1.facts.map aC.c),D.int .i64 r.1.br],D.bool r.2]):=by
 refine gd func40 [[some (63,4),some (3,1),some (83,3),some (74,8),some (43,2),none],[none]] 50 fun hr Γ hΓ=>?_
 rw[k7]at h;obtain⟨y1,h2,h⟩:=aB h;obtain⟨h3,h⟩|⟨h3,h⟩:=aL h
 ·cases h;exact((aW.g (vY h2)).b h3).ret hΓ
 ·obtain⟨y4,h5,h⟩:=aB h;refine((((aW.g (vY h2)).b h3).g (zh h5)).a [.pb 4 1 3 1,.pb 4 2 83 3,.pb 4 4 43 2,.cn [0,2,4,5] [0,4,1,5,6,3,7]]).lps hΓ (tr aD 0 (y4.map aK.c) ([]:List aQ) ([]:List aQ) ([[D.int .i64 (-1),D.int .i64 0,D.str ([]),D.sl ([]),D.str ([]),D.str ([]),D.int .i64 (-1),D.sl ([[D.sl ([]),D.sl ([])]])]]) ([]:List aQ) 0) (by first| (simp only[mA]<;>rfl)| (simp only[mA,aC.c,aV.c,aP.c,Action.c,aK.c,aO.c,bM.c,aX.c,Node.c,aG.c,dL.c]<;>rfl)) (D9 hΓ (fun vg qF dl P0 kp vf h=>?_) (by have:=(gb.sl (hr _ (aE (i:=0) rfl))).1;simpa using this) aD 0 0 y4 ([]:bH) ([]:bK) ([(⟨-1,(⟨0,(⟨[],[]⟩:aC),[],[]⟩:aP), -1,[(⟨[],[]⟩:aO)]⟩:Node)]) ([]:aI) rfl h);cases h;exact aW.ret hΓ
end Go.Cx

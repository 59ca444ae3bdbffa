/- What functions of the program compute, and the walks that show it. No condition. -/
import Derived.Test.YtolgbnoielbngaaGreatDoorPFnSharedG3
set_option linter.unusedVariables false
set_option linter.unusedSimpArgs false
namespace Go.Cx
open Go.RowKit Go.Proofs Tryz
set_option maxRecDepth 100000
variable{Γ:nR}{N:Nat->St->Prop}
def jB(aF:bC)(k1:Int->Option bz):bC->Nat->Int->Option bz
 | [],i1,fD=>(k1 fD)
 |cN::fK,i1,fD=>(bif decide (((i1:Int):Int)<4000)then(jB aF k1 fK (i1+1) (xB .i64 (IntKind.i64.wrap ((IntKind.i64.wrap ((IntKind.i64.wrap (fD*167))+(IntKind.i64.wrap cN)))+29)) 1073741823))else(k1 fD))
def oD(aF:bC):Option bz:=(bif decide (aF.length<=maxLen)then(jB aF (fun(AD:Int)=>(some (⟨aF,0,AD⟩:bz))) aF 0 (IntKind.i64.wrap (851207+(IntKind.i64.wrap (3*((aF.map yx).length:Int))))))else none)
def Ad(aF:bC)(fD:Int)(iw:Int):St:=⟨[(0,D.sl (aF.map yx)),(3,D.int .i64 fD),(4,D.int .i64 iw)],[]⟩
theorem zu(hΓ:Γ.nt=33){aF:bC}{r:bz}{k1:Int->Option bz}(jX:∀(AD:Int),k1 AD=some r->Ax Γ N f15 (.n (bz.c r)) [1,1,1] ⟨[(0,D.sl (aF.map yx)),(3,D.int .i64 AD)],[]⟩)(hm1:aF.length<=maxLen):∀(rest:bC) (i1:Nat) (fD:Int),aF.drop i1=rest->jB aF k1 rest i1 fD=some r->Ar Γ N f15 (.n (bz.c r)) [1,1,0,1,0] (rest.length+1) (Ad aF fD (i1:Int)):=by
 intro rest
 induction rest with
 |nil=>
  intro i1 fD bM h;rw[jB]at h;refine aW fun N1 fI eM=>?_
  exact(((((aX.ge yx bM).ge yx bM).ge yx bM).F 1).a [.hl 0 [0,3] []]).ex hΓ fI (jX fD h)
 |cons cN fK ih1=>
  intro i1 fD bM h;rw[jB]at h;refine aW fun N1 fI eM=>?_
  have nE:=(((aX.lt yx bM).lt yx bM).lt yx bM)
  obtain⟨h13,h⟩|⟨h13,h⟩:=aO h
  ·exact(((nE.b h13).l (cA yx 1 (dc bM) rfl)).a [.cn [0,3,4] []]).ct hΓ eM (iS bM hm1) (ih1 (i1+1) (xB .i64 (IntKind.i64.wrap ((IntKind.i64.wrap ((IntKind.i64.wrap (fD*167))+(IntKind.i64.wrap cN)))+29)) 1073741823) (dn bM) h)
  ·exact((nE.b h13).a [.hl 0 [0,3] []]).ex hΓ fI (jX fD h)
theorem yZ{aF:bC}{r:bz}(h:oD aF=some r):yI prog 15 [D.sl (aF.map yx)] (bz.c r):=by
 refine Vu func15 33 fun hr Γ hΓ=>?_
 rw[oD]at h;obtain⟨h14,h⟩:=bp h;refine(aX.a [.cn [0,3,4] []]).lp hΓ (zu hΓ (fun AD h=>?_) (bV h14) aF 0 (IntKind.i64.wrap (851207+(IntKind.i64.wrap (3*((aF.map yx).length:Int))))) rfl h);cases h;exact aX.ret hΓ
def jT(aF:bz):Option (bz×Int):=(bif decide ((aF.i:Int)<((aF.b.map yx).length:Int))then((lg aF.b aF.i).bind fun x2=>(some ((⟨aF.b,IntKind.i64.wrap (aF.i+1),IntKind.i64.wrap ((IntKind.i64.wrap (aF.h*6364136223846793005))+1442695040888963407)⟩:bz),xB .i64 (IntKind.i64.wrap ((xB .i64 (Gc .i64 (Ez .i64 (IntKind.i64.wrap ((IntKind.i64.wrap (aF.h*6364136223846793005))+1442695040888963407)) 35) (Ez .i64 (IntKind.i64.wrap ((IntKind.i64.wrap (aF.h*6364136223846793005))+1442695040888963407)) 45)) 255)+(IntKind.i64.wrap x2))) 255)))else(some ((⟨aF.b,aF.i,IntKind.i64.wrap ((IntKind.i64.wrap (aF.h*6364136223846793005))+1442695040888963407)⟩:bz),xB .i64 (Gc .i64 (Ez .i64 (IntKind.i64.wrap ((IntKind.i64.wrap (aF.h*6364136223846793005))+1442695040888963407)) 35) (Ez .i64 (IntKind.i64.wrap ((IntKind.i64.wrap (aF.h*6364136223846793005))+1442695040888963407)) 45)) 255)))
theorem lI{aF:bz}{r:bz×Int}(h:jT aF=some r):iA prog 79 (bz.c aF) (bz.c r.1) [] (D.int .i64 r.2):=by
 refine Bw func79 [[none,none,none],[none]] 58 [D.sl (aF.b.map yx),D.int .i64 aF.i,D.int .i64 aF.h] [] [] fun hr kL Γ hΓ=>?_
 rw[jT]at h;obtain⟨h1,h⟩|⟨h1,h⟩:=aO h
 ·obtain⟨x2,h3,h⟩:=aE h;cases h;exact((((aX.a [.n 10,.n 9]).b h1).a [.n 12]).l (xK yx 1 h3 rfl)).ret hΓ
 ·cases h;exact((aX.a [.n 10,.n 9]).b h1).ret hΓ
def cH(aF:bz)(bB:Int):Option (bz×Int):=(bif decide ((bB:Int)<=0)then(some (aF,0))else(bif decide ((bB:Int)<=256)then((jT aF).bind fun y3=>(bif decide (0<=(y3.2:Int))&&decide (0<(bB:Int))then(some (y3.1,(y3.2:Int)%bB))else none))else((jT aF).bind fun y6=>((jT y6.1).bind fun y8=>((jT y8.1).bind fun wF=>(bif decide (0<=(IntKind.i64.wrap ((IntKind.i64.wrap ((IntKind.i64.wrap (y6.2*65536))+(IntKind.i64.wrap (y8.2*256))))+wF.2):Int))&&decide (0<(bB:Int))then(some (wF.1,(IntKind.i64.wrap ((IntKind.i64.wrap ((IntKind.i64.wrap (y6.2*65536))+(IntKind.i64.wrap (y8.2*256))))+wF.2):Int)%bB))else none))))))
theorem bw{aF:bz}{bB:Int}{r:bz×Int}(h:cH aF bB=some r):iA prog 47 (bz.c aF) (bz.c r.1) [D.int .i64 bB] (D.int .i64 r.2):=by
 refine Bw func47 [[none,none,none],[none]] 31 [D.sl (aF.b.map yx),D.int .i64 aF.i,D.int .i64 aF.h] [D.int .i64 bB] [] fun hr kL Γ hΓ=>?_
 rw[cH]at h;obtain⟨h1,h⟩|⟨h1,h⟩:=aO h
 ·cases h;exact(aX.b h1).ret hΓ
 ·obtain⟨h2,h⟩|⟨h2,h⟩:=aO h
  ·obtain⟨y3,h4,h⟩:=aE h;obtain⟨h5,h⟩:=bp h;cases h;exact((((aX.b h1).b h2).hp [[none,none,none]] (lI h4)).w (Bi .i64 h5)).ret hΓ
  ·obtain⟨y6,h7,h⟩:=aE h;obtain⟨y8,h9,h⟩:=aE h;obtain⟨wF,h11,h⟩:=aE h;obtain⟨h12,h⟩:=bp h;cases h;exact((((((aX.b h1).b h2).hp [[none,none,none]] (lI h7)).hp [[none,none,none]] (lI h9)).hp [[none,none,none]] (lI h11)).w (Bi .i64 h12)).ret hΓ
def jU(aF:bz)(bB:Int):Option (bz×Bool):=((cH aF bB).bind fun y1=>(some (y1.1,(y1.2:Int)==0)))
theorem iR{aF:bz}{bB:Int}{r:bz×Bool}(h:jU aF bB=some r):iA prog 17 (bz.c aF) (bz.c r.1) [D.int .i64 bB] (D.bool r.2):=by
 refine Bw func17 [[none,none,none],[none]] 9 [D.sl (aF.b.map yx),D.int .i64 aF.i,D.int .i64 aF.h] [D.int .i64 bB] [] fun hr kL Γ hΓ=>?_
 rw[jU]at h;obtain⟨y1,h2,h⟩:=aE h;cases h;exact(aX.hp [[none,none,none],[none]] (bw h2)).ret hΓ
def oF(aF:bz):Option (bz×(Bytes×Int)):=((cH aF 6).bind fun y1=>((lg ([[111,110],[111,110],[97,116],[112],[113],[122]]:aC) y1.2).bind fun x3=>((lg ([2,2,2,1,1,0]:bC) y1.2).bind fun x5=>(some (y1.1,(x3,x5))))))
theorem ya{aF:bz}{r:bz×(Bytes×Int)}(h:oF aF=some r):iA prog 122 (bz.c aF) (bz.c r.1) [] (D.iz [D.str r.2.1,D.int .i64 r.2.2]):=by
 refine Bw func122 [[none,none,none],[none],[none]] 15 [D.sl (aF.b.map yx),D.int .i64 aF.i,D.int .i64 aF.h] [] [] fun hr kL Γ hΓ=>?_
 rw[oF]at h;obtain⟨y1,h2,h⟩:=aE h;obtain⟨x3,h4,h⟩:=aE h;obtain⟨x5,h6,h⟩:=aE h;cases h;exact(((((aX.hp [[none,none,none],[none]] (bw h2)).a [.n 9,.vw 0]).l (xK tx 1 h4 rfl)).a [.vw 0]).l (xK yA 1 h6 rfl)).ret hΓ
def jK(aF:bz)(bB:aC):Option (bz×Bytes):=((cH aF ((bB.map tx).length:Int)).bind fun y1=>((lg bB y1.2).bind fun x3=>(some (y1.1,x3))))
theorem kI{aF:bz}{bB:aC}{r:bz×Bytes}(h:jK aF bB=some r):iA prog 83 (bz.c aF) (bz.c r.1) [D.fr 9 1 (bB.map tx)] (D.str r.2):=by
 refine Bw func83 [[none,none,none],[none]] 12 [D.sl (aF.b.map yx),D.int .i64 aF.i,D.int .i64 aF.h] [D.acc 1] [Ob.row .uq 9 1 (bB.map tx)] fun hr kL Γ hΓ=>?_
 rw[jK]at h;obtain⟨y1,h2,h⟩:=aE h;obtain⟨x3,h4,h⟩:=aE h;cases h;exact(((aX.hp [[none,none,none],[none]] (bw h2)).i (gU tx 1 h4)).o 1 1 .uq (cJ tx (eT h4))).ret hΓ
def jS(aF:bz):Option (bz×Bytes):=((jK aF ([[97],[98],[99],[49],[50]]:aC)).bind fun y1=>(some (y1.1,y1.2)))
theorem qo{aF:bz}{r:bz×Bytes}(h:jS aF=some r):iA prog 119 (bz.c aF) (bz.c r.1) [] (D.str r.2):=by
 refine Bw func119 [[none,none,none],[none]] 6 [D.sl (aF.b.map yx),D.int .i64 aF.i,D.int .i64 aF.h] [] [] fun hr kL Γ hΓ=>?_
 rw[jS]at h;obtain⟨y1,h2,h⟩:=aE h;cases h;exact(aX.hp [[none,none,none],[some (9,1)]] (kI h2)).ret hΓ
def jW(aF:bz):Option (bz×Bytes):=((jU aF 4).bind fun y1=>(bif y1.2 then((jS y1.1).bind fun y4=>(some (y4.1,y4.2)))else((jK y1.1 ([[63,120],[63,121],[63,122]]:aC)).bind fun y6=>(some (y6.1,y6.2)))))
theorem nX{aF:bz}{r:bz×Bytes}(h:jW aF=some r):iA prog 134 (bz.c aF) (bz.c r.1) [] (D.str r.2):=by
 refine Bw func134 [[none,none,none],[none]] 10 [D.sl (aF.b.map yx),D.int .i64 aF.i,D.int .i64 aF.h] [] [] fun hr kL Γ hΓ=>?_
 rw[jW]at h;obtain⟨y1,h2,h⟩:=aE h;obtain⟨h3,h⟩|⟨h3,h⟩:=aO h
 ·obtain⟨y4,h5,h⟩:=aE h;cases h;exact(((aX.hp [[none,none,none],[none]] (iR h2)).b h3).hp [[none,none,none]] (qo h5)).ret hΓ
 ·obtain⟨y6,h7,h⟩:=aE h;cases h;exact(((aX.hp [[none,none,none],[none]] (iR h2)).b h3).hp [[none,none,none],[some (9,1)]] (kI h7)).ret hΓ
def gP(y1:bz×(Bytes×Int))(k1:bC->Int->Int->aC->Option (bz×ar)):Nat->Int->bC->Int->Int->aC->Option (bz×ar)
 |0,_,_,_,_,_=>none
 |n1+1,iW,eS,cq,cr,dH=>(bif decide ((iW:Int)<y1.2.2)then((jW (⟨eS,cq,cr⟩:bz)).bind fun xJ=>(bif room ((dH.map tx).length+([[D.str xJ.2]]).length) 16 then(gP y1 k1 n1 (IntKind.i64.wrap (iW+1)) xJ.1.b xJ.1.i xJ.1.h (dH++([xJ.2])))else none))else(k1 eS cq cr dH))
def fC(aF:bz):Option (bz×ar):=((oF aF).bind fun y1=>(gP y1 (fun(jM:bC) (jN:Int) (jO:Int) (gS:aC)=>(some ((⟨jM,jN,jO⟩:bz),(⟨y1.2.1,gS⟩:ar)))) fuel 0 y1.1.b y1.1.i y1.1.h ([]:aC)))
def sM(kL:Value)(y1:bz×(Bytes×Int))(iW:Int)(cq:Int)(cr:Int)(W1:List aG)(W4:List aG):St:=⟨[(0,D.ptr 0 0),(2,D.ptr 1 0),(4,D.int .i64 y1.2.2),(5,D.ptr 2 0),(6,D.int .i64 iW)],[Ob.yB [D.sl W1,D.int .i64 cq,D.int .i64 cr] kL,Ob.box [D.str ([]),D.nil],Ob.box [D.str y1.2.1,D.acc 3],Ob.row .uq 9 1 W4]⟩
theorem yb(hΓ:Γ.nt=27){kL:Value}{y1:bz×(Bytes×Int)}{r:bz×ar}{k1:bC->Int->Int->aC->Option (bz×ar)}(jX:∀(jM:bC) (jN:Int) (jO:Int) (gS:aC),k1 jM jN jO gS=some r->Ax Γ N f109 (.p [[none,none,none],[none,some (9,1)]] kL (bz.c r.1) (D.agg [D.str r.2.rel,D.fr 9 1 (r.2.args.map tx)])) [1,1,1,1] ⟨[(2,D.ptr 1 0),(5,D.ptr 2 0)],[Ob.yB [D.sl (jM.map yx),D.int .i64 jN,D.int .i64 jO] kL,Ob.box [D.str ([]),D.nil],Ob.box [D.str y1.2.1,D.acc 3],Ob.row .uq 9 1 (gS.map tx)]⟩):∀(n1:Nat) (iW:Int) (eS:bC) (cq:Int) (cr:Int) (dH:aC),gP y1 k1 n1 iW eS cq cr dH=some r->Ar Γ N f109 (.p [[none,none,none],[none,some (9,1)]] kL (bz.c r.1) (D.agg [D.str r.2.rel,D.fr 9 1 (r.2.args.map tx)])) [1,1,1,0,1,0] n1 (sM kL y1 iW cq cr (eS.map yx) (dH.map tx)):=by
 intro n
 induction n with
 |zero=>intro iW eS cq cr dH h;simp[gP]at h
 |succ n1 ih1=>
  intro iW eS cq cr dH h;rw[gP]at h;refine aW fun N1 fI eM=>?_
  obtain⟨h27,h⟩|⟨h27,h⟩:=aO h
  ·obtain⟨xJ,h31,h⟩:=aE h;obtain⟨h32,h⟩:=bp h;exact(((((aX.b h27).a [.n2 [0,1,2,3,4,5,6,7] [0,1,2,3,4,5,6,7] 3 5 [0,1] [0],.gp [[none,none,none]] (bz.c xJ.1) (D.str xJ.2)]).w (show iA prog 134 (bz.c (⟨eS,cq,cr⟩:bz)) (bz.c xJ.1) [] (D.str xJ.2)from by simpa only[az,ax,bg,bN,bU]using nX h31)).w (cD h32)).a [.cn [0,2,4,5,6] [0,1,2,5]]).cs hΓ eM (sM kL y1 (IntKind.i64.wrap (iW+1)) xJ.1.i xJ.1.h (xJ.1.b.map yx) ((dH.map tx)++([[D.str xJ.2]]))) (by first| (simp only[mA]<;>rfl)| (simp only[mA,ar.c,bh.c,aK.c,Action.c,aH.c,iX.c,jE.c,bS.c,Node.c,bA.c,jR.c]<;>rfl)) (ih1 (IntKind.i64.wrap (iW+1)) xJ.1.b xJ.1.i xJ.1.h (dH++([xJ.2])) h)
  ·exact((aX.b h27).a [.hl 0 [2,5] [0,1,2,3]]).ex hΓ fI (jX eS cq cr dH h)
theorem iT{aF:bz}{r:bz×ar}(h:fC aF=some r):iA prog 109 (bz.c aF) (bz.c r.1) [] (D.agg [D.str r.2.rel,D.fr 9 1 (r.2.args.map tx)]):=by
 refine Bw func109 [[none,none,none],[none,some (9,1)]] 27 [D.sl (aF.b.map yx),D.int .i64 aF.i,D.int .i64 aF.h] [] [] fun hr kL Γ hΓ=>?_
 rw[fC]at h;obtain⟨y1,h2,h⟩:=aE h;refine((aX.hp [[none,none,none]] (ya h2)).a [.pb 2 1 9 1,.cn [0,2,4,5,6] [0,1,2,3]]).lp hΓ (yb hΓ (fun jM jN jO gS h=>?_) fuel 0 y1.1.b y1.1.i y1.1.h ([]:aC) h);cases h;exact aX.ret hΓ
def ff(aF:bz)(bB:bC):Option (bz×Int):=((cH aF ((bB.map yA).length:Int)).bind fun y1=>((lg bB y1.2).bind fun x3=>(some (y1.1,x3))))
theorem gj{aF:bz}{bB:bC}{r:bz×Int}(h:ff aF bB=some r):iA prog 49 (bz.c aF) (bz.c r.1) [D.fr 3 1 (bB.map yA)] (D.int .i64 r.2):=by
 refine Bw func49 [[none,none,none],[none]] 12 [D.sl (aF.b.map yx),D.int .i64 aF.i,D.int .i64 aF.h] [D.acc 1] [Ob.row .uq 3 1 (bB.map yA)] fun hr kL Γ hΓ=>?_
 rw[ff]at h;obtain⟨y1,h2,h⟩:=aE h;obtain⟨x3,h4,h⟩:=aE h;cases h;exact(((aX.hp [[none,none,none],[none]] (bw h2)).i (gU yA 1 h4)).o 1 1 .uq (cJ yA (eT h4))).ret hΓ
def nL(aF:bz)(bB:Bytes)(jF:Bytes):Option (bz×aK):=((ff aF ([3,4,4,5]:bC)).bind fun y1=>(some (y1.1,(⟨y1.2,(⟨[],[]⟩:ar),bB,jF⟩:aK))))
theorem xb{aF:bz}{bB:Bytes}{jF:Bytes}{r:bz×aK}(h:nL aF bB jF=some r):iA prog 135 (bz.c aF) (bz.c r.1) [D.str bB,D.str jF] (D.agg [D.int .i64 r.2.kind,D.str r.2.pat.rel,D.fr 9 1 (r.2.pat.args.map tx),D.str r.2.left,D.str r.2.right]):=by
 refine Bw func135 [[none,none,none],[none,none,some (9,1),none,none]] 13 [D.sl (aF.b.map yx),D.int .i64 aF.i,D.int .i64 aF.h] [D.str bB,D.str jF] [] fun hr kL Γ hΓ=>?_
 rw[nL]at h;obtain⟨y1,h2,h⟩:=aE h;cases h;exact(aX.hp [[none,none,none],[some (3,1)]] (gj h2)).ret hΓ
def kQ(aF:bz):Option (bz×aK):=((cH aF 5).bind fun y1=>(bif (y1.2:Int)==0 then((fC y1.1).bind fun y4=>(some (y4.1,(⟨1,y4.2,[],[]⟩:aK))))else(bif (y1.2:Int)==1 then((fC y1.1).bind fun y7=>(some (y7.1,(⟨1,y7.2,[],[]⟩:aK))))else(bif (y1.2:Int)==2 then((fC y1.1).bind fun wF=>(some (wF.1,(⟨2,wF.2,[],[]⟩:aK))))else((jW y1.1).bind fun Li=>((jW Li.1).bind fun Bt=>((nL Bt.1 Li.2 Bt.2).bind fun F6=>(some (F6.1,F6.2)))))))))
theorem qt{aF:bz}{r:bz×aK}(h:kQ aF=some r):iA prog 108 (bz.c aF) (bz.c r.1) [] (D.agg [D.int .i64 r.2.kind,D.str r.2.pat.rel,D.fr 9 1 (r.2.pat.args.map tx),D.str r.2.left,D.str r.2.right]):=by
 refine Bw func108 [[none,none,none],[none,none,some (9,1),none,none]] 24 [D.sl (aF.b.map yx),D.int .i64 aF.i,D.int .i64 aF.h] [] [] fun hr kL Γ hΓ=>?_
 rw[kQ]at h;obtain⟨y1,h2,h⟩:=aE h;obtain⟨h3,h⟩|⟨h3,h⟩:=aO h
 ·obtain⟨y4,h5,h⟩:=aE h;cases h;exact(((aX.hp [[none,none,none],[none]] (bw h2)).r 2 h3).hp [[none,none,none]] (iT h5)).ret hΓ
 ·have nE:=((aX.hp [[none,none,none],[none]] (bw h2)).b h3)
  obtain⟨h6,h⟩|⟨h6,h⟩:=aO h
  ·obtain⟨y7,h8,h⟩:=aE h;cases h;exact((nE.b h6).hp [[none,none,none]] (iT h8)).ret hΓ
  ·obtain⟨h9,h⟩|⟨h9,h⟩:=aO h
   ·obtain⟨wF,h11,h⟩:=aE h;cases h;exact(((nE.b h6).b h9).hp [[none,none,none]] (iT h11)).ret hΓ
   ·obtain⟨Li,h13,h⟩:=aE h;obtain⟨Bt,h15,h⟩:=aE h;obtain⟨F6,h17,h⟩:=aE h;cases h;exact(((((nE.b h6).b h9).hp [[none,none,none]] (nX h13)).hp [[none,none,none]] (nX h15)).hp [[none,none,none],[none],[none]] (xb h17)).ret hΓ
def iD(aF:Int)(bB:Int)(jF:Int):Option Bool:=(bif decide ((aF:Int)>=bB)then(some (decide ((aF:Int)<=jF)))else(some false))
theorem fH{aF:Int}{bB:Int}{jF:Int}{r:Bool}(h:iD aF bB jF=some r):Good prog 24 [D.int .i64 aF,D.int .i64 bB,D.int .i64 jF] (D.bool r):=by
 refine gd func24 [[none]] 15 fun hr Γ hΓ=>?_
 rw[iD]at h;obtain⟨h1,h⟩|⟨h1,h⟩:=aO h
 ·cases h;exact(aX.r 4 h1).ret hΓ
 ·have h:=aQ h;subst h;exact(aX.r 4 h1).ret hΓ
def fF(aF:Bytes)(k1:Option Bool):Nat->Int->Option Bool
 |0,_=>none
 |n1+1,fD=>(bif decide ((fD:Int)<(aF.length:Int))then((lg aF fD).bind fun T8=>((iD (IntKind.i64.wrap T8.toNat) 97 122).bind fun yD=>(bif !(yD)then((iD (IntKind.i64.wrap T8.toNat) 48 57).bind fun LW=>(bif !(LW)then(some false)else(fF aF k1 n1 (IntKind.i64.wrap (fD+1)))))else(fF aF k1 n1 (IntKind.i64.wrap (fD+1))))))else(k1))
def kO(aF:Bytes):Option Bool:=(fF aF ((iD (aF.length:Int) 1 8).bind fun IX=>(some IX)) fuel 0)
def zi(aF:Bytes)(fD:Int):St:=⟨[(0,D.str aF),(3,D.int .i64 fD)],[]⟩
theorem yS(hΓ:Γ.nt=27){aF:Bytes}{r:Bool}{k1:Option Bool}(jX:k1=some r->Ax Γ N f61 (.q [[none]] (D.bool r)) [1,1] ⟨[(0,D.str aF)],[]⟩):∀(n1:Nat) (fD:Int),fF aF k1 n1 fD=some r->Ar Γ N f61 (.q [[none]] (D.bool r)) [1,0,1,0] n1 (zi aF fD):=by
 intro n
 induction n with
 |zero=>intro fD h;simp[fF]at h
 |succ n1 ih1=>
  intro fD h;rw[fF]at h;refine aW fun N1 fI eM=>?_
  obtain⟨h28,h⟩|⟨h28,h⟩:=aO h
  ·obtain⟨T8,h30,h⟩:=aE h;obtain⟨yD,h32,h⟩:=aE h;have nF:=(((aX.b h28).c h30).g (fH h32))
   obtain⟨h33,h⟩|⟨h33,h⟩:=aO h
   ·obtain⟨LW,h35,h⟩:=aE h;have n7:=(((((nF.r 3 h33).c h30).r 2 h33).g (fH h35)).r 2 h33)
    obtain⟨h36,h⟩|⟨h36,h⟩:=aO h
    ·have h:=aQ h;subst h;exact(n7.b h36).ret hΓ
    ·exact((n7.b h36).a [.cn [0,3] []]).cf hΓ eM (ih1 (IntKind.i64.wrap (fD+1)) h)
   ·exact(((nF.r 7 h33).F 1).a [.cn [0,3] []]).cf hΓ eM (ih1 (IntKind.i64.wrap (fD+1)) h)
  ·exact((aX.b h28).a [.hl 0 [0] []]).ex hΓ fI (jX h)
theorem jk{aF:Bytes}{r:Bool}(h:kO aF=some r):Good prog 61 [D.str aF] (D.bool r):=by
 refine gd func61 [[none]] 27 fun hr Γ hΓ=>?_
 rw[kO]at h;refine(aX.a [.cn [0,3] []]).lp hΓ (yS hΓ (fun h=>?_) fuel 0 h);obtain⟨IX,h38,h⟩:=aE h;have h:=aQ h;subst h;exact(aX.g (fH h38)).ret hΓ
def iZ(aF:Bytes):Option Bool:=(bif decide (((aF.length:Int):Int)>1)then((lg aF 0).bind fun b2=>(bif (b2.toNat:Int)==63 then((rQ aF.length (some (D.int .i64 1)) none).bind fun p=>(fun l5 u6=>((kO ((aF.take u6).drop l5)).bind fun y8=>(some y8))) p.1 p.2)else(some false)))else(some false))
theorem j7{aF:Bytes}{r:Bool}(h:iZ aF=some r):Good prog 65 [D.str aF] (D.bool r):=by
 refine gd func65 [[none]] 16 fun hr Γ hΓ=>?_
 rw[iZ]at h;obtain⟨h1,h⟩|⟨h1,h⟩:=aO h
 ·obtain⟨b2,h3,h⟩:=aE h;have nE:=(((aX.r 2 h1).c h3).r 2 h1)
  obtain⟨h4,h⟩|⟨h4,h⟩:=aO h
  ·obtain⟨⟨l5,u6⟩,h7,h⟩:=aE h;obtain⟨y8,h9,h⟩:=aE h;have h:=aQ h;subst h;exact((((((nE.r 2 h4).w h7).a [.cut l5 u6]).b h4).g (jk h9)).b h4).ret hΓ
  ·have h:=aQ h;subst h;exact(nE.r 4 h4).ret hΓ
 ·have h:=aQ h;subst h;exact((aX.r 4 h1).F 4).ret hΓ
def cj(aF:aC)(bB:Bytes)(k1:Bool->aC->Option aC):aC->Nat->Bool->aC->Option aC
 | [],i1,iW,bt=>(k1 iW bt)
 |cN::fK,i1,iW,bt=>(bif !(iW)then(bif !(Op.bytesLess cN bB)then(bif !((cN:Bytes)==bB)then(bif room ((bt.map tx).length+([[D.str bB]]).length) 16 then(bif room (((bt.map tx)++([[D.str bB]])).length+([[D.str cN]]).length) 16 then(cj aF bB k1 fK (i1+1) true ((bt++([bB]))++([cN])))else none)else none)else(bif room ((bt.map tx).length+([[D.str cN]]).length) 16 then(cj aF bB k1 fK (i1+1) true (bt++([cN])))else none))else(bif room ((bt.map tx).length+([[D.str cN]]).length) 16 then(cj aF bB k1 fK (i1+1) iW (bt++([cN])))else none))else(bif room ((bt.map tx).length+([[D.str cN]]).length) 16 then(cj aF bB k1 fK (i1+1) iW (bt++([cN])))else none))
def gl(aF:aC)(bB:Bytes):Option aC:=(cj aF bB (fun(Bu:Bool) (eA:aC)=>(bif !(Bu)then(bif room ((eA.map tx).length+([[D.str bB]]).length) 16 then(some (eA++([bB])))else none)else(some eA))) aF 0 false ([]:aC))
def lY(aF:aC)(bB:Bytes)(iW:Bool)(W1:List aG)(iw:Int):St:=⟨[(0,D.sl (aF.map tx)),(1,D.str bB),(5,D.acc 0),(6,D.bool iW),(7,D.int .i64 iw)],[Ob.row .uq 9 1 W1]⟩
theorem zv(hΓ:Γ.nt=49){aF:aC}{bB:Bytes}{r:aC}{k1:Bool->aC->Option aC}(jX:∀(Bu:Bool) (eA:aC),k1 Bu eA=some r->Ax Γ N f62 (.q [[some (9,1)]] (D.fr 9 1 (r.map tx))) [1,1,1,1] ⟨[(1,D.str bB),(5,D.acc 0),(6,D.bool Bu)],[Ob.row .uq 9 1 (eA.map tx)]⟩)(hm1:aF.length<=maxLen):∀(rest:aC) (i1:Nat) (iW:Bool) (bt:aC),aF.drop i1=rest->cj aF bB k1 rest i1 iW bt=some r->Ar Γ N f62 (.q [[some (9,1)]] (D.fr 9 1 (r.map tx))) [1,1,1,0,1,0] (rest.length+1) (lY aF bB iW (bt.map tx) (i1:Int)):=by
 intro rest
 induction rest with
 |nil=>
  intro i1 iW bt bM h;rw[cj]at h;refine aW fun N1 fI eM=>?_
  exact((aX.ge tx bM).a [.hl 0 [1,5,6] [0]]).ex hΓ fI (jX iW bt h)
 |cons cN fK ih1=>
  intro i1 iW bt bM h;rw[cj]at h;refine aW fun N1 fI eM=>?_
  obtain⟨h58,h⟩|⟨h58,h⟩:=aO h
  ·have nF:=((((aX.lt tx bM).r 3 h58).l (cA tx 1 (dc bM) rfl)).r 4 h58)
   obtain⟨h59,h⟩|⟨h59,h⟩:=aO h
   ·have n7:=((nF.b h59).l (cA tx 1 (dc bM) rfl))
    obtain⟨h60,h⟩|⟨h60,h⟩:=aO h
    ·obtain⟨h61,h⟩:=bp h;obtain⟨h62,h⟩:=bp h;exact(((((n7.b h60).w (cD h61)).l (cA tx 1 (dc bM) rfl)).w (cD h62)).a [.cn [0,1,5,6,7] [4]]).cs hΓ eM (lY aF bB true (((bt.map tx)++([[D.str bB]]))++([[D.str cN]])) (IntKind.i64.wrap ((i1:Int)+1))) (by first| (simp only[iS bM hm1,mA]<;>rfl)| (simp only[iS bM hm1,mA,ar.c,bh.c,aK.c,Action.c,aH.c,iX.c,jE.c,bS.c,Node.c,bA.c,jR.c]<;>rfl)) (ih1 (i1+1) true ((bt++([bB]))++([cN])) (dn bM) h)
    ·obtain⟨h63,h⟩:=bp h;exact((((n7.b h60).l (cA tx 1 (dc bM) rfl)).w (cD h63)).a [.cn [0,1,5,6,7] [2]]).cs hΓ eM (lY aF bB true ((bt.map tx)++([[D.str cN]])) (IntKind.i64.wrap ((i1:Int)+1))) (by first| (simp only[iS bM hm1,mA]<;>rfl)| (simp only[iS bM hm1,mA,ar.c,bh.c,aK.c,Action.c,aH.c,iX.c,jE.c,bS.c,Node.c,bA.c,jR.c]<;>rfl)) (ih1 (i1+1) true (bt++([cN])) (dn bM) h)
   ·obtain⟨h64,h⟩:=bp h;exact((((nF.b h59).l (cA tx 1 (dc bM) rfl)).w (cD h64)).a [.cn [0,1,5,6,7] [2]]).cs hΓ eM (lY aF bB iW ((bt.map tx)++([[D.str cN]])) (IntKind.i64.wrap ((i1:Int)+1))) (by first| (simp only[iS bM hm1,mA]<;>rfl)| (simp only[iS bM hm1,mA,ar.c,bh.c,aK.c,Action.c,aH.c,iX.c,jE.c,bS.c,Node.c,bA.c,jR.c]<;>rfl)) (ih1 (i1+1) iW (bt++([cN])) (dn bM) h)
  ·obtain⟨h65,h⟩:=bp h;exact((((((aX.lt tx bM).r 7 h58).F 1).l (cA tx 1 (dc bM) rfl)).w (cD h65)).a [.cn [0,1,5,6,7] [2]]).cs hΓ eM (lY aF bB iW ((bt.map tx)++([[D.str cN]])) (IntKind.i64.wrap ((i1:Int)+1))) (by first| (simp only[iS bM hm1,mA]<;>rfl)| (simp only[iS bM hm1,mA,ar.c,bh.c,aK.c,Action.c,aH.c,iX.c,jE.c,bS.c,Node.c,bA.c,jR.c]<;>rfl)) (ih1 (i1+1) iW (bt++([cN])) (dn bM) h)
theorem gm{aF:aC}{bB:Bytes}{r:aC}(h:gl aF bB=some r):Good prog 62 [D.sl (aF.map tx),D.str bB] (D.fr 9 1 (r.map tx)):=by
 refine gd func62 [[some (9,1)]] 49 fun hr Γ hΓ=>?_
 rw[gl]at h;refine(aX.a [.cn [0,1,5,6,7] [0]]).lp hΓ (zv hΓ (fun Bu eA h=>?_) (by have:=(kj.sl (hr _ (aD (i:=0) rfl))).1;simpa using this) aF 0 false ([]:aC) rfl h);obtain⟨h66,h⟩|⟨h66,h⟩:=aO h
 ·obtain⟨h67,h⟩:=bp h;cases h;exact((aX.b h66).w (cD h67)).rts hΓ (D.fr 9 1 ((eA.map tx)++([[D.str bB]]))) (by first|rfl| (simp only[mA]<;>rfl))
 ·have h:=aQ h;subst h;exact(aX.b h66).ret hΓ
def gO(aF:ar)(k1:aC->Option aC):aC->Nat->aC->Option aC
 | [],i1,cu=>(k1 cu)
 |cN::fK,i1,cu=>((iZ cN).bind fun IX=>(bif IX then((gl cu cN).bind fun Py=>(gO aF k1 fK (i1+1) Py))else(gO aF k1 fK (i1+1) cu)))
def ia(aF:ar):Option aC:=(gO aF (fun(eA:aC)=>(some eA)) aF.args 0 ([]:aC))
def zq(aF:ar)(W0:List aG)(iw:Int):St:=⟨[(1,D.ptr 0 0),(3,D.acc 1),(4,D.int .i64 iw)],[Ob.box (ar.c aF),Ob.row .uq 9 1 W0]⟩
theorem yY(hΓ:Γ.nt=27){aF:ar}{r:aC}{k1:aC->Option aC}(jX:∀(eA:aC),k1 eA=some r->Ax Γ N f32 (.q [[some (9,1)]] (D.fr 9 1 (r.map tx))) [1,1,1] ⟨[(3,D.acc 0)],[Ob.row .uq 9 1 (eA.map tx)]⟩)(hm1:aF.args.length<=maxLen):∀(rest:aC) (i1:Nat) (cu:aC),aF.args.drop i1=rest->gO aF k1 rest i1 cu=some r->Ar Γ N f32 (.q [[some (9,1)]] (D.fr 9 1 (r.map tx))) [1,1,0,1,0] (rest.length+1) (zq aF (cu.map tx) (i1:Int)):=by
 intro rest
 induction rest with
 |nil=>
  intro i1 cu bM h;rw[gO]at h;refine aW fun N1 fI eM=>?_
  exact((aX.ge tx bM).a [.hl 0 [3] [1]]).ex hΓ fI (jX cu h)
 |cons cN fK ih1=>
  intro i1 cu bM h;rw[gO]at h;refine aW fun N1 fI eM=>?_
  obtain⟨IX,h38,h⟩:=aE h;have lN:=(((aX.lt tx bM).l (cA tx 1 (dc bM) rfl)).g (j7 h38))
  obtain⟨h39,h⟩|⟨h39,h⟩:=aO h
  ·obtain⟨Py,h41,h⟩:=aE h;exact((((lN.b h39).l (cA tx 1 (dc bM) rfl)).g (gm h41)).a [.cn [1,3,4] [0,2]]).ct hΓ eM (iS bM hm1) (ih1 (i1+1) Py (dn bM) h)
  ·exact((lN.b h39).a [.cn [1,3,4] [0,1]]).ct hΓ eM (iS bM hm1) (ih1 (i1+1) cu (dn bM) h)
theorem jm{aF:ar}{r:aC}(h:ia aF=some r):Good prog 32 [D.agg (ar.c aF)] (D.fr 9 1 (r.map tx)):=by
 refine gd func32 [[some (9,1)]] 27 fun hr Γ hΓ=>?_
 rw[ia]at h;refine(aX.a [.cn [1,3,4] [0,1]]).lp hΓ (yY hΓ (fun eA h=>?_) (by have:=(kj.sl (kj.agg (hr _ (aD (i:=0) rfl)) (.sl (aF.args.map tx)) (by simp))).1;simpa using this) aF.args 0 ([]:aC) rfl h);have h:=aQ h;subst h;exact aX.ret hΓ
def fO(aF:aH)(bB:Int)(i1:Nat)(zQ:aC)(k2:aC->Option aC):aC->Nat->aC->Option aC
 | [],i2,tV=>(k2 tV)
 |wv::yC,i2,tV=>((gl tV wv).bind fun Pw=>(fO aF bB i1 zQ k2 yC (i2+1) Pw))
def dR(aF:aH)(bB:Int)(k1:aC->Option aC):aj->Nat->aC->Option aC
 | [],i1,cu=>(k1 cu)
 |cN::fK,i1,cu=>(bif decide (((i1:Int):Int)<bB)then(bif (cN.kind:Int)==1 then((ia cN.pat).bind fun zQ=>(bif decide (zQ.length<=maxLen)then(fO aF bB i1 zQ (fun(A5:aC)=>(dR aF bB k1 fK (i1+1) A5)) zQ 0 cu)else none))else(dR aF bB k1 fK (i1+1) cu))else(k1 cu))
def gL(aF:aH)(bB:Int):Option aC:=(dR aF bB (fun(eA:aC)=>(some eA)) aF.conds 0 ([]:aC))
def wR(aF:aH)(bB:Int)(W0:List aG)(iw:Int):St:=⟨[(1,D.int .i64 bB),(2,D.ptr 0 0),(5,D.acc 1),(6,D.int .i64 iw)],[Ob.box (aH.c aF),Ob.row .uq 9 1 W0]⟩
def wS(aF:aH)(bB:Int)(i1:Nat)(zQ:aC)(W0:List aG)(iw:Int):St:=⟨[(1,D.int .i64 bB),(2,D.ptr 0 0),(5,D.acc 1),(6,D.int .i64 (i1:Int)),(7,D.acc 2),(8,D.int .i64 iw)],[Ob.box (aH.c aF),Ob.row .uq 9 1 W0,Ob.row .uq 9 1 (zQ.map tx)]⟩
theorem vH(hΓ:Γ.nt=49){aF:aH}{bB:Int}{i1:Nat}{zQ:aC}{r:aC}{k2:aC->Option aC}(D6:∀(A5:aC),k2 A5=some r->Ax Γ N f25 (.q [[some (9,1)]] (D.fr 9 1 (r.map tx))) [1,1,0,1,0,0,1,1] ⟨[(1,D.int .i64 bB),(2,D.ptr 0 0),(5,D.acc 1),(6,D.int .i64 (i1:Int))],[Ob.box (aH.c aF),Ob.row .uq 9 1 (A5.map tx)]⟩)(hm2:zQ.length<=maxLen):∀(rest:aC) (i2:Nat) (tV:aC),zQ.drop i2=rest->fO aF bB i1 zQ k2 rest i2 tV=some r->Ar Γ N f25 (.q [[some (9,1)]] (D.fr 9 1 (r.map tx))) [1,1,0,1,0,0,1,0,0,1,0,1,1,0] (rest.length+1) (wS aF bB i1 zQ (tV.map tx) (i2:Int)):=by
 intro rest
 induction rest with
 |nil=>
  intro i2 tV hd2 h;rw[fO]at h;refine aW fun N2 zW wA=>?_
  exact((aX.ge tx hd2).a [.hl 3 [1,2,5,6] [0,1]]).ex hΓ zW (D6 tV h)
 |cons wv yC ih2=>
  intro i2 tV hd2 h;rw[fO]at h;refine aW fun N2 zW wA=>?_
  obtain⟨Pw,h184,h⟩:=aE h;exact(((((aX.lt tx hd2).i (ke tx 1 (dc hd2))).o 1 1 .uq (cJ tx (dc hd2))).g (gm h184)).a [.cn [1,2,5,6,7,8] [0,3,2]]).ct hΓ wA (iS hd2 hm2) (ih2 (i2+1) Pw (dn hd2) h)
theorem vG(hΓ:Γ.nt=49){aF:aH}{bB:Int}{r:aC}{k1:aC->Option aC}(jX:∀(eA:aC),k1 eA=some r->Ax Γ N f25 (.q [[some (9,1)]] (D.fr 9 1 (r.map tx))) [1,1,1] ⟨[(5,D.acc 0)],[Ob.row .uq 9 1 (eA.map tx)]⟩)(hm1:aF.conds.length<=maxLen):∀(rest:aj) (i1:Nat) (cu:aC),aF.conds.drop i1=rest->dR aF bB k1 rest i1 cu=some r->Ar Γ N f25 (.q [[some (9,1)]] (D.fr 9 1 (r.map tx))) [1,1,0,1,0] (rest.length+1) (wR aF bB (cu.map tx) (i1:Int)):=by
 intro rest
 induction rest with
 |nil=>
  intro i1 cu bM h;rw[dR]at h;refine aW fun N1 fI eM=>?_
  exact((((((aX.ge aK.c bM).ge aK.c bM).ge aK.c bM).ge aK.c bM).F 1).a [.hl 0 [5] [1]]).ex hΓ fI (jX cu h)
 |cons cN fK ih1=>
  intro i1 cu bM h;rw[dR]at h;refine aW fun N1 fI eM=>?_
  have nF:=((((aX.lt aK.c bM).lt aK.c bM).lt aK.c bM).lt aK.c bM)
  obtain⟨h157,h⟩|⟨h157,h⟩:=aO h
  ·have n7:=((nF.b h157).l (cA aK.c 5 (dc bM) rfl))
   obtain⟨h158,h⟩|⟨h158,h⟩:=aO h
   ·obtain⟨zQ,h160,h⟩:=aE h;obtain⟨h185,h⟩:=bp h;refine((((n7.b h158).l (cA aK.c 5 (dc bM) rfl)).g (jm h160)).a [.cn [1,2,5,6,7,8] [0,1,2]]).lp hΓ (vH hΓ (fun A5 h=>?_) (bV h185) zQ 0 cu rfl h);exact(aX.a [.cn [1,2,5,6] [0,1]]).ct hΓ eM (iS bM hm1) (ih1 (i1+1) A5 (dn bM) h)
   ·exact((n7.b h158).a [.cn [1,2,5,6] [0,1]]).ct hΓ eM (iS bM hm1) (ih1 (i1+1) cu (dn bM) h)
  ·exact((nF.b h157).a [.hl 0 [5] [1]]).ex hΓ fI (jX cu h)
theorem fV{aF:aH}{bB:Int}{r:aC}(h:gL aF bB=some r):Good prog 25 [D.agg (aH.c aF),D.int .i64 bB] (D.fr 9 1 (r.map tx)):=by
 refine gd func25 [[some (9,1)]] 49 fun hr Γ hΓ=>?_
 rw[gL]at h;refine(aX.a [.cn [1,2,5,6] [0,1]]).lp hΓ (vG hΓ (fun eA h=>?_) (by have:=(kj.sl (kj.agg (hr _ (aD (i:=0) rfl)) (.sl (aF.conds.map aK.c)) (by simp))).1;simpa using this) aF.conds 0 ([]:aC) rfl h);have h:=aQ h;subst h;exact aX.ret hΓ
def fQ(aF:aC)(bB:Bytes)(k1:Option Bool):aC->Nat->Option Bool
 | [],i1=>(k1)
 |cN::fK,i1=>(bif (cN:Bytes)==bB then(some true)else(fQ aF bB k1 fK (i1+1)))
def dw(aF:aC)(bB:Bytes):Option Bool:=(fQ aF bB (some false) aF 0)
def wg(aF:aC)(bB:Bytes)(iw:Int):St:=⟨[(0,D.sl (aF.map tx)),(1,D.str bB),(5,D.int .i64 iw)],[]⟩
theorem vO(hΓ:Γ.nt=18){aF:aC}{bB:Bytes}{r:Bool}{k1:Option Bool}(jX:k1=some r->Ax Γ N f28 (.q [[none]] (D.bool r)) [1,1] ⟨[],[]⟩)(hm1:aF.length<=maxLen):∀(rest:aC) (i1:Nat),aF.drop i1=rest->fQ aF bB k1 rest i1=some r->Ar Γ N f28 (.q [[none]] (D.bool r)) [1,0,1,0] (rest.length+1) (wg aF bB (i1:Int)):=by
 intro rest
 induction rest with
 |nil=>
  intro i1 bM h;rw[fQ]at h;refine aW fun N1 fI eM=>?_
  exact((aX.ge tx bM).a [.hl 0 [] []]).ex hΓ fI (jX h)
 |cons cN fK ih1=>
  intro i1 bM h;rw[fQ]at h;refine aW fun N1 fI eM=>?_
  have lN:=((aX.lt tx bM).l (cA tx 1 (dc bM) rfl))
  obtain⟨h13,h⟩|⟨h13,h⟩:=aO h
  ·have h:=aQ h;subst h;exact(lN.b h13).ret hΓ
  ·exact((lN.b h13).a [.cn [0,1,5] []]).ct hΓ eM (iS bM hm1) (ih1 (i1+1) (dn bM) h)
theorem fW{aF:aC}{bB:Bytes}{r:Bool}(h:dw aF bB=some r):Good prog 28 [D.sl (aF.map tx),D.str bB] (D.bool r):=by
 refine gd func28 [[none]] 18 fun hr Γ hΓ=>?_
 rw[dw]at h;refine(aX.a [.cn [0,1,5] []]).lp hΓ (vO hΓ (fun h=>?_) (by have:=(kj.sl (hr _ (aD (i:=0) rfl))).1;simpa using this) aF 0 rfl h);have h:=aQ h;subst h;exact aX.ret hΓ
def lq(aF:Bytes):Option Bool:=((kO aF).bind fun y1=>(bif y1 then((lg aF 0).bind fun b4=>((iD (IntKind.i64.wrap b4.toNat) 97 122).bind fun y6=>(some y6)))else(some false)))
theorem lH{aF:Bytes}{r:Bool}(h:lq aF=some r):Good prog 23 [D.str aF] (D.bool r):=by
 refine gd func23 [[none]] 11 fun hr Γ hΓ=>?_
 rw[lq]at h;obtain⟨y1,h2,h⟩:=aE h;obtain⟨h3,h⟩|⟨h3,h⟩:=aO h
 ·obtain⟨b4,h5,h⟩:=aE h;obtain⟨y6,h7,h⟩:=aE h;have h:=aQ h;subst h;exact((((((aX.g (jk h2)).r 2 h3).c h5).r 2 h3).g (fH h7)).b h3).ret hΓ
 ·have h:=aQ h;subst h;exact((aX.g (jk h2)).r 5 h3).ret hΓ
def fB(aF:Bytes):Option Bool:=((kO aF).bind fun y1=>(bif y1 then(some true)else((iZ aF).bind fun y4=>(some y4))))
theorem gA{aF:Bytes}{r:Bool}(h:fB aF=some r):Good prog 64 [D.str aF] (D.bool r):=by
 refine gd func64 [[none]] 9 fun hr Γ hΓ=>?_
 rw[fB]at h;obtain⟨y1,h2,h⟩:=aE h;obtain⟨h3,h⟩|⟨h3,h⟩:=aO h
 ·have h:=aQ h;subst h;exact((aX.g (jk h2)).r 3 h3).ret hΓ
 ·obtain⟨y4,h5,h⟩:=aE h;have h:=aQ h;subst h;exact((((aX.g (jk h2)).r 2 h3).g (j7 h5)).b h3).ret hΓ
def gz(aF:ar)(k1:Option Bool):aC->Nat->Option Bool
 | [],i1=>(k1)
 |cN::fK,i1=>((fB cN).bind fun Lj=>(bif !(Lj)then(some false)else(gz aF k1 fK (i1+1))))
def fG(aF:ar):Option Bool:=(gz aF ((lq aF.rel).bind fun CO=>(bif CO then(some (decide ((((aF.args.map tx).length:Int):Int)<=3)))else(some false))) aF.args 0)
def wU(aF:ar)(iw:Int):St:=⟨[(1,D.ptr 0 0),(3,D.int .i64 iw)],[Ob.box (ar.c aF)]⟩
theorem vK(hΓ:Γ.nt=27){aF:ar}{r:Bool}{k1:Option Bool}(jX:k1=some r->Ax Γ N f63 (.q [[none]] (D.bool r)) [1,1] ⟨[(1,D.ptr 0 0)],[Ob.box (ar.c aF)]⟩)(hm1:aF.args.length<=maxLen):∀(rest:aC) (i1:Nat),aF.args.drop i1=rest->gz aF k1 rest i1=some r->Ar Γ N f63 (.q [[none]] (D.bool r)) [1,0,1,0] (rest.length+1) (wU aF (i1:Int)):=by
 intro rest
 induction rest with
 |nil=>
  intro i1 bM h;rw[gz]at h;refine aW fun N1 fI eM=>?_
  exact((aX.ge tx bM).a [.hl 0 [1] [0]]).ex hΓ fI (jX h)
 |cons cN fK ih1=>
  intro i1 bM h;rw[gz]at h;refine aW fun N1 fI eM=>?_
  obtain⟨Lj,h22,h⟩:=aE h;have lN:=(((aX.lt tx bM).l (cA tx 1 (dc bM) rfl)).g (gA h22))
  obtain⟨h23,h⟩|⟨h23,h⟩:=aO h
  ·have h:=aQ h;subst h;exact(lN.b h23).ret hΓ
  ·exact((lN.b h23).a [.cn [1,3] [0]]).ct hΓ eM (iS bM hm1) (ih1 (i1+1) (dn bM) h)
theorem eY{aF:ar}{r:Bool}(h:fG aF=some r):Good prog 63 [D.agg (ar.c aF)] (D.bool r):=by
 refine gd func63 [[none]] 27 fun hr Γ hΓ=>?_
 rw[fG]at h;refine(aX.a [.cn [1,3] [0]]).lp hΓ (vK hΓ (fun h=>?_) (by have:=(kj.sl (kj.agg (hr _ (aD (i:=0) rfl)) (.sl (aF.args.map tx)) (by simp))).1;simpa using this) aF.args 0 rfl h);obtain⟨CO,h25,h⟩:=aE h;obtain⟨h26,h⟩|⟨h26,h⟩:=aO h
 ·cases h;exact((aX.g (lH h25)).r 5 h26).ret hΓ
 ·have h:=aQ h;subst h;exact((aX.g (lH h25)).r 5 h26).ret hΓ
def kP(aF:aK):Option Bool:=(bif (aF.kind:Int)==1 then((fG aF.pat).bind fun y2=>(bif y2 then(bif (aF.left:Bytes)==([])then(some ((aF.right:Bytes)==([])))else(some false))else(some false)))else(bif (aF.kind:Int)==2 then((fG aF.pat).bind fun y7=>(bif y7 then(bif (aF.left:Bytes)==([])then(some ((aF.right:Bytes)==([])))else(some false))else(some false)))else(bif (aF.kind:Int)==3 then(bif (aF.pat.rel:Bytes)==([])then(bif (((aF.pat.args.map tx).length:Int):Int)==0 then((fB aF.left).bind fun Bt=>(bif Bt then((fB aF.right).bind fun VY=>(some VY))else(some false)))else(some false))else(some false))else(bif (aF.kind:Int)==4 then(bif (aF.pat.rel:Bytes)==([])then(bif (((aF.pat.args.map tx).length:Int):Int)==0 then((fB aF.left).bind fun HQ=>(bif HQ then((fB aF.right).bind fun o5=>(some o5))else(some false)))else(some false))else(some false))else(bif (aF.kind:Int)==5 then(bif (aF.pat.rel:Bytes)==([])then(bif (((aF.pat.args.map tx).length:Int):Int)==0 then((fB aF.left).bind fun xJ=>(bif xJ then((fB aF.right).bind fun rK=>(some rK))else(some false)))else(some false))else(some false))else(some false))))))
theorem iO{aF:aK}{r:Bool}(h:kP aF=some r):Good prog 26 [D.agg (aK.c aF)] (D.bool r):=by
 refine gd func26 [[none]] 46 fun hr Γ hΓ=>?_
 rw[kP]at h;obtain⟨h1,h⟩|⟨h1,h⟩:=aO h
 ·obtain⟨y2,h3,h⟩:=aE h;have nE:=((aX.r 2 h1).g (eY h3))
  obtain⟨h4,h⟩|⟨h4,h⟩:=aO h
  ·have lN:=(nE.r 4 h4)
   obtain⟨h5,h⟩|⟨h5,h⟩:=aO h
   ·cases h;exact(lN.r 4 h5).ret hΓ
   ·have h:=aQ h;subst h;exact(lN.r 4 h5).ret hΓ
  ·have h:=aQ h;subst h;exact((nE.r 4 h4).F 4).ret hΓ
 ·obtain⟨h6,h⟩|⟨h6,h⟩:=aO h
  ·obtain⟨y7,h8,h⟩:=aE h;have nF:=(((aX.b h1).b h6).g (eY h8))
   obtain⟨h9,h⟩|⟨h9,h⟩:=aO h
   ·have n7:=(nF.r 4 h9)
    obtain⟨h10,h⟩|⟨h10,h⟩:=aO h
    ·cases h;exact(n7.r 4 h10).ret hΓ
    ·have h:=aQ h;subst h;exact(n7.r 4 h10).ret hΓ
   ·have h:=aQ h;subst h;exact((nF.r 4 h9).F 4).ret hΓ
  ·have zE:=((aX.b h1).b h6)
   obtain⟨h11,h⟩|⟨h11,h⟩:=aO h
   ·have Bf:=(zE.r 2 h11)
    obtain⟨h12,h⟩|⟨h12,h⟩:=aO h
    ·have Eo:=(Bf.r 6 h12)
     obtain⟨h13,h⟩|⟨h13,h⟩:=aO h
     ·obtain⟨Bt,h15,h⟩:=aE h;have KU:=(((Eo.r 3 h13).g (gA h15)).b h13)
      obtain⟨h16,h⟩|⟨h16,h⟩:=aO h
      ·obtain⟨VY,h18,h⟩:=aE h;have h:=aQ h;subst h;exact(((KU.r 3 h16).g (gA h18)).b h16).ret hΓ
      ·have h:=aQ h;subst h;exact(KU.r 4 h16).ret hΓ
     ·have h:=aQ h;subst h;exact((Eo.r 4 h13).F 4).ret hΓ
    ·have h:=aQ h;subst h;exact((Bf.r 6 h12).F 8).ret hΓ
   ·obtain⟨h19,h⟩|⟨h19,h⟩:=aO h
    ·have Ny:=((zE.b h11).r 2 h19)
     obtain⟨h20,h⟩|⟨h20,h⟩:=aO h
     ·have El:=(Ny.r 6 h20)
      obtain⟨h21,h⟩|⟨h21,h⟩:=aO h
      ·obtain⟨HQ,h23,h⟩:=aE h;have Em:=(((El.r 3 h21).g (gA h23)).b h21)
       obtain⟨h24,h⟩|⟨h24,h⟩:=aO h
       ·obtain⟨o5,h26,h⟩:=aE h;have h:=aQ h;subst h;exact(((Em.r 3 h24).g (gA h26)).b h24).ret hΓ
       ·have h:=aQ h;subst h;exact(Em.r 4 h24).ret hΓ
      ·have h:=aQ h;subst h;exact((El.r 4 h21).F 4).ret hΓ
     ·have h:=aQ h;subst h;exact((Ny.r 6 h20).F 8).ret hΓ
    ·have Al:=((zE.b h11).b h19)
     obtain⟨h27,h⟩|⟨h27,h⟩:=aO h
     ·obtain⟨h28,h⟩|⟨h28,h⟩:=aO h
      ·have En:=((Al.b h27).r 6 h28)
       obtain⟨h29,h⟩|⟨h29,h⟩:=aO h
       ·obtain⟨xJ,h31,h⟩:=aE h;have KT:=(((En.r 3 h29).g (gA h31)).b h29)
        obtain⟨h32,h⟩|⟨h32,h⟩:=aO h
        ·obtain⟨rK,h34,h⟩:=aE h;have h:=aQ h;subst h;exact(((KT.r 3 h32).g (gA h34)).b h32).ret hΓ
        ·have h:=aQ h;subst h;exact(KT.r 4 h32).ret hΓ
       ·have h:=aQ h;subst h;exact((En.r 4 h29).F 4).ret hΓ
      ·have h:=aQ h;subst h;exact(((Al.b h27).r 6 h28).F 8).ret hΓ
     ·have h:=aQ h;subst h;exact(Al.b h27).ret hΓ
def iC(aF:aK):Option aC:=((ia aF.pat).bind fun y1=>((iZ aF.left).bind fun y3=>(bif y3 then((gl y1 aF.left).bind fun y6=>((iZ aF.right).bind fun y8=>(bif y8 then((gl y6 aF.right).bind fun CN=>(some CN))else(some y6))))else((iZ aF.right).bind fun nx=>(bif nx then((gl y1 aF.right).bind fun F6=>(some F6))else(some y1))))))
theorem kG{aF:aK}{r:aC}(h:iC aF=some r):Good prog 27 [D.agg (aK.c aF)] (D.fr 9 1 (r.map tx)):=by
 refine gd func27 [[some (9,1)]] 22 fun hr Γ hΓ=>?_
 rw[iC]at h;obtain⟨y1,h2,h⟩:=aE h;obtain⟨y3,h4,h⟩:=aE h;have nE:=((aX.g (jm h2)).g (j7 h4))
 obtain⟨h5,h⟩|⟨h5,h⟩:=aO h
 ·obtain⟨y6,h7,h⟩:=aE h;obtain⟨y8,h9,h⟩:=aE h;have lN:=(((nE.b h5).g (gm h7)).g (j7 h9))
  obtain⟨h10,h⟩|⟨h10,h⟩:=aO h
  ·obtain⟨CN,h12,h⟩:=aE h;have h:=aQ h;subst h;exact((lN.b h10).g (gm h12)).ret hΓ
  ·have h:=aQ h;subst h;exact(lN.b h10).ret hΓ
 ·obtain⟨nx,h14,h⟩:=aE h;have nF:=((nE.b h5).g (j7 h14))
  obtain⟨h15,h⟩|⟨h15,h⟩:=aO h
  ·obtain⟨F6,h17,h⟩:=aE h;have h:=aQ h;subst h;exact((nF.b h15).g (gm h17)).ret hΓ
  ·have h:=aQ h;subst h;exact(nF.b h15).ret hΓ
def lz(aF:aK):Option Bool:=((kP aF).bind fun y1=>(bif y1 then(some (decide ((aF.kind:Int)>=3)))else(some false)))
theorem qn{aF:aK}{r:Bool}(h:lz aF=some r):Good prog 29 [D.agg (aK.c aF)] (D.bool r):=by
 refine gd func29 [[none]] 10 fun hr Γ hΓ=>?_
 rw[lz]at h;obtain⟨y1,h2,h⟩:=aE h;obtain⟨h3,h⟩|⟨h3,h⟩:=aO h
 ·cases h;exact((aX.g (iO h2)).r 4 h3).ret hΓ
 ·have h:=aQ h;subst h;exact((aX.g (iO h2)).r 4 h3).ret hΓ
def dN(aF:aH)(bB:Int)(jF:Bytes)(k1:Option Bool):aj->Nat->Option Bool
 | [],i1=>(k1)
 |cN::fK,i1=>(bif ((i1:Int):Int) != bB then((iC cN).bind fun LW=>((dw LW jF).bind fun Dt=>(bif Dt then(some true)else(dN aF bB jF k1 fK (i1+1)))))else(dN aF bB jF k1 fK (i1+1)))
def eZ(aF:aH)(jF:Bytes)(k2:Option Bool):cV->Nat->Option Bool
 | [],i2=>(k2)
 |wv::yC,i2=>((ia wv.pat).bind fun Sa=>((dw Sa jF).bind fun Vf=>(bif Vf then(some true)else(eZ aF jF k2 yC (i2+1)))))
def iV(aF:aH)(bB:Int)(jF:Bytes):Option Bool:=(dN aF bB jF (eZ aF jF (some false) aF.bR 0) aF.conds 0)
def uS(aF:aH)(bB:Int)(jF:Bytes)(iw:Int):St:=⟨[(1,D.int .i64 bB),(2,D.str jF),(3,D.ptr 0 0),(7,D.int .i64 iw)],[Ob.box (aH.c aF)]⟩
theorem tM(hΓ:Γ.nt=45){aF:aH}{bB:Int}{jF:Bytes}{r:Bool}{k1:Option Bool}(jX:k1=some r->Ax Γ N f30 (.q [[none]] (D.bool r)) [1,1] ⟨[(2,D.str jF),(3,D.ptr 0 0)],[Ob.box (aH.c aF)]⟩)(hm1:aF.conds.length<=maxLen):∀(rest:aj) (i1:Nat),aF.conds.drop i1=rest->dN aF bB jF k1 rest i1=some r->Ar Γ N f30 (.q [[none]] (D.bool r)) [1,0,1,0] (rest.length+1) (uS aF bB jF (i1:Int)):=by
 intro rest
 induction rest with
 |nil=>
  intro i1 bM h;rw[dN]at h;refine aW fun N1 fI eM=>?_
  exact((aX.ge aK.c bM).a [.hl 0 [2,3] [0]]).ex hΓ fI (jX h)
 |cons cN fK ih1=>
  intro i1 bM h;rw[dN]at h;refine aW fun N1 fI eM=>?_
  obtain⟨h33,h⟩|⟨h33,h⟩:=aO h
  ·obtain⟨LW,h35,h⟩:=aE h;obtain⟨Dt,h37,h⟩:=aE h;have nF:=((((((((aX.lt aK.c bM).r 4 h33).l (cA aK.c 5 (dc bM) rfl)).r 2 h33).g (kG h35)).r 2 h33).g (fW h37)).b h33)
   obtain⟨h38,h⟩|⟨h38,h⟩:=aO h
   ·have h:=aQ h;subst h;exact(nF.b h38).ret hΓ
   ·exact((nF.b h38).a [.cn [1,2,3,7] [0]]).ct hΓ eM (iS bM hm1) (ih1 (i1+1) (dn bM) h)
  ·exact((((aX.lt aK.c bM).r 9 h33).F 1).a [.cn [1,2,3,7] [0]]).ct hΓ eM (iS bM hm1) (ih1 (i1+1) (dn bM) h)
def uT(aF:aH)(jF:Bytes)(iw:Int):St:=⟨[(2,D.str jF),(3,D.ptr 0 0),(8,D.int .i64 iw)],[Ob.box (aH.c aF)]⟩
theorem tN(hΓ:Γ.nt=45){aF:aH}{jF:Bytes}{r:Bool}{k2:Option Bool}(D6:k2=some r->Ax Γ N f30 (.q [[none]] (D.bool r)) [1,1,1] ⟨[],[]⟩)(hm2:aF.bR.length<=maxLen):∀(rest:cV) (i2:Nat),aF.bR.drop i2=rest->eZ aF jF k2 rest i2=some r->Ar Γ N f30 (.q [[none]] (D.bool r)) [1,1,0,1,0] (rest.length+1) (uT aF jF (i2:Int)):=by
 intro rest
 induction rest with
 |nil=>
  intro i2 hd2 h;rw[eZ]at h;refine aW fun N2 zW wA=>?_
  exact((aX.ge Action.c hd2).a [.hl 0 [] []]).ex hΓ zW (D6 h)
 |cons wv yC ih2=>
  intro i2 hd2 h;rw[eZ]at h;refine aW fun N2 zW wA=>?_
  obtain⟨Sa,h68,h⟩:=aE h;obtain⟨Vf,h70,h⟩:=aE h;have n7:=((((aX.lt Action.c hd2).l (cA Action.c 3 (dc hd2) rfl)).g (jm h68)).g (fW h70))
  obtain⟨h71,h⟩|⟨h71,h⟩:=aO h
  ·have h:=aQ h;subst h;exact(n7.b h71).ret hΓ
  ·exact((n7.b h71).a [.cn [2,3,8] [0]]).ct hΓ wA (iS hd2 hm2) (ih2 (i2+1) (dn hd2) h)
theorem nr{aF:aH}{bB:Int}{jF:Bytes}{r:Bool}(h:iV aF bB jF=some r):Good prog 30 [D.agg (aH.c aF),D.int .i64 bB,D.str jF] (D.bool r):=by
 refine gd func30 [[none]] 45 fun hr Γ hΓ=>?_
 rw[iV]at h;refine(aX.a [.cn [1,2,3,7] [0]]).lp hΓ (tM hΓ (fun h=>?_) (by have:=(kj.sl (kj.agg (hr _ (aD (i:=0) rfl)) (.sl (aF.conds.map aK.c)) (by simp))).1;simpa using this) aF.conds 0 rfl h);refine(aX.a [.cn [2,3,8] [0]]).lp hΓ (tN hΓ (fun h=>?_) (by have:=(kj.sl (kj.agg (hr _ (aD (i:=0) rfl)) (.sl (aF.bR.map Action.c)) (by simp))).1;simpa using this) aF.bR 0 rfl h);have h:=aQ h;subst h;exact aX.ret hΓ
def lW(aF:Action):Option Bool:=(bif (aF.kind:Int)==1 then((fG aF.pat).bind fun y2=>(some y2))else(bif (aF.kind:Int)==2 then((fG aF.pat).bind fun y5=>(some y5))else(bif (aF.kind:Int)==3 then(bif (aF.pat.rel:Bytes)==([])then(some ((((aF.pat.args.map tx).length:Int):Int)==0))else(some false))else(some false))))
theorem vJ{aF:Action}{r:Bool}(h:lW aF=some r):Good prog 31 [D.agg (Action.c aF)] (D.bool r):=by
 refine gd func31 [[none]] 24 fun hr Γ hΓ=>?_
 rw[lW]at h;obtain⟨h1,h⟩|⟨h1,h⟩:=aO h
 ·obtain⟨y2,h3,h⟩:=aE h;have h:=aQ h;subst h;exact((aX.r 2 h1).g (eY h3)).ret hΓ
 ·obtain⟨h4,h⟩|⟨h4,h⟩:=aO h
  ·obtain⟨y5,h6,h⟩:=aE h;have h:=aQ h;subst h;exact(((aX.b h1).b h4).g (eY h6)).ret hΓ
  ·have nE:=((aX.b h1).b h4)
   obtain⟨h7,h⟩|⟨h7,h⟩:=aO h
   ·obtain⟨h8,h⟩|⟨h8,h⟩:=aO h
    ·cases h;exact((nE.b h7).r 6 h8).ret hΓ
    ·have h:=aQ h;subst h;exact((nE.b h7).r 6 h8).ret hΓ
   ·have h:=aQ h;subst h;exact(nE.b h7).ret hΓ
def gB(aF:aH)(i1:Nat)(zP:aC)(k2:aC->Option aC):aC->Nat->aC->Option aC
 | [],i2,tV=>(k2 tV)
 |wv::yC,i2,tV=>((gl tV wv).bind fun Pv=>(gB aF i1 zP k2 yC (i2+1) Pv))
def ei(aF:aH)(k1:aC->Option aC):aj->Nat->aC->Option aC
 | [],i1,cu=>(k1 cu)
 |cN::fK,i1,cu=>((iC cN).bind fun zP=>(bif decide (zP.length<=maxLen)then(gB aF i1 zP (fun(A5:aC)=>(ei aF k1 fK (i1+1) A5)) zP 0 cu)else none))
def gC(aF:aH)(i3:Nat)(zR:aC)(k4:aC->Option aC):aC->Nat->aC->Option aC
 | [],i4,Dk=>(k4 Dk)
 |QR::SQ,i4,Dk=>((gl Dk QR).bind fun Px=>(gC aF i3 zR k4 SQ (i4+1) Px))
def eR(aF:aH)(k3:aC->Option aC):cV->Nat->aC->Option aC
 | [],i3,CM=>(k3 CM)
 |N9::Ip,i3,CM=>((ia N9.pat).bind fun zR=>(bif decide (zR.length<=maxLen)then(gC aF i3 zR (fun(IG:aC)=>(eR aF k3 Ip (i3+1) IG)) zR 0 CM)else none))
def lX(aF:aH):Option aC:=(ei aF (fun(uW:aC)=>(eR aF (fun(Kf:aC)=>(some Kf)) aF.bR 0 uW)) aF.conds 0 ([]:aC))
def xV(aF:aH)(W0:List aG)(iw:Int):St:=⟨[(1,D.ptr 0 0),(3,D.acc 1),(4,D.int .i64 iw)],[Ob.box (aH.c aF),Ob.row .uq 9 1 W0]⟩
def xW(aF:aH)(i1:Nat)(zP:aC)(W0:List aG)(iw:Int):St:=⟨[(1,D.ptr 0 0),(3,D.acc 1),(4,D.int .i64 (i1:Int)),(5,D.acc 2),(6,D.int .i64 iw)],[Ob.box (aH.c aF),Ob.row .uq 9 1 W0,Ob.row .uq 9 1 (zP.map tx)]⟩
theorem wY(hΓ:Γ.nt=63){aF:aH}{i1:Nat}{zP:aC}{r:aC}{k2:aC->Option aC}(D6:∀(A5:aC),k2 A5=some r->Ax Γ N f33 (.q [[some (9,1)]] (D.fr 9 1 (r.map tx))) [1,1,0,1,0,0,1,1] ⟨[(1,D.ptr 0 0),(3,D.acc 1),(4,D.int .i64 (i1:Int))],[Ob.box (aH.c aF),Ob.row .uq 9 1 (A5.map tx)]⟩)(hm2:zP.length<=maxLen):∀(rest:aC) (i2:Nat) (tV:aC),zP.drop i2=rest->gB aF i1 zP k2 rest i2 tV=some r->Ar Γ N f33 (.q [[some (9,1)]] (D.fr 9 1 (r.map tx))) [1,1,0,1,0,0,1,0,0,1,1,0] (rest.length+1) (xW aF i1 zP (tV.map tx) (i2:Int)):=by
 intro rest
 induction rest with
 |nil=>
  intro i2 tV hd2 h;rw[gB]at h;refine aW fun N2 zW wA=>?_
  exact((aX.ge tx hd2).a [.hl 3 [1,3,4] [0,1]]).ex hΓ zW (D6 tV h)
 |cons wv yC ih2=>
  intro i2 tV hd2 h;rw[gB]at h;refine aW fun N2 zW wA=>?_
  obtain⟨Pv,h172,h⟩:=aE h;exact(((((aX.lt tx hd2).i (ke tx 1 (dc hd2))).o 1 1 .uq (cJ tx (dc hd2))).g (gm h172)).a [.cn [1,3,4,5,6] [0,3,2]]).ct hΓ wA (iS hd2 hm2) (ih2 (i2+1) Pv (dn hd2) h)
theorem wX(hΓ:Γ.nt=63){aF:aH}{r:aC}{k1:aC->Option aC}(jX:∀(uW:aC),k1 uW=some r->Ax Γ N f33 (.q [[some (9,1)]] (D.fr 9 1 (r.map tx))) [1,1,1] ⟨[(1,D.ptr 0 0),(3,D.acc 1)],[Ob.box (aH.c aF),Ob.row .uq 9 1 (uW.map tx)]⟩)(hm1:aF.conds.length<=maxLen):∀(rest:aj) (i1:Nat) (cu:aC),aF.conds.drop i1=rest->ei aF k1 rest i1 cu=some r->Ar Γ N f33 (.q [[some (9,1)]] (D.fr 9 1 (r.map tx))) [1,1,0,1,0] (rest.length+1) (xV aF (cu.map tx) (i1:Int)):=by
 intro rest
 induction rest with
 |nil=>
  intro i1 cu bM h;rw[ei]at h;refine aW fun N1 fI eM=>?_
  exact((aX.ge aK.c bM).a [.hl 0 [1,3] [0,1]]).ex hΓ fI (jX cu h)
 |cons cN fK ih1=>
  intro i1 cu bM h;rw[ei]at h;refine aW fun N1 fI eM=>?_
  obtain⟨zP,h148,h⟩:=aE h;obtain⟨h173,h⟩:=bp h;refine((((aX.lt aK.c bM).l (cA aK.c 5 (dc bM) rfl)).g (kG h148)).a [.cn [1,3,4,5,6] [0,1,2]]).lp hΓ (wY hΓ (fun A5 h=>?_) (bV h173) zP 0 cu rfl h);exact(aX.a [.cn [1,3,4] [0,1]]).ct hΓ eM (iS bM hm1) (ih1 (i1+1) A5 (dn bM) h)
def xX(aF:aH)(W0:List aG)(iw:Int):St:=⟨[(1,D.ptr 0 0),(3,D.acc 1),(7,D.int .i64 iw)],[Ob.box (aH.c aF),Ob.row .uq 9 1 W0]⟩
def xY(aF:aH)(i3:Nat)(zR:aC)(W0:List aG)(iw:Int):St:=⟨[(1,D.ptr 0 0),(3,D.acc 1),(7,D.int .i64 (i3:Int)),(8,D.acc 2),(9,D.int .i64 iw)],[Ob.box (aH.c aF),Ob.row .uq 9 1 W0,Ob.row .uq 9 1 (zR.map tx)]⟩
theorem we(hΓ:Γ.nt=63){aF:aH}{i3:Nat}{zR:aC}{r:aC}{k4:aC->Option aC}(TF:∀(IG:aC),k4 IG=some r->Ax Γ N f33 (.q [[some (9,1)]] (D.fr 9 1 (r.map tx))) [1,1,1,0,1,0,0,1,1] ⟨[(1,D.ptr 0 0),(3,D.acc 1),(7,D.int .i64 (i3:Int))],[Ob.box (aH.c aF),Ob.row .uq 9 1 (IG.map tx)]⟩)(Tq:zR.length<=maxLen):∀(rest:aC) (i4:Nat) (Dk:aC),zR.drop i4=rest->gC aF i3 zR k4 rest i4 Dk=some r->Ar Γ N f33 (.q [[some (9,1)]] (D.fr 9 1 (r.map tx))) [1,1,1,0,1,0,0,1,0,0,1,1,0] (rest.length+1) (xY aF i3 zR (Dk.map tx) (i4:Int)):=by
 intro rest
 induction rest with
 |nil=>
  intro i4 Dk FW h;rw[gC]at h;refine aW fun N4 Qn Qo=>?_
  exact((aX.ge tx FW).a [.hl 3 [1,3,7] [0,1]]).ex hΓ Qn (TF Dk h)
 |cons QR SQ ih4=>
  intro i4 Dk FW h;rw[gC]at h;refine aW fun N4 Qn Qo=>?_
  obtain⟨Px,h345,h⟩:=aE h;exact(((((aX.lt tx FW).i (ke tx 1 (dc FW))).o 1 1 .uq (cJ tx (dc FW))).g (gm h345)).a [.cn [1,3,7,8,9] [0,3,2]]).ct hΓ Qo (iS FW Tq) (ih4 (i4+1) Px (dn FW) h)
theorem wZ(hΓ:Γ.nt=63){aF:aH}{r:aC}{k3:aC->Option aC}(Qj:∀(Kf:aC),k3 Kf=some r->Ax Γ N f33 (.q [[some (9,1)]] (D.fr 9 1 (r.map tx))) [1,1,1,1] ⟨[(3,D.acc 0)],[Ob.row .uq 9 1 (Kf.map tx)]⟩)(MM:aF.bR.length<=maxLen):∀(rest:cV) (i3:Nat) (CM:aC),aF.bR.drop i3=rest->eR aF k3 rest i3 CM=some r->Ar Γ N f33 (.q [[some (9,1)]] (D.fr 9 1 (r.map tx))) [1,1,1,0,1,0] (rest.length+1) (xX aF (CM.map tx) (i3:Int)):=by
 intro rest
 induction rest with
 |nil=>
  intro i3 CM xE h;rw[eR]at h;refine aW fun N3 NN Ib=>?_
  exact((aX.ge Action.c xE).a [.hl 0 [3] [1]]).ex hΓ NN (Qj CM h)
 |cons N9 Ip ih3=>
  intro i3 CM xE h;rw[eR]at h;refine aW fun N3 NN Ib=>?_
  obtain⟨zR,h321,h⟩:=aE h;obtain⟨h346,h⟩:=bp h;refine((((aX.lt Action.c xE).l (cA Action.c 3 (dc xE) rfl)).g (jm h321)).a [.cn [1,3,7,8,9] [0,1,2]]).lp hΓ (we hΓ (fun IG h=>?_) (bV h346) zR 0 CM rfl h);exact(aX.a [.cn [1,3,7] [0,1]]).ct hΓ Ib (iS xE MM) (ih3 (i3+1) IG (dn xE) h)
theorem vN{aF:aH}{r:aC}(h:lX aF=some r):Good prog 33 [D.agg (aH.c aF)] (D.fr 9 1 (r.map tx)):=by
 refine gd func33 [[some (9,1)]] 63 fun hr Γ hΓ=>?_
 rw[lX]at h;refine(aX.a [.cn [1,3,4] [0,1]]).lp hΓ (wX hΓ (fun uW h=>?_) (by have:=(kj.sl (kj.agg (hr _ (aD (i:=0) rfl)) (.sl (aF.conds.map aK.c)) (by simp))).1;simpa using this) aF.conds 0 ([]:aC) rfl h);refine(aX.a [.cn [1,3,7] [0,1]]).lp hΓ (wZ hΓ (fun Kf h=>?_) (by have:=(kj.sl (kj.agg (hr _ (aD (i:=0) rfl)) (.sl (aF.bR.map Action.c)) (by simp))).1;simpa using this) aF.bR 0 uW rfl h);have h:=aQ h;subst h;exact aX.ret hΓ
def di(aF:aH)(nx:aC)(i1:Nat)(cN:aK)(zT:aC)(uZ:aC)(k2:Option Bool):aC->Nat->Option Bool
 | [],i2=>(k2)
 |wv::yC,i2=>((dw zT wv).bind fun Pz=>((lz cN).bind fun Sb=>(bif Sb then(bif !(Pz)then(some false)else(bif (cN.kind:Int)==2 then(di aF nx i1 cN zT uZ k2 yC (i2+1))else(di aF nx i1 cN zT uZ k2 yC (i2+1))))else(bif (cN.kind:Int)==2 then(bif !(Pz)then((iV aF (i1:Int) wv).bind fun Sc=>(bif Sc then(some false)else(di aF nx i1 cN zT uZ k2 yC (i2+1))))else(di aF nx i1 cN zT uZ k2 yC (i2+1)))else(di aF nx i1 cN zT uZ k2 yC (i2+1))))))
def dl(aF:aH)(nx:aC)(i1:Nat)(cN:aK)(zU:aC)(ua:aC)(k3:Option Bool):aC->Nat->Option Bool
 | [],i3=>(k3)
 |N9::Ip,i3=>((dw zU N9).bind fun Q0=>((lz cN).bind fun Sd=>(bif Sd then(bif !(Q0)then(some false)else(bif (cN.kind:Int)==2 then(dl aF nx i1 cN zU ua k3 Ip (i3+1))else(dl aF nx i1 cN zU ua k3 Ip (i3+1))))else(bif (cN.kind:Int)==2 then(bif !(Q0)then((iV aF (i1:Int) N9).bind fun Se=>(bif Se then(some false)else(dl aF nx i1 cN zU ua k3 Ip (i3+1))))else(dl aF nx i1 cN zU ua k3 Ip (i3+1)))else(dl aF nx i1 cN zU ua k3 Ip (i3+1))))))
def gM(aF:aH)(nx:aC)(k1:Option Bool):aj->Nat->Option Bool
 | [],i1=>(k1)
 |cN::fK,i1=>((kP cN).bind fun SZ=>(bif !(SZ)then(some false)else(bif ((i1:Int):Int)==0 then(bif (cN.kind:Int) != 1 then(some false)else((gL aF (i1:Int)).bind fun zT=>((iC cN).bind fun uZ=>(bif decide (uZ.length<=maxLen)then(di aF nx i1 cN zT uZ (gM aF nx k1 fK (i1+1)) uZ 0)else none))))else((gL aF (i1:Int)).bind fun zU=>((iC cN).bind fun ua=>(bif decide (ua.length<=maxLen)then(dl aF nx i1 cN zU ua (gM aF nx k1 fK (i1+1)) ua 0)else none))))))
def iQ(aF:aH)(nx:aC)(i4:Nat)(zV:aC)(k5:Option Bool):aC->Nat->Option Bool
 | [],i5=>(k5)
 |VW::VX,i5=>((dw nx VW).bind fun Sg=>(bif !(Sg)then(some false)else(iQ aF nx i4 zV k5 VX (i5+1))))
def iP(aF:aH)(nx:aC)(k4:Option Bool):cV->Nat->Option Bool
 | [],i4=>(k4)
 |QR::SQ,i4=>((lW QR).bind fun Sf=>(bif !(Sf)then(some false)else((ia QR.pat).bind fun zV=>(bif decide (zV.length<=maxLen)then(iQ aF nx i4 zV (iP aF nx k4 SQ (i4+1)) zV 0)else none))))
def iY(aF:aH):Option Bool:=((lq aF.name).bind fun y1=>(bif !(y1)then(some false)else((iD aF.prio 0 9).bind fun y4=>(bif !(y4)then(some false)else((iD ((aF.conds.map aK.c).length:Int) 1 4).bind fun y7=>(bif !(y7)then(some false)else((iD ((aF.bR.map Action.c).length:Int) 1 2).bind fun wF=>(bif !(wF)then(some false)else((gL aF ((aF.conds.map aK.c).length:Int)).bind fun nx=>(gM aF nx (iP aF nx ((lX aF).bind fun Si=>(some (decide ((((Si.map tx).length:Int):Int)<=6)))) aF.bR 0) aF.conds 0))))))))))
def zj(aF:aH)(nx:aC)(iw:Int):St:=⟨[(1,D.ptr 0 0),(3,D.acc 1),(4,D.int .i64 iw)],[Ob.box (aH.c aF),Ob.row .uq 9 1 (nx.map tx)]⟩
def zk(aF:aH)(nx:aC)(i1:Nat)(cN:aK)(zT:aC)(uZ:aC)(iw:Int):St:=⟨[(1,D.ptr 0 0),(3,D.acc 1),(4,D.int .i64 (i1:Int)),(5,D.ptr 2 0),(6,D.acc 3),(7,D.acc 4),(8,D.int .i64 iw)],[Ob.box (aH.c aF),Ob.row .uq 9 1 (nx.map tx),Ob.box [D.int .i64 cN.kind,D.str cN.pat.rel,D.sl (cN.pat.args.map tx),D.str cN.left,D.str cN.right],Ob.row .uq 9 1 (zT.map tx),Ob.row .uq 9 1 (uZ.map tx)]⟩
theorem yU(hΓ:Γ.nt=145){aF:aH}{nx:aC}{i1:Nat}{cN:aK}{zT:aC}{uZ:aC}{r:Bool}{k2:Option Bool}(D6:k2=some r->Ax Γ N f11 (.q [[none]] (D.bool r)) [1,1,1,0,1,0,0,1,1] ⟨[(1,D.ptr 0 0),(3,D.acc 1),(4,D.int .i64 (i1:Int))],[Ob.box (aH.c aF),Ob.row .uq 9 1 (nx.map tx)]⟩)(hm2:uZ.length<=maxLen):∀(rest:aC) (i2:Nat),uZ.drop i2=rest->di aF nx i1 cN zT uZ k2 rest i2=some r->Ar Γ N f11 (.q [[none]] (D.bool r)) [1,1,1,0,1,0,0,1,0,0,1,1,1,1,1,0] (rest.length+1) (zk aF nx i1 cN zT uZ (i2:Int)):=by
 intro rest
 induction rest with
 |nil=>
  intro i2 hd2 h;rw[di]at h;refine aW fun N2 zW wA=>?_
  exact((aX.ge tx hd2).a [.hl 3 [1,3,4] [0,1]]).ex hΓ zW (D6 h)
 |cons wv yC ih2=>
  intro i2 hd2 h;rw[di]at h;refine aW fun N2 zW wA=>?_
  obtain⟨Pz,h711,h⟩:=aE h;obtain⟨Sb,h713,h⟩:=aE h;have Nc:=((((((aX.lt tx hd2).i (ke tx 1 (dc hd2))).o 1 1 .uq (cJ tx (dc hd2))).g (fW h711)).a [.n 21]).g (qn h713))
  obtain⟨h714,h⟩|⟨h714,h⟩:=aO h
  ·have Nd:=(Nc.r 3 h714)
   obtain⟨h715,h⟩|⟨h715,h⟩:=aO h
   ·have h:=aQ h;subst h;exact((((((Nd.r 4 h715).a [bF,bF]).r 2 h715).a [bF,bF,bF,bF,bF,bF,bF]).r 2 h715).T 1).ret hΓ
   ·have Nf:=(Nd.r 4 h715)
    obtain⟨h716,h⟩|⟨h716,h⟩:=aO h
    ·exact((((((Nf.r 2 h716).b h715).b h716).r 11 h715).F 1).a [.cn [1,3,4,5,6,7,8] [0,1,2,3,4]]).ct hΓ wA (iS hd2 hm2) (ih2 (i2+1) (dn hd2) h)
    ·exact((((((((((Nf.r 2 h716).b h715).b h716).b h715).F 7).b h715).F 1).b h715).F 1).a [.cn [1,3,4,5,6,7,8] [0,1,2,3,4]]).ct hΓ wA (iS hd2 hm2) (ih2 (i2+1) (dn hd2) h)
  ·have Ng:=((Nc.r 3 h714).F 4)
   obtain⟨h717,h⟩|⟨h717,h⟩:=aO h
   ·have Nh:=((((Ng.r 2 h717).F 1).b h717).F 1)
    obtain⟨h718,h⟩|⟨h718,h⟩:=aO h
    ·obtain⟨Sc,h720,h⟩:=aE h;have Ni:=(((((((((Nh.r 5 h718).i (ke tx 1 (dc hd2))).b h718).o 1 1 .uq (cJ tx (dc hd2))).b h718).g (nr h720)).F 1).b h718).F 1)
     obtain⟨h721,h⟩|⟨h721,h⟩:=aO h
     ·have h:=aQ h;subst h;exact(Ni.b h721).ret hΓ
     ·exact((Ni.b h721).a [.cn [1,3,4,5,6,7,8] [0,1,2,3,4]]).ct hΓ wA (iS hd2 hm2) (ih2 (i2+1) (dn hd2) h)
    ·exact(((((Nh.r 7 h718).F 1).b h718).F 2).a [.cn [1,3,4,5,6,7,8] [0,1,2,3,4]]).ct hΓ wA (iS hd2 hm2) (ih2 (i2+1) (dn hd2) h)
   ·exact(((((Ng.r 2 h717).F 1).b h717).F 12).a [.cn [1,3,4,5,6,7,8] [0,1,2,3,4]]).ct hΓ wA (iS hd2 hm2) (ih2 (i2+1) (dn hd2) h)
def zl(aF:aH)(nx:aC)(i1:Nat)(cN:aK)(zU:aC)(ua:aC)(iw:Int):St:=⟨[(1,D.ptr 0 0),(3,D.acc 1),(4,D.int .i64 (i1:Int)),(5,D.ptr 2 0),(6,D.acc 3),(7,D.acc 4),(8,D.int .i64 iw)],[Ob.box (aH.c aF),Ob.row .uq 9 1 (nx.map tx),Ob.box [D.int .i64 cN.kind,D.str cN.pat.rel,D.sl (cN.pat.args.map tx),D.str cN.left,D.str cN.right],Ob.row .uq 9 1 (zU.map tx),Ob.row .uq 9 1 (ua.map tx)]⟩
theorem yV(hΓ:Γ.nt=145){aF:aH}{nx:aC}{i1:Nat}{cN:aK}{zU:aC}{ua:aC}{r:Bool}{k3:Option Bool}(Qj:k3=some r->Ax Γ N f11 (.q [[none]] (D.bool r)) [1,1,1,0,1,0,0,1,1] ⟨[(1,D.ptr 0 0),(3,D.acc 1),(4,D.int .i64 (i1:Int))],[Ob.box (aH.c aF),Ob.row .uq 9 1 (nx.map tx)]⟩)(MM:ua.length<=maxLen):∀(rest:aC) (i3:Nat),ua.drop i3=rest->dl aF nx i1 cN zU ua k3 rest i3=some r->Ar Γ N f11 (.q [[none]] (D.bool r)) [1,1,1,0,1,0,0,1,0,0,1,1,1,1,1,0] (rest.length+1) (zl aF nx i1 cN zU ua (i3:Int)):=by
 intro rest
 induction rest with
 |nil=>
  intro i3 xE h;rw[dl]at h;refine aW fun N3 NN Ib=>?_
  exact((aX.ge tx xE).a [.hl 3 [1,3,4] [0,1]]).ex hΓ NN (Qj h)
 |cons N9 Ip ih3=>
  intro i3 xE h;rw[dl]at h;refine aW fun N3 NN Ib=>?_
  obtain⟨Q0,h786,h⟩:=aE h;obtain⟨Sd,h788,h⟩:=aE h;have Nj:=((((((aX.lt tx xE).i (ke tx 1 (dc xE))).o 1 1 .uq (cJ tx (dc xE))).g (fW h786)).a [.n 21]).g (qn h788))
  obtain⟨h789,h⟩|⟨h789,h⟩:=aO h
  ·have Nk:=(Nj.r 3 h789)
   obtain⟨h790,h⟩|⟨h790,h⟩:=aO h
   ·have h:=aQ h;subst h;exact((((((Nk.r 4 h790).a [bF,bF]).r 2 h790).a [bF,bF,bF,bF,bF,bF,bF]).r 2 h790).T 1).ret hΓ
   ·have Nl:=(Nk.r 4 h790)
    obtain⟨h791,h⟩|⟨h791,h⟩:=aO h
    ·exact((((((Nl.r 2 h791).b h790).b h791).r 11 h790).F 1).a [.cn [1,3,4,5,6,7,8] [0,1,2,3,4]]).ct hΓ Ib (iS xE MM) (ih3 (i3+1) (dn xE) h)
    ·exact((((((((((Nl.r 2 h791).b h790).b h791).b h790).F 7).b h790).F 1).b h790).F 1).a [.cn [1,3,4,5,6,7,8] [0,1,2,3,4]]).ct hΓ Ib (iS xE MM) (ih3 (i3+1) (dn xE) h)
  ·have Nn:=((Nj.r 3 h789).F 4)
   obtain⟨h792,h⟩|⟨h792,h⟩:=aO h
   ·have No:=((((Nn.r 2 h792).F 1).b h792).F 1)
    obtain⟨h793,h⟩|⟨h793,h⟩:=aO h
    ·obtain⟨Se,h795,h⟩:=aE h;have Np:=(((((((((No.r 5 h793).i (ke tx 1 (dc xE))).b h793).o 1 1 .uq (cJ tx (dc xE))).b h793).g (nr h795)).F 1).b h793).F 1)
     obtain⟨h796,h⟩|⟨h796,h⟩:=aO h
     ·have h:=aQ h;subst h;exact(Np.b h796).ret hΓ
     ·exact((Np.b h796).a [.cn [1,3,4,5,6,7,8] [0,1,2,3,4]]).ct hΓ Ib (iS xE MM) (ih3 (i3+1) (dn xE) h)
    ·exact(((((No.r 7 h793).F 1).b h793).F 2).a [.cn [1,3,4,5,6,7,8] [0,1,2,3,4]]).ct hΓ Ib (iS xE MM) (ih3 (i3+1) (dn xE) h)
   ·exact(((((Nn.r 2 h792).F 1).b h792).F 12).a [.cn [1,3,4,5,6,7,8] [0,1,2,3,4]]).ct hΓ Ib (iS xE MM) (ih3 (i3+1) (dn xE) h)
theorem yT(hΓ:Γ.nt=145){aF:aH}{nx:aC}{r:Bool}{k1:Option Bool}(jX:k1=some r->Ax Γ N f11 (.q [[none]] (D.bool r)) [1,1,1,1] ⟨[(1,D.ptr 0 0),(3,D.acc 1)],[Ob.box (aH.c aF),Ob.row .uq 9 1 (nx.map tx)]⟩)(hm1:aF.conds.length<=maxLen):∀(rest:aj) (i1:Nat),aF.conds.drop i1=rest->gM aF nx k1 rest i1=some r->Ar Γ N f11 (.q [[none]] (D.bool r)) [1,1,1,0,1,0] (rest.length+1) (zj aF nx (i1:Int)):=by
 intro rest
 induction rest with
 |nil=>
  intro i1 bM h;rw[gM]at h;refine aW fun N1 fI eM=>?_
  exact((aX.ge aK.c bM).a [.hl 0 [1,3] [0,1]]).ex hΓ fI (jX h)
 |cons cN fK ih1=>
  intro i1 bM h;rw[gM]at h;refine aW fun N1 fI eM=>?_
  obtain⟨SZ,h644,h⟩:=aE h;have Nq:=(((aX.lt aK.c bM).l (cA aK.c 5 (dc bM) rfl)).g (iO h644))
  obtain⟨h645,h⟩|⟨h645,h⟩:=aO h
  ·have h:=aQ h;subst h;exact((((Nq.r 3 h645).a [bF,bF,bF]).r 2 h645).T 1).ret hΓ
  ·have Nr:=(Nq.r 3 h645)
   obtain⟨h646,h⟩|⟨h646,h⟩:=aO h
   ·have Ns:=((((Nr.r 3 h646).b h645).b h646).b h645)
    obtain⟨h647,h⟩|⟨h647,h⟩:=aO h
    ·have h:=aQ h;subst h;exact(Ns.b h647).ret hΓ
    ·obtain⟨zT,h649,h⟩:=aE h;obtain⟨uZ,h651,h⟩:=aE h;obtain⟨h722,h⟩:=bp h;refine((((Ns.b h647).g (fV h649)).g (kG h651)).a [.cn [1,3,4,5,6,7,8] [0,1,2,3,4]]).lp hΓ (yU hΓ (fun h=>?_) (bV h722) uZ 0 rfl h);exact(aX.a [.cn [1,3,4] [0,1]]).ct hΓ eM (iS bM hm1) (ih1 (i1+1) (dn bM) h)
   ·obtain⟨zU,h724,h⟩:=aE h;obtain⟨ua,h726,h⟩:=aE h;obtain⟨h797,h⟩:=bp h;refine((((((((Nr.r 3 h646).b h645).b h646).b h645).F 1).g (fV h724)).g (kG h726)).a [.cn [1,3,4,5,6,7,8] [0,1,2,3,4]]).lp hΓ (yV hΓ (fun h=>?_) (bV h797) ua 0 rfl h);exact(aX.a [.cn [1,3,4] [0,1]]).ct hΓ eM (iS bM hm1) (ih1 (i1+1) (dn bM) h)
def zm(aF:aH)(nx:aC)(iw:Int):St:=⟨[(1,D.ptr 0 0),(3,D.acc 1),(10,D.int .i64 iw)],[Ob.box (aH.c aF),Ob.row .uq 9 1 (nx.map tx)]⟩
def zn(aF:aH)(nx:aC)(i4:Nat)(zV:aC)(iw:Int):St:=⟨[(1,D.ptr 0 0),(3,D.acc 1),(10,D.int .i64 (i4:Int)),(11,D.acc 2),(12,D.int .i64 iw)],[Ob.box (aH.c aF),Ob.row .uq 9 1 (nx.map tx),Ob.row .uq 9 1 (zV.map tx)]⟩
theorem yX(hΓ:Γ.nt=145){aF:aH}{nx:aC}{i4:Nat}{zV:aC}{r:Bool}{k5:Option Bool}(Vy:k5=some r->Ax Γ N f11 (.q [[none]] (D.bool r)) [1,1,1,1,0,1,0,0,1,1] ⟨[(1,D.ptr 0 0),(3,D.acc 1),(10,D.int .i64 (i4:Int))],[Ob.box (aH.c aF),Ob.row .uq 9 1 (nx.map tx)]⟩)(WZ:zV.length<=maxLen):∀(rest:aC) (i5:Nat),zV.drop i5=rest->iQ aF nx i4 zV k5 rest i5=some r->Ar Γ N f11 (.q [[none]] (D.bool r)) [1,1,1,1,0,1,0,0,1,0,0,1,1,1,0] (rest.length+1) (zn aF nx i4 zV (i5:Int)):=by
 intro rest
 induction rest with
 |nil=>
  intro i5 Oa h;rw[iQ]at h;refine aW fun N5 Ut Uu=>?_
  exact((aX.ge tx Oa).a [.hl 3 [1,3,10] [0,1]]).ex hΓ Ut (Vy h)
 |cons VW VX ih5=>
  intro i5 Oa h;rw[iQ]at h;refine aW fun N5 Ut Uu=>?_
  obtain⟨Sg,h953,h⟩:=aE h;have Nt:=((((aX.lt tx Oa).i (ke tx 1 (dc Oa))).o 1 1 .uq (cJ tx (dc Oa))).g (fW h953))
  obtain⟨h954,h⟩|⟨h954,h⟩:=aO h
  ·have h:=aQ h;subst h;exact(Nt.b h954).ret hΓ
  ·exact((Nt.b h954).a [.cn [1,3,10,11,12] [0,1,2]]).ct hΓ Uu (iS Oa WZ) (ih5 (i5+1) (dn Oa) h)
theorem yW(hΓ:Γ.nt=145){aF:aH}{nx:aC}{r:Bool}{k4:Option Bool}(TF:k4=some r->Ax Γ N f11 (.q [[none]] (D.bool r)) [1,1,1,1,1] ⟨[(1,D.ptr 0 0)],[Ob.box (aH.c aF)]⟩)(Tq:aF.bR.length<=maxLen):∀(rest:cV) (i4:Nat),aF.bR.drop i4=rest->iP aF nx k4 rest i4=some r->Ar Γ N f11 (.q [[none]] (D.bool r)) [1,1,1,1,0,1,0] (rest.length+1) (zm aF nx (i4:Int)):=by
 intro rest
 induction rest with
 |nil=>
  intro i4 FW h;rw[iP]at h;refine aW fun N4 Qn Qo=>?_
  exact((aX.ge Action.c FW).a [.hl 0 [1] [0]]).ex hΓ Qn (TF h)
 |cons QR SQ ih4=>
  intro i4 FW h;rw[iP]at h;refine aW fun N4 Qn Qo=>?_
  obtain⟨Sf,h927,h⟩:=aE h;have Nu:=(((aX.lt Action.c FW).l (cA Action.c 3 (dc FW) rfl)).g (vJ h927))
  obtain⟨h928,h⟩|⟨h928,h⟩:=aO h
  ·have h:=aQ h;subst h;exact(Nu.b h928).ret hΓ
  ·obtain⟨zV,h930,h⟩:=aE h;obtain⟨h955,h⟩:=bp h;refine((((Nu.b h928).l (cA Action.c 3 (dc FW) rfl)).g (jm h930)).a [.cn [1,3,10,11,12] [0,1,2]]).lp hΓ (yX hΓ (fun h=>?_) (bV h955) zV 0 rfl h);exact(aX.a [.cn [1,3,10] [0,1]]).ct hΓ Qo (iS FW Tq) (ih4 (i4+1) (dn FW) h)
theorem dG{aF:aH}{r:Bool}(h:iY aF=some r):Good prog 11 [D.agg (aH.c aF)] (D.bool r):=by
 refine gd func11 [[none]] 145 fun hr Γ hΓ=>?_
 rw[iY]at h;obtain⟨y1,h2,h⟩:=aE h;obtain⟨h3,h⟩|⟨h3,h⟩:=aO h
 ·have h:=aQ h;subst h;exact(((aX.g (lH h2)).r 5 h3).T 13).ret hΓ
 ·obtain⟨y4,h5,h⟩:=aE h;have Nv:=((((aX.g (lH h2)).r 3 h3).g (fH h5)).r 2 h3)
  obtain⟨h6,h⟩|⟨h6,h⟩:=aO h
  ·have h:=aQ h;subst h;exact((Nv.r 6 h6).T 7).ret hΓ
  ·obtain⟨y7,h8,h⟩:=aE h;have Nw:=(((Nv.r 4 h6).g (fH h8)).r 2 h6)
   obtain⟨h9,h⟩|⟨h9,h⟩:=aO h
   ·have h:=aQ h;subst h;exact((Nw.r 6 h9).T 1).ret hΓ
   ·obtain⟨wF,h11,h⟩:=aE h;have Nx:=(((Nw.r 4 h9).g (fH h11)).r 2 h9)
    obtain⟨h12,h⟩|⟨h12,h⟩:=aO h
    ·have h:=aQ h;subst h;exact(Nx.b h12).ret hΓ
    ·obtain⟨nx,h14,h⟩:=aE h;refine(((Nx.b h12).g (fV h14)).a [.cn [1,3,4] [0,1]]).lp hΓ (yT hΓ (fun h=>?_) (by have:=(kj.sl (kj.agg (hr _ (aD (i:=0) rfl)) (.sl (aF.conds.map aK.c)) (by simp))).1;simpa using this) aF.conds 0 rfl h);refine(aX.a [.cn [1,3,10] [0,1]]).lp hΓ (yW hΓ (fun h=>?_) (by have:=(kj.sl (kj.agg (hr _ (aD (i:=0) rfl)) (.sl (aF.bR.map Action.c)) (by simp))).1;simpa using this) aF.bR 0 rfl h);obtain⟨Si,h957,h⟩:=aE h;cases h;exact(aX.g (vN h957)).ret hΓ
def k8(aF:Bytes)(bB:Bytes)(k1:Int->aC->Option aC):Nat->Int->Int->aC->Option aC
 |0,_,_,_=>none
 |n1+1,iW,tU,bt=>(bif decide ((IntKind.i64.wrap (tU+(bB.length:Int)):Int)<=(aF.length:Int))then((rQ aF.length (some (D.int .i64 tU)) (some (D.int .i64 (IntKind.i64.wrap (tU+(bB.length:Int)))))).bind fun p=>(fun Ua Um=>(bif ((aF.take Um).drop Ua:Bytes)==bB then((rQ aF.length (some (D.int .i64 iW)) (some (D.int .i64 tU))).bind fun p=>(fun QH QM=>(bif room ((bt.map tx).length+([[D.str ((aF.take QM).drop QH)]]).length) 16 then(k8 aF bB k1 n1 (IntKind.i64.wrap (tU+(bB.length:Int))) (IntKind.i64.wrap (tU+(bB.length:Int))) (bt++([(aF.take QM).drop QH])))else none)) p.1 p.2)else(k8 aF bB k1 n1 iW (IntKind.i64.wrap (tU+1)) bt))) p.1 p.2)else(k1 iW bt))
def gi(aF:Bytes)(bB:Bytes):Option aC:=(bif (bB:Bytes)==([])then(bif room (([]:List aG).length+([[D.str aF]]).length) 16 then(some (([]:aC)++([aF])))else none)else(k8 aF bB (fun(Bu:Int) (eA:aC)=>((rQ aF.length (some (D.int .i64 Bu)) none).bind fun p=>(fun Rh SM=>(bif room ((eA.map tx).length+([[D.str ((aF.take SM).drop Rh)]]).length) 16 then(some (eA++([(aF.take SM).drop Rh])))else none)) p.1 p.2)) fuel 0 0 ([]:aC)))
def th(aF:Bytes)(bB:Bytes)(iW:Int)(tU:Int)(W2:List aG):St:=⟨[(0,D.str aF),(1,D.str bB),(5,D.acc 0),(6,D.int .i64 iW),(7,D.int .i64 tU)],[Ob.row .uq 9 1 W2]⟩
theorem zo(hΓ:Γ.nt=51){aF:Bytes}{bB:Bytes}{r:aC}{k1:Int->aC->Option aC}(jX:∀(Bu:Int) (eA:aC),k1 Bu eA=some r->Ax Γ N f110 (.q [[some (9,1)]] (D.fr 9 1 (r.map tx))) [1,1,1,1,1] ⟨[(0,D.str aF),(5,D.acc 0),(6,D.int .i64 Bu)],[Ob.row .uq 9 1 (eA.map tx)]⟩):∀(n1:Nat) (iW:Int) (tU:Int) (bt:aC),k8 aF bB k1 n1 iW tU bt=some r->Ar Γ N f110 (.q [[some (9,1)]] (D.fr 9 1 (r.map tx))) [1,1,1,1,0,1,0] n1 (th aF bB iW tU (bt.map tx)):=by
 intro n
 induction n with
 |zero=>intro iW tU bt h;simp[k8]at h
 |succ n1 ih1=>
  intro iW tU bt h;rw[k8]at h;refine aW fun N1 fI eM=>?_
  obtain⟨h48,h⟩|⟨h48,h⟩:=aO h
  ·obtain⟨⟨Ua,Um⟩,h51,h⟩:=aE h;have lN:=(((aX.b h48).w h51).a [.cut Ua Um])
   obtain⟨h52,h⟩|⟨h52,h⟩:=aO h
   ·obtain⟨⟨QH,QM⟩,h55,h⟩:=aE h;obtain⟨h56,h⟩:=bp h;exact((((lN.b h52).w h55).w (cD h56)).a [.cut QH QM,.cn [0,1,5,6,7] [2]]).cs hΓ eM (th aF bB (IntKind.i64.wrap (tU+(bB.length:Int))) (IntKind.i64.wrap (tU+(bB.length:Int))) ((bt.map tx)++([[D.str ((aF.take QM).drop QH)]]))) (by first| (simp only[mA]<;>rfl)| (simp only[mA,ar.c,bh.c,aK.c,Action.c,aH.c,iX.c,jE.c,bS.c,Node.c,bA.c,jR.c]<;>rfl)) (ih1 (IntKind.i64.wrap (tU+(bB.length:Int))) (IntKind.i64.wrap (tU+(bB.length:Int))) (bt++([(aF.take QM).drop QH])) h)
   ·exact((lN.b h52).a [.cn [0,1,5,6,7] [0]]).cf hΓ eM (ih1 iW (IntKind.i64.wrap (tU+1)) bt h)
  ·exact((aX.b h48).a [.hl 0 [0,5,6] [0]]).ex hΓ fI (jX iW bt h)
theorem eD{aF:Bytes}{bB:Bytes}{r:aC}(h:gi aF bB=some r):Good prog 110 [D.str aF,D.str bB] (D.fr 9 1 (r.map tx)):=by
 refine gd func110 [[some (9,1)]] 51 fun hr Γ hΓ=>?_
 rw[gi]at h;obtain⟨h1,h⟩|⟨h1,h⟩:=aO h
 ·obtain⟨h2,h⟩:=bp h;cases h;exact(((aX.a [.G2 4]).b h1).w (cD h2)).rts hΓ (D.fr 9 1 (([]:List aG)++([[D.str aF]]))) (by first|rfl| (simp only[mA]<;>rfl))
 ·refine(((aX.a [.G2 4]).b h1).a [.cn [0,1,5,6,7] [1]]).lp hΓ (zo hΓ (fun Bu eA h=>?_) fuel 0 0 ([]:aC) h);obtain⟨⟨Rh,SM⟩,h59,h⟩:=aE h;obtain⟨h60,h⟩:=bp h;cases h;exact(((aX.w h59).w (cD h60)).a [.cut Rh SM]).rts hΓ (D.fr 9 1 ((eA.map tx)++([[D.str ((aF.take SM).drop Rh)]]))) (by first|rfl| (simp only[mA]<;>rfl)| (simp only[mA,bN]<;>rfl))
def eX(k1:Option Bytes):Nat->Int->Bytes->Option Bytes
 |0,_,_=>none
 |n1+1,vv,fD=>(bif decide (0<=(vv:Int))&&decide (0<(10:Int))then(bif decide (([UInt8.ofNat (IntKind.u8.wrap (IntKind.i64.wrap (48+((vv:Int)%10)))).toNat]:Bytes).length+(fD:Bytes).length<=maxLen)then(bif decide (0<=(vv:Int))&&decide (0<(10:Int))then(bif ((vv:Int)/10:Int)==0 then(some (([UInt8.ofNat (IntKind.u8.wrap (IntKind.i64.wrap (48+((vv:Int)%10)))).toNat])++fD))else(eX k1 n1 ((vv:Int)/10) (([UInt8.ofNat (IntKind.u8.wrap (IntKind.i64.wrap (48+((vv:Int)%10)))).toNat])++fD)))else none)else none)else none)
def eP:Nat->Int->Option Bytes
 |0,_=>none
 |m_+1,aF=>(bif (aF:Int)==(-9223372036854775808)then(some ([45,57,50,50,51,51,55,50,48,51,54,56,53,52,55,55,53,56,48,56]))else(bif decide ((aF:Int)<0)then((eP m_ (IntKind.i64.wrap (0-aF))).bind fun y3=>(bif decide (([45]:Bytes).length+(y3:Bytes).length<=maxLen)then(some (([45])++y3))else none))else(eX none fuel aF ([]))))
def uO(vv:Int)(fD:Bytes):St:=⟨[(0,D.int .i64 vv),(3,D.str fD)],[]⟩
theorem tL(hΓ:Γ.nt=25){r:Bytes}{k1:Option Bytes}(jX:k1=some r->Ax Γ N f51 (.q [[none]] (D.str r)) [1,1,1,1,0,0] ⟨[],[]⟩):∀(n1:Nat) (vv:Int) (fD:Bytes),eX k1 n1 vv fD=some r->Ar Γ N f51 (.q [[none]] (D.str r)) [1,1,1,1,0] n1 (uO vv fD):=by
 intro n
 induction n with
 |zero=>intro vv fD h;simp[eX]at h
 |succ n1 ih1=>
  intro vv fD h;rw[eX]at h;refine aW fun N1 fI eM=>?_
  obtain⟨h14,h⟩:=bp h;obtain⟨h15,h⟩:=bp h;obtain⟨h16,h⟩:=bp h;have lN:=(((aX.w (Bi .i64 h14)).w (bV h15)).w (Bi .i64 h16))
  obtain⟨h17,h⟩|⟨h17,h⟩:=aO h
  ·cases h;exact(lN.b h17).rts hΓ (D.str (([UInt8.ofNat (IntKind.u8.wrap (IntKind.i64.wrap (48+((vv:Int)%10)))).toNat])++fD)) (by first|rfl| (simp only[mA]<;>rfl))
  ·exact((lN.b h17).a [.cn [0,3] []]).cf hΓ eM (ih1 ((vv:Int)/10) (([UInt8.ofNat (IntKind.u8.wrap (IntKind.i64.wrap (48+((vv:Int)%10)))).toNat])++fD) h)
theorem sL{m_:Nat}(Ww:∀ {aF:Int} {r:Bytes},eP m_ aF=some r->Good prog 51 [D.int .i64 aF] (D.str r)){aF:Int}{r:Bytes}(h:eP (m_+1) aF=some r):Good prog 51 [D.int .i64 aF] (D.str r):=by
 refine gd func51 [[none]] 25 fun hr Γ hΓ=>?_
 rw[eP]at h;obtain⟨h1,h⟩|⟨h1,h⟩:=aO h
 ·cases h;exact(aX.b h1).ret hΓ
 ·obtain⟨h2,h⟩|⟨h2,h⟩:=aO h
  ·obtain⟨y3,h4,h⟩:=aE h;obtain⟨h5,h⟩:=bp h;cases h;exact((((aX.b h1).b h2).g (Ww h4)).w (bV h5)).rts hΓ (D.str (([45])++y3)) (by first|rfl| (simp only[mA]<;>rfl))
  ·refine(((aX.b h1).b h2).a [.cn [0,3] []]).lp hΓ (tL hΓ (fun h=>?_) fuel aF ([]) h);cases h
theorem nq:∀(m_:Nat) {aF:Int} {r:Bytes},eP m_ aF=some r->Good prog 51 [D.int .i64 aF] (D.str r)
 |0,_,_,h=>by cases h
 |m_+1,_,_,h=>sL (fun h=>nq m_ h) h
def jd(aF:Int):Option Bytes:=eP fuel aF
theorem ju{aF:Int}{r:Bytes}(h:jd aF=some r):Good prog 51 [D.int .i64 aF] (D.str r):=nq fuel h
def jl(aF:Bytes)(k1:Int->Option (Int×Bool)):Nat->Int->Int->Option (Int×Bool)
 |0,_,_=>none
 |n1+1,l8,rE=>(bif decide ((rE:Int)<(aF.length:Int))then((lg aF rE).bind fun Qd=>(bif decide ((Qd.toNat:Int)<48)then(some (0,false))else(bif decide ((Qd.toNat:Int)>57)then(some (0,false))else(jl aF k1 n1 (IntKind.i64.wrap ((IntKind.i64.wrap (10*l8))+(IntKind.i64.wrap (IntKind.u8.wrap (Qd.toNat-48))))) (IntKind.i64.wrap (rE+1))))))else(k1 l8))
def pR(aF:Bytes):Option (Int×Bool):=((iD (aF.length:Int) 1 4).bind fun y1=>(bif !(y1)then(some (0,false))else(jl aF (fun(IZ:Int)=>((jd IZ).bind fun FB=>(bif !((FB:Bytes)==aF)then(some (0,false))else(some (IZ,true))))) fuel 0 0)))
def xU(aF:Bytes)(l8:Int)(rE:Int):St:=⟨[(0,D.str aF),(4,D.int .i64 l8),(5,D.int .i64 rE)],[]⟩
theorem wW(hΓ:Γ.nt=39){aF:Bytes}{r:Int×Bool}{k1:Int->Option (Int×Bool)}(jX:∀(IZ:Int),k1 IZ=some r->Ax Γ N f111 (.q [[none],[none]] (D.iz [D.int .i64 r.1,D.bool r.2])) [1,1,1,1] ⟨[(0,D.str aF),(4,D.int .i64 IZ)],[]⟩):∀(n1:Nat) (l8:Int) (rE:Int),jl aF k1 n1 l8 rE=some r->Ar Γ N f111 (.q [[none],[none]] (D.iz [D.int .i64 r.1,D.bool r.2])) [1,1,1,0,1,0] n1 (xU aF l8 rE):=by
 intro n
 induction n with
 |zero=>intro l8 rE h;simp[jl]at h
 |succ n1 ih1=>
  intro l8 rE h;rw[jl]at h;refine aW fun N1 fI eM=>?_
  obtain⟨h24,h⟩|⟨h24,h⟩:=aO h
  ·obtain⟨Qd,h26,h⟩:=aE h;have nF:=((aX.b h24).c h26)
   obtain⟨h27,h⟩|⟨h27,h⟩:=aO h
   ·cases h;exact((nF.r 5 h27).T 1).ret hΓ
   ·have n7:=(((nF.r 3 h27).c h26).r 2 h27)
    obtain⟨h28,h⟩|⟨h28,h⟩:=aO h
    ·cases h;exact(n7.b h28).ret hΓ
    ·exact(((n7.b h28).c h26).a [.cn [0,4,5] []]).cf hΓ eM (ih1 (IntKind.i64.wrap ((IntKind.i64.wrap (10*l8))+(IntKind.i64.wrap (IntKind.u8.wrap (Qd.toNat-48))))) (IntKind.i64.wrap (rE+1)) h)
  ·exact((aX.b h24).a [.hl 0 [0,4] []]).ex hΓ fI (jX l8 h)
theorem vM{aF:Bytes}{r:Int×Bool}(h:pR aF=some r):Good prog 111 [D.str aF] (D.iz [D.int .i64 r.1,D.bool r.2]):=by
 refine gd func111 [[none],[none]] 39 fun hr Γ hΓ=>?_
 rw[pR]at h;obtain⟨y1,h2,h⟩:=aE h;obtain⟨h3,h⟩|⟨h3,h⟩:=aO h
 ·cases h;exact((aX.g (fH h2)).b h3).ret hΓ
 ·refine(((aX.g (fH h2)).b h3).a [.cn [0,4,5] []]).lp hΓ (wW hΓ (fun IZ h=>?_) fuel 0 0 h);obtain⟨FB,h30,h⟩:=aE h;obtain⟨h31,h⟩|⟨h31,h⟩:=aO h
  ·cases h;exact((aX.g (ju h30)).b h31).ret hΓ
  ·cases h;exact((aX.g (ju h30)).b h31).ret hΓ
def s9(aF:Int):Option Bytes:=(bif (aF:Int)==3 then(some ([32,61,32]))else(bif (aF:Int)==4 then(some ([32,33,61,32]))else(some ([32,60,32]))))
theorem xa{aF:Int}{r:Bytes}(h:s9 aF=some r):Good prog 157 [D.int .i64 aF] (D.str r):=by
 refine gd func157 [[none]] 8 fun hr Γ hΓ=>?_
 rw[s9]at h;obtain⟨h1,h⟩|⟨h1,h⟩:=aO h
 ·cases h;exact(aX.b h1).ret hΓ
 ·obtain⟨h2,h⟩|⟨h2,h⟩:=aO h
  ·cases h;exact((aX.b h1).b h2).ret hΓ
  ·cases h;exact((aX.b h1).b h2).ret hΓ
def qp(aF:Bytes):Option (Bytes×aC×Bool):=((gi aF ([40])).bind fun y1=>(bif (((y1.map tx).length:Int):Int) != 2 then(some ([],[],false))else((lg y1 (1:Int)).bind fun x4=>(bif ((x4.length:Int):Int)==0 then(some ([],[],false))else((lg x4 (IntKind.i64.wrap ((x4.length:Int)-1))).bind fun b7=>(bif (b7.toNat:Int) != 41 then(some ([],[],false))else((rQ x4.length none (some (D.int .i64 (IntKind.i64.wrap ((x4.length:Int)-1))))).bind fun p=>(fun l10 Sw=>(bif ((x4.take Sw).drop l10:Bytes)==([])then((lg y1 (0:Int)).bind fun x14=>(some (x14,([]:aC),true)))else((lg y1 (0:Int)).bind fun x16=>((gi ((x4.take Sw).drop l10) ([44])).bind fun SR=>(some (x16,SR,true)))))) p.1 p.2)))))))
theorem qB{aF:Bytes}{r:Bytes×aC×Bool}(h:qp aF=some r):Good prog 168 [D.str aF] (D.iz [D.str r.1,D.fr 9 1 (r.2.1.map tx),D.bool r.2.2]):=by
 refine gd func168 [[none],[some (9,1)],[none]] 51 fun hr Γ hΓ=>?_
 rw[qp]at h;obtain⟨y1,h2,h⟩:=aE h;have nE:=((aX.g (eD h2)).a [.n 19])
 obtain⟨h3,h⟩|⟨h3,h⟩:=aO h
 ·cases h;exact((nE.r 6 h3).T 12).ret hΓ
 ·obtain⟨x4,h5,h⟩:=aE h;have lN:=(((((nE.r 2 h3).i (gU tx 1 h5)).b h3).o 1 1 .uq (cJ tx (eT h5))).r 3 h3)
  obtain⟨h6,h⟩|⟨h6,h⟩:=aO h
  ·cases h;exact((lN.r 11 h6).T 1).ret hΓ
  ·obtain⟨b7,h8,h⟩:=aE h;have nF:=(((((((((((lN.r 2 h6).i (gU tx 1 h5)).b h6).o 1 1 .uq (cJ tx (eT h5))).r 2 h6).i (gU tx 1 h5)).b h6).o 1 1 .uq (cJ tx (eT h5))).r 3 h6).c h8).r 2 h6)
   obtain⟨h9,h⟩|⟨h9,h⟩:=aO h
   ·cases h;exact(nF.b h9).ret hΓ
   ·obtain⟨⟨l10,Sw⟩,h12,h⟩:=aE h;have n7:=((((((((nF.b h9).a [.n 8]).i (gU tx 1 h5)).o 1 1 .uq (cJ tx (eT h5))).i (gU tx 1 h5)).o 1 1 .uq (cJ tx (eT h5))).w h12).a [.cut l10 Sw])
    obtain⟨h13,h⟩|⟨h13,h⟩:=aO h
    ·obtain⟨x14,h15,h⟩:=aE h;cases h;exact(((n7.b h13).i (gU tx 1 h15)).o 1 1 .uq (cJ tx (eT h15))).ret hΓ
    ·obtain⟨x16,h17,h⟩:=aE h;obtain⟨SR,h19,h⟩:=aE h;cases h;exact(((((n7.b h13).a [.n 5]).i (gU tx 1 h17)).o 1 1 .uq (cJ tx (eT h17))).g (eD h19)).ret hΓ
def fP(aF:Bytes):Option (ar×Bool):=((qp aF).bind fun y1=>(bif !(y1.2.2)then(some ((⟨[],[]⟩:ar),false))else((fG (⟨y1.1,y1.2.1⟩:ar)).bind fun y4=>(bif !(y4)then(some ((⟨[],[]⟩:ar),false))else(some ((⟨y1.1,y1.2.1⟩:ar),true))))))
theorem fY{aF:Bytes}{r:ar×Bool}(h:fP aF=some r):Good prog 158 [D.str aF] (D.iz [D.agg [D.str r.1.rel,D.fr 9 1 (r.1.args.map tx)],D.bool r.2]):=by
 refine gd func158 [[none,some (9,1)],[none]] 26 fun hr Γ hΓ=>?_
 rw[fP]at h;obtain⟨y1,h2,h⟩:=aE h;obtain⟨h3,h⟩|⟨h3,h⟩:=aO h
 ·cases h;exact(((aX.g (qB h2)).r 4 h3).T 1).ret hΓ
 ·obtain⟨y4,h5,h⟩:=aE h;have nE:=(((((aX.g (qB h2)).r 2 h3).a [.d (D.bool y4)]).w (show Good prog 63 [D.agg [D.str y1.1,D.sl (y1.2.1.map tx)]] (D.bool y4)from by first| (simpa only[az,ax,bg,bN,bU]using eY h5)|exact eY h5| (have t:=eY h5;simp only[az,bN,bU,ar.c]at t;exact t))).r 2 h3)
  obtain⟨h6,h⟩|⟨h6,h⟩:=aO h
  ·cases h;exact(nE.b h6).ret hΓ
  ·cases h;exact(nE.b h6).ret hΓ
def hG(aF:Bytes)(k1:Option (aK×Bool)):Nat->Int->Option (aK×Bool)
 |0,_=>none
 |n1+1,l8=>(bif decide ((l8:Int)<=5)then((s9 l8).bind fun uY=>((gi aF uY).bind fun xJ=>(bif (((xJ.map tx).length:Int):Int)==2 then((lg xJ (0:Int)).bind fun x33=>((lg xJ (1:Int)).bind fun x35=>((kP (⟨l8,(⟨[],[]⟩:ar),x33,x35⟩:aK)).bind fun IX=>(bif IX then(some ((⟨l8,(⟨[],[]⟩:ar),x33,x35⟩:aK),true))else(hG aF k1 n1 (IntKind.i64.wrap (l8+1)))))))else(hG aF k1 n1 (IntKind.i64.wrap (l8+1))))))else(k1))
def oV(aF:Bytes):Option (aK×Bool):=(hG aF (bif decide (((aF.length:Int):Int)>4)then((rQ aF.length none (some (D.int .i64 4))).bind fun p=>(fun UY Uk=>(bif ((aF.take Uk).drop UY:Bytes)==([110,111,116,32])then((rQ aF.length (some (D.int .i64 4)) none).bind fun p=>(fun UZ Ul=>((fP ((aF.take Ul).drop UZ)).bind fun Un=>(bif !(Un.2)then(some ((⟨0,(⟨[],[]⟩:ar),[],[]⟩:aK),false))else(some ((⟨2,Un.1,[],[]⟩:aK),true))))) p.1 p.2)else((fP aF).bind fun Uo=>(bif !(Uo.2)then(some ((⟨0,(⟨[],[]⟩:ar),[],[]⟩:aK),false))else(some ((⟨1,Uo.1,[],[]⟩:aK),true)))))) p.1 p.2)else((fP aF).bind fun AY=>(bif !(AY.2)then(some ((⟨0,(⟨[],[]⟩:ar),[],[]⟩:aK),false))else(some ((⟨1,AY.1,[],[]⟩:aK),true))))) fuel 3)
def wV(aF:Bytes)(l8:Int):St:=⟨[(0,D.str aF),(2,D.ptr 0 0),(4,D.int .i64 l8)],[Ob.box [D.int .i64 0,D.str ([]),D.nil,D.str ([]),D.str ([])]]⟩
theorem vL(hΓ:Γ.nt=55){aF:Bytes}{r:aK×Bool}{k1:Option (aK×Bool)}(jX:k1=some r->Ax Γ N f136 (.q [[none,none,some (9,1),none,none],[none]] (D.iz [D.agg [D.int .i64 r.1.kind,D.str r.1.pat.rel,D.fr 9 1 (r.1.pat.args.map tx),D.str r.1.left,D.str r.1.right],D.bool r.2])) [1,1] ⟨[(0,D.str aF),(2,D.ptr 0 0)],[Ob.box [D.int .i64 0,D.str ([]),D.nil,D.str ([]),D.str ([])]]⟩):∀(n1:Nat) (l8:Int),hG aF k1 n1 l8=some r->Ar Γ N f136 (.q [[none,none,some (9,1),none,none],[none]] (D.iz [D.agg [D.int .i64 r.1.kind,D.str r.1.pat.rel,D.fr 9 1 (r.1.pat.args.map tx),D.str r.1.left,D.str r.1.right],D.bool r.2])) [1,0,1,0] n1 (wV aF l8):=by
 intro n
 induction n with
 |zero=>intro l8 h;simp[hG]at h
 |succ n1 ih1=>
  intro l8 h;rw[hG]at h;refine aW fun N1 fI eM=>?_
  obtain⟨h27,h⟩|⟨h27,h⟩:=aO h
  ·obtain⟨uY,h29,h⟩:=aE h;obtain⟨xJ,h31,h⟩:=aE h;have nF:=(((aX.b h27).g (xa h29)).g (eD h31))
   obtain⟨h32,h⟩|⟨h32,h⟩:=aO h
   ·obtain⟨x33,h34,h⟩:=aE h;obtain⟨x35,h36,h⟩:=aE h;obtain⟨IX,h38,h⟩:=aE h;have n7:=((((((((nF.b h32).a [.n 9]).i (gU tx 1 h34)).o 1 1 .uq (cJ tx (eT h34))).i (gU tx 1 h36)).o 1 1 .uq (cJ tx (eT h36))).a [.d (D.bool IX)]).w (show Good prog 26 [D.agg [D.int .i64 l8,D.str ([]),D.sl ([]),D.str x33,D.str x35]] (D.bool IX)from by first| (simpa only[az,ax,bg,bN,bU]using iO h38)|exact iO h38| (have t:=iO h38;simp only[az,bN,bU,aK.c]at t;exact t)))
    obtain⟨h39,h⟩|⟨h39,h⟩:=aO h
    ·cases h;exact(n7.b h39).ret hΓ
    ·exact((n7.b h39).a [.cn [0,2,4] [0]]).cf hΓ eM (ih1 (IntKind.i64.wrap (l8+1)) h)
   ·exact((nF.b h32).a [.cn [0,2,4] [0]]).cf hΓ eM (ih1 (IntKind.i64.wrap (l8+1)) h)
  ·exact((aX.b h27).a [.hl 0 [0,2] [0]]).ex hΓ fI (jX h)
theorem uP{aF:Bytes}{r:aK×Bool}(h:oV aF=some r):Good prog 136 [D.str aF] (D.iz [D.agg [D.int .i64 r.1.kind,D.str r.1.pat.rel,D.fr 9 1 (r.1.pat.args.map tx),D.str r.1.left,D.str r.1.right],D.bool r.2]):=by
 refine gd func136 [[none,none,some (9,1),none,none],[none]] 55 fun hr Γ hΓ=>?_
 rw[oV]at h;refine(aX.a [.cn [0,2,4] [0]]).lp hΓ (vL hΓ (fun h=>?_) fuel 3 h);obtain⟨h40,h⟩|⟨h40,h⟩:=aO h
 ·obtain⟨⟨UY,Uk⟩,h43,h⟩:=aE h;have zE:=((((aX.r 2 h40).w h43).a [.cut UY Uk]).r 2 h40)
  obtain⟨h44,h⟩|⟨h44,h⟩:=aO h
  ·obtain⟨⟨UZ,Ul⟩,h47,h⟩:=aE h;obtain⟨Un,h49,h⟩:=aE h;have Bf:=((((zE.b h44).w h47).a [.cut UZ Ul]).g (fY h49))
   obtain⟨h50,h⟩|⟨h50,h⟩:=aO h
   ·cases h;exact(Bf.b h50).ret hΓ
   ·cases h;exact(Bf.b h50).ret hΓ
  ·obtain⟨Uo,h52,h⟩:=aE h;have Eo:=((zE.b h44).g (fY h52))
   obtain⟨h53,h⟩|⟨h53,h⟩:=aO h
   ·cases h;exact(Eo.b h53).ret hΓ
   ·cases h;exact(Eo.b h53).ret hΓ
 ·obtain⟨AY,h55,h⟩:=aE h;have KU:=(((aX.r 4 h40).F 1).g (fY h55))
  obtain⟨h56,h⟩|⟨h56,h⟩:=aO h
  ·cases h;exact(KU.b h56).ret hΓ
  ·cases h;exact(KU.b h56).ret hΓ
def pS(aF:Bytes):Option (Action×Bool):=(bif (aF:Bytes)==([115,116,111,112])then(some ((⟨3,(⟨[],[]⟩:ar)⟩:Action),true))else((gi aF ([32])).bind fun y2=>(bif (((y2.map tx).length:Int):Int) != 2 then(some ((⟨0,(⟨[],[]⟩:ar)⟩:Action),false))else((lg y2 (0:Int)).bind fun x5=>(bif !((x5:Bytes)==([97,100,100]))then(bif !((x5:Bytes)==([100,114,111,112]))then(some ((⟨0,(⟨[],[]⟩:ar)⟩:Action),false))else((lg y2 (1:Int)).bind fun x9=>((fP x9).bind fun CN=>(bif (x5:Bytes)==([97,100,100])then(some ((⟨1,CN.1⟩:Action),CN.2))else(some ((⟨2,CN.1⟩:Action),CN.2))))))else((lg y2 (1:Int)).bind fun x14=>((fP x14).bind fun F6=>(bif (x5:Bytes)==([97,100,100])then(some ((⟨1,F6.1⟩:Action),F6.2))else(some ((⟨2,F6.1⟩:Action),F6.2))))))))))
theorem vQ{aF:Bytes}{r:Action×Bool}(h:pS aF=some r):Good prog 137 [D.str aF] (D.iz [D.agg [D.int .i64 r.1.kind,D.str r.1.pat.rel,D.fr 9 1 (r.1.pat.args.map tx)],D.bool r.2]):=by
 refine gd func137 [[none,none,some (9,1)],[none]] 45 fun hr Γ hΓ=>?_
 rw[pS]at h;obtain⟨h1,h⟩|⟨h1,h⟩:=aO h
 ·cases h;exact(aX.b h1).ret hΓ
 ·obtain⟨y2,h3,h⟩:=aE h;have nE:=((aX.b h1).g (eD h3))
  obtain⟨h4,h⟩|⟨h4,h⟩:=aO h
  ·cases h;exact((((nE.r 5 h4).a [bF,bF,bF,bF]).r 2 h4).T 1).ret hΓ
  ·obtain⟨x5,h6,h⟩:=aE h;have lN:=(((((nE.r 2 h4).i (gU tx 1 h6)).b h4).o 1 1 .uq (cJ tx (eT h6))).r 2 h4)
   obtain⟨h7,h⟩|⟨h7,h⟩:=aO h
   ·have nF:=((((((((lN.r 2 h7).i (gU tx 1 h6)).b h7).o 1 1 .uq (cJ tx (eT h6))).b h7).b h4).b h7).b h4)
    obtain⟨h8,h⟩|⟨h8,h⟩:=aO h
    ·cases h;exact(nF.b h8).ret hΓ
    ·obtain⟨x9,h10,h⟩:=aE h;obtain⟨CN,h12,h⟩:=aE h;have n7:=((((((nF.b h8).i (gU tx 1 h10)).o 1 1 .uq (cJ tx (eT h10))).g (fY h12)).i (gU tx 1 h6)).o 1 1 .uq (cJ tx (eT h6)))
     obtain⟨h13,h⟩|⟨h13,h⟩:=aO h
     ·cases h;exact(n7.b h13).ret hΓ
     ·cases h;exact(n7.b h13).ret hΓ
   ·obtain⟨x14,h15,h⟩:=aE h;obtain⟨F6,h17,h⟩:=aE h;have zE:=((((((((((lN.r 4 h7).b h4).b h7).b h4).F 1).i (gU tx 1 h15)).o 1 1 .uq (cJ tx (eT h15))).g (fY h17)).i (gU tx 1 h6)).o 1 1 .uq (cJ tx (eT h6)))
    obtain⟨h18,h⟩|⟨h18,h⟩:=aO h
    ·cases h;exact(zE.b h18).ret hΓ
    ·cases h;exact(zE.b h18).ret hΓ
def kJ(aF:aH)(jF:Bytes)(y1:aC)(k1:aj->Option (aH×Bool)):aC->Nat->aj->Option (aH×Bool)
 | [],i1,dH=>(k1 dH)
 |cN::fK,i1,dH=>((oV cN).bind fun HR=>(bif !(HR.2)then(some ((⟨aF.name,aF.prio,dH,[]⟩:aH),false))else(bif room ((dH.map aK.c).length+([[D.int .i64 HR.1.kind,D.str HR.1.pat.rel,D.sl (HR.1.pat.args.map tx),D.str HR.1.left,D.str HR.1.right]]).length) 80 then(kJ aF jF y1 k1 fK (i1+1) (dH++([HR.1])))else none)))
def kK(aF:aH)(mO:aj)(CP:aC)(k2:cV->Option (aH×Bool)):aC->Nat->cV->Option (aH×Bool)
 | [],i2,mH=>(k2 mH)
 |wv::yC,i2,mH=>((pS wv).bind fun yE=>(bif !(yE.2)then(some ((⟨aF.name,aF.prio,mO,mH⟩:aH),false))else(bif room ((mH.map Action.c).length+([[D.int .i64 yE.1.kind,D.str yE.1.pat.rel,D.sl (yE.1.pat.args.map tx)]]).length) 48 then(kK aF mO CP k2 yC (i2+1) (mH++([yE.1])))else none)))
def qw(aF:aH)(bB:Bytes)(jF:Bytes):Option (aH×Bool):=((gi bB ([32,38,32])).bind fun y1=>(bif decide (y1.length<=maxLen)then(kJ aF jF y1 (fun(mO:aj)=>((gi jF ([32,38,32])).bind fun CP=>(bif decide (CP.length<=maxLen)then(kK aF mO CP (fun(rR:cV)=>((iY (⟨aF.name,aF.prio,mO,rR⟩:aH)).bind fun Sy=>(some ((⟨aF.name,aF.prio,mO,rR⟩:aH),Sy)))) CP 0 ([]:cV))else none))) y1 0 ([]:aj))else none))
def rW(aF:aH)(jF:Bytes)(y1:aC)(W0:List aG)(iw:Int):St:=⟨[(2,D.str jF),(3,D.ptr 0 0),(6,D.ptr 1 0),(8,D.acc 2),(9,D.int .i64 iw)],[Ob.box [D.str aF.name,D.int .i64 aF.prio,D.acc 3,D.nil],Ob.box [D.str ([]),D.int .i64 0,D.nil,D.nil],Ob.row .uq 9 1 (y1.map tx),Ob.row .uq 41 5 W0]⟩
theorem xf(hΓ:Γ.nt=69){aF:aH}{jF:Bytes}{y1:aC}{r:aH×Bool}{k1:aj->Option (aH×Bool)}(jX:∀(mO:aj),k1 mO=some r->Ax Γ N f112 (.q [[none,none,some (41,5),some (71,3)],[none]] (D.iz [D.agg [D.str r.1.name,D.int .i64 r.1.prio,D.fr 41 5 (r.1.conds.map aK.c),D.fr 71 3 (r.1.bR.map Action.c)],D.bool r.2])) [1,1,1] ⟨[(2,D.str jF),(3,D.ptr 0 0),(6,D.ptr 1 0)],[Ob.box [D.str aF.name,D.int .i64 aF.prio,D.acc 2,D.nil],Ob.box [D.str ([]),D.int .i64 0,D.nil,D.nil],Ob.row .uq 41 5 (mO.map aK.c)]⟩)(hm1:y1.length<=maxLen):∀(rest:aC) (i1:Nat) (dH:aj),y1.drop i1=rest->kJ aF jF y1 k1 rest i1 dH=some r->Ar Γ N f112 (.q [[none,none,some (41,5),some (71,3)],[none]] (D.iz [D.agg [D.str r.1.name,D.int .i64 r.1.prio,D.fr 41 5 (r.1.conds.map aK.c),D.fr 71 3 (r.1.bR.map Action.c)],D.bool r.2])) [1,1,0,1,0] (rest.length+1) (rW aF jF y1 (dH.map aK.c) (i1:Int)):=by
 intro rest
 induction rest with
 |nil=>
  intro i1 dH bM h;rw[kJ]at h;refine aW fun N1 fI eM=>?_
  exact((aX.ge tx bM).a [.hl 0 [2,3,6] [0,1,3]]).ex hΓ fI (jX dH h)
 |cons cN fK ih1=>
  intro i1 dH bM h;rw[kJ]at h;refine aW fun N1 fI eM=>?_
  obtain⟨HR,h36,h⟩:=aE h;have nF:=((((aX.lt tx bM).i (ke tx 1 (dc bM))).o 1 1 .uq (cJ tx (dc bM))).g (uP h36))
  obtain⟨h37,h⟩|⟨h37,h⟩:=aO h
  ·cases h;exact(nF.b h37).ret hΓ
  ·obtain⟨h38,h⟩:=bp h;exact(((nF.b h37).w (cD h38)).a [.cn [2,3,6,8,9] [0,1,2,7]]).cs hΓ eM (rW aF jF y1 ((dH.map aK.c)++([[D.int .i64 HR.1.kind,D.str HR.1.pat.rel,D.sl (HR.1.pat.args.map tx),D.str HR.1.left,D.str HR.1.right]])) (IntKind.i64.wrap ((i1:Int)+1))) (by first| (simp only[iS bM hm1,mA]<;>rfl)| (simp only[iS bM hm1,mA,ar.c,bh.c,aK.c,Action.c,aH.c,iX.c,jE.c,bS.c,Node.c,bA.c,jR.c]<;>rfl)) (ih1 (i1+1) (dH++([HR.1])) (dn bM) h)
def rX(aF:aH)(mO:aj)(CP:aC)(W0:List aG)(iw:Int):St:=⟨[(3,D.ptr 0 0),(6,D.ptr 1 0),(12,D.acc 2),(13,D.int .i64 iw)],[Ob.box [D.str aF.name,D.int .i64 aF.prio,D.acc 3,D.acc 4],Ob.box [D.str ([]),D.int .i64 0,D.nil,D.nil],Ob.row .uq 9 1 (CP.map tx),Ob.row .uq 41 5 (mO.map aK.c),Ob.row .uq 71 3 W0]⟩
theorem xg(hΓ:Γ.nt=69){aF:aH}{mO:aj}{CP:aC}{r:aH×Bool}{k2:cV->Option (aH×Bool)}(D6:∀(rR:cV),k2 rR=some r->Ax Γ N f112 (.q [[none,none,some (41,5),some (71,3)],[none]] (D.iz [D.agg [D.str r.1.name,D.int .i64 r.1.prio,D.fr 41 5 (r.1.conds.map aK.c),D.fr 71 3 (r.1.bR.map Action.c)],D.bool r.2])) [1,1,1,1,1] ⟨[(3,D.ptr 0 0),(6,D.ptr 1 0)],[Ob.box [D.str aF.name,D.int .i64 aF.prio,D.acc 2,D.acc 3],Ob.box [D.str ([]),D.int .i64 0,D.nil,D.nil],Ob.row .uq 41 5 (mO.map aK.c),Ob.row .uq 71 3 (rR.map Action.c)]⟩)(hm2:CP.length<=maxLen):∀(rest:aC) (i2:Nat) (mH:cV),CP.drop i2=rest->kK aF mO CP k2 rest i2 mH=some r->Ar Γ N f112 (.q [[none,none,some (41,5),some (71,3)],[none]] (D.iz [D.agg [D.str r.1.name,D.int .i64 r.1.prio,D.fr 41 5 (r.1.conds.map aK.c),D.fr 71 3 (r.1.bR.map Action.c)],D.bool r.2])) [1,1,1,1,0,1,0] (rest.length+1) (rX aF mO CP (mH.map Action.c) (i2:Int)):=by
 intro rest
 induction rest with
 |nil=>
  intro i2 mH hd2 h;rw[kK]at h;refine aW fun N2 zW wA=>?_
  exact((aX.ge tx hd2).a [.hl 0 [3,6] [0,1,3,4]]).ex hΓ zW (D6 mH h)
 |cons wv yC ih2=>
  intro i2 mH hd2 h;rw[kK]at h;refine aW fun N2 zW wA=>?_
  obtain⟨yE,h74,h⟩:=aE h;have n7:=((((aX.lt tx hd2).i (ke tx 1 (dc hd2))).o 1 1 .uq (cJ tx (dc hd2))).g (vQ h74))
  obtain⟨h75,h⟩|⟨h75,h⟩:=aO h
  ·cases h;exact(n7.b h75).ret hΓ
  ·obtain⟨h76,h⟩:=bp h;exact(((n7.b h75).w (cD h76)).a [.cn [3,6,12,13] [0,1,2,3,8]]).cs hΓ wA (rX aF mO CP ((mH.map Action.c)++([[D.int .i64 yE.1.kind,D.str yE.1.pat.rel,D.sl (yE.1.pat.args.map tx)]])) (IntKind.i64.wrap ((i2:Int)+1))) (by first| (simp only[iS hd2 hm2,mA]<;>rfl)| (simp only[iS hd2 hm2,mA,ar.c,bh.c,aK.c,Action.c,aH.c,iX.c,jE.c,bS.c,Node.c,bA.c,jR.c]<;>rfl)) (ih2 (i2+1) (mH++([yE.1])) (dn hd2) h)
theorem nC{aF:aH}{bB:Bytes}{jF:Bytes}{r:aH×Bool}(h:qw aF bB jF=some r):Good prog 112 [D.agg [D.str aF.name,D.int .i64 aF.prio,D.nil,D.nil],D.str bB,D.str jF] (D.iz [D.agg [D.str r.1.name,D.int .i64 r.1.prio,D.fr 41 5 (r.1.conds.map aK.c),D.fr 71 3 (r.1.bR.map Action.c)],D.bool r.2]):=by
 refine gd func112 [[none,none,some (41,5),some (71,3)],[none]] 69 fun hr Γ hΓ=>?_
 rw[qw]at h;obtain⟨y1,h2,h⟩:=aE h;obtain⟨h80,h⟩:=bp h;refine((aX.g (eD h2)).a [.pb 0 2 41 5,.cn [2,3,6,8,9] [0,1,2,3]]).lp hΓ (xf hΓ (fun mO h=>?_) (bV h80) y1 0 ([]:aj) rfl h);obtain⟨CP,h40,h⟩:=aE h;obtain⟨h79,h⟩:=bp h;refine((aX.g (eD h40)).a [.pb 0 3 71 3,.cn [3,6,12,13] [0,1,3,2,4]]).lp hΓ (xg hΓ (fun rR h=>?_) (bV h79) CP 0 ([]:cV) rfl h);obtain⟨Sy,h78,h⟩:=aE h;cases h;exact((aX.a [.n 3,.d (D.bool Sy)]).w (show Good prog 11 [D.agg [D.str aF.name,D.int .i64 aF.prio,D.sl (mO.map aK.c),D.sl (rR.map Action.c)]] (D.bool Sy)from by first| (simpa only[az,ax,bg,bN,bU]using dG h78)|exact dG h78| (have t:=dG h78;simp only[az,bN,bU,aH.c]at t;exact t))).ret hΓ
def je(aF:Bytes):Option (aH×Bool):=((gi aF ([58,32])).bind fun y1=>(bif (((y1.map tx).length:Int):Int) != 2 then(some ((⟨[],0,[],[]⟩:aH),false))else((lg y1 (0:Int)).bind fun x4=>((gi x4 ([32])).bind fun y6=>((lg y1 (1:Int)).bind fun x8=>((gi x8 ([32,45,62,32])).bind fun wF=>(bif (((y6.map tx).length:Int):Int) != 2 then(some ((⟨[],0,[],[]⟩:aH),false))else(bif (((wF.map tx).length:Int):Int) != 2 then(some ((⟨[],0,[],[]⟩:aH),false))else((lg y6 (1:Int)).bind fun x14=>((pR x14).bind fun F6=>(bif !(F6.2)then(some ((⟨[],0,[],[]⟩:aH),false))else((lg y6 (0:Int)).bind fun x19=>((lg wF (0:Int)).bind fun x21=>((lg wF (1:Int)).bind fun x23=>((qw (⟨x19,F6.1,[],[]⟩:aH) x21 x23).bind fun o5=>(bif !(o5.2)then(some ((⟨[],0,[],[]⟩:aH),false))else(some (o5.1,true))))))))))))))))))
theorem uQ{aF:Bytes}{r:aH×Bool}(h:je aF=some r):Good prog 84 [D.str aF] (D.iz [D.agg [D.str r.1.name,D.int .i64 r.1.prio,D.fr 41 5 (r.1.conds.map aK.c),D.fr 71 3 (r.1.bR.map Action.c)],D.bool r.2]):=by
 refine gd func84 [[none,none,some (41,5),some (71,3)],[none]] 63 fun hr Γ hΓ=>?_
 rw[je]at h;obtain⟨y1,h2,h⟩:=aE h;obtain⟨h3,h⟩|⟨h3,h⟩:=aO h
 ·cases h;exact((aX.g (eD h2)).b h3).ret hΓ
 ·obtain⟨x4,h5,h⟩:=aE h;obtain⟨y6,h7,h⟩:=aE h;obtain⟨x8,h9,h⟩:=aE h;obtain⟨wF,h11,h⟩:=aE h;have nE:=((((((((aX.g (eD h2)).b h3).i (gU tx 1 h5)).o 1 1 .uq (cJ tx (eT h5))).g (eD h7)).i (gU tx 1 h9)).o 1 1 .uq (cJ tx (eT h9))).g (eD h11))
  obtain⟨h12,h⟩|⟨h12,h⟩:=aO h
  ·cases h;exact((nE.r 4 h12).T 1).ret hΓ
  ·have lN:=(nE.r 4 h12)
   obtain⟨h13,h⟩|⟨h13,h⟩:=aO h
   ·cases h;exact(lN.b h13).ret hΓ
   ·obtain⟨x14,h15,h⟩:=aE h;obtain⟨F6,h17,h⟩:=aE h;have nF:=((((lN.b h13).i (gU tx 1 h15)).o 1 1 .uq (cJ tx (eT h15))).g (vM h17))
    obtain⟨h18,h⟩|⟨h18,h⟩:=aO h
    ·cases h;exact(nF.b h18).ret hΓ
    ·obtain⟨x19,h20,h⟩:=aE h;obtain⟨x21,h22,h⟩:=aE h;obtain⟨x23,h24,h⟩:=aE h;obtain⟨o5,h26,h⟩:=aE h;have n7:=((((((((((nF.b h18).a [.n 17]).i (gU tx 1 h20)).o 1 1 .uq (cJ tx (eT h20))).i (gU tx 1 h22)).o 1 1 .uq (cJ tx (eT h22))).i (gU tx 1 h24)).o 1 1 .uq (cJ tx (eT h24))).a [.nl (D.iz [D.agg [D.str o5.1.name,D.int .i64 o5.1.prio,D.fr 41 5 (o5.1.conds.map aK.c),D.fr 71 3 (o5.1.bR.map Action.c)],D.bool o5.2])]).w (show Good prog 112 [D.agg [D.str x19,D.int .i64 F6.1,D.nil,D.nil],D.str x21,D.str x23] (D.iz [D.agg [D.str o5.1.name,D.int .i64 o5.1.prio,D.fr 41 5 (o5.1.conds.map aK.c),D.fr 71 3 (o5.1.bR.map Action.c)],D.bool o5.2])from by first| (simpa only[az,ax,bg,bN,bU]using nC h26)|exact nC h26| (have t:=nC h26;simp only[az,bN,bU,aH.c]at t;exact t)))
     obtain⟨h27,h⟩|⟨h27,h⟩:=aO h
     ·cases h;exact(n7.b h27).ret hΓ
     ·cases h;exact(n7.b h27).ret hΓ
def fZ(aF:bz)(bB:Int):Option (bz×aH):=((cH aF (DK bB ((([[114,32,49,58,32,111,110,40,63,120,44,63,121,41,32,38,32,111,110,40,63,121,44,63,122,41,32,45,62,32,97,100,100,32,111,110,40,63,120,44,63,122,41],[114,32,50,58,32,111,110,40,63,120,44,63,121,41,32,38,32,112,40,63,121,41,32,45,62,32,97,100,100,32,112,40,63,120,41],[114,32,48,58,32,112,40,63,120,41,32,38,32,111,110,40,63,120,44,63,121,41,32,38,32,63,120,32,33,61,32,63,121,32,45,62,32,97,100,100,32,97,116,40,63,121,44,63,120,41],[114,32,51,58,32,97,116,40,63,120,44,63,121,41,32,38,32,112,40,63,120,41,32,38,32,112,40,63,121,41,32,38,32,63,120,32,60,32,63,121,32,45,62,32,97,100,100,32,122,40,41],[114,32,52,58,32,111,110,40,63,120,44,97,41,32,45,62,32,97,100,100,32,113,40,63,120,41,32,38,32,97,100,100,32,112,40,97,41],[114,32,49,58,32,97,116,40,63,120,44,63,120,41,32,38,32,113,40,49,41,32,45,62,32,97,100,100,32,111,110,40,63,120,44,49,41],[114,32,49,58,32,112,40,63,120,41,32,38,32,110,111,116,32,113,40,63,120,41,32,45,62,32,97,100,100,32,97,116,40,63,120,44,98,41],[114,32,50,58,32,111,110,40,63,120,44,63,121,41,32,38,32,110,111,116,32,97,116,40,63,121,44,63,122,41,32,45,62,32,97,100,100,32,113,40,63,121,41],[114,32,53,58,32,97,116,40,63,120,44,63,121,41,32,38,32,110,111,116,32,112,40,63,121,41,32,38,32,63,120,32,33,61,32,63,121,32,45,62,32,97,100,100,32,122,40,41],[114,32,57,58,32,113,40,63,120,41,32,38,32,112,40,63,120,41,32,45,62,32,100,114,111,112,32,112,40,63,120,41],[114,32,48,58,32,97,116,40,63,120,44,49,41,32,38,32,97,116,40,63,121,44,50,41,32,38,32,63,120,32,61,32,63,121,32,45,62,32,100,114,111,112,32,97,116,40,63,120,44,49,41,32,38,32,115,116,111,112],[114,32,49,58,32,111,110,40,63,120,44,63,120,41,32,45,62,32,115,116,111,112],[114,32,55,58,32,122,40,41,32,38,32,111,110,40,63,120,44,63,121,41,32,45,62,32,100,114,111,112,32,122,40,41,32,38,32,97,100,100,32,111,110,40,63,121,44,63,120,41]]:aC).map tx).length:Int))).bind fun y1=>((lg ([[114,32,49,58,32,111,110,40,63,120,44,63,121,41,32,38,32,111,110,40,63,121,44,63,122,41,32,45,62,32,97,100,100,32,111,110,40,63,120,44,63,122,41],[114,32,50,58,32,111,110,40,63,120,44,63,121,41,32,38,32,112,40,63,121,41,32,45,62,32,97,100,100,32,112,40,63,120,41],[114,32,48,58,32,112,40,63,120,41,32,38,32,111,110,40,63,120,44,63,121,41,32,38,32,63,120,32,33,61,32,63,121,32,45,62,32,97,100,100,32,97,116,40,63,121,44,63,120,41],[114,32,51,58,32,97,116,40,63,120,44,63,121,41,32,38,32,112,40,63,120,41,32,38,32,112,40,63,121,41,32,38,32,63,120,32,60,32,63,121,32,45,62,32,97,100,100,32,122,40,41],[114,32,52,58,32,111,110,40,63,120,44,97,41,32,45,62,32,97,100,100,32,113,40,63,120,41,32,38,32,97,100,100,32,112,40,97,41],[114,32,49,58,32,97,116,40,63,120,44,63,120,41,32,38,32,113,40,49,41,32,45,62,32,97,100,100,32,111,110,40,63,120,44,49,41],[114,32,49,58,32,112,40,63,120,41,32,38,32,110,111,116,32,113,40,63,120,41,32,45,62,32,97,100,100,32,97,116,40,63,120,44,98,41],[114,32,50,58,32,111,110,40,63,120,44,63,121,41,32,38,32,110,111,116,32,97,116,40,63,121,44,63,122,41,32,45,62,32,97,100,100,32,113,40,63,121,41],[114,32,53,58,32,97,116,40,63,120,44,63,121,41,32,38,32,110,111,116,32,112,40,63,121,41,32,38,32,63,120,32,33,61,32,63,121,32,45,62,32,97,100,100,32,122,40,41],[114,32,57,58,32,113,40,63,120,41,32,38,32,112,40,63,120,41,32,45,62,32,100,114,111,112,32,112,40,63,120,41],[114,32,48,58,32,97,116,40,63,120,44,49,41,32,38,32,97,116,40,63,121,44,50,41,32,38,32,63,120,32,61,32,63,121,32,45,62,32,100,114,111,112,32,97,116,40,63,120,44,49,41,32,38,32,115,116,111,112],[114,32,49,58,32,111,110,40,63,120,44,63,120,41,32,45,62,32,115,116,111,112],[114,32,55,58,32,122,40,41,32,38,32,111,110,40,63,120,44,63,121,41,32,45,62,32,100,114,111,112,32,122,40,41,32,38,32,97,100,100,32,111,110,40,63,121,44,63,120,41]]:aC) y1.2).bind fun x3=>((je x3).bind fun y5=>(some (y1.1,y5.1)))))
theorem kY{aF:bz}{bB:Int}{r:bz×aH}(h:fZ aF bB=some r):iA prog 50 (bz.c aF) (bz.c r.1) [D.int .i64 bB] (D.agg [D.str r.2.name,D.int .i64 r.2.prio,D.fr 41 5 (r.2.conds.map aK.c),D.fr 71 3 (r.2.bR.map Action.c)]):=by
 refine Bw func50 [[none,none,none],[none,none,some (41,5),some (71,3)]] 23 [D.sl (aF.b.map yx),D.int .i64 aF.i,D.int .i64 aF.h] [D.int .i64 bB] [] fun hr kL Γ hΓ=>?_
 rw[fZ]at h;obtain⟨y1,h2,h⟩:=aE h;obtain⟨x3,h4,h⟩:=aE h;obtain⟨y5,h6,h⟩:=aE h;cases h;exact((((aX.hp [[none,none,none],[none]] (bw h2)).i (gU tx 1 h4)).o 1 1 .uq (cJ tx (eT h4))).g (uQ h6)).ret hΓ
def eo(y1:bz×Int)(k1:bC->Int->Int->aj->Option (bz×aH)):Nat->Int->bC->Int->Int->aj->Option (bz×aH)
 |0,_,_,_,_,_=>none
 |n1+1,l8,eS,cq,cr,dH=>(bif decide ((l8:Int)>0)then((kQ (⟨eS,cq,cr⟩:bz)).bind fun uY=>(bif room ((dH.map aK.c).length+([[D.int .i64 uY.2.kind,D.str uY.2.pat.rel,D.sl (uY.2.pat.args.map tx),D.str uY.2.left,D.str uY.2.right]]).length) 80 then(eo y1 k1 n1 (IntKind.i64.wrap (l8-1)) uY.1.b uY.1.i uY.1.h (dH++([uY.2])))else none))else(k1 eS cq cr dH))
def cI(y1:bz×Int)(gS:aj)(yD:aC)(rK:bz×ar)(k2:bC->Int->Int->aC->Option (bz×aH)):Nat->Int->bC->Int->Int->aC->Option (bz×aH)
 |0,_,_,_,_,_=>none
 |n2+1,sZ,oZ,nc,ng,oN=>(bif decide ((sZ:Int)<((oN.map tx).length:Int))then((lg oN sZ).bind fun x91=>((iZ x91).bind fun Vh=>(bif Vh then((dw yD x91).bind fun Vj=>(bif !(Vj)then((jS (⟨oZ,nc,ng⟩:bz)).bind fun vz=>(cI y1 gS yD rK k2 n2 (IntKind.i64.wrap (sZ+1)) vz.1.b vz.1.i vz.1.h (oN.set sZ.toNat vz.2)))else(cI y1 gS yD rK k2 n2 (IntKind.i64.wrap (sZ+1)) oZ nc ng oN)))else(cI y1 gS yD rK k2 n2 (IntKind.i64.wrap (sZ+1)) oZ nc ng oN))))else(k2 oZ nc ng oN))
def lZ(aF:bz):Option (bz×aH):=((cH aF 4).bind fun y1=>((fC y1.1).bind fun y3=>((cH y3.1 3).bind fun y5=>(eo y1 (fun(jM:bC) (jN:Int) (jO:Int) (gS:aj)=>((gL (⟨[114],y1.2,gS,[]⟩:aH) ((gS.map aK.c).length:Int)).bind fun yD=>((fC (⟨jM,jN,jO⟩:bz)).bind fun rK=>(cI y1 gS yD rK (fun(A6:bC) (A7:Int) (A8:Int) (rS:aC)=>((ff (⟨A6,A7,A8⟩:bz) ([1,1,2]:bC)).bind fun wz=>(bif room (([]:List aG).length+([[D.int .i64 wz.2,D.str rK.2.rel,D.sl (rS.map tx)]]).length) 48 then((jU wz.1 6).bind fun Ap=>(bif Ap.2 then(bif room ((([]:List aG)++([[D.int .i64 wz.2,D.str rK.2.rel,D.sl (rS.map tx)]])).length+([[D.int .i64 3,D.str ([]),D.sl ([])]]).length) 48 then((iY (⟨[114],y1.2,gS,(([]:cV)++([(⟨wz.2,(⟨rK.2.rel,rS⟩:ar)⟩:Action)]))++([(⟨3,(⟨[],[]⟩:ar)⟩:Action)])⟩:aH)).bind fun NA=>(bif !(NA)then((fZ Ap.1 99).bind fun Pt=>(some (Pt.1,Pt.2)))else(some (Ap.1,(⟨[114],y1.2,gS,(([]:cV)++([(⟨wz.2,(⟨rK.2.rel,rS⟩:ar)⟩:Action)]))++([(⟨3,(⟨[],[]⟩:ar)⟩:Action)])⟩:aH)))))else none)else((iY (⟨[114],y1.2,gS,([]:cV)++([(⟨wz.2,(⟨rK.2.rel,rS⟩:ar)⟩:Action)])⟩:aH)).bind fun NB=>(bif !(NB)then((fZ Ap.1 99).bind fun Pu=>(some (Pu.1,Pu.2)))else(some (Ap.1,(⟨[114],y1.2,gS,([]:cV)++([(⟨wz.2,(⟨rK.2.rel,rS⟩:ar)⟩:Action)])⟩:aH)))))))else none))) fuel 0 rK.1.b rK.1.i rK.1.h rK.2.args)))) fuel y5.2 y5.1.b y5.1.i y5.1.h ([(⟨1,y3.2,[],[]⟩:aK)])))))
def nY(kL:Value)(y1:bz×Int)(l8:Int)(cq:Int)(cr:Int)(W1:List aG)(W4:List aG):St:=⟨[(0,D.ptr 0 0),(2,D.ptr 1 0),(3,D.ptr 2 0),(4,D.int .i64 l8)],[Ob.yB [D.sl W1,D.int .i64 cq,D.int .i64 cr] kL,Ob.box [D.str ([]),D.int .i64 0,D.nil,D.nil],Ob.box [D.str ([114]),D.int .i64 y1.2,D.acc 3,D.nil],Ob.row .uq 41 5 W4]⟩
theorem wj(hΓ:Γ.nt=88){kL:Value}{y1:bz×Int}{r:bz×aH}{k1:bC->Int->Int->aj->Option (bz×aH)}(jX:∀(jM:bC) (jN:Int) (jO:Int) (gS:aj),k1 jM jN jO gS=some r->Ax Γ N f94 (.p [[none,none,none],[none,none,some (41,5),some (71,3)]] kL (bz.c r.1) (D.agg [D.str r.2.name,D.int .i64 r.2.prio,D.fr 41 5 (r.2.conds.map aK.c),D.fr 71 3 (r.2.bR.map Action.c)])) [1,1,1] ⟨[(0,D.ptr 0 0),(2,D.ptr 1 0),(3,D.ptr 2 0)],[Ob.yB [D.sl (jM.map yx),D.int .i64 jN,D.int .i64 jO] kL,Ob.box [D.str ([]),D.int .i64 0,D.nil,D.nil],Ob.box [D.str ([114]),D.int .i64 y1.2,D.acc 3,D.nil],Ob.row .uq 41 5 (gS.map aK.c)]⟩):∀(n1:Nat) (l8:Int) (eS:bC) (cq:Int) (cr:Int) (dH:aj),eo y1 k1 n1 l8 eS cq cr dH=some r->Ar Γ N f94 (.p [[none,none,none],[none,none,some (41,5),some (71,3)]] kL (bz.c r.1) (D.agg [D.str r.2.name,D.int .i64 r.2.prio,D.fr 41 5 (r.2.conds.map aK.c),D.fr 71 3 (r.2.bR.map Action.c)])) [1,1,0,1,0] n1 (nY kL y1 l8 cq cr (eS.map yx) (dH.map aK.c)):=by
 intro n
 induction n with
 |zero=>intro l8 eS cq cr dH h;simp[eo]at h
 |succ n1 ih1=>
  intro l8 eS cq cr dH h;rw[eo]at h;refine aW fun N1 fI eM=>?_
  obtain⟨h25,h⟩|⟨h25,h⟩:=aO h
  ·obtain⟨uY,h29,h⟩:=aE h;obtain⟨h30,h⟩:=bp h;exact(((((aX.b h25).a [.n2 [0,1,2,3,4,5,6,7] [0,1,2,3,4,5,6,7] 3 5 [0,1] [0,4],.gp [[none,none,none]] (bz.c uY.1) (D.agg [D.int .i64 uY.2.kind,D.str uY.2.pat.rel,D.fr 9 1 (uY.2.pat.args.map tx),D.str uY.2.left,D.str uY.2.right])]).w (show iA prog 108 (bz.c (⟨eS,cq,cr⟩:bz)) (bz.c uY.1) [] (D.agg [D.int .i64 uY.2.kind,D.str uY.2.pat.rel,D.fr 9 1 (uY.2.pat.args.map tx),D.str uY.2.left,D.str uY.2.right])from by simpa only[az,ax,bg,bN,bU]using qt h29)).w (cD h30)).a [.cn [0,2,3,4] [0,1,2,6]]).cs hΓ eM (nY kL y1 (IntKind.i64.wrap (l8-1)) uY.1.i uY.1.h (uY.1.b.map yx) ((dH.map aK.c)++([[D.int .i64 uY.2.kind,D.str uY.2.pat.rel,D.sl (uY.2.pat.args.map tx),D.str uY.2.left,D.str uY.2.right]]))) (by first| (simp only[mA]<;>rfl)| (simp only[mA,ar.c,bh.c,aK.c,Action.c,aH.c,iX.c,jE.c,bS.c,Node.c,bA.c,jR.c]<;>rfl)) (ih1 (IntKind.i64.wrap (l8-1)) uY.1.b uY.1.i uY.1.h (dH++([uY.2])) h)
  ·exact((aX.b h25).a [.hl 0 [0,2,3] [0,1,2,3]]).ex hΓ fI (jX eS cq cr dH h)
def qv(kL:Value)(y1:bz×Int)(gS:aj)(yD:aC)(rK:bz×ar)(sZ:Int)(nc:Int)(ng:Int)(W1:List aG)(W4:List aG):St:=⟨[(0,D.ptr 0 0),(2,D.ptr 1 0),(3,D.ptr 2 0),(5,D.acc 3),(6,D.ptr 4 0),(7,D.int .i64 sZ)],[Ob.yB [D.sl W1,D.int .i64 nc,D.int .i64 ng] kL,Ob.box [D.str ([]),D.int .i64 0,D.nil,D.nil],Ob.box [D.str ([114]),D.int .i64 y1.2,D.acc 5,D.nil],Ob.row .uq 9 1 (yD.map tx),Ob.box [D.str rK.2.rel,D.acc 6],Ob.row .uq 41 5 (gS.map aK.c),Ob.row .uq 9 1 W4]⟩
theorem wk(hΓ:Γ.nt=88){kL:Value}{y1:bz×Int}{gS:aj}{yD:aC}{rK:bz×ar}{r:bz×aH}{k2:bC->Int->Int->aC->Option (bz×aH)}(D6:∀(A6:bC) (A7:Int) (A8:Int) (rS:aC),k2 A6 A7 A8 rS=some r->Ax Γ N f94 (.p [[none,none,none],[none,none,some (41,5),some (71,3)]] kL (bz.c r.1) (D.agg [D.str r.2.name,D.int .i64 r.2.prio,D.fr 41 5 (r.2.conds.map aK.c),D.fr 71 3 (r.2.bR.map Action.c)])) [1,1,1,1,1,1] ⟨[(0,D.ptr 0 0),(2,D.ptr 1 0),(3,D.ptr 2 0),(6,D.ptr 3 0)],[Ob.yB [D.sl (A6.map yx),D.int .i64 A7,D.int .i64 A8] kL,Ob.box [D.str ([]),D.int .i64 0,D.nil,D.nil],Ob.box [D.str ([114]),D.int .i64 y1.2,D.acc 4,D.nil],Ob.box [D.str rK.2.rel,D.acc 5],Ob.row .uq 41 5 (gS.map aK.c),Ob.row .uq 9 1 (rS.map tx)]⟩):∀(n2:Nat) (sZ:Int) (oZ:bC) (nc:Int) (ng:Int) (oN:aC),cI y1 gS yD rK k2 n2 sZ oZ nc ng oN=some r->Ar Γ N f94 (.p [[none,none,none],[none,none,some (41,5),some (71,3)]] kL (bz.c r.1) (D.agg [D.str r.2.name,D.int .i64 r.2.prio,D.fr 41 5 (r.2.conds.map aK.c),D.fr 71 3 (r.2.bR.map Action.c)])) [1,1,1,1,1,0,1,0] n2 (qv kL y1 gS yD rK sZ nc ng (oZ.map yx) (oN.map tx)):=by
 intro n
 induction n with
 |zero=>intro sZ oZ nc ng oN h;simp[cI]at h
 |succ n2 ih2=>
  intro sZ oZ nc ng oN h;rw[cI]at h;refine aW fun N2 zW wA=>?_
  obtain⟨h90,h⟩|⟨h90,h⟩:=aO h
  ·obtain⟨x91,h92,h⟩:=aE h;obtain⟨Vh,h94,h⟩:=aE h;have nF:=((((aX.b h90).i (gU tx 1 h92)).o 1 1 .uq (cJ tx (eT h92))).g (j7 h94))
   obtain⟨h95,h⟩|⟨h95,h⟩:=aO h
   ·obtain⟨Vj,h97,h⟩:=aE h;have n7:=(((((((nF.r 5 h95).i (gU tx 1 h92)).b h95).o 1 1 .uq (cJ tx (eT h92))).b h95).g (fW h97)).r 2 h95)
    obtain⟨h98,h⟩|⟨h98,h⟩:=aO h
    ·obtain⟨vz,h102,h⟩:=aE h;exact((((((n7.b h98).a [.n2 [0,1,2,3,4,5,6] [0,1,2,3,4,5,6] 4 5 [0,1,2] [0],.gp [[none,none,none]] (bz.c vz.1) (D.str vz.2)]).w (show iA prog 119 (bz.c (⟨oZ,nc,ng⟩:bz)) (bz.c vz.1) [] (D.str vz.2)from by simpa only[az,ax,bg,bN,bU]using qo h102)).i (gU tx 1 h92)).w (show(oN.map tx)[sZ.toNat]?=some [D.str x91]from cJ tx (eT h92))).a [.row [D.str x91],.cn [0,2,3,5,6,7] [0,1,2,3,4,5,6]]).cs hΓ wA (qv kL y1 gS yD rK (IntKind.i64.wrap (sZ+1)) vz.1.i vz.1.h (vz.1.b.map yx) ((oN.map tx).set sZ.toNat [D.str vz.2])) (by first| (simp only[mA]<;>rfl)| (simp only[mA,ar.c,bh.c,aK.c,Action.c,aH.c,iX.c,jE.c,bS.c,Node.c,bA.c,jR.c]<;>rfl)) (ih2 (IntKind.i64.wrap (sZ+1)) vz.1.b vz.1.i vz.1.h (oN.set sZ.toNat vz.2) h)
    ·exact((n7.b h98).a [.cn [0,2,3,5,6,7] [0,1,2,3,4,5,6]]).cf hΓ wA (ih2 (IntKind.i64.wrap (sZ+1)) oZ nc ng oN h)
   ·exact(((nF.r 9 h95).F 1).a [.cn [0,2,3,5,6,7] [0,1,2,3,4,5,6]]).cf hΓ wA (ih2 (IntKind.i64.wrap (sZ+1)) oZ nc ng oN h)
  ·exact((aX.b h90).a [.hl 0 [0,2,3,6] [0,1,2,4,5,6]]).ex hΓ zW (D6 oZ nc ng oN h)
theorem vR{aF:bz}{r:bz×aH}(h:lZ aF=some r):iA prog 94 (bz.c aF) (bz.c r.1) [] (D.agg [D.str r.2.name,D.int .i64 r.2.prio,D.fr 41 5 (r.2.conds.map aK.c),D.fr 71 3 (r.2.bR.map Action.c)]):=by
 refine Bw func94 [[none,none,none],[none,none,some (41,5),some (71,3)]] 88 [D.sl (aF.b.map yx),D.int .i64 aF.i,D.int .i64 aF.h] [] [] fun hr kL Γ hΓ=>?_
 rw[lZ]at h;obtain⟨y1,h2,h⟩:=aE h;obtain⟨y3,h4,h⟩:=aE h;obtain⟨y5,h6,h⟩:=aE h;refine((((aX.hp [[none,none,none],[none]] (bw h2)).hp [[none,none,none]] (iT h4)).hp [[none,none,none],[none]] (bw h6)).a [.cn [0,2,3,4] [0,1,4,3]]).Ub hΓ (nY kL y1 y5.2 y5.1.i y5.1.h (y5.1.b.map yx) ([[D.int .i64 1,D.str y3.2.rel,D.sl (y3.2.args.map tx),D.str ([]),D.str ([])]])) (by first| (simp only[mA]<;>rfl)| (simp only[mA,ar.c,bh.c,aK.c,Action.c,aH.c,iX.c,jE.c,bS.c,Node.c,bA.c,jR.c]<;>rfl)) (wj hΓ (fun jM jN jO gS h=>?_) fuel y5.2 y5.1.b y5.1.i y5.1.h ([(⟨1,y3.2,[],[]⟩:aK)]) h);obtain⟨yD,h32,h⟩:=aE h;obtain⟨rK,h34,h⟩:=aE h;refine(((((aX.a [.d (D.fr 9 1 (yD.map tx))]).w (show Good prog 25 [D.agg [D.str ([114]),D.int .i64 y1.2,D.sl (gS.map aK.c),D.sl ([])],D.int .i64 ((gS.map aK.c).length:Int)] (D.fr 9 1 (yD.map tx))from by first| (simpa only[az,ax,bg,bN,bU]using fV h32)|exact fV h32| (have t:=fV h32;simp only[az,bN,bU,aH.c]at t;exact t))).a [.gp [[none,none,none]] (bz.c rK.1) (D.agg [D.str rK.2.rel,D.fr 9 1 (rK.2.args.map tx)])]).w (show iA prog 109 (bz.c (⟨jM,jN,jO⟩:bz)) (bz.c rK.1) [] (D.agg [D.str rK.2.rel,D.fr 9 1 (rK.2.args.map tx)])from by simpa only[az,ax,bg,bN,bU]using iT h34)).a [.cn [0,2,3,5,6,7] [0,1,2,4,6,3,5]]).lp hΓ (wk hΓ (fun A6 A7 A8 rS h=>?_) fuel 0 rK.1.b rK.1.i rK.1.h rK.2.args h);obtain⟨wz,h106,h⟩:=aE h;obtain⟨h107,h⟩:=bp h;obtain⟨Ap,h109,h⟩:=aE h;have zE:=((((aX.a [.n2 [0,1,2,3,5,4,6,7,8,9,10] [0,1,2,3,5,4,6,7,8,9,10] 5 8 [0,1,4] [0,5,6],.gp [[none,none,none],[some (3,1)]] (bz.c wz.1) (D.int .i64 wz.2)]).w (show iA prog 49 (bz.c (⟨A6,A7,A8⟩:bz)) (bz.c wz.1) [D.fr 3 1 (([1,1,2]:bC).map yA)] (D.int .i64 wz.2)from by simpa only[az,ax,bg,bN,bU]using gj h106)).w (cD h107)).hp [[none,none,none],[none]] (iR h109))
 obtain⟨h110,h⟩|⟨h110,h⟩:=aO h
 ·obtain⟨h111,h⟩:=bp h;obtain⟨NA,h113,h⟩:=aE h;have Bf:=((((zE.b h110).w (cD h111)).a [.d (D.bool NA)]).w (show Good prog 11 [D.agg [D.str ([114]),D.int .i64 y1.2,D.sl (gS.map aK.c),D.sl ((([]:List aG)++([[D.int .i64 wz.2,D.str rK.2.rel,D.sl (rS.map tx)]]))++([[D.int .i64 3,D.str ([]),D.sl ([])]]))]] (D.bool NA)from by first| (simpa only[az,ax,bg,bN,bU]using dG h113)|exact dG h113| (have t:=dG h113;simp only[az,bN,bU,aH.c]at t;exact t)))
  obtain⟨h114,h⟩|⟨h114,h⟩:=aO h
  ·obtain⟨Pt,h116,h⟩:=aE h;cases h;exact((Bf.b h114).hp [[none,none,none],[none]] (kY h116)).ret hΓ
  ·cases h;exact(Bf.b h114).rts hΓ (D.iz [D.agg [D.str ([114]),D.int .i64 y1.2,D.fr 41 5 (gS.map aK.c),D.fr 71 3 ((([]:List aG)++([[D.int .i64 wz.2,D.str rK.2.rel,D.sl (rS.map tx)]]))++([[D.int .i64 3,D.str ([]),D.sl ([])]]))],D.agg [D.sl (Ap.1.b.map yx),D.int .i64 Ap.1.i,D.int .i64 Ap.1.h],D.val kL]) (by first|rfl| (simp only[mA]<;>rfl))
 ·obtain⟨NB,h118,h⟩:=aE h;have Eo:=(((zE.b h110).a [.d (D.bool NB)]).w (show Good prog 11 [D.agg [D.str ([114]),D.int .i64 y1.2,D.sl (gS.map aK.c),D.sl (([]:List aG)++([[D.int .i64 wz.2,D.str rK.2.rel,D.sl (rS.map tx)]]))]] (D.bool NB)from by first| (simpa only[az,ax,bg,bN,bU]using dG h118)|exact dG h118| (have t:=dG h118;simp only[az,bN,bU,aH.c]at t;exact t)))
  obtain⟨h119,h⟩|⟨h119,h⟩:=aO h
  ·obtain⟨Pu,h121,h⟩:=aE h;cases h;exact((Eo.b h119).hp [[none,none,none],[none]] (kY h121)).ret hΓ
  ·cases h;exact(Eo.b h119).rts hΓ (D.iz [D.agg [D.str ([114]),D.int .i64 y1.2,D.fr 41 5 (gS.map aK.c),D.fr 71 3 (([]:List aG)++([[D.int .i64 wz.2,D.str rK.2.rel,D.sl (rS.map tx)]]))],D.agg [D.sl (Ap.1.b.map yx),D.int .i64 Ap.1.i,D.int .i64 Ap.1.h],D.val kL]) (by first|rfl| (simp only[mA]<;>rfl))
def ic(aF:bz):Option (bz×aH):=((jU aF 3).bind fun y1=>(bif y1.2 then((lZ y1.1).bind fun y4=>(some (y4.1,y4.2)))else((fZ y1.1 99).bind fun y6=>(some (y6.1,y6.2)))))
theorem qu{aF:bz}{r:bz×aH}(h:ic aF=some r):iA prog 58 (bz.c aF) (bz.c r.1) [] (D.agg [D.str r.2.name,D.int .i64 r.2.prio,D.fr 41 5 (r.2.conds.map aK.c),D.fr 71 3 (r.2.bR.map Action.c)]):=by
 refine Bw func58 [[none,none,none],[none,none,some (41,5),some (71,3)]] 9 [D.sl (aF.b.map yx),D.int .i64 aF.i,D.int .i64 aF.h] [] [] fun hr kL Γ hΓ=>?_
 rw[ic]at h;obtain⟨y1,h2,h⟩:=aE h;obtain⟨h3,h⟩|⟨h3,h⟩:=aO h
 ·obtain⟨y4,h5,h⟩:=aE h;cases h;exact(((aX.hp [[none,none,none],[none]] (iR h2)).b h3).hp [[none,none,none]] (vR h5)).ret hΓ
 ·obtain⟨y6,h7,h⟩:=aE h;cases h;exact(((aX.hp [[none,none,none],[none]] (iR h2)).b h3).hp [[none,none,none],[none]] (kY h7)).ret hΓ
def iE(k1:bC->Int->Int->aZ->Option (bz×aZ)):Nat->Int->bC->Int->Int->aZ->Option (bz×aZ)
 |0,_,_,_,_,_=>none
 |n1+1,iW,eS,cq,cr,cu=>(bif decide ((iW:Int)>0)then((ic (⟨eS,cq,cr⟩:bz)).bind fun o5=>((jd iW).bind fun rJ=>(bif decide (([114]:Bytes).length+(rJ:Bytes).length<=maxLen)then(bif room ((cu.map aH.c).length+([[D.str (([114])++rJ),D.int .i64 o5.2.prio,D.sl (o5.2.conds.map aK.c),D.sl (o5.2.bR.map Action.c)]]).length) 72 then(iE k1 n1 (IntKind.i64.wrap (iW-1)) o5.1.b o5.1.i o5.1.h (cu++([(⟨([114])++rJ,o5.2.prio,o5.2.conds,o5.2.bR⟩:aH)])))else none)else none)))else(k1 eS cq cr cu))
def oI(aF:bz)(bB:Int):Option (bz×aZ):=((cH aF (IntKind.i64.wrap (bB+1))).bind fun y1=>(iE (fun(jM:bC) (jN:Int) (jO:Int) (uW:aZ)=>(some ((⟨jM,jN,jO⟩:bz),uW))) fuel y1.2 y1.1.b y1.1.i y1.1.h ([]:aZ)))
def tj(kL:Value)(iW:Int)(cq:Int)(cr:Int)(W1:List aG)(W4:List aG):St:=⟨[(0,D.ptr 0 0),(5,D.acc 1),(6,D.int .i64 iW)],[Ob.yB [D.sl W1,D.int .i64 cq,D.int .i64 cr] kL,Ob.row .uq 31 4 W4]⟩
theorem zw(hΓ:Γ.nt=28){kL:Value}{r:bz×aZ}{k1:bC->Int->Int->aZ->Option (bz×aZ)}(jX:∀(jM:bC) (jN:Int) (jO:Int) (uW:aZ),k1 jM jN jO uW=some r->Ax Γ N f46 (.p [[none,none,none],[some (31,4)]] kL (bz.c r.1) (D.fr 31 4 (r.2.map aH.c))) [1,1,1] ⟨[(5,D.acc 1)],[Ob.yB [D.sl (jM.map yx),D.int .i64 jN,D.int .i64 jO] kL,Ob.row .uq 31 4 (uW.map aH.c)]⟩):∀(n1:Nat) (iW:Int) (eS:bC) (cq:Int) (cr:Int) (cu:aZ),iE k1 n1 iW eS cq cr cu=some r->Ar Γ N f46 (.p [[none,none,none],[some (31,4)]] kL (bz.c r.1) (D.fr 31 4 (r.2.map aH.c))) [1,1,0,1,0] n1 (tj kL iW cq cr (eS.map yx) (cu.map aH.c)):=by
 intro n
 induction n with
 |zero=>intro iW eS cq cr cu h;simp[iE]at h
 |succ n1 ih1=>
  intro iW eS cq cr cu h;rw[iE]at h;refine aW fun N1 fI eM=>?_
  obtain⟨h24,h⟩|⟨h24,h⟩:=aO h
  ·obtain⟨o5,h26,h⟩:=aE h;obtain⟨rJ,h28,h⟩:=aE h;obtain⟨h29,h⟩:=bp h;obtain⟨h30,h⟩:=bp h;exact(((((((aX.b h24).a [.gp [[none,none,none]] (bz.c o5.1) (D.agg [D.str o5.2.name,D.int .i64 o5.2.prio,D.fr 41 5 (o5.2.conds.map aK.c),D.fr 71 3 (o5.2.bR.map Action.c)])]).w (show iA prog 58 (bz.c (⟨eS,cq,cr⟩:bz)) (bz.c o5.1) [] (D.agg [D.str o5.2.name,D.int .i64 o5.2.prio,D.fr 41 5 (o5.2.conds.map aK.c),D.fr 71 3 (o5.2.bR.map Action.c)])from by simpa only[az,ax,bg,bN,bU]using qu h26)).g (ju h28)).w (bV h29)).w (cD h30)).a [.cn [0,5,6] [0,6]]).cs hΓ eM (tj kL (IntKind.i64.wrap (iW-1)) o5.1.i o5.1.h (o5.1.b.map yx) ((cu.map aH.c)++([[D.str (([114])++rJ),D.int .i64 o5.2.prio,D.sl (o5.2.conds.map aK.c),D.sl (o5.2.bR.map Action.c)]]))) (by first| (simp only[mA]<;>rfl)| (simp only[mA,ar.c,bh.c,aK.c,Action.c,aH.c,iX.c,jE.c,bS.c,Node.c,bA.c,jR.c]<;>rfl)) (ih1 (IntKind.i64.wrap (iW-1)) o5.1.b o5.1.i o5.1.h (cu++([(⟨([114])++rJ,o5.2.prio,o5.2.conds,o5.2.bR⟩:aH)])) h)
  ·exact((aX.b h24).a [.hl 0 [5] [0,1]]).ex hΓ fI (jX eS cq cr cu h)
theorem yh{aF:bz}{bB:Int}{r:bz×aZ}(h:oI aF bB=some r):iA prog 46 (bz.c aF) (bz.c r.1) [D.int .i64 bB] (D.fr 31 4 (r.2.map aH.c)):=by
 refine Bw func46 [[none,none,none],[some (31,4)]] 28 [D.sl (aF.b.map yx),D.int .i64 aF.i,D.int .i64 aF.h] [D.int .i64 bB] [] fun hr kL Γ hΓ=>?_
 rw[oI]at h;obtain⟨y1,h2,h⟩:=aE h;refine((aX.hp [[none,none,none],[none]] (bw h2)).a [.cn [0,5,6] [0,1]]).lp hΓ (zw hΓ (fun jM jN jO uW h=>?_) fuel y1.2 y1.1.b y1.1.i y1.1.h ([]:aZ) h);cases h;exact aX.ret hΓ
def jV(aF:bz):Option (bz×Bytes):=((jK aF ([[97],[98],[111,110],[55],[49,48],[57,57,57,57],[49,48,48,48,48],[48,48,55],[48],[],[65],[63,120],[63,63],[63],[97,98,99,100,101,102,103,104],[97,98,99,100,101,102,103,104,105],[63,97,98,99,100,101,102,103,104],[97,45,98],[120,49],[49,120],[45,51]]:aC)).bind fun y1=>(some (y1.1,y1.2)))
theorem lJ{aF:bz}{r:bz×Bytes}(h:jV aF=some r):iA prog 80 (bz.c aF) (bz.c r.1) [] (D.str r.2):=by
 refine Bw func80 [[none,none,none],[none]] 6 [D.sl (aF.b.map yx),D.int .i64 aF.i,D.int .i64 aF.h] [] [] fun hr kL Γ hΓ=>?_
 rw[jV]at h;obtain⟨y1,h2,h⟩:=aE h;cases h;exact(aX.hp [[none,none,none],[some (9,1)]] (kI h2)).ret hΓ
def mc(aF:bz):Option (bz×ar):=((fC aF).bind fun y1=>((cH y1.1 10).bind fun y3=>(bif (y3.2:Int)==0 then((jV y3.1).bind fun y6=>(some (y6.1,(⟨y6.2,y1.2.args⟩:ar))))else(bif (y3.2:Int)==1 then((jV y3.1).bind fun CN=>(bif room ((y1.2.args.map tx).length+([[D.str CN.2]]).length) 16 then(some (CN.1,(⟨y1.2.rel,y1.2.args++([CN.2])⟩:ar)))else none))else(bif (y3.2:Int)==2 then((cH y3.1 5).bind fun Ds=>(bif decide (0<=(Ds.2:Int))&&decide (Ds.2.toNat<=(([[63,120],[63,120],[63,121],[63,120]]:aC).map tx).length)then(some (Ds.1,(⟨y1.2.rel,([[63,120],[63,120],[63,121],[63,120]]:aC).take Ds.2.toNat⟩:ar)))else none))else(some (y3.1,y1.2)))))))
theorem rV{aF:bz}{r:bz×ar}(h:mc aF=some r):iA prog 82 (bz.c aF) (bz.c r.1) [] (D.agg [D.str r.2.rel,D.fr 9 1 (r.2.args.map tx)]):=by
 refine Bw func82 [[none,none,none],[none,some (9,1)]] 30 [D.sl (aF.b.map yx),D.int .i64 aF.i,D.int .i64 aF.h] [] [] fun hr kL Γ hΓ=>?_
 rw[mc]at h;obtain⟨y1,h2,h⟩:=aE h;obtain⟨y3,h4,h⟩:=aE h;have nE:=((aX.hp [[none,none,none]] (iT h2)).hp [[none,none,none],[none]] (bw h4))
 obtain⟨h5,h⟩|⟨h5,h⟩:=aO h
 ·obtain⟨y6,h7,h⟩:=aE h;cases h;exact((nE.b h5).hp [[none,none,none]] (lJ h7)).ret hΓ
 ·obtain⟨h8,h⟩|⟨h8,h⟩:=aO h
  ·obtain⟨CN,h12,h⟩:=aE h;obtain⟨h13,h⟩:=bp h;cases h;exact(((((nE.b h5).b h8).a [.n2 [0,1,2,3,4,5,6,7] [0,1,2,3,4,5,6,7] 3 5 [0,1] [0]]).hp [[none,none,none]] (lJ h12)).w (cD h13)).rts hΓ (D.iz [D.agg [D.str y1.2.rel,D.fr 9 1 ((y1.2.args.map tx)++([[D.str CN.2]]))],D.agg [D.sl (CN.1.b.map yx),D.int .i64 CN.1.i,D.int .i64 CN.1.h],D.val kL]) (by first|rfl| (simp only[mA]<;>rfl))
  ·have lN:=((nE.b h5).b h8)
   obtain⟨h14,h⟩|⟨h14,h⟩:=aO h
   ·obtain⟨Ds,h16,h⟩:=aE h;obtain⟨h17,h⟩:=bp h;cases h;exact((((lN.b h14).hp [[none,none,none],[none]] (bw h16)).w (OO h17)).a [.cut 0 Ds.2.toNat]).rts hΓ (D.iz [D.agg [D.str y1.2.rel,D.fr 9 1 ((([[63,120],[63,120],[63,121],[63,120]]:aC).map tx).take Ds.2.toNat)],D.agg [D.sl (Ds.1.b.map yx),D.int .i64 Ds.1.i,D.int .i64 Ds.1.h],D.val kL]) (by first|rfl| (simp only[mA]<;>rfl))
   ·cases h;exact(lN.b h14).ret hΓ
def oG(aF:bz):Option (bz×aK):=((kQ aF).bind fun y1=>((cH y1.1 12).bind fun y3=>(bif (y3.2:Int)==0 then((ff y3.1 ([0,1,3,5,6, -1]:bC)).bind fun y6=>(some (y6.1,(⟨y6.2,y1.2.pat,y1.2.left,y1.2.right⟩:aK))))else(bif (y3.2:Int)==1 then((jV y3.1).bind fun y9=>(some (y9.1,(⟨y1.2.kind,y1.2.pat,y9.2,y1.2.right⟩:aK))))else(bif (y3.2:Int)==2 then((mc y3.1).bind fun Li=>(some (Li.1,(⟨y1.2.kind,Li.2,y1.2.left,y1.2.right⟩:aK))))else(some (y3.1,y1.2)))))))
theorem yc{aF:bz}{r:bz×aK}(h:oG aF=some r):iA prog 81 (bz.c aF) (bz.c r.1) [] (D.agg [D.int .i64 r.2.kind,D.str r.2.pat.rel,D.fr 9 1 (r.2.pat.args.map tx),D.str r.2.left,D.str r.2.right]):=by
 refine Bw func81 [[none,none,none],[none,none,some (9,1),none,none]] 25 [D.sl (aF.b.map yx),D.int .i64 aF.i,D.int .i64 aF.h] [] [] fun hr kL Γ hΓ=>?_
 rw[oG]at h;obtain⟨y1,h2,h⟩:=aE h;obtain⟨y3,h4,h⟩:=aE h;have nE:=((aX.hp [[none,none,none]] (qt h2)).hp [[none,none,none],[none]] (bw h4))
 obtain⟨h5,h⟩|⟨h5,h⟩:=aO h
 ·obtain⟨y6,h7,h⟩:=aE h;cases h;exact((nE.b h5).hp [[none,none,none],[some (3,1)]] (gj h7)).ret hΓ
 ·obtain⟨h8,h⟩|⟨h8,h⟩:=aO h
  ·obtain⟨y9,h10,h⟩:=aE h;cases h;exact(((nE.b h5).b h8).hp [[none,none,none]] (lJ h10)).ret hΓ
  ·have lN:=((nE.b h5).b h8)
   obtain⟨h11,h⟩|⟨h11,h⟩:=aO h
   ·obtain⟨Li,h13,h⟩:=aE h;cases h;exact((lN.b h11).hp [[none,none,none]] (rV h13)).ret hΓ
   ·cases h;exact(lN.b h11).ret hΓ
def oH(aF:bz):Option (bz×aH):=((ic aF).bind fun y1=>((cH y1.1 14).bind fun y3=>(bif (y3.2:Int)==0 then((jV y3.1).bind fun y6=>(some (y6.1,(⟨y6.2,y1.2.prio,y1.2.conds,y1.2.bR⟩:aH))))else(bif (y3.2:Int)==1 then((ff y3.1 ([-1,0,9,10]:bC)).bind fun y9=>(some (y9.1,(⟨y1.2.name,y9.2,y1.2.conds,y1.2.bR⟩:aH))))else(bif (y3.2:Int)==2 then((oG y3.1).bind fun Bt=>(bif room ((y1.2.conds.map aK.c).length+([[D.int .i64 Bt.2.kind,D.str Bt.2.pat.rel,D.sl (Bt.2.pat.args.map tx),D.str Bt.2.left,D.str Bt.2.right]]).length) 80 then(some (Bt.1,(⟨y1.2.name,y1.2.prio,y1.2.conds++([Bt.2]),y1.2.bR⟩:aH)))else none))else(bif (y3.2:Int)==3 then((ff y3.1 ([0,1,2,3,4]:bC)).bind fun HQ=>((mc HQ.1).bind fun CO=>(bif room ((y1.2.bR.map Action.c).length+([[D.int .i64 HQ.2,D.str CO.2.rel,D.sl (CO.2.args.map tx)]]).length) 48 then(some (CO.1,(⟨y1.2.name,y1.2.prio,y1.2.conds,y1.2.bR++([(⟨HQ.2,CO.2⟩:Action)])⟩:aH)))else none)))else(bif (y3.2:Int)==4 then((rQ (y1.2.conds.map aK.c).length (some (D.int .i64 1)) none).bind fun p=>(fun Rf SK=>(some (y3.1,(⟨y1.2.name,y1.2.prio,(y1.2.conds.take SK).drop Rf,y1.2.bR⟩:aH)))) p.1 p.2)else(bif (y3.2:Int)==5 then((rQ (y1.2.bR.map Action.c).length (some (D.int .i64 1)) none).bind fun p=>(fun Rg SL=>(some (y3.1,(⟨y1.2.name,y1.2.prio,y1.2.conds,(y1.2.bR.take SL).drop Rg⟩:aH)))) p.1 p.2)else(bif (y3.2:Int)==6 then((jK y3.1 ([[63,102],[63,97],[63,103]]:aC)).bind fun Dt=>((ff Dt.1 ([1,2]:bC)).bind fun Aq=>((jK Aq.1 ([[63,102],[63,120]]:aC)).bind fun Py=>(some (Py.1,(⟨y1.2.name,y1.2.prio,[(⟨1,(⟨[116],([[63,97],[63,98],[63,99]]:aC)⟩:ar),[],[]⟩:aK),(⟨1,(⟨[116],([[63,100],[63,101],Dt.2]:aC)⟩:ar),[],[]⟩:aK),(⟨Aq.2,(⟨[117],[Py.2]⟩:ar),[],[]⟩:aK)],[(⟨3,(⟨[],[]⟩:ar)⟩:Action)]⟩:aH))))))else(some (y3.1,y1.2)))))))))))
theorem yd{aF:bz}{r:bz×aH}(h:oH aF=some r):iA prog 48 (bz.c aF) (bz.c r.1) [] (D.agg [D.str r.2.name,D.int .i64 r.2.prio,D.sl (r.2.conds.map aK.c),D.sl (r.2.bR.map Action.c)]):=by
 refine Bw func48 [[none,none,none],[none,none,none,none]] 79 [D.sl (aF.b.map yx),D.int .i64 aF.i,D.int .i64 aF.h] [] [] fun hr kL Γ hΓ=>?_
 rw[oH]at h;obtain⟨y1,h2,h⟩:=aE h;obtain⟨y3,h4,h⟩:=aE h;have nE:=((aX.hp [[none,none,none]] (qu h2)).hp [[none,none,none],[none]] (bw h4))
 obtain⟨h5,h⟩|⟨h5,h⟩:=aO h
 ·obtain⟨y6,h7,h⟩:=aE h;cases h;exact(((nE.b h5).hp [[none,none,none]] (lJ h7)).a [.sk 2,.sk 3]).ret hΓ
 ·obtain⟨h8,h⟩|⟨h8,h⟩:=aO h
  ·obtain⟨y9,h10,h⟩:=aE h;cases h;exact((((nE.b h5).b h8).hp [[none,none,none],[some (3,1)]] (gj h10)).a [.sk 2,.sk 3]).ret hΓ
  ·have lN:=((nE.b h5).b h8)
   obtain⟨h11,h⟩|⟨h11,h⟩:=aO h
   ·obtain⟨Bt,h15,h⟩:=aE h;obtain⟨h16,h⟩:=bp h;cases h;exact(((((lN.b h11).a [.n2 [0,1,2,3,4,5,6,7] [0,1,2,3,4,5,6,7] 3 5 [0,1] [0,5]]).hp [[none,none,none]] (yc h15)).w (cD h16)).a [.sk 7,.sk 3]).rts hΓ (D.iz [D.agg [D.str y1.2.name,D.int .i64 y1.2.prio,D.sl ((y1.2.conds.map aK.c)++([[D.int .i64 Bt.2.kind,D.str Bt.2.pat.rel,D.sl (Bt.2.pat.args.map tx),D.str Bt.2.left,D.str Bt.2.right]])),D.sl (y1.2.bR.map Action.c)],D.agg [D.sl (Bt.1.b.map yx),D.int .i64 Bt.1.i,D.int .i64 Bt.1.h],D.val kL]) (by first|rfl| (simp only[mA]<;>rfl))
   ·obtain⟨h17,h⟩|⟨h17,h⟩:=aO h
    ·obtain⟨HQ,h23,h⟩:=aE h;obtain⟨CO,h25,h⟩:=aE h;obtain⟨h26,h⟩:=bp h;cases h;exact(((((((lN.b h11).b h17).a [.n2 [0,1,2,3,5,4,6,7,8,9,10,11] [0,1,2,3,5,4,6,7,8,9,10,11] 5 9 [0,1,4] [0,5,6]]).hp [[none,none,none],[some (3,1)]] (gj h23)).hp [[none,none,none]] (rV h25)).w (cD h26)).a [.sk 2,.sk 8]).rts hΓ (D.iz [D.agg [D.str y1.2.name,D.int .i64 y1.2.prio,D.sl (y1.2.conds.map aK.c),D.sl ((y1.2.bR.map Action.c)++([[D.int .i64 HQ.2,D.str CO.2.rel,D.sl (CO.2.args.map tx)]]))],D.agg [D.sl (CO.1.b.map yx),D.int .i64 CO.1.i,D.int .i64 CO.1.h],D.val kL]) (by first|rfl| (simp only[mA]<;>rfl))
    ·have nF:=((lN.b h11).b h17)
     obtain⟨h27,h⟩|⟨h27,h⟩:=aO h
     ·obtain⟨⟨Rf,SK⟩,h30,h⟩:=aE h;cases h;exact(((nF.b h27).w (show rQ (y1.2.conds.map aK.c).length (some (D.int .i64 1)) none=some (Rf,SK)/\((y1.2.conds.map aK.c).all fun r=>r.length==5)=true from⟨h30,by simp[aR]⟩)).a [.fz,.cut Rf SK,.sk 3]).rts hΓ (D.iz [D.agg [D.str y1.2.name,D.int .i64 y1.2.prio,D.sl (((y1.2.conds.map aK.c).take SK).drop Rf),D.sl (y1.2.bR.map Action.c)],D.agg [D.sl (y3.1.b.map yx),D.int .i64 y3.1.i,D.int .i64 y3.1.h],D.val kL]) (by first|rfl| (simp only[mA]<;>rfl)| (simp only[mA,bN]<;>rfl))
     ·obtain⟨h31,h⟩|⟨h31,h⟩:=aO h
      ·obtain⟨⟨Rg,SL⟩,h34,h⟩:=aE h;cases h;exact((((nF.b h27).b h31).w (show rQ (y1.2.bR.map Action.c).length (some (D.int .i64 1)) none=some (Rg,SL)/\((y1.2.bR.map Action.c).all fun r=>r.length==3)=true from⟨h34,by simp[aR]⟩)).a [.fz,.cut Rg SL,.sk 2]).rts hΓ (D.iz [D.agg [D.str y1.2.name,D.int .i64 y1.2.prio,D.sl (y1.2.conds.map aK.c),D.sl (((y1.2.bR.map Action.c).take SL).drop Rg)],D.agg [D.sl (y3.1.b.map yx),D.int .i64 y3.1.i,D.int .i64 y3.1.h],D.val kL]) (by first|rfl| (simp only[mA]<;>rfl)| (simp only[mA,bN]<;>rfl))
      ·have n7:=((nF.b h27).b h31)
       obtain⟨h35,h⟩|⟨h35,h⟩:=aO h
       ·obtain⟨Dt,h37,h⟩:=aE h;obtain⟨Aq,h39,h⟩:=aE h;obtain⟨Py,h41,h⟩:=aE h;cases h;exact(((((n7.b h35).hp [[none,none,none],[some (9,1)]] (kI h37)).hp [[none,none,none],[some (3,1)]] (gj h39)).hp [[none,none,none],[some (9,1)]] (kI h41)).a [.sk 11,.sk 12]).ret hΓ
       ·cases h;exact((n7.b h35).a [.sk 2,.sk 3]).ret hΓ
def gR(wF:bz×Int)(k1:bC->Int->Int->aZ->Option (bz×aZ)):Nat->Int->bC->Int->Int->aZ->Option (bz×aZ)
 |0,_,_,_,_,_=>none
 |n1+1,rE,eS,cq,cr,cu=>(bif decide ((((cu.map aH.c).length:Int):Int)<wF.2)then((fZ (⟨eS,cq,cr⟩:bz) 6).bind fun sj=>((jd rE).bind fun zS=>(bif decide (([107]:Bytes).length+(zS:Bytes).length<=maxLen)then(bif room ((cu.map aH.c).length+([[D.str (([107])++zS),D.int .i64 sj.2.prio,D.sl (sj.2.conds.map aK.c),D.sl (sj.2.bR.map Action.c)]]).length) 72 then(gR wF k1 n1 (IntKind.i64.wrap (rE+1)) sj.1.b sj.1.i sj.1.h (cu++([(⟨([107])++zS,sj.2.prio,sj.2.conds,sj.2.bR⟩:aH)])))else none)else none)))else(k1 eS cq cr cu))
def nN(aF:bz):Option (bz×aZ):=((oI aF 3).bind fun y1=>((cH y1.1 10).bind fun y3=>(bif (y3.2:Int)==0 then((oH y3.1).bind fun y6=>(bif room ((y1.2.map aH.c).length+([[D.str y6.2.name,D.int .i64 y6.2.prio,D.sl (y6.2.conds.map aK.c),D.sl (y6.2.bR.map Action.c)]]).length) 72 then(some (y6.1,y1.2++([y6.2])))else none))else(bif (y3.2:Int)==1 then((ff y3.1 ([6,7]:bC)).bind fun wF=>(gR wF (fun(jM:bC) (jN:Int) (jO:Int) (uW:aZ)=>(some ((⟨jM,jN,jO⟩:bz),uW))) fuel 0 wF.1.b wF.1.i wF.1.h y1.2))else(some (y3.1,y1.2))))))
def sP(kL:Value)(wF:bz×Int)(rE:Int)(cq:Int)(cr:Int)(W1:List aG)(W4:List aG):St:=⟨[(0,D.ptr 0 0),(3,D.acc 1),(4,D.int .i64 wF.2),(5,D.int .i64 rE)],[Ob.yB [D.sl W1,D.int .i64 cq,D.int .i64 cr] kL,Ob.row .uq 31 4 W4]⟩
theorem yg(hΓ:Γ.nt=40){kL:Value}{wF:bz×Int}{r:bz×aZ}{k1:bC->Int->Int->aZ->Option (bz×aZ)}(jX:∀(jM:bC) (jN:Int) (jO:Int) (uW:aZ),k1 jM jN jO uW=some r->Ax Γ N f16 (.p [[none,none,none],[some (31,0)]] kL (bz.c r.1) (D.fs 31 4 (r.2.map aH.c))) [1,1,1] ⟨[(3,D.acc 1)],[Ob.yB [D.sl (jM.map yx),D.int .i64 jN,D.int .i64 jO] kL,Ob.row .uq 31 4 (uW.map aH.c)]⟩):∀(n1:Nat) (rE:Int) (eS:bC) (cq:Int) (cr:Int) (cu:aZ),gR wF k1 n1 rE eS cq cr cu=some r->Ar Γ N f16 (.p [[none,none,none],[some (31,0)]] kL (bz.c r.1) (D.fs 31 4 (r.2.map aH.c))) [1,1,0,1,0,1,1,1,0,1,1,0] n1 (sP kL wF rE cq cr (eS.map yx) (cu.map aH.c)):=by
 intro n
 induction n with
 |zero=>intro rE eS cq cr cu h;simp[gR]at h
 |succ n1 ih1=>
  intro rE eS cq cr cu h;rw[gR]at h;refine aW fun N1 fI eM=>?_
  obtain⟨h40,h⟩|⟨h40,h⟩:=aO h
  ·obtain⟨sj,h42,h⟩:=aE h;obtain⟨zS,h44,h⟩:=aE h;obtain⟨h45,h⟩:=bp h;obtain⟨h46,h⟩:=bp h;exact(((((((aX.b h40).a [.gp [[none,none,none],[none]] (bz.c sj.1) (D.agg [D.str sj.2.name,D.int .i64 sj.2.prio,D.fr 41 5 (sj.2.conds.map aK.c),D.fr 71 3 (sj.2.bR.map Action.c)])]).w (show iA prog 50 (bz.c (⟨eS,cq,cr⟩:bz)) (bz.c sj.1) [D.int .i64 6] (D.agg [D.str sj.2.name,D.int .i64 sj.2.prio,D.fr 41 5 (sj.2.conds.map aK.c),D.fr 71 3 (sj.2.bR.map Action.c)])from by simpa only[az,ax,bg,bN,bU]using kY h42)).g (ju h44)).w (bV h45)).w (cD h46)).a [.cn [0,3,4,5] [0,6]]).cs hΓ eM (sP kL wF (IntKind.i64.wrap (rE+1)) sj.1.i sj.1.h (sj.1.b.map yx) ((cu.map aH.c)++([[D.str (([107])++zS),D.int .i64 sj.2.prio,D.sl (sj.2.conds.map aK.c),D.sl (sj.2.bR.map Action.c)]]))) (by first| (simp only[mA]<;>rfl)| (simp only[mA,ar.c,bh.c,aK.c,Action.c,aH.c,iX.c,jE.c,bS.c,Node.c,bA.c,jR.c]<;>rfl)) (ih1 (IntKind.i64.wrap (rE+1)) sj.1.b sj.1.i sj.1.h (cu++([(⟨([107])++zS,sj.2.prio,sj.2.conds,sj.2.bR⟩:aH)])) h)
  ·exact((aX.b h40).a [.hl 0 [3] [0,1]]).ex hΓ fI (jX eS cq cr cu h)
theorem xe{aF:bz}{r:bz×aZ}(h:nN aF=some r):iA prog 16 (bz.c aF) (bz.c r.1) [] (D.fs 31 4 (r.2.map aH.c)):=by
 refine Bw func16 [[none,none,none],[some (31,0)]] 40 [D.sl (aF.b.map yx),D.int .i64 aF.i,D.int .i64 aF.h] [] [] fun hr kL Γ hΓ=>?_
 rw[nN]at h;obtain⟨y1,h2,h⟩:=aE h;obtain⟨y3,h4,h⟩:=aE h;have nE:=((aX.hp [[none,none,none],[none]] (yh h2)).hp [[none,none,none],[none]] (bw h4))
 obtain⟨h5,h⟩|⟨h5,h⟩:=aO h
 ·obtain⟨y6,h7,h⟩:=aE h;obtain⟨h8,h⟩:=bp h;cases h;exact(((nE.b h5).hp [[none,none,none]] (yd h7)).w (cD h8)).rts hΓ (D.iz [D.fs 31 4 ((y1.2.map aH.c)++([[D.str y6.2.name,D.int .i64 y6.2.prio,D.sl (y6.2.conds.map aK.c),D.sl (y6.2.bR.map Action.c)]])),D.agg [D.sl (y6.1.b.map yx),D.int .i64 y6.1.i,D.int .i64 y6.1.h],D.val kL]) (by first|rfl| (simp only[mA]<;>rfl))
 ·obtain⟨h9,h⟩|⟨h9,h⟩:=aO h
  ·obtain⟨wF,h11,h⟩:=aE h;refine((((nE.b h5).b h9).hp [[none,none,none],[some (3,1)]] (gj h11)).a [.cn [0,3,4,5] [0,1]]).lp hΓ (yg hΓ (fun jM jN jO uW h=>?_) fuel 0 wF.1.b wF.1.i wF.1.h y1.2 h);cases h;exact(aX.a [.sk 1]).ret hΓ
  ·cases h;exact(((nE.b h5).b h9).a [.sk 1]).ret hΓ
def fR(aF:Bytes)(bB:bX)(k1:Option Bytes):bX->Nat->Option Bytes
 | [],i1=>(k1)
 |cN::fK,i1=>(bif (cN.var:Bytes)==aF then(some cN.value)else(fR aF bB k1 fK (i1+1)))
def gQ(aF:Bytes)(bB:bX):Option Bytes:=(fR aF bB (some aF) bB 0)
def wi(aF:Bytes)(bB:bX)(iw:Int):St:=⟨[(0,D.str aF),(1,D.sl (bB.map bh.c)),(5,D.int .i64 iw)],[]⟩
theorem vP(hΓ:Γ.nt=25){aF:Bytes}{bB:bX}{r:Bytes}{k1:Option Bytes}(jX:k1=some r->Ax Γ N f113 (.q [[none]] (D.str r)) [1,1] ⟨[(0,D.str aF)],[]⟩)(hm1:bB.length<=maxLen):∀(rest:bX) (i1:Nat),bB.drop i1=rest->fR aF bB k1 rest i1=some r->Ar Γ N f113 (.q [[none]] (D.str r)) [1,0,1,0] (rest.length+1) (wi aF bB (i1:Int)):=by
 intro rest
 induction rest with
 |nil=>
  intro i1 bM h;rw[fR]at h;refine aW fun N1 fI eM=>?_
  exact((aX.ge bh.c bM).a [.hl 0 [0] []]).ex hΓ fI (jX h)
 |cons cN fK ih1=>
  intro i1 bM h;rw[fR]at h;refine aW fun N1 fI eM=>?_
  have lN:=((aX.lt bh.c bM).l (cA bh.c 2 (dc bM) rfl))
  obtain⟨h13,h⟩|⟨h13,h⟩:=aO h
  ·cases h;exact((lN.b h13).l (cA bh.c 2 (dc bM) rfl)).ret hΓ
  ·exact((lN.b h13).a [.cn [0,1,5] []]).ct hΓ eM (iS bM hm1) (ih1 (i1+1) (dn bM) h)
theorem mF{aF:Bytes}{bB:bX}{r:Bytes}(h:gQ aF bB=some r):Good prog 113 [D.str aF,D.sl (bB.map bh.c)] (D.str r):=by
 refine gd func113 [[none]] 25 fun hr Γ hΓ=>?_
 rw[gQ]at h;refine(aX.a [.cn [0,1,5] []]).lp hΓ (vP hΓ (fun h=>?_) (by have:=(kj.sl (hr _ (aD (i:=1) rfl))).1;simpa using this) bB 0 rfl h);have h:=aQ h;subst h;exact aX.ret hΓ
def gN(aF:aK)(bB:bX)(y1:Bytes)(y3:Bytes)(k1:aC->Option aK):aC->Nat->aC->Option aK
 | [],i1,dH=>(k1 dH)
 |cN::fK,i1,dH=>((gQ cN bB).bind fun yD=>(bif room ((dH.map tx).length+([[D.str yD]]).length) 16 then(gN aF bB y1 y3 k1 fK (i1+1) (dH++([yD])))else none))
def kH(aF:aK)(bB:bX):Option aK:=((gQ aF.left bB).bind fun y1=>((gQ aF.right bB).bind fun y3=>(gN aF bB y1 y3 (fun(mO:aC)=>(some (⟨aF.kind,(⟨aF.pat.rel,mO⟩:ar),y1,y3⟩:aK))) aF.pat.args 0 ([]:aC))))
def pE(aF:aK)(bB:bX)(y1:Bytes)(y3:Bytes)(W0:List aG)(iw:Int):St:=⟨[(1,D.sl (bB.map bh.c)),(2,D.ptr 0 0),(4,D.ptr 1 0),(5,D.ptr 2 0),(6,D.int .i64 iw)],[Ob.box (aK.c aF),Ob.box [D.int .i64 0,D.str ([]),D.nil,D.str ([]),D.str ([])],Ob.box [D.int .i64 aF.kind,D.str aF.pat.rel,D.acc 3,D.str y1,D.str y3],Ob.row .uq 9 1 W0]⟩
theorem uR(hΓ:Γ.nt=46){aF:aK}{bB:bX}{y1:Bytes}{y3:Bytes}{r:aK}{k1:aC->Option aK}(jX:∀(mO:aC),k1 mO=some r->Ax Γ N f85 (.q [[none,none,some (9,1),none,none]] (D.agg [D.int .i64 r.kind,D.str r.pat.rel,D.fr 9 1 (r.pat.args.map tx),D.str r.left,D.str r.right])) [1,1,1] ⟨[(4,D.ptr 0 0),(5,D.ptr 1 0)],[Ob.box [D.int .i64 0,D.str ([]),D.nil,D.str ([]),D.str ([])],Ob.box [D.int .i64 aF.kind,D.str aF.pat.rel,D.acc 2,D.str y1,D.str y3],Ob.row .uq 9 1 (mO.map tx)]⟩)(hm1:aF.pat.args.length<=maxLen):∀(rest:aC) (i1:Nat) (dH:aC),aF.pat.args.drop i1=rest->gN aF bB y1 y3 k1 rest i1 dH=some r->Ar Γ N f85 (.q [[none,none,some (9,1),none,none]] (D.agg [D.int .i64 r.kind,D.str r.pat.rel,D.fr 9 1 (r.pat.args.map tx),D.str r.left,D.str r.right])) [1,1,0,1,0] (rest.length+1) (pE aF bB y1 y3 (dH.map tx) (i1:Int)):=by
 intro rest
 induction rest with
 |nil=>
  intro i1 dH bM h;rw[gN]at h;refine aW fun N1 fI eM=>?_
  exact((aX.ge tx bM).a [.hl 0 [4,5] [1,2,3]]).ex hΓ fI (jX dH h)
 |cons cN fK ih1=>
  intro i1 dH bM h;rw[gN]at h;refine aW fun N1 fI eM=>?_
  obtain⟨yD,h32,h⟩:=aE h;obtain⟨h33,h⟩:=bp h;exact((((((aX.lt tx bM).a [.n 12]).l (cA tx 1 (dc bM) rfl)).g (mF h32)).w (cD h33)).a [.cn [1,2,4,5,6] [0,1,2,5]]).cs hΓ eM (pE aF bB y1 y3 ((dH.map tx)++([[D.str yD]])) (IntKind.i64.wrap ((i1:Int)+1))) (by first| (simp only[iS bM hm1,mA]<;>rfl)| (simp only[iS bM hm1,mA,ar.c,bh.c,aK.c,Action.c,aH.c,iX.c,jE.c,bS.c,Node.c,bA.c,jR.c]<;>rfl)) (ih1 (i1+1) (dH++([yD])) (dn bM) h)
theorem oC{aF:aK}{bB:bX}{r:aK}(h:kH aF bB=some r):Good prog 85 [D.agg (aK.c aF),D.sl (bB.map bh.c)] (D.agg [D.int .i64 r.kind,D.str r.pat.rel,D.fr 9 1 (r.pat.args.map tx),D.str r.left,D.str r.right]):=by
 refine gd func85 [[none,none,some (9,1),none,none]] 46 fun hr Γ hΓ=>?_
 rw[kH]at h;obtain⟨y1,h2,h⟩:=aE h;obtain⟨y3,h4,h⟩:=aE h;refine((((aX.a [.n 16]).g (mF h2)).g (mF h4)).a [.pb 2 2 9 1,.cn [1,2,4,5,6] [0,1,2,3]]).lp hΓ (uR hΓ (fun mO h=>?_) (by have:=(kj.sl (kj.agg (hr _ (aD (i:=0) rfl)) (.sl (aF.pat.args.map tx)) (by simp))).1;simpa using this) aF.pat.args 0 ([]:aC) rfl h);cases h;exact aX.ret hΓ
def mB(aF:aK):Option aK:=((kH aF ([])).bind fun y1=>(some y1))
theorem xZ{aF:aK}{r:aK}(h:mB aF=some r):Good prog 52 [D.agg (aK.c aF)] (D.agg [D.int .i64 r.kind,D.str r.pat.rel,D.fr 9 1 (r.pat.args.map tx),D.str r.left,D.str r.right]):=by
 refine gd func52 [[none,none,some (9,1),none,none]] 5 fun hr Γ hΓ=>?_
 rw[mB]at h;obtain⟨y1,h2,h⟩:=aE h;have h:=aQ h;subst h;exact((aX.a [.d (D.agg [D.int .i64 y1.kind,D.str y1.pat.rel,D.fr 9 1 (y1.pat.args.map tx),D.str y1.left,D.str y1.right])]).w (show Good prog 85 [D.agg (aK.c aF),D.sl ([])] (D.agg [D.int .i64 y1.kind,D.str y1.pat.rel,D.fr 9 1 (y1.pat.args.map tx),D.str y1.left,D.str y1.right])from by first| (simpa only[az,ax,bg,bN,bU]using oC h2)|exact oC h2)).ret hΓ
def mT(aF:aC):Option aC:=(bif room (([]:List aG).length+(aF.map tx).length) 16 then(some (([]:aC)++aF))else none)
theorem wh{aF:aC}{r:aC}(h:mT aF=some r):Good prog 86 [D.sl (aF.map tx)] (D.fr 9 1 (r.map tx)):=by
 refine gd func86 [[some (9,1)]] 6 fun hr Γ hΓ=>?_
 rw[mT]at h;obtain⟨h1,h⟩:=bp h;cases h;exact(((aX.w (cD h1)).w (show(∀r∈(aF.map tx),r.length=1)/\(true=true->D.l6 (aF.map tx)=true)from⟨by first|simp| (intro r hr;obtain⟨x,_,rfl⟩:=cE.1 (bL (eF hr));rfl),by simp[D.l6,D.flat]⟩)).a [.G2 2,.fl true]).rts hΓ (D.fr 9 1 (([]:List aG)++(aF.map tx))) (by first|rfl| (simp only[mA]<;>rfl))
def ej(aF:ar):Option ar:=((mT aF.args).bind fun y1=>(some (⟨aF.rel,y1⟩:ar)))
theorem rP{aF:ar}{r:ar}(h:ej aF=some r):Good prog 53 [D.agg (ar.c aF)] (D.agg [D.str r.rel,D.fr 9 1 (r.args.map tx)]):=by
 refine gd func53 [[none,some (9,1)]] 9 fun hr Γ hΓ=>?_
 rw[ej]at h;obtain⟨y1,h2,h⟩:=aE h;cases h;exact((aX.a [.n 5]).g (wh h2)).ret hΓ
def jf(aF:aH)(k1:aj->Option aH):aj->Nat->aj->Option aH
 | [],i1,dH=>(k1 dH)
 |cN::fK,i1,dH=>((mB cN).bind fun IY=>(bif room ((dH.map aK.c).length+([[D.int .i64 IY.kind,D.str IY.pat.rel,D.sl (IY.pat.args.map tx),D.str IY.left,D.str IY.right]]).length) 80 then(jf aF k1 fK (i1+1) (dH++([IY])))else none))
def iU(aF:aH)(gS:aj)(k2:cV->Option aH):cV->Nat->cV->Option aH
 | [],i2,mH=>(k2 mH)
 |wv::yC,i2,mH=>((ej wv.pat).bind fun NC=>(bif room ((mH.map Action.c).length+([[D.int .i64 wv.kind,D.str NC.rel,D.sl (NC.args.map tx)]]).length) 48 then(iU aF gS k2 yC (i2+1) (mH++([(⟨wv.kind,NC⟩:Action)])))else none))
def nM(aF:aH):Option aH:=(jf aF (fun(gS:aj)=>(iU aF gS (fun(rR:cV)=>(some (⟨aF.name,aF.prio,gS,rR⟩:aH))) aF.bR 0 ([]:cV))) aF.conds 0 ([]:aj))
def sN(aF:aH)(W0:List aG)(iw:Int):St:=⟨[(1,D.ptr 0 0),(2,D.ptr 1 0),(3,D.ptr 2 0),(4,D.int .i64 iw)],[Ob.box (aH.c aF),Ob.box [D.str ([]),D.int .i64 0,D.nil,D.nil],Ob.box [D.str aF.name,D.int .i64 aF.prio,D.acc 3,D.nil],Ob.row .uq 41 5 W0]⟩
theorem ye(hΓ:Γ.nt=56){aF:aH}{r:aH}{k1:aj->Option aH}(jX:∀(gS:aj),k1 gS=some r->Ax Γ N f18 (.q [[none,none,some (41,5),some (71,3)]] (D.agg [D.str r.name,D.int .i64 r.prio,D.fr 41 5 (r.conds.map aK.c),D.fr 71 3 (r.bR.map Action.c)])) [1,1,1] ⟨[(1,D.ptr 0 0),(2,D.ptr 1 0),(3,D.ptr 2 0)],[Ob.box (aH.c aF),Ob.box [D.str ([]),D.int .i64 0,D.nil,D.nil],Ob.box [D.str aF.name,D.int .i64 aF.prio,D.acc 3,D.nil],Ob.row .uq 41 5 (gS.map aK.c)]⟩)(hm1:aF.conds.length<=maxLen):∀(rest:aj) (i1:Nat) (dH:aj),aF.conds.drop i1=rest->jf aF k1 rest i1 dH=some r->Ar Γ N f18 (.q [[none,none,some (41,5),some (71,3)]] (D.agg [D.str r.name,D.int .i64 r.prio,D.fr 41 5 (r.conds.map aK.c),D.fr 71 3 (r.bR.map Action.c)])) [1,1,0,1,0] (rest.length+1) (sN aF (dH.map aK.c) (i1:Int)):=by
 intro rest
 induction rest with
 |nil=>
  intro i1 dH bM h;rw[jf]at h;refine aW fun N1 fI eM=>?_
  exact((aX.ge aK.c bM).a [.hl 0 [1,2,3] [0,1,2,3]]).ex hΓ fI (jX dH h)
 |cons cN fK ih1=>
  intro i1 dH bM h;rw[jf]at h;refine aW fun N1 fI eM=>?_
  obtain⟨IY,h46,h⟩:=aE h;obtain⟨h47,h⟩:=bp h;exact((((((aX.lt aK.c bM).a [.n2 [0,1,2,3,4,5,6,7,8,9,10,11] [0,1,2,3,4,5,6,7,8,9,10,11] 8 9 [0,1] [4]]).l (cA aK.c 5 (dc bM) rfl)).g (xZ h46)).w (cD h47)).a [.cn [1,2,3,4] [0,1,2,6]]).cs hΓ eM (sN aF ((dH.map aK.c)++([[D.int .i64 IY.kind,D.str IY.pat.rel,D.sl (IY.pat.args.map tx),D.str IY.left,D.str IY.right]])) (IntKind.i64.wrap ((i1:Int)+1))) (by first| (simp only[iS bM hm1,mA]<;>rfl)| (simp only[iS bM hm1,mA,ar.c,bh.c,aK.c,Action.c,aH.c,iX.c,jE.c,bS.c,Node.c,bA.c,jR.c]<;>rfl)) (ih1 (i1+1) (dH++([IY])) (dn bM) h)
def sO(aF:aH)(gS:aj)(W0:List aG)(iw:Int):St:=⟨[(1,D.ptr 0 0),(2,D.ptr 1 0),(3,D.ptr 2 0),(5,D.int .i64 iw)],[Ob.box (aH.c aF),Ob.box [D.str ([]),D.int .i64 0,D.nil,D.nil],Ob.box [D.str aF.name,D.int .i64 aF.prio,D.acc 3,D.acc 4],Ob.row .uq 41 5 (gS.map aK.c),Ob.row .uq 71 3 W0]⟩
theorem yf(hΓ:Γ.nt=56){aF:aH}{gS:aj}{r:aH}{k2:cV->Option aH}(D6:∀(rR:cV),k2 rR=some r->Ax Γ N f18 (.q [[none,none,some (41,5),some (71,3)]] (D.agg [D.str r.name,D.int .i64 r.prio,D.fr 41 5 (r.conds.map aK.c),D.fr 71 3 (r.bR.map Action.c)])) [1,1,1,1] ⟨[(2,D.ptr 0 0),(3,D.ptr 1 0)],[Ob.box [D.str ([]),D.int .i64 0,D.nil,D.nil],Ob.box [D.str aF.name,D.int .i64 aF.prio,D.acc 2,D.acc 3],Ob.row .uq 41 5 (gS.map aK.c),Ob.row .uq 71 3 (rR.map Action.c)]⟩)(hm2:aF.bR.length<=maxLen):∀(rest:cV) (i2:Nat) (mH:cV),aF.bR.drop i2=rest->iU aF gS k2 rest i2 mH=some r->Ar Γ N f18 (.q [[none,none,some (41,5),some (71,3)]] (D.agg [D.str r.name,D.int .i64 r.prio,D.fr 41 5 (r.conds.map aK.c),D.fr 71 3 (r.bR.map Action.c)])) [1,1,1,0,1,0] (rest.length+1) (sO aF gS (mH.map Action.c) (i2:Int)):=by
 intro rest
 induction rest with
 |nil=>
  intro i2 mH hd2 h;rw[iU]at h;refine aW fun N2 zW wA=>?_
  exact((aX.ge Action.c hd2).a [.hl 0 [2,3] [1,2,3,4]]).ex hΓ zW (D6 mH h)
 |cons wv yC ih2=>
  intro i2 mH hd2 h;rw[iU]at h;refine aW fun N2 zW wA=>?_
  obtain⟨NC,h93,h⟩:=aE h;obtain⟨h94,h⟩:=bp h;exact(((((((aX.lt Action.c hd2).a [.n2 [0,1,2,3,4,5,6,7,8,9,10,11,12,13,14,15,16,17,18,19] [0,1,2,3,4,5,6,7,8,9,10,11,12,13,14,15,16,17,18,19] 16 17 [0,1] [5]]).l (cA Action.c 3 (dc hd2) rfl)).l (cA Action.c 3 (dc hd2) rfl)).g (rP h93)).w (cD h94)).a [.cn [1,2,3,5] [0,1,2,3,7]]).cs hΓ wA (sO aF gS ((mH.map Action.c)++([[D.int .i64 wv.kind,D.str NC.rel,D.sl (NC.args.map tx)]])) (IntKind.i64.wrap ((i2:Int)+1))) (by first| (simp only[iS hd2 hm2,mA]<;>rfl)| (simp only[iS hd2 hm2,mA,ar.c,bh.c,aK.c,Action.c,aH.c,iX.c,jE.c,bS.c,Node.c,bA.c,jR.c]<;>rfl)) (ih2 (i2+1) (mH++([(⟨wv.kind,NC⟩:Action)])) (dn hd2) h)
theorem xd{aF:aH}{r:aH}(h:nM aF=some r):Good prog 18 [D.agg (aH.c aF)] (D.agg [D.str r.name,D.int .i64 r.prio,D.fr 41 5 (r.conds.map aK.c),D.fr 71 3 (r.bR.map Action.c)]):=by
 refine gd func18 [[none,none,some (41,5),some (71,3)]] 56 fun hr Γ hΓ=>?_
 rw[nM]at h;refine(aX.a [.pb 2 2 41 5,.cn [1,2,3,4] [0,1,2,3]]).lp hΓ (ye hΓ (fun gS h=>?_) (by have:=(kj.sl (kj.agg (hr _ (aD (i:=0) rfl)) (.sl (aF.conds.map aK.c)) (by simp))).1;simpa using this) aF.conds 0 ([]:aj) rfl h);refine(aX.a [.pb 2 3 71 3,.cn [1,2,3,5] [0,1,2,3,4]]).lp hΓ (yf hΓ (fun rR h=>?_) (by have:=(kj.sl (kj.agg (hr _ (aD (i:=0) rfl)) (.sl (aF.bR.map Action.c)) (by simp))).1;simpa using this) aF.bR 0 ([]:cV) rfl h);cases h;exact aX.ret hΓ
def gh(aF:bC):Option aZ:=((oD aF).bind fun y1=>((nN y1).bind fun y3=>(bif decide ((((y3.2.map aH.c).length:Int):Int)>1)then((jU y3.1 2).bind fun y6=>(bif y6.2 then((lg y3.2 (0:Int)).bind fun x9=>((nM x9).bind fun CN=>((lg y3.2 (1:Int)).bind fun x13=>(some (y3.2.set (1:Int).toNat (⟨x13.name,x13.prio,CN.conds,x13.bR⟩:aH))))))else(some y3.2)))else(some y3.2))))
theorem qK{aF:bC}{r:aZ}(h:gh aF=some r):Good prog 6 [D.sl (aF.map yx)] (D.sl (r.map aH.c)):=by
 refine gd func6 [[none]] 25 fun hr Γ hΓ=>?_
 rw[gh]at h;obtain⟨y1,h2,h⟩:=aE h;obtain⟨y3,h4,h⟩:=aE h;have nE:=((aX.hn (yZ h2)).hp [[none,none,none]] (xe h4))
 obtain⟨h5,h⟩|⟨h5,h⟩:=aO h
 ·obtain⟨y6,h7,h⟩:=aE h;have lN:=(((nE.r 2 h5).hp [[none,none,none],[none]] (iR h7)).b h5)
  obtain⟨h8,h⟩|⟨h8,h⟩:=aO h
  ·obtain⟨x9,h10,h⟩:=aE h;obtain⟨CN,h12,h⟩:=aE h;obtain⟨x13,h14,h⟩:=aE h;cases h;exact(((((((lN.b h8).i (gU aH.c 4 h10)).o 4 4 .sh (cJ aH.c (eT h10))).g (xd h12)).i (gU aH.c 4 h14)).w (show(y3.2.map aH.c)[(1:Int).toNat]?=some [D.str x13.name,D.int .i64 x13.prio,D.sl (x13.conds.map aK.c),D.sl (x13.bR.map Action.c)]from cJ aH.c (eT h14))).a [.row [D.str x13.name,D.int .i64 x13.prio,D.sl (x13.conds.map aK.c),D.sl (x13.bR.map Action.c)]]).rts hΓ (D.sl ((y3.2.map aH.c).set (1:Int).toNat [D.str x13.name,D.int .i64 x13.prio,D.sl (CN.conds.map aK.c),D.sl (x13.bR.map Action.c)])) (by first|rfl| (simp only[mA]<;>rfl))
  ·cases h;exact(lN.b h8).ret hΓ
 ·cases h;exact((nE.r 3 h5).F 1).ret hΓ
def dh(aF:Bytes)(k1:Option Bool):Nat->Int->Option Bool
 |0,_=>none
 |n1+1,fD=>(bif decide ((fD:Int)<(aF.length:Int))then((lg aF fD).bind fun ON=>(bif decide ((ON.toNat:Int)<97)then(bif decide ((ON.toNat:Int)<48)then(some false)else(bif decide ((ON.toNat:Int)>57)then(some false)else(dh aF k1 n1 (IntKind.i64.wrap (fD+1)))))else(bif decide ((ON.toNat:Int)>122)then(bif decide ((ON.toNat:Int)<48)then(some false)else(bif decide ((ON.toNat:Int)>57)then(some false)else(dh aF k1 n1 (IntKind.i64.wrap (fD+1)))))else(dh aF k1 n1 (IntKind.i64.wrap (fD+1))))))else(k1))
def kN(aF:Bytes):Option Bool:=(bif decide (((aF.length:Int):Int)<1)then(some false)else(bif decide (((aF.length:Int):Int)>8)then(some false)else(dh aF (some true) fuel 0)))
def ze(aF:Bytes)(fD:Int):St:=⟨[(0,D.str aF),(3,D.int .i64 fD)],[]⟩
theorem yN(hΓ:Γ.nt=40){aF:Bytes}{r:Bool}{k1:Option Bool}(jX:k1=some r->Ax Γ N f69 (.q [[none]] (D.bool r)) [1,1,1] ⟨[],[]⟩):∀(n1:Nat) (fD:Int),dh aF k1 n1 fD=some r->Ar Γ N f69 (.q [[none]] (D.bool r)) [1,1,0,1,0] n1 (ze aF fD):=by
 intro n
 induction n with
 |zero=>intro fD h;simp[dh]at h
 |succ n1 ih1=>
  intro fD h;rw[dh]at h;refine aW fun N1 fI eM=>?_
  obtain⟨h30,h⟩|⟨h30,h⟩:=aO h
  ·obtain⟨ON,h32,h⟩:=aE h;have Eo:=((aX.b h30).c h32)
   obtain⟨h33,h⟩|⟨h33,h⟩:=aO h
   ·have KU:=((((Eo.r 5 h33).T 3).c h32).T 2)
    obtain⟨h34,h⟩|⟨h34,h⟩:=aO h
    ·have h:=aQ h;subst h;exact((((KU.r 4 h34).T 1).b h34).T 2).ret hΓ
    ·have Ny:=((((((KU.r 3 h34).c h32).b h34).T 1).b h34).T 1)
     obtain⟨h35,h⟩|⟨h35,h⟩:=aO h
     ·have h:=aQ h;subst h;exact(Ny.b h35).ret hΓ
     ·exact((Ny.b h35).a [.cn [0,3] []]).cf hΓ eM (ih1 (IntKind.i64.wrap (fD+1)) h)
   ·have El:=(((Eo.r 3 h33).c h32).r 2 h33)
    obtain⟨h36,h⟩|⟨h36,h⟩:=aO h
    ·have Em:=(((El.r 3 h36).c h32).r 2 h36)
     obtain⟨h37,h⟩|⟨h37,h⟩:=aO h
     ·have h:=aQ h;subst h;exact(((((Em.r 4 h37).b h36).b h37).b h36).T 1).ret hΓ
     ·have Al:=((((((Em.r 3 h37).c h32).b h37).b h36).b h37).b h36)
      obtain⟨h38,h⟩|⟨h38,h⟩:=aO h
      ·have h:=aQ h;subst h;exact(Al.b h38).ret hΓ
      ·exact((Al.b h38).a [.cn [0,3] []]).cf hΓ eM (ih1 (IntKind.i64.wrap (fD+1)) h)
    ·exact(((El.r 7 h36).F 1).a [bF,bF,bF,bF,.cn [0,3] []]).cf hΓ eM (ih1 (IntKind.i64.wrap (fD+1)) h)
  ·exact((aX.b h30).a [.hl 0 [] []]).ex hΓ fI (jX h)
theorem jj{aF:Bytes}{r:Bool}(h:kN aF=some r):Good prog 69 [D.str aF] (D.bool r):=by
 refine gd func69 [[none]] 40 fun hr Γ hΓ=>?_
 rw[kN]at h;obtain⟨h1,h⟩|⟨h1,h⟩:=aO h
 ·have h:=aQ h;subst h;exact((aX.r 4 h1).T 1).ret hΓ
 ·have En:=(aX.r 4 h1)
  obtain⟨h2,h⟩|⟨h2,h⟩:=aO h
  ·have h:=aQ h;subst h;exact(En.b h2).ret hΓ
  ·refine((En.b h2).a [.cn [0,3] []]).lp hΓ (yN hΓ (fun h=>?_) fuel 0 h);have h:=aQ h;subst h;exact aX.ret hΓ
def lm(aF:Bytes):Option Bool:=((kN aF).bind fun y1=>(bif y1 then((lg aF 0).bind fun b4=>(some (decide ((b4.toNat:Int)>=97))))else(some false)))
theorem lF{aF:Bytes}{r:Bool}(h:lm aF=some r):Good prog 36 [D.str aF] (D.bool r):=by
 refine gd func36 [[none]] 10 fun hr Γ hΓ=>?_
 rw[lm]at h;obtain⟨y1,h2,h⟩:=aE h;obtain⟨h3,h⟩|⟨h3,h⟩:=aO h
 ·obtain⟨b4,h5,h⟩:=aE h;cases h;exact((((aX.g (jj h2)).r 2 h3).c h5).r 2 h3).ret hΓ
 ·have h:=aQ h;subst h;exact((aX.g (jj h2)).r 4 h3).ret hΓ
def lG(aF:Bytes):Option Bool:=(bif decide (((aF.length:Int):Int)>1)then((lg aF 0).bind fun b2=>(bif (b2.toNat:Int)==63 then((rQ aF.length (some (D.int .i64 1)) none).bind fun p=>(fun l5 u6=>((kN ((aF.take u6).drop l5)).bind fun y8=>(some y8))) p.1 p.2)else(some false)))else(some false))
theorem oA{aF:Bytes}{r:Bool}(h:lG aF=some r):Good prog 75 [D.str aF] (D.bool r):=by
 refine gd func75 [[none]] 16 fun hr Γ hΓ=>?_
 rw[lG]at h;obtain⟨h1,h⟩|⟨h1,h⟩:=aO h
 ·obtain⟨b2,h3,h⟩:=aE h;have nE:=(((aX.r 2 h1).c h3).r 2 h1)
  obtain⟨h4,h⟩|⟨h4,h⟩:=aO h
  ·obtain⟨⟨l5,u6⟩,h7,h⟩:=aE h;obtain⟨y8,h9,h⟩:=aE h;have h:=aQ h;subst h;exact((((((nE.r 2 h4).w h7).a [.cut l5 u6]).b h4).g (jj h9)).b h4).ret hΓ
  ·have h:=aQ h;subst h;exact(nE.r 4 h4).ret hΓ
 ·have h:=aQ h;subst h;exact((aX.r 4 h1).F 4).ret hΓ
def fA(aF:Bytes):Option Bool:=((kN aF).bind fun y1=>(bif y1 then(some true)else((lG aF).bind fun y4=>(some y4))))
theorem fo{aF:Bytes}{r:Bool}(h:fA aF=some r):Good prog 71 [D.str aF] (D.bool r):=by
 refine gd func71 [[none]] 9 fun hr Γ hΓ=>?_
 rw[fA]at h;obtain⟨y1,h2,h⟩:=aE h;obtain⟨h3,h⟩|⟨h3,h⟩:=aO h
 ·have h:=aQ h;subst h;exact((aX.g (jj h2)).r 3 h3).ret hΓ
 ·obtain⟨y4,h5,h⟩:=aE h;have h:=aQ h;subst h;exact((((aX.g (jj h2)).r 2 h3).g (oA h5)).b h3).ret hΓ
def gu(aF:ar)(k1:Option Bool):aC->Nat->Option Bool
 | [],i1=>(k1)
 |cN::fK,i1=>((fA cN).bind fun o5=>(bif !(o5)then(some false)else(gu aF k1 fK (i1+1))))
def gH(aF:ar):Option Bool:=((lm aF.rel).bind fun y1=>(bif !(y1)then(some false)else(bif decide ((((aF.args.map tx).length:Int):Int)>3)then(some false)else(gu aF (some true) aF.args 0))))
def wK(aF:ar)(iw:Int):St:=⟨[(16,D.sl (aF.args.map tx)),(17,D.int .i64 ((aF.args.map tx).length:Int)),(18,D.int .i64 iw)],[]⟩
theorem uy(hΓ:Γ.nt=26){aF:ar}{r:Bool}{k1:Option Bool}(jX:k1=some r->Ax Γ N f70 (.q [[none]] (D.bool r)) [1,1,1] ⟨[],[]⟩)(hm1:aF.args.length<=maxLen):∀(rest:aC) (i1:Nat),aF.args.drop i1=rest->gu aF k1 rest i1=some r->Ar Γ N f70 (.q [[none]] (D.bool r)) [1,1,0,1,0] (rest.length+1) (wK aF (i1:Int)):=by
 intro rest
 induction rest with
 |nil=>
  intro i1 bM h;rw[gu]at h;refine aW fun N1 fI eM=>?_
  exact((aX.ge tx bM).a [.hl 0 [] []]).ex hΓ fI (jX h)
 |cons cN fK ih1=>
  intro i1 bM h;rw[gu]at h;refine aW fun N1 fI eM=>?_
  obtain⟨o5,h26,h⟩:=aE h;have lN:=(((aX.lt tx bM).l (cA tx 1 (dc bM) rfl)).g (fo h26))
  obtain⟨h27,h⟩|⟨h27,h⟩:=aO h
  ·have h:=aQ h;subst h;exact(lN.b h27).ret hΓ
  ·exact((lN.b h27).a [.cn [16,17,18] []]).ct hΓ eM (iS bM hm1) (ih1 (i1+1) (dn bM) h)
theorem jt{aF:ar}{r:Bool}(h:gH aF=some r):Good prog 70 [D.agg (ar.c aF)] (D.bool r):=by
 refine gd func70 [[none]] 26 fun hr Γ hΓ=>?_
 rw[gH]at h;obtain⟨y1,h2,h⟩:=aE h;obtain⟨h3,h⟩|⟨h3,h⟩:=aO h
 ·have h:=aQ h;subst h;exact(((aX.g (lF h2)).r 5 h3).T 1).ret hΓ
 ·have nF:=((aX.g (lF h2)).r 5 h3)
  obtain⟨h4,h⟩|⟨h4,h⟩:=aO h
  ·have h:=aQ h;subst h;exact(nF.b h4).ret hΓ
  ·refine((nF.b h4).a [.cn [16,17,18] []]).lp hΓ (uy hΓ (fun h=>?_) (by have:=(kj.sl (kj.agg (hr _ (aD (i:=0) rfl)) (.sl (aF.args.map tx)) (by simp))).1;simpa using this) aF.args 0 rfl h);have h:=aQ h;subst h;exact aX.ret hΓ
def eg(aF:ar):Option Bool:=(bif (aF.rel:Bytes)==([])then(some ((((aF.args.map tx).length:Int):Int)==0))else(some false))
theorem j6{aF:ar}{r:Bool}(h:eg aF=some r):Good prog 72 [D.agg (ar.c aF)] (D.bool r):=by
 refine gd func72 [[none]] 12 fun hr Γ hΓ=>?_
 rw[eg]at h;obtain⟨h1,h⟩|⟨h1,h⟩:=aO h
 ·cases h;exact(aX.r 5 h1).ret hΓ
 ·have h:=aQ h;subst h;exact(aX.r 5 h1).ret hΓ
def nJ(aF:aK):Option Bool:=(bif (aF.kind:Int)==1 then((gH aF.pat).bind fun y2=>(bif y2 then(bif (aF.left:Bytes)==([])then(some ((aF.right:Bytes)==([])))else(some false))else(some false)))else(bif (aF.kind:Int)==2 then((gH aF.pat).bind fun y7=>(bif y7 then(bif (aF.left:Bytes)==([])then(some ((aF.right:Bytes)==([])))else(some false))else(some false)))else(bif (aF.kind:Int)==3 then((fA aF.left).bind fun Li=>(bif Li then((fA aF.right).bind fun Ds=>(bif Ds then((eg aF.pat).bind fun SR=>(some SR))else(some false)))else(some false)))else(bif (aF.kind:Int)==4 then((fA aF.left).bind fun Lj=>(bif Lj then((fA aF.right).bind fun CO=>(bif CO then((eg aF.pat).bind fun rJ=>(some rJ))else(some false)))else(some false)))else(bif (aF.kind:Int)==5 then((fA aF.left).bind fun xJ=>(bif xJ then((fA aF.right).bind fun rK=>(bif rK then((eg aF.pat).bind fun Dt=>(some Dt))else(some false)))else(some false)))else(some false))))))
theorem xO{aF:aK}{r:Bool}(h:nJ aF=some r):Good prog 37 [D.agg (aK.c aF)] (D.bool r):=by
 refine gd func37 [[none]] 38 fun hr Γ hΓ=>?_
 rw[nJ]at h;obtain⟨h1,h⟩|⟨h1,h⟩:=aO h
 ·obtain⟨y2,h3,h⟩:=aE h;have nE:=((aX.r 2 h1).g (jt h3))
  obtain⟨h4,h⟩|⟨h4,h⟩:=aO h
  ·have lN:=(nE.r 4 h4)
   obtain⟨h5,h⟩|⟨h5,h⟩:=aO h
   ·cases h;exact(lN.r 4 h5).ret hΓ
   ·have h:=aQ h;subst h;exact(lN.r 4 h5).ret hΓ
  ·have h:=aQ h;subst h;exact((nE.r 4 h4).F 4).ret hΓ
 ·obtain⟨h6,h⟩|⟨h6,h⟩:=aO h
  ·obtain⟨y7,h8,h⟩:=aE h;have nF:=(((aX.b h1).b h6).g (jt h8))
   obtain⟨h9,h⟩|⟨h9,h⟩:=aO h
   ·have n7:=(nF.r 4 h9)
    obtain⟨h10,h⟩|⟨h10,h⟩:=aO h
    ·cases h;exact(n7.r 4 h10).ret hΓ
    ·have h:=aQ h;subst h;exact(n7.r 4 h10).ret hΓ
   ·have h:=aQ h;subst h;exact((nF.r 4 h9).F 4).ret hΓ
  ·have zE:=((aX.b h1).b h6)
   obtain⟨h11,h⟩|⟨h11,h⟩:=aO h
   ·obtain⟨Li,h13,h⟩:=aE h;have Bf:=((zE.r 2 h11).g (fo h13))
    obtain⟨h14,h⟩|⟨h14,h⟩:=aO h
    ·obtain⟨Ds,h16,h⟩:=aE h;have Eo:=(((Bf.r 3 h14).g (fo h16)).b h14)
     obtain⟨h17,h⟩|⟨h17,h⟩:=aO h
     ·obtain⟨SR,h19,h⟩:=aE h;have h:=aQ h;subst h;exact(((Eo.r 3 h17).g (j6 h19)).b h17).ret hΓ
     ·have h:=aQ h;subst h;exact(Eo.r 4 h17).ret hΓ
    ·have h:=aQ h;subst h;exact((Bf.r 4 h14).F 4).ret hΓ
   ·obtain⟨h20,h⟩|⟨h20,h⟩:=aO h
    ·obtain⟨Lj,h22,h⟩:=aE h;have KU:=(((zE.b h11).r 2 h20).g (fo h22))
     obtain⟨h23,h⟩|⟨h23,h⟩:=aO h
     ·obtain⟨CO,h25,h⟩:=aE h;have Ny:=(((KU.r 3 h23).g (fo h25)).b h23)
      obtain⟨h26,h⟩|⟨h26,h⟩:=aO h
      ·obtain⟨rJ,h28,h⟩:=aE h;have h:=aQ h;subst h;exact(((Ny.r 3 h26).g (j6 h28)).b h26).ret hΓ
      ·have h:=aQ h;subst h;exact(Ny.r 4 h26).ret hΓ
     ·have h:=aQ h;subst h;exact((KU.r 4 h23).F 4).ret hΓ
    ·have El:=((zE.b h11).b h20)
     obtain⟨h29,h⟩|⟨h29,h⟩:=aO h
     ·obtain⟨xJ,h31,h⟩:=aE h;have Em:=((El.b h29).g (fo h31))
      obtain⟨h32,h⟩|⟨h32,h⟩:=aO h
      ·obtain⟨rK,h34,h⟩:=aE h;have Al:=(((Em.r 3 h32).g (fo h34)).b h32)
       obtain⟨h35,h⟩|⟨h35,h⟩:=aO h
       ·obtain⟨Dt,h37,h⟩:=aE h;have h:=aQ h;subst h;exact(((Al.r 3 h35).g (j6 h37)).b h35).ret hΓ
       ·have h:=aQ h;subst h;exact(Al.r 4 h35).ret hΓ
      ·have h:=aQ h;subst h;exact((Em.r 4 h32).F 4).ret hΓ
     ·have h:=aQ h;subst h;exact(El.b h29).ret hΓ
def dQ(aF:aC)(k1:aC->Option aC):aC->Nat->aC->Option aC
 | [],i1,bt=>(k1 bt)
 |cN::fK,i1,bt=>((lG cN).bind fun SY=>(bif SY then(bif room ((bt.map tx).length+([[D.str cN]]).length) 16 then(dQ aF k1 fK (i1+1) (bt++([cN])))else none)else(dQ aF k1 fK (i1+1) bt)))
def iN(aF:aC):Option aC:=(dQ aF (fun(eA:aC)=>(some eA)) aF 0 ([]:aC))
def qA(aF:aC)(W0:List aG)(iw:Int):St:=⟨[(3,D.acc 0),(6,D.sl (aF.map tx)),(7,D.int .i64 ((aF.map tx).length:Int)),(8,D.int .i64 iw)],[Ob.row .uq 9 1 W0]⟩
theorem vE(hΓ:Γ.nt=20){aF:aC}{r:aC}{k1:aC->Option aC}(jX:∀(eA:aC),k1 eA=some r->Ax Γ N f41 (.q [[some (9,1)]] (D.fr 9 1 (r.map tx))) [1,1,1] ⟨[(3,D.acc 0)],[Ob.row .uq 9 1 (eA.map tx)]⟩)(hm1:aF.length<=maxLen):∀(rest:aC) (i1:Nat) (bt:aC),aF.drop i1=rest->dQ aF k1 rest i1 bt=some r->Ar Γ N f41 (.q [[some (9,1)]] (D.fr 9 1 (r.map tx))) [1,1,0,1,0] (rest.length+1) (qA aF (bt.map tx) (i1:Int)):=by
 intro rest
 induction rest with
 |nil=>
  intro i1 bt bM h;rw[dQ]at h;refine aW fun N1 fI eM=>?_
  exact((aX.ge tx bM).a [.hl 0 [3] [0]]).ex hΓ fI (jX bt h)
 |cons cN fK ih1=>
  intro i1 bt bM h;rw[dQ]at h;refine aW fun N1 fI eM=>?_
  obtain⟨SY,h33,h⟩:=aE h;have lN:=(((aX.lt tx bM).l (cA tx 1 (dc bM) rfl)).g (oA h33))
  obtain⟨h34,h⟩|⟨h34,h⟩:=aO h
  ·obtain⟨h35,h⟩:=bp h;exact(((lN.b h34).w (cD h35)).a [.cn [3,6,7,8] [2]]).cs hΓ eM (qA aF ((bt.map tx)++([[D.str cN]])) (IntKind.i64.wrap ((i1:Int)+1))) (by first| (simp only[iS bM hm1,mA]<;>rfl)| (simp only[iS bM hm1,mA,ar.c,bh.c,aK.c,Action.c,aH.c,iX.c,jE.c,bS.c,Node.c,bA.c,jR.c]<;>rfl)) (ih1 (i1+1) (bt++([cN])) (dn bM) h)
  ·exact((lN.b h34).a [.cn [3,6,7,8] [0]]).ct hΓ eM (iS bM hm1) (ih1 (i1+1) bt (dn bM) h)
theorem mE{aF:aC}{r:aC}(h:iN aF=some r):Good prog 41 [D.sl (aF.map tx)] (D.fr 9 1 (r.map tx)):=by
 refine gd func41 [[some (9,1)]] 20 fun hr Γ hΓ=>?_
 rw[iN]at h;refine(aX.a [.G2 3,.cn [3,6,7,8] [0]]).lp hΓ (vE hΓ (fun eA h=>?_) (by have:=(kj.sl (hr _ (aD (i:=0) rfl))).1;simpa using this) aF 0 ([]:aC) rfl h);have h:=aQ h;subst h;exact aX.ret hΓ
def cQ(aF:aC)(k1:aC->Option aC):aC->Nat->aC->Option aC
 | [],i1,cu=>(k1 cu)
 |cN::fK,i1,cu=>(bif ((i1:Int):Int)==0 then(bif room ((cu.map tx).length+([[D.str cN]]).length) 16 then(cQ aF k1 fK (i1+1) (cu++([cN])))else none)else((lg (j8 (([]:aC)++aF)) (IntKind.i64.wrap ((i1:Int)-1))).bind fun x47=>(bif !((x47:Bytes)==cN)then(bif room ((cu.map tx).length+([[D.str cN]]).length) 16 then(cQ aF k1 fK (i1+1) (cu++([cN])))else none)else(cQ aF k1 fK (i1+1) cu))))
def fp(aF:aC):Option aC:=(bif room (([]:List aG).length+(aF.map tx).length) 16 then(bif decide ((([]:aC)++aF).length<4611686018427387904)then(bif decide ((j8 (([]:aC)++aF)).length<=maxLen)then(cQ aF (fun(eA:aC)=>(some eA)) (j8 (([]:aC)++aF)) 0 ([]:aC))else none)else none)else none)
def mD(aF:aC)(W0:List aG)(iw:Int):St:=⟨[(3,D.acc 0),(4,D.acc 1),(11,D.acc 0),(12,D.int .i64 (((j8 (([]:aC)++aF)).map tx).length:Int)),(13,D.int .i64 iw)],[Ob.row .uq 9 1 ((j8 (([]:aC)++aF)).map tx),Ob.row .uq 9 1 W0]⟩
theorem tH(hΓ:Γ.nt=35){aF:aC}{r:aC}{k1:aC->Option aC}(jX:∀(eA:aC),k1 eA=some r->Ax Γ N f43 (.q [[some (9,1)]] (D.fr 9 1 (r.map tx))) [1,1,1,1,1] ⟨[(4,D.acc 0)],[Ob.row .uq 9 1 (eA.map tx)]⟩)(hm1:(j8 (([]:aC)++aF)).length<=maxLen):∀(rest:aC) (i1:Nat) (cu:aC),(j8 (([]:aC)++aF)).drop i1=rest->cQ aF k1 rest i1 cu=some r->Ar Γ N f43 (.q [[some (9,1)]] (D.fr 9 1 (r.map tx))) [1,1,1,1,0,1,0] (rest.length+1) (mD aF (cu.map tx) (i1:Int)):=by
 intro rest
 induction rest with
 |nil=>
  intro i1 cu bM h;rw[cQ]at h;refine aW fun N1 fI eM=>?_
  exact((aX.ge tx bM).a [.hl 0 [4] [1]]).ex hΓ fI (jX cu h)
 |cons cN fK ih1=>
  intro i1 cu bM h;rw[cQ]at h;refine aW fun N1 fI eM=>?_
  have nF:=(((aX.lt tx bM).i (ke tx 1 (dc bM))).o 1 1 .uq (cJ tx (dc bM)))
  obtain⟨h45,h⟩|⟨h45,h⟩:=aO h
  ·obtain⟨h46,h⟩:=bp h;exact((((nF.r 8 h45).T 1).w (cD h46)).a [.cn [3,4,11,12,13] [0,3]]).cs hΓ eM (mD aF ((cu.map tx)++([[D.str cN]])) (IntKind.i64.wrap ((i1:Int)+1))) (by first| (simp only[iS bM hm1,mA]<;>rfl)| (simp only[iS bM hm1,mA,ar.c,bh.c,aK.c,Action.c,aH.c,iX.c,jE.c,bS.c,Node.c,bA.c,jR.c]<;>rfl)) (ih1 (i1+1) (cu++([cN])) (dn bM) h)
  ·obtain⟨x47,h48,h⟩:=aE h;have n7:=(((((nF.r 4 h45).i (gU tx 1 h48)).b h45).o 1 1 .uq (cJ tx (eT h48))).r 3 h45)
   obtain⟨h49,h⟩|⟨h49,h⟩:=aO h
   ·obtain⟨h50,h⟩:=bp h;exact(((n7.b h49).w (cD h50)).a [.cn [3,4,11,12,13] [0,3]]).cs hΓ eM (mD aF ((cu.map tx)++([[D.str cN]])) (IntKind.i64.wrap ((i1:Int)+1))) (by first| (simp only[iS bM hm1,mA]<;>rfl)| (simp only[iS bM hm1,mA,ar.c,bh.c,aK.c,Action.c,aH.c,iX.c,jE.c,bS.c,Node.c,bA.c,jR.c]<;>rfl)) (ih1 (i1+1) (cu++([cN])) (dn bM) h)
   ·exact((n7.b h49).a [.cn [3,4,11,12,13] [0,1]]).ct hΓ eM (iS bM hm1) (ih1 (i1+1) cu (dn bM) h)
theorem kp{aF:aC}{r:aC}(h:fp aF=some r):Good prog 43 [D.sl (aF.map tx)] (D.fr 9 1 (r.map tx)):=by
 refine gd func43 [[some (9,1)]] 35 fun hr Γ hΓ=>?_
 rw[fp]at h;obtain⟨h1,h⟩:=bp h;obtain⟨h2,h⟩:=bp h;obtain⟨h51,h⟩:=bp h;refine(((((aX.w (cD h1)).w (show(∀r∈(aF.map tx),r.length=1)/\(true=true->D.l6 (aF.map tx)=true)from⟨by first|simp| (intro r hr;obtain⟨x,_,rfl⟩:=cE.1 (bL (eF hr));rfl),by simp[D.l6,D.flat]⟩)).w (show(([]:List aG)++(aF.map tx)).flatten.all D.flat=true from by simpa only[az,ax,bg]using EJ (([]:aC)++aF))).w (show Dw prog 76 9 1 (([]:List aG)++(aF.map tx)) ((j8 (([]:aC)++aF)).map tx)from by simpa only[az,ax,bg]using(wP (e:=9) (bV h2)))).a [.fl true,.mu 0 ((j8 (([]:aC)++aF)).map tx),.G2 4,.cn [3,4,11,12,13] [0,1]]).lp hΓ (tH hΓ (fun eA h=>?_) (bV h51) (j8 (([]:aC)++aF)) 0 ([]:aC) rfl h);have h:=aQ h;subst h;exact aX.ret hΓ
def cw(aF:aH)(bB:Int)(k1:aC->Option aC):aj->Nat->aC->Option aC
 | [],i1,bt=>(k1 bt)
 |cN::fK,i1,bt=>(bif decide (((i1:Int):Int)<bB)then(bif (cN.kind:Int)==1 then((iN cN.pat.args).bind fun CP=>(bif room ((bt.map tx).length+(CP.map tx).length) 16 then(cw aF bB k1 fK (i1+1) (bt++CP))else none))else(cw aF bB k1 fK (i1+1) bt))else(cw aF bB k1 fK (i1+1) bt))
def ja(aF:aH)(bB:Int):Option aC:=(cw aF bB (fun(eA:aC)=>((fp eA).bind fun VZ=>(some VZ))) aF.conds 0 ([]:aC))
def pg(aF:aH)(bB:Int)(W0:List aG)(iw:Int):St:=⟨[(1,D.int .i64 bB),(5,D.acc 0),(9,D.sl (aF.conds.map aK.c)),(10,D.int .i64 ((aF.conds.map aK.c).length:Int)),(11,D.int .i64 iw)],[Ob.row .uq 9 1 W0]⟩
theorem ur(hΓ:Γ.nt=33){aF:aH}{bB:Int}{r:aC}{k1:aC->Option aC}(jX:∀(eA:aC),k1 eA=some r->Ax Γ N f39 (.q [[some (9,1)]] (D.fr 9 1 (r.map tx))) [1,1,1] ⟨[(5,D.acc 0)],[Ob.row .uq 9 1 (eA.map tx)]⟩)(hm1:aF.conds.length<=maxLen):∀(rest:aj) (i1:Nat) (bt:aC),aF.conds.drop i1=rest->cw aF bB k1 rest i1 bt=some r->Ar Γ N f39 (.q [[some (9,1)]] (D.fr 9 1 (r.map tx))) [1,1,0,1,0] (rest.length+1) (pg aF bB (bt.map tx) (i1:Int)):=by
 intro rest
 induction rest with
 |nil=>
  intro i1 bt bM h;rw[cw]at h;refine aW fun N1 fI eM=>?_
  exact((aX.ge aK.c bM).a [.hl 0 [5] [0]]).ex hΓ fI (jX bt h)
 |cons cN fK ih1=>
  intro i1 bt bM h;rw[cw]at h;refine aW fun N1 fI eM=>?_
  have nF:=((aX.lt aK.c bM).l (cA aK.c 5 (dc bM) rfl))
  obtain⟨h37,h⟩|⟨h37,h⟩:=aO h
  ·have n7:=(nF.r 4 h37)
   obtain⟨h38,h⟩|⟨h38,h⟩:=aO h
   ·obtain⟨CP,h40,h⟩:=aE h;obtain⟨h41,h⟩:=bp h;exact((((n7.b h38).g (mE h40)).w (cD h41)).a [.cn [1,5,9,10,11] [3]]).cs hΓ eM (pg aF bB ((bt.map tx)++(CP.map tx)) (IntKind.i64.wrap ((i1:Int)+1))) (by first| (simp only[iS bM hm1,mA]<;>rfl)| (simp only[iS bM hm1,mA,ar.c,bh.c,aK.c,Action.c,aH.c,iX.c,jE.c,bS.c,Node.c,bA.c,jR.c]<;>rfl)) (ih1 (i1+1) (bt++CP) (dn bM) h)
   ·exact((n7.b h38).a [.cn [1,5,9,10,11] [0]]).ct hΓ eM (iS bM hm1) (ih1 (i1+1) bt (dn bM) h)
  ·exact(((nF.r 4 h37).F 1).a [.cn [1,5,9,10,11] [0]]).ct hΓ eM (iS bM hm1) (ih1 (i1+1) bt (dn bM) h)
theorem oR{aF:aH}{bB:Int}{r:aC}(h:ja aF bB=some r):Good prog 39 [D.agg (aH.c aF),D.int .i64 bB] (D.fr 9 1 (r.map tx)):=by
 refine gd func39 [[some (9,1)]] 33 fun hr Γ hΓ=>?_
 rw[ja]at h;refine(aX.a [.G2 5,.cn [1,5,9,10,11] [1]]).lp hΓ (ur hΓ (fun eA h=>?_) (by have:=(kj.sl (kj.agg (hr _ (aD (i:=0) rfl)) (.sl (aF.conds.map aK.c)) (by simp))).1;simpa using this) aF.conds 0 ([]:aC) rfl h);obtain⟨VZ,h43,h⟩:=aE h;have h:=aQ h;subst h;exact(aX.g (kp h43)).ret hΓ
def jb(aF:aC):Option aC:=(bif room (([]:List aG).length+(aF.map tx).length) 16 then(some (([]:aC)++aF))else none)
theorem oS{aF:aC}{r:aC}(h:jb aF=some r):Good prog 130 [D.sl (aF.map tx)] (D.fr 9 1 (r.map tx)):=by
 refine gd func130 [[some (9,1)]] 5 fun hr Γ hΓ=>?_
 rw[jb]at h;obtain⟨h1,h⟩:=bp h;cases h;exact(((aX.w (cD h1)).w (show(∀r∈(aF.map tx),r.length=1)/\(true=true->D.l6 (aF.map tx)=true)from⟨by first|simp| (intro r hr;obtain⟨x,_,rfl⟩:=cE.1 (bL (eF hr));rfl),by simp[D.l6,D.flat]⟩)).a [.G2 2,.fl true]).rts hΓ (D.fr 9 1 (([]:List aG)++(aF.map tx))) (by first|rfl| (simp only[mA]<;>rfl))
def kz(aF:aK):Option aC:=((jb aF.pat.args).bind fun y1=>(bif room ((y1.map tx).length+(([aF.left,aF.right]:aC).map tx).length) 16 then(some (y1++([aF.left,aF.right]:aC)))else none))
theorem pz{aF:aK}{r:aC}(h:kz aF=some r):Good prog 105 [D.agg (aK.c aF)] (D.fr 9 1 (r.map tx)):=by
 refine gd func105 [[some (9,1)]] 13 fun hr Γ hΓ=>?_
 rw[kz]at h;obtain⟨y1,h2,h⟩:=aE h;obtain⟨h3,h⟩:=bp h;cases h;exact(((aX.a [.G2 2,.n 9]).g (oS h2)).w (cD h3)).rts hΓ (D.fr 9 1 ((y1.map tx)++(([aF.left,aF.right]:aC).map tx))) (by first|rfl| (simp only[mA]<;>rfl))
def jA(aF:aK):Option aC:=((kz aF).bind fun y1=>((iN y1).bind fun y3=>((fp y3).bind fun y5=>(some y5))))
theorem mS{aF:aK}{r:aC}(h:jA aF=some r):Good prog 73 [D.agg (aK.c aF)] (D.fr 9 1 (r.map tx)):=by
 refine gd func73 [[some (9,1)]] 7 fun hr Γ hΓ=>?_
 rw[jA]at h;obtain⟨y1,h2,h⟩:=aE h;obtain⟨y3,h4,h⟩:=aE h;obtain⟨y5,h6,h⟩:=aE h;have h:=aQ h;subst h;exact(((aX.g (pz h2)).g (mE h4)).g (kp h6)).ret hΓ
def ga(aF:aC)(bB:Bytes)(k1:Option Bool):aC->Nat->Option Bool
 | [],i1=>(k1)
 |cN::fK,i1=>(bif (cN:Bytes)==bB then(some true)else(ga aF bB k1 fK (i1+1)))
def gZ(aF:aC)(bB:Bytes):Option Bool:=(ga aF bB (some false) aF 0)
def yR(aF:aC)(bB:Bytes)(iw:Int):St:=⟨[(1,D.str bB),(7,D.sl (aF.map tx)),(8,D.int .i64 ((aF.map tx).length:Int)),(9,D.int .i64 iw)],[]⟩
theorem xR(hΓ:Γ.nt=17){aF:aC}{bB:Bytes}{r:Bool}{k1:Option Bool}(jX:k1=some r->Ax Γ N f42 (.q [[none]] (D.bool r)) [1,1] ⟨[],[]⟩)(hm1:aF.length<=maxLen):∀(rest:aC) (i1:Nat),aF.drop i1=rest->ga aF bB k1 rest i1=some r->Ar Γ N f42 (.q [[none]] (D.bool r)) [1,0,1,0] (rest.length+1) (yR aF bB (i1:Int)):=by
 intro rest
 induction rest with
 |nil=>
  intro i1 bM h;rw[ga]at h;refine aW fun N1 fI eM=>?_
  exact((aX.ge tx bM).a [.hl 0 [] []]).ex hΓ fI (jX h)
 |cons cN fK ih1=>
  intro i1 bM h;rw[ga]at h;refine aW fun N1 fI eM=>?_
  have lN:=((aX.lt tx bM).l (cA tx 1 (dc bM) rfl))
  obtain⟨h13,h⟩|⟨h13,h⟩:=aO h
  ·have h:=aQ h;subst h;exact(lN.b h13).ret hΓ
  ·exact((lN.b h13).a [.cn [1,7,8,9] []]).ct hΓ eM (iS bM hm1) (ih1 (i1+1) (dn bM) h)
theorem kX{aF:aC}{bB:Bytes}{r:Bool}(h:gZ aF bB=some r):Good prog 42 [D.sl (aF.map tx),D.str bB] (D.bool r):=by
 refine gd func42 [[none]] 17 fun hr Γ hΓ=>?_
 rw[gZ]at h;refine(aX.a [.cn [1,7,8,9] []]).lp hΓ (xR hΓ (fun h=>?_) (by have:=(kj.sl (hr _ (aD (i:=0) rfl))).1;simpa using this) aF 0 rfl h);have h:=aQ h;subst h;exact aX.ret hΓ
def cT(aF:aH)(bB:Int)(jF:Bytes)(k1:Option Bool):aj->Nat->Option Bool
 | [],i1=>(k1)
 |cN::fK,i1=>(bif ((i1:Int):Int) != bB then((jA cN).bind fun LW=>((gZ LW jF).bind fun Dt=>(bif Dt then(some true)else(cT aF bB jF k1 fK (i1+1)))))else(cT aF bB jF k1 fK (i1+1)))
def cx(aF:aH)(jF:Bytes)(k2:Option Bool):cV->Nat->Option Bool
 | [],i2=>(k2)
 |wv::yC,i2=>((gZ wv.pat.args jF).bind fun Vd=>(bif Vd then(some true)else(cx aF jF k2 yC (i2+1))))
def gb(aF:aH)(bB:Int)(jF:Bytes):Option Bool:=(cT aF bB jF (cx aF jF (some false) aF.bR 0) aF.conds 0)
def rN(aF:aH)(bB:Int)(jF:Bytes)(iw:Int):St:=⟨[(1,D.int .i64 bB),(2,D.str jF),(3,D.ptr 0 0),(12,D.sl (aF.conds.map aK.c)),(13,D.int .i64 ((aF.conds.map aK.c).length:Int)),(14,D.int .i64 iw)],[Ob.box (aH.c aF)]⟩
theorem ql(hΓ:Γ.nt=42){aF:aH}{bB:Int}{jF:Bytes}{r:Bool}{k1:Option Bool}(jX:k1=some r->Ax Γ N f74 (.q [[none]] (D.bool r)) [1,1] ⟨[(2,D.str jF),(3,D.ptr 0 0)],[Ob.box (aH.c aF)]⟩)(hm1:aF.conds.length<=maxLen):∀(rest:aj) (i1:Nat),aF.conds.drop i1=rest->cT aF bB jF k1 rest i1=some r->Ar Γ N f74 (.q [[none]] (D.bool r)) [1,0,1,0] (rest.length+1) (rN aF bB jF (i1:Int)):=by
 intro rest
 induction rest with
 |nil=>
  intro i1 bM h;rw[cT]at h;refine aW fun N1 fI eM=>?_
  exact((aX.ge aK.c bM).a [.hl 0 [2,3] [0]]).ex hΓ fI (jX h)
 |cons cN fK ih1=>
  intro i1 bM h;rw[cT]at h;refine aW fun N1 fI eM=>?_
  have n7:=((aX.lt aK.c bM).l (cA aK.c 5 (dc bM) rfl))
  obtain⟨h33,h⟩|⟨h33,h⟩:=aO h
  ·obtain⟨LW,h35,h⟩:=aE h;obtain⟨Dt,h37,h⟩:=aE h;have zE:=(((((n7.r 2 h33).g (mS h35)).r 2 h33).g (kX h37)).b h33)
   obtain⟨h38,h⟩|⟨h38,h⟩:=aO h
   ·have h:=aQ h;subst h;exact(zE.b h38).ret hΓ
   ·exact((zE.b h38).a [.cn [1,2,3,12,13,14] [0]]).ct hΓ eM (iS bM hm1) (ih1 (i1+1) (dn bM) h)
  ·exact(((n7.r 5 h33).F 1).a [.cn [1,2,3,12,13,14] [0]]).ct hΓ eM (iS bM hm1) (ih1 (i1+1) (dn bM) h)
def rO(aF:aH)(jF:Bytes)(iw:Int):St:=⟨[(2,D.str jF),(30,D.sl (aF.bR.map Action.c)),(31,D.int .i64 ((aF.bR.map Action.c).length:Int)),(32,D.int .i64 iw)],[]⟩
theorem qm(hΓ:Γ.nt=42){aF:aH}{jF:Bytes}{r:Bool}{k2:Option Bool}(D6:k2=some r->Ax Γ N f74 (.q [[none]] (D.bool r)) [1,1,1] ⟨[],[]⟩)(hm2:aF.bR.length<=maxLen):∀(rest:cV) (i2:Nat),aF.bR.drop i2=rest->cx aF jF k2 rest i2=some r->Ar Γ N f74 (.q [[none]] (D.bool r)) [1,1,0,1,0] (rest.length+1) (rO aF jF (i2:Int)):=by
 intro rest
 induction rest with
 |nil=>
  intro i2 hd2 h;rw[cx]at h;refine aW fun N2 zW wA=>?_
  exact((aX.ge Action.c hd2).a [.hl 0 [] []]).ex hΓ zW (D6 h)
 |cons wv yC ih2=>
  intro i2 hd2 h;rw[cx]at h;refine aW fun N2 zW wA=>?_
  obtain⟨Vd,h60,h⟩:=aE h;have Bf:=(((aX.lt Action.c hd2).l (cA Action.c 3 (dc hd2) rfl)).g (kX h60))
  obtain⟨h61,h⟩|⟨h61,h⟩:=aO h
  ·have h:=aQ h;subst h;exact(Bf.b h61).ret hΓ
  ·exact((Bf.b h61).a [.cn [2,30,31,32] []]).ct hΓ wA (iS hd2 hm2) (ih2 (i2+1) (dn hd2) h)
theorem qJ{aF:aH}{bB:Int}{jF:Bytes}{r:Bool}(h:gb aF bB jF=some r):Good prog 74 [D.agg (aH.c aF),D.int .i64 bB,D.str jF] (D.bool r):=by
 refine gd func74 [[none]] 42 fun hr Γ hΓ=>?_
 rw[gb]at h;refine(aX.a [.cn [1,2,3,12,13,14] [0]]).lp hΓ (ql hΓ (fun h=>?_) (by have:=(kj.sl (kj.agg (hr _ (aD (i:=0) rfl)) (.sl (aF.conds.map aK.c)) (by simp))).1;simpa using this) aF.conds 0 rfl h);refine(aX.a [.cn [2,30,31,32] []]).lp hΓ (qm hΓ (fun h=>?_) (by have:=(kj.sl (kj.agg (hr _ (aD (i:=0) rfl)) (.sl (aF.bR.map Action.c)) (by simp))).1;simpa using this) aF.bR 0 rfl h);have h:=aQ h;subst h;exact aX.ret hΓ
end Go.Cx
namespace Go.Cx
open Go.RowKit Go.Proofs Tryz
set_option maxRecDepth 100000
variable{Γ:nR}{N:Nat->St->Prop}
def eN(aF:aH)(bB:Int)(x1:aK)(y3:aC)(y5:aC)(k1:Option Bool):aC->Nat->Option Bool
 | [],i1=>(k1)
 |cN::fK,i1=>(bif (x1.kind:Int)==1 then(eN aF bB x1 y3 y5 k1 fK (i1+1))else((gZ y3 cN).bind fun B2=>(bif B2 then(eN aF bB x1 y3 y5 k1 fK (i1+1))else(bif (x1.kind:Int) != 2 then(some false)else((gb aF bB cN).bind fun Vc=>(bif Vc then(some false)else(eN aF bB x1 y3 y5 k1 fK (i1+1))))))))
def jz(aF:aH)(bB:Int):Option Bool:=((lg aF.conds bB).bind fun x1=>((ja aF bB).bind fun y3=>((jA x1).bind fun y5=>(bif decide (y5.length<=maxLen)then(eN aF bB x1 y3 y5 (some true) y5 0)else none))))
def xQ(aF:aH)(bB:Int)(x1:aK)(y3:aC)(y5:aC)(iw:Int):St:=⟨[(1,D.int .i64 bB),(2,D.ptr 0 0),(5,D.ptr 1 0),(6,D.acc 2),(18,D.acc 3),(19,D.int .i64 ((y5.map tx).length:Int)),(20,D.int .i64 iw)],[Ob.box (aH.c aF),Ob.box [D.int .i64 x1.kind,D.str x1.pat.rel,D.sl (x1.pat.args.map tx),D.str x1.left,D.str x1.right],Ob.row .uq 9 1 (y3.map tx),Ob.row .uq 9 1 (y5.map tx)]⟩
theorem wL(hΓ:Γ.nt=42){aF:aH}{bB:Int}{x1:aK}{y3:aC}{y5:aC}{r:Bool}{k1:Option Bool}(jX:k1=some r->Ax Γ N f38 (.q [[none]] (D.bool r)) [1,1,1,1] ⟨[],[]⟩)(hm1:y5.length<=maxLen):∀(rest:aC) (i1:Nat),y5.drop i1=rest->eN aF bB x1 y3 y5 k1 rest i1=some r->Ar Γ N f38 (.q [[none]] (D.bool r)) [1,1,1,0,1,0] (rest.length+1) (xQ aF bB x1 y3 y5 (i1:Int)):=by
 intro rest
 induction rest with
 |nil=>
  intro i1 bM h;rw[eN]at h;refine aW fun N1 fI eM=>?_
  exact((aX.ge tx bM).a [.hl 0 [] []]).ex hΓ fI (jX h)
 |cons cN fK ih1=>
  intro i1 bM h;rw[eN]at h;refine aW fun N1 fI eM=>?_
  have n7:=(((aX.lt tx bM).i (ke tx 1 (dc bM))).o 1 1 .uq (cJ tx (dc bM)))
  obtain⟨h48,h⟩|⟨h48,h⟩:=aO h
  ·exact(((n7.r 4 h48).T 1).a [.cn [1,2,5,6,18,19,20] [0,1,2,3]]).ct hΓ eM (iS bM hm1) (ih1 (i1+1) (dn bM) h)
  ·obtain⟨B2,h50,h⟩:=aE h;have zE:=(((n7.r 3 h48).g (kX h50)).b h48)
   obtain⟨h51,h⟩|⟨h51,h⟩:=aO h
   ·exact((zE.b h51).a [.cn [1,2,5,6,18,19,20] [0,1,2,3]]).ct hΓ eM (iS bM hm1) (ih1 (i1+1) (dn bM) h)
   ·obtain⟨h52,h⟩|⟨h52,h⟩:=aO h
    ·have h:=aQ h;subst h;exact(((zE.b h51).r 5 h52).T 1).ret hΓ
    ·obtain⟨Vc,h54,h⟩:=aE h;have Bf:=((((zE.b h51).r 4 h52).g (qJ h54)).b h52)
     obtain⟨h55,h⟩|⟨h55,h⟩:=aO h
     ·have h:=aQ h;subst h;exact(Bf.b h55).ret hΓ
     ·exact((Bf.b h55).a [.cn [1,2,5,6,18,19,20] [0,1,2,3]]).ct hΓ eM (iS bM hm1) (ih1 (i1+1) (dn bM) h)
theorem p0{aF:aH}{bB:Int}{r:Bool}(h:jz aF bB=some r):Good prog 38 [D.agg (aH.c aF),D.int .i64 bB] (D.bool r):=by
 refine gd func38 [[none]] 42 fun hr Γ hΓ=>?_
 rw[jz]at h;obtain⟨x1,h2,h⟩:=aE h;obtain⟨y3,h4,h⟩:=aE h;obtain⟨y5,h6,h⟩:=aE h;obtain⟨h56,h⟩:=bp h;refine((((aX.l (xK aK.c 5 h2 rfl)).g (oR h4)).g (mS h6)).a [.cn [1,2,5,6,18,19,20] [0,1,2,3]]).lp hΓ (wL hΓ (fun h=>?_) (bV h56) y5 0 rfl h);have h:=aQ h;subst h;exact aX.ret hΓ
def lT(aF:Action):Option Bool:=(bif (aF.kind:Int)==1 then((gH aF.pat).bind fun y2=>(some y2))else(bif (aF.kind:Int)==2 then((gH aF.pat).bind fun y5=>(some y5))else(bif (aF.kind:Int)==3 then((eg aF.pat).bind fun y8=>(some y8))else(some false))))
theorem ux{aF:Action}{r:Bool}(h:lT aF=some r):Good prog 40 [D.agg (Action.c aF)] (D.bool r):=by
 refine gd func40 [[none]] 16 fun hr Γ hΓ=>?_
 rw[lT]at h;obtain⟨h1,h⟩|⟨h1,h⟩:=aO h
 ·obtain⟨y2,h3,h⟩:=aE h;have h:=aQ h;subst h;exact((aX.r 2 h1).g (jt h3)).ret hΓ
 ·obtain⟨h4,h⟩|⟨h4,h⟩:=aO h
  ·obtain⟨y5,h6,h⟩:=aE h;have h:=aQ h;subst h;exact(((aX.b h1).b h4).g (jt h6)).ret hΓ
  ·have nE:=((aX.b h1).b h4)
   obtain⟨h7,h⟩|⟨h7,h⟩:=aO h
   ·obtain⟨y8,h9,h⟩:=aE h;have h:=aQ h;subst h;exact((nE.b h7).g (j6 h9)).ret hΓ
   ·have h:=aQ h;subst h;exact(nE.b h7).ret hΓ
def eL(aF:aj)(k1:aC->Option aC):aj->Nat->aC->Option aC
 | [],i1,bt=>(k1 bt)
 |cN::fK,i1,bt=>((jA cN).bind fun rJ=>(bif room ((bt.map tx).length+(rJ.map tx).length) 16 then(eL aF k1 fK (i1+1) (bt++rJ))else none))
def kE(aF:aj):Option aC:=(eL aF (fun(eA:aC)=>(some eA)) aF 0 ([]:aC))
def p8(aF:aj)(W0:List aG)(iw:Int):St:=⟨[(3,D.acc 0),(6,D.sl (aF.map aK.c)),(7,D.int .i64 ((aF.map aK.c).length:Int)),(8,D.int .i64 iw)],[Ob.row .uq 9 1 W0]⟩
theorem uH(hΓ:Γ.nt=18){aF:aj}{r:aC}{k1:aC->Option aC}(jX:∀(eA:aC),k1 eA=some r->Ax Γ N f44 (.q [[some (9,1)]] (D.fr 9 1 (r.map tx))) [1,1,1] ⟨[(3,D.acc 0)],[Ob.row .uq 9 1 (eA.map tx)]⟩)(hm1:aF.length<=maxLen):∀(rest:aj) (i1:Nat) (bt:aC),aF.drop i1=rest->eL aF k1 rest i1 bt=some r->Ar Γ N f44 (.q [[some (9,1)]] (D.fr 9 1 (r.map tx))) [1,1,0,1,0] (rest.length+1) (p8 aF (bt.map tx) (i1:Int)):=by
 intro rest
 induction rest with
 |nil=>
  intro i1 bt bM h;rw[eL]at h;refine aW fun N1 fI eM=>?_
  exact((aX.ge aK.c bM).a [.hl 0 [3] [0]]).ex hΓ fI (jX bt h)
 |cons cN fK ih1=>
  intro i1 bt bM h;rw[eL]at h;refine aW fun N1 fI eM=>?_
  obtain⟨rJ,h28,h⟩:=aE h;obtain⟨h29,h⟩:=bp h;exact(((((aX.lt aK.c bM).l (cA aK.c 5 (dc bM) rfl)).g (mS h28)).w (cD h29)).a [.cn [3,6,7,8] [3]]).cs hΓ eM (p8 aF ((bt.map tx)++(rJ.map tx)) (IntKind.i64.wrap ((i1:Int)+1))) (by first| (simp only[iS bM hm1,mA]<;>rfl)| (simp only[iS bM hm1,mA,ar.c,bh.c,aK.c,Action.c,aH.c,iX.c,jE.c,bS.c,Node.c,bA.c,jR.c]<;>rfl)) (ih1 (i1+1) (bt++rJ) (dn bM) h)
theorem tI{aF:aj}{r:aC}(h:kE aF=some r):Good prog 44 [D.sl (aF.map aK.c)] (D.fr 9 1 (r.map tx)):=by
 refine gd func44 [[some (9,1)]] 18 fun hr Γ hΓ=>?_
 rw[kE]at h;refine(aX.a [.G2 3,.cn [3,6,7,8] [0]]).lp hΓ (uH hΓ (fun eA h=>?_) (by have:=(kj.sl (hr _ (aD (i:=0) rfl))).1;simpa using this) aF 0 ([]:aC) rfl h);have h:=aQ h;subst h;exact aX.ret hΓ
def fE(aF:aH)(k1:Option Bool):aj->Nat->Option Bool
 | [],i1=>(k1)
 |cN::fK,i1=>((nJ cN).bind fun Ve=>(bif !(Ve)then(some false)else(bif ((i1:Int):Int)==0 then(bif (cN.kind:Int) != 1 then(some false)else((jz aF (i1:Int)).bind fun Sa=>(bif !(Sa)then(some false)else(fE aF k1 fK (i1+1)))))else((jz aF (i1:Int)).bind fun Vg=>(bif !(Vg)then(some false)else(fE aF k1 fK (i1+1)))))))
def iK(aF:aH)(yE:aC)(i2:Nat)(xy:aC)(k3:Option Bool):aC->Nat->Option Bool
 | [],i3=>(k3)
 |N9::Ip,i3=>((gZ yE N9).bind fun SV=>(bif !(SV)then(some false)else(iK aF yE i2 xy k3 Ip (i3+1))))
def iJ(aF:aH)(yE:aC)(k2:Option Bool):cV->Nat->Option Bool
 | [],i2=>(k2)
 |wv::yC,i2=>((lT wv).bind fun SU=>(bif !(SU)then(some false)else((iN wv.pat.args).bind fun xy=>(bif decide (xy.length<=maxLen)then(iK aF yE i2 xy (iJ aF yE k2 yC (i2+1)) xy 0)else none))))
def nK(aF:aH):Option Bool:=((lm aF.name).bind fun y1=>(bif !(y1)then(some false)else(bif decide ((aF.prio:Int)<0)then(some false)else(bif decide ((aF.prio:Int)>9)then(some false)else(bif decide ((((aF.conds.map aK.c).length:Int):Int)<1)then(some false)else(bif decide ((((aF.conds.map aK.c).length:Int):Int)>4)then(some false)else(bif decide ((((aF.bR.map Action.c).length:Int):Int)<1)then(some false)else(bif decide ((((aF.bR.map Action.c).length:Int):Int)>2)then(some false)else(fE aF ((ja aF ((aF.conds.map aK.c).length:Int)).bind fun yE=>(iJ aF yE ((kE aF.conds).bind fun SW=>((fp SW).bind fun SX=>(some (decide ((((SX.map tx).length:Int):Int)<=6))))) aF.bR 0)) aF.conds 0)))))))))
def zf(aF:aH)(iw:Int):St:=⟨[(1,D.ptr 0 0),(49,D.sl (aF.conds.map aK.c)),(50,D.int .i64 ((aF.conds.map aK.c).length:Int)),(51,D.int .i64 iw)],[Ob.box (aH.c aF)]⟩
theorem yO(hΓ:Γ.nt=111){aF:aH}{r:Bool}{k1:Option Bool}(jX:k1=some r->Ax Γ N f13 (.q [[none]] (D.bool r)) [1,1,1] ⟨[(1,D.ptr 0 0)],[Ob.box (aH.c aF)]⟩)(hm1:aF.conds.length<=maxLen):∀(rest:aj) (i1:Nat),aF.conds.drop i1=rest->fE aF k1 rest i1=some r->Ar Γ N f13 (.q [[none]] (D.bool r)) [1,1,0,1,0] (rest.length+1) (zf aF (i1:Int)):=by
 intro rest
 induction rest with
 |nil=>
  intro i1 bM h;rw[fE]at h;refine aW fun N1 fI eM=>?_
  exact((aX.ge aK.c bM).a [.hl 0 [1] [0]]).ex hΓ fI (jX h)
 |cons cN fK ih1=>
  intro i1 bM h;rw[fE]at h;refine aW fun N1 fI eM=>?_
  obtain⟨Ve,h63,h⟩:=aE h;have Al:=(((aX.lt aK.c bM).l (cA aK.c 5 (dc bM) rfl)).g (xO h63))
  obtain⟨h64,h⟩|⟨h64,h⟩:=aO h
  ·have h:=aQ h;subst h;exact((((Al.r 3 h64).a [bF,bF,bF]).r 2 h64).T 6).ret hΓ
  ·have En:=(Al.r 3 h64)
   obtain⟨h65,h⟩|⟨h65,h⟩:=aO h
   ·have KT:=((((En.r 3 h65).b h64).b h65).b h64)
    obtain⟨h66,h⟩|⟨h66,h⟩:=aO h
    ·have h:=aQ h;subst h;exact((KT.r 5 h66).T 1).ret hΓ
    ·obtain⟨Sa,h68,h⟩:=aE h;have Rn:=(((KT.r 3 h66).g (p0 h68)).r 2 h66)
     obtain⟨h69,h⟩|⟨h69,h⟩:=aO h
     ·have h:=aQ h;subst h;exact(Rn.b h69).ret hΓ
     ·exact((Rn.b h69).a [.cn [1,49,50,51] [0]]).ct hΓ eM (iS bM hm1) (ih1 (i1+1) (dn bM) h)
   ·obtain⟨Vg,h71,h⟩:=aE h;have Ro:=(((((((En.r 3 h65).b h64).b h65).b h64).F 3).g (p0 h71)).F 2)
    obtain⟨h72,h⟩|⟨h72,h⟩:=aO h
    ·have h:=aQ h;subst h;exact(Ro.b h72).ret hΓ
    ·exact((Ro.b h72).a [.cn [1,49,50,51] [0]]).ct hΓ eM (iS bM hm1) (ih1 (i1+1) (dn bM) h)
def zg(aF:aH)(yE:aC)(iw:Int):St:=⟨[(1,D.ptr 0 0),(5,D.acc 1),(81,D.sl (aF.bR.map Action.c)),(82,D.int .i64 ((aF.bR.map Action.c).length:Int)),(83,D.int .i64 iw)],[Ob.box (aH.c aF),Ob.row .uq 9 1 (yE.map tx)]⟩
def zh(aF:aH)(yE:aC)(i2:Nat)(xy:aC)(iw:Int):St:=⟨[(1,D.ptr 0 0),(5,D.acc 1),(81,D.sl (aF.bR.map Action.c)),(82,D.int .i64 ((aF.bR.map Action.c).length:Int)),(83,D.int .i64 (i2:Int)),(93,D.acc 2),(94,D.int .i64 ((xy.map tx).length:Int)),(95,D.int .i64 iw)],[Ob.box (aH.c aF),Ob.row .uq 9 1 (yE.map tx),Ob.row .uq 9 1 (xy.map tx)]⟩
theorem yQ(hΓ:Γ.nt=111){aF:aH}{yE:aC}{i2:Nat}{xy:aC}{r:Bool}{k3:Option Bool}(Qj:k3=some r->Ax Γ N f13 (.q [[none]] (D.bool r)) [1,1,1,1,0,1,0,0,1,1,1] ⟨[(1,D.ptr 0 0),(5,D.acc 1),(81,D.sl (aF.bR.map Action.c)),(82,D.int .i64 ((aF.bR.map Action.c).length:Int)),(83,D.int .i64 (i2:Int))],[Ob.box (aH.c aF),Ob.row .uq 9 1 (yE.map tx)]⟩)(MM:xy.length<=maxLen):∀(rest:aC) (i3:Nat),xy.drop i3=rest->iK aF yE i2 xy k3 rest i3=some r->Ar Γ N f13 (.q [[none]] (D.bool r)) [1,1,1,1,0,1,0,0,1,1,0,0,1,1,1,0] (rest.length+1) (zh aF yE i2 xy (i3:Int)):=by
 intro rest
 induction rest with
 |nil=>
  intro i3 xE h;rw[iK]at h;refine aW fun N3 NN Ib=>?_
  exact((aX.ge tx xE).a [.hl 3 [1,5,81,82,83] [0,1]]).ex hΓ NN (Qj h)
 |cons N9 Ip ih3=>
  intro i3 xE h;rw[iK]at h;refine aW fun N3 NN Ib=>?_
  obtain⟨SV,h230,h⟩:=aE h;have Rp:=((((aX.lt tx xE).i (ke tx 1 (dc xE))).o 1 1 .uq (cJ tx (dc xE))).g (kX h230))
  obtain⟨h231,h⟩|⟨h231,h⟩:=aO h
  ·have h:=aQ h;subst h;exact(Rp.b h231).ret hΓ
  ·exact((Rp.b h231).a [.cn [1,5,81,82,83,93,94,95] [0,1,2]]).ct hΓ Ib (iS xE MM) (ih3 (i3+1) (dn xE) h)
theorem yP(hΓ:Γ.nt=111){aF:aH}{yE:aC}{r:Bool}{k2:Option Bool}(D6:k2=some r->Ax Γ N f13 (.q [[none]] (D.bool r)) [1,1,1,1,1] ⟨[(1,D.ptr 0 0)],[Ob.box (aH.c aF)]⟩)(hm2:aF.bR.length<=maxLen):∀(rest:cV) (i2:Nat),aF.bR.drop i2=rest->iJ aF yE k2 rest i2=some r->Ar Γ N f13 (.q [[none]] (D.bool r)) [1,1,1,1,0,1,0] (rest.length+1) (zg aF yE (i2:Int)):=by
 intro rest
 induction rest with
 |nil=>
  intro i2 hd2 h;rw[iJ]at h;refine aW fun N2 zW wA=>?_
  exact((aX.ge Action.c hd2).a [.hl 0 [1] [0]]).ex hΓ zW (D6 h)
 |cons wv yC ih2=>
  intro i2 hd2 h;rw[iJ]at h;refine aW fun N2 zW wA=>?_
  obtain⟨SU,h204,h⟩:=aE h;have Rq:=(((aX.lt Action.c hd2).l (cA Action.c 3 (dc hd2) rfl)).g (ux h204))
  obtain⟨h205,h⟩|⟨h205,h⟩:=aO h
  ·have h:=aQ h;subst h;exact(Rq.b h205).ret hΓ
  ·obtain⟨xy,h207,h⟩:=aE h;obtain⟨h232,h⟩:=bp h;refine(((Rq.b h205).g (mE h207)).a [.cn [1,5,81,82,83,93,94,95] [0,1,3]]).lp hΓ (yQ hΓ (fun h=>?_) (bV h232) xy 0 rfl h);exact(aX.a [.cn [1,5,81,82,83] [0,1]]).ct hΓ wA (iS hd2 hm2) (ih2 (i2+1) (dn hd2) h)
theorem xP{aF:aH}{r:Bool}(h:nK aF=some r):Good prog 13 [D.agg (aH.c aF)] (D.bool r):=by
 refine gd func13 [[none]] 111 fun hr Γ hΓ=>?_
 rw[nK]at h;obtain⟨y1,h2,h⟩:=aE h;obtain⟨h3,h⟩|⟨h3,h⟩:=aO h
 ·have h:=aQ h;subst h;exact(((aX.g (lF h2)).r 4 h3).T 25).ret hΓ
 ·have Rr:=((aX.g (lF h2)).r 4 h3)
  obtain⟨h4,h⟩|⟨h4,h⟩:=aO h
  ·have h:=aQ h;subst h;exact((Rr.r 4 h4).T 21).ret hΓ
  ·have Rs:=(Rr.r 4 h4)
   obtain⟨h5,h⟩|⟨h5,h⟩:=aO h
   ·have h:=aQ h;subst h;exact((Rs.r 5 h5).T 16).ret hΓ
   ·have Rt:=(Rs.r 5 h5)
    obtain⟨h6,h⟩|⟨h6,h⟩:=aO h
    ·have h:=aQ h;subst h;exact((Rt.r 5 h6).T 11).ret hΓ
    ·have Ru:=(Rt.r 5 h6)
     obtain⟨h7,h⟩|⟨h7,h⟩:=aO h
     ·have h:=aQ h;subst h;exact((Ru.r 5 h7).T 6).ret hΓ
     ·have Rv:=(Ru.r 5 h7)
      obtain⟨h8,h⟩|⟨h8,h⟩:=aO h
      ·have h:=aQ h;subst h;exact((Rv.r 5 h8).T 1).ret hΓ
      ·have Rx:=(Rv.r 5 h8)
       obtain⟨h9,h⟩|⟨h9,h⟩:=aO h
       ·have h:=aQ h;subst h;exact(Rx.b h9).ret hΓ
       ·refine((Rx.b h9).a [.cn [1,49,50,51] [0]]).lp hΓ (yO hΓ (fun h=>?_) (by have:=(kj.sl (kj.agg (hr _ (aD (i:=0) rfl)) (.sl (aF.conds.map aK.c)) (by simp))).1;simpa using this) aF.conds 0 rfl h);obtain⟨yE,h74,h⟩:=aE h;refine((aX.g (oR h74)).a [.cn [1,5,81,82,83] [0,1]]).lp hΓ (yP hΓ (fun h=>?_) (by have:=(kj.sl (kj.agg (hr _ (aD (i:=0) rfl)) (.sl (aF.bR.map Action.c)) (by simp))).1;simpa using this) aF.bR 0 rfl h);obtain⟨SW,h234,h⟩:=aE h;obtain⟨SX,h236,h⟩:=aE h;cases h;exact((aX.g (tI h234)).g (kp h236)).ret hΓ
def fm(aF:aZ)(bB:Bytes)(k1:Option Int):aZ->Nat->Option Int
 | [],i1=>(k1)
 |cN::fK,i1=>(bif (cN.name:Bytes)==bB then(some (i1:Int))else(fm aF bB k1 fK (i1+1)))
def lS(aF:aZ)(bB:Bytes):Option Int:=(fm aF bB (some (-1)) aF 0)
def xN(aF:aZ)(bB:Bytes)(iw:Int):St:=⟨[(1,D.str bB),(7,D.sl (aF.map aH.c)),(8,D.int .i64 ((aF.map aH.c).length:Int)),(9,D.int .i64 iw)],[]⟩
theorem wJ(hΓ:Γ.nt=20){aF:aZ}{bB:Bytes}{r:Int}{k1:Option Int}(jX:k1=some r->Ax Γ N f54 (.q [[none]] (D.int .i64 r)) [1,1] ⟨[],[]⟩)(hm1:aF.length<=maxLen):∀(rest:aZ) (i1:Nat),aF.drop i1=rest->fm aF bB k1 rest i1=some r->Ar Γ N f54 (.q [[none]] (D.int .i64 r)) [1,0,1,0] (rest.length+1) (xN aF bB (i1:Int)):=by
 intro rest
 induction rest with
 |nil=>
  intro i1 bM h;rw[fm]at h;refine aW fun N1 fI eM=>?_
  exact((aX.ge aH.c bM).a [.hl 0 [] []]).ex hΓ fI (jX h)
 |cons cN fK ih1=>
  intro i1 bM h;rw[fm]at h;refine aW fun N1 fI eM=>?_
  have lN:=((aX.lt aH.c bM).l (cA aH.c 4 (dc bM) rfl))
  obtain⟨h13,h⟩|⟨h13,h⟩:=aO h
  ·cases h;exact(lN.b h13).ret hΓ
  ·exact((lN.b h13).a [.cn [1,7,8,9] []]).ct hΓ eM (iS bM hm1) (ih1 (i1+1) (dn bM) h)
theorem uw{aF:aZ}{bB:Bytes}{r:Int}(h:lS aF bB=some r):Good prog 54 [D.sl (aF.map aH.c),D.str bB] (D.int .i64 r):=by
 refine gd func54 [[none]] 20 fun hr Γ hΓ=>?_
 rw[lS]at h;refine(aX.a [.cn [1,7,8,9] []]).lp hΓ (wJ hΓ (fun h=>?_) (by have:=(kj.sl (hr _ (aD (i:=0) rfl))).1;simpa using this) aF 0 rfl h);cases h;exact aX.ret hΓ
def fk(aF:aZ)(k1:Option Bool):aZ->Nat->Option Bool
 | [],i1=>(k1)
 |cN::fK,i1=>((nK cN).bind fun LW=>(bif !(LW)then(some false)else((lS aF cN.name).bind fun IX=>(bif (IX:Int) != (i1:Int)then(some false)else(fk aF k1 fK (i1+1))))))
def lR(aF:aZ):Option Bool:=(bif decide ((((aF.map aH.c).length:Int):Int)>6)then(some false)else(fk aF (some true) aF 0))
def xM(aF:aZ)(iw:Int):St:=⟨[(0,D.sl (aF.map aH.c)),(8,D.sl (aF.map aH.c)),(9,D.int .i64 ((aF.map aH.c).length:Int)),(10,D.int .i64 iw)],[]⟩
theorem wI(hΓ:Γ.nt=27){aF:aZ}{r:Bool}{k1:Option Bool}(jX:k1=some r->Ax Γ N f19 (.q [[none]] (D.bool r)) [1,1,1] ⟨[],[]⟩)(hm1:aF.length<=maxLen):∀(rest:aZ) (i1:Nat),aF.drop i1=rest->fk aF k1 rest i1=some r->Ar Γ N f19 (.q [[none]] (D.bool r)) [1,1,0,1,0] (rest.length+1) (xM aF (i1:Int)):=by
 intro rest
 induction rest with
 |nil=>
  intro i1 bM h;rw[fk]at h;refine aW fun N1 fI eM=>?_
  exact((aX.ge aH.c bM).a [.hl 0 [] []]).ex hΓ fI (jX h)
 |cons cN fK ih1=>
  intro i1 bM h;rw[fk]at h;refine aW fun N1 fI eM=>?_
  obtain⟨LW,h35,h⟩:=aE h;have nF:=(((aX.lt aH.c bM).l (cA aH.c 4 (dc bM) rfl)).g (xP h35))
  obtain⟨h36,h⟩|⟨h36,h⟩:=aO h
  ·have h:=aQ h;subst h;exact((nF.r 7 h36).T 1).ret hΓ
  ·obtain⟨IX,h38,h⟩:=aE h;have n7:=(((nF.r 4 h36).g (uw h38)).r 3 h36)
   obtain⟨h39,h⟩|⟨h39,h⟩:=aO h
   ·have h:=aQ h;subst h;exact(n7.b h39).ret hΓ
   ·exact((n7.b h39).a [.cn [0,8,9,10] []]).ct hΓ eM (iS bM hm1) (ih1 (i1+1) (dn bM) h)
theorem ot{aF:aZ}{r:Bool}(h:lR aF=some r):Good prog 19 [D.sl (aF.map aH.c)] (D.bool r):=by
 refine gd func19 [[none]] 27 fun hr Γ hΓ=>?_
 rw[lR]at h;obtain⟨h1,h⟩|⟨h1,h⟩:=aO h
 ·have h:=aQ h;subst h;exact(aX.b h1).ret hΓ
 ·refine((aX.b h1).a [.cn [0,8,9,10] []]).lp hΓ (wI hΓ (fun h=>?_) (by have:=(kj.sl (hr _ (aD (i:=0) rfl))).1;simpa using this) aF 0 rfl h);have h:=aQ h;subst h;exact aX.ret hΓ
def eO(aF:ar):Option ar:=((jb aF.args).bind fun y1=>(some (⟨aF.rel,y1⟩:ar)))
theorem nj{aF:ar}{r:ar}(h:eO aF=some r):Good prog 115 [D.agg (ar.c aF)] (D.agg [D.str r.rel,D.fr 9 1 (r.args.map tx)]):=by
 refine gd func115 [[none,some (9,1)]] 9 fun hr Γ hΓ=>?_
 rw[eO]at h;obtain⟨y1,h2,h⟩:=aE h;cases h;exact((aX.a [.n 5]).g (oS h2)).ret hΓ
def fe(aF:aK):Option aK:=((eO aF.pat).bind fun y1=>(some (⟨aF.kind,y1,aF.left,aF.right⟩:aK)))
theorem kF{aF:aK}{r:aK}(h:fe aF=some r):Good prog 93 [D.agg (aK.c aF)] (D.agg [D.int .i64 r.kind,D.str r.pat.rel,D.fr 9 1 (r.pat.args.map tx),D.str r.left,D.str r.right]):=by
 refine gd func93 [[none,none,some (9,1),none,none]] 8 fun hr Γ hΓ=>?_
 rw[fe]at h;obtain⟨y1,h2,h⟩:=aE h;cases h;exact(aX.g (nj h2)).ret hΓ
def gw(aF:aj)(k1:aj->Option aj):aj->Nat->aj->Option aj
 | [],i1,bt=>(k1 bt)
 |cN::fK,i1,bt=>((fe cN).bind fun rJ=>(bif room ((bt.map aK.c).length+([[D.int .i64 rJ.kind,D.str rJ.pat.rel,D.sl (rJ.pat.args.map tx),D.str rJ.left,D.str rJ.right]]).length) 80 then(gw aF k1 fK (i1+1) (bt++([rJ])))else none))
def kq(aF:aj):Option aj:=(gw aF (fun(eA:aj)=>(some eA)) aF 0 ([]:aj))
def pu(aF:aj)(W0:List aG)(iw:Int):St:=⟨[(3,D.acc 0),(6,D.sl (aF.map aK.c)),(7,D.int .i64 ((aF.map aK.c).length:Int)),(8,D.int .i64 iw)],[Ob.row .uq 41 5 W0]⟩
theorem v7(hΓ:Γ.nt=19){aF:aj}{r:aj}{k1:aj->Option aj}(jX:∀(eA:aj),k1 eA=some r->Ax Γ N f114 (.q [[some (41,5)]] (D.fr 41 5 (r.map aK.c))) [1,1,1] ⟨[(3,D.acc 0)],[Ob.row .uq 41 5 (eA.map aK.c)]⟩)(hm1:aF.length<=maxLen):∀(rest:aj) (i1:Nat) (bt:aj),aF.drop i1=rest->gw aF k1 rest i1 bt=some r->Ar Γ N f114 (.q [[some (41,5)]] (D.fr 41 5 (r.map aK.c))) [1,1,0,1,0] (rest.length+1) (pu aF (bt.map aK.c) (i1:Int)):=by
 intro rest
 induction rest with
 |nil=>
  intro i1 bt bM h;rw[gw]at h;refine aW fun N1 fI eM=>?_
  exact((aX.ge aK.c bM).a [.hl 0 [3] [0]]).ex hΓ fI (jX bt h)
 |cons cN fK ih1=>
  intro i1 bt bM h;rw[gw]at h;refine aW fun N1 fI eM=>?_
  obtain⟨rJ,h28,h⟩:=aE h;obtain⟨h29,h⟩:=bp h;exact(((((aX.lt aK.c bM).l (cA aK.c 5 (dc bM) rfl)).g (kF h28)).w (cD h29)).a [.cn [3,6,7,8] [4]]).cs hΓ eM (pu aF ((bt.map aK.c)++([[D.int .i64 rJ.kind,D.str rJ.pat.rel,D.sl (rJ.pat.args.map tx),D.str rJ.left,D.str rJ.right]])) (IntKind.i64.wrap ((i1:Int)+1))) (by first| (simp only[iS bM hm1,mA]<;>rfl)| (simp only[iS bM hm1,mA,ar.c,bh.c,aK.c,Action.c,aH.c,iX.c,jE.c,bS.c,Node.c,bA.c,jR.c]<;>rfl)) (ih1 (i1+1) (bt++([rJ])) (dn bM) h)
theorem uI{aF:aj}{r:aj}(h:kq aF=some r):Good prog 114 [D.sl (aF.map aK.c)] (D.fr 41 5 (r.map aK.c)):=by
 refine gd func114 [[some (41,5)]] 19 fun hr Γ hΓ=>?_
 rw[kq]at h;refine(aX.a [.G2 3,.cn [3,6,7,8] [0]]).lp hΓ (v7 hΓ (fun eA h=>?_) (by have:=(kj.sl (hr _ (aD (i:=0) rfl))).1;simpa using this) aF 0 ([]:aj) rfl h);have h:=aQ h;subst h;exact aX.ret hΓ
def fq(aF:aH)(y1:aj)(k1:cV->Option aH):cV->Nat->cV->Option aH
 | [],i1,dH=>(k1 dH)
 |cN::fK,i1,dH=>((eO cN.pat).bind fun sj=>(bif room ((dH.map Action.c).length+([[D.int .i64 cN.kind,D.str sj.rel,D.sl (sj.args.map tx)]]).length) 48 then(fq aF y1 k1 fK (i1+1) (dH++([(⟨cN.kind,sj⟩:Action)])))else none))
def k6(aF:aH):Option aH:=((kq aF.conds).bind fun y1=>(fq aF y1 (fun(gS:cV)=>(some (⟨aF.name,aF.prio,y1,gS⟩:aH))) aF.bR 0 ([]:cV)))
def qk(aF:aH)(y1:aj)(W0:List aG)(iw:Int):St:=⟨[(2,D.ptr 0 0),(3,D.ptr 1 0),(15,D.sl (aF.bR.map Action.c)),(16,D.int .i64 ((aF.bR.map Action.c).length:Int)),(17,D.int .i64 iw)],[Ob.box [D.str ([]),D.int .i64 0,D.nil,D.nil],Ob.box [D.str aF.name,D.int .i64 aF.prio,D.acc 2,D.acc 3],Ob.row .uq 41 5 (y1.map aK.c),Ob.row .uq 71 3 W0]⟩
theorem wM(hΓ:Γ.nt=34){aF:aH}{y1:aj}{r:aH}{k1:cV->Option aH}(jX:∀(gS:cV),k1 gS=some r->Ax Γ N f87 (.q [[none,none,some (41,5),some (71,3)]] (D.agg [D.str r.name,D.int .i64 r.prio,D.fr 41 5 (r.conds.map aK.c),D.fr 71 3 (r.bR.map Action.c)])) [1,1,1] ⟨[(2,D.ptr 0 0),(3,D.ptr 1 0)],[Ob.box [D.str ([]),D.int .i64 0,D.nil,D.nil],Ob.box [D.str aF.name,D.int .i64 aF.prio,D.acc 2,D.acc 3],Ob.row .uq 41 5 (y1.map aK.c),Ob.row .uq 71 3 (gS.map Action.c)]⟩)(hm1:aF.bR.length<=maxLen):∀(rest:cV) (i1:Nat) (dH:cV),aF.bR.drop i1=rest->fq aF y1 k1 rest i1 dH=some r->Ar Γ N f87 (.q [[none,none,some (41,5),some (71,3)]] (D.agg [D.str r.name,D.int .i64 r.prio,D.fr 41 5 (r.conds.map aK.c),D.fr 71 3 (r.bR.map Action.c)])) [1,1,0,1,0] (rest.length+1) (qk aF y1 (dH.map Action.c) (i1:Int)):=by
 intro rest
 induction rest with
 |nil=>
  intro i1 dH bM h;rw[fq]at h;refine aW fun N1 fI eM=>?_
  exact((aX.ge Action.c bM).a [.hl 0 [2,3] [0,1,2,3]]).ex hΓ fI (jX dH h)
 |cons cN fK ih1=>
  intro i1 dH bM h;rw[fq]at h;refine aW fun N1 fI eM=>?_
  obtain⟨sj,h42,h⟩:=aE h;obtain⟨h43,h⟩:=bp h;exact((((((aX.lt Action.c bM).l (cA Action.c 3 (dc bM) rfl)).a [.n2 [0,1,2,3,4,5,6,7,8,9,10,11] [0,1,2,3,4,5,6,7,8,9,10,11] 8 9 [0,1] [5]]).g (nj h42)).w (cD h43)).a [.cn [2,3,15,16,17] [0,1,2,7]]).cs hΓ eM (qk aF y1 ((dH.map Action.c)++([[D.int .i64 cN.kind,D.str sj.rel,D.sl (sj.args.map tx)]])) (IntKind.i64.wrap ((i1:Int)+1))) (by first| (simp only[iS bM hm1,mA]<;>rfl)| (simp only[iS bM hm1,mA,ar.c,bh.c,aK.c,Action.c,aH.c,iX.c,jE.c,bS.c,Node.c,bA.c,jR.c]<;>rfl)) (ih1 (i1+1) (dH++([(⟨cN.kind,sj⟩:Action)])) (dn bM) h)
theorem v8{aF:aH}{r:aH}(h:k6 aF=some r):Good prog 87 [D.agg (aH.c aF)] (D.agg [D.str r.name,D.int .i64 r.prio,D.fr 41 5 (r.conds.map aK.c),D.fr 71 3 (r.bR.map Action.c)]):=by
 refine gd func87 [[none,none,some (41,5),some (71,3)]] 34 fun hr Γ hΓ=>?_
 rw[k6]at h;obtain⟨y1,h2,h⟩:=aE h;refine(((aX.a [.n 9]).g (uI h2)).a [.pb 3 3 71 3,.cn [2,3,15,16,17] [1,3,2,4]]).lp hΓ (wM hΓ (fun gS h=>?_) (by have:=(kj.sl (kj.agg (hr _ (aD (i:=0) rfl)) (.sl (aF.bR.map Action.c)) (by simp))).1;simpa using this) aF.bR 0 ([]:cV) rfl h);cases h;exact aX.ret hΓ
def gx(aF:aZ)(k1:aZ->Option aZ):aZ->Nat->aZ->Option aZ
 | [],i1,bt=>(k1 bt)
 |cN::fK,i1,bt=>((k6 cN).bind fun rJ=>(bif room ((bt.map aH.c).length+([[D.str rJ.name,D.int .i64 rJ.prio,D.sl (rJ.conds.map aK.c),D.sl (rJ.bR.map Action.c)]]).length) 72 then(gx aF k1 fK (i1+1) (bt++([rJ])))else none))
def kr(aF:aZ):Option aZ:=(gx aF (fun(eA:aZ)=>(some eA)) aF 0 ([]:aZ))
def py(aF:aZ)(W0:List aG)(iw:Int):St:=⟨[(3,D.acc 0),(6,D.sl (aF.map aH.c)),(7,D.int .i64 ((aF.map aH.c).length:Int)),(8,D.int .i64 iw)],[Ob.row .uq 31 4 W0]⟩
theorem vA(hΓ:Γ.nt=19){aF:aZ}{r:aZ}{k1:aZ->Option aZ}(jX:∀(eA:aZ),k1 eA=some r->Ax Γ N f55 (.q [[some (31,4)]] (D.fr 31 4 (r.map aH.c))) [1,1,1] ⟨[(3,D.acc 0)],[Ob.row .uq 31 4 (eA.map aH.c)]⟩)(hm1:aF.length<=maxLen):∀(rest:aZ) (i1:Nat) (bt:aZ),aF.drop i1=rest->gx aF k1 rest i1 bt=some r->Ar Γ N f55 (.q [[some (31,4)]] (D.fr 31 4 (r.map aH.c))) [1,1,0,1,0] (rest.length+1) (py aF (bt.map aH.c) (i1:Int)):=by
 intro rest
 induction rest with
 |nil=>
  intro i1 bt bM h;rw[gx]at h;refine aW fun N1 fI eM=>?_
  exact((aX.ge aH.c bM).a [.hl 0 [3] [0]]).ex hΓ fI (jX bt h)
 |cons cN fK ih1=>
  intro i1 bt bM h;rw[gx]at h;refine aW fun N1 fI eM=>?_
  obtain⟨rJ,h28,h⟩:=aE h;obtain⟨h29,h⟩:=bp h;exact(((((aX.lt aH.c bM).l (cA aH.c 4 (dc bM) rfl)).g (v8 h28)).w (cD h29)).a [.cn [3,6,7,8] [5]]).cs hΓ eM (py aF ((bt.map aH.c)++([[D.str rJ.name,D.int .i64 rJ.prio,D.sl (rJ.conds.map aK.c),D.sl (rJ.bR.map Action.c)]])) (IntKind.i64.wrap ((i1:Int)+1))) (by first| (simp only[iS bM hm1,mA]<;>rfl)| (simp only[iS bM hm1,mA,ar.c,bh.c,aK.c,Action.c,aH.c,iX.c,jE.c,bS.c,Node.c,bA.c,jR.c]<;>rfl)) (ih1 (i1+1) (bt++([rJ])) (dn bM) h)
theorem uJ{aF:aZ}{r:aZ}(h:kr aF=some r):Good prog 55 [D.sl (aF.map aH.c)] (D.fr 31 4 (r.map aH.c)):=by
 refine gd func55 [[some (31,4)]] 19 fun hr Γ hΓ=>?_
 rw[kr]at h;refine(aX.a [.G2 3,.cn [3,6,7,8] [0]]).lp hΓ (vA hΓ (fun eA h=>?_) (by have:=(kj.sl (hr _ (aD (i:=0) rfl))).1;simpa using this) aF 0 ([]:aZ) rfl h);have h:=aQ h;subst h;exact aX.ret hΓ
def kn(aF:Int):Option Bytes:=((qx aF).bind fun y1=>(some y1))
theorem uC{aF:Int}{r:Bytes}(h:kn aF=some r):Good prog 138 [D.int .i64 aF] (D.str r):=by
 refine gd func138 [[none]] 5 fun hr Γ hΓ=>?_
 rw[kn]at h;obtain⟨y1,h2,h⟩:=aE h;have h:=aQ h;subst h;exact(aX.g (wm h2)).ret hΓ
def dD(aF:aC)(k1:bX->Option bX):aC->Nat->bX->List (Bytes×Bool)->Option bX
 | [],i1,bt,sC=>(k1 bt)
 |cN::fK,i1,bt,sC=>((lG cN).bind fun Vb=>(bif Vb then(bif !(z7 false cN sC)then((kn (IntKind.i64.wrap (((bt.map bh.c).length:Int)+1))).bind fun QS=>(bif decide (([63]:Bytes).length+(QS:Bytes).length<=maxLen)then(bif room ((bt.map bh.c).length+([[D.str cN,D.str (([63])++QS)]]).length) 32 then(dD aF k1 fK (i1+1) (bt++([(⟨cN,([63])++QS⟩:bh)])) (BZ cN true sC))else none)else none))else(dD aF k1 fK (i1+1) bt sC))else(dD aF k1 fK (i1+1) bt sC)))
def j5(aF:aC):Option bX:=(dD aF (fun(eA:bX)=>(some eA)) aF 0 ([]:bX) ([]:List (Bytes×Bool)))
def p9(aF:aC)(W0:List aG)(W1:List (D×D))(iw:Int):St:=⟨[(3,D.acc 0),(4,D.acc 1),(8,D.sl (aF.map tx)),(9,D.int .i64 ((aF.map tx).length:Int)),(10,D.int .i64 iw)],[Ob.row .uq 130 2 W0,Ob.mp W1]⟩
theorem uK(hΓ:Γ.nt=36){aF:aC}{r:bX}{k1:bX->Option bX}(jX:∀(eA:bX),k1 eA=some r->Ax Γ N f116 (.q [[some (130,2)]] (D.fr 130 2 (r.map bh.c))) [1,1,1,1] ⟨[(3,D.acc 0)],[Ob.row .uq 130 2 (eA.map bh.c)]⟩)(hm1:aF.length<=maxLen):∀(rest:aC) (i1:Nat) (bt:bX) (sC:List (Bytes×Bool)),aF.drop i1=rest->dD aF k1 rest i1 bt sC=some r->Ar Γ N f116 (.q [[some (130,2)]] (D.fr 130 2 (r.map bh.c))) [1,1,1,0,1,0] (rest.length+1) (p9 aF (bt.map bh.c) (sC.map (kS eB)) (i1:Int)):=by
 intro rest
 induction rest with
 |nil=>
  intro i1 bt sC bM h;rw[dD]at h;refine aW fun N1 fI eM=>?_
  exact((aX.ge tx bM).a [.hl 0 [3] [0]]).ex hΓ fI (jX bt h)
 |cons cN fK ih1=>
  intro i1 bt sC bM h;rw[dD]at h;refine aW fun N1 fI eM=>?_
  obtain⟨Vb,h53,h⟩:=aE h;have nF:=(((aX.lt tx bM).l (cA tx 1 (dc bM) rfl)).g (oA h53))
  obtain⟨h54,h⟩|⟨h54,h⟩:=aO h
  ·have n7:=((((nF.r 3 h54).w (show QJ prog 157 (sC.map (kS eB)) (D.str cN) false=some (D.bool (z7 false cN sC))from Ri (e:=eB) (z:=false) (by kernel_rfl))).a [.d (D.bool (z7 false cN sC))]).r 2 h54)
   obtain⟨h55,h⟩|⟨h55,h⟩:=aO h
   ·obtain⟨QS,h57,h⟩:=aE h;obtain⟨h58,h⟩:=bp h;obtain⟨h59,h⟩:=bp h;exact(((((((n7.b h55).w (show yw (D.str cN) (D.bool true) (sC.map (kS eB))=some ((BZ cN true sC).map (kS eB))from Ka (e:=eB) (m:=sC))).a [.kv ((BZ cN true sC).map (kS eB))]).g (uC h57)).w (bV h58)).w (cD h59)).a [.cn [3,4,8,9,10] [3,1]]).cs hΓ eM (p9 aF ((bt.map bh.c)++([[D.str cN,D.str (([63])++QS)]])) ((BZ cN true sC).map (kS eB)) (IntKind.i64.wrap ((i1:Int)+1))) (by first| (simp only[iS bM hm1,mA]<;>rfl)| (simp only[iS bM hm1,mA,ar.c,bh.c,aK.c,Action.c,aH.c,iX.c,jE.c,bS.c,Node.c,bA.c,jR.c]<;>rfl)) (ih1 (i1+1) (bt++([(⟨cN,([63])++QS⟩:bh)])) (BZ cN true sC) (dn bM) h)
   ·exact((n7.b h55).a [.cn [3,4,8,9,10] [0,1]]).ct hΓ eM (iS bM hm1) (ih1 (i1+1) bt sC (dn bM) h)
  ·exact(((nF.r 5 h54).F 1).a [.cn [3,4,8,9,10] [0,1]]).ct hΓ eM (iS bM hm1) (ih1 (i1+1) bt sC (dn bM) h)
theorem oB{aF:aC}{r:bX}(h:j5 aF=some r):Good prog 116 [D.sl (aF.map tx)] (D.fr 130 2 (r.map bh.c)):=by
 refine gd func116 [[some (130,2)]] 36 fun hr Γ hΓ=>?_
 rw[j5]at h;refine(aX.a [.G2 3,.cn [3,4,8,9,10] [0,1]]).lp hΓ (uK hΓ (fun eA h=>?_) (by have:=(kj.sl (hr _ (aD (i:=0) rfl))).1;simpa using this) aF 0 ([]:bX) ([]:List (Bytes×Bool)) rfl h);have h:=aQ h;subst h;exact aX.ret hΓ
def eH(aF:aH)(k1:aC->Option bX):aj->Nat->aC->Option bX
 | [],i1,bt=>(k1 bt)
 |cN::fK,i1,bt=>((kz cN).bind fun rJ=>(bif room ((bt.map tx).length+(rJ.map tx).length) 16 then(eH aF k1 fK (i1+1) (bt++rJ))else none))
def kD(aF:aH):Option bX:=(eH aF (fun(eA:aC)=>((j5 eA).bind fun xJ=>(some xJ))) aF.conds 0 ([]:aC))
def oy(aF:aH)(W0:List aG)(iw:Int):St:=⟨[(3,D.acc 0),(7,D.sl (aF.conds.map aK.c)),(8,D.int .i64 ((aF.conds.map aK.c).length:Int)),(9,D.int .i64 iw)],[Ob.row .uq 9 1 W0]⟩
theorem uE(hΓ:Γ.nt=20){aF:aH}{r:bX}{k1:aC->Option bX}(jX:∀(eA:aC),k1 eA=some r->Ax Γ N f88 (.q [[some (130,2)]] (D.fr 130 2 (r.map bh.c))) [1,1,1] ⟨[(3,D.acc 0)],[Ob.row .uq 9 1 (eA.map tx)]⟩)(hm1:aF.conds.length<=maxLen):∀(rest:aj) (i1:Nat) (bt:aC),aF.conds.drop i1=rest->eH aF k1 rest i1 bt=some r->Ar Γ N f88 (.q [[some (130,2)]] (D.fr 130 2 (r.map bh.c))) [1,1,0,1,0] (rest.length+1) (oy aF (bt.map tx) (i1:Int)):=by
 intro rest
 induction rest with
 |nil=>
  intro i1 bt bM h;rw[eH]at h;refine aW fun N1 fI eM=>?_
  exact((aX.ge aK.c bM).a [.hl 0 [3] [0]]).ex hΓ fI (jX bt h)
 |cons cN fK ih1=>
  intro i1 bt bM h;rw[eH]at h;refine aW fun N1 fI eM=>?_
  obtain⟨rJ,h28,h⟩:=aE h;obtain⟨h29,h⟩:=bp h;exact(((((aX.lt aK.c bM).l (cA aK.c 5 (dc bM) rfl)).g (pz h28)).w (cD h29)).a [.cn [3,7,8,9] [3]]).cs hΓ eM (oy aF ((bt.map tx)++(rJ.map tx)) (IntKind.i64.wrap ((i1:Int)+1))) (by first| (simp only[iS bM hm1,mA]<;>rfl)| (simp only[iS bM hm1,mA,ar.c,bh.c,aK.c,Action.c,aH.c,iX.c,jE.c,bS.c,Node.c,bA.c,jR.c]<;>rfl)) (ih1 (i1+1) (bt++rJ) (dn bM) h)
theorem tF{aF:aH}{r:bX}(h:kD aF=some r):Good prog 88 [D.agg (aH.c aF)] (D.fr 130 2 (r.map bh.c)):=by
 refine gd func88 [[some (130,2)]] 20 fun hr Γ hΓ=>?_
 rw[kD]at h;refine(aX.a [.G2 3,.cn [3,7,8,9] [1]]).lp hΓ (uE hΓ (fun eA h=>?_) (by have:=(kj.sl (kj.agg (hr _ (aD (i:=0) rfl)) (.sl (aF.conds.map aK.c)) (by simp))).1;simpa using this) aF.conds 0 ([]:aC) rfl h);obtain⟨xJ,h31,h⟩:=aE h;have h:=aQ h;subst h;exact(aX.g (oB h31)).ret hΓ
def eW(aF:Bytes)(bB:bX)(k1:Option Bytes):bX->Nat->Option Bytes
 | [],i1=>(k1)
 |cN::fK,i1=>(bif (cN.var:Bytes)==aF then(some cN.value)else(eW aF bB k1 fK (i1+1)))
def ee(aF:Bytes)(bB:bX):Option Bytes:=(eW aF bB (some aF) bB 0)
def uL(aF:Bytes)(bB:bX)(iw:Int):St:=⟨[(0,D.str aF),(7,D.sl (bB.map bh.c)),(8,D.int .i64 ((bB.map bh.c).length:Int)),(9,D.int .i64 iw)],[]⟩
theorem tJ(hΓ:Γ.nt=21){aF:Bytes}{bB:bX}{r:Bytes}{k1:Option Bytes}(jX:k1=some r->Ax Γ N f117 (.q [[none]] (D.str r)) [1,1] ⟨[(0,D.str aF)],[]⟩)(hm1:bB.length<=maxLen):∀(rest:bX) (i1:Nat),bB.drop i1=rest->eW aF bB k1 rest i1=some r->Ar Γ N f117 (.q [[none]] (D.str r)) [1,0,1,0] (rest.length+1) (uL aF bB (i1:Int)):=by
 intro rest
 induction rest with
 |nil=>
  intro i1 bM h;rw[eW]at h;refine aW fun N1 fI eM=>?_
  exact((aX.ge bh.c bM).a [.hl 0 [0] []]).ex hΓ fI (jX h)
 |cons cN fK ih1=>
  intro i1 bM h;rw[eW]at h;refine aW fun N1 fI eM=>?_
  have lN:=((aX.lt bh.c bM).l (cA bh.c 2 (dc bM) rfl))
  obtain⟨h13,h⟩|⟨h13,h⟩:=aO h
  ·cases h;exact(lN.b h13).ret hΓ
  ·exact((lN.b h13).a [.cn [0,7,8,9] []]).ct hΓ eM (iS bM hm1) (ih1 (i1+1) (dn bM) h)
theorem kw{aF:Bytes}{bB:bX}{r:Bytes}(h:ee aF bB=some r):Good prog 117 [D.str aF,D.sl (bB.map bh.c)] (D.str r):=by
 refine gd func117 [[none]] 21 fun hr Γ hΓ=>?_
 rw[ee]at h;refine(aX.a [.cn [0,7,8,9] []]).lp hΓ (tJ hΓ (fun h=>?_) (by have:=(kj.sl (hr _ (aD (i:=1) rfl))).1;simpa using this) bB 0 rfl h);have h:=aQ h;subst h;exact aX.ret hΓ
def gJ(aF:aK)(bB:bX)(y1:Bytes)(y3:Bytes)(k1:aC->Option aK):aC->Nat->aC->Option aK
 | [],i1,rG=>(k1 rG)
 |cN::fK,i1,rG=>((ee cN bB).bind fun yD=>(bif room ((rG.map tx).length+([[D.str yD]]).length) 16 then(gJ aF bB y1 y3 k1 fK (i1+1) (rG++([yD])))else none))
def gY(aF:aK)(bB:bX):Option aK:=((ee aF.left bB).bind fun y1=>((ee aF.right bB).bind fun y3=>(gJ aF bB y1 y3 (fun(mO:aC)=>(some (⟨aF.kind,(⟨aF.pat.rel,mO⟩:ar),y1,y3⟩:aK))) aF.pat.args 0 ([]:aC))))
def oz(aF:aK)(bB:bX)(y1:Bytes)(y3:Bytes)(W0:List aG)(iw:Int):St:=⟨[(1,D.sl (bB.map bh.c)),(4,D.ptr 0 0),(5,D.ptr 1 0),(26,D.sl (aF.pat.args.map tx)),(27,D.int .i64 ((aF.pat.args.map tx).length:Int)),(28,D.int .i64 iw)],[Ob.box [D.int .i64 0,D.str ([]),D.nil,D.str ([]),D.str ([])],Ob.box [D.int .i64 aF.kind,D.str aF.pat.rel,D.acc 2,D.str y1,D.str y3],Ob.row .uq 9 1 W0]⟩
theorem uF(hΓ:Γ.nt=44){aF:aK}{bB:bX}{y1:Bytes}{y3:Bytes}{r:aK}{k1:aC->Option aK}(jX:∀(mO:aC),k1 mO=some r->Ax Γ N f89 (.q [[none,none,some (9,1),none,none]] (D.agg [D.int .i64 r.kind,D.str r.pat.rel,D.fr 9 1 (r.pat.args.map tx),D.str r.left,D.str r.right])) [1,1,1,1] ⟨[(4,D.ptr 0 0),(5,D.ptr 1 0)],[Ob.box [D.int .i64 0,D.str ([]),D.nil,D.str ([]),D.str ([])],Ob.box [D.int .i64 aF.kind,D.str aF.pat.rel,D.acc 2,D.str y1,D.str y3],Ob.row .uq 9 1 (mO.map tx)]⟩)(hm1:aF.pat.args.length<=maxLen):∀(rest:aC) (i1:Nat) (rG:aC),aF.pat.args.drop i1=rest->gJ aF bB y1 y3 k1 rest i1 rG=some r->Ar Γ N f89 (.q [[none,none,some (9,1),none,none]] (D.agg [D.int .i64 r.kind,D.str r.pat.rel,D.fr 9 1 (r.pat.args.map tx),D.str r.left,D.str r.right])) [1,1,1,0,1,0] (rest.length+1) (oz aF bB y1 y3 (rG.map tx) (i1:Int)):=by
 intro rest
 induction rest with
 |nil=>
  intro i1 rG bM h;rw[gJ]at h;refine aW fun N1 fI eM=>?_
  exact((aX.ge tx bM).a [.hl 0 [4,5] [0,1,2]]).ex hΓ fI (jX rG h)
 |cons cN fK ih1=>
  intro i1 rG bM h;rw[gJ]at h;refine aW fun N1 fI eM=>?_
  obtain⟨yD,h32,h⟩:=aE h;obtain⟨h33,h⟩:=bp h;exact((((((aX.lt tx bM).l (cA tx 1 (dc bM) rfl)).a [.n 7]).g (kw h32)).w (cD h33)).a [.cn [1,4,5,26,27,28] [0,1,4]]).cs hΓ eM (oz aF bB y1 y3 ((rG.map tx)++([[D.str yD]])) (IntKind.i64.wrap ((i1:Int)+1))) (by first| (simp only[iS bM hm1,mA]<;>rfl)| (simp only[iS bM hm1,mA,ar.c,bh.c,aK.c,Action.c,aH.c,iX.c,jE.c,bS.c,Node.c,bA.c,jR.c]<;>rfl)) (ih1 (i1+1) (rG++([yD])) (dn bM) h)
theorem jJ{aF:aK}{bB:bX}{r:aK}(h:gY aF bB=some r):Good prog 89 [D.agg (aK.c aF),D.sl (bB.map bh.c)] (D.agg [D.int .i64 r.kind,D.str r.pat.rel,D.fr 9 1 (r.pat.args.map tx),D.str r.left,D.str r.right]):=by
 refine gd func89 [[none,none,some (9,1),none,none]] 44 fun hr Γ hΓ=>?_
 rw[gY]at h;obtain⟨y1,h2,h⟩:=aE h;obtain⟨y3,h4,h⟩:=aE h;refine((((aX.a [.n 12]).g (kw h2)).g (kw h4)).a [.pb 2 2 9 1,.cn [1,4,5,26,27,28] [1,2,3]]).lp hΓ (uF hΓ (fun mO h=>?_) (by have:=(kj.sl (kj.agg (hr _ (aD (i:=0) rfl)) (.sl (aF.pat.args.map tx)) (by simp))).1;simpa using this) aF.pat.args 0 ([]:aC) rfl h);cases h;exact aX.ret hΓ
def gI(aF:aH)(y1:bX)(k1:aj->Option aj):aj->Nat->aj->Option aj
 | [],i1,cu=>(k1 cu)
 |cN::fK,i1,cu=>((gY cN y1).bind fun FB=>(bif room ((cu.map aK.c).length+([[D.int .i64 FB.kind,D.str FB.pat.rel,D.sl (FB.pat.args.map tx),D.str FB.left,D.str FB.right]]).length) 80 then(gI aF y1 k1 fK (i1+1) (cu++([FB])))else none))
def kC(aF:aH):Option aj:=((kD aF).bind fun y1=>(gI aF y1 (fun(eA:aj)=>(some eA)) aF.conds 0 ([]:aj)))
def ou(aF:aH)(y1:bX)(W0:List aG)(iw:Int):St:=⟨[(3,D.acc 0),(4,D.acc 1),(10,D.sl (aF.conds.map aK.c)),(11,D.int .i64 ((aF.conds.map aK.c).length:Int)),(12,D.int .i64 iw)],[Ob.row .uq 130 2 (y1.map bh.c),Ob.row .uq 41 5 W0]⟩
theorem uD(hΓ:Γ.nt=24){aF:aH}{y1:bX}{r:aj}{k1:aj->Option aj}(jX:∀(eA:aj),k1 eA=some r->Ax Γ N f56 (.q [[some (41,5)]] (D.fr 41 5 (r.map aK.c))) [1,1,1,1] ⟨[(4,D.acc 0)],[Ob.row .uq 41 5 (eA.map aK.c)]⟩)(hm1:aF.conds.length<=maxLen):∀(rest:aj) (i1:Nat) (cu:aj),aF.conds.drop i1=rest->gI aF y1 k1 rest i1 cu=some r->Ar Γ N f56 (.q [[some (41,5)]] (D.fr 41 5 (r.map aK.c))) [1,1,1,0,1,0] (rest.length+1) (ou aF y1 (cu.map aK.c) (i1:Int)):=by
 intro rest
 induction rest with
 |nil=>
  intro i1 cu bM h;rw[gI]at h;refine aW fun N1 fI eM=>?_
  exact((aX.ge aK.c bM).a [.hl 0 [4] [1]]).ex hΓ fI (jX cu h)
 |cons cN fK ih1=>
  intro i1 cu bM h;rw[gI]at h;refine aW fun N1 fI eM=>?_
  obtain⟨FB,h30,h⟩:=aE h;obtain⟨h31,h⟩:=bp h;exact(((((aX.lt aK.c bM).l (cA aK.c 5 (dc bM) rfl)).g (jJ h30)).w (cD h31)).a [.cn [3,4,10,11,12] [0,5]]).cs hΓ eM (ou aF y1 ((cu.map aK.c)++([[D.int .i64 FB.kind,D.str FB.pat.rel,D.sl (FB.pat.args.map tx),D.str FB.left,D.str FB.right]])) (IntKind.i64.wrap ((i1:Int)+1))) (by first| (simp only[iS bM hm1,mA]<;>rfl)| (simp only[iS bM hm1,mA,ar.c,bh.c,aK.c,Action.c,aH.c,iX.c,jE.c,bS.c,Node.c,bA.c,jR.c]<;>rfl)) (ih1 (i1+1) (cu++([FB])) (dn bM) h)
theorem tE{aF:aH}{r:aj}(h:kC aF=some r):Good prog 56 [D.agg (aH.c aF)] (D.fr 41 5 (r.map aK.c)):=by
 refine gd func56 [[some (41,5)]] 24 fun hr Γ hΓ=>?_
 rw[kC]at h;obtain⟨y1,h2,h⟩:=aE h;refine((aX.g (tF h2)).a [.G2 4,.cn [3,4,10,11,12] [1,2]]).lp hΓ (uD hΓ (fun eA h=>?_) (by have:=(kj.sl (kj.agg (hr _ (aD (i:=0) rfl)) (.sl (aF.conds.map aK.c)) (by simp))).1;simpa using this) aF.conds 0 ([]:aj) rfl h);have h:=aQ h;subst h;exact aX.ret hΓ
def gy(aF:aC)(bB:aC)(k1:Option Bool):aC->Nat->Option Bool
 | [],i1=>(k1)
 |cN::fK,i1=>((lg bB (i1:Int)).bind fun x22=>(bif !((cN:Bytes)==x22)then(some false)else(gy aF bB k1 fK (i1+1))))
def kx(aF:aC)(bB:aC):Option Bool:=(bif (((aF.map tx).length:Int):Int) != ((bB.map tx).length:Int)then(some false)else(gy aF bB (some true) aF 0))
def wN(aF:aC)(bB:aC)(iw:Int):St:=⟨[(0,D.sl (aF.map tx)),(1,D.sl (bB.map tx)),(12,D.int .i64 ((aF.map tx).length:Int)),(13,D.int .i64 iw)],[]⟩
theorem vB(hΓ:Γ.nt=26){aF:aC}{bB:aC}{r:Bool}{k1:Option Bool}(jX:k1=some r->Ax Γ N f139 (.q [[none]] (D.bool r)) [1,1,1] ⟨[],[]⟩)(hm1:aF.length<=maxLen):∀(rest:aC) (i1:Nat),aF.drop i1=rest->gy aF bB k1 rest i1=some r->Ar Γ N f139 (.q [[none]] (D.bool r)) [1,1,0,1,0] (rest.length+1) (wN aF bB (i1:Int)):=by
 intro rest
 induction rest with
 |nil=>
  intro i1 bM h;rw[gy]at h;refine aW fun N1 fI eM=>?_
  exact((aX.ge tx bM).a [.hl 0 [] []]).ex hΓ fI (jX h)
 |cons cN fK ih1=>
  intro i1 bM h;rw[gy]at h;refine aW fun N1 fI eM=>?_
  obtain⟨x22,h23,h⟩:=aE h;have lN:=((((aX.lt tx bM).a [.n 8]).l (cA tx 1 (dc bM) rfl)).l (xK tx 1 h23 rfl))
  obtain⟨h24,h⟩|⟨h24,h⟩:=aO h
  ·have h:=aQ h;subst h;exact(lN.b h24).ret hΓ
  ·exact((lN.b h24).a [.cn [0,1,12,13] []]).ct hΓ eM (iS bM hm1) (ih1 (i1+1) (dn bM) h)
theorem uM{aF:aC}{bB:aC}{r:Bool}(h:kx aF bB=some r):Good prog 139 [D.sl (aF.map tx),D.sl (bB.map tx)] (D.bool r):=by
 refine gd func139 [[none]] 26 fun hr Γ hΓ=>?_
 rw[kx]at h;obtain⟨h1,h⟩|⟨h1,h⟩:=aO h
 ·have h:=aQ h;subst h;exact(aX.b h1).ret hΓ
 ·refine((aX.b h1).a [.cn [0,1,12,13] []]).lp hΓ (vB hΓ (fun h=>?_) (by have:=(kj.sl (hr _ (aD (i:=0) rfl))).1;simpa using this) aF 0 rfl h);have h:=aQ h;subst h;exact aX.ret hΓ
def iL(aF:ar)(bB:ar):Option Bool:=(bif (aF.rel:Bytes)==bB.rel then((kx aF.args bB.args).bind fun y2=>(some y2))else(some false))
theorem ni{aF:ar}{bB:ar}{r:Bool}(h:iL aF bB=some r):Good prog 118 [D.agg (ar.c aF),D.agg (ar.c bB)] (D.bool r):=by
 refine gd func118 [[none]] 17 fun hr Γ hΓ=>?_
 rw[iL]at h;obtain⟨h1,h⟩|⟨h1,h⟩:=aO h
 ·obtain⟨y2,h3,h⟩:=aE h;have h:=aQ h;subst h;exact(((aX.r 5 h1).g (uM h3)).b h1).ret hΓ
 ·have h:=aQ h;subst h;exact(aX.r 6 h1).ret hΓ
def lU(aF:aK)(bB:aK):Option Bool:=(bif (aF.kind:Int)==bB.kind then(bif (aF.left:Bytes)==bB.left then(bif (aF.right:Bytes)==bB.right then((iL aF.pat bB.pat).bind fun y4=>(some y4))else(some false))else(some false))else(some false))
theorem uz{aF:aK}{bB:aK}{r:Bool}(h:lU aF bB=some r):Good prog 90 [D.agg (aK.c aF),D.agg (aK.c bB)] (D.bool r):=by
 refine gd func90 [[none]] 31 fun hr Γ hΓ=>?_
 rw[lU]at h;obtain⟨h1,h⟩|⟨h1,h⟩:=aO h
 ·have nE:=(aX.r 6 h1)
  obtain⟨h2,h⟩|⟨h2,h⟩:=aO h
  ·have lN:=(nE.r 6 h2)
   obtain⟨h3,h⟩|⟨h3,h⟩:=aO h
   ·obtain⟨y4,h5,h⟩:=aE h;have h:=aQ h;subst h;exact(((lN.r 5 h3).g (ni h5)).b h3).ret hΓ
   ·have h:=aQ h;subst h;exact(lN.r 6 h3).ret hΓ
  ·have h:=aQ h;subst h;exact((nE.r 6 h2).F 6).ret hΓ
 ·have h:=aQ h;subst h;exact((aX.r 6 h1).F 12).ret hΓ
def ko(aF:ar):Option ar:=((j5 aF.args).bind fun y1=>((gY (⟨0,aF,[],[]⟩:aK) y1).bind fun y3=>(some y3.pat)))
theorem pq{aF:ar}{r:ar}(h:ko aF=some r):Good prog 92 [D.agg (ar.c aF)] (D.agg [D.str r.rel,D.fr 9 1 (r.args.map tx)]):=by
 refine gd func92 [[none,some (9,1)]] 10 fun hr Γ hΓ=>?_
 rw[ko]at h;obtain⟨y1,h2,h⟩:=aE h;obtain⟨y3,h4,h⟩:=aE h;cases h;exact((((aX.a [.n 5]).g (oB h2)).a [.d (D.agg [D.int .i64 y3.kind,D.str y3.pat.rel,D.fr 9 1 (y3.pat.args.map tx),D.str y3.left,D.str y3.right])]).w (show Good prog 89 [D.agg [D.int .i64 0,D.str aF.rel,D.sl (aF.args.map tx),D.str ([]),D.str ([])],D.sl (y1.map bh.c)] (D.agg [D.int .i64 y3.kind,D.str y3.pat.rel,D.fr 9 1 (y3.pat.args.map tx),D.str y3.left,D.str y3.right])from by first| (simpa only[az,ax,bg,bN,bU]using jJ h4)|exact jJ h4| (have t:=jJ h4;simp only[az,bN,bU,aK.c]at t;exact t))).ret hΓ
def iI(x:bA):aG:=[D.fr 31 4 (x.rules.map aH.c),D.fr 3 1 (x.ends.map yA),D.fr 141 3 (x.eE.map bS.c),D.fr 92 8 (x.nodes.map Node.c),D.fr 47 2 (x.facts.map ar.c),D.int .i64 x.ld]
def cm(aF:bA)(bB:ar)(k1:Option (bA×Int)):cy->Nat->Option (bA×Int)
 | [],i1=>(k1)
 |cN::fK,i1=>((iL cN.shape bB).bind fun HQ=>(bif HQ then(some (aF,(i1:Int)))else(cm aF bB k1 fK (i1+1))))
def eb(aF:bA)(bB:ar):Option (bA×Int):=(bif decide (aF.eE.length<=maxLen)then(cm aF bB (bif room ((aF.eE.map bS.c).length+([[D.str bB.rel,D.sl (bB.args.map tx),D.sl ([])]]).length) 64 then(some ((⟨aF.rules,aF.ends,aF.eE++([(⟨bB,[]⟩:bS)]),aF.nodes,aF.facts,aF.ld⟩:bA),IntKind.i64.wrap ((((aF.eE.map bS.c)++([[D.str bB.rel,D.sl (bB.args.map tx),D.sl ([])]])).length:Int)-1)))else none) aF.eE 0)else none)
def qi(kL:Value)(aF:bA)(bB:ar)(iw:Int):St:=⟨[(0,D.ptr 0 0),(3,D.ptr 1 0),(10,D.acc 2),(11,D.int .i64 ((aF.eE.map bS.c).length:Int)),(12,D.int .i64 iw)],[Ob.yB [D.acc 3,D.acc 4,D.acc 2,D.acc 5,D.acc 6,D.int .i64 aF.ld] kL,Ob.box [D.str bB.rel,D.acc 7],Ob.row .uq 141 3 (aF.eE.map bS.c),Ob.row .uq 31 4 (aF.rules.map aH.c),Ob.row .uq 3 1 (aF.ends.map yA),Ob.row .uq 92 8 (aF.nodes.map Node.c),Ob.row .uq 47 2 (aF.facts.map ar.c),Ob.row .uq 9 1 (bB.args.map tx)]⟩
theorem qH(hΓ:Γ.nt=40){kL:Value}{aF:bA}{bB:ar}{r:bA×Int}{k1:Option (bA×Int)}(jX:k1=some r->Ax Γ N f91 (.p [[some (31,4),some (3,1),some (141,3),some (92,8),some (47,2),none],[none]] kL (iI r.1) (D.int .i64 r.2)) [1,1] ⟨[(0,D.ptr 0 0),(3,D.ptr 1 0)],[Ob.yB [D.acc 2,D.acc 3,D.acc 4,D.acc 5,D.acc 6,D.int .i64 aF.ld] kL,Ob.box [D.str bB.rel,D.acc 7],Ob.row .uq 31 4 (aF.rules.map aH.c),Ob.row .uq 3 1 (aF.ends.map yA),Ob.row .uq 141 3 (aF.eE.map bS.c),Ob.row .uq 92 8 (aF.nodes.map Node.c),Ob.row .uq 47 2 (aF.facts.map ar.c),Ob.row .uq 9 1 (bB.args.map tx)]⟩)(hm1:aF.eE.length<=maxLen):∀(rest:cy) (i1:Nat),aF.eE.drop i1=rest->cm aF bB k1 rest i1=some r->Ar Γ N f91 (.p [[some (31,4),some (3,1),some (141,3),some (92,8),some (47,2),none],[none]] kL (iI r.1) (D.int .i64 r.2)) [1,0,1,0] (rest.length+1) (qi kL aF bB (i1:Int)):=by
 intro rest
 induction rest with
 |nil=>
  intro i1 bM h;rw[cm]at h;refine aW fun N1 fI eM=>?_
  exact((aX.ge bS.c bM).a [.hl 0 [0,3] [0,1,3,4,2,5,6,7]]).ex hΓ fI (jX h)
 |cons cN fK ih1=>
  intro i1 bM h;rw[cm]at h;refine aW fun N1 fI eM=>?_
  obtain⟨HQ,h23,h⟩:=aE h;have lN:=((((aX.lt bS.c bM).i (ke bS.c 3 (dc bM))).o 3 3 .uq (cJ bS.c (dc bM))).g (ni h23))
  obtain⟨h24,h⟩|⟨h24,h⟩:=aO h
  ·cases h;exact(lN.b h24).ret hΓ
  ·exact((lN.b h24).a [.cn [0,3,10,11,12] [0,1,2,3,4,5,6,7]]).ct hΓ eM (iS bM hm1) (ih1 (i1+1) (dn bM) h)
theorem lQ{aF:bA}{bB:ar}{r:bA×Int}(h:eb aF bB=some r):iA prog 91 (iI aF) (iI r.1) [D.agg [D.str bB.rel,D.fr 9 1 (bB.args.map tx)]] (D.int .i64 r.2):=by
 refine Bw func91 [[some (31,4),some (3,1),some (141,3),some (92,8),some (47,2),none],[none]] 40 [D.acc 1,D.acc 2,D.acc 3,D.acc 4,D.acc 5,D.int .i64 aF.ld] [D.agg [D.str bB.rel,D.acc 6]] [Ob.row .uq 31 4 (aF.rules.map aH.c),Ob.row .uq 3 1 (aF.ends.map yA),Ob.row .uq 141 3 (aF.eE.map bS.c),Ob.row .uq 92 8 (aF.nodes.map Node.c),Ob.row .uq 47 2 (aF.facts.map ar.c),Ob.row .uq 9 1 (bB.args.map tx)] fun hr kL Γ hΓ=>?_
 rw[eb]at h;obtain⟨h27,h⟩:=bp h;refine(aX.a [.cn [0,3,10,11,12] [0,7,3,1,2,4,5,6]]).lp hΓ (qH hΓ (fun h=>?_) (bV h27) aF.eE 0 rfl h);obtain⟨h26,h⟩:=bp h;cases h;exact((aX.w (cD h26)).a [.n2 [0,1,2,3,4,5,6,7,8,9,10,11] [0,1,2,3,4,5,6,7,8,9,10,11] 7 9 [0,1,2,3,4] [4,7,8]]).rts hΓ (D.iz [D.int .i64 (IntKind.i64.wrap ((((aF.eE.map bS.c)++([[D.str bB.rel,D.sl (bB.args.map tx),D.sl ([])]])).length:Int)-1)),D.agg [D.fr 31 4 (aF.rules.map aH.c),D.fr 3 1 (aF.ends.map yA),D.fr 141 3 ((aF.eE.map bS.c)++([[D.str bB.rel,D.sl (bB.args.map tx),D.sl ([])]])),D.fr 92 8 (aF.nodes.map Node.c),D.fr 47 2 (aF.facts.map ar.c),D.int .i64 aF.ld],D.val kL]) (by first|rfl| (simp only[mA]<;>rfl)| (simp only[iI,mA]<;>rfl))
def cG(aF:bA)(bB:Int)(jF:aK)(k1:Option (bA×Int)):dL->Nat->Option (bA×Int)
 | [],i1=>(k1)
 |cN::fK,i1=>(bif decide (((i1:Int):Int)>0)then(bif (cN.parent:Int)==bB then((lU cN.cond jF).bind fun SY=>(bif SY then(some (aF,(i1:Int)))else(cG aF bB jF k1 fK (i1+1))))else(cG aF bB jF k1 fK (i1+1)))else(cG aF bB jF k1 fK (i1+1)))
def gG(aF:bA)(bB:Int)(jF:aK):Option (bA×Int):=(bif decide (aF.nodes.length<=maxLen)then(cG aF bB jF (bif (jF.kind:Int)==1 then((ko jF.pat).bind fun Dt=>((eb aF Dt).bind fun Aq=>((fe jF).bind fun zS=>(bif room ((Aq.1.nodes.map Node.c).length+([[D.int .i64 bB,D.int .i64 zS.kind,D.str zS.pat.rel,D.sl (zS.pat.args.map tx),D.str zS.left,D.str zS.right,D.int .i64 Aq.2,D.sl ([])]]).length) 120 then(some ((⟨Aq.1.rules,Aq.1.ends,Aq.1.eE,Aq.1.nodes++([(⟨bB,zS,Aq.2,[]⟩:Node)]),Aq.1.facts,Aq.1.ld⟩:bA),IntKind.i64.wrap ((((Aq.1.nodes.map Node.c)++([[D.int .i64 bB,D.int .i64 zS.kind,D.str zS.pat.rel,D.sl (zS.pat.args.map tx),D.str zS.left,D.str zS.right,D.int .i64 Aq.2,D.sl ([])]])).length:Int)-1)))else none))))else(bif (jF.kind:Int)==2 then((ko jF.pat).bind fun Va=>((eb aF Va).bind fun B2=>((fe jF).bind fun AY=>(bif room ((B2.1.nodes.map Node.c).length+([[D.int .i64 bB,D.int .i64 AY.kind,D.str AY.pat.rel,D.sl (AY.pat.args.map tx),D.str AY.left,D.str AY.right,D.int .i64 B2.2,D.sl ([])]]).length) 120 then(some ((⟨B2.1.rules,B2.1.ends,B2.1.eE,B2.1.nodes++([(⟨bB,AY,B2.2,[]⟩:Node)]),B2.1.facts,B2.1.ld⟩:bA),IntKind.i64.wrap ((((B2.1.nodes.map Node.c)++([[D.int .i64 bB,D.int .i64 AY.kind,D.str AY.pat.rel,D.sl (AY.pat.args.map tx),D.str AY.left,D.str AY.right,D.int .i64 B2.2,D.sl ([])]])).length:Int)-1)))else none))))else((fe jF).bind fun Bz=>(bif room ((aF.nodes.map Node.c).length+([[D.int .i64 bB,D.int .i64 Bz.kind,D.str Bz.pat.rel,D.sl (Bz.pat.args.map tx),D.str Bz.left,D.str Bz.right,D.int .i64 (-1),D.sl ([])]]).length) 120 then(some ((⟨aF.rules,aF.ends,aF.eE,aF.nodes++([(⟨bB,Bz, -1,[]⟩:Node)]),aF.facts,aF.ld⟩:bA),IntKind.i64.wrap ((((aF.nodes.map Node.c)++([[D.int .i64 bB,D.int .i64 Bz.kind,D.str Bz.pat.rel,D.sl (Bz.pat.args.map tx),D.str Bz.left,D.str Bz.right,D.int .i64 (-1),D.sl ([])]])).length:Int)-1)))else none)))) aF.nodes 0)else none)
def qj(kL:Value)(aF:bA)(bB:Int)(jF:aK)(iw:Int):St:=⟨[(0,D.ptr 0 0),(1,D.int .i64 bB),(5,D.ptr 1 0),(13,D.acc 2),(14,D.int .i64 ((aF.nodes.map Node.c).length:Int)),(15,D.int .i64 iw)],[Ob.yB [D.acc 3,D.acc 4,D.acc 5,D.acc 2,D.acc 6,D.int .i64 aF.ld] kL,Ob.box (aK.c jF),Ob.row .uq 92 8 (aF.nodes.map Node.c),Ob.row .uq 31 4 (aF.rules.map aH.c),Ob.row .uq 3 1 (aF.ends.map yA),Ob.row .uq 141 3 (aF.eE.map bS.c),Ob.row .uq 47 2 (aF.facts.map ar.c)]⟩
theorem qI(hΓ:Γ.nt=69){kL:Value}{aF:bA}{bB:Int}{jF:aK}{r:bA×Int}{k1:Option (bA×Int)}(jX:k1=some r->Ax Γ N f57 (.p [[some (31,4),some (3,1),some (141,3),some (92,8),some (47,2),none],[none]] kL (iI r.1) (D.int .i64 r.2)) [1,1] ⟨[(0,D.ptr 0 0),(1,D.int .i64 bB),(5,D.ptr 1 0)],[Ob.yB [D.acc 2,D.acc 3,D.acc 4,D.acc 5,D.acc 6,D.int .i64 aF.ld] kL,Ob.box (aK.c jF),Ob.row .uq 31 4 (aF.rules.map aH.c),Ob.row .uq 3 1 (aF.ends.map yA),Ob.row .uq 141 3 (aF.eE.map bS.c),Ob.row .uq 92 8 (aF.nodes.map Node.c),Ob.row .uq 47 2 (aF.facts.map ar.c)]⟩)(hm1:aF.nodes.length<=maxLen):∀(rest:dL) (i1:Nat),aF.nodes.drop i1=rest->cG aF bB jF k1 rest i1=some r->Ar Γ N f57 (.p [[some (31,4),some (3,1),some (141,3),some (92,8),some (47,2),none],[none]] kL (iI r.1) (D.int .i64 r.2)) [1,0,1,0] (rest.length+1) (qj kL aF bB jF (i1:Int)):=by
 intro rest
 induction rest with
 |nil=>
  intro i1 bM h;rw[cG]at h;refine aW fun N1 fI eM=>?_
  exact((aX.ge Node.c bM).a [.hl 0 [0,1,5] [0,1,3,4,5,2,6]]).ex hΓ fI (jX h)
 |cons cN fK ih1=>
  intro i1 bM h;rw[cG]at h;refine aW fun N1 fI eM=>?_
  have n7:=(((aX.lt Node.c bM).i (ke Node.c 8 (dc bM))).o 8 8 .uq (cJ Node.c (dc bM)))
  obtain⟨h30,h⟩|⟨h30,h⟩:=aO h
  ·have zE:=(n7.r 5 h30)
   obtain⟨h31,h⟩|⟨h31,h⟩:=aO h
   ·obtain⟨SY,h33,h⟩:=aE h;have Bf:=(((zE.r 4 h31).g (uz h33)).b h31)
    obtain⟨h34,h⟩|⟨h34,h⟩:=aO h
    ·cases h;exact(Bf.b h34).ret hΓ
    ·exact((Bf.b h34).a [.cn [0,1,5,13,14,15] [0,1,2,3,4,5,6]]).ct hΓ eM (iS bM hm1) (ih1 (i1+1) (dn bM) h)
   ·exact(((zE.r 5 h31).F 1).a [.cn [0,1,5,13,14,15] [0,1,2,3,4,5,6]]).ct hΓ eM (iS bM hm1) (ih1 (i1+1) (dn bM) h)
  ·exact(((n7.r 5 h30).F 6).a [.cn [0,1,5,13,14,15] [0,1,2,3,4,5,6]]).ct hΓ eM (iS bM hm1) (ih1 (i1+1) (dn bM) h)
theorem pQ{aF:bA}{bB:Int}{jF:aK}{r:bA×Int}(h:gG aF bB jF=some r):iA prog 57 (iI aF) (iI r.1) [D.int .i64 bB,D.agg (aK.c jF)] (D.int .i64 r.2):=by
 refine Bw func57 [[some (31,4),some (3,1),some (141,3),some (92,8),some (47,2),none],[none]] 69 [D.acc 1,D.acc 2,D.acc 3,D.acc 4,D.acc 5,D.int .i64 aF.ld] [D.int .i64 bB,D.agg [D.int .i64 jF.kind,D.str jF.pat.rel,D.sl (jF.pat.args.map tx),D.str jF.left,D.str jF.right]] [Ob.row .uq 31 4 (aF.rules.map aH.c),Ob.row .uq 3 1 (aF.ends.map yA),Ob.row .uq 141 3 (aF.eE.map bS.c),Ob.row .uq 92 8 (aF.nodes.map Node.c),Ob.row .uq 47 2 (aF.facts.map ar.c)] fun hr kL Γ hΓ=>?_
 rw[gG]at h;obtain⟨h63,h⟩:=bp h;refine(aX.a [.cn [0,1,5,13,14,15] [0,6,4,1,2,3,5]]).lp hΓ (qI hΓ (fun h=>?_) (bV h63) aF.nodes 0 rfl h);obtain⟨h35,h⟩|⟨h35,h⟩:=aO h
 ·obtain⟨Dt,h37,h⟩:=aE h;obtain⟨Aq,h39,h⟩:=aE h;obtain⟨zS,h44,h⟩:=aE h;obtain⟨h45,h⟩:=bp h;cases h;exact(((((((aX.r 4 h35).T 1).g (pq h37)).hp [[some (31,4),some (3,1),some (141,3),some (92,8),some (47,2),none],[none,some (9,1)]] (lQ h39)).a [.n2 [0,1,2,3,4,5,6,7,8,9,10,11,12,13,14] [0,1,2,3,4,5,6,7,8,9,10,11,12,13,14] 10 12 [0,1,2,3,4] [11,13,14]]).g (kF h44)).w (cD h45)).rts hΓ (D.iz [D.int .i64 (IntKind.i64.wrap ((((Aq.1.nodes.map Node.c)++([[D.int .i64 bB,D.int .i64 zS.kind,D.str zS.pat.rel,D.sl (zS.pat.args.map tx),D.str zS.left,D.str zS.right,D.int .i64 Aq.2,D.sl ([])]])).length:Int)-1)),D.agg [D.fr 31 4 (Aq.1.rules.map aH.c),D.fr 3 1 (Aq.1.ends.map yA),D.fr 141 3 (Aq.1.eE.map bS.c),D.fr 92 8 ((Aq.1.nodes.map Node.c)++([[D.int .i64 bB,D.int .i64 zS.kind,D.str zS.pat.rel,D.sl (zS.pat.args.map tx),D.str zS.left,D.str zS.right,D.int .i64 Aq.2,D.sl ([])]])),D.fr 47 2 (Aq.1.facts.map ar.c),D.int .i64 Aq.1.ld],D.val kL]) (by first|rfl| (simp only[mA]<;>rfl)| (simp only[iI,mA]<;>rfl))
 ·have Eo:=(aX.r 4 h35)
  obtain⟨h46,h⟩|⟨h46,h⟩:=aO h
  ·obtain⟨Va,h48,h⟩:=aE h;obtain⟨B2,h50,h⟩:=aE h;obtain⟨AY,h55,h⟩:=aE h;obtain⟨h56,h⟩:=bp h;cases h;exact((((((Eo.b h46).g (pq h48)).hp [[some (31,4),some (3,1),some (141,3),some (92,8),some (47,2),none],[none,some (9,1)]] (lQ h50)).a [.n2 [0,1,2,3,4,5,6,7,8,9,10,11,12,13,14] [0,1,2,3,4,5,6,7,8,9,10,11,12,13,14] 10 12 [0,1,2,3,4] [11,13,14]]).g (kF h55)).w (cD h56)).rts hΓ (D.iz [D.int .i64 (IntKind.i64.wrap ((((B2.1.nodes.map Node.c)++([[D.int .i64 bB,D.int .i64 AY.kind,D.str AY.pat.rel,D.sl (AY.pat.args.map tx),D.str AY.left,D.str AY.right,D.int .i64 B2.2,D.sl ([])]])).length:Int)-1)),D.agg [D.fr 31 4 (B2.1.rules.map aH.c),D.fr 3 1 (B2.1.ends.map yA),D.fr 141 3 (B2.1.eE.map bS.c),D.fr 92 8 ((B2.1.nodes.map Node.c)++([[D.int .i64 bB,D.int .i64 AY.kind,D.str AY.pat.rel,D.sl (AY.pat.args.map tx),D.str AY.left,D.str AY.right,D.int .i64 B2.2,D.sl ([])]])),D.fr 47 2 (B2.1.facts.map ar.c),D.int .i64 B2.1.ld],D.val kL]) (by first|rfl| (simp only[mA]<;>rfl)| (simp only[iI,mA]<;>rfl))
  ·obtain⟨Bz,h61,h⟩:=aE h;obtain⟨h62,h⟩:=bp h;cases h;exact((((Eo.b h46).a [.n2 [0,1,2,3,4,5,6,7,8,9,10,11,12,13,14] [0,1,2,3,4,5,6,7,8,9,10,11,12,13,14] 10 12 [0,1,2,3,4] [5,7,8]]).g (kF h61)).w (cD h62)).rts hΓ (D.iz [D.int .i64 (IntKind.i64.wrap ((((aF.nodes.map Node.c)++([[D.int .i64 bB,D.int .i64 Bz.kind,D.str Bz.pat.rel,D.sl (Bz.pat.args.map tx),D.str Bz.left,D.str Bz.right,D.int .i64 (-1),D.sl ([])]])).length:Int)-1)),D.agg [D.fr 31 4 (aF.rules.map aH.c),D.fr 3 1 (aF.ends.map yA),D.fr 141 3 (aF.eE.map bS.c),D.fr 92 8 ((aF.nodes.map Node.c)++([[D.int .i64 bB,D.int .i64 Bz.kind,D.str Bz.pat.rel,D.sl (Bz.pat.args.map tx),D.str Bz.left,D.str Bz.right,D.int .i64 (-1),D.sl ([])]])),D.fr 47 2 (aF.facts.map ar.c),D.int .i64 aF.ld],D.val kL]) (by first|rfl| (simp only[mA]<;>rfl)| (simp only[iI,mA]<;>rfl))
def fN(aF:aZ)(i1:Nat)(xx:aj)(k2:Int->Int->aZ->bC->cy->dL->kT->Option bA):aj->Nat->Int->Int->aZ->bC->cy->dL->kT->Option bA
 | [],i2,Ao,pW,CJ,mH,CK,oN,CL=>(k2 Ao pW CJ mH CK oN CL)
 |wv::yC,i2,Ao,pW,CJ,mH,CK,oN,CL=>((gG (⟨CJ,mH,CK,oN,CL,pW⟩:bA) Ao wv).bind fun tX=>(fN aF i1 xx k2 yC (i2+1) tX.2 tX.1.ld tX.1.rules tX.1.ends tX.1.eE tX.1.nodes tX.1.facts))
def fM(aF:aZ)(k1:Int->aZ->bC->cy->dL->kT->Option bA):aZ->Nat->Int->aZ->bC->cy->dL->kT->Option bA
 | [],i1,pV,rG,dH,CG,CH,CI=>(k1 pV rG dH CG CH CI)
 |cN::fK,i1,pV,rG,dH,CG,CH,CI=>((kC cN).bind fun xx=>(bif decide (xx.length<=maxLen)then(fN aF i1 xx (fun(F7:Int) (xu:Int) (G3:aZ) (rR:bC) (G4:cy) (rS:dL) (G5:kT)=>(bif room ((rR.map yA).length+([[D.int .i64 F7]]).length) 8 then(fM aF k1 fK (i1+1) xu G3 (rR++([F7])) G4 rS G5)else none)) xx 0 0 pV rG dH CG CH CI)else none))
def jc(aF:aZ):Option bA:=((kr aF).bind fun y1=>(fM aF (fun(Bj:Int) (mO:aZ) (gS:bC) (Kb:cy) (Kc:dL) (Ke:kT)=>(some (⟨mO,gS,Kb,Kc,Ke,Bj⟩:bA))) aF 0 0 y1 ([]:bC) ([]:cy) ([(⟨-1,(⟨0,(⟨[],[]⟩:ar),[],[]⟩:aK), -1,[]⟩:Node)]) ([]:kT)))
def nB(aF:aZ)(pV:Int)(W1:List aG)(W2:List aG)(W3:List aG)(W4:List aG)(W5:List aG)(iw:Int):St:=⟨[(2,D.ptr 0 0),(3,D.ptr 1 0),(14,D.sl (aF.map aH.c)),(15,D.int .i64 ((aF.map aH.c).length:Int)),(16,D.int .i64 iw)],[Ob.box [D.nil,D.nil,D.nil,D.nil,D.nil,D.int .i64 0],Ob.box [D.acc 2,D.acc 3,D.acc 4,D.acc 5,D.acc 6,D.int .i64 pV],Ob.row .uq 31 4 W1,Ob.row .uq 3 1 W2,Ob.row .uq 141 3 W3,Ob.row .uq 92 8 W4,Ob.row .uq 47 2 W5]⟩
def wO(aF:aZ)(i1:Nat)(xx:aj)(Ao:Int)(pW:Int)(W2:List aG)(W3:List aG)(W4:List aG)(W5:List aG)(W6:List aG)(iw:Int):St:=⟨[(2,D.ptr 0 0),(3,D.ptr 1 0),(6,D.int .i64 Ao),(14,D.sl (aF.map aH.c)),(15,D.int .i64 ((aF.map aH.c).length:Int)),(16,D.int .i64 (i1:Int)),(21,D.acc 2),(22,D.int .i64 ((xx.map aK.c).length:Int)),(23,D.int .i64 iw)],[Ob.box [D.nil,D.nil,D.nil,D.nil,D.nil,D.int .i64 0],Ob.box [D.acc 3,D.acc 4,D.acc 5,D.acc 6,D.acc 7,D.int .i64 pW],Ob.row .uq 41 5 (xx.map aK.c),Ob.row .uq 31 4 W2,Ob.row .uq 3 1 W3,Ob.row .uq 141 3 W4,Ob.row .uq 92 8 W5,Ob.row .uq 47 2 W6]⟩
theorem vD(hΓ:Γ.nt=39){aF:aZ}{i1:Nat}{xx:aj}{r:bA}{k2:Int->Int->aZ->bC->cy->dL->kT->Option bA}(D6:∀(F7:Int) (xu:Int) (G3:aZ) (rR:bC) (G4:cy) (rS:dL) (G5:kT),k2 F7 xu G3 rR G4 rS G5=some r->Ax Γ N f20 (.q [[some (31,4),some (3,1),some (141,3),some (92,8),some (47,2),none]] (D.agg [D.fr 31 4 (r.rules.map aH.c),D.fr 3 1 (r.ends.map yA),D.fr 141 3 (r.eE.map bS.c),D.fr 92 8 (r.nodes.map Node.c),D.fr 47 2 (r.facts.map ar.c),D.int .i64 r.ld])) [1,1,0,1,0,0,1,1,0,0,1,1,1] ⟨[(2,D.ptr 0 0),(3,D.ptr 1 0),(6,D.int .i64 F7),(14,D.sl (aF.map aH.c)),(15,D.int .i64 ((aF.map aH.c).length:Int)),(16,D.int .i64 (i1:Int))],[Ob.box [D.nil,D.nil,D.nil,D.nil,D.nil,D.int .i64 0],Ob.box [D.acc 2,D.acc 3,D.acc 4,D.acc 5,D.acc 6,D.int .i64 xu],Ob.row .uq 31 4 (G3.map aH.c),Ob.row .uq 3 1 (rR.map yA),Ob.row .uq 141 3 (G4.map bS.c),Ob.row .uq 92 8 (rS.map Node.c),Ob.row .uq 47 2 (G5.map ar.c)]⟩)(hm2:xx.length<=maxLen):∀(rest:aj) (i2:Nat) (Ao:Int) (pW:Int) (CJ:aZ) (mH:bC) (CK:cy) (oN:dL) (CL:kT),xx.drop i2=rest->fN aF i1 xx k2 rest i2 Ao pW CJ mH CK oN CL=some r->Ar Γ N f20 (.q [[some (31,4),some (3,1),some (141,3),some (92,8),some (47,2),none]] (D.agg [D.fr 31 4 (r.rules.map aH.c),D.fr 3 1 (r.ends.map yA),D.fr 141 3 (r.eE.map bS.c),D.fr 92 8 (r.nodes.map Node.c),D.fr 47 2 (r.facts.map ar.c),D.int .i64 r.ld])) [1,1,0,1,0,0,1,1,0,0,1,1,0,1,0] (rest.length+1) (wO aF i1 xx Ao pW (CJ.map aH.c) (mH.map yA) (CK.map bS.c) (oN.map Node.c) (CL.map ar.c) (i2:Int)):=by
 intro rest
 induction rest with
 |nil=>
  intro i2 Ao pW CJ mH CK oN CL hd2 h;rw[fN]at h;refine aW fun N2 zW wA=>?_
  exact((aX.ge aK.c hd2).a [.hl 5 [2,3,6,14,15,16] [0,1,3,4,5,6,7]]).ex hΓ zW (D6 Ao pW CJ mH CK oN CL h)
 |cons wv yC ih2=>
  intro i2 Ao pW CJ mH CK oN CL hd2 h;rw[fN]at h;refine aW fun N2 zW wA=>?_
  obtain⟨tX,h209,h⟩:=aE h;exact((((((aX.lt aK.c hd2).i (ke aK.c 5 (dc hd2))).o 5 5 .uq (cJ aK.c (dc hd2))).a [.gp [[some (31,4),some (3,1),some (141,3),some (92,8),some (47,2),none],[none],[none,none,none,none,none]] (iI tX.1) (D.int .i64 tX.2)]).w (show iA prog 57 (iI (⟨CJ,mH,CK,oN,CL,pW⟩:bA)) (iI tX.1) [D.int .i64 Ao,D.agg (aK.c wv)] (D.int .i64 tX.2)from by simpa only[az,ax,bg,bN,bU]using pQ h209)).a [.cn [2,3,6,14,15,16,21,22,23] [0,1,2,9,10,11,12,13]]).ct hΓ wA (iS hd2 hm2) (ih2 (i2+1) tX.2 tX.1.ld tX.1.rules tX.1.ends tX.1.eE tX.1.nodes tX.1.facts (dn hd2) h)
theorem vC(hΓ:Γ.nt=39){aF:aZ}{r:bA}{k1:Int->aZ->bC->cy->dL->kT->Option bA}(jX:∀(Bj:Int) (mO:aZ) (gS:bC) (Kb:cy) (Kc:dL) (Ke:kT),k1 Bj mO gS Kb Kc Ke=some r->Ax Γ N f20 (.q [[some (31,4),some (3,1),some (141,3),some (92,8),some (47,2),none]] (D.agg [D.fr 31 4 (r.rules.map aH.c),D.fr 3 1 (r.ends.map yA),D.fr 141 3 (r.eE.map bS.c),D.fr 92 8 (r.nodes.map Node.c),D.fr 47 2 (r.facts.map ar.c),D.int .i64 r.ld])) [1,1,1] ⟨[(2,D.ptr 0 0),(3,D.ptr 1 0)],[Ob.box [D.nil,D.nil,D.nil,D.nil,D.nil,D.int .i64 0],Ob.box [D.acc 2,D.acc 3,D.acc 4,D.acc 5,D.acc 6,D.int .i64 Bj],Ob.row .uq 31 4 (mO.map aH.c),Ob.row .uq 3 1 (gS.map yA),Ob.row .uq 141 3 (Kb.map bS.c),Ob.row .uq 92 8 (Kc.map Node.c),Ob.row .uq 47 2 (Ke.map ar.c)]⟩)(hm1:aF.length<=maxLen):∀(rest:aZ) (i1:Nat) (pV:Int) (rG:aZ) (dH:bC) (CG:cy) (CH:dL) (CI:kT),aF.drop i1=rest->fM aF k1 rest i1 pV rG dH CG CH CI=some r->Ar Γ N f20 (.q [[some (31,4),some (3,1),some (141,3),some (92,8),some (47,2),none]] (D.agg [D.fr 31 4 (r.rules.map aH.c),D.fr 3 1 (r.ends.map yA),D.fr 141 3 (r.eE.map bS.c),D.fr 92 8 (r.nodes.map Node.c),D.fr 47 2 (r.facts.map ar.c),D.int .i64 r.ld])) [1,1,0,1,0] (rest.length+1) (nB aF pV (rG.map aH.c) (dH.map yA) (CG.map bS.c) (CH.map Node.c) (CI.map ar.c) (i1:Int)):=by
 intro rest
 induction rest with
 |nil=>
  intro i1 pV rG dH CG CH CI bM h;rw[fM]at h;refine aW fun N1 fI eM=>?_
  exact((aX.ge aH.c bM).a [.hl 0 [2,3] [0,1,2,3,4,5,6]]).ex hΓ fI (jX pV rG dH CG CH CI h)
 |cons cN fK ih1=>
  intro i1 pV rG dH CG CH CI bM h;rw[fM]at h;refine aW fun N1 fI eM=>?_
  obtain⟨xx,h180,h⟩:=aE h;obtain⟨h211,h⟩:=bp h;refine((((aX.lt aH.c bM).l (cA aH.c 4 (dc bM) rfl)).g (tE h180)).a [.cn [2,3,6,14,15,16,21,22,23] [0,1,8,2,3,4,5,6]]).lp hΓ (vD hΓ (fun F7 xu G3 rR G4 rS G5 h=>?_) (bV h211) xx 0 0 pV rG dH CG CH CI rfl h);obtain⟨h210,h⟩:=bp h;exact((aX.w (cD h210)).a [.cn [2,3,14,15,16] [0,1,2,8,4,5,6]]).cs hΓ eM (nB aF xu (G3.map aH.c) ((rR.map yA)++([[D.int .i64 F7]])) (G4.map bS.c) (rS.map Node.c) (G5.map ar.c) (IntKind.i64.wrap ((i1:Int)+1))) (by first| (simp only[iS bM hm1,mA]<;>rfl)| (simp only[iS bM hm1,mA,ar.c,bh.c,aK.c,Action.c,aH.c,iX.c,jE.c,bS.c,Node.c,bA.c,jR.c]<;>rfl)) (ih1 (i1+1) xu G3 (rR++([F7])) G4 rS G5 (dn bM) h)
theorem uN{aF:aZ}{r:bA}(h:jc aF=some r):Good prog 20 [D.sl (aF.map aH.c)] (D.agg [D.fr 31 4 (r.rules.map aH.c),D.fr 3 1 (r.ends.map yA),D.fr 141 3 (r.eE.map bS.c),D.fr 92 8 (r.nodes.map Node.c),D.fr 47 2 (r.facts.map ar.c),D.int .i64 r.ld]):=by
 refine gd func20 [[some (31,4),some (3,1),some (141,3),some (92,8),some (47,2),none]] 39 fun hr Γ hΓ=>?_
 rw[jc]at h;obtain⟨y1,h2,h⟩:=aE h;refine((aX.g (uJ h2)).a [.pb 3 1 3 1,.pb 3 2 141 3,.pb 3 4 47 2,.cn [2,3,14,15,16] [0,3,1,4,5,2,6]]).Ub hΓ (nB aF 0 (y1.map aH.c) ([]:List aG) ([]:List aG) ([[D.int .i64 (-1),D.int .i64 0,D.str ([]),D.sl ([]),D.str ([]),D.str ([]),D.int .i64 (-1),D.sl ([])]]) ([]:List aG) 0) (by first| (simp only[mA]<;>rfl)| (simp only[mA,ar.c,bh.c,aK.c,Action.c,aH.c,iX.c,jE.c,bS.c,Node.c,bA.c,jR.c]<;>rfl)) (vC hΓ (fun Bj mO gS Kb Kc Ke h=>?_) (by have:=(kj.sl (hr _ (aD (i:=0) rfl))).1;simpa using this) aF 0 0 y1 ([]:bC) ([]:cy) ([(⟨-1,(⟨0,(⟨[],[]⟩:ar),[],[]⟩:aK), -1,[]⟩:Node)]) ([]:kT) rfl h);cases h;exact aX.ret hΓ
def eV(aF:aZ)(k1:Int->Option Int):aZ->Nat->Int->Option Int
 | [],i1,fD=>(k1 fD)
 |cN::fK,i1,fD=>(eV aF k1 fK (i1+1) (IntKind.i64.wrap (fD+((cN.conds.map aK.c).length:Int))))
def iM(aF:aZ):Option Int:=((lR aF).bind fun y1=>(bif !(y1)then(some (-1))else(eV aF (fun(AD:Int)=>((jc aF).bind fun Ds=>(some (IntKind.i64.wrap (AD-(IntKind.i64.wrap (((Ds.nodes.map Node.c).length:Int)-1))))))) aF 0 0)))
def uG(aF:aZ)(fD:Int)(iw:Int):St:=⟨[(0,D.sl (aF.map aH.c)),(3,D.int .i64 fD),(9,D.sl (aF.map aH.c)),(10,D.int .i64 ((aF.map aH.c).length:Int)),(11,D.int .i64 iw)],[]⟩
theorem tG(hΓ:Γ.nt=28){aF:aZ}{r:Int}{k1:Int->Option Int}(jX:∀(AD:Int),k1 AD=some r->Ax Γ N f7 (.q [[none]] (D.int .i64 r)) [1,1,1,1] ⟨[(0,D.sl (aF.map aH.c)),(3,D.int .i64 AD)],[]⟩)(hm1:aF.length<=maxLen):∀(rest:aZ) (i1:Nat) (fD:Int),aF.drop i1=rest->eV aF k1 rest i1 fD=some r->Ar Γ N f7 (.q [[none]] (D.int .i64 r)) [1,1,1,0,1,0] (rest.length+1) (uG aF fD (i1:Int)):=by
 intro rest
 induction rest with
 |nil=>
  intro i1 fD bM h;rw[eV]at h;refine aW fun N1 fI eM=>?_
  exact((aX.ge aH.c bM).a [.hl 0 [0,3] []]).ex hΓ fI (jX fD h)
 |cons cN fK ih1=>
  intro i1 fD bM h;rw[eV]at h;refine aW fun N1 fI eM=>?_
  exact(((aX.lt aH.c bM).l (cA aH.c 4 (dc bM) rfl)).a [.cn [0,3,9,10,11] []]).ct hΓ eM (iS bM hm1) (ih1 (i1+1) (IntKind.i64.wrap (fD+((cN.conds.map aK.c).length:Int))) (dn bM) h)
theorem gK{aF:aZ}{r:Int}(h:iM aF=some r):Good prog 7 [D.sl (aF.map aH.c)] (D.int .i64 r):=by
 refine gd func7 [[none]] 28 fun hr Γ hΓ=>?_
 rw[iM]at h;obtain⟨y1,h2,h⟩:=aE h;obtain⟨h3,h⟩|⟨h3,h⟩:=aO h
 ·cases h;exact((aX.g (ot h2)).b h3).ret hΓ
 ·refine(((aX.g (ot h2)).b h3).a [.cn [0,3,9,10,11] []]).lp hΓ (tG hΓ (fun AD h=>?_) (by have:=(kj.sl (hr _ (aD (i:=0) rfl))).1;simpa using this) aF 0 0 rfl h);obtain⟨Ds,h16,h⟩:=aE h;cases h;exact(aX.g (uN h16)).ret hΓ
def fy(aF:aZ)(bB:Bytes)(k1:Option Int):aZ->Nat->Option Int
 | [],i1=>(k1)
 |cN::fK,i1=>(bif (cN.name:Bytes)==bB then(some (i1:Int))else(fy aF bB k1 fK (i1+1)))
def lV(aF:aZ)(bB:Bytes):Option Int:=(fy aF bB (some (-1)) aF 0)
def xT(aF:aZ)(bB:Bytes)(iw:Int):St:=⟨[(0,D.sl (aF.map aH.c)),(1,D.str bB),(5,D.int .i64 iw)],[]⟩
theorem wT(hΓ:Γ.nt=20){aF:aZ}{bB:Bytes}{r:Int}{k1:Option Int}(jX:k1=some r->Ax Γ N f21 (.q [[none]] (D.int .i64 r)) [1,1] ⟨[],[]⟩)(hm1:aF.length<=maxLen):∀(rest:aZ) (i1:Nat),aF.drop i1=rest->fy aF bB k1 rest i1=some r->Ar Γ N f21 (.q [[none]] (D.int .i64 r)) [1,0,1,0] (rest.length+1) (xT aF bB (i1:Int)):=by
 intro rest
 induction rest with
 |nil=>
  intro i1 bM h;rw[fy]at h;refine aW fun N1 fI eM=>?_
  exact((aX.ge aH.c bM).a [.hl 0 [] []]).ex hΓ fI (jX h)
 |cons cN fK ih1=>
  intro i1 bM h;rw[fy]at h;refine aW fun N1 fI eM=>?_
  have lN:=((aX.lt aH.c bM).l (cA aH.c 4 (dc bM) rfl))
  obtain⟨h13,h⟩|⟨h13,h⟩:=aO h
  ·cases h;exact(lN.b h13).ret hΓ
  ·exact((lN.b h13).a [.cn [0,1,5] []]).ct hΓ eM (iS bM hm1) (ih1 (i1+1) (dn bM) h)
theorem vI{aF:aZ}{bB:Bytes}{r:Int}(h:lV aF bB=some r):Good prog 21 [D.sl (aF.map aH.c),D.str bB] (D.int .i64 r):=by
 refine gd func21 [[none]] 20 fun hr Γ hΓ=>?_
 rw[lV]at h;refine(aX.a [.cn [0,1,5] []]).lp hΓ (wT hΓ (fun h=>?_) (by have:=(kj.sl (hr _ (aD (i:=0) rfl))).1;simpa using this) aF 0 rfl h);cases h;exact aX.ret hΓ
def fw(aF:aZ)(k1:Option Bool):aZ->Nat->Option Bool
 | [],i1=>(k1)
 |cN::fK,i1=>((iY cN).bind fun rK=>(bif !(rK)then(some false)else((lV aF cN.name).bind fun Dt=>(bif (Dt:Int) != (i1:Int)then(some false)else(fw aF k1 fK (i1+1))))))
def k7(aF:aZ):Option Bool:=(fw aF (some (decide ((((aF.map aH.c).length:Int):Int)<=6))) aF 0)
def xS(aF:aZ)(iw:Int):St:=⟨[(0,D.sl (aF.map aH.c)),(3,D.int .i64 iw)],[]⟩
theorem wQ(hΓ:Γ.nt=30){aF:aZ}{r:Bool}{k1:Option Bool}(jX:k1=some r->Ax Γ N f8 (.q [[none]] (D.bool r)) [1,1] ⟨[(0,D.sl (aF.map aH.c))],[]⟩)(hm1:aF.length<=maxLen):∀(rest:aZ) (i1:Nat),aF.drop i1=rest->fw aF k1 rest i1=some r->Ar Γ N f8 (.q [[none]] (D.bool r)) [1,0,1,0] (rest.length+1) (xS aF (i1:Int)):=by
 intro rest
 induction rest with
 |nil=>
  intro i1 bM h;rw[fw]at h;refine aW fun N1 fI eM=>?_
  exact((aX.ge aH.c bM).a [.hl 0 [0] []]).ex hΓ fI (jX h)
 |cons cN fK ih1=>
  intro i1 bM h;rw[fw]at h;refine aW fun N1 fI eM=>?_
  obtain⟨rK,h34,h⟩:=aE h;have nF:=(((aX.lt aH.c bM).l (cA aH.c 4 (dc bM) rfl)).g (dG h34))
  obtain⟨h35,h⟩|⟨h35,h⟩:=aO h
  ·have h:=aQ h;subst h;exact((nF.r 10 h35).T 1).ret hΓ
  ·obtain⟨Dt,h37,h⟩:=aE h;have n7:=(((((nF.r 4 h35).l (cA aH.c 4 (dc bM) rfl)).r 3 h35).g (vI h37)).r 3 h35)
   obtain⟨h38,h⟩|⟨h38,h⟩:=aO h
   ·have h:=aQ h;subst h;exact(n7.b h38).ret hΓ
   ·exact((n7.b h38).a [.cn [0,3] []]).ct hΓ eM (iS bM hm1) (ih1 (i1+1) (dn bM) h)
theorem ij{aF:aZ}{r:Bool}(h:k7 aF=some r):Good prog 8 [D.sl (aF.map aH.c)] (D.bool r):=by
 refine gd func8 [[none]] 30 fun hr Γ hΓ=>?_
 rw[k7]at h;refine(aX.a [.cn [0,3] []]).lp hΓ (wQ hΓ (fun h=>?_) (by have:=(kj.sl (hr _ (aD (i:=0) rfl))).1;simpa using this) aF 0 rfl h);cases h;exact aX.ret hΓ
end Go.Cx

/- What functions of the program compute, and the walks that show it. No condition. -/
import Derived.Test.YtolgbnoielbngaaGreatDoorPFnSwappedG3
set_option linter.unusedVariables false
set_option linter.unusedSimpArgs false
namespace Go.Cx
open Go.RowKit Go.Proofs Tryz
set_option maxRecDepth 100000
variable{Γ:oK}{N:Nat->St->Prop}
def jb(aF:bw)(k1:Int->Option bt):bw->Nat->Int->Option bt
 | [],i1,iZ=>(k1 iZ)
 |bu::fY,i1,iZ=>(bif decide (((i1:Int):Int)<4000)then(jb aF k1 fY (i1+1) (yE .i64 (IntKind.i64.wrap ((IntKind.i64.wrap ((IntKind.i64.wrap (iZ*167))+(IntKind.i64.wrap bu)))+29)) 1073741823))else(k1 iZ))
def p9(aF:bw):Option bt:=(bif decide (aF.length<=maxLen)then(jb aF (fun(Mq:Int)=>(some (⟨aF,0,Mq⟩:bt))) aF 0 (IntKind.i64.wrap (851207+(IntKind.i64.wrap (3*((aF.map yx).length:Int))))))else none)
def Bc(aF:bw)(iZ:Int)(jc:Int):St:=⟨[(0,D.sl (aF.map yx)),(3,D.int .i64 iZ),(4,D.int .i64 jc)],[]⟩
theorem Au(hΓ:Γ.nt=33){aF:bw}{r:bt}{k1:Int->Option bt}(ju:∀(Mq:Int),k1 Mq=some r->Ax Γ N f15 (.n (bt.c r)) [1,1,1] ⟨[(0,D.sl (aF.map yx)),(3,D.int .i64 Mq)],[]⟩)(hm1:aF.length<=maxLen):∀(rest:bw) (i1:Nat) (iZ:Int),aF.drop i1=rest->jb aF k1 rest i1 iZ=some r->Ar Γ N f15 (.n (bt.c r)) [1,1,0,1,0] (rest.length+1) (Bc aF iZ (i1:Int)):=by
 intro rest
 induction rest with
 |nil=>
  intro i1 iZ bL h;rw[jb]at h;refine aa fun N1 hN1 eT=>?_
  exact(((((aW.ge yx bL).ge yx bL).ge yx bL).F 1).a [.hl 0 [0,3] []]).ex hΓ hN1 (ju iZ h)
 |cons bu fY ih1=>
  intro i1 iZ bL h;rw[jb]at h;refine aa fun N1 hN1 eT=>?_
  have lH:=(((aW.lt yx bL).lt yx bL).lt yx bL)
  obtain⟨h13,h⟩|⟨h13,h⟩:=aL h
  ·exact(((lH.b h13).l (cI yx 1 (dc bL) rfl)).a [.cn [0,3,4] []]).ct hΓ eT (iS bL hm1) (ih1 (i1+1) (yE .i64 (IntKind.i64.wrap ((IntKind.i64.wrap ((IntKind.i64.wrap (iZ*167))+(IntKind.i64.wrap bu)))+29)) 1073741823) (dn bL) h)
  ·exact((lH.b h13).a [.hl 0 [0,3] []]).ex hΓ hN1 (ju iZ h)
theorem zU{aF:bw}{r:bt}(h:p9 aF=some r):z8 prog 15 [D.sl (aF.map yx)] (bt.c r):=by
 refine Xh func15 33 fun hr Γ hΓ=>?_
 rw[p9]at h;obtain⟨h14,h⟩:=bY h;refine(aW.a [.cn [0,3,4] []]).lp hΓ (Au hΓ (fun Mq h=>?_) (bn h14) aF 0 (IntKind.i64.wrap (851207+(IntKind.i64.wrap (3*((aF.map yx).length:Int))))) rfl h);cases h;exact aW.ret hΓ
def js(aF:bt):Option (bt×Int):=(bif decide ((aF.i:Int)<((aF.b.map yx).length:Int))then((lG aF.b aF.i).bind fun x2=>(some ((⟨aF.b,IntKind.i64.wrap (aF.i+1),IntKind.i64.wrap ((IntKind.i64.wrap (aF.h*6364136223846793005))+1442695040888963407)⟩:bt),yE .i64 (IntKind.i64.wrap ((yE .i64 (Hz .i64 (G8 .i64 (IntKind.i64.wrap ((IntKind.i64.wrap (aF.h*6364136223846793005))+1442695040888963407)) 35) (G8 .i64 (IntKind.i64.wrap ((IntKind.i64.wrap (aF.h*6364136223846793005))+1442695040888963407)) 45)) 255)+(IntKind.i64.wrap x2))) 255)))else(some ((⟨aF.b,aF.i,IntKind.i64.wrap ((IntKind.i64.wrap (aF.h*6364136223846793005))+1442695040888963407)⟩:bt),yE .i64 (Hz .i64 (G8 .i64 (IntKind.i64.wrap ((IntKind.i64.wrap (aF.h*6364136223846793005))+1442695040888963407)) 35) (G8 .i64 (IntKind.i64.wrap ((IntKind.i64.wrap (aF.h*6364136223846793005))+1442695040888963407)) 45)) 255)))
theorem lm{aF:bt}{r:bt×Int}(h:js aF=some r):iR prog 79 (bt.c aF) (bt.c r.1) [] (D.int .i64 r.2):=by
 refine CH func79 [[none,none,none],[none]] 58 [D.sl (aF.b.map yx),D.int .i64 aF.i,D.int .i64 aF.h] [] [] fun hr lX Γ hΓ=>?_
 rw[js]at h;obtain⟨h1,h⟩|⟨h1,h⟩:=aL h
 ·obtain⟨x2,h3,h⟩:=aC h;cases h;exact((((aW.a [.n 10,.n 9]).b h1).a [.n 12]).l (jI yx 1 h3 rfl)).ret hΓ
 ·cases h;exact((aW.a [.n 10,.n 9]).b h1).ret hΓ
def cH(aF:bt)(ay:Int):Option (bt×Int):=(bif decide ((ay:Int)<=0)then(some (aF,0))else(bif decide ((ay:Int)<=256)then((js aF).bind fun y3=>(bif decide (0<=(y3.2:Int))&&decide (0<(ay:Int))then(some (y3.1,(y3.2:Int)%ay))else none))else((js aF).bind fun y6=>((js y6.1).bind fun y8=>((js y8.1).bind fun Cs=>(bif decide (0<=(IntKind.i64.wrap ((IntKind.i64.wrap ((IntKind.i64.wrap (y6.2*65536))+(IntKind.i64.wrap (y8.2*256))))+Cs.2):Int))&&decide (0<(ay:Int))then(some (Cs.1,(IntKind.i64.wrap ((IntKind.i64.wrap ((IntKind.i64.wrap (y6.2*65536))+(IntKind.i64.wrap (y8.2*256))))+Cs.2):Int)%ay))else none))))))
theorem br{aF:bt}{ay:Int}{r:bt×Int}(h:cH aF ay=some r):iR prog 47 (bt.c aF) (bt.c r.1) [D.int .i64 ay] (D.int .i64 r.2):=by
 refine CH func47 [[none,none,none],[none]] 31 [D.sl (aF.b.map yx),D.int .i64 aF.i,D.int .i64 aF.h] [D.int .i64 ay] [] fun hr lX Γ hΓ=>?_
 rw[cH]at h;obtain⟨h1,h⟩|⟨h1,h⟩:=aL h
 ·cases h;exact(aW.b h1).ret hΓ
 ·obtain⟨h2,h⟩|⟨h2,h⟩:=aL h
  ·obtain⟨y3,h4,h⟩:=aC h;obtain⟨h5,h⟩:=bY h;cases h;exact((((aW.b h1).b h2).hp [[none,none,none]] (lm h4)).w (Ee .i64 h5)).ret hΓ
  ·obtain⟨y6,h7,h⟩:=aC h;obtain⟨y8,h9,h⟩:=aC h;obtain⟨Cs,h11,h⟩:=aC h;obtain⟨h12,h⟩:=bY h;cases h;exact((((((aW.b h1).b h2).hp [[none,none,none]] (lm h7)).hp [[none,none,none]] (lm h9)).hp [[none,none,none]] (lm h11)).w (Ee .i64 h12)).ret hΓ
def gG(aF:bt)(ay:Int):Option (bt×Bool):=((cH aF ay).bind fun y1=>(some (y1.1,(y1.2:Int)==0)))
theorem fI{aF:bt}{ay:Int}{r:bt×Bool}(h:gG aF ay=some r):iR prog 17 (bt.c aF) (bt.c r.1) [D.int .i64 ay] (D.bool r.2):=by
 refine CH func17 [[none,none,none],[none]] 9 [D.sl (aF.b.map yx),D.int .i64 aF.i,D.int .i64 aF.h] [D.int .i64 ay] [] fun hr lX Γ hΓ=>?_
 rw[gG]at h;obtain⟨y1,h2,h⟩:=aC h;cases h;exact(aW.hp [[none,none,none],[none]] (br h2)).ret hΓ
def kp(aF:bt):Option (bt×(Bytes×Int)):=((cH aF 6).bind fun y1=>((lG ([[111,110],[111,110],[97,116],[112],[113],[122]]:aD) y1.2).bind fun x3=>((lG ([2,2,2,1,1,0]:bw) y1.2).bind fun x5=>(some (y1.1,(x3,x5))))))
theorem sx{aF:bt}{r:bt×(Bytes×Int)}(h:kp aF=some r):iR prog 122 (bt.c aF) (bt.c r.1) [] (D.gj [D.str r.2.1,D.int .i64 r.2.2]):=by
 refine CH func122 [[none,none,none],[none],[none]] 15 [D.sl (aF.b.map yx),D.int .i64 aF.i,D.int .i64 aF.h] [] [] fun hr lX Γ hΓ=>?_
 rw[kp]at h;obtain⟨y1,h2,h⟩:=aC h;obtain⟨x3,h4,h⟩:=aC h;obtain⟨x5,h6,h⟩:=aC h;cases h;exact(((((aW.hp [[none,none,none],[none]] (br h2)).a [.n 9,.vw 0]).l (jI tx 1 h4 rfl)).a [.vw 0]).l (jI Ns 1 h6 rfl)).ret hΓ
def ji(aF:bt)(ay:aD):Option (bt×Bytes):=((cH aF ((ay.map tx).length:Int)).bind fun y1=>((lG ay y1.2).bind fun x3=>(some (y1.1,x3))))
theorem ko{aF:bt}{ay:aD}{r:bt×Bytes}(h:ji aF ay=some r):iR prog 83 (bt.c aF) (bt.c r.1) [D.fr 9 1 (ay.map tx)] (D.str r.2):=by
 refine CH func83 [[none,none,none],[none]] 12 [D.sl (aF.b.map yx),D.int .i64 aF.i,D.int .i64 aF.h] [D.acc 1] [Ob.row .uq 9 1 (ay.map tx)] fun hr lX Γ hΓ=>?_
 rw[ji]at h;obtain⟨y1,h2,h⟩:=aC h;obtain⟨x3,h4,h⟩:=aC h;cases h;exact(((aW.hp [[none,none,none],[none]] (br h2)).i (iY tx 1 h4)).o 1 1 .uq (cB tx (fB h4))).ret hΓ
def gm(aF:bt):Option (bt×Bytes):=((ji aF ([[97],[98],[99],[49],[50]]:aD)).bind fun y1=>(some (y1.1,y1.2)))
theorem oO{aF:bt}{r:bt×Bytes}(h:gm aF=some r):iR prog 119 (bt.c aF) (bt.c r.1) [] (D.str r.2):=by
 refine CH func119 [[none,none,none],[none]] 6 [D.sl (aF.b.map yx),D.int .i64 aF.i,D.int .i64 aF.h] [] [] fun hr lX Γ hΓ=>?_
 rw[gm]at h;obtain⟨y1,h2,h⟩:=aC h;cases h;exact(aW.hp [[none,none,none],[some (9,1)]] (ko h2)).ret hΓ
def jt(aF:bt):Option (bt×Bytes):=((gG aF 4).bind fun y1=>(bif y1.2 then((gm y1.1).bind fun y4=>(some (y4.1,y4.2)))else((ji y1.1 ([[63,120],[63,121],[63,122]]:aD)).bind fun y6=>(some (y6.1,y6.2)))))
theorem oP{aF:bt}{r:bt×Bytes}(h:jt aF=some r):iR prog 134 (bt.c aF) (bt.c r.1) [] (D.str r.2):=by
 refine CH func134 [[none,none,none],[none]] 10 [D.sl (aF.b.map yx),D.int .i64 aF.i,D.int .i64 aF.h] [] [] fun hr lX Γ hΓ=>?_
 rw[jt]at h;obtain⟨y1,h2,h⟩:=aC h;obtain⟨h3,h⟩|⟨h3,h⟩:=aL h
 ·obtain⟨y4,h5,h⟩:=aC h;cases h;exact(((aW.hp [[none,none,none],[none]] (fI h2)).b h3).hp [[none,none,none]] (oO h5)).ret hΓ
 ·obtain⟨y6,h7,h⟩:=aC h;cases h;exact(((aW.hp [[none,none,none],[none]] (fI h2)).b h3).hp [[none,none,none],[some (9,1)]] (ko h7)).ret hΓ
def gi(y1:bt×(Bytes×Int))(k1:bw->Int->Int->aD->Option (bt×aJ)):Nat->Int->bw->Int->Int->aD->Option (bt×aJ)
 |0,_,_,_,_,_=>none
 |n1+1,eO,eY,dG,dH,jq=>(bif decide ((eO:Int)<y1.2.2)then((jt (⟨eY,dG,dH⟩:bt)).bind fun rR=>(bif room ((jq.map tx).length+([[D.str rR.2]]).length) 16 then(gi y1 k1 n1 (IntKind.i64.wrap (eO+1)) rR.1.b rR.1.i rR.1.h (jq++([rR.2])))else none))else(k1 eY dG dH jq))
def fP(aF:bt):Option (bt×aJ):=((kp aF).bind fun y1=>(gi y1 (fun(jk:bw) (jl:Int) (jm:Int) (lW:aD)=>(some ((⟨jk,jl,jm⟩:bt),(⟨y1.2.1,lW⟩:aJ)))) fuel 0 y1.1.b y1.1.i y1.1.h ([]:aD)))
def tu(lX:Value)(y1:bt×(Bytes×Int))(eO:Int)(dG:Int)(dH:Int)(W1:List aG)(W4:List aG):St:=⟨[(0,D.ptr 0 0),(2,D.ptr 1 0),(4,D.int .i64 y1.2.2),(5,D.ptr 2 0),(6,D.int .i64 eO)],[Ob.AU [D.sl W1,D.int .i64 dG,D.int .i64 dH] lX,Ob.box [D.str ([]),D.nil],Ob.box [D.str y1.2.1,D.acc 3],Ob.row .uq 9 1 W4]⟩
theorem zY(hΓ:Γ.nt=27){lX:Value}{y1:bt×(Bytes×Int)}{r:bt×aJ}{k1:bw->Int->Int->aD->Option (bt×aJ)}(ju:∀(jk:bw) (jl:Int) (jm:Int) (lW:aD),k1 jk jl jm lW=some r->Ax Γ N f109 (.p [[none,none,none],[none,some (9,1)]] lX (bt.c r.1) (D.agg [D.str r.2.rel,D.fr 9 1 (r.2.args.map tx)])) [1,1,1,1] ⟨[(2,D.ptr 1 0),(5,D.ptr 2 0)],[Ob.AU [D.sl (jk.map yx),D.int .i64 jl,D.int .i64 jm] lX,Ob.box [D.str ([]),D.nil],Ob.box [D.str y1.2.1,D.acc 3],Ob.row .uq 9 1 (lW.map tx)]⟩):∀(n1:Nat) (eO:Int) (eY:bw) (dG:Int) (dH:Int) (jq:aD),gi y1 k1 n1 eO eY dG dH jq=some r->Ar Γ N f109 (.p [[none,none,none],[none,some (9,1)]] lX (bt.c r.1) (D.agg [D.str r.2.rel,D.fr 9 1 (r.2.args.map tx)])) [1,1,1,0,1,0] n1 (tu lX y1 eO dG dH (eY.map yx) (jq.map tx)):=by
 intro n
 induction n with
 |zero=>intro eO eY dG dH jq h;simp[gi]at h
 |succ n1 ih1=>
  intro eO eY dG dH jq h;rw[gi]at h;refine aa fun N1 hN1 eT=>?_
  obtain⟨h27,h⟩|⟨h27,h⟩:=aL h
  ·obtain⟨rR,h31,h⟩:=aC h;obtain⟨h32,h⟩:=bY h;exact(((((aW.b h27).a [.n2 [0,1,2,3,4,5,6,7] [0,1,2,3,4,5,6,7] 3 5 [0,1] [0],.gp [[none,none,none]] (bt.c rR.1) (D.str rR.2)]).w (show iR prog 134 (bt.c (⟨eY,dG,dH⟩:bt)) (bt.c rR.1) [] (D.str rR.2)from by simpa only[ar,b8,bV,bD,bG]using oP h31)).w (cE h32)).a [.cn [0,2,4,5,6] [0,1,2,5]]).cs hΓ eT (tu lX y1 (IntKind.i64.wrap (eO+1)) rR.1.i rR.1.h (rR.1.b.map yx) ((jq.map tx)++([[D.str rR.2]]))) (by first| (simp only[mA]<;>rfl)| (simp only[mA,aJ.c,aj.c,aT.c,Action.c,aZ.c,bA.c,bE.c,jH.c,Node.c,dh.c,jr.c]<;>rfl)) (ih1 (IntKind.i64.wrap (eO+1)) rR.1.b rR.1.i rR.1.h (jq++([rR.2])) h)
  ·exact((aW.b h27).a [.hl 0 [2,5] [0,1,2,3]]).ex hΓ hN1 (ju eY dG dH jq h)
theorem j7{aF:bt}{r:bt×aJ}(h:fP aF=some r):iR prog 109 (bt.c aF) (bt.c r.1) [] (D.agg [D.str r.2.rel,D.fr 9 1 (r.2.args.map tx)]):=by
 refine CH func109 [[none,none,none],[none,some (9,1)]] 27 [D.sl (aF.b.map yx),D.int .i64 aF.i,D.int .i64 aF.h] [] [] fun hr lX Γ hΓ=>?_
 rw[fP]at h;obtain⟨y1,h2,h⟩:=aC h;refine((aW.hp [[none,none,none]] (sx h2)).a [.pb 2 1 9 1,.cn [0,2,4,5,6] [0,1,2,3]]).lp hΓ (zY hΓ (fun jk jl jm lW h=>?_) fuel 0 y1.1.b y1.1.i y1.1.h ([]:aD) h);cases h;exact aW.ret hΓ
def ez(aF:bt)(ay:bw):Option (bt×Int):=((cH aF ((ay.map Ns).length:Int)).bind fun y1=>((lG ay y1.2).bind fun x3=>(some (y1.1,x3))))
theorem hO{aF:bt}{ay:bw}{r:bt×Int}(h:ez aF ay=some r):iR prog 49 (bt.c aF) (bt.c r.1) [D.fr 3 1 (ay.map Ns)] (D.int .i64 r.2):=by
 refine CH func49 [[none,none,none],[none]] 12 [D.sl (aF.b.map yx),D.int .i64 aF.i,D.int .i64 aF.h] [D.acc 1] [Ob.row .uq 3 1 (ay.map Ns)] fun hr lX Γ hΓ=>?_
 rw[ez]at h;obtain⟨y1,h2,h⟩:=aC h;obtain⟨x3,h4,h⟩:=aC h;cases h;exact(((aW.hp [[none,none,none],[none]] (br h2)).i (iY Ns 1 h4)).o 1 1 .uq (cB Ns (fB h4))).ret hΓ
def oC(aF:bt)(ay:Bytes)(fy:Bytes):Option (bt×aT):=((ez aF ([3,4,4,5]:bw)).bind fun y1=>(some (y1.1,(⟨y1.2,(⟨[],[]⟩:aJ),ay,fy⟩:aT))))
theorem yb{aF:bt}{ay:Bytes}{fy:Bytes}{r:bt×aT}(h:oC aF ay fy=some r):iR prog 135 (bt.c aF) (bt.c r.1) [D.str ay,D.str fy] (D.agg [D.int .i64 r.2.kind,D.str r.2.pat.rel,D.fr 9 1 (r.2.pat.args.map tx),D.str r.2.left,D.str r.2.right]):=by
 refine CH func135 [[none,none,none],[none,none,some (9,1),none,none]] 13 [D.sl (aF.b.map yx),D.int .i64 aF.i,D.int .i64 aF.h] [D.str ay,D.str fy] [] fun hr lX Γ hΓ=>?_
 rw[oC]at h;obtain⟨y1,h2,h⟩:=aC h;cases h;exact(aW.hp [[none,none,none],[some (3,1)]] (hO h2)).ret hΓ
def lE(aF:bt):Option (bt×aT):=((cH aF 5).bind fun y1=>(bif (y1.2:Int)==0 then((fP y1.1).bind fun y4=>(some (y4.1,(⟨1,y4.2,[],[]⟩:aT))))else(bif (y1.2:Int)==1 then((fP y1.1).bind fun y7=>(some (y7.1,(⟨1,y7.2,[],[]⟩:aT))))else(bif (y1.2:Int)==2 then((fP y1.1).bind fun Cs=>(some (Cs.1,(⟨2,Cs.2,[],[]⟩:aT))))else((jt y1.1).bind fun Ip=>((jt Ip.1).bind fun AK=>((oC AK.1 Ip.2 AK.2).bind fun Dp=>(some (Dp.1,Dp.2)))))))))
theorem sF{aF:bt}{r:bt×aT}(h:lE aF=some r):iR prog 108 (bt.c aF) (bt.c r.1) [] (D.agg [D.int .i64 r.2.kind,D.str r.2.pat.rel,D.fr 9 1 (r.2.pat.args.map tx),D.str r.2.left,D.str r.2.right]):=by
 refine CH func108 [[none,none,none],[none,none,some (9,1),none,none]] 24 [D.sl (aF.b.map yx),D.int .i64 aF.i,D.int .i64 aF.h] [] [] fun hr lX Γ hΓ=>?_
 rw[lE]at h;obtain⟨y1,h2,h⟩:=aC h;obtain⟨h3,h⟩|⟨h3,h⟩:=aL h
 ·obtain⟨y4,h5,h⟩:=aC h;cases h;exact(((aW.hp [[none,none,none],[none]] (br h2)).r 2 h3).hp [[none,none,none]] (j7 h5)).ret hΓ
 ·have lH:=((aW.hp [[none,none,none],[none]] (br h2)).b h3)
  obtain⟨h6,h⟩|⟨h6,h⟩:=aL h
  ·obtain⟨y7,h8,h⟩:=aC h;cases h;exact((lH.b h6).hp [[none,none,none]] (j7 h8)).ret hΓ
  ·obtain⟨h9,h⟩|⟨h9,h⟩:=aL h
   ·obtain⟨Cs,h11,h⟩:=aC h;cases h;exact(((lH.b h6).b h9).hp [[none,none,none]] (j7 h11)).ret hΓ
   ·obtain⟨Ip,h13,h⟩:=aC h;obtain⟨AK,h15,h⟩:=aC h;obtain⟨Dp,h17,h⟩:=aC h;cases h;exact(((((lH.b h6).b h9).hp [[none,none,none]] (oP h13)).hp [[none,none,none]] (oP h15)).hp [[none,none,none],[none],[none]] (yb h17)).ret hΓ
def iW(aF:Int)(ay:Int)(fy:Int):Option Bool:=(bif decide ((aF:Int)>=ay)then(some (decide ((aF:Int)<=fy)))else(some false))
theorem fW{aF:Int}{ay:Int}{fy:Int}{r:Bool}(h:iW aF ay fy=some r):Good prog 24 [D.int .i64 aF,D.int .i64 ay,D.int .i64 fy] (D.bool r):=by
 refine gd func24 [[none]] 15 fun hr Γ hΓ=>?_
 rw[iW]at h;obtain⟨h1,h⟩|⟨h1,h⟩:=aL h
 ·cases h;exact(aW.r 4 h1).ret hΓ
 ·have h:=aM h;subst h;exact(aW.r 4 h1).ret hΓ
def fU(aF:Bytes)(k1:Option Bool):Nat->Int->Option Bool
 |0,_=>none
 |n1+1,iZ=>(bif decide ((iZ:Int)<(aF.length:Int))then((lG aF iZ).bind fun Uh=>((iW (IntKind.i64.wrap Uh.toNat) 97 122).bind fun Cy=>(bif !(Cy)then((iW (IntKind.i64.wrap Uh.toNat) 48 57).bind fun Pz=>(bif !(Pz)then(some false)else(fU aF k1 n1 (IntKind.i64.wrap (iZ+1)))))else(fU aF k1 n1 (IntKind.i64.wrap (iZ+1))))))else(k1))
def l9(aF:Bytes):Option Bool:=(fU aF ((iW (aF.length:Int) 1 8).bind fun N8=>(some N8)) fuel 0)
def Aj(aF:Bytes)(iZ:Int):St:=⟨[(0,D.str aF),(3,D.int .i64 iZ)],[]⟩
theorem zN(hΓ:Γ.nt=27){aF:Bytes}{r:Bool}{k1:Option Bool}(ju:k1=some r->Ax Γ N f61 (.q [[none]] (D.bool r)) [1,1] ⟨[(0,D.str aF)],[]⟩):∀(n1:Nat) (iZ:Int),fU aF k1 n1 iZ=some r->Ar Γ N f61 (.q [[none]] (D.bool r)) [1,0,1,0] n1 (Aj aF iZ):=by
 intro n
 induction n with
 |zero=>intro iZ h;simp[fU]at h
 |succ n1 ih1=>
  intro iZ h;rw[fU]at h;refine aa fun N1 hN1 eT=>?_
  obtain⟨h28,h⟩|⟨h28,h⟩:=aL h
  ·obtain⟨Uh,h30,h⟩:=aC h;obtain⟨Cy,h32,h⟩:=aC h;have lI:=(((aW.b h28).c h30).g (fW h32))
   obtain⟨h33,h⟩|⟨h33,h⟩:=aL h
   ·obtain⟨Pz,h35,h⟩:=aC h;have lY:=(((((lI.r 3 h33).c h30).r 2 h33).g (fW h35)).r 2 h33)
    obtain⟨h36,h⟩|⟨h36,h⟩:=aL h
    ·have h:=aM h;subst h;exact(lY.b h36).ret hΓ
    ·exact((lY.b h36).a [.cn [0,3] []]).cf hΓ eT (ih1 (IntKind.i64.wrap (iZ+1)) h)
   ·exact(((lI.r 7 h33).F 1).a [.cn [0,3] []]).cf hΓ eT (ih1 (IntKind.i64.wrap (iZ+1)) h)
  ·exact((aW.b h28).a [.hl 0 [0] []]).ex hΓ hN1 (ju h)
theorem kI{aF:Bytes}{r:Bool}(h:l9 aF=some r):Good prog 61 [D.str aF] (D.bool r):=by
 refine gd func61 [[none]] 27 fun hr Γ hΓ=>?_
 rw[l9]at h;refine(aW.a [.cn [0,3] []]).lp hΓ (zN hΓ (fun h=>?_) fuel 0 h);obtain⟨N8,h38,h⟩:=aC h;have h:=aM h;subst h;exact(aW.g (fW h38)).ret hΓ
def jD(aF:Bytes):Option Bool:=(bif decide (((aF.length:Int):Int)>1)then((lG aF 0).bind fun b2=>(bif (b2.toNat:Int)==63 then((oH aF.length (some (D.int .i64 1)) none).bind fun p=>(fun l5 u6=>((l9 ((aF.take u6).drop l5)).bind fun y8=>(some y8))) p.1 p.2)else(some false)))else(some false))
theorem jW{aF:Bytes}{r:Bool}(h:jD aF=some r):Good prog 65 [D.str aF] (D.bool r):=by
 refine gd func65 [[none]] 16 fun hr Γ hΓ=>?_
 rw[jD]at h;obtain⟨h1,h⟩|⟨h1,h⟩:=aL h
 ·obtain⟨b2,h3,h⟩:=aC h;have lH:=(((aW.r 2 h1).c h3).r 2 h1)
  obtain⟨h4,h⟩|⟨h4,h⟩:=aL h
  ·obtain⟨⟨l5,u6⟩,h7,h⟩:=aC h;obtain⟨y8,h9,h⟩:=aC h;have h:=aM h;subst h;exact((((((lH.r 2 h4).w h7).a [.cut l5 u6]).b h4).g (kI h9)).b h4).ret hΓ
  ·have h:=aM h;subst h;exact(lH.r 4 h4).ret hΓ
 ·have h:=aM h;subst h;exact((aW.r 4 h1).F 4).ret hΓ
def dA(aF:aD)(ay:Bytes)(k1:Bool->aD->Option aD):aD->Nat->Bool->aD->Option aD
 | [],i1,eO,bh=>(k1 eO bh)
 |bu::fY,i1,eO,bh=>(bif !(eO)then(bif !(Op.bytesLess bu ay)then(bif !((bu:Bytes)==ay)then(bif room ((bh.map tx).length+([[D.str ay]]).length) 16 then(bif room (((bh.map tx)++([[D.str ay]])).length+([[D.str bu]]).length) 16 then(dA aF ay k1 fY (i1+1) true ((bh++([ay]))++([bu])))else none)else none)else(bif room ((bh.map tx).length+([[D.str bu]]).length) 16 then(dA aF ay k1 fY (i1+1) true (bh++([bu])))else none))else(bif room ((bh.map tx).length+([[D.str bu]]).length) 16 then(dA aF ay k1 fY (i1+1) eO (bh++([bu])))else none))else(bif room ((bh.map tx).length+([[D.str bu]]).length) 16 then(dA aF ay k1 fY (i1+1) eO (bh++([bu])))else none))
def hY(aF:aD)(ay:Bytes):Option aD:=(dA aF ay (fun(vA:Bool) (dL:aD)=>(bif !(vA)then(bif room ((dL.map tx).length+([[D.str ay]]).length) 16 then(some (dL++([ay])))else none)else(some dL))) aF 0 false ([]:aD))
def mM(aF:aD)(ay:Bytes)(eO:Bool)(W1:List aG)(jc:Int):St:=⟨[(0,D.sl (aF.map tx)),(1,D.str ay),(5,D.acc 0),(6,D.bool eO),(7,D.int .i64 jc)],[Ob.row .uq 9 1 W1]⟩
theorem Av(hΓ:Γ.nt=49){aF:aD}{ay:Bytes}{r:aD}{k1:Bool->aD->Option aD}(ju:∀(vA:Bool) (dL:aD),k1 vA dL=some r->Ax Γ N f62 (.q [[some (9,1)]] (D.fr 9 1 (r.map tx))) [1,1,1,1] ⟨[(1,D.str ay),(5,D.acc 0),(6,D.bool vA)],[Ob.row .uq 9 1 (dL.map tx)]⟩)(hm1:aF.length<=maxLen):∀(rest:aD) (i1:Nat) (eO:Bool) (bh:aD),aF.drop i1=rest->dA aF ay k1 rest i1 eO bh=some r->Ar Γ N f62 (.q [[some (9,1)]] (D.fr 9 1 (r.map tx))) [1,1,1,0,1,0] (rest.length+1) (mM aF ay eO (bh.map tx) (i1:Int)):=by
 intro rest
 induction rest with
 |nil=>
  intro i1 eO bh bL h;rw[dA]at h;refine aa fun N1 hN1 eT=>?_
  exact((aW.ge tx bL).a [.hl 0 [1,5,6] [0]]).ex hΓ hN1 (ju eO bh h)
 |cons bu fY ih1=>
  intro i1 eO bh bL h;rw[dA]at h;refine aa fun N1 hN1 eT=>?_
  obtain⟨h58,h⟩|⟨h58,h⟩:=aL h
  ·have lI:=((((aW.lt tx bL).r 3 h58).l (cI tx 1 (dc bL) rfl)).r 4 h58)
   obtain⟨h59,h⟩|⟨h59,h⟩:=aL h
   ·have lY:=((lI.b h59).l (cI tx 1 (dc bL) rfl))
    obtain⟨h60,h⟩|⟨h60,h⟩:=aL h
    ·obtain⟨h61,h⟩:=bY h;obtain⟨h62,h⟩:=bY h;exact(((((lY.b h60).w (cE h61)).l (cI tx 1 (dc bL) rfl)).w (cE h62)).a [.cn [0,1,5,6,7] [4]]).cs hΓ eT (mM aF ay true (((bh.map tx)++([[D.str ay]]))++([[D.str bu]])) (IntKind.i64.wrap ((i1:Int)+1))) (by first| (simp only[iS bL hm1,mA]<;>rfl)| (simp only[iS bL hm1,mA,aJ.c,aj.c,aT.c,Action.c,aZ.c,bA.c,bE.c,jH.c,Node.c,dh.c,jr.c]<;>rfl)) (ih1 (i1+1) true ((bh++([ay]))++([bu])) (dn bL) h)
    ·obtain⟨h63,h⟩:=bY h;exact((((lY.b h60).l (cI tx 1 (dc bL) rfl)).w (cE h63)).a [.cn [0,1,5,6,7] [2]]).cs hΓ eT (mM aF ay true ((bh.map tx)++([[D.str bu]])) (IntKind.i64.wrap ((i1:Int)+1))) (by first| (simp only[iS bL hm1,mA]<;>rfl)| (simp only[iS bL hm1,mA,aJ.c,aj.c,aT.c,Action.c,aZ.c,bA.c,bE.c,jH.c,Node.c,dh.c,jr.c]<;>rfl)) (ih1 (i1+1) true (bh++([bu])) (dn bL) h)
   ·obtain⟨h64,h⟩:=bY h;exact((((lI.b h59).l (cI tx 1 (dc bL) rfl)).w (cE h64)).a [.cn [0,1,5,6,7] [2]]).cs hΓ eT (mM aF ay eO ((bh.map tx)++([[D.str bu]])) (IntKind.i64.wrap ((i1:Int)+1))) (by first| (simp only[iS bL hm1,mA]<;>rfl)| (simp only[iS bL hm1,mA,aJ.c,aj.c,aT.c,Action.c,aZ.c,bA.c,bE.c,jH.c,Node.c,dh.c,jr.c]<;>rfl)) (ih1 (i1+1) eO (bh++([bu])) (dn bL) h)
  ·obtain⟨h65,h⟩:=bY h;exact((((((aW.lt tx bL).r 7 h58).F 1).l (cI tx 1 (dc bL) rfl)).w (cE h65)).a [.cn [0,1,5,6,7] [2]]).cs hΓ eT (mM aF ay eO ((bh.map tx)++([[D.str bu]])) (IntKind.i64.wrap ((i1:Int)+1))) (by first| (simp only[iS bL hm1,mA]<;>rfl)| (simp only[iS bL hm1,mA,aJ.c,aj.c,aT.c,Action.c,aZ.c,bA.c,bE.c,jH.c,Node.c,dh.c,jr.c]<;>rfl)) (ih1 (i1+1) eO (bh++([bu])) (dn bL) h)
theorem iA{aF:aD}{ay:Bytes}{r:aD}(h:hY aF ay=some r):Good prog 62 [D.sl (aF.map tx),D.str ay] (D.fr 9 1 (r.map tx)):=by
 refine gd func62 [[some (9,1)]] 49 fun hr Γ hΓ=>?_
 rw[hY]at h;refine(aW.a [.cn [0,1,5,6,7] [0]]).lp hΓ (Av hΓ (fun vA dL h=>?_) (by have:=(n9.sl (hr _ (aE (i:=0) rfl))).1;simpa using this) aF 0 false ([]:aD) rfl h);obtain⟨h66,h⟩|⟨h66,h⟩:=aL h
 ·obtain⟨h67,h⟩:=bY h;cases h;exact((aW.b h66).w (cE h67)).rts hΓ (D.fr 9 1 ((dL.map tx)++([[D.str ay]]))) (by first|rfl| (simp only[mA]<;>rfl))
 ·have h:=aM h;subst h;exact(aW.b h66).ret hΓ
def ga(aF:aJ)(k1:aD->Option aD):aD->Nat->aD->Option aD
 | [],i1,cC=>(k1 cC)
 |bu::fY,i1,cC=>((jD bu).bind fun N8=>(bif N8 then((hY cC bu).bind fun Rm=>(ga aF k1 fY (i1+1) Rm))else(ga aF k1 fY (i1+1) cC)))
def jE(aF:aJ):Option aD:=(ga aF (fun(dL:aD)=>(some dL)) aF.args 0 ([]:aD))
def As(aF:aJ)(W0:List aG)(jc:Int):St:=⟨[(1,D.ptr 0 0),(3,D.acc 1),(4,D.int .i64 jc)],[Ob.box (aJ.c aF),Ob.row .uq 9 1 W0]⟩
theorem zT(hΓ:Γ.nt=27){aF:aJ}{r:aD}{k1:aD->Option aD}(ju:∀(dL:aD),k1 dL=some r->Ax Γ N f32 (.q [[some (9,1)]] (D.fr 9 1 (r.map tx))) [1,1,1] ⟨[(3,D.acc 0)],[Ob.row .uq 9 1 (dL.map tx)]⟩)(hm1:aF.args.length<=maxLen):∀(rest:aD) (i1:Nat) (cC:aD),aF.args.drop i1=rest->ga aF k1 rest i1 cC=some r->Ar Γ N f32 (.q [[some (9,1)]] (D.fr 9 1 (r.map tx))) [1,1,0,1,0] (rest.length+1) (As aF (cC.map tx) (i1:Int)):=by
 intro rest
 induction rest with
 |nil=>
  intro i1 cC bL h;rw[ga]at h;refine aa fun N1 hN1 eT=>?_
  exact((aW.ge tx bL).a [.hl 0 [3] [1]]).ex hΓ hN1 (ju cC h)
 |cons bu fY ih1=>
  intro i1 cC bL h;rw[ga]at h;refine aa fun N1 hN1 eT=>?_
  obtain⟨N8,h38,h⟩:=aC h;have kN:=(((aW.lt tx bL).l (cI tx 1 (dc bL) rfl)).g (jW h38))
  obtain⟨h39,h⟩|⟨h39,h⟩:=aL h
  ·obtain⟨Rm,h41,h⟩:=aC h;exact((((kN.b h39).l (cI tx 1 (dc bL) rfl)).g (iA h41)).a [.cn [1,3,4] [0,2]]).ct hΓ eT (iS bL hm1) (ih1 (i1+1) Rm (dn bL) h)
  ·exact((kN.b h39).a [.cn [1,3,4] [0,1]]).ct hΓ eT (iS bL hm1) (ih1 (i1+1) cC (dn bL) h)
theorem kJ{aF:aJ}{r:aD}(h:jE aF=some r):Good prog 32 [D.agg (aJ.c aF)] (D.fr 9 1 (r.map tx)):=by
 refine gd func32 [[some (9,1)]] 27 fun hr Γ hΓ=>?_
 rw[jE]at h;refine(aW.a [.cn [1,3,4] [0,1]]).lp hΓ (zT hΓ (fun dL h=>?_) (by have:=(n9.sl (n9.agg (hr _ (aE (i:=0) rfl)) (.sl (aF.args.map tx)) (by simp))).1;simpa using this) aF.args 0 ([]:aD) rfl h);have h:=aM h;subst h;exact aW.ret hΓ
def fo(aF:aZ)(ay:Int)(i1:Nat)(AL:aD)(k2:aD->Option aD):aD->Nat->aD->Option aD
 | [],i2,n8=>(k2 n8)
 |r9::AI,i2,n8=>((hY n8 r9).bind fun Rk=>(fo aF ay i1 AL k2 AI (i2+1) Rk))
def dl(aF:aZ)(ay:Int)(k1:aD->Option aD):bN->Nat->aD->Option aD
 | [],i1,cC=>(k1 cC)
 |bu::fY,i1,cC=>(bif decide (((i1:Int):Int)<ay)then(bif (bu.kind:Int)==1 then((jE bu.pat).bind fun AL=>(bif decide (AL.length<=maxLen)then(fo aF ay i1 AL (fun(B6:aD)=>(dl aF ay k1 fY (i1+1) B6)) AL 0 cC)else none))else(dl aF ay k1 fY (i1+1) cC))else(k1 cC))
def gY(aF:aZ)(ay:Int):Option aD:=(dl aF ay (fun(dL:aD)=>(some dL)) aF.conds 0 ([]:aD))
def xY(aF:aZ)(ay:Int)(W0:List aG)(jc:Int):St:=⟨[(1,D.int .i64 ay),(2,D.ptr 0 0),(5,D.acc 1),(6,D.int .i64 jc)],[Ob.box (aZ.c aF),Ob.row .uq 9 1 W0]⟩
def xZ(aF:aZ)(ay:Int)(i1:Nat)(AL:aD)(W0:List aG)(jc:Int):St:=⟨[(1,D.int .i64 ay),(2,D.ptr 0 0),(5,D.acc 1),(6,D.int .i64 (i1:Int)),(7,D.acc 2),(8,D.int .i64 jc)],[Ob.box (aZ.c aF),Ob.row .uq 9 1 W0,Ob.row .uq 9 1 (AL.map tx)]⟩
theorem wI(hΓ:Γ.nt=49){aF:aZ}{ay:Int}{i1:Nat}{AL:aD}{r:aD}{k2:aD->Option aD}(FU:∀(B6:aD),k2 B6=some r->Ax Γ N f25 (.q [[some (9,1)]] (D.fr 9 1 (r.map tx))) [1,1,0,1,0,0,1,1] ⟨[(1,D.int .i64 ay),(2,D.ptr 0 0),(5,D.acc 1),(6,D.int .i64 (i1:Int))],[Ob.box (aZ.c aF),Ob.row .uq 9 1 (B6.map tx)]⟩)(hm2:AL.length<=maxLen):∀(rest:aD) (i2:Nat) (n8:aD),AL.drop i2=rest->fo aF ay i1 AL k2 rest i2 n8=some r->Ar Γ N f25 (.q [[some (9,1)]] (D.fr 9 1 (r.map tx))) [1,1,0,1,0,0,1,0,0,1,0,1,1,0] (rest.length+1) (xZ aF ay i1 AL (n8.map tx) (i2:Int)):=by
 intro rest
 induction rest with
 |nil=>
  intro i2 n8 hd2 h;rw[fo]at h;refine aa fun N2 Bg xw=>?_
  exact((aW.ge tx hd2).a [.hl 3 [1,2,5,6] [0,1]]).ex hΓ Bg (FU n8 h)
 |cons r9 AI ih2=>
  intro i2 n8 hd2 h;rw[fo]at h;refine aa fun N2 Bg xw=>?_
  obtain⟨Rk,h184,h⟩:=aC h;exact(((((aW.lt tx hd2).i (fC tx 1 (dc hd2))).o 1 1 .uq (cB tx (dc hd2))).g (iA h184)).a [.cn [1,2,5,6,7,8] [0,3,2]]).ct hΓ xw (iS hd2 hm2) (ih2 (i2+1) Rk (dn hd2) h)
theorem wH(hΓ:Γ.nt=49){aF:aZ}{ay:Int}{r:aD}{k1:aD->Option aD}(ju:∀(dL:aD),k1 dL=some r->Ax Γ N f25 (.q [[some (9,1)]] (D.fr 9 1 (r.map tx))) [1,1,1] ⟨[(5,D.acc 0)],[Ob.row .uq 9 1 (dL.map tx)]⟩)(hm1:aF.conds.length<=maxLen):∀(rest:bN) (i1:Nat) (cC:aD),aF.conds.drop i1=rest->dl aF ay k1 rest i1 cC=some r->Ar Γ N f25 (.q [[some (9,1)]] (D.fr 9 1 (r.map tx))) [1,1,0,1,0] (rest.length+1) (xY aF ay (cC.map tx) (i1:Int)):=by
 intro rest
 induction rest with
 |nil=>
  intro i1 cC bL h;rw[dl]at h;refine aa fun N1 hN1 eT=>?_
  exact((((((aW.ge aT.c bL).ge aT.c bL).ge aT.c bL).ge aT.c bL).F 1).a [.hl 0 [5] [1]]).ex hΓ hN1 (ju cC h)
 |cons bu fY ih1=>
  intro i1 cC bL h;rw[dl]at h;refine aa fun N1 hN1 eT=>?_
  have lI:=((((aW.lt aT.c bL).lt aT.c bL).lt aT.c bL).lt aT.c bL)
  obtain⟨h157,h⟩|⟨h157,h⟩:=aL h
  ·have lY:=((lI.b h157).l (cI aT.c 5 (dc bL) rfl))
   obtain⟨h158,h⟩|⟨h158,h⟩:=aL h
   ·obtain⟨AL,h160,h⟩:=aC h;obtain⟨h185,h⟩:=bY h;refine((((lY.b h158).l (cI aT.c 5 (dc bL) rfl)).g (kJ h160)).a [.cn [1,2,5,6,7,8] [0,1,2]]).lp hΓ (wI hΓ (fun B6 h=>?_) (bn h185) AL 0 cC rfl h);exact(aW.a [.cn [1,2,5,6] [0,1]]).ct hΓ eT (iS bL hm1) (ih1 (i1+1) B6 (dn bL) h)
   ·exact((lY.b h158).a [.cn [1,2,5,6] [0,1]]).ct hΓ eT (iS bL hm1) (ih1 (i1+1) cC (dn bL) h)
  ·exact((lI.b h157).a [.hl 0 [5] [1]]).ex hΓ hN1 (ju cC h)
theorem gB{aF:aZ}{ay:Int}{r:aD}(h:gY aF ay=some r):Good prog 25 [D.agg (aZ.c aF),D.int .i64 ay] (D.fr 9 1 (r.map tx)):=by
 refine gd func25 [[some (9,1)]] 49 fun hr Γ hΓ=>?_
 rw[gY]at h;refine(aW.a [.cn [1,2,5,6] [0,1]]).lp hΓ (wH hΓ (fun dL h=>?_) (by have:=(n9.sl (n9.agg (hr _ (aE (i:=0) rfl)) (.sl (aF.conds.map aT.c)) (by simp))).1;simpa using this) aF.conds 0 ([]:aD) rfl h);have h:=aM h;subst h;exact aW.ret hΓ
def fq(aF:aD)(ay:Bytes)(k1:Option Bool):aD->Nat->Option Bool
 | [],i1=>(k1)
 |bu::fY,i1=>(bif (bu:Bytes)==ay then(some true)else(fq aF ay k1 fY (i1+1)))
def eM(aF:aD)(ay:Bytes):Option Bool:=(fq aF ay (some false) aF 0)
def xk(aF:aD)(ay:Bytes)(jc:Int):St:=⟨[(0,D.sl (aF.map tx)),(1,D.str ay),(5,D.int .i64 jc)],[]⟩
theorem wO(hΓ:Γ.nt=18){aF:aD}{ay:Bytes}{r:Bool}{k1:Option Bool}(ju:k1=some r->Ax Γ N f28 (.q [[none]] (D.bool r)) [1,1] ⟨[],[]⟩)(hm1:aF.length<=maxLen):∀(rest:aD) (i1:Nat),aF.drop i1=rest->fq aF ay k1 rest i1=some r->Ar Γ N f28 (.q [[none]] (D.bool r)) [1,0,1,0] (rest.length+1) (xk aF ay (i1:Int)):=by
 intro rest
 induction rest with
 |nil=>
  intro i1 bL h;rw[fq]at h;refine aa fun N1 hN1 eT=>?_
  exact((aW.ge tx bL).a [.hl 0 [] []]).ex hΓ hN1 (ju h)
 |cons bu fY ih1=>
  intro i1 bL h;rw[fq]at h;refine aa fun N1 hN1 eT=>?_
  have kN:=((aW.lt tx bL).l (cI tx 1 (dc bL) rfl))
  obtain⟨h13,h⟩|⟨h13,h⟩:=aL h
  ·have h:=aM h;subst h;exact(kN.b h13).ret hΓ
  ·exact((kN.b h13).a [.cn [0,1,5] []]).ct hΓ eT (iS bL hm1) (ih1 (i1+1) (dn bL) h)
theorem gC{aF:aD}{ay:Bytes}{r:Bool}(h:eM aF ay=some r):Good prog 28 [D.sl (aF.map tx),D.str ay] (D.bool r):=by
 refine gd func28 [[none]] 18 fun hr Γ hΓ=>?_
 rw[eM]at h;refine(aW.a [.cn [0,1,5] []]).lp hΓ (wO hΓ (fun h=>?_) (by have:=(n9.sl (hr _ (aE (i:=0) rfl))).1;simpa using this) aF 0 rfl h);have h:=aM h;subst h;exact aW.ret hΓ
def mT(aF:Bytes):Option Bool:=((l9 aF).bind fun y1=>(bif y1 then((lG aF 0).bind fun b4=>((iW (IntKind.i64.wrap b4.toNat) 97 122).bind fun y6=>(some y6)))else(some false)))
theorem lg{aF:Bytes}{r:Bool}(h:mT aF=some r):Good prog 23 [D.str aF] (D.bool r):=by
 refine gd func23 [[none]] 11 fun hr Γ hΓ=>?_
 rw[mT]at h;obtain⟨y1,h2,h⟩:=aC h;obtain⟨h3,h⟩|⟨h3,h⟩:=aL h
 ·obtain⟨b4,h5,h⟩:=aC h;obtain⟨y6,h7,h⟩:=aC h;have h:=aM h;subst h;exact((((((aW.g (kI h2)).r 2 h3).c h5).r 2 h3).g (fW h7)).b h3).ret hΓ
 ·have h:=aM h;subst h;exact((aW.g (kI h2)).r 5 h3).ret hΓ
def fO(aF:Bytes):Option Bool:=((l9 aF).bind fun y1=>(bif y1 then(some true)else((jD aF).bind fun y4=>(some y4))))
theorem gN{aF:Bytes}{r:Bool}(h:fO aF=some r):Good prog 64 [D.str aF] (D.bool r):=by
 refine gd func64 [[none]] 9 fun hr Γ hΓ=>?_
 rw[fO]at h;obtain⟨y1,h2,h⟩:=aC h;obtain⟨h3,h⟩|⟨h3,h⟩:=aL h
 ·have h:=aM h;subst h;exact((aW.g (kI h2)).r 3 h3).ret hΓ
 ·obtain⟨y4,h5,h⟩:=aC h;have h:=aM h;subst h;exact((((aW.g (kI h2)).r 2 h3).g (jW h5)).b h3).ret hΓ
def iM(aF:aJ)(k1:Option Bool):aD->Nat->Option Bool
 | [],i1=>(k1)
 |bu::fY,i1=>((fO bu).bind fun Js=>(bif !(Js)then(some false)else(iM aF k1 fY (i1+1))))
def fV(aF:aJ):Option Bool:=(iM aF ((mT aF.rel).bind fun Dq=>(bif Dq then(some (decide ((((aF.args.map tx).length:Int):Int)<=3)))else(some false))) aF.args 0)
def xa(aF:aJ)(jc:Int):St:=⟨[(1,D.ptr 0 0),(3,D.int .i64 jc)],[Ob.box (aJ.c aF)]⟩
theorem wK(hΓ:Γ.nt=27){aF:aJ}{r:Bool}{k1:Option Bool}(ju:k1=some r->Ax Γ N f63 (.q [[none]] (D.bool r)) [1,1] ⟨[(1,D.ptr 0 0)],[Ob.box (aJ.c aF)]⟩)(hm1:aF.args.length<=maxLen):∀(rest:aD) (i1:Nat),aF.args.drop i1=rest->iM aF k1 rest i1=some r->Ar Γ N f63 (.q [[none]] (D.bool r)) [1,0,1,0] (rest.length+1) (xa aF (i1:Int)):=by
 intro rest
 induction rest with
 |nil=>
  intro i1 bL h;rw[iM]at h;refine aa fun N1 hN1 eT=>?_
  exact((aW.ge tx bL).a [.hl 0 [1] [0]]).ex hΓ hN1 (ju h)
 |cons bu fY ih1=>
  intro i1 bL h;rw[iM]at h;refine aa fun N1 hN1 eT=>?_
  obtain⟨Js,h22,h⟩:=aC h;have kN:=(((aW.lt tx bL).l (cI tx 1 (dc bL) rfl)).g (gN h22))
  obtain⟨h23,h⟩|⟨h23,h⟩:=aL h
  ·have h:=aM h;subst h;exact(kN.b h23).ret hΓ
  ·exact((kN.b h23).a [.cn [1,3] [0]]).ct hΓ eT (iS bL hm1) (ih1 (i1+1) (dn bL) h)
theorem ei{aF:aJ}{r:Bool}(h:fV aF=some r):Good prog 63 [D.agg (aJ.c aF)] (D.bool r):=by
 refine gd func63 [[none]] 27 fun hr Γ hΓ=>?_
 rw[fV]at h;refine(aW.a [.cn [1,3] [0]]).lp hΓ (wK hΓ (fun h=>?_) (by have:=(n9.sl (n9.agg (hr _ (aE (i:=0) rfl)) (.sl (aF.args.map tx)) (by simp))).1;simpa using this) aF.args 0 rfl h);obtain⟨Dq,h25,h⟩:=aC h;obtain⟨h26,h⟩|⟨h26,h⟩:=aL h
 ·cases h;exact((aW.g (lg h25)).r 5 h26).ret hΓ
 ·have h:=aM h;subst h;exact((aW.g (lg h25)).r 5 h26).ret hΓ
def lB(aF:aT):Option Bool:=(bif (aF.kind:Int)==1 then((fV aF.pat).bind fun y2=>(bif y2 then(bif (aF.left:Bytes)==([])then(some ((aF.right:Bytes)==([])))else(some false))else(some false)))else(bif (aF.kind:Int)==2 then((fV aF.pat).bind fun y7=>(bif y7 then(bif (aF.left:Bytes)==([])then(some ((aF.right:Bytes)==([])))else(some false))else(some false)))else(bif (aF.kind:Int)==3 then(bif (aF.pat.rel:Bytes)==([])then(bif (((aF.pat.args.map tx).length:Int):Int)==0 then((fO aF.left).bind fun AK=>(bif AK then((fO aF.right).bind fun N7=>(some N7))else(some false)))else(some false))else(some false))else(bif (aF.kind:Int)==4 then(bif (aF.pat.rel:Bytes)==([])then(bif (((aF.pat.args.map tx).length:Int):Int)==0 then((fO aF.left).bind fun Py=>(bif Py then((fO aF.right).bind fun rM=>(some rM))else(some false)))else(some false))else(some false))else(bif (aF.kind:Int)==5 then(bif (aF.pat.rel:Bytes)==([])then(bif (((aF.pat.args.map tx).length:Int):Int)==0 then((fO aF.left).bind fun rR=>(bif rR then((fO aF.right).bind fun rN=>(some rN))else(some false)))else(some false))else(some false))else(some false))))))
theorem j0{aF:aT}{r:Bool}(h:lB aF=some r):Good prog 26 [D.agg (aT.c aF)] (D.bool r):=by
 refine gd func26 [[none]] 46 fun hr Γ hΓ=>?_
 rw[lB]at h;obtain⟨h1,h⟩|⟨h1,h⟩:=aL h
 ·obtain⟨y2,h3,h⟩:=aC h;have lH:=((aW.r 2 h1).g (ei h3))
  obtain⟨h4,h⟩|⟨h4,h⟩:=aL h
  ·have kN:=(lH.r 4 h4)
   obtain⟨h5,h⟩|⟨h5,h⟩:=aL h
   ·cases h;exact(kN.r 4 h5).ret hΓ
   ·have h:=aM h;subst h;exact(kN.r 4 h5).ret hΓ
  ·have h:=aM h;subst h;exact((lH.r 4 h4).F 4).ret hΓ
 ·obtain⟨h6,h⟩|⟨h6,h⟩:=aL h
  ·obtain⟨y7,h8,h⟩:=aC h;have lI:=(((aW.b h1).b h6).g (ei h8))
   obtain⟨h9,h⟩|⟨h9,h⟩:=aL h
   ·have lY:=(lI.r 4 h9)
    obtain⟨h10,h⟩|⟨h10,h⟩:=aL h
    ·cases h;exact(lY.r 4 h10).ret hΓ
    ·have h:=aM h;subst h;exact(lY.r 4 h10).ret hΓ
   ·have h:=aM h;subst h;exact((lI.r 4 h9).F 4).ret hΓ
  ·have qy:=((aW.b h1).b h6)
   obtain⟨h11,h⟩|⟨h11,h⟩:=aL h
   ·have uE:=(qy.r 2 h11)
    obtain⟨h12,h⟩|⟨h12,h⟩:=aL h
    ·have yp:=(uE.r 6 h12)
     obtain⟨h13,h⟩|⟨h13,h⟩:=aL h
     ·obtain⟨AK,h15,h⟩:=aC h;have Ch:=(((yp.r 3 h13).g (gN h15)).b h13)
      obtain⟨h16,h⟩|⟨h16,h⟩:=aL h
      ·obtain⟨N7,h18,h⟩:=aC h;have h:=aM h;subst h;exact(((Ch.r 3 h16).g (gN h18)).b h16).ret hΓ
      ·have h:=aM h;subst h;exact(Ch.r 4 h16).ret hΓ
     ·have h:=aM h;subst h;exact((yp.r 4 h13).F 4).ret hΓ
    ·have h:=aM h;subst h;exact((uE.r 6 h12).F 8).ret hΓ
   ·obtain⟨h19,h⟩|⟨h19,h⟩:=aL h
    ·have Fy:=((qy.b h11).r 2 h19)
     obtain⟨h20,h⟩|⟨h20,h⟩:=aL h
     ·have zz:=(Fy.r 6 h20)
      obtain⟨h21,h⟩|⟨h21,h⟩:=aL h
      ·obtain⟨Py,h23,h⟩:=aC h;have Cf:=(((zz.r 3 h21).g (gN h23)).b h21)
       obtain⟨h24,h⟩|⟨h24,h⟩:=aL h
       ·obtain⟨rM,h26,h⟩:=aC h;have h:=aM h;subst h;exact(((Cf.r 3 h24).g (gN h26)).b h24).ret hΓ
       ·have h:=aM h;subst h;exact(Cf.r 4 h24).ret hΓ
      ·have h:=aM h;subst h;exact((zz.r 4 h21).F 4).ret hΓ
     ·have h:=aM h;subst h;exact((Fy.r 6 h20).F 8).ret hΓ
    ·have yo:=((qy.b h11).b h19)
     obtain⟨h27,h⟩|⟨h27,h⟩:=aL h
     ·obtain⟨h28,h⟩|⟨h28,h⟩:=aL h
      ·have Cg:=((yo.b h27).r 6 h28)
       obtain⟨h29,h⟩|⟨h29,h⟩:=aL h
       ·obtain⟨rR,h31,h⟩:=aC h;have Fx:=(((Cg.r 3 h29).g (gN h31)).b h29)
        obtain⟨h32,h⟩|⟨h32,h⟩:=aL h
        ·obtain⟨rN,h34,h⟩:=aC h;have h:=aM h;subst h;exact(((Fx.r 3 h32).g (gN h34)).b h32).ret hΓ
        ·have h:=aM h;subst h;exact(Fx.r 4 h32).ret hΓ
       ·have h:=aM h;subst h;exact((Cg.r 4 h29).F 4).ret hΓ
      ·have h:=aM h;subst h;exact(((yo.b h27).r 6 h28).F 8).ret hΓ
     ·have h:=aM h;subst h;exact(yo.b h27).ret hΓ
def iV(aF:aT):Option aD:=((jE aF.pat).bind fun y1=>((jD aF.left).bind fun y3=>(bif y3 then((hY y1 aF.left).bind fun y6=>((jD aF.right).bind fun y8=>(bif y8 then((hY y6 aF.right).bind fun AJ=>(some AJ))else(some y6))))else((jD aF.right).bind fun oJ=>(bif oJ then((hY y1 aF.right).bind fun Dp=>(some Dp))else(some y1))))))
theorem kn{aF:aT}{r:aD}(h:iV aF=some r):Good prog 27 [D.agg (aT.c aF)] (D.fr 9 1 (r.map tx)):=by
 refine gd func27 [[some (9,1)]] 22 fun hr Γ hΓ=>?_
 rw[iV]at h;obtain⟨y1,h2,h⟩:=aC h;obtain⟨y3,h4,h⟩:=aC h;have lH:=((aW.g (kJ h2)).g (jW h4))
 obtain⟨h5,h⟩|⟨h5,h⟩:=aL h
 ·obtain⟨y6,h7,h⟩:=aC h;obtain⟨y8,h9,h⟩:=aC h;have kN:=(((lH.b h5).g (iA h7)).g (jW h9))
  obtain⟨h10,h⟩|⟨h10,h⟩:=aL h
  ·obtain⟨AJ,h12,h⟩:=aC h;have h:=aM h;subst h;exact((kN.b h10).g (iA h12)).ret hΓ
  ·have h:=aM h;subst h;exact(kN.b h10).ret hΓ
 ·obtain⟨oJ,h14,h⟩:=aC h;have lI:=((lH.b h5).g (jW h14))
  obtain⟨h15,h⟩|⟨h15,h⟩:=aL h
  ·obtain⟨Dp,h17,h⟩:=aC h;have h:=aM h;subst h;exact((lI.b h15).g (iA h17)).ret hΓ
  ·have h:=aM h;subst h;exact(lI.b h15).ret hΓ
def mU(aF:aT):Option Bool:=((lB aF).bind fun y1=>(bif y1 then(some (decide ((aF.kind:Int)>=3)))else(some false)))
theorem sB{aF:aT}{r:Bool}(h:mU aF=some r):Good prog 29 [D.agg (aT.c aF)] (D.bool r):=by
 refine gd func29 [[none]] 10 fun hr Γ hΓ=>?_
 rw[mU]at h;obtain⟨y1,h2,h⟩:=aC h;obtain⟨h3,h⟩|⟨h3,h⟩:=aL h
 ·cases h;exact((aW.g (j0 h2)).r 4 h3).ret hΓ
 ·have h:=aM h;subst h;exact((aW.g (j0 h2)).r 4 h3).ret hΓ
def dX(aF:aZ)(ay:Int)(fy:Bytes)(k1:Option Bool):bN->Nat->Option Bool
 | [],i1=>(k1)
 |bu::fY,i1=>(bif ((i1:Int):Int) != ay then((iV bu).bind fun Pz=>((eM Pz fy).bind fun Jt=>(bif Jt then(some true)else(dX aF ay fy k1 fY (i1+1)))))else(dX aF ay fy k1 fY (i1+1)))
def er(aF:aZ)(fy:Bytes)(k2:Option Bool):iD->Nat->Option Bool
 | [],i2=>(k2)
 |r9::AI,i2=>((jE r9.pat).bind fun UE=>((eM UE fy).bind fun XS=>(bif XS then(some true)else(er aF fy k2 AI (i2+1)))))
def j8(aF:aZ)(ay:Int)(fy:Bytes):Option Bool:=(dX aF ay fy (er aF fy (some false) aF.cJ 0) aF.conds 0)
def vf(aF:aZ)(ay:Int)(fy:Bytes)(jc:Int):St:=⟨[(1,D.int .i64 ay),(2,D.str fy),(3,D.ptr 0 0),(7,D.int .i64 jc)],[Ob.box (aZ.c aF)]⟩
theorem um(hΓ:Γ.nt=45){aF:aZ}{ay:Int}{fy:Bytes}{r:Bool}{k1:Option Bool}(ju:k1=some r->Ax Γ N f30 (.q [[none]] (D.bool r)) [1,1] ⟨[(2,D.str fy),(3,D.ptr 0 0)],[Ob.box (aZ.c aF)]⟩)(hm1:aF.conds.length<=maxLen):∀(rest:bN) (i1:Nat),aF.conds.drop i1=rest->dX aF ay fy k1 rest i1=some r->Ar Γ N f30 (.q [[none]] (D.bool r)) [1,0,1,0] (rest.length+1) (vf aF ay fy (i1:Int)):=by
 intro rest
 induction rest with
 |nil=>
  intro i1 bL h;rw[dX]at h;refine aa fun N1 hN1 eT=>?_
  exact((aW.ge aT.c bL).a [.hl 0 [2,3] [0]]).ex hΓ hN1 (ju h)
 |cons bu fY ih1=>
  intro i1 bL h;rw[dX]at h;refine aa fun N1 hN1 eT=>?_
  obtain⟨h33,h⟩|⟨h33,h⟩:=aL h
  ·obtain⟨Pz,h35,h⟩:=aC h;obtain⟨Jt,h37,h⟩:=aC h;have lI:=((((((((aW.lt aT.c bL).r 4 h33).l (cI aT.c 5 (dc bL) rfl)).r 2 h33).g (kn h35)).r 2 h33).g (gC h37)).b h33)
   obtain⟨h38,h⟩|⟨h38,h⟩:=aL h
   ·have h:=aM h;subst h;exact(lI.b h38).ret hΓ
   ·exact((lI.b h38).a [.cn [1,2,3,7] [0]]).ct hΓ eT (iS bL hm1) (ih1 (i1+1) (dn bL) h)
  ·exact((((aW.lt aT.c bL).r 9 h33).F 1).a [.cn [1,2,3,7] [0]]).ct hΓ eT (iS bL hm1) (ih1 (i1+1) (dn bL) h)
def vg(aF:aZ)(fy:Bytes)(jc:Int):St:=⟨[(2,D.str fy),(3,D.ptr 0 0),(8,D.int .i64 jc)],[Ob.box (aZ.c aF)]⟩
theorem uo(hΓ:Γ.nt=45){aF:aZ}{fy:Bytes}{r:Bool}{k2:Option Bool}(FU:k2=some r->Ax Γ N f30 (.q [[none]] (D.bool r)) [1,1,1] ⟨[],[]⟩)(hm2:aF.cJ.length<=maxLen):∀(rest:iD) (i2:Nat),aF.cJ.drop i2=rest->er aF fy k2 rest i2=some r->Ar Γ N f30 (.q [[none]] (D.bool r)) [1,1,0,1,0] (rest.length+1) (vg aF fy (i2:Int)):=by
 intro rest
 induction rest with
 |nil=>
  intro i2 hd2 h;rw[er]at h;refine aa fun N2 Bg xw=>?_
  exact((aW.ge Action.c hd2).a [.hl 0 [] []]).ex hΓ Bg (FU h)
 |cons r9 AI ih2=>
  intro i2 hd2 h;rw[er]at h;refine aa fun N2 Bg xw=>?_
  obtain⟨UE,h68,h⟩:=aC h;obtain⟨XS,h70,h⟩:=aC h;have lY:=((((aW.lt Action.c hd2).l (cI Action.c 3 (dc hd2) rfl)).g (kJ h68)).g (gC h70))
  obtain⟨h71,h⟩|⟨h71,h⟩:=aL h
  ·have h:=aM h;subst h;exact(lY.b h71).ret hΓ
  ·exact((lY.b h71).a [.cn [2,3,8] [0]]).ct hΓ xw (iS hd2 hm2) (ih2 (i2+1) (dn hd2) h)
theorem oY{aF:aZ}{ay:Int}{fy:Bytes}{r:Bool}(h:j8 aF ay fy=some r):Good prog 30 [D.agg (aZ.c aF),D.int .i64 ay,D.str fy] (D.bool r):=by
 refine gd func30 [[none]] 45 fun hr Γ hΓ=>?_
 rw[j8]at h;refine(aW.a [.cn [1,2,3,7] [0]]).lp hΓ (um hΓ (fun h=>?_) (by have:=(n9.sl (n9.agg (hr _ (aE (i:=0) rfl)) (.sl (aF.conds.map aT.c)) (by simp))).1;simpa using this) aF.conds 0 rfl h);refine(aW.a [.cn [2,3,8] [0]]).lp hΓ (uo hΓ (fun h=>?_) (by have:=(n9.sl (n9.agg (hr _ (aE (i:=0) rfl)) (.sl (aF.cJ.map Action.c)) (by simp))).1;simpa using this) aF.cJ 0 rfl h);have h:=aM h;subst h;exact aW.ret hΓ
def mK(aF:Action):Option Bool:=(bif (aF.kind:Int)==1 then((fV aF.pat).bind fun y2=>(some y2))else(bif (aF.kind:Int)==2 then((fV aF.pat).bind fun y5=>(some y5))else(bif (aF.kind:Int)==3 then(bif (aF.pat.rel:Bytes)==([])then(some ((((aF.pat.args.map tx).length:Int):Int)==0))else(some false))else(some false))))
theorem wJ{aF:Action}{r:Bool}(h:mK aF=some r):Good prog 31 [D.agg (Action.c aF)] (D.bool r):=by
 refine gd func31 [[none]] 24 fun hr Γ hΓ=>?_
 rw[mK]at h;obtain⟨h1,h⟩|⟨h1,h⟩:=aL h
 ·obtain⟨y2,h3,h⟩:=aC h;have h:=aM h;subst h;exact((aW.r 2 h1).g (ei h3)).ret hΓ
 ·obtain⟨h4,h⟩|⟨h4,h⟩:=aL h
  ·obtain⟨y5,h6,h⟩:=aC h;have h:=aM h;subst h;exact(((aW.b h1).b h4).g (ei h6)).ret hΓ
  ·have lH:=((aW.b h1).b h4)
   obtain⟨h7,h⟩|⟨h7,h⟩:=aL h
   ·obtain⟨h8,h⟩|⟨h8,h⟩:=aL h
    ·cases h;exact((lH.b h7).r 6 h8).ret hΓ
    ·have h:=aM h;subst h;exact((lH.b h7).r 6 h8).ret hΓ
   ·have h:=aM h;subst h;exact(lH.b h7).ret hΓ
def gO(aF:aZ)(i1:Nat)(nw:aD)(k2:aD->Option aD):aD->Nat->aD->Option aD
 | [],i2,n8=>(k2 n8)
 |r9::AI,i2,n8=>((hY n8 r9).bind fun Rj=>(gO aF i1 nw k2 AI (i2+1) Rj))
def fH(aF:aZ)(k1:aD->Option aD):bN->Nat->aD->Option aD
 | [],i1,cC=>(k1 cC)
 |bu::fY,i1,cC=>((iV bu).bind fun nw=>(bif decide (nw.length<=maxLen)then(gO aF i1 nw (fun(B6:aD)=>(fH aF k1 fY (i1+1) B6)) nw 0 cC)else none))
def gP(aF:aZ)(i3:Nat)(AM:aD)(k4:aD->Option aD):aD->Nat->aD->Option aD
 | [],i4,Er=>(k4 Er)
 |S4::U4,i4,Er=>((hY Er S4).bind fun Rl=>(gP aF i3 AM k4 U4 (i4+1) Rl))
def eX(aF:aZ)(k3:aD->Option aD):iD->Nat->aD->Option aD
 | [],i3,ql=>(k3 ql)
 |Jh::GO,i3,ql=>((jE Jh.pat).bind fun AM=>(bif decide (AM.length<=maxLen)then(gP aF i3 AM (fun(JV:aD)=>(eX aF k3 GO (i3+1) JV)) AM 0 ql)else none))
def mL(aF:aZ):Option aD:=(fH aF (fun(n7:aD)=>(eX aF (fun(M6:aD)=>(some M6)) aF.cJ 0 n7)) aF.conds 0 ([]:aD))
def yV(aF:aZ)(W0:List aG)(jc:Int):St:=⟨[(1,D.ptr 0 0),(3,D.acc 1),(4,D.int .i64 jc)],[Ob.box (aZ.c aF),Ob.row .uq 9 1 W0]⟩
def yW(aF:aZ)(i1:Nat)(nw:aD)(W0:List aG)(jc:Int):St:=⟨[(1,D.ptr 0 0),(3,D.acc 1),(4,D.int .i64 (i1:Int)),(5,D.acc 2),(6,D.int .i64 jc)],[Ob.box (aZ.c aF),Ob.row .uq 9 1 W0,Ob.row .uq 9 1 (nw.map tx)]⟩
theorem xf(hΓ:Γ.nt=63){aF:aZ}{i1:Nat}{nw:aD}{r:aD}{k2:aD->Option aD}(FU:∀(B6:aD),k2 B6=some r->Ax Γ N f33 (.q [[some (9,1)]] (D.fr 9 1 (r.map tx))) [1,1,0,1,0,0,1,1] ⟨[(1,D.ptr 0 0),(3,D.acc 1),(4,D.int .i64 (i1:Int))],[Ob.box (aZ.c aF),Ob.row .uq 9 1 (B6.map tx)]⟩)(hm2:nw.length<=maxLen):∀(rest:aD) (i2:Nat) (n8:aD),nw.drop i2=rest->gO aF i1 nw k2 rest i2 n8=some r->Ar Γ N f33 (.q [[some (9,1)]] (D.fr 9 1 (r.map tx))) [1,1,0,1,0,0,1,0,0,1,1,0] (rest.length+1) (yW aF i1 nw (n8.map tx) (i2:Int)):=by
 intro rest
 induction rest with
 |nil=>
  intro i2 n8 hd2 h;rw[gO]at h;refine aa fun N2 Bg xw=>?_
  exact((aW.ge tx hd2).a [.hl 3 [1,3,4] [0,1]]).ex hΓ Bg (FU n8 h)
 |cons r9 AI ih2=>
  intro i2 n8 hd2 h;rw[gO]at h;refine aa fun N2 Bg xw=>?_
  obtain⟨Rj,h172,h⟩:=aC h;exact(((((aW.lt tx hd2).i (fC tx 1 (dc hd2))).o 1 1 .uq (cB tx (dc hd2))).g (iA h172)).a [.cn [1,3,4,5,6] [0,3,2]]).ct hΓ xw (iS hd2 hm2) (ih2 (i2+1) Rj (dn hd2) h)
theorem xe(hΓ:Γ.nt=63){aF:aZ}{r:aD}{k1:aD->Option aD}(ju:∀(n7:aD),k1 n7=some r->Ax Γ N f33 (.q [[some (9,1)]] (D.fr 9 1 (r.map tx))) [1,1,1] ⟨[(1,D.ptr 0 0),(3,D.acc 1)],[Ob.box (aZ.c aF),Ob.row .uq 9 1 (n7.map tx)]⟩)(hm1:aF.conds.length<=maxLen):∀(rest:bN) (i1:Nat) (cC:aD),aF.conds.drop i1=rest->fH aF k1 rest i1 cC=some r->Ar Γ N f33 (.q [[some (9,1)]] (D.fr 9 1 (r.map tx))) [1,1,0,1,0] (rest.length+1) (yV aF (cC.map tx) (i1:Int)):=by
 intro rest
 induction rest with
 |nil=>
  intro i1 cC bL h;rw[fH]at h;refine aa fun N1 hN1 eT=>?_
  exact((aW.ge aT.c bL).a [.hl 0 [1,3] [0,1]]).ex hΓ hN1 (ju cC h)
 |cons bu fY ih1=>
  intro i1 cC bL h;rw[fH]at h;refine aa fun N1 hN1 eT=>?_
  obtain⟨nw,h148,h⟩:=aC h;obtain⟨h173,h⟩:=bY h;refine((((aW.lt aT.c bL).l (cI aT.c 5 (dc bL) rfl)).g (kn h148)).a [.cn [1,3,4,5,6] [0,1,2]]).lp hΓ (xf hΓ (fun B6 h=>?_) (bn h173) nw 0 cC rfl h);exact(aW.a [.cn [1,3,4] [0,1]]).ct hΓ eT (iS bL hm1) (ih1 (i1+1) B6 (dn bL) h)
def yX(aF:aZ)(W0:List aG)(jc:Int):St:=⟨[(1,D.ptr 0 0),(3,D.acc 1),(7,D.int .i64 jc)],[Ob.box (aZ.c aF),Ob.row .uq 9 1 W0]⟩
def yY(aF:aZ)(i3:Nat)(AM:aD)(W0:List aG)(jc:Int):St:=⟨[(1,D.ptr 0 0),(3,D.acc 1),(7,D.int .i64 (i3:Int)),(8,D.acc 2),(9,D.int .i64 jc)],[Ob.box (aZ.c aF),Ob.row .uq 9 1 W0,Ob.row .uq 9 1 (AM.map tx)]⟩
theorem xh(hΓ:Γ.nt=63){aF:aZ}{i3:Nat}{AM:aD}{r:aD}{k4:aD->Option aD}(Uq:∀(JV:aD),k4 JV=some r->Ax Γ N f33 (.q [[some (9,1)]] (D.fr 9 1 (r.map tx))) [1,1,1,0,1,0,0,1,1] ⟨[(1,D.ptr 0 0),(3,D.acc 1),(7,D.int .i64 (i3:Int))],[Ob.box (aZ.c aF),Ob.row .uq 9 1 (JV.map tx)]⟩)(VP:AM.length<=maxLen):∀(rest:aD) (i4:Nat) (Er:aD),AM.drop i4=rest->gP aF i3 AM k4 rest i4 Er=some r->Ar Γ N f33 (.q [[some (9,1)]] (D.fr 9 1 (r.map tx))) [1,1,1,0,1,0,0,1,0,0,1,1,0] (rest.length+1) (yY aF i3 AM (Er.map tx) (i4:Int)):=by
 intro rest
 induction rest with
 |nil=>
  intro i4 Er Gk h;rw[gP]at h;refine aa fun N4 SM SN=>?_
  exact((aW.ge tx Gk).a [.hl 3 [1,3,7] [0,1]]).ex hΓ SM (Uq Er h)
 |cons S4 U4 ih4=>
  intro i4 Er Gk h;rw[gP]at h;refine aa fun N4 SM SN=>?_
  obtain⟨Rl,h345,h⟩:=aC h;exact(((((aW.lt tx Gk).i (fC tx 1 (dc Gk))).o 1 1 .uq (cB tx (dc Gk))).g (iA h345)).a [.cn [1,3,7,8,9] [0,3,2]]).ct hΓ SN (iS Gk VP) (ih4 (i4+1) Rl (dn Gk) h)
theorem xg(hΓ:Γ.nt=63){aF:aZ}{r:aD}{k3:aD->Option aD}(QH:∀(M6:aD),k3 M6=some r->Ax Γ N f33 (.q [[some (9,1)]] (D.fr 9 1 (r.map tx))) [1,1,1,1] ⟨[(3,D.acc 0)],[Ob.row .uq 9 1 (M6.map tx)]⟩)(JB:aF.cJ.length<=maxLen):∀(rest:iD) (i3:Nat) (ql:aD),aF.cJ.drop i3=rest->eX aF k3 rest i3 ql=some r->Ar Γ N f33 (.q [[some (9,1)]] (D.fr 9 1 (r.map tx))) [1,1,1,0,1,0] (rest.length+1) (yX aF (ql.map tx) (i3:Int)):=by
 intro rest
 induction rest with
 |nil=>
  intro i3 ql tU h;rw[eX]at h;refine aa fun N3 Kk GI=>?_
  exact((aW.ge Action.c tU).a [.hl 0 [3] [1]]).ex hΓ Kk (QH ql h)
 |cons Jh GO ih3=>
  intro i3 ql tU h;rw[eX]at h;refine aa fun N3 Kk GI=>?_
  obtain⟨AM,h321,h⟩:=aC h;obtain⟨h346,h⟩:=bY h;refine((((aW.lt Action.c tU).l (cI Action.c 3 (dc tU) rfl)).g (kJ h321)).a [.cn [1,3,7,8,9] [0,1,2]]).lp hΓ (xh hΓ (fun JV h=>?_) (bn h346) AM 0 ql rfl h);exact(aW.a [.cn [1,3,7] [0,1]]).ct hΓ GI (iS tU JB) (ih3 (i3+1) JV (dn tU) h)
theorem wM{aF:aZ}{r:aD}(h:mL aF=some r):Good prog 33 [D.agg (aZ.c aF)] (D.fr 9 1 (r.map tx)):=by
 refine gd func33 [[some (9,1)]] 63 fun hr Γ hΓ=>?_
 rw[mL]at h;refine(aW.a [.cn [1,3,4] [0,1]]).lp hΓ (xe hΓ (fun n7 h=>?_) (by have:=(n9.sl (n9.agg (hr _ (aE (i:=0) rfl)) (.sl (aF.conds.map aT.c)) (by simp))).1;simpa using this) aF.conds 0 ([]:aD) rfl h);refine(aW.a [.cn [1,3,7] [0,1]]).lp hΓ (xg hΓ (fun M6 h=>?_) (by have:=(n9.sl (n9.agg (hr _ (aE (i:=0) rfl)) (.sl (aF.cJ.map Action.c)) (by simp))).1;simpa using this) aF.cJ 0 n7 rfl h);have h:=aM h;subst h;exact aW.ret hΓ
def eH(aF:aZ)(oJ:aD)(i1:Nat)(bu:aT)(AQ:aD)(vn:aD)(k2:Option Bool):aD->Nat->Option Bool
 | [],i2=>(k2)
 |r9::AI,i2=>((eM AQ r9).bind fun Ro=>((mU bu).bind fun UF=>(bif UF then(bif !(Ro)then(some false)else(bif (bu.kind:Int)==2 then(eH aF oJ i1 bu AQ vn k2 AI (i2+1))else(eH aF oJ i1 bu AQ vn k2 AI (i2+1))))else(bif (bu.kind:Int)==2 then(bif !(Ro)then((j8 aF (i1:Int) r9).bind fun UG=>(bif UG then(some false)else(eH aF oJ i1 bu AQ vn k2 AI (i2+1))))else(eH aF oJ i1 bu AQ vn k2 AI (i2+1)))else(eH aF oJ i1 bu AQ vn k2 AI (i2+1))))))
def eL(aF:aZ)(oJ:aD)(i1:Nat)(bu:aT)(AR:aD)(vo:aD)(k3:Option Bool):aD->Nat->Option Bool
 | [],i3=>(k3)
 |Jh::GO,i3=>((eM AR Jh).bind fun Rp=>((mU bu).bind fun UH=>(bif UH then(bif !(Rp)then(some false)else(bif (bu.kind:Int)==2 then(eL aF oJ i1 bu AR vo k3 GO (i3+1))else(eL aF oJ i1 bu AR vo k3 GO (i3+1))))else(bif (bu.kind:Int)==2 then(bif !(Rp)then((j8 aF (i1:Int) Jh).bind fun UI=>(bif UI then(some false)else(eL aF oJ i1 bu AR vo k3 GO (i3+1))))else(eL aF oJ i1 bu AR vo k3 GO (i3+1)))else(eL aF oJ i1 bu AR vo k3 GO (i3+1))))))
def gZ(aF:aZ)(oJ:aD)(k1:Option Bool):bN->Nat->Option Bool
 | [],i1=>(k1)
 |bu::fY,i1=>((lB bu).bind fun UD=>(bif !(UD)then(some false)else(bif ((i1:Int):Int)==0 then(bif (bu.kind:Int) != 1 then(some false)else((gY aF (i1:Int)).bind fun AQ=>((iV bu).bind fun vn=>(bif decide (vn.length<=maxLen)then(eH aF oJ i1 bu AQ vn (gZ aF oJ k1 fY (i1+1)) vn 0)else none))))else((gY aF (i1:Int)).bind fun AR=>((iV bu).bind fun vo=>(bif decide (vo.length<=maxLen)then(eL aF oJ i1 bu AR vo (gZ aF oJ k1 fY (i1+1)) vo 0)else none))))))
def j4(aF:aZ)(oJ:aD)(i4:Nat)(AS:aD)(k5:Option Bool):aD->Nat->Option Bool
 | [],i5=>(k5)
 |XJ::XK,i5=>((eM oJ XJ).bind fun UK=>(bif !(UK)then(some false)else(j4 aF oJ i4 AS k5 XK (i5+1))))
def j3(aF:aZ)(oJ:aD)(k4:Option Bool):iD->Nat->Option Bool
 | [],i4=>(k4)
 |S4::U4,i4=>((mK S4).bind fun UJ=>(bif !(UJ)then(some false)else((jE S4.pat).bind fun AS=>(bif decide (AS.length<=maxLen)then(j4 aF oJ i4 AS (j3 aF oJ k4 U4 (i4+1)) AS 0)else none))))
def jC(aF:aZ):Option Bool:=((mT aF.name).bind fun y1=>(bif !(y1)then(some false)else((iW aF.prio 0 9).bind fun y4=>(bif !(y4)then(some false)else((iW ((aF.conds.map aT.c).length:Int) 1 4).bind fun y7=>(bif !(y7)then(some false)else((iW ((aF.cJ.map Action.c).length:Int) 1 2).bind fun Cs=>(bif !(Cs)then(some false)else((gY aF ((aF.conds.map aT.c).length:Int)).bind fun oJ=>(gZ aF oJ (j3 aF oJ ((mL aF).bind fun UL=>(some (decide ((((UL.map tx).length:Int):Int)<=6)))) aF.cJ 0) aF.conds 0))))))))))
def Ak(aF:aZ)(oJ:aD)(jc:Int):St:=⟨[(1,D.ptr 0 0),(3,D.acc 1),(4,D.int .i64 jc)],[Ob.box (aZ.c aF),Ob.row .uq 9 1 (oJ.map tx)]⟩
def Al(aF:aZ)(oJ:aD)(i1:Nat)(bu:aT)(AQ:aD)(vn:aD)(jc:Int):St:=⟨[(1,D.ptr 0 0),(3,D.acc 1),(4,D.int .i64 (i1:Int)),(5,D.ptr 2 0),(6,D.acc 3),(7,D.acc 4),(8,D.int .i64 jc)],[Ob.box (aZ.c aF),Ob.row .uq 9 1 (oJ.map tx),Ob.box [D.int .i64 bu.kind,D.str bu.pat.rel,D.sl (bu.pat.args.map tx),D.str bu.left,D.str bu.right],Ob.row .uq 9 1 (AQ.map tx),Ob.row .uq 9 1 (vn.map tx)]⟩
theorem zP(hΓ:Γ.nt=145){aF:aZ}{oJ:aD}{i1:Nat}{bu:aT}{AQ:aD}{vn:aD}{r:Bool}{k2:Option Bool}(FU:k2=some r->Ax Γ N f11 (.q [[none]] (D.bool r)) [1,1,1,0,1,0,0,1,1] ⟨[(1,D.ptr 0 0),(3,D.acc 1),(4,D.int .i64 (i1:Int))],[Ob.box (aZ.c aF),Ob.row .uq 9 1 (oJ.map tx)]⟩)(hm2:vn.length<=maxLen):∀(rest:aD) (i2:Nat),vn.drop i2=rest->eH aF oJ i1 bu AQ vn k2 rest i2=some r->Ar Γ N f11 (.q [[none]] (D.bool r)) [1,1,1,0,1,0,0,1,0,0,1,1,1,1,1,0] (rest.length+1) (Al aF oJ i1 bu AQ vn (i2:Int)):=by
 intro rest
 induction rest with
 |nil=>
  intro i2 hd2 h;rw[eH]at h;refine aa fun N2 Bg xw=>?_
  exact((aW.ge tx hd2).a [.hl 3 [1,3,4] [0,1]]).ex hΓ Bg (FU h)
 |cons r9 AI ih2=>
  intro i2 hd2 h;rw[eH]at h;refine aa fun N2 Bg xw=>?_
  obtain⟨Ro,h711,h⟩:=aC h;obtain⟨UF,h713,h⟩:=aC h;have PD:=((((((aW.lt tx hd2).i (fC tx 1 (dc hd2))).o 1 1 .uq (cB tx (dc hd2))).g (gC h711)).a [.n 21]).g (sB h713))
  obtain⟨h714,h⟩|⟨h714,h⟩:=aL h
  ·have PE:=(PD.r 3 h714)
   obtain⟨h715,h⟩|⟨h715,h⟩:=aL h
   ·have h:=aM h;subst h;exact((((((PE.r 4 h715).a [bF,bF]).r 2 h715).a [bF,bF,bF,bF,bF,bF,bF]).r 2 h715).T 1).ret hΓ
   ·have PF:=(PE.r 4 h715)
    obtain⟨h716,h⟩|⟨h716,h⟩:=aL h
    ·exact((((((PF.r 2 h716).b h715).b h716).r 11 h715).F 1).a [.cn [1,3,4,5,6,7,8] [0,1,2,3,4]]).ct hΓ xw (iS hd2 hm2) (ih2 (i2+1) (dn hd2) h)
    ·exact((((((((((PF.r 2 h716).b h715).b h716).b h715).F 7).b h715).F 1).b h715).F 1).a [.cn [1,3,4,5,6,7,8] [0,1,2,3,4]]).ct hΓ xw (iS hd2 hm2) (ih2 (i2+1) (dn hd2) h)
  ·have PG:=((PD.r 3 h714).F 4)
   obtain⟨h717,h⟩|⟨h717,h⟩:=aL h
   ·have PI:=((((PG.r 2 h717).F 1).b h717).F 1)
    obtain⟨h718,h⟩|⟨h718,h⟩:=aL h
    ·obtain⟨UG,h720,h⟩:=aC h;have PJ:=(((((((((PI.r 5 h718).i (fC tx 1 (dc hd2))).b h718).o 1 1 .uq (cB tx (dc hd2))).b h718).g (oY h720)).F 1).b h718).F 1)
     obtain⟨h721,h⟩|⟨h721,h⟩:=aL h
     ·have h:=aM h;subst h;exact(PJ.b h721).ret hΓ
     ·exact((PJ.b h721).a [.cn [1,3,4,5,6,7,8] [0,1,2,3,4]]).ct hΓ xw (iS hd2 hm2) (ih2 (i2+1) (dn hd2) h)
    ·exact(((((PI.r 7 h718).F 1).b h718).F 2).a [.cn [1,3,4,5,6,7,8] [0,1,2,3,4]]).ct hΓ xw (iS hd2 hm2) (ih2 (i2+1) (dn hd2) h)
   ·exact(((((PG.r 2 h717).F 1).b h717).F 12).a [.cn [1,3,4,5,6,7,8] [0,1,2,3,4]]).ct hΓ xw (iS hd2 hm2) (ih2 (i2+1) (dn hd2) h)
def Am(aF:aZ)(oJ:aD)(i1:Nat)(bu:aT)(AR:aD)(vo:aD)(jc:Int):St:=⟨[(1,D.ptr 0 0),(3,D.acc 1),(4,D.int .i64 (i1:Int)),(5,D.ptr 2 0),(6,D.acc 3),(7,D.acc 4),(8,D.int .i64 jc)],[Ob.box (aZ.c aF),Ob.row .uq 9 1 (oJ.map tx),Ob.box [D.int .i64 bu.kind,D.str bu.pat.rel,D.sl (bu.pat.args.map tx),D.str bu.left,D.str bu.right],Ob.row .uq 9 1 (AR.map tx),Ob.row .uq 9 1 (vo.map tx)]⟩
theorem zQ(hΓ:Γ.nt=145){aF:aZ}{oJ:aD}{i1:Nat}{bu:aT}{AR:aD}{vo:aD}{r:Bool}{k3:Option Bool}(QH:k3=some r->Ax Γ N f11 (.q [[none]] (D.bool r)) [1,1,1,0,1,0,0,1,1] ⟨[(1,D.ptr 0 0),(3,D.acc 1),(4,D.int .i64 (i1:Int))],[Ob.box (aZ.c aF),Ob.row .uq 9 1 (oJ.map tx)]⟩)(JB:vo.length<=maxLen):∀(rest:aD) (i3:Nat),vo.drop i3=rest->eL aF oJ i1 bu AR vo k3 rest i3=some r->Ar Γ N f11 (.q [[none]] (D.bool r)) [1,1,1,0,1,0,0,1,0,0,1,1,1,1,1,0] (rest.length+1) (Am aF oJ i1 bu AR vo (i3:Int)):=by
 intro rest
 induction rest with
 |nil=>
  intro i3 tU h;rw[eL]at h;refine aa fun N3 Kk GI=>?_
  exact((aW.ge tx tU).a [.hl 3 [1,3,4] [0,1]]).ex hΓ Kk (QH h)
 |cons Jh GO ih3=>
  intro i3 tU h;rw[eL]at h;refine aa fun N3 Kk GI=>?_
  obtain⟨Rp,h786,h⟩:=aC h;obtain⟨UH,h788,h⟩:=aC h;have PK:=((((((aW.lt tx tU).i (fC tx 1 (dc tU))).o 1 1 .uq (cB tx (dc tU))).g (gC h786)).a [.n 21]).g (sB h788))
  obtain⟨h789,h⟩|⟨h789,h⟩:=aL h
  ·have PL:=(PK.r 3 h789)
   obtain⟨h790,h⟩|⟨h790,h⟩:=aL h
   ·have h:=aM h;subst h;exact((((((PL.r 4 h790).a [bF,bF]).r 2 h790).a [bF,bF,bF,bF,bF,bF,bF]).r 2 h790).T 1).ret hΓ
   ·have PM:=(PL.r 4 h790)
    obtain⟨h791,h⟩|⟨h791,h⟩:=aL h
    ·exact((((((PM.r 2 h791).b h790).b h791).r 11 h790).F 1).a [.cn [1,3,4,5,6,7,8] [0,1,2,3,4]]).ct hΓ GI (iS tU JB) (ih3 (i3+1) (dn tU) h)
    ·exact((((((((((PM.r 2 h791).b h790).b h791).b h790).F 7).b h790).F 1).b h790).F 1).a [.cn [1,3,4,5,6,7,8] [0,1,2,3,4]]).ct hΓ GI (iS tU JB) (ih3 (i3+1) (dn tU) h)
  ·have PN:=((PK.r 3 h789).F 4)
   obtain⟨h792,h⟩|⟨h792,h⟩:=aL h
   ·have PO:=((((PN.r 2 h792).F 1).b h792).F 1)
    obtain⟨h793,h⟩|⟨h793,h⟩:=aL h
    ·obtain⟨UI,h795,h⟩:=aC h;have PR:=(((((((((PO.r 5 h793).i (fC tx 1 (dc tU))).b h793).o 1 1 .uq (cB tx (dc tU))).b h793).g (oY h795)).F 1).b h793).F 1)
     obtain⟨h796,h⟩|⟨h796,h⟩:=aL h
     ·have h:=aM h;subst h;exact(PR.b h796).ret hΓ
     ·exact((PR.b h796).a [.cn [1,3,4,5,6,7,8] [0,1,2,3,4]]).ct hΓ GI (iS tU JB) (ih3 (i3+1) (dn tU) h)
    ·exact(((((PO.r 7 h793).F 1).b h793).F 2).a [.cn [1,3,4,5,6,7,8] [0,1,2,3,4]]).ct hΓ GI (iS tU JB) (ih3 (i3+1) (dn tU) h)
   ·exact(((((PN.r 2 h792).F 1).b h792).F 12).a [.cn [1,3,4,5,6,7,8] [0,1,2,3,4]]).ct hΓ GI (iS tU JB) (ih3 (i3+1) (dn tU) h)
theorem zO(hΓ:Γ.nt=145){aF:aZ}{oJ:aD}{r:Bool}{k1:Option Bool}(ju:k1=some r->Ax Γ N f11 (.q [[none]] (D.bool r)) [1,1,1,1] ⟨[(1,D.ptr 0 0),(3,D.acc 1)],[Ob.box (aZ.c aF),Ob.row .uq 9 1 (oJ.map tx)]⟩)(hm1:aF.conds.length<=maxLen):∀(rest:bN) (i1:Nat),aF.conds.drop i1=rest->gZ aF oJ k1 rest i1=some r->Ar Γ N f11 (.q [[none]] (D.bool r)) [1,1,1,0,1,0] (rest.length+1) (Ak aF oJ (i1:Int)):=by
 intro rest
 induction rest with
 |nil=>
  intro i1 bL h;rw[gZ]at h;refine aa fun N1 hN1 eT=>?_
  exact((aW.ge aT.c bL).a [.hl 0 [1,3] [0,1]]).ex hΓ hN1 (ju h)
 |cons bu fY ih1=>
  intro i1 bL h;rw[gZ]at h;refine aa fun N1 hN1 eT=>?_
  obtain⟨UD,h644,h⟩:=aC h;have PS:=(((aW.lt aT.c bL).l (cI aT.c 5 (dc bL) rfl)).g (j0 h644))
  obtain⟨h645,h⟩|⟨h645,h⟩:=aL h
  ·have h:=aM h;subst h;exact((((PS.r 3 h645).a [bF,bF,bF]).r 2 h645).T 1).ret hΓ
  ·have PT:=(PS.r 3 h645)
   obtain⟨h646,h⟩|⟨h646,h⟩:=aL h
   ·have PU:=((((PT.r 3 h646).b h645).b h646).b h645)
    obtain⟨h647,h⟩|⟨h647,h⟩:=aL h
    ·have h:=aM h;subst h;exact(PU.b h647).ret hΓ
    ·obtain⟨AQ,h649,h⟩:=aC h;obtain⟨vn,h651,h⟩:=aC h;obtain⟨h722,h⟩:=bY h;refine((((PU.b h647).g (gB h649)).g (kn h651)).a [.cn [1,3,4,5,6,7,8] [0,1,2,3,4]]).lp hΓ (zP hΓ (fun h=>?_) (bn h722) vn 0 rfl h);exact(aW.a [.cn [1,3,4] [0,1]]).ct hΓ eT (iS bL hm1) (ih1 (i1+1) (dn bL) h)
   ·obtain⟨AR,h724,h⟩:=aC h;obtain⟨vo,h726,h⟩:=aC h;obtain⟨h797,h⟩:=bY h;refine((((((((PT.r 3 h646).b h645).b h646).b h645).F 1).g (gB h724)).g (kn h726)).a [.cn [1,3,4,5,6,7,8] [0,1,2,3,4]]).lp hΓ (zQ hΓ (fun h=>?_) (bn h797) vo 0 rfl h);exact(aW.a [.cn [1,3,4] [0,1]]).ct hΓ eT (iS bL hm1) (ih1 (i1+1) (dn bL) h)
def Ao(aF:aZ)(oJ:aD)(jc:Int):St:=⟨[(1,D.ptr 0 0),(3,D.acc 1),(10,D.int .i64 jc)],[Ob.box (aZ.c aF),Ob.row .uq 9 1 (oJ.map tx)]⟩
def Ap(aF:aZ)(oJ:aD)(i4:Nat)(AS:aD)(jc:Int):St:=⟨[(1,D.ptr 0 0),(3,D.acc 1),(10,D.int .i64 (i4:Int)),(11,D.acc 2),(12,D.int .i64 jc)],[Ob.box (aZ.c aF),Ob.row .uq 9 1 (oJ.map tx),Ob.row .uq 9 1 (AS.map tx)]⟩
theorem zS(hΓ:Γ.nt=145){aF:aZ}{oJ:aD}{i4:Nat}{AS:aD}{r:Bool}{k5:Option Bool}(Xl:k5=some r->Ax Γ N f11 (.q [[none]] (D.bool r)) [1,1,1,1,0,1,0,0,1,1] ⟨[(1,D.ptr 0 0),(3,D.acc 1),(10,D.int .i64 (i4:Int))],[Ob.box (aZ.c aF),Ob.row .uq 9 1 (oJ.map tx)]⟩)(YC:AS.length<=maxLen):∀(rest:aD) (i5:Nat),AS.drop i5=rest->j4 aF oJ i4 AS k5 rest i5=some r->Ar Γ N f11 (.q [[none]] (D.bool r)) [1,1,1,1,0,1,0,0,1,0,0,1,1,1,0] (rest.length+1) (Ap aF oJ i4 AS (i5:Int)):=by
 intro rest
 induction rest with
 |nil=>
  intro i5 QT h;rw[j4]at h;refine aa fun N5 Wd We=>?_
  exact((aW.ge tx QT).a [.hl 3 [1,3,10] [0,1]]).ex hΓ Wd (Xl h)
 |cons XJ XK ih5=>
  intro i5 QT h;rw[j4]at h;refine aa fun N5 Wd We=>?_
  obtain⟨UK,h953,h⟩:=aC h;have PV:=((((aW.lt tx QT).i (fC tx 1 (dc QT))).o 1 1 .uq (cB tx (dc QT))).g (gC h953))
  obtain⟨h954,h⟩|⟨h954,h⟩:=aL h
  ·have h:=aM h;subst h;exact(PV.b h954).ret hΓ
  ·exact((PV.b h954).a [.cn [1,3,10,11,12] [0,1,2]]).ct hΓ We (iS QT YC) (ih5 (i5+1) (dn QT) h)
theorem zR(hΓ:Γ.nt=145){aF:aZ}{oJ:aD}{r:Bool}{k4:Option Bool}(Uq:k4=some r->Ax Γ N f11 (.q [[none]] (D.bool r)) [1,1,1,1,1] ⟨[(1,D.ptr 0 0)],[Ob.box (aZ.c aF)]⟩)(VP:aF.cJ.length<=maxLen):∀(rest:iD) (i4:Nat),aF.cJ.drop i4=rest->j3 aF oJ k4 rest i4=some r->Ar Γ N f11 (.q [[none]] (D.bool r)) [1,1,1,1,0,1,0] (rest.length+1) (Ao aF oJ (i4:Int)):=by
 intro rest
 induction rest with
 |nil=>
  intro i4 Gk h;rw[j3]at h;refine aa fun N4 SM SN=>?_
  exact((aW.ge Action.c Gk).a [.hl 0 [1] [0]]).ex hΓ SM (Uq h)
 |cons S4 U4 ih4=>
  intro i4 Gk h;rw[j3]at h;refine aa fun N4 SM SN=>?_
  obtain⟨UJ,h927,h⟩:=aC h;have PW:=(((aW.lt Action.c Gk).l (cI Action.c 3 (dc Gk) rfl)).g (wJ h927))
  obtain⟨h928,h⟩|⟨h928,h⟩:=aL h
  ·have h:=aM h;subst h;exact(PW.b h928).ret hΓ
  ·obtain⟨AS,h930,h⟩:=aC h;obtain⟨h955,h⟩:=bY h;refine((((PW.b h928).l (cI Action.c 3 (dc Gk) rfl)).g (kJ h930)).a [.cn [1,3,10,11,12] [0,1,2]]).lp hΓ (zS hΓ (fun h=>?_) (bn h955) AS 0 rfl h);exact(aW.a [.cn [1,3,10] [0,1]]).ct hΓ SN (iS Gk VP) (ih4 (i4+1) (dn Gk) h)
theorem dU{aF:aZ}{r:Bool}(h:jC aF=some r):Good prog 11 [D.agg (aZ.c aF)] (D.bool r):=by
 refine gd func11 [[none]] 145 fun hr Γ hΓ=>?_
 rw[jC]at h;obtain⟨y1,h2,h⟩:=aC h;obtain⟨h3,h⟩|⟨h3,h⟩:=aL h
 ·have h:=aM h;subst h;exact(((aW.g (lg h2)).r 5 h3).T 13).ret hΓ
 ·obtain⟨y4,h5,h⟩:=aC h;have PX:=((((aW.g (lg h2)).r 3 h3).g (fW h5)).r 2 h3)
  obtain⟨h6,h⟩|⟨h6,h⟩:=aL h
  ·have h:=aM h;subst h;exact((PX.r 6 h6).T 7).ret hΓ
  ·obtain⟨y7,h8,h⟩:=aC h;have PY:=(((PX.r 4 h6).g (fW h8)).r 2 h6)
   obtain⟨h9,h⟩|⟨h9,h⟩:=aL h
   ·have h:=aM h;subst h;exact((PY.r 6 h9).T 1).ret hΓ
   ·obtain⟨Cs,h11,h⟩:=aC h;have PZ:=(((PY.r 4 h9).g (fW h11)).r 2 h9)
    obtain⟨h12,h⟩|⟨h12,h⟩:=aL h
    ·have h:=aM h;subst h;exact(PZ.b h12).ret hΓ
    ·obtain⟨oJ,h14,h⟩:=aC h;refine(((PZ.b h12).g (gB h14)).a [.cn [1,3,4] [0,1]]).lp hΓ (zO hΓ (fun h=>?_) (by have:=(n9.sl (n9.agg (hr _ (aE (i:=0) rfl)) (.sl (aF.conds.map aT.c)) (by simp))).1;simpa using this) aF.conds 0 rfl h);refine(aW.a [.cn [1,3,10] [0,1]]).lp hΓ (zR hΓ (fun h=>?_) (by have:=(n9.sl (n9.agg (hr _ (aE (i:=0) rfl)) (.sl (aF.cJ.map Action.c)) (by simp))).1;simpa using this) aF.cJ 0 rfl h);obtain⟨UL,h957,h⟩:=aC h;cases h;exact(aW.g (wM h957)).ret hΓ
def kU(aF:Bytes)(ay:Bytes)(k1:Int->aD->Option aD):Nat->Int->Int->aD->Option aD
 |0,_,_,_=>none
 |n1+1,eO,v7,bh=>(bif decide ((IntKind.i64.wrap (v7+(ay.length:Int)):Int)<=(aF.length:Int))then((oH aF.length (some (D.int .i64 v7)) (some (D.int .i64 (IntKind.i64.wrap (v7+(ay.length:Int)))))).bind fun p=>(fun W9 WQ=>(bif ((aF.take WQ).drop W9:Bytes)==ay then((oH aF.length (some (D.int .i64 eO)) (some (D.int .i64 v7))).bind fun p=>(fun Rx S0=>(bif room ((bh.map tx).length+([[D.str ((aF.take S0).drop Rx)]]).length) 16 then(kU aF ay k1 n1 (IntKind.i64.wrap (v7+(ay.length:Int))) (IntKind.i64.wrap (v7+(ay.length:Int))) (bh++([(aF.take S0).drop Rx])))else none)) p.1 p.2)else(kU aF ay k1 n1 eO (IntKind.i64.wrap (v7+1)) bh))) p.1 p.2)else(k1 eO bh))
def hG(aF:Bytes)(ay:Bytes):Option aD:=(bif (ay:Bytes)==([])then(bif room (([]:List aG).length+([[D.str aF]]).length) 16 then(some (([]:aD)++([aF])))else none)else(kU aF ay (fun(vA:Int) (dL:aD)=>((oH aF.length (some (D.int .i64 vA)) none).bind fun p=>(fun TH U0=>(bif room ((dL.map tx).length+([[D.str ((aF.take U0).drop TH)]]).length) 16 then(some (dL++([(aF.take U0).drop TH])))else none)) p.1 p.2)) fuel 0 0 ([]:aD)))
def vE(aF:Bytes)(ay:Bytes)(eO:Int)(v7:Int)(W2:List aG):St:=⟨[(0,D.str aF),(1,D.str ay),(5,D.acc 0),(6,D.int .i64 eO),(7,D.int .i64 v7)],[Ob.row .uq 9 1 W2]⟩
theorem Aq(hΓ:Γ.nt=51){aF:Bytes}{ay:Bytes}{r:aD}{k1:Int->aD->Option aD}(ju:∀(vA:Int) (dL:aD),k1 vA dL=some r->Ax Γ N f110 (.q [[some (9,1)]] (D.fr 9 1 (r.map tx))) [1,1,1,1,1] ⟨[(0,D.str aF),(5,D.acc 0),(6,D.int .i64 vA)],[Ob.row .uq 9 1 (dL.map tx)]⟩):∀(n1:Nat) (eO:Int) (v7:Int) (bh:aD),kU aF ay k1 n1 eO v7 bh=some r->Ar Γ N f110 (.q [[some (9,1)]] (D.fr 9 1 (r.map tx))) [1,1,1,1,0,1,0] n1 (vE aF ay eO v7 (bh.map tx)):=by
 intro n
 induction n with
 |zero=>intro eO v7 bh h;simp[kU]at h
 |succ n1 ih1=>
  intro eO v7 bh h;rw[kU]at h;refine aa fun N1 hN1 eT=>?_
  obtain⟨h48,h⟩|⟨h48,h⟩:=aL h
  ·obtain⟨⟨W9,WQ⟩,h51,h⟩:=aC h;have kN:=(((aW.b h48).w h51).a [.cut W9 WQ])
   obtain⟨h52,h⟩|⟨h52,h⟩:=aL h
   ·obtain⟨⟨Rx,S0⟩,h55,h⟩:=aC h;obtain⟨h56,h⟩:=bY h;exact((((kN.b h52).w h55).w (cE h56)).a [.cut Rx S0,.cn [0,1,5,6,7] [2]]).cs hΓ eT (vE aF ay (IntKind.i64.wrap (v7+(ay.length:Int))) (IntKind.i64.wrap (v7+(ay.length:Int))) ((bh.map tx)++([[D.str ((aF.take S0).drop Rx)]]))) (by first| (simp only[mA]<;>rfl)| (simp only[mA,aJ.c,aj.c,aT.c,Action.c,aZ.c,bA.c,bE.c,jH.c,Node.c,dh.c,jr.c]<;>rfl)) (ih1 (IntKind.i64.wrap (v7+(ay.length:Int))) (IntKind.i64.wrap (v7+(ay.length:Int))) (bh++([(aF.take S0).drop Rx])) h)
   ·exact((kN.b h52).a [.cn [0,1,5,6,7] [0]]).cf hΓ eT (ih1 eO (IntKind.i64.wrap (v7+1)) bh h)
  ·exact((aW.b h48).a [.hl 0 [0,5,6] [0]]).ex hΓ hN1 (ju eO bh h)
theorem eS{aF:Bytes}{ay:Bytes}{r:aD}(h:hG aF ay=some r):Good prog 110 [D.str aF,D.str ay] (D.fr 9 1 (r.map tx)):=by
 refine gd func110 [[some (9,1)]] 51 fun hr Γ hΓ=>?_
 rw[hG]at h;obtain⟨h1,h⟩|⟨h1,h⟩:=aL h
 ·obtain⟨h2,h⟩:=bY h;cases h;exact(((aW.a [.GM 4]).b h1).w (cE h2)).rts hΓ (D.fr 9 1 (([]:List aG)++([[D.str aF]]))) (by first|rfl| (simp only[mA]<;>rfl))
 ·refine(((aW.a [.GM 4]).b h1).a [.cn [0,1,5,6,7] [1]]).lp hΓ (Aq hΓ (fun vA dL h=>?_) fuel 0 0 ([]:aD) h);obtain⟨⟨TH,U0⟩,h59,h⟩:=aC h;obtain⟨h60,h⟩:=bY h;cases h;exact(((aW.w h59).w (cE h60)).a [.cut TH U0]).rts hΓ (D.fr 9 1 ((dL.map tx)++([[D.str ((aF.take U0).drop TH)]]))) (by first|rfl| (simp only[mA]<;>rfl)| (simp only[mA,bD]<;>rfl))
def eg(k1:Option Bytes):Nat->Int->Bytes->Option Bytes
 |0,_,_=>none
 |n1+1,x7,iZ=>(bif decide (0<=(x7:Int))&&decide (0<(10:Int))then(bif decide (([UInt8.ofNat (IntKind.u8.wrap (IntKind.i64.wrap (48+((x7:Int)%10)))).toNat]:Bytes).length+(iZ:Bytes).length<=maxLen)then(bif decide (0<=(x7:Int))&&decide (0<(10:Int))then(bif ((x7:Int)/10:Int)==0 then(some (([UInt8.ofNat (IntKind.u8.wrap (IntKind.i64.wrap (48+((x7:Int)%10)))).toNat])++iZ))else(eg k1 n1 ((x7:Int)/10) (([UInt8.ofNat (IntKind.u8.wrap (IntKind.i64.wrap (48+((x7:Int)%10)))).toNat])++iZ)))else none)else none)else none)
def eW:Nat->Int->Option Bytes
 |0,_=>none
 |m_+1,aF=>(bif (aF:Int)==(-9223372036854775808)then(some ([45,57,50,50,51,51,55,50,48,51,54,56,53,52,55,55,53,56,48,56]))else(bif decide ((aF:Int)<0)then((eW m_ (IntKind.i64.wrap (0-aF))).bind fun y3=>(bif decide (([45]:Bytes).length+(y3:Bytes).length<=maxLen)then(some (([45])++y3))else none))else(eg none fuel aF ([]))))
def vX(x7:Int)(iZ:Bytes):St:=⟨[(0,D.int .i64 x7),(3,D.str iZ)],[]⟩
theorem uk(hΓ:Γ.nt=25){r:Bytes}{k1:Option Bytes}(ju:k1=some r->Ax Γ N f51 (.q [[none]] (D.str r)) [1,1,1,1,0,0] ⟨[],[]⟩):∀(n1:Nat) (x7:Int) (iZ:Bytes),eg k1 n1 x7 iZ=some r->Ar Γ N f51 (.q [[none]] (D.str r)) [1,1,1,1,0] n1 (vX x7 iZ):=by
 intro n
 induction n with
 |zero=>intro x7 iZ h;simp[eg]at h
 |succ n1 ih1=>
  intro x7 iZ h;rw[eg]at h;refine aa fun N1 hN1 eT=>?_
  obtain⟨h14,h⟩:=bY h;obtain⟨h15,h⟩:=bY h;obtain⟨h16,h⟩:=bY h;have kN:=(((aW.w (Ee .i64 h14)).w (bn h15)).w (Ee .i64 h16))
  obtain⟨h17,h⟩|⟨h17,h⟩:=aL h
  ·cases h;exact(kN.b h17).rts hΓ (D.str (([UInt8.ofNat (IntKind.u8.wrap (IntKind.i64.wrap (48+((x7:Int)%10)))).toNat])++iZ)) (by first|rfl| (simp only[mA]<;>rfl))
  ·exact((kN.b h17).a [.cn [0,3] []]).cf hΓ eT (ih1 ((x7:Int)/10) (([UInt8.ofNat (IntKind.u8.wrap (IntKind.i64.wrap (48+((x7:Int)%10)))).toNat])++iZ) h)
theorem tj{m_:Nat}(YT:∀ {aF:Int} {r:Bytes},eW m_ aF=some r->Good prog 51 [D.int .i64 aF] (D.str r)){aF:Int}{r:Bytes}(h:eW (m_+1) aF=some r):Good prog 51 [D.int .i64 aF] (D.str r):=by
 refine gd func51 [[none]] 25 fun hr Γ hΓ=>?_
 rw[eW]at h;obtain⟨h1,h⟩|⟨h1,h⟩:=aL h
 ·cases h;exact(aW.b h1).ret hΓ
 ·obtain⟨h2,h⟩|⟨h2,h⟩:=aL h
  ·obtain⟨y3,h4,h⟩:=aC h;obtain⟨h5,h⟩:=bY h;cases h;exact((((aW.b h1).b h2).g (YT h4)).w (bn h5)).rts hΓ (D.str (([45])++y3)) (by first|rfl| (simp only[mA]<;>rfl))
  ·refine(((aW.b h1).b h2).a [.cn [0,3] []]).lp hΓ (uk hΓ (fun h=>?_) fuel aF ([]) h);cases h
theorem oX:∀(m_:Nat) {aF:Int} {r:Bytes},eW m_ aF=some r->Good prog 51 [D.int .i64 aF] (D.str r)
 |0,_,_,h=>by cases h
 |m_+1,_,_,h=>tj (fun h=>oX m_ h) h
def iz(aF:Int):Option Bytes:=eW fuel aF
theorem me{aF:Int}{r:Bytes}(h:iz aF=some r):Good prog 51 [D.int .i64 aF] (D.str r):=oX fuel h
def fG(aF:Bytes)(k1:Int->Option (Int×Bool)):Nat->Int->Int->Option (Int×Bool)
 |0,_,_=>none
 |n1+1,jS,Cr=>(bif decide ((Cr:Int)<(aF.length:Int))then((lG aF Cr).bind fun SD=>(bif decide ((SD.toNat:Int)<48)then(some (0,false))else(bif decide ((SD.toNat:Int)>57)then(some (0,false))else(fG aF k1 n1 (IntKind.i64.wrap ((IntKind.i64.wrap (10*jS))+(IntKind.i64.wrap (IntKind.u8.wrap (SD.toNat-48))))) (IntKind.i64.wrap (Cr+1))))))else(k1 jS))
def ja(aF:Bytes):Option (Int×Bool):=((iW (aF.length:Int) 1 4).bind fun y1=>(bif !(y1)then(some (0,false))else(fG aF (fun(Ji:Int)=>((iz Ji).bind fun Ho=>(bif !((Ho:Bytes)==aF)then(some (0,false))else(some (Ji,true))))) fuel 0 0)))
def yU(aF:Bytes)(jS:Int)(Cr:Int):St:=⟨[(0,D.str aF),(4,D.int .i64 jS),(5,D.int .i64 Cr)],[]⟩
theorem xd(hΓ:Γ.nt=39){aF:Bytes}{r:Int×Bool}{k1:Int->Option (Int×Bool)}(ju:∀(Ji:Int),k1 Ji=some r->Ax Γ N f111 (.q [[none],[none]] (D.gj [D.int .i64 r.1,D.bool r.2])) [1,1,1,1] ⟨[(0,D.str aF),(4,D.int .i64 Ji)],[]⟩):∀(n1:Nat) (jS:Int) (Cr:Int),fG aF k1 n1 jS Cr=some r->Ar Γ N f111 (.q [[none],[none]] (D.gj [D.int .i64 r.1,D.bool r.2])) [1,1,1,0,1,0] n1 (yU aF jS Cr):=by
 intro n
 induction n with
 |zero=>intro jS Cr h;simp[fG]at h
 |succ n1 ih1=>
  intro jS Cr h;rw[fG]at h;refine aa fun N1 hN1 eT=>?_
  obtain⟨h24,h⟩|⟨h24,h⟩:=aL h
  ·obtain⟨SD,h26,h⟩:=aC h;have lI:=((aW.b h24).c h26)
   obtain⟨h27,h⟩|⟨h27,h⟩:=aL h
   ·cases h;exact((lI.r 5 h27).T 1).ret hΓ
   ·have lY:=(((lI.r 3 h27).c h26).r 2 h27)
    obtain⟨h28,h⟩|⟨h28,h⟩:=aL h
    ·cases h;exact(lY.b h28).ret hΓ
    ·exact(((lY.b h28).c h26).a [.cn [0,4,5] []]).cf hΓ eT (ih1 (IntKind.i64.wrap ((IntKind.i64.wrap (10*jS))+(IntKind.i64.wrap (IntKind.u8.wrap (SD.toNat-48))))) (IntKind.i64.wrap (Cr+1)) h)
  ·exact((aW.b h24).a [.hl 0 [0,4] []]).ex hΓ hN1 (ju jS h)
theorem nI{aF:Bytes}{r:Int×Bool}(h:ja aF=some r):Good prog 111 [D.str aF] (D.gj [D.int .i64 r.1,D.bool r.2]):=by
 refine gd func111 [[none],[none]] 39 fun hr Γ hΓ=>?_
 rw[ja]at h;obtain⟨y1,h2,h⟩:=aC h;obtain⟨h3,h⟩|⟨h3,h⟩:=aL h
 ·cases h;exact((aW.g (fW h2)).b h3).ret hΓ
 ·refine(((aW.g (fW h2)).b h3).a [.cn [0,4,5] []]).lp hΓ (xd hΓ (fun Ji h=>?_) fuel 0 0 h);obtain⟨Ho,h30,h⟩:=aC h;obtain⟨h31,h⟩|⟨h31,h⟩:=aL h
  ·cases h;exact((aW.g (me h30)).b h31).ret hΓ
  ·cases h;exact((aW.g (me h30)).b h31).ret hΓ
def tO(aF:Int):Option Bytes:=(bif (aF:Int)==3 then(some ([32,61,32]))else(bif (aF:Int)==4 then(some ([32,33,61,32]))else(some ([32,60,32]))))
theorem ya{aF:Int}{r:Bytes}(h:tO aF=some r):Good prog 157 [D.int .i64 aF] (D.str r):=by
 refine gd func157 [[none]] 8 fun hr Γ hΓ=>?_
 rw[tO]at h;obtain⟨h1,h⟩|⟨h1,h⟩:=aL h
 ·cases h;exact(aW.b h1).ret hΓ
 ·obtain⟨h2,h⟩|⟨h2,h⟩:=aL h
  ·cases h;exact((aW.b h1).b h2).ret hΓ
  ·cases h;exact((aW.b h1).b h2).ret hΓ
def sE(aF:Bytes):Option (Bytes×aD×Bool):=((hG aF ([40])).bind fun y1=>(bif (((y1.map tx).length:Int):Int) != 2 then(some ([],[],false))else((lG y1 (1:Int)).bind fun x4=>(bif ((x4.length:Int):Int)==0 then(some ([],[],false))else((lG x4 (IntKind.i64.wrap ((x4.length:Int)-1))).bind fun b7=>(bif (b7.toNat:Int) != 41 then(some ([],[],false))else((oH x4.length none (some (D.int .i64 (IntKind.i64.wrap ((x4.length:Int)-1))))).bind fun p=>(fun l10 UW=>(bif ((x4.take UW).drop l10:Bytes)==([])then((lG y1 (0:Int)).bind fun x14=>(some (x14,([]:aD),true)))else((lG y1 (0:Int)).bind fun x16=>((hG ((x4.take UW).drop l10) ([44])).bind fun Px=>(some (x16,Px,true)))))) p.1 p.2)))))))
theorem qw{aF:Bytes}{r:Bytes×aD×Bool}(h:sE aF=some r):Good prog 168 [D.str aF] (D.gj [D.str r.1,D.fr 9 1 (r.2.1.map tx),D.bool r.2.2]):=by
 refine gd func168 [[none],[some (9,1)],[none]] 51 fun hr Γ hΓ=>?_
 rw[sE]at h;obtain⟨y1,h2,h⟩:=aC h;have lH:=((aW.g (eS h2)).a [.n 19])
 obtain⟨h3,h⟩|⟨h3,h⟩:=aL h
 ·cases h;exact((lH.r 6 h3).T 12).ret hΓ
 ·obtain⟨x4,h5,h⟩:=aC h;have kN:=(((((lH.r 2 h3).i (iY tx 1 h5)).b h3).o 1 1 .uq (cB tx (fB h5))).r 3 h3)
  obtain⟨h6,h⟩|⟨h6,h⟩:=aL h
  ·cases h;exact((kN.r 11 h6).T 1).ret hΓ
  ·obtain⟨b7,h8,h⟩:=aC h;have lI:=(((((((((((kN.r 2 h6).i (iY tx 1 h5)).b h6).o 1 1 .uq (cB tx (fB h5))).r 2 h6).i (iY tx 1 h5)).b h6).o 1 1 .uq (cB tx (fB h5))).r 3 h6).c h8).r 2 h6)
   obtain⟨h9,h⟩|⟨h9,h⟩:=aL h
   ·cases h;exact(lI.b h9).ret hΓ
   ·obtain⟨⟨l10,UW⟩,h12,h⟩:=aC h;have lY:=((((((((lI.b h9).a [.n 8]).i (iY tx 1 h5)).o 1 1 .uq (cB tx (fB h5))).i (iY tx 1 h5)).o 1 1 .uq (cB tx (fB h5))).w h12).a [.cut l10 UW])
    obtain⟨h13,h⟩|⟨h13,h⟩:=aL h
    ·obtain⟨x14,h15,h⟩:=aC h;cases h;exact(((lY.b h13).i (iY tx 1 h15)).o 1 1 .uq (cB tx (fB h15))).ret hΓ
    ·obtain⟨x16,h17,h⟩:=aC h;obtain⟨Px,h19,h⟩:=aC h;cases h;exact(((((lY.b h13).a [.n 5]).i (iY tx 1 h17)).o 1 1 .uq (cB tx (fB h17))).g (eS h19)).ret hΓ
def fp(aF:Bytes):Option (aJ×Bool):=((sE aF).bind fun y1=>(bif !(y1.2.2)then(some ((⟨[],[]⟩:aJ),false))else((fV (⟨y1.1,y1.2.1⟩:aJ)).bind fun y4=>(bif !(y4)then(some ((⟨[],[]⟩:aJ),false))else(some ((⟨y1.1,y1.2.1⟩:aJ),true))))))
theorem gF{aF:Bytes}{r:aJ×Bool}(h:fp aF=some r):Good prog 158 [D.str aF] (D.gj [D.agg [D.str r.1.rel,D.fr 9 1 (r.1.args.map tx)],D.bool r.2]):=by
 refine gd func158 [[none,some (9,1)],[none]] 26 fun hr Γ hΓ=>?_
 rw[fp]at h;obtain⟨y1,h2,h⟩:=aC h;obtain⟨h3,h⟩|⟨h3,h⟩:=aL h
 ·cases h;exact(((aW.g (qw h2)).r 4 h3).T 1).ret hΓ
 ·obtain⟨y4,h5,h⟩:=aC h;have lH:=(((((aW.g (qw h2)).r 2 h3).a [.d (D.bool y4)]).w (show Good prog 63 [D.agg [D.str y1.1,D.sl (y1.2.1.map tx)]] (D.bool y4)from by first| (simpa only[ar,b8,bV,bD,bG]using ei h5)|exact ei h5| (have t:=ei h5;simp only[ar,bD,bG,aJ.c]at t;exact t))).r 2 h3)
  obtain⟨h6,h⟩|⟨h6,h⟩:=aL h
  ·cases h;exact(lH.b h6).ret hΓ
  ·cases h;exact(lH.b h6).ret hΓ
def iN(aF:Bytes)(k1:Option (aT×Bool)):Nat->Int->Option (aT×Bool)
 |0,_=>none
 |n1+1,jS=>(bif decide ((jS:Int)<=5)then((tO jS).bind fun uN=>((hG aF uN).bind fun rR=>(bif (((rR.map tx).length:Int):Int)==2 then((lG rR (0:Int)).bind fun x33=>((lG rR (1:Int)).bind fun x35=>((lB (⟨jS,(⟨[],[]⟩:aJ),x33,x35⟩:aT)).bind fun N8=>(bif N8 then(some ((⟨jS,(⟨[],[]⟩:aJ),x33,x35⟩:aT),true))else(iN aF k1 n1 (IntKind.i64.wrap (jS+1)))))))else(iN aF k1 n1 (IntKind.i64.wrap (jS+1))))))else(k1))
def pZ(aF:Bytes):Option (aT×Bool):=(iN aF (bif decide (((aF.length:Int):Int)>4)then((oH aF.length none (some (D.int .i64 4))).bind fun p=>(fun W7 WN=>(bif ((aF.take WN).drop W7:Bytes)==([110,111,116,32])then((oH aF.length (some (D.int .i64 4)) none).bind fun p=>(fun W8 WO=>((fp ((aF.take WO).drop W8)).bind fun WT=>(bif !(WT.2)then(some ((⟨0,(⟨[],[]⟩:aJ),[],[]⟩:aT),false))else(some ((⟨2,WT.1,[],[]⟩:aT),true))))) p.1 p.2)else((fp aF).bind fun WU=>(bif !(WU.2)then(some ((⟨0,(⟨[],[]⟩:aJ),[],[]⟩:aT),false))else(some ((⟨1,WU.1,[],[]⟩:aT),true)))))) p.1 p.2)else((fp aF).bind fun WV=>(bif !(WV.2)then(some ((⟨0,(⟨[],[]⟩:aJ),[],[]⟩:aT),false))else(some ((⟨1,WV.1,[],[]⟩:aT),true))))) fuel 3)
def xb(aF:Bytes)(jS:Int):St:=⟨[(0,D.str aF),(2,D.ptr 0 0),(4,D.int .i64 jS)],[Ob.box [D.int .i64 0,D.str ([]),D.nil,D.str ([]),D.str ([])]]⟩
theorem wL(hΓ:Γ.nt=55){aF:Bytes}{r:aT×Bool}{k1:Option (aT×Bool)}(ju:k1=some r->Ax Γ N f136 (.q [[none,none,some (9,1),none,none],[none]] (D.gj [D.agg [D.int .i64 r.1.kind,D.str r.1.pat.rel,D.fr 9 1 (r.1.pat.args.map tx),D.str r.1.left,D.str r.1.right],D.bool r.2])) [1,1] ⟨[(0,D.str aF),(2,D.ptr 0 0)],[Ob.box [D.int .i64 0,D.str ([]),D.nil,D.str ([]),D.str ([])]]⟩):∀(n1:Nat) (jS:Int),iN aF k1 n1 jS=some r->Ar Γ N f136 (.q [[none,none,some (9,1),none,none],[none]] (D.gj [D.agg [D.int .i64 r.1.kind,D.str r.1.pat.rel,D.fr 9 1 (r.1.pat.args.map tx),D.str r.1.left,D.str r.1.right],D.bool r.2])) [1,0,1,0] n1 (xb aF jS):=by
 intro n
 induction n with
 |zero=>intro jS h;simp[iN]at h
 |succ n1 ih1=>
  intro jS h;rw[iN]at h;refine aa fun N1 hN1 eT=>?_
  obtain⟨h27,h⟩|⟨h27,h⟩:=aL h
  ·obtain⟨uN,h29,h⟩:=aC h;obtain⟨rR,h31,h⟩:=aC h;have lI:=(((aW.b h27).g (ya h29)).g (eS h31))
   obtain⟨h32,h⟩|⟨h32,h⟩:=aL h
   ·obtain⟨x33,h34,h⟩:=aC h;obtain⟨x35,h36,h⟩:=aC h;obtain⟨N8,h38,h⟩:=aC h;have lY:=((((((((lI.b h32).a [.n 9]).i (iY tx 1 h34)).o 1 1 .uq (cB tx (fB h34))).i (iY tx 1 h36)).o 1 1 .uq (cB tx (fB h36))).a [.d (D.bool N8)]).w (show Good prog 26 [D.agg [D.int .i64 jS,D.str ([]),D.sl ([]),D.str x33,D.str x35]] (D.bool N8)from by first| (simpa only[ar,b8,bV,bD,bG]using j0 h38)|exact j0 h38| (have t:=j0 h38;simp only[ar,bD,bG,aT.c]at t;exact t)))
    obtain⟨h39,h⟩|⟨h39,h⟩:=aL h
    ·cases h;exact(lY.b h39).ret hΓ
    ·exact((lY.b h39).a [.cn [0,2,4] [0]]).cf hΓ eT (ih1 (IntKind.i64.wrap (jS+1)) h)
   ·exact((lI.b h32).a [.cn [0,2,4] [0]]).cf hΓ eT (ih1 (IntKind.i64.wrap (jS+1)) h)
  ·exact((aW.b h27).a [.hl 0 [0,2] [0]]).ex hΓ hN1 (ju h)
theorem vY{aF:Bytes}{r:aT×Bool}(h:pZ aF=some r):Good prog 136 [D.str aF] (D.gj [D.agg [D.int .i64 r.1.kind,D.str r.1.pat.rel,D.fr 9 1 (r.1.pat.args.map tx),D.str r.1.left,D.str r.1.right],D.bool r.2]):=by
 refine gd func136 [[none,none,some (9,1),none,none],[none]] 55 fun hr Γ hΓ=>?_
 rw[pZ]at h;refine(aW.a [.cn [0,2,4] [0]]).lp hΓ (wL hΓ (fun h=>?_) fuel 3 h);obtain⟨h40,h⟩|⟨h40,h⟩:=aL h
 ·obtain⟨⟨W7,WN⟩,h43,h⟩:=aC h;have qy:=((((aW.r 2 h40).w h43).a [.cut W7 WN]).r 2 h40)
  obtain⟨h44,h⟩|⟨h44,h⟩:=aL h
  ·obtain⟨⟨W8,WO⟩,h47,h⟩:=aC h;obtain⟨WT,h49,h⟩:=aC h;have uE:=((((qy.b h44).w h47).a [.cut W8 WO]).g (gF h49))
   obtain⟨h50,h⟩|⟨h50,h⟩:=aL h
   ·cases h;exact(uE.b h50).ret hΓ
   ·cases h;exact(uE.b h50).ret hΓ
  ·obtain⟨WU,h52,h⟩:=aC h;have yp:=((qy.b h44).g (gF h52))
   obtain⟨h53,h⟩|⟨h53,h⟩:=aL h
   ·cases h;exact(yp.b h53).ret hΓ
   ·cases h;exact(yp.b h53).ret hΓ
 ·obtain⟨WV,h55,h⟩:=aC h;have Ch:=(((aW.r 4 h40).F 1).g (gF h55))
  obtain⟨h56,h⟩|⟨h56,h⟩:=aL h
  ·cases h;exact(Ch.b h56).ret hΓ
  ·cases h;exact(Ch.b h56).ret hΓ
def qh(aF:Bytes):Option (Action×Bool):=(bif (aF:Bytes)==([115,116,111,112])then(some ((⟨3,(⟨[],[]⟩:aJ)⟩:Action),true))else((hG aF ([32])).bind fun y2=>(bif (((y2.map tx).length:Int):Int) != 2 then(some ((⟨0,(⟨[],[]⟩:aJ)⟩:Action),false))else((lG y2 (0:Int)).bind fun x5=>(bif !((x5:Bytes)==([97,100,100]))then(bif !((x5:Bytes)==([100,114,111,112]))then(some ((⟨0,(⟨[],[]⟩:aJ)⟩:Action),false))else((lG y2 (1:Int)).bind fun x9=>((fp x9).bind fun AJ=>(bif (x5:Bytes)==([97,100,100])then(some ((⟨1,AJ.1⟩:Action),AJ.2))else(some ((⟨2,AJ.1⟩:Action),AJ.2))))))else((lG y2 (1:Int)).bind fun x14=>((fp x14).bind fun Dp=>(bif (x5:Bytes)==([97,100,100])then(some ((⟨1,Dp.1⟩:Action),Dp.2))else(some ((⟨2,Dp.1⟩:Action),Dp.2))))))))))
theorem wP{aF:Bytes}{r:Action×Bool}(h:qh aF=some r):Good prog 137 [D.str aF] (D.gj [D.agg [D.int .i64 r.1.kind,D.str r.1.pat.rel,D.fr 9 1 (r.1.pat.args.map tx)],D.bool r.2]):=by
 refine gd func137 [[none,none,some (9,1)],[none]] 45 fun hr Γ hΓ=>?_
 rw[qh]at h;obtain⟨h1,h⟩|⟨h1,h⟩:=aL h
 ·cases h;exact(aW.b h1).ret hΓ
 ·obtain⟨y2,h3,h⟩:=aC h;have lH:=((aW.b h1).g (eS h3))
  obtain⟨h4,h⟩|⟨h4,h⟩:=aL h
  ·cases h;exact((((lH.r 5 h4).a [bF,bF,bF,bF]).r 2 h4).T 1).ret hΓ
  ·obtain⟨x5,h6,h⟩:=aC h;have kN:=(((((lH.r 2 h4).i (iY tx 1 h6)).b h4).o 1 1 .uq (cB tx (fB h6))).r 2 h4)
   obtain⟨h7,h⟩|⟨h7,h⟩:=aL h
   ·have lI:=((((((((kN.r 2 h7).i (iY tx 1 h6)).b h7).o 1 1 .uq (cB tx (fB h6))).b h7).b h4).b h7).b h4)
    obtain⟨h8,h⟩|⟨h8,h⟩:=aL h
    ·cases h;exact(lI.b h8).ret hΓ
    ·obtain⟨x9,h10,h⟩:=aC h;obtain⟨AJ,h12,h⟩:=aC h;have lY:=((((((lI.b h8).i (iY tx 1 h10)).o 1 1 .uq (cB tx (fB h10))).g (gF h12)).i (iY tx 1 h6)).o 1 1 .uq (cB tx (fB h6)))
     obtain⟨h13,h⟩|⟨h13,h⟩:=aL h
     ·cases h;exact(lY.b h13).ret hΓ
     ·cases h;exact(lY.b h13).ret hΓ
   ·obtain⟨x14,h15,h⟩:=aC h;obtain⟨Dp,h17,h⟩:=aC h;have qy:=((((((((((kN.r 4 h7).b h4).b h7).b h4).F 1).i (iY tx 1 h15)).o 1 1 .uq (cB tx (fB h15))).g (gF h17)).i (iY tx 1 h6)).o 1 1 .uq (cB tx (fB h6)))
    obtain⟨h18,h⟩|⟨h18,h⟩:=aL h
    ·cases h;exact(qy.b h18).ret hΓ
    ·cases h;exact(qy.b h18).ret hΓ
def kr(aF:aZ)(fy:Bytes)(y1:aD)(k1:bN->Option (aZ×Bool)):aD->Nat->bN->Option (aZ×Bool)
 | [],i1,jq=>(k1 jq)
 |bu::fY,i1,jq=>((pZ bu).bind fun yw=>(bif !(yw.2)then(some ((⟨aF.name,aF.prio,jq,[]⟩:aZ),false))else(bif room ((jq.map aT.c).length+([[D.int .i64 yw.1.kind,D.str yw.1.pat.rel,D.sl (yw.1.pat.args.map tx),D.str yw.1.left,D.str yw.1.right]]).length) 80 then(kr aF fy y1 k1 fY (i1+1) (jq++([yw.1])))else none)))
def kw(aF:aZ)(vl:bN)(AP:aD)(k2:iD->Option (aZ×Bool)):aD->Nat->iD->Option (aZ×Bool)
 | [],i2,BD=>(k2 BD)
 |r9::AI,i2,BD=>((qh r9).bind fun yy=>(bif !(yy.2)then(some ((⟨aF.name,aF.prio,vl,BD⟩:aZ),false))else(bif room ((BD.map Action.c).length+([[D.int .i64 yy.1.kind,D.str yy.1.pat.rel,D.sl (yy.1.pat.args.map tx)]]).length) 48 then(kw aF vl AP k2 AI (i2+1) (BD++([yy.1])))else none)))
def sI(aF:aZ)(ay:Bytes)(fy:Bytes):Option (aZ×Bool):=((hG ay ([32,38,32])).bind fun y1=>(bif decide (y1.length<=maxLen)then(kr aF fy y1 (fun(vl:bN)=>((hG fy ([32,38,32])).bind fun AP=>(bif decide (AP.length<=maxLen)then(kw aF vl AP (fun(HL:iD)=>((jC (⟨aF.name,aF.prio,vl,HL⟩:aZ)).bind fun UX=>(some ((⟨aF.name,aF.prio,vl,HL⟩:aZ),UX)))) AP 0 ([]:iD))else none))) y1 0 ([]:bN))else none))
def tA(aF:aZ)(fy:Bytes)(y1:aD)(W0:List aG)(jc:Int):St:=⟨[(2,D.str fy),(3,D.ptr 0 0),(6,D.ptr 1 0),(8,D.acc 2),(9,D.int .i64 jc)],[Ob.box [D.str aF.name,D.int .i64 aF.prio,D.acc 3,D.nil],Ob.box [D.str ([]),D.int .i64 0,D.nil,D.nil],Ob.row .uq 9 1 (y1.map tx),Ob.row .uq 41 5 W0]⟩
theorem yc(hΓ:Γ.nt=69){aF:aZ}{fy:Bytes}{y1:aD}{r:aZ×Bool}{k1:bN->Option (aZ×Bool)}(ju:∀(vl:bN),k1 vl=some r->Ax Γ N f112 (.q [[none,none,some (41,5),some (71,3)],[none]] (D.gj [D.agg [D.str r.1.name,D.int .i64 r.1.prio,D.fr 41 5 (r.1.conds.map aT.c),D.fr 71 3 (r.1.cJ.map Action.c)],D.bool r.2])) [1,1,1] ⟨[(2,D.str fy),(3,D.ptr 0 0),(6,D.ptr 1 0)],[Ob.box [D.str aF.name,D.int .i64 aF.prio,D.acc 2,D.nil],Ob.box [D.str ([]),D.int .i64 0,D.nil,D.nil],Ob.row .uq 41 5 (vl.map aT.c)]⟩)(hm1:y1.length<=maxLen):∀(rest:aD) (i1:Nat) (jq:bN),y1.drop i1=rest->kr aF fy y1 k1 rest i1 jq=some r->Ar Γ N f112 (.q [[none,none,some (41,5),some (71,3)],[none]] (D.gj [D.agg [D.str r.1.name,D.int .i64 r.1.prio,D.fr 41 5 (r.1.conds.map aT.c),D.fr 71 3 (r.1.cJ.map Action.c)],D.bool r.2])) [1,1,0,1,0] (rest.length+1) (tA aF fy y1 (jq.map aT.c) (i1:Int)):=by
 intro rest
 induction rest with
 |nil=>
  intro i1 jq bL h;rw[kr]at h;refine aa fun N1 hN1 eT=>?_
  exact((aW.ge tx bL).a [.hl 0 [2,3,6] [0,1,3]]).ex hΓ hN1 (ju jq h)
 |cons bu fY ih1=>
  intro i1 jq bL h;rw[kr]at h;refine aa fun N1 hN1 eT=>?_
  obtain⟨yw,h36,h⟩:=aC h;have lI:=((((aW.lt tx bL).i (fC tx 1 (dc bL))).o 1 1 .uq (cB tx (dc bL))).g (vY h36))
  obtain⟨h37,h⟩|⟨h37,h⟩:=aL h
  ·cases h;exact(lI.b h37).ret hΓ
  ·obtain⟨h38,h⟩:=bY h;exact(((lI.b h37).w (cE h38)).a [.cn [2,3,6,8,9] [0,1,2,7]]).cs hΓ eT (tA aF fy y1 ((jq.map aT.c)++([[D.int .i64 yw.1.kind,D.str yw.1.pat.rel,D.sl (yw.1.pat.args.map tx),D.str yw.1.left,D.str yw.1.right]])) (IntKind.i64.wrap ((i1:Int)+1))) (by first| (simp only[iS bL hm1,mA]<;>rfl)| (simp only[iS bL hm1,mA,aJ.c,aj.c,aT.c,Action.c,aZ.c,bA.c,bE.c,jH.c,Node.c,dh.c,jr.c]<;>rfl)) (ih1 (i1+1) (jq++([yw.1])) (dn bL) h)
def tB(aF:aZ)(vl:bN)(AP:aD)(W0:List aG)(jc:Int):St:=⟨[(3,D.ptr 0 0),(6,D.ptr 1 0),(12,D.acc 2),(13,D.int .i64 jc)],[Ob.box [D.str aF.name,D.int .i64 aF.prio,D.acc 3,D.acc 4],Ob.box [D.str ([]),D.int .i64 0,D.nil,D.nil],Ob.row .uq 9 1 (AP.map tx),Ob.row .uq 41 5 (vl.map aT.c),Ob.row .uq 71 3 W0]⟩
theorem yd(hΓ:Γ.nt=69){aF:aZ}{vl:bN}{AP:aD}{r:aZ×Bool}{k2:iD->Option (aZ×Bool)}(FU:∀(HL:iD),k2 HL=some r->Ax Γ N f112 (.q [[none,none,some (41,5),some (71,3)],[none]] (D.gj [D.agg [D.str r.1.name,D.int .i64 r.1.prio,D.fr 41 5 (r.1.conds.map aT.c),D.fr 71 3 (r.1.cJ.map Action.c)],D.bool r.2])) [1,1,1,1,1] ⟨[(3,D.ptr 0 0),(6,D.ptr 1 0)],[Ob.box [D.str aF.name,D.int .i64 aF.prio,D.acc 2,D.acc 3],Ob.box [D.str ([]),D.int .i64 0,D.nil,D.nil],Ob.row .uq 41 5 (vl.map aT.c),Ob.row .uq 71 3 (HL.map Action.c)]⟩)(hm2:AP.length<=maxLen):∀(rest:aD) (i2:Nat) (BD:iD),AP.drop i2=rest->kw aF vl AP k2 rest i2 BD=some r->Ar Γ N f112 (.q [[none,none,some (41,5),some (71,3)],[none]] (D.gj [D.agg [D.str r.1.name,D.int .i64 r.1.prio,D.fr 41 5 (r.1.conds.map aT.c),D.fr 71 3 (r.1.cJ.map Action.c)],D.bool r.2])) [1,1,1,1,0,1,0] (rest.length+1) (tB aF vl AP (BD.map Action.c) (i2:Int)):=by
 intro rest
 induction rest with
 |nil=>
  intro i2 BD hd2 h;rw[kw]at h;refine aa fun N2 Bg xw=>?_
  exact((aW.ge tx hd2).a [.hl 0 [3,6] [0,1,3,4]]).ex hΓ Bg (FU BD h)
 |cons r9 AI ih2=>
  intro i2 BD hd2 h;rw[kw]at h;refine aa fun N2 Bg xw=>?_
  obtain⟨yy,h74,h⟩:=aC h;have lY:=((((aW.lt tx hd2).i (fC tx 1 (dc hd2))).o 1 1 .uq (cB tx (dc hd2))).g (wP h74))
  obtain⟨h75,h⟩|⟨h75,h⟩:=aL h
  ·cases h;exact(lY.b h75).ret hΓ
  ·obtain⟨h76,h⟩:=bY h;exact(((lY.b h75).w (cE h76)).a [.cn [3,6,12,13] [0,1,2,3,8]]).cs hΓ xw (tB aF vl AP ((BD.map Action.c)++([[D.int .i64 yy.1.kind,D.str yy.1.pat.rel,D.sl (yy.1.pat.args.map tx)]])) (IntKind.i64.wrap ((i2:Int)+1))) (by first| (simp only[iS hd2 hm2,mA]<;>rfl)| (simp only[iS hd2 hm2,mA,aJ.c,aj.c,aT.c,Action.c,aZ.c,bA.c,bE.c,jH.c,Node.c,dh.c,jr.c]<;>rfl)) (ih2 (i2+1) (BD++([yy.1])) (dn hd2) h)
theorem nv{aF:aZ}{ay:Bytes}{fy:Bytes}{r:aZ×Bool}(h:sI aF ay fy=some r):Good prog 112 [D.agg [D.str aF.name,D.int .i64 aF.prio,D.nil,D.nil],D.str ay,D.str fy] (D.gj [D.agg [D.str r.1.name,D.int .i64 r.1.prio,D.fr 41 5 (r.1.conds.map aT.c),D.fr 71 3 (r.1.cJ.map Action.c)],D.bool r.2]):=by
 refine gd func112 [[none,none,some (41,5),some (71,3)],[none]] 69 fun hr Γ hΓ=>?_
 rw[sI]at h;obtain⟨y1,h2,h⟩:=aC h;obtain⟨h80,h⟩:=bY h;refine((aW.g (eS h2)).a [.pb 0 2 41 5,.cn [2,3,6,8,9] [0,1,2,3]]).lp hΓ (yc hΓ (fun vl h=>?_) (bn h80) y1 0 ([]:bN) rfl h);obtain⟨AP,h40,h⟩:=aC h;obtain⟨h79,h⟩:=bY h;refine((aW.g (eS h40)).a [.pb 0 3 71 3,.cn [3,6,12,13] [0,1,3,2,4]]).lp hΓ (yd hΓ (fun HL h=>?_) (bn h79) AP 0 ([]:iD) rfl h);obtain⟨UX,h78,h⟩:=aC h;cases h;exact((aW.a [.n 3,.d (D.bool UX)]).w (show Good prog 11 [D.agg [D.str aF.name,D.int .i64 aF.prio,D.sl (vl.map aT.c),D.sl (HL.map Action.c)]] (D.bool UX)from by first| (simpa only[ar,b8,bV,bD,bG]using dU h78)|exact dU h78| (have t:=dU h78;simp only[ar,bD,bG,aZ.c]at t;exact t))).ret hΓ
def kB(aF:Bytes):Option (aZ×Bool):=((hG aF ([58,32])).bind fun y1=>(bif (((y1.map tx).length:Int):Int) != 2 then(some ((⟨[],0,[],[]⟩:aZ),false))else((lG y1 (0:Int)).bind fun x4=>((hG x4 ([32])).bind fun y6=>((lG y1 (1:Int)).bind fun x8=>((hG x8 ([32,45,62,32])).bind fun Cs=>(bif (((y6.map tx).length:Int):Int) != 2 then(some ((⟨[],0,[],[]⟩:aZ),false))else(bif (((Cs.map tx).length:Int):Int) != 2 then(some ((⟨[],0,[],[]⟩:aZ),false))else((lG y6 (1:Int)).bind fun x14=>((ja x14).bind fun Dp=>(bif !(Dp.2)then(some ((⟨[],0,[],[]⟩:aZ),false))else((lG y6 (0:Int)).bind fun x19=>((lG Cs (0:Int)).bind fun x21=>((lG Cs (1:Int)).bind fun x23=>((sI (⟨x19,Dp.1,[],[]⟩:aZ) x21 x23).bind fun rM=>(bif !(rM.2)then(some ((⟨[],0,[],[]⟩:aZ),false))else(some (rM.1,true))))))))))))))))))
theorem vZ{aF:Bytes}{r:aZ×Bool}(h:kB aF=some r):Good prog 84 [D.str aF] (D.gj [D.agg [D.str r.1.name,D.int .i64 r.1.prio,D.fr 41 5 (r.1.conds.map aT.c),D.fr 71 3 (r.1.cJ.map Action.c)],D.bool r.2]):=by
 refine gd func84 [[none,none,some (41,5),some (71,3)],[none]] 63 fun hr Γ hΓ=>?_
 rw[kB]at h;obtain⟨y1,h2,h⟩:=aC h;obtain⟨h3,h⟩|⟨h3,h⟩:=aL h
 ·cases h;exact((aW.g (eS h2)).b h3).ret hΓ
 ·obtain⟨x4,h5,h⟩:=aC h;obtain⟨y6,h7,h⟩:=aC h;obtain⟨x8,h9,h⟩:=aC h;obtain⟨Cs,h11,h⟩:=aC h;have lH:=((((((((aW.g (eS h2)).b h3).i (iY tx 1 h5)).o 1 1 .uq (cB tx (fB h5))).g (eS h7)).i (iY tx 1 h9)).o 1 1 .uq (cB tx (fB h9))).g (eS h11))
  obtain⟨h12,h⟩|⟨h12,h⟩:=aL h
  ·cases h;exact((lH.r 4 h12).T 1).ret hΓ
  ·have kN:=(lH.r 4 h12)
   obtain⟨h13,h⟩|⟨h13,h⟩:=aL h
   ·cases h;exact(kN.b h13).ret hΓ
   ·obtain⟨x14,h15,h⟩:=aC h;obtain⟨Dp,h17,h⟩:=aC h;have lI:=((((kN.b h13).i (iY tx 1 h15)).o 1 1 .uq (cB tx (fB h15))).g (nI h17))
    obtain⟨h18,h⟩|⟨h18,h⟩:=aL h
    ·cases h;exact(lI.b h18).ret hΓ
    ·obtain⟨x19,h20,h⟩:=aC h;obtain⟨x21,h22,h⟩:=aC h;obtain⟨x23,h24,h⟩:=aC h;obtain⟨rM,h26,h⟩:=aC h;have lY:=((((((((((lI.b h18).a [.n 17]).i (iY tx 1 h20)).o 1 1 .uq (cB tx (fB h20))).i (iY tx 1 h22)).o 1 1 .uq (cB tx (fB h22))).i (iY tx 1 h24)).o 1 1 .uq (cB tx (fB h24))).a [.nl (D.gj [D.agg [D.str rM.1.name,D.int .i64 rM.1.prio,D.fr 41 5 (rM.1.conds.map aT.c),D.fr 71 3 (rM.1.cJ.map Action.c)],D.bool rM.2])]).w (show Good prog 112 [D.agg [D.str x19,D.int .i64 Dp.1,D.nil,D.nil],D.str x21,D.str x23] (D.gj [D.agg [D.str rM.1.name,D.int .i64 rM.1.prio,D.fr 41 5 (rM.1.conds.map aT.c),D.fr 71 3 (rM.1.cJ.map Action.c)],D.bool rM.2])from by first| (simpa only[ar,b8,bV,bD,bG]using nv h26)|exact nv h26| (have t:=nv h26;simp only[ar,bD,bG,aZ.c]at t;exact t)))
     obtain⟨h27,h⟩|⟨h27,h⟩:=aL h
     ·cases h;exact(lY.b h27).ret hΓ
     ·cases h;exact(lY.b h27).ret hΓ
def jL(aF:bt)(ay:Int):Option (bt×aZ):=((cH aF (EN ay ((([[114,32,49,58,32,111,110,40,63,120,44,63,121,41,32,38,32,111,110,40,63,121,44,63,122,41,32,45,62,32,97,100,100,32,111,110,40,63,120,44,63,122,41],[114,32,50,58,32,111,110,40,63,120,44,63,121,41,32,38,32,112,40,63,121,41,32,45,62,32,97,100,100,32,112,40,63,120,41],[114,32,48,58,32,112,40,63,120,41,32,38,32,111,110,40,63,120,44,63,121,41,32,38,32,63,120,32,33,61,32,63,121,32,45,62,32,97,100,100,32,97,116,40,63,121,44,63,120,41],[114,32,51,58,32,97,116,40,63,120,44,63,121,41,32,38,32,112,40,63,120,41,32,38,32,112,40,63,121,41,32,38,32,63,120,32,60,32,63,121,32,45,62,32,97,100,100,32,122,40,41],[114,32,52,58,32,111,110,40,63,120,44,97,41,32,45,62,32,97,100,100,32,113,40,63,120,41,32,38,32,97,100,100,32,112,40,97,41],[114,32,49,58,32,97,116,40,63,120,44,63,120,41,32,38,32,113,40,49,41,32,45,62,32,97,100,100,32,111,110,40,63,120,44,49,41],[114,32,49,58,32,112,40,63,120,41,32,38,32,110,111,116,32,113,40,63,120,41,32,45,62,32,97,100,100,32,97,116,40,63,120,44,98,41],[114,32,50,58,32,111,110,40,63,120,44,63,121,41,32,38,32,110,111,116,32,97,116,40,63,121,44,63,122,41,32,45,62,32,97,100,100,32,113,40,63,121,41],[114,32,53,58,32,97,116,40,63,120,44,63,121,41,32,38,32,110,111,116,32,112,40,63,121,41,32,38,32,63,120,32,33,61,32,63,121,32,45,62,32,97,100,100,32,122,40,41],[114,32,57,58,32,113,40,63,120,41,32,38,32,112,40,63,120,41,32,45,62,32,100,114,111,112,32,112,40,63,120,41],[114,32,48,58,32,97,116,40,63,120,44,49,41,32,38,32,97,116,40,63,121,44,50,41,32,38,32,63,120,32,61,32,63,121,32,45,62,32,100,114,111,112,32,97,116,40,63,120,44,49,41,32,38,32,115,116,111,112],[114,32,49,58,32,111,110,40,63,120,44,63,120,41,32,45,62,32,115,116,111,112],[114,32,55,58,32,122,40,41,32,38,32,111,110,40,63,120,44,63,121,41,32,45,62,32,100,114,111,112,32,122,40,41,32,38,32,97,100,100,32,111,110,40,63,121,44,63,120,41]]:aD).map tx).length:Int))).bind fun y1=>((lG ([[114,32,49,58,32,111,110,40,63,120,44,63,121,41,32,38,32,111,110,40,63,121,44,63,122,41,32,45,62,32,97,100,100,32,111,110,40,63,120,44,63,122,41],[114,32,50,58,32,111,110,40,63,120,44,63,121,41,32,38,32,112,40,63,121,41,32,45,62,32,97,100,100,32,112,40,63,120,41],[114,32,48,58,32,112,40,63,120,41,32,38,32,111,110,40,63,120,44,63,121,41,32,38,32,63,120,32,33,61,32,63,121,32,45,62,32,97,100,100,32,97,116,40,63,121,44,63,120,41],[114,32,51,58,32,97,116,40,63,120,44,63,121,41,32,38,32,112,40,63,120,41,32,38,32,112,40,63,121,41,32,38,32,63,120,32,60,32,63,121,32,45,62,32,97,100,100,32,122,40,41],[114,32,52,58,32,111,110,40,63,120,44,97,41,32,45,62,32,97,100,100,32,113,40,63,120,41,32,38,32,97,100,100,32,112,40,97,41],[114,32,49,58,32,97,116,40,63,120,44,63,120,41,32,38,32,113,40,49,41,32,45,62,32,97,100,100,32,111,110,40,63,120,44,49,41],[114,32,49,58,32,112,40,63,120,41,32,38,32,110,111,116,32,113,40,63,120,41,32,45,62,32,97,100,100,32,97,116,40,63,120,44,98,41],[114,32,50,58,32,111,110,40,63,120,44,63,121,41,32,38,32,110,111,116,32,97,116,40,63,121,44,63,122,41,32,45,62,32,97,100,100,32,113,40,63,121,41],[114,32,53,58,32,97,116,40,63,120,44,63,121,41,32,38,32,110,111,116,32,112,40,63,121,41,32,38,32,63,120,32,33,61,32,63,121,32,45,62,32,97,100,100,32,122,40,41],[114,32,57,58,32,113,40,63,120,41,32,38,32,112,40,63,120,41,32,45,62,32,100,114,111,112,32,112,40,63,120,41],[114,32,48,58,32,97,116,40,63,120,44,49,41,32,38,32,97,116,40,63,121,44,50,41,32,38,32,63,120,32,61,32,63,121,32,45,62,32,100,114,111,112,32,97,116,40,63,120,44,49,41,32,38,32,115,116,111,112],[114,32,49,58,32,111,110,40,63,120,44,63,120,41,32,45,62,32,115,116,111,112],[114,32,55,58,32,122,40,41,32,38,32,111,110,40,63,120,44,63,121,41,32,45,62,32,100,114,111,112,32,122,40,41,32,38,32,97,100,100,32,111,110,40,63,121,44,63,120,41]]:aD) y1.2).bind fun x3=>((kB x3).bind fun y5=>(some (y1.1,y5.1)))))
theorem nu{aF:bt}{ay:Int}{r:bt×aZ}(h:jL aF ay=some r):iR prog 50 (bt.c aF) (bt.c r.1) [D.int .i64 ay] (D.agg [D.str r.2.name,D.int .i64 r.2.prio,D.fr 41 5 (r.2.conds.map aT.c),D.fr 71 3 (r.2.cJ.map Action.c)]):=by
 refine CH func50 [[none,none,none],[none,none,some (41,5),some (71,3)]] 23 [D.sl (aF.b.map yx),D.int .i64 aF.i,D.int .i64 aF.h] [D.int .i64 ay] [] fun hr lX Γ hΓ=>?_
 rw[jL]at h;obtain⟨y1,h2,h⟩:=aC h;obtain⟨x3,h4,h⟩:=aC h;obtain⟨y5,h6,h⟩:=aC h;cases h;exact((((aW.hp [[none,none,none],[none]] (br h2)).i (iY tx 1 h4)).o 1 1 .uq (cB tx (fB h4))).g (vZ h6)).ret hΓ
def fJ(y1:bt×Int)(k1:bw->Int->Int->bN->Option (bt×aZ)):Nat->Int->bw->Int->Int->bN->Option (bt×aZ)
 |0,_,_,_,_,_=>none
 |n1+1,jS,eY,dG,dH,jq=>(bif decide ((jS:Int)>0)then((lE (⟨eY,dG,dH⟩:bt)).bind fun uN=>(bif room ((jq.map aT.c).length+([[D.int .i64 uN.2.kind,D.str uN.2.pat.rel,D.sl (uN.2.pat.args.map tx),D.str uN.2.left,D.str uN.2.right]]).length) 80 then(fJ y1 k1 n1 (IntKind.i64.wrap (jS-1)) uN.1.b uN.1.i uN.1.h (jq++([uN.2])))else none))else(k1 eY dG dH jq))
def cQ(y1:bt×Int)(lW:bN)(Cy:aD)(rN:bt×aJ)(k2:bw->Int->Int->aD->Option (bt×aZ)):Nat->Int->bw->Int->Int->aD->Option (bt×aZ)
 |0,_,_,_,_,_=>none
 |n2+1,uL,py,oS,oT,xA=>(bif decide ((uL:Int)<((xA.map tx).length:Int))then((lG xA uL).bind fun x91=>((jD x91).bind fun XV=>(bif XV then((eM Cy x91).bind fun XX=>(bif !(XX)then((gm (⟨py,oS,oT⟩:bt)).bind fun xB=>(cQ y1 lW Cy rN k2 n2 (IntKind.i64.wrap (uL+1)) xB.1.b xB.1.i xB.1.h (xA.set uL.toNat xB.2)))else(cQ y1 lW Cy rN k2 n2 (IntKind.i64.wrap (uL+1)) py oS oT xA)))else(cQ y1 lW Cy rN k2 n2 (IntKind.i64.wrap (uL+1)) py oS oT xA))))else(k2 py oS oT xA))
def mO(aF:bt):Option (bt×aZ):=((cH aF 4).bind fun y1=>((fP y1.1).bind fun y3=>((cH y3.1 3).bind fun y5=>(fJ y1 (fun(jk:bw) (jl:Int) (jm:Int) (lW:bN)=>((gY (⟨[114],y1.2,lW,[]⟩:aZ) ((lW.map aT.c).length:Int)).bind fun Cy=>((fP (⟨jk,jl,jm⟩:bt)).bind fun rN=>(cQ y1 lW Cy rN (fun(B7:bw) (B8:Int) (B9:Int) (A7:aD)=>((ez (⟨B7,B8,B9⟩:bt) ([1,1,2]:bw)).bind fun yB=>(bif room (([]:List aG).length+([[D.int .i64 yB.2,D.str rN.2.rel,D.sl (A7.map tx)]]).length) 48 then((gG yB.1 6).bind fun Bn=>(bif Bn.2 then(bif room ((([]:List aG)++([[D.int .i64 yB.2,D.str rN.2.rel,D.sl (A7.map tx)]])).length+([[D.int .i64 3,D.str ([]),D.sl ([])]]).length) 48 then((jC (⟨[114],y1.2,lW,(([]:iD)++([(⟨yB.2,(⟨rN.2.rel,A7⟩:aJ)⟩:Action)]))++([(⟨3,(⟨[],[]⟩:aJ)⟩:Action)])⟩:aZ)).bind fun OY=>(bif !(OY)then((jL Bn.1 99).bind fun Rh=>(some (Rh.1,Rh.2)))else(some (Bn.1,(⟨[114],y1.2,lW,(([]:iD)++([(⟨yB.2,(⟨rN.2.rel,A7⟩:aJ)⟩:Action)]))++([(⟨3,(⟨[],[]⟩:aJ)⟩:Action)])⟩:aZ)))))else none)else((jC (⟨[114],y1.2,lW,([]:iD)++([(⟨yB.2,(⟨rN.2.rel,A7⟩:aJ)⟩:Action)])⟩:aZ)).bind fun OZ=>(bif !(OZ)then((jL Bn.1 99).bind fun Ri=>(some (Ri.1,Ri.2)))else(some (Bn.1,(⟨[114],y1.2,lW,([]:iD)++([(⟨yB.2,(⟨rN.2.rel,A7⟩:aJ)⟩:Action)])⟩:aZ)))))))else none))) fuel 0 rN.1.b rN.1.i rN.1.h rN.2.args)))) fuel y5.2 y5.1.b y5.1.i y5.1.h ([(⟨1,y3.2,[],[]⟩:aT)])))))
def oQ(lX:Value)(y1:bt×Int)(jS:Int)(dG:Int)(dH:Int)(W1:List aG)(W4:List aG):St:=⟨[(0,D.ptr 0 0),(2,D.ptr 1 0),(3,D.ptr 2 0),(4,D.int .i64 jS)],[Ob.AU [D.sl W1,D.int .i64 dG,D.int .i64 dH] lX,Ob.box [D.str ([]),D.int .i64 0,D.nil,D.nil],Ob.box [D.str ([114]),D.int .i64 y1.2,D.acc 3,D.nil],Ob.row .uq 41 5 W4]⟩
theorem xo(hΓ:Γ.nt=88){lX:Value}{y1:bt×Int}{r:bt×aZ}{k1:bw->Int->Int->bN->Option (bt×aZ)}(ju:∀(jk:bw) (jl:Int) (jm:Int) (lW:bN),k1 jk jl jm lW=some r->Ax Γ N f94 (.p [[none,none,none],[none,none,some (41,5),some (71,3)]] lX (bt.c r.1) (D.agg [D.str r.2.name,D.int .i64 r.2.prio,D.fr 41 5 (r.2.conds.map aT.c),D.fr 71 3 (r.2.cJ.map Action.c)])) [1,1,1] ⟨[(0,D.ptr 0 0),(2,D.ptr 1 0),(3,D.ptr 2 0)],[Ob.AU [D.sl (jk.map yx),D.int .i64 jl,D.int .i64 jm] lX,Ob.box [D.str ([]),D.int .i64 0,D.nil,D.nil],Ob.box [D.str ([114]),D.int .i64 y1.2,D.acc 3,D.nil],Ob.row .uq 41 5 (lW.map aT.c)]⟩):∀(n1:Nat) (jS:Int) (eY:bw) (dG:Int) (dH:Int) (jq:bN),fJ y1 k1 n1 jS eY dG dH jq=some r->Ar Γ N f94 (.p [[none,none,none],[none,none,some (41,5),some (71,3)]] lX (bt.c r.1) (D.agg [D.str r.2.name,D.int .i64 r.2.prio,D.fr 41 5 (r.2.conds.map aT.c),D.fr 71 3 (r.2.cJ.map Action.c)])) [1,1,0,1,0] n1 (oQ lX y1 jS dG dH (eY.map yx) (jq.map aT.c)):=by
 intro n
 induction n with
 |zero=>intro jS eY dG dH jq h;simp[fJ]at h
 |succ n1 ih1=>
  intro jS eY dG dH jq h;rw[fJ]at h;refine aa fun N1 hN1 eT=>?_
  obtain⟨h25,h⟩|⟨h25,h⟩:=aL h
  ·obtain⟨uN,h29,h⟩:=aC h;obtain⟨h30,h⟩:=bY h;exact(((((aW.b h25).a [.n2 [0,1,2,3,4,5,6,7] [0,1,2,3,4,5,6,7] 3 5 [0,1] [0,4],.gp [[none,none,none]] (bt.c uN.1) (D.agg [D.int .i64 uN.2.kind,D.str uN.2.pat.rel,D.fr 9 1 (uN.2.pat.args.map tx),D.str uN.2.left,D.str uN.2.right])]).w (show iR prog 108 (bt.c (⟨eY,dG,dH⟩:bt)) (bt.c uN.1) [] (D.agg [D.int .i64 uN.2.kind,D.str uN.2.pat.rel,D.fr 9 1 (uN.2.pat.args.map tx),D.str uN.2.left,D.str uN.2.right])from by simpa only[ar,b8,bV,bD,bG]using sF h29)).w (cE h30)).a [.cn [0,2,3,4] [0,1,2,6]]).cs hΓ eT (oQ lX y1 (IntKind.i64.wrap (jS-1)) uN.1.i uN.1.h (uN.1.b.map yx) ((jq.map aT.c)++([[D.int .i64 uN.2.kind,D.str uN.2.pat.rel,D.sl (uN.2.pat.args.map tx),D.str uN.2.left,D.str uN.2.right]]))) (by first| (simp only[mA]<;>rfl)| (simp only[mA,aJ.c,aj.c,aT.c,Action.c,aZ.c,bA.c,bE.c,jH.c,Node.c,dh.c,jr.c]<;>rfl)) (ih1 (IntKind.i64.wrap (jS-1)) uN.1.b uN.1.i uN.1.h (jq++([uN.2])) h)
  ·exact((aW.b h25).a [.hl 0 [0,2,3] [0,1,2,3]]).ex hΓ hN1 (ju eY dG dH jq h)
def sH(lX:Value)(y1:bt×Int)(lW:bN)(Cy:aD)(rN:bt×aJ)(uL:Int)(oS:Int)(oT:Int)(W1:List aG)(W4:List aG):St:=⟨[(0,D.ptr 0 0),(2,D.ptr 1 0),(3,D.ptr 2 0),(5,D.acc 3),(6,D.ptr 4 0),(7,D.int .i64 uL)],[Ob.AU [D.sl W1,D.int .i64 oS,D.int .i64 oT] lX,Ob.box [D.str ([]),D.int .i64 0,D.nil,D.nil],Ob.box [D.str ([114]),D.int .i64 y1.2,D.acc 5,D.nil],Ob.row .uq 9 1 (Cy.map tx),Ob.box [D.str rN.2.rel,D.acc 6],Ob.row .uq 41 5 (lW.map aT.c),Ob.row .uq 9 1 W4]⟩
theorem xp(hΓ:Γ.nt=88){lX:Value}{y1:bt×Int}{lW:bN}{Cy:aD}{rN:bt×aJ}{r:bt×aZ}{k2:bw->Int->Int->aD->Option (bt×aZ)}(FU:∀(B7:bw) (B8:Int) (B9:Int) (A7:aD),k2 B7 B8 B9 A7=some r->Ax Γ N f94 (.p [[none,none,none],[none,none,some (41,5),some (71,3)]] lX (bt.c r.1) (D.agg [D.str r.2.name,D.int .i64 r.2.prio,D.fr 41 5 (r.2.conds.map aT.c),D.fr 71 3 (r.2.cJ.map Action.c)])) [1,1,1,1,1,1] ⟨[(0,D.ptr 0 0),(2,D.ptr 1 0),(3,D.ptr 2 0),(6,D.ptr 3 0)],[Ob.AU [D.sl (B7.map yx),D.int .i64 B8,D.int .i64 B9] lX,Ob.box [D.str ([]),D.int .i64 0,D.nil,D.nil],Ob.box [D.str ([114]),D.int .i64 y1.2,D.acc 4,D.nil],Ob.box [D.str rN.2.rel,D.acc 5],Ob.row .uq 41 5 (lW.map aT.c),Ob.row .uq 9 1 (A7.map tx)]⟩):∀(n2:Nat) (uL:Int) (py:bw) (oS:Int) (oT:Int) (xA:aD),cQ y1 lW Cy rN k2 n2 uL py oS oT xA=some r->Ar Γ N f94 (.p [[none,none,none],[none,none,some (41,5),some (71,3)]] lX (bt.c r.1) (D.agg [D.str r.2.name,D.int .i64 r.2.prio,D.fr 41 5 (r.2.conds.map aT.c),D.fr 71 3 (r.2.cJ.map Action.c)])) [1,1,1,1,1,0,1,0] n2 (sH lX y1 lW Cy rN uL oS oT (py.map yx) (xA.map tx)):=by
 intro n
 induction n with
 |zero=>intro uL py oS oT xA h;simp[cQ]at h
 |succ n2 ih2=>
  intro uL py oS oT xA h;rw[cQ]at h;refine aa fun N2 Bg xw=>?_
  obtain⟨h90,h⟩|⟨h90,h⟩:=aL h
  ·obtain⟨x91,h92,h⟩:=aC h;obtain⟨XV,h94,h⟩:=aC h;have lI:=((((aW.b h90).i (iY tx 1 h92)).o 1 1 .uq (cB tx (fB h92))).g (jW h94))
   obtain⟨h95,h⟩|⟨h95,h⟩:=aL h
   ·obtain⟨XX,h97,h⟩:=aC h;have lY:=(((((((lI.r 5 h95).i (iY tx 1 h92)).b h95).o 1 1 .uq (cB tx (fB h92))).b h95).g (gC h97)).r 2 h95)
    obtain⟨h98,h⟩|⟨h98,h⟩:=aL h
    ·obtain⟨xB,h102,h⟩:=aC h;exact((((((lY.b h98).a [.n2 [0,1,2,3,4,5,6] [0,1,2,3,4,5,6] 4 5 [0,1,2] [0],.gp [[none,none,none]] (bt.c xB.1) (D.str xB.2)]).w (show iR prog 119 (bt.c (⟨py,oS,oT⟩:bt)) (bt.c xB.1) [] (D.str xB.2)from by simpa only[ar,b8,bV,bD,bG]using oO h102)).i (iY tx 1 h92)).w (show(xA.map tx)[uL.toNat]?=some [D.str x91]from cB tx (fB h92))).a [.row [D.str x91],.cn [0,2,3,5,6,7] [0,1,2,3,4,5,6]]).cs hΓ xw (sH lX y1 lW Cy rN (IntKind.i64.wrap (uL+1)) xB.1.i xB.1.h (xB.1.b.map yx) ((xA.map tx).set uL.toNat [D.str xB.2])) (by first| (simp only[mA]<;>rfl)| (simp only[mA,aJ.c,aj.c,aT.c,Action.c,aZ.c,bA.c,bE.c,jH.c,Node.c,dh.c,jr.c]<;>rfl)) (ih2 (IntKind.i64.wrap (uL+1)) xB.1.b xB.1.i xB.1.h (xA.set uL.toNat xB.2) h)
    ·exact((lY.b h98).a [.cn [0,2,3,5,6,7] [0,1,2,3,4,5,6]]).cf hΓ xw (ih2 (IntKind.i64.wrap (uL+1)) py oS oT xA h)
   ·exact(((lI.r 9 h95).F 1).a [.cn [0,2,3,5,6,7] [0,1,2,3,4,5,6]]).cf hΓ xw (ih2 (IntKind.i64.wrap (uL+1)) py oS oT xA h)
  ·exact((aW.b h90).a [.hl 0 [0,2,3,6] [0,1,2,4,5,6]]).ex hΓ Bg (FU py oS oT xA h)
theorem wQ{aF:bt}{r:bt×aZ}(h:mO aF=some r):iR prog 94 (bt.c aF) (bt.c r.1) [] (D.agg [D.str r.2.name,D.int .i64 r.2.prio,D.fr 41 5 (r.2.conds.map aT.c),D.fr 71 3 (r.2.cJ.map Action.c)]):=by
 refine CH func94 [[none,none,none],[none,none,some (41,5),some (71,3)]] 88 [D.sl (aF.b.map yx),D.int .i64 aF.i,D.int .i64 aF.h] [] [] fun hr lX Γ hΓ=>?_
 rw[mO]at h;obtain⟨y1,h2,h⟩:=aC h;obtain⟨y3,h4,h⟩:=aC h;obtain⟨y5,h6,h⟩:=aC h;refine((((aW.hp [[none,none,none],[none]] (br h2)).hp [[none,none,none]] (j7 h4)).hp [[none,none,none],[none]] (br h6)).a [.cn [0,2,3,4] [0,1,4,3]]).WC hΓ (oQ lX y1 y5.2 y5.1.i y5.1.h (y5.1.b.map yx) ([[D.int .i64 1,D.str y3.2.rel,D.sl (y3.2.args.map tx),D.str ([]),D.str ([])]])) (by first| (simp only[mA]<;>rfl)| (simp only[mA,aJ.c,aj.c,aT.c,Action.c,aZ.c,bA.c,bE.c,jH.c,Node.c,dh.c,jr.c]<;>rfl)) (xo hΓ (fun jk jl jm lW h=>?_) fuel y5.2 y5.1.b y5.1.i y5.1.h ([(⟨1,y3.2,[],[]⟩:aT)]) h);obtain⟨Cy,h32,h⟩:=aC h;obtain⟨rN,h34,h⟩:=aC h;refine(((((aW.a [.d (D.fr 9 1 (Cy.map tx))]).w (show Good prog 25 [D.agg [D.str ([114]),D.int .i64 y1.2,D.sl (lW.map aT.c),D.sl ([])],D.int .i64 ((lW.map aT.c).length:Int)] (D.fr 9 1 (Cy.map tx))from by first| (simpa only[ar,b8,bV,bD,bG]using gB h32)|exact gB h32| (have t:=gB h32;simp only[ar,bD,bG,aZ.c]at t;exact t))).a [.gp [[none,none,none]] (bt.c rN.1) (D.agg [D.str rN.2.rel,D.fr 9 1 (rN.2.args.map tx)])]).w (show iR prog 109 (bt.c (⟨jk,jl,jm⟩:bt)) (bt.c rN.1) [] (D.agg [D.str rN.2.rel,D.fr 9 1 (rN.2.args.map tx)])from by simpa only[ar,b8,bV,bD,bG]using j7 h34)).a [.cn [0,2,3,5,6,7] [0,1,2,4,6,3,5]]).lp hΓ (xp hΓ (fun B7 B8 B9 A7 h=>?_) fuel 0 rN.1.b rN.1.i rN.1.h rN.2.args h);obtain⟨yB,h106,h⟩:=aC h;obtain⟨h107,h⟩:=bY h;obtain⟨Bn,h109,h⟩:=aC h;have qy:=((((aW.a [.n2 [0,1,2,3,5,4,6,7,8,9,10] [0,1,2,3,5,4,6,7,8,9,10] 5 8 [0,1,4] [0,5,6],.gp [[none,none,none],[some (3,1)]] (bt.c yB.1) (D.int .i64 yB.2)]).w (show iR prog 49 (bt.c (⟨B7,B8,B9⟩:bt)) (bt.c yB.1) [D.fr 3 1 (([1,1,2]:bw).map Ns)] (D.int .i64 yB.2)from by simpa only[ar,b8,bV,bD,bG]using hO h106)).w (cE h107)).hp [[none,none,none],[none]] (fI h109))
 obtain⟨h110,h⟩|⟨h110,h⟩:=aL h
 ·obtain⟨h111,h⟩:=bY h;obtain⟨OY,h113,h⟩:=aC h;have uE:=((((qy.b h110).w (cE h111)).a [.d (D.bool OY)]).w (show Good prog 11 [D.agg [D.str ([114]),D.int .i64 y1.2,D.sl (lW.map aT.c),D.sl ((([]:List aG)++([[D.int .i64 yB.2,D.str rN.2.rel,D.sl (A7.map tx)]]))++([[D.int .i64 3,D.str ([]),D.sl ([])]]))]] (D.bool OY)from by first| (simpa only[ar,b8,bV,bD,bG]using dU h113)|exact dU h113| (have t:=dU h113;simp only[ar,bD,bG,aZ.c]at t;exact t)))
  obtain⟨h114,h⟩|⟨h114,h⟩:=aL h
  ·obtain⟨Rh,h116,h⟩:=aC h;cases h;exact((uE.b h114).hp [[none,none,none],[none]] (nu h116)).ret hΓ
  ·cases h;exact(uE.b h114).rts hΓ (D.gj [D.agg [D.str ([114]),D.int .i64 y1.2,D.fr 41 5 (lW.map aT.c),D.fr 71 3 ((([]:List aG)++([[D.int .i64 yB.2,D.str rN.2.rel,D.sl (A7.map tx)]]))++([[D.int .i64 3,D.str ([]),D.sl ([])]]))],D.agg [D.sl (Bn.1.b.map yx),D.int .i64 Bn.1.i,D.int .i64 Bn.1.h],D.val lX]) (by first|rfl| (simp only[mA]<;>rfl))
 ·obtain⟨OZ,h118,h⟩:=aC h;have yp:=(((qy.b h110).a [.d (D.bool OZ)]).w (show Good prog 11 [D.agg [D.str ([114]),D.int .i64 y1.2,D.sl (lW.map aT.c),D.sl (([]:List aG)++([[D.int .i64 yB.2,D.str rN.2.rel,D.sl (A7.map tx)]]))]] (D.bool OZ)from by first| (simpa only[ar,b8,bV,bD,bG]using dU h118)|exact dU h118| (have t:=dU h118;simp only[ar,bD,bG,aZ.c]at t;exact t)))
  obtain⟨h119,h⟩|⟨h119,h⟩:=aL h
  ·obtain⟨Ri,h121,h⟩:=aC h;cases h;exact((yp.b h119).hp [[none,none,none],[none]] (nu h121)).ret hΓ
  ·cases h;exact(yp.b h119).rts hΓ (D.gj [D.agg [D.str ([114]),D.int .i64 y1.2,D.fr 41 5 (lW.map aT.c),D.fr 71 3 (([]:List aG)++([[D.int .i64 yB.2,D.str rN.2.rel,D.sl (A7.map tx)]]))],D.agg [D.sl (Bn.1.b.map yx),D.int .i64 Bn.1.i,D.int .i64 Bn.1.h],D.val lX]) (by first|rfl| (simp only[mA]<;>rfl))
def mW(aF:bt):Option (bt×aZ):=((gG aF 3).bind fun y1=>(bif y1.2 then((mO y1.1).bind fun y4=>(some (y4.1,y4.2)))else((jL y1.1 99).bind fun y6=>(some (y6.1,y6.2)))))
theorem sG{aF:bt}{r:bt×aZ}(h:mW aF=some r):iR prog 58 (bt.c aF) (bt.c r.1) [] (D.agg [D.str r.2.name,D.int .i64 r.2.prio,D.fr 41 5 (r.2.conds.map aT.c),D.fr 71 3 (r.2.cJ.map Action.c)]):=by
 refine CH func58 [[none,none,none],[none,none,some (41,5),some (71,3)]] 9 [D.sl (aF.b.map yx),D.int .i64 aF.i,D.int .i64 aF.h] [] [] fun hr lX Γ hΓ=>?_
 rw[mW]at h;obtain⟨y1,h2,h⟩:=aC h;obtain⟨h3,h⟩|⟨h3,h⟩:=aL h
 ·obtain⟨y4,h5,h⟩:=aC h;cases h;exact(((aW.hp [[none,none,none],[none]] (fI h2)).b h3).hp [[none,none,none]] (wQ h5)).ret hΓ
 ·obtain⟨y6,h7,h⟩:=aC h;cases h;exact(((aW.hp [[none,none,none],[none]] (fI h2)).b h3).hp [[none,none,none],[none]] (nu h7)).ret hΓ
def gq(aF:bt):Option (bt×Bytes):=((ji aF ([[97],[98],[111,110],[55],[49,48],[57,57,57,57],[49,48,48,48,48],[48,48,55],[48],[],[65],[63,120],[63,63],[63],[97,98,99,100,101,102,103,104],[97,98,99,100,101,102,103,104,105],[63,97,98,99,100,101,102,103,104],[97,45,98],[120,49],[49,120],[45,51]]:aD)).bind fun y1=>(some (y1.1,y1.2)))
theorem j5{aF:bt}{r:bt×Bytes}(h:gq aF=some r):iR prog 80 (bt.c aF) (bt.c r.1) [] (D.str r.2):=by
 refine CH func80 [[none,none,none],[none]] 6 [D.sl (aF.b.map yx),D.int .i64 aF.i,D.int .i64 aF.h] [] [] fun hr lX Γ hΓ=>?_
 rw[gq]at h;obtain⟨y1,h2,h⟩:=aC h;cases h;exact(aW.hp [[none,none,none],[some (9,1)]] (ko h2)).ret hΓ
def nV(aF:bt):Option (bt×aJ):=((fP aF).bind fun y1=>((cH y1.1 10).bind fun y3=>(bif (y3.2:Int)==0 then((gq y3.1).bind fun y6=>(some (y6.1,(⟨y6.2,y1.2.args⟩:aJ))))else(bif (y3.2:Int)==1 then((gq y3.1).bind fun AJ=>(bif room ((y1.2.args.map tx).length+([[D.str AJ.2]]).length) 16 then(some (AJ.1,(⟨y1.2.rel,y1.2.args++([AJ.2])⟩:aJ)))else none))else(bif (y3.2:Int)==2 then((cH y3.1 5).bind fun yL=>(bif decide (0<=(yL.2:Int))&&decide (yL.2.toNat<=(([[63,120],[63,120],[63,121],[63,120]]:aD).map tx).length)then(some (yL.1,(⟨y1.2.rel,([[63,120],[63,120],[63,121],[63,120]]:aD).take yL.2.toNat⟩:aJ)))else none))else(some (y3.1,y1.2)))))))
theorem sy{aF:bt}{r:bt×aJ}(h:nV aF=some r):iR prog 82 (bt.c aF) (bt.c r.1) [] (D.agg [D.str r.2.rel,D.fr 9 1 (r.2.args.map tx)]):=by
 refine CH func82 [[none,none,none],[none,some (9,1)]] 30 [D.sl (aF.b.map yx),D.int .i64 aF.i,D.int .i64 aF.h] [] [] fun hr lX Γ hΓ=>?_
 rw[nV]at h;obtain⟨y1,h2,h⟩:=aC h;obtain⟨y3,h4,h⟩:=aC h;have lH:=((aW.hp [[none,none,none]] (j7 h2)).hp [[none,none,none],[none]] (br h4))
 obtain⟨h5,h⟩|⟨h5,h⟩:=aL h
 ·obtain⟨y6,h7,h⟩:=aC h;cases h;exact((lH.b h5).hp [[none,none,none]] (j5 h7)).ret hΓ
 ·obtain⟨h8,h⟩|⟨h8,h⟩:=aL h
  ·obtain⟨AJ,h12,h⟩:=aC h;obtain⟨h13,h⟩:=bY h;cases h;exact(((((lH.b h5).b h8).a [.n2 [0,1,2,3,4,5,6,7] [0,1,2,3,4,5,6,7] 3 5 [0,1] [0]]).hp [[none,none,none]] (j5 h12)).w (cE h13)).rts hΓ (D.gj [D.agg [D.str y1.2.rel,D.fr 9 1 ((y1.2.args.map tx)++([[D.str AJ.2]]))],D.agg [D.sl (AJ.1.b.map yx),D.int .i64 AJ.1.i,D.int .i64 AJ.1.h],D.val lX]) (by first|rfl| (simp only[mA]<;>rfl))
  ·have kN:=((lH.b h5).b h8)
   obtain⟨h14,h⟩|⟨h14,h⟩:=aL h
   ·obtain⟨yL,h16,h⟩:=aC h;obtain⟨h17,h⟩:=bY h;cases h;exact((((kN.b h14).hp [[none,none,none],[none]] (br h16)).w (Ga h17)).a [.cut 0 yL.2.toNat]).rts hΓ (D.gj [D.agg [D.str y1.2.rel,D.fr 9 1 ((([[63,120],[63,120],[63,121],[63,120]]:aD).map tx).take yL.2.toNat)],D.agg [D.sl (yL.1.b.map yx),D.int .i64 yL.1.i,D.int .i64 yL.1.h],D.val lX]) (by first|rfl| (simp only[mA]<;>rfl))
   ·cases h;exact(kN.b h14).ret hΓ
def pG(aF:bt):Option (bt×aT):=((lE aF).bind fun y1=>((cH y1.1 12).bind fun y3=>(bif (y3.2:Int)==0 then((ez y3.1 ([0,1,3,5,6, -1]:bw)).bind fun y6=>(some (y6.1,(⟨y6.2,y1.2.pat,y1.2.left,y1.2.right⟩:aT))))else(bif (y3.2:Int)==1 then((gq y3.1).bind fun y9=>(some (y9.1,(⟨y1.2.kind,y1.2.pat,y9.2,y1.2.right⟩:aT))))else(bif (y3.2:Int)==2 then((nV y3.1).bind fun Ip=>(some (Ip.1,(⟨y1.2.kind,Ip.2,y1.2.left,y1.2.right⟩:aT))))else(some (y3.1,y1.2)))))))
theorem zZ{aF:bt}{r:bt×aT}(h:pG aF=some r):iR prog 81 (bt.c aF) (bt.c r.1) [] (D.agg [D.int .i64 r.2.kind,D.str r.2.pat.rel,D.fr 9 1 (r.2.pat.args.map tx),D.str r.2.left,D.str r.2.right]):=by
 refine CH func81 [[none,none,none],[none,none,some (9,1),none,none]] 25 [D.sl (aF.b.map yx),D.int .i64 aF.i,D.int .i64 aF.h] [] [] fun hr lX Γ hΓ=>?_
 rw[pG]at h;obtain⟨y1,h2,h⟩:=aC h;obtain⟨y3,h4,h⟩:=aC h;have lH:=((aW.hp [[none,none,none]] (sF h2)).hp [[none,none,none],[none]] (br h4))
 obtain⟨h5,h⟩|⟨h5,h⟩:=aL h
 ·obtain⟨y6,h7,h⟩:=aC h;cases h;exact((lH.b h5).hp [[none,none,none],[some (3,1)]] (hO h7)).ret hΓ
 ·obtain⟨h8,h⟩|⟨h8,h⟩:=aL h
  ·obtain⟨y9,h10,h⟩:=aC h;cases h;exact(((lH.b h5).b h8).hp [[none,none,none]] (j5 h10)).ret hΓ
  ·have kN:=((lH.b h5).b h8)
   obtain⟨h11,h⟩|⟨h11,h⟩:=aL h
   ·obtain⟨Ip,h13,h⟩:=aC h;cases h;exact((kN.b h11).hp [[none,none,none]] (sy h13)).ret hΓ
   ·cases h;exact(kN.b h11).ret hΓ
def pH(aF:bt):Option (bt×aZ):=((mW aF).bind fun y1=>((cH y1.1 14).bind fun y3=>(bif (y3.2:Int)==0 then((gq y3.1).bind fun y6=>(some (y6.1,(⟨y6.2,y1.2.prio,y1.2.conds,y1.2.cJ⟩:aZ))))else(bif (y3.2:Int)==1 then((ez y3.1 ([-1,0,9,10]:bw)).bind fun y9=>(some (y9.1,(⟨y1.2.name,y9.2,y1.2.conds,y1.2.cJ⟩:aZ))))else(bif (y3.2:Int)==2 then((pG y3.1).bind fun AK=>(bif room ((y1.2.conds.map aT.c).length+([[D.int .i64 AK.2.kind,D.str AK.2.pat.rel,D.sl (AK.2.pat.args.map tx),D.str AK.2.left,D.str AK.2.right]]).length) 80 then(some (AK.1,(⟨y1.2.name,y1.2.prio,y1.2.conds++([AK.2]),y1.2.cJ⟩:aZ)))else none))else(bif (y3.2:Int)==3 then((ez y3.1 ([0,1,2,3,4]:bw)).bind fun Py=>((nV Py.1).bind fun Dq=>(bif room ((y1.2.cJ.map Action.c).length+([[D.int .i64 Py.2,D.str Dq.2.rel,D.sl (Dq.2.args.map tx)]]).length) 48 then(some (Dq.1,(⟨y1.2.name,y1.2.prio,y1.2.conds,y1.2.cJ++([(⟨Py.2,Dq.2⟩:Action)])⟩:aZ)))else none)))else(bif (y3.2:Int)==4 then((oH (y1.2.conds.map aT.c).length (some (D.int .i64 1)) none).bind fun p=>(fun TF Ty=>(some (y3.1,(⟨y1.2.name,y1.2.prio,(y1.2.conds.take Ty).drop TF,y1.2.cJ⟩:aZ)))) p.1 p.2)else(bif (y3.2:Int)==5 then((oH (y1.2.cJ.map Action.c).length (some (D.int .i64 1)) none).bind fun p=>(fun TG Tz=>(some (y3.1,(⟨y1.2.name,y1.2.prio,y1.2.conds,(y1.2.cJ.take Tz).drop TG⟩:aZ)))) p.1 p.2)else(bif (y3.2:Int)==6 then((ji y3.1 ([[63,102],[63,97],[63,103]]:aD)).bind fun Jt=>((ez Jt.1 ([1,2]:bw)).bind fun WS=>((ji WS.1 ([[63,102],[63,120]]:aD)).bind fun Rm=>(some (Rm.1,(⟨y1.2.name,y1.2.prio,[(⟨1,(⟨[116],([[63,97],[63,98],[63,99]]:aD)⟩:aJ),[],[]⟩:aT),(⟨1,(⟨[116],([[63,100],[63,101],Jt.2]:aD)⟩:aJ),[],[]⟩:aT),(⟨WS.2,(⟨[117],[Rm.2]⟩:aJ),[],[]⟩:aT)],[(⟨3,(⟨[],[]⟩:aJ)⟩:Action)]⟩:aZ))))))else(some (y3.1,y1.2)))))))))))
theorem za{aF:bt}{r:bt×aZ}(h:pH aF=some r):iR prog 48 (bt.c aF) (bt.c r.1) [] (D.agg [D.str r.2.name,D.int .i64 r.2.prio,D.sl (r.2.conds.map aT.c),D.sl (r.2.cJ.map Action.c)]):=by
 refine CH func48 [[none,none,none],[none,none,none,none]] 79 [D.sl (aF.b.map yx),D.int .i64 aF.i,D.int .i64 aF.h] [] [] fun hr lX Γ hΓ=>?_
 rw[pH]at h;obtain⟨y1,h2,h⟩:=aC h;obtain⟨y3,h4,h⟩:=aC h;have lH:=((aW.hp [[none,none,none]] (sG h2)).hp [[none,none,none],[none]] (br h4))
 obtain⟨h5,h⟩|⟨h5,h⟩:=aL h
 ·obtain⟨y6,h7,h⟩:=aC h;cases h;exact(((lH.b h5).hp [[none,none,none]] (j5 h7)).a [.sk 2,.sk 3]).ret hΓ
 ·obtain⟨h8,h⟩|⟨h8,h⟩:=aL h
  ·obtain⟨y9,h10,h⟩:=aC h;cases h;exact((((lH.b h5).b h8).hp [[none,none,none],[some (3,1)]] (hO h10)).a [.sk 2,.sk 3]).ret hΓ
  ·have kN:=((lH.b h5).b h8)
   obtain⟨h11,h⟩|⟨h11,h⟩:=aL h
   ·obtain⟨AK,h15,h⟩:=aC h;obtain⟨h16,h⟩:=bY h;cases h;exact(((((kN.b h11).a [.n2 [0,1,2,3,4,5,6,7] [0,1,2,3,4,5,6,7] 3 5 [0,1] [0,5]]).hp [[none,none,none]] (zZ h15)).w (cE h16)).a [.sk 7,.sk 3]).rts hΓ (D.gj [D.agg [D.str y1.2.name,D.int .i64 y1.2.prio,D.sl ((y1.2.conds.map aT.c)++([[D.int .i64 AK.2.kind,D.str AK.2.pat.rel,D.sl (AK.2.pat.args.map tx),D.str AK.2.left,D.str AK.2.right]])),D.sl (y1.2.cJ.map Action.c)],D.agg [D.sl (AK.1.b.map yx),D.int .i64 AK.1.i,D.int .i64 AK.1.h],D.val lX]) (by first|rfl| (simp only[mA]<;>rfl))
   ·obtain⟨h17,h⟩|⟨h17,h⟩:=aL h
    ·obtain⟨Py,h23,h⟩:=aC h;obtain⟨Dq,h25,h⟩:=aC h;obtain⟨h26,h⟩:=bY h;cases h;exact(((((((kN.b h11).b h17).a [.n2 [0,1,2,3,5,4,6,7,8,9,10,11] [0,1,2,3,5,4,6,7,8,9,10,11] 5 9 [0,1,4] [0,5,6]]).hp [[none,none,none],[some (3,1)]] (hO h23)).hp [[none,none,none]] (sy h25)).w (cE h26)).a [.sk 2,.sk 8]).rts hΓ (D.gj [D.agg [D.str y1.2.name,D.int .i64 y1.2.prio,D.sl (y1.2.conds.map aT.c),D.sl ((y1.2.cJ.map Action.c)++([[D.int .i64 Py.2,D.str Dq.2.rel,D.sl (Dq.2.args.map tx)]]))],D.agg [D.sl (Dq.1.b.map yx),D.int .i64 Dq.1.i,D.int .i64 Dq.1.h],D.val lX]) (by first|rfl| (simp only[mA]<;>rfl))
    ·have lI:=((kN.b h11).b h17)
     obtain⟨h27,h⟩|⟨h27,h⟩:=aL h
     ·obtain⟨⟨TF,Ty⟩,h30,h⟩:=aC h;cases h;exact(((lI.b h27).w (show oH (y1.2.conds.map aT.c).length (some (D.int .i64 1)) none=some (TF,Ty)/\((y1.2.conds.map aT.c).all fun r=>r.length==5)=true from⟨h30,by simp[aQ]⟩)).a [.fz,.cut TF Ty,.sk 3]).rts hΓ (D.gj [D.agg [D.str y1.2.name,D.int .i64 y1.2.prio,D.sl (((y1.2.conds.map aT.c).take Ty).drop TF),D.sl (y1.2.cJ.map Action.c)],D.agg [D.sl (y3.1.b.map yx),D.int .i64 y3.1.i,D.int .i64 y3.1.h],D.val lX]) (by first|rfl| (simp only[mA]<;>rfl)| (simp only[mA,bD]<;>rfl))
     ·obtain⟨h31,h⟩|⟨h31,h⟩:=aL h
      ·obtain⟨⟨TG,Tz⟩,h34,h⟩:=aC h;cases h;exact((((lI.b h27).b h31).w (show oH (y1.2.cJ.map Action.c).length (some (D.int .i64 1)) none=some (TG,Tz)/\((y1.2.cJ.map Action.c).all fun r=>r.length==3)=true from⟨h34,by simp[aQ]⟩)).a [.fz,.cut TG Tz,.sk 2]).rts hΓ (D.gj [D.agg [D.str y1.2.name,D.int .i64 y1.2.prio,D.sl (y1.2.conds.map aT.c),D.sl (((y1.2.cJ.map Action.c).take Tz).drop TG)],D.agg [D.sl (y3.1.b.map yx),D.int .i64 y3.1.i,D.int .i64 y3.1.h],D.val lX]) (by first|rfl| (simp only[mA]<;>rfl)| (simp only[mA,bD]<;>rfl))
      ·have lY:=((lI.b h27).b h31)
       obtain⟨h35,h⟩|⟨h35,h⟩:=aL h
       ·obtain⟨Jt,h37,h⟩:=aC h;obtain⟨WS,h39,h⟩:=aC h;obtain⟨Rm,h41,h⟩:=aC h;cases h;exact(((((lY.b h35).hp [[none,none,none],[some (9,1)]] (ko h37)).hp [[none,none,none],[some (3,1)]] (hO h39)).hp [[none,none,none],[some (9,1)]] (ko h41)).a [.sk 11,.sk 12]).ret hΓ
       ·cases h;exact((lY.b h35).a [.sk 2,.sk 3]).ret hΓ
def nJ(aF:aD):Option aD:=(bif room (([]:List aG).length+(aF.map tx).length) 16 then(some (([]:aD)++aF))else none)
theorem xm{aF:aD}{r:aD}(h:nJ aF=some r):Good prog 86 [D.sl (aF.map tx)] (D.fr 9 1 (r.map tx)):=by
 refine gd func86 [[some (9,1)]] 6 fun hr Γ hΓ=>?_
 rw[nJ]at h;obtain⟨h1,h⟩:=bY h;cases h;exact(((aW.w (cE h1)).w (show(∀r∈(aF.map tx),r.length=1)/\(true=true->D.fK (aF.map tx)=true)from⟨by first|simp| (intro r hr;obtain⟨x,_,rfl⟩:=cG.1 (bC (cM hr));rfl),by simp[D.fK,D.flat]⟩)).a [.GM 2,.fl true]).rts hΓ (D.fr 9 1 (([]:List aG)++(aF.map tx))) (by first|rfl| (simp only[mA]<;>rfl))
def eF(aF:Bytes)(k1:Option Bool):Nat->Int->Option Bool
 |0,_=>none
 |n1+1,iZ=>(bif decide ((iZ:Int)<(aF.length:Int))then((lG aF iZ).bind fun QE=>(bif decide ((QE.toNat:Int)<97)then(bif decide ((QE.toNat:Int)<48)then(some false)else(bif decide ((QE.toNat:Int)>57)then(some false)else(eF aF k1 n1 (IntKind.i64.wrap (iZ+1)))))else(bif decide ((QE.toNat:Int)>122)then(bif decide ((QE.toNat:Int)<48)then(some false)else(bif decide ((QE.toNat:Int)>57)then(some false)else(eF aF k1 n1 (IntKind.i64.wrap (iZ+1)))))else(eF aF k1 n1 (IntKind.i64.wrap (iZ+1))))))else(k1))
def dR(aF:Bytes):Option Bool:=(bif decide (((aF.length:Int):Int)<1)then(some false)else(bif decide (((aF.length:Int):Int)>8)then(some false)else(eF aF (some true) fuel 0)))
def Ae(aF:Bytes)(iZ:Int):St:=⟨[(0,D.str aF),(3,D.int .i64 iZ)],[]⟩
theorem zG(hΓ:Γ.nt=40){aF:Bytes}{r:Bool}{k1:Option Bool}(ju:k1=some r->Ax Γ N f69 (.q [[none]] (D.bool r)) [1,1,1] ⟨[],[]⟩):∀(n1:Nat) (iZ:Int),eF aF k1 n1 iZ=some r->Ar Γ N f69 (.q [[none]] (D.bool r)) [1,1,0,1,0] n1 (Ae aF iZ):=by
 intro n
 induction n with
 |zero=>intro iZ h;simp[eF]at h
 |succ n1 ih1=>
  intro iZ h;rw[eF]at h;refine aa fun N1 hN1 eT=>?_
  obtain⟨h30,h⟩|⟨h30,h⟩:=aL h
  ·obtain⟨QE,h32,h⟩:=aC h;have yp:=((aW.b h30).c h32)
   obtain⟨h33,h⟩|⟨h33,h⟩:=aL h
   ·have Ch:=((((yp.r 5 h33).T 3).c h32).T 2)
    obtain⟨h34,h⟩|⟨h34,h⟩:=aL h
    ·have h:=aM h;subst h;exact((((Ch.r 4 h34).T 1).b h34).T 2).ret hΓ
    ·have Fy:=((((((Ch.r 3 h34).c h32).b h34).T 1).b h34).T 1)
     obtain⟨h35,h⟩|⟨h35,h⟩:=aL h
     ·have h:=aM h;subst h;exact(Fy.b h35).ret hΓ
     ·exact((Fy.b h35).a [.cn [0,3] []]).cf hΓ eT (ih1 (IntKind.i64.wrap (iZ+1)) h)
   ·have zz:=(((yp.r 3 h33).c h32).r 2 h33)
    obtain⟨h36,h⟩|⟨h36,h⟩:=aL h
    ·have Cf:=(((zz.r 3 h36).c h32).r 2 h36)
     obtain⟨h37,h⟩|⟨h37,h⟩:=aL h
     ·have h:=aM h;subst h;exact(((((Cf.r 4 h37).b h36).b h37).b h36).T 1).ret hΓ
     ·have yo:=((((((Cf.r 3 h37).c h32).b h37).b h36).b h37).b h36)
      obtain⟨h38,h⟩|⟨h38,h⟩:=aL h
      ·have h:=aM h;subst h;exact(yo.b h38).ret hΓ
      ·exact((yo.b h38).a [.cn [0,3] []]).cf hΓ eT (ih1 (IntKind.i64.wrap (iZ+1)) h)
    ·exact(((zz.r 7 h36).F 1).a [bF,bF,bF,bF,.cn [0,3] []]).cf hΓ eT (ih1 (IntKind.i64.wrap (iZ+1)) h)
  ·exact((aW.b h30).a [.hl 0 [] []]).ex hΓ hN1 (ju h)
theorem dD{aF:Bytes}{r:Bool}(h:dR aF=some r):Good prog 69 [D.str aF] (D.bool r):=by
 refine gd func69 [[none]] 40 fun hr Γ hΓ=>?_
 rw[dR]at h;obtain⟨h1,h⟩|⟨h1,h⟩:=aL h
 ·have h:=aM h;subst h;exact((aW.r 4 h1).T 1).ret hΓ
 ·have Cg:=(aW.r 4 h1)
  obtain⟨h2,h⟩|⟨h2,h⟩:=aL h
  ·have h:=aM h;subst h;exact(Cg.b h2).ret hΓ
  ·refine((Cg.b h2).a [.cn [0,3] []]).lp hΓ (zG hΓ (fun h=>?_) fuel 0 h);have h:=aM h;subst h;exact aW.ret hΓ
def l8(aF:Bytes):Option Bool:=((dR aF).bind fun y1=>(bif y1 then((lG aF 0).bind fun b4=>(some (decide ((b4.toNat:Int)>=97))))else(some false)))
theorem iq{aF:Bytes}{r:Bool}(h:l8 aF=some r):Good prog 36 [D.str aF] (D.bool r):=by
 refine gd func36 [[none]] 10 fun hr Γ hΓ=>?_
 rw[l8]at h;obtain⟨y1,h2,h⟩:=aC h;obtain⟨h3,h⟩|⟨h3,h⟩:=aL h
 ·obtain⟨b4,h5,h⟩:=aC h;cases h;exact((((aW.g (dD h2)).r 2 h3).c h5).r 2 h3).ret hΓ
 ·have h:=aM h;subst h;exact((aW.g (dD h2)).r 4 h3).ret hΓ
def jB(aF:Bytes):Option Bool:=(bif decide (((aF.length:Int):Int)>1)then((lG aF 0).bind fun b2=>(bif (b2.toNat:Int)==63 then((oH aF.length (some (D.int .i64 1)) none).bind fun p=>(fun l5 u6=>((dR ((aF.take u6).drop l5)).bind fun y8=>(some y8))) p.1 p.2)else(some false)))else(some false))
theorem ke{aF:Bytes}{r:Bool}(h:jB aF=some r):Good prog 75 [D.str aF] (D.bool r):=by
 refine gd func75 [[none]] 16 fun hr Γ hΓ=>?_
 rw[jB]at h;obtain⟨h1,h⟩|⟨h1,h⟩:=aL h
 ·obtain⟨b2,h3,h⟩:=aC h;have lH:=(((aW.r 2 h1).c h3).r 2 h1)
  obtain⟨h4,h⟩|⟨h4,h⟩:=aL h
  ·obtain⟨⟨l5,u6⟩,h7,h⟩:=aC h;obtain⟨y8,h9,h⟩:=aC h;have h:=aM h;subst h;exact((((((lH.r 2 h4).w h7).a [.cut l5 u6]).b h4).g (dD h9)).b h4).ret hΓ
  ·have h:=aM h;subst h;exact(lH.r 4 h4).ret hΓ
 ·have h:=aM h;subst h;exact((aW.r 4 h1).F 4).ret hΓ
def fM(aF:Bytes):Option Bool:=((dR aF).bind fun y1=>(bif y1 then(some true)else((jB aF).bind fun y4=>(some y4))))
theorem gI{aF:Bytes}{r:Bool}(h:fM aF=some r):Good prog 71 [D.str aF] (D.bool r):=by
 refine gd func71 [[none]] 9 fun hr Γ hΓ=>?_
 rw[fM]at h;obtain⟨y1,h2,h⟩:=aC h;obtain⟨h3,h⟩|⟨h3,h⟩:=aL h
 ·have h:=aM h;subst h;exact((aW.g (dD h2)).r 3 h3).ret hΓ
 ·obtain⟨y4,h5,h⟩:=aC h;have h:=aM h;subst h;exact((((aW.g (dD h2)).r 2 h3).g (ke h5)).b h3).ret hΓ
def iI(aF:aJ)(k1:Option Bool):aD->Nat->Option Bool
 | [],i1=>(k1)
 |bu::fY,i1=>((fM bu).bind fun rM=>(bif !(rM)then(some false)else(iI aF k1 fY (i1+1))))
def fR(aF:aJ):Option Bool:=((l8 aF.rel).bind fun y1=>(bif !(y1)then(some false)else(bif decide ((((aF.args.map tx).length:Int):Int)>3)then(some false)else(iI aF (some true) aF.args 0))))
def xO(aF:aJ)(jc:Int):St:=⟨[(16,D.sl (aF.args.map tx)),(17,D.int .i64 ((aF.args.map tx).length:Int)),(18,D.int .i64 jc)],[]⟩
theorem wB(hΓ:Γ.nt=26){aF:aJ}{r:Bool}{k1:Option Bool}(ju:k1=some r->Ax Γ N f70 (.q [[none]] (D.bool r)) [1,1,1] ⟨[],[]⟩)(hm1:aF.args.length<=maxLen):∀(rest:aD) (i1:Nat),aF.args.drop i1=rest->iI aF k1 rest i1=some r->Ar Γ N f70 (.q [[none]] (D.bool r)) [1,1,0,1,0] (rest.length+1) (xO aF (i1:Int)):=by
 intro rest
 induction rest with
 |nil=>
  intro i1 bL h;rw[iI]at h;refine aa fun N1 hN1 eT=>?_
  exact((aW.ge tx bL).a [.hl 0 [] []]).ex hΓ hN1 (ju h)
 |cons bu fY ih1=>
  intro i1 bL h;rw[iI]at h;refine aa fun N1 hN1 eT=>?_
  obtain⟨rM,h26,h⟩:=aC h;have kN:=(((aW.lt tx bL).l (cI tx 1 (dc bL) rfl)).g (gI h26))
  obtain⟨h27,h⟩|⟨h27,h⟩:=aL h
  ·have h:=aM h;subst h;exact(kN.b h27).ret hΓ
  ·exact((kN.b h27).a [.cn [16,17,18] []]).ct hΓ eT (iS bL hm1) (ih1 (i1+1) (dn bL) h)
theorem gA{aF:aJ}{r:Bool}(h:fR aF=some r):Good prog 70 [D.agg (aJ.c aF)] (D.bool r):=by
 refine gd func70 [[none]] 26 fun hr Γ hΓ=>?_
 rw[fR]at h;obtain⟨y1,h2,h⟩:=aC h;obtain⟨h3,h⟩|⟨h3,h⟩:=aL h
 ·have h:=aM h;subst h;exact(((aW.g (iq h2)).r 5 h3).T 1).ret hΓ
 ·have lI:=((aW.g (iq h2)).r 5 h3)
  obtain⟨h4,h⟩|⟨h4,h⟩:=aL h
  ·have h:=aM h;subst h;exact(lI.b h4).ret hΓ
  ·refine((lI.b h4).a [.cn [16,17,18] []]).lp hΓ (wB hΓ (fun h=>?_) (by have:=(n9.sl (n9.agg (hr _ (aE (i:=0) rfl)) (.sl (aF.args.map tx)) (by simp))).1;simpa using this) aF.args 0 rfl h);have h:=aM h;subst h;exact aW.ret hΓ
def fF(aF:aJ):Option Bool:=(bif (aF.rel:Bytes)==([])then(some ((((aF.args.map tx).length:Int):Int)==0))else(some false))
theorem jV{aF:aJ}{r:Bool}(h:fF aF=some r):Good prog 72 [D.agg (aJ.c aF)] (D.bool r):=by
 refine gd func72 [[none]] 12 fun hr Γ hΓ=>?_
 rw[fF]at h;obtain⟨h1,h⟩|⟨h1,h⟩:=aL h
 ·cases h;exact(aW.r 5 h1).ret hΓ
 ·have h:=aM h;subst h;exact(aW.r 5 h1).ret hΓ
def l6(aF:aT):Option Bool:=(bif (aF.kind:Int)==1 then((fR aF.pat).bind fun y2=>(bif y2 then(bif (aF.left:Bytes)==([])then(some ((aF.right:Bytes)==([])))else(some false))else(some false)))else(bif (aF.kind:Int)==2 then((fR aF.pat).bind fun y7=>(bif y7 then(bif (aF.left:Bytes)==([])then(some ((aF.right:Bytes)==([])))else(some false))else(some false)))else(bif (aF.kind:Int)==3 then((fM aF.left).bind fun Ip=>(bif Ip then((fM aF.right).bind fun yL=>(bif yL then((fF aF.pat).bind fun Px=>(some Px))else(some false)))else(some false)))else(bif (aF.kind:Int)==4 then((fM aF.left).bind fun Js=>(bif Js then((fM aF.right).bind fun Dq=>(bif Dq then((fF aF.pat).bind fun uQ=>(some uQ))else(some false)))else(some false)))else(bif (aF.kind:Int)==5 then((fM aF.left).bind fun rR=>(bif rR then((fM aF.right).bind fun rN=>(bif rN then((fF aF.pat).bind fun Jt=>(some Jt))else(some false)))else(some false)))else(some false))))))
theorem kG{aF:aT}{r:Bool}(h:l6 aF=some r):Good prog 37 [D.agg (aT.c aF)] (D.bool r):=by
 refine gd func37 [[none]] 38 fun hr Γ hΓ=>?_
 rw[l6]at h;obtain⟨h1,h⟩|⟨h1,h⟩:=aL h
 ·obtain⟨y2,h3,h⟩:=aC h;have lH:=((aW.r 2 h1).g (gA h3))
  obtain⟨h4,h⟩|⟨h4,h⟩:=aL h
  ·have kN:=(lH.r 4 h4)
   obtain⟨h5,h⟩|⟨h5,h⟩:=aL h
   ·cases h;exact(kN.r 4 h5).ret hΓ
   ·have h:=aM h;subst h;exact(kN.r 4 h5).ret hΓ
  ·have h:=aM h;subst h;exact((lH.r 4 h4).F 4).ret hΓ
 ·obtain⟨h6,h⟩|⟨h6,h⟩:=aL h
  ·obtain⟨y7,h8,h⟩:=aC h;have lI:=(((aW.b h1).b h6).g (gA h8))
   obtain⟨h9,h⟩|⟨h9,h⟩:=aL h
   ·have lY:=(lI.r 4 h9)
    obtain⟨h10,h⟩|⟨h10,h⟩:=aL h
    ·cases h;exact(lY.r 4 h10).ret hΓ
    ·have h:=aM h;subst h;exact(lY.r 4 h10).ret hΓ
   ·have h:=aM h;subst h;exact((lI.r 4 h9).F 4).ret hΓ
  ·have qy:=((aW.b h1).b h6)
   obtain⟨h11,h⟩|⟨h11,h⟩:=aL h
   ·obtain⟨Ip,h13,h⟩:=aC h;have uE:=((qy.r 2 h11).g (gI h13))
    obtain⟨h14,h⟩|⟨h14,h⟩:=aL h
    ·obtain⟨yL,h16,h⟩:=aC h;have yp:=(((uE.r 3 h14).g (gI h16)).b h14)
     obtain⟨h17,h⟩|⟨h17,h⟩:=aL h
     ·obtain⟨Px,h19,h⟩:=aC h;have h:=aM h;subst h;exact(((yp.r 3 h17).g (jV h19)).b h17).ret hΓ
     ·have h:=aM h;subst h;exact(yp.r 4 h17).ret hΓ
    ·have h:=aM h;subst h;exact((uE.r 4 h14).F 4).ret hΓ
   ·obtain⟨h20,h⟩|⟨h20,h⟩:=aL h
    ·obtain⟨Js,h22,h⟩:=aC h;have Ch:=(((qy.b h11).r 2 h20).g (gI h22))
     obtain⟨h23,h⟩|⟨h23,h⟩:=aL h
     ·obtain⟨Dq,h25,h⟩:=aC h;have Fy:=(((Ch.r 3 h23).g (gI h25)).b h23)
      obtain⟨h26,h⟩|⟨h26,h⟩:=aL h
      ·obtain⟨uQ,h28,h⟩:=aC h;have h:=aM h;subst h;exact(((Fy.r 3 h26).g (jV h28)).b h26).ret hΓ
      ·have h:=aM h;subst h;exact(Fy.r 4 h26).ret hΓ
     ·have h:=aM h;subst h;exact((Ch.r 4 h23).F 4).ret hΓ
    ·have zz:=((qy.b h11).b h20)
     obtain⟨h29,h⟩|⟨h29,h⟩:=aL h
     ·obtain⟨rR,h31,h⟩:=aC h;have Cf:=((zz.b h29).g (gI h31))
      obtain⟨h32,h⟩|⟨h32,h⟩:=aL h
      ·obtain⟨rN,h34,h⟩:=aC h;have yo:=(((Cf.r 3 h32).g (gI h34)).b h32)
       obtain⟨h35,h⟩|⟨h35,h⟩:=aL h
       ·obtain⟨Jt,h37,h⟩:=aC h;have h:=aM h;subst h;exact(((yo.r 3 h35).g (jV h37)).b h35).ret hΓ
       ·have h:=aM h;subst h;exact(yo.r 4 h35).ret hΓ
      ·have h:=aM h;subst h;exact((Cf.r 4 h32).F 4).ret hΓ
     ·have h:=aM h;subst h;exact(zz.b h29).ret hΓ
def di(aF:aD)(k1:aD->Option aD):aD->Nat->aD->Option aD
 | [],i1,bh=>(k1 bh)
 |bu::fY,i1,bh=>((jB bu).bind fun UB=>(bif UB then(bif room ((bh.map tx).length+([[D.str bu]]).length) 16 then(di aF k1 fY (i1+1) (bh++([bu])))else none)else(di aF k1 fY (i1+1) bh)))
def iy(aF:aD):Option aD:=(di aF (fun(dL:aD)=>(some dL)) aF 0 ([]:aD))
def qv(aF:aD)(W0:List aG)(jc:Int):St:=⟨[(3,D.acc 0),(6,D.sl (aF.map tx)),(7,D.int .i64 ((aF.map tx).length:Int)),(8,D.int .i64 jc)],[Ob.row .uq 9 1 W0]⟩
theorem wG(hΓ:Γ.nt=20){aF:aD}{r:aD}{k1:aD->Option aD}(ju:∀(dL:aD),k1 dL=some r->Ax Γ N f41 (.q [[some (9,1)]] (D.fr 9 1 (r.map tx))) [1,1,1] ⟨[(3,D.acc 0)],[Ob.row .uq 9 1 (dL.map tx)]⟩)(hm1:aF.length<=maxLen):∀(rest:aD) (i1:Nat) (bh:aD),aF.drop i1=rest->di aF k1 rest i1 bh=some r->Ar Γ N f41 (.q [[some (9,1)]] (D.fr 9 1 (r.map tx))) [1,1,0,1,0] (rest.length+1) (qv aF (bh.map tx) (i1:Int)):=by
 intro rest
 induction rest with
 |nil=>
  intro i1 bh bL h;rw[di]at h;refine aa fun N1 hN1 eT=>?_
  exact((aW.ge tx bL).a [.hl 0 [3] [0]]).ex hΓ hN1 (ju bh h)
 |cons bu fY ih1=>
  intro i1 bh bL h;rw[di]at h;refine aa fun N1 hN1 eT=>?_
  obtain⟨UB,h33,h⟩:=aC h;have kN:=(((aW.lt tx bL).l (cI tx 1 (dc bL) rfl)).g (ke h33))
  obtain⟨h34,h⟩|⟨h34,h⟩:=aL h
  ·obtain⟨h35,h⟩:=bY h;exact(((kN.b h34).w (cE h35)).a [.cn [3,6,7,8] [2]]).cs hΓ eT (qv aF ((bh.map tx)++([[D.str bu]])) (IntKind.i64.wrap ((i1:Int)+1))) (by first| (simp only[iS bL hm1,mA]<;>rfl)| (simp only[iS bL hm1,mA,aJ.c,aj.c,aT.c,Action.c,aZ.c,bA.c,bE.c,jH.c,Node.c,dh.c,jr.c]<;>rfl)) (ih1 (i1+1) (bh++([bu])) (dn bL) h)
  ·exact((kN.b h34).a [.cn [3,6,7,8] [0]]).ct hΓ eT (iS bL hm1) (ih1 (i1+1) bh (dn bL) h)
theorem mc{aF:aD}{r:aD}(h:iy aF=some r):Good prog 41 [D.sl (aF.map tx)] (D.fr 9 1 (r.map tx)):=by
 refine gd func41 [[some (9,1)]] 20 fun hr Γ hΓ=>?_
 rw[iy]at h;refine(aW.a [.GM 3,.cn [3,6,7,8] [0]]).lp hΓ (wG hΓ (fun dL h=>?_) (by have:=(n9.sl (hr _ (aE (i:=0) rfl))).1;simpa using this) aF 0 ([]:aD) rfl h);have h:=aM h;subst h;exact aW.ret hΓ
def cW(aF:aD)(k1:aD->Option aD):aD->Nat->aD->Option aD
 | [],i1,cC=>(k1 cC)
 |bu::fY,i1,cC=>(bif ((i1:Int):Int)==0 then(bif room ((cC.map tx).length+([[D.str bu]]).length) 16 then(cW aF k1 fY (i1+1) (cC++([bu])))else none)else((lG (jX (([]:aD)++aF)) (IntKind.i64.wrap ((i1:Int)-1))).bind fun x47=>(bif !((x47:Bytes)==bu)then(bif room ((cC.map tx).length+([[D.str bu]]).length) 16 then(cW aF k1 fY (i1+1) (cC++([bu])))else none)else(cW aF k1 fY (i1+1) cC))))
def gJ(aF:aD):Option aD:=(bif room (([]:List aG).length+(aF.map tx).length) 16 then(bif decide ((([]:aD)++aF).length<4611686018427387904)then(bif decide ((jX (([]:aD)++aF)).length<=maxLen)then(cW aF (fun(dL:aD)=>(some dL)) (jX (([]:aD)++aF)) 0 ([]:aD))else none)else none)else none)
def mZ(aF:aD)(W0:List aG)(jc:Int):St:=⟨[(3,D.acc 0),(4,D.acc 1),(11,D.acc 0),(12,D.int .i64 (((jX (([]:aD)++aF)).map tx).length:Int)),(13,D.int .i64 jc)],[Ob.row .uq 9 1 ((jX (([]:aD)++aF)).map tx),Ob.row .uq 9 1 W0]⟩
theorem uf(hΓ:Γ.nt=35){aF:aD}{r:aD}{k1:aD->Option aD}(ju:∀(dL:aD),k1 dL=some r->Ax Γ N f43 (.q [[some (9,1)]] (D.fr 9 1 (r.map tx))) [1,1,1,1,1] ⟨[(4,D.acc 0)],[Ob.row .uq 9 1 (dL.map tx)]⟩)(hm1:(jX (([]:aD)++aF)).length<=maxLen):∀(rest:aD) (i1:Nat) (cC:aD),(jX (([]:aD)++aF)).drop i1=rest->cW aF k1 rest i1 cC=some r->Ar Γ N f43 (.q [[some (9,1)]] (D.fr 9 1 (r.map tx))) [1,1,1,1,0,1,0] (rest.length+1) (mZ aF (cC.map tx) (i1:Int)):=by
 intro rest
 induction rest with
 |nil=>
  intro i1 cC bL h;rw[cW]at h;refine aa fun N1 hN1 eT=>?_
  exact((aW.ge tx bL).a [.hl 0 [4] [1]]).ex hΓ hN1 (ju cC h)
 |cons bu fY ih1=>
  intro i1 cC bL h;rw[cW]at h;refine aa fun N1 hN1 eT=>?_
  have lI:=(((aW.lt tx bL).i (fC tx 1 (dc bL))).o 1 1 .uq (cB tx (dc bL)))
  obtain⟨h45,h⟩|⟨h45,h⟩:=aL h
  ·obtain⟨h46,h⟩:=bY h;exact((((lI.r 8 h45).T 1).w (cE h46)).a [.cn [3,4,11,12,13] [0,3]]).cs hΓ eT (mZ aF ((cC.map tx)++([[D.str bu]])) (IntKind.i64.wrap ((i1:Int)+1))) (by first| (simp only[iS bL hm1,mA]<;>rfl)| (simp only[iS bL hm1,mA,aJ.c,aj.c,aT.c,Action.c,aZ.c,bA.c,bE.c,jH.c,Node.c,dh.c,jr.c]<;>rfl)) (ih1 (i1+1) (cC++([bu])) (dn bL) h)
  ·obtain⟨x47,h48,h⟩:=aC h;have lY:=(((((lI.r 4 h45).i (iY tx 1 h48)).b h45).o 1 1 .uq (cB tx (fB h48))).r 3 h45)
   obtain⟨h49,h⟩|⟨h49,h⟩:=aL h
   ·obtain⟨h50,h⟩:=bY h;exact(((lY.b h49).w (cE h50)).a [.cn [3,4,11,12,13] [0,3]]).cs hΓ eT (mZ aF ((cC.map tx)++([[D.str bu]])) (IntKind.i64.wrap ((i1:Int)+1))) (by first| (simp only[iS bL hm1,mA]<;>rfl)| (simp only[iS bL hm1,mA,aJ.c,aj.c,aT.c,Action.c,aZ.c,bA.c,bE.c,jH.c,Node.c,dh.c,jr.c]<;>rfl)) (ih1 (i1+1) (cC++([bu])) (dn bL) h)
   ·exact((lY.b h49).a [.cn [3,4,11,12,13] [0,1]]).ct hΓ eT (iS bL hm1) (ih1 (i1+1) cC (dn bL) h)
theorem lS{aF:aD}{r:aD}(h:gJ aF=some r):Good prog 43 [D.sl (aF.map tx)] (D.fr 9 1 (r.map tx)):=by
 refine gd func43 [[some (9,1)]] 35 fun hr Γ hΓ=>?_
 rw[gJ]at h;obtain⟨h1,h⟩:=bY h;obtain⟨h2,h⟩:=bY h;obtain⟨h51,h⟩:=bY h;refine(((((aW.w (cE h1)).w (show(∀r∈(aF.map tx),r.length=1)/\(true=true->D.fK (aF.map tx)=true)from⟨by first|simp| (intro r hr;obtain⟨x,_,rfl⟩:=cG.1 (bC (cM hr));rfl),by simp[D.fK,D.flat]⟩)).w (show(([]:List aG)++(aF.map tx)).flatten.all D.flat=true from by simpa only[ar,b8,bV]using FQ (([]:aD)++aF))).w (show F1 prog 76 9 1 (([]:List aG)++(aF.map tx)) ((jX (([]:aD)++aF)).map tx)from by simpa only[ar,b8,bV]using(xX (e:=9) (bn h2)))).a [.fl true,.mu 0 ((jX (([]:aD)++aF)).map tx),.GM 4,.cn [3,4,11,12,13] [0,1]]).lp hΓ (uf hΓ (fun dL h=>?_) (bn h51) (jX (([]:aD)++aF)) 0 ([]:aD) rfl h);have h:=aM h;subst h;exact aW.ret hΓ
def dJ(aF:aZ)(ay:Int)(k1:aD->Option aD):bN->Nat->aD->Option aD
 | [],i1,bh=>(k1 bh)
 |bu::fY,i1,bh=>(bif decide (((i1:Int):Int)<ay)then(bif (bu.kind:Int)==1 then((iy bu.pat.args).bind fun AP=>(bif room ((bh.map tx).length+(AP.map tx).length) 16 then(dJ aF ay k1 fY (i1+1) (bh++AP))else none))else(dJ aF ay k1 fY (i1+1) bh))else(dJ aF ay k1 fY (i1+1) bh))
def jz(aF:aZ)(ay:Int):Option aD:=(dJ aF ay (fun(dL:aD)=>((gJ dL).bind fun Q3=>(some Q3))) aF.conds 0 ([]:aD))
def qp(aF:aZ)(ay:Int)(W0:List aG)(jc:Int):St:=⟨[(1,D.int .i64 ay),(5,D.acc 0),(9,D.sl (aF.conds.map aT.c)),(10,D.int .i64 ((aF.conds.map aT.c).length:Int)),(11,D.int .i64 jc)],[Ob.row .uq 9 1 W0]⟩
theorem w8(hΓ:Γ.nt=33){aF:aZ}{ay:Int}{r:aD}{k1:aD->Option aD}(ju:∀(dL:aD),k1 dL=some r->Ax Γ N f39 (.q [[some (9,1)]] (D.fr 9 1 (r.map tx))) [1,1,1] ⟨[(5,D.acc 0)],[Ob.row .uq 9 1 (dL.map tx)]⟩)(hm1:aF.conds.length<=maxLen):∀(rest:bN) (i1:Nat) (bh:aD),aF.conds.drop i1=rest->dJ aF ay k1 rest i1 bh=some r->Ar Γ N f39 (.q [[some (9,1)]] (D.fr 9 1 (r.map tx))) [1,1,0,1,0] (rest.length+1) (qp aF ay (bh.map tx) (i1:Int)):=by
 intro rest
 induction rest with
 |nil=>
  intro i1 bh bL h;rw[dJ]at h;refine aa fun N1 hN1 eT=>?_
  exact((aW.ge aT.c bL).a [.hl 0 [5] [0]]).ex hΓ hN1 (ju bh h)
 |cons bu fY ih1=>
  intro i1 bh bL h;rw[dJ]at h;refine aa fun N1 hN1 eT=>?_
  have lI:=((aW.lt aT.c bL).l (cI aT.c 5 (dc bL) rfl))
  obtain⟨h37,h⟩|⟨h37,h⟩:=aL h
  ·have lY:=(lI.r 4 h37)
   obtain⟨h38,h⟩|⟨h38,h⟩:=aL h
   ·obtain⟨AP,h40,h⟩:=aC h;obtain⟨h41,h⟩:=bY h;exact((((lY.b h38).g (mc h40)).w (cE h41)).a [.cn [1,5,9,10,11] [3]]).cs hΓ eT (qp aF ay ((bh.map tx)++(AP.map tx)) (IntKind.i64.wrap ((i1:Int)+1))) (by first| (simp only[iS bL hm1,mA]<;>rfl)| (simp only[iS bL hm1,mA,aJ.c,aj.c,aT.c,Action.c,aZ.c,bA.c,bE.c,jH.c,Node.c,dh.c,jr.c]<;>rfl)) (ih1 (i1+1) (bh++AP) (dn bL) h)
   ·exact((lY.b h38).a [.cn [1,5,9,10,11] [0]]).ct hΓ eT (iS bL hm1) (ih1 (i1+1) bh (dn bL) h)
  ·exact(((lI.r 4 h37).F 1).a [.cn [1,5,9,10,11] [0]]).ct hΓ eT (iS bL hm1) (ih1 (i1+1) bh (dn bL) h)
theorem pR{aF:aZ}{ay:Int}{r:aD}(h:jz aF ay=some r):Good prog 39 [D.agg (aZ.c aF),D.int .i64 ay] (D.fr 9 1 (r.map tx)):=by
 refine gd func39 [[some (9,1)]] 33 fun hr Γ hΓ=>?_
 rw[jz]at h;refine(aW.a [.GM 5,.cn [1,5,9,10,11] [1]]).lp hΓ (w8 hΓ (fun dL h=>?_) (by have:=(n9.sl (n9.agg (hr _ (aE (i:=0) rfl)) (.sl (aF.conds.map aT.c)) (by simp))).1;simpa using this) aF.conds 0 ([]:aD) rfl h);obtain⟨Q3,h43,h⟩:=aC h;have h:=aM h;subst h;exact(aW.g (lS h43)).ret hΓ
def kA(aF:aD):Option aD:=(bif room (([]:List aG).length+(aF.map tx).length) 16 then(some (([]:aD)++aF))else none)
theorem pU{aF:aD}{r:aD}(h:kA aF=some r):Good prog 130 [D.sl (aF.map tx)] (D.fr 9 1 (r.map tx)):=by
 refine gd func130 [[some (9,1)]] 5 fun hr Γ hΓ=>?_
 rw[kA]at h;obtain⟨h1,h⟩:=bY h;cases h;exact(((aW.w (cE h1)).w (show(∀r∈(aF.map tx),r.length=1)/\(true=true->D.fK (aF.map tx)=true)from⟨by first|simp| (intro r hr;obtain⟨x,_,rfl⟩:=cG.1 (bC (cM hr));rfl),by simp[D.fK,D.flat]⟩)).a [.GM 2,.fl true]).rts hΓ (D.fr 9 1 (([]:List aG)++(aF.map tx))) (by first|rfl| (simp only[mA]<;>rfl))
def nG(aF:aT):Option aD:=((kA aF.pat.args).bind fun y1=>(bif room ((y1.map tx).length+(([aF.left,aF.right]:aD).map tx).length) 16 then(some (y1++([aF.left,aF.right]:aD)))else none))
theorem xR{aF:aT}{r:aD}(h:nG aF=some r):Good prog 105 [D.agg (aT.c aF)] (D.fr 9 1 (r.map tx)):=by
 refine gd func105 [[some (9,1)]] 13 fun hr Γ hΓ=>?_
 rw[nG]at h;obtain⟨y1,h2,h⟩:=aC h;obtain⟨h3,h⟩:=bY h;cases h;exact(((aW.a [.GM 2,.n 9]).g (pU h2)).w (cE h3)).rts hΓ (D.fr 9 1 ((y1.map tx)++(([aF.left,aF.right]:aD).map tx))) (by first|rfl| (simp only[mA]<;>rfl))
def jZ(aF:aT):Option aD:=((nG aF).bind fun y1=>((iy y1).bind fun y3=>((gJ y3).bind fun y5=>(some y5))))
theorem nE{aF:aT}{r:aD}(h:jZ aF=some r):Good prog 73 [D.agg (aT.c aF)] (D.fr 9 1 (r.map tx)):=by
 refine gd func73 [[some (9,1)]] 7 fun hr Γ hΓ=>?_
 rw[jZ]at h;obtain⟨y1,h2,h⟩:=aC h;obtain⟨y3,h4,h⟩:=aC h;obtain⟨y5,h6,h⟩:=aC h;have h:=aM h;subst h;exact(((aW.g (xR h2)).g (mc h4)).g (lS h6)).ret hΓ
def gy(aF:aD)(ay:Bytes)(k1:Option Bool):aD->Nat->Option Bool
 | [],i1=>(k1)
 |bu::fY,i1=>(bif (bu:Bytes)==ay then(some true)else(gy aF ay k1 fY (i1+1)))
def gx(aF:aD)(ay:Bytes):Option Bool:=(gy aF ay (some false) aF 0)
def zM(aF:aD)(ay:Bytes)(jc:Int):St:=⟨[(1,D.str ay),(7,D.sl (aF.map tx)),(8,D.int .i64 ((aF.map tx).length:Int)),(9,D.int .i64 jc)],[]⟩
theorem yS(hΓ:Γ.nt=17){aF:aD}{ay:Bytes}{r:Bool}{k1:Option Bool}(ju:k1=some r->Ax Γ N f42 (.q [[none]] (D.bool r)) [1,1] ⟨[],[]⟩)(hm1:aF.length<=maxLen):∀(rest:aD) (i1:Nat),aF.drop i1=rest->gy aF ay k1 rest i1=some r->Ar Γ N f42 (.q [[none]] (D.bool r)) [1,0,1,0] (rest.length+1) (zM aF ay (i1:Int)):=by
 intro rest
 induction rest with
 |nil=>
  intro i1 bL h;rw[gy]at h;refine aa fun N1 hN1 eT=>?_
  exact((aW.ge tx bL).a [.hl 0 [] []]).ex hΓ hN1 (ju h)
 |cons bu fY ih1=>
  intro i1 bL h;rw[gy]at h;refine aa fun N1 hN1 eT=>?_
  have kN:=((aW.lt tx bL).l (cI tx 1 (dc bL) rfl))
  obtain⟨h13,h⟩|⟨h13,h⟩:=aL h
  ·have h:=aM h;subst h;exact(kN.b h13).ret hΓ
  ·exact((kN.b h13).a [.cn [1,7,8,9] []]).ct hΓ eT (iS bL hm1) (ih1 (i1+1) (dn bL) h)
theorem lJ{aF:aD}{ay:Bytes}{r:Bool}(h:gx aF ay=some r):Good prog 42 [D.sl (aF.map tx),D.str ay] (D.bool r):=by
 refine gd func42 [[none]] 17 fun hr Γ hΓ=>?_
 rw[gx]at h;refine(aW.a [.cn [1,7,8,9] []]).lp hΓ (yS hΓ (fun h=>?_) (by have:=(n9.sl (hr _ (aE (i:=0) rfl))).1;simpa using this) aF 0 rfl h);have h:=aM h;subst h;exact aW.ret hΓ
def cY(aF:aZ)(ay:Int)(fy:Bytes)(k1:Option Bool):bN->Nat->Option Bool
 | [],i1=>(k1)
 |bu::fY,i1=>(bif ((i1:Int):Int) != ay then((jZ bu).bind fun Pz=>((gx Pz fy).bind fun Jt=>(bif Jt then(some true)else(cY aF ay fy k1 fY (i1+1)))))else(cY aF ay fy k1 fY (i1+1)))
def dK(aF:aZ)(fy:Bytes)(k2:Option Bool):iD->Nat->Option Bool
 | [],i2=>(k2)
 |r9::AI,i2=>((gx r9.pat.args fy).bind fun XQ=>(bif XQ then(some true)else(dK aF fy k2 AI (i2+1))))
def gz(aF:aZ)(ay:Int)(fy:Bytes):Option Bool:=(cY aF ay fy (dK aF fy (some false) aF.cJ 0) aF.conds 0)
def sW(aF:aZ)(ay:Int)(fy:Bytes)(jc:Int):St:=⟨[(1,D.int .i64 ay),(2,D.str fy),(3,D.ptr 0 0),(12,D.sl (aF.conds.map aT.c)),(13,D.int .i64 ((aF.conds.map aT.c).length:Int)),(14,D.int .i64 jc)],[Ob.box (aZ.c aF)]⟩
theorem rz(hΓ:Γ.nt=42){aF:aZ}{ay:Int}{fy:Bytes}{r:Bool}{k1:Option Bool}(ju:k1=some r->Ax Γ N f74 (.q [[none]] (D.bool r)) [1,1] ⟨[(2,D.str fy),(3,D.ptr 0 0)],[Ob.box (aZ.c aF)]⟩)(hm1:aF.conds.length<=maxLen):∀(rest:bN) (i1:Nat),aF.conds.drop i1=rest->cY aF ay fy k1 rest i1=some r->Ar Γ N f74 (.q [[none]] (D.bool r)) [1,0,1,0] (rest.length+1) (sW aF ay fy (i1:Int)):=by
 intro rest
 induction rest with
 |nil=>
  intro i1 bL h;rw[cY]at h;refine aa fun N1 hN1 eT=>?_
  exact((aW.ge aT.c bL).a [.hl 0 [2,3] [0]]).ex hΓ hN1 (ju h)
 |cons bu fY ih1=>
  intro i1 bL h;rw[cY]at h;refine aa fun N1 hN1 eT=>?_
  have lY:=((aW.lt aT.c bL).l (cI aT.c 5 (dc bL) rfl))
  obtain⟨h33,h⟩|⟨h33,h⟩:=aL h
  ·obtain⟨Pz,h35,h⟩:=aC h;obtain⟨Jt,h37,h⟩:=aC h;have qy:=(((((lY.r 2 h33).g (nE h35)).r 2 h33).g (lJ h37)).b h33)
   obtain⟨h38,h⟩|⟨h38,h⟩:=aL h
   ·have h:=aM h;subst h;exact(qy.b h38).ret hΓ
   ·exact((qy.b h38).a [.cn [1,2,3,12,13,14] [0]]).ct hΓ eT (iS bL hm1) (ih1 (i1+1) (dn bL) h)
  ·exact(((lY.r 5 h33).F 1).a [.cn [1,2,3,12,13,14] [0]]).ct hΓ eT (iS bL hm1) (ih1 (i1+1) (dn bL) h)
def sX(aF:aZ)(fy:Bytes)(jc:Int):St:=⟨[(2,D.str fy),(30,D.sl (aF.cJ.map Action.c)),(31,D.int .i64 ((aF.cJ.map Action.c).length:Int)),(32,D.int .i64 jc)],[]⟩
theorem s7(hΓ:Γ.nt=42){aF:aZ}{fy:Bytes}{r:Bool}{k2:Option Bool}(FU:k2=some r->Ax Γ N f74 (.q [[none]] (D.bool r)) [1,1,1] ⟨[],[]⟩)(hm2:aF.cJ.length<=maxLen):∀(rest:iD) (i2:Nat),aF.cJ.drop i2=rest->dK aF fy k2 rest i2=some r->Ar Γ N f74 (.q [[none]] (D.bool r)) [1,1,0,1,0] (rest.length+1) (sX aF fy (i2:Int)):=by
 intro rest
 induction rest with
 |nil=>
  intro i2 hd2 h;rw[dK]at h;refine aa fun N2 Bg xw=>?_
  exact((aW.ge Action.c hd2).a [.hl 0 [] []]).ex hΓ Bg (FU h)
 |cons r9 AI ih2=>
  intro i2 hd2 h;rw[dK]at h;refine aa fun N2 Bg xw=>?_
  obtain⟨XQ,h60,h⟩:=aC h;have uE:=(((aW.lt Action.c hd2).l (cI Action.c 3 (dc hd2) rfl)).g (lJ h60))
  obtain⟨h61,h⟩|⟨h61,h⟩:=aL h
  ·have h:=aM h;subst h;exact(uE.b h61).ret hΓ
  ·exact((uE.b h61).a [.cn [2,30,31,32] []]).ct hΓ xw (iS hd2 hm2) (ih2 (i2+1) (dn hd2) h)
theorem rE{aF:aZ}{ay:Int}{fy:Bytes}{r:Bool}(h:gz aF ay fy=some r):Good prog 74 [D.agg (aZ.c aF),D.int .i64 ay,D.str fy] (D.bool r):=by
 refine gd func74 [[none]] 42 fun hr Γ hΓ=>?_
 rw[gz]at h;refine(aW.a [.cn [1,2,3,12,13,14] [0]]).lp hΓ (rz hΓ (fun h=>?_) (by have:=(n9.sl (n9.agg (hr _ (aE (i:=0) rfl)) (.sl (aF.conds.map aT.c)) (by simp))).1;simpa using this) aF.conds 0 rfl h);refine(aW.a [.cn [2,30,31,32] []]).lp hΓ (s7 hΓ (fun h=>?_) (by have:=(n9.sl (n9.agg (hr _ (aE (i:=0) rfl)) (.sl (aF.cJ.map Action.c)) (by simp))).1;simpa using this) aF.cJ 0 rfl h);have h:=aM h;subst h;exact aW.ret hΓ
end Go.Cx
namespace Go.Cx
open Go.RowKit Go.Proofs Tryz
set_option maxRecDepth 100000
variable{Γ:oK}{N:Nat->St->Prop}
def eV(aF:aZ)(ay:Int)(x1:aT)(y3:aD)(y5:aD)(k1:Option Bool):aD->Nat->Option Bool
 | [],i1=>(k1)
 |bu::fY,i1=>(bif (x1.kind:Int)==1 then(eV aF ay x1 y3 y5 k1 fY (i1+1))else((gx y3 bu).bind fun XN=>(bif XN then(eV aF ay x1 y3 y5 k1 fY (i1+1))else(bif (x1.kind:Int) != 2 then(some false)else((gz aF ay bu).bind fun UC=>(bif UC then(some false)else(eV aF ay x1 y3 y5 k1 fY (i1+1))))))))
def kT(aF:aZ)(ay:Int):Option Bool:=((lG aF.conds ay).bind fun x1=>((jz aF ay).bind fun y3=>((jZ x1).bind fun y5=>(bif decide (y5.length<=maxLen)then(eV aF ay x1 y3 y5 (some true) y5 0)else none))))
def yR(aF:aZ)(ay:Int)(x1:aT)(y3:aD)(y5:aD)(jc:Int):St:=⟨[(1,D.int .i64 ay),(2,D.ptr 0 0),(5,D.ptr 1 0),(6,D.acc 2),(18,D.acc 3),(19,D.int .i64 ((y5.map tx).length:Int)),(20,D.int .i64 jc)],[Ob.box (aZ.c aF),Ob.box [D.int .i64 x1.kind,D.str x1.pat.rel,D.sl (x1.pat.args.map tx),D.str x1.left,D.str x1.right],Ob.row .uq 9 1 (y3.map tx),Ob.row .uq 9 1 (y5.map tx)]⟩
theorem xQ(hΓ:Γ.nt=42){aF:aZ}{ay:Int}{x1:aT}{y3:aD}{y5:aD}{r:Bool}{k1:Option Bool}(ju:k1=some r->Ax Γ N f38 (.q [[none]] (D.bool r)) [1,1,1,1] ⟨[],[]⟩)(hm1:y5.length<=maxLen):∀(rest:aD) (i1:Nat),y5.drop i1=rest->eV aF ay x1 y3 y5 k1 rest i1=some r->Ar Γ N f38 (.q [[none]] (D.bool r)) [1,1,1,0,1,0] (rest.length+1) (yR aF ay x1 y3 y5 (i1:Int)):=by
 intro rest
 induction rest with
 |nil=>
  intro i1 bL h;rw[eV]at h;refine aa fun N1 hN1 eT=>?_
  exact((aW.ge tx bL).a [.hl 0 [] []]).ex hΓ hN1 (ju h)
 |cons bu fY ih1=>
  intro i1 bL h;rw[eV]at h;refine aa fun N1 hN1 eT=>?_
  have lY:=(((aW.lt tx bL).i (fC tx 1 (dc bL))).o 1 1 .uq (cB tx (dc bL)))
  obtain⟨h48,h⟩|⟨h48,h⟩:=aL h
  ·exact(((lY.r 4 h48).T 1).a [.cn [1,2,5,6,18,19,20] [0,1,2,3]]).ct hΓ eT (iS bL hm1) (ih1 (i1+1) (dn bL) h)
  ·obtain⟨XN,h50,h⟩:=aC h;have qy:=(((lY.r 3 h48).g (lJ h50)).b h48)
   obtain⟨h51,h⟩|⟨h51,h⟩:=aL h
   ·exact((qy.b h51).a [.cn [1,2,5,6,18,19,20] [0,1,2,3]]).ct hΓ eT (iS bL hm1) (ih1 (i1+1) (dn bL) h)
   ·obtain⟨h52,h⟩|⟨h52,h⟩:=aL h
    ·have h:=aM h;subst h;exact(((qy.b h51).r 5 h52).T 1).ret hΓ
    ·obtain⟨UC,h54,h⟩:=aC h;have uE:=((((qy.b h51).r 4 h52).g (rE h54)).b h52)
     obtain⟨h55,h⟩|⟨h55,h⟩:=aL h
     ·have h:=aM h;subst h;exact(uE.b h55).ret hΓ
     ·exact((uE.b h55).a [.cn [1,2,5,6,18,19,20] [0,1,2,3]]).ct hΓ eT (iS bL hm1) (ih1 (i1+1) (dn bL) h)
theorem qK{aF:aZ}{ay:Int}{r:Bool}(h:kT aF ay=some r):Good prog 38 [D.agg (aZ.c aF),D.int .i64 ay] (D.bool r):=by
 refine gd func38 [[none]] 42 fun hr Γ hΓ=>?_
 rw[kT]at h;obtain⟨x1,h2,h⟩:=aC h;obtain⟨y3,h4,h⟩:=aC h;obtain⟨y5,h6,h⟩:=aC h;obtain⟨h56,h⟩:=bY h;refine((((aW.l (jI aT.c 5 h2 rfl)).g (pR h4)).g (nE h6)).a [.cn [1,2,5,6,18,19,20] [0,1,2,3]]).lp hΓ (xQ hΓ (fun h=>?_) (bn h56) y5 0 rfl h);have h:=aM h;subst h;exact aW.ret hΓ
def mH(aF:Action):Option Bool:=(bif (aF.kind:Int)==1 then((fR aF.pat).bind fun y2=>(some y2))else(bif (aF.kind:Int)==2 then((fR aF.pat).bind fun y5=>(some y5))else(bif (aF.kind:Int)==3 then((fF aF.pat).bind fun y8=>(some y8))else(some false))))
theorem w9{aF:Action}{r:Bool}(h:mH aF=some r):Good prog 40 [D.agg (Action.c aF)] (D.bool r):=by
 refine gd func40 [[none]] 16 fun hr Γ hΓ=>?_
 rw[mH]at h;obtain⟨h1,h⟩|⟨h1,h⟩:=aL h
 ·obtain⟨y2,h3,h⟩:=aC h;have h:=aM h;subst h;exact((aW.r 2 h1).g (gA h3)).ret hΓ
 ·obtain⟨h4,h⟩|⟨h4,h⟩:=aL h
  ·obtain⟨y5,h6,h⟩:=aC h;have h:=aM h;subst h;exact(((aW.b h1).b h4).g (gA h6)).ret hΓ
  ·have lH:=((aW.b h1).b h4)
   obtain⟨h7,h⟩|⟨h7,h⟩:=aL h
   ·obtain⟨y8,h9,h⟩:=aC h;have h:=aM h;subst h;exact((lH.b h7).g (jV h9)).ret hΓ
   ·have h:=aM h;subst h;exact(lH.b h7).ret hΓ
def eU(aF:bN)(k1:aD->Option aD):bN->Nat->aD->Option aD
 | [],i1,bh=>(k1 bh)
 |bu::fY,i1,bh=>((jZ bu).bind fun uQ=>(bif room ((bh.map tx).length+(uQ.map tx).length) 16 then(eU aF k1 fY (i1+1) (bh++uQ))else none))
def kj(aF:bN):Option aD:=(eU aF (fun(dL:aD)=>(some dL)) aF 0 ([]:aD))
def qL(aF:bN)(W0:List aG)(jc:Int):St:=⟨[(3,D.acc 0),(6,D.sl (aF.map aT.c)),(7,D.int .i64 ((aF.map aT.c).length:Int)),(8,D.int .i64 jc)],[Ob.row .uq 9 1 W0]⟩
theorem vS(hΓ:Γ.nt=18){aF:bN}{r:aD}{k1:aD->Option aD}(ju:∀(dL:aD),k1 dL=some r->Ax Γ N f44 (.q [[some (9,1)]] (D.fr 9 1 (r.map tx))) [1,1,1] ⟨[(3,D.acc 0)],[Ob.row .uq 9 1 (dL.map tx)]⟩)(hm1:aF.length<=maxLen):∀(rest:bN) (i1:Nat) (bh:aD),aF.drop i1=rest->eU aF k1 rest i1 bh=some r->Ar Γ N f44 (.q [[some (9,1)]] (D.fr 9 1 (r.map tx))) [1,1,0,1,0] (rest.length+1) (qL aF (bh.map tx) (i1:Int)):=by
 intro rest
 induction rest with
 |nil=>
  intro i1 bh bL h;rw[eU]at h;refine aa fun N1 hN1 eT=>?_
  exact((aW.ge aT.c bL).a [.hl 0 [3] [0]]).ex hΓ hN1 (ju bh h)
 |cons bu fY ih1=>
  intro i1 bh bL h;rw[eU]at h;refine aa fun N1 hN1 eT=>?_
  obtain⟨uQ,h28,h⟩:=aC h;obtain⟨h29,h⟩:=bY h;exact(((((aW.lt aT.c bL).l (cI aT.c 5 (dc bL) rfl)).g (nE h28)).w (cE h29)).a [.cn [3,6,7,8] [3]]).cs hΓ eT (qL aF ((bh.map tx)++(uQ.map tx)) (IntKind.i64.wrap ((i1:Int)+1))) (by first| (simp only[iS bL hm1,mA]<;>rfl)| (simp only[iS bL hm1,mA,aJ.c,aj.c,aT.c,Action.c,aZ.c,bA.c,bE.c,jH.c,Node.c,dh.c,jr.c]<;>rfl)) (ih1 (i1+1) (bh++uQ) (dn bL) h)
theorem ug{aF:bN}{r:aD}(h:kj aF=some r):Good prog 44 [D.sl (aF.map aT.c)] (D.fr 9 1 (r.map tx)):=by
 refine gd func44 [[some (9,1)]] 18 fun hr Γ hΓ=>?_
 rw[kj]at h;refine(aW.a [.GM 3,.cn [3,6,7,8] [0]]).lp hΓ (vS hΓ (fun dL h=>?_) (by have:=(n9.sl (hr _ (aE (i:=0) rfl))).1;simpa using this) aF 0 ([]:aD) rfl h);have h:=aM h;subst h;exact aW.ret hΓ
def fS(aF:aZ)(k1:Option Bool):bN->Nat->Option Bool
 | [],i1=>(k1)
 |bu::fY,i1=>((l6 bu).bind fun XR=>(bif !(XR)then(some false)else(bif ((i1:Int):Int)==0 then(bif (bu.kind:Int) != 1 then(some false)else((kT aF (i1:Int)).bind fun UE=>(bif !(UE)then(some false)else(fS aF k1 fY (i1+1)))))else((kT aF (i1:Int)).bind fun XT=>(bif !(XT)then(some false)else(fS aF k1 fY (i1+1)))))))
def iv(aF:aZ)(yy:aD)(i2:Nat)(yt:aD)(k3:Option Bool):aD->Nat->Option Bool
 | [],i3=>(k3)
 |Jh::GO,i3=>((gx yy Jh).bind fun U8=>(bif !(U8)then(some false)else(iv aF yy i2 yt k3 GO (i3+1))))
def ir(aF:aZ)(yy:aD)(k2:Option Bool):iD->Nat->Option Bool
 | [],i2=>(k2)
 |r9::AI,i2=>((mH r9).bind fun U7=>(bif !(U7)then(some false)else((iy r9.pat.args).bind fun yt=>(bif decide (yt.length<=maxLen)then(iv aF yy i2 yt (ir aF yy k2 AI (i2+1)) yt 0)else none))))
def mS(aF:aZ):Option Bool:=((l8 aF.name).bind fun y1=>(bif !(y1)then(some false)else(bif decide ((aF.prio:Int)<0)then(some false)else(bif decide ((aF.prio:Int)>9)then(some false)else(bif decide ((((aF.conds.map aT.c).length:Int):Int)<1)then(some false)else(bif decide ((((aF.conds.map aT.c).length:Int):Int)>4)then(some false)else(bif decide ((((aF.cJ.map Action.c).length:Int):Int)<1)then(some false)else(bif decide ((((aF.cJ.map Action.c).length:Int):Int)>2)then(some false)else(fS aF ((jz aF ((aF.conds.map aT.c).length:Int)).bind fun yy=>(ir aF yy ((kj aF.conds).bind fun U9=>((gJ U9).bind fun UA=>(some (decide ((((UA.map tx).length:Int):Int)<=6))))) aF.cJ 0)) aF.conds 0)))))))))
def Ag(aF:aZ)(jc:Int):St:=⟨[(1,D.ptr 0 0),(49,D.sl (aF.conds.map aT.c)),(50,D.int .i64 ((aF.conds.map aT.c).length:Int)),(51,D.int .i64 jc)],[Ob.box (aZ.c aF)]⟩
theorem zI(hΓ:Γ.nt=111){aF:aZ}{r:Bool}{k1:Option Bool}(ju:k1=some r->Ax Γ N f13 (.q [[none]] (D.bool r)) [1,1,1] ⟨[(1,D.ptr 0 0)],[Ob.box (aZ.c aF)]⟩)(hm1:aF.conds.length<=maxLen):∀(rest:bN) (i1:Nat),aF.conds.drop i1=rest->fS aF k1 rest i1=some r->Ar Γ N f13 (.q [[none]] (D.bool r)) [1,1,0,1,0] (rest.length+1) (Ag aF (i1:Int)):=by
 intro rest
 induction rest with
 |nil=>
  intro i1 bL h;rw[fS]at h;refine aa fun N1 hN1 eT=>?_
  exact((aW.ge aT.c bL).a [.hl 0 [1] [0]]).ex hΓ hN1 (ju h)
 |cons bu fY ih1=>
  intro i1 bL h;rw[fS]at h;refine aa fun N1 hN1 eT=>?_
  obtain⟨XR,h63,h⟩:=aC h;have yo:=(((aW.lt aT.c bL).l (cI aT.c 5 (dc bL) rfl)).g (kG h63))
  obtain⟨h64,h⟩|⟨h64,h⟩:=aL h
  ·have h:=aM h;subst h;exact((((yo.r 3 h64).a [bF,bF,bF]).r 2 h64).T 6).ret hΓ
  ·have Cg:=(yo.r 3 h64)
   obtain⟨h65,h⟩|⟨h65,h⟩:=aL h
   ·have Fx:=((((Cg.r 3 h65).b h64).b h65).b h64)
    obtain⟨h66,h⟩|⟨h66,h⟩:=aL h
    ·have h:=aM h;subst h;exact((Fx.r 5 h66).T 1).ret hΓ
    ·obtain⟨UE,h68,h⟩:=aC h;have Lz:=(((Fx.r 3 h66).g (qK h68)).r 2 h66)
     obtain⟨h69,h⟩|⟨h69,h⟩:=aL h
     ·have h:=aM h;subst h;exact(Lz.b h69).ret hΓ
     ·exact((Lz.b h69).a [.cn [1,49,50,51] [0]]).ct hΓ eT (iS bL hm1) (ih1 (i1+1) (dn bL) h)
   ·obtain⟨XT,h71,h⟩:=aC h;have M0:=(((((((Cg.r 3 h65).b h64).b h65).b h64).F 3).g (qK h71)).F 2)
    obtain⟨h72,h⟩|⟨h72,h⟩:=aL h
    ·have h:=aM h;subst h;exact(M0.b h72).ret hΓ
    ·exact((M0.b h72).a [.cn [1,49,50,51] [0]]).ct hΓ eT (iS bL hm1) (ih1 (i1+1) (dn bL) h)
def Ah(aF:aZ)(yy:aD)(jc:Int):St:=⟨[(1,D.ptr 0 0),(5,D.acc 1),(81,D.sl (aF.cJ.map Action.c)),(82,D.int .i64 ((aF.cJ.map Action.c).length:Int)),(83,D.int .i64 jc)],[Ob.box (aZ.c aF),Ob.row .uq 9 1 (yy.map tx)]⟩
def Ai(aF:aZ)(yy:aD)(i2:Nat)(yt:aD)(jc:Int):St:=⟨[(1,D.ptr 0 0),(5,D.acc 1),(81,D.sl (aF.cJ.map Action.c)),(82,D.int .i64 ((aF.cJ.map Action.c).length:Int)),(83,D.int .i64 (i2:Int)),(93,D.acc 2),(94,D.int .i64 ((yt.map tx).length:Int)),(95,D.int .i64 jc)],[Ob.box (aZ.c aF),Ob.row .uq 9 1 (yy.map tx),Ob.row .uq 9 1 (yt.map tx)]⟩
theorem zK(hΓ:Γ.nt=111){aF:aZ}{yy:aD}{i2:Nat}{yt:aD}{r:Bool}{k3:Option Bool}(QH:k3=some r->Ax Γ N f13 (.q [[none]] (D.bool r)) [1,1,1,1,0,1,0,0,1,1,1] ⟨[(1,D.ptr 0 0),(5,D.acc 1),(81,D.sl (aF.cJ.map Action.c)),(82,D.int .i64 ((aF.cJ.map Action.c).length:Int)),(83,D.int .i64 (i2:Int))],[Ob.box (aZ.c aF),Ob.row .uq 9 1 (yy.map tx)]⟩)(JB:yt.length<=maxLen):∀(rest:aD) (i3:Nat),yt.drop i3=rest->iv aF yy i2 yt k3 rest i3=some r->Ar Γ N f13 (.q [[none]] (D.bool r)) [1,1,1,1,0,1,0,0,1,1,0,0,1,1,1,0] (rest.length+1) (Ai aF yy i2 yt (i3:Int)):=by
 intro rest
 induction rest with
 |nil=>
  intro i3 tU h;rw[iv]at h;refine aa fun N3 Kk GI=>?_
  exact((aW.ge tx tU).a [.hl 3 [1,5,81,82,83] [0,1]]).ex hΓ Kk (QH h)
 |cons Jh GO ih3=>
  intro i3 tU h;rw[iv]at h;refine aa fun N3 Kk GI=>?_
  obtain⟨U8,h230,h⟩:=aC h;have TO:=((((aW.lt tx tU).i (fC tx 1 (dc tU))).o 1 1 .uq (cB tx (dc tU))).g (lJ h230))
  obtain⟨h231,h⟩|⟨h231,h⟩:=aL h
  ·have h:=aM h;subst h;exact(TO.b h231).ret hΓ
  ·exact((TO.b h231).a [.cn [1,5,81,82,83,93,94,95] [0,1,2]]).ct hΓ GI (iS tU JB) (ih3 (i3+1) (dn tU) h)
theorem zJ(hΓ:Γ.nt=111){aF:aZ}{yy:aD}{r:Bool}{k2:Option Bool}(FU:k2=some r->Ax Γ N f13 (.q [[none]] (D.bool r)) [1,1,1,1,1] ⟨[(1,D.ptr 0 0)],[Ob.box (aZ.c aF)]⟩)(hm2:aF.cJ.length<=maxLen):∀(rest:iD) (i2:Nat),aF.cJ.drop i2=rest->ir aF yy k2 rest i2=some r->Ar Γ N f13 (.q [[none]] (D.bool r)) [1,1,1,1,0,1,0] (rest.length+1) (Ah aF yy (i2:Int)):=by
 intro rest
 induction rest with
 |nil=>
  intro i2 hd2 h;rw[ir]at h;refine aa fun N2 Bg xw=>?_
  exact((aW.ge Action.c hd2).a [.hl 0 [1] [0]]).ex hΓ Bg (FU h)
 |cons r9 AI ih2=>
  intro i2 hd2 h;rw[ir]at h;refine aa fun N2 Bg xw=>?_
  obtain⟨U7,h204,h⟩:=aC h;have TP:=(((aW.lt Action.c hd2).l (cI Action.c 3 (dc hd2) rfl)).g (w9 h204))
  obtain⟨h205,h⟩|⟨h205,h⟩:=aL h
  ·have h:=aM h;subst h;exact(TP.b h205).ret hΓ
  ·obtain⟨yt,h207,h⟩:=aC h;obtain⟨h232,h⟩:=bY h;refine(((TP.b h205).g (mc h207)).a [.cn [1,5,81,82,83,93,94,95] [0,1,3]]).lp hΓ (zK hΓ (fun h=>?_) (bn h232) yt 0 rfl h);exact(aW.a [.cn [1,5,81,82,83] [0,1]]).ct hΓ xw (iS hd2 hm2) (ih2 (i2+1) (dn hd2) h)
theorem dF{aF:aZ}{r:Bool}(h:mS aF=some r):Good prog 13 [D.agg (aZ.c aF)] (D.bool r):=by
 refine gd func13 [[none]] 111 fun hr Γ hΓ=>?_
 rw[mS]at h;obtain⟨y1,h2,h⟩:=aC h;obtain⟨h3,h⟩|⟨h3,h⟩:=aL h
 ·have h:=aM h;subst h;exact(((aW.g (iq h2)).r 4 h3).T 25).ret hΓ
 ·have TQ:=((aW.g (iq h2)).r 4 h3)
  obtain⟨h4,h⟩|⟨h4,h⟩:=aL h
  ·have h:=aM h;subst h;exact((TQ.r 4 h4).T 21).ret hΓ
  ·have TR:=(TQ.r 4 h4)
   obtain⟨h5,h⟩|⟨h5,h⟩:=aL h
   ·have h:=aM h;subst h;exact((TR.r 5 h5).T 16).ret hΓ
   ·have TS:=(TR.r 5 h5)
    obtain⟨h6,h⟩|⟨h6,h⟩:=aL h
    ·have h:=aM h;subst h;exact((TS.r 5 h6).T 11).ret hΓ
    ·have TT:=(TS.r 5 h6)
     obtain⟨h7,h⟩|⟨h7,h⟩:=aL h
     ·have h:=aM h;subst h;exact((TT.r 5 h7).T 6).ret hΓ
     ·have TU:=(TT.r 5 h7)
      obtain⟨h8,h⟩|⟨h8,h⟩:=aL h
      ·have h:=aM h;subst h;exact((TU.r 5 h8).T 1).ret hΓ
      ·have TV:=(TU.r 5 h8)
       obtain⟨h9,h⟩|⟨h9,h⟩:=aL h
       ·have h:=aM h;subst h;exact(TV.b h9).ret hΓ
       ·refine((TV.b h9).a [.cn [1,49,50,51] [0]]).lp hΓ (zI hΓ (fun h=>?_) (by have:=(n9.sl (n9.agg (hr _ (aE (i:=0) rfl)) (.sl (aF.conds.map aT.c)) (by simp))).1;simpa using this) aF.conds 0 rfl h);obtain⟨yy,h74,h⟩:=aC h;refine((aW.g (pR h74)).a [.cn [1,5,81,82,83] [0,1]]).lp hΓ (zJ hΓ (fun h=>?_) (by have:=(n9.sl (n9.agg (hr _ (aE (i:=0) rfl)) (.sl (aF.cJ.map Action.c)) (by simp))).1;simpa using this) aF.cJ 0 rfl h);obtain⟨U9,h234,h⟩:=aC h;obtain⟨UA,h236,h⟩:=aC h;cases h;exact((aW.g (ug h234)).g (lS h236)).ret hΓ
def ij(aF:Int):Option Bytes:=((sK aF).bind fun y1=>(some y1))
theorem vP{aF:Int}{r:Bytes}(h:ij aF=some r):Good prog 138 [D.int .i64 aF] (D.str r):=by
 refine gd func138 [[none]] 5 fun hr Γ hΓ=>?_
 rw[ij]at h;obtain⟨y1,h2,h⟩:=aC h;have h:=aM h;subst h;exact(aW.g (xu h2)).ret hΓ
def vV(aF:Bytes)(ay:ah)(k1:Option Bytes):ah->Nat->Option Bytes
 | [],i1=>(k1)
 |bu::fY,i1=>(bif (bu.var:Bytes)==aF then(some bu.value)else(vV aF ay k1 fY (i1+1)))
def pX(x:dh):aG:=[D.fr 31 4 (x.rules.map aZ.c),D.fr 3 1 (x.ends.map Ns),D.fr 141 3 (x.KK.map jH.c),D.fr 92 8 (x.nodes.map Node.c),D.fr 47 2 (x.facts.map aJ.c),D.int .i64 x.Pu]
def gb(y1:bt×(Bytes×Int))(k1:bw->Int->Int->aD->Option (bt×aJ)):Nat->Int->bw->Int->Int->aD->Option (bt×aJ)
 |0,_,_,_,_,_=>none
 |n1+1,eO,eY,dG,dH,jq=>(bif decide ((eO:Int)<y1.2.2)then((gm (⟨eY,dG,dH⟩:bt)).bind fun rR=>(bif room ((jq.map tx).length+([[D.str rR.2]]).length) 16 then(gb y1 k1 n1 (IntKind.i64.wrap (eO+1)) rR.1.b rR.1.i rR.1.h (jq++([rR.2])))else none))else(k1 eY dG dH jq))
def lC(aF:bt):Option (bt×aJ):=((kp aF).bind fun y1=>(gb y1 (fun(jk:bw) (jl:Int) (jm:Int) (lW:aD)=>(some ((⟨jk,jl,jm⟩:bt),(⟨y1.2.1,lW⟩:aJ)))) fuel 0 y1.1.b y1.1.i y1.1.h ([]:aD)))
def tr(lX:Value)(y1:bt×(Bytes×Int))(eO:Int)(dG:Int)(dH:Int)(W1:List aG)(W4:List aG):St:=⟨[(0,D.ptr 0 0),(2,D.ptr 1 0),(4,D.int .i64 y1.2.2),(5,D.ptr 2 0),(6,D.int .i64 eO)],[Ob.AU [D.sl W1,D.int .i64 dG,D.int .i64 dH] lX,Ob.box [D.str ([]),D.nil],Ob.box [D.str y1.2.1,D.acc 3],Ob.row .uq 9 1 W4]⟩
theorem zW(hΓ:Γ.nt=27){lX:Value}{y1:bt×(Bytes×Int)}{r:bt×aJ}{k1:bw->Int->Int->aD->Option (bt×aJ)}(ju:∀(jk:bw) (jl:Int) (jm:Int) (lW:aD),k1 jk jl jm lW=some r->Ax Γ N f97 (.p [[none,none,none],[none,some (9,1)]] lX (bt.c r.1) (D.agg [D.str r.2.rel,D.fr 9 1 (r.2.args.map tx)])) [1,1,1,1] ⟨[(2,D.ptr 1 0),(5,D.ptr 2 0)],[Ob.AU [D.sl (jk.map yx),D.int .i64 jl,D.int .i64 jm] lX,Ob.box [D.str ([]),D.nil],Ob.box [D.str y1.2.1,D.acc 3],Ob.row .uq 9 1 (lW.map tx)]⟩):∀(n1:Nat) (eO:Int) (eY:bw) (dG:Int) (dH:Int) (jq:aD),gb y1 k1 n1 eO eY dG dH jq=some r->Ar Γ N f97 (.p [[none,none,none],[none,some (9,1)]] lX (bt.c r.1) (D.agg [D.str r.2.rel,D.fr 9 1 (r.2.args.map tx)])) [1,1,1,0,1,0] n1 (tr lX y1 eO dG dH (eY.map yx) (jq.map tx)):=by
 intro n
 induction n with
 |zero=>intro eO eY dG dH jq h;simp[gb]at h
 |succ n1 ih1=>
  intro eO eY dG dH jq h;rw[gb]at h;refine aa fun N1 hN1 eT=>?_
  obtain⟨h27,h⟩|⟨h27,h⟩:=aL h
  ·obtain⟨rR,h31,h⟩:=aC h;obtain⟨h32,h⟩:=bY h;exact(((((aW.b h27).a [.n2 [0,1,2,3,4,5,6,7] [0,1,2,3,4,5,6,7] 3 5 [0,1] [0],.gp [[none,none,none]] (bt.c rR.1) (D.str rR.2)]).w (show iR prog 119 (bt.c (⟨eY,dG,dH⟩:bt)) (bt.c rR.1) [] (D.str rR.2)from by simpa only[ar,b8,bV,bD,bG]using oO h31)).w (cE h32)).a [.cn [0,2,4,5,6] [0,1,2,5]]).cs hΓ eT (tr lX y1 (IntKind.i64.wrap (eO+1)) rR.1.i rR.1.h (rR.1.b.map yx) ((jq.map tx)++([[D.str rR.2]]))) (by first| (simp only[mA]<;>rfl)| (simp only[mA,aJ.c,aj.c,aT.c,Action.c,aZ.c,bA.c,bE.c,jH.c,Node.c,dh.c,jr.c]<;>rfl)) (ih1 (IntKind.i64.wrap (eO+1)) rR.1.b rR.1.i rR.1.h (jq++([rR.2])) h)
  ·exact((aW.b h27).a [.hl 0 [2,5] [0,1,2,3]]).ex hΓ hN1 (ju eY dG dH jq h)
theorem sC{aF:bt}{r:bt×aJ}(h:lC aF=some r):iR prog 97 (bt.c aF) (bt.c r.1) [] (D.agg [D.str r.2.rel,D.fr 9 1 (r.2.args.map tx)]):=by
 refine CH func97 [[none,none,none],[none,some (9,1)]] 27 [D.sl (aF.b.map yx),D.int .i64 aF.i,D.int .i64 aF.h] [] [] fun hr lX Γ hΓ=>?_
 rw[lC]at h;obtain⟨y1,h2,h⟩:=aC h;refine((aW.hp [[none,none,none]] (sx h2)).a [.pb 2 1 9 1,.cn [0,2,4,5,6] [0,1,2,3]]).lp hΓ (zW hΓ (fun jk jl jm lW h=>?_) fuel 0 y1.1.b y1.1.i y1.1.h ([]:aD) h);cases h;exact aW.ret hΓ
def lq(aF:Bytes)(ay:Bytes):Option Int:=(bif Op.bytesLess aF ay then(some (-1))else(bif !(Op.bytesLess aF ay||(aF:Bytes)==ay)then(some 1)else(some 0)))
theorem p8{aF:Bytes}{ay:Bytes}{r:Int}(h:lq aF ay=some r):Good prog 140 [D.str aF,D.str ay] (D.int .i64 r):=by
 refine gd func140 [[none]] 13 fun hr Γ hΓ=>?_
 rw[lq]at h;obtain⟨h1,h⟩|⟨h1,h⟩:=aL h
 ·cases h;exact(aW.b h1).ret hΓ
 ·obtain⟨h2,h⟩|⟨h2,h⟩:=aL h
  ·have h:=aM h;subst h;exact((aW.b h1).b h2).ret hΓ
  ·have h:=aM h;subst h;exact((aW.b h1).b h2).ret hΓ
def iK(aF:Bytes)(ay:Bytes):Option Int:=((ja aF).bind fun y1=>((ja ay).bind fun y3=>(bif y1.2 then(bif y3.2 then(bif decide ((y1.1:Int)<y3.1)then(some (-1))else(bif !(y3.2)then(some (-1))else(bif decide ((y1.1:Int)>y3.1)then(some 1)else(bif !(y1.2)then(some 1)else(some 0)))))else(bif !(y3.2)then(some (-1))else(some 0)))else(bif y3.2 then(bif !(y1.2)then(some 1)else((lq aF ay).bind fun AK=>(some AK)))else((lq aF ay).bind fun Dp=>(some Dp))))))
theorem tN{aF:Bytes}{ay:Bytes}{r:Int}(h:iK aF ay=some r):Good prog 141 [D.str aF,D.str ay] (D.int .i64 r):=by
 refine gd func141 [[none]] 54 fun hr Γ hΓ=>?_
 rw[iK]at h;obtain⟨y1,h2,h⟩:=aC h;obtain⟨y3,h4,h⟩:=aC h;have lH:=((aW.g (nI h2)).g (nI h4))
 obtain⟨h5,h⟩|⟨h5,h⟩:=aL h
 ·have kN:=(lH.r 2 h5)
  obtain⟨h6,h⟩|⟨h6,h⟩:=aL h
  ·have lI:=(kN.r 4 h6)
   obtain⟨h7,h⟩|⟨h7,h⟩:=aL h
   ·cases h;exact(lI.r 2 h7).ret hΓ
   ·have lY:=((lI.b h7).r 3 h5)
    obtain⟨h8,h⟩|⟨h8,h⟩:=aL h
    ·cases h;exact(lY.b h8).ret hΓ
    ·have qy:=(((lY.b h8).r 2 h5).r 4 h6)
     obtain⟨h9,h⟩|⟨h9,h⟩:=aL h
     ·have h:=aM h;subst h;exact(qy.r 2 h9).ret hΓ
     ·have uE:=((qy.b h9).r 3 h6)
      obtain⟨h10,h⟩|⟨h10,h⟩:=aL h
      ·have h:=aM h;subst h;exact(uE.b h10).ret hΓ
      ·have h:=aM h;subst h;exact((uE.b h10).b h5).ret hΓ
  ·have yp:=(((kN.r 4 h6).F 1).r 3 h5)
   obtain⟨h11,h⟩|⟨h11,h⟩:=aL h
   ·cases h;exact(yp.b h11).ret hΓ
   ·have h:=aM h;subst h;exact(((((((yp.b h11).r 2 h5).r 4 h6).F 1).r 3 h6).F 1).b h5).ret hΓ
 ·have Ch:=((((((lH.r 2 h5).F 5).r 3 h5).F 1).r 2 h5).F 5)
  obtain⟨h12,h⟩|⟨h12,h⟩:=aL h
  ·have Fy:=(Ch.r 3 h12)
   obtain⟨h13,h⟩|⟨h13,h⟩:=aL h
   ·have h:=aM h;subst h;exact(Fy.b h13).ret hΓ
   ·obtain⟨AK,h15,h⟩:=aC h;have h:=aM h;subst h;exact(((Fy.b h13).b h5).g (p8 h15)).ret hΓ
  ·obtain⟨Dp,h17,h⟩:=aC h;have h:=aM h;subst h;exact((((Ch.r 3 h12).F 1).b h5).g (p8 h17)).ret hΓ
def fT(aF:aJ)(ay:aJ)(k1:Option Int):aD->Nat->Option Int
 | [],i1=>(k1)
 |bu::fY,i1=>(bif decide (((i1:Int):Int)<((ay.args.map tx).length:Int))then((lG ay.args (i1:Int)).bind fun x37=>((iK bu x37).bind fun AP=>(bif (AP:Int) != 0 then(some AP)else(fT aF ay k1 fY (i1+1)))))else(k1))
def iL(aF:aJ)(ay:aJ):Option Int:=(bif !((aF.rel:Bytes)==ay.rel)then((lq aF.rel ay.rel).bind fun y2=>(some y2))else(fT aF ay (bif decide ((((aF.args.map tx).length:Int):Int)<((ay.args.map tx).length:Int))then(some (-1))else(bif decide ((((aF.args.map tx).length:Int):Int)>((ay.args.map tx).length:Int))then(some 1)else(some 0))) aF.args 0))
def uj(aF:aJ)(ay:aJ)(jc:Int):St:=⟨[(2,D.ptr 0 0),(3,D.ptr 1 0),(5,D.int .i64 jc)],[Ob.box (aJ.c aF),Ob.box (aJ.c ay)]⟩
theorem th(hΓ:Γ.nt=61){aF:aJ}{ay:aJ}{r:Int}{k1:Option Int}(ju:k1=some r->Ax Γ N f120 (.q [[none]] (D.int .i64 r)) [1,1,1] ⟨[(2,D.ptr 0 0),(3,D.ptr 1 0)],[Ob.box (aJ.c aF),Ob.box (aJ.c ay)]⟩)(hm1:aF.args.length<=maxLen):∀(rest:aD) (i1:Nat),aF.args.drop i1=rest->fT aF ay k1 rest i1=some r->Ar Γ N f120 (.q [[none]] (D.int .i64 r)) [1,1,0,1,0] (rest.length+1) (uj aF ay (i1:Int)):=by
 intro rest
 induction rest with
 |nil=>
  intro i1 bL h;rw[fT]at h;refine aa fun N1 hN1 eT=>?_
  exact((((((((aW.ge tx bL).ge tx bL).ge tx bL).ge tx bL).ge tx bL).ge tx bL).F 1).a [.hl 0 [2,3] [0,1]]).ex hΓ hN1 (ju h)
 |cons bu fY ih1=>
  intro i1 bL h;rw[fT]at h;refine aa fun N1 hN1 eT=>?_
  have lI:=((((((aW.lt tx bL).lt tx bL).lt tx bL).lt tx bL).lt tx bL).lt tx bL)
  obtain⟨h36,h⟩|⟨h36,h⟩:=aL h
  ·obtain⟨x37,h38,h⟩:=aC h;obtain⟨AP,h40,h⟩:=aC h;have lY:=(((((lI.b h36).a [.n 10]).l (cI tx 1 (dc bL) rfl)).l (jI tx 1 h38 rfl)).g (tN h40))
   obtain⟨h41,h⟩|⟨h41,h⟩:=aL h
   ·have h:=aM h;subst h;exact(lY.b h41).ret hΓ
   ·exact((lY.b h41).a [.cn [2,3,5] [0,1]]).ct hΓ eT (iS bL hm1) (ih1 (i1+1) (dn bL) h)
  ·exact((lI.b h36).a [.hl 0 [2,3] [0,1]]).ex hΓ hN1 (ju h)
theorem oB{aF:aJ}{ay:aJ}{r:Int}(h:iL aF ay=some r):Good prog 120 [D.agg (aJ.c aF),D.agg (aJ.c ay)] (D.int .i64 r):=by
 refine gd func120 [[none]] 61 fun hr Γ hΓ=>?_
 rw[iL]at h;obtain⟨h1,h⟩|⟨h1,h⟩:=aL h
 ·obtain⟨y2,h3,h⟩:=aC h;have h:=aM h;subst h;exact((aW.b h1).g (p8 h3)).ret hΓ
 ·refine((aW.b h1).a [.cn [2,3,5] [0,1]]).lp hΓ (th hΓ (fun h=>?_) (by have:=(n9.sl (n9.agg (hr _ (aE (i:=0) rfl)) (.sl (aF.args.map tx)) (by simp))).1;simpa using this) aF.args 0 rfl h);obtain⟨h42,h⟩|⟨h42,h⟩:=aL h
  ·cases h;exact(aW.b h42).ret hΓ
  ·obtain⟨h43,h⟩|⟨h43,h⟩:=aL h
   ·have h:=aM h;subst h;exact((aW.b h42).b h43).ret hΓ
   ·have h:=aM h;subst h;exact((aW.b h42).b h43).ret hΓ
def gH(aF:aJ):Option aJ:=((nJ aF.args).bind fun y1=>(some (⟨aF.rel,y1⟩:aJ)))
theorem j6{aF:aJ}{r:aJ}(h:gH aF=some r):Good prog 121 [D.agg (aJ.c aF)] (D.agg [D.str r.rel,D.fr 9 1 (r.args.map tx)]):=by
 refine gd func121 [[none,some (9,1)]] 9 fun hr Γ hΓ=>?_
 rw[gH]at h;obtain⟨y1,h2,h⟩:=aC h;cases h;exact((aW.a [.n 5]).g (xm h2)).ret hΓ
def eb(aF:aU)(ay:aJ)(k1:Bool->aU->Option aU):aU->Nat->Bool->aU->Option aU
 | [],i1,eO,cC=>(k1 eO cC)
 |bu::fY,i1,eO,cC=>(bif !(eO)then((iL bu ay).bind fun U5=>(bif decide ((U5:Int)>=0)then((iL bu ay).bind fun U6=>(bif decide ((U6:Int)>0)then((gH ay).bind fun Et=>(bif room ((cC.map aJ.c).length+([[D.str Et.rel,D.sl (Et.args.map tx)]]).length) 40 then((gH bu).bind fun Hi=>(bif room (((cC.map aJ.c)++([[D.str Et.rel,D.sl (Et.args.map tx)]])).length+([[D.str Hi.rel,D.sl (Hi.args.map tx)]]).length) 40 then(eb aF ay k1 fY (i1+1) true ((cC++([Et]))++([Hi])))else none))else none))else((gH bu).bind fun Hj=>(bif room ((cC.map aJ.c).length+([[D.str Hj.rel,D.sl (Hj.args.map tx)]]).length) 40 then(eb aF ay k1 fY (i1+1) true (cC++([Hj])))else none))))else((gH bu).bind fun Hl=>(bif room ((cC.map aJ.c).length+([[D.str Hl.rel,D.sl (Hl.args.map tx)]]).length) 40 then(eb aF ay k1 fY (i1+1) eO (cC++([Hl])))else none))))else((gH bu).bind fun nw=>(bif room ((cC.map aJ.c).length+([[D.str nw.rel,D.sl (nw.args.map tx)]]).length) 40 then(eb aF ay k1 fY (i1+1) eO (cC++([nw])))else none)))
def lz(aF:aU)(ay:aJ):Option aU:=(eb aF ay (fun(vA:Bool) (n7:aU)=>(bif !(vA)then((gH ay).bind fun DG=>(bif room ((n7.map aJ.c).length+([[D.str DG.rel,D.sl (DG.args.map tx)]]).length) 40 then(some (n7++([DG])))else none))else(some n7))) aF 0 false ([]:aU))
def mN(aF:aU)(ay:aJ)(eO:Bool)(W1:List aG)(jc:Int):St:=⟨[(0,D.sl (aF.map aJ.c)),(3,D.ptr 0 0),(5,D.acc 1),(6,D.bool eO),(7,D.int .i64 jc)],[Ob.box (aJ.c ay),Ob.row .uq 47 2 W1]⟩
theorem Ay(hΓ:Γ.nt=54){aF:aU}{ay:aJ}{r:aU}{k1:Bool->aU->Option aU}(ju:∀(vA:Bool) (n7:aU),k1 vA n7=some r->Ax Γ N f96 (.q [[some (47,2)]] (D.fr 47 2 (r.map aJ.c))) [1,1,1,1] ⟨[(3,D.ptr 0 0),(5,D.acc 1),(6,D.bool vA)],[Ob.box (aJ.c ay),Ob.row .uq 47 2 (n7.map aJ.c)]⟩)(hm1:aF.length<=maxLen):∀(rest:aU) (i1:Nat) (eO:Bool) (cC:aU),aF.drop i1=rest->eb aF ay k1 rest i1 eO cC=some r->Ar Γ N f96 (.q [[some (47,2)]] (D.fr 47 2 (r.map aJ.c))) [1,1,1,0,1,0] (rest.length+1) (mN aF ay eO (cC.map aJ.c) (i1:Int)):=by
 intro rest
 induction rest with
 |nil=>
  intro i1 eO cC bL h;rw[eb]at h;refine aa fun N1 hN1 eT=>?_
  exact((aW.ge aJ.c bL).a [.hl 0 [3,5,6] [0,1]]).ex hΓ hN1 (ju eO cC h)
 |cons bu fY ih1=>
  intro i1 eO cC bL h;rw[eb]at h;refine aa fun N1 hN1 eT=>?_
  have lY:=((aW.lt aJ.c bL).a [.n 8])
  obtain⟨h128,h⟩|⟨h128,h⟩:=aL h
  ·obtain⟨U5,h130,h⟩:=aC h;have qy:=(((((lY.r 3 h128).l (cI aJ.c 2 (dc bL) rfl)).r 3 h128).g (oB h130)).r 2 h128)
   obtain⟨h131,h⟩|⟨h131,h⟩:=aL h
   ·obtain⟨U6,h133,h⟩:=aC h;have uE:=((((qy.b h131).a [.n 5]).l (cI aJ.c 2 (dc bL) rfl)).g (oB h133))
    obtain⟨h134,h⟩|⟨h134,h⟩:=aL h
    ·obtain⟨Et,h136,h⟩:=aC h;obtain⟨h137,h⟩:=bY h;obtain⟨Hi,h139,h⟩:=aC h;obtain⟨h140,h⟩:=bY h;exact(((((((uE.b h134).g (j6 h136)).w (cE h137)).l (cI aJ.c 2 (dc bL) rfl)).g (j6 h139)).w (cE h140)).a [.cn [0,3,5,6,7] [0,7]]).cs hΓ eT (mN aF ay true (((cC.map aJ.c)++([[D.str Et.rel,D.sl (Et.args.map tx)]]))++([[D.str Hi.rel,D.sl (Hi.args.map tx)]])) (IntKind.i64.wrap ((i1:Int)+1))) (by first| (simp only[iS bL hm1,mA]<;>rfl)| (simp only[iS bL hm1,mA,aJ.c,aj.c,aT.c,Action.c,aZ.c,bA.c,bE.c,jH.c,Node.c,dh.c,jr.c]<;>rfl)) (ih1 (i1+1) true ((cC++([Et]))++([Hi])) (dn bL) h)
    ·obtain⟨Hj,h142,h⟩:=aC h;obtain⟨h143,h⟩:=bY h;exact(((((uE.b h134).l (cI aJ.c 2 (dc bL) rfl)).g (j6 h142)).w (cE h143)).a [.cn [0,3,5,6,7] [0,4]]).cs hΓ eT (mN aF ay true ((cC.map aJ.c)++([[D.str Hj.rel,D.sl (Hj.args.map tx)]])) (IntKind.i64.wrap ((i1:Int)+1))) (by first| (simp only[iS bL hm1,mA]<;>rfl)| (simp only[iS bL hm1,mA,aJ.c,aj.c,aT.c,Action.c,aZ.c,bA.c,bE.c,jH.c,Node.c,dh.c,jr.c]<;>rfl)) (ih1 (i1+1) true (cC++([Hj])) (dn bL) h)
   ·obtain⟨Hl,h145,h⟩:=aC h;obtain⟨h146,h⟩:=bY h;exact(((((qy.b h131).l (cI aJ.c 2 (dc bL) rfl)).g (j6 h145)).w (cE h146)).a [.cn [0,3,5,6,7] [0,4]]).cs hΓ eT (mN aF ay eO ((cC.map aJ.c)++([[D.str Hl.rel,D.sl (Hl.args.map tx)]])) (IntKind.i64.wrap ((i1:Int)+1))) (by first| (simp only[iS bL hm1,mA]<;>rfl)| (simp only[iS bL hm1,mA,aJ.c,aj.c,aT.c,Action.c,aZ.c,bA.c,bE.c,jH.c,Node.c,dh.c,jr.c]<;>rfl)) (ih1 (i1+1) eO (cC++([Hl])) (dn bL) h)
  ·obtain⟨nw,h148,h⟩:=aC h;obtain⟨h149,h⟩:=bY h;exact((((((lY.r 8 h128).F 1).l (cI aJ.c 2 (dc bL) rfl)).g (j6 h148)).w (cE h149)).a [.cn [0,3,5,6,7] [0,4]]).cs hΓ eT (mN aF ay eO ((cC.map aJ.c)++([[D.str nw.rel,D.sl (nw.args.map tx)]])) (IntKind.i64.wrap ((i1:Int)+1))) (by first| (simp only[iS bL hm1,mA]<;>rfl)| (simp only[iS bL hm1,mA,aJ.c,aj.c,aT.c,Action.c,aZ.c,bA.c,bE.c,jH.c,Node.c,dh.c,jr.c]<;>rfl)) (ih1 (i1+1) eO (cC++([nw])) (dn bL) h)
theorem mq{aF:aU}{ay:aJ}{r:aU}(h:lz aF ay=some r):Good prog 96 [D.sl (aF.map aJ.c),D.agg (aJ.c ay)] (D.fr 47 2 (r.map aJ.c)):=by
 refine gd func96 [[some (47,2)]] 54 fun hr Γ hΓ=>?_
 rw[lz]at h;refine(aW.a [.cn [0,3,5,6,7] [0,1]]).lp hΓ (Ay hΓ (fun vA n7 h=>?_) (by have:=(n9.sl (hr _ (aE (i:=0) rfl))).1;simpa using this) aF 0 false ([]:aU) rfl h);obtain⟨h150,h⟩|⟨h150,h⟩:=aL h
 ·obtain⟨DG,h152,h⟩:=aC h;obtain⟨h153,h⟩:=bY h;cases h;exact(((aW.b h150).g (j6 h152)).w (cE h153)).rts hΓ (D.fr 47 2 ((n7.map aJ.c)++([[D.str DG.rel,D.sl (DG.args.map tx)]]))) (by first|rfl| (simp only[mA]<;>rfl)| (simp only[pX,mA]<;>rfl))
 ·have h:=aM h;subst h;exact(aW.b h150).ret hΓ
def iX(k1:bw->Int->Int->aU->Option (bt×aU)):Nat->Int->bw->Int->Int->aU->Option (bt×aU)
 |0,_,_,_,_,_=>none
 |n1+1,eO,eY,dG,dH,cC=>(bif decide ((eO:Int)>0)then((lC (⟨eY,dG,dH⟩:bt)).bind fun Eu=>((lz cC Eu.2).bind fun Js=>(iX k1 n1 (IntKind.i64.wrap (eO-1)) Eu.1.b Eu.1.i Eu.1.h Js)))else(k1 eY dG dH cC))
def kq(aF:bt)(ay:Int):Option (bt×aU):=((cH aF (IntKind.i64.wrap (ay+1))).bind fun y1=>(iX (fun(jk:bw) (jl:Int) (jm:Int) (n7:aU)=>(some ((⟨jk,jl,jm⟩:bt),n7))) fuel y1.2 y1.1.b y1.1.i y1.1.h ([]:aU)))
def Bd(lX:Value)(eO:Int)(dG:Int)(dH:Int)(W1:List aG)(W4:List aG):St:=⟨[(0,D.ptr 0 0),(5,D.acc 1),(6,D.int .i64 eO)],[Ob.AU [D.sl W1,D.int .i64 dG,D.int .i64 dH] lX,Ob.row .uq 47 2 W4]⟩
theorem Az(hΓ:Γ.nt=21){lX:Value}{r:bt×aU}{k1:bw->Int->Int->aU->Option (bt×aU)}(ju:∀(jk:bw) (jl:Int) (jm:Int) (n7:aU),k1 jk jl jm n7=some r->Ax Γ N f60 (.p [[none,none,none],[some (47,2)]] lX (bt.c r.1) (D.fr 47 2 (r.2.map aJ.c))) [1,1,1] ⟨[(5,D.acc 1)],[Ob.AU [D.sl (jk.map yx),D.int .i64 jl,D.int .i64 jm] lX,Ob.row .uq 47 2 (n7.map aJ.c)]⟩):∀(n1:Nat) (eO:Int) (eY:bw) (dG:Int) (dH:Int) (cC:aU),iX k1 n1 eO eY dG dH cC=some r->Ar Γ N f60 (.p [[none,none,none],[some (47,2)]] lX (bt.c r.1) (D.fr 47 2 (r.2.map aJ.c))) [1,1,0,1,0] n1 (Bd lX eO dG dH (eY.map yx) (cC.map aJ.c)):=by
 intro n
 induction n with
 |zero=>intro eO eY dG dH cC h;simp[iX]at h
 |succ n1 ih1=>
  intro eO eY dG dH cC h;rw[iX]at h;refine aa fun N1 hN1 eT=>?_
  obtain⟨h18,h⟩|⟨h18,h⟩:=aL h
  ·obtain⟨Eu,h20,h⟩:=aC h;obtain⟨Js,h22,h⟩:=aC h;exact(((((aW.b h18).a [.gp [[none,none,none]] (bt.c Eu.1) (D.agg [D.str Eu.2.rel,D.fr 9 1 (Eu.2.args.map tx)])]).w (show iR prog 97 (bt.c (⟨eY,dG,dH⟩:bt)) (bt.c Eu.1) [] (D.agg [D.str Eu.2.rel,D.fr 9 1 (Eu.2.args.map tx)])from by simpa only[ar,b8,bV,bD,bG]using sC h20)).g (mq h22)).a [.cn [0,5,6] [0,3]]).cf hΓ eT (ih1 (IntKind.i64.wrap (eO-1)) Eu.1.b Eu.1.i Eu.1.h Js h)
  ·exact((aW.b h18).a [.hl 0 [5] [0,1]]).ex hΓ hN1 (ju eY dG dH cC h)
theorem pF{aF:bt}{ay:Int}{r:bt×aU}(h:kq aF ay=some r):iR prog 60 (bt.c aF) (bt.c r.1) [D.int .i64 ay] (D.fr 47 2 (r.2.map aJ.c)):=by
 refine CH func60 [[none,none,none],[some (47,2)]] 21 [D.sl (aF.b.map yx),D.int .i64 aF.i,D.int .i64 aF.h] [D.int .i64 ay] [] fun hr lX Γ hΓ=>?_
 rw[kq]at h;obtain⟨y1,h2,h⟩:=aC h;refine((aW.hp [[none,none,none],[none]] (br h2)).a [.cn [0,5,6] [0,1]]).lp hΓ (Az hΓ (fun jk jl jm n7 h=>?_) fuel y1.2 y1.1.b y1.1.i y1.1.h ([]:aU) h);cases h;exact aW.ret hΓ
def pE(aF:bt):Option (bt×aJ):=((lC aF).bind fun y1=>((cH y1.1 10).bind fun y3=>(bif (y3.2:Int)==0 then((gq y3.1).bind fun y6=>(some (y6.1,(⟨y6.2,y1.2.args⟩:aJ))))else(bif (y3.2:Int)==1 then((gq y3.1).bind fun AJ=>(bif room ((y1.2.args.map tx).length+([[D.str AJ.2]]).length) 16 then(some (AJ.1,(⟨y1.2.rel,y1.2.args++([AJ.2])⟩:aJ)))else none))else(bif (y3.2:Int)==2 then((cH y3.1 5).bind fun yL=>(bif decide (0<=(yL.2:Int))&&decide (yL.2.toNat<=(([[97],[98],[99],[97]]:aD).map tx).length)then(some (yL.1,(⟨y1.2.rel,([[97],[98],[99],[97]]:aD).take yL.2.toNat⟩:aJ)))else none))else(some (y3.1,y1.2)))))))
theorem zV{aF:bt}{r:bt×aJ}(h:pE aF=some r):iR prog 95 (bt.c aF) (bt.c r.1) [] (D.agg [D.str r.2.rel,D.fr 9 1 (r.2.args.map tx)]):=by
 refine CH func95 [[none,none,none],[none,some (9,1)]] 30 [D.sl (aF.b.map yx),D.int .i64 aF.i,D.int .i64 aF.h] [] [] fun hr lX Γ hΓ=>?_
 rw[pE]at h;obtain⟨y1,h2,h⟩:=aC h;obtain⟨y3,h4,h⟩:=aC h;have lH:=((aW.hp [[none,none,none]] (sC h2)).hp [[none,none,none],[none]] (br h4))
 obtain⟨h5,h⟩|⟨h5,h⟩:=aL h
 ·obtain⟨y6,h7,h⟩:=aC h;cases h;exact((lH.b h5).hp [[none,none,none]] (j5 h7)).ret hΓ
 ·obtain⟨h8,h⟩|⟨h8,h⟩:=aL h
  ·obtain⟨AJ,h12,h⟩:=aC h;obtain⟨h13,h⟩:=bY h;cases h;exact(((((lH.b h5).b h8).a [.n2 [0,1,2,3,4,5,6,7] [0,1,2,3,4,5,6,7] 3 5 [0,1] [0]]).hp [[none,none,none]] (j5 h12)).w (cE h13)).rts hΓ (D.gj [D.agg [D.str y1.2.rel,D.fr 9 1 ((y1.2.args.map tx)++([[D.str AJ.2]]))],D.agg [D.sl (AJ.1.b.map yx),D.int .i64 AJ.1.i,D.int .i64 AJ.1.h],D.val lX]) (by first|rfl| (simp only[mA]<;>rfl)| (simp only[pX,mA]<;>rfl))
  ·have kN:=((lH.b h5).b h8)
   obtain⟨h14,h⟩|⟨h14,h⟩:=aL h
   ·obtain⟨yL,h16,h⟩:=aC h;obtain⟨h17,h⟩:=bY h;cases h;exact((((kN.b h14).hp [[none,none,none],[none]] (br h16)).w (Ga h17)).a [.cut 0 yL.2.toNat]).rts hΓ (D.gj [D.agg [D.str y1.2.rel,D.fr 9 1 ((([[97],[98],[99],[97]]:aD).map tx).take yL.2.toNat)],D.agg [D.sl (yL.1.b.map yx),D.int .i64 yL.1.i,D.int .i64 yL.1.h],D.val lX]) (by first|rfl| (simp only[mA]<;>rfl)| (simp only[pX,mA]<;>rfl))
   ·cases h;exact(kN.b h14).ret hΓ
def gh(y3:bt×Int)(k1:aU->Option (bt×aU)):Nat->Int->aU->Option (bt×aU)
 |0,_,_=>none
 |n1+1,jS,cC=>(bif decide ((jS:Int)<25)then((iz jS).bind fun Cy=>((lz cC (⟨[110],[Cy]⟩:aJ)).bind fun rN=>(gh y3 k1 n1 (IntKind.i64.wrap (jS+1)) rN)))else(k1 cC))
def lD(aF:bt):Option (bt×aU):=((kq aF 6).bind fun y1=>((cH y1.1 8).bind fun y3=>(bif (y3.2:Int)==0 then((pE y3.1).bind fun y6=>(bif room ((y1.2.map aJ.c).length+([[D.str y6.2.rel,D.sl (y6.2.args.map tx)]]).length) 40 then(some (y6.1,y1.2++([y6.2])))else none))else(bif (y3.2:Int)==1 then(gh y3 (fun(n7:aU)=>((ez y3.1 ([23,24,25]:bw)).bind fun yw=>(bif decide (0<=(yw.2:Int))&&decide (yw.2.toNat<=(n7.map aJ.c).length)then(some (yw.1,n7.take yw.2.toNat))else none))) fuel 0 y1.2)else(some (y3.1,y1.2))))))
def Aw(lX:Value)(y3:bt×Int)(jS:Int)(W1:List aG):St:=⟨[(0,D.ptr 0 0),(3,D.acc 1),(4,D.int .i64 jS)],[Ob.AU (bt.c y3.1) lX,Ob.row .uq 47 2 W1]⟩
theorem zX(hΓ:Γ.nt=34){lX:Value}{y3:bt×Int}{r:bt×aU}{k1:aU->Option (bt×aU)}(ju:∀(n7:aU),k1 n7=some r->Ax Γ N f59 (.p [[none,none,none],[some (47,2)]] lX (bt.c r.1) (D.fr 47 2 (r.2.map aJ.c))) [1,1,0,1,0,1,1,1,0,1] ⟨[(0,D.ptr 0 0),(3,D.acc 1)],[Ob.AU (bt.c y3.1) lX,Ob.row .uq 47 2 (n7.map aJ.c)]⟩):∀(n1:Nat) (jS:Int) (cC:aU),gh y3 k1 n1 jS cC=some r->Ar Γ N f59 (.p [[none,none,none],[some (47,2)]] lX (bt.c r.1) (D.fr 47 2 (r.2.map aJ.c))) [1,1,0,1,0,1,1,1,0,0,1,0] n1 (Aw lX y3 jS (cC.map aJ.c)):=by
 intro n
 induction n with
 |zero=>intro jS cC h;simp[gh]at h
 |succ n1 ih1=>
  intro jS cC h;rw[gh]at h;refine aa fun N1 hN1 eT=>?_
  obtain⟨h30,h⟩|⟨h30,h⟩:=aL h
  ·obtain⟨Cy,h32,h⟩:=aC h;obtain⟨rN,h34,h⟩:=aC h;exact(((((aW.b h30).g (me h32)).a [.d (D.fr 47 2 (rN.map aJ.c))]).w (show Good prog 96 [D.sl (cC.map aJ.c),D.agg [D.str ([110]),D.sl ([[D.str Cy]])]] (D.fr 47 2 (rN.map aJ.c))from by first| (simpa only[ar,b8,bV,bD,bG]using mq h34)|exact mq h34| (have t:=mq h34;simp only[ar,bD,bG,aJ.c]at t;exact t))).a [.cn [0,3,4] [0,3]]).cf hΓ eT (ih1 (IntKind.i64.wrap (jS+1)) rN h)
  ·exact((aW.b h30).a [.hl 2 [0,3] [0,1]]).ex hΓ hN1 (ju cC h)
theorem sD{aF:bt}{r:bt×aU}(h:lD aF=some r):iR prog 59 (bt.c aF) (bt.c r.1) [] (D.fr 47 2 (r.2.map aJ.c)):=by
 refine CH func59 [[none,none,none],[some (47,2)]] 34 [D.sl (aF.b.map yx),D.int .i64 aF.i,D.int .i64 aF.h] [] [] fun hr lX Γ hΓ=>?_
 rw[lD]at h;obtain⟨y1,h2,h⟩:=aC h;obtain⟨y3,h4,h⟩:=aC h;have lH:=((aW.hp [[none,none,none],[none]] (pF h2)).hp [[none,none,none],[none]] (br h4))
 obtain⟨h5,h⟩|⟨h5,h⟩:=aL h
 ·obtain⟨y6,h7,h⟩:=aC h;obtain⟨h8,h⟩:=bY h;cases h;exact(((lH.b h5).hp [[none,none,none]] (zV h7)).w (cE h8)).rts hΓ (D.gj [D.fr 47 2 ((y1.2.map aJ.c)++([[D.str y6.2.rel,D.sl (y6.2.args.map tx)]])),D.agg [D.sl (y6.1.b.map yx),D.int .i64 y6.1.i,D.int .i64 y6.1.h],D.val lX]) (by first|rfl| (simp only[mA]<;>rfl)| (simp only[pX,mA]<;>rfl))
 ·obtain⟨h9,h⟩|⟨h9,h⟩:=aL h
  ·refine(((lH.b h5).b h9).a [.cn [0,3,4] [0,1]]).lp hΓ (zX hΓ (fun n7 h=>?_) fuel 0 y1.2 h);obtain⟨yw,h36,h⟩:=aC h;obtain⟨h37,h⟩:=bY h;cases h;exact(((aW.hp [[none,none,none],[some (3,1)]] (hO h36)).w (Ga h37)).a [.cut 0 yw.2.toNat]).rts hΓ (D.gj [D.fr 47 2 ((n7.map aJ.c).take yw.2.toNat),D.agg [D.sl (yw.1.b.map yx),D.int .i64 yw.1.i,D.int .i64 yw.1.h],D.val lX]) (by first|rfl| (simp only[mA]<;>rfl)| (simp only[pX,mA]<;>rfl))
  ·cases h;exact((lH.b h5).b h9).ret hΓ
def oD(aF:bt):Option (bt×(aZ×aU)):=((mW aF).bind fun y1=>((gG y1.1 8).bind fun y3=>(bif y3.2 then((pH y3.1).bind fun y6=>((gG y6.1 8).bind fun y8=>(bif y8.2 then((lD y8.1).bind fun oJ=>(some (oJ.1,(y6.2,oJ.2))))else((kq y8.1 9).bind fun N7=>(some (N7.1,(y6.2,N7.2)))))))else((gG y3.1 8).bind fun Eu=>(bif Eu.2 then((lD Eu.1).bind fun Dq=>(some (Dq.1,(y1.2,Dq.2))))else((kq Eu.1 9).bind fun uN=>(some (uN.1,(y1.2,uN.2)))))))))
theorem ye{aF:bt}{r:bt×(aZ×aU)}(h:oD aF=some r):iR prog 22 (bt.c aF) (bt.c r.1) [] (D.gj [D.agg [D.str r.2.1.name,D.int .i64 r.2.1.prio,D.sl (r.2.1.conds.map aT.c),D.sl (r.2.1.cJ.map Action.c)],D.fr 47 2 (r.2.2.map aJ.c)]):=by
 refine CH func22 [[none,none,none],[none,none,none,none],[some (47,2)]] 19 [D.sl (aF.b.map yx),D.int .i64 aF.i,D.int .i64 aF.h] [] [] fun hr lX Γ hΓ=>?_
 rw[oD]at h;obtain⟨y1,h2,h⟩:=aC h;obtain⟨y3,h4,h⟩:=aC h;have lH:=((aW.hp [[none,none,none]] (sG h2)).hp [[none,none,none],[none]] (fI h4))
 obtain⟨h5,h⟩|⟨h5,h⟩:=aL h
 ·obtain⟨y6,h7,h⟩:=aC h;obtain⟨y8,h9,h⟩:=aC h;have kN:=(((lH.b h5).hp [[none,none,none]] (za h7)).hp [[none,none,none],[none]] (fI h9))
  obtain⟨h10,h⟩|⟨h10,h⟩:=aL h
  ·obtain⟨oJ,h14,h⟩:=aC h;cases h;exact(((kN.b h10).a [.n2 [0,1,2,3,4] [0,1,2,3,4] 2 3 [0] [0]]).hp [[none,none,none]] (sD h14)).ret hΓ
  ·obtain⟨N7,h18,h⟩:=aC h;cases h;exact(((kN.b h10).a [.n2 [0,1,2,3,4] [0,1,2,3,4] 2 3 [0] [0]]).hp [[none,none,none],[none]] (pF h18)).ret hΓ
 ·obtain⟨Eu,h20,h⟩:=aC h;have lI:=((lH.b h5).hp [[none,none,none],[none]] (fI h20))
  obtain⟨h21,h⟩|⟨h21,h⟩:=aL h
  ·obtain⟨Dq,h25,h⟩:=aC h;cases h;exact((((lI.b h21).a [.n2 [0,1,2,3,4] [0,1,2,3,4] 2 3 [0] [0]]).hp [[none,none,none]] (sD h25)).a [.sk 2,.sk 3]).ret hΓ
  ·obtain⟨uN,h29,h⟩:=aC h;cases h;exact((((lI.b h21).a [.n2 [0,1,2,3,4] [0,1,2,3,4] 2 3 [0] [0]]).hp [[none,none,none],[none]] (pF h29)).a [.sk 2,.sk 3]).ret hΓ
def jK(aF:bw):Option (aZ×aU):=((p9 aF).bind fun y1=>((oD y1).bind fun y3=>(some (y3.2.1,y3.2.2))))
theorem sY{aF:bw}{r:aZ×aU}(h:jK aF=some r):Good prog 10 [D.sl (aF.map yx)] (D.gj [D.agg [D.str r.1.name,D.int .i64 r.1.prio,D.sl (r.1.conds.map aT.c),D.sl (r.1.cJ.map Action.c)],D.fr 47 2 (r.2.map aJ.c)]):=by
 refine gd func10 [[none,none,none,none],[some (47,2)]] 11 fun hr Γ hΓ=>?_
 rw[jK]at h;obtain⟨y1,h2,h⟩:=aC h;obtain⟨y3,h4,h⟩:=aC h;cases h;exact((aW.hn (zU h2)).hp [[none,none,none]] (ye h4)).ret hΓ
def k6(aF:aJ)(k1:Option Bool):aD->Nat->Option Bool
 | [],i1=>(k1)
 |bu::fY,i1=>((dR bu).bind fun rM=>(bif !(rM)then(some false)else(k6 aF k1 fY (i1+1))))
def l7(aF:aJ):Option Bool:=((l8 aF.rel).bind fun y1=>(bif !(y1)then(some false)else(bif decide ((((aF.args.map tx).length:Int):Int)>3)then(some false)else(k6 aF (some true) aF.args 0))))
def Af(aF:aJ)(jc:Int):St:=⟨[(16,D.sl (aF.args.map tx)),(17,D.int .i64 ((aF.args.map tx).length:Int)),(18,D.int .i64 jc)],[]⟩
theorem zH(hΓ:Γ.nt=26){aF:aJ}{r:Bool}{k1:Option Bool}(ju:k1=some r->Ax Γ N f66 (.q [[none]] (D.bool r)) [1,1,1] ⟨[],[]⟩)(hm1:aF.args.length<=maxLen):∀(rest:aD) (i1:Nat),aF.args.drop i1=rest->k6 aF k1 rest i1=some r->Ar Γ N f66 (.q [[none]] (D.bool r)) [1,1,0,1,0] (rest.length+1) (Af aF (i1:Int)):=by
 intro rest
 induction rest with
 |nil=>
  intro i1 bL h;rw[k6]at h;refine aa fun N1 hN1 eT=>?_
  exact((aW.ge tx bL).a [.hl 0 [] []]).ex hΓ hN1 (ju h)
 |cons bu fY ih1=>
  intro i1 bL h;rw[k6]at h;refine aa fun N1 hN1 eT=>?_
  obtain⟨rM,h26,h⟩:=aC h;have kN:=(((aW.lt tx bL).l (cI tx 1 (dc bL) rfl)).g (dD h26))
  obtain⟨h27,h⟩|⟨h27,h⟩:=aL h
  ·have h:=aM h;subst h;exact(kN.b h27).ret hΓ
  ·exact((kN.b h27).a [.cn [16,17,18] []]).ct hΓ eT (iS bL hm1) (ih1 (i1+1) (dn bL) h)
theorem rq{aF:aJ}{r:Bool}(h:l7 aF=some r):Good prog 66 [D.agg (aJ.c aF)] (D.bool r):=by
 refine gd func66 [[none]] 26 fun hr Γ hΓ=>?_
 rw[l7]at h;obtain⟨y1,h2,h⟩:=aC h;obtain⟨h3,h⟩|⟨h3,h⟩:=aL h
 ·have h:=aM h;subst h;exact(((aW.g (iq h2)).r 5 h3).T 1).ret hΓ
 ·have lI:=((aW.g (iq h2)).r 5 h3)
  obtain⟨h4,h⟩|⟨h4,h⟩:=aL h
  ·have h:=aM h;subst h;exact(lI.b h4).ret hΓ
  ·refine((lI.b h4).a [.cn [16,17,18] []]).lp hΓ (zH hΓ (fun h=>?_) (by have:=(n9.sl (n9.agg (hr _ (aE (i:=0) rfl)) (.sl (aF.args.map tx)) (by simp))).1;simpa using this) aF.args 0 rfl h);have h:=aM h;subst h;exact aW.ret hΓ
def iU(aF:Bytes):Option (Int×Bool):=(bif decide (((aF.length:Int):Int)<1)then(some (0,false))else(bif decide (((aF.length:Int):Int)>4)then(some (0,false))else((sJ aF).bind fun y3=>(bif y3.2 then(some (0,false))else(bif decide ((y3.1:Int)<0)then(some (0,false))else(bif decide ((y3.1:Int)>9999)then(some (0,false))else((ij y3.1).bind fun y8=>(bif !((y8:Bytes)==aF)then(some (0,false))else(some (y3.1,true))))))))))
theorem kf{aF:Bytes}{r:Int×Bool}(h:iU aF=some r):Good prog 124 [D.str aF] (D.gj [D.int .i64 r.1,D.bool r.2]):=by
 refine gd func124 [[none],[none]] 36 fun hr Γ hΓ=>?_
 rw[iU]at h;obtain⟨h1,h⟩|⟨h1,h⟩:=aL h
 ·cases h;exact((aW.r 4 h1).T 1).ret hΓ
 ·have lH:=(aW.r 4 h1)
  obtain⟨h2,h⟩|⟨h2,h⟩:=aL h
  ·cases h;exact(lH.b h2).ret hΓ
  ·obtain⟨y3,h4,h⟩:=aC h;have kN:=((lH.b h2).g (xq h4))
   obtain⟨h5,h⟩|⟨h5,h⟩:=aL h
   ·cases h;exact((kN.r 3 h5).T 9).ret hΓ
   ·have lI:=(kN.r 3 h5)
    obtain⟨h6,h⟩|⟨h6,h⟩:=aL h
    ·cases h;exact((lI.r 3 h6).T 6).ret hΓ
    ·have lY:=(lI.r 3 h6)
     obtain⟨h7,h⟩|⟨h7,h⟩:=aL h
     ·cases h;exact((lY.r 5 h7).T 1).ret hΓ
     ·obtain⟨y8,h9,h⟩:=aC h;have qy:=(((lY.r 2 h7).g (vP h9)).r 3 h7)
      obtain⟨h10,h⟩|⟨h10,h⟩:=aL h
      ·cases h;exact(qy.b h10).ret hΓ
      ·cases h;exact(qy.b h10).ret hΓ
def iw(aF:Int)(ay:Int):Option Int:=(bif decide ((aF:Int)<ay)then(some (-1))else(bif decide ((aF:Int)>ay)then(some 1)else(some 0)))
theorem oW{aF:Int}{ay:Int}{r:Int}(h:iw aF ay=some r):Good prog 100 [D.int .i64 aF,D.int .i64 ay] (D.int .i64 r):=by
 refine gd func100 [[none]] 13 fun hr Γ hΓ=>?_
 rw[iw]at h;obtain⟨h1,h⟩|⟨h1,h⟩:=aL h
 ·cases h;exact(aW.b h1).ret hΓ
 ·obtain⟨h2,h⟩|⟨h2,h⟩:=aL h
  ·have h:=aM h;subst h;exact((aW.b h1).b h2).ret hΓ
  ·have h:=aM h;subst h;exact((aW.b h1).b h2).ret hΓ
def iG(aF:Bytes)(ay:Bytes):Option Int:=((iU aF).bind fun y1=>((iU ay).bind fun y3=>(bif y1.2 then(bif y3.2 then((iw y1.1 y3.1).bind fun y7=>(some y7))else(some (-1)))else(bif y3.2 then(some 1)else((kx aF ay).bind fun Cs=>(some Cs))))))
theorem tK{aF:Bytes}{ay:Bytes}{r:Int}(h:iG aF ay=some r):Good prog 99 [D.str aF,D.str ay] (D.int .i64 r):=by
 refine gd func99 [[none]] 34 fun hr Γ hΓ=>?_
 rw[iG]at h;obtain⟨y1,h2,h⟩:=aC h;obtain⟨y3,h4,h⟩:=aC h;have lH:=((aW.g (kf h2)).g (kf h4))
 obtain⟨h5,h⟩|⟨h5,h⟩:=aL h
 ·have kN:=(lH.r 2 h5)
  obtain⟨h6,h⟩|⟨h6,h⟩:=aL h
  ·obtain⟨y7,h8,h⟩:=aC h;have h:=aM h;subst h;exact((kN.b h6).g (oW h8)).ret hΓ
  ·cases h;exact((kN.b h6).b h5).ret hΓ
 ·have lI:=(((lH.r 2 h5).F 1).b h5)
  obtain⟨h9,h⟩|⟨h9,h⟩:=aL h
  ·have h:=aM h;subst h;exact(lI.b h9).ret hΓ
  ·obtain⟨Cs,h11,h⟩:=aC h;have h:=aM h;subst h;exact((lI.b h9).g (mB h11)).ret hΓ
def fQ(aF:aJ)(ay:aJ)(k1:Option Int):aD->Nat->Option Int
 | [],i1=>(k1)
 |bu::fY,i1=>(bif decide (((i1:Int):Int)<((ay.args.map tx).length:Int))then((lG ay.args (i1:Int)).bind fun x37=>((iG bu x37).bind fun AP=>(bif (AP:Int) != 0 then(some AP)else(fQ aF ay k1 fY (i1+1)))))else(k1))
def iH(aF:aJ)(ay:aJ):Option Int:=((kx aF.rel ay.rel).bind fun y1=>(bif (y1:Int) != 0 then(some y1)else(fQ aF ay ((iw ((aF.args.map tx).length:Int) ((ay.args.map tx).length:Int)).bind fun Q3=>(some Q3)) aF.args 0)))
def ue(aF:aJ)(ay:aJ)(jc:Int):St:=⟨[(2,D.ptr 0 0),(3,D.ptr 1 0),(6,D.int .i64 jc)],[Ob.box (aJ.c aF),Ob.box (aJ.c ay)]⟩
theorem tg(hΓ:Γ.nt=51){aF:aJ}{ay:aJ}{r:Int}{k1:Option Int}(ju:k1=some r->Ax Γ N f67 (.q [[none]] (D.int .i64 r)) [1,1,1] ⟨[(2,D.ptr 0 0),(3,D.ptr 1 0)],[Ob.box (aJ.c aF),Ob.box (aJ.c ay)]⟩)(hm1:aF.args.length<=maxLen):∀(rest:aD) (i1:Nat),aF.args.drop i1=rest->fQ aF ay k1 rest i1=some r->Ar Γ N f67 (.q [[none]] (D.int .i64 r)) [1,1,0,1,0] (rest.length+1) (ue aF ay (i1:Int)):=by
 intro rest
 induction rest with
 |nil=>
  intro i1 bL h;rw[fQ]at h;refine aa fun N1 hN1 eT=>?_
  exact((((((((aW.ge tx bL).ge tx bL).ge tx bL).ge tx bL).ge tx bL).ge tx bL).F 1).a [.hl 0 [2,3] [0,1]]).ex hΓ hN1 (ju h)
 |cons bu fY ih1=>
  intro i1 bL h;rw[fQ]at h;refine aa fun N1 hN1 eT=>?_
  have lI:=((((((aW.lt tx bL).lt tx bL).lt tx bL).lt tx bL).lt tx bL).lt tx bL)
  obtain⟨h36,h⟩|⟨h36,h⟩:=aL h
  ·obtain⟨x37,h38,h⟩:=aC h;obtain⟨AP,h40,h⟩:=aC h;have lY:=(((((lI.b h36).a [.n 10]).l (cI tx 1 (dc bL) rfl)).l (jI tx 1 h38 rfl)).g (tK h40))
   obtain⟨h41,h⟩|⟨h41,h⟩:=aL h
   ·have h:=aM h;subst h;exact(lY.b h41).ret hΓ
   ·exact((lY.b h41).a [.cn [2,3,6] [0,1]]).ct hΓ eT (iS bL hm1) (ih1 (i1+1) (dn bL) h)
  ·exact((lI.b h36).a [.hl 0 [2,3] [0,1]]).ex hΓ hN1 (ju h)
theorem tL{aF:aJ}{ay:aJ}{r:Int}(h:iH aF ay=some r):Good prog 67 [D.agg (aJ.c aF),D.agg (aJ.c ay)] (D.int .i64 r):=by
 refine gd func67 [[none]] 51 fun hr Γ hΓ=>?_
 rw[iH]at h;obtain⟨y1,h2,h⟩:=aC h;obtain⟨h3,h⟩|⟨h3,h⟩:=aL h
 ·have h:=aM h;subst h;exact((aW.g (mB h2)).b h3).ret hΓ
 ·refine(((aW.g (mB h2)).b h3).a [.cn [2,3,6] [0,1]]).lp hΓ (tg hΓ (fun h=>?_) (by have:=(n9.sl (n9.agg (hr _ (aE (i:=0) rfl)) (.sl (aF.args.map tx)) (by simp))).1;simpa using this) aF.args 0 rfl h);obtain⟨Q3,h43,h⟩:=aC h;have h:=aM h;subst h;exact(aW.g (oW h43)).ret hΓ
def fE(aF:aU)(k1:Option Bool):aU->Nat->Option Bool
 | [],i1=>(k1)
 |bu::fY,i1=>((l7 bu).bind fun XM=>(bif !(XM)then(some false)else(bif decide (((i1:Int):Int)>0)then((lG aF (IntKind.i64.wrap ((i1:Int)-1))).bind fun x50=>((iH x50 bu).bind fun XP=>(bif decide ((XP:Int)>=0)then(some false)else(fE aF k1 fY (i1+1)))))else(fE aF k1 fY (i1+1)))))
def mG(aF:aU):Option Bool:=(bif decide ((((aF.map aJ.c).length:Int):Int)>24)then(some false)else(fE aF (some true) aF 0))
def yO(aF:aU)(jc:Int):St:=⟨[(0,D.sl (aF.map aJ.c)),(8,D.sl (aF.map aJ.c)),(9,D.int .i64 ((aF.map aJ.c).length:Int)),(10,D.int .i64 jc)],[]⟩
theorem xM(hΓ:Γ.nt=33){aF:aU}{r:Bool}{k1:Option Bool}(ju:k1=some r->Ax Γ N f34 (.q [[none]] (D.bool r)) [1,1,1] ⟨[],[]⟩)(hm1:aF.length<=maxLen):∀(rest:aU) (i1:Nat),aF.drop i1=rest->fE aF k1 rest i1=some r->Ar Γ N f34 (.q [[none]] (D.bool r)) [1,1,0,1,0] (rest.length+1) (yO aF (i1:Int)):=by
 intro rest
 induction rest with
 |nil=>
  intro i1 bL h;rw[fE]at h;refine aa fun N1 hN1 eT=>?_
  exact((aW.ge aJ.c bL).a [.hl 0 [] []]).ex hΓ hN1 (ju h)
 |cons bu fY ih1=>
  intro i1 bL h;rw[fE]at h;refine aa fun N1 hN1 eT=>?_
  obtain⟨XM,h47,h⟩:=aC h;have lY:=((((aW.lt aJ.c bL).l (cI aJ.c 2 (dc bL) rfl)).a [.n 13]).g (rq h47))
  obtain⟨h48,h⟩|⟨h48,h⟩:=aL h
  ·have h:=aM h;subst h;exact((((lY.r 3 h48).a [bF,bF,bF,bF,bF,bF,bF,bF]).r 2 h48).T 1).ret hΓ
  ·have qy:=(lY.r 3 h48)
   obtain⟨h49,h⟩|⟨h49,h⟩:=aL h
   ·obtain⟨x50,h51,h⟩:=aC h;obtain⟨XP,h53,h⟩:=aC h;have uE:=((((((((qy.r 4 h49).l (jI aJ.c 2 h51 rfl)).r 3 h49).g (tL h53)).b h49).b h48).b h49).b h48)
    obtain⟨h54,h⟩|⟨h54,h⟩:=aL h
    ·have h:=aM h;subst h;exact(uE.b h54).ret hΓ
    ·exact((uE.b h54).a [.cn [0,8,9,10] []]).ct hΓ eT (iS bL hm1) (ih1 (i1+1) (dn bL) h)
   ·exact((((((qy.r 8 h49).b h48).b h49).b h48).F 1).a [.cn [0,8,9,10] []]).ct hΓ eT (iS bL hm1) (ih1 (i1+1) (dn bL) h)
theorem w6{aF:aU}{r:Bool}(h:mG aF=some r):Good prog 34 [D.sl (aF.map aJ.c)] (D.bool r):=by
 refine gd func34 [[none]] 33 fun hr Γ hΓ=>?_
 rw[mG]at h;obtain⟨h1,h⟩|⟨h1,h⟩:=aL h
 ·have h:=aM h;subst h;exact(aW.b h1).ret hΓ
 ·refine((aW.b h1).a [.cn [0,8,9,10] []]).lp hΓ (xM hΓ (fun h=>?_) (by have:=(n9.sl (hr _ (aE (i:=0) rfl))).1;simpa using this) aF 0 rfl h);have h:=aM h;subst h;exact aW.ret hΓ
def ed(aF:ah)(k1:Option Bool):ah->Nat->Option Bool
 | [],i1=>(k1)
 |bu::fY,i1=>((jB bu.var).bind fun XO=>(bif !(XO)then(some false)else((dR bu.value).bind fun UC=>(bif !(UC)then(some false)else(bif decide (((i1:Int):Int)>0)then((lG aF (IntKind.i64.wrap ((i1:Int)-1))).bind fun x57=>(bif !(Op.bytesLess x57.var bu.var)then(some false)else(ed aF k1 fY (i1+1))))else(ed aF k1 fY (i1+1)))))))
def gV(aF:ah):Option Bool:=(bif decide ((((aF.map aj.c).length:Int):Int)>6)then(some false)else(ed aF (some true) aF 0))
def xN(aF:ah)(jc:Int):St:=⟨[(0,D.sl (aF.map aj.c)),(8,D.sl (aF.map aj.c)),(9,D.int .i64 ((aF.map aj.c).length:Int)),(10,D.int .i64 jc)],[]⟩
theorem wA(hΓ:Γ.nt=41){aF:ah}{r:Bool}{k1:Option Bool}(ju:k1=some r->Ax Γ N f125 (.q [[none]] (D.bool r)) [1,1,1] ⟨[],[]⟩)(hm1:aF.length<=maxLen):∀(rest:ah) (i1:Nat),aF.drop i1=rest->ed aF k1 rest i1=some r->Ar Γ N f125 (.q [[none]] (D.bool r)) [1,1,0,1,0] (rest.length+1) (xN aF (i1:Int)):=by
 intro rest
 induction rest with
 |nil=>
  intro i1 bL h;rw[ed]at h;refine aa fun N1 hN1 eT=>?_
  exact((aW.ge aj.c bL).a [.hl 0 [] []]).ex hΓ hN1 (ju h)
 |cons bu fY ih1=>
  intro i1 bL h;rw[ed]at h;refine aa fun N1 hN1 eT=>?_
  obtain⟨XO,h51,h⟩:=aC h;have qy:=((((aW.lt aj.c bL).l (cI aj.c 2 (dc bL) rfl)).a [.n 22]).g (ke h51))
  obtain⟨h52,h⟩|⟨h52,h⟩:=aL h
  ·have h:=aM h;subst h;exact((((qy.r 5 h52).T 3).a [bF,bF,bF,bF,bF,bF,bF,bF,bF]).T 3).ret hΓ
  ·obtain⟨UC,h54,h⟩:=aC h;have uE:=(((qy.r 3 h52).g (dD h54)).r 2 h52)
   obtain⟨h55,h⟩|⟨h55,h⟩:=aL h
   ·have h:=aM h;subst h;exact((((uE.r 3 h55).a [bF,bF,bF,bF,bF,bF,bF,bF,bF]).r 2 h55).T 1).ret hΓ
   ·have yp:=(uE.r 3 h55)
    obtain⟨h56,h⟩|⟨h56,h⟩:=aL h
    ·obtain⟨x57,h58,h⟩:=aC h;have Ch:=((((((yp.r 4 h56).l (jI aj.c 2 h58 rfl)).r 5 h56).b h55).b h56).b h55)
     obtain⟨h59,h⟩|⟨h59,h⟩:=aL h
     ·have h:=aM h;subst h;exact(Ch.b h59).ret hΓ
     ·exact((Ch.b h59).a [.cn [0,8,9,10] []]).ct hΓ eT (iS bL hm1) (ih1 (i1+1) (dn bL) h)
    ·exact((((((yp.r 9 h56).b h55).b h56).b h55).F 1).a [.cn [0,8,9,10] []]).ct hΓ eT (iS bL hm1) (ih1 (i1+1) (dn bL) h)
theorem ic{aF:ah}{r:Bool}(h:gV aF=some r):Good prog 125 [D.sl (aF.map aj.c)] (D.bool r):=by
 refine gd func125 [[none]] 41 fun hr Γ hΓ=>?_
 rw[gV]at h;obtain⟨h1,h⟩|⟨h1,h⟩:=aL h
 ·have h:=aM h;subst h;exact(aW.b h1).ret hΓ
 ·refine((aW.b h1).a [.cn [0,8,9,10] []]).lp hΓ (wA hΓ (fun h=>?_) (by have:=(n9.sl (hr _ (aE (i:=0) rfl))).1;simpa using this) aF 0 rfl h);have h:=aM h;subst h;exact aW.ret hΓ
def k9(aF:ah):Option ah:=(bif room (([]:List aG).length+(aF.map aj.c).length) 32 then(some (([]:ah)++aF))else none)
theorem pT{aF:ah}{r:ah}(h:k9 aF=some r):Good prog 128 [D.sl (aF.map aj.c)] (D.fr 130 2 (r.map aj.c)):=by
 refine gd func128 [[some (130,2)]] 5 fun hr Γ hΓ=>?_
 rw[k9]at h;obtain⟨h1,h⟩:=bY h;cases h;exact(((aW.w (cE h1)).w (show(∀r∈(aF.map aj.c),r.length=2)/\(true=true->D.fK (aF.map aj.c)=true)from⟨by first|simp| (intro r hr;obtain⟨x,_,rfl⟩:=cG.1 (bC (cM hr));rfl),by simp[D.fK,D.flat]⟩)).a [.GM 2,.fl true]).rts hΓ (D.fr 130 2 (([]:List aG)++(aF.map aj.c))) (by first|rfl| (simp only[mA]<;>rfl)| (simp only[pX,mA]<;>rfl))
def gw(aF:ah)(ay:Bytes)(k1:Option (Bytes×Bool)):ah->Nat->Option (Bytes×Bool)
 | [],i1=>(k1)
 |bu::fY,i1=>(bif (bu.var:Bytes)==ay then(some (bu.value,true))else(gw aF ay k1 fY (i1+1)))
def kH(aF:ah)(ay:Bytes):Option (Bytes×Bool):=((dR ay).bind fun y1=>(bif y1 then(some (ay,true))else((jB ay).bind fun y4=>(bif !(y4)then(some ([],false))else(gw aF ay (some ([],false)) aF 0)))))
def zL(aF:ah)(ay:Bytes)(jc:Int):St:=⟨[(1,D.str ay),(14,D.sl (aF.map aj.c)),(15,D.int .i64 ((aF.map aj.c).length:Int)),(16,D.int .i64 jc)],[]⟩
theorem yQ(hΓ:Γ.nt=27){aF:ah}{ay:Bytes}{r:Bytes×Bool}{k1:Option (Bytes×Bool)}(ju:k1=some r->Ax Γ N f145 (.q [[none],[none]] (D.gj [D.str r.1,D.bool r.2])) [1,1,1,1] ⟨[],[]⟩)(hm1:aF.length<=maxLen):∀(rest:ah) (i1:Nat),aF.drop i1=rest->gw aF ay k1 rest i1=some r->Ar Γ N f145 (.q [[none],[none]] (D.gj [D.str r.1,D.bool r.2])) [1,1,1,0,1,0] (rest.length+1) (zL aF ay (i1:Int)):=by
 intro rest
 induction rest with
 |nil=>
  intro i1 bL h;rw[gw]at h;refine aa fun N1 hN1 eT=>?_
  exact((aW.ge aj.c bL).a [.hl 0 [] []]).ex hΓ hN1 (ju h)
 |cons bu fY ih1=>
  intro i1 bL h;rw[gw]at h;refine aa fun N1 hN1 eT=>?_
  have kN:=((aW.lt aj.c bL).l (cI aj.c 2 (dc bL) rfl))
  obtain⟨h19,h⟩|⟨h19,h⟩:=aL h
  ·cases h;exact(kN.b h19).ret hΓ
  ·exact((kN.b h19).a [.cn [1,14,15,16] []]).ct hΓ eT (iS bL hm1) (ih1 (i1+1) (dn bL) h)
theorem nr{aF:ah}{ay:Bytes}{r:Bytes×Bool}(h:kH aF ay=some r):Good prog 145 [D.sl (aF.map aj.c),D.str ay] (D.gj [D.str r.1,D.bool r.2]):=by
 refine gd func145 [[none],[none]] 27 fun hr Γ hΓ=>?_
 rw[kH]at h;obtain⟨y1,h2,h⟩:=aC h;obtain⟨h3,h⟩|⟨h3,h⟩:=aL h
 ·cases h;exact((aW.g (dD h2)).b h3).ret hΓ
 ·obtain⟨y4,h5,h⟩:=aC h;have lI:=(((aW.g (dD h2)).b h3).g (ke h5))
  obtain⟨h6,h⟩|⟨h6,h⟩:=aL h
  ·cases h;exact(lI.b h6).ret hΓ
  ·refine((lI.b h6).a [.cn [1,14,15,16] []]).lp hΓ (yQ hΓ (fun h=>?_) (by have:=(n9.sl (hr _ (aE (i:=0) rfl))).1;simpa using this) aF 0 rfl h);cases h;exact aW.ret hΓ
def gU(aF:ah)(ay:Bytes)(fy:Bytes)(k1:Bool->ah->Option (ah×Bool)):ah->Nat->Bool->ah->Option (ah×Bool)
 | [],i1,qU,bh=>(k1 qU bh)
 |bu::fY,i1,qU,bh=>(bif !(qU)then(bif !(Op.bytesLess bu.var ay||(bu.var:Bytes)==ay)then(bif room ((bh.map aj.c).length+([[D.str ay,D.str fy]]).length) 32 then(bif room (((bh.map aj.c)++([[D.str ay,D.str fy]])).length+([[D.str bu.var,D.str bu.value]]).length) 32 then(gU aF ay fy k1 fY (i1+1) true ((bh++([(⟨ay,fy⟩:aj)]))++([bu])))else none)else none)else(bif room ((bh.map aj.c).length+([[D.str bu.var,D.str bu.value]]).length) 32 then(gU aF ay fy k1 fY (i1+1) qU (bh++([bu])))else none))else(bif room ((bh.map aj.c).length+([[D.str bu.var,D.str bu.value]]).length) 32 then(gU aF ay fy k1 fY (i1+1) qU (bh++([bu])))else none))
def mR(aF:ah)(ay:Bytes)(fy:Bytes):Option (ah×Bool):=((gV aF).bind fun y1=>(bif !(y1)then(some ([],false))else((jB ay).bind fun y4=>(bif !(y4)then(some ([],false))else((dR fy).bind fun y7=>(bif !(y7)then(some ([],false))else((kH aF ay).bind fun Cs=>(bif Cs.2 then(bif !((Cs.1:Bytes)==fy)then(some ([],false))else((k9 aF).bind fun AK=>(some (AK,true))))else(bif decide ((((aF.map aj.c).length:Int):Int)>=6)then(some ([],false))else(gU aF ay fy (fun(GH:Bool) (dL:ah)=>(bif !(GH)then(bif room ((dL.map aj.c).length+([[D.str ay,D.str fy]]).length) 32 then(some (dL++([(⟨ay,fy⟩:aj)]),true))else none)else(some (dL,true)))) aF 0 false ([]:ah)))))))))))
def nS(aF:ah)(ay:Bytes)(fy:Bytes)(qU:Bool)(W1:List aG)(jc:Int):St:=⟨[(1,D.str ay),(2,D.str fy),(10,D.acc 0),(11,D.bool qU),(42,D.sl (aF.map aj.c)),(43,D.int .i64 ((aF.map aj.c).length:Int)),(44,D.int .i64 jc)],[Ob.row .uq 130 2 W1]⟩
theorem zF(hΓ:Γ.nt=76){aF:ah}{ay:Bytes}{fy:Bytes}{r:ah×Bool}{k1:Bool->ah->Option (ah×Bool)}(ju:∀(GH:Bool) (dL:ah),k1 GH dL=some r->Ax Γ N f129 (.q [[some (130,2)],[none]] (D.gj [D.fr 130 2 (r.1.map aj.c),D.bool r.2])) [1,1,1,1,1,1,1] ⟨[(1,D.str ay),(2,D.str fy),(10,D.acc 0),(11,D.bool GH)],[Ob.row .uq 130 2 (dL.map aj.c)]⟩)(hm1:aF.length<=maxLen):∀(rest:ah) (i1:Nat) (qU:Bool) (bh:ah),aF.drop i1=rest->gU aF ay fy k1 rest i1 qU bh=some r->Ar Γ N f129 (.q [[some (130,2)],[none]] (D.gj [D.fr 130 2 (r.1.map aj.c),D.bool r.2])) [1,1,1,1,1,1,0,1,0] (rest.length+1) (nS aF ay fy qU (bh.map aj.c) (i1:Int)):=by
 intro rest
 induction rest with
 |nil=>
  intro i1 qU bh bL h;rw[gU]at h;refine aa fun N1 hN1 eT=>?_
  exact((aW.ge aj.c bL).a [.hl 0 [1,2,10,11] [0]]).ex hΓ hN1 (ju qU bh h)
 |cons bu fY ih1=>
  intro i1 qU bh bL h;rw[gU]at h;refine aa fun N1 hN1 eT=>?_
  have lI:=((aW.lt aj.c bL).l (cI aj.c 2 (dc bL) rfl))
  obtain⟨h58,h⟩|⟨h58,h⟩:=aL h
  ·have lY:=(lI.r 5 h58)
   obtain⟨h59,h⟩|⟨h59,h⟩:=aL h
   ·obtain⟨h60,h⟩:=bY h;obtain⟨h61,h⟩:=bY h;exact((((lY.b h59).w (cE h60)).w (cE h61)).a [.cn [1,2,10,11,42,43,44] [5]]).cs hΓ eT (nS aF ay fy true (((bh.map aj.c)++([[D.str ay,D.str fy]]))++([[D.str bu.var,D.str bu.value]])) (IntKind.i64.wrap ((i1:Int)+1))) (by first| (simp only[iS bL hm1,mA]<;>rfl)| (simp only[iS bL hm1,mA,aJ.c,aj.c,aT.c,Action.c,aZ.c,bA.c,bE.c,jH.c,Node.c,dh.c,jr.c]<;>rfl)) (ih1 (i1+1) true ((bh++([(⟨ay,fy⟩:aj)]))++([bu])) (dn bL) h)
   ·obtain⟨h62,h⟩:=bY h;exact(((lY.b h59).w (cE h62)).a [.cn [1,2,10,11,42,43,44] [3]]).cs hΓ eT (nS aF ay fy qU ((bh.map aj.c)++([[D.str bu.var,D.str bu.value]])) (IntKind.i64.wrap ((i1:Int)+1))) (by first| (simp only[iS bL hm1,mA]<;>rfl)| (simp only[iS bL hm1,mA,aJ.c,aj.c,aT.c,Action.c,aZ.c,bA.c,bE.c,jH.c,Node.c,dh.c,jr.c]<;>rfl)) (ih1 (i1+1) qU (bh++([bu])) (dn bL) h)
  ·obtain⟨h63,h⟩:=bY h;exact((((lI.r 5 h58).F 1).w (cE h63)).a [.cn [1,2,10,11,42,43,44] [3]]).cs hΓ eT (nS aF ay fy qU ((bh.map aj.c)++([[D.str bu.var,D.str bu.value]])) (IntKind.i64.wrap ((i1:Int)+1))) (by first| (simp only[iS bL hm1,mA]<;>rfl)| (simp only[iS bL hm1,mA,aJ.c,aj.c,aT.c,Action.c,aZ.c,bA.c,bE.c,jH.c,Node.c,dh.c,jr.c]<;>rfl)) (ih1 (i1+1) qU (bh++([bu])) (dn bL) h)
theorem yP{aF:ah}{ay:Bytes}{fy:Bytes}{r:ah×Bool}(h:mR aF ay fy=some r):Good prog 129 [D.sl (aF.map aj.c),D.str ay,D.str fy] (D.gj [D.fr 130 2 (r.1.map aj.c),D.bool r.2]):=by
 refine gd func129 [[some (130,2)],[none]] 76 fun hr Γ hΓ=>?_
 rw[mR]at h;obtain⟨y1,h2,h⟩:=aC h;obtain⟨h3,h⟩|⟨h3,h⟩:=aL h
 ·cases h;exact(((aW.g (ic h2)).r 4 h3).T 5).ret hΓ
 ·obtain⟨y4,h5,h⟩:=aC h;have qy:=((((aW.g (ic h2)).r 2 h3).g (ke h5)).r 2 h3)
  obtain⟨h6,h⟩|⟨h6,h⟩:=aL h
  ·cases h;exact((qy.r 4 h6).T 1).ret hΓ
  ·obtain⟨y7,h8,h⟩:=aC h;have uE:=(((qy.r 2 h6).g (dD h8)).r 2 h6)
   obtain⟨h9,h⟩|⟨h9,h⟩:=aL h
   ·cases h;exact(uE.b h9).ret hΓ
   ·obtain⟨Cs,h11,h⟩:=aC h;have yp:=((uE.b h9).g (nr h11))
    obtain⟨h12,h⟩|⟨h12,h⟩:=aL h
    ·obtain⟨h13,h⟩|⟨h13,h⟩:=aL h
     ·cases h;exact((yp.b h12).b h13).ret hΓ
     ·obtain⟨AK,h15,h⟩:=aC h;cases h;exact(((yp.b h12).b h13).g (pT h15)).ret hΓ
    ·obtain⟨h16,h⟩|⟨h16,h⟩:=aL h
     ·cases h;exact((yp.b h12).b h16).ret hΓ
     ·refine(((yp.b h12).b h16).a [.GM 10,.cn [1,2,10,11,42,43,44] [0]]).lp hΓ (zF hΓ (fun GH dL h=>?_) (by have:=(n9.sl (hr _ (aE (i:=0) rfl))).1;simpa using this) aF 0 false ([]:ah) rfl h);obtain⟨h64,h⟩|⟨h64,h⟩:=aL h
      ·obtain⟨h65,h⟩:=bY h;cases h;exact((aW.b h64).w (cE h65)).rts hΓ (D.gj [D.fr 130 2 ((dL.map aj.c)++([[D.str ay,D.str fy]])),D.bool true]) (by first|rfl| (simp only[mA]<;>rfl)| (simp only[pX,mA]<;>rfl))
      ·cases h;exact(aW.b h64).ret hΓ
def ff(aF:aJ)(ay:aJ)(k1:ah->Option (ah×Bool)):aD->Nat->ah->Option (ah×Bool)
 | [],i1,cC=>(k1 cC)
 |bu::fY,i1,cC=>((dR bu).bind fun XU=>(bif XU then((lG ay.args (i1:Int)).bind fun x83=>(bif !((bu:Bytes)==x83)then(some ([],false))else(ff aF ay k1 fY (i1+1) cC)))else((lG ay.args (i1:Int)).bind fun x86=>((mR cC bu x86).bind fun UZ=>(bif !(UZ.2)then(some ([],false))else(ff aF ay k1 fY (i1+1) UZ.1))))))
def gW(aF:aJ)(ay:aJ)(fy:ah):Option (ah×Bool):=((fR aF).bind fun y1=>(bif !(y1)then(some ([],false))else((l7 ay).bind fun y4=>(bif !(y4)then(some ([],false))else((gV fy).bind fun y7=>(bif !(y7)then(some ([],false))else(bif !((aF.rel:Bytes)==ay.rel)then(some ([],false))else(bif (((aF.args.map tx).length:Int):Int) != ((ay.args.map tx).length:Int)then(some ([],false))else((k9 fy).bind fun Ip=>(ff aF ay (fun(dL:ah)=>(some (dL,true))) aF.args 0 Ip))))))))))
def xP(aF:aJ)(ay:aJ)(W0:List aG)(jc:Int):St:=⟨[(4,D.ptr 0 0),(8,D.acc 1),(45,D.sl (aF.args.map tx)),(46,D.int .i64 ((aF.args.map tx).length:Int)),(47,D.int .i64 jc)],[Ob.box (aJ.c ay),Ob.row .uq 130 2 W0]⟩
theorem wC(hΓ:Γ.nt=77){aF:aJ}{ay:aJ}{r:ah×Bool}{k1:ah->Option (ah×Bool)}(ju:∀(dL:ah),k1 dL=some r->Ax Γ N f102 (.q [[some (130,2)],[none]] (D.gj [D.fr 130 2 (r.1.map aj.c),D.bool r.2])) [1,1,1,1] ⟨[(8,D.acc 0)],[Ob.row .uq 130 2 (dL.map aj.c)]⟩)(hm1:aF.args.length<=maxLen):∀(rest:aD) (i1:Nat) (cC:ah),aF.args.drop i1=rest->ff aF ay k1 rest i1 cC=some r->Ar Γ N f102 (.q [[some (130,2)],[none]] (D.gj [D.fr 130 2 (r.1.map aj.c),D.bool r.2])) [1,1,1,0,1,0] (rest.length+1) (xP aF ay (cC.map aj.c) (i1:Int)):=by
 intro rest
 induction rest with
 |nil=>
  intro i1 cC bL h;rw[ff]at h;refine aa fun N1 hN1 eT=>?_
  exact((aW.ge tx bL).a [.hl 0 [8] [1]]).ex hΓ hN1 (ju cC h)
 |cons bu fY ih1=>
  intro i1 cC bL h;rw[ff]at h;refine aa fun N1 hN1 eT=>?_
  obtain⟨XU,h81,h⟩:=aC h;have lY:=(((aW.lt tx bL).l (cI tx 1 (dc bL) rfl)).g (dD h81))
  obtain⟨h82,h⟩|⟨h82,h⟩:=aL h
  ·obtain⟨x83,h84,h⟩:=aC h;have qy:=((lY.b h82).l (jI tx 1 h84 rfl))
   obtain⟨h85,h⟩|⟨h85,h⟩:=aL h
   ·cases h;exact(qy.b h85).ret hΓ
   ·exact((qy.b h85).a [.cn [4,8,45,46,47] [0,1]]).ct hΓ eT (iS bL hm1) (ih1 (i1+1) cC (dn bL) h)
  ·obtain⟨x86,h87,h⟩:=aC h;obtain⟨UZ,h89,h⟩:=aC h;have uE:=(((lY.b h82).l (jI tx 1 h87 rfl)).g (yP h89))
   obtain⟨h90,h⟩|⟨h90,h⟩:=aL h
   ·cases h;exact(uE.b h90).ret hΓ
   ·exact((uE.b h90).a [.cn [4,8,45,46,47] [0,2]]).ct hΓ eT (iS bL hm1) (ih1 (i1+1) UZ.1 (dn bL) h)
theorem pS{aF:aJ}{ay:aJ}{fy:ah}{r:ah×Bool}(h:gW aF ay fy=some r):Good prog 102 [D.agg (aJ.c aF),D.agg (aJ.c ay),D.sl (fy.map aj.c)] (D.gj [D.fr 130 2 (r.1.map aj.c),D.bool r.2]):=by
 refine gd func102 [[some (130,2)],[none]] 77 fun hr Γ hΓ=>?_
 rw[gW]at h;obtain⟨y1,h2,h⟩:=aC h;obtain⟨h3,h⟩|⟨h3,h⟩:=aL h
 ·cases h;exact(((aW.g (gA h2)).r 4 h3).T 19).ret hΓ
 ·obtain⟨y4,h5,h⟩:=aC h;have yp:=((((aW.g (gA h2)).r 2 h3).g (rq h5)).r 2 h3)
  obtain⟨h6,h⟩|⟨h6,h⟩:=aL h
  ·cases h;exact((yp.r 4 h6).T 15).ret hΓ
  ·obtain⟨y7,h8,h⟩:=aC h;have Ch:=(((yp.r 2 h6).g (ic h8)).r 2 h6)
   obtain⟨h9,h⟩|⟨h9,h⟩:=aL h
   ·cases h;exact((Ch.r 6 h9).T 9).ret hΓ
   ·have Fy:=(Ch.r 6 h9)
    obtain⟨h10,h⟩|⟨h10,h⟩:=aL h
    ·cases h;exact((Fy.r 8 h10).T 1).ret hΓ
    ·have zz:=(Fy.r 8 h10)
     obtain⟨h11,h⟩|⟨h11,h⟩:=aL h
     ·cases h;exact(zz.b h11).ret hΓ
     ·obtain⟨Ip,h13,h⟩:=aC h;refine(((zz.b h11).g (pT h13)).a [.cn [4,8,45,46,47] [1,2]]).lp hΓ (wC hΓ (fun dL h=>?_) (by have:=(n9.sl (n9.agg (hr _ (aE (i:=0) rfl)) (.sl (aF.args.map tx)) (by simp))).1;simpa using this) aF.args 0 Ip rfl h);cases h;exact aW.ret hΓ
def fN(aF:aJ):Option aJ:=((kA aF.args).bind fun y1=>(some (⟨aF.rel,y1⟩:aJ)))
theorem nF{aF:aJ}{r:aJ}(h:fN aF=some r):Good prog 104 [D.agg (aJ.c aF)] (D.agg [D.str r.rel,D.fr 9 1 (r.args.map tx)]):=by
 refine gd func104 [[none,some (9,1)]] 9 fun hr Γ hΓ=>?_
 rw[fN]at h;obtain⟨y1,h2,h⟩:=aC h;cases h;exact((aW.a [.n 5]).g (pU h2)).ret hΓ
def eG(aF:aJ)(ay:ah)(fy:aU)(k1:aU->Option aU):aU->Nat->aU->Option aU
 | [],i1,cC=>(k1 cC)
 |bu::fY,i1,cC=>((gW aF bu ay).bind fun Q3=>(bif Q3.2 then((fN bu).bind fun Rn=>(bif room ((cC.map aJ.c).length+([[D.str Rn.rel,D.sl (Rn.args.map tx)]]).length) 40 then(eG aF ay fy k1 fY (i1+1) (cC++([Rn])))else none))else(eG aF ay fy k1 fY (i1+1) cC)))
def gX(aF:aJ)(ay:ah)(fy:aU):Option aU:=(eG aF ay fy (fun(dL:aU)=>(some dL)) fy 0 ([]:aU))
def oV(aF:aJ)(ay:ah)(fy:aU)(W0:List aG)(jc:Int):St:=⟨[(1,D.sl (ay.map aj.c)),(3,D.ptr 0 0),(7,D.acc 1),(12,D.sl (fy.map aJ.c)),(13,D.int .i64 ((fy.map aJ.c).length:Int)),(14,D.int .i64 jc)],[Ob.box (aJ.c aF),Ob.row .uq 47 2 W0]⟩
theorem tM(hΓ:Γ.nt=33){aF:aJ}{ay:ah}{fy:aU}{r:aU}{k1:aU->Option aU}(ju:∀(dL:aU),k1 dL=some r->Ax Γ N f126 (.q [[some (47,2)]] (D.fr 47 2 (r.map aJ.c))) [1,1,1] ⟨[(7,D.acc 0)],[Ob.row .uq 47 2 (dL.map aJ.c)]⟩)(hm1:fy.length<=maxLen):∀(rest:aU) (i1:Nat) (cC:aU),fy.drop i1=rest->eG aF ay fy k1 rest i1 cC=some r->Ar Γ N f126 (.q [[some (47,2)]] (D.fr 47 2 (r.map aJ.c))) [1,1,0,1,0] (rest.length+1) (oV aF ay fy (cC.map aJ.c) (i1:Int)):=by
 intro rest
 induction rest with
 |nil=>
  intro i1 cC bL h;rw[eG]at h;refine aa fun N1 hN1 eT=>?_
  exact((aW.ge aJ.c bL).a [.hl 0 [7] [1]]).ex hΓ hN1 (ju cC h)
 |cons bu fY ih1=>
  intro i1 cC bL h;rw[eG]at h;refine aa fun N1 hN1 eT=>?_
  obtain⟨Q3,h43,h⟩:=aC h;have kN:=(((aW.lt aJ.c bL).l (cI aJ.c 2 (dc bL) rfl)).g (pS h43))
  obtain⟨h44,h⟩|⟨h44,h⟩:=aL h
  ·obtain⟨Rn,h46,h⟩:=aC h;obtain⟨h47,h⟩:=bY h;exact((((kN.b h44).g (nF h46)).w (cE h47)).a [.cn [1,3,7,12,13,14] [0,6]]).cs hΓ eT (oV aF ay fy ((cC.map aJ.c)++([[D.str Rn.rel,D.sl (Rn.args.map tx)]])) (IntKind.i64.wrap ((i1:Int)+1))) (by first| (simp only[iS bL hm1,mA]<;>rfl)| (simp only[iS bL hm1,mA,aJ.c,aj.c,aT.c,Action.c,aZ.c,bA.c,bE.c,jH.c,Node.c,dh.c,jr.c]<;>rfl)) (ih1 (i1+1) (cC++([Rn])) (dn bL) h)
  ·exact((kN.b h44).a [.cn [1,3,7,12,13,14] [0,1]]).ct hΓ eT (iS bL hm1) (ih1 (i1+1) cC (dn bL) h)
theorem ni{aF:aJ}{ay:ah}{fy:aU}{r:aU}(h:gX aF ay fy=some r):Good prog 126 [D.agg (aJ.c aF),D.sl (ay.map aj.c),D.sl (fy.map aJ.c)] (D.fr 47 2 (r.map aJ.c)):=by
 refine gd func126 [[some (47,2)]] 33 fun hr Γ hΓ=>?_
 rw[gX]at h;refine(aW.a [.GM 7,.cn [1,3,7,12,13,14] [0,1]]).lp hΓ (tM hΓ (fun dL h=>?_) (by have:=(n9.sl (hr _ (aE (i:=2) rfl))).1;simpa using this) fy 0 ([]:aU) rfl h);have h:=aM h;subst h;exact aW.ret hΓ
def oA(aF:aT):Option Bool:=((l6 aF).bind fun y1=>(bif y1 then(some (decide ((aF.kind:Int)>=3)))else(some false)))
theorem ru{aF:aT}{r:Bool}(h:oA aF=some r):Good prog 144 [D.agg (aT.c aF)] (D.bool r):=by
 refine gd func144 [[none]] 10 fun hr Γ hΓ=>?_
 rw[oA]at h;obtain⟨y1,h2,h⟩:=aC h;obtain⟨h3,h⟩|⟨h3,h⟩:=aL h
 ·cases h;exact((aW.g (kG h2)).r 4 h3).ret hΓ
 ·have h:=aM h;subst h;exact((aW.g (kG h2)).r 4 h3).ret hΓ
def lR(aF:aT)(ay:ah):Option Bool:=((oA aF).bind fun y1=>(bif !(y1)then(some false)else((gV ay).bind fun y4=>(bif !(y4)then(some false)else((kH ay aF.left).bind fun y7=>((kH ay aF.right).bind fun y9=>(bif !(y7.2)then(some false)else(bif !(y9.2)then(some false)else(bif (aF.kind:Int)==3 then(some ((y7.1:Bytes)==y9.1))else(bif (aF.kind:Int)==4 then(some (!((y7.1:Bytes)==y9.1)))else((iU y7.1).bind fun yL=>((iU y9.1).bind fun N7=>(bif yL.2 then(bif N7.2 then(some (decide ((yL.1:Int)<N7.1)))else(some false))else(some false))))))))))))))
theorem vR{aF:aT}{ay:ah}{r:Bool}(h:lR aF ay=some r):Good prog 127 [D.agg (aT.c aF),D.sl (ay.map aj.c)] (D.bool r):=by
 refine gd func127 [[none]] 70 fun hr Γ hΓ=>?_
 rw[lR]at h;obtain⟨y1,h2,h⟩:=aC h;obtain⟨h3,h⟩|⟨h3,h⟩:=aL h
 ·have h:=aM h;subst h;exact(((aW.g (ru h2)).r 4 h3).T 1).ret hΓ
 ·obtain⟨y4,h5,h⟩:=aC h;have lH:=((((aW.g (ru h2)).r 2 h3).g (ic h5)).r 2 h3)
  obtain⟨h6,h⟩|⟨h6,h⟩:=aL h
  ·have h:=aM h;subst h;exact(lH.b h6).ret hΓ
  ·obtain⟨y7,h8,h⟩:=aC h;obtain⟨y9,h10,h⟩:=aC h;have kN:=(((lH.b h6).g (nr h8)).g (nr h10))
   obtain⟨h11,h⟩|⟨h11,h⟩:=aL h
   ·have h:=aM h;subst h;exact((kN.r 3 h11).T 1).ret hΓ
   ·have lI:=(kN.r 3 h11)
    obtain⟨h12,h⟩|⟨h12,h⟩:=aL h
    ·have h:=aM h;subst h;exact(lI.b h12).ret hΓ
    ·obtain⟨h13,h⟩|⟨h13,h⟩:=aL h
     ·cases h;exact((lI.b h12).b h13).ret hΓ
     ·have lY:=((lI.b h12).b h13)
      obtain⟨h14,h⟩|⟨h14,h⟩:=aL h
      ·cases h;exact(lY.b h14).ret hΓ
      ·obtain⟨yL,h16,h⟩:=aC h;obtain⟨N7,h18,h⟩:=aC h;have qy:=(((lY.b h14).g (kf h16)).g (kf h18))
       obtain⟨h19,h⟩|⟨h19,h⟩:=aL h
       ·have uE:=(qy.r 2 h19)
        obtain⟨h20,h⟩|⟨h20,h⟩:=aL h
        ·cases h;exact(uE.r 4 h20).ret hΓ
        ·have h:=aM h;subst h;exact(uE.r 4 h20).ret hΓ
       ·have h:=aM h;subst h;exact((qy.r 2 h19).F 4).ret hΓ
def lQ(aF:aT)(ay:ah)(fy:aU):Option Bool:=((l6 aF).bind fun y1=>(bif !(y1)then(some false)else((gV ay).bind fun y4=>(bif !(y4)then(some false)else(bif (aF.kind:Int)==1 then((gX aF.pat ay fy).bind fun y8=>(some (decide ((((y8.map aJ.c).length:Int):Int)>0))))else(bif (aF.kind:Int)==2 then((gX aF.pat ay fy).bind fun AJ=>(some ((((AJ.map aJ.c).length:Int):Int)==0)))else((lR aF ay).bind fun oJ=>(some oJ))))))))
theorem vQ{aF:aT}{ay:ah}{fy:aU}{r:Bool}(h:lQ aF ay fy=some r):Good prog 101 [D.agg (aT.c aF),D.sl (ay.map aj.c),D.sl (fy.map aJ.c)] (D.bool r):=by
 refine gd func101 [[none]] 38 fun hr Γ hΓ=>?_
 rw[lQ]at h;obtain⟨y1,h2,h⟩:=aC h;obtain⟨h3,h⟩|⟨h3,h⟩:=aL h
 ·have h:=aM h;subst h;exact(((aW.g (kG h2)).r 4 h3).T 1).ret hΓ
 ·obtain⟨y4,h5,h⟩:=aC h;have lH:=((((aW.g (kG h2)).r 2 h3).g (ic h5)).r 2 h3)
  obtain⟨h6,h⟩|⟨h6,h⟩:=aL h
  ·have h:=aM h;subst h;exact(lH.b h6).ret hΓ
  ·obtain⟨h7,h⟩|⟨h7,h⟩:=aL h
   ·obtain⟨y8,h9,h⟩:=aC h;cases h;exact(((lH.b h6).b h7).g (ni h9)).ret hΓ
   ·have kN:=((lH.b h6).b h7)
    obtain⟨h10,h⟩|⟨h10,h⟩:=aL h
    ·obtain⟨AJ,h12,h⟩:=aC h;cases h;exact((kN.b h10).g (ni h12)).ret hΓ
    ·obtain⟨oJ,h14,h⟩:=aC h;have h:=aM h;subst h;exact((kN.b h10).g (vR h14)).ret hΓ
def iJ(aF:aU)(k1:aU->Option aU):aU->Nat->aU->Option aU
 | [],i1,bh=>(k1 bh)
 |bu::fY,i1,bh=>((fN bu).bind fun uQ=>(bif room ((bh.map aJ.c).length+([[D.str uQ.rel,D.sl (uQ.args.map tx)]]).length) 40 then(iJ aF k1 fY (i1+1) (bh++([uQ])))else none))
def k8(aF:aU):Option aU:=(iJ aF (fun(dL:aU)=>(some dL)) aF 0 ([]:aU))
def qt(aF:aU)(W0:List aG)(jc:Int):St:=⟨[(3,D.acc 0),(6,D.sl (aF.map aJ.c)),(7,D.int .i64 ((aF.map aJ.c).length:Int)),(8,D.int .i64 jc)],[Ob.row .uq 47 2 W0]⟩
theorem wD(hΓ:Γ.nt=19){aF:aU}{r:aU}{k1:aU->Option aU}(ju:∀(dL:aU),k1 dL=some r->Ax Γ N f103 (.q [[some (47,2)]] (D.fr 47 2 (r.map aJ.c))) [1,1,1] ⟨[(3,D.acc 0)],[Ob.row .uq 47 2 (dL.map aJ.c)]⟩)(hm1:aF.length<=maxLen):∀(rest:aU) (i1:Nat) (bh:aU),aF.drop i1=rest->iJ aF k1 rest i1 bh=some r->Ar Γ N f103 (.q [[some (47,2)]] (D.fr 47 2 (r.map aJ.c))) [1,1,0,1,0] (rest.length+1) (qt aF (bh.map aJ.c) (i1:Int)):=by
 intro rest
 induction rest with
 |nil=>
  intro i1 bh bL h;rw[iJ]at h;refine aa fun N1 hN1 eT=>?_
  exact((aW.ge aJ.c bL).a [.hl 0 [3] [0]]).ex hΓ hN1 (ju bh h)
 |cons bu fY ih1=>
  intro i1 bh bL h;rw[iJ]at h;refine aa fun N1 hN1 eT=>?_
  obtain⟨uQ,h28,h⟩:=aC h;obtain⟨h29,h⟩:=bY h;exact(((((aW.lt aJ.c bL).l (cI aJ.c 2 (dc bL) rfl)).g (nF h28)).w (cE h29)).a [.cn [3,6,7,8] [4]]).cs hΓ eT (qt aF ((bh.map aJ.c)++([[D.str uQ.rel,D.sl (uQ.args.map tx)]])) (IntKind.i64.wrap ((i1:Int)+1))) (by first| (simp only[iS bL hm1,mA]<;>rfl)| (simp only[iS bL hm1,mA,aJ.c,aj.c,aT.c,Action.c,aZ.c,bA.c,bE.c,jH.c,Node.c,dh.c,jr.c]<;>rfl)) (ih1 (i1+1) (bh++([uQ])) (dn bL) h)
theorem vT{aF:aU}{r:aU}(h:k8 aF=some r):Good prog 103 [D.sl (aF.map aJ.c)] (D.fr 47 2 (r.map aJ.c)):=by
 refine gd func103 [[some (47,2)]] 19 fun hr Γ hΓ=>?_
 rw[k8]at h;refine(aW.a [.GM 3,.cn [3,6,7,8] [0]]).lp hΓ (wD hΓ (fun dL h=>?_) (by have:=(n9.sl (hr _ (aE (i:=0) rfl))).1;simpa using this) aF 0 ([]:aU) rfl h);have h:=aM h;subst h;exact aW.ret hΓ
def gL(aF:bN)(ay:aU)(i2:Nat)(bh:bz)(r9:bA)(i1:Nat)(bu:aT)(k3:bz->Option bz):aU->Nat->bz->Option bz
 | [],i3,ql=>(k3 ql)
 |Jh::GO,i3,ql=>((gW bu.pat Jh r9.bind).bind fun Dr=>(bif Dr.2 then((k8 r9.facts).bind fun Ds=>((fN Jh).bind fun AN=>(bif room ((Ds.map aJ.c).length+([[D.str AN.rel,D.sl (AN.args.map tx)]]).length) 40 then(bif room ((ql.map bA.c).length+([[D.sl ((Ds.map aJ.c)++([[D.str AN.rel,D.sl (AN.args.map tx)]])),D.sl (Dr.1.map aj.c)]]).length) 48 then(gL aF ay i2 bh r9 i1 bu k3 GO (i3+1) (ql++([(⟨Ds++([AN]),Dr.1⟩:bA)])))else none)else none)))else(gL aF ay i2 bh r9 i1 bu k3 GO (i3+1) ql)))
def dS(aF:bN)(ay:aU)(bh:bz)(i1:Nat)(bu:aT)(k2:bz->Option bz):bz->Nat->bz->Option bz
 | [],i2,n8=>(k2 n8)
 |r9::AI,i2,n8=>(bif (bu.kind:Int) != 1 then((lQ bu r9.bind ay).bind fun Q0=>(bif Q0 then(bif room ((n8.map bA.c).length+([[D.sl (r9.facts.map aJ.c),D.sl (r9.bind.map aj.c)]]).length) 48 then(dS aF ay bh i1 bu k2 AI (i2+1) (n8++([r9])))else none)else(dS aF ay bh i1 bu k2 AI (i2+1) n8)))else(bif decide (ay.length<=maxLen)then(gL aF ay i2 bh r9 i1 bu (fun(JU:bz)=>(dS aF ay bh i1 bu k2 AI (i2+1) JU)) ay 0 n8)else none))
def gK(aF:bN)(ay:aU)(k1:bz->Option bz):bN->Nat->bz->Option bz
 | [],i1,bh=>(k1 bh)
 |bu::fY,i1,bh=>(bif decide (bh.length<=maxLen)then(dS aF ay bh i1 bu (fun(JT:bz)=>(gK aF ay k1 fY (i1+1) JT)) bh 0 ([]:bz))else none)
def mI(aF:bN)(ay:aU):Option bz:=(gK aF ay (fun(dL:bz)=>(some dL)) aF 0 ([(⟨[],[]⟩:bA)]))
def s8(aF:bN)(ay:aU)(W0:List aG)(jc:Int):St:=⟨[(1,D.sl (ay.map aJ.c)),(5,D.acc 0),(17,D.sl (aF.map aT.c)),(18,D.int .i64 ((aF.map aT.c).length:Int)),(19,D.int .i64 jc)],[Ob.row .uq 103 2 W0]⟩
def s9(aF:bN)(ay:aU)(bh:bz)(i1:Nat)(bu:aT)(W0:List aG)(R3:Nat)(jc:Int):St:=⟨[(1,D.sl (ay.map aJ.c)),(7,D.ptr 0 0),(8,D.acc 1),(17,D.sl (aF.map aT.c)),(18,D.int .i64 ((aF.map aT.c).length:Int)),(19,D.int .i64 (i1:Int)),(23,D.acc 2),(24,D.int .i64 ((bh.map bA.c).length:Int)),(25,D.int .i64 jc)],[Ob.box [D.int .i64 bu.kind,D.str bu.pat.rel,D.sl (bu.pat.args.map tx),D.str bu.left,D.str bu.right],Ob.row .uq 103 2 W0,Ob.row (.mv R3) 103 2 (bh.map bA.c)]⟩
def sA(aF:bN)(ay:aU)(i2:Nat)(bh:bz)(r9:bA)(i1:Nat)(bu:aT)(W0:List aG)(jc:Int):St:=⟨[(1,D.sl (ay.map aJ.c)),(7,D.ptr 0 0),(8,D.acc 1),(10,D.ptr 2 0),(17,D.sl (aF.map aT.c)),(18,D.int .i64 ((aF.map aT.c).length:Int)),(19,D.int .i64 (i1:Int)),(23,D.acc 3),(24,D.int .i64 ((bh.map bA.c).length:Int)),(25,D.int .i64 (i2:Int)),(41,D.sl (ay.map aJ.c)),(42,D.int .i64 ((ay.map aJ.c).length:Int)),(43,D.int .i64 jc)],[Ob.box [D.int .i64 bu.kind,D.str bu.pat.rel,D.sl (bu.pat.args.map tx),D.str bu.left,D.str bu.right],Ob.row .uq 103 2 W0,Ob.box [D.acc 4,D.acc 5],Ob.row (.mv (i2+1)) 103 2 (bh.map bA.c),Ob.tk (r9.facts.map aJ.c),Ob.tk (r9.bind.map aj.c)]⟩
theorem xU(hΓ:Γ.nt=74){aF:bN}{ay:aU}{i2:Nat}{bh:bz}{r9:bA}{i1:Nat}{bu:aT}{r:bz}{k3:bz->Option bz}(QH:∀(JU:bz),k3 JU=some r->Ax Γ N f68 (.q [[some (103,2)]] (D.fr 103 2 (r.map bA.c))) [1,1,0,1,0,0,1,1,0,0,1,1,0,1,0,0,1,1,1] ⟨[(1,D.sl (ay.map aJ.c)),(7,D.ptr 0 0),(8,D.acc 1),(17,D.sl (aF.map aT.c)),(18,D.int .i64 ((aF.map aT.c).length:Int)),(19,D.int .i64 (i1:Int)),(23,D.acc 2),(24,D.int .i64 ((bh.map bA.c).length:Int)),(25,D.int .i64 (i2:Int))],[Ob.box [D.int .i64 bu.kind,D.str bu.pat.rel,D.sl (bu.pat.args.map tx),D.str bu.left,D.str bu.right],Ob.row .uq 103 2 (JU.map bA.c),Ob.row (.mv (i2+1)) 103 2 (bh.map bA.c)]⟩)(JB:ay.length<=maxLen):∀(rest:aU) (i3:Nat) (ql:bz),ay.drop i3=rest->gL aF ay i2 bh r9 i1 bu k3 rest i3 ql=some r->Ar Γ N f68 (.q [[some (103,2)]] (D.fr 103 2 (r.map bA.c))) [1,1,0,1,0,0,1,1,0,0,1,1,0,1,0,0,1,1,0,0,1,1,1,0] (rest.length+1) (sA aF ay i2 bh r9 i1 bu (ql.map bA.c) (i3:Int)):=by
 intro rest
 induction rest with
 |nil=>
  intro i3 ql tU h;rw[gL]at h;refine aa fun N3 Kk GI=>?_
  exact((aW.ge aJ.c tU).a [.hl 8 [1,7,8,17,18,19,23,24,25] [0,1,3]]).ex hΓ Kk (QH ql h)
 |cons Jh GO ih3=>
  intro i3 ql tU h;rw[gL]at h;refine aa fun N3 Kk GI=>?_
  obtain⟨Dr,h3513,h⟩:=aC h;have TW:=(((aW.lt aJ.c tU).l (cI aJ.c 2 (dc tU) rfl)).g (pS h3513))
  obtain⟨h3514,h⟩|⟨h3514,h⟩:=aL h
  ·obtain⟨Ds,h3521,h⟩:=aC h;obtain⟨AN,h3523,h⟩:=aC h;obtain⟨h3524,h⟩:=bY h;obtain⟨h3525,h⟩:=bY h;exact(((((((TW.b h3514).a [.n2 [0,1,2,3,4,5,8,6,7,9,10,11,12] [0,1,2,3,4,5,7,8,6,9,10,11,12] 7 11 [0,6] [7,8,9,10,11]]).g (vT h3521)).g (nF h3523)).w (cE h3524)).w (cE h3525)).a [.cn [1,7,8,10,17,18,19,23,24,25,41,42,43] [0,13,2,3,4,5]]).cs hΓ GI (sA aF ay i2 bh r9 i1 bu ((ql.map bA.c)++([[D.sl ((Ds.map aJ.c)++([[D.str AN.rel,D.sl (AN.args.map tx)]])),D.sl (Dr.1.map aj.c)]])) (IntKind.i64.wrap ((i3:Int)+1))) (by first| (simp only[iS tU JB,mA]<;>rfl)| (simp only[iS tU JB,mA,aJ.c,aj.c,aT.c,Action.c,aZ.c,bA.c,bE.c,jH.c,Node.c,dh.c,jr.c]<;>rfl)) (ih3 (i3+1) (ql++([(⟨Ds++([AN]),Dr.1⟩:bA)])) (dn tU) h)
  ·exact((TW.b h3514).a [.cn [1,7,8,10,17,18,19,23,24,25,41,42,43] [0,1,2,3,4,5]]).ct hΓ GI (iS tU JB) (ih3 (i3+1) ql (dn tU) h)
theorem xT(hΓ:Γ.nt=74){aF:bN}{ay:aU}{bh:bz}{i1:Nat}{bu:aT}{r:bz}{k2:bz->Option bz}(FU:∀(JT:bz),k2 JT=some r->Ax Γ N f68 (.q [[some (103,2)]] (D.fr 103 2 (r.map bA.c))) [1,1,0,1,0,0,1,1,0,0,1,1,1] ⟨[(1,D.sl (ay.map aJ.c)),(8,D.acc 0),(17,D.sl (aF.map aT.c)),(18,D.int .i64 ((aF.map aT.c).length:Int)),(19,D.int .i64 (i1:Int))],[Ob.row .uq 103 2 (JT.map bA.c)]⟩)(hm2:bh.length<=maxLen):∀(rest:bz) (i2:Nat) (n8:bz),bh.drop i2=rest->dS aF ay bh i1 bu k2 rest i2 n8=some r->Ar Γ N f68 (.q [[some (103,2)]] (D.fr 103 2 (r.map bA.c))) [1,1,0,1,0,0,1,1,0,0,1,1,0,1,0] (rest.length+1) (s9 aF ay bh i1 bu (n8.map bA.c) i2 (i2:Int)):=by
 intro rest
 induction rest with
 |nil=>
  intro i2 n8 hd2 h;rw[dS]at h;refine aa fun N2 Bg xw=>?_
  exact((aW.ge bA.c hd2).a [.hl 5 [1,8,17,18,19] [1]]).ex hΓ Bg (FU n8 h)
 |cons r9 AI ih2=>
  intro i2 n8 hd2 h;rw[dS]at h;refine aa fun N2 Bg xw=>?_
  have TX:=((((aW.lt bA.c hd2).i (fC bA.c 2 (dc hd2))).w (show i2=i2/\(bh.map bA.c)[i2]?=some [D.sl (r9.facts.map aJ.c),D.sl (r9.bind.map aj.c)]/\Cn [D.sl (r9.facts.map aJ.c),D.sl (r9.bind.map aj.c)]=true from⟨rfl,cB bA.c (dc hd2),rfl⟩)).a [.tk [D.sl (r9.facts.map aJ.c),D.sl (r9.bind.map aj.c)]])
  obtain⟨h3426,h⟩|⟨h3426,h⟩:=aL h
  ·obtain⟨Q0,h3428,h⟩:=aC h;have TY:=((TX.b h3426).g (vQ h3428))
   obtain⟨h3429,h⟩|⟨h3429,h⟩:=aL h
   ·obtain⟨h3430,h⟩:=bY h;exact(((TY.b h3429).w (cE h3430)).a [.cn [1,7,8,17,18,19,23,24,25] [0,7,2]]).cs hΓ xw (s9 aF ay bh i1 bu ((n8.map bA.c)++([[D.sl (r9.facts.map aJ.c),D.sl (r9.bind.map aj.c)]])) (i2+1) (IntKind.i64.wrap ((i2:Int)+1))) (by first| (simp only[iS hd2 hm2,mA]<;>rfl)| (simp only[iS hd2 hm2,mA,aJ.c,aj.c,aT.c,Action.c,aZ.c,bA.c,bE.c,jH.c,Node.c,dh.c,jr.c]<;>rfl)) (ih2 (i2+1) (n8++([r9])) (dn hd2) h)
   ·exact((TY.b h3429).a [.cn [1,7,8,17,18,19,23,24,25] [0,1,2]]).ct hΓ xw (iS hd2 hm2) (ih2 (i2+1) n8 (dn hd2) h)
  ·obtain⟨h3526,h⟩:=bY h;refine((TX.b h3426).a [.cn [1,7,8,10,17,18,19,23,24,25,41,42,43] [0,1,5,2,3,4]]).lp hΓ (xU hΓ (fun JU h=>?_) (bn h3526) ay 0 n8 rfl h);exact(aW.a [.cn [1,7,8,17,18,19,23,24,25] [0,1,2]]).ct hΓ xw (iS hd2 hm2) (ih2 (i2+1) JU (dn hd2) h)
theorem xS(hΓ:Γ.nt=74){aF:bN}{ay:aU}{r:bz}{k1:bz->Option bz}(ju:∀(dL:bz),k1 dL=some r->Ax Γ N f68 (.q [[some (103,2)]] (D.fr 103 2 (r.map bA.c))) [1,1,1] ⟨[(5,D.acc 0)],[Ob.row .uq 103 2 (dL.map bA.c)]⟩)(hm1:aF.length<=maxLen):∀(rest:bN) (i1:Nat) (bh:bz),aF.drop i1=rest->gK aF ay k1 rest i1 bh=some r->Ar Γ N f68 (.q [[some (103,2)]] (D.fr 103 2 (r.map bA.c))) [1,1,0,1,0] (rest.length+1) (s8 aF ay (bh.map bA.c) (i1:Int)):=by
 intro rest
 induction rest with
 |nil=>
  intro i1 bh bL h;rw[gK]at h;refine aa fun N1 hN1 eT=>?_
  exact((aW.ge aT.c bL).a [.hl 0 [5] [0]]).ex hΓ hN1 (ju bh h)
 |cons bu fY ih1=>
  intro i1 bh bL h;rw[gK]at h;refine aa fun N1 hN1 eT=>?_
  obtain⟨h3527,h⟩:=bY h;refine(((aW.lt aT.c bL).l (cI aT.c 5 (dc bL) rfl)).a [.GM 8,.mz 0,.cn [1,7,8,17,18,19,23,24,25] [1,2,0]]).lp hΓ (xT hΓ (fun JT h=>?_) (bn h3527) bh 0 ([]:bz) rfl h);exact(aW.a [.cn [1,5,17,18,19] [0]]).ct hΓ eT (iS bL hm1) (ih1 (i1+1) JT (dn bL) h)
theorem wF{aF:bN}{ay:aU}{r:bz}(h:mI aF ay=some r):Good prog 68 [D.sl (aF.map aT.c),D.sl (ay.map aJ.c)] (D.fr 103 2 (r.map bA.c)):=by
 refine gd func68 [[some (103,2)]] 74 fun hr Γ hΓ=>?_
 rw[mI]at h;refine(aW.a [.cn [1,5,17,18,19] [0]]).WC hΓ (s8 aF ay ([[D.sl ([]),D.sl ([])]]) 0) (by first| (simp only[mA]<;>rfl)| (simp only[mA,aJ.c,aj.c,aT.c,Action.c,aZ.c,bA.c,bE.c,jH.c,Node.c,dh.c,jr.c]<;>rfl)) (xS hΓ (fun dL h=>?_) (by have:=(n9.sl (hr _ (aE (i:=0) rfl))).1;simpa using this) aF 0 ([(⟨[],[]⟩:bA)]) rfl h);have h:=aM h;subst h;exact aW.ret hΓ
def fk(aF:aZ)(y1:bz)(k1:fA->Option fA):bz->Nat->fA->Option fA
 | [],i1,cC=>(k1 cC)
 |bu::fY,i1,cC=>(bif room ((cC.map bE.c).length+([[D.str aF.name,D.sl (bu.facts.map aJ.c),D.sl (bu.bind.map aj.c)]]).length) 64 then(fk aF y1 k1 fY (i1+1) (cC++([(⟨aF.name,bu.facts,bu.bind⟩:bE)])))else none)
def nT(aF:aZ)(ay:aU):Option fA:=((mI aF.conds ay).bind fun y1=>(bif decide (y1.length<=maxLen)then(fk aF y1 (fun(dL:fA)=>(some dL)) y1 0 ([]:fA))else none))
def qu(aF:aZ)(y1:bz)(W0:List aG)(R3:Nat)(jc:Int):St:=⟨[(2,D.ptr 0 0),(5,D.acc 1),(11,D.acc 2),(12,D.int .i64 ((y1.map bA.c).length:Int)),(13,D.int .i64 jc)],[Ob.box (aZ.c aF),Ob.row .uq 46 3 W0,Ob.row (.mv R3) 103 2 (y1.map bA.c)]⟩
theorem wE(hΓ:Γ.nt=29){aF:aZ}{y1:bz}{r:fA}{k1:fA->Option fA}(ju:∀(dL:fA),k1 dL=some r->Ax Γ N f35 (.q [[some (46,3)]] (D.fr 46 3 (r.map bE.c))) [1,1,1] ⟨[(5,D.acc 0)],[Ob.row .uq 46 3 (dL.map bE.c)]⟩)(hm1:y1.length<=maxLen):∀(rest:bz) (i1:Nat) (cC:fA),y1.drop i1=rest->fk aF y1 k1 rest i1 cC=some r->Ar Γ N f35 (.q [[some (46,3)]] (D.fr 46 3 (r.map bE.c))) [1,1,0,1,0] (rest.length+1) (qu aF y1 (cC.map bE.c) i1 (i1:Int)):=by
 intro rest
 induction rest with
 |nil=>
  intro i1 cC bL h;rw[fk]at h;refine aa fun N1 hN1 eT=>?_
  exact((aW.ge bA.c bL).a [.hl 0 [5] [1]]).ex hΓ hN1 (ju cC h)
 |cons bu fY ih1=>
  intro i1 cC bL h;rw[fk]at h;refine aa fun N1 hN1 eT=>?_
  obtain⟨h20,h⟩:=bY h;exact(((((aW.lt bA.c bL).i (fC bA.c 2 (dc bL))).w (show i1=i1/\(y1.map bA.c)[i1]?=some [D.sl (bu.facts.map aJ.c),D.sl (bu.bind.map aj.c)]/\Cn [D.sl (bu.facts.map aJ.c),D.sl (bu.bind.map aj.c)]=true from⟨rfl,cB bA.c (dc bL),rfl⟩)).w (cE h20)).a [.tk [D.sl (bu.facts.map aJ.c),D.sl (bu.bind.map aj.c)],.cn [2,5,11,12,13] [0,7,2]]).cs hΓ eT (qu aF y1 ((cC.map bE.c)++([[D.str aF.name,D.sl (bu.facts.map aJ.c),D.sl (bu.bind.map aj.c)]])) (i1+1) (IntKind.i64.wrap ((i1:Int)+1))) (by first| (simp only[iS bL hm1,mA]<;>rfl)| (simp only[iS bL hm1,mA,aJ.c,aj.c,aT.c,Action.c,aZ.c,bA.c,bE.c,jH.c,Node.c,dh.c,jr.c]<;>rfl)) (ih1 (i1+1) (cC++([(⟨aF.name,bu.facts,bu.bind⟩:bE)])) (dn bL) h)
theorem vU{aF:aZ}{ay:aU}{r:fA}(h:nT aF ay=some r):Good prog 35 [D.agg (aZ.c aF),D.sl (ay.map aJ.c)] (D.fr 46 3 (r.map bE.c)):=by
 refine gd func35 [[some (46,3)]] 29 fun hr Γ hΓ=>?_
 rw[nT]at h;obtain⟨y1,h2,h⟩:=aC h;obtain⟨h21,h⟩:=bY h;refine(((aW.a [.GM 5]).g (wF h2)).a [.mz 2,.cn [2,5,11,12,13] [0,1,2]]).lp hΓ (wE hΓ (fun dL h=>?_) (bn h21) y1 0 ([]:fA) rfl h);have h:=aM h;subst h;exact aW.ret hΓ
def k7(aF:aZ)(ay:aU):Option fA:=((mS aF).bind fun y1=>(bif !(y1)then(some ([]))else((mG ay).bind fun y4=>(bif !(y4)then(some ([]))else((nT aF ay).bind fun y7=>(some y7))))))
theorem cN{aF:aZ}{ay:aU}{r:fA}(h:k7 aF ay=some r):Good prog 12 [D.agg (aZ.c aF),D.sl (ay.map aJ.c)] (D.fr 46 3 (r.map bE.c)):=by
 refine gd func12 [[some (46,3)]] 16 fun hr Γ hΓ=>?_
 rw[k7]at h;obtain⟨y1,h2,h⟩:=aC h;obtain⟨h3,h⟩|⟨h3,h⟩:=aL h
 ·cases h;exact(((aW.g (dF h2)).r 4 h3).T 1).ret hΓ
 ·obtain⟨y4,h5,h⟩:=aC h;have lH:=((((aW.g (dF h2)).r 2 h3).g (w6 h5)).r 2 h3)
  obtain⟨h6,h⟩|⟨h6,h⟩:=aL h
  ·cases h;exact(lH.b h6).ret hΓ
  ·obtain⟨y7,h8,h⟩:=aC h;have h:=aM h;subst h;exact((lH.b h6).g (vU h8)).ret hΓ
def gD(aF:aD)(ay:aD)(k1:Option Bool):aD->Nat->Option Bool
 | [],i1=>(k1)
 |bu::fY,i1=>((lG ay (i1:Int)).bind fun x22=>(bif !((bu:Bytes)==x22)then(some false)else(gD aF ay k1 fY (i1+1))))
def kK(aF:aD)(ay:aD):Option Bool:=(bif (((aF.map tx).length:Int):Int) != ((ay.map tx).length:Int)then(some false)else(gD aF ay (some true) aF 0))
def ve(aF:aD)(ay:aD)(jc:Int):St:=⟨[(0,D.sl (aF.map tx)),(1,D.sl (ay.map tx)),(5,D.int .i64 jc)],[]⟩
theorem ul(hΓ:Γ.nt=26){aF:aD}{ay:aD}{r:Bool}{k1:Option Bool}(ju:k1=some r->Ax Γ N f133 (.q [[none]] (D.bool r)) [1,1,1] ⟨[],[]⟩)(hm1:aF.length<=maxLen):∀(rest:aD) (i1:Nat),aF.drop i1=rest->gD aF ay k1 rest i1=some r->Ar Γ N f133 (.q [[none]] (D.bool r)) [1,1,0,1,0] (rest.length+1) (ve aF ay (i1:Int)):=by
 intro rest
 induction rest with
 |nil=>
  intro i1 bL h;rw[gD]at h;refine aa fun N1 hN1 eT=>?_
  exact((aW.ge tx bL).a [.hl 0 [] []]).ex hΓ hN1 (ju h)
 |cons bu fY ih1=>
  intro i1 bL h;rw[gD]at h;refine aa fun N1 hN1 eT=>?_
  obtain⟨x22,h23,h⟩:=aC h;have kN:=((((aW.lt tx bL).a [.n 8]).l (cI tx 1 (dc bL) rfl)).l (jI tx 1 h23 rfl))
  obtain⟨h24,h⟩|⟨h24,h⟩:=aL h
  ·have h:=aM h;subst h;exact(kN.b h24).ret hΓ
  ·exact((kN.b h24).a [.cn [0,1,5] []]).ct hΓ eT (iS bL hm1) (ih1 (i1+1) (dn bL) h)
theorem tq{aF:aD}{ay:aD}{r:Bool}(h:kK aF ay=some r):Good prog 133 [D.sl (aF.map tx),D.sl (ay.map tx)] (D.bool r):=by
 refine gd func133 [[none]] 26 fun hr Γ hΓ=>?_
 rw[kK]at h;obtain⟨h1,h⟩|⟨h1,h⟩:=aL h
 ·have h:=aM h;subst h;exact(aW.b h1).ret hΓ
 ·refine((aW.b h1).a [.cn [0,1,5] []]).lp hΓ (ul hΓ (fun h=>?_) (by have:=(n9.sl (hr _ (aE (i:=0) rfl))).1;simpa using this) aF 0 rfl h);have h:=aM h;subst h;exact aW.ret hΓ
def mV(aF:aJ)(ay:aJ):Option Bool:=(bif (aF.rel:Bytes)==ay.rel then((kK aF.args ay.args).bind fun y2=>(some y2))else(some false))
theorem yZ{aF:aJ}{ay:aJ}{r:Bool}(h:mV aF ay=some r):Good prog 107 [D.agg (aJ.c aF),D.agg (aJ.c ay)] (D.bool r):=by
 refine gd func107 [[none]] 17 fun hr Γ hΓ=>?_
 rw[mV]at h;obtain⟨h1,h⟩|⟨h1,h⟩:=aL h
 ·obtain⟨y2,h3,h⟩:=aC h;have h:=aM h;subst h;exact(((aW.r 5 h1).g (tq h3)).b h1).ret hΓ
 ·have h:=aM h;subst h;exact(aW.r 6 h1).ret hΓ
def iO(aF:aU)(ay:aU)(k1:Option Bool):aU->Nat->Option Bool
 | [],i1=>(k1)
 |bu::fY,i1=>((lG ay (i1:Int)).bind fun x30=>((mV bu x30).bind fun UB=>(bif !(UB)then(some false)else(iO aF ay k1 fY (i1+1)))))
def lT(aF:aU)(ay:aU):Option Bool:=(bif (((aF.map aJ.c).length:Int):Int) != ((ay.map aJ.c).length:Int)then(some false)else(iO aF ay (some true) aF 0))
def xj(aF:aU)(ay:aU)(jc:Int):St:=⟨[(0,D.sl (aF.map aJ.c)),(1,D.sl (ay.map aJ.c)),(5,D.int .i64 jc)],[]⟩
theorem wN(hΓ:Γ.nt=27){aF:aU}{ay:aU}{r:Bool}{k1:Option Bool}(ju:k1=some r->Ax Γ N f77 (.q [[none]] (D.bool r)) [1,1,1] ⟨[],[]⟩)(hm1:aF.length<=maxLen):∀(rest:aU) (i1:Nat),aF.drop i1=rest->iO aF ay k1 rest i1=some r->Ar Γ N f77 (.q [[none]] (D.bool r)) [1,1,0,1,0] (rest.length+1) (xj aF ay (i1:Int)):=by
 intro rest
 induction rest with
 |nil=>
  intro i1 bL h;rw[iO]at h;refine aa fun N1 hN1 eT=>?_
  exact((aW.ge aJ.c bL).a [.hl 0 [] []]).ex hΓ hN1 (ju h)
 |cons bu fY ih1=>
  intro i1 bL h;rw[iO]at h;refine aa fun N1 hN1 eT=>?_
  obtain⟨x30,h31,h⟩:=aC h;obtain⟨UB,h33,h⟩:=aC h;have kN:=(((((aW.lt aJ.c bL).a [.n 8]).l (cI aJ.c 2 (dc bL) rfl)).l (jI aJ.c 2 h31 rfl)).g (yZ h33))
  obtain⟨h34,h⟩|⟨h34,h⟩:=aL h
  ·have h:=aM h;subst h;exact(kN.b h34).ret hΓ
  ·exact((kN.b h34).a [.cn [0,1,5] []]).ct hΓ eT (iS bL hm1) (ih1 (i1+1) (dn bL) h)
theorem vb{aF:aU}{ay:aU}{r:Bool}(h:lT aF ay=some r):Good prog 77 [D.sl (aF.map aJ.c),D.sl (ay.map aJ.c)] (D.bool r):=by
 refine gd func77 [[none]] 27 fun hr Γ hΓ=>?_
 rw[lT]at h;obtain⟨h1,h⟩|⟨h1,h⟩:=aL h
 ·have h:=aM h;subst h;exact(aW.b h1).ret hΓ
 ·refine((aW.b h1).a [.cn [0,1,5] []]).lp hΓ (wN hΓ (fun h=>?_) (by have:=(n9.sl (hr _ (aE (i:=0) rfl))).1;simpa using this) aF 0 rfl h);have h:=aM h;subst h;exact aW.ret hΓ
def eN(aF:ah)(ay:ah)(k1:Option Bool):ah->Nat->Option Bool
 | [],i1=>(k1)
 |bu::fY,i1=>((lG ay (i1:Int)).bind fun x22=>(bif !((bu.var:Bytes)==x22.var&&(bu.value:Bytes)==x22.value)then(some false)else(eN aF ay k1 fY (i1+1))))
def jM(aF:ah)(ay:ah):Option Bool:=(bif (((aF.map aj.c).length:Int):Int) != ((ay.map aj.c).length:Int)then(some false)else(eN aF ay (some true) aF 0))
def tv(aF:ah)(ay:ah)(jc:Int):St:=⟨[(0,D.sl (aF.map aj.c)),(1,D.sl (ay.map aj.c)),(5,D.int .i64 jc)],[]⟩
theorem tP(hΓ:Γ.nt=26){aF:ah}{ay:ah}{r:Bool}{k1:Option Bool}(ju:k1=some r->Ax Γ N f78 (.q [[none]] (D.bool r)) [1,1,1] ⟨[],[]⟩)(hm1:aF.length<=maxLen):∀(rest:ah) (i1:Nat),aF.drop i1=rest->eN aF ay k1 rest i1=some r->Ar Γ N f78 (.q [[none]] (D.bool r)) [1,1,0,1,0] (rest.length+1) (tv aF ay (i1:Int)):=by
 intro rest
 induction rest with
 |nil=>
  intro i1 bL h;rw[eN]at h;refine aa fun N1 hN1 eT=>?_
  exact((aW.ge aj.c bL).a [.hl 0 [] []]).ex hΓ hN1 (ju h)
 |cons bu fY ih1=>
  intro i1 bL h;rw[eN]at h;refine aa fun N1 hN1 eT=>?_
  obtain⟨x22,h23,h⟩:=aC h;have kN:=((((aW.lt aj.c bL).a [.n 8]).l (cI aj.c 2 (dc bL) rfl)).l (jI aj.c 2 h23 rfl))
  obtain⟨h24,h⟩|⟨h24,h⟩:=aL h
  ·have h:=aM h;subst h;exact(kN.b h24).ret hΓ
  ·exact((kN.b h24).a [.cn [0,1,5] []]).ct hΓ eT (iS bL hm1) (ih1 (i1+1) (dn bL) h)
theorem sZ{aF:ah}{ay:ah}{r:Bool}(h:jM aF ay=some r):Good prog 78 [D.sl (aF.map aj.c),D.sl (ay.map aj.c)] (D.bool r):=by
 refine gd func78 [[none]] 26 fun hr Γ hΓ=>?_
 rw[jM]at h;obtain⟨h1,h⟩|⟨h1,h⟩:=aL h
 ·have h:=aM h;subst h;exact(aW.b h1).ret hΓ
 ·refine((aW.b h1).a [.cn [0,1,5] []]).lp hΓ (tP hΓ (fun h=>?_) (by have:=(n9.sl (hr _ (aE (i:=0) rfl))).1;simpa using this) aF 0 rfl h);have h:=aM h;subst h;exact aW.ret hΓ
def lU(aF:bE)(ay:bE):Option Bool:=(bif (aF.rule:Bytes)==ay.rule then((lT aF.facts ay.facts).bind fun y2=>(bif y2 then((jM aF.bind ay.bind).bind fun y5=>(some y5))else(some false)))else(some false))
theorem vc{aF:bE}{ay:bE}{r:Bool}(h:lU aF ay=some r):Good prog 45 [D.agg (bE.c aF),D.agg (bE.c ay)] (D.bool r):=by
 refine gd func45 [[none]] 24 fun hr Γ hΓ=>?_
 rw[lU]at h;obtain⟨h1,h⟩|⟨h1,h⟩:=aL h
 ·obtain⟨y2,h3,h⟩:=aC h;have lH:=(((aW.r 5 h1).g (vb h3)).b h1)
  obtain⟨h4,h⟩|⟨h4,h⟩:=aL h
  ·obtain⟨y5,h6,h⟩:=aC h;have h:=aM h;subst h;exact(((lH.r 5 h4).g (sZ h6)).b h4).ret hΓ
  ·have h:=aM h;subst h;exact(lH.r 6 h4).ret hΓ
 ·have h:=aM h;subst h;exact((aW.r 6 h1).F 6).ret hΓ
end Go.Cx

/- What functions of the program compute, and the walks that show it. No condition. -/
import Derived.Test.YtbeaohmbmfjabaaGreatDoorPPutInNetworkG5
set_option linter.unusedVariables false
set_option linter.unusedSimpArgs false
namespace Go.Cx
open Go.RowKit Go.Proofs Tryz
set_option maxRecDepth 100000
variable{Γ:vY}{N:Nat->St->Prop}
def jM(aB:aF)(k1:aj->Option aj):Nat->Int->aj->Option aj
 |0,_,_=>none
 |n1+1,b7,bu=>((lB b7 1 (IntKind.i64.wrap (((aB.nodes.map Node.c).length:Int)-1))).bind fun y28=>(bif y28 then((mC aB.nodes b7).bind fun x31=>((jx x31.cond).bind fun BR=>(bif room (([[D.int .i64 BR.kind,D.str BR.pat.rel,D.sl (BR.pat.args.map tx),D.str BR.left,D.str BR.right]]).length+(bu.map aN.c).length) 80 then(bif decide ((x31.parent:Int)>=b7)then(k1 (([BR])++bu))else(jM aB k1 n1 x31.parent (([BR])++bu)))else none)))else(k1 bu)))
def xS(aB:aF)(aV:Int):Option aj:=(jM aB (fun(bO:aj)=>(some bO)) fuel aV ([]:aj))
def DY(aB:aF)(b7:Int)(W1:List aS):St:=⟨[(1,D.int .i64 b7),(2,D.ptr 0 0),(5,D.acc 1)],[Ob.box (aF.c aB),Ob.row .uq 115 5 W1]⟩
theorem Mu(hΓ:Γ.nt=35){aB:aF}{r:aj}{k1:aj->Option aj}(cY:∀(bO:aj),k1 bO=some r->Ax Γ N f90 (.q [[some (115,5)]] (D.fr 115 5 (r.map aN.c))) [1,1,1] ⟨[(5,D.acc 0)],[Ob.row .uq 115 5 (bO.map aN.c)]⟩):∀(n1:Nat) (b7:Int) (bu:aj),jM aB k1 n1 b7 bu=some r->Ar Γ N f90 (.q [[some (115,5)]] (D.fr 115 5 (r.map aN.c))) [1,1,0,0] n1 (DY aB b7 (bu.map aN.c)):=by
 intro n
 induction n with
 |zero=>intro b7 bu h;simp[jM]at h
 |succ n1 ih1=>
  intro b7 bu h;rw[jM]at h;refine aM fun N1 bw bn=>?_
  obtain⟨y28,h29,h⟩:=aD h;obtain⟨h30,h⟩|⟨h30,h⟩:=aK h
  ·obtain⟨x31,h32,h⟩:=aD h;obtain⟨BR,h34,h⟩:=aD h;obtain⟨h35,h⟩:=bV h;have dH:=((((((aU.g (gC h29)).b h30).l (dX Node.c 8 h32 rfl)).g (qK h34)).w (cA h35)).l (dX Node.c 8 h32 rfl))
   obtain⟨h36,h⟩|⟨h36,h⟩:=aK h
   ·exact((dH.b h36).a [.hl 0 [5] [4]]).exs hΓ bw ⟨[(5,D.acc 0)],[Ob.row .uq 115 5 (([[D.int .i64 BR.kind,D.str BR.pat.rel,D.sl (BR.pat.args.map tx),D.str BR.left,D.str BR.right]])++(bu.map aN.c))]⟩ (by first| (simp only[mA]<;>rfl)| (simp only[mA,aE.c,aR.c,aN.c,Action.c,aO.c,aI.c,cr.c,aQ.c,Node.c,aF.c,cv.c]<;>rfl)) (cY (([BR])++bu) h)
   ·exact((dH.b h36).a [.cn [1,2,5] [0,4]]).cs hΓ bn (DY aB x31.parent (([[D.int .i64 BR.kind,D.str BR.pat.rel,D.sl (BR.pat.args.map tx),D.str BR.left,D.str BR.right]])++(bu.map aN.c))) (by first| (simp only[mA]<;>rfl)| (simp only[mA,aE.c,aR.c,aN.c,Action.c,aO.c,aI.c,cr.c,aQ.c,Node.c,aF.c,cv.c]<;>rfl)) (ih1 x31.parent (([BR])++bu) h)
  ·exact(((aU.g (gC h29)).b h30).a [.hl 0 [5] [1]]).ex hΓ bw (cY bu h)
theorem LX{aB:aF}{aV:Int}{r:aj}(h:xS aB aV=some r):Good prog 90 [D.agg (aF.c aB),D.int .i64 aV] (D.fr 115 5 (r.map aN.c)):=by
 refine gd func90 [[some (115,5)]] 35 fun hr Γ hΓ=>?_
 rw[xS]at h;refine(aU.a [.cn [1,2,5] [0,1]]).lp hΓ (Mu hΓ (fun bO h=>?_) fuel aV ([]:aj) h);have h:=aG h;subst h;exact aU.ret hΓ
def uV(aB:Bytes):Option Bool:=((oa aB).bind fun y1=>(some y1.2))
theorem zy{aB:Bytes}{r:Bool}(h:uV aB=some r):Good prog 281 [D.str aB] (D.bool r):=by
 refine gd func281 [[none]] 11 fun hr Γ hΓ=>?_
 rw[uV]at h;obtain⟨y1,h2,h⟩:=aD h;cases h;exact(aU.g (wI h2)).ret hΓ
def tL(aB:aN)(aV:aT):Option Bool:=((rW aB).bind fun y1=>(bif !(y1)then(some false)else((kx aV).bind fun y4=>(bif !(y4)then(some false)else((qI aV aB.left).bind fun y7=>((qI aV aB.right).bind fun y9=>(bif !(y7.2)then(some false)else(bif !(y9.2)then(some false)else(bif (aB.kind:Int)==3 then(some ((y7.1:Bytes)==y9.1))else(bif (aB.kind:Int)==4 then(some (!((y7.1:Bytes)==y9.1)))else((uV y7.1).bind fun Vu=>(bif Vu then((uV y9.1).bind fun y18=>(bif y18 then((jd y7.1 y9.1).bind fun RI=>(some (decide ((RI:Int)<0))))else(some false)))else(some false)))))))))))))
theorem Fi{aB:aN}{aV:aT}{r:Bool}(h:tL aB aV=some r):Good prog 270 [D.agg (aN.c aB),D.sl (aV.map aR.c)] (D.bool r):=by
 refine gd func270 [[none]] 61 fun hr Γ hΓ=>?_
 rw[tL]at h;obtain⟨y1,h2,h⟩:=aD h;obtain⟨h3,h⟩|⟨h3,h⟩:=aK h
 ·have h:=aG h;subst h;exact(((aU.g (th h2)).r 4 h3).T 1).ret hΓ
 ·obtain⟨y4,h5,h⟩:=aD h;have k7:=((((aU.g (th h2)).r 2 h3).g (mi h5)).r 2 h3)
  obtain⟨h6,h⟩|⟨h6,h⟩:=aK h
  ·have h:=aG h;subst h;exact(k7.b h6).ret hΓ
  ·obtain⟨y7,h8,h⟩:=aD h;obtain⟨y9,h10,h⟩:=aD h;have dH:=(((k7.b h6).g (xA h8)).g (xA h10))
   obtain⟨h11,h⟩|⟨h11,h⟩:=aK h
   ·have h:=aG h;subst h;exact((dH.r 3 h11).T 1).ret hΓ
   ·have jU:=(dH.r 3 h11)
    obtain⟨h12,h⟩|⟨h12,h⟩:=aK h
    ·have h:=aG h;subst h;exact(jU.b h12).ret hΓ
    ·obtain⟨h13,h⟩|⟨h13,h⟩:=aK h
     ·cases h;exact((jU.b h12).b h13).ret hΓ
     ·have iU:=((jU.b h12).b h13)
      obtain⟨h14,h⟩|⟨h14,h⟩:=aK h
      ·cases h;exact(iU.b h14).ret hΓ
      ·obtain⟨Vu,h16,h⟩:=aD h;have tX:=((iU.b h14).g (zy h16))
       obtain⟨h17,h⟩|⟨h17,h⟩:=aK h
       ·obtain⟨y18,h19,h⟩:=aD h;have wL:=(((tX.r 2 h17).g (zy h19)).b h17)
        obtain⟨h20,h⟩|⟨h20,h⟩:=aK h
        ·obtain⟨RI,h22,h⟩:=aD h;cases h;exact(((wL.r 3 h20).g (xP h22)).r 2 h20).ret hΓ
        ·have h:=aG h;subst h;exact(wL.r 5 h20).ret hΓ
       ·have h:=aG h;subst h;exact((tX.r 3 h17).F 5).ret hΓ
def tK(aB:aN)(aV:aT)(cW:aP):Option Bool:=((rU aB).bind fun y1=>(bif !(y1)then(some false)else((kx aV).bind fun y4=>(bif !(y4)then(some false)else(bif (aB.kind:Int)==1 then((gQ aB.pat aV cW).bind fun y8=>(some (decide ((((y8.map aE.c).length:Int):Int)>0))))else(bif (aB.kind:Int)==2 then((gQ aB.pat aV cW).bind fun Pv=>(some ((((Pv.map aE.c).length:Int):Int)==0)))else((tL aB aV).bind fun s8=>(some s8))))))))
theorem Fh{aB:aN}{aV:aT}{cW:aP}{r:Bool}(h:tK aB aV cW=some r):Good prog 229 [D.agg (aN.c aB),D.sl (aV.map aR.c),D.sl (cW.map aE.c)] (D.bool r):=by
 refine gd func229 [[none]] 38 fun hr Γ hΓ=>?_
 rw[tK]at h;obtain⟨y1,h2,h⟩:=aD h;obtain⟨h3,h⟩|⟨h3,h⟩:=aK h
 ·have h:=aG h;subst h;exact(((aU.g (qH h2)).r 4 h3).T 1).ret hΓ
 ·obtain⟨y4,h5,h⟩:=aD h;have k7:=((((aU.g (qH h2)).r 2 h3).g (mi h5)).r 2 h3)
  obtain⟨h6,h⟩|⟨h6,h⟩:=aK h
  ·have h:=aG h;subst h;exact(k7.b h6).ret hΓ
  ·obtain⟨h7,h⟩|⟨h7,h⟩:=aK h
   ·obtain⟨y8,h9,h⟩:=aD h;cases h;exact(((k7.b h6).b h7).g (gR h9)).ret hΓ
   ·have dH:=((k7.b h6).b h7)
    obtain⟨h10,h⟩|⟨h10,h⟩:=aK h
    ·obtain⟨Pv,h12,h⟩:=aD h;cases h;exact((dH.b h10).g (gR h12)).ret hΓ
    ·obtain⟨s8,h14,h⟩:=aD h;have h:=aG h;subst h;exact((dH.b h10).g (Fi h14)).ret hΓ
def nV(aB:ah)(aV:aN)(cW:aP)(i1:Nat)(bD:aI)(k2:ah->Option ah):aP->Nat->ah->Option ah
 | [],i2,k6=>(k2 k6)
 |lM::wR,i2,k6=>((jL aV.pat lM bD.bind).bind fun a0M=>(bif a0M.2 then((dP bD.facts).bind fun a0N=>((ew lM).bind fun U4=>(bif room ((a0N.map aE.c).length+([[D.str U4.rel,D.sl (U4.args.map tx)]]).length) 40 then(bif room ((k6.map aI.c).length+([[D.sl ((a0N.map aE.c)++([[D.str U4.rel,D.sl (U4.args.map tx)]])),D.sl (a0M.1.map aR.c)]]).length) 48 then(nV aB aV cW i1 bD k2 wR (i2+1) (k6++([(⟨a0N++([U4]),a0M.1⟩:aI)])))else none)else none)))else(nV aB aV cW i1 bD k2 wR (i2+1) k6)))
def gq(aB:ah)(aV:aN)(cW:aP)(k1:ah->Option ah):ah->Nat->ah->Option ah
 | [],i1,bu=>(k1 bu)
 |bD::bg,i1,bu=>(bif (aV.kind:Int) != 1 then((tK aV bD.bind cW).bind fun aB7=>(bif aB7 then((rZ bD).bind fun Xp=>(bif room ((bu.map aI.c).length+([[D.sl (Xp.facts.map aE.c),D.sl (Xp.bind.map aR.c)]]).length) 48 then(gq aB aV cW k1 bg (i1+1) (bu++([Xp])))else none))else(gq aB aV cW k1 bg (i1+1) bu)))else(bif decide (cW.length<=maxLen)then(nV aB aV cW i1 bD (fun(yl:ah)=>(gq aB aV cW k1 bg (i1+1) yl)) cW 0 bu)else none))
def rj(aB:ah)(aV:aN)(cW:aP):Option ah:=(gq aB aV cW (fun(bO:ah)=>(some bO)) aB 0 ([]:ah))
def Db(aB:ah)(aV:aN)(cW:aP)(W0:List aS)(cT:Int):St:=⟨[(0,D.sl (aB.map aI.c)),(2,D.sl (cW.map aE.c)),(4,D.ptr 0 0),(7,D.acc 1),(8,D.int .i64 cT)],[Ob.box (aN.c aV),Ob.row .uq 124 2 W0]⟩
def Dc(aB:ah)(aV:aN)(cW:aP)(i1:Nat)(W0:List aS)(cT:Int):St:=⟨[(0,D.sl (aB.map aI.c)),(2,D.sl (cW.map aE.c)),(4,D.ptr 0 0),(7,D.acc 1),(8,D.int .i64 (i1:Int)),(9,D.int .i64 cT)],[Ob.box (aN.c aV),Ob.row .uq 124 2 W0]⟩
theorem N9(hΓ:Γ.nt=79){aB:ah}{aV:aN}{cW:aP}{i1:Nat}{bD:aI}{r:ah}{k2:ah->Option ah}(CZ:∀(yl:ah),k2 yl=some r->Ax Γ N f154 (.q [[some (124,2)]] (D.fr 124 2 (r.map aI.c))) [1,1,0,1,0,0,1,1] ⟨[(0,D.sl (aB.map aI.c)),(2,D.sl (cW.map aE.c)),(4,D.ptr 0 0),(7,D.acc 1),(8,D.int .i64 (i1:Int))],[Ob.box (aN.c aV),Ob.row .uq 124 2 (yl.map aI.c)]⟩)(hx1:(aB)[i1]?=some bD)(hm2:cW.length<=maxLen):∀(rest:aP) (i2:Nat) (k6:ah),cW.drop i2=rest->nV aB aV cW i1 bD k2 rest i2 k6=some r->Ar Γ N f154 (.q [[some (124,2)]] (D.fr 124 2 (r.map aI.c))) [1,1,0,1,0,0,1,0,0,1,1,0] (rest.length+1) (Dc aB aV cW i1 (k6.map aI.c) (i2:Int)):=by
 intro rest
 induction rest with
 |nil=>
  intro i2 k6 hd2 h;rw[nV]at h;refine aM fun N2 xV ud=>?_
  exact((aU.ge aE.c hd2).a [.hl 3 [0,2,4,7,8] [0,1]]).ex hΓ xV (CZ k6 h)
 |cons lM wR ih2=>
  intro i2 k6 hd2 h;rw[nV]at h;refine aM fun N2 xV ud=>?_
  obtain⟨a0M,h652,h⟩:=aD h;have Hx:=(((((aU.lt aE.c hd2).a [.n 16]).l (av aE.c 2 (dc hd2) rfl)).l (av aI.c 2 hx1 rfl)).g (qW h652))
  obtain⟨h653,h⟩|⟨h653,h⟩:=aK h
  ·obtain⟨a0N,h660,h⟩:=aD h;obtain⟨U4,h662,h⟩:=aD h;obtain⟨h663,h⟩:=bV h;obtain⟨h664,h⟩:=bV h;exact(((((((((Hx.b h653).a [.n2 [0,1,2,3,4,5,6,7,8,9,10,11,14,12,13,15,16,17,18] [0,1,2,3,4,5,6,7,8,9,10,11,13,14,12,15,16,17,18] 13 17 [0,12] [2,3,4,5,6]]).l (av aI.c 2 hx1 rfl)).g (fI h660)).l (av aE.c 2 (dc hd2) rfl)).g (ga h662)).w (cA h663)).w (cA h664)).a [.cn [0,2,4,7,8,9] [0,8]]).cs hΓ ud (Dc aB aV cW i1 ((k6.map aI.c)++([[D.sl ((a0N.map aE.c)++([[D.str U4.rel,D.sl (U4.args.map tx)]])),D.sl (a0M.1.map aR.c)]])) (IntKind.i64.wrap ((i2:Int)+1))) (by first| (simp only[iS hd2 hm2,mA]<;>rfl)| (simp only[iS hd2 hm2,mA,aE.c,aR.c,aN.c,Action.c,aO.c,aI.c,cr.c,aQ.c,Node.c,aF.c,cv.c]<;>rfl)) (ih2 (i2+1) (k6++([(⟨a0N++([U4]),a0M.1⟩:aI)])) (dn hd2) h)
  ·exact((Hx.b h653).a [.cn [0,2,4,7,8,9] [0,1]]).ct hΓ ud (iS hd2 hm2) (ih2 (i2+1) k6 (dn hd2) h)
theorem N8(hΓ:Γ.nt=79){aB:ah}{aV:aN}{cW:aP}{r:ah}{k1:ah->Option ah}(cY:∀(bO:ah),k1 bO=some r->Ax Γ N f154 (.q [[some (124,2)]] (D.fr 124 2 (r.map aI.c))) [1,1,1] ⟨[(7,D.acc 0)],[Ob.row .uq 124 2 (bO.map aI.c)]⟩)(hm1:aB.length<=maxLen):∀(rest:ah) (i1:Nat) (bu:ah),aB.drop i1=rest->gq aB aV cW k1 rest i1 bu=some r->Ar Γ N f154 (.q [[some (124,2)]] (D.fr 124 2 (r.map aI.c))) [1,1,0,1,0] (rest.length+1) (Db aB aV cW (bu.map aI.c) (i1:Int)):=by
 intro rest
 induction rest with
 |nil=>
  intro i1 bu aq h;rw[gq]at h;refine aM fun N1 bw bn=>?_
  exact((aU.ge aI.c aq).a [.hl 0 [7] [1]]).ex hΓ bw (cY bu h)
 |cons bD bg ih1=>
  intro i1 bu aq h;rw[gq]at h;refine aM fun N1 bw bn=>?_
  obtain⟨h563,h⟩|⟨h563,h⟩:=aK h
  ·obtain⟨aB7,h565,h⟩:=aD h;have Hy:=(((((aU.lt aI.c aq).b h563).a [.n 7]).l (av aI.c 2 (dc aq) rfl)).g (Fh h565))
   obtain⟨h566,h⟩|⟨h566,h⟩:=aK h
   ·obtain⟨Xp,h568,h⟩:=aD h;obtain⟨h569,h⟩:=bV h;exact(((((Hy.b h566).l (av aI.c 2 (dc aq) rfl)).g (Bw h568)).w (cA h569)).a [.cn [0,2,4,7,8] [0,5]]).cs hΓ bn (Db aB aV cW ((bu.map aI.c)++([[D.sl (Xp.facts.map aE.c),D.sl (Xp.bind.map aR.c)]])) (IntKind.i64.wrap ((i1:Int)+1))) (by first| (simp only[iS aq hm1,mA]<;>rfl)| (simp only[iS aq hm1,mA,aE.c,aR.c,aN.c,Action.c,aO.c,aI.c,cr.c,aQ.c,Node.c,aF.c,cv.c]<;>rfl)) (ih1 (i1+1) (bu++([Xp])) (dn aq) h)
   ·exact((Hy.b h566).a [.cn [0,2,4,7,8] [0,1]]).ct hΓ bn (iS aq hm1) (ih1 (i1+1) bu (dn aq) h)
  ·obtain⟨h665,h⟩:=bV h;refine(((aU.lt aI.c aq).b h563).a [.cn [0,2,4,7,8,9] [0,1]]).lp hΓ (N9 hΓ (fun yl h=>?_) ((drop_cons aq).1) (bt h665) cW 0 bu rfl h);exact(aU.a [.cn [0,2,4,7,8] [0,1]]).ct hΓ bn (iS aq hm1) (ih1 (i1+1) yl (dn aq) h)
theorem tq{aB:ah}{aV:aN}{cW:aP}{r:ah}(h:rj aB aV cW=some r):Good prog 154 [D.sl (aB.map aI.c),D.agg (aN.c aV),D.sl (cW.map aE.c)] (D.fr 124 2 (r.map aI.c)):=by
 refine gd func154 [[some (124,2)]] 79 fun hr Γ hΓ=>?_
 rw[rj]at h;refine(aU.a [.cn [0,2,4,7,8] [0,1]]).lp hΓ (N8 hΓ (fun bO h=>?_) (by have:=(dU.sl (hr _ (aC (i:=0) rfl))).1;simpa using this) aB 0 ([]:ah) rfl h);have h:=aG h;subst h;exact aU.ret hΓ
def kU(aB:aj)(aV:aP)(k1:ah->Option ah):aj->Nat->ah->Option ah
 | [],i1,bC=>(k1 bC)
 |bD::bg,i1,bC=>((rj bC bD aV).bind fun lI=>(kU aB aV k1 bg (i1+1) lI))
def uZ(aB:aj)(aV:aP):Option ah:=(kU aB aV (fun(bO:ah)=>(some bO)) aB 0 ([(⟨[],[]⟩:aI)]))
def Bx(aB:aj)(aV:aP)(W0:List aS)(cT:Int):St:=⟨[(0,D.sl (aB.map aN.c)),(1,D.sl (aV.map aE.c)),(5,D.acc 0),(6,D.int .i64 cT)],[Ob.row .uq 124 2 W0]⟩
theorem Jo(hΓ:Γ.nt=23){aB:aj}{aV:aP}{r:ah}{k1:ah->Option ah}(cY:∀(bO:ah),k1 bO=some r->Ax Γ N f89 (.q [[some (124,2)]] (D.fr 124 2 (r.map aI.c))) [1,1,1] ⟨[(5,D.acc 0)],[Ob.row .uq 124 2 (bO.map aI.c)]⟩)(hm1:aB.length<=maxLen):∀(rest:aj) (i1:Nat) (bC:ah),aB.drop i1=rest->kU aB aV k1 rest i1 bC=some r->Ar Γ N f89 (.q [[some (124,2)]] (D.fr 124 2 (r.map aI.c))) [1,1,0,1,0] (rest.length+1) (Bx aB aV (bC.map aI.c) (i1:Int)):=by
 intro rest
 induction rest with
 |nil=>
  intro i1 bC aq h;rw[kU]at h;refine aM fun N1 bw bn=>?_
  exact((aU.ge aN.c aq).a [.hl 0 [5] [0]]).ex hΓ bw (cY bC h)
 |cons bD bg ih1=>
  intro i1 bC aq h;rw[kU]at h;refine aM fun N1 bw bn=>?_
  obtain⟨lI,h23,h⟩:=aD h;exact((((aU.lt aN.c aq).l (av aN.c 5 (dc aq) rfl)).g (tq h23)).a [.cn [0,1,5,6] [1]]).ct hΓ bn (iS aq hm1) (ih1 (i1+1) lI (dn aq) h)
theorem HV{aB:aj}{aV:aP}{r:ah}(h:uZ aB aV=some r):Good prog 89 [D.sl (aB.map aN.c),D.sl (aV.map aE.c)] (D.fr 124 2 (r.map aI.c)):=by
 refine gd func89 [[some (124,2)]] 23 fun hr Γ hΓ=>?_
 rw[uZ]at h;refine(aU.a [.cn [0,1,5,6] [0]]).Ww hΓ (Bx aB aV ([[D.sl ([]),D.sl ([])]]) 0) (by first| (simp only[mA]<;>rfl)| (simp only[mA,aE.c,aR.c,aN.c,Action.c,aO.c,aI.c,cr.c,aQ.c,Node.c,aF.c,cv.c]<;>rfl)) (Jo hΓ (fun bO h=>?_) (by have:=(dU.sl (hr _ (aC (i:=0) rfl))).1;simpa using this) aB 0 ([(⟨[],[]⟩:aI)]) rfl h);have h:=aG h;subst h;exact aU.ret hΓ
def gD(aB:aT)(aV:aT)(k1:Option Bool):aT->Nat->Option Bool
 | [],i1=>(k1)
 |bD::bg,i1=>((mC aV (i1:Int)).bind fun x22=>(bif !((bD.var:Bytes)==x22.var&&(bD.value:Bytes)==x22.value)then(some false)else(gD aB aV k1 bg (i1+1))))
def lD(aB:aT)(aV:aT):Option Bool:=(bif (((aB.map aR.c).length:Int):Int) != ((aV.map aR.c).length:Int)then(some false)else(gD aB aV (some true) aB 0))
def Dd(aB:aT)(aV:aT)(cT:Int):St:=⟨[(0,D.sl (aB.map aR.c)),(1,D.sl (aV.map aR.c)),(5,D.int .i64 cT)],[]⟩
theorem Cs(hΓ:Γ.nt=26){aB:aT}{aV:aT}{r:Bool}{k1:Option Bool}(cY:k1=some r->Ax Γ N f153 (.q [[none]] (D.bool r)) [1,1,1] ⟨[],[]⟩)(hm1:aB.length<=maxLen):∀(rest:aT) (i1:Nat),aB.drop i1=rest->gD aB aV k1 rest i1=some r->Ar Γ N f153 (.q [[none]] (D.bool r)) [1,1,0,1,0] (rest.length+1) (Dd aB aV (i1:Int)):=by
 intro rest
 induction rest with
 |nil=>
  intro i1 aq h;rw[gD]at h;refine aM fun N1 bw bn=>?_
  exact((aU.ge aR.c aq).a [.hl 0 [] []]).ex hΓ bw (cY h)
 |cons bD bg ih1=>
  intro i1 aq h;rw[gD]at h;refine aM fun N1 bw bn=>?_
  obtain⟨x22,h23,h⟩:=aD h;have dH:=((((aU.lt aR.c aq).a [.n 8]).l (av aR.c 2 (dc aq) rfl)).l (dX aR.c 2 h23 rfl))
  obtain⟨h24,h⟩|⟨h24,h⟩:=aK h
  ·have h:=aG h;subst h;exact(dH.b h24).ret hΓ
  ·exact((dH.b h24).a [.cn [0,1,5] []]).ct hΓ bn (iS aq hm1) (ih1 (i1+1) (dn aq) h)
theorem CO{aB:aT}{aV:aT}{r:Bool}(h:lD aB aV=some r):Good prog 153 [D.sl (aB.map aR.c),D.sl (aV.map aR.c)] (D.bool r):=by
 refine gd func153 [[none]] 26 fun hr Γ hΓ=>?_
 rw[lD]at h;obtain⟨h1,h⟩|⟨h1,h⟩:=aK h
 ·have h:=aG h;subst h;exact(aU.b h1).ret hΓ
 ·refine((aU.b h1).a [.cn [0,1,5] []]).lp hΓ (Cs hΓ (fun h=>?_) (by have:=(dU.sl (hr _ (aC (i:=0) rfl))).1;simpa using this) aB 0 rfl h);have h:=aG h;subst h;exact aU.ret hΓ
def gb(aB:ah)(aV:ah)(k1:Option Bool):ah->Nat->Option Bool
 | [],i1=>(k1)
 |bD::bg,i1=>((mC aV (i1:Int)).bind fun x42=>((nP bD.facts x42.facts).bind fun y44=>(bif !(y44)then(some false)else((lD bD.bind x42.bind).bind fun y47=>(bif !(y47)then(some false)else(gb aB aV k1 bg (i1+1)))))))
def oy(aB:ah)(aV:ah):Option Bool:=(bif (((aB.map aI.c).length:Int):Int) != ((aV.map aI.c).length:Int)then(some false)else(gb aB aV (some true) aB 0))
def Ef(aB:ah)(aV:ah)(cT:Int):St:=⟨[(0,D.sl (aB.map aI.c)),(1,D.sl (aV.map aI.c)),(5,D.int .i64 cT)],[]⟩
theorem Dh(hΓ:Γ.nt=43){aB:ah}{aV:ah}{r:Bool}{k1:Option Bool}(cY:k1=some r->Ax Γ N f88 (.q [[none]] (D.bool r)) [1,1,1] ⟨[],[]⟩)(hm1:aB.length<=maxLen):∀(rest:ah) (i1:Nat),aB.drop i1=rest->gb aB aV k1 rest i1=some r->Ar Γ N f88 (.q [[none]] (D.bool r)) [1,1,0,1,0] (rest.length+1) (Ef aB aV (i1:Int)):=by
 intro rest
 induction rest with
 |nil=>
  intro i1 aq h;rw[gb]at h;refine aM fun N1 bw bn=>?_
  exact((aU.ge aI.c aq).a [.hl 0 [] []]).ex hΓ bw (cY h)
 |cons bD bg ih1=>
  intro i1 aq h;rw[gb]at h;refine aM fun N1 bw bn=>?_
  obtain⟨x42,h43,h⟩:=aD h;obtain⟨y44,h45,h⟩:=aD h;have jU:=(((((aU.lt aI.c aq).a [.n 23]).l (av aI.c 2 (dc aq) rfl)).l (dX aI.c 2 h43 rfl)).g (zH h45))
  obtain⟨h46,h⟩|⟨h46,h⟩:=aK h
  ·have h:=aG h;subst h;exact((jU.r 13 h46).T 1).ret hΓ
  ·obtain⟨y47,h48,h⟩:=aD h;have iU:=(((((((jU.r 3 h46).l (av aI.c 2 (dc aq) rfl)).r 5 h46).l (dX aI.c 2 h43 rfl)).r 3 h46).g (CO h48)).r 2 h46)
   obtain⟨h49,h⟩|⟨h49,h⟩:=aK h
   ·have h:=aG h;subst h;exact(iU.b h49).ret hΓ
   ·exact((iU.b h49).a [.cn [0,1,5] []]).ct hΓ bn (iS aq hm1) (ih1 (i1+1) (dn aq) h)
theorem Cu{aB:ah}{aV:ah}{r:Bool}(h:oy aB aV=some r):Good prog 88 [D.sl (aB.map aI.c),D.sl (aV.map aI.c)] (D.bool r):=by
 refine gd func88 [[none]] 43 fun hr Γ hΓ=>?_
 rw[oy]at h;obtain⟨h1,h⟩|⟨h1,h⟩:=aK h
 ·have h:=aG h;subst h;exact(aU.b h1).ret hΓ
 ·refine((aU.b h1).a [.cn [0,1,5] []]).lp hΓ (Dh hΓ (fun h=>?_) (by have:=(dU.sl (hr _ (aC (i:=0) rfl))).1;simpa using this) aB 0 rfl h);have h:=aG h;subst h;exact aU.ret hΓ
def jf(aB:aF)(k1:Option Bool):b8->Nat->Option Bool
 | [],i1=>(k1)
 |bD::bg,i1=>((gQ bD.shape ([]) aB.facts).bind fun RJ=>((nP bD.facts RJ).bind fun o4=>(bif !(o4)then(some false)else(jf aB k1 bg (i1+1)))))
def jg(aB:aF)(k2:Option Bool):az->Nat->Option Bool
 | [],i2=>(k2)
 |lM::wR,i2=>((xS aB (i2:Int)).bind fun Xi=>((uZ Xi aB.facts).bind fun aAv=>((oy lM.tokens aAv).bind fun aAw=>(bif !(aAw)then(some false)else(jg aB k2 wR (i2+1))))))
def tM(aB:aF):Option Bool:=((ou aB.rules).bind fun y1=>(bif !(y1.2)then(some false)else((qm aB.facts).bind fun y4=>(bif !(y4)then(some false)else((rF aB y1.1).bind fun y7=>(bif !(y7)then(some false)else(bif decide ((aB.cL:Int)<0)then(some false)else(jf aB (jg aB (some true) aB.nodes 0) aB.ay 0))))))))
def Ja(aB:aF)(cT:Int):St:=⟨[(1,D.ptr 0 0),(5,D.int .i64 cT)],[Ob.box (aF.c aB)]⟩
theorem HL(hΓ:Γ.nt=77){aB:aF}{r:Bool}{k1:Option Bool}(cY:k1=some r->Ax Γ N f38 (.q [[none]] (D.bool r)) [1,1,1,1] ⟨[(1,D.ptr 0 0)],[Ob.box (aF.c aB)]⟩)(hm1:aB.ay.length<=maxLen):∀(rest:b8) (i1:Nat),aB.ay.drop i1=rest->jf aB k1 rest i1=some r->Ar Γ N f38 (.q [[none]] (D.bool r)) [1,1,1,0,1,0] (rest.length+1) (Ja aB (i1:Int)):=by
 intro rest
 induction rest with
 |nil=>
  intro i1 aq h;rw[jf]at h;refine aM fun N1 bw bn=>?_
  exact((aU.ge aQ.c aq).a [.hl 0 [1] [0]]).ex hΓ bw (cY h)
 |cons bD bg ih1=>
  intro i1 aq h;rw[jf]at h;refine aM fun N1 bw bn=>?_
  obtain⟨RJ,h40,h⟩:=aD h;obtain⟨o4,h42,h⟩:=aD h;have jU:=(((((((aU.lt aQ.c aq).a [.n 15]).l (av aQ.c 3 (dc aq) rfl)).l (av aQ.c 3 (dc aq) rfl)).a [.d (D.fr 53 2 (RJ.map aE.c))]).w (show Good prog 87 [D.agg (aE.c bD.shape),D.sl ([]),D.sl (aB.facts.map aE.c)] (D.fr 53 2 (RJ.map aE.c))from by first| (simpa only[bS,bH,bX,dl,dR]using gR h40)|exact gR h40)).g (zH h42))
  obtain⟨h43,h⟩|⟨h43,h⟩:=aK h
  ·have h:=aG h;subst h;exact(jU.b h43).ret hΓ
  ·exact((jU.b h43).a [.cn [1,5] [0]]).ct hΓ bn (iS aq hm1) (ih1 (i1+1) (dn aq) h)
def Jb(aB:aF)(cT:Int):St:=⟨[(1,D.ptr 0 0),(6,D.int .i64 cT)],[Ob.box (aF.c aB)]⟩
theorem HM(hΓ:Γ.nt=77){aB:aF}{r:Bool}{k2:Option Bool}(CZ:k2=some r->Ax Γ N f38 (.q [[none]] (D.bool r)) [1,1,1,1,1] ⟨[],[]⟩)(hm2:aB.nodes.length<=maxLen):∀(rest:az) (i2:Nat),aB.nodes.drop i2=rest->jg aB k2 rest i2=some r->Ar Γ N f38 (.q [[none]] (D.bool r)) [1,1,1,1,0,1,0] (rest.length+1) (Jb aB (i2:Int)):=by
 intro rest
 induction rest with
 |nil=>
  intro i2 hd2 h;rw[jg]at h;refine aM fun N2 xV ud=>?_
  exact((aU.ge Node.c hd2).a [.hl 0 [] []]).ex hΓ xV (CZ h)
 |cons lM wR ih2=>
  intro i2 hd2 h;rw[jg]at h;refine aM fun N2 xV ud=>?_
  obtain⟨Xi,h105,h⟩:=aD h;obtain⟨aAv,h107,h⟩:=aD h;obtain⟨aAw,h109,h⟩:=aD h;have iU:=((((((aU.lt Node.c hd2).a [.n2 [0,1,2,3,4,5,6,7,8,9,10,11,12,13] [0,1,2,3,4,5,6,7,8,9,10,11,12,13] 11 12 [0,1,2,3,4,5] []]).l (av Node.c 8 (dc hd2) rfl)).g (LX h105)).g (HV h107)).g (Cu h109))
  obtain⟨h110,h⟩|⟨h110,h⟩:=aK h
  ·have h:=aG h;subst h;exact(iU.b h110).ret hΓ
  ·exact((iU.b h110).a [.cn [1,6] [0]]).ct hΓ ud (iS hd2 hm2) (ih2 (i2+1) (dn hd2) h)
theorem Fj{aB:aF}{r:Bool}(h:tM aB=some r):Good prog 38 [D.agg (aF.c aB)] (D.bool r):=by
 refine gd func38 [[none]] 77 fun hr Γ hΓ=>?_
 rw[tM]at h;obtain⟨y1,h2,h⟩:=aD h;obtain⟨h3,h⟩|⟨h3,h⟩:=aK h
 ·have h:=aG h;subst h;exact(((aU.g (xQ h2)).r 5 h3).T 10).ret hΓ
 ·obtain⟨y4,h5,h⟩:=aD h;have tX:=((((aU.g (xQ h2)).r 3 h3).g (wH h5)).r 2 h3)
  obtain⟨h6,h⟩|⟨h6,h⟩:=aK h
  ·have h:=aG h;subst h;exact((tX.r 5 h6).T 5).ret hΓ
  ·obtain⟨y7,h8,h⟩:=aD h;have wL:=(((tX.r 3 h6).g (Ee h8)).r 2 h6)
   obtain⟨h9,h⟩|⟨h9,h⟩:=aK h
   ·have h:=aG h;subst h;exact((wL.r 4 h9).T 1).ret hΓ
   ·have AM:=(wL.r 4 h9)
    obtain⟨h10,h⟩|⟨h10,h⟩:=aK h
    ·have h:=aG h;subst h;exact(AM.b h10).ret hΓ
    ·refine((AM.b h10).a [.cn [1,5] [0]]).lp hΓ (HL hΓ (fun h=>?_) (by have:=(dU.sl (dU.agg (hr _ (aC (i:=0) rfl)) (.sl (aB.ay.map aQ.c)) (by simp))).1;simpa using this) aB.ay 0 rfl h);refine(aU.a [.cn [1,6] [0]]).lp hΓ (HM hΓ (fun h=>?_) (by have:=(dU.sl (dU.agg (hr _ (aC (i:=0) rfl)) (.sl (aB.nodes.map Node.c)) (by simp))).1;simpa using this) aB.nodes 0 rfl h);have h:=aG h;subst h;exact aU.ret hΓ
def iT(aB:aI)(aV:aI)(k1:Option Int):aP->Nat->Option Int
 | [],i1=>(k1)
 |bD::bg,i1=>(bif decide (((i1:Int):Int)<((aV.facts.map aE.c).length:Int))then((mC aV.facts (i1:Int)).bind fun x34=>((er bD x34).bind fun I7=>(bif (I7:Int) != 0 then(some I7)else(iT aB aV k1 bg (i1+1)))))else(k1))
def nu(aB:aI)(aV:aI):Option Int:=(iT aB aV (bif decide ((((aB.facts.map aE.c).length:Int):Int)<((aV.facts.map aE.c).length:Int))then(some (-1))else(bif decide ((((aB.facts.map aE.c).length:Int):Int)>((aV.facts.map aE.c).length:Int))then(some 1)else(some 0))) aB.facts 0)
def DU(aB:aI)(aV:aI)(cT:Int):St:=⟨[(2,D.ptr 0 0),(3,D.ptr 1 0),(5,D.int .i64 cT)],[Ob.box (aI.c aB),Ob.box (aI.c aV)]⟩
theorem Co(hΓ:Γ.nt=51){aB:aI}{aV:aI}{r:Int}{k1:Option Int}(cY:k1=some r->Ax Γ N f236 (.q [[none]] (D.int .i64 r)) [1,1] ⟨[(2,D.ptr 0 0),(3,D.ptr 1 0)],[Ob.box (aI.c aB),Ob.box (aI.c aV)]⟩)(hm1:aB.facts.length<=maxLen):∀(rest:aP) (i1:Nat),aB.facts.drop i1=rest->iT aB aV k1 rest i1=some r->Ar Γ N f236 (.q [[none]] (D.int .i64 r)) [1,0,1,0] (rest.length+1) (DU aB aV (i1:Int)):=by
 intro rest
 induction rest with
 |nil=>
  intro i1 aq h;rw[iT]at h;refine aM fun N1 bw bn=>?_
  exact((((((((aU.ge aE.c aq).ge aE.c aq).ge aE.c aq).ge aE.c aq).ge aE.c aq).ge aE.c aq).F 1).a [.hl 0 [2,3] [0,1]]).ex hΓ bw (cY h)
 |cons bD bg ih1=>
  intro i1 aq h;rw[iT]at h;refine aM fun N1 bw bn=>?_
  have jU:=((((((aU.lt aE.c aq).lt aE.c aq).lt aE.c aq).lt aE.c aq).lt aE.c aq).lt aE.c aq)
  obtain⟨h33,h⟩|⟨h33,h⟩:=aK h
  ·obtain⟨x34,h35,h⟩:=aD h;obtain⟨I7,h37,h⟩:=aD h;have iU:=(((((jU.b h33).a [.n 10]).l (av aE.c 2 (dc aq) rfl)).l (dX aE.c 2 h35 rfl)).g (nh h37))
   obtain⟨h38,h⟩|⟨h38,h⟩:=aK h
   ·have h:=aG h;subst h;exact(iU.b h38).ret hΓ
   ·exact((iU.b h38).a [.cn [2,3,5] [0,1]]).ct hΓ bn (iS aq hm1) (ih1 (i1+1) (dn aq) h)
  ·exact((jU.b h33).a [.hl 0 [2,3] [0,1]]).ex hΓ bw (cY h)
theorem CN{aB:aI}{aV:aI}{r:Int}(h:nu aB aV=some r):Good prog 236 [D.agg (aI.c aB),D.agg (aI.c aV)] (D.int .i64 r):=by
 refine gd func236 [[none]] 51 fun hr Γ hΓ=>?_
 rw[nu]at h;refine(aU.a [.cn [2,3,5] [0,1]]).lp hΓ (Co hΓ (fun h=>?_) (by have:=(dU.sl (dU.agg (hr _ (aC (i:=0) rfl)) (.sl (aB.facts.map aE.c)) (by simp))).1;simpa using this) aB.facts 0 rfl h);obtain⟨h39,h⟩|⟨h39,h⟩:=aK h
 ·cases h;exact(aU.b h39).ret hΓ
 ·obtain⟨h40,h⟩|⟨h40,h⟩:=aK h
  ·have h:=aG h;subst h;exact((aU.b h39).b h40).ret hΓ
  ·have h:=aG h;subst h;exact((aU.b h39).b h40).ret hΓ
def lF(aB:ah)(aV:ah)(i1:Nat)(bD:aI)(k2:Int->Option (Int×Int)):ah->Nat->Int->Option (Int×Int)
 | [],i2,tT=>(k2 tT)
 |lM::wR,i2,tT=>((nu bD lM).bind fun aAz=>(bif (aAz:Int)==0 then(lF aB aV i1 bD k2 wR (i2+1) (IntKind.i64.wrap (tT+1)))else(lF aB aV i1 bD k2 wR (i2+1) tT)))
def nZ(aB:ah)(aV:ah)(k1:Int->Option (Int×Int)):ah->Nat->Int->Option (Int×Int)
 | [],i1,jr=>(k1 jr)
 |bD::bg,i1,jr=>(bif decide (aV.length<=maxLen)then(lF aB aV i1 bD (fun(BL:Int)=>(nZ aB aV k1 bg (i1+1) BL)) aV 0 jr)else none)
def xU(aB:ah)(aV:ah):Option (Int×Int):=(nZ aB aV (fun(zW:Int)=>(some (zW,IntKind.i64.wrap (((aB.map aI.c).length:Int)-zW)))) aB 0 0)
def OO(aB:ah)(aV:ah)(jr:Int)(cT:Int):St:=⟨[(0,D.sl (aB.map aI.c)),(1,D.sl (aV.map aI.c)),(6,D.int .i64 jr),(7,D.int .i64 cT)],[]⟩
def OP(aB:ah)(aV:ah)(i1:Nat)(tT:Int)(cT:Int):St:=⟨[(0,D.sl (aB.map aI.c)),(1,D.sl (aV.map aI.c)),(6,D.int .i64 tT),(7,D.int .i64 (i1:Int)),(8,D.int .i64 cT)],[]⟩
theorem NG(hΓ:Γ.nt=38){aB:ah}{aV:ah}{i1:Nat}{bD:aI}{r:Int×Int}{k2:Int->Option (Int×Int)}(CZ:∀(BL:Int),k2 BL=some r->Ax Γ N f167 (.q [[none],[none]] (D.iF [D.int .i64 r.1,D.int .i64 r.2])) [1,1,0,1,0,0,1,1] ⟨[(0,D.sl (aB.map aI.c)),(1,D.sl (aV.map aI.c)),(6,D.int .i64 BL),(7,D.int .i64 (i1:Int))],[]⟩)(hx1:(aB)[i1]?=some bD)(hm2:aV.length<=maxLen):∀(rest:ah) (i2:Nat) (tT:Int),aV.drop i2=rest->lF aB aV i1 bD k2 rest i2 tT=some r->Ar Γ N f167 (.q [[none],[none]] (D.iF [D.int .i64 r.1,D.int .i64 r.2])) [1,1,0,1,0,0,1,0,0,1,0] (rest.length+1) (OP aB aV i1 tT (i2:Int)):=by
 intro rest
 induction rest with
 |nil=>
  intro i2 tT hd2 h;rw[lF]at h;refine aM fun N2 xV ud=>?_
  exact((aU.ge aI.c hd2).a [.hl 3 [0,1,6,7] []]).ex hΓ xV (CZ tT h)
 |cons lM wR ih2=>
  intro i2 tT hd2 h;rw[lF]at h;refine aM fun N2 xV ud=>?_
  obtain⟨aAz,h177,h⟩:=aD h;have BG:=(((((aU.lt aI.c hd2).a [.n 8]).l (av aI.c 2 hx1 rfl)).l (av aI.c 2 (dc hd2) rfl)).g (CN h177))
  obtain⟨h178,h⟩|⟨h178,h⟩:=aK h
  ·exact((BG.b h178).a [.cn [0,1,6,7,8] []]).ct hΓ ud (iS hd2 hm2) (ih2 (i2+1) (IntKind.i64.wrap (tT+1)) (dn hd2) h)
  ·exact((BG.b h178).a [.cn [0,1,6,7,8] []]).ct hΓ ud (iS hd2 hm2) (ih2 (i2+1) tT (dn hd2) h)
theorem NF(hΓ:Γ.nt=38){aB:ah}{aV:ah}{r:Int×Int}{k1:Int->Option (Int×Int)}(cY:∀(zW:Int),k1 zW=some r->Ax Γ N f167 (.q [[none],[none]] (D.iF [D.int .i64 r.1,D.int .i64 r.2])) [1,1,1] ⟨[(0,D.sl (aB.map aI.c)),(6,D.int .i64 zW)],[]⟩)(hm1:aB.length<=maxLen):∀(rest:ah) (i1:Nat) (jr:Int),aB.drop i1=rest->nZ aB aV k1 rest i1 jr=some r->Ar Γ N f167 (.q [[none],[none]] (D.iF [D.int .i64 r.1,D.int .i64 r.2])) [1,1,0,1,0] (rest.length+1) (OO aB aV jr (i1:Int)):=by
 intro rest
 induction rest with
 |nil=>
  intro i1 jr aq h;rw[nZ]at h;refine aM fun N1 bw bn=>?_
  exact((aU.ge aI.c aq).a [.hl 0 [0,6] []]).ex hΓ bw (cY jr h)
 |cons bD bg ih1=>
  intro i1 jr aq h;rw[nZ]at h;refine aM fun N1 bw bn=>?_
  obtain⟨h179,h⟩:=bV h;refine((aU.lt aI.c aq).a [.cn [0,1,6,7,8] []]).lp hΓ (NG hΓ (fun BL h=>?_) ((drop_cons aq).1) (bt h179) aV 0 jr rfl h);exact(aU.a [.cn [0,1,6,7] []]).ct hΓ bn (iS aq hm1) (ih1 (i1+1) BL (dn aq) h)
theorem Ll{aB:ah}{aV:ah}{r:Int×Int}(h:xU aB aV=some r):Good prog 167 [D.sl (aB.map aI.c),D.sl (aV.map aI.c)] (D.iF [D.int .i64 r.1,D.int .i64 r.2]):=by
 refine gd func167 [[none],[none]] 38 fun hr Γ hΓ=>?_
 rw[xU]at h;refine(aU.a [.cn [0,1,6,7] []]).lp hΓ (NF hΓ (fun zW h=>?_) (by have:=(dU.sl (hr _ (aC (i:=0) rfl))).1;simpa using this) aB 0 0 rfl h);cases h;exact aU.ret hΓ
def j6(aB:aF)(aV:aP)(cW:aE)(y1:aF)(y3:aP)(k1:List Bool->b8->Option aF):Nat->Int->List Bool->b8->Option aF
 |0,_,_,_=>none
 |n1+1,Jw,xD,Oh=>(bif decide ((Jw:Int)<((Oh.map aQ.c).length:Int))then((mC Oh Jw).bind fun x41=>((jL x41.shape cW ([])).bind fun F4=>(bif room ((xD.map bx).length+([[D.bool F4.2]]).length) 1 then((gQ x41.shape ([]) aV).bind fun y46=>(j6 aB aV cW y1 y3 k1 n1 (IntKind.i64.wrap (Jw+1)) (xD++([F4.2])) (Oh.set Jw.toNat (⟨x41.shape,y46⟩:aQ))))else none)))else(k1 xD Oh))
def eZ(aB:aF)(y1:aF)(y3:aP)(iO:List Bool)(wN:b8)(k2:Int->az->Option aF):Nat->Int->Int->az->Option aF
 |0,_,_,_=>none
 |n2+1,rJ,vX,rz=>(bif decide ((rJ:Int)<((rz.map Node.c).length:Int))then((mC rz rJ).bind fun x106=>((mC rz x106.parent).bind fun x108=>((mC aB.nodes x106.parent).bind fun x110=>((xU x108.tokens x110.tokens).bind fun Jy=>(bif decide ((x106.cP:Int)<0)then((rj x108.tokens x106.cond ([])).bind fun U2=>(eZ aB y1 y3 iO wN k2 n2 (IntKind.i64.wrap (rJ+1)) (IntKind.i64.wrap (vX+Jy.2)) (rz.set rJ.toNat (⟨x106.parent,x106.cond,x106.cP,U2⟩:Node))))else((mC wN x106.cP).bind fun x117=>((rj x108.tokens x106.cond x117.facts).bind fun Xk=>((mC iO x106.cP).bind fun x121=>(bif x121 then(eZ aB y1 y3 iO wN k2 n2 (IntKind.i64.wrap (rJ+1)) (IntKind.i64.wrap ((IntKind.i64.wrap (vX+(IntKind.i64.wrap (Jy.2*((x117.facts.map aE.c).length:Int)))))+Jy.1)) (rz.set rJ.toNat (⟨x106.parent,x106.cond,x106.cP,Xk⟩:Node)))else(eZ aB y1 y3 iO wN k2 n2 (IntKind.i64.wrap (rJ+1)) (IntKind.i64.wrap (vX+(IntKind.i64.wrap (Jy.2*((x117.facts.map aE.c).length:Int))))) (rz.set rJ.toNat (⟨x106.parent,x106.cond,x106.cP,Xk⟩:Node))))))))))))else(k2 vX rz))
def ua(aB:aF)(aV:aP)(cW:aE):Option aF:=((rp aB).bind fun y1=>((dP aV).bind fun y3=>(j6 aB aV cW y1 y3 (fun(iO:List Bool) (wN:b8)=>(eZ aB y1 y3 iO wN (fun(og:Int) (vV:az)=>(some (⟨y1.rules,y1.ends,wN,vV,y3,og⟩:aF))) fuel 1 y1.cL y1.nodes)) fuel 0 ([]:List Bool) y1.ay)))
def By(aB:aF)(aV:aP)(cW:aE)(y1:aF)(y3:aP)(Jw:Int)(W1:List aS)(W2:List aS):St:=⟨[(1,D.sl (aV.map aE.c)),(3,D.ptr 0 0),(5,D.ptr 1 0),(6,D.ptr 2 0),(7,D.ptr 3 0),(8,D.acc 4),(9,D.int .i64 Jw)],[Ob.box (aF.c aB),Ob.box (aE.c cW),Ob.box [D.nil,D.nil,D.nil,D.nil,D.nil,D.int .i64 0],Ob.box [D.acc 5,D.acc 6,D.acc 7,D.acc 8,D.acc 9,D.int .i64 y1.cL],Ob.row .uq 4 1 W1,Ob.row .uq 105 4 (y1.rules.map aO.c),Ob.row .uq 3 1 (y1.ends.map di),Ob.row .uq 111 3 W2,Ob.row .uq 118 8 (y1.nodes.map Node.c),Ob.row .uq 53 2 (y3.map aE.c)]⟩
theorem Jq(hΓ:Γ.nt=143){aB:aF}{aV:aP}{cW:aE}{y1:aF}{y3:aP}{r:aF}{k1:List Bool->b8->Option aF}(cY:∀(iO:List Bool) (wN:b8),k1 iO wN=some r->Ax Γ N f96 (.q [[some (105,4),some (3,1),some (111,3),some (118,8),some (53,2),none]] (D.agg [D.fr 105 4 (r.rules.map aO.c),D.fr 3 1 (r.ends.map di),D.fr 111 3 (r.ay.map aQ.c),D.fr 118 8 (r.nodes.map Node.c),D.fr 53 2 (r.facts.map aE.c),D.int .i64 r.cL])) [1,1,1,1,1] ⟨[(3,D.ptr 0 0),(6,D.ptr 1 0),(7,D.ptr 2 0),(8,D.acc 3)],[Ob.box (aF.c aB),Ob.box [D.nil,D.nil,D.nil,D.nil,D.nil,D.int .i64 0],Ob.box [D.acc 4,D.acc 5,D.acc 6,D.acc 7,D.acc 8,D.int .i64 y1.cL],Ob.row .uq 4 1 (iO.map bx),Ob.row .uq 105 4 (y1.rules.map aO.c),Ob.row .uq 3 1 (y1.ends.map di),Ob.row .uq 111 3 (wN.map aQ.c),Ob.row .uq 118 8 (y1.nodes.map Node.c),Ob.row .uq 53 2 (y3.map aE.c)]⟩):∀(n1:Nat) (Jw:Int) (xD:List Bool) (Oh:b8),j6 aB aV cW y1 y3 k1 n1 Jw xD Oh=some r->Ar Γ N f96 (.q [[some (105,4),some (3,1),some (111,3),some (118,8),some (53,2),none]] (D.agg [D.fr 105 4 (r.rules.map aO.c),D.fr 3 1 (r.ends.map di),D.fr 111 3 (r.ay.map aQ.c),D.fr 118 8 (r.nodes.map Node.c),D.fr 53 2 (r.facts.map aE.c),D.int .i64 r.cL])) [1,1,1,1,0,1,0] n1 (By aB aV cW y1 y3 Jw (xD.map bx) (Oh.map aQ.c)):=by
 intro n
 induction n with
 |zero=>intro Jw xD Oh h;simp[j6]at h
 |succ n1 ih1=>
  intro Jw xD Oh h;rw[j6]at h;refine aM fun N1 bw bn=>?_
  obtain⟨h40,h⟩|⟨h40,h⟩:=aK h
  ·obtain⟨x41,h42,h⟩:=aD h;obtain⟨F4,h44,h⟩:=aD h;obtain⟨h45,h⟩:=bV h;obtain⟨y46,h47,h⟩:=aD h;exact(((((((((((((((aU.b h40).a [.n 12]).i (xz aQ.c 3 h42)).o 3 2 .uq (dB aQ.c (tf h42))).a [.d (D.iF [D.fr 152 2 (F4.1.map aR.c),D.bool F4.2])]).w (show Good prog 151 [D.agg (aE.c x41.shape),D.agg (aE.c cW),D.sl ([])] (D.iF [D.fr 152 2 (F4.1.map aR.c),D.bool F4.2])from by first| (simpa only[bS,bH,bX,dl,dR]using qW h44)|exact qW h44)).w (cA h45)).a [.n 11]).i (xz aQ.c 3 h42)).o 3 2 .uq (dB aQ.c (tf h42))).a [.d (D.fr 53 2 (y46.map aE.c))]).w (show Good prog 87 [D.agg (aE.c x41.shape),D.sl ([]),D.sl (aV.map aE.c)] (D.fr 53 2 (y46.map aE.c))from by first| (simpa only[bS,bH,bX,dl,dR]using gR h47)|exact gR h47)).i (xz aQ.c 3 h42)).w (show(Oh.map aQ.c)[Jw.toNat]?=some [D.str x41.shape.rel,D.sl (x41.shape.args.map tx),D.sl (x41.facts.map aE.c)]from dB aQ.c (tf h42))).a [.row [D.str x41.shape.rel,D.sl (x41.shape.args.map tx),D.sl (x41.facts.map aE.c)],.cn [1,3,5,6,7,8,9] [0,1,2,3,12,5,6,7,8,9]]).cs hΓ bn (By aB aV cW y1 y3 (IntKind.i64.wrap (Jw+1)) ((xD.map bx)++([[D.bool F4.2]])) ((Oh.map aQ.c).set Jw.toNat [D.str x41.shape.rel,D.sl (x41.shape.args.map tx),D.sl (y46.map aE.c)])) (by first| (simp only[mA]<;>rfl)| (simp only[mA,aE.c,aR.c,aN.c,Action.c,aO.c,aI.c,cr.c,aQ.c,Node.c,aF.c,cv.c]<;>rfl)) (ih1 (IntKind.i64.wrap (Jw+1)) (xD++([F4.2])) (Oh.set Jw.toNat (⟨x41.shape,y46⟩:aQ)) h)
  ·exact((aU.b h40).a [.hl 0 [3,6,7,8] [0,2,3,4,5,6,7,8,9]]).ex hΓ bw (cY xD Oh h)
def tu(aB:aF)(y1:aF)(y3:aP)(iO:List Bool)(wN:b8)(rJ:Int)(vX:Int)(W2:List aS):St:=⟨[(3,D.ptr 0 0),(6,D.ptr 1 0),(7,D.ptr 2 0),(8,D.acc 3),(12,D.int .i64 rJ)],[Ob.box (aF.c aB),Ob.box [D.nil,D.nil,D.nil,D.nil,D.nil,D.int .i64 0],Ob.box [D.acc 4,D.acc 5,D.acc 6,D.acc 7,D.acc 8,D.int .i64 vX],Ob.row .uq 4 1 (iO.map bx),Ob.row .uq 105 4 (y1.rules.map aO.c),Ob.row .uq 3 1 (y1.ends.map di),Ob.row .uq 111 3 (wN.map aQ.c),Ob.row .uq 118 8 W2,Ob.row .uq 53 2 (y3.map aE.c)]⟩
theorem Jr(hΓ:Γ.nt=143){aB:aF}{y1:aF}{y3:aP}{iO:List Bool}{wN:b8}{r:aF}{k2:Int->az->Option aF}(CZ:∀(og:Int) (vV:az),k2 og vV=some r->Ax Γ N f96 (.q [[some (105,4),some (3,1),some (111,3),some (118,8),some (53,2),none]] (D.agg [D.fr 105 4 (r.rules.map aO.c),D.fr 3 1 (r.ends.map di),D.fr 111 3 (r.ay.map aQ.c),D.fr 118 8 (r.nodes.map Node.c),D.fr 53 2 (r.facts.map aE.c),D.int .i64 r.cL])) [1,1,1,1,1,1] ⟨[(6,D.ptr 0 0),(7,D.ptr 1 0)],[Ob.box [D.nil,D.nil,D.nil,D.nil,D.nil,D.int .i64 0],Ob.box [D.acc 2,D.acc 3,D.acc 4,D.acc 5,D.acc 6,D.int .i64 og],Ob.row .uq 105 4 (y1.rules.map aO.c),Ob.row .uq 3 1 (y1.ends.map di),Ob.row .uq 111 3 (wN.map aQ.c),Ob.row .uq 118 8 (vV.map Node.c),Ob.row .uq 53 2 (y3.map aE.c)]⟩):∀(n2:Nat) (rJ:Int) (vX:Int) (rz:az),eZ aB y1 y3 iO wN k2 n2 rJ vX rz=some r->Ar Γ N f96 (.q [[some (105,4),some (3,1),some (111,3),some (118,8),some (53,2),none]] (D.agg [D.fr 105 4 (r.rules.map aO.c),D.fr 3 1 (r.ends.map di),D.fr 111 3 (r.ay.map aQ.c),D.fr 118 8 (r.nodes.map Node.c),D.fr 53 2 (r.facts.map aE.c),D.int .i64 r.cL])) [1,1,1,1,1,0,1,0] n2 (tu aB y1 y3 iO wN rJ vX (rz.map Node.c)):=by
 intro n
 induction n with
 |zero=>intro rJ vX rz h;simp[eZ]at h
 |succ n2 ih2=>
  intro rJ vX rz h;rw[eZ]at h;refine aM fun N2 xV ud=>?_
  obtain⟨h105,h⟩|⟨h105,h⟩:=aK h
  ·obtain⟨x106,h107,h⟩:=aD h;obtain⟨x108,h109,h⟩:=aD h;obtain⟨x110,h111,h⟩:=aD h;obtain⟨Jy,h113,h⟩:=aD h;have jU:=(((((((aU.b h105).i (xz Node.c 8 h107)).o 8 8 .uq (dB Node.c (tf h107))).i (xz Node.c 8 h109)).o 8 8 .uq (dB Node.c (tf h109))).l (dX Node.c 8 h111 rfl)).g (Ll h113))
   obtain⟨h114,h⟩|⟨h114,h⟩:=aK h
   ·obtain⟨U2,h116,h⟩:=aD h;exact((((((jU.b h114).a [.n 7,.d (D.fr 124 2 (U2.map aI.c))]).w (show Good prog 154 [D.sl (x108.tokens.map aI.c),D.agg (aN.c x106.cond),D.sl ([])] (D.fr 124 2 (U2.map aI.c))from by first| (simpa only[bS,bH,bX,dl,dR]using tq h116)|exact tq h116)).i (xz Node.c 8 h107)).w (show(rz.map Node.c)[rJ.toNat]?=some [D.int .i64 x106.parent,D.int .i64 x106.cond.kind,D.str x106.cond.pat.rel,D.sl (x106.cond.pat.args.map tx),D.str x106.cond.left,D.str x106.cond.right,D.int .i64 x106.cP,D.sl (x106.tokens.map aI.c)]from dB Node.c (tf h107))).a [.row [D.int .i64 x106.parent,D.int .i64 x106.cond.kind,D.str x106.cond.pat.rel,D.sl (x106.cond.pat.args.map tx),D.str x106.cond.left,D.str x106.cond.right,D.int .i64 x106.cP,D.sl (x106.tokens.map aI.c)],.cn [3,6,7,8,12] [0,1,2,3,4,5,6,7,8]]).cs hΓ ud (tu aB y1 y3 iO wN (IntKind.i64.wrap (rJ+1)) (IntKind.i64.wrap (vX+Jy.2)) ((rz.map Node.c).set rJ.toNat [D.int .i64 x106.parent,D.int .i64 x106.cond.kind,D.str x106.cond.pat.rel,D.sl (x106.cond.pat.args.map tx),D.str x106.cond.left,D.str x106.cond.right,D.int .i64 x106.cP,D.sl (U2.map aI.c)])) (by first| (simp only[mA]<;>rfl)| (simp only[mA,aE.c,aR.c,aN.c,Action.c,aO.c,aI.c,cr.c,aQ.c,Node.c,aF.c,cv.c]<;>rfl)) (ih2 (IntKind.i64.wrap (rJ+1)) (IntKind.i64.wrap (vX+Jy.2)) (rz.set rJ.toNat (⟨x106.parent,x106.cond,x106.cP,U2⟩:Node)) h)
   ·obtain⟨x117,h118,h⟩:=aD h;obtain⟨Xk,h120,h⟩:=aD h;obtain⟨x121,h122,h⟩:=aD h;have iU:=((((((((((jU.b h114).i (xz aQ.c 3 h118)).o 3 3 .uq (dB aQ.c (tf h118))).a [.n 8]).g (tq h120)).i (xz Node.c 8 h107)).w (show(rz.map Node.c)[rJ.toNat]?=some [D.int .i64 x106.parent,D.int .i64 x106.cond.kind,D.str x106.cond.pat.rel,D.sl (x106.cond.pat.args.map tx),D.str x106.cond.left,D.str x106.cond.right,D.int .i64 x106.cP,D.sl (x106.tokens.map aI.c)]from dB Node.c (tf h107))).a [.row [D.int .i64 x106.parent,D.int .i64 x106.cond.kind,D.str x106.cond.pat.rel,D.sl (x106.cond.pat.args.map tx),D.str x106.cond.left,D.str x106.cond.right,D.int .i64 x106.cP,D.sl (x106.tokens.map aI.c)]]).i (xz bx 1 h122)).o 1 1 .uq (dB bx (tf h122)))
    obtain⟨h123,h⟩|⟨h123,h⟩:=aK h
    ·exact((iU.b h123).a [.cn [3,6,7,8,12] [0,1,2,3,4,5,6,7,8]]).cs hΓ ud (tu aB y1 y3 iO wN (IntKind.i64.wrap (rJ+1)) (IntKind.i64.wrap ((IntKind.i64.wrap (vX+(IntKind.i64.wrap (Jy.2*((x117.facts.map aE.c).length:Int)))))+Jy.1)) ((rz.map Node.c).set rJ.toNat [D.int .i64 x106.parent,D.int .i64 x106.cond.kind,D.str x106.cond.pat.rel,D.sl (x106.cond.pat.args.map tx),D.str x106.cond.left,D.str x106.cond.right,D.int .i64 x106.cP,D.sl (Xk.map aI.c)])) (by first| (simp only[mA]<;>rfl)| (simp only[mA,aE.c,aR.c,aN.c,Action.c,aO.c,aI.c,cr.c,aQ.c,Node.c,aF.c,cv.c]<;>rfl)) (ih2 (IntKind.i64.wrap (rJ+1)) (IntKind.i64.wrap ((IntKind.i64.wrap (vX+(IntKind.i64.wrap (Jy.2*((x117.facts.map aE.c).length:Int)))))+Jy.1)) (rz.set rJ.toNat (⟨x106.parent,x106.cond,x106.cP,Xk⟩:Node)) h)
    ·exact((iU.b h123).a [.cn [3,6,7,8,12] [0,1,2,3,4,5,6,7,8]]).cs hΓ ud (tu aB y1 y3 iO wN (IntKind.i64.wrap (rJ+1)) (IntKind.i64.wrap (vX+(IntKind.i64.wrap (Jy.2*((x117.facts.map aE.c).length:Int))))) ((rz.map Node.c).set rJ.toNat [D.int .i64 x106.parent,D.int .i64 x106.cond.kind,D.str x106.cond.pat.rel,D.sl (x106.cond.pat.args.map tx),D.str x106.cond.left,D.str x106.cond.right,D.int .i64 x106.cP,D.sl (Xk.map aI.c)])) (by first| (simp only[mA]<;>rfl)| (simp only[mA,aE.c,aR.c,aN.c,Action.c,aO.c,aI.c,cr.c,aQ.c,Node.c,aF.c,cv.c]<;>rfl)) (ih2 (IntKind.i64.wrap (rJ+1)) (IntKind.i64.wrap (vX+(IntKind.i64.wrap (Jy.2*((x117.facts.map aE.c).length:Int))))) (rz.set rJ.toNat (⟨x106.parent,x106.cond,x106.cP,Xk⟩:Node)) h)
  ·exact((aU.b h105).a [.hl 0 [6,7] [1,2,4,5,6,7,8]]).ex hΓ xV (CZ vX rz h)
theorem HZ{aB:aF}{aV:aP}{cW:aE}{r:aF}(h:ua aB aV cW=some r):Good prog 96 [D.agg (aF.c aB),D.sl (aV.map aE.c),D.agg (aE.c cW)] (D.agg [D.fr 105 4 (r.rules.map aO.c),D.fr 3 1 (r.ends.map di),D.fr 111 3 (r.ay.map aQ.c),D.fr 118 8 (r.nodes.map Node.c),D.fr 53 2 (r.facts.map aE.c),D.int .i64 r.cL]):=by
 refine gd func96 [[some (105,4),some (3,1),some (111,3),some (118,8),some (53,2),none]] 143 fun hr Γ hΓ=>?_
 rw[ua]at h;obtain⟨y1,h2,h⟩:=aD h;obtain⟨y3,h4,h⟩:=aD h;refine(((aU.g (xw h2)).g (fI h4)).a [.cn [1,3,5,6,7,8,9] [0,1,2,8,10,3,4,5,6,9]]).lp hΓ (Jq hΓ (fun iO wN h=>?_) fuel 0 ([]:List Bool) y1.ay h);refine(aU.a [.cn [3,6,7,8,12] [0,1,2,3,4,5,6,7,8]]).lp hΓ (Jr hΓ (fun og vV h=>?_) fuel 1 y1.cL y1.nodes h);cases h;exact aU.ret hΓ
def mQ(aB:aF)(aV:aE):Option (aF×Bool):=((wG aB.facts aV).bind fun y1=>((tM aB).bind fun y3=>(bif !(y3)then((rp aB).bind fun y6=>(some (y6,false)))else(bif !(y1.2)then((rp aB).bind fun y9=>(some (y9,false)))else((ua aB y1.1 aV).bind fun Pv=>(some (Pv,true)))))))
theorem Cr{aB:aF}{aV:aE}{r:aF×Bool}(h:mQ aB aV=some r):Good prog 44 [D.agg (aF.c aB),D.agg (aE.c aV)] (D.iF [D.agg [D.fr 105 4 (r.1.rules.map aO.c),D.fr 3 1 (r.1.ends.map di),D.fr 111 3 (r.1.ay.map aQ.c),D.fr 118 8 (r.1.nodes.map Node.c),D.fr 53 2 (r.1.facts.map aE.c),D.int .i64 r.1.cL],D.bool r.2]):=by
 refine gd func44 [[some (105,4),some (3,1),some (111,3),some (118,8),some (53,2),none],[none]] 28 fun hr Γ hΓ=>?_
 rw[mQ]at h;obtain⟨y1,h2,h⟩:=aD h;obtain⟨y3,h4,h⟩:=aD h;have k7:=((aU.g (JS h2)).g (Fj h4))
 obtain⟨h5,h⟩|⟨h5,h⟩:=aK h
 ·obtain⟨y6,h7,h⟩:=aD h;cases h;exact(((k7.r 3 h5).T 1).g (xw h7)).ret hΓ
 ·have dH:=(k7.r 3 h5)
  obtain⟨h8,h⟩|⟨h8,h⟩:=aK h
  ·obtain⟨y9,h10,h⟩:=aD h;cases h;exact((dH.b h8).g (xw h10)).ret hΓ
  ·obtain⟨Pv,h12,h⟩:=aD h;cases h;exact((dH.b h8).g (HZ h12)).ret hΓ
def mw(aB:aJ):Option aJ:=(bif room (([]:List aS).length+(aB.map tx).length) 16 then(some (([]:aJ)++aB))else none)
theorem vM{aB:aJ}{r:aJ}(h:mw aB=some r):Good prog 184 [D.sl (aB.map tx)] (D.fr 9 1 (r.map tx)):=by
 refine gd func184 [[some (9,1)]] 5 fun hr Γ hΓ=>?_
 rw[mw]at h;obtain⟨h1,h⟩:=bV h;cases h;exact(((aU.w (cA h1)).w (show(∀r∈(aB.map tx),r.length=1)/\(true=true->D.nv (aB.map tx)=true)from⟨by first|simp| (intro r hr;obtain⟨x,_,rfl⟩:=cI.1 (cG (gI hr));rfl),by simp[D.nv,D.flat]⟩)).a [.PY 2,.fl true]).rts hΓ (D.fr 9 1 (([]:List aS)++(aB.map tx))) (by first|rfl| (simp only[mA]<;>rfl)| (simp only[cV,mA]<;>rfl))
def eF(aB:aE):Option aE:=((mw aB.args).bind fun y1=>(some (⟨aB.rel,y1⟩:aE)))
theorem sW{aB:aE}{r:aE}(h:eF aB=some r):Good prog 112 [D.agg (aE.c aB)] (D.agg [D.str r.rel,D.fr 9 1 (r.args.map tx)]):=by
 refine gd func112 [[none,some (9,1)]] 9 fun hr Γ hΓ=>?_
 rw[eF]at h;obtain⟨y1,h2,h⟩:=aD h;cases h;exact((aU.a [.n 5]).g (vM h2)).ret hΓ
def fC(aB:aN):Option aN:=((eF aB.pat).bind fun y1=>(some (⟨aB.kind,y1,aB.left,aB.right⟩:aN)))
theorem kp{aB:aN}{r:aN}(h:fC aB=some r):Good prog 113 [D.agg (aN.c aB)] (D.agg [D.int .i64 r.kind,D.str r.pat.rel,D.fr 9 1 (r.pat.args.map tx),D.str r.left,D.str r.right]):=by
 refine gd func113 [[none,none,some (9,1),none,none]] 8 fun hr Γ hΓ=>?_
 rw[fC]at h;obtain⟨y1,h2,h⟩:=aD h;cases h;exact(aU.g (sW h2)).ret hΓ
def mG(aB:aj)(k1:aj->Option aj):aj->Nat->aj->Option aj
 | [],i1,bC=>(k1 bC)
 |bD::bg,i1,bC=>((fC bD).bind fun pQ=>(bif room ((bC.map aN.c).length+([[D.int .i64 pQ.kind,D.str pQ.pat.rel,D.sl (pQ.pat.args.map tx),D.str pQ.left,D.str pQ.right]]).length) 80 then(mG aB k1 bg (i1+1) (bC++([pQ])))else none))
def sU(aB:aj):Option aj:=(mG aB (fun(bO:aj)=>(some bO)) aB 0 ([]:aj))
def Am(aB:aj)(W0:List aS)(cT:Int):St:=⟨[(3,D.acc 0),(6,D.sl (aB.map aN.c)),(7,D.int .i64 ((aB.map aN.c).length:Int)),(8,D.int .i64 cT)],[Ob.row .uq 115 5 W0]⟩
theorem GO(hΓ:Γ.nt=19){aB:aj}{r:aj}{k1:aj->Option aj}(cY:∀(bO:aj),k1 bO=some r->Ax Γ N f244 (.q [[some (115,5)]] (D.fr 115 5 (r.map aN.c))) [1,1,1] ⟨[(3,D.acc 0)],[Ob.row .uq 115 5 (bO.map aN.c)]⟩)(hm1:aB.length<=maxLen):∀(rest:aj) (i1:Nat) (bC:aj),aB.drop i1=rest->mG aB k1 rest i1 bC=some r->Ar Γ N f244 (.q [[some (115,5)]] (D.fr 115 5 (r.map aN.c))) [1,1,0,1,0] (rest.length+1) (Am aB (bC.map aN.c) (i1:Int)):=by
 intro rest
 induction rest with
 |nil=>
  intro i1 bC aq h;rw[mG]at h;refine aM fun N1 bw bn=>?_
  exact((aU.ge aN.c aq).a [.hl 0 [3] [0]]).ex hΓ bw (cY bC h)
 |cons bD bg ih1=>
  intro i1 bC aq h;rw[mG]at h;refine aM fun N1 bw bn=>?_
  obtain⟨pQ,h28,h⟩:=aD h;obtain⟨h29,h⟩:=bV h;exact(((((aU.lt aN.c aq).l (av aN.c 5 (dc aq) rfl)).g (kp h28)).w (cA h29)).a [.cn [3,6,7,8] [4]]).cs hΓ bn (Am aB ((bC.map aN.c)++([[D.int .i64 pQ.kind,D.str pQ.pat.rel,D.sl (pQ.pat.args.map tx),D.str pQ.left,D.str pQ.right]])) (IntKind.i64.wrap ((i1:Int)+1))) (by first| (simp only[iS aq hm1,mA]<;>rfl)| (simp only[iS aq hm1,mA,aE.c,aR.c,aN.c,Action.c,aO.c,aI.c,cr.c,aQ.c,Node.c,aF.c,cv.c]<;>rfl)) (ih1 (i1+1) (bC++([pQ])) (dn aq) h)
theorem FH{aB:aj}{r:aj}(h:sU aB=some r):Good prog 244 [D.sl (aB.map aN.c)] (D.fr 115 5 (r.map aN.c)):=by
 refine gd func244 [[some (115,5)]] 19 fun hr Γ hΓ=>?_
 rw[sU]at h;refine(aU.a [.PY 3,.cn [3,6,7,8] [0]]).lp hΓ (GO hΓ (fun bO h=>?_) (by have:=(dU.sl (hr _ (aC (i:=0) rfl))).1;simpa using this) aB 0 ([]:aj) rfl h);have h:=aG h;subst h;exact aU.ret hΓ
def kG(aB:aO)(y1:aj)(k1:bz->Option aO):bz->Nat->bz->Option aO
 | [],i1,gr=>(k1 gr)
 |bD::bg,i1,gr=>((eF bD.pat).bind fun o4=>(bif room ((gr.map Action.c).length+([[D.int .i64 bD.kind,D.str o4.rel,D.sl (o4.args.map tx)]]).length) 48 then(kG aB y1 k1 bg (i1+1) (gr++([(⟨bD.kind,o4⟩:Action)])))else none))
def qh(aB:aO):Option aO:=((sU aB.conds).bind fun y1=>(kG aB y1 (fun(iO:bz)=>(some (⟨aB.name,aB.prio,y1,iO⟩:aO))) aB.cu 0 ([]:bz)))
def Bj(aB:aO)(y1:aj)(W0:List aS)(cT:Int):St:=⟨[(2,D.ptr 0 0),(3,D.ptr 1 0),(15,D.sl (aB.cu.map Action.c)),(16,D.int .i64 ((aB.cu.map Action.c).length:Int)),(17,D.int .i64 cT)],[Ob.box [D.str ([]),D.int .i64 0,D.nil,D.nil],Ob.box [D.str aB.name,D.int .i64 aB.prio,D.acc 2,D.acc 3],Ob.row .uq 115 5 (y1.map aN.c),Ob.row .uq 199 3 W0]⟩
theorem Ih(hΓ:Γ.nt=34){aB:aO}{y1:aj}{r:aO}{k1:bz->Option aO}(cY:∀(iO:bz),k1 iO=some r->Ax Γ N f182 (.q [[none,none,some (115,5),some (199,3)]] (D.agg [D.str r.name,D.int .i64 r.prio,D.fr 115 5 (r.conds.map aN.c),D.fr 199 3 (r.cu.map Action.c)])) [1,1,1] ⟨[(2,D.ptr 0 0),(3,D.ptr 1 0)],[Ob.box [D.str ([]),D.int .i64 0,D.nil,D.nil],Ob.box [D.str aB.name,D.int .i64 aB.prio,D.acc 2,D.acc 3],Ob.row .uq 115 5 (y1.map aN.c),Ob.row .uq 199 3 (iO.map Action.c)]⟩)(hm1:aB.cu.length<=maxLen):∀(rest:bz) (i1:Nat) (gr:bz),aB.cu.drop i1=rest->kG aB y1 k1 rest i1 gr=some r->Ar Γ N f182 (.q [[none,none,some (115,5),some (199,3)]] (D.agg [D.str r.name,D.int .i64 r.prio,D.fr 115 5 (r.conds.map aN.c),D.fr 199 3 (r.cu.map Action.c)])) [1,1,0,1,0] (rest.length+1) (Bj aB y1 (gr.map Action.c) (i1:Int)):=by
 intro rest
 induction rest with
 |nil=>
  intro i1 gr aq h;rw[kG]at h;refine aM fun N1 bw bn=>?_
  exact((aU.ge Action.c aq).a [.hl 0 [2,3] [0,1,2,3]]).ex hΓ bw (cY gr h)
 |cons bD bg ih1=>
  intro i1 gr aq h;rw[kG]at h;refine aM fun N1 bw bn=>?_
  obtain⟨o4,h42,h⟩:=aD h;obtain⟨h43,h⟩:=bV h;exact((((((aU.lt Action.c aq).l (av Action.c 3 (dc aq) rfl)).a [.n2 [0,1,2,3,4,5,6,7,8,9,10,11] [0,1,2,3,4,5,6,7,8,9,10,11] 8 9 [0,1] [5]]).g (sW h42)).w (cA h43)).a [.cn [2,3,15,16,17] [0,1,2,7]]).cs hΓ bn (Bj aB y1 ((gr.map Action.c)++([[D.int .i64 bD.kind,D.str o4.rel,D.sl (o4.args.map tx)]])) (IntKind.i64.wrap ((i1:Int)+1))) (by first| (simp only[iS aq hm1,mA]<;>rfl)| (simp only[iS aq hm1,mA,aE.c,aR.c,aN.c,Action.c,aO.c,aI.c,cr.c,aQ.c,Node.c,aF.c,cv.c]<;>rfl)) (ih1 (i1+1) (gr++([(⟨bD.kind,o4⟩:Action)])) (dn aq) h)
theorem GR{aB:aO}{r:aO}(h:qh aB=some r):Good prog 182 [D.agg (aO.c aB)] (D.agg [D.str r.name,D.int .i64 r.prio,D.fr 115 5 (r.conds.map aN.c),D.fr 199 3 (r.cu.map Action.c)]):=by
 refine gd func182 [[none,none,some (115,5),some (199,3)]] 34 fun hr Γ hΓ=>?_
 rw[qh]at h;obtain⟨y1,h2,h⟩:=aD h;refine(((aU.a [.n 9]).g (FH h2)).a [.pb 3 3 199 3,.cn [2,3,15,16,17] [1,3,2,4]]).lp hΓ (Ih hΓ (fun iO h=>?_) (by have:=(dU.sl (dU.agg (hr _ (aC (i:=0) rfl)) (.sl (aB.cu.map Action.c)) (by simp))).1;simpa using this) aB.cu 0 ([]:bz) rfl h);cases h;exact aU.ret hΓ
def mI(aB:au)(k1:au->Option au):au->Nat->au->Option au
 | [],i1,bC=>(k1 bC)
 |bD::bg,i1,bC=>((qh bD).bind fun pQ=>(bif room ((bC.map aO.c).length+([[D.str pQ.name,D.int .i64 pQ.prio,D.sl (pQ.conds.map aN.c),D.sl (pQ.cu.map Action.c)]]).length) 72 then(mI aB k1 bg (i1+1) (bC++([pQ])))else none))
def pV(aB:au):Option au:=(mI aB (fun(bO:au)=>(some bO)) aB 0 ([]:au))
def Ap(aB:au)(W0:List aS)(cT:Int):St:=⟨[(3,D.acc 0),(6,D.sl (aB.map aO.c)),(7,D.int .i64 ((aB.map aO.c).length:Int)),(8,D.int .i64 cT)],[Ob.row .uq 105 4 W0]⟩
theorem GS(hΓ:Γ.nt=19){aB:au}{r:au}{k1:au->Option au}(cY:∀(bO:au),k1 bO=some r->Ax Γ N f109 (.q [[some (105,4)]] (D.fr 105 4 (r.map aO.c))) [1,1,1] ⟨[(3,D.acc 0)],[Ob.row .uq 105 4 (bO.map aO.c)]⟩)(hm1:aB.length<=maxLen):∀(rest:au) (i1:Nat) (bC:au),aB.drop i1=rest->mI aB k1 rest i1 bC=some r->Ar Γ N f109 (.q [[some (105,4)]] (D.fr 105 4 (r.map aO.c))) [1,1,0,1,0] (rest.length+1) (Ap aB (bC.map aO.c) (i1:Int)):=by
 intro rest
 induction rest with
 |nil=>
  intro i1 bC aq h;rw[mI]at h;refine aM fun N1 bw bn=>?_
  exact((aU.ge aO.c aq).a [.hl 0 [3] [0]]).ex hΓ bw (cY bC h)
 |cons bD bg ih1=>
  intro i1 bC aq h;rw[mI]at h;refine aM fun N1 bw bn=>?_
  obtain⟨pQ,h28,h⟩:=aD h;obtain⟨h29,h⟩:=bV h;exact(((((aU.lt aO.c aq).l (av aO.c 4 (dc aq) rfl)).g (GR h28)).w (cA h29)).a [.cn [3,6,7,8] [5]]).cs hΓ bn (Ap aB ((bC.map aO.c)++([[D.str pQ.name,D.int .i64 pQ.prio,D.sl (pQ.conds.map aN.c),D.sl (pQ.cu.map Action.c)]])) (IntKind.i64.wrap ((i1:Int)+1))) (by first| (simp only[iS aq hm1,mA]<;>rfl)| (simp only[iS aq hm1,mA,aE.c,aR.c,aN.c,Action.c,aO.c,aI.c,cr.c,aQ.c,Node.c,aF.c,cv.c]<;>rfl)) (ih1 (i1+1) (bC++([pQ])) (dn aq) h)
theorem z8{aB:au}{r:au}(h:pV aB=some r):Good prog 109 [D.sl (aB.map aO.c)] (D.fr 105 4 (r.map aO.c)):=by
 refine gd func109 [[some (105,4)]] 19 fun hr Γ hΓ=>?_
 rw[pV]at h;refine(aU.a [.PY 3,.cn [3,6,7,8] [0]]).lp hΓ (GS hΓ (fun bO h=>?_) (by have:=(dU.sl (hr _ (aC (i:=0) rfl))).1;simpa using this) aB 0 ([]:au) rfl h);have h:=aG h;subst h;exact aU.ret hΓ
def uF(aB:bJ):Option bJ:=(bif room (([]:List aS).length+(aB.map di).length) 8 then(some (([]:bJ)++aB))else none)
theorem GQ{aB:bJ}{r:bJ}(h:uF aB=some r):Good prog 110 [D.sl (aB.map di)] (D.fr 3 1 (r.map di)):=by
 refine gd func110 [[some (3,1)]] 5 fun hr Γ hΓ=>?_
 rw[uF]at h;obtain⟨h1,h⟩:=bV h;cases h;exact(((aU.w (cA h1)).w (show(∀r∈(aB.map di),r.length=1)/\(true=true->D.nv (aB.map di)=true)from⟨by first|simp| (intro r hr;obtain⟨x,_,rfl⟩:=cI.1 (cG (gI hr));rfl),by simp[D.nv,D.flat]⟩)).a [.PY 2,.fl true]).rts hΓ (D.fr 3 1 (([]:List aS)++(aB.map di))) (by first|rfl| (simp only[mA]<;>rfl)| (simp only[cV,mA]<;>rfl))
def eE(aB:aE):Option aE:=((mw aB.args).bind fun y1=>(some (⟨aB.rel,y1⟩:aE)))
theorem gL{aB:aE}{r:aE}(h:eE aB=some r):Good prog 183 [D.agg (aE.c aB)] (D.agg [D.str r.rel,D.fr 9 1 (r.args.map tx)]):=by
 refine gd func183 [[none,some (9,1)]] 9 fun hr Γ hΓ=>?_
 rw[eE]at h;obtain⟨y1,h2,h⟩:=aD h;cases h;exact((aU.a [.n 5]).g (vM h2)).ret hΓ
def mH(aB:aP)(k1:aP->Option aP):aP->Nat->aP->Option aP
 | [],i1,bC=>(k1 bC)
 |bD::bg,i1,bC=>((eE bD).bind fun pQ=>(bif room ((bC.map aE.c).length+([[D.str pQ.rel,D.sl (pQ.args.map tx)]]).length) 40 then(mH aB k1 bg (i1+1) (bC++([pQ])))else none))
def cy(aB:aP):Option aP:=(mH aB (fun(bO:aP)=>(some bO)) aB 0 ([]:aP))
def Ao(aB:aP)(W0:List aS)(cT:Int):St:=⟨[(3,D.acc 0),(6,D.sl (aB.map aE.c)),(7,D.int .i64 ((aB.map aE.c).length:Int)),(8,D.int .i64 cT)],[Ob.row .uq 53 2 W0]⟩
theorem GP(hΓ:Γ.nt=19){aB:aP}{r:aP}{k1:aP->Option aP}(cY:∀(bO:aP),k1 bO=some r->Ax Γ N f111 (.q [[some (53,2)]] (D.fr 53 2 (r.map aE.c))) [1,1,1] ⟨[(3,D.acc 0)],[Ob.row .uq 53 2 (bO.map aE.c)]⟩)(hm1:aB.length<=maxLen):∀(rest:aP) (i1:Nat) (bC:aP),aB.drop i1=rest->mH aB k1 rest i1 bC=some r->Ar Γ N f111 (.q [[some (53,2)]] (D.fr 53 2 (r.map aE.c))) [1,1,0,1,0] (rest.length+1) (Ao aB (bC.map aE.c) (i1:Int)):=by
 intro rest
 induction rest with
 |nil=>
  intro i1 bC aq h;rw[mH]at h;refine aM fun N1 bw bn=>?_
  exact((aU.ge aE.c aq).a [.hl 0 [3] [0]]).ex hΓ bw (cY bC h)
 |cons bD bg ih1=>
  intro i1 bC aq h;rw[mH]at h;refine aM fun N1 bw bn=>?_
  obtain⟨pQ,h28,h⟩:=aD h;obtain⟨h29,h⟩:=bV h;exact(((((aU.lt aE.c aq).l (av aE.c 2 (dc aq) rfl)).g (gL h28)).w (cA h29)).a [.cn [3,6,7,8] [4]]).cs hΓ bn (Ao aB ((bC.map aE.c)++([[D.str pQ.rel,D.sl (pQ.args.map tx)]])) (IntKind.i64.wrap ((i1:Int)+1))) (by first| (simp only[iS aq hm1,mA]<;>rfl)| (simp only[iS aq hm1,mA,aE.c,aR.c,aN.c,Action.c,aO.c,aI.c,cr.c,aQ.c,Node.c,aF.c,cv.c]<;>rfl)) (ih1 (i1+1) (bC++([pQ])) (dn aq) h)
theorem ec{aB:aP}{r:aP}(h:cy aB=some r):Good prog 111 [D.sl (aB.map aE.c)] (D.fr 53 2 (r.map aE.c)):=by
 refine gd func111 [[some (53,2)]] 19 fun hr Γ hΓ=>?_
 rw[cy]at h;refine(aU.a [.PY 3,.cn [3,6,7,8] [0]]).lp hΓ (GP hΓ (fun bO h=>?_) (by have:=(dU.sl (hr _ (aC (i:=0) rfl))).1;simpa using this) aB 0 ([]:aP) rfl h);have h:=aG h;subst h;exact aU.ret hΓ
def jH(aB:aT):Option aT:=(bif room (([]:List aS).length+(aB.map aR.c).length) 32 then(some (([]:aT)++aB))else none)
theorem vL{aB:aT}{r:aT}(h:jH aB=some r):Good prog 185 [D.sl (aB.map aR.c)] (D.fr 152 2 (r.map aR.c)):=by
 refine gd func185 [[some (152,2)]] 5 fun hr Γ hΓ=>?_
 rw[jH]at h;obtain⟨h1,h⟩:=bV h;cases h;exact(((aU.w (cA h1)).w (show(∀r∈(aB.map aR.c),r.length=2)/\(true=true->D.nv (aB.map aR.c)=true)from⟨by first|simp| (intro r hr;obtain⟨x,_,rfl⟩:=cI.1 (cG (gI hr));rfl),by simp[D.nv,D.flat]⟩)).a [.PY 2,.fl true]).rts hΓ (D.fr 152 2 (([]:List aS)++(aB.map aR.c))) (by first|rfl| (simp only[mA]<;>rfl)| (simp only[cV,mA]<;>rfl))
def ia(aB:ah)(k1:ah->Option ah):ah->Nat->ah->Option ah
 | [],i1,bC=>(k1 bC)
 |bD::bg,i1,bC=>((cy bD.facts).bind fun y61=>((jH bD.bind).bind fun y63=>(bif room ((bC.map aI.c).length+([[D.sl (y61.map aE.c),D.sl (y63.map aR.c)]]).length) 48 then(ia aB k1 bg (i1+1) (bC++([(⟨y61,y63⟩:aI)])))else none)))
def lT(aB:ah):Option ah:=(ia aB (fun(bO:ah)=>(some bO)) aB 0 ([]:ah))
def zq(aB:ah)(W0:List aS)(cT:Int):St:=⟨[(3,D.acc 0),(6,D.sl (aB.map aI.c)),(7,D.int .i64 ((aB.map aI.c).length:Int)),(8,D.int .i64 cT)],[Ob.row .uq 124 2 W0]⟩
theorem FI(hΓ:Γ.nt=24){aB:ah}{r:ah}{k1:ah->Option ah}(cY:∀(bO:ah),k1 bO=some r->Ax Γ N f114 (.q [[some (124,2)]] (D.fr 124 2 (r.map aI.c))) [1,1,1] ⟨[(3,D.acc 0)],[Ob.row .uq 124 2 (bO.map aI.c)]⟩)(hm1:aB.length<=maxLen):∀(rest:ah) (i1:Nat) (bC:ah),aB.drop i1=rest->ia aB k1 rest i1 bC=some r->Ar Γ N f114 (.q [[some (124,2)]] (D.fr 124 2 (r.map aI.c))) [1,1,0,1,0] (rest.length+1) (zq aB (bC.map aI.c) (i1:Int)):=by
 intro rest
 induction rest with
 |nil=>
  intro i1 bC aq h;rw[ia]at h;refine aM fun N1 bw bn=>?_
  exact((aU.ge aI.c aq).a [.hl 0 [3] [0]]).ex hΓ bw (cY bC h)
 |cons bD bg ih1=>
  intro i1 bC aq h;rw[ia]at h;refine aM fun N1 bw bn=>?_
  obtain⟨y61,h62,h⟩:=aD h;obtain⟨y63,h64,h⟩:=aD h;obtain⟨h65,h⟩:=bV h;exact(((((((aU.lt aI.c aq).l (av aI.c 2 (dc aq) rfl)).a [.n2 [0,1,2,3,4,5,6,7,8,9,10] [0,1,2,3,4,5,6,7,8,9,10] 8 9 [0] [2,3]]).g (ec h62)).g (vL h64)).w (cA h65)).a [.cn [3,6,7,8] [5]]).cs hΓ bn (zq aB ((bC.map aI.c)++([[D.sl (y61.map aE.c),D.sl (y63.map aR.c)]])) (IntKind.i64.wrap ((i1:Int)+1))) (by first| (simp only[iS aq hm1,mA]<;>rfl)| (simp only[iS aq hm1,mA,aE.c,aR.c,aN.c,Action.c,aO.c,aI.c,cr.c,aQ.c,Node.c,aF.c,cv.c]<;>rfl)) (ih1 (i1+1) (bC++([(⟨y61,y63⟩:aI)])) (dn aq) h)
theorem EK{aB:ah}{r:ah}(h:lT aB=some r):Good prog 114 [D.sl (aB.map aI.c)] (D.fr 124 2 (r.map aI.c)):=by
 refine gd func114 [[some (124,2)]] 24 fun hr Γ hΓ=>?_
 rw[lT]at h;refine(aU.a [.PY 3,.cn [3,6,7,8] [0]]).lp hΓ (FI hΓ (fun bO h=>?_) (by have:=(dU.sl (hr _ (aC (i:=0) rfl))).1;simpa using this) aB 0 ([]:ah) rfl h);have h:=aG h;subst h;exact aU.ret hΓ
def iG(aB:aF)(y1:au)(y3:bJ)(y5:aP)(k1:b8->Option aF):b8->Nat->b8->Option aF
 | [],i1,qP=>(k1 qP)
 |bD::bg,i1,qP=>((eF bD.shape).bind fun y67=>((cy bD.facts).bind fun y69=>(bif room ((qP.map aQ.c).length+([[D.str y67.rel,D.sl (y67.args.map tx),D.sl (y69.map aE.c)]]).length) 64 then(iG aB y1 y3 y5 k1 bg (i1+1) (qP++([(⟨y67,y69⟩:aQ)])))else none)))
def iH(aB:aF)(y1:au)(y3:bJ)(y5:aP)(ru:b8)(k2:az->Option aF):az->Nat->az->Option aF
 | [],i2,we=>(k2 we)
 |lM::wR,i2,we=>((fC lM.cond).bind fun Jz=>((lT lM.tokens).bind fun a3W=>(bif room ((we.map Node.c).length+([[D.int .i64 lM.parent,D.int .i64 Jz.kind,D.str Jz.pat.rel,D.sl (Jz.pat.args.map tx),D.str Jz.left,D.str Jz.right,D.int .i64 lM.cP,D.sl (a3W.map aI.c)]]).length) 120 then(iH aB y1 y3 y5 ru k2 wR (i2+1) (we++([(⟨lM.parent,Jz,lM.cP,a3W⟩:Node)])))else none)))
def kF(aB:aF):Option aF:=((pV aB.rules).bind fun y1=>((uF aB.ends).bind fun y3=>((cy aB.facts).bind fun y5=>(iG aB y1 y3 y5 (fun(ru:b8)=>(iH aB y1 y3 y5 ru (fun(vV:az)=>(some (⟨y1,y3,ru,vV,y5,aB.cL⟩:aF))) aB.nodes 0 ([]:az))) aB.ay 0 ([]:b8)))))
def z6(aB:aF)(y1:au)(y3:bJ)(y5:aP)(W0:List aS)(cT:Int):St:=⟨[(1,D.ptr 0 0),(2,D.ptr 1 0),(3,D.ptr 2 0),(21,D.sl (aB.ay.map aQ.c)),(22,D.int .i64 ((aB.ay.map aQ.c).length:Int)),(23,D.int .i64 cT)],[Ob.box (aF.c aB),Ob.box [D.nil,D.nil,D.nil,D.nil,D.nil,D.int .i64 0],Ob.box [D.acc 3,D.acc 4,D.acc 5,D.nil,D.acc 6,D.int .i64 aB.cL],Ob.row .uq 105 4 (y1.map aO.c),Ob.row .uq 3 1 (y3.map di),Ob.row .uq 111 3 W0,Ob.row .uq 53 2 (y5.map aE.c)]⟩
theorem EI(hΓ:Γ.nt=65){aB:aF}{y1:au}{y3:bJ}{y5:aP}{r:aF}{k1:b8->Option aF}(cY:∀(ru:b8),k1 ru=some r->Ax Γ N f53 (.q [[some (105,4),some (3,1),some (111,3),some (118,8),some (53,2),none]] (D.agg [D.fr 105 4 (r.rules.map aO.c),D.fr 3 1 (r.ends.map di),D.fr 111 3 (r.ay.map aQ.c),D.fr 118 8 (r.nodes.map Node.c),D.fr 53 2 (r.facts.map aE.c),D.int .i64 r.cL])) [1,1,1] ⟨[(1,D.ptr 0 0),(2,D.ptr 1 0),(3,D.ptr 2 0)],[Ob.box (aF.c aB),Ob.box [D.nil,D.nil,D.nil,D.nil,D.nil,D.int .i64 0],Ob.box [D.acc 3,D.acc 4,D.acc 5,D.nil,D.acc 6,D.int .i64 aB.cL],Ob.row .uq 105 4 (y1.map aO.c),Ob.row .uq 3 1 (y3.map di),Ob.row .uq 111 3 (ru.map aQ.c),Ob.row .uq 53 2 (y5.map aE.c)]⟩)(hm1:aB.ay.length<=maxLen):∀(rest:b8) (i1:Nat) (qP:b8),aB.ay.drop i1=rest->iG aB y1 y3 y5 k1 rest i1 qP=some r->Ar Γ N f53 (.q [[some (105,4),some (3,1),some (111,3),some (118,8),some (53,2),none]] (D.agg [D.fr 105 4 (r.rules.map aO.c),D.fr 3 1 (r.ends.map di),D.fr 111 3 (r.ay.map aQ.c),D.fr 118 8 (r.nodes.map Node.c),D.fr 53 2 (r.facts.map aE.c),D.int .i64 r.cL])) [1,1,0,1,0] (rest.length+1) (z6 aB y1 y3 y5 (qP.map aQ.c) (i1:Int)):=by
 intro rest
 induction rest with
 |nil=>
  intro i1 qP aq h;rw[iG]at h;refine aM fun N1 bw bn=>?_
  exact((aU.ge aQ.c aq).a [.hl 0 [1,2,3] [0,1,2,3,4,5,6]]).ex hΓ bw (cY qP h)
 |cons bD bg ih1=>
  intro i1 qP aq h;rw[iG]at h;refine aM fun N1 bw bn=>?_
  obtain⟨y67,h68,h⟩:=aD h;obtain⟨y69,h70,h⟩:=aD h;obtain⟨h71,h⟩:=bV h;exact(((((((aU.lt aQ.c aq).l (av aQ.c 3 (dc aq) rfl)).a [.n2 [0,1,2,3,4,5,6,7,8,9,10,11,12] [0,1,2,3,4,5,6,7,8,9,10,11,12] 9 10 [0,1] [8,9]]).g (sW h68)).g (ec h70)).w (cA h71)).a [.cn [1,2,3,21,22,23] [0,1,2,3,4,11,6]]).cs hΓ bn (z6 aB y1 y3 y5 ((qP.map aQ.c)++([[D.str y67.rel,D.sl (y67.args.map tx),D.sl (y69.map aE.c)]])) (IntKind.i64.wrap ((i1:Int)+1))) (by first| (simp only[iS aq hm1,mA]<;>rfl)| (simp only[iS aq hm1,mA,aE.c,aR.c,aN.c,Action.c,aO.c,aI.c,cr.c,aQ.c,Node.c,aF.c,cv.c]<;>rfl)) (ih1 (i1+1) (qP++([(⟨y67,y69⟩:aQ)])) (dn aq) h)
def z7(aB:aF)(y1:au)(y3:bJ)(y5:aP)(ru:b8)(W0:List aS)(cT:Int):St:=⟨[(2,D.ptr 0 0),(3,D.ptr 1 0),(41,D.sl (aB.nodes.map Node.c)),(42,D.int .i64 ((aB.nodes.map Node.c).length:Int)),(43,D.int .i64 cT)],[Ob.box [D.nil,D.nil,D.nil,D.nil,D.nil,D.int .i64 0],Ob.box [D.acc 2,D.acc 3,D.acc 4,D.acc 5,D.acc 6,D.int .i64 aB.cL],Ob.row .uq 105 4 (y1.map aO.c),Ob.row .uq 3 1 (y3.map di),Ob.row .uq 111 3 (ru.map aQ.c),Ob.row .uq 118 8 W0,Ob.row .uq 53 2 (y5.map aE.c)]⟩
theorem EJ(hΓ:Γ.nt=65){aB:aF}{y1:au}{y3:bJ}{y5:aP}{ru:b8}{r:aF}{k2:az->Option aF}(CZ:∀(vV:az),k2 vV=some r->Ax Γ N f53 (.q [[some (105,4),some (3,1),some (111,3),some (118,8),some (53,2),none]] (D.agg [D.fr 105 4 (r.rules.map aO.c),D.fr 3 1 (r.ends.map di),D.fr 111 3 (r.ay.map aQ.c),D.fr 118 8 (r.nodes.map Node.c),D.fr 53 2 (r.facts.map aE.c),D.int .i64 r.cL])) [1,1,1,1] ⟨[(2,D.ptr 0 0),(3,D.ptr 1 0)],[Ob.box [D.nil,D.nil,D.nil,D.nil,D.nil,D.int .i64 0],Ob.box [D.acc 2,D.acc 3,D.acc 4,D.acc 5,D.acc 6,D.int .i64 aB.cL],Ob.row .uq 105 4 (y1.map aO.c),Ob.row .uq 3 1 (y3.map di),Ob.row .uq 111 3 (ru.map aQ.c),Ob.row .uq 118 8 (vV.map Node.c),Ob.row .uq 53 2 (y5.map aE.c)]⟩)(hm2:aB.nodes.length<=maxLen):∀(rest:az) (i2:Nat) (we:az),aB.nodes.drop i2=rest->iH aB y1 y3 y5 ru k2 rest i2 we=some r->Ar Γ N f53 (.q [[some (105,4),some (3,1),some (111,3),some (118,8),some (53,2),none]] (D.agg [D.fr 105 4 (r.rules.map aO.c),D.fr 3 1 (r.ends.map di),D.fr 111 3 (r.ay.map aQ.c),D.fr 118 8 (r.nodes.map Node.c),D.fr 53 2 (r.facts.map aE.c),D.int .i64 r.cL])) [1,1,1,0,1,0] (rest.length+1) (z7 aB y1 y3 y5 ru (we.map Node.c) (i2:Int)):=by
 intro rest
 induction rest with
 |nil=>
  intro i2 we hd2 h;rw[iH]at h;refine aM fun N2 xV ud=>?_
  exact((aU.ge Node.c hd2).a [.hl 0 [2,3] [0,1,2,3,4,5,6]]).ex hΓ xV (CZ we h)
 |cons lM wR ih2=>
  intro i2 we hd2 h;rw[iH]at h;refine aM fun N2 xV ud=>?_
  obtain⟨Jz,h133,h⟩:=aD h;obtain⟨a3W,h135,h⟩:=aD h;obtain⟨h136,h⟩:=bV h;exact(((((((aU.lt Node.c hd2).l (av Node.c 8 (dc hd2) rfl)).a [.n2 [0,1,2,3,4,5,6,7,8,9,10,11,12,13,14,15,16] [0,1,2,3,4,5,6,7,8,9,10,11,12,13,14,15,16] 13 14 [0,1] [8,9]]).g (kp h133)).g (EK h135)).w (cA h136)).a [.cn [2,3,41,42,43] [0,1,2,3,4,11,6]]).cs hΓ ud (z7 aB y1 y3 y5 ru ((we.map Node.c)++([[D.int .i64 lM.parent,D.int .i64 Jz.kind,D.str Jz.pat.rel,D.sl (Jz.pat.args.map tx),D.str Jz.left,D.str Jz.right,D.int .i64 lM.cP,D.sl (a3W.map aI.c)]])) (IntKind.i64.wrap ((i2:Int)+1))) (by first| (simp only[iS hd2 hm2,mA]<;>rfl)| (simp only[iS hd2 hm2,mA,aE.c,aR.c,aN.c,Action.c,aO.c,aI.c,cr.c,aQ.c,Node.c,aF.c,cv.c]<;>rfl)) (ih2 (i2+1) (we++([(⟨lM.parent,Jz,lM.cP,a3W⟩:Node)])) (dn hd2) h)
theorem sV{aB:aF}{r:aF}(h:kF aB=some r):Good prog 53 [D.agg (aF.c aB)] (D.agg [D.fr 105 4 (r.rules.map aO.c),D.fr 3 1 (r.ends.map di),D.fr 111 3 (r.ay.map aQ.c),D.fr 118 8 (r.nodes.map Node.c),D.fr 53 2 (r.facts.map aE.c),D.int .i64 r.cL]):=by
 refine gd func53 [[some (105,4),some (3,1),some (111,3),some (118,8),some (53,2),none]] 65 fun hr Γ hΓ=>?_
 rw[kF]at h;obtain⟨y1,h2,h⟩:=aD h;obtain⟨y3,h4,h⟩:=aD h;obtain⟨y5,h6,h⟩:=aD h;refine(((((aU.a [.n 13]).g (z8 h2)).g (GQ h4)).g (ec h6)).a [.pb 5 2 111 3,.cn [1,2,3,21,22,23] [0,1,5,2,3,6,4]]).lp hΓ (EI hΓ (fun ru h=>?_) (by have:=(dU.sl (dU.agg (hr _ (aC (i:=0) rfl)) (.sl (aB.ay.map aQ.c)) (by simp))).1;simpa using this) aB.ay 0 ([]:b8) rfl h);refine(aU.a [.pb 2 3 118 8,.cn [2,3,41,42,43] [1,2,3,4,5,7,6]]).lp hΓ (EJ hΓ (fun vV h=>?_) (by have:=(dU.sl (dU.agg (hr _ (aC (i:=0) rfl)) (.sl (aB.nodes.map Node.c)) (by simp))).1;simpa using this) aB.nodes 0 ([]:az) rfl h);cases h;exact aU.ret hΓ
def fq(aB:Bytes)(k1:Option Bool):Nat->Int->Option Bool
 |0,_=>none
 |n1+1,ng=>(bif decide ((ng:Int)<(aB.length:Int))then((mC aB ng).bind fun b31=>(bif decide ((b31.toNat:Int)<97)then(bif decide ((b31.toNat:Int)<48)then(some false)else(bif decide ((b31.toNat:Int)>57)then(some false)else(fq aB k1 n1 (IntKind.i64.wrap (ng+1)))))else(bif decide ((b31.toNat:Int)>122)then(bif decide ((b31.toNat:Int)<48)then(some false)else(bif decide ((b31.toNat:Int)>57)then(some false)else(fq aB k1 n1 (IntKind.i64.wrap (ng+1)))))else(fq aB k1 n1 (IntKind.i64.wrap (ng+1))))))else(k1))
def fN(aB:Bytes):Option Bool:=(bif decide (((aB.length:Int):Int)<1)then(some false)else(bif decide (((aB.length:Int):Int)>8)then(some false)else(fq aB (some true) fuel 0)))
def O6(aB:Bytes)(ng:Int):St:=⟨[(0,D.str aB),(3,D.int .i64 ng)],[]⟩
theorem MP(hΓ:Γ.nt=40){aB:Bytes}{r:Bool}{k1:Option Bool}(cY:k1=some r->Ax Γ N f191 (.q [[none]] (D.bool r)) [1,1,1] ⟨[],[]⟩):∀(n1:Nat) (ng:Int),fq aB k1 n1 ng=some r->Ar Γ N f191 (.q [[none]] (D.bool r)) [1,1,0,1,0] n1 (O6 aB ng):=by
 intro n
 induction n with
 |zero=>intro ng h;simp[fq]at h
 |succ n1 ih1=>
  intro ng h;rw[fq]at h;refine aM fun N1 bw bn=>?_
  obtain⟨h30,h⟩|⟨h30,h⟩:=aK h
  ·obtain⟨b31,h32,h⟩:=aD h;have AM:=((aU.b h30).c h32)
   obtain⟨h33,h⟩|⟨h33,h⟩:=aK h
   ·have D7:=((((AM.r 5 h33).T 3).c h32).T 2)
    obtain⟨h34,h⟩|⟨h34,h⟩:=aK h
    ·have h:=aG h;subst h;exact((((D7.r 4 h34).T 1).b h34).T 2).ret hΓ
    ·have Hz:=((((((D7.r 3 h34).c h32).b h34).T 1).b h34).T 1)
     obtain⟨h35,h⟩|⟨h35,h⟩:=aK h
     ·have h:=aG h;subst h;exact(Hz.b h35).ret hΓ
     ·exact((Hz.b h35).a [.cn [0,3] []]).cf hΓ bn (ih1 (IntKind.i64.wrap (ng+1)) h)
   ·have yj:=(((AM.r 3 h33).c h32).r 2 h33)
    obtain⟨h36,h⟩|⟨h36,h⟩:=aK h
    ·have D1:=(((yj.r 3 h36).c h32).r 2 h36)
     obtain⟨h37,h⟩|⟨h37,h⟩:=aK h
     ·have h:=aG h;subst h;exact(((((D1.r 4 h37).b h36).b h37).b h36).T 1).ret hΓ
     ·have BG:=((((((D1.r 3 h37).c h32).b h37).b h36).b h37).b h36)
      obtain⟨h38,h⟩|⟨h38,h⟩:=aK h
      ·have h:=aG h;subst h;exact(BG.b h38).ret hΓ
      ·exact((BG.b h38).a [.cn [0,3] []]).cf hΓ bn (ih1 (IntKind.i64.wrap (ng+1)) h)
    ·exact(((yj.r 7 h36).F 1).a [bF,bF,bF,bF,.cn [0,3] []]).cf hΓ bn (ih1 (IntKind.i64.wrap (ng+1)) h)
  ·exact((aU.b h30).a [.hl 0 [] []]).ex hΓ bw (cY h)
theorem eW{aB:Bytes}{r:Bool}(h:fN aB=some r):Good prog 191 [D.str aB] (D.bool r):=by
 refine gd func191 [[none]] 40 fun hr Γ hΓ=>?_
 rw[fN]at h;obtain⟨h1,h⟩|⟨h1,h⟩:=aK h
 ·have h:=aG h;subst h;exact((aU.r 4 h1).T 1).ret hΓ
 ·have Hx:=(aU.r 4 h1)
  obtain⟨h2,h⟩|⟨h2,h⟩:=aK h
  ·have h:=aG h;subst h;exact(Hx.b h2).ret hΓ
  ·refine((Hx.b h2).a [.cn [0,3] []]).lp hΓ (MP hΓ (fun h=>?_) fuel 0 h);have h:=aG h;subst h;exact aU.ret hΓ
def rO(aB:Bytes):Option Bool:=((fN aB).bind fun y1=>(bif y1 then((mC aB 0).bind fun b4=>(some (decide ((b4.toNat:Int)>=97))))else(some false)))
theorem mm{aB:Bytes}{r:Bool}(h:rO aB=some r):Good prog 211 [D.str aB] (D.bool r):=by
 refine gd func211 [[none]] 10 fun hr Γ hΓ=>?_
 rw[rO]at h;obtain⟨y1,h2,h⟩:=aD h;obtain⟨h3,h⟩|⟨h3,h⟩:=aK h
 ·obtain⟨b4,h5,h⟩:=aD h;cases h;exact((((aU.g (eW h2)).r 2 h3).c h5).r 2 h3).ret hΓ
 ·have h:=aG h;subst h;exact((aU.g (eW h2)).r 4 h3).ret hΓ
def lQ(aB:Bytes):Option Bool:=(bif decide (((aB.length:Int):Int)>1)then((mC aB 0).bind fun b2=>(bif (b2.toNat:Int)==63 then((PX aB.length (some (D.int .i64 1)) none).bind fun p=>(fun l5 u6=>((fN ((aB.take u6).drop l5)).bind fun y8=>(some y8))) p.1 p.2)else(some false)))else(some false))
theorem oA{aB:Bytes}{r:Bool}(h:lQ aB=some r):Good prog 192 [D.str aB] (D.bool r):=by
 refine gd func192 [[none]] 16 fun hr Γ hΓ=>?_
 rw[lQ]at h;obtain⟨h1,h⟩|⟨h1,h⟩:=aK h
 ·obtain⟨b2,h3,h⟩:=aD h;have k7:=(((aU.r 2 h1).c h3).r 2 h1)
  obtain⟨h4,h⟩|⟨h4,h⟩:=aK h
  ·obtain⟨⟨l5,u6⟩,h7,h⟩:=aD h;obtain⟨y8,h9,h⟩:=aD h;have h:=aG h;subst h;exact((((((k7.r 2 h4).w h7).a [.cut l5 u6]).b h4).g (eW h9)).b h4).ret hΓ
  ·have h:=aG h;subst h;exact(k7.r 4 h4).ret hΓ
 ·have h:=aG h;subst h;exact((aU.r 4 h1).F 4).ret hΓ
def j8(aB:Bytes):Option Bool:=((fN aB).bind fun y1=>(bif y1 then(some true)else((lQ aB).bind fun y4=>(some y4))))
theorem kC{aB:Bytes}{r:Bool}(h:j8 aB=some r):Good prog 262 [D.str aB] (D.bool r):=by
 refine gd func262 [[none]] 9 fun hr Γ hΓ=>?_
 rw[j8]at h;obtain⟨y1,h2,h⟩:=aD h;obtain⟨h3,h⟩|⟨h3,h⟩:=aK h
 ·have h:=aG h;subst h;exact((aU.g (eW h2)).r 3 h3).ret hΓ
 ·obtain⟨y4,h5,h⟩:=aD h;have h:=aG h;subst h;exact((((aU.g (eW h2)).r 2 h3).g (oA h5)).b h3).ret hΓ
def mE(aB:aE)(k1:Option Bool):aJ->Nat->Option Bool
 | [],i1=>(k1)
 |bD::bg,i1=>((j8 bD).bind fun Xn=>(bif !(Xn)then(some false)else(mE aB k1 bg (i1+1))))
def jD(aB:aE):Option Bool:=((rO aB.rel).bind fun y1=>(bif !(y1)then(some false)else(bif decide ((((aB.args.map tx).length:Int):Int)>3)then(some false)else(mE aB (some true) aB.args 0))))
def IY(aB:aE)(cT:Int):St:=⟨[(16,D.sl (aB.args.map tx)),(17,D.int .i64 ((aB.args.map tx).length:Int)),(18,D.int .i64 cT)],[]⟩
theorem GK(hΓ:Γ.nt=26){aB:aE}{r:Bool}{k1:Option Bool}(cY:k1=some r->Ax Γ N f261 (.q [[none]] (D.bool r)) [1,1,1] ⟨[],[]⟩)(hm1:aB.args.length<=maxLen):∀(rest:aJ) (i1:Nat),aB.args.drop i1=rest->mE aB k1 rest i1=some r->Ar Γ N f261 (.q [[none]] (D.bool r)) [1,1,0,1,0] (rest.length+1) (IY aB (i1:Int)):=by
 intro rest
 induction rest with
 |nil=>
  intro i1 aq h;rw[mE]at h;refine aM fun N1 bw bn=>?_
  exact((aU.ge tx aq).a [.hl 0 [] []]).ex hΓ bw (cY h)
 |cons bD bg ih1=>
  intro i1 aq h;rw[mE]at h;refine aM fun N1 bw bn=>?_
  obtain⟨Xn,h26,h⟩:=aD h;have dH:=(((aU.lt tx aq).l (av tx 1 (dc aq) rfl)).g (kC h26))
  obtain⟨h27,h⟩|⟨h27,h⟩:=aK h
  ·have h:=aG h;subst h;exact(dH.b h27).ret hΓ
  ·exact((dH.b h27).a [.cn [16,17,18] []]).ct hΓ bn (iS aq hm1) (ih1 (i1+1) (dn aq) h)
theorem js{aB:aE}{r:Bool}(h:jD aB=some r):Good prog 261 [D.agg (aE.c aB)] (D.bool r):=by
 refine gd func261 [[none]] 26 fun hr Γ hΓ=>?_
 rw[jD]at h;obtain⟨y1,h2,h⟩:=aD h;obtain⟨h3,h⟩|⟨h3,h⟩:=aK h
 ·have h:=aG h;subst h;exact(((aU.g (mm h2)).r 5 h3).T 1).ret hΓ
 ·have jU:=((aU.g (mm h2)).r 5 h3)
  obtain⟨h4,h⟩|⟨h4,h⟩:=aK h
  ·have h:=aG h;subst h;exact(jU.b h4).ret hΓ
  ·refine((jU.b h4).a [.cn [16,17,18] []]).lp hΓ (GK hΓ (fun h=>?_) (by have:=(dU.sl (dU.agg (hr _ (aC (i:=0) rfl)) (.sl (aB.args.map tx)) (by simp))).1;simpa using this) aB.args 0 rfl h);have h:=aG h;subst h;exact aU.ret hΓ
def ij(aB:aE):Option Bool:=(bif (aB.rel:Bytes)==([])then(some ((((aB.args.map tx).length:Int):Int)==0))else(some false))
theorem oG{aB:aE}{r:Bool}(h:ij aB=some r):Good prog 263 [D.agg (aE.c aB)] (D.bool r):=by
 refine gd func263 [[none]] 12 fun hr Γ hΓ=>?_
 rw[ij]at h;obtain⟨h1,h⟩|⟨h1,h⟩:=aK h
 ·cases h;exact(aU.r 5 h1).ret hΓ
 ·have h:=aG h;subst h;exact(aU.r 5 h1).ret hΓ
def rN(aB:aN):Option Bool:=(bif (aB.kind:Int)==1 then((jD aB.pat).bind fun y2=>(bif y2 then(bif (aB.left:Bytes)==([])then(some ((aB.right:Bytes)==([])))else(some false))else(some false)))else(bif (aB.kind:Int)==2 then((jD aB.pat).bind fun y7=>(bif y7 then(bif (aB.left:Bytes)==([])then(some ((aB.right:Bytes)==([])))else(some false))else(some false)))else(bif (aB.kind:Int)==3 then((j8 aB.left).bind fun y12=>(bif y12 then((j8 aB.right).bind fun Vu=>(bif Vu then((ij aB.pat).bind fun y18=>(some y18))else(some false)))else(some false)))else(bif (aB.kind:Int)==4 then((j8 aB.left).bind fun RI=>(bif RI then((j8 aB.right).bind fun Ri=>(bif Ri then((ij aB.pat).bind fun pQ=>(some pQ))else(some false)))else(some false)))else(bif (aB.kind:Int)==5 then((j8 aB.left).bind fun y30=>(bif y30 then((j8 aB.right).bind fun BR=>(bif BR then((ij aB.pat).bind fun I7=>(some I7))else(some false)))else(some false)))else(some false))))))
theorem q9{aB:aN}{r:Bool}(h:rN aB=some r):Good prog 212 [D.agg (aN.c aB)] (D.bool r):=by
 refine gd func212 [[none]] 38 fun hr Γ hΓ=>?_
 rw[rN]at h;obtain⟨h1,h⟩|⟨h1,h⟩:=aK h
 ·obtain⟨y2,h3,h⟩:=aD h;have k7:=((aU.r 2 h1).g (js h3))
  obtain⟨h4,h⟩|⟨h4,h⟩:=aK h
  ·have dH:=(k7.r 4 h4)
   obtain⟨h5,h⟩|⟨h5,h⟩:=aK h
   ·cases h;exact(dH.r 4 h5).ret hΓ
   ·have h:=aG h;subst h;exact(dH.r 4 h5).ret hΓ
  ·have h:=aG h;subst h;exact((k7.r 4 h4).F 4).ret hΓ
 ·obtain⟨h6,h⟩|⟨h6,h⟩:=aK h
  ·obtain⟨y7,h8,h⟩:=aD h;have jU:=(((aU.b h1).b h6).g (js h8))
   obtain⟨h9,h⟩|⟨h9,h⟩:=aK h
   ·have iU:=(jU.r 4 h9)
    obtain⟨h10,h⟩|⟨h10,h⟩:=aK h
    ·cases h;exact(iU.r 4 h10).ret hΓ
    ·have h:=aG h;subst h;exact(iU.r 4 h10).ret hΓ
   ·have h:=aG h;subst h;exact((jU.r 4 h9).F 4).ret hΓ
  ·have tX:=((aU.b h1).b h6)
   obtain⟨h11,h⟩|⟨h11,h⟩:=aK h
   ·obtain⟨y12,h13,h⟩:=aD h;have wL:=((tX.r 2 h11).g (kC h13))
    obtain⟨h14,h⟩|⟨h14,h⟩:=aK h
    ·obtain⟨Vu,h16,h⟩:=aD h;have AM:=(((wL.r 3 h14).g (kC h16)).b h14)
     obtain⟨h17,h⟩|⟨h17,h⟩:=aK h
     ·obtain⟨y18,h19,h⟩:=aD h;have h:=aG h;subst h;exact(((AM.r 3 h17).g (oG h19)).b h17).ret hΓ
     ·have h:=aG h;subst h;exact(AM.r 4 h17).ret hΓ
    ·have h:=aG h;subst h;exact((wL.r 4 h14).F 4).ret hΓ
   ·obtain⟨h20,h⟩|⟨h20,h⟩:=aK h
    ·obtain⟨RI,h22,h⟩:=aD h;have D7:=(((tX.b h11).r 2 h20).g (kC h22))
     obtain⟨h23,h⟩|⟨h23,h⟩:=aK h
     ·obtain⟨Ri,h25,h⟩:=aD h;have Hz:=(((D7.r 3 h23).g (kC h25)).b h23)
      obtain⟨h26,h⟩|⟨h26,h⟩:=aK h
      ·obtain⟨pQ,h28,h⟩:=aD h;have h:=aG h;subst h;exact(((Hz.r 3 h26).g (oG h28)).b h26).ret hΓ
      ·have h:=aG h;subst h;exact(Hz.r 4 h26).ret hΓ
     ·have h:=aG h;subst h;exact((D7.r 4 h23).F 4).ret hΓ
    ·have yj:=((tX.b h11).b h20)
     obtain⟨h29,h⟩|⟨h29,h⟩:=aK h
     ·obtain⟨y30,h31,h⟩:=aD h;have D1:=((yj.b h29).g (kC h31))
      obtain⟨h32,h⟩|⟨h32,h⟩:=aK h
      ·obtain⟨BR,h34,h⟩:=aD h;have BG:=(((D1.r 3 h32).g (kC h34)).b h32)
       obtain⟨h35,h⟩|⟨h35,h⟩:=aK h
       ·obtain⟨I7,h37,h⟩:=aD h;have h:=aG h;subst h;exact(((BG.r 3 h35).g (oG h37)).b h35).ret hΓ
       ·have h:=aG h;subst h;exact(BG.r 4 h35).ret hΓ
      ·have h:=aG h;subst h;exact((D1.r 4 h32).F 4).ret hΓ
     ·have h:=aG h;subst h;exact(yj.b h29).ret hΓ
def ff(aB:aJ)(k1:aJ->Option aJ):aJ->Nat->aJ->Option aJ
 | [],i1,bC=>(k1 bC)
 |bD::bg,i1,bC=>((lQ bD).bind fun Dx=>(bif Dx then(bif room ((bC.map tx).length+([[D.str bD]]).length) 16 then(ff aB k1 bg (i1+1) (bC++([bD])))else none)else(ff aB k1 bg (i1+1) bC)))
def n8(aB:aJ):Option aJ:=(ff aB (fun(bO:aJ)=>(some bO)) aB 0 ([]:aJ))
def As(aB:aJ)(W0:List aS)(cT:Int):St:=⟨[(3,D.acc 0),(6,D.sl (aB.map tx)),(7,D.int .i64 ((aB.map tx).length:Int)),(8,D.int .i64 cT)],[Ob.row .uq 9 1 W0]⟩
theorem Gd(hΓ:Γ.nt=20){aB:aJ}{r:aJ}{k1:aJ->Option aJ}(cY:∀(bO:aJ),k1 bO=some r->Ax Γ N f216 (.q [[some (9,1)]] (D.fr 9 1 (r.map tx))) [1,1,1] ⟨[(3,D.acc 0)],[Ob.row .uq 9 1 (bO.map tx)]⟩)(hm1:aB.length<=maxLen):∀(rest:aJ) (i1:Nat) (bC:aJ),aB.drop i1=rest->ff aB k1 rest i1 bC=some r->Ar Γ N f216 (.q [[some (9,1)]] (D.fr 9 1 (r.map tx))) [1,1,0,1,0] (rest.length+1) (As aB (bC.map tx) (i1:Int)):=by
 intro rest
 induction rest with
 |nil=>
  intro i1 bC aq h;rw[ff]at h;refine aM fun N1 bw bn=>?_
  exact((aU.ge tx aq).a [.hl 0 [3] [0]]).ex hΓ bw (cY bC h)
 |cons bD bg ih1=>
  intro i1 bC aq h;rw[ff]at h;refine aM fun N1 bw bn=>?_
  obtain⟨Dx,h33,h⟩:=aD h;have dH:=(((aU.lt tx aq).l (av tx 1 (dc aq) rfl)).g (oA h33))
  obtain⟨h34,h⟩|⟨h34,h⟩:=aK h
  ·obtain⟨h35,h⟩:=bV h;exact(((dH.b h34).w (cA h35)).a [.cn [3,6,7,8] [2]]).cs hΓ bn (As aB ((bC.map tx)++([[D.str bD]])) (IntKind.i64.wrap ((i1:Int)+1))) (by first| (simp only[iS aq hm1,mA]<;>rfl)| (simp only[iS aq hm1,mA,aE.c,aR.c,aN.c,Action.c,aO.c,aI.c,cr.c,aQ.c,Node.c,aF.c,cv.c]<;>rfl)) (ih1 (i1+1) (bC++([bD])) (dn aq) h)
  ·exact((dH.b h34).a [.cn [3,6,7,8] [0]]).ct hΓ bn (iS aq hm1) (ih1 (i1+1) bC (dn aq) h)
theorem vN{aB:aJ}{r:aJ}(h:n8 aB=some r):Good prog 216 [D.sl (aB.map tx)] (D.fr 9 1 (r.map tx)):=by
 refine gd func216 [[some (9,1)]] 20 fun hr Γ hΓ=>?_
 rw[n8]at h;refine(aU.a [.PY 3,.cn [3,6,7,8] [0]]).lp hΓ (Gd hΓ (fun bO h=>?_) (by have:=(dU.sl (hr _ (aC (i:=0) rfl))).1;simpa using this) aB 0 ([]:aJ) rfl h);have h:=aG h;subst h;exact aU.ret hΓ
def dw(aB:aJ)(k1:aJ->Option aJ):aJ->Nat->aJ->Option aJ
 | [],i1,bu=>(k1 bu)
 |bD::bg,i1,bu=>(bif ((i1:Int):Int)==0 then(bif room ((bu.map tx).length+([[D.str bD]]).length) 16 then(dw aB k1 bg (i1+1) (bu++([bD])))else none)else((mC (oW (([]:aJ)++aB)) (IntKind.i64.wrap ((i1:Int)-1))).bind fun x47=>(bif !((x47:Bytes)==bD)then(bif room ((bu.map tx).length+([[D.str bD]]).length) 16 then(dw aB k1 bg (i1+1) (bu++([bD])))else none)else(dw aB k1 bg (i1+1) bu))))
def kE(aB:aJ):Option aJ:=(bif room (([]:List aS).length+(aB.map tx).length) 16 then(bif decide ((([]:aJ)++aB).length<4611686018427387904)then(bif decide ((oW (([]:aJ)++aB)).length<=maxLen)then(dw aB (fun(bO:aJ)=>(some bO)) (oW (([]:aJ)++aB)) 0 ([]:aJ))else none)else none)else none)
def vK(aB:aJ)(W0:List aS)(cT:Int):St:=⟨[(3,D.acc 0),(4,D.acc 1),(11,D.acc 0),(12,D.int .i64 (((oW (([]:aJ)++aB)).map tx).length:Int)),(13,D.int .i64 cT)],[Ob.row .uq 9 1 ((oW (([]:aJ)++aB)).map tx),Ob.row .uq 9 1 W0]⟩
theorem EG(hΓ:Γ.nt=35){aB:aJ}{r:aJ}{k1:aJ->Option aJ}(cY:∀(bO:aJ),k1 bO=some r->Ax Γ N f218 (.q [[some (9,1)]] (D.fr 9 1 (r.map tx))) [1,1,1,1,1] ⟨[(4,D.acc 0)],[Ob.row .uq 9 1 (bO.map tx)]⟩)(hm1:(oW (([]:aJ)++aB)).length<=maxLen):∀(rest:aJ) (i1:Nat) (bu:aJ),(oW (([]:aJ)++aB)).drop i1=rest->dw aB k1 rest i1 bu=some r->Ar Γ N f218 (.q [[some (9,1)]] (D.fr 9 1 (r.map tx))) [1,1,1,1,0,1,0] (rest.length+1) (vK aB (bu.map tx) (i1:Int)):=by
 intro rest
 induction rest with
 |nil=>
  intro i1 bu aq h;rw[dw]at h;refine aM fun N1 bw bn=>?_
  exact((aU.ge tx aq).a [.hl 0 [4] [1]]).ex hΓ bw (cY bu h)
 |cons bD bg ih1=>
  intro i1 bu aq h;rw[dw]at h;refine aM fun N1 bw bn=>?_
  have jU:=(((aU.lt tx aq).i (pG tx 1 (dc aq))).o 1 1 .uq (dB tx (dc aq)))
  obtain⟨h45,h⟩|⟨h45,h⟩:=aK h
  ·obtain⟨h46,h⟩:=bV h;exact((((jU.r 8 h45).T 1).w (cA h46)).a [.cn [3,4,11,12,13] [0,3]]).cs hΓ bn (vK aB ((bu.map tx)++([[D.str bD]])) (IntKind.i64.wrap ((i1:Int)+1))) (by first| (simp only[iS aq hm1,mA]<;>rfl)| (simp only[iS aq hm1,mA,aE.c,aR.c,aN.c,Action.c,aO.c,aI.c,cr.c,aQ.c,Node.c,aF.c,cv.c]<;>rfl)) (ih1 (i1+1) (bu++([bD])) (dn aq) h)
  ·obtain⟨x47,h48,h⟩:=aD h;have iU:=(((((jU.r 4 h45).i (xz tx 1 h48)).b h45).o 1 1 .uq (dB tx (tf h48))).r 3 h45)
   obtain⟨h49,h⟩|⟨h49,h⟩:=aK h
   ·obtain⟨h50,h⟩:=bV h;exact(((iU.b h49).w (cA h50)).a [.cn [3,4,11,12,13] [0,3]]).cs hΓ bn (vK aB ((bu.map tx)++([[D.str bD]])) (IntKind.i64.wrap ((i1:Int)+1))) (by first| (simp only[iS aq hm1,mA]<;>rfl)| (simp only[iS aq hm1,mA,aE.c,aR.c,aN.c,Action.c,aO.c,aI.c,cr.c,aQ.c,Node.c,aF.c,cv.c]<;>rfl)) (ih1 (i1+1) (bu++([bD])) (dn aq) h)
   ·exact((iU.b h49).a [.cn [3,4,11,12,13] [0,1]]).ct hΓ bn (iS aq hm1) (ih1 (i1+1) bu (dn aq) h)
theorem sR{aB:aJ}{r:aJ}(h:kE aB=some r):Good prog 218 [D.sl (aB.map tx)] (D.fr 9 1 (r.map tx)):=by
 refine gd func218 [[some (9,1)]] 35 fun hr Γ hΓ=>?_
 rw[kE]at h;obtain⟨h1,h⟩:=bV h;obtain⟨h2,h⟩:=bV h;obtain⟨h51,h⟩:=bV h;refine(((((aU.w (cA h1)).w (show(∀r∈(aB.map tx),r.length=1)/\(true=true->D.nv (aB.map tx)=true)from⟨by first|simp| (intro r hr;obtain⟨x,_,rfl⟩:=cI.1 (cG (gI hr));rfl),by simp[D.nv,D.flat]⟩)).w (show(([]:List aS)++(aB.map tx)).flatten.all D.flat=true from by simpa only[bS,bH,bX]using Ul (([]:aJ)++aB))).w (show UC prog 266 9 1 (([]:List aS)++(aB.map tx)) ((oW (([]:aJ)++aB)).map tx)from by simpa only[bS,bH,bX]using(JR (e:=9) (bt h2)))).a [.fl true,.mu 0 ((oW (([]:aJ)++aB)).map tx),.PY 4,.cn [3,4,11,12,13] [0,1]]).lp hΓ (EG hΓ (fun bO h=>?_) (bt h51) (oW (([]:aJ)++aB)) 0 ([]:aJ) rfl h);have h:=aG h;subst h;exact aU.ret hΓ
def eo(aB:aO)(aV:Int)(k1:aJ->Option aJ):aj->Nat->aJ->Option aJ
 | [],i1,bC=>(k1 bC)
 |bD::bg,i1,bC=>(bif decide (((i1:Int):Int)<aV)then(bif (bD.kind:Int)==1 then((n8 bD.pat.args).bind fun RJ=>(bif room ((bC.map tx).length+(RJ.map tx).length) 16 then(eo aB aV k1 bg (i1+1) (bC++RJ))else none))else(eo aB aV k1 bg (i1+1) bC))else(eo aB aV k1 bg (i1+1) bC))
def pT(aB:aO)(aV:Int):Option aJ:=(eo aB aV (fun(bO:aJ)=>((kE bO).bind fun y42=>(some y42))) aB.conds 0 ([]:aJ))
def Ak(aB:aO)(aV:Int)(W0:List aS)(cT:Int):St:=⟨[(1,D.int .i64 aV),(5,D.acc 0),(9,D.sl (aB.conds.map aN.c)),(10,D.int .i64 ((aB.conds.map aN.c).length:Int)),(11,D.int .i64 cT)],[Ob.row .uq 9 1 W0]⟩
theorem GF(hΓ:Γ.nt=33){aB:aO}{aV:Int}{r:aJ}{k1:aJ->Option aJ}(cY:∀(bO:aJ),k1 bO=some r->Ax Γ N f214 (.q [[some (9,1)]] (D.fr 9 1 (r.map tx))) [1,1,1] ⟨[(5,D.acc 0)],[Ob.row .uq 9 1 (bO.map tx)]⟩)(hm1:aB.conds.length<=maxLen):∀(rest:aj) (i1:Nat) (bC:aJ),aB.conds.drop i1=rest->eo aB aV k1 rest i1 bC=some r->Ar Γ N f214 (.q [[some (9,1)]] (D.fr 9 1 (r.map tx))) [1,1,0,1,0] (rest.length+1) (Ak aB aV (bC.map tx) (i1:Int)):=by
 intro rest
 induction rest with
 |nil=>
  intro i1 bC aq h;rw[eo]at h;refine aM fun N1 bw bn=>?_
  exact((aU.ge aN.c aq).a [.hl 0 [5] [0]]).ex hΓ bw (cY bC h)
 |cons bD bg ih1=>
  intro i1 bC aq h;rw[eo]at h;refine aM fun N1 bw bn=>?_
  have jU:=((aU.lt aN.c aq).l (av aN.c 5 (dc aq) rfl))
  obtain⟨h37,h⟩|⟨h37,h⟩:=aK h
  ·have iU:=(jU.r 4 h37)
   obtain⟨h38,h⟩|⟨h38,h⟩:=aK h
   ·obtain⟨RJ,h40,h⟩:=aD h;obtain⟨h41,h⟩:=bV h;exact((((iU.b h38).g (vN h40)).w (cA h41)).a [.cn [1,5,9,10,11] [3]]).cs hΓ bn (Ak aB aV ((bC.map tx)++(RJ.map tx)) (IntKind.i64.wrap ((i1:Int)+1))) (by first| (simp only[iS aq hm1,mA]<;>rfl)| (simp only[iS aq hm1,mA,aE.c,aR.c,aN.c,Action.c,aO.c,aI.c,cr.c,aQ.c,Node.c,aF.c,cv.c]<;>rfl)) (ih1 (i1+1) (bC++RJ) (dn aq) h)
   ·exact((iU.b h38).a [.cn [1,5,9,10,11] [0]]).ct hΓ bn (iS aq hm1) (ih1 (i1+1) bC (dn aq) h)
  ·exact(((jU.r 4 h37).F 1).a [.cn [1,5,9,10,11] [0]]).ct hΓ bn (iS aq hm1) (ih1 (i1+1) bC (dn aq) h)
theorem yx{aB:aO}{aV:Int}{r:aJ}(h:pT aB aV=some r):Good prog 214 [D.agg (aO.c aB),D.int .i64 aV] (D.fr 9 1 (r.map tx)):=by
 refine gd func214 [[some (9,1)]] 33 fun hr Γ hΓ=>?_
 rw[pT]at h;refine(aU.a [.PY 5,.cn [1,5,9,10,11] [1]]).lp hΓ (GF hΓ (fun bO h=>?_) (by have:=(dU.sl (dU.agg (hr _ (aC (i:=0) rfl)) (.sl (aB.conds.map aN.c)) (by simp))).1;simpa using this) aB.conds 0 ([]:aJ) rfl h);obtain⟨y42,h43,h⟩:=aD h;have h:=aG h;subst h;exact(aU.g (sR h43)).ret hΓ
def si(aB:aN):Option aJ:=((mw aB.pat.args).bind fun y1=>(bif room ((y1.map tx).length+(([aB.left,aB.right]:aJ).map tx).length) 16 then(some (y1++([aB.left,aB.right]:aJ)))else none))
theorem Aq{aB:aN}{r:aJ}(h:si aB=some r):Good prog 189 [D.agg (aN.c aB)] (D.fr 9 1 (r.map tx)):=by
 refine gd func189 [[some (9,1)]] 13 fun hr Γ hΓ=>?_
 rw[si]at h;obtain⟨y1,h2,h⟩:=aD h;obtain⟨h3,h⟩:=bV h;cases h;exact(((aU.a [.PY 2,.n 9]).g (vM h2)).w (cA h3)).rts hΓ (D.fr 9 1 ((y1.map tx)++(([aB.left,aB.right]:aJ).map tx))) (by first|rfl| (simp only[mA]<;>rfl)| (simp only[cV,mA]<;>rfl))
def oY(aB:aN):Option aJ:=((si aB).bind fun y1=>((n8 y1).bind fun y3=>((kE y3).bind fun y5=>(some y5))))
theorem vo{aB:aN}{r:aJ}(h:oY aB=some r):Good prog 264 [D.agg (aN.c aB)] (D.fr 9 1 (r.map tx)):=by
 refine gd func264 [[some (9,1)]] 7 fun hr Γ hΓ=>?_
 rw[oY]at h;obtain⟨y1,h2,h⟩:=aD h;obtain⟨y3,h4,h⟩:=aD h;obtain⟨y5,h6,h⟩:=aD h;have h:=aG h;subst h;exact(((aU.g (Aq h2)).g (vN h4)).g (sR h6)).ret hΓ
def lV(aB:aJ)(aV:Bytes)(k1:Option Bool):aJ->Nat->Option Bool
 | [],i1=>(k1)
 |bD::bg,i1=>(bif (bD:Bytes)==aV then(some true)else(lV aB aV k1 bg (i1+1)))
def lU(aB:aJ)(aV:Bytes):Option Bool:=(lV aB aV (some false) aB 0)
def Ma(aB:aJ)(aV:Bytes)(cT:Int):St:=⟨[(1,D.str aV),(7,D.sl (aB.map tx)),(8,D.int .i64 ((aB.map tx).length:Int)),(9,D.int .i64 cT)],[]⟩
theorem Kk(hΓ:Γ.nt=17){aB:aJ}{aV:Bytes}{r:Bool}{k1:Option Bool}(cY:k1=some r->Ax Γ N f217 (.q [[none]] (D.bool r)) [1,1] ⟨[],[]⟩)(hm1:aB.length<=maxLen):∀(rest:aJ) (i1:Nat),aB.drop i1=rest->lV aB aV k1 rest i1=some r->Ar Γ N f217 (.q [[none]] (D.bool r)) [1,0,1,0] (rest.length+1) (Ma aB aV (i1:Int)):=by
 intro rest
 induction rest with
 |nil=>
  intro i1 aq h;rw[lV]at h;refine aM fun N1 bw bn=>?_
  exact((aU.ge tx aq).a [.hl 0 [] []]).ex hΓ bw (cY h)
 |cons bD bg ih1=>
  intro i1 aq h;rw[lV]at h;refine aM fun N1 bw bn=>?_
  have dH:=((aU.lt tx aq).l (av tx 1 (dc aq) rfl))
  obtain⟨h13,h⟩|⟨h13,h⟩:=aK h
  ·have h:=aG h;subst h;exact(dH.b h13).ret hΓ
  ·exact((dH.b h13).a [.cn [1,7,8,9] []]).ct hΓ bn (iS aq hm1) (ih1 (i1+1) (dn aq) h)
theorem sC{aB:aJ}{aV:Bytes}{r:Bool}(h:lU aB aV=some r):Good prog 217 [D.sl (aB.map tx),D.str aV] (D.bool r):=by
 refine gd func217 [[none]] 17 fun hr Γ hΓ=>?_
 rw[lU]at h;refine(aU.a [.cn [1,7,8,9] []]).lp hΓ (Kk hΓ (fun h=>?_) (by have:=(dU.sl (hr _ (aC (i:=0) rfl))).1;simpa using this) aB 0 rfl h);have h:=aG h;subst h;exact aU.ret hΓ
def eL(aB:aO)(aV:Int)(cW:Bytes)(k1:Option Bool):aj->Nat->Option Bool
 | [],i1=>(k1)
 |bD::bg,i1=>(bif ((i1:Int):Int) != aV then((oY bD).bind fun G1=>((lU G1 cW).bind fun I7=>(bif I7 then(some true)else(eL aB aV cW k1 bg (i1+1)))))else(eL aB aV cW k1 bg (i1+1)))
def ez(aB:aO)(cW:Bytes)(k2:Option Bool):bz->Nat->Option Bool
 | [],i2=>(k2)
 |lM::wR,i2=>((lU lM.pat.args cW).bind fun y59=>(bif y59 then(some true)else(ez aB cW k2 wR (i2+1))))
def lW(aB:aO)(aV:Int)(cW:Bytes):Option Bool:=(eL aB aV cW (ez aB cW (some false) aB.cu 0) aB.conds 0)
def CL(aB:aO)(aV:Int)(cW:Bytes)(cT:Int):St:=⟨[(1,D.int .i64 aV),(2,D.str cW),(3,D.ptr 0 0),(12,D.sl (aB.conds.map aN.c)),(13,D.int .i64 ((aB.conds.map aN.c).length:Int)),(14,D.int .i64 cT)],[Ob.box (aO.c aB)]⟩
theorem Bk(hΓ:Γ.nt=42){aB:aO}{aV:Int}{cW:Bytes}{r:Bool}{k1:Option Bool}(cY:k1=some r->Ax Γ N f265 (.q [[none]] (D.bool r)) [1,1] ⟨[(2,D.str cW),(3,D.ptr 0 0)],[Ob.box (aO.c aB)]⟩)(hm1:aB.conds.length<=maxLen):∀(rest:aj) (i1:Nat),aB.conds.drop i1=rest->eL aB aV cW k1 rest i1=some r->Ar Γ N f265 (.q [[none]] (D.bool r)) [1,0,1,0] (rest.length+1) (CL aB aV cW (i1:Int)):=by
 intro rest
 induction rest with
 |nil=>
  intro i1 aq h;rw[eL]at h;refine aM fun N1 bw bn=>?_
  exact((aU.ge aN.c aq).a [.hl 0 [2,3] [0]]).ex hΓ bw (cY h)
 |cons bD bg ih1=>
  intro i1 aq h;rw[eL]at h;refine aM fun N1 bw bn=>?_
  have iU:=((aU.lt aN.c aq).l (av aN.c 5 (dc aq) rfl))
  obtain⟨h33,h⟩|⟨h33,h⟩:=aK h
  ·obtain⟨G1,h35,h⟩:=aD h;obtain⟨I7,h37,h⟩:=aD h;have tX:=(((((iU.r 2 h33).g (vo h35)).r 2 h33).g (sC h37)).b h33)
   obtain⟨h38,h⟩|⟨h38,h⟩:=aK h
   ·have h:=aG h;subst h;exact(tX.b h38).ret hΓ
   ·exact((tX.b h38).a [.cn [1,2,3,12,13,14] [0]]).ct hΓ bn (iS aq hm1) (ih1 (i1+1) (dn aq) h)
  ·exact(((iU.r 5 h33).F 1).a [.cn [1,2,3,12,13,14] [0]]).ct hΓ bn (iS aq hm1) (ih1 (i1+1) (dn aq) h)
def CM(aB:aO)(cW:Bytes)(cT:Int):St:=⟨[(2,D.str cW),(30,D.sl (aB.cu.map Action.c)),(31,D.int .i64 ((aB.cu.map Action.c).length:Int)),(32,D.int .i64 cT)],[]⟩
theorem Bl(hΓ:Γ.nt=42){aB:aO}{cW:Bytes}{r:Bool}{k2:Option Bool}(CZ:k2=some r->Ax Γ N f265 (.q [[none]] (D.bool r)) [1,1,1] ⟨[],[]⟩)(hm2:aB.cu.length<=maxLen):∀(rest:bz) (i2:Nat),aB.cu.drop i2=rest->ez aB cW k2 rest i2=some r->Ar Γ N f265 (.q [[none]] (D.bool r)) [1,1,0,1,0] (rest.length+1) (CM aB cW (i2:Int)):=by
 intro rest
 induction rest with
 |nil=>
  intro i2 hd2 h;rw[ez]at h;refine aM fun N2 xV ud=>?_
  exact((aU.ge Action.c hd2).a [.hl 0 [] []]).ex hΓ xV (CZ h)
 |cons lM wR ih2=>
  intro i2 hd2 h;rw[ez]at h;refine aM fun N2 xV ud=>?_
  obtain⟨y59,h60,h⟩:=aD h;have wL:=(((aU.lt Action.c hd2).l (av Action.c 3 (dc hd2) rfl)).g (sC h60))
  obtain⟨h61,h⟩|⟨h61,h⟩:=aK h
  ·have h:=aG h;subst h;exact(wL.b h61).ret hΓ
  ·exact((wL.b h61).a [.cn [2,30,31,32] []]).ct hΓ ud (iS hd2 hm2) (ih2 (i2+1) (dn hd2) h)
theorem BC{aB:aO}{aV:Int}{cW:Bytes}{r:Bool}(h:lW aB aV cW=some r):Good prog 265 [D.agg (aO.c aB),D.int .i64 aV,D.str cW] (D.bool r):=by
 refine gd func265 [[none]] 42 fun hr Γ hΓ=>?_
 rw[lW]at h;refine(aU.a [.cn [1,2,3,12,13,14] [0]]).lp hΓ (Bk hΓ (fun h=>?_) (by have:=(dU.sl (dU.agg (hr _ (aC (i:=0) rfl)) (.sl (aB.conds.map aN.c)) (by simp))).1;simpa using this) aB.conds 0 rfl h);refine(aU.a [.cn [2,30,31,32] []]).lp hΓ (Bl hΓ (fun h=>?_) (by have:=(dU.sl (dU.agg (hr _ (aC (i:=0) rfl)) (.sl (aB.cu.map Action.c)) (by simp))).1;simpa using this) aB.cu 0 rfl h);have h:=aG h;subst h;exact aU.ret hΓ
def gU(aB:aO)(aV:Int)(x1:aN)(y3:aJ)(y5:aJ)(k1:Option Bool):aJ->Nat->Option Bool
 | [],i1=>(k1)
 |bD::bg,i1=>(bif (x1.kind:Int)==1 then(gU aB aV x1 y3 y5 k1 bg (i1+1))else((lU y3 bD).bind fun K1=>(bif K1 then(gU aB aV x1 y3 y5 k1 bg (i1+1))else(bif (x1.kind:Int) != 2 then(some false)else((lW aB aV bD).bind fun y53=>(bif y53 then(some false)else(gU aB aV x1 y3 y5 k1 bg (i1+1))))))))
def qg(aB:aO)(aV:Int):Option Bool:=((mC aB.conds aV).bind fun x1=>((pT aB aV).bind fun y3=>((oY x1).bind fun y5=>(bif decide (y5.length<=maxLen)then(gU aB aV x1 y3 y5 (some true) y5 0)else none))))
def Kj(aB:aO)(aV:Int)(x1:aN)(y3:aJ)(y5:aJ)(cT:Int):St:=⟨[(1,D.int .i64 aV),(2,D.ptr 0 0),(5,D.ptr 1 0),(6,D.acc 2),(18,D.acc 3),(19,D.int .i64 ((y5.map tx).length:Int)),(20,D.int .i64 cT)],[Ob.box (aO.c aB),Ob.box [D.int .i64 x1.kind,D.str x1.pat.rel,D.sl (x1.pat.args.map tx),D.str x1.left,D.str x1.right],Ob.row .uq 9 1 (y3.map tx),Ob.row .uq 9 1 (y5.map tx)]⟩
theorem Ig(hΓ:Γ.nt=42){aB:aO}{aV:Int}{x1:aN}{y3:aJ}{y5:aJ}{r:Bool}{k1:Option Bool}(cY:k1=some r->Ax Γ N f213 (.q [[none]] (D.bool r)) [1,1,1,1] ⟨[],[]⟩)(hm1:y5.length<=maxLen):∀(rest:aJ) (i1:Nat),y5.drop i1=rest->gU aB aV x1 y3 y5 k1 rest i1=some r->Ar Γ N f213 (.q [[none]] (D.bool r)) [1,1,1,0,1,0] (rest.length+1) (Kj aB aV x1 y3 y5 (i1:Int)):=by
 intro rest
 induction rest with
 |nil=>
  intro i1 aq h;rw[gU]at h;refine aM fun N1 bw bn=>?_
  exact((aU.ge tx aq).a [.hl 0 [] []]).ex hΓ bw (cY h)
 |cons bD bg ih1=>
  intro i1 aq h;rw[gU]at h;refine aM fun N1 bw bn=>?_
  have iU:=(((aU.lt tx aq).i (pG tx 1 (dc aq))).o 1 1 .uq (dB tx (dc aq)))
  obtain⟨h48,h⟩|⟨h48,h⟩:=aK h
  ·exact(((iU.r 4 h48).T 1).a [.cn [1,2,5,6,18,19,20] [0,1,2,3]]).ct hΓ bn (iS aq hm1) (ih1 (i1+1) (dn aq) h)
  ·obtain⟨K1,h50,h⟩:=aD h;have tX:=(((iU.r 3 h48).g (sC h50)).b h48)
   obtain⟨h51,h⟩|⟨h51,h⟩:=aK h
   ·exact((tX.b h51).a [.cn [1,2,5,6,18,19,20] [0,1,2,3]]).ct hΓ bn (iS aq hm1) (ih1 (i1+1) (dn aq) h)
   ·obtain⟨h52,h⟩|⟨h52,h⟩:=aK h
    ·have h:=aG h;subst h;exact(((tX.b h51).r 5 h52).T 1).ret hΓ
    ·obtain⟨y53,h54,h⟩:=aD h;have wL:=((((tX.b h51).r 4 h52).g (BC h54)).b h52)
     obtain⟨h55,h⟩|⟨h55,h⟩:=aK h
     ·have h:=aG h;subst h;exact(wL.b h55).ret hΓ
     ·exact((wL.b h55).a [.cn [1,2,5,6,18,19,20] [0,1,2,3]]).ct hΓ bn (iS aq hm1) (ih1 (i1+1) (dn aq) h)
theorem zn{aB:aO}{aV:Int}{r:Bool}(h:qg aB aV=some r):Good prog 213 [D.agg (aO.c aB),D.int .i64 aV] (D.bool r):=by
 refine gd func213 [[none]] 42 fun hr Γ hΓ=>?_
 rw[qg]at h;obtain⟨x1,h2,h⟩:=aD h;obtain⟨y3,h4,h⟩:=aD h;obtain⟨y5,h6,h⟩:=aD h;obtain⟨h56,h⟩:=bV h;refine((((aU.l (dX aN.c 5 h2 rfl)).g (yx h4)).g (vo h6)).a [.cn [1,2,5,6,18,19,20] [0,1,2,3]]).lp hΓ (Ig hΓ (fun h=>?_) (bt h56) y5 0 rfl h);have h:=aG h;subst h;exact aU.ret hΓ
def uE(aB:Action):Option Bool:=(bif (aB.kind:Int)==1 then((jD aB.pat).bind fun y2=>(some y2))else(bif (aB.kind:Int)==2 then((jD aB.pat).bind fun y5=>(some y5))else(bif (aB.kind:Int)==3 then((ij aB.pat).bind fun y8=>(some y8))else(some false))))
theorem GI{aB:Action}{r:Bool}(h:uE aB=some r):Good prog 215 [D.agg (Action.c aB)] (D.bool r):=by
 refine gd func215 [[none]] 16 fun hr Γ hΓ=>?_
 rw[uE]at h;obtain⟨h1,h⟩|⟨h1,h⟩:=aK h
 ·obtain⟨y2,h3,h⟩:=aD h;have h:=aG h;subst h;exact((aU.r 2 h1).g (js h3)).ret hΓ
 ·obtain⟨h4,h⟩|⟨h4,h⟩:=aK h
  ·obtain⟨y5,h6,h⟩:=aD h;have h:=aG h;subst h;exact(((aU.b h1).b h4).g (js h6)).ret hΓ
  ·have k7:=((aU.b h1).b h4)
   obtain⟨h7,h⟩|⟨h7,h⟩:=aK h
   ·obtain⟨y8,h9,h⟩:=aD h;have h:=aG h;subst h;exact((k7.b h7).g (oG h9)).ret hΓ
   ·have h:=aG h;subst h;exact(k7.b h7).ret hΓ
def gK(aB:aj)(k1:aJ->Option aJ):aj->Nat->aJ->Option aJ
 | [],i1,bC=>(k1 bC)
 |bD::bg,i1,bC=>((oY bD).bind fun pQ=>(bif room ((bC.map tx).length+(pQ.map tx).length) 16 then(gK aB k1 bg (i1+1) (bC++pQ))else none))
def qy(aB:aj):Option aJ:=(gK aB (fun(bO:aJ)=>(some bO)) aB 0 ([]:aJ))
def zo(aB:aj)(W0:List aS)(cT:Int):St:=⟨[(3,D.acc 0),(6,D.sl (aB.map aN.c)),(7,D.int .i64 ((aB.map aN.c).length:Int)),(8,D.int .i64 cT)],[Ob.row .uq 9 1 W0]⟩
theorem FG(hΓ:Γ.nt=18){aB:aj}{r:aJ}{k1:aJ->Option aJ}(cY:∀(bO:aJ),k1 bO=some r->Ax Γ N f219 (.q [[some (9,1)]] (D.fr 9 1 (r.map tx))) [1,1,1] ⟨[(3,D.acc 0)],[Ob.row .uq 9 1 (bO.map tx)]⟩)(hm1:aB.length<=maxLen):∀(rest:aj) (i1:Nat) (bC:aJ),aB.drop i1=rest->gK aB k1 rest i1 bC=some r->Ar Γ N f219 (.q [[some (9,1)]] (D.fr 9 1 (r.map tx))) [1,1,0,1,0] (rest.length+1) (zo aB (bC.map tx) (i1:Int)):=by
 intro rest
 induction rest with
 |nil=>
  intro i1 bC aq h;rw[gK]at h;refine aM fun N1 bw bn=>?_
  exact((aU.ge aN.c aq).a [.hl 0 [3] [0]]).ex hΓ bw (cY bC h)
 |cons bD bg ih1=>
  intro i1 bC aq h;rw[gK]at h;refine aM fun N1 bw bn=>?_
  obtain⟨pQ,h28,h⟩:=aD h;obtain⟨h29,h⟩:=bV h;exact(((((aU.lt aN.c aq).l (av aN.c 5 (dc aq) rfl)).g (vo h28)).w (cA h29)).a [.cn [3,6,7,8] [3]]).cs hΓ bn (zo aB ((bC.map tx)++(pQ.map tx)) (IntKind.i64.wrap ((i1:Int)+1))) (by first| (simp only[iS aq hm1,mA]<;>rfl)| (simp only[iS aq hm1,mA,aE.c,aR.c,aN.c,Action.c,aO.c,aI.c,cr.c,aQ.c,Node.c,aF.c,cv.c]<;>rfl)) (ih1 (i1+1) (bC++pQ) (dn aq) h)
theorem EH{aB:aj}{r:aJ}(h:qy aB=some r):Good prog 219 [D.sl (aB.map aN.c)] (D.fr 9 1 (r.map tx)):=by
 refine gd func219 [[some (9,1)]] 18 fun hr Γ hΓ=>?_
 rw[qy]at h;refine(aU.a [.PY 3,.cn [3,6,7,8] [0]]).lp hΓ (FG hΓ (fun bO h=>?_) (by have:=(dU.sl (hr _ (aC (i:=0) rfl))).1;simpa using this) aB 0 ([]:aJ) rfl h);have h:=aG h;subst h;exact aU.ret hΓ
def jE(aB:aO)(k1:Option Bool):aj->Nat->Option Bool
 | [],i1=>(k1)
 |bD::bg,i1=>((rN bD).bind fun y62=>(bif !(y62)then(some false)else(bif ((i1:Int):Int)==0 then(bif (bD.kind:Int) != 1 then(some false)else((qg aB (i1:Int)).bind fun y67=>(bif !(y67)then(some false)else(jE aB k1 bg (i1+1)))))else((qg aB (i1:Int)).bind fun y70=>(bif !(y70)then(some false)else(jE aB k1 bg (i1+1)))))))
def mq(aB:aO)(MA:aJ)(i2:Nat)(D6:aJ)(k3:Option Bool):aJ->Nat->Option Bool
 | [],i3=>(k3)
 |Vt::U1,i3=>((lU MA Vt).bind fun aB1=>(bif !(aB1)then(some false)else(mq aB MA i2 D6 k3 U1 (i3+1))))
def mo(aB:aO)(MA:aJ)(k2:Option Bool):bz->Nat->Option Bool
 | [],i2=>(k2)
 |lM::wR,i2=>((uE lM).bind fun aB0=>(bif !(aB0)then(some false)else((n8 lM.pat.args).bind fun D6=>(bif decide (D6.length<=maxLen)then(mq aB MA i2 D6 (mo aB MA k2 wR (i2+1)) D6 0)else none))))
def xI(aB:aO):Option Bool:=((rO aB.name).bind fun y1=>(bif !(y1)then(some false)else(bif decide ((aB.prio:Int)<0)then(some false)else(bif decide ((aB.prio:Int)>9)then(some false)else(bif decide ((((aB.conds.map aN.c).length:Int):Int)<1)then(some false)else(bif decide ((((aB.conds.map aN.c).length:Int):Int)>4)then(some false)else(bif decide ((((aB.cu.map Action.c).length:Int):Int)<1)then(some false)else(bif decide ((((aB.cu.map Action.c).length:Int):Int)>2)then(some false)else(jE aB ((pT aB ((aB.conds.map aN.c).length:Int)).bind fun MA=>(mo aB MA ((qy aB.conds).bind fun aB2=>((kE aB2).bind fun aB3=>(some (decide ((((aB3.map tx).length:Int):Int)<=6))))) aB.cu 0)) aB.conds 0)))))))))
def O8(aB:aO)(cT:Int):St:=⟨[(1,D.ptr 0 0),(49,D.sl (aB.conds.map aN.c)),(50,D.int .i64 ((aB.conds.map aN.c).length:Int)),(51,D.int .i64 cT)],[Ob.box (aO.c aB)]⟩
theorem MR(hΓ:Γ.nt=111){aB:aO}{r:Bool}{k1:Option Bool}(cY:k1=some r->Ax Γ N f142 (.q [[none]] (D.bool r)) [1,1,1] ⟨[(1,D.ptr 0 0)],[Ob.box (aO.c aB)]⟩)(hm1:aB.conds.length<=maxLen):∀(rest:aj) (i1:Nat),aB.conds.drop i1=rest->jE aB k1 rest i1=some r->Ar Γ N f142 (.q [[none]] (D.bool r)) [1,1,0,1,0] (rest.length+1) (O8 aB (i1:Int)):=by
 intro rest
 induction rest with
 |nil=>
  intro i1 aq h;rw[jE]at h;refine aM fun N1 bw bn=>?_
  exact((aU.ge aN.c aq).a [.hl 0 [1] [0]]).ex hΓ bw (cY h)
 |cons bD bg ih1=>
  intro i1 aq h;rw[jE]at h;refine aM fun N1 bw bn=>?_
  obtain⟨y62,h63,h⟩:=aD h;have BG:=(((aU.lt aN.c aq).l (av aN.c 5 (dc aq) rfl)).g (q9 h63))
  obtain⟨h64,h⟩|⟨h64,h⟩:=aK h
  ·have h:=aG h;subst h;exact((((BG.r 3 h64).a [bF,bF,bF]).r 2 h64).T 6).ret hΓ
  ·have Hx:=(BG.r 3 h64)
   obtain⟨h65,h⟩|⟨h65,h⟩:=aK h
   ·have Hy:=((((Hx.r 3 h65).b h64).b h65).b h64)
    obtain⟨h66,h⟩|⟨h66,h⟩:=aK h
    ·have h:=aG h;subst h;exact((Hy.r 5 h66).T 1).ret hΓ
    ·obtain⟨y67,h68,h⟩:=aD h;have Qw:=(((Hy.r 3 h66).g (zn h68)).r 2 h66)
     obtain⟨h69,h⟩|⟨h69,h⟩:=aK h
     ·have h:=aG h;subst h;exact(Qw.b h69).ret hΓ
     ·exact((Qw.b h69).a [.cn [1,49,50,51] [0]]).ct hΓ bn (iS aq hm1) (ih1 (i1+1) (dn aq) h)
   ·obtain⟨y70,h71,h⟩:=aD h;have Qx:=(((((((Hx.r 3 h65).b h64).b h65).b h64).F 3).g (zn h71)).F 2)
    obtain⟨h72,h⟩|⟨h72,h⟩:=aK h
    ·have h:=aG h;subst h;exact(Qx.b h72).ret hΓ
    ·exact((Qx.b h72).a [.cn [1,49,50,51] [0]]).ct hΓ bn (iS aq hm1) (ih1 (i1+1) (dn aq) h)
def O9(aB:aO)(MA:aJ)(cT:Int):St:=⟨[(1,D.ptr 0 0),(5,D.acc 1),(81,D.sl (aB.cu.map Action.c)),(82,D.int .i64 ((aB.cu.map Action.c).length:Int)),(83,D.int .i64 cT)],[Ob.box (aO.c aB),Ob.row .uq 9 1 (MA.map tx)]⟩
def OA(aB:aO)(MA:aJ)(i2:Nat)(D6:aJ)(cT:Int):St:=⟨[(1,D.ptr 0 0),(5,D.acc 1),(81,D.sl (aB.cu.map Action.c)),(82,D.int .i64 ((aB.cu.map Action.c).length:Int)),(83,D.int .i64 (i2:Int)),(93,D.acc 2),(94,D.int .i64 ((D6.map tx).length:Int)),(95,D.int .i64 cT)],[Ob.box (aO.c aB),Ob.row .uq 9 1 (MA.map tx),Ob.row .uq 9 1 (D6.map tx)]⟩
theorem MT(hΓ:Γ.nt=111){aB:aO}{MA:aJ}{i2:Nat}{D6:aJ}{r:Bool}{k3:Option Bool}(hE3:k3=some r->Ax Γ N f142 (.q [[none]] (D.bool r)) [1,1,1,1,0,1,0,0,1,1,1] ⟨[(1,D.ptr 0 0),(5,D.acc 1),(81,D.sl (aB.cu.map Action.c)),(82,D.int .i64 ((aB.cu.map Action.c).length:Int)),(83,D.int .i64 (i2:Int))],[Ob.box (aO.c aB),Ob.row .uq 9 1 (MA.map tx)]⟩)(Wf:D6.length<=maxLen):∀(rest:aJ) (i3:Nat),D6.drop i3=rest->mq aB MA i2 D6 k3 rest i3=some r->Ar Γ N f142 (.q [[none]] (D.bool r)) [1,1,1,1,0,1,0,0,1,1,0,0,1,1,1,0] (rest.length+1) (OA aB MA i2 D6 (i3:Int)):=by
 intro rest
 induction rest with
 |nil=>
  intro i3 BE h;rw[mq]at h;refine aM fun N3 YF T4=>?_
  exact((aU.ge tx BE).a [.hl 3 [1,5,81,82,83] [0,1]]).ex hΓ YF (hE3 h)
 |cons Vt U1 ih3=>
  intro i3 BE h;rw[mq]at h;refine aM fun N3 YF T4=>?_
  obtain⟨aB1,h230,h⟩:=aD h;have aAE:=((((aU.lt tx BE).i (pG tx 1 (dc BE))).o 1 1 .uq (dB tx (dc BE))).g (sC h230))
  obtain⟨h231,h⟩|⟨h231,h⟩:=aK h
  ·have h:=aG h;subst h;exact(aAE.b h231).ret hΓ
  ·exact((aAE.b h231).a [.cn [1,5,81,82,83,93,94,95] [0,1,2]]).ct hΓ T4 (iS BE Wf) (ih3 (i3+1) (dn BE) h)
theorem MS(hΓ:Γ.nt=111){aB:aO}{MA:aJ}{r:Bool}{k2:Option Bool}(CZ:k2=some r->Ax Γ N f142 (.q [[none]] (D.bool r)) [1,1,1,1,1] ⟨[(1,D.ptr 0 0)],[Ob.box (aO.c aB)]⟩)(hm2:aB.cu.length<=maxLen):∀(rest:bz) (i2:Nat),aB.cu.drop i2=rest->mo aB MA k2 rest i2=some r->Ar Γ N f142 (.q [[none]] (D.bool r)) [1,1,1,1,0,1,0] (rest.length+1) (O9 aB MA (i2:Int)):=by
 intro rest
 induction rest with
 |nil=>
  intro i2 hd2 h;rw[mo]at h;refine aM fun N2 xV ud=>?_
  exact((aU.ge Action.c hd2).a [.hl 0 [1] [0]]).ex hΓ xV (CZ h)
 |cons lM wR ih2=>
  intro i2 hd2 h;rw[mo]at h;refine aM fun N2 xV ud=>?_
  obtain⟨aB0,h204,h⟩:=aD h;have aAF:=(((aU.lt Action.c hd2).l (av Action.c 3 (dc hd2) rfl)).g (GI h204))
  obtain⟨h205,h⟩|⟨h205,h⟩:=aK h
  ·have h:=aG h;subst h;exact(aAF.b h205).ret hΓ
  ·obtain⟨D6,h207,h⟩:=aD h;obtain⟨h232,h⟩:=bV h;refine(((aAF.b h205).g (vN h207)).a [.cn [1,5,81,82,83,93,94,95] [0,1,3]]).lp hΓ (MT hΓ (fun h=>?_) (bt h232) D6 0 rfl h);exact(aU.a [.cn [1,5,81,82,83] [0,1]]).ct hΓ ud (iS hd2 hm2) (ih2 (i2+1) (dn hd2) h)
theorem Kc{aB:aO}{r:Bool}(h:xI aB=some r):Good prog 142 [D.agg (aO.c aB)] (D.bool r):=by
 refine gd func142 [[none]] 111 fun hr Γ hΓ=>?_
 rw[xI]at h;obtain⟨y1,h2,h⟩:=aD h;obtain⟨h3,h⟩|⟨h3,h⟩:=aK h
 ·have h:=aG h;subst h;exact(((aU.g (mm h2)).r 4 h3).T 25).ret hΓ
 ·have aAG:=((aU.g (mm h2)).r 4 h3)
  obtain⟨h4,h⟩|⟨h4,h⟩:=aK h
  ·have h:=aG h;subst h;exact((aAG.r 4 h4).T 21).ret hΓ
  ·have aAH:=(aAG.r 4 h4)
   obtain⟨h5,h⟩|⟨h5,h⟩:=aK h
   ·have h:=aG h;subst h;exact((aAH.r 5 h5).T 16).ret hΓ
   ·have aAI:=(aAH.r 5 h5)
    obtain⟨h6,h⟩|⟨h6,h⟩:=aK h
    ·have h:=aG h;subst h;exact((aAI.r 5 h6).T 11).ret hΓ
    ·have aAJ:=(aAI.r 5 h6)
     obtain⟨h7,h⟩|⟨h7,h⟩:=aK h
     ·have h:=aG h;subst h;exact((aAJ.r 5 h7).T 6).ret hΓ
     ·have aAK:=(aAJ.r 5 h7)
      obtain⟨h8,h⟩|⟨h8,h⟩:=aK h
      ·have h:=aG h;subst h;exact((aAK.r 5 h8).T 1).ret hΓ
      ·have aAL:=(aAK.r 5 h8)
       obtain⟨h9,h⟩|⟨h9,h⟩:=aK h
       ·have h:=aG h;subst h;exact(aAL.b h9).ret hΓ
       ·refine((aAL.b h9).a [.cn [1,49,50,51] [0]]).lp hΓ (MR hΓ (fun h=>?_) (by have:=(dU.sl (dU.agg (hr _ (aC (i:=0) rfl)) (.sl (aB.conds.map aN.c)) (by simp))).1;simpa using this) aB.conds 0 rfl h);obtain⟨MA,h74,h⟩:=aD h;refine((aU.g (yx h74)).a [.cn [1,5,81,82,83] [0,1]]).lp hΓ (MS hΓ (fun h=>?_) (by have:=(dU.sl (dU.agg (hr _ (aC (i:=0) rfl)) (.sl (aB.cu.map Action.c)) (by simp))).1;simpa using this) aB.cu 0 rfl h);obtain⟨aB2,h234,h⟩:=aD h;obtain⟨aB3,h236,h⟩:=aD h;cases h;exact((aU.g (EH h234)).g (sR h236)).ret hΓ
def kB(aB:au)(aV:Bytes)(k1:Option Int):au->Nat->Option Int
 | [],i1=>(k1)
 |bD::bg,i1=>(bif (bD.name:Bytes)==aV then(some (i1:Int))else(kB aB aV k1 bg (i1+1)))
def uD(aB:au)(aV:Bytes):Option Int:=(kB aB aV (some (-1)) aB 0)
def Kb(aB:au)(aV:Bytes)(cT:Int):St:=⟨[(1,D.str aV),(7,D.sl (aB.map aO.c)),(8,D.int .i64 ((aB.map aO.c).length:Int)),(9,D.int .i64 cT)],[]⟩
theorem IW(hΓ:Γ.nt=20){aB:au}{aV:Bytes}{r:Int}{k1:Option Int}(cY:k1=some r->Ax Γ N f143 (.q [[none]] (D.int .i64 r)) [1,1] ⟨[],[]⟩)(hm1:aB.length<=maxLen):∀(rest:au) (i1:Nat),aB.drop i1=rest->kB aB aV k1 rest i1=some r->Ar Γ N f143 (.q [[none]] (D.int .i64 r)) [1,0,1,0] (rest.length+1) (Kb aB aV (i1:Int)):=by
 intro rest
 induction rest with
 |nil=>
  intro i1 aq h;rw[kB]at h;refine aM fun N1 bw bn=>?_
  exact((aU.ge aO.c aq).a [.hl 0 [] []]).ex hΓ bw (cY h)
 |cons bD bg ih1=>
  intro i1 aq h;rw[kB]at h;refine aM fun N1 bw bn=>?_
  have dH:=((aU.lt aO.c aq).l (av aO.c 4 (dc aq) rfl))
  obtain⟨h13,h⟩|⟨h13,h⟩:=aK h
  ·cases h;exact(dH.b h13).ret hΓ
  ·exact((dH.b h13).a [.cn [1,7,8,9] []]).ct hΓ bn (iS aq hm1) (ih1 (i1+1) (dn aq) h)
theorem GH{aB:au}{aV:Bytes}{r:Int}(h:uD aB aV=some r):Good prog 143 [D.sl (aB.map aO.c),D.str aV] (D.int .i64 r):=by
 refine gd func143 [[none]] 20 fun hr Γ hΓ=>?_
 rw[uD]at h;refine(aU.a [.cn [1,7,8,9] []]).lp hΓ (IW hΓ (fun h=>?_) (by have:=(dU.sl (hr _ (aC (i:=0) rfl))).1;simpa using this) aB 0 rfl h);cases h;exact aU.ret hΓ
def k9(aB:au)(k1:Option Bool):au->Nat->Option Bool
 | [],i1=>(k1)
 |bD::bg,i1=>((xI bD).bind fun G1=>(bif !(G1)then(some false)else((uD aB bD.name).bind fun Xo=>(bif (Xo:Int) != (i1:Int)then(some false)else(k9 aB k1 bg (i1+1))))))
def uB(aB:au):Option Bool:=(bif decide ((((aB.map aO.c).length:Int):Int)>6)then(some false)else(k9 aB (some true) aB 0))
def KY(aB:au)(cT:Int):St:=⟨[(0,D.sl (aB.map aO.c)),(8,D.sl (aB.map aO.c)),(9,D.int .i64 ((aB.map aO.c).length:Int)),(10,D.int .i64 cT)],[]⟩
theorem IU(hΓ:Γ.nt=27){aB:au}{r:Bool}{k1:Option Bool}(cY:k1=some r->Ax Γ N f82 (.q [[none]] (D.bool r)) [1,1,1] ⟨[],[]⟩)(hm1:aB.length<=maxLen):∀(rest:au) (i1:Nat),aB.drop i1=rest->k9 aB k1 rest i1=some r->Ar Γ N f82 (.q [[none]] (D.bool r)) [1,1,0,1,0] (rest.length+1) (KY aB (i1:Int)):=by
 intro rest
 induction rest with
 |nil=>
  intro i1 aq h;rw[k9]at h;refine aM fun N1 bw bn=>?_
  exact((aU.ge aO.c aq).a [.hl 0 [] []]).ex hΓ bw (cY h)
 |cons bD bg ih1=>
  intro i1 aq h;rw[k9]at h;refine aM fun N1 bw bn=>?_
  obtain⟨G1,h35,h⟩:=aD h;have jU:=(((aU.lt aO.c aq).l (av aO.c 4 (dc aq) rfl)).g (Kc h35))
  obtain⟨h36,h⟩|⟨h36,h⟩:=aK h
  ·have h:=aG h;subst h;exact((jU.r 7 h36).T 1).ret hΓ
  ·obtain⟨Xo,h38,h⟩:=aD h;have iU:=(((jU.r 4 h36).g (GH h38)).r 3 h36)
   obtain⟨h39,h⟩|⟨h39,h⟩:=aK h
   ·have h:=aG h;subst h;exact(iU.b h39).ret hΓ
   ·exact((iU.b h39).a [.cn [0,8,9,10] []]).ct hΓ bn (iS aq hm1) (ih1 (i1+1) (dn aq) h)
theorem GD{aB:au}{r:Bool}(h:uB aB=some r):Good prog 82 [D.sl (aB.map aO.c)] (D.bool r):=by
 refine gd func82 [[none]] 27 fun hr Γ hΓ=>?_
 rw[uB]at h;obtain⟨h1,h⟩|⟨h1,h⟩:=aK h
 ·have h:=aG h;subst h;exact(aU.b h1).ret hΓ
 ·refine((aU.b h1).a [.cn [0,8,9,10] []]).lp hΓ (IU hΓ (fun h=>?_) (by have:=(dU.sl (hr _ (aC (i:=0) rfl))).1;simpa using this) aB 0 rfl h);have h:=aG h;subst h;exact aU.ret hΓ
def pU(aB:aE)(k1:Option Bool):aJ->Nat->Option Bool
 | [],i1=>(k1)
 |bD::bg,i1=>((fN bD).bind fun Xn=>(bif !(Xn)then(some false)else(pU aB k1 bg (i1+1))))
def pL(aB:aE):Option Bool:=((rO aB.rel).bind fun y1=>(bif !(y1)then(some false)else(bif decide ((((aB.args.map tx).length:Int):Int)>3)then(some false)else(pU aB (some true) aB.args 0))))
def O7(aB:aE)(cT:Int):St:=⟨[(16,D.sl (aB.args.map tx)),(17,D.int .i64 ((aB.args.map tx).length:Int)),(18,D.int .i64 cT)],[]⟩
theorem MQ(hΓ:Γ.nt=26){aB:aE}{r:Bool}{k1:Option Bool}(cY:k1=some r->Ax Γ N f144 (.q [[none]] (D.bool r)) [1,1,1] ⟨[],[]⟩)(hm1:aB.args.length<=maxLen):∀(rest:aJ) (i1:Nat),aB.args.drop i1=rest->pU aB k1 rest i1=some r->Ar Γ N f144 (.q [[none]] (D.bool r)) [1,1,0,1,0] (rest.length+1) (O7 aB (i1:Int)):=by
 intro rest
 induction rest with
 |nil=>
  intro i1 aq h;rw[pU]at h;refine aM fun N1 bw bn=>?_
  exact((aU.ge tx aq).a [.hl 0 [] []]).ex hΓ bw (cY h)
 |cons bD bg ih1=>
  intro i1 aq h;rw[pU]at h;refine aM fun N1 bw bn=>?_
  obtain⟨Xn,h26,h⟩:=aD h;have dH:=(((aU.lt tx aq).l (av tx 1 (dc aq) rfl)).g (eW h26))
  obtain⟨h27,h⟩|⟨h27,h⟩:=aK h
  ·have h:=aG h;subst h;exact(dH.b h27).ret hΓ
  ·exact((dH.b h27).a [.cn [16,17,18] []]).ct hΓ bn (iS aq hm1) (ih1 (i1+1) (dn aq) h)
theorem xj{aB:aE}{r:Bool}(h:pL aB=some r):Good prog 144 [D.agg (aE.c aB)] (D.bool r):=by
 refine gd func144 [[none]] 26 fun hr Γ hΓ=>?_
 rw[pL]at h;obtain⟨y1,h2,h⟩:=aD h;obtain⟨h3,h⟩|⟨h3,h⟩:=aK h
 ·have h:=aG h;subst h;exact(((aU.g (mm h2)).r 5 h3).T 1).ret hΓ
 ·have jU:=((aU.g (mm h2)).r 5 h3)
  obtain⟨h4,h⟩|⟨h4,h⟩:=aK h
  ·have h:=aG h;subst h;exact(jU.b h4).ret hΓ
  ·refine((jU.b h4).a [.cn [16,17,18] []]).lp hΓ (MQ hΓ (fun h=>?_) (by have:=(dU.sl (dU.agg (hr _ (aC (i:=0) rfl)) (.sl (aB.args.map tx)) (by simp))).1;simpa using this) aB.args 0 rfl h);have h:=aG h;subst h;exact aU.ret hΓ
def ke(aB:Int):Option Bytes:=((C0 aB).bind fun y1=>(some y1))
theorem yy{aB:Int}{r:Bytes}(h:ke aB=some r):Good prog 246 [D.int .i64 aB] (D.str r):=by
 refine gd func246 [[none]] 5 fun hr Γ hΓ=>?_
 rw[ke]at h;obtain⟨y1,h2,h⟩:=aD h;have h:=aG h;subst h;exact(aU.g (Jt h2)).ret hΓ
def mT(aB:Bytes):Option (Int×Bool):=(bif decide (((aB.length:Int):Int)<1)then(some (0,false))else(bif decide (((aB.length:Int):Int)>4)then(some (0,false))else((Bz aB).bind fun y3=>(bif y3.2 then(some (0,false))else(bif decide ((y3.1:Int)<0)then(some (0,false))else(bif decide ((y3.1:Int)>9999)then(some (0,false))else((ke y3.1).bind fun y8=>(bif !((y8:Bytes)==aB)then(some (0,false))else(some (y3.1,true))))))))))
theorem qv{aB:Bytes}{r:Int×Bool}(h:mT aB=some r):Good prog 268 [D.str aB] (D.iF [D.int .i64 r.1,D.bool r.2]):=by
 refine gd func268 [[none],[none]] 36 fun hr Γ hΓ=>?_
 rw[mT]at h;obtain⟨h1,h⟩|⟨h1,h⟩:=aK h
 ·cases h;exact((aU.r 4 h1).T 1).ret hΓ
 ·have k7:=(aU.r 4 h1)
  obtain⟨h2,h⟩|⟨h2,h⟩:=aK h
  ·cases h;exact(k7.b h2).ret hΓ
  ·obtain⟨y3,h4,h⟩:=aD h;have dH:=((k7.b h2).g (Js h4))
   obtain⟨h5,h⟩|⟨h5,h⟩:=aK h
   ·cases h;exact((dH.r 3 h5).T 9).ret hΓ
   ·have jU:=(dH.r 3 h5)
    obtain⟨h6,h⟩|⟨h6,h⟩:=aK h
    ·cases h;exact((jU.r 3 h6).T 6).ret hΓ
    ·have iU:=(jU.r 3 h6)
     obtain⟨h7,h⟩|⟨h7,h⟩:=aK h
     ·cases h;exact((iU.r 5 h7).T 1).ret hΓ
     ·obtain⟨y8,h9,h⟩:=aD h;have tX:=(((iU.r 2 h7).g (yy h9)).r 3 h7)
      obtain⟨h10,h⟩|⟨h10,h⟩:=aK h
      ·cases h;exact(tX.b h10).ret hΓ
      ·cases h;exact(tX.b h10).ret hΓ
def iZ(aB:Int)(aV:Int):Option Int:=(bif decide ((aB:Int)<aV)then(some (-1))else(bif decide ((aB:Int)>aV)then(some 1)else(some 0)))
theorem sS{aB:Int}{aV:Int}{r:Int}(h:iZ aB aV=some r):Good prog 222 [D.int .i64 aB,D.int .i64 aV] (D.int .i64 r):=by
 refine gd func222 [[none]] 13 fun hr Γ hΓ=>?_
 rw[iZ]at h;obtain⟨h1,h⟩|⟨h1,h⟩:=aK h
 ·cases h;exact(aU.b h1).ret hΓ
 ·obtain⟨h2,h⟩|⟨h2,h⟩:=aK h
  ·have h:=aG h;subst h;exact((aU.b h1).b h2).ret hΓ
  ·have h:=aG h;subst h;exact((aU.b h1).b h2).ret hΓ
def mD(aB:Bytes)(aV:Bytes):Option Int:=((mT aB).bind fun y1=>((mT aV).bind fun y3=>(bif y1.2 then(bif y3.2 then((iZ y1.1 y3.1).bind fun y7=>(some y7))else(some (-1)))else(bif y3.2 then(some 1)else((rG aB aV).bind fun Oj=>(some Oj))))))
theorem Cl{aB:Bytes}{aV:Bytes}{r:Int}(h:mD aB aV=some r):Good prog 221 [D.str aB,D.str aV] (D.int .i64 r):=by
 refine gd func221 [[none]] 34 fun hr Γ hΓ=>?_
 rw[mD]at h;obtain⟨y1,h2,h⟩:=aD h;obtain⟨y3,h4,h⟩:=aD h;have k7:=((aU.g (qv h2)).g (qv h4))
 obtain⟨h5,h⟩|⟨h5,h⟩:=aK h
 ·have dH:=(k7.r 2 h5)
  obtain⟨h6,h⟩|⟨h6,h⟩:=aK h
  ·obtain⟨y7,h8,h⟩:=aD h;have h:=aG h;subst h;exact((dH.b h6).g (sS h8)).ret hΓ
  ·cases h;exact((dH.b h6).b h5).ret hΓ
 ·have jU:=(((k7.r 2 h5).F 1).b h5)
  obtain⟨h9,h⟩|⟨h9,h⟩:=aK h
  ·have h:=aG h;subst h;exact(jU.b h9).ret hΓ
  ·obtain⟨Oj,h11,h⟩:=aD h;have h:=aG h;subst h;exact((jU.b h9).g (tv h11)).ret hΓ
def jC(aB:aE)(aV:aE)(k1:Option Int):aJ->Nat->Option Int
 | [],i1=>(k1)
 |bD::bg,i1=>(bif decide (((i1:Int):Int)<((aV.args.map tx).length:Int))then((mC aV.args (i1:Int)).bind fun x37=>((mD bD x37).bind fun RJ=>(bif (RJ:Int) != 0 then(some RJ)else(jC aB aV k1 bg (i1+1)))))else(k1))
def fe(aB:aE)(aV:aE):Option Int:=((rG aB.rel aV.rel).bind fun y1=>(bif (y1:Int) != 0 then(some y1)else(jC aB aV ((iZ ((aB.args.map tx).length:Int) ((aV.args.map tx).length:Int)).bind fun y42=>(some y42)) aB.args 0)))
def EB(aB:aE)(aV:aE)(cT:Int):St:=⟨[(2,D.ptr 0 0),(3,D.ptr 1 0),(6,D.int .i64 cT)],[Ob.box (aE.c aB),Ob.box (aE.c aV)]⟩
theorem DM(hΓ:Γ.nt=51){aB:aE}{aV:aE}{r:Int}{k1:Option Int}(cY:k1=some r->Ax Γ N f145 (.q [[none]] (D.int .i64 r)) [1,1,1] ⟨[(2,D.ptr 0 0),(3,D.ptr 1 0)],[Ob.box (aE.c aB),Ob.box (aE.c aV)]⟩)(hm1:aB.args.length<=maxLen):∀(rest:aJ) (i1:Nat),aB.args.drop i1=rest->jC aB aV k1 rest i1=some r->Ar Γ N f145 (.q [[none]] (D.int .i64 r)) [1,1,0,1,0] (rest.length+1) (EB aB aV (i1:Int)):=by
 intro rest
 induction rest with
 |nil=>
  intro i1 aq h;rw[jC]at h;refine aM fun N1 bw bn=>?_
  exact((((((((aU.ge tx aq).ge tx aq).ge tx aq).ge tx aq).ge tx aq).ge tx aq).F 1).a [.hl 0 [2,3] [0,1]]).ex hΓ bw (cY h)
 |cons bD bg ih1=>
  intro i1 aq h;rw[jC]at h;refine aM fun N1 bw bn=>?_
  have jU:=((((((aU.lt tx aq).lt tx aq).lt tx aq).lt tx aq).lt tx aq).lt tx aq)
  obtain⟨h36,h⟩|⟨h36,h⟩:=aK h
  ·obtain⟨x37,h38,h⟩:=aD h;obtain⟨RJ,h40,h⟩:=aD h;have iU:=(((((jU.b h36).a [.n 10]).l (av tx 1 (dc aq) rfl)).l (dX tx 1 h38 rfl)).g (Cl h40))
   obtain⟨h41,h⟩|⟨h41,h⟩:=aK h
   ·have h:=aG h;subst h;exact(iU.b h41).ret hΓ
   ·exact((iU.b h41).a [.cn [2,3,6] [0,1]]).ct hΓ bn (iS aq hm1) (ih1 (i1+1) (dn aq) h)
  ·exact((jU.b h36).a [.hl 0 [2,3] [0,1]]).ex hΓ bw (cY h)
theorem rM{aB:aE}{aV:aE}{r:Int}(h:fe aB aV=some r):Good prog 145 [D.agg (aE.c aB),D.agg (aE.c aV)] (D.int .i64 r):=by
 refine gd func145 [[none]] 51 fun hr Γ hΓ=>?_
 rw[fe]at h;obtain⟨y1,h2,h⟩:=aD h;obtain⟨h3,h⟩|⟨h3,h⟩:=aK h
 ·have h:=aG h;subst h;exact((aU.g (tv h2)).b h3).ret hΓ
 ·refine(((aU.g (tv h2)).b h3).a [.cn [2,3,6] [0,1]]).lp hΓ (DM hΓ (fun h=>?_) (by have:=(dU.sl (dU.agg (hr _ (aC (i:=0) rfl)) (.sl (aB.args.map tx)) (by simp))).1;simpa using this) aB.args 0 rfl h);obtain⟨y42,h43,h⟩:=aD h;have h:=aG h;subst h;exact(aU.g (sS h43)).ret hΓ
def iW(aB:aP)(k1:Option Bool):aP->Nat->Option Bool
 | [],i1=>(k1)
 |bD::bg,i1=>((pL bD).bind fun y46=>(bif !(y46)then(some false)else(bif decide (((i1:Int):Int)>0)then((mC aB (IntKind.i64.wrap ((i1:Int)-1))).bind fun x50=>((fe x50 bD).bind fun y52=>(bif decide ((y52:Int)>=0)then(some false)else(iW aB k1 bg (i1+1)))))else(iW aB k1 bg (i1+1)))))
def qe(aB:aP):Option Bool:=(bif decide ((((aB.map aE.c).length:Int):Int)>24)then(some false)else(iW aB (some true) aB 0))
def KX(aB:aP)(cT:Int):St:=⟨[(0,D.sl (aB.map aE.c)),(8,D.sl (aB.map aE.c)),(9,D.int .i64 ((aB.map aE.c).length:Int)),(10,D.int .i64 cT)],[]⟩
theorem IT(hΓ:Γ.nt=33){aB:aP}{r:Bool}{k1:Option Bool}(cY:k1=some r->Ax Γ N f83 (.q [[none]] (D.bool r)) [1,1,1] ⟨[],[]⟩)(hm1:aB.length<=maxLen):∀(rest:aP) (i1:Nat),aB.drop i1=rest->iW aB k1 rest i1=some r->Ar Γ N f83 (.q [[none]] (D.bool r)) [1,1,0,1,0] (rest.length+1) (KX aB (i1:Int)):=by
 intro rest
 induction rest with
 |nil=>
  intro i1 aq h;rw[iW]at h;refine aM fun N1 bw bn=>?_
  exact((aU.ge aE.c aq).a [.hl 0 [] []]).ex hΓ bw (cY h)
 |cons bD bg ih1=>
  intro i1 aq h;rw[iW]at h;refine aM fun N1 bw bn=>?_
  obtain⟨y46,h47,h⟩:=aD h;have iU:=((((aU.lt aE.c aq).l (av aE.c 2 (dc aq) rfl)).a [.n 13]).g (xj h47))
  obtain⟨h48,h⟩|⟨h48,h⟩:=aK h
  ·have h:=aG h;subst h;exact((((iU.r 3 h48).a [bF,bF,bF,bF,bF,bF,bF,bF]).r 2 h48).T 1).ret hΓ
  ·have tX:=(iU.r 3 h48)
   obtain⟨h49,h⟩|⟨h49,h⟩:=aK h
   ·obtain⟨x50,h51,h⟩:=aD h;obtain⟨y52,h53,h⟩:=aD h;have wL:=((((((((tX.r 4 h49).l (dX aE.c 2 h51 rfl)).r 3 h49).g (rM h53)).b h49).b h48).b h49).b h48)
    obtain⟨h54,h⟩|⟨h54,h⟩:=aK h
    ·have h:=aG h;subst h;exact(wL.b h54).ret hΓ
    ·exact((wL.b h54).a [.cn [0,8,9,10] []]).ct hΓ bn (iS aq hm1) (ih1 (i1+1) (dn aq) h)
   ·exact((((((tX.r 8 h49).b h48).b h49).b h48).F 1).a [.cn [0,8,9,10] []]).ct hΓ bn (iS aq hm1) (ih1 (i1+1) (dn aq) h)
theorem vn{aB:aP}{r:Bool}(h:qe aB=some r):Good prog 83 [D.sl (aB.map aE.c)] (D.bool r):=by
 refine gd func83 [[none]] 33 fun hr Γ hΓ=>?_
 rw[qe]at h;obtain⟨h1,h⟩|⟨h1,h⟩:=aK h
 ·have h:=aG h;subst h;exact(aU.b h1).ret hΓ
 ·refine((aU.b h1).a [.cn [0,8,9,10] []]).lp hΓ (IT hΓ (fun h=>?_) (by have:=(dU.sl (hr _ (aC (i:=0) rfl))).1;simpa using this) aB 0 rfl h);have h:=aG h;subst h;exact aU.ret hΓ
def fH(aB:aJ)(k1:aT->Option aT):aJ->Nat->aT->List (Bytes×Bool)->Option aT
 | [],i1,bC,D0=>(k1 bC)
 |bD::bg,i1,bC,D0=>((lQ bD).bind fun y52=>(bif y52 then(bif !(NX false bD D0)then((ke (IntKind.i64.wrap (((bC.map aR.c).length:Int)+1))).bind fun y56=>(bif decide (([63]:Bytes).length+(y56:Bytes).length<=maxLen)then(bif room ((bC.map aR.c).length+([[D.str bD,D.str (([63])++y56)]]).length) 32 then(fH aB k1 bg (i1+1) (bC++([(⟨bD,([63])++y56⟩:aR)])) (Ql bD true D0))else none)else none))else(fH aB k1 bg (i1+1) bC D0))else(fH aB k1 bg (i1+1) bC D0)))
def oD(aB:aJ):Option aT:=(fH aB (fun(bO:aT)=>(some bO)) aB 0 ([]:aT) ([]:List (Bytes×Bool)))
def zu(aB:aJ)(W0:List aS)(W1:List (D×D))(cT:Int):St:=⟨[(3,D.acc 0),(4,D.acc 1),(8,D.sl (aB.map tx)),(9,D.int .i64 ((aB.map tx).length:Int)),(10,D.int .i64 cT)],[Ob.row .uq 152 2 W0,Ob.mp W1]⟩
theorem FJ(hΓ:Γ.nt=36){aB:aJ}{r:aT}{k1:aT->Option aT}(cY:∀(bO:aT),k1 bO=some r->Ax Γ N f190 (.q [[some (152,2)]] (D.fr 152 2 (r.map aR.c))) [1,1,1,1] ⟨[(3,D.acc 0)],[Ob.row .uq 152 2 (bO.map aR.c)]⟩)(hm1:aB.length<=maxLen):∀(rest:aJ) (i1:Nat) (bC:aT) (D0:List (Bytes×Bool)),aB.drop i1=rest->fH aB k1 rest i1 bC D0=some r->Ar Γ N f190 (.q [[some (152,2)]] (D.fr 152 2 (r.map aR.c))) [1,1,1,0,1,0] (rest.length+1) (zu aB (bC.map aR.c) (D0.map (kS eB)) (i1:Int)):=by
 intro rest
 induction rest with
 |nil=>
  intro i1 bC D0 aq h;rw[fH]at h;refine aM fun N1 bw bn=>?_
  exact((aU.ge tx aq).a [.hl 0 [3] [0]]).ex hΓ bw (cY bC h)
 |cons bD bg ih1=>
  intro i1 bC D0 aq h;rw[fH]at h;refine aM fun N1 bw bn=>?_
  obtain⟨y52,h53,h⟩:=aD h;have jU:=(((aU.lt tx aq).l (av tx 1 (dc aq) rfl)).g (oA h53))
  obtain⟨h54,h⟩|⟨h54,h⟩:=aK h
  ·have iU:=((((jU.r 3 h54).w (show plk prog 232 (D0.map (kS eB)) (D.str bD) false=some (D.bool (NX false bD D0))from aAA (e:=eB) (z:=false) (by kernel_rfl))).a [.d (D.bool (NX false bD D0))]).r 2 h54)
   obtain⟨h55,h⟩|⟨h55,h⟩:=aK h
   ·obtain⟨y56,h57,h⟩:=aD h;obtain⟨h58,h⟩:=bV h;obtain⟨h59,h⟩:=bV h;exact(((((((iU.b h55).w (show NU (D.str bD) (D.bool true) (D0.map (kS eB))=some ((Ql bD true D0).map (kS eB))from a2U (e:=eB) (m:=D0))).a [.kv ((Ql bD true D0).map (kS eB))]).g (yy h57)).w (bt h58)).w (cA h59)).a [.cn [3,4,8,9,10] [3,1]]).cs hΓ bn (zu aB ((bC.map aR.c)++([[D.str bD,D.str (([63])++y56)]])) ((Ql bD true D0).map (kS eB)) (IntKind.i64.wrap ((i1:Int)+1))) (by first| (simp only[iS aq hm1,mA]<;>rfl)| (simp only[iS aq hm1,mA,aE.c,aR.c,aN.c,Action.c,aO.c,aI.c,cr.c,aQ.c,Node.c,aF.c,cv.c]<;>rfl)) (ih1 (i1+1) (bC++([(⟨bD,([63])++y56⟩:aR)])) (Ql bD true D0) (dn aq) h)
   ·exact((iU.b h55).a [.cn [3,4,8,9,10] [0,1]]).ct hΓ bn (iS aq hm1) (ih1 (i1+1) bC D0 (dn aq) h)
  ·exact(((jU.r 5 h54).F 1).a [.cn [3,4,8,9,10] [0,1]]).ct hΓ bn (iS aq hm1) (ih1 (i1+1) bC D0 (dn aq) h)
theorem yY{aB:aJ}{r:aT}(h:oD aB=some r):Good prog 190 [D.sl (aB.map tx)] (D.fr 152 2 (r.map aR.c)):=by
 refine gd func190 [[some (152,2)]] 36 fun hr Γ hΓ=>?_
 rw[oD]at h;refine(aU.a [.PY 3,.cn [3,4,8,9,10] [0,1]]).lp hΓ (FJ hΓ (fun bO h=>?_) (by have:=(dU.sl (hr _ (aC (i:=0) rfl))).1;simpa using this) aB 0 ([]:aT) ([]:List (Bytes×Bool)) rfl h);have h:=aG h;subst h;exact aU.ret hΓ
def gJ(aB:aO)(k1:aJ->Option aT):aj->Nat->aJ->Option aT
 | [],i1,bC=>(k1 bC)
 |bD::bg,i1,bC=>((si bD).bind fun pQ=>(bif room ((bC.map tx).length+(pQ.map tx).length) 16 then(gJ aB k1 bg (i1+1) (bC++pQ))else none))
def qx(aB:aO):Option aT:=(gJ aB (fun(bO:aJ)=>((oD bO).bind fun y30=>(some y30))) aB.conds 0 ([]:aJ))
def zl(aB:aO)(W0:List aS)(cT:Int):St:=⟨[(3,D.acc 0),(7,D.sl (aB.conds.map aN.c)),(8,D.int .i64 ((aB.conds.map aN.c).length:Int)),(9,D.int .i64 cT)],[Ob.row .uq 9 1 W0]⟩
theorem FE(hΓ:Γ.nt=20){aB:aO}{r:aT}{k1:aJ->Option aT}(cY:∀(bO:aJ),k1 bO=some r->Ax Γ N f125 (.q [[some (152,2)]] (D.fr 152 2 (r.map aR.c))) [1,1,1] ⟨[(3,D.acc 0)],[Ob.row .uq 9 1 (bO.map tx)]⟩)(hm1:aB.conds.length<=maxLen):∀(rest:aj) (i1:Nat) (bC:aJ),aB.conds.drop i1=rest->gJ aB k1 rest i1 bC=some r->Ar Γ N f125 (.q [[some (152,2)]] (D.fr 152 2 (r.map aR.c))) [1,1,0,1,0] (rest.length+1) (zl aB (bC.map tx) (i1:Int)):=by
 intro rest
 induction rest with
 |nil=>
  intro i1 bC aq h;rw[gJ]at h;refine aM fun N1 bw bn=>?_
  exact((aU.ge aN.c aq).a [.hl 0 [3] [0]]).ex hΓ bw (cY bC h)
 |cons bD bg ih1=>
  intro i1 bC aq h;rw[gJ]at h;refine aM fun N1 bw bn=>?_
  obtain⟨pQ,h28,h⟩:=aD h;obtain⟨h29,h⟩:=bV h;exact(((((aU.lt aN.c aq).l (av aN.c 5 (dc aq) rfl)).g (Aq h28)).w (cA h29)).a [.cn [3,7,8,9] [3]]).cs hΓ bn (zl aB ((bC.map tx)++(pQ.map tx)) (IntKind.i64.wrap ((i1:Int)+1))) (by first| (simp only[iS aq hm1,mA]<;>rfl)| (simp only[iS aq hm1,mA,aE.c,aR.c,aN.c,Action.c,aO.c,aI.c,cr.c,aQ.c,Node.c,aF.c,cv.c]<;>rfl)) (ih1 (i1+1) (bC++pQ) (dn aq) h)
theorem ED{aB:aO}{r:aT}(h:qx aB=some r):Good prog 125 [D.agg (aO.c aB)] (D.fr 152 2 (r.map aR.c)):=by
 refine gd func125 [[some (152,2)]] 20 fun hr Γ hΓ=>?_
 rw[qx]at h;refine(aU.a [.PY 3,.cn [3,7,8,9] [1]]).lp hΓ (FE hΓ (fun bO h=>?_) (by have:=(dU.sl (dU.agg (hr _ (aC (i:=0) rfl)) (.sl (aB.conds.map aN.c)) (by simp))).1;simpa using this) aB.conds 0 ([]:aJ) rfl h);obtain⟨y30,h31,h⟩:=aD h;have h:=aG h;subst h;exact(aU.g (yY h31)).ret hΓ
def iI(aB:Bytes)(aV:aT)(k1:Option Bytes):aT->Nat->Option Bytes
 | [],i1=>(k1)
 |bD::bg,i1=>(bif (bD.var:Bytes)==aB then(some bD.value)else(iI aB aV k1 bg (i1+1)))
def ic(aB:Bytes)(aV:aT):Option Bytes:=(iI aB aV (some aB) aV 0)
def FK(aB:Bytes)(aV:aT)(cT:Int):St:=⟨[(0,D.str aB),(7,D.sl (aV.map aR.c)),(8,D.int .i64 ((aV.map aR.c).length:Int)),(9,D.int .i64 cT)],[]⟩
theorem EM(hΓ:Γ.nt=21){aB:Bytes}{aV:aT}{r:Bytes}{k1:Option Bytes}(cY:k1=some r->Ax Γ N f276 (.q [[none]] (D.str r)) [1,1] ⟨[(0,D.str aB)],[]⟩)(hm1:aV.length<=maxLen):∀(rest:aT) (i1:Nat),aV.drop i1=rest->iI aB aV k1 rest i1=some r->Ar Γ N f276 (.q [[none]] (D.str r)) [1,0,1,0] (rest.length+1) (FK aB aV (i1:Int)):=by
 intro rest
 induction rest with
 |nil=>
  intro i1 aq h;rw[iI]at h;refine aM fun N1 bw bn=>?_
  exact((aU.ge aR.c aq).a [.hl 0 [0] []]).ex hΓ bw (cY h)
 |cons bD bg ih1=>
  intro i1 aq h;rw[iI]at h;refine aM fun N1 bw bn=>?_
  have dH:=((aU.lt aR.c aq).l (av aR.c 2 (dc aq) rfl))
  obtain⟨h13,h⟩|⟨h13,h⟩:=aK h
  ·cases h;exact(dH.b h13).ret hΓ
  ·exact((dH.b h13).a [.cn [0,7,8,9] []]).ct hΓ bn (iS aq hm1) (ih1 (i1+1) (dn aq) h)
theorem sX{aB:Bytes}{aV:aT}{r:Bytes}(h:ic aB aV=some r):Good prog 276 [D.str aB,D.sl (aV.map aR.c)] (D.str r):=by
 refine gd func276 [[none]] 21 fun hr Γ hΓ=>?_
 rw[ic]at h;refine(aU.a [.cn [0,7,8,9] []]).lp hΓ (EM hΓ (fun h=>?_) (by have:=(dU.sl (hr _ (aC (i:=1) rfl))).1;simpa using this) aV 0 rfl h);have h:=aG h;subst h;exact aU.ret hΓ
def ko(aB:aN)(aV:aT)(y1:Bytes)(y3:Bytes)(k1:aJ->Option aN):aJ->Nat->aJ->Option aN
 | [],i1,lm=>(k1 lm)
 |bD::bg,i1,lm=>((ic bD aV).bind fun Yr=>(bif room ((lm.map tx).length+([[D.str Yr]]).length) 16 then(ko aB aV y1 y3 k1 bg (i1+1) (lm++([Yr])))else none))
def lR(aB:aN)(aV:aT):Option aN:=((ic aB.left aV).bind fun y1=>((ic aB.right aV).bind fun y3=>(ko aB aV y1 y3 (fun(yO:aJ)=>(some (⟨aB.kind,(⟨aB.pat.rel,yO⟩:aE),y1,y3⟩:aN))) aB.pat.args 0 ([]:aJ))))
def zm(aB:aN)(aV:aT)(y1:Bytes)(y3:Bytes)(W0:List aS)(cT:Int):St:=⟨[(1,D.sl (aV.map aR.c)),(4,D.ptr 0 0),(5,D.ptr 1 0),(26,D.sl (aB.pat.args.map tx)),(27,D.int .i64 ((aB.pat.args.map tx).length:Int)),(28,D.int .i64 cT)],[Ob.box [D.int .i64 0,D.str ([]),D.nil,D.str ([]),D.str ([])],Ob.box [D.int .i64 aB.kind,D.str aB.pat.rel,D.acc 2,D.str y1,D.str y3],Ob.row .uq 9 1 W0]⟩
theorem FF(hΓ:Γ.nt=44){aB:aN}{aV:aT}{y1:Bytes}{y3:Bytes}{r:aN}{k1:aJ->Option aN}(cY:∀(yO:aJ),k1 yO=some r->Ax Γ N f256 (.q [[none,none,some (9,1),none,none]] (D.agg [D.int .i64 r.kind,D.str r.pat.rel,D.fr 9 1 (r.pat.args.map tx),D.str r.left,D.str r.right])) [1,1,1,1] ⟨[(4,D.ptr 0 0),(5,D.ptr 1 0)],[Ob.box [D.int .i64 0,D.str ([]),D.nil,D.str ([]),D.str ([])],Ob.box [D.int .i64 aB.kind,D.str aB.pat.rel,D.acc 2,D.str y1,D.str y3],Ob.row .uq 9 1 (yO.map tx)]⟩)(hm1:aB.pat.args.length<=maxLen):∀(rest:aJ) (i1:Nat) (lm:aJ),aB.pat.args.drop i1=rest->ko aB aV y1 y3 k1 rest i1 lm=some r->Ar Γ N f256 (.q [[none,none,some (9,1),none,none]] (D.agg [D.int .i64 r.kind,D.str r.pat.rel,D.fr 9 1 (r.pat.args.map tx),D.str r.left,D.str r.right])) [1,1,1,0,1,0] (rest.length+1) (zm aB aV y1 y3 (lm.map tx) (i1:Int)):=by
 intro rest
 induction rest with
 |nil=>
  intro i1 lm aq h;rw[ko]at h;refine aM fun N1 bw bn=>?_
  exact((aU.ge tx aq).a [.hl 0 [4,5] [0,1,2]]).ex hΓ bw (cY lm h)
 |cons bD bg ih1=>
  intro i1 lm aq h;rw[ko]at h;refine aM fun N1 bw bn=>?_
  obtain⟨Yr,h32,h⟩:=aD h;obtain⟨h33,h⟩:=bV h;exact((((((aU.lt tx aq).l (av tx 1 (dc aq) rfl)).a [.n 7]).g (sX h32)).w (cA h33)).a [.cn [1,4,5,26,27,28] [0,1,4]]).cs hΓ bn (zm aB aV y1 y3 ((lm.map tx)++([[D.str Yr]])) (IntKind.i64.wrap ((i1:Int)+1))) (by first| (simp only[iS aq hm1,mA]<;>rfl)| (simp only[iS aq hm1,mA,aE.c,aR.c,aN.c,Action.c,aO.c,aI.c,cr.c,aQ.c,Node.c,aF.c,cv.c]<;>rfl)) (ih1 (i1+1) (lm++([Yr])) (dn aq) h)
theorem p9{aB:aN}{aV:aT}{r:aN}(h:lR aB aV=some r):Good prog 256 [D.agg (aN.c aB),D.sl (aV.map aR.c)] (D.agg [D.int .i64 r.kind,D.str r.pat.rel,D.fr 9 1 (r.pat.args.map tx),D.str r.left,D.str r.right]):=by
 refine gd func256 [[none,none,some (9,1),none,none]] 44 fun hr Γ hΓ=>?_
 rw[lR]at h;obtain⟨y1,h2,h⟩:=aD h;obtain⟨y3,h4,h⟩:=aD h;refine((((aU.a [.n 12]).g (sX h2)).g (sX h4)).a [.pb 2 2 9 1,.cn [1,4,5,26,27,28] [1,2,3]]).lp hΓ (FF hΓ (fun yO h=>?_) (by have:=(dU.sl (dU.agg (hr _ (aC (i:=0) rfl)) (.sl (aB.pat.args.map tx)) (by simp))).1;simpa using this) aB.pat.args 0 ([]:aJ) rfl h);cases h;exact aU.ret hΓ
def kn(aB:aO)(y1:aT)(k1:aj->Option aj):aj->Nat->aj->Option aj
 | [],i1,bu=>(k1 bu)
 |bD::bg,i1,bu=>((lR bD y1).bind fun I6=>(bif room ((bu.map aN.c).length+([[D.int .i64 I6.kind,D.str I6.pat.rel,D.sl (I6.pat.args.map tx),D.str I6.left,D.str I6.right]]).length) 80 then(kn aB y1 k1 bg (i1+1) (bu++([I6])))else none))
def qw(aB:aO):Option aj:=((qx aB).bind fun y1=>(kn aB y1 (fun(bO:aj)=>(some bO)) aB.conds 0 ([]:aj)))
def zk(aB:aO)(y1:aT)(W0:List aS)(cT:Int):St:=⟨[(3,D.acc 0),(4,D.acc 1),(10,D.sl (aB.conds.map aN.c)),(11,D.int .i64 ((aB.conds.map aN.c).length:Int)),(12,D.int .i64 cT)],[Ob.row .uq 152 2 (y1.map aR.c),Ob.row .uq 115 5 W0]⟩
theorem FD(hΓ:Γ.nt=24){aB:aO}{y1:aT}{r:aj}{k1:aj->Option aj}(cY:∀(bO:aj),k1 bO=some r->Ax Γ N f200 (.q [[some (115,5)]] (D.fr 115 5 (r.map aN.c))) [1,1,1,1] ⟨[(4,D.acc 0)],[Ob.row .uq 115 5 (bO.map aN.c)]⟩)(hm1:aB.conds.length<=maxLen):∀(rest:aj) (i1:Nat) (bu:aj),aB.conds.drop i1=rest->kn aB y1 k1 rest i1 bu=some r->Ar Γ N f200 (.q [[some (115,5)]] (D.fr 115 5 (r.map aN.c))) [1,1,1,0,1,0] (rest.length+1) (zk aB y1 (bu.map aN.c) (i1:Int)):=by
 intro rest
 induction rest with
 |nil=>
  intro i1 bu aq h;rw[kn]at h;refine aM fun N1 bw bn=>?_
  exact((aU.ge aN.c aq).a [.hl 0 [4] [1]]).ex hΓ bw (cY bu h)
 |cons bD bg ih1=>
  intro i1 bu aq h;rw[kn]at h;refine aM fun N1 bw bn=>?_
  obtain⟨I6,h30,h⟩:=aD h;obtain⟨h31,h⟩:=bV h;exact(((((aU.lt aN.c aq).l (av aN.c 5 (dc aq) rfl)).g (p9 h30)).w (cA h31)).a [.cn [3,4,10,11,12] [0,5]]).cs hΓ bn (zk aB y1 ((bu.map aN.c)++([[D.int .i64 I6.kind,D.str I6.pat.rel,D.sl (I6.pat.args.map tx),D.str I6.left,D.str I6.right]])) (IntKind.i64.wrap ((i1:Int)+1))) (by first| (simp only[iS aq hm1,mA]<;>rfl)| (simp only[iS aq hm1,mA,aE.c,aR.c,aN.c,Action.c,aO.c,aI.c,cr.c,aQ.c,Node.c,aF.c,cv.c]<;>rfl)) (ih1 (i1+1) (bu++([I6])) (dn aq) h)
theorem EC{aB:aO}{r:aj}(h:qw aB=some r):Good prog 200 [D.agg (aO.c aB)] (D.fr 115 5 (r.map aN.c)):=by
 refine gd func200 [[some (115,5)]] 24 fun hr Γ hΓ=>?_
 rw[qw]at h;obtain⟨y1,h2,h⟩:=aD h;refine((aU.g (ED h2)).a [.PY 4,.cn [3,4,10,11,12] [1,2]]).lp hΓ (FD hΓ (fun bO h=>?_) (by have:=(dU.sl (dU.agg (hr _ (aC (i:=0) rfl)) (.sl (aB.conds.map aN.c)) (by simp))).1;simpa using this) aB.conds 0 ([]:aj) rfl h);have h:=aG h;subst h;exact aU.ret hΓ
def mK(aB:aJ)(aV:aJ)(k1:Option Bool):aJ->Nat->Option Bool
 | [],i1=>(k1)
 |bD::bg,i1=>((mC aV (i1:Int)).bind fun x22=>(bif !((bD:Bytes)==x22)then(some false)else(mK aB aV k1 bg (i1+1))))
def pX(aB:aJ)(aV:aJ):Option Bool:=(bif (((aB.map tx).length:Int):Int) != ((aV.map tx).length:Int)then(some false)else(mK aB aV (some true) aB 0))
def Io(aB:aJ)(aV:aJ)(cT:Int):St:=⟨[(0,D.sl (aB.map tx)),(1,D.sl (aV.map tx)),(12,D.int .i64 ((aB.map tx).length:Int)),(13,D.int .i64 cT)],[]⟩
theorem GY(hΓ:Γ.nt=26){aB:aJ}{aV:aJ}{r:Bool}{k1:Option Bool}(cY:k1=some r->Ax Γ N f232 (.q [[none]] (D.bool r)) [1,1,1] ⟨[],[]⟩)(hm1:aB.length<=maxLen):∀(rest:aJ) (i1:Nat),aB.drop i1=rest->mK aB aV k1 rest i1=some r->Ar Γ N f232 (.q [[none]] (D.bool r)) [1,1,0,1,0] (rest.length+1) (Io aB aV (i1:Int)):=by
 intro rest
 induction rest with
 |nil=>
  intro i1 aq h;rw[mK]at h;refine aM fun N1 bw bn=>?_
  exact((aU.ge tx aq).a [.hl 0 [] []]).ex hΓ bw (cY h)
 |cons bD bg ih1=>
  intro i1 aq h;rw[mK]at h;refine aM fun N1 bw bn=>?_
  obtain⟨x22,h23,h⟩:=aD h;have dH:=((((aU.lt tx aq).a [.n 8]).l (av tx 1 (dc aq) rfl)).l (dX tx 1 h23 rfl))
  obtain⟨h24,h⟩|⟨h24,h⟩:=aK h
  ·have h:=aG h;subst h;exact(dH.b h24).ret hΓ
  ·exact((dH.b h24).a [.cn [0,1,12,13] []]).ct hΓ bn (iS aq hm1) (ih1 (i1+1) (dn aq) h)
theorem zB{aB:aJ}{aV:aJ}{r:Bool}(h:pX aB aV=some r):Good prog 232 [D.sl (aB.map tx),D.sl (aV.map tx)] (D.bool r):=by
 refine gd func232 [[none]] 26 fun hr Γ hΓ=>?_
 rw[pX]at h;obtain⟨h1,h⟩|⟨h1,h⟩:=aK h
 ·have h:=aG h;subst h;exact(aU.b h1).ret hΓ
 ·refine((aU.b h1).a [.cn [0,1,12,13] []]).lp hΓ (GY hΓ (fun h=>?_) (by have:=(dU.sl (hr _ (aC (i:=0) rfl))).1;simpa using this) aB 0 rfl h);have h:=aG h;subst h;exact aU.ret hΓ
def fO(aB:aE)(aV:aE):Option Bool:=(bif (aB.rel:Bytes)==aV.rel then((pX aB.args aV.args).bind fun y2=>(some y2))else(some false))
theorem oB{aB:aE}{aV:aE}{r:Bool}(h:fO aB aV=some r):Good prog 159 [D.agg (aE.c aB),D.agg (aE.c aV)] (D.bool r):=by
 refine gd func159 [[none]] 17 fun hr Γ hΓ=>?_
 rw[fO]at h;obtain⟨h1,h⟩|⟨h1,h⟩:=aK h
 ·obtain⟨y2,h3,h⟩:=aD h;have h:=aG h;subst h;exact(((aU.r 5 h1).g (zB h3)).b h1).ret hΓ
 ·have h:=aG h;subst h;exact(aU.r 6 h1).ret hΓ
def jz(aB:aN)(aV:aN):Option Bool:=(bif (aB.kind:Int)==aV.kind then(bif (aB.left:Bytes)==aV.left then(bif (aB.right:Bytes)==aV.right then((fO aB.pat aV.pat).bind fun y4=>(some y4))else(some false))else(some false))else(some false))
theorem vp{aB:aN}{aV:aN}{r:Bool}(h:jz aB aV=some r):Good prog 160 [D.agg (aN.c aB),D.agg (aN.c aV)] (D.bool r):=by
 refine gd func160 [[none]] 31 fun hr Γ hΓ=>?_
 rw[jz]at h;obtain⟨h1,h⟩|⟨h1,h⟩:=aK h
 ·have k7:=(aU.r 6 h1)
  obtain⟨h2,h⟩|⟨h2,h⟩:=aK h
  ·have dH:=(k7.r 6 h2)
   obtain⟨h3,h⟩|⟨h3,h⟩:=aK h
   ·obtain⟨y4,h5,h⟩:=aD h;have h:=aG h;subst h;exact(((dH.r 5 h3).g (oB h5)).b h3).ret hΓ
   ·have h:=aG h;subst h;exact(dH.r 6 h3).ret hΓ
  ·have h:=aG h;subst h;exact((k7.r 6 h2).F 6).ret hΓ
 ·have h:=aG h;subst h;exact((aU.r 6 h1).F 12).ret hΓ
def sQ(aB:aE):Option aE:=((oD aB.args).bind fun y1=>((lR (⟨0,aB,[],[]⟩:aN) y1).bind fun y3=>(some y3.pat)))
theorem Al{aB:aE}{r:aE}(h:sQ aB=some r):Good prog 258 [D.agg (aE.c aB)] (D.agg [D.str r.rel,D.fr 9 1 (r.args.map tx)]):=by
 refine gd func258 [[none,some (9,1)]] 10 fun hr Γ hΓ=>?_
 rw[sQ]at h;obtain⟨y1,h2,h⟩:=aD h;obtain⟨y3,h4,h⟩:=aD h;cases h;exact((((aU.a [.n 5]).g (yY h2)).a [.d (D.agg [D.int .i64 y3.kind,D.str y3.pat.rel,D.fr 9 1 (y3.pat.args.map tx),D.str y3.left,D.str y3.right])]).w (show Good prog 256 [D.agg [D.int .i64 0,D.str aB.rel,D.sl (aB.args.map tx),D.str ([]),D.str ([])],D.sl (y1.map aR.c)] (D.agg [D.int .i64 y3.kind,D.str y3.pat.rel,D.fr 9 1 (y3.pat.args.map tx),D.str y3.left,D.str y3.right])from by first| (simpa only[bS,bH,bX,dl,dR]using p9 h4)|exact p9 h4| (have t:=p9 h4;simp only[bS,dl,dR,aN.c]at t;exact t))).ret hΓ
def eV(aB:aF)(aV:aE)(k1:Option (aF×Int)):b8->Nat->Option (aF×Int)
 | [],i1=>(k1)
 |bD::bg,i1=>((fO bD.shape aV).bind fun lI=>(bif lI then(some (aB,(i1:Int)))else(eV aB aV k1 bg (i1+1))))
def iP(aB:aF)(aV:aE):Option (aF×Int):=(bif decide (aB.ay.length<=maxLen)then(eV aB aV (bif room ((aB.ay.map aQ.c).length+([[D.str aV.rel,D.sl (aV.args.map tx),D.sl ([])]]).length) 64 then(some ((⟨aB.rules,aB.ends,aB.ay++([(⟨aV,[]⟩:aQ)]),aB.nodes,aB.facts,aB.cL⟩:aF),IntKind.i64.wrap ((((aB.ay.map aQ.c)++([[D.str aV.rel,D.sl (aV.args.map tx),D.sl ([])]])).length:Int)-1)))else none) aB.ay 0)else none)
def Bd(fE:Value)(aB:aF)(aV:aE)(cT:Int):St:=⟨[(0,D.ptr 0 0),(3,D.ptr 1 0),(10,D.acc 2),(11,D.int .i64 ((aB.ay.map aQ.c).length:Int)),(12,D.int .i64 cT)],[Ob.PW [D.acc 3,D.acc 4,D.acc 2,D.acc 5,D.acc 6,D.int .i64 aB.cL] fE,Ob.box [D.str aV.rel,D.acc 7],Ob.row .uq 111 3 (aB.ay.map aQ.c),Ob.row .uq 105 4 (aB.rules.map aO.c),Ob.row .uq 3 1 (aB.ends.map di),Ob.row .uq 118 8 (aB.nodes.map Node.c),Ob.row .uq 53 2 (aB.facts.map aE.c),Ob.row .uq 9 1 (aV.args.map tx)]⟩
theorem B9(hΓ:Γ.nt=40){fE:Value}{aB:aF}{aV:aE}{r:aF×Int}{k1:Option (aF×Int)}(cY:k1=some r->Ax Γ N f257 (.p [[some (105,4),some (3,1),some (111,3),some (118,8),some (53,2),none],[none]] fE (cV r.1) (D.int .i64 r.2)) [1,1] ⟨[(0,D.ptr 0 0),(3,D.ptr 1 0)],[Ob.PW [D.acc 2,D.acc 3,D.acc 4,D.acc 5,D.acc 6,D.int .i64 aB.cL] fE,Ob.box [D.str aV.rel,D.acc 7],Ob.row .uq 105 4 (aB.rules.map aO.c),Ob.row .uq 3 1 (aB.ends.map di),Ob.row .uq 111 3 (aB.ay.map aQ.c),Ob.row .uq 118 8 (aB.nodes.map Node.c),Ob.row .uq 53 2 (aB.facts.map aE.c),Ob.row .uq 9 1 (aV.args.map tx)]⟩)(hm1:aB.ay.length<=maxLen):∀(rest:b8) (i1:Nat),aB.ay.drop i1=rest->eV aB aV k1 rest i1=some r->Ar Γ N f257 (.p [[some (105,4),some (3,1),some (111,3),some (118,8),some (53,2),none],[none]] fE (cV r.1) (D.int .i64 r.2)) [1,0,1,0] (rest.length+1) (Bd fE aB aV (i1:Int)):=by
 intro rest
 induction rest with
 |nil=>
  intro i1 aq h;rw[eV]at h;refine aM fun N1 bw bn=>?_
  exact((aU.ge aQ.c aq).a [.hl 0 [0,3] [0,1,3,4,2,5,6,7]]).ex hΓ bw (cY h)
 |cons bD bg ih1=>
  intro i1 aq h;rw[eV]at h;refine aM fun N1 bw bn=>?_
  obtain⟨lI,h23,h⟩:=aD h;have dH:=((((aU.lt aQ.c aq).i (pG aQ.c 3 (dc aq))).o 3 3 .uq (dB aQ.c (dc aq))).g (oB h23))
  obtain⟨h24,h⟩|⟨h24,h⟩:=aK h
  ·cases h;exact(dH.b h24).ret hΓ
  ·exact((dH.b h24).a [.cn [0,3,10,11,12] [0,1,2,3,4,5,6,7]]).ct hΓ bn (iS aq hm1) (ih1 (i1+1) (dn aq) h)
theorem uA{aB:aF}{aV:aE}{r:aF×Int}(h:iP aB aV=some r):BW prog 257 (cV aB) (cV r.1) [D.agg [D.str aV.rel,D.fr 9 1 (aV.args.map tx)]] (D.int .i64 r.2):=by
 refine gdP func257 [[some (105,4),some (3,1),some (111,3),some (118,8),some (53,2),none],[none]] 40 [D.acc 1,D.acc 2,D.acc 3,D.acc 4,D.acc 5,D.int .i64 aB.cL] [D.agg [D.str aV.rel,D.acc 6]] [Ob.row .uq 105 4 (aB.rules.map aO.c),Ob.row .uq 3 1 (aB.ends.map di),Ob.row .uq 111 3 (aB.ay.map aQ.c),Ob.row .uq 118 8 (aB.nodes.map Node.c),Ob.row .uq 53 2 (aB.facts.map aE.c),Ob.row .uq 9 1 (aV.args.map tx)] fun hr fE Γ hΓ=>?_
 rw[iP]at h;obtain⟨h27,h⟩:=bV h;refine(aU.a [.cn [0,3,10,11,12] [0,7,3,1,2,4,5,6]]).lp hΓ (B9 hΓ (fun h=>?_) (bt h27) aB.ay 0 rfl h);obtain⟨h26,h⟩:=bV h;cases h;exact((aU.w (cA h26)).a [.n2 [0,1,2,3,4,5,6,7,8,9,10,11] [0,1,2,3,4,5,6,7,8,9,10,11] 7 9 [0,1,2,3,4] [4,7,8]]).rts hΓ (D.iF [D.int .i64 (IntKind.i64.wrap ((((aB.ay.map aQ.c)++([[D.str aV.rel,D.sl (aV.args.map tx),D.sl ([])]])).length:Int)-1)),D.agg [D.fr 105 4 (aB.rules.map aO.c),D.fr 3 1 (aB.ends.map di),D.fr 111 3 ((aB.ay.map aQ.c)++([[D.str aV.rel,D.sl (aV.args.map tx),D.sl ([])]])),D.fr 118 8 (aB.nodes.map Node.c),D.fr 53 2 (aB.facts.map aE.c),D.int .i64 aB.cL],D.val fE]) (by first|rfl| (simp only[mA]<;>rfl)| (simp only[cV,mA]<;>rfl))
def dA(aB:aF)(aV:Int)(cW:aN)(k1:Option (aF×Int)):az->Nat->Option (aF×Int)
 | [],i1=>(k1)
 |bD::bg,i1=>(bif decide (((i1:Int):Int)>0)then(bif (bD.parent:Int)==aV then((jz bD.cond cW).bind fun Dx=>(bif Dx then(some (aB,(i1:Int)))else(dA aB aV cW k1 bg (i1+1))))else(dA aB aV cW k1 bg (i1+1)))else(dA aB aV cW k1 bg (i1+1)))
def kY(aB:aF)(aV:Int)(cW:aN):Option (aF×Int):=(bif decide (aB.nodes.length<=maxLen)then(dA aB aV cW (bif (cW.kind:Int)==1 then((sQ cW.pat).bind fun I7=>((iP aB I7).bind fun Nz=>((fC cW).bind fun F4=>(bif room ((Nz.1.nodes.map Node.c).length+([[D.int .i64 aV,D.int .i64 F4.kind,D.str F4.pat.rel,D.sl (F4.pat.args.map tx),D.str F4.left,D.str F4.right,D.int .i64 Nz.2,D.sl ([])]]).length) 120 then(some ((⟨Nz.1.rules,Nz.1.ends,Nz.1.ay,Nz.1.nodes++([(⟨aV,F4,Nz.2,[]⟩:Node)]),Nz.1.facts,Nz.1.cL⟩:aF),IntKind.i64.wrap ((((Nz.1.nodes.map Node.c)++([[D.int .i64 aV,D.int .i64 F4.kind,D.str F4.pat.rel,D.sl (F4.pat.args.map tx),D.str F4.left,D.str F4.right,D.int .i64 Nz.2,D.sl ([])]])).length:Int)-1)))else none))))else(bif (cW.kind:Int)==2 then((sQ cW.pat).bind fun y47=>((iP aB y47).bind fun K1=>((fC cW).bind fun Pd=>(bif room ((K1.1.nodes.map Node.c).length+([[D.int .i64 aV,D.int .i64 Pd.kind,D.str Pd.pat.rel,D.sl (Pd.pat.args.map tx),D.str Pd.left,D.str Pd.right,D.int .i64 K1.2,D.sl ([])]]).length) 120 then(some ((⟨K1.1.rules,K1.1.ends,K1.1.ay,K1.1.nodes++([(⟨aV,Pd,K1.2,[]⟩:Node)]),K1.1.facts,K1.1.cL⟩:aF),IntKind.i64.wrap ((((K1.1.nodes.map Node.c)++([[D.int .i64 aV,D.int .i64 Pd.kind,D.str Pd.pat.rel,D.sl (Pd.pat.args.map tx),D.str Pd.left,D.str Pd.right,D.int .i64 K1.2,D.sl ([])]])).length:Int)-1)))else none))))else((fC cW).bind fun RN=>(bif room ((aB.nodes.map Node.c).length+([[D.int .i64 aV,D.int .i64 RN.kind,D.str RN.pat.rel,D.sl (RN.pat.args.map tx),D.str RN.left,D.str RN.right,D.int .i64 (-1),D.sl ([])]]).length) 120 then(some ((⟨aB.rules,aB.ends,aB.ay,aB.nodes++([(⟨aV,RN, -1,[]⟩:Node)]),aB.facts,aB.cL⟩:aF),IntKind.i64.wrap ((((aB.nodes.map Node.c)++([[D.int .i64 aV,D.int .i64 RN.kind,D.str RN.pat.rel,D.sl (RN.pat.args.map tx),D.str RN.left,D.str RN.right,D.int .i64 (-1),D.sl ([])]])).length:Int)-1)))else none)))) aB.nodes 0)else none)
def Be(fE:Value)(aB:aF)(aV:Int)(cW:aN)(cT:Int):St:=⟨[(0,D.ptr 0 0),(1,D.int .i64 aV),(5,D.ptr 1 0),(13,D.acc 2),(14,D.int .i64 ((aB.nodes.map Node.c).length:Int)),(15,D.int .i64 cT)],[Ob.PW [D.acc 3,D.acc 4,D.acc 5,D.acc 2,D.acc 6,D.int .i64 aB.cL] fE,Ob.box (aN.c cW),Ob.row .uq 118 8 (aB.nodes.map Node.c),Ob.row .uq 105 4 (aB.rules.map aO.c),Ob.row .uq 3 1 (aB.ends.map di),Ob.row .uq 111 3 (aB.ay.map aQ.c),Ob.row .uq 53 2 (aB.facts.map aE.c)]⟩
theorem BA(hΓ:Γ.nt=69){fE:Value}{aB:aF}{aV:Int}{cW:aN}{r:aF×Int}{k1:Option (aF×Int)}(cY:k1=some r->Ax Γ N f201 (.p [[some (105,4),some (3,1),some (111,3),some (118,8),some (53,2),none],[none]] fE (cV r.1) (D.int .i64 r.2)) [1,1] ⟨[(0,D.ptr 0 0),(1,D.int .i64 aV),(5,D.ptr 1 0)],[Ob.PW [D.acc 2,D.acc 3,D.acc 4,D.acc 5,D.acc 6,D.int .i64 aB.cL] fE,Ob.box (aN.c cW),Ob.row .uq 105 4 (aB.rules.map aO.c),Ob.row .uq 3 1 (aB.ends.map di),Ob.row .uq 111 3 (aB.ay.map aQ.c),Ob.row .uq 118 8 (aB.nodes.map Node.c),Ob.row .uq 53 2 (aB.facts.map aE.c)]⟩)(hm1:aB.nodes.length<=maxLen):∀(rest:az) (i1:Nat),aB.nodes.drop i1=rest->dA aB aV cW k1 rest i1=some r->Ar Γ N f201 (.p [[some (105,4),some (3,1),some (111,3),some (118,8),some (53,2),none],[none]] fE (cV r.1) (D.int .i64 r.2)) [1,0,1,0] (rest.length+1) (Be fE aB aV cW (i1:Int)):=by
 intro rest
 induction rest with
 |nil=>
  intro i1 aq h;rw[dA]at h;refine aM fun N1 bw bn=>?_
  exact((aU.ge Node.c aq).a [.hl 0 [0,1,5] [0,1,3,4,5,2,6]]).ex hΓ bw (cY h)
 |cons bD bg ih1=>
  intro i1 aq h;rw[dA]at h;refine aM fun N1 bw bn=>?_
  have iU:=(((aU.lt Node.c aq).i (pG Node.c 8 (dc aq))).o 8 8 .uq (dB Node.c (dc aq)))
  obtain⟨h30,h⟩|⟨h30,h⟩:=aK h
  ·have tX:=(iU.r 5 h30)
   obtain⟨h31,h⟩|⟨h31,h⟩:=aK h
   ·obtain⟨Dx,h33,h⟩:=aD h;have wL:=(((tX.r 4 h31).g (vp h33)).b h31)
    obtain⟨h34,h⟩|⟨h34,h⟩:=aK h
    ·cases h;exact(wL.b h34).ret hΓ
    ·exact((wL.b h34).a [.cn [0,1,5,13,14,15] [0,1,2,3,4,5,6]]).ct hΓ bn (iS aq hm1) (ih1 (i1+1) (dn aq) h)
   ·exact(((tX.r 5 h31).F 1).a [.cn [0,1,5,13,14,15] [0,1,2,3,4,5,6]]).ct hΓ bn (iS aq hm1) (ih1 (i1+1) (dn aq) h)
  ·exact(((iU.r 5 h30).F 6).a [.cn [0,1,5,13,14,15] [0,1,2,3,4,5,6]]).ct hΓ bn (iS aq hm1) (ih1 (i1+1) (dn aq) h)
theorem AV{aB:aF}{aV:Int}{cW:aN}{r:aF×Int}(h:kY aB aV cW=some r):BW prog 201 (cV aB) (cV r.1) [D.int .i64 aV,D.agg (aN.c cW)] (D.int .i64 r.2):=by
 refine gdP func201 [[some (105,4),some (3,1),some (111,3),some (118,8),some (53,2),none],[none]] 69 [D.acc 1,D.acc 2,D.acc 3,D.acc 4,D.acc 5,D.int .i64 aB.cL] [D.int .i64 aV,D.agg [D.int .i64 cW.kind,D.str cW.pat.rel,D.sl (cW.pat.args.map tx),D.str cW.left,D.str cW.right]] [Ob.row .uq 105 4 (aB.rules.map aO.c),Ob.row .uq 3 1 (aB.ends.map di),Ob.row .uq 111 3 (aB.ay.map aQ.c),Ob.row .uq 118 8 (aB.nodes.map Node.c),Ob.row .uq 53 2 (aB.facts.map aE.c)] fun hr fE Γ hΓ=>?_
 rw[kY]at h;obtain⟨h63,h⟩:=bV h;refine(aU.a [.cn [0,1,5,13,14,15] [0,6,4,1,2,3,5]]).lp hΓ (BA hΓ (fun h=>?_) (bt h63) aB.nodes 0 rfl h);obtain⟨h35,h⟩|⟨h35,h⟩:=aK h
 ·obtain⟨I7,h37,h⟩:=aD h;obtain⟨Nz,h39,h⟩:=aD h;obtain⟨F4,h44,h⟩:=aD h;obtain⟨h45,h⟩:=bV h;cases h;exact(((((((aU.r 4 h35).T 1).g (Al h37)).hp [[some (105,4),some (3,1),some (111,3),some (118,8),some (53,2),none],[none,some (9,1)]] (uA h39)).a [.n2 [0,1,2,3,4,5,6,7,8,9,10,11,12,13,14] [0,1,2,3,4,5,6,7,8,9,10,11,12,13,14] 10 12 [0,1,2,3,4] [11,13,14]]).g (kp h44)).w (cA h45)).rts hΓ (D.iF [D.int .i64 (IntKind.i64.wrap ((((Nz.1.nodes.map Node.c)++([[D.int .i64 aV,D.int .i64 F4.kind,D.str F4.pat.rel,D.sl (F4.pat.args.map tx),D.str F4.left,D.str F4.right,D.int .i64 Nz.2,D.sl ([])]])).length:Int)-1)),D.agg [D.fr 105 4 (Nz.1.rules.map aO.c),D.fr 3 1 (Nz.1.ends.map di),D.fr 111 3 (Nz.1.ay.map aQ.c),D.fr 118 8 ((Nz.1.nodes.map Node.c)++([[D.int .i64 aV,D.int .i64 F4.kind,D.str F4.pat.rel,D.sl (F4.pat.args.map tx),D.str F4.left,D.str F4.right,D.int .i64 Nz.2,D.sl ([])]])),D.fr 53 2 (Nz.1.facts.map aE.c),D.int .i64 Nz.1.cL],D.val fE]) (by first|rfl| (simp only[mA]<;>rfl)| (simp only[cV,mA]<;>rfl))
 ·have AM:=(aU.r 4 h35)
  obtain⟨h46,h⟩|⟨h46,h⟩:=aK h
  ·obtain⟨y47,h48,h⟩:=aD h;obtain⟨K1,h50,h⟩:=aD h;obtain⟨Pd,h55,h⟩:=aD h;obtain⟨h56,h⟩:=bV h;cases h;exact((((((AM.b h46).g (Al h48)).hp [[some (105,4),some (3,1),some (111,3),some (118,8),some (53,2),none],[none,some (9,1)]] (uA h50)).a [.n2 [0,1,2,3,4,5,6,7,8,9,10,11,12,13,14] [0,1,2,3,4,5,6,7,8,9,10,11,12,13,14] 10 12 [0,1,2,3,4] [11,13,14]]).g (kp h55)).w (cA h56)).rts hΓ (D.iF [D.int .i64 (IntKind.i64.wrap ((((K1.1.nodes.map Node.c)++([[D.int .i64 aV,D.int .i64 Pd.kind,D.str Pd.pat.rel,D.sl (Pd.pat.args.map tx),D.str Pd.left,D.str Pd.right,D.int .i64 K1.2,D.sl ([])]])).length:Int)-1)),D.agg [D.fr 105 4 (K1.1.rules.map aO.c),D.fr 3 1 (K1.1.ends.map di),D.fr 111 3 (K1.1.ay.map aQ.c),D.fr 118 8 ((K1.1.nodes.map Node.c)++([[D.int .i64 aV,D.int .i64 Pd.kind,D.str Pd.pat.rel,D.sl (Pd.pat.args.map tx),D.str Pd.left,D.str Pd.right,D.int .i64 K1.2,D.sl ([])]])),D.fr 53 2 (K1.1.facts.map aE.c),D.int .i64 K1.1.cL],D.val fE]) (by first|rfl| (simp only[mA]<;>rfl)| (simp only[cV,mA]<;>rfl))
  ·obtain⟨RN,h61,h⟩:=aD h;obtain⟨h62,h⟩:=bV h;cases h;exact((((AM.b h46).a [.n2 [0,1,2,3,4,5,6,7,8,9,10,11,12,13,14] [0,1,2,3,4,5,6,7,8,9,10,11,12,13,14] 10 12 [0,1,2,3,4] [5,7,8]]).g (kp h61)).w (cA h62)).rts hΓ (D.iF [D.int .i64 (IntKind.i64.wrap ((((aB.nodes.map Node.c)++([[D.int .i64 aV,D.int .i64 RN.kind,D.str RN.pat.rel,D.sl (RN.pat.args.map tx),D.str RN.left,D.str RN.right,D.int .i64 (-1),D.sl ([])]])).length:Int)-1)),D.agg [D.fr 105 4 (aB.rules.map aO.c),D.fr 3 1 (aB.ends.map di),D.fr 111 3 (aB.ay.map aQ.c),D.fr 118 8 ((aB.nodes.map Node.c)++([[D.int .i64 aV,D.int .i64 RN.kind,D.str RN.pat.rel,D.sl (RN.pat.args.map tx),D.str RN.left,D.str RN.right,D.int .i64 (-1),D.sl ([])]])),D.fr 53 2 (aB.facts.map aE.c),D.int .i64 aB.cL],D.val fE]) (by first|rfl| (simp only[mA]<;>rfl)| (simp only[cV,mA]<;>rfl))
def jZ(aB:au)(i1:Nat)(M7:aj)(k2:Int->Int->au->bJ->b8->az->aP->Option aF):aj->Nat->Int->Int->au->bJ->b8->az->aP->Option aF
 | [],i2,tT,ol,D4,oz,we,wg,rz=>(k2 tT ol D4 oz we wg rz)
 |lM::wR,i2,tT,ol,D4,oz,we,wg,rz=>((kY (⟨D4,oz,we,wg,rz,ol⟩:aF) tT lM).bind fun zV=>(jZ aB i1 M7 k2 wR (i2+1) zV.2 zV.1.cL zV.1.rules zV.1.ends zV.1.ay zV.1.nodes zV.1.facts))
def jY(aB:au)(k1:Int->au->bJ->b8->az->aP->Option aF):au->Nat->Int->au->bJ->b8->az->aP->Option aF
 | [],i1,oh,lm,gr,xD,qP,D3=>(k1 oh lm gr xD qP D3)
 |bD::bg,i1,oh,lm,gr,xD,qP,D3=>((qw bD).bind fun M7=>(bif decide (M7.length<=maxLen)then(jZ aB i1 M7 (fun(BL:Int) (og:Int) (Lz:au) (C6:bJ) (M0:b8) (vV:az) (M1:aP)=>(bif room ((C6.map di).length+([[D.int .i64 BL]]).length) 8 then(jY aB k1 bg (i1+1) og Lz (C6++([BL])) M0 vV M1)else none)) M7 0 0 oh lm gr xD qP D3)else none))
def sZ(aB:au):Option aF:=((pV aB).bind fun y1=>(jY aB (fun(wO:Int) (yO:au) (iO:bJ) (R4:b8) (ru:az) (wN:aP)=>(some (⟨yO,iO,R4,ru,wN,wO⟩:aF))) aB 0 0 y1 ([]:bJ) ([]:b8) ([(⟨-1,(⟨0,(⟨[],[]⟩:aE),[],[]⟩:aN), -1,[]⟩:Node)]) ([]:aP)))
def x6(aB:au)(oh:Int)(W1:List aS)(W2:List aS)(W3:List aS)(W4:List aS)(W5:List aS)(cT:Int):St:=⟨[(2,D.ptr 0 0),(3,D.ptr 1 0),(14,D.sl (aB.map aO.c)),(15,D.int .i64 ((aB.map aO.c).length:Int)),(16,D.int .i64 cT)],[Ob.box [D.nil,D.nil,D.nil,D.nil,D.nil,D.int .i64 0],Ob.box [D.acc 2,D.acc 3,D.acc 4,D.acc 5,D.acc 6,D.int .i64 oh],Ob.row .uq 105 4 W1,Ob.row .uq 3 1 W2,Ob.row .uq 111 3 W3,Ob.row .uq 118 8 W4,Ob.row .uq 53 2 W5]⟩
def Ip(aB:au)(i1:Nat)(M7:aj)(tT:Int)(ol:Int)(W2:List aS)(W3:List aS)(W4:List aS)(W5:List aS)(W6:List aS)(cT:Int):St:=⟨[(2,D.ptr 0 0),(3,D.ptr 1 0),(6,D.int .i64 tT),(14,D.sl (aB.map aO.c)),(15,D.int .i64 ((aB.map aO.c).length:Int)),(16,D.int .i64 (i1:Int)),(21,D.acc 2),(22,D.int .i64 ((M7.map aN.c).length:Int)),(23,D.int .i64 cT)],[Ob.box [D.nil,D.nil,D.nil,D.nil,D.nil,D.int .i64 0],Ob.box [D.acc 3,D.acc 4,D.acc 5,D.acc 6,D.acc 7,D.int .i64 ol],Ob.row .uq 115 5 (M7.map aN.c),Ob.row .uq 105 4 W2,Ob.row .uq 3 1 W3,Ob.row .uq 111 3 W4,Ob.row .uq 118 8 W5,Ob.row .uq 53 2 W6]⟩
theorem Gb(hΓ:Γ.nt=39){aB:au}{i1:Nat}{M7:aj}{r:aF}{k2:Int->Int->au->bJ->b8->az->aP->Option aF}(CZ:∀(BL:Int) (og:Int) (Lz:au) (C6:bJ) (M0:b8) (vV:az) (M1:aP),k2 BL og Lz C6 M0 vV M1=some r->Ax Γ N f134 (.q [[some (105,4),some (3,1),some (111,3),some (118,8),some (53,2),none]] (D.agg [D.fr 105 4 (r.rules.map aO.c),D.fr 3 1 (r.ends.map di),D.fr 111 3 (r.ay.map aQ.c),D.fr 118 8 (r.nodes.map Node.c),D.fr 53 2 (r.facts.map aE.c),D.int .i64 r.cL])) [1,1,0,1,0,0,1,1,0,0,1,1,1] ⟨[(2,D.ptr 0 0),(3,D.ptr 1 0),(6,D.int .i64 BL),(14,D.sl (aB.map aO.c)),(15,D.int .i64 ((aB.map aO.c).length:Int)),(16,D.int .i64 (i1:Int))],[Ob.box [D.nil,D.nil,D.nil,D.nil,D.nil,D.int .i64 0],Ob.box [D.acc 2,D.acc 3,D.acc 4,D.acc 5,D.acc 6,D.int .i64 og],Ob.row .uq 105 4 (Lz.map aO.c),Ob.row .uq 3 1 (C6.map di),Ob.row .uq 111 3 (M0.map aQ.c),Ob.row .uq 118 8 (vV.map Node.c),Ob.row .uq 53 2 (M1.map aE.c)]⟩)(hm2:M7.length<=maxLen):∀(rest:aj) (i2:Nat) (tT:Int) (ol:Int) (D4:au) (oz:bJ) (we:b8) (wg:az) (rz:aP),M7.drop i2=rest->jZ aB i1 M7 k2 rest i2 tT ol D4 oz we wg rz=some r->Ar Γ N f134 (.q [[some (105,4),some (3,1),some (111,3),some (118,8),some (53,2),none]] (D.agg [D.fr 105 4 (r.rules.map aO.c),D.fr 3 1 (r.ends.map di),D.fr 111 3 (r.ay.map aQ.c),D.fr 118 8 (r.nodes.map Node.c),D.fr 53 2 (r.facts.map aE.c),D.int .i64 r.cL])) [1,1,0,1,0,0,1,1,0,0,1,1,0,1,0] (rest.length+1) (Ip aB i1 M7 tT ol (D4.map aO.c) (oz.map di) (we.map aQ.c) (wg.map Node.c) (rz.map aE.c) (i2:Int)):=by
 intro rest
 induction rest with
 |nil=>
  intro i2 tT ol D4 oz we wg rz hd2 h;rw[jZ]at h;refine aM fun N2 xV ud=>?_
  exact((aU.ge aN.c hd2).a [.hl 5 [2,3,6,14,15,16] [0,1,3,4,5,6,7]]).ex hΓ xV (CZ tT ol D4 oz we wg rz h)
 |cons lM wR ih2=>
  intro i2 tT ol D4 oz we wg rz hd2 h;rw[jZ]at h;refine aM fun N2 xV ud=>?_
  obtain⟨zV,h209,h⟩:=aD h;exact((((((aU.lt aN.c hd2).i (pG aN.c 5 (dc hd2))).o 5 5 .uq (dB aN.c (dc hd2))).a [.gp [[some (105,4),some (3,1),some (111,3),some (118,8),some (53,2),none],[none],[none,none,none,none,none]] (cV zV.1) (D.int .i64 zV.2)]).w (show BW prog 201 (cV (⟨D4,oz,we,wg,rz,ol⟩:aF)) (cV zV.1) [D.int .i64 tT,D.agg (aN.c lM)] (D.int .i64 zV.2)from by simpa only[bS,bH,bX,dl,dR]using AV h209)).a [.cn [2,3,6,14,15,16,21,22,23] [0,1,2,9,10,11,12,13]]).ct hΓ ud (iS hd2 hm2) (ih2 (i2+1) zV.2 zV.1.cL zV.1.rules zV.1.ends zV.1.ay zV.1.nodes zV.1.facts (dn hd2) h)
theorem Ga(hΓ:Γ.nt=39){aB:au}{r:aF}{k1:Int->au->bJ->b8->az->aP->Option aF}(cY:∀(wO:Int) (yO:au) (iO:bJ) (R4:b8) (ru:az) (wN:aP),k1 wO yO iO R4 ru wN=some r->Ax Γ N f134 (.q [[some (105,4),some (3,1),some (111,3),some (118,8),some (53,2),none]] (D.agg [D.fr 105 4 (r.rules.map aO.c),D.fr 3 1 (r.ends.map di),D.fr 111 3 (r.ay.map aQ.c),D.fr 118 8 (r.nodes.map Node.c),D.fr 53 2 (r.facts.map aE.c),D.int .i64 r.cL])) [1,1,1] ⟨[(2,D.ptr 0 0),(3,D.ptr 1 0)],[Ob.box [D.nil,D.nil,D.nil,D.nil,D.nil,D.int .i64 0],Ob.box [D.acc 2,D.acc 3,D.acc 4,D.acc 5,D.acc 6,D.int .i64 wO],Ob.row .uq 105 4 (yO.map aO.c),Ob.row .uq 3 1 (iO.map di),Ob.row .uq 111 3 (R4.map aQ.c),Ob.row .uq 118 8 (ru.map Node.c),Ob.row .uq 53 2 (wN.map aE.c)]⟩)(hm1:aB.length<=maxLen):∀(rest:au) (i1:Nat) (oh:Int) (lm:au) (gr:bJ) (xD:b8) (qP:az) (D3:aP),aB.drop i1=rest->jY aB k1 rest i1 oh lm gr xD qP D3=some r->Ar Γ N f134 (.q [[some (105,4),some (3,1),some (111,3),some (118,8),some (53,2),none]] (D.agg [D.fr 105 4 (r.rules.map aO.c),D.fr 3 1 (r.ends.map di),D.fr 111 3 (r.ay.map aQ.c),D.fr 118 8 (r.nodes.map Node.c),D.fr 53 2 (r.facts.map aE.c),D.int .i64 r.cL])) [1,1,0,1,0] (rest.length+1) (x6 aB oh (lm.map aO.c) (gr.map di) (xD.map aQ.c) (qP.map Node.c) (D3.map aE.c) (i1:Int)):=by
 intro rest
 induction rest with
 |nil=>
  intro i1 oh lm gr xD qP D3 aq h;rw[jY]at h;refine aM fun N1 bw bn=>?_
  exact((aU.ge aO.c aq).a [.hl 0 [2,3] [0,1,2,3,4,5,6]]).ex hΓ bw (cY oh lm gr xD qP D3 h)
 |cons bD bg ih1=>
  intro i1 oh lm gr xD qP D3 aq h;rw[jY]at h;refine aM fun N1 bw bn=>?_
  obtain⟨M7,h180,h⟩:=aD h;obtain⟨h211,h⟩:=bV h;refine((((aU.lt aO.c aq).l (av aO.c 4 (dc aq) rfl)).g (EC h180)).a [.cn [2,3,6,14,15,16,21,22,23] [0,1,8,2,3,4,5,6]]).lp hΓ (Gb hΓ (fun BL og Lz C6 M0 vV M1 h=>?_) (bt h211) M7 0 0 oh lm gr xD qP D3 rfl h);obtain⟨h210,h⟩:=bV h;exact((aU.w (cA h210)).a [.cn [2,3,14,15,16] [0,1,2,8,4,5,6]]).cs hΓ bn (x6 aB og (Lz.map aO.c) ((C6.map di)++([[D.int .i64 BL]])) (M0.map aQ.c) (vV.map Node.c) (M1.map aE.c) (IntKind.i64.wrap ((i1:Int)+1))) (by first| (simp only[iS aq hm1,mA]<;>rfl)| (simp only[iS aq hm1,mA,aE.c,aR.c,aN.c,Action.c,aO.c,aI.c,cr.c,aQ.c,Node.c,aF.c,cv.c]<;>rfl)) (ih1 (i1+1) og Lz (C6++([BL])) M0 vV M1 (dn aq) h)
theorem FN{aB:au}{r:aF}(h:sZ aB=some r):Good prog 134 [D.sl (aB.map aO.c)] (D.agg [D.fr 105 4 (r.rules.map aO.c),D.fr 3 1 (r.ends.map di),D.fr 111 3 (r.ay.map aQ.c),D.fr 118 8 (r.nodes.map Node.c),D.fr 53 2 (r.facts.map aE.c),D.int .i64 r.cL]):=by
 refine gd func134 [[some (105,4),some (3,1),some (111,3),some (118,8),some (53,2),none]] 39 fun hr Γ hΓ=>?_
 rw[sZ]at h;obtain⟨y1,h2,h⟩:=aD h;refine((aU.g (z8 h2)).a [.pb 3 1 3 1,.pb 3 2 111 3,.pb 3 4 53 2,.cn [2,3,14,15,16] [0,3,1,4,5,2,6]]).Ww hΓ (x6 aB 0 (y1.map aO.c) ([]:List aS) ([]:List aS) ([[D.int .i64 (-1),D.int .i64 0,D.str ([]),D.sl ([]),D.str ([]),D.str ([]),D.int .i64 (-1),D.sl ([])]]) ([]:List aS) 0) (by first| (simp only[mA]<;>rfl)| (simp only[mA,aE.c,aR.c,aN.c,Action.c,aO.c,aI.c,cr.c,aQ.c,Node.c,aF.c,cv.c]<;>rfl)) (Ga hΓ (fun wO yO iO R4 ru wN h=>?_) (by have:=(dU.sl (hr _ (aC (i:=0) rfl))).1;simpa using this) aB 0 0 y1 ([]:bJ) ([]:b8) ([(⟨-1,(⟨0,(⟨[],[]⟩:aE),[],[]⟩:aN), -1,[]⟩:Node)]) ([]:aP) rfl h);cases h;exact aU.ret hΓ
def gu(aB:aT)(k1:Option Bool):aT->Nat->Option Bool
 | [],i1=>(k1)
 |bD::bg,i1=>((lQ bD.var).bind fun y50=>(bif !(y50)then(some false)else((fN bD.value).bind fun y53=>(bif !(y53)then(some false)else(bif decide (((i1:Int):Int)>0)then((mC aB (IntKind.i64.wrap ((i1:Int)-1))).bind fun x57=>(bif !(Op.bytesLess x57.var bD.var)then(some false)else(gu aB k1 bg (i1+1))))else(gu aB k1 bg (i1+1)))))))
def kf(aB:aT):Option Bool:=(bif decide ((((aB.map aR.c).length:Int):Int)>6)then(some false)else(gu aB (some true) aB 0))
def IX(aB:aT)(cT:Int):St:=⟨[(0,D.sl (aB.map aR.c)),(8,D.sl (aB.map aR.c)),(9,D.int .i64 ((aB.map aR.c).length:Int)),(10,D.int .i64 cT)],[]⟩
theorem GJ(hΓ:Γ.nt=41){aB:aT}{r:Bool}{k1:Option Bool}(cY:k1=some r->Ax Γ N f193 (.q [[none]] (D.bool r)) [1,1,1] ⟨[],[]⟩)(hm1:aB.length<=maxLen):∀(rest:aT) (i1:Nat),aB.drop i1=rest->gu aB k1 rest i1=some r->Ar Γ N f193 (.q [[none]] (D.bool r)) [1,1,0,1,0] (rest.length+1) (IX aB (i1:Int)):=by
 intro rest
 induction rest with
 |nil=>
  intro i1 aq h;rw[gu]at h;refine aM fun N1 bw bn=>?_
  exact((aU.ge aR.c aq).a [.hl 0 [] []]).ex hΓ bw (cY h)
 |cons bD bg ih1=>
  intro i1 aq h;rw[gu]at h;refine aM fun N1 bw bn=>?_
  obtain⟨y50,h51,h⟩:=aD h;have tX:=((((aU.lt aR.c aq).l (av aR.c 2 (dc aq) rfl)).a [.n 22]).g (oA h51))
  obtain⟨h52,h⟩|⟨h52,h⟩:=aK h
  ·have h:=aG h;subst h;exact((((tX.r 5 h52).T 3).a [bF,bF,bF,bF,bF,bF,bF,bF,bF]).T 3).ret hΓ
  ·obtain⟨y53,h54,h⟩:=aD h;have wL:=(((tX.r 3 h52).g (eW h54)).r 2 h52)
   obtain⟨h55,h⟩|⟨h55,h⟩:=aK h
   ·have h:=aG h;subst h;exact((((wL.r 3 h55).a [bF,bF,bF,bF,bF,bF,bF,bF,bF]).r 2 h55).T 1).ret hΓ
   ·have AM:=(wL.r 3 h55)
    obtain⟨h56,h⟩|⟨h56,h⟩:=aK h
    ·obtain⟨x57,h58,h⟩:=aD h;have D7:=((((((AM.r 4 h56).l (dX aR.c 2 h58 rfl)).r 5 h56).b h55).b h56).b h55)
     obtain⟨h59,h⟩|⟨h59,h⟩:=aK h
     ·have h:=aG h;subst h;exact(D7.b h59).ret hΓ
     ·exact((D7.b h59).a [.cn [0,8,9,10] []]).ct hΓ bn (iS aq hm1) (ih1 (i1+1) (dn aq) h)
    ·exact((((((AM.r 9 h56).b h55).b h56).b h55).F 1).a [.cn [0,8,9,10] []]).ct hΓ bn (iS aq hm1) (ih1 (i1+1) (dn aq) h)
theorem mh{aB:aT}{r:Bool}(h:kf aB=some r):Good prog 193 [D.sl (aB.map aR.c)] (D.bool r):=by
 refine gd func193 [[none]] 41 fun hr Γ hΓ=>?_
 rw[kf]at h;obtain⟨h1,h⟩|⟨h1,h⟩:=aK h
 ·have h:=aG h;subst h;exact(aU.b h1).ret hΓ
 ·refine((aU.b h1).a [.cn [0,8,9,10] []]).lp hΓ (GJ hΓ (fun h=>?_) (by have:=(dU.sl (hr _ (aC (i:=0) rfl))).1;simpa using this) aB 0 rfl h);have h:=aG h;subst h;exact aU.ret hΓ
def lS(aB:aT)(aV:Bytes)(k1:Option (Bytes×Bool)):aT->Nat->Option (Bytes×Bool)
 | [],i1=>(k1)
 |bD::bg,i1=>(bif (bD.var:Bytes)==aV then(some (bD.value,true))else(lS aB aV k1 bg (i1+1)))
def qA(aB:aT)(aV:Bytes):Option (Bytes×Bool):=((fN aV).bind fun y1=>(bif y1 then(some (aV,true))else((lQ aV).bind fun y4=>(bif !(y4)then(some ([],false))else(lS aB aV (some ([],false)) aB 0)))))
def MW(aB:aT)(aV:Bytes)(cT:Int):St:=⟨[(1,D.str aV),(14,D.sl (aB.map aR.c)),(15,D.int .i64 ((aB.map aR.c).length:Int)),(16,D.int .i64 cT)],[]⟩
theorem Kg(hΓ:Γ.nt=27){aB:aT}{aV:Bytes}{r:Bytes×Bool}{k1:Option (Bytes×Bool)}(cY:k1=some r->Ax Γ N f126 (.q [[none],[none]] (D.iF [D.str r.1,D.bool r.2])) [1,1,1,1] ⟨[],[]⟩)(hm1:aB.length<=maxLen):∀(rest:aT) (i1:Nat),aB.drop i1=rest->lS aB aV k1 rest i1=some r->Ar Γ N f126 (.q [[none],[none]] (D.iF [D.str r.1,D.bool r.2])) [1,1,1,0,1,0] (rest.length+1) (MW aB aV (i1:Int)):=by
 intro rest
 induction rest with
 |nil=>
  intro i1 aq h;rw[lS]at h;refine aM fun N1 bw bn=>?_
  exact((aU.ge aR.c aq).a [.hl 0 [] []]).ex hΓ bw (cY h)
 |cons bD bg ih1=>
  intro i1 aq h;rw[lS]at h;refine aM fun N1 bw bn=>?_
  have dH:=((aU.lt aR.c aq).l (av aR.c 2 (dc aq) rfl))
  obtain⟨h19,h⟩|⟨h19,h⟩:=aK h
  ·cases h;exact(dH.b h19).ret hΓ
  ·exact((dH.b h19).a [.cn [1,14,15,16] []]).ct hΓ bn (iS aq hm1) (ih1 (i1+1) (dn aq) h)
theorem wz{aB:aT}{aV:Bytes}{r:Bytes×Bool}(h:qA aB aV=some r):Good prog 126 [D.sl (aB.map aR.c),D.str aV] (D.iF [D.str r.1,D.bool r.2]):=by
 refine gd func126 [[none],[none]] 27 fun hr Γ hΓ=>?_
 rw[qA]at h;obtain⟨y1,h2,h⟩:=aD h;obtain⟨h3,h⟩|⟨h3,h⟩:=aK h
 ·cases h;exact((aU.g (eW h2)).b h3).ret hΓ
 ·obtain⟨y4,h5,h⟩:=aD h;have jU:=(((aU.g (eW h2)).b h3).g (oA h5))
  obtain⟨h6,h⟩|⟨h6,h⟩:=aK h
  ·cases h;exact(jU.b h6).ret hΓ
  ·refine((jU.b h6).a [.cn [1,14,15,16] []]).lp hΓ (Kg hΓ (fun h=>?_) (by have:=(dU.sl (hr _ (aC (i:=0) rfl))).1;simpa using this) aB 0 rfl h);cases h;exact aU.ret hΓ
end Go.Cx

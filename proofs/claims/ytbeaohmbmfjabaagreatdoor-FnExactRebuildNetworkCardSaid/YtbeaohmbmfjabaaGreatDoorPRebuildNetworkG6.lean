/- What functions of the program compute, and the walks that show it. No condition. -/
import Derived.Test.YtbeaohmbmfjabaaGreatDoorPRebuildNetworkG5
set_option linter.unusedVariables false
set_option linter.unusedSimpArgs false
namespace Go.Cx
open Go.RowKit Go.Proofs Tryz
set_option maxRecDepth 100000
variable{Γ:w5}{N:Nat->St->Prop}
def jU(aB:aF)(k1:aq->Option aq):Nat->Int->aq->Option aq
 |0,_,_=>none
 |n1+1,b8,bu=>((lJ b8 1 (IntKind.i64.wrap (((aB.nodes.map Node.c).length:Int)-1))).bind fun y28=>(bif y28 then((mK aB.nodes b8).bind fun x31=>((kB x31.cond).bind fun FA=>(bif room (([[D.int .i64 FA.kind,D.str FA.pat.rel,D.sl (FA.pat.args.map tx),D.str FA.left,D.str FA.right]]).length+(bu.map aQ.c).length) 80 then(bif decide ((x31.parent:Int)>=b8)then(k1 (([FA])++bu))else(jU aB k1 n1 x31.parent (([FA])++bu)))else none)))else(k1 bu)))
def xj(aB:aF)(aW:Int):Option aq:=(jU aB (fun(bQ:aq)=>(some bQ)) fuel aW ([]:aq))
def Dl(aB:aF)(b8:Int)(W1:List aR):St:=⟨[(1,D.int .i64 b8),(2,D.ptr 0 0),(5,D.acc 1)],[Ob.box (aF.c aB),Ob.row .uq 115 5 W1]⟩
theorem NG(hΓ:Γ.nt=35){aB:aF}{r:aq}{k1:aq->Option aq}(cX:∀(bQ:aq),k1 bQ=some r->Ax Γ N f90 (.q [[some (115,5)]] (D.fr 115 5 (r.map aQ.c))) [1,1,1] ⟨[(5,D.acc 0)],[Ob.row .uq 115 5 (bQ.map aQ.c)]⟩):∀(n1:Nat) (b8:Int) (bu:aq),jU aB k1 n1 b8 bu=some r->Ar Γ N f90 (.q [[some (115,5)]] (D.fr 115 5 (r.map aQ.c))) [1,1,0,0] n1 (Dl aB b8 (bu.map aQ.c)):=by
 intro n
 induction n with
 |zero=>intro b8 bu h;simp[jU]at h
 |succ n1 ih1=>
  intro b8 bu h;rw[jU]at h;refine aO fun N1 bz bg=>?_
  obtain⟨y28,h29,h⟩:=aD h;obtain⟨h30,h⟩|⟨h30,h⟩:=aM h
  ·obtain⟨x31,h32,h⟩:=aD h;obtain⟨FA,h34,h⟩:=aD h;obtain⟨h35,h⟩:=bV h;have dJ:=((((((aU.g (gI h29)).b h30).l (dl Node.c 8 h32 rfl)).g (qW h34)).w (cB h35)).l (dl Node.c 8 h32 rfl))
   obtain⟨h36,h⟩|⟨h36,h⟩:=aM h
   ·exact((dJ.b h36).a [.hl 0 [5] [4]]).exs hΓ bz ⟨[(5,D.acc 0)],[Ob.row .uq 115 5 (([[D.int .i64 FA.kind,D.str FA.pat.rel,D.sl (FA.pat.args.map tx),D.str FA.left,D.str FA.right]])++(bu.map aQ.c))]⟩ (by first| (simp only[mA]<;>rfl)| (simp only[mA,aE.c,aS.c,aQ.c,Action.c,aN.c,aI.c,cu.c,aP.c,Node.c,aF.c,cw.c]<;>rfl)) (cX (([FA])++bu) h)
   ·exact((dJ.b h36).a [.cn [1,2,5] [0,4]]).cs hΓ bg (Dl aB x31.parent (([[D.int .i64 FA.kind,D.str FA.pat.rel,D.sl (FA.pat.args.map tx),D.str FA.left,D.str FA.right]])++(bu.map aQ.c))) (by first| (simp only[mA]<;>rfl)| (simp only[mA,aE.c,aS.c,aQ.c,Action.c,aN.c,aI.c,cu.c,aP.c,Node.c,aF.c,cw.c]<;>rfl)) (ih1 x31.parent (([FA])++bu) h)
  ·exact(((aU.g (gI h29)).b h30).a [.hl 0 [5] [1]]).ex hΓ bz (cX bu h)
theorem Lr{aB:aF}{aW:Int}{r:aq}(h:xj aB aW=some r):Good prog 90 [D.agg (aF.c aB),D.int .i64 aW] (D.fr 115 5 (r.map aQ.c)):=by
 refine gd func90 [[some (115,5)]] 35 fun hr Γ hΓ=>?_
 rw[xj]at h;refine(aU.a [.cn [1,2,5] [0,1]]).lp hΓ (NG hΓ (fun bQ h=>?_) fuel aW ([]:aq) h);have h:=aG h;subst h;exact aU.ret hΓ
def um(aB:Bytes):Option Bool:=((ot aB).bind fun y1=>(some y1.2))
theorem AG{aB:Bytes}{r:Bool}(h:um aB=some r):Good prog 281 [D.str aB] (D.bool r):=by
 refine gd func281 [[none]] 11 fun hr Γ hΓ=>?_
 rw[um]at h;obtain⟨y1,h2,h⟩:=aD h;cases h;exact(aU.g (wi h2)).ret hΓ
def tY(aB:aQ)(aW:aT):Option Bool:=((sE aB).bind fun y1=>(bif !(y1)then(some false)else((lE aW).bind fun y4=>(bif !(y4)then(some false)else((qU aW aB.left).bind fun y7=>((qU aW aB.right).bind fun y9=>(bif !(y7.2)then(some false)else(bif !(y9.2)then(some false)else(bif (aB.kind:Int)==3 then(some ((y7.1:Bytes)==y9.1))else(bif (aB.kind:Int)==4 then(some (!((y7.1:Bytes)==y9.1)))else((um y7.1).bind fun y15=>(bif y15 then((um y9.1).bind fun y18=>(bif y18 then((jj y7.1 y9.1).bind fun Ri=>(some (decide ((Ri:Int)<0))))else(some false)))else(some false)))))))))))))
theorem G3{aB:aQ}{aW:aT}{r:Bool}(h:tY aB aW=some r):Good prog 270 [D.agg (aQ.c aB),D.sl (aW.map aS.c)] (D.bool r):=by
 refine gd func270 [[none]] 61 fun hr Γ hΓ=>?_
 rw[tY]at h;obtain⟨y1,h2,h⟩:=aD h;obtain⟨h3,h⟩|⟨h3,h⟩:=aM h
 ·have h:=aG h;subst h;exact(((aU.g (uF h2)).r 4 h3).T 1).ret hΓ
 ·obtain⟨y4,h5,h⟩:=aD h;have kF:=((((aU.g (uF h2)).r 2 h3).g (n7 h5)).r 2 h3)
  obtain⟨h6,h⟩|⟨h6,h⟩:=aM h
  ·have h:=aG h;subst h;exact(kF.b h6).ret hΓ
  ·obtain⟨y7,h8,h⟩:=aD h;obtain⟨y9,h10,h⟩:=aD h;have dJ:=(((kF.b h6).g (xS h8)).g (xS h10))
   obtain⟨h11,h⟩|⟨h11,h⟩:=aM h
   ·have h:=aG h;subst h;exact((dJ.r 3 h11).T 1).ret hΓ
   ·have jb:=(dJ.r 3 h11)
    obtain⟨h12,h⟩|⟨h12,h⟩:=aM h
    ·have h:=aG h;subst h;exact(jb.b h12).ret hΓ
    ·obtain⟨h13,h⟩|⟨h13,h⟩:=aM h
     ·cases h;exact((jb.b h12).b h13).ret hΓ
     ·have ia:=((jb.b h12).b h13)
      obtain⟨h14,h⟩|⟨h14,h⟩:=aM h
      ·cases h;exact(ia.b h14).ret hΓ
      ·obtain⟨y15,h16,h⟩:=aD h;have tq:=((ia.b h14).g (AG h16))
       obtain⟨h17,h⟩|⟨h17,h⟩:=aM h
       ·obtain⟨y18,h19,h⟩:=aD h;have wm:=(((tq.r 2 h17).g (AG h19)).b h17)
        obtain⟨h20,h⟩|⟨h20,h⟩:=aM h
        ·obtain⟨Ri,h22,h⟩:=aD h;cases h;exact(((wm.r 3 h20).g (xg h22)).r 2 h20).ret hΓ
        ·have h:=aG h;subst h;exact(wm.r 5 h20).ret hΓ
       ·have h:=aG h;subst h;exact((tq.r 3 h17).F 5).ret hΓ
def tX(aB:aQ)(aW:aT)(cY:aL):Option Bool:=((sC aB).bind fun y1=>(bif !(y1)then(some false)else((lE aW).bind fun y4=>(bif !(y4)then(some false)else(bif (aB.kind:Int)==1 then((gX aB.pat aW cY).bind fun y8=>(some (decide ((((y8.map aE.c).length:Int):Int)>0))))else(bif (aB.kind:Int)==2 then((gX aB.pat aW cY).bind fun WG=>(some ((((WG.map aE.c).length:Int):Int)==0)))else((tY aB aW).bind fun vz=>(some vz))))))))
theorem G2{aB:aQ}{aW:aT}{cY:aL}{r:Bool}(h:tX aB aW cY=some r):Good prog 229 [D.agg (aQ.c aB),D.sl (aW.map aS.c),D.sl (cY.map aE.c)] (D.bool r):=by
 refine gd func229 [[none]] 38 fun hr Γ hΓ=>?_
 rw[tX]at h;obtain⟨y1,h2,h⟩:=aD h;obtain⟨h3,h⟩|⟨h3,h⟩:=aM h
 ·have h:=aG h;subst h;exact(((aU.g (qT h2)).r 4 h3).T 1).ret hΓ
 ·obtain⟨y4,h5,h⟩:=aD h;have kF:=((((aU.g (qT h2)).r 2 h3).g (n7 h5)).r 2 h3)
  obtain⟨h6,h⟩|⟨h6,h⟩:=aM h
  ·have h:=aG h;subst h;exact(kF.b h6).ret hΓ
  ·obtain⟨h7,h⟩|⟨h7,h⟩:=aM h
   ·obtain⟨y8,h9,h⟩:=aD h;cases h;exact(((kF.b h6).b h7).g (gY h9)).ret hΓ
   ·have dJ:=((kF.b h6).b h7)
    obtain⟨h10,h⟩|⟨h10,h⟩:=aM h
    ·obtain⟨WG,h12,h⟩:=aD h;cases h;exact((dJ.b h10).g (gY h12)).ret hΓ
    ·obtain⟨vz,h14,h⟩:=aD h;have h:=aG h;subst h;exact((dJ.b h10).g (G3 h14)).ret hΓ
def nh(aB:ah)(aW:aQ)(cY:aL)(i1:Nat)(bD:aI)(k2:ah->Option ah):aL->Nat->ah->Option ah
 | [],i2,kE=>(k2 kE)
 |lV::wu,i2,kE=>((jT aW.pat lV bD.bind).bind fun a0i=>(bif a0i.2 then((dW bD.facts).bind fun a0j=>((fA lV).bind fun UQ=>(bif room ((a0j.map aE.c).length+([[D.str UQ.rel,D.sl (UQ.args.map tx)]]).length) 40 then(bif room ((kE.map aI.c).length+([[D.sl ((a0j.map aE.c)++([[D.str UQ.rel,D.sl (UQ.args.map tx)]])),D.sl (a0i.1.map aS.c)]]).length) 48 then(nh aB aW cY i1 bD k2 wu (i2+1) (kE++([(⟨a0j++([UQ]),a0i.1⟩:aI)])))else none)else none)))else(nh aB aW cY i1 bD k2 wu (i2+1) kE)))
def hO(aB:ah)(aW:aQ)(cY:aL)(k1:ah->Option ah):ah->Nat->ah->Option ah
 | [],i1,bu=>(k1 bu)
 |bD::bZ,i1,bu=>(bif (aW.kind:Int) != 1 then((tX aW bD.bind cY).bind fun aBe=>(bif aBe then((sI bD).bind fun Y7=>(bif room ((bu.map aI.c).length+([[D.sl (Y7.facts.map aE.c),D.sl (Y7.bind.map aS.c)]]).length) 48 then(hO aB aW cY k1 bZ (i1+1) (bu++([Y7])))else none))else(hO aB aW cY k1 bZ (i1+1) bu)))else(bif decide (cY.length<=maxLen)then(nh aB aW cY i1 bD (fun(zD:ah)=>(hO aB aW cY k1 bZ (i1+1) zD)) cY 0 bu)else none))
def sJ(aB:ah)(aW:aQ)(cY:aL):Option ah:=(hO aB aW cY (fun(bQ:ah)=>(some bQ)) aB 0 ([]:ah))
def Dp(aB:ah)(aW:aQ)(cY:aL)(W0:List aR)(cT:Int):St:=⟨[(0,D.sl (aB.map aI.c)),(2,D.sl (cY.map aE.c)),(4,D.ptr 0 0),(7,D.acc 1),(8,D.int .i64 cT)],[Ob.box (aQ.c aW),Ob.row .uq 124 2 W0]⟩
def Dq(aB:ah)(aW:aQ)(cY:aL)(i1:Nat)(W0:List aR)(cT:Int):St:=⟨[(0,D.sl (aB.map aI.c)),(2,D.sl (cY.map aE.c)),(4,D.ptr 0 0),(7,D.acc 1),(8,D.int .i64 (i1:Int)),(9,D.int .i64 cT)],[Ob.box (aQ.c aW),Ob.row .uq 124 2 W0]⟩
theorem NP(hΓ:Γ.nt=79){aB:ah}{aW:aQ}{cY:aL}{i1:Nat}{bD:aI}{r:ah}{k2:ah->Option ah}(Cn:∀(zD:ah),k2 zD=some r->Ax Γ N f154 (.q [[some (124,2)]] (D.fr 124 2 (r.map aI.c))) [1,1,0,1,0,0,1,1] ⟨[(0,D.sl (aB.map aI.c)),(2,D.sl (cY.map aE.c)),(4,D.ptr 0 0),(7,D.acc 1),(8,D.int .i64 (i1:Int))],[Ob.box (aQ.c aW),Ob.row .uq 124 2 (zD.map aI.c)]⟩)(hx1:(aB)[i1]?=some bD)(hm2:cY.length<=maxLen):∀(rest:aL) (i2:Nat) (kE:ah),cY.drop i2=rest->nh aB aW cY i1 bD k2 rest i2 kE=some r->Ar Γ N f154 (.q [[some (124,2)]] (D.fr 124 2 (r.map aI.c))) [1,1,0,1,0,0,1,0,0,1,1,0] (rest.length+1) (Dq aB aW cY i1 (kE.map aI.c) (i2:Int)):=by
 intro rest
 induction rest with
 |nil=>
  intro i2 kE hd2 h;rw[nh]at h;refine aO fun N2 xo uz=>?_
  exact((aU.ge aE.c hd2).a [.hl 3 [0,2,4,7,8] [0,1]]).ex hΓ xo (Cn kE h)
 |cons lV wu ih2=>
  intro i2 kE hd2 h;rw[nh]at h;refine aO fun N2 xo uz=>?_
  obtain⟨a0i,h652,h⟩:=aD h;have IC:=(((((aU.lt aE.c hd2).a [.n 16]).l (ax aE.c 2 (dc hd2) rfl)).l (ax aI.c 2 hx1 rfl)).g (qo h652))
  obtain⟨h653,h⟩|⟨h653,h⟩:=aM h
  ·obtain⟨a0j,h660,h⟩:=aD h;obtain⟨UQ,h662,h⟩:=aD h;obtain⟨h663,h⟩:=bV h;obtain⟨h664,h⟩:=bV h;exact(((((((((IC.b h653).a [.n2 [0,1,2,3,4,5,6,7,8,9,10,11,14,12,13,15,16,17,18] [0,1,2,3,4,5,6,7,8,9,10,11,13,14,12,15,16,17,18] 13 17 [0,12] [2,3,4,5,6]]).l (ax aI.c 2 hx1 rfl)).g (fK h660)).l (ax aE.c 2 (dc hd2) rfl)).g (gr h662)).w (cB h663)).w (cB h664)).a [.cn [0,2,4,7,8,9] [0,8]]).cs hΓ uz (Dq aB aW cY i1 ((kE.map aI.c)++([[D.sl ((a0j.map aE.c)++([[D.str UQ.rel,D.sl (UQ.args.map tx)]])),D.sl (a0i.1.map aS.c)]])) (IntKind.i64.wrap ((i2:Int)+1))) (by first| (simp only[iS hd2 hm2,mA]<;>rfl)| (simp only[iS hd2 hm2,mA,aE.c,aS.c,aQ.c,Action.c,aN.c,aI.c,cu.c,aP.c,Node.c,aF.c,cw.c]<;>rfl)) (ih2 (i2+1) (kE++([(⟨a0j++([UQ]),a0i.1⟩:aI)])) (dn hd2) h)
  ·exact((IC.b h653).a [.cn [0,2,4,7,8,9] [0,1]]).ct hΓ uz (iS hd2 hm2) (ih2 (i2+1) kE (dn hd2) h)
theorem NO(hΓ:Γ.nt=79){aB:ah}{aW:aQ}{cY:aL}{r:ah}{k1:ah->Option ah}(cX:∀(bQ:ah),k1 bQ=some r->Ax Γ N f154 (.q [[some (124,2)]] (D.fr 124 2 (r.map aI.c))) [1,1,1] ⟨[(7,D.acc 0)],[Ob.row .uq 124 2 (bQ.map aI.c)]⟩)(hm1:aB.length<=maxLen):∀(rest:ah) (i1:Nat) (bu:ah),aB.drop i1=rest->hO aB aW cY k1 rest i1 bu=some r->Ar Γ N f154 (.q [[some (124,2)]] (D.fr 124 2 (r.map aI.c))) [1,1,0,1,0] (rest.length+1) (Dp aB aW cY (bu.map aI.c) (i1:Int)):=by
 intro rest
 induction rest with
 |nil=>
  intro i1 bu aj h;rw[hO]at h;refine aO fun N1 bz bg=>?_
  exact((aU.ge aI.c aj).a [.hl 0 [7] [1]]).ex hΓ bz (cX bu h)
 |cons bD bZ ih1=>
  intro i1 bu aj h;rw[hO]at h;refine aO fun N1 bz bg=>?_
  obtain⟨h563,h⟩|⟨h563,h⟩:=aM h
  ·obtain⟨aBe,h565,h⟩:=aD h;have ID:=(((((aU.lt aI.c aj).b h563).a [.n 7]).l (ax aI.c 2 (dc aj) rfl)).g (G2 h565))
   obtain⟨h566,h⟩|⟨h566,h⟩:=aM h
   ·obtain⟨Y7,h568,h⟩:=aD h;obtain⟨h569,h⟩:=bV h;exact(((((ID.b h566).l (ax aI.c 2 (dc aj) rfl)).g (C8 h568)).w (cB h569)).a [.cn [0,2,4,7,8] [0,5]]).cs hΓ bg (Dp aB aW cY ((bu.map aI.c)++([[D.sl (Y7.facts.map aE.c),D.sl (Y7.bind.map aS.c)]])) (IntKind.i64.wrap ((i1:Int)+1))) (by first| (simp only[iS aj hm1,mA]<;>rfl)| (simp only[iS aj hm1,mA,aE.c,aS.c,aQ.c,Action.c,aN.c,aI.c,cu.c,aP.c,Node.c,aF.c,cw.c]<;>rfl)) (ih1 (i1+1) (bu++([Y7])) (dn aj) h)
   ·exact((ID.b h566).a [.cn [0,2,4,7,8] [0,1]]).ct hΓ bg (iS aj hm1) (ih1 (i1+1) bu (dn aj) h)
  ·obtain⟨h665,h⟩:=bV h;refine(((aU.lt aI.c aj).b h563).a [.cn [0,2,4,7,8,9] [0,1]]).lp hΓ (NP hΓ (fun zD h=>?_) ((drop_cons aj).1) (bt h665) cY 0 bu rfl h);exact(aU.a [.cn [0,2,4,7,8] [0,1]]).ct hΓ bg (iS aj hm1) (ih1 (i1+1) zD (dn aj) h)
theorem uH{aB:ah}{aW:aQ}{cY:aL}{r:ah}(h:sJ aB aW cY=some r):Good prog 154 [D.sl (aB.map aI.c),D.agg (aQ.c aW),D.sl (cY.map aE.c)] (D.fr 124 2 (r.map aI.c)):=by
 refine gd func154 [[some (124,2)]] 79 fun hr Γ hΓ=>?_
 rw[sJ]at h;refine(aU.a [.cn [0,2,4,7,8] [0,1]]).lp hΓ (NO hΓ (fun bQ h=>?_) (by have:=(dY.sl (hr _ (aC (i:=0) rfl))).1;simpa using this) aB 0 ([]:ah) rfl h);have h:=aG h;subst h;exact aU.ret hΓ
def kf(aB:aq)(aW:aL)(k1:ah->Option ah):aq->Nat->ah->Option ah
 | [],i1,bC=>(k1 bC)
 |bD::bZ,i1,bC=>((sJ bC bD aW).bind fun lT=>(kf aB aW k1 bZ (i1+1) lT))
def ux(aB:aq)(aW:aL):Option ah:=(kf aB aW (fun(bQ:ah)=>(some bQ)) aB 0 ([(⟨[],[]⟩:aI)]))
def C9(aB:aq)(aW:aL)(W0:List aR)(cT:Int):St:=⟨[(0,D.sl (aB.map aQ.c)),(1,D.sl (aW.map aE.c)),(5,D.acc 0),(6,D.int .i64 cT)],[Ob.row .uq 124 2 W0]⟩
theorem K3(hΓ:Γ.nt=23){aB:aq}{aW:aL}{r:ah}{k1:ah->Option ah}(cX:∀(bQ:ah),k1 bQ=some r->Ax Γ N f89 (.q [[some (124,2)]] (D.fr 124 2 (r.map aI.c))) [1,1,1] ⟨[(5,D.acc 0)],[Ob.row .uq 124 2 (bQ.map aI.c)]⟩)(hm1:aB.length<=maxLen):∀(rest:aq) (i1:Nat) (bC:ah),aB.drop i1=rest->kf aB aW k1 rest i1 bC=some r->Ar Γ N f89 (.q [[some (124,2)]] (D.fr 124 2 (r.map aI.c))) [1,1,0,1,0] (rest.length+1) (C9 aB aW (bC.map aI.c) (i1:Int)):=by
 intro rest
 induction rest with
 |nil=>
  intro i1 bC aj h;rw[kf]at h;refine aO fun N1 bz bg=>?_
  exact((aU.ge aQ.c aj).a [.hl 0 [5] [0]]).ex hΓ bz (cX bC h)
 |cons bD bZ ih1=>
  intro i1 bC aj h;rw[kf]at h;refine aO fun N1 bz bg=>?_
  obtain⟨lT,h23,h⟩:=aD h;exact((((aU.lt aQ.c aj).l (ax aQ.c 5 (dc aj) rfl)).g (uH h23)).a [.cn [0,1,5,6] [1]]).ct hΓ bg (iS aj hm1) (ih1 (i1+1) lT (dn aj) h)
theorem Hq{aB:aq}{aW:aL}{r:ah}(h:ux aB aW=some r):Good prog 89 [D.sl (aB.map aQ.c),D.sl (aW.map aE.c)] (D.fr 124 2 (r.map aI.c)):=by
 refine gd func89 [[some (124,2)]] 23 fun hr Γ hΓ=>?_
 rw[ux]at h;refine(aU.a [.cn [0,1,5,6] [0]]).XI hΓ (C9 aB aW ([[D.sl ([]),D.sl ([])]]) 0) (by first| (simp only[mA]<;>rfl)| (simp only[mA,aE.c,aS.c,aQ.c,Action.c,aN.c,aI.c,cu.c,aP.c,Node.c,aF.c,cw.c]<;>rfl)) (K3 hΓ (fun bQ h=>?_) (by have:=(dY.sl (hr _ (aC (i:=0) rfl))).1;simpa using this) aB 0 ([(⟨[],[]⟩:aI)]) rfl h);have h:=aG h;subst h;exact aU.ret hΓ
def gJ(aB:aT)(aW:aT)(k1:Option Bool):aT->Nat->Option Bool
 | [],i1=>(k1)
 |bD::bZ,i1=>((mK aW (i1:Int)).bind fun x22=>(bif !((bD.var:Bytes)==x22.var&&(bD.value:Bytes)==x22.value)then(some false)else(gJ aB aW k1 bZ (i1+1))))
def lM(aB:aT)(aW:aT):Option Bool:=(bif (((aB.map aS.c).length:Int):Int) != ((aW.map aS.c).length:Int)then(some false)else(gJ aB aW (some true) aB 0))
def Dr(aB:aT)(aW:aT)(cT:Int):St:=⟨[(0,D.sl (aB.map aS.c)),(1,D.sl (aW.map aS.c)),(5,D.int .i64 cT)],[]⟩
theorem D6(hΓ:Γ.nt=26){aB:aT}{aW:aT}{r:Bool}{k1:Option Bool}(cX:k1=some r->Ax Γ N f153 (.q [[none]] (D.bool r)) [1,1,1] ⟨[],[]⟩)(hm1:aB.length<=maxLen):∀(rest:aT) (i1:Nat),aB.drop i1=rest->gJ aB aW k1 rest i1=some r->Ar Γ N f153 (.q [[none]] (D.bool r)) [1,1,0,1,0] (rest.length+1) (Dr aB aW (i1:Int)):=by
 intro rest
 induction rest with
 |nil=>
  intro i1 aj h;rw[gJ]at h;refine aO fun N1 bz bg=>?_
  exact((aU.ge aS.c aj).a [.hl 0 [] []]).ex hΓ bz (cX h)
 |cons bD bZ ih1=>
  intro i1 aj h;rw[gJ]at h;refine aO fun N1 bz bg=>?_
  obtain⟨x22,h23,h⟩:=aD h;have dJ:=((((aU.lt aS.c aj).a [.n 8]).l (ax aS.c 2 (dc aj) rfl)).l (dl aS.c 2 h23 rfl))
  obtain⟨h24,h⟩|⟨h24,h⟩:=aM h
  ·have h:=aG h;subst h;exact(dJ.b h24).ret hΓ
  ·exact((dJ.b h24).a [.cn [0,1,5] []]).ct hΓ bg (iS aj hm1) (ih1 (i1+1) (dn aj) h)
theorem Cb{aB:aT}{aW:aT}{r:Bool}(h:lM aB aW=some r):Good prog 153 [D.sl (aB.map aS.c),D.sl (aW.map aS.c)] (D.bool r):=by
 refine gd func153 [[none]] 26 fun hr Γ hΓ=>?_
 rw[lM]at h;obtain⟨h1,h⟩|⟨h1,h⟩:=aM h
 ·have h:=aG h;subst h;exact(aU.b h1).ret hΓ
 ·refine((aU.b h1).a [.cn [0,1,5] []]).lp hΓ (D6 hΓ (fun h=>?_) (by have:=(dY.sl (hr _ (aC (i:=0) rfl))).1;simpa using this) aB 0 rfl h);have h:=aG h;subst h;exact aU.ret hΓ
def gu(aB:ah)(aW:ah)(k1:Option Bool):ah->Nat->Option Bool
 | [],i1=>(k1)
 |bD::bZ,i1=>((mK aW (i1:Int)).bind fun x42=>((nW bD.facts x42.facts).bind fun y44=>(bif !(y44)then(some false)else((lM bD.bind x42.bind).bind fun y47=>(bif !(y47)then(some false)else(gu aB aW k1 bZ (i1+1)))))))
def pH(aB:ah)(aW:ah):Option Bool:=(bif (((aB.map aI.c).length:Int):Int) != ((aW.map aI.c).length:Int)then(some false)else(gu aB aW (some true) aB 0))
def Eu(aB:ah)(aW:ah)(cT:Int):St:=⟨[(0,D.sl (aB.map aI.c)),(1,D.sl (aW.map aI.c)),(5,D.int .i64 cT)],[]⟩
theorem Dv(hΓ:Γ.nt=43){aB:ah}{aW:ah}{r:Bool}{k1:Option Bool}(cX:k1=some r->Ax Γ N f88 (.q [[none]] (D.bool r)) [1,1,1] ⟨[],[]⟩)(hm1:aB.length<=maxLen):∀(rest:ah) (i1:Nat),aB.drop i1=rest->gu aB aW k1 rest i1=some r->Ar Γ N f88 (.q [[none]] (D.bool r)) [1,1,0,1,0] (rest.length+1) (Eu aB aW (i1:Int)):=by
 intro rest
 induction rest with
 |nil=>
  intro i1 aj h;rw[gu]at h;refine aO fun N1 bz bg=>?_
  exact((aU.ge aI.c aj).a [.hl 0 [] []]).ex hΓ bz (cX h)
 |cons bD bZ ih1=>
  intro i1 aj h;rw[gu]at h;refine aO fun N1 bz bg=>?_
  obtain⟨x42,h43,h⟩:=aD h;obtain⟨y44,h45,h⟩:=aD h;have jb:=(((((aU.lt aI.c aj).a [.n 23]).l (ax aI.c 2 (dc aj) rfl)).l (dl aI.c 2 h43 rfl)).g (zX h45))
  obtain⟨h46,h⟩|⟨h46,h⟩:=aM h
  ·have h:=aG h;subst h;exact((jb.r 13 h46).T 1).ret hΓ
  ·obtain⟨y47,h48,h⟩:=aD h;have ia:=(((((((jb.r 3 h46).l (ax aI.c 2 (dc aj) rfl)).r 5 h46).l (dl aI.c 2 h43 rfl)).r 3 h46).g (Cb h48)).r 2 h46)
   obtain⟨h49,h⟩|⟨h49,h⟩:=aM h
   ·have h:=aG h;subst h;exact(ia.b h49).ret hΓ
   ·exact((ia.b h49).a [.cn [0,1,5] []]).ct hΓ bg (iS aj hm1) (ih1 (i1+1) (dn aj) h)
theorem D8{aB:ah}{aW:ah}{r:Bool}(h:pH aB aW=some r):Good prog 88 [D.sl (aB.map aI.c),D.sl (aW.map aI.c)] (D.bool r):=by
 refine gd func88 [[none]] 43 fun hr Γ hΓ=>?_
 rw[pH]at h;obtain⟨h1,h⟩|⟨h1,h⟩:=aM h
 ·have h:=aG h;subst h;exact(aU.b h1).ret hΓ
 ·refine((aU.b h1).a [.cn [0,1,5] []]).lp hΓ (Dv hΓ (fun h=>?_) (by have:=(dY.sl (hr _ (aC (i:=0) rfl))).1;simpa using this) aB 0 rfl h);have h:=aG h;subst h;exact aU.ret hΓ
def jm(aB:aF)(k1:Option Bool):b7->Nat->Option Bool
 | [],i1=>(k1)
 |bD::bZ,i1=>((gX bD.shape ([]) aB.facts).bind fun O9=>((nW bD.facts O9).bind fun vX=>(bif !(vX)then(some false)else(jm aB k1 bZ (i1+1)))))
def jo(aB:aF)(k2:Option Bool):ay->Nat->Option Bool
 | [],i2=>(k2)
 |lV::wu,i2=>((xj aB (i2:Int)).bind fun Y1=>((ux Y1 aB.facts).bind fun aBT=>((pH lV.tokens aBT).bind fun aBU=>(bif !(aBU)then(some false)else(jo aB k2 wu (i2+1))))))
def qG(aB:aF):Option Bool:=((jk aB.rules).bind fun y1=>(bif !(y1.2)then(some false)else((rD aB.facts).bind fun y4=>(bif !(y4)then(some false)else((rU aB y1.1).bind fun y7=>(bif !(y7)then(some false)else(bif decide ((aB.bw:Int)<0)then(some false)else(jm aB (jo aB (some true) aB.nodes 0) aB.av 0))))))))
def Jn(aB:aF)(cT:Int):St:=⟨[(1,D.ptr 0 0),(5,D.int .i64 cT)],[Ob.box (aF.c aB)]⟩
theorem HZ(hΓ:Γ.nt=77){aB:aF}{r:Bool}{k1:Option Bool}(cX:k1=some r->Ax Γ N f38 (.q [[none]] (D.bool r)) [1,1,1,1] ⟨[(1,D.ptr 0 0)],[Ob.box (aF.c aB)]⟩)(hm1:aB.av.length<=maxLen):∀(rest:b7) (i1:Nat),aB.av.drop i1=rest->jm aB k1 rest i1=some r->Ar Γ N f38 (.q [[none]] (D.bool r)) [1,1,1,0,1,0] (rest.length+1) (Jn aB (i1:Int)):=by
 intro rest
 induction rest with
 |nil=>
  intro i1 aj h;rw[jm]at h;refine aO fun N1 bz bg=>?_
  exact((aU.ge aP.c aj).a [.hl 0 [1] [0]]).ex hΓ bz (cX h)
 |cons bD bZ ih1=>
  intro i1 aj h;rw[jm]at h;refine aO fun N1 bz bg=>?_
  obtain⟨O9,h40,h⟩:=aD h;obtain⟨vX,h42,h⟩:=aD h;have jb:=(((((((aU.lt aP.c aj).a [.n 15]).l (ax aP.c 3 (dc aj) rfl)).l (ax aP.c 3 (dc aj) rfl)).a [.d (D.fr 53 2 (O9.map aE.c))]).w (show Good prog 87 [D.agg (aE.c bD.shape),D.sl ([]),D.sl (aB.facts.map aE.c)] (D.fr 53 2 (O9.map aE.c))from by first| (simpa only[bN,bG,bW,dB,cm]using gY h40)|exact gY h40)).g (zX h42))
  obtain⟨h43,h⟩|⟨h43,h⟩:=aM h
  ·have h:=aG h;subst h;exact(jb.b h43).ret hΓ
  ·exact((jb.b h43).a [.cn [1,5] [0]]).ct hΓ bg (iS aj hm1) (ih1 (i1+1) (dn aj) h)
def Jo(aB:aF)(cT:Int):St:=⟨[(1,D.ptr 0 0),(6,D.int .i64 cT)],[Ob.box (aF.c aB)]⟩
theorem He(hΓ:Γ.nt=77){aB:aF}{r:Bool}{k2:Option Bool}(Cn:k2=some r->Ax Γ N f38 (.q [[none]] (D.bool r)) [1,1,1,1,1] ⟨[],[]⟩)(hm2:aB.nodes.length<=maxLen):∀(rest:ay) (i2:Nat),aB.nodes.drop i2=rest->jo aB k2 rest i2=some r->Ar Γ N f38 (.q [[none]] (D.bool r)) [1,1,1,1,0,1,0] (rest.length+1) (Jo aB (i2:Int)):=by
 intro rest
 induction rest with
 |nil=>
  intro i2 hd2 h;rw[jo]at h;refine aO fun N2 xo uz=>?_
  exact((aU.ge Node.c hd2).a [.hl 0 [] []]).ex hΓ xo (Cn h)
 |cons lV wu ih2=>
  intro i2 hd2 h;rw[jo]at h;refine aO fun N2 xo uz=>?_
  obtain⟨Y1,h105,h⟩:=aD h;obtain⟨aBT,h107,h⟩:=aD h;obtain⟨aBU,h109,h⟩:=aD h;have ia:=((((((aU.lt Node.c hd2).a [.n2 [0,1,2,3,4,5,6,7,8,9,10,11,12,13] [0,1,2,3,4,5,6,7,8,9,10,11,12,13] 11 12 [0,1,2,3,4,5] []]).l (ax Node.c 8 (dc hd2) rfl)).g (Lr h105)).g (Hq h107)).g (D8 h109))
  obtain⟨h110,h⟩|⟨h110,h⟩:=aM h
  ·have h:=aG h;subst h;exact(ia.b h110).ret hΓ
  ·exact((ia.b h110).a [.cn [1,6] [0]]).ct hΓ uz (iS hd2 hm2) (ih2 (i2+1) (dn hd2) h)
theorem vo{aB:aF}{r:Bool}(h:qG aB=some r):Good prog 38 [D.agg (aF.c aB)] (D.bool r):=by
 refine gd func38 [[none]] 77 fun hr Γ hΓ=>?_
 rw[qG]at h;obtain⟨y1,h2,h⟩:=aD h;obtain⟨h3,h⟩|⟨h3,h⟩:=aM h
 ·have h:=aG h;subst h;exact(((aU.g (sB h2)).r 5 h3).T 10).ret hΓ
 ·obtain⟨y4,h5,h⟩:=aD h;have tq:=((((aU.g (sB h2)).r 3 h3).g (wh h5)).r 2 h3)
  obtain⟨h6,h⟩|⟨h6,h⟩:=aM h
  ·have h:=aG h;subst h;exact((tq.r 5 h6).T 5).ret hΓ
  ·obtain⟨y7,h8,h⟩:=aD h;have wm:=(((tq.r 3 h6).g (Et h8)).r 2 h6)
   obtain⟨h9,h⟩|⟨h9,h⟩:=aM h
   ·have h:=aG h;subst h;exact((wm.r 4 h9).T 1).ret hΓ
   ·have AR:=(wm.r 4 h9)
    obtain⟨h10,h⟩|⟨h10,h⟩:=aM h
    ·have h:=aG h;subst h;exact(AR.b h10).ret hΓ
    ·refine((AR.b h10).a [.cn [1,5] [0]]).lp hΓ (HZ hΓ (fun h=>?_) (by have:=(dY.sl (dY.agg (hr _ (aC (i:=0) rfl)) (.sl (aB.av.map aP.c)) (by simp))).1;simpa using this) aB.av 0 rfl h);refine(aU.a [.cn [1,6] [0]]).lp hΓ (He hΓ (fun h=>?_) (by have:=(dY.sl (dY.agg (hr _ (aC (i:=0) rfl)) (.sl (aB.nodes.map Node.c)) (by simp))).1;simpa using this) aB.nodes 0 rfl h);have h:=aG h;subst h;exact aU.ret hΓ
def iY(aB:aI)(aW:aI)(k1:Option Int):aL->Nat->Option Int
 | [],i1=>(k1)
 |bD::bZ,i1=>(bif decide (((i1:Int):Int)<((aW.facts.map aE.c).length:Int))then((mK aW.facts (i1:Int)).bind fun x34=>((ez bD x34).bind fun FB=>(bif (FB:Int) != 0 then(some FB)else(iY aB aW k1 bZ (i1+1)))))else(k1))
def o9(aB:aI)(aW:aI):Option Int:=(iY aB aW (bif decide ((((aB.facts.map aE.c).length:Int):Int)<((aW.facts.map aE.c).length:Int))then(some (-1))else(bif decide ((((aB.facts.map aE.c).length:Int):Int)>((aW.facts.map aE.c).length:Int))then(some 1)else(some 0))) aB.facts 0)
def Dg(aB:aI)(aW:aI)(cT:Int):St:=⟨[(2,D.ptr 0 0),(3,D.ptr 1 0),(5,D.int .i64 cT)],[Ob.box (aI.c aB),Ob.box (aI.c aW)]⟩
theorem D4(hΓ:Γ.nt=51){aB:aI}{aW:aI}{r:Int}{k1:Option Int}(cX:k1=some r->Ax Γ N f236 (.q [[none]] (D.int .i64 r)) [1,1] ⟨[(2,D.ptr 0 0),(3,D.ptr 1 0)],[Ob.box (aI.c aB),Ob.box (aI.c aW)]⟩)(hm1:aB.facts.length<=maxLen):∀(rest:aL) (i1:Nat),aB.facts.drop i1=rest->iY aB aW k1 rest i1=some r->Ar Γ N f236 (.q [[none]] (D.int .i64 r)) [1,0,1,0] (rest.length+1) (Dg aB aW (i1:Int)):=by
 intro rest
 induction rest with
 |nil=>
  intro i1 aj h;rw[iY]at h;refine aO fun N1 bz bg=>?_
  exact((((((((aU.ge aE.c aj).ge aE.c aj).ge aE.c aj).ge aE.c aj).ge aE.c aj).ge aE.c aj).F 1).a [.hl 0 [2,3] [0,1]]).ex hΓ bz (cX h)
 |cons bD bZ ih1=>
  intro i1 aj h;rw[iY]at h;refine aO fun N1 bz bg=>?_
  have jb:=((((((aU.lt aE.c aj).lt aE.c aj).lt aE.c aj).lt aE.c aj).lt aE.c aj).lt aE.c aj)
  obtain⟨h33,h⟩|⟨h33,h⟩:=aM h
  ·obtain⟨x34,h35,h⟩:=aD h;obtain⟨FB,h37,h⟩:=aD h;have ia:=(((((jb.b h33).a [.n 10]).l (ax aE.c 2 (dc aj) rfl)).l (dl aE.c 2 h35 rfl)).g (ny h37))
   obtain⟨h38,h⟩|⟨h38,h⟩:=aM h
   ·have h:=aG h;subst h;exact(ia.b h38).ret hΓ
   ·exact((ia.b h38).a [.cn [2,3,5] [0,1]]).ct hΓ bg (iS aj hm1) (ih1 (i1+1) (dn aj) h)
  ·exact((jb.b h33).a [.hl 0 [2,3] [0,1]]).ex hΓ bz (cX h)
theorem Ca{aB:aI}{aW:aI}{r:Int}(h:o9 aB aW=some r):Good prog 236 [D.agg (aI.c aB),D.agg (aI.c aW)] (D.int .i64 r):=by
 refine gd func236 [[none]] 51 fun hr Γ hΓ=>?_
 rw[o9]at h;refine(aU.a [.cn [2,3,5] [0,1]]).lp hΓ (D4 hΓ (fun h=>?_) (by have:=(dY.sl (dY.agg (hr _ (aC (i:=0) rfl)) (.sl (aB.facts.map aE.c)) (by simp))).1;simpa using this) aB.facts 0 rfl h);obtain⟨h39,h⟩|⟨h39,h⟩:=aM h
 ·cases h;exact(aU.b h39).ret hΓ
 ·obtain⟨h40,h⟩|⟨h40,h⟩:=aM h
  ·have h:=aG h;subst h;exact((aU.b h39).b h40).ret hΓ
  ·have h:=aG h;subst h;exact((aU.b h39).b h40).ret hΓ
def lP(aB:ah)(aW:ah)(i1:Nat)(bD:aI)(k2:Int->Option (Int×Int)):ah->Nat->Int->Option (Int×Int)
 | [],i2,tr=>(k2 tr)
 |lV::wu,i2,tr=>((o9 bD lV).bind fun aBX=>(bif (aBX:Int)==0 then(lP aB aW i1 bD k2 wu (i2+1) (IntKind.i64.wrap (tr+1)))else(lP aB aW i1 bD k2 wu (i2+1) tr)))
def nq(aB:ah)(aW:ah)(k1:Int->Option (Int×Int)):ah->Nat->Int->Option (Int×Int)
 | [],i1,jy=>(k1 jy)
 |bD::bZ,i1,jy=>(bif decide (aW.length<=maxLen)then(lP aB aW i1 bD (fun(BZ:Int)=>(nq aB aW k1 bZ (i1+1) BZ)) aW 0 jy)else none)
def xm(aB:ah)(aW:ah):Option (Int×Int):=(nq aB aW (fun(zk:Int)=>(some (zk,IntKind.i64.wrap (((aB.map aI.c).length:Int)-zk)))) aB 0 0)
def Of(aB:ah)(aW:ah)(jy:Int)(cT:Int):St:=⟨[(0,D.sl (aB.map aI.c)),(1,D.sl (aW.map aI.c)),(6,D.int .i64 jy),(7,D.int .i64 cT)],[]⟩
def Og(aB:ah)(aW:ah)(i1:Nat)(tr:Int)(cT:Int):St:=⟨[(0,D.sl (aB.map aI.c)),(1,D.sl (aW.map aI.c)),(6,D.int .i64 tr),(7,D.int .i64 (i1:Int)),(8,D.int .i64 cT)],[]⟩
theorem NW(hΓ:Γ.nt=38){aB:ah}{aW:ah}{i1:Nat}{bD:aI}{r:Int×Int}{k2:Int->Option (Int×Int)}(Cn:∀(BZ:Int),k2 BZ=some r->Ax Γ N f167 (.q [[none],[none]] (D.gZ [D.int .i64 r.1,D.int .i64 r.2])) [1,1,0,1,0,0,1,1] ⟨[(0,D.sl (aB.map aI.c)),(1,D.sl (aW.map aI.c)),(6,D.int .i64 BZ),(7,D.int .i64 (i1:Int))],[]⟩)(hx1:(aB)[i1]?=some bD)(hm2:aW.length<=maxLen):∀(rest:ah) (i2:Nat) (tr:Int),aW.drop i2=rest->lP aB aW i1 bD k2 rest i2 tr=some r->Ar Γ N f167 (.q [[none],[none]] (D.gZ [D.int .i64 r.1,D.int .i64 r.2])) [1,1,0,1,0,0,1,0,0,1,0] (rest.length+1) (Og aB aW i1 tr (i2:Int)):=by
 intro rest
 induction rest with
 |nil=>
  intro i2 tr hd2 h;rw[lP]at h;refine aO fun N2 xo uz=>?_
  exact((aU.ge aI.c hd2).a [.hl 3 [0,1,6,7] []]).ex hΓ xo (Cn tr h)
 |cons lV wu ih2=>
  intro i2 tr hd2 h;rw[lP]at h;refine aO fun N2 xo uz=>?_
  obtain⟨aBX,h177,h⟩:=aD h;have BU:=(((((aU.lt aI.c hd2).a [.n 8]).l (ax aI.c 2 hx1 rfl)).l (ax aI.c 2 (dc hd2) rfl)).g (Ca h177))
  obtain⟨h178,h⟩|⟨h178,h⟩:=aM h
  ·exact((BU.b h178).a [.cn [0,1,6,7,8] []]).ct hΓ uz (iS hd2 hm2) (ih2 (i2+1) (IntKind.i64.wrap (tr+1)) (dn hd2) h)
  ·exact((BU.b h178).a [.cn [0,1,6,7,8] []]).ct hΓ uz (iS hd2 hm2) (ih2 (i2+1) tr (dn hd2) h)
theorem NV(hΓ:Γ.nt=38){aB:ah}{aW:ah}{r:Int×Int}{k1:Int->Option (Int×Int)}(cX:∀(zk:Int),k1 zk=some r->Ax Γ N f167 (.q [[none],[none]] (D.gZ [D.int .i64 r.1,D.int .i64 r.2])) [1,1,1] ⟨[(0,D.sl (aB.map aI.c)),(6,D.int .i64 zk)],[]⟩)(hm1:aB.length<=maxLen):∀(rest:ah) (i1:Nat) (jy:Int),aB.drop i1=rest->nq aB aW k1 rest i1 jy=some r->Ar Γ N f167 (.q [[none],[none]] (D.gZ [D.int .i64 r.1,D.int .i64 r.2])) [1,1,0,1,0] (rest.length+1) (Of aB aW jy (i1:Int)):=by
 intro rest
 induction rest with
 |nil=>
  intro i1 jy aj h;rw[nq]at h;refine aO fun N1 bz bg=>?_
  exact((aU.ge aI.c aj).a [.hl 0 [0,6] []]).ex hΓ bz (cX jy h)
 |cons bD bZ ih1=>
  intro i1 jy aj h;rw[nq]at h;refine aO fun N1 bz bg=>?_
  obtain⟨h179,h⟩:=bV h;refine((aU.lt aI.c aj).a [.cn [0,1,6,7,8] []]).lp hΓ (NW hΓ (fun BZ h=>?_) ((drop_cons aj).1) (bt h179) aW 0 jy rfl h);exact(aU.a [.cn [0,1,6,7] []]).ct hΓ bg (iS aj hm1) (ih1 (i1+1) BZ (dn aj) h)
theorem M3{aB:ah}{aW:ah}{r:Int×Int}(h:xm aB aW=some r):Good prog 167 [D.sl (aB.map aI.c),D.sl (aW.map aI.c)] (D.gZ [D.int .i64 r.1,D.int .i64 r.2]):=by
 refine gd func167 [[none],[none]] 38 fun hr Γ hΓ=>?_
 rw[xm]at h;refine(aU.a [.cn [0,1,6,7] []]).lp hΓ (NV hΓ (fun zk h=>?_) (by have:=(dY.sl (hr _ (aC (i:=0) rfl))).1;simpa using this) aB 0 0 rfl h);cases h;exact aU.ret hΓ
def jD(aB:aF)(aW:aL)(cY:aE)(y1:aF)(y3:aL)(k1:List Bool->b7->Option aF):Nat->Int->List Bool->b7->Option aF
 |0,_,_,_=>none
 |n1+1,KB,mG,P7=>(bif decide ((KB:Int)<((P7.map aP.c).length:Int))then((mK P7 KB).bind fun x41=>((jT x41.shape cY ([])).bind fun Kb=>(bif room ((mG.map bx).length+([[D.bool Kb.2]]).length) 1 then((gX x41.shape ([]) aW).bind fun y46=>(jD aB aW cY y1 y3 k1 n1 (IntKind.i64.wrap (KB+1)) (mG++([Kb.2])) (P7.set KB.toNat (⟨x41.shape,y46⟩:aP))))else none)))else(k1 mG P7))
def ed(aB:aF)(y1:aF)(y3:aL)(fV:List Bool)(qc:b7)(k2:Int->ay->Option aF):Nat->Int->Int->ay->Option aF
 |0,_,_,_=>none
 |n2+1,rZ,vv,sL=>(bif decide ((rZ:Int)<((sL.map Node.c).length:Int))then((mK sL rZ).bind fun x106=>((mK sL x106.parent).bind fun x108=>((mK aB.nodes x106.parent).bind fun x110=>((xm x108.tokens x110.tokens).bind fun KE=>(bif decide ((x106.cP:Int)<0)then((sJ x108.tokens x106.cond ([])).bind fun UN=>(ed aB y1 y3 fV qc k2 n2 (IntKind.i64.wrap (rZ+1)) (IntKind.i64.wrap (vv+KE.2)) (sL.set rZ.toNat (⟨x106.parent,x106.cond,x106.cP,UN⟩:Node))))else((mK qc x106.cP).bind fun x117=>((sJ x108.tokens x106.cond x117.facts).bind fun Y3=>((mK fV x106.cP).bind fun x121=>(bif x121 then(ed aB y1 y3 fV qc k2 n2 (IntKind.i64.wrap (rZ+1)) (IntKind.i64.wrap ((IntKind.i64.wrap (vv+(IntKind.i64.wrap (KE.2*((x117.facts.map aE.c).length:Int)))))+KE.1)) (sL.set rZ.toNat (⟨x106.parent,x106.cond,x106.cP,Y3⟩:Node)))else(ed aB y1 y3 fV qc k2 n2 (IntKind.i64.wrap (rZ+1)) (IntKind.i64.wrap (vv+(IntKind.i64.wrap (KE.2*((x117.facts.map aE.c).length:Int))))) (sL.set rZ.toNat (⟨x106.parent,x106.cond,x106.cP,Y3⟩:Node))))))))))))else(k2 vv sL))
def uy(aB:aF)(aW:aL)(cY:aE):Option aF:=((pU aB).bind fun y1=>((dW aW).bind fun y3=>(jD aB aW cY y1 y3 (fun(fV:List Bool) (qc:b7)=>(ed aB y1 y3 fV qc (fun(oy:Int) (vr:ay)=>(some (⟨y1.rules,y1.ends,qc,vr,y3,oy⟩:aF))) fuel 1 y1.bw y1.nodes)) fuel 0 ([]:List Bool) y1.av)))
def CA(aB:aF)(aW:aL)(cY:aE)(y1:aF)(y3:aL)(KB:Int)(W1:List aR)(W2:List aR):St:=⟨[(1,D.sl (aW.map aE.c)),(3,D.ptr 0 0),(5,D.ptr 1 0),(6,D.ptr 2 0),(7,D.ptr 3 0),(8,D.acc 4),(9,D.int .i64 KB)],[Ob.box (aF.c aB),Ob.box (aE.c cY),Ob.box [D.nil,D.nil,D.nil,D.nil,D.nil,D.int .i64 0],Ob.box [D.acc 5,D.acc 6,D.acc 7,D.acc 8,D.acc 9,D.int .i64 y1.bw],Ob.row .uq 4 1 W1,Ob.row .uq 105 4 (y1.rules.map aN.c),Ob.row .uq 3 1 (y1.ends.map dL),Ob.row .uq 111 3 W2,Ob.row .uq 118 8 (y1.nodes.map Node.c),Ob.row .uq 53 2 (y3.map aE.c)]⟩
theorem K5(hΓ:Γ.nt=143){aB:aF}{aW:aL}{cY:aE}{y1:aF}{y3:aL}{r:aF}{k1:List Bool->b7->Option aF}(cX:∀(fV:List Bool) (qc:b7),k1 fV qc=some r->Ax Γ N f96 (.q [[some (105,4),some (3,1),some (111,3),some (118,8),some (53,2),none]] (D.agg [D.fr 105 4 (r.rules.map aN.c),D.fr 3 1 (r.ends.map dL),D.fr 111 3 (r.av.map aP.c),D.fr 118 8 (r.nodes.map Node.c),D.fr 53 2 (r.facts.map aE.c),D.int .i64 r.bw])) [1,1,1,1,1] ⟨[(3,D.ptr 0 0),(6,D.ptr 1 0),(7,D.ptr 2 0),(8,D.acc 3)],[Ob.box (aF.c aB),Ob.box [D.nil,D.nil,D.nil,D.nil,D.nil,D.int .i64 0],Ob.box [D.acc 4,D.acc 5,D.acc 6,D.acc 7,D.acc 8,D.int .i64 y1.bw],Ob.row .uq 4 1 (fV.map bx),Ob.row .uq 105 4 (y1.rules.map aN.c),Ob.row .uq 3 1 (y1.ends.map dL),Ob.row .uq 111 3 (qc.map aP.c),Ob.row .uq 118 8 (y1.nodes.map Node.c),Ob.row .uq 53 2 (y3.map aE.c)]⟩):∀(n1:Nat) (KB:Int) (mG:List Bool) (P7:b7),jD aB aW cY y1 y3 k1 n1 KB mG P7=some r->Ar Γ N f96 (.q [[some (105,4),some (3,1),some (111,3),some (118,8),some (53,2),none]] (D.agg [D.fr 105 4 (r.rules.map aN.c),D.fr 3 1 (r.ends.map dL),D.fr 111 3 (r.av.map aP.c),D.fr 118 8 (r.nodes.map Node.c),D.fr 53 2 (r.facts.map aE.c),D.int .i64 r.bw])) [1,1,1,1,0,1,0] n1 (CA aB aW cY y1 y3 KB (mG.map bx) (P7.map aP.c)):=by
 intro n
 induction n with
 |zero=>intro KB mG P7 h;simp[jD]at h
 |succ n1 ih1=>
  intro KB mG P7 h;rw[jD]at h;refine aO fun N1 bz bg=>?_
  obtain⟨h40,h⟩|⟨h40,h⟩:=aM h
  ·obtain⟨x41,h42,h⟩:=aD h;obtain⟨Kb,h44,h⟩:=aD h;obtain⟨h45,h⟩:=bV h;obtain⟨y46,h47,h⟩:=aD h;exact(((((((((((((((aU.b h40).a [.n 12]).i (yO aP.c 3 h42)).o 3 2 .uq (dG aP.c (uC h42))).a [.d (D.gZ [D.fr 152 2 (Kb.1.map aS.c),D.bool Kb.2])]).w (show Good prog 151 [D.agg (aE.c x41.shape),D.agg (aE.c cY),D.sl ([])] (D.gZ [D.fr 152 2 (Kb.1.map aS.c),D.bool Kb.2])from by first| (simpa only[bN,bG,bW,dB,cm]using qo h44)|exact qo h44)).w (cB h45)).a [.n 11]).i (yO aP.c 3 h42)).o 3 2 .uq (dG aP.c (uC h42))).a [.d (D.fr 53 2 (y46.map aE.c))]).w (show Good prog 87 [D.agg (aE.c x41.shape),D.sl ([]),D.sl (aW.map aE.c)] (D.fr 53 2 (y46.map aE.c))from by first| (simpa only[bN,bG,bW,dB,cm]using gY h47)|exact gY h47)).i (yO aP.c 3 h42)).w (show(P7.map aP.c)[KB.toNat]?=some [D.str x41.shape.rel,D.sl (x41.shape.args.map tx),D.sl (x41.facts.map aE.c)]from dG aP.c (uC h42))).a [.row [D.str x41.shape.rel,D.sl (x41.shape.args.map tx),D.sl (x41.facts.map aE.c)],.cn [1,3,5,6,7,8,9] [0,1,2,3,12,5,6,7,8,9]]).cs hΓ bg (CA aB aW cY y1 y3 (IntKind.i64.wrap (KB+1)) ((mG.map bx)++([[D.bool Kb.2]])) ((P7.map aP.c).set KB.toNat [D.str x41.shape.rel,D.sl (x41.shape.args.map tx),D.sl (y46.map aE.c)])) (by first| (simp only[mA]<;>rfl)| (simp only[mA,aE.c,aS.c,aQ.c,Action.c,aN.c,aI.c,cu.c,aP.c,Node.c,aF.c,cw.c]<;>rfl)) (ih1 (IntKind.i64.wrap (KB+1)) (mG++([Kb.2])) (P7.set KB.toNat (⟨x41.shape,y46⟩:aP)) h)
  ·exact((aU.b h40).a [.hl 0 [3,6,7,8] [0,2,3,4,5,6,7,8,9]]).ex hΓ bz (cX mG P7 h)
def uK(aB:aF)(y1:aF)(y3:aL)(fV:List Bool)(qc:b7)(rZ:Int)(vv:Int)(W2:List aR):St:=⟨[(3,D.ptr 0 0),(6,D.ptr 1 0),(7,D.ptr 2 0),(8,D.acc 3),(12,D.int .i64 rZ)],[Ob.box (aF.c aB),Ob.box [D.nil,D.nil,D.nil,D.nil,D.nil,D.int .i64 0],Ob.box [D.acc 4,D.acc 5,D.acc 6,D.acc 7,D.acc 8,D.int .i64 vv],Ob.row .uq 4 1 (fV.map bx),Ob.row .uq 105 4 (y1.rules.map aN.c),Ob.row .uq 3 1 (y1.ends.map dL),Ob.row .uq 111 3 (qc.map aP.c),Ob.row .uq 118 8 W2,Ob.row .uq 53 2 (y3.map aE.c)]⟩
theorem K6(hΓ:Γ.nt=143){aB:aF}{y1:aF}{y3:aL}{fV:List Bool}{qc:b7}{r:aF}{k2:Int->ay->Option aF}(Cn:∀(oy:Int) (vr:ay),k2 oy vr=some r->Ax Γ N f96 (.q [[some (105,4),some (3,1),some (111,3),some (118,8),some (53,2),none]] (D.agg [D.fr 105 4 (r.rules.map aN.c),D.fr 3 1 (r.ends.map dL),D.fr 111 3 (r.av.map aP.c),D.fr 118 8 (r.nodes.map Node.c),D.fr 53 2 (r.facts.map aE.c),D.int .i64 r.bw])) [1,1,1,1,1,1] ⟨[(6,D.ptr 0 0),(7,D.ptr 1 0)],[Ob.box [D.nil,D.nil,D.nil,D.nil,D.nil,D.int .i64 0],Ob.box [D.acc 2,D.acc 3,D.acc 4,D.acc 5,D.acc 6,D.int .i64 oy],Ob.row .uq 105 4 (y1.rules.map aN.c),Ob.row .uq 3 1 (y1.ends.map dL),Ob.row .uq 111 3 (qc.map aP.c),Ob.row .uq 118 8 (vr.map Node.c),Ob.row .uq 53 2 (y3.map aE.c)]⟩):∀(n2:Nat) (rZ:Int) (vv:Int) (sL:ay),ed aB y1 y3 fV qc k2 n2 rZ vv sL=some r->Ar Γ N f96 (.q [[some (105,4),some (3,1),some (111,3),some (118,8),some (53,2),none]] (D.agg [D.fr 105 4 (r.rules.map aN.c),D.fr 3 1 (r.ends.map dL),D.fr 111 3 (r.av.map aP.c),D.fr 118 8 (r.nodes.map Node.c),D.fr 53 2 (r.facts.map aE.c),D.int .i64 r.bw])) [1,1,1,1,1,0,1,0] n2 (uK aB y1 y3 fV qc rZ vv (sL.map Node.c)):=by
 intro n
 induction n with
 |zero=>intro rZ vv sL h;simp[ed]at h
 |succ n2 ih2=>
  intro rZ vv sL h;rw[ed]at h;refine aO fun N2 xo uz=>?_
  obtain⟨h105,h⟩|⟨h105,h⟩:=aM h
  ·obtain⟨x106,h107,h⟩:=aD h;obtain⟨x108,h109,h⟩:=aD h;obtain⟨x110,h111,h⟩:=aD h;obtain⟨KE,h113,h⟩:=aD h;have jb:=(((((((aU.b h105).i (yO Node.c 8 h107)).o 8 8 .uq (dG Node.c (uC h107))).i (yO Node.c 8 h109)).o 8 8 .uq (dG Node.c (uC h109))).l (dl Node.c 8 h111 rfl)).g (M3 h113))
   obtain⟨h114,h⟩|⟨h114,h⟩:=aM h
   ·obtain⟨UN,h116,h⟩:=aD h;exact((((((jb.b h114).a [.n 7,.d (D.fr 124 2 (UN.map aI.c))]).w (show Good prog 154 [D.sl (x108.tokens.map aI.c),D.agg (aQ.c x106.cond),D.sl ([])] (D.fr 124 2 (UN.map aI.c))from by first| (simpa only[bN,bG,bW,dB,cm]using uH h116)|exact uH h116)).i (yO Node.c 8 h107)).w (show(sL.map Node.c)[rZ.toNat]?=some [D.int .i64 x106.parent,D.int .i64 x106.cond.kind,D.str x106.cond.pat.rel,D.sl (x106.cond.pat.args.map tx),D.str x106.cond.left,D.str x106.cond.right,D.int .i64 x106.cP,D.sl (x106.tokens.map aI.c)]from dG Node.c (uC h107))).a [.row [D.int .i64 x106.parent,D.int .i64 x106.cond.kind,D.str x106.cond.pat.rel,D.sl (x106.cond.pat.args.map tx),D.str x106.cond.left,D.str x106.cond.right,D.int .i64 x106.cP,D.sl (x106.tokens.map aI.c)],.cn [3,6,7,8,12] [0,1,2,3,4,5,6,7,8]]).cs hΓ uz (uK aB y1 y3 fV qc (IntKind.i64.wrap (rZ+1)) (IntKind.i64.wrap (vv+KE.2)) ((sL.map Node.c).set rZ.toNat [D.int .i64 x106.parent,D.int .i64 x106.cond.kind,D.str x106.cond.pat.rel,D.sl (x106.cond.pat.args.map tx),D.str x106.cond.left,D.str x106.cond.right,D.int .i64 x106.cP,D.sl (UN.map aI.c)])) (by first| (simp only[mA]<;>rfl)| (simp only[mA,aE.c,aS.c,aQ.c,Action.c,aN.c,aI.c,cu.c,aP.c,Node.c,aF.c,cw.c]<;>rfl)) (ih2 (IntKind.i64.wrap (rZ+1)) (IntKind.i64.wrap (vv+KE.2)) (sL.set rZ.toNat (⟨x106.parent,x106.cond,x106.cP,UN⟩:Node)) h)
   ·obtain⟨x117,h118,h⟩:=aD h;obtain⟨Y3,h120,h⟩:=aD h;obtain⟨x121,h122,h⟩:=aD h;have ia:=((((((((((jb.b h114).i (yO aP.c 3 h118)).o 3 3 .uq (dG aP.c (uC h118))).a [.n 8]).g (uH h120)).i (yO Node.c 8 h107)).w (show(sL.map Node.c)[rZ.toNat]?=some [D.int .i64 x106.parent,D.int .i64 x106.cond.kind,D.str x106.cond.pat.rel,D.sl (x106.cond.pat.args.map tx),D.str x106.cond.left,D.str x106.cond.right,D.int .i64 x106.cP,D.sl (x106.tokens.map aI.c)]from dG Node.c (uC h107))).a [.row [D.int .i64 x106.parent,D.int .i64 x106.cond.kind,D.str x106.cond.pat.rel,D.sl (x106.cond.pat.args.map tx),D.str x106.cond.left,D.str x106.cond.right,D.int .i64 x106.cP,D.sl (x106.tokens.map aI.c)]]).i (yO bx 1 h122)).o 1 1 .uq (dG bx (uC h122)))
    obtain⟨h123,h⟩|⟨h123,h⟩:=aM h
    ·exact((ia.b h123).a [.cn [3,6,7,8,12] [0,1,2,3,4,5,6,7,8]]).cs hΓ uz (uK aB y1 y3 fV qc (IntKind.i64.wrap (rZ+1)) (IntKind.i64.wrap ((IntKind.i64.wrap (vv+(IntKind.i64.wrap (KE.2*((x117.facts.map aE.c).length:Int)))))+KE.1)) ((sL.map Node.c).set rZ.toNat [D.int .i64 x106.parent,D.int .i64 x106.cond.kind,D.str x106.cond.pat.rel,D.sl (x106.cond.pat.args.map tx),D.str x106.cond.left,D.str x106.cond.right,D.int .i64 x106.cP,D.sl (Y3.map aI.c)])) (by first| (simp only[mA]<;>rfl)| (simp only[mA,aE.c,aS.c,aQ.c,Action.c,aN.c,aI.c,cu.c,aP.c,Node.c,aF.c,cw.c]<;>rfl)) (ih2 (IntKind.i64.wrap (rZ+1)) (IntKind.i64.wrap ((IntKind.i64.wrap (vv+(IntKind.i64.wrap (KE.2*((x117.facts.map aE.c).length:Int)))))+KE.1)) (sL.set rZ.toNat (⟨x106.parent,x106.cond,x106.cP,Y3⟩:Node)) h)
    ·exact((ia.b h123).a [.cn [3,6,7,8,12] [0,1,2,3,4,5,6,7,8]]).cs hΓ uz (uK aB y1 y3 fV qc (IntKind.i64.wrap (rZ+1)) (IntKind.i64.wrap (vv+(IntKind.i64.wrap (KE.2*((x117.facts.map aE.c).length:Int))))) ((sL.map Node.c).set rZ.toNat [D.int .i64 x106.parent,D.int .i64 x106.cond.kind,D.str x106.cond.pat.rel,D.sl (x106.cond.pat.args.map tx),D.str x106.cond.left,D.str x106.cond.right,D.int .i64 x106.cP,D.sl (Y3.map aI.c)])) (by first| (simp only[mA]<;>rfl)| (simp only[mA,aE.c,aS.c,aQ.c,Action.c,aN.c,aI.c,cu.c,aP.c,Node.c,aF.c,cw.c]<;>rfl)) (ih2 (IntKind.i64.wrap (rZ+1)) (IntKind.i64.wrap (vv+(IntKind.i64.wrap (KE.2*((x117.facts.map aE.c).length:Int))))) (sL.set rZ.toNat (⟨x106.parent,x106.cond,x106.cP,Y3⟩:Node)) h)
  ·exact((aU.b h105).a [.hl 0 [6,7] [1,2,4,5,6,7,8]]).ex hΓ xo (Cn vv sL h)
theorem Hu{aB:aF}{aW:aL}{cY:aE}{r:aF}(h:uy aB aW cY=some r):Good prog 96 [D.agg (aF.c aB),D.sl (aW.map aE.c),D.agg (aE.c cY)] (D.agg [D.fr 105 4 (r.rules.map aN.c),D.fr 3 1 (r.ends.map dL),D.fr 111 3 (r.av.map aP.c),D.fr 118 8 (r.nodes.map Node.c),D.fr 53 2 (r.facts.map aE.c),D.int .i64 r.bw]):=by
 refine gd func96 [[some (105,4),some (3,1),some (111,3),some (118,8),some (53,2),none]] 143 fun hr Γ hΓ=>?_
 rw[uy]at h;obtain⟨y1,h2,h⟩:=aD h;obtain⟨y3,h4,h⟩:=aD h;refine(((aU.g (uI h2)).g (fK h4)).a [.cn [1,3,5,6,7,8,9] [0,1,2,8,10,3,4,5,6,9]]).lp hΓ (K5 hΓ (fun fV qc h=>?_) fuel 0 ([]:List Bool) y1.av h);refine(aU.a [.cn [3,6,7,8,12] [0,1,2,3,4,5,6,7,8]]).lp hΓ (K6 hΓ (fun oy vr h=>?_) fuel 1 y1.bw y1.nodes h);cases h;exact aU.ret hΓ
def pG(aB:aF)(aW:aE):Option (aF×Bool):=((wg aB.facts aW).bind fun y1=>((qG aB).bind fun y3=>(bif !(y3)then((pU aB).bind fun y6=>(some (y6,false)))else(bif !(y1.2)then((pU aB).bind fun y9=>(some (y9,false)))else((uy aB y1.1 aW).bind fun WG=>(some (WG,true)))))))
theorem sF{aB:aF}{aW:aE}{r:aF×Bool}(h:pG aB aW=some r):Good prog 44 [D.agg (aF.c aB),D.agg (aE.c aW)] (D.gZ [D.agg [D.fr 105 4 (r.1.rules.map aN.c),D.fr 3 1 (r.1.ends.map dL),D.fr 111 3 (r.1.av.map aP.c),D.fr 118 8 (r.1.nodes.map Node.c),D.fr 53 2 (r.1.facts.map aE.c),D.int .i64 r.1.bw],D.bool r.2]):=by
 refine gd func44 [[some (105,4),some (3,1),some (111,3),some (118,8),some (53,2),none],[none]] 28 fun hr Γ hΓ=>?_
 rw[pG]at h;obtain⟨y1,h2,h⟩:=aD h;obtain⟨y3,h4,h⟩:=aD h;have kF:=((aU.g (Jf h2)).g (vo h4))
 obtain⟨h5,h⟩|⟨h5,h⟩:=aM h
 ·obtain⟨y6,h7,h⟩:=aD h;cases h;exact(((kF.r 3 h5).T 1).g (uI h7)).ret hΓ
 ·have dJ:=(kF.r 3 h5)
  obtain⟨h8,h⟩|⟨h8,h⟩:=aM h
  ·obtain⟨y9,h10,h⟩:=aD h;cases h;exact((dJ.b h8).g (uI h10)).ret hΓ
  ·obtain⟨WG,h12,h⟩:=aD h;cases h;exact((dJ.b h8).g (Hu h12)).ret hΓ
def fk(aW:aL)(k1:Int->Int->ar->bI->b7->ay->aL->Option (aF×Int)):aL->Nat->Int->Int->ar->bI->b7->ay->aL->Option (aF×Int)
 | [],i1,rY,dV,fW,eN,mG,iV,qg=>(k1 rY dV fW eN mG iV qg)
 |bD::bZ,i1,rY,dV,fW,eN,mG,iV,qg=>((pG (⟨fW,eN,mG,iV,qg,dV⟩:aF) bD).bind fun yf=>(bif yf.2 then(fk aW k1 bZ (i1+1) (IntKind.i64.wrap (rY+1)) yf.1.bw yf.1.rules yf.1.ends yf.1.av yf.1.nodes yf.1.facts)else(fk aW k1 bZ (i1+1) rY dV fW eN mG iV qg)))
def qS(aB:aF)(aW:aL):Option (aF×Int):=((pU aB).bind fun y1=>(fk aW (fun(Rj:Int) (mE:Int) (sM:ar) (fV:bI) (CH:b7) (nu:ay) (qc:aL)=>(some ((⟨sM,fV,CH,nu,qc,mE⟩:aF),Rj))) aW 0 0 y1.bw y1.rules y1.ends y1.av y1.nodes y1.facts))
def G0(aW:aL)(rY:Int)(dV:Int)(W2:List aR)(W3:List aR)(W4:List aR)(W5:List aR)(W6:List aR)(cT:Int):St:=⟨[(1,D.sl (aW.map aE.c)),(4,D.ptr 0 0),(6,D.ptr 1 0),(7,D.int .i64 rY),(8,D.int .i64 cT)],[Ob.box [D.nil,D.nil,D.nil,D.nil,D.nil,D.int .i64 0],Ob.box [D.acc 2,D.acc 3,D.acc 4,D.acc 5,D.acc 6,D.int .i64 dV],Ob.row .uq 105 4 W2,Ob.row .uq 3 1 W3,Ob.row .uq 111 3 W4,Ob.row .uq 118 8 W5,Ob.row .uq 53 2 W6]⟩
theorem El(hΓ:Γ.nt=34){aW:aL}{r:aF×Int}{k1:Int->Int->ar->bI->b7->ay->aL->Option (aF×Int)}(cX:∀(Rj:Int) (mE:Int) (sM:ar) (fV:bI) (CH:b7) (nu:ay) (qc:aL),k1 Rj mE sM fV CH nu qc=some r->Ax Γ N f13 (.q [[some (105,4),some (3,1),some (111,3),some (118,8),some (53,2),none],[none]] (D.gZ [D.agg [D.fr 105 4 (r.1.rules.map aN.c),D.fr 3 1 (r.1.ends.map dL),D.fr 111 3 (r.1.av.map aP.c),D.fr 118 8 (r.1.nodes.map Node.c),D.fr 53 2 (r.1.facts.map aE.c),D.int .i64 r.1.bw],D.int .i64 r.2])) [1,1,1,1] ⟨[(4,D.ptr 0 0),(6,D.ptr 1 0),(7,D.int .i64 Rj)],[Ob.box [D.nil,D.nil,D.nil,D.nil,D.nil,D.int .i64 0],Ob.box [D.acc 2,D.acc 3,D.acc 4,D.acc 5,D.acc 6,D.int .i64 mE],Ob.row .uq 105 4 (sM.map aN.c),Ob.row .uq 3 1 (fV.map dL),Ob.row .uq 111 3 (CH.map aP.c),Ob.row .uq 118 8 (nu.map Node.c),Ob.row .uq 53 2 (qc.map aE.c)]⟩)(hm1:aW.length<=maxLen):∀(rest:aL) (i1:Nat) (rY:Int) (dV:Int) (fW:ar) (eN:bI) (mG:b7) (iV:ay) (qg:aL),aW.drop i1=rest->fk aW k1 rest i1 rY dV fW eN mG iV qg=some r->Ar Γ N f13 (.q [[some (105,4),some (3,1),some (111,3),some (118,8),some (53,2),none],[none]] (D.gZ [D.agg [D.fr 105 4 (r.1.rules.map aN.c),D.fr 3 1 (r.1.ends.map dL),D.fr 111 3 (r.1.av.map aP.c),D.fr 118 8 (r.1.nodes.map Node.c),D.fr 53 2 (r.1.facts.map aE.c),D.int .i64 r.1.bw],D.int .i64 r.2])) [1,1,1,0,1,0] (rest.length+1) (G0 aW rY dV (fW.map aN.c) (eN.map dL) (mG.map aP.c) (iV.map Node.c) (qg.map aE.c) (i1:Int)):=by
 intro rest
 induction rest with
 |nil=>
  intro i1 rY dV fW eN mG iV qg aj h;rw[fk]at h;refine aO fun N1 bz bg=>?_
  exact((aU.ge aE.c aj).a [.hl 0 [4,6,7] [0,1,2,3,4,5,6]]).ex hΓ bz (cX rY dV fW eN mG iV qg h)
 |cons bD bZ ih1=>
  intro i1 rY dV fW eN mG iV qg aj h;rw[fk]at h;refine aO fun N1 bz bg=>?_
  obtain⟨yf,h36,h⟩:=aD h;have dJ:=(((((aU.lt aE.c aj).a [.n 11]).l (ax aE.c 2 (dc aj) rfl)).a [.d (D.gZ [D.agg [D.fr 105 4 (yf.1.rules.map aN.c),D.fr 3 1 (yf.1.ends.map dL),D.fr 111 3 (yf.1.av.map aP.c),D.fr 118 8 (yf.1.nodes.map Node.c),D.fr 53 2 (yf.1.facts.map aE.c),D.int .i64 yf.1.bw],D.bool yf.2])]).w (show Good prog 44 [D.agg [D.sl (fW.map aN.c),D.sl (eN.map dL),D.sl (mG.map aP.c),D.sl (iV.map Node.c),D.sl (qg.map aE.c),D.int .i64 dV],D.agg (aE.c bD)] (D.gZ [D.agg [D.fr 105 4 (yf.1.rules.map aN.c),D.fr 3 1 (yf.1.ends.map dL),D.fr 111 3 (yf.1.av.map aP.c),D.fr 118 8 (yf.1.nodes.map Node.c),D.fr 53 2 (yf.1.facts.map aE.c),D.int .i64 yf.1.bw],D.bool yf.2])from by first| (simpa only[bN,bG,bW,dB,cm]using sF h36)|exact sF h36| (have t:=sF h36;simp only[bN,dB,cm,aF.c]at t;exact t)))
  obtain⟨h37,h⟩|⟨h37,h⟩:=aM h
  ·exact((dJ.b h37).a [.cn [1,4,6,7,8] [0,1,7,8,9,10,11]]).ct hΓ bg (iS aj hm1) (ih1 (i1+1) (IntKind.i64.wrap (rY+1)) yf.1.bw yf.1.rules yf.1.ends yf.1.av yf.1.nodes yf.1.facts (dn aj) h)
  ·exact((dJ.b h37).a [.cn [1,4,6,7,8] [0,1,2,3,4,5,6]]).ct hΓ bg (iS aj hm1) (ih1 (i1+1) rY dV fW eN mG iV qg (dn aj) h)
theorem Dj{aB:aF}{aW:aL}{r:aF×Int}(h:qS aB aW=some r):Good prog 13 [D.agg (aF.c aB),D.sl (aW.map aE.c)] (D.gZ [D.agg [D.fr 105 4 (r.1.rules.map aN.c),D.fr 3 1 (r.1.ends.map dL),D.fr 111 3 (r.1.av.map aP.c),D.fr 118 8 (r.1.nodes.map Node.c),D.fr 53 2 (r.1.facts.map aE.c),D.int .i64 r.1.bw],D.int .i64 r.2]):=by
 refine gd func13 [[some (105,4),some (3,1),some (111,3),some (118,8),some (53,2),none],[none]] 34 fun hr Γ hΓ=>?_
 rw[qS]at h;obtain⟨y1,h2,h⟩:=aD h;refine((aU.g (uI h2)).a [.cn [1,4,6,7,8] [1,7,2,3,4,5,6]]).lp hΓ (El hΓ (fun Rj mE sM fV CH nu qc h=>?_) (by have:=(dY.sl (hr _ (aC (i:=1) rfl))).1;simpa using this) aW 0 0 y1.bw y1.rules y1.ends y1.av y1.nodes y1.facts rfl h);cases h;exact aU.ret hΓ
def nD(aB:aJ):Option aJ:=(bif room (([]:List aR).length+(aB.map tx).length) 16 then(some (([]:aJ)++aB))else none)
theorem vf{aB:aJ}{r:aJ}(h:nD aB=some r):Good prog 184 [D.sl (aB.map tx)] (D.fr 9 1 (r.map tx)):=by
 refine gd func184 [[some (9,1)]] 5 fun hr Γ hΓ=>?_
 rw[nD]at h;obtain⟨h1,h⟩:=bV h;cases h;exact(((aU.w (cB h1)).w (show(∀r∈(aB.map tx),r.length=1)/\(true=true->D.oA (aB.map tx)=true)from⟨by first|simp| (intro r hr;obtain⟨x,_,rfl⟩:=cJ.1 (cH (gP hr));rfl),by simp[D.oA,D.flat]⟩)).a [.Pt 2,.fl true]).rts hΓ (D.fr 9 1 (([]:List aR)++(aB.map tx))) (by first|rfl| (simp only[mA]<;>rfl)| (simp only[cW,mA]<;>rfl))
def eG(aB:aE):Option aE:=((nD aB.args).bind fun y1=>(some (⟨aB.rel,y1⟩:aE)))
theorem tA{aB:aE}{r:aE}(h:eG aB=some r):Good prog 112 [D.agg (aE.c aB)] (D.agg [D.str r.rel,D.fr 9 1 (r.args.map tx)]):=by
 refine gd func112 [[none,some (9,1)]] 9 fun hr Γ hΓ=>?_
 rw[eG]at h;obtain⟨y1,h2,h⟩:=aD h;cases h;exact((aU.a [.n 5]).g (vf h2)).ret hΓ
def fF(aB:aQ):Option aQ:=((eG aB.pat).bind fun y1=>(some (⟨aB.kind,y1,aB.left,aB.right⟩:aQ)))
theorem l7{aB:aQ}{r:aQ}(h:fF aB=some r):Good prog 113 [D.agg (aQ.c aB)] (D.agg [D.int .i64 r.kind,D.str r.pat.rel,D.fr 9 1 (r.pat.args.map tx),D.str r.left,D.str r.right]):=by
 refine gd func113 [[none,none,some (9,1),none,none]] 8 fun hr Γ hΓ=>?_
 rw[fF]at h;obtain⟨y1,h2,h⟩:=aD h;cases h;exact(aU.g (tA h2)).ret hΓ
def mO(aB:aq)(k1:aq->Option aq):aq->Nat->aq->Option aq
 | [],i1,bC=>(k1 bC)
 |bD::bZ,i1,bC=>((fF bD).bind fun pY=>(bif room ((bC.map aQ.c).length+([[D.int .i64 pY.kind,D.str pY.pat.rel,D.sl (pY.pat.args.map tx),D.str pY.left,D.str pY.right]]).length) 80 then(mO aB k1 bZ (i1+1) (bC++([pY])))else none))
def sy(aB:aq):Option aq:=(mO aB (fun(bQ:aq)=>(some bQ)) aB 0 ([]:aq))
def B3(aB:aq)(W0:List aR)(cT:Int):St:=⟨[(3,D.acc 0),(6,D.sl (aB.map aQ.c)),(7,D.int .i64 ((aB.map aQ.c).length:Int)),(8,D.int .i64 cT)],[Ob.row .uq 115 5 W0]⟩
theorem Ge(hΓ:Γ.nt=19){aB:aq}{r:aq}{k1:aq->Option aq}(cX:∀(bQ:aq),k1 bQ=some r->Ax Γ N f244 (.q [[some (115,5)]] (D.fr 115 5 (r.map aQ.c))) [1,1,1] ⟨[(3,D.acc 0)],[Ob.row .uq 115 5 (bQ.map aQ.c)]⟩)(hm1:aB.length<=maxLen):∀(rest:aq) (i1:Nat) (bC:aq),aB.drop i1=rest->mO aB k1 rest i1 bC=some r->Ar Γ N f244 (.q [[some (115,5)]] (D.fr 115 5 (r.map aQ.c))) [1,1,0,1,0] (rest.length+1) (B3 aB (bC.map aQ.c) (i1:Int)):=by
 intro rest
 induction rest with
 |nil=>
  intro i1 bC aj h;rw[mO]at h;refine aO fun N1 bz bg=>?_
  exact((aU.ge aQ.c aj).a [.hl 0 [3] [0]]).ex hΓ bz (cX bC h)
 |cons bD bZ ih1=>
  intro i1 bC aj h;rw[mO]at h;refine aO fun N1 bz bg=>?_
  obtain⟨pY,h28,h⟩:=aD h;obtain⟨h29,h⟩:=bV h;exact(((((aU.lt aQ.c aj).l (ax aQ.c 5 (dc aj) rfl)).g (l7 h28)).w (cB h29)).a [.cn [3,6,7,8] [4]]).cs hΓ bg (B3 aB ((bC.map aQ.c)++([[D.int .i64 pY.kind,D.str pY.pat.rel,D.sl (pY.pat.args.map tx),D.str pY.left,D.str pY.right]])) (IntKind.i64.wrap ((i1:Int)+1))) (by first| (simp only[iS aj hm1,mA]<;>rfl)| (simp only[iS aj hm1,mA,aE.c,aS.c,aQ.c,Action.c,aN.c,aI.c,cu.c,aP.c,Node.c,aF.c,cw.c]<;>rfl)) (ih1 (i1+1) (bC++([pY])) (dn aj) h)
theorem FZ{aB:aq}{r:aq}(h:sy aB=some r):Good prog 244 [D.sl (aB.map aQ.c)] (D.fr 115 5 (r.map aQ.c)):=by
 refine gd func244 [[some (115,5)]] 19 fun hr Γ hΓ=>?_
 rw[sy]at h;refine(aU.a [.Pt 3,.cn [3,6,7,8] [0]]).lp hΓ (Ge hΓ (fun bQ h=>?_) (by have:=(dY.sl (hr _ (aC (i:=0) rfl))).1;simpa using this) aB 0 ([]:aq) rfl h);have h:=aG h;subst h;exact aU.ret hΓ
def kN(aB:aN)(y1:aq)(k1:c8->Option aN):c8->Nat->c8->Option aN
 | [],i1,eN=>(k1 eN)
 |bD::bZ,i1,eN=>((eG bD.pat).bind fun vX=>(bif room ((eN.map Action.c).length+([[D.int .i64 bD.kind,D.str vX.rel,D.sl (vX.args.map tx)]]).length) 48 then(kN aB y1 k1 bZ (i1+1) (eN++([(⟨bD.kind,vX⟩:Action)])))else none))
def r9(aB:aN):Option aN:=((sy aB.conds).bind fun y1=>(kN aB y1 (fun(fV:c8)=>(some (⟨aB.name,aB.prio,y1,fV⟩:aN))) aB.cv 0 ([]:c8)))
def Bw(aB:aN)(y1:aq)(W0:List aR)(cT:Int):St:=⟨[(2,D.ptr 0 0),(3,D.ptr 1 0),(15,D.sl (aB.cv.map Action.c)),(16,D.int .i64 ((aB.cv.map Action.c).length:Int)),(17,D.int .i64 cT)],[Ob.box [D.str ([]),D.int .i64 0,D.nil,D.nil],Ob.box [D.str aB.name,D.int .i64 aB.prio,D.acc 2,D.acc 3],Ob.row .uq 115 5 (y1.map aQ.c),Ob.row .uq 199 3 W0]⟩
theorem Iv(hΓ:Γ.nt=34){aB:aN}{y1:aq}{r:aN}{k1:c8->Option aN}(cX:∀(fV:c8),k1 fV=some r->Ax Γ N f182 (.q [[none,none,some (115,5),some (199,3)]] (D.agg [D.str r.name,D.int .i64 r.prio,D.fr 115 5 (r.conds.map aQ.c),D.fr 199 3 (r.cv.map Action.c)])) [1,1,1] ⟨[(2,D.ptr 0 0),(3,D.ptr 1 0)],[Ob.box [D.str ([]),D.int .i64 0,D.nil,D.nil],Ob.box [D.str aB.name,D.int .i64 aB.prio,D.acc 2,D.acc 3],Ob.row .uq 115 5 (y1.map aQ.c),Ob.row .uq 199 3 (fV.map Action.c)]⟩)(hm1:aB.cv.length<=maxLen):∀(rest:c8) (i1:Nat) (eN:c8),aB.cv.drop i1=rest->kN aB y1 k1 rest i1 eN=some r->Ar Γ N f182 (.q [[none,none,some (115,5),some (199,3)]] (D.agg [D.str r.name,D.int .i64 r.prio,D.fr 115 5 (r.conds.map aQ.c),D.fr 199 3 (r.cv.map Action.c)])) [1,1,0,1,0] (rest.length+1) (Bw aB y1 (eN.map Action.c) (i1:Int)):=by
 intro rest
 induction rest with
 |nil=>
  intro i1 eN aj h;rw[kN]at h;refine aO fun N1 bz bg=>?_
  exact((aU.ge Action.c aj).a [.hl 0 [2,3] [0,1,2,3]]).ex hΓ bz (cX eN h)
 |cons bD bZ ih1=>
  intro i1 eN aj h;rw[kN]at h;refine aO fun N1 bz bg=>?_
  obtain⟨vX,h42,h⟩:=aD h;obtain⟨h43,h⟩:=bV h;exact((((((aU.lt Action.c aj).l (ax Action.c 3 (dc aj) rfl)).a [.n2 [0,1,2,3,4,5,6,7,8,9,10,11] [0,1,2,3,4,5,6,7,8,9,10,11] 8 9 [0,1] [5]]).g (tA h42)).w (cB h43)).a [.cn [2,3,15,16,17] [0,1,2,7]]).cs hΓ bg (Bw aB y1 ((eN.map Action.c)++([[D.int .i64 bD.kind,D.str vX.rel,D.sl (vX.args.map tx)]])) (IntKind.i64.wrap ((i1:Int)+1))) (by first| (simp only[iS aj hm1,mA]<;>rfl)| (simp only[iS aj hm1,mA,aE.c,aS.c,aQ.c,Action.c,aN.c,aI.c,cu.c,aP.c,Node.c,aF.c,cw.c]<;>rfl)) (ih1 (i1+1) (eN++([(⟨bD.kind,vX⟩:Action)])) (dn aj) h)
theorem Gh{aB:aN}{r:aN}(h:r9 aB=some r):Good prog 182 [D.agg (aN.c aB)] (D.agg [D.str r.name,D.int .i64 r.prio,D.fr 115 5 (r.conds.map aQ.c),D.fr 199 3 (r.cv.map Action.c)]):=by
 refine gd func182 [[none,none,some (115,5),some (199,3)]] 34 fun hr Γ hΓ=>?_
 rw[r9]at h;obtain⟨y1,h2,h⟩:=aD h;refine(((aU.a [.n 9]).g (FZ h2)).a [.pb 3 3 199 3,.cn [2,3,15,16,17] [1,3,2,4]]).lp hΓ (Iv hΓ (fun fV h=>?_) (by have:=(dY.sl (dY.agg (hr _ (aC (i:=0) rfl)) (.sl (aB.cv.map Action.c)) (by simp))).1;simpa using this) aB.cv 0 ([]:c8) rfl h);cases h;exact aU.ret hΓ
def mQ(aB:ar)(k1:ar->Option ar):ar->Nat->ar->Option ar
 | [],i1,bC=>(k1 bC)
 |bD::bZ,i1,bC=>((r9 bD).bind fun pY=>(bif room ((bC.map aN.c).length+([[D.str pY.name,D.int .i64 pY.prio,D.sl (pY.conds.map aQ.c),D.sl (pY.cv.map Action.c)]]).length) 72 then(mQ aB k1 bZ (i1+1) (bC++([pY])))else none))
def pz(aB:ar):Option ar:=(mQ aB (fun(bQ:ar)=>(some bQ)) aB 0 ([]:ar))
def B5(aB:ar)(W0:List aR)(cT:Int):St:=⟨[(3,D.acc 0),(6,D.sl (aB.map aN.c)),(7,D.int .i64 ((aB.map aN.c).length:Int)),(8,D.int .i64 cT)],[Ob.row .uq 105 4 W0]⟩
theorem Gi(hΓ:Γ.nt=19){aB:ar}{r:ar}{k1:ar->Option ar}(cX:∀(bQ:ar),k1 bQ=some r->Ax Γ N f109 (.q [[some (105,4)]] (D.fr 105 4 (r.map aN.c))) [1,1,1] ⟨[(3,D.acc 0)],[Ob.row .uq 105 4 (bQ.map aN.c)]⟩)(hm1:aB.length<=maxLen):∀(rest:ar) (i1:Nat) (bC:ar),aB.drop i1=rest->mQ aB k1 rest i1 bC=some r->Ar Γ N f109 (.q [[some (105,4)]] (D.fr 105 4 (r.map aN.c))) [1,1,0,1,0] (rest.length+1) (B5 aB (bC.map aN.c) (i1:Int)):=by
 intro rest
 induction rest with
 |nil=>
  intro i1 bC aj h;rw[mQ]at h;refine aO fun N1 bz bg=>?_
  exact((aU.ge aN.c aj).a [.hl 0 [3] [0]]).ex hΓ bz (cX bC h)
 |cons bD bZ ih1=>
  intro i1 bC aj h;rw[mQ]at h;refine aO fun N1 bz bg=>?_
  obtain⟨pY,h28,h⟩:=aD h;obtain⟨h29,h⟩:=bV h;exact(((((aU.lt aN.c aj).l (ax aN.c 4 (dc aj) rfl)).g (Gh h28)).w (cB h29)).a [.cn [3,6,7,8] [5]]).cs hΓ bg (B5 aB ((bC.map aN.c)++([[D.str pY.name,D.int .i64 pY.prio,D.sl (pY.conds.map aQ.c),D.sl (pY.cv.map Action.c)]])) (IntKind.i64.wrap ((i1:Int)+1))) (by first| (simp only[iS aj hm1,mA]<;>rfl)| (simp only[iS aj hm1,mA,aE.c,aS.c,aQ.c,Action.c,aN.c,aI.c,cu.c,aP.c,Node.c,aF.c,cw.c]<;>rfl)) (ih1 (i1+1) (bC++([pY])) (dn aj) h)
theorem zP{aB:ar}{r:ar}(h:pz aB=some r):Good prog 109 [D.sl (aB.map aN.c)] (D.fr 105 4 (r.map aN.c)):=by
 refine gd func109 [[some (105,4)]] 19 fun hr Γ hΓ=>?_
 rw[pz]at h;refine(aU.a [.Pt 3,.cn [3,6,7,8] [0]]).lp hΓ (Gi hΓ (fun bQ h=>?_) (by have:=(dY.sl (hr _ (aC (i:=0) rfl))).1;simpa using this) aB 0 ([]:ar) rfl h);have h:=aG h;subst h;exact aU.ret hΓ
def uU(aB:bI):Option bI:=(bif room (([]:List aR).length+(aB.map dL).length) 8 then(some (([]:bI)++aB))else none)
theorem Gg{aB:bI}{r:bI}(h:uU aB=some r):Good prog 110 [D.sl (aB.map dL)] (D.fr 3 1 (r.map dL)):=by
 refine gd func110 [[some (3,1)]] 5 fun hr Γ hΓ=>?_
 rw[uU]at h;obtain⟨h1,h⟩:=bV h;cases h;exact(((aU.w (cB h1)).w (show(∀r∈(aB.map dL),r.length=1)/\(true=true->D.oA (aB.map dL)=true)from⟨by first|simp| (intro r hr;obtain⟨x,_,rfl⟩:=cJ.1 (cH (gP hr));rfl),by simp[D.oA,D.flat]⟩)).a [.Pt 2,.fl true]).rts hΓ (D.fr 3 1 (([]:List aR)++(aB.map dL))) (by first|rfl| (simp only[mA]<;>rfl)| (simp only[cW,mA]<;>rfl))
def eF(aB:aE):Option aE:=((nD aB.args).bind fun y1=>(some (⟨aB.rel,y1⟩:aE)))
theorem gS{aB:aE}{r:aE}(h:eF aB=some r):Good prog 183 [D.agg (aE.c aB)] (D.agg [D.str r.rel,D.fr 9 1 (r.args.map tx)]):=by
 refine gd func183 [[none,some (9,1)]] 9 fun hr Γ hΓ=>?_
 rw[eF]at h;obtain⟨y1,h2,h⟩:=aD h;cases h;exact((aU.a [.n 5]).g (vf h2)).ret hΓ
def mP(aB:aL)(k1:aL->Option aL):aL->Nat->aL->Option aL
 | [],i1,bC=>(k1 bC)
 |bD::bZ,i1,bC=>((eF bD).bind fun pY=>(bif room ((bC.map aE.c).length+([[D.str pY.rel,D.sl (pY.args.map tx)]]).length) 40 then(mP aB k1 bZ (i1+1) (bC++([pY])))else none))
def cz(aB:aL):Option aL:=(mP aB (fun(bQ:aL)=>(some bQ)) aB 0 ([]:aL))
def B4(aB:aL)(W0:List aR)(cT:Int):St:=⟨[(3,D.acc 0),(6,D.sl (aB.map aE.c)),(7,D.int .i64 ((aB.map aE.c).length:Int)),(8,D.int .i64 cT)],[Ob.row .uq 53 2 W0]⟩
theorem Gf(hΓ:Γ.nt=19){aB:aL}{r:aL}{k1:aL->Option aL}(cX:∀(bQ:aL),k1 bQ=some r->Ax Γ N f111 (.q [[some (53,2)]] (D.fr 53 2 (r.map aE.c))) [1,1,1] ⟨[(3,D.acc 0)],[Ob.row .uq 53 2 (bQ.map aE.c)]⟩)(hm1:aB.length<=maxLen):∀(rest:aL) (i1:Nat) (bC:aL),aB.drop i1=rest->mP aB k1 rest i1 bC=some r->Ar Γ N f111 (.q [[some (53,2)]] (D.fr 53 2 (r.map aE.c))) [1,1,0,1,0] (rest.length+1) (B4 aB (bC.map aE.c) (i1:Int)):=by
 intro rest
 induction rest with
 |nil=>
  intro i1 bC aj h;rw[mP]at h;refine aO fun N1 bz bg=>?_
  exact((aU.ge aE.c aj).a [.hl 0 [3] [0]]).ex hΓ bz (cX bC h)
 |cons bD bZ ih1=>
  intro i1 bC aj h;rw[mP]at h;refine aO fun N1 bz bg=>?_
  obtain⟨pY,h28,h⟩:=aD h;obtain⟨h29,h⟩:=bV h;exact(((((aU.lt aE.c aj).l (ax aE.c 2 (dc aj) rfl)).g (gS h28)).w (cB h29)).a [.cn [3,6,7,8] [4]]).cs hΓ bg (B4 aB ((bC.map aE.c)++([[D.str pY.rel,D.sl (pY.args.map tx)]])) (IntKind.i64.wrap ((i1:Int)+1))) (by first| (simp only[iS aj hm1,mA]<;>rfl)| (simp only[iS aj hm1,mA,aE.c,aS.c,aQ.c,Action.c,aN.c,aI.c,cu.c,aP.c,Node.c,aF.c,cw.c]<;>rfl)) (ih1 (i1+1) (bC++([pY])) (dn aj) h)
theorem er{aB:aL}{r:aL}(h:cz aB=some r):Good prog 111 [D.sl (aB.map aE.c)] (D.fr 53 2 (r.map aE.c)):=by
 refine gd func111 [[some (53,2)]] 19 fun hr Γ hΓ=>?_
 rw[cz]at h;refine(aU.a [.Pt 3,.cn [3,6,7,8] [0]]).lp hΓ (Gf hΓ (fun bQ h=>?_) (by have:=(dY.sl (hr _ (aC (i:=0) rfl))).1;simpa using this) aB 0 ([]:aL) rfl h);have h:=aG h;subst h;exact aU.ret hΓ
def jP(aB:aT):Option aT:=(bif room (([]:List aR).length+(aB.map aS.c).length) 32 then(some (([]:aT)++aB))else none)
theorem ve{aB:aT}{r:aT}(h:jP aB=some r):Good prog 185 [D.sl (aB.map aS.c)] (D.fr 152 2 (r.map aS.c)):=by
 refine gd func185 [[some (152,2)]] 5 fun hr Γ hΓ=>?_
 rw[jP]at h;obtain⟨h1,h⟩:=bV h;cases h;exact(((aU.w (cB h1)).w (show(∀r∈(aB.map aS.c),r.length=2)/\(true=true->D.oA (aB.map aS.c)=true)from⟨by first|simp| (intro r hr;obtain⟨x,_,rfl⟩:=cJ.1 (cH (gP hr));rfl),by simp[D.oA,D.flat]⟩)).a [.Pt 2,.fl true]).rts hΓ (D.fr 152 2 (([]:List aR)++(aB.map aS.c))) (by first|rfl| (simp only[mA]<;>rfl)| (simp only[cW,mA]<;>rfl))
def iw(aB:ah)(k1:ah->Option ah):ah->Nat->ah->Option ah
 | [],i1,bC=>(k1 bC)
 |bD::bZ,i1,bC=>((cz bD.facts).bind fun y61=>((jP bD.bind).bind fun y63=>(bif room ((bC.map aI.c).length+([[D.sl (y61.map aE.c),D.sl (y63.map aS.c)]]).length) 48 then(iw aB k1 bZ (i1+1) (bC++([(⟨y61,y63⟩:aI)])))else none)))
def lf(aB:ah):Option ah:=(iw aB (fun(bQ:ah)=>(some bQ)) aB 0 ([]:ah))
def AB(aB:ah)(W0:List aR)(cT:Int):St:=⟨[(3,D.acc 0),(6,D.sl (aB.map aI.c)),(7,D.int .i64 ((aB.map aI.c).length:Int)),(8,D.int .i64 cT)],[Ob.row .uq 124 2 W0]⟩
theorem Fa(hΓ:Γ.nt=24){aB:ah}{r:ah}{k1:ah->Option ah}(cX:∀(bQ:ah),k1 bQ=some r->Ax Γ N f114 (.q [[some (124,2)]] (D.fr 124 2 (r.map aI.c))) [1,1,1] ⟨[(3,D.acc 0)],[Ob.row .uq 124 2 (bQ.map aI.c)]⟩)(hm1:aB.length<=maxLen):∀(rest:ah) (i1:Nat) (bC:ah),aB.drop i1=rest->iw aB k1 rest i1 bC=some r->Ar Γ N f114 (.q [[some (124,2)]] (D.fr 124 2 (r.map aI.c))) [1,1,0,1,0] (rest.length+1) (AB aB (bC.map aI.c) (i1:Int)):=by
 intro rest
 induction rest with
 |nil=>
  intro i1 bC aj h;rw[iw]at h;refine aO fun N1 bz bg=>?_
  exact((aU.ge aI.c aj).a [.hl 0 [3] [0]]).ex hΓ bz (cX bC h)
 |cons bD bZ ih1=>
  intro i1 bC aj h;rw[iw]at h;refine aO fun N1 bz bg=>?_
  obtain⟨y61,h62,h⟩:=aD h;obtain⟨y63,h64,h⟩:=aD h;obtain⟨h65,h⟩:=bV h;exact(((((((aU.lt aI.c aj).l (ax aI.c 2 (dc aj) rfl)).a [.n2 [0,1,2,3,4,5,6,7,8,9,10] [0,1,2,3,4,5,6,7,8,9,10] 8 9 [0] [2,3]]).g (er h62)).g (ve h64)).w (cB h65)).a [.cn [3,6,7,8] [5]]).cs hΓ bg (AB aB ((bC.map aI.c)++([[D.sl (y61.map aE.c),D.sl (y63.map aS.c)]])) (IntKind.i64.wrap ((i1:Int)+1))) (by first| (simp only[iS aj hm1,mA]<;>rfl)| (simp only[iS aj hm1,mA,aE.c,aS.c,aQ.c,Action.c,aN.c,aI.c,cu.c,aP.c,Node.c,aF.c,cw.c]<;>rfl)) (ih1 (i1+1) (bC++([(⟨y61,y63⟩:aI)])) (dn aj) h)
theorem EX{aB:ah}{r:ah}(h:lf aB=some r):Good prog 114 [D.sl (aB.map aI.c)] (D.fr 124 2 (r.map aI.c)):=by
 refine gd func114 [[some (124,2)]] 24 fun hr Γ hΓ=>?_
 rw[lf]at h;refine(aU.a [.Pt 3,.cn [3,6,7,8] [0]]).lp hΓ (Fa hΓ (fun bQ h=>?_) (by have:=(dY.sl (hr _ (aC (i:=0) rfl))).1;simpa using this) aB 0 ([]:ah) rfl h);have h:=aG h;subst h;exact aU.ret hΓ
def iN(aB:aF)(y1:ar)(y3:bI)(y5:aL)(k1:b7->Option aF):b7->Nat->b7->Option aF
 | [],i1,iV=>(k1 iV)
 |bD::bZ,i1,iV=>((eG bD.shape).bind fun y67=>((cz bD.facts).bind fun y69=>(bif room ((iV.map aP.c).length+([[D.str y67.rel,D.sl (y67.args.map tx),D.sl (y69.map aE.c)]]).length) 64 then(iN aB y1 y3 y5 k1 bZ (i1+1) (iV++([(⟨y67,y69⟩:aP)])))else none)))
def iO(aB:aF)(y1:ar)(y3:bI)(y5:aL)(nu:b7)(k2:ay->Option aF):ay->Nat->ay->Option aF
 | [],i2,xC=>(k2 xC)
 |lV::wu,i2,xC=>((fF lV.cond).bind fun KF=>((lf lV.tokens).bind fun a3w=>(bif room ((xC.map Node.c).length+([[D.int .i64 lV.parent,D.int .i64 KF.kind,D.str KF.pat.rel,D.sl (KF.pat.args.map tx),D.str KF.left,D.str KF.right,D.int .i64 lV.cP,D.sl (a3w.map aI.c)]]).length) 120 then(iO aB y1 y3 y5 nu k2 wu (i2+1) (xC++([(⟨lV.parent,KF,lV.cP,a3w⟩:Node)])))else none)))
def iv(aB:aF):Option aF:=((pz aB.rules).bind fun y1=>((uU aB.ends).bind fun y3=>((cz aB.facts).bind fun y5=>(iN aB y1 y3 y5 (fun(nu:b7)=>(iO aB y1 y3 y5 nu (fun(vr:ay)=>(some (⟨y1,y3,nu,vr,y5,aB.bw⟩:aF))) aB.nodes 0 ([]:ay))) aB.av 0 ([]:b7)))))
def zN(aB:aF)(y1:ar)(y3:bI)(y5:aL)(W0:List aR)(cT:Int):St:=⟨[(1,D.ptr 0 0),(2,D.ptr 1 0),(3,D.ptr 2 0),(21,D.sl (aB.av.map aP.c)),(22,D.int .i64 ((aB.av.map aP.c).length:Int)),(23,D.int .i64 cT)],[Ob.box (aF.c aB),Ob.box [D.nil,D.nil,D.nil,D.nil,D.nil,D.int .i64 0],Ob.box [D.acc 3,D.acc 4,D.acc 5,D.nil,D.acc 6,D.int .i64 aB.bw],Ob.row .uq 105 4 (y1.map aN.c),Ob.row .uq 3 1 (y3.map dL),Ob.row .uq 111 3 W0,Ob.row .uq 53 2 (y5.map aE.c)]⟩
theorem EV(hΓ:Γ.nt=65){aB:aF}{y1:ar}{y3:bI}{y5:aL}{r:aF}{k1:b7->Option aF}(cX:∀(nu:b7),k1 nu=some r->Ax Γ N f53 (.q [[some (105,4),some (3,1),some (111,3),some (118,8),some (53,2),none]] (D.agg [D.fr 105 4 (r.rules.map aN.c),D.fr 3 1 (r.ends.map dL),D.fr 111 3 (r.av.map aP.c),D.fr 118 8 (r.nodes.map Node.c),D.fr 53 2 (r.facts.map aE.c),D.int .i64 r.bw])) [1,1,1] ⟨[(1,D.ptr 0 0),(2,D.ptr 1 0),(3,D.ptr 2 0)],[Ob.box (aF.c aB),Ob.box [D.nil,D.nil,D.nil,D.nil,D.nil,D.int .i64 0],Ob.box [D.acc 3,D.acc 4,D.acc 5,D.nil,D.acc 6,D.int .i64 aB.bw],Ob.row .uq 105 4 (y1.map aN.c),Ob.row .uq 3 1 (y3.map dL),Ob.row .uq 111 3 (nu.map aP.c),Ob.row .uq 53 2 (y5.map aE.c)]⟩)(hm1:aB.av.length<=maxLen):∀(rest:b7) (i1:Nat) (iV:b7),aB.av.drop i1=rest->iN aB y1 y3 y5 k1 rest i1 iV=some r->Ar Γ N f53 (.q [[some (105,4),some (3,1),some (111,3),some (118,8),some (53,2),none]] (D.agg [D.fr 105 4 (r.rules.map aN.c),D.fr 3 1 (r.ends.map dL),D.fr 111 3 (r.av.map aP.c),D.fr 118 8 (r.nodes.map Node.c),D.fr 53 2 (r.facts.map aE.c),D.int .i64 r.bw])) [1,1,0,1,0] (rest.length+1) (zN aB y1 y3 y5 (iV.map aP.c) (i1:Int)):=by
 intro rest
 induction rest with
 |nil=>
  intro i1 iV aj h;rw[iN]at h;refine aO fun N1 bz bg=>?_
  exact((aU.ge aP.c aj).a [.hl 0 [1,2,3] [0,1,2,3,4,5,6]]).ex hΓ bz (cX iV h)
 |cons bD bZ ih1=>
  intro i1 iV aj h;rw[iN]at h;refine aO fun N1 bz bg=>?_
  obtain⟨y67,h68,h⟩:=aD h;obtain⟨y69,h70,h⟩:=aD h;obtain⟨h71,h⟩:=bV h;exact(((((((aU.lt aP.c aj).l (ax aP.c 3 (dc aj) rfl)).a [.n2 [0,1,2,3,4,5,6,7,8,9,10,11,12] [0,1,2,3,4,5,6,7,8,9,10,11,12] 9 10 [0,1] [8,9]]).g (tA h68)).g (er h70)).w (cB h71)).a [.cn [1,2,3,21,22,23] [0,1,2,3,4,11,6]]).cs hΓ bg (zN aB y1 y3 y5 ((iV.map aP.c)++([[D.str y67.rel,D.sl (y67.args.map tx),D.sl (y69.map aE.c)]])) (IntKind.i64.wrap ((i1:Int)+1))) (by first| (simp only[iS aj hm1,mA]<;>rfl)| (simp only[iS aj hm1,mA,aE.c,aS.c,aQ.c,Action.c,aN.c,aI.c,cu.c,aP.c,Node.c,aF.c,cw.c]<;>rfl)) (ih1 (i1+1) (iV++([(⟨y67,y69⟩:aP)])) (dn aj) h)
def zO(aB:aF)(y1:ar)(y3:bI)(y5:aL)(nu:b7)(W0:List aR)(cT:Int):St:=⟨[(2,D.ptr 0 0),(3,D.ptr 1 0),(41,D.sl (aB.nodes.map Node.c)),(42,D.int .i64 ((aB.nodes.map Node.c).length:Int)),(43,D.int .i64 cT)],[Ob.box [D.nil,D.nil,D.nil,D.nil,D.nil,D.int .i64 0],Ob.box [D.acc 2,D.acc 3,D.acc 4,D.acc 5,D.acc 6,D.int .i64 aB.bw],Ob.row .uq 105 4 (y1.map aN.c),Ob.row .uq 3 1 (y3.map dL),Ob.row .uq 111 3 (nu.map aP.c),Ob.row .uq 118 8 W0,Ob.row .uq 53 2 (y5.map aE.c)]⟩
theorem EW(hΓ:Γ.nt=65){aB:aF}{y1:ar}{y3:bI}{y5:aL}{nu:b7}{r:aF}{k2:ay->Option aF}(Cn:∀(vr:ay),k2 vr=some r->Ax Γ N f53 (.q [[some (105,4),some (3,1),some (111,3),some (118,8),some (53,2),none]] (D.agg [D.fr 105 4 (r.rules.map aN.c),D.fr 3 1 (r.ends.map dL),D.fr 111 3 (r.av.map aP.c),D.fr 118 8 (r.nodes.map Node.c),D.fr 53 2 (r.facts.map aE.c),D.int .i64 r.bw])) [1,1,1,1] ⟨[(2,D.ptr 0 0),(3,D.ptr 1 0)],[Ob.box [D.nil,D.nil,D.nil,D.nil,D.nil,D.int .i64 0],Ob.box [D.acc 2,D.acc 3,D.acc 4,D.acc 5,D.acc 6,D.int .i64 aB.bw],Ob.row .uq 105 4 (y1.map aN.c),Ob.row .uq 3 1 (y3.map dL),Ob.row .uq 111 3 (nu.map aP.c),Ob.row .uq 118 8 (vr.map Node.c),Ob.row .uq 53 2 (y5.map aE.c)]⟩)(hm2:aB.nodes.length<=maxLen):∀(rest:ay) (i2:Nat) (xC:ay),aB.nodes.drop i2=rest->iO aB y1 y3 y5 nu k2 rest i2 xC=some r->Ar Γ N f53 (.q [[some (105,4),some (3,1),some (111,3),some (118,8),some (53,2),none]] (D.agg [D.fr 105 4 (r.rules.map aN.c),D.fr 3 1 (r.ends.map dL),D.fr 111 3 (r.av.map aP.c),D.fr 118 8 (r.nodes.map Node.c),D.fr 53 2 (r.facts.map aE.c),D.int .i64 r.bw])) [1,1,1,0,1,0] (rest.length+1) (zO aB y1 y3 y5 nu (xC.map Node.c) (i2:Int)):=by
 intro rest
 induction rest with
 |nil=>
  intro i2 xC hd2 h;rw[iO]at h;refine aO fun N2 xo uz=>?_
  exact((aU.ge Node.c hd2).a [.hl 0 [2,3] [0,1,2,3,4,5,6]]).ex hΓ xo (Cn xC h)
 |cons lV wu ih2=>
  intro i2 xC hd2 h;rw[iO]at h;refine aO fun N2 xo uz=>?_
  obtain⟨KF,h133,h⟩:=aD h;obtain⟨a3w,h135,h⟩:=aD h;obtain⟨h136,h⟩:=bV h;exact(((((((aU.lt Node.c hd2).l (ax Node.c 8 (dc hd2) rfl)).a [.n2 [0,1,2,3,4,5,6,7,8,9,10,11,12,13,14,15,16] [0,1,2,3,4,5,6,7,8,9,10,11,12,13,14,15,16] 13 14 [0,1] [8,9]]).g (l7 h133)).g (EX h135)).w (cB h136)).a [.cn [2,3,41,42,43] [0,1,2,3,4,11,6]]).cs hΓ uz (zO aB y1 y3 y5 nu ((xC.map Node.c)++([[D.int .i64 lV.parent,D.int .i64 KF.kind,D.str KF.pat.rel,D.sl (KF.pat.args.map tx),D.str KF.left,D.str KF.right,D.int .i64 lV.cP,D.sl (a3w.map aI.c)]])) (IntKind.i64.wrap ((i2:Int)+1))) (by first| (simp only[iS hd2 hm2,mA]<;>rfl)| (simp only[iS hd2 hm2,mA,aE.c,aS.c,aQ.c,Action.c,aN.c,aI.c,cu.c,aP.c,Node.c,aF.c,cw.c]<;>rfl)) (ih2 (i2+1) (xC++([(⟨lV.parent,KF,lV.cP,a3w⟩:Node)])) (dn hd2) h)
theorem oL{aB:aF}{r:aF}(h:iv aB=some r):Good prog 53 [D.agg (aF.c aB)] (D.agg [D.fr 105 4 (r.rules.map aN.c),D.fr 3 1 (r.ends.map dL),D.fr 111 3 (r.av.map aP.c),D.fr 118 8 (r.nodes.map Node.c),D.fr 53 2 (r.facts.map aE.c),D.int .i64 r.bw]):=by
 refine gd func53 [[some (105,4),some (3,1),some (111,3),some (118,8),some (53,2),none]] 65 fun hr Γ hΓ=>?_
 rw[iv]at h;obtain⟨y1,h2,h⟩:=aD h;obtain⟨y3,h4,h⟩:=aD h;obtain⟨y5,h6,h⟩:=aD h;refine(((((aU.a [.n 13]).g (zP h2)).g (Gg h4)).g (er h6)).a [.pb 5 2 111 3,.cn [1,2,3,21,22,23] [0,1,5,2,3,6,4]]).lp hΓ (EV hΓ (fun nu h=>?_) (by have:=(dY.sl (dY.agg (hr _ (aC (i:=0) rfl)) (.sl (aB.av.map aP.c)) (by simp))).1;simpa using this) aB.av 0 ([]:b7) rfl h);refine(aU.a [.pb 2 3 118 8,.cn [2,3,41,42,43] [1,2,3,4,5,7,6]]).lp hΓ (EW hΓ (fun vr h=>?_) (by have:=(dY.sl (dY.agg (hr _ (aC (i:=0) rfl)) (.sl (aB.nodes.map Node.c)) (by simp))).1;simpa using this) aB.nodes 0 ([]:ay) rfl h);cases h;exact aU.ret hΓ
def gD(aB:Bytes)(k1:Option Bool):Nat->Int->Option Bool
 |0,_=>none
 |n1+1,nv=>(bif decide ((nv:Int)<(aB.length:Int))then((mK aB nv).bind fun b31=>(bif decide ((b31.toNat:Int)<97)then(bif decide ((b31.toNat:Int)<48)then(some false)else(bif decide ((b31.toNat:Int)>57)then(some false)else(gD aB k1 n1 (IntKind.i64.wrap (nv+1)))))else(bif decide ((b31.toNat:Int)>122)then(bif decide ((b31.toNat:Int)<48)then(some false)else(bif decide ((b31.toNat:Int)>57)then(some false)else(gD aB k1 n1 (IntKind.i64.wrap (nv+1)))))else(gD aB k1 n1 (IntKind.i64.wrap (nv+1))))))else(k1))
def fQ(aB:Bytes):Option Bool:=(bif decide (((aB.length:Int):Int)<1)then(some false)else(bif decide (((aB.length:Int):Int)>8)then(some false)else(gD aB (some true) fuel 0)))
def OM(aB:Bytes)(nv:Int):St:=⟨[(0,D.str aB),(3,D.int .i64 nv)],[]⟩
theorem Mg(hΓ:Γ.nt=40){aB:Bytes}{r:Bool}{k1:Option Bool}(cX:k1=some r->Ax Γ N f191 (.q [[none]] (D.bool r)) [1,1,1] ⟨[],[]⟩):∀(n1:Nat) (nv:Int),gD aB k1 n1 nv=some r->Ar Γ N f191 (.q [[none]] (D.bool r)) [1,1,0,1,0] n1 (OM aB nv):=by
 intro n
 induction n with
 |zero=>intro nv h;simp[gD]at h
 |succ n1 ih1=>
  intro nv h;rw[gD]at h;refine aO fun N1 bz bg=>?_
  obtain⟨h30,h⟩|⟨h30,h⟩:=aM h
  ·obtain⟨b31,h32,h⟩:=aD h;have AR:=((aU.b h30).c h32)
   obtain⟨h33,h⟩|⟨h33,h⟩:=aM h
   ·have FG:=((((AR.r 5 h33).T 3).c h32).T 2)
    obtain⟨h34,h⟩|⟨h34,h⟩:=aM h
    ·have h:=aG h;subst h;exact((((FG.r 4 h34).T 1).b h34).T 2).ret hΓ
    ·have KR:=((((((FG.r 3 h34).c h32).b h34).T 1).b h34).T 1)
     obtain⟨h35,h⟩|⟨h35,h⟩:=aM h
     ·have h:=aG h;subst h;exact(KR.b h35).ret hΓ
     ·exact((KR.b h35).a [.cn [0,3] []]).cf hΓ bg (ih1 (IntKind.i64.wrap (nv+1)) h)
   ·have AQ:=(((AR.r 3 h33).c h32).r 2 h33)
    obtain⟨h36,h⟩|⟨h36,h⟩:=aM h
    ·have IB:=(((AQ.r 3 h36).c h32).r 2 h36)
     obtain⟨h37,h⟩|⟨h37,h⟩:=aM h
     ·have h:=aG h;subst h;exact(((((IB.r 4 h37).b h36).b h37).b h36).T 1).ret hΓ
     ·have BU:=((((((IB.r 3 h37).c h32).b h37).b h36).b h37).b h36)
      obtain⟨h38,h⟩|⟨h38,h⟩:=aM h
      ·have h:=aG h;subst h;exact(BU.b h38).ret hΓ
      ·exact((BU.b h38).a [.cn [0,3] []]).cf hΓ bg (ih1 (IntKind.i64.wrap (nv+1)) h)
    ·exact(((AQ.r 7 h36).F 1).a [bF,bF,bF,bF,.cn [0,3] []]).cf hΓ bg (ih1 (IntKind.i64.wrap (nv+1)) h)
  ·exact((aU.b h30).a [.hl 0 [] []]).ex hΓ bz (cX h)
theorem eY{aB:Bytes}{r:Bool}(h:fQ aB=some r):Good prog 191 [D.str aB] (D.bool r):=by
 refine gd func191 [[none]] 40 fun hr Γ hΓ=>?_
 rw[fQ]at h;obtain⟨h1,h⟩|⟨h1,h⟩:=aM h
 ·have h:=aG h;subst h;exact((aU.r 4 h1).T 1).ret hΓ
 ·have IC:=(aU.r 4 h1)
  obtain⟨h2,h⟩|⟨h2,h⟩:=aM h
  ·have h:=aG h;subst h;exact(IC.b h2).ret hΓ
  ·refine((IC.b h2).a [.cn [0,3] []]).lp hΓ (Mg hΓ (fun h=>?_) fuel 0 h);have h:=aG h;subst h;exact aU.ret hΓ
def rz(aB:Bytes):Option Bool:=((fQ aB).bind fun y1=>(bif y1 then((mK aB 0).bind fun b4=>(some (decide ((b4.toNat:Int)>=97))))else(some false)))
theorem n9{aB:Bytes}{r:Bool}(h:rz aB=some r):Good prog 211 [D.str aB] (D.bool r):=by
 refine gd func211 [[none]] 10 fun hr Γ hΓ=>?_
 rw[rz]at h;obtain⟨y1,h2,h⟩:=aD h;obtain⟨h3,h⟩|⟨h3,h⟩:=aM h
 ·obtain⟨b4,h5,h⟩:=aD h;cases h;exact((((aU.g (eY h2)).r 2 h3).c h5).r 2 h3).ret hΓ
 ·have h:=aG h;subst h;exact((aU.g (eY h2)).r 4 h3).ret hΓ
def lY(aB:Bytes):Option Bool:=(bif decide (((aB.length:Int):Int)>1)then((mK aB 0).bind fun b2=>(bif (b2.toNat:Int)==63 then((Ps aB.length (some (D.int .i64 1)) none).bind fun p=>(fun l5 u6=>((fQ ((aB.take u6).drop l5)).bind fun y8=>(some y8))) p.1 p.2)else(some false)))else(some false))
theorem oI{aB:Bytes}{r:Bool}(h:lY aB=some r):Good prog 192 [D.str aB] (D.bool r):=by
 refine gd func192 [[none]] 16 fun hr Γ hΓ=>?_
 rw[lY]at h;obtain⟨h1,h⟩|⟨h1,h⟩:=aM h
 ·obtain⟨b2,h3,h⟩:=aD h;have kF:=(((aU.r 2 h1).c h3).r 2 h1)
  obtain⟨h4,h⟩|⟨h4,h⟩:=aM h
  ·obtain⟨⟨l5,u6⟩,h7,h⟩:=aD h;obtain⟨y8,h9,h⟩:=aD h;have h:=aG h;subst h;exact((((((kF.r 2 h4).w h7).a [.cut l5 u6]).b h4).g (eY h9)).b h4).ret hΓ
  ·have h:=aG h;subst h;exact(kF.r 4 h4).ret hΓ
 ·have h:=aG h;subst h;exact((aU.r 4 h1).F 4).ret hΓ
def jG(aB:Bytes):Option Bool:=((fQ aB).bind fun y1=>(bif y1 then(some true)else((lY aB).bind fun y4=>(some y4))))
theorem kK{aB:Bytes}{r:Bool}(h:jG aB=some r):Good prog 262 [D.str aB] (D.bool r):=by
 refine gd func262 [[none]] 9 fun hr Γ hΓ=>?_
 rw[jG]at h;obtain⟨y1,h2,h⟩:=aD h;obtain⟨h3,h⟩|⟨h3,h⟩:=aM h
 ·have h:=aG h;subst h;exact((aU.g (eY h2)).r 3 h3).ret hΓ
 ·obtain⟨y4,h5,h⟩:=aD h;have h:=aG h;subst h;exact((((aU.g (eY h2)).r 2 h3).g (oI h5)).b h3).ret hΓ
def mM(aB:aE)(k1:Option Bool):aJ->Nat->Option Bool
 | [],i1=>(k1)
 |bD::bZ,i1=>((jG bD).bind fun y25=>(bif !(y25)then(some false)else(mM aB k1 bZ (i1+1))))
def jL(aB:aE):Option Bool:=((rz aB.rel).bind fun y1=>(bif !(y1)then(some false)else(bif decide ((((aB.args.map tx).length:Int):Int)>3)then(some false)else(mM aB (some true) aB.args 0))))
def Io(aB:aE)(cT:Int):St:=⟨[(16,D.sl (aB.args.map tx)),(17,D.int .i64 ((aB.args.map tx).length:Int)),(18,D.int .i64 cT)],[]⟩
theorem Ga(hΓ:Γ.nt=26){aB:aE}{r:Bool}{k1:Option Bool}(cX:k1=some r->Ax Γ N f261 (.q [[none]] (D.bool r)) [1,1,1] ⟨[],[]⟩)(hm1:aB.args.length<=maxLen):∀(rest:aJ) (i1:Nat),aB.args.drop i1=rest->mM aB k1 rest i1=some r->Ar Γ N f261 (.q [[none]] (D.bool r)) [1,1,0,1,0] (rest.length+1) (Io aB (i1:Int)):=by
 intro rest
 induction rest with
 |nil=>
  intro i1 aj h;rw[mM]at h;refine aO fun N1 bz bg=>?_
  exact((aU.ge tx aj).a [.hl 0 [] []]).ex hΓ bz (cX h)
 |cons bD bZ ih1=>
  intro i1 aj h;rw[mM]at h;refine aO fun N1 bz bg=>?_
  obtain⟨y25,h26,h⟩:=aD h;have dJ:=(((aU.lt tx aj).l (ax tx 1 (dc aj) rfl)).g (kK h26))
  obtain⟨h27,h⟩|⟨h27,h⟩:=aM h
  ·have h:=aG h;subst h;exact(dJ.b h27).ret hΓ
  ·exact((dJ.b h27).a [.cn [16,17,18] []]).ct hΓ bg (iS aj hm1) (ih1 (i1+1) (dn aj) h)
theorem jz{aB:aE}{r:Bool}(h:jL aB=some r):Good prog 261 [D.agg (aE.c aB)] (D.bool r):=by
 refine gd func261 [[none]] 26 fun hr Γ hΓ=>?_
 rw[jL]at h;obtain⟨y1,h2,h⟩:=aD h;obtain⟨h3,h⟩|⟨h3,h⟩:=aM h
 ·have h:=aG h;subst h;exact(((aU.g (n9 h2)).r 5 h3).T 1).ret hΓ
 ·have jb:=((aU.g (n9 h2)).r 5 h3)
  obtain⟨h4,h⟩|⟨h4,h⟩:=aM h
  ·have h:=aG h;subst h;exact(jb.b h4).ret hΓ
  ·refine((jb.b h4).a [.cn [16,17,18] []]).lp hΓ (Ga hΓ (fun h=>?_) (by have:=(dY.sl (dY.agg (hr _ (aC (i:=0) rfl)) (.sl (aB.args.map tx)) (by simp))).1;simpa using this) aB.args 0 rfl h);have h:=aG h;subst h;exact aU.ret hΓ
def j0(aB:aE):Option Bool:=(bif (aB.rel:Bytes)==([])then(some ((((aB.args.map tx).length:Int):Int)==0))else(some false))
theorem oO{aB:aE}{r:Bool}(h:j0 aB=some r):Good prog 263 [D.agg (aE.c aB)] (D.bool r):=by
 refine gd func263 [[none]] 12 fun hr Γ hΓ=>?_
 rw[j0]at h;obtain⟨h1,h⟩|⟨h1,h⟩:=aM h
 ·cases h;exact(aU.r 5 h1).ret hΓ
 ·have h:=aG h;subst h;exact(aU.r 5 h1).ret hΓ
def ru(aB:aQ):Option Bool:=(bif (aB.kind:Int)==1 then((jL aB.pat).bind fun y2=>(bif y2 then(bif (aB.left:Bytes)==([])then(some ((aB.right:Bytes)==([])))else(some false))else(some false)))else(bif (aB.kind:Int)==2 then((jL aB.pat).bind fun y7=>(bif y7 then(bif (aB.left:Bytes)==([])then(some ((aB.right:Bytes)==([])))else(some false))else(some false)))else(bif (aB.kind:Int)==3 then((jG aB.left).bind fun ZB=>(bif ZB then((jG aB.right).bind fun y15=>(bif y15 then((j0 aB.pat).bind fun y18=>(some y18))else(some false)))else(some false)))else(bif (aB.kind:Int)==4 then((jG aB.left).bind fun Ri=>(bif Ri then((jG aB.right).bind fun S6=>(bif S6 then((j0 aB.pat).bind fun pY=>(some pY))else(some false)))else(some false)))else(bif (aB.kind:Int)==5 then((jG aB.left).bind fun y30=>(bif y30 then((jG aB.right).bind fun FA=>(bif FA then((j0 aB.pat).bind fun FB=>(some FB))else(some false)))else(some false)))else(some false))))))
theorem qL{aB:aQ}{r:Bool}(h:ru aB=some r):Good prog 212 [D.agg (aQ.c aB)] (D.bool r):=by
 refine gd func212 [[none]] 38 fun hr Γ hΓ=>?_
 rw[ru]at h;obtain⟨h1,h⟩|⟨h1,h⟩:=aM h
 ·obtain⟨y2,h3,h⟩:=aD h;have kF:=((aU.r 2 h1).g (jz h3))
  obtain⟨h4,h⟩|⟨h4,h⟩:=aM h
  ·have dJ:=(kF.r 4 h4)
   obtain⟨h5,h⟩|⟨h5,h⟩:=aM h
   ·cases h;exact(dJ.r 4 h5).ret hΓ
   ·have h:=aG h;subst h;exact(dJ.r 4 h5).ret hΓ
  ·have h:=aG h;subst h;exact((kF.r 4 h4).F 4).ret hΓ
 ·obtain⟨h6,h⟩|⟨h6,h⟩:=aM h
  ·obtain⟨y7,h8,h⟩:=aD h;have jb:=(((aU.b h1).b h6).g (jz h8))
   obtain⟨h9,h⟩|⟨h9,h⟩:=aM h
   ·have ia:=(jb.r 4 h9)
    obtain⟨h10,h⟩|⟨h10,h⟩:=aM h
    ·cases h;exact(ia.r 4 h10).ret hΓ
    ·have h:=aG h;subst h;exact(ia.r 4 h10).ret hΓ
   ·have h:=aG h;subst h;exact((jb.r 4 h9).F 4).ret hΓ
  ·have tq:=((aU.b h1).b h6)
   obtain⟨h11,h⟩|⟨h11,h⟩:=aM h
   ·obtain⟨ZB,h13,h⟩:=aD h;have wm:=((tq.r 2 h11).g (kK h13))
    obtain⟨h14,h⟩|⟨h14,h⟩:=aM h
    ·obtain⟨y15,h16,h⟩:=aD h;have AR:=(((wm.r 3 h14).g (kK h16)).b h14)
     obtain⟨h17,h⟩|⟨h17,h⟩:=aM h
     ·obtain⟨y18,h19,h⟩:=aD h;have h:=aG h;subst h;exact(((AR.r 3 h17).g (oO h19)).b h17).ret hΓ
     ·have h:=aG h;subst h;exact(AR.r 4 h17).ret hΓ
    ·have h:=aG h;subst h;exact((wm.r 4 h14).F 4).ret hΓ
   ·obtain⟨h20,h⟩|⟨h20,h⟩:=aM h
    ·obtain⟨Ri,h22,h⟩:=aD h;have FG:=(((tq.b h11).r 2 h20).g (kK h22))
     obtain⟨h23,h⟩|⟨h23,h⟩:=aM h
     ·obtain⟨S6,h25,h⟩:=aD h;have KR:=(((FG.r 3 h23).g (kK h25)).b h23)
      obtain⟨h26,h⟩|⟨h26,h⟩:=aM h
      ·obtain⟨pY,h28,h⟩:=aD h;have h:=aG h;subst h;exact(((KR.r 3 h26).g (oO h28)).b h26).ret hΓ
      ·have h:=aG h;subst h;exact(KR.r 4 h26).ret hΓ
     ·have h:=aG h;subst h;exact((FG.r 4 h23).F 4).ret hΓ
    ·have AQ:=((tq.b h11).b h20)
     obtain⟨h29,h⟩|⟨h29,h⟩:=aM h
     ·obtain⟨y30,h31,h⟩:=aD h;have IB:=((AQ.b h29).g (kK h31))
      obtain⟨h32,h⟩|⟨h32,h⟩:=aM h
      ·obtain⟨FA,h34,h⟩:=aD h;have BU:=(((IB.r 3 h32).g (kK h34)).b h32)
       obtain⟨h35,h⟩|⟨h35,h⟩:=aM h
       ·obtain⟨FB,h37,h⟩:=aD h;have h:=aG h;subst h;exact(((BU.r 3 h35).g (oO h37)).b h35).ret hΓ
       ·have h:=aG h;subst h;exact(BU.r 4 h35).ret hΓ
      ·have h:=aG h;subst h;exact((IB.r 4 h32).F 4).ret hΓ
     ·have h:=aG h;subst h;exact(AQ.b h29).ret hΓ
def fq(aB:aJ)(k1:aJ->Option aJ):aJ->Nat->aJ->Option aJ
 | [],i1,bC=>(k1 bC)
 |bD::bZ,i1,bC=>((lY bD).bind fun BF=>(bif BF then(bif room ((bC.map tx).length+([[D.str bD]]).length) 16 then(fq aB k1 bZ (i1+1) (bC++([bD])))else none)else(fq aB k1 bZ (i1+1) bC)))
def nF(aB:aJ):Option aJ:=(fq aB (fun(bQ:aJ)=>(some bQ)) aB 0 ([]:aJ))
def B7(aB:aJ)(W0:List aR)(cT:Int):St:=⟨[(3,D.acc 0),(6,D.sl (aB.map tx)),(7,D.int .i64 ((aB.map tx).length:Int)),(8,D.int .i64 cT)],[Ob.row .uq 9 1 W0]⟩
theorem Gt(hΓ:Γ.nt=20){aB:aJ}{r:aJ}{k1:aJ->Option aJ}(cX:∀(bQ:aJ),k1 bQ=some r->Ax Γ N f216 (.q [[some (9,1)]] (D.fr 9 1 (r.map tx))) [1,1,1] ⟨[(3,D.acc 0)],[Ob.row .uq 9 1 (bQ.map tx)]⟩)(hm1:aB.length<=maxLen):∀(rest:aJ) (i1:Nat) (bC:aJ),aB.drop i1=rest->fq aB k1 rest i1 bC=some r->Ar Γ N f216 (.q [[some (9,1)]] (D.fr 9 1 (r.map tx))) [1,1,0,1,0] (rest.length+1) (B7 aB (bC.map tx) (i1:Int)):=by
 intro rest
 induction rest with
 |nil=>
  intro i1 bC aj h;rw[fq]at h;refine aO fun N1 bz bg=>?_
  exact((aU.ge tx aj).a [.hl 0 [3] [0]]).ex hΓ bz (cX bC h)
 |cons bD bZ ih1=>
  intro i1 bC aj h;rw[fq]at h;refine aO fun N1 bz bg=>?_
  obtain⟨BF,h33,h⟩:=aD h;have dJ:=(((aU.lt tx aj).l (ax tx 1 (dc aj) rfl)).g (oI h33))
  obtain⟨h34,h⟩|⟨h34,h⟩:=aM h
  ·obtain⟨h35,h⟩:=bV h;exact(((dJ.b h34).w (cB h35)).a [.cn [3,6,7,8] [2]]).cs hΓ bg (B7 aB ((bC.map tx)++([[D.str bD]])) (IntKind.i64.wrap ((i1:Int)+1))) (by first| (simp only[iS aj hm1,mA]<;>rfl)| (simp only[iS aj hm1,mA,aE.c,aS.c,aQ.c,Action.c,aN.c,aI.c,cu.c,aP.c,Node.c,aF.c,cw.c]<;>rfl)) (ih1 (i1+1) (bC++([bD])) (dn aj) h)
  ·exact((dJ.b h34).a [.cn [3,6,7,8] [0]]).ct hΓ bg (iS aj hm1) (ih1 (i1+1) bC (dn aj) h)
theorem vg{aB:aJ}{r:aJ}(h:nF aB=some r):Good prog 216 [D.sl (aB.map tx)] (D.fr 9 1 (r.map tx)):=by
 refine gd func216 [[some (9,1)]] 20 fun hr Γ hΓ=>?_
 rw[nF]at h;refine(aU.a [.Pt 3,.cn [3,6,7,8] [0]]).lp hΓ (Gt hΓ (fun bQ h=>?_) (by have:=(dY.sl (hr _ (aC (i:=0) rfl))).1;simpa using this) aB 0 ([]:aJ) rfl h);have h:=aG h;subst h;exact aU.ret hΓ
def eC(aB:aJ)(k1:aJ->Option aJ):aJ->Nat->aJ->Option aJ
 | [],i1,bu=>(k1 bu)
 |bD::bZ,i1,bu=>(bif ((i1:Int):Int)==0 then(bif room ((bu.map tx).length+([[D.str bD]]).length) 16 then(eC aB k1 bZ (i1+1) (bu++([bD])))else none)else((mK (ol (([]:aJ)++aB)) (IntKind.i64.wrap ((i1:Int)-1))).bind fun x47=>(bif !((x47:Bytes)==bD)then(bif room ((bu.map tx).length+([[D.str bD]]).length) 16 then(eC aB k1 bZ (i1+1) (bu++([bD])))else none)else(eC aB k1 bZ (i1+1) bu))))
def kM(aB:aJ):Option aJ:=(bif room (([]:List aR).length+(aB.map tx).length) 16 then(bif decide ((([]:aJ)++aB).length<4611686018427387904)then(bif decide ((ol (([]:aJ)++aB)).length<=maxLen)then(eC aB (fun(bQ:aJ)=>(some bQ)) (ol (([]:aJ)++aB)) 0 ([]:aJ))else none)else none)else none)
def vc(aB:aJ)(W0:List aR)(cT:Int):St:=⟨[(3,D.acc 0),(4,D.acc 1),(11,D.acc 0),(12,D.int .i64 (((ol (([]:aJ)++aB)).map tx).length:Int)),(13,D.int .i64 cT)],[Ob.row .uq 9 1 ((ol (([]:aJ)++aB)).map tx),Ob.row .uq 9 1 W0]⟩
theorem ET(hΓ:Γ.nt=35){aB:aJ}{r:aJ}{k1:aJ->Option aJ}(cX:∀(bQ:aJ),k1 bQ=some r->Ax Γ N f218 (.q [[some (9,1)]] (D.fr 9 1 (r.map tx))) [1,1,1,1,1] ⟨[(4,D.acc 0)],[Ob.row .uq 9 1 (bQ.map tx)]⟩)(hm1:(ol (([]:aJ)++aB)).length<=maxLen):∀(rest:aJ) (i1:Nat) (bu:aJ),(ol (([]:aJ)++aB)).drop i1=rest->eC aB k1 rest i1 bu=some r->Ar Γ N f218 (.q [[some (9,1)]] (D.fr 9 1 (r.map tx))) [1,1,1,1,0,1,0] (rest.length+1) (vc aB (bu.map tx) (i1:Int)):=by
 intro rest
 induction rest with
 |nil=>
  intro i1 bu aj h;rw[eC]at h;refine aO fun N1 bz bg=>?_
  exact((aU.ge tx aj).a [.hl 0 [4] [1]]).ex hΓ bz (cX bu h)
 |cons bD bZ ih1=>
  intro i1 bu aj h;rw[eC]at h;refine aO fun N1 bz bg=>?_
  have jb:=(((aU.lt tx aj).i (pP tx 1 (dc aj))).o 1 1 .uq (dG tx (dc aj)))
  obtain⟨h45,h⟩|⟨h45,h⟩:=aM h
  ·obtain⟨h46,h⟩:=bV h;exact((((jb.r 8 h45).T 1).w (cB h46)).a [.cn [3,4,11,12,13] [0,3]]).cs hΓ bg (vc aB ((bu.map tx)++([[D.str bD]])) (IntKind.i64.wrap ((i1:Int)+1))) (by first| (simp only[iS aj hm1,mA]<;>rfl)| (simp only[iS aj hm1,mA,aE.c,aS.c,aQ.c,Action.c,aN.c,aI.c,cu.c,aP.c,Node.c,aF.c,cw.c]<;>rfl)) (ih1 (i1+1) (bu++([bD])) (dn aj) h)
  ·obtain⟨x47,h48,h⟩:=aD h;have ia:=(((((jb.r 4 h45).i (yO tx 1 h48)).b h45).o 1 1 .uq (dG tx (uC h48))).r 3 h45)
   obtain⟨h49,h⟩|⟨h49,h⟩:=aM h
   ·obtain⟨h50,h⟩:=bV h;exact(((ia.b h49).w (cB h50)).a [.cn [3,4,11,12,13] [0,3]]).cs hΓ bg (vc aB ((bu.map tx)++([[D.str bD]])) (IntKind.i64.wrap ((i1:Int)+1))) (by first| (simp only[iS aj hm1,mA]<;>rfl)| (simp only[iS aj hm1,mA,aE.c,aS.c,aQ.c,Action.c,aN.c,aI.c,cu.c,aP.c,Node.c,aF.c,cw.c]<;>rfl)) (ih1 (i1+1) (bu++([bD])) (dn aj) h)
   ·exact((ia.b h49).a [.cn [3,4,11,12,13] [0,1]]).ct hΓ bg (iS aj hm1) (ih1 (i1+1) bu (dn aj) h)
theorem sw{aB:aJ}{r:aJ}(h:kM aB=some r):Good prog 218 [D.sl (aB.map tx)] (D.fr 9 1 (r.map tx)):=by
 refine gd func218 [[some (9,1)]] 35 fun hr Γ hΓ=>?_
 rw[kM]at h;obtain⟨h1,h⟩:=bV h;obtain⟨h2,h⟩:=bV h;obtain⟨h51,h⟩:=bV h;refine(((((aU.w (cB h1)).w (show(∀r∈(aB.map tx),r.length=1)/\(true=true->D.oA (aB.map tx)=true)from⟨by first|simp| (intro r hr;obtain⟨x,_,rfl⟩:=cJ.1 (cH (gP hr));rfl),by simp[D.oA,D.flat]⟩)).w (show(([]:List aR)++(aB.map tx)).flatten.all D.flat=true from by simpa only[bN,bG,bW]using V8 (([]:aJ)++aB))).w (show UZ prog 266 9 1 (([]:List aR)++(aB.map tx)) ((ol (([]:aJ)++aB)).map tx)from by simpa only[bN,bG,bW]using(Je (e:=9) (bt h2)))).a [.fl true,.mu 0 ((ol (([]:aJ)++aB)).map tx),.Pt 4,.cn [3,4,11,12,13] [0,1]]).lp hΓ (ET hΓ (fun bQ h=>?_) (bt h51) (ol (([]:aJ)++aB)) 0 ([]:aJ) rfl h);have h:=aG h;subst h;exact aU.ret hΓ
def ey(aB:aN)(aW:Int)(k1:aJ->Option aJ):aq->Nat->aJ->Option aJ
 | [],i1,bC=>(k1 bC)
 |bD::bZ,i1,bC=>(bif decide (((i1:Int):Int)<aW)then(bif (bD.kind:Int)==1 then((nF bD.pat.args).bind fun O9=>(bif room ((bC.map tx).length+(O9.map tx).length) 16 then(ey aB aW k1 bZ (i1+1) (bC++O9))else none))else(ey aB aW k1 bZ (i1+1) bC))else(ey aB aW k1 bZ (i1+1) bC))
def pq(aB:aN)(aW:Int):Option aJ:=(ey aB aW (fun(bQ:aJ)=>((kM bQ).bind fun y42=>(some y42))) aB.conds 0 ([]:aJ))
def B1(aB:aN)(aW:Int)(W0:List aR)(cT:Int):St:=⟨[(1,D.int .i64 aW),(5,D.acc 0),(9,D.sl (aB.conds.map aQ.c)),(10,D.int .i64 ((aB.conds.map aQ.c).length:Int)),(11,D.int .i64 cT)],[Ob.row .uq 9 1 W0]⟩
theorem GV(hΓ:Γ.nt=33){aB:aN}{aW:Int}{r:aJ}{k1:aJ->Option aJ}(cX:∀(bQ:aJ),k1 bQ=some r->Ax Γ N f214 (.q [[some (9,1)]] (D.fr 9 1 (r.map tx))) [1,1,1] ⟨[(5,D.acc 0)],[Ob.row .uq 9 1 (bQ.map tx)]⟩)(hm1:aB.conds.length<=maxLen):∀(rest:aq) (i1:Nat) (bC:aJ),aB.conds.drop i1=rest->ey aB aW k1 rest i1 bC=some r->Ar Γ N f214 (.q [[some (9,1)]] (D.fr 9 1 (r.map tx))) [1,1,0,1,0] (rest.length+1) (B1 aB aW (bC.map tx) (i1:Int)):=by
 intro rest
 induction rest with
 |nil=>
  intro i1 bC aj h;rw[ey]at h;refine aO fun N1 bz bg=>?_
  exact((aU.ge aQ.c aj).a [.hl 0 [5] [0]]).ex hΓ bz (cX bC h)
 |cons bD bZ ih1=>
  intro i1 bC aj h;rw[ey]at h;refine aO fun N1 bz bg=>?_
  have jb:=((aU.lt aQ.c aj).l (ax aQ.c 5 (dc aj) rfl))
  obtain⟨h37,h⟩|⟨h37,h⟩:=aM h
  ·have ia:=(jb.r 4 h37)
   obtain⟨h38,h⟩|⟨h38,h⟩:=aM h
   ·obtain⟨O9,h40,h⟩:=aD h;obtain⟨h41,h⟩:=bV h;exact((((ia.b h38).g (vg h40)).w (cB h41)).a [.cn [1,5,9,10,11] [3]]).cs hΓ bg (B1 aB aW ((bC.map tx)++(O9.map tx)) (IntKind.i64.wrap ((i1:Int)+1))) (by first| (simp only[iS aj hm1,mA]<;>rfl)| (simp only[iS aj hm1,mA,aE.c,aS.c,aQ.c,Action.c,aN.c,aI.c,cu.c,aP.c,Node.c,aF.c,cw.c]<;>rfl)) (ih1 (i1+1) (bC++O9) (dn aj) h)
   ·exact((ia.b h38).a [.cn [1,5,9,10,11] [0]]).ct hΓ bg (iS aj hm1) (ih1 (i1+1) bC (dn aj) h)
  ·exact(((jb.r 4 h37).F 1).a [.cn [1,5,9,10,11] [0]]).ct hΓ bg (iS aj hm1) (ih1 (i1+1) bC (dn aj) h)
theorem zL{aB:aN}{aW:Int}{r:aJ}(h:pq aB aW=some r):Good prog 214 [D.agg (aN.c aB),D.int .i64 aW] (D.fr 9 1 (r.map tx)):=by
 refine gd func214 [[some (9,1)]] 33 fun hr Γ hΓ=>?_
 rw[pq]at h;refine(aU.a [.Pt 5,.cn [1,5,9,10,11] [1]]).lp hΓ (GV hΓ (fun bQ h=>?_) (by have:=(dY.sl (dY.agg (hr _ (aC (i:=0) rfl)) (.sl (aB.conds.map aQ.c)) (by simp))).1;simpa using this) aB.conds 0 ([]:aJ) rfl h);obtain⟨y42,h43,h⟩:=aD h;have h:=aG h;subst h;exact(aU.g (sw h43)).ret hΓ
def tE(aB:aQ):Option aJ:=((nD aB.pat.args).bind fun y1=>(bif room ((y1.map tx).length+(([aB.left,aB.right]:aJ).map tx).length) 16 then(some (y1++([aB.left,aB.right]:aJ)))else none))
theorem B6{aB:aQ}{r:aJ}(h:tE aB=some r):Good prog 189 [D.agg (aQ.c aB)] (D.fr 9 1 (r.map tx)):=by
 refine gd func189 [[some (9,1)]] 13 fun hr Γ hΓ=>?_
 rw[tE]at h;obtain⟨y1,h2,h⟩:=aD h;obtain⟨h3,h⟩:=bV h;cases h;exact(((aU.a [.Pt 2,.n 9]).g (vf h2)).w (cB h3)).rts hΓ (D.fr 9 1 ((y1.map tx)++(([aB.left,aB.right]:aJ).map tx))) (by first|rfl| (simp only[mA]<;>rfl)| (simp only[cW,mA]<;>rfl))
def oo(aB:aQ):Option aJ:=((tE aB).bind fun y1=>((nF y1).bind fun y3=>((kM y3).bind fun y5=>(some y5))))
theorem wK{aB:aQ}{r:aJ}(h:oo aB=some r):Good prog 264 [D.agg (aQ.c aB)] (D.fr 9 1 (r.map tx)):=by
 refine gd func264 [[some (9,1)]] 7 fun hr Γ hΓ=>?_
 rw[oo]at h;obtain⟨y1,h2,h⟩:=aD h;obtain⟨y3,h4,h⟩:=aD h;obtain⟨y5,h6,h⟩:=aD h;have h:=aG h;subst h;exact(((aU.g (B6 h2)).g (vg h4)).g (sw h6)).ret hΓ
def lm(aB:aJ)(aW:Bytes)(k1:Option Bool):aJ->Nat->Option Bool
 | [],i1=>(k1)
 |bD::bZ,i1=>(bif (bD:Bytes)==aW then(some true)else(lm aB aW k1 bZ (i1+1)))
def lg(aB:aJ)(aW:Bytes):Option Bool:=(lm aB aW (some false) aB 0)
def Mq(aB:aJ)(aW:Bytes)(cT:Int):St:=⟨[(1,D.str aW),(7,D.sl (aB.map tx)),(8,D.int .i64 ((aB.map tx).length:Int)),(9,D.int .i64 cT)],[]⟩
theorem Kx(hΓ:Γ.nt=17){aB:aJ}{aW:Bytes}{r:Bool}{k1:Option Bool}(cX:k1=some r->Ax Γ N f217 (.q [[none]] (D.bool r)) [1,1] ⟨[],[]⟩)(hm1:aB.length<=maxLen):∀(rest:aJ) (i1:Nat),aB.drop i1=rest->lm aB aW k1 rest i1=some r->Ar Γ N f217 (.q [[none]] (D.bool r)) [1,0,1,0] (rest.length+1) (Mq aB aW (i1:Int)):=by
 intro rest
 induction rest with
 |nil=>
  intro i1 aj h;rw[lm]at h;refine aO fun N1 bz bg=>?_
  exact((aU.ge tx aj).a [.hl 0 [] []]).ex hΓ bz (cX h)
 |cons bD bZ ih1=>
  intro i1 aj h;rw[lm]at h;refine aO fun N1 bz bg=>?_
  have dJ:=((aU.lt tx aj).l (ax tx 1 (dc aj) rfl))
  obtain⟨h13,h⟩|⟨h13,h⟩:=aM h
  ·have h:=aG h;subst h;exact(dJ.b h13).ret hΓ
  ·exact((dJ.b h13).a [.cn [1,7,8,9] []]).ct hΓ bg (iS aj hm1) (ih1 (i1+1) (dn aj) h)
theorem sQ{aB:aJ}{aW:Bytes}{r:Bool}(h:lg aB aW=some r):Good prog 217 [D.sl (aB.map tx),D.str aW] (D.bool r):=by
 refine gd func217 [[none]] 17 fun hr Γ hΓ=>?_
 rw[lg]at h;refine(aU.a [.cn [1,7,8,9] []]).lp hΓ (Kx hΓ (fun h=>?_) (by have:=(dY.sl (hr _ (aC (i:=0) rfl))).1;simpa using this) aB 0 rfl h);have h:=aG h;subst h;exact aU.ret hΓ
def eM(aB:aN)(aW:Int)(cY:Bytes)(k1:Option Bool):aq->Nat->Option Bool
 | [],i1=>(k1)
 |bD::bZ,i1=>(bif ((i1:Int):Int) != aW then((oo bD).bind fun Ce=>((lg Ce cY).bind fun FB=>(bif FB then(some true)else(eM aB aW cY k1 bZ (i1+1)))))else(eM aB aW cY k1 bZ (i1+1)))
def fC(aB:aN)(cY:Bytes)(k2:Option Bool):c8->Nat->Option Bool
 | [],i2=>(k2)
 |lV::wu,i2=>((lg lV.pat.args cY).bind fun y59=>(bif y59 then(some true)else(fC aB cY k2 wu (i2+1))))
def lq(aB:aN)(aW:Int)(cY:Bytes):Option Bool:=(eM aB aW cY (fC aB cY (some false) aB.cv 0) aB.conds 0)
def CY(aB:aN)(aW:Int)(cY:Bytes)(cT:Int):St:=⟨[(1,D.int .i64 aW),(2,D.str cY),(3,D.ptr 0 0),(12,D.sl (aB.conds.map aQ.c)),(13,D.int .i64 ((aB.conds.map aQ.c).length:Int)),(14,D.int .i64 cT)],[Ob.box (aN.c aB)]⟩
theorem Bx(hΓ:Γ.nt=42){aB:aN}{aW:Int}{cY:Bytes}{r:Bool}{k1:Option Bool}(cX:k1=some r->Ax Γ N f265 (.q [[none]] (D.bool r)) [1,1] ⟨[(2,D.str cY),(3,D.ptr 0 0)],[Ob.box (aN.c aB)]⟩)(hm1:aB.conds.length<=maxLen):∀(rest:aq) (i1:Nat),aB.conds.drop i1=rest->eM aB aW cY k1 rest i1=some r->Ar Γ N f265 (.q [[none]] (D.bool r)) [1,0,1,0] (rest.length+1) (CY aB aW cY (i1:Int)):=by
 intro rest
 induction rest with
 |nil=>
  intro i1 aj h;rw[eM]at h;refine aO fun N1 bz bg=>?_
  exact((aU.ge aQ.c aj).a [.hl 0 [2,3] [0]]).ex hΓ bz (cX h)
 |cons bD bZ ih1=>
  intro i1 aj h;rw[eM]at h;refine aO fun N1 bz bg=>?_
  have ia:=((aU.lt aQ.c aj).l (ax aQ.c 5 (dc aj) rfl))
  obtain⟨h33,h⟩|⟨h33,h⟩:=aM h
  ·obtain⟨Ce,h35,h⟩:=aD h;obtain⟨FB,h37,h⟩:=aD h;have tq:=(((((ia.r 2 h33).g (wK h35)).r 2 h33).g (sQ h37)).b h33)
   obtain⟨h38,h⟩|⟨h38,h⟩:=aM h
   ·have h:=aG h;subst h;exact(tq.b h38).ret hΓ
   ·exact((tq.b h38).a [.cn [1,2,3,12,13,14] [0]]).ct hΓ bg (iS aj hm1) (ih1 (i1+1) (dn aj) h)
  ·exact(((ia.r 5 h33).F 1).a [.cn [1,2,3,12,13,14] [0]]).ct hΓ bg (iS aj hm1) (ih1 (i1+1) (dn aj) h)
def CZ(aB:aN)(cY:Bytes)(cT:Int):St:=⟨[(2,D.str cY),(30,D.sl (aB.cv.map Action.c)),(31,D.int .i64 ((aB.cv.map Action.c).length:Int)),(32,D.int .i64 cT)],[]⟩
theorem By(hΓ:Γ.nt=42){aB:aN}{cY:Bytes}{r:Bool}{k2:Option Bool}(Cn:k2=some r->Ax Γ N f265 (.q [[none]] (D.bool r)) [1,1,1] ⟨[],[]⟩)(hm2:aB.cv.length<=maxLen):∀(rest:c8) (i2:Nat),aB.cv.drop i2=rest->fC aB cY k2 rest i2=some r->Ar Γ N f265 (.q [[none]] (D.bool r)) [1,1,0,1,0] (rest.length+1) (CZ aB cY (i2:Int)):=by
 intro rest
 induction rest with
 |nil=>
  intro i2 hd2 h;rw[fC]at h;refine aO fun N2 xo uz=>?_
  exact((aU.ge Action.c hd2).a [.hl 0 [] []]).ex hΓ xo (Cn h)
 |cons lV wu ih2=>
  intro i2 hd2 h;rw[fC]at h;refine aO fun N2 xo uz=>?_
  obtain⟨y59,h60,h⟩:=aD h;have wm:=(((aU.lt Action.c hd2).l (ax Action.c 3 (dc hd2) rfl)).g (sQ h60))
  obtain⟨h61,h⟩|⟨h61,h⟩:=aM h
  ·have h:=aG h;subst h;exact(wm.b h61).ret hΓ
  ·exact((wm.b h61).a [.cn [2,30,31,32] []]).ct hΓ uz (iS hd2 hm2) (ih2 (i2+1) (dn hd2) h)
theorem BQ{aB:aN}{aW:Int}{cY:Bytes}{r:Bool}(h:lq aB aW cY=some r):Good prog 265 [D.agg (aN.c aB),D.int .i64 aW,D.str cY] (D.bool r):=by
 refine gd func265 [[none]] 42 fun hr Γ hΓ=>?_
 rw[lq]at h;refine(aU.a [.cn [1,2,3,12,13,14] [0]]).lp hΓ (Bx hΓ (fun h=>?_) (by have:=(dY.sl (dY.agg (hr _ (aC (i:=0) rfl)) (.sl (aB.conds.map aQ.c)) (by simp))).1;simpa using this) aB.conds 0 rfl h);refine(aU.a [.cn [2,30,31,32] []]).lp hΓ (By hΓ (fun h=>?_) (by have:=(dY.sl (dY.agg (hr _ (aC (i:=0) rfl)) (.sl (aB.cv.map Action.c)) (by simp))).1;simpa using this) aB.cv 0 rfl h);have h:=aG h;subst h;exact aU.ret hΓ
def gf(aB:aN)(aW:Int)(x1:aQ)(y3:aJ)(y5:aJ)(k1:Option Bool):aJ->Nat->Option Bool
 | [],i1=>(k1)
 |bD::bZ,i1=>(bif (x1.kind:Int)==1 then(gf aB aW x1 y3 y5 k1 bZ (i1+1))else((lg y3 bD).bind fun MQ=>(bif MQ then(gf aB aW x1 y3 y5 k1 bZ (i1+1))else(bif (x1.kind:Int) != 2 then(some false)else((lq aB aW bD).bind fun y53=>(bif y53 then(some false)else(gf aB aW x1 y3 y5 k1 bZ (i1+1))))))))
def qz(aB:aN)(aW:Int):Option Bool:=((mK aB.conds aW).bind fun x1=>((pq aB aW).bind fun y3=>((oo x1).bind fun y5=>(bif decide (y5.length<=maxLen)then(gf aB aW x1 y3 y5 (some true) y5 0)else none))))
def Kw(aB:aN)(aW:Int)(x1:aQ)(y3:aJ)(y5:aJ)(cT:Int):St:=⟨[(1,D.int .i64 aW),(2,D.ptr 0 0),(5,D.ptr 1 0),(6,D.acc 2),(18,D.acc 3),(19,D.int .i64 ((y5.map tx).length:Int)),(20,D.int .i64 cT)],[Ob.box (aN.c aB),Ob.box [D.int .i64 x1.kind,D.str x1.pat.rel,D.sl (x1.pat.args.map tx),D.str x1.left,D.str x1.right],Ob.row .uq 9 1 (y3.map tx),Ob.row .uq 9 1 (y5.map tx)]⟩
theorem Iu(hΓ:Γ.nt=42){aB:aN}{aW:Int}{x1:aQ}{y3:aJ}{y5:aJ}{r:Bool}{k1:Option Bool}(cX:k1=some r->Ax Γ N f213 (.q [[none]] (D.bool r)) [1,1,1,1] ⟨[],[]⟩)(hm1:y5.length<=maxLen):∀(rest:aJ) (i1:Nat),y5.drop i1=rest->gf aB aW x1 y3 y5 k1 rest i1=some r->Ar Γ N f213 (.q [[none]] (D.bool r)) [1,1,1,0,1,0] (rest.length+1) (Kw aB aW x1 y3 y5 (i1:Int)):=by
 intro rest
 induction rest with
 |nil=>
  intro i1 aj h;rw[gf]at h;refine aO fun N1 bz bg=>?_
  exact((aU.ge tx aj).a [.hl 0 [] []]).ex hΓ bz (cX h)
 |cons bD bZ ih1=>
  intro i1 aj h;rw[gf]at h;refine aO fun N1 bz bg=>?_
  have ia:=(((aU.lt tx aj).i (pP tx 1 (dc aj))).o 1 1 .uq (dG tx (dc aj)))
  obtain⟨h48,h⟩|⟨h48,h⟩:=aM h
  ·exact(((ia.r 4 h48).T 1).a [.cn [1,2,5,6,18,19,20] [0,1,2,3]]).ct hΓ bg (iS aj hm1) (ih1 (i1+1) (dn aj) h)
  ·obtain⟨MQ,h50,h⟩:=aD h;have tq:=(((ia.r 3 h48).g (sQ h50)).b h48)
   obtain⟨h51,h⟩|⟨h51,h⟩:=aM h
   ·exact((tq.b h51).a [.cn [1,2,5,6,18,19,20] [0,1,2,3]]).ct hΓ bg (iS aj hm1) (ih1 (i1+1) (dn aj) h)
   ·obtain⟨h52,h⟩|⟨h52,h⟩:=aM h
    ·have h:=aG h;subst h;exact(((tq.b h51).r 5 h52).T 1).ret hΓ
    ·obtain⟨y53,h54,h⟩:=aD h;have wm:=((((tq.b h51).r 4 h52).g (BQ h54)).b h52)
     obtain⟨h55,h⟩|⟨h55,h⟩:=aM h
     ·have h:=aG h;subst h;exact(wm.b h55).ret hΓ
     ·exact((wm.b h55).a [.cn [1,2,5,6,18,19,20] [0,1,2,3]]).ct hΓ bg (iS aj hm1) (ih1 (i1+1) (dn aj) h)
theorem A9{aB:aN}{aW:Int}{r:Bool}(h:qz aB aW=some r):Good prog 213 [D.agg (aN.c aB),D.int .i64 aW] (D.bool r):=by
 refine gd func213 [[none]] 42 fun hr Γ hΓ=>?_
 rw[qz]at h;obtain⟨x1,h2,h⟩:=aD h;obtain⟨y3,h4,h⟩:=aD h;obtain⟨y5,h6,h⟩:=aD h;obtain⟨h56,h⟩:=bV h;refine((((aU.l (dl aQ.c 5 h2 rfl)).g (zL h4)).g (wK h6)).a [.cn [1,2,5,6,18,19,20] [0,1,2,3]]).lp hΓ (Iu hΓ (fun h=>?_) (bt h56) y5 0 rfl h);have h:=aG h;subst h;exact aU.ret hΓ
def uT(aB:Action):Option Bool:=(bif (aB.kind:Int)==1 then((jL aB.pat).bind fun y2=>(some y2))else(bif (aB.kind:Int)==2 then((jL aB.pat).bind fun y5=>(some y5))else(bif (aB.kind:Int)==3 then((j0 aB.pat).bind fun y8=>(some y8))else(some false))))
theorem GY{aB:Action}{r:Bool}(h:uT aB=some r):Good prog 215 [D.agg (Action.c aB)] (D.bool r):=by
 refine gd func215 [[none]] 16 fun hr Γ hΓ=>?_
 rw[uT]at h;obtain⟨h1,h⟩|⟨h1,h⟩:=aM h
 ·obtain⟨y2,h3,h⟩:=aD h;have h:=aG h;subst h;exact((aU.r 2 h1).g (jz h3)).ret hΓ
 ·obtain⟨h4,h⟩|⟨h4,h⟩:=aM h
  ·obtain⟨y5,h6,h⟩:=aD h;have h:=aG h;subst h;exact(((aU.b h1).b h4).g (jz h6)).ret hΓ
  ·have kF:=((aU.b h1).b h4)
   obtain⟨h7,h⟩|⟨h7,h⟩:=aM h
   ·obtain⟨y8,h9,h⟩:=aD h;have h:=aG h;subst h;exact((kF.b h7).g (oO h9)).ret hΓ
   ·have h:=aG h;subst h;exact(kF.b h7).ret hΓ
def gR(aB:aq)(k1:aJ->Option aJ):aq->Nat->aJ->Option aJ
 | [],i1,bC=>(k1 bC)
 |bD::bZ,i1,bC=>((oo bD).bind fun pY=>(bif room ((bC.map tx).length+(pY.map tx).length) 16 then(gR aB k1 bZ (i1+1) (bC++pY))else none))
def rM(aB:aq):Option aJ:=(gR aB (fun(bQ:aJ)=>(some bQ)) aB 0 ([]:aJ))
def AA(aB:aq)(W0:List aR)(cT:Int):St:=⟨[(3,D.acc 0),(6,D.sl (aB.map aQ.c)),(7,D.int .i64 ((aB.map aQ.c).length:Int)),(8,D.int .i64 cT)],[Ob.row .uq 9 1 W0]⟩
theorem FY(hΓ:Γ.nt=18){aB:aq}{r:aJ}{k1:aJ->Option aJ}(cX:∀(bQ:aJ),k1 bQ=some r->Ax Γ N f219 (.q [[some (9,1)]] (D.fr 9 1 (r.map tx))) [1,1,1] ⟨[(3,D.acc 0)],[Ob.row .uq 9 1 (bQ.map tx)]⟩)(hm1:aB.length<=maxLen):∀(rest:aq) (i1:Nat) (bC:aJ),aB.drop i1=rest->gR aB k1 rest i1 bC=some r->Ar Γ N f219 (.q [[some (9,1)]] (D.fr 9 1 (r.map tx))) [1,1,0,1,0] (rest.length+1) (AA aB (bC.map tx) (i1:Int)):=by
 intro rest
 induction rest with
 |nil=>
  intro i1 bC aj h;rw[gR]at h;refine aO fun N1 bz bg=>?_
  exact((aU.ge aQ.c aj).a [.hl 0 [3] [0]]).ex hΓ bz (cX bC h)
 |cons bD bZ ih1=>
  intro i1 bC aj h;rw[gR]at h;refine aO fun N1 bz bg=>?_
  obtain⟨pY,h28,h⟩:=aD h;obtain⟨h29,h⟩:=bV h;exact(((((aU.lt aQ.c aj).l (ax aQ.c 5 (dc aj) rfl)).g (wK h28)).w (cB h29)).a [.cn [3,6,7,8] [3]]).cs hΓ bg (AA aB ((bC.map tx)++(pY.map tx)) (IntKind.i64.wrap ((i1:Int)+1))) (by first| (simp only[iS aj hm1,mA]<;>rfl)| (simp only[iS aj hm1,mA,aE.c,aS.c,aQ.c,Action.c,aN.c,aI.c,cu.c,aP.c,Node.c,aF.c,cw.c]<;>rfl)) (ih1 (i1+1) (bC++pY) (dn aj) h)
theorem EU{aB:aq}{r:aJ}(h:rM aB=some r):Good prog 219 [D.sl (aB.map aQ.c)] (D.fr 9 1 (r.map tx)):=by
 refine gd func219 [[some (9,1)]] 18 fun hr Γ hΓ=>?_
 rw[rM]at h;refine(aU.a [.Pt 3,.cn [3,6,7,8] [0]]).lp hΓ (FY hΓ (fun bQ h=>?_) (by have:=(dY.sl (hr _ (aC (i:=0) rfl))).1;simpa using this) aB 0 ([]:aJ) rfl h);have h:=aG h;subst h;exact aU.ret hΓ
def jM(aB:aN)(k1:Option Bool):aq->Nat->Option Bool
 | [],i1=>(k1)
 |bD::bZ,i1=>((ru bD).bind fun y62=>(bif !(y62)then(some false)else(bif ((i1:Int):Int)==0 then(bif (bD.kind:Int) != 1 then(some false)else((qz aB (i1:Int)).bind fun y67=>(bif !(y67)then(some false)else(jM aB k1 bZ (i1+1)))))else((qz aB (i1:Int)).bind fun y70=>(bif !(y70)then(some false)else(jM aB k1 bZ (i1+1)))))))
def nB(aB:aN)(MR:aJ)(i2:Nat)(DI:aJ)(k3:Option Bool):aJ->Nat->Option Bool
 | [],i3=>(k3)
 |WS::UM,i3=>((lg MR WS).bind fun aBZ=>(bif !(aBZ)then(some false)else(nB aB MR i2 DI k3 UM (i3+1))))
def nA(aB:aN)(MR:aJ)(k2:Option Bool):c8->Nat->Option Bool
 | [],i2=>(k2)
 |lV::wu,i2=>((uT lV).bind fun aBY=>(bif !(aBY)then(some false)else((nF lV.pat.args).bind fun DI=>(bif decide (DI.length<=maxLen)then(nB aB MR i2 DI (nA aB MR k2 wu (i2+1)) DI 0)else none))))
def xZ(aB:aN):Option Bool:=((rz aB.name).bind fun y1=>(bif !(y1)then(some false)else(bif decide ((aB.prio:Int)<0)then(some false)else(bif decide ((aB.prio:Int)>9)then(some false)else(bif decide ((((aB.conds.map aQ.c).length:Int):Int)<1)then(some false)else(bif decide ((((aB.conds.map aQ.c).length:Int):Int)>4)then(some false)else(bif decide ((((aB.cv.map Action.c).length:Int):Int)<1)then(some false)else(bif decide ((((aB.cv.map Action.c).length:Int):Int)>2)then(some false)else(jM aB ((pq aB ((aB.conds.map aQ.c).length:Int)).bind fun MR=>(nA aB MR ((rM aB.conds).bind fun aBa=>((kM aBa).bind fun aBb=>(some (decide ((((aBb.map tx).length:Int):Int)<=6))))) aB.cv 0)) aB.conds 0)))))))))
def OO(aB:aN)(cT:Int):St:=⟨[(1,D.ptr 0 0),(49,D.sl (aB.conds.map aQ.c)),(50,D.int .i64 ((aB.conds.map aQ.c).length:Int)),(51,D.int .i64 cT)],[Ob.box (aN.c aB)]⟩
theorem Mi(hΓ:Γ.nt=111){aB:aN}{r:Bool}{k1:Option Bool}(cX:k1=some r->Ax Γ N f142 (.q [[none]] (D.bool r)) [1,1,1] ⟨[(1,D.ptr 0 0)],[Ob.box (aN.c aB)]⟩)(hm1:aB.conds.length<=maxLen):∀(rest:aq) (i1:Nat),aB.conds.drop i1=rest->jM aB k1 rest i1=some r->Ar Γ N f142 (.q [[none]] (D.bool r)) [1,1,0,1,0] (rest.length+1) (OO aB (i1:Int)):=by
 intro rest
 induction rest with
 |nil=>
  intro i1 aj h;rw[jM]at h;refine aO fun N1 bz bg=>?_
  exact((aU.ge aQ.c aj).a [.hl 0 [1] [0]]).ex hΓ bz (cX h)
 |cons bD bZ ih1=>
  intro i1 aj h;rw[jM]at h;refine aO fun N1 bz bg=>?_
  obtain⟨y62,h63,h⟩:=aD h;have BU:=(((aU.lt aQ.c aj).l (ax aQ.c 5 (dc aj) rfl)).g (qL h63))
  obtain⟨h64,h⟩|⟨h64,h⟩:=aM h
  ·have h:=aG h;subst h;exact((((BU.r 3 h64).a [bF,bF,bF]).r 2 h64).T 6).ret hΓ
  ·have IC:=(BU.r 3 h64)
   obtain⟨h65,h⟩|⟨h65,h⟩:=aM h
   ·have ID:=((((IC.r 3 h65).b h64).b h65).b h64)
    obtain⟨h66,h⟩|⟨h66,h⟩:=aM h
    ·have h:=aG h;subst h;exact((ID.r 5 h66).T 1).ret hΓ
    ·obtain⟨y67,h68,h⟩:=aD h;have RJ:=(((ID.r 3 h66).g (A9 h68)).r 2 h66)
     obtain⟨h69,h⟩|⟨h69,h⟩:=aM h
     ·have h:=aG h;subst h;exact(RJ.b h69).ret hΓ
     ·exact((RJ.b h69).a [.cn [1,49,50,51] [0]]).ct hΓ bg (iS aj hm1) (ih1 (i1+1) (dn aj) h)
   ·obtain⟨y70,h71,h⟩:=aD h;have RM:=(((((((IC.r 3 h65).b h64).b h65).b h64).F 3).g (A9 h71)).F 2)
    obtain⟨h72,h⟩|⟨h72,h⟩:=aM h
    ·have h:=aG h;subst h;exact(RM.b h72).ret hΓ
    ·exact((RM.b h72).a [.cn [1,49,50,51] [0]]).ct hΓ bg (iS aj hm1) (ih1 (i1+1) (dn aj) h)
def OP(aB:aN)(MR:aJ)(cT:Int):St:=⟨[(1,D.ptr 0 0),(5,D.acc 1),(81,D.sl (aB.cv.map Action.c)),(82,D.int .i64 ((aB.cv.map Action.c).length:Int)),(83,D.int .i64 cT)],[Ob.box (aN.c aB),Ob.row .uq 9 1 (MR.map tx)]⟩
def OQ(aB:aN)(MR:aJ)(i2:Nat)(DI:aJ)(cT:Int):St:=⟨[(1,D.ptr 0 0),(5,D.acc 1),(81,D.sl (aB.cv.map Action.c)),(82,D.int .i64 ((aB.cv.map Action.c).length:Int)),(83,D.int .i64 (i2:Int)),(93,D.acc 2),(94,D.int .i64 ((DI.map tx).length:Int)),(95,D.int .i64 cT)],[Ob.box (aN.c aB),Ob.row .uq 9 1 (MR.map tx),Ob.row .uq 9 1 (DI.map tx)]⟩
theorem Mk(hΓ:Γ.nt=111){aB:aN}{MR:aJ}{i2:Nat}{DI:aJ}{r:Bool}{k3:Option Bool}(hE3:k3=some r->Ax Γ N f142 (.q [[none]] (D.bool r)) [1,1,1,1,0,1,0,0,1,1,1] ⟨[(1,D.ptr 0 0),(5,D.acc 1),(81,D.sl (aB.cv.map Action.c)),(82,D.int .i64 ((aB.cv.map Action.c).length:Int)),(83,D.int .i64 (i2:Int))],[Ob.box (aN.c aB),Ob.row .uq 9 1 (MR.map tx)]⟩)(X4:DI.length<=maxLen):∀(rest:aJ) (i3:Nat),DI.drop i3=rest->nB aB MR i2 DI k3 rest i3=some r->Ar Γ N f142 (.q [[none]] (D.bool r)) [1,1,1,1,0,1,0,0,1,1,0,0,1,1,1,0] (rest.length+1) (OQ aB MR i2 DI (i3:Int)):=by
 intro rest
 induction rest with
 |nil=>
  intro i3 BS h;rw[nB]at h;refine aO fun N3 YX TO=>?_
  exact((aU.ge tx BS).a [.hl 3 [1,5,81,82,83] [0,1]]).ex hΓ YX (hE3 h)
 |cons WS UM ih3=>
  intro i3 BS h;rw[nB]at h;refine aO fun N3 YX TO=>?_
  obtain⟨aBZ,h230,h⟩:=aD h;have aAm:=((((aU.lt tx BS).i (pP tx 1 (dc BS))).o 1 1 .uq (dG tx (dc BS))).g (sQ h230))
  obtain⟨h231,h⟩|⟨h231,h⟩:=aM h
  ·have h:=aG h;subst h;exact(aAm.b h231).ret hΓ
  ·exact((aAm.b h231).a [.cn [1,5,81,82,83,93,94,95] [0,1,2]]).ct hΓ TO (iS BS X4) (ih3 (i3+1) (dn BS) h)
theorem Mj(hΓ:Γ.nt=111){aB:aN}{MR:aJ}{r:Bool}{k2:Option Bool}(Cn:k2=some r->Ax Γ N f142 (.q [[none]] (D.bool r)) [1,1,1,1,1] ⟨[(1,D.ptr 0 0)],[Ob.box (aN.c aB)]⟩)(hm2:aB.cv.length<=maxLen):∀(rest:c8) (i2:Nat),aB.cv.drop i2=rest->nA aB MR k2 rest i2=some r->Ar Γ N f142 (.q [[none]] (D.bool r)) [1,1,1,1,0,1,0] (rest.length+1) (OP aB MR (i2:Int)):=by
 intro rest
 induction rest with
 |nil=>
  intro i2 hd2 h;rw[nA]at h;refine aO fun N2 xo uz=>?_
  exact((aU.ge Action.c hd2).a [.hl 0 [1] [0]]).ex hΓ xo (Cn h)
 |cons lV wu ih2=>
  intro i2 hd2 h;rw[nA]at h;refine aO fun N2 xo uz=>?_
  obtain⟨aBY,h204,h⟩:=aD h;have aAn:=(((aU.lt Action.c hd2).l (ax Action.c 3 (dc hd2) rfl)).g (GY h204))
  obtain⟨h205,h⟩|⟨h205,h⟩:=aM h
  ·have h:=aG h;subst h;exact(aAn.b h205).ret hΓ
  ·obtain⟨DI,h207,h⟩:=aD h;obtain⟨h232,h⟩:=bV h;refine(((aAn.b h205).g (vg h207)).a [.cn [1,5,81,82,83,93,94,95] [0,1,3]]).lp hΓ (Mk hΓ (fun h=>?_) (bt h232) DI 0 rfl h);exact(aU.a [.cn [1,5,81,82,83] [0,1]]).ct hΓ uz (iS hd2 hm2) (ih2 (i2+1) (dn hd2) h)
theorem Kq{aB:aN}{r:Bool}(h:xZ aB=some r):Good prog 142 [D.agg (aN.c aB)] (D.bool r):=by
 refine gd func142 [[none]] 111 fun hr Γ hΓ=>?_
 rw[xZ]at h;obtain⟨y1,h2,h⟩:=aD h;obtain⟨h3,h⟩|⟨h3,h⟩:=aM h
 ·have h:=aG h;subst h;exact(((aU.g (n9 h2)).r 4 h3).T 25).ret hΓ
 ·have aAo:=((aU.g (n9 h2)).r 4 h3)
  obtain⟨h4,h⟩|⟨h4,h⟩:=aM h
  ·have h:=aG h;subst h;exact((aAo.r 4 h4).T 21).ret hΓ
  ·have aAp:=(aAo.r 4 h4)
   obtain⟨h5,h⟩|⟨h5,h⟩:=aM h
   ·have h:=aG h;subst h;exact((aAp.r 5 h5).T 16).ret hΓ
   ·have aAq:=(aAp.r 5 h5)
    obtain⟨h6,h⟩|⟨h6,h⟩:=aM h
    ·have h:=aG h;subst h;exact((aAq.r 5 h6).T 11).ret hΓ
    ·have aAr:=(aAq.r 5 h6)
     obtain⟨h7,h⟩|⟨h7,h⟩:=aM h
     ·have h:=aG h;subst h;exact((aAr.r 5 h7).T 6).ret hΓ
     ·have aAs:=(aAr.r 5 h7)
      obtain⟨h8,h⟩|⟨h8,h⟩:=aM h
      ·have h:=aG h;subst h;exact((aAs.r 5 h8).T 1).ret hΓ
      ·have aAt:=(aAs.r 5 h8)
       obtain⟨h9,h⟩|⟨h9,h⟩:=aM h
       ·have h:=aG h;subst h;exact(aAt.b h9).ret hΓ
       ·refine((aAt.b h9).a [.cn [1,49,50,51] [0]]).lp hΓ (Mi hΓ (fun h=>?_) (by have:=(dY.sl (dY.agg (hr _ (aC (i:=0) rfl)) (.sl (aB.conds.map aQ.c)) (by simp))).1;simpa using this) aB.conds 0 rfl h);obtain⟨MR,h74,h⟩:=aD h;refine((aU.g (zL h74)).a [.cn [1,5,81,82,83] [0,1]]).lp hΓ (Mj hΓ (fun h=>?_) (by have:=(dY.sl (dY.agg (hr _ (aC (i:=0) rfl)) (.sl (aB.cv.map Action.c)) (by simp))).1;simpa using this) aB.cv 0 rfl h);obtain⟨aBa,h234,h⟩:=aD h;obtain⟨aBb,h236,h⟩:=aD h;cases h;exact((aU.g (EU h234)).g (sw h236)).ret hΓ
def kJ(aB:ar)(aW:Bytes)(k1:Option Int):ar->Nat->Option Int
 | [],i1=>(k1)
 |bD::bZ,i1=>(bif (bD.name:Bytes)==aW then(some (i1:Int))else(kJ aB aW k1 bZ (i1+1)))
def uS(aB:ar)(aW:Bytes):Option Int:=(kJ aB aW (some (-1)) aB 0)
def Kp(aB:ar)(aW:Bytes)(cT:Int):St:=⟨[(1,D.str aW),(7,D.sl (aB.map aN.c)),(8,D.int .i64 ((aB.map aN.c).length:Int)),(9,D.int .i64 cT)],[]⟩
theorem Il(hΓ:Γ.nt=20){aB:ar}{aW:Bytes}{r:Int}{k1:Option Int}(cX:k1=some r->Ax Γ N f143 (.q [[none]] (D.int .i64 r)) [1,1] ⟨[],[]⟩)(hm1:aB.length<=maxLen):∀(rest:ar) (i1:Nat),aB.drop i1=rest->kJ aB aW k1 rest i1=some r->Ar Γ N f143 (.q [[none]] (D.int .i64 r)) [1,0,1,0] (rest.length+1) (Kp aB aW (i1:Int)):=by
 intro rest
 induction rest with
 |nil=>
  intro i1 aj h;rw[kJ]at h;refine aO fun N1 bz bg=>?_
  exact((aU.ge aN.c aj).a [.hl 0 [] []]).ex hΓ bz (cX h)
 |cons bD bZ ih1=>
  intro i1 aj h;rw[kJ]at h;refine aO fun N1 bz bg=>?_
  have dJ:=((aU.lt aN.c aj).l (ax aN.c 4 (dc aj) rfl))
  obtain⟨h13,h⟩|⟨h13,h⟩:=aM h
  ·cases h;exact(dJ.b h13).ret hΓ
  ·exact((dJ.b h13).a [.cn [1,7,8,9] []]).ct hΓ bg (iS aj hm1) (ih1 (i1+1) (dn aj) h)
theorem GX{aB:ar}{aW:Bytes}{r:Int}(h:uS aB aW=some r):Good prog 143 [D.sl (aB.map aN.c),D.str aW] (D.int .i64 r):=by
 refine gd func143 [[none]] 20 fun hr Γ hΓ=>?_
 rw[uS]at h;refine(aU.a [.cn [1,7,8,9] []]).lp hΓ (Il hΓ (fun h=>?_) (by have:=(dY.sl (hr _ (aC (i:=0) rfl))).1;simpa using this) aB 0 rfl h);cases h;exact aU.ret hΓ
def kH(aB:ar)(k1:Option Bool):ar->Nat->Option Bool
 | [],i1=>(k1)
 |bD::bZ,i1=>((xZ bD).bind fun Ce=>(bif !(Ce)then(some false)else((uS aB bD.name).bind fun Y6=>(bif (Y6:Int) != (i1:Int)then(some false)else(kH aB k1 bZ (i1+1))))))
def uQ(aB:ar):Option Bool:=(bif decide ((((aB.map aN.c).length:Int):Int)>6)then(some false)else(kH aB (some true) aB 0))
def Km(aB:ar)(cT:Int):St:=⟨[(0,D.sl (aB.map aN.c)),(8,D.sl (aB.map aN.c)),(9,D.int .i64 ((aB.map aN.c).length:Int)),(10,D.int .i64 cT)],[]⟩
theorem Ij(hΓ:Γ.nt=27){aB:ar}{r:Bool}{k1:Option Bool}(cX:k1=some r->Ax Γ N f82 (.q [[none]] (D.bool r)) [1,1,1] ⟨[],[]⟩)(hm1:aB.length<=maxLen):∀(rest:ar) (i1:Nat),aB.drop i1=rest->kH aB k1 rest i1=some r->Ar Γ N f82 (.q [[none]] (D.bool r)) [1,1,0,1,0] (rest.length+1) (Km aB (i1:Int)):=by
 intro rest
 induction rest with
 |nil=>
  intro i1 aj h;rw[kH]at h;refine aO fun N1 bz bg=>?_
  exact((aU.ge aN.c aj).a [.hl 0 [] []]).ex hΓ bz (cX h)
 |cons bD bZ ih1=>
  intro i1 aj h;rw[kH]at h;refine aO fun N1 bz bg=>?_
  obtain⟨Ce,h35,h⟩:=aD h;have jb:=(((aU.lt aN.c aj).l (ax aN.c 4 (dc aj) rfl)).g (Kq h35))
  obtain⟨h36,h⟩|⟨h36,h⟩:=aM h
  ·have h:=aG h;subst h;exact((jb.r 7 h36).T 1).ret hΓ
  ·obtain⟨Y6,h38,h⟩:=aD h;have ia:=(((jb.r 4 h36).g (GX h38)).r 3 h36)
   obtain⟨h39,h⟩|⟨h39,h⟩:=aM h
   ·have h:=aG h;subst h;exact(ia.b h39).ret hΓ
   ·exact((ia.b h39).a [.cn [0,8,9,10] []]).ct hΓ bg (iS aj hm1) (ih1 (i1+1) (dn aj) h)
theorem GU{aB:ar}{r:Bool}(h:uQ aB=some r):Good prog 82 [D.sl (aB.map aN.c)] (D.bool r):=by
 refine gd func82 [[none]] 27 fun hr Γ hΓ=>?_
 rw[uQ]at h;obtain⟨h1,h⟩|⟨h1,h⟩:=aM h
 ·have h:=aG h;subst h;exact(aU.b h1).ret hΓ
 ·refine((aU.b h1).a [.cn [0,8,9,10] []]).lp hΓ (Ij hΓ (fun h=>?_) (by have:=(dY.sl (hr _ (aC (i:=0) rfl))).1;simpa using this) aB 0 rfl h);have h:=aG h;subst h;exact aU.ret hΓ
def pu(aB:aE)(k1:Option Bool):aJ->Nat->Option Bool
 | [],i1=>(k1)
 |bD::bZ,i1=>((fQ bD).bind fun y25=>(bif !(y25)then(some false)else(pu aB k1 bZ (i1+1))))
def pS(aB:aE):Option Bool:=((rz aB.rel).bind fun y1=>(bif !(y1)then(some false)else(bif decide ((((aB.args.map tx).length:Int):Int)>3)then(some false)else(pu aB (some true) aB.args 0))))
def ON(aB:aE)(cT:Int):St:=⟨[(16,D.sl (aB.args.map tx)),(17,D.int .i64 ((aB.args.map tx).length:Int)),(18,D.int .i64 cT)],[]⟩
theorem Mh(hΓ:Γ.nt=26){aB:aE}{r:Bool}{k1:Option Bool}(cX:k1=some r->Ax Γ N f144 (.q [[none]] (D.bool r)) [1,1,1] ⟨[],[]⟩)(hm1:aB.args.length<=maxLen):∀(rest:aJ) (i1:Nat),aB.args.drop i1=rest->pu aB k1 rest i1=some r->Ar Γ N f144 (.q [[none]] (D.bool r)) [1,1,0,1,0] (rest.length+1) (ON aB (i1:Int)):=by
 intro rest
 induction rest with
 |nil=>
  intro i1 aj h;rw[pu]at h;refine aO fun N1 bz bg=>?_
  exact((aU.ge tx aj).a [.hl 0 [] []]).ex hΓ bz (cX h)
 |cons bD bZ ih1=>
  intro i1 aj h;rw[pu]at h;refine aO fun N1 bz bg=>?_
  obtain⟨y25,h26,h⟩:=aD h;have dJ:=(((aU.lt tx aj).l (ax tx 1 (dc aj) rfl)).g (eY h26))
  obtain⟨h27,h⟩|⟨h27,h⟩:=aM h
  ·have h:=aG h;subst h;exact(dJ.b h27).ret hΓ
  ·exact((dJ.b h27).a [.cn [16,17,18] []]).ct hΓ bg (iS aj hm1) (ih1 (i1+1) (dn aj) h)
theorem yH{aB:aE}{r:Bool}(h:pS aB=some r):Good prog 144 [D.agg (aE.c aB)] (D.bool r):=by
 refine gd func144 [[none]] 26 fun hr Γ hΓ=>?_
 rw[pS]at h;obtain⟨y1,h2,h⟩:=aD h;obtain⟨h3,h⟩|⟨h3,h⟩:=aM h
 ·have h:=aG h;subst h;exact(((aU.g (n9 h2)).r 5 h3).T 1).ret hΓ
 ·have jb:=((aU.g (n9 h2)).r 5 h3)
  obtain⟨h4,h⟩|⟨h4,h⟩:=aM h
  ·have h:=aG h;subst h;exact(jb.b h4).ret hΓ
  ·refine((jb.b h4).a [.cn [16,17,18] []]).lp hΓ (Mh hΓ (fun h=>?_) (by have:=(dY.sl (dY.agg (hr _ (aC (i:=0) rfl)) (.sl (aB.args.map tx)) (by simp))).1;simpa using this) aB.args 0 rfl h);have h:=aG h;subst h;exact aU.ret hΓ
def kr(aB:Int):Option Bytes:=((CC aB).bind fun y1=>(some y1))
theorem zM{aB:Int}{r:Bytes}(h:kr aB=some r):Good prog 246 [D.int .i64 aB] (D.str r):=by
 refine gd func246 [[none]] 5 fun hr Γ hΓ=>?_
 rw[kr]at h;obtain⟨y1,h2,h⟩:=aD h;have h:=aG h;subst h;exact(aU.g (K8 h2)).ret hΓ
def mc(aB:Bytes):Option (Int×Bool):=(bif decide (((aB.length:Int):Int)<1)then(some (0,false))else(bif decide (((aB.length:Int):Int)>4)then(some (0,false))else((CB aB).bind fun y3=>(bif y3.2 then(some (0,false))else(bif decide ((y3.1:Int)<0)then(some (0,false))else(bif decide ((y3.1:Int)>9999)then(some (0,false))else((kr y3.1).bind fun y8=>(bif !((y8:Bytes)==aB)then(some (0,false))else(some (y3.1,true))))))))))
theorem rJ{aB:Bytes}{r:Int×Bool}(h:mc aB=some r):Good prog 268 [D.str aB] (D.gZ [D.int .i64 r.1,D.bool r.2]):=by
 refine gd func268 [[none],[none]] 36 fun hr Γ hΓ=>?_
 rw[mc]at h;obtain⟨h1,h⟩|⟨h1,h⟩:=aM h
 ·cases h;exact((aU.r 4 h1).T 1).ret hΓ
 ·have kF:=(aU.r 4 h1)
  obtain⟨h2,h⟩|⟨h2,h⟩:=aM h
  ·cases h;exact(kF.b h2).ret hΓ
  ·obtain⟨y3,h4,h⟩:=aD h;have dJ:=((kF.b h2).g (K7 h4))
   obtain⟨h5,h⟩|⟨h5,h⟩:=aM h
   ·cases h;exact((dJ.r 3 h5).T 9).ret hΓ
   ·have jb:=(dJ.r 3 h5)
    obtain⟨h6,h⟩|⟨h6,h⟩:=aM h
    ·cases h;exact((jb.r 3 h6).T 6).ret hΓ
    ·have ia:=(jb.r 3 h6)
     obtain⟨h7,h⟩|⟨h7,h⟩:=aM h
     ·cases h;exact((ia.r 5 h7).T 1).ret hΓ
     ·obtain⟨y8,h9,h⟩:=aD h;have tq:=(((ia.r 2 h7).g (zM h9)).r 3 h7)
      obtain⟨h10,h⟩|⟨h10,h⟩:=aM h
      ·cases h;exact(tq.b h10).ret hΓ
      ·cases h;exact(tq.b h10).ret hΓ
def ir(aB:Int)(aW:Int):Option Int:=(bif decide ((aB:Int)<aW)then(some (-1))else(bif decide ((aB:Int)>aW)then(some 1)else(some 0)))
theorem sx{aB:Int}{aW:Int}{r:Int}(h:ir aB aW=some r):Good prog 222 [D.int .i64 aB,D.int .i64 aW] (D.int .i64 r):=by
 refine gd func222 [[none]] 13 fun hr Γ hΓ=>?_
 rw[ir]at h;obtain⟨h1,h⟩|⟨h1,h⟩:=aM h
 ·cases h;exact(aU.b h1).ret hΓ
 ·obtain⟨h2,h⟩|⟨h2,h⟩:=aM h
  ·have h:=aG h;subst h;exact((aU.b h1).b h2).ret hΓ
  ·have h:=aG h;subst h;exact((aU.b h1).b h2).ret hΓ
def mL(aB:Bytes)(aW:Bytes):Option Int:=((mc aB).bind fun y1=>((mc aW).bind fun y3=>(bif y1.2 then(bif y3.2 then((ir y1.1 y3.1).bind fun y7=>(some y7))else(some (-1)))else(bif y3.2 then(some 1)else((rV aB aW).bind fun DK=>(some DK))))))
theorem D1{aB:Bytes}{aW:Bytes}{r:Int}(h:mL aB aW=some r):Good prog 221 [D.str aB,D.str aW] (D.int .i64 r):=by
 refine gd func221 [[none]] 34 fun hr Γ hΓ=>?_
 rw[mL]at h;obtain⟨y1,h2,h⟩:=aD h;obtain⟨y3,h4,h⟩:=aD h;have kF:=((aU.g (rJ h2)).g (rJ h4))
 obtain⟨h5,h⟩|⟨h5,h⟩:=aM h
 ·have dJ:=(kF.r 2 h5)
  obtain⟨h6,h⟩|⟨h6,h⟩:=aM h
  ·obtain⟨y7,h8,h⟩:=aD h;have h:=aG h;subst h;exact((dJ.b h6).g (sx h8)).ret hΓ
  ·cases h;exact((dJ.b h6).b h5).ret hΓ
 ·have jb:=(((kF.r 2 h5).F 1).b h5)
  obtain⟨h9,h⟩|⟨h9,h⟩:=aM h
  ·have h:=aG h;subst h;exact(jb.b h9).ret hΓ
  ·obtain⟨DK,h11,h⟩:=aD h;have h:=aG h;subst h;exact((jb.b h9).g (uL h11)).ret hΓ
def jK(aB:aE)(aW:aE)(k1:Option Int):aJ->Nat->Option Int
 | [],i1=>(k1)
 |bD::bZ,i1=>(bif decide (((i1:Int):Int)<((aW.args.map tx).length:Int))then((mK aW.args (i1:Int)).bind fun x37=>((mL bD x37).bind fun O9=>(bif (O9:Int) != 0 then(some O9)else(jK aB aW k1 bZ (i1+1)))))else(k1))
def fp(aB:aE)(aW:aE):Option Int:=((rV aB.rel aW.rel).bind fun y1=>(bif (y1:Int) != 0 then(some y1)else(jK aB aW ((ir ((aB.args.map tx).length:Int) ((aW.args.map tx).length:Int)).bind fun y42=>(some y42)) aB.args 0)))
def EN(aB:aE)(aW:aE)(cT:Int):St:=⟨[(2,D.ptr 0 0),(3,D.ptr 1 0),(6,D.int .i64 cT)],[Ob.box (aE.c aB),Ob.box (aE.c aW)]⟩
theorem DX(hΓ:Γ.nt=51){aB:aE}{aW:aE}{r:Int}{k1:Option Int}(cX:k1=some r->Ax Γ N f145 (.q [[none]] (D.int .i64 r)) [1,1,1] ⟨[(2,D.ptr 0 0),(3,D.ptr 1 0)],[Ob.box (aE.c aB),Ob.box (aE.c aW)]⟩)(hm1:aB.args.length<=maxLen):∀(rest:aJ) (i1:Nat),aB.args.drop i1=rest->jK aB aW k1 rest i1=some r->Ar Γ N f145 (.q [[none]] (D.int .i64 r)) [1,1,0,1,0] (rest.length+1) (EN aB aW (i1:Int)):=by
 intro rest
 induction rest with
 |nil=>
  intro i1 aj h;rw[jK]at h;refine aO fun N1 bz bg=>?_
  exact((((((((aU.ge tx aj).ge tx aj).ge tx aj).ge tx aj).ge tx aj).ge tx aj).F 1).a [.hl 0 [2,3] [0,1]]).ex hΓ bz (cX h)
 |cons bD bZ ih1=>
  intro i1 aj h;rw[jK]at h;refine aO fun N1 bz bg=>?_
  have jb:=((((((aU.lt tx aj).lt tx aj).lt tx aj).lt tx aj).lt tx aj).lt tx aj)
  obtain⟨h36,h⟩|⟨h36,h⟩:=aM h
  ·obtain⟨x37,h38,h⟩:=aD h;obtain⟨O9,h40,h⟩:=aD h;have ia:=(((((jb.b h36).a [.n 10]).l (ax tx 1 (dc aj) rfl)).l (dl tx 1 h38 rfl)).g (D1 h40))
   obtain⟨h41,h⟩|⟨h41,h⟩:=aM h
   ·have h:=aG h;subst h;exact(ia.b h41).ret hΓ
   ·exact((ia.b h41).a [.cn [2,3,6] [0,1]]).ct hΓ bg (iS aj hm1) (ih1 (i1+1) (dn aj) h)
  ·exact((jb.b h36).a [.hl 0 [2,3] [0,1]]).ex hΓ bz (cX h)
theorem rq{aB:aE}{aW:aE}{r:Int}(h:fp aB aW=some r):Good prog 145 [D.agg (aE.c aB),D.agg (aE.c aW)] (D.int .i64 r):=by
 refine gd func145 [[none]] 51 fun hr Γ hΓ=>?_
 rw[fp]at h;obtain⟨y1,h2,h⟩:=aD h;obtain⟨h3,h⟩|⟨h3,h⟩:=aM h
 ·have h:=aG h;subst h;exact((aU.g (uL h2)).b h3).ret hΓ
 ·refine(((aU.g (uL h2)).b h3).a [.cn [2,3,6] [0,1]]).lp hΓ (DX hΓ (fun h=>?_) (by have:=(dY.sl (dY.agg (hr _ (aC (i:=0) rfl)) (.sl (aB.args.map tx)) (by simp))).1;simpa using this) aB.args 0 rfl h);obtain⟨y42,h43,h⟩:=aD h;have h:=aG h;subst h;exact(aU.g (sx h43)).ret hΓ
def ig(aB:aL)(k1:Option Bool):aL->Nat->Option Bool
 | [],i1=>(k1)
 |bD::bZ,i1=>((pS bD).bind fun y46=>(bif !(y46)then(some false)else(bif decide (((i1:Int):Int)>0)then((mK aB (IntKind.i64.wrap ((i1:Int)-1))).bind fun x50=>((fp x50 bD).bind fun y52=>(bif decide ((y52:Int)>=0)then(some false)else(ig aB k1 bZ (i1+1)))))else(ig aB k1 bZ (i1+1)))))
def qx(aB:aL):Option Bool:=(bif decide ((((aB.map aE.c).length:Int):Int)>24)then(some false)else(ig aB (some true) aB 0))
def Kl(aB:aL)(cT:Int):St:=⟨[(0,D.sl (aB.map aE.c)),(8,D.sl (aB.map aE.c)),(9,D.int .i64 ((aB.map aE.c).length:Int)),(10,D.int .i64 cT)],[]⟩
theorem Ii(hΓ:Γ.nt=33){aB:aL}{r:Bool}{k1:Option Bool}(cX:k1=some r->Ax Γ N f83 (.q [[none]] (D.bool r)) [1,1,1] ⟨[],[]⟩)(hm1:aB.length<=maxLen):∀(rest:aL) (i1:Nat),aB.drop i1=rest->ig aB k1 rest i1=some r->Ar Γ N f83 (.q [[none]] (D.bool r)) [1,1,0,1,0] (rest.length+1) (Kl aB (i1:Int)):=by
 intro rest
 induction rest with
 |nil=>
  intro i1 aj h;rw[ig]at h;refine aO fun N1 bz bg=>?_
  exact((aU.ge aE.c aj).a [.hl 0 [] []]).ex hΓ bz (cX h)
 |cons bD bZ ih1=>
  intro i1 aj h;rw[ig]at h;refine aO fun N1 bz bg=>?_
  obtain⟨y46,h47,h⟩:=aD h;have ia:=((((aU.lt aE.c aj).l (ax aE.c 2 (dc aj) rfl)).a [.n 13]).g (yH h47))
  obtain⟨h48,h⟩|⟨h48,h⟩:=aM h
  ·have h:=aG h;subst h;exact((((ia.r 3 h48).a [bF,bF,bF,bF,bF,bF,bF,bF]).r 2 h48).T 1).ret hΓ
  ·have tq:=(ia.r 3 h48)
   obtain⟨h49,h⟩|⟨h49,h⟩:=aM h
   ·obtain⟨x50,h51,h⟩:=aD h;obtain⟨y52,h53,h⟩:=aD h;have wm:=((((((((tq.r 4 h49).l (dl aE.c 2 h51 rfl)).r 3 h49).g (rq h53)).b h49).b h48).b h49).b h48)
    obtain⟨h54,h⟩|⟨h54,h⟩:=aM h
    ·have h:=aG h;subst h;exact(wm.b h54).ret hΓ
    ·exact((wm.b h54).a [.cn [0,8,9,10] []]).ct hΓ bg (iS aj hm1) (ih1 (i1+1) (dn aj) h)
   ·exact((((((tq.r 8 h49).b h48).b h49).b h48).F 1).a [.cn [0,8,9,10] []]).ct hΓ bg (iS aj hm1) (ih1 (i1+1) (dn aj) h)
theorem wJ{aB:aL}{r:Bool}(h:qx aB=some r):Good prog 83 [D.sl (aB.map aE.c)] (D.bool r):=by
 refine gd func83 [[none]] 33 fun hr Γ hΓ=>?_
 rw[qx]at h;obtain⟨h1,h⟩|⟨h1,h⟩:=aM h
 ·have h:=aG h;subst h;exact(aU.b h1).ret hΓ
 ·refine((aU.b h1).a [.cn [0,8,9,10] []]).lp hΓ (Ii hΓ (fun h=>?_) (by have:=(dY.sl (hr _ (aC (i:=0) rfl))).1;simpa using this) aB 0 rfl h);have h:=aG h;subst h;exact aU.ret hΓ
def fJ(aB:aJ)(k1:aT->Option aT):aJ->Nat->aT->List (Bytes×Bool)->Option aT
 | [],i1,bC,DD=>(k1 bC)
 |bD::bZ,i1,bC,DD=>((lY bD).bind fun y52=>(bif y52 then(bif !(Np false bD DD)then((kr (IntKind.i64.wrap (((bC.map aS.c).length:Int)+1))).bind fun y56=>(bif decide (([63]:Bytes).length+(y56:Bytes).length<=maxLen)then(bif room ((bC.map aS.c).length+([[D.str bD,D.str (([63])++y56)]]).length) 32 then(fJ aB k1 bZ (i1+1) (bC++([(⟨bD,([63])++y56⟩:aS)])) (R7 bD true DD))else none)else none))else(fJ aB k1 bZ (i1+1) bC DD))else(fJ aB k1 bZ (i1+1) bC DD)))
def oM(aB:aJ):Option aT:=(fJ aB (fun(bQ:aT)=>(some bQ)) aB 0 ([]:aT) ([]:List (Bytes×Bool)))
def AD(aB:aJ)(W0:List aR)(W1:List (D×D))(cT:Int):St:=⟨[(3,D.acc 0),(4,D.acc 1),(8,D.sl (aB.map tx)),(9,D.int .i64 ((aB.map tx).length:Int)),(10,D.int .i64 cT)],[Ob.row .uq 152 2 W0,Ob.mp W1]⟩
theorem Fb(hΓ:Γ.nt=36){aB:aJ}{r:aT}{k1:aT->Option aT}(cX:∀(bQ:aT),k1 bQ=some r->Ax Γ N f190 (.q [[some (152,2)]] (D.fr 152 2 (r.map aS.c))) [1,1,1,1] ⟨[(3,D.acc 0)],[Ob.row .uq 152 2 (bQ.map aS.c)]⟩)(hm1:aB.length<=maxLen):∀(rest:aJ) (i1:Nat) (bC:aT) (DD:List (Bytes×Bool)),aB.drop i1=rest->fJ aB k1 rest i1 bC DD=some r->Ar Γ N f190 (.q [[some (152,2)]] (D.fr 152 2 (r.map aS.c))) [1,1,1,0,1,0] (rest.length+1) (AD aB (bC.map aS.c) (DD.map (kS eB)) (i1:Int)):=by
 intro rest
 induction rest with
 |nil=>
  intro i1 bC DD aj h;rw[fJ]at h;refine aO fun N1 bz bg=>?_
  exact((aU.ge tx aj).a [.hl 0 [3] [0]]).ex hΓ bz (cX bC h)
 |cons bD bZ ih1=>
  intro i1 bC DD aj h;rw[fJ]at h;refine aO fun N1 bz bg=>?_
  obtain⟨y52,h53,h⟩:=aD h;have jb:=(((aU.lt tx aj).l (ax tx 1 (dc aj) rfl)).g (oI h53))
  obtain⟨h54,h⟩|⟨h54,h⟩:=aM h
  ·have ia:=((((jb.r 3 h54).w (show plk prog 232 (DD.map (kS eB)) (D.str bD) false=some (D.bool (Np false bD DD))from aAi (e:=eB) (z:=false) (by kernel_rfl))).a [.d (D.bool (Np false bD DD))]).r 2 h54)
   obtain⟨h55,h⟩|⟨h55,h⟩:=aM h
   ·obtain⟨y56,h57,h⟩:=aD h;obtain⟨h58,h⟩:=bV h;obtain⟨h59,h⟩:=bV h;exact(((((((ia.b h55).w (show Nl (D.str bD) (D.bool true) (DD.map (kS eB))=some ((R7 bD true DD).map (kS eB))from a2r (e:=eB) (m:=DD))).a [.kv ((R7 bD true DD).map (kS eB))]).g (zM h57)).w (bt h58)).w (cB h59)).a [.cn [3,4,8,9,10] [3,1]]).cs hΓ bg (AD aB ((bC.map aS.c)++([[D.str bD,D.str (([63])++y56)]])) ((R7 bD true DD).map (kS eB)) (IntKind.i64.wrap ((i1:Int)+1))) (by first| (simp only[iS aj hm1,mA]<;>rfl)| (simp only[iS aj hm1,mA,aE.c,aS.c,aQ.c,Action.c,aN.c,aI.c,cu.c,aP.c,Node.c,aF.c,cw.c]<;>rfl)) (ih1 (i1+1) (bC++([(⟨bD,([63])++y56⟩:aS)])) (R7 bD true DD) (dn aj) h)
   ·exact((ia.b h55).a [.cn [3,4,8,9,10] [0,1]]).ct hΓ bg (iS aj hm1) (ih1 (i1+1) bC DD (dn aj) h)
  ·exact(((jb.r 5 h54).F 1).a [.cn [3,4,8,9,10] [0,1]]).ct hΓ bg (iS aj hm1) (ih1 (i1+1) bC DD (dn aj) h)
theorem yu{aB:aJ}{r:aT}(h:oM aB=some r):Good prog 190 [D.sl (aB.map tx)] (D.fr 152 2 (r.map aS.c)):=by
 refine gd func190 [[some (152,2)]] 36 fun hr Γ hΓ=>?_
 rw[oM]at h;refine(aU.a [.Pt 3,.cn [3,4,8,9,10] [0,1]]).lp hΓ (Fb hΓ (fun bQ h=>?_) (by have:=(dY.sl (hr _ (aC (i:=0) rfl))).1;simpa using this) aB 0 ([]:aT) ([]:List (Bytes×Bool)) rfl h);have h:=aG h;subst h;exact aU.ret hΓ
def gQ(aB:aN)(k1:aJ->Option aT):aq->Nat->aJ->Option aT
 | [],i1,bC=>(k1 bC)
 |bD::bZ,i1,bC=>((tE bD).bind fun pY=>(bif room ((bC.map tx).length+(pY.map tx).length) 16 then(gQ aB k1 bZ (i1+1) (bC++pY))else none))
def rL(aB:aN):Option aT:=(gQ aB (fun(bQ:aJ)=>((oM bQ).bind fun y30=>(some y30))) aB.conds 0 ([]:aJ))
def A7(aB:aN)(W0:List aR)(cT:Int):St:=⟨[(3,D.acc 0),(7,D.sl (aB.conds.map aQ.c)),(8,D.int .i64 ((aB.conds.map aQ.c).length:Int)),(9,D.int .i64 cT)],[Ob.row .uq 9 1 W0]⟩
theorem FW(hΓ:Γ.nt=20){aB:aN}{r:aT}{k1:aJ->Option aT}(cX:∀(bQ:aJ),k1 bQ=some r->Ax Γ N f125 (.q [[some (152,2)]] (D.fr 152 2 (r.map aS.c))) [1,1,1] ⟨[(3,D.acc 0)],[Ob.row .uq 9 1 (bQ.map tx)]⟩)(hm1:aB.conds.length<=maxLen):∀(rest:aq) (i1:Nat) (bC:aJ),aB.conds.drop i1=rest->gQ aB k1 rest i1 bC=some r->Ar Γ N f125 (.q [[some (152,2)]] (D.fr 152 2 (r.map aS.c))) [1,1,0,1,0] (rest.length+1) (A7 aB (bC.map tx) (i1:Int)):=by
 intro rest
 induction rest with
 |nil=>
  intro i1 bC aj h;rw[gQ]at h;refine aO fun N1 bz bg=>?_
  exact((aU.ge aQ.c aj).a [.hl 0 [3] [0]]).ex hΓ bz (cX bC h)
 |cons bD bZ ih1=>
  intro i1 bC aj h;rw[gQ]at h;refine aO fun N1 bz bg=>?_
  obtain⟨pY,h28,h⟩:=aD h;obtain⟨h29,h⟩:=bV h;exact(((((aU.lt aQ.c aj).l (ax aQ.c 5 (dc aj) rfl)).g (B6 h28)).w (cB h29)).a [.cn [3,7,8,9] [3]]).cs hΓ bg (A7 aB ((bC.map tx)++(pY.map tx)) (IntKind.i64.wrap ((i1:Int)+1))) (by first| (simp only[iS aj hm1,mA]<;>rfl)| (simp only[iS aj hm1,mA,aE.c,aS.c,aQ.c,Action.c,aN.c,aI.c,cu.c,aP.c,Node.c,aF.c,cw.c]<;>rfl)) (ih1 (i1+1) (bC++pY) (dn aj) h)
theorem EQ{aB:aN}{r:aT}(h:rL aB=some r):Good prog 125 [D.agg (aN.c aB)] (D.fr 152 2 (r.map aS.c)):=by
 refine gd func125 [[some (152,2)]] 20 fun hr Γ hΓ=>?_
 rw[rL]at h;refine(aU.a [.Pt 3,.cn [3,7,8,9] [1]]).lp hΓ (FW hΓ (fun bQ h=>?_) (by have:=(dY.sl (dY.agg (hr _ (aC (i:=0) rfl)) (.sl (aB.conds.map aQ.c)) (by simp))).1;simpa using this) aB.conds 0 ([]:aJ) rfl h);obtain⟨y30,h31,h⟩:=aD h;have h:=aG h;subst h;exact(aU.g (yu h31)).ret hΓ
def iP(aB:Bytes)(aW:aT)(k1:Option Bytes):aT->Nat->Option Bytes
 | [],i1=>(k1)
 |bD::bZ,i1=>(bif (bD.var:Bytes)==aB then(some bD.value)else(iP aB aW k1 bZ (i1+1)))
def iy(aB:Bytes)(aW:aT):Option Bytes:=(iP aB aW (some aB) aW 0)
def Fc(aB:Bytes)(aW:aT)(cT:Int):St:=⟨[(0,D.str aB),(7,D.sl (aW.map aS.c)),(8,D.int .i64 ((aW.map aS.c).length:Int)),(9,D.int .i64 cT)],[]⟩
theorem EZ(hΓ:Γ.nt=21){aB:Bytes}{aW:aT}{r:Bytes}{k1:Option Bytes}(cX:k1=some r->Ax Γ N f276 (.q [[none]] (D.str r)) [1,1] ⟨[(0,D.str aB)],[]⟩)(hm1:aW.length<=maxLen):∀(rest:aT) (i1:Nat),aW.drop i1=rest->iP aB aW k1 rest i1=some r->Ar Γ N f276 (.q [[none]] (D.str r)) [1,0,1,0] (rest.length+1) (Fc aB aW (i1:Int)):=by
 intro rest
 induction rest with
 |nil=>
  intro i1 aj h;rw[iP]at h;refine aO fun N1 bz bg=>?_
  exact((aU.ge aS.c aj).a [.hl 0 [0] []]).ex hΓ bz (cX h)
 |cons bD bZ ih1=>
  intro i1 aj h;rw[iP]at h;refine aO fun N1 bz bg=>?_
  have dJ:=((aU.lt aS.c aj).l (ax aS.c 2 (dc aj) rfl))
  obtain⟨h13,h⟩|⟨h13,h⟩:=aM h
  ·cases h;exact(dJ.b h13).ret hΓ
  ·exact((dJ.b h13).a [.cn [0,7,8,9] []]).ct hΓ bg (iS aj hm1) (ih1 (i1+1) (dn aj) h)
theorem tB{aB:Bytes}{aW:aT}{r:Bytes}(h:iy aB aW=some r):Good prog 276 [D.str aB,D.sl (aW.map aS.c)] (D.str r):=by
 refine gd func276 [[none]] 21 fun hr Γ hΓ=>?_
 rw[iy]at h;refine(aU.a [.cn [0,7,8,9] []]).lp hΓ (EZ hΓ (fun h=>?_) (by have:=(dY.sl (hr _ (aC (i:=1) rfl))).1;simpa using this) aW 0 rfl h);have h:=aG h;subst h;exact aU.ret hΓ
def l6(aB:aQ)(aW:aT)(y1:Bytes)(y3:Bytes)(k1:aJ->Option aQ):aJ->Nat->aJ->Option aQ
 | [],i1,fW=>(k1 fW)
 |bD::bZ,i1,fW=>((iy bD aW).bind fun ZC=>(bif room ((fW.map tx).length+([[D.str ZC]]).length) 16 then(l6 aB aW y1 y3 k1 bZ (i1+1) (fW++([ZC])))else none))
def lZ(aB:aQ)(aW:aT):Option aQ:=((iy aB.left aW).bind fun y1=>((iy aB.right aW).bind fun y3=>(l6 aB aW y1 y3 (fun(sM:aJ)=>(some (⟨aB.kind,(⟨aB.pat.rel,sM⟩:aE),y1,y3⟩:aQ))) aB.pat.args 0 ([]:aJ))))
def A8(aB:aQ)(aW:aT)(y1:Bytes)(y3:Bytes)(W0:List aR)(cT:Int):St:=⟨[(1,D.sl (aW.map aS.c)),(4,D.ptr 0 0),(5,D.ptr 1 0),(26,D.sl (aB.pat.args.map tx)),(27,D.int .i64 ((aB.pat.args.map tx).length:Int)),(28,D.int .i64 cT)],[Ob.box [D.int .i64 0,D.str ([]),D.nil,D.str ([]),D.str ([])],Ob.box [D.int .i64 aB.kind,D.str aB.pat.rel,D.acc 2,D.str y1,D.str y3],Ob.row .uq 9 1 W0]⟩
theorem FX(hΓ:Γ.nt=44){aB:aQ}{aW:aT}{y1:Bytes}{y3:Bytes}{r:aQ}{k1:aJ->Option aQ}(cX:∀(sM:aJ),k1 sM=some r->Ax Γ N f256 (.q [[none,none,some (9,1),none,none]] (D.agg [D.int .i64 r.kind,D.str r.pat.rel,D.fr 9 1 (r.pat.args.map tx),D.str r.left,D.str r.right])) [1,1,1,1] ⟨[(4,D.ptr 0 0),(5,D.ptr 1 0)],[Ob.box [D.int .i64 0,D.str ([]),D.nil,D.str ([]),D.str ([])],Ob.box [D.int .i64 aB.kind,D.str aB.pat.rel,D.acc 2,D.str y1,D.str y3],Ob.row .uq 9 1 (sM.map tx)]⟩)(hm1:aB.pat.args.length<=maxLen):∀(rest:aJ) (i1:Nat) (fW:aJ),aB.pat.args.drop i1=rest->l6 aB aW y1 y3 k1 rest i1 fW=some r->Ar Γ N f256 (.q [[none,none,some (9,1),none,none]] (D.agg [D.int .i64 r.kind,D.str r.pat.rel,D.fr 9 1 (r.pat.args.map tx),D.str r.left,D.str r.right])) [1,1,1,0,1,0] (rest.length+1) (A8 aB aW y1 y3 (fW.map tx) (i1:Int)):=by
 intro rest
 induction rest with
 |nil=>
  intro i1 fW aj h;rw[l6]at h;refine aO fun N1 bz bg=>?_
  exact((aU.ge tx aj).a [.hl 0 [4,5] [0,1,2]]).ex hΓ bz (cX fW h)
 |cons bD bZ ih1=>
  intro i1 fW aj h;rw[l6]at h;refine aO fun N1 bz bg=>?_
  obtain⟨ZC,h32,h⟩:=aD h;obtain⟨h33,h⟩:=bV h;exact((((((aU.lt tx aj).l (ax tx 1 (dc aj) rfl)).a [.n 7]).g (tB h32)).w (cB h33)).a [.cn [1,4,5,26,27,28] [0,1,4]]).cs hΓ bg (A8 aB aW y1 y3 ((fW.map tx)++([[D.str ZC]])) (IntKind.i64.wrap ((i1:Int)+1))) (by first| (simp only[iS aj hm1,mA]<;>rfl)| (simp only[iS aj hm1,mA,aE.c,aS.c,aQ.c,Action.c,aN.c,aI.c,cu.c,aP.c,Node.c,aF.c,cw.c]<;>rfl)) (ih1 (i1+1) (fW++([ZC])) (dn aj) h)
theorem pN{aB:aQ}{aW:aT}{r:aQ}(h:lZ aB aW=some r):Good prog 256 [D.agg (aQ.c aB),D.sl (aW.map aS.c)] (D.agg [D.int .i64 r.kind,D.str r.pat.rel,D.fr 9 1 (r.pat.args.map tx),D.str r.left,D.str r.right]):=by
 refine gd func256 [[none,none,some (9,1),none,none]] 44 fun hr Γ hΓ=>?_
 rw[lZ]at h;obtain⟨y1,h2,h⟩:=aD h;obtain⟨y3,h4,h⟩:=aD h;refine((((aU.a [.n 12]).g (tB h2)).g (tB h4)).a [.pb 2 2 9 1,.cn [1,4,5,26,27,28] [1,2,3]]).lp hΓ (FX hΓ (fun sM h=>?_) (by have:=(dY.sl (dY.agg (hr _ (aC (i:=0) rfl)) (.sl (aB.pat.args.map tx)) (by simp))).1;simpa using this) aB.pat.args 0 ([]:aJ) rfl h);cases h;exact aU.ret hΓ
def kz(aB:aN)(y1:aT)(k1:aq->Option aq):aq->Nat->aq->Option aq
 | [],i1,bu=>(k1 bu)
 |bD::bZ,i1,bu=>((lZ bD y1).bind fun IM=>(bif room ((bu.map aQ.c).length+([[D.int .i64 IM.kind,D.str IM.pat.rel,D.sl (IM.pat.args.map tx),D.str IM.left,D.str IM.right]]).length) 80 then(kz aB y1 k1 bZ (i1+1) (bu++([IM])))else none))
def rK(aB:aN):Option aq:=((rL aB).bind fun y1=>(kz aB y1 (fun(bQ:aq)=>(some bQ)) aB.conds 0 ([]:aq)))
def A6(aB:aN)(y1:aT)(W0:List aR)(cT:Int):St:=⟨[(3,D.acc 0),(4,D.acc 1),(10,D.sl (aB.conds.map aQ.c)),(11,D.int .i64 ((aB.conds.map aQ.c).length:Int)),(12,D.int .i64 cT)],[Ob.row .uq 152 2 (y1.map aS.c),Ob.row .uq 115 5 W0]⟩
theorem FV(hΓ:Γ.nt=24){aB:aN}{y1:aT}{r:aq}{k1:aq->Option aq}(cX:∀(bQ:aq),k1 bQ=some r->Ax Γ N f200 (.q [[some (115,5)]] (D.fr 115 5 (r.map aQ.c))) [1,1,1,1] ⟨[(4,D.acc 0)],[Ob.row .uq 115 5 (bQ.map aQ.c)]⟩)(hm1:aB.conds.length<=maxLen):∀(rest:aq) (i1:Nat) (bu:aq),aB.conds.drop i1=rest->kz aB y1 k1 rest i1 bu=some r->Ar Γ N f200 (.q [[some (115,5)]] (D.fr 115 5 (r.map aQ.c))) [1,1,1,0,1,0] (rest.length+1) (A6 aB y1 (bu.map aQ.c) (i1:Int)):=by
 intro rest
 induction rest with
 |nil=>
  intro i1 bu aj h;rw[kz]at h;refine aO fun N1 bz bg=>?_
  exact((aU.ge aQ.c aj).a [.hl 0 [4] [1]]).ex hΓ bz (cX bu h)
 |cons bD bZ ih1=>
  intro i1 bu aj h;rw[kz]at h;refine aO fun N1 bz bg=>?_
  obtain⟨IM,h30,h⟩:=aD h;obtain⟨h31,h⟩:=bV h;exact(((((aU.lt aQ.c aj).l (ax aQ.c 5 (dc aj) rfl)).g (pN h30)).w (cB h31)).a [.cn [3,4,10,11,12] [0,5]]).cs hΓ bg (A6 aB y1 ((bu.map aQ.c)++([[D.int .i64 IM.kind,D.str IM.pat.rel,D.sl (IM.pat.args.map tx),D.str IM.left,D.str IM.right]])) (IntKind.i64.wrap ((i1:Int)+1))) (by first| (simp only[iS aj hm1,mA]<;>rfl)| (simp only[iS aj hm1,mA,aE.c,aS.c,aQ.c,Action.c,aN.c,aI.c,cu.c,aP.c,Node.c,aF.c,cw.c]<;>rfl)) (ih1 (i1+1) (bu++([IM])) (dn aj) h)
theorem EP{aB:aN}{r:aq}(h:rK aB=some r):Good prog 200 [D.agg (aN.c aB)] (D.fr 115 5 (r.map aQ.c)):=by
 refine gd func200 [[some (115,5)]] 24 fun hr Γ hΓ=>?_
 rw[rK]at h;obtain⟨y1,h2,h⟩:=aD h;refine((aU.g (EQ h2)).a [.Pt 4,.cn [3,4,10,11,12] [1,2]]).lp hΓ (FV hΓ (fun bQ h=>?_) (by have:=(dY.sl (dY.agg (hr _ (aC (i:=0) rfl)) (.sl (aB.conds.map aQ.c)) (by simp))).1;simpa using this) aB.conds 0 ([]:aq) rfl h);have h:=aG h;subst h;exact aU.ret hΓ
def mS(aB:aJ)(aW:aJ)(k1:Option Bool):aJ->Nat->Option Bool
 | [],i1=>(k1)
 |bD::bZ,i1=>((mK aW (i1:Int)).bind fun x22=>(bif !((bD:Bytes)==x22)then(some false)else(mS aB aW k1 bZ (i1+1))))
def q9(aB:aJ)(aW:aJ):Option Bool:=(bif (((aB.map tx).length:Int):Int) != ((aW.map tx).length:Int)then(some false)else(mS aB aW (some true) aB 0))
def J1(aB:aJ)(aW:aJ)(cT:Int):St:=⟨[(0,D.sl (aB.map tx)),(1,D.sl (aW.map tx)),(12,D.int .i64 ((aB.map tx).length:Int)),(13,D.int .i64 cT)],[]⟩
theorem Gn(hΓ:Γ.nt=26){aB:aJ}{aW:aJ}{r:Bool}{k1:Option Bool}(cX:k1=some r->Ax Γ N f232 (.q [[none]] (D.bool r)) [1,1,1] ⟨[],[]⟩)(hm1:aB.length<=maxLen):∀(rest:aJ) (i1:Nat),aB.drop i1=rest->mS aB aW k1 rest i1=some r->Ar Γ N f232 (.q [[none]] (D.bool r)) [1,1,0,1,0] (rest.length+1) (J1 aB aW (i1:Int)):=by
 intro rest
 induction rest with
 |nil=>
  intro i1 aj h;rw[mS]at h;refine aO fun N1 bz bg=>?_
  exact((aU.ge tx aj).a [.hl 0 [] []]).ex hΓ bz (cX h)
 |cons bD bZ ih1=>
  intro i1 aj h;rw[mS]at h;refine aO fun N1 bz bg=>?_
  obtain⟨x22,h23,h⟩:=aD h;have dJ:=((((aU.lt tx aj).a [.n 8]).l (ax tx 1 (dc aj) rfl)).l (dl tx 1 h23 rfl))
  obtain⟨h24,h⟩|⟨h24,h⟩:=aM h
  ·have h:=aG h;subst h;exact(dJ.b h24).ret hΓ
  ·exact((dJ.b h24).a [.cn [0,1,12,13] []]).ct hΓ bg (iS aj hm1) (ih1 (i1+1) (dn aj) h)
theorem zR{aB:aJ}{aW:aJ}{r:Bool}(h:q9 aB aW=some r):Good prog 232 [D.sl (aB.map tx),D.sl (aW.map tx)] (D.bool r):=by
 refine gd func232 [[none]] 26 fun hr Γ hΓ=>?_
 rw[q9]at h;obtain⟨h1,h⟩|⟨h1,h⟩:=aM h
 ·have h:=aG h;subst h;exact(aU.b h1).ret hΓ
 ·refine((aU.b h1).a [.cn [0,1,12,13] []]).lp hΓ (Gn hΓ (fun h=>?_) (by have:=(dY.sl (hr _ (aC (i:=0) rfl))).1;simpa using this) aB 0 rfl h);have h:=aG h;subst h;exact aU.ret hΓ
def fR(aB:aE)(aW:aE):Option Bool:=(bif (aB.rel:Bytes)==aW.rel then((q9 aB.args aW.args).bind fun y2=>(some y2))else(some false))
theorem oJ{aB:aE}{aW:aE}{r:Bool}(h:fR aB aW=some r):Good prog 159 [D.agg (aE.c aB),D.agg (aE.c aW)] (D.bool r):=by
 refine gd func159 [[none]] 17 fun hr Γ hΓ=>?_
 rw[fR]at h;obtain⟨h1,h⟩|⟨h1,h⟩:=aM h
 ·obtain⟨y2,h3,h⟩:=aD h;have h:=aG h;subst h;exact(((aU.r 5 h1).g (zR h3)).b h1).ret hΓ
 ·have h:=aG h;subst h;exact(aU.r 6 h1).ret hΓ
def kC(aB:aQ)(aW:aQ):Option Bool:=(bif (aB.kind:Int)==aW.kind then(bif (aB.left:Bytes)==aW.left then(bif (aB.right:Bytes)==aW.right then((fR aB.pat aW.pat).bind fun y4=>(some y4))else(some false))else(some false))else(some false))
theorem wM{aB:aQ}{aW:aQ}{r:Bool}(h:kC aB aW=some r):Good prog 160 [D.agg (aQ.c aB),D.agg (aQ.c aW)] (D.bool r):=by
 refine gd func160 [[none]] 31 fun hr Γ hΓ=>?_
 rw[kC]at h;obtain⟨h1,h⟩|⟨h1,h⟩:=aM h
 ·have kF:=(aU.r 6 h1)
  obtain⟨h2,h⟩|⟨h2,h⟩:=aM h
  ·have dJ:=(kF.r 6 h2)
   obtain⟨h3,h⟩|⟨h3,h⟩:=aM h
   ·obtain⟨y4,h5,h⟩:=aD h;have h:=aG h;subst h;exact(((dJ.r 5 h3).g (oJ h5)).b h3).ret hΓ
   ·have h:=aG h;subst h;exact(dJ.r 6 h3).ret hΓ
  ·have h:=aG h;subst h;exact((kF.r 6 h2).F 6).ret hΓ
 ·have h:=aG h;subst h;exact((aU.r 6 h1).F 12).ret hΓ
def sv(aB:aE):Option aE:=((oM aB.args).bind fun y1=>((lZ (⟨0,aB,[],[]⟩:aQ) y1).bind fun y3=>(some y3.pat)))
theorem B2{aB:aE}{r:aE}(h:sv aB=some r):Good prog 258 [D.agg (aE.c aB)] (D.agg [D.str r.rel,D.fr 9 1 (r.args.map tx)]):=by
 refine gd func258 [[none,some (9,1)]] 10 fun hr Γ hΓ=>?_
 rw[sv]at h;obtain⟨y1,h2,h⟩:=aD h;obtain⟨y3,h4,h⟩:=aD h;cases h;exact((((aU.a [.n 5]).g (yu h2)).a [.d (D.agg [D.int .i64 y3.kind,D.str y3.pat.rel,D.fr 9 1 (y3.pat.args.map tx),D.str y3.left,D.str y3.right])]).w (show Good prog 256 [D.agg [D.int .i64 0,D.str aB.rel,D.sl (aB.args.map tx),D.str ([]),D.str ([])],D.sl (y1.map aS.c)] (D.agg [D.int .i64 y3.kind,D.str y3.pat.rel,D.fr 9 1 (y3.pat.args.map tx),D.str y3.left,D.str y3.right])from by first| (simpa only[bN,bG,bW,dB,cm]using pN h4)|exact pN h4| (have t:=pN h4;simp only[bN,dB,cm,aQ.c]at t;exact t))).ret hΓ
def eX(aB:aF)(aW:aE)(k1:Option (aF×Int)):b7->Nat->Option (aF×Int)
 | [],i1=>(k1)
 |bD::bZ,i1=>((fR bD.shape aW).bind fun lT=>(bif lT then(some (aB,(i1:Int)))else(eX aB aW k1 bZ (i1+1))))
def iW(aB:aF)(aW:aE):Option (aF×Int):=(bif decide (aB.av.length<=maxLen)then(eX aB aW (bif room ((aB.av.map aP.c).length+([[D.str aW.rel,D.sl (aW.args.map tx),D.sl ([])]]).length) 64 then(some ((⟨aB.rules,aB.ends,aB.av++([(⟨aW,[]⟩:aP)]),aB.nodes,aB.facts,aB.bw⟩:aF),IntKind.i64.wrap ((((aB.av.map aP.c)++([[D.str aW.rel,D.sl (aW.args.map tx),D.sl ([])]])).length:Int)-1)))else none) aB.av 0)else none)
def Bq(fN:Value)(aB:aF)(aW:aE)(cT:Int):St:=⟨[(0,D.ptr 0 0),(3,D.ptr 1 0),(10,D.acc 2),(11,D.int .i64 ((aB.av.map aP.c).length:Int)),(12,D.int .i64 cT)],[Ob.Pr [D.acc 3,D.acc 4,D.acc 2,D.acc 5,D.acc 6,D.int .i64 aB.bw] fN,Ob.box [D.str aW.rel,D.acc 7],Ob.row .uq 111 3 (aB.av.map aP.c),Ob.row .uq 105 4 (aB.rules.map aN.c),Ob.row .uq 3 1 (aB.ends.map dL),Ob.row .uq 118 8 (aB.nodes.map Node.c),Ob.row .uq 53 2 (aB.facts.map aE.c),Ob.row .uq 9 1 (aW.args.map tx)]⟩
theorem BN(hΓ:Γ.nt=40){fN:Value}{aB:aF}{aW:aE}{r:aF×Int}{k1:Option (aF×Int)}(cX:k1=some r->Ax Γ N f257 (.p [[some (105,4),some (3,1),some (111,3),some (118,8),some (53,2),none],[none]] fN (cW r.1) (D.int .i64 r.2)) [1,1] ⟨[(0,D.ptr 0 0),(3,D.ptr 1 0)],[Ob.Pr [D.acc 2,D.acc 3,D.acc 4,D.acc 5,D.acc 6,D.int .i64 aB.bw] fN,Ob.box [D.str aW.rel,D.acc 7],Ob.row .uq 105 4 (aB.rules.map aN.c),Ob.row .uq 3 1 (aB.ends.map dL),Ob.row .uq 111 3 (aB.av.map aP.c),Ob.row .uq 118 8 (aB.nodes.map Node.c),Ob.row .uq 53 2 (aB.facts.map aE.c),Ob.row .uq 9 1 (aW.args.map tx)]⟩)(hm1:aB.av.length<=maxLen):∀(rest:b7) (i1:Nat),aB.av.drop i1=rest->eX aB aW k1 rest i1=some r->Ar Γ N f257 (.p [[some (105,4),some (3,1),some (111,3),some (118,8),some (53,2),none],[none]] fN (cW r.1) (D.int .i64 r.2)) [1,0,1,0] (rest.length+1) (Bq fN aB aW (i1:Int)):=by
 intro rest
 induction rest with
 |nil=>
  intro i1 aj h;rw[eX]at h;refine aO fun N1 bz bg=>?_
  exact((aU.ge aP.c aj).a [.hl 0 [0,3] [0,1,3,4,2,5,6,7]]).ex hΓ bz (cX h)
 |cons bD bZ ih1=>
  intro i1 aj h;rw[eX]at h;refine aO fun N1 bz bg=>?_
  obtain⟨lT,h23,h⟩:=aD h;have dJ:=((((aU.lt aP.c aj).i (pP aP.c 3 (dc aj))).o 3 3 .uq (dG aP.c (dc aj))).g (oJ h23))
  obtain⟨h24,h⟩|⟨h24,h⟩:=aM h
  ·cases h;exact(dJ.b h24).ret hΓ
  ·exact((dJ.b h24).a [.cn [0,3,10,11,12] [0,1,2,3,4,5,6,7]]).ct hΓ bg (iS aj hm1) (ih1 (i1+1) (dn aj) h)
theorem uP{aB:aF}{aW:aE}{r:aF×Int}(h:iW aB aW=some r):Bj prog 257 (cW aB) (cW r.1) [D.agg [D.str aW.rel,D.fr 9 1 (aW.args.map tx)]] (D.int .i64 r.2):=by
 refine gdP func257 [[some (105,4),some (3,1),some (111,3),some (118,8),some (53,2),none],[none]] 40 [D.acc 1,D.acc 2,D.acc 3,D.acc 4,D.acc 5,D.int .i64 aB.bw] [D.agg [D.str aW.rel,D.acc 6]] [Ob.row .uq 105 4 (aB.rules.map aN.c),Ob.row .uq 3 1 (aB.ends.map dL),Ob.row .uq 111 3 (aB.av.map aP.c),Ob.row .uq 118 8 (aB.nodes.map Node.c),Ob.row .uq 53 2 (aB.facts.map aE.c),Ob.row .uq 9 1 (aW.args.map tx)] fun hr fN Γ hΓ=>?_
 rw[iW]at h;obtain⟨h27,h⟩:=bV h;refine(aU.a [.cn [0,3,10,11,12] [0,7,3,1,2,4,5,6]]).lp hΓ (BN hΓ (fun h=>?_) (bt h27) aB.av 0 rfl h);obtain⟨h26,h⟩:=bV h;cases h;exact((aU.w (cB h26)).a [.n2 [0,1,2,3,4,5,6,7,8,9,10,11] [0,1,2,3,4,5,6,7,8,9,10,11] 7 9 [0,1,2,3,4] [4,7,8]]).rts hΓ (D.gZ [D.int .i64 (IntKind.i64.wrap ((((aB.av.map aP.c)++([[D.str aW.rel,D.sl (aW.args.map tx),D.sl ([])]])).length:Int)-1)),D.agg [D.fr 105 4 (aB.rules.map aN.c),D.fr 3 1 (aB.ends.map dL),D.fr 111 3 ((aB.av.map aP.c)++([[D.str aW.rel,D.sl (aW.args.map tx),D.sl ([])]])),D.fr 118 8 (aB.nodes.map Node.c),D.fr 53 2 (aB.facts.map aE.c),D.int .i64 aB.bw],D.val fN]) (by first|rfl| (simp only[mA]<;>rfl)| (simp only[cW,mA]<;>rfl))
def dF(aB:aF)(aW:Int)(cY:aQ)(k1:Option (aF×Int)):ay->Nat->Option (aF×Int)
 | [],i1=>(k1)
 |bD::bZ,i1=>(bif decide (((i1:Int):Int)>0)then(bif (bD.parent:Int)==aW then((kC bD.cond cY).bind fun BF=>(bif BF then(some (aB,(i1:Int)))else(dF aB aW cY k1 bZ (i1+1))))else(dF aB aW cY k1 bZ (i1+1)))else(dF aB aW cY k1 bZ (i1+1)))
def kp(aB:aF)(aW:Int)(cY:aQ):Option (aF×Int):=(bif decide (aB.nodes.length<=maxLen)then(dF aB aW cY (bif (cY.kind:Int)==1 then((sv cY.pat).bind fun FB=>((iW aB FB).bind fun QF=>((fF cY).bind fun Kb=>(bif room ((QF.1.nodes.map Node.c).length+([[D.int .i64 aW,D.int .i64 Kb.kind,D.str Kb.pat.rel,D.sl (Kb.pat.args.map tx),D.str Kb.left,D.str Kb.right,D.int .i64 QF.2,D.sl ([])]]).length) 120 then(some ((⟨QF.1.rules,QF.1.ends,QF.1.av,QF.1.nodes++([(⟨aW,Kb,QF.2,[]⟩:Node)]),QF.1.facts,QF.1.bw⟩:aF),IntKind.i64.wrap ((((QF.1.nodes.map Node.c)++([[D.int .i64 aW,D.int .i64 Kb.kind,D.str Kb.pat.rel,D.sl (Kb.pat.args.map tx),D.str Kb.left,D.str Kb.right,D.int .i64 QF.2,D.sl ([])]])).length:Int)-1)))else none))))else(bif (cY.kind:Int)==2 then((sv cY.pat).bind fun y47=>((iW aB y47).bind fun MQ=>((fF cY).bind fun Py=>(bif room ((MQ.1.nodes.map Node.c).length+([[D.int .i64 aW,D.int .i64 Py.kind,D.str Py.pat.rel,D.sl (Py.pat.args.map tx),D.str Py.left,D.str Py.right,D.int .i64 MQ.2,D.sl ([])]]).length) 120 then(some ((⟨MQ.1.rules,MQ.1.ends,MQ.1.av,MQ.1.nodes++([(⟨aW,Py,MQ.2,[]⟩:Node)]),MQ.1.facts,MQ.1.bw⟩:aF),IntKind.i64.wrap ((((MQ.1.nodes.map Node.c)++([[D.int .i64 aW,D.int .i64 Py.kind,D.str Py.pat.rel,D.sl (Py.pat.args.map tx),D.str Py.left,D.str Py.right,D.int .i64 MQ.2,D.sl ([])]])).length:Int)-1)))else none))))else((fF cY).bind fun Rl=>(bif room ((aB.nodes.map Node.c).length+([[D.int .i64 aW,D.int .i64 Rl.kind,D.str Rl.pat.rel,D.sl (Rl.pat.args.map tx),D.str Rl.left,D.str Rl.right,D.int .i64 (-1),D.sl ([])]]).length) 120 then(some ((⟨aB.rules,aB.ends,aB.av,aB.nodes++([(⟨aW,Rl, -1,[]⟩:Node)]),aB.facts,aB.bw⟩:aF),IntKind.i64.wrap ((((aB.nodes.map Node.c)++([[D.int .i64 aW,D.int .i64 Rl.kind,D.str Rl.pat.rel,D.sl (Rl.pat.args.map tx),D.str Rl.left,D.str Rl.right,D.int .i64 (-1),D.sl ([])]])).length:Int)-1)))else none)))) aB.nodes 0)else none)
def Br(fN:Value)(aB:aF)(aW:Int)(cY:aQ)(cT:Int):St:=⟨[(0,D.ptr 0 0),(1,D.int .i64 aW),(5,D.ptr 1 0),(13,D.acc 2),(14,D.int .i64 ((aB.nodes.map Node.c).length:Int)),(15,D.int .i64 cT)],[Ob.Pr [D.acc 3,D.acc 4,D.acc 5,D.acc 2,D.acc 6,D.int .i64 aB.bw] fN,Ob.box (aQ.c cY),Ob.row .uq 118 8 (aB.nodes.map Node.c),Ob.row .uq 105 4 (aB.rules.map aN.c),Ob.row .uq 3 1 (aB.ends.map dL),Ob.row .uq 111 3 (aB.av.map aP.c),Ob.row .uq 53 2 (aB.facts.map aE.c)]⟩
theorem BO(hΓ:Γ.nt=69){fN:Value}{aB:aF}{aW:Int}{cY:aQ}{r:aF×Int}{k1:Option (aF×Int)}(cX:k1=some r->Ax Γ N f201 (.p [[some (105,4),some (3,1),some (111,3),some (118,8),some (53,2),none],[none]] fN (cW r.1) (D.int .i64 r.2)) [1,1] ⟨[(0,D.ptr 0 0),(1,D.int .i64 aW),(5,D.ptr 1 0)],[Ob.Pr [D.acc 2,D.acc 3,D.acc 4,D.acc 5,D.acc 6,D.int .i64 aB.bw] fN,Ob.box (aQ.c cY),Ob.row .uq 105 4 (aB.rules.map aN.c),Ob.row .uq 3 1 (aB.ends.map dL),Ob.row .uq 111 3 (aB.av.map aP.c),Ob.row .uq 118 8 (aB.nodes.map Node.c),Ob.row .uq 53 2 (aB.facts.map aE.c)]⟩)(hm1:aB.nodes.length<=maxLen):∀(rest:ay) (i1:Nat),aB.nodes.drop i1=rest->dF aB aW cY k1 rest i1=some r->Ar Γ N f201 (.p [[some (105,4),some (3,1),some (111,3),some (118,8),some (53,2),none],[none]] fN (cW r.1) (D.int .i64 r.2)) [1,0,1,0] (rest.length+1) (Br fN aB aW cY (i1:Int)):=by
 intro rest
 induction rest with
 |nil=>
  intro i1 aj h;rw[dF]at h;refine aO fun N1 bz bg=>?_
  exact((aU.ge Node.c aj).a [.hl 0 [0,1,5] [0,1,3,4,5,2,6]]).ex hΓ bz (cX h)
 |cons bD bZ ih1=>
  intro i1 aj h;rw[dF]at h;refine aO fun N1 bz bg=>?_
  have ia:=(((aU.lt Node.c aj).i (pP Node.c 8 (dc aj))).o 8 8 .uq (dG Node.c (dc aj)))
  obtain⟨h30,h⟩|⟨h30,h⟩:=aM h
  ·have tq:=(ia.r 5 h30)
   obtain⟨h31,h⟩|⟨h31,h⟩:=aM h
   ·obtain⟨BF,h33,h⟩:=aD h;have wm:=(((tq.r 4 h31).g (wM h33)).b h31)
    obtain⟨h34,h⟩|⟨h34,h⟩:=aM h
    ·cases h;exact(wm.b h34).ret hΓ
    ·exact((wm.b h34).a [.cn [0,1,5,13,14,15] [0,1,2,3,4,5,6]]).ct hΓ bg (iS aj hm1) (ih1 (i1+1) (dn aj) h)
   ·exact(((tq.r 5 h31).F 1).a [.cn [0,1,5,13,14,15] [0,1,2,3,4,5,6]]).ct hΓ bg (iS aj hm1) (ih1 (i1+1) (dn aj) h)
  ·exact(((ia.r 5 h30).F 6).a [.cn [0,1,5,13,14,15] [0,1,2,3,4,5,6]]).ct hΓ bg (iS aj hm1) (ih1 (i1+1) (dn aj) h)
theorem Ak{aB:aF}{aW:Int}{cY:aQ}{r:aF×Int}(h:kp aB aW cY=some r):Bj prog 201 (cW aB) (cW r.1) [D.int .i64 aW,D.agg (aQ.c cY)] (D.int .i64 r.2):=by
 refine gdP func201 [[some (105,4),some (3,1),some (111,3),some (118,8),some (53,2),none],[none]] 69 [D.acc 1,D.acc 2,D.acc 3,D.acc 4,D.acc 5,D.int .i64 aB.bw] [D.int .i64 aW,D.agg [D.int .i64 cY.kind,D.str cY.pat.rel,D.sl (cY.pat.args.map tx),D.str cY.left,D.str cY.right]] [Ob.row .uq 105 4 (aB.rules.map aN.c),Ob.row .uq 3 1 (aB.ends.map dL),Ob.row .uq 111 3 (aB.av.map aP.c),Ob.row .uq 118 8 (aB.nodes.map Node.c),Ob.row .uq 53 2 (aB.facts.map aE.c)] fun hr fN Γ hΓ=>?_
 rw[kp]at h;obtain⟨h63,h⟩:=bV h;refine(aU.a [.cn [0,1,5,13,14,15] [0,6,4,1,2,3,5]]).lp hΓ (BO hΓ (fun h=>?_) (bt h63) aB.nodes 0 rfl h);obtain⟨h35,h⟩|⟨h35,h⟩:=aM h
 ·obtain⟨FB,h37,h⟩:=aD h;obtain⟨QF,h39,h⟩:=aD h;obtain⟨Kb,h44,h⟩:=aD h;obtain⟨h45,h⟩:=bV h;cases h;exact(((((((aU.r 4 h35).T 1).g (B2 h37)).hp [[some (105,4),some (3,1),some (111,3),some (118,8),some (53,2),none],[none,some (9,1)]] (uP h39)).a [.n2 [0,1,2,3,4,5,6,7,8,9,10,11,12,13,14] [0,1,2,3,4,5,6,7,8,9,10,11,12,13,14] 10 12 [0,1,2,3,4] [11,13,14]]).g (l7 h44)).w (cB h45)).rts hΓ (D.gZ [D.int .i64 (IntKind.i64.wrap ((((QF.1.nodes.map Node.c)++([[D.int .i64 aW,D.int .i64 Kb.kind,D.str Kb.pat.rel,D.sl (Kb.pat.args.map tx),D.str Kb.left,D.str Kb.right,D.int .i64 QF.2,D.sl ([])]])).length:Int)-1)),D.agg [D.fr 105 4 (QF.1.rules.map aN.c),D.fr 3 1 (QF.1.ends.map dL),D.fr 111 3 (QF.1.av.map aP.c),D.fr 118 8 ((QF.1.nodes.map Node.c)++([[D.int .i64 aW,D.int .i64 Kb.kind,D.str Kb.pat.rel,D.sl (Kb.pat.args.map tx),D.str Kb.left,D.str Kb.right,D.int .i64 QF.2,D.sl ([])]])),D.fr 53 2 (QF.1.facts.map aE.c),D.int .i64 QF.1.bw],D.val fN]) (by first|rfl| (simp only[mA]<;>rfl)| (simp only[cW,mA]<;>rfl))
 ·have AR:=(aU.r 4 h35)
  obtain⟨h46,h⟩|⟨h46,h⟩:=aM h
  ·obtain⟨y47,h48,h⟩:=aD h;obtain⟨MQ,h50,h⟩:=aD h;obtain⟨Py,h55,h⟩:=aD h;obtain⟨h56,h⟩:=bV h;cases h;exact((((((AR.b h46).g (B2 h48)).hp [[some (105,4),some (3,1),some (111,3),some (118,8),some (53,2),none],[none,some (9,1)]] (uP h50)).a [.n2 [0,1,2,3,4,5,6,7,8,9,10,11,12,13,14] [0,1,2,3,4,5,6,7,8,9,10,11,12,13,14] 10 12 [0,1,2,3,4] [11,13,14]]).g (l7 h55)).w (cB h56)).rts hΓ (D.gZ [D.int .i64 (IntKind.i64.wrap ((((MQ.1.nodes.map Node.c)++([[D.int .i64 aW,D.int .i64 Py.kind,D.str Py.pat.rel,D.sl (Py.pat.args.map tx),D.str Py.left,D.str Py.right,D.int .i64 MQ.2,D.sl ([])]])).length:Int)-1)),D.agg [D.fr 105 4 (MQ.1.rules.map aN.c),D.fr 3 1 (MQ.1.ends.map dL),D.fr 111 3 (MQ.1.av.map aP.c),D.fr 118 8 ((MQ.1.nodes.map Node.c)++([[D.int .i64 aW,D.int .i64 Py.kind,D.str Py.pat.rel,D.sl (Py.pat.args.map tx),D.str Py.left,D.str Py.right,D.int .i64 MQ.2,D.sl ([])]])),D.fr 53 2 (MQ.1.facts.map aE.c),D.int .i64 MQ.1.bw],D.val fN]) (by first|rfl| (simp only[mA]<;>rfl)| (simp only[cW,mA]<;>rfl))
  ·obtain⟨Rl,h61,h⟩:=aD h;obtain⟨h62,h⟩:=bV h;cases h;exact((((AR.b h46).a [.n2 [0,1,2,3,4,5,6,7,8,9,10,11,12,13,14] [0,1,2,3,4,5,6,7,8,9,10,11,12,13,14] 10 12 [0,1,2,3,4] [5,7,8]]).g (l7 h61)).w (cB h62)).rts hΓ (D.gZ [D.int .i64 (IntKind.i64.wrap ((((aB.nodes.map Node.c)++([[D.int .i64 aW,D.int .i64 Rl.kind,D.str Rl.pat.rel,D.sl (Rl.pat.args.map tx),D.str Rl.left,D.str Rl.right,D.int .i64 (-1),D.sl ([])]])).length:Int)-1)),D.agg [D.fr 105 4 (aB.rules.map aN.c),D.fr 3 1 (aB.ends.map dL),D.fr 111 3 (aB.av.map aP.c),D.fr 118 8 ((aB.nodes.map Node.c)++([[D.int .i64 aW,D.int .i64 Rl.kind,D.str Rl.pat.rel,D.sl (Rl.pat.args.map tx),D.str Rl.left,D.str Rl.right,D.int .i64 (-1),D.sl ([])]])),D.fr 53 2 (aB.facts.map aE.c),D.int .i64 aB.bw],D.val fN]) (by first|rfl| (simp only[mA]<;>rfl)| (simp only[cW,mA]<;>rfl))
def jf(aB:ar)(i1:Nat)(MN:aq)(k2:Int->Int->ar->bI->b7->ay->aL->Option aF):aq->Nat->Int->Int->ar->bI->b7->ay->aL->Option aF
 | [],i2,tr,oz,DG,pJ,xC,xD,sL=>(k2 tr oz DG pJ xC xD sL)
 |lV::wu,i2,tr,oz,DG,pJ,xC,xD,sL=>((kp (⟨DG,pJ,xC,xD,sL,oz⟩:aF) tr lV).bind fun zj=>(jf aB i1 MN k2 wu (i2+1) zj.2 zj.1.bw zj.1.rules zj.1.ends zj.1.av zj.1.nodes zj.1.facts))
def je(aB:ar)(k1:Int->ar->bI->b7->ay->aL->Option aF):ar->Nat->Int->ar->bI->b7->ay->aL->Option aF
 | [],i1,dV,fW,eN,mG,iV,qg=>(k1 dV fW eN mG iV qg)
 |bD::bZ,i1,dV,fW,eN,mG,iV,qg=>((rK bD).bind fun MN=>(bif decide (MN.length<=maxLen)then(jf aB i1 MN (fun(BZ:Int) (oy:Int) (MF:ar) (CI:bI) (MG:b7) (vr:ay) (MH:aL)=>(bif room ((CI.map dL).length+([[D.int .i64 BZ]]).length) 8 then(je aB k1 bZ (i1+1) oy MF (CI++([BZ])) MG vr MH)else none)) MN 0 0 dV fW eN mG iV qg)else none))
def tD(aB:ar):Option aF:=((pz aB).bind fun y1=>(je aB (fun(mE:Int) (sM:ar) (fV:bI) (CH:b7) (nu:ay) (qc:aL)=>(some (⟨sM,fV,CH,nu,qc,mE⟩:aF))) aB 0 0 y1 ([]:bI) ([]:b7) ([(⟨-1,(⟨0,(⟨[],[]⟩:aE),[],[]⟩:aQ), -1,[]⟩:Node)]) ([]:aL)))
def xO(aB:ar)(dV:Int)(W1:List aR)(W2:List aR)(W3:List aR)(W4:List aR)(W5:List aR)(cT:Int):St:=⟨[(2,D.ptr 0 0),(3,D.ptr 1 0),(14,D.sl (aB.map aN.c)),(15,D.int .i64 ((aB.map aN.c).length:Int)),(16,D.int .i64 cT)],[Ob.box [D.nil,D.nil,D.nil,D.nil,D.nil,D.int .i64 0],Ob.box [D.acc 2,D.acc 3,D.acc 4,D.acc 5,D.acc 6,D.int .i64 dV],Ob.row .uq 105 4 W1,Ob.row .uq 3 1 W2,Ob.row .uq 111 3 W3,Ob.row .uq 118 8 W4,Ob.row .uq 53 2 W5]⟩
def J2(aB:ar)(i1:Nat)(MN:aq)(tr:Int)(oz:Int)(W2:List aR)(W3:List aR)(W4:List aR)(W5:List aR)(W6:List aR)(cT:Int):St:=⟨[(2,D.ptr 0 0),(3,D.ptr 1 0),(6,D.int .i64 tr),(14,D.sl (aB.map aN.c)),(15,D.int .i64 ((aB.map aN.c).length:Int)),(16,D.int .i64 (i1:Int)),(21,D.acc 2),(22,D.int .i64 ((MN.map aQ.c).length:Int)),(23,D.int .i64 cT)],[Ob.box [D.nil,D.nil,D.nil,D.nil,D.nil,D.int .i64 0],Ob.box [D.acc 3,D.acc 4,D.acc 5,D.acc 6,D.acc 7,D.int .i64 oz],Ob.row .uq 115 5 (MN.map aQ.c),Ob.row .uq 105 4 W2,Ob.row .uq 3 1 W3,Ob.row .uq 111 3 W4,Ob.row .uq 118 8 W5,Ob.row .uq 53 2 W6]⟩
theorem Gr(hΓ:Γ.nt=39){aB:ar}{i1:Nat}{MN:aq}{r:aF}{k2:Int->Int->ar->bI->b7->ay->aL->Option aF}(Cn:∀(BZ:Int) (oy:Int) (MF:ar) (CI:bI) (MG:b7) (vr:ay) (MH:aL),k2 BZ oy MF CI MG vr MH=some r->Ax Γ N f134 (.q [[some (105,4),some (3,1),some (111,3),some (118,8),some (53,2),none]] (D.agg [D.fr 105 4 (r.rules.map aN.c),D.fr 3 1 (r.ends.map dL),D.fr 111 3 (r.av.map aP.c),D.fr 118 8 (r.nodes.map Node.c),D.fr 53 2 (r.facts.map aE.c),D.int .i64 r.bw])) [1,1,0,1,0,0,1,1,0,0,1,1,1] ⟨[(2,D.ptr 0 0),(3,D.ptr 1 0),(6,D.int .i64 BZ),(14,D.sl (aB.map aN.c)),(15,D.int .i64 ((aB.map aN.c).length:Int)),(16,D.int .i64 (i1:Int))],[Ob.box [D.nil,D.nil,D.nil,D.nil,D.nil,D.int .i64 0],Ob.box [D.acc 2,D.acc 3,D.acc 4,D.acc 5,D.acc 6,D.int .i64 oy],Ob.row .uq 105 4 (MF.map aN.c),Ob.row .uq 3 1 (CI.map dL),Ob.row .uq 111 3 (MG.map aP.c),Ob.row .uq 118 8 (vr.map Node.c),Ob.row .uq 53 2 (MH.map aE.c)]⟩)(hm2:MN.length<=maxLen):∀(rest:aq) (i2:Nat) (tr:Int) (oz:Int) (DG:ar) (pJ:bI) (xC:b7) (xD:ay) (sL:aL),MN.drop i2=rest->jf aB i1 MN k2 rest i2 tr oz DG pJ xC xD sL=some r->Ar Γ N f134 (.q [[some (105,4),some (3,1),some (111,3),some (118,8),some (53,2),none]] (D.agg [D.fr 105 4 (r.rules.map aN.c),D.fr 3 1 (r.ends.map dL),D.fr 111 3 (r.av.map aP.c),D.fr 118 8 (r.nodes.map Node.c),D.fr 53 2 (r.facts.map aE.c),D.int .i64 r.bw])) [1,1,0,1,0,0,1,1,0,0,1,1,0,1,0] (rest.length+1) (J2 aB i1 MN tr oz (DG.map aN.c) (pJ.map dL) (xC.map aP.c) (xD.map Node.c) (sL.map aE.c) (i2:Int)):=by
 intro rest
 induction rest with
 |nil=>
  intro i2 tr oz DG pJ xC xD sL hd2 h;rw[jf]at h;refine aO fun N2 xo uz=>?_
  exact((aU.ge aQ.c hd2).a [.hl 5 [2,3,6,14,15,16] [0,1,3,4,5,6,7]]).ex hΓ xo (Cn tr oz DG pJ xC xD sL h)
 |cons lV wu ih2=>
  intro i2 tr oz DG pJ xC xD sL hd2 h;rw[jf]at h;refine aO fun N2 xo uz=>?_
  obtain⟨zj,h209,h⟩:=aD h;exact((((((aU.lt aQ.c hd2).i (pP aQ.c 5 (dc hd2))).o 5 5 .uq (dG aQ.c (dc hd2))).a [.gp [[some (105,4),some (3,1),some (111,3),some (118,8),some (53,2),none],[none],[none,none,none,none,none]] (cW zj.1) (D.int .i64 zj.2)]).w (show Bj prog 201 (cW (⟨DG,pJ,xC,xD,sL,oz⟩:aF)) (cW zj.1) [D.int .i64 tr,D.agg (aQ.c lV)] (D.int .i64 zj.2)from by simpa only[bN,bG,bW,dB,cm]using Ak h209)).a [.cn [2,3,6,14,15,16,21,22,23] [0,1,2,9,10,11,12,13]]).ct hΓ uz (iS hd2 hm2) (ih2 (i2+1) zj.2 zj.1.bw zj.1.rules zj.1.ends zj.1.av zj.1.nodes zj.1.facts (dn hd2) h)
theorem Gq(hΓ:Γ.nt=39){aB:ar}{r:aF}{k1:Int->ar->bI->b7->ay->aL->Option aF}(cX:∀(mE:Int) (sM:ar) (fV:bI) (CH:b7) (nu:ay) (qc:aL),k1 mE sM fV CH nu qc=some r->Ax Γ N f134 (.q [[some (105,4),some (3,1),some (111,3),some (118,8),some (53,2),none]] (D.agg [D.fr 105 4 (r.rules.map aN.c),D.fr 3 1 (r.ends.map dL),D.fr 111 3 (r.av.map aP.c),D.fr 118 8 (r.nodes.map Node.c),D.fr 53 2 (r.facts.map aE.c),D.int .i64 r.bw])) [1,1,1] ⟨[(2,D.ptr 0 0),(3,D.ptr 1 0)],[Ob.box [D.nil,D.nil,D.nil,D.nil,D.nil,D.int .i64 0],Ob.box [D.acc 2,D.acc 3,D.acc 4,D.acc 5,D.acc 6,D.int .i64 mE],Ob.row .uq 105 4 (sM.map aN.c),Ob.row .uq 3 1 (fV.map dL),Ob.row .uq 111 3 (CH.map aP.c),Ob.row .uq 118 8 (nu.map Node.c),Ob.row .uq 53 2 (qc.map aE.c)]⟩)(hm1:aB.length<=maxLen):∀(rest:ar) (i1:Nat) (dV:Int) (fW:ar) (eN:bI) (mG:b7) (iV:ay) (qg:aL),aB.drop i1=rest->je aB k1 rest i1 dV fW eN mG iV qg=some r->Ar Γ N f134 (.q [[some (105,4),some (3,1),some (111,3),some (118,8),some (53,2),none]] (D.agg [D.fr 105 4 (r.rules.map aN.c),D.fr 3 1 (r.ends.map dL),D.fr 111 3 (r.av.map aP.c),D.fr 118 8 (r.nodes.map Node.c),D.fr 53 2 (r.facts.map aE.c),D.int .i64 r.bw])) [1,1,0,1,0] (rest.length+1) (xO aB dV (fW.map aN.c) (eN.map dL) (mG.map aP.c) (iV.map Node.c) (qg.map aE.c) (i1:Int)):=by
 intro rest
 induction rest with
 |nil=>
  intro i1 dV fW eN mG iV qg aj h;rw[je]at h;refine aO fun N1 bz bg=>?_
  exact((aU.ge aN.c aj).a [.hl 0 [2,3] [0,1,2,3,4,5,6]]).ex hΓ bz (cX dV fW eN mG iV qg h)
 |cons bD bZ ih1=>
  intro i1 dV fW eN mG iV qg aj h;rw[je]at h;refine aO fun N1 bz bg=>?_
  obtain⟨MN,h180,h⟩:=aD h;obtain⟨h211,h⟩:=bV h;refine((((aU.lt aN.c aj).l (ax aN.c 4 (dc aj) rfl)).g (EP h180)).a [.cn [2,3,6,14,15,16,21,22,23] [0,1,8,2,3,4,5,6]]).lp hΓ (Gr hΓ (fun BZ oy MF CI MG vr MH h=>?_) (bt h211) MN 0 0 dV fW eN mG iV qg rfl h);obtain⟨h210,h⟩:=bV h;exact((aU.w (cB h210)).a [.cn [2,3,14,15,16] [0,1,2,8,4,5,6]]).cs hΓ bg (xO aB oy (MF.map aN.c) ((CI.map dL)++([[D.int .i64 BZ]])) (MG.map aP.c) (vr.map Node.c) (MH.map aE.c) (IntKind.i64.wrap ((i1:Int)+1))) (by first| (simp only[iS aj hm1,mA]<;>rfl)| (simp only[iS aj hm1,mA,aE.c,aS.c,aQ.c,Action.c,aN.c,aI.c,cu.c,aP.c,Node.c,aF.c,cw.c]<;>rfl)) (ih1 (i1+1) oy MF (CI++([BZ])) MG vr MH (dn aj) h)
theorem Fg{aB:ar}{r:aF}(h:tD aB=some r):Good prog 134 [D.sl (aB.map aN.c)] (D.agg [D.fr 105 4 (r.rules.map aN.c),D.fr 3 1 (r.ends.map dL),D.fr 111 3 (r.av.map aP.c),D.fr 118 8 (r.nodes.map Node.c),D.fr 53 2 (r.facts.map aE.c),D.int .i64 r.bw]):=by
 refine gd func134 [[some (105,4),some (3,1),some (111,3),some (118,8),some (53,2),none]] 39 fun hr Γ hΓ=>?_
 rw[tD]at h;obtain⟨y1,h2,h⟩:=aD h;refine((aU.g (zP h2)).a [.pb 3 1 3 1,.pb 3 2 111 3,.pb 3 4 53 2,.cn [2,3,14,15,16] [0,3,1,4,5,2,6]]).XI hΓ (xO aB 0 (y1.map aN.c) ([]:List aR) ([]:List aR) ([[D.int .i64 (-1),D.int .i64 0,D.str ([]),D.sl ([]),D.str ([]),D.str ([]),D.int .i64 (-1),D.sl ([])]]) ([]:List aR) 0) (by first| (simp only[mA]<;>rfl)| (simp only[mA,aE.c,aS.c,aQ.c,Action.c,aN.c,aI.c,cu.c,aP.c,Node.c,aF.c,cw.c]<;>rfl)) (Gq hΓ (fun mE sM fV CH nu qc h=>?_) (by have:=(dY.sl (hr _ (aC (i:=0) rfl))).1;simpa using this) aB 0 0 y1 ([]:bI) ([]:b7) ([(⟨-1,(⟨0,(⟨[],[]⟩:aE),[],[]⟩:aQ), -1,[]⟩:Node)]) ([]:aL) rfl h);cases h;exact aU.ret hΓ
def hY(aB:aT)(k1:Option Bool):aT->Nat->Option Bool
 | [],i1=>(k1)
 |bD::bZ,i1=>((lY bD.var).bind fun y50=>(bif !(y50)then(some false)else((fQ bD.value).bind fun y53=>(bif !(y53)then(some false)else(bif decide (((i1:Int):Int)>0)then((mK aB (IntKind.i64.wrap ((i1:Int)-1))).bind fun x57=>(bif !(Op.bytesLess x57.var bD.var)then(some false)else(hY aB k1 bZ (i1+1))))else(hY aB k1 bZ (i1+1)))))))
def kw(aB:aT):Option Bool:=(bif decide ((((aB.map aS.c).length:Int):Int)>6)then(some false)else(hY aB (some true) aB 0))
def Im(aB:aT)(cT:Int):St:=⟨[(0,D.sl (aB.map aS.c)),(8,D.sl (aB.map aS.c)),(9,D.int .i64 ((aB.map aS.c).length:Int)),(10,D.int .i64 cT)],[]⟩
theorem GZ(hΓ:Γ.nt=41){aB:aT}{r:Bool}{k1:Option Bool}(cX:k1=some r->Ax Γ N f193 (.q [[none]] (D.bool r)) [1,1,1] ⟨[],[]⟩)(hm1:aB.length<=maxLen):∀(rest:aT) (i1:Nat),aB.drop i1=rest->hY aB k1 rest i1=some r->Ar Γ N f193 (.q [[none]] (D.bool r)) [1,1,0,1,0] (rest.length+1) (Im aB (i1:Int)):=by
 intro rest
 induction rest with
 |nil=>
  intro i1 aj h;rw[hY]at h;refine aO fun N1 bz bg=>?_
  exact((aU.ge aS.c aj).a [.hl 0 [] []]).ex hΓ bz (cX h)
 |cons bD bZ ih1=>
  intro i1 aj h;rw[hY]at h;refine aO fun N1 bz bg=>?_
  obtain⟨y50,h51,h⟩:=aD h;have tq:=((((aU.lt aS.c aj).l (ax aS.c 2 (dc aj) rfl)).a [.n 22]).g (oI h51))
  obtain⟨h52,h⟩|⟨h52,h⟩:=aM h
  ·have h:=aG h;subst h;exact((((tq.r 5 h52).T 3).a [bF,bF,bF,bF,bF,bF,bF,bF,bF]).T 3).ret hΓ
  ·obtain⟨y53,h54,h⟩:=aD h;have wm:=(((tq.r 3 h52).g (eY h54)).r 2 h52)
   obtain⟨h55,h⟩|⟨h55,h⟩:=aM h
   ·have h:=aG h;subst h;exact((((wm.r 3 h55).a [bF,bF,bF,bF,bF,bF,bF,bF,bF]).r 2 h55).T 1).ret hΓ
   ·have AR:=(wm.r 3 h55)
    obtain⟨h56,h⟩|⟨h56,h⟩:=aM h
    ·obtain⟨x57,h58,h⟩:=aD h;have FG:=((((((AR.r 4 h56).l (dl aS.c 2 h58 rfl)).r 5 h56).b h55).b h56).b h55)
     obtain⟨h59,h⟩|⟨h59,h⟩:=aM h
     ·have h:=aG h;subst h;exact(FG.b h59).ret hΓ
     ·exact((FG.b h59).a [.cn [0,8,9,10] []]).ct hΓ bg (iS aj hm1) (ih1 (i1+1) (dn aj) h)
    ·exact((((((AR.r 9 h56).b h55).b h56).b h55).F 1).a [.cn [0,8,9,10] []]).ct hΓ bg (iS aj hm1) (ih1 (i1+1) (dn aj) h)
theorem mw{aB:aT}{r:Bool}(h:kw aB=some r):Good prog 193 [D.sl (aB.map aS.c)] (D.bool r):=by
 refine gd func193 [[none]] 41 fun hr Γ hΓ=>?_
 rw[kw]at h;obtain⟨h1,h⟩|⟨h1,h⟩:=aM h
 ·have h:=aG h;subst h;exact(aU.b h1).ret hΓ
 ·refine((aU.b h1).a [.cn [0,8,9,10] []]).lp hΓ (GZ hΓ (fun h=>?_) (by have:=(dY.sl (hr _ (aC (i:=0) rfl))).1;simpa using this) aB 0 rfl h);have h:=aG h;subst h;exact aU.ret hΓ
def ld(aB:aT)(aW:Bytes)(k1:Option (Bytes×Bool)):aT->Nat->Option (Bytes×Bool)
 | [],i1=>(k1)
 |bD::bZ,i1=>(bif (bD.var:Bytes)==aW then(some (bD.value,true))else(ld aB aW k1 bZ (i1+1)))
def qM(aB:aT)(aW:Bytes):Option (Bytes×Bool):=((fQ aW).bind fun y1=>(bif y1 then(some (aW,true))else((lY aW).bind fun y4=>(bif !(y4)then(some ([],false))else(ld aB aW (some ([],false)) aB 0)))))
def Mn(aB:aT)(aW:Bytes)(cT:Int):St:=⟨[(1,D.str aW),(14,D.sl (aB.map aS.c)),(15,D.int .i64 ((aB.map aS.c).length:Int)),(16,D.int .i64 cT)],[]⟩
theorem Kt(hΓ:Γ.nt=27){aB:aT}{aW:Bytes}{r:Bytes×Bool}{k1:Option (Bytes×Bool)}(cX:k1=some r->Ax Γ N f126 (.q [[none],[none]] (D.gZ [D.str r.1,D.bool r.2])) [1,1,1,1] ⟨[],[]⟩)(hm1:aB.length<=maxLen):∀(rest:aT) (i1:Nat),aB.drop i1=rest->ld aB aW k1 rest i1=some r->Ar Γ N f126 (.q [[none],[none]] (D.gZ [D.str r.1,D.bool r.2])) [1,1,1,0,1,0] (rest.length+1) (Mn aB aW (i1:Int)):=by
 intro rest
 induction rest with
 |nil=>
  intro i1 aj h;rw[ld]at h;refine aO fun N1 bz bg=>?_
  exact((aU.ge aS.c aj).a [.hl 0 [] []]).ex hΓ bz (cX h)
 |cons bD bZ ih1=>
  intro i1 aj h;rw[ld]at h;refine aO fun N1 bz bg=>?_
  have dJ:=((aU.lt aS.c aj).l (ax aS.c 2 (dc aj) rfl))
  obtain⟨h19,h⟩|⟨h19,h⟩:=aM h
  ·cases h;exact(dJ.b h19).ret hΓ
  ·exact((dJ.b h19).a [.cn [1,14,15,16] []]).ct hΓ bg (iS aj hm1) (ih1 (i1+1) (dn aj) h)
theorem xN{aB:aT}{aW:Bytes}{r:Bytes×Bool}(h:qM aB aW=some r):Good prog 126 [D.sl (aB.map aS.c),D.str aW] (D.gZ [D.str r.1,D.bool r.2]):=by
 refine gd func126 [[none],[none]] 27 fun hr Γ hΓ=>?_
 rw[qM]at h;obtain⟨y1,h2,h⟩:=aD h;obtain⟨h3,h⟩|⟨h3,h⟩:=aM h
 ·cases h;exact((aU.g (eY h2)).b h3).ret hΓ
 ·obtain⟨y4,h5,h⟩:=aD h;have jb:=(((aU.g (eY h2)).b h3).g (oI h5))
  obtain⟨h6,h⟩|⟨h6,h⟩:=aM h
  ·cases h;exact(jb.b h6).ret hΓ
  ·refine((jb.b h6).a [.cn [1,14,15,16] []]).lp hΓ (Kt hΓ (fun h=>?_) (by have:=(dY.sl (hr _ (aC (i:=0) rfl))).1;simpa using this) aB 0 rfl h);cases h;exact aU.ret hΓ
end Go.Cx

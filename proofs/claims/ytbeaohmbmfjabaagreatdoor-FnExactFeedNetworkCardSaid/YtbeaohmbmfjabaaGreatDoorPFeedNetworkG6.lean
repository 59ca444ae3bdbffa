/- What functions of the program compute, and the walks that show it. No condition. -/
import Derived.Test.YtbeaohmbmfjabaaGreatDoorPFeedNetworkG5
set_option linter.unusedVariables false
set_option linter.unusedSimpArgs false
namespace Go.Cx
open Go.RowKit Go.Proofs Tryz
set_option maxRecDepth 100000
variable{Γ:vn}{N:Nat->St->Prop}
def jS(aB:aF)(k1:aq->Option aq):Nat->Int->aq->Option aq
 |0,_,_=>none
 |n1+1,b8,bu=>((lI b8 1 (IntKind.i64.wrap (((aB.nodes.map Node.c).length:Int)-1))).bind fun y28=>(bif y28 then((mJ aB.nodes b8).bind fun x31=>((k9 x31.cond).bind fun BZ=>(bif room (([[D.int .i64 BZ.kind,D.str BZ.pat.rel,D.sl (BZ.pat.args.map tx),D.str BZ.left,D.str BZ.right]]).length+(bu.map aQ.c).length) 80 then(bif decide ((x31.parent:Int)>=b8)then(k1 (([BZ])++bu))else(jS aB k1 n1 x31.parent (([BZ])++bu)))else none)))else(k1 bu)))
def xX(aB:aF)(aV:Int):Option aq:=(jS aB (fun(bP:aq)=>(some bP)) fuel aV ([]:aq))
def Dd(aB:aF)(b8:Int)(W1:List aR):St:=⟨[(1,D.int .i64 b8),(2,D.ptr 0 0),(5,D.acc 1)],[Ob.box (aF.c aB),Ob.row .uq 115 5 W1]⟩
theorem NC(hΓ:Γ.nt=35){aB:aF}{r:aq}{k1:aq->Option aq}(cW:∀(bP:aq),k1 bP=some r->Ax Γ N f90 (.q [[some (115,5)]] (D.fr 115 5 (r.map aQ.c))) [1,1,1] ⟨[(5,D.acc 0)],[Ob.row .uq 115 5 (bP.map aQ.c)]⟩):∀(n1:Nat) (b8:Int) (bu:aq),jS aB k1 n1 b8 bu=some r->Ar Γ N f90 (.q [[some (115,5)]] (D.fr 115 5 (r.map aQ.c))) [1,1,0,0] n1 (Dd aB b8 (bu.map aQ.c)):=by
 intro n
 induction n with
 |zero=>intro b8 bu h;simp[jS]at h
 |succ n1 ih1=>
  intro b8 bu h;rw[jS]at h;refine aN fun N1 bw bg=>?_
  obtain⟨y28,h29,h⟩:=aD h;obtain⟨h30,h⟩|⟨h30,h⟩:=aL h
  ·obtain⟨x31,h32,h⟩:=aD h;obtain⟨BZ,h34,h⟩:=aD h;obtain⟨h35,h⟩:=bV h;have dJ:=((((((aU.g (gH h29)).b h30).l (dh Node.c 8 h32 rfl)).g (qV h34)).w (cB h35)).l (dh Node.c 8 h32 rfl))
   obtain⟨h36,h⟩|⟨h36,h⟩:=aL h
   ·exact((dJ.b h36).a [.hl 0 [5] [4]]).exs hΓ bw ⟨[(5,D.acc 0)],[Ob.row .uq 115 5 (([[D.int .i64 BZ.kind,D.str BZ.pat.rel,D.sl (BZ.pat.args.map tx),D.str BZ.left,D.str BZ.right]])++(bu.map aQ.c))]⟩ (by first| (simp only[mA]<;>rfl)| (simp only[mA,aE.c,aS.c,aQ.c,Action.c,aO.c,aI.c,cr.c,aP.c,Node.c,aF.c,cv.c]<;>rfl)) (cW (([BZ])++bu) h)
   ·exact((dJ.b h36).a [.cn [1,2,5] [0,4]]).cs hΓ bg (Dd aB x31.parent (([[D.int .i64 BZ.kind,D.str BZ.pat.rel,D.sl (BZ.pat.args.map tx),D.str BZ.left,D.str BZ.right]])++(bu.map aQ.c))) (by first| (simp only[mA]<;>rfl)| (simp only[mA,aE.c,aS.c,aQ.c,Action.c,aO.c,aI.c,cr.c,aP.c,Node.c,aF.c,cv.c]<;>rfl)) (ih1 x31.parent (([BZ])++bu) h)
  ·exact(((aU.g (gH h29)).b h30).a [.hl 0 [5] [1]]).ex hΓ bw (cW bu h)
theorem Lp{aB:aF}{aV:Int}{r:aq}(h:xX aB aV=some r):Good prog 90 [D.agg (aF.c aB),D.int .i64 aV] (D.fr 115 5 (r.map aQ.c)):=by
 refine gd func90 [[some (115,5)]] 35 fun hr Γ hΓ=>?_
 rw[xX]at h;refine(aU.a [.cn [1,2,5] [0,1]]).lp hΓ (NC hΓ (fun bP h=>?_) fuel aV ([]:aq) h);have h:=aG h;subst h;exact aU.ret hΓ
def ug(aB:Bytes):Option Bool:=((oz aB).bind fun y1=>(some y1.2))
theorem AB{aB:Bytes}{r:Bool}(h:ug aB=some r):Good prog 281 [D.str aB] (D.bool r):=by
 refine gd func281 [[none]] 11 fun hr Γ hΓ=>?_
 rw[ug]at h;obtain⟨y1,h2,h⟩:=aD h;cases h;exact(aU.g (wU h2)).ret hΓ
def tT(aB:aQ)(aV:aT):Option Bool:=((sB aB).bind fun y1=>(bif !(y1)then(some false)else((lD aV).bind fun y4=>(bif !(y4)then(some false)else((qT aV aB.left).bind fun y7=>((qT aV aB.right).bind fun y9=>(bif !(y7.2)then(some false)else(bif !(y9.2)then(some false)else(bif (aB.kind:Int)==3 then(some ((y7.1:Bytes)==y9.1))else(bif (aB.kind:Int)==4 then(some (!((y7.1:Bytes)==y9.1)))else((ug y7.1).bind fun Xz=>(bif Xz then((ug y9.1).bind fun y18=>(bif y18 then((jj y7.1 y9.1).bind fun RZ=>(some (decide ((RZ:Int)<0))))else(some false)))else(some false)))))))))))))
theorem Fy{aB:aQ}{aV:aT}{r:Bool}(h:tT aB aV=some r):Good prog 270 [D.agg (aQ.c aB),D.sl (aV.map aS.c)] (D.bool r):=by
 refine gd func270 [[none]] 61 fun hr Γ hΓ=>?_
 rw[tT]at h;obtain⟨y1,h2,h⟩:=aD h;obtain⟨h3,h⟩|⟨h3,h⟩:=aL h
 ·have h:=aG h;subst h;exact(((aU.g (uB h2)).r 4 h3).T 1).ret hΓ
 ·obtain⟨y4,h5,h⟩:=aD h;have kC:=((((aU.g (uB h2)).r 2 h3).g (n8 h5)).r 2 h3)
  obtain⟨h6,h⟩|⟨h6,h⟩:=aL h
  ·have h:=aG h;subst h;exact(kC.b h6).ret hΓ
  ·obtain⟨y7,h8,h⟩:=aD h;obtain⟨y9,h10,h⟩:=aD h;have dJ:=(((kC.b h6).g (xI h8)).g (xI h10))
   obtain⟨h11,h⟩|⟨h11,h⟩:=aL h
   ·have h:=aG h;subst h;exact((dJ.r 3 h11).T 1).ret hΓ
   ·have ja:=(dJ.r 3 h11)
    obtain⟨h12,h⟩|⟨h12,h⟩:=aL h
    ·have h:=aG h;subst h;exact(ja.b h12).ret hΓ
    ·obtain⟨h13,h⟩|⟨h13,h⟩:=aL h
     ·cases h;exact((ja.b h12).b h13).ret hΓ
     ·have iY:=((ja.b h12).b h13)
      obtain⟨h14,h⟩|⟨h14,h⟩:=aL h
      ·cases h;exact(iY.b h14).ret hΓ
      ·obtain⟨Xz,h16,h⟩:=aD h;have tr:=((iY.b h14).g (AB h16))
       obtain⟨h17,h⟩|⟨h17,h⟩:=aL h
       ·obtain⟨y18,h19,h⟩:=aD h;have wX:=(((tr.r 2 h17).g (AB h19)).b h17)
        obtain⟨h20,h⟩|⟨h20,h⟩:=aL h
        ·obtain⟨RZ,h22,h⟩:=aD h;cases h;exact(((wX.r 3 h20).g (xU h22)).r 2 h20).ret hΓ
        ·have h:=aG h;subst h;exact(wX.r 5 h20).ret hΓ
       ·have h:=aG h;subst h;exact((tr.r 3 h17).F 5).ret hΓ
def tS(aB:aQ)(aV:aT)(cX:aK):Option Bool:=((s9 aB).bind fun y1=>(bif !(y1)then(some false)else((lD aV).bind fun y4=>(bif !(y4)then(some false)else(bif (aB.kind:Int)==1 then((gW aB.pat aV cX).bind fun y8=>(some (decide ((((y8.map aE.c).length:Int):Int)>0))))else(bif (aB.kind:Int)==2 then((gW aB.pat aV cX).bind fun MI=>(some ((((MI.map aE.c).length:Int):Int)==0)))else((tT aB aV).bind fun sJ=>(some sJ))))))))
theorem Fx{aB:aQ}{aV:aT}{cX:aK}{r:Bool}(h:tS aB aV cX=some r):Good prog 229 [D.agg (aQ.c aB),D.sl (aV.map aS.c),D.sl (cX.map aE.c)] (D.bool r):=by
 refine gd func229 [[none]] 38 fun hr Γ hΓ=>?_
 rw[tS]at h;obtain⟨y1,h2,h⟩:=aD h;obtain⟨h3,h⟩|⟨h3,h⟩:=aL h
 ·have h:=aG h;subst h;exact(((aU.g (qS h2)).r 4 h3).T 1).ret hΓ
 ·obtain⟨y4,h5,h⟩:=aD h;have kC:=((((aU.g (qS h2)).r 2 h3).g (n8 h5)).r 2 h3)
  obtain⟨h6,h⟩|⟨h6,h⟩:=aL h
  ·have h:=aG h;subst h;exact(kC.b h6).ret hΓ
  ·obtain⟨h7,h⟩|⟨h7,h⟩:=aL h
   ·obtain⟨y8,h9,h⟩:=aD h;cases h;exact(((kC.b h6).b h7).g (gX h9)).ret hΓ
   ·have dJ:=((kC.b h6).b h7)
    obtain⟨h10,h⟩|⟨h10,h⟩:=aL h
    ·obtain⟨MI,h12,h⟩:=aD h;cases h;exact((dJ.b h10).g (gX h12)).ret hΓ
    ·obtain⟨sJ,h14,h⟩:=aD h;have h:=aG h;subst h;exact((dJ.b h10).g (Fy h14)).ret hΓ
def ni(aB:ah)(aV:aQ)(cX:aK)(i1:Nat)(bD:aI)(k2:ah->Option ah):aK->Nat->ah->Option ah
 | [],i2,kB=>(k2 kB)
 |lU::wg,i2,kB=>((jR aV.pat lU bD.bind).bind fun a0Z=>(bif a0Z.2 then((dU bD.facts).bind fun a0a=>((ez lU).bind fun UI=>(bif room ((a0a.map aE.c).length+([[D.str UI.rel,D.sl (UI.args.map tx)]]).length) 40 then(bif room ((kB.map aI.c).length+([[D.sl ((a0a.map aE.c)++([[D.str UI.rel,D.sl (UI.args.map tx)]])),D.sl (a0Z.1.map aS.c)]]).length) 48 then(ni aB aV cX i1 bD k2 wg (i2+1) (kB++([(⟨a0a++([UI]),a0Z.1⟩:aI)])))else none)else none)))else(ni aB aV cX i1 bD k2 wg (i2+1) kB)))
def hG(aB:ah)(aV:aQ)(cX:aK)(k1:ah->Option ah):ah->Nat->ah->Option ah
 | [],i1,bu=>(k1 bu)
 |bD::bZ,i1,bu=>(bif (aV.kind:Int) != 1 then((tS aV bD.bind cX).bind fun aBK=>(bif aBK then((sF bD).bind fun Y2=>(bif room ((bu.map aI.c).length+([[D.sl (Y2.facts.map aE.c),D.sl (Y2.bind.map aS.c)]]).length) 48 then(hG aB aV cX k1 bZ (i1+1) (bu++([Y2])))else none))else(hG aB aV cX k1 bZ (i1+1) bu)))else(bif decide (cX.length<=maxLen)then(ni aB aV cX i1 bD (fun(yw:ah)=>(hG aB aV cX k1 bZ (i1+1) yw)) cX 0 bu)else none))
def sG(aB:ah)(aV:aQ)(cX:aK):Option ah:=(hG aB aV cX (fun(bP:ah)=>(some bP)) aB 0 ([]:ah))
def Dg(aB:ah)(aV:aQ)(cX:aK)(W0:List aR)(cS:Int):St:=⟨[(0,D.sl (aB.map aI.c)),(2,D.sl (cX.map aE.c)),(4,D.ptr 0 0),(7,D.acc 1),(8,D.int .i64 cS)],[Ob.box (aQ.c aV),Ob.row .uq 124 2 W0]⟩
def Dh(aB:ah)(aV:aQ)(cX:aK)(i1:Nat)(W0:List aR)(cS:Int):St:=⟨[(0,D.sl (aB.map aI.c)),(2,D.sl (cX.map aE.c)),(4,D.ptr 0 0),(7,D.acc 1),(8,D.int .i64 (i1:Int)),(9,D.int .i64 cS)],[Ob.box (aQ.c aV),Ob.row .uq 124 2 W0]⟩
theorem NL(hΓ:Γ.nt=79){aB:ah}{aV:aQ}{cX:aK}{i1:Nat}{bD:aI}{r:ah}{k2:ah->Option ah}(Cf:∀(yw:ah),k2 yw=some r->Ax Γ N f154 (.q [[some (124,2)]] (D.fr 124 2 (r.map aI.c))) [1,1,0,1,0,0,1,1] ⟨[(0,D.sl (aB.map aI.c)),(2,D.sl (cX.map aE.c)),(4,D.ptr 0 0),(7,D.acc 1),(8,D.int .i64 (i1:Int))],[Ob.box (aQ.c aV),Ob.row .uq 124 2 (yw.map aI.c)]⟩)(hx1:(aB)[i1]?=some bD)(hm2:cX.length<=maxLen):∀(rest:aK) (i2:Nat) (kB:ah),cX.drop i2=rest->ni aB aV cX i1 bD k2 rest i2 kB=some r->Ar Γ N f154 (.q [[some (124,2)]] (D.fr 124 2 (r.map aI.c))) [1,1,0,1,0,0,1,0,0,1,1,0] (rest.length+1) (Dh aB aV cX i1 (kB.map aI.c) (i2:Int)):=by
 intro rest
 induction rest with
 |nil=>
  intro i2 kB hd2 h;rw[ni]at h;refine aN fun N2 xa ur=>?_
  exact((aU.ge aE.c hd2).a [.hl 3 [0,2,4,7,8] [0,1]]).ex hΓ xa (Cf kB h)
 |cons lU wg ih2=>
  intro i2 kB hd2 h;rw[ni]at h;refine aN fun N2 xa ur=>?_
  obtain⟨a0Z,h652,h⟩:=aD h;have I8:=(((((aU.lt aE.c hd2).a [.n 16]).l (ax aE.c 2 (dc hd2) rfl)).l (ax aI.c 2 hx1 rfl)).g (ql h652))
  obtain⟨h653,h⟩|⟨h653,h⟩:=aL h
  ·obtain⟨a0a,h660,h⟩:=aD h;obtain⟨UI,h662,h⟩:=aD h;obtain⟨h663,h⟩:=bV h;obtain⟨h664,h⟩:=bV h;exact(((((((((I8.b h653).a [.n2 [0,1,2,3,4,5,6,7,8,9,10,11,14,12,13,15,16,17,18] [0,1,2,3,4,5,6,7,8,9,10,11,13,14,12,15,16,17,18] 13 17 [0,12] [2,3,4,5,6]]).l (ax aI.c 2 hx1 rfl)).g (fJ h660)).l (ax aE.c 2 (dc hd2) rfl)).g (gm h662)).w (cB h663)).w (cB h664)).a [.cn [0,2,4,7,8,9] [0,8]]).cs hΓ ur (Dh aB aV cX i1 ((kB.map aI.c)++([[D.sl ((a0a.map aE.c)++([[D.str UI.rel,D.sl (UI.args.map tx)]])),D.sl (a0Z.1.map aS.c)]])) (IntKind.i64.wrap ((i2:Int)+1))) (by first| (simp only[iS hd2 hm2,mA]<;>rfl)| (simp only[iS hd2 hm2,mA,aE.c,aS.c,aQ.c,Action.c,aO.c,aI.c,cr.c,aP.c,Node.c,aF.c,cv.c]<;>rfl)) (ih2 (i2+1) (kB++([(⟨a0a++([UI]),a0Z.1⟩:aI)])) (dn hd2) h)
  ·exact((I8.b h653).a [.cn [0,2,4,7,8,9] [0,1]]).ct hΓ ur (iS hd2 hm2) (ih2 (i2+1) kB (dn hd2) h)
theorem NK(hΓ:Γ.nt=79){aB:ah}{aV:aQ}{cX:aK}{r:ah}{k1:ah->Option ah}(cW:∀(bP:ah),k1 bP=some r->Ax Γ N f154 (.q [[some (124,2)]] (D.fr 124 2 (r.map aI.c))) [1,1,1] ⟨[(7,D.acc 0)],[Ob.row .uq 124 2 (bP.map aI.c)]⟩)(hm1:aB.length<=maxLen):∀(rest:ah) (i1:Nat) (bu:ah),aB.drop i1=rest->hG aB aV cX k1 rest i1 bu=some r->Ar Γ N f154 (.q [[some (124,2)]] (D.fr 124 2 (r.map aI.c))) [1,1,0,1,0] (rest.length+1) (Dg aB aV cX (bu.map aI.c) (i1:Int)):=by
 intro rest
 induction rest with
 |nil=>
  intro i1 bu aj h;rw[hG]at h;refine aN fun N1 bw bg=>?_
  exact((aU.ge aI.c aj).a [.hl 0 [7] [1]]).ex hΓ bw (cW bu h)
 |cons bD bZ ih1=>
  intro i1 bu aj h;rw[hG]at h;refine aN fun N1 bw bg=>?_
  obtain⟨h563,h⟩|⟨h563,h⟩:=aL h
  ·obtain⟨aBK,h565,h⟩:=aD h;have I9:=(((((aU.lt aI.c aj).b h563).a [.n 7]).l (ax aI.c 2 (dc aj) rfl)).g (Fx h565))
   obtain⟨h566,h⟩|⟨h566,h⟩:=aL h
   ·obtain⟨Y2,h568,h⟩:=aD h;obtain⟨h569,h⟩:=bV h;exact(((((I9.b h566).l (ax aI.c 2 (dc aj) rfl)).g (C2 h568)).w (cB h569)).a [.cn [0,2,4,7,8] [0,5]]).cs hΓ bg (Dg aB aV cX ((bu.map aI.c)++([[D.sl (Y2.facts.map aE.c),D.sl (Y2.bind.map aS.c)]])) (IntKind.i64.wrap ((i1:Int)+1))) (by first| (simp only[iS aj hm1,mA]<;>rfl)| (simp only[iS aj hm1,mA,aE.c,aS.c,aQ.c,Action.c,aO.c,aI.c,cr.c,aP.c,Node.c,aF.c,cv.c]<;>rfl)) (ih1 (i1+1) (bu++([Y2])) (dn aj) h)
   ·exact((I9.b h566).a [.cn [0,2,4,7,8] [0,1]]).ct hΓ bg (iS aj hm1) (ih1 (i1+1) bu (dn aj) h)
  ·obtain⟨h665,h⟩:=bV h;refine(((aU.lt aI.c aj).b h563).a [.cn [0,2,4,7,8,9] [0,1]]).lp hΓ (NL hΓ (fun yw h=>?_) ((drop_cons aj).1) (bt h665) cX 0 bu rfl h);exact(aU.a [.cn [0,2,4,7,8] [0,1]]).ct hΓ bg (iS aj hm1) (ih1 (i1+1) yw (dn aj) h)
theorem uD{aB:ah}{aV:aQ}{cX:aK}{r:ah}(h:sG aB aV cX=some r):Good prog 154 [D.sl (aB.map aI.c),D.agg (aQ.c aV),D.sl (cX.map aE.c)] (D.fr 124 2 (r.map aI.c)):=by
 refine gd func154 [[some (124,2)]] 79 fun hr Γ hΓ=>?_
 rw[sG]at h;refine(aU.a [.cn [0,2,4,7,8] [0,1]]).lp hΓ (NK hΓ (fun bP h=>?_) (by have:=(dW.sl (hr _ (aC (i:=0) rfl))).1;simpa using this) aB 0 ([]:ah) rfl h);have h:=aG h;subst h;exact aU.ret hΓ
def kZ(aB:aq)(aV:aK)(k1:ah->Option ah):aq->Nat->ah->Option ah
 | [],i1,bC=>(k1 bC)
 |bD::bZ,i1,bC=>((sG bC bD aV).bind fun lS=>(kZ aB aV k1 bZ (i1+1) lS))
def ul(aB:aq)(aV:aK):Option ah:=(kZ aB aV (fun(bP:ah)=>(some bP)) aB 0 ([(⟨[],[]⟩:aI)]))
def C3(aB:aq)(aV:aK)(W0:List aR)(cS:Int):St:=⟨[(0,D.sl (aB.map aQ.c)),(1,D.sl (aV.map aE.c)),(5,D.acc 0),(6,D.int .i64 cS)],[Ob.row .uq 124 2 W0]⟩
theorem K3(hΓ:Γ.nt=23){aB:aq}{aV:aK}{r:ah}{k1:ah->Option ah}(cW:∀(bP:ah),k1 bP=some r->Ax Γ N f89 (.q [[some (124,2)]] (D.fr 124 2 (r.map aI.c))) [1,1,1] ⟨[(5,D.acc 0)],[Ob.row .uq 124 2 (bP.map aI.c)]⟩)(hm1:aB.length<=maxLen):∀(rest:aq) (i1:Nat) (bC:ah),aB.drop i1=rest->kZ aB aV k1 rest i1 bC=some r->Ar Γ N f89 (.q [[some (124,2)]] (D.fr 124 2 (r.map aI.c))) [1,1,0,1,0] (rest.length+1) (C3 aB aV (bC.map aI.c) (i1:Int)):=by
 intro rest
 induction rest with
 |nil=>
  intro i1 bC aj h;rw[kZ]at h;refine aN fun N1 bw bg=>?_
  exact((aU.ge aQ.c aj).a [.hl 0 [5] [0]]).ex hΓ bw (cW bC h)
 |cons bD bZ ih1=>
  intro i1 bC aj h;rw[kZ]at h;refine aN fun N1 bw bg=>?_
  obtain⟨lS,h23,h⟩:=aD h;exact((((aU.lt aQ.c aj).l (ax aQ.c 5 (dc aj) rfl)).g (uD h23)).a [.cn [0,1,5,6] [1]]).ct hΓ bg (iS aj hm1) (ih1 (i1+1) lS (dn aj) h)
theorem Hl{aB:aq}{aV:aK}{r:ah}(h:ul aB aV=some r):Good prog 89 [D.sl (aB.map aQ.c),D.sl (aV.map aE.c)] (D.fr 124 2 (r.map aI.c)):=by
 refine gd func89 [[some (124,2)]] 23 fun hr Γ hΓ=>?_
 rw[ul]at h;refine(aU.a [.cn [0,1,5,6] [0]]).XB hΓ (C3 aB aV ([[D.sl ([]),D.sl ([])]]) 0) (by first| (simp only[mA]<;>rfl)| (simp only[mA,aE.c,aS.c,aQ.c,Action.c,aO.c,aI.c,cr.c,aP.c,Node.c,aF.c,cv.c]<;>rfl)) (K3 hΓ (fun bP h=>?_) (by have:=(dW.sl (hr _ (aC (i:=0) rfl))).1;simpa using this) aB 0 ([(⟨[],[]⟩:aI)]) rfl h);have h:=aG h;subst h;exact aU.ret hΓ
def gI(aB:aT)(aV:aT)(k1:Option Bool):aT->Nat->Option Bool
 | [],i1=>(k1)
 |bD::bZ,i1=>((mJ aV (i1:Int)).bind fun x22=>(bif !((bD.var:Bytes)==x22.var&&(bD.value:Bytes)==x22.value)then(some false)else(gI aB aV k1 bZ (i1+1))))
def lK(aB:aT)(aV:aT):Option Bool:=(bif (((aB.map aS.c).length:Int):Int) != ((aV.map aS.c).length:Int)then(some false)else(gI aB aV (some true) aB 0))
def Di(aB:aT)(aV:aT)(cS:Int):St:=⟨[(0,D.sl (aB.map aS.c)),(1,D.sl (aV.map aS.c)),(5,D.int .i64 cS)],[]⟩
theorem Cz(hΓ:Γ.nt=26){aB:aT}{aV:aT}{r:Bool}{k1:Option Bool}(cW:k1=some r->Ax Γ N f153 (.q [[none]] (D.bool r)) [1,1,1] ⟨[],[]⟩)(hm1:aB.length<=maxLen):∀(rest:aT) (i1:Nat),aB.drop i1=rest->gI aB aV k1 rest i1=some r->Ar Γ N f153 (.q [[none]] (D.bool r)) [1,1,0,1,0] (rest.length+1) (Di aB aV (i1:Int)):=by
 intro rest
 induction rest with
 |nil=>
  intro i1 aj h;rw[gI]at h;refine aN fun N1 bw bg=>?_
  exact((aU.ge aS.c aj).a [.hl 0 [] []]).ex hΓ bw (cW h)
 |cons bD bZ ih1=>
  intro i1 aj h;rw[gI]at h;refine aN fun N1 bw bg=>?_
  obtain⟨x22,h23,h⟩:=aD h;have dJ:=((((aU.lt aS.c aj).a [.n 8]).l (ax aS.c 2 (dc aj) rfl)).l (dh aS.c 2 h23 rfl))
  obtain⟨h24,h⟩|⟨h24,h⟩:=aL h
  ·have h:=aG h;subst h;exact(dJ.b h24).ret hΓ
  ·exact((dJ.b h24).a [.cn [0,1,5] []]).ct hΓ bg (iS aj hm1) (ih1 (i1+1) (dn aj) h)
theorem CV{aB:aT}{aV:aT}{r:Bool}(h:lK aB aV=some r):Good prog 153 [D.sl (aB.map aS.c),D.sl (aV.map aS.c)] (D.bool r):=by
 refine gd func153 [[none]] 26 fun hr Γ hΓ=>?_
 rw[lK]at h;obtain⟨h1,h⟩|⟨h1,h⟩:=aL h
 ·have h:=aG h;subst h;exact(aU.b h1).ret hΓ
 ·refine((aU.b h1).a [.cn [0,1,5] []]).lp hΓ (Cz hΓ (fun h=>?_) (by have:=(dW.sl (hr _ (aC (i:=0) rfl))).1;simpa using this) aB 0 rfl h);have h:=aG h;subst h;exact aU.ret hΓ
def gq(aB:ah)(aV:ah)(k1:Option Bool):ah->Nat->Option Bool
 | [],i1=>(k1)
 |bD::bZ,i1=>((mJ aV (i1:Int)).bind fun x42=>((nX bD.facts x42.facts).bind fun y44=>(bif !(y44)then(some false)else((lK bD.bind x42.bind).bind fun W8=>(bif !(W8)then(some false)else(gq aB aV k1 bZ (i1+1)))))))
def pN(aB:ah)(aV:ah):Option Bool:=(bif (((aB.map aI.c).length:Int):Int) != ((aV.map aI.c).length:Int)then(some false)else(gq aB aV (some true) aB 0))
def Em(aB:ah)(aV:ah)(cS:Int):St:=⟨[(0,D.sl (aB.map aI.c)),(1,D.sl (aV.map aI.c)),(5,D.int .i64 cS)],[]⟩
theorem Dm(hΓ:Γ.nt=43){aB:ah}{aV:ah}{r:Bool}{k1:Option Bool}(cW:k1=some r->Ax Γ N f88 (.q [[none]] (D.bool r)) [1,1,1] ⟨[],[]⟩)(hm1:aB.length<=maxLen):∀(rest:ah) (i1:Nat),aB.drop i1=rest->gq aB aV k1 rest i1=some r->Ar Γ N f88 (.q [[none]] (D.bool r)) [1,1,0,1,0] (rest.length+1) (Em aB aV (i1:Int)):=by
 intro rest
 induction rest with
 |nil=>
  intro i1 aj h;rw[gq]at h;refine aN fun N1 bw bg=>?_
  exact((aU.ge aI.c aj).a [.hl 0 [] []]).ex hΓ bw (cW h)
 |cons bD bZ ih1=>
  intro i1 aj h;rw[gq]at h;refine aN fun N1 bw bg=>?_
  obtain⟨x42,h43,h⟩:=aD h;obtain⟨y44,h45,h⟩:=aD h;have ja:=(((((aU.lt aI.c aj).a [.n 23]).l (ax aI.c 2 (dc aj) rfl)).l (dh aI.c 2 h43 rfl)).g (zN h45))
  obtain⟨h46,h⟩|⟨h46,h⟩:=aL h
  ·have h:=aG h;subst h;exact((ja.r 13 h46).T 1).ret hΓ
  ·obtain⟨W8,h48,h⟩:=aD h;have iY:=(((((((ja.r 3 h46).l (ax aI.c 2 (dc aj) rfl)).r 5 h46).l (dh aI.c 2 h43 rfl)).r 3 h46).g (CV h48)).r 2 h46)
   obtain⟨h49,h⟩|⟨h49,h⟩:=aL h
   ·have h:=aG h;subst h;exact(iY.b h49).ret hΓ
   ·exact((iY.b h49).a [.cn [0,1,5] []]).ct hΓ bg (iS aj hm1) (ih1 (i1+1) (dn aj) h)
theorem D1{aB:ah}{aV:ah}{r:Bool}(h:pN aB aV=some r):Good prog 88 [D.sl (aB.map aI.c),D.sl (aV.map aI.c)] (D.bool r):=by
 refine gd func88 [[none]] 43 fun hr Γ hΓ=>?_
 rw[pN]at h;obtain⟨h1,h⟩|⟨h1,h⟩:=aL h
 ·have h:=aG h;subst h;exact(aU.b h1).ret hΓ
 ·refine((aU.b h1).a [.cn [0,1,5] []]).lp hΓ (Dm hΓ (fun h=>?_) (by have:=(dW.sl (hr _ (aC (i:=0) rfl))).1;simpa using this) aB 0 rfl h);have h:=aG h;subst h;exact aU.ret hΓ
def jl(aB:aF)(k1:Option Bool):b7->Nat->Option Bool
 | [],i1=>(k1)
 |bD::bZ,i1=>((gW bD.shape ([]) aB.facts).bind fun Ra=>((nX bD.facts Ra).bind fun oF=>(bif !(oF)then(some false)else(jl aB k1 bZ (i1+1)))))
def jm(aB:aF)(k2:Option Bool):ay->Nat->Option Bool
 | [],i2=>(k2)
 |lU::wg,i2=>((xX aB (i2:Int)).bind fun Xu=>((ul Xu aB.facts).bind fun aB9=>((pN lU.tokens aB9).bind fun aBA=>(bif !(aBA)then(some false)else(jm aB k2 wg (i2+1))))))
def tU(aB:aF):Option Bool:=((pL aB.rules).bind fun y1=>(bif !(y1.2)then(some false)else((rA aB.facts).bind fun y4=>(bif !(y4)then(some false)else((rS aB y1.1).bind fun y7=>(bif !(y7)then(some false)else(bif decide ((aB.bz:Int)<0)then(some false)else(jl aB (jm aB (some true) aB.nodes 0) aB.av 0))))))))
def Jn(aB:aF)(cS:Int):St:=⟨[(1,D.ptr 0 0),(5,D.int .i64 cS)],[Ob.box (aF.c aB)]⟩
theorem HW(hΓ:Γ.nt=77){aB:aF}{r:Bool}{k1:Option Bool}(cW:k1=some r->Ax Γ N f38 (.q [[none]] (D.bool r)) [1,1,1,1] ⟨[(1,D.ptr 0 0)],[Ob.box (aF.c aB)]⟩)(hm1:aB.av.length<=maxLen):∀(rest:b7) (i1:Nat),aB.av.drop i1=rest->jl aB k1 rest i1=some r->Ar Γ N f38 (.q [[none]] (D.bool r)) [1,1,1,0,1,0] (rest.length+1) (Jn aB (i1:Int)):=by
 intro rest
 induction rest with
 |nil=>
  intro i1 aj h;rw[jl]at h;refine aN fun N1 bw bg=>?_
  exact((aU.ge aP.c aj).a [.hl 0 [1] [0]]).ex hΓ bw (cW h)
 |cons bD bZ ih1=>
  intro i1 aj h;rw[jl]at h;refine aN fun N1 bw bg=>?_
  obtain⟨Ra,h40,h⟩:=aD h;obtain⟨oF,h42,h⟩:=aD h;have ja:=(((((((aU.lt aP.c aj).a [.n 15]).l (ax aP.c 3 (dc aj) rfl)).l (ax aP.c 3 (dc aj) rfl)).a [.d (D.fr 53 2 (Ra.map aE.c))]).w (show Good prog 87 [D.agg (aE.c bD.shape),D.sl ([]),D.sl (aB.facts.map aE.c)] (D.fr 53 2 (Ra.map aE.c))from by first| (simpa only[bN,bH,bX,dB,dA]using gX h40)|exact gX h40)).g (zN h42))
  obtain⟨h43,h⟩|⟨h43,h⟩:=aL h
  ·have h:=aG h;subst h;exact(ja.b h43).ret hΓ
  ·exact((ja.b h43).a [.cn [1,5] [0]]).ct hΓ bg (iS aj hm1) (ih1 (i1+1) (dn aj) h)
def Jo(aB:aF)(cS:Int):St:=⟨[(1,D.ptr 0 0),(6,D.int .i64 cS)],[Ob.box (aF.c aB)]⟩
theorem HX(hΓ:Γ.nt=77){aB:aF}{r:Bool}{k2:Option Bool}(Cf:k2=some r->Ax Γ N f38 (.q [[none]] (D.bool r)) [1,1,1,1,1] ⟨[],[]⟩)(hm2:aB.nodes.length<=maxLen):∀(rest:ay) (i2:Nat),aB.nodes.drop i2=rest->jm aB k2 rest i2=some r->Ar Γ N f38 (.q [[none]] (D.bool r)) [1,1,1,1,0,1,0] (rest.length+1) (Jo aB (i2:Int)):=by
 intro rest
 induction rest with
 |nil=>
  intro i2 hd2 h;rw[jm]at h;refine aN fun N2 xa ur=>?_
  exact((aU.ge Node.c hd2).a [.hl 0 [] []]).ex hΓ xa (Cf h)
 |cons lU wg ih2=>
  intro i2 hd2 h;rw[jm]at h;refine aN fun N2 xa ur=>?_
  obtain⟨Xu,h105,h⟩:=aD h;obtain⟨aB9,h107,h⟩:=aD h;obtain⟨aBA,h109,h⟩:=aD h;have iY:=((((((aU.lt Node.c hd2).a [.n2 [0,1,2,3,4,5,6,7,8,9,10,11,12,13] [0,1,2,3,4,5,6,7,8,9,10,11,12,13] 11 12 [0,1,2,3,4,5] []]).l (ax Node.c 8 (dc hd2) rfl)).g (Lp h105)).g (Hl h107)).g (D1 h109))
  obtain⟨h110,h⟩|⟨h110,h⟩:=aL h
  ·have h:=aG h;subst h;exact(iY.b h110).ret hΓ
  ·exact((iY.b h110).a [.cn [1,6] [0]]).ct hΓ ur (iS hd2 hm2) (ih2 (i2+1) (dn hd2) h)
theorem Fz{aB:aF}{r:Bool}(h:tU aB=some r):Good prog 38 [D.agg (aF.c aB)] (D.bool r):=by
 refine gd func38 [[none]] 77 fun hr Γ hΓ=>?_
 rw[tU]at h;obtain⟨y1,h2,h⟩:=aD h;obtain⟨h3,h⟩|⟨h3,h⟩:=aL h
 ·have h:=aG h;subst h;exact(((aU.g (xV h2)).r 5 h3).T 10).ret hΓ
 ·obtain⟨y4,h5,h⟩:=aD h;have tr:=((((aU.g (xV h2)).r 3 h3).g (wT h5)).r 2 h3)
  obtain⟨h6,h⟩|⟨h6,h⟩:=aL h
  ·have h:=aG h;subst h;exact((tr.r 5 h6).T 5).ret hΓ
  ·obtain⟨y7,h8,h⟩:=aD h;have wX:=(((tr.r 3 h6).g (El h8)).r 2 h6)
   obtain⟨h9,h⟩|⟨h9,h⟩:=aL h
   ·have h:=aG h;subst h;exact((wX.r 4 h9).T 1).ret hΓ
   ·have AV:=(wX.r 4 h9)
    obtain⟨h10,h⟩|⟨h10,h⟩:=aL h
    ·have h:=aG h;subst h;exact(AV.b h10).ret hΓ
    ·refine((AV.b h10).a [.cn [1,5] [0]]).lp hΓ (HW hΓ (fun h=>?_) (by have:=(dW.sl (dW.agg (hr _ (aC (i:=0) rfl)) (.sl (aB.av.map aP.c)) (by simp))).1;simpa using this) aB.av 0 rfl h);refine(aU.a [.cn [1,6] [0]]).lp hΓ (HX hΓ (fun h=>?_) (by have:=(dW.sl (dW.agg (hr _ (aC (i:=0) rfl)) (.sl (aB.nodes.map Node.c)) (by simp))).1;simpa using this) aB.nodes 0 rfl h);have h:=aG h;subst h;exact aU.ret hΓ
def iX(aB:aI)(aV:aI)(k1:Option Int):aK->Nat->Option Int
 | [],i1=>(k1)
 |bD::bZ,i1=>(bif decide (((i1:Int):Int)<((aV.facts.map aE.c).length:Int))then((mJ aV.facts (i1:Int)).bind fun x34=>((ey bD x34).bind fun IK=>(bif (IK:Int) != 0 then(some IK)else(iX aB aV k1 bZ (i1+1)))))else(k1))
def oA(aB:aI)(aV:aI):Option Int:=(iX aB aV (bif decide ((((aB.facts.map aE.c).length:Int):Int)<((aV.facts.map aE.c).length:Int))then(some (-1))else(bif decide ((((aB.facts.map aE.c).length:Int):Int)>((aV.facts.map aE.c).length:Int))then(some 1)else(some 0))) aB.facts 0)
def DY(aB:aI)(aV:aI)(cS:Int):St:=⟨[(2,D.ptr 0 0),(3,D.ptr 1 0),(5,D.int .i64 cS)],[Ob.box (aI.c aB),Ob.box (aI.c aV)]⟩
theorem Cw(hΓ:Γ.nt=51){aB:aI}{aV:aI}{r:Int}{k1:Option Int}(cW:k1=some r->Ax Γ N f236 (.q [[none]] (D.int .i64 r)) [1,1] ⟨[(2,D.ptr 0 0),(3,D.ptr 1 0)],[Ob.box (aI.c aB),Ob.box (aI.c aV)]⟩)(hm1:aB.facts.length<=maxLen):∀(rest:aK) (i1:Nat),aB.facts.drop i1=rest->iX aB aV k1 rest i1=some r->Ar Γ N f236 (.q [[none]] (D.int .i64 r)) [1,0,1,0] (rest.length+1) (DY aB aV (i1:Int)):=by
 intro rest
 induction rest with
 |nil=>
  intro i1 aj h;rw[iX]at h;refine aN fun N1 bw bg=>?_
  exact((((((((aU.ge aE.c aj).ge aE.c aj).ge aE.c aj).ge aE.c aj).ge aE.c aj).ge aE.c aj).F 1).a [.hl 0 [2,3] [0,1]]).ex hΓ bw (cW h)
 |cons bD bZ ih1=>
  intro i1 aj h;rw[iX]at h;refine aN fun N1 bw bg=>?_
  have ja:=((((((aU.lt aE.c aj).lt aE.c aj).lt aE.c aj).lt aE.c aj).lt aE.c aj).lt aE.c aj)
  obtain⟨h33,h⟩|⟨h33,h⟩:=aL h
  ·obtain⟨x34,h35,h⟩:=aD h;obtain⟨IK,h37,h⟩:=aD h;have iY:=(((((ja.b h33).a [.n 10]).l (ax aE.c 2 (dc aj) rfl)).l (dh aE.c 2 h35 rfl)).g (nw h37))
   obtain⟨h38,h⟩|⟨h38,h⟩:=aL h
   ·have h:=aG h;subst h;exact(iY.b h38).ret hΓ
   ·exact((iY.b h38).a [.cn [2,3,5] [0,1]]).ct hΓ bg (iS aj hm1) (ih1 (i1+1) (dn aj) h)
  ·exact((ja.b h33).a [.hl 0 [2,3] [0,1]]).ex hΓ bw (cW h)
theorem CU{aB:aI}{aV:aI}{r:Int}(h:oA aB aV=some r):Good prog 236 [D.agg (aI.c aB),D.agg (aI.c aV)] (D.int .i64 r):=by
 refine gd func236 [[none]] 51 fun hr Γ hΓ=>?_
 rw[oA]at h;refine(aU.a [.cn [2,3,5] [0,1]]).lp hΓ (Cw hΓ (fun h=>?_) (by have:=(dW.sl (dW.agg (hr _ (aC (i:=0) rfl)) (.sl (aB.facts.map aE.c)) (by simp))).1;simpa using this) aB.facts 0 rfl h);obtain⟨h39,h⟩|⟨h39,h⟩:=aL h
 ·cases h;exact(aU.b h39).ret hΓ
 ·obtain⟨h40,h⟩|⟨h40,h⟩:=aL h
  ·have h:=aG h;subst h;exact((aU.b h39).b h40).ret hΓ
  ·have h:=aG h;subst h;exact((aU.b h39).b h40).ret hΓ
def lN(aB:ah)(aV:ah)(i1:Nat)(bD:aI)(k2:Int->Option (Int×Int)):ah->Nat->Int->Option (Int×Int)
 | [],i2,tf=>(k2 tf)
 |lU::wg,i2,tf=>((oA bD lU).bind fun aBD=>(bif (aBD:Int)==0 then(lN aB aV i1 bD k2 wg (i2+1) (IntKind.i64.wrap (tf+1)))else(lN aB aV i1 bD k2 wg (i2+1) tf)))
def nr(aB:ah)(aV:ah)(k1:Int->Option (Int×Int)):ah->Nat->Int->Option (Int×Int)
 | [],i1,jx=>(k1 jx)
 |bD::bZ,i1,jx=>(bif decide (aV.length<=maxLen)then(lN aB aV i1 bD (fun(BT:Int)=>(nr aB aV k1 bZ (i1+1) BT)) aV 0 jx)else none)
def xZ(aB:ah)(aV:ah):Option (Int×Int):=(nr aB aV (fun(ze:Int)=>(some (ze,IntKind.i64.wrap (((aB.map aI.c).length:Int)-ze)))) aB 0 0)
def OZ(aB:ah)(aV:ah)(jx:Int)(cS:Int):St:=⟨[(0,D.sl (aB.map aI.c)),(1,D.sl (aV.map aI.c)),(6,D.int .i64 jx),(7,D.int .i64 cS)],[]⟩
def Oa(aB:ah)(aV:ah)(i1:Nat)(tf:Int)(cS:Int):St:=⟨[(0,D.sl (aB.map aI.c)),(1,D.sl (aV.map aI.c)),(6,D.int .i64 tf),(7,D.int .i64 (i1:Int)),(8,D.int .i64 cS)],[]⟩
theorem NS(hΓ:Γ.nt=38){aB:ah}{aV:ah}{i1:Nat}{bD:aI}{r:Int×Int}{k2:Int->Option (Int×Int)}(Cf:∀(BT:Int),k2 BT=some r->Ax Γ N f167 (.q [[none],[none]] (D.gN [D.int .i64 r.1,D.int .i64 r.2])) [1,1,0,1,0,0,1,1] ⟨[(0,D.sl (aB.map aI.c)),(1,D.sl (aV.map aI.c)),(6,D.int .i64 BT),(7,D.int .i64 (i1:Int))],[]⟩)(hx1:(aB)[i1]?=some bD)(hm2:aV.length<=maxLen):∀(rest:ah) (i2:Nat) (tf:Int),aV.drop i2=rest->lN aB aV i1 bD k2 rest i2 tf=some r->Ar Γ N f167 (.q [[none],[none]] (D.gN [D.int .i64 r.1,D.int .i64 r.2])) [1,1,0,1,0,0,1,0,0,1,0] (rest.length+1) (Oa aB aV i1 tf (i2:Int)):=by
 intro rest
 induction rest with
 |nil=>
  intro i2 tf hd2 h;rw[lN]at h;refine aN fun N2 xa ur=>?_
  exact((aU.ge aI.c hd2).a [.hl 3 [0,1,6,7] []]).ex hΓ xa (Cf tf h)
 |cons lU wg ih2=>
  intro i2 tf hd2 h;rw[lN]at h;refine aN fun N2 xa ur=>?_
  obtain⟨aBD,h177,h⟩:=aD h;have BN:=(((((aU.lt aI.c hd2).a [.n 8]).l (ax aI.c 2 hx1 rfl)).l (ax aI.c 2 (dc hd2) rfl)).g (CU h177))
  obtain⟨h178,h⟩|⟨h178,h⟩:=aL h
  ·exact((BN.b h178).a [.cn [0,1,6,7,8] []]).ct hΓ ur (iS hd2 hm2) (ih2 (i2+1) (IntKind.i64.wrap (tf+1)) (dn hd2) h)
  ·exact((BN.b h178).a [.cn [0,1,6,7,8] []]).ct hΓ ur (iS hd2 hm2) (ih2 (i2+1) tf (dn hd2) h)
theorem NR(hΓ:Γ.nt=38){aB:ah}{aV:ah}{r:Int×Int}{k1:Int->Option (Int×Int)}(cW:∀(ze:Int),k1 ze=some r->Ax Γ N f167 (.q [[none],[none]] (D.gN [D.int .i64 r.1,D.int .i64 r.2])) [1,1,1] ⟨[(0,D.sl (aB.map aI.c)),(6,D.int .i64 ze)],[]⟩)(hm1:aB.length<=maxLen):∀(rest:ah) (i1:Nat) (jx:Int),aB.drop i1=rest->nr aB aV k1 rest i1 jx=some r->Ar Γ N f167 (.q [[none],[none]] (D.gN [D.int .i64 r.1,D.int .i64 r.2])) [1,1,0,1,0] (rest.length+1) (OZ aB aV jx (i1:Int)):=by
 intro rest
 induction rest with
 |nil=>
  intro i1 jx aj h;rw[nr]at h;refine aN fun N1 bw bg=>?_
  exact((aU.ge aI.c aj).a [.hl 0 [0,6] []]).ex hΓ bw (cW jx h)
 |cons bD bZ ih1=>
  intro i1 jx aj h;rw[nr]at h;refine aN fun N1 bw bg=>?_
  obtain⟨h179,h⟩:=bV h;refine((aU.lt aI.c aj).a [.cn [0,1,6,7,8] []]).lp hΓ (NS hΓ (fun BT h=>?_) ((drop_cons aj).1) (bt h179) aV 0 jx rfl h);exact(aU.a [.cn [0,1,6,7] []]).ct hΓ bg (iS aj hm1) (ih1 (i1+1) BT (dn aj) h)
theorem M2{aB:ah}{aV:ah}{r:Int×Int}(h:xZ aB aV=some r):Good prog 167 [D.sl (aB.map aI.c),D.sl (aV.map aI.c)] (D.gN [D.int .i64 r.1,D.int .i64 r.2]):=by
 refine gd func167 [[none],[none]] 38 fun hr Γ hΓ=>?_
 rw[xZ]at h;refine(aU.a [.cn [0,1,6,7] []]).lp hΓ (NR hΓ (fun ze h=>?_) (by have:=(dW.sl (hr _ (aC (i:=0) rfl))).1;simpa using this) aB 0 0 rfl h);cases h;exact aU.ret hΓ
def jC(aB:aF)(aV:aK)(cX:aE)(y1:aF)(y3:aK)(k1:List Bool->b7->Option aF):Nat->Int->List Bool->b7->Option aF
 |0,_,_,_=>none
 |n1+1,KB,mF,Ox=>(bif decide ((KB:Int)<((Ox.map aP.c).length:Int))then((mJ Ox KB).bind fun x41=>((jR x41.shape cX ([])).bind fun FF=>(bif room ((mF.map bx).length+([[D.bool FF.2]]).length) 1 then((gW x41.shape ([]) aV).bind fun y46=>(jC aB aV cX y1 y3 k1 n1 (IntKind.i64.wrap (KB+1)) (mF++([FF.2])) (Ox.set KB.toNat (⟨x41.shape,y46⟩:aP))))else none)))else(k1 mF Ox))
def ec(aB:aF)(y1:aF)(y3:aK)(fU:List Bool)(qX:b7)(k2:Int->ay->Option aF):Nat->Int->Int->ay->Option aF
 |0,_,_,_=>none
 |n2+1,rX,vm,sI=>(bif decide ((rX:Int)<((sI.map Node.c).length:Int))then((mJ sI rX).bind fun x106=>((mJ sI x106.parent).bind fun x108=>((mJ aB.nodes x106.parent).bind fun x110=>((xZ x108.tokens x110.tokens).bind fun KE=>(bif decide ((x106.cP:Int)<0)then((sG x108.tokens x106.cond ([])).bind fun UG=>(ec aB y1 y3 fU qX k2 n2 (IntKind.i64.wrap (rX+1)) (IntKind.i64.wrap (vm+KE.2)) (sI.set rX.toNat (⟨x106.parent,x106.cond,x106.cP,UG⟩:Node))))else((mJ qX x106.cP).bind fun x117=>((sG x108.tokens x106.cond x117.facts).bind fun Xw=>((mJ fU x106.cP).bind fun x121=>(bif x121 then(ec aB y1 y3 fU qX k2 n2 (IntKind.i64.wrap (rX+1)) (IntKind.i64.wrap ((IntKind.i64.wrap (vm+(IntKind.i64.wrap (KE.2*((x117.facts.map aE.c).length:Int)))))+KE.1)) (sI.set rX.toNat (⟨x106.parent,x106.cond,x106.cP,Xw⟩:Node)))else(ec aB y1 y3 fU qX k2 n2 (IntKind.i64.wrap (rX+1)) (IntKind.i64.wrap (vm+(IntKind.i64.wrap (KE.2*((x117.facts.map aE.c).length:Int))))) (sI.set rX.toNat (⟨x106.parent,x106.cond,x106.cP,Xw⟩:Node))))))))))))else(k2 vm sI))
def um(aB:aF)(aV:aK)(cX:aE):Option aF:=((pq aB).bind fun y1=>((dU aV).bind fun y3=>(jC aB aV cX y1 y3 (fun(fU:List Bool) (qX:b7)=>(ec aB y1 y3 fU qX (fun(p7:Int) (vi:ay)=>(some (⟨y1.rules,y1.ends,qX,vi,y3,p7⟩:aF))) fuel 1 y1.bz y1.nodes)) fuel 0 ([]:List Bool) y1.av)))
def C4(aB:aF)(aV:aK)(cX:aE)(y1:aF)(y3:aK)(KB:Int)(W1:List aR)(W2:List aR):St:=⟨[(1,D.sl (aV.map aE.c)),(3,D.ptr 0 0),(5,D.ptr 1 0),(6,D.ptr 2 0),(7,D.ptr 3 0),(8,D.acc 4),(9,D.int .i64 KB)],[Ob.box (aF.c aB),Ob.box (aE.c cX),Ob.box [D.nil,D.nil,D.nil,D.nil,D.nil,D.int .i64 0],Ob.box [D.acc 5,D.acc 6,D.acc 7,D.acc 8,D.acc 9,D.int .i64 y1.bz],Ob.row .uq 4 1 W1,Ob.row .uq 105 4 (y1.rules.map aO.c),Ob.row .uq 3 1 (y1.ends.map dL),Ob.row .uq 111 3 W2,Ob.row .uq 118 8 (y1.nodes.map Node.c),Ob.row .uq 53 2 (y3.map aE.c)]⟩
theorem K5(hΓ:Γ.nt=143){aB:aF}{aV:aK}{cX:aE}{y1:aF}{y3:aK}{r:aF}{k1:List Bool->b7->Option aF}(cW:∀(fU:List Bool) (qX:b7),k1 fU qX=some r->Ax Γ N f96 (.q [[some (105,4),some (3,1),some (111,3),some (118,8),some (53,2),none]] (D.agg [D.fr 105 4 (r.rules.map aO.c),D.fr 3 1 (r.ends.map dL),D.fr 111 3 (r.av.map aP.c),D.fr 118 8 (r.nodes.map Node.c),D.fr 53 2 (r.facts.map aE.c),D.int .i64 r.bz])) [1,1,1,1,1] ⟨[(3,D.ptr 0 0),(6,D.ptr 1 0),(7,D.ptr 2 0),(8,D.acc 3)],[Ob.box (aF.c aB),Ob.box [D.nil,D.nil,D.nil,D.nil,D.nil,D.int .i64 0],Ob.box [D.acc 4,D.acc 5,D.acc 6,D.acc 7,D.acc 8,D.int .i64 y1.bz],Ob.row .uq 4 1 (fU.map bx),Ob.row .uq 105 4 (y1.rules.map aO.c),Ob.row .uq 3 1 (y1.ends.map dL),Ob.row .uq 111 3 (qX.map aP.c),Ob.row .uq 118 8 (y1.nodes.map Node.c),Ob.row .uq 53 2 (y3.map aE.c)]⟩):∀(n1:Nat) (KB:Int) (mF:List Bool) (Ox:b7),jC aB aV cX y1 y3 k1 n1 KB mF Ox=some r->Ar Γ N f96 (.q [[some (105,4),some (3,1),some (111,3),some (118,8),some (53,2),none]] (D.agg [D.fr 105 4 (r.rules.map aO.c),D.fr 3 1 (r.ends.map dL),D.fr 111 3 (r.av.map aP.c),D.fr 118 8 (r.nodes.map Node.c),D.fr 53 2 (r.facts.map aE.c),D.int .i64 r.bz])) [1,1,1,1,0,1,0] n1 (C4 aB aV cX y1 y3 KB (mF.map bx) (Ox.map aP.c)):=by
 intro n
 induction n with
 |zero=>intro KB mF Ox h;simp[jC]at h
 |succ n1 ih1=>
  intro KB mF Ox h;rw[jC]at h;refine aN fun N1 bw bg=>?_
  obtain⟨h40,h⟩|⟨h40,h⟩:=aL h
  ·obtain⟨x41,h42,h⟩:=aD h;obtain⟨FF,h44,h⟩:=aD h;obtain⟨h45,h⟩:=bV h;obtain⟨y46,h47,h⟩:=aD h;exact(((((((((((((((aU.b h40).a [.n 12]).i (yF aP.c 3 h42)).o 3 2 .uq (dF aP.c (u9 h42))).a [.d (D.gN [D.fr 152 2 (FF.1.map aS.c),D.bool FF.2])]).w (show Good prog 151 [D.agg (aE.c x41.shape),D.agg (aE.c cX),D.sl ([])] (D.gN [D.fr 152 2 (FF.1.map aS.c),D.bool FF.2])from by first| (simpa only[bN,bH,bX,dB,dA]using ql h44)|exact ql h44)).w (cB h45)).a [.n 11]).i (yF aP.c 3 h42)).o 3 2 .uq (dF aP.c (u9 h42))).a [.d (D.fr 53 2 (y46.map aE.c))]).w (show Good prog 87 [D.agg (aE.c x41.shape),D.sl ([]),D.sl (aV.map aE.c)] (D.fr 53 2 (y46.map aE.c))from by first| (simpa only[bN,bH,bX,dB,dA]using gX h47)|exact gX h47)).i (yF aP.c 3 h42)).w (show(Ox.map aP.c)[KB.toNat]?=some [D.str x41.shape.rel,D.sl (x41.shape.args.map tx),D.sl (x41.facts.map aE.c)]from dF aP.c (u9 h42))).a [.row [D.str x41.shape.rel,D.sl (x41.shape.args.map tx),D.sl (x41.facts.map aE.c)],.cn [1,3,5,6,7,8,9] [0,1,2,3,12,5,6,7,8,9]]).cs hΓ bg (C4 aB aV cX y1 y3 (IntKind.i64.wrap (KB+1)) ((mF.map bx)++([[D.bool FF.2]])) ((Ox.map aP.c).set KB.toNat [D.str x41.shape.rel,D.sl (x41.shape.args.map tx),D.sl (y46.map aE.c)])) (by first| (simp only[mA]<;>rfl)| (simp only[mA,aE.c,aS.c,aQ.c,Action.c,aO.c,aI.c,cr.c,aP.c,Node.c,aF.c,cv.c]<;>rfl)) (ih1 (IntKind.i64.wrap (KB+1)) (mF++([FF.2])) (Ox.set KB.toNat (⟨x41.shape,y46⟩:aP)) h)
  ·exact((aU.b h40).a [.hl 0 [3,6,7,8] [0,2,3,4,5,6,7,8,9]]).ex hΓ bw (cW mF Ox h)
def uG(aB:aF)(y1:aF)(y3:aK)(fU:List Bool)(qX:b7)(rX:Int)(vm:Int)(W2:List aR):St:=⟨[(3,D.ptr 0 0),(6,D.ptr 1 0),(7,D.ptr 2 0),(8,D.acc 3),(12,D.int .i64 rX)],[Ob.box (aF.c aB),Ob.box [D.nil,D.nil,D.nil,D.nil,D.nil,D.int .i64 0],Ob.box [D.acc 4,D.acc 5,D.acc 6,D.acc 7,D.acc 8,D.int .i64 vm],Ob.row .uq 4 1 (fU.map bx),Ob.row .uq 105 4 (y1.rules.map aO.c),Ob.row .uq 3 1 (y1.ends.map dL),Ob.row .uq 111 3 (qX.map aP.c),Ob.row .uq 118 8 W2,Ob.row .uq 53 2 (y3.map aE.c)]⟩
theorem K6(hΓ:Γ.nt=143){aB:aF}{y1:aF}{y3:aK}{fU:List Bool}{qX:b7}{r:aF}{k2:Int->ay->Option aF}(Cf:∀(p7:Int) (vi:ay),k2 p7 vi=some r->Ax Γ N f96 (.q [[some (105,4),some (3,1),some (111,3),some (118,8),some (53,2),none]] (D.agg [D.fr 105 4 (r.rules.map aO.c),D.fr 3 1 (r.ends.map dL),D.fr 111 3 (r.av.map aP.c),D.fr 118 8 (r.nodes.map Node.c),D.fr 53 2 (r.facts.map aE.c),D.int .i64 r.bz])) [1,1,1,1,1,1] ⟨[(6,D.ptr 0 0),(7,D.ptr 1 0)],[Ob.box [D.nil,D.nil,D.nil,D.nil,D.nil,D.int .i64 0],Ob.box [D.acc 2,D.acc 3,D.acc 4,D.acc 5,D.acc 6,D.int .i64 p7],Ob.row .uq 105 4 (y1.rules.map aO.c),Ob.row .uq 3 1 (y1.ends.map dL),Ob.row .uq 111 3 (qX.map aP.c),Ob.row .uq 118 8 (vi.map Node.c),Ob.row .uq 53 2 (y3.map aE.c)]⟩):∀(n2:Nat) (rX:Int) (vm:Int) (sI:ay),ec aB y1 y3 fU qX k2 n2 rX vm sI=some r->Ar Γ N f96 (.q [[some (105,4),some (3,1),some (111,3),some (118,8),some (53,2),none]] (D.agg [D.fr 105 4 (r.rules.map aO.c),D.fr 3 1 (r.ends.map dL),D.fr 111 3 (r.av.map aP.c),D.fr 118 8 (r.nodes.map Node.c),D.fr 53 2 (r.facts.map aE.c),D.int .i64 r.bz])) [1,1,1,1,1,0,1,0] n2 (uG aB y1 y3 fU qX rX vm (sI.map Node.c)):=by
 intro n
 induction n with
 |zero=>intro rX vm sI h;simp[ec]at h
 |succ n2 ih2=>
  intro rX vm sI h;rw[ec]at h;refine aN fun N2 xa ur=>?_
  obtain⟨h105,h⟩|⟨h105,h⟩:=aL h
  ·obtain⟨x106,h107,h⟩:=aD h;obtain⟨x108,h109,h⟩:=aD h;obtain⟨x110,h111,h⟩:=aD h;obtain⟨KE,h113,h⟩:=aD h;have ja:=(((((((aU.b h105).i (yF Node.c 8 h107)).o 8 8 .uq (dF Node.c (u9 h107))).i (yF Node.c 8 h109)).o 8 8 .uq (dF Node.c (u9 h109))).l (dh Node.c 8 h111 rfl)).g (M2 h113))
   obtain⟨h114,h⟩|⟨h114,h⟩:=aL h
   ·obtain⟨UG,h116,h⟩:=aD h;exact((((((ja.b h114).a [.n 7,.d (D.fr 124 2 (UG.map aI.c))]).w (show Good prog 154 [D.sl (x108.tokens.map aI.c),D.agg (aQ.c x106.cond),D.sl ([])] (D.fr 124 2 (UG.map aI.c))from by first| (simpa only[bN,bH,bX,dB,dA]using uD h116)|exact uD h116)).i (yF Node.c 8 h107)).w (show(sI.map Node.c)[rX.toNat]?=some [D.int .i64 x106.parent,D.int .i64 x106.cond.kind,D.str x106.cond.pat.rel,D.sl (x106.cond.pat.args.map tx),D.str x106.cond.left,D.str x106.cond.right,D.int .i64 x106.cP,D.sl (x106.tokens.map aI.c)]from dF Node.c (u9 h107))).a [.row [D.int .i64 x106.parent,D.int .i64 x106.cond.kind,D.str x106.cond.pat.rel,D.sl (x106.cond.pat.args.map tx),D.str x106.cond.left,D.str x106.cond.right,D.int .i64 x106.cP,D.sl (x106.tokens.map aI.c)],.cn [3,6,7,8,12] [0,1,2,3,4,5,6,7,8]]).cs hΓ ur (uG aB y1 y3 fU qX (IntKind.i64.wrap (rX+1)) (IntKind.i64.wrap (vm+KE.2)) ((sI.map Node.c).set rX.toNat [D.int .i64 x106.parent,D.int .i64 x106.cond.kind,D.str x106.cond.pat.rel,D.sl (x106.cond.pat.args.map tx),D.str x106.cond.left,D.str x106.cond.right,D.int .i64 x106.cP,D.sl (UG.map aI.c)])) (by first| (simp only[mA]<;>rfl)| (simp only[mA,aE.c,aS.c,aQ.c,Action.c,aO.c,aI.c,cr.c,aP.c,Node.c,aF.c,cv.c]<;>rfl)) (ih2 (IntKind.i64.wrap (rX+1)) (IntKind.i64.wrap (vm+KE.2)) (sI.set rX.toNat (⟨x106.parent,x106.cond,x106.cP,UG⟩:Node)) h)
   ·obtain⟨x117,h118,h⟩:=aD h;obtain⟨Xw,h120,h⟩:=aD h;obtain⟨x121,h122,h⟩:=aD h;have iY:=((((((((((ja.b h114).i (yF aP.c 3 h118)).o 3 3 .uq (dF aP.c (u9 h118))).a [.n 8]).g (uD h120)).i (yF Node.c 8 h107)).w (show(sI.map Node.c)[rX.toNat]?=some [D.int .i64 x106.parent,D.int .i64 x106.cond.kind,D.str x106.cond.pat.rel,D.sl (x106.cond.pat.args.map tx),D.str x106.cond.left,D.str x106.cond.right,D.int .i64 x106.cP,D.sl (x106.tokens.map aI.c)]from dF Node.c (u9 h107))).a [.row [D.int .i64 x106.parent,D.int .i64 x106.cond.kind,D.str x106.cond.pat.rel,D.sl (x106.cond.pat.args.map tx),D.str x106.cond.left,D.str x106.cond.right,D.int .i64 x106.cP,D.sl (x106.tokens.map aI.c)]]).i (yF bx 1 h122)).o 1 1 .uq (dF bx (u9 h122)))
    obtain⟨h123,h⟩|⟨h123,h⟩:=aL h
    ·exact((iY.b h123).a [.cn [3,6,7,8,12] [0,1,2,3,4,5,6,7,8]]).cs hΓ ur (uG aB y1 y3 fU qX (IntKind.i64.wrap (rX+1)) (IntKind.i64.wrap ((IntKind.i64.wrap (vm+(IntKind.i64.wrap (KE.2*((x117.facts.map aE.c).length:Int)))))+KE.1)) ((sI.map Node.c).set rX.toNat [D.int .i64 x106.parent,D.int .i64 x106.cond.kind,D.str x106.cond.pat.rel,D.sl (x106.cond.pat.args.map tx),D.str x106.cond.left,D.str x106.cond.right,D.int .i64 x106.cP,D.sl (Xw.map aI.c)])) (by first| (simp only[mA]<;>rfl)| (simp only[mA,aE.c,aS.c,aQ.c,Action.c,aO.c,aI.c,cr.c,aP.c,Node.c,aF.c,cv.c]<;>rfl)) (ih2 (IntKind.i64.wrap (rX+1)) (IntKind.i64.wrap ((IntKind.i64.wrap (vm+(IntKind.i64.wrap (KE.2*((x117.facts.map aE.c).length:Int)))))+KE.1)) (sI.set rX.toNat (⟨x106.parent,x106.cond,x106.cP,Xw⟩:Node)) h)
    ·exact((iY.b h123).a [.cn [3,6,7,8,12] [0,1,2,3,4,5,6,7,8]]).cs hΓ ur (uG aB y1 y3 fU qX (IntKind.i64.wrap (rX+1)) (IntKind.i64.wrap (vm+(IntKind.i64.wrap (KE.2*((x117.facts.map aE.c).length:Int))))) ((sI.map Node.c).set rX.toNat [D.int .i64 x106.parent,D.int .i64 x106.cond.kind,D.str x106.cond.pat.rel,D.sl (x106.cond.pat.args.map tx),D.str x106.cond.left,D.str x106.cond.right,D.int .i64 x106.cP,D.sl (Xw.map aI.c)])) (by first| (simp only[mA]<;>rfl)| (simp only[mA,aE.c,aS.c,aQ.c,Action.c,aO.c,aI.c,cr.c,aP.c,Node.c,aF.c,cv.c]<;>rfl)) (ih2 (IntKind.i64.wrap (rX+1)) (IntKind.i64.wrap (vm+(IntKind.i64.wrap (KE.2*((x117.facts.map aE.c).length:Int))))) (sI.set rX.toNat (⟨x106.parent,x106.cond,x106.cP,Xw⟩:Node)) h)
  ·exact((aU.b h105).a [.hl 0 [6,7] [1,2,4,5,6,7,8]]).ex hΓ xa (Cf vm sI h)
theorem Hr{aB:aF}{aV:aK}{cX:aE}{r:aF}(h:um aB aV cX=some r):Good prog 96 [D.agg (aF.c aB),D.sl (aV.map aE.c),D.agg (aE.c cX)] (D.agg [D.fr 105 4 (r.rules.map aO.c),D.fr 3 1 (r.ends.map dL),D.fr 111 3 (r.av.map aP.c),D.fr 118 8 (r.nodes.map Node.c),D.fr 53 2 (r.facts.map aE.c),D.int .i64 r.bz]):=by
 refine gd func96 [[some (105,4),some (3,1),some (111,3),some (118,8),some (53,2),none]] 143 fun hr Γ hΓ=>?_
 rw[um]at h;obtain⟨y1,h2,h⟩:=aD h;obtain⟨y3,h4,h⟩:=aD h;refine(((aU.g (uE h2)).g (fJ h4)).a [.cn [1,3,5,6,7,8,9] [0,1,2,8,10,3,4,5,6,9]]).lp hΓ (K5 hΓ (fun fU qX h=>?_) fuel 0 ([]:List Bool) y1.av h);refine(aU.a [.cn [3,6,7,8,12] [0,1,2,3,4,5,6,7,8]]).lp hΓ (K6 hΓ (fun p7 vi h=>?_) fuel 1 y1.bz y1.nodes h);cases h;exact aU.ret hΓ
def pM(aB:aF)(aV:aE):Option (aF×Bool):=((wS aB.facts aV).bind fun y1=>((tU aB).bind fun y3=>(bif !(y3)then((pq aB).bind fun y6=>(some (y6,false)))else(bif !(y1.2)then((pq aB).bind fun y9=>(some (y9,false)))else((um aB y1.1 aV).bind fun MI=>(some (MI,true)))))))
theorem sC{aB:aF}{aV:aE}{r:aF×Bool}(h:pM aB aV=some r):Good prog 44 [D.agg (aF.c aB),D.agg (aE.c aV)] (D.gN [D.agg [D.fr 105 4 (r.1.rules.map aO.c),D.fr 3 1 (r.1.ends.map dL),D.fr 111 3 (r.1.av.map aP.c),D.fr 118 8 (r.1.nodes.map Node.c),D.fr 53 2 (r.1.facts.map aE.c),D.int .i64 r.1.bz],D.bool r.2]):=by
 refine gd func44 [[some (105,4),some (3,1),some (111,3),some (118,8),some (53,2),none],[none]] 28 fun hr Γ hΓ=>?_
 rw[pM]at h;obtain⟨y1,h2,h⟩:=aD h;obtain⟨y3,h4,h⟩:=aD h;have kC:=((aU.g (Jf h2)).g (Fz h4))
 obtain⟨h5,h⟩|⟨h5,h⟩:=aL h
 ·obtain⟨y6,h7,h⟩:=aD h;cases h;exact(((kC.r 3 h5).T 1).g (uE h7)).ret hΓ
 ·have dJ:=(kC.r 3 h5)
  obtain⟨h8,h⟩|⟨h8,h⟩:=aL h
  ·obtain⟨y9,h10,h⟩:=aD h;cases h;exact((dJ.b h8).g (uE h10)).ret hΓ
  ·obtain⟨MI,h12,h⟩:=aD h;cases h;exact((dJ.b h8).g (Hr h12)).ret hΓ
def ff(aV:aK)(k1:Int->Int->ar->bI->b7->ay->aK->Option (aF×Int)):aK->Nat->Int->Int->ar->bI->b7->ay->aK->Option (aF×Int)
 | [],i1,rW,dS,fV,eN,mF,iU,qd=>(k1 rW dS fV eN mF iU qd)
 |bD::bZ,i1,rW,dS,fV,eN,mF,iU,qd=>((pM (⟨fV,eN,mF,iU,qd,dS⟩:aF) bD).bind fun xg=>(bif xg.2 then(ff aV k1 bZ (i1+1) (IntKind.i64.wrap (rW+1)) xg.1.bz xg.1.rules xg.1.ends xg.1.av xg.1.nodes xg.1.facts)else(ff aV k1 bZ (i1+1) rW dS fV eN mF iU qd)))
def nT(aB:aF)(aV:aK):Option (aF×Int):=((pq aB).bind fun y1=>(ff aV (fun(Rb:Int) (mD:Int) (sK:ar) (fU:bI) (CC:b7) (nu:ay) (qX:aK)=>(some ((⟨sK,fU,CC,nu,qX,mD⟩:aF),Rb))) aV 0 0 y1.bz y1.rules y1.ends y1.av y1.nodes y1.facts))
def Fv(aV:aK)(rW:Int)(dS:Int)(W2:List aR)(W3:List aR)(W4:List aR)(W5:List aR)(W6:List aR)(cS:Int):St:=⟨[(1,D.sl (aV.map aE.c)),(4,D.ptr 0 0),(6,D.ptr 1 0),(7,D.int .i64 rW),(8,D.int .i64 cS)],[Ob.box [D.nil,D.nil,D.nil,D.nil,D.nil,D.int .i64 0],Ob.box [D.acc 2,D.acc 3,D.acc 4,D.acc 5,D.acc 6,D.int .i64 dS],Ob.row .uq 105 4 W2,Ob.row .uq 3 1 W3,Ob.row .uq 111 3 W4,Ob.row .uq 118 8 W5,Ob.row .uq 53 2 W6]⟩
theorem Ee(hΓ:Γ.nt=34){aV:aK}{r:aF×Int}{k1:Int->Int->ar->bI->b7->ay->aK->Option (aF×Int)}(cW:∀(Rb:Int) (mD:Int) (sK:ar) (fU:bI) (CC:b7) (nu:ay) (qX:aK),k1 Rb mD sK fU CC nu qX=some r->Ax Γ N f13 (.q [[some (105,4),some (3,1),some (111,3),some (118,8),some (53,2),none],[none]] (D.gN [D.agg [D.fr 105 4 (r.1.rules.map aO.c),D.fr 3 1 (r.1.ends.map dL),D.fr 111 3 (r.1.av.map aP.c),D.fr 118 8 (r.1.nodes.map Node.c),D.fr 53 2 (r.1.facts.map aE.c),D.int .i64 r.1.bz],D.int .i64 r.2])) [1,1,1,1] ⟨[(4,D.ptr 0 0),(6,D.ptr 1 0),(7,D.int .i64 Rb)],[Ob.box [D.nil,D.nil,D.nil,D.nil,D.nil,D.int .i64 0],Ob.box [D.acc 2,D.acc 3,D.acc 4,D.acc 5,D.acc 6,D.int .i64 mD],Ob.row .uq 105 4 (sK.map aO.c),Ob.row .uq 3 1 (fU.map dL),Ob.row .uq 111 3 (CC.map aP.c),Ob.row .uq 118 8 (nu.map Node.c),Ob.row .uq 53 2 (qX.map aE.c)]⟩)(hm1:aV.length<=maxLen):∀(rest:aK) (i1:Nat) (rW:Int) (dS:Int) (fV:ar) (eN:bI) (mF:b7) (iU:ay) (qd:aK),aV.drop i1=rest->ff aV k1 rest i1 rW dS fV eN mF iU qd=some r->Ar Γ N f13 (.q [[some (105,4),some (3,1),some (111,3),some (118,8),some (53,2),none],[none]] (D.gN [D.agg [D.fr 105 4 (r.1.rules.map aO.c),D.fr 3 1 (r.1.ends.map dL),D.fr 111 3 (r.1.av.map aP.c),D.fr 118 8 (r.1.nodes.map Node.c),D.fr 53 2 (r.1.facts.map aE.c),D.int .i64 r.1.bz],D.int .i64 r.2])) [1,1,1,0,1,0] (rest.length+1) (Fv aV rW dS (fV.map aO.c) (eN.map dL) (mF.map aP.c) (iU.map Node.c) (qd.map aE.c) (i1:Int)):=by
 intro rest
 induction rest with
 |nil=>
  intro i1 rW dS fV eN mF iU qd aj h;rw[ff]at h;refine aN fun N1 bw bg=>?_
  exact((aU.ge aE.c aj).a [.hl 0 [4,6,7] [0,1,2,3,4,5,6]]).ex hΓ bw (cW rW dS fV eN mF iU qd h)
 |cons bD bZ ih1=>
  intro i1 rW dS fV eN mF iU qd aj h;rw[ff]at h;refine aN fun N1 bw bg=>?_
  obtain⟨xg,h36,h⟩:=aD h;have dJ:=(((((aU.lt aE.c aj).a [.n 11]).l (ax aE.c 2 (dc aj) rfl)).a [.d (D.gN [D.agg [D.fr 105 4 (xg.1.rules.map aO.c),D.fr 3 1 (xg.1.ends.map dL),D.fr 111 3 (xg.1.av.map aP.c),D.fr 118 8 (xg.1.nodes.map Node.c),D.fr 53 2 (xg.1.facts.map aE.c),D.int .i64 xg.1.bz],D.bool xg.2])]).w (show Good prog 44 [D.agg [D.sl (fV.map aO.c),D.sl (eN.map dL),D.sl (mF.map aP.c),D.sl (iU.map Node.c),D.sl (qd.map aE.c),D.int .i64 dS],D.agg (aE.c bD)] (D.gN [D.agg [D.fr 105 4 (xg.1.rules.map aO.c),D.fr 3 1 (xg.1.ends.map dL),D.fr 111 3 (xg.1.av.map aP.c),D.fr 118 8 (xg.1.nodes.map Node.c),D.fr 53 2 (xg.1.facts.map aE.c),D.int .i64 xg.1.bz],D.bool xg.2])from by first| (simpa only[bN,bH,bX,dB,dA]using sC h36)|exact sC h36| (have t:=sC h36;simp only[bN,dB,dA,aF.c]at t;exact t)))
  obtain⟨h37,h⟩|⟨h37,h⟩:=aL h
  ·exact((dJ.b h37).a [.cn [1,4,6,7,8] [0,1,7,8,9,10,11]]).ct hΓ bg (iS aj hm1) (ih1 (i1+1) (IntKind.i64.wrap (rW+1)) xg.1.bz xg.1.rules xg.1.ends xg.1.av xg.1.nodes xg.1.facts (dn aj) h)
  ·exact((dJ.b h37).a [.cn [1,4,6,7,8] [0,1,2,3,4,5,6]]).ct hΓ bg (iS aj hm1) (ih1 (i1+1) rW dS fV eN mF iU qd (dn aj) h)
theorem Db{aB:aF}{aV:aK}{r:aF×Int}(h:nT aB aV=some r):Good prog 13 [D.agg (aF.c aB),D.sl (aV.map aE.c)] (D.gN [D.agg [D.fr 105 4 (r.1.rules.map aO.c),D.fr 3 1 (r.1.ends.map dL),D.fr 111 3 (r.1.av.map aP.c),D.fr 118 8 (r.1.nodes.map Node.c),D.fr 53 2 (r.1.facts.map aE.c),D.int .i64 r.1.bz],D.int .i64 r.2]):=by
 refine gd func13 [[some (105,4),some (3,1),some (111,3),some (118,8),some (53,2),none],[none]] 34 fun hr Γ hΓ=>?_
 rw[nT]at h;obtain⟨y1,h2,h⟩:=aD h;refine((aU.g (uE h2)).a [.cn [1,4,6,7,8] [1,7,2,3,4,5,6]]).lp hΓ (Ee hΓ (fun Rb mD sK fU CC nu qX h=>?_) (by have:=(dW.sl (hr _ (aC (i:=1) rfl))).1;simpa using this) aV 0 0 y1.bz y1.rules y1.ends y1.av y1.nodes y1.facts rfl h);cases h;exact aU.ret hΓ
def nE(aB:aJ):Option aJ:=(bif room (([]:List aR).length+(aB.map tx).length) 16 then(some (([]:aJ)++aB))else none)
theorem vY{aB:aJ}{r:aJ}(h:nE aB=some r):Good prog 184 [D.sl (aB.map tx)] (D.fr 9 1 (r.map tx)):=by
 refine gd func184 [[some (9,1)]] 5 fun hr Γ hΓ=>?_
 rw[nE]at h;obtain⟨h1,h⟩:=bV h;cases h;exact(((aU.w (cB h1)).w (show(∀r∈(aB.map tx),r.length=1)/\(true=true->D.oB (aB.map tx)=true)from⟨by first|simp| (intro r hr;obtain⟨x,_,rfl⟩:=cJ.1 (cH (gO hr));rfl),by simp[D.oB,D.flat]⟩)).a [.Pk 2,.fl true]).rts hΓ (D.fr 9 1 (([]:List aR)++(aB.map tx))) (by first|rfl| (simp only[mA]<;>rfl)| (simp only[cV,mA]<;>rfl))
def eG(aB:aE):Option aE:=((nE aB.args).bind fun y1=>(some (⟨aB.rel,y1⟩:aE)))
theorem su{aB:aE}{r:aE}(h:eG aB=some r):Good prog 112 [D.agg (aE.c aB)] (D.agg [D.str r.rel,D.fr 9 1 (r.args.map tx)]):=by
 refine gd func112 [[none,some (9,1)]] 9 fun hr Γ hΓ=>?_
 rw[eG]at h;obtain⟨y1,h2,h⟩:=aD h;cases h;exact((aU.a [.n 5]).g (vY h2)).ret hΓ
def fE(aB:aQ):Option aQ:=((eG aB.pat).bind fun y1=>(some (⟨aB.kind,y1,aB.left,aB.right⟩:aQ)))
theorem kz{aB:aQ}{r:aQ}(h:fE aB=some r):Good prog 113 [D.agg (aQ.c aB)] (D.agg [D.int .i64 r.kind,D.str r.pat.rel,D.fr 9 1 (r.pat.args.map tx),D.str r.left,D.str r.right]):=by
 refine gd func113 [[none,none,some (9,1),none,none]] 8 fun hr Γ hΓ=>?_
 rw[fE]at h;obtain⟨y1,h2,h⟩:=aD h;cases h;exact(aU.g (su h2)).ret hΓ
def mN(aB:aq)(k1:aq->Option aq):aq->Nat->aq->Option aq
 | [],i1,bC=>(k1 bC)
 |bD::bZ,i1,bC=>((fE bD).bind fun q8=>(bif room ((bC.map aQ.c).length+([[D.int .i64 q8.kind,D.str q8.pat.rel,D.sl (q8.pat.args.map tx),D.str q8.left,D.str q8.right]]).length) 80 then(mN aB k1 bZ (i1+1) (bC++([q8])))else none))
def sr(aB:aq):Option aq:=(mN aB (fun(bP:aq)=>(some bP)) aB 0 ([]:aq))
def Aw(aB:aq)(W0:List aR)(cS:Int):St:=⟨[(3,D.acc 0),(6,D.sl (aB.map aQ.c)),(7,D.int .i64 ((aB.map aQ.c).length:Int)),(8,D.int .i64 cS)],[Ob.row .uq 115 5 W0]⟩
theorem Gb(hΓ:Γ.nt=19){aB:aq}{r:aq}{k1:aq->Option aq}(cW:∀(bP:aq),k1 bP=some r->Ax Γ N f244 (.q [[some (115,5)]] (D.fr 115 5 (r.map aQ.c))) [1,1,1] ⟨[(3,D.acc 0)],[Ob.row .uq 115 5 (bP.map aQ.c)]⟩)(hm1:aB.length<=maxLen):∀(rest:aq) (i1:Nat) (bC:aq),aB.drop i1=rest->mN aB k1 rest i1 bC=some r->Ar Γ N f244 (.q [[some (115,5)]] (D.fr 115 5 (r.map aQ.c))) [1,1,0,1,0] (rest.length+1) (Aw aB (bC.map aQ.c) (i1:Int)):=by
 intro rest
 induction rest with
 |nil=>
  intro i1 bC aj h;rw[mN]at h;refine aN fun N1 bw bg=>?_
  exact((aU.ge aQ.c aj).a [.hl 0 [3] [0]]).ex hΓ bw (cW bC h)
 |cons bD bZ ih1=>
  intro i1 bC aj h;rw[mN]at h;refine aN fun N1 bw bg=>?_
  obtain⟨q8,h28,h⟩:=aD h;obtain⟨h29,h⟩:=bV h;exact(((((aU.lt aQ.c aj).l (ax aQ.c 5 (dc aj) rfl)).g (kz h28)).w (cB h29)).a [.cn [3,6,7,8] [4]]).cs hΓ bg (Aw aB ((bC.map aQ.c)++([[D.int .i64 q8.kind,D.str q8.pat.rel,D.sl (q8.pat.args.map tx),D.str q8.left,D.str q8.right]])) (IntKind.i64.wrap ((i1:Int)+1))) (by first| (simp only[iS aj hm1,mA]<;>rfl)| (simp only[iS aj hm1,mA,aE.c,aS.c,aQ.c,Action.c,aO.c,aI.c,cr.c,aP.c,Node.c,aF.c,cv.c]<;>rfl)) (ih1 (i1+1) (bC++([q8])) (dn aj) h)
theorem FU{aB:aq}{r:aq}(h:sr aB=some r):Good prog 244 [D.sl (aB.map aQ.c)] (D.fr 115 5 (r.map aQ.c)):=by
 refine gd func244 [[some (115,5)]] 19 fun hr Γ hΓ=>?_
 rw[sr]at h;refine(aU.a [.Pk 3,.cn [3,6,7,8] [0]]).lp hΓ (Gb hΓ (fun bP h=>?_) (by have:=(dW.sl (hr _ (aC (i:=0) rfl))).1;simpa using this) aB 0 ([]:aq) rfl h);have h:=aG h;subst h;exact aU.ret hΓ
def kL(aB:aO)(y1:aq)(k1:c8->Option aO):c8->Nat->c8->Option aO
 | [],i1,eN=>(k1 eN)
 |bD::bZ,i1,eN=>((eG bD.pat).bind fun oF=>(bif room ((eN.map Action.c).length+([[D.int .i64 bD.kind,D.str oF.rel,D.sl (oF.args.map tx)]]).length) 48 then(kL aB y1 k1 bZ (i1+1) (eN++([(⟨bD.kind,oF⟩:Action)])))else none))
def qx(aB:aO):Option aO:=((sr aB.conds).bind fun y1=>(kL aB y1 (fun(fU:c8)=>(some (⟨aB.name,aB.prio,y1,fU⟩:aO))) aB.cu 0 ([]:c8)))
def Br(aB:aO)(y1:aq)(W0:List aR)(cS:Int):St:=⟨[(2,D.ptr 0 0),(3,D.ptr 1 0),(15,D.sl (aB.cu.map Action.c)),(16,D.int .i64 ((aB.cu.map Action.c).length:Int)),(17,D.int .i64 cS)],[Ob.box [D.str ([]),D.int .i64 0,D.nil,D.nil],Ob.box [D.str aB.name,D.int .i64 aB.prio,D.acc 2,D.acc 3],Ob.row .uq 115 5 (y1.map aQ.c),Ob.row .uq 199 3 W0]⟩
theorem Iv(hΓ:Γ.nt=34){aB:aO}{y1:aq}{r:aO}{k1:c8->Option aO}(cW:∀(fU:c8),k1 fU=some r->Ax Γ N f182 (.q [[none,none,some (115,5),some (199,3)]] (D.agg [D.str r.name,D.int .i64 r.prio,D.fr 115 5 (r.conds.map aQ.c),D.fr 199 3 (r.cu.map Action.c)])) [1,1,1] ⟨[(2,D.ptr 0 0),(3,D.ptr 1 0)],[Ob.box [D.str ([]),D.int .i64 0,D.nil,D.nil],Ob.box [D.str aB.name,D.int .i64 aB.prio,D.acc 2,D.acc 3],Ob.row .uq 115 5 (y1.map aQ.c),Ob.row .uq 199 3 (fU.map Action.c)]⟩)(hm1:aB.cu.length<=maxLen):∀(rest:c8) (i1:Nat) (eN:c8),aB.cu.drop i1=rest->kL aB y1 k1 rest i1 eN=some r->Ar Γ N f182 (.q [[none,none,some (115,5),some (199,3)]] (D.agg [D.str r.name,D.int .i64 r.prio,D.fr 115 5 (r.conds.map aQ.c),D.fr 199 3 (r.cu.map Action.c)])) [1,1,0,1,0] (rest.length+1) (Br aB y1 (eN.map Action.c) (i1:Int)):=by
 intro rest
 induction rest with
 |nil=>
  intro i1 eN aj h;rw[kL]at h;refine aN fun N1 bw bg=>?_
  exact((aU.ge Action.c aj).a [.hl 0 [2,3] [0,1,2,3]]).ex hΓ bw (cW eN h)
 |cons bD bZ ih1=>
  intro i1 eN aj h;rw[kL]at h;refine aN fun N1 bw bg=>?_
  obtain⟨oF,h42,h⟩:=aD h;obtain⟨h43,h⟩:=bV h;exact((((((aU.lt Action.c aj).l (ax Action.c 3 (dc aj) rfl)).a [.n2 [0,1,2,3,4,5,6,7,8,9,10,11] [0,1,2,3,4,5,6,7,8,9,10,11] 8 9 [0,1] [5]]).g (su h42)).w (cB h43)).a [.cn [2,3,15,16,17] [0,1,2,7]]).cs hΓ bg (Br aB y1 ((eN.map Action.c)++([[D.int .i64 bD.kind,D.str oF.rel,D.sl (oF.args.map tx)]])) (IntKind.i64.wrap ((i1:Int)+1))) (by first| (simp only[iS aj hm1,mA]<;>rfl)| (simp only[iS aj hm1,mA,aE.c,aS.c,aQ.c,Action.c,aO.c,aI.c,cr.c,aP.c,Node.c,aF.c,cv.c]<;>rfl)) (ih1 (i1+1) (eN++([(⟨bD.kind,oF⟩:Action)])) (dn aj) h)
theorem Ge{aB:aO}{r:aO}(h:qx aB=some r):Good prog 182 [D.agg (aO.c aB)] (D.agg [D.str r.name,D.int .i64 r.prio,D.fr 115 5 (r.conds.map aQ.c),D.fr 199 3 (r.cu.map Action.c)]):=by
 refine gd func182 [[none,none,some (115,5),some (199,3)]] 34 fun hr Γ hΓ=>?_
 rw[qx]at h;obtain⟨y1,h2,h⟩:=aD h;refine(((aU.a [.n 9]).g (FU h2)).a [.pb 3 3 199 3,.cn [2,3,15,16,17] [1,3,2,4]]).lp hΓ (Iv hΓ (fun fU h=>?_) (by have:=(dW.sl (dW.agg (hr _ (aC (i:=0) rfl)) (.sl (aB.cu.map Action.c)) (by simp))).1;simpa using this) aB.cu 0 ([]:c8) rfl h);cases h;exact aU.ret hΓ
def mP(aB:ar)(k1:ar->Option ar):ar->Nat->ar->Option ar
 | [],i1,bC=>(k1 bC)
 |bD::bZ,i1,bC=>((qx bD).bind fun q8=>(bif room ((bC.map aO.c).length+([[D.str q8.name,D.int .i64 q8.prio,D.sl (q8.conds.map aQ.c),D.sl (q8.cu.map Action.c)]]).length) 72 then(mP aB k1 bZ (i1+1) (bC++([q8])))else none))
def qD(aB:ar):Option ar:=(mP aB (fun(bP:ar)=>(some bP)) aB 0 ([]:ar))
def Az(aB:ar)(W0:List aR)(cS:Int):St:=⟨[(3,D.acc 0),(6,D.sl (aB.map aO.c)),(7,D.int .i64 ((aB.map aO.c).length:Int)),(8,D.int .i64 cS)],[Ob.row .uq 105 4 W0]⟩
theorem Gf(hΓ:Γ.nt=19){aB:ar}{r:ar}{k1:ar->Option ar}(cW:∀(bP:ar),k1 bP=some r->Ax Γ N f109 (.q [[some (105,4)]] (D.fr 105 4 (r.map aO.c))) [1,1,1] ⟨[(3,D.acc 0)],[Ob.row .uq 105 4 (bP.map aO.c)]⟩)(hm1:aB.length<=maxLen):∀(rest:ar) (i1:Nat) (bC:ar),aB.drop i1=rest->mP aB k1 rest i1 bC=some r->Ar Γ N f109 (.q [[some (105,4)]] (D.fr 105 4 (r.map aO.c))) [1,1,0,1,0] (rest.length+1) (Az aB (bC.map aO.c) (i1:Int)):=by
 intro rest
 induction rest with
 |nil=>
  intro i1 bC aj h;rw[mP]at h;refine aN fun N1 bw bg=>?_
  exact((aU.ge aO.c aj).a [.hl 0 [3] [0]]).ex hΓ bw (cW bC h)
 |cons bD bZ ih1=>
  intro i1 bC aj h;rw[mP]at h;refine aN fun N1 bw bg=>?_
  obtain⟨q8,h28,h⟩:=aD h;obtain⟨h29,h⟩:=bV h;exact(((((aU.lt aO.c aj).l (ax aO.c 4 (dc aj) rfl)).g (Ge h28)).w (cB h29)).a [.cn [3,6,7,8] [5]]).cs hΓ bg (Az aB ((bC.map aO.c)++([[D.str q8.name,D.int .i64 q8.prio,D.sl (q8.conds.map aQ.c),D.sl (q8.cu.map Action.c)]])) (IntKind.i64.wrap ((i1:Int)+1))) (by first| (simp only[iS aj hm1,mA]<;>rfl)| (simp only[iS aj hm1,mA,aE.c,aS.c,aQ.c,Action.c,aO.c,aI.c,cr.c,aP.c,Node.c,aF.c,cv.c]<;>rfl)) (ih1 (i1+1) (bC++([q8])) (dn aj) h)
theorem zF{aB:ar}{r:ar}(h:qD aB=some r):Good prog 109 [D.sl (aB.map aO.c)] (D.fr 105 4 (r.map aO.c)):=by
 refine gd func109 [[some (105,4)]] 19 fun hr Γ hΓ=>?_
 rw[qD]at h;refine(aU.a [.Pk 3,.cn [3,6,7,8] [0]]).lp hΓ (Gf hΓ (fun bP h=>?_) (by have:=(dW.sl (hr _ (aC (i:=0) rfl))).1;simpa using this) aB 0 ([]:ar) rfl h);have h:=aG h;subst h;exact aU.ret hΓ
def uP(aB:bI):Option bI:=(bif room (([]:List aR).length+(aB.map dL).length) 8 then(some (([]:bI)++aB))else none)
theorem Gd{aB:bI}{r:bI}(h:uP aB=some r):Good prog 110 [D.sl (aB.map dL)] (D.fr 3 1 (r.map dL)):=by
 refine gd func110 [[some (3,1)]] 5 fun hr Γ hΓ=>?_
 rw[uP]at h;obtain⟨h1,h⟩:=bV h;cases h;exact(((aU.w (cB h1)).w (show(∀r∈(aB.map dL),r.length=1)/\(true=true->D.oB (aB.map dL)=true)from⟨by first|simp| (intro r hr;obtain⟨x,_,rfl⟩:=cJ.1 (cH (gO hr));rfl),by simp[D.oB,D.flat]⟩)).a [.Pk 2,.fl true]).rts hΓ (D.fr 3 1 (([]:List aR)++(aB.map dL))) (by first|rfl| (simp only[mA]<;>rfl)| (simp only[cV,mA]<;>rfl))
def eF(aB:aE):Option aE:=((nE aB.args).bind fun y1=>(some (⟨aB.rel,y1⟩:aE)))
theorem gR{aB:aE}{r:aE}(h:eF aB=some r):Good prog 183 [D.agg (aE.c aB)] (D.agg [D.str r.rel,D.fr 9 1 (r.args.map tx)]):=by
 refine gd func183 [[none,some (9,1)]] 9 fun hr Γ hΓ=>?_
 rw[eF]at h;obtain⟨y1,h2,h⟩:=aD h;cases h;exact((aU.a [.n 5]).g (vY h2)).ret hΓ
def mO(aB:aK)(k1:aK->Option aK):aK->Nat->aK->Option aK
 | [],i1,bC=>(k1 bC)
 |bD::bZ,i1,bC=>((eF bD).bind fun q8=>(bif room ((bC.map aE.c).length+([[D.str q8.rel,D.sl (q8.args.map tx)]]).length) 40 then(mO aB k1 bZ (i1+1) (bC++([q8])))else none))
def cy(aB:aK):Option aK:=(mO aB (fun(bP:aK)=>(some bP)) aB 0 ([]:aK))
def Ay(aB:aK)(W0:List aR)(cS:Int):St:=⟨[(3,D.acc 0),(6,D.sl (aB.map aE.c)),(7,D.int .i64 ((aB.map aE.c).length:Int)),(8,D.int .i64 cS)],[Ob.row .uq 53 2 W0]⟩
theorem Gc(hΓ:Γ.nt=19){aB:aK}{r:aK}{k1:aK->Option aK}(cW:∀(bP:aK),k1 bP=some r->Ax Γ N f111 (.q [[some (53,2)]] (D.fr 53 2 (r.map aE.c))) [1,1,1] ⟨[(3,D.acc 0)],[Ob.row .uq 53 2 (bP.map aE.c)]⟩)(hm1:aB.length<=maxLen):∀(rest:aK) (i1:Nat) (bC:aK),aB.drop i1=rest->mO aB k1 rest i1 bC=some r->Ar Γ N f111 (.q [[some (53,2)]] (D.fr 53 2 (r.map aE.c))) [1,1,0,1,0] (rest.length+1) (Ay aB (bC.map aE.c) (i1:Int)):=by
 intro rest
 induction rest with
 |nil=>
  intro i1 bC aj h;rw[mO]at h;refine aN fun N1 bw bg=>?_
  exact((aU.ge aE.c aj).a [.hl 0 [3] [0]]).ex hΓ bw (cW bC h)
 |cons bD bZ ih1=>
  intro i1 bC aj h;rw[mO]at h;refine aN fun N1 bw bg=>?_
  obtain⟨q8,h28,h⟩:=aD h;obtain⟨h29,h⟩:=bV h;exact(((((aU.lt aE.c aj).l (ax aE.c 2 (dc aj) rfl)).g (gR h28)).w (cB h29)).a [.cn [3,6,7,8] [4]]).cs hΓ bg (Ay aB ((bC.map aE.c)++([[D.str q8.rel,D.sl (q8.args.map tx)]])) (IntKind.i64.wrap ((i1:Int)+1))) (by first| (simp only[iS aj hm1,mA]<;>rfl)| (simp only[iS aj hm1,mA,aE.c,aS.c,aQ.c,Action.c,aO.c,aI.c,cr.c,aP.c,Node.c,aF.c,cv.c]<;>rfl)) (ih1 (i1+1) (bC++([q8])) (dn aj) h)
theorem eg{aB:aK}{r:aK}(h:cy aB=some r):Good prog 111 [D.sl (aB.map aE.c)] (D.fr 53 2 (r.map aE.c)):=by
 refine gd func111 [[some (53,2)]] 19 fun hr Γ hΓ=>?_
 rw[cy]at h;refine(aU.a [.Pk 3,.cn [3,6,7,8] [0]]).lp hΓ (Gc hΓ (fun bP h=>?_) (by have:=(dW.sl (hr _ (aC (i:=0) rfl))).1;simpa using this) aB 0 ([]:aK) rfl h);have h:=aG h;subst h;exact aU.ret hΓ
def jN(aB:aT):Option aT:=(bif room (([]:List aR).length+(aB.map aS.c).length) 32 then(some (([]:aT)++aB))else none)
theorem vX{aB:aT}{r:aT}(h:jN aB=some r):Good prog 185 [D.sl (aB.map aS.c)] (D.fr 152 2 (r.map aS.c)):=by
 refine gd func185 [[some (152,2)]] 5 fun hr Γ hΓ=>?_
 rw[jN]at h;obtain⟨h1,h⟩:=bV h;cases h;exact(((aU.w (cB h1)).w (show(∀r∈(aB.map aS.c),r.length=2)/\(true=true->D.oB (aB.map aS.c)=true)from⟨by first|simp| (intro r hr;obtain⟨x,_,rfl⟩:=cJ.1 (cH (gO hr));rfl),by simp[D.oB,D.flat]⟩)).a [.Pk 2,.fl true]).rts hΓ (D.fr 152 2 (([]:List aR)++(aB.map aS.c))) (by first|rfl| (simp only[mA]<;>rfl)| (simp only[cV,mA]<;>rfl))
def ir(aB:ah)(k1:ah->Option ah):ah->Nat->ah->Option ah
 | [],i1,bC=>(k1 bC)
 |bD::bZ,i1,bC=>((cy bD.facts).bind fun y61=>((jN bD.bind).bind fun y63=>(bif room ((bC.map aI.c).length+([[D.sl (y61.map aE.c),D.sl (y63.map aS.c)]]).length) 48 then(ir aB k1 bZ (i1+1) (bC++([(⟨y61,y63⟩:aI)])))else none)))
def ld(aB:ah):Option ah:=(ir aB (fun(bP:ah)=>(some bP)) aB 0 ([]:ah))
def A7(aB:ah)(W0:List aR)(cS:Int):St:=⟨[(3,D.acc 0),(6,D.sl (aB.map aI.c)),(7,D.int .i64 ((aB.map aI.c).length:Int)),(8,D.int .i64 cS)],[Ob.row .uq 124 2 W0]⟩
theorem FV(hΓ:Γ.nt=24){aB:ah}{r:ah}{k1:ah->Option ah}(cW:∀(bP:ah),k1 bP=some r->Ax Γ N f114 (.q [[some (124,2)]] (D.fr 124 2 (r.map aI.c))) [1,1,1] ⟨[(3,D.acc 0)],[Ob.row .uq 124 2 (bP.map aI.c)]⟩)(hm1:aB.length<=maxLen):∀(rest:ah) (i1:Nat) (bC:ah),aB.drop i1=rest->ir aB k1 rest i1 bC=some r->Ar Γ N f114 (.q [[some (124,2)]] (D.fr 124 2 (r.map aI.c))) [1,1,0,1,0] (rest.length+1) (A7 aB (bC.map aI.c) (i1:Int)):=by
 intro rest
 induction rest with
 |nil=>
  intro i1 bC aj h;rw[ir]at h;refine aN fun N1 bw bg=>?_
  exact((aU.ge aI.c aj).a [.hl 0 [3] [0]]).ex hΓ bw (cW bC h)
 |cons bD bZ ih1=>
  intro i1 bC aj h;rw[ir]at h;refine aN fun N1 bw bg=>?_
  obtain⟨y61,h62,h⟩:=aD h;obtain⟨y63,h64,h⟩:=aD h;obtain⟨h65,h⟩:=bV h;exact(((((((aU.lt aI.c aj).l (ax aI.c 2 (dc aj) rfl)).a [.n2 [0,1,2,3,4,5,6,7,8,9,10] [0,1,2,3,4,5,6,7,8,9,10] 8 9 [0] [2,3]]).g (eg h62)).g (vX h64)).w (cB h65)).a [.cn [3,6,7,8] [5]]).cs hΓ bg (A7 aB ((bC.map aI.c)++([[D.sl (y61.map aE.c),D.sl (y63.map aS.c)]])) (IntKind.i64.wrap ((i1:Int)+1))) (by first| (simp only[iS aj hm1,mA]<;>rfl)| (simp only[iS aj hm1,mA,aE.c,aS.c,aQ.c,Action.c,aO.c,aI.c,cr.c,aP.c,Node.c,aF.c,cv.c]<;>rfl)) (ih1 (i1+1) (bC++([(⟨y61,y63⟩:aI)])) (dn aj) h)
theorem EQ{aB:ah}{r:ah}(h:ld aB=some r):Good prog 114 [D.sl (aB.map aI.c)] (D.fr 124 2 (r.map aI.c)):=by
 refine gd func114 [[some (124,2)]] 24 fun hr Γ hΓ=>?_
 rw[ld]at h;refine(aU.a [.Pk 3,.cn [3,6,7,8] [0]]).lp hΓ (FV hΓ (fun bP h=>?_) (by have:=(dW.sl (hr _ (aC (i:=0) rfl))).1;simpa using this) aB 0 ([]:ah) rfl h);have h:=aG h;subst h;exact aU.ret hΓ
def iL(aB:aF)(y1:ar)(y3:bI)(y5:aK)(k1:b7->Option aF):b7->Nat->b7->Option aF
 | [],i1,iU=>(k1 iU)
 |bD::bZ,i1,iU=>((eG bD.shape).bind fun y67=>((cy bD.facts).bind fun y69=>(bif room ((iU.map aP.c).length+([[D.str y67.rel,D.sl (y67.args.map tx),D.sl (y69.map aE.c)]]).length) 64 then(iL aB y1 y3 y5 k1 bZ (i1+1) (iU++([(⟨y67,y69⟩:aP)])))else none)))
def iM(aB:aF)(y1:ar)(y3:bI)(y5:aK)(nu:b7)(k2:ay->Option aF):ay->Nat->ay->Option aF
 | [],i2,wu=>(k2 wu)
 |lU::wg,i2,wu=>((fE lU.cond).bind fun KF=>((ld lU.tokens).bind fun a3j=>(bif room ((wu.map Node.c).length+([[D.int .i64 lU.parent,D.int .i64 KF.kind,D.str KF.pat.rel,D.sl (KF.pat.args.map tx),D.str KF.left,D.str KF.right,D.int .i64 lU.cP,D.sl (a3j.map aI.c)]]).length) 120 then(iM aB y1 y3 y5 nu k2 wg (i2+1) (wu++([(⟨lU.parent,KF,lU.cP,a3j⟩:Node)])))else none)))
def iq(aB:aF):Option aF:=((qD aB.rules).bind fun y1=>((uP aB.ends).bind fun y3=>((cy aB.facts).bind fun y5=>(iL aB y1 y3 y5 (fun(nu:b7)=>(iM aB y1 y3 y5 nu (fun(vi:ay)=>(some (⟨y1,y3,nu,vi,y5,aB.bz⟩:aF))) aB.nodes 0 ([]:ay))) aB.av 0 ([]:b7)))))
def zD(aB:aF)(y1:ar)(y3:bI)(y5:aK)(W0:List aR)(cS:Int):St:=⟨[(1,D.ptr 0 0),(2,D.ptr 1 0),(3,D.ptr 2 0),(21,D.sl (aB.av.map aP.c)),(22,D.int .i64 ((aB.av.map aP.c).length:Int)),(23,D.int .i64 cS)],[Ob.box (aF.c aB),Ob.box [D.nil,D.nil,D.nil,D.nil,D.nil,D.int .i64 0],Ob.box [D.acc 3,D.acc 4,D.acc 5,D.nil,D.acc 6,D.int .i64 aB.bz],Ob.row .uq 105 4 (y1.map aO.c),Ob.row .uq 3 1 (y3.map dL),Ob.row .uq 111 3 W0,Ob.row .uq 53 2 (y5.map aE.c)]⟩
theorem EO(hΓ:Γ.nt=65){aB:aF}{y1:ar}{y3:bI}{y5:aK}{r:aF}{k1:b7->Option aF}(cW:∀(nu:b7),k1 nu=some r->Ax Γ N f53 (.q [[some (105,4),some (3,1),some (111,3),some (118,8),some (53,2),none]] (D.agg [D.fr 105 4 (r.rules.map aO.c),D.fr 3 1 (r.ends.map dL),D.fr 111 3 (r.av.map aP.c),D.fr 118 8 (r.nodes.map Node.c),D.fr 53 2 (r.facts.map aE.c),D.int .i64 r.bz])) [1,1,1] ⟨[(1,D.ptr 0 0),(2,D.ptr 1 0),(3,D.ptr 2 0)],[Ob.box (aF.c aB),Ob.box [D.nil,D.nil,D.nil,D.nil,D.nil,D.int .i64 0],Ob.box [D.acc 3,D.acc 4,D.acc 5,D.nil,D.acc 6,D.int .i64 aB.bz],Ob.row .uq 105 4 (y1.map aO.c),Ob.row .uq 3 1 (y3.map dL),Ob.row .uq 111 3 (nu.map aP.c),Ob.row .uq 53 2 (y5.map aE.c)]⟩)(hm1:aB.av.length<=maxLen):∀(rest:b7) (i1:Nat) (iU:b7),aB.av.drop i1=rest->iL aB y1 y3 y5 k1 rest i1 iU=some r->Ar Γ N f53 (.q [[some (105,4),some (3,1),some (111,3),some (118,8),some (53,2),none]] (D.agg [D.fr 105 4 (r.rules.map aO.c),D.fr 3 1 (r.ends.map dL),D.fr 111 3 (r.av.map aP.c),D.fr 118 8 (r.nodes.map Node.c),D.fr 53 2 (r.facts.map aE.c),D.int .i64 r.bz])) [1,1,0,1,0] (rest.length+1) (zD aB y1 y3 y5 (iU.map aP.c) (i1:Int)):=by
 intro rest
 induction rest with
 |nil=>
  intro i1 iU aj h;rw[iL]at h;refine aN fun N1 bw bg=>?_
  exact((aU.ge aP.c aj).a [.hl 0 [1,2,3] [0,1,2,3,4,5,6]]).ex hΓ bw (cW iU h)
 |cons bD bZ ih1=>
  intro i1 iU aj h;rw[iL]at h;refine aN fun N1 bw bg=>?_
  obtain⟨y67,h68,h⟩:=aD h;obtain⟨y69,h70,h⟩:=aD h;obtain⟨h71,h⟩:=bV h;exact(((((((aU.lt aP.c aj).l (ax aP.c 3 (dc aj) rfl)).a [.n2 [0,1,2,3,4,5,6,7,8,9,10,11,12] [0,1,2,3,4,5,6,7,8,9,10,11,12] 9 10 [0,1] [8,9]]).g (su h68)).g (eg h70)).w (cB h71)).a [.cn [1,2,3,21,22,23] [0,1,2,3,4,11,6]]).cs hΓ bg (zD aB y1 y3 y5 ((iU.map aP.c)++([[D.str y67.rel,D.sl (y67.args.map tx),D.sl (y69.map aE.c)]])) (IntKind.i64.wrap ((i1:Int)+1))) (by first| (simp only[iS aj hm1,mA]<;>rfl)| (simp only[iS aj hm1,mA,aE.c,aS.c,aQ.c,Action.c,aO.c,aI.c,cr.c,aP.c,Node.c,aF.c,cv.c]<;>rfl)) (ih1 (i1+1) (iU++([(⟨y67,y69⟩:aP)])) (dn aj) h)
def zE(aB:aF)(y1:ar)(y3:bI)(y5:aK)(nu:b7)(W0:List aR)(cS:Int):St:=⟨[(2,D.ptr 0 0),(3,D.ptr 1 0),(41,D.sl (aB.nodes.map Node.c)),(42,D.int .i64 ((aB.nodes.map Node.c).length:Int)),(43,D.int .i64 cS)],[Ob.box [D.nil,D.nil,D.nil,D.nil,D.nil,D.int .i64 0],Ob.box [D.acc 2,D.acc 3,D.acc 4,D.acc 5,D.acc 6,D.int .i64 aB.bz],Ob.row .uq 105 4 (y1.map aO.c),Ob.row .uq 3 1 (y3.map dL),Ob.row .uq 111 3 (nu.map aP.c),Ob.row .uq 118 8 W0,Ob.row .uq 53 2 (y5.map aE.c)]⟩
theorem EP(hΓ:Γ.nt=65){aB:aF}{y1:ar}{y3:bI}{y5:aK}{nu:b7}{r:aF}{k2:ay->Option aF}(Cf:∀(vi:ay),k2 vi=some r->Ax Γ N f53 (.q [[some (105,4),some (3,1),some (111,3),some (118,8),some (53,2),none]] (D.agg [D.fr 105 4 (r.rules.map aO.c),D.fr 3 1 (r.ends.map dL),D.fr 111 3 (r.av.map aP.c),D.fr 118 8 (r.nodes.map Node.c),D.fr 53 2 (r.facts.map aE.c),D.int .i64 r.bz])) [1,1,1,1] ⟨[(2,D.ptr 0 0),(3,D.ptr 1 0)],[Ob.box [D.nil,D.nil,D.nil,D.nil,D.nil,D.int .i64 0],Ob.box [D.acc 2,D.acc 3,D.acc 4,D.acc 5,D.acc 6,D.int .i64 aB.bz],Ob.row .uq 105 4 (y1.map aO.c),Ob.row .uq 3 1 (y3.map dL),Ob.row .uq 111 3 (nu.map aP.c),Ob.row .uq 118 8 (vi.map Node.c),Ob.row .uq 53 2 (y5.map aE.c)]⟩)(hm2:aB.nodes.length<=maxLen):∀(rest:ay) (i2:Nat) (wu:ay),aB.nodes.drop i2=rest->iM aB y1 y3 y5 nu k2 rest i2 wu=some r->Ar Γ N f53 (.q [[some (105,4),some (3,1),some (111,3),some (118,8),some (53,2),none]] (D.agg [D.fr 105 4 (r.rules.map aO.c),D.fr 3 1 (r.ends.map dL),D.fr 111 3 (r.av.map aP.c),D.fr 118 8 (r.nodes.map Node.c),D.fr 53 2 (r.facts.map aE.c),D.int .i64 r.bz])) [1,1,1,0,1,0] (rest.length+1) (zE aB y1 y3 y5 nu (wu.map Node.c) (i2:Int)):=by
 intro rest
 induction rest with
 |nil=>
  intro i2 wu hd2 h;rw[iM]at h;refine aN fun N2 xa ur=>?_
  exact((aU.ge Node.c hd2).a [.hl 0 [2,3] [0,1,2,3,4,5,6]]).ex hΓ xa (Cf wu h)
 |cons lU wg ih2=>
  intro i2 wu hd2 h;rw[iM]at h;refine aN fun N2 xa ur=>?_
  obtain⟨KF,h133,h⟩:=aD h;obtain⟨a3j,h135,h⟩:=aD h;obtain⟨h136,h⟩:=bV h;exact(((((((aU.lt Node.c hd2).l (ax Node.c 8 (dc hd2) rfl)).a [.n2 [0,1,2,3,4,5,6,7,8,9,10,11,12,13,14,15,16] [0,1,2,3,4,5,6,7,8,9,10,11,12,13,14,15,16] 13 14 [0,1] [8,9]]).g (kz h133)).g (EQ h135)).w (cB h136)).a [.cn [2,3,41,42,43] [0,1,2,3,4,11,6]]).cs hΓ ur (zE aB y1 y3 y5 nu ((wu.map Node.c)++([[D.int .i64 lU.parent,D.int .i64 KF.kind,D.str KF.pat.rel,D.sl (KF.pat.args.map tx),D.str KF.left,D.str KF.right,D.int .i64 lU.cP,D.sl (a3j.map aI.c)]])) (IntKind.i64.wrap ((i2:Int)+1))) (by first| (simp only[iS hd2 hm2,mA]<;>rfl)| (simp only[iS hd2 hm2,mA,aE.c,aS.c,aQ.c,Action.c,aO.c,aI.c,cr.c,aP.c,Node.c,aF.c,cv.c]<;>rfl)) (ih2 (i2+1) (wu++([(⟨lU.parent,KF,lU.cP,a3j⟩:Node)])) (dn hd2) h)
theorem oO{aB:aF}{r:aF}(h:iq aB=some r):Good prog 53 [D.agg (aF.c aB)] (D.agg [D.fr 105 4 (r.rules.map aO.c),D.fr 3 1 (r.ends.map dL),D.fr 111 3 (r.av.map aP.c),D.fr 118 8 (r.nodes.map Node.c),D.fr 53 2 (r.facts.map aE.c),D.int .i64 r.bz]):=by
 refine gd func53 [[some (105,4),some (3,1),some (111,3),some (118,8),some (53,2),none]] 65 fun hr Γ hΓ=>?_
 rw[iq]at h;obtain⟨y1,h2,h⟩:=aD h;obtain⟨y3,h4,h⟩:=aD h;obtain⟨y5,h6,h⟩:=aD h;refine(((((aU.a [.n 13]).g (zF h2)).g (Gd h4)).g (eg h6)).a [.pb 5 2 111 3,.cn [1,2,3,21,22,23] [0,1,5,2,3,6,4]]).lp hΓ (EO hΓ (fun nu h=>?_) (by have:=(dW.sl (dW.agg (hr _ (aC (i:=0) rfl)) (.sl (aB.av.map aP.c)) (by simp))).1;simpa using this) aB.av 0 ([]:b7) rfl h);refine(aU.a [.pb 2 3 118 8,.cn [2,3,41,42,43] [1,2,3,4,5,7,6]]).lp hΓ (EP hΓ (fun vi h=>?_) (by have:=(dW.sl (dW.agg (hr _ (aC (i:=0) rfl)) (.sl (aB.nodes.map Node.c)) (by simp))).1;simpa using this) aB.nodes 0 ([]:ay) rfl h);cases h;exact aU.ret hΓ
def gC(aB:Bytes)(k1:Option Bool):Nat->Int->Option Bool
 |0,_=>none
 |n1+1,nv=>(bif decide ((nv:Int)<(aB.length:Int))then((mJ aB nv).bind fun b31=>(bif decide ((b31.toNat:Int)<97)then(bif decide ((b31.toNat:Int)<48)then(some false)else(bif decide ((b31.toNat:Int)>57)then(some false)else(gC aB k1 n1 (IntKind.i64.wrap (nv+1)))))else(bif decide ((b31.toNat:Int)>122)then(bif decide ((b31.toNat:Int)<48)then(some false)else(bif decide ((b31.toNat:Int)>57)then(some false)else(gC aB k1 n1 (IntKind.i64.wrap (nv+1)))))else(gC aB k1 n1 (IntKind.i64.wrap (nv+1))))))else(k1))
def fP(aB:Bytes):Option Bool:=(bif decide (((aB.length:Int):Int)<1)then(some false)else(bif decide (((aB.length:Int):Int)>8)then(some false)else(gC aB (some true) fuel 0)))
def OH(aB:Bytes)(nv:Int):St:=⟨[(0,D.str aB),(3,D.int .i64 nv)],[]⟩
theorem Mb(hΓ:Γ.nt=40){aB:Bytes}{r:Bool}{k1:Option Bool}(cW:k1=some r->Ax Γ N f191 (.q [[none]] (D.bool r)) [1,1,1] ⟨[],[]⟩):∀(n1:Nat) (nv:Int),gC aB k1 n1 nv=some r->Ar Γ N f191 (.q [[none]] (D.bool r)) [1,1,0,1,0] n1 (OH aB nv):=by
 intro n
 induction n with
 |zero=>intro nv h;simp[gC]at h
 |succ n1 ih1=>
  intro nv h;rw[gC]at h;refine aN fun N1 bw bg=>?_
  obtain⟨h30,h⟩|⟨h30,h⟩:=aL h
  ·obtain⟨b31,h32,h⟩:=aD h;have AV:=((aU.b h30).c h32)
   obtain⟨h33,h⟩|⟨h33,h⟩:=aL h
   ·have DC:=((((AV.r 5 h33).T 3).c h32).T 2)
    obtain⟨h34,h⟩|⟨h34,h⟩:=aL h
    ·have h:=aG h;subst h;exact((((DC.r 4 h34).T 1).b h34).T 2).ret hΓ
    ·have IA:=((((((DC.r 3 h34).c h32).b h34).T 1).b h34).T 1)
     obtain⟨h35,h⟩|⟨h35,h⟩:=aL h
     ·have h:=aG h;subst h;exact(IA.b h35).ret hΓ
     ·exact((IA.b h35).a [.cn [0,3] []]).cf hΓ bg (ih1 (IntKind.i64.wrap (nv+1)) h)
   ·have yu:=(((AV.r 3 h33).c h32).r 2 h33)
    obtain⟨h36,h⟩|⟨h36,h⟩:=aL h
    ·have D7:=(((yu.r 3 h36).c h32).r 2 h36)
     obtain⟨h37,h⟩|⟨h37,h⟩:=aL h
     ·have h:=aG h;subst h;exact(((((D7.r 4 h37).b h36).b h37).b h36).T 1).ret hΓ
     ·have BN:=((((((D7.r 3 h37).c h32).b h37).b h36).b h37).b h36)
      obtain⟨h38,h⟩|⟨h38,h⟩:=aL h
      ·have h:=aG h;subst h;exact(BN.b h38).ret hΓ
      ·exact((BN.b h38).a [.cn [0,3] []]).cf hΓ bg (ih1 (IntKind.i64.wrap (nv+1)) h)
    ·exact(((yu.r 7 h36).F 1).a [bF,bF,bF,bF,.cn [0,3] []]).cf hΓ bg (ih1 (IntKind.i64.wrap (nv+1)) h)
  ·exact((aU.b h30).a [.hl 0 [] []]).ex hΓ bw (cW h)
theorem eY{aB:Bytes}{r:Bool}(h:fP aB=some r):Good prog 191 [D.str aB] (D.bool r):=by
 refine gd func191 [[none]] 40 fun hr Γ hΓ=>?_
 rw[fP]at h;obtain⟨h1,h⟩|⟨h1,h⟩:=aL h
 ·have h:=aG h;subst h;exact((aU.r 4 h1).T 1).ret hΓ
 ·have I8:=(aU.r 4 h1)
  obtain⟨h2,h⟩|⟨h2,h⟩:=aL h
  ·have h:=aG h;subst h;exact(I8.b h2).ret hΓ
  ·refine((I8.b h2).a [.cn [0,3] []]).lp hΓ (Mb hΓ (fun h=>?_) fuel 0 h);have h:=aG h;subst h;exact aU.ret hΓ
def rq(aB:Bytes):Option Bool:=((fP aB).bind fun y1=>(bif y1 then((mJ aB 0).bind fun b4=>(some (decide ((b4.toNat:Int)>=97))))else(some false)))
theorem nA{aB:Bytes}{r:Bool}(h:rq aB=some r):Good prog 211 [D.str aB] (D.bool r):=by
 refine gd func211 [[none]] 10 fun hr Γ hΓ=>?_
 rw[rq]at h;obtain⟨y1,h2,h⟩:=aD h;obtain⟨h3,h⟩|⟨h3,h⟩:=aL h
 ·obtain⟨b4,h5,h⟩:=aD h;cases h;exact((((aU.g (eY h2)).r 2 h3).c h5).r 2 h3).ret hΓ
 ·have h:=aG h;subst h;exact((aU.g (eY h2)).r 4 h3).ret hΓ
def lX(aB:Bytes):Option Bool:=(bif decide (((aB.length:Int):Int)>1)then((mJ aB 0).bind fun b2=>(bif (b2.toNat:Int)==63 then((Pj aB.length (some (D.int .i64 1)) none).bind fun p=>(fun l5 u6=>((fP ((aB.take u6).drop l5)).bind fun y8=>(some y8))) p.1 p.2)else(some false)))else(some false))
theorem oL{aB:Bytes}{r:Bool}(h:lX aB=some r):Good prog 192 [D.str aB] (D.bool r):=by
 refine gd func192 [[none]] 16 fun hr Γ hΓ=>?_
 rw[lX]at h;obtain⟨h1,h⟩|⟨h1,h⟩:=aL h
 ·obtain⟨b2,h3,h⟩:=aD h;have kC:=(((aU.r 2 h1).c h3).r 2 h1)
  obtain⟨h4,h⟩|⟨h4,h⟩:=aL h
  ·obtain⟨⟨l5,u6⟩,h7,h⟩:=aD h;obtain⟨y8,h9,h⟩:=aD h;have h:=aG h;subst h;exact((((((kC.r 2 h4).w h7).a [.cut l5 u6]).b h4).g (eY h9)).b h4).ret hΓ
  ·have h:=aG h;subst h;exact(kC.r 4 h4).ret hΓ
 ·have h:=aG h;subst h;exact((aU.r 4 h1).F 4).ret hΓ
def jE(aB:Bytes):Option Bool:=((fP aB).bind fun y1=>(bif y1 then(some true)else((lX aB).bind fun y4=>(some y4))))
theorem kI{aB:Bytes}{r:Bool}(h:jE aB=some r):Good prog 262 [D.str aB] (D.bool r):=by
 refine gd func262 [[none]] 9 fun hr Γ hΓ=>?_
 rw[jE]at h;obtain⟨y1,h2,h⟩:=aD h;obtain⟨h3,h⟩|⟨h3,h⟩:=aL h
 ·have h:=aG h;subst h;exact((aU.g (eY h2)).r 3 h3).ret hΓ
 ·obtain⟨y4,h5,h⟩:=aD h;have h:=aG h;subst h;exact((((aU.g (eY h2)).r 2 h3).g (oL h5)).b h3).ret hΓ
def mL(aB:aE)(k1:Option Bool):aJ->Nat->Option Bool
 | [],i1=>(k1)
 |bD::bZ,i1=>((jE bD).bind fun Y0=>(bif !(Y0)then(some false)else(mL aB k1 bZ (i1+1))))
def jJ(aB:aE):Option Bool:=((rq aB.rel).bind fun y1=>(bif !(y1)then(some false)else(bif decide ((((aB.args.map tx).length:Int):Int)>3)then(some false)else(mL aB (some true) aB.args 0))))
def Io(aB:aE)(cS:Int):St:=⟨[(16,D.sl (aB.args.map tx)),(17,D.int .i64 ((aB.args.map tx).length:Int)),(18,D.int .i64 cS)],[]⟩
theorem GX(hΓ:Γ.nt=26){aB:aE}{r:Bool}{k1:Option Bool}(cW:k1=some r->Ax Γ N f261 (.q [[none]] (D.bool r)) [1,1,1] ⟨[],[]⟩)(hm1:aB.args.length<=maxLen):∀(rest:aJ) (i1:Nat),aB.args.drop i1=rest->mL aB k1 rest i1=some r->Ar Γ N f261 (.q [[none]] (D.bool r)) [1,1,0,1,0] (rest.length+1) (Io aB (i1:Int)):=by
 intro rest
 induction rest with
 |nil=>
  intro i1 aj h;rw[mL]at h;refine aN fun N1 bw bg=>?_
  exact((aU.ge tx aj).a [.hl 0 [] []]).ex hΓ bw (cW h)
 |cons bD bZ ih1=>
  intro i1 aj h;rw[mL]at h;refine aN fun N1 bw bg=>?_
  obtain⟨Y0,h26,h⟩:=aD h;have dJ:=(((aU.lt tx aj).l (ax tx 1 (dc aj) rfl)).g (kI h26))
  obtain⟨h27,h⟩|⟨h27,h⟩:=aL h
  ·have h:=aG h;subst h;exact(dJ.b h27).ret hΓ
  ·exact((dJ.b h27).a [.cn [16,17,18] []]).ct hΓ bg (iS aj hm1) (ih1 (i1+1) (dn aj) h)
theorem jy{aB:aE}{r:Bool}(h:jJ aB=some r):Good prog 261 [D.agg (aE.c aB)] (D.bool r):=by
 refine gd func261 [[none]] 26 fun hr Γ hΓ=>?_
 rw[jJ]at h;obtain⟨y1,h2,h⟩:=aD h;obtain⟨h3,h⟩|⟨h3,h⟩:=aL h
 ·have h:=aG h;subst h;exact(((aU.g (nA h2)).r 5 h3).T 1).ret hΓ
 ·have ja:=((aU.g (nA h2)).r 5 h3)
  obtain⟨h4,h⟩|⟨h4,h⟩:=aL h
  ·have h:=aG h;subst h;exact(ja.b h4).ret hΓ
  ·refine((ja.b h4).a [.cn [16,17,18] []]).lp hΓ (GX hΓ (fun h=>?_) (by have:=(dW.sl (dW.agg (hr _ (aC (i:=0) rfl)) (.sl (aB.args.map tx)) (by simp))).1;simpa using this) aB.args 0 rfl h);have h:=aG h;subst h;exact aU.ret hΓ
def iy(aB:aE):Option Bool:=(bif (aB.rel:Bytes)==([])then(some ((((aB.args.map tx).length:Int):Int)==0))else(some false))
theorem oR{aB:aE}{r:Bool}(h:iy aB=some r):Good prog 263 [D.agg (aE.c aB)] (D.bool r):=by
 refine gd func263 [[none]] 12 fun hr Γ hΓ=>?_
 rw[iy]at h;obtain⟨h1,h⟩|⟨h1,h⟩:=aL h
 ·cases h;exact(aU.r 5 h1).ret hΓ
 ·have h:=aG h;subst h;exact(aU.r 5 h1).ret hΓ
def rp(aB:aQ):Option Bool:=(bif (aB.kind:Int)==1 then((jJ aB.pat).bind fun y2=>(bif y2 then(bif (aB.left:Bytes)==([])then(some ((aB.right:Bytes)==([])))else(some false))else(some false)))else(bif (aB.kind:Int)==2 then((jJ aB.pat).bind fun y7=>(bif y7 then(bif (aB.left:Bytes)==([])then(some ((aB.right:Bytes)==([])))else(some false))else(some false)))else(bif (aB.kind:Int)==3 then((jE aB.left).bind fun y12=>(bif y12 then((jE aB.right).bind fun Xz=>(bif Xz then((iy aB.pat).bind fun y18=>(some y18))else(some false)))else(some false)))else(bif (aB.kind:Int)==4 then((jE aB.left).bind fun RZ=>(bif RZ then((jE aB.right).bind fun Rx=>(bif Rx then((iy aB.pat).bind fun q8=>(some q8))else(some false)))else(some false)))else(bif (aB.kind:Int)==5 then((jE aB.left).bind fun y30=>(bif y30 then((jE aB.right).bind fun BZ=>(bif BZ then((iy aB.pat).bind fun IK=>(some IK))else(some false)))else(some false)))else(some false))))))
theorem qO{aB:aQ}{r:Bool}(h:rp aB=some r):Good prog 212 [D.agg (aQ.c aB)] (D.bool r):=by
 refine gd func212 [[none]] 38 fun hr Γ hΓ=>?_
 rw[rp]at h;obtain⟨h1,h⟩|⟨h1,h⟩:=aL h
 ·obtain⟨y2,h3,h⟩:=aD h;have kC:=((aU.r 2 h1).g (jy h3))
  obtain⟨h4,h⟩|⟨h4,h⟩:=aL h
  ·have dJ:=(kC.r 4 h4)
   obtain⟨h5,h⟩|⟨h5,h⟩:=aL h
   ·cases h;exact(dJ.r 4 h5).ret hΓ
   ·have h:=aG h;subst h;exact(dJ.r 4 h5).ret hΓ
  ·have h:=aG h;subst h;exact((kC.r 4 h4).F 4).ret hΓ
 ·obtain⟨h6,h⟩|⟨h6,h⟩:=aL h
  ·obtain⟨y7,h8,h⟩:=aD h;have ja:=(((aU.b h1).b h6).g (jy h8))
   obtain⟨h9,h⟩|⟨h9,h⟩:=aL h
   ·have iY:=(ja.r 4 h9)
    obtain⟨h10,h⟩|⟨h10,h⟩:=aL h
    ·cases h;exact(iY.r 4 h10).ret hΓ
    ·have h:=aG h;subst h;exact(iY.r 4 h10).ret hΓ
   ·have h:=aG h;subst h;exact((ja.r 4 h9).F 4).ret hΓ
  ·have tr:=((aU.b h1).b h6)
   obtain⟨h11,h⟩|⟨h11,h⟩:=aL h
   ·obtain⟨y12,h13,h⟩:=aD h;have wX:=((tr.r 2 h11).g (kI h13))
    obtain⟨h14,h⟩|⟨h14,h⟩:=aL h
    ·obtain⟨Xz,h16,h⟩:=aD h;have AV:=(((wX.r 3 h14).g (kI h16)).b h14)
     obtain⟨h17,h⟩|⟨h17,h⟩:=aL h
     ·obtain⟨y18,h19,h⟩:=aD h;have h:=aG h;subst h;exact(((AV.r 3 h17).g (oR h19)).b h17).ret hΓ
     ·have h:=aG h;subst h;exact(AV.r 4 h17).ret hΓ
    ·have h:=aG h;subst h;exact((wX.r 4 h14).F 4).ret hΓ
   ·obtain⟨h20,h⟩|⟨h20,h⟩:=aL h
    ·obtain⟨RZ,h22,h⟩:=aD h;have DC:=(((tr.b h11).r 2 h20).g (kI h22))
     obtain⟨h23,h⟩|⟨h23,h⟩:=aL h
     ·obtain⟨Rx,h25,h⟩:=aD h;have IA:=(((DC.r 3 h23).g (kI h25)).b h23)
      obtain⟨h26,h⟩|⟨h26,h⟩:=aL h
      ·obtain⟨q8,h28,h⟩:=aD h;have h:=aG h;subst h;exact(((IA.r 3 h26).g (oR h28)).b h26).ret hΓ
      ·have h:=aG h;subst h;exact(IA.r 4 h26).ret hΓ
     ·have h:=aG h;subst h;exact((DC.r 4 h23).F 4).ret hΓ
    ·have yu:=((tr.b h11).b h20)
     obtain⟨h29,h⟩|⟨h29,h⟩:=aL h
     ·obtain⟨y30,h31,h⟩:=aD h;have D7:=((yu.b h29).g (kI h31))
      obtain⟨h32,h⟩|⟨h32,h⟩:=aL h
      ·obtain⟨BZ,h34,h⟩:=aD h;have BN:=(((D7.r 3 h32).g (kI h34)).b h32)
       obtain⟨h35,h⟩|⟨h35,h⟩:=aL h
       ·obtain⟨IK,h37,h⟩:=aD h;have h:=aG h;subst h;exact(((BN.r 3 h35).g (oR h37)).b h35).ret hΓ
       ·have h:=aG h;subst h;exact(BN.r 4 h35).ret hΓ
      ·have h:=aG h;subst h;exact((D7.r 4 h32).F 4).ret hΓ
     ·have h:=aG h;subst h;exact(yu.b h29).ret hΓ
def fp(aB:aJ)(k1:aJ->Option aJ):aJ->Nat->aJ->Option aJ
 | [],i1,bC=>(k1 bC)
 |bD::bZ,i1,bC=>((lX bD).bind fun E2=>(bif E2 then(bif room ((bC.map tx).length+([[D.str bD]]).length) 16 then(fp aB k1 bZ (i1+1) (bC++([bD])))else none)else(fp aB k1 bZ (i1+1) bC)))
def nG(aB:aJ):Option aJ:=(fp aB (fun(bP:aJ)=>(some bP)) aB 0 ([]:aJ))
def B1(aB:aJ)(W0:List aR)(cS:Int):St:=⟨[(3,D.acc 0),(6,D.sl (aB.map tx)),(7,D.int .i64 ((aB.map tx).length:Int)),(8,D.int .i64 cS)],[Ob.row .uq 9 1 W0]⟩
theorem Gq(hΓ:Γ.nt=20){aB:aJ}{r:aJ}{k1:aJ->Option aJ}(cW:∀(bP:aJ),k1 bP=some r->Ax Γ N f216 (.q [[some (9,1)]] (D.fr 9 1 (r.map tx))) [1,1,1] ⟨[(3,D.acc 0)],[Ob.row .uq 9 1 (bP.map tx)]⟩)(hm1:aB.length<=maxLen):∀(rest:aJ) (i1:Nat) (bC:aJ),aB.drop i1=rest->fp aB k1 rest i1 bC=some r->Ar Γ N f216 (.q [[some (9,1)]] (D.fr 9 1 (r.map tx))) [1,1,0,1,0] (rest.length+1) (B1 aB (bC.map tx) (i1:Int)):=by
 intro rest
 induction rest with
 |nil=>
  intro i1 bC aj h;rw[fp]at h;refine aN fun N1 bw bg=>?_
  exact((aU.ge tx aj).a [.hl 0 [3] [0]]).ex hΓ bw (cW bC h)
 |cons bD bZ ih1=>
  intro i1 bC aj h;rw[fp]at h;refine aN fun N1 bw bg=>?_
  obtain⟨E2,h33,h⟩:=aD h;have dJ:=(((aU.lt tx aj).l (ax tx 1 (dc aj) rfl)).g (oL h33))
  obtain⟨h34,h⟩|⟨h34,h⟩:=aL h
  ·obtain⟨h35,h⟩:=bV h;exact(((dJ.b h34).w (cB h35)).a [.cn [3,6,7,8] [2]]).cs hΓ bg (B1 aB ((bC.map tx)++([[D.str bD]])) (IntKind.i64.wrap ((i1:Int)+1))) (by first| (simp only[iS aj hm1,mA]<;>rfl)| (simp only[iS aj hm1,mA,aE.c,aS.c,aQ.c,Action.c,aO.c,aI.c,cr.c,aP.c,Node.c,aF.c,cv.c]<;>rfl)) (ih1 (i1+1) (bC++([bD])) (dn aj) h)
  ·exact((dJ.b h34).a [.cn [3,6,7,8] [0]]).ct hΓ bg (iS aj hm1) (ih1 (i1+1) bC (dn aj) h)
theorem vZ{aB:aJ}{r:aJ}(h:nG aB=some r):Good prog 216 [D.sl (aB.map tx)] (D.fr 9 1 (r.map tx)):=by
 refine gd func216 [[some (9,1)]] 20 fun hr Γ hΓ=>?_
 rw[nG]at h;refine(aU.a [.Pk 3,.cn [3,6,7,8] [0]]).lp hΓ (Gq hΓ (fun bP h=>?_) (by have:=(dW.sl (hr _ (aC (i:=0) rfl))).1;simpa using this) aB 0 ([]:aJ) rfl h);have h:=aG h;subst h;exact aU.ret hΓ
def e9(aB:aJ)(k1:aJ->Option aJ):aJ->Nat->aJ->Option aJ
 | [],i1,bu=>(k1 bu)
 |bD::bZ,i1,bu=>(bif ((i1:Int):Int)==0 then(bif room ((bu.map tx).length+([[D.str bD]]).length) 16 then(e9 aB k1 bZ (i1+1) (bu++([bD])))else none)else((mJ (oq (([]:aJ)++aB)) (IntKind.i64.wrap ((i1:Int)-1))).bind fun x47=>(bif !((x47:Bytes)==bD)then(bif room ((bu.map tx).length+([[D.str bD]]).length) 16 then(e9 aB k1 bZ (i1+1) (bu++([bD])))else none)else(e9 aB k1 bZ (i1+1) bu))))
def kK(aB:aJ):Option aJ:=(bif room (([]:List aR).length+(aB.map tx).length) 16 then(bif decide ((([]:aJ)++aB).length<4611686018427387904)then(bif decide ((oq (([]:aJ)++aB)).length<=maxLen)then(e9 aB (fun(bP:aJ)=>(some bP)) (oq (([]:aJ)++aB)) 0 ([]:aJ))else none)else none)else none)
def vW(aB:aJ)(W0:List aR)(cS:Int):St:=⟨[(3,D.acc 0),(4,D.acc 1),(11,D.acc 0),(12,D.int .i64 (((oq (([]:aJ)++aB)).map tx).length:Int)),(13,D.int .i64 cS)],[Ob.row .uq 9 1 ((oq (([]:aJ)++aB)).map tx),Ob.row .uq 9 1 W0]⟩
theorem EM(hΓ:Γ.nt=35){aB:aJ}{r:aJ}{k1:aJ->Option aJ}(cW:∀(bP:aJ),k1 bP=some r->Ax Γ N f218 (.q [[some (9,1)]] (D.fr 9 1 (r.map tx))) [1,1,1,1,1] ⟨[(4,D.acc 0)],[Ob.row .uq 9 1 (bP.map tx)]⟩)(hm1:(oq (([]:aJ)++aB)).length<=maxLen):∀(rest:aJ) (i1:Nat) (bu:aJ),(oq (([]:aJ)++aB)).drop i1=rest->e9 aB k1 rest i1 bu=some r->Ar Γ N f218 (.q [[some (9,1)]] (D.fr 9 1 (r.map tx))) [1,1,1,1,0,1,0] (rest.length+1) (vW aB (bu.map tx) (i1:Int)):=by
 intro rest
 induction rest with
 |nil=>
  intro i1 bu aj h;rw[e9]at h;refine aN fun N1 bw bg=>?_
  exact((aU.ge tx aj).a [.hl 0 [4] [1]]).ex hΓ bw (cW bu h)
 |cons bD bZ ih1=>
  intro i1 bu aj h;rw[e9]at h;refine aN fun N1 bw bg=>?_
  have ja:=(((aU.lt tx aj).i (pV tx 1 (dc aj))).o 1 1 .uq (dF tx (dc aj)))
  obtain⟨h45,h⟩|⟨h45,h⟩:=aL h
  ·obtain⟨h46,h⟩:=bV h;exact((((ja.r 8 h45).T 1).w (cB h46)).a [.cn [3,4,11,12,13] [0,3]]).cs hΓ bg (vW aB ((bu.map tx)++([[D.str bD]])) (IntKind.i64.wrap ((i1:Int)+1))) (by first| (simp only[iS aj hm1,mA]<;>rfl)| (simp only[iS aj hm1,mA,aE.c,aS.c,aQ.c,Action.c,aO.c,aI.c,cr.c,aP.c,Node.c,aF.c,cv.c]<;>rfl)) (ih1 (i1+1) (bu++([bD])) (dn aj) h)
  ·obtain⟨x47,h48,h⟩:=aD h;have iY:=(((((ja.r 4 h45).i (yF tx 1 h48)).b h45).o 1 1 .uq (dF tx (u9 h48))).r 3 h45)
   obtain⟨h49,h⟩|⟨h49,h⟩:=aL h
   ·obtain⟨h50,h⟩:=bV h;exact(((iY.b h49).w (cB h50)).a [.cn [3,4,11,12,13] [0,3]]).cs hΓ bg (vW aB ((bu.map tx)++([[D.str bD]])) (IntKind.i64.wrap ((i1:Int)+1))) (by first| (simp only[iS aj hm1,mA]<;>rfl)| (simp only[iS aj hm1,mA,aE.c,aS.c,aQ.c,Action.c,aO.c,aI.c,cr.c,aP.c,Node.c,aF.c,cv.c]<;>rfl)) (ih1 (i1+1) (bu++([bD])) (dn aj) h)
   ·exact((iY.b h49).a [.cn [3,4,11,12,13] [0,1]]).ct hΓ bg (iS aj hm1) (ih1 (i1+1) bu (dn aj) h)
theorem sj{aB:aJ}{r:aJ}(h:kK aB=some r):Good prog 218 [D.sl (aB.map tx)] (D.fr 9 1 (r.map tx)):=by
 refine gd func218 [[some (9,1)]] 35 fun hr Γ hΓ=>?_
 rw[kK]at h;obtain⟨h1,h⟩:=bV h;obtain⟨h2,h⟩:=bV h;obtain⟨h51,h⟩:=bV h;refine(((((aU.w (cB h1)).w (show(∀r∈(aB.map tx),r.length=1)/\(true=true->D.oB (aB.map tx)=true)from⟨by first|simp| (intro r hr;obtain⟨x,_,rfl⟩:=cJ.1 (cH (gO hr));rfl),by simp[D.oB,D.flat]⟩)).w (show(([]:List aR)++(aB.map tx)).flatten.all D.flat=true from by simpa only[bN,bH,bX]using V1 (([]:aJ)++aB))).w (show US prog 266 9 1 (([]:List aR)++(aB.map tx)) ((oq (([]:aJ)++aB)).map tx)from by simpa only[bN,bH,bX]using(Je (e:=9) (bt h2)))).a [.fl true,.mu 0 ((oq (([]:aJ)++aB)).map tx),.Pk 4,.cn [3,4,11,12,13] [0,1]]).lp hΓ (EM hΓ (fun bP h=>?_) (bt h51) (oq (([]:aJ)++aB)) 0 ([]:aJ) rfl h);have h:=aG h;subst h;exact aU.ret hΓ
def ew(aB:aO)(aV:Int)(k1:aJ->Option aJ):aq->Nat->aJ->Option aJ
 | [],i1,bC=>(k1 bC)
 |bD::bZ,i1,bC=>(bif decide (((i1:Int):Int)<aV)then(bif (bD.kind:Int)==1 then((nG bD.pat.args).bind fun Ra=>(bif room ((bC.map tx).length+(Ra.map tx).length) 16 then(ew aB aV k1 bZ (i1+1) (bC++Ra))else none))else(ew aB aV k1 bZ (i1+1) bC))else(ew aB aV k1 bZ (i1+1) bC))
def qB(aB:aO)(aV:Int):Option aJ:=(ew aB aV (fun(bP:aJ)=>((kK bP).bind fun y42=>(some y42))) aB.conds 0 ([]:aJ))
def Au(aB:aO)(aV:Int)(W0:List aR)(cS:Int):St:=⟨[(1,D.int .i64 aV),(5,D.acc 0),(9,D.sl (aB.conds.map aQ.c)),(10,D.int .i64 ((aB.conds.map aQ.c).length:Int)),(11,D.int .i64 cS)],[Ob.row .uq 9 1 W0]⟩
theorem GR(hΓ:Γ.nt=33){aB:aO}{aV:Int}{r:aJ}{k1:aJ->Option aJ}(cW:∀(bP:aJ),k1 bP=some r->Ax Γ N f214 (.q [[some (9,1)]] (D.fr 9 1 (r.map tx))) [1,1,1] ⟨[(5,D.acc 0)],[Ob.row .uq 9 1 (bP.map tx)]⟩)(hm1:aB.conds.length<=maxLen):∀(rest:aq) (i1:Nat) (bC:aJ),aB.conds.drop i1=rest->ew aB aV k1 rest i1 bC=some r->Ar Γ N f214 (.q [[some (9,1)]] (D.fr 9 1 (r.map tx))) [1,1,0,1,0] (rest.length+1) (Au aB aV (bC.map tx) (i1:Int)):=by
 intro rest
 induction rest with
 |nil=>
  intro i1 bC aj h;rw[ew]at h;refine aN fun N1 bw bg=>?_
  exact((aU.ge aQ.c aj).a [.hl 0 [5] [0]]).ex hΓ bw (cW bC h)
 |cons bD bZ ih1=>
  intro i1 bC aj h;rw[ew]at h;refine aN fun N1 bw bg=>?_
  have ja:=((aU.lt aQ.c aj).l (ax aQ.c 5 (dc aj) rfl))
  obtain⟨h37,h⟩|⟨h37,h⟩:=aL h
  ·have iY:=(ja.r 4 h37)
   obtain⟨h38,h⟩|⟨h38,h⟩:=aL h
   ·obtain⟨Ra,h40,h⟩:=aD h;obtain⟨h41,h⟩:=bV h;exact((((iY.b h38).g (vZ h40)).w (cB h41)).a [.cn [1,5,9,10,11] [3]]).cs hΓ bg (Au aB aV ((bC.map tx)++(Ra.map tx)) (IntKind.i64.wrap ((i1:Int)+1))) (by first| (simp only[iS aj hm1,mA]<;>rfl)| (simp only[iS aj hm1,mA,aE.c,aS.c,aQ.c,Action.c,aO.c,aI.c,cr.c,aP.c,Node.c,aF.c,cv.c]<;>rfl)) (ih1 (i1+1) (bC++Ra) (dn aj) h)
   ·exact((iY.b h38).a [.cn [1,5,9,10,11] [0]]).ct hΓ bg (iS aj hm1) (ih1 (i1+1) bC (dn aj) h)
  ·exact(((ja.r 4 h37).F 1).a [.cn [1,5,9,10,11] [0]]).ct hΓ bg (iS aj hm1) (ih1 (i1+1) bC (dn aj) h)
theorem zA{aB:aO}{aV:Int}{r:aJ}(h:qB aB aV=some r):Good prog 214 [D.agg (aO.c aB),D.int .i64 aV] (D.fr 9 1 (r.map tx)):=by
 refine gd func214 [[some (9,1)]] 33 fun hr Γ hΓ=>?_
 rw[qB]at h;refine(aU.a [.Pk 5,.cn [1,5,9,10,11] [1]]).lp hΓ (GR hΓ (fun bP h=>?_) (by have:=(dW.sl (dW.agg (hr _ (aC (i:=0) rfl)) (.sl (aB.conds.map aQ.c)) (by simp))).1;simpa using this) aB.conds 0 ([]:aJ) rfl h);obtain⟨y42,h43,h⟩:=aD h;have h:=aG h;subst h;exact(aU.g (sj h43)).ret hΓ
def sy(aB:aQ):Option aJ:=((nE aB.pat.args).bind fun y1=>(bif room ((y1.map tx).length+(([aB.left,aB.right]:aJ).map tx).length) 16 then(some (y1++([aB.left,aB.right]:aJ)))else none))
theorem B0{aB:aQ}{r:aJ}(h:sy aB=some r):Good prog 189 [D.agg (aQ.c aB)] (D.fr 9 1 (r.map tx)):=by
 refine gd func189 [[some (9,1)]] 13 fun hr Γ hΓ=>?_
 rw[sy]at h;obtain⟨y1,h2,h⟩:=aD h;obtain⟨h3,h⟩:=bV h;cases h;exact(((aU.a [.Pk 2,.n 9]).g (vY h2)).w (cB h3)).rts hΓ (D.fr 9 1 ((y1.map tx)++(([aB.left,aB.right]:aJ).map tx))) (by first|rfl| (simp only[mA]<;>rfl)| (simp only[cV,mA]<;>rfl))
def ou(aB:aQ):Option aJ:=((sy aB).bind fun y1=>((nG y1).bind fun y3=>((kK y3).bind fun y5=>(some y5))))
theorem wC{aB:aQ}{r:aJ}(h:ou aB=some r):Good prog 264 [D.agg (aQ.c aB)] (D.fr 9 1 (r.map tx)):=by
 refine gd func264 [[some (9,1)]] 7 fun hr Γ hΓ=>?_
 rw[ou]at h;obtain⟨y1,h2,h⟩:=aD h;obtain⟨y3,h4,h⟩:=aD h;obtain⟨y5,h6,h⟩:=aD h;have h:=aG h;subst h;exact(((aU.g (B0 h2)).g (vZ h4)).g (sj h6)).ret hΓ
def lg(aB:aJ)(aV:Bytes)(k1:Option Bool):aJ->Nat->Option Bool
 | [],i1=>(k1)
 |bD::bZ,i1=>(bif (bD:Bytes)==aV then(some true)else(lg aB aV k1 bZ (i1+1)))
def lf(aB:aJ)(aV:Bytes):Option Bool:=(lg aB aV (some false) aB 0)
def Mm(aB:aJ)(aV:Bytes)(cS:Int):St:=⟨[(1,D.str aV),(7,D.sl (aB.map tx)),(8,D.int .i64 ((aB.map tx).length:Int)),(9,D.int .i64 cS)],[]⟩
theorem Kw(hΓ:Γ.nt=17){aB:aJ}{aV:Bytes}{r:Bool}{k1:Option Bool}(cW:k1=some r->Ax Γ N f217 (.q [[none]] (D.bool r)) [1,1] ⟨[],[]⟩)(hm1:aB.length<=maxLen):∀(rest:aJ) (i1:Nat),aB.drop i1=rest->lg aB aV k1 rest i1=some r->Ar Γ N f217 (.q [[none]] (D.bool r)) [1,0,1,0] (rest.length+1) (Mm aB aV (i1:Int)):=by
 intro rest
 induction rest with
 |nil=>
  intro i1 aj h;rw[lg]at h;refine aN fun N1 bw bg=>?_
  exact((aU.ge tx aj).a [.hl 0 [] []]).ex hΓ bw (cW h)
 |cons bD bZ ih1=>
  intro i1 aj h;rw[lg]at h;refine aN fun N1 bw bg=>?_
  have dJ:=((aU.lt tx aj).l (ax tx 1 (dc aj) rfl))
  obtain⟨h13,h⟩|⟨h13,h⟩:=aL h
  ·have h:=aG h;subst h;exact(dJ.b h13).ret hΓ
  ·exact((dJ.b h13).a [.cn [1,7,8,9] []]).ct hΓ bg (iS aj hm1) (ih1 (i1+1) (dn aj) h)
theorem sN{aB:aJ}{aV:Bytes}{r:Bool}(h:lf aB aV=some r):Good prog 217 [D.sl (aB.map tx),D.str aV] (D.bool r):=by
 refine gd func217 [[none]] 17 fun hr Γ hΓ=>?_
 rw[lf]at h;refine(aU.a [.cn [1,7,8,9] []]).lp hΓ (Kw hΓ (fun h=>?_) (by have:=(dW.sl (hr _ (aC (i:=0) rfl))).1;simpa using this) aB 0 rfl h);have h:=aG h;subst h;exact aU.ret hΓ
def eM(aB:aO)(aV:Int)(cX:Bytes)(k1:Option Bool):aq->Nat->Option Bool
 | [],i1=>(k1)
 |bD::bZ,i1=>(bif ((i1:Int):Int) != aV then((ou bD).bind fun GF=>((lf GF cX).bind fun IK=>(bif IK then(some true)else(eM aB aV cX k1 bZ (i1+1)))))else(eM aB aV cX k1 bZ (i1+1)))
def fB(aB:aO)(cX:Bytes)(k2:Option Bool):c8->Nat->Option Bool
 | [],i2=>(k2)
 |lU::wg,i2=>((lf lU.pat.args cX).bind fun y59=>(bif y59 then(some true)else(fB aB cX k2 wg (i2+1))))
def lm(aB:aO)(aV:Int)(cX:Bytes):Option Bool:=(eM aB aV cX (fB aB cX (some false) aB.cu 0) aB.conds 0)
def CS(aB:aO)(aV:Int)(cX:Bytes)(cS:Int):St:=⟨[(1,D.int .i64 aV),(2,D.str cX),(3,D.ptr 0 0),(12,D.sl (aB.conds.map aQ.c)),(13,D.int .i64 ((aB.conds.map aQ.c).length:Int)),(14,D.int .i64 cS)],[Ob.box (aO.c aB)]⟩
theorem Bs(hΓ:Γ.nt=42){aB:aO}{aV:Int}{cX:Bytes}{r:Bool}{k1:Option Bool}(cW:k1=some r->Ax Γ N f265 (.q [[none]] (D.bool r)) [1,1] ⟨[(2,D.str cX),(3,D.ptr 0 0)],[Ob.box (aO.c aB)]⟩)(hm1:aB.conds.length<=maxLen):∀(rest:aq) (i1:Nat),aB.conds.drop i1=rest->eM aB aV cX k1 rest i1=some r->Ar Γ N f265 (.q [[none]] (D.bool r)) [1,0,1,0] (rest.length+1) (CS aB aV cX (i1:Int)):=by
 intro rest
 induction rest with
 |nil=>
  intro i1 aj h;rw[eM]at h;refine aN fun N1 bw bg=>?_
  exact((aU.ge aQ.c aj).a [.hl 0 [2,3] [0]]).ex hΓ bw (cW h)
 |cons bD bZ ih1=>
  intro i1 aj h;rw[eM]at h;refine aN fun N1 bw bg=>?_
  have iY:=((aU.lt aQ.c aj).l (ax aQ.c 5 (dc aj) rfl))
  obtain⟨h33,h⟩|⟨h33,h⟩:=aL h
  ·obtain⟨GF,h35,h⟩:=aD h;obtain⟨IK,h37,h⟩:=aD h;have tr:=(((((iY.r 2 h33).g (wC h35)).r 2 h33).g (sN h37)).b h33)
   obtain⟨h38,h⟩|⟨h38,h⟩:=aL h
   ·have h:=aG h;subst h;exact(tr.b h38).ret hΓ
   ·exact((tr.b h38).a [.cn [1,2,3,12,13,14] [0]]).ct hΓ bg (iS aj hm1) (ih1 (i1+1) (dn aj) h)
  ·exact(((iY.r 5 h33).F 1).a [.cn [1,2,3,12,13,14] [0]]).ct hΓ bg (iS aj hm1) (ih1 (i1+1) (dn aj) h)
def CT(aB:aO)(cX:Bytes)(cS:Int):St:=⟨[(2,D.str cX),(30,D.sl (aB.cu.map Action.c)),(31,D.int .i64 ((aB.cu.map Action.c).length:Int)),(32,D.int .i64 cS)],[]⟩
theorem Bt(hΓ:Γ.nt=42){aB:aO}{cX:Bytes}{r:Bool}{k2:Option Bool}(Cf:k2=some r->Ax Γ N f265 (.q [[none]] (D.bool r)) [1,1,1] ⟨[],[]⟩)(hm2:aB.cu.length<=maxLen):∀(rest:c8) (i2:Nat),aB.cu.drop i2=rest->fB aB cX k2 rest i2=some r->Ar Γ N f265 (.q [[none]] (D.bool r)) [1,1,0,1,0] (rest.length+1) (CT aB cX (i2:Int)):=by
 intro rest
 induction rest with
 |nil=>
  intro i2 hd2 h;rw[fB]at h;refine aN fun N2 xa ur=>?_
  exact((aU.ge Action.c hd2).a [.hl 0 [] []]).ex hΓ xa (Cf h)
 |cons lU wg ih2=>
  intro i2 hd2 h;rw[fB]at h;refine aN fun N2 xa ur=>?_
  obtain⟨y59,h60,h⟩:=aD h;have wX:=(((aU.lt Action.c hd2).l (ax Action.c 3 (dc hd2) rfl)).g (sN h60))
  obtain⟨h61,h⟩|⟨h61,h⟩:=aL h
  ·have h:=aG h;subst h;exact(wX.b h61).ret hΓ
  ·exact((wX.b h61).a [.cn [2,30,31,32] []]).ct hΓ ur (iS hd2 hm2) (ih2 (i2+1) (dn hd2) h)
theorem BJ{aB:aO}{aV:Int}{cX:Bytes}{r:Bool}(h:lm aB aV cX=some r):Good prog 265 [D.agg (aO.c aB),D.int .i64 aV,D.str cX] (D.bool r):=by
 refine gd func265 [[none]] 42 fun hr Γ hΓ=>?_
 rw[lm]at h;refine(aU.a [.cn [1,2,3,12,13,14] [0]]).lp hΓ (Bs hΓ (fun h=>?_) (by have:=(dW.sl (dW.agg (hr _ (aC (i:=0) rfl)) (.sl (aB.conds.map aQ.c)) (by simp))).1;simpa using this) aB.conds 0 rfl h);refine(aU.a [.cn [2,30,31,32] []]).lp hΓ (Bt hΓ (fun h=>?_) (by have:=(dW.sl (dW.agg (hr _ (aC (i:=0) rfl)) (.sl (aB.cu.map Action.c)) (by simp))).1;simpa using this) aB.cu 0 rfl h);have h:=aG h;subst h;exact aU.ret hΓ
def ga(aB:aO)(aV:Int)(x1:aQ)(y3:aJ)(y5:aJ)(k1:Option Bool):aJ->Nat->Option Bool
 | [],i1=>(k1)
 |bD::bZ,i1=>(bif (x1.kind:Int)==1 then(ga aB aV x1 y3 y5 k1 bZ (i1+1))else((lf y3 bD).bind fun Ia=>(bif Ia then(ga aB aV x1 y3 y5 k1 bZ (i1+1))else(bif (x1.kind:Int) != 2 then(some false)else((lm aB aV bD).bind fun y53=>(bif y53 then(some false)else(ga aB aV x1 y3 y5 k1 bZ (i1+1))))))))
def qw(aB:aO)(aV:Int):Option Bool:=((mJ aB.conds aV).bind fun x1=>((qB aB aV).bind fun y3=>((ou x1).bind fun y5=>(bif decide (y5.length<=maxLen)then(ga aB aV x1 y3 y5 (some true) y5 0)else none))))
def Kv(aB:aO)(aV:Int)(x1:aQ)(y3:aJ)(y5:aJ)(cS:Int):St:=⟨[(1,D.int .i64 aV),(2,D.ptr 0 0),(5,D.ptr 1 0),(6,D.acc 2),(18,D.acc 3),(19,D.int .i64 ((y5.map tx).length:Int)),(20,D.int .i64 cS)],[Ob.box (aO.c aB),Ob.box [D.int .i64 x1.kind,D.str x1.pat.rel,D.sl (x1.pat.args.map tx),D.str x1.left,D.str x1.right],Ob.row .uq 9 1 (y3.map tx),Ob.row .uq 9 1 (y5.map tx)]⟩
theorem Iu(hΓ:Γ.nt=42){aB:aO}{aV:Int}{x1:aQ}{y3:aJ}{y5:aJ}{r:Bool}{k1:Option Bool}(cW:k1=some r->Ax Γ N f213 (.q [[none]] (D.bool r)) [1,1,1,1] ⟨[],[]⟩)(hm1:y5.length<=maxLen):∀(rest:aJ) (i1:Nat),y5.drop i1=rest->ga aB aV x1 y3 y5 k1 rest i1=some r->Ar Γ N f213 (.q [[none]] (D.bool r)) [1,1,1,0,1,0] (rest.length+1) (Kv aB aV x1 y3 y5 (i1:Int)):=by
 intro rest
 induction rest with
 |nil=>
  intro i1 aj h;rw[ga]at h;refine aN fun N1 bw bg=>?_
  exact((aU.ge tx aj).a [.hl 0 [] []]).ex hΓ bw (cW h)
 |cons bD bZ ih1=>
  intro i1 aj h;rw[ga]at h;refine aN fun N1 bw bg=>?_
  have iY:=(((aU.lt tx aj).i (pV tx 1 (dc aj))).o 1 1 .uq (dF tx (dc aj)))
  obtain⟨h48,h⟩|⟨h48,h⟩:=aL h
  ·exact(((iY.r 4 h48).T 1).a [.cn [1,2,5,6,18,19,20] [0,1,2,3]]).ct hΓ bg (iS aj hm1) (ih1 (i1+1) (dn aj) h)
  ·obtain⟨Ia,h50,h⟩:=aD h;have tr:=(((iY.r 3 h48).g (sN h50)).b h48)
   obtain⟨h51,h⟩|⟨h51,h⟩:=aL h
   ·exact((tr.b h51).a [.cn [1,2,5,6,18,19,20] [0,1,2,3]]).ct hΓ bg (iS aj hm1) (ih1 (i1+1) (dn aj) h)
   ·obtain⟨h52,h⟩|⟨h52,h⟩:=aL h
    ·have h:=aG h;subst h;exact(((tr.b h51).r 5 h52).T 1).ret hΓ
    ·obtain⟨y53,h54,h⟩:=aD h;have wX:=((((tr.b h51).r 4 h52).g (BJ h54)).b h52)
     obtain⟨h55,h⟩|⟨h55,h⟩:=aL h
     ·have h:=aG h;subst h;exact(wX.b h55).ret hΓ
     ·exact((wX.b h55).a [.cn [1,2,5,6,18,19,20] [0,1,2,3]]).ct hΓ bg (iS aj hm1) (ih1 (i1+1) (dn aj) h)
theorem A5{aB:aO}{aV:Int}{r:Bool}(h:qw aB aV=some r):Good prog 213 [D.agg (aO.c aB),D.int .i64 aV] (D.bool r):=by
 refine gd func213 [[none]] 42 fun hr Γ hΓ=>?_
 rw[qw]at h;obtain⟨x1,h2,h⟩:=aD h;obtain⟨y3,h4,h⟩:=aD h;obtain⟨y5,h6,h⟩:=aD h;obtain⟨h56,h⟩:=bV h;refine((((aU.l (dh aQ.c 5 h2 rfl)).g (zA h4)).g (wC h6)).a [.cn [1,2,5,6,18,19,20] [0,1,2,3]]).lp hΓ (Iu hΓ (fun h=>?_) (bt h56) y5 0 rfl h);have h:=aG h;subst h;exact aU.ret hΓ
def uO(aB:Action):Option Bool:=(bif (aB.kind:Int)==1 then((jJ aB.pat).bind fun y2=>(some y2))else(bif (aB.kind:Int)==2 then((jJ aB.pat).bind fun y5=>(some y5))else(bif (aB.kind:Int)==3 then((iy aB.pat).bind fun y8=>(some y8))else(some false))))
theorem GV{aB:Action}{r:Bool}(h:uO aB=some r):Good prog 215 [D.agg (Action.c aB)] (D.bool r):=by
 refine gd func215 [[none]] 16 fun hr Γ hΓ=>?_
 rw[uO]at h;obtain⟨h1,h⟩|⟨h1,h⟩:=aL h
 ·obtain⟨y2,h3,h⟩:=aD h;have h:=aG h;subst h;exact((aU.r 2 h1).g (jy h3)).ret hΓ
 ·obtain⟨h4,h⟩|⟨h4,h⟩:=aL h
  ·obtain⟨y5,h6,h⟩:=aD h;have h:=aG h;subst h;exact(((aU.b h1).b h4).g (jy h6)).ret hΓ
  ·have kC:=((aU.b h1).b h4)
   obtain⟨h7,h⟩|⟨h7,h⟩:=aL h
   ·obtain⟨y8,h9,h⟩:=aD h;have h:=aG h;subst h;exact((kC.b h7).g (oR h9)).ret hΓ
   ·have h:=aG h;subst h;exact(kC.b h7).ret hΓ
def gQ(aB:aq)(k1:aJ->Option aJ):aq->Nat->aJ->Option aJ
 | [],i1,bC=>(k1 bC)
 |bD::bZ,i1,bC=>((ou bD).bind fun q8=>(bif room ((bC.map tx).length+(q8.map tx).length) 16 then(gQ aB k1 bZ (i1+1) (bC++q8))else none))
def rK(aB:aq):Option aJ:=(gQ aB (fun(bP:aJ)=>(some bP)) aB 0 ([]:aJ))
def A6(aB:aq)(W0:List aR)(cS:Int):St:=⟨[(3,D.acc 0),(6,D.sl (aB.map aQ.c)),(7,D.int .i64 ((aB.map aQ.c).length:Int)),(8,D.int .i64 cS)],[Ob.row .uq 9 1 W0]⟩
theorem FT(hΓ:Γ.nt=18){aB:aq}{r:aJ}{k1:aJ->Option aJ}(cW:∀(bP:aJ),k1 bP=some r->Ax Γ N f219 (.q [[some (9,1)]] (D.fr 9 1 (r.map tx))) [1,1,1] ⟨[(3,D.acc 0)],[Ob.row .uq 9 1 (bP.map tx)]⟩)(hm1:aB.length<=maxLen):∀(rest:aq) (i1:Nat) (bC:aJ),aB.drop i1=rest->gQ aB k1 rest i1 bC=some r->Ar Γ N f219 (.q [[some (9,1)]] (D.fr 9 1 (r.map tx))) [1,1,0,1,0] (rest.length+1) (A6 aB (bC.map tx) (i1:Int)):=by
 intro rest
 induction rest with
 |nil=>
  intro i1 bC aj h;rw[gQ]at h;refine aN fun N1 bw bg=>?_
  exact((aU.ge aQ.c aj).a [.hl 0 [3] [0]]).ex hΓ bw (cW bC h)
 |cons bD bZ ih1=>
  intro i1 bC aj h;rw[gQ]at h;refine aN fun N1 bw bg=>?_
  obtain⟨q8,h28,h⟩:=aD h;obtain⟨h29,h⟩:=bV h;exact(((((aU.lt aQ.c aj).l (ax aQ.c 5 (dc aj) rfl)).g (wC h28)).w (cB h29)).a [.cn [3,6,7,8] [3]]).cs hΓ bg (A6 aB ((bC.map tx)++(q8.map tx)) (IntKind.i64.wrap ((i1:Int)+1))) (by first| (simp only[iS aj hm1,mA]<;>rfl)| (simp only[iS aj hm1,mA,aE.c,aS.c,aQ.c,Action.c,aO.c,aI.c,cr.c,aP.c,Node.c,aF.c,cv.c]<;>rfl)) (ih1 (i1+1) (bC++q8) (dn aj) h)
theorem EN{aB:aq}{r:aJ}(h:rK aB=some r):Good prog 219 [D.sl (aB.map aQ.c)] (D.fr 9 1 (r.map tx)):=by
 refine gd func219 [[some (9,1)]] 18 fun hr Γ hΓ=>?_
 rw[rK]at h;refine(aU.a [.Pk 3,.cn [3,6,7,8] [0]]).lp hΓ (FT hΓ (fun bP h=>?_) (by have:=(dW.sl (hr _ (aC (i:=0) rfl))).1;simpa using this) aB 0 ([]:aJ) rfl h);have h:=aG h;subst h;exact aU.ret hΓ
def jK(aB:aO)(k1:Option Bool):aq->Nat->Option Bool
 | [],i1=>(k1)
 |bD::bZ,i1=>((rp bD).bind fun y62=>(bif !(y62)then(some false)else(bif ((i1:Int):Int)==0 then(bif (bD.kind:Int) != 1 then(some false)else((qw aB (i1:Int)).bind fun y67=>(bif !(y67)then(some false)else(jK aB k1 bZ (i1+1)))))else((qw aB (i1:Int)).bind fun y70=>(bif !(y70)then(some false)else(jK aB k1 bZ (i1+1)))))))
def nC(aB:aO)(MM:aJ)(i2:Nat)(DB:aJ)(k3:Option Bool):aJ->Nat->Option Bool
 | [],i3=>(k3)
 |WJ::UF,i3=>((lf MM WJ).bind fun aBF=>(bif !(aBF)then(some false)else(nC aB MM i2 DB k3 UF (i3+1))))
def nB(aB:aO)(MM:aJ)(k2:Option Bool):c8->Nat->Option Bool
 | [],i2=>(k2)
 |lU::wg,i2=>((uO lU).bind fun aBE=>(bif !(aBE)then(some false)else((nG lU.pat.args).bind fun DB=>(bif decide (DB.length<=maxLen)then(nC aB MM i2 DB (nB aB MM k2 wg (i2+1)) DB 0)else none))))
def xO(aB:aO):Option Bool:=((rq aB.name).bind fun y1=>(bif !(y1)then(some false)else(bif decide ((aB.prio:Int)<0)then(some false)else(bif decide ((aB.prio:Int)>9)then(some false)else(bif decide ((((aB.conds.map aQ.c).length:Int):Int)<1)then(some false)else(bif decide ((((aB.conds.map aQ.c).length:Int):Int)>4)then(some false)else(bif decide ((((aB.cu.map Action.c).length:Int):Int)<1)then(some false)else(bif decide ((((aB.cu.map Action.c).length:Int):Int)>2)then(some false)else(jK aB ((qB aB ((aB.conds.map aQ.c).length:Int)).bind fun MM=>(nB aB MM ((rK aB.conds).bind fun aBG=>((kK aBG).bind fun aBH=>(some (decide ((((aBH.map tx).length:Int):Int)<=6))))) aB.cu 0)) aB.conds 0)))))))))
def OJ(aB:aO)(cS:Int):St:=⟨[(1,D.ptr 0 0),(49,D.sl (aB.conds.map aQ.c)),(50,D.int .i64 ((aB.conds.map aQ.c).length:Int)),(51,D.int .i64 cS)],[Ob.box (aO.c aB)]⟩
theorem Md(hΓ:Γ.nt=111){aB:aO}{r:Bool}{k1:Option Bool}(cW:k1=some r->Ax Γ N f142 (.q [[none]] (D.bool r)) [1,1,1] ⟨[(1,D.ptr 0 0)],[Ob.box (aO.c aB)]⟩)(hm1:aB.conds.length<=maxLen):∀(rest:aq) (i1:Nat),aB.conds.drop i1=rest->jK aB k1 rest i1=some r->Ar Γ N f142 (.q [[none]] (D.bool r)) [1,1,0,1,0] (rest.length+1) (OJ aB (i1:Int)):=by
 intro rest
 induction rest with
 |nil=>
  intro i1 aj h;rw[jK]at h;refine aN fun N1 bw bg=>?_
  exact((aU.ge aQ.c aj).a [.hl 0 [1] [0]]).ex hΓ bw (cW h)
 |cons bD bZ ih1=>
  intro i1 aj h;rw[jK]at h;refine aN fun N1 bw bg=>?_
  obtain⟨y62,h63,h⟩:=aD h;have BN:=(((aU.lt aQ.c aj).l (ax aQ.c 5 (dc aj) rfl)).g (qO h63))
  obtain⟨h64,h⟩|⟨h64,h⟩:=aL h
  ·have h:=aG h;subst h;exact((((BN.r 3 h64).a [bF,bF,bF]).r 2 h64).T 6).ret hΓ
  ·have I8:=(BN.r 3 h64)
   obtain⟨h65,h⟩|⟨h65,h⟩:=aL h
   ·have I9:=((((I8.r 3 h65).b h64).b h65).b h64)
    obtain⟨h66,h⟩|⟨h66,h⟩:=aL h
    ·have h:=aG h;subst h;exact((I9.r 5 h66).T 1).ret hΓ
    ·obtain⟨y67,h68,h⟩:=aD h;have RA:=(((I9.r 3 h66).g (A5 h68)).r 2 h66)
     obtain⟨h69,h⟩|⟨h69,h⟩:=aL h
     ·have h:=aG h;subst h;exact(RA.b h69).ret hΓ
     ·exact((RA.b h69).a [.cn [1,49,50,51] [0]]).ct hΓ bg (iS aj hm1) (ih1 (i1+1) (dn aj) h)
   ·obtain⟨y70,h71,h⟩:=aD h;have RC:=(((((((I8.r 3 h65).b h64).b h65).b h64).F 3).g (A5 h71)).F 2)
    obtain⟨h72,h⟩|⟨h72,h⟩:=aL h
    ·have h:=aG h;subst h;exact(RC.b h72).ret hΓ
    ·exact((RC.b h72).a [.cn [1,49,50,51] [0]]).ct hΓ bg (iS aj hm1) (ih1 (i1+1) (dn aj) h)
def OK(aB:aO)(MM:aJ)(cS:Int):St:=⟨[(1,D.ptr 0 0),(5,D.acc 1),(81,D.sl (aB.cu.map Action.c)),(82,D.int .i64 ((aB.cu.map Action.c).length:Int)),(83,D.int .i64 cS)],[Ob.box (aO.c aB),Ob.row .uq 9 1 (MM.map tx)]⟩
def OL(aB:aO)(MM:aJ)(i2:Nat)(DB:aJ)(cS:Int):St:=⟨[(1,D.ptr 0 0),(5,D.acc 1),(81,D.sl (aB.cu.map Action.c)),(82,D.int .i64 ((aB.cu.map Action.c).length:Int)),(83,D.int .i64 (i2:Int)),(93,D.acc 2),(94,D.int .i64 ((DB.map tx).length:Int)),(95,D.int .i64 cS)],[Ob.box (aO.c aB),Ob.row .uq 9 1 (MM.map tx),Ob.row .uq 9 1 (DB.map tx)]⟩
theorem Mf(hΓ:Γ.nt=111){aB:aO}{MM:aJ}{i2:Nat}{DB:aJ}{r:Bool}{k3:Option Bool}(hE3:k3=some r->Ax Γ N f142 (.q [[none]] (D.bool r)) [1,1,1,1,0,1,0,0,1,1,1] ⟨[(1,D.ptr 0 0),(5,D.acc 1),(81,D.sl (aB.cu.map Action.c)),(82,D.int .i64 ((aB.cu.map Action.c).length:Int)),(83,D.int .i64 (i2:Int))],[Ob.box (aO.c aB),Ob.row .uq 9 1 (MM.map tx)]⟩)(Ww:DB.length<=maxLen):∀(rest:aJ) (i3:Nat),DB.drop i3=rest->nC aB MM i2 DB k3 rest i3=some r->Ar Γ N f142 (.q [[none]] (D.bool r)) [1,1,1,1,0,1,0,0,1,1,0,0,1,1,1,0] (rest.length+1) (OL aB MM i2 DB (i3:Int)):=by
 intro rest
 induction rest with
 |nil=>
  intro i3 BL h;rw[nC]at h;refine aN fun N3 YS TF=>?_
  exact((aU.ge tx BL).a [.hl 3 [1,5,81,82,83] [0,1]]).ex hΓ YS (hE3 h)
 |cons WJ UF ih3=>
  intro i3 BL h;rw[nC]at h;refine aN fun N3 YS TF=>?_
  obtain⟨aBF,h230,h⟩:=aD h;have aAR:=((((aU.lt tx BL).i (pV tx 1 (dc BL))).o 1 1 .uq (dF tx (dc BL))).g (sN h230))
  obtain⟨h231,h⟩|⟨h231,h⟩:=aL h
  ·have h:=aG h;subst h;exact(aAR.b h231).ret hΓ
  ·exact((aAR.b h231).a [.cn [1,5,81,82,83,93,94,95] [0,1,2]]).ct hΓ TF (iS BL Ww) (ih3 (i3+1) (dn BL) h)
theorem Me(hΓ:Γ.nt=111){aB:aO}{MM:aJ}{r:Bool}{k2:Option Bool}(Cf:k2=some r->Ax Γ N f142 (.q [[none]] (D.bool r)) [1,1,1,1,1] ⟨[(1,D.ptr 0 0)],[Ob.box (aO.c aB)]⟩)(hm2:aB.cu.length<=maxLen):∀(rest:c8) (i2:Nat),aB.cu.drop i2=rest->nB aB MM k2 rest i2=some r->Ar Γ N f142 (.q [[none]] (D.bool r)) [1,1,1,1,0,1,0] (rest.length+1) (OK aB MM (i2:Int)):=by
 intro rest
 induction rest with
 |nil=>
  intro i2 hd2 h;rw[nB]at h;refine aN fun N2 xa ur=>?_
  exact((aU.ge Action.c hd2).a [.hl 0 [1] [0]]).ex hΓ xa (Cf h)
 |cons lU wg ih2=>
  intro i2 hd2 h;rw[nB]at h;refine aN fun N2 xa ur=>?_
  obtain⟨aBE,h204,h⟩:=aD h;have aAS:=(((aU.lt Action.c hd2).l (ax Action.c 3 (dc hd2) rfl)).g (GV h204))
  obtain⟨h205,h⟩|⟨h205,h⟩:=aL h
  ·have h:=aG h;subst h;exact(aAS.b h205).ret hΓ
  ·obtain⟨DB,h207,h⟩:=aD h;obtain⟨h232,h⟩:=bV h;refine(((aAS.b h205).g (vZ h207)).a [.cn [1,5,81,82,83,93,94,95] [0,1,3]]).lp hΓ (Mf hΓ (fun h=>?_) (bt h232) DB 0 rfl h);exact(aU.a [.cn [1,5,81,82,83] [0,1]]).ct hΓ ur (iS hd2 hm2) (ih2 (i2+1) (dn hd2) h)
theorem Kp{aB:aO}{r:Bool}(h:xO aB=some r):Good prog 142 [D.agg (aO.c aB)] (D.bool r):=by
 refine gd func142 [[none]] 111 fun hr Γ hΓ=>?_
 rw[xO]at h;obtain⟨y1,h2,h⟩:=aD h;obtain⟨h3,h⟩|⟨h3,h⟩:=aL h
 ·have h:=aG h;subst h;exact(((aU.g (nA h2)).r 4 h3).T 25).ret hΓ
 ·have aAT:=((aU.g (nA h2)).r 4 h3)
  obtain⟨h4,h⟩|⟨h4,h⟩:=aL h
  ·have h:=aG h;subst h;exact((aAT.r 4 h4).T 21).ret hΓ
  ·have aAU:=(aAT.r 4 h4)
   obtain⟨h5,h⟩|⟨h5,h⟩:=aL h
   ·have h:=aG h;subst h;exact((aAU.r 5 h5).T 16).ret hΓ
   ·have aAV:=(aAU.r 5 h5)
    obtain⟨h6,h⟩|⟨h6,h⟩:=aL h
    ·have h:=aG h;subst h;exact((aAV.r 5 h6).T 11).ret hΓ
    ·have aAW:=(aAV.r 5 h6)
     obtain⟨h7,h⟩|⟨h7,h⟩:=aL h
     ·have h:=aG h;subst h;exact((aAW.r 5 h7).T 6).ret hΓ
     ·have aAX:=(aAW.r 5 h7)
      obtain⟨h8,h⟩|⟨h8,h⟩:=aL h
      ·have h:=aG h;subst h;exact((aAX.r 5 h8).T 1).ret hΓ
      ·have aAY:=(aAX.r 5 h8)
       obtain⟨h9,h⟩|⟨h9,h⟩:=aL h
       ·have h:=aG h;subst h;exact(aAY.b h9).ret hΓ
       ·refine((aAY.b h9).a [.cn [1,49,50,51] [0]]).lp hΓ (Md hΓ (fun h=>?_) (by have:=(dW.sl (dW.agg (hr _ (aC (i:=0) rfl)) (.sl (aB.conds.map aQ.c)) (by simp))).1;simpa using this) aB.conds 0 rfl h);obtain⟨MM,h74,h⟩:=aD h;refine((aU.g (zA h74)).a [.cn [1,5,81,82,83] [0,1]]).lp hΓ (Me hΓ (fun h=>?_) (by have:=(dW.sl (dW.agg (hr _ (aC (i:=0) rfl)) (.sl (aB.cu.map Action.c)) (by simp))).1;simpa using this) aB.cu 0 rfl h);obtain⟨aBG,h234,h⟩:=aD h;obtain⟨aBH,h236,h⟩:=aD h;cases h;exact((aU.g (EN h234)).g (sj h236)).ret hΓ
def kH(aB:ar)(aV:Bytes)(k1:Option Int):ar->Nat->Option Int
 | [],i1=>(k1)
 |bD::bZ,i1=>(bif (bD.name:Bytes)==aV then(some (i1:Int))else(kH aB aV k1 bZ (i1+1)))
def uN(aB:ar)(aV:Bytes):Option Int:=(kH aB aV (some (-1)) aB 0)
def Ko(aB:ar)(aV:Bytes)(cS:Int):St:=⟨[(1,D.str aV),(7,D.sl (aB.map aO.c)),(8,D.int .i64 ((aB.map aO.c).length:Int)),(9,D.int .i64 cS)],[]⟩
theorem Il(hΓ:Γ.nt=20){aB:ar}{aV:Bytes}{r:Int}{k1:Option Int}(cW:k1=some r->Ax Γ N f143 (.q [[none]] (D.int .i64 r)) [1,1] ⟨[],[]⟩)(hm1:aB.length<=maxLen):∀(rest:ar) (i1:Nat),aB.drop i1=rest->kH aB aV k1 rest i1=some r->Ar Γ N f143 (.q [[none]] (D.int .i64 r)) [1,0,1,0] (rest.length+1) (Ko aB aV (i1:Int)):=by
 intro rest
 induction rest with
 |nil=>
  intro i1 aj h;rw[kH]at h;refine aN fun N1 bw bg=>?_
  exact((aU.ge aO.c aj).a [.hl 0 [] []]).ex hΓ bw (cW h)
 |cons bD bZ ih1=>
  intro i1 aj h;rw[kH]at h;refine aN fun N1 bw bg=>?_
  have dJ:=((aU.lt aO.c aj).l (ax aO.c 4 (dc aj) rfl))
  obtain⟨h13,h⟩|⟨h13,h⟩:=aL h
  ·cases h;exact(dJ.b h13).ret hΓ
  ·exact((dJ.b h13).a [.cn [1,7,8,9] []]).ct hΓ bg (iS aj hm1) (ih1 (i1+1) (dn aj) h)
theorem GU{aB:ar}{aV:Bytes}{r:Int}(h:uN aB aV=some r):Good prog 143 [D.sl (aB.map aO.c),D.str aV] (D.int .i64 r):=by
 refine gd func143 [[none]] 20 fun hr Γ hΓ=>?_
 rw[uN]at h;refine(aU.a [.cn [1,7,8,9] []]).lp hΓ (Il hΓ (fun h=>?_) (by have:=(dW.sl (hr _ (aC (i:=0) rfl))).1;simpa using this) aB 0 rfl h);cases h;exact aU.ret hΓ
def kE(aB:ar)(k1:Option Bool):ar->Nat->Option Bool
 | [],i1=>(k1)
 |bD::bZ,i1=>((xO bD).bind fun GF=>(bif !(GF)then(some false)else((uN aB bD.name).bind fun Y1=>(bif (Y1:Int) != (i1:Int)then(some false)else(kE aB k1 bZ (i1+1))))))
def uL(aB:ar):Option Bool:=(bif decide ((((aB.map aO.c).length:Int):Int)>6)then(some false)else(kE aB (some true) aB 0))
def Kl(aB:ar)(cS:Int):St:=⟨[(0,D.sl (aB.map aO.c)),(8,D.sl (aB.map aO.c)),(9,D.int .i64 ((aB.map aO.c).length:Int)),(10,D.int .i64 cS)],[]⟩
theorem Ij(hΓ:Γ.nt=27){aB:ar}{r:Bool}{k1:Option Bool}(cW:k1=some r->Ax Γ N f82 (.q [[none]] (D.bool r)) [1,1,1] ⟨[],[]⟩)(hm1:aB.length<=maxLen):∀(rest:ar) (i1:Nat),aB.drop i1=rest->kE aB k1 rest i1=some r->Ar Γ N f82 (.q [[none]] (D.bool r)) [1,1,0,1,0] (rest.length+1) (Kl aB (i1:Int)):=by
 intro rest
 induction rest with
 |nil=>
  intro i1 aj h;rw[kE]at h;refine aN fun N1 bw bg=>?_
  exact((aU.ge aO.c aj).a [.hl 0 [] []]).ex hΓ bw (cW h)
 |cons bD bZ ih1=>
  intro i1 aj h;rw[kE]at h;refine aN fun N1 bw bg=>?_
  obtain⟨GF,h35,h⟩:=aD h;have ja:=(((aU.lt aO.c aj).l (ax aO.c 4 (dc aj) rfl)).g (Kp h35))
  obtain⟨h36,h⟩|⟨h36,h⟩:=aL h
  ·have h:=aG h;subst h;exact((ja.r 7 h36).T 1).ret hΓ
  ·obtain⟨Y1,h38,h⟩:=aD h;have iY:=(((ja.r 4 h36).g (GU h38)).r 3 h36)
   obtain⟨h39,h⟩|⟨h39,h⟩:=aL h
   ·have h:=aG h;subst h;exact(iY.b h39).ret hΓ
   ·exact((iY.b h39).a [.cn [0,8,9,10] []]).ct hΓ bg (iS aj hm1) (ih1 (i1+1) (dn aj) h)
theorem GQ{aB:ar}{r:Bool}(h:uL aB=some r):Good prog 82 [D.sl (aB.map aO.c)] (D.bool r):=by
 refine gd func82 [[none]] 27 fun hr Γ hΓ=>?_
 rw[uL]at h;obtain⟨h1,h⟩|⟨h1,h⟩:=aL h
 ·have h:=aG h;subst h;exact(aU.b h1).ret hΓ
 ·refine((aU.b h1).a [.cn [0,8,9,10] []]).lp hΓ (Ij hΓ (fun h=>?_) (by have:=(dW.sl (hr _ (aC (i:=0) rfl))).1;simpa using this) aB 0 rfl h);have h:=aG h;subst h;exact aU.ret hΓ
def qC(aB:aE)(k1:Option Bool):aJ->Nat->Option Bool
 | [],i1=>(k1)
 |bD::bZ,i1=>((fP bD).bind fun Y0=>(bif !(Y0)then(some false)else(qC aB k1 bZ (i1+1))))
def pZ(aB:aE):Option Bool:=((rq aB.rel).bind fun y1=>(bif !(y1)then(some false)else(bif decide ((((aB.args.map tx).length:Int):Int)>3)then(some false)else(qC aB (some true) aB.args 0))))
def OI(aB:aE)(cS:Int):St:=⟨[(16,D.sl (aB.args.map tx)),(17,D.int .i64 ((aB.args.map tx).length:Int)),(18,D.int .i64 cS)],[]⟩
theorem Mc(hΓ:Γ.nt=26){aB:aE}{r:Bool}{k1:Option Bool}(cW:k1=some r->Ax Γ N f144 (.q [[none]] (D.bool r)) [1,1,1] ⟨[],[]⟩)(hm1:aB.args.length<=maxLen):∀(rest:aJ) (i1:Nat),aB.args.drop i1=rest->qC aB k1 rest i1=some r->Ar Γ N f144 (.q [[none]] (D.bool r)) [1,1,0,1,0] (rest.length+1) (OI aB (i1:Int)):=by
 intro rest
 induction rest with
 |nil=>
  intro i1 aj h;rw[qC]at h;refine aN fun N1 bw bg=>?_
  exact((aU.ge tx aj).a [.hl 0 [] []]).ex hΓ bw (cW h)
 |cons bD bZ ih1=>
  intro i1 aj h;rw[qC]at h;refine aN fun N1 bw bg=>?_
  obtain⟨Y0,h26,h⟩:=aD h;have dJ:=(((aU.lt tx aj).l (ax tx 1 (dc aj) rfl)).g (eY h26))
  obtain⟨h27,h⟩|⟨h27,h⟩:=aL h
  ·have h:=aG h;subst h;exact(dJ.b h27).ret hΓ
  ·exact((dJ.b h27).a [.cn [16,17,18] []]).ct hΓ bg (iS aj hm1) (ih1 (i1+1) (dn aj) h)
theorem xw{aB:aE}{r:Bool}(h:pZ aB=some r):Good prog 144 [D.agg (aE.c aB)] (D.bool r):=by
 refine gd func144 [[none]] 26 fun hr Γ hΓ=>?_
 rw[pZ]at h;obtain⟨y1,h2,h⟩:=aD h;obtain⟨h3,h⟩|⟨h3,h⟩:=aL h
 ·have h:=aG h;subst h;exact(((aU.g (nA h2)).r 5 h3).T 1).ret hΓ
 ·have ja:=((aU.g (nA h2)).r 5 h3)
  obtain⟨h4,h⟩|⟨h4,h⟩:=aL h
  ·have h:=aG h;subst h;exact(ja.b h4).ret hΓ
  ·refine((ja.b h4).a [.cn [16,17,18] []]).lp hΓ (Mc hΓ (fun h=>?_) (by have:=(dW.sl (dW.agg (hr _ (aC (i:=0) rfl)) (.sl (aB.args.map tx)) (by simp))).1;simpa using this) aB.args 0 rfl h);have h:=aG h;subst h;exact aU.ret hΓ
def kp(aB:Int):Option Bytes:=((C6 aB).bind fun y1=>(some y1))
theorem zB{aB:Int}{r:Bytes}(h:kp aB=some r):Good prog 246 [D.int .i64 aB] (D.str r):=by
 refine gd func246 [[none]] 5 fun hr Γ hΓ=>?_
 rw[kp]at h;obtain⟨y1,h2,h⟩:=aD h;have h:=aG h;subst h;exact(aU.g (K8 h2)).ret hΓ
def mZ(aB:Bytes):Option (Int×Bool):=(bif decide (((aB.length:Int):Int)<1)then(some (0,false))else(bif decide (((aB.length:Int):Int)>4)then(some (0,false))else((C5 aB).bind fun y3=>(bif y3.2 then(some (0,false))else(bif decide ((y3.1:Int)<0)then(some (0,false))else(bif decide ((y3.1:Int)>9999)then(some (0,false))else((kp y3.1).bind fun y8=>(bif !((y8:Bytes)==aB)then(some (0,false))else(some (y3.1,true))))))))))
theorem rH{aB:Bytes}{r:Int×Bool}(h:mZ aB=some r):Good prog 268 [D.str aB] (D.gN [D.int .i64 r.1,D.bool r.2]):=by
 refine gd func268 [[none],[none]] 36 fun hr Γ hΓ=>?_
 rw[mZ]at h;obtain⟨h1,h⟩|⟨h1,h⟩:=aL h
 ·cases h;exact((aU.r 4 h1).T 1).ret hΓ
 ·have kC:=(aU.r 4 h1)
  obtain⟨h2,h⟩|⟨h2,h⟩:=aL h
  ·cases h;exact(kC.b h2).ret hΓ
  ·obtain⟨y3,h4,h⟩:=aD h;have dJ:=((kC.b h2).g (K7 h4))
   obtain⟨h5,h⟩|⟨h5,h⟩:=aL h
   ·cases h;exact((dJ.r 3 h5).T 9).ret hΓ
   ·have ja:=(dJ.r 3 h5)
    obtain⟨h6,h⟩|⟨h6,h⟩:=aL h
    ·cases h;exact((ja.r 3 h6).T 6).ret hΓ
    ·have iY:=(ja.r 3 h6)
     obtain⟨h7,h⟩|⟨h7,h⟩:=aL h
     ·cases h;exact((iY.r 5 h7).T 1).ret hΓ
     ·obtain⟨y8,h9,h⟩:=aD h;have tr:=(((iY.r 2 h7).g (zB h9)).r 3 h7)
      obtain⟨h10,h⟩|⟨h10,h⟩:=aL h
      ·cases h;exact(tr.b h10).ret hΓ
      ·cases h;exact(tr.b h10).ret hΓ
def ij(aB:Int)(aV:Int):Option Int:=(bif decide ((aB:Int)<aV)then(some (-1))else(bif decide ((aB:Int)>aV)then(some 1)else(some 0)))
theorem sn{aB:Int}{aV:Int}{r:Int}(h:ij aB aV=some r):Good prog 222 [D.int .i64 aB,D.int .i64 aV] (D.int .i64 r):=by
 refine gd func222 [[none]] 13 fun hr Γ hΓ=>?_
 rw[ij]at h;obtain⟨h1,h⟩|⟨h1,h⟩:=aL h
 ·cases h;exact(aU.b h1).ret hΓ
 ·obtain⟨h2,h⟩|⟨h2,h⟩:=aL h
  ·have h:=aG h;subst h;exact((aU.b h1).b h2).ret hΓ
  ·have h:=aG h;subst h;exact((aU.b h1).b h2).ret hΓ
def mK(aB:Bytes)(aV:Bytes):Option Int:=((mZ aB).bind fun y1=>((mZ aV).bind fun y3=>(bif y1.2 then(bif y3.2 then((ij y1.1 y3.1).bind fun y7=>(some y7))else(some (-1)))else(bif y3.2 then(some 1)else((rT aB aV).bind fun Oz=>(some Oz))))))
theorem Ct{aB:Bytes}{aV:Bytes}{r:Int}(h:mK aB aV=some r):Good prog 221 [D.str aB,D.str aV] (D.int .i64 r):=by
 refine gd func221 [[none]] 34 fun hr Γ hΓ=>?_
 rw[mK]at h;obtain⟨y1,h2,h⟩:=aD h;obtain⟨y3,h4,h⟩:=aD h;have kC:=((aU.g (rH h2)).g (rH h4))
 obtain⟨h5,h⟩|⟨h5,h⟩:=aL h
 ·have dJ:=(kC.r 2 h5)
  obtain⟨h6,h⟩|⟨h6,h⟩:=aL h
  ·obtain⟨y7,h8,h⟩:=aD h;have h:=aG h;subst h;exact((dJ.b h6).g (sn h8)).ret hΓ
  ·cases h;exact((dJ.b h6).b h5).ret hΓ
 ·have ja:=(((kC.r 2 h5).F 1).b h5)
  obtain⟨h9,h⟩|⟨h9,h⟩:=aL h
  ·have h:=aG h;subst h;exact(ja.b h9).ret hΓ
  ·obtain⟨Oz,h11,h⟩:=aD h;have h:=aG h;subst h;exact((ja.b h9).g (uH h11)).ret hΓ
def jI(aB:aE)(aV:aE)(k1:Option Int):aJ->Nat->Option Int
 | [],i1=>(k1)
 |bD::bZ,i1=>(bif decide (((i1:Int):Int)<((aV.args.map tx).length:Int))then((mJ aV.args (i1:Int)).bind fun x37=>((mK bD x37).bind fun Ra=>(bif (Ra:Int) != 0 then(some Ra)else(jI aB aV k1 bZ (i1+1)))))else(k1))
def fo(aB:aE)(aV:aE):Option Int:=((rT aB.rel aV.rel).bind fun y1=>(bif (y1:Int) != 0 then(some y1)else(jI aB aV ((ij ((aB.args.map tx).length:Int) ((aV.args.map tx).length:Int)).bind fun y42=>(some y42)) aB.args 0)))
def EG(aB:aE)(aV:aE)(cS:Int):St:=⟨[(2,D.ptr 0 0),(3,D.ptr 1 0),(6,D.int .i64 cS)],[Ob.box (aE.c aB),Ob.box (aE.c aV)]⟩
theorem DQ(hΓ:Γ.nt=51){aB:aE}{aV:aE}{r:Int}{k1:Option Int}(cW:k1=some r->Ax Γ N f145 (.q [[none]] (D.int .i64 r)) [1,1,1] ⟨[(2,D.ptr 0 0),(3,D.ptr 1 0)],[Ob.box (aE.c aB),Ob.box (aE.c aV)]⟩)(hm1:aB.args.length<=maxLen):∀(rest:aJ) (i1:Nat),aB.args.drop i1=rest->jI aB aV k1 rest i1=some r->Ar Γ N f145 (.q [[none]] (D.int .i64 r)) [1,1,0,1,0] (rest.length+1) (EG aB aV (i1:Int)):=by
 intro rest
 induction rest with
 |nil=>
  intro i1 aj h;rw[jI]at h;refine aN fun N1 bw bg=>?_
  exact((((((((aU.ge tx aj).ge tx aj).ge tx aj).ge tx aj).ge tx aj).ge tx aj).F 1).a [.hl 0 [2,3] [0,1]]).ex hΓ bw (cW h)
 |cons bD bZ ih1=>
  intro i1 aj h;rw[jI]at h;refine aN fun N1 bw bg=>?_
  have ja:=((((((aU.lt tx aj).lt tx aj).lt tx aj).lt tx aj).lt tx aj).lt tx aj)
  obtain⟨h36,h⟩|⟨h36,h⟩:=aL h
  ·obtain⟨x37,h38,h⟩:=aD h;obtain⟨Ra,h40,h⟩:=aD h;have iY:=(((((ja.b h36).a [.n 10]).l (ax tx 1 (dc aj) rfl)).l (dh tx 1 h38 rfl)).g (Ct h40))
   obtain⟨h41,h⟩|⟨h41,h⟩:=aL h
   ·have h:=aG h;subst h;exact(iY.b h41).ret hΓ
   ·exact((iY.b h41).a [.cn [2,3,6] [0,1]]).ct hΓ bg (iS aj hm1) (ih1 (i1+1) (dn aj) h)
  ·exact((ja.b h36).a [.hl 0 [2,3] [0,1]]).ex hΓ bw (cW h)
theorem rj{aB:aE}{aV:aE}{r:Int}(h:fo aB aV=some r):Good prog 145 [D.agg (aE.c aB),D.agg (aE.c aV)] (D.int .i64 r):=by
 refine gd func145 [[none]] 51 fun hr Γ hΓ=>?_
 rw[fo]at h;obtain⟨y1,h2,h⟩:=aD h;obtain⟨h3,h⟩|⟨h3,h⟩:=aL h
 ·have h:=aG h;subst h;exact((aU.g (uH h2)).b h3).ret hΓ
 ·refine(((aU.g (uH h2)).b h3).a [.cn [2,3,6] [0,1]]).lp hΓ (DQ hΓ (fun h=>?_) (by have:=(dW.sl (dW.agg (hr _ (aC (i:=0) rfl)) (.sl (aB.args.map tx)) (by simp))).1;simpa using this) aB.args 0 rfl h);obtain⟨y42,h43,h⟩:=aD h;have h:=aG h;subst h;exact(aU.g (sn h43)).ret hΓ
def ia(aB:aK)(k1:Option Bool):aK->Nat->Option Bool
 | [],i1=>(k1)
 |bD::bZ,i1=>((pZ bD).bind fun y46=>(bif !(y46)then(some false)else(bif decide (((i1:Int):Int)>0)then((mJ aB (IntKind.i64.wrap ((i1:Int)-1))).bind fun x50=>((fo x50 bD).bind fun y52=>(bif decide ((y52:Int)>=0)then(some false)else(ia aB k1 bZ (i1+1)))))else(ia aB k1 bZ (i1+1)))))
def qu(aB:aK):Option Bool:=(bif decide ((((aB.map aE.c).length:Int):Int)>24)then(some false)else(ia aB (some true) aB 0))
def Kk(aB:aK)(cS:Int):St:=⟨[(0,D.sl (aB.map aE.c)),(8,D.sl (aB.map aE.c)),(9,D.int .i64 ((aB.map aE.c).length:Int)),(10,D.int .i64 cS)],[]⟩
theorem Ii(hΓ:Γ.nt=33){aB:aK}{r:Bool}{k1:Option Bool}(cW:k1=some r->Ax Γ N f83 (.q [[none]] (D.bool r)) [1,1,1] ⟨[],[]⟩)(hm1:aB.length<=maxLen):∀(rest:aK) (i1:Nat),aB.drop i1=rest->ia aB k1 rest i1=some r->Ar Γ N f83 (.q [[none]] (D.bool r)) [1,1,0,1,0] (rest.length+1) (Kk aB (i1:Int)):=by
 intro rest
 induction rest with
 |nil=>
  intro i1 aj h;rw[ia]at h;refine aN fun N1 bw bg=>?_
  exact((aU.ge aE.c aj).a [.hl 0 [] []]).ex hΓ bw (cW h)
 |cons bD bZ ih1=>
  intro i1 aj h;rw[ia]at h;refine aN fun N1 bw bg=>?_
  obtain⟨y46,h47,h⟩:=aD h;have iY:=((((aU.lt aE.c aj).l (ax aE.c 2 (dc aj) rfl)).a [.n 13]).g (xw h47))
  obtain⟨h48,h⟩|⟨h48,h⟩:=aL h
  ·have h:=aG h;subst h;exact((((iY.r 3 h48).a [bF,bF,bF,bF,bF,bF,bF,bF]).r 2 h48).T 1).ret hΓ
  ·have tr:=(iY.r 3 h48)
   obtain⟨h49,h⟩|⟨h49,h⟩:=aL h
   ·obtain⟨x50,h51,h⟩:=aD h;obtain⟨y52,h53,h⟩:=aD h;have wX:=((((((((tr.r 4 h49).l (dh aE.c 2 h51 rfl)).r 3 h49).g (rj h53)).b h49).b h48).b h49).b h48)
    obtain⟨h54,h⟩|⟨h54,h⟩:=aL h
    ·have h:=aG h;subst h;exact(wX.b h54).ret hΓ
    ·exact((wX.b h54).a [.cn [0,8,9,10] []]).ct hΓ bg (iS aj hm1) (ih1 (i1+1) (dn aj) h)
   ·exact((((((tr.r 8 h49).b h48).b h49).b h48).F 1).a [.cn [0,8,9,10] []]).ct hΓ bg (iS aj hm1) (ih1 (i1+1) (dn aj) h)
theorem wB{aB:aK}{r:Bool}(h:qu aB=some r):Good prog 83 [D.sl (aB.map aE.c)] (D.bool r):=by
 refine gd func83 [[none]] 33 fun hr Γ hΓ=>?_
 rw[qu]at h;obtain⟨h1,h⟩|⟨h1,h⟩:=aL h
 ·have h:=aG h;subst h;exact(aU.b h1).ret hΓ
 ·refine((aU.b h1).a [.cn [0,8,9,10] []]).lp hΓ (Ii hΓ (fun h=>?_) (by have:=(dW.sl (hr _ (aC (i:=0) rfl))).1;simpa using this) aB 0 rfl h);have h:=aG h;subst h;exact aU.ret hΓ
def fI(aB:aJ)(k1:aT->Option aT):aJ->Nat->aT->List (Bytes×Bool)->Option aT
 | [],i1,bC,D6=>(k1 bC)
 |bD::bZ,i1,bC,D6=>((lX bD).bind fun y52=>(bif y52 then(bif !(Nk false bD D6)then((kp (IntKind.i64.wrap (((bC.map aS.c).length:Int)+1))).bind fun y56=>(bif decide (([63]:Bytes).length+(y56:Bytes).length<=maxLen)then(bif room ((bC.map aS.c).length+([[D.str bD,D.str (([63])++y56)]]).length) 32 then(fI aB k1 bZ (i1+1) (bC++([(⟨bD,([63])++y56⟩:aS)])) (Qy bD true D6))else none)else none))else(fI aB k1 bZ (i1+1) bC D6))else(fI aB k1 bZ (i1+1) bC D6)))
def oP(aB:aJ):Option aT:=(fI aB (fun(bP:aT)=>(some bP)) aB 0 ([]:aT) ([]:List (Bytes×Bool)))
def A8(aB:aJ)(W0:List aR)(W1:List (D×D))(cS:Int):St:=⟨[(3,D.acc 0),(4,D.acc 1),(8,D.sl (aB.map tx)),(9,D.int .i64 ((aB.map tx).length:Int)),(10,D.int .i64 cS)],[Ob.row .uq 152 2 W0,Ob.mp W1]⟩
theorem FW(hΓ:Γ.nt=36){aB:aJ}{r:aT}{k1:aT->Option aT}(cW:∀(bP:aT),k1 bP=some r->Ax Γ N f190 (.q [[some (152,2)]] (D.fr 152 2 (r.map aS.c))) [1,1,1,1] ⟨[(3,D.acc 0)],[Ob.row .uq 152 2 (bP.map aS.c)]⟩)(hm1:aB.length<=maxLen):∀(rest:aJ) (i1:Nat) (bC:aT) (D6:List (Bytes×Bool)),aB.drop i1=rest->fI aB k1 rest i1 bC D6=some r->Ar Γ N f190 (.q [[some (152,2)]] (D.fr 152 2 (r.map aS.c))) [1,1,1,0,1,0] (rest.length+1) (A8 aB (bC.map aS.c) (D6.map (kS eB)) (i1:Int)):=by
 intro rest
 induction rest with
 |nil=>
  intro i1 bC D6 aj h;rw[fI]at h;refine aN fun N1 bw bg=>?_
  exact((aU.ge tx aj).a [.hl 0 [3] [0]]).ex hΓ bw (cW bC h)
 |cons bD bZ ih1=>
  intro i1 bC D6 aj h;rw[fI]at h;refine aN fun N1 bw bg=>?_
  obtain⟨y52,h53,h⟩:=aD h;have ja:=(((aU.lt tx aj).l (ax tx 1 (dc aj) rfl)).g (oL h53))
  obtain⟨h54,h⟩|⟨h54,h⟩:=aL h
  ·have iY:=((((ja.r 3 h54).w (show plk prog 232 (D6.map (kS eB)) (D.str bD) false=some (D.bool (Nk false bD D6))from aAN (e:=eB) (z:=false) (by kernel_rfl))).a [.d (D.bool (Nk false bD D6))]).r 2 h54)
   obtain⟨h55,h⟩|⟨h55,h⟩:=aL h
   ·obtain⟨y56,h57,h⟩:=aD h;obtain⟨h58,h⟩:=bV h;obtain⟨h59,h⟩:=bV h;exact(((((((iY.b h55).w (show Nh (D.str bD) (D.bool true) (D6.map (kS eB))=some ((Qy bD true D6).map (kS eB))from a2h (e:=eB) (m:=D6))).a [.kv ((Qy bD true D6).map (kS eB))]).g (zB h57)).w (bt h58)).w (cB h59)).a [.cn [3,4,8,9,10] [3,1]]).cs hΓ bg (A8 aB ((bC.map aS.c)++([[D.str bD,D.str (([63])++y56)]])) ((Qy bD true D6).map (kS eB)) (IntKind.i64.wrap ((i1:Int)+1))) (by first| (simp only[iS aj hm1,mA]<;>rfl)| (simp only[iS aj hm1,mA,aE.c,aS.c,aQ.c,Action.c,aO.c,aI.c,cr.c,aP.c,Node.c,aF.c,cv.c]<;>rfl)) (ih1 (i1+1) (bC++([(⟨bD,([63])++y56⟩:aS)])) (Qy bD true D6) (dn aj) h)
   ·exact((iY.b h55).a [.cn [3,4,8,9,10] [0,1]]).ct hΓ bg (iS aj hm1) (ih1 (i1+1) bC D6 (dn aj) h)
  ·exact(((ja.r 5 h54).F 1).a [.cn [3,4,8,9,10] [0,1]]).ct hΓ bg (iS aj hm1) (ih1 (i1+1) bC D6 (dn aj) h)
theorem ye{aB:aJ}{r:aT}(h:oP aB=some r):Good prog 190 [D.sl (aB.map tx)] (D.fr 152 2 (r.map aS.c)):=by
 refine gd func190 [[some (152,2)]] 36 fun hr Γ hΓ=>?_
 rw[oP]at h;refine(aU.a [.Pk 3,.cn [3,4,8,9,10] [0,1]]).lp hΓ (FW hΓ (fun bP h=>?_) (by have:=(dW.sl (hr _ (aC (i:=0) rfl))).1;simpa using this) aB 0 ([]:aT) ([]:List (Bytes×Bool)) rfl h);have h:=aG h;subst h;exact aU.ret hΓ
def gP(aB:aO)(k1:aJ->Option aT):aq->Nat->aJ->Option aT
 | [],i1,bC=>(k1 bC)
 |bD::bZ,i1,bC=>((sy bD).bind fun q8=>(bif room ((bC.map tx).length+(q8.map tx).length) 16 then(gP aB k1 bZ (i1+1) (bC++q8))else none))
def rJ(aB:aO):Option aT:=(gP aB (fun(bP:aJ)=>((oP bP).bind fun y30=>(some y30))) aB.conds 0 ([]:aJ))
def zy(aB:aO)(W0:List aR)(cS:Int):St:=⟨[(3,D.acc 0),(7,D.sl (aB.conds.map aQ.c)),(8,D.int .i64 ((aB.conds.map aQ.c).length:Int)),(9,D.int .i64 cS)],[Ob.row .uq 9 1 W0]⟩
theorem FQ(hΓ:Γ.nt=20){aB:aO}{r:aT}{k1:aJ->Option aT}(cW:∀(bP:aJ),k1 bP=some r->Ax Γ N f125 (.q [[some (152,2)]] (D.fr 152 2 (r.map aS.c))) [1,1,1] ⟨[(3,D.acc 0)],[Ob.row .uq 9 1 (bP.map tx)]⟩)(hm1:aB.conds.length<=maxLen):∀(rest:aq) (i1:Nat) (bC:aJ),aB.conds.drop i1=rest->gP aB k1 rest i1 bC=some r->Ar Γ N f125 (.q [[some (152,2)]] (D.fr 152 2 (r.map aS.c))) [1,1,0,1,0] (rest.length+1) (zy aB (bC.map tx) (i1:Int)):=by
 intro rest
 induction rest with
 |nil=>
  intro i1 bC aj h;rw[gP]at h;refine aN fun N1 bw bg=>?_
  exact((aU.ge aQ.c aj).a [.hl 0 [3] [0]]).ex hΓ bw (cW bC h)
 |cons bD bZ ih1=>
  intro i1 bC aj h;rw[gP]at h;refine aN fun N1 bw bg=>?_
  obtain⟨q8,h28,h⟩:=aD h;obtain⟨h29,h⟩:=bV h;exact(((((aU.lt aQ.c aj).l (ax aQ.c 5 (dc aj) rfl)).g (B0 h28)).w (cB h29)).a [.cn [3,7,8,9] [3]]).cs hΓ bg (zy aB ((bC.map tx)++(q8.map tx)) (IntKind.i64.wrap ((i1:Int)+1))) (by first| (simp only[iS aj hm1,mA]<;>rfl)| (simp only[iS aj hm1,mA,aE.c,aS.c,aQ.c,Action.c,aO.c,aI.c,cr.c,aP.c,Node.c,aF.c,cv.c]<;>rfl)) (ih1 (i1+1) (bC++q8) (dn aj) h)
theorem EJ{aB:aO}{r:aT}(h:rJ aB=some r):Good prog 125 [D.agg (aO.c aB)] (D.fr 152 2 (r.map aS.c)):=by
 refine gd func125 [[some (152,2)]] 20 fun hr Γ hΓ=>?_
 rw[rJ]at h;refine(aU.a [.Pk 3,.cn [3,7,8,9] [1]]).lp hΓ (FQ hΓ (fun bP h=>?_) (by have:=(dW.sl (dW.agg (hr _ (aC (i:=0) rfl)) (.sl (aB.conds.map aQ.c)) (by simp))).1;simpa using this) aB.conds 0 ([]:aJ) rfl h);obtain⟨y30,h31,h⟩:=aD h;have h:=aG h;subst h;exact(aU.g (ye h31)).ret hΓ
def iN(aB:Bytes)(aV:aT)(k1:Option Bytes):aT->Nat->Option Bytes
 | [],i1=>(k1)
 |bD::bZ,i1=>(bif (bD.var:Bytes)==aB then(some bD.value)else(iN aB aV k1 bZ (i1+1)))
def iv(aB:Bytes)(aV:aT):Option Bytes:=(iN aB aV (some aB) aV 0)
def FX(aB:Bytes)(aV:aT)(cS:Int):St:=⟨[(0,D.str aB),(7,D.sl (aV.map aS.c)),(8,D.int .i64 ((aV.map aS.c).length:Int)),(9,D.int .i64 cS)],[]⟩
theorem ES(hΓ:Γ.nt=21){aB:Bytes}{aV:aT}{r:Bytes}{k1:Option Bytes}(cW:k1=some r->Ax Γ N f276 (.q [[none]] (D.str r)) [1,1] ⟨[(0,D.str aB)],[]⟩)(hm1:aV.length<=maxLen):∀(rest:aT) (i1:Nat),aV.drop i1=rest->iN aB aV k1 rest i1=some r->Ar Γ N f276 (.q [[none]] (D.str r)) [1,0,1,0] (rest.length+1) (FX aB aV (i1:Int)):=by
 intro rest
 induction rest with
 |nil=>
  intro i1 aj h;rw[iN]at h;refine aN fun N1 bw bg=>?_
  exact((aU.ge aS.c aj).a [.hl 0 [0] []]).ex hΓ bw (cW h)
 |cons bD bZ ih1=>
  intro i1 aj h;rw[iN]at h;refine aN fun N1 bw bg=>?_
  have dJ:=((aU.lt aS.c aj).l (ax aS.c 2 (dc aj) rfl))
  obtain⟨h13,h⟩|⟨h13,h⟩:=aL h
  ·cases h;exact(dJ.b h13).ret hΓ
  ·exact((dJ.b h13).a [.cn [0,7,8,9] []]).ct hΓ bg (iS aj hm1) (ih1 (i1+1) (dn aj) h)
theorem sv{aB:Bytes}{aV:aT}{r:Bytes}(h:iv aB aV=some r):Good prog 276 [D.str aB,D.sl (aV.map aS.c)] (D.str r):=by
 refine gd func276 [[none]] 21 fun hr Γ hΓ=>?_
 rw[iv]at h;refine(aU.a [.cn [0,7,8,9] []]).lp hΓ (ES hΓ (fun h=>?_) (by have:=(dW.sl (hr _ (aC (i:=1) rfl))).1;simpa using this) aV 0 rfl h);have h:=aG h;subst h;exact aU.ret hΓ
def kx(aB:aQ)(aV:aT)(y1:Bytes)(y3:Bytes)(k1:aJ->Option aQ):aJ->Nat->aJ->Option aQ
 | [],i1,fV=>(k1 fV)
 |bD::bZ,i1,fV=>((iv bD aV).bind fun Z5=>(bif room ((fV.map tx).length+([[D.str Z5]]).length) 16 then(kx aB aV y1 y3 k1 bZ (i1+1) (fV++([Z5])))else none))
def lY(aB:aQ)(aV:aT):Option aQ:=((iv aB.left aV).bind fun y1=>((iv aB.right aV).bind fun y3=>(kx aB aV y1 y3 (fun(sK:aJ)=>(some (⟨aB.kind,(⟨aB.pat.rel,sK⟩:aE),y1,y3⟩:aQ))) aB.pat.args 0 ([]:aJ))))
def zz(aB:aQ)(aV:aT)(y1:Bytes)(y3:Bytes)(W0:List aR)(cS:Int):St:=⟨[(1,D.sl (aV.map aS.c)),(4,D.ptr 0 0),(5,D.ptr 1 0),(26,D.sl (aB.pat.args.map tx)),(27,D.int .i64 ((aB.pat.args.map tx).length:Int)),(28,D.int .i64 cS)],[Ob.box [D.int .i64 0,D.str ([]),D.nil,D.str ([]),D.str ([])],Ob.box [D.int .i64 aB.kind,D.str aB.pat.rel,D.acc 2,D.str y1,D.str y3],Ob.row .uq 9 1 W0]⟩
theorem FR(hΓ:Γ.nt=44){aB:aQ}{aV:aT}{y1:Bytes}{y3:Bytes}{r:aQ}{k1:aJ->Option aQ}(cW:∀(sK:aJ),k1 sK=some r->Ax Γ N f256 (.q [[none,none,some (9,1),none,none]] (D.agg [D.int .i64 r.kind,D.str r.pat.rel,D.fr 9 1 (r.pat.args.map tx),D.str r.left,D.str r.right])) [1,1,1,1] ⟨[(4,D.ptr 0 0),(5,D.ptr 1 0)],[Ob.box [D.int .i64 0,D.str ([]),D.nil,D.str ([]),D.str ([])],Ob.box [D.int .i64 aB.kind,D.str aB.pat.rel,D.acc 2,D.str y1,D.str y3],Ob.row .uq 9 1 (sK.map tx)]⟩)(hm1:aB.pat.args.length<=maxLen):∀(rest:aJ) (i1:Nat) (fV:aJ),aB.pat.args.drop i1=rest->kx aB aV y1 y3 k1 rest i1 fV=some r->Ar Γ N f256 (.q [[none,none,some (9,1),none,none]] (D.agg [D.int .i64 r.kind,D.str r.pat.rel,D.fr 9 1 (r.pat.args.map tx),D.str r.left,D.str r.right])) [1,1,1,0,1,0] (rest.length+1) (zz aB aV y1 y3 (fV.map tx) (i1:Int)):=by
 intro rest
 induction rest with
 |nil=>
  intro i1 fV aj h;rw[kx]at h;refine aN fun N1 bw bg=>?_
  exact((aU.ge tx aj).a [.hl 0 [4,5] [0,1,2]]).ex hΓ bw (cW fV h)
 |cons bD bZ ih1=>
  intro i1 fV aj h;rw[kx]at h;refine aN fun N1 bw bg=>?_
  obtain⟨Z5,h32,h⟩:=aD h;obtain⟨h33,h⟩:=bV h;exact((((((aU.lt tx aj).l (ax tx 1 (dc aj) rfl)).a [.n 7]).g (sv h32)).w (cB h33)).a [.cn [1,4,5,26,27,28] [0,1,4]]).cs hΓ bg (zz aB aV y1 y3 ((fV.map tx)++([[D.str Z5]])) (IntKind.i64.wrap ((i1:Int)+1))) (by first| (simp only[iS aj hm1,mA]<;>rfl)| (simp only[iS aj hm1,mA,aE.c,aS.c,aQ.c,Action.c,aO.c,aI.c,cr.c,aP.c,Node.c,aF.c,cv.c]<;>rfl)) (ih1 (i1+1) (fV++([Z5])) (dn aj) h)
theorem pS{aB:aQ}{aV:aT}{r:aQ}(h:lY aB aV=some r):Good prog 256 [D.agg (aQ.c aB),D.sl (aV.map aS.c)] (D.agg [D.int .i64 r.kind,D.str r.pat.rel,D.fr 9 1 (r.pat.args.map tx),D.str r.left,D.str r.right]):=by
 refine gd func256 [[none,none,some (9,1),none,none]] 44 fun hr Γ hΓ=>?_
 rw[lY]at h;obtain⟨y1,h2,h⟩:=aD h;obtain⟨y3,h4,h⟩:=aD h;refine((((aU.a [.n 12]).g (sv h2)).g (sv h4)).a [.pb 2 2 9 1,.cn [1,4,5,26,27,28] [1,2,3]]).lp hΓ (FR hΓ (fun sK h=>?_) (by have:=(dW.sl (dW.agg (hr _ (aC (i:=0) rfl)) (.sl (aB.pat.args.map tx)) (by simp))).1;simpa using this) aB.pat.args 0 ([]:aJ) rfl h);cases h;exact aU.ret hΓ
def kw(aB:aO)(y1:aT)(k1:aq->Option aq):aq->Nat->aq->Option aq
 | [],i1,bu=>(k1 bu)
 |bD::bZ,i1,bu=>((lY bD y1).bind fun IJ=>(bif room ((bu.map aQ.c).length+([[D.int .i64 IJ.kind,D.str IJ.pat.rel,D.sl (IJ.pat.args.map tx),D.str IJ.left,D.str IJ.right]]).length) 80 then(kw aB y1 k1 bZ (i1+1) (bu++([IJ])))else none))
def rI(aB:aO):Option aq:=((rJ aB).bind fun y1=>(kw aB y1 (fun(bP:aq)=>(some bP)) aB.conds 0 ([]:aq)))
def zx(aB:aO)(y1:aT)(W0:List aR)(cS:Int):St:=⟨[(3,D.acc 0),(4,D.acc 1),(10,D.sl (aB.conds.map aQ.c)),(11,D.int .i64 ((aB.conds.map aQ.c).length:Int)),(12,D.int .i64 cS)],[Ob.row .uq 152 2 (y1.map aS.c),Ob.row .uq 115 5 W0]⟩
theorem FP(hΓ:Γ.nt=24){aB:aO}{y1:aT}{r:aq}{k1:aq->Option aq}(cW:∀(bP:aq),k1 bP=some r->Ax Γ N f200 (.q [[some (115,5)]] (D.fr 115 5 (r.map aQ.c))) [1,1,1,1] ⟨[(4,D.acc 0)],[Ob.row .uq 115 5 (bP.map aQ.c)]⟩)(hm1:aB.conds.length<=maxLen):∀(rest:aq) (i1:Nat) (bu:aq),aB.conds.drop i1=rest->kw aB y1 k1 rest i1 bu=some r->Ar Γ N f200 (.q [[some (115,5)]] (D.fr 115 5 (r.map aQ.c))) [1,1,1,0,1,0] (rest.length+1) (zx aB y1 (bu.map aQ.c) (i1:Int)):=by
 intro rest
 induction rest with
 |nil=>
  intro i1 bu aj h;rw[kw]at h;refine aN fun N1 bw bg=>?_
  exact((aU.ge aQ.c aj).a [.hl 0 [4] [1]]).ex hΓ bw (cW bu h)
 |cons bD bZ ih1=>
  intro i1 bu aj h;rw[kw]at h;refine aN fun N1 bw bg=>?_
  obtain⟨IJ,h30,h⟩:=aD h;obtain⟨h31,h⟩:=bV h;exact(((((aU.lt aQ.c aj).l (ax aQ.c 5 (dc aj) rfl)).g (pS h30)).w (cB h31)).a [.cn [3,4,10,11,12] [0,5]]).cs hΓ bg (zx aB y1 ((bu.map aQ.c)++([[D.int .i64 IJ.kind,D.str IJ.pat.rel,D.sl (IJ.pat.args.map tx),D.str IJ.left,D.str IJ.right]])) (IntKind.i64.wrap ((i1:Int)+1))) (by first| (simp only[iS aj hm1,mA]<;>rfl)| (simp only[iS aj hm1,mA,aE.c,aS.c,aQ.c,Action.c,aO.c,aI.c,cr.c,aP.c,Node.c,aF.c,cv.c]<;>rfl)) (ih1 (i1+1) (bu++([IJ])) (dn aj) h)
theorem EI{aB:aO}{r:aq}(h:rI aB=some r):Good prog 200 [D.agg (aO.c aB)] (D.fr 115 5 (r.map aQ.c)):=by
 refine gd func200 [[some (115,5)]] 24 fun hr Γ hΓ=>?_
 rw[rI]at h;obtain⟨y1,h2,h⟩:=aD h;refine((aU.g (EJ h2)).a [.Pk 4,.cn [3,4,10,11,12] [1,2]]).lp hΓ (FP hΓ (fun bP h=>?_) (by have:=(dW.sl (dW.agg (hr _ (aC (i:=0) rfl)) (.sl (aB.conds.map aQ.c)) (by simp))).1;simpa using this) aB.conds 0 ([]:aq) rfl h);have h:=aG h;subst h;exact aU.ret hΓ
def mR(aB:aJ)(aV:aJ)(k1:Option Bool):aJ->Nat->Option Bool
 | [],i1=>(k1)
 |bD::bZ,i1=>((mJ aV (i1:Int)).bind fun x22=>(bif !((bD:Bytes)==x22)then(some false)else(mR aB aV k1 bZ (i1+1))))
def qF(aB:aJ)(aV:aJ):Option Bool:=(bif (((aB.map tx).length:Int):Int) != ((aV.map tx).length:Int)then(some false)else(mR aB aV (some true) aB 0))
def J1(aB:aJ)(aV:aJ)(cS:Int):St:=⟨[(0,D.sl (aB.map tx)),(1,D.sl (aV.map tx)),(12,D.int .i64 ((aB.map tx).length:Int)),(13,D.int .i64 cS)],[]⟩
theorem Gk(hΓ:Γ.nt=26){aB:aJ}{aV:aJ}{r:Bool}{k1:Option Bool}(cW:k1=some r->Ax Γ N f232 (.q [[none]] (D.bool r)) [1,1,1] ⟨[],[]⟩)(hm1:aB.length<=maxLen):∀(rest:aJ) (i1:Nat),aB.drop i1=rest->mR aB aV k1 rest i1=some r->Ar Γ N f232 (.q [[none]] (D.bool r)) [1,1,0,1,0] (rest.length+1) (J1 aB aV (i1:Int)):=by
 intro rest
 induction rest with
 |nil=>
  intro i1 aj h;rw[mR]at h;refine aN fun N1 bw bg=>?_
  exact((aU.ge tx aj).a [.hl 0 [] []]).ex hΓ bw (cW h)
 |cons bD bZ ih1=>
  intro i1 aj h;rw[mR]at h;refine aN fun N1 bw bg=>?_
  obtain⟨x22,h23,h⟩:=aD h;have dJ:=((((aU.lt tx aj).a [.n 8]).l (ax tx 1 (dc aj) rfl)).l (dh tx 1 h23 rfl))
  obtain⟨h24,h⟩|⟨h24,h⟩:=aL h
  ·have h:=aG h;subst h;exact(dJ.b h24).ret hΓ
  ·exact((dJ.b h24).a [.cn [0,1,12,13] []]).ct hΓ bg (iS aj hm1) (ih1 (i1+1) (dn aj) h)
theorem zH{aB:aJ}{aV:aJ}{r:Bool}(h:qF aB aV=some r):Good prog 232 [D.sl (aB.map tx),D.sl (aV.map tx)] (D.bool r):=by
 refine gd func232 [[none]] 26 fun hr Γ hΓ=>?_
 rw[qF]at h;obtain⟨h1,h⟩|⟨h1,h⟩:=aL h
 ·have h:=aG h;subst h;exact(aU.b h1).ret hΓ
 ·refine((aU.b h1).a [.cn [0,1,12,13] []]).lp hΓ (Gk hΓ (fun h=>?_) (by have:=(dW.sl (hr _ (aC (i:=0) rfl))).1;simpa using this) aB 0 rfl h);have h:=aG h;subst h;exact aU.ret hΓ
def fQ(aB:aE)(aV:aE):Option Bool:=(bif (aB.rel:Bytes)==aV.rel then((qF aB.args aV.args).bind fun y2=>(some y2))else(some false))
theorem oM{aB:aE}{aV:aE}{r:Bool}(h:fQ aB aV=some r):Good prog 159 [D.agg (aE.c aB),D.agg (aE.c aV)] (D.bool r):=by
 refine gd func159 [[none]] 17 fun hr Γ hΓ=>?_
 rw[fQ]at h;obtain⟨h1,h⟩|⟨h1,h⟩:=aL h
 ·obtain⟨y2,h3,h⟩:=aD h;have h:=aG h;subst h;exact(((aU.r 5 h1).g (zH h3)).b h1).ret hΓ
 ·have h:=aG h;subst h;exact(aU.r 6 h1).ret hΓ
def kA(aB:aQ)(aV:aQ):Option Bool:=(bif (aB.kind:Int)==aV.kind then(bif (aB.left:Bytes)==aV.left then(bif (aB.right:Bytes)==aV.right then((fQ aB.pat aV.pat).bind fun y4=>(some y4))else(some false))else(some false))else(some false))
theorem wD{aB:aQ}{aV:aQ}{r:Bool}(h:kA aB aV=some r):Good prog 160 [D.agg (aQ.c aB),D.agg (aQ.c aV)] (D.bool r):=by
 refine gd func160 [[none]] 31 fun hr Γ hΓ=>?_
 rw[kA]at h;obtain⟨h1,h⟩|⟨h1,h⟩:=aL h
 ·have kC:=(aU.r 6 h1)
  obtain⟨h2,h⟩|⟨h2,h⟩:=aL h
  ·have dJ:=(kC.r 6 h2)
   obtain⟨h3,h⟩|⟨h3,h⟩:=aL h
   ·obtain⟨y4,h5,h⟩:=aD h;have h:=aG h;subst h;exact(((dJ.r 5 h3).g (oM h5)).b h3).ret hΓ
   ·have h:=aG h;subst h;exact(dJ.r 6 h3).ret hΓ
  ·have h:=aG h;subst h;exact((kC.r 6 h2).F 6).ret hΓ
 ·have h:=aG h;subst h;exact((aU.r 6 h1).F 12).ret hΓ
def si(aB:aE):Option aE:=((oP aB.args).bind fun y1=>((lY (⟨0,aB,[],[]⟩:aQ) y1).bind fun y3=>(some y3.pat)))
theorem Av{aB:aE}{r:aE}(h:si aB=some r):Good prog 258 [D.agg (aE.c aB)] (D.agg [D.str r.rel,D.fr 9 1 (r.args.map tx)]):=by
 refine gd func258 [[none,some (9,1)]] 10 fun hr Γ hΓ=>?_
 rw[si]at h;obtain⟨y1,h2,h⟩:=aD h;obtain⟨y3,h4,h⟩:=aD h;cases h;exact((((aU.a [.n 5]).g (ye h2)).a [.d (D.agg [D.int .i64 y3.kind,D.str y3.pat.rel,D.fr 9 1 (y3.pat.args.map tx),D.str y3.left,D.str y3.right])]).w (show Good prog 256 [D.agg [D.int .i64 0,D.str aB.rel,D.sl (aB.args.map tx),D.str ([]),D.str ([])],D.sl (y1.map aS.c)] (D.agg [D.int .i64 y3.kind,D.str y3.pat.rel,D.fr 9 1 (y3.pat.args.map tx),D.str y3.left,D.str y3.right])from by first| (simpa only[bN,bH,bX,dB,dA]using pS h4)|exact pS h4| (have t:=pS h4;simp only[bN,dB,dA,aQ.c]at t;exact t))).ret hΓ
def eX(aB:aF)(aV:aE)(k1:Option (aF×Int)):b7->Nat->Option (aF×Int)
 | [],i1=>(k1)
 |bD::bZ,i1=>((fQ bD.shape aV).bind fun lS=>(bif lS then(some (aB,(i1:Int)))else(eX aB aV k1 bZ (i1+1))))
def iV(aB:aF)(aV:aE):Option (aF×Int):=(bif decide (aB.av.length<=maxLen)then(eX aB aV (bif room ((aB.av.map aP.c).length+([[D.str aV.rel,D.sl (aV.args.map tx),D.sl ([])]]).length) 64 then(some ((⟨aB.rules,aB.ends,aB.av++([(⟨aV,[]⟩:aP)]),aB.nodes,aB.facts,aB.bz⟩:aF),IntKind.i64.wrap ((((aB.av.map aP.c)++([[D.str aV.rel,D.sl (aV.args.map tx),D.sl ([])]])).length:Int)-1)))else none) aB.av 0)else none)
def Bl(fM:Value)(aB:aF)(aV:aE)(cS:Int):St:=⟨[(0,D.ptr 0 0),(3,D.ptr 1 0),(10,D.acc 2),(11,D.int .i64 ((aB.av.map aP.c).length:Int)),(12,D.int .i64 cS)],[Ob.Ph [D.acc 3,D.acc 4,D.acc 2,D.acc 5,D.acc 6,D.int .i64 aB.bz] fM,Ob.box [D.str aV.rel,D.acc 7],Ob.row .uq 111 3 (aB.av.map aP.c),Ob.row .uq 105 4 (aB.rules.map aO.c),Ob.row .uq 3 1 (aB.ends.map dL),Ob.row .uq 118 8 (aB.nodes.map Node.c),Ob.row .uq 53 2 (aB.facts.map aE.c),Ob.row .uq 9 1 (aV.args.map tx)]⟩
theorem BG(hΓ:Γ.nt=40){fM:Value}{aB:aF}{aV:aE}{r:aF×Int}{k1:Option (aF×Int)}(cW:k1=some r->Ax Γ N f257 (.p [[some (105,4),some (3,1),some (111,3),some (118,8),some (53,2),none],[none]] fM (cV r.1) (D.int .i64 r.2)) [1,1] ⟨[(0,D.ptr 0 0),(3,D.ptr 1 0)],[Ob.Ph [D.acc 2,D.acc 3,D.acc 4,D.acc 5,D.acc 6,D.int .i64 aB.bz] fM,Ob.box [D.str aV.rel,D.acc 7],Ob.row .uq 105 4 (aB.rules.map aO.c),Ob.row .uq 3 1 (aB.ends.map dL),Ob.row .uq 111 3 (aB.av.map aP.c),Ob.row .uq 118 8 (aB.nodes.map Node.c),Ob.row .uq 53 2 (aB.facts.map aE.c),Ob.row .uq 9 1 (aV.args.map tx)]⟩)(hm1:aB.av.length<=maxLen):∀(rest:b7) (i1:Nat),aB.av.drop i1=rest->eX aB aV k1 rest i1=some r->Ar Γ N f257 (.p [[some (105,4),some (3,1),some (111,3),some (118,8),some (53,2),none],[none]] fM (cV r.1) (D.int .i64 r.2)) [1,0,1,0] (rest.length+1) (Bl fM aB aV (i1:Int)):=by
 intro rest
 induction rest with
 |nil=>
  intro i1 aj h;rw[eX]at h;refine aN fun N1 bw bg=>?_
  exact((aU.ge aP.c aj).a [.hl 0 [0,3] [0,1,3,4,2,5,6,7]]).ex hΓ bw (cW h)
 |cons bD bZ ih1=>
  intro i1 aj h;rw[eX]at h;refine aN fun N1 bw bg=>?_
  obtain⟨lS,h23,h⟩:=aD h;have dJ:=((((aU.lt aP.c aj).i (pV aP.c 3 (dc aj))).o 3 3 .uq (dF aP.c (dc aj))).g (oM h23))
  obtain⟨h24,h⟩|⟨h24,h⟩:=aL h
  ·cases h;exact(dJ.b h24).ret hΓ
  ·exact((dJ.b h24).a [.cn [0,3,10,11,12] [0,1,2,3,4,5,6,7]]).ct hΓ bg (iS aj hm1) (ih1 (i1+1) (dn aj) h)
theorem uK{aB:aF}{aV:aE}{r:aF×Int}(h:iV aB aV=some r):Be prog 257 (cV aB) (cV r.1) [D.agg [D.str aV.rel,D.fr 9 1 (aV.args.map tx)]] (D.int .i64 r.2):=by
 refine gdP func257 [[some (105,4),some (3,1),some (111,3),some (118,8),some (53,2),none],[none]] 40 [D.acc 1,D.acc 2,D.acc 3,D.acc 4,D.acc 5,D.int .i64 aB.bz] [D.agg [D.str aV.rel,D.acc 6]] [Ob.row .uq 105 4 (aB.rules.map aO.c),Ob.row .uq 3 1 (aB.ends.map dL),Ob.row .uq 111 3 (aB.av.map aP.c),Ob.row .uq 118 8 (aB.nodes.map Node.c),Ob.row .uq 53 2 (aB.facts.map aE.c),Ob.row .uq 9 1 (aV.args.map tx)] fun hr fM Γ hΓ=>?_
 rw[iV]at h;obtain⟨h27,h⟩:=bV h;refine(aU.a [.cn [0,3,10,11,12] [0,7,3,1,2,4,5,6]]).lp hΓ (BG hΓ (fun h=>?_) (bt h27) aB.av 0 rfl h);obtain⟨h26,h⟩:=bV h;cases h;exact((aU.w (cB h26)).a [.n2 [0,1,2,3,4,5,6,7,8,9,10,11] [0,1,2,3,4,5,6,7,8,9,10,11] 7 9 [0,1,2,3,4] [4,7,8]]).rts hΓ (D.gN [D.int .i64 (IntKind.i64.wrap ((((aB.av.map aP.c)++([[D.str aV.rel,D.sl (aV.args.map tx),D.sl ([])]])).length:Int)-1)),D.agg [D.fr 105 4 (aB.rules.map aO.c),D.fr 3 1 (aB.ends.map dL),D.fr 111 3 ((aB.av.map aP.c)++([[D.str aV.rel,D.sl (aV.args.map tx),D.sl ([])]])),D.fr 118 8 (aB.nodes.map Node.c),D.fr 53 2 (aB.facts.map aE.c),D.int .i64 aB.bz],D.val fM]) (by first|rfl| (simp only[mA]<;>rfl)| (simp only[cV,mA]<;>rfl))
def dD(aB:aF)(aV:Int)(cX:aQ)(k1:Option (aF×Int)):ay->Nat->Option (aF×Int)
 | [],i1=>(k1)
 |bD::bZ,i1=>(bif decide (((i1:Int):Int)>0)then(bif (bD.parent:Int)==aV then((kA bD.cond cX).bind fun E2=>(bif E2 then(some (aB,(i1:Int)))else(dD aB aV cX k1 bZ (i1+1))))else(dD aB aV cX k1 bZ (i1+1)))else(dD aB aV cX k1 bZ (i1+1)))
def kn(aB:aF)(aV:Int)(cX:aQ):Option (aF×Int):=(bif decide (aB.nodes.length<=maxLen)then(dD aB aV cX (bif (cX.kind:Int)==1 then((si cX.pat).bind fun IK=>((iV aB IK).bind fun OA=>((fE cX).bind fun FF=>(bif room ((OA.1.nodes.map Node.c).length+([[D.int .i64 aV,D.int .i64 FF.kind,D.str FF.pat.rel,D.sl (FF.pat.args.map tx),D.str FF.left,D.str FF.right,D.int .i64 OA.2,D.sl ([])]]).length) 120 then(some ((⟨OA.1.rules,OA.1.ends,OA.1.av,OA.1.nodes++([(⟨aV,FF,OA.2,[]⟩:Node)]),OA.1.facts,OA.1.bz⟩:aF),IntKind.i64.wrap ((((OA.1.nodes.map Node.c)++([[D.int .i64 aV,D.int .i64 FF.kind,D.str FF.pat.rel,D.sl (FF.pat.args.map tx),D.str FF.left,D.str FF.right,D.int .i64 OA.2,D.sl ([])]])).length:Int)-1)))else none))))else(bif (cX.kind:Int)==2 then((si cX.pat).bind fun W8=>((iV aB W8).bind fun Ia=>((fE cX).bind fun Pq=>(bif room ((Ia.1.nodes.map Node.c).length+([[D.int .i64 aV,D.int .i64 Pq.kind,D.str Pq.pat.rel,D.sl (Pq.pat.args.map tx),D.str Pq.left,D.str Pq.right,D.int .i64 Ia.2,D.sl ([])]]).length) 120 then(some ((⟨Ia.1.rules,Ia.1.ends,Ia.1.av,Ia.1.nodes++([(⟨aV,Pq,Ia.2,[]⟩:Node)]),Ia.1.facts,Ia.1.bz⟩:aF),IntKind.i64.wrap ((((Ia.1.nodes.map Node.c)++([[D.int .i64 aV,D.int .i64 Pq.kind,D.str Pq.pat.rel,D.sl (Pq.pat.args.map tx),D.str Pq.left,D.str Pq.right,D.int .i64 Ia.2,D.sl ([])]])).length:Int)-1)))else none))))else((fE cX).bind fun Re=>(bif room ((aB.nodes.map Node.c).length+([[D.int .i64 aV,D.int .i64 Re.kind,D.str Re.pat.rel,D.sl (Re.pat.args.map tx),D.str Re.left,D.str Re.right,D.int .i64 (-1),D.sl ([])]]).length) 120 then(some ((⟨aB.rules,aB.ends,aB.av,aB.nodes++([(⟨aV,Re, -1,[]⟩:Node)]),aB.facts,aB.bz⟩:aF),IntKind.i64.wrap ((((aB.nodes.map Node.c)++([[D.int .i64 aV,D.int .i64 Re.kind,D.str Re.pat.rel,D.sl (Re.pat.args.map tx),D.str Re.left,D.str Re.right,D.int .i64 (-1),D.sl ([])]])).length:Int)-1)))else none)))) aB.nodes 0)else none)
def Bm(fM:Value)(aB:aF)(aV:Int)(cX:aQ)(cS:Int):St:=⟨[(0,D.ptr 0 0),(1,D.int .i64 aV),(5,D.ptr 1 0),(13,D.acc 2),(14,D.int .i64 ((aB.nodes.map Node.c).length:Int)),(15,D.int .i64 cS)],[Ob.Ph [D.acc 3,D.acc 4,D.acc 5,D.acc 2,D.acc 6,D.int .i64 aB.bz] fM,Ob.box (aQ.c cX),Ob.row .uq 118 8 (aB.nodes.map Node.c),Ob.row .uq 105 4 (aB.rules.map aO.c),Ob.row .uq 3 1 (aB.ends.map dL),Ob.row .uq 111 3 (aB.av.map aP.c),Ob.row .uq 53 2 (aB.facts.map aE.c)]⟩
theorem BH(hΓ:Γ.nt=69){fM:Value}{aB:aF}{aV:Int}{cX:aQ}{r:aF×Int}{k1:Option (aF×Int)}(cW:k1=some r->Ax Γ N f201 (.p [[some (105,4),some (3,1),some (111,3),some (118,8),some (53,2),none],[none]] fM (cV r.1) (D.int .i64 r.2)) [1,1] ⟨[(0,D.ptr 0 0),(1,D.int .i64 aV),(5,D.ptr 1 0)],[Ob.Ph [D.acc 2,D.acc 3,D.acc 4,D.acc 5,D.acc 6,D.int .i64 aB.bz] fM,Ob.box (aQ.c cX),Ob.row .uq 105 4 (aB.rules.map aO.c),Ob.row .uq 3 1 (aB.ends.map dL),Ob.row .uq 111 3 (aB.av.map aP.c),Ob.row .uq 118 8 (aB.nodes.map Node.c),Ob.row .uq 53 2 (aB.facts.map aE.c)]⟩)(hm1:aB.nodes.length<=maxLen):∀(rest:ay) (i1:Nat),aB.nodes.drop i1=rest->dD aB aV cX k1 rest i1=some r->Ar Γ N f201 (.p [[some (105,4),some (3,1),some (111,3),some (118,8),some (53,2),none],[none]] fM (cV r.1) (D.int .i64 r.2)) [1,0,1,0] (rest.length+1) (Bm fM aB aV cX (i1:Int)):=by
 intro rest
 induction rest with
 |nil=>
  intro i1 aj h;rw[dD]at h;refine aN fun N1 bw bg=>?_
  exact((aU.ge Node.c aj).a [.hl 0 [0,1,5] [0,1,3,4,5,2,6]]).ex hΓ bw (cW h)
 |cons bD bZ ih1=>
  intro i1 aj h;rw[dD]at h;refine aN fun N1 bw bg=>?_
  have iY:=(((aU.lt Node.c aj).i (pV Node.c 8 (dc aj))).o 8 8 .uq (dF Node.c (dc aj)))
  obtain⟨h30,h⟩|⟨h30,h⟩:=aL h
  ·have tr:=(iY.r 5 h30)
   obtain⟨h31,h⟩|⟨h31,h⟩:=aL h
   ·obtain⟨E2,h33,h⟩:=aD h;have wX:=(((tr.r 4 h31).g (wD h33)).b h31)
    obtain⟨h34,h⟩|⟨h34,h⟩:=aL h
    ·cases h;exact(wX.b h34).ret hΓ
    ·exact((wX.b h34).a [.cn [0,1,5,13,14,15] [0,1,2,3,4,5,6]]).ct hΓ bg (iS aj hm1) (ih1 (i1+1) (dn aj) h)
   ·exact(((tr.r 5 h31).F 1).a [.cn [0,1,5,13,14,15] [0,1,2,3,4,5,6]]).ct hΓ bg (iS aj hm1) (ih1 (i1+1) (dn aj) h)
  ·exact(((iY.r 5 h30).F 6).a [.cn [0,1,5,13,14,15] [0,1,2,3,4,5,6]]).ct hΓ bg (iS aj hm1) (ih1 (i1+1) (dn aj) h)
theorem Ae{aB:aF}{aV:Int}{cX:aQ}{r:aF×Int}(h:kn aB aV cX=some r):Be prog 201 (cV aB) (cV r.1) [D.int .i64 aV,D.agg (aQ.c cX)] (D.int .i64 r.2):=by
 refine gdP func201 [[some (105,4),some (3,1),some (111,3),some (118,8),some (53,2),none],[none]] 69 [D.acc 1,D.acc 2,D.acc 3,D.acc 4,D.acc 5,D.int .i64 aB.bz] [D.int .i64 aV,D.agg [D.int .i64 cX.kind,D.str cX.pat.rel,D.sl (cX.pat.args.map tx),D.str cX.left,D.str cX.right]] [Ob.row .uq 105 4 (aB.rules.map aO.c),Ob.row .uq 3 1 (aB.ends.map dL),Ob.row .uq 111 3 (aB.av.map aP.c),Ob.row .uq 118 8 (aB.nodes.map Node.c),Ob.row .uq 53 2 (aB.facts.map aE.c)] fun hr fM Γ hΓ=>?_
 rw[kn]at h;obtain⟨h63,h⟩:=bV h;refine(aU.a [.cn [0,1,5,13,14,15] [0,6,4,1,2,3,5]]).lp hΓ (BH hΓ (fun h=>?_) (bt h63) aB.nodes 0 rfl h);obtain⟨h35,h⟩|⟨h35,h⟩:=aL h
 ·obtain⟨IK,h37,h⟩:=aD h;obtain⟨OA,h39,h⟩:=aD h;obtain⟨FF,h44,h⟩:=aD h;obtain⟨h45,h⟩:=bV h;cases h;exact(((((((aU.r 4 h35).T 1).g (Av h37)).hp [[some (105,4),some (3,1),some (111,3),some (118,8),some (53,2),none],[none,some (9,1)]] (uK h39)).a [.n2 [0,1,2,3,4,5,6,7,8,9,10,11,12,13,14] [0,1,2,3,4,5,6,7,8,9,10,11,12,13,14] 10 12 [0,1,2,3,4] [11,13,14]]).g (kz h44)).w (cB h45)).rts hΓ (D.gN [D.int .i64 (IntKind.i64.wrap ((((OA.1.nodes.map Node.c)++([[D.int .i64 aV,D.int .i64 FF.kind,D.str FF.pat.rel,D.sl (FF.pat.args.map tx),D.str FF.left,D.str FF.right,D.int .i64 OA.2,D.sl ([])]])).length:Int)-1)),D.agg [D.fr 105 4 (OA.1.rules.map aO.c),D.fr 3 1 (OA.1.ends.map dL),D.fr 111 3 (OA.1.av.map aP.c),D.fr 118 8 ((OA.1.nodes.map Node.c)++([[D.int .i64 aV,D.int .i64 FF.kind,D.str FF.pat.rel,D.sl (FF.pat.args.map tx),D.str FF.left,D.str FF.right,D.int .i64 OA.2,D.sl ([])]])),D.fr 53 2 (OA.1.facts.map aE.c),D.int .i64 OA.1.bz],D.val fM]) (by first|rfl| (simp only[mA]<;>rfl)| (simp only[cV,mA]<;>rfl))
 ·have AV:=(aU.r 4 h35)
  obtain⟨h46,h⟩|⟨h46,h⟩:=aL h
  ·obtain⟨W8,h48,h⟩:=aD h;obtain⟨Ia,h50,h⟩:=aD h;obtain⟨Pq,h55,h⟩:=aD h;obtain⟨h56,h⟩:=bV h;cases h;exact((((((AV.b h46).g (Av h48)).hp [[some (105,4),some (3,1),some (111,3),some (118,8),some (53,2),none],[none,some (9,1)]] (uK h50)).a [.n2 [0,1,2,3,4,5,6,7,8,9,10,11,12,13,14] [0,1,2,3,4,5,6,7,8,9,10,11,12,13,14] 10 12 [0,1,2,3,4] [11,13,14]]).g (kz h55)).w (cB h56)).rts hΓ (D.gN [D.int .i64 (IntKind.i64.wrap ((((Ia.1.nodes.map Node.c)++([[D.int .i64 aV,D.int .i64 Pq.kind,D.str Pq.pat.rel,D.sl (Pq.pat.args.map tx),D.str Pq.left,D.str Pq.right,D.int .i64 Ia.2,D.sl ([])]])).length:Int)-1)),D.agg [D.fr 105 4 (Ia.1.rules.map aO.c),D.fr 3 1 (Ia.1.ends.map dL),D.fr 111 3 (Ia.1.av.map aP.c),D.fr 118 8 ((Ia.1.nodes.map Node.c)++([[D.int .i64 aV,D.int .i64 Pq.kind,D.str Pq.pat.rel,D.sl (Pq.pat.args.map tx),D.str Pq.left,D.str Pq.right,D.int .i64 Ia.2,D.sl ([])]])),D.fr 53 2 (Ia.1.facts.map aE.c),D.int .i64 Ia.1.bz],D.val fM]) (by first|rfl| (simp only[mA]<;>rfl)| (simp only[cV,mA]<;>rfl))
  ·obtain⟨Re,h61,h⟩:=aD h;obtain⟨h62,h⟩:=bV h;cases h;exact((((AV.b h46).a [.n2 [0,1,2,3,4,5,6,7,8,9,10,11,12,13,14] [0,1,2,3,4,5,6,7,8,9,10,11,12,13,14] 10 12 [0,1,2,3,4] [5,7,8]]).g (kz h61)).w (cB h62)).rts hΓ (D.gN [D.int .i64 (IntKind.i64.wrap ((((aB.nodes.map Node.c)++([[D.int .i64 aV,D.int .i64 Re.kind,D.str Re.pat.rel,D.sl (Re.pat.args.map tx),D.str Re.left,D.str Re.right,D.int .i64 (-1),D.sl ([])]])).length:Int)-1)),D.agg [D.fr 105 4 (aB.rules.map aO.c),D.fr 3 1 (aB.ends.map dL),D.fr 111 3 (aB.av.map aP.c),D.fr 118 8 ((aB.nodes.map Node.c)++([[D.int .i64 aV,D.int .i64 Re.kind,D.str Re.pat.rel,D.sl (Re.pat.args.map tx),D.str Re.left,D.str Re.right,D.int .i64 (-1),D.sl ([])]])),D.fr 53 2 (aB.facts.map aE.c),D.int .i64 aB.bz],D.val fM]) (by first|rfl| (simp only[mA]<;>rfl)| (simp only[cV,mA]<;>rfl))
def je(aB:ar)(i1:Nat)(MJ:aq)(k2:Int->Int->ar->bI->b7->ay->aK->Option aF):aq->Nat->Int->Int->ar->bI->b7->ay->aK->Option aF
 | [],i2,tf,p8,D9,pO,wu,wv,sI=>(k2 tf p8 D9 pO wu wv sI)
 |lU::wg,i2,tf,p8,D9,pO,wu,wv,sI=>((kn (⟨D9,pO,wu,wv,sI,p8⟩:aF) tf lU).bind fun zc=>(je aB i1 MJ k2 wg (i2+1) zc.2 zc.1.bz zc.1.rules zc.1.ends zc.1.av zc.1.nodes zc.1.facts))
def jd(aB:ar)(k1:Int->ar->bI->b7->ay->aK->Option aF):ar->Nat->Int->ar->bI->b7->ay->aK->Option aF
 | [],i1,dS,fV,eN,mF,iU,qd=>(k1 dS fV eN mF iU qd)
 |bD::bZ,i1,dS,fV,eN,mF,iU,qd=>((rI bD).bind fun MJ=>(bif decide (MJ.length<=maxLen)then(je aB i1 MJ (fun(BT:Int) (p7:Int) (MC:ar) (CD:bI) (MD:b7) (vi:ay) (ME:aK)=>(bif room ((CD.map dL).length+([[D.int .i64 BT]]).length) 8 then(jd aB k1 bZ (i1+1) p7 MC (CD++([BT])) MD vi ME)else none)) MJ 0 0 dS fV eN mF iU qd)else none))
def sx(aB:ar):Option aF:=((qD aB).bind fun y1=>(jd aB (fun(mD:Int) (sK:ar) (fU:bI) (CC:b7) (nu:ay) (qX:aK)=>(some (⟨sK,fU,CC,nu,qX,mD⟩:aF))) aB 0 0 y1 ([]:bI) ([]:b7) ([(⟨-1,(⟨0,(⟨[],[]⟩:aE),[],[]⟩:aQ), -1,[]⟩:Node)]) ([]:aK)))
def xF(aB:ar)(dS:Int)(W1:List aR)(W2:List aR)(W3:List aR)(W4:List aR)(W5:List aR)(cS:Int):St:=⟨[(2,D.ptr 0 0),(3,D.ptr 1 0),(14,D.sl (aB.map aO.c)),(15,D.int .i64 ((aB.map aO.c).length:Int)),(16,D.int .i64 cS)],[Ob.box [D.nil,D.nil,D.nil,D.nil,D.nil,D.int .i64 0],Ob.box [D.acc 2,D.acc 3,D.acc 4,D.acc 5,D.acc 6,D.int .i64 dS],Ob.row .uq 105 4 W1,Ob.row .uq 3 1 W2,Ob.row .uq 111 3 W3,Ob.row .uq 118 8 W4,Ob.row .uq 53 2 W5]⟩
def J2(aB:ar)(i1:Nat)(MJ:aq)(tf:Int)(p8:Int)(W2:List aR)(W3:List aR)(W4:List aR)(W5:List aR)(W6:List aR)(cS:Int):St:=⟨[(2,D.ptr 0 0),(3,D.ptr 1 0),(6,D.int .i64 tf),(14,D.sl (aB.map aO.c)),(15,D.int .i64 ((aB.map aO.c).length:Int)),(16,D.int .i64 (i1:Int)),(21,D.acc 2),(22,D.int .i64 ((MJ.map aQ.c).length:Int)),(23,D.int .i64 cS)],[Ob.box [D.nil,D.nil,D.nil,D.nil,D.nil,D.int .i64 0],Ob.box [D.acc 3,D.acc 4,D.acc 5,D.acc 6,D.acc 7,D.int .i64 p8],Ob.row .uq 115 5 (MJ.map aQ.c),Ob.row .uq 105 4 W2,Ob.row .uq 3 1 W3,Ob.row .uq 111 3 W4,Ob.row .uq 118 8 W5,Ob.row .uq 53 2 W6]⟩
theorem Gn(hΓ:Γ.nt=39){aB:ar}{i1:Nat}{MJ:aq}{r:aF}{k2:Int->Int->ar->bI->b7->ay->aK->Option aF}(Cf:∀(BT:Int) (p7:Int) (MC:ar) (CD:bI) (MD:b7) (vi:ay) (ME:aK),k2 BT p7 MC CD MD vi ME=some r->Ax Γ N f134 (.q [[some (105,4),some (3,1),some (111,3),some (118,8),some (53,2),none]] (D.agg [D.fr 105 4 (r.rules.map aO.c),D.fr 3 1 (r.ends.map dL),D.fr 111 3 (r.av.map aP.c),D.fr 118 8 (r.nodes.map Node.c),D.fr 53 2 (r.facts.map aE.c),D.int .i64 r.bz])) [1,1,0,1,0,0,1,1,0,0,1,1,1] ⟨[(2,D.ptr 0 0),(3,D.ptr 1 0),(6,D.int .i64 BT),(14,D.sl (aB.map aO.c)),(15,D.int .i64 ((aB.map aO.c).length:Int)),(16,D.int .i64 (i1:Int))],[Ob.box [D.nil,D.nil,D.nil,D.nil,D.nil,D.int .i64 0],Ob.box [D.acc 2,D.acc 3,D.acc 4,D.acc 5,D.acc 6,D.int .i64 p7],Ob.row .uq 105 4 (MC.map aO.c),Ob.row .uq 3 1 (CD.map dL),Ob.row .uq 111 3 (MD.map aP.c),Ob.row .uq 118 8 (vi.map Node.c),Ob.row .uq 53 2 (ME.map aE.c)]⟩)(hm2:MJ.length<=maxLen):∀(rest:aq) (i2:Nat) (tf:Int) (p8:Int) (D9:ar) (pO:bI) (wu:b7) (wv:ay) (sI:aK),MJ.drop i2=rest->je aB i1 MJ k2 rest i2 tf p8 D9 pO wu wv sI=some r->Ar Γ N f134 (.q [[some (105,4),some (3,1),some (111,3),some (118,8),some (53,2),none]] (D.agg [D.fr 105 4 (r.rules.map aO.c),D.fr 3 1 (r.ends.map dL),D.fr 111 3 (r.av.map aP.c),D.fr 118 8 (r.nodes.map Node.c),D.fr 53 2 (r.facts.map aE.c),D.int .i64 r.bz])) [1,1,0,1,0,0,1,1,0,0,1,1,0,1,0] (rest.length+1) (J2 aB i1 MJ tf p8 (D9.map aO.c) (pO.map dL) (wu.map aP.c) (wv.map Node.c) (sI.map aE.c) (i2:Int)):=by
 intro rest
 induction rest with
 |nil=>
  intro i2 tf p8 D9 pO wu wv sI hd2 h;rw[je]at h;refine aN fun N2 xa ur=>?_
  exact((aU.ge aQ.c hd2).a [.hl 5 [2,3,6,14,15,16] [0,1,3,4,5,6,7]]).ex hΓ xa (Cf tf p8 D9 pO wu wv sI h)
 |cons lU wg ih2=>
  intro i2 tf p8 D9 pO wu wv sI hd2 h;rw[je]at h;refine aN fun N2 xa ur=>?_
  obtain⟨zc,h209,h⟩:=aD h;exact((((((aU.lt aQ.c hd2).i (pV aQ.c 5 (dc hd2))).o 5 5 .uq (dF aQ.c (dc hd2))).a [.gp [[some (105,4),some (3,1),some (111,3),some (118,8),some (53,2),none],[none],[none,none,none,none,none]] (cV zc.1) (D.int .i64 zc.2)]).w (show Be prog 201 (cV (⟨D9,pO,wu,wv,sI,p8⟩:aF)) (cV zc.1) [D.int .i64 tf,D.agg (aQ.c lU)] (D.int .i64 zc.2)from by simpa only[bN,bH,bX,dB,dA]using Ae h209)).a [.cn [2,3,6,14,15,16,21,22,23] [0,1,2,9,10,11,12,13]]).ct hΓ ur (iS hd2 hm2) (ih2 (i2+1) zc.2 zc.1.bz zc.1.rules zc.1.ends zc.1.av zc.1.nodes zc.1.facts (dn hd2) h)
theorem Gm(hΓ:Γ.nt=39){aB:ar}{r:aF}{k1:Int->ar->bI->b7->ay->aK->Option aF}(cW:∀(mD:Int) (sK:ar) (fU:bI) (CC:b7) (nu:ay) (qX:aK),k1 mD sK fU CC nu qX=some r->Ax Γ N f134 (.q [[some (105,4),some (3,1),some (111,3),some (118,8),some (53,2),none]] (D.agg [D.fr 105 4 (r.rules.map aO.c),D.fr 3 1 (r.ends.map dL),D.fr 111 3 (r.av.map aP.c),D.fr 118 8 (r.nodes.map Node.c),D.fr 53 2 (r.facts.map aE.c),D.int .i64 r.bz])) [1,1,1] ⟨[(2,D.ptr 0 0),(3,D.ptr 1 0)],[Ob.box [D.nil,D.nil,D.nil,D.nil,D.nil,D.int .i64 0],Ob.box [D.acc 2,D.acc 3,D.acc 4,D.acc 5,D.acc 6,D.int .i64 mD],Ob.row .uq 105 4 (sK.map aO.c),Ob.row .uq 3 1 (fU.map dL),Ob.row .uq 111 3 (CC.map aP.c),Ob.row .uq 118 8 (nu.map Node.c),Ob.row .uq 53 2 (qX.map aE.c)]⟩)(hm1:aB.length<=maxLen):∀(rest:ar) (i1:Nat) (dS:Int) (fV:ar) (eN:bI) (mF:b7) (iU:ay) (qd:aK),aB.drop i1=rest->jd aB k1 rest i1 dS fV eN mF iU qd=some r->Ar Γ N f134 (.q [[some (105,4),some (3,1),some (111,3),some (118,8),some (53,2),none]] (D.agg [D.fr 105 4 (r.rules.map aO.c),D.fr 3 1 (r.ends.map dL),D.fr 111 3 (r.av.map aP.c),D.fr 118 8 (r.nodes.map Node.c),D.fr 53 2 (r.facts.map aE.c),D.int .i64 r.bz])) [1,1,0,1,0] (rest.length+1) (xF aB dS (fV.map aO.c) (eN.map dL) (mF.map aP.c) (iU.map Node.c) (qd.map aE.c) (i1:Int)):=by
 intro rest
 induction rest with
 |nil=>
  intro i1 dS fV eN mF iU qd aj h;rw[jd]at h;refine aN fun N1 bw bg=>?_
  exact((aU.ge aO.c aj).a [.hl 0 [2,3] [0,1,2,3,4,5,6]]).ex hΓ bw (cW dS fV eN mF iU qd h)
 |cons bD bZ ih1=>
  intro i1 dS fV eN mF iU qd aj h;rw[jd]at h;refine aN fun N1 bw bg=>?_
  obtain⟨MJ,h180,h⟩:=aD h;obtain⟨h211,h⟩:=bV h;refine((((aU.lt aO.c aj).l (ax aO.c 4 (dc aj) rfl)).g (EI h180)).a [.cn [2,3,6,14,15,16,21,22,23] [0,1,8,2,3,4,5,6]]).lp hΓ (Gn hΓ (fun BT p7 MC CD MD vi ME h=>?_) (bt h211) MJ 0 0 dS fV eN mF iU qd rfl h);obtain⟨h210,h⟩:=bV h;exact((aU.w (cB h210)).a [.cn [2,3,14,15,16] [0,1,2,8,4,5,6]]).cs hΓ bg (xF aB p7 (MC.map aO.c) ((CD.map dL)++([[D.int .i64 BT]])) (MD.map aP.c) (vi.map Node.c) (ME.map aE.c) (IntKind.i64.wrap ((i1:Int)+1))) (by first| (simp only[iS aj hm1,mA]<;>rfl)| (simp only[iS aj hm1,mA,aE.c,aS.c,aQ.c,Action.c,aO.c,aI.c,cr.c,aP.c,Node.c,aF.c,cv.c]<;>rfl)) (ih1 (i1+1) p7 MC (CD++([BT])) MD vi ME (dn aj) h)
theorem Fa{aB:ar}{r:aF}(h:sx aB=some r):Good prog 134 [D.sl (aB.map aO.c)] (D.agg [D.fr 105 4 (r.rules.map aO.c),D.fr 3 1 (r.ends.map dL),D.fr 111 3 (r.av.map aP.c),D.fr 118 8 (r.nodes.map Node.c),D.fr 53 2 (r.facts.map aE.c),D.int .i64 r.bz]):=by
 refine gd func134 [[some (105,4),some (3,1),some (111,3),some (118,8),some (53,2),none]] 39 fun hr Γ hΓ=>?_
 rw[sx]at h;obtain⟨y1,h2,h⟩:=aD h;refine((aU.g (zF h2)).a [.pb 3 1 3 1,.pb 3 2 111 3,.pb 3 4 53 2,.cn [2,3,14,15,16] [0,3,1,4,5,2,6]]).XB hΓ (xF aB 0 (y1.map aO.c) ([]:List aR) ([]:List aR) ([[D.int .i64 (-1),D.int .i64 0,D.str ([]),D.sl ([]),D.str ([]),D.str ([]),D.int .i64 (-1),D.sl ([])]]) ([]:List aR) 0) (by first| (simp only[mA]<;>rfl)| (simp only[mA,aE.c,aS.c,aQ.c,Action.c,aO.c,aI.c,cr.c,aP.c,Node.c,aF.c,cv.c]<;>rfl)) (Gm hΓ (fun mD sK fU CC nu qX h=>?_) (by have:=(dW.sl (hr _ (aC (i:=0) rfl))).1;simpa using this) aB 0 0 y1 ([]:bI) ([]:b7) ([(⟨-1,(⟨0,(⟨[],[]⟩:aE),[],[]⟩:aQ), -1,[]⟩:Node)]) ([]:aK) rfl h);cases h;exact aU.ret hΓ
def hO(aB:aT)(k1:Option Bool):aT->Nat->Option Bool
 | [],i1=>(k1)
 |bD::bZ,i1=>((lX bD.var).bind fun y50=>(bif !(y50)then(some false)else((fP bD.value).bind fun y53=>(bif !(y53)then(some false)else(bif decide (((i1:Int):Int)>0)then((mJ aB (IntKind.i64.wrap ((i1:Int)-1))).bind fun x57=>(bif !(Op.bytesLess x57.var bD.var)then(some false)else(hO aB k1 bZ (i1+1))))else(hO aB k1 bZ (i1+1)))))))
def kq(aB:aT):Option Bool:=(bif decide ((((aB.map aS.c).length:Int):Int)>6)then(some false)else(hO aB (some true) aB 0))
def Im(aB:aT)(cS:Int):St:=⟨[(0,D.sl (aB.map aS.c)),(8,D.sl (aB.map aS.c)),(9,D.int .i64 ((aB.map aS.c).length:Int)),(10,D.int .i64 cS)],[]⟩
theorem GW(hΓ:Γ.nt=41){aB:aT}{r:Bool}{k1:Option Bool}(cW:k1=some r->Ax Γ N f193 (.q [[none]] (D.bool r)) [1,1,1] ⟨[],[]⟩)(hm1:aB.length<=maxLen):∀(rest:aT) (i1:Nat),aB.drop i1=rest->hO aB k1 rest i1=some r->Ar Γ N f193 (.q [[none]] (D.bool r)) [1,1,0,1,0] (rest.length+1) (Im aB (i1:Int)):=by
 intro rest
 induction rest with
 |nil=>
  intro i1 aj h;rw[hO]at h;refine aN fun N1 bw bg=>?_
  exact((aU.ge aS.c aj).a [.hl 0 [] []]).ex hΓ bw (cW h)
 |cons bD bZ ih1=>
  intro i1 aj h;rw[hO]at h;refine aN fun N1 bw bg=>?_
  obtain⟨y50,h51,h⟩:=aD h;have tr:=((((aU.lt aS.c aj).l (ax aS.c 2 (dc aj) rfl)).a [.n 22]).g (oL h51))
  obtain⟨h52,h⟩|⟨h52,h⟩:=aL h
  ·have h:=aG h;subst h;exact((((tr.r 5 h52).T 3).a [bF,bF,bF,bF,bF,bF,bF,bF,bF]).T 3).ret hΓ
  ·obtain⟨y53,h54,h⟩:=aD h;have wX:=(((tr.r 3 h52).g (eY h54)).r 2 h52)
   obtain⟨h55,h⟩|⟨h55,h⟩:=aL h
   ·have h:=aG h;subst h;exact((((wX.r 3 h55).a [bF,bF,bF,bF,bF,bF,bF,bF,bF]).r 2 h55).T 1).ret hΓ
   ·have AV:=(wX.r 3 h55)
    obtain⟨h56,h⟩|⟨h56,h⟩:=aL h
    ·obtain⟨x57,h58,h⟩:=aD h;have DC:=((((((AV.r 4 h56).l (dh aS.c 2 h58 rfl)).r 5 h56).b h55).b h56).b h55)
     obtain⟨h59,h⟩|⟨h59,h⟩:=aL h
     ·have h:=aG h;subst h;exact(DC.b h59).ret hΓ
     ·exact((DC.b h59).a [.cn [0,8,9,10] []]).ct hΓ bg (iS aj hm1) (ih1 (i1+1) (dn aj) h)
    ·exact((((((AV.r 9 h56).b h55).b h56).b h55).F 1).a [.cn [0,8,9,10] []]).ct hΓ bg (iS aj hm1) (ih1 (i1+1) (dn aj) h)
theorem n7{aB:aT}{r:Bool}(h:kq aB=some r):Good prog 193 [D.sl (aB.map aS.c)] (D.bool r):=by
 refine gd func193 [[none]] 41 fun hr Γ hΓ=>?_
 rw[kq]at h;obtain⟨h1,h⟩|⟨h1,h⟩:=aL h
 ·have h:=aG h;subst h;exact(aU.b h1).ret hΓ
 ·refine((aU.b h1).a [.cn [0,8,9,10] []]).lp hΓ (GW hΓ (fun h=>?_) (by have:=(dW.sl (hr _ (aC (i:=0) rfl))).1;simpa using this) aB 0 rfl h);have h:=aG h;subst h;exact aU.ret hΓ
def lZ(aB:aT)(aV:Bytes)(k1:Option (Bytes×Bool)):aT->Nat->Option (Bytes×Bool)
 | [],i1=>(k1)
 |bD::bZ,i1=>(bif (bD.var:Bytes)==aV then(some (bD.value,true))else(lZ aB aV k1 bZ (i1+1)))
def qP(aB:aT)(aV:Bytes):Option (Bytes×Bool):=((fP aV).bind fun y1=>(bif y1 then(some (aV,true))else((lX aV).bind fun y4=>(bif !(y4)then(some ([],false))else(lZ aB aV (some ([],false)) aB 0)))))
def Mi(aB:aT)(aV:Bytes)(cS:Int):St:=⟨[(1,D.str aV),(14,D.sl (aB.map aS.c)),(15,D.int .i64 ((aB.map aS.c).length:Int)),(16,D.int .i64 cS)],[]⟩
theorem Ks(hΓ:Γ.nt=27){aB:aT}{aV:Bytes}{r:Bytes×Bool}{k1:Option (Bytes×Bool)}(cW:k1=some r->Ax Γ N f126 (.q [[none],[none]] (D.gN [D.str r.1,D.bool r.2])) [1,1,1,1] ⟨[],[]⟩)(hm1:aB.length<=maxLen):∀(rest:aT) (i1:Nat),aB.drop i1=rest->lZ aB aV k1 rest i1=some r->Ar Γ N f126 (.q [[none],[none]] (D.gN [D.str r.1,D.bool r.2])) [1,1,1,0,1,0] (rest.length+1) (Mi aB aV (i1:Int)):=by
 intro rest
 induction rest with
 |nil=>
  intro i1 aj h;rw[lZ]at h;refine aN fun N1 bw bg=>?_
  exact((aU.ge aS.c aj).a [.hl 0 [] []]).ex hΓ bw (cW h)
 |cons bD bZ ih1=>
  intro i1 aj h;rw[lZ]at h;refine aN fun N1 bw bg=>?_
  have dJ:=((aU.lt aS.c aj).l (ax aS.c 2 (dc aj) rfl))
  obtain⟨h19,h⟩|⟨h19,h⟩:=aL h
  ·cases h;exact(dJ.b h19).ret hΓ
  ·exact((dJ.b h19).a [.cn [1,14,15,16] []]).ct hΓ bg (iS aj hm1) (ih1 (i1+1) (dn aj) h)
theorem xE{aB:aT}{aV:Bytes}{r:Bytes×Bool}(h:qP aB aV=some r):Good prog 126 [D.sl (aB.map aS.c),D.str aV] (D.gN [D.str r.1,D.bool r.2]):=by
 refine gd func126 [[none],[none]] 27 fun hr Γ hΓ=>?_
 rw[qP]at h;obtain⟨y1,h2,h⟩:=aD h;obtain⟨h3,h⟩|⟨h3,h⟩:=aL h
 ·cases h;exact((aU.g (eY h2)).b h3).ret hΓ
 ·obtain⟨y4,h5,h⟩:=aD h;have ja:=(((aU.g (eY h2)).b h3).g (oL h5))
  obtain⟨h6,h⟩|⟨h6,h⟩:=aL h
  ·cases h;exact(ja.b h6).ret hΓ
  ·refine((ja.b h6).a [.cn [1,14,15,16] []]).lp hΓ (Ks hΓ (fun h=>?_) (by have:=(dW.sl (hr _ (aC (i:=0) rfl))).1;simpa using this) aB 0 rfl h);cases h;exact aU.ret hΓ
end Go.Cx

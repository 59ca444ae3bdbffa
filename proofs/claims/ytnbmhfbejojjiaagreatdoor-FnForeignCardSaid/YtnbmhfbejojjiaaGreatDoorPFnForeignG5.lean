/- What functions of the program compute, and the walks that show it. No condition. -/
import Derived.Test.YtnbmhfbejojjiaaGreatDoorPFnForeignG4
set_option linter.unusedVariables false
set_option linter.unusedSimpArgs false
namespace Go.Cx
open Go.RowKit Go.Proofs Tryz
set_option maxRecDepth 100000
variable{Γ:ul}{N:Nat->St->Prop}
def j5(aB:aK)(k1:Option Bool):ah->Nat->Option Bool
 | [],i1=>(k1)
 |bU::cO,i1=>((qQ bU).bind fun y62=>(bif !(y62)then(some false)else(bif ((i1:Int):Int)==0 then(bif (bU.kind:Int) != 1 then(some false)else((pR aB (i1:Int)).bind fun VJ=>(bif !(VJ)then(some false)else(j5 aB k1 cO (i1+1)))))else((pR aB (i1:Int)).bind fun y70=>(bif !(y70)then(some false)else(j5 aB k1 cO (i1+1)))))))
def mX(aB:aK)(DY:aG)(i2:Nat)(B6:aG)(k3:Option Bool):aG->Nat->Option Bool
 | [],i3=>(k3)
 |PZ::My,i3=>((lC DY PZ).bind fun a77=>(bif !(a77)then(some false)else(mX aB DY i2 B6 k3 My (i3+1))))
def mW(aB:aK)(DY:aG)(k2:Option Bool):eG->Nat->Option Bool
 | [],i2=>(k2)
 |jg::tR,i2=>((sG jg).bind fun a74=>(bif !(a74)then(some false)else((me jg.pat.args).bind fun B6=>(bif decide (B6.length<=maxLen)then(mX aB DY i2 B6 (mW aB DY k2 tR (i2+1)) B6 0)else none))))
def um(aB:aK):Option Bool:=((qR aB.name).bind fun y1=>(bif !(y1)then(some false)else(bif decide ((aB.prio:Int)<0)then(some false)else(bif decide ((aB.prio:Int)>9)then(some false)else(bif decide ((((aB.conds.map aL.c).length:Int):Int)<1)then(some false)else(bif decide ((((aB.conds.map aL.c).length:Int):Int)>4)then(some false)else(bif decide ((((aB.cg.map Action.c).length:Int):Int)<1)then(some false)else(bif decide ((((aB.cg.map Action.c).length:Int):Int)>2)then(some false)else(j5 aB ((oa aB ((aB.conds.map aL.c).length:Int)).bind fun DY=>(mW aB DY ((qA aB.conds).bind fun a78=>((jr a78).bind fun a79=>(some (decide ((((a79.map tx).length:Int):Int)<=6))))) aB.cg 0)) aB.conds 0)))))))))
def Jd(aB:aK)(dQ:Int):St:=⟨[(1,D.ptr 0 0),(49,D.sl (aB.conds.map aL.c)),(50,D.int .i64 ((aB.conds.map aL.c).length:Int)),(51,D.int .i64 dQ)],[Ob.box (aK.c aB)]⟩
theorem I9(hΓ:Γ.nt=111){aB:aK}{r:Bool}{k1:Option Bool}(eF:k1=some r->Ax Γ N f97 (.q [[none]] (D.bool r)) [1,1,1] ⟨[(1,D.ptr 0 0)],[Ob.box (aK.c aB)]⟩)(hm1:aB.conds.length<=maxLen):∀(rest:ah) (i1:Nat),aB.conds.drop i1=rest->j5 aB k1 rest i1=some r->Ar Γ N f97 (.q [[none]] (D.bool r)) [1,1,0,1,0] (rest.length+1) (Jd aB (i1:Int)):=by
 intro rest
 induction rest with
 |nil=>
  intro i1 b8 h;rw[j5]at h;refine aU fun N1 cc cL=>?_
  exact((aW.ge aL.c b8).a [.hl 0 [1] [0]]).ex hΓ cc (eF h)
 |cons bU cO ih1=>
  intro i1 b8 h;rw[j5]at h;refine aU fun N1 cc cL=>?_
  obtain⟨y62,h63,h⟩:=aC h;have He:=(((aW.lt aL.c b8).l (bO aL.c 5 (dc b8) rfl)).g (oz h63))
  obtain⟨h64,h⟩|⟨h64,h⟩:=aO h
  ·have h:=aN h;subst h;exact((((He.r 3 h64).a [bF,bF,bF]).r 2 h64).T 6).ret hΓ
  ·have J7:=(He.r 3 h64)
   obtain⟨h65,h⟩|⟨h65,h⟩:=aO h
   ·have J8:=((((J7.r 3 h65).b h64).b h65).b h64)
    obtain⟨h66,h⟩|⟨h66,h⟩:=aO h
    ·have h:=aN h;subst h;exact((J8.r 5 h66).T 1).ret hΓ
    ·obtain⟨VJ,h68,h⟩:=aC h;have Qq:=(((J8.r 3 h66).g (xX h68)).r 2 h66)
     obtain⟨h69,h⟩|⟨h69,h⟩:=aO h
     ·have h:=aN h;subst h;exact(Qq.b h69).ret hΓ
     ·exact((Qq.b h69).a [.cn [1,49,50,51] [0]]).ct hΓ cL (iS b8 hm1) (ih1 (i1+1) (dn b8) h)
   ·obtain⟨y70,h71,h⟩:=aC h;have Qr:=(((((((J7.r 3 h65).b h64).b h65).b h64).F 3).g (xX h71)).F 2)
    obtain⟨h72,h⟩|⟨h72,h⟩:=aO h
    ·have h:=aN h;subst h;exact(Qr.b h72).ret hΓ
    ·exact((Qr.b h72).a [.cn [1,49,50,51] [0]]).ct hΓ cL (iS b8 hm1) (ih1 (i1+1) (dn b8) h)
def Je(aB:aK)(DY:aG)(dQ:Int):St:=⟨[(1,D.ptr 0 0),(5,D.acc 1),(81,D.sl (aB.cg.map Action.c)),(82,D.int .i64 ((aB.cg.map Action.c).length:Int)),(83,D.int .i64 dQ)],[Ob.box (aK.c aB),Ob.row .uq 9 1 (DY.map tx)]⟩
def Jf(aB:aK)(DY:aG)(i2:Nat)(B6:aG)(dQ:Int):St:=⟨[(1,D.ptr 0 0),(5,D.acc 1),(81,D.sl (aB.cg.map Action.c)),(82,D.int .i64 ((aB.cg.map Action.c).length:Int)),(83,D.int .i64 (i2:Int)),(93,D.acc 2),(94,D.int .i64 ((B6.map tx).length:Int)),(95,D.int .i64 dQ)],[Ob.box (aK.c aB),Ob.row .uq 9 1 (DY.map tx),Ob.row .uq 9 1 (B6.map tx)]⟩
theorem IB(hΓ:Γ.nt=111){aB:aK}{DY:aG}{i2:Nat}{B6:aG}{r:Bool}{k3:Option Bool}(Zm:k3=some r->Ax Γ N f97 (.q [[none]] (D.bool r)) [1,1,1,1,0,1,0,0,1,1,1] ⟨[(1,D.ptr 0 0),(5,D.acc 1),(81,D.sl (aB.cg.map Action.c)),(82,D.int .i64 ((aB.cg.map Action.c).length:Int)),(83,D.int .i64 (i2:Int))],[Ob.box (aK.c aB),Ob.row .uq 9 1 (DY.map tx)]⟩)(RV:B6.length<=maxLen):∀(rest:aG) (i3:Nat),B6.drop i3=rest->mX aB DY i2 B6 k3 rest i3=some r->Ar Γ N f97 (.q [[none]] (D.bool r)) [1,1,1,1,0,1,0,0,1,1,0,0,1,1,1,0] (rest.length+1) (Jf aB DY i2 B6 (i3:Int)):=by
 intro rest
 induction rest with
 |nil=>
  intro i3 yB h;rw[mX]at h;refine aU fun N3 TX Nn=>?_
  exact((aW.ge tx yB).a [.hl 3 [1,5,81,82,83] [0,1]]).ex hΓ TX (Zm h)
 |cons PZ My ih3=>
  intro i3 yB h;rw[mX]at h;refine aU fun N3 TX Nn=>?_
  obtain⟨a77,h230,h⟩:=aC h;have a6F:=((((aW.lt tx yB).i (mO tx 1 (dc yB))).o 1 1 .uq (cV tx (dc yB))).g (qg h230))
  obtain⟨h231,h⟩|⟨h231,h⟩:=aO h
  ·have h:=aN h;subst h;exact(a6F.b h231).ret hΓ
  ·exact((a6F.b h231).a [.cn [1,5,81,82,83,93,94,95] [0,1,2]]).ct hΓ Nn (iS yB RV) (ih3 (i3+1) (dn yB) h)
theorem IA(hΓ:Γ.nt=111){aB:aK}{DY:aG}{r:Bool}{k2:Option Bool}(B7:k2=some r->Ax Γ N f97 (.q [[none]] (D.bool r)) [1,1,1,1,1] ⟨[(1,D.ptr 0 0)],[Ob.box (aK.c aB)]⟩)(hm2:aB.cg.length<=maxLen):∀(rest:eG) (i2:Nat),aB.cg.drop i2=rest->mW aB DY k2 rest i2=some r->Ar Γ N f97 (.q [[none]] (D.bool r)) [1,1,1,1,0,1,0] (rest.length+1) (Je aB DY (i2:Int)):=by
 intro rest
 induction rest with
 |nil=>
  intro i2 hd2 h;rw[mW]at h;refine aU fun N2 vv tQ=>?_
  exact((aW.ge Action.c hd2).a [.hl 0 [1] [0]]).ex hΓ vv (B7 h)
 |cons jg tR ih2=>
  intro i2 hd2 h;rw[mW]at h;refine aU fun N2 vv tQ=>?_
  obtain⟨a74,h204,h⟩:=aC h;have a6G:=(((aW.lt Action.c hd2).l (bO Action.c 3 (dc hd2) rfl)).g (Dq h204))
  obtain⟨h205,h⟩|⟨h205,h⟩:=aO h
  ·have h:=aN h;subst h;exact(a6G.b h205).ret hΓ
  ·obtain⟨B6,h207,h⟩:=aC h;obtain⟨h232,h⟩:=bX h;refine(((a6G.b h205).g (tG h207)).a [.cn [1,5,81,82,83,93,94,95] [0,1,3]]).lp hΓ (IB hΓ (fun h=>?_) (bY h232) B6 0 rfl h);exact(aW.a [.cn [1,5,81,82,83] [0,1]]).ct hΓ tQ (iS hd2 hm2) (ih2 (i2+1) (dn hd2) h)
theorem Gl{aB:aK}{r:Bool}(h:um aB=some r):Good prog 97 [D.agg (aK.c aB)] (D.bool r):=by
 refine gd func97 [[none]] 111 fun hr Γ hΓ=>?_
 rw[um]at h;obtain⟨y1,h2,h⟩:=aC h;obtain⟨h3,h⟩|⟨h3,h⟩:=aO h
 ·have h:=aN h;subst h;exact(((aW.g (mU h2)).r 4 h3).T 25).ret hΓ
 ·have a6H:=((aW.g (mU h2)).r 4 h3)
  obtain⟨h4,h⟩|⟨h4,h⟩:=aO h
  ·have h:=aN h;subst h;exact((a6H.r 4 h4).T 21).ret hΓ
  ·have a6I:=(a6H.r 4 h4)
   obtain⟨h5,h⟩|⟨h5,h⟩:=aO h
   ·have h:=aN h;subst h;exact((a6I.r 5 h5).T 16).ret hΓ
   ·have a6J:=(a6I.r 5 h5)
    obtain⟨h6,h⟩|⟨h6,h⟩:=aO h
    ·have h:=aN h;subst h;exact((a6J.r 5 h6).T 11).ret hΓ
    ·have a6K:=(a6J.r 5 h6)
     obtain⟨h7,h⟩|⟨h7,h⟩:=aO h
     ·have h:=aN h;subst h;exact((a6K.r 5 h7).T 6).ret hΓ
     ·have a6L:=(a6K.r 5 h7)
      obtain⟨h8,h⟩|⟨h8,h⟩:=aO h
      ·have h:=aN h;subst h;exact((a6L.r 5 h8).T 1).ret hΓ
      ·have a6M:=(a6L.r 5 h8)
       obtain⟨h9,h⟩|⟨h9,h⟩:=aO h
       ·have h:=aN h;subst h;exact(a6M.b h9).ret hΓ
       ·refine((a6M.b h9).a [.cn [1,49,50,51] [0]]).lp hΓ (I9 hΓ (fun h=>?_) (by have:=(ij.sl (ij.agg (hr _ (aE (i:=0) rfl)) (.sl (aB.conds.map aL.c)) (by simp))).1;simpa using this) aB.conds 0 rfl h);obtain⟨DY,h74,h⟩:=aC h;refine((aW.g (wZ h74)).a [.cn [1,5,81,82,83] [0,1]]).lp hΓ (IA hΓ (fun h=>?_) (by have:=(ij.sl (ij.agg (hr _ (aE (i:=0) rfl)) (.sl (aB.cg.map Action.c)) (by simp))).1;simpa using this) aB.cg 0 rfl h);obtain⟨a78,h234,h⟩:=aC h;obtain⟨a79,h236,h⟩:=aC h;cases h;exact((aW.g (CB h234)).g (qw h236)).ret hΓ
def jm(aB:ai)(aY:Bytes)(k1:Option Int):ai->Nat->Option Int
 | [],i1=>(k1)
 |bU::cO,i1=>(bif (bU.name:Bytes)==aY then(some (i1:Int))else(jm aB aY k1 cO (i1+1)))
def sF(aB:ai)(aY:Bytes):Option Int:=(jm aB aY (some (-1)) aB 0)
def Gk(aB:ai)(aY:Bytes)(dQ:Int):St:=⟨[(1,D.str aY),(7,D.sl (aB.map aK.c)),(8,D.int .i64 ((aB.map aK.c).length:Int)),(9,D.int .i64 dQ)],[]⟩
theorem FN(hΓ:Γ.nt=20){aB:ai}{aY:Bytes}{r:Int}{k1:Option Int}(eF:k1=some r->Ax Γ N f98 (.q [[none]] (D.int .i64 r)) [1,1] ⟨[],[]⟩)(hm1:aB.length<=maxLen):∀(rest:ai) (i1:Nat),aB.drop i1=rest->jm aB aY k1 rest i1=some r->Ar Γ N f98 (.q [[none]] (D.int .i64 r)) [1,0,1,0] (rest.length+1) (Gk aB aY (i1:Int)):=by
 intro rest
 induction rest with
 |nil=>
  intro i1 b8 h;rw[jm]at h;refine aU fun N1 cc cL=>?_
  exact((aW.ge aK.c b8).a [.hl 0 [] []]).ex hΓ cc (eF h)
 |cons bU cO ih1=>
  intro i1 b8 h;rw[jm]at h;refine aU fun N1 cc cL=>?_
  have gr:=((aW.lt aK.c b8).l (bO aK.c 4 (dc b8) rfl))
  obtain⟨h13,h⟩|⟨h13,h⟩:=aO h
  ·cases h;exact(gr.b h13).ret hΓ
  ·exact((gr.b h13).a [.cn [1,7,8,9] []]).ct hΓ cL (iS b8 hm1) (ih1 (i1+1) (dn b8) h)
theorem Dp{aB:ai}{aY:Bytes}{r:Int}(h:sF aB aY=some r):Good prog 98 [D.sl (aB.map aK.c),D.str aY] (D.int .i64 r):=by
 refine gd func98 [[none]] 20 fun hr Γ hΓ=>?_
 rw[sF]at h;refine(aW.a [.cn [1,7,8,9] []]).lp hΓ (FN hΓ (fun h=>?_) (by have:=(ij.sl (hr _ (aE (i:=0) rfl))).1;simpa using this) aB 0 rfl h);cases h;exact aW.ret hΓ
def jk(aB:ai)(k1:Option Bool):ai->Nat->Option Bool
 | [],i1=>(k1)
 |bU::cO,i1=>((um bU).bind fun F2=>(bif !(F2)then(some false)else((sF aB bU.name).bind fun Mq=>(bif (Mq:Int) != (i1:Int)then(some false)else(jk aB k1 cO (i1+1))))))
def sE(aB:ai):Option Bool:=(bif decide ((((aB.map aK.c).length:Int):Int)>6)then(some false)else(jk aB (some true) aB 0))
def Gi(aB:ai)(dQ:Int):St:=⟨[(0,D.sl (aB.map aK.c)),(8,D.sl (aB.map aK.c)),(9,D.int .i64 ((aB.map aK.c).length:Int)),(10,D.int .i64 dQ)],[]⟩
theorem FL(hΓ:Γ.nt=27){aB:ai}{r:Bool}{k1:Option Bool}(eF:k1=some r->Ax Γ N f48 (.q [[none]] (D.bool r)) [1,1,1] ⟨[],[]⟩)(hm1:aB.length<=maxLen):∀(rest:ai) (i1:Nat),aB.drop i1=rest->jk aB k1 rest i1=some r->Ar Γ N f48 (.q [[none]] (D.bool r)) [1,1,0,1,0] (rest.length+1) (Gi aB (i1:Int)):=by
 intro rest
 induction rest with
 |nil=>
  intro i1 b8 h;rw[jk]at h;refine aU fun N1 cc cL=>?_
  exact((aW.ge aK.c b8).a [.hl 0 [] []]).ex hΓ cc (eF h)
 |cons bU cO ih1=>
  intro i1 b8 h;rw[jk]at h;refine aU fun N1 cc cL=>?_
  obtain⟨F2,h35,h⟩:=aC h;have kp:=(((aW.lt aK.c b8).l (bO aK.c 4 (dc b8) rfl)).g (Gl h35))
  obtain⟨h36,h⟩|⟨h36,h⟩:=aO h
  ·have h:=aN h;subst h;exact((kp.r 7 h36).T 1).ret hΓ
  ·obtain⟨Mq,h38,h⟩:=aC h;have ko:=(((kp.r 4 h36).g (Dp h38)).r 3 h36)
   obtain⟨h39,h⟩|⟨h39,h⟩:=aO h
   ·have h:=aN h;subst h;exact(ko.b h39).ret hΓ
   ·exact((ko.b h39).a [.cn [0,8,9,10] []]).ct hΓ cL (iS b8 hm1) (ih1 (i1+1) (dn b8) h)
theorem Dm{aB:ai}{r:Bool}(h:sE aB=some r):Good prog 48 [D.sl (aB.map aK.c)] (D.bool r):=by
 refine gd func48 [[none]] 27 fun hr Γ hΓ=>?_
 rw[sE]at h;obtain⟨h1,h⟩|⟨h1,h⟩:=aO h
 ·have h:=aN h;subst h;exact(aW.b h1).ret hΓ
 ·refine((aW.b h1).a [.cn [0,8,9,10] []]).lp hΓ (FL hΓ (fun h=>?_) (by have:=(ij.sl (hr _ (aE (i:=0) rfl))).1;simpa using this) aB 0 rfl h);have h:=aN h;subst h;exact aW.ret hΓ
def eD(aB:aD):Option aD:=((mZ aB.args).bind fun y1=>(some (⟨aB.rel,y1⟩:aD)))
theorem r9{aB:aD}{r:aD}(h:eD aB=some r):Good prog 104 [D.agg (aD.c aB)] (D.agg [D.str r.rel,D.fr 9 1 (r.args.map tx)]):=by
 refine gd func104 [[none,some (9,1)]] 9 fun hr Γ hΓ=>?_
 rw[eD]at h;obtain⟨y1,h2,h⟩:=aC h;cases h;exact((aW.a [.n 5]).g (tF h2)).ret hΓ
def fK(aB:aL):Option aL:=((eD aB.pat).bind fun y1=>(some (⟨aB.kind,y1,aB.left,aB.right⟩:aL)))
theorem kI{aB:aL}{r:aL}(h:fK aB=some r):Good prog 59 [D.agg (aL.c aB)] (D.agg [D.int .i64 r.kind,D.str r.pat.rel,D.fr 9 1 (r.pat.args.map tx),D.str r.left,D.str r.right]):=by
 refine gd func59 [[none,none,some (9,1),none,none]] 8 fun hr Γ hΓ=>?_
 rw[fK]at h;obtain⟨y1,h2,h⟩:=aC h;cases h;exact(aW.g (r9 h2)).ret hΓ
def lY(aB:ah)(k1:ah->Option ah):ah->Nat->ah->Option ah
 | [],i1,bP=>(k1 bP)
 |bU::cO,i1,bP=>((fK bU).bind fun oH=>(bif room ((bP.map aL.c).length+([[D.int .i64 oH.kind,D.str oH.pat.rel,D.sl (oH.pat.args.map tx),D.str oH.left,D.str oH.right]]).length) 80 then(lY aB k1 cO (i1+1) (bP++([oH])))else none))
def qz(aB:ah):Option ah:=(lY aB (fun(cB:ah)=>(some cB)) aB 0 ([]:ah))
def yd(aB:ah)(W0:List aP)(dQ:Int):St:=⟨[(3,D.acc 0),(6,D.sl (aB.map aL.c)),(7,D.int .i64 ((aB.map aL.c).length:Int)),(8,D.int .i64 dQ)],[Ob.row .uq 47 5 W0]⟩
theorem Dw(hΓ:Γ.nt=19){aB:ah}{r:ah}{k1:ah->Option ah}(eF:∀(cB:ah),k1 cB=some r->Ax Γ N f228 (.q [[some (47,5)]] (D.fr 47 5 (r.map aL.c))) [1,1,1] ⟨[(3,D.acc 0)],[Ob.row .uq 47 5 (cB.map aL.c)]⟩)(hm1:aB.length<=maxLen):∀(rest:ah) (i1:Nat) (bP:ah),aB.drop i1=rest->lY aB k1 rest i1 bP=some r->Ar Γ N f228 (.q [[some (47,5)]] (D.fr 47 5 (r.map aL.c))) [1,1,0,1,0] (rest.length+1) (yd aB (bP.map aL.c) (i1:Int)):=by
 intro rest
 induction rest with
 |nil=>
  intro i1 bP b8 h;rw[lY]at h;refine aU fun N1 cc cL=>?_
  exact((aW.ge aL.c b8).a [.hl 0 [3] [0]]).ex hΓ cc (eF bP h)
 |cons bU cO ih1=>
  intro i1 bP b8 h;rw[lY]at h;refine aU fun N1 cc cL=>?_
  obtain⟨oH,h28,h⟩:=aC h;obtain⟨h29,h⟩:=bX h;exact(((((aW.lt aL.c b8).l (bO aL.c 5 (dc b8) rfl)).g (kI h28)).w (bq h29)).a [.cn [3,6,7,8] [4]]).cs hΓ cL (yd aB ((bP.map aL.c)++([[D.int .i64 oH.kind,D.str oH.pat.rel,D.sl (oH.pat.args.map tx),D.str oH.left,D.str oH.right]])) (IntKind.i64.wrap ((i1:Int)+1))) (by first| (simp only[iS b8 hm1,mA]<;>rfl)| (simp only[iS b8 hm1,mA,aD.c,aR.c,aL.c,Action.c,aK.c,aT.c,bS.c,aZ.c,Node.c,aI.c,dU.c]<;>rfl)) (ih1 (i1+1) (bP++([oH])) (dn b8) h)
theorem D6{aB:ah}{r:ah}(h:qz aB=some r):Good prog 228 [D.sl (aB.map aL.c)] (D.fr 47 5 (r.map aL.c)):=by
 refine gd func228 [[some (47,5)]] 19 fun hr Γ hΓ=>?_
 rw[qz]at h;refine(aW.a [.JV 3,.cn [3,6,7,8] [0]]).lp hΓ (Dw hΓ (fun cB h=>?_) (by have:=(ij.sl (hr _ (aE (i:=0) rfl))).1;simpa using this) aB 0 ([]:ah) rfl h);have h:=aN h;subst h;exact aW.ret hΓ
def js(aB:aK)(y1:ah)(k1:eG->Option aK):eG->Nat->eG->Option aK
 | [],i1,cz=>(k1 cz)
 |bU::cO,i1,cz=>((eD bU.pat).bind fun y41=>(bif room ((cz.map Action.c).length+([[D.int .i64 bU.kind,D.str y41.rel,D.sl (y41.args.map tx)]]).length) 48 then(js aB y1 k1 cO (i1+1) (cz++([(⟨bU.kind,y41⟩:Action)])))else none))
def pS(aB:aK):Option aK:=((qz aB.conds).bind fun y1=>(js aB y1 (fun(fA:eG)=>(some (⟨aB.name,aB.prio,y1,fA⟩:aK))) aB.cg 0 ([]:eG)))
def zc(aB:aK)(y1:ah)(W0:List aP)(dQ:Int):St:=⟨[(2,D.ptr 0 0),(3,D.ptr 1 0),(15,D.sl (aB.cg.map Action.c)),(16,D.int .i64 ((aB.cg.map Action.c).length:Int)),(17,D.int .i64 dQ)],[Ob.box [D.str ([]),D.int .i64 0,D.nil,D.nil],Ob.box [D.str aB.name,D.int .i64 aB.prio,D.acc 2,D.acc 3],Ob.row .uq 47 5 (y1.map aL.c),Ob.row .uq 167 3 W0]⟩
theorem FW(hΓ:Γ.nt=34){aB:aK}{y1:ah}{r:aK}{k1:eG->Option aK}(eF:∀(fA:eG),k1 fA=some r->Ax Γ N f170 (.q [[none,none,some (47,5),some (167,3)]] (D.agg [D.str r.name,D.int .i64 r.prio,D.fr 47 5 (r.conds.map aL.c),D.fr 167 3 (r.cg.map Action.c)])) [1,1,1] ⟨[(2,D.ptr 0 0),(3,D.ptr 1 0)],[Ob.box [D.str ([]),D.int .i64 0,D.nil,D.nil],Ob.box [D.str aB.name,D.int .i64 aB.prio,D.acc 2,D.acc 3],Ob.row .uq 47 5 (y1.map aL.c),Ob.row .uq 167 3 (fA.map Action.c)]⟩)(hm1:aB.cg.length<=maxLen):∀(rest:eG) (i1:Nat) (cz:eG),aB.cg.drop i1=rest->js aB y1 k1 rest i1 cz=some r->Ar Γ N f170 (.q [[none,none,some (47,5),some (167,3)]] (D.agg [D.str r.name,D.int .i64 r.prio,D.fr 47 5 (r.conds.map aL.c),D.fr 167 3 (r.cg.map Action.c)])) [1,1,0,1,0] (rest.length+1) (zc aB y1 (cz.map Action.c) (i1:Int)):=by
 intro rest
 induction rest with
 |nil=>
  intro i1 cz b8 h;rw[js]at h;refine aU fun N1 cc cL=>?_
  exact((aW.ge Action.c b8).a [.hl 0 [2,3] [0,1,2,3]]).ex hΓ cc (eF cz h)
 |cons bU cO ih1=>
  intro i1 cz b8 h;rw[js]at h;refine aU fun N1 cc cL=>?_
  obtain⟨y41,h42,h⟩:=aC h;obtain⟨h43,h⟩:=bX h;exact((((((aW.lt Action.c b8).l (bO Action.c 3 (dc b8) rfl)).a [.n2 [0,1,2,3,4,5,6,7,8,9,10,11] [0,1,2,3,4,5,6,7,8,9,10,11] 8 9 [0,1] [5]]).g (r9 h42)).w (bq h43)).a [.cn [2,3,15,16,17] [0,1,2,7]]).cs hΓ cL (zc aB y1 ((cz.map Action.c)++([[D.int .i64 bU.kind,D.str y41.rel,D.sl (y41.args.map tx)]])) (IntKind.i64.wrap ((i1:Int)+1))) (by first| (simp only[iS b8 hm1,mA]<;>rfl)| (simp only[iS b8 hm1,mA,aD.c,aR.c,aL.c,Action.c,aK.c,aT.c,bS.c,aZ.c,Node.c,aI.c,dU.c]<;>rfl)) (ih1 (i1+1) (cz++([(⟨bU.kind,y41⟩:Action)])) (dn b8) h)
theorem Dz{aB:aK}{r:aK}(h:pS aB=some r):Good prog 170 [D.agg (aK.c aB)] (D.agg [D.str r.name,D.int .i64 r.prio,D.fr 47 5 (r.conds.map aL.c),D.fr 167 3 (r.cg.map Action.c)]):=by
 refine gd func170 [[none,none,some (47,5),some (167,3)]] 34 fun hr Γ hΓ=>?_
 rw[pS]at h;obtain⟨y1,h2,h⟩:=aC h;refine(((aW.a [.n 9]).g (D6 h2)).a [.pb 3 3 167 3,.cn [2,3,15,16,17] [1,3,2,4]]).lp hΓ (FW hΓ (fun fA h=>?_) (by have:=(ij.sl (ij.agg (hr _ (aE (i:=0) rfl)) (.sl (aB.cg.map Action.c)) (by simp))).1;simpa using this) aB.cg 0 ([]:eG) rfl h);cases h;exact aW.ret hΓ
def ld(aB:ai)(k1:ai->Option ai):ai->Nat->ai->Option ai
 | [],i1,bP=>(k1 bP)
 |bU::cO,i1,bP=>((pS bU).bind fun oH=>(bif room ((bP.map aK.c).length+([[D.str oH.name,D.int .i64 oH.prio,D.sl (oH.conds.map aL.c),D.sl (oH.cg.map Action.c)]]).length) 72 then(ld aB k1 cO (i1+1) (bP++([oH])))else none))
def og(aB:ai):Option ai:=(ld aB (fun(cB:ai)=>(some cB)) aB 0 ([]:ai))
def yf(aB:ai)(W0:List aP)(dQ:Int):St:=⟨[(3,D.acc 0),(6,D.sl (aB.map aK.c)),(7,D.int .i64 ((aB.map aK.c).length:Int)),(8,D.int .i64 dQ)],[Ob.row .uq 80 4 W0]⟩
theorem E0(hΓ:Γ.nt=19){aB:ai}{r:ai}{k1:ai->Option ai}(eF:∀(cB:ai),k1 cB=some r->Ax Γ N f101 (.q [[some (80,4)]] (D.fr 80 4 (r.map aK.c))) [1,1,1] ⟨[(3,D.acc 0)],[Ob.row .uq 80 4 (cB.map aK.c)]⟩)(hm1:aB.length<=maxLen):∀(rest:ai) (i1:Nat) (bP:ai),aB.drop i1=rest->ld aB k1 rest i1 bP=some r->Ar Γ N f101 (.q [[some (80,4)]] (D.fr 80 4 (r.map aK.c))) [1,1,0,1,0] (rest.length+1) (yf aB (bP.map aK.c) (i1:Int)):=by
 intro rest
 induction rest with
 |nil=>
  intro i1 bP b8 h;rw[ld]at h;refine aU fun N1 cc cL=>?_
  exact((aW.ge aK.c b8).a [.hl 0 [3] [0]]).ex hΓ cc (eF bP h)
 |cons bU cO ih1=>
  intro i1 bP b8 h;rw[ld]at h;refine aU fun N1 cc cL=>?_
  obtain⟨oH,h28,h⟩:=aC h;obtain⟨h29,h⟩:=bX h;exact(((((aW.lt aK.c b8).l (bO aK.c 4 (dc b8) rfl)).g (Dz h28)).w (bq h29)).a [.cn [3,6,7,8] [5]]).cs hΓ cL (yf aB ((bP.map aK.c)++([[D.str oH.name,D.int .i64 oH.prio,D.sl (oH.conds.map aL.c),D.sl (oH.cg.map Action.c)]])) (IntKind.i64.wrap ((i1:Int)+1))) (by first| (simp only[iS b8 hm1,mA]<;>rfl)| (simp only[iS b8 hm1,mA,aD.c,aR.c,aL.c,Action.c,aK.c,aT.c,bS.c,aZ.c,Node.c,aI.c,dU.c]<;>rfl)) (ih1 (i1+1) (bP++([oH])) (dn b8) h)
theorem wj{aB:ai}{r:ai}(h:og aB=some r):Good prog 101 [D.sl (aB.map aK.c)] (D.fr 80 4 (r.map aK.c)):=by
 refine gd func101 [[some (80,4)]] 19 fun hr Γ hΓ=>?_
 rw[og]at h;refine(aW.a [.JV 3,.cn [3,6,7,8] [0]]).lp hΓ (E0 hΓ (fun cB h=>?_) (by have:=(ij.sl (hr _ (aE (i:=0) rfl))).1;simpa using this) aB 0 ([]:ai) rfl h);have h:=aN h;subst h;exact aW.ret hΓ
def kD(aB:Int):Option Bytes:=((zv aB).bind fun y1=>(some y1))
theorem we{aB:Int}{r:Bytes}(h:kD aB=some r):Good prog 61 [D.int .i64 aB] (D.str r):=by
 refine gd func61 [[none]] 5 fun hr Γ hΓ=>?_
 rw[kD]at h;obtain⟨y1,h2,h⟩:=aC h;have h:=aN h;subst h;exact(aW.g (GA h2)).ret hΓ
def fM(aB:aG)(k1:aM->Option aM):aG->Nat->aM->List (Bytes×Bool)->Option aM
 | [],i1,bP,Az=>(k1 bP)
 |bU::cO,i1,bP,Az=>((l7 bU).bind fun y52=>(bif y52 then(bif !(J2 false bU Az)then((kD (IntKind.i64.wrap (((bP.map aR.c).length:Int)+1))).bind fun y56=>(bif decide (([63]:Bytes).length+(y56:Bytes).length<=maxLen)then(bif room ((bP.map aR.c).length+([[D.str bU,D.str (([63])++y56)]]).length) 32 then(fM aB k1 cO (i1+1) (bP++([(⟨bU,([63])++y56⟩:aR)])) (ML bU true Az))else none)else none))else(fM aB k1 cO (i1+1) bP Az))else(fM aB k1 cO (i1+1) bP Az)))
def nZ(aB:aG):Option aM:=(fM aB (fun(cB:aM)=>(some cB)) aB 0 ([]:aM) ([]:List (Bytes×Bool)))
def xa(aB:aG)(W0:List aP)(W1:List (D×D))(dQ:Int):St:=⟨[(3,D.acc 0),(4,D.acc 1),(8,D.sl (aB.map tx)),(9,D.int .i64 ((aB.map tx).length:Int)),(10,D.int .i64 dQ)],[Ob.row .uq 137 2 W0,Ob.mp W1]⟩
theorem D8(hΓ:Γ.nt=36){aB:aG}{r:aM}{k1:aM->Option aM}(eF:∀(cB:aM),k1 cB=some r->Ax Γ N f186 (.q [[some (137,2)]] (D.fr 137 2 (r.map aR.c))) [1,1,1,1] ⟨[(3,D.acc 0)],[Ob.row .uq 137 2 (cB.map aR.c)]⟩)(hm1:aB.length<=maxLen):∀(rest:aG) (i1:Nat) (bP:aM) (Az:List (Bytes×Bool)),aB.drop i1=rest->fM aB k1 rest i1 bP Az=some r->Ar Γ N f186 (.q [[some (137,2)]] (D.fr 137 2 (r.map aR.c))) [1,1,1,0,1,0] (rest.length+1) (xa aB (bP.map aR.c) (Az.map (kS eB)) (i1:Int)):=by
 intro rest
 induction rest with
 |nil=>
  intro i1 bP Az b8 h;rw[fM]at h;refine aU fun N1 cc cL=>?_
  exact((aW.ge tx b8).a [.hl 0 [3] [0]]).ex hΓ cc (eF bP h)
 |cons bU cO ih1=>
  intro i1 bP Az b8 h;rw[fM]at h;refine aU fun N1 cc cL=>?_
  obtain⟨y52,h53,h⟩:=aC h;have kp:=(((aW.lt tx b8).l (bO tx 1 (dc b8) rfl)).g (nV h53))
  obtain⟨h54,h⟩|⟨h54,h⟩:=aO h
  ·have ko:=((((kp.r 3 h54).w (show plk prog 201 (Az.map (kS eB)) (D.str bU) false=some (D.bool (J2 false bU Az))from a6A (e:=eB) (z:=false) (by kernel_rfl))).a [.d (D.bool (J2 false bU Az))]).r 2 h54)
   obtain⟨h55,h⟩|⟨h55,h⟩:=aO h
   ·obtain⟨y56,h57,h⟩:=aC h;obtain⟨h58,h⟩:=bX h;obtain⟨h59,h⟩:=bX h;exact(((((((ko.b h55).w (show J0 (D.str bU) (D.bool true) (Az.map (kS eB))=some ((ML bU true Az).map (kS eB))from Xl (e:=eB) (m:=Az))).a [.kv ((ML bU true Az).map (kS eB))]).g (we h57)).w (bY h58)).w (bq h59)).a [.cn [3,4,8,9,10] [3,1]]).cs hΓ cL (xa aB ((bP.map aR.c)++([[D.str bU,D.str (([63])++y56)]])) ((ML bU true Az).map (kS eB)) (IntKind.i64.wrap ((i1:Int)+1))) (by first| (simp only[iS b8 hm1,mA]<;>rfl)| (simp only[iS b8 hm1,mA,aD.c,aR.c,aL.c,Action.c,aK.c,aT.c,bS.c,aZ.c,Node.c,aI.c,dU.c]<;>rfl)) (ih1 (i1+1) (bP++([(⟨bU,([63])++y56⟩:aR)])) (ML bU true Az) (dn b8) h)
   ·exact((ko.b h55).a [.cn [3,4,8,9,10] [0,1]]).ct hΓ cL (iS b8 hm1) (ih1 (i1+1) bP Az (dn b8) h)
  ·exact(((kp.r 5 h54).F 1).a [.cn [3,4,8,9,10] [0,1]]).ct hΓ cL (iS b8 hm1) (ih1 (i1+1) bP Az (dn b8) h)
theorem wJ{aB:aG}{r:aM}(h:nZ aB=some r):Good prog 186 [D.sl (aB.map tx)] (D.fr 137 2 (r.map aR.c)):=by
 refine gd func186 [[some (137,2)]] 36 fun hr Γ hΓ=>?_
 rw[nZ]at h;refine(aW.a [.JV 3,.cn [3,4,8,9,10] [0,1]]).lp hΓ (D8 hΓ (fun cB h=>?_) (by have:=(ij.sl (hr _ (aE (i:=0) rfl))).1;simpa using this) aB 0 ([]:aM) ([]:List (Bytes×Bool)) rfl h);have h:=aN h;subst h;exact aW.ret hΓ
def gR(aB:aK)(k1:aG->Option aM):ah->Nat->aG->Option aM
 | [],i1,bP=>(k1 bP)
 |bU::cO,i1,bP=>((rD bU).bind fun oH=>(bif room ((bP.map tx).length+(oH.map tx).length) 16 then(gR aB k1 cO (i1+1) (bP++oH))else none))
def nW(aB:aK):Option aM:=(gR aB (fun(cB:aG)=>((nZ cB).bind fun yU=>(some yU))) aB.conds 0 ([]:aG))
def xV(aB:aK)(W0:List aP)(dQ:Int):St:=⟨[(3,D.acc 0),(7,D.sl (aB.conds.map aL.c)),(8,D.int .i64 ((aB.conds.map aL.c).length:Int)),(9,D.int .i64 dQ)],[Ob.row .uq 9 1 W0]⟩
theorem D1(hΓ:Γ.nt=20){aB:aK}{r:aM}{k1:aG->Option aM}(eF:∀(cB:aG),k1 cB=some r->Ax Γ N f121 (.q [[some (137,2)]] (D.fr 137 2 (r.map aR.c))) [1,1,1] ⟨[(3,D.acc 0)],[Ob.row .uq 9 1 (cB.map tx)]⟩)(hm1:aB.conds.length<=maxLen):∀(rest:ah) (i1:Nat) (bP:aG),aB.conds.drop i1=rest->gR aB k1 rest i1 bP=some r->Ar Γ N f121 (.q [[some (137,2)]] (D.fr 137 2 (r.map aR.c))) [1,1,0,1,0] (rest.length+1) (xV aB (bP.map tx) (i1:Int)):=by
 intro rest
 induction rest with
 |nil=>
  intro i1 bP b8 h;rw[gR]at h;refine aU fun N1 cc cL=>?_
  exact((aW.ge aL.c b8).a [.hl 0 [3] [0]]).ex hΓ cc (eF bP h)
 |cons bU cO ih1=>
  intro i1 bP b8 h;rw[gR]at h;refine aU fun N1 cc cL=>?_
  obtain⟨oH,h28,h⟩:=aC h;obtain⟨h29,h⟩:=bX h;exact(((((aW.lt aL.c b8).l (bO aL.c 5 (dc b8) rfl)).g (yg h28)).w (bq h29)).a [.cn [3,7,8,9] [3]]).cs hΓ cL (xV aB ((bP.map tx)++(oH.map tx)) (IntKind.i64.wrap ((i1:Int)+1))) (by first| (simp only[iS b8 hm1,mA]<;>rfl)| (simp only[iS b8 hm1,mA,aD.c,aR.c,aL.c,Action.c,aK.c,aT.c,bS.c,aZ.c,Node.c,aI.c,dU.c]<;>rfl)) (ih1 (i1+1) (bP++oH) (dn b8) h)
theorem wG{aB:aK}{r:aM}(h:nW aB=some r):Good prog 121 [D.agg (aK.c aB)] (D.fr 137 2 (r.map aR.c)):=by
 refine gd func121 [[some (137,2)]] 20 fun hr Γ hΓ=>?_
 rw[nW]at h;refine(aW.a [.JV 3,.cn [3,7,8,9] [1]]).lp hΓ (D1 hΓ (fun cB h=>?_) (by have:=(ij.sl (ij.agg (hr _ (aE (i:=0) rfl)) (.sl (aB.conds.map aL.c)) (by simp))).1;simpa using this) aB.conds 0 ([]:aG) rfl h);obtain⟨yU,h31,h⟩:=aC h;have h:=aN h;subst h;exact(aW.g (wJ h31)).ret hΓ
def iB(aB:Bytes)(aY:aM)(k1:Option Bytes):aM->Nat->Option Bytes
 | [],i1=>(k1)
 |bU::cO,i1=>(bif (bU.var:Bytes)==aB then(some bU.value)else(iB aB aY k1 cO (i1+1)))
def iP(aB:Bytes)(aY:aM):Option Bytes:=(iB aB aY (some aB) aY 0)
def D9(aB:Bytes)(aY:aM)(dQ:Int):St:=⟨[(0,D.str aB),(7,D.sl (aY.map aR.c)),(8,D.int .i64 ((aY.map aR.c).length:Int)),(9,D.int .i64 dQ)],[]⟩
theorem CJ(hΓ:Γ.nt=21){aB:Bytes}{aY:aM}{r:Bytes}{k1:Option Bytes}(eF:k1=some r->Ax Γ N f243 (.q [[none]] (D.str r)) [1,1] ⟨[(0,D.str aB)],[]⟩)(hm1:aY.length<=maxLen):∀(rest:aM) (i1:Nat),aY.drop i1=rest->iB aB aY k1 rest i1=some r->Ar Γ N f243 (.q [[none]] (D.str r)) [1,0,1,0] (rest.length+1) (D9 aB aY (i1:Int)):=by
 intro rest
 induction rest with
 |nil=>
  intro i1 b8 h;rw[iB]at h;refine aU fun N1 cc cL=>?_
  exact((aW.ge aR.c b8).a [.hl 0 [0] []]).ex hΓ cc (eF h)
 |cons bU cO ih1=>
  intro i1 b8 h;rw[iB]at h;refine aU fun N1 cc cL=>?_
  have gr:=((aW.lt aR.c b8).l (bO aR.c 2 (dc b8) rfl))
  obtain⟨h13,h⟩|⟨h13,h⟩:=aO h
  ·cases h;exact(gr.b h13).ret hΓ
  ·exact((gr.b h13).a [.cn [0,7,8,9] []]).ct hΓ cL (iS b8 hm1) (ih1 (i1+1) (dn b8) h)
theorem rA{aB:Bytes}{aY:aM}{r:Bytes}(h:iP aB aY=some r):Good prog 243 [D.str aB,D.sl (aY.map aR.c)] (D.str r):=by
 refine gd func243 [[none]] 21 fun hr Γ hΓ=>?_
 rw[iP]at h;refine(aW.a [.cn [0,7,8,9] []]).lp hΓ (CJ hΓ (fun h=>?_) (by have:=(ij.sl (hr _ (aE (i:=1) rfl))).1;simpa using this) aY 0 rfl h);have h:=aN h;subst h;exact aW.ret hΓ
def kH(aB:aL)(aY:aM)(y1:Bytes)(y3:Bytes)(k1:aG->Option aL):aG->Nat->aG->Option aL
 | [],i1,lQ=>(k1 lQ)
 |bU::cO,i1,lQ=>((iP bU aY).bind fun Hp=>(bif room ((lQ.map tx).length+([[D.str Hp]]).length) 16 then(kH aB aY y1 y3 k1 cO (i1+1) (lQ++([Hp])))else none))
def l8(aB:aL)(aY:aM):Option aL:=((iP aB.left aY).bind fun y1=>((iP aB.right aY).bind fun y3=>(kH aB aY y1 y3 (fun(oN:aG)=>(some (⟨aB.kind,(⟨aB.pat.rel,oN⟩:aD),y1,y3⟩:aL))) aB.pat.args 0 ([]:aG))))
def xW(aB:aL)(aY:aM)(y1:Bytes)(y3:Bytes)(W0:List aP)(dQ:Int):St:=⟨[(1,D.sl (aY.map aR.c)),(4,D.ptr 0 0),(5,D.ptr 1 0),(26,D.sl (aB.pat.args.map tx)),(27,D.int .i64 ((aB.pat.args.map tx).length:Int)),(28,D.int .i64 dQ)],[Ob.box [D.int .i64 0,D.str ([]),D.nil,D.str ([]),D.str ([])],Ob.box [D.int .i64 aB.kind,D.str aB.pat.rel,D.acc 2,D.str y1,D.str y3],Ob.row .uq 9 1 W0]⟩
theorem D2(hΓ:Γ.nt=44){aB:aL}{aY:aM}{y1:Bytes}{y3:Bytes}{r:aL}{k1:aG->Option aL}(eF:∀(oN:aG),k1 oN=some r->Ax Γ N f224 (.q [[none,none,some (9,1),none,none]] (D.agg [D.int .i64 r.kind,D.str r.pat.rel,D.fr 9 1 (r.pat.args.map tx),D.str r.left,D.str r.right])) [1,1,1,1] ⟨[(4,D.ptr 0 0),(5,D.ptr 1 0)],[Ob.box [D.int .i64 0,D.str ([]),D.nil,D.str ([]),D.str ([])],Ob.box [D.int .i64 aB.kind,D.str aB.pat.rel,D.acc 2,D.str y1,D.str y3],Ob.row .uq 9 1 (oN.map tx)]⟩)(hm1:aB.pat.args.length<=maxLen):∀(rest:aG) (i1:Nat) (lQ:aG),aB.pat.args.drop i1=rest->kH aB aY y1 y3 k1 rest i1 lQ=some r->Ar Γ N f224 (.q [[none,none,some (9,1),none,none]] (D.agg [D.int .i64 r.kind,D.str r.pat.rel,D.fr 9 1 (r.pat.args.map tx),D.str r.left,D.str r.right])) [1,1,1,0,1,0] (rest.length+1) (xW aB aY y1 y3 (lQ.map tx) (i1:Int)):=by
 intro rest
 induction rest with
 |nil=>
  intro i1 lQ b8 h;rw[kH]at h;refine aU fun N1 cc cL=>?_
  exact((aW.ge tx b8).a [.hl 0 [4,5] [0,1,2]]).ex hΓ cc (eF lQ h)
 |cons bU cO ih1=>
  intro i1 lQ b8 h;rw[kH]at h;refine aU fun N1 cc cL=>?_
  obtain⟨Hp,h32,h⟩:=aC h;obtain⟨h33,h⟩:=bX h;exact((((((aW.lt tx b8).l (bO tx 1 (dc b8) rfl)).a [.n 7]).g (rA h32)).w (bq h33)).a [.cn [1,4,5,26,27,28] [0,1,4]]).cs hΓ cL (xW aB aY y1 y3 ((lQ.map tx)++([[D.str Hp]])) (IntKind.i64.wrap ((i1:Int)+1))) (by first| (simp only[iS b8 hm1,mA]<;>rfl)| (simp only[iS b8 hm1,mA,aD.c,aR.c,aL.c,Action.c,aK.c,aT.c,bS.c,aZ.c,Node.c,aI.c,dU.c]<;>rfl)) (ih1 (i1+1) (lQ++([Hp])) (dn b8) h)
theorem oI{aB:aL}{aY:aM}{r:aL}(h:l8 aB aY=some r):Good prog 224 [D.agg (aL.c aB),D.sl (aY.map aR.c)] (D.agg [D.int .i64 r.kind,D.str r.pat.rel,D.fr 9 1 (r.pat.args.map tx),D.str r.left,D.str r.right]):=by
 refine gd func224 [[none,none,some (9,1),none,none]] 44 fun hr Γ hΓ=>?_
 rw[l8]at h;obtain⟨y1,h2,h⟩:=aC h;obtain⟨y3,h4,h⟩:=aC h;refine((((aW.a [.n 12]).g (rA h2)).g (rA h4)).a [.pb 2 2 9 1,.cn [1,4,5,26,27,28] [1,2,3]]).lp hΓ (D2 hΓ (fun oN h=>?_) (by have:=(ij.sl (ij.agg (hr _ (aE (i:=0) rfl)) (.sl (aB.pat.args.map tx)) (by simp))).1;simpa using this) aB.pat.args 0 ([]:aG) rfl h);cases h;exact aW.ret hΓ
def kG(aB:aK)(y1:aM)(k1:ah->Option ah):ah->Nat->ah->Option ah
 | [],i1,bV=>(k1 bV)
 |bU::cO,i1,bV=>((l8 bU y1).bind fun F1=>(bif room ((bV.map aL.c).length+([[D.int .i64 F1.kind,D.str F1.pat.rel,D.sl (F1.pat.args.map tx),D.str F1.left,D.str F1.right]]).length) 80 then(kG aB y1 k1 cO (i1+1) (bV++([F1])))else none))
def q8(aB:aK):Option ah:=((nW aB).bind fun y1=>(kG aB y1 (fun(cB:ah)=>(some cB)) aB.conds 0 ([]:ah)))
def xU(aB:aK)(y1:aM)(W0:List aP)(dQ:Int):St:=⟨[(3,D.acc 0),(4,D.acc 1),(10,D.sl (aB.conds.map aL.c)),(11,D.int .i64 ((aB.conds.map aL.c).length:Int)),(12,D.int .i64 dQ)],[Ob.row .uq 137 2 (y1.map aR.c),Ob.row .uq 47 5 W0]⟩
theorem D0(hΓ:Γ.nt=24){aB:aK}{y1:aM}{r:ah}{k1:ah->Option ah}(eF:∀(cB:ah),k1 cB=some r->Ax Γ N f166 (.q [[some (47,5)]] (D.fr 47 5 (r.map aL.c))) [1,1,1,1] ⟨[(4,D.acc 0)],[Ob.row .uq 47 5 (cB.map aL.c)]⟩)(hm1:aB.conds.length<=maxLen):∀(rest:ah) (i1:Nat) (bV:ah),aB.conds.drop i1=rest->kG aB y1 k1 rest i1 bV=some r->Ar Γ N f166 (.q [[some (47,5)]] (D.fr 47 5 (r.map aL.c))) [1,1,1,0,1,0] (rest.length+1) (xU aB y1 (bV.map aL.c) (i1:Int)):=by
 intro rest
 induction rest with
 |nil=>
  intro i1 bV b8 h;rw[kG]at h;refine aU fun N1 cc cL=>?_
  exact((aW.ge aL.c b8).a [.hl 0 [4] [1]]).ex hΓ cc (eF bV h)
 |cons bU cO ih1=>
  intro i1 bV b8 h;rw[kG]at h;refine aU fun N1 cc cL=>?_
  obtain⟨F1,h30,h⟩:=aC h;obtain⟨h31,h⟩:=bX h;exact(((((aW.lt aL.c b8).l (bO aL.c 5 (dc b8) rfl)).g (oI h30)).w (bq h31)).a [.cn [3,4,10,11,12] [0,5]]).cs hΓ cL (xU aB y1 ((bV.map aL.c)++([[D.int .i64 F1.kind,D.str F1.pat.rel,D.sl (F1.pat.args.map tx),D.str F1.left,D.str F1.right]])) (IntKind.i64.wrap ((i1:Int)+1))) (by first| (simp only[iS b8 hm1,mA]<;>rfl)| (simp only[iS b8 hm1,mA,aD.c,aR.c,aL.c,Action.c,aK.c,aT.c,bS.c,aZ.c,Node.c,aI.c,dU.c]<;>rfl)) (ih1 (i1+1) (bV++([F1])) (dn b8) h)
theorem C7{aB:aK}{r:ah}(h:q8 aB=some r):Good prog 166 [D.agg (aK.c aB)] (D.fr 47 5 (r.map aL.c)):=by
 refine gd func166 [[some (47,5)]] 24 fun hr Γ hΓ=>?_
 rw[q8]at h;obtain⟨y1,h2,h⟩:=aC h;refine((aW.g (wG h2)).a [.JV 4,.cn [3,4,10,11,12] [1,2]]).lp hΓ (D0 hΓ (fun cB h=>?_) (by have:=(ij.sl (ij.agg (hr _ (aE (i:=0) rfl)) (.sl (aB.conds.map aL.c)) (by simp))).1;simpa using this) aB.conds 0 ([]:ah) rfl h);have h:=aN h;subst h;exact aW.ret hΓ
def lg(aB:aG)(aY:aG)(k1:Option Bool):aG->Nat->Option Bool
 | [],i1=>(k1)
 |bU::cO,i1=>((hO aY (i1:Int)).bind fun x22=>(bif !((bU:Bytes)==x22)then(some false)else(lg aB aY k1 cO (i1+1))))
def ol(aB:aG)(aY:aG):Option Bool:=(bif (((aB.map tx).length:Int):Int) != ((aY.map tx).length:Int)then(some false)else(lg aB aY (some true) aB 0))
def Fc(aB:aG)(aY:aG)(dQ:Int):St:=⟨[(0,D.sl (aB.map tx)),(1,D.sl (aY.map tx)),(12,D.int .i64 ((aB.map tx).length:Int)),(13,D.int .i64 dQ)],[]⟩
theorem E5(hΓ:Γ.nt=26){aB:aG}{aY:aG}{r:Bool}{k1:Option Bool}(eF:k1=some r->Ax Γ N f108 (.q [[none]] (D.bool r)) [1,1,1] ⟨[],[]⟩)(hm1:aB.length<=maxLen):∀(rest:aG) (i1:Nat),aB.drop i1=rest->lg aB aY k1 rest i1=some r->Ar Γ N f108 (.q [[none]] (D.bool r)) [1,1,0,1,0] (rest.length+1) (Fc aB aY (i1:Int)):=by
 intro rest
 induction rest with
 |nil=>
  intro i1 b8 h;rw[lg]at h;refine aU fun N1 cc cL=>?_
  exact((aW.ge tx b8).a [.hl 0 [] []]).ex hΓ cc (eF h)
 |cons bU cO ih1=>
  intro i1 b8 h;rw[lg]at h;refine aU fun N1 cc cL=>?_
  obtain⟨x22,h23,h⟩:=aC h;have gr:=((((aW.lt tx b8).a [.n 8]).l (bO tx 1 (dc b8) rfl)).l (gq tx 1 h23 rfl))
  obtain⟨h24,h⟩|⟨h24,h⟩:=aO h
  ·have h:=aN h;subst h;exact(gr.b h24).ret hΓ
  ·exact((gr.b h24).a [.cn [0,1,12,13] []]).ct hΓ cL (iS b8 hm1) (ih1 (i1+1) (dn b8) h)
theorem wm{aB:aG}{aY:aG}{r:Bool}(h:ol aB aY=some r):Good prog 108 [D.sl (aB.map tx),D.sl (aY.map tx)] (D.bool r):=by
 refine gd func108 [[none]] 26 fun hr Γ hΓ=>?_
 rw[ol]at h;obtain⟨h1,h⟩|⟨h1,h⟩:=aO h
 ·have h:=aN h;subst h;exact(aW.b h1).ret hΓ
 ·refine((aW.b h1).a [.cn [0,1,12,13] []]).lp hΓ (E5 hΓ (fun h=>?_) (by have:=(ij.sl (hr _ (aE (i:=0) rfl))).1;simpa using this) aB 0 rfl h);have h:=aN h;subst h;exact aW.ret hΓ
def fU(aB:aD)(aY:aD):Option Bool:=(bif (aB.rel:Bytes)==aY.rel then((ol aB.args aY.args).bind fun y2=>(some y2))else(some false))
theorem nX{aB:aD}{aY:aD}{r:Bool}(h:fU aB aY=some r):Good prog 54 [D.agg (aD.c aB),D.agg (aD.c aY)] (D.bool r):=by
 refine gd func54 [[none]] 17 fun hr Γ hΓ=>?_
 rw[fU]at h;obtain⟨h1,h⟩|⟨h1,h⟩:=aO h
 ·obtain⟨y2,h3,h⟩:=aC h;have h:=aN h;subst h;exact(((aW.r 5 h1).g (wm h3)).b h1).ret hΓ
 ·have h:=aN h;subst h;exact(aW.r 6 h1).ret hΓ
def ji(aB:aL)(aY:aL):Option Bool:=(bif (aB.kind:Int)==aY.kind then(bif (aB.left:Bytes)==aY.left then(bif (aB.right:Bytes)==aY.right then((fU aB.pat aY.pat).bind fun y4=>(some y4))else(some false))else(some false))else(some false))
theorem td{aB:aL}{aY:aL}{r:Bool}(h:ji aB aY=some r):Good prog 55 [D.agg (aL.c aB),D.agg (aL.c aY)] (D.bool r):=by
 refine gd func55 [[none]] 31 fun hr Γ hΓ=>?_
 rw[ji]at h;obtain⟨h1,h⟩|⟨h1,h⟩:=aO h
 ·have pW:=(aW.r 6 h1)
  obtain⟨h2,h⟩|⟨h2,h⟩:=aO h
  ·have gr:=(pW.r 6 h2)
   obtain⟨h3,h⟩|⟨h3,h⟩:=aO h
   ·obtain⟨y4,h5,h⟩:=aC h;have h:=aN h;subst h;exact(((gr.r 5 h3).g (nX h5)).b h3).ret hΓ
   ·have h:=aN h;subst h;exact(gr.r 6 h3).ret hΓ
  ·have h:=aN h;subst h;exact((pW.r 6 h2).F 6).ret hΓ
 ·have h:=aN h;subst h;exact((aW.r 6 h1).F 12).ret hΓ
def qv(aB:aD):Option aD:=((nZ aB.args).bind fun y1=>((l8 (⟨0,aB,[],[]⟩:aL) y1).bind fun y3=>(some y3.pat)))
theorem yb{aB:aD}{r:aD}(h:qv aB=some r):Good prog 226 [D.agg (aD.c aB)] (D.agg [D.str r.rel,D.fr 9 1 (r.args.map tx)]):=by
 refine gd func226 [[none,some (9,1)]] 10 fun hr Γ hΓ=>?_
 rw[qv]at h;obtain⟨y1,h2,h⟩:=aC h;obtain⟨y3,h4,h⟩:=aC h;cases h;exact((((aW.a [.n 5]).g (wJ h2)).a [.d (D.agg [D.int .i64 y3.kind,D.str y3.pat.rel,D.fr 9 1 (y3.pat.args.map tx),D.str y3.left,D.str y3.right])]).w (show Good prog 224 [D.agg [D.int .i64 0,D.str aB.rel,D.sl (aB.args.map tx),D.str ([]),D.str ([])],D.sl (y1.map aR.c)] (D.agg [D.int .i64 y3.kind,D.str y3.pat.rel,D.fr 9 1 (y3.pat.args.map tx),D.str y3.left,D.str y3.right])from by first| (simpa only[bG,av,bZ,bh,bn]using oI h4)|exact oI h4| (have t:=oI h4;simp only[bG,bh,bn,aL.c]at t;exact t))).ret hΓ
def cS(x:aI):aP:=[D.fr 80 4 (x.rules.map aK.c),D.fr 3 1 (x.ends.map jf),D.fr 93 3 (x.bE.map aZ.c),D.fr 50 8 (x.nodes.map Node.c),D.fr 37 2 (x.facts.map aD.c),D.int .i64 x.cG]
def ed(aB:aI)(aY:aD)(k1:Option (aI×Int)):bN->Nat->Option (aI×Int)
 | [],i1=>(k1)
 |bU::cO,i1=>((fU bU.shape aY).bind fun rL=>(bif rL then(some (aB,(i1:Int)))else(ed aB aY k1 cO (i1+1))))
def iI(aB:aI)(aY:aD):Option (aI×Int):=(bif decide (aB.bE.length<=maxLen)then(ed aB aY (bif room ((aB.bE.map aZ.c).length+([[D.str aY.rel,D.sl (aY.args.map tx),D.sl ([])]]).length) 64 then(some ((⟨aB.rules,aB.ends,aB.bE++([(⟨aY,[]⟩:aZ)]),aB.nodes,aB.facts,aB.cG⟩:aI),IntKind.i64.wrap ((((aB.bE.map aZ.c)++([[D.str aY.rel,D.sl (aY.args.map tx),D.sl ([])]])).length:Int)-1)))else none) aB.bE 0)else none)
def zV(kn:Value)(aB:aI)(aY:aD)(dQ:Int):St:=⟨[(0,D.ptr 0 0),(3,D.ptr 1 0),(10,D.acc 2),(11,D.int .i64 ((aB.bE.map aZ.c).length:Int)),(12,D.int .i64 dQ)],[Ob.DU [D.acc 3,D.acc 4,D.acc 2,D.acc 5,D.acc 6,D.int .i64 aB.cG] kn,Ob.box [D.str aY.rel,D.acc 7],Ob.row .uq 93 3 (aB.bE.map aZ.c),Ob.row .uq 80 4 (aB.rules.map aK.c),Ob.row .uq 3 1 (aB.ends.map jf),Ob.row .uq 50 8 (aB.nodes.map Node.c),Ob.row .uq 37 2 (aB.facts.map aD.c),Ob.row .uq 9 1 (aY.args.map tx)]⟩
theorem yt(hΓ:Γ.nt=40){kn:Value}{aB:aI}{aY:aD}{r:aI×Int}{k1:Option (aI×Int)}(eF:k1=some r->Ax Γ N f225 (.p [[some (80,4),some (3,1),some (93,3),some (50,8),some (37,2),none],[none]] kn (cS r.1) (D.int .i64 r.2)) [1,1] ⟨[(0,D.ptr 0 0),(3,D.ptr 1 0)],[Ob.DU [D.acc 2,D.acc 3,D.acc 4,D.acc 5,D.acc 6,D.int .i64 aB.cG] kn,Ob.box [D.str aY.rel,D.acc 7],Ob.row .uq 80 4 (aB.rules.map aK.c),Ob.row .uq 3 1 (aB.ends.map jf),Ob.row .uq 93 3 (aB.bE.map aZ.c),Ob.row .uq 50 8 (aB.nodes.map Node.c),Ob.row .uq 37 2 (aB.facts.map aD.c),Ob.row .uq 9 1 (aY.args.map tx)]⟩)(hm1:aB.bE.length<=maxLen):∀(rest:bN) (i1:Nat),aB.bE.drop i1=rest->ed aB aY k1 rest i1=some r->Ar Γ N f225 (.p [[some (80,4),some (3,1),some (93,3),some (50,8),some (37,2),none],[none]] kn (cS r.1) (D.int .i64 r.2)) [1,0,1,0] (rest.length+1) (zV kn aB aY (i1:Int)):=by
 intro rest
 induction rest with
 |nil=>
  intro i1 b8 h;rw[ed]at h;refine aU fun N1 cc cL=>?_
  exact((aW.ge aZ.c b8).a [.hl 0 [0,3] [0,1,3,4,2,5,6,7]]).ex hΓ cc (eF h)
 |cons bU cO ih1=>
  intro i1 b8 h;rw[ed]at h;refine aU fun N1 cc cL=>?_
  obtain⟨rL,h23,h⟩:=aC h;have gr:=((((aW.lt aZ.c b8).i (mO aZ.c 3 (dc b8))).o 3 3 .uq (cV aZ.c (dc b8))).g (nX h23))
  obtain⟨h24,h⟩|⟨h24,h⟩:=aO h
  ·cases h;exact(gr.b h24).ret hΓ
  ·exact((gr.b h24).a [.cn [0,3,10,11,12] [0,1,2,3,4,5,6,7]]).ct hΓ cL (iS b8 hm1) (ih1 (i1+1) (dn b8) h)
theorem sD{aB:aI}{aY:aD}{r:aI×Int}(h:iI aB aY=some r):kA prog 225 (cS aB) (cS r.1) [D.agg [D.str aY.rel,D.fr 9 1 (aY.args.map tx)]] (D.int .i64 r.2):=by
 refine Lx func225 [[some (80,4),some (3,1),some (93,3),some (50,8),some (37,2),none],[none]] 40 [D.acc 1,D.acc 2,D.acc 3,D.acc 4,D.acc 5,D.int .i64 aB.cG] [D.agg [D.str aY.rel,D.acc 6]] [Ob.row .uq 80 4 (aB.rules.map aK.c),Ob.row .uq 3 1 (aB.ends.map jf),Ob.row .uq 93 3 (aB.bE.map aZ.c),Ob.row .uq 50 8 (aB.nodes.map Node.c),Ob.row .uq 37 2 (aB.facts.map aD.c),Ob.row .uq 9 1 (aY.args.map tx)] fun hr kn Γ hΓ=>?_
 rw[iI]at h;obtain⟨h27,h⟩:=bX h;refine(aW.a [.cn [0,3,10,11,12] [0,7,3,1,2,4,5,6]]).lp hΓ (yt hΓ (fun h=>?_) (bY h27) aB.bE 0 rfl h);obtain⟨h26,h⟩:=bX h;cases h;exact((aW.w (bq h26)).a [.n2 [0,1,2,3,4,5,6,7,8,9,10,11] [0,1,2,3,4,5,6,7,8,9,10,11] 7 9 [0,1,2,3,4] [4,7,8]]).rts hΓ (D.iE [D.int .i64 (IntKind.i64.wrap ((((aB.bE.map aZ.c)++([[D.str aY.rel,D.sl (aY.args.map tx),D.sl ([])]])).length:Int)-1)),D.agg [D.fr 80 4 (aB.rules.map aK.c),D.fr 3 1 (aB.ends.map jf),D.fr 93 3 ((aB.bE.map aZ.c)++([[D.str aY.rel,D.sl (aY.args.map tx),D.sl ([])]])),D.fr 50 8 (aB.nodes.map Node.c),D.fr 37 2 (aB.facts.map aD.c),D.int .i64 aB.cG],D.val kn]) (by first|rfl| (simp only[mA]<;>rfl)| (simp only[cS,mA]<;>rfl))
def dF(aB:aI)(aY:Int)(cT:aL)(k1:Option (aI×Int)):bL->Nat->Option (aI×Int)
 | [],i1=>(k1)
 |bU::cO,i1=>(bif decide (((i1:Int):Int)>0)then(bif (bU.parent:Int)==aY then((ji bU.cond cT).bind fun O9=>(bif O9 then(some (aB,(i1:Int)))else(dF aB aY cT k1 cO (i1+1))))else(dF aB aY cT k1 cO (i1+1)))else(dF aB aY cT k1 cO (i1+1)))
def kB(aB:aI)(aY:Int)(cT:aL):Option (aI×Int):=(bif decide (aB.nodes.length<=maxLen)then(dF aB aY cT (bif (cT.kind:Int)==1 then((qv cT.pat).bind fun Pf=>((iI aB Pf).bind fun NQ=>((fK cT).bind fun Mz=>(bif room ((NQ.1.nodes.map Node.c).length+([[D.int .i64 aY,D.int .i64 Mz.kind,D.str Mz.pat.rel,D.sl (Mz.pat.args.map tx),D.str Mz.left,D.str Mz.right,D.int .i64 NQ.2,D.sl ([])]]).length) 120 then(some ((⟨NQ.1.rules,NQ.1.ends,NQ.1.bE,NQ.1.nodes++([(⟨aY,Mz,NQ.2,[]⟩:Node)]),NQ.1.facts,NQ.1.cG⟩:aI),IntKind.i64.wrap ((((NQ.1.nodes.map Node.c)++([[D.int .i64 aY,D.int .i64 Mz.kind,D.str Mz.pat.rel,D.sl (Mz.pat.args.map tx),D.str Mz.left,D.str Mz.right,D.int .i64 NQ.2,D.sl ([])]])).length:Int)-1)))else none))))else(bif (cT.kind:Int)==2 then((qv cT.pat).bind fun y47=>((iI aB y47).bind fun KM=>((fK cT).bind fun JR=>(bif room ((KM.1.nodes.map Node.c).length+([[D.int .i64 aY,D.int .i64 JR.kind,D.str JR.pat.rel,D.sl (JR.pat.args.map tx),D.str JR.left,D.str JR.right,D.int .i64 KM.2,D.sl ([])]]).length) 120 then(some ((⟨KM.1.rules,KM.1.ends,KM.1.bE,KM.1.nodes++([(⟨aY,JR,KM.2,[]⟩:Node)]),KM.1.facts,KM.1.cG⟩:aI),IntKind.i64.wrap ((((KM.1.nodes.map Node.c)++([[D.int .i64 aY,D.int .i64 JR.kind,D.str JR.pat.rel,D.sl (JR.pat.args.map tx),D.str JR.left,D.str JR.right,D.int .i64 KM.2,D.sl ([])]])).length:Int)-1)))else none))))else((fK cT).bind fun N6=>(bif room ((aB.nodes.map Node.c).length+([[D.int .i64 aY,D.int .i64 N6.kind,D.str N6.pat.rel,D.sl (N6.pat.args.map tx),D.str N6.left,D.str N6.right,D.int .i64 (-1),D.sl ([])]]).length) 120 then(some ((⟨aB.rules,aB.ends,aB.bE,aB.nodes++([(⟨aY,N6, -1,[]⟩:Node)]),aB.facts,aB.cG⟩:aI),IntKind.i64.wrap ((((aB.nodes.map Node.c)++([[D.int .i64 aY,D.int .i64 N6.kind,D.str N6.pat.rel,D.sl (N6.pat.args.map tx),D.str N6.left,D.str N6.right,D.int .i64 (-1),D.sl ([])]])).length:Int)-1)))else none)))) aB.nodes 0)else none)
def zW(kn:Value)(aB:aI)(aY:Int)(cT:aL)(dQ:Int):St:=⟨[(0,D.ptr 0 0),(1,D.int .i64 aY),(5,D.ptr 1 0),(13,D.acc 2),(14,D.int .i64 ((aB.nodes.map Node.c).length:Int)),(15,D.int .i64 dQ)],[Ob.DU [D.acc 3,D.acc 4,D.acc 5,D.acc 2,D.acc 6,D.int .i64 aB.cG] kn,Ob.box (aL.c cT),Ob.row .uq 50 8 (aB.nodes.map Node.c),Ob.row .uq 80 4 (aB.rules.map aK.c),Ob.row .uq 3 1 (aB.ends.map jf),Ob.row .uq 93 3 (aB.bE.map aZ.c),Ob.row .uq 37 2 (aB.facts.map aD.c)]⟩
theorem yu(hΓ:Γ.nt=69){kn:Value}{aB:aI}{aY:Int}{cT:aL}{r:aI×Int}{k1:Option (aI×Int)}(eF:k1=some r->Ax Γ N f167 (.p [[some (80,4),some (3,1),some (93,3),some (50,8),some (37,2),none],[none]] kn (cS r.1) (D.int .i64 r.2)) [1,1] ⟨[(0,D.ptr 0 0),(1,D.int .i64 aY),(5,D.ptr 1 0)],[Ob.DU [D.acc 2,D.acc 3,D.acc 4,D.acc 5,D.acc 6,D.int .i64 aB.cG] kn,Ob.box (aL.c cT),Ob.row .uq 80 4 (aB.rules.map aK.c),Ob.row .uq 3 1 (aB.ends.map jf),Ob.row .uq 93 3 (aB.bE.map aZ.c),Ob.row .uq 50 8 (aB.nodes.map Node.c),Ob.row .uq 37 2 (aB.facts.map aD.c)]⟩)(hm1:aB.nodes.length<=maxLen):∀(rest:bL) (i1:Nat),aB.nodes.drop i1=rest->dF aB aY cT k1 rest i1=some r->Ar Γ N f167 (.p [[some (80,4),some (3,1),some (93,3),some (50,8),some (37,2),none],[none]] kn (cS r.1) (D.int .i64 r.2)) [1,0,1,0] (rest.length+1) (zW kn aB aY cT (i1:Int)):=by
 intro rest
 induction rest with
 |nil=>
  intro i1 b8 h;rw[dF]at h;refine aU fun N1 cc cL=>?_
  exact((aW.ge Node.c b8).a [.hl 0 [0,1,5] [0,1,3,4,5,2,6]]).ex hΓ cc (eF h)
 |cons bU cO ih1=>
  intro i1 b8 h;rw[dF]at h;refine aU fun N1 cc cL=>?_
  have ko:=(((aW.lt Node.c b8).i (mO Node.c 8 (dc b8))).o 8 8 .uq (cV Node.c (dc b8)))
  obtain⟨h30,h⟩|⟨h30,h⟩:=aO h
  ·have tN:=(ko.r 5 h30)
   obtain⟨h31,h⟩|⟨h31,h⟩:=aO h
   ·obtain⟨O9,h33,h⟩:=aC h;have xp:=(((tN.r 4 h31).g (td h33)).b h31)
    obtain⟨h34,h⟩|⟨h34,h⟩:=aO h
    ·cases h;exact(xp.b h34).ret hΓ
    ·exact((xp.b h34).a [.cn [0,1,5,13,14,15] [0,1,2,3,4,5,6]]).ct hΓ cL (iS b8 hm1) (ih1 (i1+1) (dn b8) h)
   ·exact(((tN.r 5 h31).F 1).a [.cn [0,1,5,13,14,15] [0,1,2,3,4,5,6]]).ct hΓ cL (iS b8 hm1) (ih1 (i1+1) (dn b8) h)
  ·exact(((ko.r 5 h30).F 6).a [.cn [0,1,5,13,14,15] [0,1,2,3,4,5,6]]).ct hΓ cL (iS b8 hm1) (ih1 (i1+1) (dn b8) h)
theorem yK{aB:aI}{aY:Int}{cT:aL}{r:aI×Int}(h:kB aB aY cT=some r):kA prog 167 (cS aB) (cS r.1) [D.int .i64 aY,D.agg (aL.c cT)] (D.int .i64 r.2):=by
 refine Lx func167 [[some (80,4),some (3,1),some (93,3),some (50,8),some (37,2),none],[none]] 69 [D.acc 1,D.acc 2,D.acc 3,D.acc 4,D.acc 5,D.int .i64 aB.cG] [D.int .i64 aY,D.agg [D.int .i64 cT.kind,D.str cT.pat.rel,D.sl (cT.pat.args.map tx),D.str cT.left,D.str cT.right]] [Ob.row .uq 80 4 (aB.rules.map aK.c),Ob.row .uq 3 1 (aB.ends.map jf),Ob.row .uq 93 3 (aB.bE.map aZ.c),Ob.row .uq 50 8 (aB.nodes.map Node.c),Ob.row .uq 37 2 (aB.facts.map aD.c)] fun hr kn Γ hΓ=>?_
 rw[kB]at h;obtain⟨h63,h⟩:=bX h;refine(aW.a [.cn [0,1,5,13,14,15] [0,6,4,1,2,3,5]]).lp hΓ (yu hΓ (fun h=>?_) (bY h63) aB.nodes 0 rfl h);obtain⟨h35,h⟩|⟨h35,h⟩:=aO h
 ·obtain⟨Pf,h37,h⟩:=aC h;obtain⟨NQ,h39,h⟩:=aC h;obtain⟨Mz,h44,h⟩:=aC h;obtain⟨h45,h⟩:=bX h;cases h;exact(((((((aW.r 4 h35).T 1).g (yb h37)).hp [[some (80,4),some (3,1),some (93,3),some (50,8),some (37,2),none],[none,some (9,1)]] (sD h39)).a [.n2 [0,1,2,3,4,5,6,7,8,9,10,11,12,13,14] [0,1,2,3,4,5,6,7,8,9,10,11,12,13,14] 10 12 [0,1,2,3,4] [11,13,14]]).g (kI h44)).w (bq h45)).rts hΓ (D.iE [D.int .i64 (IntKind.i64.wrap ((((NQ.1.nodes.map Node.c)++([[D.int .i64 aY,D.int .i64 Mz.kind,D.str Mz.pat.rel,D.sl (Mz.pat.args.map tx),D.str Mz.left,D.str Mz.right,D.int .i64 NQ.2,D.sl ([])]])).length:Int)-1)),D.agg [D.fr 80 4 (NQ.1.rules.map aK.c),D.fr 3 1 (NQ.1.ends.map jf),D.fr 93 3 (NQ.1.bE.map aZ.c),D.fr 50 8 ((NQ.1.nodes.map Node.c)++([[D.int .i64 aY,D.int .i64 Mz.kind,D.str Mz.pat.rel,D.sl (Mz.pat.args.map tx),D.str Mz.left,D.str Mz.right,D.int .i64 NQ.2,D.sl ([])]])),D.fr 37 2 (NQ.1.facts.map aD.c),D.int .i64 NQ.1.cG],D.val kn]) (by first|rfl| (simp only[mA]<;>rfl)| (simp only[cS,mA]<;>rfl))
 ·have B0:=(aW.r 4 h35)
  obtain⟨h46,h⟩|⟨h46,h⟩:=aO h
  ·obtain⟨y47,h48,h⟩:=aC h;obtain⟨KM,h50,h⟩:=aC h;obtain⟨JR,h55,h⟩:=aC h;obtain⟨h56,h⟩:=bX h;cases h;exact((((((B0.b h46).g (yb h48)).hp [[some (80,4),some (3,1),some (93,3),some (50,8),some (37,2),none],[none,some (9,1)]] (sD h50)).a [.n2 [0,1,2,3,4,5,6,7,8,9,10,11,12,13,14] [0,1,2,3,4,5,6,7,8,9,10,11,12,13,14] 10 12 [0,1,2,3,4] [11,13,14]]).g (kI h55)).w (bq h56)).rts hΓ (D.iE [D.int .i64 (IntKind.i64.wrap ((((KM.1.nodes.map Node.c)++([[D.int .i64 aY,D.int .i64 JR.kind,D.str JR.pat.rel,D.sl (JR.pat.args.map tx),D.str JR.left,D.str JR.right,D.int .i64 KM.2,D.sl ([])]])).length:Int)-1)),D.agg [D.fr 80 4 (KM.1.rules.map aK.c),D.fr 3 1 (KM.1.ends.map jf),D.fr 93 3 (KM.1.bE.map aZ.c),D.fr 50 8 ((KM.1.nodes.map Node.c)++([[D.int .i64 aY,D.int .i64 JR.kind,D.str JR.pat.rel,D.sl (JR.pat.args.map tx),D.str JR.left,D.str JR.right,D.int .i64 KM.2,D.sl ([])]])),D.fr 37 2 (KM.1.facts.map aD.c),D.int .i64 KM.1.cG],D.val kn]) (by first|rfl| (simp only[mA]<;>rfl)| (simp only[cS,mA]<;>rfl))
  ·obtain⟨N6,h61,h⟩:=aC h;obtain⟨h62,h⟩:=bX h;cases h;exact((((B0.b h46).a [.n2 [0,1,2,3,4,5,6,7,8,9,10,11,12,13,14] [0,1,2,3,4,5,6,7,8,9,10,11,12,13,14] 10 12 [0,1,2,3,4] [5,7,8]]).g (kI h61)).w (bq h62)).rts hΓ (D.iE [D.int .i64 (IntKind.i64.wrap ((((aB.nodes.map Node.c)++([[D.int .i64 aY,D.int .i64 N6.kind,D.str N6.pat.rel,D.sl (N6.pat.args.map tx),D.str N6.left,D.str N6.right,D.int .i64 (-1),D.sl ([])]])).length:Int)-1)),D.agg [D.fr 80 4 (aB.rules.map aK.c),D.fr 3 1 (aB.ends.map jf),D.fr 93 3 (aB.bE.map aZ.c),D.fr 50 8 ((aB.nodes.map Node.c)++([[D.int .i64 aY,D.int .i64 N6.kind,D.str N6.pat.rel,D.sl (N6.pat.args.map tx),D.str N6.left,D.str N6.right,D.int .i64 (-1),D.sl ([])]])),D.fr 37 2 (aB.facts.map aD.c),D.int .i64 aB.cG],D.val kn]) (by first|rfl| (simp only[mA]<;>rfl)| (simp only[cS,mA]<;>rfl))
def jJ(aB:ai)(i1:Nat)(Ho:ah)(k2:Int->Int->ai->bJ->bN->bL->aJ->Option aI):ah->Nat->Int->Int->ai->bJ->bN->bL->aJ->Option aI
 | [],i2,qJ,o7,B4,jj,uT,kq,B5=>(k2 qJ o7 B4 jj uT kq B5)
 |jg::tR,i2,qJ,o7,B4,jj,uT,kq,B5=>((kB (⟨B4,jj,uT,kq,B5,o7⟩:aI) qJ jg).bind fun xK=>(jJ aB i1 Ho k2 tR (i2+1) xK.2 xK.1.cG xK.1.rules xK.1.ends xK.1.bE xK.1.nodes xK.1.facts))
def jI(aB:ai)(k1:Int->ai->bJ->bN->bL->aJ->Option aI):ai->Nat->Int->ai->bJ->bN->bL->aJ->Option aI
 | [],i1,o6,lQ,cz,B2,nQ,B3=>(k1 o6 lQ cz B2 nQ B3)
 |bU::cO,i1,o6,lQ,cz,B2,nQ,B3=>((q8 bU).bind fun Ho=>(bif decide (Ho.length<=maxLen)then(jJ aB i1 Ho (fun(F4:Int) (vV:Int) (Hg:ai) (vU:bJ) (Hh:bN) (ot:bL) (Hi:aJ)=>(bif room ((vU.map jf).length+([[D.int .i64 F4]]).length) 8 then(jI aB k1 cO (i1+1) vV Hg (vU++([F4])) Hh ot Hi)else none)) Ho 0 0 o6 lQ cz B2 nQ B3)else none))
def rC(aB:ai):Option aI:=((og aB).bind fun y1=>(jI aB (fun(uA:Int) (oN:ai) (fA:bJ) (Ma:bN) (nP:bL) (Mb:aJ)=>(some (⟨oN,fA,Ma,nP,Mb,uA⟩:aI))) aB 0 0 y1 ([]:bJ) ([]:bN) ([(⟨-1,(⟨0,(⟨[],[]⟩:aD),[],[]⟩:aL), -1,[]⟩:Node)]) ([]:aJ)))
def ue(aB:ai)(o6:Int)(W1:List aP)(W2:List aP)(W3:List aP)(W4:List aP)(W5:List aP)(dQ:Int):St:=⟨[(2,D.ptr 0 0),(3,D.ptr 1 0),(14,D.sl (aB.map aK.c)),(15,D.int .i64 ((aB.map aK.c).length:Int)),(16,D.int .i64 dQ)],[Ob.box [D.nil,D.nil,D.nil,D.nil,D.nil,D.int .i64 0],Ob.box [D.acc 2,D.acc 3,D.acc 4,D.acc 5,D.acc 6,D.int .i64 o6],Ob.row .uq 80 4 W1,Ob.row .uq 3 1 W2,Ob.row .uq 93 3 W3,Ob.row .uq 50 8 W4,Ob.row .uq 37 2 W5]⟩
def Fe(aB:ai)(i1:Nat)(Ho:ah)(qJ:Int)(o7:Int)(W2:List aP)(W3:List aP)(W4:List aP)(W5:List aP)(W6:List aP)(dQ:Int):St:=⟨[(2,D.ptr 0 0),(3,D.ptr 1 0),(6,D.int .i64 qJ),(14,D.sl (aB.map aK.c)),(15,D.int .i64 ((aB.map aK.c).length:Int)),(16,D.int .i64 (i1:Int)),(21,D.acc 2),(22,D.int .i64 ((Ho.map aL.c).length:Int)),(23,D.int .i64 dQ)],[Ob.box [D.nil,D.nil,D.nil,D.nil,D.nil,D.int .i64 0],Ob.box [D.acc 3,D.acc 4,D.acc 5,D.acc 6,D.acc 7,D.int .i64 o7],Ob.row .uq 47 5 (Ho.map aL.c),Ob.row .uq 80 4 W2,Ob.row .uq 3 1 W3,Ob.row .uq 93 3 W4,Ob.row .uq 50 8 W5,Ob.row .uq 37 2 W6]⟩
theorem E8(hΓ:Γ.nt=39){aB:ai}{i1:Nat}{Ho:ah}{r:aI}{k2:Int->Int->ai->bJ->bN->bL->aJ->Option aI}(B7:∀(F4:Int) (vV:Int) (Hg:ai) (vU:bJ) (Hh:bN) (ot:bL) (Hi:aJ),k2 F4 vV Hg vU Hh ot Hi=some r->Ax Γ N f99 (.q [[some (80,4),some (3,1),some (93,3),some (50,8),some (37,2),none]] (D.agg [D.fr 80 4 (r.rules.map aK.c),D.fr 3 1 (r.ends.map jf),D.fr 93 3 (r.bE.map aZ.c),D.fr 50 8 (r.nodes.map Node.c),D.fr 37 2 (r.facts.map aD.c),D.int .i64 r.cG])) [1,1,0,1,0,0,1,1,0,0,1,1,1] ⟨[(2,D.ptr 0 0),(3,D.ptr 1 0),(6,D.int .i64 F4),(14,D.sl (aB.map aK.c)),(15,D.int .i64 ((aB.map aK.c).length:Int)),(16,D.int .i64 (i1:Int))],[Ob.box [D.nil,D.nil,D.nil,D.nil,D.nil,D.int .i64 0],Ob.box [D.acc 2,D.acc 3,D.acc 4,D.acc 5,D.acc 6,D.int .i64 vV],Ob.row .uq 80 4 (Hg.map aK.c),Ob.row .uq 3 1 (vU.map jf),Ob.row .uq 93 3 (Hh.map aZ.c),Ob.row .uq 50 8 (ot.map Node.c),Ob.row .uq 37 2 (Hi.map aD.c)]⟩)(hm2:Ho.length<=maxLen):∀(rest:ah) (i2:Nat) (qJ:Int) (o7:Int) (B4:ai) (jj:bJ) (uT:bN) (kq:bL) (B5:aJ),Ho.drop i2=rest->jJ aB i1 Ho k2 rest i2 qJ o7 B4 jj uT kq B5=some r->Ar Γ N f99 (.q [[some (80,4),some (3,1),some (93,3),some (50,8),some (37,2),none]] (D.agg [D.fr 80 4 (r.rules.map aK.c),D.fr 3 1 (r.ends.map jf),D.fr 93 3 (r.bE.map aZ.c),D.fr 50 8 (r.nodes.map Node.c),D.fr 37 2 (r.facts.map aD.c),D.int .i64 r.cG])) [1,1,0,1,0,0,1,1,0,0,1,1,0,1,0] (rest.length+1) (Fe aB i1 Ho qJ o7 (B4.map aK.c) (jj.map jf) (uT.map aZ.c) (kq.map Node.c) (B5.map aD.c) (i2:Int)):=by
 intro rest
 induction rest with
 |nil=>
  intro i2 qJ o7 B4 jj uT kq B5 hd2 h;rw[jJ]at h;refine aU fun N2 vv tQ=>?_
  exact((aW.ge aL.c hd2).a [.hl 5 [2,3,6,14,15,16] [0,1,3,4,5,6,7]]).ex hΓ vv (B7 qJ o7 B4 jj uT kq B5 h)
 |cons jg tR ih2=>
  intro i2 qJ o7 B4 jj uT kq B5 hd2 h;rw[jJ]at h;refine aU fun N2 vv tQ=>?_
  obtain⟨xK,h209,h⟩:=aC h;exact((((((aW.lt aL.c hd2).i (mO aL.c 5 (dc hd2))).o 5 5 .uq (cV aL.c (dc hd2))).a [.gp [[some (80,4),some (3,1),some (93,3),some (50,8),some (37,2),none],[none],[none,none,none,none,none]] (cS xK.1) (D.int .i64 xK.2)]).w (show kA prog 167 (cS (⟨B4,jj,uT,kq,B5,o7⟩:aI)) (cS xK.1) [D.int .i64 qJ,D.agg (aL.c jg)] (D.int .i64 xK.2)from by simpa only[bG,av,bZ,bh,bn]using yK h209)).a [.cn [2,3,6,14,15,16,21,22,23] [0,1,2,9,10,11,12,13]]).ct hΓ tQ (iS hd2 hm2) (ih2 (i2+1) xK.2 xK.1.cG xK.1.rules xK.1.ends xK.1.bE xK.1.nodes xK.1.facts (dn hd2) h)
theorem E7(hΓ:Γ.nt=39){aB:ai}{r:aI}{k1:Int->ai->bJ->bN->bL->aJ->Option aI}(eF:∀(uA:Int) (oN:ai) (fA:bJ) (Ma:bN) (nP:bL) (Mb:aJ),k1 uA oN fA Ma nP Mb=some r->Ax Γ N f99 (.q [[some (80,4),some (3,1),some (93,3),some (50,8),some (37,2),none]] (D.agg [D.fr 80 4 (r.rules.map aK.c),D.fr 3 1 (r.ends.map jf),D.fr 93 3 (r.bE.map aZ.c),D.fr 50 8 (r.nodes.map Node.c),D.fr 37 2 (r.facts.map aD.c),D.int .i64 r.cG])) [1,1,1] ⟨[(2,D.ptr 0 0),(3,D.ptr 1 0)],[Ob.box [D.nil,D.nil,D.nil,D.nil,D.nil,D.int .i64 0],Ob.box [D.acc 2,D.acc 3,D.acc 4,D.acc 5,D.acc 6,D.int .i64 uA],Ob.row .uq 80 4 (oN.map aK.c),Ob.row .uq 3 1 (fA.map jf),Ob.row .uq 93 3 (Ma.map aZ.c),Ob.row .uq 50 8 (nP.map Node.c),Ob.row .uq 37 2 (Mb.map aD.c)]⟩)(hm1:aB.length<=maxLen):∀(rest:ai) (i1:Nat) (o6:Int) (lQ:ai) (cz:bJ) (B2:bN) (nQ:bL) (B3:aJ),aB.drop i1=rest->jI aB k1 rest i1 o6 lQ cz B2 nQ B3=some r->Ar Γ N f99 (.q [[some (80,4),some (3,1),some (93,3),some (50,8),some (37,2),none]] (D.agg [D.fr 80 4 (r.rules.map aK.c),D.fr 3 1 (r.ends.map jf),D.fr 93 3 (r.bE.map aZ.c),D.fr 50 8 (r.nodes.map Node.c),D.fr 37 2 (r.facts.map aD.c),D.int .i64 r.cG])) [1,1,0,1,0] (rest.length+1) (ue aB o6 (lQ.map aK.c) (cz.map jf) (B2.map aZ.c) (nQ.map Node.c) (B3.map aD.c) (i1:Int)):=by
 intro rest
 induction rest with
 |nil=>
  intro i1 o6 lQ cz B2 nQ B3 b8 h;rw[jI]at h;refine aU fun N1 cc cL=>?_
  exact((aW.ge aK.c b8).a [.hl 0 [2,3] [0,1,2,3,4,5,6]]).ex hΓ cc (eF o6 lQ cz B2 nQ B3 h)
 |cons bU cO ih1=>
  intro i1 o6 lQ cz B2 nQ B3 b8 h;rw[jI]at h;refine aU fun N1 cc cL=>?_
  obtain⟨Ho,h180,h⟩:=aC h;obtain⟨h211,h⟩:=bX h;refine((((aW.lt aK.c b8).l (bO aK.c 4 (dc b8) rfl)).g (C7 h180)).a [.cn [2,3,6,14,15,16,21,22,23] [0,1,8,2,3,4,5,6]]).lp hΓ (E8 hΓ (fun F4 vV Hg vU Hh ot Hi h=>?_) (bY h211) Ho 0 0 o6 lQ cz B2 nQ B3 rfl h);obtain⟨h210,h⟩:=bX h;exact((aW.w (bq h210)).a [.cn [2,3,14,15,16] [0,1,2,8,4,5,6]]).cs hΓ cL (ue aB vV (Hg.map aK.c) ((vU.map jf)++([[D.int .i64 F4]])) (Hh.map aZ.c) (ot.map Node.c) (Hi.map aD.c) (IntKind.i64.wrap ((i1:Int)+1))) (by first| (simp only[iS b8 hm1,mA]<;>rfl)| (simp only[iS b8 hm1,mA,aD.c,aR.c,aL.c,Action.c,aK.c,aT.c,bS.c,aZ.c,Node.c,aI.c,dU.c]<;>rfl)) (ih1 (i1+1) vV Hg (vU++([F4])) Hh ot Hi (dn b8) h)
theorem DC{aB:ai}{r:aI}(h:rC aB=some r):Good prog 99 [D.sl (aB.map aK.c)] (D.agg [D.fr 80 4 (r.rules.map aK.c),D.fr 3 1 (r.ends.map jf),D.fr 93 3 (r.bE.map aZ.c),D.fr 50 8 (r.nodes.map Node.c),D.fr 37 2 (r.facts.map aD.c),D.int .i64 r.cG]):=by
 refine gd func99 [[some (80,4),some (3,1),some (93,3),some (50,8),some (37,2),none]] 39 fun hr Γ hΓ=>?_
 rw[rC]at h;obtain⟨y1,h2,h⟩:=aC h;refine((aW.g (wj h2)).a [.pb 3 1 3 1,.pb 3 2 93 3,.pb 3 4 37 2,.cn [2,3,14,15,16] [0,3,1,4,5,2,6]]).lps hΓ (ue aB 0 (y1.map aK.c) ([]:List aP) ([]:List aP) ([[D.int .i64 (-1),D.int .i64 0,D.str ([]),D.sl ([]),D.str ([]),D.str ([]),D.int .i64 (-1),D.sl ([])]]) ([]:List aP) 0) (by first| (simp only[mA]<;>rfl)| (simp only[mA,aD.c,aR.c,aL.c,Action.c,aK.c,aT.c,bS.c,aZ.c,Node.c,aI.c,dU.c]<;>rfl)) (E7 hΓ (fun uA oN fA Ma nP Mb h=>?_) (by have:=(ij.sl (hr _ (aE (i:=0) rfl))).1;simpa using this) aB 0 0 y1 ([]:bJ) ([]:bN) ([(⟨-1,(⟨0,(⟨[],[]⟩:aD),[],[]⟩:aL), -1,[]⟩:Node)]) ([]:aJ) rfl h);cases h;exact aW.ret hΓ
def eC(aB:aD):Option aD:=((mZ aB.args).bind fun y1=>(some (⟨aB.rel,y1⟩:aD)))
theorem gT{aB:aD}{r:aD}(h:eC aB=some r):Good prog 171 [D.agg (aD.c aB)] (D.agg [D.str r.rel,D.fr 9 1 (r.args.map tx)]):=by
 refine gd func171 [[none,some (9,1)]] 9 fun hr Γ hΓ=>?_
 rw[eC]at h;obtain⟨y1,h2,h⟩:=aC h;cases h;exact((aW.a [.n 5]).g (tF h2)).ret hΓ
def lZ(aB:aJ)(k1:aJ->Option aJ):aJ->Nat->aJ->Option aJ
 | [],i1,bP=>(k1 bP)
 |bU::cO,i1,bP=>((eC bU).bind fun oH=>(bif room ((bP.map aD.c).length+([[D.str oH.rel,D.sl (oH.args.map tx)]]).length) 40 then(lZ aB k1 cO (i1+1) (bP++([oH])))else none))
def cK(aB:aJ):Option aJ:=(lZ aB (fun(cB:aJ)=>(some cB)) aB 0 ([]:aJ))
def ye(aB:aJ)(W0:List aP)(dQ:Int):St:=⟨[(3,D.acc 0),(6,D.sl (aB.map aD.c)),(7,D.int .i64 ((aB.map aD.c).length:Int)),(8,D.int .i64 dQ)],[Ob.row .uq 37 2 W0]⟩
theorem Dx(hΓ:Γ.nt=19){aB:aJ}{r:aJ}{k1:aJ->Option aJ}(eF:∀(cB:aJ),k1 cB=some r->Ax Γ N f103 (.q [[some (37,2)]] (D.fr 37 2 (r.map aD.c))) [1,1,1] ⟨[(3,D.acc 0)],[Ob.row .uq 37 2 (cB.map aD.c)]⟩)(hm1:aB.length<=maxLen):∀(rest:aJ) (i1:Nat) (bP:aJ),aB.drop i1=rest->lZ aB k1 rest i1 bP=some r->Ar Γ N f103 (.q [[some (37,2)]] (D.fr 37 2 (r.map aD.c))) [1,1,0,1,0] (rest.length+1) (ye aB (bP.map aD.c) (i1:Int)):=by
 intro rest
 induction rest with
 |nil=>
  intro i1 bP b8 h;rw[lZ]at h;refine aU fun N1 cc cL=>?_
  exact((aW.ge aD.c b8).a [.hl 0 [3] [0]]).ex hΓ cc (eF bP h)
 |cons bU cO ih1=>
  intro i1 bP b8 h;rw[lZ]at h;refine aU fun N1 cc cL=>?_
  obtain⟨oH,h28,h⟩:=aC h;obtain⟨h29,h⟩:=bX h;exact(((((aW.lt aD.c b8).l (bO aD.c 2 (dc b8) rfl)).g (gT h28)).w (bq h29)).a [.cn [3,6,7,8] [4]]).cs hΓ cL (ye aB ((bP.map aD.c)++([[D.str oH.rel,D.sl (oH.args.map tx)]])) (IntKind.i64.wrap ((i1:Int)+1))) (by first| (simp only[iS b8 hm1,mA]<;>rfl)| (simp only[iS b8 hm1,mA,aD.c,aR.c,aL.c,Action.c,aK.c,aT.c,bS.c,aZ.c,Node.c,aI.c,dU.c]<;>rfl)) (ih1 (i1+1) (bP++([oH])) (dn b8) h)
theorem cN{aB:aJ}{r:aJ}(h:cK aB=some r):Good prog 103 [D.sl (aB.map aD.c)] (D.fr 37 2 (r.map aD.c)):=by
 refine gd func103 [[some (37,2)]] 19 fun hr Γ hΓ=>?_
 rw[cK]at h;refine(aW.a [.JV 3,.cn [3,6,7,8] [0]]).lp hΓ (Dx hΓ (fun cB h=>?_) (by have:=(ij.sl (hr _ (aE (i:=0) rfl))).1;simpa using this) aB 0 ([]:aJ) rfl h);have h:=aN h;subst h;exact aW.ret hΓ
def oc(aB:aD)(k1:Option Bool):aG->Nat->Option Bool
 | [],i1=>(k1)
 |bU::cO,i1=>((fT bU).bind fun vI=>(bif !(vI)then(some false)else(oc aB k1 cO (i1+1))))
def oQ(aB:aD):Option Bool:=((qR aB.rel).bind fun y1=>(bif !(y1)then(some false)else(bif decide ((((aB.args.map tx).length:Int):Int)>3)then(some false)else(oc aB (some true) aB.args 0))))
def Jc(aB:aD)(dQ:Int):St:=⟨[(16,D.sl (aB.args.map tx)),(17,D.int .i64 ((aB.args.map tx).length:Int)),(18,D.int .i64 dQ)],[]⟩
theorem I8(hΓ:Γ.nt=26){aB:aD}{r:Bool}{k1:Option Bool}(eF:k1=some r->Ax Γ N f110 (.q [[none]] (D.bool r)) [1,1,1] ⟨[],[]⟩)(hm1:aB.args.length<=maxLen):∀(rest:aG) (i1:Nat),aB.args.drop i1=rest->oc aB k1 rest i1=some r->Ar Γ N f110 (.q [[none]] (D.bool r)) [1,1,0,1,0] (rest.length+1) (Jc aB (i1:Int)):=by
 intro rest
 induction rest with
 |nil=>
  intro i1 b8 h;rw[oc]at h;refine aU fun N1 cc cL=>?_
  exact((aW.ge tx b8).a [.hl 0 [] []]).ex hΓ cc (eF h)
 |cons bU cO ih1=>
  intro i1 b8 h;rw[oc]at h;refine aU fun N1 cc cL=>?_
  obtain⟨vI,h26,h⟩:=aC h;have gr:=(((aW.lt tx b8).l (bO tx 1 (dc b8) rfl)).g (eg h26))
  obtain⟨h27,h⟩|⟨h27,h⟩:=aO h
  ·have h:=aN h;subst h;exact(gr.b h27).ret hΓ
  ·exact((gr.b h27).a [.cn [16,17,18] []]).ct hΓ cL (iS b8 hm1) (ih1 (i1+1) (dn b8) h)
theorem vL{aB:aD}{r:Bool}(h:oQ aB=some r):Good prog 110 [D.agg (aD.c aB)] (D.bool r):=by
 refine gd func110 [[none]] 26 fun hr Γ hΓ=>?_
 rw[oQ]at h;obtain⟨y1,h2,h⟩:=aC h;obtain⟨h3,h⟩|⟨h3,h⟩:=aO h
 ·have h:=aN h;subst h;exact(((aW.g (mU h2)).r 5 h3).T 1).ret hΓ
 ·have kp:=((aW.g (mU h2)).r 5 h3)
  obtain⟨h4,h⟩|⟨h4,h⟩:=aO h
  ·have h:=aN h;subst h;exact(kp.b h4).ret hΓ
  ·refine((kp.b h4).a [.cn [16,17,18] []]).lp hΓ (I8 hΓ (fun h=>?_) (by have:=(ij.sl (ij.agg (hr _ (aE (i:=0) rfl)) (.sl (aB.args.map tx)) (by simp))).1;simpa using this) aB.args 0 rfl h);have h:=aN h;subst h;exact aW.ret hΓ
def gz(aB:aM)(k1:Option Bool):aM->Nat->Option Bool
 | [],i1=>(k1)
 |bU::cO,i1=>((l7 bU.var).bind fun y50=>(bif !(y50)then(some false)else((fT bU.value).bind fun y53=>(bif !(y53)then(some false)else(bif decide (((i1:Int):Int)>0)then((hO aB (IntKind.i64.wrap ((i1:Int)-1))).bind fun x57=>(bif !(Op.bytesLess x57.var bU.var)then(some false)else(gz aB k1 cO (i1+1))))else(gz aB k1 cO (i1+1)))))))
def kE(aB:aM):Option Bool:=(bif decide ((((aB.map aR.c).length:Int):Int)>6)then(some false)else(gz aB (some true) aB 0))
def FO(aB:aM)(dQ:Int):St:=⟨[(0,D.sl (aB.map aR.c)),(8,D.sl (aB.map aR.c)),(9,D.int .i64 ((aB.map aR.c).length:Int)),(10,D.int .i64 dQ)],[]⟩
theorem Dr(hΓ:Γ.nt=41){aB:aM}{r:Bool}{k1:Option Bool}(eF:k1=some r->Ax Γ N f188 (.q [[none]] (D.bool r)) [1,1,1] ⟨[],[]⟩)(hm1:aB.length<=maxLen):∀(rest:aM) (i1:Nat),aB.drop i1=rest->gz aB k1 rest i1=some r->Ar Γ N f188 (.q [[none]] (D.bool r)) [1,1,0,1,0] (rest.length+1) (FO aB (i1:Int)):=by
 intro rest
 induction rest with
 |nil=>
  intro i1 b8 h;rw[gz]at h;refine aU fun N1 cc cL=>?_
  exact((aW.ge aR.c b8).a [.hl 0 [] []]).ex hΓ cc (eF h)
 |cons bU cO ih1=>
  intro i1 b8 h;rw[gz]at h;refine aU fun N1 cc cL=>?_
  obtain⟨y50,h51,h⟩:=aC h;have tN:=((((aW.lt aR.c b8).l (bO aR.c 2 (dc b8) rfl)).a [.n 22]).g (nV h51))
  obtain⟨h52,h⟩|⟨h52,h⟩:=aO h
  ·have h:=aN h;subst h;exact((((tN.r 5 h52).T 3).a [bF,bF,bF,bF,bF,bF,bF,bF,bF]).T 3).ret hΓ
  ·obtain⟨y53,h54,h⟩:=aC h;have xp:=(((tN.r 3 h52).g (eg h54)).r 2 h52)
   obtain⟨h55,h⟩|⟨h55,h⟩:=aO h
   ·have h:=aN h;subst h;exact((((xp.r 3 h55).a [bF,bF,bF,bF,bF,bF,bF,bF,bF]).r 2 h55).T 1).ret hΓ
   ·have B0:=(xp.r 3 h55)
    obtain⟨h56,h⟩|⟨h56,h⟩:=aO h
    ·obtain⟨x57,h58,h⟩:=aC h;have GU:=((((((B0.r 4 h56).l (gq aR.c 2 h58 rfl)).r 5 h56).b h55).b h56).b h55)
     obtain⟨h59,h⟩|⟨h59,h⟩:=aO h
     ·have h:=aN h;subst h;exact(GU.b h59).ret hΓ
     ·exact((GU.b h59).a [.cn [0,8,9,10] []]).ct hΓ cL (iS b8 hm1) (ih1 (i1+1) (dn b8) h)
    ·exact((((((B0.r 9 h56).b h55).b h56).b h55).F 1).a [.cn [0,8,9,10] []]).ct hΓ cL (iS b8 hm1) (ih1 (i1+1) (dn b8) h)
theorem mP{aB:aM}{r:Bool}(h:kE aB=some r):Good prog 188 [D.sl (aB.map aR.c)] (D.bool r):=by
 refine gd func188 [[none]] 41 fun hr Γ hΓ=>?_
 rw[kE]at h;obtain⟨h1,h⟩|⟨h1,h⟩:=aO h
 ·have h:=aN h;subst h;exact(aW.b h1).ret hΓ
 ·refine((aW.b h1).a [.cn [0,8,9,10] []]).lp hΓ (Dr hΓ (fun h=>?_) (by have:=(ij.sl (hr _ (aE (i:=0) rfl))).1;simpa using this) aB 0 rfl h);have h:=aN h;subst h;exact aW.ret hΓ
def j9(aB:aM):Option aM:=(bif room (([]:List aP).length+(aB.map aR.c).length) 32 then(some (([]:aM)++aB))else none)
theorem tE{aB:aM}{r:aM}(h:j9 aB=some r):Good prog 173 [D.sl (aB.map aR.c)] (D.fr 137 2 (r.map aR.c)):=by
 refine gd func173 [[some (137,2)]] 5 fun hr Γ hΓ=>?_
 rw[j9]at h;obtain⟨h1,h⟩:=bX h;cases h;exact(((aW.w (bq h1)).w (show(∀r∈(aB.map aR.c),r.length=2)/\(true=true->D.p9 (aB.map aR.c)=true)from⟨by first|simp| (intro r hr;obtain⟨x,_,rfl⟩:=bu.1 (cI (iJ hr));rfl),by simp[D.p9,D.flat]⟩)).a [.JV 2,.fl true]).rts hΓ (D.fr 137 2 (([]:List aP)++(aB.map aR.c))) (by first|rfl| (simp only[mA]<;>rfl)| (simp only[cS,mA]<;>rfl))
def l9(aB:aM)(aY:Bytes)(k1:Option (Bytes×Bool)):aM->Nat->Option (Bytes×Bool)
 | [],i1=>(k1)
 |bU::cO,i1=>(bif (bU.var:Bytes)==aY then(some (bU.value,true))else(l9 aB aY k1 cO (i1+1)))
def nI(aB:aM)(aY:Bytes):Option (Bytes×Bool):=((fT aY).bind fun y1=>(bif y1 then(some (aY,true))else((l7 aY).bind fun y4=>(bif !(y4)then(some ([],false))else(l9 aB aY (some ([],false)) aB 0)))))
def IE(aB:aM)(aY:Bytes)(dQ:Int):St:=⟨[(1,D.str aY),(14,D.sl (aB.map aR.c)),(15,D.int .i64 ((aB.map aR.c).length:Int)),(16,D.int .i64 dQ)],[]⟩
theorem Gp(hΓ:Γ.nt=27){aB:aM}{aY:Bytes}{r:Bytes×Bool}{k1:Option (Bytes×Bool)}(eF:k1=some r->Ax Γ N f122 (.q [[none],[none]] (D.iE [D.str r.1,D.bool r.2])) [1,1,1,1] ⟨[],[]⟩)(hm1:aB.length<=maxLen):∀(rest:aM) (i1:Nat),aB.drop i1=rest->l9 aB aY k1 rest i1=some r->Ar Γ N f122 (.q [[none],[none]] (D.iE [D.str r.1,D.bool r.2])) [1,1,1,0,1,0] (rest.length+1) (IE aB aY (i1:Int)):=by
 intro rest
 induction rest with
 |nil=>
  intro i1 b8 h;rw[l9]at h;refine aU fun N1 cc cL=>?_
  exact((aW.ge aR.c b8).a [.hl 0 [] []]).ex hΓ cc (eF h)
 |cons bU cO ih1=>
  intro i1 b8 h;rw[l9]at h;refine aU fun N1 cc cL=>?_
  have gr:=((aW.lt aR.c b8).l (bO aR.c 2 (dc b8) rfl))
  obtain⟨h19,h⟩|⟨h19,h⟩:=aO h
  ·cases h;exact(gr.b h19).ret hΓ
  ·exact((gr.b h19).a [.cn [1,14,15,16] []]).ct hΓ cL (iS b8 hm1) (ih1 (i1+1) (dn b8) h)
theorem qf{aB:aM}{aY:Bytes}{r:Bytes×Bool}(h:nI aB aY=some r):Good prog 122 [D.sl (aB.map aR.c),D.str aY] (D.iE [D.str r.1,D.bool r.2]):=by
 refine gd func122 [[none],[none]] 27 fun hr Γ hΓ=>?_
 rw[nI]at h;obtain⟨y1,h2,h⟩:=aC h;obtain⟨h3,h⟩|⟨h3,h⟩:=aO h
 ·cases h;exact((aW.g (eg h2)).b h3).ret hΓ
 ·obtain⟨y4,h5,h⟩:=aC h;have kp:=(((aW.g (eg h2)).b h3).g (nV h5))
  obtain⟨h6,h⟩|⟨h6,h⟩:=aO h
  ·cases h;exact(kp.b h6).ret hΓ
  ·refine((kp.b h6).a [.cn [1,14,15,16] []]).lp hΓ (Gp hΓ (fun h=>?_) (by have:=(ij.sl (hr _ (aE (i:=0) rfl))).1;simpa using this) aB 0 rfl h);cases h;exact aW.ret hΓ
def kC(aB:aM)(aY:Bytes)(cT:Bytes)(k1:Bool->aM->Option (aM×Bool)):aM->Nat->Bool->aM->Option (aM×Bool)
 | [],i1,xz,bP=>(k1 xz bP)
 |bU::cO,i1,xz,bP=>(bif !(xz)then(bif !(Op.bytesLess bU.var aY||(bU.var:Bytes)==aY)then(bif room ((bP.map aR.c).length+([[D.str aY,D.str cT]]).length) 32 then(bif room (((bP.map aR.c)++([[D.str aY,D.str cT]])).length+([[D.str bU.var,D.str bU.value]]).length) 32 then(kC aB aY cT k1 cO (i1+1) true ((bP++([(⟨aY,cT⟩:aR)]))++([bU])))else none)else none)else(bif room ((bP.map aR.c).length+([[D.str bU.var,D.str bU.value]]).length) 32 then(kC aB aY cT k1 cO (i1+1) xz (bP++([bU])))else none))else(bif room ((bP.map aR.c).length+([[D.str bU.var,D.str bU.value]]).length) 32 then(kC aB aY cT k1 cO (i1+1) xz (bP++([bU])))else none))
def qP(aB:aM)(aY:Bytes)(cT:Bytes):Option (aM×Bool):=((kE aB).bind fun y1=>(bif !(y1)then(some ([],false))else((l7 aY).bind fun y4=>(bif !(y4)then(some ([],false))else((fT cT).bind fun y7=>(bif !(y7)then(some ([],false))else((nI aB aY).bind fun GG=>(bif GG.2 then(bif !((GG.1:Bytes)==cT)then(some ([],false))else((j9 aB).bind fun JM=>(some (JM,true))))else(bif decide ((((aB.map aR.c).length:Int):Int)>=6)then(some ([],false))else(kC aB aY cT (fun(RR:Bool) (cB:aM)=>(bif !(RR)then(bif room ((cB.map aR.c).length+([[D.str aY,D.str cT]]).length) 32 then(some (cB++([(⟨aY,cT⟩:aR)]),true))else none)else(some (cB,true)))) aB 0 false ([]:aM)))))))))))
def uF(aB:aM)(aY:Bytes)(cT:Bytes)(xz:Bool)(W1:List aP)(dQ:Int):St:=⟨[(1,D.str aY),(2,D.str cT),(10,D.acc 0),(11,D.bool xz),(42,D.sl (aB.map aR.c)),(43,D.int .i64 ((aB.map aR.c).length:Int)),(44,D.int .i64 dQ)],[Ob.row .uq 137 2 W1]⟩
theorem I6(hΓ:Γ.nt=76){aB:aM}{aY:Bytes}{cT:Bytes}{r:aM×Bool}{k1:Bool->aM->Option (aM×Bool)}(eF:∀(RR:Bool) (cB:aM),k1 RR cB=some r->Ax Γ N f123 (.q [[some (137,2)],[none]] (D.iE [D.fr 137 2 (r.1.map aR.c),D.bool r.2])) [1,1,1,1,1,1,1] ⟨[(1,D.str aY),(2,D.str cT),(10,D.acc 0),(11,D.bool RR)],[Ob.row .uq 137 2 (cB.map aR.c)]⟩)(hm1:aB.length<=maxLen):∀(rest:aM) (i1:Nat) (xz:Bool) (bP:aM),aB.drop i1=rest->kC aB aY cT k1 rest i1 xz bP=some r->Ar Γ N f123 (.q [[some (137,2)],[none]] (D.iE [D.fr 137 2 (r.1.map aR.c),D.bool r.2])) [1,1,1,1,1,1,0,1,0] (rest.length+1) (uF aB aY cT xz (bP.map aR.c) (i1:Int)):=by
 intro rest
 induction rest with
 |nil=>
  intro i1 xz bP b8 h;rw[kC]at h;refine aU fun N1 cc cL=>?_
  exact((aW.ge aR.c b8).a [.hl 0 [1,2,10,11] [0]]).ex hΓ cc (eF xz bP h)
 |cons bU cO ih1=>
  intro i1 xz bP b8 h;rw[kC]at h;refine aU fun N1 cc cL=>?_
  have kp:=((aW.lt aR.c b8).l (bO aR.c 2 (dc b8) rfl))
  obtain⟨h58,h⟩|⟨h58,h⟩:=aO h
  ·have ko:=(kp.r 5 h58)
   obtain⟨h59,h⟩|⟨h59,h⟩:=aO h
   ·obtain⟨h60,h⟩:=bX h;obtain⟨h61,h⟩:=bX h;exact((((ko.b h59).w (bq h60)).w (bq h61)).a [.cn [1,2,10,11,42,43,44] [5]]).cs hΓ cL (uF aB aY cT true (((bP.map aR.c)++([[D.str aY,D.str cT]]))++([[D.str bU.var,D.str bU.value]])) (IntKind.i64.wrap ((i1:Int)+1))) (by first| (simp only[iS b8 hm1,mA]<;>rfl)| (simp only[iS b8 hm1,mA,aD.c,aR.c,aL.c,Action.c,aK.c,aT.c,bS.c,aZ.c,Node.c,aI.c,dU.c]<;>rfl)) (ih1 (i1+1) true ((bP++([(⟨aY,cT⟩:aR)]))++([bU])) (dn b8) h)
   ·obtain⟨h62,h⟩:=bX h;exact(((ko.b h59).w (bq h62)).a [.cn [1,2,10,11,42,43,44] [3]]).cs hΓ cL (uF aB aY cT xz ((bP.map aR.c)++([[D.str bU.var,D.str bU.value]])) (IntKind.i64.wrap ((i1:Int)+1))) (by first| (simp only[iS b8 hm1,mA]<;>rfl)| (simp only[iS b8 hm1,mA,aD.c,aR.c,aL.c,Action.c,aK.c,aT.c,bS.c,aZ.c,Node.c,aI.c,dU.c]<;>rfl)) (ih1 (i1+1) xz (bP++([bU])) (dn b8) h)
  ·obtain⟨h63,h⟩:=bX h;exact((((kp.r 5 h58).F 1).w (bq h63)).a [.cn [1,2,10,11,42,43,44] [3]]).cs hΓ cL (uF aB aY cT xz ((bP.map aR.c)++([[D.str bU.var,D.str bU.value]])) (IntKind.i64.wrap ((i1:Int)+1))) (by first| (simp only[iS b8 hm1,mA]<;>rfl)| (simp only[iS b8 hm1,mA,aD.c,aR.c,aL.c,Action.c,aK.c,aT.c,bS.c,aZ.c,Node.c,aI.c,dU.c]<;>rfl)) (ih1 (i1+1) xz (bP++([bU])) (dn b8) h)
theorem zZ{aB:aM}{aY:Bytes}{cT:Bytes}{r:aM×Bool}(h:qP aB aY cT=some r):Good prog 123 [D.sl (aB.map aR.c),D.str aY,D.str cT] (D.iE [D.fr 137 2 (r.1.map aR.c),D.bool r.2]):=by
 refine gd func123 [[some (137,2)],[none]] 76 fun hr Γ hΓ=>?_
 rw[qP]at h;obtain⟨y1,h2,h⟩:=aC h;obtain⟨h3,h⟩|⟨h3,h⟩:=aO h
 ·cases h;exact(((aW.g (mP h2)).r 4 h3).T 5).ret hΓ
 ·obtain⟨y4,h5,h⟩:=aC h;have tN:=((((aW.g (mP h2)).r 2 h3).g (nV h5)).r 2 h3)
  obtain⟨h6,h⟩|⟨h6,h⟩:=aO h
  ·cases h;exact((tN.r 4 h6).T 1).ret hΓ
  ·obtain⟨y7,h8,h⟩:=aC h;have xp:=(((tN.r 2 h6).g (eg h8)).r 2 h6)
   obtain⟨h9,h⟩|⟨h9,h⟩:=aO h
   ·cases h;exact(xp.b h9).ret hΓ
   ·obtain⟨GG,h11,h⟩:=aC h;have B0:=((xp.b h9).g (qf h11))
    obtain⟨h12,h⟩|⟨h12,h⟩:=aO h
    ·obtain⟨h13,h⟩|⟨h13,h⟩:=aO h
     ·cases h;exact((B0.b h12).b h13).ret hΓ
     ·obtain⟨JM,h15,h⟩:=aC h;cases h;exact(((B0.b h12).b h13).g (tE h15)).ret hΓ
    ·obtain⟨h16,h⟩|⟨h16,h⟩:=aO h
     ·cases h;exact((B0.b h12).b h16).ret hΓ
     ·refine(((B0.b h12).b h16).a [.JV 10,.cn [1,2,10,11,42,43,44] [0]]).lp hΓ (I6 hΓ (fun RR cB h=>?_) (by have:=(ij.sl (hr _ (aE (i:=0) rfl))).1;simpa using this) aB 0 false ([]:aM) rfl h);obtain⟨h64,h⟩|⟨h64,h⟩:=aO h
      ·obtain⟨h65,h⟩:=bX h;cases h;exact((aW.b h64).w (bq h65)).rts hΓ (D.iE [D.fr 137 2 ((cB.map aR.c)++([[D.str aY,D.str cT]])),D.bool true]) (by first|rfl| (simp only[mA]<;>rfl)| (simp only[cS,mA]<;>rfl))
      ·cases h;exact(aW.b h64).ret hΓ
def jG(aB:aD)(aY:aD)(k1:aM->Option (aM×Bool)):aG->Nat->aM->Option (aM×Bool)
 | [],i1,bV=>(k1 bV)
 |bU::cO,i1,bV=>((fT bU).bind fun ZB=>(bif ZB then((hO aY.args (i1:Int)).bind fun x83=>(bif !((bU:Bytes)==x83)then(some ([],false))else(jG aB aY k1 cO (i1+1) bV)))else((hO aY.args (i1:Int)).bind fun x86=>((qP bV bU x86).bind fun y88=>(bif !(y88.2)then(some ([],false))else(jG aB aY k1 cO (i1+1) y88.1))))))
def j6(aB:aD)(aY:aD)(cT:aM):Option (aM×Bool):=((j4 aB).bind fun y1=>(bif !(y1)then(some ([],false))else((oQ aY).bind fun y4=>(bif !(y4)then(some ([],false))else((kE cT).bind fun y7=>(bif !(y7)then(some ([],false))else(bif !((aB.rel:Bytes)==aY.rel)then(some ([],false))else(bif (((aB.args.map tx).length:Int):Int) != ((aY.args.map tx).length:Int)then(some ([],false))else((j9 cT).bind fun Pe=>(jG aB aY (fun(cB:aM)=>(some (cB,true))) aB.args 0 Pe))))))))))
def FQ(aB:aD)(aY:aD)(W0:List aP)(dQ:Int):St:=⟨[(4,D.ptr 0 0),(8,D.acc 1),(45,D.sl (aB.args.map tx)),(46,D.int .i64 ((aB.args.map tx).length:Int)),(47,D.int .i64 dQ)],[Ob.box (aD.c aY),Ob.row .uq 137 2 W0]⟩
theorem Dt(hΓ:Γ.nt=77){aB:aD}{aY:aD}{r:aM×Bool}{k1:aM->Option (aM×Bool)}(eF:∀(cB:aM),k1 cB=some r->Ax Γ N f184 (.q [[some (137,2)],[none]] (D.iE [D.fr 137 2 (r.1.map aR.c),D.bool r.2])) [1,1,1,1] ⟨[(8,D.acc 0)],[Ob.row .uq 137 2 (cB.map aR.c)]⟩)(hm1:aB.args.length<=maxLen):∀(rest:aG) (i1:Nat) (bV:aM),aB.args.drop i1=rest->jG aB aY k1 rest i1 bV=some r->Ar Γ N f184 (.q [[some (137,2)],[none]] (D.iE [D.fr 137 2 (r.1.map aR.c),D.bool r.2])) [1,1,1,0,1,0] (rest.length+1) (FQ aB aY (bV.map aR.c) (i1:Int)):=by
 intro rest
 induction rest with
 |nil=>
  intro i1 bV b8 h;rw[jG]at h;refine aU fun N1 cc cL=>?_
  exact((aW.ge tx b8).a [.hl 0 [8] [1]]).ex hΓ cc (eF bV h)
 |cons bU cO ih1=>
  intro i1 bV b8 h;rw[jG]at h;refine aU fun N1 cc cL=>?_
  obtain⟨ZB,h81,h⟩:=aC h;have ko:=(((aW.lt tx b8).l (bO tx 1 (dc b8) rfl)).g (eg h81))
  obtain⟨h82,h⟩|⟨h82,h⟩:=aO h
  ·obtain⟨x83,h84,h⟩:=aC h;have tN:=((ko.b h82).l (gq tx 1 h84 rfl))
   obtain⟨h85,h⟩|⟨h85,h⟩:=aO h
   ·cases h;exact(tN.b h85).ret hΓ
   ·exact((tN.b h85).a [.cn [4,8,45,46,47] [0,1]]).ct hΓ cL (iS b8 hm1) (ih1 (i1+1) bV (dn b8) h)
  ·obtain⟨x86,h87,h⟩:=aC h;obtain⟨y88,h89,h⟩:=aC h;have xp:=(((ko.b h82).l (gq tx 1 h87 rfl)).g (zZ h89))
   obtain⟨h90,h⟩|⟨h90,h⟩:=aO h
   ·cases h;exact(xp.b h90).ret hΓ
   ·exact((xp.b h90).a [.cn [4,8,45,46,47] [0,2]]).ct hΓ cL (iS b8 hm1) (ih1 (i1+1) y88.1 (dn b8) h)
theorem pG{aB:aD}{aY:aD}{cT:aM}{r:aM×Bool}(h:j6 aB aY cT=some r):Good prog 184 [D.agg (aD.c aB),D.agg (aD.c aY),D.sl (cT.map aR.c)] (D.iE [D.fr 137 2 (r.1.map aR.c),D.bool r.2]):=by
 refine gd func184 [[some (137,2)],[none]] 77 fun hr Γ hΓ=>?_
 rw[j6]at h;obtain⟨y1,h2,h⟩:=aC h;obtain⟨h3,h⟩|⟨h3,h⟩:=aO h
 ·cases h;exact(((aW.g (jY h2)).r 4 h3).T 19).ret hΓ
 ·obtain⟨y4,h5,h⟩:=aC h;have B0:=((((aW.g (jY h2)).r 2 h3).g (vL h5)).r 2 h3)
  obtain⟨h6,h⟩|⟨h6,h⟩:=aO h
  ·cases h;exact((B0.r 4 h6).T 15).ret hΓ
  ·obtain⟨y7,h8,h⟩:=aC h;have GU:=(((B0.r 2 h6).g (mP h8)).r 2 h6)
   obtain⟨h9,h⟩|⟨h9,h⟩:=aO h
   ·cases h;exact((GU.r 6 h9).T 9).ret hΓ
   ·have MV:=(GU.r 6 h9)
    obtain⟨h10,h⟩|⟨h10,h⟩:=aO h
    ·cases h;exact((MV.r 8 h10).T 1).ret hΓ
    ·have Em:=(MV.r 8 h10)
     obtain⟨h11,h⟩|⟨h11,h⟩:=aO h
     ·cases h;exact(Em.b h11).ret hΓ
     ·obtain⟨Pe,h13,h⟩:=aC h;refine(((Em.b h11).g (tE h13)).a [.cn [4,8,45,46,47] [1,2]]).lp hΓ (Dt hΓ (fun cB h=>?_) (by have:=(ij.sl (ij.agg (hr _ (aE (i:=0) rfl)) (.sl (aB.args.map tx)) (by simp))).1;simpa using this) aB.args 0 Pe rfl h);cases h;exact aW.ret hΓ
def gE(aB:aD)(aY:aM)(cT:aJ)(k1:aJ->Option aJ):aJ->Nat->aJ->Option aJ
 | [],i1,bV=>(k1 bV)
 |bU::cO,i1,bV=>((j6 aB bU aY).bind fun VG=>(bif VG.2 then((eC bU).bind fun F3=>(bif room ((bV.map aD.c).length+([[D.str F3.rel,D.sl (F3.args.map tx)]]).length) 40 then(gE aB aY cT k1 cO (i1+1) (bV++([F3])))else none))else(gE aB aY cT k1 cO (i1+1) bV)))
def iL(aB:aD)(aY:aM)(cT:aJ):Option aJ:=(gE aB aY cT (fun(cB:aJ)=>(some cB)) cT 0 ([]:aJ))
def ve(aB:aD)(aY:aM)(cT:aJ)(W0:List aP)(dQ:Int):St:=⟨[(1,D.sl (aY.map aR.c)),(3,D.ptr 0 0),(7,D.acc 1),(12,D.sl (cT.map aD.c)),(13,D.int .i64 ((cT.map aD.c).length:Int)),(14,D.int .i64 dQ)],[Ob.box (aD.c aB),Ob.row .uq 37 2 W0]⟩
theorem Al(hΓ:Γ.nt=33){aB:aD}{aY:aM}{cT:aJ}{r:aJ}{k1:aJ->Option aJ}(eF:∀(cB:aJ),k1 cB=some r->Ax Γ N f168 (.q [[some (37,2)]] (D.fr 37 2 (r.map aD.c))) [1,1,1] ⟨[(7,D.acc 0)],[Ob.row .uq 37 2 (cB.map aD.c)]⟩)(hm1:cT.length<=maxLen):∀(rest:aJ) (i1:Nat) (bV:aJ),cT.drop i1=rest->gE aB aY cT k1 rest i1 bV=some r->Ar Γ N f168 (.q [[some (37,2)]] (D.fr 37 2 (r.map aD.c))) [1,1,0,1,0] (rest.length+1) (ve aB aY cT (bV.map aD.c) (i1:Int)):=by
 intro rest
 induction rest with
 |nil=>
  intro i1 bV b8 h;rw[gE]at h;refine aU fun N1 cc cL=>?_
  exact((aW.ge aD.c b8).a [.hl 0 [7] [1]]).ex hΓ cc (eF bV h)
 |cons bU cO ih1=>
  intro i1 bV b8 h;rw[gE]at h;refine aU fun N1 cc cL=>?_
  obtain⟨VG,h43,h⟩:=aC h;have gr:=(((aW.lt aD.c b8).l (bO aD.c 2 (dc b8) rfl)).g (pG h43))
  obtain⟨h44,h⟩|⟨h44,h⟩:=aO h
  ·obtain⟨F3,h46,h⟩:=aC h;obtain⟨h47,h⟩:=bX h;exact((((gr.b h44).g (gT h46)).w (bq h47)).a [.cn [1,3,7,12,13,14] [0,6]]).cs hΓ cL (ve aB aY cT ((bV.map aD.c)++([[D.str F3.rel,D.sl (F3.args.map tx)]])) (IntKind.i64.wrap ((i1:Int)+1))) (by first| (simp only[iS b8 hm1,mA]<;>rfl)| (simp only[iS b8 hm1,mA,aD.c,aR.c,aL.c,Action.c,aK.c,aT.c,bS.c,aZ.c,Node.c,aI.c,dU.c]<;>rfl)) (ih1 (i1+1) (bV++([F3])) (dn b8) h)
  ·exact((gr.b h44).a [.cn [1,3,7,12,13,14] [0,1]]).ct hΓ cL (iS b8 hm1) (ih1 (i1+1) bV (dn b8) h)
theorem mM{aB:aD}{aY:aM}{cT:aJ}{r:aJ}(h:iL aB aY cT=some r):Good prog 168 [D.agg (aD.c aB),D.sl (aY.map aR.c),D.sl (cT.map aD.c)] (D.fr 37 2 (r.map aD.c)):=by
 refine gd func168 [[some (37,2)]] 33 fun hr Γ hΓ=>?_
 rw[iL]at h;refine(aW.a [.JV 7,.cn [1,3,7,12,13,14] [0,1]]).lp hΓ (Al hΓ (fun cB h=>?_) (by have:=(ij.sl (hr _ (aE (i:=2) rfl))).1;simpa using this) cT 0 ([]:aJ) rfl h);have h:=aN h;subst h;exact aW.ret hΓ
def mY(aB:aI)(k1:bJ->Option ah):Nat->Int->bJ->Option ah
 |0,_,_=>none
 |n1+1,w5,bV=>(bif room ((bV.map jf).length+([[D.int .i64 w5]]).length) 8 then((hO aB.nodes w5).bind fun x19=>(bif decide ((x19.parent:Int)<1)then(k1 (bV++([w5])))else(bif decide ((x19.parent:Int)>=w5)then(k1 (bV++([w5])))else(mY aB k1 n1 x19.parent (bV++([w5]))))))else none)
def kF(aB:aI)(nO:bJ)(k2:ah->Option ah):Nat->Int->ah->Option ah
 |0,_,_=>none
 |n2+1,LB,Mn=>(bif decide ((LB:Int)>=0)then((hO nO LB).bind fun x72=>((hO aB.nodes x72).bind fun x74=>((fK x74.cond).bind fun VK=>(bif room ((Mn.map aL.c).length+([[D.int .i64 VK.kind,D.str VK.pat.rel,D.sl (VK.pat.args.map tx),D.str VK.left,D.str VK.right]]).length) 80 then(kF aB nO k2 n2 (IntKind.i64.wrap (LB-1)) (Mn++([VK])))else none))))else(k2 Mn))
def ur(aB:aI)(aY:Int):Option ah:=(bif decide ((aY:Int)<1)then(some ([]))else(bif decide ((aY:Int)>=((aB.nodes.map Node.c).length:Int))then(some ([]))else(mY aB (fun(nO:bJ)=>(kF aB nO (fun(L8:ah)=>(some L8)) fuel (IntKind.i64.wrap (((nO.map jf).length:Int)-1)) ([]:ah))) fuel aY ([]:bJ))))
def BM(aB:aI)(w5:Int)(W1:List aP):St:=⟨[(1,D.int .i64 w5),(2,D.ptr 0 0),(5,D.acc 1)],[Ob.box (aI.c aB),Ob.row .uq 3 1 W1]⟩
theorem IC(hΓ:Γ.nt=57){aB:aI}{r:ah}{k1:bJ->Option ah}(eF:∀(nO:bJ),k1 nO=some r->Ax Γ N f17 (.q [[some (47,5)]] (D.fr 47 5 (r.map aL.c))) [1,1,1,1] ⟨[(2,D.ptr 0 0),(5,D.acc 1)],[Ob.box (aI.c aB),Ob.row .uq 3 1 (nO.map jf)]⟩):∀(n1:Nat) (w5:Int) (bV:bJ),mY aB k1 n1 w5 bV=some r->Ar Γ N f17 (.q [[some (47,5)]] (D.fr 47 5 (r.map aL.c))) [1,1,1,0,0] n1 (BM aB w5 (bV.map jf)):=by
 intro n
 induction n with
 |zero=>intro w5 bV h;simp[mY]at h
 |succ n1 ih1=>
  intro w5 bV h;rw[mY]at h;refine aU fun N1 cc cL=>?_
  obtain⟨h18,h⟩:=bX h;obtain⟨x19,h20,h⟩:=aC h;have kp:=((aW.w (bq h18)).l (gq Node.c 8 h20 rfl))
  obtain⟨h21,h⟩|⟨h21,h⟩:=aO h
  ·exact(((kp.r 4 h21).T 1).a [.hl 0 [2,5] [0,3]]).exs hΓ cc ⟨[(2,D.ptr 0 0),(5,D.acc 1)],[Ob.box (aI.c aB),Ob.row .uq 3 1 ((bV.map jf)++([[D.int .i64 w5]]))]⟩ (by first| (simp only[mA]<;>rfl)| (simp only[mA,aD.c,aR.c,aL.c,Action.c,aK.c,aT.c,bS.c,aZ.c,Node.c,aI.c,dU.c]<;>rfl)) (eF (bV++([w5])) h)
  ·have ko:=(kp.r 4 h21)
   obtain⟨h22,h⟩|⟨h22,h⟩:=aO h
   ·exact((ko.b h22).a [.hl 0 [2,5] [0,3]]).exs hΓ cc ⟨[(2,D.ptr 0 0),(5,D.acc 1)],[Ob.box (aI.c aB),Ob.row .uq 3 1 ((bV.map jf)++([[D.int .i64 w5]]))]⟩ (by first| (simp only[mA]<;>rfl)| (simp only[mA,aD.c,aR.c,aL.c,Action.c,aK.c,aT.c,bS.c,aZ.c,Node.c,aI.c,dU.c]<;>rfl)) (eF (bV++([w5])) h)
   ·exact((ko.b h22).a [.cn [1,2,5] [0,3]]).cs hΓ cL (BM aB x19.parent ((bV.map jf)++([[D.int .i64 w5]]))) (by first| (simp only[mA]<;>rfl)| (simp only[mA,aD.c,aR.c,aL.c,Action.c,aK.c,aT.c,bS.c,aZ.c,Node.c,aI.c,dU.c]<;>rfl)) (ih1 x19.parent (bV++([w5])) h)
def BN(aB:aI)(nO:bJ)(LB:Int)(W1:List aP):St:=⟨[(2,D.ptr 0 0),(5,D.acc 1),(7,D.acc 2),(8,D.int .i64 LB)],[Ob.box (aI.c aB),Ob.row .uq 3 1 (nO.map jf),Ob.row .uq 47 5 W1]⟩
theorem ID(hΓ:Γ.nt=57){aB:aI}{nO:bJ}{r:ah}{k2:ah->Option ah}(B7:∀(L8:ah),k2 L8=some r->Ax Γ N f17 (.q [[some (47,5)]] (D.fr 47 5 (r.map aL.c))) [1,1,1,1,1,1] ⟨[(7,D.acc 0)],[Ob.row .uq 47 5 (L8.map aL.c)]⟩):∀(n2:Nat) (LB:Int) (Mn:ah),kF aB nO k2 n2 LB Mn=some r->Ar Γ N f17 (.q [[some (47,5)]] (D.fr 47 5 (r.map aL.c))) [1,1,1,1,1,0,1,0] n2 (BN aB nO LB (Mn.map aL.c)):=by
 intro n
 induction n with
 |zero=>intro LB Mn h;simp[kF]at h
 |succ n2 ih2=>
  intro LB Mn h;rw[kF]at h;refine aU fun N2 vv tQ=>?_
  obtain⟨h65,h⟩|⟨h65,h⟩:=aO h
  ·obtain⟨x72,h73,h⟩:=aC h;obtain⟨x74,h75,h⟩:=aC h;obtain⟨VK,h77,h⟩:=aC h;obtain⟨h78,h⟩:=bX h;exact((((((((aW.b h65).a [.n2 [0,1,2,3,4,5,6,7,8,9,10,11,12,13] [0,1,2,3,4,5,6,7,8,9,10,11,12,13] 11 12 [0] [3]]).i (iG jf 1 h73)).o 1 1 .uq (cV jf (fG h73))).l (gq Node.c 8 h75 rfl)).g (kI h77)).w (bq h78)).a [.cn [2,5,7,8] [0,1,5]]).cs hΓ tQ (BN aB nO (IntKind.i64.wrap (LB-1)) ((Mn.map aL.c)++([[D.int .i64 VK.kind,D.str VK.pat.rel,D.sl (VK.pat.args.map tx),D.str VK.left,D.str VK.right]]))) (by first| (simp only[mA]<;>rfl)| (simp only[mA,aD.c,aR.c,aL.c,Action.c,aK.c,aT.c,bS.c,aZ.c,Node.c,aI.c,dU.c]<;>rfl)) (ih2 (IntKind.i64.wrap (LB-1)) (Mn++([VK])) h)
  ·exact((aW.b h65).a [.hl 0 [7] [2]]).ex hΓ vv (B7 Mn h)
theorem vM{aB:aI}{aY:Int}{r:ah}(h:ur aB aY=some r):Good prog 17 [D.agg (aI.c aB),D.int .i64 aY] (D.fr 47 5 (r.map aL.c)):=by
 refine gd func17 [[some (47,5)]] 57 fun hr Γ hΓ=>?_
 rw[ur]at h;obtain⟨h1,h⟩|⟨h1,h⟩:=aO h
 ·cases h;exact((aW.r 6 h1).T 1).ret hΓ
 ·have tN:=(aW.r 6 h1)
  obtain⟨h2,h⟩|⟨h2,h⟩:=aO h
  ·cases h;exact(tN.b h2).ret hΓ
  ·refine((tN.b h2).a [.JV 5,.cn [1,2,5] [0,1]]).lp hΓ (IC hΓ (fun nO h=>?_) fuel aY ([]:bJ) h);refine(aW.a [.JV 7,.cn [2,5,7,8] [0,1,2]]).lp hΓ (ID hΓ (fun L8 h=>?_) fuel (IntKind.i64.wrap (((nO.map jf).length:Int)-1)) ([]:ah) h);have h:=aN h;subst h;exact aW.ret hΓ
def uo(aB:aL):Option Bool:=((qQ aB).bind fun y1=>(bif y1 then(some (decide ((aB.kind:Int)>=3)))else(some false)))
theorem za{aB:aL}{r:Bool}(h:uo aB=some r):Good prog 259 [D.agg (aL.c aB)] (D.bool r):=by
 refine gd func259 [[none]] 10 fun hr Γ hΓ=>?_
 rw[uo]at h;obtain⟨y1,h2,h⟩:=aC h;obtain⟨h3,h⟩|⟨h3,h⟩:=aO h
 ·cases h;exact((aW.g (oz h2)).r 4 h3).ret hΓ
 ·have h:=aN h;subst h;exact((aW.g (oz h2)).r 4 h3).ret hΓ
def mC(aB:Bytes):Option (Int×Bool):=(bif decide (((aB.length:Int):Int)<1)then(some (0,false))else(bif decide (((aB.length:Int):Int)>4)then(some (0,false))else((zu aB).bind fun y3=>(bif y3.2 then(some (0,false))else(bif decide ((y3.1:Int)<0)then(some (0,false))else(bif decide ((y3.1:Int)>9999)then(some (0,false))else((kD y3.1).bind fun y8=>(bif !((y8:Bytes)==aB)then(some (0,false))else(some (y3.1,true))))))))))
theorem pz{aB:Bytes}{r:Int×Bool}(h:mC aB=some r):Good prog 230 [D.str aB] (D.iE [D.int .i64 r.1,D.bool r.2]):=by
 refine gd func230 [[none],[none]] 36 fun hr Γ hΓ=>?_
 rw[mC]at h;obtain⟨h1,h⟩|⟨h1,h⟩:=aO h
 ·cases h;exact((aW.r 4 h1).T 1).ret hΓ
 ·have pW:=(aW.r 4 h1)
  obtain⟨h2,h⟩|⟨h2,h⟩:=aO h
  ·cases h;exact(pW.b h2).ret hΓ
  ·obtain⟨y3,h4,h⟩:=aC h;have gr:=((pW.b h2).g (G9 h4))
   obtain⟨h5,h⟩|⟨h5,h⟩:=aO h
   ·cases h;exact((gr.r 3 h5).T 9).ret hΓ
   ·have kp:=(gr.r 3 h5)
    obtain⟨h6,h⟩|⟨h6,h⟩:=aO h
    ·cases h;exact((kp.r 3 h6).T 6).ret hΓ
    ·have ko:=(kp.r 3 h6)
     obtain⟨h7,h⟩|⟨h7,h⟩:=aO h
     ·cases h;exact((ko.r 5 h7).T 1).ret hΓ
     ·obtain⟨y8,h9,h⟩:=aC h;have tN:=(((ko.r 2 h7).g (we h9)).r 3 h7)
      obtain⟨h10,h⟩|⟨h10,h⟩:=aO h
      ·cases h;exact(tN.b h10).ret hΓ
      ·cases h;exact(tN.b h10).ret hΓ
def qu(aB:aL)(aY:aM):Option Bool:=((uo aB).bind fun y1=>(bif !(y1)then(some false)else((kE aY).bind fun y4=>(bif !(y4)then(some false)else((nI aY aB.left).bind fun y7=>((nI aY aB.right).bind fun y9=>(bif !(y7.2)then(some false)else(bif !(y9.2)then(some false)else(bif (aB.kind:Int)==3 then(some ((y7.1:Bytes)==y9.1))else(bif (aB.kind:Int)==4 then(some (!((y7.1:Bytes)==y9.1)))else((mC y7.1).bind fun y15=>((mC y9.1).bind fun Hl=>(bif y15.2 then(bif Hl.2 then(some (decide ((y15.1:Int)<Hl.1)))else(some false))else(some false))))))))))))))
theorem Cz{aB:aL}{aY:aM}{r:Bool}(h:qu aB aY=some r):Good prog 244 [D.agg (aL.c aB),D.sl (aY.map aR.c)] (D.bool r):=by
 refine gd func244 [[none]] 70 fun hr Γ hΓ=>?_
 rw[qu]at h;obtain⟨y1,h2,h⟩:=aC h;obtain⟨h3,h⟩|⟨h3,h⟩:=aO h
 ·have h:=aN h;subst h;exact(((aW.g (za h2)).r 4 h3).T 1).ret hΓ
 ·obtain⟨y4,h5,h⟩:=aC h;have pW:=((((aW.g (za h2)).r 2 h3).g (mP h5)).r 2 h3)
  obtain⟨h6,h⟩|⟨h6,h⟩:=aO h
  ·have h:=aN h;subst h;exact(pW.b h6).ret hΓ
  ·obtain⟨y7,h8,h⟩:=aC h;obtain⟨y9,h10,h⟩:=aC h;have gr:=(((pW.b h6).g (qf h8)).g (qf h10))
   obtain⟨h11,h⟩|⟨h11,h⟩:=aO h
   ·have h:=aN h;subst h;exact((gr.r 3 h11).T 1).ret hΓ
   ·have kp:=(gr.r 3 h11)
    obtain⟨h12,h⟩|⟨h12,h⟩:=aO h
    ·have h:=aN h;subst h;exact(kp.b h12).ret hΓ
    ·obtain⟨h13,h⟩|⟨h13,h⟩:=aO h
     ·cases h;exact((kp.b h12).b h13).ret hΓ
     ·have ko:=((kp.b h12).b h13)
      obtain⟨h14,h⟩|⟨h14,h⟩:=aO h
      ·cases h;exact(ko.b h14).ret hΓ
      ·obtain⟨y15,h16,h⟩:=aC h;obtain⟨Hl,h18,h⟩:=aC h;have tN:=(((ko.b h14).g (pz h16)).g (pz h18))
       obtain⟨h19,h⟩|⟨h19,h⟩:=aO h
       ·have xp:=(tN.r 2 h19)
        obtain⟨h20,h⟩|⟨h20,h⟩:=aO h
        ·cases h;exact(xp.r 4 h20).ret hΓ
        ·have h:=aN h;subst h;exact(xp.r 4 h20).ret hΓ
       ·have h:=aN h;subst h;exact((tN.r 2 h19).F 4).ret hΓ
def qt(aB:aL)(aY:aM)(cT:aJ):Option Bool:=((qQ aB).bind fun y1=>(bif !(y1)then(some false)else((kE aY).bind fun y4=>(bif !(y4)then(some false)else(bif (aB.kind:Int)==1 then((iL aB.pat aY cT).bind fun y8=>(some (decide ((((y8.map aD.c).length:Int):Int)>0))))else(bif (aB.kind:Int)==2 then((iL aB.pat aY cT).bind fun Mp=>(some ((((Mp.map aD.c).length:Int):Int)==0)))else((qu aB aY).bind fun vH=>(some vH))))))))
theorem Cy{aB:aL}{aY:aM}{cT:aJ}{r:Bool}(h:qt aB aY cT=some r):Good prog 227 [D.agg (aL.c aB),D.sl (aY.map aR.c),D.sl (cT.map aD.c)] (D.bool r):=by
 refine gd func227 [[none]] 38 fun hr Γ hΓ=>?_
 rw[qt]at h;obtain⟨y1,h2,h⟩:=aC h;obtain⟨h3,h⟩|⟨h3,h⟩:=aO h
 ·have h:=aN h;subst h;exact(((aW.g (oz h2)).r 4 h3).T 1).ret hΓ
 ·obtain⟨y4,h5,h⟩:=aC h;have pW:=((((aW.g (oz h2)).r 2 h3).g (mP h5)).r 2 h3)
  obtain⟨h6,h⟩|⟨h6,h⟩:=aO h
  ·have h:=aN h;subst h;exact(pW.b h6).ret hΓ
  ·obtain⟨h7,h⟩|⟨h7,h⟩:=aO h
   ·obtain⟨y8,h9,h⟩:=aC h;cases h;exact(((pW.b h6).b h7).g (mM h9)).ret hΓ
   ·have gr:=((pW.b h6).b h7)
    obtain⟨h10,h⟩|⟨h10,h⟩:=aO h
    ·obtain⟨Mp,h12,h⟩:=aC h;cases h;exact((gr.b h10).g (mM h12)).ret hΓ
    ·obtain⟨vH,h14,h⟩:=aC h;have h:=aN h;subst h;exact((gr.b h10).g (Cz h14)).ret hΓ
def jv(aB:ah)(aY:aJ)(i2:Nat)(bP:ar)(jg:aT)(i1:Nat)(bU:aL)(k3:ar->Option ar):aJ->Nat->ar->Option ar
 | [],i3,yS=>(k3 yS)
 |PZ::My,i3,yS=>((j6 bU.pat PZ jg.bind).bind fun OA=>(bif OA.2 then((cK jg.facts).bind fun OB=>((eC PZ).bind fun JQ=>(bif room ((OB.map aD.c).length+([[D.str JQ.rel,D.sl (JQ.args.map tx)]]).length) 40 then(bif room ((yS.map aT.c).length+([[D.sl ((OB.map aD.c)++([[D.str JQ.rel,D.sl (JQ.args.map tx)]])),D.sl (OA.1.map aR.c)]]).length) 48 then(jv aB aY i2 bP jg i1 bU k3 My (i3+1) (yS++([(⟨OB++([JQ]),OA.1⟩:aT)])))else none)else none)))else(jv aB aY i2 bP jg i1 bU k3 My (i3+1) yS)))
def fV(aB:ah)(aY:aJ)(bP:ar)(i1:Nat)(bU:aL)(k2:ar->Option ar):ar->Nat->ar->Option ar
 | [],i2,fF=>(k2 fF)
 |jg::tR,i2,fF=>(bif (bU.kind:Int) != 1 then((qt bU jg.bind aY).bind fun a2M=>(bif a2M then(bif room ((fF.map aT.c).length+([[D.sl (jg.facts.map aD.c),D.sl (jg.bind.map aR.c)]]).length) 48 then(fV aB aY bP i1 bU k2 tR (i2+1) (fF++([jg])))else none)else(fV aB aY bP i1 bU k2 tR (i2+1) fF)))else(bif decide (aY.length<=maxLen)then(jv aB aY i2 bP jg i1 bU (fun(Ut:ar)=>(fV aB aY bP i1 bU k2 tR (i2+1) Ut)) aY 0 fF)else none))
def ju(aB:ah)(aY:aJ)(k1:ar->Option ar):ah->Nat->ar->Option ar
 | [],i1,bP=>(k1 bP)
 |bU::cO,i1,bP=>(bif decide (bP.length<=maxLen)then(fV aB aY bP i1 bU (fun(L8:ar)=>(ju aB aY k1 cO (i1+1) L8)) bP 0 ([]:ar))else none)
def sK(aB:ah)(aY:aJ):Option ar:=(ju aB aY (fun(cB:ar)=>(some cB)) aB 0 ([(⟨[],[]⟩:aT)]))
def zg(aB:ah)(aY:aJ)(W0:List aP)(dQ:Int):St:=⟨[(1,D.sl (aY.map aD.c)),(5,D.acc 0),(17,D.sl (aB.map aL.c)),(18,D.int .i64 ((aB.map aL.c).length:Int)),(19,D.int .i64 dQ)],[Ob.row .uq 55 2 W0]⟩
def zh(aB:ah)(aY:aJ)(bP:ar)(i1:Nat)(bU:aL)(W0:List aP)(a9N:Nat)(dQ:Int):St:=⟨[(1,D.sl (aY.map aD.c)),(7,D.ptr 0 0),(8,D.acc 1),(17,D.sl (aB.map aL.c)),(18,D.int .i64 ((aB.map aL.c).length:Int)),(19,D.int .i64 (i1:Int)),(23,D.acc 2),(24,D.int .i64 ((bP.map aT.c).length:Int)),(25,D.int .i64 dQ)],[Ob.box [D.int .i64 bU.kind,D.str bU.pat.rel,D.sl (bU.pat.args.map tx),D.str bU.left,D.str bU.right],Ob.row .uq 55 2 W0,Ob.row (.mv a9N) 55 2 (bP.map aT.c)]⟩
def zi(aB:ah)(aY:aJ)(i2:Nat)(bP:ar)(jg:aT)(i1:Nat)(bU:aL)(W0:List aP)(dQ:Int):St:=⟨[(1,D.sl (aY.map aD.c)),(7,D.ptr 0 0),(8,D.acc 1),(10,D.ptr 2 0),(17,D.sl (aB.map aL.c)),(18,D.int .i64 ((aB.map aL.c).length:Int)),(19,D.int .i64 (i1:Int)),(23,D.acc 3),(24,D.int .i64 ((bP.map aT.c).length:Int)),(25,D.int .i64 (i2:Int)),(41,D.sl (aY.map aD.c)),(42,D.int .i64 ((aY.map aD.c).length:Int)),(43,D.int .i64 dQ)],[Ob.box [D.int .i64 bU.kind,D.str bU.pat.rel,D.sl (bU.pat.args.map tx),D.str bU.left,D.str bU.right],Ob.row .uq 55 2 W0,Ob.box [D.acc 4,D.acc 5],Ob.row (.mv (i2+1)) 55 2 (bP.map aT.c),Ob.tk (jg.facts.map aD.c),Ob.tk (jg.bind.map aR.c)]⟩
theorem Fh(hΓ:Γ.nt=74){aB:ah}{aY:aJ}{i2:Nat}{bP:ar}{jg:aT}{i1:Nat}{bU:aL}{r:ar}{k3:ar->Option ar}(Zm:∀(Ut:ar),k3 Ut=some r->Ax Γ N f169 (.q [[some (55,2)]] (D.fr 55 2 (r.map aT.c))) [1,1,0,1,0,0,1,1,0,0,1,1,0,1,0,0,1,1,1] ⟨[(1,D.sl (aY.map aD.c)),(7,D.ptr 0 0),(8,D.acc 1),(17,D.sl (aB.map aL.c)),(18,D.int .i64 ((aB.map aL.c).length:Int)),(19,D.int .i64 (i1:Int)),(23,D.acc 2),(24,D.int .i64 ((bP.map aT.c).length:Int)),(25,D.int .i64 (i2:Int))],[Ob.box [D.int .i64 bU.kind,D.str bU.pat.rel,D.sl (bU.pat.args.map tx),D.str bU.left,D.str bU.right],Ob.row .uq 55 2 (Ut.map aT.c),Ob.row (.mv (i2+1)) 55 2 (bP.map aT.c)]⟩)(RV:aY.length<=maxLen):∀(rest:aJ) (i3:Nat) (yS:ar),aY.drop i3=rest->jv aB aY i2 bP jg i1 bU k3 rest i3 yS=some r->Ar Γ N f169 (.q [[some (55,2)]] (D.fr 55 2 (r.map aT.c))) [1,1,0,1,0,0,1,1,0,0,1,1,0,1,0,0,1,1,0,0,1,1,1,0] (rest.length+1) (zi aB aY i2 bP jg i1 bU (yS.map aT.c) (i3:Int)):=by
 intro rest
 induction rest with
 |nil=>
  intro i3 yS yB h;rw[jv]at h;refine aU fun N3 TX Nn=>?_
  exact((aW.ge aD.c yB).a [.hl 8 [1,7,8,17,18,19,23,24,25] [0,1,3]]).ex hΓ TX (Zm yS h)
 |cons PZ My ih3=>
  intro i3 yS yB h;rw[jv]at h;refine aU fun N3 TX Nn=>?_
  obtain⟨OA,h3513,h⟩:=aC h;have a6O:=(((aW.lt aD.c yB).l (bO aD.c 2 (dc yB) rfl)).g (pG h3513))
  obtain⟨h3514,h⟩|⟨h3514,h⟩:=aO h
  ·obtain⟨OB,h3521,h⟩:=aC h;obtain⟨JQ,h3523,h⟩:=aC h;obtain⟨h3524,h⟩:=bX h;obtain⟨h3525,h⟩:=bX h;exact(((((((a6O.b h3514).a [.n2 [0,1,2,3,4,5,8,6,7,9,10,11,12] [0,1,2,3,4,5,7,8,6,9,10,11,12] 7 11 [0,6] [7,8,9,10,11]]).g (cN h3521)).g (gT h3523)).w (bq h3524)).w (bq h3525)).a [.cn [1,7,8,10,17,18,19,23,24,25,41,42,43] [0,13,2,3,4,5]]).cs hΓ Nn (zi aB aY i2 bP jg i1 bU ((yS.map aT.c)++([[D.sl ((OB.map aD.c)++([[D.str JQ.rel,D.sl (JQ.args.map tx)]])),D.sl (OA.1.map aR.c)]])) (IntKind.i64.wrap ((i3:Int)+1))) (by first| (simp only[iS yB RV,mA]<;>rfl)| (simp only[iS yB RV,mA,aD.c,aR.c,aL.c,Action.c,aK.c,aT.c,bS.c,aZ.c,Node.c,aI.c,dU.c]<;>rfl)) (ih3 (i3+1) (yS++([(⟨OB++([JQ]),OA.1⟩:aT)])) (dn yB) h)
  ·exact((a6O.b h3514).a [.cn [1,7,8,10,17,18,19,23,24,25,41,42,43] [0,1,2,3,4,5]]).ct hΓ Nn (iS yB RV) (ih3 (i3+1) yS (dn yB) h)
theorem Fg(hΓ:Γ.nt=74){aB:ah}{aY:aJ}{bP:ar}{i1:Nat}{bU:aL}{r:ar}{k2:ar->Option ar}(B7:∀(L8:ar),k2 L8=some r->Ax Γ N f169 (.q [[some (55,2)]] (D.fr 55 2 (r.map aT.c))) [1,1,0,1,0,0,1,1,0,0,1,1,1] ⟨[(1,D.sl (aY.map aD.c)),(8,D.acc 0),(17,D.sl (aB.map aL.c)),(18,D.int .i64 ((aB.map aL.c).length:Int)),(19,D.int .i64 (i1:Int))],[Ob.row .uq 55 2 (L8.map aT.c)]⟩)(hm2:bP.length<=maxLen):∀(rest:ar) (i2:Nat) (fF:ar),bP.drop i2=rest->fV aB aY bP i1 bU k2 rest i2 fF=some r->Ar Γ N f169 (.q [[some (55,2)]] (D.fr 55 2 (r.map aT.c))) [1,1,0,1,0,0,1,1,0,0,1,1,0,1,0] (rest.length+1) (zh aB aY bP i1 bU (fF.map aT.c) i2 (i2:Int)):=by
 intro rest
 induction rest with
 |nil=>
  intro i2 fF hd2 h;rw[fV]at h;refine aU fun N2 vv tQ=>?_
  exact((aW.ge aT.c hd2).a [.hl 5 [1,8,17,18,19] [1]]).ex hΓ vv (B7 fF h)
 |cons jg tR ih2=>
  intro i2 fF hd2 h;rw[fV]at h;refine aU fun N2 vv tQ=>?_
  have a6P:=((((aW.lt aT.c hd2).i (mO aT.c 2 (dc hd2))).w (show i2=i2/\(bP.map aT.c)[i2]?=some [D.sl (jg.facts.map aD.c),D.sl (jg.bind.map aR.c)]/\PO [D.sl (jg.facts.map aD.c),D.sl (jg.bind.map aR.c)]=true from⟨rfl,cV aT.c (dc hd2),rfl⟩)).a [.tk [D.sl (jg.facts.map aD.c),D.sl (jg.bind.map aR.c)]])
  obtain⟨h3426,h⟩|⟨h3426,h⟩:=aO h
  ·obtain⟨a2M,h3428,h⟩:=aC h;have a6Q:=((a6P.b h3426).g (Cy h3428))
   obtain⟨h3429,h⟩|⟨h3429,h⟩:=aO h
   ·obtain⟨h3430,h⟩:=bX h;exact(((a6Q.b h3429).w (bq h3430)).a [.cn [1,7,8,17,18,19,23,24,25] [0,7,2]]).cs hΓ tQ (zh aB aY bP i1 bU ((fF.map aT.c)++([[D.sl (jg.facts.map aD.c),D.sl (jg.bind.map aR.c)]])) (i2+1) (IntKind.i64.wrap ((i2:Int)+1))) (by first| (simp only[iS hd2 hm2,mA]<;>rfl)| (simp only[iS hd2 hm2,mA,aD.c,aR.c,aL.c,Action.c,aK.c,aT.c,bS.c,aZ.c,Node.c,aI.c,dU.c]<;>rfl)) (ih2 (i2+1) (fF++([jg])) (dn hd2) h)
   ·exact((a6Q.b h3429).a [.cn [1,7,8,17,18,19,23,24,25] [0,1,2]]).ct hΓ tQ (iS hd2 hm2) (ih2 (i2+1) fF (dn hd2) h)
  ·obtain⟨h3526,h⟩:=bX h;refine((a6P.b h3426).a [.cn [1,7,8,10,17,18,19,23,24,25,41,42,43] [0,1,5,2,3,4]]).lp hΓ (Fh hΓ (fun Ut h=>?_) (bY h3526) aY 0 fF rfl h);exact(aW.a [.cn [1,7,8,17,18,19,23,24,25] [0,1,2]]).ct hΓ tQ (iS hd2 hm2) (ih2 (i2+1) Ut (dn hd2) h)
theorem Ff(hΓ:Γ.nt=74){aB:ah}{aY:aJ}{r:ar}{k1:ar->Option ar}(eF:∀(cB:ar),k1 cB=some r->Ax Γ N f169 (.q [[some (55,2)]] (D.fr 55 2 (r.map aT.c))) [1,1,1] ⟨[(5,D.acc 0)],[Ob.row .uq 55 2 (cB.map aT.c)]⟩)(hm1:aB.length<=maxLen):∀(rest:ah) (i1:Nat) (bP:ar),aB.drop i1=rest->ju aB aY k1 rest i1 bP=some r->Ar Γ N f169 (.q [[some (55,2)]] (D.fr 55 2 (r.map aT.c))) [1,1,0,1,0] (rest.length+1) (zg aB aY (bP.map aT.c) (i1:Int)):=by
 intro rest
 induction rest with
 |nil=>
  intro i1 bP b8 h;rw[ju]at h;refine aU fun N1 cc cL=>?_
  exact((aW.ge aL.c b8).a [.hl 0 [5] [0]]).ex hΓ cc (eF bP h)
 |cons bU cO ih1=>
  intro i1 bP b8 h;rw[ju]at h;refine aU fun N1 cc cL=>?_
  obtain⟨h3527,h⟩:=bX h;refine(((aW.lt aL.c b8).l (bO aL.c 5 (dc b8) rfl)).a [.JV 8,.mz 0,.cn [1,7,8,17,18,19,23,24,25] [1,2,0]]).lp hΓ (Fg hΓ (fun L8 h=>?_) (bY h3527) bP 0 ([]:ar) rfl h);exact(aW.a [.cn [1,5,17,18,19] [0]]).ct hΓ cL (iS b8 hm1) (ih1 (i1+1) L8 (dn b8) h)
theorem E9{aB:ah}{aY:aJ}{r:ar}(h:sK aB aY=some r):Good prog 169 [D.sl (aB.map aL.c),D.sl (aY.map aD.c)] (D.fr 55 2 (r.map aT.c)):=by
 refine gd func169 [[some (55,2)]] 74 fun hr Γ hΓ=>?_
 rw[sK]at h;refine(aW.a [.cn [1,5,17,18,19] [0]]).lps hΓ (zg aB aY ([[D.sl ([]),D.sl ([])]]) 0) (by first| (simp only[mA]<;>rfl)| (simp only[mA,aD.c,aR.c,aL.c,Action.c,aK.c,aT.c,bS.c,aZ.c,Node.c,aI.c,dU.c]<;>rfl)) (Ff hΓ (fun cB h=>?_) (by have:=(ij.sl (hr _ (aE (i:=0) rfl))).1;simpa using this) aB 0 ([(⟨[],[]⟩:aT)]) rfl h);have h:=aN h;subst h;exact aW.ret hΓ
def fH(aB:aI)(aY:aJ)(y1:aJ)(k1:bN->Option (aI×Unit)):bN->Nat->bN->Option (aI×Unit)
 | [],i1,cz=>(k1 cz)
 |bU::cO,i1,cz=>(bif decide (i1<(cz.map aZ.c).length)then(((cz)[i1]?).bind fun x35=>((iL x35.shape ([]) aY).bind fun Mq=>(bif decide (i1<(cz.map aZ.c).length)then(fH aB aY y1 k1 cO (i1+1) (cz.set i1 (⟨x35.shape,Mq⟩:aZ)))else none)))else none)
def eH(aB:aI)(aY:aJ)(y1:aJ)(fA:bN)(k2:Option (aI×Unit)):bL->Nat->bL->Option (aI×Unit)
 | [],i2,jj=>(some ((⟨aB.rules,aB.ends,fA,jj,y1,aB.cG⟩:aI),()))
 |jg::tR,i2,jj=>((ur (⟨aB.rules,aB.ends,fA,jj,y1,aB.cG⟩:aI) (i2:Int)).bind fun LC=>((sK LC aY).bind fun VB=>(bif decide (i2<(jj.map Node.c).length)then(((jj)[i2]?).bind fun x107=>(eH aB aY y1 fA k2 tR (i2+1) (jj.set i2 (⟨x107.parent,x107.cond,x107.dL,VB⟩:Node))))else none)))
def iz(aB:aI)(aY:aJ):Option (aI×Unit):=((cK aY).bind fun y1=>(bif decide (aB.bE.length<=maxLen)then(fH aB aY y1 (fun(fA:bN)=>(bif decide (aB.nodes.length<=maxLen)then(eH aB aY y1 fA none aB.nodes 0 aB.nodes)else none)) aB.bE 0 aB.bE)else none))
def uY(kn:Value)(aB:aI)(aY:aJ)(y1:aJ)(W0:List aP)(dQ:Int):St:=⟨[(0,D.ptr 0 0),(1,D.sl (aY.map aD.c)),(15,D.int .i64 ((aB.bE.map aZ.c).length:Int)),(16,D.int .i64 dQ)],[Ob.DU [D.acc 1,D.acc 2,D.acc 3,D.acc 4,D.acc 5,D.int .i64 aB.cG] kn,Ob.row .uq 80 4 (aB.rules.map aK.c),Ob.row .uq 3 1 (aB.ends.map jf),Ob.row .uq 93 3 W0,Ob.row .uq 50 8 (aB.nodes.map Node.c),Ob.row .uq 37 2 (y1.map aD.c)]⟩
theorem zX(hΓ:Γ.nt=60){kn:Value}{aB:aI}{aY:aJ}{y1:aJ}{r:aI×Unit}{k1:bN->Option (aI×Unit)}(eF:∀(fA:bN),k1 fA=some r->Ax Γ N f100 (.p [[some (80,4),some (3,1),some (93,3),some (50,8),some (37,2),none]] kn (cS r.1) (D.iE [])) [1,1] ⟨[(0,D.ptr 0 0),(1,D.sl (aY.map aD.c))],[Ob.DU [D.acc 1,D.acc 2,D.acc 3,D.acc 4,D.acc 5,D.int .i64 aB.cG] kn,Ob.row .uq 80 4 (aB.rules.map aK.c),Ob.row .uq 3 1 (aB.ends.map jf),Ob.row .uq 93 3 (fA.map aZ.c),Ob.row .uq 50 8 (aB.nodes.map Node.c),Ob.row .uq 37 2 (y1.map aD.c)]⟩)(hm1:aB.bE.length<=maxLen):∀(rest:bN) (i1:Nat) (cz:bN),aB.bE.drop i1=rest->fH aB aY y1 k1 rest i1 cz=some r->Ar Γ N f100 (.p [[some (80,4),some (3,1),some (93,3),some (50,8),some (37,2),none]] kn (cS r.1) (D.iE [])) [1,0,1,0] (rest.length+1) (uY kn aB aY y1 (cz.map aZ.c) (i1:Int)):=by
 intro rest
 induction rest with
 |nil=>
  intro i1 cz b8 h;rw[fH]at h;refine aU fun N1 cc cL=>?_
  exact((aW.ge aZ.c b8).a [.hl 0 [0,1] [0,1,2,3,4,5]]).ex hΓ cc (eF cz h)
 |cons bU cO ih1=>
  intro i1 cz b8 h;rw[fH]at h;refine aU fun N1 cc cL=>?_
  obtain⟨h34,h⟩:=bX h;obtain⟨x35,h36,h⟩:=aC h;obtain⟨Mq,h38,h⟩:=aC h;obtain⟨h39,h⟩:=bX h;exact(((((((((aW.lt aZ.c b8).a [.n 15]).i (SO 3 h34)).o 3 2 .uq (cV aZ.c h36)).a [.d (D.fr 37 2 (Mq.map aD.c))]).w (show Good prog 168 [D.agg (aD.c x35.shape),D.sl ([]),D.sl (aY.map aD.c)] (D.fr 37 2 (Mq.map aD.c))from by first| (simpa only[bG,av,bZ,bh,bn]using mM h38)|exact mM h38)).i (SO 3 h39)).w (show(cz.map aZ.c)[i1]?=some [D.str x35.shape.rel,D.sl (x35.shape.args.map tx),D.sl (x35.facts.map aD.c)]from cV aZ.c h36)).a [.row [D.str x35.shape.rel,D.sl (x35.shape.args.map tx),D.sl (x35.facts.map aD.c)],.cn [0,1,15,16] [0,1,2,3,4,5]]).cs hΓ cL (uY kn aB aY y1 ((cz.map aZ.c).set i1 [D.str x35.shape.rel,D.sl (x35.shape.args.map tx),D.sl (Mq.map aD.c)]) (IntKind.i64.wrap ((i1:Int)+1))) (by first| (simp only[iS b8 hm1,mA]<;>rfl)| (simp only[iS b8 hm1,mA,aD.c,aR.c,aL.c,Action.c,aK.c,aT.c,bS.c,aZ.c,Node.c,aI.c,dU.c]<;>rfl)) (ih1 (i1+1) (cz.set i1 (⟨x35.shape,Mq⟩:aZ)) (dn b8) h)
def uZ(kn:Value)(aB:aI)(aY:aJ)(y1:aJ)(fA:bN)(W0:List aP)(dQ:Int):St:=⟨[(0,D.ptr 0 0),(1,D.sl (aY.map aD.c)),(41,D.int .i64 ((aB.nodes.map Node.c).length:Int)),(42,D.int .i64 dQ)],[Ob.DU [D.acc 1,D.acc 2,D.acc 3,D.acc 4,D.acc 5,D.int .i64 aB.cG] kn,Ob.row .uq 80 4 (aB.rules.map aK.c),Ob.row .uq 3 1 (aB.ends.map jf),Ob.row .uq 93 3 (fA.map aZ.c),Ob.row .uq 50 8 W0,Ob.row .uq 37 2 (y1.map aD.c)]⟩
theorem zY(hΓ:Γ.nt=60){kn:Value}{aB:aI}{aY:aJ}{y1:aJ}{fA:bN}{r:aI×Unit}{k2:Option (aI×Unit)}(B7:k2=some r->Ax Γ N f100 (.p [[some (80,4),some (3,1),some (93,3),some (50,8),some (37,2),none]] kn (cS r.1) (D.iE [])) [1,1,1,0,0] ⟨[],[]⟩)(hm2:aB.nodes.length<=maxLen):∀(rest:bL) (i2:Nat) (jj:bL),aB.nodes.drop i2=rest->eH aB aY y1 fA k2 rest i2 jj=some r->Ar Γ N f100 (.p [[some (80,4),some (3,1),some (93,3),some (50,8),some (37,2),none]] kn (cS r.1) (D.iE [])) [1,1,1,0] (rest.length+1) (uZ kn aB aY y1 fA (jj.map Node.c) (i2:Int)):=by
 intro rest
 induction rest with
 |nil=>
  intro i2 jj hd2 h;rw[eH]at h;refine aU fun N2 vv tQ=>?_
  cases h;exact(aW.ge Node.c hd2).ret hΓ
 |cons jg tR ih2=>
  intro i2 jj hd2 h;rw[eH]at h;refine aU fun N2 vv tQ=>?_
  obtain⟨LC,h103,h⟩:=aC h;obtain⟨VB,h105,h⟩:=aC h;obtain⟨h106,h⟩:=bX h;obtain⟨x107,h108,h⟩:=aC h;exact(((((((aW.lt Node.c hd2).a [.n2 [0,1,2,3,4,5,6,7,8,9,10,11,12,13,14] [0,1,2,3,4,5,6,7,8,9,10,11,12,13,14] 11 12 [0,1,2,3,4] [],.d (D.fr 47 5 (LC.map aL.c))]).w (show Good prog 17 [D.agg [D.sl (aB.rules.map aK.c),D.sl (aB.ends.map jf),D.sl (fA.map aZ.c),D.sl (jj.map Node.c),D.sl (y1.map aD.c),D.int .i64 aB.cG],D.int .i64 (i2:Int)] (D.fr 47 5 (LC.map aL.c))from by first| (simpa only[bG,av,bZ,bh,bn]using vM h103)|exact vM h103| (have t:=vM h103;simp only[bG,bh,bn,aI.c]at t;exact t))).g (E9 h105)).i (SO 8 h106)).w (show(jj.map Node.c)[i2]?=some [D.int .i64 x107.parent,D.int .i64 x107.cond.kind,D.str x107.cond.pat.rel,D.sl (x107.cond.pat.args.map tx),D.str x107.cond.left,D.str x107.cond.right,D.int .i64 x107.dL,D.sl (x107.tokens.map aT.c)]from cV Node.c h108)).a [.row [D.int .i64 x107.parent,D.int .i64 x107.cond.kind,D.str x107.cond.pat.rel,D.sl (x107.cond.pat.args.map tx),D.str x107.cond.left,D.str x107.cond.right,D.int .i64 x107.dL,D.sl (x107.tokens.map aT.c)],.cn [0,1,41,42] [0,1,2,3,4,5]]).cs hΓ tQ (uZ kn aB aY y1 fA ((jj.map Node.c).set i2 [D.int .i64 x107.parent,D.int .i64 x107.cond.kind,D.str x107.cond.pat.rel,D.sl (x107.cond.pat.args.map tx),D.str x107.cond.left,D.str x107.cond.right,D.int .i64 x107.dL,D.sl (VB.map aT.c)]) (IntKind.i64.wrap ((i2:Int)+1))) (by first| (simp only[iS hd2 hm2,mA]<;>rfl)| (simp only[iS hd2 hm2,mA,aD.c,aR.c,aL.c,Action.c,aK.c,aT.c,bS.c,aZ.c,Node.c,aI.c,dU.c]<;>rfl)) (ih2 (i2+1) (jj.set i2 (⟨x107.parent,x107.cond,x107.dL,VB⟩:Node)) (dn hd2) h)
theorem tL{aB:aI}{aY:aJ}{r:aI×Unit}(h:iz aB aY=some r):kA prog 100 (cS aB) (cS r.1) [D.sl (aY.map aD.c)] (D.iE []):=by
 refine Lx func100 [[some (80,4),some (3,1),some (93,3),some (50,8),some (37,2),none]] 60 [D.acc 1,D.acc 2,D.acc 3,D.acc 4,D.acc 5,D.int .i64 aB.cG] [D.sl (aY.map aD.c)] [Ob.row .uq 80 4 (aB.rules.map aK.c),Ob.row .uq 3 1 (aB.ends.map jf),Ob.row .uq 93 3 (aB.bE.map aZ.c),Ob.row .uq 50 8 (aB.nodes.map Node.c),Ob.row .uq 37 2 (aB.facts.map aD.c)] fun hr kn Γ hΓ=>?_
 rw[iz]at h;obtain⟨y1,h2,h⟩:=aC h;obtain⟨h110,h⟩:=bX h;refine((aW.g (cN h2)).a [.cn [0,1,15,16] [0,1,2,3,4,6]]).lp hΓ (zX hΓ (fun fA h=>?_) (bY h110) aB.bE 0 aB.bE rfl h);obtain⟨h109,h⟩:=bX h;refine(aW.a [.cn [0,1,41,42] [0,1,2,3,4,5]]).lp hΓ (zY hΓ (fun h=>?_) (bY h109) aB.nodes 0 aB.nodes rfl h);cases h
def wI(aB:ai)(aY:aJ)(cT:Int):Option aI:=((rC aB).bind fun y1=>((iz y1 aY).bind fun y3=>(some (⟨y3.1.rules,y3.1.ends,y3.1.bE,y3.1.nodes,y3.1.facts,cT⟩:aI))))
theorem IF{aB:ai}{aY:aJ}{cT:Int}{r:aI}(h:wI aB aY cT=some r):Good prog 49 [D.sl (aB.map aK.c),D.sl (aY.map aD.c),D.int .i64 cT] (D.agg [D.fr 80 4 (r.rules.map aK.c),D.fr 3 1 (r.ends.map jf),D.fr 93 3 (r.bE.map aZ.c),D.fr 50 8 (r.nodes.map Node.c),D.fr 37 2 (r.facts.map aD.c),D.int .i64 r.cG]):=by
 refine gd func49 [[some (80,4),some (3,1),some (93,3),some (50,8),some (37,2),none]] 15 fun hr Γ hΓ=>?_
 rw[wI]at h;obtain⟨y1,h2,h⟩:=aC h;obtain⟨y3,h4,h⟩:=aC h;cases h;exact((aW.g (DC h2)).hp [[some (80,4),some (3,1),some (93,3),some (50,8),some (37,2),none],[none]] (tL h4)).ret hΓ
def sH(aB:bJ):Option bJ:=(bif room (([]:List aP).length+(aB.map jf).length) 8 then(some (([]:bJ)++aB))else none)
theorem Dy{aB:bJ}{r:bJ}(h:sH aB=some r):Good prog 102 [D.sl (aB.map jf)] (D.fr 3 1 (r.map jf)):=by
 refine gd func102 [[some (3,1)]] 5 fun hr Γ hΓ=>?_
 rw[sH]at h;obtain⟨h1,h⟩:=bX h;cases h;exact(((aW.w (bq h1)).w (show(∀r∈(aB.map jf),r.length=1)/\(true=true->D.p9 (aB.map jf)=true)from⟨by first|simp| (intro r hr;obtain⟨x,_,rfl⟩:=bu.1 (cI (iJ hr));rfl),by simp[D.p9,D.flat]⟩)).a [.JV 2,.fl true]).rts hΓ (D.fr 3 1 (([]:List aP)++(aB.map jf))) (by first|rfl| (simp only[mA]<;>rfl)| (simp only[cS,mA]<;>rfl))
def iO(aB:ar)(k1:ar->Option ar):ar->Nat->ar->Option ar
 | [],i1,bP=>(k1 bP)
 |bU::cO,i1,bP=>((cK bU.facts).bind fun y61=>((j9 bU.bind).bind fun y63=>(bif room ((bP.map aT.c).length+([[D.sl (y61.map aD.c),D.sl (y63.map aR.c)]]).length) 48 then(iO aB k1 cO (i1+1) (bP++([(⟨y61,y63⟩:aT)])))else none)))
def lB(aB:ar):Option ar:=(iO aB (fun(cB:ar)=>(some cB)) aB 0 ([]:ar))
def xZ(aB:ar)(W0:List aP)(dQ:Int):St:=⟨[(3,D.acc 0),(6,D.sl (aB.map aT.c)),(7,D.int .i64 ((aB.map aT.c).length:Int)),(8,D.int .i64 dQ)],[Ob.row .uq 55 2 W0]⟩
theorem D7(hΓ:Γ.nt=24){aB:ar}{r:ar}{k1:ar->Option ar}(eF:∀(cB:ar),k1 cB=some r->Ax Γ N f105 (.q [[some (55,2)]] (D.fr 55 2 (r.map aT.c))) [1,1,1] ⟨[(3,D.acc 0)],[Ob.row .uq 55 2 (cB.map aT.c)]⟩)(hm1:aB.length<=maxLen):∀(rest:ar) (i1:Nat) (bP:ar),aB.drop i1=rest->iO aB k1 rest i1 bP=some r->Ar Γ N f105 (.q [[some (55,2)]] (D.fr 55 2 (r.map aT.c))) [1,1,0,1,0] (rest.length+1) (xZ aB (bP.map aT.c) (i1:Int)):=by
 intro rest
 induction rest with
 |nil=>
  intro i1 bP b8 h;rw[iO]at h;refine aU fun N1 cc cL=>?_
  exact((aW.ge aT.c b8).a [.hl 0 [3] [0]]).ex hΓ cc (eF bP h)
 |cons bU cO ih1=>
  intro i1 bP b8 h;rw[iO]at h;refine aU fun N1 cc cL=>?_
  obtain⟨y61,h62,h⟩:=aC h;obtain⟨y63,h64,h⟩:=aC h;obtain⟨h65,h⟩:=bX h;exact(((((((aW.lt aT.c b8).l (bO aT.c 2 (dc b8) rfl)).a [.n2 [0,1,2,3,4,5,6,7,8,9,10] [0,1,2,3,4,5,6,7,8,9,10] 8 9 [0] [2,3]]).g (cN h62)).g (tE h64)).w (bq h65)).a [.cn [3,6,7,8] [5]]).cs hΓ cL (xZ aB ((bP.map aT.c)++([[D.sl (y61.map aD.c),D.sl (y63.map aR.c)]])) (IntKind.i64.wrap ((i1:Int)+1))) (by first| (simp only[iS b8 hm1,mA]<;>rfl)| (simp only[iS b8 hm1,mA,aD.c,aR.c,aL.c,Action.c,aK.c,aT.c,bS.c,aZ.c,Node.c,aI.c,dU.c]<;>rfl)) (ih1 (i1+1) (bP++([(⟨y61,y63⟩:aT)])) (dn b8) h)
theorem CH{aB:ar}{r:ar}(h:lB aB=some r):Good prog 105 [D.sl (aB.map aT.c)] (D.fr 55 2 (r.map aT.c)):=by
 refine gd func105 [[some (55,2)]] 24 fun hr Γ hΓ=>?_
 rw[lB]at h;refine(aW.a [.JV 3,.cn [3,6,7,8] [0]]).lp hΓ (D7 hΓ (fun cB h=>?_) (by have:=(ij.sl (hr _ (aE (i:=0) rfl))).1;simpa using this) aB 0 ([]:ar) rfl h);have h:=aN h;subst h;exact aW.ret hΓ
def hY(aB:aI)(y1:ai)(y3:bJ)(y5:aJ)(k1:bN->Option aI):bN->Nat->bN->Option aI
 | [],i1,nQ=>(k1 nQ)
 |bU::cO,i1,nQ=>((eD bU.shape).bind fun VJ=>((cK bU.facts).bind fun y69=>(bif room ((nQ.map aZ.c).length+([[D.str VJ.rel,D.sl (VJ.args.map tx),D.sl (y69.map aD.c)]]).length) 64 then(hY aB y1 y3 y5 k1 cO (i1+1) (nQ++([(⟨VJ,y69⟩:aZ)])))else none)))
def iA(aB:aI)(y1:ai)(y3:bJ)(y5:aJ)(nP:bN)(k2:bL->Option aI):bL->Nat->bL->Option aI
 | [],i2,uT=>(k2 uT)
 |jg::tR,i2,uT=>((fK jg.cond).bind fun GH=>((lB jg.tokens).bind fun Yp=>(bif room ((uT.map Node.c).length+([[D.int .i64 jg.parent,D.int .i64 GH.kind,D.str GH.pat.rel,D.sl (GH.pat.args.map tx),D.str GH.left,D.str GH.right,D.int .i64 jg.dL,D.sl (Yp.map aT.c)]]).length) 120 then(iA aB y1 y3 y5 nP k2 tR (i2+1) (uT++([(⟨jg.parent,GH,jg.dL,Yp⟩:Node)])))else none)))
def gZ(aB:aI):Option aI:=((og aB.rules).bind fun y1=>((sH aB.ends).bind fun y3=>((cK aB.facts).bind fun y5=>(hY aB y1 y3 y5 (fun(nP:bN)=>(iA aB y1 y3 y5 nP (fun(ot:bL)=>(some (⟨y1,y3,nP,ot,y5,aB.cG⟩:aI))) aB.nodes 0 ([]:bL))) aB.bE 0 ([]:bN)))))
def wh(aB:aI)(y1:ai)(y3:bJ)(y5:aJ)(W0:List aP)(dQ:Int):St:=⟨[(1,D.ptr 0 0),(2,D.ptr 1 0),(3,D.ptr 2 0),(21,D.sl (aB.bE.map aZ.c)),(22,D.int .i64 ((aB.bE.map aZ.c).length:Int)),(23,D.int .i64 dQ)],[Ob.box (aI.c aB),Ob.box [D.nil,D.nil,D.nil,D.nil,D.nil,D.int .i64 0],Ob.box [D.acc 3,D.acc 4,D.acc 5,D.nil,D.acc 6,D.int .i64 aB.cG],Ob.row .uq 80 4 (y1.map aK.c),Ob.row .uq 3 1 (y3.map jf),Ob.row .uq 93 3 W0,Ob.row .uq 37 2 (y5.map aD.c)]⟩
theorem CF(hΓ:Γ.nt=65){aB:aI}{y1:ai}{y3:bJ}{y5:aJ}{r:aI}{k1:bN->Option aI}(eF:∀(nP:bN),k1 nP=some r->Ax Γ N f50 (.q [[some (80,4),some (3,1),some (93,3),some (50,8),some (37,2),none]] (D.agg [D.fr 80 4 (r.rules.map aK.c),D.fr 3 1 (r.ends.map jf),D.fr 93 3 (r.bE.map aZ.c),D.fr 50 8 (r.nodes.map Node.c),D.fr 37 2 (r.facts.map aD.c),D.int .i64 r.cG])) [1,1,1] ⟨[(1,D.ptr 0 0),(2,D.ptr 1 0),(3,D.ptr 2 0)],[Ob.box (aI.c aB),Ob.box [D.nil,D.nil,D.nil,D.nil,D.nil,D.int .i64 0],Ob.box [D.acc 3,D.acc 4,D.acc 5,D.nil,D.acc 6,D.int .i64 aB.cG],Ob.row .uq 80 4 (y1.map aK.c),Ob.row .uq 3 1 (y3.map jf),Ob.row .uq 93 3 (nP.map aZ.c),Ob.row .uq 37 2 (y5.map aD.c)]⟩)(hm1:aB.bE.length<=maxLen):∀(rest:bN) (i1:Nat) (nQ:bN),aB.bE.drop i1=rest->hY aB y1 y3 y5 k1 rest i1 nQ=some r->Ar Γ N f50 (.q [[some (80,4),some (3,1),some (93,3),some (50,8),some (37,2),none]] (D.agg [D.fr 80 4 (r.rules.map aK.c),D.fr 3 1 (r.ends.map jf),D.fr 93 3 (r.bE.map aZ.c),D.fr 50 8 (r.nodes.map Node.c),D.fr 37 2 (r.facts.map aD.c),D.int .i64 r.cG])) [1,1,0,1,0] (rest.length+1) (wh aB y1 y3 y5 (nQ.map aZ.c) (i1:Int)):=by
 intro rest
 induction rest with
 |nil=>
  intro i1 nQ b8 h;rw[hY]at h;refine aU fun N1 cc cL=>?_
  exact((aW.ge aZ.c b8).a [.hl 0 [1,2,3] [0,1,2,3,4,5,6]]).ex hΓ cc (eF nQ h)
 |cons bU cO ih1=>
  intro i1 nQ b8 h;rw[hY]at h;refine aU fun N1 cc cL=>?_
  obtain⟨VJ,h68,h⟩:=aC h;obtain⟨y69,h70,h⟩:=aC h;obtain⟨h71,h⟩:=bX h;exact(((((((aW.lt aZ.c b8).l (bO aZ.c 3 (dc b8) rfl)).a [.n2 [0,1,2,3,4,5,6,7,8,9,10,11,12] [0,1,2,3,4,5,6,7,8,9,10,11,12] 9 10 [0,1] [8,9]]).g (r9 h68)).g (cN h70)).w (bq h71)).a [.cn [1,2,3,21,22,23] [0,1,2,3,4,11,6]]).cs hΓ cL (wh aB y1 y3 y5 ((nQ.map aZ.c)++([[D.str VJ.rel,D.sl (VJ.args.map tx),D.sl (y69.map aD.c)]])) (IntKind.i64.wrap ((i1:Int)+1))) (by first| (simp only[iS b8 hm1,mA]<;>rfl)| (simp only[iS b8 hm1,mA,aD.c,aR.c,aL.c,Action.c,aK.c,aT.c,bS.c,aZ.c,Node.c,aI.c,dU.c]<;>rfl)) (ih1 (i1+1) (nQ++([(⟨VJ,y69⟩:aZ)])) (dn b8) h)
def wi(aB:aI)(y1:ai)(y3:bJ)(y5:aJ)(nP:bN)(W0:List aP)(dQ:Int):St:=⟨[(2,D.ptr 0 0),(3,D.ptr 1 0),(41,D.sl (aB.nodes.map Node.c)),(42,D.int .i64 ((aB.nodes.map Node.c).length:Int)),(43,D.int .i64 dQ)],[Ob.box [D.nil,D.nil,D.nil,D.nil,D.nil,D.int .i64 0],Ob.box [D.acc 2,D.acc 3,D.acc 4,D.acc 5,D.acc 6,D.int .i64 aB.cG],Ob.row .uq 80 4 (y1.map aK.c),Ob.row .uq 3 1 (y3.map jf),Ob.row .uq 93 3 (nP.map aZ.c),Ob.row .uq 50 8 W0,Ob.row .uq 37 2 (y5.map aD.c)]⟩
theorem CG(hΓ:Γ.nt=65){aB:aI}{y1:ai}{y3:bJ}{y5:aJ}{nP:bN}{r:aI}{k2:bL->Option aI}(B7:∀(ot:bL),k2 ot=some r->Ax Γ N f50 (.q [[some (80,4),some (3,1),some (93,3),some (50,8),some (37,2),none]] (D.agg [D.fr 80 4 (r.rules.map aK.c),D.fr 3 1 (r.ends.map jf),D.fr 93 3 (r.bE.map aZ.c),D.fr 50 8 (r.nodes.map Node.c),D.fr 37 2 (r.facts.map aD.c),D.int .i64 r.cG])) [1,1,1,1] ⟨[(2,D.ptr 0 0),(3,D.ptr 1 0)],[Ob.box [D.nil,D.nil,D.nil,D.nil,D.nil,D.int .i64 0],Ob.box [D.acc 2,D.acc 3,D.acc 4,D.acc 5,D.acc 6,D.int .i64 aB.cG],Ob.row .uq 80 4 (y1.map aK.c),Ob.row .uq 3 1 (y3.map jf),Ob.row .uq 93 3 (nP.map aZ.c),Ob.row .uq 50 8 (ot.map Node.c),Ob.row .uq 37 2 (y5.map aD.c)]⟩)(hm2:aB.nodes.length<=maxLen):∀(rest:bL) (i2:Nat) (uT:bL),aB.nodes.drop i2=rest->iA aB y1 y3 y5 nP k2 rest i2 uT=some r->Ar Γ N f50 (.q [[some (80,4),some (3,1),some (93,3),some (50,8),some (37,2),none]] (D.agg [D.fr 80 4 (r.rules.map aK.c),D.fr 3 1 (r.ends.map jf),D.fr 93 3 (r.bE.map aZ.c),D.fr 50 8 (r.nodes.map Node.c),D.fr 37 2 (r.facts.map aD.c),D.int .i64 r.cG])) [1,1,1,0,1,0] (rest.length+1) (wi aB y1 y3 y5 nP (uT.map Node.c) (i2:Int)):=by
 intro rest
 induction rest with
 |nil=>
  intro i2 uT hd2 h;rw[iA]at h;refine aU fun N2 vv tQ=>?_
  exact((aW.ge Node.c hd2).a [.hl 0 [2,3] [0,1,2,3,4,5,6]]).ex hΓ vv (B7 uT h)
 |cons jg tR ih2=>
  intro i2 uT hd2 h;rw[iA]at h;refine aU fun N2 vv tQ=>?_
  obtain⟨GH,h133,h⟩:=aC h;obtain⟨Yp,h135,h⟩:=aC h;obtain⟨h136,h⟩:=bX h;exact(((((((aW.lt Node.c hd2).l (bO Node.c 8 (dc hd2) rfl)).a [.n2 [0,1,2,3,4,5,6,7,8,9,10,11,12,13,14,15,16] [0,1,2,3,4,5,6,7,8,9,10,11,12,13,14,15,16] 13 14 [0,1] [8,9]]).g (kI h133)).g (CH h135)).w (bq h136)).a [.cn [2,3,41,42,43] [0,1,2,3,4,11,6]]).cs hΓ tQ (wi aB y1 y3 y5 nP ((uT.map Node.c)++([[D.int .i64 jg.parent,D.int .i64 GH.kind,D.str GH.pat.rel,D.sl (GH.pat.args.map tx),D.str GH.left,D.str GH.right,D.int .i64 jg.dL,D.sl (Yp.map aT.c)]])) (IntKind.i64.wrap ((i2:Int)+1))) (by first| (simp only[iS hd2 hm2,mA]<;>rfl)| (simp only[iS hd2 hm2,mA,aD.c,aR.c,aL.c,Action.c,aK.c,aT.c,bS.c,aZ.c,Node.c,aI.c,dU.c]<;>rfl)) (ih2 (i2+1) (uT++([(⟨jg.parent,GH,jg.dL,Yp⟩:Node)])) (dn hd2) h)
theorem kJ{aB:aI}{r:aI}(h:gZ aB=some r):Good prog 50 [D.agg (aI.c aB)] (D.agg [D.fr 80 4 (r.rules.map aK.c),D.fr 3 1 (r.ends.map jf),D.fr 93 3 (r.bE.map aZ.c),D.fr 50 8 (r.nodes.map Node.c),D.fr 37 2 (r.facts.map aD.c),D.int .i64 r.cG]):=by
 refine gd func50 [[some (80,4),some (3,1),some (93,3),some (50,8),some (37,2),none]] 65 fun hr Γ hΓ=>?_
 rw[gZ]at h;obtain⟨y1,h2,h⟩:=aC h;obtain⟨y3,h4,h⟩:=aC h;obtain⟨y5,h6,h⟩:=aC h;refine(((((aW.a [.n 13]).g (wj h2)).g (Dy h4)).g (cN h6)).a [.pb 5 2 93 3,.cn [1,2,3,21,22,23] [0,1,5,2,3,6,4]]).lp hΓ (CF hΓ (fun nP h=>?_) (by have:=(ij.sl (ij.agg (hr _ (aE (i:=0) rfl)) (.sl (aB.bE.map aZ.c)) (by simp))).1;simpa using this) aB.bE 0 ([]:bN) rfl h);refine(aW.a [.pb 2 3 50 8,.cn [2,3,41,42,43] [1,2,3,4,5,7,6]]).lp hΓ (CG hΓ (fun ot h=>?_) (by have:=(ij.sl (ij.agg (hr _ (aE (i:=0) rfl)) (.sl (aB.nodes.map Node.c)) (by simp))).1;simpa using this) aB.nodes 0 ([]:bL) rfl h);cases h;exact aW.ret hΓ
def iN(aB:Int)(aY:Int):Option Int:=(bif decide ((aB:Int)<aY)then(some (-1))else(bif decide ((aB:Int)>aY)then(some 1)else(some 0)))
theorem qy{aB:Int}{aY:Int}{r:Int}(h:iN aB aY=some r):Good prog 117 [D.int .i64 aB,D.int .i64 aY] (D.int .i64 r):=by
 refine gd func117 [[none]] 13 fun hr Γ hΓ=>?_
 rw[iN]at h;obtain⟨h1,h⟩|⟨h1,h⟩:=aO h
 ·cases h;exact(aW.b h1).ret hΓ
 ·obtain⟨h2,h⟩|⟨h2,h⟩:=aO h
  ·have h:=aN h;subst h;exact((aW.b h1).b h2).ret hΓ
  ·have h:=aN h;subst h;exact((aW.b h1).b h2).ret hΓ
def lT(aB:Bytes)(aY:Bytes):Option Int:=((mC aB).bind fun y1=>((mC aY).bind fun y3=>(bif y1.2 then(bif y3.2 then((iN y1.1 y3.1).bind fun y7=>(some y7))else(some (-1)))else(bif y3.2 then(some 1)else((qI aB aY).bind fun GG=>(some GG))))))
theorem Ak{aB:Bytes}{aY:Bytes}{r:Int}(h:lT aB aY=some r):Good prog 176 [D.str aB,D.str aY] (D.int .i64 r):=by
 refine gd func176 [[none]] 34 fun hr Γ hΓ=>?_
 rw[lT]at h;obtain⟨y1,h2,h⟩:=aC h;obtain⟨y3,h4,h⟩:=aC h;have pW:=((aW.g (pz h2)).g (pz h4))
 obtain⟨h5,h⟩|⟨h5,h⟩:=aO h
 ·have gr:=(pW.r 2 h5)
  obtain⟨h6,h⟩|⟨h6,h⟩:=aO h
  ·obtain⟨y7,h8,h⟩:=aC h;have h:=aN h;subst h;exact((gr.b h6).g (qy h8)).ret hΓ
  ·cases h;exact((gr.b h6).b h5).ret hΓ
 ·have kp:=(((pW.r 2 h5).F 1).b h5)
  obtain⟨h9,h⟩|⟨h9,h⟩:=aO h
  ·have h:=aN h;subst h;exact(kp.b h9).ret hΓ
  ·obtain⟨GG,h11,h⟩:=aC h;have h:=aN h;subst h;exact((kp.b h9).g (s9 h11)).ret hΓ
def j0(aB:aD)(aY:aD)(k1:Option Int):aG->Nat->Option Int
 | [],i1=>(k1)
 |bU::cO,i1=>(bif decide (((i1:Int):Int)<((aY.args.map tx).length:Int))then((hO aY.args (i1:Int)).bind fun x37=>((lT bU x37).bind fun Da=>(bif (Da:Int) != 0 then(some Da)else(j0 aB aY k1 cO (i1+1)))))else(k1))
def fp(aB:aD)(aY:aD):Option Int:=((qI aB.rel aY.rel).bind fun y1=>(bif (y1:Int) != 0 then(some y1)else(j0 aB aY ((iN ((aB.args.map tx).length:Int) ((aY.args.map tx).length:Int)).bind fun VG=>(some VG)) aB.args 0)))
def C6(aB:aD)(aY:aD)(dQ:Int):St:=⟨[(2,D.ptr 0 0),(3,D.ptr 1 0),(6,D.int .i64 dQ)],[Ob.box (aD.c aB),Ob.box (aD.c aY)]⟩
theorem BL(hΓ:Γ.nt=51){aB:aD}{aY:aD}{r:Int}{k1:Option Int}(eF:k1=some r->Ax Γ N f111 (.q [[none]] (D.int .i64 r)) [1,1,1] ⟨[(2,D.ptr 0 0),(3,D.ptr 1 0)],[Ob.box (aD.c aB),Ob.box (aD.c aY)]⟩)(hm1:aB.args.length<=maxLen):∀(rest:aG) (i1:Nat),aB.args.drop i1=rest->j0 aB aY k1 rest i1=some r->Ar Γ N f111 (.q [[none]] (D.int .i64 r)) [1,1,0,1,0] (rest.length+1) (C6 aB aY (i1:Int)):=by
 intro rest
 induction rest with
 |nil=>
  intro i1 b8 h;rw[j0]at h;refine aU fun N1 cc cL=>?_
  exact((((((((aW.ge tx b8).ge tx b8).ge tx b8).ge tx b8).ge tx b8).ge tx b8).F 1).a [.hl 0 [2,3] [0,1]]).ex hΓ cc (eF h)
 |cons bU cO ih1=>
  intro i1 b8 h;rw[j0]at h;refine aU fun N1 cc cL=>?_
  have kp:=((((((aW.lt tx b8).lt tx b8).lt tx b8).lt tx b8).lt tx b8).lt tx b8)
  obtain⟨h36,h⟩|⟨h36,h⟩:=aO h
  ·obtain⟨x37,h38,h⟩:=aC h;obtain⟨Da,h40,h⟩:=aC h;have ko:=(((((kp.b h36).a [.n 10]).l (bO tx 1 (dc b8) rfl)).l (gq tx 1 h38 rfl)).g (Ak h40))
   obtain⟨h41,h⟩|⟨h41,h⟩:=aO h
   ·have h:=aN h;subst h;exact(ko.b h41).ret hΓ
   ·exact((ko.b h41).a [.cn [2,3,6] [0,1]]).ct hΓ cL (iS b8 hm1) (ih1 (i1+1) (dn b8) h)
  ·exact((kp.b h36).a [.hl 0 [2,3] [0,1]]).ex hΓ cc (eF h)
theorem qO{aB:aD}{aY:aD}{r:Int}(h:fp aB aY=some r):Good prog 111 [D.agg (aD.c aB),D.agg (aD.c aY)] (D.int .i64 r):=by
 refine gd func111 [[none]] 51 fun hr Γ hΓ=>?_
 rw[fp]at h;obtain⟨y1,h2,h⟩:=aC h;obtain⟨h3,h⟩|⟨h3,h⟩:=aO h
 ·have h:=aN h;subst h;exact((aW.g (s9 h2)).b h3).ret hΓ
 ·refine(((aW.g (s9 h2)).b h3).a [.cn [2,3,6] [0,1]]).lp hΓ (BL hΓ (fun h=>?_) (by have:=(ij.sl (ij.agg (hr _ (aE (i:=0) rfl)) (.sl (aB.args.map tx)) (by simp))).1;simpa using this) aB.args 0 rfl h);obtain⟨VG,h43,h⟩:=aC h;have h:=aN h;subst h;exact(aW.g (qy h43)).ret hΓ
def iK(aB:aJ)(k1:Option Bool):aJ->Nat->Option Bool
 | [],i1=>(k1)
 |bU::cO,i1=>((oQ bU).bind fun y46=>(bif !(y46)then(some false)else(bif decide (((i1:Int):Int)>0)then((hO aB (IntKind.i64.wrap ((i1:Int)-1))).bind fun x50=>((fp x50 bU).bind fun y52=>(bif decide ((y52:Int)>=0)then(some false)else(iK aB k1 cO (i1+1)))))else(iK aB k1 cO (i1+1)))))
def nr(aB:aJ):Option Bool:=(bif decide ((((aB.map aD.c).length:Int):Int)>24)then(some false)else(iK aB (some true) aB 0))
def Gh(aB:aJ)(dQ:Int):St:=⟨[(0,D.sl (aB.map aD.c)),(8,D.sl (aB.map aD.c)),(9,D.int .i64 ((aB.map aD.c).length:Int)),(10,D.int .i64 dQ)],[]⟩
theorem FK(hΓ:Γ.nt=33){aB:aJ}{r:Bool}{k1:Option Bool}(eF:k1=some r->Ax Γ N f57 (.q [[none]] (D.bool r)) [1,1,1] ⟨[],[]⟩)(hm1:aB.length<=maxLen):∀(rest:aJ) (i1:Nat),aB.drop i1=rest->iK aB k1 rest i1=some r->Ar Γ N f57 (.q [[none]] (D.bool r)) [1,1,0,1,0] (rest.length+1) (Gh aB (i1:Int)):=by
 intro rest
 induction rest with
 |nil=>
  intro i1 b8 h;rw[iK]at h;refine aU fun N1 cc cL=>?_
  exact((aW.ge aD.c b8).a [.hl 0 [] []]).ex hΓ cc (eF h)
 |cons bU cO ih1=>
  intro i1 b8 h;rw[iK]at h;refine aU fun N1 cc cL=>?_
  obtain⟨y46,h47,h⟩:=aC h;have ko:=((((aW.lt aD.c b8).l (bO aD.c 2 (dc b8) rfl)).a [.n 13]).g (vL h47))
  obtain⟨h48,h⟩|⟨h48,h⟩:=aO h
  ·have h:=aN h;subst h;exact((((ko.r 3 h48).a [bF,bF,bF,bF,bF,bF,bF,bF]).r 2 h48).T 1).ret hΓ
  ·have tN:=(ko.r 3 h48)
   obtain⟨h49,h⟩|⟨h49,h⟩:=aO h
   ·obtain⟨x50,h51,h⟩:=aC h;obtain⟨y52,h53,h⟩:=aC h;have xp:=((((((((tN.r 4 h49).l (gq aD.c 2 h51 rfl)).r 3 h49).g (qO h53)).b h49).b h48).b h49).b h48)
    obtain⟨h54,h⟩|⟨h54,h⟩:=aO h
    ·have h:=aN h;subst h;exact(xp.b h54).ret hΓ
    ·exact((xp.b h54).a [.cn [0,8,9,10] []]).ct hΓ cL (iS b8 hm1) (ih1 (i1+1) (dn b8) h)
   ·exact((((((tN.r 8 h49).b h48).b h49).b h48).F 1).a [.cn [0,8,9,10] []]).ct hΓ cL (iS b8 hm1) (ih1 (i1+1) (dn b8) h)
theorem py{aB:aJ}{r:Bool}(h:nr aB=some r):Good prog 57 [D.sl (aB.map aD.c)] (D.bool r):=by
 refine gd func57 [[none]] 33 fun hr Γ hΓ=>?_
 rw[nr]at h;obtain⟨h1,h⟩|⟨h1,h⟩:=aO h
 ·have h:=aN h;subst h;exact(aW.b h1).ret hΓ
 ·refine((aW.b h1).a [.cn [0,8,9,10] []]).lp hΓ (FK hΓ (fun h=>?_) (by have:=(ij.sl (hr _ (aE (i:=0) rfl))).1;simpa using this) aB 0 rfl h);have h:=aN h;subst h;exact aW.ret hΓ
def jq(aB:aK)(aY:aK)(k1:Option Bool):ah->Nat->Option Bool
 | [],i1=>(k1)
 |bU::cO,i1=>((hO aY.conds (i1:Int)).bind fun x33=>((ji bU x33).bind fun RQ=>(bif !(RQ)then(some false)else(jq aB aY k1 cO (i1+1)))))
def iM(aB:aK)(aY:aK)(k2:Option Bool):eG->Nat->Option Bool
 | [],i2=>(k2)
 |jg::tR,i2=>((hO aY.cg (i2:Int)).bind fun x70=>(bif (jg.kind:Int) != x70.kind then(some false)else((fU jg.pat x70.pat).bind fun DY=>(bif !(DY)then(some false)else(iM aB aY k2 tR (i2+1))))))
def pQ(aB:aK)(aY:aK):Option Bool:=(bif !((aB.name:Bytes)==aY.name)then(some false)else(bif (aB.prio:Int) != aY.prio then(some false)else(bif (((aB.conds.map aL.c).length:Int):Int) != ((aY.conds.map aL.c).length:Int)then(some false)else(bif (((aB.cg.map Action.c).length:Int):Int) != ((aY.cg.map Action.c).length:Int)then(some false)else(jq aB aY (iM aB aY (some true) aB.cg 0) aB.conds 0)))))
def Gm(aB:aK)(aY:aK)(dQ:Int):St:=⟨[(2,D.ptr 0 0),(3,D.ptr 1 0),(39,D.int .i64 ((aB.conds.map aL.c).length:Int)),(40,D.int .i64 dQ)],[Ob.box (aK.c aB),Ob.box (aK.c aY)]⟩
theorem FT(hΓ:Γ.nt=92){aB:aK}{aY:aK}{r:Bool}{k1:Option Bool}(eF:k1=some r->Ax Γ N f106 (.q [[none]] (D.bool r)) [1,1,1] ⟨[(2,D.ptr 0 0),(3,D.ptr 1 0)],[Ob.box (aK.c aB),Ob.box (aK.c aY)]⟩)(hm1:aB.conds.length<=maxLen):∀(rest:ah) (i1:Nat),aB.conds.drop i1=rest->jq aB aY k1 rest i1=some r->Ar Γ N f106 (.q [[none]] (D.bool r)) [1,1,0,1,0] (rest.length+1) (Gm aB aY (i1:Int)):=by
 intro rest
 induction rest with
 |nil=>
  intro i1 b8 h;rw[jq]at h;refine aU fun N1 cc cL=>?_
  exact((aW.ge aL.c b8).a [.hl 0 [2,3] [0,1]]).ex hΓ cc (eF h)
 |cons bU cO ih1=>
  intro i1 b8 h;rw[jq]at h;refine aU fun N1 cc cL=>?_
  obtain⟨x33,h34,h⟩:=aC h;obtain⟨RQ,h36,h⟩:=aC h;have ko:=(((((aW.lt aL.c b8).a [.n 10]).l (bO aL.c 5 (dc b8) rfl)).l (gq aL.c 5 h34 rfl)).g (td h36))
  obtain⟨h37,h⟩|⟨h37,h⟩:=aO h
  ·have h:=aN h;subst h;exact(ko.b h37).ret hΓ
  ·exact((ko.b h37).a [.cn [2,3,39,40] [0,1]]).ct hΓ cL (iS b8 hm1) (ih1 (i1+1) (dn b8) h)
def Gn(aB:aK)(aY:aK)(dQ:Int):St:=⟨[(2,D.ptr 0 0),(3,D.ptr 1 0),(58,D.int .i64 ((aB.cg.map Action.c).length:Int)),(59,D.int .i64 dQ)],[Ob.box (aK.c aB),Ob.box (aK.c aY)]⟩
theorem FU(hΓ:Γ.nt=92){aB:aK}{aY:aK}{r:Bool}{k2:Option Bool}(B7:k2=some r->Ax Γ N f106 (.q [[none]] (D.bool r)) [1,1,1,1] ⟨[],[]⟩)(hm2:aB.cg.length<=maxLen):∀(rest:eG) (i2:Nat),aB.cg.drop i2=rest->iM aB aY k2 rest i2=some r->Ar Γ N f106 (.q [[none]] (D.bool r)) [1,1,1,0,1,0] (rest.length+1) (Gn aB aY (i2:Int)):=by
 intro rest
 induction rest with
 |nil=>
  intro i2 hd2 h;rw[iM]at h;refine aU fun N2 vv tQ=>?_
  exact((aW.ge Action.c hd2).a [.hl 0 [] []]).ex hΓ vv (B7 h)
 |cons jg tR ih2=>
  intro i2 hd2 h;rw[iM]at h;refine aU fun N2 vv tQ=>?_
  obtain⟨x70,h71,h⟩:=aC h;have tN:=((((aW.lt Action.c hd2).a [.n 26]).l (bO Action.c 3 (dc hd2) rfl)).l (gq Action.c 3 h71 rfl))
  obtain⟨h72,h⟩|⟨h72,h⟩:=aO h
  ·have h:=aN h;subst h;exact((tN.r 15 h72).T 1).ret hΓ
  ·obtain⟨DY,h74,h⟩:=aC h;have xp:=(((((((tN.r 4 h72).l (bO Action.c 3 (dc hd2) rfl)).r 6 h72).l (gq Action.c 3 h71 rfl)).r 3 h72).g (nX h74)).r 2 h72)
   obtain⟨h75,h⟩|⟨h75,h⟩:=aO h
   ·have h:=aN h;subst h;exact(xp.b h75).ret hΓ
   ·exact((xp.b h75).a [.cn [2,3,58,59] [0,1]]).ct hΓ tQ (iS hd2 hm2) (ih2 (i2+1) (dn hd2) h)
theorem Dv{aB:aK}{aY:aK}{r:Bool}(h:pQ aB aY=some r):Good prog 106 [D.agg (aK.c aB),D.agg (aK.c aY)] (D.bool r):=by
 refine gd func106 [[none]] 92 fun hr Γ hΓ=>?_
 rw[pQ]at h;obtain⟨h1,h⟩|⟨h1,h⟩:=aO h
 ·have h:=aN h;subst h;exact((aW.r 6 h1).T 17).ret hΓ
 ·have B0:=(aW.r 6 h1)
  obtain⟨h2,h⟩|⟨h2,h⟩:=aO h
  ·have h:=aN h;subst h;exact((B0.r 8 h2).T 9).ret hΓ
  ·have GU:=(B0.r 8 h2)
   obtain⟨h3,h⟩|⟨h3,h⟩:=aO h
   ·have h:=aN h;subst h;exact((GU.r 8 h3).T 1).ret hΓ
   ·have MV:=(GU.r 8 h3)
    obtain⟨h4,h⟩|⟨h4,h⟩:=aO h
    ·have h:=aN h;subst h;exact(MV.b h4).ret hΓ
    ·refine((MV.b h4).a [.cn [2,3,39,40] [0,1]]).lp hΓ (FT hΓ (fun h=>?_) (by have:=(ij.sl (ij.agg (hr _ (aE (i:=0) rfl)) (.sl (aB.conds.map aL.c)) (by simp))).1;simpa using this) aB.conds 0 rfl h);refine(aW.a [.cn [2,3,58,59] [0,1]]).lp hΓ (FU hΓ (fun h=>?_) (by have:=(ij.sl (ij.agg (hr _ (aE (i:=0) rfl)) (.sl (aB.cg.map Action.c)) (by simp))).1;simpa using this) aB.cg 0 rfl h);have h:=aN h;subst h;exact aW.ret hΓ
def lf(aB:ai)(aY:ai)(k1:Option Bool):ai->Nat->Option Bool
 | [],i1=>(k1)
 |bU::cO,i1=>((hO aY (i1:Int)).bind fun x30=>((pQ bU x30).bind fun O9=>(bif !(O9)then(some false)else(lf aB aY k1 cO (i1+1)))))
def rB(aB:ai)(aY:ai):Option Bool:=(bif (((aB.map aK.c).length:Int):Int) != ((aY.map aK.c).length:Int)then(some false)else(lf aB aY (some true) aB 0))
def Fb(aB:ai)(aY:ai)(dQ:Int):St:=⟨[(0,D.sl (aB.map aK.c)),(1,D.sl (aY.map aK.c)),(12,D.int .i64 ((aB.map aK.c).length:Int)),(13,D.int .i64 dQ)],[]⟩
theorem E4(hΓ:Γ.nt=27){aB:ai}{aY:ai}{r:Bool}{k1:Option Bool}(eF:k1=some r->Ax Γ N f51 (.q [[none]] (D.bool r)) [1,1,1] ⟨[],[]⟩)(hm1:aB.length<=maxLen):∀(rest:ai) (i1:Nat),aB.drop i1=rest->lf aB aY k1 rest i1=some r->Ar Γ N f51 (.q [[none]] (D.bool r)) [1,1,0,1,0] (rest.length+1) (Fb aB aY (i1:Int)):=by
 intro rest
 induction rest with
 |nil=>
  intro i1 b8 h;rw[lf]at h;refine aU fun N1 cc cL=>?_
  exact((aW.ge aK.c b8).a [.hl 0 [] []]).ex hΓ cc (eF h)
 |cons bU cO ih1=>
  intro i1 b8 h;rw[lf]at h;refine aU fun N1 cc cL=>?_
  obtain⟨x30,h31,h⟩:=aC h;obtain⟨O9,h33,h⟩:=aC h;have gr:=(((((aW.lt aK.c b8).a [.n 8]).l (bO aK.c 4 (dc b8) rfl)).l (gq aK.c 4 h31 rfl)).g (Dv h33))
  obtain⟨h34,h⟩|⟨h34,h⟩:=aO h
  ·have h:=aN h;subst h;exact(gr.b h34).ret hΓ
  ·exact((gr.b h34).a [.cn [0,1,12,13] []]).ct hΓ cL (iS b8 hm1) (ih1 (i1+1) (dn b8) h)
theorem wk{aB:ai}{aY:ai}{r:Bool}(h:rB aB aY=some r):Good prog 51 [D.sl (aB.map aK.c),D.sl (aY.map aK.c)] (D.bool r):=by
 refine gd func51 [[none]] 27 fun hr Γ hΓ=>?_
 rw[rB]at h;obtain⟨h1,h⟩|⟨h1,h⟩:=aO h
 ·have h:=aN h;subst h;exact(aW.b h1).ret hΓ
 ·refine((aW.b h1).a [.cn [0,1,12,13] []]).lp hΓ (E4 hΓ (fun h=>?_) (by have:=(ij.sl (hr _ (aE (i:=0) rfl))).1;simpa using this) aB 0 rfl h);have h:=aN h;subst h;exact aW.ret hΓ
def mc(aB:bJ)(aY:bJ)(k1:Option Bool):bJ->Nat->Option Bool
 | [],i1=>(k1)
 |bU::cO,i1=>((hO aY (i1:Int)).bind fun x22=>(bif (bU:Int) != x22 then(some false)else(mc aB aY k1 cO (i1+1))))
def sJ(aB:bJ)(aY:bJ):Option Bool:=(bif (((aB.map jf).length:Int):Int) != ((aY.map jf).length:Int)then(some false)else(mc aB aY (some true) aB 0))
def Gw(aB:bJ)(aY:bJ)(dQ:Int):St:=⟨[(0,D.sl (aB.map jf)),(1,D.sl (aY.map jf)),(12,D.int .i64 ((aB.map jf).length:Int)),(13,D.int .i64 dQ)],[]⟩
theorem FZ(hΓ:Γ.nt=26){aB:bJ}{aY:bJ}{r:Bool}{k1:Option Bool}(eF:k1=some r->Ax Γ N f52 (.q [[none]] (D.bool r)) [1,1,1] ⟨[],[]⟩)(hm1:aB.length<=maxLen):∀(rest:bJ) (i1:Nat),aB.drop i1=rest->mc aB aY k1 rest i1=some r->Ar Γ N f52 (.q [[none]] (D.bool r)) [1,1,0,1,0] (rest.length+1) (Gw aB aY (i1:Int)):=by
 intro rest
 induction rest with
 |nil=>
  intro i1 b8 h;rw[mc]at h;refine aU fun N1 cc cL=>?_
  exact((aW.ge jf b8).a [.hl 0 [] []]).ex hΓ cc (eF h)
 |cons bU cO ih1=>
  intro i1 b8 h;rw[mc]at h;refine aU fun N1 cc cL=>?_
  obtain⟨x22,h23,h⟩:=aC h;have gr:=((((aW.lt jf b8).a [.n 8]).l (bO jf 1 (dc b8) rfl)).l (gq jf 1 h23 rfl))
  obtain⟨h24,h⟩|⟨h24,h⟩:=aO h
  ·have h:=aN h;subst h;exact(gr.b h24).ret hΓ
  ·exact((gr.b h24).a [.cn [0,1,12,13] []]).ct hΓ cL (iS b8 hm1) (ih1 (i1+1) (dn b8) h)
theorem E2{aB:bJ}{aY:bJ}{r:Bool}(h:sJ aB aY=some r):Good prog 52 [D.sl (aB.map jf),D.sl (aY.map jf)] (D.bool r):=by
 refine gd func52 [[none]] 26 fun hr Γ hΓ=>?_
 rw[sJ]at h;obtain⟨h1,h⟩|⟨h1,h⟩:=aO h
 ·have h:=aN h;subst h;exact(aW.b h1).ret hΓ
 ·refine((aW.b h1).a [.cn [0,1,12,13] []]).lp hΓ (FZ hΓ (fun h=>?_) (by have:=(ij.sl (hr _ (aE (i:=0) rfl))).1;simpa using this) aB 0 rfl h);have h:=aN h;subst h;exact aW.ret hΓ
def nv(aB:aD)(aY:aD):Option Bool:=(bif (aB.rel:Bytes)==aY.rel then((ol aB.args aY.args).bind fun y2=>(some y2))else(some false))
theorem xb{aB:aD}{aY:aD}{r:Bool}(h:nv aB aY=some r):Good prog 107 [D.agg (aD.c aB),D.agg (aD.c aY)] (D.bool r):=by
 refine gd func107 [[none]] 17 fun hr Γ hΓ=>?_
 rw[nv]at h;obtain⟨h1,h⟩|⟨h1,h⟩:=aO h
 ·obtain⟨y2,h3,h⟩:=aC h;have h:=aN h;subst h;exact(((aW.r 5 h1).g (wm h3)).b h1).ret hΓ
 ·have h:=aN h;subst h;exact(aW.r 6 h1).ret hΓ
def lW(aB:aJ)(aY:aJ)(k1:Option Bool):aJ->Nat->Option Bool
 | [],i1=>(k1)
 |bU::cO,i1=>((hO aY (i1:Int)).bind fun x30=>((nv bU x30).bind fun O9=>(bif !(O9)then(some false)else(lW aB aY k1 cO (i1+1)))))
def j7(aB:aJ)(aY:aJ):Option Bool:=(bif (((aB.map aD.c).length:Int):Int) != ((aY.map aD.c).length:Int)then(some false)else(lW aB aY (some true) aB 0))
def FR(aB:aJ)(aY:aJ)(dQ:Int):St:=⟨[(0,D.sl (aB.map aD.c)),(1,D.sl (aY.map aD.c)),(12,D.int .i64 ((aB.map aD.c).length:Int)),(13,D.int .i64 dQ)],[]⟩
theorem Du(hΓ:Γ.nt=27){aB:aJ}{aY:aJ}{r:Bool}{k1:Option Bool}(eF:k1=some r->Ax Γ N f53 (.q [[none]] (D.bool r)) [1,1,1] ⟨[],[]⟩)(hm1:aB.length<=maxLen):∀(rest:aJ) (i1:Nat),aB.drop i1=rest->lW aB aY k1 rest i1=some r->Ar Γ N f53 (.q [[none]] (D.bool r)) [1,1,0,1,0] (rest.length+1) (FR aB aY (i1:Int)):=by
 intro rest
 induction rest with
 |nil=>
  intro i1 b8 h;rw[lW]at h;refine aU fun N1 cc cL=>?_
  exact((aW.ge aD.c b8).a [.hl 0 [] []]).ex hΓ cc (eF h)
 |cons bU cO ih1=>
  intro i1 b8 h;rw[lW]at h;refine aU fun N1 cc cL=>?_
  obtain⟨x30,h31,h⟩:=aC h;obtain⟨O9,h33,h⟩:=aC h;have gr:=(((((aW.lt aD.c b8).a [.n 8]).l (bO aD.c 2 (dc b8) rfl)).l (gq aD.c 2 h31 rfl)).g (xb h33))
  obtain⟨h34,h⟩|⟨h34,h⟩:=aO h
  ·have h:=aN h;subst h;exact(gr.b h34).ret hΓ
  ·exact((gr.b h34).a [.cn [0,1,12,13] []]).ct hΓ cL (iS b8 hm1) (ih1 (i1+1) (dn b8) h)
theorem tC{aB:aJ}{aY:aJ}{r:Bool}(h:j7 aB aY=some r):Good prog 53 [D.sl (aB.map aD.c),D.sl (aY.map aD.c)] (D.bool r):=by
 refine gd func53 [[none]] 27 fun hr Γ hΓ=>?_
 rw[j7]at h;obtain⟨h1,h⟩|⟨h1,h⟩:=aO h
 ·have h:=aN h;subst h;exact(aW.b h1).ret hΓ
 ·refine((aW.b h1).a [.cn [0,1,12,13] []]).lp hΓ (Du hΓ (fun h=>?_) (by have:=(ij.sl (hr _ (aE (i:=0) rfl))).1;simpa using this) aB 0 rfl h);have h:=aN h;subst h;exact aW.ret hΓ
def jH(aB:aM)(aY:aM)(k1:Option Bool):aM->Nat->Option Bool
 | [],i1=>(k1)
 |bU::cO,i1=>((hO aY (i1:Int)).bind fun x22=>(bif !((bU.var:Bytes)==x22.var&&(bU.value:Bytes)==x22.value)then(some false)else(jH aB aY k1 cO (i1+1))))
def oh(aB:aM)(aY:aM):Option Bool:=(bif (((aB.map aR.c).length:Int):Int) != ((aY.map aR.c).length:Int)then(some false)else(jH aB aY (some true) aB 0))
def Fa(aB:aM)(aY:aM)(dQ:Int):St:=⟨[(0,D.sl (aB.map aR.c)),(1,D.sl (aY.map aR.c)),(12,D.int .i64 ((aB.map aR.c).length:Int)),(13,D.int .i64 dQ)],[]⟩
theorem E3(hΓ:Γ.nt=26){aB:aM}{aY:aM}{r:Bool}{k1:Option Bool}(eF:k1=some r->Ax Γ N f109 (.q [[none]] (D.bool r)) [1,1,1] ⟨[],[]⟩)(hm1:aB.length<=maxLen):∀(rest:aM) (i1:Nat),aB.drop i1=rest->jH aB aY k1 rest i1=some r->Ar Γ N f109 (.q [[none]] (D.bool r)) [1,1,0,1,0] (rest.length+1) (Fa aB aY (i1:Int)):=by
 intro rest
 induction rest with
 |nil=>
  intro i1 b8 h;rw[jH]at h;refine aU fun N1 cc cL=>?_
  exact((aW.ge aR.c b8).a [.hl 0 [] []]).ex hΓ cc (eF h)
 |cons bU cO ih1=>
  intro i1 b8 h;rw[jH]at h;refine aU fun N1 cc cL=>?_
  obtain⟨x22,h23,h⟩:=aC h;have gr:=((((aW.lt aR.c b8).a [.n 8]).l (bO aR.c 2 (dc b8) rfl)).l (gq aR.c 2 h23 rfl))
  obtain⟨h24,h⟩|⟨h24,h⟩:=aO h
  ·have h:=aN h;subst h;exact(gr.b h24).ret hΓ
  ·exact((gr.b h24).a [.cn [0,1,12,13] []]).ct hΓ cL (iS b8 hm1) (ih1 (i1+1) (dn b8) h)
theorem DA{aB:aM}{aY:aM}{r:Bool}(h:oh aB aY=some r):Good prog 109 [D.sl (aB.map aR.c),D.sl (aY.map aR.c)] (D.bool r):=by
 refine gd func109 [[none]] 26 fun hr Γ hΓ=>?_
 rw[oh]at h;obtain⟨h1,h⟩|⟨h1,h⟩:=aO h
 ·have h:=aN h;subst h;exact(aW.b h1).ret hΓ
 ·refine((aW.b h1).a [.cn [0,1,12,13] []]).lp hΓ (E3 hΓ (fun h=>?_) (by have:=(ij.sl (hr _ (aE (i:=0) rfl))).1;simpa using this) aB 0 rfl h);have h:=aN h;subst h;exact aW.ret hΓ
def iQ(aB:ar)(aY:ar)(k1:Option Bool):ar->Nat->Option Bool
 | [],i1=>(k1)
 |bU::cO,i1=>((hO aY (i1:Int)).bind fun x42=>((j7 bU.facts x42.facts).bind fun y44=>(bif !(y44)then(some false)else((oh bU.bind x42.bind).bind fun y47=>(bif !(y47)then(some false)else(iQ aB aY k1 cO (i1+1)))))))
def nc(aB:ar)(aY:ar):Option Bool:=(bif (((aB.map aT.c).length:Int):Int) != ((aY.map aT.c).length:Int)then(some false)else(iQ aB aY (some true) aB 0))
def E6(aB:ar)(aY:ar)(dQ:Int):St:=⟨[(0,D.sl (aB.map aT.c)),(1,D.sl (aY.map aT.c)),(12,D.int .i64 ((aB.map aT.c).length:Int)),(13,D.int .i64 dQ)],[]⟩
theorem DB(hΓ:Γ.nt=43){aB:ar}{aY:ar}{r:Bool}{k1:Option Bool}(eF:k1=some r->Ax Γ N f56 (.q [[none]] (D.bool r)) [1,1,1] ⟨[],[]⟩)(hm1:aB.length<=maxLen):∀(rest:ar) (i1:Nat),aB.drop i1=rest->iQ aB aY k1 rest i1=some r->Ar Γ N f56 (.q [[none]] (D.bool r)) [1,1,0,1,0] (rest.length+1) (E6 aB aY (i1:Int)):=by
 intro rest
 induction rest with
 |nil=>
  intro i1 b8 h;rw[iQ]at h;refine aU fun N1 cc cL=>?_
  exact((aW.ge aT.c b8).a [.hl 0 [] []]).ex hΓ cc (eF h)
 |cons bU cO ih1=>
  intro i1 b8 h;rw[iQ]at h;refine aU fun N1 cc cL=>?_
  obtain⟨x42,h43,h⟩:=aC h;obtain⟨y44,h45,h⟩:=aC h;have kp:=(((((aW.lt aT.c b8).a [.n 23]).l (bO aT.c 2 (dc b8) rfl)).l (gq aT.c 2 h43 rfl)).g (tC h45))
  obtain⟨h46,h⟩|⟨h46,h⟩:=aO h
  ·have h:=aN h;subst h;exact((kp.r 13 h46).T 1).ret hΓ
  ·obtain⟨y47,h48,h⟩:=aC h;have ko:=(((((((kp.r 3 h46).l (bO aT.c 2 (dc b8) rfl)).r 5 h46).l (gq aT.c 2 h43 rfl)).r 3 h46).g (DA h48)).r 2 h46)
   obtain⟨h49,h⟩|⟨h49,h⟩:=aO h
   ·have h:=aN h;subst h;exact(ko.b h49).ret hΓ
   ·exact((ko.b h49).a [.cn [0,1,12,13] []]).ct hΓ cL (iS b8 hm1) (ih1 (i1+1) (dn b8) h)
theorem CK{aB:ar}{aY:ar}{r:Bool}(h:nc aB aY=some r):Good prog 56 [D.sl (aB.map aT.c),D.sl (aY.map aT.c)] (D.bool r):=by
 refine gd func56 [[none]] 43 fun hr Γ hΓ=>?_
 rw[nc]at h;obtain⟨h1,h⟩|⟨h1,h⟩:=aO h
 ·have h:=aN h;subst h;exact(aW.b h1).ret hΓ
 ·refine((aW.b h1).a [.cn [0,1,12,13] []]).lp hΓ (DB hΓ (fun h=>?_) (by have:=(ij.sl (hr _ (aE (i:=0) rfl))).1;simpa using this) aB 0 rfl h);have h:=aN h;subst h;exact aW.ret hΓ
def gW(aB:aI)(aY:aI)(k1:Option Bool):bN->Nat->Option Bool
 | [],i1=>(k1)
 |bU::cO,i1=>((hO aY.bE (i1:Int)).bind fun x52=>((fU bU.shape x52.shape).bind fun JR=>(bif !(JR)then(some false)else((j7 bU.facts x52.facts).bind fun y57=>(bif !(y57)then(some false)else(gW aB aY k1 cO (i1+1)))))))
def gX(aB:aI)(aY:aI)(k2:Option Bool):bL->Nat->Option Bool
 | [],i2=>(k2)
 |jg::tR,i2=>((hO aY.nodes (i2:Int)).bind fun x108=>(bif (jg.parent:Int) != x108.parent then(some false)else(bif (jg.dL:Int) != x108.dL then(some false)else((ji jg.cond x108.cond).bind fun Su=>(bif !(Su)then(some false)else((nc jg.tokens x108.tokens).bind fun VD=>(bif !(VD)then(some false)else(gX aB aY k2 tR (i2+1)))))))))
def lX(aB:aI)(aY:aI):Option Bool:=((rB aB.rules aY.rules).bind fun y1=>(bif !(y1)then(some false)else((sJ aB.ends aY.ends).bind fun y4=>(bif !(y4)then(some false)else((j7 aB.facts aY.facts).bind fun y7=>(bif !(y7)then(some false)else(bif (((aB.bE.map aZ.c).length:Int):Int) != ((aY.bE.map aZ.c).length:Int)then(some false)else(bif (((aB.nodes.map Node.c).length:Int):Int) != ((aY.nodes.map Node.c).length:Int)then(some false)else(gW aB aY (gX aB aY (some true) aB.nodes 0) aB.bE 0)))))))))
def C8(aB:aI)(aY:aI)(dQ:Int):St:=⟨[(2,D.ptr 0 0),(3,D.ptr 1 0),(51,D.int .i64 ((aB.bE.map aZ.c).length:Int)),(52,D.int .i64 dQ)],[Ob.box (aI.c aB),Ob.box (aI.c aY)]⟩
theorem BO(hΓ:Γ.nt=131){aB:aI}{aY:aI}{r:Bool}{k1:Option Bool}(eF:k1=some r->Ax Γ N f14 (.q [[none]] (D.bool r)) [1,1,1] ⟨[(2,D.ptr 0 0),(3,D.ptr 1 0)],[Ob.box (aI.c aB),Ob.box (aI.c aY)]⟩)(hm1:aB.bE.length<=maxLen):∀(rest:bN) (i1:Nat),aB.bE.drop i1=rest->gW aB aY k1 rest i1=some r->Ar Γ N f14 (.q [[none]] (D.bool r)) [1,1,0,1,0] (rest.length+1) (C8 aB aY (i1:Int)):=by
 intro rest
 induction rest with
 |nil=>
  intro i1 b8 h;rw[gW]at h;refine aU fun N1 cc cL=>?_
  exact((aW.ge aZ.c b8).a [.hl 0 [2,3] [0,1]]).ex hΓ cc (eF h)
 |cons bU cO ih1=>
  intro i1 b8 h;rw[gW]at h;refine aU fun N1 cc cL=>?_
  obtain⟨x52,h53,h⟩:=aC h;obtain⟨JR,h55,h⟩:=aC h;have B0:=(((((aW.lt aZ.c b8).a [.n 27]).l (bO aZ.c 3 (dc b8) rfl)).l (gq aZ.c 3 h53 rfl)).g (nX h55))
  obtain⟨h56,h⟩|⟨h56,h⟩:=aO h
  ·have h:=aN h;subst h;exact((B0.r 15 h56).T 1).ret hΓ
  ·obtain⟨y57,h58,h⟩:=aC h;have GU:=(((((((B0.r 4 h56).l (bO aZ.c 3 (dc b8) rfl)).r 6 h56).l (gq aZ.c 3 h53 rfl)).r 3 h56).g (tC h58)).r 2 h56)
   obtain⟨h59,h⟩|⟨h59,h⟩:=aO h
   ·have h:=aN h;subst h;exact(GU.b h59).ret hΓ
   ·exact((GU.b h59).a [.cn [2,3,51,52] [0,1]]).ct hΓ cL (iS b8 hm1) (ih1 (i1+1) (dn b8) h)
def C9(aB:aI)(aY:aI)(dQ:Int):St:=⟨[(2,D.ptr 0 0),(3,D.ptr 1 0),(88,D.int .i64 ((aB.nodes.map Node.c).length:Int)),(89,D.int .i64 dQ)],[Ob.box (aI.c aB),Ob.box (aI.c aY)]⟩
theorem BP(hΓ:Γ.nt=131){aB:aI}{aY:aI}{r:Bool}{k2:Option Bool}(B7:k2=some r->Ax Γ N f14 (.q [[none]] (D.bool r)) [1,1,1,1] ⟨[],[]⟩)(hm2:aB.nodes.length<=maxLen):∀(rest:bL) (i2:Nat),aB.nodes.drop i2=rest->gX aB aY k2 rest i2=some r->Ar Γ N f14 (.q [[none]] (D.bool r)) [1,1,1,0,1,0] (rest.length+1) (C9 aB aY (i2:Int)):=by
 intro rest
 induction rest with
 |nil=>
  intro i2 hd2 h;rw[gX]at h;refine aU fun N2 vv tQ=>?_
  exact((aW.ge Node.c hd2).a [.hl 0 [] []]).ex hΓ vv (B7 h)
 |cons jg tR ih2=>
  intro i2 hd2 h;rw[gX]at h;refine aU fun N2 vv tQ=>?_
  obtain⟨x108,h109,h⟩:=aC h;have MV:=((((aW.lt Node.c hd2).a [.n 13]).l (bO Node.c 8 (dc hd2) rfl)).l (gq Node.c 8 h109 rfl))
  obtain⟨h110,h⟩|⟨h110,h⟩:=aO h
  ·have h:=aN h;subst h;exact((MV.r 6 h110).T 15).ret hΓ
  ·have Em:=(MV.r 6 h110)
   obtain⟨h111,h⟩|⟨h111,h⟩:=aO h
   ·have h:=aN h;subst h;exact((Em.r 7 h111).T 8).ret hΓ
   ·obtain⟨Su,h113,h⟩:=aC h;have MU:=(((Em.r 5 h111).g (td h113)).r 2 h111)
    obtain⟨h114,h⟩|⟨h114,h⟩:=aO h
    ·have h:=aN h;subst h;exact((MU.r 7 h114).T 1).ret hΓ
    ·obtain⟨VD,h116,h⟩:=aC h;have He:=(((MU.r 5 h114).g (CK h116)).r 2 h114)
     obtain⟨h117,h⟩|⟨h117,h⟩:=aO h
     ·have h:=aN h;subst h;exact(He.b h117).ret hΓ
     ·exact((He.b h117).a [.cn [2,3,88,89] [0,1]]).ct hΓ tQ (iS hd2 hm2) (ih2 (i2+1) (dn hd2) h)
theorem uw{aB:aI}{aY:aI}{r:Bool}(h:lX aB aY=some r):Good prog 14 [D.agg (aI.c aB),D.agg (aI.c aY)] (D.bool r):=by
 refine gd func14 [[none]] 131 fun hr Γ hΓ=>?_
 rw[lX]at h;obtain⟨y1,h2,h⟩:=aC h;obtain⟨h3,h⟩|⟨h3,h⟩:=aO h
 ·have h:=aN h;subst h;exact(((aW.g (wk h2)).r 7 h3).T 24).ret hΓ
 ·obtain⟨y4,h5,h⟩:=aC h;have J7:=((((aW.g (wk h2)).r 5 h3).g (E2 h5)).r 2 h3)
  obtain⟨h6,h⟩|⟨h6,h⟩:=aO h
  ·have h:=aN h;subst h;exact((J7.r 7 h6).T 17).ret hΓ
  ·obtain⟨y7,h8,h⟩:=aC h;have J8:=(((J7.r 5 h6).g (tC h8)).r 2 h6)
   obtain⟨h9,h⟩|⟨h9,h⟩:=aO h
   ·have h:=aN h;subst h;exact((J8.r 8 h9).T 9).ret hΓ
   ·have Qq:=(J8.r 8 h9)
    obtain⟨h10,h⟩|⟨h10,h⟩:=aO h
    ·have h:=aN h;subst h;exact((Qq.r 8 h10).T 1).ret hΓ
    ·have Qr:=(Qq.r 8 h10)
     obtain⟨h11,h⟩|⟨h11,h⟩:=aO h
     ·have h:=aN h;subst h;exact(Qr.b h11).ret hΓ
     ·refine((Qr.b h11).a [.cn [2,3,51,52] [0,1]]).lp hΓ (BO hΓ (fun h=>?_) (by have:=(ij.sl (ij.agg (hr _ (aE (i:=0) rfl)) (.sl (aB.bE.map aZ.c)) (by simp))).1;simpa using this) aB.bE 0 rfl h);refine(aW.a [.cn [2,3,88,89] [0,1]]).lp hΓ (BP hΓ (fun h=>?_) (by have:=(ij.sl (ij.agg (hr _ (aE (i:=0) rfl)) (.sl (aB.nodes.map Node.c)) (by simp))).1;simpa using this) aB.nodes 0 rfl h);have h:=aN h;subst h;exact aW.ret hΓ
def mV(aB:aI):Option Bool:=((sE aB.rules).bind fun y1=>(bif y1 then((nr aB.facts).bind fun y4=>(bif y4 then(bif decide ((aB.cG:Int)>=0)then((wI aB.rules aB.facts 0).bind fun y8=>((lX aB y8).bind fun GG=>(some GG)))else(some false))else(some false)))else(some false)))
theorem jX{aB:aI}{r:Bool}(h:mV aB=some r):Good prog 15 [D.agg (aI.c aB)] (D.bool r):=by
 refine gd func15 [[none]] 25 fun hr Γ hΓ=>?_
 rw[mV]at h;obtain⟨y1,h2,h⟩:=aC h;have pW:=((aW.a [.n 20]).g (Dm h2))
 obtain⟨h3,h⟩|⟨h3,h⟩:=aO h
 ·obtain⟨y4,h5,h⟩:=aC h;have gr:=(((pW.r 3 h3).g (py h5)).b h3)
  obtain⟨h6,h⟩|⟨h6,h⟩:=aO h
  ·have kp:=(gr.r 4 h6)
   obtain⟨h7,h⟩|⟨h7,h⟩:=aO h
   ·obtain⟨y8,h9,h⟩:=aC h;obtain⟨GG,h11,h⟩:=aC h;have h:=aN h;subst h;exact(((((kp.r 6 h7).g (IF h9)).b h7).g (uw h11)).b h7).ret hΓ
   ·have h:=aN h;subst h;exact(kp.r 8 h7).ret hΓ
  ·have h:=aN h;subst h;exact((gr.r 4 h6).F 8).ret hΓ
 ·have h:=aN h;subst h;exact((pW.r 4 h3).F 12).ret hΓ
def jl(aB:aJ)(aY:aD)(k1:Option Int):aJ->Nat->Option Int
 | [],i1=>(k1)
 |bU::cO,i1=>((nv bU aY).bind fun Kr=>(bif Kr then(some (i1:Int))else(jl aB aY k1 cO (i1+1))))
def pP(aB:aJ)(aY:aD):Option Int:=(jl aB aY (some (-1)) aB 0)
def Gj(aB:aJ)(aY:aD)(dQ:Int):St:=⟨[(3,D.ptr 0 0),(7,D.sl (aB.map aD.c)),(8,D.int .i64 ((aB.map aD.c).length:Int)),(9,D.int .i64 dQ)],[Ob.box (aD.c aY)]⟩
theorem FM(hΓ:Γ.nt=19){aB:aJ}{aY:aD}{r:Int}{k1:Option Int}(eF:k1=some r->Ax Γ N f92 (.q [[none]] (D.int .i64 r)) [1,1] ⟨[],[]⟩)(hm1:aB.length<=maxLen):∀(rest:aJ) (i1:Nat),aB.drop i1=rest->jl aB aY k1 rest i1=some r->Ar Γ N f92 (.q [[none]] (D.int .i64 r)) [1,0,1,0] (rest.length+1) (Gj aB aY (i1:Int)):=by
 intro rest
 induction rest with
 |nil=>
  intro i1 b8 h;rw[jl]at h;refine aU fun N1 cc cL=>?_
  exact((aW.ge aD.c b8).a [.hl 0 [] []]).ex hΓ cc (eF h)
 |cons bU cO ih1=>
  intro i1 b8 h;rw[jl]at h;refine aU fun N1 cc cL=>?_
  obtain⟨Kr,h22,h⟩:=aC h;have gr:=(((aW.lt aD.c b8).l (bO aD.c 2 (dc b8) rfl)).g (xb h22))
  obtain⟨h23,h⟩|⟨h23,h⟩:=aO h
  ·cases h;exact(gr.b h23).ret hΓ
  ·exact((gr.b h23).a [.cn [3,7,8,9] [0]]).ct hΓ cL (iS b8 hm1) (ih1 (i1+1) (dn b8) h)
theorem xT{aB:aJ}{aY:aD}{r:Int}(h:pP aB aY=some r):Good prog 92 [D.sl (aB.map aD.c),D.agg (aD.c aY)] (D.int .i64 r):=by
 refine gd func92 [[none]] 19 fun hr Γ hΓ=>?_
 rw[pP]at h;refine(aW.a [.cn [3,7,8,9] [0]]).lp hΓ (FM hΓ (fun h=>?_) (by have:=(ij.sl (hr _ (aE (i:=0) rfl))).1;simpa using this) aB 0 rfl h);cases h;exact aW.ret hΓ
def dR(aB:aJ)(aY:aD)(k1:Bool->aJ->Option aJ):aJ->Nat->Bool->aJ->Option aJ
 | [],i1,dP,bV=>(k1 dP bV)
 |bU::cO,i1,dP,bV=>(bif !(dP)then((fp bU aY).bind fun y93=>(bif decide ((y93:Int)>0)then((eC aY).bind fun VS=>(bif room ((bV.map aD.c).length+([[D.str VS.rel,D.sl (VS.args.map tx)]]).length) 40 then((eC bU).bind fun y99=>(bif room (((bV.map aD.c)++([[D.str VS.rel,D.sl (VS.args.map tx)]])).length+([[D.str y99.rel,D.sl (y99.args.map tx)]]).length) 40 then(dR aB aY k1 cO (i1+1) true ((bV++([VS]))++([y99])))else none))else none))else((eC bU).bind fun LC=>(bif room ((bV.map aD.c).length+([[D.str LC.rel,D.sl (LC.args.map tx)]]).length) 40 then(dR aB aY k1 cO (i1+1) dP (bV++([LC])))else none))))else((eC bU).bind fun yT=>(bif room ((bV.map aD.c).length+([[D.str yT.rel,D.sl (yT.args.map tx)]]).length) 40 then(dR aB aY k1 cO (i1+1) dP (bV++([yT])))else none)))
def tf(aB:aJ)(aY:aD):Option aJ:=(dR aB aY (fun(AF:Bool) (nO:aJ)=>(bif !(AF)then((eC aY).bind fun VC=>(bif room ((nO.map aD.c).length+([[D.str VC.rel,D.sl (VC.args.map tx)]]).length) 40 then(some (nO++([VC])))else none))else(some nO))) aB 0 false ([]:aJ))
def tM(aB:aJ)(aY:aD)(dP:Bool)(W1:List aP)(dQ:Int):St:=⟨[(3,D.ptr 0 0),(5,D.acc 1),(6,D.bool dP),(9,D.sl (aB.map aD.c)),(10,D.int .i64 ((aB.map aD.c).length:Int)),(11,D.int .i64 dQ)],[Ob.box (aD.c aY),Ob.row .uq 37 2 W1]⟩
theorem Gv(hΓ:Γ.nt=42){aB:aJ}{aY:aD}{r:aJ}{k1:Bool->aJ->Option aJ}(eF:∀(AF:Bool) (nO:aJ),k1 AF nO=some r->Ax Γ N f182 (.q [[some (37,2)]] (D.fr 37 2 (r.map aD.c))) [1,1,1,1] ⟨[(3,D.ptr 0 0),(5,D.acc 1),(6,D.bool AF)],[Ob.box (aD.c aY),Ob.row .uq 37 2 (nO.map aD.c)]⟩)(hm1:aB.length<=maxLen):∀(rest:aJ) (i1:Nat) (dP:Bool) (bV:aJ),aB.drop i1=rest->dR aB aY k1 rest i1 dP bV=some r->Ar Γ N f182 (.q [[some (37,2)]] (D.fr 37 2 (r.map aD.c))) [1,1,1,0,1,0] (rest.length+1) (tM aB aY dP (bV.map aD.c) (i1:Int)):=by
 intro rest
 induction rest with
 |nil=>
  intro i1 dP bV b8 h;rw[dR]at h;refine aU fun N1 cc cL=>?_
  exact((aW.ge aD.c b8).a [.hl 0 [3,5,6] [0,1]]).ex hΓ cc (eF dP bV h)
 |cons bU cO ih1=>
  intro i1 dP bV b8 h;rw[dR]at h;refine aU fun N1 cc cL=>?_
  have kp:=((aW.lt aD.c b8).l (bO aD.c 2 (dc b8) rfl))
  obtain⟨h92,h⟩|⟨h92,h⟩:=aO h
  ·obtain⟨y93,h94,h⟩:=aC h;have ko:=(((kp.r 3 h92).g (qO h94)).r 2 h92)
   obtain⟨h95,h⟩|⟨h95,h⟩:=aO h
   ·obtain⟨VS,h97,h⟩:=aC h;obtain⟨h98,h⟩:=bX h;obtain⟨y99,h100,h⟩:=aC h;obtain⟨h101,h⟩:=bX h;exact((((((ko.b h95).g (gT h97)).w (bq h98)).g (gT h100)).w (bq h101)).a [.cn [3,5,6,9,10,11] [0,8]]).cs hΓ cL (tM aB aY true (((bV.map aD.c)++([[D.str VS.rel,D.sl (VS.args.map tx)]]))++([[D.str y99.rel,D.sl (y99.args.map tx)]])) (IntKind.i64.wrap ((i1:Int)+1))) (by first| (simp only[iS b8 hm1,mA]<;>rfl)| (simp only[iS b8 hm1,mA,aD.c,aR.c,aL.c,Action.c,aK.c,aT.c,bS.c,aZ.c,Node.c,aI.c,dU.c]<;>rfl)) (ih1 (i1+1) true ((bV++([VS]))++([y99])) (dn b8) h)
   ·obtain⟨LC,h103,h⟩:=aC h;obtain⟨h104,h⟩:=bX h;exact((((ko.b h95).g (gT h103)).w (bq h104)).a [.cn [3,5,6,9,10,11] [0,5]]).cs hΓ cL (tM aB aY dP ((bV.map aD.c)++([[D.str LC.rel,D.sl (LC.args.map tx)]])) (IntKind.i64.wrap ((i1:Int)+1))) (by first| (simp only[iS b8 hm1,mA]<;>rfl)| (simp only[iS b8 hm1,mA,aD.c,aR.c,aL.c,Action.c,aK.c,aT.c,bS.c,aZ.c,Node.c,aI.c,dU.c]<;>rfl)) (ih1 (i1+1) dP (bV++([LC])) (dn b8) h)
  ·obtain⟨yT,h106,h⟩:=aC h;obtain⟨h107,h⟩:=bX h;exact(((((kp.r 5 h92).F 1).g (gT h106)).w (bq h107)).a [.cn [3,5,6,9,10,11] [0,5]]).cs hΓ cL (tM aB aY dP ((bV.map aD.c)++([[D.str yT.rel,D.sl (yT.args.map tx)]])) (IntKind.i64.wrap ((i1:Int)+1))) (by first| (simp only[iS b8 hm1,mA]<;>rfl)| (simp only[iS b8 hm1,mA,aD.c,aR.c,aL.c,Action.c,aK.c,aT.c,bS.c,aZ.c,Node.c,aI.c,dU.c]<;>rfl)) (ih1 (i1+1) dP (bV++([yT])) (dn b8) h)
theorem FY{aB:aJ}{aY:aD}{r:aJ}(h:tf aB aY=some r):Good prog 182 [D.sl (aB.map aD.c),D.agg (aD.c aY)] (D.fr 37 2 (r.map aD.c)):=by
 refine gd func182 [[some (37,2)]] 42 fun hr Γ hΓ=>?_
 rw[tf]at h;refine(aW.a [.JV 5,.cn [3,5,6,9,10,11] [0,1]]).lp hΓ (Gv hΓ (fun AF nO h=>?_) (by have:=(ij.sl (hr _ (aE (i:=0) rfl))).1;simpa using this) aB 0 false ([]:aJ) rfl h);obtain⟨h108,h⟩|⟨h108,h⟩:=aO h
 ·obtain⟨VC,h110,h⟩:=aC h;obtain⟨h111,h⟩:=bX h;cases h;exact(((aW.b h108).g (gT h110)).w (bq h111)).rts hΓ (D.fr 37 2 ((nO.map aD.c)++([[D.str VC.rel,D.sl (VC.args.map tx)]]))) (by first|rfl| (simp only[mA]<;>rfl)| (simp only[cS,mA]<;>rfl))
 ·have h:=aN h;subst h;exact(aW.b h108).ret hΓ
def tY(aB:aJ)(aY:aD):Option (aJ×Bool):=((nr aB).bind fun y1=>(bif !(y1)then((cK aB).bind fun y4=>(some (y4,false)))else((oQ aY).bind fun y6=>(bif !(y6)then((cK aB).bind fun y9=>(some (y9,false)))else((pP aB aY).bind fun Mp=>(bif decide ((Mp:Int)>=0)then((cK aB).bind fun JM=>(some (JM,false)))else(bif decide ((((aB.map aD.c).length:Int):Int)>=24)then((cK aB).bind fun Hl=>(some (Hl,false)))else((tf aB aY).bind fun KL=>(some (KL,true))))))))))
theorem yZ{aB:aJ}{aY:aD}{r:aJ×Bool}(h:tY aB aY=some r):Good prog 118 [D.sl (aB.map aD.c),D.agg (aD.c aY)] (D.iE [D.fr 37 2 (r.1.map aD.c),D.bool r.2]):=by
 refine gd func118 [[some (37,2)],[none]] 30 fun hr Γ hΓ=>?_
 rw[tY]at h;obtain⟨y1,h2,h⟩:=aC h;obtain⟨h3,h⟩|⟨h3,h⟩:=aO h
 ·obtain⟨y4,h5,h⟩:=aC h;cases h;exact((((aW.g (py h2)).r 4 h3).T 10).g (cN h5)).ret hΓ
 ·obtain⟨y6,h7,h⟩:=aC h;have pW:=((((aW.g (py h2)).r 2 h3).g (vL h7)).r 2 h3)
  obtain⟨h8,h⟩|⟨h8,h⟩:=aO h
  ·obtain⟨y9,h10,h⟩:=aC h;cases h;exact(((pW.r 5 h8).T 5).g (cN h10)).ret hΓ
  ·obtain⟨Mp,h12,h⟩:=aC h;have gr:=(((pW.r 3 h8).g (xT h12)).r 2 h8)
   obtain⟨h13,h⟩|⟨h13,h⟩:=aO h
   ·obtain⟨JM,h15,h⟩:=aC h;cases h;exact(((gr.r 4 h13).T 1).g (cN h15)).ret hΓ
   ·have kp:=(gr.r 4 h13)
    obtain⟨h16,h⟩|⟨h16,h⟩:=aO h
    ·obtain⟨Hl,h18,h⟩:=aC h;cases h;exact((kp.b h16).g (cN h18)).ret hΓ
    ·obtain⟨KL,h20,h⟩:=aC h;cases h;exact((kp.b h16).g (FY h20)).ret hΓ
def ei(aB:aJ)(aY:aJ)(k1:Option Int):aJ->Nat->Option Int
 | [],i1=>(k1)
 |bU::cO,i1=>(bif decide (((i1:Int):Int)<((aY.map aD.c).length:Int))then((hO aY (i1:Int)).bind fun x34=>((fp bU x34).bind fun Pf=>(bif (Pf:Int) != 0 then(some Pf)else(ei aB aY k1 cO (i1+1)))))else(k1))
def nY(aB:aJ)(aY:aJ):Option Int:=(ei aB aY ((iN ((aB.map aD.c).length:Int) ((aY.map aD.c).length:Int)).bind fun Da=>(some Da)) aB 0)
def zb(aB:aJ)(aY:aJ)(dQ:Int):St:=⟨[(0,D.sl (aB.map aD.c)),(1,D.sl (aY.map aD.c)),(5,D.int .i64 dQ)],[]⟩
theorem yw(hΓ:Γ.nt=36){aB:aJ}{aY:aJ}{r:Int}{k1:Option Int}(eF:k1=some r->Ax Γ N f63 (.q [[none]] (D.int .i64 r)) [1,1] ⟨[(0,D.sl (aB.map aD.c)),(1,D.sl (aY.map aD.c))],[]⟩)(hm1:aB.length<=maxLen):∀(rest:aJ) (i1:Nat),aB.drop i1=rest->ei aB aY k1 rest i1=some r->Ar Γ N f63 (.q [[none]] (D.int .i64 r)) [1,0,1,0] (rest.length+1) (zb aB aY (i1:Int)):=by
 intro rest
 induction rest with
 |nil=>
  intro i1 b8 h;rw[ei]at h;refine aU fun N1 cc cL=>?_
  exact(((((((aW.ge aD.c b8).ge aD.c b8).ge aD.c b8).ge aD.c b8).ge aD.c b8).F 1).a [.hl 0 [0,1] []]).ex hΓ cc (eF h)
 |cons bU cO ih1=>
  intro i1 b8 h;rw[ei]at h;refine aU fun N1 cc cL=>?_
  have kp:=(((((aW.lt aD.c b8).lt aD.c b8).lt aD.c b8).lt aD.c b8).lt aD.c b8)
  obtain⟨h33,h⟩|⟨h33,h⟩:=aO h
  ·obtain⟨x34,h35,h⟩:=aC h;obtain⟨Pf,h37,h⟩:=aC h;have ko:=(((((kp.b h33).a [.n 8]).l (bO aD.c 2 (dc b8) rfl)).l (gq aD.c 2 h35 rfl)).g (qO h37))
   obtain⟨h38,h⟩|⟨h38,h⟩:=aO h
   ·have h:=aN h;subst h;exact(ko.b h38).ret hΓ
   ·exact((ko.b h38).a [.cn [0,1,5] []]).ct hΓ cL (iS b8 hm1) (ih1 (i1+1) (dn b8) h)
  ·exact((kp.b h33).a [.hl 0 [0,1] []]).ex hΓ cc (eF h)
theorem yL{aB:aJ}{aY:aJ}{r:Int}(h:nY aB aY=some r):Good prog 63 [D.sl (aB.map aD.c),D.sl (aY.map aD.c)] (D.int .i64 r):=by
 refine gd func63 [[none]] 36 fun hr Γ hΓ=>?_
 rw[nY]at h;refine(aW.a [.cn [0,1,5] []]).lp hΓ (yw hΓ (fun h=>?_) (by have:=(ij.sl (hr _ (aE (i:=0) rfl))).1;simpa using this) aB 0 rfl h);obtain⟨Da,h40,h⟩:=aC h;have h:=aN h;subst h;exact(aW.g (qy h40)).ret hΓ
def nH(aB:aT)(aY:aT):Option Int:=((nY aB.facts aY.facts).bind fun y1=>(some y1))
theorem AH{aB:aT}{aY:aT}{r:Int}(h:nH aB aY=some r):Good prog 20 [D.agg (aT.c aB),D.agg (aT.c aY)] (D.int .i64 r):=by
 refine gd func20 [[none]] 10 fun hr Γ hΓ=>?_
 rw[nH]at h;obtain⟨y1,h2,h⟩:=aC h;have h:=aN h;subst h;exact(aW.g (yL h2)).ret hΓ
def jt(aB:ar)(aY:aT)(k1:Option Bool):ar->Nat->Option Bool
 | [],i1=>(k1)
 |bU::cO,i1=>((nH bU aY).bind fun Kr=>(bif (Kr:Int)==0 then(some true)else(jt aB aY k1 cO (i1+1))))
def sI(aB:ar)(aY:aT):Option Bool:=(jt aB aY (some false) aB 0)
def Gu(aB:ar)(aY:aT)(dQ:Int):St:=⟨[(3,D.ptr 0 0),(7,D.sl (aB.map aT.c)),(8,D.int .i64 ((aB.map aT.c).length:Int)),(9,D.int .i64 dQ)],[Ob.box (aT.c aY)]⟩
theorem FX(hΓ:Γ.nt=18){aB:ar}{aY:aT}{r:Bool}{k1:Option Bool}(eF:k1=some r->Ax Γ N f183 (.q [[none]] (D.bool r)) [1,1] ⟨[],[]⟩)(hm1:aB.length<=maxLen):∀(rest:ar) (i1:Nat),aB.drop i1=rest->jt aB aY k1 rest i1=some r->Ar Γ N f183 (.q [[none]] (D.bool r)) [1,0,1,0] (rest.length+1) (Gu aB aY (i1:Int)):=by
 intro rest
 induction rest with
 |nil=>
  intro i1 b8 h;rw[jt]at h;refine aU fun N1 cc cL=>?_
  exact((aW.ge aT.c b8).a [.hl 0 [] []]).ex hΓ cc (eF h)
 |cons bU cO ih1=>
  intro i1 b8 h;rw[jt]at h;refine aU fun N1 cc cL=>?_
  obtain⟨Kr,h22,h⟩:=aC h;have gr:=(((aW.lt aT.c b8).l (bO aT.c 2 (dc b8) rfl)).g (AH h22))
  obtain⟨h23,h⟩|⟨h23,h⟩:=aO h
  ·have h:=aN h;subst h;exact(gr.b h23).ret hΓ
  ·exact((gr.b h23).a [.cn [3,7,8,9] [0]]).ct hΓ cL (iS b8 hm1) (ih1 (i1+1) (dn b8) h)
theorem E1{aB:ar}{aY:aT}{r:Bool}(h:sI aB aY=some r):Good prog 183 [D.sl (aB.map aT.c),D.agg (aT.c aY)] (D.bool r):=by
 refine gd func183 [[none]] 18 fun hr Γ hΓ=>?_
 rw[sI]at h;refine(aW.a [.cn [3,7,8,9] [0]]).lp hΓ (FX hΓ (fun h=>?_) (by have:=(ij.sl (hr _ (aE (i:=0) rfl))).1;simpa using this) aB 0 rfl h);have h:=aN h;subst h;exact aW.ret hΓ
end Go.Cx

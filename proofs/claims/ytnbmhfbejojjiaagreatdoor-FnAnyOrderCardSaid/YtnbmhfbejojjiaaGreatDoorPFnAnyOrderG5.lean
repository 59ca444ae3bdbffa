/- What functions of the program compute, and the walks that show it. No condition. -/
import Derived.Test.YtnbmhfbejojjiaaGreatDoorPFnAnyOrderG4
import Derived.Test.YtnbmhfbejojjiaaGreatDoorPFnAnyOrderG3
import Derived.Sort.Walk0
import Derived.Lib.ItoaNum
import Derived.Lib.ItoaLen
set_option linter.unusedVariables false
set_option linter.unusedSimpArgs false
namespace Go.Cx
open Go.RowKit Go.Proofs Tryz
set_option maxRecDepth 100000
variable{Γ:sQ}{N:Nat->St->Prop}
def gq(aB:aL)(k1:Option Bool):aq->Nat->Option Bool
 | [],i1=>(k1)
 |bR::cM,i1=>((nk bR).bind fun y62=>(bif !(y62)then(some false)else(bif ((i1:Int):Int)==0 then(bif (bR.kind:Int) != 1 then(some false)else((nH aB (i1:Int)).bind fun Qf=>(bif !(Qf)then(some false)else(gq aB k1 cM (i1+1)))))else((nH aB (i1:Int)).bind fun y70=>(bif !(y70)then(some false)else(gq aB k1 cM (i1+1)))))))
def kJ(aB:aL)(B3:aG)(i2:Nat)(CE:aG)(k3:Option Bool):aG->Nat->Option Bool
 | [],i3=>(k3)
 |QZ::Mq,i3=>((ja B3 QZ).bind fun a1l=>(bif !(a1l)then(some false)else(kJ aB B3 i2 CE k3 Mq (i3+1))))
def kI(aB:aL)(B3:aG)(k2:Option Bool):eG->Nat->Option Bool
 | [],i2=>(k2)
 |mF::th,i2=>((pT mF).bind fun a1k=>(bif !(a1k)then(some false)else((kN mF.pat.args).bind fun CE=>(bif decide (CE.length<=maxLen)then(kJ aB B3 i2 CE (kI aB B3 k2 th (i2+1)) CE 0)else none))))
def s9(aB:aL):Option Bool:=((nq aB.name).bind fun y1=>(bif !(y1)then(some false)else(bif decide ((aB.prio:Int)<0)then(some false)else(bif decide ((aB.prio:Int)>9)then(some false)else(bif decide ((((aB.conds.map aM.c).length:Int):Int)<1)then(some false)else(bif decide ((((aB.conds.map aM.c).length:Int):Int)>4)then(some false)else(bif decide ((((aB.cR.map Action.c).length:Int):Int)<1)then(some false)else(bif decide ((((aB.cR.map Action.c).length:Int):Int)>2)then(some false)else(gq aB ((mO aB ((aB.conds.map aM.c).length:Int)).bind fun B3=>(kI aB B3 ((nT aB.conds).bind fun a1m=>((iv a1m).bind fun a1n=>(some (decide ((((a1n.map tx).length:Int):Int)<=6))))) aB.cR 0)) aB.conds 0)))))))))
def Fi(aB:aL)(fS:Int):St:=⟨[(1,D.ptr 0 0),(49,D.sl (aB.conds.map aM.c)),(50,D.int .i64 ((aB.conds.map aM.c).length:Int)),(51,D.int .i64 fS)],[Ob.box (aL.c aB)]⟩
theorem ES(hΓ:Γ.nt=111){aB:aL}{r:Bool}{k1:Option Bool}(gE:k1=some r->Ax Γ N f97 (.q [[none]] (D.bool r)) [1,1,1] ⟨[(1,D.ptr 0 0)],[Ob.box (aL.c aB)]⟩)(hm1:aB.conds.length<=maxLen):∀(rest:aq) (i1:Nat),aB.conds.drop i1=rest->gq aB k1 rest i1=some r->Ar Γ N f97 (.q [[none]] (D.bool r)) [1,1,0,1,0] (rest.length+1) (Fi aB (i1:Int)):=by
 intro rest
 induction rest with
 |nil=>
  intro i1 bD h;rw[gq]at h;refine aX fun N1 dH cW=>?_
  exact((aY.ge aM.c bD).a [.hl 0 [1] [0]]).ex hΓ dH (gE h)
 |cons bR cM ih1=>
  intro i1 bD h;rw[gq]at h;refine aX fun N1 dH cW=>?_
  obtain⟨y62,h63,h⟩:=aD h;have E8:=(((aY.lt aM.c bD).l (bg aM.c 5 (dc bD) rfl)).g (mc h63))
  obtain⟨h64,h⟩|⟨h64,h⟩:=aO h
  ·have h:=aN h;subst h;exact((((E8.r 3 h64).a [bF,bF,bF]).r 2 h64).T 6).ret hΓ
  ·have IN:=(E8.r 3 h64)
   obtain⟨h65,h⟩|⟨h65,h⟩:=aO h
   ·have IP:=((((IN.r 3 h65).b h64).b h65).b h64)
    obtain⟨h66,h⟩|⟨h66,h⟩:=aO h
    ·have h:=aN h;subst h;exact((IP.r 5 h66).T 1).ret hΓ
    ·obtain⟨Qf,h68,h⟩:=aD h;have MM:=(((IP.r 3 h66).g (uo h68)).r 2 h66)
     obtain⟨h69,h⟩|⟨h69,h⟩:=aO h
     ·have h:=aN h;subst h;exact(MM.b h69).ret hΓ
     ·exact((MM.b h69).a [.cn [1,49,50,51] [0]]).ct hΓ cW (iS bD hm1) (ih1 (i1+1) (dn bD) h)
   ·obtain⟨y70,h71,h⟩:=aD h;have MN:=(((((((IN.r 3 h65).b h64).b h65).b h64).F 3).g (uo h71)).F 2)
    obtain⟨h72,h⟩|⟨h72,h⟩:=aO h
    ·have h:=aN h;subst h;exact(MN.b h72).ret hΓ
    ·exact((MN.b h72).a [.cn [1,49,50,51] [0]]).ct hΓ cW (iS bD hm1) (ih1 (i1+1) (dn bD) h)
def Fj(aB:aL)(B3:aG)(fS:Int):St:=⟨[(1,D.ptr 0 0),(5,D.acc 1),(81,D.sl (aB.cR.map Action.c)),(82,D.int .i64 ((aB.cR.map Action.c).length:Int)),(83,D.int .i64 fS)],[Ob.box (aL.c aB),Ob.row .uq 9 1 (B3.map tx)]⟩
def Fk(aB:aL)(B3:aG)(i2:Nat)(CE:aG)(fS:Int):St:=⟨[(1,D.ptr 0 0),(5,D.acc 1),(81,D.sl (aB.cR.map Action.c)),(82,D.int .i64 ((aB.cR.map Action.c).length:Int)),(83,D.int .i64 (i2:Int)),(93,D.acc 2),(94,D.int .i64 ((CE.map tx).length:Int)),(95,D.int .i64 fS)],[Ob.box (aL.c aB),Ob.row .uq 9 1 (B3.map tx),Ob.row .uq 9 1 (CE.map tx)]⟩
theorem EU(hΓ:Γ.nt=111){aB:aL}{B3:aG}{i2:Nat}{CE:aG}{r:Bool}{k3:Option Bool}(Xd:k3=some r->Ax Γ N f97 (.q [[none]] (D.bool r)) [1,1,1,1,0,1,0,0,1,1,1] ⟨[(1,D.ptr 0 0),(5,D.acc 1),(81,D.sl (aB.cR.map Action.c)),(82,D.int .i64 ((aB.cR.map Action.c).length:Int)),(83,D.int .i64 (i2:Int))],[Ob.box (aL.c aB),Ob.row .uq 9 1 (B3.map tx)]⟩)(Ps:CE.length<=maxLen):∀(rest:aG) (i3:Nat),CE.drop i3=rest->kJ aB B3 i2 CE k3 rest i3=some r->Ar Γ N f97 (.q [[none]] (D.bool r)) [1,1,1,1,0,1,0,0,1,1,0,0,1,1,1,0] (rest.length+1) (Fk aB B3 i2 CE (i3:Int)):=by
 intro rest
 induction rest with
 |nil=>
  intro i3 ya h;rw[kJ]at h;refine aX fun N3 Rg Ml=>?_
  exact((aY.ge tx ya).a [.hl 3 [1,5,81,82,83] [0,1]]).ex hΓ Rg (Xd h)
 |cons QZ Mq ih3=>
  intro i3 ya h;rw[kJ]at h;refine aX fun N3 Rg Ml=>?_
  obtain⟨a1l,h230,h⟩:=aD h;have a10:=((((aY.lt tx ya).i (mw tx 1 (dc ya))).o 1 1 .uq (cP tx (dc ya))).g (o8 h230))
  obtain⟨h231,h⟩|⟨h231,h⟩:=aO h
  ·have h:=aN h;subst h;exact(a10.b h231).ret hΓ
  ·exact((a10.b h231).a [.cn [1,5,81,82,83,93,94,95] [0,1,2]]).ct hΓ Ml (iS ya Ps) (ih3 (i3+1) (dn ya) h)
theorem ET(hΓ:Γ.nt=111){aB:aL}{B3:aG}{r:Bool}{k2:Option Bool}(EB:k2=some r->Ax Γ N f97 (.q [[none]] (D.bool r)) [1,1,1,1,1] ⟨[(1,D.ptr 0 0)],[Ob.box (aL.c aB)]⟩)(hm2:aB.cR.length<=maxLen):∀(rest:eG) (i2:Nat),aB.cR.drop i2=rest->kI aB B3 k2 rest i2=some r->Ar Γ N f97 (.q [[none]] (D.bool r)) [1,1,1,1,0,1,0] (rest.length+1) (Fj aB B3 (i2:Int)):=by
 intro rest
 induction rest with
 |nil=>
  intro i2 hd2 h;rw[kI]at h;refine aX fun N2 xz ue=>?_
  exact((aY.ge Action.c hd2).a [.hl 0 [1] [0]]).ex hΓ xz (EB h)
 |cons mF th ih2=>
  intro i2 hd2 h;rw[kI]at h;refine aX fun N2 xz ue=>?_
  obtain⟨a1k,h204,h⟩:=aD h;have a11:=(((aY.lt Action.c hd2).l (bg Action.c 3 (dc hd2) rfl)).g (BG h204))
  obtain⟨h205,h⟩|⟨h205,h⟩:=aO h
  ·have h:=aN h;subst h;exact(a11.b h205).ret hΓ
  ·obtain⟨CE,h207,h⟩:=aD h;obtain⟨h232,h⟩:=bh h;refine(((a11.b h205).g (qN h207)).a [.cn [1,5,81,82,83,93,94,95] [0,1,3]]).lp hΓ (EU hΓ (fun h=>?_) (bf h232) CE 0 rfl h);exact(aY.a [.cn [1,5,81,82,83] [0,1]]).ct hΓ ue (iS hd2 hm2) (ih2 (i2+1) (dn hd2) h)
theorem Dd{aB:aL}{r:Bool}(h:s9 aB=some r):Good prog 97 [D.agg (aL.c aB)] (D.bool r):=by
 refine gd func97 [[none]] 111 fun hr Γ hΓ=>?_
 rw[s9]at h;obtain⟨y1,h2,h⟩:=aD h;obtain⟨h3,h⟩|⟨h3,h⟩:=aO h
 ·have h:=aN h;subst h;exact(((aY.g (kH h2)).r 4 h3).T 25).ret hΓ
 ·have a13:=((aY.g (kH h2)).r 4 h3)
  obtain⟨h4,h⟩|⟨h4,h⟩:=aO h
  ·have h:=aN h;subst h;exact((a13.r 4 h4).T 21).ret hΓ
  ·have a14:=(a13.r 4 h4)
   obtain⟨h5,h⟩|⟨h5,h⟩:=aO h
   ·have h:=aN h;subst h;exact((a14.r 5 h5).T 16).ret hΓ
   ·have a15:=(a14.r 5 h5)
    obtain⟨h6,h⟩|⟨h6,h⟩:=aO h
    ·have h:=aN h;subst h;exact((a15.r 5 h6).T 11).ret hΓ
    ·have a16:=(a15.r 5 h6)
     obtain⟨h7,h⟩|⟨h7,h⟩:=aO h
     ·have h:=aN h;subst h;exact((a16.r 5 h7).T 6).ret hΓ
     ·have a17:=(a16.r 5 h7)
      obtain⟨h8,h⟩|⟨h8,h⟩:=aO h
      ·have h:=aN h;subst h;exact((a17.r 5 h8).T 1).ret hΓ
      ·have a18:=(a17.r 5 h8)
       obtain⟨h9,h⟩|⟨h9,h⟩:=aO h
       ·have h:=aN h;subst h;exact(a18.b h9).ret hΓ
       ·refine((a18.b h9).a [.cn [1,49,50,51] [0]]).lp hΓ (ES hΓ (fun h=>?_) (by have:=(kj.sl (kj.agg (hr _ (aE (i:=0) rfl)) (.sl (aB.conds.map aM.c)) (by simp))).1;simpa using this) aB.conds 0 rfl h);obtain⟨B3,h74,h⟩:=aD h;refine((aY.g (u7 h74)).a [.cn [1,5,81,82,83] [0,1]]).lp hΓ (ET hΓ (fun h=>?_) (by have:=(kj.sl (kj.agg (hr _ (aE (i:=0) rfl)) (.sl (aB.cR.map Action.c)) (by simp))).1;simpa using this) aB.cR 0 rfl h);obtain⟨a1m,h234,h⟩:=aD h;obtain⟨a1n,h236,h⟩:=aD h;cases h;exact((aY.g (zc h234)).g (oO h236)).ret hΓ
def ij(aB:ar)(aZ:Bytes)(k1:Option Int):ar->Nat->Option Int
 | [],i1=>(k1)
 |bR::cM,i1=>(bif (bR.name:Bytes)==aZ then(some (i1:Int))else(ij aB aZ k1 cM (i1+1)))
def pS(aB:ar)(aZ:Bytes):Option Int:=(ij aB aZ (some (-1)) aB 0)
def Dc(aB:ar)(aZ:Bytes)(fS:Int):St:=⟨[(1,D.str aZ),(7,D.sl (aB.map aL.c)),(8,D.int .i64 ((aB.map aL.c).length:Int)),(9,D.int .i64 fS)],[]⟩
theorem CX(hΓ:Γ.nt=20){aB:ar}{aZ:Bytes}{r:Int}{k1:Option Int}(gE:k1=some r->Ax Γ N f98 (.q [[none]] (D.int .i64 r)) [1,1] ⟨[],[]⟩)(hm1:aB.length<=maxLen):∀(rest:ar) (i1:Nat),aB.drop i1=rest->ij aB aZ k1 rest i1=some r->Ar Γ N f98 (.q [[none]] (D.int .i64 r)) [1,0,1,0] (rest.length+1) (Dc aB aZ (i1:Int)):=by
 intro rest
 induction rest with
 |nil=>
  intro i1 bD h;rw[ij]at h;refine aX fun N1 dH cW=>?_
  exact((aY.ge aL.c bD).a [.hl 0 [] []]).ex hΓ dH (gE h)
 |cons bR cM ih1=>
  intro i1 bD h;rw[ij]at h;refine aX fun N1 dH cW=>?_
  have kW:=((aY.lt aL.c bD).l (bg aL.c 4 (dc bD) rfl))
  obtain⟨h13,h⟩|⟨h13,h⟩:=aO h
  ·cases h;exact(kW.b h13).ret hΓ
  ·exact((kW.b h13).a [.cn [1,7,8,9] []]).ct hΓ cW (iS bD hm1) (ih1 (i1+1) (dn bD) h)
theorem BF{aB:ar}{aZ:Bytes}{r:Int}(h:pS aB aZ=some r):Good prog 98 [D.sl (aB.map aL.c),D.str aZ] (D.int .i64 r):=by
 refine gd func98 [[none]] 20 fun hr Γ hΓ=>?_
 rw[pS]at h;refine(aY.a [.cn [1,7,8,9] []]).lp hΓ (CX hΓ (fun h=>?_) (by have:=(kj.sl (hr _ (aE (i:=0) rfl))).1;simpa using this) aB 0 rfl h);cases h;exact aY.ret hΓ
def ia(aB:ar)(k1:Option Bool):ar->Nat->Option Bool
 | [],i1=>(k1)
 |bR::cM,i1=>((s9 bR).bind fun Gi=>(bif !(Gi)then(some false)else((pS aB bR.name).bind fun Ig=>(bif (Ig:Int) != (i1:Int)then(some false)else(ia aB k1 cM (i1+1))))))
def nF(aB:ar):Option Bool:=(bif decide ((((aB.map aL.c).length:Int):Int)>6)then(some false)else(ia aB (some true) aB 0))
def DZ(aB:ar)(fS:Int):St:=⟨[(0,D.sl (aB.map aL.c)),(8,D.sl (aB.map aL.c)),(9,D.int .i64 ((aB.map aL.c).length:Int)),(10,D.int .i64 fS)],[]⟩
theorem CV(hΓ:Γ.nt=27){aB:ar}{r:Bool}{k1:Option Bool}(gE:k1=some r->Ax Γ N f48 (.q [[none]] (D.bool r)) [1,1,1] ⟨[],[]⟩)(hm1:aB.length<=maxLen):∀(rest:ar) (i1:Nat),aB.drop i1=rest->ia aB k1 rest i1=some r->Ar Γ N f48 (.q [[none]] (D.bool r)) [1,1,0,1,0] (rest.length+1) (DZ aB (i1:Int)):=by
 intro rest
 induction rest with
 |nil=>
  intro i1 bD h;rw[ia]at h;refine aX fun N1 dH cW=>?_
  exact((aY.ge aL.c bD).a [.hl 0 [] []]).ex hΓ dH (gE h)
 |cons bR cM ih1=>
  intro i1 bD h;rw[ia]at h;refine aX fun N1 dH cW=>?_
  obtain⟨Gi,h35,h⟩:=aD h;have kx:=(((aY.lt aL.c bD).l (bg aL.c 4 (dc bD) rfl)).g (Dd h35))
  obtain⟨h36,h⟩|⟨h36,h⟩:=aO h
  ·have h:=aN h;subst h;exact((kx.r 7 h36).T 1).ret hΓ
  ·obtain⟨Ig,h38,h⟩:=aD h;have lJ:=(((kx.r 4 h36).g (BF h38)).r 3 h36)
   obtain⟨h39,h⟩|⟨h39,h⟩:=aO h
   ·have h:=aN h;subst h;exact(lJ.b h39).ret hΓ
   ·exact((lJ.b h39).a [.cn [0,8,9,10] []]).ct hΓ cW (iS bD hm1) (ih1 (i1+1) (dn bD) h)
theorem qo{aB:ar}{r:Bool}(h:nF aB=some r):Good prog 48 [D.sl (aB.map aL.c)] (D.bool r):=by
 refine gd func48 [[none]] 27 fun hr Γ hΓ=>?_
 rw[nF]at h;obtain⟨h1,h⟩|⟨h1,h⟩:=aO h
 ·have h:=aN h;subst h;exact(aY.b h1).ret hΓ
 ·refine((aY.b h1).a [.cn [0,8,9,10] []]).lp hΓ (CV hΓ (fun h=>?_) (by have:=(kj.sl (hr _ (aE (i:=0) rfl))).1;simpa using this) aB 0 rfl h);have h:=aN h;subst h;exact aY.ret hΓ
def dO(aB:aF):Option aF:=((kL aB.args).bind fun y1=>(some (⟨aB.rel,y1⟩:aF)))
theorem oR{aB:aF}{r:aF}(h:dO aB=some r):Good prog 104 [D.agg (aF.c aB)] (D.agg [D.str r.rel,D.fr 9 1 (r.args.map tx)]):=by
 refine gd func104 [[none,some (9,1)]] 9 fun hr Γ hΓ=>?_
 rw[dO]at h;obtain⟨y1,h2,h⟩:=aD h;cases h;exact((aY.a [.n 5]).g (qM h2)).ret hΓ
def eU(aB:aM):Option aM:=((dO aB.pat).bind fun y1=>(some (⟨aB.kind,y1,aB.left,aB.right⟩:aM)))
theorem jI{aB:aM}{r:aM}(h:eU aB=some r):Good prog 59 [D.agg (aM.c aB)] (D.agg [D.int .i64 r.kind,D.str r.pat.rel,D.fr 9 1 (r.pat.args.map tx),D.str r.left,D.str r.right]):=by
 refine gd func59 [[none,none,some (9,1),none,none]] 8 fun hr Γ hΓ=>?_
 rw[eU]at h;obtain⟨y1,h2,h⟩:=aD h;cases h;exact(aY.g (oR h2)).ret hΓ
def jq(aB:aq)(k1:aq->Option aq):aq->Nat->aq->Option aq
 | [],i1,bN=>(k1 bN)
 |bR::cM,i1,bN=>((eU bR).bind fun oc=>(bif room ((bN.map aM.c).length+([[D.int .i64 oc.kind,D.str oc.pat.rel,D.sl (oc.pat.args.map tx),D.str oc.left,D.str oc.right]]).length) 80 then(jq aB k1 cM (i1+1) (bN++([oc])))else none))
def oQ(aB:aq):Option aq:=(jq aB (fun(cK:aq)=>(some cK)) aB 0 ([]:aq))
def vp(aB:aq)(W0:List aK)(fS:Int):St:=⟨[(3,D.acc 0),(6,D.sl (aB.map aM.c)),(7,D.int .i64 ((aB.map aM.c).length:Int)),(8,D.int .i64 fS)],[Ob.row .uq 47 5 W0]⟩
theorem BM(hΓ:Γ.nt=19){aB:aq}{r:aq}{k1:aq->Option aq}(gE:∀(cK:aq),k1 cK=some r->Ax Γ N f228 (.q [[some (47,5)]] (D.fr 47 5 (r.map aM.c))) [1,1,1] ⟨[(3,D.acc 0)],[Ob.row .uq 47 5 (cK.map aM.c)]⟩)(hm1:aB.length<=maxLen):∀(rest:aq) (i1:Nat) (bN:aq),aB.drop i1=rest->jq aB k1 rest i1 bN=some r->Ar Γ N f228 (.q [[some (47,5)]] (D.fr 47 5 (r.map aM.c))) [1,1,0,1,0] (rest.length+1) (vp aB (bN.map aM.c) (i1:Int)):=by
 intro rest
 induction rest with
 |nil=>
  intro i1 bN bD h;rw[jq]at h;refine aX fun N1 dH cW=>?_
  exact((aY.ge aM.c bD).a [.hl 0 [3] [0]]).ex hΓ dH (gE bN h)
 |cons bR cM ih1=>
  intro i1 bN bD h;rw[jq]at h;refine aX fun N1 dH cW=>?_
  obtain⟨oc,h28,h⟩:=aD h;obtain⟨h29,h⟩:=bh h;exact(((((aY.lt aM.c bD).l (bg aM.c 5 (dc bD) rfl)).g (jI h28)).w (bz h29)).a [.cn [3,6,7,8] [4]]).cs hΓ cW (vp aB ((bN.map aM.c)++([[D.int .i64 oc.kind,D.str oc.pat.rel,D.sl (oc.pat.args.map tx),D.str oc.left,D.str oc.right]])) (IntKind.i64.wrap ((i1:Int)+1))) (by first| (simp only[iS bD hm1,mA]<;>rfl)| (simp only[iS bD hm1,mA,aF.c,aa.c,aM.c,Action.c,aL.c,aW.c,fH.c,ah.c,Node.c,aI.c,fP.c]<;>rfl)) (ih1 (i1+1) (bN++([oc])) (dn bD) h)
theorem Ae{aB:aq}{r:aq}(h:oQ aB=some r):Good prog 228 [D.sl (aB.map aM.c)] (D.fr 47 5 (r.map aM.c)):=by
 refine gd func228 [[some (47,5)]] 19 fun hr Γ hΓ=>?_
 rw[oQ]at h;refine(aY.a [.H8 3,.cn [3,6,7,8] [0]]).lp hΓ (BM hΓ (fun cK h=>?_) (by have:=(kj.sl (hr _ (aE (i:=0) rfl))).1;simpa using this) aB 0 ([]:aq) rfl h);have h:=aN h;subst h;exact aY.ret hΓ
def iw(aB:aL)(y1:aq)(k1:eG->Option aL):eG->Nat->eG->Option aL
 | [],i1,cm=>(k1 cm)
 |bR::cM,i1,cm=>((dO bR.pat).bind fun ZI=>(bif room ((cm.map Action.c).length+([[D.int .i64 bR.kind,D.str ZI.rel,D.sl (ZI.args.map tx)]]).length) 48 then(iw aB y1 k1 cM (i1+1) (cm++([(⟨bR.kind,ZI⟩:Action)])))else none))
def nI(aB:aL):Option aL:=((oQ aB.conds).bind fun y1=>(iw aB y1 (fun(fC:eG)=>(some (⟨aB.name,aB.prio,y1,fC⟩:aL))) aB.cR 0 ([]:eG)))
def x6(aB:aL)(y1:aq)(W0:List aK)(fS:Int):St:=⟨[(2,D.ptr 0 0),(3,D.ptr 1 0),(15,D.sl (aB.cR.map Action.c)),(16,D.int .i64 ((aB.cR.map Action.c).length:Int)),(17,D.int .i64 fS)],[Ob.box [D.str ([]),D.int .i64 0,D.nil,D.nil],Ob.box [D.str aB.name,D.int .i64 aB.prio,D.acc 2,D.acc 3],Ob.row .uq 47 5 (y1.map aM.c),Ob.row .uq 167 3 W0]⟩
theorem Cg(hΓ:Γ.nt=34){aB:aL}{y1:aq}{r:aL}{k1:eG->Option aL}(gE:∀(fC:eG),k1 fC=some r->Ax Γ N f170 (.q [[none,none,some (47,5),some (167,3)]] (D.agg [D.str r.name,D.int .i64 r.prio,D.fr 47 5 (r.conds.map aM.c),D.fr 167 3 (r.cR.map Action.c)])) [1,1,1] ⟨[(2,D.ptr 0 0),(3,D.ptr 1 0)],[Ob.box [D.str ([]),D.int .i64 0,D.nil,D.nil],Ob.box [D.str aB.name,D.int .i64 aB.prio,D.acc 2,D.acc 3],Ob.row .uq 47 5 (y1.map aM.c),Ob.row .uq 167 3 (fC.map Action.c)]⟩)(hm1:aB.cR.length<=maxLen):∀(rest:eG) (i1:Nat) (cm:eG),aB.cR.drop i1=rest->iw aB y1 k1 rest i1 cm=some r->Ar Γ N f170 (.q [[none,none,some (47,5),some (167,3)]] (D.agg [D.str r.name,D.int .i64 r.prio,D.fr 47 5 (r.conds.map aM.c),D.fr 167 3 (r.cR.map Action.c)])) [1,1,0,1,0] (rest.length+1) (x6 aB y1 (cm.map Action.c) (i1:Int)):=by
 intro rest
 induction rest with
 |nil=>
  intro i1 cm bD h;rw[iw]at h;refine aX fun N1 dH cW=>?_
  exact((aY.ge Action.c bD).a [.hl 0 [2,3] [0,1,2,3]]).ex hΓ dH (gE cm h)
 |cons bR cM ih1=>
  intro i1 cm bD h;rw[iw]at h;refine aX fun N1 dH cW=>?_
  obtain⟨ZI,h42,h⟩:=aD h;obtain⟨h43,h⟩:=bh h;exact((((((aY.lt Action.c bD).l (bg Action.c 3 (dc bD) rfl)).a [.n2 [0,1,2,3,4,5,6,7,8,9,10,11] [0,1,2,3,4,5,6,7,8,9,10,11] 8 9 [0,1] [5]]).g (oR h42)).w (bz h43)).a [.cn [2,3,15,16,17] [0,1,2,7]]).cs hΓ cW (x6 aB y1 ((cm.map Action.c)++([[D.int .i64 bR.kind,D.str ZI.rel,D.sl (ZI.args.map tx)]])) (IntKind.i64.wrap ((i1:Int)+1))) (by first| (simp only[iS bD hm1,mA]<;>rfl)| (simp only[iS bD hm1,mA,aF.c,aa.c,aM.c,Action.c,aL.c,aW.c,fH.c,ah.c,Node.c,aI.c,fP.c]<;>rfl)) (ih1 (i1+1) (cm++([(⟨bR.kind,ZI⟩:Action)])) (dn bD) h)
theorem BP{aB:aL}{r:aL}(h:nI aB=some r):Good prog 170 [D.agg (aL.c aB)] (D.agg [D.str r.name,D.int .i64 r.prio,D.fr 47 5 (r.conds.map aM.c),D.fr 167 3 (r.cR.map Action.c)]):=by
 refine gd func170 [[none,none,some (47,5),some (167,3)]] 34 fun hr Γ hΓ=>?_
 rw[nI]at h;obtain⟨y1,h2,h⟩:=aD h;refine(((aY.a [.n 9]).g (Ae h2)).a [.pb 3 3 167 3,.cn [2,3,15,16,17] [1,3,2,4]]).lp hΓ (Cg hΓ (fun fC h=>?_) (by have:=(kj.sl (kj.agg (hr _ (aE (i:=0) rfl)) (.sl (aB.cR.map Action.c)) (by simp))).1;simpa using this) aB.cR 0 ([]:eG) rfl h);cases h;exact aY.ret hΓ
def js(aB:ar)(k1:ar->Option ar):ar->Nat->ar->Option ar
 | [],i1,bN=>(k1 bN)
 |bR::cM,i1,bN=>((nI bR).bind fun oc=>(bif room ((bN.map aL.c).length+([[D.str oc.name,D.int .i64 oc.prio,D.sl (oc.conds.map aM.c),D.sl (oc.cR.map Action.c)]]).length) 72 then(js aB k1 cM (i1+1) (bN++([oc])))else none))
def mR(aB:ar):Option ar:=(js aB (fun(cK:ar)=>(some cK)) aB 0 ([]:ar))
def vr(aB:ar)(W0:List aK)(fS:Int):St:=⟨[(3,D.acc 0),(6,D.sl (aB.map aL.c)),(7,D.int .i64 ((aB.map aL.c).length:Int)),(8,D.int .i64 fS)],[Ob.row .uq 80 4 W0]⟩
theorem BQ(hΓ:Γ.nt=19){aB:ar}{r:ar}{k1:ar->Option ar}(gE:∀(cK:ar),k1 cK=some r->Ax Γ N f101 (.q [[some (80,4)]] (D.fr 80 4 (r.map aL.c))) [1,1,1] ⟨[(3,D.acc 0)],[Ob.row .uq 80 4 (cK.map aL.c)]⟩)(hm1:aB.length<=maxLen):∀(rest:ar) (i1:Nat) (bN:ar),aB.drop i1=rest->js aB k1 rest i1 bN=some r->Ar Γ N f101 (.q [[some (80,4)]] (D.fr 80 4 (r.map aL.c))) [1,1,0,1,0] (rest.length+1) (vr aB (bN.map aL.c) (i1:Int)):=by
 intro rest
 induction rest with
 |nil=>
  intro i1 bN bD h;rw[js]at h;refine aX fun N1 dH cW=>?_
  exact((aY.ge aL.c bD).a [.hl 0 [3] [0]]).ex hΓ dH (gE bN h)
 |cons bR cM ih1=>
  intro i1 bN bD h;rw[js]at h;refine aX fun N1 dH cW=>?_
  obtain⟨oc,h28,h⟩:=aD h;obtain⟨h29,h⟩:=bh h;exact(((((aY.lt aL.c bD).l (bg aL.c 4 (dc bD) rfl)).g (BP h28)).w (bz h29)).a [.cn [3,6,7,8] [5]]).cs hΓ cW (vr aB ((bN.map aL.c)++([[D.str oc.name,D.int .i64 oc.prio,D.sl (oc.conds.map aM.c),D.sl (oc.cR.map Action.c)]])) (IntKind.i64.wrap ((i1:Int)+1))) (by first| (simp only[iS bD hm1,mA]<;>rfl)| (simp only[iS bD hm1,mA,aF.c,aa.c,aM.c,Action.c,aL.c,aW.c,fH.c,ah.c,Node.c,aI.c,fP.c]<;>rfl)) (ih1 (i1+1) (bN++([oc])) (dn bD) h)
theorem uC{aB:ar}{r:ar}(h:mR aB=some r):Good prog 101 [D.sl (aB.map aL.c)] (D.fr 80 4 (r.map aL.c)):=by
 refine gd func101 [[some (80,4)]] 19 fun hr Γ hΓ=>?_
 rw[mR]at h;refine(aY.a [.H8 3,.cn [3,6,7,8] [0]]).lp hΓ (BQ hΓ (fun cK h=>?_) (by have:=(kj.sl (hr _ (aE (i:=0) rfl))).1;simpa using this) aB 0 ([]:ar) rfl h);have h:=aN h;subst h;exact aY.ret hΓ
def jD(aB:Int):Option Bytes:=((xK aB).bind fun y1=>(some y1))
theorem u9{aB:Int}{r:Bytes}(h:jD aB=some r):Good prog 61 [D.int .i64 aB] (D.str r):=by
 refine gd func61 [[none]] 5 fun hr Γ hΓ=>?_
 rw[jD]at h;obtain⟨y1,h2,h⟩:=aD h;have h:=aN h;subst h;exact(aY.g (D8 h2)).ret hΓ
def eY(aB:aG)(k1:aU->Option aU):aG->Nat->aU->List (Bytes×Bool)->Option aU
 | [],i1,bN,yT=>(k1 bN)
 |bR::cM,i1,bN,yT=>((jW bR).bind fun ZJ=>(bif ZJ then(bif !(F2 false bR yT)then((jD (IntKind.i64.wrap (((bN.map aa.c).length:Int)+1))).bind fun Zh=>(bif decide (([63]:Bytes).length+(Zh:Bytes).length<=maxLen)then(bif room ((bN.map aa.c).length+([[D.str bR,D.str (([63])++Zh)]]).length) 32 then(eY aB k1 cM (i1+1) (bN++([(⟨bR,([63])++Zh⟩:aa)])) (ID bR true yT))else none)else none))else(eY aB k1 cM (i1+1) bN yT))else(eY aB k1 cM (i1+1) bN yT)))
def lC(aB:aG):Option aU:=(eY aB (fun(cK:aU)=>(some cK)) aB 0 ([]:aU) ([]:List (Bytes×Bool)))
def ux(aB:aG)(W0:List aK)(W1:List (D×D))(fS:Int):St:=⟨[(3,D.acc 0),(4,D.acc 1),(8,D.sl (aB.map tx)),(9,D.int .i64 ((aB.map tx).length:Int)),(10,D.int .i64 fS)],[Ob.row .uq 137 2 W0,Ob.mp W1]⟩
theorem Ag(hΓ:Γ.nt=36){aB:aG}{r:aU}{k1:aU->Option aU}(gE:∀(cK:aU),k1 cK=some r->Ax Γ N f186 (.q [[some (137,2)]] (D.fr 137 2 (r.map aa.c))) [1,1,1,1] ⟨[(3,D.acc 0)],[Ob.row .uq 137 2 (cK.map aa.c)]⟩)(hm1:aB.length<=maxLen):∀(rest:aG) (i1:Nat) (bN:aU) (yT:List (Bytes×Bool)),aB.drop i1=rest->eY aB k1 rest i1 bN yT=some r->Ar Γ N f186 (.q [[some (137,2)]] (D.fr 137 2 (r.map aa.c))) [1,1,1,0,1,0] (rest.length+1) (ux aB (bN.map aa.c) (yT.map (kS eB)) (i1:Int)):=by
 intro rest
 induction rest with
 |nil=>
  intro i1 bN yT bD h;rw[eY]at h;refine aX fun N1 dH cW=>?_
  exact((aY.ge tx bD).a [.hl 0 [3] [0]]).ex hΓ dH (gE bN h)
 |cons bR cM ih1=>
  intro i1 bN yT bD h;rw[eY]at h;refine aX fun N1 dH cW=>?_
  obtain⟨ZJ,h53,h⟩:=aD h;have kx:=(((aY.lt tx bD).l (bg tx 1 (dc bD) rfl)).g (l7 h53))
  obtain⟨h54,h⟩|⟨h54,h⟩:=aO h
  ·have lJ:=((((kx.r 3 h54).w (show Zb prog 201 (yT.map (kS eB)) (D.str bR) false=some (D.bool (F2 false bR yT))from a0v (e:=eB) (z:=false) (by kernel_rfl))).a [.d (D.bool (F2 false bR yT))]).r 2 h54)
   obtain⟨h55,h⟩|⟨h55,h⟩:=aO h
   ·obtain⟨Zh,h57,h⟩:=aD h;obtain⟨h58,h⟩:=bh h;obtain⟨h59,h⟩:=bh h;exact(((((((lJ.b h55).w (show Ez (D.str bR) (D.bool true) (yT.map (kS eB))=some ((ID bR true yT).map (kS eB))from T6 (e:=eB) (m:=yT))).a [.kv ((ID bR true yT).map (kS eB))]).g (u9 h57)).w (bf h58)).w (bz h59)).a [.cn [3,4,8,9,10] [3,1]]).cs hΓ cW (ux aB ((bN.map aa.c)++([[D.str bR,D.str (([63])++Zh)]])) ((ID bR true yT).map (kS eB)) (IntKind.i64.wrap ((i1:Int)+1))) (by first| (simp only[iS bD hm1,mA]<;>rfl)| (simp only[iS bD hm1,mA,aF.c,aa.c,aM.c,Action.c,aL.c,aW.c,fH.c,ah.c,Node.c,aI.c,fP.c]<;>rfl)) (ih1 (i1+1) (bN++([(⟨bR,([63])++Zh⟩:aa)])) (ID bR true yT) (dn bD) h)
   ·exact((lJ.b h55).a [.cn [3,4,8,9,10] [0,1]]).ct hΓ cW (iS bD hm1) (ih1 (i1+1) bN yT (dn bD) h)
  ·exact(((kx.r 5 h54).F 1).a [.cn [3,4,8,9,10] [0,1]]).ct hΓ cW (iS bD hm1) (ih1 (i1+1) bN yT (dn bD) h)
theorem tP{aB:aG}{r:aU}(h:lC aB=some r):Good prog 186 [D.sl (aB.map tx)] (D.fr 137 2 (r.map aa.c)):=by
 refine gd func186 [[some (137,2)]] 36 fun hr Γ hΓ=>?_
 rw[lC]at h;refine(aY.a [.H8 3,.cn [3,4,8,9,10] [0,1]]).lp hΓ (Ag hΓ (fun cK h=>?_) (by have:=(kj.sl (hr _ (aE (i:=0) rfl))).1;simpa using this) aB 0 ([]:aU) ([]:List (Bytes×Bool)) rfl h);have h:=aN h;subst h;exact aY.ret hΓ
def fT(aB:aL)(k1:aG->Option aU):aq->Nat->aG->Option aU
 | [],i1,bN=>(k1 bN)
 |bR::cM,i1,bN=>((oV bR).bind fun oc=>(bif room ((bN.map tx).length+(oc.map tx).length) 16 then(fT aB k1 cM (i1+1) (bN++oc))else none))
def nS(aB:aL):Option aU:=(fT aB (fun(cK:aG)=>((lC cK).bind fun vg=>(some vg))) aB.conds 0 ([]:aG))
def ul(aB:aL)(W0:List aK)(fS:Int):St:=⟨[(3,D.acc 0),(7,D.sl (aB.conds.map aM.c)),(8,D.int .i64 ((aB.conds.map aM.c).length:Int)),(9,D.int .i64 fS)],[Ob.row .uq 9 1 W0]⟩
theorem Ab(hΓ:Γ.nt=20){aB:aL}{r:aU}{k1:aG->Option aU}(gE:∀(cK:aG),k1 cK=some r->Ax Γ N f121 (.q [[some (137,2)]] (D.fr 137 2 (r.map aa.c))) [1,1,1] ⟨[(3,D.acc 0)],[Ob.row .uq 9 1 (cK.map tx)]⟩)(hm1:aB.conds.length<=maxLen):∀(rest:aq) (i1:Nat) (bN:aG),aB.conds.drop i1=rest->fT aB k1 rest i1 bN=some r->Ar Γ N f121 (.q [[some (137,2)]] (D.fr 137 2 (r.map aa.c))) [1,1,0,1,0] (rest.length+1) (ul aB (bN.map tx) (i1:Int)):=by
 intro rest
 induction rest with
 |nil=>
  intro i1 bN bD h;rw[fT]at h;refine aX fun N1 dH cW=>?_
  exact((aY.ge aM.c bD).a [.hl 0 [3] [0]]).ex hΓ dH (gE bN h)
 |cons bR cM ih1=>
  intro i1 bN bD h;rw[fT]at h;refine aX fun N1 dH cW=>?_
  obtain⟨oc,h28,h⟩:=aD h;obtain⟨h29,h⟩:=bh h;exact(((((aY.lt aM.c bD).l (bg aM.c 5 (dc bD) rfl)).g (vu h28)).w (bz h29)).a [.cn [3,7,8,9] [3]]).cs hΓ cW (ul aB ((bN.map tx)++(oc.map tx)) (IntKind.i64.wrap ((i1:Int)+1))) (by first| (simp only[iS bD hm1,mA]<;>rfl)| (simp only[iS bD hm1,mA,aF.c,aa.c,aM.c,Action.c,aL.c,aW.c,fH.c,ah.c,Node.c,aI.c,fP.c]<;>rfl)) (ih1 (i1+1) (bN++oc) (dn bD) h)
theorem zY{aB:aL}{r:aU}(h:nS aB=some r):Good prog 121 [D.agg (aL.c aB)] (D.fr 137 2 (r.map aa.c)):=by
 refine gd func121 [[some (137,2)]] 20 fun hr Γ hΓ=>?_
 rw[nS]at h;refine(aY.a [.H8 3,.cn [3,7,8,9] [1]]).lp hΓ (Ab hΓ (fun cK h=>?_) (by have:=(kj.sl (kj.agg (hr _ (aE (i:=0) rfl)) (.sl (aB.conds.map aM.c)) (by simp))).1;simpa using this) aB.conds 0 ([]:aG) rfl h);obtain⟨vg,h31,h⟩:=aD h;have h:=aN h;subst h;exact(aY.g (tP h31)).ret hΓ
def gI(aB:Bytes)(aZ:aU)(k1:Option Bytes):aU->Nat->Option Bytes
 | [],i1=>(k1)
 |bR::cM,i1=>(bif (bR.var:Bytes)==aB then(some bR.value)else(gI aB aZ k1 cM (i1+1)))
def gT(aB:Bytes)(aZ:aU):Option Bytes:=(gI aB aZ (some aB) aZ 0)
def Ah(aB:Bytes)(aZ:aU)(fS:Int):St:=⟨[(0,D.str aB),(7,D.sl (aZ.map aa.c)),(8,D.int .i64 ((aZ.map aa.c).length:Int)),(9,D.int .i64 fS)],[]⟩
theorem zi(hΓ:Γ.nt=21){aB:Bytes}{aZ:aU}{r:Bytes}{k1:Option Bytes}(gE:k1=some r->Ax Γ N f243 (.q [[none]] (D.str r)) [1,1] ⟨[(0,D.str aB)],[]⟩)(hm1:aZ.length<=maxLen):∀(rest:aU) (i1:Nat),aZ.drop i1=rest->gI aB aZ k1 rest i1=some r->Ar Γ N f243 (.q [[none]] (D.str r)) [1,0,1,0] (rest.length+1) (Ah aB aZ (i1:Int)):=by
 intro rest
 induction rest with
 |nil=>
  intro i1 bD h;rw[gI]at h;refine aX fun N1 dH cW=>?_
  exact((aY.ge aa.c bD).a [.hl 0 [0] []]).ex hΓ dH (gE h)
 |cons bR cM ih1=>
  intro i1 bD h;rw[gI]at h;refine aX fun N1 dH cW=>?_
  have kW:=((aY.lt aa.c bD).l (bg aa.c 2 (dc bD) rfl))
  obtain⟨h13,h⟩|⟨h13,h⟩:=aO h
  ·cases h;exact(kW.b h13).ret hΓ
  ·exact((kW.b h13).a [.cn [0,7,8,9] []]).ct hΓ cW (iS bD hm1) (ih1 (i1+1) (dn bD) h)
theorem oS{aB:Bytes}{aZ:aU}{r:Bytes}(h:gT aB aZ=some r):Good prog 243 [D.str aB,D.sl (aZ.map aa.c)] (D.str r):=by
 refine gd func243 [[none]] 21 fun hr Γ hΓ=>?_
 rw[gT]at h;refine(aY.a [.cn [0,7,8,9] []]).lp hΓ (zi hΓ (fun h=>?_) (by have:=(kj.sl (hr _ (aE (i:=1) rfl))).1;simpa using this) aZ 0 rfl h);have h:=aN h;subst h;exact aY.ret hΓ
def jH(aB:aM)(aZ:aU)(y1:Bytes)(y3:Bytes)(k1:aG->Option aM):aG->Nat->aG->Option aM
 | [],i1,jS=>(k1 jS)
 |bR::cM,i1,jS=>((gT bR aZ).bind fun GI=>(bif room ((jS.map tx).length+([[D.str GI]]).length) 16 then(jH aB aZ y1 y3 k1 cM (i1+1) (jS++([GI])))else none))
def jX(aB:aM)(aZ:aU):Option aM:=((gT aB.left aZ).bind fun y1=>((gT aB.right aZ).bind fun y3=>(jH aB aZ y1 y3 (fun(mC:aG)=>(some (⟨aB.kind,(⟨aB.pat.rel,mC⟩:aF),y1,y3⟩:aM))) aB.pat.args 0 ([]:aG))))
def um(aB:aM)(aZ:aU)(y1:Bytes)(y3:Bytes)(W0:List aK)(fS:Int):St:=⟨[(1,D.sl (aZ.map aa.c)),(4,D.ptr 0 0),(5,D.ptr 1 0),(26,D.sl (aB.pat.args.map tx)),(27,D.int .i64 ((aB.pat.args.map tx).length:Int)),(28,D.int .i64 fS)],[Ob.box [D.int .i64 0,D.str ([]),D.nil,D.str ([]),D.str ([])],Ob.box [D.int .i64 aB.kind,D.str aB.pat.rel,D.acc 2,D.str y1,D.str y3],Ob.row .uq 9 1 W0]⟩
theorem Ac(hΓ:Γ.nt=44){aB:aM}{aZ:aU}{y1:Bytes}{y3:Bytes}{r:aM}{k1:aG->Option aM}(gE:∀(mC:aG),k1 mC=some r->Ax Γ N f224 (.q [[none,none,some (9,1),none,none]] (D.agg [D.int .i64 r.kind,D.str r.pat.rel,D.fr 9 1 (r.pat.args.map tx),D.str r.left,D.str r.right])) [1,1,1,1] ⟨[(4,D.ptr 0 0),(5,D.ptr 1 0)],[Ob.box [D.int .i64 0,D.str ([]),D.nil,D.str ([]),D.str ([])],Ob.box [D.int .i64 aB.kind,D.str aB.pat.rel,D.acc 2,D.str y1,D.str y3],Ob.row .uq 9 1 (mC.map tx)]⟩)(hm1:aB.pat.args.length<=maxLen):∀(rest:aG) (i1:Nat) (jS:aG),aB.pat.args.drop i1=rest->jH aB aZ y1 y3 k1 rest i1 jS=some r->Ar Γ N f224 (.q [[none,none,some (9,1),none,none]] (D.agg [D.int .i64 r.kind,D.str r.pat.rel,D.fr 9 1 (r.pat.args.map tx),D.str r.left,D.str r.right])) [1,1,1,0,1,0] (rest.length+1) (um aB aZ y1 y3 (jS.map tx) (i1:Int)):=by
 intro rest
 induction rest with
 |nil=>
  intro i1 jS bD h;rw[jH]at h;refine aX fun N1 dH cW=>?_
  exact((aY.ge tx bD).a [.hl 0 [4,5] [0,1,2]]).ex hΓ dH (gE jS h)
 |cons bR cM ih1=>
  intro i1 jS bD h;rw[jH]at h;refine aX fun N1 dH cW=>?_
  obtain⟨GI,h32,h⟩:=aD h;obtain⟨h33,h⟩:=bh h;exact((((((aY.lt tx bD).l (bg tx 1 (dc bD) rfl)).a [.n 7]).g (oS h32)).w (bz h33)).a [.cn [1,4,5,26,27,28] [0,1,4]]).cs hΓ cW (um aB aZ y1 y3 ((jS.map tx)++([[D.str GI]])) (IntKind.i64.wrap ((i1:Int)+1))) (by first| (simp only[iS bD hm1,mA]<;>rfl)| (simp only[iS bD hm1,mA,aF.c,aa.c,aM.c,Action.c,aL.c,aW.c,fH.c,ah.c,Node.c,aI.c,fP.c]<;>rfl)) (ih1 (i1+1) (jS++([GI])) (dn bD) h)
theorem lm{aB:aM}{aZ:aU}{r:aM}(h:jX aB aZ=some r):Good prog 224 [D.agg (aM.c aB),D.sl (aZ.map aa.c)] (D.agg [D.int .i64 r.kind,D.str r.pat.rel,D.fr 9 1 (r.pat.args.map tx),D.str r.left,D.str r.right]):=by
 refine gd func224 [[none,none,some (9,1),none,none]] 44 fun hr Γ hΓ=>?_
 rw[jX]at h;obtain⟨y1,h2,h⟩:=aD h;obtain⟨y3,h4,h⟩:=aD h;refine((((aY.a [.n 12]).g (oS h2)).g (oS h4)).a [.pb 2 2 9 1,.cn [1,4,5,26,27,28] [1,2,3]]).lp hΓ (Ac hΓ (fun mC h=>?_) (by have:=(kj.sl (kj.agg (hr _ (aE (i:=0) rfl)) (.sl (aB.pat.args.map tx)) (by simp))).1;simpa using this) aB.pat.args 0 ([]:aG) rfl h);cases h;exact aY.ret hΓ
def jG(aB:aL)(y1:aU)(k1:aq->Option aq):aq->Nat->aq->Option aq
 | [],i1,bY=>(k1 bY)
 |bR::cM,i1,bY=>((jX bR y1).bind fun GH=>(bif room ((bY.map aM.c).length+([[D.int .i64 GH.kind,D.str GH.pat.rel,D.sl (GH.pat.args.map tx),D.str GH.left,D.str GH.right]]).length) 80 then(jG aB y1 k1 cM (i1+1) (bY++([GH])))else none))
def nR(aB:aL):Option aq:=((nS aB).bind fun y1=>(jG aB y1 (fun(cK:aq)=>(some cK)) aB.conds 0 ([]:aq)))
def uk(aB:aL)(y1:aU)(W0:List aK)(fS:Int):St:=⟨[(3,D.acc 0),(4,D.acc 1),(10,D.sl (aB.conds.map aM.c)),(11,D.int .i64 ((aB.conds.map aM.c).length:Int)),(12,D.int .i64 fS)],[Ob.row .uq 137 2 (y1.map aa.c),Ob.row .uq 47 5 W0]⟩
theorem Aa(hΓ:Γ.nt=24){aB:aL}{y1:aU}{r:aq}{k1:aq->Option aq}(gE:∀(cK:aq),k1 cK=some r->Ax Γ N f166 (.q [[some (47,5)]] (D.fr 47 5 (r.map aM.c))) [1,1,1,1] ⟨[(4,D.acc 0)],[Ob.row .uq 47 5 (cK.map aM.c)]⟩)(hm1:aB.conds.length<=maxLen):∀(rest:aq) (i1:Nat) (bY:aq),aB.conds.drop i1=rest->jG aB y1 k1 rest i1 bY=some r->Ar Γ N f166 (.q [[some (47,5)]] (D.fr 47 5 (r.map aM.c))) [1,1,1,0,1,0] (rest.length+1) (uk aB y1 (bY.map aM.c) (i1:Int)):=by
 intro rest
 induction rest with
 |nil=>
  intro i1 bY bD h;rw[jG]at h;refine aX fun N1 dH cW=>?_
  exact((aY.ge aM.c bD).a [.hl 0 [4] [1]]).ex hΓ dH (gE bY h)
 |cons bR cM ih1=>
  intro i1 bY bD h;rw[jG]at h;refine aX fun N1 dH cW=>?_
  obtain⟨GH,h30,h⟩:=aD h;obtain⟨h31,h⟩:=bh h;exact(((((aY.lt aM.c bD).l (bg aM.c 5 (dc bD) rfl)).g (lm h30)).w (bz h31)).a [.cn [3,4,10,11,12] [0,5]]).cs hΓ cW (uk aB y1 ((bY.map aM.c)++([[D.int .i64 GH.kind,D.str GH.pat.rel,D.sl (GH.pat.args.map tx),D.str GH.left,D.str GH.right]])) (IntKind.i64.wrap ((i1:Int)+1))) (by first| (simp only[iS bD hm1,mA]<;>rfl)| (simp only[iS bD hm1,mA,aF.c,aa.c,aM.c,Action.c,aL.c,aW.c,fH.c,ah.c,Node.c,aI.c,fP.c]<;>rfl)) (ih1 (i1+1) (bY++([GH])) (dn bD) h)
theorem zX{aB:aL}{r:aq}(h:nR aB=some r):Good prog 166 [D.agg (aL.c aB)] (D.fr 47 5 (r.map aM.c)):=by
 refine gd func166 [[some (47,5)]] 24 fun hr Γ hΓ=>?_
 rw[nR]at h;obtain⟨y1,h2,h⟩:=aD h;refine((aY.g (zY h2)).a [.H8 4,.cn [3,4,10,11,12] [1,2]]).lp hΓ (Aa hΓ (fun cK h=>?_) (by have:=(kj.sl (kj.agg (hr _ (aE (i:=0) rfl)) (.sl (aB.conds.map aM.c)) (by simp))).1;simpa using this) aB.conds 0 ([]:aq) rfl h);have h:=aN h;subst h;exact aY.ret hΓ
def ju(aB:aG)(aZ:aG)(k1:Option Bool):aG->Nat->Option Bool
 | [],i1=>(k1)
 |bR::cM,i1=>((iY aZ (i1:Int)).bind fun x22=>(bif !((bR:Bytes)==x22)then(some false)else(ju aB aZ k1 cM (i1+1))))
def mT(aB:aG)(aZ:aG):Option Bool:=(bif (((aB.map tx).length:Int):Int) != ((aZ.map tx).length:Int)then(some false)else(ju aB aZ (some true) aB 0))
def Cm(aB:aG)(aZ:aG)(fS:Int):St:=⟨[(0,D.sl (aB.map tx)),(1,D.sl (aZ.map tx)),(12,D.int .i64 ((aB.map tx).length:Int)),(13,D.int .i64 fS)],[]⟩
theorem BV(hΓ:Γ.nt=26){aB:aG}{aZ:aG}{r:Bool}{k1:Option Bool}(gE:k1=some r->Ax Γ N f108 (.q [[none]] (D.bool r)) [1,1,1] ⟨[],[]⟩)(hm1:aB.length<=maxLen):∀(rest:aG) (i1:Nat),aB.drop i1=rest->ju aB aZ k1 rest i1=some r->Ar Γ N f108 (.q [[none]] (D.bool r)) [1,1,0,1,0] (rest.length+1) (Cm aB aZ (i1:Int)):=by
 intro rest
 induction rest with
 |nil=>
  intro i1 bD h;rw[ju]at h;refine aX fun N1 dH cW=>?_
  exact((aY.ge tx bD).a [.hl 0 [] []]).ex hΓ dH (gE h)
 |cons bR cM ih1=>
  intro i1 bD h;rw[ju]at h;refine aX fun N1 dH cW=>?_
  obtain⟨x22,h23,h⟩:=aD h;have kW:=((((aY.lt tx bD).a [.n 8]).l (bg tx 1 (dc bD) rfl)).l (kG tx 1 h23 rfl))
  obtain⟨h24,h⟩|⟨h24,h⟩:=aO h
  ·have h:=aN h;subst h;exact(kW.b h24).ret hΓ
  ·exact((kW.b h24).a [.cn [0,1,12,13] []]).ct hΓ cW (iS bD hm1) (ih1 (i1+1) (dn bD) h)
theorem uE{aB:aG}{aZ:aG}{r:Bool}(h:mT aB aZ=some r):Good prog 108 [D.sl (aB.map tx),D.sl (aZ.map tx)] (D.bool r):=by
 refine gd func108 [[none]] 26 fun hr Γ hΓ=>?_
 rw[mT]at h;obtain⟨h1,h⟩|⟨h1,h⟩:=aO h
 ·have h:=aN h;subst h;exact(aY.b h1).ret hΓ
 ·refine((aY.b h1).a [.cn [0,1,12,13] []]).lp hΓ (BV hΓ (fun h=>?_) (by have:=(kj.sl (hr _ (aE (i:=0) rfl))).1;simpa using this) aB 0 rfl h);have h:=aN h;subst h;exact aY.ret hΓ
def ec(aB:aF)(aZ:aF):Option Bool:=(bif (aB.rel:Bytes)==aZ.rel then((mT aB.args aZ.args).bind fun y2=>(some y2))else(some false))
theorem l8{aB:aF}{aZ:aF}{r:Bool}(h:ec aB aZ=some r):Good prog 54 [D.agg (aF.c aB),D.agg (aF.c aZ)] (D.bool r):=by
 refine gd func54 [[none]] 17 fun hr Γ hΓ=>?_
 rw[ec]at h;obtain⟨h1,h⟩|⟨h1,h⟩:=aO h
 ·obtain⟨y2,h3,h⟩:=aD h;have h:=aN h;subst h;exact(((aY.r 5 h1).g (uE h3)).b h1).ret hΓ
 ·have h:=aN h;subst h;exact(aY.r 6 h1).ret hΓ
def iW(aB:aM)(aZ:aM):Option Bool:=(bif (aB.kind:Int)==aZ.kind then(bif (aB.left:Bytes)==aZ.left then(bif (aB.right:Bytes)==aZ.right then((ec aB.pat aZ.pat).bind fun y4=>(some y4))else(some false))else(some false))else(some false))
theorem qt{aB:aM}{aZ:aM}{r:Bool}(h:iW aB aZ=some r):Good prog 55 [D.agg (aM.c aB),D.agg (aM.c aZ)] (D.bool r):=by
 refine gd func55 [[none]] 31 fun hr Γ hΓ=>?_
 rw[iW]at h;obtain⟨h1,h⟩|⟨h1,h⟩:=aO h
 ·have rj:=(aY.r 6 h1)
  obtain⟨h2,h⟩|⟨h2,h⟩:=aO h
  ·have kW:=(rj.r 6 h2)
   obtain⟨h3,h⟩|⟨h3,h⟩:=aO h
   ·obtain⟨y4,h5,h⟩:=aD h;have h:=aN h;subst h;exact(((kW.r 5 h3).g (l8 h5)).b h3).ret hΓ
   ·have h:=aN h;subst h;exact(kW.r 6 h3).ret hΓ
  ·have h:=aN h;subst h;exact((rj.r 6 h2).F 6).ret hΓ
 ·have h:=aN h;subst h;exact((aY.r 6 h1).F 12).ret hΓ
def oN(aB:aF):Option aF:=((lC aB.args).bind fun y1=>((jX (⟨0,aB,[],[]⟩:aM) y1).bind fun y3=>(some y3.pat)))
theorem vo{aB:aF}{r:aF}(h:oN aB=some r):Good prog 226 [D.agg (aF.c aB)] (D.agg [D.str r.rel,D.fr 9 1 (r.args.map tx)]):=by
 refine gd func226 [[none,some (9,1)]] 10 fun hr Γ hΓ=>?_
 rw[oN]at h;obtain⟨y1,h2,h⟩:=aD h;obtain⟨y3,h4,h⟩:=aD h;cases h;exact((((aY.a [.n 5]).g (tP h2)).a [.d (D.agg [D.int .i64 y3.kind,D.str y3.pat.rel,D.fr 9 1 (y3.pat.args.map tx),D.str y3.left,D.str y3.right])]).w (show Good prog 224 [D.agg [D.int .i64 0,D.str aB.rel,D.sl (aB.args.map tx),D.str ([]),D.str ([])],D.sl (y1.map aa.c)] (D.agg [D.int .i64 y3.kind,D.str y3.pat.rel,D.fr 9 1 (y3.pat.args.map tx),D.str y3.left,D.str y3.right])from by first| (simpa only[bP,bO,cA,br,bt]using lm h4)|exact lm h4| (have t:=lm h4;simp only[bP,br,bt,aM.c]at t;exact t))).ret hΓ
def eT(x:aI):aK:=[D.fr 80 4 (x.rules.map aL.c),D.fr 3 1 (x.ends.map lZ),D.fr 93 3 (x.bG.map ah.c),D.fr 50 8 (x.nodes.map Node.c),D.fr 37 2 (x.facts.map aF.c),D.int .i64 x.cL]
def eA(aB:aI)(aZ:aF)(k1:Option (aI×Int)):bM->Nat->Option (aI×Int)
 | [],i1=>(k1)
 |bR::cM,i1=>((ec bR.shape aZ).bind fun xg=>(bif xg then(some (aB,(i1:Int)))else(eA aB aZ k1 cM (i1+1))))
def gM(aB:aI)(aZ:aF):Option (aI×Int):=(bif decide (aB.bG.length<=maxLen)then(eA aB aZ (bif room ((aB.bG.map ah.c).length+([[D.str aZ.rel,D.sl (aZ.args.map tx),D.sl ([])]]).length) 64 then(some ((⟨aB.rules,aB.ends,aB.bG++([(⟨aZ,[]⟩:ah)]),aB.nodes,aB.facts,aB.cL⟩:aI),IntKind.i64.wrap ((((aB.bG.map ah.c)++([[D.str aZ.rel,D.sl (aZ.args.map tx),D.sl ([])]])).length:Int)-1)))else none) aB.bG 0)else none)
def wm(lS:Value)(aB:aI)(aZ:aF)(fS:Int):St:=⟨[(0,D.ptr 0 0),(3,D.ptr 1 0),(10,D.acc 2),(11,D.int .i64 ((aB.bG.map ah.c).length:Int)),(12,D.int .i64 fS)],[Ob.DA [D.acc 3,D.acc 4,D.acc 2,D.acc 5,D.acc 6,D.int .i64 aB.cL] lS,Ob.box [D.str aZ.rel,D.acc 7],Ob.row .uq 93 3 (aB.bG.map ah.c),Ob.row .uq 80 4 (aB.rules.map aL.c),Ob.row .uq 3 1 (aB.ends.map lZ),Ob.row .uq 50 8 (aB.nodes.map Node.c),Ob.row .uq 37 2 (aB.facts.map aF.c),Ob.row .uq 9 1 (aZ.args.map tx)]⟩
theorem wD(hΓ:Γ.nt=40){lS:Value}{aB:aI}{aZ:aF}{r:aI×Int}{k1:Option (aI×Int)}(gE:k1=some r->Ax Γ N f225 (.p [[some (80,4),some (3,1),some (93,3),some (50,8),some (37,2),none],[none]] lS (eT r.1) (D.int .i64 r.2)) [1,1] ⟨[(0,D.ptr 0 0),(3,D.ptr 1 0)],[Ob.DA [D.acc 2,D.acc 3,D.acc 4,D.acc 5,D.acc 6,D.int .i64 aB.cL] lS,Ob.box [D.str aZ.rel,D.acc 7],Ob.row .uq 80 4 (aB.rules.map aL.c),Ob.row .uq 3 1 (aB.ends.map lZ),Ob.row .uq 93 3 (aB.bG.map ah.c),Ob.row .uq 50 8 (aB.nodes.map Node.c),Ob.row .uq 37 2 (aB.facts.map aF.c),Ob.row .uq 9 1 (aZ.args.map tx)]⟩)(hm1:aB.bG.length<=maxLen):∀(rest:bM) (i1:Nat),aB.bG.drop i1=rest->eA aB aZ k1 rest i1=some r->Ar Γ N f225 (.p [[some (80,4),some (3,1),some (93,3),some (50,8),some (37,2),none],[none]] lS (eT r.1) (D.int .i64 r.2)) [1,0,1,0] (rest.length+1) (wm lS aB aZ (i1:Int)):=by
 intro rest
 induction rest with
 |nil=>
  intro i1 bD h;rw[eA]at h;refine aX fun N1 dH cW=>?_
  exact((aY.ge ah.c bD).a [.hl 0 [0,3] [0,1,3,4,2,5,6,7]]).ex hΓ dH (gE h)
 |cons bR cM ih1=>
  intro i1 bD h;rw[eA]at h;refine aX fun N1 dH cW=>?_
  obtain⟨xg,h23,h⟩:=aD h;have kW:=((((aY.lt ah.c bD).i (mw ah.c 3 (dc bD))).o 3 3 .uq (cP ah.c (dc bD))).g (l8 h23))
  obtain⟨h24,h⟩|⟨h24,h⟩:=aO h
  ·cases h;exact(kW.b h24).ret hΓ
  ·exact((kW.b h24).a [.cn [0,3,10,11,12] [0,1,2,3,4,5,6,7]]).ct hΓ cW (iS bD hm1) (ih1 (i1+1) (dn bD) h)
theorem pQ{aB:aI}{aZ:aF}{r:aI×Int}(h:gM aB aZ=some r):kD prog 225 (eT aB) (eT r.1) [D.agg [D.str aZ.rel,D.fr 9 1 (aZ.args.map tx)]] (D.int .i64 r.2):=by
 refine JM func225 [[some (80,4),some (3,1),some (93,3),some (50,8),some (37,2),none],[none]] 40 [D.acc 1,D.acc 2,D.acc 3,D.acc 4,D.acc 5,D.int .i64 aB.cL] [D.agg [D.str aZ.rel,D.acc 6]] [Ob.row .uq 80 4 (aB.rules.map aL.c),Ob.row .uq 3 1 (aB.ends.map lZ),Ob.row .uq 93 3 (aB.bG.map ah.c),Ob.row .uq 50 8 (aB.nodes.map Node.c),Ob.row .uq 37 2 (aB.facts.map aF.c),Ob.row .uq 9 1 (aZ.args.map tx)] fun hr lS Γ hΓ=>?_
 rw[gM]at h;obtain⟨h27,h⟩:=bh h;refine(aY.a [.cn [0,3,10,11,12] [0,7,3,1,2,4,5,6]]).lp hΓ (wD hΓ (fun h=>?_) (bf h27) aB.bG 0 rfl h);obtain⟨h26,h⟩:=bh h;cases h;exact((aY.w (bz h26)).a [.n2 [0,1,2,3,4,5,6,7,8,9,10,11] [0,1,2,3,4,5,6,7,8,9,10,11] 7 9 [0,1,2,3,4] [4,7,8]]).rts hΓ (D.iQ [D.int .i64 (IntKind.i64.wrap ((((aB.bG.map ah.c)++([[D.str aZ.rel,D.sl (aZ.args.map tx),D.sl ([])]])).length:Int)-1)),D.agg [D.fr 80 4 (aB.rules.map aL.c),D.fr 3 1 (aB.ends.map lZ),D.fr 93 3 ((aB.bG.map ah.c)++([[D.str aZ.rel,D.sl (aZ.args.map tx),D.sl ([])]])),D.fr 50 8 (aB.nodes.map Node.c),D.fr 37 2 (aB.facts.map aF.c),D.int .i64 aB.cL],D.val lS]) (by first|rfl| (simp only[mA]<;>rfl)| (simp only[eT,mA]<;>rfl))
def cc(aB:aI)(aZ:Int)(cY:aM)(k1:Option (aI×Int)):bI->Nat->Option (aI×Int)
 | [],i1=>(k1)
 |bR::cM,i1=>(bif decide (((i1:Int):Int)>0)then(bif (bR.parent:Int)==aZ then((iW bR.cond cY).bind fun Qd=>(bif Qd then(some (aB,(i1:Int)))else(cc aB aZ cY k1 cM (i1+1))))else(cc aB aZ cY k1 cM (i1+1)))else(cc aB aZ cY k1 cM (i1+1)))
def jB(aB:aI)(aZ:Int)(cY:aM):Option (aI×Int):=(bif decide (aB.nodes.length<=maxLen)then(cc aB aZ cY (bif (cY.kind:Int)==1 then((oN cY.pat).bind fun Mj=>((gM aB Mj).bind fun J1=>((eU cY).bind fun Ij=>(bif room ((J1.1.nodes.map Node.c).length+([[D.int .i64 aZ,D.int .i64 Ij.kind,D.str Ij.pat.rel,D.sl (Ij.pat.args.map tx),D.str Ij.left,D.str Ij.right,D.int .i64 J1.2,D.sl ([])]]).length) 120 then(some ((⟨J1.1.rules,J1.1.ends,J1.1.bG,J1.1.nodes++([(⟨aZ,Ij,J1.2,[]⟩:Node)]),J1.1.facts,J1.1.cL⟩:aI),IntKind.i64.wrap ((((J1.1.nodes.map Node.c)++([[D.int .i64 aZ,D.int .i64 Ij.kind,D.str Ij.pat.rel,D.sl (Ij.pat.args.map tx),D.str Ij.left,D.str Ij.right,D.int .i64 J1.2,D.sl ([])]])).length:Int)-1)))else none))))else(bif (cY.kind:Int)==2 then((oN cY.pat).bind fun y47=>((gM aB y47).bind fun Gj=>((eU cY).bind fun FT=>(bif room ((Gj.1.nodes.map Node.c).length+([[D.int .i64 aZ,D.int .i64 FT.kind,D.str FT.pat.rel,D.sl (FT.pat.args.map tx),D.str FT.left,D.str FT.right,D.int .i64 Gj.2,D.sl ([])]]).length) 120 then(some ((⟨Gj.1.rules,Gj.1.ends,Gj.1.bG,Gj.1.nodes++([(⟨aZ,FT,Gj.2,[]⟩:Node)]),Gj.1.facts,Gj.1.cL⟩:aI),IntKind.i64.wrap ((((Gj.1.nodes.map Node.c)++([[D.int .i64 aZ,D.int .i64 FT.kind,D.str FT.pat.rel,D.sl (FT.pat.args.map tx),D.str FT.left,D.str FT.right,D.int .i64 Gj.2,D.sl ([])]])).length:Int)-1)))else none))))else((eU cY).bind fun Ik=>(bif room ((aB.nodes.map Node.c).length+([[D.int .i64 aZ,D.int .i64 Ik.kind,D.str Ik.pat.rel,D.sl (Ik.pat.args.map tx),D.str Ik.left,D.str Ik.right,D.int .i64 (-1),D.sl ([])]]).length) 120 then(some ((⟨aB.rules,aB.ends,aB.bG,aB.nodes++([(⟨aZ,Ik, -1,[]⟩:Node)]),aB.facts,aB.cL⟩:aI),IntKind.i64.wrap ((((aB.nodes.map Node.c)++([[D.int .i64 aZ,D.int .i64 Ik.kind,D.str Ik.pat.rel,D.sl (Ik.pat.args.map tx),D.str Ik.left,D.str Ik.right,D.int .i64 (-1),D.sl ([])]])).length:Int)-1)))else none)))) aB.nodes 0)else none)
def wo(lS:Value)(aB:aI)(aZ:Int)(cY:aM)(fS:Int):St:=⟨[(0,D.ptr 0 0),(1,D.int .i64 aZ),(5,D.ptr 1 0),(13,D.acc 2),(14,D.int .i64 ((aB.nodes.map Node.c).length:Int)),(15,D.int .i64 fS)],[Ob.DA [D.acc 3,D.acc 4,D.acc 5,D.acc 2,D.acc 6,D.int .i64 aB.cL] lS,Ob.box (aM.c cY),Ob.row .uq 50 8 (aB.nodes.map Node.c),Ob.row .uq 80 4 (aB.rules.map aL.c),Ob.row .uq 3 1 (aB.ends.map lZ),Ob.row .uq 93 3 (aB.bG.map ah.c),Ob.row .uq 37 2 (aB.facts.map aF.c)]⟩
theorem wE(hΓ:Γ.nt=69){lS:Value}{aB:aI}{aZ:Int}{cY:aM}{r:aI×Int}{k1:Option (aI×Int)}(gE:k1=some r->Ax Γ N f167 (.p [[some (80,4),some (3,1),some (93,3),some (50,8),some (37,2),none],[none]] lS (eT r.1) (D.int .i64 r.2)) [1,1] ⟨[(0,D.ptr 0 0),(1,D.int .i64 aZ),(5,D.ptr 1 0)],[Ob.DA [D.acc 2,D.acc 3,D.acc 4,D.acc 5,D.acc 6,D.int .i64 aB.cL] lS,Ob.box (aM.c cY),Ob.row .uq 80 4 (aB.rules.map aL.c),Ob.row .uq 3 1 (aB.ends.map lZ),Ob.row .uq 93 3 (aB.bG.map ah.c),Ob.row .uq 50 8 (aB.nodes.map Node.c),Ob.row .uq 37 2 (aB.facts.map aF.c)]⟩)(hm1:aB.nodes.length<=maxLen):∀(rest:bI) (i1:Nat),aB.nodes.drop i1=rest->cc aB aZ cY k1 rest i1=some r->Ar Γ N f167 (.p [[some (80,4),some (3,1),some (93,3),some (50,8),some (37,2),none],[none]] lS (eT r.1) (D.int .i64 r.2)) [1,0,1,0] (rest.length+1) (wo lS aB aZ cY (i1:Int)):=by
 intro rest
 induction rest with
 |nil=>
  intro i1 bD h;rw[cc]at h;refine aX fun N1 dH cW=>?_
  exact((aY.ge Node.c bD).a [.hl 0 [0,1,5] [0,1,3,4,5,2,6]]).ex hΓ dH (gE h)
 |cons bR cM ih1=>
  intro i1 bD h;rw[cc]at h;refine aX fun N1 dH cW=>?_
  have lJ:=(((aY.lt Node.c bD).i (mw Node.c 8 (dc bD))).o 8 8 .uq (cP Node.c (dc bD)))
  obtain⟨h30,h⟩|⟨h30,h⟩:=aO h
  ·have tf:=(lJ.r 5 h30)
   obtain⟨h31,h⟩|⟨h31,h⟩:=aO h
   ·obtain⟨Qd,h33,h⟩:=aD h;have xQ:=(((tf.r 4 h31).g (qt h33)).b h31)
    obtain⟨h34,h⟩|⟨h34,h⟩:=aO h
    ·cases h;exact(xQ.b h34).ret hΓ
    ·exact((xQ.b h34).a [.cn [0,1,5,13,14,15] [0,1,2,3,4,5,6]]).ct hΓ cW (iS bD hm1) (ih1 (i1+1) (dn bD) h)
   ·exact(((tf.r 5 h31).F 1).a [.cn [0,1,5,13,14,15] [0,1,2,3,4,5,6]]).ct hΓ cW (iS bD hm1) (ih1 (i1+1) (dn bD) h)
  ·exact(((lJ.r 5 h30).F 6).a [.cn [0,1,5,13,14,15] [0,1,2,3,4,5,6]]).ct hΓ cW (iS bD hm1) (ih1 (i1+1) (dn bD) h)
theorem vP{aB:aI}{aZ:Int}{cY:aM}{r:aI×Int}(h:jB aB aZ cY=some r):kD prog 167 (eT aB) (eT r.1) [D.int .i64 aZ,D.agg (aM.c cY)] (D.int .i64 r.2):=by
 refine JM func167 [[some (80,4),some (3,1),some (93,3),some (50,8),some (37,2),none],[none]] 69 [D.acc 1,D.acc 2,D.acc 3,D.acc 4,D.acc 5,D.int .i64 aB.cL] [D.int .i64 aZ,D.agg [D.int .i64 cY.kind,D.str cY.pat.rel,D.sl (cY.pat.args.map tx),D.str cY.left,D.str cY.right]] [Ob.row .uq 80 4 (aB.rules.map aL.c),Ob.row .uq 3 1 (aB.ends.map lZ),Ob.row .uq 93 3 (aB.bG.map ah.c),Ob.row .uq 50 8 (aB.nodes.map Node.c),Ob.row .uq 37 2 (aB.facts.map aF.c)] fun hr lS Γ hΓ=>?_
 rw[jB]at h;obtain⟨h63,h⟩:=bh h;refine(aY.a [.cn [0,1,5,13,14,15] [0,6,4,1,2,3,5]]).lp hΓ (wE hΓ (fun h=>?_) (bf h63) aB.nodes 0 rfl h);obtain⟨h35,h⟩|⟨h35,h⟩:=aO h
 ·obtain⟨Mj,h37,h⟩:=aD h;obtain⟨J1,h39,h⟩:=aD h;obtain⟨Ij,h44,h⟩:=aD h;obtain⟨h45,h⟩:=bh h;cases h;exact(((((((aY.r 4 h35).T 1).g (vo h37)).hp [[some (80,4),some (3,1),some (93,3),some (50,8),some (37,2),none],[none,some (9,1)]] (pQ h39)).a [.n2 [0,1,2,3,4,5,6,7,8,9,10,11,12,13,14] [0,1,2,3,4,5,6,7,8,9,10,11,12,13,14] 10 12 [0,1,2,3,4] [11,13,14]]).g (jI h44)).w (bz h45)).rts hΓ (D.iQ [D.int .i64 (IntKind.i64.wrap ((((J1.1.nodes.map Node.c)++([[D.int .i64 aZ,D.int .i64 Ij.kind,D.str Ij.pat.rel,D.sl (Ij.pat.args.map tx),D.str Ij.left,D.str Ij.right,D.int .i64 J1.2,D.sl ([])]])).length:Int)-1)),D.agg [D.fr 80 4 (J1.1.rules.map aL.c),D.fr 3 1 (J1.1.ends.map lZ),D.fr 93 3 (J1.1.bG.map ah.c),D.fr 50 8 ((J1.1.nodes.map Node.c)++([[D.int .i64 aZ,D.int .i64 Ij.kind,D.str Ij.pat.rel,D.sl (Ij.pat.args.map tx),D.str Ij.left,D.str Ij.right,D.int .i64 J1.2,D.sl ([])]])),D.fr 37 2 (J1.1.facts.map aF.c),D.int .i64 J1.1.cL],D.val lS]) (by first|rfl| (simp only[mA]<;>rfl)| (simp only[eT,mA]<;>rfl))
 ·have Av:=(aY.r 4 h35)
  obtain⟨h46,h⟩|⟨h46,h⟩:=aO h
  ·obtain⟨y47,h48,h⟩:=aD h;obtain⟨Gj,h50,h⟩:=aD h;obtain⟨FT,h55,h⟩:=aD h;obtain⟨h56,h⟩:=bh h;cases h;exact((((((Av.b h46).g (vo h48)).hp [[some (80,4),some (3,1),some (93,3),some (50,8),some (37,2),none],[none,some (9,1)]] (pQ h50)).a [.n2 [0,1,2,3,4,5,6,7,8,9,10,11,12,13,14] [0,1,2,3,4,5,6,7,8,9,10,11,12,13,14] 10 12 [0,1,2,3,4] [11,13,14]]).g (jI h55)).w (bz h56)).rts hΓ (D.iQ [D.int .i64 (IntKind.i64.wrap ((((Gj.1.nodes.map Node.c)++([[D.int .i64 aZ,D.int .i64 FT.kind,D.str FT.pat.rel,D.sl (FT.pat.args.map tx),D.str FT.left,D.str FT.right,D.int .i64 Gj.2,D.sl ([])]])).length:Int)-1)),D.agg [D.fr 80 4 (Gj.1.rules.map aL.c),D.fr 3 1 (Gj.1.ends.map lZ),D.fr 93 3 (Gj.1.bG.map ah.c),D.fr 50 8 ((Gj.1.nodes.map Node.c)++([[D.int .i64 aZ,D.int .i64 FT.kind,D.str FT.pat.rel,D.sl (FT.pat.args.map tx),D.str FT.left,D.str FT.right,D.int .i64 Gj.2,D.sl ([])]])),D.fr 37 2 (Gj.1.facts.map aF.c),D.int .i64 Gj.1.cL],D.val lS]) (by first|rfl| (simp only[mA]<;>rfl)| (simp only[eT,mA]<;>rfl))
  ·obtain⟨Ik,h61,h⟩:=aD h;obtain⟨h62,h⟩:=bh h;cases h;exact((((Av.b h46).a [.n2 [0,1,2,3,4,5,6,7,8,9,10,11,12,13,14] [0,1,2,3,4,5,6,7,8,9,10,11,12,13,14] 10 12 [0,1,2,3,4] [5,7,8]]).g (jI h61)).w (bz h62)).rts hΓ (D.iQ [D.int .i64 (IntKind.i64.wrap ((((aB.nodes.map Node.c)++([[D.int .i64 aZ,D.int .i64 Ik.kind,D.str Ik.pat.rel,D.sl (Ik.pat.args.map tx),D.str Ik.left,D.str Ik.right,D.int .i64 (-1),D.sl ([])]])).length:Int)-1)),D.agg [D.fr 80 4 (aB.rules.map aL.c),D.fr 3 1 (aB.ends.map lZ),D.fr 93 3 (aB.bG.map ah.c),D.fr 50 8 ((aB.nodes.map Node.c)++([[D.int .i64 aZ,D.int .i64 Ik.kind,D.str Ik.pat.rel,D.sl (Ik.pat.args.map tx),D.str Ik.left,D.str Ik.right,D.int .i64 (-1),D.sl ([])]])),D.fr 37 2 (aB.facts.map aF.c),D.int .i64 aB.cL],D.val lS]) (by first|rfl| (simp only[mA]<;>rfl)| (simp only[eT,mA]<;>rfl))
def iF(aB:ar)(i1:Nat)(EA:aq)(k2:Int->Int->ar->b9->bM->bI->aJ->Option aI):aq->Nat->Int->Int->ar->b9->bM->bI->aJ->Option aI
 | [],i2,DB,s7,FL,mE,uX,qS,FM=>(k2 DB s7 FL mE uX qS FM)
 |mF::th,i2,DB,s7,FL,mE,uX,qS,FM=>((jB (⟨FL,mE,uX,qS,FM,s7⟩:aI) DB mF).bind fun yX=>(iF aB i1 EA k2 th (i2+1) yX.2 yX.1.cL yX.1.rules yX.1.ends yX.1.bG yX.1.nodes yX.1.facts))
def iE(aB:ar)(k1:Int->ar->b9->bM->bI->aJ->Option aI):ar->Nat->Int->ar->b9->bM->bI->aJ->Option aI
 | [],i1,j7,jS,cm,uV,nC,uW=>(k1 j7 jS cm uV nC uW)
 |bR::cM,i1,j7,jS,cm,uV,nC,uW=>((nR bR).bind fun EA=>(bif decide (EA.length<=maxLen)then(iF aB i1 EA (fun(Ih:Int) (A6:Int) (Ko:ar) (yV:b9) (Kp:bM) (sI:bI) (Kq:aJ)=>(bif room ((yV.map lZ).length+([[D.int .i64 Ih]]).length) 8 then(iE aB k1 cM (i1+1) A6 Ko (yV++([Ih])) Kp sI Kq)else none)) EA 0 0 j7 jS cm uV nC uW)else none))
def oU(aB:ar):Option aI:=((mR aB).bind fun y1=>(iE aB (fun(pL:Int) (mC:ar) (fC:b9) (G7:bM) (rS:bI) (G8:aJ)=>(some (⟨mC,fC,G7,rS,G8,pL⟩:aI))) aB 0 0 y1 ([]:b9) ([]:bM) ([(⟨-1,(⟨0,(⟨[],[]⟩:aF),[],[]⟩:aM), -1,[]⟩:Node)]) ([]:aJ)))
def s4(aB:ar)(j7:Int)(W1:List aK)(W2:List aK)(W3:List aK)(W4:List aK)(W5:List aK)(fS:Int):St:=⟨[(2,D.ptr 0 0),(3,D.ptr 1 0),(14,D.sl (aB.map aL.c)),(15,D.int .i64 ((aB.map aL.c).length:Int)),(16,D.int .i64 fS)],[Ob.box [D.nil,D.nil,D.nil,D.nil,D.nil,D.int .i64 0],Ob.box [D.acc 2,D.acc 3,D.acc 4,D.acc 5,D.acc 6,D.int .i64 j7],Ob.row .uq 80 4 W1,Ob.row .uq 3 1 W2,Ob.row .uq 93 3 W3,Ob.row .uq 50 8 W4,Ob.row .uq 37 2 W5]⟩
def Cn(aB:ar)(i1:Nat)(EA:aq)(DB:Int)(s7:Int)(W2:List aK)(W3:List aK)(W4:List aK)(W5:List aK)(W6:List aK)(fS:Int):St:=⟨[(2,D.ptr 0 0),(3,D.ptr 1 0),(6,D.int .i64 DB),(14,D.sl (aB.map aL.c)),(15,D.int .i64 ((aB.map aL.c).length:Int)),(16,D.int .i64 (i1:Int)),(21,D.acc 2),(22,D.int .i64 ((EA.map aM.c).length:Int)),(23,D.int .i64 fS)],[Ob.box [D.nil,D.nil,D.nil,D.nil,D.nil,D.int .i64 0],Ob.box [D.acc 3,D.acc 4,D.acc 5,D.acc 6,D.acc 7,D.int .i64 s7],Ob.row .uq 47 5 (EA.map aM.c),Ob.row .uq 80 4 W2,Ob.row .uq 3 1 W3,Ob.row .uq 93 3 W4,Ob.row .uq 50 8 W5,Ob.row .uq 37 2 W6]⟩
theorem BY(hΓ:Γ.nt=39){aB:ar}{i1:Nat}{EA:aq}{r:aI}{k2:Int->Int->ar->b9->bM->bI->aJ->Option aI}(EB:∀(Ih:Int) (A6:Int) (Ko:ar) (yV:b9) (Kp:bM) (sI:bI) (Kq:aJ),k2 Ih A6 Ko yV Kp sI Kq=some r->Ax Γ N f99 (.q [[some (80,4),some (3,1),some (93,3),some (50,8),some (37,2),none]] (D.agg [D.fr 80 4 (r.rules.map aL.c),D.fr 3 1 (r.ends.map lZ),D.fr 93 3 (r.bG.map ah.c),D.fr 50 8 (r.nodes.map Node.c),D.fr 37 2 (r.facts.map aF.c),D.int .i64 r.cL])) [1,1,0,1,0,0,1,1,0,0,1,1,1] ⟨[(2,D.ptr 0 0),(3,D.ptr 1 0),(6,D.int .i64 Ih),(14,D.sl (aB.map aL.c)),(15,D.int .i64 ((aB.map aL.c).length:Int)),(16,D.int .i64 (i1:Int))],[Ob.box [D.nil,D.nil,D.nil,D.nil,D.nil,D.int .i64 0],Ob.box [D.acc 2,D.acc 3,D.acc 4,D.acc 5,D.acc 6,D.int .i64 A6],Ob.row .uq 80 4 (Ko.map aL.c),Ob.row .uq 3 1 (yV.map lZ),Ob.row .uq 93 3 (Kp.map ah.c),Ob.row .uq 50 8 (sI.map Node.c),Ob.row .uq 37 2 (Kq.map aF.c)]⟩)(hm2:EA.length<=maxLen):∀(rest:aq) (i2:Nat) (DB:Int) (s7:Int) (FL:ar) (mE:b9) (uX:bM) (qS:bI) (FM:aJ),EA.drop i2=rest->iF aB i1 EA k2 rest i2 DB s7 FL mE uX qS FM=some r->Ar Γ N f99 (.q [[some (80,4),some (3,1),some (93,3),some (50,8),some (37,2),none]] (D.agg [D.fr 80 4 (r.rules.map aL.c),D.fr 3 1 (r.ends.map lZ),D.fr 93 3 (r.bG.map ah.c),D.fr 50 8 (r.nodes.map Node.c),D.fr 37 2 (r.facts.map aF.c),D.int .i64 r.cL])) [1,1,0,1,0,0,1,1,0,0,1,1,0,1,0] (rest.length+1) (Cn aB i1 EA DB s7 (FL.map aL.c) (mE.map lZ) (uX.map ah.c) (qS.map Node.c) (FM.map aF.c) (i2:Int)):=by
 intro rest
 induction rest with
 |nil=>
  intro i2 DB s7 FL mE uX qS FM hd2 h;rw[iF]at h;refine aX fun N2 xz ue=>?_
  exact((aY.ge aM.c hd2).a [.hl 5 [2,3,6,14,15,16] [0,1,3,4,5,6,7]]).ex hΓ xz (EB DB s7 FL mE uX qS FM h)
 |cons mF th ih2=>
  intro i2 DB s7 FL mE uX qS FM hd2 h;rw[iF]at h;refine aX fun N2 xz ue=>?_
  obtain⟨yX,h209,h⟩:=aD h;exact((((((aY.lt aM.c hd2).i (mw aM.c 5 (dc hd2))).o 5 5 .uq (cP aM.c (dc hd2))).a [.gp [[some (80,4),some (3,1),some (93,3),some (50,8),some (37,2),none],[none],[none,none,none,none,none]] (eT yX.1) (D.int .i64 yX.2)]).w (show kD prog 167 (eT (⟨FL,mE,uX,qS,FM,s7⟩:aI)) (eT yX.1) [D.int .i64 DB,D.agg (aM.c mF)] (D.int .i64 yX.2)from by simpa only[bP,bO,cA,br,bt]using vP h209)).a [.cn [2,3,6,14,15,16,21,22,23] [0,1,2,9,10,11,12,13]]).ct hΓ ue (iS hd2 hm2) (ih2 (i2+1) yX.2 yX.1.cL yX.1.rules yX.1.ends yX.1.bG yX.1.nodes yX.1.facts (dn hd2) h)
theorem BX(hΓ:Γ.nt=39){aB:ar}{r:aI}{k1:Int->ar->b9->bM->bI->aJ->Option aI}(gE:∀(pL:Int) (mC:ar) (fC:b9) (G7:bM) (rS:bI) (G8:aJ),k1 pL mC fC G7 rS G8=some r->Ax Γ N f99 (.q [[some (80,4),some (3,1),some (93,3),some (50,8),some (37,2),none]] (D.agg [D.fr 80 4 (r.rules.map aL.c),D.fr 3 1 (r.ends.map lZ),D.fr 93 3 (r.bG.map ah.c),D.fr 50 8 (r.nodes.map Node.c),D.fr 37 2 (r.facts.map aF.c),D.int .i64 r.cL])) [1,1,1] ⟨[(2,D.ptr 0 0),(3,D.ptr 1 0)],[Ob.box [D.nil,D.nil,D.nil,D.nil,D.nil,D.int .i64 0],Ob.box [D.acc 2,D.acc 3,D.acc 4,D.acc 5,D.acc 6,D.int .i64 pL],Ob.row .uq 80 4 (mC.map aL.c),Ob.row .uq 3 1 (fC.map lZ),Ob.row .uq 93 3 (G7.map ah.c),Ob.row .uq 50 8 (rS.map Node.c),Ob.row .uq 37 2 (G8.map aF.c)]⟩)(hm1:aB.length<=maxLen):∀(rest:ar) (i1:Nat) (j7:Int) (jS:ar) (cm:b9) (uV:bM) (nC:bI) (uW:aJ),aB.drop i1=rest->iE aB k1 rest i1 j7 jS cm uV nC uW=some r->Ar Γ N f99 (.q [[some (80,4),some (3,1),some (93,3),some (50,8),some (37,2),none]] (D.agg [D.fr 80 4 (r.rules.map aL.c),D.fr 3 1 (r.ends.map lZ),D.fr 93 3 (r.bG.map ah.c),D.fr 50 8 (r.nodes.map Node.c),D.fr 37 2 (r.facts.map aF.c),D.int .i64 r.cL])) [1,1,0,1,0] (rest.length+1) (s4 aB j7 (jS.map aL.c) (cm.map lZ) (uV.map ah.c) (nC.map Node.c) (uW.map aF.c) (i1:Int)):=by
 intro rest
 induction rest with
 |nil=>
  intro i1 j7 jS cm uV nC uW bD h;rw[iE]at h;refine aX fun N1 dH cW=>?_
  exact((aY.ge aL.c bD).a [.hl 0 [2,3] [0,1,2,3,4,5,6]]).ex hΓ dH (gE j7 jS cm uV nC uW h)
 |cons bR cM ih1=>
  intro i1 j7 jS cm uV nC uW bD h;rw[iE]at h;refine aX fun N1 dH cW=>?_
  obtain⟨EA,h180,h⟩:=aD h;obtain⟨h211,h⟩:=bh h;refine((((aY.lt aL.c bD).l (bg aL.c 4 (dc bD) rfl)).g (zX h180)).a [.cn [2,3,6,14,15,16,21,22,23] [0,1,8,2,3,4,5,6]]).lp hΓ (BY hΓ (fun Ih A6 Ko yV Kp sI Kq h=>?_) (bf h211) EA 0 0 j7 jS cm uV nC uW rfl h);obtain⟨h210,h⟩:=bh h;exact((aY.w (bz h210)).a [.cn [2,3,14,15,16] [0,1,2,8,4,5,6]]).cs hΓ cW (s4 aB A6 (Ko.map aL.c) ((yV.map lZ)++([[D.int .i64 Ih]])) (Kp.map ah.c) (sI.map Node.c) (Kq.map aF.c) (IntKind.i64.wrap ((i1:Int)+1))) (by first| (simp only[iS bD hm1,mA]<;>rfl)| (simp only[iS bD hm1,mA,aF.c,aa.c,aM.c,Action.c,aL.c,aW.c,fH.c,ah.c,Node.c,aI.c,fP.c]<;>rfl)) (ih1 (i1+1) A6 Ko (yV++([Ih])) Kp sI Kq (dn bD) h)
theorem Ak{aB:ar}{r:aI}(h:oU aB=some r):Good prog 99 [D.sl (aB.map aL.c)] (D.agg [D.fr 80 4 (r.rules.map aL.c),D.fr 3 1 (r.ends.map lZ),D.fr 93 3 (r.bG.map ah.c),D.fr 50 8 (r.nodes.map Node.c),D.fr 37 2 (r.facts.map aF.c),D.int .i64 r.cL]):=by
 refine gd func99 [[some (80,4),some (3,1),some (93,3),some (50,8),some (37,2),none]] 39 fun hr Γ hΓ=>?_
 rw[oU]at h;obtain⟨y1,h2,h⟩:=aD h;refine((aY.g (uC h2)).a [.pb 3 1 3 1,.pb 3 2 93 3,.pb 3 4 37 2,.cn [2,3,14,15,16] [0,3,1,4,5,2,6]]).lps hΓ (s4 aB 0 (y1.map aL.c) ([]:List aK) ([]:List aK) ([[D.int .i64 (-1),D.int .i64 0,D.str ([]),D.sl ([]),D.str ([]),D.str ([]),D.int .i64 (-1),D.sl ([])]]) ([]:List aK) 0) (by first| (simp only[mA]<;>rfl)| (simp only[mA,aF.c,aa.c,aM.c,Action.c,aL.c,aW.c,fH.c,ah.c,Node.c,aI.c,fP.c]<;>rfl)) (BX hΓ (fun pL mC fC G7 rS G8 h=>?_) (by have:=(kj.sl (hr _ (aE (i:=0) rfl))).1;simpa using this) aB 0 0 y1 ([]:b9) ([]:bM) ([(⟨-1,(⟨0,(⟨[],[]⟩:aF),[],[]⟩:aM), -1,[]⟩:Node)]) ([]:aJ) rfl h);cases h;exact aY.ret hΓ
def dN(aB:aF):Option aF:=((kL aB.args).bind fun y1=>(some (⟨aB.rel,y1⟩:aF)))
theorem fV{aB:aF}{r:aF}(h:dN aB=some r):Good prog 171 [D.agg (aF.c aB)] (D.agg [D.str r.rel,D.fr 9 1 (r.args.map tx)]):=by
 refine gd func171 [[none,some (9,1)]] 9 fun hr Γ hΓ=>?_
 rw[dN]at h;obtain⟨y1,h2,h⟩:=aD h;cases h;exact((aY.a [.n 5]).g (qM h2)).ret hΓ
def jr(aB:aJ)(k1:aJ->Option aJ):aJ->Nat->aJ->Option aJ
 | [],i1,bN=>(k1 bN)
 |bR::cM,i1,bN=>((dN bR).bind fun oc=>(bif room ((bN.map aF.c).length+([[D.str oc.rel,D.sl (oc.args.map tx)]]).length) 40 then(jr aB k1 cM (i1+1) (bN++([oc])))else none))
def cQ(aB:aJ):Option aJ:=(jr aB (fun(cK:aJ)=>(some cK)) aB 0 ([]:aJ))
def vq(aB:aJ)(W0:List aK)(fS:Int):St:=⟨[(3,D.acc 0),(6,D.sl (aB.map aF.c)),(7,D.int .i64 ((aB.map aF.c).length:Int)),(8,D.int .i64 fS)],[Ob.row .uq 37 2 W0]⟩
theorem BN(hΓ:Γ.nt=19){aB:aJ}{r:aJ}{k1:aJ->Option aJ}(gE:∀(cK:aJ),k1 cK=some r->Ax Γ N f103 (.q [[some (37,2)]] (D.fr 37 2 (r.map aF.c))) [1,1,1] ⟨[(3,D.acc 0)],[Ob.row .uq 37 2 (cK.map aF.c)]⟩)(hm1:aB.length<=maxLen):∀(rest:aJ) (i1:Nat) (bN:aJ),aB.drop i1=rest->jr aB k1 rest i1 bN=some r->Ar Γ N f103 (.q [[some (37,2)]] (D.fr 37 2 (r.map aF.c))) [1,1,0,1,0] (rest.length+1) (vq aB (bN.map aF.c) (i1:Int)):=by
 intro rest
 induction rest with
 |nil=>
  intro i1 bN bD h;rw[jr]at h;refine aX fun N1 dH cW=>?_
  exact((aY.ge aF.c bD).a [.hl 0 [3] [0]]).ex hΓ dH (gE bN h)
 |cons bR cM ih1=>
  intro i1 bN bD h;rw[jr]at h;refine aX fun N1 dH cW=>?_
  obtain⟨oc,h28,h⟩:=aD h;obtain⟨h29,h⟩:=bh h;exact(((((aY.lt aF.c bD).l (bg aF.c 2 (dc bD) rfl)).g (fV h28)).w (bz h29)).a [.cn [3,6,7,8] [4]]).cs hΓ cW (vq aB ((bN.map aF.c)++([[D.str oc.rel,D.sl (oc.args.map tx)]])) (IntKind.i64.wrap ((i1:Int)+1))) (by first| (simp only[iS bD hm1,mA]<;>rfl)| (simp only[iS bD hm1,mA,aF.c,aa.c,aM.c,Action.c,aL.c,aW.c,fH.c,ah.c,Node.c,aI.c,fP.c]<;>rfl)) (ih1 (i1+1) (bN++([oc])) (dn bD) h)
theorem eF{aB:aJ}{r:aJ}(h:cQ aB=some r):Good prog 103 [D.sl (aB.map aF.c)] (D.fr 37 2 (r.map aF.c)):=by
 refine gd func103 [[some (37,2)]] 19 fun hr Γ hΓ=>?_
 rw[cQ]at h;refine(aY.a [.H8 3,.cn [3,6,7,8] [0]]).lp hΓ (BN hΓ (fun cK h=>?_) (by have:=(kj.sl (hr _ (aE (i:=0) rfl))).1;simpa using this) aB 0 ([]:aJ) rfl h);have h:=aN h;subst h;exact aY.ret hΓ
def mP(aB:aF)(k1:Option Bool):aG->Nat->Option Bool
 | [],i1=>(k1)
 |bR::cM,i1=>((eb bR).bind fun sv=>(bif !(sv)then(some false)else(mP aB k1 cM (i1+1))))
def mG(aB:aF):Option Bool:=((nq aB.rel).bind fun y1=>(bif !(y1)then(some false)else(bif decide ((((aB.args.map tx).length:Int):Int)>3)then(some false)else(mP aB (some true) aB.args 0))))
def Fh(aB:aF)(fS:Int):St:=⟨[(16,D.sl (aB.args.map tx)),(17,D.int .i64 ((aB.args.map tx).length:Int)),(18,D.int .i64 fS)],[]⟩
theorem ER(hΓ:Γ.nt=26){aB:aF}{r:Bool}{k1:Option Bool}(gE:k1=some r->Ax Γ N f110 (.q [[none]] (D.bool r)) [1,1,1] ⟨[],[]⟩)(hm1:aB.args.length<=maxLen):∀(rest:aG) (i1:Nat),aB.args.drop i1=rest->mP aB k1 rest i1=some r->Ar Γ N f110 (.q [[none]] (D.bool r)) [1,1,0,1,0] (rest.length+1) (Fh aB (i1:Int)):=by
 intro rest
 induction rest with
 |nil=>
  intro i1 bD h;rw[mP]at h;refine aX fun N1 dH cW=>?_
  exact((aY.ge tx bD).a [.hl 0 [] []]).ex hΓ dH (gE h)
 |cons bR cM ih1=>
  intro i1 bD h;rw[mP]at h;refine aX fun N1 dH cW=>?_
  obtain⟨sv,h26,h⟩:=aD h;have kW:=(((aY.lt tx bD).l (bg tx 1 (dc bD) rfl)).g (eC h26))
  obtain⟨h27,h⟩|⟨h27,h⟩:=aO h
  ·have h:=aN h;subst h;exact(kW.b h27).ret hΓ
  ·exact((kW.b h27).a [.cn [16,17,18] []]).ct hΓ cW (iS bD hm1) (ih1 (i1+1) (dn bD) h)
theorem sR{aB:aF}{r:Bool}(h:mG aB=some r):Good prog 110 [D.agg (aF.c aB)] (D.bool r):=by
 refine gd func110 [[none]] 26 fun hr Γ hΓ=>?_
 rw[mG]at h;obtain⟨y1,h2,h⟩:=aD h;obtain⟨h3,h⟩|⟨h3,h⟩:=aO h
 ·have h:=aN h;subst h;exact(((aY.g (kH h2)).r 5 h3).T 1).ret hΓ
 ·have kx:=((aY.g (kH h2)).r 5 h3)
  obtain⟨h4,h⟩|⟨h4,h⟩:=aO h
  ·have h:=aN h;subst h;exact(kx.b h4).ret hΓ
  ·refine((kx.b h4).a [.cn [16,17,18] []]).lp hΓ (ER hΓ (fun h=>?_) (by have:=(kj.sl (kj.agg (hr _ (aE (i:=0) rfl)) (.sl (aB.args.map tx)) (by simp))).1;simpa using this) aB.args 0 rfl h);have h:=aN h;subst h;exact aY.ret hΓ
def gC(aB:aU)(k1:Option Bool):aU->Nat->Option Bool
 | [],i1=>(k1)
 |bR::cM,i1=>((jW bR.var).bind fun y50=>(bif !(y50)then(some false)else((eb bR.value).bind fun y53=>(bif !(y53)then(some false)else(bif decide (((i1:Int):Int)>0)then((iY aB (IntKind.i64.wrap ((i1:Int)-1))).bind fun x57=>(bif !(Op.bytesLess x57.var bR.var)then(some false)else(gC aB k1 cM (i1+1))))else(gC aB k1 cM (i1+1)))))))
def jE(aB:aU):Option Bool:=(bif decide ((((aB.map aa.c).length:Int):Int)>6)then(some false)else(gC aB (some true) aB 0))
def CY(aB:aU)(fS:Int):St:=⟨[(0,D.sl (aB.map aa.c)),(8,D.sl (aB.map aa.c)),(9,D.int .i64 ((aB.map aa.c).length:Int)),(10,D.int .i64 fS)],[]⟩
theorem BH(hΓ:Γ.nt=41){aB:aU}{r:Bool}{k1:Option Bool}(gE:k1=some r->Ax Γ N f188 (.q [[none]] (D.bool r)) [1,1,1] ⟨[],[]⟩)(hm1:aB.length<=maxLen):∀(rest:aU) (i1:Nat),aB.drop i1=rest->gC aB k1 rest i1=some r->Ar Γ N f188 (.q [[none]] (D.bool r)) [1,1,0,1,0] (rest.length+1) (CY aB (i1:Int)):=by
 intro rest
 induction rest with
 |nil=>
  intro i1 bD h;rw[gC]at h;refine aX fun N1 dH cW=>?_
  exact((aY.ge aa.c bD).a [.hl 0 [] []]).ex hΓ dH (gE h)
 |cons bR cM ih1=>
  intro i1 bD h;rw[gC]at h;refine aX fun N1 dH cW=>?_
  obtain⟨y50,h51,h⟩:=aD h;have tf:=((((aY.lt aa.c bD).l (bg aa.c 2 (dc bD) rfl)).a [.n 22]).g (l7 h51))
  obtain⟨h52,h⟩|⟨h52,h⟩:=aO h
  ·have h:=aN h;subst h;exact((((tf.r 5 h52).T 3).a [bF,bF,bF,bF,bF,bF,bF,bF,bF]).T 3).ret hΓ
  ·obtain⟨y53,h54,h⟩:=aD h;have xQ:=(((tf.r 3 h52).g (eC h54)).r 2 h52)
   obtain⟨h55,h⟩|⟨h55,h⟩:=aO h
   ·have h:=aN h;subst h;exact((((xQ.r 3 h55).a [bF,bF,bF,bF,bF,bF,bF,bF,bF]).r 2 h55).T 1).ret hΓ
   ·have Av:=(xQ.r 3 h55)
    obtain⟨h56,h⟩|⟨h56,h⟩:=aO h
    ·obtain⟨x57,h58,h⟩:=aD h;have GX:=((((((Av.r 4 h56).l (kG aa.c 2 h58 rfl)).r 5 h56).b h55).b h56).b h55)
     obtain⟨h59,h⟩|⟨h59,h⟩:=aO h
     ·have h:=aN h;subst h;exact(GX.b h59).ret hΓ
     ·exact((GX.b h59).a [.cn [0,8,9,10] []]).ct hΓ cW (iS bD hm1) (ih1 (i1+1) (dn bD) h)
    ·exact((((((Av.r 9 h56).b h55).b h56).b h55).F 1).a [.cn [0,8,9,10] []]).ct hΓ cW (iS bD hm1) (ih1 (i1+1) (dn bD) h)
theorem kE{aB:aU}{r:Bool}(h:jE aB=some r):Good prog 188 [D.sl (aB.map aa.c)] (D.bool r):=by
 refine gd func188 [[none]] 41 fun hr Γ hΓ=>?_
 rw[jE]at h;obtain⟨h1,h⟩|⟨h1,h⟩:=aO h
 ·have h:=aN h;subst h;exact(aY.b h1).ret hΓ
 ·refine((aY.b h1).a [.cn [0,8,9,10] []]).lp hΓ (BH hΓ (fun h=>?_) (by have:=(kj.sl (hr _ (aE (i:=0) rfl))).1;simpa using this) aB 0 rfl h);have h:=aN h;subst h;exact aY.ret hΓ
def gw(aB:aU):Option aU:=(bif room (([]:List aK).length+(aB.map aa.c).length) 32 then(some (([]:aU)++aB))else none)
theorem qL{aB:aU}{r:aU}(h:gw aB=some r):Good prog 173 [D.sl (aB.map aa.c)] (D.fr 137 2 (r.map aa.c)):=by
 refine gd func173 [[some (137,2)]] 5 fun hr Γ hΓ=>?_
 rw[gw]at h;obtain⟨h1,h⟩:=bh h;cases h;exact(((aY.w (bz h1)).w (show(∀r∈(aB.map aa.c),r.length=2)/\(true=true->D.oX (aB.map aa.c)=true)from⟨by first|simp| (intro r hr;obtain⟨x,_,rfl⟩:=cH.1 (bw (j9 hr));rfl),by simp[D.oX,D.flat]⟩)).a [.H8 2,.fl true]).rts hΓ (D.fr 137 2 (([]:List aK)++(aB.map aa.c))) (by first|rfl| (simp only[mA]<;>rfl)| (simp only[eT,mA]<;>rfl))
def jY(aB:aU)(aZ:Bytes)(k1:Option (Bytes×Bool)):aU->Nat->Option (Bytes×Bool)
 | [],i1=>(k1)
 |bR::cM,i1=>(bif (bR.var:Bytes)==aZ then(some (bR.value,true))else(jY aB aZ k1 cM (i1+1)))
def me(aB:aU)(aZ:Bytes):Option (Bytes×Bool):=((eb aZ).bind fun y1=>(bif y1 then(some (aZ,true))else((jW aZ).bind fun y4=>(bif !(y4)then(some ([],false))else(jY aB aZ (some ([],false)) aB 0)))))
def EX(aB:aU)(aZ:Bytes)(fS:Int):St:=⟨[(1,D.str aZ),(14,D.sl (aB.map aa.c)),(15,D.int .i64 ((aB.map aa.c).length:Int)),(16,D.int .i64 fS)],[]⟩
theorem Dg(hΓ:Γ.nt=27){aB:aU}{aZ:Bytes}{r:Bytes×Bool}{k1:Option (Bytes×Bool)}(gE:k1=some r->Ax Γ N f122 (.q [[none],[none]] (D.iQ [D.str r.1,D.bool r.2])) [1,1,1,1] ⟨[],[]⟩)(hm1:aB.length<=maxLen):∀(rest:aU) (i1:Nat),aB.drop i1=rest->jY aB aZ k1 rest i1=some r->Ar Γ N f122 (.q [[none],[none]] (D.iQ [D.str r.1,D.bool r.2])) [1,1,1,0,1,0] (rest.length+1) (EX aB aZ (i1:Int)):=by
 intro rest
 induction rest with
 |nil=>
  intro i1 bD h;rw[jY]at h;refine aX fun N1 dH cW=>?_
  exact((aY.ge aa.c bD).a [.hl 0 [] []]).ex hΓ dH (gE h)
 |cons bR cM ih1=>
  intro i1 bD h;rw[jY]at h;refine aX fun N1 dH cW=>?_
  have kW:=((aY.lt aa.c bD).l (bg aa.c 2 (dc bD) rfl))
  obtain⟨h19,h⟩|⟨h19,h⟩:=aO h
  ·cases h;exact(kW.b h19).ret hΓ
  ·exact((kW.b h19).a [.cn [1,14,15,16] []]).ct hΓ cW (iS bD hm1) (ih1 (i1+1) (dn bD) h)
theorem rz{aB:aU}{aZ:Bytes}{r:Bytes×Bool}(h:me aB aZ=some r):Good prog 122 [D.sl (aB.map aa.c),D.str aZ] (D.iQ [D.str r.1,D.bool r.2]):=by
 refine gd func122 [[none],[none]] 27 fun hr Γ hΓ=>?_
 rw[me]at h;obtain⟨y1,h2,h⟩:=aD h;obtain⟨h3,h⟩|⟨h3,h⟩:=aO h
 ·cases h;exact((aY.g (eC h2)).b h3).ret hΓ
 ·obtain⟨y4,h5,h⟩:=aD h;have kx:=(((aY.g (eC h2)).b h3).g (l7 h5))
  obtain⟨h6,h⟩|⟨h6,h⟩:=aO h
  ·cases h;exact(kx.b h6).ret hΓ
  ·refine((kx.b h6).a [.cn [1,14,15,16] []]).lp hΓ (Dg hΓ (fun h=>?_) (by have:=(kj.sl (hr _ (aE (i:=0) rfl))).1;simpa using this) aB 0 rfl h);cases h;exact aY.ret hΓ
def jC(aB:aU)(aZ:Bytes)(cY:Bytes)(k1:Bool->aU->Option (aU×Bool)):aU->Nat->Bool->aU->Option (aU×Bool)
 | [],i1,vH,bN=>(k1 vH bN)
 |bR::cM,i1,vH,bN=>(bif !(vH)then(bif !(Op.bytesLess bR.var aZ||(bR.var:Bytes)==aZ)then(bif room ((bN.map aa.c).length+([[D.str aZ,D.str cY]]).length) 32 then(bif room (((bN.map aa.c)++([[D.str aZ,D.str cY]])).length+([[D.str bR.var,D.str bR.value]]).length) 32 then(jC aB aZ cY k1 cM (i1+1) true ((bN++([(⟨aZ,cY⟩:aa)]))++([bR])))else none)else none)else(bif room ((bN.map aa.c).length+([[D.str bR.var,D.str bR.value]]).length) 32 then(jC aB aZ cY k1 cM (i1+1) vH (bN++([bR])))else none))else(bif room ((bN.map aa.c).length+([[D.str bR.var,D.str bR.value]]).length) 32 then(jC aB aZ cY k1 cM (i1+1) vH (bN++([bR])))else none))
def q8(aB:aU)(aZ:Bytes)(cY:Bytes):Option (aU×Bool):=((jE aB).bind fun y1=>(bif !(y1)then(some ([],false))else((jW aZ).bind fun y4=>(bif !(y4)then(some ([],false))else((eb cY).bind fun y7=>(bif !(y7)then(some ([],false))else((me aB aZ).bind fun FN=>(bif FN.2 then(bif !((FN.1:Bytes)==cY)then(some ([],false))else((gw aB).bind fun Mh=>(some (Mh,true))))else(bif decide ((((aB.map aa.c).length:Int):Int)>=6)then(some ([],false))else(jC aB aZ cY (fun(Mk:Bool) (cK:aU)=>(bif !(Mk)then(bif room ((cK.map aa.c).length+([[D.str aZ,D.str cY]]).length) 32 then(some (cK++([(⟨aZ,cY⟩:aa)]),true))else none)else(some (cK,true)))) aB 0 false ([]:aU)))))))))))
def rG(aB:aU)(aZ:Bytes)(cY:Bytes)(vH:Bool)(W1:List aK)(fS:Int):St:=⟨[(1,D.str aZ),(2,D.str cY),(10,D.acc 0),(11,D.bool vH),(42,D.sl (aB.map aa.c)),(43,D.int .i64 ((aB.map aa.c).length:Int)),(44,D.int .i64 fS)],[Ob.row .uq 137 2 W1]⟩
theorem EP(hΓ:Γ.nt=76){aB:aU}{aZ:Bytes}{cY:Bytes}{r:aU×Bool}{k1:Bool->aU->Option (aU×Bool)}(gE:∀(Mk:Bool) (cK:aU),k1 Mk cK=some r->Ax Γ N f123 (.q [[some (137,2)],[none]] (D.iQ [D.fr 137 2 (r.1.map aa.c),D.bool r.2])) [1,1,1,1,1,1,1] ⟨[(1,D.str aZ),(2,D.str cY),(10,D.acc 0),(11,D.bool Mk)],[Ob.row .uq 137 2 (cK.map aa.c)]⟩)(hm1:aB.length<=maxLen):∀(rest:aU) (i1:Nat) (vH:Bool) (bN:aU),aB.drop i1=rest->jC aB aZ cY k1 rest i1 vH bN=some r->Ar Γ N f123 (.q [[some (137,2)],[none]] (D.iQ [D.fr 137 2 (r.1.map aa.c),D.bool r.2])) [1,1,1,1,1,1,0,1,0] (rest.length+1) (rG aB aZ cY vH (bN.map aa.c) (i1:Int)):=by
 intro rest
 induction rest with
 |nil=>
  intro i1 vH bN bD h;rw[jC]at h;refine aX fun N1 dH cW=>?_
  exact((aY.ge aa.c bD).a [.hl 0 [1,2,10,11] [0]]).ex hΓ dH (gE vH bN h)
 |cons bR cM ih1=>
  intro i1 vH bN bD h;rw[jC]at h;refine aX fun N1 dH cW=>?_
  have kx:=((aY.lt aa.c bD).l (bg aa.c 2 (dc bD) rfl))
  obtain⟨h58,h⟩|⟨h58,h⟩:=aO h
  ·have lJ:=(kx.r 5 h58)
   obtain⟨h59,h⟩|⟨h59,h⟩:=aO h
   ·obtain⟨h60,h⟩:=bh h;obtain⟨h61,h⟩:=bh h;exact((((lJ.b h59).w (bz h60)).w (bz h61)).a [.cn [1,2,10,11,42,43,44] [5]]).cs hΓ cW (rG aB aZ cY true (((bN.map aa.c)++([[D.str aZ,D.str cY]]))++([[D.str bR.var,D.str bR.value]])) (IntKind.i64.wrap ((i1:Int)+1))) (by first| (simp only[iS bD hm1,mA]<;>rfl)| (simp only[iS bD hm1,mA,aF.c,aa.c,aM.c,Action.c,aL.c,aW.c,fH.c,ah.c,Node.c,aI.c,fP.c]<;>rfl)) (ih1 (i1+1) true ((bN++([(⟨aZ,cY⟩:aa)]))++([bR])) (dn bD) h)
   ·obtain⟨h62,h⟩:=bh h;exact(((lJ.b h59).w (bz h62)).a [.cn [1,2,10,11,42,43,44] [3]]).cs hΓ cW (rG aB aZ cY vH ((bN.map aa.c)++([[D.str bR.var,D.str bR.value]])) (IntKind.i64.wrap ((i1:Int)+1))) (by first| (simp only[iS bD hm1,mA]<;>rfl)| (simp only[iS bD hm1,mA,aF.c,aa.c,aM.c,Action.c,aL.c,aW.c,fH.c,ah.c,Node.c,aI.c,fP.c]<;>rfl)) (ih1 (i1+1) vH (bN++([bR])) (dn bD) h)
  ·obtain⟨h63,h⟩:=bh h;exact((((kx.r 5 h58).F 1).w (bz h63)).a [.cn [1,2,10,11,42,43,44] [3]]).cs hΓ cW (rG aB aZ cY vH ((bN.map aa.c)++([[D.str bR.var,D.str bR.value]])) (IntKind.i64.wrap ((i1:Int)+1))) (by first| (simp only[iS bD hm1,mA]<;>rfl)| (simp only[iS bD hm1,mA,aF.c,aa.c,aM.c,Action.c,aL.c,aW.c,fH.c,ah.c,Node.c,aI.c,fP.c]<;>rfl)) (ih1 (i1+1) vH (bN++([bR])) (dn bD) h)
theorem Da{aB:aU}{aZ:Bytes}{cY:Bytes}{r:aU×Bool}(h:q8 aB aZ cY=some r):Good prog 123 [D.sl (aB.map aa.c),D.str aZ,D.str cY] (D.iQ [D.fr 137 2 (r.1.map aa.c),D.bool r.2]):=by
 refine gd func123 [[some (137,2)],[none]] 76 fun hr Γ hΓ=>?_
 rw[q8]at h;obtain⟨y1,h2,h⟩:=aD h;obtain⟨h3,h⟩|⟨h3,h⟩:=aO h
 ·cases h;exact(((aY.g (kE h2)).r 4 h3).T 5).ret hΓ
 ·obtain⟨y4,h5,h⟩:=aD h;have tf:=((((aY.g (kE h2)).r 2 h3).g (l7 h5)).r 2 h3)
  obtain⟨h6,h⟩|⟨h6,h⟩:=aO h
  ·cases h;exact((tf.r 4 h6).T 1).ret hΓ
  ·obtain⟨y7,h8,h⟩:=aD h;have xQ:=(((tf.r 2 h6).g (eC h8)).r 2 h6)
   obtain⟨h9,h⟩|⟨h9,h⟩:=aO h
   ·cases h;exact(xQ.b h9).ret hΓ
   ·obtain⟨FN,h11,h⟩:=aD h;have Av:=((xQ.b h9).g (rz h11))
    obtain⟨h12,h⟩|⟨h12,h⟩:=aO h
    ·obtain⟨h13,h⟩|⟨h13,h⟩:=aO h
     ·cases h;exact((Av.b h12).b h13).ret hΓ
     ·obtain⟨Mh,h15,h⟩:=aD h;cases h;exact(((Av.b h12).b h13).g (qL h15)).ret hΓ
    ·obtain⟨h16,h⟩|⟨h16,h⟩:=aO h
     ·cases h;exact((Av.b h12).b h16).ret hΓ
     ·refine(((Av.b h12).b h16).a [.H8 10,.cn [1,2,10,11,42,43,44] [0]]).lp hΓ (EP hΓ (fun Mk cK h=>?_) (by have:=(kj.sl (hr _ (aE (i:=0) rfl))).1;simpa using this) aB 0 false ([]:aU) rfl h);obtain⟨h64,h⟩|⟨h64,h⟩:=aO h
      ·obtain⟨h65,h⟩:=bh h;cases h;exact((aY.b h64).w (bz h65)).rts hΓ (D.iQ [D.fr 137 2 ((cK.map aa.c)++([[D.str aZ,D.str cY]])),D.bool true]) (by first|rfl| (simp only[mA]<;>rfl)| (simp only[eT,mA]<;>rfl))
      ·cases h;exact(aY.b h64).ret hΓ
def iB(aB:aF)(aZ:aF)(k1:aU->Option (aU×Bool)):aG->Nat->aU->Option (aU×Bool)
 | [],i1,bY=>(k1 bY)
 |bR::cM,i1,bY=>((eb bR).bind fun y80=>(bif y80 then((iY aZ.args (i1:Int)).bind fun x83=>(bif !((bR:Bytes)==x83)then(some ([],false))else(iB aB aZ k1 cM (i1+1) bY)))else((iY aZ.args (i1:Int)).bind fun x86=>((q8 bY bR x86).bind fun ZP=>(bif !(ZP.2)then(some ([],false))else(iB aB aZ k1 cM (i1+1) ZP.1))))))
def gr(aB:aF)(aZ:aF)(cY:aU):Option (aU×Bool):=((gm aB).bind fun y1=>(bif !(y1)then(some ([],false))else((mG aZ).bind fun y4=>(bif !(y4)then(some ([],false))else((jE cY).bind fun y7=>(bif !(y7)then(some ([],false))else(bif !((aB.rel:Bytes)==aZ.rel)then(some ([],false))else(bif (((aB.args.map tx).length:Int):Int) != ((aZ.args.map tx).length:Int)then(some ([],false))else((gw cY).bind fun Qp=>(iB aB aZ (fun(cK:aU)=>(some (cK,true))) aB.args 0 Qp))))))))))
def Ca(aB:aF)(aZ:aF)(W0:List aK)(fS:Int):St:=⟨[(4,D.ptr 0 0),(8,D.acc 1),(45,D.sl (aB.args.map tx)),(46,D.int .i64 ((aB.args.map tx).length:Int)),(47,D.int .i64 fS)],[Ob.box (aF.c aZ),Ob.row .uq 137 2 W0]⟩
theorem BJ(hΓ:Γ.nt=77){aB:aF}{aZ:aF}{r:aU×Bool}{k1:aU->Option (aU×Bool)}(gE:∀(cK:aU),k1 cK=some r->Ax Γ N f184 (.q [[some (137,2)],[none]] (D.iQ [D.fr 137 2 (r.1.map aa.c),D.bool r.2])) [1,1,1,1] ⟨[(8,D.acc 0)],[Ob.row .uq 137 2 (cK.map aa.c)]⟩)(hm1:aB.args.length<=maxLen):∀(rest:aG) (i1:Nat) (bY:aU),aB.args.drop i1=rest->iB aB aZ k1 rest i1 bY=some r->Ar Γ N f184 (.q [[some (137,2)],[none]] (D.iQ [D.fr 137 2 (r.1.map aa.c),D.bool r.2])) [1,1,1,0,1,0] (rest.length+1) (Ca aB aZ (bY.map aa.c) (i1:Int)):=by
 intro rest
 induction rest with
 |nil=>
  intro i1 bY bD h;rw[iB]at h;refine aX fun N1 dH cW=>?_
  exact((aY.ge tx bD).a [.hl 0 [8] [1]]).ex hΓ dH (gE bY h)
 |cons bR cM ih1=>
  intro i1 bY bD h;rw[iB]at h;refine aX fun N1 dH cW=>?_
  obtain⟨y80,h81,h⟩:=aD h;have lJ:=(((aY.lt tx bD).l (bg tx 1 (dc bD) rfl)).g (eC h81))
  obtain⟨h82,h⟩|⟨h82,h⟩:=aO h
  ·obtain⟨x83,h84,h⟩:=aD h;have tf:=((lJ.b h82).l (kG tx 1 h84 rfl))
   obtain⟨h85,h⟩|⟨h85,h⟩:=aO h
   ·cases h;exact(tf.b h85).ret hΓ
   ·exact((tf.b h85).a [.cn [4,8,45,46,47] [0,1]]).ct hΓ cW (iS bD hm1) (ih1 (i1+1) bY (dn bD) h)
  ·obtain⟨x86,h87,h⟩:=aD h;obtain⟨ZP,h89,h⟩:=aD h;have xQ:=(((lJ.b h82).l (kG tx 1 h87 rfl)).g (Da h89))
   obtain⟨h90,h⟩|⟨h90,h⟩:=aO h
   ·cases h;exact(xQ.b h90).ret hΓ
   ·exact((xQ.b h90).a [.cn [4,8,45,46,47] [0,2]]).ct hΓ cW (iS bD hm1) (ih1 (i1+1) ZP.1 (dn bD) h)
theorem mr{aB:aF}{aZ:aF}{cY:aU}{r:aU×Bool}(h:gr aB aZ cY=some r):Good prog 184 [D.agg (aF.c aB),D.agg (aF.c aZ),D.sl (cY.map aa.c)] (D.iQ [D.fr 137 2 (r.1.map aa.c),D.bool r.2]):=by
 refine gd func184 [[some (137,2)],[none]] 77 fun hr Γ hΓ=>?_
 rw[gr]at h;obtain⟨y1,h2,h⟩:=aD h;obtain⟨h3,h⟩|⟨h3,h⟩:=aO h
 ·cases h;exact(((aY.g (iN h2)).r 4 h3).T 19).ret hΓ
 ·obtain⟨y4,h5,h⟩:=aD h;have Av:=((((aY.g (iN h2)).r 2 h3).g (sR h5)).r 2 h3)
  obtain⟨h6,h⟩|⟨h6,h⟩:=aO h
  ·cases h;exact((Av.r 4 h6).T 15).ret hΓ
  ·obtain⟨y7,h8,h⟩:=aD h;have GX:=(((Av.r 2 h6).g (kE h8)).r 2 h6)
   obtain⟨h9,h⟩|⟨h9,h⟩:=aO h
   ·cases h;exact((GX.r 6 h9).T 9).ret hΓ
   ·have JW:=(GX.r 6 h9)
    obtain⟨h10,h⟩|⟨h10,h⟩:=aO h
    ·cases h;exact((JW.r 8 h10).T 1).ret hΓ
    ·have F9:=(JW.r 8 h10)
     obtain⟨h11,h⟩|⟨h11,h⟩:=aO h
     ·cases h;exact(F9.b h11).ret hΓ
     ·obtain⟨Qp,h13,h⟩:=aD h;refine(((F9.b h11).g (qL h13)).a [.cn [4,8,45,46,47] [1,2]]).lp hΓ (BJ hΓ (fun cK h=>?_) (by have:=(kj.sl (kj.agg (hr _ (aE (i:=0) rfl)) (.sl (aB.args.map tx)) (by simp))).1;simpa using this) aB.args 0 Qp rfl h);cases h;exact aY.ret hΓ
def fJ(aB:aF)(aZ:aU)(cY:aJ)(k1:aJ->Option aJ):aJ->Nat->aJ->Option aJ
 | [],i1,bY=>(k1 bY)
 |bR::cM,i1,bY=>((gr aB bR aZ).bind fun UQ=>(bif UQ.2 then((dN bR).bind fun Jm=>(bif room ((bY.map aF.c).length+([[D.str Jm.rel,D.sl (Jm.args.map tx)]]).length) 40 then(fJ aB aZ cY k1 cM (i1+1) (bY++([Jm])))else none))else(fJ aB aZ cY k1 cM (i1+1) bY)))
def gO(aB:aF)(aZ:aU)(cY:aJ):Option aJ:=(fJ aB aZ cY (fun(cK:aJ)=>(some cK)) cY 0 ([]:aJ))
def tA(aB:aF)(aZ:aU)(cY:aJ)(W0:List aK)(fS:Int):St:=⟨[(1,D.sl (aZ.map aa.c)),(3,D.ptr 0 0),(7,D.acc 1),(12,D.sl (cY.map aF.c)),(13,D.int .i64 ((cY.map aF.c).length:Int)),(14,D.int .i64 fS)],[Ob.box (aF.c aB),Ob.row .uq 37 2 W0]⟩
theorem yL(hΓ:Γ.nt=33){aB:aF}{aZ:aU}{cY:aJ}{r:aJ}{k1:aJ->Option aJ}(gE:∀(cK:aJ),k1 cK=some r->Ax Γ N f168 (.q [[some (37,2)]] (D.fr 37 2 (r.map aF.c))) [1,1,1] ⟨[(7,D.acc 0)],[Ob.row .uq 37 2 (cK.map aF.c)]⟩)(hm1:cY.length<=maxLen):∀(rest:aJ) (i1:Nat) (bY:aJ),cY.drop i1=rest->fJ aB aZ cY k1 rest i1 bY=some r->Ar Γ N f168 (.q [[some (37,2)]] (D.fr 37 2 (r.map aF.c))) [1,1,0,1,0] (rest.length+1) (tA aB aZ cY (bY.map aF.c) (i1:Int)):=by
 intro rest
 induction rest with
 |nil=>
  intro i1 bY bD h;rw[fJ]at h;refine aX fun N1 dH cW=>?_
  exact((aY.ge aF.c bD).a [.hl 0 [7] [1]]).ex hΓ dH (gE bY h)
 |cons bR cM ih1=>
  intro i1 bY bD h;rw[fJ]at h;refine aX fun N1 dH cW=>?_
  obtain⟨UQ,h43,h⟩:=aD h;have kW:=(((aY.lt aF.c bD).l (bg aF.c 2 (dc bD) rfl)).g (mr h43))
  obtain⟨h44,h⟩|⟨h44,h⟩:=aO h
  ·obtain⟨Jm,h46,h⟩:=aD h;obtain⟨h47,h⟩:=bh h;exact((((kW.b h44).g (fV h46)).w (bz h47)).a [.cn [1,3,7,12,13,14] [0,6]]).cs hΓ cW (tA aB aZ cY ((bY.map aF.c)++([[D.str Jm.rel,D.sl (Jm.args.map tx)]])) (IntKind.i64.wrap ((i1:Int)+1))) (by first| (simp only[iS bD hm1,mA]<;>rfl)| (simp only[iS bD hm1,mA,aF.c,aa.c,aM.c,Action.c,aL.c,aW.c,fH.c,ah.c,Node.c,aI.c,fP.c]<;>rfl)) (ih1 (i1+1) (bY++([Jm])) (dn bD) h)
  ·exact((kW.b h44).a [.cn [1,3,7,12,13,14] [0,1]]).ct hΓ cW (iS bD hm1) (ih1 (i1+1) bY (dn bD) h)
theorem kC{aB:aF}{aZ:aU}{cY:aJ}{r:aJ}(h:gO aB aZ cY=some r):Good prog 168 [D.agg (aF.c aB),D.sl (aZ.map aa.c),D.sl (cY.map aF.c)] (D.fr 37 2 (r.map aF.c)):=by
 refine gd func168 [[some (37,2)]] 33 fun hr Γ hΓ=>?_
 rw[gO]at h;refine(aY.a [.H8 7,.cn [1,3,7,12,13,14] [0,1]]).lp hΓ (yL hΓ (fun cK h=>?_) (by have:=(kj.sl (hr _ (aE (i:=2) rfl))).1;simpa using this) cY 0 ([]:aJ) rfl h);have h:=aN h;subst h;exact aY.ret hΓ
def kK(aB:aI)(k1:b9->Option aq):Nat->Int->b9->Option aq
 |0,_,_=>none
 |n1+1,xV,bY=>(bif room ((bY.map lZ).length+([[D.int .i64 xV]]).length) 8 then((iY aB.nodes xV).bind fun x19=>(bif decide ((x19.parent:Int)<1)then(k1 (bY++([xV])))else(bif decide ((x19.parent:Int)>=xV)then(k1 (bY++([xV])))else(kK aB k1 n1 x19.parent (bY++([xV]))))))else none)
def jF(aB:aI)(kw:b9)(k2:aq->Option aq):Nat->Int->aq->Option aq
 |0,_,_=>none
 |n2+1,HC,Ic=>(bif decide ((HC:Int)>=0)then((iY kw HC).bind fun x72=>((iY aB.nodes x72).bind fun x74=>((eU x74.cond).bind fun Qg=>(bif room ((Ic.map aM.c).length+([[D.int .i64 Qg.kind,D.str Qg.pat.rel,D.sl (Qg.pat.args.map tx),D.str Qg.left,D.str Qg.right]]).length) 80 then(jF aB kw k2 n2 (IntKind.i64.wrap (HC-1)) (Ic++([Qg])))else none))))else(k2 Ic))
def sB(aB:aI)(aZ:Int):Option aq:=(bif decide ((aZ:Int)<1)then(some ([]))else(bif decide ((aZ:Int)>=((aB.nodes.map Node.c).length:Int))then(some ([]))else(kK aB (fun(kw:b9)=>(jF aB kw (fun(H9:aq)=>(some H9)) fuel (IntKind.i64.wrap (((kw.map lZ).length:Int)-1)) ([]:aq))) fuel aZ ([]:b9))))
def yp(aB:aI)(xV:Int)(W1:List aK):St:=⟨[(1,D.int .i64 xV),(2,D.ptr 0 0),(5,D.acc 1)],[Ob.box (aI.c aB),Ob.row .uq 3 1 W1]⟩
theorem EV(hΓ:Γ.nt=57){aB:aI}{r:aq}{k1:b9->Option aq}(gE:∀(kw:b9),k1 kw=some r->Ax Γ N f17 (.q [[some (47,5)]] (D.fr 47 5 (r.map aM.c))) [1,1,1,1] ⟨[(2,D.ptr 0 0),(5,D.acc 1)],[Ob.box (aI.c aB),Ob.row .uq 3 1 (kw.map lZ)]⟩):∀(n1:Nat) (xV:Int) (bY:b9),kK aB k1 n1 xV bY=some r->Ar Γ N f17 (.q [[some (47,5)]] (D.fr 47 5 (r.map aM.c))) [1,1,1,0,0] n1 (yp aB xV (bY.map lZ)):=by
 intro n
 induction n with
 |zero=>intro xV bY h;simp[kK]at h
 |succ n1 ih1=>
  intro xV bY h;rw[kK]at h;refine aX fun N1 dH cW=>?_
  obtain⟨h18,h⟩:=bh h;obtain⟨x19,h20,h⟩:=aD h;have kx:=((aY.w (bz h18)).l (kG Node.c 8 h20 rfl))
  obtain⟨h21,h⟩|⟨h21,h⟩:=aO h
  ·exact(((kx.r 4 h21).T 1).a [.hl 0 [2,5] [0,3]]).exs hΓ dH ⟨[(2,D.ptr 0 0),(5,D.acc 1)],[Ob.box (aI.c aB),Ob.row .uq 3 1 ((bY.map lZ)++([[D.int .i64 xV]]))]⟩ (by first| (simp only[mA]<;>rfl)| (simp only[mA,aF.c,aa.c,aM.c,Action.c,aL.c,aW.c,fH.c,ah.c,Node.c,aI.c,fP.c]<;>rfl)) (gE (bY++([xV])) h)
  ·have lJ:=(kx.r 4 h21)
   obtain⟨h22,h⟩|⟨h22,h⟩:=aO h
   ·exact((lJ.b h22).a [.hl 0 [2,5] [0,3]]).exs hΓ dH ⟨[(2,D.ptr 0 0),(5,D.acc 1)],[Ob.box (aI.c aB),Ob.row .uq 3 1 ((bY.map lZ)++([[D.int .i64 xV]]))]⟩ (by first| (simp only[mA]<;>rfl)| (simp only[mA,aF.c,aa.c,aM.c,Action.c,aL.c,aW.c,fH.c,ah.c,Node.c,aI.c,fP.c]<;>rfl)) (gE (bY++([xV])) h)
   ·exact((lJ.b h22).a [.cn [1,2,5] [0,3]]).cs hΓ cW (yp aB x19.parent ((bY.map lZ)++([[D.int .i64 xV]]))) (by first| (simp only[mA]<;>rfl)| (simp only[mA,aF.c,aa.c,aM.c,Action.c,aL.c,aW.c,fH.c,ah.c,Node.c,aI.c,fP.c]<;>rfl)) (ih1 x19.parent (bY++([xV])) h)
def yq(aB:aI)(kw:b9)(HC:Int)(W1:List aK):St:=⟨[(2,D.ptr 0 0),(5,D.acc 1),(7,D.acc 2),(8,D.int .i64 HC)],[Ob.box (aI.c aB),Ob.row .uq 3 1 (kw.map lZ),Ob.row .uq 47 5 W1]⟩
theorem EW(hΓ:Γ.nt=57){aB:aI}{kw:b9}{r:aq}{k2:aq->Option aq}(EB:∀(H9:aq),k2 H9=some r->Ax Γ N f17 (.q [[some (47,5)]] (D.fr 47 5 (r.map aM.c))) [1,1,1,1,1,1] ⟨[(7,D.acc 0)],[Ob.row .uq 47 5 (H9.map aM.c)]⟩):∀(n2:Nat) (HC:Int) (Ic:aq),jF aB kw k2 n2 HC Ic=some r->Ar Γ N f17 (.q [[some (47,5)]] (D.fr 47 5 (r.map aM.c))) [1,1,1,1,1,0,1,0] n2 (yq aB kw HC (Ic.map aM.c)):=by
 intro n
 induction n with
 |zero=>intro HC Ic h;simp[jF]at h
 |succ n2 ih2=>
  intro HC Ic h;rw[jF]at h;refine aX fun N2 xz ue=>?_
  obtain⟨h65,h⟩|⟨h65,h⟩:=aO h
  ·obtain⟨x72,h73,h⟩:=aD h;obtain⟨x74,h75,h⟩:=aD h;obtain⟨Qg,h77,h⟩:=aD h;obtain⟨h78,h⟩:=bh h;exact((((((((aY.b h65).a [.n2 [0,1,2,3,4,5,6,7,8,9,10,11,12,13] [0,1,2,3,4,5,6,7,8,9,10,11,12,13] 11 12 [0] [3]]).i (iV lZ 1 h73)).o 1 1 .uq (cP lZ (fQ h73))).l (kG Node.c 8 h75 rfl)).g (jI h77)).w (bz h78)).a [.cn [2,5,7,8] [0,1,5]]).cs hΓ ue (yq aB kw (IntKind.i64.wrap (HC-1)) ((Ic.map aM.c)++([[D.int .i64 Qg.kind,D.str Qg.pat.rel,D.sl (Qg.pat.args.map tx),D.str Qg.left,D.str Qg.right]]))) (by first| (simp only[mA]<;>rfl)| (simp only[mA,aF.c,aa.c,aM.c,Action.c,aL.c,aW.c,fH.c,ah.c,Node.c,aI.c,fP.c]<;>rfl)) (ih2 (IntKind.i64.wrap (HC-1)) (Ic++([Qg])) h)
  ·exact((aY.b h65).a [.hl 0 [7] [2]]).ex hΓ xz (EB Ic h)
theorem sS{aB:aI}{aZ:Int}{r:aq}(h:sB aB aZ=some r):Good prog 17 [D.agg (aI.c aB),D.int .i64 aZ] (D.fr 47 5 (r.map aM.c)):=by
 refine gd func17 [[some (47,5)]] 57 fun hr Γ hΓ=>?_
 rw[sB]at h;obtain⟨h1,h⟩|⟨h1,h⟩:=aO h
 ·cases h;exact((aY.r 6 h1).T 1).ret hΓ
 ·have tf:=(aY.r 6 h1)
  obtain⟨h2,h⟩|⟨h2,h⟩:=aO h
  ·cases h;exact(tf.b h2).ret hΓ
  ·refine((tf.b h2).a [.H8 5,.cn [1,2,5] [0,1]]).lp hΓ (EV hΓ (fun kw h=>?_) fuel aZ ([]:b9) h);refine(aY.a [.H8 7,.cn [2,5,7,8] [0,1,2]]).lp hΓ (EW hΓ (fun H9 h=>?_) fuel (IntKind.i64.wrap (((kw.map lZ).length:Int)-1)) ([]:aq) h);have h:=aN h;subst h;exact aY.ret hΓ
def sA(aB:aM):Option Bool:=((nk aB).bind fun y1=>(bif y1 then(some (decide ((aB.kind:Int)>=3)))else(some false)))
theorem wv{aB:aM}{r:Bool}(h:sA aB=some r):Good prog 259 [D.agg (aM.c aB)] (D.bool r):=by
 refine gd func259 [[none]] 10 fun hr Γ hΓ=>?_
 rw[sA]at h;obtain⟨y1,h2,h⟩:=aD h;obtain⟨h3,h⟩|⟨h3,h⟩:=aO h
 ·cases h;exact((aY.g (mc h2)).r 4 h3).ret hΓ
 ·have h:=aN h;subst h;exact((aY.g (mc h2)).r 4 h3).ret hΓ
def jz(aB:Bytes):Option (Int×Bool):=(bif decide (((aB.length:Int):Int)<1)then(some (0,false))else(bif decide (((aB.length:Int):Int)>4)then(some (0,false))else((xJ aB).bind fun y3=>(bif y3.2 then(some (0,false))else(bif decide ((y3.1:Int)<0)then(some (0,false))else(bif decide ((y3.1:Int)>9999)then(some (0,false))else((jD y3.1).bind fun y8=>(bif !((y8:Bytes)==aB)then(some (0,false))else(some (y3.1,true))))))))))
theorem nQ{aB:Bytes}{r:Int×Bool}(h:jz aB=some r):Good prog 230 [D.str aB] (D.iQ [D.int .i64 r.1,D.bool r.2]):=by
 refine gd func230 [[none],[none]] 36 fun hr Γ hΓ=>?_
 rw[jz]at h;obtain⟨h1,h⟩|⟨h1,h⟩:=aO h
 ·cases h;exact((aY.r 4 h1).T 1).ret hΓ
 ·have rj:=(aY.r 4 h1)
  obtain⟨h2,h⟩|⟨h2,h⟩:=aO h
  ·cases h;exact(rj.b h2).ret hΓ
  ·obtain⟨y3,h4,h⟩:=aD h;have kW:=((rj.b h2).g (D7 h4))
   obtain⟨h5,h⟩|⟨h5,h⟩:=aO h
   ·cases h;exact((kW.r 3 h5).T 9).ret hΓ
   ·have kx:=(kW.r 3 h5)
    obtain⟨h6,h⟩|⟨h6,h⟩:=aO h
    ·cases h;exact((kx.r 3 h6).T 6).ret hΓ
    ·have lJ:=(kx.r 3 h6)
     obtain⟨h7,h⟩|⟨h7,h⟩:=aO h
     ·cases h;exact((lJ.r 5 h7).T 1).ret hΓ
     ·obtain⟨y8,h9,h⟩:=aD h;have tf:=(((lJ.r 2 h7).g (u9 h9)).r 3 h7)
      obtain⟨h10,h⟩|⟨h10,h⟩:=aO h
      ·cases h;exact(tf.b h10).ret hΓ
      ·cases h;exact(tf.b h10).ret hΓ
def oM(aB:aM)(aZ:aU):Option Bool:=((sA aB).bind fun y1=>(bif !(y1)then(some false)else((jE aZ).bind fun y4=>(bif !(y4)then(some false)else((me aZ aB.left).bind fun y7=>((me aZ aB.right).bind fun y9=>(bif !(y7.2)then(some false)else(bif !(y9.2)then(some false)else(bif (aB.kind:Int)==3 then(some ((y7.1:Bytes)==y9.1))else(bif (aB.kind:Int)==4 then(some (!((y7.1:Bytes)==y9.1)))else((jz y7.1).bind fun XF=>((jz y9.1).bind fun U7=>(bif XF.2 then(bif U7.2 then(some (decide ((XF.1:Int)<U7.1)))else(some false))else(some false))))))))))))))
theorem AZ{aB:aM}{aZ:aU}{r:Bool}(h:oM aB aZ=some r):Good prog 244 [D.agg (aM.c aB),D.sl (aZ.map aa.c)] (D.bool r):=by
 refine gd func244 [[none]] 70 fun hr Γ hΓ=>?_
 rw[oM]at h;obtain⟨y1,h2,h⟩:=aD h;obtain⟨h3,h⟩|⟨h3,h⟩:=aO h
 ·have h:=aN h;subst h;exact(((aY.g (wv h2)).r 4 h3).T 1).ret hΓ
 ·obtain⟨y4,h5,h⟩:=aD h;have rj:=((((aY.g (wv h2)).r 2 h3).g (kE h5)).r 2 h3)
  obtain⟨h6,h⟩|⟨h6,h⟩:=aO h
  ·have h:=aN h;subst h;exact(rj.b h6).ret hΓ
  ·obtain⟨y7,h8,h⟩:=aD h;obtain⟨y9,h10,h⟩:=aD h;have kW:=(((rj.b h6).g (rz h8)).g (rz h10))
   obtain⟨h11,h⟩|⟨h11,h⟩:=aO h
   ·have h:=aN h;subst h;exact((kW.r 3 h11).T 1).ret hΓ
   ·have kx:=(kW.r 3 h11)
    obtain⟨h12,h⟩|⟨h12,h⟩:=aO h
    ·have h:=aN h;subst h;exact(kx.b h12).ret hΓ
    ·obtain⟨h13,h⟩|⟨h13,h⟩:=aO h
     ·cases h;exact((kx.b h12).b h13).ret hΓ
     ·have lJ:=((kx.b h12).b h13)
      obtain⟨h14,h⟩|⟨h14,h⟩:=aO h
      ·cases h;exact(lJ.b h14).ret hΓ
      ·obtain⟨XF,h16,h⟩:=aD h;obtain⟨U7,h18,h⟩:=aD h;have tf:=(((lJ.b h14).g (nQ h16)).g (nQ h18))
       obtain⟨h19,h⟩|⟨h19,h⟩:=aO h
       ·have xQ:=(tf.r 2 h19)
        obtain⟨h20,h⟩|⟨h20,h⟩:=aO h
        ·cases h;exact(xQ.r 4 h20).ret hΓ
        ·have h:=aN h;subst h;exact(xQ.r 4 h20).ret hΓ
       ·have h:=aN h;subst h;exact((tf.r 2 h19).F 4).ret hΓ
def oL(aB:aM)(aZ:aU)(cY:aJ):Option Bool:=((nk aB).bind fun y1=>(bif !(y1)then(some false)else((jE aZ).bind fun y4=>(bif !(y4)then(some false)else(bif (aB.kind:Int)==1 then((gO aB.pat aZ cY).bind fun y8=>(some (decide ((((y8.map aF.c).length:Int):Int)>0))))else(bif (aB.kind:Int)==2 then((gO aB.pat aZ cY).bind fun Mr=>(some ((((Mr.map aF.c).length:Int):Int)==0)))else((oM aB aZ).bind fun su=>(some su))))))))
theorem AY{aB:aM}{aZ:aU}{cY:aJ}{r:Bool}(h:oL aB aZ cY=some r):Good prog 227 [D.agg (aM.c aB),D.sl (aZ.map aa.c),D.sl (cY.map aF.c)] (D.bool r):=by
 refine gd func227 [[none]] 38 fun hr Γ hΓ=>?_
 rw[oL]at h;obtain⟨y1,h2,h⟩:=aD h;obtain⟨h3,h⟩|⟨h3,h⟩:=aO h
 ·have h:=aN h;subst h;exact(((aY.g (mc h2)).r 4 h3).T 1).ret hΓ
 ·obtain⟨y4,h5,h⟩:=aD h;have rj:=((((aY.g (mc h2)).r 2 h3).g (kE h5)).r 2 h3)
  obtain⟨h6,h⟩|⟨h6,h⟩:=aO h
  ·have h:=aN h;subst h;exact(rj.b h6).ret hΓ
  ·obtain⟨h7,h⟩|⟨h7,h⟩:=aO h
   ·obtain⟨y8,h9,h⟩:=aD h;cases h;exact(((rj.b h6).b h7).g (kC h9)).ret hΓ
   ·have kW:=((rj.b h6).b h7)
    obtain⟨h10,h⟩|⟨h10,h⟩:=aO h
    ·obtain⟨Mr,h12,h⟩:=aD h;cases h;exact((kW.b h10).g (kC h12)).ret hΓ
    ·obtain⟨su,h14,h⟩:=aD h;have h:=aN h;subst h;exact((kW.b h10).g (AZ h14)).ret hΓ
def j0(aB:aq)(aZ:aJ)(i2:Nat)(bN:ay)(mF:aW)(i1:Nat)(bR:aM)(k3:ay->Option ay):aJ->Nat->ay->Option ay
 | [],i3,vf=>(k3 vf)
 |QZ::Mq,i3,vf=>((gr bR.pat QZ mF.bind).bind fun Jk=>(bif Jk.2 then((cQ mF.facts).bind fun Jl=>((dN QZ).bind fun FR=>(bif room ((Jl.map aF.c).length+([[D.str FR.rel,D.sl (FR.args.map tx)]]).length) 40 then(bif room ((vf.map aW.c).length+([[D.sl ((Jl.map aF.c)++([[D.str FR.rel,D.sl (FR.args.map tx)]])),D.sl (Jk.1.map aa.c)]]).length) 48 then(j0 aB aZ i2 bN mF i1 bR k3 Mq (i3+1) (vf++([(⟨Jl++([FR]),Jk.1⟩:aW)])))else none)else none)))else(j0 aB aZ i2 bN mF i1 bR k3 Mq (i3+1) vf)))
def ed(aB:aq)(aZ:aJ)(bN:ay)(i1:Nat)(bR:aM)(k2:ay->Option ay):ay->Nat->ay->Option ay
 | [],i2,n7=>(k2 n7)
 |mF::th,i2,n7=>(bif (bR.kind:Int) != 1 then((oL bR mF.bind aZ).bind fun XG=>(bif XG then(bif room ((n7.map aW.c).length+([[D.sl (mF.facts.map aF.c),D.sl (mF.bind.map aa.c)]]).length) 48 then(ed aB aZ bN i1 bR k2 th (i2+1) (n7++([mF])))else none)else(ed aB aZ bN i1 bR k2 th (i2+1) n7)))else(bif decide (aZ.length<=maxLen)then(j0 aB aZ i2 bN mF i1 bR (fun(QG:ay)=>(ed aB aZ bN i1 bR k2 th (i2+1) QG)) aZ 0 n7)else none))
def iz(aB:aq)(aZ:aJ)(k1:ay->Option ay):aq->Nat->ay->Option ay
 | [],i1,bN=>(k1 bN)
 |bR::cM,i1,bN=>(bif decide (bN.length<=maxLen)then(ed aB aZ bN i1 bR (fun(H9:ay)=>(iz aB aZ k1 cM (i1+1) H9)) bN 0 ([]:ay))else none)
def pX(aB:aq)(aZ:aJ):Option ay:=(iz aB aZ (fun(cK:ay)=>(some cK)) aB 0 ([(⟨[],[]⟩:aW)]))
def xB(aB:aq)(aZ:aJ)(W0:List aK)(fS:Int):St:=⟨[(1,D.sl (aZ.map aF.c)),(5,D.acc 0),(17,D.sl (aB.map aM.c)),(18,D.int .i64 ((aB.map aM.c).length:Int)),(19,D.int .i64 fS)],[Ob.row .uq 55 2 W0]⟩
def xC(aB:aq)(aZ:aJ)(bN:ay)(i1:Nat)(bR:aM)(W0:List aK)(a41:Nat)(fS:Int):St:=⟨[(1,D.sl (aZ.map aF.c)),(7,D.ptr 0 0),(8,D.acc 1),(17,D.sl (aB.map aM.c)),(18,D.int .i64 ((aB.map aM.c).length:Int)),(19,D.int .i64 (i1:Int)),(23,D.acc 2),(24,D.int .i64 ((bN.map aW.c).length:Int)),(25,D.int .i64 fS)],[Ob.box [D.int .i64 bR.kind,D.str bR.pat.rel,D.sl (bR.pat.args.map tx),D.str bR.left,D.str bR.right],Ob.row .uq 55 2 W0,Ob.row (.mv a41) 55 2 (bN.map aW.c)]⟩
def xD(aB:aq)(aZ:aJ)(i2:Nat)(bN:ay)(mF:aW)(i1:Nat)(bR:aM)(W0:List aK)(fS:Int):St:=⟨[(1,D.sl (aZ.map aF.c)),(7,D.ptr 0 0),(8,D.acc 1),(10,D.ptr 2 0),(17,D.sl (aB.map aM.c)),(18,D.int .i64 ((aB.map aM.c).length:Int)),(19,D.int .i64 (i1:Int)),(23,D.acc 3),(24,D.int .i64 ((bN.map aW.c).length:Int)),(25,D.int .i64 (i2:Int)),(41,D.sl (aZ.map aF.c)),(42,D.int .i64 ((aZ.map aF.c).length:Int)),(43,D.int .i64 fS)],[Ob.box [D.int .i64 bR.kind,D.str bR.pat.rel,D.sl (bR.pat.args.map tx),D.str bR.left,D.str bR.right],Ob.row .uq 55 2 W0,Ob.box [D.acc 4,D.acc 5],Ob.row (.mv (i2+1)) 55 2 (bN.map aW.c),Ob.tk (mF.facts.map aF.c),Ob.tk (mF.bind.map aa.c)]⟩
theorem Cr(hΓ:Γ.nt=74){aB:aq}{aZ:aJ}{i2:Nat}{bN:ay}{mF:aW}{i1:Nat}{bR:aM}{r:ay}{k3:ay->Option ay}(Xd:∀(QG:ay),k3 QG=some r->Ax Γ N f169 (.q [[some (55,2)]] (D.fr 55 2 (r.map aW.c))) [1,1,0,1,0,0,1,1,0,0,1,1,0,1,0,0,1,1,1] ⟨[(1,D.sl (aZ.map aF.c)),(7,D.ptr 0 0),(8,D.acc 1),(17,D.sl (aB.map aM.c)),(18,D.int .i64 ((aB.map aM.c).length:Int)),(19,D.int .i64 (i1:Int)),(23,D.acc 2),(24,D.int .i64 ((bN.map aW.c).length:Int)),(25,D.int .i64 (i2:Int))],[Ob.box [D.int .i64 bR.kind,D.str bR.pat.rel,D.sl (bR.pat.args.map tx),D.str bR.left,D.str bR.right],Ob.row .uq 55 2 (QG.map aW.c),Ob.row (.mv (i2+1)) 55 2 (bN.map aW.c)]⟩)(Ps:aZ.length<=maxLen):∀(rest:aJ) (i3:Nat) (vf:ay),aZ.drop i3=rest->j0 aB aZ i2 bN mF i1 bR k3 rest i3 vf=some r->Ar Γ N f169 (.q [[some (55,2)]] (D.fr 55 2 (r.map aW.c))) [1,1,0,1,0,0,1,1,0,0,1,1,0,1,0,0,1,1,0,0,1,1,1,0] (rest.length+1) (xD aB aZ i2 bN mF i1 bR (vf.map aW.c) (i3:Int)):=by
 intro rest
 induction rest with
 |nil=>
  intro i3 vf ya h;rw[j0]at h;refine aX fun N3 Rg Ml=>?_
  exact((aY.ge aF.c ya).a [.hl 8 [1,7,8,17,18,19,23,24,25] [0,1,3]]).ex hΓ Rg (Xd vf h)
 |cons QZ Mq ih3=>
  intro i3 vf ya h;rw[j0]at h;refine aX fun N3 Rg Ml=>?_
  obtain⟨Jk,h3513,h⟩:=aD h;have a19:=(((aY.lt aF.c ya).l (bg aF.c 2 (dc ya) rfl)).g (mr h3513))
  obtain⟨h3514,h⟩|⟨h3514,h⟩:=aO h
  ·obtain⟨Jl,h3521,h⟩:=aD h;obtain⟨FR,h3523,h⟩:=aD h;obtain⟨h3524,h⟩:=bh h;obtain⟨h3525,h⟩:=bh h;exact(((((((a19.b h3514).a [.n2 [0,1,2,3,4,5,8,6,7,9,10,11,12] [0,1,2,3,4,5,7,8,6,9,10,11,12] 7 11 [0,6] [7,8,9,10,11]]).g (eF h3521)).g (fV h3523)).w (bz h3524)).w (bz h3525)).a [.cn [1,7,8,10,17,18,19,23,24,25,41,42,43] [0,13,2,3,4,5]]).cs hΓ Ml (xD aB aZ i2 bN mF i1 bR ((vf.map aW.c)++([[D.sl ((Jl.map aF.c)++([[D.str FR.rel,D.sl (FR.args.map tx)]])),D.sl (Jk.1.map aa.c)]])) (IntKind.i64.wrap ((i3:Int)+1))) (by first| (simp only[iS ya Ps,mA]<;>rfl)| (simp only[iS ya Ps,mA,aF.c,aa.c,aM.c,Action.c,aL.c,aW.c,fH.c,ah.c,Node.c,aI.c,fP.c]<;>rfl)) (ih3 (i3+1) (vf++([(⟨Jl++([FR]),Jk.1⟩:aW)])) (dn ya) h)
  ·exact((a19.b h3514).a [.cn [1,7,8,10,17,18,19,23,24,25,41,42,43] [0,1,2,3,4,5]]).ct hΓ Ml (iS ya Ps) (ih3 (i3+1) vf (dn ya) h)
theorem Cq(hΓ:Γ.nt=74){aB:aq}{aZ:aJ}{bN:ay}{i1:Nat}{bR:aM}{r:ay}{k2:ay->Option ay}(EB:∀(H9:ay),k2 H9=some r->Ax Γ N f169 (.q [[some (55,2)]] (D.fr 55 2 (r.map aW.c))) [1,1,0,1,0,0,1,1,0,0,1,1,1] ⟨[(1,D.sl (aZ.map aF.c)),(8,D.acc 0),(17,D.sl (aB.map aM.c)),(18,D.int .i64 ((aB.map aM.c).length:Int)),(19,D.int .i64 (i1:Int))],[Ob.row .uq 55 2 (H9.map aW.c)]⟩)(hm2:bN.length<=maxLen):∀(rest:ay) (i2:Nat) (n7:ay),bN.drop i2=rest->ed aB aZ bN i1 bR k2 rest i2 n7=some r->Ar Γ N f169 (.q [[some (55,2)]] (D.fr 55 2 (r.map aW.c))) [1,1,0,1,0,0,1,1,0,0,1,1,0,1,0] (rest.length+1) (xC aB aZ bN i1 bR (n7.map aW.c) i2 (i2:Int)):=by
 intro rest
 induction rest with
 |nil=>
  intro i2 n7 hd2 h;rw[ed]at h;refine aX fun N2 xz ue=>?_
  exact((aY.ge aW.c hd2).a [.hl 5 [1,8,17,18,19] [1]]).ex hΓ xz (EB n7 h)
 |cons mF th ih2=>
  intro i2 n7 hd2 h;rw[ed]at h;refine aX fun N2 xz ue=>?_
  have a1A:=((((aY.lt aW.c hd2).i (mw aW.c 2 (dc hd2))).w (show i2=i2/\(bN.map aW.c)[i2]?=some [D.sl (mF.facts.map aF.c),D.sl (mF.bind.map aa.c)]/\L8 [D.sl (mF.facts.map aF.c),D.sl (mF.bind.map aa.c)]=true from⟨rfl,cP aW.c (dc hd2),rfl⟩)).a [.tk [D.sl (mF.facts.map aF.c),D.sl (mF.bind.map aa.c)]])
  obtain⟨h3426,h⟩|⟨h3426,h⟩:=aO h
  ·obtain⟨XG,h3428,h⟩:=aD h;have a1B:=((a1A.b h3426).g (AY h3428))
   obtain⟨h3429,h⟩|⟨h3429,h⟩:=aO h
   ·obtain⟨h3430,h⟩:=bh h;exact(((a1B.b h3429).w (bz h3430)).a [.cn [1,7,8,17,18,19,23,24,25] [0,7,2]]).cs hΓ ue (xC aB aZ bN i1 bR ((n7.map aW.c)++([[D.sl (mF.facts.map aF.c),D.sl (mF.bind.map aa.c)]])) (i2+1) (IntKind.i64.wrap ((i2:Int)+1))) (by first| (simp only[iS hd2 hm2,mA]<;>rfl)| (simp only[iS hd2 hm2,mA,aF.c,aa.c,aM.c,Action.c,aL.c,aW.c,fH.c,ah.c,Node.c,aI.c,fP.c]<;>rfl)) (ih2 (i2+1) (n7++([mF])) (dn hd2) h)
   ·exact((a1B.b h3429).a [.cn [1,7,8,17,18,19,23,24,25] [0,1,2]]).ct hΓ ue (iS hd2 hm2) (ih2 (i2+1) n7 (dn hd2) h)
  ·obtain⟨h3526,h⟩:=bh h;refine((a1A.b h3426).a [.cn [1,7,8,10,17,18,19,23,24,25,41,42,43] [0,1,5,2,3,4]]).lp hΓ (Cr hΓ (fun QG h=>?_) (bf h3526) aZ 0 n7 rfl h);exact(aY.a [.cn [1,7,8,17,18,19,23,24,25] [0,1,2]]).ct hΓ ue (iS hd2 hm2) (ih2 (i2+1) QG (dn hd2) h)
theorem Co(hΓ:Γ.nt=74){aB:aq}{aZ:aJ}{r:ay}{k1:ay->Option ay}(gE:∀(cK:ay),k1 cK=some r->Ax Γ N f169 (.q [[some (55,2)]] (D.fr 55 2 (r.map aW.c))) [1,1,1] ⟨[(5,D.acc 0)],[Ob.row .uq 55 2 (cK.map aW.c)]⟩)(hm1:aB.length<=maxLen):∀(rest:aq) (i1:Nat) (bN:ay),aB.drop i1=rest->iz aB aZ k1 rest i1 bN=some r->Ar Γ N f169 (.q [[some (55,2)]] (D.fr 55 2 (r.map aW.c))) [1,1,0,1,0] (rest.length+1) (xB aB aZ (bN.map aW.c) (i1:Int)):=by
 intro rest
 induction rest with
 |nil=>
  intro i1 bN bD h;rw[iz]at h;refine aX fun N1 dH cW=>?_
  exact((aY.ge aM.c bD).a [.hl 0 [5] [0]]).ex hΓ dH (gE bN h)
 |cons bR cM ih1=>
  intro i1 bN bD h;rw[iz]at h;refine aX fun N1 dH cW=>?_
  obtain⟨h3527,h⟩:=bh h;refine(((aY.lt aM.c bD).l (bg aM.c 5 (dc bD) rfl)).a [.H8 8,.mz 0,.cn [1,7,8,17,18,19,23,24,25] [1,2,0]]).lp hΓ (Cq hΓ (fun H9 h=>?_) (bf h3527) bN 0 ([]:ay) rfl h);exact(aY.a [.cn [1,5,17,18,19] [0]]).ct hΓ cW (iS bD hm1) (ih1 (i1+1) H9 (dn bD) h)
theorem BZ{aB:aq}{aZ:aJ}{r:ay}(h:pX aB aZ=some r):Good prog 169 [D.sl (aB.map aM.c),D.sl (aZ.map aF.c)] (D.fr 55 2 (r.map aW.c)):=by
 refine gd func169 [[some (55,2)]] 74 fun hr Γ hΓ=>?_
 rw[pX]at h;refine(aY.a [.cn [1,5,17,18,19] [0]]).lps hΓ (xB aB aZ ([[D.sl ([]),D.sl ([])]]) 0) (by first| (simp only[mA]<;>rfl)| (simp only[mA,aF.c,aa.c,aM.c,Action.c,aL.c,aW.c,fH.c,ah.c,Node.c,aI.c,fP.c]<;>rfl)) (Co hΓ (fun cK h=>?_) (by have:=(kj.sl (hr _ (aE (i:=0) rfl))).1;simpa using this) aB 0 ([(⟨[],[]⟩:aW)]) rfl h);have h:=aN h;subst h;exact aY.ret hΓ
def eN(aB:aI)(aZ:aJ)(y1:aJ)(k1:bM->Option (aI×Unit)):bM->Nat->bM->Option (aI×Unit)
 | [],i1,cm=>(k1 cm)
 |bR::cM,i1,cm=>(bif decide (i1<(cm.map ah.c).length)then(((cm)[i1]?).bind fun x35=>((gO x35.shape ([]) aZ).bind fun Ig=>(bif decide (i1<(cm.map ah.c).length)then(eN aB aZ y1 k1 cM (i1+1) (cm.set i1 (⟨x35.shape,Ig⟩:ah)))else none)))else none)
def dP(aB:aI)(aZ:aJ)(y1:aJ)(fC:bM)(k2:Option (aI×Unit)):bI->Nat->bI->Option (aI×Unit)
 | [],i2,mE=>(some ((⟨aB.rules,aB.ends,fC,mE,y1,aB.cL⟩:aI),()))
 |mF::th,i2,mE=>((sB (⟨aB.rules,aB.ends,fC,mE,y1,aB.cL⟩:aI) (i2:Int)).bind fun HD=>((pX HD aZ).bind fun Vy=>(bif decide (i2<(mE.map Node.c).length)then(((mE)[i2]?).bind fun x107=>(dP aB aZ y1 fC k2 th (i2+1) (mE.set i2 (⟨x107.parent,x107.cond,x107.gB,Vy⟩:Node))))else none)))
def gj(aB:aI)(aZ:aJ):Option (aI×Unit):=((cQ aZ).bind fun y1=>(bif decide (aB.bG.length<=maxLen)then(eN aB aZ y1 (fun(fC:bM)=>(bif decide (aB.nodes.length<=maxLen)then(dP aB aZ y1 fC none aB.nodes 0 aB.nodes)else none)) aB.bG 0 aB.bG)else none))
def rX(lS:Value)(aB:aI)(aZ:aJ)(y1:aJ)(W0:List aK)(fS:Int):St:=⟨[(0,D.ptr 0 0),(1,D.sl (aZ.map aF.c)),(15,D.int .i64 ((aB.bG.map ah.c).length:Int)),(16,D.int .i64 fS)],[Ob.DA [D.acc 1,D.acc 2,D.acc 3,D.acc 4,D.acc 5,D.int .i64 aB.cL] lS,Ob.row .uq 80 4 (aB.rules.map aL.c),Ob.row .uq 3 1 (aB.ends.map lZ),Ob.row .uq 93 3 W0,Ob.row .uq 50 8 (aB.nodes.map Node.c),Ob.row .uq 37 2 (y1.map aF.c)]⟩
theorem wq(hΓ:Γ.nt=60){lS:Value}{aB:aI}{aZ:aJ}{y1:aJ}{r:aI×Unit}{k1:bM->Option (aI×Unit)}(gE:∀(fC:bM),k1 fC=some r->Ax Γ N f100 (.p [[some (80,4),some (3,1),some (93,3),some (50,8),some (37,2),none]] lS (eT r.1) (D.iQ [])) [1,1] ⟨[(0,D.ptr 0 0),(1,D.sl (aZ.map aF.c))],[Ob.DA [D.acc 1,D.acc 2,D.acc 3,D.acc 4,D.acc 5,D.int .i64 aB.cL] lS,Ob.row .uq 80 4 (aB.rules.map aL.c),Ob.row .uq 3 1 (aB.ends.map lZ),Ob.row .uq 93 3 (fC.map ah.c),Ob.row .uq 50 8 (aB.nodes.map Node.c),Ob.row .uq 37 2 (y1.map aF.c)]⟩)(hm1:aB.bG.length<=maxLen):∀(rest:bM) (i1:Nat) (cm:bM),aB.bG.drop i1=rest->eN aB aZ y1 k1 rest i1 cm=some r->Ar Γ N f100 (.p [[some (80,4),some (3,1),some (93,3),some (50,8),some (37,2),none]] lS (eT r.1) (D.iQ [])) [1,0,1,0] (rest.length+1) (rX lS aB aZ y1 (cm.map ah.c) (i1:Int)):=by
 intro rest
 induction rest with
 |nil=>
  intro i1 cm bD h;rw[eN]at h;refine aX fun N1 dH cW=>?_
  exact((aY.ge ah.c bD).a [.hl 0 [0,1] [0,1,2,3,4,5]]).ex hΓ dH (gE cm h)
 |cons bR cM ih1=>
  intro i1 cm bD h;rw[eN]at h;refine aX fun N1 dH cW=>?_
  obtain⟨h34,h⟩:=bh h;obtain⟨x35,h36,h⟩:=aD h;obtain⟨Ig,h38,h⟩:=aD h;obtain⟨h39,h⟩:=bh h;exact(((((((((aY.lt ah.c bD).a [.n 15]).i (Ni 3 h34)).o 3 2 .uq (cP ah.c h36)).a [.d (D.fr 37 2 (Ig.map aF.c))]).w (show Good prog 168 [D.agg (aF.c x35.shape),D.sl ([]),D.sl (aZ.map aF.c)] (D.fr 37 2 (Ig.map aF.c))from by first| (simpa only[bP,bO,cA,br,bt]using kC h38)|exact kC h38)).i (Ni 3 h39)).w (show(cm.map ah.c)[i1]?=some [D.str x35.shape.rel,D.sl (x35.shape.args.map tx),D.sl (x35.facts.map aF.c)]from cP ah.c h36)).a [.row [D.str x35.shape.rel,D.sl (x35.shape.args.map tx),D.sl (x35.facts.map aF.c)],.cn [0,1,15,16] [0,1,2,3,4,5]]).cs hΓ cW (rX lS aB aZ y1 ((cm.map ah.c).set i1 [D.str x35.shape.rel,D.sl (x35.shape.args.map tx),D.sl (Ig.map aF.c)]) (IntKind.i64.wrap ((i1:Int)+1))) (by first| (simp only[iS bD hm1,mA]<;>rfl)| (simp only[iS bD hm1,mA,aF.c,aa.c,aM.c,Action.c,aL.c,aW.c,fH.c,ah.c,Node.c,aI.c,fP.c]<;>rfl)) (ih1 (i1+1) (cm.set i1 (⟨x35.shape,Ig⟩:ah)) (dn bD) h)
def rY(lS:Value)(aB:aI)(aZ:aJ)(y1:aJ)(fC:bM)(W0:List aK)(fS:Int):St:=⟨[(0,D.ptr 0 0),(1,D.sl (aZ.map aF.c)),(41,D.int .i64 ((aB.nodes.map Node.c).length:Int)),(42,D.int .i64 fS)],[Ob.DA [D.acc 1,D.acc 2,D.acc 3,D.acc 4,D.acc 5,D.int .i64 aB.cL] lS,Ob.row .uq 80 4 (aB.rules.map aL.c),Ob.row .uq 3 1 (aB.ends.map lZ),Ob.row .uq 93 3 (fC.map ah.c),Ob.row .uq 50 8 W0,Ob.row .uq 37 2 (y1.map aF.c)]⟩
theorem wu(hΓ:Γ.nt=60){lS:Value}{aB:aI}{aZ:aJ}{y1:aJ}{fC:bM}{r:aI×Unit}{k2:Option (aI×Unit)}(EB:k2=some r->Ax Γ N f100 (.p [[some (80,4),some (3,1),some (93,3),some (50,8),some (37,2),none]] lS (eT r.1) (D.iQ [])) [1,1,1,0,0] ⟨[],[]⟩)(hm2:aB.nodes.length<=maxLen):∀(rest:bI) (i2:Nat) (mE:bI),aB.nodes.drop i2=rest->dP aB aZ y1 fC k2 rest i2 mE=some r->Ar Γ N f100 (.p [[some (80,4),some (3,1),some (93,3),some (50,8),some (37,2),none]] lS (eT r.1) (D.iQ [])) [1,1,1,0] (rest.length+1) (rY lS aB aZ y1 fC (mE.map Node.c) (i2:Int)):=by
 intro rest
 induction rest with
 |nil=>
  intro i2 mE hd2 h;rw[dP]at h;refine aX fun N2 xz ue=>?_
  cases h;exact(aY.ge Node.c hd2).ret hΓ
 |cons mF th ih2=>
  intro i2 mE hd2 h;rw[dP]at h;refine aX fun N2 xz ue=>?_
  obtain⟨HD,h103,h⟩:=aD h;obtain⟨Vy,h105,h⟩:=aD h;obtain⟨h106,h⟩:=bh h;obtain⟨x107,h108,h⟩:=aD h;exact(((((((aY.lt Node.c hd2).a [.n2 [0,1,2,3,4,5,6,7,8,9,10,11,12,13,14] [0,1,2,3,4,5,6,7,8,9,10,11,12,13,14] 11 12 [0,1,2,3,4] [],.d (D.fr 47 5 (HD.map aM.c))]).w (show Good prog 17 [D.agg [D.sl (aB.rules.map aL.c),D.sl (aB.ends.map lZ),D.sl (fC.map ah.c),D.sl (mE.map Node.c),D.sl (y1.map aF.c),D.int .i64 aB.cL],D.int .i64 (i2:Int)] (D.fr 47 5 (HD.map aM.c))from by first| (simpa only[bP,bO,cA,br,bt]using sS h103)|exact sS h103| (have t:=sS h103;simp only[bP,br,bt,aI.c]at t;exact t))).g (BZ h105)).i (Ni 8 h106)).w (show(mE.map Node.c)[i2]?=some [D.int .i64 x107.parent,D.int .i64 x107.cond.kind,D.str x107.cond.pat.rel,D.sl (x107.cond.pat.args.map tx),D.str x107.cond.left,D.str x107.cond.right,D.int .i64 x107.gB,D.sl (x107.tokens.map aW.c)]from cP Node.c h108)).a [.row [D.int .i64 x107.parent,D.int .i64 x107.cond.kind,D.str x107.cond.pat.rel,D.sl (x107.cond.pat.args.map tx),D.str x107.cond.left,D.str x107.cond.right,D.int .i64 x107.gB,D.sl (x107.tokens.map aW.c)],.cn [0,1,41,42] [0,1,2,3,4,5]]).cs hΓ ue (rY lS aB aZ y1 fC ((mE.map Node.c).set i2 [D.int .i64 x107.parent,D.int .i64 x107.cond.kind,D.str x107.cond.pat.rel,D.sl (x107.cond.pat.args.map tx),D.str x107.cond.left,D.str x107.cond.right,D.int .i64 x107.gB,D.sl (Vy.map aW.c)]) (IntKind.i64.wrap ((i2:Int)+1))) (by first| (simp only[iS hd2 hm2,mA]<;>rfl)| (simp only[iS hd2 hm2,mA,aF.c,aa.c,aM.c,Action.c,aL.c,aW.c,fH.c,ah.c,Node.c,aI.c,fP.c]<;>rfl)) (ih2 (i2+1) (mE.set i2 (⟨x107.parent,x107.cond,x107.gB,Vy⟩:Node)) (dn hd2) h)
theorem qU{aB:aI}{aZ:aJ}{r:aI×Unit}(h:gj aB aZ=some r):kD prog 100 (eT aB) (eT r.1) [D.sl (aZ.map aF.c)] (D.iQ []):=by
 refine JM func100 [[some (80,4),some (3,1),some (93,3),some (50,8),some (37,2),none]] 60 [D.acc 1,D.acc 2,D.acc 3,D.acc 4,D.acc 5,D.int .i64 aB.cL] [D.sl (aZ.map aF.c)] [Ob.row .uq 80 4 (aB.rules.map aL.c),Ob.row .uq 3 1 (aB.ends.map lZ),Ob.row .uq 93 3 (aB.bG.map ah.c),Ob.row .uq 50 8 (aB.nodes.map Node.c),Ob.row .uq 37 2 (aB.facts.map aF.c)] fun hr lS Γ hΓ=>?_
 rw[gj]at h;obtain⟨y1,h2,h⟩:=aD h;obtain⟨h110,h⟩:=bh h;refine((aY.g (eF h2)).a [.cn [0,1,15,16] [0,1,2,3,4,6]]).lp hΓ (wq hΓ (fun fC h=>?_) (bf h110) aB.bG 0 aB.bG rfl h);obtain⟨h109,h⟩:=bh h;refine(aY.a [.cn [0,1,41,42] [0,1,2,3,4,5]]).lp hΓ (wu hΓ (fun h=>?_) (bf h109) aB.nodes 0 aB.nodes rfl h);cases h
def ou(aB:ar)(aZ:aJ)(cY:Int):Option aI:=((oU aB).bind fun y1=>((gj y1 aZ).bind fun y3=>(some (⟨y3.1.rules,y3.1.ends,y3.1.bG,y3.1.nodes,y3.1.facts,cY⟩:aI))))
theorem tO{aB:ar}{aZ:aJ}{cY:Int}{r:aI}(h:ou aB aZ cY=some r):Good prog 49 [D.sl (aB.map aL.c),D.sl (aZ.map aF.c),D.int .i64 cY] (D.agg [D.fr 80 4 (r.rules.map aL.c),D.fr 3 1 (r.ends.map lZ),D.fr 93 3 (r.bG.map ah.c),D.fr 50 8 (r.nodes.map Node.c),D.fr 37 2 (r.facts.map aF.c),D.int .i64 r.cL]):=by
 refine gd func49 [[some (80,4),some (3,1),some (93,3),some (50,8),some (37,2),none]] 15 fun hr Γ hΓ=>?_
 rw[ou]at h;obtain⟨y1,h2,h⟩:=aD h;obtain⟨y3,h4,h⟩:=aD h;cases h;exact((aY.g (Ak h2)).hp [[some (80,4),some (3,1),some (93,3),some (50,8),some (37,2),none],[none]] (qU h4)).ret hΓ
def lU(aB:ar):Option (aI×Bool):=((nF aB).bind fun y1=>(bif !(y1)then(some ((⟨[],[],[],[],[],0⟩:aI),false))else((ou aB ([]) 0).bind fun y4=>(some (y4,true)))))
theorem yK{aB:ar}{r:aI×Bool}(h:lU aB=some r):Good prog 12 [D.sl (aB.map aL.c)] (D.iQ [D.agg [D.fr 80 4 (r.1.rules.map aL.c),D.fr 3 1 (r.1.ends.map lZ),D.fr 93 3 (r.1.bG.map ah.c),D.fr 50 8 (r.1.nodes.map Node.c),D.fr 37 2 (r.1.facts.map aF.c),D.int .i64 r.1.cL],D.bool r.2]):=by
 refine gd func12 [[some (80,4),some (3,1),some (93,3),some (50,8),some (37,2),none],[none]] 10 fun hr Γ hΓ=>?_
 rw[lU]at h;obtain⟨y1,h2,h⟩:=aD h;obtain⟨h3,h⟩|⟨h3,h⟩:=aO h
 ·cases h;exact((aY.g (qo h2)).b h3).ret hΓ
 ·obtain⟨y4,h5,h⟩:=aD h;cases h;exact((((aY.g (qo h2)).b h3).a [.d (D.agg [D.fr 80 4 (y4.rules.map aL.c),D.fr 3 1 (y4.ends.map lZ),D.fr 93 3 (y4.bG.map ah.c),D.fr 50 8 (y4.nodes.map Node.c),D.fr 37 2 (y4.facts.map aF.c),D.int .i64 y4.cL])]).w (show Good prog 49 [D.sl (aB.map aL.c),D.sl ([]),D.int .i64 0] (D.agg [D.fr 80 4 (y4.rules.map aL.c),D.fr 3 1 (y4.ends.map lZ),D.fr 93 3 (y4.bG.map ah.c),D.fr 50 8 (y4.nodes.map Node.c),D.fr 37 2 (y4.facts.map aF.c),D.int .i64 y4.cL])from by first| (simpa only[bP,bO,cA,br,bt]using tO h5)|exact tO h5)).ret hΓ
def pU(aB:b9):Option b9:=(bif room (([]:List aK).length+(aB.map lZ).length) 8 then(some (([]:b9)++aB))else none)
theorem BO{aB:b9}{r:b9}(h:pU aB=some r):Good prog 102 [D.sl (aB.map lZ)] (D.fr 3 1 (r.map lZ)):=by
 refine gd func102 [[some (3,1)]] 5 fun hr Γ hΓ=>?_
 rw[pU]at h;obtain⟨h1,h⟩:=bh h;cases h;exact(((aY.w (bz h1)).w (show(∀r∈(aB.map lZ),r.length=1)/\(true=true->D.oX (aB.map lZ)=true)from⟨by first|simp| (intro r hr;obtain⟨x,_,rfl⟩:=cH.1 (bw (j9 hr));rfl),by simp[D.oX,D.flat]⟩)).a [.H8 2,.fl true]).rts hΓ (D.fr 3 1 (([]:List aK)++(aB.map lZ))) (by first|rfl| (simp only[mA]<;>rfl)| (simp only[eT,mA]<;>rfl))
def gS(aB:ay)(k1:ay->Option ay):ay->Nat->ay->Option ay
 | [],i1,bN=>(k1 bN)
 |bR::cM,i1,bN=>((cQ bR.facts).bind fun y61=>((gw bR.bind).bind fun y63=>(bif room ((bN.map aW.c).length+([[D.sl (y61.map aF.c),D.sl (y63.map aa.c)]]).length) 48 then(gS aB k1 cM (i1+1) (bN++([(⟨y61,y63⟩:aW)])))else none)))
def jZ(aB:ay):Option ay:=(gS aB (fun(cK:ay)=>(some cK)) aB 0 ([]:ay))
def uw(aB:ay)(W0:List aK)(fS:Int):St:=⟨[(3,D.acc 0),(6,D.sl (aB.map aW.c)),(7,D.int .i64 ((aB.map aW.c).length:Int)),(8,D.int .i64 fS)],[Ob.row .uq 55 2 W0]⟩
theorem Af(hΓ:Γ.nt=24){aB:ay}{r:ay}{k1:ay->Option ay}(gE:∀(cK:ay),k1 cK=some r->Ax Γ N f105 (.q [[some (55,2)]] (D.fr 55 2 (r.map aW.c))) [1,1,1] ⟨[(3,D.acc 0)],[Ob.row .uq 55 2 (cK.map aW.c)]⟩)(hm1:aB.length<=maxLen):∀(rest:ay) (i1:Nat) (bN:ay),aB.drop i1=rest->gS aB k1 rest i1 bN=some r->Ar Γ N f105 (.q [[some (55,2)]] (D.fr 55 2 (r.map aW.c))) [1,1,0,1,0] (rest.length+1) (uw aB (bN.map aW.c) (i1:Int)):=by
 intro rest
 induction rest with
 |nil=>
  intro i1 bN bD h;rw[gS]at h;refine aX fun N1 dH cW=>?_
  exact((aY.ge aW.c bD).a [.hl 0 [3] [0]]).ex hΓ dH (gE bN h)
 |cons bR cM ih1=>
  intro i1 bN bD h;rw[gS]at h;refine aX fun N1 dH cW=>?_
  obtain⟨y61,h62,h⟩:=aD h;obtain⟨y63,h64,h⟩:=aD h;obtain⟨h65,h⟩:=bh h;exact(((((((aY.lt aW.c bD).l (bg aW.c 2 (dc bD) rfl)).a [.n2 [0,1,2,3,4,5,6,7,8,9,10] [0,1,2,3,4,5,6,7,8,9,10] 8 9 [0] [2,3]]).g (eF h62)).g (qL h64)).w (bz h65)).a [.cn [3,6,7,8] [5]]).cs hΓ cW (uw aB ((bN.map aW.c)++([[D.sl (y61.map aF.c),D.sl (y63.map aa.c)]])) (IntKind.i64.wrap ((i1:Int)+1))) (by first| (simp only[iS bD hm1,mA]<;>rfl)| (simp only[iS bD hm1,mA,aF.c,aa.c,aM.c,Action.c,aL.c,aW.c,fH.c,ah.c,Node.c,aI.c,fP.c]<;>rfl)) (ih1 (i1+1) (bN++([(⟨y61,y63⟩:aW)])) (dn bD) h)
theorem zg{aB:ay}{r:ay}(h:jZ aB=some r):Good prog 105 [D.sl (aB.map aW.c)] (D.fr 55 2 (r.map aW.c)):=by
 refine gd func105 [[some (55,2)]] 24 fun hr Γ hΓ=>?_
 rw[jZ]at h;refine(aY.a [.H8 3,.cn [3,6,7,8] [0]]).lp hΓ (Af hΓ (fun cK h=>?_) (by have:=(kj.sl (hr _ (aE (i:=0) rfl))).1;simpa using this) aB 0 ([]:ay) rfl h);have h:=aN h;subst h;exact aY.ret hΓ
def gG(aB:aI)(y1:ar)(y3:b9)(y5:aJ)(k1:bM->Option aI):bM->Nat->bM->Option aI
 | [],i1,nC=>(k1 nC)
 |bR::cM,i1,nC=>((dO bR.shape).bind fun Qf=>((cQ bR.facts).bind fun XH=>(bif room ((nC.map ah.c).length+([[D.str Qf.rel,D.sl (Qf.args.map tx),D.sl (XH.map aF.c)]]).length) 64 then(gG aB y1 y3 y5 k1 cM (i1+1) (nC++([(⟨Qf,XH⟩:ah)])))else none)))
def gH(aB:aI)(y1:ar)(y3:b9)(y5:aJ)(rS:bM)(k2:bI->Option aI):bI->Nat->bI->Option aI
 | [],i2,uX=>(k2 uX)
 |mF::th,i2,uX=>((eU mF.cond).bind fun DE=>((jZ mF.tokens).bind fun U6=>(bif room ((uX.map Node.c).length+([[D.int .i64 mF.parent,D.int .i64 DE.kind,D.str DE.pat.rel,D.sl (DE.pat.args.map tx),D.str DE.left,D.str DE.right,D.int .i64 mF.gB,D.sl (U6.map aW.c)]]).length) 120 then(gH aB y1 y3 y5 rS k2 th (i2+1) (uX++([(⟨mF.parent,DE,mF.gB,U6⟩:Node)])))else none)))
def gR(aB:aI):Option aI:=((mR aB.rules).bind fun y1=>((pU aB.ends).bind fun y3=>((cQ aB.facts).bind fun y5=>(gG aB y1 y3 y5 (fun(rS:bM)=>(gH aB y1 y3 y5 rS (fun(sI:bI)=>(some (⟨y1,y3,rS,sI,y5,aB.cL⟩:aI))) aB.nodes 0 ([]:bI))) aB.bG 0 ([]:bM)))))
def uA(aB:aI)(y1:ar)(y3:b9)(y5:aJ)(W0:List aK)(fS:Int):St:=⟨[(1,D.ptr 0 0),(2,D.ptr 1 0),(3,D.ptr 2 0),(21,D.sl (aB.bG.map ah.c)),(22,D.int .i64 ((aB.bG.map ah.c).length:Int)),(23,D.int .i64 fS)],[Ob.box (aI.c aB),Ob.box [D.nil,D.nil,D.nil,D.nil,D.nil,D.int .i64 0],Ob.box [D.acc 3,D.acc 4,D.acc 5,D.nil,D.acc 6,D.int .i64 aB.cL],Ob.row .uq 80 4 (y1.map aL.c),Ob.row .uq 3 1 (y3.map lZ),Ob.row .uq 93 3 W0,Ob.row .uq 37 2 (y5.map aF.c)]⟩
theorem ze(hΓ:Γ.nt=65){aB:aI}{y1:ar}{y3:b9}{y5:aJ}{r:aI}{k1:bM->Option aI}(gE:∀(rS:bM),k1 rS=some r->Ax Γ N f50 (.q [[some (80,4),some (3,1),some (93,3),some (50,8),some (37,2),none]] (D.agg [D.fr 80 4 (r.rules.map aL.c),D.fr 3 1 (r.ends.map lZ),D.fr 93 3 (r.bG.map ah.c),D.fr 50 8 (r.nodes.map Node.c),D.fr 37 2 (r.facts.map aF.c),D.int .i64 r.cL])) [1,1,1] ⟨[(1,D.ptr 0 0),(2,D.ptr 1 0),(3,D.ptr 2 0)],[Ob.box (aI.c aB),Ob.box [D.nil,D.nil,D.nil,D.nil,D.nil,D.int .i64 0],Ob.box [D.acc 3,D.acc 4,D.acc 5,D.nil,D.acc 6,D.int .i64 aB.cL],Ob.row .uq 80 4 (y1.map aL.c),Ob.row .uq 3 1 (y3.map lZ),Ob.row .uq 93 3 (rS.map ah.c),Ob.row .uq 37 2 (y5.map aF.c)]⟩)(hm1:aB.bG.length<=maxLen):∀(rest:bM) (i1:Nat) (nC:bM),aB.bG.drop i1=rest->gG aB y1 y3 y5 k1 rest i1 nC=some r->Ar Γ N f50 (.q [[some (80,4),some (3,1),some (93,3),some (50,8),some (37,2),none]] (D.agg [D.fr 80 4 (r.rules.map aL.c),D.fr 3 1 (r.ends.map lZ),D.fr 93 3 (r.bG.map ah.c),D.fr 50 8 (r.nodes.map Node.c),D.fr 37 2 (r.facts.map aF.c),D.int .i64 r.cL])) [1,1,0,1,0] (rest.length+1) (uA aB y1 y3 y5 (nC.map ah.c) (i1:Int)):=by
 intro rest
 induction rest with
 |nil=>
  intro i1 nC bD h;rw[gG]at h;refine aX fun N1 dH cW=>?_
  exact((aY.ge ah.c bD).a [.hl 0 [1,2,3] [0,1,2,3,4,5,6]]).ex hΓ dH (gE nC h)
 |cons bR cM ih1=>
  intro i1 nC bD h;rw[gG]at h;refine aX fun N1 dH cW=>?_
  obtain⟨Qf,h68,h⟩:=aD h;obtain⟨XH,h70,h⟩:=aD h;obtain⟨h71,h⟩:=bh h;exact(((((((aY.lt ah.c bD).l (bg ah.c 3 (dc bD) rfl)).a [.n2 [0,1,2,3,4,5,6,7,8,9,10,11,12] [0,1,2,3,4,5,6,7,8,9,10,11,12] 9 10 [0,1] [8,9]]).g (oR h68)).g (eF h70)).w (bz h71)).a [.cn [1,2,3,21,22,23] [0,1,2,3,4,11,6]]).cs hΓ cW (uA aB y1 y3 y5 ((nC.map ah.c)++([[D.str Qf.rel,D.sl (Qf.args.map tx),D.sl (XH.map aF.c)]])) (IntKind.i64.wrap ((i1:Int)+1))) (by first| (simp only[iS bD hm1,mA]<;>rfl)| (simp only[iS bD hm1,mA,aF.c,aa.c,aM.c,Action.c,aL.c,aW.c,fH.c,ah.c,Node.c,aI.c,fP.c]<;>rfl)) (ih1 (i1+1) (nC++([(⟨Qf,XH⟩:ah)])) (dn bD) h)
def uB(aB:aI)(y1:ar)(y3:b9)(y5:aJ)(rS:bM)(W0:List aK)(fS:Int):St:=⟨[(2,D.ptr 0 0),(3,D.ptr 1 0),(41,D.sl (aB.nodes.map Node.c)),(42,D.int .i64 ((aB.nodes.map Node.c).length:Int)),(43,D.int .i64 fS)],[Ob.box [D.nil,D.nil,D.nil,D.nil,D.nil,D.int .i64 0],Ob.box [D.acc 2,D.acc 3,D.acc 4,D.acc 5,D.acc 6,D.int .i64 aB.cL],Ob.row .uq 80 4 (y1.map aL.c),Ob.row .uq 3 1 (y3.map lZ),Ob.row .uq 93 3 (rS.map ah.c),Ob.row .uq 50 8 W0,Ob.row .uq 37 2 (y5.map aF.c)]⟩
theorem zf(hΓ:Γ.nt=65){aB:aI}{y1:ar}{y3:b9}{y5:aJ}{rS:bM}{r:aI}{k2:bI->Option aI}(EB:∀(sI:bI),k2 sI=some r->Ax Γ N f50 (.q [[some (80,4),some (3,1),some (93,3),some (50,8),some (37,2),none]] (D.agg [D.fr 80 4 (r.rules.map aL.c),D.fr 3 1 (r.ends.map lZ),D.fr 93 3 (r.bG.map ah.c),D.fr 50 8 (r.nodes.map Node.c),D.fr 37 2 (r.facts.map aF.c),D.int .i64 r.cL])) [1,1,1,1] ⟨[(2,D.ptr 0 0),(3,D.ptr 1 0)],[Ob.box [D.nil,D.nil,D.nil,D.nil,D.nil,D.int .i64 0],Ob.box [D.acc 2,D.acc 3,D.acc 4,D.acc 5,D.acc 6,D.int .i64 aB.cL],Ob.row .uq 80 4 (y1.map aL.c),Ob.row .uq 3 1 (y3.map lZ),Ob.row .uq 93 3 (rS.map ah.c),Ob.row .uq 50 8 (sI.map Node.c),Ob.row .uq 37 2 (y5.map aF.c)]⟩)(hm2:aB.nodes.length<=maxLen):∀(rest:bI) (i2:Nat) (uX:bI),aB.nodes.drop i2=rest->gH aB y1 y3 y5 rS k2 rest i2 uX=some r->Ar Γ N f50 (.q [[some (80,4),some (3,1),some (93,3),some (50,8),some (37,2),none]] (D.agg [D.fr 80 4 (r.rules.map aL.c),D.fr 3 1 (r.ends.map lZ),D.fr 93 3 (r.bG.map ah.c),D.fr 50 8 (r.nodes.map Node.c),D.fr 37 2 (r.facts.map aF.c),D.int .i64 r.cL])) [1,1,1,0,1,0] (rest.length+1) (uB aB y1 y3 y5 rS (uX.map Node.c) (i2:Int)):=by
 intro rest
 induction rest with
 |nil=>
  intro i2 uX hd2 h;rw[gH]at h;refine aX fun N2 xz ue=>?_
  exact((aY.ge Node.c hd2).a [.hl 0 [2,3] [0,1,2,3,4,5,6]]).ex hΓ xz (EB uX h)
 |cons mF th ih2=>
  intro i2 uX hd2 h;rw[gH]at h;refine aX fun N2 xz ue=>?_
  obtain⟨DE,h133,h⟩:=aD h;obtain⟨U6,h135,h⟩:=aD h;obtain⟨h136,h⟩:=bh h;exact(((((((aY.lt Node.c hd2).l (bg Node.c 8 (dc hd2) rfl)).a [.n2 [0,1,2,3,4,5,6,7,8,9,10,11,12,13,14,15,16] [0,1,2,3,4,5,6,7,8,9,10,11,12,13,14,15,16] 13 14 [0,1] [8,9]]).g (jI h133)).g (zg h135)).w (bz h136)).a [.cn [2,3,41,42,43] [0,1,2,3,4,11,6]]).cs hΓ ue (uB aB y1 y3 y5 rS ((uX.map Node.c)++([[D.int .i64 mF.parent,D.int .i64 DE.kind,D.str DE.pat.rel,D.sl (DE.pat.args.map tx),D.str DE.left,D.str DE.right,D.int .i64 mF.gB,D.sl (U6.map aW.c)]])) (IntKind.i64.wrap ((i2:Int)+1))) (by first| (simp only[iS hd2 hm2,mA]<;>rfl)| (simp only[iS hd2 hm2,mA,aF.c,aa.c,aM.c,Action.c,aL.c,aW.c,fH.c,ah.c,Node.c,aI.c,fP.c]<;>rfl)) (ih2 (i2+1) (uX++([(⟨mF.parent,DE,mF.gB,U6⟩:Node)])) (dn hd2) h)
theorem lB{aB:aI}{r:aI}(h:gR aB=some r):Good prog 50 [D.agg (aI.c aB)] (D.agg [D.fr 80 4 (r.rules.map aL.c),D.fr 3 1 (r.ends.map lZ),D.fr 93 3 (r.bG.map ah.c),D.fr 50 8 (r.nodes.map Node.c),D.fr 37 2 (r.facts.map aF.c),D.int .i64 r.cL]):=by
 refine gd func50 [[some (80,4),some (3,1),some (93,3),some (50,8),some (37,2),none]] 65 fun hr Γ hΓ=>?_
 rw[gR]at h;obtain⟨y1,h2,h⟩:=aD h;obtain⟨y3,h4,h⟩:=aD h;obtain⟨y5,h6,h⟩:=aD h;refine(((((aY.a [.n 13]).g (uC h2)).g (BO h4)).g (eF h6)).a [.pb 5 2 93 3,.cn [1,2,3,21,22,23] [0,1,5,2,3,6,4]]).lp hΓ (ze hΓ (fun rS h=>?_) (by have:=(kj.sl (kj.agg (hr _ (aE (i:=0) rfl)) (.sl (aB.bG.map ah.c)) (by simp))).1;simpa using this) aB.bG 0 ([]:bM) rfl h);refine(aY.a [.pb 2 3 50 8,.cn [2,3,41,42,43] [1,2,3,4,5,7,6]]).lp hΓ (zf hΓ (fun sI h=>?_) (by have:=(kj.sl (kj.agg (hr _ (aE (i:=0) rfl)) (.sl (aB.nodes.map Node.c)) (by simp))).1;simpa using this) aB.nodes 0 ([]:bI) rfl h);cases h;exact aY.ret hΓ
def gQ(aB:Int)(aZ:Int):Option Int:=(bif decide ((aB:Int)<aZ)then(some (-1))else(bif decide ((aB:Int)>aZ)then(some 1)else(some 0)))
theorem oP{aB:Int}{aZ:Int}{r:Int}(h:gQ aB aZ=some r):Good prog 117 [D.int .i64 aB,D.int .i64 aZ] (D.int .i64 r):=by
 refine gd func117 [[none]] 13 fun hr Γ hΓ=>?_
 rw[gQ]at h;obtain⟨h1,h⟩|⟨h1,h⟩:=aO h
 ·cases h;exact(aY.b h1).ret hΓ
 ·obtain⟨h2,h⟩|⟨h2,h⟩:=aO h
  ·have h:=aN h;subst h;exact((aY.b h1).b h2).ret hΓ
  ·have h:=aN h;subst h;exact((aY.b h1).b h2).ret hΓ
def jl(aB:Bytes)(aZ:Bytes):Option Int:=((jz aB).bind fun y1=>((jz aZ).bind fun y3=>(bif y1.2 then(bif y3.2 then((gQ y1.1 y3.1).bind fun y7=>(some y7))else(some (-1)))else(bif y3.2 then(some 1)else((ng aB aZ).bind fun FN=>(some FN))))))
theorem yJ{aB:Bytes}{aZ:Bytes}{r:Int}(h:jl aB aZ=some r):Good prog 176 [D.str aB,D.str aZ] (D.int .i64 r):=by
 refine gd func176 [[none]] 34 fun hr Γ hΓ=>?_
 rw[jl]at h;obtain⟨y1,h2,h⟩:=aD h;obtain⟨y3,h4,h⟩:=aD h;have rj:=((aY.g (nQ h2)).g (nQ h4))
 obtain⟨h5,h⟩|⟨h5,h⟩:=aO h
 ·have kW:=(rj.r 2 h5)
  obtain⟨h6,h⟩|⟨h6,h⟩:=aO h
  ·obtain⟨y7,h8,h⟩:=aD h;have h:=aN h;subst h;exact((kW.b h6).g (oP h8)).ret hΓ
  ·cases h;exact((kW.b h6).b h5).ret hΓ
 ·have kx:=(((rj.r 2 h5).F 1).b h5)
  obtain⟨h9,h⟩|⟨h9,h⟩:=aO h
  ·have h:=aN h;subst h;exact(kx.b h9).ret hΓ
  ·obtain⟨FN,h11,h⟩:=aD h;have h:=aN h;subst h;exact((kx.b h9).g (pK h11)).ret hΓ
def gl(aB:aF)(aZ:aF)(k1:Option Int):aG->Nat->Option Int
 | [],i1=>(k1)
 |bR::cM,i1=>(bif decide (((i1:Int):Int)<((aZ.args.map tx).length:Int))then((iY aZ.args (i1:Int)).bind fun x37=>((jl bR x37).bind fun CR=>(bif (CR:Int) != 0 then(some CR)else(gl aB aZ k1 cM (i1+1)))))else(k1))
def ez(aB:aF)(aZ:aF):Option Int:=((ng aB.rel aZ.rel).bind fun y1=>(bif (y1:Int) != 0 then(some y1)else(gl aB aZ ((gQ ((aB.args.map tx).length:Int) ((aZ.args.map tx).length:Int)).bind fun UQ=>(some UQ)) aB.args 0)))
def zV(aB:aF)(aZ:aF)(fS:Int):St:=⟨[(2,D.ptr 0 0),(3,D.ptr 1 0),(6,D.int .i64 fS)],[Ob.box (aF.c aB),Ob.box (aF.c aZ)]⟩
theorem yo(hΓ:Γ.nt=51){aB:aF}{aZ:aF}{r:Int}{k1:Option Int}(gE:k1=some r->Ax Γ N f111 (.q [[none]] (D.int .i64 r)) [1,1,1] ⟨[(2,D.ptr 0 0),(3,D.ptr 1 0)],[Ob.box (aF.c aB),Ob.box (aF.c aZ)]⟩)(hm1:aB.args.length<=maxLen):∀(rest:aG) (i1:Nat),aB.args.drop i1=rest->gl aB aZ k1 rest i1=some r->Ar Γ N f111 (.q [[none]] (D.int .i64 r)) [1,1,0,1,0] (rest.length+1) (zV aB aZ (i1:Int)):=by
 intro rest
 induction rest with
 |nil=>
  intro i1 bD h;rw[gl]at h;refine aX fun N1 dH cW=>?_
  exact((((((((aY.ge tx bD).ge tx bD).ge tx bD).ge tx bD).ge tx bD).ge tx bD).F 1).a [.hl 0 [2,3] [0,1]]).ex hΓ dH (gE h)
 |cons bR cM ih1=>
  intro i1 bD h;rw[gl]at h;refine aX fun N1 dH cW=>?_
  have kx:=((((((aY.lt tx bD).lt tx bD).lt tx bD).lt tx bD).lt tx bD).lt tx bD)
  obtain⟨h36,h⟩|⟨h36,h⟩:=aO h
  ·obtain⟨x37,h38,h⟩:=aD h;obtain⟨CR,h40,h⟩:=aD h;have lJ:=(((((kx.b h36).a [.n 10]).l (bg tx 1 (dc bD) rfl)).l (kG tx 1 h38 rfl)).g (yJ h40))
   obtain⟨h41,h⟩|⟨h41,h⟩:=aO h
   ·have h:=aN h;subst h;exact(lJ.b h41).ret hΓ
   ·exact((lJ.b h41).a [.cn [2,3,6] [0,1]]).ct hΓ cW (iS bD hm1) (ih1 (i1+1) (dn bD) h)
  ·exact((kx.b h36).a [.hl 0 [2,3] [0,1]]).ex hΓ dH (gE h)
theorem nj{aB:aF}{aZ:aF}{r:Int}(h:ez aB aZ=some r):Good prog 111 [D.agg (aF.c aB),D.agg (aF.c aZ)] (D.int .i64 r):=by
 refine gd func111 [[none]] 51 fun hr Γ hΓ=>?_
 rw[ez]at h;obtain⟨y1,h2,h⟩:=aD h;obtain⟨h3,h⟩|⟨h3,h⟩:=aO h
 ·have h:=aN h;subst h;exact((aY.g (pK h2)).b h3).ret hΓ
 ·refine(((aY.g (pK h2)).b h3).a [.cn [2,3,6] [0,1]]).lp hΓ (yo hΓ (fun h=>?_) (by have:=(kj.sl (kj.agg (hr _ (aE (i:=0) rfl)) (.sl (aB.args.map tx)) (by simp))).1;simpa using this) aB.args 0 rfl h);obtain⟨UQ,h43,h⟩:=aD h;have h:=aN h;subst h;exact(aY.g (oP h43)).ret hΓ
def gN(aB:aJ)(k1:Option Bool):aJ->Nat->Option Bool
 | [],i1=>(k1)
 |bR::cM,i1=>((mG bR).bind fun y46=>(bif !(y46)then(some false)else(bif decide (((i1:Int):Int)>0)then((iY aB (IntKind.i64.wrap ((i1:Int)-1))).bind fun x50=>((ez x50 bR).bind fun ZJ=>(bif decide ((ZJ:Int)>=0)then(some false)else(gN aB k1 cM (i1+1)))))else(gN aB k1 cM (i1+1)))))
def nE(aB:aJ):Option Bool:=(bif decide ((((aB.map aF.c).length:Int):Int)>24)then(some false)else(gN aB (some true) aB 0))
def DY(aB:aJ)(fS:Int):St:=⟨[(0,D.sl (aB.map aF.c)),(8,D.sl (aB.map aF.c)),(9,D.int .i64 ((aB.map aF.c).length:Int)),(10,D.int .i64 fS)],[]⟩
theorem CU(hΓ:Γ.nt=33){aB:aJ}{r:Bool}{k1:Option Bool}(gE:k1=some r->Ax Γ N f57 (.q [[none]] (D.bool r)) [1,1,1] ⟨[],[]⟩)(hm1:aB.length<=maxLen):∀(rest:aJ) (i1:Nat),aB.drop i1=rest->gN aB k1 rest i1=some r->Ar Γ N f57 (.q [[none]] (D.bool r)) [1,1,0,1,0] (rest.length+1) (DY aB (i1:Int)):=by
 intro rest
 induction rest with
 |nil=>
  intro i1 bD h;rw[gN]at h;refine aX fun N1 dH cW=>?_
  exact((aY.ge aF.c bD).a [.hl 0 [] []]).ex hΓ dH (gE h)
 |cons bR cM ih1=>
  intro i1 bD h;rw[gN]at h;refine aX fun N1 dH cW=>?_
  obtain⟨y46,h47,h⟩:=aD h;have lJ:=((((aY.lt aF.c bD).l (bg aF.c 2 (dc bD) rfl)).a [.n 13]).g (sR h47))
  obtain⟨h48,h⟩|⟨h48,h⟩:=aO h
  ·have h:=aN h;subst h;exact((((lJ.r 3 h48).a [bF,bF,bF,bF,bF,bF,bF,bF]).r 2 h48).T 1).ret hΓ
  ·have tf:=(lJ.r 3 h48)
   obtain⟨h49,h⟩|⟨h49,h⟩:=aO h
   ·obtain⟨x50,h51,h⟩:=aD h;obtain⟨ZJ,h53,h⟩:=aD h;have xQ:=((((((((tf.r 4 h49).l (kG aF.c 2 h51 rfl)).r 3 h49).g (nj h53)).b h49).b h48).b h49).b h48)
    obtain⟨h54,h⟩|⟨h54,h⟩:=aO h
    ·have h:=aN h;subst h;exact(xQ.b h54).ret hΓ
    ·exact((xQ.b h54).a [.cn [0,8,9,10] []]).ct hΓ cW (iS bD hm1) (ih1 (i1+1) (dn bD) h)
   ·exact((((((tf.r 8 h49).b h48).b h49).b h48).F 1).a [.cn [0,8,9,10] []]).ct hΓ cW (iS bD hm1) (ih1 (i1+1) (dn bD) h)
theorem qn{aB:aJ}{r:Bool}(h:nE aB=some r):Good prog 57 [D.sl (aB.map aF.c)] (D.bool r):=by
 refine gd func57 [[none]] 33 fun hr Γ hΓ=>?_
 rw[nE]at h;obtain⟨h1,h⟩|⟨h1,h⟩:=aO h
 ·have h:=aN h;subst h;exact(aY.b h1).ret hΓ
 ·refine((aY.b h1).a [.cn [0,8,9,10] []]).lp hΓ (CU hΓ (fun h=>?_) (by have:=(kj.sl (hr _ (aE (i:=0) rfl))).1;simpa using this) aB 0 rfl h);have h:=aN h;subst h;exact aY.ret hΓ
def ir(aB:aL)(aZ:aL)(k1:Option Bool):aq->Nat->Option Bool
 | [],i1=>(k1)
 |bR::cM,i1=>((iY aZ.conds (i1:Int)).bind fun x33=>((iW bR x33).bind fun xY=>(bif !(xY)then(some false)else(ir aB aZ k1 cM (i1+1)))))
def gP(aB:aL)(aZ:aL)(k2:Option Bool):eG->Nat->Option Bool
 | [],i2=>(k2)
 |mF::th,i2=>((iY aZ.cR (i2:Int)).bind fun x70=>(bif (mF.kind:Int) != x70.kind then(some false)else((ec mF.pat x70.pat).bind fun B3=>(bif !(B3)then(some false)else(gP aB aZ k2 th (i2+1))))))
def nG(aB:aL)(aZ:aL):Option Bool:=(bif !((aB.name:Bytes)==aZ.name)then(some false)else(bif (aB.prio:Int) != aZ.prio then(some false)else(bif (((aB.conds.map aM.c).length:Int):Int) != ((aZ.conds.map aM.c).length:Int)then(some false)else(bif (((aB.cR.map Action.c).length:Int):Int) != ((aZ.cR.map Action.c).length:Int)then(some false)else(ir aB aZ (gP aB aZ (some true) aB.cR 0) aB.conds 0)))))
def De(aB:aL)(aZ:aL)(fS:Int):St:=⟨[(2,D.ptr 0 0),(3,D.ptr 1 0),(39,D.int .i64 ((aB.conds.map aM.c).length:Int)),(40,D.int .i64 fS)],[Ob.box (aL.c aB),Ob.box (aL.c aZ)]⟩
theorem Cc(hΓ:Γ.nt=92){aB:aL}{aZ:aL}{r:Bool}{k1:Option Bool}(gE:k1=some r->Ax Γ N f106 (.q [[none]] (D.bool r)) [1,1,1] ⟨[(2,D.ptr 0 0),(3,D.ptr 1 0)],[Ob.box (aL.c aB),Ob.box (aL.c aZ)]⟩)(hm1:aB.conds.length<=maxLen):∀(rest:aq) (i1:Nat),aB.conds.drop i1=rest->ir aB aZ k1 rest i1=some r->Ar Γ N f106 (.q [[none]] (D.bool r)) [1,1,0,1,0] (rest.length+1) (De aB aZ (i1:Int)):=by
 intro rest
 induction rest with
 |nil=>
  intro i1 bD h;rw[ir]at h;refine aX fun N1 dH cW=>?_
  exact((aY.ge aM.c bD).a [.hl 0 [2,3] [0,1]]).ex hΓ dH (gE h)
 |cons bR cM ih1=>
  intro i1 bD h;rw[ir]at h;refine aX fun N1 dH cW=>?_
  obtain⟨x33,h34,h⟩:=aD h;obtain⟨xY,h36,h⟩:=aD h;have lJ:=(((((aY.lt aM.c bD).a [.n 10]).l (bg aM.c 5 (dc bD) rfl)).l (kG aM.c 5 h34 rfl)).g (qt h36))
  obtain⟨h37,h⟩|⟨h37,h⟩:=aO h
  ·have h:=aN h;subst h;exact(lJ.b h37).ret hΓ
  ·exact((lJ.b h37).a [.cn [2,3,39,40] [0,1]]).ct hΓ cW (iS bD hm1) (ih1 (i1+1) (dn bD) h)
def Df(aB:aL)(aZ:aL)(fS:Int):St:=⟨[(2,D.ptr 0 0),(3,D.ptr 1 0),(58,D.int .i64 ((aB.cR.map Action.c).length:Int)),(59,D.int .i64 fS)],[Ob.box (aL.c aB),Ob.box (aL.c aZ)]⟩
theorem Cd(hΓ:Γ.nt=92){aB:aL}{aZ:aL}{r:Bool}{k2:Option Bool}(EB:k2=some r->Ax Γ N f106 (.q [[none]] (D.bool r)) [1,1,1,1] ⟨[],[]⟩)(hm2:aB.cR.length<=maxLen):∀(rest:eG) (i2:Nat),aB.cR.drop i2=rest->gP aB aZ k2 rest i2=some r->Ar Γ N f106 (.q [[none]] (D.bool r)) [1,1,1,0,1,0] (rest.length+1) (Df aB aZ (i2:Int)):=by
 intro rest
 induction rest with
 |nil=>
  intro i2 hd2 h;rw[gP]at h;refine aX fun N2 xz ue=>?_
  exact((aY.ge Action.c hd2).a [.hl 0 [] []]).ex hΓ xz (EB h)
 |cons mF th ih2=>
  intro i2 hd2 h;rw[gP]at h;refine aX fun N2 xz ue=>?_
  obtain⟨x70,h71,h⟩:=aD h;have tf:=((((aY.lt Action.c hd2).a [.n 26]).l (bg Action.c 3 (dc hd2) rfl)).l (kG Action.c 3 h71 rfl))
  obtain⟨h72,h⟩|⟨h72,h⟩:=aO h
  ·have h:=aN h;subst h;exact((tf.r 15 h72).T 1).ret hΓ
  ·obtain⟨B3,h74,h⟩:=aD h;have xQ:=(((((((tf.r 4 h72).l (bg Action.c 3 (dc hd2) rfl)).r 6 h72).l (kG Action.c 3 h71 rfl)).r 3 h72).g (l8 h74)).r 2 h72)
   obtain⟨h75,h⟩|⟨h75,h⟩:=aO h
   ·have h:=aN h;subst h;exact(xQ.b h75).ret hΓ
   ·exact((xQ.b h75).a [.cn [2,3,58,59] [0,1]]).ct hΓ ue (iS hd2 hm2) (ih2 (i2+1) (dn hd2) h)
theorem BL{aB:aL}{aZ:aL}{r:Bool}(h:nG aB aZ=some r):Good prog 106 [D.agg (aL.c aB),D.agg (aL.c aZ)] (D.bool r):=by
 refine gd func106 [[none]] 92 fun hr Γ hΓ=>?_
 rw[nG]at h;obtain⟨h1,h⟩|⟨h1,h⟩:=aO h
 ·have h:=aN h;subst h;exact((aY.r 6 h1).T 17).ret hΓ
 ·have Av:=(aY.r 6 h1)
  obtain⟨h2,h⟩|⟨h2,h⟩:=aO h
  ·have h:=aN h;subst h;exact((Av.r 8 h2).T 9).ret hΓ
  ·have GX:=(Av.r 8 h2)
   obtain⟨h3,h⟩|⟨h3,h⟩:=aO h
   ·have h:=aN h;subst h;exact((GX.r 8 h3).T 1).ret hΓ
   ·have JW:=(GX.r 8 h3)
    obtain⟨h4,h⟩|⟨h4,h⟩:=aO h
    ·have h:=aN h;subst h;exact(JW.b h4).ret hΓ
    ·refine((JW.b h4).a [.cn [2,3,39,40] [0,1]]).lp hΓ (Cc hΓ (fun h=>?_) (by have:=(kj.sl (kj.agg (hr _ (aE (i:=0) rfl)) (.sl (aB.conds.map aM.c)) (by simp))).1;simpa using this) aB.conds 0 rfl h);refine(aY.a [.cn [2,3,58,59] [0,1]]).lp hΓ (Cd hΓ (fun h=>?_) (by have:=(kj.sl (kj.agg (hr _ (aE (i:=0) rfl)) (.sl (aB.cR.map Action.c)) (by simp))).1;simpa using this) aB.cR 0 rfl h);have h:=aN h;subst h;exact aY.ret hΓ
def jt(aB:ar)(aZ:ar)(k1:Option Bool):ar->Nat->Option Bool
 | [],i1=>(k1)
 |bR::cM,i1=>((iY aZ (i1:Int)).bind fun x30=>((nG bR x30).bind fun Qd=>(bif !(Qd)then(some false)else(jt aB aZ k1 cM (i1+1)))))
def oT(aB:ar)(aZ:ar):Option Bool:=(bif (((aB.map aL.c).length:Int):Int) != ((aZ.map aL.c).length:Int)then(some false)else(jt aB aZ (some true) aB 0))
def Cl(aB:ar)(aZ:ar)(fS:Int):St:=⟨[(0,D.sl (aB.map aL.c)),(1,D.sl (aZ.map aL.c)),(12,D.int .i64 ((aB.map aL.c).length:Int)),(13,D.int .i64 fS)],[]⟩
theorem BU(hΓ:Γ.nt=27){aB:ar}{aZ:ar}{r:Bool}{k1:Option Bool}(gE:k1=some r->Ax Γ N f51 (.q [[none]] (D.bool r)) [1,1,1] ⟨[],[]⟩)(hm1:aB.length<=maxLen):∀(rest:ar) (i1:Nat),aB.drop i1=rest->jt aB aZ k1 rest i1=some r->Ar Γ N f51 (.q [[none]] (D.bool r)) [1,1,0,1,0] (rest.length+1) (Cl aB aZ (i1:Int)):=by
 intro rest
 induction rest with
 |nil=>
  intro i1 bD h;rw[jt]at h;refine aX fun N1 dH cW=>?_
  exact((aY.ge aL.c bD).a [.hl 0 [] []]).ex hΓ dH (gE h)
 |cons bR cM ih1=>
  intro i1 bD h;rw[jt]at h;refine aX fun N1 dH cW=>?_
  obtain⟨x30,h31,h⟩:=aD h;obtain⟨Qd,h33,h⟩:=aD h;have kW:=(((((aY.lt aL.c bD).a [.n 8]).l (bg aL.c 4 (dc bD) rfl)).l (kG aL.c 4 h31 rfl)).g (BL h33))
  obtain⟨h34,h⟩|⟨h34,h⟩:=aO h
  ·have h:=aN h;subst h;exact(kW.b h34).ret hΓ
  ·exact((kW.b h34).a [.cn [0,1,12,13] []]).ct hΓ cW (iS bD hm1) (ih1 (i1+1) (dn bD) h)
theorem uD{aB:ar}{aZ:ar}{r:Bool}(h:oT aB aZ=some r):Good prog 51 [D.sl (aB.map aL.c),D.sl (aZ.map aL.c)] (D.bool r):=by
 refine gd func51 [[none]] 27 fun hr Γ hΓ=>?_
 rw[oT]at h;obtain⟨h1,h⟩|⟨h1,h⟩:=aO h
 ·have h:=aN h;subst h;exact(aY.b h1).ret hΓ
 ·refine((aY.b h1).a [.cn [0,1,12,13] []]).lp hΓ (BU hΓ (fun h=>?_) (by have:=(kj.sl (hr _ (aE (i:=0) rfl))).1;simpa using this) aB 0 rfl h);have h:=aN h;subst h;exact aY.ret hΓ
def kM(aB:b9)(aZ:b9)(k1:Option Bool):b9->Nat->Option Bool
 | [],i1=>(k1)
 |bR::cM,i1=>((iY aZ (i1:Int)).bind fun x22=>(bif (bR:Int) != x22 then(some false)else(kM aB aZ k1 cM (i1+1))))
def pW(aB:b9)(aZ:b9):Option Bool:=(bif (((aB.map lZ).length:Int):Int) != ((aZ.map lZ).length:Int)then(some false)else(kM aB aZ (some true) aB 0))
def Dn(aB:b9)(aZ:b9)(fS:Int):St:=⟨[(0,D.sl (aB.map lZ)),(1,D.sl (aZ.map lZ)),(12,D.int .i64 ((aB.map lZ).length:Int)),(13,D.int .i64 fS)],[]⟩
theorem Cj(hΓ:Γ.nt=26){aB:b9}{aZ:b9}{r:Bool}{k1:Option Bool}(gE:k1=some r->Ax Γ N f52 (.q [[none]] (D.bool r)) [1,1,1] ⟨[],[]⟩)(hm1:aB.length<=maxLen):∀(rest:b9) (i1:Nat),aB.drop i1=rest->kM aB aZ k1 rest i1=some r->Ar Γ N f52 (.q [[none]] (D.bool r)) [1,1,0,1,0] (rest.length+1) (Dn aB aZ (i1:Int)):=by
 intro rest
 induction rest with
 |nil=>
  intro i1 bD h;rw[kM]at h;refine aX fun N1 dH cW=>?_
  exact((aY.ge lZ bD).a [.hl 0 [] []]).ex hΓ dH (gE h)
 |cons bR cM ih1=>
  intro i1 bD h;rw[kM]at h;refine aX fun N1 dH cW=>?_
  obtain⟨x22,h23,h⟩:=aD h;have kW:=((((aY.lt lZ bD).a [.n 8]).l (bg lZ 1 (dc bD) rfl)).l (kG lZ 1 h23 rfl))
  obtain⟨h24,h⟩|⟨h24,h⟩:=aO h
  ·have h:=aN h;subst h;exact(kW.b h24).ret hΓ
  ·exact((kW.b h24).a [.cn [0,1,12,13] []]).ct hΓ cW (iS bD hm1) (ih1 (i1+1) (dn bD) h)
theorem BS{aB:b9}{aZ:b9}{r:Bool}(h:pW aB aZ=some r):Good prog 52 [D.sl (aB.map lZ),D.sl (aZ.map lZ)] (D.bool r):=by
 refine gd func52 [[none]] 26 fun hr Γ hΓ=>?_
 rw[pW]at h;obtain⟨h1,h⟩|⟨h1,h⟩:=aO h
 ·have h:=aN h;subst h;exact(aY.b h1).ret hΓ
 ·refine((aY.b h1).a [.cn [0,1,12,13] []]).lp hΓ (Cj hΓ (fun h=>?_) (by have:=(kj.sl (hr _ (aE (i:=0) rfl))).1;simpa using this) aB 0 rfl h);have h:=aN h;subst h;exact aY.ret hΓ
def lP(aB:aF)(aZ:aF):Option Bool:=(bif (aB.rel:Bytes)==aZ.rel then((mT aB.args aZ.args).bind fun y2=>(some y2))else(some false))
theorem uy{aB:aF}{aZ:aF}{r:Bool}(h:lP aB aZ=some r):Good prog 107 [D.agg (aF.c aB),D.agg (aF.c aZ)] (D.bool r):=by
 refine gd func107 [[none]] 17 fun hr Γ hΓ=>?_
 rw[lP]at h;obtain⟨h1,h⟩|⟨h1,h⟩:=aO h
 ·obtain⟨y2,h3,h⟩:=aD h;have h:=aN h;subst h;exact(((aY.r 5 h1).g (uE h3)).b h1).ret hΓ
 ·have h:=aN h;subst h;exact(aY.r 6 h1).ret hΓ
def jo(aB:aJ)(aZ:aJ)(k1:Option Bool):aJ->Nat->Option Bool
 | [],i1=>(k1)
 |bR::cM,i1=>((iY aZ (i1:Int)).bind fun x30=>((lP bR x30).bind fun Qd=>(bif !(Qd)then(some false)else(jo aB aZ k1 cM (i1+1)))))
def gu(aB:aJ)(aZ:aJ):Option Bool:=(bif (((aB.map aF.c).length:Int):Int) != ((aZ.map aF.c).length:Int)then(some false)else(jo aB aZ (some true) aB 0))
def Cb(aB:aJ)(aZ:aJ)(fS:Int):St:=⟨[(0,D.sl (aB.map aF.c)),(1,D.sl (aZ.map aF.c)),(12,D.int .i64 ((aB.map aF.c).length:Int)),(13,D.int .i64 fS)],[]⟩
theorem BK(hΓ:Γ.nt=27){aB:aJ}{aZ:aJ}{r:Bool}{k1:Option Bool}(gE:k1=some r->Ax Γ N f53 (.q [[none]] (D.bool r)) [1,1,1] ⟨[],[]⟩)(hm1:aB.length<=maxLen):∀(rest:aJ) (i1:Nat),aB.drop i1=rest->jo aB aZ k1 rest i1=some r->Ar Γ N f53 (.q [[none]] (D.bool r)) [1,1,0,1,0] (rest.length+1) (Cb aB aZ (i1:Int)):=by
 intro rest
 induction rest with
 |nil=>
  intro i1 bD h;rw[jo]at h;refine aX fun N1 dH cW=>?_
  exact((aY.ge aF.c bD).a [.hl 0 [] []]).ex hΓ dH (gE h)
 |cons bR cM ih1=>
  intro i1 bD h;rw[jo]at h;refine aX fun N1 dH cW=>?_
  obtain⟨x30,h31,h⟩:=aD h;obtain⟨Qd,h33,h⟩:=aD h;have kW:=(((((aY.lt aF.c bD).a [.n 8]).l (bg aF.c 2 (dc bD) rfl)).l (kG aF.c 2 h31 rfl)).g (uy h33))
  obtain⟨h34,h⟩|⟨h34,h⟩:=aO h
  ·have h:=aN h;subst h;exact(kW.b h34).ret hΓ
  ·exact((kW.b h34).a [.cn [0,1,12,13] []]).ct hΓ cW (iS bD hm1) (ih1 (i1+1) (dn bD) h)
theorem qJ{aB:aJ}{aZ:aJ}{r:Bool}(h:gu aB aZ=some r):Good prog 53 [D.sl (aB.map aF.c),D.sl (aZ.map aF.c)] (D.bool r):=by
 refine gd func53 [[none]] 27 fun hr Γ hΓ=>?_
 rw[gu]at h;obtain⟨h1,h⟩|⟨h1,h⟩:=aO h
 ·have h:=aN h;subst h;exact(aY.b h1).ret hΓ
 ·refine((aY.b h1).a [.cn [0,1,12,13] []]).lp hΓ (BK hΓ (fun h=>?_) (by have:=(kj.sl (hr _ (aE (i:=0) rfl))).1;simpa using this) aB 0 rfl h);have h:=aN h;subst h;exact aY.ret hΓ
def iD(aB:aU)(aZ:aU)(k1:Option Bool):aU->Nat->Option Bool
 | [],i1=>(k1)
 |bR::cM,i1=>((iY aZ (i1:Int)).bind fun x22=>(bif !((bR.var:Bytes)==x22.var&&(bR.value:Bytes)==x22.value)then(some false)else(iD aB aZ k1 cM (i1+1))))
def mS(aB:aU)(aZ:aU):Option Bool:=(bif (((aB.map aa.c).length:Int):Int) != ((aZ.map aa.c).length:Int)then(some false)else(iD aB aZ (some true) aB 0))
def Ck(aB:aU)(aZ:aU)(fS:Int):St:=⟨[(0,D.sl (aB.map aa.c)),(1,D.sl (aZ.map aa.c)),(12,D.int .i64 ((aB.map aa.c).length:Int)),(13,D.int .i64 fS)],[]⟩
theorem BT(hΓ:Γ.nt=26){aB:aU}{aZ:aU}{r:Bool}{k1:Option Bool}(gE:k1=some r->Ax Γ N f109 (.q [[none]] (D.bool r)) [1,1,1] ⟨[],[]⟩)(hm1:aB.length<=maxLen):∀(rest:aU) (i1:Nat),aB.drop i1=rest->iD aB aZ k1 rest i1=some r->Ar Γ N f109 (.q [[none]] (D.bool r)) [1,1,0,1,0] (rest.length+1) (Ck aB aZ (i1:Int)):=by
 intro rest
 induction rest with
 |nil=>
  intro i1 bD h;rw[iD]at h;refine aX fun N1 dH cW=>?_
  exact((aY.ge aa.c bD).a [.hl 0 [] []]).ex hΓ dH (gE h)
 |cons bR cM ih1=>
  intro i1 bD h;rw[iD]at h;refine aX fun N1 dH cW=>?_
  obtain⟨x22,h23,h⟩:=aD h;have kW:=((((aY.lt aa.c bD).a [.n 8]).l (bg aa.c 2 (dc bD) rfl)).l (kG aa.c 2 h23 rfl))
  obtain⟨h24,h⟩|⟨h24,h⟩:=aO h
  ·have h:=aN h;subst h;exact(kW.b h24).ret hΓ
  ·exact((kW.b h24).a [.cn [0,1,12,13] []]).ct hΓ cW (iS bD hm1) (ih1 (i1+1) (dn bD) h)
theorem Ai{aB:aU}{aZ:aU}{r:Bool}(h:mS aB aZ=some r):Good prog 109 [D.sl (aB.map aa.c),D.sl (aZ.map aa.c)] (D.bool r):=by
 refine gd func109 [[none]] 26 fun hr Γ hΓ=>?_
 rw[mS]at h;obtain⟨h1,h⟩|⟨h1,h⟩:=aO h
 ·have h:=aN h;subst h;exact(aY.b h1).ret hΓ
 ·refine((aY.b h1).a [.cn [0,1,12,13] []]).lp hΓ (BT hΓ (fun h=>?_) (by have:=(kj.sl (hr _ (aE (i:=0) rfl))).1;simpa using this) aB 0 rfl h);have h:=aN h;subst h;exact aY.ret hΓ
def gU(aB:ay)(aZ:ay)(k1:Option Bool):ay->Nat->Option Bool
 | [],i1=>(k1)
 |bR::cM,i1=>((iY aZ (i1:Int)).bind fun x42=>((gu bR.facts x42.facts).bind fun y44=>(bif !(y44)then(some false)else((mS bR.bind x42.bind).bind fun y47=>(bif !(y47)then(some false)else(gU aB aZ k1 cM (i1+1)))))))
def lD(aB:ay)(aZ:ay):Option Bool:=(bif (((aB.map aW.c).length:Int):Int) != ((aZ.map aW.c).length:Int)then(some false)else(gU aB aZ (some true) aB 0))
def BW(aB:ay)(aZ:ay)(fS:Int):St:=⟨[(0,D.sl (aB.map aW.c)),(1,D.sl (aZ.map aW.c)),(12,D.int .i64 ((aB.map aW.c).length:Int)),(13,D.int .i64 fS)],[]⟩
theorem Aj(hΓ:Γ.nt=43){aB:ay}{aZ:ay}{r:Bool}{k1:Option Bool}(gE:k1=some r->Ax Γ N f56 (.q [[none]] (D.bool r)) [1,1,1] ⟨[],[]⟩)(hm1:aB.length<=maxLen):∀(rest:ay) (i1:Nat),aB.drop i1=rest->gU aB aZ k1 rest i1=some r->Ar Γ N f56 (.q [[none]] (D.bool r)) [1,1,0,1,0] (rest.length+1) (BW aB aZ (i1:Int)):=by
 intro rest
 induction rest with
 |nil=>
  intro i1 bD h;rw[gU]at h;refine aX fun N1 dH cW=>?_
  exact((aY.ge aW.c bD).a [.hl 0 [] []]).ex hΓ dH (gE h)
 |cons bR cM ih1=>
  intro i1 bD h;rw[gU]at h;refine aX fun N1 dH cW=>?_
  obtain⟨x42,h43,h⟩:=aD h;obtain⟨y44,h45,h⟩:=aD h;have kx:=(((((aY.lt aW.c bD).a [.n 23]).l (bg aW.c 2 (dc bD) rfl)).l (kG aW.c 2 h43 rfl)).g (qJ h45))
  obtain⟨h46,h⟩|⟨h46,h⟩:=aO h
  ·have h:=aN h;subst h;exact((kx.r 13 h46).T 1).ret hΓ
  ·obtain⟨y47,h48,h⟩:=aD h;have lJ:=(((((((kx.r 3 h46).l (bg aW.c 2 (dc bD) rfl)).r 5 h46).l (kG aW.c 2 h43 rfl)).r 3 h46).g (Ai h48)).r 2 h46)
   obtain⟨h49,h⟩|⟨h49,h⟩:=aO h
   ·have h:=aN h;subst h;exact(lJ.b h49).ret hΓ
   ·exact((lJ.b h49).a [.cn [0,1,12,13] []]).ct hΓ cW (iS bD hm1) (ih1 (i1+1) (dn bD) h)
theorem zj{aB:ay}{aZ:ay}{r:Bool}(h:lD aB aZ=some r):Good prog 56 [D.sl (aB.map aW.c),D.sl (aZ.map aW.c)] (D.bool r):=by
 refine gd func56 [[none]] 43 fun hr Γ hΓ=>?_
 rw[lD]at h;obtain⟨h1,h⟩|⟨h1,h⟩:=aO h
 ·have h:=aN h;subst h;exact(aY.b h1).ret hΓ
 ·refine((aY.b h1).a [.cn [0,1,12,13] []]).lp hΓ (Aj hΓ (fun h=>?_) (by have:=(kj.sl (hr _ (aE (i:=0) rfl))).1;simpa using this) aB 0 rfl h);have h:=aN h;subst h;exact aY.ret hΓ
def fY(aB:aI)(aZ:aI)(k1:Option Bool):bM->Nat->Option Bool
 | [],i1=>(k1)
 |bR::cM,i1=>((iY aZ.bG (i1:Int)).bind fun x52=>((ec bR.shape x52.shape).bind fun FT=>(bif !(FT)then(some false)else((gu bR.facts x52.facts).bind fun y57=>(bif !(y57)then(some false)else(fY aB aZ k1 cM (i1+1)))))))
def fZ(aB:aI)(aZ:aI)(k2:Option Bool):bI->Nat->Option Bool
 | [],i2=>(k2)
 |mF::th,i2=>((iY aZ.nodes (i2:Int)).bind fun x108=>(bif (mF.parent:Int) != x108.parent then(some false)else(bif (mF.gB:Int) != x108.gB then(some false)else((iW mF.cond x108.cond).bind fun O9=>(bif !(O9)then(some false)else((lD mF.tokens x108.tokens).bind fun Qb=>(bif !(Qb)then(some false)else(fZ aB aZ k2 th (i2+1)))))))))
def iC(aB:aI)(aZ:aI):Option Bool:=((oT aB.rules aZ.rules).bind fun y1=>(bif !(y1)then(some false)else((pW aB.ends aZ.ends).bind fun y4=>(bif !(y4)then(some false)else((gu aB.facts aZ.facts).bind fun y7=>(bif !(y7)then(some false)else(bif (((aB.bG.map ah.c).length:Int):Int) != ((aZ.bG.map ah.c).length:Int)then(some false)else(bif (((aB.nodes.map Node.c).length:Int):Int) != ((aZ.nodes.map Node.c).length:Int)then(some false)else(fY aB aZ (fZ aB aZ (some true) aB.nodes 0) aB.bG 0)))))))))
def zZ(aB:aI)(aZ:aI)(fS:Int):St:=⟨[(2,D.ptr 0 0),(3,D.ptr 1 0),(51,D.int .i64 ((aB.bG.map ah.c).length:Int)),(52,D.int .i64 fS)],[Ob.box (aI.c aB),Ob.box (aI.c aZ)]⟩
theorem yt(hΓ:Γ.nt=131){aB:aI}{aZ:aI}{r:Bool}{k1:Option Bool}(gE:k1=some r->Ax Γ N f14 (.q [[none]] (D.bool r)) [1,1,1] ⟨[(2,D.ptr 0 0),(3,D.ptr 1 0)],[Ob.box (aI.c aB),Ob.box (aI.c aZ)]⟩)(hm1:aB.bG.length<=maxLen):∀(rest:bM) (i1:Nat),aB.bG.drop i1=rest->fY aB aZ k1 rest i1=some r->Ar Γ N f14 (.q [[none]] (D.bool r)) [1,1,0,1,0] (rest.length+1) (zZ aB aZ (i1:Int)):=by
 intro rest
 induction rest with
 |nil=>
  intro i1 bD h;rw[fY]at h;refine aX fun N1 dH cW=>?_
  exact((aY.ge ah.c bD).a [.hl 0 [2,3] [0,1]]).ex hΓ dH (gE h)
 |cons bR cM ih1=>
  intro i1 bD h;rw[fY]at h;refine aX fun N1 dH cW=>?_
  obtain⟨x52,h53,h⟩:=aD h;obtain⟨FT,h55,h⟩:=aD h;have Av:=(((((aY.lt ah.c bD).a [.n 27]).l (bg ah.c 3 (dc bD) rfl)).l (kG ah.c 3 h53 rfl)).g (l8 h55))
  obtain⟨h56,h⟩|⟨h56,h⟩:=aO h
  ·have h:=aN h;subst h;exact((Av.r 15 h56).T 1).ret hΓ
  ·obtain⟨y57,h58,h⟩:=aD h;have GX:=(((((((Av.r 4 h56).l (bg ah.c 3 (dc bD) rfl)).r 6 h56).l (kG ah.c 3 h53 rfl)).r 3 h56).g (qJ h58)).r 2 h56)
   obtain⟨h59,h⟩|⟨h59,h⟩:=aO h
   ·have h:=aN h;subst h;exact(GX.b h59).ret hΓ
   ·exact((GX.b h59).a [.cn [2,3,51,52] [0,1]]).ct hΓ cW (iS bD hm1) (ih1 (i1+1) (dn bD) h)
def za(aB:aI)(aZ:aI)(fS:Int):St:=⟨[(2,D.ptr 0 0),(3,D.ptr 1 0),(88,D.int .i64 ((aB.nodes.map Node.c).length:Int)),(89,D.int .i64 fS)],[Ob.box (aI.c aB),Ob.box (aI.c aZ)]⟩
theorem yu(hΓ:Γ.nt=131){aB:aI}{aZ:aI}{r:Bool}{k2:Option Bool}(EB:k2=some r->Ax Γ N f14 (.q [[none]] (D.bool r)) [1,1,1,1] ⟨[],[]⟩)(hm2:aB.nodes.length<=maxLen):∀(rest:bI) (i2:Nat),aB.nodes.drop i2=rest->fZ aB aZ k2 rest i2=some r->Ar Γ N f14 (.q [[none]] (D.bool r)) [1,1,1,0,1,0] (rest.length+1) (za aB aZ (i2:Int)):=by
 intro rest
 induction rest with
 |nil=>
  intro i2 hd2 h;rw[fZ]at h;refine aX fun N2 xz ue=>?_
  exact((aY.ge Node.c hd2).a [.hl 0 [] []]).ex hΓ xz (EB h)
 |cons mF th ih2=>
  intro i2 hd2 h;rw[fZ]at h;refine aX fun N2 xz ue=>?_
  obtain⟨x108,h109,h⟩:=aD h;have JW:=((((aY.lt Node.c hd2).a [.n 13]).l (bg Node.c 8 (dc hd2) rfl)).l (kG Node.c 8 h109 rfl))
  obtain⟨h110,h⟩|⟨h110,h⟩:=aO h
  ·have h:=aN h;subst h;exact((JW.r 6 h110).T 15).ret hΓ
  ·have F9:=(JW.r 6 h110)
   obtain⟨h111,h⟩|⟨h111,h⟩:=aO h
   ·have h:=aN h;subst h;exact((F9.r 7 h111).T 8).ret hΓ
   ·obtain⟨O9,h113,h⟩:=aD h;have IM:=(((F9.r 5 h111).g (qt h113)).r 2 h111)
    obtain⟨h114,h⟩|⟨h114,h⟩:=aO h
    ·have h:=aN h;subst h;exact((IM.r 7 h114).T 1).ret hΓ
    ·obtain⟨Qb,h116,h⟩:=aD h;have E8:=(((IM.r 5 h114).g (zj h116)).r 2 h114)
     obtain⟨h117,h⟩|⟨h117,h⟩:=aO h
     ·have h:=aN h;subst h;exact(E8.b h117).ret hΓ
     ·exact((E8.b h117).a [.cn [2,3,88,89] [0,1]]).ct hΓ ue (iS hd2 hm2) (ih2 (i2+1) (dn hd2) h)
theorem nu{aB:aI}{aZ:aI}{r:Bool}(h:iC aB aZ=some r):Good prog 14 [D.agg (aI.c aB),D.agg (aI.c aZ)] (D.bool r):=by
 refine gd func14 [[none]] 131 fun hr Γ hΓ=>?_
 rw[iC]at h;obtain⟨y1,h2,h⟩:=aD h;obtain⟨h3,h⟩|⟨h3,h⟩:=aO h
 ·have h:=aN h;subst h;exact(((aY.g (uD h2)).r 7 h3).T 24).ret hΓ
 ·obtain⟨y4,h5,h⟩:=aD h;have IN:=((((aY.g (uD h2)).r 5 h3).g (BS h5)).r 2 h3)
  obtain⟨h6,h⟩|⟨h6,h⟩:=aO h
  ·have h:=aN h;subst h;exact((IN.r 7 h6).T 17).ret hΓ
  ·obtain⟨y7,h8,h⟩:=aD h;have IP:=(((IN.r 5 h6).g (qJ h8)).r 2 h6)
   obtain⟨h9,h⟩|⟨h9,h⟩:=aO h
   ·have h:=aN h;subst h;exact((IP.r 8 h9).T 9).ret hΓ
   ·have MM:=(IP.r 8 h9)
    obtain⟨h10,h⟩|⟨h10,h⟩:=aO h
    ·have h:=aN h;subst h;exact((MM.r 8 h10).T 1).ret hΓ
    ·have MN:=(MM.r 8 h10)
     obtain⟨h11,h⟩|⟨h11,h⟩:=aO h
     ·have h:=aN h;subst h;exact(MN.b h11).ret hΓ
     ·refine((MN.b h11).a [.cn [2,3,51,52] [0,1]]).lp hΓ (yt hΓ (fun h=>?_) (by have:=(kj.sl (kj.agg (hr _ (aE (i:=0) rfl)) (.sl (aB.bG.map ah.c)) (by simp))).1;simpa using this) aB.bG 0 rfl h);refine(aY.a [.cn [2,3,88,89] [0,1]]).lp hΓ (yu hΓ (fun h=>?_) (by have:=(kj.sl (kj.agg (hr _ (aE (i:=0) rfl)) (.sl (aB.nodes.map Node.c)) (by simp))).1;simpa using this) aB.nodes 0 rfl h);have h:=aN h;subst h;exact aY.ret hΓ
def mQ(aB:aI):Option Bool:=((nF aB.rules).bind fun y1=>(bif y1 then((nE aB.facts).bind fun y4=>(bif y4 then(bif decide ((aB.cL:Int)>=0)then((ou aB.rules aB.facts 0).bind fun y8=>((iC aB y8).bind fun FN=>(some FN)))else(some false))else(some false)))else(some false)))
theorem qI{aB:aI}{r:Bool}(h:mQ aB=some r):Good prog 15 [D.agg (aI.c aB)] (D.bool r):=by
 refine gd func15 [[none]] 25 fun hr Γ hΓ=>?_
 rw[mQ]at h;obtain⟨y1,h2,h⟩:=aD h;have rj:=((aY.a [.n 20]).g (qo h2))
 obtain⟨h3,h⟩|⟨h3,h⟩:=aO h
 ·obtain⟨y4,h5,h⟩:=aD h;have kW:=(((rj.r 3 h3).g (qn h5)).b h3)
  obtain⟨h6,h⟩|⟨h6,h⟩:=aO h
  ·have kx:=(kW.r 4 h6)
   obtain⟨h7,h⟩|⟨h7,h⟩:=aO h
   ·obtain⟨y8,h9,h⟩:=aD h;obtain⟨FN,h11,h⟩:=aD h;have h:=aN h;subst h;exact(((((kx.r 6 h7).g (tO h9)).b h7).g (nu h11)).b h7).ret hΓ
   ·have h:=aN h;subst h;exact(kx.r 8 h7).ret hΓ
  ·have h:=aN h;subst h;exact((kW.r 4 h6).F 8).ret hΓ
 ·have h:=aN h;subst h;exact((rj.r 4 h3).F 12).ret hΓ
def ig(aB:aJ)(aZ:aF)(k1:Option Int):aJ->Nat->Option Int
 | [],i1=>(k1)
 |bR::cM,i1=>((lP bR aZ).bind fun LH=>(bif LH then(some (i1:Int))else(ig aB aZ k1 cM (i1+1))))
def pR(aB:aJ)(aZ:aF):Option Int:=(ig aB aZ (some (-1)) aB 0)
def Db(aB:aJ)(aZ:aF)(fS:Int):St:=⟨[(3,D.ptr 0 0),(7,D.sl (aB.map aF.c)),(8,D.int .i64 ((aB.map aF.c).length:Int)),(9,D.int .i64 fS)],[Ob.box (aF.c aZ)]⟩
theorem CW(hΓ:Γ.nt=19){aB:aJ}{aZ:aF}{r:Int}{k1:Option Int}(gE:k1=some r->Ax Γ N f92 (.q [[none]] (D.int .i64 r)) [1,1] ⟨[],[]⟩)(hm1:aB.length<=maxLen):∀(rest:aJ) (i1:Nat),aB.drop i1=rest->ig aB aZ k1 rest i1=some r->Ar Γ N f92 (.q [[none]] (D.int .i64 r)) [1,0,1,0] (rest.length+1) (Db aB aZ (i1:Int)):=by
 intro rest
 induction rest with
 |nil=>
  intro i1 bD h;rw[ig]at h;refine aX fun N1 dH cW=>?_
  exact((aY.ge aF.c bD).a [.hl 0 [] []]).ex hΓ dH (gE h)
 |cons bR cM ih1=>
  intro i1 bD h;rw[ig]at h;refine aX fun N1 dH cW=>?_
  obtain⟨LH,h22,h⟩:=aD h;have kW:=(((aY.lt aF.c bD).l (bg aF.c 2 (dc bD) rfl)).g (uy h22))
  obtain⟨h23,h⟩|⟨h23,h⟩:=aO h
  ·cases h;exact(kW.b h23).ret hΓ
  ·exact((kW.b h23).a [.cn [3,7,8,9] [0]]).ct hΓ cW (iS bD hm1) (ih1 (i1+1) (dn bD) h)
theorem BE{aB:aJ}{aZ:aF}{r:Int}(h:pR aB aZ=some r):Good prog 92 [D.sl (aB.map aF.c),D.agg (aF.c aZ)] (D.int .i64 r):=by
 refine gd func92 [[none]] 19 fun hr Γ hΓ=>?_
 rw[pR]at h;refine(aY.a [.cn [3,7,8,9] [0]]).lp hΓ (CW hΓ (fun h=>?_) (by have:=(kj.sl (hr _ (aE (i:=0) rfl))).1;simpa using this) aB 0 rfl h);cases h;exact aY.ret hΓ
def cv(aB:aJ)(aZ:aF)(k1:Bool->aJ->Option aJ):aJ->Nat->Bool->aJ->Option aJ
 | [],i1,cu,bY=>(k1 cu bY)
 |bR::cM,i1,cu,bY=>(bif !(cu)then((ez bR aZ).bind fun y93=>(bif decide ((y93:Int)>0)then((dN aZ).bind fun Qq=>(bif room ((bY.map aF.c).length+([[D.str Qq.rel,D.sl (Qq.args.map tx)]]).length) 40 then((dN bR).bind fun ZQ=>(bif room (((bY.map aF.c)++([[D.str Qq.rel,D.sl (Qq.args.map tx)]])).length+([[D.str ZQ.rel,D.sl (ZQ.args.map tx)]]).length) 40 then(cv aB aZ k1 cM (i1+1) true ((bY++([Qq]))++([ZQ])))else none))else none))else((dN bR).bind fun HD=>(bif room ((bY.map aF.c).length+([[D.str HD.rel,D.sl (HD.args.map tx)]]).length) 40 then(cv aB aZ k1 cM (i1+1) cu (bY++([HD])))else none))))else((dN bR).bind fun wN=>(bif room ((bY.map aF.c).length+([[D.str wN.rel,D.sl (wN.args.map tx)]]).length) 40 then(cv aB aZ k1 cM (i1+1) cu (bY++([wN])))else none)))
def qv(aB:aJ)(aZ:aF):Option aJ:=(cv aB aZ (fun(xX:Bool) (kw:aJ)=>(bif !(xX)then((dN aZ).bind fun Qa=>(bif room ((kw.map aF.c).length+([[D.str Qa.rel,D.sl (Qa.args.map tx)]]).length) 40 then(some (kw++([Qa])))else none))else(some kw))) aB 0 false ([]:aJ))
def qV(aB:aJ)(aZ:aF)(cu:Bool)(W1:List aK)(fS:Int):St:=⟨[(3,D.ptr 0 0),(5,D.acc 1),(6,D.bool cu),(9,D.sl (aB.map aF.c)),(10,D.int .i64 ((aB.map aF.c).length:Int)),(11,D.int .i64 fS)],[Ob.box (aF.c aZ),Ob.row .uq 37 2 W1]⟩
theorem Dm(hΓ:Γ.nt=42){aB:aJ}{aZ:aF}{r:aJ}{k1:Bool->aJ->Option aJ}(gE:∀(xX:Bool) (kw:aJ),k1 xX kw=some r->Ax Γ N f182 (.q [[some (37,2)]] (D.fr 37 2 (r.map aF.c))) [1,1,1,1] ⟨[(3,D.ptr 0 0),(5,D.acc 1),(6,D.bool xX)],[Ob.box (aF.c aZ),Ob.row .uq 37 2 (kw.map aF.c)]⟩)(hm1:aB.length<=maxLen):∀(rest:aJ) (i1:Nat) (cu:Bool) (bY:aJ),aB.drop i1=rest->cv aB aZ k1 rest i1 cu bY=some r->Ar Γ N f182 (.q [[some (37,2)]] (D.fr 37 2 (r.map aF.c))) [1,1,1,0,1,0] (rest.length+1) (qV aB aZ cu (bY.map aF.c) (i1:Int)):=by
 intro rest
 induction rest with
 |nil=>
  intro i1 cu bY bD h;rw[cv]at h;refine aX fun N1 dH cW=>?_
  exact((aY.ge aF.c bD).a [.hl 0 [3,5,6] [0,1]]).ex hΓ dH (gE cu bY h)
 |cons bR cM ih1=>
  intro i1 cu bY bD h;rw[cv]at h;refine aX fun N1 dH cW=>?_
  have kx:=((aY.lt aF.c bD).l (bg aF.c 2 (dc bD) rfl))
  obtain⟨h92,h⟩|⟨h92,h⟩:=aO h
  ·obtain⟨y93,h94,h⟩:=aD h;have lJ:=(((kx.r 3 h92).g (nj h94)).r 2 h92)
   obtain⟨h95,h⟩|⟨h95,h⟩:=aO h
   ·obtain⟨Qq,h97,h⟩:=aD h;obtain⟨h98,h⟩:=bh h;obtain⟨ZQ,h100,h⟩:=aD h;obtain⟨h101,h⟩:=bh h;exact((((((lJ.b h95).g (fV h97)).w (bz h98)).g (fV h100)).w (bz h101)).a [.cn [3,5,6,9,10,11] [0,8]]).cs hΓ cW (qV aB aZ true (((bY.map aF.c)++([[D.str Qq.rel,D.sl (Qq.args.map tx)]]))++([[D.str ZQ.rel,D.sl (ZQ.args.map tx)]])) (IntKind.i64.wrap ((i1:Int)+1))) (by first| (simp only[iS bD hm1,mA]<;>rfl)| (simp only[iS bD hm1,mA,aF.c,aa.c,aM.c,Action.c,aL.c,aW.c,fH.c,ah.c,Node.c,aI.c,fP.c]<;>rfl)) (ih1 (i1+1) true ((bY++([Qq]))++([ZQ])) (dn bD) h)
   ·obtain⟨HD,h103,h⟩:=aD h;obtain⟨h104,h⟩:=bh h;exact((((lJ.b h95).g (fV h103)).w (bz h104)).a [.cn [3,5,6,9,10,11] [0,5]]).cs hΓ cW (qV aB aZ cu ((bY.map aF.c)++([[D.str HD.rel,D.sl (HD.args.map tx)]])) (IntKind.i64.wrap ((i1:Int)+1))) (by first| (simp only[iS bD hm1,mA]<;>rfl)| (simp only[iS bD hm1,mA,aF.c,aa.c,aM.c,Action.c,aL.c,aW.c,fH.c,ah.c,Node.c,aI.c,fP.c]<;>rfl)) (ih1 (i1+1) cu (bY++([HD])) (dn bD) h)
  ·obtain⟨wN,h106,h⟩:=aD h;obtain⟨h107,h⟩:=bh h;exact(((((kx.r 5 h92).F 1).g (fV h106)).w (bz h107)).a [.cn [3,5,6,9,10,11] [0,5]]).cs hΓ cW (qV aB aZ cu ((bY.map aF.c)++([[D.str wN.rel,D.sl (wN.args.map tx)]])) (IntKind.i64.wrap ((i1:Int)+1))) (by first| (simp only[iS bD hm1,mA]<;>rfl)| (simp only[iS bD hm1,mA,aF.c,aa.c,aM.c,Action.c,aL.c,aW.c,fH.c,ah.c,Node.c,aI.c,fP.c]<;>rfl)) (ih1 (i1+1) cu (bY++([wN])) (dn bD) h)
theorem Ci{aB:aJ}{aZ:aF}{r:aJ}(h:qv aB aZ=some r):Good prog 182 [D.sl (aB.map aF.c),D.agg (aF.c aZ)] (D.fr 37 2 (r.map aF.c)):=by
 refine gd func182 [[some (37,2)]] 42 fun hr Γ hΓ=>?_
 rw[qv]at h;refine(aY.a [.H8 5,.cn [3,5,6,9,10,11] [0,1]]).lp hΓ (Dm hΓ (fun xX kw h=>?_) (by have:=(kj.sl (hr _ (aE (i:=0) rfl))).1;simpa using this) aB 0 false ([]:aJ) rfl h);obtain⟨h108,h⟩|⟨h108,h⟩:=aO h
 ·obtain⟨Qa,h110,h⟩:=aD h;obtain⟨h111,h⟩:=bh h;cases h;exact(((aY.b h108).g (fV h110)).w (bz h111)).rts hΓ (D.fr 37 2 ((kw.map aF.c)++([[D.str Qa.rel,D.sl (Qa.args.map tx)]]))) (by first|rfl| (simp only[mA]<;>rfl)| (simp only[eT,mA]<;>rfl))
 ·have h:=aN h;subst h;exact(aY.b h108).ret hΓ
def qm(aB:aJ)(aZ:aF):Option (aJ×Bool):=((nE aB).bind fun y1=>(bif !(y1)then((cQ aB).bind fun y4=>(some (y4,false)))else((mG aZ).bind fun y6=>(bif !(y6)then((cQ aB).bind fun y9=>(some (y9,false)))else((pR aB aZ).bind fun Mr=>(bif decide ((Mr:Int)>=0)then((cQ aB).bind fun Mh=>(some (Mh,false)))else(bif decide ((((aB.map aF.c).length:Int):Int)>=24)then((cQ aB).bind fun U7=>(some (U7,false)))else((qv aB aZ).bind fun LG=>(some (LG,true))))))))))
theorem vm{aB:aJ}{aZ:aF}{r:aJ×Bool}(h:qm aB aZ=some r):Good prog 118 [D.sl (aB.map aF.c),D.agg (aF.c aZ)] (D.iQ [D.fr 37 2 (r.1.map aF.c),D.bool r.2]):=by
 refine gd func118 [[some (37,2)],[none]] 30 fun hr Γ hΓ=>?_
 rw[qm]at h;obtain⟨y1,h2,h⟩:=aD h;obtain⟨h3,h⟩|⟨h3,h⟩:=aO h
 ·obtain⟨y4,h5,h⟩:=aD h;cases h;exact((((aY.g (qn h2)).r 4 h3).T 10).g (eF h5)).ret hΓ
 ·obtain⟨y6,h7,h⟩:=aD h;have rj:=((((aY.g (qn h2)).r 2 h3).g (sR h7)).r 2 h3)
  obtain⟨h8,h⟩|⟨h8,h⟩:=aO h
  ·obtain⟨y9,h10,h⟩:=aD h;cases h;exact(((rj.r 5 h8).T 5).g (eF h10)).ret hΓ
  ·obtain⟨Mr,h12,h⟩:=aD h;have kW:=(((rj.r 3 h8).g (BE h12)).r 2 h8)
   obtain⟨h13,h⟩|⟨h13,h⟩:=aO h
   ·obtain⟨Mh,h15,h⟩:=aD h;cases h;exact(((kW.r 4 h13).T 1).g (eF h15)).ret hΓ
   ·have kx:=(kW.r 4 h13)
    obtain⟨h16,h⟩|⟨h16,h⟩:=aO h
    ·obtain⟨U7,h18,h⟩:=aD h;cases h;exact((kx.b h16).g (eF h18)).ret hΓ
    ·obtain⟨LG,h20,h⟩:=aD h;cases h;exact((kx.b h16).g (Ci h20)).ret hΓ
def eD(aB:aJ)(aZ:aJ)(k1:Option Int):aJ->Nat->Option Int
 | [],i1=>(k1)
 |bR::cM,i1=>(bif decide (((i1:Int):Int)<((aZ.map aF.c).length:Int))then((iY aZ (i1:Int)).bind fun x34=>((ez bR x34).bind fun Mj=>(bif (Mj:Int) != 0 then(some Mj)else(eD aB aZ k1 cM (i1+1)))))else(k1))
def l9(aB:aJ)(aZ:aJ):Option Int:=(eD aB aZ ((gQ ((aB.map aF.c).length:Int) ((aZ.map aF.c).length:Int)).bind fun CR=>(some CR)) aB 0)
def wz(aB:aJ)(aZ:aJ)(fS:Int):St:=⟨[(0,D.sl (aB.map aF.c)),(1,D.sl (aZ.map aF.c)),(5,D.int .i64 fS)],[]⟩
theorem wF(hΓ:Γ.nt=36){aB:aJ}{aZ:aJ}{r:Int}{k1:Option Int}(gE:k1=some r->Ax Γ N f63 (.q [[none]] (D.int .i64 r)) [1,1] ⟨[(0,D.sl (aB.map aF.c)),(1,D.sl (aZ.map aF.c))],[]⟩)(hm1:aB.length<=maxLen):∀(rest:aJ) (i1:Nat),aB.drop i1=rest->eD aB aZ k1 rest i1=some r->Ar Γ N f63 (.q [[none]] (D.int .i64 r)) [1,0,1,0] (rest.length+1) (wz aB aZ (i1:Int)):=by
 intro rest
 induction rest with
 |nil=>
  intro i1 bD h;rw[eD]at h;refine aX fun N1 dH cW=>?_
  exact(((((((aY.ge aF.c bD).ge aF.c bD).ge aF.c bD).ge aF.c bD).ge aF.c bD).F 1).a [.hl 0 [0,1] []]).ex hΓ dH (gE h)
 |cons bR cM ih1=>
  intro i1 bD h;rw[eD]at h;refine aX fun N1 dH cW=>?_
  have kx:=(((((aY.lt aF.c bD).lt aF.c bD).lt aF.c bD).lt aF.c bD).lt aF.c bD)
  obtain⟨h33,h⟩|⟨h33,h⟩:=aO h
  ·obtain⟨x34,h35,h⟩:=aD h;obtain⟨Mj,h37,h⟩:=aD h;have lJ:=(((((kx.b h33).a [.n 8]).l (bg aF.c 2 (dc bD) rfl)).l (kG aF.c 2 h35 rfl)).g (nj h37))
   obtain⟨h38,h⟩|⟨h38,h⟩:=aO h
   ·have h:=aN h;subst h;exact(lJ.b h38).ret hΓ
   ·exact((lJ.b h38).a [.cn [0,1,5] []]).ct hΓ cW (iS bD hm1) (ih1 (i1+1) (dn bD) h)
  ·exact((kx.b h33).a [.hl 0 [0,1] []]).ex hΓ dH (gE h)
theorem vQ{aB:aJ}{aZ:aJ}{r:Int}(h:l9 aB aZ=some r):Good prog 63 [D.sl (aB.map aF.c),D.sl (aZ.map aF.c)] (D.int .i64 r):=by
 refine gd func63 [[none]] 36 fun hr Γ hΓ=>?_
 rw[l9]at h;refine(aY.a [.cn [0,1,5] []]).lp hΓ (wF hΓ (fun h=>?_) (by have:=(kj.sl (hr _ (aE (i:=0) rfl))).1;simpa using this) aB 0 rfl h);obtain⟨CR,h40,h⟩:=aD h;have h:=aN h;subst h;exact(aY.g (oP h40)).ret hΓ
def ko(aB:aW)(aZ:aW):Option Int:=((l9 aB.facts aZ.facts).bind fun y1=>(some y1))
theorem xa{aB:aW}{aZ:aW}{r:Int}(h:ko aB aZ=some r):Good prog 20 [D.agg (aW.c aB),D.agg (aW.c aZ)] (D.int .i64 r):=by
 refine gd func20 [[none]] 10 fun hr Γ hΓ=>?_
 rw[ko]at h;obtain⟨y1,h2,h⟩:=aD h;have h:=aN h;subst h;exact(aY.g (vQ h2)).ret hΓ
def iy(aB:ay)(aZ:aW)(k1:Option Bool):ay->Nat->Option Bool
 | [],i1=>(k1)
 |bR::cM,i1=>((ko bR aZ).bind fun LH=>(bif (LH:Int)==0 then(some true)else(iy aB aZ k1 cM (i1+1))))
def pV(aB:ay)(aZ:aW):Option Bool:=(iy aB aZ (some false) aB 0)
def Dl(aB:ay)(aZ:aW)(fS:Int):St:=⟨[(3,D.ptr 0 0),(7,D.sl (aB.map aW.c)),(8,D.int .i64 ((aB.map aW.c).length:Int)),(9,D.int .i64 fS)],[Ob.box (aW.c aZ)]⟩
theorem Ch(hΓ:Γ.nt=18){aB:ay}{aZ:aW}{r:Bool}{k1:Option Bool}(gE:k1=some r->Ax Γ N f183 (.q [[none]] (D.bool r)) [1,1] ⟨[],[]⟩)(hm1:aB.length<=maxLen):∀(rest:ay) (i1:Nat),aB.drop i1=rest->iy aB aZ k1 rest i1=some r->Ar Γ N f183 (.q [[none]] (D.bool r)) [1,0,1,0] (rest.length+1) (Dl aB aZ (i1:Int)):=by
 intro rest
 induction rest with
 |nil=>
  intro i1 bD h;rw[iy]at h;refine aX fun N1 dH cW=>?_
  exact((aY.ge aW.c bD).a [.hl 0 [] []]).ex hΓ dH (gE h)
 |cons bR cM ih1=>
  intro i1 bD h;rw[iy]at h;refine aX fun N1 dH cW=>?_
  obtain⟨LH,h22,h⟩:=aD h;have kW:=(((aY.lt aW.c bD).l (bg aW.c 2 (dc bD) rfl)).g (xa h22))
  obtain⟨h23,h⟩|⟨h23,h⟩:=aO h
  ·have h:=aN h;subst h;exact(kW.b h23).ret hΓ
  ·exact((kW.b h23).a [.cn [3,7,8,9] [0]]).ct hΓ cW (iS bD hm1) (ih1 (i1+1) (dn bD) h)
theorem BR{aB:ay}{aZ:aW}{r:Bool}(h:pV aB aZ=some r):Good prog 183 [D.sl (aB.map aW.c),D.agg (aW.c aZ)] (D.bool r):=by
 refine gd func183 [[none]] 18 fun hr Γ hΓ=>?_
 rw[pV]at h;refine(aY.a [.cn [3,7,8,9] [0]]).lp hΓ (Ch hΓ (fun h=>?_) (by have:=(kj.sl (hr _ (aE (i:=0) rfl))).1;simpa using this) aB 0 rfl h);have h:=aN h;subst h;exact aY.ret hΓ
end Go.Cx
namespace Go.Cx
open Go.RowKit Go.Proofs Tryz
set_option maxRecDepth 100000
variable{Γ:sQ}{N:Nat->St->Prop}
def iL(aB:aI)(cY:aF)(y3:aI×Unit)(kA:Int)(i1:Nat)(bR:Node)(x313:Node)(k2:Int->Int->Option aI):ay->Nat->Int->Int->Option aI
 | [],i2,yC,yD=>(k2 yC yD)
 |mF::th,i2,yC,yD=>((iY aB.nodes bR.parent).bind fun x359=>((pV x359.tokens mF).bind fun a1o=>(bif a1o then(iL aB cY y3 kA i1 bR x313 k2 th (i2+1) (IntKind.i64.wrap (yC+1)) yD)else(iL aB cY y3 kA i1 bR x313 k2 th (i2+1) yC (IntKind.i64.wrap (yD+1))))))
def eX(aB:aI)(cY:aF)(y3:aI×Unit)(k1:Int->Option aI):bI->Nat->Int->Option aI
 | [],i1,kA=>(k1 kA)
 |bR::cM,i1,kA=>(bif ((i1:Int):Int)==0 then(eX aB cY y3 k1 cM (i1+1) kA)else((iY y3.1.nodes bR.parent).bind fun x313=>(bif decide (x313.tokens.length<=maxLen)then(iL aB cY y3 kA i1 bR x313 (fun(Jn:Int) (DV:Int)=>(bif decide ((bR.gB:Int)<0)then(eX aB cY y3 k1 cM (i1+1) (IntKind.i64.wrap (kA+DV)))else((iY y3.1.bG bR.gB).bind fun x365=>((gr x365.shape cY ([])).bind fun Qe=>(bif Qe.2 then(eX aB cY y3 k1 cM (i1+1) (IntKind.i64.wrap ((IntKind.i64.wrap (kA+(IntKind.i64.wrap (DV*((x365.facts.map aF.c).length:Int)))))+Jn)))else(eX aB cY y3 k1 cM (i1+1) (IntKind.i64.wrap (kA+(IntKind.i64.wrap (DV*((x365.facts.map aF.c).length:Int))))))))))) x313.tokens 0 0 0)else none)))
def qu(aB:aI)(aZ:aJ)(cY:aF):Option aI:=((gR aB).bind fun y1=>((gj y1 aZ).bind fun y3=>(bif decide (y3.1.nodes.length<=maxLen)then(eX aB cY y3 (fun(pL:Int)=>(some (⟨y3.1.rules,y3.1.ends,y3.1.bG,y3.1.nodes,y3.1.facts,pL⟩:aI))) y3.1.nodes 0 y3.1.cL)else none)))
def EY(aB:aI)(cY:aF)(y3:aI×Unit)(kA:Int)(fS:Int):St:=⟨[(3,D.ptr 0 0),(5,D.ptr 1 0),(6,D.ptr 2 0),(7,D.ptr 3 0),(22,D.acc 4),(23,D.int .i64 ((y3.1.nodes.map Node.c).length:Int)),(24,D.int .i64 fS)],[Ob.box (aI.c aB),Ob.box (aF.c cY),Ob.box [D.nil,D.nil,D.nil,D.nil,D.nil,D.int .i64 0],Ob.box [D.acc 5,D.acc 6,D.acc 7,D.acc 4,D.acc 8,D.int .i64 kA],Ob.row .uq 50 8 (y3.1.nodes.map Node.c),Ob.row .uq 80 4 (y3.1.rules.map aL.c),Ob.row .uq 3 1 (y3.1.ends.map lZ),Ob.row .uq 93 3 (y3.1.bG.map ah.c),Ob.row .uq 37 2 (y3.1.facts.map aF.c)]⟩
def EZ(aB:aI)(cY:aF)(y3:aI×Unit)(kA:Int)(i1:Nat)(bR:Node)(x313:Node)(yC:Int)(yD:Int)(fS:Int):St:=⟨[(3,D.ptr 0 0),(5,D.ptr 1 0),(6,D.ptr 2 0),(7,D.ptr 3 0),(9,D.ptr 4 0),(10,D.int .i64 yC),(11,D.int .i64 yD),(22,D.acc 5),(23,D.int .i64 ((y3.1.nodes.map Node.c).length:Int)),(24,D.int .i64 (i1:Int)),(37,D.sl (x313.tokens.map aW.c)),(38,D.int .i64 ((x313.tokens.map aW.c).length:Int)),(39,D.int .i64 fS)],[Ob.box (aI.c aB),Ob.box (aF.c cY),Ob.box [D.nil,D.nil,D.nil,D.nil,D.nil,D.int .i64 0],Ob.box [D.acc 6,D.acc 7,D.acc 8,D.acc 5,D.acc 9,D.int .i64 kA],Ob.box [D.int .i64 bR.parent,D.int .i64 bR.cond.kind,D.str bR.cond.pat.rel,D.sl (bR.cond.pat.args.map tx),D.str bR.cond.left,D.str bR.cond.right,D.int .i64 bR.gB,D.sl (bR.tokens.map aW.c)],Ob.row .uq 50 8 (y3.1.nodes.map Node.c),Ob.row .uq 80 4 (y3.1.rules.map aL.c),Ob.row .uq 3 1 (y3.1.ends.map lZ),Ob.row .uq 93 3 (y3.1.bG.map ah.c),Ob.row .uq 37 2 (y3.1.facts.map aF.c)]⟩
theorem Di(hΓ:Γ.nt=95){aB:aI}{cY:aF}{y3:aI×Unit}{kA:Int}{i1:Nat}{bR:Node}{x313:Node}{r:aI}{k2:Int->Int->Option aI}(EB:∀(Jn:Int) (DV:Int),k2 Jn DV=some r->Ax Γ N f119 (.q [[some (80,4),some (3,1),some (93,3),some (50,8),some (37,2),none]] (D.agg [D.fr 80 4 (r.rules.map aL.c),D.fr 3 1 (r.ends.map lZ),D.fr 93 3 (r.bG.map ah.c),D.fr 50 8 (r.nodes.map Node.c),D.fr 37 2 (r.facts.map aF.c),D.int .i64 r.cL])) [1,1,1,0,1,0,0,1,1,0,0,1,1,1,1] ⟨[(3,D.ptr 0 0),(5,D.ptr 1 0),(6,D.ptr 2 0),(7,D.ptr 3 0),(9,D.ptr 4 0),(10,D.int .i64 Jn),(11,D.int .i64 DV),(22,D.acc 5),(23,D.int .i64 ((y3.1.nodes.map Node.c).length:Int)),(24,D.int .i64 (i1:Int))],[Ob.box (aI.c aB),Ob.box (aF.c cY),Ob.box [D.nil,D.nil,D.nil,D.nil,D.nil,D.int .i64 0],Ob.box [D.acc 6,D.acc 7,D.acc 8,D.acc 5,D.acc 9,D.int .i64 kA],Ob.box [D.int .i64 bR.parent,D.int .i64 bR.cond.kind,D.str bR.cond.pat.rel,D.sl (bR.cond.pat.args.map tx),D.str bR.cond.left,D.str bR.cond.right,D.int .i64 bR.gB,D.sl (bR.tokens.map aW.c)],Ob.row .uq 50 8 (y3.1.nodes.map Node.c),Ob.row .uq 80 4 (y3.1.rules.map aL.c),Ob.row .uq 3 1 (y3.1.ends.map lZ),Ob.row .uq 93 3 (y3.1.bG.map ah.c),Ob.row .uq 37 2 (y3.1.facts.map aF.c)]⟩)(hm2:x313.tokens.length<=maxLen):∀(rest:ay) (i2:Nat) (yC:Int) (yD:Int),x313.tokens.drop i2=rest->iL aB cY y3 kA i1 bR x313 k2 rest i2 yC yD=some r->Ar Γ N f119 (.q [[some (80,4),some (3,1),some (93,3),some (50,8),some (37,2),none]] (D.agg [D.fr 80 4 (r.rules.map aL.c),D.fr 3 1 (r.ends.map lZ),D.fr 93 3 (r.bG.map ah.c),D.fr 50 8 (r.nodes.map Node.c),D.fr 37 2 (r.facts.map aF.c),D.int .i64 r.cL])) [1,1,1,0,1,0,0,1,1,0,0,1,1,1,0,1,0] (rest.length+1) (EZ aB cY y3 kA i1 bR x313 yC yD (i2:Int)):=by
 intro rest
 induction rest with
 |nil=>
  intro i2 yC yD hd2 h;rw[iL]at h;refine aX fun N2 xz ue=>?_
  exact((aY.ge aW.c hd2).a [.hl 5 [3,5,6,7,9,10,11,22,23,24] [0,1,2,3,4,5,6,7,8,9]]).ex hΓ xz (EB yC yD h)
 |cons mF th ih2=>
  intro i2 yC yD hd2 h;rw[iL]at h;refine aX fun N2 xz ue=>?_
  obtain⟨x359,h360,h⟩:=aD h;obtain⟨a1o,h362,h⟩:=aD h;have IP:=(((((aY.lt aW.c hd2).l (bg aW.c 2 (dc hd2) rfl)).a [.n 8]).l (kG Node.c 8 h360 rfl)).g (BR h362))
  obtain⟨h363,h⟩|⟨h363,h⟩:=aO h
  ·exact((IP.b h363).a [.cn [3,5,6,7,9,10,11,22,23,24,37,38,39] [0,1,2,3,4,5,6,7,8,9]]).ct hΓ ue (iS hd2 hm2) (ih2 (i2+1) (IntKind.i64.wrap (yC+1)) yD (dn hd2) h)
  ·exact((IP.b h363).a [.cn [3,5,6,7,9,10,11,22,23,24,37,38,39] [0,1,2,3,4,5,6,7,8,9]]).ct hΓ ue (iS hd2 hm2) (ih2 (i2+1) yC (IntKind.i64.wrap (yD+1)) (dn hd2) h)
theorem Dh(hΓ:Γ.nt=95){aB:aI}{cY:aF}{y3:aI×Unit}{r:aI}{k1:Int->Option aI}(gE:∀(pL:Int),k1 pL=some r->Ax Γ N f119 (.q [[some (80,4),some (3,1),some (93,3),some (50,8),some (37,2),none]] (D.agg [D.fr 80 4 (r.rules.map aL.c),D.fr 3 1 (r.ends.map lZ),D.fr 93 3 (r.bG.map ah.c),D.fr 50 8 (r.nodes.map Node.c),D.fr 37 2 (r.facts.map aF.c),D.int .i64 r.cL])) [1,1,1,1] ⟨[(6,D.ptr 0 0),(7,D.ptr 1 0)],[Ob.box [D.nil,D.nil,D.nil,D.nil,D.nil,D.int .i64 0],Ob.box [D.acc 2,D.acc 3,D.acc 4,D.acc 5,D.acc 6,D.int .i64 pL],Ob.row .uq 80 4 (y3.1.rules.map aL.c),Ob.row .uq 3 1 (y3.1.ends.map lZ),Ob.row .uq 93 3 (y3.1.bG.map ah.c),Ob.row .uq 50 8 (y3.1.nodes.map Node.c),Ob.row .uq 37 2 (y3.1.facts.map aF.c)]⟩)(hm1:y3.1.nodes.length<=maxLen):∀(rest:bI) (i1:Nat) (kA:Int),y3.1.nodes.drop i1=rest->eX aB cY y3 k1 rest i1 kA=some r->Ar Γ N f119 (.q [[some (80,4),some (3,1),some (93,3),some (50,8),some (37,2),none]] (D.agg [D.fr 80 4 (r.rules.map aL.c),D.fr 3 1 (r.ends.map lZ),D.fr 93 3 (r.bG.map ah.c),D.fr 50 8 (r.nodes.map Node.c),D.fr 37 2 (r.facts.map aF.c),D.int .i64 r.cL])) [1,1,1,0,1,0] (rest.length+1) (EY aB cY y3 kA (i1:Int)):=by
 intro rest
 induction rest with
 |nil=>
  intro i1 kA bD h;rw[eX]at h;refine aX fun N1 dH cW=>?_
  exact((aY.ge Node.c bD).a [.hl 0 [6,7] [2,3,5,6,7,4,8]]).ex hΓ dH (gE kA h)
 |cons bR cM ih1=>
  intro i1 kA bD h;rw[eX]at h;refine aX fun N1 dH cW=>?_
  have MM:=(((aY.lt Node.c bD).i (mw Node.c 8 (dc bD))).o 8 8 .uq (cP Node.c (dc bD)))
  obtain⟨h312,h⟩|⟨h312,h⟩:=aO h
  ·exact((MM.b h312).a [.cn [3,5,6,7,22,23,24] [0,1,2,3,4,5,6,7,8]]).ct hΓ cW (iS bD hm1) (ih1 (i1+1) kA (dn bD) h)
  ·obtain⟨x313,h314,h⟩:=aD h;obtain⟨h370,h⟩:=bh h;refine((((MM.b h312).i (iV Node.c 8 h314)).o 8 8 .uq (cP Node.c (fQ h314))).a [.cn [3,5,6,7,9,10,11,22,23,24,37,38,39] [0,1,2,3,9,4,5,6,7,8]]).lp hΓ (Di hΓ (fun Jn DV h=>?_) (bf h370) x313.tokens 0 0 0 rfl h);obtain⟨h364,h⟩|⟨h364,h⟩:=aO h
   ·exact((aY.b h364).a [.cn [3,5,6,7,22,23,24] [0,1,2,3,5,6,7,8,9]]).ct hΓ cW (iS bD hm1) (ih1 (i1+1) (IntKind.i64.wrap (kA+DV)) (dn bD) h)
   ·obtain⟨x365,h366,h⟩:=aD h;obtain⟨Qe,h368,h⟩:=aD h;have MN:=(((((aY.b h364).i (iV ah.c 3 h366)).o 3 3 .uq (cP ah.c (fQ h366))).a [.d (D.iQ [D.fr 137 2 (Qe.1.map aa.c),D.bool Qe.2])]).w (show Good prog 184 [D.agg (aF.c x365.shape),D.agg (aF.c cY),D.sl ([])] (D.iQ [D.fr 137 2 (Qe.1.map aa.c),D.bool Qe.2])from by first| (simpa only[bP,bO,cA,br,bt]using mr h368)|exact mr h368))
    obtain⟨h369,h⟩|⟨h369,h⟩:=aO h
    ·exact((MN.b h369).a [.cn [3,5,6,7,22,23,24] [0,1,2,3,5,6,7,8,9]]).ct hΓ cW (iS bD hm1) (ih1 (i1+1) (IntKind.i64.wrap ((IntKind.i64.wrap (kA+(IntKind.i64.wrap (DV*((x365.facts.map aF.c).length:Int)))))+Jn)) (dn bD) h)
    ·exact((MN.b h369).a [.cn [3,5,6,7,22,23,24] [0,1,2,3,5,6,7,8,9]]).ct hΓ cW (iS bD hm1) (ih1 (i1+1) (IntKind.i64.wrap (kA+(IntKind.i64.wrap (DV*((x365.facts.map aF.c).length:Int))))) (dn bD) h)
theorem Ce{aB:aI}{aZ:aJ}{cY:aF}{r:aI}(h:qu aB aZ cY=some r):Good prog 119 [D.agg (aI.c aB),D.sl (aZ.map aF.c),D.agg (aF.c cY)] (D.agg [D.fr 80 4 (r.rules.map aL.c),D.fr 3 1 (r.ends.map lZ),D.fr 93 3 (r.bG.map ah.c),D.fr 50 8 (r.nodes.map Node.c),D.fr 37 2 (r.facts.map aF.c),D.int .i64 r.cL]):=by
 refine gd func119 [[some (80,4),some (3,1),some (93,3),some (50,8),some (37,2),none]] 95 fun hr Γ hΓ=>?_
 rw[qu]at h;obtain⟨y1,h2,h⟩:=aD h;obtain⟨y3,h4,h⟩:=aD h;obtain⟨h371,h⟩:=bh h;refine(((aY.g (lB h2)).hp [[some (80,4),some (3,1),some (93,3),some (50,8),some (37,2),none],[none]] (qU h4)).a [.cn [3,5,6,7,22,23,24] [0,1,2,8,12,9,10,11,13]]).lp hΓ (Dh hΓ (fun pL h=>?_) (bf h371) y3.1.nodes 0 y3.1.cL rfl h);cases h;exact aY.ret hΓ
def zh(aB:aI)(aZ:aF):Option (aI×Bool):=((qm aB.facts aZ).bind fun y1=>(bif !(y1.2)then((gR aB).bind fun y4=>(some (y4,false)))else((qu aB y1.1 aZ).bind fun y6=>(some (y6,true)))))
theorem Gr{aB:aI}{aZ:aF}{r:aI×Bool}(h:zh aB aZ=some r):Good prog 64 [D.agg (aI.c aB),D.agg (aF.c aZ)] (D.iQ [D.agg [D.fr 80 4 (r.1.rules.map aL.c),D.fr 3 1 (r.1.ends.map lZ),D.fr 93 3 (r.1.bG.map ah.c),D.fr 50 8 (r.1.nodes.map Node.c),D.fr 37 2 (r.1.facts.map aF.c),D.int .i64 r.1.cL],D.bool r.2]):=by
 refine gd func64 [[some (80,4),some (3,1),some (93,3),some (50,8),some (37,2),none],[none]] 23 fun hr Γ hΓ=>?_
 rw[zh]at h;obtain⟨y1,h2,h⟩:=aD h;obtain⟨h3,h⟩|⟨h3,h⟩:=aO h
 ·obtain⟨y4,h5,h⟩:=aD h;cases h;exact(((aY.g (vm h2)).b h3).g (lB h5)).ret hΓ
 ·obtain⟨y6,h7,h⟩:=aD h;cases h;exact(((aY.g (vm h2)).b h3).g (Ce h7)).ret hΓ
def lV(aB:aI)(aZ:aF):Option (aI×Bool):=((mQ aB).bind fun y1=>(bif !(y1)then((gR aB).bind fun y4=>(some (y4,false)))else((zh aB aZ).bind fun y6=>(some (y6.1,y6.2)))))
theorem nr{aB:aI}{aZ:aF}{r:aI×Bool}(h:lV aB aZ=some r):Good prog 21 [D.agg (aI.c aB),D.agg (aF.c aZ)] (D.iQ [D.agg [D.fr 80 4 (r.1.rules.map aL.c),D.fr 3 1 (r.1.ends.map lZ),D.fr 93 3 (r.1.bG.map ah.c),D.fr 50 8 (r.1.nodes.map Node.c),D.fr 37 2 (r.1.facts.map aF.c),D.int .i64 r.1.cL],D.bool r.2]):=by
 refine gd func21 [[some (80,4),some (3,1),some (93,3),some (50,8),some (37,2),none],[none]] 16 fun hr Γ hΓ=>?_
 rw[lV]at h;obtain⟨y1,h2,h⟩:=aD h;obtain⟨h3,h⟩|⟨h3,h⟩:=aO h
 ·obtain⟨y4,h5,h⟩:=aD h;cases h;exact(((aY.g (qI h2)).b h3).g (lB h5)).ret hΓ
 ·obtain⟨y6,h7,h⟩:=aD h;cases h;exact(((aY.g (qI h2)).b h3).g (Gr h7)).ret hΓ
def er(aZ:aJ)(k1:Int->Int->ar->b9->bM->bI->aJ->Option (aI×Int)):aJ->Nat->Int->Int->ar->b9->bM->bI->aJ->Option (aI×Int)
 | [],i1,oa,j7,jS,cm,uV,nC,uW=>(k1 oa j7 jS cm uV nC uW)
 |bR::cM,i1,oa,j7,jS,cm,uV,nC,uW=>((lV (⟨jS,cm,uV,nC,uW,j7⟩:aI) bR).bind fun xY=>(bif xY.2 then(er aZ k1 cM (i1+1) (IntKind.i64.wrap (oa+1)) xY.1.cL xY.1.rules xY.1.ends xY.1.bG xY.1.nodes xY.1.facts)else(er aZ k1 cM (i1+1) oa j7 jS cm uV nC uW)))
def ic(aB:aI)(aZ:aJ):Option (aI×Int):=((gR aB).bind fun y1=>(er aZ (fun(UC:Int) (pL:Int) (mC:ar) (fC:b9) (G7:bM) (rS:bI) (G8:aJ)=>(some ((⟨mC,fC,G7,rS,G8,pL⟩:aI),UC))) aZ 0 0 y1.cL y1.rules y1.ends y1.bG y1.nodes y1.facts))
def AX(aZ:aJ)(oa:Int)(j7:Int)(W2:List aK)(W3:List aK)(W4:List aK)(W5:List aK)(W6:List aK)(fS:Int):St:=⟨[(4,D.ptr 0 0),(6,D.ptr 1 0),(7,D.int .i64 oa),(14,D.sl (aZ.map aF.c)),(15,D.int .i64 ((aZ.map aF.c).length:Int)),(16,D.int .i64 fS)],[Ob.box [D.nil,D.nil,D.nil,D.nil,D.nil,D.int .i64 0],Ob.box [D.acc 2,D.acc 3,D.acc 4,D.acc 5,D.acc 6,D.int .i64 j7],Ob.row .uq 80 4 W2,Ob.row .uq 3 1 W3,Ob.row .uq 93 3 W4,Ob.row .uq 50 8 W5,Ob.row .uq 37 2 W6]⟩
theorem zW(hΓ:Γ.nt=33){aZ:aJ}{r:aI×Int}{k1:Int->Int->ar->b9->bM->bI->aJ->Option (aI×Int)}(gE:∀(UC:Int) (pL:Int) (mC:ar) (fC:b9) (G7:bM) (rS:bI) (G8:aJ),k1 UC pL mC fC G7 rS G8=some r->Ax Γ N f13 (.q [[some (80,4),some (3,1),some (93,3),some (50,8),some (37,2),none],[none]] (D.iQ [D.agg [D.fr 80 4 (r.1.rules.map aL.c),D.fr 3 1 (r.1.ends.map lZ),D.fr 93 3 (r.1.bG.map ah.c),D.fr 50 8 (r.1.nodes.map Node.c),D.fr 37 2 (r.1.facts.map aF.c),D.int .i64 r.1.cL],D.int .i64 r.2])) [1,1,1,1] ⟨[(4,D.ptr 0 0),(6,D.ptr 1 0),(7,D.int .i64 UC)],[Ob.box [D.nil,D.nil,D.nil,D.nil,D.nil,D.int .i64 0],Ob.box [D.acc 2,D.acc 3,D.acc 4,D.acc 5,D.acc 6,D.int .i64 pL],Ob.row .uq 80 4 (mC.map aL.c),Ob.row .uq 3 1 (fC.map lZ),Ob.row .uq 93 3 (G7.map ah.c),Ob.row .uq 50 8 (rS.map Node.c),Ob.row .uq 37 2 (G8.map aF.c)]⟩)(hm1:aZ.length<=maxLen):∀(rest:aJ) (i1:Nat) (oa:Int) (j7:Int) (jS:ar) (cm:b9) (uV:bM) (nC:bI) (uW:aJ),aZ.drop i1=rest->er aZ k1 rest i1 oa j7 jS cm uV nC uW=some r->Ar Γ N f13 (.q [[some (80,4),some (3,1),some (93,3),some (50,8),some (37,2),none],[none]] (D.iQ [D.agg [D.fr 80 4 (r.1.rules.map aL.c),D.fr 3 1 (r.1.ends.map lZ),D.fr 93 3 (r.1.bG.map ah.c),D.fr 50 8 (r.1.nodes.map Node.c),D.fr 37 2 (r.1.facts.map aF.c),D.int .i64 r.1.cL],D.int .i64 r.2])) [1,1,1,0,1,0] (rest.length+1) (AX aZ oa j7 (jS.map aL.c) (cm.map lZ) (uV.map ah.c) (nC.map Node.c) (uW.map aF.c) (i1:Int)):=by
 intro rest
 induction rest with
 |nil=>
  intro i1 oa j7 jS cm uV nC uW bD h;rw[er]at h;refine aX fun N1 dH cW=>?_
  exact((aY.ge aF.c bD).a [.hl 0 [4,6,7] [0,1,2,3,4,5,6]]).ex hΓ dH (gE oa j7 jS cm uV nC uW h)
 |cons bR cM ih1=>
  intro i1 oa j7 jS cm uV nC uW bD h;rw[er]at h;refine aX fun N1 dH cW=>?_
  obtain⟨xY,h36,h⟩:=aD h;have kW:=((((aY.lt aF.c bD).l (bg aF.c 2 (dc bD) rfl)).a [.d (D.iQ [D.agg [D.fr 80 4 (xY.1.rules.map aL.c),D.fr 3 1 (xY.1.ends.map lZ),D.fr 93 3 (xY.1.bG.map ah.c),D.fr 50 8 (xY.1.nodes.map Node.c),D.fr 37 2 (xY.1.facts.map aF.c),D.int .i64 xY.1.cL],D.bool xY.2])]).w (show Good prog 21 [D.agg [D.sl (jS.map aL.c),D.sl (cm.map lZ),D.sl (uV.map ah.c),D.sl (nC.map Node.c),D.sl (uW.map aF.c),D.int .i64 j7],D.agg (aF.c bR)] (D.iQ [D.agg [D.fr 80 4 (xY.1.rules.map aL.c),D.fr 3 1 (xY.1.ends.map lZ),D.fr 93 3 (xY.1.bG.map ah.c),D.fr 50 8 (xY.1.nodes.map Node.c),D.fr 37 2 (xY.1.facts.map aF.c),D.int .i64 xY.1.cL],D.bool xY.2])from by first| (simpa only[bP,bO,cA,br,bt]using nr h36)|exact nr h36| (have t:=nr h36;simp only[bP,br,bt,aI.c]at t;exact t)))
  obtain⟨h37,h⟩|⟨h37,h⟩:=aO h
  ·exact((kW.b h37).a [.cn [4,6,7,14,15,16] [0,1,8,9,10,11,12]]).ct hΓ cW (iS bD hm1) (ih1 (i1+1) (IntKind.i64.wrap (oa+1)) xY.1.cL xY.1.rules xY.1.ends xY.1.bG xY.1.nodes xY.1.facts (dn bD) h)
  ·exact((kW.b h37).a [.cn [4,6,7,14,15,16] [0,1,2,3,4,5,6]]).ct hΓ cW (iS bD hm1) (ih1 (i1+1) oa j7 jS cm uV nC uW (dn bD) h)
theorem oK{aB:aI}{aZ:aJ}{r:aI×Int}(h:ic aB aZ=some r):Good prog 13 [D.agg (aI.c aB),D.sl (aZ.map aF.c)] (D.iQ [D.agg [D.fr 80 4 (r.1.rules.map aL.c),D.fr 3 1 (r.1.ends.map lZ),D.fr 93 3 (r.1.bG.map ah.c),D.fr 50 8 (r.1.nodes.map Node.c),D.fr 37 2 (r.1.facts.map aF.c),D.int .i64 r.1.cL],D.int .i64 r.2]):=by
 refine gd func13 [[some (80,4),some (3,1),some (93,3),some (50,8),some (37,2),none],[none]] 33 fun hr Γ hΓ=>?_
 rw[ic]at h;obtain⟨y1,h2,h⟩:=aD h;refine((aY.g (lB h2)).a [.cn [4,6,7,14,15,16] [1,7,2,3,4,5,6]]).lp hΓ (zW hΓ (fun UC pL mC fC G7 rS G8 h=>?_) (by have:=(kj.sl (hr _ (aE (i:=1) rfl))).1;simpa using this) aZ 0 0 y1.cL y1.rules y1.ends y1.bG y1.nodes y1.facts rfl h);cases h;exact aY.ret hΓ
def p6(aB:ar)(aZ:Bytes)(k1:Option Int):ar->Nat->Option Int
 | [],i1=>(k1)
 |bR::cM,i1=>(bif (bR.name:Bytes)==aZ then(some (i1:Int))else(p6 aB aZ k1 cM (i1+1)))
def vS(aB:ar)(aZ:Bytes):Option Int:=(p6 aB aZ (some (-1)) aB 0)
def oz(aB:ar)(k1:Option Bool):ar->Nat->Option Bool
 | [],i1=>(k1)
 |bR::cM,i1=>((kX bR).bind fun vJ=>(bif !(vJ)then(some false)else((vS aB bR.name).bind fun Mj=>(bif (Mj:Int) != (i1:Int)then(some false)else(oz aB k1 cM (i1+1))))))
def vR(aB:ar):Option Bool:=(oz aB (some (decide ((((aB.map aL.c).length:Int):Int)<=6))) aB 0)
def oB(aB:Bytes)(aZ:aU)(k1:Option Bytes):aU->Nat->Option Bytes
 | [],i1=>(k1)
 |bR::cM,i1=>(bif (bR.var:Bytes)==aB then(some bR.value)else(oB aB aZ k1 cM (i1+1)))
def mX(aB:Bytes)(aZ:aU):Option Bytes:=(oB aB aZ (some aB) aZ 0)
def qy(aB:aM)(aZ:aU)(y1:Bytes)(y3:Bytes)(k1:aG->Option aM):aG->Nat->aG->Option aM
 | [],i1,cm=>(k1 cm)
 |bR::cM,i1,cm=>((mX bR aZ).bind fun GI=>(bif room ((cm.map tx).length+([[D.str GI]]).length) 16 then(qy aB aZ y1 y3 k1 cM (i1+1) (cm++([GI])))else none))
def lH(aB:aM)(aZ:aU):Option aM:=((mX aB.left aZ).bind fun y1=>((mX aB.right aZ).bind fun y3=>(qy aB aZ y1 y3 (fun(mC:aG)=>(some (⟨aB.kind,(⟨aB.pat.rel,mC⟩:aF),y1,y3⟩:aM))) aB.pat.args 0 ([]:aG))))
def kZ(aB:aM):Option aM:=((lH aB ([])).bind fun y1=>(some y1))
def fX(aB:aF):Option aF:=((oW aB.args).bind fun y1=>(some (⟨aB.rel,y1⟩:aF)))
def uP(aB:aL)(k1:aq->Option aL):aq->Nat->aq->Option aL
 | [],i1,cm=>(k1 cm)
 |bR::cM,i1,cm=>((kZ bR).bind fun Jm=>(bif room ((cm.map aM.c).length+([[D.int .i64 Jm.kind,D.str Jm.pat.rel,D.sl (Jm.pat.args.map tx),D.str Jm.left,D.str Jm.right]]).length) 80 then(uP aB k1 cM (i1+1) (cm++([Jm])))else none))
def rJ(aB:aL)(fC:aq)(k2:eG->Option aL):eG->Nat->eG->Option aL
 | [],i2,mE=>(k2 mE)
 |mF::th,i2,mE=>((fX mF.pat).bind fun y92=>(bif room ((mE.map Action.c).length+([[D.int .i64 mF.kind,D.str y92.rel,D.sl (y92.args.map tx)]]).length) 48 then(rJ aB fC k2 th (i2+1) (mE++([(⟨mF.kind,y92⟩:Action)])))else none))
def ud(aB:aL):Option aL:=(uP aB (fun(fC:aq)=>(rJ aB fC (fun(yV:eG)=>(some (⟨aB.name,aB.prio,fC,yV⟩:aL))) aB.cR 0 ([]:eG))) aB.conds 0 ([]:aq))
def sY(aB:ar)(k1:ar->Option ar):ar->Nat->ar->Option ar
 | [],i1,bN=>(k1 bN)
 |bR::cM,i1,bN=>((ud bR).bind fun oc=>(bif room ((bN.map aL.c).length+([[D.str oc.name,D.int .i64 oc.prio,D.sl (oc.conds.map aM.c),D.sl (oc.cR.map Action.c)]]).length) 72 then(sY aB k1 cM (i1+1) (bN++([oc])))else none))
def sM(aB:ar):Option ar:=(sY aB (fun(cK:ar)=>(some cK)) aB 0 ([]:ar))
def rN(aB:aU)(aZ:Bytes)(k1:Option aU):aU->Nat->Option aU
 | [],i1=>(k1)
 |bR::cM,i1=>(bif (bR.var:Bytes)==aZ then(some aB)else(rN aB aZ k1 cM (i1+1)))
def qB(aB:aU)(aZ:Bytes):Option aU:=((fk aZ).bind fun y1=>(bif !(y1)then(some aB)else(rN aB aZ ((kO (IntKind.i64.wrap (((aB.map aa.c).length:Int)+1))).bind fun U8=>(bif decide (([63]:Bytes).length+(U8:Bytes).length<=maxLen)then(bif room ((aB.map aa.c).length+([[D.str aZ,D.str (([63])++U8)]]).length) 32 then(some (aB++([(⟨aZ,([63])++U8⟩:aa)])))else none)else none)) aB 0)))
def nX(aB:aL)(i1:Nat)(bR:aM)(k2:aU->Option aU):aG->Nat->aU->Option aU
 | [],i2,n7=>(k2 n7)
 |mF::th,i2,n7=>((qB n7 mF).bind fun CE=>(nX aB i1 bR k2 th (i2+1) CE))
def nW(aB:aL)(k1:aU->Option aU):aq->Nat->aU->Option aU
 | [],i1,bY=>(k1 bY)
 |bR::cM,i1,bY=>(bif decide (bR.pat.args.length<=maxLen)then(nX aB i1 bR (fun(C5:aU)=>((qB C5 bR.left).bind fun yX=>((qB yX bR.right).bind fun a4Q=>(nW aB k1 cM (i1+1) a4Q)))) bR.pat.args 0 bY)else none)
def tR(aB:aL):Option aU:=(nW aB (fun(cK:aU)=>(some cK)) aB.conds 0 ([]:aU))
def qx(aB:aL)(y1:aU)(k1:aq->Option aq):aq->Nat->aq->Option aq
 | [],i1,bY=>(k1 bY)
 |bR::cM,i1,bY=>((lH bR y1).bind fun GH=>(bif room ((bY.map aM.c).length+([[D.int .i64 GH.kind,D.str GH.pat.rel,D.sl (GH.pat.args.map tx),D.str GH.left,D.str GH.right]]).length) 80 then(qx aB y1 k1 cM (i1+1) (bY++([GH])))else none))
def tQ(aB:aL):Option aq:=((tR aB).bind fun y1=>(qx aB y1 (fun(cK:aq)=>(some cK)) aB.conds 0 ([]:aq)))
def qP(aB:aG)(aZ:aG)(k1:Option Bool):aG->Nat->Option Bool
 | [],i1=>(k1)
 |bR::cM,i1=>((iY aZ (i1:Int)).bind fun x22=>(bif !((bR:Bytes)==x22)then(some false)else(qP aB aZ k1 cM (i1+1))))
def sV(aB:aG)(aZ:aG):Option Bool:=(bif (((aB.map tx).length:Int):Int) != ((aZ.map tx).length:Int)then(some false)else(qP aB aZ (some true) aB 0))
def p8(aB:aF)(aZ:aF):Option Bool:=(bif (aB.rel:Bytes)==aZ.rel then((sV aB.args aZ.args).bind fun y2=>(some y2))else(some false))
def vU(aB:aM)(aZ:aM):Option Bool:=(bif (aB.kind:Int)==aZ.kind then((p8 aB.pat aZ.pat).bind fun y2=>(bif y2 then(bif (aB.left:Bytes)==aZ.left then(some ((aB.right:Bytes)==aZ.right))else(some false))else(some false)))else(some false))
def qX(aB:aF)(k1:aU->Option aF):aG->Nat->aU->Option aF
 | [],i1,jS=>(k1 jS)
 |bR::cM,i1,jS=>((qB jS bR).bind fun xg=>(qX aB k1 cM (i1+1) xg))
def tS(aB:aF):Option aF:=(qX aB (fun(mC:aU)=>((lH (⟨0,aB,[],[]⟩:aM) mC).bind fun Mi=>(some Mi.pat))) aB.args 0 ([]:aU))
def qY(aB:aI)(aZ:aF)(k1:Option (aI×Int)):bM->Nat->Option (aI×Int)
 | [],i1=>(k1)
 |bR::cM,i1=>((p8 bR.shape aZ).bind fun xg=>(bif xg then(some (aB,(i1:Int)))else(qY aB aZ k1 cM (i1+1))))
def tX(aB:aI)(aZ:aF):Option (aI×Int):=(bif decide (aB.bG.length<=maxLen)then(qY aB aZ (bif room ((aB.bG.map ah.c).length+([[D.str aZ.rel,D.sl (aZ.args.map tx),D.sl ([])]]).length) 64 then(some ((⟨aB.rules,aB.ends,aB.bG++([(⟨aZ,[]⟩:ah)]),aB.nodes,aB.facts,aB.cL⟩:aI),IntKind.i64.wrap ((((aB.bG.map ah.c)++([[D.str aZ.rel,D.sl (aZ.args.map tx),D.sl ([])]])).length:Int)-1)))else none) aB.bG 0)else none)
def jg(aB:aI)(aZ:Int)(cY:aM)(k1:Option (aI×Int)):Nat->Int->Option (aI×Int)
 |0,_=>none
 |n1+1,oa=>(bif decide ((oa:Int)<((aB.nodes.map Node.c).length:Int))then((iY aB.nodes oa).bind fun x16=>(bif (x16.parent:Int)==aZ then((vU x16.cond cY).bind fun LG=>(bif LG then(some (aB,oa))else(jg aB aZ cY k1 n1 (IntKind.i64.wrap (oa+1)))))else(jg aB aZ cY k1 n1 (IntKind.i64.wrap (oa+1)))))else(k1))
def xI(aB:aI)(aZ:Int)(cY:aM):Option (aI×Int):=(jg aB aZ cY ((kZ cY).bind fun xg=>(bif (cY.kind:Int)==1 then((tS cY.pat).bind fun sv=>((tX aB sv).bind fun oc=>(bif room ((oc.1.nodes.map Node.c).length+([[D.int .i64 aZ,D.int .i64 xg.kind,D.str xg.pat.rel,D.sl (xg.pat.args.map tx),D.str xg.left,D.str xg.right,D.int .i64 oc.2,D.sl ([])]]).length) 120 then(some ((⟨oc.1.rules,oc.1.ends,oc.1.bG,oc.1.nodes++([(⟨aZ,xg,oc.2,[]⟩:Node)]),oc.1.facts,oc.1.cL⟩:aI),IntKind.i64.wrap ((((oc.1.nodes.map Node.c)++([[D.int .i64 aZ,D.int .i64 xg.kind,D.str xg.pat.rel,D.sl (xg.pat.args.map tx),D.str xg.left,D.str xg.right,D.int .i64 oc.2,D.sl ([])]])).length:Int)-1)))else none)))else(bif (cY.kind:Int)==2 then((tS cY.pat).bind fun Qd=>((tX aB Qd).bind fun Gi=>(bif room ((Gi.1.nodes.map Node.c).length+([[D.int .i64 aZ,D.int .i64 xg.kind,D.str xg.pat.rel,D.sl (xg.pat.args.map tx),D.str xg.left,D.str xg.right,D.int .i64 Gi.2,D.sl ([])]]).length) 120 then(some ((⟨Gi.1.rules,Gi.1.ends,Gi.1.bG,Gi.1.nodes++([(⟨aZ,xg,Gi.2,[]⟩:Node)]),Gi.1.facts,Gi.1.cL⟩:aI),IntKind.i64.wrap ((((Gi.1.nodes.map Node.c)++([[D.int .i64 aZ,D.int .i64 xg.kind,D.str xg.pat.rel,D.sl (xg.pat.args.map tx),D.str xg.left,D.str xg.right,D.int .i64 Gi.2,D.sl ([])]])).length:Int)-1)))else none)))else(bif room ((aB.nodes.map Node.c).length+([[D.int .i64 aZ,D.int .i64 xg.kind,D.str xg.pat.rel,D.sl (xg.pat.args.map tx),D.str xg.left,D.str xg.right,D.int .i64 (-1),D.sl ([])]]).length) 120 then(some ((⟨aB.rules,aB.ends,aB.bG,aB.nodes++([(⟨aZ,xg, -1,[]⟩:Node)]),aB.facts,aB.cL⟩:aI),IntKind.i64.wrap ((((aB.nodes.map Node.c)++([[D.int .i64 aZ,D.int .i64 xg.kind,D.str xg.pat.rel,D.sl (xg.pat.args.map tx),D.str xg.left,D.str xg.right,D.int .i64 (-1),D.sl ([])]])).length:Int)-1)))else none)))) fuel 1)
def lz(aB:ar)(i1:Nat)(U9:aq)(k2:Int->Int->ar->b9->bM->bI->aJ->Option (aI×Bool)):aq->Nat->Int->Int->ar->b9->bM->bI->aJ->Option (aI×Bool)
 | [],i2,DB,s7,FL,mE,uX,qS,FM=>(k2 DB s7 FL mE uX qS FM)
 |mF::th,i2,DB,s7,FL,mE,uX,qS,FM=>((xI (⟨FL,mE,uX,qS,FM,s7⟩:aI) DB mF).bind fun OC=>(lz aB i1 U9 k2 th (i2+1) OC.2 OC.1.cL OC.1.rules OC.1.ends OC.1.bG OC.1.nodes OC.1.facts))
def lq(aB:ar)(k1:Int->ar->b9->bM->bI->aJ->Option (aI×Bool)):ar->Nat->Int->ar->b9->bM->bI->aJ->Option (aI×Bool)
 | [],i1,j7,jS,cm,uV,nC,uW=>(k1 j7 jS cm uV nC uW)
 |bR::cM,i1,j7,jS,cm,uV,nC,uW=>((tQ bR).bind fun U9=>(bif decide (U9.length<=maxLen)then(lz aB i1 U9 (fun(Ih:Int) (A6:Int) (Ko:ar) (yV:b9) (Kp:bM) (sI:bI) (Kq:aJ)=>(bif room ((yV.map lZ).length+([[D.int .i64 Ih]]).length) 8 then(lq aB k1 cM (i1+1) A6 Ko (yV++([Ih])) Kp sI Kq)else none)) U9 0 0 j7 jS cm uV nC uW)else none))
def vz(aB:ar):Option (aI×Bool):=((vR aB).bind fun y1=>(bif !(y1)then(some ((⟨[],[],[],[],[],0⟩:aI),false))else((sM aB).bind fun y4=>(lq aB (fun(pL:Int) (mC:ar) (fC:b9) (G7:bM) (rS:bI) (G8:aJ)=>(some ((⟨mC,fC,G7,rS,G8,pL⟩:aI),true))) aB 0 0 y4 ([]:b9) ([]:bM) ([(⟨-1,(⟨0,(⟨[],[]⟩:aF),[],[]⟩:aM), -1,[(⟨[],[]⟩:aW)]⟩:Node)]) ([]:aJ)))))
def sW(aB:aJ)(k1:aJ->Option aJ):aJ->Nat->aJ->Option aJ
 | [],i1,bN=>(k1 bN)
 |bR::cM,i1,bN=>((eM bR).bind fun oc=>(bif room ((bN.map aF.c).length+([[D.str oc.rel,D.sl (oc.args.map tx)]]).length) 40 then(sW aB k1 cM (i1+1) (bN++([oc])))else none))
def iX(aB:aJ):Option aJ:=(sW aB (fun(cK:aJ)=>(some cK)) aB 0 ([]:aJ))
def uN(aB:aF)(k1:Option Bool):aG->Nat->Option Bool
 | [],i1=>(k1)
 |bR::cM,i1=>((eg bR).bind fun LH=>(bif !(LH)then(some false)else(uN aB k1 cM (i1+1))))
def sD(aB:aF):Option Bool:=(uN aB ((nv aB.rel).bind fun Mi=>(bif Mi then(some (decide ((((aB.args.map tx).length:Int):Int)<=3)))else(some false))) aB.args 0)
def o9(aB:aU)(k1:Option Bool):aU->Nat->Option Bool
 | [],i1=>(k1)
 |bR::cM,i1=>((fk bR.var).bind fun Gj=>(bif !(Gj)then(some false)else((eg bR.value).bind fun ZJ=>(bif !(ZJ)then(some false)else(bif decide (((i1:Int):Int)>0)then((iY aB (IntKind.i64.wrap ((i1:Int)-1))).bind fun x56=>(bif !(Op.bytesLess x56.var bR.var)then(some false)else(o9 aB k1 cM (i1+1))))else(o9 aB k1 cM (i1+1)))))))
def mU(aB:aU):Option Bool:=(o9 aB (some (decide ((((aB.map aa.c).length:Int):Int)<=6))) aB 0)
def sE(aB:aU):Option aU:=(bif room (([]:List aK).length+(aB.map aa.c).length) 32 then(some (([]:aU)++aB))else none)
def lI(aB:aU)(aZ:Bytes)(k1:Option (Bytes×Bool)):aU->Nat->Option (Bytes×Bool)
 | [],i1=>(k1)
 |bR::cM,i1=>(bif (bR.var:Bytes)==aZ then((fk aZ).bind fun GH=>(bif GH then(some (bR.value,true))else(lI aB aZ k1 cM (i1+1))))else(lI aB aZ k1 cM (i1+1)))
def qz(aB:aU)(aZ:Bytes):Option (Bytes×Bool):=((eg aZ).bind fun y1=>(bif y1 then(some (aZ,true))else(lI aB aZ (some ([],false)) aB 0)))
def pu(aB:aU)(aZ:Bytes)(cY:Bytes)(k1:Bool->aU->Option aU):aU->Nat->Bool->aU->Option aU
 | [],i1,B0,bN=>(k1 B0 bN)
 |bR::cM,i1,B0,bN=>(bif !(B0)then(bif !(Op.bytesLess bR.var aZ||(bR.var:Bytes)==aZ)then(bif room ((bN.map aa.c).length+([[D.str aZ,D.str cY]]).length) 32 then(bif room (((bN.map aa.c)++([[D.str aZ,D.str cY]])).length+([[D.str bR.var,D.str bR.value]]).length) 32 then(pu aB aZ cY k1 cM (i1+1) true ((bN++([(⟨aZ,cY⟩:aa)]))++([bR])))else none)else none)else(bif room ((bN.map aa.c).length+([[D.str bR.var,D.str bR.value]]).length) 32 then(pu aB aZ cY k1 cM (i1+1) B0 (bN++([bR])))else none))else(bif room ((bN.map aa.c).length+([[D.str bR.var,D.str bR.value]]).length) 32 then(pu aB aZ cY k1 cM (i1+1) B0 (bN++([bR])))else none))
def zo(aB:aU)(aZ:Bytes)(cY:Bytes):Option aU:=(pu aB aZ cY (fun(a4U:Bool) (cK:aU)=>(bif !(a4U)then(bif room ((cK.map aa.c).length+([[D.str aZ,D.str cY]]).length) 32 then(some (cK++([(⟨aZ,cY⟩:aa)])))else none)else(some cK))) aB 0 false ([]:aU))
def uc(aB:aU)(aZ:Bytes)(cY:Bytes):Option (aU×Bool):=((mU aB).bind fun y1=>(bif !(y1)then(some (([]:aU),false))else((fk aZ).bind fun y4=>(bif !(y4)then(some (([]:aU),false))else((eg cY).bind fun y7=>(bif !(y7)then(some (([]:aU),false))else((qz aB aZ).bind fun FN=>(bif FN.2 then(bif (FN.1:Bytes)==cY then((sE aB).bind fun Mh=>(some (Mh,true)))else(some (([]:aU),false)))else(bif (((aB.map aa.c).length:Int):Int)==6 then(some (([]:aU),false))else((zo aB aZ cY).bind fun U7=>(some (U7,true))))))))))))
def oA(aB:aF)(aZ:aF)(k1:aU->Option (aU×Bool)):aG->Nat->aU->Option (aU×Bool)
 | [],i1,jS=>(k1 jS)
 |bR::cM,i1,jS=>((eg bR).bind fun y80=>(bif y80 then((iY aZ.args (i1:Int)).bind fun x83=>(bif !((bR:Bytes)==x83)then(some (([]:aU),false))else(oA aB aZ k1 cM (i1+1) jS)))else((iY aZ.args (i1:Int)).bind fun x86=>((uc jS bR x86).bind fun ZP=>(bif !(ZP.2)then(some (([]:aU),false))else(oA aB aZ k1 cM (i1+1) ZP.1))))))
def mV(aB:aF)(aZ:aF)(cY:aU):Option (aU×Bool):=((gA aB).bind fun y1=>(bif !(y1)then(some (([]:aU),false))else((sD aZ).bind fun y4=>(bif !(y4)then(some (([]:aU),false))else((mU cY).bind fun y7=>(bif !(y7)then(some (([]:aU),false))else(bif !((aB.rel:Bytes)==aZ.rel)then(some (([]:aU),false))else(bif (((aB.args.map tx).length:Int):Int) != ((aZ.args.map tx).length:Int)then(some (([]:aU),false))else((sE cY).bind fun Qp=>(oA aB aZ (fun(cK:aU)=>(some (cK,true))) aB.args 0 Qp))))))))))
def lG(aB:aF)(aZ:aU)(cY:aJ)(k1:aJ->Option aJ):aJ->Nat->aJ->Option aJ
 | [],i1,bY=>(k1 bY)
 |bR::cM,i1,bY=>((mV aB bR aZ).bind fun UQ=>(bif UQ.2 then((eM bR).bind fun Jm=>(bif room ((bY.map aF.c).length+([[D.str Jm.rel,D.sl (Jm.args.map tx)]]).length) 40 then(lG aB aZ cY k1 cM (i1+1) (bY++([Jm])))else none))else(lG aB aZ cY k1 cM (i1+1) bY)))
def nV(aB:aF)(aZ:aU)(cY:aJ):Option aJ:=(lG aB aZ cY (fun(cK:aJ)=>(some cK)) cY 0 ([]:aJ))
def rH(aB:aI)(k1:aq->Option aq):Nat->Int->aq->Option aq
 |0,_,_=>none
 |n1+1,xV,bY=>((jM xV 1 (IntKind.i64.wrap (((aB.nodes.map Node.c).length:Int)-1))).bind fun yY=>(bif yY then((iY aB.nodes xV).bind fun x31=>((kZ x31.cond).bind fun vJ=>(bif room (([[D.int .i64 vJ.kind,D.str vJ.pat.rel,D.sl (vJ.pat.args.map tx),D.str vJ.left,D.str vJ.right]]).length+(bY.map aM.c).length) 80 then(bif decide ((x31.parent:Int)>=xV)then(k1 (([vJ])++bY))else(rH aB k1 n1 x31.parent (([vJ])++bY)))else none)))else(k1 bY)))
def vT(aB:Bytes):Option Bool:=((k7 aB).bind fun y1=>(some y1.2))
def uM(aB:aM)(aZ:aU):Option Bool:=((nw aB).bind fun y1=>(bif !(y1)then(some false)else((mU aZ).bind fun y4=>(bif !(y4)then(some false)else((qz aZ aB.left).bind fun y7=>((qz aZ aB.right).bind fun y9=>(bif !(y7.2)then(some false)else(bif !(y9.2)then(some false)else(bif (aB.kind:Int)==3 then(some ((y7.1:Bytes)==y9.1))else(bif (aB.kind:Int)==4 then(some (!((y7.1:Bytes)==y9.1)))else((vT y7.1).bind fun XF=>(bif XF then((vT y9.1).bind fun U8=>(bif U8 then((iH y7.1 y9.1).bind fun LH=>(some (decide ((LH:Int)<0))))else(some false)))else(some false)))))))))))))
def uL(aB:aM)(aZ:aU)(cY:aJ):Option Bool:=((mH aB).bind fun y1=>(bif !(y1)then(some false)else((mU aZ).bind fun y4=>(bif !(y4)then(some false)else(bif (aB.kind:Int)==1 then((nV aB.pat aZ cY).bind fun y8=>(some (decide ((((y8.map aF.c).length:Int):Int)>0))))else(bif (aB.kind:Int)==2 then((nV aB.pat aZ cY).bind fun Mr=>(some ((((Mr.map aF.c).length:Int):Int)==0)))else((uM aB aZ).bind fun su=>(some su))))))))
def sG(aB:aW):Option aW:=((iX aB.facts).bind fun y1=>((sE aB.bind).bind fun y3=>(some (⟨y1,y3⟩:aW))))
def rK(aB:ay)(aZ:aM)(cY:aJ)(i1:Nat)(bR:aW)(k2:ay->Option ay):aJ->Nat->ay->Option ay
 | [],i2,n7=>(k2 n7)
 |mF::th,i2,n7=>((mV aZ.pat mF bR.bind).bind fun ZL=>(bif ZL.2 then((iX bR.facts).bind fun ZM=>((eM mF).bind fun UA=>(bif room ((ZM.map aF.c).length+([[D.str UA.rel,D.sl (UA.args.map tx)]]).length) 40 then(bif room ((n7.map aW.c).length+([[D.sl ((ZM.map aF.c)++([[D.str UA.rel,D.sl (UA.args.map tx)]])),D.sl (ZL.1.map aa.c)]]).length) 48 then(rK aB aZ cY i1 bR k2 th (i2+1) (n7++([(⟨ZM++([UA]),ZL.1⟩:aW)])))else none)else none)))else(rK aB aZ cY i1 bR k2 th (i2+1) n7)))
def kV(aB:ay)(aZ:aM)(cY:aJ)(k1:ay->Option ay):ay->Nat->ay->Option ay
 | [],i1,bY=>(k1 bY)
 |bR::cM,i1,bY=>(bif (aZ.kind:Int) != 1 then((uL aZ bR.bind cY).bind fun a4T=>(bif a4T then((sG bR).bind fun ZK=>(bif room ((bY.map aW.c).length+([[D.sl (ZK.facts.map aF.c),D.sl (ZK.bind.map aa.c)]]).length) 48 then(kV aB aZ cY k1 cM (i1+1) (bY++([ZK])))else none))else(kV aB aZ cY k1 cM (i1+1) bY)))else(bif decide (cY.length<=maxLen)then(rK aB aZ cY i1 bR (fun(C5:ay)=>(kV aB aZ cY k1 cM (i1+1) C5)) cY 0 bY)else none))
def yQ(aB:ay)(aZ:aM)(cY:aJ):Option ay:=(kV aB aZ cY (fun(cK:ay)=>(some cK)) aB 0 ([]:ay))
def pH(aB:aq)(aZ:aJ)(k1:ay->Option ay):aq->Nat->ay->Option ay
 | [],i1,bN=>(k1 bN)
 |bR::cM,i1,bN=>((yQ bN bR aZ).bind fun xg=>(pH aB aZ k1 cM (i1+1) xg))
def AL(aB:aq)(aZ:aJ):Option ay:=(pH aB aZ (fun(cK:ay)=>(some cK)) aB 0 ([(⟨[],[]⟩:aW)]))
def oy(aB:aJ)(k1:Option Bool):aJ->Nat->Option Bool
 | [],i1=>(k1)
 |bR::cM,i1=>((sD bR).bind fun Jm=>(bif !(Jm)then(some false)else(bif decide (((i1:Int):Int)>0)then((iY aB (IntKind.i64.wrap ((i1:Int)-1))).bind fun x49=>((gD x49 bR).bind fun y51=>(bif decide ((y51:Int)>=0)then(some false)else(oy aB k1 cM (i1+1)))))else(oy aB k1 cM (i1+1)))))
def AI(aB:aJ):Option Bool:=(oy aB (some (decide ((((aB.map aF.c).length:Int):Int)<=24))) aB 0)
end Go.Cx
namespace Go.Cx
open Go.RowKit Go.Proofs Tryz
set_option maxRecDepth 100000
variable{Γ:sQ}{N:Nat->St->Prop}
def yO(aB:b9):Option b9:=(bif room (([]:List aK).length+(aB.map lZ).length) 8 then(some (([]:b9)++aB))else none)
def pJ(aB:ay)(k1:ay->Option ay):ay->Nat->ay->Option ay
 | [],i1,bN=>(k1 bN)
 |bR::cM,i1,bN=>((sG bR).bind fun oc=>(bif room ((bN.map aW.c).length+([[D.sl (oc.facts.map aF.c),D.sl (oc.bind.map aa.c)]]).length) 48 then(pJ aB k1 cM (i1+1) (bN++([oc])))else none))
def lX(aB:ay):Option ay:=(pJ aB (fun(cK:ay)=>(some cK)) aB 0 ([]:ay))
def rL(aB:aI)(y1:ar)(y3:b9)(y5:aJ)(k1:bM->Option aI):bM->Nat->bM->Option aI
 | [],i1,nC=>(k1 nC)
 |bR::cM,i1,nC=>((fX bR.shape).bind fun B3=>((iX bR.facts).bind fun y75=>(bif room ((nC.map ah.c).length+([[D.str B3.rel,D.sl (B3.args.map tx),D.sl (y75.map aF.c)]]).length) 64 then(rL aB y1 y3 y5 k1 cM (i1+1) (nC++([(⟨B3,y75⟩:ah)])))else none)))
def rM(aB:aI)(y1:ar)(y3:b9)(y5:aJ)(rS:bM)(k2:bI->Option aI):bI->Nat->bI->Option aI
 | [],i2,qS=>(k2 qS)
 |mF::th,i2,qS=>((kZ mF.cond).bind fun FO=>((lX mF.tokens).bind fun a1j=>(bif room ((qS.map Node.c).length+([[D.int .i64 mF.parent,D.int .i64 FO.kind,D.str FO.pat.rel,D.sl (FO.pat.args.map tx),D.str FO.left,D.str FO.right,D.int .i64 mF.gB,D.sl (a1j.map aW.c)]]).length) 120 then(rM aB y1 y3 y5 rS k2 th (i2+1) (qS++([(⟨mF.parent,FO,mF.gB,a1j⟩:Node)])))else none)))
def DK(aB:aI):Option aI:=((sM aB.rules).bind fun y1=>((yO aB.ends).bind fun y3=>((iX aB.facts).bind fun y5=>(rL aB y1 y3 y5 (fun(rS:bM)=>(rM aB y1 y3 y5 rS (fun(sI:bI)=>(some (⟨y1,y3,rS,sI,y5,aB.cL⟩:aI))) aB.nodes 0 ([]:bI))) aB.bG 0 ([]:bM)))))
end Go.Cx
namespace Go.Cx
open Go.RowKit Go.Proofs Tryz
theorem wC{α:Type}{a pre xs:List α}{x:α}(h:a=pre++x::xs):iY a (pre.length:Int)=some x:=by
 unfold iY;have:a[pre.length]?=some x:=by rw[h];simp
 simp[this]
theorem DQ{n b:Nat}(hn:n<=1099511627776)(hb:b<=128):room n b=true:=by
 unfold room maxLen;have:n*b<=1099511627776*128:=Nat.mul_le_mul hn hb;simp;omega
theorem hG{α:Type}{w:List α}{c:α->aK}{y:aK}{b:Nat}(h:w.length<1099511627776)(hb:b<=128):room ((w.map c).length+([y]).length) b=true:=DQ (by simp;omega) hb
theorem TF{α β:Type}{w:List α}{v:List β}{c:α->aK}{d:β->aK}{b:Nat}(h:w.length+v.length<=1099511627776)(hb:b<=128):room ((w.map c).length+(v.map d).length) b=true:=DQ (by simp;omega) hb
theorem MU{β:Type}{v:List β}{d:β->aK}{b:Nat}(h:v.length<=1099511627776)(hb:b<=128):room (([]:List aK).length+(v.map d).length) b=true:=DQ (by simp;omega) hb
theorem rZ{α:Type}{l:List α}(h:l.length<=1099511627776):decide (l.length<=maxLen)=true:=by unfold maxLen;simp;omega
theorem Au{α β γ:Type}{c:β->aK}{b:Nat}{f:α->Option β}{g:α->β}{L:List α->Nat->List β->Option γ}{k:List β->Option γ}(hb:b<=128)(rO:∀i w,L [] i w=k w)
 (rA:∀x xs i w,L (x::xs) i w=(f x).bind fun y=>bif room ((w.map c).length+([c y]).length) b then L xs (i+1) (w++[y])else none):
 ∀(l:List α) (i:Nat) (w:List β),(∀x∈l,f x=some (g x))->w.length+l.length<=1099511627776->L l i w=k (w++l.map g):=by
 intro l
 induction l with
 |nil=>intro i w _ _;simp[rO]
 |cons x xs ih=>
  intro i w hf hl;simp only[aQ]at hl;rw[rA,hf x (by simp),aA,hG (by omega) hb,aH,ih _ _ (fun y hy=>hf y (by simp[hy])) (by simp;omega)];simp
theorem Pb{α:Type}{f:α->Option Bool}{p:α->Bool}{L:List α->Nat->Option Bool}{k:Option Bool}(rO:∀i,L [] i=k)
 (rA:∀x xs i,L (x::xs) i=(f x).bind fun y=>bif !y then some false else L xs (i+1)):∀(l:List α) (i:Nat),(∀x∈l,f x=some (p x))->L l i=bif l.all p then k else some false:=by
 intro l
 induction l with
 |nil=>intro i _;simp[rO]
 |cons x xs ih=>
  intro i hf;rw[rA,hf x (by simp),aA,ih _ (fun y hy=>hf y (by simp[hy])),dX];cases p x<;>simp
theorem sx:∀(a:Bytes),Op.bytesLess a a=false
 | []=>rfl
 |x::a=>by simp[Op.bytesLess,sx a]
theorem yg:∀ {a b c:Bytes},Op.bytesLess a b=true->Op.bytesLess b c=true->Op.bytesLess a c=true
 | [],b,[],_,h2=>by cases b<;>simp[Op.bytesLess]at h2
 | [],b,_::_,_,_=>by simp[Op.bytesLess]
 |_::_,[],_,h1,_=>by simp[Op.bytesLess]at h1
 |_::_,_::_,[],_,h2=>by simp[Op.bytesLess]at h2
 |x::a,y::b,z::c,h1,h2=>by
  simp only[Op.bytesLess,lM,bH,aR,cO]at h1 h2⊢;rcases h1 with h1|⟨rfl,h1⟩
  ·rcases h2 with h2|⟨rfl,h2⟩
   ·exact .inl (UInt8.lt_trans h1 h2)
   ·exact .inl h1
  ·rcases h2 with h2|⟨rfl,h2⟩
   ·exact .inl h2
   ·exact .inr ⟨rfl,yg h1 h2⟩
theorem Fe:∀ {a b:Bytes},Op.bytesLess a b=false->Op.bytesLess b a=false->a=b
 | [],[],_,_=>rfl
 | [],_::_,h,_=>by simp[Op.bytesLess]at h
 |_::_,[],_,h=>by simp[Op.bytesLess]at h
 |x::a,y::b,h1,h2=>by
  simp only[Op.bytesLess,Bool.or_eq_false_iff,oI,AQ,cy,ne_eq]at h1 h2;have e:x=y:=by
   have h3:=h1.1;have h4:=h2.1;rw[AU]at h3 h4;exact UInt8.toNat_inj.1 (by omega)
  subst e;rw[Fe (h1.2.resolve_left (by simp)) (h2.2.resolve_left (by simp))]
theorem EN{a b:Bytes}(h:Op.bytesLess a b=true):Op.bytesLess b a=false:=by
 cases hb:Op.bytesLess b a with
 |false=>rfl
 |true=>have:=yg h hb;rw[sx]at this;cases this
def SS(l:aG):Prop:=l.Pairwise fun a b=>Op.bytesLess a b=true
theorem Fa:∀ {a b:aG},SS a->SS b->(∀x,x∈a↔x∈b)->a=b
 | [],[],_,_,_=>rfl
 | [],y::b,_,_,h=>by have:=(h y).2 (by simp);cases this
 |x::a,[],_,_,h=>by have:=(h x).1 (by simp);cases this
 |x::a,y::b,h1,h2,h=>by
  obtain⟨p1,p2⟩:=kF.1 h1;obtain⟨q1,q2⟩:=kF.1 h2;have e:x=y:=by
   refine Fe ?_ ?_
   ·cases hb:Op.bytesLess x y with
    |false=>rfl
    |true=>
     rcases bA.1 ((h x).1 (by simp))with rfl|hx
     ·exact(sx x▸hb).symm
     ·have:=EN (q1 x hx);rw[hb]at this;exact this
   ·cases hb:Op.bytesLess y x with
    |false=>rfl
    |true=>
     rcases bA.1 ((h y).2 (by simp))with rfl|hx
     ·exact(sx y▸hb).symm
     ·have:=EN (p1 y hx);rw[hb]at this;exact this
  subst e;rw[Fa p2 q2 (fun z=>?_)];constructor
  ·intro hz;rcases bA.1 ((h z).1 (by simp[hz]))with rfl|Ii
   ·have:=p1 z hz;rw[sx]at this;cases this
   ·exact Ii
  ·intro hz;rcases bA.1 ((h z).2 (by simp[hz]))with rfl|Ii
   ·have:=q1 z hz;rw[sx]at this;cases this
   ·exact Ii
def vc:aG->Bytes->aG
 | [],s=>[s]
 |x::xs,s=>bif Op.bytesLess x s then x::vc xs s else bif x==s then x::xs else s::x::xs
theorem IF:∀ {l:aG} {s y:Bytes},y∈vc l s↔y=s\/y∈l
 | [],s,y=>by simp[vc]
 |x::xs,s,y=>by
  simp only[vc];cases Op.bytesLess x s with
  |true=>simp only[aH,bA,IF (l:=xs)];constructor<;>(rintro(h|h|h)<;>simp[h])
  |false=>
   simp only[aS];cases hx:x==s with
   |true=>
    simp only[cO]at hx;subst hx;simp
   |false=>simp
theorem PD:∀ {l:aG} {s:Bytes},SS l->SS (vc l s)
 | [],s,_=>by simp[vc,SS]
 |x::xs,s,h=>by
  obtain⟨p1,p2⟩:=kF.1 h;simp only[vc];cases hb:Op.bytesLess x s with
  |true=>
   simp only[aH];refine kF.2 ⟨fun y hy=>?_,PD p2⟩;rcases IF.1 hy with rfl|hy
   ·exact hb
   ·exact p1 y hy
  |false=>
   simp only[aS];cases hx:x==s with
   |true=>exact h
   |false=>
    have hs:Op.bytesLess s x=true:=by
     cases hc:Op.bytesLess s x with
     |true=>rfl
     |false=>have:=Fe hb hc;subst this;simp at hx
    refine kF.2 ⟨fun y hy=>?_,h⟩;rcases bA.1 hy with rfl|hy
    ·exact hs
    ·exact yg hs (p1 y hy)
theorem xO:∀(l:aG) (s:Bytes),(vc l s).length<=l.length+1
 | [],s=>by simp[vc]
 |x::xs,s=>by
  have:=xO xs s;simp only[vc];cases Op.bytesLess x s<;>simp only[aH,aS,aQ]
  ·cases x==s<;>simp
  ·omega
def eP(l:aG):aG:=l.foldl vc []
theorem Bp:∀(l a:aG) (y:Bytes),y∈l.foldl vc a↔y∈a\/y∈l
 | [],a,y=>by simp
 |x::l,a,y=>by
  rw[dL,Bp l,IF];simp only[bA];constructor
  ·rintro((h|h)|h)<;>simp[h]
  ·rintro(h|h|h)<;>simp[h]
theorem DL:∀(l:aG) {a:aG},SS a->SS (l.foldl vc a)
 | [],a,h=>h
 |x::l,a,h=>DL l (PD h)
theorem Bo:∀(l a:aG),(l.foldl vc a).length<=a.length+l.length
 | [],a=>by simp
 |x::l,a=>by
  have h1:=Bo l (vc a x);have h2:=xO a x;rw[dL,aQ];omega
theorem rP{l:aG}{y:Bytes}:y∈eP l↔y∈l:=by unfold eP;rw[Bp];simp
theorem IW(l:aG):SS (eP l):=DL l (by simp[SS])
theorem nK(l:aG):(eP l).length<=l.length:=by have:=Bo l [];simpa[eP]using this
theorem CA{a b:aG}(h:∀x,x∈a↔x∈b):eP a=eP b:=Fa (IW a) (IW b) (fun x=>by rw[rP,rP,h])
theorem O5(a:aG)(x:Bytes):vc (eP a) x=eP (a++[x]):=by simp[eP]
theorem O4(a b:aG):b.foldl vc (eP a)=eP (a++b):=by simp[eP]
theorem CB(a b:aG):(eP b).foldl vc (eP a)=eP (a++b):=by
 rw[O4];exact CA (fun x=>by simp[rP])
theorem kn(l:aG)(v:Bytes):(eP l).contains v=l.contains v:=by
 rw[bX];simp[rP]
def YS(x:UInt8):Bool:=decide ((x.toNat:Int)>=97)&&decide ((x.toNat:Int)<=122)
def YT(x:UInt8):Bool:=decide ((x.toNat:Int)>=48)&&decide ((x.toNat:Int)<=57)
def ab(x:UInt8):Bool:=YS x||YT x
def Q0(s:Bytes):Bool:=decide ((s.length:Int)>=1)&&decide ((s.length:Int)<=8)
def jy(s:Bytes):Bool:=s.all ab&&Q0 s
def WM:Bytes->Bool
 | []=>false
 |x::_=>decide ((x.toNat:Int)>=97)
def tZ(s:Bytes):Bool:=jy s&&WM s
def kz:Bytes->Bool
 | []=>false
 |x::t=>decide ((x.toNat:Int)=63)&&jy t
def qZ(s:Bytes):Bool:=jy s||kz s
theorem CH{s:Bytes}(h:jy s=true):1<=s.length/\s.length<=8:=by
 simp only[jy,Q0,aR,bH]at h;omega
theorem JT{s:Bytes}(h:tZ s=true):1<=s.length/\s.length<=8:=by
 simp only[tZ,aR]at h;exact CH h.1
theorem U0{s:Bytes}(h:kz s=true):1<=s.length/\s.length<=9:=by
 cases s with
 |nil=>cases h
 |cons x t=>simp only[kz,aR]at h;have:=CH h.2;simp;omega
theorem QT{s:Bytes}(h:qZ s=true):1<=s.length/\s.length<=9:=by
 simp only[qZ,lM]at h;rcases h with h|h
 ·have:=CH h;omega
 ·exact U0 h
theorem FK{s:Bytes}(h:kz s=true):jy s=false:=by
 cases s with
 |nil=>cases h
 |cons x t=>
  simp only[kz,aR,bH]at h;simp only[jy,dX,ab,YS,YT];have:(x.toNat:Int)=63:=h.1;simp[this]
theorem XE(x:UInt8):IntKind.i64.wrap ((x.toNat:Nat):Int)=(x.toNat:Int):=dG (n8.i64.2 (by have:=x.toNat_lt;omega))
theorem Ie{n:Nat}(h:n<=1099511627776):IntKind.i64.wrap ((n:Int)+1)=((n+1:Nat):Int):=by rw[dG (n8.i64.2 (by omega))];omega
theorem Wx{n:Nat}(h:1<=n):Ay n (some (D.int .i64 1)) none=some (1,n):=by
 unfold Ay;have:(0:Int)<=1/\(1:Int).toNat<=n:=⟨by decide,h⟩
 simp only[bE this];rfl
theorem GS(a b c:Int):jM a b c=some (decide (a>=b)&&decide (a<=c)):=by
 unfold jM;cases decide (a>=b)<;>rfl
theorem Yo(a:Bytes)(k:Option Bool)(ha:a.length<=1048576):∀(rest pre:Bytes),a=pre++rest->∀n,rest.length<n->gy a k n (pre.length:Int)=bif rest.all ab then k else some false:=by
 intro rest
 induction rest with
 |nil=>
  intro pre h n hn;obtain⟨m,rfl⟩:∃m,n=m+1:=⟨n-1,by simp at hn;omega⟩
  have e1:decide ((pre.length:Int)<(a.length:Int))=false:=by simp[h]
  rw[gy,e1];rfl
 |cons x xs ih=>
  intro pre h n hn;obtain⟨m,rfl⟩:∃m,n=m+1:=⟨n-1,by simp at hn;omega⟩
  have hl:a.length=pre.length+(xs.length+1):=by rw[h];simp
  have e1:decide ((pre.length:Int)<(a.length:Int))=true:=by rw[hl];simp;omega
  have e4:IntKind.i64.wrap ((pre.length:Int)+1)=((pre++[x]).length:Int):=by rw[Ie (by omega)];simp
  have t:=ih (pre++[x]) (by simp[h]) m (by simp at hn;omega);rw[gy,e1,aH,wC h,aA,XE,GS,GS,aA,aA,e4,t,dX];show(bif !YS x then(bif !YT x then _ else _)else _)=bif (YS x||YT x)&&xs.all ab then k else some false
  cases YS x<;>cases YT x<;>simp
theorem Gf(a:Bytes)(ha:a.length<=1048576):eg a=some (jy a):=by
 unfold eg;refine(Yo a _ ha a [] rfl fuel (by unfold fuel;omega)).trans ?_;rw[GS,aA];show _=some (a.all ab&&Q0 a);cases a.all ab<;>rfl
theorem YA(a:Bytes)(k:Option Bool)(ha:a.length<=1048576):∀(rest pre:Bytes),a=pre++rest->∀n,rest.length<n->fI a k n (pre.length:Int)=bif rest.all ab then k else some false:=by
 intro rest
 induction rest with
 |nil=>
  intro pre h n hn;obtain⟨m,rfl⟩:∃m,n=m+1:=⟨n-1,by simp at hn;omega⟩
  have e1:decide ((pre.length:Int)<(a.length:Int))=false:=by simp[h]
  rw[fI,e1];rfl
 |cons x xs ih=>
  intro pre h n hn;obtain⟨m,rfl⟩:∃m,n=m+1:=⟨n-1,by simp at hn;omega⟩
  have hl:a.length=pre.length+(xs.length+1):=by rw[h];simp
  have e1:decide ((pre.length:Int)<(a.length:Int))=true:=by rw[hl];simp;omega
  have e4:IntKind.i64.wrap ((pre.length:Int)+1)=((pre++[x]).length:Int):=by rw[Ie (by omega)];simp
  have t:=ih (pre++[x]) (by simp[h]) m (by simp at hn;omega);rw[fI,e1,aH,wC h,aA,e4,t,dX];have c1:decide ((x.toNat:Int)>=97)= !decide ((x.toNat:Int)<97):=by rw[bX];simp
  have c2:decide ((x.toNat:Int)<=122)= !decide ((x.toNat:Int)>122):=by rw[bX];simp
  have c3:decide ((x.toNat:Int)>=48)= !decide ((x.toNat:Int)<48):=by rw[bX];simp
  have c4:decide ((x.toNat:Int)<=57)= !decide ((x.toNat:Int)>57):=by rw[bX];simp
  rw[ab,YS,YT,c1,c2,c3,c4];cases decide ((x.toNat:Int)<97)<;>cases decide ((x.toNat:Int)>122)<;>cases decide ((x.toNat:Int)<48)<;>cases decide ((x.toNat:Int)>57)<;>simp
theorem GR(a:Bytes)(ha:a.length<=1048576):eb a=some (jy a):=by
 unfold eb;rw[show fI a (some true) fuel 0=_ from YA a _ ha a [] rfl fuel (by unfold fuel;omega)];have c1:decide ((a.length:Int)>=1)= !decide ((a.length:Int)<1):=by rw[bX];simp
 have c2:decide ((a.length:Int)<=8)= !decide ((a.length:Int)>8):=by rw[bX];simp
 rw[jy,Q0,c1,c2];cases decide ((a.length:Int)<1)<;>cases decide ((a.length:Int)>8)<;>cases a.all ab<;>rfl
theorem TR(a:Bytes)(ha:a.length<=1048576):nv a=some (tZ a):=by
 unfold nv;rw[Gf a ha,aA,tZ];cases h:jy a with
 |false=>rfl
 |true=>
  cases a with
  |nil=>simp[jy,Q0]at h
  |cons x xs=>
   rw[show iY (x::xs) 0=some x from rfl];simp only[aH,aA,XE,GS,iR,af,WM];simp only[jy,dX,ab,YS,YT,aR,lM,bH]at h;rw[bX];simp only[aR,bH];omega
theorem SP(a:Bytes)(ha:a.length<=1048576):nq a=some (tZ a):=by
 unfold nq;rw[GR a ha,aA,tZ];cases h:jy a with
 |false=>rfl
 |true=>
  cases a with
  |nil=>simp[jy,Q0]at h
  |cons x xs=>rfl
theorem Kz(a:Bytes)(ha:a.length<=1048576):fk a=some (kz a):=by
 unfold fk;cases a with
 |nil=>rfl
 |cons x t=>
  simp only[aQ]at ha;rw[show iY (x::t) 0=some x from rfl,aA,Wx (by simp),aA];have e:(((x::t).take ((x::t).length)).drop 1)=t:=by simp
  simp only[e,Gf t (by omega),aA,kz,jV];cases t with
  |nil=>cases decide ((x.toNat:Int)=63)<;>rfl
  |cons y t=>
   have e2:decide ((((x::y::t).length:Int):Int)>1)=true:=by simp;omega
   rw[e2];cases decide ((x.toNat:Int)=63)<;>simp
theorem Pu(a:Bytes)(ha:a.length<=1048576):jW a=some (kz a):=by
 unfold jW;cases a with
 |nil=>rfl
 |cons x t=>
  simp only[aQ]at ha;rw[show iY (x::t) 0=some x from rfl,aA,Wx (by simp),aA];have e:(((x::t).take ((x::t).length)).drop 1)=t:=by simp
  simp only[e,GR t (by omega),aA,kz,jV];cases t with
  |nil=>cases decide ((x.toNat:Int)=63)<;>rfl
  |cons y t=>
   have e2:decide ((((x::y::t).length:Int):Int)>1)=true:=by simp;omega
   rw[e2];cases decide ((x.toNat:Int)=63)<;>simp
theorem TZ(a:Bytes)(ha:a.length<=1048576):gb a=some (qZ a):=by
 unfold gb qZ;rw[Gf a ha,Kz a ha];cases jy a<;>simp
theorem SV(a:Bytes)(ha:a.length<=1048576):ga a=some (qZ a):=by
 unfold ga qZ;rw[GR a ha,Pu a ha];cases jy a<;>simp
theorem Tc(l:aG)(h:l.length<=1099511627776):oW l=some l:=by
 unfold oW;rw[MU h (by decide)];rfl
theorem KS(l:aG)(h:l.length<=1099511627776):kL l=some l:=by
 unfold kL;rw[MU h (by decide)];rfl
theorem Z1(a b:aG):sV a b=some (decide (a=b)):=by
 unfold sV;exact Xa (c:=tx) (f:=fun x y=>some (x==y)) (fun k=>qP a b k) (fun _ _=>rfl) (fun _ _ _ _=>rfl) (fun x y=>by rw[af,bX];simp)
theorem SR(a b:aG):mT a b=some (decide (a=b)):=by
 unfold mT;exact Xa (c:=tx) (f:=fun x y=>some (x==y)) (fun k=>ju a b k) (fun _ _=>rfl) (fun _ _ _ _=>rfl) (fun x y=>by rw[af,bX];simp)
theorem YN(a b:b9):pW a b=some (decide (a=b)):=by
 unfold pW;exact Xa (c:=lZ) (f:=fun x y=>some (x==y)) (fun k=>kM a b k) (fun _ _=>rfl) (fun _ _ _ _=>rfl) (fun x y=>by rw[af,bX];simp)
theorem QN(l:aG)(v:Bytes):fM l v=some (l.contains v):=by
 unfold fM;have:∀(r:aG) (i:Nat),iJ l v (some false) r i=some (r.contains v):=by
  intro r
  induction r with
  |nil=>intro i;rfl
  |cons x r ih=>
   intro i;rw[iJ,ih,List.contains_cons];have:(x==v)=(v==x):=by rw[bX,cO,cO];exact eq_comm
   rw[this];cases v==x<;>rfl
 exact this l 0
theorem VA(l:aG)(v:Bytes):ja l v=some (l.contains v):=by
 unfold ja;have:∀(r:aG) (i:Nat),jb l v (some false) r i=some (r.contains v):=by
  intro r
  induction r with
  |nil=>intro i;rfl
  |cons x r ih=>
   intro i;rw[jb,ih,List.contains_cons];have:(x==v)=(v==x):=by rw[bX,cO,cO];exact eq_comm
   rw[this];cases v==x<;>rfl
 exact this l 0
theorem X9(a:aG)(s:Bytes)(k:Bool->aG->Option aG):∀(l:aG) (i:Nat) (w:aG),w.length+l.length<1099511627776->
 dl a s k l i true w=k true (w++l):=by
 intro l
 induction l with
 |nil=>intro i w _;simp[dl]
 |cons x xs ih=>
  intro i w h;simp only[aQ]at h;rw[dl,bV,aS,hG (by omega) (by decide),aH,ih _ _ (by simp;omega)];simp
theorem a1T(a:aG)(s:Bytes)(k:Bool->aG->Option aG)(hk:∀w,w.length<1099511627776->k false w=some (w++[s]))(hk2:∀w,k true w=some w):∀(l:aG) (i:Nat) (w:aG),w.length+l.length+1<1099511627776->
 dl a s k l i false w=some (w++vc l s):=by
 intro l
 induction l with
 |nil=>intro i w h;rw[dl,hk w (by omega)];rfl
 |cons x xs ih=>
  intro i w h;simp only[aQ]at h;rw[dl,cJ,aH,vc];cases Op.bytesLess x s with
  |true=>
   simp only[bV,aS,aH];rw[hG (by omega) (by decide),aH,ih _ _ (by simp;omega)];simp
  |false=>
   simp only[cJ,aH,aS];cases x==s with
   |true=>
    simp only[bV,aS,aH];rw[hG (by omega) (by decide),aH,X9 _ _ _ _ _ _ (by simp;omega),hk2];simp
   |false=>
    simp only[cJ,aH,aS];rw[hG (by omega) (by decide),aH];have e:room (((w.map tx)++[[D.str s]]).length+([[D.str x]]).length) 16=true:=DQ (by simp;omega) (by decide);rw[e,aH,X9 _ _ _ _ _ _ (by simp;omega),hk2];simp
theorem Nw(l:aG)(s:Bytes)(h:l.length+1<1099511627776):je l s=some (vc l s):=by
 unfold je;rw[a1T l s _ (fun w hw=>by simp only[cJ,aH];rw[hG hw (by decide)];rfl) (fun w=>by simp) l 0 [] (by simpa using h)];rfl
def dd:Option Bytes->aG->aG
 |_,[]=>[]
 |p,x::xs=>if p=some x then dd (some x) xs else x::dd (some x) xs
theorem N9:∀ {l:aG} {p:Option Bytes} {y:Bytes},y∈dd p l->y∈l
 | [],p,y,h=>by cases h
 |x::xs,p,y,h=>by
  simp only[dd]at h;split at h
  ·exact bA.2 (.inr (N9 h))
  ·rcases bA.1 h with rfl|h
   ·simp
   ·exact bA.2 (.inr (N9 h))
theorem Sn:∀ {l:aG} {p:Option Bytes} {y:Bytes},y∈l->p=some y\/y∈dd p l
 |x::xs,p,y,h=>by
  simp only[dd];rcases bA.1 h with rfl|h
  ·by_cases hp:p=some y
   ·exact .inl hp
   ·rw[av hp];exact .inr (by simp)
  ·have:=Sn (p:=some x) h;split
   ·rename_i hp;rcases this with e|e
    ·exact .inl (hp.trans e)
    ·exact .inr e
   ·rcases this with e|e
    ·cases e;exact .inr (by simp)
    ·exact .inr (by simp[e])
theorem WE:∀ {l:aG} {p:Option Bytes},l.Pairwise (fun a b=>Op.bytesLess b a=false)->(∀q,p=some q->∀y∈l,Op.bytesLess y q=false)->SS (dd p l)/\∀q,p=some q->∀y∈dd p l,Op.bytesLess q y=true
 | [],p,_,_=>⟨by simp[dd,SS],by simp[dd]⟩
 |x::xs,p,h,hp=>by
  obtain⟨p1,p2⟩:=kF.1 h;obtain⟨i1,i2⟩:=WE (l:=xs) (p:=some x) p2 (fun q hq y hy=>by cases hq;exact p1 y hy);simp only[dd];split
  ·rename_i he;exact⟨i1,fun q hq y hy=>by rw[he]at hq;cases hq;exact i2 x rfl y hy⟩
  ·rename_i he;refine⟨kF.2 ⟨fun y hy=>i2 x rfl y hy,i1⟩,fun q hq y hy=>?_⟩;have hqx:Op.bytesLess q x=true:=by
    cases hc:Op.bytesLess q x with
    |true=>rfl
    |false=>exact absurd (by rw[hq,Fe hc (hp q hq x (by simp))]) he
   rcases bA.1 hy with rfl|hy
   ·exact hqx
   ·exact yg hqx (i2 x rfl y hy)
theorem Th(l:aG):lK l=l.mergeSort (fun x y=> !Op.bytesLess y x):=by
 unfold lK
 congr 1
 funext x y
 rw[Go.Proofs.bytesLess_eq];rw[bX];simp[List.not_lt]
theorem L6(l:aG):(lK l).Pairwise (fun a b=>Op.bytesLess b a=false):=by
 rw[Th];have:=List.pairwise_mergeSort (le:=fun x y=> !Op.bytesLess y x) (fun a b c h1 h2=>by
  simp only[nL]at h1 h2⊢;cases hc:Op.bytesLess c a with
  |false=>rfl
  |true=>
   cases hb:Op.bytesLess b a with
   |true=>rw[h1]at hb;cases hb
   |false=>
    cases Mm:Op.bytesLess a b with
    |true=>have:=yg hc Mm;rw[h2]at this;cases this
    |false=>have:=Fe hb Mm;subst this;rw[h2]at hc;cases hc) (fun a b=>by
  cases hc:Op.bytesLess b a with
  |false=>simp
  |true=>simp[EN hc]) l
 exact this.imp (fun h=>by simpa using h)
theorem Ur(l:aG):dd none (lK l)=eP l:=by
 refine Fa (WE (L6 l) (by simp)).1 (IW l) (fun x=>?_);rw[rP];have hm:x∈lK l↔x∈l:=(xT l).mem_iff;constructor
 ·intro h;exact hm.1 (N9 h)
 ·intro h;rcases Sn (p:=none) (hm.2 h)with h|h
  ·cases h
  ·exact h
theorem SU(a:aG)(k:aG->Option aG)(ha:a.length<=1099511627775):∀(rest pre:aG) (w:aG),lK ([]++a)=pre++rest->w.length+rest.length<=1099511627775->
 dK a k rest pre.length w=k (w++dd pre.getLast? rest):=by
 have hlen:(lK ([]++a)).length=a.length:=(xT _).length_eq;intro rest
 induction rest with
 |nil=>intro pre w _ _;simp[dK,dd]
 |cons x xs ih=>
  intro pre w h hw;simp only[aQ]at hw;have hl:pre.length+(xs.length+1)=a.length:=by rw[<-hlen,h];simp
  have t:=fun w'=>ih (pre++[x]) w' (by rw[h];simp)
  simp only[b8,aQ,bS,ke]at t;rw[dK];rcases tu pre with rfl|⟨p,z,UI⟩
  ·have e0:(((([]:aG).length:Int):Int)==0)=true:=rfl;rw[e0,aH,hG (by omega) (by decide),aH,t _ (by simp;omega)];simp[dd]
  ·rw[tr]at UI;subst UI;have e0:((((p++[z]).length:Int):Int)==0)=false:=by simp;omega
   have e1:IntKind.i64.wrap (((p++[z]).length:Int)-1)=(p.length:Int):=by
    rw[dG (n8.i64.2 (by simp at hl⊢;omega))];simp
   have e2:iY (lK ([]++a)) (p.length:Int)=some z:=wC (xs:=x::xs) (by rw[h];simp);rw[e0,aS,e1,e2,aA];simp only[dd,ke];by_cases hz:z=x
   ·subst hz;have e3:((z:Bytes)==z)=true:=by simp
    rw[e3,bV,aS,t _ (by omega),bE rfl]
   ·have e3:((z:Bytes)==x)=false:=by simpa using hz
    rw[e3,cJ,aH,hG (by omega) (by decide),aH,t _ (by simp;omega),av (by simpa using hz)];simp
theorem KR(l:aG)(h:l.length<1099511627775):iv l=some (eP l):=by
 have hlen:(lK ([]++l)).length=l.length:=(xT _).length_eq;unfold iv;have e1:decide ((([]:aG)++l).length<4611686018427387904)=true:=by simp;omega
 rw[MU (by omega) (by decide),aH,e1,aH,rZ (by rw[hlen];omega),aH];have:=SU l (fun q=>some q) (by omega) (lK ([]++l)) [] [] rfl (by rw[hlen];simp;omega);rw[show([]:aG).length=0 from rfl]at this;rw[this,<-Ur];simp
end Go.Cx
namespace Go.Cx
open Go.RowKit Go.Proofs Tryz
theorem aF.Ks{p:aF}{n:Nat}(h:p.wt<=n):p.rel.length<=n:=by unfold aF.wt tw at h;omega
theorem aF.dF{p:aF}{n:Nat}(h:p.wt<=n):p.args.length<=n:=by unfold aF.wt at h;have:=qc tw p.args;omega
theorem aF.qH{p:aF}{n:Nat}(h:p.wt<=n){x:Bytes}(hx:x∈p.args):x.length<=n:=by unfold aF.wt at h;have:=qd (w:=tw) hx;have e:tw x=x.length:=rfl;omega
theorem aM.ei{c:aM}{n:Nat}(h:c.wt<=n):c.pat.wt<=n:=by simp only[aM.wt,aF.wt]at h⊢;omega
theorem aM.yB{c:aM}{n:Nat}(h:c.wt<=n):c.left.length<=n:=by simp only[aM.wt,tw]at h;omega
theorem aM.vF{c:aM}{n:Nat}(h:c.wt<=n):c.right.length<=n:=by simp only[aM.wt,tw]at h;omega
theorem Action.ei{c:Action}{n:Nat}(h:c.wt<=n):c.pat.wt<=n:=by simp only[Action.wt,aF.wt]at h⊢;omega
theorem aL.P4{r:aL}{n:Nat}(h:r.wt<=n):r.name.length<=n:=by simp only[aL.wt,tw]at h;omega
theorem aL.pP{r:aL}{n:Nat}(h:r.wt<=n):rp aM.wt r.conds<=n:=by simp only[aL.wt]at h;omega
theorem aL.EK{r:aL}{n:Nat}(h:r.wt<=n):rp Action.wt r.cR<=n:=by simp only[aL.wt]at h;omega
theorem aL.o7{r:aL}{n:Nat}(h:r.wt<=n){c:aM}(hc:c∈r.conds):c.wt<=n:=by have:=aL.pP h;have:=qd (w:=aM.wt) hc;omega
theorem aL.Jv{r:aL}{n:Nat}(h:r.wt<=n){c:Action}(hc:c∈r.cR):c.wt<=n:=by have:=aL.EK h;have:=qd (w:=Action.wt) hc;omega
theorem C7(f:aF)(h:f.args.length<=1099511627776):eM f=some f:=by
 unfold eM;rw[Tc _ h];rfl
theorem G4(f:aF)(h:f.args.length<=1099511627776):dN f=some f:=by
 unfold dN;rw[KS _ h];rfl
theorem SQ(a b:aF):lP a b=some (decide (a=b)):=by
 obtain⟨a0,a1⟩:=a;obtain⟨b0,b1⟩:=b;unfold lP;simp only[SR,aA,jV];by_cases h0:a0=b0<;>by_cases h1:a1=b1<;>simp[h0,h1]
theorem TY(a b:aF):p8 a b=some (decide (a=b)):=by
 obtain⟨a0,a1⟩:=a;obtain⟨b0,b1⟩:=b;unfold p8;simp only[Z1,aA,jV];by_cases h0:a0=b0<;>by_cases h1:a1=b1<;>simp[h0,h1]
theorem I2(a b:aF):ec a b=some (decide (a=b)):=by
 obtain⟨a0,a1⟩:=a;obtain⟨b0,b1⟩:=b;unfold ec;simp only[SR,aA,jV];by_cases h0:a0=b0<;>by_cases h1:a1=b1<;>simp[h0,h1]
theorem HJ(a b:aJ):gu a b=some (decide (a=b)):=by
 unfold gu;exact Xa (c:=aF.c) (f:=lP) (fun k=>jo a b k) (fun _ _=>rfl) (fun _ _ _ _=>rfl) SQ
def Aw(p:aF):Bool:=p.args.all qZ&&(tZ p.rel&&decide ((p.args.length:Int)<=3))
def og(f:aF):Bool:=f.args.all jy&&(tZ f.rel&&decide ((f.args.length:Int)<=3))
theorem X4(f:aF)(h:f.wt<=1048576):sD f=some (og f):=by
 unfold sD;rw[Pb (f:=eg) (L:=uN f _) (fun _=>rfl) (fun _ _ _=>rfl) f.args 0 (fun x hx=>Gf x (aF.qH h hx)),TR _ (aF.Ks h),aA,ax,og];cases f.args.all jy<;>cases tZ f.rel<;>rfl
theorem SM(f:aF)(h:f.wt<=1048576):mG f=some (og f):=by
 unfold mG;rw[Pb (f:=eb) (L:=mP f _) (fun _=>rfl) (fun _ _ _=>rfl) f.args 0 (fun x hx=>GR x (aF.qH h hx)),SP _ (aF.Ks h),aA,ax,og];have c:decide ((f.args.length:Int)<=3)= !decide ((f.args.length:Int)>3):=by rw[bX];simp
 rw[c];cases f.args.all jy<;>cases tZ f.rel<;>cases decide ((f.args.length:Int)>3)<;>rfl
theorem Yx(f:aF)(h:f.wt<=1048576):gA f=some (Aw f):=by
 unfold gA;rw[Pb (f:=gb) (L:=jv f _) (fun _=>rfl) (fun _ _ _=>rfl) f.args 0 (fun x hx=>TZ x (aF.qH h hx)),TR _ (aF.Ks h),aA,ax,Aw];cases f.args.all qZ<;>cases tZ f.rel<;>rfl
theorem YK(f:aF)(h:f.wt<=1048576):gm f=some (Aw f):=by
 unfold gm;rw[Pb (f:=ga) (L:=jm f _) (fun _=>rfl) (fun _ _ _=>rfl) f.args 0 (fun x hx=>SV x (aF.qH h hx)),SP _ (aF.Ks h),aA,ax,Aw];have c:decide ((f.args.length:Int)<=3)= !decide ((f.args.length:Int)>3):=by rw[bX];simp
 rw[c];cases f.args.all qZ<;>cases tZ f.rel<;>cases decide ((f.args.length:Int)>3)<;>rfl
def iA(l:aG):aG:=l.filter kz
theorem tE(l:aG):(iA l).length<=l.length:=qE _ _
theorem Jf(a b:aG):iA (a++b)=iA a++iA b:=List.filter_append _ _
theorem FG(p:aF)(h:p.wt<=1048576):kY p=some (eP (iA p.args)):=by
 unfold kY;have:∀(r:aG) (i:Nat) (w:aG),(∀x∈r,x.length<=1048576)->w.length+r.length<=2097152->jL p (fun q=>some q) r i w=some ((iA r).foldl vc w):=by
  intro r
  induction r with
  |nil=>intro i w _ _;rfl
  |cons x r ih=>
   intro i w hr hw;simp only[aQ]at hw;have hl:=xO w x;rw[jL,Kz x (hr x (by simp)),aA,Nw w x (by omega),aA,ih _ _ (fun y hy=>hr y (by simp[hy])) (by omega),ih _ _ (fun y hy=>hr y (by simp[hy])) (by omega)];cases hv:kz x<;>simp[iA,hv]
 exact this p.args 0 [] (fun x hx=>aF.qH h hx) (by have:=aF.dF h;simp;omega)
theorem SX(l:aG)(hl:l.length<=2097152)(h:∀x∈l,x.length<=1048576):kN l=some (iA l):=by
 unfold kN;have:∀(r:aG) (i:Nat) (w:aG),(∀x∈r,x.length<=1048576)->w.length+r.length<=2097152->fA l (fun q=>some q) r i w=some (w++iA r):=by
  intro r
  induction r with
  |nil=>intro i w _ _;simp[fA,iA]
  |cons x r ih=>
   intro i w hr hw;simp only[aQ]at hw;rw[fA,Pu x (hr x (by simp)),aA,hG (by omega) (by decide),ih _ _ (fun y hy=>hr y (by simp[hy])) (by simp;omega),ih _ _ (fun y hy=>hr y (by simp[hy])) (by omega)];cases hv:kz x<;>simp[iA,hv]
 exact this l 0 [] h (by simpa using hl)
def nP(c:aM):aG:=iA (c.pat.args++[c.left,c.right])
theorem uK{c:aM}{n:Nat}(h:c.wt<=n):(nP c).length<=n+2:=by
 have h1:=tE (c.pat.args++[c.left,c.right]);have h2:=aF.dF (aM.ei h);simp only[b8,aQ,bS]at h1;unfold nP;omega
theorem Nt(c:aM)(h:c.wt<=1048576):k6 c=some (eP (nP c)):=by
 unfold k6;have h1:=aF.dF (aM.ei h);have h2:=nK (iA c.pat.args);have h3:=tE c.pat.args;have h4:=xO (eP (iA c.pat.args)) c.left;rw[FG _ (aM.ei h),aA,Kz _ (aM.yB h),aA,Kz _ (aM.vF h)];simp only[aA];rw[Nw _ _ (by omega),Nw _ _ (by omega),aA,Nw _ _ (by omega)];simp only[aA,nP,Jf,O5];cases hl:kz c.left<;>cases hr:kz c.right<;>simp[iA,hl,hr]
theorem SW(c:aM)(h:c.wt<=1048576):oV c=some (c.pat.args++[c.left,c.right]):=by
 unfold oV;have h1:=aF.dF (aM.ei h);rw[KS _ (by omega),aA];rw[DQ (by simp;omega) (by decide)];rfl
theorem NT(c:aM)(h:c.wt<=1048576):lN c=some (eP (nP c)):=by
 unfold lN;have h1:=aF.dF (aM.ei h);have h5:=uK h;rw[SW c h,aA,SX _ (by simp;omega) (fun x hx=>by
  simp only[aV,bA,List.not_mem_nil,or_false]at hx;rcases hx with hx|rfl|rfl
  ·exact aF.qH (aM.ei h) hx
  ·exact aM.yB h
  ·exact aM.vF h),aA]
 rw[show iA (c.pat.args++[c.left,c.right])=nP c from rfl,KR _ (by omega)];rfl
def CF(p:aF):Bool:=p.rel==[]&&decide ((p.args.length:Int)=0)
def oJ(c:aM):Bool:=bif decide (c.kind=1)||decide (c.kind=2)then Aw c.pat&&(c.left==[]&&c.right==[])else bif decide (c.kind=3)||decide (c.kind=4)||decide (c.kind=5)then CF c.pat&&(qZ c.left&&qZ c.right)else false
def FI(c:aM):Bool:=oJ c&&decide (c.kind>=3)
theorem DX{c:aM}(h:oJ c=true):1<=c.kind/\c.kind<=5:=by
 unfold oJ at h;by_cases h1:c.kind=1
 ·omega
 by_cases h2:c.kind=2
 ·omega
 by_cases h3:c.kind=3
 ·omega
 by_cases h4:c.kind=4
 ·omega
 by_cases h5:c.kind=5
 ·omega
 simp[h1,h2,h3,h4,h5]at h
theorem TL(c:aM)(h:c.wt<=1048576):mH c=some (oJ c):=by
 unfold mH oJ CF;simp only[Yx _ (aM.ei h),TZ _ (aM.yB h),TZ _ (aM.vF h),aA,ax,jV];by_cases h1:c.kind=1
 ·simp only[h1];cases Aw c.pat<;>cases decide (c.left=[])<;>simp
 by_cases h2:c.kind=2
 ·simp only[h2];cases Aw c.pat<;>cases decide (c.left=[])<;>simp
 by_cases h3:c.kind=3
 ·simp only[h3];cases decide (c.pat.rel=[])<;>cases decide ((c.pat.args.length:Int)=0)<;>cases qZ c.left<;>simp
 by_cases h4:c.kind=4
 ·simp only[h4];cases decide (c.pat.rel=[])<;>cases decide ((c.pat.args.length:Int)=0)<;>cases qZ c.left<;>simp
 by_cases h5:c.kind=5
 ·simp only[h5];cases decide (c.pat.rel=[])<;>cases decide ((c.pat.args.length:Int)=0)<;>cases qZ c.left<;>simp
 simp[h1,h2,h3,h4,h5]
theorem WX(p:aF):gV p=some (CF p):=by
 unfold gV CF;simp only[ax,jV];cases decide (p.rel=[])<;>rfl
theorem SJ(c:aM)(h:c.wt<=1048576):nk c=some (oJ c):=by
 unfold nk oJ;simp only[YK _ (aM.ei h),SV _ (aM.yB h),SV _ (aM.vF h),WX,aA,jV];by_cases h1:c.kind=1
 ·simp only[h1];cases Aw c.pat<;>cases decide (c.left=[])<;>simp
 by_cases h2:c.kind=2
 ·simp only[h2];cases Aw c.pat<;>cases decide (c.left=[])<;>simp
 by_cases h3:c.kind=3
 ·simp only[h3];cases CF c.pat<;>cases qZ c.left<;>cases qZ c.right<;>simp
 by_cases h4:c.kind=4
 ·simp only[h4];cases CF c.pat<;>cases qZ c.left<;>cases qZ c.right<;>simp
 by_cases h5:c.kind=5
 ·simp only[h5];cases CF c.pat<;>cases qZ c.left<;>cases qZ c.right<;>simp
 simp[h1,h2,h3,h4,h5]
theorem Ta(c:aM)(h:c.wt<=1048576):nw c=some (FI c):=by
 unfold nw FI;rw[TL c h];cases oJ c<;>rfl
theorem a0q(c:aM)(h:c.wt<=1048576):sA c=some (FI c):=by
 unfold sA FI;rw[SJ c h];cases oJ c<;>rfl
theorem Z0(a b:aM):vU a b=some (decide (a=b)):=by
 obtain⟨a0,a1,a2,a3⟩:=a;obtain⟨b0,b1,b2,b3⟩:=b;unfold vU;simp only[TY,aA,jV];by_cases h0:a0=b0<;>by_cases h1:a1=b1<;>by_cases h2:a2=b2<;>by_cases h3:a3=b3<;>simp[h0,h1,h2,h3]
theorem KP(a b:aM):iW a b=some (decide (a=b)):=by
 obtain⟨a0,a1,a2,a3⟩:=a;obtain⟨b0,b1,b2,b3⟩:=b;unfold iW;simp only[I2,aA,jV];by_cases h0:a0=b0<;>by_cases h1:a1=b1<;>by_cases h2:a2=b2<;>by_cases h3:a3=b3<;>simp[h0,h1,h2,h3]
def HV(a:Action):Bool:=bif decide (a.kind=1)||decide (a.kind=2)then Aw a.pat else bif decide (a.kind=3)then CF a.pat else false
theorem a4C(a:Action)(h:a.wt<=1048576):pY a=some (HV a):=by
 unfold pY HV CF;simp only[Yx _ (Action.ei h),aA,ax,jV];by_cases h1:a.kind=1
 ·simp[h1]
 by_cases h2:a.kind=2
 ·simp[h2]
 by_cases h3:a.kind=3
 ·simp only[h3];cases decide (a.pat.rel=[])<;>simp
 simp[h1,h2,h3]
theorem a3o(a:Action)(h:a.wt<=1048576):pT a=some (HV a):=by
 unfold pT HV;simp only[YK _ (Action.ei h),WX,aA,jV];by_cases h1:a.kind=1
 ·simp[h1]
 by_cases h2:a.kind=2
 ·simp[h2]
 by_cases h3:a.kind=3
 ·simp[h3]
 simp[h1,h2,h3]
end Go.Cx
namespace Go.Cx
open Go.RowKit Go.Proofs Tryz
theorem VU:∀(k v:Nat),v<10^k->1<=k->Lib.nDigits v<=k:=by
 intro k
 induction k with
 |zero=>intro v _ h;omega
 |succ k ih=>
  intro v hv _;by_cases h10:v<10
  ·rw[Lib.nDigits_small h10];omega
  ·rw[Lib.nDigits_big h10];have h3:v/10<10^k:=by rw[tK]at hv;omega
   have hk1:1<=k:=by
    cases k with
    |zero=>simp at hv;omega
    |succ k=>omega
   have:=ih (v/10) h3 hk1;omega
theorem Nd{u:Nat}(h:u<=9223372036854775808):Lib.nDigits u<=19:=VU 19 u (by omega) (by omega)
theorem a2a(u:Nat):UInt8.ofNat (IntKind.u8.wrap (IntKind.i64.wrap (48+((u:Int)%10)))).toNat=UInt8.ofNat (48+u%10):=by
 rw[dG (k:=.i64) (n8.i64.2 (by omega)),dG (n8.u8.2 (by omega))]
 congr 1
theorem X5(k:Option Bytes):∀(n u:Nat) (acc:Bytes),Lib.nDigits u<=n->acc.length+Lib.nDigits u<=1000->gJ k n (u:Int) acc=some (Lib.decDigits u++acc):=by
 intro n
 induction n with
 |zero=>intro u acc h _;have:=Lib.nDigits_pos u;omega
 |succ n ih=>
  intro u acc hn hl;have hp:=Lib.nDigits_pos u;have e0:(decide (0<=(u:Int))&&decide (0<(10:Int)))=true:=by simp
  have e1:decide (([UInt8.ofNat (48+u%10)]:Bytes).length+(acc:Bytes).length<=maxLen)=true:=by unfold maxLen;simp;omega
  rw[gJ];simp only[a2a,e0,e1,aH];by_cases h10:u<10
  ·have e2:(((u:Int)/10:Int)==0)=true:=by rw[cO];omega
   rw[e2,aH,Lib.decDigits,dif_pos h10,Nat.mod_eq_of_lt h10]
  ·have e2:(((u:Int)/10:Int)==0)=false:=by rw[cy];omega
   have e3:((u:Int)/10)=((u/10:Nat):Int):=by omega
   have hd:=Lib.nDigits_big h10;rw[e2,aS,e3,ih (u/10) _ (by omega) (by simp;omega)]
   conv=>rhs;rw[Lib.decDigits,dif_neg h10]
   simp
theorem a1K(m u:Nat)(h:u<=9223372036854775807):fe (m+1) (u:Int)=some (Lib.decDigits u):=by
 rw[fe];have e1:((u:Int)==(-9223372036854775808))=false:=by rw[cy];omega
 have e2:decide ((u:Int)<0)=false:=by simp
 have:=Nd (u:=u) (by omega);rw[e1,aS,e2,aS,X5 _ _ _ _ (by unfold fuel;omega) (by simp;omega)];simp
theorem SZ:Lib.itoa (-9223372036854775808)=[45,57,50,50,51,51,55,50,48,51,54,56,53,52,55,55,53,56,48,56]:=by
 unfold Lib.itoa;simp[Lib.decDigits]
theorem Yu(n:Int)(h:n8 .i64 n):kO n=some (Lib.itoa n):=by
 have h:=n8.i64.1 h;unfold kO;rw[show fuel=4194303+1 from rfl,fe];by_cases hm:n= -9223372036854775808
 ·subst hm;rw[SZ];rfl
 have e1:((n:Int)==(-9223372036854775808))=false:=by rw[cy];exact hm
 rw[e1,aS];by_cases hn:n<0
 ·have e2:decide (n<0)=true:=by simpa using hn
  have e3:IntKind.i64.wrap (0-n)=((n.natAbs:Nat):Int):=by rw[dG (n8.i64.2 (by omega))];omega
  have hd:=Nd (u:=n.natAbs) (by omega);rw[e2,aH,e3,show(4194303:Nat)=4194302+1 from rfl,a1K _ _ (by omega),aA];have e4:decide (([45]:Bytes).length+(Lib.decDigits n.natAbs:Bytes).length<=maxLen)=true:=by unfold maxLen;rw[Lib.decDigits_length];simp;omega
  rw[e4,aH];unfold Lib.itoa;rw[bE hn];rfl
 ·have e2:decide (n<0)=false:=by simpa using hn
  have e3:n=((n.toNat:Nat):Int):=by omega
  have:=Nd (u:=n.toNat) (by omega);rw[e2,aS]
  conv=>lhs;rw[e3]
  rw[X5 _ _ _ _ (by unfold fuel;omega) (by simp;omega)];unfold Lib.itoa;rw[av hn];simp
theorem YG(n:Int):jD n=some (Lib.itoa n):=by
 unfold jD xK;rfl
theorem I4(n:Int)(h:n8 .i64 n):(Lib.itoa n).length<=21:=by
 have:=n8.i64.1 h;exact Lib.itoa_length_le n this.1 this.2
def CL(to:aU)(s:Bytes):Bytes:=match to with
 | []=>s
 |p::r=>bif p.var==s then p.value else CL r s
def IU(to:aU)(x:aM):aM:=⟨x.kind,⟨x.pat.rel,x.pat.args.map (CL to)⟩,CL to x.left,CL to x.right⟩
theorem sRn(to:aU)(s:Bytes):mX s to=some (CL to s):=by
 unfold mX;have:∀(r:aU) (i:Nat),oB s to (some s) r i=some (CL r s):=by
  intro r
  induction r with
  |nil=>intro i;rfl
  |cons x r ih=>
   intro i;rw[oB,ih,CL];cases x.var==s<;>rfl
 exact this to 0
theorem iRn(to:aU)(s:Bytes):gT s to=some (CL to s):=by
 unfold gT;have:∀(r:aU) (i:Nat),gI s to (some s) r i=some (CL r s):=by
  intro r
  induction r with
  |nil=>intro i;rfl
  |cons x r ih=>
   intro i;rw[gI,ih,CL];cases x.var==s<;>rfl
 exact this to 0
theorem Yy(x:aM)(to:aU)(h:x.pat.args.length<=1099511627770):lH x to=some (IU to x):=by
 unfold lH;rw[sRn,aA,sRn,aA];rw[Au (c:=tx) (b:=16) (f:=fun a=>mX a to) (g:=CL to) (L:=qy x to (CL to x.left) (CL to x.right) _) (k:=_) (by decide) (fun _ _=>rfl) (fun _ _ _ _=>rfl) _ _ _ (fun a _=>sRn to a) (by simp;omega)];rfl
theorem a0m(x:aM)(to:aU)(h:x.pat.args.length<=1099511627770):jX x to=some (IU to x):=by
 unfold jX;rw[iRn,aA,iRn,aA];rw[Au (c:=tx) (b:=16) (f:=fun a=>gT a to) (g:=CL to) (L:=jH x to (CL to x.left) (CL to x.right) _) (k:=_) (by decide) (fun _ _=>rfl) (fun _ _ _ _=>rfl) _ _ _ (fun a _=>iRn to a) (by simp;omega)];rfl
def Bq(l:aU)(t:Bytes):Bool:=l.any fun p=>p.var==t
def jh(l:aU)(t:Bytes):aU:=bif kz t&& !Bq l t then l++[⟨t,[63]++Lib.itoa ((l.length:Int)+1)⟩]else l
theorem zB(l:aU)(t:Bytes):(jh l t).length<=l.length+1:=by
 unfold jh;cases kz t&& !Bq l t<;>simp
theorem vW:∀(ts:aG) (l:aU),(ts.foldl jh l).length<=l.length+ts.length
 | [],l=>by simp
 |t::ts,l=>by
  have h1:=vW ts (jh l t);have h2:=zB l t;rw[dL,aQ];omega
theorem Kx(l:aU)(t:Bytes)(hl:l.length<=1099511627770)(ht:t.length<=1048576):qB l t=some (jh l t):=by
 unfold qB;rw[Kz t ht,aA,jh];cases hv:kz t with
 |false=>rfl
 |true=>
  rw[bV,aS,iR];have key:∀(k:Option aU) (r:aU) (i:Nat),rN l t k r i=bif Bq r t then some l else k:=by
   intro k r
   induction r with
   |nil=>intro i;rfl
   |cons x r ih=>
    intro i;rw[rN,ih];simp only[Bq,uZ];cases x.var==t<;>simp
  rw[key];cases Bq l t with
  |true=>rfl
  |false=>
   have e1:IntKind.i64.wrap (((l.map aa.c).length:Int)+1)=(l.length:Int)+1:=by rw[dG (n8.i64.2 (by simp;omega))];simp
   have hr:n8 .i64 ((l.length:Int)+1):=n8.i64.2 (by omega);have hi:=I4 _ hr;have e2:decide (([63]:Bytes).length+(Lib.itoa ((l.length:Int)+1):Bytes).length<=maxLen)=true:=by unfold maxLen;simp;omega
   simp only[aS,cJ,aH];rw[e1,Yu _ hr,aA,e2,aH,hG (by omega) (by decide)];rfl
theorem MF(x y:Bytes):∀(m:List (Bytes×Bool)),F2 false y (ID x true m)=(y==x||F2 false y m)
 | []=>by simp only[ID,F2];cases y==x<;>rfl
 |p::m=>by
  simp only[ID];cases h:x==p.1 with
  |true=>
   have h':x=p.1:=by simpa using h
   subst h';simp only[aH,F2];cases y==p.1<;>simp
  |false=>
   simp only[aS,F2,MF x y m];cases hy:y==p.1 with
   |true=>
    have h1:y=p.1:=by simpa using hy
    have h2:(y==x)=false:=by
     rw[cy]at h⊢;intro e;exact h (e.symm.trans h1)
    simp[h2]
   |false=>simp
theorem Pn(l:aU)(x y v:Bytes):Bq (l++[⟨x,v⟩]) y=(y==x||Bq l y):=by
 have:(x==y)=(y==x):=by rw[bX,cO,cO];exact eq_comm
 simp only[Bq,List.any_append,uZ,EF,s8,this];cases y==x<;>simp
theorem Ow(ts:aG)(hl:ts.length<=1099511627700)(h:∀x∈ts,x.length<=1048576):lC ts=some (ts.foldl jh []):=by
 unfold lC;have key:∀(r:aG) (i:Nat) (w:aU) (m:List (Bytes×Bool)),(∀x∈r,x.length<=1048576)->w.length+r.length<=1099511627700->(∀y,F2 false y m=Bq w y)->
  eY ts (fun q=>some q) r i w m=some (r.foldl jh w):=by
  intro r
  induction r with
  |nil=>intro i w m _ _ _;rfl
  |cons x r ih=>
   intro i w m hx hw hm;simp only[aQ]at hw;have hr:n8 .i64 ((w.length:Int)+1):=n8.i64.2 (by omega);have hi:=I4 _ hr;have e1:IntKind.i64.wrap (((w.map aa.c).length:Int)+1)=(w.length:Int)+1:=by rw[dG (n8.i64.2 (by simp;omega))];simp
   have e2:decide (([63]:Bytes).length+(Lib.itoa ((w.length:Int)+1):Bytes).length<=maxLen)=true:=by unfold maxLen;simp;omega
   rw[eY,Pu x (hx x (by simp)),aA,dL,jh,hm x];cases hv:kz x with
   |false=>simp only[aS,Bool.false_and];exact ih _ _ _ (fun y hy=>hx y (by simp[hy])) (by omega) hm
   |true=>
    cases hh:Bq w x with
    |true=>simp only[aH,bV,aS,iR];exact ih _ _ _ (fun y hy=>hx y (by simp[hy])) (by omega) hm
    |false=>
     simp only[aH,cJ,iR];rw[e1,YG,aA,e2,aH,hG (by omega) (by decide),aH];exact ih _ _ _ (fun y hy=>hx y (by simp[hy])) (by simp;omega) (fun y=>by rw[MF,Pn,hm])
 exact key ts 0 [] [] h (by simpa using hl) (fun y=>rfl)
def yW(p:aF):aF:=(IU (p.args.foldl jh []) ⟨0,p,[],[]⟩).pat
theorem Z4(p:aF)(h:p.wt<=1048576):tS p=some (yW p):=by
 have hl:=aF.dF h;unfold tS;have key:∀(k:aU->Option aF) (r:aG) (i:Nat) (w:aU),(∀x∈r,x.length<=1048576)->w.length+r.length<=1099511627700->qX p k r i w=k (r.foldl jh w):=by
  intro k r
  induction r with
  |nil=>intro i w _ _;rfl
  |cons x r ih=>
   intro i w hx hw;simp only[aQ]at hw;have:=zB w x;rw[qX,Kx w x (by omega) (hx x (by simp)),aA,ih _ _ (fun y hy=>hx y (by simp[hy])) (by omega)];rfl
 rw[key _ _ _ _ (fun x hx=>aF.qH h hx) (by simp;omega),Yy _ _ (by simp;omega)];rfl
theorem YP(p:aF)(h:p.wt<=1048576):oN p=some (yW p):=by
 have hl:=aF.dF h;unfold oN;rw[Ow _ (by omega) (fun x hx=>aF.qH h hx),aA,a0m _ _ (by simp;omega)];rfl
def ve(l:aq):aG:=l.flatMap fun c=>c.pat.args++[c.left,c.right]
theorem O1(l:aq):(ve l).length<=3*rp aM.wt l:=by
 unfold ve
 induction l with
 |nil=>simp
 |cons x l ih=>
  rw[eV,b8,lg];have:=aF.dF (aM.ei (c:=x) (bJ _));simp only[b8,aQ,bS];omega
def mo(r:aL):aU:=(ve r.conds).foldl jh []
def fw(r:aL):aq:=r.conds.map (IU (mo r))
theorem TS(a:aL)(i:Nat)(c:aM)(k:aU->Option aU):∀(r:aG) (j:Nat) (w:aU),(∀x∈r,x.length<=1048576)->w.length+r.length<=1099511627700->nX a i c k r j w=k (r.foldl jh w):=by
 intro r
 induction r with
 |nil=>intro i w _ _;rfl
 |cons x r ih=>
  intro i w hx hw;simp only[aQ]at hw;have:=zB w x;rw[nX,Kx w x (by omega) (hx x (by simp)),aA,ih _ _ (fun y hy=>hx y (by simp[hy])) (by omega)];rfl
theorem Yv(r:aL)(h:r.wt<=1048576):tR r=some (mo r):=by
 unfold tR;have key:∀(l:aq) (i:Nat) (w:aU),(∀c∈l,c.wt<=1048576)->w.length+3*rp aM.wt l<=1099511627700->nW r (fun q=>some q) l i w=some ((ve l).foldl jh w):=by
  intro l
  induction l with
  |nil=>intro i w _ _;rfl
  |cons c l ih=>
   intro i w hc hw;rw[lg]at hw;have Pp:=hc c (by simp);have ha:=aF.dF (aM.ei (c:=c) (bJ _));have h1:=vW c.pat.args w;have h2:=zB (c.pat.args.foldl jh w) c.left;have h3:=zB (jh (c.pat.args.foldl jh w) c.left) c.right;rw[nW,rZ (by omega),aH,TS _ _ _ _ _ _ _ (fun x hx=>aF.qH (aM.ei Pp) hx) (by omega),Kx _ _ (by omega) (aM.yB Pp),aA,Kx _ _ (by omega) (aM.vF Pp),aA,
    ih _ _ (fun y hy=>hc y (by simp[hy])) (by omega)]
   simp[ve]
 have:=aL.pP h;exact key r.conds 0 [] (fun c hc=>aL.o7 h hc) (by simp;omega)
theorem YJ(r:aL)(h:r.wt<=1048576):nS r=some (mo r):=by
 unfold nS;have hw:=aL.pP h;have key:∀(k:aG->Option aU) (l:aq) (i:Nat) (w:aG),(∀c∈l,c.wt<=1048576)->w.length+3*rp aM.wt l<=1099511627700->fT r k l i w=k (w++ve l):=by
  intro k l
  induction l with
  |nil=>intro i w _ _;simp[fT,ve]
  |cons c l ih=>
   intro i w hc hw;rw[lg]at hw;have Pp:=hc c (by simp);have ha:=aF.dF (aM.ei (c:=c) (bJ _));rw[fT,SW c Pp,aA,TF (by simp;omega) (by decide),aH,ih _ _ (fun y hy=>hc y (by simp[hy])) (by simp;omega)];simp[ve]
 have hl:=O1 r.conds;rw[key _ _ _ _ (fun c hc=>aL.o7 h hc) (by simp;omega),cX,Ow _ (by omega) ?_]
 ·rfl
 ·intro x hx;unfold ve at hx;obtain⟨c,hc,hx⟩:=bZ.1 hx;have Pp:=aL.o7 h hc;rcases aV.1 hx with hx|hx
  ·exact aF.qH (aM.ei Pp) hx
  ·simp only[bA,List.not_mem_nil,or_false]at hx;rcases hx with rfl|rfl
   ·exact aM.yB Pp
   ·exact aM.vF Pp
theorem Yq(r:aL)(h:r.wt<=1048576):tQ r=some (fw r):=by
 unfold tQ;have hw:=aL.pP h;have hl:=qc aM.wt r.conds;rw[Yv r h,aA];rw[Au (c:=aM.c) (b:=80) (f:=fun a=>lH a (mo r)) (g:=IU (mo r)) (L:=qx r (mo r) _) (k:=_) (by decide) (fun _ _=>rfl) (fun _ _ _ _=>rfl) _ _ _ (fun c hc=>Yy c _ (by have:=aF.dF (aM.ei (aL.o7 h hc));omega)) (by simp;omega)];simp[fw]
theorem YB(r:aL)(h:r.wt<=1048576):nR r=some (fw r):=by
 unfold nR;have hw:=aL.pP h;have hl:=qc aM.wt r.conds;rw[YJ r h,aA];rw[Au (c:=aM.c) (b:=80) (f:=fun a=>jX a (mo r)) (g:=IU (mo r)) (L:=jG r (mo r) _) (k:=_) (by decide) (fun _ _=>rfl) (fun _ _ _ _=>rfl) _ _ _ (fun c hc=>a0m c _ (by have:=aF.dF (aM.ei (aL.o7 h hc));omega)) (by simp;omega)];simp[fw]
end Go.Cx

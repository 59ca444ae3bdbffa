/- What functions of the program compute, and the walks that show it. No condition. -/
import Derived.Test.YtbeaohmbmfjabaaGreatDoorPTakeFromNetworkG5
set_option linter.unusedVariables false
set_option linter.unusedSimpArgs false
namespace Go.Cx
open Go.RowKit Go.Proofs Tryz
set_option maxRecDepth 100000
variable{Γ:vP}{N:Nat->St->Prop}
def jJ(aB:aF)(k1:aj->Option aj):Nat->Int->aj->Option aj
 |0,_,_=>none
 |n1+1,b7,cB=>((lB b7 1 (IntKind.i64.wrap (((aB.nodes.map Node.c).length:Int)-1))).bind fun y28=>(bif y28 then((mC aB.nodes b7).bind fun x31=>((jv x31.cond).bind fun BL=>(bif room (([[D.int .i64 BL.kind,D.str BL.pat.rel,D.sl (BL.pat.args.map tx),D.str BL.left,D.str BL.right]]).length+(cB.map aN.c).length) 80 then(bif decide ((x31.parent:Int)>=b7)then(k1 (([BL])++cB))else(jJ aB k1 n1 x31.parent (([BL])++cB)))else none)))else(k1 cB)))
def xJ(aB:aF)(aV:Int):Option aj:=(jJ aB (fun(bO:aj)=>(some bO)) fuel aV ([]:aj))
def DV(aB:aF)(b7:Int)(W1:List aR):St:=⟨[(1,D.int .i64 b7),(2,D.ptr 0 0),(5,D.acc 1)],[Ob.box (aF.c aB),Ob.row .uq 115 5 W1]⟩
theorem Mn(hΓ:Γ.nt=35){aB:aF}{r:aj}{k1:aj->Option aj}(cX:∀(bO:aj),k1 bO=some r->Ax Γ N f90 (.q [[some (115,5)]] (D.fr 115 5 (r.map aN.c))) [1,1,1] ⟨[(5,D.acc 0)],[Ob.row .uq 115 5 (bO.map aN.c)]⟩):∀(n1:Nat) (b7:Int) (cB:aj),jJ aB k1 n1 b7 cB=some r->Ar Γ N f90 (.q [[some (115,5)]] (D.fr 115 5 (r.map aN.c))) [1,1,0,0] n1 (DV aB b7 (cB.map aN.c)):=by
 intro n
 induction n with
 |zero=>intro b7 cB h;simp[jJ]at h
 |succ n1 ih1=>
  intro b7 cB h;rw[jJ]at h;refine aM fun N1 bu bq=>?_
  obtain⟨y28,h29,h⟩:=aD h;obtain⟨h30,h⟩|⟨h30,h⟩:=aL h
  ·obtain⟨x31,h32,h⟩:=aD h;obtain⟨BL,h34,h⟩:=aD h;obtain⟨h35,h⟩:=bX h;have dJ:=((((((aU.g (fo h29)).b h30).l (dV Node.c 8 h32 rfl)).g (qF h34)).w (cG h35)).l (dV Node.c 8 h32 rfl))
   obtain⟨h36,h⟩|⟨h36,h⟩:=aL h
   ·exact((dJ.b h36).a [.hl 0 [5] [4]]).exs hΓ bu ⟨[(5,D.acc 0)],[Ob.row .uq 115 5 (([[D.int .i64 BL.kind,D.str BL.pat.rel,D.sl (BL.pat.args.map tx),D.str BL.left,D.str BL.right]])++(cB.map aN.c))]⟩ (by first| (simp only[mA]<;>rfl)| (simp only[mA,aE.c,aS.c,aN.c,Action.c,aO.c,aJ.c,cx.c,aP.c,Node.c,aF.c,cy.c]<;>rfl)) (cX (([BL])++cB) h)
   ·exact((dJ.b h36).a [.cn [1,2,5] [0,4]]).cs hΓ bq (DV aB x31.parent (([[D.int .i64 BL.kind,D.str BL.pat.rel,D.sl (BL.pat.args.map tx),D.str BL.left,D.str BL.right]])++(cB.map aN.c))) (by first| (simp only[mA]<;>rfl)| (simp only[mA,aE.c,aS.c,aN.c,Action.c,aO.c,aJ.c,cx.c,aP.c,Node.c,aF.c,cy.c]<;>rfl)) (ih1 x31.parent (([BL])++cB) h)
  ·exact(((aU.g (fo h29)).b h30).a [.hl 0 [5] [1]]).ex hΓ bu (cX cB h)
theorem LO{aB:aF}{aV:Int}{r:aj}(h:xJ aB aV=some r):Good prog 90 [D.agg (aF.c aB),D.int .i64 aV] (D.fr 115 5 (r.map aN.c)):=by
 refine gd func90 [[some (115,5)]] 35 fun hr Γ hΓ=>?_
 rw[xJ]at h;refine(aU.a [.cn [1,2,5] [0,1]]).lp hΓ (Mn hΓ (fun bO h=>?_) fuel aV ([]:aj) h);have h:=aG h;subst h;exact aU.ret hΓ
def uN(aB:Bytes):Option Bool:=((oX aB).bind fun y1=>(some y1.2))
theorem zm{aB:Bytes}{r:Bool}(h:uN aB=some r):Good prog 281 [D.str aB] (D.bool r):=by
 refine gd func281 [[none]] 11 fun hr Γ hΓ=>?_
 rw[uN]at h;obtain⟨y1,h2,h⟩:=aD h;cases h;exact(aU.g (w5 h2)).ret hΓ
def tE(aB:aN)(aV:aT):Option Bool:=((rS aB).bind fun y1=>(bif !(y1)then(some false)else((kx aV).bind fun y4=>(bif !(y4)then(some false)else((qD aV aB.left).bind fun y7=>((qD aV aB.right).bind fun y9=>(bif !(y7.2)then(some false)else(bif !(y9.2)then(some false)else(bif (aB.kind:Int)==3 then(some ((y7.1:Bytes)==y9.1))else(bif (aB.kind:Int)==4 then(some (!((y7.1:Bytes)==y9.1)))else((uN y7.1).bind fun Vp=>(bif Vp then((uN y9.1).bind fun y18=>(bif y18 then((ja y7.1 y9.1).bind fun RE=>(some (decide ((RE:Int)<0))))else(some false)))else(some false)))))))))))))
theorem Fe{aB:aN}{aV:aT}{r:Bool}(h:tE aB aV=some r):Good prog 270 [D.agg (aN.c aB),D.sl (aV.map aS.c)] (D.bool r):=by
 refine gd func270 [[none]] 61 fun hr Γ hΓ=>?_
 rw[tE]at h;obtain⟨y1,h2,h⟩:=aD h;obtain⟨h3,h⟩|⟨h3,h⟩:=aL h
 ·have h:=aG h;subst h;exact(((aU.g (tU h2)).r 4 h3).T 1).ret hΓ
 ·obtain⟨y4,h5,h⟩:=aD h;have jz:=((((aU.g (tU h2)).r 2 h3).g (mh h5)).r 2 h3)
  obtain⟨h6,h⟩|⟨h6,h⟩:=aL h
  ·have h:=aG h;subst h;exact(jz.b h6).ret hΓ
  ·obtain⟨y7,h8,h⟩:=aD h;obtain⟨y9,h10,h⟩:=aD h;have dJ:=(((jz.b h6).g (wm h8)).g (wm h10))
   obtain⟨h11,h⟩|⟨h11,h⟩:=aL h
   ·have h:=aG h;subst h;exact((dJ.r 3 h11).T 1).ret hΓ
   ·have kT:=(dJ.r 3 h11)
    obtain⟨h12,h⟩|⟨h12,h⟩:=aL h
    ·have h:=aG h;subst h;exact(kT.b h12).ret hΓ
    ·obtain⟨h13,h⟩|⟨h13,h⟩:=aL h
     ·cases h;exact((kT.b h12).b h13).ret hΓ
     ·have jN:=((kT.b h12).b h13)
      obtain⟨h14,h⟩|⟨h14,h⟩:=aL h
      ·cases h;exact(jN.b h14).ret hΓ
      ·obtain⟨Vp,h16,h⟩:=aD h;have uY:=((jN.b h14).g (zm h16))
       obtain⟨h17,h⟩|⟨h17,h⟩:=aL h
       ·obtain⟨y18,h19,h⟩:=aD h;have wX:=(((uY.r 2 h17).g (zm h19)).b h17)
        obtain⟨h20,h⟩|⟨h20,h⟩:=aL h
        ·obtain⟨RE,h22,h⟩:=aD h;cases h;exact(((wX.r 3 h20).g (xF h22)).r 2 h20).ret hΓ
        ·have h:=aG h;subst h;exact(wX.r 5 h20).ret hΓ
       ·have h:=aG h;subst h;exact((uY.r 3 h17).F 5).ret hΓ
def tD(aB:aN)(aV:aT)(cV:aQ):Option Bool:=((rP aB).bind fun y1=>(bif !(y1)then(some false)else((kx aV).bind fun y4=>(bif !(y4)then(some false)else(bif (aB.kind:Int)==1 then((gI aB.pat aV cV).bind fun y8=>(some (decide ((((y8.map aE.c).length:Int):Int)>0))))else(bif (aB.kind:Int)==2 then((gI aB.pat aV cV).bind fun Re=>(some ((((Re.map aE.c).length:Int):Int)==0)))else((tE aB aV).bind fun rp=>(some rp))))))))
theorem Fc{aB:aN}{aV:aT}{cV:aQ}{r:Bool}(h:tD aB aV cV=some r):Good prog 229 [D.agg (aN.c aB),D.sl (aV.map aS.c),D.sl (cV.map aE.c)] (D.bool r):=by
 refine gd func229 [[none]] 38 fun hr Γ hΓ=>?_
 rw[tD]at h;obtain⟨y1,h2,h⟩:=aD h;obtain⟨h3,h⟩|⟨h3,h⟩:=aL h
 ·have h:=aG h;subst h;exact(((aU.g (qC h2)).r 4 h3).T 1).ret hΓ
 ·obtain⟨y4,h5,h⟩:=aD h;have jz:=((((aU.g (qC h2)).r 2 h3).g (mh h5)).r 2 h3)
  obtain⟨h6,h⟩|⟨h6,h⟩:=aL h
  ·have h:=aG h;subst h;exact(jz.b h6).ret hΓ
  ·obtain⟨h7,h⟩|⟨h7,h⟩:=aL h
   ·obtain⟨y8,h9,h⟩:=aD h;cases h;exact(((jz.b h6).b h7).g (gJ h9)).ret hΓ
   ·have dJ:=((jz.b h6).b h7)
    obtain⟨h10,h⟩|⟨h10,h⟩:=aL h
    ·obtain⟨Re,h12,h⟩:=aD h;cases h;exact((dJ.b h10).g (gJ h12)).ret hΓ
    ·obtain⟨rp,h14,h⟩:=aD h;have h:=aG h;subst h;exact((dJ.b h10).g (Fe h14)).ret hΓ
def nU(aB:af)(aV:aN)(cV:aQ)(i1:Nat)(bD:aJ)(k2:af->Option af):aQ->Nat->af->Option af
 | [],i2,jy=>(k2 jy)
 |lM::wF,i2,jy=>((jI aV.pat lM bD.bind).bind fun a0E=>(bif a0E.2 then((eS bD.facts).bind fun a0F=>((ju lM).bind fun U0=>(bif room ((a0F.map aE.c).length+([[D.str U0.rel,D.sl (U0.args.map tx)]]).length) 40 then(bif room ((jy.map aJ.c).length+([[D.sl ((a0F.map aE.c)++([[D.str U0.rel,D.sl (U0.args.map tx)]])),D.sl (a0E.1.map aS.c)]]).length) 48 then(nU aB aV cV i1 bD k2 wF (i2+1) (jy++([(⟨a0F++([U0]),a0E.1⟩:aJ)])))else none)else none)))else(nU aB aV cV i1 bD k2 wF (i2+1) jy)))
def ga(aB:af)(aV:aN)(cV:aQ)(k1:af->Option af):af->Nat->af->Option af
 | [],i1,cB=>(k1 cB)
 |bD::bn,i1,cB=>(bif (aV.kind:Int) != 1 then((tD aV bD.bind cV).bind fun aAx=>(bif aAx then((rU bD).bind fun Xi=>(bif room ((cB.map aJ.c).length+([[D.sl (Xi.facts.map aE.c),D.sl (Xi.bind.map aS.c)]]).length) 48 then(ga aB aV cV k1 bn (i1+1) (cB++([Xi])))else none))else(ga aB aV cV k1 bn (i1+1) cB)))else(bif decide (cV.length<=maxLen)then(nU aB aV cV i1 bD (fun(yd:af)=>(ga aB aV cV k1 bn (i1+1) yd)) cV 0 cB)else none))
def rV(aB:af)(aV:aN)(cV:aQ):Option af:=(ga aB aV cV (fun(bO:af)=>(some bO)) aB 0 ([]:af))
def DY(aB:af)(aV:aN)(cV:aQ)(W0:List aR)(cS:Int):St:=⟨[(0,D.sl (aB.map aJ.c)),(2,D.sl (cV.map aE.c)),(4,D.ptr 0 0),(7,D.acc 1),(8,D.int .i64 cS)],[Ob.box (aN.c aV),Ob.row .uq 124 2 W0]⟩
def DZ(aB:af)(aV:aN)(cV:aQ)(i1:Nat)(W0:List aR)(cS:Int):St:=⟨[(0,D.sl (aB.map aJ.c)),(2,D.sl (cV.map aE.c)),(4,D.ptr 0 0),(7,D.acc 1),(8,D.int .i64 (i1:Int)),(9,D.int .i64 cS)],[Ob.box (aN.c aV),Ob.row .uq 124 2 W0]⟩
theorem Mv(hΓ:Γ.nt=79){aB:af}{aV:aN}{cV:aQ}{i1:Nat}{bD:aJ}{r:af}{k2:af->Option af}(CV:∀(yd:af),k2 yd=some r->Ax Γ N f154 (.q [[some (124,2)]] (D.fr 124 2 (r.map aJ.c))) [1,1,0,1,0,0,1,1] ⟨[(0,D.sl (aB.map aJ.c)),(2,D.sl (cV.map aE.c)),(4,D.ptr 0 0),(7,D.acc 1),(8,D.int .i64 (i1:Int))],[Ob.box (aN.c aV),Ob.row .uq 124 2 (yd.map aJ.c)]⟩)(hx1:(aB)[i1]?=some bD)(hm2:cV.length<=maxLen):∀(rest:aQ) (i2:Nat) (jy:af),cV.drop i2=rest->nU aB aV cV i1 bD k2 rest i2 jy=some r->Ar Γ N f154 (.q [[some (124,2)]] (D.fr 124 2 (r.map aJ.c))) [1,1,0,1,0,0,1,0,0,1,1,0] (rest.length+1) (DZ aB aV cV i1 (jy.map aJ.c) (i2:Int)):=by
 intro rest
 induction rest with
 |nil=>
  intro i2 jy hd2 h;rw[nU]at h;refine aM fun N2 xM uT=>?_
  exact((aU.ge aE.c hd2).a [.hl 3 [0,2,4,7,8] [0,1]]).ex hΓ xM (CV jy h)
 |cons lM wF ih2=>
  intro i2 jy hd2 h;rw[nU]at h;refine aM fun N2 xM uT=>?_
  obtain⟨a0E,h652,h⟩:=aD h;have Hu:=(((((aU.lt aE.c hd2).a [.n 16]).l (ax aE.c 2 (dc hd2) rfl)).l (ax aJ.c 2 hx1 rfl)).g (qQ h652))
  obtain⟨h653,h⟩|⟨h653,h⟩:=aL h
  ·obtain⟨a0F,h660,h⟩:=aD h;obtain⟨U0,h662,h⟩:=aD h;obtain⟨h663,h⟩:=bX h;obtain⟨h664,h⟩:=bX h;exact(((((((((Hu.b h653).a [.n2 [0,1,2,3,4,5,6,7,8,9,10,11,14,12,13,15,16,17,18] [0,1,2,3,4,5,6,7,8,9,10,11,13,14,12,15,16,17,18] 13 17 [0,12] [2,3,4,5,6]]).l (ax aJ.c 2 hx1 rfl)).g (iv h660)).l (ax aE.c 2 (dc hd2) rfl)).g (tW h662)).w (cG h663)).w (cG h664)).a [.cn [0,2,4,7,8,9] [0,8]]).cs hΓ uT (DZ aB aV cV i1 ((jy.map aJ.c)++([[D.sl ((a0F.map aE.c)++([[D.str U0.rel,D.sl (U0.args.map tx)]])),D.sl (a0E.1.map aS.c)]])) (IntKind.i64.wrap ((i2:Int)+1))) (by first| (simp only[iS hd2 hm2,mA]<;>rfl)| (simp only[iS hd2 hm2,mA,aE.c,aS.c,aN.c,Action.c,aO.c,aJ.c,cx.c,aP.c,Node.c,aF.c,cy.c]<;>rfl)) (ih2 (i2+1) (jy++([(⟨a0F++([U0]),a0E.1⟩:aJ)])) (dn hd2) h)
  ·exact((Hu.b h653).a [.cn [0,2,4,7,8,9] [0,1]]).ct hΓ uT (iS hd2 hm2) (ih2 (i2+1) jy (dn hd2) h)
theorem Mu(hΓ:Γ.nt=79){aB:af}{aV:aN}{cV:aQ}{r:af}{k1:af->Option af}(cX:∀(bO:af),k1 bO=some r->Ax Γ N f154 (.q [[some (124,2)]] (D.fr 124 2 (r.map aJ.c))) [1,1,1] ⟨[(7,D.acc 0)],[Ob.row .uq 124 2 (bO.map aJ.c)]⟩)(hm1:aB.length<=maxLen):∀(rest:af) (i1:Nat) (cB:af),aB.drop i1=rest->ga aB aV cV k1 rest i1 cB=some r->Ar Γ N f154 (.q [[some (124,2)]] (D.fr 124 2 (r.map aJ.c))) [1,1,0,1,0] (rest.length+1) (DY aB aV cV (cB.map aJ.c) (i1:Int)):=by
 intro rest
 induction rest with
 |nil=>
  intro i1 cB aq h;rw[ga]at h;refine aM fun N1 bu bq=>?_
  exact((aU.ge aJ.c aq).a [.hl 0 [7] [1]]).ex hΓ bu (cX cB h)
 |cons bD bn ih1=>
  intro i1 cB aq h;rw[ga]at h;refine aM fun N1 bu bq=>?_
  obtain⟨h563,h⟩|⟨h563,h⟩:=aL h
  ·obtain⟨aAx,h565,h⟩:=aD h;have Hv:=(((((aU.lt aJ.c aq).b h563).a [.n 7]).l (ax aJ.c 2 (dc aq) rfl)).g (Fc h565))
   obtain⟨h566,h⟩|⟨h566,h⟩:=aL h
   ·obtain⟨Xi,h568,h⟩:=aD h;obtain⟨h569,h⟩:=bX h;exact(((((Hv.b h566).l (ax aJ.c 2 (dc aq) rfl)).g (Bs h568)).w (cG h569)).a [.cn [0,2,4,7,8] [0,5]]).cs hΓ bq (DY aB aV cV ((cB.map aJ.c)++([[D.sl (Xi.facts.map aE.c),D.sl (Xi.bind.map aS.c)]])) (IntKind.i64.wrap ((i1:Int)+1))) (by first| (simp only[iS aq hm1,mA]<;>rfl)| (simp only[iS aq hm1,mA,aE.c,aS.c,aN.c,Action.c,aO.c,aJ.c,cx.c,aP.c,Node.c,aF.c,cy.c]<;>rfl)) (ih1 (i1+1) (cB++([Xi])) (dn aq) h)
   ·exact((Hv.b h566).a [.cn [0,2,4,7,8] [0,1]]).ct hΓ bq (iS aq hm1) (ih1 (i1+1) cB (dn aq) h)
  ·obtain⟨h665,h⟩:=bX h;refine(((aU.lt aJ.c aq).b h563).a [.cn [0,2,4,7,8,9] [0,1]]).lp hΓ (Mv hΓ (fun yd h=>?_) ((drop_cons aq).1) (bt h665) cV 0 cB rfl h);exact(aU.a [.cn [0,2,4,7,8] [0,1]]).ct hΓ bq (iS aq hm1) (ih1 (i1+1) yd (dn aq) h)
theorem tX{aB:af}{aV:aN}{cV:aQ}{r:af}(h:rV aB aV cV=some r):Good prog 154 [D.sl (aB.map aJ.c),D.agg (aN.c aV),D.sl (cV.map aE.c)] (D.fr 124 2 (r.map aJ.c)):=by
 refine gd func154 [[some (124,2)]] 79 fun hr Γ hΓ=>?_
 rw[rV]at h;refine(aU.a [.cn [0,2,4,7,8] [0,1]]).lp hΓ (Mu hΓ (fun bO h=>?_) (by have:=(dS.sl (hr _ (aC (i:=0) rfl))).1;simpa using this) aB 0 ([]:af) rfl h);have h:=aG h;subst h;exact aU.ret hΓ
def kR(aB:aj)(aV:aQ)(k1:af->Option af):aj->Nat->af->Option af
 | [],i1,bC=>(k1 bC)
 |bD::bn,i1,bC=>((rV bC bD aV).bind fun lI=>(kR aB aV k1 bn (i1+1) lI))
def uQ(aB:aj)(aV:aQ):Option af:=(kR aB aV (fun(bO:af)=>(some bO)) aB 0 ([(⟨[],[]⟩:aJ)]))
def Bt(aB:aj)(aV:aQ)(W0:List aR)(cS:Int):St:=⟨[(0,D.sl (aB.map aN.c)),(1,D.sl (aV.map aE.c)),(5,D.acc 0),(6,D.int .i64 cS)],[Ob.row .uq 124 2 W0]⟩
theorem Jj(hΓ:Γ.nt=23){aB:aj}{aV:aQ}{r:af}{k1:af->Option af}(cX:∀(bO:af),k1 bO=some r->Ax Γ N f89 (.q [[some (124,2)]] (D.fr 124 2 (r.map aJ.c))) [1,1,1] ⟨[(5,D.acc 0)],[Ob.row .uq 124 2 (bO.map aJ.c)]⟩)(hm1:aB.length<=maxLen):∀(rest:aj) (i1:Nat) (bC:af),aB.drop i1=rest->kR aB aV k1 rest i1 bC=some r->Ar Γ N f89 (.q [[some (124,2)]] (D.fr 124 2 (r.map aJ.c))) [1,1,0,1,0] (rest.length+1) (Bt aB aV (bC.map aJ.c) (i1:Int)):=by
 intro rest
 induction rest with
 |nil=>
  intro i1 bC aq h;rw[kR]at h;refine aM fun N1 bu bq=>?_
  exact((aU.ge aN.c aq).a [.hl 0 [5] [0]]).ex hΓ bu (cX bC h)
 |cons bD bn ih1=>
  intro i1 bC aq h;rw[kR]at h;refine aM fun N1 bu bq=>?_
  obtain⟨lI,h23,h⟩:=aD h;exact((((aU.lt aN.c aq).l (ax aN.c 5 (dc aq) rfl)).g (tX h23)).a [.cn [0,1,5,6] [1]]).ct hΓ bq (iS aq hm1) (ih1 (i1+1) lI (dn aq) h)
theorem HS{aB:aj}{aV:aQ}{r:af}(h:uQ aB aV=some r):Good prog 89 [D.sl (aB.map aN.c),D.sl (aV.map aE.c)] (D.fr 124 2 (r.map aJ.c)):=by
 refine gd func89 [[some (124,2)]] 23 fun hr Γ hΓ=>?_
 rw[uQ]at h;refine(aU.a [.cn [0,1,5,6] [0]]).Wq hΓ (Bt aB aV ([[D.sl ([]),D.sl ([])]]) 0) (by first| (simp only[mA]<;>rfl)| (simp only[mA,aE.c,aS.c,aN.c,Action.c,aO.c,aJ.c,cx.c,aP.c,Node.c,aF.c,cy.c]<;>rfl)) (Jj hΓ (fun bO h=>?_) (by have:=(dS.sl (hr _ (aC (i:=0) rfl))).1;simpa using this) aB 0 ([(⟨[],[]⟩:aJ)]) rfl h);have h:=aG h;subst h;exact aU.ret hΓ
def fp(aB:aT)(aV:aT)(k1:Option Bool):aT->Nat->Option Bool
 | [],i1=>(k1)
 |bD::bn,i1=>((mC aV (i1:Int)).bind fun x22=>(bif !((bD.var:Bytes)==x22.var&&(bD.value:Bytes)==x22.value)then(some false)else(fp aB aV k1 bn (i1+1))))
def lD(aB:aT)(aV:aT):Option Bool:=(bif (((aB.map aS.c).length:Int):Int) != ((aV.map aS.c).length:Int)then(some false)else(fp aB aV (some true) aB 0))
def Da(aB:aT)(aV:aT)(cS:Int):St:=⟨[(0,D.sl (aB.map aS.c)),(1,D.sl (aV.map aS.c)),(5,D.int .i64 cS)],[]⟩
theorem Cm(hΓ:Γ.nt=26){aB:aT}{aV:aT}{r:Bool}{k1:Option Bool}(cX:k1=some r->Ax Γ N f153 (.q [[none]] (D.bool r)) [1,1,1] ⟨[],[]⟩)(hm1:aB.length<=maxLen):∀(rest:aT) (i1:Nat),aB.drop i1=rest->fp aB aV k1 rest i1=some r->Ar Γ N f153 (.q [[none]] (D.bool r)) [1,1,0,1,0] (rest.length+1) (Da aB aV (i1:Int)):=by
 intro rest
 induction rest with
 |nil=>
  intro i1 aq h;rw[fp]at h;refine aM fun N1 bu bq=>?_
  exact((aU.ge aS.c aq).a [.hl 0 [] []]).ex hΓ bu (cX h)
 |cons bD bn ih1=>
  intro i1 aq h;rw[fp]at h;refine aM fun N1 bu bq=>?_
  obtain⟨x22,h23,h⟩:=aD h;have dJ:=((((aU.lt aS.c aq).a [.n 8]).l (ax aS.c 2 (dc aq) rfl)).l (dV aS.c 2 h23 rfl))
  obtain⟨h24,h⟩|⟨h24,h⟩:=aL h
  ·have h:=aG h;subst h;exact(dJ.b h24).ret hΓ
  ·exact((dJ.b h24).a [.cn [0,1,5] []]).ct hΓ bq (iS aq hm1) (ih1 (i1+1) (dn aq) h)
theorem CL{aB:aT}{aV:aT}{r:Bool}(h:lD aB aV=some r):Good prog 153 [D.sl (aB.map aS.c),D.sl (aV.map aS.c)] (D.bool r):=by
 refine gd func153 [[none]] 26 fun hr Γ hΓ=>?_
 rw[lD]at h;obtain⟨h1,h⟩|⟨h1,h⟩:=aL h
 ·have h:=aG h;subst h;exact(aU.b h1).ret hΓ
 ·refine((aU.b h1).a [.cn [0,1,5] []]).lp hΓ (Cm hΓ (fun h=>?_) (by have:=(dS.sl (hr _ (aC (i:=0) rfl))).1;simpa using this) aB 0 rfl h);have h:=aG h;subst h;exact aU.ret hΓ
def gT(aB:af)(aV:af)(k1:Option Bool):af->Nat->Option Bool
 | [],i1=>(k1)
 |bD::bn,i1=>((mC aV (i1:Int)).bind fun x42=>((nO bD.facts x42.facts).bind fun y44=>(bif !(y44)then(some false)else((lD bD.bind x42.bind).bind fun y47=>(bif !(y47)then(some false)else(gT aB aV k1 bn (i1+1)))))))
def oq(aB:af)(aV:af):Option Bool:=(bif (((aB.map aJ.c).length:Int):Int) != ((aV.map aJ.c).length:Int)then(some false)else(gT aB aV (some true) aB 0))
def Eb(aB:af)(aV:af)(cS:Int):St:=⟨[(0,D.sl (aB.map aJ.c)),(1,D.sl (aV.map aJ.c)),(5,D.int .i64 cS)],[]⟩
theorem De(hΓ:Γ.nt=43){aB:af}{aV:af}{r:Bool}{k1:Option Bool}(cX:k1=some r->Ax Γ N f88 (.q [[none]] (D.bool r)) [1,1,1] ⟨[],[]⟩)(hm1:aB.length<=maxLen):∀(rest:af) (i1:Nat),aB.drop i1=rest->gT aB aV k1 rest i1=some r->Ar Γ N f88 (.q [[none]] (D.bool r)) [1,1,0,1,0] (rest.length+1) (Eb aB aV (i1:Int)):=by
 intro rest
 induction rest with
 |nil=>
  intro i1 aq h;rw[gT]at h;refine aM fun N1 bu bq=>?_
  exact((aU.ge aJ.c aq).a [.hl 0 [] []]).ex hΓ bu (cX h)
 |cons bD bn ih1=>
  intro i1 aq h;rw[gT]at h;refine aM fun N1 bu bq=>?_
  obtain⟨x42,h43,h⟩:=aD h;obtain⟨y44,h45,h⟩:=aD h;have kT:=(((((aU.lt aJ.c aq).a [.n 23]).l (ax aJ.c 2 (dc aq) rfl)).l (dV aJ.c 2 h43 rfl)).g (zA h45))
  obtain⟨h46,h⟩|⟨h46,h⟩:=aL h
  ·have h:=aG h;subst h;exact((kT.r 13 h46).T 1).ret hΓ
  ·obtain⟨y47,h48,h⟩:=aD h;have jN:=(((((((kT.r 3 h46).l (ax aJ.c 2 (dc aq) rfl)).r 5 h46).l (dV aJ.c 2 h43 rfl)).r 3 h46).g (CL h48)).r 2 h46)
   obtain⟨h49,h⟩|⟨h49,h⟩:=aL h
   ·have h:=aG h;subst h;exact(jN.b h49).ret hΓ
   ·exact((jN.b h49).a [.cn [0,1,5] []]).ct hΓ bq (iS aq hm1) (ih1 (i1+1) (dn aq) h)
theorem Co{aB:af}{aV:af}{r:Bool}(h:oq aB aV=some r):Good prog 88 [D.sl (aB.map aJ.c),D.sl (aV.map aJ.c)] (D.bool r):=by
 refine gd func88 [[none]] 43 fun hr Γ hΓ=>?_
 rw[oq]at h;obtain⟨h1,h⟩|⟨h1,h⟩:=aL h
 ·have h:=aG h;subst h;exact(aU.b h1).ret hΓ
 ·refine((aU.b h1).a [.cn [0,1,5] []]).lp hΓ (De hΓ (fun h=>?_) (by have:=(dS.sl (hr _ (aC (i:=0) rfl))).1;simpa using this) aB 0 rfl h);have h:=aG h;subst h;exact aU.ret hΓ
def jc(aB:aF)(k1:Option Bool):b8->Nat->Option Bool
 | [],i1=>(k1)
 |bD::bn,i1=>((gI bD.shape ([]) aB.facts).bind fun RF=>((nO bD.facts RF).bind fun nw=>(bif !(nw)then(some false)else(jc aB k1 bn (i1+1)))))
def jd(aB:aF)(k2:Option Bool):az->Nat->Option Bool
 | [],i2=>(k2)
 |lM::wF,i2=>((xJ aB (i2:Int)).bind fun Xe=>((uQ Xe aB.facts).bind fun aAm=>((oq lM.tokens aAm).bind fun aAn=>(bif !(aAn)then(some false)else(jd aB k2 wF (i2+1))))))
def tF(aB:aF):Option Bool:=((oo aB.rules).bind fun y1=>(bif !(y1.2)then(some false)else((qg aB.facts).bind fun y4=>(bif !(y4)then(some false)else((rA aB y1.1).bind fun y7=>(bif !(y7)then(some false)else(bif decide ((aB.cK:Int)<0)then(some false)else(jc aB (jd aB (some true) aB.nodes 0) aB.ay 0))))))))
def JV(aB:aF)(cS:Int):St:=⟨[(1,D.ptr 0 0),(5,D.int .i64 cS)],[Ob.box (aF.c aB)]⟩
theorem HH(hΓ:Γ.nt=77){aB:aF}{r:Bool}{k1:Option Bool}(cX:k1=some r->Ax Γ N f38 (.q [[none]] (D.bool r)) [1,1,1,1] ⟨[(1,D.ptr 0 0)],[Ob.box (aF.c aB)]⟩)(hm1:aB.ay.length<=maxLen):∀(rest:b8) (i1:Nat),aB.ay.drop i1=rest->jc aB k1 rest i1=some r->Ar Γ N f38 (.q [[none]] (D.bool r)) [1,1,1,0,1,0] (rest.length+1) (JV aB (i1:Int)):=by
 intro rest
 induction rest with
 |nil=>
  intro i1 aq h;rw[jc]at h;refine aM fun N1 bu bq=>?_
  exact((aU.ge aP.c aq).a [.hl 0 [1] [0]]).ex hΓ bu (cX h)
 |cons bD bn ih1=>
  intro i1 aq h;rw[jc]at h;refine aM fun N1 bu bq=>?_
  obtain⟨RF,h40,h⟩:=aD h;obtain⟨nw,h42,h⟩:=aD h;have kT:=(((((((aU.lt aP.c aq).a [.n 15]).l (ax aP.c 3 (dc aq) rfl)).l (ax aP.c 3 (dc aq) rfl)).a [.d (D.fr 53 2 (RF.map aE.c))]).w (show Good prog 87 [D.agg (aE.c bD.shape),D.sl ([]),D.sl (aB.facts.map aE.c)] (D.fr 53 2 (RF.map aE.c))from by first| (simpa only[bS,bG,bV,dH,cz]using gJ h40)|exact gJ h40)).g (zA h42))
  obtain⟨h43,h⟩|⟨h43,h⟩:=aL h
  ·have h:=aG h;subst h;exact(kT.b h43).ret hΓ
  ·exact((kT.b h43).a [.cn [1,5] [0]]).ct hΓ bq (iS aq hm1) (ih1 (i1+1) (dn aq) h)
def JW(aB:aF)(cS:Int):St:=⟨[(1,D.ptr 0 0),(6,D.int .i64 cS)],[Ob.box (aF.c aB)]⟩
theorem HI(hΓ:Γ.nt=77){aB:aF}{r:Bool}{k2:Option Bool}(CV:k2=some r->Ax Γ N f38 (.q [[none]] (D.bool r)) [1,1,1,1,1] ⟨[],[]⟩)(hm2:aB.nodes.length<=maxLen):∀(rest:az) (i2:Nat),aB.nodes.drop i2=rest->jd aB k2 rest i2=some r->Ar Γ N f38 (.q [[none]] (D.bool r)) [1,1,1,1,0,1,0] (rest.length+1) (JW aB (i2:Int)):=by
 intro rest
 induction rest with
 |nil=>
  intro i2 hd2 h;rw[jd]at h;refine aM fun N2 xM uT=>?_
  exact((aU.ge Node.c hd2).a [.hl 0 [] []]).ex hΓ xM (CV h)
 |cons lM wF ih2=>
  intro i2 hd2 h;rw[jd]at h;refine aM fun N2 xM uT=>?_
  obtain⟨Xe,h105,h⟩:=aD h;obtain⟨aAm,h107,h⟩:=aD h;obtain⟨aAn,h109,h⟩:=aD h;have jN:=((((((aU.lt Node.c hd2).a [.n2 [0,1,2,3,4,5,6,7,8,9,10,11,12,13] [0,1,2,3,4,5,6,7,8,9,10,11,12,13] 11 12 [0,1,2,3,4,5] []]).l (ax Node.c 8 (dc hd2) rfl)).g (LO h105)).g (HS h107)).g (Co h109))
  obtain⟨h110,h⟩|⟨h110,h⟩:=aL h
  ·have h:=aG h;subst h;exact(jN.b h110).ret hΓ
  ·exact((jN.b h110).a [.cn [1,6] [0]]).ct hΓ uT (iS hd2 hm2) (ih2 (i2+1) (dn hd2) h)
theorem Ff{aB:aF}{r:Bool}(h:tF aB=some r):Good prog 38 [D.agg (aF.c aB)] (D.bool r):=by
 refine gd func38 [[none]] 77 fun hr Γ hΓ=>?_
 rw[tF]at h;obtain⟨y1,h2,h⟩:=aD h;obtain⟨h3,h⟩|⟨h3,h⟩:=aL h
 ·have h:=aG h;subst h;exact(((aU.g (xH h2)).r 5 h3).T 10).ret hΓ
 ·obtain⟨y4,h5,h⟩:=aD h;have uY:=((((aU.g (xH h2)).r 3 h3).g (vz h5)).r 2 h3)
  obtain⟨h6,h⟩|⟨h6,h⟩:=aL h
  ·have h:=aG h;subst h;exact((uY.r 5 h6).T 5).ret hΓ
  ·obtain⟨y7,h8,h⟩:=aD h;have wX:=(((uY.r 3 h6).g (Ea h8)).r 2 h6)
   obtain⟨h9,h⟩|⟨h9,h⟩:=aL h
   ·have h:=aG h;subst h;exact((wX.r 4 h9).T 1).ret hΓ
   ·have AG:=(wX.r 4 h9)
    obtain⟨h10,h⟩|⟨h10,h⟩:=aL h
    ·have h:=aG h;subst h;exact(AG.b h10).ret hΓ
    ·refine((AG.b h10).a [.cn [1,5] [0]]).lp hΓ (HH hΓ (fun h=>?_) (by have:=(dS.sl (dS.agg (hr _ (aC (i:=0) rfl)) (.sl (aB.ay.map aP.c)) (by simp))).1;simpa using this) aB.ay 0 rfl h);refine(aU.a [.cn [1,6] [0]]).lp hΓ (HI hΓ (fun h=>?_) (by have:=(dS.sl (dS.agg (hr _ (aC (i:=0) rfl)) (.sl (aB.nodes.map Node.c)) (by simp))).1;simpa using this) aB.nodes 0 rfl h);have h:=aG h;subst h;exact aU.ret hΓ
def iO(aB:aJ)(aV:aJ)(k1:Option Int):aQ->Nat->Option Int
 | [],i1=>(k1)
 |bD::bn,i1=>(bif decide (((i1:Int):Int)<((aV.facts.map aE.c).length:Int))then((mC aV.facts (i1:Int)).bind fun x34=>((hG bD x34).bind fun I5=>(bif (I5:Int) != 0 then(some I5)else(iO aB aV k1 bn (i1+1)))))else(k1))
def nq(aB:aJ)(aV:aJ):Option Int:=(iO aB aV (bif decide ((((aB.facts.map aE.c).length:Int):Int)<((aV.facts.map aE.c).length:Int))then(some (-1))else(bif decide ((((aB.facts.map aE.c).length:Int):Int)>((aV.facts.map aE.c).length:Int))then(some 1)else(some 0))) aB.facts 0)
def DR(aB:aJ)(aV:aJ)(cS:Int):St:=⟨[(2,D.ptr 0 0),(3,D.ptr 1 0),(5,D.int .i64 cS)],[Ob.box (aJ.c aB),Ob.box (aJ.c aV)]⟩
theorem Ck(hΓ:Γ.nt=51){aB:aJ}{aV:aJ}{r:Int}{k1:Option Int}(cX:k1=some r->Ax Γ N f236 (.q [[none]] (D.int .i64 r)) [1,1] ⟨[(2,D.ptr 0 0),(3,D.ptr 1 0)],[Ob.box (aJ.c aB),Ob.box (aJ.c aV)]⟩)(hm1:aB.facts.length<=maxLen):∀(rest:aQ) (i1:Nat),aB.facts.drop i1=rest->iO aB aV k1 rest i1=some r->Ar Γ N f236 (.q [[none]] (D.int .i64 r)) [1,0,1,0] (rest.length+1) (DR aB aV (i1:Int)):=by
 intro rest
 induction rest with
 |nil=>
  intro i1 aq h;rw[iO]at h;refine aM fun N1 bu bq=>?_
  exact((((((((aU.ge aE.c aq).ge aE.c aq).ge aE.c aq).ge aE.c aq).ge aE.c aq).ge aE.c aq).F 1).a [.hl 0 [2,3] [0,1]]).ex hΓ bu (cX h)
 |cons bD bn ih1=>
  intro i1 aq h;rw[iO]at h;refine aM fun N1 bu bq=>?_
  have kT:=((((((aU.lt aE.c aq).lt aE.c aq).lt aE.c aq).lt aE.c aq).lt aE.c aq).lt aE.c aq)
  obtain⟨h33,h⟩|⟨h33,h⟩:=aL h
  ·obtain⟨x34,h35,h⟩:=aD h;obtain⟨I5,h37,h⟩:=aD h;have jN:=(((((kT.b h33).a [.n 10]).l (ax aE.c 2 (dc aq) rfl)).l (dV aE.c 2 h35 rfl)).g (xG h37))
   obtain⟨h38,h⟩|⟨h38,h⟩:=aL h
   ·have h:=aG h;subst h;exact(jN.b h38).ret hΓ
   ·exact((jN.b h38).a [.cn [2,3,5] [0,1]]).ct hΓ bq (iS aq hm1) (ih1 (i1+1) (dn aq) h)
  ·exact((kT.b h33).a [.hl 0 [2,3] [0,1]]).ex hΓ bu (cX h)
theorem CK{aB:aJ}{aV:aJ}{r:Int}(h:nq aB aV=some r):Good prog 236 [D.agg (aJ.c aB),D.agg (aJ.c aV)] (D.int .i64 r):=by
 refine gd func236 [[none]] 51 fun hr Γ hΓ=>?_
 rw[nq]at h;refine(aU.a [.cn [2,3,5] [0,1]]).lp hΓ (Ck hΓ (fun h=>?_) (by have:=(dS.sl (dS.agg (hr _ (aC (i:=0) rfl)) (.sl (aB.facts.map aE.c)) (by simp))).1;simpa using this) aB.facts 0 rfl h);obtain⟨h39,h⟩|⟨h39,h⟩:=aL h
 ·cases h;exact(aU.b h39).ret hΓ
 ·obtain⟨h40,h⟩|⟨h40,h⟩:=aL h
  ·have h:=aG h;subst h;exact((aU.b h39).b h40).ret hΓ
  ·have h:=aG h;subst h;exact((aU.b h39).b h40).ret hΓ
def lF(aB:af)(aV:af)(i1:Nat)(bD:aJ)(k2:Int->Option (Int×Int)):af->Nat->Int->Option (Int×Int)
 | [],i2,tL=>(k2 tL)
 |lM::wF,i2,tL=>((nq bD lM).bind fun aAp=>(bif (aAp:Int)==0 then(lF aB aV i1 bD k2 wF (i2+1) (IntKind.i64.wrap (tL+1)))else(lF aB aV i1 bD k2 wF (i2+1) tL)))
def nY(aB:af)(aV:af)(k1:Int->Option (Int×Int)):af->Nat->Int->Option (Int×Int)
 | [],i1,yJ=>(k1 yJ)
 |bD::bn,i1,yJ=>(bif decide (aV.length<=maxLen)then(lF aB aV i1 bD (fun(BG:Int)=>(nY aB aV k1 bn (i1+1) BG)) aV 0 yJ)else none)
def xL(aB:af)(aV:af):Option (Int×Int):=(nY aB aV (fun(M0:Int)=>(some (M0,IntKind.i64.wrap (((aB.map aJ.c).length:Int)-M0)))) aB 0 0)
def OH(aB:af)(aV:af)(yJ:Int)(cS:Int):St:=⟨[(0,D.sl (aB.map aJ.c)),(1,D.sl (aV.map aJ.c)),(6,D.int .i64 yJ),(7,D.int .i64 cS)],[]⟩
def OI(aB:af)(aV:af)(i1:Nat)(tL:Int)(cS:Int):St:=⟨[(0,D.sl (aB.map aJ.c)),(1,D.sl (aV.map aJ.c)),(6,D.int .i64 tL),(7,D.int .i64 (i1:Int)),(8,D.int .i64 cS)],[]⟩
theorem N8(hΓ:Γ.nt=38){aB:af}{aV:af}{i1:Nat}{bD:aJ}{r:Int×Int}{k2:Int->Option (Int×Int)}(CV:∀(BG:Int),k2 BG=some r->Ax Γ N f167 (.q [[none],[none]] (D.gb [D.int .i64 r.1,D.int .i64 r.2])) [1,1,0,1,0,0,1,1] ⟨[(0,D.sl (aB.map aJ.c)),(1,D.sl (aV.map aJ.c)),(6,D.int .i64 BG),(7,D.int .i64 (i1:Int))],[]⟩)(hx1:(aB)[i1]?=some bD)(hm2:aV.length<=maxLen):∀(rest:af) (i2:Nat) (tL:Int),aV.drop i2=rest->lF aB aV i1 bD k2 rest i2 tL=some r->Ar Γ N f167 (.q [[none],[none]] (D.gb [D.int .i64 r.1,D.int .i64 r.2])) [1,1,0,1,0,0,1,0,0,1,0] (rest.length+1) (OI aB aV i1 tL (i2:Int)):=by
 intro rest
 induction rest with
 |nil=>
  intro i2 tL hd2 h;rw[lF]at h;refine aM fun N2 xM uT=>?_
  exact((aU.ge aJ.c hd2).a [.hl 3 [0,1,6,7] []]).ex hΓ xM (CV tL h)
 |cons lM wF ih2=>
  intro i2 tL hd2 h;rw[lF]at h;refine aM fun N2 xM uT=>?_
  obtain⟨aAp,h177,h⟩:=aD h;have BB:=(((((aU.lt aJ.c hd2).a [.n 8]).l (ax aJ.c 2 hx1 rfl)).l (ax aJ.c 2 (dc hd2) rfl)).g (CK h177))
  obtain⟨h178,h⟩|⟨h178,h⟩:=aL h
  ·exact((BB.b h178).a [.cn [0,1,6,7,8] []]).ct hΓ uT (iS hd2 hm2) (ih2 (i2+1) (IntKind.i64.wrap (tL+1)) (dn hd2) h)
  ·exact((BB.b h178).a [.cn [0,1,6,7,8] []]).ct hΓ uT (iS hd2 hm2) (ih2 (i2+1) tL (dn hd2) h)
theorem N7(hΓ:Γ.nt=38){aB:af}{aV:af}{r:Int×Int}{k1:Int->Option (Int×Int)}(cX:∀(M0:Int),k1 M0=some r->Ax Γ N f167 (.q [[none],[none]] (D.gb [D.int .i64 r.1,D.int .i64 r.2])) [1,1,1] ⟨[(0,D.sl (aB.map aJ.c)),(6,D.int .i64 M0)],[]⟩)(hm1:aB.length<=maxLen):∀(rest:af) (i1:Nat) (yJ:Int),aB.drop i1=rest->nY aB aV k1 rest i1 yJ=some r->Ar Γ N f167 (.q [[none],[none]] (D.gb [D.int .i64 r.1,D.int .i64 r.2])) [1,1,0,1,0] (rest.length+1) (OH aB aV yJ (i1:Int)):=by
 intro rest
 induction rest with
 |nil=>
  intro i1 yJ aq h;rw[nY]at h;refine aM fun N1 bu bq=>?_
  exact((aU.ge aJ.c aq).a [.hl 0 [0,6] []]).ex hΓ bu (cX yJ h)
 |cons bD bn ih1=>
  intro i1 yJ aq h;rw[nY]at h;refine aM fun N1 bu bq=>?_
  obtain⟨h179,h⟩:=bX h;refine((aU.lt aJ.c aq).a [.cn [0,1,6,7,8] []]).lp hΓ (N8 hΓ (fun BG h=>?_) ((drop_cons aq).1) (bt h179) aV 0 yJ rfl h);exact(aU.a [.cn [0,1,6,7] []]).ct hΓ bq (iS aq hm1) (ih1 (i1+1) BG (dn aq) h)
theorem La{aB:af}{aV:af}{r:Int×Int}(h:xL aB aV=some r):Good prog 167 [D.sl (aB.map aJ.c),D.sl (aV.map aJ.c)] (D.gb [D.int .i64 r.1,D.int .i64 r.2]):=by
 refine gd func167 [[none],[none]] 38 fun hr Γ hΓ=>?_
 rw[xL]at h;refine(aU.a [.cn [0,1,6,7] []]).lp hΓ (N7 hΓ (fun M0 h=>?_) (by have:=(dS.sl (hr _ (aC (i:=0) rfl))).1;simpa using this) aB 0 0 rfl h);cases h;exact aU.ret hΓ
def iz(aB:aF)(aV:aQ)(cV:aE)(y1:aF)(y3:aQ)(k1:List Bool->b8->Option aF):Nat->Int->List Bool->b8->Option aF
 |0,_,_,_=>none
 |n1+1,Jr,wu,OY=>(bif decide ((Jr:Int)<((OY.map aP.c).length:Int))then((mC OY Jr).bind fun x41=>((jI x41.shape cV ([])).bind fun F0=>(bif room ((wu.map bx).length+([[D.bool F0.2]]).length) 1 then((gI x41.shape ([]) aV).bind fun y46=>(iz aB aV cV y1 y3 k1 n1 (IntKind.i64.wrap (Jr+1)) (wu++([F0.2])) (OY.set Jr.toNat (⟨x41.shape,y46⟩:aP))))else none)))else(k1 wu OY))
def eX(aB:aF)(y1:aF)(y3:aQ)(iI:List Bool)(wB:b8)(k2:Int->az->Option aF):Nat->Int->Int->az->Option aF
 |0,_,_,_=>none
 |n2+1,rE,vO,rZ=>(bif decide ((rE:Int)<((rZ.map Node.c).length:Int))then((mC rZ rE).bind fun x106=>((mC rZ x106.parent).bind fun x108=>((mC aB.nodes x106.parent).bind fun x110=>((xL x108.tokens x110.tokens).bind fun Jt=>(bif decide ((x106.cP:Int)<0)then((rV x108.tokens x106.cond ([])).bind fun Tz=>(eX aB y1 y3 iI wB k2 n2 (IntKind.i64.wrap (rE+1)) (IntKind.i64.wrap (vO+Jt.2)) (rZ.set rE.toNat (⟨x106.parent,x106.cond,x106.cP,Tz⟩:Node))))else((mC wB x106.cP).bind fun x117=>((rV x108.tokens x106.cond x117.facts).bind fun Xf=>((mC iI x106.cP).bind fun x121=>(bif x121 then(eX aB y1 y3 iI wB k2 n2 (IntKind.i64.wrap (rE+1)) (IntKind.i64.wrap ((IntKind.i64.wrap (vO+(IntKind.i64.wrap (Jt.2*((x117.facts.map aE.c).length:Int)))))+Jt.1)) (rZ.set rE.toNat (⟨x106.parent,x106.cond,x106.cP,Xf⟩:Node)))else(eX aB y1 y3 iI wB k2 n2 (IntKind.i64.wrap (rE+1)) (IntKind.i64.wrap (vO+(IntKind.i64.wrap (Jt.2*((x117.facts.map aE.c).length:Int))))) (rZ.set rE.toNat (⟨x106.parent,x106.cond,x106.cP,Xf⟩:Node))))))))))))else(k2 vO rZ))
def uR(aB:aF)(aV:aQ)(cV:aE):Option aF:=((rW aB).bind fun y1=>((eS aV).bind fun y3=>(iz aB aV cV y1 y3 (fun(iI:List Bool) (wB:b8)=>(eX aB y1 y3 iI wB (fun(oZ:Int) (vM:az)=>(some (⟨y1.rules,y1.ends,wB,vM,y3,oZ⟩:aF))) fuel 1 y1.cK y1.nodes)) fuel 0 ([]:List Bool) y1.ay)))
def Bu(aB:aF)(aV:aQ)(cV:aE)(y1:aF)(y3:aQ)(Jr:Int)(W1:List aR)(W2:List aR):St:=⟨[(1,D.sl (aV.map aE.c)),(3,D.ptr 0 0),(5,D.ptr 1 0),(6,D.ptr 2 0),(7,D.ptr 3 0),(8,D.acc 4),(9,D.int .i64 Jr)],[Ob.box (aF.c aB),Ob.box (aE.c cV),Ob.box [D.nil,D.nil,D.nil,D.nil,D.nil,D.int .i64 0],Ob.box [D.acc 5,D.acc 6,D.acc 7,D.acc 8,D.acc 9,D.int .i64 y1.cK],Ob.row .uq 4 1 W1,Ob.row .uq 105 4 (y1.rules.map aO.c),Ob.row .uq 3 1 (y1.ends.map dZ),Ob.row .uq 111 3 W2,Ob.row .uq 118 8 (y1.nodes.map Node.c),Ob.row .uq 53 2 (y3.map aE.c)]⟩
theorem Jl(hΓ:Γ.nt=143){aB:aF}{aV:aQ}{cV:aE}{y1:aF}{y3:aQ}{r:aF}{k1:List Bool->b8->Option aF}(cX:∀(iI:List Bool) (wB:b8),k1 iI wB=some r->Ax Γ N f96 (.q [[some (105,4),some (3,1),some (111,3),some (118,8),some (53,2),none]] (D.agg [D.fr 105 4 (r.rules.map aO.c),D.fr 3 1 (r.ends.map dZ),D.fr 111 3 (r.ay.map aP.c),D.fr 118 8 (r.nodes.map Node.c),D.fr 53 2 (r.facts.map aE.c),D.int .i64 r.cK])) [1,1,1,1,1] ⟨[(3,D.ptr 0 0),(6,D.ptr 1 0),(7,D.ptr 2 0),(8,D.acc 3)],[Ob.box (aF.c aB),Ob.box [D.nil,D.nil,D.nil,D.nil,D.nil,D.int .i64 0],Ob.box [D.acc 4,D.acc 5,D.acc 6,D.acc 7,D.acc 8,D.int .i64 y1.cK],Ob.row .uq 4 1 (iI.map bx),Ob.row .uq 105 4 (y1.rules.map aO.c),Ob.row .uq 3 1 (y1.ends.map dZ),Ob.row .uq 111 3 (wB.map aP.c),Ob.row .uq 118 8 (y1.nodes.map Node.c),Ob.row .uq 53 2 (y3.map aE.c)]⟩):∀(n1:Nat) (Jr:Int) (wu:List Bool) (OY:b8),iz aB aV cV y1 y3 k1 n1 Jr wu OY=some r->Ar Γ N f96 (.q [[some (105,4),some (3,1),some (111,3),some (118,8),some (53,2),none]] (D.agg [D.fr 105 4 (r.rules.map aO.c),D.fr 3 1 (r.ends.map dZ),D.fr 111 3 (r.ay.map aP.c),D.fr 118 8 (r.nodes.map Node.c),D.fr 53 2 (r.facts.map aE.c),D.int .i64 r.cK])) [1,1,1,1,0,1,0] n1 (Bu aB aV cV y1 y3 Jr (wu.map bx) (OY.map aP.c)):=by
 intro n
 induction n with
 |zero=>intro Jr wu OY h;simp[iz]at h
 |succ n1 ih1=>
  intro Jr wu OY h;rw[iz]at h;refine aM fun N1 bu bq=>?_
  obtain⟨h40,h⟩|⟨h40,h⟩:=aL h
  ·obtain⟨x41,h42,h⟩:=aD h;obtain⟨F0,h44,h⟩:=aD h;obtain⟨h45,h⟩:=bX h;obtain⟨y46,h47,h⟩:=aD h;exact(((((((((((((((aU.b h40).a [.n 12]).i (xj aP.c 3 h42)).o 3 2 .uq (dB aP.c (tR h42))).a [.d (D.gb [D.fr 152 2 (F0.1.map aS.c),D.bool F0.2])]).w (show Good prog 151 [D.agg (aE.c x41.shape),D.agg (aE.c cV),D.sl ([])] (D.gb [D.fr 152 2 (F0.1.map aS.c),D.bool F0.2])from by first| (simpa only[bS,bG,bV,dH,cz]using qQ h44)|exact qQ h44)).w (cG h45)).a [.n 11]).i (xj aP.c 3 h42)).o 3 2 .uq (dB aP.c (tR h42))).a [.d (D.fr 53 2 (y46.map aE.c))]).w (show Good prog 87 [D.agg (aE.c x41.shape),D.sl ([]),D.sl (aV.map aE.c)] (D.fr 53 2 (y46.map aE.c))from by first| (simpa only[bS,bG,bV,dH,cz]using gJ h47)|exact gJ h47)).i (xj aP.c 3 h42)).w (show(OY.map aP.c)[Jr.toNat]?=some [D.str x41.shape.rel,D.sl (x41.shape.args.map tx),D.sl (x41.facts.map aE.c)]from dB aP.c (tR h42))).a [.row [D.str x41.shape.rel,D.sl (x41.shape.args.map tx),D.sl (x41.facts.map aE.c)],.cn [1,3,5,6,7,8,9] [0,1,2,3,12,5,6,7,8,9]]).cs hΓ bq (Bu aB aV cV y1 y3 (IntKind.i64.wrap (Jr+1)) ((wu.map bx)++([[D.bool F0.2]])) ((OY.map aP.c).set Jr.toNat [D.str x41.shape.rel,D.sl (x41.shape.args.map tx),D.sl (y46.map aE.c)])) (by first| (simp only[mA]<;>rfl)| (simp only[mA,aE.c,aS.c,aN.c,Action.c,aO.c,aJ.c,cx.c,aP.c,Node.c,aF.c,cy.c]<;>rfl)) (ih1 (IntKind.i64.wrap (Jr+1)) (wu++([F0.2])) (OY.set Jr.toNat (⟨x41.shape,y46⟩:aP)) h)
  ·exact((aU.b h40).a [.hl 0 [3,6,7,8] [0,2,3,4,5,6,7,8,9]]).ex hΓ bu (cX wu OY h)
def tZ(aB:aF)(y1:aF)(y3:aQ)(iI:List Bool)(wB:b8)(rE:Int)(vO:Int)(W2:List aR):St:=⟨[(3,D.ptr 0 0),(6,D.ptr 1 0),(7,D.ptr 2 0),(8,D.acc 3),(12,D.int .i64 rE)],[Ob.box (aF.c aB),Ob.box [D.nil,D.nil,D.nil,D.nil,D.nil,D.int .i64 0],Ob.box [D.acc 4,D.acc 5,D.acc 6,D.acc 7,D.acc 8,D.int .i64 vO],Ob.row .uq 4 1 (iI.map bx),Ob.row .uq 105 4 (y1.rules.map aO.c),Ob.row .uq 3 1 (y1.ends.map dZ),Ob.row .uq 111 3 (wB.map aP.c),Ob.row .uq 118 8 W2,Ob.row .uq 53 2 (y3.map aE.c)]⟩
theorem Jm(hΓ:Γ.nt=143){aB:aF}{y1:aF}{y3:aQ}{iI:List Bool}{wB:b8}{r:aF}{k2:Int->az->Option aF}(CV:∀(oZ:Int) (vM:az),k2 oZ vM=some r->Ax Γ N f96 (.q [[some (105,4),some (3,1),some (111,3),some (118,8),some (53,2),none]] (D.agg [D.fr 105 4 (r.rules.map aO.c),D.fr 3 1 (r.ends.map dZ),D.fr 111 3 (r.ay.map aP.c),D.fr 118 8 (r.nodes.map Node.c),D.fr 53 2 (r.facts.map aE.c),D.int .i64 r.cK])) [1,1,1,1,1,1] ⟨[(6,D.ptr 0 0),(7,D.ptr 1 0)],[Ob.box [D.nil,D.nil,D.nil,D.nil,D.nil,D.int .i64 0],Ob.box [D.acc 2,D.acc 3,D.acc 4,D.acc 5,D.acc 6,D.int .i64 oZ],Ob.row .uq 105 4 (y1.rules.map aO.c),Ob.row .uq 3 1 (y1.ends.map dZ),Ob.row .uq 111 3 (wB.map aP.c),Ob.row .uq 118 8 (vM.map Node.c),Ob.row .uq 53 2 (y3.map aE.c)]⟩):∀(n2:Nat) (rE:Int) (vO:Int) (rZ:az),eX aB y1 y3 iI wB k2 n2 rE vO rZ=some r->Ar Γ N f96 (.q [[some (105,4),some (3,1),some (111,3),some (118,8),some (53,2),none]] (D.agg [D.fr 105 4 (r.rules.map aO.c),D.fr 3 1 (r.ends.map dZ),D.fr 111 3 (r.ay.map aP.c),D.fr 118 8 (r.nodes.map Node.c),D.fr 53 2 (r.facts.map aE.c),D.int .i64 r.cK])) [1,1,1,1,1,0,1,0] n2 (tZ aB y1 y3 iI wB rE vO (rZ.map Node.c)):=by
 intro n
 induction n with
 |zero=>intro rE vO rZ h;simp[eX]at h
 |succ n2 ih2=>
  intro rE vO rZ h;rw[eX]at h;refine aM fun N2 xM uT=>?_
  obtain⟨h105,h⟩|⟨h105,h⟩:=aL h
  ·obtain⟨x106,h107,h⟩:=aD h;obtain⟨x108,h109,h⟩:=aD h;obtain⟨x110,h111,h⟩:=aD h;obtain⟨Jt,h113,h⟩:=aD h;have kT:=(((((((aU.b h105).i (xj Node.c 8 h107)).o 8 8 .uq (dB Node.c (tR h107))).i (xj Node.c 8 h109)).o 8 8 .uq (dB Node.c (tR h109))).l (dV Node.c 8 h111 rfl)).g (La h113))
   obtain⟨h114,h⟩|⟨h114,h⟩:=aL h
   ·obtain⟨Tz,h116,h⟩:=aD h;exact((((((kT.b h114).a [.n 7,.d (D.fr 124 2 (Tz.map aJ.c))]).w (show Good prog 154 [D.sl (x108.tokens.map aJ.c),D.agg (aN.c x106.cond),D.sl ([])] (D.fr 124 2 (Tz.map aJ.c))from by first| (simpa only[bS,bG,bV,dH,cz]using tX h116)|exact tX h116)).i (xj Node.c 8 h107)).w (show(rZ.map Node.c)[rE.toNat]?=some [D.int .i64 x106.parent,D.int .i64 x106.cond.kind,D.str x106.cond.pat.rel,D.sl (x106.cond.pat.args.map tx),D.str x106.cond.left,D.str x106.cond.right,D.int .i64 x106.cP,D.sl (x106.tokens.map aJ.c)]from dB Node.c (tR h107))).a [.row [D.int .i64 x106.parent,D.int .i64 x106.cond.kind,D.str x106.cond.pat.rel,D.sl (x106.cond.pat.args.map tx),D.str x106.cond.left,D.str x106.cond.right,D.int .i64 x106.cP,D.sl (x106.tokens.map aJ.c)],.cn [3,6,7,8,12] [0,1,2,3,4,5,6,7,8]]).cs hΓ uT (tZ aB y1 y3 iI wB (IntKind.i64.wrap (rE+1)) (IntKind.i64.wrap (vO+Jt.2)) ((rZ.map Node.c).set rE.toNat [D.int .i64 x106.parent,D.int .i64 x106.cond.kind,D.str x106.cond.pat.rel,D.sl (x106.cond.pat.args.map tx),D.str x106.cond.left,D.str x106.cond.right,D.int .i64 x106.cP,D.sl (Tz.map aJ.c)])) (by first| (simp only[mA]<;>rfl)| (simp only[mA,aE.c,aS.c,aN.c,Action.c,aO.c,aJ.c,cx.c,aP.c,Node.c,aF.c,cy.c]<;>rfl)) (ih2 (IntKind.i64.wrap (rE+1)) (IntKind.i64.wrap (vO+Jt.2)) (rZ.set rE.toNat (⟨x106.parent,x106.cond,x106.cP,Tz⟩:Node)) h)
   ·obtain⟨x117,h118,h⟩:=aD h;obtain⟨Xf,h120,h⟩:=aD h;obtain⟨x121,h122,h⟩:=aD h;have jN:=((((((((((kT.b h114).i (xj aP.c 3 h118)).o 3 3 .uq (dB aP.c (tR h118))).a [.n 8]).g (tX h120)).i (xj Node.c 8 h107)).w (show(rZ.map Node.c)[rE.toNat]?=some [D.int .i64 x106.parent,D.int .i64 x106.cond.kind,D.str x106.cond.pat.rel,D.sl (x106.cond.pat.args.map tx),D.str x106.cond.left,D.str x106.cond.right,D.int .i64 x106.cP,D.sl (x106.tokens.map aJ.c)]from dB Node.c (tR h107))).a [.row [D.int .i64 x106.parent,D.int .i64 x106.cond.kind,D.str x106.cond.pat.rel,D.sl (x106.cond.pat.args.map tx),D.str x106.cond.left,D.str x106.cond.right,D.int .i64 x106.cP,D.sl (x106.tokens.map aJ.c)]]).i (xj bx 1 h122)).o 1 1 .uq (dB bx (tR h122)))
    obtain⟨h123,h⟩|⟨h123,h⟩:=aL h
    ·exact((jN.b h123).a [.cn [3,6,7,8,12] [0,1,2,3,4,5,6,7,8]]).cs hΓ uT (tZ aB y1 y3 iI wB (IntKind.i64.wrap (rE+1)) (IntKind.i64.wrap ((IntKind.i64.wrap (vO+(IntKind.i64.wrap (Jt.2*((x117.facts.map aE.c).length:Int)))))+Jt.1)) ((rZ.map Node.c).set rE.toNat [D.int .i64 x106.parent,D.int .i64 x106.cond.kind,D.str x106.cond.pat.rel,D.sl (x106.cond.pat.args.map tx),D.str x106.cond.left,D.str x106.cond.right,D.int .i64 x106.cP,D.sl (Xf.map aJ.c)])) (by first| (simp only[mA]<;>rfl)| (simp only[mA,aE.c,aS.c,aN.c,Action.c,aO.c,aJ.c,cx.c,aP.c,Node.c,aF.c,cy.c]<;>rfl)) (ih2 (IntKind.i64.wrap (rE+1)) (IntKind.i64.wrap ((IntKind.i64.wrap (vO+(IntKind.i64.wrap (Jt.2*((x117.facts.map aE.c).length:Int)))))+Jt.1)) (rZ.set rE.toNat (⟨x106.parent,x106.cond,x106.cP,Xf⟩:Node)) h)
    ·exact((jN.b h123).a [.cn [3,6,7,8,12] [0,1,2,3,4,5,6,7,8]]).cs hΓ uT (tZ aB y1 y3 iI wB (IntKind.i64.wrap (rE+1)) (IntKind.i64.wrap (vO+(IntKind.i64.wrap (Jt.2*((x117.facts.map aE.c).length:Int))))) ((rZ.map Node.c).set rE.toNat [D.int .i64 x106.parent,D.int .i64 x106.cond.kind,D.str x106.cond.pat.rel,D.sl (x106.cond.pat.args.map tx),D.str x106.cond.left,D.str x106.cond.right,D.int .i64 x106.cP,D.sl (Xf.map aJ.c)])) (by first| (simp only[mA]<;>rfl)| (simp only[mA,aE.c,aS.c,aN.c,Action.c,aO.c,aJ.c,cx.c,aP.c,Node.c,aF.c,cy.c]<;>rfl)) (ih2 (IntKind.i64.wrap (rE+1)) (IntKind.i64.wrap (vO+(IntKind.i64.wrap (Jt.2*((x117.facts.map aE.c).length:Int))))) (rZ.set rE.toNat (⟨x106.parent,x106.cond,x106.cP,Xf⟩:Node)) h)
  ·exact((aU.b h105).a [.hl 0 [6,7] [1,2,4,5,6,7,8]]).ex hΓ xM (CV vO rZ h)
theorem HW{aB:aF}{aV:aQ}{cV:aE}{r:aF}(h:uR aB aV cV=some r):Good prog 96 [D.agg (aF.c aB),D.sl (aV.map aE.c),D.agg (aE.c cV)] (D.agg [D.fr 105 4 (r.rules.map aO.c),D.fr 3 1 (r.ends.map dZ),D.fr 111 3 (r.ay.map aP.c),D.fr 118 8 (r.nodes.map Node.c),D.fr 53 2 (r.facts.map aE.c),D.int .i64 r.cK]):=by
 refine gd func96 [[some (105,4),some (3,1),some (111,3),some (118,8),some (53,2),none]] 143 fun hr Γ hΓ=>?_
 rw[uR]at h;obtain⟨y1,h2,h⟩:=aD h;obtain⟨y3,h4,h⟩:=aD h;refine(((aU.g (xg h2)).g (iv h4)).a [.cn [1,3,5,6,7,8,9] [0,1,2,8,10,3,4,5,6,9]]).lp hΓ (Jl hΓ (fun iI wB h=>?_) fuel 0 ([]:List Bool) y1.ay h);refine(aU.a [.cn [3,6,7,8,12] [0,1,2,3,4,5,6,7,8]]).lp hΓ (Jm hΓ (fun oZ vM h=>?_) fuel 1 y1.cK y1.nodes h);cases h;exact aU.ret hΓ
def mr(aB:aI):Option aI:=(bif room (([]:List aR).length+(aB.map tx).length) 16 then(some (([]:aI)++aB))else none)
theorem vD{aB:aI}{r:aI}(h:mr aB=some r):Good prog 184 [D.sl (aB.map tx)] (D.fr 9 1 (r.map tx)):=by
 refine gd func184 [[some (9,1)]] 5 fun hr Γ hΓ=>?_
 rw[mr]at h;obtain⟨h1,h⟩:=bX h;cases h;exact(((aU.w (cG h1)).w (show(∀r∈(aB.map tx),r.length=1)/\(true=true->D.nr (aB.map tx)=true)from⟨by first|simp| (intro r hr;obtain⟨x,_,rfl⟩:=cH.1 (cF (gB hr));rfl),by simp[D.nr,D.flat]⟩)).a [.PT 2,.fl true]).rts hΓ (D.fr 9 1 (([]:List aR)++(aB.map tx))) (by first|rfl| (simp only[mA]<;>rfl)| (simp only[cU,mA]<;>rfl))
def eA(aB:aE):Option aE:=((mr aB.args).bind fun y1=>(some (⟨aB.rel,y1⟩:aE)))
theorem sO{aB:aE}{r:aE}(h:eA aB=some r):Good prog 112 [D.agg (aE.c aB)] (D.agg [D.str r.rel,D.fr 9 1 (r.args.map tx)]):=by
 refine gd func112 [[none,some (9,1)]] 9 fun hr Γ hΓ=>?_
 rw[eA]at h;obtain⟨y1,h2,h⟩:=aD h;cases h;exact((aU.a [.n 5]).g (vD h2)).ret hΓ
def er(aB:aN):Option aN:=((eA aB.pat).bind fun y1=>(some (⟨aB.kind,y1,aB.left,aB.right⟩:aN)))
theorem kp{aB:aN}{r:aN}(h:er aB=some r):Good prog 113 [D.agg (aN.c aB)] (D.agg [D.int .i64 r.kind,D.str r.pat.rel,D.fr 9 1 (r.pat.args.map tx),D.str r.left,D.str r.right]):=by
 refine gd func113 [[none,none,some (9,1),none,none]] 8 fun hr Γ hΓ=>?_
 rw[er]at h;obtain⟨y1,h2,h⟩:=aD h;cases h;exact(aU.g (sO h2)).ret hΓ
def mG(aB:aj)(k1:aj->Option aj):aj->Nat->aj->Option aj
 | [],i1,bC=>(k1 bC)
 |bD::bn,i1,bC=>((er bD).bind fun pM=>(bif room ((bC.map aN.c).length+([[D.int .i64 pM.kind,D.str pM.pat.rel,D.sl (pM.pat.args.map tx),D.str pM.left,D.str pM.right]]).length) 80 then(mG aB k1 bn (i1+1) (bC++([pM])))else none))
def sM(aB:aj):Option aj:=(mG aB (fun(bO:aj)=>(some bO)) aB 0 ([]:aj))
def Af(aB:aj)(W0:List aR)(cS:Int):St:=⟨[(3,D.acc 0),(6,D.sl (aB.map aN.c)),(7,D.int .i64 ((aB.map aN.c).length:Int)),(8,D.int .i64 cS)],[Ob.row .uq 115 5 W0]⟩
theorem GK(hΓ:Γ.nt=19){aB:aj}{r:aj}{k1:aj->Option aj}(cX:∀(bO:aj),k1 bO=some r->Ax Γ N f244 (.q [[some (115,5)]] (D.fr 115 5 (r.map aN.c))) [1,1,1] ⟨[(3,D.acc 0)],[Ob.row .uq 115 5 (bO.map aN.c)]⟩)(hm1:aB.length<=maxLen):∀(rest:aj) (i1:Nat) (bC:aj),aB.drop i1=rest->mG aB k1 rest i1 bC=some r->Ar Γ N f244 (.q [[some (115,5)]] (D.fr 115 5 (r.map aN.c))) [1,1,0,1,0] (rest.length+1) (Af aB (bC.map aN.c) (i1:Int)):=by
 intro rest
 induction rest with
 |nil=>
  intro i1 bC aq h;rw[mG]at h;refine aM fun N1 bu bq=>?_
  exact((aU.ge aN.c aq).a [.hl 0 [3] [0]]).ex hΓ bu (cX bC h)
 |cons bD bn ih1=>
  intro i1 bC aq h;rw[mG]at h;refine aM fun N1 bu bq=>?_
  obtain⟨pM,h28,h⟩:=aD h;obtain⟨h29,h⟩:=bX h;exact(((((aU.lt aN.c aq).l (ax aN.c 5 (dc aq) rfl)).g (kp h28)).w (cG h29)).a [.cn [3,6,7,8] [4]]).cs hΓ bq (Af aB ((bC.map aN.c)++([[D.int .i64 pM.kind,D.str pM.pat.rel,D.sl (pM.pat.args.map tx),D.str pM.left,D.str pM.right]])) (IntKind.i64.wrap ((i1:Int)+1))) (by first| (simp only[iS aq hm1,mA]<;>rfl)| (simp only[iS aq hm1,mA,aE.c,aS.c,aN.c,Action.c,aO.c,aJ.c,cx.c,aP.c,Node.c,aF.c,cy.c]<;>rfl)) (ih1 (i1+1) (bC++([pM])) (dn aq) h)
theorem FD{aB:aj}{r:aj}(h:sM aB=some r):Good prog 244 [D.sl (aB.map aN.c)] (D.fr 115 5 (r.map aN.c)):=by
 refine gd func244 [[some (115,5)]] 19 fun hr Γ hΓ=>?_
 rw[sM]at h;refine(aU.a [.PT 3,.cn [3,6,7,8] [0]]).lp hΓ (GK hΓ (fun bO h=>?_) (by have:=(dS.sl (hr _ (aC (i:=0) rfl))).1;simpa using this) aB 0 ([]:aj) rfl h);have h:=aG h;subst h;exact aU.ret hΓ
def kE(aB:aO)(y1:aj)(k1:bw->Option aO):bw->Nat->bw->Option aO
 | [],i1,gf=>(k1 gf)
 |bD::bn,i1,gf=>((eA bD.pat).bind fun nw=>(bif room ((gf.map Action.c).length+([[D.int .i64 bD.kind,D.str nw.rel,D.sl (nw.args.map tx)]]).length) 48 then(kE aB y1 k1 bn (i1+1) (gf++([(⟨bD.kind,nw⟩:Action)])))else none))
def qZ(aB:aO):Option aO:=((sM aB.conds).bind fun y1=>(kE aB y1 (fun(iI:bw)=>(some (⟨aB.name,aB.prio,y1,iI⟩:aO))) aB.cr 0 ([]:bw)))
def Bf(aB:aO)(y1:aj)(W0:List aR)(cS:Int):St:=⟨[(2,D.ptr 0 0),(3,D.ptr 1 0),(15,D.sl (aB.cr.map Action.c)),(16,D.int .i64 ((aB.cr.map Action.c).length:Int)),(17,D.int .i64 cS)],[Ob.box [D.str ([]),D.int .i64 0,D.nil,D.nil],Ob.box [D.str aB.name,D.int .i64 aB.prio,D.acc 2,D.acc 3],Ob.row .uq 115 5 (y1.map aN.c),Ob.row .uq 199 3 W0]⟩
theorem Ic(hΓ:Γ.nt=34){aB:aO}{y1:aj}{r:aO}{k1:bw->Option aO}(cX:∀(iI:bw),k1 iI=some r->Ax Γ N f182 (.q [[none,none,some (115,5),some (199,3)]] (D.agg [D.str r.name,D.int .i64 r.prio,D.fr 115 5 (r.conds.map aN.c),D.fr 199 3 (r.cr.map Action.c)])) [1,1,1] ⟨[(2,D.ptr 0 0),(3,D.ptr 1 0)],[Ob.box [D.str ([]),D.int .i64 0,D.nil,D.nil],Ob.box [D.str aB.name,D.int .i64 aB.prio,D.acc 2,D.acc 3],Ob.row .uq 115 5 (y1.map aN.c),Ob.row .uq 199 3 (iI.map Action.c)]⟩)(hm1:aB.cr.length<=maxLen):∀(rest:bw) (i1:Nat) (gf:bw),aB.cr.drop i1=rest->kE aB y1 k1 rest i1 gf=some r->Ar Γ N f182 (.q [[none,none,some (115,5),some (199,3)]] (D.agg [D.str r.name,D.int .i64 r.prio,D.fr 115 5 (r.conds.map aN.c),D.fr 199 3 (r.cr.map Action.c)])) [1,1,0,1,0] (rest.length+1) (Bf aB y1 (gf.map Action.c) (i1:Int)):=by
 intro rest
 induction rest with
 |nil=>
  intro i1 gf aq h;rw[kE]at h;refine aM fun N1 bu bq=>?_
  exact((aU.ge Action.c aq).a [.hl 0 [2,3] [0,1,2,3]]).ex hΓ bu (cX gf h)
 |cons bD bn ih1=>
  intro i1 gf aq h;rw[kE]at h;refine aM fun N1 bu bq=>?_
  obtain⟨nw,h42,h⟩:=aD h;obtain⟨h43,h⟩:=bX h;exact((((((aU.lt Action.c aq).l (ax Action.c 3 (dc aq) rfl)).a [.n2 [0,1,2,3,4,5,6,7,8,9,10,11] [0,1,2,3,4,5,6,7,8,9,10,11] 8 9 [0,1] [5]]).g (sO h42)).w (cG h43)).a [.cn [2,3,15,16,17] [0,1,2,7]]).cs hΓ bq (Bf aB y1 ((gf.map Action.c)++([[D.int .i64 bD.kind,D.str nw.rel,D.sl (nw.args.map tx)]])) (IntKind.i64.wrap ((i1:Int)+1))) (by first| (simp only[iS aq hm1,mA]<;>rfl)| (simp only[iS aq hm1,mA,aE.c,aS.c,aN.c,Action.c,aO.c,aJ.c,cx.c,aP.c,Node.c,aF.c,cy.c]<;>rfl)) (ih1 (i1+1) (gf++([(⟨bD.kind,nw⟩:Action)])) (dn aq) h)
theorem GN{aB:aO}{r:aO}(h:qZ aB=some r):Good prog 182 [D.agg (aO.c aB)] (D.agg [D.str r.name,D.int .i64 r.prio,D.fr 115 5 (r.conds.map aN.c),D.fr 199 3 (r.cr.map Action.c)]):=by
 refine gd func182 [[none,none,some (115,5),some (199,3)]] 34 fun hr Γ hΓ=>?_
 rw[qZ]at h;obtain⟨y1,h2,h⟩:=aD h;refine(((aU.a [.n 9]).g (FD h2)).a [.pb 3 3 199 3,.cn [2,3,15,16,17] [1,3,2,4]]).lp hΓ (Ic hΓ (fun iI h=>?_) (by have:=(dS.sl (dS.agg (hr _ (aC (i:=0) rfl)) (.sl (aB.cr.map Action.c)) (by simp))).1;simpa using this) aB.cr 0 ([]:bw) rfl h);cases h;exact aU.ret hΓ
def mI(aB:au)(k1:au->Option au):au->Nat->au->Option au
 | [],i1,bC=>(k1 bC)
 |bD::bn,i1,bC=>((qZ bD).bind fun pM=>(bif room ((bC.map aO.c).length+([[D.str pM.name,D.int .i64 pM.prio,D.sl (pM.conds.map aN.c),D.sl (pM.cr.map Action.c)]]).length) 72 then(mI aB k1 bn (i1+1) (bC++([pM])))else none))
def pQ(aB:au):Option au:=(mI aB (fun(bO:au)=>(some bO)) aB 0 ([]:au))
def Ah(aB:au)(W0:List aR)(cS:Int):St:=⟨[(3,D.acc 0),(6,D.sl (aB.map aO.c)),(7,D.int .i64 ((aB.map aO.c).length:Int)),(8,D.int .i64 cS)],[Ob.row .uq 105 4 W0]⟩
theorem GO(hΓ:Γ.nt=19){aB:au}{r:au}{k1:au->Option au}(cX:∀(bO:au),k1 bO=some r->Ax Γ N f109 (.q [[some (105,4)]] (D.fr 105 4 (r.map aO.c))) [1,1,1] ⟨[(3,D.acc 0)],[Ob.row .uq 105 4 (bO.map aO.c)]⟩)(hm1:aB.length<=maxLen):∀(rest:au) (i1:Nat) (bC:au),aB.drop i1=rest->mI aB k1 rest i1 bC=some r->Ar Γ N f109 (.q [[some (105,4)]] (D.fr 105 4 (r.map aO.c))) [1,1,0,1,0] (rest.length+1) (Ah aB (bC.map aO.c) (i1:Int)):=by
 intro rest
 induction rest with
 |nil=>
  intro i1 bC aq h;rw[mI]at h;refine aM fun N1 bu bq=>?_
  exact((aU.ge aO.c aq).a [.hl 0 [3] [0]]).ex hΓ bu (cX bC h)
 |cons bD bn ih1=>
  intro i1 bC aq h;rw[mI]at h;refine aM fun N1 bu bq=>?_
  obtain⟨pM,h28,h⟩:=aD h;obtain⟨h29,h⟩:=bX h;exact(((((aU.lt aO.c aq).l (ax aO.c 4 (dc aq) rfl)).g (GN h28)).w (cG h29)).a [.cn [3,6,7,8] [5]]).cs hΓ bq (Ah aB ((bC.map aO.c)++([[D.str pM.name,D.int .i64 pM.prio,D.sl (pM.conds.map aN.c),D.sl (pM.cr.map Action.c)]])) (IntKind.i64.wrap ((i1:Int)+1))) (by first| (simp only[iS aq hm1,mA]<;>rfl)| (simp only[iS aq hm1,mA,aE.c,aS.c,aN.c,Action.c,aO.c,aJ.c,cx.c,aP.c,Node.c,aF.c,cy.c]<;>rfl)) (ih1 (i1+1) (bC++([pM])) (dn aq) h)
theorem yu{aB:au}{r:au}(h:pQ aB=some r):Good prog 109 [D.sl (aB.map aO.c)] (D.fr 105 4 (r.map aO.c)):=by
 refine gd func109 [[some (105,4)]] 19 fun hr Γ hΓ=>?_
 rw[pQ]at h;refine(aU.a [.PT 3,.cn [3,6,7,8] [0]]).lp hΓ (GO hΓ (fun bO h=>?_) (by have:=(dS.sl (hr _ (aC (i:=0) rfl))).1;simpa using this) aB 0 ([]:au) rfl h);have h:=aG h;subst h;exact aU.ret hΓ
def tv(aB:bJ):Option bJ:=(bif room (([]:List aR).length+(aB.map dZ).length) 8 then(some (([]:bJ)++aB))else none)
theorem GM{aB:bJ}{r:bJ}(h:tv aB=some r):Good prog 110 [D.sl (aB.map dZ)] (D.fr 3 1 (r.map dZ)):=by
 refine gd func110 [[some (3,1)]] 5 fun hr Γ hΓ=>?_
 rw[tv]at h;obtain⟨h1,h⟩:=bX h;cases h;exact(((aU.w (cG h1)).w (show(∀r∈(aB.map dZ),r.length=1)/\(true=true->D.nr (aB.map dZ)=true)from⟨by first|simp| (intro r hr;obtain⟨x,_,rfl⟩:=cH.1 (cF (gB hr));rfl),by simp[D.nr,D.flat]⟩)).a [.PT 2,.fl true]).rts hΓ (D.fr 3 1 (([]:List aR)++(aB.map dZ))) (by first|rfl| (simp only[mA]<;>rfl)| (simp only[cU,mA]<;>rfl))
def j5(aB:aE):Option aE:=((mr aB.args).bind fun y1=>(some (⟨aB.rel,y1⟩:aE)))
theorem vf{aB:aE}{r:aE}(h:j5 aB=some r):Good prog 183 [D.agg (aE.c aB)] (D.agg [D.str r.rel,D.fr 9 1 (r.args.map tx)]):=by
 refine gd func183 [[none,some (9,1)]] 9 fun hr Γ hΓ=>?_
 rw[j5]at h;obtain⟨y1,h2,h⟩:=aD h;cases h;exact((aU.a [.n 5]).g (vD h2)).ret hΓ
def mH(aB:aQ)(k1:aQ->Option aQ):aQ->Nat->aQ->Option aQ
 | [],i1,bC=>(k1 bC)
 |bD::bn,i1,bC=>((j5 bD).bind fun pM=>(bif room ((bC.map aE.c).length+([[D.str pM.rel,D.sl (pM.args.map tx)]]).length) 40 then(mH aB k1 bn (i1+1) (bC++([pM])))else none))
def cv(aB:aQ):Option aQ:=(mH aB (fun(bO:aQ)=>(some bO)) aB 0 ([]:aQ))
def Ag(aB:aQ)(W0:List aR)(cS:Int):St:=⟨[(3,D.acc 0),(6,D.sl (aB.map aE.c)),(7,D.int .i64 ((aB.map aE.c).length:Int)),(8,D.int .i64 cS)],[Ob.row .uq 53 2 W0]⟩
theorem GL(hΓ:Γ.nt=19){aB:aQ}{r:aQ}{k1:aQ->Option aQ}(cX:∀(bO:aQ),k1 bO=some r->Ax Γ N f111 (.q [[some (53,2)]] (D.fr 53 2 (r.map aE.c))) [1,1,1] ⟨[(3,D.acc 0)],[Ob.row .uq 53 2 (bO.map aE.c)]⟩)(hm1:aB.length<=maxLen):∀(rest:aQ) (i1:Nat) (bC:aQ),aB.drop i1=rest->mH aB k1 rest i1 bC=some r->Ar Γ N f111 (.q [[some (53,2)]] (D.fr 53 2 (r.map aE.c))) [1,1,0,1,0] (rest.length+1) (Ag aB (bC.map aE.c) (i1:Int)):=by
 intro rest
 induction rest with
 |nil=>
  intro i1 bC aq h;rw[mH]at h;refine aM fun N1 bu bq=>?_
  exact((aU.ge aE.c aq).a [.hl 0 [3] [0]]).ex hΓ bu (cX bC h)
 |cons bD bn ih1=>
  intro i1 bC aq h;rw[mH]at h;refine aM fun N1 bu bq=>?_
  obtain⟨pM,h28,h⟩:=aD h;obtain⟨h29,h⟩:=bX h;exact(((((aU.lt aE.c aq).l (ax aE.c 2 (dc aq) rfl)).g (vf h28)).w (cG h29)).a [.cn [3,6,7,8] [4]]).cs hΓ bq (Ag aB ((bC.map aE.c)++([[D.str pM.rel,D.sl (pM.args.map tx)]])) (IntKind.i64.wrap ((i1:Int)+1))) (by first| (simp only[iS aq hm1,mA]<;>rfl)| (simp only[iS aq hm1,mA,aE.c,aS.c,aN.c,Action.c,aO.c,aJ.c,cx.c,aP.c,Node.c,aF.c,cy.c]<;>rfl)) (ih1 (i1+1) (bC++([pM])) (dn aq) h)
theorem dL{aB:aQ}{r:aQ}(h:cv aB=some r):Good prog 111 [D.sl (aB.map aE.c)] (D.fr 53 2 (r.map aE.c)):=by
 refine gd func111 [[some (53,2)]] 19 fun hr Γ hΓ=>?_
 rw[cv]at h;refine(aU.a [.PT 3,.cn [3,6,7,8] [0]]).lp hΓ (GL hΓ (fun bO h=>?_) (by have:=(dS.sl (hr _ (aC (i:=0) rfl))).1;simpa using this) aB 0 ([]:aQ) rfl h);have h:=aG h;subst h;exact aU.ret hΓ
def jE(aB:aT):Option aT:=(bif room (([]:List aR).length+(aB.map aS.c).length) 32 then(some (([]:aT)++aB))else none)
theorem vC{aB:aT}{r:aT}(h:jE aB=some r):Good prog 185 [D.sl (aB.map aS.c)] (D.fr 152 2 (r.map aS.c)):=by
 refine gd func185 [[some (152,2)]] 5 fun hr Γ hΓ=>?_
 rw[jE]at h;obtain⟨h1,h⟩:=bX h;cases h;exact(((aU.w (cG h1)).w (show(∀r∈(aB.map aS.c),r.length=2)/\(true=true->D.nr (aB.map aS.c)=true)from⟨by first|simp| (intro r hr;obtain⟨x,_,rfl⟩:=cH.1 (cF (gB hr));rfl),by simp[D.nr,D.flat]⟩)).a [.PT 2,.fl true]).rts hΓ (D.fr 152 2 (([]:List aR)++(aB.map aS.c))) (by first|rfl| (simp only[mA]<;>rfl)| (simp only[cU,mA]<;>rfl))
def iV(aB:af)(k1:af->Option af):af->Nat->af->Option af
 | [],i1,bC=>(k1 bC)
 |bD::bn,i1,bC=>((cv bD.facts).bind fun y61=>((jE bD.bind).bind fun y63=>(bif room ((bC.map aJ.c).length+([[D.sl (y61.map aE.c),D.sl (y63.map aS.c)]]).length) 48 then(iV aB k1 bn (i1+1) (bC++([(⟨y61,y63⟩:aJ)])))else none)))
def lU(aB:af):Option af:=(iV aB (fun(bO:af)=>(some bO)) aB 0 ([]:af))
def zi(aB:af)(W0:List aR)(cS:Int):St:=⟨[(3,D.acc 0),(6,D.sl (aB.map aJ.c)),(7,D.int .i64 ((aB.map aJ.c).length:Int)),(8,D.int .i64 cS)],[Ob.row .uq 124 2 W0]⟩
theorem FE(hΓ:Γ.nt=24){aB:af}{r:af}{k1:af->Option af}(cX:∀(bO:af),k1 bO=some r->Ax Γ N f114 (.q [[some (124,2)]] (D.fr 124 2 (r.map aJ.c))) [1,1,1] ⟨[(3,D.acc 0)],[Ob.row .uq 124 2 (bO.map aJ.c)]⟩)(hm1:aB.length<=maxLen):∀(rest:af) (i1:Nat) (bC:af),aB.drop i1=rest->iV aB k1 rest i1 bC=some r->Ar Γ N f114 (.q [[some (124,2)]] (D.fr 124 2 (r.map aJ.c))) [1,1,0,1,0] (rest.length+1) (zi aB (bC.map aJ.c) (i1:Int)):=by
 intro rest
 induction rest with
 |nil=>
  intro i1 bC aq h;rw[iV]at h;refine aM fun N1 bu bq=>?_
  exact((aU.ge aJ.c aq).a [.hl 0 [3] [0]]).ex hΓ bu (cX bC h)
 |cons bD bn ih1=>
  intro i1 bC aq h;rw[iV]at h;refine aM fun N1 bu bq=>?_
  obtain⟨y61,h62,h⟩:=aD h;obtain⟨y63,h64,h⟩:=aD h;obtain⟨h65,h⟩:=bX h;exact(((((((aU.lt aJ.c aq).l (ax aJ.c 2 (dc aq) rfl)).a [.n2 [0,1,2,3,4,5,6,7,8,9,10] [0,1,2,3,4,5,6,7,8,9,10] 8 9 [0] [2,3]]).g (dL h62)).g (vC h64)).w (cG h65)).a [.cn [3,6,7,8] [5]]).cs hΓ bq (zi aB ((bC.map aJ.c)++([[D.sl (y61.map aE.c),D.sl (y63.map aS.c)]])) (IntKind.i64.wrap ((i1:Int)+1))) (by first| (simp only[iS aq hm1,mA]<;>rfl)| (simp only[iS aq hm1,mA,aE.c,aS.c,aN.c,Action.c,aO.c,aJ.c,cx.c,aP.c,Node.c,aF.c,cy.c]<;>rfl)) (ih1 (i1+1) (bC++([(⟨y61,y63⟩:aJ)])) (dn aq) h)
theorem EG{aB:af}{r:af}(h:lU aB=some r):Good prog 114 [D.sl (aB.map aJ.c)] (D.fr 124 2 (r.map aJ.c)):=by
 refine gd func114 [[some (124,2)]] 24 fun hr Γ hΓ=>?_
 rw[lU]at h;refine(aU.a [.PT 3,.cn [3,6,7,8] [0]]).lp hΓ (FE hΓ (fun bO h=>?_) (by have:=(dS.sl (hr _ (aC (i:=0) rfl))).1;simpa using this) aB 0 ([]:af) rfl h);have h:=aG h;subst h;exact aU.ret hΓ
def iA(aB:aF)(y1:au)(y3:bJ)(y5:aQ)(k1:b8->Option aF):b8->Nat->b8->Option aF
 | [],i1,qK=>(k1 qK)
 |bD::bn,i1,qK=>((eA bD.shape).bind fun y67=>((cv bD.facts).bind fun y69=>(bif room ((qK.map aP.c).length+([[D.str y67.rel,D.sl (y67.args.map tx),D.sl (y69.map aE.c)]]).length) 64 then(iA aB y1 y3 y5 k1 bn (i1+1) (qK++([(⟨y67,y69⟩:aP)])))else none)))
def iB(aB:aF)(y1:au)(y3:bJ)(y5:aQ)(rY:b8)(k2:az->Option aF):az->Nat->az->Option aF
 | [],i2,wP=>(k2 wP)
 |lM::wF,i2,wP=>((er lM.cond).bind fun Oc=>((lU lM.tokens).bind fun a3I=>(bif room ((wP.map Node.c).length+([[D.int .i64 lM.parent,D.int .i64 Oc.kind,D.str Oc.pat.rel,D.sl (Oc.pat.args.map tx),D.str Oc.left,D.str Oc.right,D.int .i64 lM.cP,D.sl (a3I.map aJ.c)]]).length) 120 then(iB aB y1 y3 y5 rY k2 wF (i2+1) (wP++([(⟨lM.parent,Oc,lM.cP,a3I⟩:Node)])))else none)))
def kD(aB:aF):Option aF:=((pQ aB.rules).bind fun y1=>((tv aB.ends).bind fun y3=>((cv aB.facts).bind fun y5=>(iA aB y1 y3 y5 (fun(rY:b8)=>(iB aB y1 y3 y5 rY (fun(vM:az)=>(some (⟨y1,y3,rY,vM,y5,aB.cK⟩:aF))) aB.nodes 0 ([]:az))) aB.ay 0 ([]:b8)))))
def yq(aB:aF)(y1:au)(y3:bJ)(y5:aQ)(W0:List aR)(cS:Int):St:=⟨[(1,D.ptr 0 0),(2,D.ptr 1 0),(3,D.ptr 2 0),(21,D.sl (aB.ay.map aP.c)),(22,D.int .i64 ((aB.ay.map aP.c).length:Int)),(23,D.int .i64 cS)],[Ob.box (aF.c aB),Ob.box [D.nil,D.nil,D.nil,D.nil,D.nil,D.int .i64 0],Ob.box [D.acc 3,D.acc 4,D.acc 5,D.nil,D.acc 6,D.int .i64 aB.cK],Ob.row .uq 105 4 (y1.map aO.c),Ob.row .uq 3 1 (y3.map dZ),Ob.row .uq 111 3 W0,Ob.row .uq 53 2 (y5.map aE.c)]⟩
theorem EE(hΓ:Γ.nt=65){aB:aF}{y1:au}{y3:bJ}{y5:aQ}{r:aF}{k1:b8->Option aF}(cX:∀(rY:b8),k1 rY=some r->Ax Γ N f53 (.q [[some (105,4),some (3,1),some (111,3),some (118,8),some (53,2),none]] (D.agg [D.fr 105 4 (r.rules.map aO.c),D.fr 3 1 (r.ends.map dZ),D.fr 111 3 (r.ay.map aP.c),D.fr 118 8 (r.nodes.map Node.c),D.fr 53 2 (r.facts.map aE.c),D.int .i64 r.cK])) [1,1,1] ⟨[(1,D.ptr 0 0),(2,D.ptr 1 0),(3,D.ptr 2 0)],[Ob.box (aF.c aB),Ob.box [D.nil,D.nil,D.nil,D.nil,D.nil,D.int .i64 0],Ob.box [D.acc 3,D.acc 4,D.acc 5,D.nil,D.acc 6,D.int .i64 aB.cK],Ob.row .uq 105 4 (y1.map aO.c),Ob.row .uq 3 1 (y3.map dZ),Ob.row .uq 111 3 (rY.map aP.c),Ob.row .uq 53 2 (y5.map aE.c)]⟩)(hm1:aB.ay.length<=maxLen):∀(rest:b8) (i1:Nat) (qK:b8),aB.ay.drop i1=rest->iA aB y1 y3 y5 k1 rest i1 qK=some r->Ar Γ N f53 (.q [[some (105,4),some (3,1),some (111,3),some (118,8),some (53,2),none]] (D.agg [D.fr 105 4 (r.rules.map aO.c),D.fr 3 1 (r.ends.map dZ),D.fr 111 3 (r.ay.map aP.c),D.fr 118 8 (r.nodes.map Node.c),D.fr 53 2 (r.facts.map aE.c),D.int .i64 r.cK])) [1,1,0,1,0] (rest.length+1) (yq aB y1 y3 y5 (qK.map aP.c) (i1:Int)):=by
 intro rest
 induction rest with
 |nil=>
  intro i1 qK aq h;rw[iA]at h;refine aM fun N1 bu bq=>?_
  exact((aU.ge aP.c aq).a [.hl 0 [1,2,3] [0,1,2,3,4,5,6]]).ex hΓ bu (cX qK h)
 |cons bD bn ih1=>
  intro i1 qK aq h;rw[iA]at h;refine aM fun N1 bu bq=>?_
  obtain⟨y67,h68,h⟩:=aD h;obtain⟨y69,h70,h⟩:=aD h;obtain⟨h71,h⟩:=bX h;exact(((((((aU.lt aP.c aq).l (ax aP.c 3 (dc aq) rfl)).a [.n2 [0,1,2,3,4,5,6,7,8,9,10,11,12] [0,1,2,3,4,5,6,7,8,9,10,11,12] 9 10 [0,1] [8,9]]).g (sO h68)).g (dL h70)).w (cG h71)).a [.cn [1,2,3,21,22,23] [0,1,2,3,4,11,6]]).cs hΓ bq (yq aB y1 y3 y5 ((qK.map aP.c)++([[D.str y67.rel,D.sl (y67.args.map tx),D.sl (y69.map aE.c)]])) (IntKind.i64.wrap ((i1:Int)+1))) (by first| (simp only[iS aq hm1,mA]<;>rfl)| (simp only[iS aq hm1,mA,aE.c,aS.c,aN.c,Action.c,aO.c,aJ.c,cx.c,aP.c,Node.c,aF.c,cy.c]<;>rfl)) (ih1 (i1+1) (qK++([(⟨y67,y69⟩:aP)])) (dn aq) h)
def yt(aB:aF)(y1:au)(y3:bJ)(y5:aQ)(rY:b8)(W0:List aR)(cS:Int):St:=⟨[(2,D.ptr 0 0),(3,D.ptr 1 0),(41,D.sl (aB.nodes.map Node.c)),(42,D.int .i64 ((aB.nodes.map Node.c).length:Int)),(43,D.int .i64 cS)],[Ob.box [D.nil,D.nil,D.nil,D.nil,D.nil,D.int .i64 0],Ob.box [D.acc 2,D.acc 3,D.acc 4,D.acc 5,D.acc 6,D.int .i64 aB.cK],Ob.row .uq 105 4 (y1.map aO.c),Ob.row .uq 3 1 (y3.map dZ),Ob.row .uq 111 3 (rY.map aP.c),Ob.row .uq 118 8 W0,Ob.row .uq 53 2 (y5.map aE.c)]⟩
theorem EF(hΓ:Γ.nt=65){aB:aF}{y1:au}{y3:bJ}{y5:aQ}{rY:b8}{r:aF}{k2:az->Option aF}(CV:∀(vM:az),k2 vM=some r->Ax Γ N f53 (.q [[some (105,4),some (3,1),some (111,3),some (118,8),some (53,2),none]] (D.agg [D.fr 105 4 (r.rules.map aO.c),D.fr 3 1 (r.ends.map dZ),D.fr 111 3 (r.ay.map aP.c),D.fr 118 8 (r.nodes.map Node.c),D.fr 53 2 (r.facts.map aE.c),D.int .i64 r.cK])) [1,1,1,1] ⟨[(2,D.ptr 0 0),(3,D.ptr 1 0)],[Ob.box [D.nil,D.nil,D.nil,D.nil,D.nil,D.int .i64 0],Ob.box [D.acc 2,D.acc 3,D.acc 4,D.acc 5,D.acc 6,D.int .i64 aB.cK],Ob.row .uq 105 4 (y1.map aO.c),Ob.row .uq 3 1 (y3.map dZ),Ob.row .uq 111 3 (rY.map aP.c),Ob.row .uq 118 8 (vM.map Node.c),Ob.row .uq 53 2 (y5.map aE.c)]⟩)(hm2:aB.nodes.length<=maxLen):∀(rest:az) (i2:Nat) (wP:az),aB.nodes.drop i2=rest->iB aB y1 y3 y5 rY k2 rest i2 wP=some r->Ar Γ N f53 (.q [[some (105,4),some (3,1),some (111,3),some (118,8),some (53,2),none]] (D.agg [D.fr 105 4 (r.rules.map aO.c),D.fr 3 1 (r.ends.map dZ),D.fr 111 3 (r.ay.map aP.c),D.fr 118 8 (r.nodes.map Node.c),D.fr 53 2 (r.facts.map aE.c),D.int .i64 r.cK])) [1,1,1,0,1,0] (rest.length+1) (yt aB y1 y3 y5 rY (wP.map Node.c) (i2:Int)):=by
 intro rest
 induction rest with
 |nil=>
  intro i2 wP hd2 h;rw[iB]at h;refine aM fun N2 xM uT=>?_
  exact((aU.ge Node.c hd2).a [.hl 0 [2,3] [0,1,2,3,4,5,6]]).ex hΓ xM (CV wP h)
 |cons lM wF ih2=>
  intro i2 wP hd2 h;rw[iB]at h;refine aM fun N2 xM uT=>?_
  obtain⟨Oc,h133,h⟩:=aD h;obtain⟨a3I,h135,h⟩:=aD h;obtain⟨h136,h⟩:=bX h;exact(((((((aU.lt Node.c hd2).l (ax Node.c 8 (dc hd2) rfl)).a [.n2 [0,1,2,3,4,5,6,7,8,9,10,11,12,13,14,15,16] [0,1,2,3,4,5,6,7,8,9,10,11,12,13,14,15,16] 13 14 [0,1] [8,9]]).g (kp h133)).g (EG h135)).w (cG h136)).a [.cn [2,3,41,42,43] [0,1,2,3,4,11,6]]).cs hΓ uT (yt aB y1 y3 y5 rY ((wP.map Node.c)++([[D.int .i64 lM.parent,D.int .i64 Oc.kind,D.str Oc.pat.rel,D.sl (Oc.pat.args.map tx),D.str Oc.left,D.str Oc.right,D.int .i64 lM.cP,D.sl (a3I.map aJ.c)]])) (IntKind.i64.wrap ((i2:Int)+1))) (by first| (simp only[iS hd2 hm2,mA]<;>rfl)| (simp only[iS hd2 hm2,mA,aE.c,aS.c,aN.c,Action.c,aO.c,aJ.c,cx.c,aP.c,Node.c,aF.c,cy.c]<;>rfl)) (ih2 (i2+1) (wP++([(⟨lM.parent,Oc,lM.cP,a3I⟩:Node)])) (dn hd2) h)
theorem sN{aB:aF}{r:aF}(h:kD aB=some r):Good prog 53 [D.agg (aF.c aB)] (D.agg [D.fr 105 4 (r.rules.map aO.c),D.fr 3 1 (r.ends.map dZ),D.fr 111 3 (r.ay.map aP.c),D.fr 118 8 (r.nodes.map Node.c),D.fr 53 2 (r.facts.map aE.c),D.int .i64 r.cK]):=by
 refine gd func53 [[some (105,4),some (3,1),some (111,3),some (118,8),some (53,2),none]] 65 fun hr Γ hΓ=>?_
 rw[kD]at h;obtain⟨y1,h2,h⟩:=aD h;obtain⟨y3,h4,h⟩:=aD h;obtain⟨y5,h6,h⟩:=aD h;refine(((((aU.a [.n 13]).g (yu h2)).g (GM h4)).g (dL h6)).a [.pb 5 2 111 3,.cn [1,2,3,21,22,23] [0,1,5,2,3,6,4]]).lp hΓ (EE hΓ (fun rY h=>?_) (by have:=(dS.sl (dS.agg (hr _ (aC (i:=0) rfl)) (.sl (aB.ay.map aP.c)) (by simp))).1;simpa using this) aB.ay 0 ([]:b8) rfl h);refine(aU.a [.pb 2 3 118 8,.cn [2,3,41,42,43] [1,2,3,4,5,7,6]]).lp hΓ (EF hΓ (fun vM h=>?_) (by have:=(dS.sl (dS.agg (hr _ (aC (i:=0) rfl)) (.sl (aB.nodes.map Node.c)) (by simp))).1;simpa using this) aB.nodes 0 ([]:az) rfl h);cases h;exact aU.ret hΓ
def fc(aB:Bytes)(k1:Option Bool):Nat->Int->Option Bool
 |0,_=>none
 |n1+1,nc=>(bif decide ((nc:Int)<(aB.length:Int))then((mC aB nc).bind fun b31=>(bif decide ((b31.toNat:Int)<97)then(bif decide ((b31.toNat:Int)<48)then(some false)else(bif decide ((b31.toNat:Int)>57)then(some false)else(fc aB k1 n1 (IntKind.i64.wrap (nc+1)))))else(bif decide ((b31.toNat:Int)>122)then(bif decide ((b31.toNat:Int)<48)then(some false)else(bif decide ((b31.toNat:Int)>57)then(some false)else(fc aB k1 n1 (IntKind.i64.wrap (nc+1)))))else(fc aB k1 n1 (IntKind.i64.wrap (nc+1))))))else(k1))
def fG(aB:Bytes):Option Bool:=(bif decide (((aB.length:Int):Int)<1)then(some false)else(bif decide (((aB.length:Int):Int)>8)then(some false)else(fc aB (some true) fuel 0)))
def Nz(aB:Bytes)(nc:Int):St:=⟨[(0,D.str aB),(3,D.int .i64 nc)],[]⟩
theorem MI(hΓ:Γ.nt=40){aB:Bytes}{r:Bool}{k1:Option Bool}(cX:k1=some r->Ax Γ N f191 (.q [[none]] (D.bool r)) [1,1,1] ⟨[],[]⟩):∀(n1:Nat) (nc:Int),fc aB k1 n1 nc=some r->Ar Γ N f191 (.q [[none]] (D.bool r)) [1,1,0,1,0] n1 (Nz aB nc):=by
 intro n
 induction n with
 |zero=>intro nc h;simp[fc]at h
 |succ n1 ih1=>
  intro nc h;rw[fc]at h;refine aM fun N1 bu bq=>?_
  obtain⟨h30,h⟩|⟨h30,h⟩:=aL h
  ·obtain⟨b31,h32,h⟩:=aD h;have AG:=((aU.b h30).c h32)
   obtain⟨h33,h⟩|⟨h33,h⟩:=aL h
   ·have D3:=((((AG.r 5 h33).T 3).c h32).T 2)
    obtain⟨h34,h⟩|⟨h34,h⟩:=aL h
    ·have h:=aG h;subst h;exact((((D3.r 4 h34).T 1).b h34).T 2).ret hΓ
    ·have Hw:=((((((D3.r 3 h34).c h32).b h34).T 1).b h34).T 1)
     obtain⟨h35,h⟩|⟨h35,h⟩:=aL h
     ·have h:=aG h;subst h;exact(Hw.b h35).ret hΓ
     ·exact((Hw.b h35).a [.cn [0,3] []]).cf hΓ bq (ih1 (IntKind.i64.wrap (nc+1)) h)
   ·have yc:=(((AG.r 3 h33).c h32).r 2 h33)
    obtain⟨h36,h⟩|⟨h36,h⟩:=aL h
    ·have Cv:=(((yc.r 3 h36).c h32).r 2 h36)
     obtain⟨h37,h⟩|⟨h37,h⟩:=aL h
     ·have h:=aG h;subst h;exact(((((Cv.r 4 h37).b h36).b h37).b h36).T 1).ret hΓ
     ·have BB:=((((((Cv.r 3 h37).c h32).b h37).b h36).b h37).b h36)
      obtain⟨h38,h⟩|⟨h38,h⟩:=aL h
      ·have h:=aG h;subst h;exact(BB.b h38).ret hΓ
      ·exact((BB.b h38).a [.cn [0,3] []]).cf hΓ bq (ih1 (IntKind.i64.wrap (nc+1)) h)
    ·exact(((yc.r 7 h36).F 1).a [bF,bF,bF,bF,.cn [0,3] []]).cf hΓ bq (ih1 (IntKind.i64.wrap (nc+1)) h)
  ·exact((aU.b h30).a [.hl 0 [] []]).ex hΓ bu (cX h)
theorem eU{aB:Bytes}{r:Bool}(h:fG aB=some r):Good prog 191 [D.str aB] (D.bool r):=by
 refine gd func191 [[none]] 40 fun hr Γ hΓ=>?_
 rw[fG]at h;obtain⟨h1,h⟩|⟨h1,h⟩:=aL h
 ·have h:=aG h;subst h;exact((aU.r 4 h1).T 1).ret hΓ
 ·have Hu:=(aU.r 4 h1)
  obtain⟨h2,h⟩|⟨h2,h⟩:=aL h
  ·have h:=aG h;subst h;exact(Hu.b h2).ret hΓ
  ·refine((Hu.b h2).a [.cn [0,3] []]).lp hΓ (MI hΓ (fun h=>?_) fuel 0 h);have h:=aG h;subst h;exact aU.ret hΓ
def rJ(aB:Bytes):Option Bool:=((fG aB).bind fun y1=>(bif y1 then((mC aB 0).bind fun b4=>(some (decide ((b4.toNat:Int)>=97))))else(some false)))
theorem mj{aB:Bytes}{r:Bool}(h:rJ aB=some r):Good prog 211 [D.str aB] (D.bool r):=by
 refine gd func211 [[none]] 10 fun hr Γ hΓ=>?_
 rw[rJ]at h;obtain⟨y1,h2,h⟩:=aD h;obtain⟨h3,h⟩|⟨h3,h⟩:=aL h
 ·obtain⟨b4,h5,h⟩:=aD h;cases h;exact((((aU.g (eU h2)).r 2 h3).c h5).r 2 h3).ret hΓ
 ·have h:=aG h;subst h;exact((aU.g (eU h2)).r 4 h3).ret hΓ
def lR(aB:Bytes):Option Bool:=(bif decide (((aB.length:Int):Int)>1)then((mC aB 0).bind fun b2=>(bif (b2.toNat:Int)==63 then((Cw aB.length (some (D.int .i64 1)) none).bind fun p=>(fun l5 u6=>((fG ((aB.take u6).drop l5)).bind fun y8=>(some y8))) p.1 p.2)else(some false)))else(some false))
theorem o7{aB:Bytes}{r:Bool}(h:lR aB=some r):Good prog 192 [D.str aB] (D.bool r):=by
 refine gd func192 [[none]] 16 fun hr Γ hΓ=>?_
 rw[lR]at h;obtain⟨h1,h⟩|⟨h1,h⟩:=aL h
 ·obtain⟨b2,h3,h⟩:=aD h;have jz:=(((aU.r 2 h1).c h3).r 2 h1)
  obtain⟨h4,h⟩|⟨h4,h⟩:=aL h
  ·obtain⟨⟨l5,u6⟩,h7,h⟩:=aD h;obtain⟨y8,h9,h⟩:=aD h;have h:=aG h;subst h;exact((((((jz.r 2 h4).w h7).a [.cut l5 u6]).b h4).g (eU h9)).b h4).ret hΓ
  ·have h:=aG h;subst h;exact(jz.r 4 h4).ret hΓ
 ·have h:=aG h;subst h;exact((aU.r 4 h1).F 4).ret hΓ
def j3(aB:Bytes):Option Bool:=((fG aB).bind fun y1=>(bif y1 then(some true)else((lR aB).bind fun y4=>(some y4))))
theorem kA{aB:Bytes}{r:Bool}(h:j3 aB=some r):Good prog 262 [D.str aB] (D.bool r):=by
 refine gd func262 [[none]] 9 fun hr Γ hΓ=>?_
 rw[j3]at h;obtain⟨y1,h2,h⟩:=aD h;obtain⟨h3,h⟩|⟨h3,h⟩:=aL h
 ·have h:=aG h;subst h;exact((aU.g (eU h2)).r 3 h3).ret hΓ
 ·obtain⟨y4,h5,h⟩:=aD h;have h:=aG h;subst h;exact((((aU.g (eU h2)).r 2 h3).g (o7 h5)).b h3).ret hΓ
def mE(aB:aE)(k1:Option Bool):aI->Nat->Option Bool
 | [],i1=>(k1)
 |bD::bn,i1=>((j3 bD).bind fun Xg=>(bif !(Xg)then(some false)else(mE aB k1 bn (i1+1))))
def jA(aB:aE):Option Bool:=((rJ aB.rel).bind fun y1=>(bif !(y1)then(some false)else(bif decide ((((aB.args.map tx).length:Int):Int)>3)then(some false)else(mE aB (some true) aB.args 0))))
def IV(aB:aE)(cS:Int):St:=⟨[(16,D.sl (aB.args.map tx)),(17,D.int .i64 ((aB.args.map tx).length:Int)),(18,D.int .i64 cS)],[]⟩
theorem GG(hΓ:Γ.nt=26){aB:aE}{r:Bool}{k1:Option Bool}(cX:k1=some r->Ax Γ N f261 (.q [[none]] (D.bool r)) [1,1,1] ⟨[],[]⟩)(hm1:aB.args.length<=maxLen):∀(rest:aI) (i1:Nat),aB.args.drop i1=rest->mE aB k1 rest i1=some r->Ar Γ N f261 (.q [[none]] (D.bool r)) [1,1,0,1,0] (rest.length+1) (IV aB (i1:Int)):=by
 intro rest
 induction rest with
 |nil=>
  intro i1 aq h;rw[mE]at h;refine aM fun N1 bu bq=>?_
  exact((aU.ge tx aq).a [.hl 0 [] []]).ex hΓ bu (cX h)
 |cons bD bn ih1=>
  intro i1 aq h;rw[mE]at h;refine aM fun N1 bu bq=>?_
  obtain⟨Xg,h26,h⟩:=aD h;have dJ:=(((aU.lt tx aq).l (ax tx 1 (dc aq) rfl)).g (kA h26))
  obtain⟨h27,h⟩|⟨h27,h⟩:=aL h
  ·have h:=aG h;subst h;exact(dJ.b h27).ret hΓ
  ·exact((dJ.b h27).a [.cn [16,17,18] []]).ct hΓ bq (iS aq hm1) (ih1 (i1+1) (dn aq) h)
theorem jo{aB:aE}{r:Bool}(h:jA aB=some r):Good prog 261 [D.agg (aE.c aB)] (D.bool r):=by
 refine gd func261 [[none]] 26 fun hr Γ hΓ=>?_
 rw[jA]at h;obtain⟨y1,h2,h⟩:=aD h;obtain⟨h3,h⟩|⟨h3,h⟩:=aL h
 ·have h:=aG h;subst h;exact(((aU.g (mj h2)).r 5 h3).T 1).ret hΓ
 ·have kT:=((aU.g (mj h2)).r 5 h3)
  obtain⟨h4,h⟩|⟨h4,h⟩:=aL h
  ·have h:=aG h;subst h;exact(kT.b h4).ret hΓ
  ·refine((kT.b h4).a [.cn [16,17,18] []]).lp hΓ (GG hΓ (fun h=>?_) (by have:=(dS.sl (dS.agg (hr _ (aC (i:=0) rfl)) (.sl (aB.args.map tx)) (by simp))).1;simpa using this) aB.args 0 rfl h);have h:=aG h;subst h;exact aU.ret hΓ
def iY(aB:aE):Option Bool:=(bif (aB.rel:Bytes)==([])then(some ((((aB.args.map tx).length:Int):Int)==0))else(some false))
theorem oC{aB:aE}{r:Bool}(h:iY aB=some r):Good prog 263 [D.agg (aE.c aB)] (D.bool r):=by
 refine gd func263 [[none]] 12 fun hr Γ hΓ=>?_
 rw[iY]at h;obtain⟨h1,h⟩|⟨h1,h⟩:=aL h
 ·cases h;exact(aU.r 5 h1).ret hΓ
 ·have h:=aG h;subst h;exact(aU.r 5 h1).ret hΓ
def rH(aB:aN):Option Bool:=(bif (aB.kind:Int)==1 then((jA aB.pat).bind fun y2=>(bif y2 then(bif (aB.left:Bytes)==([])then(some ((aB.right:Bytes)==([])))else(some false))else(some false)))else(bif (aB.kind:Int)==2 then((jA aB.pat).bind fun y7=>(bif y7 then(bif (aB.left:Bytes)==([])then(some ((aB.right:Bytes)==([])))else(some false))else(some false)))else(bif (aB.kind:Int)==3 then((j3 aB.left).bind fun y12=>(bif y12 then((j3 aB.right).bind fun Vp=>(bif Vp then((iY aB.pat).bind fun y18=>(some y18))else(some false)))else(some false)))else(bif (aB.kind:Int)==4 then((j3 aB.left).bind fun RE=>(bif RE then((j3 aB.right).bind fun Rf=>(bif Rf then((iY aB.pat).bind fun pM=>(some pM))else(some false)))else(some false)))else(bif (aB.kind:Int)==5 then((j3 aB.left).bind fun y30=>(bif y30 then((j3 aB.right).bind fun BL=>(bif BL then((iY aB.pat).bind fun I5=>(some I5))else(some false)))else(some false)))else(some false))))))
theorem pq{aB:aN}{r:Bool}(h:rH aB=some r):Good prog 212 [D.agg (aN.c aB)] (D.bool r):=by
 refine gd func212 [[none]] 38 fun hr Γ hΓ=>?_
 rw[rH]at h;obtain⟨h1,h⟩|⟨h1,h⟩:=aL h
 ·obtain⟨y2,h3,h⟩:=aD h;have jz:=((aU.r 2 h1).g (jo h3))
  obtain⟨h4,h⟩|⟨h4,h⟩:=aL h
  ·have dJ:=(jz.r 4 h4)
   obtain⟨h5,h⟩|⟨h5,h⟩:=aL h
   ·cases h;exact(dJ.r 4 h5).ret hΓ
   ·have h:=aG h;subst h;exact(dJ.r 4 h5).ret hΓ
  ·have h:=aG h;subst h;exact((jz.r 4 h4).F 4).ret hΓ
 ·obtain⟨h6,h⟩|⟨h6,h⟩:=aL h
  ·obtain⟨y7,h8,h⟩:=aD h;have kT:=(((aU.b h1).b h6).g (jo h8))
   obtain⟨h9,h⟩|⟨h9,h⟩:=aL h
   ·have jN:=(kT.r 4 h9)
    obtain⟨h10,h⟩|⟨h10,h⟩:=aL h
    ·cases h;exact(jN.r 4 h10).ret hΓ
    ·have h:=aG h;subst h;exact(jN.r 4 h10).ret hΓ
   ·have h:=aG h;subst h;exact((kT.r 4 h9).F 4).ret hΓ
  ·have uY:=((aU.b h1).b h6)
   obtain⟨h11,h⟩|⟨h11,h⟩:=aL h
   ·obtain⟨y12,h13,h⟩:=aD h;have wX:=((uY.r 2 h11).g (kA h13))
    obtain⟨h14,h⟩|⟨h14,h⟩:=aL h
    ·obtain⟨Vp,h16,h⟩:=aD h;have AG:=(((wX.r 3 h14).g (kA h16)).b h14)
     obtain⟨h17,h⟩|⟨h17,h⟩:=aL h
     ·obtain⟨y18,h19,h⟩:=aD h;have h:=aG h;subst h;exact(((AG.r 3 h17).g (oC h19)).b h17).ret hΓ
     ·have h:=aG h;subst h;exact(AG.r 4 h17).ret hΓ
    ·have h:=aG h;subst h;exact((wX.r 4 h14).F 4).ret hΓ
   ·obtain⟨h20,h⟩|⟨h20,h⟩:=aL h
    ·obtain⟨RE,h22,h⟩:=aD h;have D3:=(((uY.b h11).r 2 h20).g (kA h22))
     obtain⟨h23,h⟩|⟨h23,h⟩:=aL h
     ·obtain⟨Rf,h25,h⟩:=aD h;have Hw:=(((D3.r 3 h23).g (kA h25)).b h23)
      obtain⟨h26,h⟩|⟨h26,h⟩:=aL h
      ·obtain⟨pM,h28,h⟩:=aD h;have h:=aG h;subst h;exact(((Hw.r 3 h26).g (oC h28)).b h26).ret hΓ
      ·have h:=aG h;subst h;exact(Hw.r 4 h26).ret hΓ
     ·have h:=aG h;subst h;exact((D3.r 4 h23).F 4).ret hΓ
    ·have yc:=((uY.b h11).b h20)
     obtain⟨h29,h⟩|⟨h29,h⟩:=aL h
     ·obtain⟨y30,h31,h⟩:=aD h;have Cv:=((yc.b h29).g (kA h31))
      obtain⟨h32,h⟩|⟨h32,h⟩:=aL h
      ·obtain⟨BL,h34,h⟩:=aD h;have BB:=(((Cv.r 3 h32).g (kA h34)).b h32)
       obtain⟨h35,h⟩|⟨h35,h⟩:=aL h
       ·obtain⟨I5,h37,h⟩:=aD h;have h:=aG h;subst h;exact(((BB.r 3 h35).g (oC h37)).b h35).ret hΓ
       ·have h:=aG h;subst h;exact(BB.r 4 h35).ret hΓ
      ·have h:=aG h;subst h;exact((Cv.r 4 h32).F 4).ret hΓ
     ·have h:=aG h;subst h;exact(yc.b h29).ret hΓ
def fU(aB:aI)(k1:aI->Option aI):aI->Nat->aI->Option aI
 | [],i1,bC=>(k1 bC)
 |bD::bn,i1,bC=>((lR bD).bind fun Dt=>(bif Dt then(bif room ((bC.map tx).length+([[D.str bD]]).length) 16 then(fU aB k1 bn (i1+1) (bC++([bD])))else none)else(fU aB k1 bn (i1+1) bC)))
def n7(aB:aI):Option aI:=(fU aB (fun(bO:aI)=>(some bO)) aB 0 ([]:aI))
def Aj(aB:aI)(W0:List aR)(cS:Int):St:=⟨[(3,D.acc 0),(6,D.sl (aB.map tx)),(7,D.int .i64 ((aB.map tx).length:Int)),(8,D.int .i64 cS)],[Ob.row .uq 9 1 W0]⟩
theorem GZ(hΓ:Γ.nt=20){aB:aI}{r:aI}{k1:aI->Option aI}(cX:∀(bO:aI),k1 bO=some r->Ax Γ N f216 (.q [[some (9,1)]] (D.fr 9 1 (r.map tx))) [1,1,1] ⟨[(3,D.acc 0)],[Ob.row .uq 9 1 (bO.map tx)]⟩)(hm1:aB.length<=maxLen):∀(rest:aI) (i1:Nat) (bC:aI),aB.drop i1=rest->fU aB k1 rest i1 bC=some r->Ar Γ N f216 (.q [[some (9,1)]] (D.fr 9 1 (r.map tx))) [1,1,0,1,0] (rest.length+1) (Aj aB (bC.map tx) (i1:Int)):=by
 intro rest
 induction rest with
 |nil=>
  intro i1 bC aq h;rw[fU]at h;refine aM fun N1 bu bq=>?_
  exact((aU.ge tx aq).a [.hl 0 [3] [0]]).ex hΓ bu (cX bC h)
 |cons bD bn ih1=>
  intro i1 bC aq h;rw[fU]at h;refine aM fun N1 bu bq=>?_
  obtain⟨Dt,h33,h⟩:=aD h;have dJ:=(((aU.lt tx aq).l (ax tx 1 (dc aq) rfl)).g (o7 h33))
  obtain⟨h34,h⟩|⟨h34,h⟩:=aL h
  ·obtain⟨h35,h⟩:=bX h;exact(((dJ.b h34).w (cG h35)).a [.cn [3,6,7,8] [2]]).cs hΓ bq (Aj aB ((bC.map tx)++([[D.str bD]])) (IntKind.i64.wrap ((i1:Int)+1))) (by first| (simp only[iS aq hm1,mA]<;>rfl)| (simp only[iS aq hm1,mA,aE.c,aS.c,aN.c,Action.c,aO.c,aJ.c,cx.c,aP.c,Node.c,aF.c,cy.c]<;>rfl)) (ih1 (i1+1) (bC++([bD])) (dn aq) h)
  ·exact((dJ.b h34).a [.cn [3,6,7,8] [0]]).ct hΓ bq (iS aq hm1) (ih1 (i1+1) bC (dn aq) h)
theorem vE{aB:aI}{r:aI}(h:n7 aB=some r):Good prog 216 [D.sl (aB.map tx)] (D.fr 9 1 (r.map tx)):=by
 refine gd func216 [[some (9,1)]] 20 fun hr Γ hΓ=>?_
 rw[n7]at h;refine(aU.a [.PT 3,.cn [3,6,7,8] [0]]).lp hΓ (GZ hΓ (fun bO h=>?_) (by have:=(dS.sl (hr _ (aC (i:=0) rfl))).1;simpa using this) aB 0 ([]:aI) rfl h);have h:=aG h;subst h;exact aU.ret hΓ
def dh(aB:aI)(k1:aI->Option aI):aI->Nat->aI->Option aI
 | [],i1,cB=>(k1 cB)
 |bD::bn,i1,cB=>(bif ((i1:Int):Int)==0 then(bif room ((cB.map tx).length+([[D.str bD]]).length) 16 then(dh aB k1 bn (i1+1) (cB++([bD])))else none)else((mC (oT (([]:aI)++aB)) (IntKind.i64.wrap ((i1:Int)-1))).bind fun x47=>(bif !((x47:Bytes)==bD)then(bif room ((cB.map tx).length+([[D.str bD]]).length) 16 then(dh aB k1 bn (i1+1) (cB++([bD])))else none)else(dh aB k1 bn (i1+1) cB))))
def kC(aB:aI):Option aI:=(bif room (([]:List aR).length+(aB.map tx).length) 16 then(bif decide ((([]:aI)++aB).length<4611686018427387904)then(bif decide ((oT (([]:aI)++aB)).length<=maxLen)then(dh aB (fun(bO:aI)=>(some bO)) (oT (([]:aI)++aB)) 0 ([]:aI))else none)else none)else none)
def vB(aB:aI)(W0:List aR)(cS:Int):St:=⟨[(3,D.acc 0),(4,D.acc 1),(11,D.acc 0),(12,D.int .i64 (((oT (([]:aI)++aB)).map tx).length:Int)),(13,D.int .i64 cS)],[Ob.row .uq 9 1 ((oT (([]:aI)++aB)).map tx),Ob.row .uq 9 1 W0]⟩
theorem EC(hΓ:Γ.nt=35){aB:aI}{r:aI}{k1:aI->Option aI}(cX:∀(bO:aI),k1 bO=some r->Ax Γ N f218 (.q [[some (9,1)]] (D.fr 9 1 (r.map tx))) [1,1,1,1,1] ⟨[(4,D.acc 0)],[Ob.row .uq 9 1 (bO.map tx)]⟩)(hm1:(oT (([]:aI)++aB)).length<=maxLen):∀(rest:aI) (i1:Nat) (cB:aI),(oT (([]:aI)++aB)).drop i1=rest->dh aB k1 rest i1 cB=some r->Ar Γ N f218 (.q [[some (9,1)]] (D.fr 9 1 (r.map tx))) [1,1,1,1,0,1,0] (rest.length+1) (vB aB (cB.map tx) (i1:Int)):=by
 intro rest
 induction rest with
 |nil=>
  intro i1 cB aq h;rw[dh]at h;refine aM fun N1 bu bq=>?_
  exact((aU.ge tx aq).a [.hl 0 [4] [1]]).ex hΓ bu (cX cB h)
 |cons bD bn ih1=>
  intro i1 cB aq h;rw[dh]at h;refine aM fun N1 bu bq=>?_
  have kT:=(((aU.lt tx aq).i (p9 tx 1 (dc aq))).o 1 1 .uq (dB tx (dc aq)))
  obtain⟨h45,h⟩|⟨h45,h⟩:=aL h
  ·obtain⟨h46,h⟩:=bX h;exact((((kT.r 8 h45).T 1).w (cG h46)).a [.cn [3,4,11,12,13] [0,3]]).cs hΓ bq (vB aB ((cB.map tx)++([[D.str bD]])) (IntKind.i64.wrap ((i1:Int)+1))) (by first| (simp only[iS aq hm1,mA]<;>rfl)| (simp only[iS aq hm1,mA,aE.c,aS.c,aN.c,Action.c,aO.c,aJ.c,cx.c,aP.c,Node.c,aF.c,cy.c]<;>rfl)) (ih1 (i1+1) (cB++([bD])) (dn aq) h)
  ·obtain⟨x47,h48,h⟩:=aD h;have jN:=(((((kT.r 4 h45).i (xj tx 1 h48)).b h45).o 1 1 .uq (dB tx (tR h48))).r 3 h45)
   obtain⟨h49,h⟩|⟨h49,h⟩:=aL h
   ·obtain⟨h50,h⟩:=bX h;exact(((jN.b h49).w (cG h50)).a [.cn [3,4,11,12,13] [0,3]]).cs hΓ bq (vB aB ((cB.map tx)++([[D.str bD]])) (IntKind.i64.wrap ((i1:Int)+1))) (by first| (simp only[iS aq hm1,mA]<;>rfl)| (simp only[iS aq hm1,mA,aE.c,aS.c,aN.c,Action.c,aO.c,aJ.c,cx.c,aP.c,Node.c,aF.c,cy.c]<;>rfl)) (ih1 (i1+1) (cB++([bD])) (dn aq) h)
   ·exact((jN.b h49).a [.cn [3,4,11,12,13] [0,1]]).ct hΓ bq (iS aq hm1) (ih1 (i1+1) cB (dn aq) h)
theorem sK{aB:aI}{r:aI}(h:kC aB=some r):Good prog 218 [D.sl (aB.map tx)] (D.fr 9 1 (r.map tx)):=by
 refine gd func218 [[some (9,1)]] 35 fun hr Γ hΓ=>?_
 rw[kC]at h;obtain⟨h1,h⟩:=bX h;obtain⟨h2,h⟩:=bX h;obtain⟨h51,h⟩:=bX h;refine(((((aU.w (cG h1)).w (show(∀r∈(aB.map tx),r.length=1)/\(true=true->D.nr (aB.map tx)=true)from⟨by first|simp| (intro r hr;obtain⟨x,_,rfl⟩:=cH.1 (cF (gB hr));rfl),by simp[D.nr,D.flat]⟩)).w (show(([]:List aR)++(aB.map tx)).flatten.all D.flat=true from by simpa only[bS,bG,bV]using Ui (([]:aI)++aB))).w (show U9 prog 266 9 1 (([]:List aR)++(aB.map tx)) ((oT (([]:aI)++aB)).map tx)from by simpa only[bS,bG,bV]using(JN (e:=9) (bt h2)))).a [.fl true,.mu 0 ((oT (([]:aI)++aB)).map tx),.PT 4,.cn [3,4,11,12,13] [0,1]]).lp hΓ (EC hΓ (fun bO h=>?_) (bt h51) (oT (([]:aI)++aB)) 0 ([]:aI) rfl h);have h:=aG h;subst h;exact aU.ret hΓ
def ec(aB:aO)(aV:Int)(k1:aI->Option aI):aj->Nat->aI->Option aI
 | [],i1,bC=>(k1 bC)
 |bD::bn,i1,bC=>(bif decide (((i1:Int):Int)<aV)then(bif (bD.kind:Int)==1 then((n7 bD.pat.args).bind fun RF=>(bif room ((bC.map tx).length+(RF.map tx).length) 16 then(ec aB aV k1 bn (i1+1) (bC++RF))else none))else(ec aB aV k1 bn (i1+1) bC))else(ec aB aV k1 bn (i1+1) bC))
def pO(aB:aO)(aV:Int):Option aI:=(ec aB aV (fun(bO:aI)=>((kC bO).bind fun Yl=>(some Yl))) aB.conds 0 ([]:aI))
def Ad(aB:aO)(aV:Int)(W0:List aR)(cS:Int):St:=⟨[(1,D.int .i64 aV),(5,D.acc 0),(9,D.sl (aB.conds.map aN.c)),(10,D.int .i64 ((aB.conds.map aN.c).length:Int)),(11,D.int .i64 cS)],[Ob.row .uq 9 1 W0]⟩
theorem GA(hΓ:Γ.nt=33){aB:aO}{aV:Int}{r:aI}{k1:aI->Option aI}(cX:∀(bO:aI),k1 bO=some r->Ax Γ N f214 (.q [[some (9,1)]] (D.fr 9 1 (r.map tx))) [1,1,1] ⟨[(5,D.acc 0)],[Ob.row .uq 9 1 (bO.map tx)]⟩)(hm1:aB.conds.length<=maxLen):∀(rest:aj) (i1:Nat) (bC:aI),aB.conds.drop i1=rest->ec aB aV k1 rest i1 bC=some r->Ar Γ N f214 (.q [[some (9,1)]] (D.fr 9 1 (r.map tx))) [1,1,0,1,0] (rest.length+1) (Ad aB aV (bC.map tx) (i1:Int)):=by
 intro rest
 induction rest with
 |nil=>
  intro i1 bC aq h;rw[ec]at h;refine aM fun N1 bu bq=>?_
  exact((aU.ge aN.c aq).a [.hl 0 [5] [0]]).ex hΓ bu (cX bC h)
 |cons bD bn ih1=>
  intro i1 bC aq h;rw[ec]at h;refine aM fun N1 bu bq=>?_
  have kT:=((aU.lt aN.c aq).l (ax aN.c 5 (dc aq) rfl))
  obtain⟨h37,h⟩|⟨h37,h⟩:=aL h
  ·have jN:=(kT.r 4 h37)
   obtain⟨h38,h⟩|⟨h38,h⟩:=aL h
   ·obtain⟨RF,h40,h⟩:=aD h;obtain⟨h41,h⟩:=bX h;exact((((jN.b h38).g (vE h40)).w (cG h41)).a [.cn [1,5,9,10,11] [3]]).cs hΓ bq (Ad aB aV ((bC.map tx)++(RF.map tx)) (IntKind.i64.wrap ((i1:Int)+1))) (by first| (simp only[iS aq hm1,mA]<;>rfl)| (simp only[iS aq hm1,mA,aE.c,aS.c,aN.c,Action.c,aO.c,aJ.c,cx.c,aP.c,Node.c,aF.c,cy.c]<;>rfl)) (ih1 (i1+1) (bC++RF) (dn aq) h)
   ·exact((jN.b h38).a [.cn [1,5,9,10,11] [0]]).ct hΓ bq (iS aq hm1) (ih1 (i1+1) bC (dn aq) h)
  ·exact(((kT.r 4 h37).F 1).a [.cn [1,5,9,10,11] [0]]).ct hΓ bq (iS aq hm1) (ih1 (i1+1) bC (dn aq) h)
theorem ym{aB:aO}{aV:Int}{r:aI}(h:pO aB aV=some r):Good prog 214 [D.agg (aO.c aB),D.int .i64 aV] (D.fr 9 1 (r.map tx)):=by
 refine gd func214 [[some (9,1)]] 33 fun hr Γ hΓ=>?_
 rw[pO]at h;refine(aU.a [.PT 5,.cn [1,5,9,10,11] [1]]).lp hΓ (GA hΓ (fun bO h=>?_) (by have:=(dS.sl (dS.agg (hr _ (aC (i:=0) rfl)) (.sl (aB.conds.map aN.c)) (by simp))).1;simpa using this) aB.conds 0 ([]:aI) rfl h);obtain⟨Yl,h43,h⟩:=aD h;have h:=aG h;subst h;exact(aU.g (sK h43)).ret hΓ
def sS(aB:aN):Option aI:=((mr aB.pat.args).bind fun y1=>(bif room ((y1.map tx).length+(([aB.left,aB.right]:aI).map tx).length) 16 then(some (y1++([aB.left,aB.right]:aI)))else none))
theorem Ai{aB:aN}{r:aI}(h:sS aB=some r):Good prog 189 [D.agg (aN.c aB)] (D.fr 9 1 (r.map tx)):=by
 refine gd func189 [[some (9,1)]] 13 fun hr Γ hΓ=>?_
 rw[sS]at h;obtain⟨y1,h2,h⟩:=aD h;obtain⟨h3,h⟩:=bX h;cases h;exact(((aU.a [.PT 2,.n 9]).g (vD h2)).w (cG h3)).rts hΓ (D.fr 9 1 ((y1.map tx)++(([aB.left,aB.right]:aI).map tx))) (by first|rfl| (simp only[mA]<;>rfl)| (simp only[cU,mA]<;>rfl))
def oV(aB:aN):Option aI:=((sS aB).bind fun y1=>((n7 y1).bind fun y3=>((kC y3).bind fun y5=>(some y5))))
theorem vb{aB:aN}{r:aI}(h:oV aB=some r):Good prog 264 [D.agg (aN.c aB)] (D.fr 9 1 (r.map tx)):=by
 refine gd func264 [[some (9,1)]] 7 fun hr Γ hΓ=>?_
 rw[oV]at h;obtain⟨y1,h2,h⟩:=aD h;obtain⟨y3,h4,h⟩:=aD h;obtain⟨y5,h6,h⟩:=aD h;have h:=aG h;subst h;exact(((aU.g (Ai h2)).g (vE h4)).g (sK h6)).ret hΓ
def lW(aB:aI)(aV:Bytes)(k1:Option Bool):aI->Nat->Option Bool
 | [],i1=>(k1)
 |bD::bn,i1=>(bif (bD:Bytes)==aV then(some true)else(lW aB aV k1 bn (i1+1)))
def lV(aB:aI)(aV:Bytes):Option Bool:=(lW aB aV (some false) aB 0)
def MT(aB:aI)(aV:Bytes)(cS:Int):St:=⟨[(1,D.str aV),(7,D.sl (aB.map tx)),(8,D.int .i64 ((aB.map tx).length:Int)),(9,D.int .i64 cS)],[]⟩
theorem Kc(hΓ:Γ.nt=17){aB:aI}{aV:Bytes}{r:Bool}{k1:Option Bool}(cX:k1=some r->Ax Γ N f217 (.q [[none]] (D.bool r)) [1,1] ⟨[],[]⟩)(hm1:aB.length<=maxLen):∀(rest:aI) (i1:Nat),aB.drop i1=rest->lW aB aV k1 rest i1=some r->Ar Γ N f217 (.q [[none]] (D.bool r)) [1,0,1,0] (rest.length+1) (MT aB aV (i1:Int)):=by
 intro rest
 induction rest with
 |nil=>
  intro i1 aq h;rw[lW]at h;refine aM fun N1 bu bq=>?_
  exact((aU.ge tx aq).a [.hl 0 [] []]).ex hΓ bu (cX h)
 |cons bD bn ih1=>
  intro i1 aq h;rw[lW]at h;refine aM fun N1 bu bq=>?_
  have dJ:=((aU.lt tx aq).l (ax tx 1 (dc aq) rfl))
  obtain⟨h13,h⟩|⟨h13,h⟩:=aL h
  ·have h:=aG h;subst h;exact(dJ.b h13).ret hΓ
  ·exact((dJ.b h13).a [.cn [1,7,8,9] []]).ct hΓ bq (iS aq hm1) (ih1 (i1+1) (dn aq) h)
theorem s7{aB:aI}{aV:Bytes}{r:Bool}(h:lV aB aV=some r):Good prog 217 [D.sl (aB.map tx),D.str aV] (D.bool r):=by
 refine gd func217 [[none]] 17 fun hr Γ hΓ=>?_
 rw[lV]at h;refine(aU.a [.cn [1,7,8,9] []]).lp hΓ (Kc hΓ (fun h=>?_) (by have:=(dS.sl (hr _ (aC (i:=0) rfl))).1;simpa using this) aB 0 rfl h);have h:=aG h;subst h;exact aU.ret hΓ
def eD(aB:aO)(aV:Int)(cV:Bytes)(k1:Option Bool):aj->Nat->Option Bool
 | [],i1=>(k1)
 |bD::bn,i1=>(bif ((i1:Int):Int) != aV then((oV bD).bind fun Fy=>((lV Fy cV).bind fun I5=>(bif I5 then(some true)else(eD aB aV cV k1 bn (i1+1)))))else(eD aB aV cV k1 bn (i1+1)))
def eg(aB:aO)(cV:Bytes)(k2:Option Bool):bw->Nat->Option Bool
 | [],i2=>(k2)
 |lM::wF,i2=>((lV lM.pat.args cV).bind fun y59=>(bif y59 then(some true)else(eg aB cV k2 wF (i2+1))))
def lX(aB:aO)(aV:Int)(cV:Bytes):Option Bool:=(eD aB aV cV (eg aB cV (some false) aB.cr 0) aB.conds 0)
def CI(aB:aO)(aV:Int)(cV:Bytes)(cS:Int):St:=⟨[(1,D.int .i64 aV),(2,D.str cV),(3,D.ptr 0 0),(12,D.sl (aB.conds.map aN.c)),(13,D.int .i64 ((aB.conds.map aN.c).length:Int)),(14,D.int .i64 cS)],[Ob.box (aO.c aB)]⟩
theorem Bg(hΓ:Γ.nt=42){aB:aO}{aV:Int}{cV:Bytes}{r:Bool}{k1:Option Bool}(cX:k1=some r->Ax Γ N f265 (.q [[none]] (D.bool r)) [1,1] ⟨[(2,D.str cV),(3,D.ptr 0 0)],[Ob.box (aO.c aB)]⟩)(hm1:aB.conds.length<=maxLen):∀(rest:aj) (i1:Nat),aB.conds.drop i1=rest->eD aB aV cV k1 rest i1=some r->Ar Γ N f265 (.q [[none]] (D.bool r)) [1,0,1,0] (rest.length+1) (CI aB aV cV (i1:Int)):=by
 intro rest
 induction rest with
 |nil=>
  intro i1 aq h;rw[eD]at h;refine aM fun N1 bu bq=>?_
  exact((aU.ge aN.c aq).a [.hl 0 [2,3] [0]]).ex hΓ bu (cX h)
 |cons bD bn ih1=>
  intro i1 aq h;rw[eD]at h;refine aM fun N1 bu bq=>?_
  have jN:=((aU.lt aN.c aq).l (ax aN.c 5 (dc aq) rfl))
  obtain⟨h33,h⟩|⟨h33,h⟩:=aL h
  ·obtain⟨Fy,h35,h⟩:=aD h;obtain⟨I5,h37,h⟩:=aD h;have uY:=(((((jN.r 2 h33).g (vb h35)).r 2 h33).g (s7 h37)).b h33)
   obtain⟨h38,h⟩|⟨h38,h⟩:=aL h
   ·have h:=aG h;subst h;exact(uY.b h38).ret hΓ
   ·exact((uY.b h38).a [.cn [1,2,3,12,13,14] [0]]).ct hΓ bq (iS aq hm1) (ih1 (i1+1) (dn aq) h)
  ·exact(((jN.r 5 h33).F 1).a [.cn [1,2,3,12,13,14] [0]]).ct hΓ bq (iS aq hm1) (ih1 (i1+1) (dn aq) h)
def CJ(aB:aO)(cV:Bytes)(cS:Int):St:=⟨[(2,D.str cV),(30,D.sl (aB.cr.map Action.c)),(31,D.int .i64 ((aB.cr.map Action.c).length:Int)),(32,D.int .i64 cS)],[]⟩
theorem Bh(hΓ:Γ.nt=42){aB:aO}{cV:Bytes}{r:Bool}{k2:Option Bool}(CV:k2=some r->Ax Γ N f265 (.q [[none]] (D.bool r)) [1,1,1] ⟨[],[]⟩)(hm2:aB.cr.length<=maxLen):∀(rest:bw) (i2:Nat),aB.cr.drop i2=rest->eg aB cV k2 rest i2=some r->Ar Γ N f265 (.q [[none]] (D.bool r)) [1,1,0,1,0] (rest.length+1) (CJ aB cV (i2:Int)):=by
 intro rest
 induction rest with
 |nil=>
  intro i2 hd2 h;rw[eg]at h;refine aM fun N2 xM uT=>?_
  exact((aU.ge Action.c hd2).a [.hl 0 [] []]).ex hΓ xM (CV h)
 |cons lM wF ih2=>
  intro i2 hd2 h;rw[eg]at h;refine aM fun N2 xM uT=>?_
  obtain⟨y59,h60,h⟩:=aD h;have wX:=(((aU.lt Action.c hd2).l (ax Action.c 3 (dc hd2) rfl)).g (s7 h60))
  obtain⟨h61,h⟩|⟨h61,h⟩:=aL h
  ·have h:=aG h;subst h;exact(wX.b h61).ret hΓ
  ·exact((wX.b h61).a [.cn [2,30,31,32] []]).ct hΓ uT (iS hd2 hm2) (ih2 (i2+1) (dn hd2) h)
theorem B6{aB:aO}{aV:Int}{cV:Bytes}{r:Bool}(h:lX aB aV cV=some r):Good prog 265 [D.agg (aO.c aB),D.int .i64 aV,D.str cV] (D.bool r):=by
 refine gd func265 [[none]] 42 fun hr Γ hΓ=>?_
 rw[lX]at h;refine(aU.a [.cn [1,2,3,12,13,14] [0]]).lp hΓ (Bg hΓ (fun h=>?_) (by have:=(dS.sl (dS.agg (hr _ (aC (i:=0) rfl)) (.sl (aB.conds.map aN.c)) (by simp))).1;simpa using this) aB.conds 0 rfl h);refine(aU.a [.cn [2,30,31,32] []]).lp hΓ (Bh hΓ (fun h=>?_) (by have:=(dS.sl (dS.agg (hr _ (aC (i:=0) rfl)) (.sl (aB.cr.map Action.c)) (by simp))).1;simpa using this) aB.cr 0 rfl h);have h:=aG h;subst h;exact aU.ret hΓ
def gN(aB:aO)(aV:Int)(x1:aN)(y3:aI)(y5:aI)(k1:Option Bool):aI->Nat->Option Bool
 | [],i1=>(k1)
 |bD::bn,i1=>(bif (x1.kind:Int)==1 then(gN aB aV x1 y3 y5 k1 bn (i1+1))else((lV y3 bD).bind fun Ju=>(bif Ju then(gN aB aV x1 y3 y5 k1 bn (i1+1))else(bif (x1.kind:Int) != 2 then(some false)else((lX aB aV bD).bind fun y53=>(bif y53 then(some false)else(gN aB aV x1 y3 y5 k1 bn (i1+1))))))))
def qY(aB:aO)(aV:Int):Option Bool:=((mC aB.conds aV).bind fun x1=>((pO aB aV).bind fun y3=>((oV x1).bind fun y5=>(bif decide (y5.length<=maxLen)then(gN aB aV x1 y3 y5 (some true) y5 0)else none))))
def Kb(aB:aO)(aV:Int)(x1:aN)(y3:aI)(y5:aI)(cS:Int):St:=⟨[(1,D.int .i64 aV),(2,D.ptr 0 0),(5,D.ptr 1 0),(6,D.acc 2),(18,D.acc 3),(19,D.int .i64 ((y5.map tx).length:Int)),(20,D.int .i64 cS)],[Ob.box (aO.c aB),Ob.box [D.int .i64 x1.kind,D.str x1.pat.rel,D.sl (x1.pat.args.map tx),D.str x1.left,D.str x1.right],Ob.row .uq 9 1 (y3.map tx),Ob.row .uq 9 1 (y5.map tx)]⟩
theorem Ib(hΓ:Γ.nt=42){aB:aO}{aV:Int}{x1:aN}{y3:aI}{y5:aI}{r:Bool}{k1:Option Bool}(cX:k1=some r->Ax Γ N f213 (.q [[none]] (D.bool r)) [1,1,1,1] ⟨[],[]⟩)(hm1:y5.length<=maxLen):∀(rest:aI) (i1:Nat),y5.drop i1=rest->gN aB aV x1 y3 y5 k1 rest i1=some r->Ar Γ N f213 (.q [[none]] (D.bool r)) [1,1,1,0,1,0] (rest.length+1) (Kb aB aV x1 y3 y5 (i1:Int)):=by
 intro rest
 induction rest with
 |nil=>
  intro i1 aq h;rw[gN]at h;refine aM fun N1 bu bq=>?_
  exact((aU.ge tx aq).a [.hl 0 [] []]).ex hΓ bu (cX h)
 |cons bD bn ih1=>
  intro i1 aq h;rw[gN]at h;refine aM fun N1 bu bq=>?_
  have jN:=(((aU.lt tx aq).i (p9 tx 1 (dc aq))).o 1 1 .uq (dB tx (dc aq)))
  obtain⟨h48,h⟩|⟨h48,h⟩:=aL h
  ·exact(((jN.r 4 h48).T 1).a [.cn [1,2,5,6,18,19,20] [0,1,2,3]]).ct hΓ bq (iS aq hm1) (ih1 (i1+1) (dn aq) h)
  ·obtain⟨Ju,h50,h⟩:=aD h;have uY:=(((jN.r 3 h48).g (s7 h50)).b h48)
   obtain⟨h51,h⟩|⟨h51,h⟩:=aL h
   ·exact((uY.b h51).a [.cn [1,2,5,6,18,19,20] [0,1,2,3]]).ct hΓ bq (iS aq hm1) (ih1 (i1+1) (dn aq) h)
   ·obtain⟨h52,h⟩|⟨h52,h⟩:=aL h
    ·have h:=aG h;subst h;exact(((uY.b h51).r 5 h52).T 1).ret hΓ
    ·obtain⟨y53,h54,h⟩:=aD h;have wX:=((((uY.b h51).r 4 h52).g (B6 h54)).b h52)
     obtain⟨h55,h⟩|⟨h55,h⟩:=aL h
     ·have h:=aG h;subst h;exact(wX.b h55).ret hΓ
     ·exact((wX.b h55).a [.cn [1,2,5,6,18,19,20] [0,1,2,3]]).ct hΓ bq (iS aq hm1) (ih1 (i1+1) (dn aq) h)
theorem zg{aB:aO}{aV:Int}{r:Bool}(h:qY aB aV=some r):Good prog 213 [D.agg (aO.c aB),D.int .i64 aV] (D.bool r):=by
 refine gd func213 [[none]] 42 fun hr Γ hΓ=>?_
 rw[qY]at h;obtain⟨x1,h2,h⟩:=aD h;obtain⟨y3,h4,h⟩:=aD h;obtain⟨y5,h6,h⟩:=aD h;obtain⟨h56,h⟩:=bX h;refine((((aU.l (dV aN.c 5 h2 rfl)).g (ym h4)).g (vb h6)).a [.cn [1,2,5,6,18,19,20] [0,1,2,3]]).lp hΓ (Ib hΓ (fun h=>?_) (bt h56) y5 0 rfl h);have h:=aG h;subst h;exact aU.ret hΓ
def tu(aB:Action):Option Bool:=(bif (aB.kind:Int)==1 then((jA aB.pat).bind fun y2=>(some y2))else(bif (aB.kind:Int)==2 then((jA aB.pat).bind fun y5=>(some y5))else(bif (aB.kind:Int)==3 then((iY aB.pat).bind fun y8=>(some y8))else(some false))))
theorem GD{aB:Action}{r:Bool}(h:tu aB=some r):Good prog 215 [D.agg (Action.c aB)] (D.bool r):=by
 refine gd func215 [[none]] 16 fun hr Γ hΓ=>?_
 rw[tu]at h;obtain⟨h1,h⟩|⟨h1,h⟩:=aL h
 ·obtain⟨y2,h3,h⟩:=aD h;have h:=aG h;subst h;exact((aU.r 2 h1).g (jo h3)).ret hΓ
 ·obtain⟨h4,h⟩|⟨h4,h⟩:=aL h
  ·obtain⟨y5,h6,h⟩:=aD h;have h:=aG h;subst h;exact(((aU.b h1).b h4).g (jo h6)).ret hΓ
  ·have jz:=((aU.b h1).b h4)
   obtain⟨h7,h⟩|⟨h7,h⟩:=aL h
   ·obtain⟨y8,h9,h⟩:=aD h;have h:=aG h;subst h;exact((jz.b h7).g (oC h9)).ret hΓ
   ·have h:=aG h;subst h;exact(jz.b h7).ret hΓ
def gD(aB:aj)(k1:aI->Option aI):aj->Nat->aI->Option aI
 | [],i1,bC=>(k1 bC)
 |bD::bn,i1,bC=>((oV bD).bind fun pM=>(bif room ((bC.map tx).length+(pM.map tx).length) 16 then(gD aB k1 bn (i1+1) (bC++pM))else none))
def qp(aB:aj):Option aI:=(gD aB (fun(bO:aI)=>(some bO)) aB 0 ([]:aI))
def zh(aB:aj)(W0:List aR)(cS:Int):St:=⟨[(3,D.acc 0),(6,D.sl (aB.map aN.c)),(7,D.int .i64 ((aB.map aN.c).length:Int)),(8,D.int .i64 cS)],[Ob.row .uq 9 1 W0]⟩
theorem FC(hΓ:Γ.nt=18){aB:aj}{r:aI}{k1:aI->Option aI}(cX:∀(bO:aI),k1 bO=some r->Ax Γ N f219 (.q [[some (9,1)]] (D.fr 9 1 (r.map tx))) [1,1,1] ⟨[(3,D.acc 0)],[Ob.row .uq 9 1 (bO.map tx)]⟩)(hm1:aB.length<=maxLen):∀(rest:aj) (i1:Nat) (bC:aI),aB.drop i1=rest->gD aB k1 rest i1 bC=some r->Ar Γ N f219 (.q [[some (9,1)]] (D.fr 9 1 (r.map tx))) [1,1,0,1,0] (rest.length+1) (zh aB (bC.map tx) (i1:Int)):=by
 intro rest
 induction rest with
 |nil=>
  intro i1 bC aq h;rw[gD]at h;refine aM fun N1 bu bq=>?_
  exact((aU.ge aN.c aq).a [.hl 0 [3] [0]]).ex hΓ bu (cX bC h)
 |cons bD bn ih1=>
  intro i1 bC aq h;rw[gD]at h;refine aM fun N1 bu bq=>?_
  obtain⟨pM,h28,h⟩:=aD h;obtain⟨h29,h⟩:=bX h;exact(((((aU.lt aN.c aq).l (ax aN.c 5 (dc aq) rfl)).g (vb h28)).w (cG h29)).a [.cn [3,6,7,8] [3]]).cs hΓ bq (zh aB ((bC.map tx)++(pM.map tx)) (IntKind.i64.wrap ((i1:Int)+1))) (by first| (simp only[iS aq hm1,mA]<;>rfl)| (simp only[iS aq hm1,mA,aE.c,aS.c,aN.c,Action.c,aO.c,aJ.c,cx.c,aP.c,Node.c,aF.c,cy.c]<;>rfl)) (ih1 (i1+1) (bC++pM) (dn aq) h)
theorem ED{aB:aj}{r:aI}(h:qp aB=some r):Good prog 219 [D.sl (aB.map aN.c)] (D.fr 9 1 (r.map tx)):=by
 refine gd func219 [[some (9,1)]] 18 fun hr Γ hΓ=>?_
 rw[qp]at h;refine(aU.a [.PT 3,.cn [3,6,7,8] [0]]).lp hΓ (FC hΓ (fun bO h=>?_) (by have:=(dS.sl (hr _ (aC (i:=0) rfl))).1;simpa using this) aB 0 ([]:aI) rfl h);have h:=aG h;subst h;exact aU.ret hΓ
def jB(aB:aO)(k1:Option Bool):aj->Nat->Option Bool
 | [],i1=>(k1)
 |bD::bn,i1=>((rH bD).bind fun y62=>(bif !(y62)then(some false)else(bif ((i1:Int):Int)==0 then(bif (bD.kind:Int) != 1 then(some false)else((qY aB (i1:Int)).bind fun y67=>(bif !(y67)then(some false)else(jB aB k1 bn (i1+1)))))else((qY aB (i1:Int)).bind fun y70=>(bif !(y70)then(some false)else(jB aB k1 bn (i1+1)))))))
def mo(aB:aO)(M3:aI)(i2:Nat)(D1:aI)(k3:Option Bool):aI->Nat->Option Bool
 | [],i3=>(k3)
 |Vo::Ty,i3=>((lV M3 Vo).bind fun aAr=>(bif !(aAr)then(some false)else(mo aB M3 i2 D1 k3 Ty (i3+1))))
def mm(aB:aO)(M3:aI)(k2:Option Bool):bw->Nat->Option Bool
 | [],i2=>(k2)
 |lM::wF,i2=>((tu lM).bind fun aAq=>(bif !(aAq)then(some false)else((n7 lM.pat.args).bind fun D1=>(bif decide (D1.length<=maxLen)then(mo aB M3 i2 D1 (mm aB M3 k2 wF (i2+1)) D1 0)else none))))
def x9(aB:aO):Option Bool:=((rJ aB.name).bind fun y1=>(bif !(y1)then(some false)else(bif decide ((aB.prio:Int)<0)then(some false)else(bif decide ((aB.prio:Int)>9)then(some false)else(bif decide ((((aB.conds.map aN.c).length:Int):Int)<1)then(some false)else(bif decide ((((aB.conds.map aN.c).length:Int):Int)>4)then(some false)else(bif decide ((((aB.cr.map Action.c).length:Int):Int)<1)then(some false)else(bif decide ((((aB.cr.map Action.c).length:Int):Int)>2)then(some false)else(jB aB ((pO aB ((aB.conds.map aN.c).length:Int)).bind fun M3=>(mm aB M3 ((qp aB.conds).bind fun aAs=>((kC aAs).bind fun aAt=>(some (decide ((((aAt.map tx).length:Int):Int)<=6))))) aB.cr 0)) aB.conds 0)))))))))
def O1(aB:aO)(cS:Int):St:=⟨[(1,D.ptr 0 0),(49,D.sl (aB.conds.map aN.c)),(50,D.int .i64 ((aB.conds.map aN.c).length:Int)),(51,D.int .i64 cS)],[Ob.box (aO.c aB)]⟩
theorem MK(hΓ:Γ.nt=111){aB:aO}{r:Bool}{k1:Option Bool}(cX:k1=some r->Ax Γ N f142 (.q [[none]] (D.bool r)) [1,1,1] ⟨[(1,D.ptr 0 0)],[Ob.box (aO.c aB)]⟩)(hm1:aB.conds.length<=maxLen):∀(rest:aj) (i1:Nat),aB.conds.drop i1=rest->jB aB k1 rest i1=some r->Ar Γ N f142 (.q [[none]] (D.bool r)) [1,1,0,1,0] (rest.length+1) (O1 aB (i1:Int)):=by
 intro rest
 induction rest with
 |nil=>
  intro i1 aq h;rw[jB]at h;refine aM fun N1 bu bq=>?_
  exact((aU.ge aN.c aq).a [.hl 0 [1] [0]]).ex hΓ bu (cX h)
 |cons bD bn ih1=>
  intro i1 aq h;rw[jB]at h;refine aM fun N1 bu bq=>?_
  obtain⟨y62,h63,h⟩:=aD h;have BB:=(((aU.lt aN.c aq).l (ax aN.c 5 (dc aq) rfl)).g (pq h63))
  obtain⟨h64,h⟩|⟨h64,h⟩:=aL h
  ·have h:=aG h;subst h;exact((((BB.r 3 h64).a [bF,bF,bF]).r 2 h64).T 6).ret hΓ
  ·have Hu:=(BB.r 3 h64)
   obtain⟨h65,h⟩|⟨h65,h⟩:=aL h
   ·have Hv:=((((Hu.r 3 h65).b h64).b h65).b h64)
    obtain⟨h66,h⟩|⟨h66,h⟩:=aL h
    ·have h:=aG h;subst h;exact((Hv.r 5 h66).T 1).ret hΓ
    ·obtain⟨y67,h68,h⟩:=aD h;have Qs:=(((Hv.r 3 h66).g (zg h68)).r 2 h66)
     obtain⟨h69,h⟩|⟨h69,h⟩:=aL h
     ·have h:=aG h;subst h;exact(Qs.b h69).ret hΓ
     ·exact((Qs.b h69).a [.cn [1,49,50,51] [0]]).ct hΓ bq (iS aq hm1) (ih1 (i1+1) (dn aq) h)
   ·obtain⟨y70,h71,h⟩:=aD h;have Qt:=(((((((Hu.r 3 h65).b h64).b h65).b h64).F 3).g (zg h71)).F 2)
    obtain⟨h72,h⟩|⟨h72,h⟩:=aL h
    ·have h:=aG h;subst h;exact(Qt.b h72).ret hΓ
    ·exact((Qt.b h72).a [.cn [1,49,50,51] [0]]).ct hΓ bq (iS aq hm1) (ih1 (i1+1) (dn aq) h)
def O2(aB:aO)(M3:aI)(cS:Int):St:=⟨[(1,D.ptr 0 0),(5,D.acc 1),(81,D.sl (aB.cr.map Action.c)),(82,D.int .i64 ((aB.cr.map Action.c).length:Int)),(83,D.int .i64 cS)],[Ob.box (aO.c aB),Ob.row .uq 9 1 (M3.map tx)]⟩
def O3(aB:aO)(M3:aI)(i2:Nat)(D1:aI)(cS:Int):St:=⟨[(1,D.ptr 0 0),(5,D.acc 1),(81,D.sl (aB.cr.map Action.c)),(82,D.int .i64 ((aB.cr.map Action.c).length:Int)),(83,D.int .i64 (i2:Int)),(93,D.acc 2),(94,D.int .i64 ((D1.map tx).length:Int)),(95,D.int .i64 cS)],[Ob.box (aO.c aB),Ob.row .uq 9 1 (M3.map tx),Ob.row .uq 9 1 (D1.map tx)]⟩
theorem MM(hΓ:Γ.nt=111){aB:aO}{M3:aI}{i2:Nat}{D1:aI}{r:Bool}{k3:Option Bool}(hE3:k3=some r->Ax Γ N f142 (.q [[none]] (D.bool r)) [1,1,1,1,0,1,0,0,1,1,1] ⟨[(1,D.ptr 0 0),(5,D.acc 1),(81,D.sl (aB.cr.map Action.c)),(82,D.int .i64 ((aB.cr.map Action.c).length:Int)),(83,D.int .i64 (i2:Int))],[Ob.box (aO.c aB),Ob.row .uq 9 1 (M3.map tx)]⟩)(WY:D1.length<=maxLen):∀(rest:aI) (i3:Nat),D1.drop i3=rest->mo aB M3 i2 D1 k3 rest i3=some r->Ar Γ N f142 (.q [[none]] (D.bool r)) [1,1,1,1,0,1,0,0,1,1,0,0,1,1,1,0] (rest.length+1) (O3 aB M3 i2 D1 (i3:Int)):=by
 intro rest
 induction rest with
 |nil=>
  intro i3 B9 h;rw[mo]at h;refine aM fun N3 Y8 Sy=>?_
  exact((aU.ge tx B9).a [.hl 3 [1,5,81,82,83] [0,1]]).ex hΓ Y8 (hE3 h)
 |cons Vo Ty ih3=>
  intro i3 B9 h;rw[mo]at h;refine aM fun N3 Y8 Sy=>?_
  obtain⟨aAr,h230,h⟩:=aD h;have aA4:=((((aU.lt tx B9).i (p9 tx 1 (dc B9))).o 1 1 .uq (dB tx (dc B9))).g (s7 h230))
  obtain⟨h231,h⟩|⟨h231,h⟩:=aL h
  ·have h:=aG h;subst h;exact(aA4.b h231).ret hΓ
  ·exact((aA4.b h231).a [.cn [1,5,81,82,83,93,94,95] [0,1,2]]).ct hΓ Sy (iS B9 WY) (ih3 (i3+1) (dn B9) h)
theorem ML(hΓ:Γ.nt=111){aB:aO}{M3:aI}{r:Bool}{k2:Option Bool}(CV:k2=some r->Ax Γ N f142 (.q [[none]] (D.bool r)) [1,1,1,1,1] ⟨[(1,D.ptr 0 0)],[Ob.box (aO.c aB)]⟩)(hm2:aB.cr.length<=maxLen):∀(rest:bw) (i2:Nat),aB.cr.drop i2=rest->mm aB M3 k2 rest i2=some r->Ar Γ N f142 (.q [[none]] (D.bool r)) [1,1,1,1,0,1,0] (rest.length+1) (O2 aB M3 (i2:Int)):=by
 intro rest
 induction rest with
 |nil=>
  intro i2 hd2 h;rw[mm]at h;refine aM fun N2 xM uT=>?_
  exact((aU.ge Action.c hd2).a [.hl 0 [1] [0]]).ex hΓ xM (CV h)
 |cons lM wF ih2=>
  intro i2 hd2 h;rw[mm]at h;refine aM fun N2 xM uT=>?_
  obtain⟨aAq,h204,h⟩:=aD h;have aA5:=(((aU.lt Action.c hd2).l (ax Action.c 3 (dc hd2) rfl)).g (GD h204))
  obtain⟨h205,h⟩|⟨h205,h⟩:=aL h
  ·have h:=aG h;subst h;exact(aA5.b h205).ret hΓ
  ·obtain⟨D1,h207,h⟩:=aD h;obtain⟨h232,h⟩:=bX h;refine(((aA5.b h205).g (vE h207)).a [.cn [1,5,81,82,83,93,94,95] [0,1,3]]).lp hΓ (MM hΓ (fun h=>?_) (bt h232) D1 0 rfl h);exact(aU.a [.cn [1,5,81,82,83] [0,1]]).ct hΓ uT (iS hd2 hm2) (ih2 (i2+1) (dn hd2) h)
theorem KV{aB:aO}{r:Bool}(h:x9 aB=some r):Good prog 142 [D.agg (aO.c aB)] (D.bool r):=by
 refine gd func142 [[none]] 111 fun hr Γ hΓ=>?_
 rw[x9]at h;obtain⟨y1,h2,h⟩:=aD h;obtain⟨h3,h⟩|⟨h3,h⟩:=aL h
 ·have h:=aG h;subst h;exact(((aU.g (mj h2)).r 4 h3).T 25).ret hΓ
 ·have aA6:=((aU.g (mj h2)).r 4 h3)
  obtain⟨h4,h⟩|⟨h4,h⟩:=aL h
  ·have h:=aG h;subst h;exact((aA6.r 4 h4).T 21).ret hΓ
  ·have aA7:=(aA6.r 4 h4)
   obtain⟨h5,h⟩|⟨h5,h⟩:=aL h
   ·have h:=aG h;subst h;exact((aA7.r 5 h5).T 16).ret hΓ
   ·have aA8:=(aA7.r 5 h5)
    obtain⟨h6,h⟩|⟨h6,h⟩:=aL h
    ·have h:=aG h;subst h;exact((aA8.r 5 h6).T 11).ret hΓ
    ·have aA9:=(aA8.r 5 h6)
     obtain⟨h7,h⟩|⟨h7,h⟩:=aL h
     ·have h:=aG h;subst h;exact((aA9.r 5 h7).T 6).ret hΓ
     ·have aAA:=(aA9.r 5 h7)
      obtain⟨h8,h⟩|⟨h8,h⟩:=aL h
      ·have h:=aG h;subst h;exact((aAA.r 5 h8).T 1).ret hΓ
      ·have aAB:=(aAA.r 5 h8)
       obtain⟨h9,h⟩|⟨h9,h⟩:=aL h
       ·have h:=aG h;subst h;exact(aAB.b h9).ret hΓ
       ·refine((aAB.b h9).a [.cn [1,49,50,51] [0]]).lp hΓ (MK hΓ (fun h=>?_) (by have:=(dS.sl (dS.agg (hr _ (aC (i:=0) rfl)) (.sl (aB.conds.map aN.c)) (by simp))).1;simpa using this) aB.conds 0 rfl h);obtain⟨M3,h74,h⟩:=aD h;refine((aU.g (ym h74)).a [.cn [1,5,81,82,83] [0,1]]).lp hΓ (ML hΓ (fun h=>?_) (by have:=(dS.sl (dS.agg (hr _ (aC (i:=0) rfl)) (.sl (aB.cr.map Action.c)) (by simp))).1;simpa using this) aB.cr 0 rfl h);obtain⟨aAs,h234,h⟩:=aD h;obtain⟨aAt,h236,h⟩:=aD h;cases h;exact((aU.g (ED h234)).g (sK h236)).ret hΓ
def k9(aB:au)(aV:Bytes)(k1:Option Int):au->Nat->Option Int
 | [],i1=>(k1)
 |bD::bn,i1=>(bif (bD.name:Bytes)==aV then(some (i1:Int))else(k9 aB aV k1 bn (i1+1)))
def tr(aB:au)(aV:Bytes):Option Int:=(k9 aB aV (some (-1)) aB 0)
def KU(aB:au)(aV:Bytes)(cS:Int):St:=⟨[(1,D.str aV),(7,D.sl (aB.map aO.c)),(8,D.int .i64 ((aB.map aO.c).length:Int)),(9,D.int .i64 cS)],[]⟩
theorem IT(hΓ:Γ.nt=20){aB:au}{aV:Bytes}{r:Int}{k1:Option Int}(cX:k1=some r->Ax Γ N f143 (.q [[none]] (D.int .i64 r)) [1,1] ⟨[],[]⟩)(hm1:aB.length<=maxLen):∀(rest:au) (i1:Nat),aB.drop i1=rest->k9 aB aV k1 rest i1=some r->Ar Γ N f143 (.q [[none]] (D.int .i64 r)) [1,0,1,0] (rest.length+1) (KU aB aV (i1:Int)):=by
 intro rest
 induction rest with
 |nil=>
  intro i1 aq h;rw[k9]at h;refine aM fun N1 bu bq=>?_
  exact((aU.ge aO.c aq).a [.hl 0 [] []]).ex hΓ bu (cX h)
 |cons bD bn ih1=>
  intro i1 aq h;rw[k9]at h;refine aM fun N1 bu bq=>?_
  have dJ:=((aU.lt aO.c aq).l (ax aO.c 4 (dc aq) rfl))
  obtain⟨h13,h⟩|⟨h13,h⟩:=aL h
  ·cases h;exact(dJ.b h13).ret hΓ
  ·exact((dJ.b h13).a [.cn [1,7,8,9] []]).ct hΓ bq (iS aq hm1) (ih1 (i1+1) (dn aq) h)
theorem GC{aB:au}{aV:Bytes}{r:Int}(h:tr aB aV=some r):Good prog 143 [D.sl (aB.map aO.c),D.str aV] (D.int .i64 r):=by
 refine gd func143 [[none]] 20 fun hr Γ hΓ=>?_
 rw[tr]at h;refine(aU.a [.cn [1,7,8,9] []]).lp hΓ (IT hΓ (fun h=>?_) (by have:=(dS.sl (hr _ (aC (i:=0) rfl))).1;simpa using this) aB 0 rfl h);cases h;exact aU.ret hΓ
def k7(aB:au)(k1:Option Bool):au->Nat->Option Bool
 | [],i1=>(k1)
 |bD::bn,i1=>((x9 bD).bind fun Fy=>(bif !(Fy)then(some false)else((tr aB bD.name).bind fun Xh=>(bif (Xh:Int) != (i1:Int)then(some false)else(k7 aB k1 bn (i1+1))))))
def tj(aB:au):Option Bool:=(bif decide ((((aB.map aO.c).length:Int):Int)>6)then(some false)else(k7 aB (some true) aB 0))
def KR(aB:au)(cS:Int):St:=⟨[(0,D.sl (aB.map aO.c)),(8,D.sl (aB.map aO.c)),(9,D.int .i64 ((aB.map aO.c).length:Int)),(10,D.int .i64 cS)],[]⟩
theorem IR(hΓ:Γ.nt=27){aB:au}{r:Bool}{k1:Option Bool}(cX:k1=some r->Ax Γ N f82 (.q [[none]] (D.bool r)) [1,1,1] ⟨[],[]⟩)(hm1:aB.length<=maxLen):∀(rest:au) (i1:Nat),aB.drop i1=rest->k7 aB k1 rest i1=some r->Ar Γ N f82 (.q [[none]] (D.bool r)) [1,1,0,1,0] (rest.length+1) (KR aB (i1:Int)):=by
 intro rest
 induction rest with
 |nil=>
  intro i1 aq h;rw[k7]at h;refine aM fun N1 bu bq=>?_
  exact((aU.ge aO.c aq).a [.hl 0 [] []]).ex hΓ bu (cX h)
 |cons bD bn ih1=>
  intro i1 aq h;rw[k7]at h;refine aM fun N1 bu bq=>?_
  obtain⟨Fy,h35,h⟩:=aD h;have kT:=(((aU.lt aO.c aq).l (ax aO.c 4 (dc aq) rfl)).g (KV h35))
  obtain⟨h36,h⟩|⟨h36,h⟩:=aL h
  ·have h:=aG h;subst h;exact((kT.r 7 h36).T 1).ret hΓ
  ·obtain⟨Xh,h38,h⟩:=aD h;have jN:=(((kT.r 4 h36).g (GC h38)).r 3 h36)
   obtain⟨h39,h⟩|⟨h39,h⟩:=aL h
   ·have h:=aG h;subst h;exact(jN.b h39).ret hΓ
   ·exact((jN.b h39).a [.cn [0,8,9,10] []]).ct hΓ bq (iS aq hm1) (ih1 (i1+1) (dn aq) h)
theorem G9{aB:au}{r:Bool}(h:tj aB=some r):Good prog 82 [D.sl (aB.map aO.c)] (D.bool r):=by
 refine gd func82 [[none]] 27 fun hr Γ hΓ=>?_
 rw[tj]at h;obtain⟨h1,h⟩|⟨h1,h⟩:=aL h
 ·have h:=aG h;subst h;exact(aU.b h1).ret hΓ
 ·refine((aU.b h1).a [.cn [0,8,9,10] []]).lp hΓ (IR hΓ (fun h=>?_) (by have:=(dS.sl (hr _ (aC (i:=0) rfl))).1;simpa using this) aB 0 rfl h);have h:=aG h;subst h;exact aU.ret hΓ
def pP(aB:aE)(k1:Option Bool):aI->Nat->Option Bool
 | [],i1=>(k1)
 |bD::bn,i1=>((fG bD).bind fun Xg=>(bif !(Xg)then(some false)else(pP aB k1 bn (i1+1))))
def rI(aB:aE):Option Bool:=((rJ aB.rel).bind fun y1=>(bif !(y1)then(some false)else(bif decide ((((aB.args.map tx).length:Int):Int)>3)then(some false)else(pP aB (some true) aB.args 0))))
def O0(aB:aE)(cS:Int):St:=⟨[(16,D.sl (aB.args.map tx)),(17,D.int .i64 ((aB.args.map tx).length:Int)),(18,D.int .i64 cS)],[]⟩
theorem MJ(hΓ:Γ.nt=26){aB:aE}{r:Bool}{k1:Option Bool}(cX:k1=some r->Ax Γ N f144 (.q [[none]] (D.bool r)) [1,1,1] ⟨[],[]⟩)(hm1:aB.args.length<=maxLen):∀(rest:aI) (i1:Nat),aB.args.drop i1=rest->pP aB k1 rest i1=some r->Ar Γ N f144 (.q [[none]] (D.bool r)) [1,1,0,1,0] (rest.length+1) (O0 aB (i1:Int)):=by
 intro rest
 induction rest with
 |nil=>
  intro i1 aq h;rw[pP]at h;refine aM fun N1 bu bq=>?_
  exact((aU.ge tx aq).a [.hl 0 [] []]).ex hΓ bu (cX h)
 |cons bD bn ih1=>
  intro i1 aq h;rw[pP]at h;refine aM fun N1 bu bq=>?_
  obtain⟨Xg,h26,h⟩:=aD h;have dJ:=(((aU.lt tx aq).l (ax tx 1 (dc aq) rfl)).g (eU h26))
  obtain⟨h27,h⟩|⟨h27,h⟩:=aL h
  ·have h:=aG h;subst h;exact(dJ.b h27).ret hΓ
  ·exact((dJ.b h27).a [.cn [16,17,18] []]).ct hΓ bq (iS aq hm1) (ih1 (i1+1) (dn aq) h)
theorem Bc{aB:aE}{r:Bool}(h:rI aB=some r):Good prog 144 [D.agg (aE.c aB)] (D.bool r):=by
 refine gd func144 [[none]] 26 fun hr Γ hΓ=>?_
 rw[rI]at h;obtain⟨y1,h2,h⟩:=aD h;obtain⟨h3,h⟩|⟨h3,h⟩:=aL h
 ·have h:=aG h;subst h;exact(((aU.g (mj h2)).r 5 h3).T 1).ret hΓ
 ·have kT:=((aU.g (mj h2)).r 5 h3)
  obtain⟨h4,h⟩|⟨h4,h⟩:=aL h
  ·have h:=aG h;subst h;exact(kT.b h4).ret hΓ
  ·refine((kT.b h4).a [.cn [16,17,18] []]).lp hΓ (MJ hΓ (fun h=>?_) (by have:=(dS.sl (dS.agg (hr _ (aC (i:=0) rfl)) (.sl (aB.args.map tx)) (by simp))).1;simpa using this) aB.args 0 rfl h);have h:=aG h;subst h;exact aU.ret hΓ
def ke(aB:Int):Option Bytes:=((Bw aB).bind fun y1=>(some y1))
theorem yo{aB:Int}{r:Bytes}(h:ke aB=some r):Good prog 246 [D.int .i64 aB] (D.str r):=by
 refine gd func246 [[none]] 5 fun hr Γ hΓ=>?_
 rw[ke]at h;obtain⟨y1,h2,h⟩:=aD h;have h:=aG h;subst h;exact(aU.g (Jo h2)).ret hΓ
def mS(aB:Bytes):Option (Int×Bool):=(bif decide (((aB.length:Int):Int)<1)then(some (0,false))else(bif decide (((aB.length:Int):Int)>4)then(some (0,false))else((Bv aB).bind fun y3=>(bif y3.2 then(some (0,false))else(bif decide ((y3.1:Int)<0)then(some (0,false))else(bif decide ((y3.1:Int)>9999)then(some (0,false))else((ke y3.1).bind fun y8=>(bif !((y8:Bytes)==aB)then(some (0,false))else(some (y3.1,true))))))))))
theorem ql{aB:Bytes}{r:Int×Bool}(h:mS aB=some r):Good prog 268 [D.str aB] (D.gb [D.int .i64 r.1,D.bool r.2]):=by
 refine gd func268 [[none],[none]] 36 fun hr Γ hΓ=>?_
 rw[mS]at h;obtain⟨h1,h⟩|⟨h1,h⟩:=aL h
 ·cases h;exact((aU.r 4 h1).T 1).ret hΓ
 ·have jz:=(aU.r 4 h1)
  obtain⟨h2,h⟩|⟨h2,h⟩:=aL h
  ·cases h;exact(jz.b h2).ret hΓ
  ·obtain⟨y3,h4,h⟩:=aD h;have dJ:=((jz.b h2).g (Jn h4))
   obtain⟨h5,h⟩|⟨h5,h⟩:=aL h
   ·cases h;exact((dJ.r 3 h5).T 9).ret hΓ
   ·have kT:=(dJ.r 3 h5)
    obtain⟨h6,h⟩|⟨h6,h⟩:=aL h
    ·cases h;exact((kT.r 3 h6).T 6).ret hΓ
    ·have jN:=(kT.r 3 h6)
     obtain⟨h7,h⟩|⟨h7,h⟩:=aL h
     ·cases h;exact((jN.r 5 h7).T 1).ret hΓ
     ·obtain⟨y8,h9,h⟩:=aD h;have uY:=(((jN.r 2 h7).g (yo h9)).r 3 h7)
      obtain⟨h10,h⟩|⟨h10,h⟩:=aL h
      ·cases h;exact(uY.b h10).ret hΓ
      ·cases h;exact(uY.b h10).ret hΓ
def iU(aB:Int)(aV:Int):Option Int:=(bif decide ((aB:Int)<aV)then(some (-1))else(bif decide ((aB:Int)>aV)then(some 1)else(some 0)))
theorem sL{aB:Int}{aV:Int}{r:Int}(h:iU aB aV=some r):Good prog 222 [D.int .i64 aB,D.int .i64 aV] (D.int .i64 r):=by
 refine gd func222 [[none]] 13 fun hr Γ hΓ=>?_
 rw[iU]at h;obtain⟨h1,h⟩|⟨h1,h⟩:=aL h
 ·cases h;exact(aU.b h1).ret hΓ
 ·obtain⟨h2,h⟩|⟨h2,h⟩:=aL h
  ·have h:=aG h;subst h;exact((aU.b h1).b h2).ret hΓ
  ·have h:=aG h;subst h;exact((aU.b h1).b h2).ret hΓ
def mD(aB:Bytes)(aV:Bytes):Option Int:=((mS aB).bind fun y1=>((mS aV).bind fun y3=>(bif y1.2 then(bif y3.2 then((iU y1.1 y3.1).bind fun y7=>(some y7))else(some (-1)))else(bif y3.2 then(some 1)else((rB aB aV).bind fun Oa=>(some Oa))))))
theorem Ch{aB:Bytes}{aV:Bytes}{r:Int}(h:mD aB aV=some r):Good prog 221 [D.str aB,D.str aV] (D.int .i64 r):=by
 refine gd func221 [[none]] 34 fun hr Γ hΓ=>?_
 rw[mD]at h;obtain⟨y1,h2,h⟩:=aD h;obtain⟨y3,h4,h⟩:=aD h;have jz:=((aU.g (ql h2)).g (ql h4))
 obtain⟨h5,h⟩|⟨h5,h⟩:=aL h
 ·have dJ:=(jz.r 2 h5)
  obtain⟨h6,h⟩|⟨h6,h⟩:=aL h
  ·obtain⟨y7,h8,h⟩:=aD h;have h:=aG h;subst h;exact((dJ.b h6).g (sL h8)).ret hΓ
  ·cases h;exact((dJ.b h6).b h5).ret hΓ
 ·have kT:=(((jz.r 2 h5).F 1).b h5)
  obtain⟨h9,h⟩|⟨h9,h⟩:=aL h
  ·have h:=aG h;subst h;exact(kT.b h9).ret hΓ
  ·obtain⟨Oa,h11,h⟩:=aD h;have h:=aG h;subst h;exact((kT.b h9).g (td h11)).ret hΓ
def j9(aB:aE)(aV:aE)(k1:Option Int):aI->Nat->Option Int
 | [],i1=>(k1)
 |bD::bn,i1=>(bif decide (((i1:Int):Int)<((aV.args.map tx).length:Int))then((mC aV.args (i1:Int)).bind fun x37=>((mD bD x37).bind fun RF=>(bif (RF:Int) != 0 then(some RF)else(j9 aB aV k1 bn (i1+1)))))else(k1))
def gh(aB:aE)(aV:aE):Option Int:=((rB aB.rel aV.rel).bind fun y1=>(bif (y1:Int) != 0 then(some y1)else(j9 aB aV ((iU ((aB.args.map tx).length:Int) ((aV.args.map tx).length:Int)).bind fun Yl=>(some Yl)) aB.args 0)))
def E7(aB:aE)(aV:aE)(cS:Int):St:=⟨[(2,D.ptr 0 0),(3,D.ptr 1 0),(6,D.int .i64 cS)],[Ob.box (aE.c aB),Ob.box (aE.c aV)]⟩
theorem DJ(hΓ:Γ.nt=51){aB:aE}{aV:aE}{r:Int}{k1:Option Int}(cX:k1=some r->Ax Γ N f145 (.q [[none]] (D.int .i64 r)) [1,1,1] ⟨[(2,D.ptr 0 0),(3,D.ptr 1 0)],[Ob.box (aE.c aB),Ob.box (aE.c aV)]⟩)(hm1:aB.args.length<=maxLen):∀(rest:aI) (i1:Nat),aB.args.drop i1=rest->j9 aB aV k1 rest i1=some r->Ar Γ N f145 (.q [[none]] (D.int .i64 r)) [1,1,0,1,0] (rest.length+1) (E7 aB aV (i1:Int)):=by
 intro rest
 induction rest with
 |nil=>
  intro i1 aq h;rw[j9]at h;refine aM fun N1 bu bq=>?_
  exact((((((((aU.ge tx aq).ge tx aq).ge tx aq).ge tx aq).ge tx aq).ge tx aq).F 1).a [.hl 0 [2,3] [0,1]]).ex hΓ bu (cX h)
 |cons bD bn ih1=>
  intro i1 aq h;rw[j9]at h;refine aM fun N1 bu bq=>?_
  have kT:=((((((aU.lt tx aq).lt tx aq).lt tx aq).lt tx aq).lt tx aq).lt tx aq)
  obtain⟨h36,h⟩|⟨h36,h⟩:=aL h
  ·obtain⟨x37,h38,h⟩:=aD h;obtain⟨RF,h40,h⟩:=aD h;have jN:=(((((kT.b h36).a [.n 10]).l (ax tx 1 (dc aq) rfl)).l (dV tx 1 h38 rfl)).g (Ch h40))
   obtain⟨h41,h⟩|⟨h41,h⟩:=aL h
   ·have h:=aG h;subst h;exact(jN.b h41).ret hΓ
   ·exact((jN.b h41).a [.cn [2,3,6] [0,1]]).ct hΓ bq (iS aq hm1) (ih1 (i1+1) (dn aq) h)
  ·exact((kT.b h36).a [.hl 0 [2,3] [0,1]]).ex hΓ bu (cX h)
theorem x8{aB:aE}{aV:aE}{r:Int}(h:gh aB aV=some r):Good prog 145 [D.agg (aE.c aB),D.agg (aE.c aV)] (D.int .i64 r):=by
 refine gd func145 [[none]] 51 fun hr Γ hΓ=>?_
 rw[gh]at h;obtain⟨y1,h2,h⟩:=aD h;obtain⟨h3,h⟩|⟨h3,h⟩:=aL h
 ·have h:=aG h;subst h;exact((aU.g (td h2)).b h3).ret hΓ
 ·refine(((aU.g (td h2)).b h3).a [.cn [2,3,6] [0,1]]).lp hΓ (DJ hΓ (fun h=>?_) (by have:=(dS.sl (dS.agg (hr _ (aC (i:=0) rfl)) (.sl (aB.args.map tx)) (by simp))).1;simpa using this) aB.args 0 rfl h);obtain⟨Yl,h43,h⟩:=aD h;have h:=aG h;subst h;exact(aU.g (sL h43)).ret hΓ
def iQ(aB:aQ)(k1:Option Bool):aQ->Nat->Option Bool
 | [],i1=>(k1)
 |bD::bn,i1=>((rI bD).bind fun y46=>(bif !(y46)then(some false)else(bif decide (((i1:Int):Int)>0)then((mC aB (IntKind.i64.wrap ((i1:Int)-1))).bind fun x50=>((gh x50 bD).bind fun y52=>(bif decide ((y52:Int)>=0)then(some false)else(iQ aB k1 bn (i1+1)))))else(iQ aB k1 bn (i1+1)))))
def qW(aB:aQ):Option Bool:=(bif decide ((((aB.map aE.c).length:Int):Int)>24)then(some false)else(iQ aB (some true) aB 0))
def KP(aB:aQ)(cS:Int):St:=⟨[(0,D.sl (aB.map aE.c)),(8,D.sl (aB.map aE.c)),(9,D.int .i64 ((aB.map aE.c).length:Int)),(10,D.int .i64 cS)],[]⟩
theorem IQ(hΓ:Γ.nt=33){aB:aQ}{r:Bool}{k1:Option Bool}(cX:k1=some r->Ax Γ N f83 (.q [[none]] (D.bool r)) [1,1,1] ⟨[],[]⟩)(hm1:aB.length<=maxLen):∀(rest:aQ) (i1:Nat),aB.drop i1=rest->iQ aB k1 rest i1=some r->Ar Γ N f83 (.q [[none]] (D.bool r)) [1,1,0,1,0] (rest.length+1) (KP aB (i1:Int)):=by
 intro rest
 induction rest with
 |nil=>
  intro i1 aq h;rw[iQ]at h;refine aM fun N1 bu bq=>?_
  exact((aU.ge aE.c aq).a [.hl 0 [] []]).ex hΓ bu (cX h)
 |cons bD bn ih1=>
  intro i1 aq h;rw[iQ]at h;refine aM fun N1 bu bq=>?_
  obtain⟨y46,h47,h⟩:=aD h;have jN:=((((aU.lt aE.c aq).l (ax aE.c 2 (dc aq) rfl)).a [.n 13]).g (Bc h47))
  obtain⟨h48,h⟩|⟨h48,h⟩:=aL h
  ·have h:=aG h;subst h;exact((((jN.r 3 h48).a [bF,bF,bF,bF,bF,bF,bF,bF]).r 2 h48).T 1).ret hΓ
  ·have uY:=(jN.r 3 h48)
   obtain⟨h49,h⟩|⟨h49,h⟩:=aL h
   ·obtain⟨x50,h51,h⟩:=aD h;obtain⟨y52,h53,h⟩:=aD h;have wX:=((((((((uY.r 4 h49).l (dV aE.c 2 h51 rfl)).r 3 h49).g (x8 h53)).b h49).b h48).b h49).b h48)
    obtain⟨h54,h⟩|⟨h54,h⟩:=aL h
    ·have h:=aG h;subst h;exact(wX.b h54).ret hΓ
    ·exact((wX.b h54).a [.cn [0,8,9,10] []]).ct hΓ bq (iS aq hm1) (ih1 (i1+1) (dn aq) h)
   ·exact((((((uY.r 8 h49).b h48).b h49).b h48).F 1).a [.cn [0,8,9,10] []]).ct hΓ bq (iS aq hm1) (ih1 (i1+1) (dn aq) h)
theorem zb{aB:aQ}{r:Bool}(h:qW aB=some r):Good prog 83 [D.sl (aB.map aE.c)] (D.bool r):=by
 refine gd func83 [[none]] 33 fun hr Γ hΓ=>?_
 rw[qW]at h;obtain⟨h1,h⟩|⟨h1,h⟩:=aL h
 ·have h:=aG h;subst h;exact(aU.b h1).ret hΓ
 ·refine((aU.b h1).a [.cn [0,8,9,10] []]).lp hΓ (IQ hΓ (fun h=>?_) (by have:=(dS.sl (hr _ (aC (i:=0) rfl))).1;simpa using this) aB 0 rfl h);have h:=aG h;subst h;exact aU.ret hΓ
def fB(aB:aI)(k1:aT->Option aT):aI->Nat->aT->List (Bytes×Bool)->Option aT
 | [],i1,bC,Cu=>(k1 bC)
 |bD::bn,i1,bC,Cu=>((lR bD).bind fun y52=>(bif y52 then(bif !(NP false bD Cu)then((ke (IntKind.i64.wrap (((bC.map aS.c).length:Int)+1))).bind fun y56=>(bif decide (([63]:Bytes).length+(y56:Bytes).length<=maxLen)then(bif room ((bC.map aS.c).length+([[D.str bD,D.str (([63])++y56)]]).length) 32 then(fB aB k1 bn (i1+1) (bC++([(⟨bD,([63])++y56⟩:aS)])) (Qh bD true Cu))else none)else none))else(fB aB k1 bn (i1+1) bC Cu))else(fB aB k1 bn (i1+1) bC Cu)))
def oA(aB:aI):Option aT:=(fB aB (fun(bO:aT)=>(some bO)) aB 0 ([]:aT) ([]:List (Bytes×Bool)))
def zj(aB:aI)(W0:List aR)(W1:List (D×D))(cS:Int):St:=⟨[(3,D.acc 0),(4,D.acc 1),(8,D.sl (aB.map tx)),(9,D.int .i64 ((aB.map tx).length:Int)),(10,D.int .i64 cS)],[Ob.row .uq 152 2 W0,Ob.mp W1]⟩
theorem FF(hΓ:Γ.nt=36){aB:aI}{r:aT}{k1:aT->Option aT}(cX:∀(bO:aT),k1 bO=some r->Ax Γ N f190 (.q [[some (152,2)]] (D.fr 152 2 (r.map aS.c))) [1,1,1,1] ⟨[(3,D.acc 0)],[Ob.row .uq 152 2 (bO.map aS.c)]⟩)(hm1:aB.length<=maxLen):∀(rest:aI) (i1:Nat) (bC:aT) (Cu:List (Bytes×Bool)),aB.drop i1=rest->fB aB k1 rest i1 bC Cu=some r->Ar Γ N f190 (.q [[some (152,2)]] (D.fr 152 2 (r.map aS.c))) [1,1,1,0,1,0] (rest.length+1) (zj aB (bC.map aS.c) (Cu.map (kS eB)) (i1:Int)):=by
 intro rest
 induction rest with
 |nil=>
  intro i1 bC Cu aq h;rw[fB]at h;refine aM fun N1 bu bq=>?_
  exact((aU.ge tx aq).a [.hl 0 [3] [0]]).ex hΓ bu (cX bC h)
 |cons bD bn ih1=>
  intro i1 bC Cu aq h;rw[fB]at h;refine aM fun N1 bu bq=>?_
  obtain⟨y52,h53,h⟩:=aD h;have kT:=(((aU.lt tx aq).l (ax tx 1 (dc aq) rfl)).g (o7 h53))
  obtain⟨h54,h⟩|⟨h54,h⟩:=aL h
  ·have jN:=((((kT.r 3 h54).w (show plk prog 232 (Cu.map (kS eB)) (D.str bD) false=some (D.bool (NP false bD Cu))from aA0 (e:=eB) (z:=false) (by kernel_rfl))).a [.d (D.bool (NP false bD Cu))]).r 2 h54)
   obtain⟨h55,h⟩|⟨h55,h⟩:=aL h
   ·obtain⟨y56,h57,h⟩:=aD h;obtain⟨h58,h⟩:=bX h;obtain⟨h59,h⟩:=bX h;exact(((((((jN.b h55).w (show NM (D.str bD) (D.bool true) (Cu.map (kS eB))=some ((Qh bD true Cu).map (kS eB))from a2J (e:=eB) (m:=Cu))).a [.kv ((Qh bD true Cu).map (kS eB))]).g (yo h57)).w (bt h58)).w (cG h59)).a [.cn [3,4,8,9,10] [3,1]]).cs hΓ bq (zj aB ((bC.map aS.c)++([[D.str bD,D.str (([63])++y56)]])) ((Qh bD true Cu).map (kS eB)) (IntKind.i64.wrap ((i1:Int)+1))) (by first| (simp only[iS aq hm1,mA]<;>rfl)| (simp only[iS aq hm1,mA,aE.c,aS.c,aN.c,Action.c,aO.c,aJ.c,cx.c,aP.c,Node.c,aF.c,cy.c]<;>rfl)) (ih1 (i1+1) (bC++([(⟨bD,([63])++y56⟩:aS)])) (Qh bD true Cu) (dn aq) h)
   ·exact((jN.b h55).a [.cn [3,4,8,9,10] [0,1]]).ct hΓ bq (iS aq hm1) (ih1 (i1+1) bC Cu (dn aq) h)
  ·exact(((kT.r 5 h54).F 1).a [.cn [3,4,8,9,10] [0,1]]).ct hΓ bq (iS aq hm1) (ih1 (i1+1) bC Cu (dn aq) h)
theorem yT{aB:aI}{r:aT}(h:oA aB=some r):Good prog 190 [D.sl (aB.map tx)] (D.fr 152 2 (r.map aS.c)):=by
 refine gd func190 [[some (152,2)]] 36 fun hr Γ hΓ=>?_
 rw[oA]at h;refine(aU.a [.PT 3,.cn [3,4,8,9,10] [0,1]]).lp hΓ (FF hΓ (fun bO h=>?_) (by have:=(dS.sl (hr _ (aC (i:=0) rfl))).1;simpa using this) aB 0 ([]:aT) ([]:List (Bytes×Bool)) rfl h);have h:=aG h;subst h;exact aU.ret hΓ
def gC(aB:aO)(k1:aI->Option aT):aj->Nat->aI->Option aT
 | [],i1,bC=>(k1 bC)
 |bD::bn,i1,bC=>((sS bD).bind fun pM=>(bif room ((bC.map tx).length+(pM.map tx).length) 16 then(gC aB k1 bn (i1+1) (bC++pM))else none))
def qn(aB:aO):Option aT:=(gC aB (fun(bO:aI)=>((oA bO).bind fun y30=>(some y30))) aB.conds 0 ([]:aI))
def ze(aB:aO)(W0:List aR)(cS:Int):St:=⟨[(3,D.acc 0),(7,D.sl (aB.conds.map aN.c)),(8,D.int .i64 ((aB.conds.map aN.c).length:Int)),(9,D.int .i64 cS)],[Ob.row .uq 9 1 W0]⟩
theorem FA(hΓ:Γ.nt=20){aB:aO}{r:aT}{k1:aI->Option aT}(cX:∀(bO:aI),k1 bO=some r->Ax Γ N f125 (.q [[some (152,2)]] (D.fr 152 2 (r.map aS.c))) [1,1,1] ⟨[(3,D.acc 0)],[Ob.row .uq 9 1 (bO.map tx)]⟩)(hm1:aB.conds.length<=maxLen):∀(rest:aj) (i1:Nat) (bC:aI),aB.conds.drop i1=rest->gC aB k1 rest i1 bC=some r->Ar Γ N f125 (.q [[some (152,2)]] (D.fr 152 2 (r.map aS.c))) [1,1,0,1,0] (rest.length+1) (ze aB (bC.map tx) (i1:Int)):=by
 intro rest
 induction rest with
 |nil=>
  intro i1 bC aq h;rw[gC]at h;refine aM fun N1 bu bq=>?_
  exact((aU.ge aN.c aq).a [.hl 0 [3] [0]]).ex hΓ bu (cX bC h)
 |cons bD bn ih1=>
  intro i1 bC aq h;rw[gC]at h;refine aM fun N1 bu bq=>?_
  obtain⟨pM,h28,h⟩:=aD h;obtain⟨h29,h⟩:=bX h;exact(((((aU.lt aN.c aq).l (ax aN.c 5 (dc aq) rfl)).g (Ai h28)).w (cG h29)).a [.cn [3,7,8,9] [3]]).cs hΓ bq (ze aB ((bC.map tx)++(pM.map tx)) (IntKind.i64.wrap ((i1:Int)+1))) (by first| (simp only[iS aq hm1,mA]<;>rfl)| (simp only[iS aq hm1,mA,aE.c,aS.c,aN.c,Action.c,aO.c,aJ.c,cx.c,aP.c,Node.c,aF.c,cy.c]<;>rfl)) (ih1 (i1+1) (bC++pM) (dn aq) h)
theorem E9{aB:aO}{r:aT}(h:qn aB=some r):Good prog 125 [D.agg (aO.c aB)] (D.fr 152 2 (r.map aS.c)):=by
 refine gd func125 [[some (152,2)]] 20 fun hr Γ hΓ=>?_
 rw[qn]at h;refine(aU.a [.PT 3,.cn [3,7,8,9] [1]]).lp hΓ (FA hΓ (fun bO h=>?_) (by have:=(dS.sl (dS.agg (hr _ (aC (i:=0) rfl)) (.sl (aB.conds.map aN.c)) (by simp))).1;simpa using this) aB.conds 0 ([]:aI) rfl h);obtain⟨y30,h31,h⟩:=aD h;have h:=aG h;subst h;exact(aU.g (yT h31)).ret hΓ
def iC(aB:Bytes)(aV:aT)(k1:Option Bytes):aT->Nat->Option Bytes
 | [],i1=>(k1)
 |bD::bn,i1=>(bif (bD.var:Bytes)==aB then(some bD.value)else(iC aB aV k1 bn (i1+1)))
def iW(aB:Bytes)(aV:aT):Option Bytes:=(iC aB aV (some aB) aV 0)
def FG(aB:Bytes)(aV:aT)(cS:Int):St:=⟨[(0,D.str aB),(7,D.sl (aV.map aS.c)),(8,D.int .i64 ((aV.map aS.c).length:Int)),(9,D.int .i64 cS)],[]⟩
theorem EH(hΓ:Γ.nt=21){aB:Bytes}{aV:aT}{r:Bytes}{k1:Option Bytes}(cX:k1=some r->Ax Γ N f276 (.q [[none]] (D.str r)) [1,1] ⟨[(0,D.str aB)],[]⟩)(hm1:aV.length<=maxLen):∀(rest:aT) (i1:Nat),aV.drop i1=rest->iC aB aV k1 rest i1=some r->Ar Γ N f276 (.q [[none]] (D.str r)) [1,0,1,0] (rest.length+1) (FG aB aV (i1:Int)):=by
 intro rest
 induction rest with
 |nil=>
  intro i1 aq h;rw[iC]at h;refine aM fun N1 bu bq=>?_
  exact((aU.ge aS.c aq).a [.hl 0 [0] []]).ex hΓ bu (cX h)
 |cons bD bn ih1=>
  intro i1 aq h;rw[iC]at h;refine aM fun N1 bu bq=>?_
  have dJ:=((aU.lt aS.c aq).l (ax aS.c 2 (dc aq) rfl))
  obtain⟨h13,h⟩|⟨h13,h⟩:=aL h
  ·cases h;exact(dJ.b h13).ret hΓ
  ·exact((dJ.b h13).a [.cn [0,7,8,9] []]).ct hΓ bq (iS aq hm1) (ih1 (i1+1) (dn aq) h)
theorem sP{aB:Bytes}{aV:aT}{r:Bytes}(h:iW aB aV=some r):Good prog 276 [D.str aB,D.sl (aV.map aS.c)] (D.str r):=by
 refine gd func276 [[none]] 21 fun hr Γ hΓ=>?_
 rw[iW]at h;refine(aU.a [.cn [0,7,8,9] []]).lp hΓ (EH hΓ (fun h=>?_) (by have:=(dS.sl (hr _ (aC (i:=1) rfl))).1;simpa using this) aV 0 rfl h);have h:=aG h;subst h;exact aU.ret hΓ
def ko(aB:aN)(aV:aT)(y1:Bytes)(y3:Bytes)(k1:aI->Option aN):aI->Nat->aI->Option aN
 | [],i1,lm=>(k1 lm)
 |bD::bn,i1,lm=>((iW bD aV).bind fun Yk=>(bif room ((lm.map tx).length+([[D.str Yk]]).length) 16 then(ko aB aV y1 y3 k1 bn (i1+1) (lm++([Yk])))else none))
def lS(aB:aN)(aV:aT):Option aN:=((iW aB.left aV).bind fun y1=>((iW aB.right aV).bind fun y3=>(ko aB aV y1 y3 (fun(yH:aI)=>(some (⟨aB.kind,(⟨aB.pat.rel,yH⟩:aE),y1,y3⟩:aN))) aB.pat.args 0 ([]:aI))))
def zf(aB:aN)(aV:aT)(y1:Bytes)(y3:Bytes)(W0:List aR)(cS:Int):St:=⟨[(1,D.sl (aV.map aS.c)),(4,D.ptr 0 0),(5,D.ptr 1 0),(26,D.sl (aB.pat.args.map tx)),(27,D.int .i64 ((aB.pat.args.map tx).length:Int)),(28,D.int .i64 cS)],[Ob.box [D.int .i64 0,D.str ([]),D.nil,D.str ([]),D.str ([])],Ob.box [D.int .i64 aB.kind,D.str aB.pat.rel,D.acc 2,D.str y1,D.str y3],Ob.row .uq 9 1 W0]⟩
theorem FB(hΓ:Γ.nt=44){aB:aN}{aV:aT}{y1:Bytes}{y3:Bytes}{r:aN}{k1:aI->Option aN}(cX:∀(yH:aI),k1 yH=some r->Ax Γ N f256 (.q [[none,none,some (9,1),none,none]] (D.agg [D.int .i64 r.kind,D.str r.pat.rel,D.fr 9 1 (r.pat.args.map tx),D.str r.left,D.str r.right])) [1,1,1,1] ⟨[(4,D.ptr 0 0),(5,D.ptr 1 0)],[Ob.box [D.int .i64 0,D.str ([]),D.nil,D.str ([]),D.str ([])],Ob.box [D.int .i64 aB.kind,D.str aB.pat.rel,D.acc 2,D.str y1,D.str y3],Ob.row .uq 9 1 (yH.map tx)]⟩)(hm1:aB.pat.args.length<=maxLen):∀(rest:aI) (i1:Nat) (lm:aI),aB.pat.args.drop i1=rest->ko aB aV y1 y3 k1 rest i1 lm=some r->Ar Γ N f256 (.q [[none,none,some (9,1),none,none]] (D.agg [D.int .i64 r.kind,D.str r.pat.rel,D.fr 9 1 (r.pat.args.map tx),D.str r.left,D.str r.right])) [1,1,1,0,1,0] (rest.length+1) (zf aB aV y1 y3 (lm.map tx) (i1:Int)):=by
 intro rest
 induction rest with
 |nil=>
  intro i1 lm aq h;rw[ko]at h;refine aM fun N1 bu bq=>?_
  exact((aU.ge tx aq).a [.hl 0 [4,5] [0,1,2]]).ex hΓ bu (cX lm h)
 |cons bD bn ih1=>
  intro i1 lm aq h;rw[ko]at h;refine aM fun N1 bu bq=>?_
  obtain⟨Yk,h32,h⟩:=aD h;obtain⟨h33,h⟩:=bX h;exact((((((aU.lt tx aq).l (ax tx 1 (dc aq) rfl)).a [.n 7]).g (sP h32)).w (cG h33)).a [.cn [1,4,5,26,27,28] [0,1,4]]).cs hΓ bq (zf aB aV y1 y3 ((lm.map tx)++([[D.str Yk]])) (IntKind.i64.wrap ((i1:Int)+1))) (by first| (simp only[iS aq hm1,mA]<;>rfl)| (simp only[iS aq hm1,mA,aE.c,aS.c,aN.c,Action.c,aO.c,aJ.c,cx.c,aP.c,Node.c,aF.c,cy.c]<;>rfl)) (ih1 (i1+1) (lm++([Yk])) (dn aq) h)
theorem p6{aB:aN}{aV:aT}{r:aN}(h:lS aB aV=some r):Good prog 256 [D.agg (aN.c aB),D.sl (aV.map aS.c)] (D.agg [D.int .i64 r.kind,D.str r.pat.rel,D.fr 9 1 (r.pat.args.map tx),D.str r.left,D.str r.right]):=by
 refine gd func256 [[none,none,some (9,1),none,none]] 44 fun hr Γ hΓ=>?_
 rw[lS]at h;obtain⟨y1,h2,h⟩:=aD h;obtain⟨y3,h4,h⟩:=aD h;refine((((aU.a [.n 12]).g (sP h2)).g (sP h4)).a [.pb 2 2 9 1,.cn [1,4,5,26,27,28] [1,2,3]]).lp hΓ (FB hΓ (fun yH h=>?_) (by have:=(dS.sl (dS.agg (hr _ (aC (i:=0) rfl)) (.sl (aB.pat.args.map tx)) (by simp))).1;simpa using this) aB.pat.args 0 ([]:aI) rfl h);cases h;exact aU.ret hΓ
def kn(aB:aO)(y1:aT)(k1:aj->Option aj):aj->Nat->aj->Option aj
 | [],i1,cB=>(k1 cB)
 |bD::bn,i1,cB=>((lS bD y1).bind fun I4=>(bif room ((cB.map aN.c).length+([[D.int .i64 I4.kind,D.str I4.pat.rel,D.sl (I4.pat.args.map tx),D.str I4.left,D.str I4.right]]).length) 80 then(kn aB y1 k1 bn (i1+1) (cB++([I4])))else none))
def qm(aB:aO):Option aj:=((qn aB).bind fun y1=>(kn aB y1 (fun(bO:aj)=>(some bO)) aB.conds 0 ([]:aj)))
def zc(aB:aO)(y1:aT)(W0:List aR)(cS:Int):St:=⟨[(3,D.acc 0),(4,D.acc 1),(10,D.sl (aB.conds.map aN.c)),(11,D.int .i64 ((aB.conds.map aN.c).length:Int)),(12,D.int .i64 cS)],[Ob.row .uq 152 2 (y1.map aS.c),Ob.row .uq 115 5 W0]⟩
theorem F9(hΓ:Γ.nt=24){aB:aO}{y1:aT}{r:aj}{k1:aj->Option aj}(cX:∀(bO:aj),k1 bO=some r->Ax Γ N f200 (.q [[some (115,5)]] (D.fr 115 5 (r.map aN.c))) [1,1,1,1] ⟨[(4,D.acc 0)],[Ob.row .uq 115 5 (bO.map aN.c)]⟩)(hm1:aB.conds.length<=maxLen):∀(rest:aj) (i1:Nat) (cB:aj),aB.conds.drop i1=rest->kn aB y1 k1 rest i1 cB=some r->Ar Γ N f200 (.q [[some (115,5)]] (D.fr 115 5 (r.map aN.c))) [1,1,1,0,1,0] (rest.length+1) (zc aB y1 (cB.map aN.c) (i1:Int)):=by
 intro rest
 induction rest with
 |nil=>
  intro i1 cB aq h;rw[kn]at h;refine aM fun N1 bu bq=>?_
  exact((aU.ge aN.c aq).a [.hl 0 [4] [1]]).ex hΓ bu (cX cB h)
 |cons bD bn ih1=>
  intro i1 cB aq h;rw[kn]at h;refine aM fun N1 bu bq=>?_
  obtain⟨I4,h30,h⟩:=aD h;obtain⟨h31,h⟩:=bX h;exact(((((aU.lt aN.c aq).l (ax aN.c 5 (dc aq) rfl)).g (p6 h30)).w (cG h31)).a [.cn [3,4,10,11,12] [0,5]]).cs hΓ bq (zc aB y1 ((cB.map aN.c)++([[D.int .i64 I4.kind,D.str I4.pat.rel,D.sl (I4.pat.args.map tx),D.str I4.left,D.str I4.right]])) (IntKind.i64.wrap ((i1:Int)+1))) (by first| (simp only[iS aq hm1,mA]<;>rfl)| (simp only[iS aq hm1,mA,aE.c,aS.c,aN.c,Action.c,aO.c,aJ.c,cx.c,aP.c,Node.c,aF.c,cy.c]<;>rfl)) (ih1 (i1+1) (cB++([I4])) (dn aq) h)
theorem E8{aB:aO}{r:aj}(h:qm aB=some r):Good prog 200 [D.agg (aO.c aB)] (D.fr 115 5 (r.map aN.c)):=by
 refine gd func200 [[some (115,5)]] 24 fun hr Γ hΓ=>?_
 rw[qm]at h;obtain⟨y1,h2,h⟩:=aD h;refine((aU.g (E9 h2)).a [.PT 4,.cn [3,4,10,11,12] [1,2]]).lp hΓ (F9 hΓ (fun bO h=>?_) (by have:=(dS.sl (dS.agg (hr _ (aC (i:=0) rfl)) (.sl (aB.conds.map aN.c)) (by simp))).1;simpa using this) aB.conds 0 ([]:aj) rfl h);have h:=aG h;subst h;exact aU.ret hΓ
def mK(aB:aI)(aV:aI)(k1:Option Bool):aI->Nat->Option Bool
 | [],i1=>(k1)
 |bD::bn,i1=>((mC aV (i1:Int)).bind fun x22=>(bif !((bD:Bytes)==x22)then(some false)else(mK aB aV k1 bn (i1+1))))
def pS(aB:aI)(aV:aI):Option Bool:=(bif (((aB.map tx).length:Int):Int) != ((aV.map tx).length:Int)then(some false)else(mK aB aV (some true) aB 0))
def Ij(aB:aI)(aV:aI)(cS:Int):St:=⟨[(0,D.sl (aB.map tx)),(1,D.sl (aV.map tx)),(12,D.int .i64 ((aB.map tx).length:Int)),(13,D.int .i64 cS)],[]⟩
theorem GU(hΓ:Γ.nt=26){aB:aI}{aV:aI}{r:Bool}{k1:Option Bool}(cX:k1=some r->Ax Γ N f232 (.q [[none]] (D.bool r)) [1,1,1] ⟨[],[]⟩)(hm1:aB.length<=maxLen):∀(rest:aI) (i1:Nat),aB.drop i1=rest->mK aB aV k1 rest i1=some r->Ar Γ N f232 (.q [[none]] (D.bool r)) [1,1,0,1,0] (rest.length+1) (Ij aB aV (i1:Int)):=by
 intro rest
 induction rest with
 |nil=>
  intro i1 aq h;rw[mK]at h;refine aM fun N1 bu bq=>?_
  exact((aU.ge tx aq).a [.hl 0 [] []]).ex hΓ bu (cX h)
 |cons bD bn ih1=>
  intro i1 aq h;rw[mK]at h;refine aM fun N1 bu bq=>?_
  obtain⟨x22,h23,h⟩:=aD h;have dJ:=((((aU.lt tx aq).a [.n 8]).l (ax tx 1 (dc aq) rfl)).l (dV tx 1 h23 rfl))
  obtain⟨h24,h⟩|⟨h24,h⟩:=aL h
  ·have h:=aG h;subst h;exact(dJ.b h24).ret hΓ
  ·exact((dJ.b h24).a [.cn [0,1,12,13] []]).ct hΓ bq (iS aq hm1) (ih1 (i1+1) (dn aq) h)
theorem yx{aB:aI}{aV:aI}{r:Bool}(h:pS aB aV=some r):Good prog 232 [D.sl (aB.map tx),D.sl (aV.map tx)] (D.bool r):=by
 refine gd func232 [[none]] 26 fun hr Γ hΓ=>?_
 rw[pS]at h;obtain⟨h1,h⟩|⟨h1,h⟩:=aL h
 ·have h:=aG h;subst h;exact(aU.b h1).ret hΓ
 ·refine((aU.b h1).a [.cn [0,1,12,13] []]).lp hΓ (GU hΓ (fun h=>?_) (by have:=(dS.sl (hr _ (aC (i:=0) rfl))).1;simpa using this) aB 0 rfl h);have h:=aG h;subst h;exact aU.ret hΓ
def fH(aB:aE)(aV:aE):Option Bool:=(bif (aB.rel:Bytes)==aV.rel then((pS aB.args aV.args).bind fun y2=>(some y2))else(some false))
theorem o8{aB:aE}{aV:aE}{r:Bool}(h:fH aB aV=some r):Good prog 159 [D.agg (aE.c aB),D.agg (aE.c aV)] (D.bool r):=by
 refine gd func159 [[none]] 17 fun hr Γ hΓ=>?_
 rw[fH]at h;obtain⟨h1,h⟩|⟨h1,h⟩:=aL h
 ·obtain⟨y2,h3,h⟩:=aD h;have h:=aG h;subst h;exact(((aU.r 5 h1).g (yx h3)).b h1).ret hΓ
 ·have h:=aG h;subst h;exact(aU.r 6 h1).ret hΓ
def jx(aB:aN)(aV:aN):Option Bool:=(bif (aB.kind:Int)==aV.kind then(bif (aB.left:Bytes)==aV.left then(bif (aB.right:Bytes)==aV.right then((fH aB.pat aV.pat).bind fun y4=>(some y4))else(some false))else(some false))else(some false))
theorem vc{aB:aN}{aV:aN}{r:Bool}(h:jx aB aV=some r):Good prog 160 [D.agg (aN.c aB),D.agg (aN.c aV)] (D.bool r):=by
 refine gd func160 [[none]] 31 fun hr Γ hΓ=>?_
 rw[jx]at h;obtain⟨h1,h⟩|⟨h1,h⟩:=aL h
 ·have jz:=(aU.r 6 h1)
  obtain⟨h2,h⟩|⟨h2,h⟩:=aL h
  ·have dJ:=(jz.r 6 h2)
   obtain⟨h3,h⟩|⟨h3,h⟩:=aL h
   ·obtain⟨y4,h5,h⟩:=aD h;have h:=aG h;subst h;exact(((dJ.r 5 h3).g (o8 h5)).b h3).ret hΓ
   ·have h:=aG h;subst h;exact(dJ.r 6 h3).ret hΓ
  ·have h:=aG h;subst h;exact((jz.r 6 h2).F 6).ret hΓ
 ·have h:=aG h;subst h;exact((aU.r 6 h1).F 12).ret hΓ
def sJ(aB:aE):Option aE:=((oA aB.args).bind fun y1=>((lS (⟨0,aB,[],[]⟩:aN) y1).bind fun y3=>(some y3.pat)))
theorem Ae{aB:aE}{r:aE}(h:sJ aB=some r):Good prog 258 [D.agg (aE.c aB)] (D.agg [D.str r.rel,D.fr 9 1 (r.args.map tx)]):=by
 refine gd func258 [[none,some (9,1)]] 10 fun hr Γ hΓ=>?_
 rw[sJ]at h;obtain⟨y1,h2,h⟩:=aD h;obtain⟨y3,h4,h⟩:=aD h;cases h;exact((((aU.a [.n 5]).g (yT h2)).a [.d (D.agg [D.int .i64 y3.kind,D.str y3.pat.rel,D.fr 9 1 (y3.pat.args.map tx),D.str y3.left,D.str y3.right])]).w (show Good prog 256 [D.agg [D.int .i64 0,D.str aB.rel,D.sl (aB.args.map tx),D.str ([]),D.str ([])],D.sl (y1.map aS.c)] (D.agg [D.int .i64 y3.kind,D.str y3.pat.rel,D.fr 9 1 (y3.pat.args.map tx),D.str y3.left,D.str y3.right])from by first| (simpa only[bS,bG,bV,dH,cz]using p6 h4)|exact p6 h4| (have t:=p6 h4;simp only[bS,dH,cz,aN.c]at t;exact t))).ret hΓ
def eT(aB:aF)(aV:aE)(k1:Option (aF×Int)):b8->Nat->Option (aF×Int)
 | [],i1=>(k1)
 |bD::bn,i1=>((fH bD.shape aV).bind fun lI=>(bif lI then(some (aB,(i1:Int)))else(eT aB aV k1 bn (i1+1))))
def iL(aB:aF)(aV:aE):Option (aF×Int):=(bif decide (aB.ay.length<=maxLen)then(eT aB aV (bif room ((aB.ay.map aP.c).length+([[D.str aV.rel,D.sl (aV.args.map tx),D.sl ([])]]).length) 64 then(some ((⟨aB.rules,aB.ends,aB.ay++([(⟨aV,[]⟩:aP)]),aB.nodes,aB.facts,aB.cK⟩:aF),IntKind.i64.wrap ((((aB.ay.map aP.c)++([[D.str aV.rel,D.sl (aV.args.map tx),D.sl ([])]])).length:Int)-1)))else none) aB.ay 0)else none)
def BY(ey:Value)(aB:aF)(aV:aE)(cS:Int):St:=⟨[(0,D.ptr 0 0),(3,D.ptr 1 0),(10,D.acc 2),(11,D.int .i64 ((aB.ay.map aP.c).length:Int)),(12,D.int .i64 cS)],[Ob.PS [D.acc 3,D.acc 4,D.acc 2,D.acc 5,D.acc 6,D.int .i64 aB.cK] ey,Ob.box [D.str aV.rel,D.acc 7],Ob.row .uq 111 3 (aB.ay.map aP.c),Ob.row .uq 105 4 (aB.rules.map aO.c),Ob.row .uq 3 1 (aB.ends.map dZ),Ob.row .uq 118 8 (aB.nodes.map Node.c),Ob.row .uq 53 2 (aB.facts.map aE.c),Ob.row .uq 9 1 (aV.args.map tx)]⟩
theorem B3(hΓ:Γ.nt=40){ey:Value}{aB:aF}{aV:aE}{r:aF×Int}{k1:Option (aF×Int)}(cX:k1=some r->Ax Γ N f257 (.p [[some (105,4),some (3,1),some (111,3),some (118,8),some (53,2),none],[none]] ey (cU r.1) (D.int .i64 r.2)) [1,1] ⟨[(0,D.ptr 0 0),(3,D.ptr 1 0)],[Ob.PS [D.acc 2,D.acc 3,D.acc 4,D.acc 5,D.acc 6,D.int .i64 aB.cK] ey,Ob.box [D.str aV.rel,D.acc 7],Ob.row .uq 105 4 (aB.rules.map aO.c),Ob.row .uq 3 1 (aB.ends.map dZ),Ob.row .uq 111 3 (aB.ay.map aP.c),Ob.row .uq 118 8 (aB.nodes.map Node.c),Ob.row .uq 53 2 (aB.facts.map aE.c),Ob.row .uq 9 1 (aV.args.map tx)]⟩)(hm1:aB.ay.length<=maxLen):∀(rest:b8) (i1:Nat),aB.ay.drop i1=rest->eT aB aV k1 rest i1=some r->Ar Γ N f257 (.p [[some (105,4),some (3,1),some (111,3),some (118,8),some (53,2),none],[none]] ey (cU r.1) (D.int .i64 r.2)) [1,0,1,0] (rest.length+1) (BY ey aB aV (i1:Int)):=by
 intro rest
 induction rest with
 |nil=>
  intro i1 aq h;rw[eT]at h;refine aM fun N1 bu bq=>?_
  exact((aU.ge aP.c aq).a [.hl 0 [0,3] [0,1,3,4,2,5,6,7]]).ex hΓ bu (cX h)
 |cons bD bn ih1=>
  intro i1 aq h;rw[eT]at h;refine aM fun N1 bu bq=>?_
  obtain⟨lI,h23,h⟩:=aD h;have dJ:=((((aU.lt aP.c aq).i (p9 aP.c 3 (dc aq))).o 3 3 .uq (dB aP.c (dc aq))).g (o8 h23))
  obtain⟨h24,h⟩|⟨h24,h⟩:=aL h
  ·cases h;exact(dJ.b h24).ret hΓ
  ·exact((dJ.b h24).a [.cn [0,3,10,11,12] [0,1,2,3,4,5,6,7]]).ct hΓ bq (iS aq hm1) (ih1 (i1+1) (dn aq) h)
theorem th{aB:aF}{aV:aE}{r:aF×Int}(h:iL aB aV=some r):BR prog 257 (cU aB) (cU r.1) [D.agg [D.str aV.rel,D.fr 9 1 (aV.args.map tx)]] (D.int .i64 r.2):=by
 refine gdP func257 [[some (105,4),some (3,1),some (111,3),some (118,8),some (53,2),none],[none]] 40 [D.acc 1,D.acc 2,D.acc 3,D.acc 4,D.acc 5,D.int .i64 aB.cK] [D.agg [D.str aV.rel,D.acc 6]] [Ob.row .uq 105 4 (aB.rules.map aO.c),Ob.row .uq 3 1 (aB.ends.map dZ),Ob.row .uq 111 3 (aB.ay.map aP.c),Ob.row .uq 118 8 (aB.nodes.map Node.c),Ob.row .uq 53 2 (aB.facts.map aE.c),Ob.row .uq 9 1 (aV.args.map tx)] fun hr ey Γ hΓ=>?_
 rw[iL]at h;obtain⟨h27,h⟩:=bX h;refine(aU.a [.cn [0,3,10,11,12] [0,7,3,1,2,4,5,6]]).lp hΓ (B3 hΓ (fun h=>?_) (bt h27) aB.ay 0 rfl h);obtain⟨h26,h⟩:=bX h;cases h;exact((aU.w (cG h26)).a [.n2 [0,1,2,3,4,5,6,7,8,9,10,11] [0,1,2,3,4,5,6,7,8,9,10,11] 7 9 [0,1,2,3,4] [4,7,8]]).rts hΓ (D.gb [D.int .i64 (IntKind.i64.wrap ((((aB.ay.map aP.c)++([[D.str aV.rel,D.sl (aV.args.map tx),D.sl ([])]])).length:Int)-1)),D.agg [D.fr 105 4 (aB.rules.map aO.c),D.fr 3 1 (aB.ends.map dZ),D.fr 111 3 ((aB.ay.map aP.c)++([[D.str aV.rel,D.sl (aV.args.map tx),D.sl ([])]])),D.fr 118 8 (aB.nodes.map Node.c),D.fr 53 2 (aB.facts.map aE.c),D.int .i64 aB.cK],D.val ey]) (by first|rfl| (simp only[mA]<;>rfl)| (simp only[cU,mA]<;>rfl))
def dA(aB:aF)(aV:Int)(cV:aN)(k1:Option (aF×Int)):az->Nat->Option (aF×Int)
 | [],i1=>(k1)
 |bD::bn,i1=>(bif decide (((i1:Int):Int)>0)then(bif (bD.parent:Int)==aV then((jx bD.cond cV).bind fun Dt=>(bif Dt then(some (aB,(i1:Int)))else(dA aB aV cV k1 bn (i1+1))))else(dA aB aV cV k1 bn (i1+1)))else(dA aB aV cV k1 bn (i1+1)))
def kY(aB:aF)(aV:Int)(cV:aN):Option (aF×Int):=(bif decide (aB.nodes.length<=maxLen)then(dA aB aV cV (bif (cV.kind:Int)==1 then((sJ cV.pat).bind fun I5=>((iL aB I5).bind fun Nr=>((er cV).bind fun F0=>(bif room ((Nr.1.nodes.map Node.c).length+([[D.int .i64 aV,D.int .i64 F0.kind,D.str F0.pat.rel,D.sl (F0.pat.args.map tx),D.str F0.left,D.str F0.right,D.int .i64 Nr.2,D.sl ([])]]).length) 120 then(some ((⟨Nr.1.rules,Nr.1.ends,Nr.1.ay,Nr.1.nodes++([(⟨aV,F0,Nr.2,[]⟩:Node)]),Nr.1.facts,Nr.1.cK⟩:aF),IntKind.i64.wrap ((((Nr.1.nodes.map Node.c)++([[D.int .i64 aV,D.int .i64 F0.kind,D.str F0.pat.rel,D.sl (F0.pat.args.map tx),D.str F0.left,D.str F0.right,D.int .i64 Nr.2,D.sl ([])]])).length:Int)-1)))else none))))else(bif (cV.kind:Int)==2 then((sJ cV.pat).bind fun y47=>((iL aB y47).bind fun Ju=>((er cV).bind fun PY=>(bif room ((Ju.1.nodes.map Node.c).length+([[D.int .i64 aV,D.int .i64 PY.kind,D.str PY.pat.rel,D.sl (PY.pat.args.map tx),D.str PY.left,D.str PY.right,D.int .i64 Ju.2,D.sl ([])]]).length) 120 then(some ((⟨Ju.1.rules,Ju.1.ends,Ju.1.ay,Ju.1.nodes++([(⟨aV,PY,Ju.2,[]⟩:Node)]),Ju.1.facts,Ju.1.cK⟩:aF),IntKind.i64.wrap ((((Ju.1.nodes.map Node.c)++([[D.int .i64 aV,D.int .i64 PY.kind,D.str PY.pat.rel,D.sl (PY.pat.args.map tx),D.str PY.left,D.str PY.right,D.int .i64 Ju.2,D.sl ([])]])).length:Int)-1)))else none))))else((er cV).bind fun RH=>(bif room ((aB.nodes.map Node.c).length+([[D.int .i64 aV,D.int .i64 RH.kind,D.str RH.pat.rel,D.sl (RH.pat.args.map tx),D.str RH.left,D.str RH.right,D.int .i64 (-1),D.sl ([])]]).length) 120 then(some ((⟨aB.rules,aB.ends,aB.ay,aB.nodes++([(⟨aV,RH, -1,[]⟩:Node)]),aB.facts,aB.cK⟩:aF),IntKind.i64.wrap ((((aB.nodes.map Node.c)++([[D.int .i64 aV,D.int .i64 RH.kind,D.str RH.pat.rel,D.sl (RH.pat.args.map tx),D.str RH.left,D.str RH.right,D.int .i64 (-1),D.sl ([])]])).length:Int)-1)))else none)))) aB.nodes 0)else none)
def BZ(ey:Value)(aB:aF)(aV:Int)(cV:aN)(cS:Int):St:=⟨[(0,D.ptr 0 0),(1,D.int .i64 aV),(5,D.ptr 1 0),(13,D.acc 2),(14,D.int .i64 ((aB.nodes.map Node.c).length:Int)),(15,D.int .i64 cS)],[Ob.PS [D.acc 3,D.acc 4,D.acc 5,D.acc 2,D.acc 6,D.int .i64 aB.cK] ey,Ob.box (aN.c cV),Ob.row .uq 118 8 (aB.nodes.map Node.c),Ob.row .uq 105 4 (aB.rules.map aO.c),Ob.row .uq 3 1 (aB.ends.map dZ),Ob.row .uq 111 3 (aB.ay.map aP.c),Ob.row .uq 53 2 (aB.facts.map aE.c)]⟩
theorem B4(hΓ:Γ.nt=69){ey:Value}{aB:aF}{aV:Int}{cV:aN}{r:aF×Int}{k1:Option (aF×Int)}(cX:k1=some r->Ax Γ N f201 (.p [[some (105,4),some (3,1),some (111,3),some (118,8),some (53,2),none],[none]] ey (cU r.1) (D.int .i64 r.2)) [1,1] ⟨[(0,D.ptr 0 0),(1,D.int .i64 aV),(5,D.ptr 1 0)],[Ob.PS [D.acc 2,D.acc 3,D.acc 4,D.acc 5,D.acc 6,D.int .i64 aB.cK] ey,Ob.box (aN.c cV),Ob.row .uq 105 4 (aB.rules.map aO.c),Ob.row .uq 3 1 (aB.ends.map dZ),Ob.row .uq 111 3 (aB.ay.map aP.c),Ob.row .uq 118 8 (aB.nodes.map Node.c),Ob.row .uq 53 2 (aB.facts.map aE.c)]⟩)(hm1:aB.nodes.length<=maxLen):∀(rest:az) (i1:Nat),aB.nodes.drop i1=rest->dA aB aV cV k1 rest i1=some r->Ar Γ N f201 (.p [[some (105,4),some (3,1),some (111,3),some (118,8),some (53,2),none],[none]] ey (cU r.1) (D.int .i64 r.2)) [1,0,1,0] (rest.length+1) (BZ ey aB aV cV (i1:Int)):=by
 intro rest
 induction rest with
 |nil=>
  intro i1 aq h;rw[dA]at h;refine aM fun N1 bu bq=>?_
  exact((aU.ge Node.c aq).a [.hl 0 [0,1,5] [0,1,3,4,5,2,6]]).ex hΓ bu (cX h)
 |cons bD bn ih1=>
  intro i1 aq h;rw[dA]at h;refine aM fun N1 bu bq=>?_
  have jN:=(((aU.lt Node.c aq).i (p9 Node.c 8 (dc aq))).o 8 8 .uq (dB Node.c (dc aq)))
  obtain⟨h30,h⟩|⟨h30,h⟩:=aL h
  ·have uY:=(jN.r 5 h30)
   obtain⟨h31,h⟩|⟨h31,h⟩:=aL h
   ·obtain⟨Dt,h33,h⟩:=aD h;have wX:=(((uY.r 4 h31).g (vc h33)).b h31)
    obtain⟨h34,h⟩|⟨h34,h⟩:=aL h
    ·cases h;exact(wX.b h34).ret hΓ
    ·exact((wX.b h34).a [.cn [0,1,5,13,14,15] [0,1,2,3,4,5,6]]).ct hΓ bq (iS aq hm1) (ih1 (i1+1) (dn aq) h)
   ·exact(((uY.r 5 h31).F 1).a [.cn [0,1,5,13,14,15] [0,1,2,3,4,5,6]]).ct hΓ bq (iS aq hm1) (ih1 (i1+1) (dn aq) h)
  ·exact(((jN.r 5 h30).F 6).a [.cn [0,1,5,13,14,15] [0,1,2,3,4,5,6]]).ct hΓ bq (iS aq hm1) (ih1 (i1+1) (dn aq) h)
theorem AP{aB:aF}{aV:Int}{cV:aN}{r:aF×Int}(h:kY aB aV cV=some r):BR prog 201 (cU aB) (cU r.1) [D.int .i64 aV,D.agg (aN.c cV)] (D.int .i64 r.2):=by
 refine gdP func201 [[some (105,4),some (3,1),some (111,3),some (118,8),some (53,2),none],[none]] 69 [D.acc 1,D.acc 2,D.acc 3,D.acc 4,D.acc 5,D.int .i64 aB.cK] [D.int .i64 aV,D.agg [D.int .i64 cV.kind,D.str cV.pat.rel,D.sl (cV.pat.args.map tx),D.str cV.left,D.str cV.right]] [Ob.row .uq 105 4 (aB.rules.map aO.c),Ob.row .uq 3 1 (aB.ends.map dZ),Ob.row .uq 111 3 (aB.ay.map aP.c),Ob.row .uq 118 8 (aB.nodes.map Node.c),Ob.row .uq 53 2 (aB.facts.map aE.c)] fun hr ey Γ hΓ=>?_
 rw[kY]at h;obtain⟨h63,h⟩:=bX h;refine(aU.a [.cn [0,1,5,13,14,15] [0,6,4,1,2,3,5]]).lp hΓ (B4 hΓ (fun h=>?_) (bt h63) aB.nodes 0 rfl h);obtain⟨h35,h⟩|⟨h35,h⟩:=aL h
 ·obtain⟨I5,h37,h⟩:=aD h;obtain⟨Nr,h39,h⟩:=aD h;obtain⟨F0,h44,h⟩:=aD h;obtain⟨h45,h⟩:=bX h;cases h;exact(((((((aU.r 4 h35).T 1).g (Ae h37)).hp [[some (105,4),some (3,1),some (111,3),some (118,8),some (53,2),none],[none,some (9,1)]] (th h39)).a [.n2 [0,1,2,3,4,5,6,7,8,9,10,11,12,13,14] [0,1,2,3,4,5,6,7,8,9,10,11,12,13,14] 10 12 [0,1,2,3,4] [11,13,14]]).g (kp h44)).w (cG h45)).rts hΓ (D.gb [D.int .i64 (IntKind.i64.wrap ((((Nr.1.nodes.map Node.c)++([[D.int .i64 aV,D.int .i64 F0.kind,D.str F0.pat.rel,D.sl (F0.pat.args.map tx),D.str F0.left,D.str F0.right,D.int .i64 Nr.2,D.sl ([])]])).length:Int)-1)),D.agg [D.fr 105 4 (Nr.1.rules.map aO.c),D.fr 3 1 (Nr.1.ends.map dZ),D.fr 111 3 (Nr.1.ay.map aP.c),D.fr 118 8 ((Nr.1.nodes.map Node.c)++([[D.int .i64 aV,D.int .i64 F0.kind,D.str F0.pat.rel,D.sl (F0.pat.args.map tx),D.str F0.left,D.str F0.right,D.int .i64 Nr.2,D.sl ([])]])),D.fr 53 2 (Nr.1.facts.map aE.c),D.int .i64 Nr.1.cK],D.val ey]) (by first|rfl| (simp only[mA]<;>rfl)| (simp only[cU,mA]<;>rfl))
 ·have AG:=(aU.r 4 h35)
  obtain⟨h46,h⟩|⟨h46,h⟩:=aL h
  ·obtain⟨y47,h48,h⟩:=aD h;obtain⟨Ju,h50,h⟩:=aD h;obtain⟨PY,h55,h⟩:=aD h;obtain⟨h56,h⟩:=bX h;cases h;exact((((((AG.b h46).g (Ae h48)).hp [[some (105,4),some (3,1),some (111,3),some (118,8),some (53,2),none],[none,some (9,1)]] (th h50)).a [.n2 [0,1,2,3,4,5,6,7,8,9,10,11,12,13,14] [0,1,2,3,4,5,6,7,8,9,10,11,12,13,14] 10 12 [0,1,2,3,4] [11,13,14]]).g (kp h55)).w (cG h56)).rts hΓ (D.gb [D.int .i64 (IntKind.i64.wrap ((((Ju.1.nodes.map Node.c)++([[D.int .i64 aV,D.int .i64 PY.kind,D.str PY.pat.rel,D.sl (PY.pat.args.map tx),D.str PY.left,D.str PY.right,D.int .i64 Ju.2,D.sl ([])]])).length:Int)-1)),D.agg [D.fr 105 4 (Ju.1.rules.map aO.c),D.fr 3 1 (Ju.1.ends.map dZ),D.fr 111 3 (Ju.1.ay.map aP.c),D.fr 118 8 ((Ju.1.nodes.map Node.c)++([[D.int .i64 aV,D.int .i64 PY.kind,D.str PY.pat.rel,D.sl (PY.pat.args.map tx),D.str PY.left,D.str PY.right,D.int .i64 Ju.2,D.sl ([])]])),D.fr 53 2 (Ju.1.facts.map aE.c),D.int .i64 Ju.1.cK],D.val ey]) (by first|rfl| (simp only[mA]<;>rfl)| (simp only[cU,mA]<;>rfl))
  ·obtain⟨RH,h61,h⟩:=aD h;obtain⟨h62,h⟩:=bX h;cases h;exact((((AG.b h46).a [.n2 [0,1,2,3,4,5,6,7,8,9,10,11,12,13,14] [0,1,2,3,4,5,6,7,8,9,10,11,12,13,14] 10 12 [0,1,2,3,4] [5,7,8]]).g (kp h61)).w (cG h62)).rts hΓ (D.gb [D.int .i64 (IntKind.i64.wrap ((((aB.nodes.map Node.c)++([[D.int .i64 aV,D.int .i64 RH.kind,D.str RH.pat.rel,D.sl (RH.pat.args.map tx),D.str RH.left,D.str RH.right,D.int .i64 (-1),D.sl ([])]])).length:Int)-1)),D.agg [D.fr 105 4 (aB.rules.map aO.c),D.fr 3 1 (aB.ends.map dZ),D.fr 111 3 (aB.ay.map aP.c),D.fr 118 8 ((aB.nodes.map Node.c)++([[D.int .i64 aV,D.int .i64 RH.kind,D.str RH.pat.rel,D.sl (RH.pat.args.map tx),D.str RH.left,D.str RH.right,D.int .i64 (-1),D.sl ([])]])),D.fr 53 2 (aB.facts.map aE.c),D.int .i64 aB.cK],D.val ey]) (by first|rfl| (simp only[mA]<;>rfl)| (simp only[cU,mA]<;>rfl))
def jW(aB:au)(i1:Nat)(Lz:aj)(k2:Int->Int->au->bJ->b8->az->aQ->Option aF):aj->Nat->Int->Int->au->bJ->b8->az->aQ->Option aF
 | [],i2,tL,oc,D0,ou,wP,wQ,rZ=>(k2 tL oc D0 ou wP wQ rZ)
 |lM::wF,i2,tL,oc,D0,ou,wP,wQ,rZ=>((kY (⟨D0,ou,wP,wQ,rZ,oc⟩:aF) tL lM).bind fun zN=>(jW aB i1 Lz k2 wF (i2+1) zN.2 zN.1.cK zN.1.rules zN.1.ends zN.1.ay zN.1.nodes zN.1.facts))
def jV(aB:au)(k1:Int->au->bJ->b8->az->aQ->Option aF):au->Nat->Int->au->bJ->b8->az->aQ->Option aF
 | [],i1,oa,lm,gf,wu,qK,Cz=>(k1 oa lm gf wu qK Cz)
 |bD::bn,i1,oa,lm,gf,wu,qK,Cz=>((qm bD).bind fun Lz=>(bif decide (Lz.length<=maxLen)then(jW aB i1 Lz (fun(BG:Int) (oZ:Int) (Lp:au) (C3:bJ) (Lr:b8) (vM:az) (Ls:aQ)=>(bif room ((C3.map dZ).length+([[D.int .i64 BG]]).length) 8 then(jV aB k1 bn (i1+1) oZ Lp (C3++([BG])) Lr vM Ls)else none)) Lz 0 0 oa lm gf wu qK Cz)else none))
def sR(aB:au):Option aF:=((pQ aB).bind fun y1=>(jV aB (fun(wC:Int) (yH:au) (iI:bJ) (Qz:b8) (rY:az) (wB:aQ)=>(some (⟨yH,iI,Qz,rY,wB,wC⟩:aF))) aB 0 0 y1 ([]:bJ) ([]:b8) ([(⟨-1,(⟨0,(⟨[],[]⟩:aE),[],[]⟩:aN), -1,[]⟩:Node)]) ([]:aQ)))
def wh(aB:au)(oa:Int)(W1:List aR)(W2:List aR)(W3:List aR)(W4:List aR)(W5:List aR)(cS:Int):St:=⟨[(2,D.ptr 0 0),(3,D.ptr 1 0),(14,D.sl (aB.map aO.c)),(15,D.int .i64 ((aB.map aO.c).length:Int)),(16,D.int .i64 cS)],[Ob.box [D.nil,D.nil,D.nil,D.nil,D.nil,D.int .i64 0],Ob.box [D.acc 2,D.acc 3,D.acc 4,D.acc 5,D.acc 6,D.int .i64 oa],Ob.row .uq 105 4 W1,Ob.row .uq 3 1 W2,Ob.row .uq 111 3 W3,Ob.row .uq 118 8 W4,Ob.row .uq 53 2 W5]⟩
def Ik(aB:au)(i1:Nat)(Lz:aj)(tL:Int)(oc:Int)(W2:List aR)(W3:List aR)(W4:List aR)(W5:List aR)(W6:List aR)(cS:Int):St:=⟨[(2,D.ptr 0 0),(3,D.ptr 1 0),(6,D.int .i64 tL),(14,D.sl (aB.map aO.c)),(15,D.int .i64 ((aB.map aO.c).length:Int)),(16,D.int .i64 (i1:Int)),(21,D.acc 2),(22,D.int .i64 ((Lz.map aN.c).length:Int)),(23,D.int .i64 cS)],[Ob.box [D.nil,D.nil,D.nil,D.nil,D.nil,D.int .i64 0],Ob.box [D.acc 3,D.acc 4,D.acc 5,D.acc 6,D.acc 7,D.int .i64 oc],Ob.row .uq 115 5 (Lz.map aN.c),Ob.row .uq 105 4 W2,Ob.row .uq 3 1 W3,Ob.row .uq 111 3 W4,Ob.row .uq 118 8 W5,Ob.row .uq 53 2 W6]⟩
theorem GX(hΓ:Γ.nt=39){aB:au}{i1:Nat}{Lz:aj}{r:aF}{k2:Int->Int->au->bJ->b8->az->aQ->Option aF}(CV:∀(BG:Int) (oZ:Int) (Lp:au) (C3:bJ) (Lr:b8) (vM:az) (Ls:aQ),k2 BG oZ Lp C3 Lr vM Ls=some r->Ax Γ N f134 (.q [[some (105,4),some (3,1),some (111,3),some (118,8),some (53,2),none]] (D.agg [D.fr 105 4 (r.rules.map aO.c),D.fr 3 1 (r.ends.map dZ),D.fr 111 3 (r.ay.map aP.c),D.fr 118 8 (r.nodes.map Node.c),D.fr 53 2 (r.facts.map aE.c),D.int .i64 r.cK])) [1,1,0,1,0,0,1,1,0,0,1,1,1] ⟨[(2,D.ptr 0 0),(3,D.ptr 1 0),(6,D.int .i64 BG),(14,D.sl (aB.map aO.c)),(15,D.int .i64 ((aB.map aO.c).length:Int)),(16,D.int .i64 (i1:Int))],[Ob.box [D.nil,D.nil,D.nil,D.nil,D.nil,D.int .i64 0],Ob.box [D.acc 2,D.acc 3,D.acc 4,D.acc 5,D.acc 6,D.int .i64 oZ],Ob.row .uq 105 4 (Lp.map aO.c),Ob.row .uq 3 1 (C3.map dZ),Ob.row .uq 111 3 (Lr.map aP.c),Ob.row .uq 118 8 (vM.map Node.c),Ob.row .uq 53 2 (Ls.map aE.c)]⟩)(hm2:Lz.length<=maxLen):∀(rest:aj) (i2:Nat) (tL:Int) (oc:Int) (D0:au) (ou:bJ) (wP:b8) (wQ:az) (rZ:aQ),Lz.drop i2=rest->jW aB i1 Lz k2 rest i2 tL oc D0 ou wP wQ rZ=some r->Ar Γ N f134 (.q [[some (105,4),some (3,1),some (111,3),some (118,8),some (53,2),none]] (D.agg [D.fr 105 4 (r.rules.map aO.c),D.fr 3 1 (r.ends.map dZ),D.fr 111 3 (r.ay.map aP.c),D.fr 118 8 (r.nodes.map Node.c),D.fr 53 2 (r.facts.map aE.c),D.int .i64 r.cK])) [1,1,0,1,0,0,1,1,0,0,1,1,0,1,0] (rest.length+1) (Ik aB i1 Lz tL oc (D0.map aO.c) (ou.map dZ) (wP.map aP.c) (wQ.map Node.c) (rZ.map aE.c) (i2:Int)):=by
 intro rest
 induction rest with
 |nil=>
  intro i2 tL oc D0 ou wP wQ rZ hd2 h;rw[jW]at h;refine aM fun N2 xM uT=>?_
  exact((aU.ge aN.c hd2).a [.hl 5 [2,3,6,14,15,16] [0,1,3,4,5,6,7]]).ex hΓ xM (CV tL oc D0 ou wP wQ rZ h)
 |cons lM wF ih2=>
  intro i2 tL oc D0 ou wP wQ rZ hd2 h;rw[jW]at h;refine aM fun N2 xM uT=>?_
  obtain⟨zN,h209,h⟩:=aD h;exact((((((aU.lt aN.c hd2).i (p9 aN.c 5 (dc hd2))).o 5 5 .uq (dB aN.c (dc hd2))).a [.gp [[some (105,4),some (3,1),some (111,3),some (118,8),some (53,2),none],[none],[none,none,none,none,none]] (cU zN.1) (D.int .i64 zN.2)]).w (show BR prog 201 (cU (⟨D0,ou,wP,wQ,rZ,oc⟩:aF)) (cU zN.1) [D.int .i64 tL,D.agg (aN.c lM)] (D.int .i64 zN.2)from by simpa only[bS,bG,bV,dH,cz]using AP h209)).a [.cn [2,3,6,14,15,16,21,22,23] [0,1,2,9,10,11,12,13]]).ct hΓ uT (iS hd2 hm2) (ih2 (i2+1) zN.2 zN.1.cK zN.1.rules zN.1.ends zN.1.ay zN.1.nodes zN.1.facts (dn hd2) h)
theorem GW(hΓ:Γ.nt=39){aB:au}{r:aF}{k1:Int->au->bJ->b8->az->aQ->Option aF}(cX:∀(wC:Int) (yH:au) (iI:bJ) (Qz:b8) (rY:az) (wB:aQ),k1 wC yH iI Qz rY wB=some r->Ax Γ N f134 (.q [[some (105,4),some (3,1),some (111,3),some (118,8),some (53,2),none]] (D.agg [D.fr 105 4 (r.rules.map aO.c),D.fr 3 1 (r.ends.map dZ),D.fr 111 3 (r.ay.map aP.c),D.fr 118 8 (r.nodes.map Node.c),D.fr 53 2 (r.facts.map aE.c),D.int .i64 r.cK])) [1,1,1] ⟨[(2,D.ptr 0 0),(3,D.ptr 1 0)],[Ob.box [D.nil,D.nil,D.nil,D.nil,D.nil,D.int .i64 0],Ob.box [D.acc 2,D.acc 3,D.acc 4,D.acc 5,D.acc 6,D.int .i64 wC],Ob.row .uq 105 4 (yH.map aO.c),Ob.row .uq 3 1 (iI.map dZ),Ob.row .uq 111 3 (Qz.map aP.c),Ob.row .uq 118 8 (rY.map Node.c),Ob.row .uq 53 2 (wB.map aE.c)]⟩)(hm1:aB.length<=maxLen):∀(rest:au) (i1:Nat) (oa:Int) (lm:au) (gf:bJ) (wu:b8) (qK:az) (Cz:aQ),aB.drop i1=rest->jV aB k1 rest i1 oa lm gf wu qK Cz=some r->Ar Γ N f134 (.q [[some (105,4),some (3,1),some (111,3),some (118,8),some (53,2),none]] (D.agg [D.fr 105 4 (r.rules.map aO.c),D.fr 3 1 (r.ends.map dZ),D.fr 111 3 (r.ay.map aP.c),D.fr 118 8 (r.nodes.map Node.c),D.fr 53 2 (r.facts.map aE.c),D.int .i64 r.cK])) [1,1,0,1,0] (rest.length+1) (wh aB oa (lm.map aO.c) (gf.map dZ) (wu.map aP.c) (qK.map Node.c) (Cz.map aE.c) (i1:Int)):=by
 intro rest
 induction rest with
 |nil=>
  intro i1 oa lm gf wu qK Cz aq h;rw[jV]at h;refine aM fun N1 bu bq=>?_
  exact((aU.ge aO.c aq).a [.hl 0 [2,3] [0,1,2,3,4,5,6]]).ex hΓ bu (cX oa lm gf wu qK Cz h)
 |cons bD bn ih1=>
  intro i1 oa lm gf wu qK Cz aq h;rw[jV]at h;refine aM fun N1 bu bq=>?_
  obtain⟨Lz,h180,h⟩:=aD h;obtain⟨h211,h⟩:=bX h;refine((((aU.lt aO.c aq).l (ax aO.c 4 (dc aq) rfl)).g (E8 h180)).a [.cn [2,3,6,14,15,16,21,22,23] [0,1,8,2,3,4,5,6]]).lp hΓ (GX hΓ (fun BG oZ Lp C3 Lr vM Ls h=>?_) (bt h211) Lz 0 0 oa lm gf wu qK Cz rfl h);obtain⟨h210,h⟩:=bX h;exact((aU.w (cG h210)).a [.cn [2,3,14,15,16] [0,1,2,8,4,5,6]]).cs hΓ bq (wh aB oZ (Lp.map aO.c) ((C3.map dZ)++([[D.int .i64 BG]])) (Lr.map aP.c) (vM.map Node.c) (Ls.map aE.c) (IntKind.i64.wrap ((i1:Int)+1))) (by first| (simp only[iS aq hm1,mA]<;>rfl)| (simp only[iS aq hm1,mA,aE.c,aS.c,aN.c,Action.c,aO.c,aJ.c,cx.c,aP.c,Node.c,aF.c,cy.c]<;>rfl)) (ih1 (i1+1) oZ Lp (C3++([BG])) Lr vM Ls (dn aq) h)
theorem FJ{aB:au}{r:aF}(h:sR aB=some r):Good prog 134 [D.sl (aB.map aO.c)] (D.agg [D.fr 105 4 (r.rules.map aO.c),D.fr 3 1 (r.ends.map dZ),D.fr 111 3 (r.ay.map aP.c),D.fr 118 8 (r.nodes.map Node.c),D.fr 53 2 (r.facts.map aE.c),D.int .i64 r.cK]):=by
 refine gd func134 [[some (105,4),some (3,1),some (111,3),some (118,8),some (53,2),none]] 39 fun hr Γ hΓ=>?_
 rw[sR]at h;obtain⟨y1,h2,h⟩:=aD h;refine((aU.g (yu h2)).a [.pb 3 1 3 1,.pb 3 2 111 3,.pb 3 4 53 2,.cn [2,3,14,15,16] [0,3,1,4,5,2,6]]).Wq hΓ (wh aB 0 (y1.map aO.c) ([]:List aR) ([]:List aR) ([[D.int .i64 (-1),D.int .i64 0,D.str ([]),D.sl ([]),D.str ([]),D.str ([]),D.int .i64 (-1),D.sl ([])]]) ([]:List aR) 0) (by first| (simp only[mA]<;>rfl)| (simp only[mA,aE.c,aS.c,aN.c,Action.c,aO.c,aJ.c,cx.c,aP.c,Node.c,aF.c,cy.c]<;>rfl)) (GW hΓ (fun wC yH iI Qz rY wB h=>?_) (by have:=(dS.sl (hr _ (aC (i:=0) rfl))).1;simpa using this) aB 0 0 y1 ([]:bJ) ([]:b8) ([(⟨-1,(⟨0,(⟨[],[]⟩:aE),[],[]⟩:aN), -1,[]⟩:Node)]) ([]:aQ) rfl h);cases h;exact aU.ret hΓ
def gi(aB:aT)(k1:Option Bool):aT->Nat->Option Bool
 | [],i1=>(k1)
 |bD::bn,i1=>((lR bD.var).bind fun y50=>(bif !(y50)then(some false)else((fG bD.value).bind fun y53=>(bif !(y53)then(some false)else(bif decide (((i1:Int):Int)>0)then((mC aB (IntKind.i64.wrap ((i1:Int)-1))).bind fun x57=>(bif !(Op.bytesLess x57.var bD.var)then(some false)else(gi aB k1 bn (i1+1))))else(gi aB k1 bn (i1+1)))))))
def kf(aB:aT):Option Bool:=(bif decide ((((aB.map aS.c).length:Int):Int)>6)then(some false)else(gi aB (some true) aB 0))
def IU(aB:aT)(cS:Int):St:=⟨[(0,D.sl (aB.map aS.c)),(8,D.sl (aB.map aS.c)),(9,D.int .i64 ((aB.map aS.c).length:Int)),(10,D.int .i64 cS)],[]⟩
theorem GF(hΓ:Γ.nt=41){aB:aT}{r:Bool}{k1:Option Bool}(cX:k1=some r->Ax Γ N f193 (.q [[none]] (D.bool r)) [1,1,1] ⟨[],[]⟩)(hm1:aB.length<=maxLen):∀(rest:aT) (i1:Nat),aB.drop i1=rest->gi aB k1 rest i1=some r->Ar Γ N f193 (.q [[none]] (D.bool r)) [1,1,0,1,0] (rest.length+1) (IU aB (i1:Int)):=by
 intro rest
 induction rest with
 |nil=>
  intro i1 aq h;rw[gi]at h;refine aM fun N1 bu bq=>?_
  exact((aU.ge aS.c aq).a [.hl 0 [] []]).ex hΓ bu (cX h)
 |cons bD bn ih1=>
  intro i1 aq h;rw[gi]at h;refine aM fun N1 bu bq=>?_
  obtain⟨y50,h51,h⟩:=aD h;have uY:=((((aU.lt aS.c aq).l (ax aS.c 2 (dc aq) rfl)).a [.n 22]).g (o7 h51))
  obtain⟨h52,h⟩|⟨h52,h⟩:=aL h
  ·have h:=aG h;subst h;exact((((uY.r 5 h52).T 3).a [bF,bF,bF,bF,bF,bF,bF,bF,bF]).T 3).ret hΓ
  ·obtain⟨y53,h54,h⟩:=aD h;have wX:=(((uY.r 3 h52).g (eU h54)).r 2 h52)
   obtain⟨h55,h⟩|⟨h55,h⟩:=aL h
   ·have h:=aG h;subst h;exact((((wX.r 3 h55).a [bF,bF,bF,bF,bF,bF,bF,bF,bF]).r 2 h55).T 1).ret hΓ
   ·have AG:=(wX.r 3 h55)
    obtain⟨h56,h⟩|⟨h56,h⟩:=aL h
    ·obtain⟨x57,h58,h⟩:=aD h;have D3:=((((((AG.r 4 h56).l (dV aS.c 2 h58 rfl)).r 5 h56).b h55).b h56).b h55)
     obtain⟨h59,h⟩|⟨h59,h⟩:=aL h
     ·have h:=aG h;subst h;exact(D3.b h59).ret hΓ
     ·exact((D3.b h59).a [.cn [0,8,9,10] []]).ct hΓ bq (iS aq hm1) (ih1 (i1+1) (dn aq) h)
    ·exact((((((AG.r 9 h56).b h55).b h56).b h55).F 1).a [.cn [0,8,9,10] []]).ct hΓ bq (iS aq hm1) (ih1 (i1+1) (dn aq) h)
theorem me{aB:aT}{r:Bool}(h:kf aB=some r):Good prog 193 [D.sl (aB.map aS.c)] (D.bool r):=by
 refine gd func193 [[none]] 41 fun hr Γ hΓ=>?_
 rw[kf]at h;obtain⟨h1,h⟩|⟨h1,h⟩:=aL h
 ·have h:=aG h;subst h;exact(aU.b h1).ret hΓ
 ·refine((aU.b h1).a [.cn [0,8,9,10] []]).lp hΓ (GF hΓ (fun h=>?_) (by have:=(dS.sl (hr _ (aC (i:=0) rfl))).1;simpa using this) aB 0 rfl h);have h:=aG h;subst h;exact aU.ret hΓ
def lT(aB:aT)(aV:Bytes)(k1:Option (Bytes×Bool)):aT->Nat->Option (Bytes×Bool)
 | [],i1=>(k1)
 |bD::bn,i1=>(bif (bD.var:Bytes)==aV then(some (bD.value,true))else(lT aB aV k1 bn (i1+1)))
def pu(aB:aT)(aV:Bytes):Option (Bytes×Bool):=((fG aV).bind fun y1=>(bif y1 then(some (aV,true))else((lR aV).bind fun y4=>(bif !(y4)then(some ([],false))else(lT aB aV (some ([],false)) aB 0)))))
def MP(aB:aT)(aV:Bytes)(cS:Int):St:=⟨[(1,D.str aV),(14,D.sl (aB.map aS.c)),(15,D.int .i64 ((aB.map aS.c).length:Int)),(16,D.int .i64 cS)],[]⟩
theorem KY(hΓ:Γ.nt=27){aB:aT}{aV:Bytes}{r:Bytes×Bool}{k1:Option (Bytes×Bool)}(cX:k1=some r->Ax Γ N f126 (.q [[none],[none]] (D.gb [D.str r.1,D.bool r.2])) [1,1,1,1] ⟨[],[]⟩)(hm1:aB.length<=maxLen):∀(rest:aT) (i1:Nat),aB.drop i1=rest->lT aB aV k1 rest i1=some r->Ar Γ N f126 (.q [[none],[none]] (D.gb [D.str r.1,D.bool r.2])) [1,1,1,0,1,0] (rest.length+1) (MP aB aV (i1:Int)):=by
 intro rest
 induction rest with
 |nil=>
  intro i1 aq h;rw[lT]at h;refine aM fun N1 bu bq=>?_
  exact((aU.ge aS.c aq).a [.hl 0 [] []]).ex hΓ bu (cX h)
 |cons bD bn ih1=>
  intro i1 aq h;rw[lT]at h;refine aM fun N1 bu bq=>?_
  have dJ:=((aU.lt aS.c aq).l (ax aS.c 2 (dc aq) rfl))
  obtain⟨h19,h⟩|⟨h19,h⟩:=aL h
  ·cases h;exact(dJ.b h19).ret hΓ
  ·exact((dJ.b h19).a [.cn [1,14,15,16] []]).ct hΓ bq (iS aq hm1) (ih1 (i1+1) (dn aq) h)
theorem wg{aB:aT}{aV:Bytes}{r:Bytes×Bool}(h:pu aB aV=some r):Good prog 126 [D.sl (aB.map aS.c),D.str aV] (D.gb [D.str r.1,D.bool r.2]):=by
 refine gd func126 [[none],[none]] 27 fun hr Γ hΓ=>?_
 rw[pu]at h;obtain⟨y1,h2,h⟩:=aD h;obtain⟨h3,h⟩|⟨h3,h⟩:=aL h
 ·cases h;exact((aU.g (eU h2)).b h3).ret hΓ
 ·obtain⟨y4,h5,h⟩:=aD h;have kT:=(((aU.g (eU h2)).b h3).g (o7 h5))
  obtain⟨h6,h⟩|⟨h6,h⟩:=aL h
  ·cases h;exact(kT.b h6).ret hΓ
  ·refine((kT.b h6).a [.cn [1,14,15,16] []]).lp hΓ (KY hΓ (fun h=>?_) (by have:=(dS.sl (hr _ (aC (i:=0) rfl))).1;simpa using this) aB 0 rfl h);cases h;exact aU.ret hΓ
end Go.Cx
